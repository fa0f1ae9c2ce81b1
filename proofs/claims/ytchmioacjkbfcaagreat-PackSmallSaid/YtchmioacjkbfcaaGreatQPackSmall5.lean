/- Texts that the proof of PackSmall rests on, part 5. -/
import Derived.Test.YtchmioacjkbfcaaGreatQPackSmall4
namespace Go.Proofs.YtchmioacjkbfcaaGreat.AI
open Go
set_option linter.unusedVariables false
set_option linter.unusedSimpArgs false
set_option maxRecDepth 100000
set_option maxHeartbeats 0
theorem nz_at (K : IntKind) (l : List Nat) (i : Nat) (h : i < l.length) : (LI K (nz l))[i]? = some (.sc (.int K (l.getD i 0 : Nat))) := by
 unfold LI nz
 rw [List.getElem?_map, List.getElem?_map, List.getD_eq_getElem?_getD, List.getElem?_eq_getElem h]
 rfl
section
variable (l : List Nat) (k : Nat) (hl : l.length ≤ 1000000) (h64 : ∀ x ∈ l, x < 18446744073709551616) (hr : zw l)
include hl h64 hr
theorem run_gap (i : Nat) (hi : i < l.length) (hp : Hp) : run cxX 84 [S k 1 (LI .u64 (nz l)), .sc (.int .i64 (i : Int))] hp = some (.sc (.int .u64 ((gaps l).getD i 0 : Nat)), hp) := by
 have g := gaps_get l i hi
 have a0 := nz_at .u64 l 0 (by omega)
 have ai := nz_at .u64 l i hi
 rw [List.getD_eq_getElem?_getD, g, Option.getD_some, E84]
 by_cases h0 : i = 0
 ·subst h0
  rw [if_pos rfl]
  generalize l.getD 0 0 = v at *
  simp [a0, qc]
 ·rw [if_neg h0]
  have aj := nz_at .u64 l (i - 1) (by omega)
  have hlt := rising_get l hr (i - 1) (by omega)
  have e : i - 1 + 1 = i := by omega
  rw [e] at hlt
  have hv : l.getD i 0 < 18446744073709551616 := by
   rw [List.getD_eq_getElem?_getD, List.getElem?_eq_getElem hi]
   exact h64 _ (List.getElem_mem _)
  have w1 : IntKind.i64.wrap ((i : Int) - 1) = ((i - 1 : Nat) : Int) := by rw [qg] <;> omega
  have h0' : ¬((i : Int) = 0) := by omega
  have g0 : (0 : Int) ≤ ((i - 1 : Nat) : Int) := by omega
  have g1 : (0 : Int) ≤ (i : Int) := by omega
  generalize l.getD i 0 = u at *
  generalize l.getD (i - 1) 0 = v at *
  have w2 : IntKind.u64.wrap ((u : Int) - (v : Int)) = (u : Int) - (v : Int) := qt (by omega) (by omega)
  have w3 : IntKind.u64.wrap ((u : Int) - (v : Int) - 1) = ((u - v - 1 : Nat) : Int) := by rw [qt] <;> omega
  have aj' : (LI .u64 (nz l))[(((i - 1 : Nat) : Int)).toNat]? = some (.sc (.int .u64 (v : Int))) := by rw [Int.toNat_natCast]; exact aj
  generalize ((i - 1 : Nat) : Int) = j at *
  generalize ((u - v - 1 : Nat) : Int) = z at *
  simp [h0, ai, aj', qc, w1, g0, w2, w3]
theorem cost_loop (kk : Nat) (hkk : kk ≤ 63) (hp : Hp) : ∀ (r : List Nat) (i n : Nat), (gaps l).drop i = r → n + r.length * 4160 < 4611686018427387904 →
  B136_3 (S k 1 (LI .u64 (nz l))) (.int .i64 (kk : Int)) (.int .i64 (n : Int)) (.int .i64 (l.length : Int)) (.int .i64 (i : Int)) hp =
   some (.tup [.sc (.int .i64 ((yI kk r n).1 : Nat)), .sc (.bool (yI kk r n).2)], hp) := by
 intro r
 induction r with
 | nil =>
  intro i n h hn
  have h1 := qw h
  rw [gaps_len] at h1
  have hlt : ¬((i : Int) < (l.length : Int)) := by omega
  rw [B136_3_eq]
  simp [hlt, yI]
 | cons g r ih =>
  intro i n h hn
  obtain ⟨e1, e2, hi, e3⟩ := qr h
  have hi' : i < l.length := by have := hi; simp at this; omega
  have hlt : (i : Int) < (l.length : Int) := by omega
  have gp := run_gap l (rk k) hl h64 hr i hi' hp0
  have eg : (gaps l).getD i 0 = g := by rw [List.getD_eq_getElem?_getD, e1]; rfl
  rw [eg] at gp
  have sh := fun o o' => shr_nat g kk (by omega) o o' .i64
  rw [B136_3_eq]
  unfold yI
  generalize hq : g / 2 ^ kk = q at *
  by_cases hc : 4096 < q
  ·have hg : (4096 : Int) < (q : Int) := by omega
   simp [hlt, gp, sh, hg, hc]
  ·have hg : ¬((4096 : Int) < (q : Int)) := by omega
   have w1 : IntKind.i64.wrap (q : Int) = (q : Int) := qg (by omega) (by omega)
   have w2 : IntKind.i64.wrap ((q : Int) + 1) = (q : Int) + 1 := qg (by omega) (by omega)
   have w3 : IntKind.i64.wrap ((q : Int) + 1 + (kk : Int)) = (q : Int) + 1 + (kk : Int) := qg (by omega) (by omega)
   simp only [List.length_cons] at hn
   have w4 : IntKind.i64.wrap ((n : Int) + ((q : Int) + 1 + (kk : Int))) = ((n + (q + 1 + kk) : Nat) : Int) := by rw [qg] <;> omega
   have w5 : IntKind.i64.wrap ((i : Int) + 1) = ((i + 1 : Nat) : Int) := by rw [qg] <;> omega
   have hi2 := ih (i + 1) (n + (q + 1 + kk)) e2 (by omega)
   rw [if_neg hc]
   generalize ((n + (q + 1 + kk) : Nat) : Int) = N at *
   generalize ((i + 1 : Nat) : Int) = I at *
   simp [hlt, gp, sh, hg, cv_76_3, w1, w2, w3, w4, w5, hi2]
theorem run_cost (kk : Nat) (hkk : kk ≤ 63) (hp : Hp) : run cxX 136 [S k 1 (LI .u64 (nz l)), .sc (.int .i64 (kk : Int))] hp =
  some (.tup [.sc (.int .i64 ((yI kk (gaps l) 0).1 : Nat)), .sc (.bool (yI kk (gaps l) 0).2)], hp) := by
 have h := cost_loop l k hl h64 hr kk hkk hp (gaps l) 0 0 rfl (by simp; omega)
 rw [E136]
 simp at h
 simp [h]
theorem param_loop (hp : Hp) : ∀ (f j b : Nat) (m : Int), j + f = 64 → b ≤ 63 →
  B83_3 (S k 1 (LI .u64 (nz l))) (.int .i64 (b : Int)) (.int .i64 m) (.int .i64 (j : Int)) hp = some (.sc (.int .i64 (parG (gaps l) f j b m : Nat)), hp) := by
 intro f
 induction f with
 | zero =>
  intro j b m hj hb
  have hlt : ¬((j : Int) < 64) := by omega
  rw [B83_3_eq]
  simp [hlt, parG]
 | succ f ih =>
  intro j b m hj hb
  have hlt : (j : Int) < 64 := by omega
  have c := run_cost l (rk k) hl h64 hr j (by omega) hp0
  have w5 : IntKind.i64.wrap ((j : Int) + 1) = ((j + 1 : Nat) : Int) := by rw [qg] <;> omega
  have i1 := ih (j + 1) j (yI j (gaps l) 0).1 (by omega) (by omega)
  have i2 := ih (j + 1) b m (by omega) hb
  have c8 : ∀ v3 v4, B83_8 (S k 1 (LI .u64 (nz l))) v3 v4 (.int .i64 (j : Int)) hp = B83_3 (S k 1 (LI .u64 (nz l))) v3 v4 (.int .i64 ((j + 1 : Nat) : Int)) hp := by
   intro v3 v4
   rw [B83_8_eq]
   generalize ((j + 1 : Nat) : Int) = J at *
   simp [w5]
  rw [B83_3_eq]
  unfold parG
  simp only [Int.natCast_add, Int.natCast_one] at i1 i2 c8
  generalize yI j (gaps l) 0 = C at *
  obtain ⟨c1, c2⟩ := C
  cases c2
  ·simp [hlt, c, c8, i2]
  ·by_cases h1 : m < 0
   ·simp [hlt, c, h1, B83_7_eq, c8, i1]
   ·by_cases h2 : (c1 : Int) < m
    ·simp [hlt, c, h1, h2, B83_7_eq, c8, i1]
    ·simp [hlt, c, h1, h2, c8, i2]
theorem run_param (hp : Hp) : run cxX 83 [S k 1 (LI .u64 (nz l))] hp = some (.sc (.int .i64 (parR (gaps l) : Nat)), hp) := by
 have h := param_loop l k hl h64 hr hp 64 0 63 (-1) rfl (by omega)
 rw [E83]
 simp at h
 simp [h, parR]
theorem rput_loop (kk w : Nat) (hkk : kk ≤ 63) (hg : ∀ g ∈ gaps l, g / 2 ^ kk ≤ 4096) : ∀ (r : List Nat) (i nb : Nat) (bs : List Bool) (hp : Hp), (gaps l).drop i = r → i + r.length = l.length → bs.length + r.length * 4160 < 7000000 → BW hp w nb bs →
  ∃ hp' nb', B34_7 (S k 1 (LI .u64 (nz l))) (.int .i64 (kk : Int)) (.ptr w 0 0) (.int .i64 (l.length : Int)) (.int .i64 (i : Int)) hp =
   B34_7 (S k 1 (LI .u64 (nz l))) (.int .i64 (kk : Int)) (.ptr w 0 0) (.int .i64 (l.length : Int)) (.int .i64 (l.length : Int)) hp' ∧ BS hp w nb hp' nb' (bs ++ rbits kk r) := by
 intro r
 induction r with
 | nil =>
  intro i nb bs hp h hil hl2 hw
  have e : i = l.length := by simpa using hil
  rw [e]
  exact ⟨hp, nb, rfl, by simpa [rbits] using hw, Fm.refl _ _, .inl rfl⟩
 | cons g r ih =>
  intro i nb bs hp h hil hl2 hw
  obtain ⟨e1, e2, hi, e3⟩ := qr h
  simp only [List.length_cons] at hl2 hil
  have hlt : (i : Int) < (l.length : Int) := by omega
  have gp := run_gap l (rk k) hl h64 hr i (by omega) hp0
  have eg : (gaps l).getD i 0 = g := by rw [List.getD_eq_getElem?_getD, e1]; rfl
  rw [eg] at gp
  have hmem : g ∈ gaps l := by rw [← e3]; exact List.getElem_mem _
  have hq := hg g hmem
  have hg64 := gaps_lt h64 g hmem
  have sh := fun o o' => shr_nat g kk (by omega) o o' .i64
  have w1 : IntKind.i64.wrap ((g / 2 ^ kk : Nat) : Int) = ((g / 2 ^ kk : Nat) : Int) := (fun (q : Nat) (h : q ≤ 4096) => qg (z := (q : Int)) (by omega) (by omega)) _ hq
  have w5 : IntKind.i64.wrap ((i : Int) + 1) = ((i + 1 : Nat) : Int) := by rw [qg] <;> omega
  obtain ⟨hp1, nb1, a1, a2⟩ := run_unary w nb (g / 2 ^ kk) bs hp (by omega) hw
  obtain ⟨hp2, nb2, b1, b2⟩ := run_bput w nb1 g kk (bs ++ una (g / 2 ^ kk)) hp1 hg64 (by omega) (by simp; omega) a2.1
  obtain ⟨hp3, nb3, c1, c2⟩ := ih (i + 1) nb2 (bs ++ una (g / 2 ^ kk) ++ nbs g kk) hp2 e2 (by omega) (by simp; omega) b2.1
  refine ⟨hp3, nb3, ?_, ?_⟩
  ·rw [← c1, B34_7_eq]
   generalize hqq : ((g / 2 ^ kk : Nat) : Int) = q at *
   generalize ((i + 1 : Nat) : Int) = I at *
   simp [hlt, gp, sh, hqq, cv_76_3, w1, a1, b1, w5]
  ·have e : bs ++ rbits kk (g :: r) = bs ++ una (g / 2 ^ kk) ++ nbs g kk ++ rbits kk r := by simp [rbits]
   rw [e]
   exact (a2.trans hw.1 b2).trans hw.1 c2
end
theorem ord_rising : ∀ (l : List Nat), ordL (nz l) = 0 ↔ zw l := by
 intro l
 induction l with
 | nil => exact ⟨fun _ => trivial, fun _ => rfl⟩
 | cons x r ih =>
  cases r with
  | nil => exact ⟨fun _ => trivial, fun _ => rfl⟩
  | cons y r =>
   have e : ordL (nz (x :: y :: r)) = if ((y : Nat) : Int) ≤ ((x : Nat) : Int) then 8 else ordL (nz (y :: r)) := rfl
   rw [e]
   by_cases h : y ≤ x
   ·rw [if_pos (by omega)]
    exact ⟨fun h => absurd h (by decide), fun h' => by have := h'.1; omega⟩
   ·rw [if_neg (by omega)]
    constructor
    ·intro h'; exact ⟨by omega, ih.mp h'⟩
    ·intro h'; exact ih.mpr h'.2
theorem run_rput (l : List Nat) (k : Nat) (hl : l.length ≤ 1024) (h64 : ∀ x ∈ l, x < 18446744073709551616) (hr : zw l) (hp : Hp) :
    ∃ t hp', run cxX 34 [S k 1 (LI .u64 (nz l))] hp = some (.tup [S t 1 (LI .u8 (ricY l)), .sc (.int .i64 0)], hp') ∧ Fm [] hp hp' := by
  have rc := run_rice (nz l) (rk k) (by simp; omega) hp0
  rw [(ord_rising l).mpr hr] at rc
  have pr := run_param l (rk k) (by omega) h64 hr hp0
  obtain ⟨k63, hq⟩ := parR_ok (gaps_lt h64)
  have hbl := rbits_len (parR (gaps l)) k63 (gaps l) hq
  rw [gaps_len] at hbl
  have hlY : (pk (ricB (gaps l))).length < 700000 := by rw [jL]; unfold ricB; omega
  obtain ⟨hp1, nb1, a1, a2⟩ := rput_loop l k (by omega) h64 hr (parR (gaps l)) hp.next k63 hq (gaps l) 0 hp.next [] (hp.new [S 2 1 [], .sc (.int .i64 0)]) rfl (by simp) (by simp; omega) (BW.new hp)
  obtain ⟨a2, a3, a4⟩ := a2
  simp only [List.nil_append] at a2
  have hn1 : hp.next < hp1.next := by have := a3.1; simp at this; omega
  -- the bytes
  have wN : ∀ c, c < hp.next → hp1.get c = hp.get c := by
    intro c hc
    rw [a3.2 c (by simp; omega) (by simp; omega)]
    exact (Fm.new [] hp _).2 c hc (by simp)
  have hne : hp1.next ≠ hp.next := by omega
  have u1 := qQ hp1.next l.length [] (by omega) (by have := qu (n := l.length) (by omega); simp; omega) (hp1.new (Wc [])) (qB _ _)
  rw [zF, List.nil_append] at u1
  have u2 := zb hp1.next (uv l.length) (parR (gaps l) : Nat) (by have := qu (n := l.length) (by omega); omega) (hp1.new (Wc (uv l.length))) (qB _ _)
  rw [zF] at u2
  have BW2 : ∀ x, BW (hp1.new x) hp.next nb1 (ricB (gaps l)) := fun x => a2.fr (Fm.new [] hp1 x) (by simp) (by simp)
  obtain ⟨t1, hp2, v1, v2⟩ := xa hp.next nb1 (ricB (gaps l)) (hp1.new (Wc (uv l.length ++ [(parR (gaps l) : Int)]))) (by unfold ricB; omega) (BW2 _)
  have r2 : hp2.rd hp1.next 0 = some (Wc (uv l.length ++ [(parR (gaps l) : Int)])) := by rw [v2.rd (by simp) (by simp), qB]
  have hL := qu (n := l.length) (by omega)
  have hL2 := qu (n := (pk (ricB (gaps l))).length) (by omega)
  have u3 := qQ hp1.next (pk (ricB (gaps l))).length (uv l.length ++ [(parR (gaps l) : Int)]) (by omega) (by simp only [List.length_append, List.length_singleton]; omega) hp2 r2
  have BW3 := ((BW2 _).fr v2 (by simp) (by simp)).fr (Fm.put (X := [hp1.next]) hp2 hp1.next (Wc (uv l.length ++ [(parR (gaps l) : Int)] ++ uv (pk (ricB (gaps l))).length)) (by simp)) (by simp; omega) (by
    simp
    have := a2.2.2.1
    by_cases hb : ricB (gaps l) = []
    · have := a2.2.1 hb; omega
    · have := (a2.2.2.1 hb).1; omega)
  obtain ⟨t2, hp3, x1, x2⟩ := xa hp.next nb1 (ricB (gaps l)) _ (by unfold ricB; omega) BW3
  have r3 : hp3.rd hp1.next 0 = some (Wc (uv l.length ++ [(parR (gaps l) : Int)] ++ uv (pk (ricB (gaps l))).length)) := by
    rw [x2.rd (by have := v2.1; simp at this ⊢; omega) (by simp), qp]
  have u4 := yO hp1.next (uv l.length ++ [(parR (gaps l) : Int)] ++ uv (pk (ricB (gaps l))).length) (pk (ricB (gaps l))) (rk t2) (by simp only [List.length_append, List.length_singleton]; omega) hp3 r3
  have u5 := run_wbytes hp1.next (ricY l) (by unfold ricY; simp only [List.length_append, List.length_singleton]; omega) (hp3.put hp1.next 0 (Wc (ricY l))) (qp _ _ _)
  refine ⟨1, hp3.put hp1.next 0 (Wc (ricY l)), ?_, ?_⟩
  · have w3 : IntKind.u8.wrap ((parR (gaps l) : Nat) : Int) = ((parR (gaps l) : Nat) : Int) := zt (by omega) (by omega)
    have w4 : IntKind.u64.wrap ((l.length : Nat) : Int) = ((l.length : Nat) : Int) := qt (by omega) (by omega)
    have w6 : IntKind.u64.wrap (((pk (ricB (gaps l))).length : Nat) : Int) = (((pk (ricB (gaps l))).length : Nat) : Int) := qt (by omega) (by omega)
    have w7 : IntKind.u64.wrap ((((pk (ricB (gaps l))).length : Nat) : Int)) = (((pk (ricB (gaps l))).length : Nat) : Int) := w6
    have e0 : ¬((l.length : Int) < (l.length : Int)) := by omega
    have ey : uv l.length ++ [((parR (gaps l) : Nat) : Int)] ++ uv (pk (ricB (gaps l))).length ++ pk (ricB (gaps l)) = ricY l := rfl
    rw [ey] at u4
    rw [E34]
    simp only [Int.natCast_zero] at a1
    generalize parR (gaps l) = kk at *
    generalize pk (ricB (gaps l)) = pb at *
    generalize ricY l = Y at *
    generalize uv l.length = Z at *
    generalize uv pb.length = Z2 at *
    generalize Z ++ [(kk : Int)] ++ Z2 = Q at *
    generalize Z ++ [(kk : Int)] = Q1 at *
    have b7 : B34_7 (S k 1 (LI .u64 (nz l))) (.int .i64 (kk : Int)) (.ptr hp.next 0 0) (.int .i64 (l.length : Int)) (.int .i64 (l.length : Int)) hp1 = some (.tup [S 1 1 (LI .u8 Y), .sc (.int .i64 0)], hp3.put hp1.next 0 (Wc Y)) := by
      rw [B34_7_eq]
      have wc0 : Wc [] = [S 2 1 []] := rfl
      rw [wc0] at u1
      simp [w3, w4, w6, u1, u2, v1, u3, x1, u4, u5]
    rw [← a1] at b7
    simp [rc, pr, b7]
  · refine ⟨by have := v2.1; have := x2.1; simp at *; omega, fun c hc _ => ?_⟩
    have h1 : c ≠ hp1.next := by omega
    have hv := v2.1
    have hx := x2.1
    simp at hv hx
    have e1 : (hp3.put hp1.next 0 (Wc (ricY l))).get c = hp3.get c := by simp [Hp.put, h1]
    rw [e1, x2.2 c (by simp; omega) (by simp)]
    have e2 : ∀ x, (hp2.put hp1.next 0 x).get c = hp2.get c := by intro x; simp [Hp.put, h1]
    rw [e2, v2.2 c (by simp; omega) (by simp)]
    have e3 : ∀ x, (hp1.new x).get c = hp1.get c := by intro x; simp [Hp.new, h1]
    rw [e3, wN c hc]
theorem jN (K : IntKind) (x k : Nat) (hk : k ≤ K.bits) (t : TypeId) (o o' : Operand) (K' : IntKind) : binV Tryz.prog .shr t o o' (.int K (x : Int)) (.int K' (k : Int)) = some (.int K ((x / 2 ^ k : Nat) : Int)) := by
 rw [zK _ _ _ _ _ _ _ _ (by omega), Int.toNat_natCast, Nat.min_eq_left hk, Int.fdiv_eq_ediv_of_nonneg _ (Int.le_of_lt (Int.pow_pos (by omega)))]
 simp
theorem lower_loop (n last : Nat) (hn : n ≤ 1000000) (hl : last < 4294967296) (hp : Hp) : ∀ (f k : Nat), k + f = 33 → k ≤ 32 → B91_2 (.int .i64 (n : Int)) (.int .u32 (last : Int)) (.int .i64 (k : Int)) hp = some (.sc (.int .i64 (lowG n last f k : Nat)), hp) := by
 intro f
 induction f with
 | zero => intro k h h2; omega
 | succ f ih =>
  intro k h h2
  have w1 : IntKind.u64.wrap (last : Int) = (last : Int) := qt (by omega) (by omega)
  have w2 : IntKind.i64.wrap ((k : Int) + 1) = ((k + 1 : Nat) : Int) := by rw [qg] <;> omega
  have w3 : IntKind.u64.wrap (n : Int) = (n : Int) := qt (by omega) (by omega)
  have sh := fun t o o' => jN .u64 last (k + 1) (by show k + 1 ≤ 64; omega) t o o' .i64
  have b4 : ∀ v, B91_4 v hp = some (.sc v, hp) := fun v => by rw [B91_4_eq]
  rw [B91_2_eq]
  unfold lowG
  by_cases h0 : 0 < n
  ·have h0' : (n : Int) > 0 := by omega
   by_cases h1 : n ≤ last / 2 ^ (k + 1)
   ·by_cases hk : k = 32
    ·subst hk
     have : last / 2 ^ 33 = 0 := Nat.div_eq_of_lt (Nat.lt_of_lt_of_le hl (by decide))
     have e : (32 : Nat) + 1 = 33 := rfl
     rw [e, this] at h1
     omega
    ·have hi := ih (k + 1) (by omega) (by omega)
     have h1' : ((last / 2 ^ (k + 1) : Nat) : Int) ≥ (n : Int) := by omega
     rw [if_pos ⟨h0, h1⟩]
     generalize ((last / 2 ^ (k + 1) : Nat) : Int) = q at *
     generalize ((k + 1 : Nat) : Int) = k1 at *
     simp [h0, ze, w1, w2, sh, yH, w3, h1', B91_3_eq, hi]
   ·have h1' : ¬(((last / 2 ^ (k + 1) : Nat) : Int) ≥ (n : Int)) := by omega
    rw [if_neg (fun c => h1 c.2)]
    generalize ((last / 2 ^ (k + 1) : Nat) : Int) = q at *
    generalize ((k + 1 : Nat) : Int) = k1 at *
    have h1'' : ¬((n : Int) ≤ q) := h1'
    simp [h0, ze, w1, w2, sh, yH, w3, h1'', b4]
  ·have h0' : ¬((n : Int) > 0) := by omega
   rw [if_neg (fun c => h0 c.1)]
   simp [h0, b4]
theorem run_lower (n last : Nat) (hn : n ≤ 1000000) (hl : last < 4294967296) (hp : Hp) : run cxX 91 [.sc (.int .i64 (n : Int)), .sc (.int .u32 (last : Int))] hp = some (.sc (.int .i64 (lowF n last : Nat)), hp) := by
 have h := lower_loop n last hn hl hp 33 0 rfl (by omega)
 rw [E91]
 simp at h
 simp [h, lowF]
theorem nofall_get : ∀ (l : List Nat), jk l → ∀ i, i + 1 < l.length → l.getD i 0 ≤ l.getD (i + 1) 0 := by
 intro l
 induction l with
 | nil => intro _ i h; simp at h
 | cons x r ih =>
  intro hr i h
  cases r with
  | nil => simp at h
  | cons y r =>
   cases i with
   | zero => exact hr.1
   | succ i => exact ih hr.2 i (by simpa using h)
theorem BW.lt {hp : Hp} {w nb : Nat} {bs : List Bool} (h : BW hp w nb bs) : nb < hp.next := by
 by_cases hb : bs = []
 ·rw [h.2.1 hb]; exact h.1
 ·exact (h.2.2.1 hb).1
def W2 (h0 : Nat) (hp : Hp) (w1 n1 : Nat) (b1 : List Bool) (w2 n2 : Nat) (b2 : List Bool) : Prop :=
 BW hp w1 n1 b1 ∧ BW hp w2 n2 b2 ∧ w1 ≠ w2 ∧ n1 ≠ w2 ∧ n1 ≠ n2 ∧ w1 ≠ n2 ∧ h0 ≤ w1 ∧ h0 ≤ w2 ∧ h0 ≤ n1 ∧ h0 ≤ n2
theorem W2.one {h0 : Nat} {hp hp' : Hp} {w1 n1 n1' w2 n2 : Nat} {b1 b2 b1' : List Bool} (h : W2 h0 hp w1 n1 b1 w2 n2 b2) (s : BS hp w1 n1 hp' n1' b1') : W2 h0 hp' w1 n1' b1' w2 n2 b2 ∧ ∀ c, c < h0 → hp'.get c = hp.get c := by
 obtain ⟨a1, a2, d1, d2, d3, d4, e1, e2, e3, e4⟩ := h
 obtain ⟨s1, s2, s3⟩ := s
 have l1 := a1.lt
 have l2 := a2.lt
 have l3 := a2.1
 have l4 := a1.1
 refine ⟨⟨s1, a2.fr s2 (by simp; omega) (by simp; omega), d1, by omega, by omega, d4, e1, e2, by omega, e4⟩, fun c hc => s2.2 c (by omega) (by simp; omega)⟩
theorem W2.two {h0 : Nat} {hp hp' : Hp} {w1 n1 n2' w2 n2 : Nat} {b1 b2 b2' : List Bool} (h : W2 h0 hp w1 n1 b1 w2 n2 b2) (s : BS hp w2 n2 hp' n2' b2') : W2 h0 hp' w1 n1 b1 w2 n2' b2' ∧ ∀ c, c < h0 → hp'.get c = hp.get c := by
 obtain ⟨a1, a2, d1, d2, d3, d4, e1, e2, e3, e4⟩ := h
 obtain ⟨s1, s2, s3⟩ := s
 have l1 := a1.lt
 have l2 := a2.lt
 have l3 := a2.1
 have l4 := a1.1
 refine ⟨⟨a1.fr s2 (by simp; omega) (by simp; omega), s1, d1, d2, by omega, by omega, e1, e2, e3, by omega⟩, fun c hc => s2.2 c (by omega) (by simp; omega)⟩
theorem getD_nz {l : List Nat} (h32 : ∀ x ∈ l, x < 4294967296) (i : Nat) (hi : i < l.length) : l.getD i 0 < 4294967296 := by
 rw [List.getD_eq_getElem?_getD, List.getElem?_eq_getElem hi]
 exact h32 _ (List.getElem_mem _)
section
variable (l : List Nat) (k k' : Nat) (hl : l.length ≤ 4096) (h32 : ∀ x ∈ l, x < 4294967296) (hr : jk l)
include hl h32 hr
theorem fof_loop (kk w1 w2 h0 : Nat) (hkk : kk ≤ 32) (hq : qT l / 2 ^ kk < 2 * 4096) (c0 c1 : AV) (cs : List AV) (b2 : List AV) : ∀ (r : List Nat) (i p n1 n2 : Nat) (bs1 bs2 : List Bool) (hp : Hp), l.drop i = r → i + r.length = l.length → jk (p :: r) →
    (i = 0 → p = 0) → bs1.length + r.length * 32 < 1000000 → bs2.length + (zD kk (p / 2 ^ kk) r).length < 1000000 → W2 h0 hp w1 n1 bs1 w2 n2 bs2 →
    ∃ hp' n1' n2' v, B38_11 (S k 1 (LI .u32 (nz l))) (.ptr w1 0 0) (.ptr w2 0 0) (.int .u32 ((p / 2 ^ kk : Nat) : Int)) (S k' 1 (LI .u32 (nz l))) (.int .i64 (l.length : Int)) (.int .i64 (i : Int)) b2 (c0 :: c1 :: .sc (.int .i64 (kk : Int)) :: cs) hp =
      B38_11 (S k 1 (LI .u32 (nz l))) (.ptr w1 0 0) (.ptr w2 0 0) v (S k' 1 (LI .u32 (nz l))) (.int .i64 (l.length : Int)) (.int .i64 (l.length : Int)) b2 (c0 :: c1 :: .sc (.int .i64 (kk : Int)) :: cs) hp' ∧
      W2 h0 hp' w1 n1' (bs1 ++ jE kk r) w2 n2' (bs2 ++ zD kk (p / 2 ^ kk) r) ∧ (hp.next ≤ hp'.next ∧ ∀ c, c < h0 → hp'.get c = hp.get c) := by
  intro r
  induction r with
  | nil =>
    intro i p n1 n2 bs1 bs2 hp h hil hpr hi0 hb1 hb2 hw
    have e : i = l.length := by simpa using hil
    rw [e]
    exact ⟨hp, n1, n2, _, rfl, by simpa [jE, zD] using hw, Nat.le_refl _, fun _ _ => rfl⟩
  | cons x r ih =>
    intro i p n1 n2 bs1 bs2 hp h hil hpr hi0 hb1 hb2 hw
    obtain ⟨e1, e2, hi, e3⟩ := qr h
    simp only [List.length_cons] at hb1 hil
    have hlt : (i : Int) < (l.length : Int) := by omega
    have ai := nz_at .u32 l i hi
    have ex : l.getD i 0 = x := by rw [List.getD_eq_getElem?_getD, e1]; rfl
    have hx : x < 4294967296 := by rw [← ex]; exact getD_nz h32 i hi
    rw [ex] at ai
    have hd : p / 2 ^ kk ≤ x / 2 ^ kk := Nat.div_le_div_right hpr.1
    have hxq : x / 2 ^ kk ≤ x := Nat.div_le_self _ _
    have sh := fun t o o' => jN .u32 x kk (by show kk ≤ 32; omega) t o o' .i64
    have hh : (zD kk (p / 2 ^ kk) (x :: r)).length = (x / 2 ^ kk - p / 2 ^ kk) + 1 + (zD kk (x / 2 ^ kk) r).length := by simp [zD]
    rw [hh] at hb2
    have w1' : IntKind.u64.wrap (x : Int) = (x : Int) := qt (by omega) (by omega)
    have w2' : IntKind.u32.wrap (((x / 2 ^ kk : Nat) : Int) - ((p / 2 ^ kk : Nat) : Int)) = ((x / 2 ^ kk - p / 2 ^ kk : Nat) : Int) := by rw [zi] <;> omega
    have w3' : IntKind.i64.wrap ((x / 2 ^ kk - p / 2 ^ kk : Nat) : Int) = ((x / 2 ^ kk - p / 2 ^ kk : Nat) : Int) := qg (by omega) (by omega)
    have w5 : IntKind.i64.wrap ((i : Int) + 1) = ((i + 1 : Nat) : Int) := by rw [qg] <;> omega
    obtain ⟨hp1, m1, a1, a2⟩ := run_bput w1 n1 x kk bs1 hp (by omega) (by omega) (by omega) hw.1
    obtain ⟨hw1, hg1⟩ := hw.one a2
    obtain ⟨hp2, m2, b1, b3⟩ := run_unary w2 n2 (x / 2 ^ kk - p / 2 ^ kk) bs2 hp1 (by omega) hw1.2.1
    obtain ⟨hw2, hg2⟩ := hw1.two b3
    obtain ⟨hp3, m3, m4, v, r1, c2, c3⟩ := ih (i + 1) x m1 m2 (bs1 ++ nbs x kk) (bs2 ++ una (x / 2 ^ kk - p / 2 ^ kk)) hp2 e2 (by omega) hpr.2 (by omega) (by simp; omega) (by simp; omega) hw2
    have f1 := a2.2.1.1
    have f2 := b3.2.1.1
    refine ⟨hp3, m3, m4, v, ?_, ?_, by omega, fun c hc => by rw [c3.2 c hc, hg2 c hc, hg1 c hc]⟩
    · have b15 : B38_15 (S k 1 (LI .u32 (nz l))) (.ptr w1 0 0) (.ptr w2 0 0) (.int .u32 ((p / 2 ^ kk : Nat) : Int)) (.int .u32 (x : Int)) (S k' 1 (LI .u32 (nz l))) (.int .i64 (l.length : Int)) (.int .i64 (i : Int)) b2 (c0 :: c1 :: .sc (.int .i64 (kk : Int)) :: cs) hp =
          B38_11 (S k 1 (LI .u32 (nz l))) (.ptr w1 0 0) (.ptr w2 0 0) v (S k' 1 (LI .u32 (nz l))) (.int .i64 (l.length : Int)) (.int .i64 (l.length : Int)) b2 (c0 :: c1 :: .sc (.int .i64 (kk : Int)) :: cs) hp3 := by
        rw [← r1, B38_15_eq]
        generalize ((x / 2 ^ kk - p / 2 ^ kk : Nat) : Int) = d at *
        generalize ((i + 1 : Nat) : Int) = I at *
        generalize ((p / 2 ^ kk : Nat) : Int) = P at *
        generalize ((x / 2 ^ kk : Nat) : Int) = X at *
        have gs : ∀ (a b : AV) (v : Value) (c : List AV), qc (a :: b :: .sc v :: c) 2 = some v := fun _ _ _ _ => rfl
        simp [gs, ze, w1', a1, sh, w2', cv_30_3, w3', b1, w5]
      rw [B38_11_eq, ← b15]
      have g1 : (0 : Int) ≤ (i : Int) := by omega
      have gs0 : ∀ (v : Value), qc [.sc v] 0 = some v := fun _ => rfl
      by_cases hi1 : i = 0
      · have hi2 : (0 < i) = False := by simp [hi1]
        have hi4 : (i < l.length) = True := by simp [hi]
        clear hi1
        generalize ((p / 2 ^ kk : Nat) : Int) = P at *
        have en : ∀ h, (nz l)[i]'h = (x : Int) := fun h => by simp [nz, e3]
        simp [hi4, ai, gs0, hi2, en]
      · have aj := nz_at .u32 l (i - 1) (by omega)
        have hle := nofall_get l hr (i - 1) (by omega)
        have e : i - 1 + 1 = i := by omega
        rw [e, ex] at hle
        have w9 : IntKind.i64.wrap ((i : Int) - 1) = ((i - 1 : Nat) : Int) := by rw [qg] <;> omega
        have hi2 : 0 < i := by omega
        have g0 : (0 : Int) ≤ ((i - 1 : Nat) : Int) := by omega
        generalize l.getD (i - 1) 0 = y at *
        have hle' : ¬((x : Int) < (y : Int)) := by omega
        have aj' : (LI .u32 (nz l))[(((i - 1 : Nat) : Int)).toNat]? = some (.sc (.int .u32 (y : Int))) := by rw [Int.toNat_natCast]; exact aj
        generalize ((i - 1 : Nat) : Int) = j at *
        generalize ((p / 2 ^ kk : Nat) : Int) = P at *
        simp [hlt, ai, gs0, hi2, w9, aj', g0, hle']
    · have q1 : bs1 ++ jE kk (x :: r) = bs1 ++ nbs x kk ++ jE kk r := by simp [jE]
      have q2 : bs2 ++ zD kk (p / 2 ^ kk) (x :: r) = bs2 ++ una (x / 2 ^ kk - p / 2 ^ kk) ++ zD kk (x / 2 ^ kk) r := by simp [zD]
      rw [q1, q2]
      exact c2
end
def Frow (l : List Nat) (t1 t2 : Nat) : AV := .agg [.sc (.int .i64 (l.length : Nat)), .sc (.int .u32 (qT l : Nat)), .sc (.int .i64 (fanK l : Nat)), S t1 1 (LI .u8 (pk (jE (fanK l) l))), S t2 1 (LI .u8 (pk (zD (fanK l) 0 l)))]
theorem fanK_nil : fanK [] = 0 := rfl
section
variable (l : List Nat) (k : Nat) (hl : l.length ≤ 4096) (h32 : ∀ x ∈ l, x < 4294967296) (hr : jk l)
include hl h32 hr
theorem fan_bounds (hne : l ≠ []) : fanK l ≤ 32 ∧ qT l < 4294967296 ∧ (zD (fanK l) 0 l).length ≤ 3 * 4096 := by
 have hpos := List.length_pos_iff.mpr hne
 have hlast : qT l < 4294967296 := getD_nz h32 _ (by omega)
 have h1 := lowF_le l.length (qT l) hlast
 have h2 := lowF_two hpos hlast
 have h3 := highB_len0 (fanK l) l hr
 have h4 : fanK l = lowF l.length (qT l) := rfl
 rw [h4] at h3 ⊢
 exact ⟨h1, hlast, by omega⟩
theorem run_fof (hp : Hp) : ∃ t1 t2 hp', run cxX 38 [S k 1 (LI .u32 (nz l))] hp = some (.tup [Frow l t1 t2, .sc (.int .i64 0)], hp') ∧ Fm [] hp hp' := by
  by_cases hne : l = []
  · subst hne
    refine ⟨2, 2, hp, ?_, Fm.refl _ _⟩
    rw [E38]
    simp [Frow, fanK_nil, nz, LI, jE, zD, pk_nil, qT]
  · obtain ⟨k32, hlast, hhb⟩ := fan_bounds l hl h32 hr hne
    have hpos := List.length_pos_iff.mpr hne
    have hlow := run_lower l.length (qT l) (by omega) hlast hp0
    have e4 : lowF l.length (qT l) = fanK l := rfl
    rw [e4] at hlow
    have hq := lowF_two hpos hlast
    rw [e4] at hq
    have w1 : IntKind.i64.wrap ((l.length : Int) - 1) = ((l.length - 1 : Nat) : Int) := by rw [qg] <;> omega
    have al := nz_at .u32 l (l.length - 1) (by omega)
    have e5 : l.getD (l.length - 1) 0 = qT l := rfl
    rw [e5] at al
    let hpA := (hp.new [S 2 1 [], .sc (.int .i64 0)]).new [S 2 1 [], .sc (.int .i64 0)]
    have b1 : BW hpA hp.next hp.next [] := (BW.new hp).fr (Fm.new [] _ _) (by simp) (by simp)
    have b2 : BW hpA (hp.next + 1) (hp.next + 1) [] := BW.new (hp.new [S 2 1 [], .sc (.int .i64 0)])
    have hw : W2 hp.next hpA hp.next hp.next [] (hp.next + 1) (hp.next + 1) [] := ⟨b1, b2, by omega, by omega, by omega, by omega, by omega, by omega, by omega, by omega⟩
    have hnA : hpA.next = hp.next + 1 + 1 := rfl
    obtain ⟨hp1, n1, n2, v, c1, c2, c3⟩ := fof_loop l k (rk k) hl h32 hr (fanK l) hp.next (hp.next + 1) hp.next k32 (by omega) (.sc (.int .i64 (l.length : Int))) (.sc (.int .u32 (qT l : Nat))) [S 2 1 [], S 2 1 []]
      [.sc (.int .i64 0), .sc (.int .u32 0), .sc (.int .i64 0), S 2 1 [], S 2 1 []] l 0 0 hp.next (hp.next + 1) [] [] hpA rfl (by simp) (nofall_zero hr) (fun _ => rfl) (by simp; omega) (by rw [Nat.zero_div]; simp; omega) hw
    simp only [Nat.zero_div, List.nil_append] at c1 c2
    obtain ⟨t1, hp2, d1, d2⟩ := xa hp.next n1 (jE (fanK l) l) hp1 (by simp; have : l.length * fanK l ≤ 4096 * 32 := Nat.mul_le_mul hl k32; omega) c2.1
    obtain ⟨t2, hp3, f1, f2⟩ := xa (hp.next + 1) n2 (zD (fanK l) 0 l) hp2 (by omega) (c2.2.1.fr d2 (by simp) (by simp))
    have hnx : hp.next ≤ hp3.next := by have := d2.1; have := f2.1; have := c3.1; omega
    refine ⟨t1, t2, hp3, ?_, hnx, fun c hc _ => ?_⟩
    · have b11 : B38_11 (S k 1 (LI .u32 (nz l))) (.ptr hp.next 0 0) (.ptr (hp.next + 1) 0 0) v (S (rk k) 1 (LI .u32 (nz l))) (.int .i64 (l.length : Int)) (.int .i64 (l.length : Int))
          [.sc (.int .i64 0), .sc (.int .u32 0), .sc (.int .i64 0), S 2 1 [], S 2 1 []] [.sc (.int .i64 (l.length : Int)), .sc (.int .u32 (qT l : Nat)), .sc (.int .i64 (fanK l : Nat)), S 2 1 [], S 2 1 []] hp1 = some (.tup [Frow l t1 t2, .sc (.int .i64 0)], hp3) := by
        rw [B38_11_eq]
        unfold Frow
        generalize pk (jE (fanK l) l) = A at *
        generalize pk (zD (fanK l) 0 l) = B at *
        simp [d1, f1, putN, getN]
      rw [← c1] at b11
      have h1 : ¬((l.length : Int) > 4096) := by omega
      have h2 : ¬((l.length : Int) = 0) := by omega
      have g0 : (0 : Int) ≤ ((l.length - 1 : Nat) : Int) := by omega
      have al' : (nz l)[(((l.length - 1 : Nat) : Int)).toNat]? = some ((qT l : Nat) : Int) := by
        rw [Int.toNat_natCast]; unfold nz qT
        rw [List.getElem?_map, List.getD_eq_getElem?_getD, List.getElem?_eq_getElem (by omega)]; rfl
      have gs0 : ∀ (v : Value), qc [.sc v] 0 = some v := fun _ => rfl
      have gs1 : ∀ (x : AV) (v : Value) (r : List AV), qc (x :: .sc v :: r) 1 = some v := fun _ _ _ => rfl
      have h1' : ¬((4096 : Int) < (l.length : Int)) := by omega
      rw [E38]
      generalize ((l.length - 1 : Nat) : Int) = j at *
      generalize Frow l t1 t2 = FR at *
      simp at b11
      simp [h1', hne, w1, al', g0, gs0, gs1, hlow]
      exact b11
    · rw [f2.2 c (by have := d2.1; have := c3.1; omega) (by simp), d2.2 c (by have := c3.1; omega) (by simp), c3.2 c hc]
      show ((hp.new _).new _).get c = _
      have e1 : c ≠ hp.next := by omega
      have e2 : c ≠ hp.next + 1 := by omega
      simp [Hp.new, e1, e2]
theorem run_fput (w t1 t2 : Nat) (Z : List Int) (hZ : Z.length + (fanY l).length ≤ 1000000) (hp : Hp) (h : hp.rd w 0 = some (Wc Z)) :
  run cxX 39 [Frow l t1 t2, .ptr w 0 0] hp = some (.tup [], hp.put w 0 (Wc (Z ++ fanY l))) := by
 have hlast : qT l < 4294967296 := by
  by_cases hne : l = []
  ·subst hne; show (0 : Nat) < _; omega
  ·exact (fan_bounds l hl h32 hr hne).2.1
 unfold Frow
 have eY : fanY l = uv l.length ++ uv (qT l) ++ pk (jE (fanK l) l) ++ uv (pk (zD (fanK l) 0 l)).length ++ pk (zD (fanK l) 0 l) := rfl
 rw [eY] at hZ ⊢
 generalize pk (jE (fanK l) l) = A at *
 generalize pk (zD (fanK l) 0 l) = B at *
 simp only [List.length_append] at hZ
 have u1 := qQ w l.length Z (by omega) (by omega) hp h
 have u2 := qQ w (qT l) (Z ++ uv l.length) (by omega) (by simp only [List.length_append]; omega) _ (qp hp w (Wc (Z ++ uv l.length)))
 rw [qs] at u2
 have u3 := yO w (Z ++ uv l.length ++ uv (qT l)) A (rk t1) (by simp only [List.length_append]; omega) _ (qp hp w _)
 rw [qs] at u3
 have u4 := qQ w B.length (Z ++ uv l.length ++ uv (qT l) ++ A) (by omega) (by simp only [List.length_append]; omega) _ (qp hp w _)
 rw [qs] at u4
 have u5 := yO w (Z ++ uv l.length ++ uv (qT l) ++ A ++ uv B.length) B (rk t2) (by simp only [List.length_append]; omega) _ (qp hp w _)
 rw [qs] at u5
 have w1 : IntKind.u64.wrap (l.length : Int) = (l.length : Int) := qt (by omega) (by omega)
 have w2 : IntKind.u64.wrap ((qT l : Nat) : Int) = ((qT l : Nat) : Int) := qt (by omega) (by omega)
 have w3 : IntKind.u64.wrap (B.length : Int) = (B.length : Int) := qt (by omega) (by omega)
 have eZ : Z ++ (uv l.length ++ uv (qT l) ++ A ++ uv B.length ++ B) = Z ++ uv l.length ++ uv (qT l) ++ A ++ uv B.length ++ B := by simp only [List.append_assoc]
 rw [eZ]
 generalize Z ++ uv l.length ++ uv (qT l) ++ A ++ uv B.length ++ B = Z5 at *
 generalize Z ++ uv l.length ++ uv (qT l) ++ A ++ uv B.length = Z4 at *
 generalize Z ++ uv l.length ++ uv (qT l) ++ A = Z3 at *
 generalize Z ++ uv l.length ++ uv (qT l) = Z2 at *
 generalize Z ++ uv l.length = Z1 at *
 have gs1 : ∀ (x : AV) (v : Value) (r : List AV), qc (x :: .sc v :: r) 1 = some v := fun _ _ _ => rfl
 have gs0 : ∀ (v : Value) (r : List AV), qc (.sc v :: r) 0 = some v := fun _ _ => rfl
 rw [E39]
 simp [gs0, gs1, getC, yH, w1, u1, ze, w2, u2, u3, w3, u4, u5]
end
theorem and64 (x c : Nat) (hx : x < 18446744073709551616) (hc : c < 18446744073709551616) (t : TypeId) (o o' : Operand) : binV Tryz.prog .and t o o' (.int .u64 (x : Int)) (.int .u64 (c : Int)) = some (.int .u64 ((x &&& c : Nat) : Int)) := by
 rw [qL]
 have hl : x &&& c ≤ x := Nat.and_le_left
 have e : (BitVec.ofInt IntKind.u64.bits (x : Int) &&& BitVec.ofInt IntKind.u64.bits (c : Int)).toNat = x &&& c := by
  show (BitVec.ofInt 64 (x : Int) &&& BitVec.ofInt 64 (c : Int)).toNat = _
  rw [BitVec.ofInt_natCast, BitVec.ofInt_natCast, BitVec.toNat_and, BitVec.toNat_ofNat, BitVec.toNat_ofNat]
  rw [Nat.mod_eq_of_lt (by omega), Nat.mod_eq_of_lt (by omega)]
 rw [e, qt (by omega) (by omega)]
theorem f1_le (x : Nat) (hx : x < 18446744073709551616) : f1 8 x < 18446744073709551616 := by
 unfold f1
 have e : mkB 85 8 = 6148914691236517205 := by decide
 rw [e]
 have h1 : (x / 2) &&& 6148914691236517205 ≤ 6148914691236517205 := Nat.and_le_right
 have h2 : x &&& 6148914691236517205 ≤ 6148914691236517205 := Nat.and_le_right
 omega
theorem f2_le (x : Nat) : f2 8 x < 7378697629483820647 := by
 unfold f2
 have e : mkB 51 8 = 3689348814741910323 := by decide
 rw [e]
 have h1 : (x / 4) &&& 3689348814741910323 ≤ 3689348814741910323 := Nat.and_le_right
 have h2 : x &&& 3689348814741910323 ≤ 3689348814741910323 := Nat.and_le_right
 omega
theorem and127i (r : Nat) (hr : r < 9223372036854775808) (t : TypeId) (o o' : Operand) : binV Tryz.prog .and t o o' (.int .i64 (r : Int)) (.int .i64 127) = some (.int .i64 ((r % 128 : Nat) : Int)) := by
 rw [qL]
 have e9 : (BitVec.ofInt IntKind.i64.bits (r : Int) &&& BitVec.ofInt IntKind.i64.bits ((127 : Nat) : Int)).toNat = r % 128 := by
  show (BitVec.ofInt 64 (r : Int) &&& BitVec.ofInt 64 ((127 : Nat) : Int)).toNat = _
  rw [BitVec.ofInt_natCast, BitVec.ofInt_natCast, BitVec.toNat_and, BitVec.toNat_ofNat, BitVec.toNat_ofNat, Nat.mod_eq_of_lt (show r < 2 ^ 64 by omega), Nat.mod_eq_of_lt (show 127 < 2 ^ 64 by omega)]
  exact Nat.and_two_pow_sub_one_eq_mod r 7
 have i127 : ((127 : Nat) : Int) = 127 := rfl
 rw [i127] at e9
 rw [e9, qg (by omega) (by omega)]
theorem pop_pure (x : Nat) (hx : x < 18446744073709551616) : ∃ y z q d e r : Nat, (x / 2 &&& 6148914691236517205) + (x &&& 6148914691236517205) = y ∧ y < 18446744073709551616 ∧
  (y / 4 &&& 3689348814741910323) + (y &&& 3689348814741910323) = z ∧ z < 7378697629483820647 ∧ (z / 16 + z) &&& 1085102592571150095 = q ∧ q < 651061555542690057 ∧ q + q / 256 = d ∧ d + d / 65536 = e ∧ e + e / 4294967296 = r ∧ r < 9223372036854775808 ∧ r % 128 = pcn x 64 := by
 have m1 : mkB 85 8 = 6148914691236517205 := by decide
 have m2 : mkB 51 8 = 3689348814741910323 := by decide
 have m3 : mkB 15 8 = 1085102592571150095 := by decide
 have h1 := f1_le x hx
 have h2 := f2_le (f1 8 x)
 have h3 := f3_all 8 x (Nat.lt_of_lt_of_le hx (by decide))
 have cb : ∀ y, pcn y 8 ≤ 8 := fun y => pcn_le y 8
 have hc : cB x 8 = ((((((pcn (x / 256 / 256 / 256 / 256 / 256 / 256 / 256 % 256) 8 * 256 + pcn (x / 256 / 256 / 256 / 256 / 256 / 256 % 256) 8) * 256 + pcn (x / 256 / 256 / 256 / 256 / 256 % 256) 8) * 256 + pcn (x / 256 / 256 / 256 / 256 % 256) 8) * 256 +
   pcn (x / 256 / 256 / 256 % 256) 8) * 256 + pcn (x / 256 / 256 % 256) 8) * 256 + pcn (x / 256 % 256) 8) * 256 + pcn (x % 256) 8 := by
  simp only [cB, Nat.zero_mul, Nat.zero_add]
 obtain ⟨p1, d, hd, e, he, p2, p3⟩ := pop_last _ _ _ _ _ _ _ _ _ (cb _) (cb _) (cb _) (cb _) (cb _) (cb _) (cb _) (cb _) hc
 rw [← pcn_bytes] at p3
 refine ⟨f1 8 x, f2 8 (f1 8 x), cB x 8, d, e, _, ?_, h1, ?_, h2, ?_, p1, hd.symm, he.symm, rfl, p2, p3⟩
 ·rw [← m1]; rfl
 ·rw [← m2]; rfl
 ·rw [← h3, ← m3]; rfl
noncomputable def onesF (k1 k2 k4 k8 k16 k32 c85 c51 c15 k127 : Int) (a0 : AV) (hp : Hp) : Option (AV × Hp) := ((asSc a0).bind fun y0 => ((binV Tryz.prog .shr 76 (.tmp 3) (.const (.int .u64 k1)) y0 (.int .u64 k1)).bind fun y1 => ((binV Tryz.prog .and 76 (.tmp 4) (.const (.int .u64 c85)) y1 (.int .u64 c85)).bind fun y2 => ((binV Tryz.prog .and 76 (.tmp 6) (.const (.int .u64 c85)) y0 (.int .u64 c85)).bind fun y3 => ((binV Tryz.prog .add 76 (.tmp 5) (.tmp 7) y2 y3).bind fun y4 => ((binV Tryz.prog .shr 76 (.tmp 9) (.const (.int .u64 k2)) y4 (.int .u64 k2)).bind fun y5 => ((binV Tryz.prog .and 76 (.tmp 10) (.const (.int .u64 c51)) y5 (.int .u64 c51)).bind fun y6 => ((binV Tryz.prog .and 76 (.tmp 12) (.const (.int .u64 c51)) y4 (.int .u64 c51)).bind fun y7 => ((binV Tryz.prog .add 76 (.tmp 11) (.tmp 13) y6 y7).bind fun y8 => ((binV Tryz.prog .shr 76 (.tmp 15) (.const (.int .u64 k4)) y8 (.int .u64 k4)).bind fun y9 => ((binV Tryz.prog .add 76 (.tmp 16) (.tmp 17) y9 y8).bind fun y10 => ((binV Tryz.prog .and 76 (.tmp 18) (.const (.int .u64 c15)) y10 (.int .u64 c15)).bind fun y11 => ((binV Tryz.prog .shr 76 (.tmp 21) (.const (.int .u64 k8)) y11 (.int .u64 k8)).bind fun y12 => ((binV Tryz.prog .add 76 (.tmp 20) (.tmp 22) y11 y12).bind fun y13 => ((binV Tryz.prog .shr 76 (.tmp 25) (.const (.int .u64 k16)) y13 (.int .u64 k16)).bind fun y14 => ((binV Tryz.prog .add 76 (.tmp 24) (.tmp 26) y13 y14).bind fun y15 => ((binV Tryz.prog .shr 76 (.tmp 29) (.const (.int .u64 k32)) y15 (.int .u64 k32)).bind fun y16 => ((binV Tryz.prog .add 76 (.tmp 28) (.tmp 30) y15 y16).bind fun y17 => ((cvV Tryz.prog 76 3 y17).bind fun y18 => ((binV Tryz.prog .and 3 (.tmp 33) (.const (.int .i64 k127)) y18 (.int .i64 k127)).bind fun y19 => (some (Prod.mk (AV.sc y19) hp))))))))))))))))))))))
theorem ones_eq (a0 : AV) (hp : Hp) : run cxX 146 [a0] hp = onesF (.ofNat 1) (.ofNat 2) (.ofNat 4) (.ofNat 8) (.ofNat 16) (.ofNat 32) (.ofNat 6148914691236517205) (.ofNat 3689348814741910323) (.ofNat 1085102592571150095) (.ofNat 127) a0 hp := by
 delta onesF
 have h := E146 a0 hp
 with_reducible exact h
theorem run_ones (x : Nat) (hx : x < 18446744073709551616) (hp : Hp) : run cxX 146 [.sc (.int .u64 (x : Int))] hp = some (.sc (.int .i64 (pcn x 64 : Nat)), hp) := by
 obtain ⟨y, z, q, d, e, r, h1, b1, h2, b2, h3, b3, h4, h5, h6, b6, h7⟩ := pop_pure x hx
 have k64 : ∀ n : Nat, n ≤ 64 → n ≤ IntKind.u64.bits := fun n h => h
 have s1 := fun t o o' => jN .u64 x 1 (k64 1 (by omega)) t o o' .u64
 have a1 := and64 (x / 2 ^ 1) 6148914691236517205 (by omega) (by omega)
 have a2 := and64 x 6148914691236517205 hx (by omega)
 have s2 := fun t o o' => jN .u64 y 2 (k64 2 (by omega)) t o o' .u64
 have a3 := and64 (y / 2 ^ 2) 3689348814741910323 (by omega) (by omega)
 have a4 := and64 y 3689348814741910323 b1 (by omega)
 have s3 := fun t o o' => jN .u64 z 4 (k64 4 (by omega)) t o o' .u64
 have a5 := and64 (z / 2 ^ 4 + z) 1085102592571150095 (by omega) (by omega)
 have s4 := fun t o o' => jN .u64 q 8 (k64 8 (by omega)) t o o' .u64
 have s5 := fun t o o' => jN .u64 d 16 (k64 16 (by omega)) t o o' .u64
 have s6 := fun t o o' => jN .u64 e 32 (k64 32 (by omega)) t o o' .u64
 have a7 := and127i r b6
 rw [h7] at a7
 have d1 : x / 2 ^ 1 = x / 2 := by omega
 have d2 : y / 2 ^ 2 = y / 4 := by omega
 have d3 : z / 2 ^ 4 = z / 16 := by omega
 have d4 : q / 2 ^ 8 = q / 256 := by omega
 have d5 : d / 2 ^ 16 = d / 65536 := by omega
 have d6 : e / 2 ^ 32 = e / 4294967296 := by omega
 rw [d1] at s1 a1
 rw [d2] at s2 a3
 rw [d3] at s3 a5
 rw [d4] at s4
 rw [d5] at s5
 rw [d6] at s6
 rw [h3] at a5
 generalize (x / 2 &&& 6148914691236517205) = u1 at *
 generalize (x &&& 6148914691236517205) = u2 at *
 generalize (y / 4 &&& 3689348814741910323) = u3 at *
 generalize (y &&& 3689348814741910323) = u4 at *
 have w1 : IntKind.u64.wrap ((u1 : Int) + (u2 : Int)) = (y : Int) := by rw [qt] <;> omega
 have w2 : IntKind.u64.wrap ((u3 : Int) + (u4 : Int)) = (z : Int) := by rw [qt] <;> omega
 have w3 : IntKind.u64.wrap (((z / 16 : Nat) : Int) + (z : Int)) = ((z / 16 + z : Nat) : Int) := by rw [qt] <;> omega
 have w4 : IntKind.u64.wrap ((q : Int) + ((q / 256 : Nat) : Int)) = (d : Int) := by rw [qt] <;> omega
 have w5 : IntKind.u64.wrap ((d : Int) + ((d / 65536 : Nat) : Int)) = (e : Int) := by rw [qt] <;> omega
 have w6 : IntKind.u64.wrap ((e : Int) + ((e / 4294967296 : Nat) : Int)) = (r : Int) := by rw [qt] <;> omega
 have w7 : IntKind.i64.wrap (r : Int) = (r : Int) := qg (by omega) (by omega)
 have S1 : ∀ t o o', binV Tryz.prog .shr t o o' (.int .u64 (x : Int)) (.int .u64 (Int.ofNat 1)) = some (.int .u64 ((x / 2 : Nat) : Int)) := s1
 have A1 : ∀ t o o', binV Tryz.prog .and t o o' (.int .u64 ((x / 2 : Nat) : Int)) (.int .u64 (Int.ofNat 6148914691236517205)) = some (.int .u64 (u1 : Int)) := a1
 have A2 : ∀ t o o', binV Tryz.prog .and t o o' (.int .u64 (x : Int)) (.int .u64 (Int.ofNat 6148914691236517205)) = some (.int .u64 (u2 : Int)) := a2
 have S2 : ∀ t o o', binV Tryz.prog .shr t o o' (.int .u64 (y : Int)) (.int .u64 (Int.ofNat 2)) = some (.int .u64 ((y / 4 : Nat) : Int)) := s2
 have A3 : ∀ t o o', binV Tryz.prog .and t o o' (.int .u64 ((y / 4 : Nat) : Int)) (.int .u64 (Int.ofNat 3689348814741910323)) = some (.int .u64 (u3 : Int)) := a3
 have A4 : ∀ t o o', binV Tryz.prog .and t o o' (.int .u64 (y : Int)) (.int .u64 (Int.ofNat 3689348814741910323)) = some (.int .u64 (u4 : Int)) := a4
 have S3 : ∀ t o o', binV Tryz.prog .shr t o o' (.int .u64 (z : Int)) (.int .u64 (Int.ofNat 4)) = some (.int .u64 ((z / 16 : Nat) : Int)) := s3
 have A5 : ∀ t o o', binV Tryz.prog .and t o o' (.int .u64 ((z / 16 + z : Nat) : Int)) (.int .u64 (Int.ofNat 1085102592571150095)) = some (.int .u64 (q : Int)) := a5
 have S4 : ∀ t o o', binV Tryz.prog .shr t o o' (.int .u64 (q : Int)) (.int .u64 (Int.ofNat 8)) = some (.int .u64 ((q / 256 : Nat) : Int)) := s4
 have S5 : ∀ t o o', binV Tryz.prog .shr t o o' (.int .u64 (d : Int)) (.int .u64 (Int.ofNat 16)) = some (.int .u64 ((d / 65536 : Nat) : Int)) := s5
 have S6 : ∀ t o o', binV Tryz.prog .shr t o o' (.int .u64 (e : Int)) (.int .u64 (Int.ofNat 32)) = some (.int .u64 ((e / 4294967296 : Nat) : Int)) := s6
 have A7 : ∀ t o o', binV Tryz.prog .and t o o' (.int .i64 (r : Int)) (.int .i64 (Int.ofNat 127)) = some (.int .i64 ((pcn x 64 : Nat) : Int)) := a7
 rw [ones_eq]
 clear s1 s2 s3 s4 s5 s6 a1 a2 a3 a4 a5 a7 h1 h2 h3
 generalize Int.ofNat 6148914691236517205 = c85 at *
 generalize Int.ofNat 3689348814741910323 = c51 at *
 generalize Int.ofNat 1085102592571150095 = c15 at *
 unfold onesF
 rw [jV, Option.bind_some, S1, Option.bind_some, A1, Option.bind_some, A2, Option.bind_some, zR, w1, Option.bind_some, S2, Option.bind_some, A3, Option.bind_some, A4, Option.bind_some, zR, w2, Option.bind_some, S3, Option.bind_some, zR, w3, Option.bind_some, A5, Option.bind_some, S4, Option.bind_some, zR, w4, Option.bind_some, S5, Option.bind_some, zR, w5, Option.bind_some, S6, Option.bind_some, zR, w6, Option.bind_some, cv_76_3, w7, Option.bind_some, A7, Option.bind_some]
def wrd (m j : Nat) : Nat := m / 2 ^ (64 * j) % 18446744073709551616
theorem wrd_lt (m j : Nat) : wrd m j < 18446744073709551616 := Nat.mod_lt _ (by decide)
theorem wrd_bit (m i : Nat) : (wrd m (i / 64)).testBit (i % 64) = m.testBit i := by
 unfold wrd
 have e : (18446744073709551616 : Nat) = 2 ^ 64 := rfl
 rw [e, Nat.testBit_mod_two_pow, Nat.testBit_div_two_pow]
 have h : i % 64 < 64 := Nat.mod_lt _ (by decide)
 have e2 : i % 64 + 64 * (i / 64) = i := by omega
 simp only [h, decide_true, Bool.true_and]
 rw [e2]
abbrev Cc (c : Nat × Nat) : List AV := [.sc (.int .u32 (c.1 : Int)), .sc (.int .u64 (wrd c.2 0 : Nat)), .sc (.int .u64 (wrd c.2 1 : Nat)), .sc (.int .u64 (wrd c.2 2 : Nat)), .sc (.int .u64 (wrd c.2 3 : Nat))]
theorem getSc_Cc (c : Nat × Nat) (j : Nat) (hj : j < 4) : qc (Cc c) (Nat.add 1 (Nat.add 0 j)) = some (.int .u64 (wrd c.2 j : Nat)) := by
 have : j = 0 ∨ j = 1 ∨ j = 2 ∨ j = 3 := by omega
 rcases this with e | e | e | e <;> subst e <;> rfl
theorem and63_bv : ∀ x : BitVec 8, (x &&& 63#8).toNat = x.toNat % 64 := by decide
theorem and63 (c : Nat) (hc : c < 256) (t : TypeId) (x y : Operand) : binV Tryz.prog .and t x y (.int .u8 (c : Int)) (.int .u8 63) = some (.int .u8 ((c % 64 : Nat) : Int)) := by
 rw [qL]
 have e1 : (BitVec.ofInt 8 (c : Int)).toNat = c := by
  rw [BitVec.toNat_ofInt]; omega
 have e2 : (BitVec.ofInt IntKind.u8.bits (c : Int) &&& BitVec.ofInt IntKind.u8.bits 63).toNat = c % 64 := by
  show (BitVec.ofInt 8 (c : Int) &&& 63#8).toNat = _
  rw [and63_bv, e1]
 rw [e2, zt (by omega) (by omega)]
theorem run_chas (c : Nat × Nat) (i : Nat) (hi : i < 256) (hp : Hp) : run cxX 97 [.agg (Cc c), .sc (.int .u8 (i : Int))] hp = some (.sc (.bool (c.2.testBit i)), hp) := by
 have s1 : ∀ t o o', binV Tryz.prog .shr t o o' (.int .u8 (i : Int)) (.int .u64 6) = some (.int .u8 ((i / 64 : Nat) : Int)) := fun t o o' => jN .u8 i 6 (by decide) t o o' .u64
 have ix : idx 4 (.int .u8 ((i / 64 : Nat) : Int)) = some (i / 64) := zr .u8 (by omega)
 have g := getSc_Cc c (i / 64) (by omega)
 have a := and63 i hi
 have s2 := fun t o o' => jN .u64 (wrd c.2 (i / 64)) (i % 64) (by show i % 64 ≤ 64; omega) t o o' .u8
 have a2 := and1 (wrd c.2 (i / 64) / 2 ^ (i % 64)) (Nat.lt_of_le_of_lt (Nat.div_le_self _ _) (wrd_lt _ _))
 have tb := wrd_bit c.2 i
 rw [Nat.testBit_eq_decide_div_mod_eq] at tb
 rw [← tb, E97]
 generalize wrd c.2 (i / 64) / 2 ^ (i % 64) % 2 = q at *
 generalize ((wrd c.2 (i / 64) / 2 ^ (i % 64) : Nat) : Int) = q1 at *
 generalize ((i % 64 : Nat) : Int) = q2 at *
 generalize hq3 : ((i / 64 : Nat) : Int) = q3 at *
 have cn : qh 5 (.agg (Cc c)) = some (Cc c) := rfl
 have eqq : decide ((q : Int) = 1) = decide (q = 1) := by
  by_cases h : q = 1
  ·simp [h]
  ·rw [decide_eq_false h, decide_eq_false (by omega)]
 have mr : List.map ro1 (Cc c) = Cc c := rfl
 have g' : qc (Cc c) (1 + i / 64) = some (.int .u64 (wrd c.2 (i / 64) : Nat)) := by have := g; simpa using this
 simp only [cn, mr, Option.bind_some, jV]
 simp [s1, ix, g', a, s2, a2, -qL]
 omega
theorem pcn_four (m : Nat) : pcn m 256 = pcn (wrd m 0) 64 + pcn (wrd m 1) 64 + pcn (wrd m 2) 64 + pcn (wrd m 3) 64 := by
 have h : ∀ j, pcn (wrd m j) 64 = pcn (m / 2 ^ (64 * j)) 64 := fun j => pcn_mod _ 64 64 (Nat.le_refl _)
 have a := pcn_split m 192 64
 have b := pcn_split m 128 64
 have c := pcn_split m 64 64
 have e0 : m / 2 ^ (64 * 0) = m := by simp
 rw [h, h, h, h, e0]
 have e1 : 192 + 64 = 256 := rfl
 have e2 : 128 + 64 = 192 := rfl
 have e3 : 64 + 64 = 128 := rfl
 rw [e1] at a
 rw [e2] at b
 rw [e3] at c
 rw [a, b, c]
theorem ixw (a b c d : Int) : ixV Tryz.prog 139 (.agg #[.int .u64 a, .int .u64 b, .int .u64 c, .int .u64 d]) (.int .i64 0) = some (.int .u64 a)
  ∧ ixV Tryz.prog 139 (.agg #[.int .u64 a, .int .u64 b, .int .u64 c, .int .u64 d]) (.int .i64 1) = some (.int .u64 b)
  ∧ ixV Tryz.prog 139 (.agg #[.int .u64 a, .int .u64 b, .int .u64 c, .int .u64 d]) (.int .i64 2) = some (.int .u64 c)
  ∧ ixV Tryz.prog 139 (.agg #[.int .u64 a, .int .u64 b, .int .u64 c, .int .u64 d]) (.int .i64 3) = some (.int .u64 d) := ⟨by kernel_rfl, by kernel_rfl, by kernel_rfl, by kernel_rfl⟩
theorem run_many (c : Nat × Nat) (hp : Hp) : run cxX 96 [.agg (Cc c)] hp = some (.sc (.int .i64 (pcn c.2 256 : Nat)), hp) := by
 have o0 := run_ones (wrd c.2 0) (wrd_lt _ _) hp0
 have o1 := run_ones (wrd c.2 1) (wrd_lt _ _) hp0
 have o2 := run_ones (wrd c.2 2) (wrd_lt _ _) hp0
 have o3 := run_ones (wrd c.2 3) (wrd_lt _ _) hp0
 have l0 := pcn_le (wrd c.2 0) 64
 have l1 := pcn_le (wrd c.2 1) 64
 have l2 := pcn_le (wrd c.2 2) 64
 have l3 := pcn_le (wrd c.2 3) 64
 obtain ⟨i0, i1, i2, i3⟩ := ixw (wrd c.2 0 : Nat) (wrd c.2 1 : Nat) (wrd c.2 2 : Nat) (wrd c.2 3 : Nat)
 rw [pcn_four, E96]
 generalize pcn (wrd c.2 0) 64 = n0 at *
 generalize pcn (wrd c.2 1) 64 = n1 at *
 generalize pcn (wrd c.2 2) 64 = n2 at *
 generalize pcn (wrd c.2 3) 64 = n3 at *
 have w0 : IntKind.i64.wrap (0 + (n0 : Int)) = (n0 : Int) := by rw [qg] <;> omega
 have w1 : IntKind.i64.wrap ((n0 : Int) + (n1 : Int)) = (n0 : Int) + (n1 : Int) := by rw [qg] <;> omega
 have w2 : IntKind.i64.wrap ((n0 : Int) + (n1 : Int) + (n2 : Int)) = (n0 : Int) + (n1 : Int) + (n2 : Int) := by rw [qg] <;> omega
 have w3 : IntKind.i64.wrap ((n0 : Int) + (n1 : Int) + (n2 : Int) + (n3 : Int)) = ((n0 + n1 + n2 + n3 : Nat) : Int) := by rw [qg] <;> omega
 have w00 : IntKind.i64.wrap (n0 : Int) = (n0 : Int) := by rw [qg] <;> omega
 have cn : qh 5 (.agg (Cc c)) = some (Cc c) := rfl
 have gn : getN (Cc c) 1 4 = some [.sc (.int .u64 (wrd c.2 0 : Nat)), .sc (.int .u64 (wrd c.2 1 : Nat)), .sc (.int .u64 (wrd c.2 2 : Nat)), .sc (.int .u64 (wrd c.2 3 : Nat))] := rfl
 have ca : ∀ a b c d : Int, jg (.agg [.sc (.int .u64 a), .sc (.int .u64 b), .sc (.int .u64 c), .sc (.int .u64 d)]) = some (.agg #[.int .u64 a, .int .u64 b, .int .u64 c, .int .u64 d]) := fun _ _ _ _ => rfl
 generalize ((n0 + n1 + n2 + n3 : Nat) : Int) = N at *
 have b4 : B96_3 (.int .i64 N) (.agg [.sc (.int .u64 (wrd c.2 0 : Nat)), .sc (.int .u64 (wrd c.2 1 : Nat)), .sc (.int .u64 (wrd c.2 2 : Nat)), .sc (.int .u64 (wrd c.2 3 : Nat))]) (.int .i64 4) hp = some (.sc (.int .i64 N), hp) := by
  rw [B96_3_eq]; simp
 generalize ((wrd c.2 0 : Nat) : Int) = x0 at *
 generalize ((wrd c.2 1 : Nat) : Int) = x1 at *
 generalize ((wrd c.2 2 : Nat) : Int) = x2 at *
 generalize ((wrd c.2 3 : Nat) : Int) = x3 at *
 have mr : List.map ro1 (Cc c) = Cc c := rfl
 simp only [cn, mr, gn, Option.bind_some]
 simp
 rw [B96_3_eq]
 simp [ca, i0, o0, w00]
 rw [B96_3_eq]
 simp [ca, i1, o1, w1]
 rw [B96_3_eq]
 simp [ca, i2, o2, w2]
 rw [B96_3_eq]
 simp [ca, i3, o3, w3, b4]
theorem runs_loop (c : Nat × Nat) (hp : Hp) : ∀ (f i : Nat), i + f = 256 → B135_4 (.int .i64 (rcn c.2 i : Nat)) (.bool (decide (0 < i) && c.2.testBit (i - 1))) (.int .i64 (i : Int)) (Cc c) hp = some (.sc (.int .i64 (rcn c.2 256 : Nat)), hp) := by
 intro f
 induction f with
 | zero =>
  intro i h
  have e : i = 256 := by omega
  subst e
  rw [B135_4_eq]
  simp
 | succ f ih =>
  intro i h
  have hi := ih (i + 1) (by omega)
  have hh := run_chas c i (by omega) hp0
  have w1 : IntKind.u8.wrap (i : Int) = (i : Int) := zt (by omega) (by omega)
  have w2 : IntKind.i64.wrap ((i : Int) + 1) = ((i + 1 : Nat) : Int) := by rw [qg] <;> omega
  have gn : getN (Cc c) 0 5 = some (Cc c) := rfl
  have hlt : (i : Int) < 256 := by omega
  have hr := rcn_le c.2 i
  have hr2 := pcn_le c.2 i
  have e1 : rcn c.2 (i + 1) = rcn c.2 i + (c.2.testBit i && !(decide (0 < i) && c.2.testBit (i - 1))).toNat := rfl
  have e2 : (decide (0 < i + 1) && c.2.testBit (i + 1 - 1)) = c.2.testBit i := by simp
  rw [e1, e2] at hi
  have b9 : ∀ n : Int, B135_9 (.int .i64 n) (.bool (c.2.testBit i)) (.int .i64 (i : Int)) (Cc c) hp = B135_4 (.int .i64 n) (.bool (c.2.testBit i)) (.int .i64 ((i + 1 : Nat) : Int)) (Cc c) hp := by
   intro n
   rw [B135_9_eq]
   generalize ((i + 1 : Nat) : Int) = I at *
   simp [w2]
  have w3 : IntKind.i64.wrap ((rcn c.2 i : Int) + 1) = ((rcn c.2 i + 1 : Nat) : Int) := by rw [qg] <;> omega
  have mr : List.map ro1 (Cc c) = Cc c := rfl
  rw [B135_4_eq]
  generalize rcn c.2 i = R at *
  generalize (decide (0 < i) && c.2.testBit (i - 1)) = was at *
  generalize hI : ((i + 1 : Nat) : Int) = I at *
  cases hb : c.2.testBit i
  ·rw [hb] at hi hh b9
   have hi' : B135_4 (.int .i64 (R : Nat)) (.bool false) (.int .i64 I) (Cc c) hp = some (.sc (.int .i64 (rcn c.2 256 : Nat)), hp) := hi
   simp [hlt, gn, mr, zQ, w1, hh, b9, hi']
  ·rw [hb] at hi hh b9
   cases was
   ·have hi' : B135_4 (.int .i64 ((R + 1 : Nat) : Int)) (.bool true) (.int .i64 I) (Cc c) hp = some (.sc (.int .i64 (rcn c.2 256 : Nat)), hp) := hi
    generalize ((R + 1 : Nat) : Int) = R1 at *
    simp [hlt, gn, mr, zQ, w1, hh, B135_8_eq, w3, b9, hi']
   ·have hi' : B135_4 (.int .i64 (R : Nat)) (.bool true) (.int .i64 I) (Cc c) hp = some (.sc (.int .i64 (rcn c.2 256 : Nat)), hp) := hi
    simp [hlt, gn, mr, zQ, w1, hh, b9, hi']
theorem run_runs (c : Nat × Nat) (hp : Hp) : run cxX 135 [.agg (Cc c)] hp = some (.sc (.int .i64 (rcn c.2 256 : Nat)), hp) := by
 have h := runs_loop c hp 256 0 rfl
 have e : (decide (0 < 0) && c.2.testBit (0 - 1)) = false := rfl
 rw [e] at h
 have e2 : rcn c.2 0 = 0 := rfl
 rw [e2] at h
 rw [E135]
 have cn : qh 5 (.agg (Cc c)) = some (Cc c) := rfl
 have mr : List.map ro1 (Cc c) = Cc c := rfl
 simp only [cn, mr, Option.bind_some]
 exact h
theorem run_best (c : Nat × Nat) (hp : Hp) : run cxX 134 [.agg (Cc c)] hp = some (.sc (.int .u8 (kind c.2 : Nat)), hp) := by
 have m := run_many c hp0
 have r := run_runs c hp0
 have h1 := pcn_le c.2 256
 have h2 := rcn_le c.2 256
 have cn : qh 5 (.agg (Cc c)) = some (Cc c) := rfl
 have gn : getN (Cc c) 0 5 = some (Cc c) := rfl
 have mr : List.map ro1 (Cc c) = Cc c := rfl
 rw [E134]
 unfold kind
 generalize pcn c.2 256 = n at *
 generalize rcn c.2 256 = k at *
 obtain ⟨A, hA⟩ : ∃ A : Int, A = (n : Int) + 1 := ⟨_, rfl⟩
 obtain ⟨T, hT⟩ : ∃ T : Int, T = 2 * (k : Int) := ⟨_, rfl⟩
 obtain ⟨B, hB⟩ : ∃ B : Int, B = 2 * (k : Int) + 1 := ⟨_, rfl⟩
 have w1 : IntKind.i64.wrap ((n : Int) + 1) = A := by rw [qg] <;> omega
 have w2 : IntKind.i64.wrap (2 * (k : Int)) = T := by rw [qg] <;> omega
 have w3 : IntKind.i64.wrap (T + 1) = B := by rw [qg] <;> omega
 have b3 : B134_3 hp = some (.sc (.int .u8 0), hp) := by rw [B134_3_eq]; simp
 have b4 : B134_4 (.int .i64 B) hp = some (.sc (.int .u8 ((if 32 ≤ 2 * k + 1 then 1 else 2 : Nat) : Int)), hp) := by
  rw [B134_4_eq]
  by_cases h : 32 ≤ 2 * k + 1
  ·have h' : (32 : Int) ≤ B := by omega
   rw [if_pos h]
   simp [h']
  ·have h' : ¬((32 : Int) ≤ B) := by omega
   rw [if_neg h]
   simp [h']
 by_cases d1 : n + 1 ≤ 32
 ·have c1 : A ≤ 32 := by omega
  by_cases d2 : n + 1 ≤ 2 * k + 1
  ·have c2 : A ≤ B := by omega
   rw [if_pos ⟨d1, d2⟩]
   simp [mr, gn, m, w1, r, w2, w3, c1, c2, b3]
  ·have c2 : ¬(A ≤ B) := by omega
   rw [if_neg (fun h => d2 h.2)]
   simp [mr, gn, m, w1, r, w2, w3, c1, c2]
   simp at b4
   exact b4
 ·have c1 : ¬(A ≤ 32) := by omega
  rw [if_neg (fun h => d1 h.1)]
  simp [mr, gn, m, w1, r, w2, w3, c1]
  simp at b4
  exact b4
theorem cput_arr (c : Nat × Nat) (w : Nat) : ∀ (f i : Nat) (Z : List Int) (hp : Hp), i + f = 256 → Z.length + f ≤ 1000000 → hp.rd w 0 = some (Wc Z) →
  B81_17 (.ptr w 0 0) (.int .i64 (i : Int)) (Cc c) hp = some (.tup [], hp.put w 0 (Wc (Z ++ arrF c.2 f i))) := by
 intro f
 induction f with
 | zero =>
  intro i Z hp h hZ hw
  have e : i = 256 := by omega
  subst e
  rw [B81_17_eq]
  simp [arrF, zV hw]
 | succ f ih =>
  intro i Z hp h hZ hw
  have hh := run_chas c i (by omega) hp0
  have w1 : IntKind.u8.wrap (i : Int) = (i : Int) := zt (by omega) (by omega)
  have w2 : IntKind.i64.wrap ((i : Int) + 1) = ((i + 1 : Nat) : Int) := by rw [qg] <;> omega
  have gn : getN (Cc c) 0 5 = some (Cc c) := rfl
  have hlt : (i : Int) < 256 := by omega
  have b21 : ∀ hp', B81_21 (.ptr w 0 0) (.int .i64 (i : Int)) (Cc c) hp' = B81_17 (.ptr w 0 0) (.int .i64 ((i + 1 : Nat) : Int)) (Cc c) hp' := by
   intro hp'
   rw [B81_21_eq]
   generalize ((i + 1 : Nat) : Int) = I at *
   simp [w2]
  have mr : List.map ro1 (Cc c) = Cc c := rfl
  rw [B81_17_eq]
  unfold arrF
  cases hb : c.2.testBit i
  ·rw [hb] at hh
   have hi := ih (i + 1) Z hp (by omega) (by omega) hw
   rw [← b21] at hi
   simp [hlt, gn, mr, zQ, w1, hh, hi]
  ·rw [hb] at hh
   have wb := zb w Z (i : Int) (by omega) hp hw
   have hi := ih (i + 1) (Z ++ [(i : Int)]) (hp.put w 0 (Wc (Z ++ [(i : Int)]))) (by omega) (by simp; omega) (qp _ _ _)
   rw [qs, List.append_assoc, ← b21] at hi
   have e1 : [(i : Int)] ++ arrF c.2 f (i + 1) = (i : Int) :: arrF c.2 f (i + 1) := rfl
   rw [e1] at hi
   generalize arrF c.2 f (i + 1) = AA at *
   simp [hlt, gn, mr, hh, zQ, w1, wb]
   exact hi
theorem wrd_byte (m i : Nat) : (wrd m (i / 8) / 2 ^ (8 * (i % 8))) % 256 = m / 2 ^ (8 * i) % 256 := by
 apply Nat.eq_of_testBit_eq
 intro j
 have e : (256 : Nat) = 2 ^ 8 := rfl
 have e2 : (18446744073709551616 : Nat) = 2 ^ 64 := rfl
 unfold wrd
 rw [e, e2, Nat.testBit_mod_two_pow, Nat.testBit_mod_two_pow, Nat.testBit_div_two_pow, Nat.testBit_div_two_pow, Nat.testBit_mod_two_pow, Nat.testBit_div_two_pow]
 by_cases hj : j < 8
 ·have h1 : j + 8 * (i % 8) < 64 := by omega
  have h2 : j + 8 * (i % 8) + 64 * (i / 8) = j + 8 * i := by omega
  simp only [hj, h1, decide_true, Bool.true_and]
  rw [h2]
 ·simp [hj]
theorem cput_bmp (c : Nat × Nat) (w : Nat) : ∀ (f i : Nat) (Z : List Int) (hp : Hp), i + f = 32 → Z.length + f ≤ 1000000 → hp.rd w 0 = some (Wc Z) →
  B81_24 (.ptr w 0 0) (.int .i64 (i : Int)) (Cc c) hp = some (.tup [], hp.put w 0 (Wc (Z ++ bmpF c.2 f i))) := by
 intro f
 induction f with
 | zero =>
  intro i Z hp h hZ hw
  have e : i = 32 := by omega
  subst e
  rw [B81_24_eq]
  simp [bmpF, zV hw]
 | succ f ih =>
  intro i Z hp h hZ hw
  have q := quo8 i (by omega)
  have r := rem8 i
  have ix : idx 4 (.int .i64 ((i / 8 : Nat) : Int)) = some (i / 8) := zr .i64 (by omega)
  have g := getSc_Cc c (i / 8) (by omega)
  have w1 : IntKind.i64.wrap (8 * ((i % 8 : Nat) : Int)) = ((8 * (i % 8) : Nat) : Int) := by rw [qg] <;> omega
  have s := fun t o o' => jN .u64 (wrd c.2 (i / 8)) (8 * (i % 8)) (by show 8 * (i % 8) ≤ 64; omega) t o o' .i64
  have w2 : IntKind.i64.wrap ((i : Int) + 1) = ((i + 1 : Nat) : Int) := by rw [qg] <;> omega
  have hlt : (i : Int) < 32 := by omega
  have wdb := wrd_byte c.2 i
  have w3 : IntKind.u8.wrap ((wrd c.2 (i / 8) / 2 ^ (8 * (i % 8)) : Nat) : Int) = ((c.2 / 2 ^ (8 * i) % 256 : Nat) : Int) := by
   rw [jZ, ← wdb]
   omega
  have wb := zb w Z ((c.2 / 2 ^ (8 * i) % 256 : Nat) : Int) (by omega) hp hw
  have hi := ih (i + 1) (Z ++ [((c.2 / 2 ^ (8 * i) % 256 : Nat) : Int)]) (hp.put w 0 (Wc (Z ++ [((c.2 / 2 ^ (8 * i) % 256 : Nat) : Int)]))) (by omega) (by simp; omega) (qp _ _ _)
  rw [qs, List.append_assoc] at hi
  have e : bmpF c.2 (f + 1) i = [((c.2 / 2 ^ (8 * i) % 256 : Nat) : Int)] ++ bmpF c.2 f (i + 1) := rfl
  rw [e, ← hi, B81_24_eq]
  generalize ((c.2 / 2 ^ (8 * i) % 256 : Nat) : Int) = y at *
  generalize ((wrd c.2 (i / 8) / 2 ^ (8 * (i % 8)) : Nat) : Int) = x at *
  generalize ((wrd c.2 (i / 8) : Nat) : Int) = x0 at *
  generalize ((8 * (i % 8) : Nat) : Int) = x1 at *
  generalize ((i % 8 : Nat) : Int) = x2 at *
  generalize ((i / 8 : Nat) : Int) = x3 at *
  generalize ((i + 1 : Nat) : Int) = x4 at *
  have g' : qc (Cc c) (1 + i / 8) = some (.int .u64 x0) := by have := g; simpa using this
  simp [hlt, q, ix, g', r, w1, s, cv_76_5, w3, wb, w2]
theorem cput_end (c : Nat × Nat) (w : Nat) (i0 : Nat) : ∀ (f i : Nat) (hp : Hp), i + f = 255 → B81_11 (.ptr w 0 0) (.int .i64 (i : Int)) (.int .i64 (i0 : Int)) (Cc c) hp =
  B81_13 (.ptr w 0 0) (.int .i64 (rend c.2 f i : Nat)) (.int .i64 (i0 : Int)) (Cc c) hp := by
 intro f
 induction f with
 | zero =>
  intro i hp h
  have e : i = 255 := by omega
  subst e
  rw [B81_11_eq]
  simp [rend]
 | succ f ih =>
  intro i hp h
  have hh := run_chas c (i + 1) (by omega) hp0
  have w1 : IntKind.u8.wrap ((i + 1 : Nat) : Int) = ((i + 1 : Nat) : Int) := zt (by omega) (by omega)
  have w2 : IntKind.i64.wrap ((i : Int) + 1) = ((i + 1 : Nat) : Int) := by rw [qg] <;> omega
  have gn : getN (Cc c) 0 5 = some (Cc c) := rfl
  have hlt : (i : Int) < 255 := by omega
  have hi := ih (i + 1) hp (by omega)
  rw [B81_11_eq]
  unfold rend
  have mr : List.map ro1 (Cc c) = Cc c := rfl
  generalize ((i + 1 : Nat) : Int) = I at *
  cases hb : c.2.testBit (i + 1)
  ·rw [hb] at hh
   simp [hlt, gn, mr, w2, zQ, w1, hh]
  ·rw [hb] at hh
   simp [hlt, gn, mr, w2, zQ, w1, hh, B81_12_eq, hi]
theorem cput_runs (c : Nat × Nat) (w : Nat) : ∀ (f i : Nat) (Z : List Int) (hp : Hp), 256 ≤ i + f → i ≤ 256 → Z.length + 2 * f ≤ 1000000 → hp.rd w 0 = some (Wc Z) →
  B81_7 (.ptr w 0 0) (.int .i64 (i : Int)) (Cc c) hp = some (.tup [], hp.put w 0 (Wc (Z ++ rnF c.2 f i))) := by
 intro f
 induction f with
 | zero =>
  intro i Z hp h hi256 hZ hw
  have e : i = 256 := by omega
  subst e
  rw [B81_7_eq]
  simp [rnF, zV hw]
 | succ f ih =>
  intro i Z hp h hi256 hZ hw
  unfold rnF
  by_cases h1 : 256 ≤ i
  ·have hlt : ¬((i : Int) < 256) := by omega
   rw [if_pos h1, B81_7_eq]
   simp [hlt, zV hw]
  ·have hlt : (i : Int) < 256 := by omega
   have hh := run_chas c i (by omega) hp0
   have w1 : IntKind.u8.wrap (i : Int) = (i : Int) := zt (by omega) (by omega)
   have gn : getN (Cc c) 0 5 = some (Cc c) := rfl
   have b8 : ∀ (j : Nat) hp', j ≤ 255 → B81_8 (.ptr w 0 0) (.int .i64 (j : Int)) (Cc c) hp' = B81_7 (.ptr w 0 0) (.int .i64 ((j + 1 : Nat) : Int)) (Cc c) hp' := by
    intro j hp' hj
    have w2 : IntKind.i64.wrap ((j : Int) + 1) = ((j + 1 : Nat) : Int) := by rw [qg] <;> omega
    rw [B81_8_eq]
    generalize ((j + 1 : Nat) : Int) = I at *
    simp [w2]
   have mr : List.map ro1 (Cc c) = Cc c := rfl
   rw [if_neg h1, B81_7_eq]
   cases hb : c.2.testBit i
   ·rw [hb] at hh
    have hi := ih (i + 1) Z hp (by omega) (by omega) (by omega) hw
    have b8' := b8 i hp (by omega)
    rw [← b8'] at hi
    simp [hlt, gn, mr, zQ, w1, hh]
    exact hi
   ·rw [hb] at hh
    have ce := cput_end c w i (255 - i) i hp (by omega)
    obtain ⟨r1, r2, r3, r4⟩ := rend_ok c.2 (255 - i) i
    have b8' := fun hp' => b8 (rend c.2 (255 - i) i) hp' (by omega)
    generalize rend c.2 (255 - i) i = e at *
    have w3 : IntKind.i64.wrap ((e : Int) - (i : Int)) = ((e - i : Nat) : Int) := by rw [qg] <;> omega
    have w4 : IntKind.u8.wrap ((e - i : Nat) : Int) = ((e - i : Nat) : Int) := zt (by omega) (by omega)
    have wp := yO w Z [(i : Int), ((e - i : Nat) : Int)] 0 (by simp; omega) hp hw
    have hi := ih (e + 1) (Z ++ [(i : Int), ((e - i : Nat) : Int)]) (hp.put w 0 (Wc (Z ++ [(i : Int), ((e - i : Nat) : Int)]))) (by omega) (by omega) (by simp; omega) (qp _ _ _)
    rw [qs, List.append_assoc] at hi
    have b13 : B81_13 (.ptr w 0 0) (.int .i64 (e : Int)) (.int .i64 (i : Int)) (Cc c) hp = some (.tup [], hp.put w 0 (Wc (Z ++ ([(i : Int), ((e - i : Nat) : Int)] ++ rnF c.2 f (e + 1))))) := by
     rw [B81_13_eq, ← hi, ← b8']
     generalize ((e - i : Nat) : Int) = d at *
     have eS : S 0 1 (LI .u8 [(i : Int), d]) = AV.sl 1 [.sc (.int .u8 (i : Int)), .sc (.int .u8 d)] := rfl
     rw [eS] at wp
     simp [zQ, w1, w3, w4, okV]
     simp at wp
     simp [wp]
    simp [hlt, gn, mr, zQ, w1, hh, ce]
    simpa using b13
theorem kind_lt (m : Nat) : kind m ≤ 2 := by
 unfold kind
 split
 ·omega
 ·split <;> omega
theorem run_cput (c : Nat × Nat) (w : Nat) (hc : okC c) (Z : List Int) (hZ : Z.length ≤ 900000) (hp : Hp) (hw : hp.rd w 0 = some (Wc Z)) :
  run cxX 81 [.agg (Cc c), .ptr w 0 0] hp = some (.tup [], hp.put w 0 (Wc (Z ++ chkY c))) := by
 have cn : qh 5 (.agg (Cc c)) = some (Cc c) := rfl
 have gn : getN (Cc c) 0 5 = some (Cc c) := rfl
 have gs : qc (Cc c) 0 = some (.int .u32 (c.1 : Int)) := rfl
 have mr : List.map ro1 (Cc c) = Cc c := rfl
 have bk := run_best c hp0
 have bm := run_many c hp0
 have br := run_runs c hp0
 have h16 := hc.1
 have w1 : IntKind.u64.wrap (c.1 : Int) = (c.1 : Int) := qt (by omega) (by omega)
 have hu := qu (n := c.1) (by omega)
 have u1 := qQ w c.1 Z (by omega) (by omega) hp hw
 have u2 := zb w (Z ++ uv c.1) ((kind c.2 : Nat) : Int) (by simp; omega) (hp.put w 0 (Wc (Z ++ uv c.1))) (qp _ _ _)
 rw [qs] at u2
 have c1 := pcn_le c.2 256
 have c2 := rcn_le c.2 256
 have c3 := rcn_pos hc.2.2
 have c4 := hc.2.2
 have hZ2 : (Z ++ uv c.1 ++ [((kind c.2 : Nat) : Int)]).length ≤ 900011 := by simp; omega
 have eY : Z ++ chkY c = Z ++ uv c.1 ++ [((kind c.2 : Nat) : Int)] ++ bodY c.2 := by unfold chkY; simp
 rw [eY, E81]
 generalize hZ3 : Z ++ uv c.1 ++ [((kind c.2 : Nat) : Int)] = Z3 at *
 simp only [cn, Option.bind_some]
 have k3 := kind_lt c.2
 unfold bodY
 by_cases k0 : kind c.2 = 0
 ·rw [k0] at u2 bk
  rw [if_pos k0]
  have w2 : IntKind.i64.wrap ((pcn c.2 256 : Nat) - 1 : Int) = ((pcn c.2 256 - 1 : Nat) : Int) := by rw [qg] <;> omega
  have w3 : IntKind.u8.wrap ((pcn c.2 256 - 1 : Nat) : Int) = ((pcn c.2 256 - 1 : Nat) : Int) := zt (by omega) (by omega)
  have u3 := zb w Z3 ((pcn c.2 256 - 1 : Nat) : Int) (by omega) (hp.put w 0 (Wc Z3)) (qp _ _ _)
  rw [qs] at u3
  have a := cput_arr c w 256 0 (Z3 ++ [((pcn c.2 256 - 1 : Nat) : Int)]) (hp.put w 0 (Wc (Z3 ++ [((pcn c.2 256 - 1 : Nat) : Int)]))) rfl (by simp; omega) (qp _ _ _)
  rw [qs, List.append_assoc] at a
  have e : [((pcn c.2 256 - 1 : Nat) : Int)] ++ arrF c.2 256 0 = ((pcn c.2 256 - 1 : Nat) : Int) :: arrF c.2 256 0 := rfl
  rw [e] at a
  generalize ((pcn c.2 256 - 1 : Nat) : Int) = n1 at *
  generalize arrF c.2 256 0 = A at *
  simp at u2 a bk
  simp [mr, gn, gs, bk, ze, w1, u1, u2, bm, w2, w3, zQ, u3]
  exact a
 ·by_cases k1 : kind c.2 = 1
  ·rw [k1] at u2 bk
   rw [if_neg k0, if_pos k1]
   have a := cput_bmp c w 32 0 Z3 (hp.put w 0 (Wc Z3)) rfl (by omega) (qp _ _ _)
   rw [qs] at a
   simp at u2 a bk
   simp [mr, gn, gs, bk, ze, w1, u1, u2]
   exact a
  ·have k2 : kind c.2 = 2 := by omega
   rw [k2] at u2 bk
   rw [if_neg k0, if_neg k1]
   have w2 : IntKind.i64.wrap ((rcn c.2 256 : Nat) - 1 : Int) = ((rcn c.2 256 - 1 : Nat) : Int) := by rw [qg] <;> omega
   have w3 : IntKind.u8.wrap ((rcn c.2 256 - 1 : Nat) : Int) = ((rcn c.2 256 - 1 : Nat) : Int) := zt (by omega) (by omega)
   have u3 := zb w Z3 ((rcn c.2 256 - 1 : Nat) : Int) (by omega) (hp.put w 0 (Wc Z3)) (qp _ _ _)
   rw [qs] at u3
   have a := cput_runs c w 256 0 (Z3 ++ [((rcn c.2 256 - 1 : Nat) : Int)]) (hp.put w 0 (Wc (Z3 ++ [((rcn c.2 256 - 1 : Nat) : Int)]))) (by omega) (by omega) (by simp; omega) (qp _ _ _)
   rw [qs, List.append_assoc] at a
   have e : [((rcn c.2 256 - 1 : Nat) : Int)] ++ rnF c.2 256 0 = ((rcn c.2 256 - 1 : Nat) : Int) :: rnF c.2 256 0 := rfl
   rw [e] at a
   generalize ((rcn c.2 256 - 1 : Nat) : Int) = n1 at *
   generalize rnF c.2 256 0 = A at *
   simp at u2 a bk
   simp [mr, gn, gs, bk, ze, w1, u1, u2, br, w2, w3, zQ, u3]
   exact a
def csL (cs : List (Nat × Nat)) : List AV := cs.flatMap Cc
@[simp] theorem jm (cs : List (Nat × Nat)) : (csL cs).length = 5 * cs.length := by
 induction cs with
 | nil => rfl
 | cons c r ih =>
  have e : csL (c :: r) = Cc c ++ csL r := rfl
  rw [e, List.length_append, ih, List.length_cons]
  show 5 + 5 * r.length = 5 * (r.length + 1)
  omega
theorem csL_app (a b : List (Nat × Nat)) : csL (a ++ b) = csL a ++ csL b := by simp [csL]
theorem csL_nil {cs : List (Nat × Nat)} (h : csL cs = []) : cs = [] := by
 have h1 := congrArg List.length h
 rw [jm] at h1
 exact List.length_eq_zero_iff.mp (by have : ([] : List AV).length = 0 := rfl; omega)
theorem csL_get : ∀ (cs : List (Nat × Nat)) (i : Nat) (c : Nat × Nat), cs[i]? = some c → ((csL cs).drop (i * 5)).take 5 = Cc c := by
 intro cs
 induction cs with
 | nil => intro i c h; cases h
 | cons d r ih =>
  intro i c h
  have e : csL (d :: r) = Cc d ++ csL r := rfl
  cases i with
  | zero =>
   have : d = c := by simpa using h
   subst this
   rfl
  | succ i =>
   have h2 := ih i c (by simpa using h)
   have e2 : (i + 1) * 5 = 5 + i * 5 := by omega
   have l5 : (Cc d).length = 5 := rfl
   rw [e, e2, ← h2, List.drop_append, l5, List.drop_eq_nil_of_le (by rw [l5]; omega), List.nil_append]
   congr 2
   omega
theorem csL_ro (cs : List (Nat × Nat)) : (csL cs).map ro1 = csL cs := by
 induction cs with
 | nil => rfl
 | cons c r ih =>
  have e : csL (c :: r) = Cc c ++ csL r := rfl
  rw [e, List.map_append, ih]
  rfl
theorem csL_vl (cs : List (Nat × Nat)) : (csL cs).all vl = true := by
 induction cs with
 | nil => rfl
 | cons c r ih =>
  have e : csL (c :: r) = Cc c ++ csL r := rfl
  rw [e, List.all_append, ih]
  rfl
theorem lenA_5 (k : Nat) (cs : List (Nat × Nat)) : lenA (S k 5 (csL cs)) = some cs.length := by
 rcases zp k 5 (csL cs) with e | e | ⟨e, e'⟩
 ·rw [e]; show some ((csL cs).length / 5) = _; rw [jm]; congr 1; omega
 ·rw [e]; show some ((csL cs).length / 5) = _; rw [jm]; congr 1; omega
 ·rw [e, csL_nil e']; rfl
theorem idxA_5 (k : Nat) (cs : List (Nat × Nat)) (i : Nat) (c : Nat × Nat) (h : cs[i]? = some c) : idxA 5 (S k 5 (csL cs)) (.int .i64 (i : Int)) = some (Cc c) := by
 have hi := (List.getElem?_eq_some_iff.mp h).1
 have key : (idx ((csL cs).length / 5) (.int .i64 (i : Int))).bind (fun i => getN (csL cs) (i * 5) 5) = some (Cc c) := by
  have e : (csL cs).length / 5 = cs.length := by rw [jm]; omega
  rw [e, zr .i64 hi, Option.bind_some]
  unfold getN
  rw [if_pos (by rw [jm]; omega), csL_get cs i c h]
 rcases zp k 5 (csL cs) with e | e | ⟨e, e'⟩
 ·rw [e]; exact key
 ·rw [e]; exact key
 ·rw [csL_nil e'] at h; cases h
theorem chkY_len {c : Nat × Nat} (hc : okC c) : (chkY c).length ≤ 60 := by
 have h1 := qu (n := c.1) (by have := hc.1; omega)
 unfold chkY bodY
 have a := arrF_len0 c.2
 have b := rnF_len0 c.2
 have k3 := kind_lt c.2
 rw [List.length_append, List.length_cons]
 by_cases k0 : kind c.2 = 0
 ·rw [if_pos k0, List.length_cons, a]
  unfold kind at k0
  split at k0
  ·rename_i h; omega
  ·split at k0 <;> omega
 ·rw [if_neg k0]
  by_cases k1 : kind c.2 = 1
  ·rw [if_pos k1, bmpF_len]; omega
  ·rw [if_neg k1, List.length_cons, b]
   unfold kind at k0 k1
   split at k0
   ·omega
   ·rename_i h
    rw [if_neg h] at k1
    split at k1
    ·omega
    ·omega
theorem sput_loop (cs : List (Nat × Nat)) (k w : Nat) (hcs : ∀ c ∈ cs, okC c) (hl : cs.length ≤ 4096) : ∀ (r : List (Nat × Nat)) (i : Nat) (Z : List Int) (hp : Hp), cs.drop i = r → Z.length + 60 * r.length ≤ 900000 → hp.rd w 0 = some (Wc Z) →
  B33_2 (.ptr w 0 0) (S k 5 (csL cs)) (.int .i64 (cs.length : Int)) (.int .i64 (i : Int)) hp = some (.tup [], hp.put w 0 (Wc (Z ++ rowY r))) := by
 intro r
 induction r with
 | nil =>
  intro i Z hp h hZ hw
  have h1 := qw h
  have hlt : ¬((i : Int) < (cs.length : Int)) := by omega
  rw [B33_2_eq]
  simp [hlt, rowY, zV hw]
 | cons c r ih =>
  intro i Z hp h hZ hw
  obtain ⟨e1, e2, hi, e3⟩ := qr h
  simp only [List.length_cons] at hZ
  have hlt : (i : Int) < (cs.length : Int) := by omega
  have ix := idxA_5 k cs i c e1
  have hc : okC c := hcs c (by rw [← e3]; exact List.getElem_mem _)
  have cp := run_cput c w hc Z (by omega) hp hw
  have hcl := chkY_len hc
  have w2 : IntKind.i64.wrap ((i : Int) + 1) = ((i + 1 : Nat) : Int) := by rw [qg] <;> omega
  have hn := ih (i + 1) (Z ++ chkY c) (hp.put w 0 (Wc (Z ++ chkY c))) e2 (by simp; omega) (qp _ _ _)
  rw [qs, List.append_assoc] at hn
  have gn : getN (Cc c) 0 5 = some (Cc c) := rfl
  have cn : qh 5 (.agg (Cc c)) = some (Cc c) := rfl
  have mr : List.map ro1 (Cc c) = Cc c := rfl
  have pn : ∀ a b c' d e : Value, putN [.sc a, .sc b, .sc c', .sc d, .sc e] 0 (Cc c) = some (Cc c) := fun _ _ _ _ _ => rfl
  have e : rowY (c :: r) = chkY c ++ rowY r := rfl
  rw [e, ← hn, B33_2_eq]
  generalize ((i + 1 : Nat) : Int) = I at *
  simp only [jI, hlt, decide_true, qW, Option.bind_some, cond_true, ix, gn, cn, pn, mr]
  have r0 : ro (AV.ptr w 0 0) = AV.ptr w 0 0 := rfl
  have ra : ro (.agg (Cc c)) = .agg (Cc c) := rfl
  simp only [mr, cn, pn, gn, Option.bind_some, r0, ra, cp]
  simp [w2]
theorem run_sput (cs : List (Nat × Nat)) (k w : Nat) (hcs : ∀ c ∈ cs, okC c) (hl : cs.length ≤ 4096) (Z : List Int) (hZ : Z.length ≤ 100000) (hp : Hp) (hw : hp.rd w 0 = some (Wc Z)) :
  run cxX 33 [S k 5 (csL cs), .ptr w 0 0] hp = some (.tup [], hp.put w 0 (Wc (Z ++ roaY cs))) := by
 have hu := qu (n := cs.length) (by omega)
 have u1 := qQ w cs.length Z (by omega) (by omega) hp hw
 have a := sput_loop cs (rk k) w hcs hl cs 0 (Z ++ uv cs.length) (hp.put w 0 (Wc (Z ++ uv cs.length))) rfl (by simp; omega) (qp _ _ _)
 rw [qs, List.append_assoc] at a
 have w1 : IntKind.u64.wrap (cs.length : Int) = (cs.length : Int) := qt (by omega) (by omega)
 rw [E33]
 have l5 := fun k => lenA_5 k cs
 simp at a
 simp [l5, yH, w1, u1, a, roaY]
def ya (x : Nat) : List (Nat × Nat) → List (Nat × Nat)
 | [] => [(x / 256, 2 ^ (x % 256))]
 | [c] => if c.1 = x / 256 then [(c.1, c.2 ||| 2 ^ (x % 256))] else [c, (x / 256, 2 ^ (x % 256))]
 | c :: d :: r => c :: ya x (d :: r)
theorem put_snoc (x y : Nat) : ∀ cs, putC y (ya x cs) = ya x (putC y cs) := by
 intro cs
 match cs with
 | [] =>
  show putC y [(x / 256, 2 ^ (x % 256))] = ya x [(y / 256, 2 ^ (y % 256))]
  rw [zy]
  show _ = if y / 256 = x / 256 then _ else _
  by_cases h : x / 256 = y / 256
  ·rw [if_pos h, if_pos h.symm, h, Nat.or_comm]
  ·rw [if_neg h, if_neg (fun e => h e.symm)]
 | [c] =>
  show putC y (if c.1 = x / 256 then [(c.1, c.2 ||| 2 ^ (x % 256))] else [c, (x / 256, 2 ^ (x % 256))]) = ya x (putC y [c])
  rw [zy]
  by_cases h1 : c.1 = x / 256
  ·rw [if_pos h1, zy]
   by_cases h2 : c.1 = y / 256
   ·rw [if_pos h2, if_pos h2]
    show _ = if c.1 = x / 256 then _ else _
    rw [if_pos h1]
    show [(c.1, c.2 ||| 2 ^ (x % 256) ||| 2 ^ (y % 256))] = [(c.1, c.2 ||| 2 ^ (y % 256) ||| 2 ^ (x % 256))]
    rw [Nat.or_assoc, Nat.or_comm (2 ^ (x % 256)), ← Nat.or_assoc]
   ·rw [if_neg h2, if_neg h2]
    show _ = _ :: (if c.1 = x / 256 then _ else _)
    rw [if_pos h1]
  ·rw [if_neg h1, zy]
   by_cases h2 : c.1 = y / 256
   ·rw [if_pos h2, if_pos h2]
    show _ = if c.1 = x / 256 then _ else _
    rw [if_neg h1]
   ·rw [if_neg h2, if_neg h2]
    show _ = _ :: (if c.1 = x / 256 then _ else _)
    rw [if_neg h1]
 | c :: d :: r =>
  show putC y (c :: ya x (d :: r)) = ya x (putC y (c :: d :: r))
  rw [zy, zy]
  split
  ·rfl
  ·rfl
theorem chs_snoc (x : Nat) : ∀ l, chs (l ++ [x]) = ya x (chs l) := by
 intro l
 induction l with
 | nil => rfl
 | cons y r ih =>
  show putC y (chs (r ++ [x])) = ya x (putC y (chs r))
  rw [ih, put_snoc]
theorem snoc_app (x : Nat) (c : Nat × Nat) : ∀ ds, ya x (ds ++ [c]) = ds ++ (if c.1 = x / 256 then [(c.1, c.2 ||| 2 ^ (x % 256))] else [c, (x / 256, 2 ^ (x % 256))]) := by
 intro ds
 induction ds with
 | nil => rfl
 | cons d r ih =>
  cases r with
  | nil =>
   show d :: ya x [c] = _
   rfl
  | cons e s =>
   show d :: ya x (e :: s ++ [c]) = _
   rw [ih]
   rfl
theorem getSc_app (A L : List AV) (i : Nat) : qc (A ++ L) (A.length + i) = qc L i := by
 unfold qc
 rw [List.getElem?_append_right (by omega)]
 congr 2
 omega
theorem putN_app (A L M : List AV) (i : Nat) (vs : List AV) (h : putN L i vs = some M) : putN (A ++ L) (A.length + i) vs = some (A ++ M) := by
 unfold putN at h ⊢
 split at h
 ·rename_i hi
  rw [if_pos (by rw [List.length_append]; omega)]
  have e : L.take i ++ vs ++ L.drop (i + vs.length) = M := Option.some.inj h
  rw [← e, List.take_append, List.take_of_length_le (by omega), List.drop_append, List.drop_eq_nil_of_le (by omega), List.nil_append]
  have e1 : A.length + i - A.length = i := by omega
  have e2 : A.length + i + vs.length - A.length = i + vs.length := by omega
  rw [e1, e2]
  simp
 ·cases h
theorem wrd_or (m i j : Nat) (hi : i < 256) : wrd (m ||| 2 ^ i) j = if j = i / 64 then wrd m j ||| 2 ^ (i % 64) else wrd m j := by
 apply Nat.eq_of_testBit_eq
 intro k
 have e2 : (18446744073709551616 : Nat) = 2 ^ 64 := rfl
 by_cases hj : j = i / 64
 ·rw [if_pos hj]
  unfold wrd
  rw [e2, Nat.testBit_or, Nat.testBit_mod_two_pow, Nat.testBit_mod_two_pow, Nat.testBit_div_two_pow, Nat.testBit_div_two_pow, Nat.testBit_or, qZ, qZ]
  by_cases hk : k < 64
  ·have e : (i = k + 64 * j) ↔ (i % 64 = k) := by omega
   simp only [hk, decide_true, Bool.true_and]
   congr 1
   exact decide_eq_decide.mpr e
  ·have : ¬(i % 64 = k) := by omega
   simp [hk, this]
 ·rw [if_neg hj]
  unfold wrd
  rw [e2, Nat.testBit_mod_two_pow, Nat.testBit_mod_two_pow, Nat.testBit_div_two_pow, Nat.testBit_div_two_pow, Nat.testBit_or, qZ]
  by_cases hk : k < 64
  ·have : ¬(i = k + 64 * j) := by omega
   simp [this]
  ·simp [hk]
theorem or64 (x c : Nat) (hx : x < 18446744073709551616) (hc : c < 18446744073709551616) (t : TypeId) (o o' : Operand) : binV Tryz.prog .or t o o' (.int .u64 (x : Int)) (.int .u64 (c : Int)) = some (.int .u64 ((x ||| c : Nat) : Int)) := by
 rw [zT]
 have hl : x ||| c < 2 ^ 64 := Nat.or_lt_two_pow hx hc
 have e : (BitVec.ofInt IntKind.u64.bits (x : Int) ||| BitVec.ofInt IntKind.u64.bits (c : Int)).toNat = x ||| c := by
  show (BitVec.ofInt 64 (x : Int) ||| BitVec.ofInt 64 (c : Int)).toNat = _
  rw [BitVec.ofInt_natCast, BitVec.ofInt_natCast, BitVec.toNat_or, BitVec.toNat_ofNat, BitVec.toNat_ofNat]
  rw [Nat.mod_eq_of_lt (by omega), Nat.mod_eq_of_lt (by omega)]
 rw [e, qt (by omega) (by omega)]
theorem shl1 (k : Nat) (hk : k < 64) (t : TypeId) (o o' : Operand) : binV Tryz.prog .shl t o o' (.int .u64 1) (.int .u8 (k : Int)) = some (.int .u64 ((2 ^ k : Nat) : Int)) := by
 have hp : (2 : Nat) ^ k < 2 ^ 64 := Nat.pow_lt_pow_right (by decide) hk
 have e64 : (2 : Nat) ^ 64 = 18446744073709551616 := rfl
 rw [zL _ _ _ _ _ _ _ _ (by omega), Int.toNat_natCast, Nat.min_eq_left (show k ≤ IntKind.u64.bits from Nat.le_of_lt hk), Int.one_mul]
 have e : (2 : Int) ^ k = ((2 ^ k : Nat) : Int) := by simp
 rw [e]
 generalize 2 ^ k = z at *
 rw [qt (by omega) (by omega)]
theorem putN_Cc (c : Nat × Nat) (i : Nat) (hi : i < 256) : putN (Cc c) (1 + i / 64) [.sc (.int .u64 (wrd c.2 (i / 64) ||| 2 ^ (i % 64) : Nat))] = some (Cc (c.1, c.2 ||| 2 ^ i)) := by
 have h : i / 64 = 0 ∨ i / 64 = 1 ∨ i / 64 = 2 ∨ i / 64 = 3 := by omega
 have w := fun j => wrd_or c.2 i j hi
 have e : Cc (c.1, c.2 ||| 2 ^ i) = [.sc (.int .u32 (c.1 : Int)), .sc (.int .u64 (wrd (c.2 ||| 2 ^ i) 0 : Nat)), .sc (.int .u64 (wrd (c.2 ||| 2 ^ i) 1 : Nat)), .sc (.int .u64 (wrd (c.2 ||| 2 ^ i) 2 : Nat)), .sc (.int .u64 (wrd (c.2 ||| 2 ^ i) 3 : Nat))] := rfl
 rw [e, w 0, w 1, w 2, w 3]
 rcases h with h | h | h | h <;> rw [h] <;> rfl
theorem run_chadd (ds : List (Nat × Nat)) (c : Nat × Nat) (b i : Nat) (hi : i < 256) (hp : Hp) (h : hp.rd b 0 = some (csL (ds ++ [c]))) :
  run cxX 80 [.ptr b 0 (5 * ds.length), .sc (.int .u8 (i : Int))] hp = some (.tup [], hp.put b 0 (csL (ds ++ [(c.1, c.2 ||| 2 ^ i)]))) := by
 have s1 : ∀ t o o', binV Tryz.prog .shr t o o' (.int .u8 (i : Int)) (.int .u64 6) = some (.int .u8 ((i / 64 : Nat) : Int)) := fun t o o' => jN .u8 i 6 (by decide) t o o' .u64
 have ix : idx 4 (.int .u8 ((i / 64 : Nat) : Int)) = some (i / 64) := zr .u8 (by omega)
 have a := and63 i hi
 have s2 := shl1 (i % 64) (by omega)
 have h64 : (2 : Nat) ^ (i % 64) < 18446744073709551616 := Nat.pow_lt_pow_right (by decide) (show i % 64 < 64 by omega)
 have o := or64 (wrd c.2 (i / 64)) (2 ^ (i % 64)) (wrd_lt _ _) h64
 have e1 : csL (ds ++ [c]) = csL ds ++ Cc c := by rw [csL_app]; simp [csL]
 have e2 : csL (ds ++ [(c.1, c.2 ||| 2 ^ i)]) = csL ds ++ Cc (c.1, c.2 ||| 2 ^ i) := by rw [csL_app]; simp [csL]
 have g := getSc_app (csL ds) (Cc c) (1 + i / 64)
 have g2 : qc (Cc c) (1 + i / 64) = some (.int .u64 (wrd c.2 (i / 64) : Nat)) := by have := getSc_Cc c (i / 64) (by omega); simpa using this
 rw [g2] at g
 have p := putN_app (csL ds) (Cc c) _ (1 + i / 64) _ (putN_Cc c i hi)
 have eo : (csL ds).length + (1 + i / 64) = 5 * ds.length + 1 + i / 64 := by rw [jm]; omega
 rw [eo] at g p
 rw [e1] at h
 rw [e2, E80]
 generalize csL ds ++ Cc c = L1 at *
 generalize csL ds ++ Cc (c.1, c.2 ||| 2 ^ i) = L2 at *
 generalize ((wrd c.2 (i / 64) ||| 2 ^ (i % 64) : Nat) : Int) = q3 at *
 generalize ((wrd c.2 (i / 64) : Nat) : Int) = q0 at *
 generalize ((2 ^ (i % 64) : Nat) : Int) = q1 at *
 generalize ((i % 64 : Nat) : Int) = q2 at *
 generalize ((i / 64 : Nat) : Int) = q4 at *
 generalize 5 * ds.length = N at *
 simp [s1, ix, h, g, a, s2, o, p, -qL, -zT]
def XC (nb : Nat) (cs : List (Nat × Nat)) : AV := if cs = [] then S 2 1 [] else .ms nb 0 0 cs.length 5
def CH (h0 : Nat) (hp : Hp) (nb : Nat) (cs : List (Nat × Nat)) : Prop := cs ≠ [] → nb < hp.next ∧ h0 ≤ nb ∧ hp.rd nb 0 = some (csL cs)
theorem many5 (c : Nat × Nat) : many 5 (Cc c) = 1 := by simp [many]
theorem appM_c1 (x : Nat) (hp : Hp) : appM 40 5 (S 2 1 []) (.us 5 (Cc (x, 0))) hp = some (.ms hp.next 0 0 1 5, hp.new (csL [(x, 0)])) := by
 have hs : srcM hp 5 (.us 5 (Cc (x, 0))) = some (Cc (x, 0)) := rfl
 have hm := many5 (x, 0)
 unfold appM
 rw [hs]
 show (chk (isNil nil0 = true ∧ fits 40 5 5 = true)).bind (fun _ => some (AV.ms hp.next 0 0 (many 5 (Cc (x, 0))) 5, hp.new (Cc (x, 0)))) = _
 rw [hm, chk_ok ⟨rfl, by decide⟩, Option.bind_some]
 rfl
theorem appM_c2 (x b : Nat) (cs : List (Nat × Nat)) (hl : cs.length ≤ 100000) (hne : cs ≠ []) (hp : Hp) (hb : hp.rd b 0 = some (csL cs)) :
  appM 40 5 (.ms b 0 0 cs.length 5) (.us 5 (Cc (x, 0))) hp = some (.ms hp.next 0 0 (cs.length + 1) 5, (hp.del b).new (csL (cs ++ [(x, 0)]))) := by
 have hpos : 0 < cs.length := List.length_pos_iff.mpr hne
 have hs : srcM hp 5 (.us 5 (Cc (x, 0))) = some (Cc (x, 0)) := rfl
 have hf : fits 40 5 (cs.length * 5 + 5) = true := by
  unfold fits
  simp
  omega
 have e : ((csL cs).take (cs.length * 5)).map ro1 ++ Cc (x, 0) = csL (cs ++ [(x, 0)]) := by
  rw [List.take_of_length_le (by rw [jm]; omega), csL_ro, csL_app]
  simp [csL]
 unfold appM
 rw [hs]
 show (chk (5 = 5 ∧ 0 = 0 ∧ 0 < cs.length)).bind _ = _
 rw [chk_ok ⟨rfl, rfl, hpos⟩, Option.bind_some, hb, Option.bind_some]
 show (chk (cs.length * 5 ≤ (csL cs).length ∧ fits 40 5 (cs.length * 5 + 5) = true)).bind _ = _
 rw [chk_ok ⟨by rw [jm]; omega, hf⟩, Option.bind_some]
 have hm := many5 (x, 0)
 show some (AV.ms hp.next 0 0 (cs.length + many 5 (Cc (x, 0))) 5, (hp.del b).new (((csL cs).take (cs.length * 5)).map ro1 ++ Cc (x, 0))) = _
 rw [e, hm]
theorem wrd_zero (j : Nat) : wrd 0 j = 0 := by unfold wrd; simp
theorem chs_len : ∀ l, (chs l).length ≤ l.length := by
 intro l
 induction l with
 | nil => exact Nat.le_refl _
 | cons x r ih =>
  show (putC x (chs r)).length ≤ _
  cases hq : chs r with
  | nil => simp [putC]
  | cons c s =>
   rw [hq] at ih
   rw [zy]
   split <;> simp at ih ⊢ <;> omega
section
variable (l : List Nat) (k k' : Nat) (hl : l.length ≤ 4096) (h32 : ∀ x ∈ l, x < 4294967296) (hr : zw l)
theorem rof_12 (h0 i x nb : Nat) (hx : x < 4294967296) (cs : List (Nat × Nat)) (hcl : cs.length ≤ 5000) (ds : List (Nat × Nat)) (c : Nat × Nat) (hcs : cs = ds ++ [c]) (hp : Hp) (hC : CH h0 hp nb cs) (hi : i < 5000) :
  ∃ hp', B32_12 (S k 1 (LI .u32 (nz l))) (XC nb cs) (.int .u32 (x : Int)) (S k' 1 (LI .u32 (nz l))) (.int .i64 (l.length : Int)) (.int .i64 (i : Int)) hp =
   B32_5 (S k 1 (LI .u32 (nz l))) (XC nb (ds ++ [(c.1, c.2 ||| 2 ^ (x % 256))])) (S k' 1 (LI .u32 (nz l))) (.int .i64 (l.length : Int)) (.int .i64 ((i + 1 : Nat) : Int)) hp' ∧
   CH h0 hp' nb (ds ++ [(c.1, c.2 ||| 2 ^ (x % 256))]) ∧ hp.next ≤ hp'.next ∧ ∀ a, a < h0 → hp'.get a = hp.get a := by
 have hne : cs ≠ [] := by rw [hcs]; simp
 obtain ⟨c1, c2, c3⟩ := hC hne
 rw [hcs] at c3
 have hlen : cs.length = ds.length + 1 := by rw [hcs]; simp
 have ca := run_chadd ds c nb (x % 256) (by omega) hp c3
 have eX : XC nb cs = .ms nb 0 0 (ds.length + 1) 5 := by unfold XC; rw [if_neg hne, hlen]
 have eX2 : XC nb (ds ++ [(c.1, c.2 ||| 2 ^ (x % 256))]) = .ms nb 0 0 (ds.length + 1) 5 := by unfold XC; rw [if_neg (by simp)]; simp
 have w1 : IntKind.i64.wrap (((ds.length + 1 : Nat) : Int) - 1) = (ds.length : Int) := by rw [qg] <;> omega
 have ix : idx (ds.length + 1) (.int .i64 (ds.length : Int)) = some ds.length := zr .i64 (by omega)
 have w2 : IntKind.u8.wrap (x : Int) = ((x % 256 : Nat) : Int) := by rw [jZ]; rfl
 have w3 : IntKind.i64.wrap ((i : Int) + 1) = ((i + 1 : Nat) : Int) := by rw [qg] <;> omega
 refine ⟨hp.put nb 0 (csL (ds ++ [(c.1, c.2 ||| 2 ^ (x % 256))])), ?_, fun _ => ⟨c1, c2, qp _ _ _⟩, Nat.le_refl _, fun a ha => ?_⟩
 ·rw [eX, eX2, B32_12_eq]
  have o5 : ∀ n : Nat, n + n + n + n + n = 5 * n := fun n => by omega
  generalize csL (ds ++ [(c.1, c.2 ||| 2 ^ (x % 256))]) = L at *
  generalize ((x % 256 : Nat) : Int) = y at *
  generalize ((i + 1 : Nat) : Int) = I at *
  have hln : lenA (.ms nb 0 0 (ds.length + 1) 5) = some (ds.length + 1) := rfl
  have hms : ∀ a b c d e, qR (.ms a b c d e) = some (a, b, c, d, e) := fun _ _ _ _ _ => rfl
  have w9 : IntKind.i64.wrap (ds.length : Int) = (ds.length : Int) := qg (by omega) (by omega)
  simp only [Int.natCast_add, Int.natCast_one] at w1
  simp [hln, w1, w9, hms, ix, o5, cv_30_5, w2, ca, w3]
 ·have : a ≠ nb := by omega
  simp [Hp.put, this]
theorem getLast_app : ∀ (cs : List (Nat × Nat)), cs ≠ [] → ∃ ds c, cs = ds ++ [c] := by
 intro cs h
 exact ⟨cs.dropLast, cs.getLast h, (List.dropLast_concat_getLast h).symm⟩
theorem rof_9 (h0 i x nb : Nat) (hx : x < 4294967296) (cs : List (Nat × Nat)) (hcl : cs.length ≤ 4096) (hp : Hp) (hh : h0 ≤ hp.next) (hC : CH h0 hp nb cs) (hi : i < 5000) :
    ∃ hp' nb', B32_9 (S k 1 (LI .u32 (nz l))) (XC nb cs) (.int .u32 (x : Int)) (S k' 1 (LI .u32 (nz l))) (.int .i64 (l.length : Int)) (.int .i64 (i : Int)) hp =
      B32_5 (S k 1 (LI .u32 (nz l))) (XC nb' (ya x cs)) (S k' 1 (LI .u32 (nz l))) (.int .i64 (l.length : Int)) (.int .i64 ((i + 1 : Nat) : Int)) hp' ∧
      CH h0 hp' nb' (ya x cs) ∧ hp.next ≤ hp'.next ∧ ∀ a, a < h0 → hp'.get a = hp.get a := by
  have s8 : ∀ t o o', binV Tryz.prog .shr t o o' (.int .u32 (x : Int)) (.int .u64 8) = some (.int .u32 ((x / 256 : Nat) : Int)) := fun t o o' => jN .u32 x 8 (by decide) t o o' .u64
  have hms : ∀ a b c d e, qR (.ms a b c d e) = some (a, b, c, d, e) := fun _ _ _ _ _ => rfl
  by_cases hne : cs = []
  · subst hne
    have eX : XC nb [] = S 2 1 [] := rfl
    have eX1 : XC hp.next [(x / 256, 0)] = .ms hp.next 0 0 1 5 := rfl
    have ap := appM_c1 (x / 256) hp
    have hC2 : CH h0 (hp.new (csL [(x / 256, 0)])) hp.next [(x / 256, 0)] := fun _ => ⟨Nat.lt_succ_self _, hh, qB _ _⟩
    obtain ⟨hp', a1, a2, a3, a4⟩ := rof_12 l k k' h0 i x hp.next hx [(x / 256, 0)] (by simp) [] (x / 256, 0) rfl _ hC2 hi
    have ez : 0 ||| 2 ^ (x % 256) = 2 ^ (x % 256) := Nat.zero_or _
    simp only [List.nil_append, ez] at a1 a2
    refine ⟨hp', hp.next, ?_, a2, by simp at a3; omega, fun a ha => by
      rw [a4 a ha]
      have : a ≠ hp.next := by omega
      simp [Hp.new, this]⟩
    have es : ya x [] = [(x / 256, 2 ^ (x % 256))] := rfl
    rw [es, ← a1, eX, eX1, B32_9_eq]
    have b11 : B32_11 (S k 1 (LI .u32 (nz l))) (S 2 1 []) (.int .u32 (x : Int)) (S k' 1 (LI .u32 (nz l))) (.int .i64 (l.length : Int)) (.int .i64 (i : Int)) hp =
        B32_12 (S k 1 (LI .u32 (nz l))) (.ms hp.next 0 0 1 5) (.int .u32 (x : Int)) (S k' 1 (LI .u32 (nz l))) (.int .i64 (l.length : Int)) (.int .i64 (i : Int)) (hp.new (csL [(x / 256, 0)])) := by
      rw [B32_11_eq]
      have w0 : ∀ j, wrd 0 j = 0 := wrd_zero
      simp only [Cc, w0] at ap
      generalize csL [(x / 256, 0)] = L at *
      generalize ((x / 256 : Nat) : Int) = y at *
      simp at ap
      simp [s8, okV, ap]
    simp [b11]
  · obtain ⟨ds, c, hcs⟩ := getLast_app cs hne
    have hlen : cs.length = ds.length + 1 := by rw [hcs]; simp
    obtain ⟨c1, c2, c3⟩ := hC hne
    have eX : XC nb cs = .ms nb 0 0 (ds.length + 1) 5 := by unfold XC; rw [if_neg hne, hlen]
    have w1 : IntKind.i64.wrap (((ds.length + 1 : Nat) : Int) - 1) = (ds.length : Int) := by rw [qg] <;> omega
    have w9 : IntKind.i64.wrap (ds.length : Int) = (ds.length : Int) := qg (by omega) (by omega)
    have ix : idx (ds.length + 1) (.int .i64 (ds.length : Int)) = some ds.length := zr .i64 (by omega)
    have e1 : csL cs = csL ds ++ Cc c := by rw [hcs, csL_app]; simp [csL]
    have g := getSc_app (csL ds) (Cc c) 0
    rw [← e1, jm, Nat.add_zero] at g
    have g0 : qc (Cc c) 0 = some (.int .u32 (c.1 : Int)) := rfl
    rw [g0] at g
    have hln : lenA (.ms nb 0 0 (ds.length + 1) 5) = some (ds.length + 1) := rfl
    have o5 : ∀ n : Nat, n + n + n + n + n = 5 * n := fun n => by omega
    have h0' : ¬(((ds.length + 1 : Nat) : Int) = 0) := by omega
    rw [hcs, snoc_app, ← hcs]
    by_cases hk : c.1 = x / 256
    · rw [if_pos hk]
      obtain ⟨hp', a1, a2, a3, a4⟩ := rof_12 l k k' h0 i x nb hx cs (by omega) ds c hcs hp hC hi
      refine ⟨hp', nb, ?_, a2, a3, a4⟩
      rw [← a1, eX, B32_9_eq]
      have hk' : (c.1 : Int) = ((x / 256 : Nat) : Int) := by omega
      rw [hk'] at g
      generalize ((x / 256 : Nat) : Int) = y at *
      simp only [Int.natCast_add, Int.natCast_one] at w1 h0'
      simp [hln, h0', w1, w9, hms, ix, c3, o5, g, s8]
    · rw [if_neg hk]
      have ap := appM_c2 (x / 256) nb cs (by omega) hne hp c3
      have hC2 : CH h0 ((hp.del nb).new (csL (cs ++ [(x / 256, 0)]))) hp.next (cs ++ [(x / 256, 0)]) := fun _ => ⟨Nat.lt_succ_self _, hh, qB _ _⟩
      obtain ⟨hp', a1, a2, a3, a4⟩ := rof_12 l k k' h0 i x hp.next hx (cs ++ [(x / 256, 0)]) (by simp; omega) cs (x / 256, 0) rfl _ hC2 hi
      have ez : 0 ||| 2 ^ (x % 256) = 2 ^ (x % 256) := Nat.zero_or _
      simp only [ez] at a1 a2
      have ec : ds ++ [c, (x / 256, 2 ^ (x % 256))] = cs ++ [(x / 256, 2 ^ (x % 256))] := by rw [hcs]; simp
      rw [ec]
      refine ⟨hp', hp.next, ?_, a2, by simp [Hp.del] at a3; omega, fun a ha => by
        rw [a4 a ha]
        exact (Fm.delNew (X := [nb]) hp nb _ (by simp)).2 a (by omega) (by simp; omega)⟩
      have eX2 : XC hp.next (cs ++ [(x / 256, 0)]) = .ms hp.next 0 0 (cs.length + 1) 5 := by unfold XC; rw [if_neg (by simp)]; simp
      rw [← a1, eX, eX2, B32_9_eq]
      rw [hlen] at ap ⊢
      have b11 : B32_11 (S k 1 (LI .u32 (nz l))) (.ms nb 0 0 (ds.length + 1) 5) (.int .u32 (x : Int)) (S k' 1 (LI .u32 (nz l))) (.int .i64 (l.length : Int)) (.int .i64 (i : Int)) hp =
          B32_12 (S k 1 (LI .u32 (nz l))) (.ms hp.next 0 0 (ds.length + 1 + 1) 5) (.int .u32 (x : Int)) (S k' 1 (LI .u32 (nz l))) (.int .i64 (l.length : Int)) (.int .i64 (i : Int)) ((hp.del nb).new (csL (cs ++ [(x / 256, 0)]))) := by
        rw [B32_11_eq]
        have w0 : ∀ j, wrd 0 j = 0 := wrd_zero
        simp only [Cc, w0] at ap
        generalize csL (cs ++ [(x / 256, 0)]) = L at *
        generalize ((x / 256 : Nat) : Int) = y at *
        simp at ap
        simp [s8, okV, ap]
      have hk' : ¬((c.1 : Int) = ((x / 256 : Nat) : Int)) := by omega
      generalize ((x / 256 : Nat) : Int) = y at *
      generalize (c.1 : Int) = z at *
      simp only [Int.natCast_add, Int.natCast_one] at w1 h0'
      simp [hln, h0', w1, w9, hms, ix, c3, o5, g, s8, hk', b11]
include hl h32 hr
theorem rof_loop (h0 : Nat) : ∀ (r : List Nat) (i nb : Nat) (hp : Hp), l.drop i = r → i + r.length = l.length → h0 ≤ hp.next → CH h0 hp nb (chs (l.take i)) →
  ∃ hp' nb', B32_5 (S k 1 (LI .u32 (nz l))) (XC nb (chs (l.take i))) (S k' 1 (LI .u32 (nz l))) (.int .i64 (l.length : Int)) (.int .i64 (i : Int)) hp =
   B32_5 (S k 1 (LI .u32 (nz l))) (XC nb' (chs l)) (S k' 1 (LI .u32 (nz l))) (.int .i64 (l.length : Int)) (.int .i64 (l.length : Int)) hp' ∧ CH h0 hp' nb' (chs l) ∧ hp.next ≤ hp'.next ∧ ∀ a, a < h0 → hp'.get a = hp.get a := by
 intro r
 induction r with
 | nil =>
  intro i nb hp h hil hh hC
  have e : i = l.length := by simpa using hil
  subst e
  rw [List.take_length] at hC ⊢
  exact ⟨hp, nb, rfl, hC, Nat.le_refl _, fun _ _ => rfl⟩
 | cons x r ih =>
  intro i nb hp h hil hh hC
  obtain ⟨e1, e2, hi, e3⟩ := qr h
  simp only [List.length_cons] at hil
  have hlt : (i : Int) < (l.length : Int) := by omega
  have hx : x < 4294967296 := h32 x (by rw [← e3]; exact List.getElem_mem _)
  have hcl := chs_len (l.take i)
  have hti : (l.take i).length ≤ i := by simp; omega
  obtain ⟨hp1, nb1, a1, a2, a3, a4⟩ := rof_9 l k k' h0 i x nb hx (chs (l.take i)) (by omega) hp hh hC (by omega)
  have et : l.take (i + 1) = l.take i ++ [x] := by rw [List.take_add_one, e1]; rfl
  rw [← chs_snoc, ← et] at a1 a2
  obtain ⟨hp2, nb2, b1, b2, b3, b4⟩ := ih (i + 1) nb1 hp1 e2 (by omega) (by omega) a2
  refine ⟨hp2, nb2, ?_, b2, by omega, fun a ha => by rw [b4 a ha, a4 a ha]⟩
  rw [← b1, ← a1, B32_5_eq]
  have gs0 : ∀ (v : Value), qc [.sc v] 0 = some v := fun _ => rfl
  have en : ∀ h, (nz l)[i]'h = (x : Int) := fun h => by simp [nz, e3]
  have hi4 : (i < l.length) = True := by simp [hi]
  generalize XC nb (chs (l.take i)) = X1 at *
  by_cases hi1 : i = 0
  ·have hi2 : (0 < i) = False := by simp [hi1]
   clear hi1
   simp [hi4, gs0, hi2, en]
  ·have hlt2 := rising_get l hr (i - 1) (by omega)
   have e : i - 1 + 1 = i := by omega
   have ex : l.getD i 0 = x := by rw [List.getD_eq_getElem?_getD, e1]; rfl
   rw [e, ex] at hlt2
   have w9 : IntKind.i64.wrap ((i : Int) - 1) = ((i - 1 : Nat) : Int) := by rw [qg] <;> omega
   have hi2 : 0 < i := by omega
   have g0 : (0 : Int) ≤ ((i - 1 : Nat) : Int) := by omega
   have aj' : (nz l)[(((i - 1 : Nat) : Int)).toNat]? = some ((l.getD (i - 1) 0 : Nat) : Int) := by
    rw [Int.toNat_natCast]; unfold nz
    rw [List.getElem?_map, List.getD_eq_getElem?_getD, List.getElem?_eq_getElem (by omega)]; rfl
   generalize l.getD (i - 1) 0 = y at *
   have hle' : ¬((x : Int) ≤ (y : Int)) := by omega
   generalize ((i - 1 : Nat) : Int) = j at *
   simp [hi4, gs0, hi2, en, w9, aj', g0, hle']
theorem run_rof (hp : Hp) : ∃ t hp', run cxX 32 [S k 1 (LI .u32 (nz l))] hp = some (.tup [S t 5 (csL (chs l)), .sc (.int .i64 0)], hp') ∧ Fm [] hp hp' := by
 obtain ⟨hp1, nb, a1, a2, a3, a4⟩ := rof_loop l k (rk k) hl h32 hr hp.next l 0 hp.next hp rfl (by simp) (Nat.le_refl _) (fun h => absurd rfl h)
 have eX0 : XC hp.next (chs (l.take 0)) = S 2 1 [] := rfl
 rw [eX0] at a1
 have h1' : ¬((4096 : Int) < (l.length : Int)) := by omega
 by_cases hne : chs l = []
 ·have eX : XC nb (chs l) = S 2 1 [] := by unfold XC; rw [if_pos hne]
  rw [eX] at a1
  refine ⟨2, hp1, ?_, a3, fun c hc _ => a4 c hc⟩
  have b5 : B32_5 (S k 1 (LI .u32 (nz l))) (S 2 1 []) (S (rk k) 1 (LI .u32 (nz l))) (.int .i64 (l.length : Int)) (.int .i64 (l.length : Int)) hp1 = some (.tup [S 2 5 [], .sc (.int .i64 0)], hp1) := by
   rw [B32_5_eq]
   simp
   rfl
  rw [← a1] at b5
  have ec : csL (chs l) = [] := by rw [hne]; rfl
  rw [ec, E32]
  simp at b5
  simp [h1', b5]
 ·obtain ⟨c1, c2, c3⟩ := a2 hne
  have eX : XC nb (chs l) = .ms nb 0 0 (chs l).length 5 := by unfold XC; rw [if_neg hne]
  rw [eX] at a1
  have fz : frz1 hp1 (.ms nb 0 0 (chs l).length 5) = some (S 0 5 (csL (chs l)), hp1.del nb) := by
   have gn : getN (csL (chs l)) 0 ((chs l).length * 5) = some (csL (chs l)) := by
    unfold getN
    rw [if_pos (by rw [jm]; omega), List.drop_zero, List.take_of_length_le (by rw [jm]; omega)]
   have hv := csL_vl (chs l)
   have hro := csL_ro (chs l)
   simp only [frz1, c3, Option.bind_some, gn, hv, chk, hro]
   rfl
  refine ⟨0, hp1.del nb, ?_, by simpa [Hp.del] using a3, fun c hc _ => ?_⟩
  ·have b5 : B32_5 (S k 1 (LI .u32 (nz l))) (.ms nb 0 0 (chs l).length 5) (S (rk k) 1 (LI .u32 (nz l))) (.int .i64 (l.length : Int)) (.int .i64 (l.length : Int)) hp1 = some (.tup [S 0 5 (csL (chs l)), .sc (.int .i64 0)], hp1.del nb) := by
    rw [B32_5_eq]
    simp [fz]
   rw [← a1] at b5
   rw [E32]
   simp at b5
   simp [h1', b5]
  ·have : c ≠ nb := by omega
   show (if c = nb then none else hp1.get c) = _
   rw [if_neg this, a4 c hc]
end
def MW (hp : Hp) (m cb : Nat) (cs : List Nat) : Prop :=
 m < hp.next ∧ cb < hp.next ∧ cb ≠ m ∧ hp.rd cb 0 = some (LI .i64 (nz cs)) ∧ hp.rd m 0 = some [.ms cb 0 0 cs.length 1, .sc (.int .i64 (cs.sum : Nat))]
theorem MW.fr {hp hp' : Hp} {m cb : Nat} {cs : List Nat} {X : List Nat} (h : MW hp m cb cs) (f : Fm X hp hp') (h1 : m ∉ X) (h2 : cb ∉ X) : MW hp' m cb cs :=
 ⟨Nat.lt_of_lt_of_le h.1 f.1, Nat.lt_of_lt_of_le h.2.1 f.1, h.2.2.1, by rw [f.rd h.2.1 h2]; exact h.2.2.2.1, by rw [f.rd h.1 h1]; exact h.2.2.2.2⟩
def MN (hp : Hp) (m cb i : Nat) : Prop :=
 m < hp.next ∧ (i ≠ 0 → cb < hp.next ∧ m < cb ∧ hp.rd cb 0 = some (LI .i64 (nz (List.replicate i 1)))) ∧ hp.rd m 0 = some [if i = 0 then S 2 1 [] else .ms cb 0 0 i 1, .sc (.int .i64 (i : Int))]
theorem nz_snoc (l : List Nat) (x : Nat) : nz (l ++ [x]) = nz l ++ [(x : Int)] := by simp [nz]
theorem mnew_loop (m : Nat) : ∀ (f i cb : Nat) (hp : Hp), i + f = 64 → MN hp m cb i →
    ∃ hp' cb', B137_3 (.ptr m 0 0) (.int .i64 64) (.int .i64 (i : Int)) hp = some (.ptr m 0 0, hp') ∧ MN hp' m cb' 64 ∧ hp.next ≤ hp'.next ∧ ∀ c, c < m → hp'.get c = hp.get c := by
  intro f
  induction f with
  | zero =>
    intro i cb hp h hm
    have e : i = 64 := by omega
    subst e
    refine ⟨hp, cb, ?_, hm, Nat.le_refl _, fun _ _ => rfl⟩
    rw [B137_3_eq]
    simp
  | succ f ih =>
    intro i cb hp h hm
    obtain ⟨h1, h2, h3⟩ := hm
    have hlt : (i : Int) < 64 := by omega
    have w1 : IntKind.i64.wrap ((i : Int) + 1) = ((i + 1 : Nat) : Int) := by rw [qg] <;> omega
    by_cases h0 : i = 0
    · subst h0
      have ap := appM_first .i64 1 8 (by decide) hp
      have hne : m ≠ hp.next := by omega
      have r1 := rd_new_ne hp (LI .i64 [1]) hne
      rw [h3] at r1
      have hq : MN ((hp.new (LI .i64 [1])).put m 0 [.ms hp.next 0 0 1 1, .sc (.int .i64 1)]) m hp.next 1 :=
        ⟨by simp; omega, fun _ => ⟨by simp, h1, by rw [zx _ _ (fun e => hne e.symm), qB]; rfl⟩, by rw [qp]; rfl⟩
      obtain ⟨hp2, cb2, a1, a2, a3, a4⟩ := ih 1 hp.next _ (by omega) hq
      refine ⟨hp2, cb2, ?_, a2, by simp at a3; omega, fun c hc => by
        rw [a4 c hc]
        have e1 : c ≠ m := by omega
        have e2 : c ≠ hp.next := by omega
        simp [Hp.put, Hp.new, e1, e2]⟩
      rw [← a1, B137_3_eq]
      simp at r1
      simp [h3, getC, okV, ap, r1, putN, qs, qp, qc]
    · obtain ⟨n1, n2, n3⟩ := h2 h0
      rw [if_neg h0] at h3
      have hne : m ≠ hp.next := by omega
      have hne2 : m ≠ cb := by omega
      have hl : (nz (List.replicate i 1)).length = i := by simp
      have ap := appM_one .i64 (nz (List.replicate i 1)) 1 8 cb (by decide) (by rw [hl]; omega) (by intro e; rw [e] at hl; simp at hl; omega) hp n3
      rw [hl] at ap
      have e1 : nz (List.replicate i 1) ++ [1] = nz (List.replicate (i + 1) 1) := by
        rw [List.replicate_succ', nz_snoc]; rfl
      rw [e1] at ap
      have r1 : ((hp.del cb).new (LI .i64 (nz (List.replicate (i + 1) 1)))).rd m 0 = hp.rd m 0 := (Fm.delNew (X := [cb]) hp cb _ (by simp)).rd h1 (by simp; exact hne2)
      rw [h3] at r1
      have hq : MN (((hp.del cb).new (LI .i64 (nz (List.replicate (i + 1) 1)))).put m 0 [.ms hp.next 0 0 (i + 1) 1, .sc (.int .i64 ((i + 1 : Nat) : Int))]) m hp.next (i + 1) :=
        ⟨by simp [Hp.del]; omega, fun _ => ⟨by simp [Hp.del], h1, by rw [zx _ _ (fun e => hne e.symm)]; exact qB (hp.del cb) _⟩, by rw [qp, if_neg (by omega)]⟩
      obtain ⟨hp2, cb2, a1, a2, a3, a4⟩ := ih (i + 1) hp.next _ (by omega) hq
      refine ⟨hp2, cb2, ?_, a2, by simp [Hp.del] at a3; omega, fun c hc => by
        rw [a4 c hc]
        have e1 : c ≠ m := by omega
        have e2 : c ≠ hp.next := by omega
        have e3 : c ≠ cb := by omega
        simp [Hp.put, Hp.new, Hp.del, e1, e2, e3]⟩
      rw [← a1, B137_3_eq]
      generalize nz (List.replicate (i + 1) 1) = L at *
      generalize ((i + 1 : Nat) : Int) = I at *
      simp [hlt, h3, getC, okV, ap, r1, putN, qs, qp, qc, w1]
theorem run_mnew (hp : Hp) : ∃ hp' cb, run cxX 137 [.sc (.int .i64 64)] hp = some (.ptr hp.next 0 0, hp') ∧ MW hp' hp.next cb cs0 ∧ hp.next < cb ∧ hp.next ≤ hp'.next ∧ ∀ c, c < hp.next → hp'.get c = hp.get c := by
  have h0 : MN (hp.new [S 2 1 [], .sc (.int .i64 0)]) hp.next 0 0 := ⟨by simp, fun h => absurd rfl h, by rw [qB]; rfl⟩
  obtain ⟨hp', cb, a1, a2, a3, a4⟩ := mnew_loop hp.next 64 0 0 _ rfl h0
  obtain ⟨b1, b2, b3⟩ := a2
  obtain ⟨c1, c2, c3⟩ := b2 (by omega)
  refine ⟨hp', cb, ?_, ⟨b1, c1, by omega, c3, by rw [b3]; rfl⟩, c2, by simp at a3; omega, fun c hc => by
    rw [a4 c hc]
    have : c ≠ hp.next := by omega
    simp [Hp.new, this]⟩
  rw [E137]
  have mm : min (max (64 : Int) 1) 64 = 64 := by decide
  simp at a1
  simp [mm, a1]
theorem nz_getD (l : List Nat) (i : Nat) (h : i < l.length) : (nz l).getD i 0 = ((l.getD i 0 : Nat) : Int) := by
 unfold nz
 rw [List.getD_eq_getElem?_getD, List.getD_eq_getElem?_getD, List.getElem?_map, List.getElem?_eq_getElem h]
 rfl
section
variable (hp : Hp) (m cb : Nat) (cs : List Nat) (h : MW hp m cb cs) (hs : cs.sum ≤ 1000000) (hcl : cs.length = 64)
include h
theorem run_msize : run cxX 175 [.ptr m 0 0] hp = some (.sc (.int .i64 (cs.length : Nat)), hp) := by
 obtain ⟨h1, h2, h3, h4, h5⟩ := h
 rw [E175]
 have hln : ∀ a b c d e, lenA (.ms a b c d e) = some d := fun _ _ _ _ _ => rfl
 simp [h5, getC, hln]
theorem run_mall : run cxX 139 [.ptr m 0 0] hp = some (.sc (.int .i64 (cs.sum : Nat)), hp) := by
 obtain ⟨h1, h2, h3, h4, h5⟩ := h
 rw [E139]
 simp [h5, qc]
include hs hcl
theorem part_loop (x : Nat) (hx : x < 64) : ∀ (f i : Nat), i + f = x →
  B138_5 (.ptr m 0 0) (.int .i64 (x : Int)) (.int .i64 ((cs.take i).sum : Nat)) (.ms cb 0 0 x 1) (.int .i64 (x : Int)) (.int .i64 (i : Int)) hp = some (.tup [.sc (.int .i64 ((cs.take x).sum : Nat)), .sc (.int .i64 (cs.getD x 0 : Nat))], hp) := by
 obtain ⟨h1, h2, h3, h4, h5⟩ := h
 have hms : ∀ a b c d e, qR (.ms a b c d e) = some (a, b, c, d, e) := fun _ _ _ _ _ => rfl
 intro f
 induction f with
 | zero =>
  intro i hi
  have e : i = x := by omega
  subst e
  have ix : idx cs.length (.int .i64 (i : Int)) = some i := zr .i64 (by omega)
  have g := getSc_I .i64 (nz cs) i (by simp; omega)
  rw [nz_getD cs i (by omega)] at g
  rw [B138_5_eq]
  generalize (cs.take i).sum = A at *
  generalize cs.getD i 0 = B at *
  simp [h5, getC, hms, ix, h4, g]
 | succ f ih =>
  intro i hi
  have hn := ih (i + 1) (by omega)
  have ix : idx x (.int .i64 (i : Int)) = some i := zr .i64 (by omega)
  have g := getSc_I .i64 (nz cs) i (by simp; omega)
  rw [nz_getD cs i (by omega)] at g
  have st := zq cs i (by omega)
  have sl := zm cs (i + 1)
  have w1 : IntKind.i64.wrap ((((cs.take i).sum : Nat) : Int) + ((cs.getD i 0 : Nat) : Int)) = (((cs.take (i + 1)).sum : Nat) : Int) := by rw [qg] <;> omega
  have w2 : IntKind.i64.wrap ((i : Int) + 1) = ((i + 1 : Nat) : Int) := by rw [qg] <;> omega
  have hlt : (i : Int) < (x : Int) := by omega
  rw [← hn, B138_5_eq]
  generalize (((cs.take i).sum : Nat) : Int) = A at *
  generalize (((cs.take (i + 1)).sum : Nat) : Int) = A1 at *
  generalize ((cs.getD i 0 : Nat) : Int) = B at *
  generalize ((i + 1 : Nat) : Int) = I at *
  simp [hlt, hms, ix, h4, g, w1, w2]
theorem run_part (x : Nat) (hx : x < 64) : run cxX 138 [.ptr m 0 0, .sc (.int .i64 (x : Int))] hp = some (.tup [.sc (.int .i64 ((cs.take x).sum : Nat)), .sc (.int .i64 (cs.getD x 0 : Nat))], hp) := by
 have sz := run_msize hp m cb cs h
 have lp := part_loop hp m cb cs h hs hcl x hx x 0 (by omega)
 obtain ⟨h1, h2, h3, h4, h5⟩ := h
 have hms : ∀ a b c d e, qR (.ms a b c d e) = some (a, b, c, d, e) := fun _ _ _ _ _ => rfl
 have hln : ∀ a b c d e, lenA (.ms a b c d e) = some d := fun _ _ _ _ _ => rfl
 have hn0 : ¬((x : Int) < 0) := by omega
 have hge : ¬((x : Int) ≥ (cs.length : Int)) := by omega
 have b1 : qH 0 (cs.length : Int) (some (.int .i64 (x : Int))) cs.length = some x := bound_nat .i64 (by omega)
 have b3 : B138_3 (.ptr m 0 0) (.int .i64 (x : Int)) hp = some (.tup [.sc (.int .i64 ((cs.take x).sum : Nat)), .sc (.int .i64 (cs.getD x 0 : Nat))], hp) := by
  rw [← lp, B138_3_eq]
  simp [h5, getC, hms, b1, hln]
 rw [E138]
 generalize (cs.take x).sum = A at *
 generalize cs.getD x 0 = B at *
 have hge' : ¬((cs.length : Int) ≤ (x : Int)) := hge
 simp [hn0, sz, hge', b3]
end
def hf (d : List Nat) (i : Nat) : List Nat := (d.take i).map (fun n => (n + 1) / 2) ++ d.drop i
@[simp] theorem hf_len (d : List Nat) (i : Nat) : (hf d i).length = d.length := by unfold hf; simp; omega
theorem hf_get (d : List Nat) (i : Nat) (hi : i < d.length) : (hf d i).getD i 0 = d.getD i 0 := by
 unfold hf
 rw [List.getD_eq_getElem?_getD, List.getElem?_append_right (by simp; omega), List.getD_eq_getElem?_getD]
 simp
 congr 2
 omega
theorem hf_succ (d : List Nat) (i : Nat) (hi : i < d.length) : hf d (i + 1) = (hf d i).set i ((d.getD i 0 + 1) / 2) := by
 have e1 : d.getD i 0 = d[i] := by rw [List.getD_eq_getElem?_getD, List.getElem?_eq_getElem hi]; rfl
 have e2 : d.take (i + 1) = d.take i ++ [d[i]] := by rw [List.take_add_one, List.getElem?_eq_getElem hi]; rfl
 have e3 : d.drop i = d[i] :: d.drop (i + 1) := List.drop_eq_getElem_cons hi
 unfold hf
 rw [e1, e2, e3, List.map_append, List.append_assoc, List.set_append_right _ _ (by simp; omega)]
 have e4 : i - ((d.take i).map fun n => (n + 1) / 2).length = 0 := by simp; omega
 rw [e4]
 rfl
theorem hf_all (d : List Nat) : hf d d.length = d.map fun n => (n + 1) / 2 := by unfold hf; simp
theorem see_loop (m cb : Nat) (d : List Nat) (hd : d.length = 64) (hs : d.sum ≤ 1000000) : ∀ (f i : Nat) (hp : Hp), i + f = 64 → m < hp.next → cb < hp.next → cb ≠ m → hp.rd cb 0 = some (LI .i64 (nz (hf d i))) →
  hp.rd m 0 = some [.ms cb 0 0 64 1, .sc (.int .i64 ((((d.take i).map fun n => (n + 1) / 2).sum : Nat) : Int))] →
  ∃ hp', B141_6 (.ptr m 0 0) (.ms cb 0 0 64 1) (.int .i64 64) (.int .i64 (i : Int)) hp = some (.tup [], hp') ∧ MW hp' m cb (d.map fun n => (n + 1) / 2) ∧ hp'.next = hp.next ∧ ∀ c, c ≠ m → c ≠ cb → hp'.get c = hp.get c := by
 have hms : ∀ a b c d e, qR (.ms a b c d e) = some (a, b, c, d, e) := fun _ _ _ _ _ => rfl
 intro f
 induction f with
 | zero =>
  intro i hp hi h1 h2 h3 h4 h5
  have e : i = 64 := by omega
  subst e
  have ef : hf d 64 = d.map fun n => (n + 1) / 2 := by rw [← hd, hf_all]
  have et : d.take 64 = d := by rw [← hd, List.take_length]
  rw [ef] at h4
  rw [et] at h5
  refine ⟨hp, ?_, ⟨h1, h2, h3, h4, by simp only [List.length_map, hd]; exact h5⟩, rfl, fun _ _ _ => rfl⟩
  rw [B141_6_eq]
  simp
 | succ f ih =>
  intro i hp hi h1 h2 h3 h4 h5
  have hid : i < d.length := by omega
  have hlt : (i : Int) < 64 := by omega
  have ix : idx 64 (.int .i64 (i : Int)) = some i := zr .i64 (by omega)
  have g := getSc_I .i64 (nz (hf d i)) i (by simp; omega)
  rw [nz_getD _ i (by simp; omega), hf_get d i hid] at g
  have hx : d.getD i 0 ≤ 1000000 := by
   have := zq d i hid
   have := zm d (i + 1)
   omega
  have p := putN_I .i64 (nz (hf d i)) i (((d.getD i 0 + 1) / 2 : Nat) : Int) (by simp; omega)
  have es : (nz (hf d i)).set i (((d.getD i 0 + 1) / 2 : Nat) : Int) = nz (hf d (i + 1)) := by
   rw [hf_succ d i hid]; unfold nz; rw [List.map_set]
  rw [es] at p
  have g2 := getSc_I .i64 (nz (hf d (i + 1))) i (by simp; omega)
  have eg : (hf d (i + 1)).getD i 0 = (d.getD i 0 + 1) / 2 := by
   rw [hf_succ d i hid, List.getD_eq_getElem?_getD, List.getElem?_set]
   simp [hid]
  rw [nz_getD _ i (by simp; omega), eg] at g2
  have sm : ((d.take (i + 1)).map fun n => (n + 1) / 2).sum = ((d.take i).map fun n => (n + 1) / 2).sum + (d.getD i 0 + 1) / 2 := by
   have e2 : d.take (i + 1) = d.take i ++ [d.getD i 0] := by
    rw [List.take_add_one, List.getD_eq_getElem?_getD, List.getElem?_eq_getElem hid]; rfl
   rw [e2]; simp
  have sb : ((d.take i).map fun n => (n + 1) / 2).sum ≤ 2000000 := by
   have a := sum_half (d.take i)
   have b := zm d i
   have c : (d.take i).length ≤ 64 := by simp; omega
   omega
  have w1 : IntKind.i64.wrap (((d.getD i 0 : Nat) : Int) + 1) = ((d.getD i 0 + 1 : Nat) : Int) := by rw [qg] <;> omega
  have q2 : ∀ t o o', binV Tryz.prog .quo t o o' (.int .i64 ((d.getD i 0 + 1 : Nat) : Int)) (.int .i64 2) = some (.int .i64 (((d.getD i 0 + 1) / 2 : Nat) : Int)) := by
   intro t o o'
   rw [binV_quo _ _ _ _ _ _ _ (by omega), Int.tdiv_eq_ediv_of_nonneg (by omega), qg (by omega) (by omega)]
   rfl
  have w3 : IntKind.i64.wrap (((((d.take i).map fun n => (n + 1) / 2).sum : Nat) : Int) + (((d.getD i 0 + 1) / 2 : Nat) : Int)) = ((((d.take (i + 1)).map fun n => (n + 1) / 2).sum : Nat) : Int) := by rw [sm, qg] <;> omega
  have w4 : IntKind.i64.wrap ((i : Int) + 1) = ((i + 1 : Nat) : Int) := by rw [qg] <;> omega
  have r5 : ∀ x, (hp.put cb 0 x).rd m 0 = hp.rd m 0 := fun x => zx _ _ (fun e => h3 e.symm)
  obtain ⟨hp2, a1, a2, a3, a4⟩ := ih (i + 1) ((hp.put cb 0 (LI .i64 (nz (hf d (i + 1))))).put m 0 [.ms cb 0 0 64 1, .sc (.int .i64 ((((d.take (i + 1)).map fun n => (n + 1) / 2).sum : Nat) : Int))]) (by omega) (by simpa using h1) (by simpa using h2) h3
   (by rw [zx _ _ h3, qp]) (qp _ _ _)
  refine ⟨hp2, ?_, a2, by rw [a3]; rfl, fun c c1 c2 => by rw [a4 c c1 c2]; simp [Hp.put, c1, c2]⟩
  rw [← a1, B141_6_eq]
  generalize nz (hf d (i + 1)) = L1 at *
  generalize nz (hf d i) = L0 at *
  generalize ((((d.take (i + 1)).map fun n => (n + 1) / 2).sum : Nat) : Int) = S1 at *
  generalize ((((d.take i).map fun n => (n + 1) / 2).sum : Nat) : Int) = S0 at *
  generalize (((d.getD i 0 + 1) / 2 : Nat) : Int) = y2 at *
  generalize ((d.getD i 0 + 1 : Nat) : Int) = y1 at *
  generalize ((d.getD i 0 : Nat) : Int) = y0 at *
  generalize ((i + 1 : Nat) : Int) = I at *
  have gs1 : ∀ (x : AV) (v : Value), qc [x, .sc v] 1 = some v := fun _ _ => rfl
  have gc0 : ∀ (x : AV) (l : List AV), getC (x :: l) 0 = some x := fun _ _ => rfl
  have pn : ∀ (x y z : AV), putN [x, y] 1 [z] = some [x, z] := fun _ _ _ => rfl
  simp [hlt, hms, ix, h4, g, h5, gc0, w1, q2, p, r5, gs1, qp, g2, w3, pn, w4]
theorem run_see (hp : Hp) (m cb x : Nat) (cs : List Nat) (h : MW hp m cb cs) (hm : okM cs) (hx : x < 64) :
  ∃ hp', run cxX 141 [.ptr m 0 0, .sc (.int .i64 (x : Int))] hp = some (.tup [], hp') ∧ MW hp' m cb (see cs x) ∧ hp'.next = hp.next ∧ ∀ c, c ≠ m → c ≠ cb → hp'.get c = hp.get c := by
 have sz := run_msize hp m cb cs h
 obtain ⟨h1, h2, h3, h4, h5⟩ := h
 obtain ⟨m1, m2, m3⟩ := hm
 have hms : ∀ a b c d e, qR (.ms a b c d e) = some (a, b, c, d, e) := fun _ _ _ _ _ => rfl
 have hln : ∀ a b c d e, lenA (.ms a b c d e) = some d := fun _ _ _ _ _ => rfl
 have hn0 : ¬((x : Int) < 0) := by omega
 have hge : ¬((cs.length : Int) ≤ (x : Int)) := by omega
 have ix : idx cs.length (.int .i64 (x : Int)) = some x := zr .i64 (by omega)
 have g := getSc_I .i64 (nz cs) x (by simp; omega)
 rw [nz_getD cs x (by omega)] at g
 have st := zq cs x (by omega)
 have sl := zm cs (x + 1)
 have ss := sum_set cs x (cs.getD x 0 + 24) (by omega)
 have w1 : IntKind.i64.wrap (((cs.getD x 0 : Nat) : Int) + 24) = ((cs.getD x 0 + 24 : Nat) : Int) := by rw [qg] <;> omega
 have p := putN_I .i64 (nz cs) x ((cs.getD x 0 + 24 : Nat) : Int) (by simp; omega)
 have es : (nz cs).set x ((cs.getD x 0 + 24 : Nat) : Int) = nz (cs.set x (cs.getD x 0 + 24)) := by unfold nz; rw [List.map_set]
 rw [es] at p
 have r5 : ∀ y, (hp.put cb 0 y).rd m 0 = hp.rd m 0 := fun y => zx _ _ (fun e => h3 e.symm)
 have w2 : IntKind.i64.wrap (((cs.sum : Nat) : Int) + 24) = (((cs.set x (cs.getD x 0 + 24)).sum : Nat) : Int) := by rw [qg] <;> omega
 have dl : (cs.set x (cs.getD x 0 + 24)).length = 64 := by simp [m1]
 have gs1 : ∀ (x : AV) (v : Value), qc [x, .sc v] 1 = some v := fun _ _ => rfl
 have gc0 : ∀ (x : AV) (l : List AV), getC (x :: l) 0 = some x := fun _ _ => rfl
 have pn : ∀ (x y z : AV), putN [x, y] 1 [z] = some [x, z] := fun _ _ _ => rfl
 rw [m1] at h5 ix sz hge
 unfold see
 generalize cs.set x (cs.getD x 0 + 24) = d at *
 by_cases hle : d.sum ≤ 4096
 ·rw [if_pos hle]
  refine ⟨(hp.put cb 0 (LI .i64 (nz d))).put m 0 [.ms cb 0 0 64 1, .sc (.int .i64 (d.sum : Nat))], ?_, ⟨h1, h2, h3, by rw [zx _ _ h3, qp], by rw [qp, dl]⟩, rfl, fun c c1 c2 => by simp [Hp.put, c1, c2]⟩
  have hle' : ((d.sum : Nat) : Int) ≤ 4096 := by omega
  rw [E141]
  have b1 : B141_1 (.ptr m 0 0) (.int .i64 (x : Int)) hp = some (.tup [], (hp.put cb 0 (LI .i64 (nz d))).put m 0 [.ms cb 0 0 64 1, .sc (.int .i64 (d.sum : Nat))]) := by
   rw [B141_1_eq]
   generalize ((d.sum : Nat) : Int) = D at *
   generalize ((cs.getD x 0 + 24 : Nat) : Int) = y1 at *
   generalize ((cs.getD x 0 : Nat) : Int) = y0 at *
   simp [h5, gc0, hms, ix, h4, g, w1, p, r5, gs1, w2, pn, qp, hle']
  have hge2 : ¬((64 : Int) ≤ (x : Int)) := by omega
  simp [hn0, sz, hge2, b1]
 ·rw [if_neg hle]
  have e0 : hf d 0 = d := by unfold hf; simp
  obtain ⟨hp2, a1, a2, a3, a4⟩ := see_loop m cb d dl (by omega) 64 0 ((hp.put cb 0 (LI .i64 (nz d))).put m 0 [.ms cb 0 0 64 1, .sc (.int .i64 0)]) rfl h1 h2 h3 (by rw [zx _ _ h3, qp, e0]) (by rw [qp]; rfl)
  refine ⟨hp2, ?_, a2, by rw [a3]; rfl, fun c c1 c2 => by rw [a4 c c1 c2]; simp [Hp.put, c1, c2]⟩
  have hle' : ¬(((d.sum : Nat) : Int) ≤ 4096) := by omega
  rw [E141]
  have b1 : B141_1 (.ptr m 0 0) (.int .i64 (x : Int)) hp = some (.tup [], hp2) := by
   rw [← a1, B141_1_eq]
   generalize ((d.sum : Nat) : Int) = D at *
   generalize ((cs.getD x 0 + 24 : Nat) : Int) = y1 at *
   generalize ((cs.getD x 0 : Nat) : Int) = y0 at *
   simp [h5, gc0, hms, ix, h4, g, w1, p, r5, gs1, w2, pn, qp, hle', qs, hln]
  have hge2 : ¬((64 : Int) ≤ (x : Int)) := by omega
  simp [hn0, sz, hge2, b1]
abbrev EC (m : Nat) (s : En) (k : Nat) (n : Nat) : List AV := [.ptr m 0 0, .sc (.int .u64 (s.low : Int)), .sc (.int .u32 (s.width : Int)), .sc (.int .i64 (s.held : Int)), .sc (.int .u8 (s.last : Int)), .sc (.bool s.begun), S k 1 (LI .u8 s.out), .sc (.int .i64 (n : Int))]
theorem and24 (x : Nat) (hx : x < 18446744073709551616) (t : TypeId) (o o' : Operand) : binV Tryz.prog .and t o o' (.int .u64 (x : Int)) (.int .u64 16777215) = some (.int .u64 ((x % 16777216 : Nat) : Int)) := by
 have a := and64 x 16777215 hx (by omega) t o o'
 have e : x &&& 16777215 = x % 16777216 := Nat.and_two_pow_sub_one_eq_mod x 24
 rw [e] at a
 exact a
theorem getOf {hp : Hp} {b : Nat} {x : List AV} (h : hp.rd b 0 = some x) : hp.get b = some (0, x) := by
 unfold Hp.rd at h
 obtain ⟨p, hp1, h⟩ := bsm h
 split at h
 ·rename_i e
  cases h
  rw [hp1]
  obtain ⟨p1, p2⟩ := p
  have : p1 = 0 := e.1
  subst this; rfl
 ·cases h
theorem gs1E (x1 : AV) (v : Value) (r : List AV) : qc (x1 :: .sc v :: r) 1 = some v := rfl
section
variable (e m k n : Nat) (hk : k = 1 ∨ k = 2)
include hk
theorem shift_4 (c : Nat) (hc : c < 256) : ∀ (f : Nat) (s : En) (hp : Hp), s.held = f → s.low < 18446744073709551616 → s.out.length + f ≤ 1000000 → hp.rd e 0 = some (EC m s k n) →
  B140_4 (.ptr e 0 0) (.int .u8 (c : Int)) hp = some (.tup [], hp.put e 0 (EC m ⟨s.low % 16777216 * 256, s.width, 0, s.low / 16777216 % 256, true, s.out ++ List.replicate f (((255 + c) % 256 : Nat) : Int)⟩ k n)) := by
 intro f
 induction f with
 | zero =>
  intro s hp hh hlow hol h
  have sh := fun t o o' => jN .u64 s.low 24 (by decide) t o o' .u64
  have e24 : s.low / 2 ^ 24 = s.low / 16777216 := by omega
  rw [e24] at sh
  have i24 : ((24 : Nat) : Int) = 24 := rfl
  rw [i24] at sh
  have w1 : IntKind.u8.wrap ((s.low / 16777216 : Nat) : Int) = ((s.low / 16777216 % 256 : Nat) : Int) := by rw [jZ]; rfl
  have a := and24 s.low hlow
  have s8 : ∀ t o o', binV Tryz.prog .shl t o o' (.int .u64 ((s.low % 16777216 : Nat) : Int)) (.int .u64 8) = some (.int .u64 ((s.low % 16777216 * 256 : Nat) : Int)) := by
   intro t o o'
   rw [zL _ _ _ _ _ _ _ _ (by omega)]
   have e2 : (2 : Int) ^ min (8 : Int).toNat IntKind.u64.bits = 256 := rfl
   have e3 : ((s.low % 16777216 : Nat) : Int) * 256 = ((s.low % 16777216 * 256 : Nat) : Int) := by omega
   rw [e2, e3, qt (by omega) (by omega)]
  have hh0 : (s.held : Int) = 0 := by omega
  rw [B140_4_eq]
  obtain ⟨low, width, held, last, begun, out⟩ := s
  simp only at h hh hh0 hlow sh w1 a s8
  subst hh
  simp only [EC, List.replicate_zero, List.append_nil] at h ⊢
  generalize ((low % 16777216 * 256 : Nat) : Int) = y1 at *
  generalize ((low % 16777216 : Nat) : Int) = y2 at *
  generalize ((low / 16777216 % 256 : Nat) : Int) = y3 at *
  generalize ((low / 16777216 : Nat) : Int) = y4 at *
  have gs : ∀ (x1 x2 x3 : AV) (v : Value) (r : List AV), qc (x1 :: x2 :: x3 :: .sc v :: r) 3 = some v := fun _ _ _ _ _ => rfl
  have gs1 : ∀ (x1 : AV) (v : Value) (r : List AV), qc (x1 :: .sc v :: r) 1 = some v := fun _ _ _ => rfl
  have p5 : ∀ (x0 x1 x2 x3 x4 x5 x6 x7 z : AV), putN [x0, x1, x2, x3, x4, x5, x6, x7] 5 [z] = some [x0, x1, x2, x3, x4, z, x6, x7] := fun _ _ _ _ _ _ _ _ _ => rfl
  have p4 : ∀ (x0 x1 x2 x3 x4 x5 x6 x7 z : AV), putN [x0, x1, x2, x3, x4, x5, x6, x7] 4 [z] = some [x0, x1, x2, x3, z, x5, x6, x7] := fun _ _ _ _ _ _ _ _ _ => rfl
  have p1 : ∀ (x0 x1 x2 x3 x4 x5 x6 x7 z : AV), putN [x0, x1, x2, x3, x4, x5, x6, x7] 1 [z] = some [x0, z, x2, x3, x4, x5, x6, x7] := fun _ _ _ _ _ _ _ _ _ => rfl
  simp [h, gs, gs1, sh, cv_76_5, w1, p5, p4, p1, qs, qp, B140_9_eq, a, s8, -qL]
 | succ f ih =>
  intro s hp hh hlow hol h
  obtain ⟨low, width, held, last, begun, out⟩ := s
  simp only at h hh hlow hol
  subst hh
  have hpos : ((f + 1 : Nat) : Int) > 0 := by omega
  have w1 : IntKind.u8.wrap (255 + (c : Int)) = (((255 + c) % 256 : Nat) : Int) := by rw [jZ]; rfl
  have w2 : IntKind.i64.wrap (((f + 1 : Nat) : Int) - 1) = (f : Int) := by rw [qg] <;> omega
  have ap := appI .u8 out k hk 1 (by decide) (((255 + c) % 256 : Nat) : Int) (by omega)
  have hi := ih ⟨low, width, f, last, begun, out ++ [(((255 + c) % 256 : Nat) : Int)]⟩ (hp.put e 0 (EC m ⟨low, width, f, last, begun, out ++ [(((255 + c) % 256 : Nat) : Int)]⟩ k n)) rfl hlow (by simp; omega) (qp _ _ _)
  rw [qs] at hi
  have e1 : out ++ List.replicate (f + 1) (((255 + c) % 256 : Nat) : Int) = out ++ [(((255 + c) % 256 : Nat) : Int)] ++ List.replicate f (((255 + c) % 256 : Nat) : Int) := by simp [List.replicate_succ]
  simp only [e1]
  rw [← hi, B140_4_eq]
  generalize (((255 + c) % 256 : Nat) : Int) = y at *
  generalize ((f + 1 : Nat) : Int) = F at *
  simp only [EC] at h
  have gs : ∀ (x1 x2 x3 : AV) (v : Value) (r : List AV), qc (x1 :: x2 :: x3 :: .sc v :: r) 3 = some v := fun _ _ _ _ _ => rfl
  have gc6 : ∀ (x0 x1 x2 x3 x4 x5 x6 x7 : AV), getC [x0, x1, x2, x3, x4, x5, x6, x7] 6 = some x6 := fun _ _ _ _ _ _ _ _ => rfl
  have p6 : ∀ (x0 x1 x2 x3 x4 x5 x6 x7 z : AV), putN [x0, x1, x2, x3, x4, x5, x6, x7] 6 [z] = some [x0, x1, x2, x3, x4, x5, z, x7] := fun _ _ _ _ _ _ _ _ _ => rfl
  have p3 : ∀ (x0 x1 x2 x3 x4 x5 x6 x7 z : AV), putN [x0, x1, x2, x3, x4, x5, x6, x7] 3 [z] = some [x0, x1, x2, z, x4, x5, x6, x7] := fun _ _ _ _ _ _ _ _ _ => rfl
  have st6 : ∀ (x0 x1 x2 x3 x4 x5 x6 x7 z : AV), [x0, x1, x2, x3, x4, x5, x6, x7].set 6 z = [x0, x1, x2, x3, x4, x5, z, x7] := fun _ _ _ _ _ _ _ _ _ => rfl
  have w9 : IntKind.i64.wrap (f : Int) = (f : Int) := qg (by omega) (by omega)
  simp [h, gs, hpos, gc6, w1, okV, ap, st6, qp, p6, qs, w2, w9, p3]
theorem shift_1 (s : En) (hp : Hp) (hlow : s.low < 18446744073709551616) (hol : s.out.length + s.held + 1 ≤ 1000000) (h : hp.rd e 0 = some (EC m s k n)) (c0 : Nat) (hc0 : c0 = s.low / 4294967296) :
  B140_1 (.ptr e 0 0) hp = some (.tup [], hp.put e 0 (EC m ⟨s.low % 16777216 * 256, s.width, 0, s.low / 16777216 % 256, true, s.out ++ (if s.begun then [(((s.last + c0 % 256) % 256 : Nat) : Int)] else []) ++ List.replicate s.held (((255 + c0 % 256) % 256 : Nat) : Int)⟩ k n)) := by
 have gs4 : ∀ (x0 x1 x2 x3 : AV) (v : Value) (r : List AV), qc (x0 :: x1 :: x2 :: x3 :: .sc v :: r) 4 = some v := fun _ _ _ _ _ _ => rfl
 have gs5 : ∀ (x0 x1 x2 x3 x4 : AV) (v : Value) (r : List AV), qc (x0 :: x1 :: x2 :: x3 :: x4 :: .sc v :: r) 5 = some v := fun _ _ _ _ _ _ _ => rfl
 have gc6 : ∀ (x0 x1 x2 x3 x4 x5 x6 x7 : AV), getC [x0, x1, x2, x3, x4, x5, x6, x7] 6 = some x6 := fun _ _ _ _ _ _ _ _ => rfl
 have p6 : ∀ (x0 x1 x2 x3 x4 x5 x6 x7 z : AV), putN [x0, x1, x2, x3, x4, x5, x6, x7] 6 [z] = some [x0, x1, x2, x3, x4, x5, z, x7] := fun _ _ _ _ _ _ _ _ _ => rfl
 have st6 : ∀ (x0 x1 x2 x3 x4 x5 x6 x7 z : AV), [x0, x1, x2, x3, x4, x5, x6, x7].set 6 z = [x0, x1, x2, x3, x4, x5, z, x7] := fun _ _ _ _ _ _ _ _ _ => rfl
 have sh32 : ∀ t o o', binV Tryz.prog .shr t o o' (.int .u64 (s.low : Int)) (.int .u64 32) = some (.int .u64 (c0 : Int)) := by
  intro t o o'
  have a := jN .u64 s.low 32 (by decide) t o o' .u64
  have e32 : s.low / 2 ^ 32 = c0 := by omega
  rw [e32] at a
  exact a
 clear hc0
 have w1 : IntKind.u8.wrap (c0 : Int) = ((c0 % 256 : Nat) : Int) := by rw [jZ]; rfl
 have w2 : IntKind.u8.wrap ((s.last : Int) + ((c0 % 256 : Nat) : Int)) = (((s.last + c0 % 256) % 256 : Nat) : Int) := by rw [jZ]; rfl
 have ap := appI .u8 s.out k hk 1 (by decide) (((s.last + c0 % 256) % 256 : Nat) : Int) (by omega)
 rw [B140_1_eq]
 cases hb : s.begun
 ·have f4 := shift_4 e m k n hk (c0 % 256) (by omega) s.held s hp rfl hlow (by omega) h
  rw [if_neg (by decide), List.append_nil, ← f4]
  simp only [EC, hb] at h
  generalize ((c0 % 256 : Nat) : Int) = cc at *
  simp [h, gs1E, sh32, cv_76_5, w1, gs5]
 ·rw [if_pos rfl]
  have f4 := shift_4 e m k n hk (c0 % 256) (by omega) s.held ⟨s.low, s.width, s.held, s.last, true, s.out ++ [(((s.last + c0 % 256) % 256 : Nat) : Int)]⟩ (hp.put e 0 (EC m ⟨s.low, s.width, s.held, s.last, true, s.out ++ [(((s.last + c0 % 256) % 256 : Nat) : Int)]⟩ k n)) rfl hlow (by simp; omega) (qp _ _ _)
  rw [qs] at f4
  rw [← f4]
  simp only [EC, hb] at h ⊢
  have hg := getOf h
  have sg : ∀ X : AV, sameG (AV.ptr e 0 4, 1) hp.get (hp.put e 0 [AV.ptr m 0 0, .sc (.int .u64 (s.low : Int)), .sc (.int .u32 (s.width : Int)), .sc (.int .i64 (s.held : Int)), .sc (.int .u8 (s.last : Int)), .sc (.bool true), X, .sc (.int .i64 (n : Int))]).get = some () := by
   intro X
   refine sameG_ok ?_
   have e1 : ∀ Y : List AV, (hp.put e 0 Y).get e = some (0, Y) := fun Y => by simp [Hp.put]
   unfold seeG
   simp only [jr, Option.bind_some, hg, e1]
   rfl
  generalize (((s.last + c0 % 256) % 256 : Nat) : Int) = ll at *
  generalize ((c0 % 256 : Nat) : Int) = cc at *
  clear f4
  simp [h, gs1E, sh32, cv_76_5, w1, gs5, gc6, st6, qp, gs4, w2, okV, ap, p6, qs, sg]
omit hk in
theorem shift_8 (s : En) (hp : Hp) (hlow : s.low < 18446744073709551616) (hheld : s.held < 1000000) (h : hp.rd e 0 = some (EC m s k n)) :
  B140_8 (.ptr e 0 0) hp = some (.tup [], hp.put e 0 (EC m ⟨s.low % 16777216 * 256, s.width, s.held + 1, s.last, s.begun, s.out⟩ k n)) := by
 have gs3 : ∀ (x1 x2 x3 : AV) (v : Value) (r : List AV), qc (x1 :: x2 :: x3 :: .sc v :: r) 3 = some v := fun _ _ _ _ _ => rfl
 have p3 : ∀ (x0 x1 x2 x3 x4 x5 x6 x7 z : AV), putN [x0, x1, x2, x3, x4, x5, x6, x7] 3 [z] = some [x0, x1, x2, z, x4, x5, x6, x7] := fun _ _ _ _ _ _ _ _ _ => rfl
 have p1 : ∀ (x0 x1 x2 x3 x4 x5 x6 x7 z : AV), putN [x0, x1, x2, x3, x4, x5, x6, x7] 1 [z] = some [x0, z, x2, x3, x4, x5, x6, x7] := fun _ _ _ _ _ _ _ _ _ => rfl
 have w3 : IntKind.i64.wrap ((s.held : Int) + 1) = ((s.held + 1 : Nat) : Int) := by rw [qg] <;> omega
 have a24 := and24 s.low hlow
 have s8 : ∀ t o o', binV Tryz.prog .shl t o o' (.int .u64 ((s.low % 16777216 : Nat) : Int)) (.int .u64 8) = some (.int .u64 ((s.low % 16777216 * 256 : Nat) : Int)) := by
  intro t o o'
  rw [zL _ _ _ _ _ _ _ _ (by omega)]
  have e2 : (2 : Int) ^ min (8 : Int).toNat IntKind.u64.bits = 256 := rfl
  have e3 : ((s.low % 16777216 : Nat) : Int) * 256 = ((s.low % 16777216 * 256 : Nat) : Int) := by omega
  rw [e2, e3, qt (by omega) (by omega)]
 simp only [EC] at h ⊢
 rw [B140_8_eq]
 generalize ((s.low % 16777216 * 256 : Nat) : Int) = y1 at *
 generalize ((s.low % 16777216 : Nat) : Int) = y2 at *
 generalize ((s.held + 1 : Nat) : Int) = hh at *
 simp [h, gs3, w3, p3, qp, qs, B140_9_eq, gs1E, a24, s8, p1, -qL]
theorem run_shift (s : En) (hp : Hp) (hlow : s.low < 18446744073709551616) (hheld : s.held < 1000000) (hol : s.out.length + s.held + 1 ≤ 1000000) (h : hp.rd e 0 = some (EC m s k n)) :
  run cxX 140 [.ptr e 0 0] hp = some (.tup [], hp.put e 0 (EC m (sh s) k n)) := by
 have s1 := shift_1 e m k n hk s hp hlow hol h _ rfl
 have s8 := shift_8 e m k n s hp hlow hheld h
 have hR : hp.rd e 0 = some (AV.ptr m 0 0 :: .sc (.int .u64 (s.low : Int)) :: (EC m s k n).drop 2) := h
 rw [E140]
 by_cases hA : s.low < 4278190080 ∨ 4294967296 ≤ s.low
 ·have es : sh s = ⟨s.low % 16777216 * 256, s.width, 0, s.low / 16777216 % 256, true, s.out ++ (if s.begun then [(((s.last + s.low / 4294967296 % 256) % 256 : Nat) : Int)] else []) ++ List.replicate s.held (((255 + s.low / 4294967296 % 256) % 256 : Nat) : Int)⟩ := by
   unfold sh; rw [if_pos hA]
  rw [← es] at s1
  by_cases h1 : s.low < 4278190080
  ·have d1 : decide ((s.low : Int) < Int.ofNat 4278190080) = true := decide_eq_true (by show (s.low : Int) < ((4278190080 : Nat) : Int); omega)
   rw [ro_ptr, nnA_ptr, Option.bind_some, jr, Option.bind_some, hR, Option.bind_some, gs1E, Option.bind_some, jI, Option.bind_some, qW, Option.bind_some, d1, cond_true, s1]
  ·have d1 : decide ((s.low : Int) < Int.ofNat 4278190080) = false := decide_eq_false (by show ¬((s.low : Int) < ((4278190080 : Nat) : Int)); omega)
   have d2 : decide ((s.low : Int) ≥ Int.ofNat 4294967296) = true := decide_eq_true (by show (s.low : Int) ≥ ((4294967296 : Nat) : Int); omega)
   rw [ro_ptr, nnA_ptr, Option.bind_some, jr, Option.bind_some, hR, Option.bind_some, gs1E, Option.bind_some, jI, Option.bind_some, qW, Option.bind_some, d1, cond_false, Option.bind_some, Option.bind_some, hR, Option.bind_some, gs1E, Option.bind_some, yU, Option.bind_some, qW, Option.bind_some, d2, cond_true, s1]
 ·have es : sh s = ⟨s.low % 16777216 * 256, s.width, s.held + 1, s.last, s.begun, s.out⟩ := by
   unfold sh; rw [if_neg hA]
  rw [← es] at s8
  have d1 : decide ((s.low : Int) < Int.ofNat 4278190080) = false := decide_eq_false (by show ¬((s.low : Int) < ((4278190080 : Nat) : Int)); omega)
  have d2 : decide ((s.low : Int) ≥ Int.ofNat 4294967296) = false := decide_eq_false (by show ¬((s.low : Int) ≥ ((4294967296 : Nat) : Int)); omega)
  rw [ro_ptr, nnA_ptr, Option.bind_some, jr, Option.bind_some, hR, Option.bind_some, gs1E, Option.bind_some, jI, Option.bind_some, qW, Option.bind_some, d1, cond_false, Option.bind_some, Option.bind_some, hR, Option.bind_some, gs1E, Option.bind_some, yU, Option.bind_some, qW, Option.bind_some, d2, cond_false, s8]
end
def EW (hp : Hp) (e m cb : Nat) (s : En) (cs : List Nat) (k n : Nat) : Prop := e < hp.next ∧ hp.rd e 0 = some (EC m s k n) ∧ MW hp m cb cs ∧ e ≠ m ∧ e ≠ cb
def F3 (e m cb : Nat) (hp hp' : Hp) : Prop := hp'.next = hp.next ∧ ∀ c, c ≠ e → c ≠ m → c ≠ cb → hp'.get c = hp.get c
theorem F3.trans {e m cb : Nat} {a b c : Hp} (h : F3 e m cb a b) (g : F3 e m cb b c) : F3 e m cb a c :=
 ⟨by rw [g.1, h.1], fun x h1 h2 h3 => by rw [g.2 x h1 h2 h3, h.2 x h1 h2 h3]⟩
theorem EW.put {hp : Hp} {e m cb : Nat} {s s' : En} {cs : List Nat} {k n k' n' : Nat} (h : EW hp e m cb s cs k n) : EW (hp.put e 0 (EC m s' k' n')) e m cb s' cs k' n' ∧ F3 e m cb hp (hp.put e 0 (EC m s' k' n')) := by
 obtain ⟨h1, h2, h3, h4, h5⟩ := h
 refine ⟨⟨h1, qp _ _ _, h3.fr (Fm.put (X := [e]) hp e _ (by simp)) (by simp; exact fun q => h4 q.symm) (by simp; exact fun q => h5 q.symm), h4, h5⟩, rfl, fun c c1 c2 c3 => by simp [Hp.put, c1]⟩
theorem gs2E (x0 x1 : AV) (v : Value) (r : List AV) : qc (x0 :: x1 :: .sc v :: r) 2 = some v := rfl
section
variable (e m cb k : Nat) (hk : k = 1 ∨ k = 2)
include hk
theorem norm_loop (x : Nat) (hx : x < 64) (cs : List Nat) (hm : okM cs) (n : Nat) (hn : n < 1000000) : ∀ (f : Nat) (s : En) (hp : Hp), EW hp e m cb s cs k n → okE s s.width → s.width < 4294967296 → 4294967296 ≤ s.width * 256 ^ f * 256 → eK s + f ≤ 900000 →
  ∃ hp', B89_9 (.ptr e 0 0) (.int .i64 (x : Int)) hp = some (.sc (.bool true), hp') ∧ EW hp' e m cb (norm f s) (see cs x) k (n + 1) ∧ F3 e m cb hp hp' := by
 intro f
 have gs2 : ∀ (x0 x1 : AV) (v : Value) (r : List AV), qc (x0 :: x1 :: .sc v :: r) 2 = some v := fun _ _ _ _ => rfl
 have gs7 : ∀ (x0 x1 x2 x3 x4 x5 x6 : AV) (v : Value), qc [x0, x1, x2, x3, x4, x5, x6, .sc v] 7 = some v := fun _ _ _ _ _ _ _ _ => rfl
 have gc0 : ∀ (x : AV) (l : List AV), getC (x :: l) 0 = some x := fun _ _ => rfl
 have p7 : ∀ (x0 x1 x2 x3 x4 x5 x6 x7 z : AV), putN [x0, x1, x2, x3, x4, x5, x6, x7] 7 [z] = some [x0, x1, x2, x3, x4, x5, x6, z] := fun _ _ _ _ _ _ _ _ _ => rfl
 have p2 : ∀ (x0 x1 x2 x3 x4 x5 x6 x7 z : AV), putN [x0, x1, x2, x3, x4, x5, x6, x7] 2 [z] = some [x0, x1, z, x3, x4, x5, x6, x7] := fun _ _ _ _ _ _ _ _ _ => rfl
 have done : ∀ (s : En) (hp : Hp), EW hp e m cb s cs k n → ¬(s.width < 16777216) → ∃ hp', B89_9 (.ptr e 0 0) (.int .i64 (x : Int)) hp = some (.sc (.bool true), hp') ∧ EW hp' e m cb s (see cs x) k (n + 1) ∧ F3 e m cb hp hp' := by
  intro s hp h hw
  obtain ⟨h1, h2, h3, h4, h5⟩ := h
  obtain ⟨hp1, a1, a2, a3, a4⟩ := run_see hp m cb x cs h3 hm hx
  have r1 : hp1.rd e 0 = some (EC m s k n) := by rw [rdg (a4 e h4 h5)]; exact h2
  have w1 : IntKind.i64.wrap ((n : Int) + 1) = ((n + 1 : Nat) : Int) := by rw [qg] <;> omega
  have hE : EW hp1 e m cb s (see cs x) k n := ⟨by rw [a3]; exact h1, r1, a2, h4, h5⟩
  obtain ⟨q1, q2⟩ := hE.put (s' := s) (k' := k) (n' := n + 1)
  refine ⟨hp1.put e 0 (EC m s k (n + 1)), ?_, q1, ⟨by rw [q2.1, a3], fun c c1 c2 c3 => by rw [q2.2 c c1 c2 c3, a4 c c2 c3]⟩⟩
  have d1 : decide ((s.width : Int) < Int.ofNat 16777216) = false := decide_eq_false (by show ¬((s.width : Int) < ((16777216 : Nat) : Int)); omega)
  clear hw
  simp only [EC] at h2 r1 ⊢
  rw [B89_9_eq]
  generalize ((n + 1 : Nat) : Int) = N at *
  rw [ro_ptr, nnA_ptr, Option.bind_some, jr, Option.bind_some, h2, Option.bind_some, gs2E, Option.bind_some, jI, Option.bind_some, qW, Option.bind_some, d1, cond_false]
  clear d1
  simp [h2, gs2, gc0, a1, r1, gs7, w1, p7]
 induction f with
 | zero =>
  intro s hp h ho hw hf hK
  exact done s hp h (by simp at hf; omega)
 | succ f ih =>
  intro s hp h ho hw hf hK
  by_cases hl : s.width < 16777216
  ·have en : norm (f + 1) s = norm f (sh (wid s (s.width * 256))) := by
    show (if s.width < 16777216 then _ else _) = _
    rw [if_pos hl]
   have h' : okE (wid s (s.width * 256)) s.width := ho
   obtain ⟨a1, a2, a3, a4⟩ := sh_ok (wid s (s.width * 256)) s.width h' (by omega)
   have a4 : (sh (wid s (s.width * 256))).width = s.width * 256 := a4
   have a3 : eK (sh (wid s (s.width * 256))) = eK s + 1 := a3
   have hf2 : 4294967296 ≤ s.width * 256 * 256 ^ f * 256 := by
    rw [Nat.pow_succ] at hf
    have e : s.width * (256 ^ f * 256) * 256 = s.width * 256 * 256 ^ f * 256 := by
     rw [Nat.mul_assoc s.width 256, Nat.mul_comm 256 (256 ^ f)]
    rwa [e] at hf
   obtain ⟨q1, q2⟩ := h.put (s' := wid s (s.width * 256)) (k' := k) (n' := n)
   have hlow : s.low < 18446744073709551616 := by have := ho.1; omega
   have hkk : s.out.length + s.begun.toNat + s.held ≤ 900000 := by have : eK s = s.out.length + s.begun.toNat + s.held := rfl; omega
   have sf := run_shift e m k n hk (wid s (s.width * 256)) _ hlow (by show s.held < _; omega) (by show s.out.length + s.held + 1 ≤ _; omega) q1.2.1
   rw [qs] at sf
   obtain ⟨v1, v2⟩ := h.put (s' := sh (wid s (s.width * 256))) (k' := k) (n' := n)
   obtain ⟨hp2, b1, b2, b3⟩ := ih (sh (wid s (s.width * 256))) _ v1 (by rw [a4]; exact a1) (by rw [a4]; omega) (by rw [a4]; exact hf2) (by omega)
   rw [en]
   refine ⟨hp2, ?_, b2, v2.trans b3⟩
   have d1 : decide ((s.width : Int) < Int.ofNat 16777216) = true := decide_eq_true (by show (s.width : Int) < ((16777216 : Nat) : Int); omega)
   have s8 : ∀ t o o', binV Tryz.prog .shl t o o' (.int .u32 (s.width : Int)) (.int .u64 8) = some (.int .u32 ((s.width * 256 : Nat) : Int)) := by
    intro t o o'
    rw [zL _ _ _ _ _ _ _ _ (by omega)]
    have e2 : (2 : Int) ^ min (8 : Int).toNat IntKind.u32.bits = 256 := rfl
    have e3 : (s.width : Int) * 256 = ((s.width * 256 : Nat) : Int) := by omega
    rw [e2, e3, zi (by omega) (by omega)]
   have h2 := h.2.1
   have ew : EC m (wid s (s.width * 256)) k n = [.ptr m 0 0, .sc (.int .u64 (s.low : Int)), .sc (.int .u32 ((s.width * 256 : Nat) : Int)), .sc (.int .i64 (s.held : Int)), .sc (.int .u8 (s.last : Int)), .sc (.bool s.begun), S k 1 (LI .u8 s.out), .sc (.int .i64 (n : Int))] := rfl
   rw [ew] at sf
   simp only [EC] at h2
   rw [← b1, B89_9_eq]
   generalize ((s.width * 256 : Nat) : Int) = W at *
   rw [ro_ptr, nnA_ptr, Option.bind_some, jr, Option.bind_some, h2, Option.bind_some, gs2E, Option.bind_some, jI, Option.bind_some, qW, Option.bind_some, d1, cond_true]
   clear d1
   simp [h2, gs2, s8, p2, sf]
  ·have en : norm (f + 1) s = s := by
    show (if s.width < 16777216 then _ else _) = _
    rw [if_neg hl]
   rw [en]
   exact done s hp h hl
theorem run_eput (x : Nat) (hx : x < 64) (cs : List Nat) (hm : okM cs) (n : Nat) (hn : n < 1000000) (s : En) (hp : Hp) (h : EW hp e m cb s cs k n) (ho : okE s s.width) (hw : 16777216 ≤ s.width ∧ s.width < 4294967296) (hK : eK s + 4 ≤ 900000) :
    ∃ hp', run cxX 89 [.ptr e 0 0, .sc (.int .i64 (x : Int))] hp = some (.sc (.bool true), hp') ∧ EW hp' e m cb (norm 4 (nar s cs x)) (see cs x) k (n + 1) ∧ F3 e m cb hp hp' := by
  obtain ⟨m1, m2, m3⟩ := hm
  have hn1 : 1 ≤ cs.getD x 0 := by
    rw [List.getD_eq_getElem?_getD, List.getElem?_eq_getElem (by omega)]
    exact m3 _ (List.getElem_mem _)
  have ht := zq cs x (by omega)
  have hta := zm cs (x + 1)
  have hpart : 4096 ≤ s.width / cs.sum := by
    rw [Nat.le_div_iff_mul_le (by omega)]
    have : 4096 * cs.sum ≤ 4096 * 4096 := Nat.mul_le_mul_left _ m2
    omega
  have hmul : s.width / cs.sum * cs.sum ≤ s.width := Nat.div_mul_le_self _ _
  have hsum : s.width / cs.sum * (cs.take x).sum + s.width / cs.sum * cs.getD x 0 ≤ s.width := by
    rw [← Nat.mul_add, ← ht]
    exact Nat.le_trans (Nat.mul_le_mul_left _ hta) hmul
  have hge : s.width / cs.sum * 1 ≤ s.width / cs.sum * cs.getD x 0 := Nat.mul_le_mul_left _ hn1
  have hpw : s.width / cs.sum ≤ s.width := Nat.div_le_self _ _
  obtain ⟨o1, o2, o3, o4⟩ := ho
  have ok : okE (nar s cs x) (nar s cs x).width := by
    refine ⟨?_, o2, ?_, fun q => ?_⟩
    · show s.low + s.width / cs.sum * (cs.take x).sum + s.width / cs.sum * cs.getD x 0 ≤ _; omega
    · show 0 < s.width / cs.sum * cs.getD x 0; omega
    · have := o4 q
      show s.low + s.width / cs.sum * (cs.take x).sum + s.width / cs.sum * cs.getD x 0 ≤ _; omega
  obtain ⟨q1, q2⟩ := h.put (s' := nar s cs x) (k' := k) (n' := n)
  obtain ⟨hp1, b1, b2, b3⟩ := norm_loop e m cb k hk x hx cs ⟨m1, m2, m3⟩ n hn 4 (nar s cs x) _ q1 ok (by show s.width / cs.sum * cs.getD x 0 < _; omega) (by
    show 4294967296 ≤ s.width / cs.sum * cs.getD x 0 * 256 ^ 4 * 256
    have e : (256 : Nat) ^ 4 = 4294967296 := by decide
    rw [e]
    omega) hK
  refine ⟨hp1, ?_, b2, q2.trans b3⟩
  have pt := run_part hp m cb cs h.2.2.1 (by omega) m1 x hx
  have al := run_mall hp m cb cs h.2.2.1
  have h2 := h.2.1
  have en : EC m (nar s cs x) k n = [.ptr m 0 0, .sc (.int .u64 ((s.low + s.width / cs.sum * (cs.take x).sum : Nat) : Int)), .sc (.int .u32 ((s.width / cs.sum * cs.getD x 0 : Nat) : Int)), .sc (.int .i64 (s.held : Int)), .sc (.int .u8 (s.last : Int)), .sc (.bool s.begun), S k 1 (LI .u8 s.out), .sc (.int .i64 (n : Int))] := rfl
  rw [en] at b1
  have gs2 : ∀ (x0 x1 : AV) (v : Value) (r : List AV), qc (x0 :: x1 :: .sc v :: r) 2 = some v := fun _ _ _ _ => rfl
  have gc0 : ∀ (x : AV) (l : List AV), getC (x :: l) 0 = some x := fun _ _ => rfl
  have p1 : ∀ (x0 x1 x2 x3 x4 x5 x6 x7 z : AV), putN [x0, x1, x2, x3, x4, x5, x6, x7] 1 [z] = some [x0, z, x2, x3, x4, x5, x6, x7] := fun _ _ _ _ _ _ _ _ _ => rfl
  have p2 : ∀ (x0 x1 x2 x3 x4 x5 x6 x7 z : AV), putN [x0, x1, x2, x3, x4, x5, x6, x7] 2 [z] = some [x0, x1, z, x3, x4, x5, x6, x7] := fun _ _ _ _ _ _ _ _ _ => rfl
  have w1 : IntKind.u32.wrap ((cs.sum : Nat) : Int) = ((cs.sum : Nat) : Int) := zi (by omega) (by omega)
  have qd : ∀ t o o', binV Tryz.prog .quo t o o' (.int .u32 (s.width : Int)) (.int .u32 (cs.sum : Nat)) = some (.int .u32 ((s.width / cs.sum : Nat) : Int)) := by
    intro t o o'
    rw [binV_quo _ _ _ _ _ _ _ (by omega), Int.tdiv_eq_ediv_of_nonneg (by omega)]
    have e : (s.width : Int) / ((cs.sum : Nat) : Int) = ((s.width / cs.sum : Nat) : Int) := by simp
    rw [e, zi (by omega) (by omega)]
  have hcx : cs.getD x 0 ≤ 4096 := by omega
  have htx : (cs.take x).sum ≤ 4096 := by omega
  simp only [EC] at h2
  rw [E89]
  have hz : ¬(cs.getD x 0 = 0) := by omega
  have e1 : ((s.width / cs.sum : Nat) : Int) * (((cs.take x).sum : Nat) : Int) = ((s.width / cs.sum * (cs.take x).sum : Nat) : Int) := by simp
  have e2 : ((s.width / cs.sum : Nat) : Int) * ((cs.getD x 0 : Nat) : Int) = ((s.width / cs.sum * cs.getD x 0 : Nat) : Int) := by simp
  generalize hA : s.width / cs.sum * (cs.take x).sum = A at *
  generalize hB : s.width / cs.sum * cs.getD x 0 = B at *
  generalize s.width / cs.sum = p at *
  generalize (cs.take x).sum = tk at *
  generalize cs.getD x 0 = gx at *
  have w2 : IntKind.u64.wrap (p : Int) = (p : Int) := qt (by omega) (by omega)
  have w3 : IntKind.u64.wrap (tk : Int) = (tk : Int) := qt (by omega) (by omega)
  have w4 : IntKind.u64.wrap ((p : Int) * (tk : Int)) = (A : Int) := by rw [e1, qt (by omega) (by omega)]
  have w5 : IntKind.u64.wrap ((s.low : Int) + (A : Int)) = ((s.low + A : Nat) : Int) := by rw [qt] <;> omega
  have w6 : IntKind.u32.wrap (gx : Int) = (gx : Int) := zi (by omega) (by omega)
  have w7 : IntKind.u32.wrap ((p : Int) * (gx : Int)) = (B : Int) := by rw [e2, zi (by omega) (by omega)]
  generalize ((s.low + A : Nat) : Int) = LA at *
  simp [h2, gc0, pt, hz, gs2, al, cv_3_30, w1, qd, gs1E, ze, w2, yH, w3, w4, w5, p1, w6, w7, qp, p2, qs, b1]
end
theorem norm_lt : ∀ (f : Nat) (s : En), s.width < 4294967296 → (norm f s).width < 4294967296 := by
 intro f
 induction f with
 | zero => intro s h; exact h
 | succ f ih =>
  intro s h
  unfold norm
  split
  ·apply ih
   have : (sh (wid s (s.width * 256))).width = s.width * 256 := by unfold sh; split <;> rfl
   rw [this]; omega
  ·exact h
theorem pow_d {B d : Nat} (h1 : 1 ≤ B) (h2 : B * 256 ^ d ≤ 4294967296) : d ≤ 4 := by
 by_cases h : d ≤ 4
 ·exact h
 ·have h3 : (256 : Nat) ^ 5 ≤ 256 ^ d := Nat.pow_le_pow_right (by decide) (by omega)
  have h4 : 1 * 256 ^ d ≤ B * 256 ^ d := Nat.mul_le_mul_right _ h1
  have h5 : (256 : Nat) ^ 5 = 1099511627776 := by decide
  omega
theorem ebytes_loop (b m n : Nat) : ∀ (f i : Nat) (s : En) (hp : Hp), i + f = 5 → okE s 1 → eK s + f ≤ 950000 → hp.rd b 0 = some (EC m s 1 n) →
  ∃ s', (s' = (Nat.rec s (fun _ t => sh t) f : En)) ∧ ∃ hp', B90_6 (.ptr b 0 0) (.int .i64 (i : Int)) hp = some (S 1 1 (LI .u8 s'.out), hp') ∧ hp'.next = hp.next ∧ ∀ c, c ≠ b → hp'.get c = hp.get c := by
 intro f
 induction f with
 | zero =>
  intro i s hp h ho hK hr
  have e : i = 5 := by omega
  subst e
  refine ⟨s, rfl, hp.put b 0 ((EC m s 1 n).set 6 (ro1 (S 1 1 (LI .u8 s.out)))), ?_, rfl, fun c hc => by simp [Hp.put, hc]⟩
  rw [B90_6_eq]
  have gc6 : ∀ (x0 x1 x2 x3 x4 x5 x6 x7 : AV), getC [x0, x1, x2, x3, x4, x5, x6, x7] 6 = some x6 := fun _ _ _ _ _ _ _ _ => rfl
  simp only [EC] at hr ⊢
  simp [hr, gc6]
 | succ f ih =>
  intro i s hp h ho hK hr
  have s1 := sh_ok s 1 ho (by omega)
  have hkk : eK s = s.out.length + s.begun.toNat + s.held := rfl
  have sf := run_shift b m 1 n (.inl rfl) s hp (by have := ho.1; omega) (by omega) (by omega) hr
  obtain ⟨s', e1, hp2, a1, a2, a3⟩ := ih (i + 1) (sh s) (hp.put b 0 (EC m (sh s) 1 n)) (by omega) (okE_le s1.1 (by omega) (by omega)) (by rw [s1.2.2.1]; omega) (qp _ _ _)
  have er : ∀ (f : Nat) (s : En), (Nat.rec (sh s) (fun _ t => sh t) f : En) = sh (Nat.rec s (fun _ t => sh t) f : En) := by
   intro f s
   induction f with
   | zero => rfl
   | succ f ihf => show sh _ = sh (sh _); rw [ihf]
  refine ⟨s', by rw [e1, er], hp2, ?_, by rw [a2]; rfl, fun c hc => by rw [a3 c hc]; simp [Hp.put, hc]⟩
  have hlt : (i : Int) < 5 := by omega
  have w1 : IntKind.i64.wrap ((i : Int) + 1) = ((i + 1 : Nat) : Int) := by rw [qg] <;> omega
  rw [← a1, B90_6_eq]
  generalize ((i + 1 : Nat) : Int) = I at *
  simp [hlt, sf, w1]
theorem run_ebytes (e m n k : Nat) (s : En) (hp : Hp) (he : e < hp.next) (ho : okE s 1) (hK : eK s + 5 ≤ 950000) (hr : hp.rd e 0 = some (EC m s k n)) :
    ∃ hp', run cxX 90 [.ptr e 0 0] hp = some (S 1 1 (LI .u8 (sh (sh (sh (sh (sh s))))).out), hp') ∧ Fm [] hp hp' := by
  have hkk : eK s = s.out.length + s.begun.toNat + s.held := rfl
  obtain ⟨s', e1, hp2, a1, a2, a3⟩ := ebytes_loop hp.next m n 5 0 s (hp.new (EC m s 1 n)) rfl ho hK (qB _ _)
  have e1 : s' = sh (sh (sh (sh (sh s)))) := e1
  rw [e1] at a1
  refine ⟨hp2, ?_, by rw [a2]; simp, fun c hc _ => by
    have : c ≠ hp.next := by omega
    rw [a3 c this]; simp [Hp.new, this]⟩
  have gn : ∀ (x0 x1 x2 x3 x4 x5 x6 x7 : AV), getN [x0, x1, x2, x3, x4, x5, x6, x7] 0 8 = some [x0, x1, x2, x3, x4, x5, x6, x7] := fun _ _ _ _ _ _ _ _ => rfl
  have gc6 : ∀ (x0 x1 x2 x3 x4 x5 x6 x7 : AV), getC [x0, x1, x2, x3, x4, x5, x6, x7] 6 = some x6 := fun _ _ _ _ _ _ _ _ => rfl
  have p8 : ∀ (a0 a1 a2 a3 a4 a5 a6 a7 x0 x1 x2 x3 x4 x5 x6 x7 : AV), putN [a0, a1, a2, a3, a4, a5, a6, a7] 0 [x0, x1, x2, x3, x4, x5, x6, x7] = some [x0, x1, x2, x3, x4, x5, x6, x7] := fun _ _ _ _ _ _ _ _ _ _ _ _ _ _ _ _ => rfl
  have p6 : ∀ (x0 x1 x2 x3 x4 x5 x6 x7 z : AV), putN [x0, x1, x2, x3, x4, x5, x6, x7] 6 [z] = some [x0, x1, x2, x3, x4, x5, z, x7] := fun _ _ _ _ _ _ _ _ _ => rfl
  have ap := fun k => appsI .u8 [] 1 (.inl rfl) 1 (by decide) k s.out (by simp; omega)
  simp at ap
  have hne : e ≠ hp.next := by omega
  have r1 : ∀ X, (hp.new X).rd e 0 = hp.rd e 0 := fun X => rd_new_ne hp X hne
  generalize (sh (sh (sh (sh (sh s))))).out = O at *
  simp only [EC] at hr a1
  rw [E90]
  simp at a1
  simp [hr, gn, qB, zF, p8, okV, r1, gc6, ap, p6, a1]
theorem run_newenc (hp : Hp) : ∃ hp' e m cb, run cxX 88 [.sc (.int .i64 64)] hp = some (.ptr e 0 0, hp') ∧ EW hp' e m cb en0 cs0 2 0 ∧ hp.next ≤ e ∧ hp.next ≤ m ∧ hp.next ≤ cb ∧ hp.next ≤ hp'.next ∧ ∀ c, c < hp.next → hp'.get c = hp.get c := by
  obtain ⟨hp1, cb, a1, a2, a3, a4, a5⟩ := run_mnew hp
  have hcb := a2.2.1
  have hm := a2.1
  refine ⟨hp1.new (EC hp.next en0 2 0), hp1.next, hp.next, cb, ?_, ⟨by simp, qB _ _, a2.fr (Fm.new [] hp1 _) (by simp) (by simp), by omega, by omega⟩, a4, Nat.le_refl _, by omega, by simp; omega, fun c hc => by
    have : c ≠ hp1.next := by omega
    rw [← a5 c hc]
    simp [Hp.new, this]⟩
  have p0 : ∀ (x0 x1 x2 x3 x4 x5 x6 x7 z : AV), putN [x0, x1, x2, x3, x4, x5, x6, x7] 0 [z] = some [z, x1, x2, x3, x4, x5, x6, x7] := fun _ _ _ _ _ _ _ _ _ => rfl
  have p2 : ∀ (x0 x1 x2 x3 x4 x5 x6 x7 z : AV), putN [x0, x1, x2, x3, x4, x5, x6, x7] 2 [z] = some [x0, x1, z, x3, x4, x5, x6, x7] := fun _ _ _ _ _ _ _ _ _ => rfl
  rw [E88]
  simp [a1, p0, p2]
  rfl
theorem cput_loop (l : List Nat) (k' e m cb : Nat) (hl : l.length ≤ 100000) (h64 : ∀ x ∈ l, x < 64) : ∀ (r : List Nat) (i : Nat) (s : En) (cs : List Nat) (hp : Hp), l.drop i = r → i + r.length = l.length → EW hp e m cb s cs 2 i → okM cs → okE s s.width → 16777216 ≤ s.width ∧ s.width < 4294967296 → eK s ≤ 4 * i →
  ∃ hp' cs', B37_5 (.ptr e 0 0) (S k' 1 (LI .u8 (nz l))) (.int .i64 (l.length : Int)) (.int .i64 (i : Int)) hp = B37_5 (.ptr e 0 0) (S k' 1 (LI .u8 (nz l))) (.int .i64 (l.length : Int)) (.int .i64 (l.length : Int)) hp' ∧
   EW hp' e m cb (enc cs s r) cs' 2 l.length ∧ F3 e m cb hp hp' ∧ okE (enc cs s r) (enc cs s r).width ∧ eK (enc cs s r) ≤ 4 * l.length := by
 intro r
 induction r with
 | nil =>
  intro i s cs hp h hil hE hm ho hw hK
  have e : i = l.length := by simpa using hil
  subst e
  exact ⟨hp, cs, rfl, hE, ⟨rfl, fun _ _ _ _ => rfl⟩, ho, hK⟩
 | cons x r ih =>
  intro i s cs hp h hil hE hm ho hw hK
  obtain ⟨e1, e2, hi, e3⟩ := qr h
  simp only [List.length_cons] at hil
  have hx : x < 64 := h64 x (by rw [← e3]; exact List.getElem_mem _)
  obtain ⟨d, b1, b2, b3, b4, b5, b6, b7⟩ := add_ok s cs x hm hx ho ⟨hw.1, Nat.le_of_lt hw.2⟩
  have hd : d ≤ 4 := pow_d b7 (by rw [← b2]; exact b6)
  have hlt2 : (norm 4 (nar s cs x)).width < 4294967296 := by
   apply norm_lt
   show s.width / cs.sum * cs.getD x 0 < _
   have ht := zq cs x (by have := hm.1; omega)
   have hta := zm cs (x + 1)
   have hmul : s.width / cs.sum * cs.sum ≤ s.width := Nat.div_mul_le_self _ _
   have hle : s.width / cs.sum * cs.getD x 0 ≤ s.width / cs.sum * cs.sum := Nat.mul_le_mul_left _ (by omega)
   omega
  obtain ⟨hp1, c1, c2, c3⟩ := run_eput e m cb 2 (.inr rfl) x hx cs hm i (by omega) s hp hE ho hw (by omega)
  obtain ⟨hp2, cs2, d1, d2, d3, d4, d5⟩ := ih (i + 1) (norm 4 (nar s cs x)) (see cs x) hp1 e2 (by omega) c2 (see_ok hm hx) b4 ⟨b5, hlt2⟩ (by omega)
  have ee : enc cs s (x :: r) = enc (see cs x) (norm 4 (nar s cs x)) r := rfl
  rw [ee]
  refine ⟨hp2, cs2, ?_, d2, c3.trans d3, d4, d5⟩
  have hlt : (i : Int) < (l.length : Int) := by omega
  have gs0 : ∀ (v : Value), qc [.sc v] 0 = some v := fun _ => rfl
  have en : ∀ h, (nz l)[i]'h = (x : Int) := fun h => by simp [nz, e3]
  have hi4 : (i < l.length) = True := by simp [hi]
  have w1 : IntKind.i64.wrap (x : Int) = (x : Int) := qg (by omega) (by omega)
  have w2 : IntKind.i64.wrap ((i : Int) + 1) = ((i + 1 : Nat) : Int) := by rw [qg] <;> omega
  rw [← d1, B37_5_eq]
  generalize ((i + 1 : Nat) : Int) = I at *
  simp [hi4, gs0, en, cv_5_3, w1, c1, w2]
theorem run_cdput (l : List Nat) (k : Nat) (hl : l.length ≤ 100000) (h64 : ∀ x ∈ l, x < 64) (hp : Hp) : ∃ hp', run cxX 37 [.sc (.int .i64 64), S k 1 (LI .u8 (nz l))] hp = some (.tup [S 1 1 (LI .u8 (cod l)), .sc (.int .i64 0)], hp') ∧ Fm [] hp hp' := by
  obtain ⟨hp1, e, m, cb, a1, a2, a3, a4, a5, a6, a7⟩ := run_newenc hp
  obtain ⟨hp2, cs2, b1, b2, b3, b4, b5⟩ := cput_loop l (rk k) e m cb hl h64 l 0 en0 cs0 hp1 rfl (by simp) a2 okM0 okE0 ⟨by decide, by decide⟩ (by decide)
  obtain ⟨hp3, c1, c2⟩ := run_ebytes e m l.length 2 (enc cs0 en0 l) hp2 b2.1 (okE_le b4 b4.2.2.1 (by omega)) (by omega) b2.2.1
  have ec : (sh (sh (sh (sh (sh (enc cs0 en0 l)))))).out = cod l := rfl
  rw [ec] at c1
  refine ⟨hp3, ?_, by have := c2.1; rw [b3.1] at this; omega, fun c hc _ => by
    rw [c2.2 c (by rw [b3.1]; omega) (by simp), b3.2 c (by omega) (by omega) (by omega), a7 c hc]⟩
  have b5' : B37_5 (.ptr e 0 0) (S (rk k) 1 (LI .u8 (nz l))) (.int .i64 (l.length : Int)) (.int .i64 (l.length : Int)) hp2 = some (.tup [S 1 1 (LI .u8 (cod l)), .sc (.int .i64 0)], hp3) := by
    rw [B37_5_eq]
    generalize cod l = O at *
    simp [c1]
  rw [← b1] at b5'
  have b3' : B37_3 (.int .i64 64) (S k 1 (LI .u8 (nz l))) hp = some (.tup [S 1 1 (LI .u8 (cod l)), .sc (.int .i64 0)], hp3) := by
    rw [← b5', B37_3_eq]
    simp [a1]
  rw [E37]
  simp [b3']
theorem E23 (a0 : AV) (hp : Hp) : run cxX 23 [a0] hp = ((qh 23 a0).bind fun y0 => ((qc (List.map ro1 y0) 0).bind fun y1 => ((binV Tryz.prog .geq 39 (.tmp 4) (.const (.int .u8 (.ofNat 6))) y1 (.int .u8 (.ofNat 6))).bind fun y2 => ((asB y2).bind fun y3 => (cond y3 (some (Prod.mk (AV.sc (.int .i64 (.ofNat 5))) hp)) ((getN (List.map ro1 y0) 0 23).bind fun y4 => ((getN (List.map ro1 y0) 0 23).bind fun y5 => ((qi [AV.agg (List.map ro1 y5)] []).bind fun y6 => ((run cxX 61 [ro (AV.agg (List.map ro1 y5))] hp0).bind fun y7 => ((qm (y7).1).bind fun y8 => ((qM (y7).1).bind fun y9 => ((qi ((AV.agg (List.map ro1 y4)) :: ((y7).1 :: [])) []).bind fun y10 => ((run cxX 60 [ro (AV.agg (List.map ro1 y4)), ro (y7).1] hp0).bind fun y11 => ((qm (y11).1).bind fun y12 => ((asSc (y11).1).bind fun y13 => ((unV Tryz.prog .not y13).bind fun y14 => ((asB y14).bind fun y15 => (cond y15 (some (Prod.mk (AV.sc (.int .i64 (.ofNat 4))) hp)) ((qc (List.map ro1 y0) 0).bind fun y16 => ((binV Tryz.prog .eql 39 (.tmp 12) (.const (.int .u8 (.ofNat 0))) y16 (.int .u8 (.ofNat 0))).bind fun y17 => ((asB y17).bind fun y18 => (cond y18 ((getC (List.map ro1 y0) 1).bind fun y19 => ((qi [ro1 y19] []).bind fun y20 => ((run cxX 62 [ro (ro1 y19)] hp0).bind fun y21 => ((qm (y21).1).bind fun y22 => ((asSc (y21).1).bind fun y23 => (some (Prod.mk (AV.sc y23) hp))))))) ((binV Tryz.prog .eql 39 (.tmp 12) (.const (.int .u8 (.ofNat 1))) y16 (.int .u8 (.ofNat 1))).bind fun y24 => ((asB y24).bind fun y25 => (cond y25 ((getN (List.map ro1 y0) 2 2).bind fun y26 => ((qi [AV.agg (List.map ro1 y26)] []).bind fun y27 => ((run cxX 63 [ro (AV.agg (List.map ro1 y26))] hp0).bind fun y28 => ((qm (y28).1).bind fun y29 => ((asSc (y28).1).bind fun y30 => (some (Prod.mk (AV.sc y30) hp))))))) ((binV Tryz.prog .eql 39 (.tmp 12) (.const (.int .u8 (.ofNat 2))) y16 (.int .u8 (.ofNat 2))).bind fun y31 => ((asB y31).bind fun y32 => (cond y32 ((getN (List.map ro1 y0) 4 2).bind fun y33 => ((qi [AV.agg (List.map ro1 y33)] []).bind fun y34 => ((run cxX 64 [ro (AV.agg (List.map ro1 y33))] hp0).bind fun y35 => ((qm (y35).1).bind fun y36 => ((asSc (y35).1).bind fun y37 => (some (Prod.mk (AV.sc y37) hp))))))) ((binV Tryz.prog .eql 39 (.tmp 12) (.const (.int .u8 (.ofNat 3))) y16 (.int .u8 (.ofNat 3))).bind fun y38 => ((asB y38).bind fun y39 => (cond y39 ((getN (List.map ro1 y0) 6 3).bind fun y40 => ((qi [AV.agg (List.map ro1 y40)] []).bind fun y41 => ((run cxX 65 [ro (AV.agg (List.map ro1 y40))] hp0).bind fun y42 => ((qm (y42).1).bind fun y43 => ((asSc (y42).1).bind fun y44 => (some (Prod.mk (AV.sc y44) hp))))))) ((binV Tryz.prog .eql 39 (.tmp 12) (.const (.int .u8 (.ofNat 4))) y16 (.int .u8 (.ofNat 4))).bind fun y45 => ((asB y45).bind fun y46 => (cond y46 ((getN (List.map ro1 y0) 9 3).bind fun y47 => ((run cxX 66 [ro (AV.agg (List.map ro1 y47))] hp).bind fun y48 => ((asSc (y48).1).bind fun y49 => (some (Prod.mk (AV.sc y49) (y48).2))))) ((getN (List.map ro1 y0) 12 11).bind fun y50 => ((qi [AV.agg (List.map ro1 y50)] []).bind fun y51 => ((run cxX 67 [ro (AV.agg (List.map ro1 y50))] hp0).bind fun y52 => ((qm (y52).1).bind fun y53 => ((asSc (y52).1).bind fun y54 => (some (Prod.mk (AV.sc y54) hp))))))))))))))))))))))))))))))))))))))))) :=
 (qf cxX 23 ss23 400 _ _).trans (by kernel_rfl)
theorem E60 (a0 a1 : AV) (hp : Hp) : run cxX 60 [a0, a1] hp = ((qh 23 a0).bind fun y0 => ((qh 23 a1).bind fun y1 => ((qc (List.map ro1 y0) 0).bind fun y2 => ((qc (List.map ro1 y1) 0).bind fun y3 => ((binV Tryz.prog .eql 39 (.tmp 6) (.tmp 8) y2 y3).bind fun y4 => ((asB y4).bind fun y5 => (cond y5 ((getC (List.map ro1 y0) 1).bind fun y6 => ((getC (List.map ro1 y1) 1).bind fun y7 => ((qi [ro1 y6, ro1 y7] []).bind fun y8 => ((run cxX 116 [ro (ro1 y6), ro (ro1 y7)] hp0).bind fun y9 => ((qm (y9).1).bind fun y10 => ((asSc (y9).1).bind fun y11 => ((asB y11).bind fun y12 => (cond y12 ((getN (List.map ro1 y0) 2 2).bind fun y13 => ((getN (List.map ro1 y1) 2 2).bind fun y14 => ((qi [AV.agg (List.map ro1 y13), AV.agg (List.map ro1 y14)] []).bind fun y15 => ((run cxX 117 [ro (AV.agg (List.map ro1 y13)), ro (AV.agg (List.map ro1 y14))] hp0).bind fun y16 => ((qm (y16).1).bind fun y17 => ((asSc (y16).1).bind fun y18 => ((asB y18).bind fun y19 => (cond y19 ((getN (List.map ro1 y0) 4 2).bind fun y20 => ((getN (List.map ro1 y1) 4 2).bind fun y21 => ((qi [AV.agg (List.map ro1 y20), AV.agg (List.map ro1 y21)] []).bind fun y22 => ((run cxX 118 [ro (AV.agg (List.map ro1 y20)), ro (AV.agg (List.map ro1 y21))] hp0).bind fun y23 => ((qm (y23).1).bind fun y24 => ((asSc (y23).1).bind fun y25 => ((asB y25).bind fun y26 => (cond y26 ((getN (List.map ro1 y0) 6 3).bind fun y27 => ((getN (List.map ro1 y1) 6 3).bind fun y28 => ((qi [AV.agg (List.map ro1 y27), AV.agg (List.map ro1 y28)] []).bind fun y29 => ((run cxX 119 [ro (AV.agg (List.map ro1 y27)), ro (AV.agg (List.map ro1 y28))] hp0).bind fun y30 => ((qm (y30).1).bind fun y31 => ((asSc (y30).1).bind fun y32 => ((asB y32).bind fun y33 => (cond y33 ((getN (List.map ro1 y0) 9 3).bind fun y34 => ((getN (List.map ro1 y1) 9 3).bind fun y35 => ((qi [AV.agg (List.map ro1 y34), AV.agg (List.map ro1 y35)] []).bind fun y36 => ((run cxX 120 [ro (AV.agg (List.map ro1 y34)), ro (AV.agg (List.map ro1 y35))] hp0).bind fun y37 => ((qm (y37).1).bind fun y38 => ((asSc (y37).1).bind fun y39 => ((asB y39).bind fun y40 => (cond y40 ((getN (List.map ro1 y0) 12 11).bind fun y41 => ((getN (List.map ro1 y1) 12 11).bind fun y42 => ((qi [AV.agg (List.map ro1 y41), AV.agg (List.map ro1 y42)] []).bind fun y43 => ((run cxX 121 [ro (AV.agg (List.map ro1 y41)), ro (AV.agg (List.map ro1 y42))] hp0).bind fun y44 => ((qm (y44).1).bind fun y45 => ((asSc (y44).1).bind fun y46 => (some (Prod.mk (AV.sc y46) hp)))))))) (some (Prod.mk (AV.sc (.bool false)) hp)))))))))) (some (Prod.mk (AV.sc (.bool false)) hp)))))))))) (some (Prod.mk (AV.sc (.bool false)) hp)))))))))) (some (Prod.mk (AV.sc (.bool false)) hp)))))))))) (some (Prod.mk (AV.sc (.bool false)) hp)))))))))) (some (Prod.mk (AV.sc (.bool false)) hp))))))))) :=
 (qf cxX 60 ss60 400 _ _).trans (by kernel_rfl)
noncomputable def B61_15 (b2 b3 : List AV) (hp : Hp) : Option (AV × Hp) := go cxX 61 [.code (sub [1, 1, 1, 0] cd61), .code (sub [1, 1, 1, 1] cd61)] ⟨[(2, .lp 2 0 0), (3, .lp 3 0 0)], [(2, 0, b2), (3, 0, b3)], hp⟩
theorem E61 (a0 : AV) (hp : Hp) : run cxX 61 [a0] hp = ((qh 23 a0).bind fun y0 => ((qc (List.map ro1 y0) 0).bind fun y1 => ((qc (List.map ro1 y0) 0).bind fun y2 => ((binV Tryz.prog .eql 39 (.tmp 8) (.const (.int .u8 (.ofNat 0))) y2 (.int .u8 (.ofNat 0))).bind fun y3 => ((asB y3).bind fun y4 => (cond y4 ((getC (List.map ro1 y0) 1).bind fun y5 => ((qh 1 (ro1 y5)).bind fun y6 => ((putN [AV.sc y1, AV.sc (.slice none 0 0), AV.sc (.int .i64 (.ofNat 0)), AV.sc (.slice none 0 0), AV.sc (.int .i64 (.ofNat 0)), AV.sc (.slice none 0 0), AV.sc (.int .i64 (.ofNat 0)), AV.sc (.int .i64 (.ofNat 0)), AV.sc (.slice none 0 0), AV.sc (.int .i64 (.ofNat 0)), AV.sc (.int .i64 (.ofNat 0)), AV.sc (.slice none 0 0), AV.sc (.int .i64 (.ofNat 0)), AV.sc (.int .u32 (.ofNat 0)), AV.sc (.int .u32 (.ofNat 0)), AV.sc (.int .u32 (.ofNat 0)), AV.sc (.int .u32 (.ofNat 0)), AV.sc (.int .u32 (.ofNat 0)), AV.sc (.int .u32 (.ofNat 0)), AV.sc (.int .u32 (.ofNat 0)), AV.sc (.float .f64 0), AV.sc (.float .f64 0), AV.sc (.slice none 0 0)] 1 y6).bind fun y7 => (B61_15 [AV.sc (.int .u8 (.ofNat 0)), AV.sc (.slice none 0 0), AV.sc (.int .i64 (.ofNat 0)), AV.sc (.slice none 0 0), AV.sc (.int .i64 (.ofNat 0)), AV.sc (.slice none 0 0), AV.sc (.int .i64 (.ofNat 0)), AV.sc (.int .i64 (.ofNat 0)), AV.sc (.slice none 0 0), AV.sc (.int .i64 (.ofNat 0)), AV.sc (.int .i64 (.ofNat 0)), AV.sc (.slice none 0 0), AV.sc (.int .i64 (.ofNat 0)), AV.sc (.int .u32 (.ofNat 0)), AV.sc (.int .u32 (.ofNat 0)), AV.sc (.int .u32 (.ofNat 0)), AV.sc (.int .u32 (.ofNat 0)), AV.sc (.int .u32 (.ofNat 0)), AV.sc (.int .u32 (.ofNat 0)), AV.sc (.int .u32 (.ofNat 0)), AV.sc (.float .f64 0), AV.sc (.float .f64 0), AV.sc (.slice none 0 0)] y7 hp)))) ((binV Tryz.prog .eql 39 (.tmp 8) (.const (.int .u8 (.ofNat 1))) y2 (.int .u8 (.ofNat 1))).bind fun y8 => ((asB y8).bind fun y9 => (cond y9 ((getN (List.map ro1 y0) 2 2).bind fun y10 => ((qh 2 (AV.agg (List.map ro1 y10))).bind fun y11 => ((putN [AV.sc y1, AV.sc (.slice none 0 0), AV.sc (.int .i64 (.ofNat 0)), AV.sc (.slice none 0 0), AV.sc (.int .i64 (.ofNat 0)), AV.sc (.slice none 0 0), AV.sc (.int .i64 (.ofNat 0)), AV.sc (.int .i64 (.ofNat 0)), AV.sc (.slice none 0 0), AV.sc (.int .i64 (.ofNat 0)), AV.sc (.int .i64 (.ofNat 0)), AV.sc (.slice none 0 0), AV.sc (.int .i64 (.ofNat 0)), AV.sc (.int .u32 (.ofNat 0)), AV.sc (.int .u32 (.ofNat 0)), AV.sc (.int .u32 (.ofNat 0)), AV.sc (.int .u32 (.ofNat 0)), AV.sc (.int .u32 (.ofNat 0)), AV.sc (.int .u32 (.ofNat 0)), AV.sc (.int .u32 (.ofNat 0)), AV.sc (.float .f64 0), AV.sc (.float .f64 0), AV.sc (.slice none 0 0)] 2 y11).bind fun y12 => (B61_15 [AV.sc (.int .u8 (.ofNat 0)), AV.sc (.slice none 0 0), AV.sc (.int .i64 (.ofNat 0)), AV.sc (.slice none 0 0), AV.sc (.int .i64 (.ofNat 0)), AV.sc (.slice none 0 0), AV.sc (.int .i64 (.ofNat 0)), AV.sc (.int .i64 (.ofNat 0)), AV.sc (.slice none 0 0), AV.sc (.int .i64 (.ofNat 0)), AV.sc (.int .i64 (.ofNat 0)), AV.sc (.slice none 0 0), AV.sc (.int .i64 (.ofNat 0)), AV.sc (.int .u32 (.ofNat 0)), AV.sc (.int .u32 (.ofNat 0)), AV.sc (.int .u32 (.ofNat 0)), AV.sc (.int .u32 (.ofNat 0)), AV.sc (.int .u32 (.ofNat 0)), AV.sc (.int .u32 (.ofNat 0)), AV.sc (.int .u32 (.ofNat 0)), AV.sc (.float .f64 0), AV.sc (.float .f64 0), AV.sc (.slice none 0 0)] y12 hp)))) ((binV Tryz.prog .eql 39 (.tmp 8) (.const (.int .u8 (.ofNat 2))) y2 (.int .u8 (.ofNat 2))).bind fun y13 => ((asB y13).bind fun y14 => (cond y14 ((getN (List.map ro1 y0) 4 2).bind fun y15 => ((qh 2 (AV.agg (List.map ro1 y15))).bind fun y16 => ((putN [AV.sc y1, AV.sc (.slice none 0 0), AV.sc (.int .i64 (.ofNat 0)), AV.sc (.slice none 0 0), AV.sc (.int .i64 (.ofNat 0)), AV.sc (.slice none 0 0), AV.sc (.int .i64 (.ofNat 0)), AV.sc (.int .i64 (.ofNat 0)), AV.sc (.slice none 0 0), AV.sc (.int .i64 (.ofNat 0)), AV.sc (.int .i64 (.ofNat 0)), AV.sc (.slice none 0 0), AV.sc (.int .i64 (.ofNat 0)), AV.sc (.int .u32 (.ofNat 0)), AV.sc (.int .u32 (.ofNat 0)), AV.sc (.int .u32 (.ofNat 0)), AV.sc (.int .u32 (.ofNat 0)), AV.sc (.int .u32 (.ofNat 0)), AV.sc (.int .u32 (.ofNat 0)), AV.sc (.int .u32 (.ofNat 0)), AV.sc (.float .f64 0), AV.sc (.float .f64 0), AV.sc (.slice none 0 0)] 4 y16).bind fun y17 => (B61_15 [AV.sc (.int .u8 (.ofNat 0)), AV.sc (.slice none 0 0), AV.sc (.int .i64 (.ofNat 0)), AV.sc (.slice none 0 0), AV.sc (.int .i64 (.ofNat 0)), AV.sc (.slice none 0 0), AV.sc (.int .i64 (.ofNat 0)), AV.sc (.int .i64 (.ofNat 0)), AV.sc (.slice none 0 0), AV.sc (.int .i64 (.ofNat 0)), AV.sc (.int .i64 (.ofNat 0)), AV.sc (.slice none 0 0), AV.sc (.int .i64 (.ofNat 0)), AV.sc (.int .u32 (.ofNat 0)), AV.sc (.int .u32 (.ofNat 0)), AV.sc (.int .u32 (.ofNat 0)), AV.sc (.int .u32 (.ofNat 0)), AV.sc (.int .u32 (.ofNat 0)), AV.sc (.int .u32 (.ofNat 0)), AV.sc (.int .u32 (.ofNat 0)), AV.sc (.float .f64 0), AV.sc (.float .f64 0), AV.sc (.slice none 0 0)] y17 hp)))) ((binV Tryz.prog .eql 39 (.tmp 8) (.const (.int .u8 (.ofNat 3))) y2 (.int .u8 (.ofNat 3))).bind fun y18 => ((asB y18).bind fun y19 => (cond y19 ((getN (List.map ro1 y0) 6 3).bind fun y20 => ((qh 3 (AV.agg (List.map ro1 y20))).bind fun y21 => ((putN [AV.sc y1, AV.sc (.slice none 0 0), AV.sc (.int .i64 (.ofNat 0)), AV.sc (.slice none 0 0), AV.sc (.int .i64 (.ofNat 0)), AV.sc (.slice none 0 0), AV.sc (.int .i64 (.ofNat 0)), AV.sc (.int .i64 (.ofNat 0)), AV.sc (.slice none 0 0), AV.sc (.int .i64 (.ofNat 0)), AV.sc (.int .i64 (.ofNat 0)), AV.sc (.slice none 0 0), AV.sc (.int .i64 (.ofNat 0)), AV.sc (.int .u32 (.ofNat 0)), AV.sc (.int .u32 (.ofNat 0)), AV.sc (.int .u32 (.ofNat 0)), AV.sc (.int .u32 (.ofNat 0)), AV.sc (.int .u32 (.ofNat 0)), AV.sc (.int .u32 (.ofNat 0)), AV.sc (.int .u32 (.ofNat 0)), AV.sc (.float .f64 0), AV.sc (.float .f64 0), AV.sc (.slice none 0 0)] 6 y21).bind fun y22 => (B61_15 [AV.sc (.int .u8 (.ofNat 0)), AV.sc (.slice none 0 0), AV.sc (.int .i64 (.ofNat 0)), AV.sc (.slice none 0 0), AV.sc (.int .i64 (.ofNat 0)), AV.sc (.slice none 0 0), AV.sc (.int .i64 (.ofNat 0)), AV.sc (.int .i64 (.ofNat 0)), AV.sc (.slice none 0 0), AV.sc (.int .i64 (.ofNat 0)), AV.sc (.int .i64 (.ofNat 0)), AV.sc (.slice none 0 0), AV.sc (.int .i64 (.ofNat 0)), AV.sc (.int .u32 (.ofNat 0)), AV.sc (.int .u32 (.ofNat 0)), AV.sc (.int .u32 (.ofNat 0)), AV.sc (.int .u32 (.ofNat 0)), AV.sc (.int .u32 (.ofNat 0)), AV.sc (.int .u32 (.ofNat 0)), AV.sc (.int .u32 (.ofNat 0)), AV.sc (.float .f64 0), AV.sc (.float .f64 0), AV.sc (.slice none 0 0)] y22 hp)))) ((binV Tryz.prog .eql 39 (.tmp 8) (.const (.int .u8 (.ofNat 4))) y2 (.int .u8 (.ofNat 4))).bind fun y23 => ((asB y23).bind fun y24 => (cond y24 ((getN (List.map ro1 y0) 9 3).bind fun y25 => ((qh 3 (AV.agg (List.map ro1 y25))).bind fun y26 => ((putN [AV.sc y1, AV.sc (.slice none 0 0), AV.sc (.int .i64 (.ofNat 0)), AV.sc (.slice none 0 0), AV.sc (.int .i64 (.ofNat 0)), AV.sc (.slice none 0 0), AV.sc (.int .i64 (.ofNat 0)), AV.sc (.int .i64 (.ofNat 0)), AV.sc (.slice none 0 0), AV.sc (.int .i64 (.ofNat 0)), AV.sc (.int .i64 (.ofNat 0)), AV.sc (.slice none 0 0), AV.sc (.int .i64 (.ofNat 0)), AV.sc (.int .u32 (.ofNat 0)), AV.sc (.int .u32 (.ofNat 0)), AV.sc (.int .u32 (.ofNat 0)), AV.sc (.int .u32 (.ofNat 0)), AV.sc (.int .u32 (.ofNat 0)), AV.sc (.int .u32 (.ofNat 0)), AV.sc (.int .u32 (.ofNat 0)), AV.sc (.float .f64 0), AV.sc (.float .f64 0), AV.sc (.slice none 0 0)] 9 y26).bind fun y27 => (B61_15 [AV.sc (.int .u8 (.ofNat 0)), AV.sc (.slice none 0 0), AV.sc (.int .i64 (.ofNat 0)), AV.sc (.slice none 0 0), AV.sc (.int .i64 (.ofNat 0)), AV.sc (.slice none 0 0), AV.sc (.int .i64 (.ofNat 0)), AV.sc (.int .i64 (.ofNat 0)), AV.sc (.slice none 0 0), AV.sc (.int .i64 (.ofNat 0)), AV.sc (.int .i64 (.ofNat 0)), AV.sc (.slice none 0 0), AV.sc (.int .i64 (.ofNat 0)), AV.sc (.int .u32 (.ofNat 0)), AV.sc (.int .u32 (.ofNat 0)), AV.sc (.int .u32 (.ofNat 0)), AV.sc (.int .u32 (.ofNat 0)), AV.sc (.int .u32 (.ofNat 0)), AV.sc (.int .u32 (.ofNat 0)), AV.sc (.int .u32 (.ofNat 0)), AV.sc (.float .f64 0), AV.sc (.float .f64 0), AV.sc (.slice none 0 0)] y27 hp)))) ((binV Tryz.prog .eql 39 (.tmp 8) (.const (.int .u8 (.ofNat 5))) y2 (.int .u8 (.ofNat 5))).bind fun y28 => ((asB y28).bind fun y29 => (cond y29 ((getN (List.map ro1 y0) 12 11).bind fun y30 => ((qh 11 (AV.agg (List.map ro1 y30))).bind fun y31 => ((putN [AV.sc y1, AV.sc (.slice none 0 0), AV.sc (.int .i64 (.ofNat 0)), AV.sc (.slice none 0 0), AV.sc (.int .i64 (.ofNat 0)), AV.sc (.slice none 0 0), AV.sc (.int .i64 (.ofNat 0)), AV.sc (.int .i64 (.ofNat 0)), AV.sc (.slice none 0 0), AV.sc (.int .i64 (.ofNat 0)), AV.sc (.int .i64 (.ofNat 0)), AV.sc (.slice none 0 0), AV.sc (.int .i64 (.ofNat 0)), AV.sc (.int .u32 (.ofNat 0)), AV.sc (.int .u32 (.ofNat 0)), AV.sc (.int .u32 (.ofNat 0)), AV.sc (.int .u32 (.ofNat 0)), AV.sc (.int .u32 (.ofNat 0)), AV.sc (.int .u32 (.ofNat 0)), AV.sc (.int .u32 (.ofNat 0)), AV.sc (.float .f64 0), AV.sc (.float .f64 0), AV.sc (.slice none 0 0)] 12 y31).bind fun y32 => (B61_15 [AV.sc (.int .u8 (.ofNat 0)), AV.sc (.slice none 0 0), AV.sc (.int .i64 (.ofNat 0)), AV.sc (.slice none 0 0), AV.sc (.int .i64 (.ofNat 0)), AV.sc (.slice none 0 0), AV.sc (.int .i64 (.ofNat 0)), AV.sc (.int .i64 (.ofNat 0)), AV.sc (.slice none 0 0), AV.sc (.int .i64 (.ofNat 0)), AV.sc (.int .i64 (.ofNat 0)), AV.sc (.slice none 0 0), AV.sc (.int .i64 (.ofNat 0)), AV.sc (.int .u32 (.ofNat 0)), AV.sc (.int .u32 (.ofNat 0)), AV.sc (.int .u32 (.ofNat 0)), AV.sc (.int .u32 (.ofNat 0)), AV.sc (.int .u32 (.ofNat 0)), AV.sc (.int .u32 (.ofNat 0)), AV.sc (.int .u32 (.ofNat 0)), AV.sc (.float .f64 0), AV.sc (.float .f64 0), AV.sc (.slice none 0 0)] y32 hp)))) (B61_15 [AV.sc (.int .u8 (.ofNat 0)), AV.sc (.slice none 0 0), AV.sc (.int .i64 (.ofNat 0)), AV.sc (.slice none 0 0), AV.sc (.int .i64 (.ofNat 0)), AV.sc (.slice none 0 0), AV.sc (.int .i64 (.ofNat 0)), AV.sc (.int .i64 (.ofNat 0)), AV.sc (.slice none 0 0), AV.sc (.int .i64 (.ofNat 0)), AV.sc (.int .i64 (.ofNat 0)), AV.sc (.slice none 0 0), AV.sc (.int .i64 (.ofNat 0)), AV.sc (.int .u32 (.ofNat 0)), AV.sc (.int .u32 (.ofNat 0)), AV.sc (.int .u32 (.ofNat 0)), AV.sc (.int .u32 (.ofNat 0)), AV.sc (.int .u32 (.ofNat 0)), AV.sc (.int .u32 (.ofNat 0)), AV.sc (.int .u32 (.ofNat 0)), AV.sc (.float .f64 0), AV.sc (.float .f64 0), AV.sc (.slice none 0 0)] [AV.sc y1, AV.sc (.slice none 0 0), AV.sc (.int .i64 (.ofNat 0)), AV.sc (.slice none 0 0), AV.sc (.int .i64 (.ofNat 0)), AV.sc (.slice none 0 0), AV.sc (.int .i64 (.ofNat 0)), AV.sc (.int .i64 (.ofNat 0)), AV.sc (.slice none 0 0), AV.sc (.int .i64 (.ofNat 0)), AV.sc (.int .i64 (.ofNat 0)), AV.sc (.slice none 0 0), AV.sc (.int .i64 (.ofNat 0)), AV.sc (.int .u32 (.ofNat 0)), AV.sc (.int .u32 (.ofNat 0)), AV.sc (.int .u32 (.ofNat 0)), AV.sc (.int .u32 (.ofNat 0)), AV.sc (.int .u32 (.ofNat 0)), AV.sc (.int .u32 (.ofNat 0)), AV.sc (.int .u32 (.ofNat 0)), AV.sc (.float .f64 0), AV.sc (.float .f64 0), AV.sc (.slice none 0 0)] hp)))))))))))))))))))))) :=
 (qf cxX 61 ss61 400 _ _).trans (by kernel_rfl)
theorem jx (b2 b3 : List AV) (hp : Hp) : B61_15 b2 b3 hp = ((getN b3 0 23).bind fun y33 => ((putN b3 0 (List.map ro1 y33)).bind fun y34 => ((qh 23 (AV.agg y33)).bind fun y35 => ((putN b2 0 y35).bind fun y36 => ((getN y36 0 23).bind fun y37 => (some (Prod.mk (AV.agg y37) hp))))))) :=
 (qe cxX 61 ss61 400 _ _).trans (by kernel_rfl)
noncomputable def B62_4 (x0 : AV) (v3 : Value) (hp : Hp) : Option (AV × Hp) := go cxX 62 [.code (sub [1, 1, 0, 1, 0, 0, 0, 0] cd62), .code (sub [1, 1, 0, 1, 0, 0, 0, 1] cd62), .code (sub [1, 1, 0, 1, 0, 0, 1] cd62), .inLoop (sub [1, 1, 0, 1, 0, 0] cd62), .inBlock 0, .code (sub [1, 1, 1] cd62)] ⟨[(0, .av x0), (3, .sv v3)], [], hp⟩
theorem E62 (a0 : AV) (hp : Hp) : run cxX 62 [a0] hp = ((lenA (ro a0)).bind fun y0 => ((binV Tryz.prog .gtr 3 (.tmp 5) (.const (.int .i64 (.ofNat 4096))) (.int .i64 (.ofNat y0)) (.int .i64 (.ofNat 4096))).bind fun y1 => ((asB y1).bind fun y2 => (cond y2 (some (Prod.mk (AV.sc (.int .i64 (.ofNat 7))) hp)) (B62_4 a0 (.int .i64 (.ofNat 1)) hp))))) :=
 (qf cxX 62 ss62 400 _ _).trans (by kernel_rfl)
theorem B62_4_eq (x0 : AV) (v3 : Value) (hp : Hp) : B62_4 x0 v3 hp = ((lenA (ro x0)).bind fun y3 => ((binV Tryz.prog .lss 3 (.tmp 7) (.tmp 9) v3 (.int .i64 (.ofNat y3))).bind fun y4 => ((asB y4).bind fun y5 => (cond y5 ((idxA 1 (ro x0) v3).bind fun y6 => ((qc y6 0).bind fun y7 => ((binV Tryz.prog .sub 3 (.tmp 18) (.const (.int .i64 (.ofNat 1))) v3 (.int .i64 (.ofNat 1))).bind fun y8 => ((idxA 1 (ro x0) y8).bind fun y9 => ((qc y9 0).bind fun y10 => ((binV Tryz.prog .leq 30 (.tmp 16) (.tmp 21) y7 y10).bind fun y11 => ((asB y11).bind fun y12 => (cond y12 (some (Prod.mk (AV.sc (.int .i64 (.ofNat 8))) hp)) ((binV Tryz.prog .add 3 (.tmp 11) (.const (.int .i64 (.ofNat 1))) v3 (.int .i64 (.ofNat 1))).bind fun y13 => (B62_4 x0 y13 hp)))))))))) (some (Prod.mk (AV.sc (.int .i64 (.ofNat 0))) hp)))))) :=
 (qe cxX 62 ss62 400 _ _).trans (by kernel_rfl)
noncomputable def B73_3 (x4 x8 : AV) (v9 v10 : Value) (hp : Hp) : Option (AV × Hp) := go cxX 73 [.code (sub [1, 0, 1, 1, 0, 1, 0, 0, 0] cd73), .code (sub [1, 0, 1, 1, 0, 1, 0, 0, 1] cd73), .inLoop (sub [1, 0, 1, 1, 0, 1, 0, 0] cd73), .inBlock 0, .code (sub [1, 0, 1, 1, 1] cd73), .inScope (sub [1, 0] cd73)] ⟨[(4, .av x4), (8, .av x8), (9, .sv v9), (10, .sv v10)], [], hp⟩
noncomputable def B73_6 (x4 : AV) (v6 v7 : Value) (x8 : AV) (v9 v10 : Value) (hp : Hp) : Option (AV × Hp) := go cxX 73 [.code (sub [1, 0, 1, 1, 0, 1, 0, 0, 1, 1, 0, 0, 1, 1, 0, 0, 0, 0, 0] cd73), .code (sub [1, 0, 1, 1, 0, 1, 0, 0, 1, 1, 0, 0, 1, 1, 0, 0, 0, 0, 1] cd73), .code (sub [1, 0, 1, 1, 0, 1, 0, 0, 1, 1, 0, 0, 1, 1, 0, 0, 0, 1] cd73), .inLoop (sub [1, 0, 1, 1, 0, 1, 0, 0, 1, 1, 0, 0, 1, 1, 0, 0, 0] cd73), .inBlock 2, .code (sub [1, 0, 1, 1, 0, 1, 0, 0, 1, 1, 0, 0, 1, 1, 1] cd73), .inBlock 1, .code (sub [1, 0, 1, 1, 0, 1, 0, 0, 1, 1, 1] cd73), .inLoop (sub [1, 0, 1, 1, 0, 1, 0, 0] cd73), .inBlock 0, .code (sub [1, 0, 1, 1, 1] cd73), .inScope (sub [1, 0] cd73)] ⟨[(4, .av x4), (6, .sv v6), (7, .sv v7), (8, .av x8), (9, .sv v9), (10, .sv v10)], [], hp⟩
noncomputable def B73_7 (x4 : AV) (v6 v7 : Value) (x8 : AV) (v9 v10 : Value) (hp : Hp) : Option (AV × Hp) := go cxX 73 [.code (sub [1, 0, 1, 1, 0, 1, 0, 0, 1, 1, 0, 0, 1, 1, 0, 0, 0, 1, 0, 0] cd73), .code (sub [1, 0, 1, 1, 0, 1, 0, 0, 1, 1, 0, 0, 1, 1, 0, 0, 0, 1, 0, 1] cd73), .inBlock 3, .inLoop (sub [1, 0, 1, 1, 0, 1, 0, 0, 1, 1, 0, 0, 1, 1, 0, 0, 0] cd73), .inBlock 2, .code (sub [1, 0, 1, 1, 0, 1, 0, 0, 1, 1, 0, 0, 1, 1, 1] cd73), .inBlock 1, .code (sub [1, 0, 1, 1, 0, 1, 0, 0, 1, 1, 1] cd73), .inLoop (sub [1, 0, 1, 1, 0, 1, 0, 0] cd73), .inBlock 0, .code (sub [1, 0, 1, 1, 1] cd73), .inScope (sub [1, 0] cd73)] ⟨[(4, .av x4), (6, .sv v6), (7, .sv v7), (8, .av x8), (9, .sv v9), (10, .sv v10)], [], hp⟩
noncomputable def B73_9 (x4 : AV) (v6 v7 : Value) (x8 : AV) (v9 v10 : Value) (hp : Hp) : Option (AV × Hp) := go cxX 73 [.code (sub [1, 0, 1, 1, 0, 1, 0, 0, 1, 1, 0, 0, 1, 1, 1, 0, 0] cd73), .code (sub [1, 0, 1, 1, 0, 1, 0, 0, 1, 1, 0, 0, 1, 1, 1, 0, 1] cd73), .code (sub [1, 0, 1, 1, 0, 1, 0, 0, 1, 1, 0, 0, 1, 1, 1, 1] cd73), .inBlock 1, .code (sub [1, 0, 1, 1, 0, 1, 0, 0, 1, 1, 1] cd73), .inLoop (sub [1, 0, 1, 1, 0, 1, 0, 0] cd73), .inBlock 0, .code (sub [1, 0, 1, 1, 1] cd73), .inScope (sub [1, 0] cd73)] ⟨[(4, .av x4), (6, .sv v6), (7, .sv v7), (8, .av x8), (9, .sv v9), (10, .sv v10)], [], hp⟩
noncomputable def B73_14 (x4 x8 : AV) (v9 v10 : Value) (hp : Hp) : Option (AV × Hp) := go cxX 73 [.code (sub [1, 0, 1, 1, 0, 1, 0, 0, 1, 1, 1] cd73), .inLoop (sub [1, 0, 1, 1, 0, 1, 0, 0] cd73), .inBlock 0, .code (sub [1, 0, 1, 1, 1] cd73), .inScope (sub [1, 0] cd73)] ⟨[(4, .av x4), (8, .av x8), (9, .sv v9), (10, .sv v10)], [], hp⟩
theorem E73 (a0 : AV) (hp : Hp) : run cxX 73 [a0] hp = ((lenA (ro a0)).bind fun y0 => (B73_3 (AV.sc (.slice none 0 0)) (ro a0) (.int .i64 (.ofNat y0)) (.int .i64 (.ofNat 0)) hp)) :=
 (qf cxX 73 ss73 400 _ _).trans (by kernel_rfl)
theorem B73_3_eq (x4 x8 : AV) (v9 v10 : Value) (hp : Hp) : B73_3 x4 x8 v9 v10 hp = ((binV Tryz.prog .lss 3 (.tmp 10) (.tmp 9) v10 v9).bind fun y1 => ((asB y1).bind fun y2 => (cond y2 ((idxA 1 x8 v10).bind fun y3 => ((qc y3 0).bind fun y4 => ((lenA (ro x4)).bind fun y5 => (B73_6 x4 y4 (.int .i64 (.ofNat y5)) x8 v9 v10 hp)))) ((frz1 hp (ro x4)).bind fun y6 => (some (Prod.mk (AV.tup ((y6).1 :: [AV.sc (.int .i64 (.ofNat 0))])) (y6).2)))))) :=
 (qe cxX 73 ss73 400 _ _).trans (by kernel_rfl)
theorem B73_6_eq (x4 : AV) (v6 v7 : Value) (x8 : AV) (v9 v10 : Value) (hp : Hp) : B73_6 x4 v6 v7 x8 v9 v10 hp = ((binV Tryz.prog .gtr 3 (.tmp 16) (.const (.int .i64 (.ofNat 0))) v7 (.int .i64 (.ofNat 0))).bind fun y7 => ((asB y7).bind fun y8 => (cond y8 ((binV Tryz.prog .sub 3 (.tmp 20) (.const (.int .i64 (.ofNat 1))) v7 (.int .i64 (.ofNat 1))).bind fun y9 => ((qR (ro x4)).bind fun y10 => ((idx ((((y10).2).2).2).1 y9).bind fun y11 => ((chkN ((((y10).2).2).2).2 1).bind fun y12 => ((Hp.rd hp (y10).1 ((y10).2).1).bind fun y13 => ((qc y13 (Nat.add (((y10).2).2).1 (Nat.add 0 y11))).bind fun y14 => ((binV Tryz.prog .geq 30 (.tmp 23) (.tmp 24) y14 v6).bind fun y15 => ((asB y15).bind fun y16 => (cond y16 (B73_7 x4 v6 v7 x8 v9 v10 hp) (B73_9 x4 v6 v7 x8 v9 v10 hp)))))))))) (B73_9 x4 v6 v7 x8 v9 v10 hp)))) :=
 (qe cxX 73 ss73 400 _ _).trans (by kernel_rfl)
theorem B73_7_eq (x4 : AV) (v6 v7 : Value) (x8 : AV) (v9 v10 : Value) (hp : Hp) : B73_7 x4 v6 v7 x8 v9 v10 hp = ((binV Tryz.prog .sub 3 (.tmp 27) (.const (.int .i64 (.ofNat 1))) v7 (.int .i64 (.ofNat 1))).bind fun y17 => ((qR (ro x4)).bind fun y18 => ((idx ((((y18).2).2).2).1 y17).bind fun y19 => ((chkN ((((y18).2).2).2).2 1).bind fun y20 => ((Hp.rd hp (y18).1 ((y18).2).1).bind fun y21 => ((qc y21 (Nat.add (((y18).2).2).1 (Nat.add 0 y19))).bind fun y22 => ((binV Tryz.prog .eql 30 (.tmp 32) (.tmp 33) y22 v6).bind fun y23 => ((asB y23).bind fun y24 => (cond y24 (B73_14 x4 x8 v9 v10 hp) (B73_6 x4 v6 y17 x8 v9 v10 hp)))))))))) :=
 (qe cxX 73 ss73 400 _ _).trans (by kernel_rfl)
theorem B73_9_eq (x4 : AV) (v6 v7 : Value) (x8 : AV) (v9 v10 : Value) (hp : Hp) : B73_9 x4 v6 v7 x8 v9 v10 hp = ((lenA (ro x4)).bind fun y25 => ((binV Tryz.prog .eql 3 (.tmp 36) (.const (.int .i64 (.ofNat 4096))) (.int .i64 (.ofNat y25)) (.int .i64 (.ofNat 4096))).bind fun y26 => ((asB y26).bind fun y27 => (cond y27 (some (Prod.mk (AV.tup [AV.sc (.slice none 0 0), AV.sc (.int .i64 (.ofNat 7))]) hp)) ((okV [AV.sc (.int .u32 (.ofNat 0))]).bind fun y28 => ((appM 4 1 (ro x4) (AV.us 1 [AV.sc (.int .u32 (.ofNat 0))]) hp).bind fun y29 => ((binV Tryz.prog .add 3 (.tmp 42) (.const (.int .i64 (.ofNat 1))) v7 (.int .i64 (.ofNat 1))).bind fun y30 => ((qR (ro (y29).1)).bind fun y31 => ((qH (.ofNat 0) (.ofNat ((((y31).2).2).2).1) none ((((y31).2).2).2).1).bind fun y32 => ((qH (.ofNat 0) (.ofNat y32) none ((((y31).2).2).2).1).bind fun y33 => ((qH (.ofNat 0) (.ofNat y33) (some y30) 0).bind fun y34 => ((chkN ((((y31).2).2).2).2 1).bind fun y35 => ((qR (ro (y29).1)).bind fun y36 => ((qH (.ofNat 0) (.ofNat ((((y36).2).2).2).1) none ((((y36).2).2).2).1).bind fun y37 => ((qH (.ofNat 0) (.ofNat y37) none ((((y36).2).2).2).1).bind fun y38 => ((qH (.ofNat 0) (.ofNat y38) (some v7) 0).bind fun y39 => ((chkN ((((y36).2).2).2).2 1).bind fun y40 => ((chkN 1 1).bind fun y41 => ((srcM (y29).2 1 (AV.ms (y36).1 ((y36).2).1 (Nat.add (((y36).2).2).1 (Nat.add 0 y39)) (Nat.sub y38 y39) 1)).bind fun y42 => ((Hp.rd (y29).2 (y31).1 ((y31).2).1).bind fun y43 => ((putN y43 (Nat.add (((y31).2).2).1 (Nat.add 0 y34)) ((copyA 1 (Nat.sub y33 y34) y42)).2).bind fun y44 => ((qR (ro (y29).1)).bind fun y45 => ((idx ((((y45).2).2).2).1 v7).bind fun y46 => ((chkN ((((y45).2).2).2).2 1).bind fun y47 => ((Hp.rd (Hp.put (y29).2 (y31).1 ((y31).2).1 y44) (y45).1 ((y45).2).1).bind fun y48 => ((putN y48 (Nat.add (((y45).2).2).1 (Nat.add 0 y46)) [AV.sc v6]).bind fun y49 => (B73_14 (y29).1 x8 v9 v10 (Hp.put (Hp.put (y29).2 (y31).1 ((y31).2).1 y44) (y45).1 ((y45).2).1 y49)))))))))))))))))))))))))))) :=
 (qe cxX 73 ss73 400 _ _).trans (by kernel_rfl)
theorem B73_14_eq (x4 x8 : AV) (v9 v10 : Value) (hp : Hp) : B73_14 x4 x8 v9 v10 hp = ((binV Tryz.prog .add 3 (.tmp 10) (.const (.int .i64 (.ofNat 1))) v10 (.int .i64 (.ofNat 1))).bind fun y50 => (B73_3 x4 x8 v9 y50 hp)) :=
 (qe cxX 73 ss73 400 _ _).trans (by kernel_rfl)
noncomputable def B116_4 (x0 x1 : AV) (v12 v13 : Value) (hp : Hp) : Option (AV × Hp) := go cxX 116 [.code (sub [1, 1, 0, 1, 0, 0, 0] cd116), .code (sub [1, 1, 0, 1, 0, 0, 1] cd116), .inLoop (sub [1, 1, 0, 1, 0, 0] cd116), .inBlock 0, .code (sub [1, 1, 1] cd116)] ⟨[(0, .av x0), (1, .av x1), (12, .sv v12), (13, .sv v13)], [], hp⟩
theorem E116 (a0 a1 : AV) (hp : Hp) : run cxX 116 [a0, a1] hp = ((lenA (ro a0)).bind fun y0 => ((lenA (ro a1)).bind fun y1 => ((binV Tryz.prog .neq 3 (.tmp 7) (.tmp 9) (.int .i64 (.ofNat y0)) (.int .i64 (.ofNat y1))).bind fun y2 => ((asB y2).bind fun y3 => (cond y3 (some (Prod.mk (AV.sc (.bool false)) hp)) ((lenA (ro a0)).bind fun y4 => (B116_4 a0 a1 (.int .i64 (.ofNat y4)) (.int .i64 (.ofNat 0)) hp))))))) :=
 (qf cxX 116 ss116 400 _ _).trans (by kernel_rfl)
theorem B116_4_eq (x0 x1 : AV) (v12 v13 : Value) (hp : Hp) : B116_4 x0 x1 v12 v13 hp = ((binV Tryz.prog .lss 3 (.tmp 13) (.tmp 12) v13 v12).bind fun y5 => ((asB y5).bind fun y6 => (cond y6 ((idxA 1 (ro x0) v13).bind fun y7 => ((qc y7 0).bind fun y8 => ((idxA 1 (ro x1) v13).bind fun y9 => ((qc y9 0).bind fun y10 => ((binV Tryz.prog .neq 30 (.tmp 19) (.tmp 23) y8 y10).bind fun y11 => ((asB y11).bind fun y12 => (cond y12 (some (Prod.mk (AV.sc (.bool false)) hp)) ((binV Tryz.prog .add 3 (.tmp 13) (.const (.int .i64 (.ofNat 1))) v13 (.int .i64 (.ofNat 1))).bind fun y13 => (B116_4 x0 x1 v12 y13 hp))))))))) (some (Prod.mk (AV.sc (.bool true)) hp))))) :=
 (qe cxX 116 ss116 400 _ _).trans (by kernel_rfl)
noncomputable def B26_3 (v1 : Value) (x6 x9 : AV) (v10 v11 : Value) (hp : Hp) : Option (AV × Hp) := go cxX 26 [.code (sub [1, 1, 0, 1, 0, 0, 0] cd26), .code (sub [1, 1, 0, 1, 0, 0, 1] cd26), .inLoop (sub [1, 1, 0, 1, 0, 0] cd26), .inBlock 0, .code (sub [1, 1, 1] cd26)] ⟨[(1, .sv v1), (6, .av x6), (9, .av x9), (10, .sv v10), (11, .sv v11)], [], hp⟩
noncomputable def B26_7 (v1 : Value) (x6 : AV) (v8 : Value) (x9 : AV) (v10 v11 : Value) (hp : Hp) : Option (AV × Hp) := go cxX 26 [.code (sub [1, 1, 0, 1, 0, 0, 1, 1, 0, 0, 1, 1] cd26), .inBlock 1, .code (sub [1, 1, 0, 1, 0, 0, 1, 1, 1] cd26), .inLoop (sub [1, 1, 0, 1, 0, 0] cd26), .inBlock 0, .code (sub [1, 1, 1] cd26)] ⟨[(1, .sv v1), (6, .av x6), (8, .sv v8), (9, .av x9), (10, .sv v10), (11, .sv v11)], [], hp⟩
theorem E26 (a0 a1 : AV) (hp : Hp) : run cxX 26 [a0, a1] hp = ((asSc a1).bind fun y0 => ((lenA (ro a0)).bind fun y1 => (B26_3 y0 (AV.sc (.slice none 0 0)) (ro a0) (.int .i64 (.ofNat y1)) (.int .i64 (.ofNat 0)) hp))) :=
 (qf cxX 26 ss26 400 _ _).trans (by kernel_rfl)
theorem B26_3_eq (v1 : Value) (x6 x9 : AV) (v10 v11 : Value) (hp : Hp) : B26_3 v1 x6 x9 v10 v11 hp = ((binV Tryz.prog .lss 3 (.tmp 11) (.tmp 10) v11 v10).bind fun y2 => ((asB y2).bind fun y3 => (cond y3 ((idxA 1 x9 v11).bind fun y4 => ((qc y4 0).bind fun y5 => ((asB v1).bind fun y6 => (cond y6 ((binV Tryz.prog .rem 30 (.tmp 16) (.const (.int .u32 (.ofNat 50))) y5 (.int .u32 (.ofNat 50))).bind fun y7 => (B26_7 v1 x6 y7 x9 v10 v11 hp)) (B26_7 v1 x6 y5 x9 v10 v11 hp))))) ((qi [ro x6] []).bind fun y8 => ((run cxX 73 [ro (ro x6)] hp0).bind fun y9 => ((qm (y9).1).bind fun y10 => ((qo 2 (y9).1).bind fun y11 => ((asSc (nthA (y9).1 1)).bind fun y12 => (some (Prod.mk (AV.tup [nthA (y9).1 0, AV.sc y12]) hp)))))))))) :=
 (qe cxX 26 ss26 400 _ _).trans (by kernel_rfl)
theorem B26_7_eq (v1 : Value) (x6 : AV) (v8 : Value) (x9 : AV) (v10 v11 : Value) (hp : Hp) : B26_7 v1 x6 v8 x9 v10 v11 hp = ((okV [AV.sc v8]).bind fun y13 => ((appA 4 1 x6 (AV.us 1 [AV.sc v8])).bind fun y14 => ((binV Tryz.prog .add 3 (.tmp 11) (.const (.int .i64 (.ofNat 1))) v11 (.int .i64 (.ofNat 1))).bind fun y15 => (B26_3 v1 y14 x9 v10 y15 hp)))) :=
 (qe cxX 26 ss26 400 _ _).trans (by kernel_rfl)
theorem ssame_loop (a b : List Int) (k k' : Nat) (hab : a.length = b.length) (hl : a.length ≤ 1000000) (hp : Hp) : ∀ (r s : List Int) (i : Nat), a.drop i = r → b.drop i = s →
  B116_4 (S k 1 (LI .u32 a)) (S k' 1 (LI .u32 b)) (.int .i64 a.length) (.int .i64 i) hp = some (.sc (.bool (decide (r = s))), hp) := by
 intro r
 induction r with
 | nil =>
  intro s i hr hs
  have h1 := qw hr
  have h2 : s = [] := by rw [← hs]; exact List.drop_eq_nil_of_le (by omega)
  have hlt : ¬((i : Int) < (a.length : Int)) := by omega
  rw [B116_4_eq]
  simp [hlt, h2]
 | cons x r ih =>
  intro s i hr hs
  obtain ⟨e1, e2, hi, e3⟩ := qr hr
  rw [B116_4_eq]
  have hw : IntKind.i64.wrap ((i : Int) + 1) = ((i + 1 : Nat) : Int) := by rw [qg] <;> omega
  cases s with
  | nil => have := qw hs; omega
  | cons y s =>
   obtain ⟨f1, f2, hj, f3⟩ := qr hs
   have h := ih s (i + 1) e2 f2
   simp at h hw
   by_cases e : x = y
   ·simp [hi, hj, qc, e3, f3, e, hw, h]
   ·simp [hi, hj, qc, e3, f3, e]
theorem run_ssame (a b : List Int) (k k' : Nat) (hp : Hp) (ha : a.length ≤ 1000000) :
  run cxX 116 [S k 1 (LI .u32 a), S k' 1 (LI .u32 b)] hp = some (.sc (.bool (decide (a = b))), hp) := by
 rw [E116]
 by_cases h3 : a.length = b.length
 ·have h := ssame_loop a b k k' h3 ha hp a b 0 rfl rfl
  simp at h
  rw [h3] at h
  simp [h3, h]
 ·have h4 : ¬(a = b) := fun e => h3 (by rw [e])
  have h5 : ¬((a.length : Int) = (b.length : Int)) := by omega
  simp [h4, h5]
def ordS : List Int → Int
 | [] => 0
 | [_] => 0
 | x :: y :: r => if y ≤ x then 8 else ordS (y :: r)
def schk (l : List Int) : Int := if 4096 < l.length then 7 else ordS l
theorem ordS_rise : ∀ {l : List Int}, Rise l → ordS l = 0
 | [], _ => rfl
 | [_], _ => rfl
 | x :: y :: r, h => by
  have h' := List.pairwise_cons.mp h
  have hxy := h'.1 y (by simp)
  show (if y ≤ x then 8 else ordS (y :: r)) = 0
  rw [if_neg (by omega)]
  exact ordS_rise h'.2
theorem rise_ordS : ∀ {l : List Int}, ordS l = 0 → Rise l
 | [], _ => List.Pairwise.nil
 | [_], _ => by simp
 | x :: y :: r, h => by
  have h : (if y ≤ x then 8 else ordS (y :: r)) = 0 := h
  split at h
  ·cases h
  ·rename_i hxy
   have ih := rise_ordS h
   have ih' := List.pairwise_cons.mp ih
   refine List.pairwise_cons.mpr ⟨fun n hn => ?_, ih⟩
   rcases List.mem_cons.mp hn with rfl | hn
   ·omega
   ·have := ih'.1 n hn; omega
theorem scheck_loop (l : List Int) (k : Nat) (hl : l.length ≤ 4096) (hp : Hp) : ∀ (r : List Int) (x : Int) (j : Nat), l.drop j = x :: r →
  B62_4 (S k 1 (LI .u32 l)) (.int .i64 ((j + 1 : Nat) : Int)) hp = some (.sc (.int .i64 (ordS (x :: r))), hp) := by
 intro r
 induction r with
 | nil =>
  intro x j hr
  obtain ⟨e1, e2, hi, e3⟩ := qr hr
  have := qw e2
  have hlt : ¬((j : Int) + 1 < (l.length : Int)) := by omega
  rw [B62_4_eq]
  simp [hlt, ordS]
 | cons y r ih =>
  intro x j hr
  obtain ⟨e1, e2, hi, e3⟩ := qr hr
  obtain ⟨f1, f2, hj, f3⟩ := qr e2
  have hlt : (j : Int) + 1 < (l.length : Int) := by omega
  have hw : IntKind.i64.wrap ((j : Int) + 1 - 1) = (j : Int) := by rw [qg] <;> omega
  have hw2 : IntKind.i64.wrap ((j : Int) + 1 + 1) = ((j + 1 + 1 : Nat) : Int) := by rw [qg] <;> omega
  have hz : (0 : Int) ≤ (j : Int) + 1 := by omega
  have hn : ((j : Int) + 1).toNat = j + 1 := by omega
  have h := ih y (j + 1) e2
  rw [B62_4_eq]
  simp at h hw hw2
  by_cases hxy : y ≤ x
  ·simp [hlt, hw, hz, hn, hi, hj, qc, e3, f3, hxy, ordS]
  ·simp [hlt, hw, hw2, hz, hn, hi, hj, qc, e3, f3, hxy, ordS, h]
theorem run_scheck (l : List Int) (k : Nat) (hp : Hp) : run cxX 62 [S k 1 (LI .u32 l)] hp = some (.sc (.int .i64 (schk l)), hp) := by
 rw [E62]
 unfold schk
 by_cases hl : 4096 < l.length
 ·have : (4096 : Int) < (l.length : Int) := by omega
  simp [hl, this]
 ·have : ¬((4096 : Int) < (l.length : Int)) := by omega
  cases l with
  | nil =>
   have h0 : B62_4 (S k 1 []) (.int .i64 1) hp = some (.sc (.int .i64 0), hp) := by
    rw [B62_4_eq]
    simp
   simp [h0, ordS]
  | cons x r =>
   have h := scheck_loop (x :: r) k (by omega) hp r x 0 rfl
   simp at h hl this
   have h1 : ¬(4096 < r.length + 1) := by omega
   have h2 : ¬((4096 : Int) < (r.length : Int) + 1) := by omega
   simp [h, h1, h2]
def MsR (hp : Hp) (x : AV) (l : List Int) : Prop := (l = [] ∧ x = S 2 1 []) ∨ (l ≠ [] ∧ ∃ b, x = .ms b 0 0 l.length 1 ∧ hp.rd b 0 = some (LI .u32 l))
theorem MsR.len {hp : Hp} {x : AV} {l : List Int} (h : MsR hp x l) : lenA (ro x) = some l.length := by
 rcases h with ⟨rfl, rfl⟩ | ⟨_, b, rfl, _⟩
 ·simp
 ·simp
theorem mrg_ins {a b : List Int} {n : Int} (h : Rise (a ++ b)) (ha : ∀ x ∈ a, x < n) (hb : ∀ x ∈ b, n < x) : mrg (a ++ b) [n] = a ++ n :: b := by
 have h' := List.pairwise_append.mp h
 refine rise_ext (rise_mrg _ _ h (by simp)) ?_ (fun x => ?_)
 ·refine List.pairwise_append.mpr ⟨h'.1, List.pairwise_cons.mpr ⟨fun x hx => hb x hx, h'.2.1⟩, fun x hx y hy => ?_⟩
  rcases List.mem_cons.mp hy with rfl | hy
  ·exact ha x hx
  ·exact h'.2.2 x hx y hy
 ·rw [xj]; simp
  constructor
  ·rintro ((h | h) | h) <;> simp [h]
  ·rintro (h | h | h) <;> simp [h]
theorem of_ins (a b : List Int) (n : Int) (x x8 : AV) (v9 v10 : Value) (hp : Hp) (hx : MsR hp x (a ++ b)) (hl : (a ++ b).length < 4096) :
  ∃ x' hp', MsR hp' x' (a ++ n :: b) ∧ B73_9 x (.int .u32 n) (.int .i64 a.length) x8 v9 v10 hp = B73_14 x' x8 v9 v10 hp' := by
 have hne : ¬(((a ++ b).length : Int) = 4096) := by omega
 -- the append
 obtain ⟨c, hp1, hc, ap⟩ : ∃ c hp1, hp1.rd c 0 = some (LI .u32 (a ++ b ++ [0])) ∧ appM 4 1 (ro x) (S 1 1 [.sc (.int .u32 0)]) hp = some (.ms c 0 0 ((a ++ b).length + 1) 1, hp1) := by
  rcases hx with ⟨e, rfl⟩ | ⟨e, c, rfl, hc⟩
  ·refine ⟨hp.next, hp.new (LI .u32 [0]), ?_, ?_⟩
   ·rw [e]; exact qB _ _
   ·rw [e]; exact appM_first .u32 0 4 (by decide) hp
  ·exact ⟨hp.next, (hp.del c).new (LI .u32 (a ++ b ++ [0])), qB (hp.del c) _, appM_one .u32 (a ++ b) 0 4 c (by decide) (by omega) e hp hc⟩
 have e0 : (a ++ b ++ [0]).length = (a ++ b).length + 1 := by simp; omega
 have e1 : (a ++ b).length = a.length + b.length := by simp
 have lx := hx.len
 -- the copy
 have sm := srcM_ms .u32 (a ++ b ++ [0]) hp1 c a.length ((a ++ b).length + 1 - a.length) hc (by omega)
 have sm2 : ((a ++ b ++ [0]).drop a.length).take ((a ++ b).length + 1 - a.length) = b ++ [0] := by
  rw [List.append_assoc, List.drop_left]
  exact List.take_of_length_le (by simp; omega)
 rw [sm2] at sm
 have cp : (copyA 1 ((a ++ b).length + 1 - (a.length + 1)) (LI .u32 (b ++ [0]))).2 = LI .u32 b := by
  unfold copyA
  simp only [many_one, lenI, Nat.mul_one]
  have e : min (b ++ [0]).length ((a ++ b).length + 1 - (a.length + 1)) = b.length := by simp
  rw [e, takeI, List.take_left]
 have p1 := putNs_I .u32 (a ++ b ++ [0]) b (a.length + 1) (by omega)
 have p1' : (a ++ b ++ [0]).take (a.length + 1) ++ b ++ (a ++ b ++ [0]).drop (a.length + 1 + b.length) = a ++ ((b ++ [0]).take 1 ++ b) := by
  have d : (a ++ b ++ [0]).drop (a.length + 1 + b.length) = [] := List.drop_eq_nil_of_le (by omega)
  rw [d, List.append_nil, List.append_assoc a b, List.take_append]
  have e : a.length + 1 - a.length = 1 := by omega
  rw [e, List.take_of_length_le (by omega : a.length ≤ a.length + 1), List.append_assoc]
 rw [p1'] at p1
 obtain ⟨z, hz⟩ : ∃ z, (b ++ [0]).take 1 = [z] := by
  cases b with
  | nil => exact ⟨0, rfl⟩
  | cons y b => exact ⟨y, rfl⟩
 rw [hz] at p1
 have hlen2 : (a ++ ([z] ++ b)).length = (a ++ b).length + 1 := by simp; omega
 have p2 := putN_I .u32 (a ++ ([z] ++ b)) a.length n (by simp)
 have p2' : (a ++ ([z] ++ b)).set a.length n = a ++ n :: b := by simp
 rw [p2'] at p2
 have hlen3 : (a ++ n :: b).length = (a ++ b).length + 1 := by simp; omega
 have w1 : IntKind.i64.wrap ((a.length : Int) + ((1 : Nat) : Int)) = ((a.length + 1 : Nat) : Int) := by rw [qg] <;> omega
 have bd1 := bound_nat (hi := (a ++ b).length + 1) (d := 0) (n := a.length + 1) .i64 (by omega)
 have bd2 := bound_nat (hi := (a ++ b).length + 1) (d := 0) (n := a.length) .i64 (by omega)
 have ix := zr (n := (a ++ b).length + 1) (i := a.length) .i64 (by omega)
 refine ⟨.ms c 0 0 (a ++ n :: b).length 1, ((hp1.put c 0 (LI .u32 (a ++ ([z] ++ b)))).put c 0 (LI .u32 (a ++ n :: b))), .inr ⟨by simp, c, rfl, qp _ _ _⟩, ?_⟩
 rw [hlen3, B73_9_eq]
 have hz0 : (((a ++ b).length : Nat) : Int) = ((4096 : Nat) : Int) ↔ False := ⟨fun h => hne (by omega), False.elim⟩
 have uS : AV.us 1 [ro1 (AV.sc (.int .u32 (0 : Int)))] = S 1 1 [.sc (.int .u32 0)] := rfl
 have ov : okV [AV.sc (Value.int IntKind.u32 (0 : Int))] = some () := by rw [okV_eq]; exact if_pos (by simp)
 generalize (a ++ b).length = m at *
 have z0 : ((0 : Nat) : Int) = 0 := rfl
 simp only [lx, Option.bind_some, Int.ofNat_eq_natCast, binV_eql, hz0, z0, yq, decide_false, qW, cond_false, ov, uS, us_S, ap, zR, w1, ro_ms, yl, bound_none, bd1, bd2, xm, chk_eq, sm, hc, Nat.add_eq, Nat.zero_add, Nat.sub_eq, cp, p1, ix, qp, p2]
theorem of_scan (n : Int) (x8 : AV) (v9 v10 : Value) : ∀ (m : Nat) (a b : List Int) (x : AV) (hp : Hp), a.length = m → MsR hp x (a ++ b) → Rise (a ++ b) → (∀ y ∈ b, n < y) → (a ++ b).length < 4096 →
    ∃ x' hp', MsR hp' x' (mrg (a ++ b) [n]) ∧ B73_6 x (.int .u32 n) (.int .i64 a.length) x8 v9 v10 hp = B73_14 x' x8 v9 v10 hp' := by
  intro m
  induction m with
  | zero =>
    intro a b x hp hm hx hr hb hl
    have : a = [] := List.length_eq_zero_iff.mp hm
    subst this
    obtain ⟨x', hp', h1, h2⟩ := of_ins [] b n x x8 v9 v10 hp hx hl
    refine ⟨x', hp', ?_, ?_⟩
    · rw [mrg_ins hr (by simp) hb]; exact h1
    · rw [B73_6_eq]
      simpa using h2
  | succ m ih =>
    intro a b x hp hm hx hr hb hl
    obtain ⟨a', y, rfl⟩ : ∃ a' y, a = a' ++ [y] := ⟨a.dropLast, a.getLast (by intro e; subst e; simp at hm), (List.dropLast_concat_getLast _).symm⟩
    have hm' : a'.length = m := by simpa using hm
    have hne : a' ++ [y] ++ b ≠ [] := by simp
    obtain ⟨c, rfl, hc⟩ : ∃ c, x = .ms c 0 0 (a' ++ [y] ++ b).length 1 ∧ hp.rd c 0 = some (LI .u32 (a' ++ [y] ++ b)) := by
      rcases hx with ⟨e, _⟩ | ⟨_, c, h1, h2⟩
      · exact absurd e hne
      · exact ⟨c, h1, h2⟩
    have hpos : (0 : Int) < ((a' ++ [y]).length : Int) := by omega
    have hm4 : m < 4096 := by simp at hl; omega
    have w1 : IntKind.i64.wrap (((a' ++ [y]).length : Int) - 1) = (a'.length : Int) := by rw [hm, qg] <;> omega
    have ix := zr (n := (a' ++ [y] ++ b).length) (i := a'.length) .i64 (by simp)
    have gs : (a' ++ [y] ++ b)[a'.length]? = some y := by simp
    have hr' := List.pairwise_append.mp hr
    have hra := List.pairwise_append.mp hr'.1
    rw [B73_6_eq]
    have hpos' : (((a' ++ [y]).length : Nat) : Int) > ((0 : Nat) : Int) ↔ True := ⟨fun _ => trivial, fun _ => hpos⟩
    have w1' : IntKind.i64.wrap ((((a' ++ [y]).length : Nat) : Int) - ((1 : Nat) : Int)) = (a'.length : Int) := w1
    by_cases hy : n ≤ y
    · have hge : (y ≥ n) ↔ True := ⟨fun _ => trivial, fun _ => hy⟩
      by_cases he : y = n
      · -- it is there
        subst he
        refine ⟨.ms c 0 0 (a' ++ [y] ++ b).length 1, hp, ?_, ?_⟩
        · rw [mrg_sub hr (by simp) (by simp)]
          exact .inr ⟨hne, c, rfl, hc⟩
        · generalize hN : (a' ++ [y] ++ b).length = N at *
          simp only [Int.ofNat_eq_natCast, binV_gtr, hpos', decide_true, qW, Option.bind_some, cond_true, yw, w1', ro_ms, yl, ix, xm, chk_eq, yq, hc, Nat.add_eq, Nat.zero_add, qc, getI?, gs, Option.map_some, jV, yU, hge]
          rw [B73_7_eq]
          simp only [Int.ofNat_eq_natCast, binV_gtr, hpos', decide_true, qW, Option.bind_some, cond_true, yw, w1', ro_ms, yl, ix, xm, chk_eq, yq, hc, Nat.add_eq, Nat.zero_add, qc, getI?, gs, Option.map_some, jV, binV_eql]
      · have e2 : a' ++ [y] ++ b = a' ++ (y :: b) := by simp
        obtain ⟨x', hp', h1, h2⟩ := ih a' (y :: b) (.ms c 0 0 (a' ++ [y] ++ b).length 1) hp hm' (by rw [← e2]; exact .inr ⟨hne, c, rfl, hc⟩) (by rw [← e2]; exact hr) (fun z hz => by
          rcases List.mem_cons.mp hz with rfl | hz
          · omega
          · exact hb z hz) (by rw [← e2]; exact hl)
        refine ⟨x', hp', by rw [e2]; exact h1, ?_⟩
        have hne2 : (y = n) ↔ False := ⟨fun h => he h, False.elim⟩
        generalize hN : (a' ++ [y] ++ b).length = N at *
        simp only [Int.ofNat_eq_natCast, binV_gtr, hpos', decide_true, qW, Option.bind_some, cond_true, yw, w1', ro_ms, yl, ix, xm, chk_eq, yq, hc, Nat.add_eq, Nat.zero_add, qc, getI?, gs, Option.map_some, jV, yU, hge]
        rw [B73_7_eq]
        simp only [Int.ofNat_eq_natCast, binV_gtr, hpos', decide_true, qW, Option.bind_some, cond_true, cond_false, decide_false, yw, w1', ro_ms, yl, ix, xm, chk_eq, yq, hc, Nat.add_eq, Nat.zero_add, qc, getI?, gs, Option.map_some, jV, binV_eql, hne2]
        exact h2
    · have hge : (y ≥ n) ↔ False := ⟨fun h => hy h, False.elim⟩
      obtain ⟨x', hp', h1, h2⟩ := of_ins (a' ++ [y]) b n (.ms c 0 0 (a' ++ [y] ++ b).length 1) x8 v9 v10 hp (.inr ⟨hne, c, rfl, hc⟩) hl
      refine ⟨x', hp', ?_, ?_⟩
      · rw [mrg_ins hr (fun z hz => ?_) hb]
        · exact h1
        · rcases List.mem_append.mp hz with hz | hz
          · have := hra.2.2 z hz y (by simp); omega
          · simp at hz; omega
      · generalize hN : (a' ++ [y] ++ b).length = N at *
        simp only [Int.ofNat_eq_natCast, binV_gtr, hpos', decide_true, decide_false, qW, Option.bind_some, cond_true, cond_false, yw, w1', ro_ms, yl, ix, xm, chk_eq, yq, hc, Nat.add_eq, Nat.zero_add, qc, getI?, gs, Option.map_some, jV, yU, hge]
        exact h2
theorem of_loop (l : List Int) (k : Nat) (hl : l.length ≤ 4096) : ∀ (r : List Int) (i : Nat) (s : List Int) (x : AV) (hp : Hp), l.drop i = r → Rise s → s.length ≤ i → i ≤ l.length → MsR hp x s →
  ∃ t hp', B73_3 x (S k 1 (LI .u32 l)) (.int .i64 l.length) (.int .i64 i) hp = some (.tup [S t 1 (LI .u32 (srt s r)), .sc (.int .i64 0)], hp') := by
 intro r
 induction r with
 | nil =>
  intro i s x hp hr hs hsl hil hx
  have := qw hr
  have hlt : ¬((i : Int) < (l.length : Int)) := by omega
  rcases hx with ⟨rfl, rfl⟩ | ⟨_, b, rfl, hb⟩
  ·refine ⟨2, hp, ?_⟩
   rw [B73_3_eq]
   simp [hlt, srt]
  ·have f := frz1_I .u32 s hp b hb
   refine ⟨0, hp.del b, ?_⟩
   rw [B73_3_eq]
   simp [hlt, srt, f]
 | cons y r ih =>
  intro i s x hp hr hs hsl hil hx
  obtain ⟨e1, e2, hi, e3⟩ := qr hr
  have hw : IntKind.i64.wrap ((i : Int) + 1) = ((i + 1 : Nat) : Int) := by rw [qg] <;> omega
  obtain ⟨x', hp1, h1, h2⟩ := of_scan y (S k 1 (LI .u32 l)) (.int .i64 l.length) (.int .i64 i) s.length s [] x hp rfl (by simpa using hx) (by simpa using hs) (by simp) (by simp; omega)
  rw [List.append_nil] at h1
  have hl1 : (mrg s [y]).length ≤ s.length + 1 := by simpa using len_mrg s [y]
  obtain ⟨t, hp', h⟩ := ih (i + 1) (mrg s [y]) x' hp1 e2 (rise_mrg _ _ hs (by simp)) (by omega) (by omega) h1
  refine ⟨t, hp', ?_⟩
  have lx := hx.len
  rw [B73_3_eq]
  have h14 : B73_14 x' (S k 1 (LI .u32 l)) (.int .i64 l.length) (.int .i64 i) hp1 = B73_3 x' (S k 1 (LI .u32 l)) (.int .i64 l.length) (.int .i64 ((i + 1 : Nat) : Int)) hp1 := by
   rw [B73_14_eq]
   simp at hw
   simp [hw]
  rw [h14] at h2
  simp at h2 h
  simp [hi, e3, qc, lx, h2, h, srt]
theorem run_of_set (l : List Int) (k : Nat) (hl : l.length ≤ 4096) (hp : Hp) : ∃ t hp', run cxX 73 [S k 1 (LI .u32 l)] hp = some (.tup [S t 1 (LI .u32 (srt [] l)), .sc (.int .i64 0)], hp') := by
 obtain ⟨t, hp', h⟩ := of_loop l (rk k) hl l 0 [] (S 2 1 []) hp rfl List.Pairwise.nil (by simp) (by simp) (.inl ⟨rfl, rfl⟩)
 refine ⟨t, hp', ?_⟩
 rw [E73]
 simpa using h
theorem law11_loop (l : List Int) (k : Nat) (hl : l.length ≤ 4096) (hp : Hp) : ∀ (r : List Int) (i : Nat) (a : List Int), l.drop i = r → a.length ≤ i → i ≤ l.length →
  ∃ t, B26_3 (.bool false) (S 2 1 (LI .u32 a)) (S k 1 (LI .u32 l)) (.int .i64 l.length) (.int .i64 i) hp = some (.tup [S t 1 (LI .u32 (srt [] (a ++ r))), .sc (.int .i64 0)], hp) := by
 intro r
 induction r with
 | nil =>
  intro i a hr ha hil
  have := qw hr
  have hlt : ¬((i : Int) < (l.length : Int)) := by omega
  obtain ⟨t, hp', h⟩ := run_of_set a 3 (by omega) hp0
  refine ⟨t, ?_⟩
  rw [B26_3_eq]
  simp [hlt, h]
 | cons y r ih =>
  intro i a hr ha hil
  obtain ⟨e1, e2, hi, e3⟩ := qr hr
  have hw : IntKind.i64.wrap ((i : Int) + 1) = ((i + 1 : Nat) : Int) := by rw [qg] <;> omega
  have ap := appI .u32 a 2 (.inr rfl) 4 (by decide) y (by omega)
  obtain ⟨t, h⟩ := ih (i + 1) (a ++ [y]) e2 (by simp; omega) (by omega)
  refine ⟨t, ?_⟩
  rw [B26_3_eq]
  simp at h hw ap
  simp [hi, e3, qc, B26_7_eq, ap, hw, h]
theorem run_of11 (l : List Int) (k : Nat) (hl : l.length ≤ 4096) (hp : Hp) : ∃ t, run cxX 26 [S k 1 (LI .u32 l), .sc (.bool false)] hp = some (.tup [S t 1 (LI .u32 (srt [] l)), .sc (.int .i64 0)], hp) := by
 obtain ⟨t, h⟩ := law11_loop l (rk k) hl hp l 0 [] rfl (by simp) (by simp)
 refine ⟨t, ?_⟩
 rw [E26]
 simp at h
 simp [h]
noncomputable def B64_2 (hp : Hp) : Option (AV × Hp) := go cxX 64 [.code (sub [1, 0, 0, 1, 0, 0] cd64), .code (sub [1, 0, 0, 1, 0, 1] cd64), .inBlock 0, .code (sub [1, 1] cd64)] ⟨[], [], hp⟩
noncomputable def B64_3 (b1 : List AV) (hp : Hp) : Option (AV × Hp) := go cxX 64 [.code (sub [1, 0, 0, 1, 1, 0] cd64), .code (sub [1, 0, 0, 1, 1, 1] cd64), .inBlock 0, .code (sub [1, 1] cd64)] ⟨[(1, .lp 1 0 0)], [(1, 0, b1)], hp⟩
noncomputable def B64_6 (x23 : AV) (v24 v25 : Value) (b1 : List AV) (hp : Hp) : Option (AV × Hp) := go cxX 64 [.code (sub [1, 1, 0, 1, 0, 0, 0] cd64), .code (sub [1, 1, 0, 1, 0, 0, 1] cd64), .inLoop (sub [1, 1, 0, 1, 0, 0] cd64), .inBlock 1, .code (sub [1, 1, 1] cd64)] ⟨[(1, .lp 1 0 0), (23, .av x23), (24, .sv v24), (25, .sv v25)], [(1, 0, b1)], hp⟩
theorem E64 (a0 : AV) (hp : Hp) : run cxX 64 [a0] hp = ((qh 2 a0).bind fun y0 => ((qc (List.map ro1 y0) 0).bind fun y1 => ((binV Tryz.prog .lss 3 (.tmp 7) (.const (.int .i64 (.ofNat 4))) y1 (.int .i64 (.ofNat 4))).bind fun y2 => ((asB y2).bind fun y3 => (cond y3 (B64_2 hp) ((qc (List.map ro1 y0) 0).bind fun y4 => ((binV Tryz.prog .gtr 3 (.tmp 11) (.const (.int .i64 (.ofNat 8))) y4 (.int .i64 (.ofNat 8))).bind fun y5 => ((asB y5).bind fun y6 => (cond y6 (B64_2 hp) (B64_3 (List.map ro1 y0) hp)))))))))) :=
 (qf cxX 64 ss64 400 _ _).trans (by kernel_rfl)
theorem B64_2_eq (hp : Hp) : B64_2 hp = (some (Prod.mk (AV.sc (.int .i64 (.ofNat 2))) hp)) :=
 (qe cxX 64 ss64 400 _ _).trans (by kernel_rfl)
theorem B64_3_eq (b1 : List AV) (hp : Hp) : B64_3 b1 hp = ((getC b1 1).bind fun y7 => ((lenA (ro1 y7)).bind fun y8 => ((qc b1 0).bind fun y9 => ((binV Tryz.prog .shl 3 (.const (.int .i64 (.ofNat 1))) (.tmp 19) (.int .i64 (.ofNat 1)) y9).bind fun y10 => ((binV Tryz.prog .neq 3 (.tmp 17) (.tmp 20) (.int .i64 (.ofNat y8)) y10).bind fun y11 => ((asB y11).bind fun y12 => (cond y12 (some (Prod.mk (AV.sc (.int .i64 (.ofNat 6))) hp)) ((getC b1 1).bind fun y13 => ((lenA (ro1 y13)).bind fun y14 => (B64_6 (ro1 y13) (.int .i64 (.ofNat y14)) (.int .i64 (.ofNat 0)) b1 hp)))))))))) :=
 (qe cxX 64 ss64 400 _ _).trans (by kernel_rfl)
theorem B64_6_eq (x23 : AV) (v24 v25 : Value) (b1 : List AV) (hp : Hp) : B64_6 x23 v24 v25 b1 hp = ((binV Tryz.prog .lss 3 (.tmp 25) (.tmp 24) v25 v24).bind fun y15 => ((asB y15).bind fun y16 => (cond y16 ((idxA 1 x23 v25).bind fun y17 => ((qc y17 0).bind fun y18 => ((cvV Tryz.prog 5 3 y18).bind fun y19 => ((getN b1 0 2).bind fun y20 => ((qi [AV.agg (List.map ro1 y20)] []).bind fun y21 => ((run cxX 122 [ro (AV.agg (List.map ro1 y20))] hp0).bind fun y22 => ((qm (y22).1).bind fun y23 => ((asSc (y22).1).bind fun y24 => ((binV Tryz.prog .gtr 3 (.tmp 30) (.tmp 32) y19 y24).bind fun y25 => ((asB y25).bind fun y26 => (cond y26 (some (Prod.mk (AV.sc (.int .i64 (.ofNat 2))) hp)) ((binV Tryz.prog .add 3 (.tmp 25) (.const (.int .i64 (.ofNat 1))) v25 (.int .i64 (.ofNat 1))).bind fun y27 => (B64_6 x23 v24 y27 b1 hp))))))))))))) (some (Prod.mk (AV.sc (.int .i64 (.ofNat 0))) hp))))) :=
 (qe cxX 64 ss64 400 _ _).trans (by kernel_rfl)
noncomputable def B70_5 (b4 b5 : List AV) (hp : Hp) : Option (AV × Hp) := go cxX 70 [.code (sub [1, 1, 1, 0] cd70), .code (sub [1, 1, 1, 1] cd70)] ⟨[(4, .lp 4 0 0), (5, .lp 5 0 0)], [(4, 0, b4), (5, 0, b5)], hp⟩
theorem E70 (a0 a1 : AV) (hp : Hp) : run cxX 70 [a0, a1] hp = ((asSc a1).bind fun y0 => ((qh 2 a0).bind fun y1 => ((qc (List.map ro1 y1) 0).bind fun y2 => ((okV []).bind fun y3 => ((getC (List.map ro1 y1) 1).bind fun y4 => ((appM 1 1 (AV.us 1 []) (ro1 y4) hp).bind fun y5 => ((qh 1 (y5).1).bind fun y6 => ((putN [AV.sc y2, AV.sc (.slice none 0 0)] 1 y6).bind fun y7 => ((qh 2 (AV.agg (List.map ro1 y7))).bind fun y8 => ((putN [AV.sc (.int .i64 (.ofNat 0)), AV.sc (.slice none 0 0)] 0 y8).bind fun y9 => ((getN (List.map ro1 y1) 0 2).bind fun y10 => ((qi [AV.agg (List.map ro1 y10), AV.sc y0] []).bind fun y11 => ((run cxX 125 [ro (AV.agg (List.map ro1 y10)), AV.sc y0] hp0).bind fun y12 => ((qm (y12).1).bind fun y13 => ((qo 2 (y12).1).bind fun y14 => ((asSc (ro (nthA (y12).1 0))).bind fun y15 => ((asSc (ro (nthA (y12).1 1))).bind fun y16 => ((getC y9 1).bind fun y17 => ((lenA (ro1 y17)).bind fun y18 => ((binV Tryz.prog .lss 3 (.tmp 21) (.tmp 24) y15 (.int .i64 (.ofNat y18))).bind fun y19 => ((asB y19).bind fun y20 => (cond y20 ((getC y9 1).bind fun y21 => ((getC y9 1).bind fun y22 => ((qR (ro1 y22)).bind fun y23 => ((idx ((((y23).2).2).2).1 y15).bind fun y24 => ((chkN ((((y23).2).2).2).2 1).bind fun y25 => ((Hp.rd (y5).2 (y23).1 ((y23).2).1).bind fun y26 => ((qc y26 (Nat.add (((y23).2).2).1 (Nat.add 0 y24))).bind fun y27 => ((bltV Tryz.prog Go.Builtin.max (Array.mk [5, 5]) 5 [y27, y16]).bind fun y28 => ((qR (ro1 y21)).bind fun y29 => ((idx ((((y29).2).2).2).1 y15).bind fun y30 => ((chkN ((((y29).2).2).2).2 1).bind fun y31 => ((Hp.rd (y5).2 (y29).1 ((y29).2).1).bind fun y32 => ((putN y32 (Nat.add (((y29).2).2).1 (Nat.add 0 y30)) [AV.sc y28]).bind fun y33 => (B70_5 [AV.sc (.int .i64 (.ofNat 0)), AV.sc (.slice none 0 0)] y9 (Hp.put (y5).2 (y29).1 ((y29).2).1 y33))))))))))))))) (B70_5 [AV.sc (.int .i64 (.ofNat 0)), AV.sc (.slice none 0 0)] y9 (y5).2))))))))))))))))))))))) :=
 (qf cxX 70 ss70 400 _ _).trans (by kernel_rfl)
theorem B70_5_eq (b4 b5 : List AV) (hp : Hp) : B70_5 b4 b5 hp = ((getN b5 0 2).bind fun y34 => ((frzL hp (List.map ro1 y34)).bind fun y35 => ((qh 2 (AV.agg (y35).1)).bind fun y36 => ((putN b4 0 y36).bind fun y37 => ((getN y37 0 2).bind fun y38 => (some (Prod.mk (AV.agg y38) (y35).2))))))) :=
 (qe cxX 70 ss70 400 _ _).trans (by kernel_rfl)
noncomputable def B74_2 (b2 : List AV) (hp : Hp) : Option (AV × Hp) := go cxX 74 [.code (sub [1, 0, 1, 0, 0] cd74), .code (sub [1, 0, 1, 0, 1] cd74), .code (sub [1, 1] cd74)] ⟨[(2, .lp 2 0 0)], [(2, 0, b2)], hp⟩
noncomputable def B74_3 (v0 : Value) (b2 : List AV) (hp : Hp) : Option (AV × Hp) := go cxX 74 [.code (sub [1, 1, 0] cd74), .code (sub [1, 0, 1, 0, 1] cd74)] ⟨[(0, .sv v0), (2, .lp 2 0 0)], [(2, 0, b2)], hp⟩
theorem E74 (a0 : AV) (hp : Hp) : run cxX 74 [a0] hp = ((asSc a0).bind fun y0 => ((binV Tryz.prog .lss 3 (.tmp 4) (.const (.int .i64 (.ofNat 4))) y0 (.int .i64 (.ofNat 4))).bind fun y1 => ((asB y1).bind fun y2 => (cond y2 (B74_2 [AV.sc (.int .i64 (.ofNat 0)), AV.sc (.slice none 0 0)] hp) ((binV Tryz.prog .gtr 3 (.tmp 7) (.const (.int .i64 (.ofNat 8))) y0 (.int .i64 (.ofNat 8))).bind fun y3 => ((asB y3).bind fun y4 => (cond y4 (B74_2 [AV.sc (.int .i64 (.ofNat 0)), AV.sc (.slice none 0 0)] hp) (B74_3 y0 [AV.sc (.int .i64 (.ofNat 0)), AV.sc (.slice none 0 0)] hp)))))))) :=
 (qf cxX 74 ss74 400 _ _).trans (by kernel_rfl)
theorem B74_3_eq (v0 : Value) (b2 : List AV) (hp : Hp) : B74_3 v0 b2 hp = ((binV Tryz.prog .shl 3 (.const (.int .i64 (.ofNat 1))) (.tmp 12) (.int .i64 (.ofNat 1)) v0).bind fun y7 => ((asI y7).bind fun y8 => ((asI y7).bind fun y9 => ((okMake 1 1 y8 y9).bind fun y10 => ((putN b2 0 [AV.sc v0, ro1 (AV.us 1 (zerosA y8 [.int .u8 (.ofNat 0)]))]).bind fun y11 => ((getN y11 0 2).bind fun y12 => (some (Prod.mk (AV.tup [AV.agg y12, AV.sc (.bool true)]) hp)))))))) :=
 (qe cxX 74 ss74 400 _ _).trans (by kernel_rfl)
theorem E118 (a0 a1 : AV) (hp : Hp) : run cxX 118 [a0, a1] hp = ((qh 2 a0).bind fun y0 => ((qh 2 a1).bind fun y1 => ((qc (List.map ro1 y0) 0).bind fun y2 => ((qc (List.map ro1 y1) 0).bind fun y3 => ((binV Tryz.prog .eql 3 (.tmp 6) (.tmp 8) y2 y3).bind fun y4 => ((asB y4).bind fun y5 => (cond y5 ((getC (List.map ro1 y0) 1).bind fun y6 => ((srcA 1 (ro1 y6)).bind fun y7 => ((zC y7).bind fun y8 => ((getC (List.map ro1 y1) 1).bind fun y9 => ((srcA 1 (ro1 y9)).bind fun y10 => ((zC y10).bind fun y11 => ((binV Tryz.prog .eql 9 (.tmp 13) (.tmp 16) (Value.string (ByteArray.mk (Array.mk y8))) (Value.string (ByteArray.mk (Array.mk y11)))).bind fun y12 => (some (Prod.mk (AV.sc y12) hp))))))))) (some (Prod.mk (AV.sc (.bool false)) hp))))))))) :=
 (qf cxX 118 ss118 400 _ _).trans (by kernel_rfl)
theorem E122 (a0 : AV) (hp : Hp) : run cxX 122 [a0] hp = ((qh 2 a0).bind fun y0 => ((qc (List.map ro1 y0) 0).bind fun y1 => ((binV Tryz.prog .sub 3 (.const (.int .i64 (.ofNat 65))) (.tmp 4) (.int .i64 (.ofNat 65)) y1).bind fun y2 => (some (Prod.mk (AV.sc y2) hp))))) :=
 (qf cxX 122 ss122 400 _ _).trans (by kernel_rfl)
theorem E125 (a0 a1 : AV) (hp : Hp) : run cxX 125 [a0, a1] hp = ((asSc a1).bind fun y0 => ((qh 2 a0).bind fun y1 => ((qc (List.map ro1 y1) 0).bind fun y2 => ((bltV Tryz.prog Go.Builtin.max (Array.mk [3, 3]) 3 [y2, .int .i64 (.ofNat 4)]).bind fun y3 => ((bltV Tryz.prog Go.Builtin.min (Array.mk [3, 3]) 3 [y3, .int .i64 (.ofNat 8)]).bind fun y4 => ((binV Tryz.prog .sub 3 (.const (.int .i64 (.ofNat 64))) (.tmp 12) (.int .i64 (.ofNat 64)) y4).bind fun y5 => ((binV Tryz.prog .shr 76 (.tmp 11) (.tmp 13) y0 y5).bind fun y6 => ((cvV Tryz.prog 76 3 y6).bind fun y7 => ((binV Tryz.prog .shl 76 (.tmp 16) (.tmp 17) y0 y4).bind fun y8 => ((qi [AV.sc y8] []).bind fun y9 => ((run cxX 168 [AV.sc y8] hp0).bind fun y10 => ((qm (y10).1).bind fun y11 => ((asSc (y10).1).bind fun y12 => ((binV Tryz.prog .sub 3 (.const (.int .i64 (.ofNat 64))) (.tmp 20) (.int .i64 (.ofNat 64)) y4).bind fun y13 => ((bltV Tryz.prog Go.Builtin.min (Array.mk [3, 3]) 3 [y12, y13]).bind fun y14 => ((binV Tryz.prog .add 3 (.tmp 22) (.const (.int .i64 (.ofNat 1))) y14 (.int .i64 (.ofNat 1))).bind fun y15 => ((cvV Tryz.prog 3 5 y15).bind fun y16 => (some (Prod.mk (AV.tup [AV.sc y7, AV.sc y16]) hp))))))))))))))))))) :=
 (qf cxX 125 ss125 400 _ _).trans (by kernel_rfl)
noncomputable def B28_3 (x17 : AV) (v18 v19 : Value) (b4 b5 : List AV) (hp : Hp) : Option (AV × Hp) := go cxX 28 [.code (sub [1, 1, 0, 1, 0, 0, 0] cd28), .code (sub [1, 1, 0, 1, 0, 0, 1] cd28), .inLoop (sub [1, 1, 0, 1, 0, 0] cd28), .inBlock 0, .code (sub [1, 1, 1] cd28)] ⟨[(4, .lp 4 0 0), (5, .lp 5 0 0), (17, .av x17), (18, .sv v18), (19, .sv v19)], [(4, 0, b4), (5, 0, b5)], hp⟩
theorem E28 (a0 a1 : AV) (hp : Hp) : run cxX 28 [a0, a1] hp = ((asSc a0).bind fun y0 => ((binV Tryz.prog .rem 5 (.tmp 10) (.const (.int .u8 (.ofNat 5))) y0 (.int .u8 (.ofNat 5))).bind fun y1 => ((cvV Tryz.prog 5 3 y1).bind fun y2 => ((binV Tryz.prog .add 3 (.const (.int .i64 (.ofNat 4))) (.tmp 12) (.int .i64 (.ofNat 4)) y2).bind fun y3 => ((qi [AV.sc y3] []).bind fun y4 => ((run cxX 74 [AV.sc y3] hp0).bind fun y5 => ((qm (y5).1).bind fun y6 => ((qo 2 (y5).1).bind fun y7 => ((asSc (ro (nthA (y5).1 1))).bind fun y8 => ((qh 2 (ro (nthA (y5).1 0))).bind fun y9 => ((putN [AV.sc (.int .i64 (.ofNat 0)), AV.sc (.slice none 0 0)] 0 y9).bind fun y10 => ((lenA (ro a1)).bind fun y11 => (B28_3 (ro a1) (.int .i64 (.ofNat y11)) (.int .i64 (.ofNat 0)) [AV.sc (.int .i64 (.ofNat 0)), AV.sc (.slice none 0 0)] y10 hp))))))))))))) :=
 (qf cxX 28 ss28 400 _ _).trans (by kernel_rfl)
theorem B28_3_eq (x17 : AV) (v18 v19 : Value) (b4 b5 : List AV) (hp : Hp) : B28_3 x17 v18 v19 b4 b5 hp = ((binV Tryz.prog .lss 3 (.tmp 19) (.tmp 18) v19 v18).bind fun y12 => ((asB y12).bind fun y13 => (cond y13 ((idxA 1 x17 v19).bind fun y14 => ((qc y14 0).bind fun y15 => ((getN b5 0 2).bind fun y16 => ((qi [AV.sc y15] []).bind fun y17 => ((run cxX 75 [AV.sc y15] hp0).bind fun y18 => ((qm (y18).1).bind fun y19 => ((asSc (y18).1).bind fun y20 => ((qi [AV.agg (List.map ro1 y16), AV.sc y20] []).bind fun y21 => ((run cxX 70 [ro (AV.agg (List.map ro1 y16)), AV.sc y20] hp0).bind fun y22 => ((qm (y22).1).bind fun y23 => ((qM (y22).1).bind fun y24 => ((qh 2 (y22).1).bind fun y25 => ((putN b5 0 y25).bind fun y26 => ((binV Tryz.prog .add 3 (.tmp 19) (.const (.int .i64 (.ofNat 1))) v19 (.int .i64 (.ofNat 1))).bind fun y27 => (B28_3 x17 v18 y27 b4 y26 hp))))))))))))))) ((getN b5 0 2).bind fun y28 => ((putN b5 0 (List.map ro1 y28)).bind fun y29 => ((qh 2 (AV.agg y28)).bind fun y30 => ((putN b4 0 y30).bind fun y31 => ((getN y31 0 2).bind fun y32 => (some (Prod.mk (AV.agg y32) hp)))))))))) :=
 (qe cxX 28 ss28 400 _ _).trans (by kernel_rfl)
theorem E75 (a0 : AV) (hp : Hp) : run cxX 75 [a0] hp = ((asSc a0).bind fun y0 => ((binV Tryz.prog .rem 76 (.tmp 3) (.const (.int .u64 (.ofNat 3))) y0 (.int .u64 (.ofNat 3))).bind fun y1 => ((binV Tryz.prog .eql 76 (.tmp 4) (.const (.int .u64 (.ofNat 0))) y1 (.int .u64 (.ofNat 0))).bind fun y2 => ((asB y2).bind fun y3 => (cond y3 ((binV Tryz.prog .shr 76 (.tmp 6) (.const (.int .u64 (.ofNat 56))) y0 (.int .u64 (.ofNat 56))).bind fun y4 => ((binV Tryz.prog .shl 76 (.tmp 7) (.const (.int .u64 (.ofNat 56))) y4 (.int .u64 (.ofNat 56))).bind fun y5 => ((binV Tryz.prog .quo 76 (.tmp 10) (.const (.int .u64 (.ofNat 4))) y0 (.int .u64 (.ofNat 4))).bind fun y6 => ((binV Tryz.prog .rem 76 (.tmp 11) (.const (.int .u64 (.ofNat 56))) y6 (.int .u64 (.ofNat 56))).bind fun y7 => ((binV Tryz.prog .shl 76 (.const (.int .u64 (.ofNat 1))) (.tmp 12) (.int .u64 (.ofNat 1)) y7).bind fun y8 => ((binV Tryz.prog .sub 76 (.tmp 13) (.const (.int .u64 (.ofNat 1))) y8 (.int .u64 (.ofNat 1))).bind fun y9 => ((binV Tryz.prog .and 76 (.tmp 9) (.tmp 14) y0 y9).bind fun y10 => ((binV Tryz.prog .or 76 (.tmp 8) (.tmp 15) y5 y10).bind fun y11 => (some (Prod.mk (AV.sc y11) hp)))))))))) (some (Prod.mk (AV.sc y0) hp))))))) :=
 (qf cxX 75 ss75 400 _ _).trans (by kernel_rfl)
def blen (x : Nat) : Nat := if x = 0 then 0 else Nat.log2 x + 1
theorem bl_blen {x n : Nat} (h : Bl x n) : n = blen x := by
 unfold blen
 by_cases hx : x = 0
 ·rw [if_pos hx]
  subst hx
  rcases h.2 with h2 | h2
  ·exact h2
  ·have := Nat.two_pow_pos (n - 1); omega
 ·rw [if_neg hx]
  have hn : n ≠ 0 := by
   intro e; subst e
   have := h.1
   simp at this
   exact hx this
  have h2 := h.2.resolve_left hn
  have a1 := Nat.log2_self_le hx
  have a2 : x < 2 ^ (Nat.log2 x + 1) := Nat.lt_log2_self
  have b1 : n - 1 < Nat.log2 x + 1 := (Nat.pow_lt_pow_iff_right (by decide : 1 < 2)).mp (Nat.lt_of_le_of_lt h2 a2)
  have b2 : Nat.log2 x < n := (Nat.pow_lt_pow_iff_right (by decide : 1 < 2)).mp (Nat.lt_of_le_of_lt a1 h.1)
  omega
theorem run_lzs (x : Nat) (h : x < 18446744073709551616) (hp : Hp) : run cxX 168 [.sc (.int .u64 (x : Int))] hp = some (.sc (.int .i64 ((64 - blen x : Nat) : Int)), hp) := by
 obtain ⟨n, h1, h2, h3⟩ := run_len64 x h
 rw [bl_blen h2] at h1 h3
 have w : IntKind.i64.wrap (64 - (blen x : Int)) = ((64 - blen x : Nat) : Int) := by rw [qg] <;> omega
 rw [E168]
 simp [h3, w]
abbrev Hv (P : Int) (x : AV) : AV := .agg [.sc (.int .i64 P), x]
def hpow (P : Int) : Nat := 2 ^ P.toNat
def hplc (P h : Int) : Nat := (h / 2 ^ (64 - P).toNat).toNat
def hrow (P h : Int) : Int := min ((64 - blen ((h * 2 ^ P.toNat) % 18446744073709551616).toNat : Nat) : Int) (64 - P) + 1
theorem hrow_in {P h : Int} (hP : 4 ≤ P ∧ P ≤ 8) : 1 ≤ hrow P h ∧ hrow P h ≤ 65 - P := by
 unfold hrow; omega
theorem hplc_lt {P h : Int} (hP : 4 ≤ P ∧ P ≤ 8) (hh : 0 ≤ h ∧ h < 18446744073709551616) : hplc P h < hpow P := by
 unfold hplc hpow
 obtain ⟨p, rfl⟩ : ∃ p : Nat, P = p := ⟨P.toNat, by omega⟩
 obtain ⟨x, rfl⟩ : ∃ x : Nat, h = x := ⟨h.toNat, by omega⟩
 have e : (64 - (p : Int)).toNat = 64 - p := by omega
 rw [e, Int.toNat_natCast]
 have e2 : ((x : Int) / 2 ^ (64 - p)) = ((x / 2 ^ (64 - p) : Nat) : Int) := by simp
 rw [e2, Int.toNat_natCast]
 apply Nat.div_lt_of_lt_mul
 rw [← Nat.pow_add]
 have e3 : 64 - p + p = 64 := by omega
 rw [e3]
 omega
theorem run_hplace (P h : Int) (x : AV) (hP : 4 ≤ P ∧ P ≤ 8) (hh : 0 ≤ h ∧ h < 18446744073709551616) (hp : Hp) :
  run cxX 125 [Hv P x, .sc (.int .u64 h)] hp = some (.tup [.sc (.int .i64 (hplc P h : Int)), .sc (.int .u8 (hrow P h))], hp) := by
 rw [E125]
 have m1 : max P 4 = P := by omega
 have m2 : min P 8 = P := by omega
 have w1 : IntKind.i64.wrap (64 - P) = 64 - P := qg (by omega) (by omega)
 have s1 : ∀ t x y, binV Tryz.prog .shr t x y (.int .u64 h) (.int .i64 (64 - P)) = some (.int .u64 (hplc P h : Int)) := by
  intro t x y
  rw [zK _ _ _ _ _ _ _ _ (by omega)]
  have e : min (64 - P).toNat IntKind.u64.bits = (64 - P).toNat := by
   have : IntKind.u64.bits = 64 := rfl
   omega
  rw [e, Int.fdiv_eq_ediv_of_nonneg _ (by exact_mod_cast Nat.zero_le _)]
  unfold hplc
  have : 0 ≤ h / 2 ^ (64 - P).toNat := Int.ediv_nonneg hh.1 (by exact_mod_cast Nat.zero_le _)
  rw [Int.toNat_of_nonneg this]
 have hlt := hplc_lt hP hh
 have h256 : hpow P ≤ 256 := by
  unfold hpow
  have : P.toNat ≤ 8 := by omega
  calc 2 ^ P.toNat ≤ 2 ^ 8 := Nat.pow_le_pow_right (by decide) this
   _ = 256 := rfl
 have w2 : IntKind.i64.wrap (hplc P h : Int) = (hplc P h : Int) := qg (by omega) (by omega)
 obtain ⟨y, hy⟩ : ∃ y : Nat, y = ((h * 2 ^ P.toNat) % 18446744073709551616).toNat := ⟨_, rfl⟩
 have hy64 : y < 18446744073709551616 := by omega
 have s2 : ∀ t a b, binV Tryz.prog .shl t a b (.int .u64 h) (.int .i64 P) = some (.int .u64 (y : Int)) := by
  intro t a b
  rw [zL _ _ _ _ _ _ _ _ (by omega)]
  have e : min P.toNat IntKind.u64.bits = P.toNat := by
   have : IntKind.u64.bits = 64 := rfl
   omega
  rw [e, IntKind.wrap_u64, hy]
  congr 2
  omega
 have lz := fun hp => run_lzs y hy64 hp
 have hr := hrow_in (h := h) hP
 have hre : hrow P h = min ((64 - blen y : Nat) : Int) (64 - P) + 1 := by unfold hrow; rw [hy]
 have w3 : IntKind.i64.wrap (min ((64 - blen y : Nat) : Int) (64 - P) + 1) = hrow P h := by rw [← hre]; exact qg (by omega) (by omega)
 have w4 : IntKind.u8.wrap (hrow P h) = hrow P h := zt (by omega) (by omega)
 simp [qc, m1, m2, w1, s1, s2, w2, lz, w3, w4]
theorem shl_pow (P : Int) (hP : 0 ≤ P ∧ P ≤ 8) (t : TypeId) (x y : Operand) : binV Tryz.prog .shl t x y (.int .i64 1) (.int .i64 P) = some (.int .i64 (hpow P : Int)) := by
 rw [zL _ _ _ _ _ _ _ _ (by omega)]
 have e : min P.toNat IntKind.i64.bits = P.toNat := by
  have : IntKind.i64.bits = 64 := rfl
  omega
 have h256 : hpow P ≤ 256 := by
  unfold hpow
  have : P.toNat ≤ 8 := by omega
  calc 2 ^ P.toNat ≤ 2 ^ 8 := Nat.pow_le_pow_right (by decide) this
   _ = 256 := rfl
 rw [e]
 have e2 : (1 * 2 ^ P.toNat : Int) = (hpow P : Int) := by unfold hpow; simp
 rw [e2, qg (by omega) (by omega)]
theorem hpow_le {P : Int} (hP : P ≤ 8) : hpow P ≤ 256 := by
 unfold hpow
 have : P.toNat ≤ 8 := by omega
 calc 2 ^ P.toNat ≤ 2 ^ 8 := Nat.pow_le_pow_right (by decide) this
  _ = 256 := rfl
theorem run_htop (P : Int) (x : AV) (hP : 0 ≤ P ∧ P ≤ 64) (hp : Hp) : run cxX 122 [Hv P x] hp = some (.sc (.int .i64 (65 - P)), hp) := by
 rw [E122]
 have w : IntKind.i64.wrap (65 - P) = 65 - P := qg (by omega) (by omega)
 simp [qc, w]
def hchkR (P : Int) (l : List Int) : Int := if (∃ n ∈ l, 65 - P < n) then 2 else 0
def hchk (P : Int) (l : List Int) : Int := if P < 4 ∨ 8 < P then 2 else if l.length ≠ hpow P then 6 else hchkR P l
theorem hcheck_loop (P : Int) (l : List Int) (k : Nat) (hP : 4 ≤ P ∧ P ≤ 8) (hl : l.length ≤ 1000) (h8 : ∀ n ∈ l, 0 ≤ n ∧ n < 256) (hp : Hp) : ∀ (r : List Int) (i : Nat), l.drop i = r →
  B64_6 (S k 1 (LI .u8 l)) (.int .i64 l.length) (.int .i64 i) [.sc (.int .i64 P), S k 1 (LI .u8 l)] hp = some (.sc (.int .i64 (hchkR P r)), hp) := by
 intro r
 induction r with
 | nil =>
  intro i hr
  have := qw hr
  have hlt : ¬((i : Int) < (l.length : Int)) := by omega
  rw [B64_6_eq]
  simp [hlt, hchkR]
 | cons x r ih =>
  intro i hr
  obtain ⟨e1, e2, hi, e3⟩ := qr hr
  have hx := h8 x (List.mem_of_getElem? e1)
  have hw : IntKind.i64.wrap ((i : Int) + 1) = ((i + 1 : Nat) : Int) := by rw [qg] <;> omega
  have w8 : IntKind.i64.wrap x = x := qg (by omega) (by omega)
  have tp := fun y hp => run_htop P y (by omega) hp
  have h := ih (i + 1) e2
  rw [B64_6_eq]
  simp at h hw
  by_cases e : 65 - P < x
  ·simp [hi, e3, qc, getN, w8, tp, e, hchkR]
  ·have e' : hchkR P (x :: r) = hchkR P r := by
    unfold hchkR
    simp [e]
   simp [hi, e3, qc, getN, w8, tp, e, hw, h, e']
theorem run_hcheck (P : Int) (l : List Int) (k : Nat) (hl : l.length ≤ 1000000) (h8 : ∀ n ∈ l, 0 ≤ n ∧ n < 256) (hp : Hp) : run cxX 64 [Hv P (S k 1 (LI .u8 l))] hp = some (.sc (.int .i64 (hchk P l)), hp) := by
 rw [E64]
 unfold hchk
 by_cases h1 : P < 4
 ·simp [qc, h1, B64_2_eq]
 ·by_cases h2 : 8 < P
  ·simp [qc, h1, h2, B64_2_eq]
  ·have s := fun t x y => shl_pow P (by omega) t x y
   have hple := hpow_le (P := P) (by omega)
   by_cases h3 : l.length = hpow P
   ·have hh := hcheck_loop P l (rk k) (by omega) (by omega) h8 hp l 0 rfl
    simp at hh
    simp [qc, getC, h1, h2, s, h3, B64_3_eq]
    rw [← h3]; exact hh
   ·have h4 : ¬((l.length : Int) = (hpow P : Int)) := by omega
    simp [qc, getC, h1, h2, s, h3, h4, B64_3_eq]
def b8 (l : List Int) : List UInt8 := l.map fun n => UInt8.ofNat n.toNat
@[simp] theorem bytes_I : ∀ l : List Int, zC (LI .u8 l) = some (b8 l)
 | [] => rfl
 | x :: l => by
  have := bytes_I l
  show (zC (LI .u8 l)).map _ = _
  rw [this]; rfl
theorem b8_inj : ∀ {a b : List Int}, (∀ n ∈ a, 0 ≤ n ∧ n < 256) → (∀ n ∈ b, 0 ≤ n ∧ n < 256) → (b8 a = b8 b ↔ a = b)
 | [], [], _, _ => by simp
 | [], y :: b, _, _ => by simp [b8]
 | x :: a, [], _, _ => by simp [b8]
 | x :: a, y :: b, ha, hb => by
  have ih := b8_inj (a := a) (b := b) (fun n hn => ha n (by simp [hn])) (fun n hn => hb n (by simp [hn]))
  have hx := ha x (by simp)
  have hy := hb y (by simp)
  have e : UInt8.ofNat x.toNat = UInt8.ofNat y.toNat ↔ x = y := by
   constructor
   ·intro h
    have := congrArg UInt8.toNat h
    simp at this
    omega
   ·rintro rfl; rfl
  simp only [b8, List.map_cons, List.cons.injEq] at ih ⊢
  rw [e, ih]
theorem run_hsame (P P' : Int) (a b : List Int) (k k' : Nat) (ha : ∀ n ∈ a, 0 ≤ n ∧ n < 256) (hb : ∀ n ∈ b, 0 ≤ n ∧ n < 256) (hp : Hp) :
  run cxX 118 [Hv P (S k 1 (LI .u8 a)), Hv P' (S k' 1 (LI .u8 b))] hp = some (.sc (.bool (decide (P = P' ∧ a = b))), hp) := by
 rw [E118]
 by_cases h : P = P'
 ·have e : decide (b8 a = b8 b) = decide (a = b) := decide_eq_decide.mpr (b8_inj ha hb)
  simp [qc, getC, h, e]
 ·simp [qc, h]
theorem run_hnew (P : Int) (hP : 4 ≤ P ∧ P ≤ 8) (hp : Hp) : run cxX 74 [.sc (.int .i64 P)] hp = some (.tup [Hv P (S 0 1 (LI .u8 (List.replicate (hpow P) 0))), .sc (.bool true)], hp) := by
 rw [E74]
 have h1 : ¬(P < 4) := by omega
 have h2 : ¬(8 < P) := by omega
 have s := fun t x y => shl_pow P (by omega) t x y
 have hple := hpow_le (P := P) (by omega)
 have mk : okMake 1 1 (hpow P : Int) (hpow P : Int) = some () := okMake_ok (by omega) (by omega) (by decide) (by decide)
 simp [h1, h2, B74_3_eq, s, mk, zeros_I, getN, putN]
def hmax : List Int → List Int → List Int
 | [], _ => []
 | x :: a, [] => x :: a
 | x :: a, y :: b => max x y :: hmax a b
@[simp] theorem hmax_nil_r : ∀ a, hmax a [] = a
 | [] => rfl
 | _ :: _ => rfl
def hadd (P : Int) (l : List Int) (h : Int) : List Int := if hplc P h < l.length then l.set (hplc P h) (max (l.getD (hplc P h) 0) (hrow P h)) else l
theorem run_hadd (P : Int) (l : List Int) (k : Nat) (h : Int) (hP : 4 ≤ P ∧ P ≤ 8) (hh : 0 ≤ h ∧ h < 18446744073709551616) (hl : l.length ≤ 1000000) (hp : Hp) :
  ∃ t hp', run cxX 70 [Hv P (S k 1 (LI .u8 l)), .sc (.int .u64 h)] hp = some (Hv P (S t 1 (LI .u8 (hadd P l h))), hp') := by
 rw [E70]
 have pl := fun x hp => run_hplace P h x hP hh hp
 by_cases hne : l = []
 ·subst hne
  have n1 := fun k hp => appM_nil 1 k hp
  have e : ¬((hplc P h : Int) < 0) := by omega
  refine ⟨0, hp, ?_⟩
  simp [qc, getC, n1, putN, getN, pl, hadd, e, B70_5_eq]
 ·have n1 := fun k hp => xn .u8 l k 1 (by decide) hl hne hp
  have f5 : ∀ (l : List Int) (b : Nat) (hp : Hp) (q0 q1 : AV), hp.rd b 0 = some (LI .u8 l) → B70_5 [q0, q1] [.sc (.int .i64 P), .ms b 0 0 l.length 1] hp = some (Hv P (S 0 1 (LI .u8 l)), hp.del b) := by
   intro l b hp q0 q1 hb
   have f := frz1_I .u8 l hp b hb
   rw [B70_5_eq]
   simp [getN, putN, f]
  by_cases hi : hplc P h < l.length
  ·have hi' : (hplc P h : Int) < (l.length : Int) := by omega
   have ix := zr .i64 hi
   have gs : l[hplc P h]? = some (l.getD (hplc P h) 0) := by simp [hi]
   have pt := putN_I .u8 l (hplc P h) (max (l.getD (hplc P h) 0) (hrow P h)) hi
   have f := f5 (l.set (hplc P h) (max (l.getD (hplc P h) 0) (hrow P h))) hp.next ((hp.new (LI .u8 l)).put hp.next 0 (LI .u8 (l.set (hplc P h) (max (l.getD (hplc P h) 0) (hrow P h))))) (.sc (.int .i64 0)) (S 2 1 []) (qp _ _ _)
   rw [List.length_set] at f
   have r0 := qB hp (LI .u8 l)
   refine ⟨0, ((hp.new (LI .u8 l)).put hp.next 0 (LI .u8 (l.set (hplc P h) (max (l.getD (hplc P h) 0) (hrow P h))))).del hp.next, ?_⟩
   simp only [hadd, if_pos hi]
   generalize l.getD (hplc P h) 0 = g at gs pt f ⊢
   simp [qc, getC, n1, putN, getN, pl, hi', ix, r0, gs] at pt ⊢
   simp [pt]
   exact f
  ·have hi' : ¬((hplc P h : Int) < (l.length : Int)) := by omega
   have f := f5 l hp.next (hp.new (LI .u8 l)) (.sc (.int .i64 0)) (S 2 1 []) (qB _ _)
   refine ⟨0, (hp.new (LI .u8 l)).del hp.next, ?_⟩
   simp only [hadd, if_neg hi]
   simp [qc, getC, n1, putN, getN, pl, hi']
   exact f
theorem run_hash0 (h : Int) (hh : 0 ≤ h ∧ h < 18446744073709551616) : ∃ v : Int, (0 ≤ v ∧ v < 18446744073709551616) ∧ ∀ hp, run cxX 75 [.sc (.int .u64 h)] hp = some (.sc (.int .u64 v), hp) := by
 have r3 : ∀ t x y, binV Tryz.prog .rem t x y (.int .u64 h) (.int .u64 3) = some (.int .u64 (h % 3)) := by
  intro t x y; rw [qI _ _ _ _ _ _ _ (by omega), qG hh.1]
 by_cases e : h % 3 = 0
 ·obtain ⟨z1, s1⟩ : ∃ z : Int, ∀ t x y, binV Tryz.prog .shr t x y (.int .u64 h) (.int .u64 56) = some (.int .u64 z) := ⟨_, fun t x y => zK _ _ _ _ _ _ _ _ (by omega)⟩
  obtain ⟨z2, s2⟩ : ∃ z : Int, ∀ t x y, binV Tryz.prog .shl t x y (.int .u64 z1) (.int .u64 56) = some (.int .u64 z) := ⟨_, fun t x y => zL _ _ _ _ _ _ _ _ (by omega)⟩
  have q4 : ∀ t x y, binV Tryz.prog .quo t x y (.int .u64 h) (.int .u64 4) = some (.int .u64 (h / 4)) := by
   intro t x y; rw [binV_quo _ _ _ _ _ _ _ (by omega), Int.tdiv_eq_ediv_of_nonneg hh.1, qt (by omega) (by omega)]
  have r56 : ∀ t x y, binV Tryz.prog .rem t x y (.int .u64 (h / 4)) (.int .u64 56) = some (.int .u64 (h / 4 % 56)) := by
   intro t x y; rw [qI _ _ _ _ _ _ _ (by omega), qG (by omega)]
  obtain ⟨z3, s3⟩ : ∃ z : Int, ∀ t x y, binV Tryz.prog .shl t x y (.int .u64 1) (.int .u64 (h / 4 % 56)) = some (.int .u64 z) := ⟨_, fun t x y => zL _ _ _ _ _ _ _ _ (by omega)⟩
  obtain ⟨z4, s4⟩ : ∃ z : Int, ∀ t x y, binV Tryz.prog .sub t x y (.int .u64 z3) (.int .u64 1) = some (.int .u64 z) := ⟨_, fun t x y => yw _ _ _ _ _ _ _⟩
  obtain ⟨z5, s5⟩ : ∃ z : Int, ∀ t x y, binV Tryz.prog .and t x y (.int .u64 h) (.int .u64 z4) = some (.int .u64 z) := ⟨_, fun t x y => qL _ _ _ _ _ _ _⟩
  obtain ⟨z6, b6, s6⟩ : ∃ z : Int, (0 ≤ z ∧ z < 18446744073709551616) ∧ ∀ t x y, binV Tryz.prog .or t x y (.int .u64 z2) (.int .u64 z5) = some (.int .u64 z) := ⟨_, by rw [IntKind.wrap_u64]; omega, fun t x y => zT _ _ _ _ _ _ _⟩
  refine ⟨z6, b6, fun hp => ?_⟩
  rw [E75]
  simp [r3, e, s1, s2, q4, r56, s3, s4, s5, s6, -yw, -qL, -zT]
 ·refine ⟨h, hh, fun hp => ?_⟩
  rw [E75]
  simp [r3, e]
noncomputable def hsh (h : Int) : Int := if hh : 0 ≤ h ∧ h < 18446744073709551616 then (run_hash0 h hh).choose else 0
theorem hsh_ok {h : Int} (hh : 0 ≤ h ∧ h < 18446744073709551616) : (0 ≤ hsh h ∧ hsh h < 18446744073709551616) ∧ ∀ hp, run cxX 75 [.sc (.int .u64 h)] hp = some (.sc (.int .u64 (hsh h)), hp) := by
 unfold hsh
 rw [dif_pos hh]
 exact (run_hash0 h hh).choose_spec
noncomputable def hfold (P : Int) (a l : List Int) : List Int := l.foldl (fun a h => hadd P a (hsh h)) a
theorem hadd_len (P : Int) (l : List Int) (h : Int) : (hadd P l h).length = l.length := by
 unfold hadd; split <;> simp
theorem hfold_len (P : Int) : ∀ (l a : List Int), (hfold P a l).length = a.length
 | [], a => rfl
 | h :: l, a => by
  show (hfold P (hadd P a (hsh h)) l).length = _
  rw [hfold_len P l, hadd_len]
theorem hll_loop (P : Int) (q0 q1 : AV) (l : List Int) (k : Nat) (hP : 4 ≤ P ∧ P ≤ 8) (hl : l.length ≤ 1000000) (h64 : ∀ n ∈ l, 0 ≤ n ∧ n < 18446744073709551616) (hp : Hp) : ∀ (r : List Int) (i t : Nat) (a : List Int), l.drop i = r → a.length ≤ 1000000 →
  ∃ t', B28_3 (S k 1 (LI .u64 l)) (.int .i64 l.length) (.int .i64 i) [q0, q1] [.sc (.int .i64 P), S t 1 (LI .u8 a)] hp = some (Hv P (S t' 1 (LI .u8 (hfold P a r))), hp) := by
 intro r
 induction r with
 | nil =>
  intro i t a hr ha
  have := qw hr
  have hlt : ¬((i : Int) < (l.length : Int)) := by omega
  refine ⟨t, ?_⟩
  rw [B28_3_eq]
  simp [hlt, getN, putN, hfold]
 | cons x r ih =>
  intro i t a hr ha
  obtain ⟨e1, e2, hi, e3⟩ := qr hr
  have hx := h64 x (List.mem_of_getElem? e1)
  obtain ⟨hb, hs⟩ := hsh_ok hx
  have hw : IntKind.i64.wrap ((i : Int) + 1) = ((i + 1 : Nat) : Int) := by rw [qg] <;> omega
  obtain ⟨t1, hp1, ha1⟩ := run_hadd P a (rk t) (hsh x) hP hb ha hp0
  obtain ⟨t', h⟩ := ih (i + 1) t1 (hadd P a (hsh x)) e2 (by rw [hadd_len]; exact ha)
  refine ⟨t', ?_⟩
  rw [B28_3_eq]
  simp at h hw
  have ef : hfold P a (x :: r) = hfold P (hadd P a (hsh x)) r := rfl
  simp [hi, e3, qc, hs, getN, putN, ha1, hw, h, ef]
theorem run_hll (p : Int) (l : List Int) (k : Nat) (hp8 : 0 ≤ p ∧ p < 256) (hl : l.length ≤ 1000000) (h64 : ∀ n ∈ l, 0 ≤ n ∧ n < 18446744073709551616) (hp : Hp) :
  ∃ t, run cxX 28 [.sc (.int .u8 p), S k 1 (LI .u64 l)] hp = some (Hv (4 + p % 5) (S t 1 (LI .u8 (hfold (4 + p % 5) (List.replicate (hpow (4 + p % 5)) 0) l))), hp) := by
 have h1 : ∀ t x y, binV Tryz.prog .rem t x y (.int .u8 p) (.int .u8 5) = some (.int .u8 (p % 5)) := by
  intro t x y; rw [qI _ _ _ _ _ _ _ (by omega), qG hp8.1]
 have w1 : IntKind.i64.wrap (p % 5) = p % 5 := qg (by omega) (by omega)
 have w2 : IntKind.i64.wrap (4 + p % 5) = 4 + p % 5 := qg (by omega) (by omega)
 have nw := fun hp => run_hnew (4 + p % 5) (by omega) hp
 have hple := hpow_le (P := 4 + p % 5) (by omega)
 obtain ⟨t, h⟩ := hll_loop (4 + p % 5) (.sc (.int .i64 0)) (S 2 1 []) l (rk k) (by omega) hl h64 hp l 0 0 (List.replicate (hpow (4 + p % 5)) 0) rfl (by simp; omega)
 refine ⟨t, ?_⟩
 rw [E28]
 simp at h
 simp [h1, w1, w2, nw, putN, h]
noncomputable def B65_2 (hp : Hp) : Option (AV × Hp) := go cxX 65 [.code (sub [1, 0, 1, 0, 0] cd65), .code (sub [1, 0, 1, 0, 1] cd65), .code (sub [1, 1] cd65)] ⟨[], [], hp⟩
noncomputable def B65_3 (b1 : List AV) (hp : Hp) : Option (AV × Hp) := go cxX 65 [.code (sub [1, 1, 0, 0] cd65), .code (sub [1, 1, 0, 1] cd65), .code (sub [1, 1, 1] cd65)] ⟨[(1, .lp 1 0 0)], [(1, 0, b1)], hp⟩
noncomputable def B65_4 (x24 : AV) (v25 v26 : Value) (b1 : List AV) (hp : Hp) : Option (AV × Hp) := go cxX 65 [.code (sub [1, 1, 0, 1, 0, 0, 0] cd65), .code (sub [1, 1, 0, 1, 0, 0, 1] cd65), .inLoop (sub [1, 1, 0, 1, 0, 0] cd65), .inBlock 0, .code (sub [1, 1, 1] cd65)] ⟨[(1, .lp 1 0 0), (24, .av x24), (25, .sv v25), (26, .sv v26)], [(1, 0, b1)], hp⟩
noncomputable def B65_9 (hp : Hp) : Option (AV × Hp) := go cxX 65 [.code (sub [1, 1, 0, 1, 0, 0, 1, 1, 0, 0, 1, 1, 1, 0, 0] cd65), .code (sub [1, 0, 1, 0, 1] cd65), .inBlock 1, .code (sub [1, 1, 0, 1, 0, 0, 1, 1, 1] cd65), .inLoop (sub [1, 1, 0, 1, 0, 0] cd65), .inBlock 0, .code (sub [1, 1, 1] cd65)] ⟨[], [], hp⟩
noncomputable def B65_10 (x24 : AV) (v25 v26 : Value) (b1 : List AV) (hp : Hp) : Option (AV × Hp) := go cxX 65 [.code (sub [1, 1, 0, 1, 0, 0, 1, 1, 1] cd65), .inLoop (sub [1, 1, 0, 1, 0, 0] cd65), .inBlock 0, .code (sub [1, 1, 1] cd65)] ⟨[(1, .lp 1 0 0), (24, .av x24), (25, .sv v25), (26, .sv v26)], [(1, 0, b1)], hp⟩
theorem E65 (a0 : AV) (hp : Hp) : run cxX 65 [a0] hp = ((qh 3 a0).bind fun y0 => ((qc (List.map ro1 y0) 0).bind fun y1 => ((binV Tryz.prog .lss 3 (.tmp 6) (.const (.int .i64 (.ofNat 1))) y1 (.int .i64 (.ofNat 1))).bind fun y2 => ((asB y2).bind fun y3 => (cond y3 (B65_2 hp) ((qc (List.map ro1 y0) 0).bind fun y4 => ((binV Tryz.prog .gtr 3 (.tmp 10) (.const (.int .i64 (.ofNat 4096))) y4 (.int .i64 (.ofNat 4096))).bind fun y5 => ((asB y5).bind fun y6 => (cond y6 (B65_2 hp) ((qc (List.map ro1 y0) 1).bind fun y7 => ((binV Tryz.prog .lss 3 (.tmp 15) (.const (.int .i64 (.ofNat 1))) y7 (.int .i64 (.ofNat 1))).bind fun y8 => ((asB y8).bind fun y9 => (cond y9 (B65_2 hp) ((qc (List.map ro1 y0) 1).bind fun y10 => ((binV Tryz.prog .gtr 3 (.tmp 20) (.const (.int .i64 (.ofNat 8))) y10 (.int .i64 (.ofNat 8))).bind fun y11 => ((asB y11).bind fun y12 => (cond y12 (B65_2 hp) (B65_3 (List.map ro1 y0) hp)))))))))))))))))) :=
 (qf cxX 65 ss65 400 _ _).trans (by kernel_rfl)
theorem B65_2_eq (hp : Hp) : B65_2 hp = (some (Prod.mk (AV.sc (.int .i64 (.ofNat 2))) hp)) :=
 (qe cxX 65 ss65 400 _ _).trans (by kernel_rfl)
theorem B65_3_eq (b1 : List AV) (hp : Hp) : B65_3 b1 hp = ((getC b1 2).bind fun y13 => ((lenA (ro1 y13)).bind fun y14 => (B65_4 (ro1 y13) (.int .i64 (.ofNat y14)) (.int .i64 (.ofNat 0)) b1 hp))) :=
 (qe cxX 65 ss65 400 _ _).trans (by kernel_rfl)
theorem B65_4_eq (x24 : AV) (v25 v26 : Value) (b1 : List AV) (hp : Hp) : B65_4 x24 v25 v26 b1 hp = ((binV Tryz.prog .lss 3 (.tmp 26) (.tmp 25) v26 v25).bind fun y15 => ((asB y15).bind fun y16 => (cond y16 ((idxA 1 x24 v26).bind fun y17 => ((qc y17 0).bind fun y18 => ((cvV Tryz.prog 30 3 y18).bind fun y19 => ((qc b1 0).bind fun y20 => ((binV Tryz.prog .geq 3 (.tmp 32) (.tmp 34) y19 y20).bind fun y21 => ((asB y21).bind fun y22 => (cond y22 (some (Prod.mk (AV.sc (.int .i64 (.ofNat 2))) hp)) ((binV Tryz.prog .gtr 3 (.tmp 36) (.const (.int .i64 (.ofNat 0))) v26 (.int .i64 (.ofNat 0))).bind fun y23 => ((asB y23).bind fun y24 => (cond y24 ((getC b1 2).bind fun y25 => ((binV Tryz.prog .sub 3 (.tmp 42) (.const (.int .i64 (.ofNat 1))) v26 (.int .i64 (.ofNat 1))).bind fun y26 => ((idxA 1 (ro1 y25) y26).bind fun y27 => ((qc y27 0).bind fun y28 => ((binV Tryz.prog .leq 30 (.tmp 39) (.tmp 45) y18 y28).bind fun y29 => ((asB y29).bind fun y30 => (cond y30 (B65_9 hp) (B65_10 x24 v25 v26 b1 hp)))))))) (B65_10 x24 v25 v26 b1 hp))))))))))) (some (Prod.mk (AV.sc (.int .i64 (.ofNat 0))) hp))))) :=
 (qe cxX 65 ss65 400 _ _).trans (by kernel_rfl)
theorem B65_9_eq (hp : Hp) : B65_9 hp = (some (Prod.mk (AV.sc (.int .i64 (.ofNat 8))) hp)) :=
 (qe cxX 65 ss65 400 _ _).trans (by kernel_rfl)
theorem B65_10_eq (x24 : AV) (v25 v26 : Value) (b1 : List AV) (hp : Hp) : B65_10 x24 v25 v26 b1 hp = ((binV Tryz.prog .add 3 (.tmp 26) (.const (.int .i64 (.ofNat 1))) v26 (.int .i64 (.ofNat 1))).bind fun y31 => (B65_4 x24 v25 y31 b1 hp)) :=
 (qe cxX 65 ss65 400 _ _).trans (by kernel_rfl)
noncomputable def B71_3 (x11 : AV) (v12 v13 : Value) (b2 b4 b5 : List AV) (hp : Hp) : Option (AV × Hp) := go cxX 71 [.code (sub [1, 1, 0, 1, 0, 0, 0] cd71), .code (sub [1, 1, 0, 1, 0, 0, 1] cd71), .inLoop (sub [1, 1, 0, 1, 0, 0] cd71), .inBlock 0, .code (sub [1, 1, 1] cd71)] ⟨[(2, .lp 2 0 0), (4, .lp 4 0 0), (5, .lp 5 0 0), (11, .av x11), (12, .sv v12), (13, .sv v13)], [(2, 0, b2), (4, 0, b4), (5, 0, b5)], hp⟩
theorem E71 (a0 a1 : AV) (hp : Hp) : run cxX 71 [a0, a1] hp = ((asSc a1).bind fun y0 => ((qh 3 a0).bind fun y1 => ((getN (List.map ro1 y1) 0 3).bind fun y2 => ((qh 3 (AV.agg (List.map ro1 y2))).bind fun y3 => ((putN [AV.sc (.int .i64 (.ofNat 0)), AV.sc (.int .i64 (.ofNat 0)), AV.sc (.slice none 0 0)] 0 y3).bind fun y4 => ((getN (List.map ro1 y1) 0 3).bind fun y5 => ((qi [AV.agg (List.map ro1 y5), AV.sc y0] []).bind fun y6 => ((run cxX 126 [ro (AV.agg (List.map ro1 y5)), AV.sc y0] hp0).bind fun y7 => ((qm (y7).1).bind fun y8 => ((qM (y7).1).bind fun y9 => ((lenA (y7).1).bind fun y10 => (B71_3 (y7).1 (.int .i64 (.ofNat y10)) (.int .i64 (.ofNat 0)) (List.map ro1 y1) [AV.sc (.int .i64 (.ofNat 0)), AV.sc (.int .i64 (.ofNat 0)), AV.sc (.slice none 0 0)] y4 hp)))))))))))) :=
 (qf cxX 71 ss71 400 _ _).trans (by kernel_rfl)
theorem B71_3_eq (x11 : AV) (v12 v13 : Value) (b2 b4 b5 : List AV) (hp : Hp) : B71_3 x11 v12 v13 b2 b4 b5 hp = ((binV Tryz.prog .lss 3 (.tmp 13) (.tmp 12) v13 v12).bind fun y11 => ((asB y11).bind fun y12 => (cond y12 ((idxA 1 x11 v13).bind fun y13 => ((qc y13 0).bind fun y14 => ((getN b5 0 3).bind fun y15 => ((qc b2 0).bind fun y16 => ((qc b2 1).bind fun y17 => ((okV [AV.sc y14]).bind fun y18 => ((qi [AV.agg (List.map ro1 y15), AV.agg [AV.sc y16, AV.sc y17, ro1 (AV.us 1 [AV.sc y14])]] []).bind fun y19 => ((run cxX 127 [ro (AV.agg (List.map ro1 y15)), ro (AV.agg [AV.sc y16, AV.sc y17, ro1 (AV.us 1 [AV.sc y14])])] hp0).bind fun y20 => ((qm (y20).1).bind fun y21 => ((qM (y20).1).bind fun y22 => ((qh 3 (y20).1).bind fun y23 => ((putN b5 0 y23).bind fun y24 => ((binV Tryz.prog .add 3 (.tmp 13) (.const (.int .i64 (.ofNat 1))) v13 (.int .i64 (.ofNat 1))).bind fun y25 => (B71_3 x11 v12 y25 b2 b4 y24 hp)))))))))))))) ((getN b5 0 3).bind fun y26 => ((putN b5 0 (List.map ro1 y26)).bind fun y27 => ((qh 3 (AV.agg y26)).bind fun y28 => ((putN b4 0 y28).bind fun y29 => ((getN y29 0 3).bind fun y30 => (some (Prod.mk (AV.agg y30) hp)))))))))) :=
 (qe cxX 71 ss71 400 _ _).trans (by kernel_rfl)
noncomputable def B119_2 (hp : Hp) : Option (AV × Hp) := go cxX 119 [.code (sub [1, 0, 1, 0, 0] cd119), .code (sub [1, 0, 1, 0, 1] cd119), .code (sub [1, 1] cd119)] ⟨[], [], hp⟩
noncomputable def B119_3 (b2 b3 : List AV) (hp : Hp) : Option (AV × Hp) := go cxX 119 [.code (sub [1, 1, 0, 0] cd119), .code (sub [1, 1, 0, 1] cd119), .code (sub [1, 1, 1] cd119)] ⟨[(2, .lp 2 0 0), (3, .lp 3 0 0)], [(2, 0, b2), (3, 0, b3)], hp⟩
noncomputable def B119_4 (v29 v30 : Value) (b2 b3 : List AV) (hp : Hp) : Option (AV × Hp) := go cxX 119 [.code (sub [1, 1, 0, 1, 0, 0, 0] cd119), .code (sub [1, 1, 0, 1, 0, 0, 1] cd119), .inLoop (sub [1, 1, 0, 1, 0, 0] cd119), .inBlock 0, .code (sub [1, 1, 1] cd119)] ⟨[(2, .lp 2 0 0), (3, .lp 3 0 0), (29, .sv v29), (30, .sv v30)], [(2, 0, b2), (3, 0, b3)], hp⟩
theorem E119 (a0 a1 : AV) (hp : Hp) : run cxX 119 [a0, a1] hp = ((qh 3 a0).bind fun y0 => ((qh 3 a1).bind fun y1 => ((qc (List.map ro1 y0) 0).bind fun y2 => ((qc (List.map ro1 y1) 0).bind fun y3 => ((binV Tryz.prog .neq 3 (.tmp 7) (.tmp 9) y2 y3).bind fun y4 => ((asB y4).bind fun y5 => (cond y5 (B119_2 hp) ((qc (List.map ro1 y0) 1).bind fun y6 => ((qc (List.map ro1 y1) 1).bind fun y7 => ((binV Tryz.prog .neq 3 (.tmp 13) (.tmp 15) y6 y7).bind fun y8 => ((asB y8).bind fun y9 => (cond y9 (B119_2 hp) ((getC (List.map ro1 y0) 2).bind fun y10 => ((lenA (ro1 y10)).bind fun y11 => ((getC (List.map ro1 y1) 2).bind fun y12 => ((lenA (ro1 y12)).bind fun y13 => ((binV Tryz.prog .neq 3 (.tmp 21) (.tmp 24) (.int .i64 (.ofNat y11)) (.int .i64 (.ofNat y13))).bind fun y14 => ((asB y14).bind fun y15 => (cond y15 (B119_2 hp) (B119_3 (List.map ro1 y0) (List.map ro1 y1) hp)))))))))))))))))))) :=
 (qf cxX 119 ss119 400 _ _).trans (by kernel_rfl)
theorem B119_2_eq (hp : Hp) : B119_2 hp = (some (Prod.mk (AV.sc (.bool false)) hp)) :=
 (qe cxX 119 ss119 400 _ _).trans (by kernel_rfl)
theorem B119_3_eq (b2 b3 : List AV) (hp : Hp) : B119_3 b2 b3 hp = ((getC b2 2).bind fun y16 => ((lenA (ro1 y16)).bind fun y17 => (B119_4 (.int .i64 (.ofNat y17)) (.int .i64 (.ofNat 0)) b2 b3 hp))) :=
 (qe cxX 119 ss119 400 _ _).trans (by kernel_rfl)
theorem B119_4_eq (v29 v30 : Value) (b2 b3 : List AV) (hp : Hp) : B119_4 v29 v30 b2 b3 hp = ((binV Tryz.prog .lss 3 (.tmp 30) (.tmp 29) v30 v29).bind fun y18 => ((asB y18).bind fun y19 => (cond y19 ((getC b2 2).bind fun y20 => ((idxA 1 (ro1 y20) v30).bind fun y21 => ((qc y21 0).bind fun y22 => ((getC b3 2).bind fun y23 => ((idxA 1 (ro1 y23) v30).bind fun y24 => ((qc y24 0).bind fun y25 => ((binV Tryz.prog .neq 30 (.tmp 37) (.tmp 42) y22 y25).bind fun y26 => ((asB y26).bind fun y27 => (cond y27 (some (Prod.mk (AV.sc (.bool false)) hp)) ((binV Tryz.prog .add 3 (.tmp 30) (.const (.int .i64 (.ofNat 1))) v30 (.int .i64 (.ofNat 1))).bind fun y28 => (B119_4 v29 y28 b2 b3 hp))))))))))) (some (Prod.mk (AV.sc (.bool true)) hp))))) :=
 (qe cxX 119 ss119 400 _ _).trans (by kernel_rfl)
noncomputable def B126_6 (x5 : AV) (v6 v7 v19 v20 : Value) (b2 : List AV) (hp : Hp) : Option (AV × Hp) := go cxX 126 [.code (sub [1, 1, 1, 1, 0, 1, 0, 0, 0] cd126), .code (sub [1, 1, 1, 1, 0, 1, 0, 0, 1] cd126), .inLoop (sub [1, 1, 1, 1, 0, 1, 0, 0] cd126), .inBlock 0, .code (sub [1, 1, 1, 1, 1] cd126)] ⟨[(2, .lp 2 0 0), (5, .av x5), (6, .sv v6), (7, .sv v7), (19, .sv v19), (20, .sv v20)], [(2, 0, b2)], hp⟩
theorem E126 (a0 a1 : AV) (hp : Hp) : run cxX 126 [a0, a1] hp = ((asSc a1).bind fun y0 => ((qh 3 a0).bind fun y1 => ((getN (List.map ro1 y1) 0 3).bind fun y2 => ((qi [AV.agg (List.map ro1 y2)] []).bind fun y3 => ((run cxX 65 [ro (AV.agg (List.map ro1 y2))] hp0).bind fun y4 => ((qm (y4).1).bind fun y5 => ((asSc (y4).1).bind fun y6 => ((binV Tryz.prog .neq 57 (.tmp 9) (.const (.int .i64 (.ofNat 0))) y6 (.int .i64 (.ofNat 0))).bind fun y7 => ((asB y7).bind fun y8 => (cond y8 (some (Prod.mk (AV.sc (.slice none 0 0)) hp)) ((cvV Tryz.prog 76 30 y0).bind fun y9 => ((binV Tryz.prog .shr 76 (.tmp 14) (.const (.int .u64 (.ofNat 32))) y0 (.int .u64 (.ofNat 32))).bind fun y10 => ((cvV Tryz.prog 76 30 y10).bind fun y11 => ((binV Tryz.prog .or 30 (.tmp 16) (.const (.int .u32 (.ofNat 1))) y11 (.int .u32 (.ofNat 1))).bind fun y12 => ((qc (List.map ro1 y1) 1).bind fun y13 => (B126_6 (AV.sc (.slice none 0 0)) y9 y12 y13 (.int .i64 (.ofNat 0)) (List.map ro1 y1) hp)))))))))))))))) :=
 (qf cxX 126 ss126 400 _ _).trans (by kernel_rfl)
theorem B126_6_eq (x5 : AV) (v6 v7 v19 v20 : Value) (b2 : List AV) (hp : Hp) : B126_6 x5 v6 v7 v19 v20 b2 hp = ((binV Tryz.prog .lss 3 (.tmp 20) (.tmp 19) v20 v19).bind fun y14 => ((asB y14).bind fun y15 => (cond y15 ((qc b2 0).bind fun y16 => ((cvV Tryz.prog 3 30 y16).bind fun y17 => ((binV Tryz.prog .rem 30 (.tmp 23) (.tmp 26) v6 y17).bind fun y18 => ((okV [AV.sc y18]).bind fun y19 => ((appA 4 1 x5 (AV.us 1 [AV.sc y18])).bind fun y20 => ((binV Tryz.prog .add 30 (.tmp 30) (.tmp 31) v6 v7).bind fun y21 => ((binV Tryz.prog .add 3 (.tmp 20) (.const (.int .i64 (.ofNat 1))) v20 (.int .i64 (.ofNat 1))).bind fun y22 => (B126_6 y20 y21 v7 v19 y22 b2 hp)))))))) (some (Prod.mk x5 hp))))) :=
 (qe cxX 126 ss126 400 _ _).trans (by kernel_rfl)
noncomputable def B127_3 (x6 x7 : AV) (b4 b5 : List AV) (hp : Hp) : Option (AV × Hp) := go cxX 127 [.code (sub [1, 1, 1, 0, 0, 0, 0, 0] jo), .code (sub [1, 1, 1, 0, 0, 0, 0, 1] jo), .code (sub [1, 1, 1, 0, 0, 0, 1] jo), .inLoop (sub [1, 1, 1, 0, 0, 0] jo), .inBlock 0, .code (sub [1, 1, 1, 1] jo)] ⟨[(4, .lp 4 0 0), (5, .lp 5 0 0), (6, .av x6), (7, .av x7)], [(4, 0, b4), (5, 0, b5)], hp⟩
noncomputable def B127_6 (x6 x7 : AV) (b4 b5 : List AV) (hp : Hp) : Option (AV × Hp) := go cxX 127 [.code (sub [1, 1, 1, 0, 0, 0, 1, 0, 0, 1, 0] jo), .inBlock 2, .inBlock 1, .inLoop (sub [1, 1, 1, 0, 0, 0] jo), .inBlock 0, .code (sub [1, 1, 1, 1] jo)] ⟨[(4, .lp 4 0 0), (5, .lp 5 0 0), (6, .av x6), (7, .av x7)], [(4, 0, b4), (5, 0, b5)], hp⟩
noncomputable def B127_7 (x6 x7 : AV) (b4 b5 : List AV) (hp : Hp) : Option (AV × Hp) := go cxX 127 [.code (sub [1, 1, 1, 0, 0, 0, 1, 0, 0, 1, 1, 0] jo), .code (sub [1, 1, 1, 0, 0, 0, 1, 0, 0, 1, 1, 1] jo), .inBlock 2, .inBlock 1, .inLoop (sub [1, 1, 1, 0, 0, 0] jo), .inBlock 0, .code (sub [1, 1, 1, 1] jo)] ⟨[(4, .lp 4 0 0), (5, .lp 5 0 0), (6, .av x6), (7, .av x7)], [(4, 0, b4), (5, 0, b5)], hp⟩
noncomputable def B127_8 (x6 x7 : AV) (b4 b5 : List AV) (hp : Hp) : Option (AV × Hp) := go cxX 127 [.code (sub [1, 1, 1, 0, 0, 0, 1, 0, 0, 1, 1, 1, 0] jo), .inBlock 2, .inBlock 1, .inLoop (sub [1, 1, 1, 0, 0, 0] jo), .inBlock 0, .code (sub [1, 1, 1, 1] jo)] ⟨[(4, .lp 4 0 0), (5, .lp 5 0 0), (6, .av x6), (7, .av x7)], [(4, 0, b4), (5, 0, b5)], hp⟩
noncomputable def B127_4 (x6 x7 : AV) (b4 b5 : List AV) (hp : Hp) : Option (AV × Hp) := go cxX 127 [.code (sub [1, 1, 1, 0, 0, 0, 1, 0, 0, 1, 1, 1, 1] jo), .inBlock 2, .inBlock 1, .inLoop (sub [1, 1, 1, 0, 0, 0] jo), .inBlock 0, .code (sub [1, 1, 1, 1] jo)] ⟨[(4, .lp 4 0 0), (5, .lp 5 0 0), (6, .av x6), (7, .av x7)], [(4, 0, b4), (5, 0, b5)], hp⟩
theorem E127 (a0 a1 : AV) (hp : Hp) : run cxX 127 [a0, a1] hp = ((qh 3 a0).bind fun y0 => ((qh 3 a1).bind fun y1 => ((qc (List.map ro1 y0) 0).bind fun y2 => ((qc (List.map ro1 y0) 1).bind fun y3 => ((getC (List.map ro1 y0) 2).bind fun y4 => ((getC (List.map ro1 y1) 2).bind fun y5 => (B127_3 (ro1 y4) (ro1 y5) [AV.sc (.int .i64 (.ofNat 0)), AV.sc (.int .i64 (.ofNat 0)), AV.sc (.slice none 0 0)] [AV.sc y2, AV.sc y3, AV.sc (.slice none 0 0)] hp))))))) :=
 (qf cxX 127 ss127 400 _ _).trans (by kernel_rfl)
theorem B127_3_eq (x6 x7 : AV) (b4 b5 : List AV) (hp : Hp) : B127_3 x6 x7 b4 b5 hp = ((lenA (ro x6)).bind fun y6 => ((lenA (ro x7)).bind fun y7 => ((binV Tryz.prog .add 3 (.tmp 18) (.tmp 20) (.int .i64 (.ofNat y6)) (.int .i64 (.ofNat y7))).bind fun y8 => ((binV Tryz.prog .gtr 3 (.tmp 21) (.const (.int .i64 (.ofNat 0))) y8 (.int .i64 (.ofNat 0))).bind fun y9 => ((asB y9).bind fun y10 => (cond y10 ((lenA (ro x7)).bind fun y11 => ((binV Tryz.prog .eql 3 (.tmp 37) (.const (.int .i64 (.ofNat 0))) (.int .i64 (.ofNat y11)) (.int .i64 (.ofNat 0))).bind fun y12 => ((asB y12).bind fun y13 => (cond y13 (B127_6 x6 x7 b4 b5 hp) ((lenA (ro x6)).bind fun y14 => ((binV Tryz.prog .gtr 3 (.tmp 41) (.const (.int .i64 (.ofNat 0))) (.int .i64 (.ofNat y14)) (.int .i64 (.ofNat 0))).bind fun y15 => ((asB y15).bind fun y16 => (cond y16 ((idxA 1 (ro x6) (.int .i64 (.ofNat 0))).bind fun y17 => ((qc y17 0).bind fun y18 => ((idxA 1 (ro x7) (.int .i64 (.ofNat 0))).bind fun y19 => ((qc y19 0).bind fun y20 => ((binV Tryz.prog .lss 30 (.tmp 46) (.tmp 49) y18 y20).bind fun y21 => ((asB y21).bind fun y22 => (cond y22 (B127_6 x6 x7 b4 b5 hp) (B127_7 x6 x7 b4 b5 hp)))))))) (B127_7 x6 x7 b4 b5 hp))))))))) ((getN b5 0 3).bind fun y23 => ((putN b5 0 (List.map ro1 y23)).bind fun y24 => ((qh 3 (AV.agg y23)).bind fun y25 => ((putN b4 0 y25).bind fun y26 => ((getN y26 0 3).bind fun y27 => (some (Prod.mk (AV.agg y27) hp))))))))))))) :=
 (qe cxX 127 ss127 400 _ _).trans (by kernel_rfl)
theorem B127_6_eq (x6 x7 : AV) (b4 b5 : List AV) (hp : Hp) : B127_6 x6 x7 b4 b5 hp = ((getC b5 2).bind fun y28 => ((idxA 1 (ro x6) (.int .i64 (.ofNat 0))).bind fun y29 => ((qc y29 0).bind fun y30 => ((okV [AV.sc y30]).bind fun y31 => ((appA 4 1 y28 (AV.us 1 [AV.sc y30])).bind fun y32 => ((slcA 1 (ro x6) (some (.int .i64 (.ofNat 1))) none none).bind fun y33 => ((qh 1 y32).bind fun y34 => ((putN (List.set b5 2 (ro1 y28)) 2 y34).bind fun y35 => (B127_3 y33 x7 b4 y35 hp))))))))) :=
 (qe cxX 127 ss127 400 _ _).trans (by kernel_rfl)
theorem B127_7_eq (x6 x7 : AV) (b4 b5 : List AV) (hp : Hp) : B127_7 x6 x7 b4 b5 hp = ((lenA (ro x6)).bind fun y36 => ((binV Tryz.prog .eql 3 (.tmp 65) (.const (.int .i64 (.ofNat 0))) (.int .i64 (.ofNat y36)) (.int .i64 (.ofNat 0))).bind fun y37 => ((asB y37).bind fun y38 => (cond y38 (B127_8 x6 x7 b4 b5 hp) ((idxA 1 (ro x7) (.int .i64 (.ofNat 0))).bind fun y39 => ((qc y39 0).bind fun y40 => ((idxA 1 (ro x6) (.int .i64 (.ofNat 0))).bind fun y41 => ((qc y41 0).bind fun y42 => ((binV Tryz.prog .lss 30 (.tmp 70) (.tmp 73) y40 y42).bind fun y43 => ((asB y43).bind fun y44 => (cond y44 (B127_8 x6 x7 b4 b5 hp) (B127_4 x6 x7 b4 b5 hp)))))))))))) :=
 (qe cxX 127 ss127 400 _ _).trans (by kernel_rfl)
theorem B127_8_eq (x6 x7 : AV) (b4 b5 : List AV) (hp : Hp) : B127_8 x6 x7 b4 b5 hp = ((getC b5 2).bind fun y45 => ((idxA 1 (ro x7) (.int .i64 (.ofNat 0))).bind fun y46 => ((qc y46 0).bind fun y47 => ((okV [AV.sc y47]).bind fun y48 => ((appA 4 1 y45 (AV.us 1 [AV.sc y47])).bind fun y49 => ((slcA 1 (ro x7) (some (.int .i64 (.ofNat 1))) none none).bind fun y50 => ((qh 1 y49).bind fun y51 => ((putN (List.set b5 2 (ro1 y45)) 2 y51).bind fun y52 => (B127_3 x6 y50 b4 y52 hp))))))))) :=
 (qe cxX 127 ss127 400 _ _).trans (by kernel_rfl)
theorem B127_4_eq (x6 x7 : AV) (b4 b5 : List AV) (hp : Hp) : B127_4 x6 x7 b4 b5 hp = ((getC b5 2).bind fun y53 => ((idxA 1 (ro x6) (.int .i64 (.ofNat 0))).bind fun y54 => ((qc y54 0).bind fun y55 => ((okV [AV.sc y55]).bind fun y56 => ((appA 4 1 y53 (AV.us 1 [AV.sc y55])).bind fun y57 => ((slcA 1 (ro x6) (some (.int .i64 (.ofNat 1))) none none).bind fun y58 => ((slcA 1 (ro x7) (some (.int .i64 (.ofNat 1))) none none).bind fun y59 => ((qh 1 y57).bind fun y60 => ((putN (List.set b5 2 (ro1 y53)) 2 y60).bind fun y61 => (B127_3 y58 y59 b4 y61 hp)))))))))) :=
 (qe cxX 127 ss127 400 _ _).trans (by kernel_rfl)
noncomputable def B29_3 (x19 : AV) (v20 v21 : Value) (b6 b7 : List AV) (hp : Hp) : Option (AV × Hp) := go cxX 29 [.code (sub [1, 1, 0, 1, 0, 0, 0] cd29), .code (sub [1, 1, 0, 1, 0, 0, 1] cd29), .inLoop (sub [1, 1, 0, 1, 0, 0] cd29), .inBlock 0, .code (sub [1, 1, 1] cd29)] ⟨[(6, .lp 6 0 0), (7, .lp 7 0 0), (19, .av x19), (20, .sv v20), (21, .sv v21)], [(6, 0, b6), (7, 0, b7)], hp⟩
theorem E29 (a0 a1 a2 : AV) (hp : Hp) : run cxX 29 [a0, a1, a2] hp = ((asSc a0).bind fun y0 => ((asSc a1).bind fun y1 => ((binV Tryz.prog .rem 34 (.tmp 10) (.const (.int .u16 (.ofNat 300))) y0 (.int .u16 (.ofNat 300))).bind fun y2 => ((cvV Tryz.prog 34 3 y2).bind fun y3 => ((binV Tryz.prog .add 3 (.const (.int .i64 (.ofNat 1))) (.tmp 12) (.int .i64 (.ofNat 1)) y3).bind fun y4 => ((binV Tryz.prog .rem 5 (.tmp 14) (.const (.int .u8 (.ofNat 8))) y1 (.int .u8 (.ofNat 8))).bind fun y5 => ((cvV Tryz.prog 5 3 y5).bind fun y6 => ((binV Tryz.prog .add 3 (.const (.int .i64 (.ofNat 1))) (.tmp 16) (.int .i64 (.ofNat 1)) y6).bind fun y7 => ((lenA (ro a2)).bind fun y8 => (B29_3 (ro a2) (.int .i64 (.ofNat y8)) (.int .i64 (.ofNat 0)) [AV.sc (.int .i64 (.ofNat 0)), AV.sc (.int .i64 (.ofNat 0)), AV.sc (.slice none 0 0)] [AV.sc y4, AV.sc y7, AV.sc (.slice none 0 0)] hp)))))))))) :=
 (qf cxX 29 ss29 400 _ _).trans (by kernel_rfl)
theorem B29_3_eq (x19 : AV) (v20 v21 : Value) (b6 b7 : List AV) (hp : Hp) : B29_3 x19 v20 v21 b6 b7 hp = ((binV Tryz.prog .lss 3 (.tmp 21) (.tmp 20) v21 v20).bind fun y9 => ((asB y9).bind fun y10 => (cond y10 ((idxA 1 x19 v21).bind fun y11 => ((qc y11 0).bind fun y12 => ((getN b7 0 3).bind fun y13 => ((qi [AV.agg (List.map ro1 y13), AV.sc y12] []).bind fun y14 => ((run cxX 71 [ro (AV.agg (List.map ro1 y13)), AV.sc y12] hp0).bind fun y15 => ((qm (y15).1).bind fun y16 => ((qM (y15).1).bind fun y17 => ((qh 3 (y15).1).bind fun y18 => ((putN b7 0 y18).bind fun y19 => ((binV Tryz.prog .add 3 (.tmp 21) (.const (.int .i64 (.ofNat 1))) v21 (.int .i64 (.ofNat 1))).bind fun y20 => (B29_3 x19 v20 y20 b6 y19 hp))))))))))) ((getN b7 0 3).bind fun y21 => ((putN b7 0 (List.map ro1 y21)).bind fun y22 => ((qh 3 (AV.agg y21)).bind fun y23 => ((putN b6 0 y23).bind fun y24 => ((getN y24 0 3).bind fun y25 => (some (Prod.mk (AV.agg y25) hp)))))))))) :=
 (qe cxX 29 ss29 400 _ _).trans (by kernel_rfl)
abbrev Bv (bits hashes : Value) (S : AV) : AV := .agg [.sc bits, .sc hashes, S]
theorem merge_loop (B H : Value) (q0 q1 q2 : AV) (hp : Hp) : ∀ (n : Nat) (a b acc : List Int) (k k' : Nat), a.length + b.length = n → acc.length + n ≤ 1000000 →
  B127_3 (S k 1 (LI .u32 a)) (S k' 1 (LI .u32 b)) [q0, q1, q2] [.sc B, .sc H, S 2 1 (LI .u32 acc)] hp = some (Bv B H (S 2 1 (LI .u32 (acc ++ mrg a b))), hp) := by
 intro n
 induction n using Nat.strongRecOn with
 | _ n ih =>
 intro a b acc k k' hn hlen
 have hw : IntKind.i64.wrap ((a.length : Int) + (b.length : Int)) = ((a.length + b.length : Nat) : Int) := by
  rw [qg] <;> omega
 have ap : ∀ x : Int, appA 4 1 (S 2 1 (LI .u32 acc)) (S 1 1 [.sc (.int .u32 x)]) = some (S 2 1 (LI .u32 (acc ++ [x]))) := fun x => appI .u32 acc 2 (.inr rfl) 4 (by decide) x (by omega)
 have goA : ∀ (x : Int) (r : List Int), r.length + 1 + b.length ≤ n → B127_6 (S k 1 (LI .u32 (x :: r))) (S k' 1 (LI .u32 b)) [q0, q1, q2] [.sc B, .sc H, S 2 1 (LI .u32 acc)] hp = some (Bv B H (S 2 1 (LI .u32 (acc ++ x :: mrg r b))), hp) := by
  intro x r hle
  rw [B127_6_eq]
  have e := yM (rk k) (LI .u32 (x :: r)) .i64 1 (by omega) (by simp only [lenI, List.length_cons]; omega)
  simp [getC, qc, ap, e, putN, ih (r.length + b.length) (by omega) r b (acc ++ [x]) _ k' rfl (by simp only [List.length_append, List.length_cons, List.length_nil]; omega)]
 have goB : ∀ (y : Int) (r : List Int), a.length + (r.length + 1) ≤ n → B127_8 (S k 1 (LI .u32 a)) (S k' 1 (LI .u32 (y :: r))) [q0, q1, q2] [.sc B, .sc H, S 2 1 (LI .u32 acc)] hp = some (Bv B H (S 2 1 (LI .u32 (acc ++ y :: mrg a r))), hp) := by
  intro x r hle
  rw [B127_8_eq]
  have e := yM (rk k') (LI .u32 (x :: r)) .i64 1 (by omega) (by simp only [lenI, List.length_cons]; omega)
  simp [getC, qc, ap, e, putN, ih (a.length + r.length) (by omega) a r (acc ++ [x]) k _ rfl (by simp only [List.length_append, List.length_cons, List.length_nil]; omega)]
 have goC : ∀ (x y : Int) (r s : List Int), r.length + s.length + 2 ≤ n → B127_4 (S k 1 (LI .u32 (x :: r))) (S k' 1 (LI .u32 (y :: s))) [q0, q1, q2] [.sc B, .sc H, S 2 1 (LI .u32 acc)] hp = some (Bv B H (S 2 1 (LI .u32 (acc ++ x :: mrg r s))), hp) := by
  intro x y r s hle
  rw [B127_4_eq]
  have e := yM (rk k) (LI .u32 (x :: r)) .i64 1 (by omega) (by simp only [lenI, List.length_cons]; omega)
  have e' := yM (rk k') (LI .u32 (y :: s)) .i64 1 (by omega) (by simp only [lenI, List.length_cons]; omega)
  simp [getC, qc, ap, e, e', putN, ih (r.length + s.length) (by omega) r s (acc ++ [x]) _ _ rfl (by simp only [List.length_append, List.length_cons, List.length_nil]; omega)]
 rw [B127_3_eq]
 match a, b with
 | [], [] => simp [getN, putN, Bv]
 | [], y :: s =>
  have h := goB y s (by simp at hn ⊢; omega)
  simp at h
  have hw' : IntKind.i64.wrap ((s.length : Int) + 1) = (s.length : Int) + 1 := qg (by omega) (by simp at hn; omega)
  have p : (0 : Int) < (s.length : Int) + 1 := by omega
  have z : ¬((s.length : Int) + 1 = 0) := by omega
  simp [hw', p, z, B127_7_eq, h]
 | x :: r, [] =>
  have h := goA x r (by simp at hn ⊢; omega)
  simp at h
  have hw' : IntKind.i64.wrap ((r.length : Int) + 1) = (r.length : Int) + 1 := qg (by omega) (by simp at hn; omega)
  have p : (0 : Int) < (r.length : Int) + 1 := by omega
  simp [hw', p, h]
 | x :: r, y :: s =>
  have h1 := goA x r (by simp at hn ⊢; omega)
  have h2 := goB y s (by simp at hn ⊢; omega)
  have h3 := goC x y r s (by simp at hn ⊢; omega)
  have hw' : IntKind.i64.wrap ((r.length : Int) + 1 + ((s.length : Int) + 1)) = (r.length : Int) + 1 + ((s.length : Int) + 1) := qg (by omega) (by simp at hn; omega)
  have p : (0 : Int) < (r.length : Int) + 1 + ((s.length : Int) + 1) := by omega
  have p' : (0 : Int) < (r.length : Int) + 1 := by omega
  have z : ¬((s.length : Int) + 1 = 0) := by omega
  have z' : ¬((r.length : Int) + 1 = 0) := by omega
  rw [qV]
  by_cases hxy : x < y
  ·simp [hw', p, p', z, z', qc, hxy, h1]
  ·by_cases hyx : y < x
   ·simp [hw', p, p', z, z', qc, hxy, hyx, h2, B127_7_eq]
   ·simp [hw', p, p', z, z', qc, hxy, hyx, h3, B127_7_eq]
theorem run_merge (B H B' H' : Value) (a b : List Int) (k k' : Nat) (hp : Hp) (hlen : a.length + b.length ≤ 1000000) :
  run cxX 127 [Bv B H (S k 1 (LI .u32 a)), Bv B' H' (S k' 1 (LI .u32 b))] hp = some (Bv B H (S 2 1 (LI .u32 (mrg a b))), hp) := by
 rw [E127]
 have := merge_loop B H (.sc (.int .i64 0)) (.sc (.int .i64 0)) (S 2 1 []) hp (a.length + b.length) a b [] (rk k) (rk k') rfl (by simpa using hlen)
 simp at this
 simp [Bv, qc, getC]
 exact this
theorem same_loop (B H B' H' : AV) (a b : List Int) (k k' : Nat) (hab : a.length = b.length) (hl : a.length ≤ 1000000) (hp : Hp) : ∀ (r s : List Int) (i : Nat), a.drop i = r → b.drop i = s →
  B119_4 (.int .i64 a.length) (.int .i64 i) [B, H, S k 1 (LI .u32 a)] [B', H', S k' 1 (LI .u32 b)] hp = some (.sc (.bool (decide (r = s))), hp) := by
 intro r
 induction r with
 | nil =>
  intro s i hr hs
  have h1 := qw hr
  have h2 : s = [] := by rw [← hs]; exact List.drop_eq_nil_of_le (by omega)
  have hlt : ¬((i : Int) < (a.length : Int)) := by omega
  rw [B119_4_eq]
  simp [hlt, h2]
 | cons x r ih =>
  intro s i hr hs
  obtain ⟨e1, e2, hi, e3⟩ := qr hr
  rw [B119_4_eq]
  have hw : IntKind.i64.wrap ((i : Int) + 1) = ((i + 1 : Nat) : Int) := by rw [qg] <;> omega
  cases s with
  | nil => have := qw hs; omega
  | cons y s =>
   obtain ⟨f1, f2, hj, f3⟩ := qr hs
   have h := ih s (i + 1) e2 f2
   simp at h hw
   by_cases e : x = y
   ·simp [hi, hj, getC, qc, e3, f3, e, hw, h]
   ·simp [hi, hj, getC, qc, e3, f3, e]
theorem run_same (B H : Int) (B' H' : Int) (a b : List Int) (k k' : Nat) (hp : Hp) (ha : a.length ≤ 1000000) (hb : b.length ≤ 1000000) :
  run cxX 119 [Bv (.int .i64 B) (.int .i64 H) (S k 1 (LI .u32 a)), Bv (.int .i64 B') (.int .i64 H') (S k' 1 (LI .u32 b))] hp = some (.sc (.bool (decide (B = B' ∧ H = H' ∧ a = b))), hp) := by
 rw [E119]
 by_cases h1 : B = B'
 ·by_cases h2 : H = H'
  ·by_cases h3 : a.length = b.length
   ·have h := same_loop (.sc (.int .i64 B)) (.sc (.int .i64 H)) (.sc (.int .i64 B')) (.sc (.int .i64 H')) a b (rk k) (rk k') h3 ha hp a b 0 rfl rfl
    simp at h
    subst h1 h2
    rw [h3] at h
    simp [qc, getC, h3, B119_3_eq, h]
   ·have h4 : ¬(a = b) := fun e => h3 (by rw [e])
    have h5 : ¬((a.length : Int) = (b.length : Int)) := by omega
    simp [qc, getC, h1, h2, h4, h5, B119_2_eq]
  ·simp [qc, getC, h1, h2, B119_2_eq]
 ·simp [qc, getC, h1, B119_2_eq]
def chkL (B : Int) : Option Int → List Int → Int
 | _, [] => 0
 | p, n :: r => if n ≥ B then 2 else match p with
  | none => chkL B (some n) r
  | some q => if n ≤ q then 8 else chkL B (some n) r
def bchk (B H : Int) (l : List Int) : Int := if B < 1 ∨ B > 4096 ∨ H < 1 ∨ H > 8 then 2 else chkL B none l
def In32 (l : List Int) : Prop := ∀ n ∈ l, 0 ≤ n ∧ n < 4294967296
theorem check_loop (B : Int) (H : AV) (l : List Int) (k k' : Nat) (hl : l.length ≤ 1000000) (h32 : In32 l) (hp : Hp) : ∀ (r : List Int) (i : Nat) (p : Option Int), l.drop i = r →
  (match p with | none => i = 0 | some q => ∃ j, i = j + 1 ∧ l[j]? = some q) →
  B65_4 (S k 1 (LI .u32 l)) (.int .i64 l.length) (.int .i64 i) [.sc (.int .i64 B), H, S k' 1 (LI .u32 l)] hp = some (.sc (.int .i64 (chkL B p r)), hp) := by
 intro r
 induction r with
 | nil =>
  intro i p hr hp'
  have := qw hr
  have hlt : ¬((i : Int) < (l.length : Int)) := by omega
  rw [B65_4_eq]
  simp [hlt, chkL]
 | cons n r ih =>
  intro i p hr hp'
  obtain ⟨e1, e2, hi, e3⟩ := qr hr
  have h := ih (i + 1) (some n) e2 ⟨i, rfl, e1⟩
  have hw : IntKind.i64.wrap ((i : Int) + 1) = ((i + 1 : Nat) : Int) := by rw [qg] <;> omega
  have hn := h32 n (List.mem_of_getElem? e1)
  have hwn : IntKind.i64.wrap n = n := qg (by omega) (by omega)
  rw [B65_4_eq]
  by_cases hB : B ≤ n
  ·simp [hi, e1, e3, qc, cv_30_3, hwn, hB, chkL]
  ·cases p with
   | none =>
    obtain rfl : i = 0 := hp'
    simp at h e1 hw
    simp [hi, e1, e3, qc, cv_30_3, hwn, hB, chkL, B65_10_eq, hw, h]
   | some q =>
    obtain ⟨j, rfl, ej⟩ := hp'
    have hw2 : IntKind.i64.wrap (((j + 1 : Nat) : Int) - 1) = (j : Int) := by rw [qg] <;> omega
    have hpos : (0 : Int) < (j : Int) + 1 := by omega
    have hi2 : (j : Int) + 1 < (l.length : Int) := by omega
    have hge : (0 : Int) ≤ (j : Int) + 1 := by omega
    have htn : ((j : Int) + 1).toNat = j + 1 := by omega
    simp at h hw hw2
    by_cases hq : n ≤ q
    ·simp [hi2, hge, htn, e1, e3, ej, qc, getC, cv_30_3, hwn, hB, chkL, hpos, hw2, hq, B65_9_eq]
    ·simp [hi2, hge, htn, e1, e3, ej, qc, getC, cv_30_3, hwn, hB, chkL, hpos, hw2, hq, B65_10_eq, hw, h]
theorem run_check (B H : Int) (l : List Int) (k : Nat) (hl : l.length ≤ 1000000) (h32 : In32 l) (hp : Hp) :
  run cxX 65 [Bv (.int .i64 B) (.int .i64 H) (S k 1 (LI .u32 l))] hp = some (.sc (.int .i64 (bchk B H l)), hp) := by
 rw [E65]
 have h := check_loop B (.sc (.int .i64 H)) l (rk k) (rk k) hl h32 hp l 0 none rfl rfl
 simp at h
 unfold bchk
 by_cases h1 : B < 1
 ·simp [qc, h1, B65_2_eq]
 ·by_cases h2 : 4096 < B
  ·simp [qc, h1, h2, B65_2_eq]
  ·by_cases h3 : H < 1
   ·simp [qc, h1, h2, h3, B65_2_eq]
   ·by_cases h4 : 8 < H
    ·simp [qc, h1, h2, h3, h4, B65_2_eq]
    ·simp [qc, getC, h1, h2, h3, h4, B65_3_eq, h]
def at0 (h : Int) : Int := IntKind.u32.wrap h
def stp (h : Int) : Int := IntKind.u32.wrap (BitVec.ofInt 32 (IntKind.u32.wrap (h.fdiv (2 ^ 32))) ||| BitVec.ofInt 32 1).toNat
def plc (B st : Int) : Nat → Int → List Int
 | 0, _ => []
 | n + 1, a => a % B :: plc B st n (IntKind.u32.wrap (a + st))
theorem plc_len (B st : Int) : ∀ (n : Nat) (a : Int), (plc B st n a).length = n
 | 0, _ => rfl
 | n + 1, a => by simp [plc, plc_len B st n]
theorem plc_in (B st : Int) (hB : 0 < B) : ∀ (n : Nat) (a x : Int), x ∈ plc B st n a → 0 ≤ x ∧ x < B
 | 0, _, x, h => by simp [plc] at h
 | n + 1, a, x, h => by
  rcases List.mem_cons.mp h with rfl | h
  ·exact ⟨Int.emod_nonneg _ (by omega), Int.emod_lt_of_pos _ hB⟩
  ·exact plc_in B st hB n _ x h
theorem wrap32_in (z : Int) : 0 ≤ IntKind.u32.wrap z ∧ IntKind.u32.wrap z < 4294967296 := by
 rw [IntKind.wrap_u32]; omega
theorem places_loop (B H st : Int) (H' : AV) (q : AV) (hB : 1 ≤ B ∧ B ≤ 4096) (hH : H ≤ 8) (hp : Hp) : ∀ (n i : Nat) (a : Int) (acc : List Int), H = (i + n : Nat) → 0 ≤ a → acc.length ≤ i →
  B126_6 (S 2 1 (LI .u32 acc)) (.int .u32 a) (.int .u32 st) (.int .i64 H) (.int .i64 i) [.sc (.int .i64 B), H', q] hp = some (S 2 1 (LI .u32 (acc ++ plc B st n a)), hp) := by
 intro n
 induction n with
 | zero =>
  intro i a acc hi ha hc
  rw [B126_6_eq]
  have hlt : ¬((i : Int) < H) := by omega
  simp [hlt, plc]
 | succ n ih =>
  intro i a acc hi ha hc
  rw [B126_6_eq]
  have hlt : (i : Int) < H := by omega
  have hw : IntKind.i64.wrap ((i : Int) + 1) = ((i + 1 : Nat) : Int) := by rw [qg] <;> omega
  have hwB : IntKind.u32.wrap B = B := zi (by omega) (by omega)
  have h := ih (i + 1) (IntKind.u32.wrap (a + st)) (acc ++ [a % B]) (by omega) (wrap32_in _).1 (by simp; omega)
  have ap := appI .u32 acc 2 (.inr rfl) 4 (by decide) (a % B) (by omega)
  have hr : ∀ x y, binV Tryz.prog .rem 30 x y (.int .u32 a) (.int .u32 B) = some (.int .u32 (a % B)) := by
   intro x y
   rw [qI _ _ _ _ _ _ _ (by omega), qG ha]
  simp at h hw
  simp [hlt, qc, cv_3_30, hwB, hr, ap, hw, h, plc]
def pls (B H : Int) (l : List Int) (h : Int) : List Int := if bchk B H l = 0 then plc B (stp h) H.toNat (at0 h) else []
theorem run_places (B H : Int) (l : List Int) (k : Nat) (h : Int) (hl : l.length ≤ 1000000) (h32 : In32 l) (hp : Hp) :
  run cxX 126 [Bv (.int .i64 B) (.int .i64 H) (S k 1 (LI .u32 l)), .sc (.int .u64 h)] hp = some (S 2 1 (LI .u32 (pls B H l h)), hp) := by
 rw [E126]
 have hc := run_check B H l (rk k) hl h32 hp0
 unfold pls
 by_cases h0 : bchk B H l = 0
 ·have hr : ¬(B < 1 ∨ B > 4096 ∨ H < 1 ∨ H > 8) := by
   intro h'
   rw [bchk, if_pos h'] at h0
   cases h0
  have hh := places_loop B H (stp h) (.sc (.int .i64 H)) (S (rk k) 1 (LI .u32 l)) (by omega) (by omega) hp H.toNat 0 (at0 h) [] (by omega) (wrap32_in _).1 (by simp)
  simp at hh
  have hs : ∀ x y, binV Tryz.prog .shr 76 x y (.int .u64 h) (.int .u64 32) = some (.int .u64 (h.fdiv (2 ^ 32))) := by
   intro x y
   rw [zK _ _ _ _ _ _ _ _ (by omega)]
   rfl
  simp [getN, hc, h0, cv_76_30, hs, qc]
  exact hh
 ·simp [getN, hc, h0]
def Good (B : Int) (l : List Int) : Prop := Rise l ∧ ∀ n ∈ l, 0 ≤ n ∧ n < B
theorem Good.in32 {B : Int} {l : List Int} (h : Good B l) (hB : B ≤ 4096) : In32 l := fun n hn => by have := h.2 n hn; omega
theorem Good.nil (B : Int) : Good B [] := ⟨List.Pairwise.nil, by simp⟩
theorem Good.mrg {B : Int} {a b : List Int} (ha : Good B a) (hb : Good B b) : Good B (mrg a b) :=
 ⟨rise_mrg a b ha.1 hb.1, fun n hn => ((xj n a b).mp hn).elim (ha.2 n) (hb.2 n)⟩
theorem Good.one {B n : Int} (h : 0 ≤ n ∧ n < B) : Good B [n] := ⟨by simp, by simpa using h⟩
theorem rise_len {B : Int} : ∀ {l : List Int} {a : Int}, Rise l → (∀ n ∈ l, a ≤ n ∧ n < B) → (l.length : Int) ≤ B - a ∨ l = []
 | [], _, _, _ => .inr rfl
 | x :: l, a, h, hb => by
  have h' := List.pairwise_cons.mp h
  have hx := hb x (by simp)
  rcases rise_len (a := x + 1) h'.2 (fun n hn => ⟨by have := h'.1 n hn; omega, (hb n (by simp [hn])).2⟩) with h2 | h2
  ·left; simp; omega
  ·left; subst h2; simp; omega
theorem Good.len {B : Int} {l : List Int} (h : Good B l) (hB : B ≤ 4096) : l.length ≤ 4096 := by
 rcases rise_len (a := 0) h.1 h.2 with h' | h'
 ·omega
 ·simp [h']
theorem chkL_good {B : Int} : ∀ (l : List Int) (p : Option Int), (∀ n ∈ l, 0 ≤ n ∧ n < B) → (match p with | none => Rise l | some q => Rise (q :: l)) → chkL B p l = 0
 | [], _, _, _ => rfl
 | n :: l, p, h, hp => by
  have hn := h n (by simp)
  have h0 : ¬(n ≥ B) := by omega
  simp only [chkL, h0, if_false]
  cases p with
  | none => exact chkL_good l (some n) (fun m hm => h m (by simp [hm])) hp
  | some q =>
   have hp : Rise (q :: n :: l) := hp
   have h1 := (List.pairwise_cons.mp hp).1 n (by simp)
   have h2 : ¬(n ≤ q) := by omega
   simp only [h2, if_false]
   exact chkL_good l (some n) (fun m hm => h m (by simp [hm])) (List.pairwise_cons.mp hp).2
theorem chk_good {B H : Int} {l : List Int} (hB : 1 ≤ B ∧ B ≤ 4096) (hH : 1 ≤ H ∧ H ≤ 8) (h : Good B l) : bchk B H l = 0 := by
 unfold bchk
 rw [if_neg (by omega)]
 exact chkL_good l none h.2 h.1
def plg (B H h : Int) : List Int := plc B (stp h) H.toNat (at0 h)
theorem pls_good {B H : Int} {l : List Int} (hB : 1 ≤ B ∧ B ≤ 4096) (hH : 1 ≤ H ∧ H ≤ 8) (h : Good B l) (x : Int) : pls B H l x = plg B H x := by
 unfold pls
 rw [if_pos (chk_good hB hH h)]; rfl
theorem plg_in {B H h : Int} (hB : 1 ≤ B) : ∀ n ∈ plg B H h, 0 ≤ n ∧ n < B := fun n hn => plc_in B _ (by omega) _ _ n hn
theorem plg_len (B H h : Int) : (plg B H h).length = H.toNat := plc_len _ _ _ _
def adds (l : List Int) : List Int → List Int
 | [] => l
 | n :: r => adds (mrg l [n]) r
theorem adds_good {B : Int} : ∀ {r l : List Int}, Good B l → (∀ n ∈ r, 0 ≤ n ∧ n < B) → Good B (adds l r)
 | [], _, h, _ => h
 | n :: r, l, h, hr => adds_good (r := r) (h.mrg (Good.one (hr n (by simp)))) fun m hm => hr m (by simp [hm])
theorem add_loop (B H : Int) (q0 q1 q2 q : AV) (k' : Nat) (ps : List Int) (hB : 1 ≤ B ∧ B ≤ 4096) (hps : ps.length ≤ 8) (hin : ∀ n ∈ ps, 0 ≤ n ∧ n < B) (hp : Hp) : ∀ (r : List Int) (i : Nat) (l : List Int) (k : Nat), ps.drop i = r → Good B l →
  B71_3 (S k' 1 (LI .u32 ps)) (.int .i64 ps.length) (.int .i64 i) [.sc (.int .i64 B), .sc (.int .i64 H), q] [q0, q1, q2] [.sc (.int .i64 B), .sc (.int .i64 H), S k 1 (LI .u32 l)] hp = some (Bv (.int .i64 B) (.int .i64 H) (S (if r = [] then k else 2) 1 (LI .u32 (adds l r))), hp) := by
 intro r
 induction r with
 | nil =>
  intro i l k hr hg
  have := qw hr
  have hlt : ¬((i : Int) < (ps.length : Int)) := by omega
  rw [B71_3_eq]
  simp [hlt, getN, putN, adds]
 | cons x r ih =>
  intro i l k hr hg
  obtain ⟨e1, e2, hi, e3⟩ := qr hr
  have hx := hin x (List.mem_of_getElem? e1)
  have h := ih (i + 1) (mrg l [x]) 2 e2 (hg.mrg (Good.one hx))
  have hw : IntKind.i64.wrap ((i : Int) + 1) = ((i + 1 : Nat) : Int) := by rw [qg] <;> omega
  have hlen := hg.len hB.2
  have hm := fun hp => run_merge (.int .i64 B) (.int .i64 H) (.int .i64 B) (.int .i64 H) l [x] (rk k) 0 hp (by simp; omega)
  rw [B71_3_eq]
  simp [LI] at h hw hm
  simp [hi, e3, qc, getC, getN, putN, adds, LI, hm, hw, h]
theorem run_add (B H : Int) (l : List Int) (k : Nat) (h : Int) (hB : 1 ≤ B ∧ B ≤ 4096) (hH : 1 ≤ H ∧ H ≤ 8) (hg : Good B l) (hp : Hp) :
  run cxX 71 [Bv (.int .i64 B) (.int .i64 H) (S k 1 (LI .u32 l)), .sc (.int .u64 h)] hp = some (Bv (.int .i64 B) (.int .i64 H) (S 2 1 (LI .u32 (adds l (plg B H h)))), hp) := by
 rw [E71]
 have hlen := hg.len hB.2
 have h1 := fun hp => run_places B H l (rk k) h (by omega) (hg.in32 hB.2) hp
 have hl := plg_len B H h
 have hne : plg B H h ≠ [] := by
  intro e
  rw [e] at hl
  simp at hl
  omega
 have h2 := add_loop B H (.sc (.int .i64 0)) (.sc (.int .i64 0)) (S 2 1 []) (S (rk k) 1 (LI .u32 l)) 2 (plg B H h) hB (by omega) (plg_in hB.1) hp _ 0 l (rk k) rfl hg
 rw [pls_good hB hH hg h] at h1
 simp [hne] at h2
 simp [getN, putN, h1, h2]
def blm (B H : Int) : List Int → List Int → List Int
 | acc, [] => acc
 | acc, h :: r => blm B H (adds acc (plg B H h)) r
theorem blm_good {B H : Int} (hB : 1 ≤ B) : ∀ {r acc : List Int}, Good B acc → Good B (blm B H acc r)
 | [], _, h => h
 | x :: r, acc, h => blm_good hB (r := r) (adds_good h (plg_in hB))
theorem bloom_loop (B H : Int) (q0 q1 q2 : AV) (k : Nat) (hs : List Int) (hB : 1 ≤ B ∧ B ≤ 4096) (hH : 1 ≤ H ∧ H ≤ 8) (hl : hs.length ≤ 1000000) (hp : Hp) : ∀ (r : List Int) (i : Nat) (l : List Int), hs.drop i = r → Good B l →
  B29_3 (S k 1 (LI .u64 hs)) (.int .i64 hs.length) (.int .i64 i) [q0, q1, q2] [.sc (.int .i64 B), .sc (.int .i64 H), S 2 1 (LI .u32 l)] hp = some (Bv (.int .i64 B) (.int .i64 H) (S 2 1 (LI .u32 (blm B H l r))), hp) := by
 intro r
 induction r with
 | nil =>
  intro i l hr hg
  have := qw hr
  have hlt : ¬((i : Int) < (hs.length : Int)) := by omega
  rw [B29_3_eq]
  simp [hlt, getN, putN, blm]
 | cons x r ih =>
  intro i l hr hg
  obtain ⟨e1, e2, hi, e3⟩ := qr hr
  have h := ih (i + 1) (adds l (plg B H x)) e2 (adds_good hg (plg_in hB.1))
  have hw : IntKind.i64.wrap ((i : Int) + 1) = ((i + 1 : Nat) : Int) := by rw [qg] <;> omega
  have ha := fun hp => run_add B H l 3 x hB hH hg hp
  rw [B29_3_eq]
  simp at h hw
  simp [hi, e3, qc, getN, putN, blm, ha, hw, h]
theorem run_bloom (b h : Int) (k : Nat) (hs : List Int) (hb : 0 ≤ b ∧ b < 65536) (hh : 0 ≤ h ∧ h < 256) (hl : hs.length ≤ 1000000) (hp : Hp) :
  run cxX 29 [.sc (.int .u16 b), .sc (.int .u8 h), S k 1 (LI .u64 hs)] hp = some (Bv (.int .i64 (1 + b % 300)) (.int .i64 (1 + h % 8)) (S 2 1 (LI .u32 (blm (1 + b % 300) (1 + h % 8) [] hs))), hp) := by
 rw [E29]
 have h1 : ∀ x y, binV Tryz.prog .rem 34 x y (.int .u16 b) (.int .u16 300) = some (.int .u16 (b % 300)) := by
  intro x y; rw [qI _ _ _ _ _ _ _ (by omega), qG hb.1]
 have h2 : ∀ x y, binV Tryz.prog .rem 5 x y (.int .u8 h) (.int .u8 8) = some (.int .u8 (h % 8)) := by
  intro x y; rw [qI _ _ _ _ _ _ _ (by omega), qG hh.1]
 have w1 : IntKind.i64.wrap (b % 300) = b % 300 := qg (by omega) (by omega)
 have w2 : IntKind.i64.wrap (h % 8) = h % 8 := qg (by omega) (by omega)
 have w3 : IntKind.i64.wrap (1 + b % 300) = 1 + b % 300 := qg (by omega) (by omega)
 have w4 : IntKind.i64.wrap (1 + h % 8) = 1 + h % 8 := qg (by omega) (by omega)
 have hq := bloom_loop (1 + b % 300) (1 + h % 8) (.sc (.int .i64 0)) (.sc (.int .i64 0)) (S 2 1 []) (rk k) hs (by omega) (by omega) hl hp hs 0 [] rfl (Good.nil _)
 simp at hq
 simp [h1, h2, cv_34_3, cv_5_3, w1, w2, w3, w4, hq]
noncomputable def B30_3 (x23 : AV) (v24 v25 : Value) (b6 b7 : List AV) (hp : Hp) : Option (AV × Hp) := go cxX 30 [.code (sub [1, 1, 0, 1, 0, 0, 0] cd30), .code (sub [1, 1, 0, 1, 0, 0, 1] cd30), .inLoop (sub [1, 1, 0, 1, 0, 0] cd30), .inBlock 0, .code (sub [1, 1, 1] cd30)] ⟨[(6, .lp 6 0 0), (7, .lp 7 0 0), (23, .av x23), (24, .sv v24), (25, .sv v25)], [(6, 0, b6), (7, 0, b7)], hp⟩
theorem E30 (a0 a1 a2 : AV) (hp : Hp) : run cxX 30 [a0, a1, a2] hp = ((asSc a0).bind fun y0 => ((asSc a1).bind fun y1 => ((binV Tryz.prog .rem 5 (.tmp 12) (.const (.int .u8 (.ofNat 8))) y0 (.int .u8 (.ofNat 8))).bind fun y2 => ((cvV Tryz.prog 5 3 y2).bind fun y3 => ((binV Tryz.prog .add 3 (.const (.int .i64 (.ofNat 1))) (.tmp 14) (.int .i64 (.ofNat 1)) y3).bind fun y4 => ((binV Tryz.prog .rem 5 (.tmp 16) (.const (.int .u8 (.ofNat 40))) y1 (.int .u8 (.ofNat 40))).bind fun y5 => ((cvV Tryz.prog 5 3 y5).bind fun y6 => ((binV Tryz.prog .add 3 (.const (.int .i64 (.ofNat 1))) (.tmp 18) (.int .i64 (.ofNat 1)) y6).bind fun y7 => ((run cxX 76 [AV.sc y4, AV.sc y7] hp).bind fun y8 => ((qo 2 (y8).1).bind fun y9 => ((asSc (ro (nthA (y8).1 1))).bind fun y10 => ((qh 3 (ro (nthA (y8).1 0))).bind fun y11 => ((putN [AV.sc (.int .i64 (.ofNat 0)), AV.sc (.int .i64 (.ofNat 0)), AV.sc (.slice none 0 0)] 0 y11).bind fun y12 => ((lenA (ro a2)).bind fun y13 => (B30_3 (ro a2) (.int .i64 (.ofNat y13)) (.int .i64 (.ofNat 0)) [AV.sc (.int .i64 (.ofNat 0)), AV.sc (.int .i64 (.ofNat 0)), AV.sc (.slice none 0 0)] y12 (y8).2))))))))))))))) :=
 (qf cxX 30 ss30 400 _ _).trans (by kernel_rfl)
theorem B30_3_eq (x23 : AV) (v24 v25 : Value) (b6 b7 : List AV) (hp : Hp) : B30_3 x23 v24 v25 b6 b7 hp = ((binV Tryz.prog .lss 3 (.tmp 25) (.tmp 24) v25 v24).bind fun y14 => ((asB y14).bind fun y15 => (cond y15 ((idxA 2 x23 v25).bind fun y16 => ((getN y16 0 2).bind fun y17 => ((qh 2 (AV.agg (List.map ro1 y17))).bind fun y18 => ((putN [AV.sc (.int .u64 (.ofNat 0)), AV.sc (.int .u32 (.ofNat 0))] 0 y18).bind fun y19 => ((getN b7 0 3).bind fun y20 => ((qc y19 0).bind fun y21 => ((qc y19 1).bind fun y22 => ((run cxX 72 [ro (AV.agg (List.map ro1 y20)), AV.sc y21, AV.sc y22] hp).bind fun y23 => ((qM (y23).1).bind fun y24 => ((qh 3 (y23).1).bind fun y25 => ((putN b7 0 y25).bind fun y26 => ((binV Tryz.prog .add 3 (.tmp 25) (.const (.int .i64 (.ofNat 1))) v25 (.int .i64 (.ofNat 1))).bind fun y27 => (B30_3 x23 v24 y27 b6 y26 (y23).2))))))))))))) ((getN b7 0 3).bind fun y28 => ((frzL hp (List.map ro1 y28)).bind fun y29 => ((qh 3 (AV.agg (y29).1)).bind fun y30 => ((putN b6 0 y30).bind fun y31 => ((getN y31 0 3).bind fun y32 => (some (Prod.mk (AV.agg y32) (y29).2)))))))))) :=
 (qe cxX 30 ss30 400 _ _).trans (by kernel_rfl)
end Go.Proofs.YtchmioacjkbfcaaGreat.AI
