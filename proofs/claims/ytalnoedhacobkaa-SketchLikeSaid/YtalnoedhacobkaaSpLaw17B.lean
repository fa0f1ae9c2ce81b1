/- The laws' sketches may be; what saw nothing. -/
import Derived.Test.YtalnoedhacobkaaSpLaw17
import Derived.Test.YtalnoedhacobkaaSpSketchC
namespace Go.Proofs.Ytalnoedhacobkaa.AI
open Go
set_option linter.unusedVariables false
set_option linter.unusedSimpArgs false
set_option maxRecDepth 100000

theorem srt_len : ∀ (r acc : List Int), (srt acc r).length ≤ acc.length + r.length
  | [], acc => by simp [srt]
  | x :: r, acc => by
    have h := srt_len r (mrg acc [x])
    have l := len_mrg acc [x]
    show (srt (mrg acc [x]) r).length ≤ _
    simp at l ⊢
    omega
theorem hadd_le {P h : Int} {l : List Int} (hP : 4 ≤ P ∧ P ≤ 8) (hl : ∀ n ∈ l, n ≤ 65 - P) : ∀ n ∈ hadd P l h, n ≤ 65 - P := by
  unfold hadd
  split
  · rename_i hi
    intro n hn
    rcases List.mem_or_eq_of_mem_set hn with hn | rfl
    · exact hl n hn
    · have h1 := hrow_in (h := h) hP
      have h2 := hl l[hplc P h] (List.getElem_mem hi)
      have e : l.getD (hplc P h) 0 = l[hplc P h] := by simp [hi]
      rw [e]; omega
  · exact hl
theorem hfold_ok {P : Int} (hP : 4 ≤ P ∧ P ≤ 8) : ∀ {l a : List Int}, (∀ n ∈ a, 0 ≤ n ∧ n ≤ 65 - P) → ∀ n ∈ hfold P a l, 0 ≤ n ∧ n ≤ 65 - P
  | [], a, h => h
  | x :: l, a, h => by
    have h1 : ∀ n ∈ hadd P a (hsh x), 0 ≤ n ∧ n ≤ 65 - P := fun n hn => ⟨(hadd_u8 hP (fun m hm => by have := h m hm; omega) n hn).1, hadd_le hP (fun m hm => (h m hm).2) n hn⟩
    exact hfold_ok hP (l := l) h1
theorem kmvs_pos {K : Nat} {few : Bool} {l : List Int} (h : ∀ n ∈ l, 0 ≤ n) : ∀ n ∈ kmvs K [] (l.map (cut few)), 0 ≤ n := by
  intro n hn
  obtain ⟨m, hm, rfl⟩ := List.mem_map.mp (mem_kmvs hn)
  have := h m hm
  unfold cut
  split <;> omega
theorem sketchN_fine (s : Sm) (ok : s.Ok) (hl : s.hs.length ≤ 40) (hf : s.fl.length ≤ 40) : Fine (sketchN s) := by
  have z := skZ_W
  have hA := ok.A
  have hB := ok.B
  have hw := ok.wide
  have hk := ok.kind
  unfold sketchN
  by_cases h0 : s.kind % 6 = 0
  · rw [if_pos h0]
    have r := srt_rise (smset s.few s.hs) (acc := []) List.Pairwise.nil
    have l := srt_len (smset s.few s.hs) []
    have l2 := smset_len s.few ok.hs
    simp at l
    have u : U32 (srt [] (smset s.few s.hs)) := fun n hn => by
      have := (mem_srt n _ _).mp hn
      simp at this
      exact smset_in ok.hs n this
    refine ⟨⟨by show (0 : Int) ≤ 0 ∧ (0 : Int) < 256; omega, u, by show (srt [] (smset s.few s.hs)).length ≤ _; omega, z.hsL, z.rg, z.rgL, z.bs, z.bsL, z.cs, z.csL⟩, ?_, gz_pos⟩
    rw [checkN_ok]
    exact ⟨by show (0 : Int) < 6; omega, rfl, schk_ok.mpr ⟨by show (srt [] (smset s.few s.hs)).length ≤ _; omega, r⟩⟩
  · rw [if_neg h0]
    by_cases h1 : s.kind % 6 = 1
    · rw [if_pos h1]
      have l := kmvs_len (1 + s.A % 20).toNat (s.hs.map (cut s.few))
      refine ⟨⟨by show (0 : Int) ≤ 1 ∧ (1 : Int) < 256; omega, z.set, z.setL, by show (kmvs (1 + s.A % 20).toNat [] (s.hs.map (cut s.few))).length ≤ _; omega, z.rg, z.rgL, z.bs, z.bsL, z.cs, z.csL⟩, ?_, gz_pos⟩
      rw [checkN_ok]
      exact ⟨by show (1 : Int) < 6; omega, rfl, kchk_ok.mpr ⟨by show 1 ≤ 1 + s.A % 20 ∧ 1 + s.A % 20 ≤ 1024; omega, by show ((kmvs (1 + s.A % 20).toNat [] (s.hs.map (cut s.few))).length : Int) ≤ 1 + s.A % 20; omega, kmvs_rise _ _⟩⟩
    · rw [if_neg h1]
      by_cases h2 : s.kind % 6 = 2
      · rw [if_pos h2]
        have hP : 4 ≤ 4 + s.A % 5 ∧ 4 + s.A % 5 ≤ 8 := by omega
        have o := hfold_ok hP (l := s.hs) (a := List.replicate (hpow (4 + s.A % 5)) 0) (fun n hn => by have := List.eq_of_mem_replicate hn; omega)
        have l := hfold_len (4 + s.A % 5) s.hs (List.replicate (hpow (4 + s.A % 5)) 0)
        rw [List.length_replicate] at l
        have hple := hpow_le hP.2
        refine ⟨⟨by show (0 : Int) ≤ 2 ∧ (2 : Int) < 256; omega, z.set, z.setL, z.hsL, fun n hn => by have := o n hn; omega, by show (hfold (4 + s.A % 5) (List.replicate (hpow (4 + s.A % 5)) 0) s.hs).length ≤ _; omega, z.bs, z.bsL, z.cs, z.csL⟩, ?_, gz_pos⟩
        rw [checkN_ok]
        exact ⟨by show (2 : Int) < 6; omega, rfl, hchk_ok.mpr ⟨hP, l, fun n hn => (o n hn).2⟩⟩
      · rw [if_neg h2]
        by_cases h3 : s.kind % 6 = 3
        · rw [if_pos h3]
          have hB' : 1 ≤ 1 + s.wide % 300 ∧ 1 + s.wide % 300 ≤ 4096 := by omega
          have g := blm_good (B := 1 + s.wide % 300) (H := 1 + s.A % 8) hB'.1 (r := s.hs) (Good.nil _)
          have l := g.len hB'.2
          refine ⟨⟨by show (0 : Int) ≤ 3 ∧ (3 : Int) < 256; omega, z.set, z.setL, z.hsL, z.rg, z.rgL, g.in32 hB'.2, by show (blm (1 + s.wide % 300) (1 + s.A % 8) [] s.hs).length ≤ _; omega, z.cs, z.csL⟩, ?_, gz_pos⟩
          rw [checkN_ok]
          exact ⟨by show (3 : Int) < 6; omega, rfl, chk_good hB' (by show 1 ≤ 1 + s.A % 8 ∧ 1 + s.A % 8 ≤ 8; omega) g⟩
        · rw [if_neg h3]
          by_cases h4 : s.kind % 6 = 4
          · rw [if_pos h4]
            have hR : 1 ≤ 1 + s.A % 8 ∧ 1 + s.A % 8 ≤ 8 := by omega
            have hC : 1 ≤ 1 + s.B % 40 ∧ 1 + s.B % 40 ≤ 256 := by omega
            have m := cmul hR hC
            have l := cfold_len (1 + s.A % 8) (1 + s.B % 40) (smc 0 s.hs) (List.replicate ((1 + s.A % 8) * (1 + s.B % 40)).toNat 0)
            rw [List.length_replicate] at l
            have p2 : ∀ (r : List Int) (i : Nat), (∀ n ∈ r, 0 ≤ n ∧ n < 18446744073709551616) → ∀ p ∈ smc i r, 0 ≤ p.2 ∧ p.2 < 4294967296 := by
              intro r
              induction r with
              | nil => intro i _ p hp; simp [smc] at hp
              | cons x r ih =>
                intro i hr p hp
                have hx := hr x (by simp)
                rcases List.mem_cons.mp hp with rfl | hp
                · dsimp
                  split <;> omega
                · exact ih (i + 1) (fun n hn => hr n (by simp [hn])) p hp
            have u := cfold_u32 (1 + s.A % 8) (1 + s.B % 40) (l := smc 0 s.hs) (a := List.replicate ((1 + s.A % 8) * (1 + s.B % 40)).toNat 0) (fun n hn => by have := List.eq_of_mem_replicate hn; omega) (p2 s.hs 0 ok.hs)
            refine ⟨⟨by show (0 : Int) ≤ 4 ∧ (4 : Int) < 256; omega, z.set, z.setL, z.hsL, z.rg, z.rgL, z.bs, z.bsL, u, by show (cfold (1 + s.A % 8) (1 + s.B % 40) (List.replicate ((1 + s.A % 8) * (1 + s.B % 40)).toNat 0) (smc 0 s.hs)).length ≤ _; omega⟩, ?_, gz_pos⟩
            rw [checkN_ok]
            exact ⟨by show (4 : Int) < 6; omega, rfl, cchk_ok.mpr ⟨hR, hC, by show ((cfold (1 + s.A % 8) (1 + s.B % 40) (List.replicate ((1 + s.A % 8) * (1 + s.B % 40)).toNat 0) (smc 0 s.hs)).length : Int) = (1 + s.A % 8) * (1 + s.B % 40); omega⟩⟩
          · rw [if_neg h4]
            obtain ⟨gw, gc⟩ := gfold_fine (K := 1 + s.A % 16) (by omega) (ws_wd ok.fl) gnew_W (gnew_chk (by omega))
            refine ⟨⟨by show (0 : Int) ≤ 5 ∧ (5 : Int) < 256; omega, z.set, z.setL, z.hsL, z.rg, z.rgL, z.bs, z.bsL, z.cs, z.csL⟩, ?_, gw.pos⟩
            rw [checkN_ok]
            exact ⟨by show (5 : Int) < 6; omega, rfl, gc⟩
theorem sketchN_kind (s : Sm) (ok : s.Ok) : (sketchN s).kind = s.kind % 6 := by
  have hk := ok.kind
  unfold sketchN
  repeat' split
  all_goals first | (simp; omega) | rfl
/-! ### of the same sizes -/
theorem sketchN_like (s t : Sm) (ok : s.Ok) (ok' : t.Ok) (hk : s.kind % 6 = t.kind % 6) (hA : s.A = t.A) (hB : s.B = t.B) (hw : s.wide = t.wide) : likeN (sketchN s) (sketchN t) = true := by
  have k1 := sketchN_kind s ok
  have k2 := sketchN_kind t ok'
  refine like_of (by rw [k1, k2, hk]) ?_
  rw [k1]
  unfold sketchN
  rw [← hk, ← hA, ← hB, ← hw]
  refine ⟨fun h => ?_, fun h => ?_, fun h => ?_, fun h => ?_, fun h => ?_⟩
  · simp [h]
  · simp [h]
  · simp [h]
  · simp [h]
  · simp [h]
/-! ### what saw nothing -/
def Sm.none (s : Sm) : Sm := { s with hs := [], fl := [] }
theorem Sm.Ok.none {s : Sm} (h : s.Ok) : s.none.Ok := ⟨h.kind, h.A, h.B, h.wide, by simp [Sm.none], by simp [Sm.none]⟩
theorem merge_none (s : Sm) (ok : s.Ok) (hl : s.hs.length ≤ 40) (hf : s.fl.length ≤ 40) : mergeN0 (sketchN s) (sketchN s.none) = sketchN s := by
  have fx := sketchN_fine s ok hl hf
  have hA := ok.A
  have hB := ok.B
  have hw := ok.wide
  have hk := ok.kind
  obtain ⟨kd, on, sp⟩ := checkN_ok.mp fx.c
  have w := fx.w
  rw [sketchN_kind s ok] at sp
  have e5 : s.kind % 6 = 0 ∨ s.kind % 6 = 1 ∨ s.kind % 6 = 2 ∨ s.kind % 6 = 3 ∨ s.kind % 6 = 4 ∨ s.kind % 6 = 5 := by omega
  rcases e5 with k | k | k | k | k | k
  · simp [sketchN, Sm.none, mergeN0, k, smset, srt]
  · simp [k] at sp
    obtain ⟨a, b, c⟩ := kchk_ok.mp sp
    simp [sketchN, k] at a b
    simp [sketchN, Sm.none, mergeN0, k, kmvs]
    exact List.take_of_length_le (by omega)
  · simp [k] at sp
    obtain ⟨a, b, c⟩ := hchk_ok.mp sp
    have rg := w.rg
    simp [sketchN, k] at a b c rg
    simp [sketchN, Sm.none, mergeN0, k]
    have h := hmax_zero (a := hfold (4 + s.A % 5) (List.replicate (hpow (4 + s.A % 5)) 0) s.hs) (fun n hn => (rg n hn).1)
    rw [b] at h
    exact h
  · simp [sketchN, Sm.none, mergeN0, k, blm]
  · simp [k] at sp
    obtain ⟨a, b, c⟩ := cchk_ok.mp sp
    have cs := w.cs
    simp [sketchN, k] at a b c cs
    simp [sketchN, Sm.none, mergeN0, k, smc]
    have h := cmrg_zero (a := cfold (1 + s.A % 8) (1 + s.B % 40) (List.replicate ((1 + s.A % 8) * (1 + s.B % 40)).toNat 0) (smc 0 s.hs)) cs
    have l : (cfold (1 + s.A % 8) (1 + s.B % 40) (List.replicate ((1 + s.A % 8) * (1 + s.B % 40)).toNat 0) (smc 0 s.hs)).length = ((1 + s.A % 8) * (1 + s.B % 40)).toNat := by omega
    rw [l] at h
    exact h
  · simp [k] at sp
    simp [sketchN, k] at sp
    simp [sketchN, Sm.none, mergeN0, k, gfold]
    obtain ⟨gw, gc⟩ := gfold_fine (K := 1 + s.A % 16) (by omega) (ws_wd ok.fl) gnew_W (gnew_chk (by omega))
    exact gmgN_new gw gc
end Go.Proofs.Ytalnoedhacobkaa.AI
