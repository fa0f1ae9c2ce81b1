/- The least hashes: of fewer than K they are all there. -/
import Derived.Test.YtalnoedhacobkaaEqZKmvAlone
import Derived.Test.YtalnoedhacobkaaSpAbout
import Derived.Test.YtalnoedhacobkaaMapS
namespace Go.Proofs.Ytalnoedhacobkaa.AI
open Go
set_option linter.unusedVariables false
set_option linter.unusedSimpArgs false

theorem ordL_rise : ∀ {l : List Int}, Rise l → ordL l = 0
  | [], _ => rfl
  | [_], _ => rfl
  | x :: y :: r, h => by
    have h' := List.pairwise_cons.mp h
    have hxy := h'.1 y (by simp)
    show (if y ≤ x then 8 else ordL (y :: r)) = 0
    rw [if_neg (by omega)]
    exact ordL_rise h'.2
theorem alone_tail (K : Int) (a m : List Int) (b : Nat) (hK : 51 ≤ K ∧ K ≤ 1000) (ha : Rise a) (hal : a.length ≤ 50) (hm : m.length = a.length) (hin : ∀ x ∈ a, x ∈ m) (hp : Hp) (hb : hp.rdM b = some (ME .u64 m)) : ∀ (r : List Int) (i : Nat), a.drop i = r →
    B4_14 (.map b) (S 3 1 (LI .u64 a)) (.int .i64 a.length) (.int .i64 i) [.sc (.int .i64 K), S 2 1 (LI .u64 a)] hp = some (.sc (.bool true), hp) := by
  intro r
  induction r with
  | nil =>
    intro i hr
    have := drop_nil hr
    have hlt : ¬((i : Int) < (a.length : Int)) := by omega
    have w : IntKind.u64.wrap (a.length : Int) = a.length := wnat _ (by omega)
    have ab := fun hp => run_about_few K a 3 (by omega) (by omega) hp
    have kc := fun hp => run_kcheck K a 3 (by omega) hp
    have k0 : kchk K a = 0 := by unfold kchk; rw [if_neg (by omega), if_neg (by omega)]; exact ordL_rise ha
    rw [B4_14_eq]
    simp [hlt, getC, getSc, getN, hb, hm, w, ab, kc, k0]
  | cons x r ih =>
    intro i hr
    obtain ⟨e1, e2, hi, e3⟩ := drop_cons hr
    have hx := hin x (List.mem_of_getElem? e1)
    have hw : IntKind.i64.wrap ((i : Int) + 1) = ((i + 1 : Nat) : Int) := by rw [wrap64] <;> omega
    have h := ih (i + 1) e2
    simp at h hw
    rw [B4_14_eq]
    simp [hi, e3, getC, getSc, hb, hx, hw, h]
theorem alone_loop (K : Int) (l : List Int) (k : Nat) (hK : 51 ≤ K ∧ K ≤ 1000) (hl : l.length ≤ 50) (b : Nat) : ∀ (r : List Int) (i : Nat) (a m : List Int) (hp : Hp), l.drop i = r → Rise a → m.Nodup → (∀ x, x ∈ m ↔ x ∈ a) → a.length ≤ i → i ≤ l.length → hp.rdM b = some (ME .u64 m) →
    ∃ hp', B4_8 (.map b) (S k 1 (LI .u64 l)) (.int .i64 l.length) (.int .i64 i) [.sc (.int .i64 K), S 2 1 (LI .u64 a)] hp = some (.sc (.bool true), hp') := by
  intro r
  induction r with
  | nil =>
    intro i a m hp hr ha hm hma hai hil hb
    have := drop_nil hr
    have hlt : ¬((i : Int) < (l.length : Int)) := by omega
    have hnd : a.Nodup := ha.imp (fun h => by omega)
    have hlen : m.length = a.length := len_of_mem hm hnd hma
    have hal : a.length ≤ 50 := by omega
    have t := alone_tail K a m b hK ha hal hlen (fun x hx => (hma x).mpr hx) hp hb a 0 rfl
    rw [B4_8_eq]
    simp at t
    exact ⟨hp, by simp [hlt, getC, t]⟩
  | cons x r ih =>
    intro i a m hp hr ha hm hma hai hil hb
    obtain ⟨e1, e2, hi, e3⟩ := drop_cons hr
    have hw : IntKind.i64.wrap ((i : Int) + 1) = ((i + 1 : Nat) : Int) := by rw [wrap64] <;> omega
    have d := fun hp => run_kadd K a x 3 hp (by omega)
    have hl1 : (mrg a [x]).length ≤ a.length + 1 := by simpa using len_mrg a [x]
    have ht : (mrg a [x]).take K.toNat = mrg a [x] := List.take_of_length_le (by omega)
    rw [ht] at d
    obtain ⟨hp', h⟩ := ih (i + 1) (mrg a [x]) (insM m x) (hp.put b 1 (ME .u64 (insM m x))) e2 (rise_mrg _ _ ha (by simp)) (insM_nodup hm) (fun y => by rw [mem_insM, mem_mrg, hma]; simp) (by omega) (by omega) (rdM_put _ _ _)
    refine ⟨hp', ?_⟩
    rw [B4_8_eq]
    simp at h hw
    simp [hi, e3, getSc, hb, getN, d, putN, hw, h]
theorem run_alone (l : List Int) (k : Nat) (c : Int) (hc : 0 ≤ c ∧ c < 256) (hp : Hp) : ∃ hp', run cxX 4 [S k 1 (LI .u64 l), .sc (.int .u8 c)] hp = some (.sc (.bool true), hp') := by
  rw [E4]
  by_cases hl : (50 : Int) < (l.length : Int)
  · exact ⟨hp, by simp [run_kawake, hl]⟩
  · have w1 : IntKind.i64.wrap c = c := wrap64 (by omega) (by omega)
    have w2 : IntKind.i64.wrap (51 + c) = 51 + c := wrap64 (by omega) (by omega)
    obtain ⟨hp', h⟩ := alone_loop (51 + c) l (rk k) (by omega) (by omega) hp.next l 0 [] [] hp.newM rfl List.Pairwise.nil List.nodup_nil (by simp) (by simp) (by simp) (rdM_new hp)
    refine ⟨hp', ?_⟩
    simp at h
    simp [run_kawake, hl, w1, w2, h]
theorem law_KmvAlone (k : Nat) (l : List Int) (wl : ∀ n ∈ l, InK .u64 n) (c : Int) (wc : InK .u8 c) (hp : Hp) : ∃ hp', run cxX 4 [S k 1 (LI .u64 l), .sc (.int .u8 c)] hp = some (.sc (.bool true), hp') :=
  run_alone l k c wc.u8 hp
end Go.Proofs.Ytalnoedhacobkaa.AI
