/- Filters: the bits of all hashes are set, no other ones. -/
import Derived.Test.YtalnoedhacobkaaEqZBloomAdds
import Derived.Test.YtalnoedhacobkaaSpBloom
import Derived.Test.YtalnoedhacobkaaMapS
namespace Go.Proofs.Ytalnoedhacobkaa.AI
open Go
set_option linter.unusedVariables false
set_option linter.unusedSimpArgs false

theorem or1 (n : Nat) : n ||| 1 = 2 * (n / 2) + 1 := by
  apply Nat.eq_of_testBit_eq
  intro i
  rw [Nat.testBit_or]
  cases i with
  | zero => simp
  | succ i =>
    have h1 : (2 * (n / 2) + 1) / 2 = n / 2 := by omega
    rw [Nat.testBit_succ, Nat.testBit_succ, Nat.testBit_succ, h1]
    simp
theorem stp_eq (h : Int) (hh : 0 ≤ h ∧ h < 18446744073709551616) : stp h = if h / 4294967296 % 2 = 0 then h / 4294967296 + 1 else h / 4294967296 := by
  unfold stp
  have e : h.fdiv (2 ^ 32) = h / 4294967296 := by rw [Int.fdiv_eq_ediv_of_nonneg _ (by decide)]; rfl
  rw [e]
  obtain ⟨s, hs⟩ : ∃ s : Nat, h / 4294967296 = (s : Int) := ⟨(h / 4294967296).toNat, by omega⟩
  rw [hs]
  have hlt : s < 4294967296 := by omega
  have ws : IntKind.u32.wrap (s : Int) = s := wrapu32 (by omega) (by omega)
  rw [ws]
  have e2 : (BitVec.ofInt 32 (s : Int) ||| BitVec.ofInt 32 1).toNat = 2 * (s / 2) + 1 := by
    rw [BitVec.toNat_or, ← or1 s]
    congr 1
    rw [BitVec.toNat_ofInt]
    omega
  rw [e2, wrapu32 (by omega) (by omega)]
  split <;> omega
theorem lplaces_loop (B H st : Int) (hB : 1 ≤ B ∧ B ≤ 4096) (hH : H ≤ 8) (hst : 0 ≤ st ∧ st ≤ 4294967296) (hp : Hp) : ∀ (n i : Nat) (a : Int) (acc : List Int), H = (i + n : Nat) → 0 ≤ a ∧ a < 4294967296 → acc.length ≤ i →
    B18_6 (.int .i64 B) (S 2 1 (LI .u32 acc)) (.int .u64 a) (.int .u64 st) (.int .i64 H) (.int .i64 i) hp = some (S 2 1 (LI .u32 (acc ++ plc B st n a)), hp) := by
  intro n
  induction n with
  | zero =>
    intro i a acc hi ha hc
    rw [B18_6_eq]
    have hlt : ¬((i : Int) < H) := by omega
    simp [hlt, plc]
  | succ n ih =>
    intro i a acc hi ha hc
    rw [B18_6_eq]
    have hlt : (i : Int) < H := by omega
    have hw : IntKind.i64.wrap ((i : Int) + 1) = ((i + 1 : Nat) : Int) := by rw [wrap64] <;> omega
    have hwB : IntKind.u64.wrap B = B := wrapu64 (by omega) (by omega)
    have hwa : IntKind.u64.wrap (a + st) = a + st := wrapu64 (by omega) (by omega)
    have hm1 : 0 ≤ a % B ∧ a % B < B := ⟨Int.emod_nonneg _ (by omega), Int.emod_lt_of_pos _ (by omega)⟩
    have hwm : IntKind.u32.wrap (a % B) = a % B := wrapu32 (by omega) (by omega)
    have h := ih (i + 1) ((a + st) % 4294967296) (acc ++ [a % B]) (by omega) (by omega) (by simp; omega)
    have ap := appI .u32 acc 2 (.inr rfl) 4 (by decide) (a % B) (by omega)
    have hr : ∀ t x y, binV Go.Proofs.Try.prog .rem t x y (.int .u64 a) (.int .u64 B) = some (.int .u64 (a % B)) := by
      intro t x y
      rw [binV_rem _ _ _ _ _ _ _ (by omega), tmod_pos ha.1]
    have hr2 : ∀ t x y, binV Go.Proofs.Try.prog .rem t x y (.int .u64 (a + st)) (.int .u64 4294967296) = some (.int .u64 ((a + st) % 4294967296)) := by
      intro t x y
      rw [binV_rem _ _ _ _ _ _ _ (by omega), tmod_pos (by omega)]
    have e : plc B st (n + 1) a = a % B :: plc B st n ((a + st) % 4294967296) := by
      show a % B :: plc B st n (IntKind.u32.wrap (a + st)) = _
      rw [IntKind.wrap_u32]
    simp at h hw
    simp [hlt, hwB, hr, hwm, ap, hwa, hr2, hw, h, e]
theorem run_lplaces (B H h : Int) (hB : 1 ≤ B ∧ B ≤ 4096) (hH : 1 ≤ H ∧ H ≤ 8) (hh : 0 ≤ h ∧ h < 18446744073709551616) (hp : Hp) :
    run cxX 18 [.sc (.int .i64 B), .sc (.int .i64 H), .sc (.int .u64 h)] hp = some (S 2 1 (LI .u32 (plg B H h)), hp) := by
  rw [E18]
  have a0 : at0 h = h % 4294967296 := by unfold at0; rw [IntKind.wrap_u32]
  have hr : ∀ t x y, binV Go.Proofs.Try.prog .rem t x y (.int .u64 h) (.int .u64 4294967296) = some (.int .u64 (h % 4294967296)) := by
    intro t x y; rw [binV_rem _ _ _ _ _ _ _ (by omega), tmod_pos hh.1]
  have hq : ∀ t x y, binV Go.Proofs.Try.prog .quo t x y (.int .u64 h) (.int .u64 4294967296) = some (.int .u64 (h / 4294967296)) := by
    intro t x y; rw [binV_quo _ _ _ _ _ _ _ (by omega), Int.tdiv_eq_ediv_of_nonneg hh.1, wrapu64 (by omega) (by omega)]
  have hr2 : ∀ t x y, binV Go.Proofs.Try.prog .rem t x y (.int .u64 (h / 4294967296)) (.int .u64 2) = some (.int .u64 (h / 4294967296 % 2)) := by
    intro t x y; rw [binV_rem _ _ _ _ _ _ _ (by omega), tmod_pos (by omega)]
  have L := fun st hst => lplaces_loop B H st hB hH.2 hst hp H.toNat 0 (h % 4294967296) [] (by omega) (by omega) (by simp)
  have hs := stp_eq h hh
  by_cases e : h / 4294967296 % 2 = 0
  · have w : IntKind.u64.wrap (h / 4294967296 + 1) = h / 4294967296 + 1 := wrapu64 (by omega) (by omega)
    rw [if_pos e] at hs
    have := L _ (by omega : 0 ≤ h / 4294967296 + 1 ∧ h / 4294967296 + 1 ≤ 4294967296)
    rw [← hs] at this
    simp at this
    simp [hr, hq, hr2, e, w, B18_5_eq, plg, a0]
    rw [← hs]; exact this
  · rw [if_neg e] at hs
    have := L _ (by omega : 0 ≤ h / 4294967296 ∧ h / 4294967296 ≤ 4294967296)
    rw [← hs] at this
    simp at this
    simp [hr, hq, hr2, e, B18_5_eq, plg, a0]
    rw [← hs]; exact this
/-! ### the law -/
section
variable (B H h : Int) (k k' : Nat) (l : List Int) (b : Nat)
/-- The bits of many hashes, each once. -/
def bmk (m : List Int) (l : List Int) : List Int := l.foldl (fun m x => inss m (plg B H x)) m
theorem bmk_nodup : ∀ {l m : List Int}, m.Nodup → (bmk B H m l).Nodup
  | [], _, h => h
  | x :: l, m, h => bmk_nodup (l := l) (inss_nodup h)
theorem mem_bmk (n : Int) : ∀ {l m : List Int}, n ∈ bmk B H m l ↔ n ∈ m ∨ ∃ x ∈ l, n ∈ plg B H x
  | [], m => by simp [bmk]
  | x :: l, m => by
    have := mem_bmk n (l := l) (m := inss m (plg B H x))
    show n ∈ bmk B H (inss m (plg B H x)) l ↔ _
    rw [this, mem_inss]
    simp [or_assoc]
theorem adds13 (v3 : Value) (x31 : AV) (v32 v33 : Value) (b9 : List AV) (ps : List Int) (hps : ps.length ≤ 8) : ∀ (r : List Int) (i : Nat) (m : List Int) (hp : Hp), ps.drop i = r → hp.rdM b = some (ME .u32 m) →
    ∃ hp', hp'.rdM b = some (ME .u32 (inss m r)) ∧ B3_13 v3 (.map b) x31 v32 v33 (S k 1 (LI .u32 ps)) (.int .i64 ps.length) (.int .i64 i) b9 hp =
      (binV Go.Proofs.Try.prog .add 3 (.tmp 33) (.const (.int .i64 1)) v33 (.int .i64 1)).bind fun v => B3_8 v3 (.map b) x31 v32 v b9 hp' := by
  intro r
  induction r with
  | nil =>
    intro i m hp hr hb
    have := drop_nil hr
    have hlt : ¬((i : Int) < (ps.length : Int)) := by omega
    refine ⟨hp, hb, ?_⟩
    rw [B3_13_eq]
    simp [hlt]
  | cons x r ih =>
    intro i m hp hr hb
    obtain ⟨e1, e2, hi, e3⟩ := drop_cons hr
    have hw : IntKind.i64.wrap ((i : Int) + 1) = ((i + 1 : Nat) : Int) := by rw [wrap64] <;> omega
    obtain ⟨hp', h1, h2⟩ := ih (i + 1) (insM m x) (hp.put b 1 (ME .u32 (insM m x))) e2 (rdM_put _ _ _)
    refine ⟨hp', h1, ?_⟩
    rw [B3_13_eq]
    simp at h2 hw
    simp [hi, e3, getSc, hb, hw, h2]
theorem adds28 (hB : 1 ≤ B ∧ B ≤ 4096) (hH : 1 ≤ H ∧ H ≤ 8) (s m : List Int) (hs : Good B s) (hm : m.Nodup) (hms : ∀ n, n ∈ m ↔ n ∈ s) (hp : Hp) (hb : hp.rdM b = some (ME .u32 m)) (g : List Int) (hg : (g.length : Int) = H) (v : Bool) (hv : v = decide (∀ n ∈ plg B H h, n ∈ s)) :
    ∀ (r : List Int) (i : Nat), s.drop i = r → B3_28 (.int .u64 h) (.map b) (.bool v) (S k 1 (LI .u32 g)) (S 3 1 (LI .u32 s)) (.int .i64 s.length) (.int .i64 i) [.sc (.int .i64 B), .sc (.int .i64 H), S 2 1 (LI .u32 s)] hp = some (.sc (.bool true), hp) := by
  intro r
  have hlen := hs.len hB.2
  induction r with
  | nil =>
    intro i hr
    have := drop_nil hr
    have hlt : ¬((i : Int) < (s.length : Int)) := by omega
    have c := fun hp => run_check B H s 3 (by omega) (hs.in32 hB.2) hp
    rw [chk_good hB hH hs] at c
    have hh := fun hp => run_has_good B H s 3 h hB hH hs hp
    have hl : m.length = s.length := len_of_mem hm (hs.1.imp (fun h => by omega)) hms
    rw [B3_28_eq]
    have bb : ∀ x y (a c : Bool), binV Go.Proofs.Try.prog .eql 4 x y (.bool a) (.bool c) = some (.bool (a == c)) := by
      intro x y a c
      cases a <;> cases c <;> kernel_rfl
    simp [hlt, getN, getC, getSc, c, hb, hl, hh, bb, hv, hg]
  | cons x r ih =>
    intro i hr
    obtain ⟨e1, e2, hi, e3⟩ := drop_cons hr
    have hx := (hms x).mpr (List.mem_of_getElem? e1)
    have hw : IntKind.i64.wrap ((i : Int) + 1) = ((i + 1 : Nat) : Int) := by rw [wrap64] <;> omega
    have h := ih (i + 1) e2
    simp at h hw
    rw [B3_28_eq]
    simp [hi, e3, getC, getSc, hb, hx, hw, h]
theorem adds21 (hB : 1 ≤ B ∧ B ≤ 4096) (hH : 1 ≤ H ∧ H ≤ 8) (s m : List Int) (hs : Good B s) (hm : m.Nodup) (hms : ∀ n, n ∈ m ↔ n ∈ s) (hp : Hp) (hb : hp.rdM b = some (ME .u32 m)) :
    ∀ (r : List Int) (i : Nat) (v : Bool), (plg B H h).drop i = r → (decide (∀ n ∈ plg B H h, n ∈ s) = (v && decide (∀ n ∈ r, n ∈ s))) → B3_21 (.int .u64 h) (.map b) (.bool v) (S 2 1 (LI .u32 (plg B H h))) (S 2 1 (LI .u32 (plg B H h))) (.int .i64 (plg B H h).length) (.int .i64 i) [.sc (.int .i64 B), .sc (.int .i64 H), S 2 1 (LI .u32 s)] hp = some (.sc (.bool true), hp) := by
  intro r
  have hl := plg_len B H h
  induction r with
  | nil =>
    intro i v hr hv
    have := drop_nil hr
    have hlt : ¬((i : Int) < ((plg B H h).length : Int)) := by omega
    have t := adds28 B H h 2 b hB hH s m hs hm hms hp hb (plg B H h) (by omega) v (by rw [hv]; simp) s 0 rfl
    rw [B3_21_eq]
    simp at t
    simp [hlt, getC, t]
  | cons x r ih =>
    intro i v hr hv
    obtain ⟨e1, e2, hi, e3⟩ := drop_cons hr
    have hw : IntKind.i64.wrap ((i : Int) + 1) = ((i + 1 : Nat) : Int) := by rw [wrap64] <;> omega
    have hd : ∀ v, B3_26 (.int .u64 h) (.map b) (.bool v) (S 2 1 (LI .u32 (plg B H h))) (S 2 1 (LI .u32 (plg B H h))) (.int .i64 (plg B H h).length) (.int .i64 i) [.sc (.int .i64 B), .sc (.int .i64 H), S 2 1 (LI .u32 s)] hp = B3_21 (.int .u64 h) (.map b) (.bool v) (S 2 1 (LI .u32 (plg B H h))) (S 2 1 (LI .u32 (plg B H h))) (.int .i64 (plg B H h).length) (.int .i64 ((i + 1 : Nat) : Int)) [.sc (.int .i64 B), .sc (.int .i64 H), S 2 1 (LI .u32 s)] hp := by
      intro v
      rw [B3_26_eq]
      simp at hw
      simp [hw]
    have hlt : ¬((plg B H h).length ≤ i) := by omega
    have hx : decide (x ∈ m) = decide (x ∈ s) := decide_eq_decide.mpr (hms x)
    rw [B3_21_eq]
    cases v with
    | false =>
      have h := ih (i + 1) false e2 (by rw [hv]; simp)
      simp [hi, e3, getSc, hlt, B3_25_eq, hd]
      simpa using h
    | true =>
      have h := ih (i + 1) (decide (x ∈ s)) e2 (by rw [hv]; simp)
      simp [hi, e3, getSc, hlt, B3_25_eq, hd, hb, orA_ite, hx]
      simpa using h
theorem adds8 (hB : 1 ≤ B ∧ B ≤ 4096) (hH : 1 ≤ H ∧ H ≤ 8) (hl : l.length ≤ 40) (h64 : ∀ n ∈ l, 0 ≤ n ∧ n < 18446744073709551616) (hh : 0 ≤ h ∧ h < 18446744073709551616) : ∀ (r : List Int) (i : Nat) (m : List Int) (hp : Hp), l.drop i = r → m.Nodup → (∀ n, n ∈ m ∨ (∃ x ∈ r, n ∈ plg B H x) ↔ n ∈ blm B H [] l) → hp.rdM b = some (ME .u32 m) →
    ∃ hp', B3_8 (.int .u64 h) (.map b) (S k 1 (LI .u64 l)) (.int .i64 l.length) (.int .i64 i) [.sc (.int .i64 B), .sc (.int .i64 H), S 2 1 (LI .u32 (blm B H [] l))] hp = some (.sc (.bool true), hp') := by
  have hg : Good B (blm B H [] l) := blm_good hB.1 (Good.nil B)
  have hlen := hg.len hB.2
  intro r
  induction r with
  | nil =>
    intro i m hp hr hm hmm hb
    have := drop_nil hr
    have hlt : ¬((i : Int) < (l.length : Int)) := by omega
    have pl := fun hp => run_places B H (blm B H [] l) 3 h (by omega) (hg.in32 hB.2) hp
    rw [pls_good hB hH hg h] at pl
    have lp := fun hp => run_lplaces B H h hB hH hh hp
    have t := adds21 B H h b hB hH (blm B H [] l) m hg hm (fun n => by have := hmm n; simpa using this) hp hb (plg B H h) 0 true rfl (by simp)
    refine ⟨hp, ?_⟩
    rw [B3_8_eq]
    simp at t
    simp [hlt, getN, getSc, pl, lp, t]
  | cons x r ih =>
    intro i m hp hr hm hmm hb
    obtain ⟨e1, e2, hi, e3⟩ := drop_cons hr
    have hxl := List.mem_of_getElem? e1
    have hx := h64 x hxl
    have hw : IntKind.i64.wrap ((i : Int) + 1) = ((i + 1 : Nat) : Int) := by rw [wrap64] <;> omega
    have has := fun hp => run_has_good B H (blm B H [] l) 3 x hB hH hg hp
    have hin : ∀ n ∈ plg B H x, n ∈ blm B H [] l := fun n hn => (mem_blm B H n l []).mpr (.inr ⟨x, hxl, hn⟩)
    rw [decide_eq_true hin] at has
    have lp := fun hp => run_lplaces B H x hB hH hx hp
    have hpl := plg_len B H x
    obtain ⟨hp1, g1, g2⟩ := adds13 2 b (.int .u64 h) (S k 1 (LI .u64 l)) (.int .i64 l.length) (.int .i64 i) [.sc (.int .i64 B), .sc (.int .i64 H), S 2 1 (LI .u32 (blm B H [] l))] (plg B H x) (by omega) (plg B H x) 0 m hp rfl hb
    obtain ⟨hp', h⟩ := ih (i + 1) (inss m (plg B H x)) hp1 e2 (inss_nodup hm) (fun n => by rw [← hmm n, mem_inss]; simp [or_assoc]) g1
    refine ⟨hp', ?_⟩
    rw [B3_8_eq]
    simp at g2 h hw
    simp [hi, e3, getN, getSc, has, lp, g2, hw, h]
end
theorem law_BloomAdds (c : Int) (wc : InK .u16 c) (d : Int) (wd : InK .u8 d) (k : Nat) (l : List Int) (wl : ∀ n ∈ l, InK .u64 n) (h : Int) (wh : InK .u64 h) (hp : Hp) :
    ∃ hp', run cxX 3 [.sc (.int .u16 c), .sc (.int .u8 d), S k 1 (LI .u64 l), .sc (.int .u64 h)] hp = some (.sc (.bool true), hp') := by
  have hc := wc.u16
  have hd := wd.u8
  rw [E3]
  by_cases hl : (40 : Int) < (l.length : Int)
  · exact ⟨hp, by simp [run_awake, hl]⟩
  · have bl := fun hp => run_bloom c d (rk k) l hc hd (by omega) hp
    obtain ⟨hp', e⟩ := adds8 (1 + c % 300) (1 + d % 8) h (rk k) l hp.next (by omega) (by omega) (by omega) (fun n hn => (wl n hn).u64) wh.u64 l 0 [] hp.newM rfl List.nodup_nil (fun n => by rw [mem_blm]) (rdM_new hp)
    refine ⟨hp', ?_⟩
    simp at e
    simp [run_awake, hl, bl, putN, e]
end Go.Proofs.Ytalnoedhacobkaa.AI
