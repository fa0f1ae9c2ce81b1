/- An empty set, packed and taken: the fixed fact of the layer 'pack'. -/
import Derived.Test.YtchmioacjkbfcaaGreatEqPack
import Derived.Test.YtchmioacjkbfcaaGreatEqRoar
import Derived.Test.YtchmioacjkbfcaaGreatEqMeter
import Derived.Test.YtchmioacjkbfcaaGreatEqLaw18
import Derived.Test.YtchmioacjkbfcaaGreatSpWire
import Derived.Test.YtchmioacjkbfcaaGreatSpSketch
namespace Go.Proofs.YtchmioacjkbfcaaGreat.AI
open Go
set_option linter.unusedVariables false
set_option linter.unusedSimpArgs false
set_option maxRecDepth 100000

theorem check_zero : checkN skZ = 0 := by simp [checkN, onlyN, skZ, schk, ordS]
theorem run_rof_nil (k : Nat) (hp : Hp) : run cxX 32 [S k 1 []] hp = some (.tup [S 2 1 [], .sc (.int .i64 0)], hp) := by
  rw [E32]
  simp [B32_5_eq]
theorem run_sput_nil (b k : Nat) (hp : Hp) (h : hp.rd b 0 = some (Wc [])) : run cxX 33 [S k 1 [], .ptr b 0 0] hp = some (.tup [], hp.put b 0 (Wc [0])) := by
  have u0 : uv 0 = [0] := by rw [uv_lt (by decide)]; rfl
  have wu := run_wuint b 0 [] (by decide) (by rw [u0]; decide) hp h
  rw [u0] at wu
  have lz : ∀ k, lenA (S k 1 []) = some 0 := fun k => lenA_S k []
  have bz : ∀ x hp, B33_2 (.ptr b 0 0) x (.int .i64 0) (.int .i64 0) hp = some (.tup [], hp) := fun x hp => by rw [B33_2_eq]; simp
  simp at wu
  rw [E33]
  have w0 : IntKind.u64.wrap 0 = 0 := rfl
  simp [wu, lz, bz, w0]
theorem run_put_zero (hp : Hp) : ∃ hp', run cxX 16 [skA skZ gz 2 2 2 2 2 2] hp = some (.tup [S 1 1 (LI .u8 [0]), .sc (.int .i64 0)], hp') := by
  have ck := run_skcheck (isSk_tags (x := skZ) gz_W rfl 2 2 2 2 2 2) skZ_W hp0
  rw [check_zero] at ck
  have ro := run_rof_nil 2 hp0
  have sp := run_sput_nil hp.next 2 (hp.new (Wc [])) (rd_new _ _)
  have wb := run_wbytes hp.next [0] (by decide) ((hp.new (Wc [])).put hp.next 0 (Wc [0])) (rd_put _ _ _)
  refine ⟨(hp.new [S 2 1 []]).put hp.next 0 [S 2 1 (LI .u8 [0])], ?_⟩
  simp [skA, skZ, gz, LF, fl] at ck
  simp only [Wc, nilI] at sp wb
  rw [E16]
  simp [skA, skZ, gz, LF, fl, getN, getSc, getC, ck, ro, sp, wb, B16_28_eq]
theorem run_rtake_zero (b k : Nat) (hp : Hp) (h : hp.rd b 0 = some (Rc k [0] 0 0)) : run cxX 43 [.ptr b 0 0] hp = some (S 2 1 [], hp.put b 0 (Rc k [0] 1 0)) := by
  have ru := run_ruint b k [0] 4096 0 0 (by decide) (by decide) (by simp) (by simp) hp h
  have e : rU [0] 0 0 4096 = (0, 1, 0) := by decide
  rw [e] at ru
  have er := run_rerr b k [0] 1 0 (hp.put b 0 (Rc k [0] 1 0)) (rd_put _ _ _)
  rw [E43]
  simp at ru
  simp [ru, B43_5_eq, B43_15_eq, er]
theorem run_slist_nil (k : Nat) (hp : Hp) : run cxX 44 [S k 1 []] hp = some (S 2 1 [], hp) := by
  have lz : ∀ k, lenA (S k 1 []) = some 0 := fun k => lenA_S k []
  rw [E44]
  simp [lz, B44_3_eq]
theorem run_room (n : Nat) (h : n ≤ 1048576) (hp : Hp) : run cxX 21 [.sc (.int .i64 (n : Int))] hp = some (.sc (.int .i64 (64 * (n : Int) + 16384)), hp) := by
  have m1 : max (n : Int) 0 = n := by omega
  have m2 : min (n : Int) 1048576 = n := by omega
  have w1 : IntKind.i64.wrap (64 * (n : Int)) = 64 * (n : Int) := wrap64 (by omega) (by omega)
  have w2 : IntKind.i64.wrap (64 * (n : Int) + 16384) = 64 * (n : Int) + 16384 := wrap64 (by omega) (by omega)
  rw [E21]
  simp [m1, m2, w1, w2]
theorem run_mtake_nil (n : Int) (hp : Hp) : run cxX 41 [.sc (.pointer none), .sc (.int .i64 n)] hp = some (.sc (.int .i64 0), hp) := by
  rw [E41]
  simp
theorem run_take_zero (k : Nat) (hp : Hp) : ∃ hp', run cxX 17 [.sc (.int .u8 0), S k 1 (LI .u8 [0]), .sc (.pointer none)] hp = some (.tup [skA skZ gz 2 2 2 2 2 2, .sc (.int .i64 0)], hp') := by
  have ck := run_skcheck (isSk_tags (x := skZ) gz_W rfl 2 2 2 2 2 2) skZ_W hp0
  rw [check_zero] at ck
  have rm := run_room 1 (by decide) hp0
  have mt := run_mtake_nil (64 * ((1 : Nat) : Int) + 16384) hp
  have wr := run_wread (rk k) [0] hp
  have rt := run_rtake_zero hp.next (rk k) (hp.new (Rc (rk k) [0] 0 0)) (rd_new _ _)
  have sl := run_slist_nil 2 hp0
  have en := run_rend hp.next (rk k) [0] 1 0 ((hp.new (Rc (rk k) [0] 0 0)).put hp.next 0 (Rc (rk k) [0] 1 0)) (by decide) (by decide) (rd_put _ _ _)
  refine ⟨(hp.new (Rc (rk k) [0] 0 0)).put hp.next 0 (Rc (rk k) [0] 1 0), ?_⟩
  simp [skA, skZ, gz, LF, fl] at ck
  simp at rm mt wr en
  rw [E17]
  simp [skA, skZ, gz, LF, fl, getN, getSc, getC, putN, ck, rm, mt, wr, rt, sl, en, B17_24_eq]
theorem run_awake18 (hp : Hp) : ∃ hp', run cxX 10 [] hp = some (.sc (.bool true), hp') := by
  obtain ⟨h1, p0⟩ := run_put_zero hp0
  obtain ⟨h2, t0⟩ := run_take_zero (rk 1) hp
  have bo : bytesOfA (LI .u8 [0]) = some [0] := rfl
  refine ⟨h2, ?_⟩
  simp [skA, skZ, gz, LF, fl] at p0 t0
  rw [E10]
  simp [p0, t0, bo, putN, getC]
end Go.Proofs.YtchmioacjkbfcaaGreat.AI
