/- FuseBudget: the law's function returns true at every input: its run on the abstract machine does, and the machine is right about the program. -/
import Derived.Test.YtmajcennjgjlnaaGreatRows
import Derived.Test.YtmajcennjgjlnaaGreatQFuseBudget10
import Derived.WalkKit
import Derived.ProofKit
import Derived.OpenShut
import Derived.ShutString
import Derived.ChangeOld
import Derived.Below
import Derived.SizedLaws
import Derived.Carry
namespace Go.Proofs.YtmajcennjgjlnaaGreat.fuseBudget
open Go.ChangeShapes Go.WideShapes Go.ChangeAt Go.RowKit Go.Proofs.YtmajcennjgjlnaaGreat.AI
open Go.ChangeMaps (open_string shut_string)
set_option linter.unusedVariables false
set_option linter.unusedSimpArgs false
theorem own : ownKnob Tryz.prog.godebug = none := by kernel_rfl
theorem laidOut : laidOutB Tryz.prog = true := by kernel_rfl
set_option maxRecDepth 100000 in
theorem lifted (os : Os) (started : os.Started) (H : Type) (enc : TypeId × Value → H) :
    ReturnsInHanded {} Tryz.checked os 5 .any (Rows.fuseBudgetSpec.pre6 enc Tryz.prog Tryz.f5 Rows.fuseBudgetRow.domain false) (Rows.fuseBudgetSpec.post enc Tryz.prog Tryz.f5 false true false false) := by
  refine returnsInHanded_of_change_sized (C := Tryz.checked) own started (by kernel_rfl) Tryz.func5
    (ChangeSpec.witness6 (enc := enc) (C := Tryz.checked) false ⟨#[], #[.agg #[.int .u8 0, .int .u8 0, .int .u8 0, .int .u16 0, .bool false, .slice none 0 0, .slice none 0 0], .agg #[.int .u8 0, .int .u8 0, .int .u8 0, .int .u16 0, .bool false, .slice none 0 0, .slice none 0 0], .int .u32 0], []⟩ 8 (by kernel_rfl) (by kernel_rfl) (by kernel_rfl) (by kernel_rfl)) ?_
  intro W base args ds gs before hval0 hW hcnd hsz0 _
  have hval : ∀ (j : Nat) t v, Tryz.f5.params[j]? = some t → args[j]? = some v → Value.okWide Tryz.prog W .any base t v := hval0
  have hW' := hW
  obtain ⟨p, q, hA0, hV, rfl, hfz, hnd⟩ := hW
  have hA : DataW.TrodAll enc Tryz.prog W 0 (fun _ => true) true Tryz.f5.params.toList args.toList ds p := hA0
  rw [Tryz.params5] at hA hval
  obtain ⟨v0, vs0, d0, ds0, p0, q0, hargs, rfl, rfl, h0, r0⟩ := trodAll_cons hA
  obtain ⟨v1, vs1, d1, ds1, p1, q1, rfl, rfl, rfl, h1, r1⟩ := trodAll_cons r0
  obtain ⟨v2, vs2, d2, ds2, p2, q2, rfl, rfl, rfl, h2, r2⟩ := trodAll_cons r1
  obtain ⟨rfl, rfl, rfl⟩ := trodAll_nil r2
  obtain rfl : args = #[v0, v1, v2] := by cases args; simp_all
  obtain ⟨rfl, rfl⟩ := trodVars_none hV
  have tr0 := h0
  have lt0 : ∀ x ∈ p0, x.block < W.heap.size := by obtain ⟨m, hm⟩ := tr0; exact DataW.trod_lt m _ _ _ hm
  have tr1 := h1
  have lt1 : ∀ x ∈ p1, x.block < W.heap.size := by obtain ⟨m, hm⟩ := tr1; exact DataW.trod_lt m _ _ _ hm
  have tr2 := h2
  have lt2 : ∀ x ∈ p2, x.block < W.heap.size := by obtain ⟨m, hm⟩ := tr2; exact DataW.trod_lt m _ _ _ hm
  obtain ⟨cs0, rfl, sz0⟩ := okWide_struct Tryz.underlying26 (hval 0 26 v0 rfl rfl)
  obtain ⟨fu0, hf0⟩ := h0
  obtain ⟨xs0, m0, _, _, cl0, xl0, fs0⟩ := DataW.trod_struct Tryz.underlying26 hf0
  have f0_0 := fs0 0 _ rfl
  obtain ⟨y0_0, hy0_0⟩ : ∃ y, xs0[0]? = some y := ⟨_, List.getElem?_eq_getElem (by rw [xl0]; decide)⟩
  rw [hy0_0] at f0_0
  obtain ⟨n0_0, c0_0, w0_0⟩ := rd_int Tryz.underlying5 f0_0
  have f0_1 := fs0 1 _ rfl
  obtain ⟨y0_1, hy0_1⟩ : ∃ y, xs0[1]? = some y := ⟨_, List.getElem?_eq_getElem (by rw [xl0]; decide)⟩
  rw [hy0_1] at f0_1
  obtain ⟨n0_1, c0_1, w0_1⟩ := rd_int Tryz.underlying5 f0_1
  have f0_2 := fs0 2 _ rfl
  obtain ⟨y0_2, hy0_2⟩ : ∃ y, xs0[2]? = some y := ⟨_, List.getElem?_eq_getElem (by rw [xl0]; decide)⟩
  rw [hy0_2] at f0_2
  obtain ⟨n0_2, c0_2, w0_2⟩ := rd_int Tryz.underlying5 f0_2
  have f0_3 := fs0 3 _ rfl
  obtain ⟨y0_3, hy0_3⟩ : ∃ y, xs0[3]? = some y := ⟨_, List.getElem?_eq_getElem (by rw [xl0]; decide)⟩
  rw [hy0_3] at f0_3
  obtain ⟨n0_3, c0_3, w0_3⟩ := rd_int Tryz.underlying22 f0_3
  have f0_4 := fs0 4 _ rfl
  obtain ⟨y0_4, hy0_4⟩ : ∃ y, xs0[4]? = some y := ⟨_, List.getElem?_eq_getElem (by rw [xl0]; decide)⟩
  rw [hy0_4] at f0_4
  obtain ⟨n0_4, c0_4⟩ := rd_bool Tryz.underlying4 f0_4
  have f0_5 := fs0 5 _ rfl
  obtain ⟨y0_5, hy0_5⟩ : ∃ y, xs0[5]? = some y := ⟨_, List.getElem?_eq_getElem (by rw [xl0]; decide)⟩
  rw [hy0_5] at f0_5
  obtain ⟨k0_5, l0_5, s0_5, c0_5, a0_5, t0_5, w0_5⟩ := rd_ints Tryz.underlying23 Tryz.underlying62 (by kernel_rfl) f0_5
  have f0_6 := fs0 6 _ rfl
  obtain ⟨y0_6, hy0_6⟩ : ∃ y, xs0[6]? = some y := ⟨_, List.getElem?_eq_getElem (by rw [xl0]; decide)⟩
  rw [hy0_6] at f0_6
  obtain ⟨k0_6, l0_6, s0_6, c0_6, a0_6, w0_6⟩ := rd_pairs Tryz.underlying24 Tryz.underlying138 Tryz.underlying62 Tryz.underlying5 rfl rfl (by kernel_rfl) (by kernel_rfl) (by kernel_rfl) f0_6
  have hl0 : cs0.toList.length = 7 := by rw [show cs0.toList.length = _ from cl0]; kernel_rfl
  have qc0_0 := cell_at c0_0
  have qc0_1 := cell_at c0_1
  have qc0_2 := cell_at c0_2
  have qc0_3 := cell_at c0_3
  have qc0_4 := cell_at c0_4
  have qc0_5 := cell_at c0_5
  have qc0_6 := cell_at c0_6
  have ce0 : cs0 = [.int .u8 n0_0, .int .u8 n0_1, .int .u8 n0_2, .int .u16 n0_3, .bool n0_4, s0_5, s0_6].toArray := Array.toList_inj.mp (list_eq7 hl0 qc0_0 qc0_1 qc0_2 qc0_3 qc0_4 qc0_5 qc0_6)
  subst ce0
  obtain ⟨cs1, rfl, sz1⟩ := okWide_struct Tryz.underlying26 (hval 1 26 v1 rfl rfl)
  obtain ⟨fu1, hf1⟩ := h1
  obtain ⟨xs1, m1, _, _, cl1, xl1, fs1⟩ := DataW.trod_struct Tryz.underlying26 hf1
  have f1_0 := fs1 0 _ rfl
  obtain ⟨y1_0, hy1_0⟩ : ∃ y, xs1[0]? = some y := ⟨_, List.getElem?_eq_getElem (by rw [xl1]; decide)⟩
  rw [hy1_0] at f1_0
  obtain ⟨n1_0, c1_0, w1_0⟩ := rd_int Tryz.underlying5 f1_0
  have f1_1 := fs1 1 _ rfl
  obtain ⟨y1_1, hy1_1⟩ : ∃ y, xs1[1]? = some y := ⟨_, List.getElem?_eq_getElem (by rw [xl1]; decide)⟩
  rw [hy1_1] at f1_1
  obtain ⟨n1_1, c1_1, w1_1⟩ := rd_int Tryz.underlying5 f1_1
  have f1_2 := fs1 2 _ rfl
  obtain ⟨y1_2, hy1_2⟩ : ∃ y, xs1[2]? = some y := ⟨_, List.getElem?_eq_getElem (by rw [xl1]; decide)⟩
  rw [hy1_2] at f1_2
  obtain ⟨n1_2, c1_2, w1_2⟩ := rd_int Tryz.underlying5 f1_2
  have f1_3 := fs1 3 _ rfl
  obtain ⟨y1_3, hy1_3⟩ : ∃ y, xs1[3]? = some y := ⟨_, List.getElem?_eq_getElem (by rw [xl1]; decide)⟩
  rw [hy1_3] at f1_3
  obtain ⟨n1_3, c1_3, w1_3⟩ := rd_int Tryz.underlying22 f1_3
  have f1_4 := fs1 4 _ rfl
  obtain ⟨y1_4, hy1_4⟩ : ∃ y, xs1[4]? = some y := ⟨_, List.getElem?_eq_getElem (by rw [xl1]; decide)⟩
  rw [hy1_4] at f1_4
  obtain ⟨n1_4, c1_4⟩ := rd_bool Tryz.underlying4 f1_4
  have f1_5 := fs1 5 _ rfl
  obtain ⟨y1_5, hy1_5⟩ : ∃ y, xs1[5]? = some y := ⟨_, List.getElem?_eq_getElem (by rw [xl1]; decide)⟩
  rw [hy1_5] at f1_5
  obtain ⟨k1_5, l1_5, s1_5, c1_5, a1_5, t1_5, w1_5⟩ := rd_ints Tryz.underlying23 Tryz.underlying62 (by kernel_rfl) f1_5
  have f1_6 := fs1 6 _ rfl
  obtain ⟨y1_6, hy1_6⟩ : ∃ y, xs1[6]? = some y := ⟨_, List.getElem?_eq_getElem (by rw [xl1]; decide)⟩
  rw [hy1_6] at f1_6
  obtain ⟨k1_6, l1_6, s1_6, c1_6, a1_6, w1_6⟩ := rd_pairs Tryz.underlying24 Tryz.underlying138 Tryz.underlying62 Tryz.underlying5 rfl rfl (by kernel_rfl) (by kernel_rfl) (by kernel_rfl) f1_6
  have hl1 : cs1.toList.length = 7 := by rw [show cs1.toList.length = _ from cl1]; kernel_rfl
  have qc1_0 := cell_at c1_0
  have qc1_1 := cell_at c1_1
  have qc1_2 := cell_at c1_2
  have qc1_3 := cell_at c1_3
  have qc1_4 := cell_at c1_4
  have qc1_5 := cell_at c1_5
  have qc1_6 := cell_at c1_6
  have ce1 : cs1 = [.int .u8 n1_0, .int .u8 n1_1, .int .u8 n1_2, .int .u16 n1_3, .bool n1_4, s1_5, s1_6].toArray := Array.toList_inj.mp (list_eq7 hl1 qc1_0 qc1_1 qc1_2 qc1_3 qc1_4 qc1_5 qc1_6)
  subst ce1
  obtain ⟨n2, rfl, rfl, rfl, w2⟩ := open_int Tryz.underlying40 (hval 2 40 v2 rfl rfl) h2
  obtain ⟨hp', hrun⟩ := law_FuseBudget n0_0 w0_0 n0_1 w0_1 n0_2 w0_2 n0_3 w0_3 n0_4 k0_5 l0_5 w0_5 k0_6 l0_6 w0_6 n1_0 w1_0 n1_1 w1_1 n1_2 w1_2 n1_3 w1_3 n1_4 k1_5 l1_5 w1_5 k1_6 l1_6 w1_6 n2 w2 hp0
  clear hA0 hval0 hsz0
  refine (law_args okX (ArgsR.cons (arg_agg rfl (cells_cons (.sc _ rfl) (cells_cons (.sc _ rfl) (cells_cons (.sc _ rfl) (cells_cons (.sc _ rfl) (cells_cons (.sc _ rfl) (cells_cons a0_5 (cells_cons a0_6 cells_nil)))))))) (ArgsR.cons (arg_agg rfl (cells_cons (.sc _ rfl) (cells_cons (.sc _ rfl) (cells_cons (.sc _ rfl) (cells_cons (.sc _ rfl) (cells_cons (.sc _ rfl) (cells_cons a1_5 (cells_cons a1_6 cells_nil)))))))) (ArgsR.cons (arg_sc W _ rfl) (ArgsR.nil W)))) hrun).mono fun e W' ⟨he, bel⟩ => ?_
  subst he
  exact ⟨_, rfl, _, _, _, [], _, [], hW', trodAll_mk1 (shut_bool Tryz.underlying4 _), (trodAll_cons_mk (Below.trod laidOut (by kernel_rfl) (of_decide_eq_true (by kernel_rfl)) tr0 bel lt0) (trodAll_cons_mk (Below.trod laidOut (by kernel_rfl) (of_decide_eq_true (by kernel_rfl)) tr1 bel lt1) (trodAll_cons_mk (Below.trod laidOut (by kernel_rfl) (of_decide_eq_true (by kernel_rfl)) tr2 bel lt2) trodAll_mk0))), rfl, bel.frame _, fun h => by cases h⟩
theorem over : Rows.fuseBudgetRow.holds Tryz.pinned (OpenSpec.ofChange Rows.fuseBudgetSpec) :=
  OpenClaim.holds_of_wide 5 Tryz.f5 rfl rfl rfl rfl rfl rfl rfl ⟨rfl, rfl, rfl, rfl, rfl⟩ rfl rfl rfl rfl rfl (by kernel_rfl) Tryz.func5 (by kernel_rfl)
    (of_decide_eq_true (by kernel_rfl)) (by unfold Func.isWrapper; first | (rw [if_pos (by decide +kernel)]; kernel_rfl) | (rw [if_neg (by decide +kernel)]; exact ⟨rfl, rfl⟩))
    (fun os started H enc _ => lifted os started H enc)
theorem proved : Rows.FuseBudgetSaid := over
#print axioms proved
end Go.Proofs.YtmajcennjgjlnaaGreat.fuseBudget
namespace Go.Proofs.YtmajcennjgjlnaaGreat
/-- The row, under a short name, for the claim. -/
theorem fuseBudget_holds : Rows.FuseBudgetSaid := fuseBudget.proved
end Go.Proofs.YtmajcennjgjlnaaGreat
