/- BloomChecks: the law's function returns true at every input: its run on the abstract machine does, and the machine is right about the program. -/
import Derived.Test.YtmnefpfbgadnkaaRows
import Derived.Test.YtmnefpfbgadnkaaBloomG
import Derived.WalkKit
import Derived.ProofKit
import Derived.OpenShut
import Derived.ShutString
import Derived.ChangeOld
import Derived.Below
import Derived.SizedLaws
import Derived.Carry
namespace Go.Proofs.Ytmnefpfbgadnkaa.bloomChecks
open Go.ChangeShapes Go.WideShapes Go.ChangeAt Go.RowKit Go.Proofs.Ytmnefpfbgadnkaa.AI
open Go.ChangeMaps (open_string shut_string)
set_option linter.unusedVariables false
set_option linter.unusedSimpArgs false
theorem own : ownKnob Try.prog.godebug = none := by kernel_rfl
theorem laidOut : laidOutB Try.prog = true := by kernel_rfl
set_option maxRecDepth 100000 in
theorem lifted (os : Os) (started : os.Started) (H : Type) (enc : TypeId × Value → H) :
    ReturnsInHanded {} Try.checked os 3 .any (Rows.bloomChecksSpec.pre6 enc Try.prog Try.f3 Rows.bloomChecksRow.domain false) (Rows.bloomChecksSpec.post enc Try.prog Try.f3 false true false false) := by
  refine returnsInHanded_of_change_sized (C := Try.checked) own started (by kernel_rfl) Try.func3
    (ChangeSpec.witness6 (enc := enc) (C := Try.checked) false ⟨#[], #[.agg #[.int .i64 0, .int .i64 0, .slice none 0 0], .int .u16 0, .int .u8 0, .slice none 0 0, .int .u64 0], []⟩ 8 (by kernel_rfl) (by kernel_rfl) (by kernel_rfl) (by kernel_rfl)) ?_
  intro W base args ds gs before hval0 hW hcnd hsz0 _
  have hval : ∀ (j : Nat) t v, Try.f3.params[j]? = some t → args[j]? = some v → Value.okWide Try.prog W .any base t v := hval0
  have hW' := hW
  obtain ⟨p, q, hA0, hV, rfl, hfz, hnd⟩ := hW
  have hA : DataW.TrodAll enc Try.prog W 0 (fun _ => true) true Try.f3.params.toList args.toList ds p := hA0
  rw [Try.params3] at hA hval
  obtain ⟨v0, vs0, d0, ds0, p0, q0, hargs, rfl, rfl, h0, r0⟩ := trodAll_cons hA
  obtain ⟨v1, vs1, d1, ds1, p1, q1, rfl, rfl, rfl, h1, r1⟩ := trodAll_cons r0
  obtain ⟨v2, vs2, d2, ds2, p2, q2, rfl, rfl, rfl, h2, r2⟩ := trodAll_cons r1
  obtain ⟨v3, vs3, d3, ds3, p3, q3, rfl, rfl, rfl, h3, r3⟩ := trodAll_cons r2
  obtain ⟨v4, vs4, d4, ds4, p4, q4, rfl, rfl, rfl, h4, r4⟩ := trodAll_cons r3
  obtain ⟨rfl, rfl, rfl⟩ := trodAll_nil r4
  obtain rfl : args = #[v0, v1, v2, v3, v4] := by cases args; simp_all
  obtain ⟨rfl, rfl⟩ := trodVars_none hV
  have tr0 := h0
  have lt0 : ∀ x ∈ p0, x.block < W.heap.size := by obtain ⟨m, hm⟩ := tr0; exact DataW.trod_lt m _ _ _ hm
  have tr1 := h1
  have lt1 : ∀ x ∈ p1, x.block < W.heap.size := by obtain ⟨m, hm⟩ := tr1; exact DataW.trod_lt m _ _ _ hm
  have tr2 := h2
  have lt2 : ∀ x ∈ p2, x.block < W.heap.size := by obtain ⟨m, hm⟩ := tr2; exact DataW.trod_lt m _ _ _ hm
  have tr3 := h3
  have lt3 : ∀ x ∈ p3, x.block < W.heap.size := by obtain ⟨m, hm⟩ := tr3; exact DataW.trod_lt m _ _ _ hm
  have tr4 := h4
  have lt4 : ∀ x ∈ p4, x.block < W.heap.size := by obtain ⟨m, hm⟩ := tr4; exact DataW.trod_lt m _ _ _ hm
  obtain ⟨cs0, rfl, sz0⟩ := okWide_struct Try.underlying24 (hval 0 24 v0 rfl rfl)
  obtain ⟨fu0, hf0⟩ := h0
  obtain ⟨xs0, m0, _, _, cl0, xl0, fs0⟩ := DataW.trod_struct Try.underlying24 hf0
  have f0_0 := fs0 0 _ rfl
  obtain ⟨y0_0, hy0_0⟩ : ∃ y, xs0[0]? = some y := ⟨_, List.getElem?_eq_getElem (by rw [xl0]; decide)⟩
  rw [hy0_0] at f0_0
  obtain ⟨n0_0, c0_0, w0_0⟩ := rd_int Try.underlying3 f0_0
  have f0_1 := fs0 1 _ rfl
  obtain ⟨y0_1, hy0_1⟩ : ∃ y, xs0[1]? = some y := ⟨_, List.getElem?_eq_getElem (by rw [xl0]; decide)⟩
  rw [hy0_1] at f0_1
  obtain ⟨n0_1, c0_1, w0_1⟩ := rd_int Try.underlying3 f0_1
  have f0_2 := fs0 2 _ rfl
  obtain ⟨y0_2, hy0_2⟩ : ∃ y, xs0[2]? = some y := ⟨_, List.getElem?_eq_getElem (by rw [xl0]; decide)⟩
  rw [hy0_2] at f0_2
  obtain ⟨k0_2, l0_2, s0_2, c0_2, a0_2, t0_2, w0_2⟩ := rd_ints Try.underlying22 Try.underlying29 (by kernel_rfl) f0_2
  have hl0 : cs0.toList.length = 3 := by rw [show cs0.toList.length = _ from cl0]; kernel_rfl
  have qc0_0 := cell_at c0_0
  have qc0_1 := cell_at c0_1
  have qc0_2 := cell_at c0_2
  have ce0 : cs0 = [.int .i64 n0_0, .int .i64 n0_1, s0_2].toArray := Array.toList_inj.mp (list_eq3 hl0 qc0_0 qc0_1 qc0_2)
  subst ce0
  obtain ⟨n1, rfl, rfl, rfl, w1⟩ := open_int Try.underlying25 (hval 1 25 v1 rfl rfl) h1
  obtain ⟨n2, rfl, rfl, rfl, w2⟩ := open_int Try.underlying5 (hval 2 5 v2 rfl rfl) h2
  obtain ⟨a3, len3, cap3, rfl⟩ := okWide_slice Try.underlying26 (hval 3 26 v3 rfl rfl)
  obtain ⟨fu3, hf3⟩ := h3
  obtain ⟨k3, l3, s3, c3, a3, t3, w3⟩ := rd_ints Try.underlying26 Try.underlying25 (by kernel_rfl) hf3
  simp only [Value.cells, List.cons.injEq, and_true] at c3
  subst c3
  obtain ⟨n4, rfl, rfl, rfl, w4⟩ := open_int Try.underlying27 (hval 4 27 v4 rfl rfl) h4
  obtain ⟨hp', hrun⟩ := law_BloomChecks n0_0 w0_0 n0_1 w0_1 k0_2 l0_2 w0_2 n1 w1 n2 w2 k3 l3 w3 n4 w4 hp0
  clear hA0 hval0 hsz0
  refine (law_args okX (ArgsR.cons (arg_agg rfl (cells_cons (.sc _ rfl) (cells_cons (.sc _ rfl) (cells_cons a0_2 cells_nil)))) (ArgsR.cons (arg_sc W _ rfl) (ArgsR.cons (arg_sc W _ rfl) (ArgsR.cons (arg_R a3) (ArgsR.cons (arg_sc W _ rfl) (ArgsR.nil W)))))) hrun).mono fun e W' ⟨he, bel⟩ => ?_
  subst he
  exact ⟨_, rfl, _, _, _, [], _, [], hW', trodAll_mk1 (shut_bool Try.underlying4 _), (trodAll_cons_mk (Below.trod laidOut (by kernel_rfl) (of_decide_eq_true (by kernel_rfl)) tr0 bel lt0) (trodAll_cons_mk (Below.trod laidOut (by kernel_rfl) (of_decide_eq_true (by kernel_rfl)) tr1 bel lt1) (trodAll_cons_mk (Below.trod laidOut (by kernel_rfl) (of_decide_eq_true (by kernel_rfl)) tr2 bel lt2) (trodAll_cons_mk (Below.trod laidOut (by kernel_rfl) (of_decide_eq_true (by kernel_rfl)) tr3 bel lt3) (trodAll_cons_mk (Below.trod laidOut (by kernel_rfl) (of_decide_eq_true (by kernel_rfl)) tr4 bel lt4) trodAll_mk0))))), rfl, bel.frame _, fun h => by cases h⟩
theorem over : Rows.bloomChecksRow.holds Try.pinned (OpenSpec.ofChange Rows.bloomChecksSpec) :=
  OpenClaim.holds_of_wide 3 Try.f3 rfl rfl rfl rfl rfl rfl rfl ⟨rfl, rfl, rfl, rfl, rfl⟩ rfl rfl rfl rfl rfl (by kernel_rfl) Try.func3 (by kernel_rfl)
    (of_decide_eq_true (by kernel_rfl)) (by unfold Func.isWrapper; first | (rw [if_pos (by decide +kernel)]; kernel_rfl) | (rw [if_neg (by decide +kernel)]; exact ⟨rfl, rfl⟩))
    (fun os started H enc _ => lifted os started H enc)
theorem proved : Rows.BloomChecksSaid := over
#print axioms proved
end Go.Proofs.Ytmnefpfbgadnkaa.bloomChecks
namespace Go.Proofs.Ytmnefpfbgadnkaa
/-- The row, under a short name, for the claim. -/
theorem bloomChecks_holds : Rows.BloomChecksSaid := bloomChecks.proved
end Go.Proofs.Ytmnefpfbgadnkaa
