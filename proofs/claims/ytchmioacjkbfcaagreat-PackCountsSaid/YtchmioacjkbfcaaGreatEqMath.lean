/- What the functions of this seat do, one step from mark to mark: printed by a program of this claim, held by the kernel. -/
import Derived.Test.YtchmioacjkbfcaaGreatCx
import Derived.KernelRfl
namespace Go.Proofs.YtchmioacjkbfcaaGreat.AI
open Go
set_option linter.unusedVariables false
set_option maxRecDepth 100000
set_option maxHeartbeats 0
/-! ### function 130 -/
noncomputable def B130_5 (v3 : Value) (hp : Hp) : Option (AV × Hp) := go cxX 130 [.code (sub [1, 1, 1, 0] cd130), .code (sub [1, 1, 1, 1] cd130)] ⟨[(3, .sv v3)], [], hp⟩
theorem E130 (a0 : AV) (hp : Hp) : run cxX 130 [a0] hp = (Option.bind (asSc a0) fun y0 => (Option.bind (binV Go.Proofs.Tryz.prog .geq 3 (Go.Operand.tmp 4) (Go.Operand.const (.int .i64 (Int.ofNat 0))) y0 (.int .i64 (Int.ofNat 0))) fun y1 => (Option.bind (asB y1) fun y2 => (cond y2 (B130_5 (.int .u64 (Int.ofNat 9218868437227405312)) hp) (B130_5 (.int .u64 (Int.ofNat 18442240474082181120)) hp))))) :=
  (entry_eq cxX 130 ss130 400 _ _).trans (by kernel_rfl)
theorem B130_5_eq (v3 : Value) (hp : Hp) : B130_5 v3 hp = (Option.bind (one (extX Go.Proofs.Tryz.prog 169 (v3 :: []))) fun y3 => (some (Prod.mk (AV.sc y3) hp))) :=
  (block_eq cxX 130 ss130 400 _ _).trans (by kernel_rfl)
/-! ### function 143 -/
theorem E143 (a0 : AV) (hp : Hp) : run cxX 143 [a0] hp = (Option.bind (asSc a0) fun y0 => (Option.bind (binV Go.Proofs.Tryz.prog .neq 50 (Go.Operand.tmp 3) (Go.Operand.tmp 4) y0 y0) fun y1 => (some (Prod.mk (AV.sc y1) hp)))) :=
  (entry_eq cxX 143 ss143 400 _ _).trans (by kernel_rfl)
/-! ### function 173 -/
theorem E173 (hp : Hp) : run cxX 173 [] hp = (Option.bind (one (extX Go.Proofs.Tryz.prog 169 ((.int .u64 (Int.ofNat 9221120237041090561)) :: []))) fun y0 => (some (Prod.mk (AV.sc y0) hp))) :=
  (entry_eq cxX 173 ss173 400 _ _).trans (by kernel_rfl)
/-! ### function 174 -/
theorem E174 (a0 a1 : AV) (hp : Hp) : run cxX 174 [a0, a1] hp = (Option.bind (asSc a0) fun y0 => (Option.bind (asSc a1) fun y1 => (Option.bind (one (extX Go.Proofs.Tryz.prog 142 (y0 :: []))) fun y2 => (Option.bind (binV Go.Proofs.Tryz.prog .andNot 76 (Go.Operand.tmp 6) (Go.Operand.const (.int .u64 (Int.ofNat 9223372036854775808))) y2 (.int .u64 (Int.ofNat 9223372036854775808))) fun y3 => (Option.bind (one (extX Go.Proofs.Tryz.prog 142 (y1 :: []))) fun y4 => (Option.bind (binV Go.Proofs.Tryz.prog .and 76 (Go.Operand.tmp 9) (Go.Operand.const (.int .u64 (Int.ofNat 9223372036854775808))) y4 (.int .u64 (Int.ofNat 9223372036854775808))) fun y5 => (Option.bind (binV Go.Proofs.Tryz.prog .or 76 (Go.Operand.tmp 7) (Go.Operand.tmp 10) y3 y5) fun y6 => (Option.bind (one (extX Go.Proofs.Tryz.prog 169 (y6 :: []))) fun y7 => (some (Prod.mk (AV.sc y7) hp)))))))))) :=
  (entry_eq cxX 174 ss174 400 _ _).trans (by kernel_rfl)
/-! ### function 181 -/
noncomputable def B181_5 (v0 : Value) (hp : Hp) : Option (AV × Hp) := go cxX 181 [.code (sub [1, 1, 0] cd181), .code (sub [1, 1, 1] cd181)] ⟨[(0, .sv v0)], [], hp⟩
theorem E181 (a0 a1 : AV) (hp : Hp) : run cxX 181 [a0, a1] hp = (Option.bind (asSc a0) fun y0 => (Option.bind (asSc a1) fun y1 => (Option.bind (binV Go.Proofs.Tryz.prog .eql 3 (Go.Operand.tmp 5) (Go.Operand.const (.int .i64 (Int.ofNat 0))) y1 (.int .i64 (Int.ofNat 0))) fun y2 => (Option.bind (asB y2) fun y3 => (cond y3 (Option.bind (okArgs ((AV.sc y0) :: []) []) fun y4 => (Option.bind (run cxX 183 ((ro (AV.sc y0)) :: []) hp0) fun y5 => (Option.bind (okRes (y5).1) fun y6 => (Option.bind (asSc (y5).1) fun y7 => (B181_5 y7 hp))))) (Option.bind (binV Go.Proofs.Tryz.prog .lss 3 (Go.Operand.tmp 9) (Go.Operand.const (.int .i64 (Int.ofNat 0))) y1 (.int .i64 (Int.ofNat 0))) fun y8 => (Option.bind (asB y8) fun y9 => (cond y9 (Option.bind (unV Go.Proofs.Tryz.prog .neg y0) fun y10 => (B181_5 y10 hp)) (B181_5 y0 hp))))))))) :=
  (entry_eq cxX 181 ss181 400 _ _).trans (by kernel_rfl)
theorem B181_5_eq (v0 : Value) (hp : Hp) : B181_5 v0 hp = (Option.bind (binV Go.Proofs.Tryz.prog .gtr 50 (Go.Operand.tmp 13) (Go.Operand.const (Value.float Go.FloatKind.f64 9218868437227405311)) v0 (Value.float Go.FloatKind.f64 9218868437227405311)) fun y11 => (some (Prod.mk (AV.sc y11) hp))) :=
  (block_eq cxX 181 ss181 400 _ _).trans (by kernel_rfl)
/-! ### function 182 -/
theorem E182 (a0 : AV) (hp : Hp) : run cxX 182 [a0] hp = (Option.bind (asSc a0) fun y0 => (Option.bind (one (extX Go.Proofs.Tryz.prog 142 (y0 :: []))) fun y1 => (Option.bind (cvV Go.Proofs.Tryz.prog 76 2 y1) fun y2 => (Option.bind (binV Go.Proofs.Tryz.prog .lss 2 (Go.Operand.tmp 5) (Go.Operand.const (.int .i64 (Int.ofNat 0))) y2 (.int .i64 (Int.ofNat 0))) fun y3 => (some (Prod.mk (AV.sc y3) hp)))))) :=
  (entry_eq cxX 182 ss182 400 _ _).trans (by kernel_rfl)
/-! ### function 183 -/
theorem E183 (a0 : AV) (hp : Hp) : run cxX 183 [a0] hp = (Option.bind (asSc a0) fun y0 => (Option.bind (one (extX Go.Proofs.Tryz.prog 142 (y0 :: []))) fun y1 => (Option.bind (binV Go.Proofs.Tryz.prog .andNot 76 (Go.Operand.tmp 4) (Go.Operand.const (.int .u64 (Int.ofNat 9223372036854775808))) y1 (.int .u64 (Int.ofNat 9223372036854775808))) fun y2 => (Option.bind (one (extX Go.Proofs.Tryz.prog 169 (y2 :: []))) fun y3 => (some (Prod.mk (AV.sc y3) hp)))))) :=
  (entry_eq cxX 183 ss183 400 _ _).trans (by kernel_rfl)
end Go.Proofs.YtchmioacjkbfcaaGreat.AI
