/- What the functions of this seat do, one step from mark to mark: printed by a program of this claim, held by the kernel. -/
import Derived.Test.YtalnoedhacobkaaCx
import Derived.KernelRfl
namespace Go.Proofs.Ytalnoedhacobkaa.AI
open Go
set_option linter.unusedVariables false
set_option maxRecDepth 100000
set_option maxHeartbeats 0
/-! ### function 64 -/
noncomputable def B64_4 (x0 : AV) (v3 : Value) (hp : Hp) : Option (AV × Hp) := go cxX 64 [.code (sub [1, 1, 0, 1, 0, 0, 0, 0] cd64), .code (sub [1, 1, 0, 1, 0, 0, 0, 1] cd64), .code (sub [1, 1, 0, 1, 0, 0, 1] cd64), .inLoop (sub [1, 1, 0, 1, 0, 0] cd64), .inBlock 0, .code (sub [1, 1, 1] cd64)] ⟨[(0, .av x0), (3, .sv v3)], [], hp⟩
theorem E64 (a0 : AV) (hp : Hp) : run cxX 64 [a0] hp = (Option.bind (lenA (ro a0)) fun y0 => (Option.bind (binV Go.Proofs.Try.prog .gtr 3 (Go.Operand.tmp 5) (Go.Operand.const (.int .i64 (Int.ofNat 4096))) (.int .i64 (Int.ofNat y0)) (.int .i64 (Int.ofNat 4096))) fun y1 => (Option.bind (asB y1) fun y2 => (cond y2 (some (Prod.mk (AV.sc (.int .i64 (Int.ofNat 7))) hp)) (B64_4 a0 (.int .i64 (Int.ofNat 1)) hp))))) :=
  (entry_eq cxX 64 ss64 400 _ _).trans (by kernel_rfl)
theorem B64_4_eq (x0 : AV) (v3 : Value) (hp : Hp) : B64_4 x0 v3 hp = (Option.bind (lenA (ro x0)) fun y3 => (Option.bind (binV Go.Proofs.Try.prog .lss 3 (Go.Operand.tmp 7) (Go.Operand.tmp 9) v3 (.int .i64 (Int.ofNat y3))) fun y4 => (Option.bind (asB y4) fun y5 => (cond y5 (Option.bind (idxA 1 (ro x0) v3) fun y6 => (Option.bind (getSc y6 0) fun y7 => (Option.bind (binV Go.Proofs.Try.prog .sub 3 (Go.Operand.tmp 18) (Go.Operand.const (.int .i64 (Int.ofNat 1))) v3 (.int .i64 (Int.ofNat 1))) fun y8 => (Option.bind (idxA 1 (ro x0) y8) fun y9 => (Option.bind (getSc y9 0) fun y10 => (Option.bind (binV Go.Proofs.Try.prog .leq 24 (Go.Operand.tmp 16) (Go.Operand.tmp 21) y7 y10) fun y11 => (Option.bind (asB y11) fun y12 => (cond y12 (some (Prod.mk (AV.sc (.int .i64 (Int.ofNat 8))) hp)) (Option.bind (binV Go.Proofs.Try.prog .add 3 (Go.Operand.tmp 11) (Go.Operand.const (.int .i64 (Int.ofNat 1))) v3 (.int .i64 (Int.ofNat 1))) fun y13 => (B64_4 x0 y13 hp)))))))))) (some (Prod.mk (AV.sc (.int .i64 (Int.ofNat 0))) hp)))))) :=
  (block_eq cxX 64 ss64 400 _ _).trans (by kernel_rfl)
end Go.Proofs.Ytalnoedhacobkaa.AI
