/- What the functions of this seat do, one step from mark to mark: printed by a program of this claim, held by the kernel. -/
import Derived.Test.YtchmioacjkbfcaaGreatCx
import Derived.KernelRfl
namespace Go.Proofs.YtchmioacjkbfcaaGreat.AI
open Go
set_option linter.unusedVariables false
set_option maxRecDepth 100000
set_option maxHeartbeats 0
/-! ### function 26 -/
noncomputable def B26_3 (v1 : Value) (x6 : AV) (x9 : AV) (v10 : Value) (v11 : Value) (hp : Hp) : Option (AV × Hp) := go cxX 26 [.code (sub [1, 1, 0, 1, 0, 0, 0] cd26), .code (sub [1, 1, 0, 1, 0, 0, 1] cd26), .inLoop (sub [1, 1, 0, 1, 0, 0] cd26), .inBlock 0, .code (sub [1, 1, 1] cd26)] ⟨[(1, .sv v1), (6, .av x6), (9, .av x9), (10, .sv v10), (11, .sv v11)], [], hp⟩
noncomputable def B26_7 (v1 : Value) (x6 : AV) (v8 : Value) (x9 : AV) (v10 : Value) (v11 : Value) (hp : Hp) : Option (AV × Hp) := go cxX 26 [.code (sub [1, 1, 0, 1, 0, 0, 1, 1, 0, 0, 1, 1] cd26), .inBlock 1, .code (sub [1, 1, 0, 1, 0, 0, 1, 1, 1] cd26), .inLoop (sub [1, 1, 0, 1, 0, 0] cd26), .inBlock 0, .code (sub [1, 1, 1] cd26)] ⟨[(1, .sv v1), (6, .av x6), (8, .sv v8), (9, .av x9), (10, .sv v10), (11, .sv v11)], [], hp⟩
theorem E26 (a0 a1 : AV) (hp : Hp) : run cxX 26 [a0, a1] hp = (Option.bind (asSc a1) fun y0 => (Option.bind (lenA (ro a0)) fun y1 => (B26_3 y0 (AV.sc (Value.slice Option.none 0 0)) (ro a0) (.int .i64 (Int.ofNat y1)) (.int .i64 (Int.ofNat 0)) hp))) :=
  (entry_eq cxX 26 ss26 400 _ _).trans (by kernel_rfl)
theorem B26_3_eq (v1 : Value) (x6 : AV) (x9 : AV) (v10 : Value) (v11 : Value) (hp : Hp) : B26_3 v1 x6 x9 v10 v11 hp = (Option.bind (binV Go.Proofs.Tryz.prog .lss 3 (Go.Operand.tmp 11) (Go.Operand.tmp 10) v11 v10) fun y2 => (Option.bind (asB y2) fun y3 => (cond y3 (Option.bind (idxA 1 x9 v11) fun y4 => (Option.bind (getSc y4 0) fun y5 => (Option.bind (asB v1) fun y6 => (cond y6 (Option.bind (binV Go.Proofs.Tryz.prog .rem 30 (Go.Operand.tmp 16) (Go.Operand.const (.int .u32 (Int.ofNat 50))) y5 (.int .u32 (Int.ofNat 50))) fun y7 => (B26_7 v1 x6 y7 x9 v10 v11 hp)) (B26_7 v1 x6 y5 x9 v10 v11 hp))))) (Option.bind (okArgs ((ro x6) :: []) []) fun y8 => (Option.bind (run cxX 73 ((ro (ro x6)) :: []) hp0) fun y9 => (Option.bind (okRes (y9).1) fun y10 => (Option.bind (chkTup 2 (y9).1) fun y11 => (Option.bind (asSc (nthA (y9).1 1)) fun y12 => (some (Prod.mk (AV.tup ((nthA (y9).1 0) :: ((AV.sc y12) :: []))) hp)))))))))) :=
  (block_eq cxX 26 ss26 400 _ _).trans (by kernel_rfl)
theorem B26_7_eq (v1 : Value) (x6 : AV) (v8 : Value) (x9 : AV) (v10 : Value) (v11 : Value) (hp : Hp) : B26_7 v1 x6 v8 x9 v10 v11 hp = (Option.bind (okV ((AV.sc v8) :: [])) fun y13 => (Option.bind (appA 4 1 x6 (AV.us 1 ((ro1 (AV.sc v8)) :: []))) fun y14 => (Option.bind (binV Go.Proofs.Tryz.prog .add 3 (Go.Operand.tmp 11) (Go.Operand.const (.int .i64 (Int.ofNat 1))) v11 (.int .i64 (Int.ofNat 1))) fun y15 => (B26_3 v1 y14 x9 v10 y15 hp)))) :=
  (block_eq cxX 26 ss26 400 _ _).trans (by kernel_rfl)
end Go.Proofs.YtchmioacjkbfcaaGreat.AI
