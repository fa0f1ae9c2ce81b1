/- What the functions of this seat do, one step from mark to mark: printed by a program of this claim, held by the kernel. -/
import Derived.Test.YtchmioacjkbfcaaGreatCx
import Derived.KernelRfl
namespace Go.Proofs.YtchmioacjkbfcaaGreat.AI
open Go
set_option linter.unusedVariables false
set_option maxRecDepth 100000
set_option maxHeartbeats 0
/-! ### function 20 -/
theorem E20 (a0 : AV) (hp : Hp) : run cxX 20 [a0] hp = (Option.bind (asSc a0) fun y0 => (Option.bind (bltV Go.Proofs.Tryz.prog Go.Builtin.max (Array.mk (3 :: (3 :: []))) 3 (y0 :: ((.int .i64 (Int.ofNat 0)) :: []))) fun y1 => (some (Prod.mk (AV.ptr (hp).1 0 0) (Hp.new hp ((ro1 (ro1 (AV.sc (.int .i64 (Int.ofNat 0))))) :: ((ro1 (ro1 (AV.sc y1))) :: []))))))) :=
  (entry_eq cxX 20 ss20 400 _ _).trans (by kernel_rfl)
/-! ### function 22 -/
theorem E22 (a0 : AV) (hp : Hp) : run cxX 22 [a0] hp = (Option.bind (nilP (ro a0)) fun y0 => (cond y0 (some (Prod.mk (AV.sc (.int .i64 (Int.ofNat 0))) hp)) (Option.bind (nnA (ro a0)) fun y1 => (Option.bind (getPtr (ro a0)) fun y2 => (Option.bind (Hp.rd hp (y2).1 ((y2).2).1) fun y3 => (Option.bind (getSc y3 ((y2).2).2) fun y4 => (some (Prod.mk (AV.sc y4) hp)))))))) :=
  (entry_eq cxX 22 ss22 400 _ _).trans (by kernel_rfl)
/-! ### function 41 -/
theorem E41 (a0 a1 : AV) (hp : Hp) : run cxX 41 [a0, a1] hp = (Option.bind (asSc a1) fun y0 => (Option.bind (nilP (ro a0)) fun y1 => (cond y1 (some (Prod.mk (AV.sc (.int .i64 (Int.ofNat 0))) hp)) (Option.bind (bltV Go.Proofs.Tryz.prog Go.Builtin.max (Array.mk (3 :: (3 :: []))) 3 (y0 :: ((.int .i64 (Int.ofNat 0)) :: []))) fun y2 => (Option.bind (nnA (ro a0)) fun y3 => (Option.bind (getPtr (ro a0)) fun y4 => (Option.bind (Hp.rd hp (y4).1 ((y4).2).1) fun y5 => (Option.bind (getSc y5 (Nat.succ ((y4).2).2)) fun y6 => (Option.bind (nnA (ro a0)) fun y7 => (Option.bind (getPtr (ro a0)) fun y8 => (Option.bind (Hp.rd hp (y8).1 ((y8).2).1) fun y9 => (Option.bind (getSc y9 ((y8).2).2) fun y10 => (Option.bind (binV Go.Proofs.Tryz.prog .sub 3 (Go.Operand.tmp 13) (Go.Operand.tmp 17) y6 y10) fun y11 => (Option.bind (binV Go.Proofs.Tryz.prog .gtr 3 (Go.Operand.tmp 9) (Go.Operand.tmp 18) y2 y11) fun y12 => (Option.bind (asB y12) fun y13 => (cond y13 (some (Prod.mk (AV.sc (.int .i64 (Int.ofNat 14))) hp)) (Option.bind (nnA (ro a0)) fun y14 => (Option.bind (getPtr (ro a0)) fun y15 => (Option.bind (Hp.rd hp (y15).1 ((y15).2).1) fun y16 => (Option.bind (getSc y16 ((y15).2).2) fun y17 => (Option.bind (binV Go.Proofs.Tryz.prog .add 3 (Go.Operand.tmp 23) (Go.Operand.tmp 24) y17 y2) fun y18 => (Option.bind (nnA (ro a0)) fun y19 => (Option.bind (getPtr (ro a0)) fun y20 => (Option.bind (Hp.rd hp (y20).1 ((y20).2).1) fun y21 => (Option.bind (putN y21 ((y20).2).2 ((AV.sc y18) :: [])) fun y22 => (some (Prod.mk (AV.sc (.int .i64 (Int.ofNat 0))) (Hp.put hp (y20).1 ((y20).2).1 y22)))))))))))))))))))))))))))) :=
  (entry_eq cxX 41 ss41 400 _ _).trans (by kernel_rfl)
end Go.Proofs.YtchmioacjkbfcaaGreat.AI
