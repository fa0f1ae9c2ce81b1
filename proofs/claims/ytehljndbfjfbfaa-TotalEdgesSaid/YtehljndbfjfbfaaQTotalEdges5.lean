/- Texts that the proof of TotalEdges rests on, part 5. -/
import Derived.Test.YtehljndbfjfbfaaQTotalEdges3
import Derived.KernelRfl
namespace Go.Proofs.Ytehljndbfjfbfaa.AI
open Go
set_option linter.unusedVariables false
set_option linter.unusedSimpArgs false
set_option maxRecDepth 100000
set_option maxHeartbeats 0
noncomputable section
variable (a0 a1:AV)(v0 v3:Value)(hp:Hp)
theorem E3:run cxX 3 [a0,a1] hp=aS a0 fun y0=>aS a1 fun y1=>(jZ [] []).bind fun y2=>(run cxX 4 [] hp0).bind fun y3=>(xJ y3.1).bind fun y4=>aS y3.1 fun y5=>iN y5 (rQ (.sc (.bool false)) hp) (pS 5 [y0,y1] fun y11=>(VP [kB 2,kB 0,kB 4,kB 5,kB 0,kB 3,kB 1]).bind fun y12=>pS 6 [y11] fun y16=>ixS (AV.us 1 [kB 2,kB 0,kB 4,kB 5,kB 0,kB 3,kB 1]) y16 fun y18=>pS 7 [y11] fun y22=>pS 8 [y11] fun y26=>iT .neq 26 21 22 y26 y18 (rQ (.sc (.bool false)) hp) (iT .neq 24 25 26 y11 y11 (bC .eql 2 28 y22 (kI 0) fun y31=>rQ y31 hp) (iC .geq 24 31 y11 (Value.float Go.FloatKind.f64 4845873199050653696) (bC .eql 2 33 y22 (kI 9007199254740992) fun y34=>rQ y34 hp) (iC .leq 24 36 y11 (Value.float Go.FloatKind.f64 14069245235905429504) (bC .eql 2 38 y22 (.int .i64 (.negSucc 9007199254740991)) fun y37=>rQ y37 hp) (cV 2 24 y22 fun y38=>iT .leq 24 41 42 y38 y11 (cV 2 24 y22 fun y41=>bC .add 24 47 y41 (Value.float Go.FloatKind.f64 4607182418800017408) fun y42=>bT .lss 24 45 48 y11 y42 fun y43=>rQ y43 hp) (rQ (.sc (.bool false)) hp)))))):=eE qd
theorem E7:run cxX 7 [a0] hp=aS a0 fun y0=>iT .neq 24 4 5 y0 y0 (rQ (kI 0) hp) (iC .geq 24 8 y0 (Value.float Go.FloatKind.f64 4845873199050653696) (rQ (kI 9007199254740992) hp) (iC .leq 24 11 y0 (Value.float Go.FloatKind.f64 14069245235905429504) (rQ (.sc (.int .i64 (.negSucc 9007199254740991))) hp) (pS 15 [y0] fun y10=>cV 24 2 y10 fun y11=>rQ y11 hp))):=eE qd
def B8_8:=gb 8 8 [] hp
def B8_9:=gb 8 9 [v0] hp
theorem E8:run cxX 8 [a0] hp=aS a0 fun y0=>iT .neq 24 4 5 y0 y0 (rQ (kB 1) hp) (pS 16 [y0,.sc (.int .i64 (.negSucc 0))] fun y6=>iB y6 (rQ (kB 2) hp) (pS 16 [y0,kI 1] fun y11=>iB y11 (rQ (kB 3) hp) (iC .eql 24 14 y0 (Value.float Go.FloatKind.f64 0) (pS 17 [y0] fun y18=>iB y18 (B8_8 hp) (B8_9 y0 hp)) (B8_9 y0 hp)))):=eE qd
theorem Vj:B8_8 hp=rQ (kB 4) hp:=eB qd
theorem Vi:B8_9 v0 hp=iC .eql 24 21 v0 (Value.float Go.FloatKind.f64 0) (rQ (kB 5) hp) (rQ (kB 0) hp):=eB qd
def B9_7:=gb 9 7 [v3] hp
theorem E9:run cxX 9 [a0] hp=aS a0 fun y0=>(one (yu Try.prog 18 [y0])).bind fun y1=>pS 19 [y0] fun y5=>iB y5 (B9_7 (kU 18444492273895866369) hp) (bC .and 22 12 y1 (kU 9223372036854775808) fun y7=>iC .neq 22 13 y7 (kU 0) ((Kn Try.prog .xor y1).bind fun y10=>B9_7 y10 hp) (bC .or 22 6 y1 (kU 9223372036854775808) fun y11=>B9_7 y11 hp)):=eE qd
theorem wX:B9_7 v3 hp=rQ v3 hp:=eB qd
theorem E10:run cxX 10 [a0,a1] hp=aS a0 fun y0=>aS a1 fun y1=>pS 9 [y0] fun y5=>pS 9 [y1] fun y9=>bT .lss 22 6 8 y5 y9 fun y10=>rQ y10 hp:=eE qd
theorem E11:run cxX 11 [a0,a1] hp=aS a0 fun y0=>aS a1 fun y1=>(one (yu Try.prog 18 [y0])).bind fun y2=>bC .andNot 22 6 y2 (kU 9223372036854775808) fun y3=>(one (yu Try.prog 18 [y1])).bind fun y4=>bC .and 22 9 y4 (kU 9223372036854775808) fun y5=>bT .or 22 7 10 y3 y5 fun y6=>(one (yu Try.prog 14 [y6])).bind fun y7=>rQ y7 hp:=eE qd
theorem E12:run cxX 12 [] hp=(one (yu Try.prog 14 [kU 9221120237041090561])).bind fun y0=>rQ y0 hp:=eE qd
def B13_5:=gb 13 5 [v3] hp
theorem E13:run cxX 13 [a0] hp=aS a0 fun y0=>iC .geq 3 4 y0 (kI 0) (B13_5 (kU 9218868437227405312) hp) (B13_5 (kU 18442240474082181120) hp):=eE qd
theorem Kf:B13_5 v3 hp=(one (yu Try.prog 14 [v3])).bind fun y3=>rQ y3 hp:=eB qd
theorem E15:run cxX 15 [a0] hp=aS a0 fun y0=>(one (yu Try.prog 20 [y0])).bind fun y1=>rQ y1 hp:=eE qd
def B16_5:=gb 16 5 [v0] hp
theorem E16:run cxX 16 [a0,a1] hp=aS a0 fun y0=>aS a1 fun y1=>iC .eql 3 5 y1 (kI 0) (pS 22 [y0] fun y7=>B16_5 y7 hp) (iC .lss 3 9 y1 (kI 0) ((Kn Try.prog .neg y0).bind fun y10=>B16_5 y10 hp) (B16_5 y0 hp)):=eE qd
theorem Zm:B16_5 v0 hp=bC .gtr 24 13 v0 (Value.float Go.FloatKind.f64 9218868437227405311) fun y11=>rQ y11 hp:=eB qd
theorem E17:run cxX 17 [a0] hp=aS a0 fun y0=>(one (yu Try.prog 18 [y0])).bind fun y1=>cV 22 2 y1 fun y2=>bC .lss 2 5 y2 (kI 0) fun y3=>rQ y3 hp:=eE qd
theorem E19:run cxX 19 [a0] hp=aS a0 fun y0=>bT .neq 24 3 4 y0 y0 fun y1=>rQ y1 hp:=eE qd
theorem E6:run cxX 6 [a0] hp=aS a0 fun y0=>iT .neq 24 3 4 y0 y0 (rQ (kI 6) hp) (iC .gtr 24 6 y0 (Value.float Go.FloatKind.f64 9218868437227405311) (rQ (kI 5) hp) (iC .lss 24 8 y0 (Value.float Go.FloatKind.f64 18442240474082181119) (rQ (kI 0) hp) (iC .eql 24 10 y0 (Value.float Go.FloatKind.f64 0) (bG .quo 24 (.const (Value.float Go.FloatKind.f64 4607182418800017408)) (.tmp 12) (Value.float Go.FloatKind.f64 4607182418800017408) y0 fun y9=>iC .lss 24 13 y9 (Value.float Go.FloatKind.f64 0) (rQ (kI 2) hp) (rQ (kI 3) hp)) (iC .gtr 24 15 y0 (Value.float Go.FloatKind.f64 0) (rQ (kI 4) hp) (rQ (kI 1) hp))))):=eE qd
theorem E4:run cxX 4 [] hp=pS 9 [Value.float Go.FloatKind.f64 0] fun y3=>iC .eql 22 1 y3 (kU 9223372036854775808) (pS 11 [Value.float Go.FloatKind.f64 0,Value.float Go.FloatKind.f64 13830554455654793216] fun y9=>pS 10 [y9,Value.float Go.FloatKind.f64 0] fun y13=>rQ y13 hp) (rQ (.sc (.bool false)) hp):=eE qd
def B5_10:=gb 5 10 [v0] hp
def B5_11:=gb 5 11 [v0] hp
theorem E5:run cxX 5 [a0,a1] hp=aS a0 fun y0=>aS a1 fun y1=>bC .rem 5 5 y1 (kB 8) fun y2=>iC .eql 5 6 y2 (kB 0) ((jZ [] []).bind fun y5=>(run cxX 12 [] hp0).bind fun y6=>(xJ y6.1).bind fun y7=>aS y6.1 fun y8=>rQ y8 hp) (iC .eql 5 6 y2 (kB 1) (bC .rem 22 12 y0 (kU 2) fun y11=>cV 22 3 y11 fun y12=>bC .mul 3 14 y12 (kI 2) fun y13=>bC .sub 3 15 y13 (kI 1) fun y14=>pS 13 [y14] fun y18=>rQ y18 hp) (iC .eql 5 6 y2 (kB 2) (bC .rem 22 20 y0 (kU 2) fun y21=>cV 22 24 y21 fun y22=>bC .sub 24 22 y22 (Value.float Go.FloatKind.f64 4602678819172646912) fun y23=>pS 11 [Value.float Go.FloatKind.f64 0,y23] fun y27=>rQ y27 hp) (bC .eql 5 6 y2 (kB 3) fun y28=>iB y28 (iB y28 (B5_10 y0 hp) (B5_11 y0 hp)) (iC .eql 5 6 y2 (kB 4) (B5_10 y0 hp) (B5_11 y0 hp))))):=eE qd
theorem Ke:B5_10 v0 hp=bC .rem 22 28 v0 (kU 2001) fun y33=>cV 22 2 y33 fun y34=>bC .sub 2 30 y34 (kI 1000) fun y35=>cV 2 24 y35 fun y36=>rQ y36 hp:=eB qd
theorem Kd:B5_11 v0 hp=(one (yu Try.prog 14 [v0])).bind fun y37=>rQ y37 hp:=eB qd
end
end Go.Proofs.Ytehljndbfjfbfaa.AI
