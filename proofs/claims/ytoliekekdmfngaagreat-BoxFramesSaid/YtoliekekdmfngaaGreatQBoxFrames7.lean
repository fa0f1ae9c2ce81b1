/- Texts that the proof of BoxFrames rests on, part 7. -/
import Derived.Test.YtoliekekdmfngaaGreatQBoxFrames3
import Derived.KernelRfl
namespace Go.Proofs.YtoliekekdmfngaaGreat.AI
open Go
set_option linter.unusedVariables false
set_option linter.unusedSimpArgs false
set_option maxRecDepth 100000
set_option maxHeartbeats 0
noncomputable section
variable (a0 a1 a2 a3 a4 a5:AV)(v0:Value)(x0:AV)(v1:Value)(x1:AV)(v2:Value)(x2:AV)(v3:Value)(x3:AV)(v4:Value)(x4:AV)(v5:Value)(x5:AV)(v6:Value)(x6:AV)(v7:Value)(x7:AV)(v8:Value)(x8:AV)(v9:Value)(x9:AV)(v10 v11:Value)(x13:AV)(v14 v15 v16:Value)(x16:AV)(v17 v18:Value)(b1 b2 b3 b4 b5 b6 b8:List AV)(hp:Hp)
def B50_3:=gx 50 3 [.lp 4 0 0] [(4,0,b4)] hp
def B50_4:=gx 50 4 [x2,.lp 4 0 0,v6] [(4,0,b4)] hp
theorem E50:run cxX 50 [a0,a1] hp=aS a1 fun y0=>(qk 1 a0).bind fun y1=>(Hp.rd (Hp.new (Hp.new hp (List.map ro1 y1)) [y0]) hp.1 0).bind fun y2=>(qt y2 0).bind fun y3=>ln (ro1 y3) fun y4=>(Xh [AV.ptr hp.1 0 0,AV.ptr (Hp.new hp (List.map ro1 y1)).1 0 0]).bind fun y5=>(VB true).bind fun y6=>cS 119 [kI y4,ro (AV.fn 120 [ro1 (AV.ptr hp.1 0 0),ro1 (AV.ptr (Hp.new hp (List.map ro1 y1)).1 0 0)])] (Hp.new (Hp.new hp (List.map ro1 y1)) [y0]) fun y8 h1=>(Hp.rd h1 hp.1 0).bind fun y9=>(qt y9 0).bind fun y10=>ln (ro1 y10) fun y11=>iT .eql 3 11 13 y8 (kI y11) (B50_3 zL1 h1) ((Hp.rd h1 hp.1 0).bind fun y14=>(qt y14 0).bind fun y15=>(zL 3 (ro1 y15) y8).bind fun y16=>(qi y16 0).bind fun y17=>(Hp.rd h1 (Hp.new hp (List.map ro1 y1)).1 0).bind fun y18=>(qi y18 0).bind fun y19=>iT .neq 9 20 21 y17 y19 (B50_3 zL1 h1) (B50_4 (AV.ptr hp.1 0 0) y8 zL1 h1)):=eE qd
theorem qxk:B50_3 b4 hp=(qm b4 0 zL1).bind fun y22=>(qo y22 0 3).bind fun y23=>rQ (.tup [.agg y23,.sc (.bool false)]) hp:=eX qd
theorem qxj:B50_4 x2 v6 b4 hp=lpC 0 x2 hp fun y26=>(zL 3 (ro1 y26) v6).bind fun y27=>(qo y27 0 3).bind fun y28=>(qk 3 (.agg (List.map ro1 y28))).bind fun y29=>(qm b4 0 y29).bind fun y30=>(qo y30 0 3).bind fun y31=>rQ (.tup [.agg y31,.sc (.bool true)]) hp:=eX qd
def B84_4:=gb 84 4 [x0,x8,v9,v10] hp
def B84_7:=gb 84 7 [] hp
def B84_8:=gx 84 8 [x0,v3,.lp 4 0 0,x8,v9,v10] [(4,0,b4)] hp
def B84_9:=gb 84 9 [] hp
def B84_10:=gx 84 10 [x0,v3,.lp 4 0 0,x8,v9,v10] [(4,0,b4)] hp
def B84_11:=gb 84 11 [] hp
def B84_12:=gx 84 12 [x0,v3,.lp 4 0 0,x8,v9,v10] [(4,0,b4)] hp
def B84_13:=gb 84 13 [] hp
def B84_14:=gb 84 14 [x0,x8,v9,v10] hp
theorem E84:run cxX 84 [a0] hp=ln (ro a0) fun y0=>iC .gtr 3 6 (kI y0) (kI 1000) (rQ (kI 7) hp) (ln (ro a0) fun y3=>B84_4 a0 (ro a0) (kI y3) (kI 0) hp):=eE qd
theorem JQ:B84_4 x0 x8 v9 v10 hp=iT .lss 3 10 9 v10 v9 ((zL 3 x8 v10).bind fun y6=>(qo y6 0 3).bind fun y7=>(qk 3 (.agg (List.map ro1 y7))).bind fun y8=>(qm zL1 0 y8).bind fun y9=>(qi y9 0).bind fun y10=>(yK Tryz.prog Go.Builtin.len (Array.mk [9]) 3 [y10]).bind fun y11=>iC .lss 3 18 y11 (kI 1) (B84_7 hp) ((qi y9 0).bind fun y14=>(yK Tryz.prog Go.Builtin.len (Array.mk [9]) 3 [y14]).bind fun y15=>iC .gtr 3 23 y15 (kI 255) (B84_7 hp) (B84_8 x0 v10 x8 v9 v10 y9 hp))) (rQ (kI 0) hp):=eB qd
theorem We:B84_8 x0 v3 x8 v9 v10 b4 hp=(qi b4 1).bind fun y18=>iC .lss 3 28 y18 (kI 0) (B84_9 hp) ((qi b4 1).bind fun y21=>iC .gtr 3 32 y21 (kI 1048576) (B84_9 hp) ((qi b4 2).bind fun y24=>iC .lss 3 37 y24 (kI 1) (B84_9 hp) ((qi b4 2).bind fun y27=>iC .gtr 3 42 y27 (kI 1048576) (B84_9 hp) (B84_10 x0 v3 x8 v9 v10 b4 hp)))):=eX qd
theorem YK:B84_10 x0 v3 x8 v9 v10 b4 hp=iC .gtr 3 46 v3 (kI 0) ((qi b4 0).bind fun y32=>bC .sub 3 52 v3 (kI 1) fun y33=>(zL 3 (ro x0) y33).bind fun y34=>(qi y34 0).bind fun y35=>iT .leq 9 50 56 y32 y35 (B84_11 hp) (B84_12 x0 v3 x8 v9 v10 b4 hp)) (B84_12 x0 v3 x8 v9 v10 b4 hp):=eX qd
theorem qq9:B84_11 hp=rQ (kI 8) hp:=eB qd
theorem qb5:B84_12 x0 v3 x8 v9 v10 b4 hp=iC .gtr 3 60 v3 (kI 0) ((qi b4 1).bind fun y40=>bC .sub 3 66 v3 (kI 1) fun y41=>(zL 3 (ro x0) y41).bind fun y42=>(qi (List.drop 1 y42) 0).bind fun y43=>bC .sub 3 72 v3 (kI 1) fun y44=>(zL 3 (ro x0) y44).bind fun y45=>(qi (List.drop 2 y45) 0).bind fun y46=>bT .add 3 70 76 y43 y46 fun y47=>iT .neq 3 64 77 y40 y47 (B84_13 hp) (B84_14 x0 x8 v9 v10 hp)) (B84_14 x0 x8 v9 v10 hp):=eX qd
theorem qb4:B84_14 x0 x8 v9 v10 hp=bC .add 3 10 v10 (kI 1) fun y50=>B84_4 x0 x8 v9 y50 hp:=eB qd
theorem E120:run cxX 120 [a0,a1,a2] hp=aS a0 fun y0=>lpC 0 a1 hp fun y3=>(zL 3 (ro1 y3) y0).bind fun y4=>(qi y4 0).bind fun y5=>lpS 0 a2 hp fun y8=>bT .geq 9 9 10 y5 y8 fun y9=>rQ y9 hp:=eE qd
theorem E32:run cxX 32 [a0] hp=(qpy (ro a0)).bind fun y0=>cond y0 (rQ nl hp) ((vh []).bind fun y1=>(zF 272 24 (AV.us 24 []) (ro a0) hp).bind fun y2=>rQ y2.1 y2.2):=eE qd
theorem E33:run cxX 33 [a0,a1] hp=ln (ro a0) fun y0=>cT 66 [r2 a0,kI y0,r2 a1] hp fun h1=>rQ (.tup []) h1:=eE qd
def B66_2:=gb 66 2 [x0,v1,x2,v6,v7,v8] hp
def B66_7:=gb 66 7 [x0,v1,x2,v6] hp
def B66_9:=gb 66 9 [x0,v1,x2,v6,v7,v8] hp
theorem E66:run cxX 66 [a0,a1,a2] hp=aS a1 fun y0=>B66_2 a0 y0 a2 (kI 20) (kI 0) (kI 20) hp:=eE qd
theorem qxe:B66_2 x0 v1 x2 v6 v7 v8 hp=iT .leq 3 11 12 v8 v1 (cT 136 [r2 x0,v7,v8,r2 x2] hp fun h1=>bT .add 3 20 21 v8 v6 fun y5=>B66_2 x0 v1 x2 v6 v8 y5 h1) (cT 136 [r2 x0,v7,v1,r2 x2] hp fun h2=>B66_7 x0 v1 x2 v6 h2):=eB qd
theorem qxd:B66_7 x0 v1 x2 v6 hp=iT .lss 3 28 29 v6 v1 (bG .mul 3 (.const (kI 2)) (.tmp 31) (kI 2) v6 fun y10=>B66_9 x0 v1 x2 v6 (kI 0) y10 hp) (rQ (.tup []) hp):=eB qd
def B136_1:=gb 136 1 [x0,v1,v2,x3,v8] hp
def B136_4:=gb 136 4 [x0,v1,v2,x3,v8,v9] hp
theorem E136:run cxX 136 [a0,a1,a2,a3] hp=aS a1 fun y0=>aS a2 fun y1=>bC .add 3 10 y0 (kI 1) fun y2=>B136_1 a0 y0 y1 a3 y2 hp:=eE qd
theorem qsa:B136_1 x0 v1 v2 x3 v8 hp=iT .lss 3 12 13 v8 v2 (B136_4 x0 v1 v2 x3 v8 v8 hp) (rQ (.tup []) hp):=eB qd
theorem E10:run cxX 10 [] hp=(jN [] []).bind fun y0=>(run cxX 14 [] hp0).bind fun y1=>(xk y1.1).bind fun y2=>(yn y1.1).bind fun y3=>cN 2 13 [nl,ro y1.1] hp fun z1 h2=>nS z1 1 fun y6=>(jN [] []).bind fun y7=>(run cxX 14 [] hp0).bind fun y8=>(xk y8.1).bind fun y9=>(yn y8.1).bind fun y10=>cN 2 16 [ro (r2 (jd z1 0)),ro y8.1] h2 fun z3 h4=>nS z3 1 fun y13=>iC .eql 50 16 y6 (kI 0) (ln (r2 (jd z1 0)) fun y16=>iC .eql 3 20 (kI y16) (kI 23) (iC .eql 50 24 y13 (kI 0) (cA 25 [ro (r2 (jd z3 0))] h4 fun z5 h6=>ln z5 fun y23=>bC .eql 3 30 (kI y23) (kI 0) fun y24=>rQ y24 h6) (rQ (.sc (.bool false)) h4)) (rQ (.sc (.bool false)) h4)) (rQ (.sc (.bool false)) h4):=eE qd
def B11_2:=gb 11 2 [x0,x5,v6,v7] hp
def B11_5:=gb 11 5 [] hp
def B11_6:=gb 11 6 [x0,x5,v6,v7] hp
theorem E11:run cxX 11 [a0] hp=ln (ro a0) fun y0=>B11_2 a0 (ro a0) (kI y0) (kI 0) hp:=eE qd
theorem JU:B11_2 x0 x5 v6 v7 hp=iT .lss 3 7 6 v7 v6 ((zL 8 x5 v7).bind fun y3=>(qo y3 0 8).bind fun y4=>(qk 8 (.agg (List.map ro1 y4))).bind fun y5=>(qm [nl,kB 0,kB 0,kB 0,kH 0,.sc (.bool false),nl,nl] 0 y5).bind fun y6=>(qo y6 1 7).bind fun y7=>pS 29 [.agg (List.map ro1 y7)] fun y11=>iN y11 (B11_5 hp) ((qt y6 0).bind fun y14=>ln (ro1 y14) fun y15=>iC .gtr 3 18 (kI y15) (kI 60) (B11_5 hp) (B11_6 x0 x5 v6 v7 hp))) (ln (ro x0) fun y18=>bC .leq 3 23 (kI y18) (kI 30) fun y19=>rQ y19 hp):=eB qd
theorem qxq:B11_5 hp=rQ (.sc (.bool false)) hp:=eB qd
theorem qxp:B11_6 x0 x5 v6 v7 hp=bC .add 3 7 v7 (kI 1) fun y20=>B11_2 x0 x5 v6 y20 hp:=eB qd
def B12_4:=gb 12 4 [x3,x4,x9,v10,v11] hp
def B12_9:=gx 12 9 [x3,x4,.lp 6 0 0,v7,x9,v10,v11] [(6,0,b6)] hp
def B12_10:=gx 12 10 [x3,x4,.lp 6 0 0,v7,x9,v10,v11] [(6,0,b6)] hp
def B12_12:=gb 12 12 [x3,x4,x9,v10,v11] hp
theorem E12:run cxX 12 [a0] hp=ln (ro a0) fun y0=>B12_4 nl (AV.map hp.1) (ro a0) (kI y0) (kI 0) (Hp.newM hp):=eE qd
theorem qjh:B12_4 x3 x4 x9 v10 v11 hp=iT .lss 3 11 10 v11 v10 ((zL 8 x9 v11).bind fun y3=>(qo y3 0 8).bind fun y4=>(qk 8 (.agg (List.map ro1 y4))).bind fun y5=>(qm [nl,kB 0,kB 0,kB 0,kH 0,.sc (.bool false),nl,nl] 0 y5).bind fun y6=>(qt y6 0).bind fun y7=>(yG 1 (ro1 y7)).bind fun y8=>(zp y8).bind fun y9=>iC .eql 9 18 (Value.string (ByteArray.mk (Array.mk y9))) (Value.string (ByteArray.mk (Array.mk []))) (B12_9 x3 x4 (Value.string (ByteArray.mk (Array.mk [101]))) x9 v10 v11 y6 hp) (B12_9 x3 x4 (Value.string (ByteArray.mk (Array.mk y9))) x9 v10 v11 y6 hp)) (rQ x3 hp):=eB qd
theorem Wm:B12_9 x3 x4 v7 x9 v10 v11 b6 hp=(wF (ro x4)).bind fun y12=>(Hp.rdM hp y12).bind fun y13=>(VB (qei (TI.mk TK.sc 1 16 [Value.string (ByteArray.mk (Array.mk []))]) v7)).bind fun y14=>(Zj v7 y13).bind fun y15=>aS (orA y15 (.sc (.bool false))) fun y16=>iN y16 (ln (ro x3) fun y19=>iC .lss 3 26 (kI y19) (kI 8) (B12_10 x3 x4 v7 x9 v10 v11 b6 hp) (B12_12 x3 x4 x9 v10 v11 hp)) (B12_12 x3 x4 x9 v10 v11 hp):=eX qd
theorem qse:B12_10 x3 x4 v7 x9 v10 v11 b6 hp=(wF (ro x4)).bind fun y22=>(Hp.rdM hp y22).bind fun y23=>(VB (qei (TI.mk TK.sc 1 16 [Value.string (ByteArray.mk (Array.mk []))]) v7)).bind fun y24=>(KT v7 (.sc (.bool true)) y23).bind fun y25=>(qo b6 1 7).bind fun y26=>pA 30 [.agg (List.map ro1 y26)] fun z1=>(qk 23 z1).bind fun y31=>(qm [v7,kB 0,nl,kI 0,nl,kI 0,nl,kI 0,kI 0,nl,kI 0,kI 0,nl,kI 0,kW 0,kW 0,kW 0,kW 0,kW 0,kW 0,kW 0,Value.float Go.FloatKind.f64 0,Value.float Go.FloatKind.f64 0,nl] 1 y31).bind fun y32=>(qk 24 (.agg (List.map ro1 y32))).bind fun y33=>(qm zL5 0 y33).bind fun y34=>(vh y34).bind fun y35=>(zF 272 24 (ro x3) (AV.us 24 (List.map ro1 y34)) (Hp.put hp y22 1 y25)).bind fun y36=>B12_12 y36.1 x4 x9 v10 v11 y36.2:=eX qd
theorem qsd:B12_12 x3 x4 x9 v10 v11 hp=bC .add 3 11 v11 (kI 1) fun y37=>B12_4 x3 x4 x9 v10 y37 hp:=eB qd
theorem E14:run cxX 14 [] hp=rQ (.agg [kI 1000,kI 1048576]) hp:=eE qd
def B15_4:=gb 15 4 [x3,x4,x16,v17,v18] hp
theorem E15:run cxX 15 [a0] hp=(vh [kB 72,kB 69,kB 82,kB 66,kB 49,kB 10]).bind fun y0=>cA 18 [r2 a0] hp fun z1 h2=>ln z1 fun y3=>B15_4 (AV.us 1 [kB 72,kB 69,kB 82,kB 66,kB 49,kB 10]) nl z1 (kI y3) (kI 0) h2:=eE qd
theorem qjg:B15_4 x3 x4 x16 v17 v18 hp=iT .lss 3 18 17 v18 v17 ((zL 3 x16 v18).bind fun y6=>(qo y6 0 3).bind fun y7=>(qk 3 (.agg (List.map ro1 y7))).bind fun y8=>(qm zL0 0 y8).bind fun y9=>(qo y9 0 3).bind fun y10=>pT 2 37 [.agg (List.map ro1 y10)] fun z1=>nS z1 1 fun y15=>(qi y9 0).bind fun y16=>ln (ro x3) fun y17=>ln (r2 (jd z1 0)) fun y18=>(vh [y16,kI y17,kI y18]).bind fun y19=>(zh 32 3 x4 (AV.us 3 [y16,kI y17,kI y18])).bind fun y20=>(zh 1 1 x3 (r2 (jd z1 0))).bind fun y21=>bC .add 3 18 v18 (kI 1) fun y22=>B15_4 y21 y20 x16 v17 y22 hp) (ln (ro x3) fun y23=>pT 2 38 [ro x4] fun z2=>nS z2 1 fun y28=>(zh 1 1 x3 (r2 (jd z2 0))).bind fun y29=>cV 3 40 (kI y23) fun y30=>pA 39 [y30] fun z3=>ln (r2 (jd z2 0)) fun y35=>cV 3 40 (kI y35) fun y36=>pA 39 [y36] fun z4=>(zh 1 1 z3 z4).bind fun y41=>pS 40 [ro y41] fun y45=>(qx7 Tryz.prog 9).bind fun y46=>(Qw y45).bind fun y47=>(VU 1 1 y29 y47).bind fun y48=>rQ y48 hp):=eB qd
theorem E17:run cxX 17 [a0] hp=(vh []).bind fun y0=>(zF 272 24 (AV.us 24 []) (ro a0) hp).bind fun y1=>(qk 1 y1.1).bind fun y2=>(Hp.rd (Hp.new y1.2 [nl]) y1.2.1 0).bind fun y3=>(qm y3 0 y2).bind fun y4=>(Hp.rd (Hp.put (Hp.new y1.2 [nl]) y1.2.1 0 y4) y1.2.1 0).bind fun y5=>(qt y5 0).bind fun y6=>(yO Tryz.prog 25).bind fun y7=>(yk (Eq (vr (ro (ro1 y6))) true)).bind fun y8=>(Xh [AV.ptr y1.2.1 0 0]).bind fun y9=>(VB true).bind fun y10=>cT 45 [ro (AV.ifc 25 (ro (ro1 y6))),ro (AV.fn 46 [ro1 (AV.ptr y1.2.1 0 0)])] (Hp.put (Hp.new y1.2 [nl]) y1.2.1 0 y4) fun h1=>(Hp.rd h1 y1.2.1 0).bind fun y13=>(qt y13 0).bind fun y14=>(kO h1 (ro1 y14)).bind fun y15=>rQ y15.1 y15.2:=eE qd
def B18_3:=gb 18 3 [x3,x7,v8,v9] hp
theorem E18:run cxX 18 [a0] hp=cA 17 [r2 a0] hp fun z1 h2=>ln z1 fun y2=>B18_3 nl z1 (kI y2) (kI 0) h2:=eE qd
theorem qjf:B18_3 x3 x7 v8 v9 hp=iT .lss 3 9 8 v9 v8 ((zL 24 x7 v9).bind fun y5=>(qo y5 0 24).bind fun y6=>(qk 24 (.agg (List.map ro1 y6))).bind fun y7=>(qm zL5 0 y7).bind fun y8=>(qi y8 0).bind fun y9=>(qi y8 1).bind fun y10=>(qo y8 1 23).bind fun y11=>pA 47 [.agg (List.map ro1 y11)] fun z1=>(qk 1 z1).bind fun y16=>(qm [y9,y10,nl] 2 y16).bind fun y17=>(qk 3 (.agg (List.map ro1 y17))).bind fun y18=>(qm zL0 0 y18).bind fun y19=>(vh y19).bind fun y20=>(zh 48 3 x3 (AV.us 3 (List.map ro1 y19))).bind fun y21=>bC .add 3 9 v9 (kI 1) fun y22=>B18_3 y21 x7 v8 y22 hp) (rQ x3 hp):=eB qd
theorem E46:run cxX 46 [a0,a1,a2] hp=aS a0 fun y0=>aS a1 fun y1=>lpC 0 a2 hp fun y4=>(qN (ro1 y4)).bind fun y5=>(idx y5.2.2.2.1 y0).bind fun y6=>(jf y5.2.2.2.2 24).bind fun y7=>(Hp.rd hp y5.1 y5.2.1).bind fun y8=>(qi y8 (Nat.add y5.2.2.1 (Nat.add (Nat.add (Nat.add (Nat.add (Nat.add (Nat.add (Nat.add (Nat.add (Nat.add (Nat.add (Nat.add (Nat.add (Nat.add (Nat.add (Nat.add (Nat.add (Nat.add (Nat.add (Nat.add (Nat.add (Nat.add (Nat.add (Nat.add (Nat.add 0 y6) y6) y6) y6) y6) y6) y6) y6) y6) y6) y6) y6) y6) y6) y6) y6) y6) y6) y6) y6) y6) y6) y6) y6))).bind fun y9=>lpC 0 a2 hp fun y12=>(qN (ro1 y12)).bind fun y13=>(idx y13.2.2.2.1 y1).bind fun y14=>(jf y13.2.2.2.2 24).bind fun y15=>(Hp.rd hp y13.1 y13.2.1).bind fun y16=>(qi y16 (Nat.add y13.2.2.1 (Nat.add (Nat.add (Nat.add (Nat.add (Nat.add (Nat.add (Nat.add (Nat.add (Nat.add (Nat.add (Nat.add (Nat.add (Nat.add (Nat.add (Nat.add (Nat.add (Nat.add (Nat.add (Nat.add (Nat.add (Nat.add (Nat.add (Nat.add (Nat.add 0 y14) y14) y14) y14) y14) y14) y14) y14) y14) y14) y14) y14) y14) y14) y14) y14) y14) y14) y14) y14) y14) y14) y14) y14))).bind fun y17=>bT .lss 9 10 15 y9 y17 fun y18=>rQ y18 hp:=eE qd
theorem E39:run cxX 39 [a0] hp=aS a0 fun y0=>bC .rem 40 3 y0 (kW 256) fun y1=>cV 40 5 y1 fun y2=>bC .quo 40 6 y0 (kW 256) fun y3=>bC .rem 40 7 y3 (kW 256) fun y4=>cV 40 5 y4 fun y5=>bC .quo 40 10 y0 (kW 65536) fun y6=>bC .rem 40 11 y6 (kW 256) fun y7=>cV 40 5 y7 fun y8=>bC .quo 40 14 y0 (kW 16777216) fun y9=>cV 40 5 y9 fun y10=>(vh [y2,y5,y8,y10]).bind fun y11=>rQ (AV.us 1 [y2,y5,y8,y10]) hp:=eE qd
theorem E40:run cxX 40 [a0] hp=(yG 1 (ro a0)).bind fun y0=>(zp y0).bind fun y1=>pS 85 [ro a0] fun y5=>pA 39 [y5] fun z1=>(yG 1 z1).bind fun y10=>(zp y10).bind fun y11=>bT .add 9 4 8 (Value.string (ByteArray.mk (Array.mk y1))) (Value.string (ByteArray.mk (Array.mk y11))) fun y12=>rQ y12 hp:=eE qd
def B85_3:=gb 85 3 [x0,x3,v4] hp
def B85_6:=gb 85 6 [x0,x3,v4,v5] hp
def B85_11:=gb 85 11 [x3,v6] hp
def B85_16:=gb 85 16 [x3,x7,v8] hp
def B85_20:=gb 85 20 [x3,x7,v8,v9] hp
def B85_17:=gb 85 17 [x3,x7,v8] hp
def B85_25:=gb 85 25 [x3,v10,v11] hp
theorem E85:run cxX 85 [a0] hp=B85_3 a0 nl (kI 0) hp:=eE qd
theorem qi6:B85_3 x0 x3 v4 hp=ln (ro x0) fun y0=>iT .lss 3 12 14 v4 (kI y0) (B85_6 x0 x3 v4 (kI 0) hp) ((zac Tryz.prog 3).bind fun y3=>(QW 1 1 [kB 0] (ro x3) 32 hp).bind fun y4=>B85_11 y4.1 (kI 0) y4.2):=eB qd
theorem qi5:B85_6 x0 x3 v4 v5 hp=iC .lss 3 18 v5 (kI 8) (jO (ro x0) v4 fun y8=>bT .shr 5 26 27 y8 v5 fun y9=>bC .rem 5 28 y9 (kB 2) fun y10=>(vh [y10]).bind fun y11=>(zF 1 1 (ro x3) (AV.us 1 [y10]) hp).bind fun y12=>bC .add 3 20 v5 (kI 1) fun y13=>B85_6 x0 y12.1 v4 y13 y12.2) (bC .add 3 16 v4 (kI 1) fun y14=>B85_3 x0 x3 y14 hp):=eB qd
theorem qb3:B85_11 x3 v6 hp=iC .lss 3 34 v6 (kI 32) ((qN (ro x3)).bind fun y17=>(idx y17.2.2.2.1 v6).bind fun y18=>(jf y17.2.2.2.2 1).bind fun y19=>(Hp.rd hp y17.1 y17.2.1).bind fun y20=>(qi y20 (Nat.add y17.2.2.1 (Nat.add 0 y18))).bind fun y21=>bG .sub 5 (.const (kB 1)) (.tmp 43) (kB 1) y21 fun y22=>(qN (ro x3)).bind fun y23=>(idx y23.2.2.2.1 v6).bind fun y24=>(jf y23.2.2.2.2 1).bind fun y25=>(Hp.rd hp y23.1 y23.2.1).bind fun y26=>(qm y26 (Nat.add y23.2.2.1 (Nat.add 0 y24)) [y22]).bind fun y27=>bC .add 3 36 v6 (kI 1) fun y28=>B85_11 x3 y28 (Hp.put hp y23.1 y23.2.1 y27)) ((vh [kI 0,kI 4,kI 5,kI 6,kI 7,kI 9,kI 10,kI 12,kI 13,kI 14,kI 18,kI 19,kI 21,kI 22,kI 23,kI 24,kI 26,kI 32]).bind fun y29=>B85_16 x3 (AV.us 1 [kI 0,kI 4,kI 5,kI 6,kI 7,kI 9,kI 10,kI 12,kI 13,kI 14,kI 18,kI 19,kI 21,kI 22,kI 23,kI 24,kI 26,kI 32]) (kI 0) hp):=eB qd
theorem YJ:B85_16 x3 x7 v8 hp=bC .add 3 47 v8 (kI 32) fun y30=>ln (ro x3) fun y31=>iT .lss 3 48 50 y30 (kI y31) ((qN (ro x3)).bind fun y34=>(idx y34.2.2.2.1 v8).bind fun y35=>(jf y34.2.2.2.2 1).bind fun y36=>(Hp.rd hp y34.1 y34.2.1).bind fun y37=>(qi y37 (Nat.add y34.2.2.1 (Nat.add 0 y35))).bind fun y38=>iC .eql 5 57 y38 (kB 1) (B85_20 x3 x7 v8 (kI 0) hp) (B85_17 x3 x7 v8 hp)) (ln (ro x3) fun y41=>bC .sub 3 84 (kI y41) (kI 1) fun y42=>B85_25 x3 (kW 0) y42 hp):=eB qd
theorem qb1:B85_20 x3 x7 v8 v9 hp=ln (ro x7) fun y43=>iT .lss 3 59 61 v9 (kI y43) (jO (ro x7) v9 fun y47=>bT .add 3 66 70 v8 y47 fun y48=>jO (ro x7) v9 fun y50=>bT .add 3 73 77 v8 y50 fun y51=>(qN (ro x3)).bind fun y52=>(idx y52.2.2.2.1 y51).bind fun y53=>(jf y52.2.2.2.2 1).bind fun y54=>(Hp.rd hp y52.1 y52.2.1).bind fun y55=>(qi y55 (Nat.add y52.2.2.1 (Nat.add 0 y53))).bind fun y56=>bG .sub 5 (.const (kB 1)) (.tmp 80) (kB 1) y56 fun y57=>(qN (ro x3)).bind fun y58=>(idx y58.2.2.2.1 y48).bind fun y59=>(jf y58.2.2.2.2 1).bind fun y60=>(Hp.rd hp y58.1 y58.2.1).bind fun y61=>(qm y61 (Nat.add y58.2.2.1 (Nat.add 0 y59)) [y57]).bind fun y62=>bC .add 3 63 v9 (kI 1) fun y63=>B85_20 x3 x7 v8 y63 (Hp.put hp y58.1 y58.2.1 y62)) (B85_17 x3 x7 v8 hp):=eB qd
theorem qb2:B85_17 x3 x7 v8 hp=bC .add 3 52 v8 (kI 1) fun y64=>B85_16 x3 x7 y64 hp:=eB qd
theorem qb0:B85_25 x3 v10 v11 hp=ln (ro x3) fun y65=>bC .sub 3 88 (kI y65) (kI 32) fun y66=>iT .geq 3 86 89 v11 y66 (bC .mul 40 93 v10 (kW 2) fun y69=>(qN (ro x3)).bind fun y70=>(idx y70.2.2.2.1 v11).bind fun y71=>(jf y70.2.2.2.2 1).bind fun y72=>(Hp.rd hp y70.1 y70.2.1).bind fun y73=>(qi y73 (Nat.add y70.2.2.1 (Nat.add 0 y71))).bind fun y74=>bG .sub 5 (.const (kB 1)) (.tmp 98) (kB 1) y74 fun y75=>cV 5 40 y75 fun y76=>bT .add 40 94 100 y69 y76 fun y77=>bC .sub 3 91 v11 (kI 1) fun y78=>B85_25 x3 y77 y78 hp) (rQ v10 hp):=eB qd
def B175_2:=gb 175 2 [v0,x3] hp
theorem E175:run cxX 175 [a0] hp=aS a0 fun y0=>B175_2 y0 nl hp:=eE qd
theorem qr3:B175_2 v0 x3 hp=iC .geq 125 4 v0 (kU 128) (bC .rem 125 7 v0 (kU 128) fun y3=>bC .add 125 8 y3 (kU 128) fun y4=>cV 125 5 y4 fun y5=>ap 1 x3 y5 fun y7=>bC .quo 125 13 v0 (kU 128) fun y8=>B175_2 y8 y7 hp) (cV 125 5 v0 fun y9=>ap 1 x3 y9 fun y11=>rQ y11 hp):=eB qd
theorem E179:run cxX 179 [a0] hp=aS a0 fun y0=>iC .lss 2 3 y0 (kI 0) (bC .add 2 5 y0 (kI 1) fun y3=>(unV Tryz.prog .neg y3).bind fun y4=>cV 2 125 y4 fun y5=>bC .mul 125 8 y5 (kU 2) fun y6=>bC .add 125 9 y6 (kU 1) fun y7=>pA 175 [y7] fun z1=>rQ z1 hp) (cV 2 125 y0 fun y12=>bC .mul 125 13 y12 (kU 2) fun y13=>pA 175 [y13] fun z2=>rQ z2 hp):=eE qd
def B176_5:=gb 176 5 [x0,v3,x4,x5,v6] hp
theorem E176:run cxX 176 [a0] hp=pS 222 [ro a0] fun y3=>pA 223 [ro a0] fun z1=>B176_5 a0 y3 nl z1 (kI 0) hp:=eE qd
theorem qcr:B176_5 x0 v3 x4 x5 v6 hp=ln (ro x5) fun y8=>iT .lss 3 13 15 v6 (kI y8) (jO (ro x5) v6 fun y12=>bT .shr 125 23 24 y12 v3 fun y13=>cV 125 3 y13 fun y14=>pA 224 [y14] fun z1=>(zh 1 1 x4 z1).bind fun y19=>jO (ro x5) v6 fun y21=>pA 225 [y21,v3] fun z2=>(zh 1 1 y19 z2).bind fun y26=>bC .add 3 17 v6 (kI 1) fun y27=>B176_5 x0 v3 y26 x5 y27 hp) (pA 226 [ro x4] fun z3=>ln (ro x0) fun y32=>cV 3 125 (kI y32) fun y33=>pA 175 [y33] fun z4=>cV 3 5 v3 fun y38=>ap 1 z4 y38 fun y40=>ln (ro z3) fun y41=>cV 3 125 (kI y41) fun y42=>pA 175 [y42] fun z5=>(zh 1 1 y40 z5).bind fun y47=>(zh 1 1 y47 (ro z3)).bind fun y48=>rQ y48 hp):=eB qd
def B178_5:=gb 178 5 [x0,v3,v4] hp
def B178_6:=gb 178 6 [x0,v3,v4,v5] hp
def B178_7:=gb 178 7 [x0,v3,v4,v5] hp
def B178_8:=gb 178 8 [x0,v3,v4,v5] hp
def B178_11:=gb 178 11 [x0,v3,v4,v5,x6,x7,v8,v9] hp
theorem E178:run cxX 178 [a0] hp=ln (ro a0) fun y0=>iC .gtr 3 14 (kI y0) (kI 0) (bC .sub 3 17 (kI y0) (kI 1) fun y3=>jO (ro a0) y3 fun y5=>B178_5 a0 (kI y0) y5 hp) (B178_5 a0 (kI y0) (kW 0) hp):=eE qd
theorem qr2:B178_5 x0 v3 v4 hp=B178_6 x0 v3 v4 (kI 0) hp:=eB qd
theorem qr1:B178_6 x0 v3 v4 v5 hp=iC .gtr 3 21 v3 (kI 0) (cV 40 3 v4 fun y8=>bC .quo 3 25 y8 (kI 2) fun y9=>bT .shr 3 26 27 y9 v5 fun y10=>iT .geq 3 28 29 y10 v3 (B178_7 x0 v3 v4 v5 hp) (B178_8 x0 v3 v4 v5 hp)) (B178_8 x0 v3 v4 v5 hp):=eB qd
theorem qr0:B178_7 x0 v3 v4 v5 hp=bC .add 3 32 v5 (kI 1) fun y13=>B178_6 x0 v3 v4 y13 hp:=eB qd
theorem qrz:B178_8 x0 v3 v4 v5 hp=B178_11 x0 v3 v4 v5 nl nl (kW 0) (kI 0) hp:=eB qd
theorem Wk:B178_11 x0 v3 v4 v5 x6 x7 v8 v9 hp=iT .lss 3 34 35 v9 v3 (jO (ro x0) v9 fun y17=>cV 40 125 y17 fun y18=>pA 225 [y18,v5] fun z1=>(zh 1 1 x6 z1).bind fun y23=>jO (ro x0) v9 fun y25=>bT .shr 40 52 53 y25 v5 fun y26=>bT .sub 40 54 55 y26 v8 fun y27=>cV 40 3 y27 fun y28=>pA 224 [y28] fun z2=>(zh 1 1 x7 z2).bind fun y33=>jO (ro x0) v9 fun y35=>bT .shr 40 63 64 y35 v5 fun y36=>bC .add 3 37 v9 (kI 1) fun y37=>B178_11 x0 v3 v4 v5 y23 y33 y36 y37 hp) (cV 3 125 v3 fun y38=>pA 175 [y38] fun z3=>cV 40 125 v4 fun y43=>pA 175 [y43] fun z4=>(zh 1 1 z3 z4).bind fun y48=>pA 226 [ro x6] fun z5=>(zh 1 1 y48 z5).bind fun y53=>pA 226 [ro x7] fun z6=>ln (ro z6) fun y58=>cV 3 125 (kI y58) fun y59=>pA 175 [y59] fun z7=>(zh 1 1 y53 z7).bind fun y64=>(zh 1 1 y64 (ro z6)).bind fun y65=>rQ y65 hp):=eB qd
def B222_4:=gb 222 4 [v3,v4,x5,v6] hp
def B222_9:=gb 222 9 [v3,v4,x5,v6,v7,v8,v9] hp
def B222_15:=gb 222 15 [v3,v4,x5,v6,v7,v8,v9,v10] hp
def B222_17:=gb 222 17 [x5,v6,v7] hp
def B222_5:=gb 222 5 [v3,v4,x5,v6] hp
theorem E222:run cxX 222 [a0] hp=pA 223 [ro a0] fun z1=>B222_4 (kI 63) (.int .i64 (.negSucc 0)) z1 (kI 0) hp:=eE qd
theorem qcn:B222_4 v3 v4 x5 v6 hp=iC .lss 3 13 v6 (kI 64) (B222_9 v3 v4 x5 v6 (kI 0) (.bool true) (kI 0) hp) (rQ v3 hp):=eB qd
theorem qcm:B222_9 v3 v4 x5 v6 v7 v8 v9 hp=ln (ro x5) fun y6=>iT .lss 3 17 19 v9 (kI y6) (jO (ro x5) v9 fun y10=>bT .shr 125 26 27 y10 v6 fun y11=>iC .gtr 125 29 y11 (kU 4096) (B222_15 v3 v4 x5 v6 v7 (.bool false) v9 (kU 0) hp) (B222_15 v3 v4 x5 v6 v7 v8 v9 y11 hp)) (iB v8 (iC .lss 3 40 v4 (kI 0) (B222_17 x5 v6 v7 hp) (iT .lss 3 43 44 v7 v4 (B222_17 x5 v6 v7 hp) (B222_5 v3 v4 x5 v6 hp))) (B222_5 v3 v4 x5 v6 hp)):=eB qd
theorem ql7:B222_15 v3 v4 x5 v6 v7 v8 v9 v10 hp=cV 125 3 v10 fun y19=>bT .add 3 31 33 v7 y19 fun y20=>bC .add 3 34 y20 (kI 1) fun y21=>bT .add 3 35 36 y21 v6 fun y22=>bC .add 3 21 v9 (kI 1) fun y23=>B222_9 v3 v4 x5 v6 y22 v8 y23 hp:=eB qd
theorem Wi:B222_17 x5 v6 v7 hp=B222_5 v6 v7 x5 v6 hp:=eB qd
theorem qrl:B222_5 v3 v4 x5 v6 hp=bC .add 3 15 v6 (kI 1) fun y24=>B222_4 v3 v4 x5 y24 hp:=eB qd
def B223_3:=gb 223 3 [x0,x3,v4] hp
def B223_4:=gb 223 4 [x0,x3,v4] hp
theorem E223:run cxX 223 [a0] hp=B223_3 a0 nl (kI 0) hp:=eE qd
theorem qcl:B223_3 x0 x3 v4 hp=ln (ro x0) fun y0=>iT .lss 3 5 7 v4 (kI y0) (iC .eql 3 11 v4 (kI 0) (jO (ro x0) (kI 0) fun y6=>ap 8 x3 y6 fun y8=>B223_4 x0 y8 v4 hp) (jO (ro x0) v4 fun y10=>bC .sub 3 25 v4 (kI 1) fun y11=>jO (ro x0) y11 fun y13=>bT .sub 125 23 28 y10 y13 fun y14=>bC .sub 125 29 y14 (kU 1) fun y15=>ap 8 x3 y15 fun y17=>B223_4 x0 y17 v4 hp)) (rQ x3 hp):=eB qd
theorem qrk:B223_4 x0 x3 v4 hp=bC .add 3 9 v4 (kI 1) fun y18=>B223_3 x0 x3 y18 hp:=eB qd
def B224_3:=gb 224 3 [v0,x3,v4] hp
theorem E224:run cxX 224 [a0] hp=aS a0 fun y0=>B224_3 y0 nl (kI 0) hp:=eE qd
theorem qck:B224_3 v0 x3 v4 hp=iT .lss 3 5 6 v4 v0 (ap 1 x3 (kB 1) fun y4=>bC .add 3 8 v4 (kI 1) fun y5=>B224_3 v0 y4 y5 hp) (ap 1 x3 (kB 0) fun y7=>rQ y7 hp):=eB qd
def B225_3:=gb 225 3 [v0,v1] hp
def B225_5:=gb 225 5 [v0,v1] hp
def B225_7:=gb 225 7 [v0,x5,v6] hp
theorem E225:run cxX 225 [a0,a1] hp=aS a0 fun y0=>aS a1 fun y1=>iC .gtr 3 7 y1 (kI 64) (B225_3 y0 (kI 64) hp) (B225_3 y0 y1 hp):=eE qd
theorem qrj:B225_3 v0 v1 hp=iC .lss 3 9 v1 (kI 0) (B225_5 v0 (kI 0) hp) (B225_5 v0 v1 hp):=eB qd
theorem qri:B225_5 v0 v1 hp=(ZK v1).bind fun y6=>(ZK v1).bind fun y7=>(yc 1 1 y6 y7).bind fun y8=>bC .sub 3 13 v1 (kI 1) fun y9=>B225_7 v0 (AV.ms hp.1 0 0 (tN y6) 1) y9 (Hp.new hp (yM y6 [kB 0])):=eB qd
theorem qcj:B225_7 v0 x5 v6 hp=iC .geq 3 15 v6 (kI 0) (bC .rem 125 21 v0 (kU 2) fun y12=>cV 125 5 y12 fun y13=>(qN (ro x5)).bind fun y14=>(idx y14.2.2.2.1 v6).bind fun y15=>(jf y14.2.2.2.2 1).bind fun y16=>(Hp.rd hp y14.1 y14.2.1).bind fun y17=>(qm y17 (Nat.add y14.2.2.1 (Nat.add 0 y15)) [y13]).bind fun y18=>bC .quo 125 25 v0 (kU 2) fun y19=>bC .sub 3 17 v6 (kI 1) fun y20=>B225_7 y19 x5 y20 (Hp.put hp y14.1 y14.2.1 y18)) ((kO hp (ro x5)).bind fun y21=>rQ y21.1 y21.2):=eB qd
def B226_3:=gb 226 3 [x0,x3,v4] hp
theorem E226:run cxX 226 [a0] hp=ln (ro a0) fun y0=>bC .add 3 6 (kI y0) (kI 7) fun y1=>bC .quo 3 7 y1 (kI 8) fun y2=>(ZK y2).bind fun y3=>(ZK y2).bind fun y4=>(yc 1 1 y3 y4).bind fun y5=>B226_3 a0 (AV.ms hp.1 0 0 (tN y3) 1) (kI 0) (Hp.new hp (yM y3 [kB 0])):=eE qd
theorem qci:B226_3 x0 x3 v4 hp=ln (ro x0) fun y6=>iT .lss 3 10 12 v4 (kI y6) (bC .quo 3 17 v4 (kI 8) fun y9=>bC .quo 3 20 v4 (kI 8) fun y10=>(qN (ro x3)).bind fun y11=>(idx y11.2.2.2.1 y10).bind fun y12=>(jf y11.2.2.2.2 1).bind fun y13=>(Hp.rd hp y11.1 y11.2.1).bind fun y14=>(qi y14 (Nat.add y11.2.2.1 (Nat.add 0 y12))).bind fun y15=>jO (ro x0) v4 fun y17=>bC .rem 3 28 v4 (kI 8) fun y18=>bG .sub 3 (.const (kI 7)) (.tmp 29) (kI 7) y18 fun y19=>bT .shl 5 27 30 y17 y19 fun y20=>bT .add 5 23 31 y15 y20 fun y21=>(qN (ro x3)).bind fun y22=>(idx y22.2.2.2.1 y9).bind fun y23=>(jf y22.2.2.2.2 1).bind fun y24=>(Hp.rd hp y22.1 y22.2.1).bind fun y25=>(qm y25 (Nat.add y22.2.2.1 (Nat.add 0 y23)) [y21]).bind fun y26=>bC .add 3 14 v4 (kI 1) fun y27=>B226_3 x0 x3 y27 (Hp.put hp y22.1 y22.2.1 y26)) ((kO hp (ro x3)).bind fun y28=>rQ y28.1 y28.2):=eB qd
theorem E45:run cxX 45 [a0,a1] hp=(wX Tryz.prog 92 [r2 a0] hp).bind fun y0=>(yn y0.1).bind fun y1=>(qk 3 y0.1).bind fun y2=>(qm [Value.pointer none,Value.pointer none,kU 0] 0 y2).bind fun y3=>(wX Tryz.prog 93 [r2 a0] y0.2).bind fun y4=>(yn y4.1).bind fun y5=>(qo y3 0 3).bind fun y6=>(wX Tryz.prog 94 [ro (.agg (List.map ro1 y6))] y4.2).bind fun y7=>aS y7.1 fun y8=>cV 3 132 y8 fun y9=>pS 95 [y9] fun y13=>(qk 1 (ro a1)).bind fun y14=>(qm [.sc Value.nilFunc,.sc Value.nilFunc] 0 y14).bind fun y15=>(qk 1 (ro y4.1)).bind fun y16=>(qm y15 1 y16).bind fun y17=>cT 96 [ro (.agg (List.map ro1 y17)),kI 0,y8,y13] y7.2 fun h1=>rQ (.tup []) h1:=eE qd
def B96_3:=gx 96 3 [v1,v2,v3,.lp 4 0 0,v8,v9] [(4,0,b4)] hp
def B96_11:=gx 96 11 [v1,v2,v3,.lp 4 0 0,v8,v9,v10] [(4,0,b4)] hp
theorem E96:run cxX 96 [a0,a1,a2,a3] hp=aS a1 fun y0=>aS a2 fun y1=>aS a3 fun y2=>(qk 2 a0).bind fun y3=>B96_3 y0 y1 y2 (.bool true) (.bool true) (List.map ro1 y3) hp:=eE qd
theorem qw4:B96_3 v1 v2 v3 v8 v9 b4 hp=bT .sub 3 19 20 v2 v1 fun y4=>iC .leq 3 22 y4 (kI 12) ((qo b4 0 2).bind fun y7=>cT 166 [ro (.agg (List.map ro1 y7)),v1,v2] hp fun h1=>rQ (.tup []) h1) (iC .eql 3 28 v3 (kI 0) ((qo b4 0 2).bind fun y12=>cT 167 [ro (.agg (List.map ro1 y12)),v1,v2] hp fun h2=>rQ (.tup []) h2) (iN v8 ((qo b4 0 2).bind fun y17=>cT 168 [ro (.agg (List.map ro1 y17)),v1,v2] hp fun h3=>bC .sub 3 40 v3 (kI 1) fun y20=>B96_11 v1 v2 y20 v8 v9 y4 b4 h3) (B96_11 v1 v2 v3 v8 v9 y4 b4 hp))):=eX qd
def B119_2:=gb 119 2 [x1,v5,v6] hp
theorem E119:run cxX 119 [a0,a1] hp=aS a0 fun y0=>B119_2 a1 (kI 0) y0 hp:=eE qd
theorem QY:B119_2 x1 v5 v6 hp=iT .lss 3 9 10 v5 v6 (bT .add 3 12 13 v5 v6 fun y3=>cV 3 132 y3 fun y4=>bC .shr 132 15 y4 (kU 1) fun y5=>cV 132 3 y5 fun y6=>(xN (ro x1)).bind fun y7=>cS y7.1 (y6::y7.2) hp fun y9 h1=>iN y9 (bC .add 3 22 y6 (kI 1) fun y12=>B119_2 x1 y12 v6 h1) (B119_2 x1 v5 y6 h1)) (rQ v5 hp):=eB qd
def B166_2:=gx 166 2 [v1,v2,.lp 3 0 0,v6] [(3,0,b3)] hp
def B166_5:=gx 166 5 [v1,v2,.lp 3 0 0,v6,v7] [(3,0,b3)] hp
def B166_7:=gx 166 7 [v1,v2,.lp 3 0 0,v6,v7] [(3,0,b3)] hp
def B166_3:=gx 166 3 [v1,v2,.lp 3 0 0,v6] [(3,0,b3)] hp
theorem E166:run cxX 166 [a0,a1,a2] hp=aS a1 fun y0=>aS a2 fun y1=>(qk 2 a0).bind fun y2=>bC .add 3 8 y0 (kI 1) fun y3=>B166_2 y0 y1 y3 (List.map ro1 y2) hp:=eE qd
theorem YS:B166_2 v1 v2 v6 b3 hp=iT .lss 3 10 11 v6 v2 (B166_5 v1 v2 v6 v6 b3 hp) (rQ (.tup []) hp):=eX qd
theorem qcu:B166_5 v1 v2 v6 v7 b3 hp=iT .gtr 3 16 17 v7 v1 ((qt b3 0).bind fun y8=>bC .sub 3 23 v7 (kI 1) fun y9=>(xN (ro1 y8)).bind fun y10=>cS y10.1 (v7::y9::y10.2) hp fun y12 h1=>iB y12 (B166_7 v1 v2 v6 v7 b3 h1) (B166_3 v1 v2 v6 b3 h1)) (B166_3 v1 v2 v6 b3 hp):=eX qd
theorem qr5:B166_7 v1 v2 v6 v7 b3 hp=(qt b3 1).bind fun y14=>bC .sub 3 32 v7 (kI 1) fun y15=>(xN (ro1 y14)).bind fun y16=>(wX Tryz.prog y16.1 (v7::y15::y16.2) hp).bind fun y17=>(yV 0 y17.1).bind fun y18=>bC .sub 3 27 v7 (kI 1) fun y19=>B166_5 v1 v2 v6 y19 b3 y17.2:=eX qd
theorem qr6:B166_3 v1 v2 v6 b3 hp=bC .add 3 13 v6 (kI 1) fun y20=>B166_2 v1 v2 y20 b3 hp:=eX qd
theorem E97:run cxX 97 [a0] hp=pA 174 [ro a0] fun z1=>rQ z1 hp:=eE qd
theorem E98:run cxX 98 [a0,a1] hp=aS a0 fun y0=>cV 3 125 y0 fun y1=>pA 175 [y1] fun z1=>pA 176 [ro a1] fun z2=>(zh 1 1 z1 z2).bind fun y10=>rQ y10 hp:=eE qd
theorem E99:run cxX 99 [a0,a1] hp=aS a0 fun y0=>cV 3 5 y0 fun y1=>(vh [y1]).bind fun y2=>pA 177 [kI 64,ro a1] fun z1=>(zh 1 1 (AV.us 1 [y1]) z1).bind fun y7=>rQ y7 hp:=eE qd
theorem E100:run cxX 100 [a0,a1,a2] hp=aS a0 fun y0=>aS a1 fun y1=>cV 3 125 y0 fun y2=>pA 175 [y2] fun z1=>cV 3 5 y1 fun y7=>ap 1 z1 y7 fun y9=>pA 178 [ro a2] fun z2=>(zh 1 1 y9 z2).bind fun y14=>rQ y14 hp:=eE qd
def B101_3:=gb 101 3 [v1,x2,x7,v8] hp
def B101_8:=gb 101 8 [v1,x2,x7,v8,v9] hp
theorem E101:run cxX 101 [a0,a1,a2] hp=aS a0 fun y0=>aS a1 fun y1=>cV 3 5 y0 fun y2=>(vh [y2]).bind fun y3=>cV 3 125 y1 fun y4=>pA 175 [y4] fun z1=>(zh 1 1 (AV.us 1 [y2]) z1).bind fun y9=>B101_3 y1 a2 y9 (kI 0) hp:=eE qd
theorem qc6:B101_3 v1 x2 x7 v8 hp=ln (ro x2) fun y10=>iT .lss 3 17 19 v8 (kI y10) (bT .rem 3 23 24 v8 v1 fun y13=>iC .gtr 3 25 y13 (kI 0) (bC .sub 3 28 v8 (kI 1) fun y16=>jO (ro x2) y16 fun y18=>cV 40 2 y18 fun y19=>B101_8 v1 x2 x7 v8 y19 hp) (B101_8 v1 x2 x7 v8 (kI 0) hp)) (rQ x7 hp):=eB qd
theorem qsh:B101_8 v1 x2 x7 v8 v9 hp=jO (ro x2) v8 fun y21=>cV 40 2 y21 fun y22=>bT .sub 2 38 39 y22 v9 fun y23=>pA 179 [y23] fun z1=>(zh 1 1 x7 z1).bind fun y28=>bC .add 3 21 v8 (kI 1) fun y29=>B101_3 v1 x2 y28 y29 hp:=eB qd
def B102_3:=gx 102 3 [v3,v4,x5,.lp 8 0 0,x13,v14] [(8,0,b8)] hp
def B102_11:=gb 102 11 [x5,x13,v15,v16] hp
theorem E102:run cxX 102 [a0,a1,a2,a3,a4,a5] hp=aS a0 fun y0=>aS a1 fun y1=>aS a3 fun y2=>aS a4 fun y3=>(qk 6 a2).bind fun y4=>cV 3 5 y0 fun y5=>(vh [y5]).bind fun y6=>cV 40 125 y1 fun y7=>pA 175 [y7] fun z1=>(zh 1 1 (AV.us 1 [y5]) z1).bind fun y12=>B102_3 y2 y3 a5 y12 (kI 0) (List.map ro1 y4) hp:=eE qd
theorem qc5:B102_3 v3 v4 x5 x13 v14 b8 hp=iC .lss 3 25 v14 (kI 6) ((idx 6 v14).bind fun y15=>(qi b8 (Nat.add 0 (Nat.add 0 y15))).bind fun y16=>cV 40 125 y16 fun y17=>pA 175 [y17] fun z1=>(zh 1 1 x13 z1).bind fun y22=>bC .add 3 27 v14 (kI 1) fun y23=>B102_3 v3 v4 x5 y22 y23 b8 hp) (pS 180 [v3] fun y27=>pA 175 [y27] fun z2=>(zh 1 1 x13 z2).bind fun y32=>pS 180 [v4] fun y36=>pA 175 [y36] fun z3=>(zh 1 1 y32 z3).bind fun y41=>ln (ro x5) fun y42=>cV 3 5 (kI y42) fun y43=>ap 1 y41 y43 fun y45=>B102_11 x5 y45 (kU 0) (kI 0) hp):=eX qd
theorem Wn:B102_11 x5 x13 v15 v16 hp=ln (ro x5) fun y46=>iT .lss 3 52 54 v16 (kI y46) (jO (ro x5) v16 fun y50=>pS 180 [y50] fun y54=>bT .sub 125 64 65 y54 v15 fun y55=>pA 175 [y55] fun z1=>(zh 1 1 x13 z1).bind fun y60=>bC .add 3 56 v16 (kI 1) fun y61=>B102_11 x5 y60 y54 y61 hp) (rQ x13 hp):=eB qd
theorem E47:run cxX 47 [a0] hp=(qk 23 a0).bind fun y0=>(qi (List.map ro1 y0) 0).bind fun y1=>iC .eql 27 5 y1 (kB 0) ((qt (List.map ro1 y0) 1).bind fun y4=>pA 97 [ro1 y4] fun z1=>rQ z1 hp) (iC .eql 27 5 y1 (kB 1) ((qi (List.map ro1 y0) 2).bind fun y11=>(qt (List.map ro1 y0) 3).bind fun y12=>pA 98 [y11,ro1 y12] fun z2=>rQ z2 hp) (iC .eql 27 5 y1 (kB 2) ((qi (List.map ro1 y0) 4).bind fun y19=>(qt (List.map ro1 y0) 5).bind fun y20=>pA 99 [y19,ro1 y20] fun z3=>rQ z3 hp) (iC .eql 27 5 y1 (kB 3) ((qi (List.map ro1 y0) 6).bind fun y27=>(qi (List.map ro1 y0) 7).bind fun y28=>(qt (List.map ro1 y0) 8).bind fun y29=>pA 100 [y27,y28,ro1 y29] fun z4=>rQ z4 hp) (iC .eql 27 5 y1 (kB 4) ((qi (List.map ro1 y0) 9).bind fun y36=>(qi (List.map ro1 y0) 10).bind fun y37=>(qt (List.map ro1 y0) 11).bind fun y38=>pA 101 [y36,y37,ro1 y38] fun z5=>rQ z5 hp) ((qo (List.map ro1 y0) 12 11).bind fun y43=>(qk 11 (.agg (List.map ro1 y43))).bind fun y44=>(qm zL3 0 y44).bind fun y45=>(qi y45 0).bind fun y46=>(qi y45 1).bind fun y47=>(qo y45 2 6).bind fun y48=>(qi y45 8).bind fun y49=>(qi y45 9).bind fun y50=>(qt y45 10).bind fun y51=>pA 102 [y46,y47,.agg (List.map ro1 y48),y49,y50,ro1 y51] fun z6=>rQ z6 hp))))):=eE qd
def B177_5:=gx 177 5 [x1,.lp 5 0 0,x6,v7,v8] [(5,0,b5)] hp
def B177_11:=gx 177 11 [x1,.lp 5 0 0,x6,v7,v8,v9] [(5,0,b5)] hp
theorem E177:run cxX 177 [a0,a1] hp=aS a0 fun y0=>cA 227 [y0] hp fun z1 h2=>(qk 1 z1).bind fun y3=>(qm [nl] 0 y3).bind fun y4=>(yc 1 1 (.ofNat 4) (.ofNat 4)).bind fun y5=>B177_5 a1 (AV.ms h2.1 0 0 (tN (.ofNat 4)) 1) (kU 4294967295) (kI 0) y4 (Hp.new h2 (yM (.ofNat 4) [kB 0])):=eE qd
theorem qcq:B177_5 x1 x6 v7 v8 b5 hp=ln (ro x1) fun y6=>iT .lss 3 14 16 v8 (kI y6) (jO (ro x1) v8 fun y10=>cV 5 3 y10 fun y11=>(qo b5 0 1).bind fun y12=>cS 228 [ro (.agg (List.map ro1 y12))] hp fun y14 h1=>cV 3 125 y14 fun y15=>bT .quo 125 25 28 v7 y15 fun y16=>(qo b5 0 1).bind fun y17=>cS 230 [ro (.agg (List.map ro1 y17)),y11] h1 fun y19 h2=>cV 3 125 y19 fun y20=>bT .mul 125 31 35 y16 y20 fun y21=>cA 229 [r2 x6,y21] h2 fun z3 h4=>(qt b5 0).bind fun y24=>(qN (ro1 y24)).bind fun y25=>(idx y25.2.2.2.1 y11).bind fun y26=>(jf y25.2.2.2.2 1).bind fun y27=>(Hp.rd h4 y25.1 y25.2.1).bind fun y28=>(qi y28 (Nat.add y25.2.2.1 (Nat.add 0 y26))).bind fun y29=>cV 3 125 y29 fun y30=>bT .mul 125 38 44 y16 y30 fun y31=>B177_11 x1 z3 y31 v8 y11 b5 h4) ((kO hp (ro x6)).bind fun y32=>rQ y32.1 y32.2):=eX qd
theorem Wl:B177_11 x1 x6 v7 v8 v9 b5 hp=iC .lss 125 46 v7 (kU 16777216) (bC .mul 125 48 v7 (kU 256) fun y35=>(vh [kB 0]).bind fun y36=>(zF 1 1 (ro x6) (AV.us 1 [kB 0]) hp).bind fun y37=>B177_11 x1 y37.1 y35 v8 v9 b5 y37.2) ((qo b5 0 1).bind fun y38=>cA 231 [ro (.agg (List.map ro1 y38)),v9] hp fun z1 h2=>(qk 1 z1).bind fun y41=>(qm b5 0 y41).bind fun y42=>bC .add 3 18 v8 (kI 1) fun y43=>B177_5 x1 x6 v7 y43 y42 h2):=eX qd
def B227_3:=gx 227 3 [v0,.lp 2 0 0,.lp 3 0 0,v4] [(2,0,b2),(3,0,b3)] hp
theorem E227:run cxX 227 [a0] hp=aS a0 fun y0=>B227_3 y0 (kI 0) [nl] [nl] hp:=eE qd
theorem YN:B227_3 v0 v4 b2 b3 hp=iT .lss 3 5 6 v4 v0 ((qt b3 0).bind fun y3=>(vh [kI 1]).bind fun y4=>(zF 8 1 (ro1 y3) (AV.us 1 [kI 1]) hp).bind fun y5=>(qk 1 y5.1).bind fun y6=>(qm b3 0 y6).bind fun y7=>bC .add 3 8 v4 (kI 1) fun y8=>B227_3 v0 y8 b2 y7 y5.2) ((qo b3 0 1).bind fun y9=>(qm b3 0 (List.map ro1 y9)).bind fun y10=>(qk 1 (.agg y9)).bind fun y11=>(qm b2 0 y11).bind fun y12=>(qo y12 0 1).bind fun y13=>rQ (.agg y13) hp):=eX qd
def B228_3:=gx 228 3 [.lp 1 0 0,v3,v4] [(1,0,b1)] hp
theorem E228:run cxX 228 [a0] hp=(qk 1 a0).bind fun y0=>B228_3 (kI 0) (kI 0) (List.map ro1 y0) hp:=eE qd
theorem qch:B228_3 v3 v4 b1 hp=(qt b1 0).bind fun y1=>ln (ro1 y1) fun y2=>iT .lss 3 5 8 v4 (kI y2) ((qt b1 0).bind fun y5=>(qN (ro1 y5)).bind fun y6=>(idx y6.2.2.2.1 v4).bind fun y7=>(jf y6.2.2.2.2 1).bind fun y8=>(Hp.rd hp y6.1 y6.2.1).bind fun y9=>(qi y9 (Nat.add y6.2.2.1 (Nat.add 0 y7))).bind fun y10=>bT .add 3 12 17 v3 y10 fun y11=>bC .add 3 10 v4 (kI 1) fun y12=>B228_3 y11 y12 b1 hp) (rQ v3 hp):=eX qd
def B229_3:=gb 229 3 [x0,v5,v6] hp
def B229_5:=gb 229 5 [x0,v5,v6] hp
def B229_8:=gb 229 8 [x0] hp
theorem E229:run cxX 229 [a0,a1] hp=aS a1 fun y0=>ln (ro a0) fun y1=>bC .sub 3 10 (kI y1) (kI 1) fun y2=>B229_3 a0 y0 y2 hp:=eE qd
theorem qcg:B229_3 x0 v5 v6 hp=iC .geq 3 12 v6 (kI 0) (iC .gtr 125 15 v5 (kU 0) (B229_5 x0 v5 v6 hp) (B229_8 x0 hp)) (B229_8 x0 hp):=eB qd
theorem qrh:B229_5 x0 v5 v6 hp=(qN (ro x0)).bind fun y7=>(idx y7.2.2.2.1 v6).bind fun y8=>(jf y7.2.2.2.2 1).bind fun y9=>(Hp.rd hp y7.1 y7.2.1).bind fun y10=>(qi y10 (Nat.add y7.2.2.1 (Nat.add 0 y8))).bind fun y11=>cV 5 125 y11 fun y12=>bC .rem 125 25 v5 (kU 256) fun y13=>bT .add 125 24 26 y12 y13 fun y14=>bC .rem 125 30 y14 (kU 256) fun y15=>cV 125 5 y15 fun y16=>(qN (ro x0)).bind fun y17=>(idx y17.2.2.2.1 v6).bind fun y18=>(jf y17.2.2.2.2 1).bind fun y19=>(Hp.rd hp y17.1 y17.2.1).bind fun y20=>(qm y20 (Nat.add y17.2.2.1 (Nat.add 0 y18)) [y16]).bind fun y21=>bC .quo 125 34 v5 (kU 256) fun y22=>bC .quo 125 36 y14 (kU 256) fun y23=>bT .add 125 35 37 y22 y23 fun y24=>bC .sub 3 18 v6 (kI 1) fun y25=>B229_3 x0 y24 y25 (Hp.put hp y17.1 y17.2.1 y21):=eB qd
theorem qcf:B229_8 x0 hp=rQ x0 hp:=eB qd
def B230_3:=gx 230 3 [v1,.lp 2 0 0,v5,v6] [(2,0,b2)] hp
theorem E230:run cxX 230 [a0,a1] hp=aS a1 fun y0=>(qk 1 a0).bind fun y1=>B230_3 y0 (kI 0) (kI 0) (List.map ro1 y1) hp:=eE qd
theorem qce:B230_3 v1 v5 v6 b2 hp=iT .lss 3 7 8 v6 v1 ((qt b2 0).bind fun y4=>(qN (ro1 y4)).bind fun y5=>(idx y5.2.2.2.1 v6).bind fun y6=>(jf y5.2.2.2.2 1).bind fun y7=>(Hp.rd hp y5.1 y5.2.1).bind fun y8=>(qi y8 (Nat.add y5.2.2.1 (Nat.add 0 y6))).bind fun y9=>bT .add 3 12 17 v5 y9 fun y10=>bC .add 3 10 v6 (kI 1) fun y11=>B230_3 v1 y10 y11 b2 hp) (rQ v5 hp):=eX qd
def B231_5:=gx 231 5 [.lp 4 0 0,.lp 5 0 0,v6] [(4,0,b4),(5,0,b5)] hp
def B231_8:=gx 231 8 [.lp 4 0 0,.lp 5 0 0] [(4,0,b4),(5,0,b5)] hp
theorem E231:run cxX 231 [a0,a1] hp=aS a1 fun y0=>(qk 1 a0).bind fun y1=>(vh []).bind fun y2=>(qt (List.map ro1 y1) 0).bind fun y3=>(zF 8 1 (AV.us 1 []) (ro1 y3) hp).bind fun y4=>(qk 1 y4.1).bind fun y5=>(qm [nl] 0 y5).bind fun y6=>(qk 1 (.agg (List.map ro1 y6))).bind fun y7=>(qm [nl] 0 y7).bind fun y8=>(qt y8 0).bind fun y9=>(qt y8 0).bind fun y10=>(qN (ro1 y10)).bind fun y11=>(idx y11.2.2.2.1 y0).bind fun y12=>(jf y11.2.2.2.2 1).bind fun y13=>(Hp.rd y4.2 y11.1 y11.2.1).bind fun y14=>(qi y14 (Nat.add y11.2.2.1 (Nat.add 0 y12))).bind fun y15=>bC .add 3 19 y15 (kI 24) fun y16=>(qN (ro1 y9)).bind fun y17=>(idx y17.2.2.2.1 y0).bind fun y18=>(jf y17.2.2.2.2 1).bind fun y19=>(Hp.rd y4.2 y17.1 y17.2.1).bind fun y20=>(qm y20 (Nat.add y17.2.2.1 (Nat.add 0 y18)) [y16]).bind fun y21=>(qo y8 0 1).bind fun y22=>cS 228 [ro (.agg (List.map ro1 y22))] (Hp.put y4.2 y17.1 y17.2.1 y21) fun y24 h1=>iC .gtr 3 23 y24 (kI 4096) (B231_5 (kI 0) [nl] y8 h1) (B231_8 [nl] y8 h1):=eE qd
theorem qcd:B231_5 v6 b4 b5 hp=(qt b5 0).bind fun y27=>ln (ro1 y27) fun y28=>iT .lss 3 25 28 v6 (kI y28) ((qt b5 0).bind fun y31=>(qt b5 0).bind fun y32=>(qN (ro1 y32)).bind fun y33=>(idx y33.2.2.2.1 v6).bind fun y34=>(jf y33.2.2.2.2 1).bind fun y35=>(Hp.rd hp y33.1 y33.2.1).bind fun y36=>(qi y36 (Nat.add y33.2.2.1 (Nat.add 0 y34))).bind fun y37=>bC .add 3 39 y37 (kI 1) fun y38=>bC .quo 3 40 y38 (kI 2) fun y39=>(qN (ro1 y31)).bind fun y40=>(idx y40.2.2.2.1 v6).bind fun y41=>(jf y40.2.2.2.2 1).bind fun y42=>(Hp.rd hp y40.1 y40.2.1).bind fun y43=>(qm y43 (Nat.add y40.2.2.1 (Nat.add 0 y41)) [y39]).bind fun y44=>bC .add 3 30 v6 (kI 1) fun y45=>B231_5 y45 b4 b5 (Hp.put hp y40.1 y40.2.1 y44)) (B231_8 b4 b5 hp):=eX qd
theorem qcc:B231_8 b4 b5 hp=(qo b5 0 1).bind fun y46=>(qm b5 0 (List.map ro1 y46)).bind fun y47=>(qk 1 (.agg y46)).bind fun y48=>(qm b4 0 y48).bind fun y49=>(qo y49 0 1).bind fun y50=>rQ (.agg y50) hp:=eX qd
theorem E23:run cxX 23 [a0] hp=aS a0 fun y0=>(yK Tryz.prog Go.Builtin.max (Array.mk [3,3]) 3 [y0,kI 0]).bind fun y1=>rQ (AV.ptr hp.1 0 0) (Hp.new hp [kI 0,y1]):=eE qd
theorem E24:run cxX 24 [a0] hp=iZ (ro a0) (rQ (kI 0) hp) (ldS 0 (ro a0) hp fun y4=>rQ y4 hp):=eE qd
theorem E103:run cxX 103 [a0,a1] hp=aS a1 fun y0=>iZ (ro a0) (rQ (kI 0) hp) ((yK Tryz.prog Go.Builtin.max (Array.mk [3,3]) 3 [y0,kI 0]).bind fun y2=>ldS 1 (ro a0) hp fun y6=>ldS 0 (ro a0) hp fun y10=>bT .sub 3 13 17 y6 y10 fun y11=>iT .gtr 3 9 18 y2 y11 (rQ (kI 14) hp) (ldS 0 (ro a0) hp fun y17=>bT .add 3 23 24 y17 y2 fun y18=>stN 0 (ro a0) hp [y18] fun h1=>rQ (kI 0) h1)):=eE qd
end
end Go.Proofs.YtoliekekdmfngaaGreat.AI
