/- Texts that the proof of BoxOrders rests on, part 6. -/
import Derived.Test.YtoliekekdmfngaaGreatQBoxOrders3
import Derived.KernelRfl
namespace Go.Proofs.YtoliekekdmfngaaGreat.AI
open Go
set_option linter.unusedVariables false
set_option linter.unusedSimpArgs false
set_option maxRecDepth 100000
set_option maxHeartbeats 0
noncomputable section
variable (a0 a1 a2:AV)(v0:Value)(x0:AV)(v1:Value)(x1:AV)(v2 v3 v4:Value)(x4:AV)(v5:Value)(x5:AV)(v6:Value)(x6:AV)(v7:Value)(x7:AV)(v8:Value)(x8:AV)(v9:Value)(x9:AV)(v10 v11:Value)(x11:AV)(v12 v13:Value)(x15:AV)(v16 v17:Value)(x17:AV)(v18 v19:Value)(x19:AV)(v20 v21 v22:Value)(x22:AV)(v23:Value)(x23:AV)(v24:Value)(x24:AV)(v25 v26 v27 v29 v30 v52 v53:Value)(b1 b2 b3 b4 b5 b6 b7:List AV)(hp:Hp)
def B54_4:=gb 54 4 [x0,v3] hp
theorem E54:run cxX 54 [a0] hp=ln (ro a0) fun y0=>iC .gtr 3 5 (kI y0) (kI 4096) (rQ (kI 7) hp) (B54_4 a0 (kI 1) hp):=eE qe
theorem Vl:B54_4 x0 v3 hp=ln (ro x0) fun y3=>iT .lss 3 7 9 v3 (kI y3) (jK (ro x0) v3 fun y7=>bC .sub 3 18 v3 (kI 1) fun y8=>jK (ro x0) y8 fun y10=>iT .leq 40 16 21 y7 y10 (rQ (kI 8) hp) (bC .add 3 11 v3 (kI 1) fun y13=>B54_4 x0 y13 hp)) (rQ (kI 0) hp):=eB qe
def B113_4:=gb 113 4 [x0,x1,v12,v13] hp
theorem E113:run cxX 113 [a0,a1] hp=ln (ro a0) fun y0=>ln (ro a1) fun y1=>iT .neq 3 7 9 (kI y0) (kI y1) (rQ (.sc (.bool false)) hp) (ln (ro a0) fun y4=>B113_4 a0 a1 (kI y4) (kI 0) hp):=eE qe
theorem qbp:B113_4 x0 x1 v12 v13 hp=iT .lss 3 13 12 v13 v12 (jK (ro x0) v13 fun y8=>jK (ro x1) v13 fun y10=>iT .neq 40 19 23 y8 y10 (rQ (.sc (.bool false)) hp) (bC .add 3 13 v13 (kI 1) fun y13=>B113_4 x0 x1 v12 y13 hp)) (rQ (.sc (.bool true)) hp):=eB qe
def B125_3:=gb 125 3 [x4,x8,v9,v10] hp
def B125_6:=gb 125 6 [x4,v6,v7,x8,v9,v10] hp
def B125_7:=gb 125 7 [x4,v6,v7,x8,v9,v10] hp
def B125_9:=gb 125 9 [x4,v6,v7,x8,v9,v10] hp
def B125_14:=gb 125 14 [x4,x8,v9,v10] hp
theorem E125:run cxX 125 [a0] hp=ln (ro a0) fun y0=>B125_3 nl (ro a0) (kI y0) (kI 0) hp:=eE qe
theorem Yk:B125_3 x4 x8 v9 v10 hp=iT .lss 3 10 9 v10 v9 (jK x8 v10 fun y4=>ln (ro x4) fun y5=>B125_6 x4 y4 (kI y5) x8 v9 v10 hp) ((we hp (ro x4)).bind fun y6=>rQ (.tup [y6.1,kI 0]) y6.2):=eB qe
theorem qbi:B125_6 x4 v6 v7 x8 v9 v10 hp=iC .gtr 3 16 v7 (kI 0) (bC .sub 3 20 v7 (kI 1) fun y9=>(qK (ro x4)).bind fun y10=>(idx y10.2.2.2.1 y9).bind fun y11=>(jo y10.2.2.2.2 1).bind fun y12=>(Hp.rd hp y10.1 y10.2.1).bind fun y13=>(qj y13 (Nat.add y10.2.2.1 (Nat.add 0 y11))).bind fun y14=>iT .geq 40 23 24 y14 v6 (B125_7 x4 v6 v7 x8 v9 v10 hp) (B125_9 x4 v6 v7 x8 v9 v10 hp)) (B125_9 x4 v6 v7 x8 v9 v10 hp):=eB qe
theorem qbh:B125_7 x4 v6 v7 x8 v9 v10 hp=bC .sub 3 27 v7 (kI 1) fun y17=>(qK (ro x4)).bind fun y18=>(idx y18.2.2.2.1 y17).bind fun y19=>(jo y18.2.2.2.2 1).bind fun y20=>(Hp.rd hp y18.1 y18.2.1).bind fun y21=>(qj y21 (Nat.add y18.2.2.1 (Nat.add 0 y19))).bind fun y22=>iT .eql 40 32 33 y22 v6 (B125_14 x4 x8 v9 v10 hp) (B125_6 x4 v6 y17 x8 v9 v10 hp):=eB qe
theorem qqs:B125_9 x4 v6 v7 x8 v9 v10 hp=ln (ro x4) fun y25=>iC .eql 3 36 (kI y25) (kI 4096) (rQ (.tup [nl,kI 7]) hp) ((kC [kW 0]).bind fun y28=>(zV 4 1 (ro x4) (AV.us 1 [kW 0]) hp).bind fun y29=>bC .add 3 42 v7 (kI 1) fun y30=>(qK (ro y29.1)).bind fun y31=>(qC (.ofNat 0) (.ofNat y31.2.2.2.1) none y31.2.2.2.1).bind fun y32=>(qC (.ofNat 0) (.ofNat y32) none y31.2.2.2.1).bind fun y33=>(qC (.ofNat 0) (.ofNat y33) (Option.some y30) 0).bind fun y34=>(jo y31.2.2.2.2 1).bind fun y35=>(qK (ro y29.1)).bind fun y36=>(qC (.ofNat 0) (.ofNat y36.2.2.2.1) none y36.2.2.2.1).bind fun y37=>(qC (.ofNat 0) (.ofNat y37) none y36.2.2.2.1).bind fun y38=>(qC (.ofNat 0) (.ofNat y38) (Option.some v7) 0).bind fun y39=>(jo y36.2.2.2.2 1).bind fun y40=>(jo 1 1).bind fun y41=>(xm y29.2 1 (AV.ms y36.1 y36.2.1 (Nat.add y36.2.2.1 (Nat.add 0 y39)) (Nat.sub y38 y39) 1)).bind fun y42=>(Hp.rd y29.2 y31.1 y31.2.1).bind fun y43=>(qm y43 (Nat.add y31.2.2.1 (Nat.add 0 y34)) (Je 1 (Nat.sub y33 y34) y42).2).bind fun y44=>(qK (ro y29.1)).bind fun y45=>(idx y45.2.2.2.1 v7).bind fun y46=>(jo y45.2.2.2.2 1).bind fun y47=>(Hp.rd (Hp.put y29.2 y31.1 y31.2.1 y44) y45.1 y45.2.1).bind fun y48=>(qm y48 (Nat.add y45.2.2.1 (Nat.add 0 y46)) [v6]).bind fun y49=>B125_14 y29.1 x8 v9 v10 (Hp.put (Hp.put y29.2 y31.1 y31.2.1 y44) y45.1 y45.2.1 y49)):=eB qe
theorem qkn:B125_14 x4 x8 v9 v10 hp=bC .add 3 10 v10 (kI 1) fun y50=>B125_3 x4 x8 v9 y50 hp:=eB qe
def B60_3:=gb 60 3 [v1,x6,x9,v10,v11] hp
def B60_7:=gb 60 7 [v1,x6,v8,x9,v10,v11] hp
theorem E60:run cxX 60 [a0,a1] hp=aS a1 fun y0=>ln (ro a0) fun y1=>B60_3 y0 nl (ro a0) (kI y1) (kI 0) hp:=eE qe
theorem qhd:B60_3 v1 x6 x9 v10 v11 hp=iT .lss 3 11 10 v11 v10 (jK x9 v11 fun y5=>iB v1 (bC .rem 40 16 y5 (kW 50) fun y7=>B60_7 v1 x6 y7 x9 v10 v11 hp) (B60_7 v1 x6 y5 x9 v10 v11 hp)) (pT 2 125 [ro x6] fun z1=>aS (js z1 1) fun y12=>rQ (.tup [js z1 0,y12]) hp):=eB qe
theorem qv9:B60_7 v1 x6 v8 x9 v10 v11 hp=ap 4 x6 v8 fun y14=>bC .add 3 11 v11 (kI 1) fun y15=>B60_3 v1 y14 x9 v10 y15 hp:=eB qe
def B55_2:=gb 55 2 [] hp
def B55_3:=gx 55 3 [.lp 1 0 0] [(1,0,b1)] hp
theorem E55:run cxX 55 [a0] hp=(ql 2 a0).bind fun y0=>(qj (List.map ro1 y0) 0).bind fun y1=>iC .lss 3 5 y1 (kI 1) (B55_2 hp) ((qj (List.map ro1 y0) 0).bind fun y4=>iC .gtr 3 9 y4 (kI 1024) (B55_2 hp) (B55_3 (List.map ro1 y0) hp)):=eE qe
theorem qhm:B55_2 hp=rQ (kI 2) hp:=eB qe
theorem qhl:B55_3 b1 hp=(qo b1 1).bind fun y7=>ln (ro1 y7) fun y8=>(qj b1 0).bind fun y9=>iT .gtr 3 15 17 (kI y8) y9 (rQ (kI 7) hp) ((qo b1 1).bind fun y12=>pS 122 [ro1 y12] fun y16=>rQ y16 hp):=eX qe
def B114_2:=gb 114 2 [] hp
def B114_3:=gx 114 3 [.lp 2 0 0,.lp 3 0 0] [(2,0,b2),(3,0,b3)] hp
def B114_4:=gx 114 4 [.lp 2 0 0,.lp 3 0 0,v22,v23] [(2,0,b2),(3,0,b3)] hp
theorem E114:run cxX 114 [a0,a1] hp=(ql 2 a0).bind fun y0=>(ql 2 a1).bind fun y1=>(qj (List.map ro1 y0) 0).bind fun y2=>(qj (List.map ro1 y1) 0).bind fun y3=>iT .neq 3 7 9 y2 y3 (B114_2 hp) ((qo (List.map ro1 y0) 1).bind fun y6=>ln (ro1 y6) fun y7=>(qo (List.map ro1 y1) 1).bind fun y8=>ln (ro1 y8) fun y9=>iT .neq 3 14 17 (kI y7) (kI y9) (B114_2 hp) (B114_3 (List.map ro1 y0) (List.map ro1 y1) hp)):=eE qe
theorem qbo:B114_2 hp=rQ (.sc (.bool false)) hp:=eB qe
theorem qqx:B114_3 b2 b3 hp=(qo b2 1).bind fun y12=>ln (ro1 y12) fun y13=>B114_4 (kI y13) (kI 0) b2 b3 hp:=eX qe
theorem qbn:B114_4 v22 v23 b2 b3 hp=iT .lss 3 23 22 v23 v22 ((qo b2 1).bind fun y16=>jK (ro1 y16) v23 fun y18=>(qo b3 1).bind fun y19=>jK (ro1 y19) v23 fun y21=>iT .neq 125 30 35 y18 y21 (rQ (.sc (.bool false)) hp) (bC .add 3 23 v23 (kI 1) fun y24=>B114_4 v22 y24 b2 b3 hp)) (rQ (.sc (.bool true)) hp):=eX qe
theorem E126:run cxX 126 [a0,a1] hp=aS a1 fun y0=>(ql 2 a0).bind fun y1=>(qn (List.map ro1 y1) 0 2).bind fun y2=>(qj (List.map ro1 y1) 0).bind fun y3=>(kC [y0]).bind fun y4=>pA 194 [.agg (List.map ro1 y2),.agg [y3,ro1 (AV.us 1 [y0])]] fun z1=>(ql 2 z1).bind fun y9=>(qm [kI 0,nl] 0 y9).bind fun y10=>(qn y10 0 2).bind fun y11=>rQ (.agg y11) hp:=eE qe
def B194_3:=gx 194 3 [.lp 2 0 0,.lp 4 0 0,.lp 5 0 0,x6,x7] [(2,0,b2),(4,0,b4),(5,0,b5)] hp
def B194_5:=gx 194 5 [.lp 2 0 0,.lp 4 0 0,.lp 5 0 0,x6,x7] [(2,0,b2),(4,0,b4),(5,0,b5)] hp
def B194_9:=gx 194 9 [.lp 4 0 0,.lp 5 0 0] [(4,0,b4),(5,0,b5)] hp
def B194_6:=gx 194 6 [.lp 2 0 0,.lp 4 0 0,.lp 5 0 0,x6,x7] [(2,0,b2),(4,0,b4),(5,0,b5)] hp
def B194_7:=gx 194 7 [.lp 2 0 0,.lp 4 0 0,.lp 5 0 0,x6,x7] [(2,0,b2),(4,0,b4),(5,0,b5)] hp
def B194_8:=gx 194 8 [.lp 2 0 0,.lp 4 0 0,.lp 5 0 0,x6,x7] [(2,0,b2),(4,0,b4),(5,0,b5)] hp
def B194_4:=gx 194 4 [.lp 2 0 0,.lp 4 0 0,.lp 5 0 0,x6,x7] [(2,0,b2),(4,0,b4),(5,0,b5)] hp
theorem E194:run cxX 194 [a0,a1] hp=(ql 2 a0).bind fun y0=>(ql 2 a1).bind fun y1=>(qj (List.map ro1 y0) 0).bind fun y2=>(qo (List.map ro1 y0) 1).bind fun y3=>(qo (List.map ro1 y1) 1).bind fun y4=>B194_3 (ro1 y3) (ro1 y4) (List.map ro1 y0) [kI 0,nl] [y2,nl] hp:=eE qe
theorem qp7:B194_3 x6 x7 b2 b4 b5 hp=(qo b5 1).bind fun y5=>ln (ro1 y5) fun y6=>(qj b2 0).bind fun y7=>iT .lss 3 17 19 (kI y6) y7 (ln (ro x6) fun y10=>ln (ro x7) fun y11=>bT .add 3 23 25 (kI y10) (kI y11) fun y12=>iC .gtr 3 26 y12 (kI 0) (B194_5 x6 x7 b2 b4 b5 hp) (B194_9 b4 b5 hp)) (B194_9 b4 b5 hp):=eX qe
theorem vn:B194_5 x6 x7 b2 b4 b5 hp=ln (ro x7) fun y15=>iC .eql 3 43 (kI y15) (kI 0) (B194_6 x6 x7 b2 b4 b5 hp) (ln (ro x6) fun y18=>iC .gtr 3 47 (kI y18) (kI 0) (jK (ro x6) (kI 0) fun y22=>jK (ro x7) (kI 0) fun y24=>iT .lss 125 52 55 y22 y24 (B194_6 x6 x7 b2 b4 b5 hp) (B194_7 x6 x7 b2 b4 b5 hp)) (B194_7 x6 x7 b2 b4 b5 hp)):=eX qe
theorem qp3:B194_9 b4 b5 hp=(qn b5 0 2).bind fun y27=>(qm b5 0 (List.map ro1 y27)).bind fun y28=>(ql 2 (.agg y27)).bind fun y29=>(qm b4 0 y29).bind fun y30=>(qn y30 0 2).bind fun y31=>rQ (.agg y31) hp:=eX qe
theorem qp5:B194_6 x6 x7 b2 b4 b5 hp=(qo b5 1).bind fun y32=>jK (ro x6) (kI 0) fun y34=>ap 8 y32 y34 fun y36=>(jb 1 (ro x6) (Option.some (kI 1)) none none).bind fun y37=>(ql 1 y36).bind fun y38=>(qm (List.set b5 1 (ro1 y32)) 1 y38).bind fun y39=>B194_3 y37 x7 b2 b4 y39 hp:=eX qe
theorem Yg:B194_7 x6 x7 b2 b4 b5 hp=ln (ro x6) fun y40=>iC .eql 3 71 (kI y40) (kI 0) (B194_8 x6 x7 b2 b4 b5 hp) (jK (ro x7) (kI 0) fun y44=>jK (ro x6) (kI 0) fun y46=>iT .lss 125 76 79 y44 y46 (B194_8 x6 x7 b2 b4 b5 hp) (B194_4 x6 x7 b2 b4 b5 hp)):=eX qe
theorem qp4:B194_8 x6 x7 b2 b4 b5 hp=(qo b5 1).bind fun y49=>jK (ro x7) (kI 0) fun y51=>ap 8 y49 y51 fun y53=>(jb 1 (ro x7) (Option.some (kI 1)) none none).bind fun y54=>(ql 1 y53).bind fun y55=>(qm (List.set b5 1 (ro1 y49)) 1 y55).bind fun y56=>B194_3 x6 y54 b2 b4 y56 hp:=eX qe
theorem qp6:B194_4 x6 x7 b2 b4 b5 hp=(qo b5 1).bind fun y57=>jK (ro x6) (kI 0) fun y59=>ap 8 y57 y59 fun y61=>(jb 1 (ro x6) (Option.some (kI 1)) none none).bind fun y62=>(jb 1 (ro x7) (Option.some (kI 1)) none none).bind fun y63=>(ql 1 y61).bind fun y64=>(qm (List.set b5 1 (ro1 y57)) 1 y64).bind fun y65=>B194_3 y62 y63 b2 b4 y65 hp:=eX qe
def B71_7:=gb 71 7 [x0,v5,x6,v20,v21] hp
theorem E71:run cxX 71 [a0] hp=pS 122 [ro a0] fun y3=>iC .neq 50 12 y3 (kI 0) (rQ (.tup [nl,y3]) hp) (pS 141 [ro a0] fun y9=>ln (ro a0) fun y10=>B71_7 a0 y9 (AV.ptr hp.1 0 0) (kI y10) (kI 0) (Hp.new hp [nl,kI 0])):=eE qe
theorem qg5:B71_7 x0 v5 x6 v20 v21 hp=iT .lss 3 21 20 v21 v20 (pS 142 [ro x0,v21] fun y16=>bT .shr 125 28 29 y16 v5 fun y17=>cV 125 3 y17 fun y18=>cT 143 [r2 x6,y18] hp fun h1=>cT 144 [r2 x6,y16,v5] h1 fun h2=>bC .add 3 21 v21 (kI 1) fun y23=>B71_7 x0 v5 x6 v20 y23 h2) (ln (ro x0) fun y24=>cV 3 125 (kI y24) fun y25=>cT 70 [r2 (AV.ptr hp.1 0 0),y25] (Hp.new hp [nl]) fun h3=>cV 3 5 v5 fun y28=>cT 73 [r2 (AV.ptr hp.1 0 0),y28] h3 fun h4=>cA 145 [r2 x6] h4 fun z5 h6=>ln z5 fun y33=>cV 3 125 (kI y33) fun y34=>cT 70 [r2 (AV.ptr hp.1 0 0),y34] h6 fun h7=>cA 145 [r2 x6] h7 fun z8 h9=>cT 72 [r2 (AV.ptr hp.1 0 0),ro z8] h9 fun h10=>cA 79 [r2 (AV.ptr hp.1 0 0)] h10 fun z11 h12=>rQ (.tup [z11,kI 0]) h12):=eB qe
def B122_4:=gb 122 4 [x0,v3] hp
theorem E122:run cxX 122 [a0] hp=ln (ro a0) fun y0=>iC .gtr 3 5 (kI y0) (kI 4096) (rQ (kI 7) hp) (B122_4 a0 (kI 1) hp):=eE qe
theorem Yl:B122_4 x0 v3 hp=ln (ro x0) fun y3=>iT .lss 3 7 9 v3 (kI y3) (jK (ro x0) v3 fun y7=>bC .sub 3 18 v3 (kI 1) fun y8=>jK (ro x0) y8 fun y10=>iT .leq 125 16 21 y7 y10 (rQ (kI 8) hp) (bC .add 3 11 v3 (kI 1) fun y13=>B122_4 x0 y13 hp)) (rQ (kI 0) hp):=eB qe
def B141_3:=gb 141 3 [x0,v3,v4,v8] hp
def B141_7:=gb 141 7 [x0,v5,v6,v8] hp
def B141_8:=gb 141 8 [x0,v3,v4,v8] hp
theorem E141:run cxX 141 [a0] hp=B141_3 a0 (kI 63) (.int .i64 (.negSucc 0)) (kI 0) hp:=eE qe
theorem qbb:B141_3 x0 v3 v4 v8 hp=iC .lss 3 8 v8 (kI 64) (pT 2 208 [ro x0,v8] fun z1=>nS z1 0 fun y6=>nS z1 1 fun y7=>iB y7 (iC .lss 3 19 v4 (kI 0) (B141_7 x0 v8 y6 v8 hp) (iT .lss 3 22 23 y6 v4 (B141_7 x0 v8 y6 v8 hp) (B141_8 x0 v3 v4 v8 hp))) (B141_8 x0 v3 v4 v8 hp)) (rQ v3 hp):=eB qe
theorem qba:B141_7 x0 v5 v6 v8 hp=B141_8 x0 v5 v6 v8 hp:=eB qe
theorem qqi:B141_8 x0 v3 v4 v8 hp=bC .add 3 8 v8 (kI 1) fun y13=>B141_3 x0 v3 v4 y13 hp:=eB qe
theorem E142:run cxX 142 [a0,a1] hp=aS a1 fun y0=>iC .eql 3 5 y0 (kI 0) (jK (ro a0) (kI 0) fun y4=>rQ y4 hp) (jK (ro a0) y0 fun y6=>bC .sub 3 15 y0 (kI 1) fun y7=>jK (ro a0) y7 fun y9=>bT .sub 125 13 18 y6 y9 fun y10=>bC .sub 125 19 y10 (kU 1) fun y11=>rQ y11 hp):=eE qe
def B208_3:=gb 208 3 [x0,v1,v6,v10,v11] hp
theorem E208:run cxX 208 [a0,a1] hp=aS a1 fun y0=>ln (ro a0) fun y1=>B208_3 a0 y0 (kI 0) (kI y1) (kI 0) hp:=eE qe
theorem qaz:B208_3 x0 v1 v6 v10 v11 hp=iT .lss 3 11 10 v11 v10 (pS 142 [ro x0,v11] fun y7=>bT .shr 125 16 17 y7 v1 fun y8=>iC .gtr 125 19 y8 (kU 4096) (rQ (.tup [kI 0,.sc (.bool false)]) hp) (cV 125 3 y8 fun y11=>bC .add 3 23 y11 (kI 1) fun y12=>bT .add 3 24 25 y12 v1 fun y13=>bT .add 3 21 26 v6 y13 fun y14=>bC .add 3 11 v11 (kI 1) fun y15=>B208_3 x0 v1 y14 v10 y15 hp)) (rQ (.tup [v6,.sc (.bool true)]) hp):=eB qe
def B61_3:=gx 61 3 [v2,.lp 6 0 0,.lp 7 0 0,x15,v16,v17] [(6,0,b6),(7,0,b7)] hp
def B61_7:=gx 61 7 [v2,.lp 6 0 0,.lp 7 0 0,v9,x15,v16,v17] [(6,0,b6),(7,0,b7)] hp
theorem E61:run cxX 61 [a0,a1,a2] hp=aS a0 fun y0=>aS a2 fun y1=>bC .rem 5 10 y0 (kB 20) fun y2=>cV 5 3 y2 fun y3=>bG .add 3 (.const (kI 1)) (.tmp 12) (kI 1) y3 fun y4=>ln (ro a1) fun y5=>B61_3 y1 (ro a1) (kI y5) (kI 0) [kI 0,nl] [y4,nl] hp:=eE qe
theorem qhc:B61_3 v2 x15 v16 v17 b6 b7 hp=iT .lss 3 17 16 v17 v16 (jK x15 v17 fun y9=>iB v2 (bC .rem 125 22 y9 (kU 30) fun y11=>B61_7 v2 y11 x15 v16 v17 b6 b7 hp) (B61_7 v2 y9 x15 v16 v17 b6 b7 hp)) ((qn b7 0 2).bind fun y12=>(qm b7 0 (List.map ro1 y12)).bind fun y13=>(ql 2 (.agg y12)).bind fun y14=>(qm b6 0 y14).bind fun y15=>(qn y15 0 2).bind fun y16=>rQ (.agg y16) hp):=eX qe
theorem qv8:B61_7 v2 v9 x15 v16 v17 b6 b7 hp=(qn b7 0 2).bind fun y17=>pA 126 [.agg (List.map ro1 y17),v9] fun z1=>(ql 2 z1).bind fun y22=>(qm b7 0 y22).bind fun y23=>bC .add 3 17 v17 (kI 1) fun y24=>B61_3 v2 x15 v16 y24 b6 y23 hp:=eX qe
def B56_2:=gb 56 2 [] hp
def B56_3:=gx 56 3 [.lp 1 0 0] [(1,0,b1)] hp
def B56_6:=gx 56 6 [.lp 1 0 0,x23,v24,v25] [(1,0,b1)] hp
theorem E56:run cxX 56 [a0] hp=(ql 2 a0).bind fun y0=>(qj (List.map ro1 y0) 0).bind fun y1=>iC .lss 3 7 y1 (kI 4) (B56_2 hp) ((qj (List.map ro1 y0) 0).bind fun y4=>iC .gtr 3 11 y4 (kI 8) (B56_2 hp) (B56_3 (List.map ro1 y0) hp)):=eE qe
theorem qhk:B56_2 hp=rQ (kI 2) hp:=eB qe
theorem qhj:B56_3 b1 hp=(qo b1 1).bind fun y7=>ln (ro1 y7) fun y8=>(qj b1 0).bind fun y9=>bG .shl 3 (.const (kI 1)) (.tmp 19) (kI 1) y9 fun y10=>iT .neq 3 17 20 (kI y8) y10 (rQ (kI 6) hp) ((qo b1 1).bind fun y13=>ln (ro1 y13) fun y14=>B56_6 (ro1 y13) (kI y14) (kI 0) b1 hp):=eX qe
theorem qhi:B56_6 x23 v24 v25 b1 hp=iT .lss 3 25 24 v25 v24 (jK x23 v25 fun y18=>cV 5 3 y18 fun y19=>(qn b1 0 2).bind fun y20=>pS 123 [.agg (List.map ro1 y20)] fun y24=>iT .gtr 3 30 32 y19 y24 (rQ (kI 2) hp) (bC .add 3 25 v25 (kI 1) fun y27=>B56_6 x23 v24 y27 b1 hp)) (rQ (kI 0) hp):=eX qe
theorem E115:run cxX 115 [a0,a1] hp=(ql 2 a0).bind fun y0=>(ql 2 a1).bind fun y1=>(qj (List.map ro1 y0) 0).bind fun y2=>(qj (List.map ro1 y1) 0).bind fun y3=>iT .eql 3 6 8 y2 y3 ((qo (List.map ro1 y0) 1).bind fun y6=>(yT 1 (ro1 y6)).bind fun y7=>(zw y7).bind fun y8=>(qo (List.map ro1 y1) 1).bind fun y9=>(yT 1 (ro1 y9)).bind fun y10=>(zw y10).bind fun y11=>bT .eql 9 13 16 (Value.string (ByteArray.mk (Array.mk y8))) (Value.string (ByteArray.mk (Array.mk y11))) fun y12=>rQ y12 hp) (rQ (.sc (.bool false)) hp):=eE qe
theorem E123:run cxX 123 [a0] hp=(ql 2 a0).bind fun y0=>(qj (List.map ro1 y0) 0).bind fun y1=>bG .sub 3 (.const (kI 65)) (.tmp 4) (kI 65) y1 fun y2=>rQ y2 hp:=eE qe
def B127_2:=gx 127 2 [.lp 2 0 0] [(2,0,b2)] hp
def B127_3:=gx 127 3 [v0,.lp 2 0 0] [(2,0,b2)] hp
theorem E127:run cxX 127 [a0] hp=aS a0 fun y0=>iC .lss 3 4 y0 (kI 4) (B127_2 [kI 0,nl] hp) (iC .gtr 3 7 y0 (kI 8) (B127_2 [kI 0,nl] hp) (B127_3 y0 [kI 0,nl] hp)):=eE qe
theorem qqr:B127_3 v0 b2 hp=bG .shl 3 (.const (kI 1)) (.tmp 12) (kI 1) v0 fun y7=>(YP y7).bind fun y8=>(YP y7).bind fun y9=>(QQ 1 1 y8 y9).bind fun y10=>(qm b2 0 [v0,ro1 (AV.us 1 (QF y8 [kB 0]))]).bind fun y11=>(qn y11 0 2).bind fun y12=>rQ (.tup [.agg y12,.sc (.bool true)]) hp:=eX qe
def B128_5:=gx 128 5 [.lp 4 0 0,.lp 5 0 0] [(4,0,b4),(5,0,b5)] hp
theorem E128:run cxX 128 [a0,a1] hp=aS a1 fun y0=>(ql 2 a0).bind fun y1=>(qj (List.map ro1 y1) 0).bind fun y2=>(kC []).bind fun y3=>(qo (List.map ro1 y1) 1).bind fun y4=>(zV 1 1 (AV.us 1 []) (ro1 y4) hp).bind fun y5=>(ql 1 y5.1).bind fun y6=>(qm [y2,nl] 1 y6).bind fun y7=>(ql 2 (.agg (List.map ro1 y7))).bind fun y8=>(qm [kI 0,nl] 0 y8).bind fun y9=>(qn (List.map ro1 y1) 0 2).bind fun y10=>pT 2 195 [.agg (List.map ro1 y10),y0] fun z1=>nS z1 0 fun y15=>nS z1 1 fun y16=>(qo y9 1).bind fun y17=>ln (ro1 y17) fun y18=>iT .lss 3 21 24 y15 (kI y18) ((qo y9 1).bind fun y21=>(qo y9 1).bind fun y22=>(qK (ro1 y22)).bind fun y23=>(idx y23.2.2.2.1 y15).bind fun y24=>(jo y23.2.2.2.2 1).bind fun y25=>(Hp.rd y5.2 y23.1 y23.2.1).bind fun y26=>(qj y26 (Nat.add y23.2.2.1 (Nat.add 0 y24))).bind fun y27=>(yE Tryz.prog Go.Builtin.max (Array.mk [5,5]) 5 [y27,y16]).bind fun y28=>(qK (ro1 y21)).bind fun y29=>(idx y29.2.2.2.1 y15).bind fun y30=>(jo y29.2.2.2.2 1).bind fun y31=>(Hp.rd y5.2 y29.1 y29.2.1).bind fun y32=>(qm y32 (Nat.add y29.2.2.1 (Nat.add 0 y30)) [y28]).bind fun y33=>B128_5 [kI 0,nl] y9 (Hp.put y5.2 y29.1 y29.2.1 y33)) (B128_5 [kI 0,nl] y9 y5.2):=eE qe
theorem qbg:B128_5 b4 b5 hp=(qn b5 0 2).bind fun y34=>(YO hp (List.map ro1 y34)).bind fun y35=>(ql 2 (.agg y35.1)).bind fun y36=>(qm b4 0 y36).bind fun y37=>(qn y37 0 2).bind fun y38=>rQ (.agg y38) y35.2:=eX qe
theorem E195:run cxX 195 [a0,a1] hp=aS a1 fun y0=>(ql 2 a0).bind fun y1=>(qj (List.map ro1 y1) 0).bind fun y2=>(yE Tryz.prog Go.Builtin.max (Array.mk [3,3]) 3 [y2,kI 4]).bind fun y3=>(yE Tryz.prog Go.Builtin.min (Array.mk [3,3]) 3 [y3,kI 8]).bind fun y4=>bG .sub 3 (.const (kI 64)) (.tmp 12) (kI 64) y4 fun y5=>bT .shr 125 11 13 y0 y5 fun y6=>cV 125 3 y6 fun y7=>bT .shl 125 16 17 y0 y4 fun y8=>pS 244 [y8] fun y12=>bG .sub 3 (.const (kI 64)) (.tmp 20) (kI 64) y4 fun y13=>(yE Tryz.prog Go.Builtin.min (Array.mk [3,3]) 3 [y12,y13]).bind fun y14=>bC .add 3 22 y14 (kI 1) fun y15=>cV 3 5 y15 fun y16=>rQ (.tup [y7,y16]) hp:=eE qe
def B62_3:=gx 62 3 [.lp 4 0 0,.lp 5 0 0,x17,v18,v19] [(4,0,b4),(5,0,b5)] hp
theorem E62:run cxX 62 [a0,a1] hp=aS a0 fun y0=>bC .rem 5 10 y0 (kB 5) fun y1=>cV 5 3 y1 fun y2=>bG .add 3 (.const (kI 4)) (.tmp 12) (kI 4) y2 fun y3=>pT 2 127 [y3] fun z1=>nS z1 1 fun y8=>(ql 2 (ro (js z1 0))).bind fun y9=>(qm [kI 0,nl] 0 y9).bind fun y10=>ln (ro a1) fun y11=>B62_3 (ro a1) (kI y11) (kI 0) [kI 0,nl] y10 hp:=eE qe
theorem qhb:B62_3 x17 v18 v19 b4 b5 hp=iT .lss 3 19 18 v19 v18 (jK x17 v19 fun y15=>(qn b5 0 2).bind fun y16=>pS 129 [y15] fun y20=>pA 128 [.agg (List.map ro1 y16),y20] fun z1=>(ql 2 z1).bind fun y25=>(qm b5 0 y25).bind fun y26=>bC .add 3 19 v19 (kI 1) fun y27=>B62_3 x17 v18 y27 b4 y26 hp) ((qn b5 0 2).bind fun y28=>(qm b5 0 (List.map ro1 y28)).bind fun y29=>(ql 2 (.agg y28)).bind fun y30=>(qm b4 0 y30).bind fun y31=>(qn y31 0 2).bind fun y32=>rQ (.agg y32) hp):=eX qe
theorem E129:run cxX 129 [a0] hp=aS a0 fun y0=>bC .rem 125 3 y0 (kU 3) fun y1=>iC .eql 125 4 y1 (kU 0) (bC .shr 125 6 y0 (kU 56) fun y4=>bC .shl 125 7 y4 (kU 56) fun y5=>bC .quo 125 10 y0 (kU 4) fun y6=>bC .rem 125 11 y6 (kU 56) fun y7=>bG .shl 125 (.const (kU 1)) (.tmp 12) (kU 1) y7 fun y8=>bC .sub 125 13 y8 (kU 1) fun y9=>bT .and 125 9 14 y0 y9 fun y10=>bT .or 125 8 15 y5 y10 fun y11=>rQ y11 hp) (rQ y0 hp):=eE qe
def B57_2:=gb 57 2 [] hp
def B57_3:=gx 57 3 [.lp 1 0 0] [(1,0,b1)] hp
def B57_4:=gx 57 4 [.lp 1 0 0,x24,v25,v26] [(1,0,b1)] hp
def B57_9:=gb 57 9 [] hp
def B57_10:=gx 57 10 [.lp 1 0 0,x24,v25,v26] [(1,0,b1)] hp
theorem E57:run cxX 57 [a0] hp=(ql 3 a0).bind fun y0=>(qj (List.map ro1 y0) 0).bind fun y1=>iC .lss 3 6 y1 (kI 1) (B57_2 hp) ((qj (List.map ro1 y0) 0).bind fun y4=>iC .gtr 3 10 y4 (kI 4096) (B57_2 hp) ((qj (List.map ro1 y0) 1).bind fun y7=>iC .lss 3 15 y7 (kI 1) (B57_2 hp) ((qj (List.map ro1 y0) 1).bind fun y10=>iC .gtr 3 20 y10 (kI 8) (B57_2 hp) (B57_3 (List.map ro1 y0) hp)))):=eE qe
theorem Js:B57_2 hp=rQ (kI 2) hp:=eB qe
theorem qwe:B57_3 b1 hp=(qo b1 2).bind fun y13=>ln (ro1 y13) fun y14=>B57_4 (ro1 y13) (kI y14) (kI 0) b1 hp:=eX qe
theorem qhh:B57_4 x24 v25 v26 b1 hp=iT .lss 3 26 25 v26 v25 (jK x24 v26 fun y18=>cV 40 3 y18 fun y19=>(qj b1 0).bind fun y20=>iT .geq 3 32 34 y19 y20 (rQ (kI 2) hp) (iC .gtr 3 36 v26 (kI 0) ((qo b1 2).bind fun y25=>bC .sub 3 42 v26 (kI 1) fun y26=>jK (ro1 y25) y26 fun y28=>iT .leq 40 39 45 y18 y28 (B57_9 hp) (B57_10 x24 v25 v26 b1 hp)) (B57_10 x24 v25 v26 b1 hp))) (rQ (kI 0) hp):=eX qe
theorem qwd:B57_9 hp=rQ (kI 8) hp:=eB qe
theorem qaq:B57_10 x24 v25 v26 b1 hp=bC .add 3 26 v26 (kI 1) fun y31=>B57_4 x24 v25 y31 b1 hp:=eX qe
def B116_2:=gb 116 2 [] hp
def B116_3:=gx 116 3 [.lp 2 0 0,.lp 3 0 0] [(2,0,b2),(3,0,b3)] hp
def B116_4:=gx 116 4 [.lp 2 0 0,.lp 3 0 0,v29,v30] [(2,0,b2),(3,0,b3)] hp
theorem E116:run cxX 116 [a0,a1] hp=(ql 3 a0).bind fun y0=>(ql 3 a1).bind fun y1=>(qj (List.map ro1 y0) 0).bind fun y2=>(qj (List.map ro1 y1) 0).bind fun y3=>iT .neq 3 7 9 y2 y3 (B116_2 hp) ((qj (List.map ro1 y0) 1).bind fun y6=>(qj (List.map ro1 y1) 1).bind fun y7=>iT .neq 3 13 15 y6 y7 (B116_2 hp) ((qo (List.map ro1 y0) 2).bind fun y10=>ln (ro1 y10) fun y11=>(qo (List.map ro1 y1) 2).bind fun y12=>ln (ro1 y12) fun y13=>iT .neq 3 21 24 (kI y11) (kI y13) (B116_2 hp) (B116_3 (List.map ro1 y0) (List.map ro1 y1) hp))):=eE qe
theorem Ym:B116_2 hp=rQ (.sc (.bool false)) hp:=eB qe
theorem qqw:B116_3 b2 b3 hp=(qo b2 2).bind fun y16=>ln (ro1 y16) fun y17=>B116_4 (kI y17) (kI 0) b2 b3 hp:=eX qe
theorem qbm:B116_4 v29 v30 b2 b3 hp=iT .lss 3 30 29 v30 v29 ((qo b2 2).bind fun y20=>jK (ro1 y20) v30 fun y22=>(qo b3 2).bind fun y23=>jK (ro1 y23) v30 fun y25=>iT .neq 40 37 42 y22 y25 (rQ (.sc (.bool false)) hp) (bC .add 3 30 v30 (kI 1) fun y28=>B116_4 v29 y28 b2 b3 hp)) (rQ (.sc (.bool true)) hp):=eX qe
def B130_3:=gx 130 3 [.lp 2 0 0,.lp 4 0 0,.lp 5 0 0,x11,v12,v13] [(2,0,b2),(4,0,b4),(5,0,b5)] hp
theorem E130:run cxX 130 [a0,a1] hp=aS a1 fun y0=>(ql 3 a0).bind fun y1=>(qn (List.map ro1 y1) 0 3).bind fun y2=>(ql 3 (.agg (List.map ro1 y2))).bind fun y3=>(qm [kI 0,kI 0,nl] 0 y3).bind fun y4=>(qn (List.map ro1 y1) 0 3).bind fun y5=>pA 196 [.agg (List.map ro1 y5),y0] fun z1=>ln z1 fun y10=>B130_3 z1 (kI y10) (kI 0) (List.map ro1 y1) [kI 0,kI 0,nl] y4 hp:=eE qe
theorem qbf:B130_3 x11 v12 v13 b2 b4 b5 hp=iT .lss 3 13 12 v13 v12 (jK x11 v13 fun y14=>(qn b5 0 3).bind fun y15=>(qj b2 0).bind fun y16=>(qj b2 1).bind fun y17=>(kC [y14]).bind fun y18=>pA 197 [.agg (List.map ro1 y15),.agg [y16,y17,ro1 (AV.us 1 [y14])]] fun z1=>(ql 3 z1).bind fun y23=>(qm b5 0 y23).bind fun y24=>bC .add 3 13 v13 (kI 1) fun y25=>B130_3 x11 v12 y25 b2 b4 y24 hp) ((qn b5 0 3).bind fun y26=>(qm b5 0 (List.map ro1 y26)).bind fun y27=>(ql 3 (.agg y26)).bind fun y28=>(qm b4 0 y28).bind fun y29=>(qn y29 0 3).bind fun y30=>rQ (.agg y30) hp):=eX qe
def B196_6:=gx 196 6 [.lp 2 0 0,x5,v6,v7,v19,v20] [(2,0,b2)] hp
theorem E196:run cxX 196 [a0,a1] hp=aS a1 fun y0=>(ql 3 a0).bind fun y1=>(qn (List.map ro1 y1) 0 3).bind fun y2=>pS 57 [.agg (List.map ro1 y2)] fun y6=>iC .neq 50 9 y6 (kI 0) (rQ nl hp) (cV 125 40 y0 fun y9=>bC .shr 125 14 y0 (kU 32) fun y10=>cV 125 40 y10 fun y11=>bC .or 40 16 y11 (kW 1) fun y12=>(qj (List.map ro1 y1) 1).bind fun y13=>B196_6 nl y9 y12 y13 (kI 0) (List.map ro1 y1) hp):=eE qe
theorem qa1:B196_6 x5 v6 v7 v19 v20 b2 hp=iT .lss 3 20 19 v20 v19 ((qj b2 0).bind fun y16=>cV 3 40 y16 fun y17=>bT .rem 40 23 26 v6 y17 fun y18=>ap 4 x5 y18 fun y20=>bT .add 40 30 31 v6 v7 fun y21=>bC .add 3 20 v20 (kI 1) fun y22=>B196_6 y20 y21 v7 v19 y22 b2 hp) (rQ x5 hp):=eX qe
def B197_3:=gx 197 3 [.lp 4 0 0,.lp 5 0 0,x6,x7] [(4,0,b4),(5,0,b5)] hp
def B197_6:=gx 197 6 [.lp 4 0 0,.lp 5 0 0,x6,x7] [(4,0,b4),(5,0,b5)] hp
def B197_7:=gx 197 7 [.lp 4 0 0,.lp 5 0 0,x6,x7] [(4,0,b4),(5,0,b5)] hp
def B197_8:=gx 197 8 [.lp 4 0 0,.lp 5 0 0,x6,x7] [(4,0,b4),(5,0,b5)] hp
def B197_4:=gx 197 4 [.lp 4 0 0,.lp 5 0 0,x6,x7] [(4,0,b4),(5,0,b5)] hp
theorem E197:run cxX 197 [a0,a1] hp=(ql 3 a0).bind fun y0=>(ql 3 a1).bind fun y1=>(qj (List.map ro1 y0) 0).bind fun y2=>(qj (List.map ro1 y0) 1).bind fun y3=>(qo (List.map ro1 y0) 2).bind fun y4=>(qo (List.map ro1 y1) 2).bind fun y5=>B197_3 (ro1 y4) (ro1 y5) [kI 0,kI 0,nl] [y2,y3,nl] hp:=eE qe
theorem qp2:B197_3 x6 x7 b4 b5 hp=ln (ro x6) fun y6=>ln (ro x7) fun y7=>bT .add 3 18 20 (kI y6) (kI y7) fun y8=>iC .gtr 3 21 y8 (kI 0) (ln (ro x7) fun y11=>iC .eql 3 37 (kI y11) (kI 0) (B197_6 x6 x7 b4 b5 hp) (ln (ro x6) fun y14=>iC .gtr 3 41 (kI y14) (kI 0) (jK (ro x6) (kI 0) fun y18=>jK (ro x7) (kI 0) fun y20=>iT .lss 40 46 49 y18 y20 (B197_6 x6 x7 b4 b5 hp) (B197_7 x6 x7 b4 b5 hp)) (B197_7 x6 x7 b4 b5 hp))) ((qn b5 0 3).bind fun y23=>(qm b5 0 (List.map ro1 y23)).bind fun y24=>(ql 3 (.agg y23)).bind fun y25=>(qm b4 0 y25).bind fun y26=>(qn y26 0 3).bind fun y27=>rQ (.agg y27) hp):=eX qe
theorem qp0:B197_6 x6 x7 b4 b5 hp=(qo b5 2).bind fun y28=>jK (ro x6) (kI 0) fun y30=>ap 4 y28 y30 fun y32=>(jb 1 (ro x6) (Option.some (kI 1)) none none).bind fun y33=>(ql 1 y32).bind fun y34=>(qm (List.set b5 2 (ro1 y28)) 2 y34).bind fun y35=>B197_3 y33 x7 b4 y35 hp:=eX qe
theorem Yf:B197_7 x6 x7 b4 b5 hp=ln (ro x6) fun y36=>iC .eql 3 65 (kI y36) (kI 0) (B197_8 x6 x7 b4 b5 hp) (jK (ro x7) (kI 0) fun y40=>jK (ro x6) (kI 0) fun y42=>iT .lss 40 70 73 y40 y42 (B197_8 x6 x7 b4 b5 hp) (B197_4 x6 x7 b4 b5 hp)):=eX qe
theorem qpz:B197_8 x6 x7 b4 b5 hp=(qo b5 2).bind fun y45=>jK (ro x7) (kI 0) fun y47=>ap 4 y45 y47 fun y49=>(jb 1 (ro x7) (Option.some (kI 1)) none none).bind fun y50=>(ql 1 y49).bind fun y51=>(qm (List.set b5 2 (ro1 y45)) 2 y51).bind fun y52=>B197_3 x6 y50 b4 y52 hp:=eX qe
theorem qp1:B197_4 x6 x7 b4 b5 hp=(qo b5 2).bind fun y53=>jK (ro x6) (kI 0) fun y55=>ap 4 y53 y55 fun y57=>(jb 1 (ro x6) (Option.some (kI 1)) none none).bind fun y58=>(jb 1 (ro x7) (Option.some (kI 1)) none none).bind fun y59=>(ql 1 y57).bind fun y60=>(qm (List.set b5 2 (ro1 y53)) 2 y60).bind fun y61=>B197_3 y58 y59 b4 y61 hp:=eX qe
def B63_3:=gx 63 3 [.lp 6 0 0,.lp 7 0 0,x19,v20,v21] [(6,0,b6),(7,0,b7)] hp
theorem E63:run cxX 63 [a0,a1,a2] hp=aS a0 fun y0=>aS a1 fun y1=>bC .rem 82 10 y0 (kH 300) fun y2=>cV 82 3 y2 fun y3=>bG .add 3 (.const (kI 1)) (.tmp 12) (kI 1) y3 fun y4=>bC .rem 5 14 y1 (kB 8) fun y5=>cV 5 3 y5 fun y6=>bG .add 3 (.const (kI 1)) (.tmp 16) (kI 1) y6 fun y7=>ln (ro a2) fun y8=>B63_3 (ro a2) (kI y8) (kI 0) [kI 0,kI 0,nl] [y4,y7,nl] hp:=eE qe
theorem qha:B63_3 x19 v20 v21 b6 b7 hp=iT .lss 3 21 20 v21 v20 (jK x19 v21 fun y12=>(qn b7 0 3).bind fun y13=>pA 130 [.agg (List.map ro1 y13),y12] fun z1=>(ql 3 z1).bind fun y18=>(qm b7 0 y18).bind fun y19=>bC .add 3 21 v21 (kI 1) fun y20=>B63_3 x19 v20 y20 b6 y19 hp) ((qn b7 0 3).bind fun y21=>(qm b7 0 (List.map ro1 y21)).bind fun y22=>(ql 3 (.agg y21)).bind fun y23=>(qm b6 0 y23).bind fun y24=>(qn y24 0 3).bind fun y25=>rQ (.agg y25) hp):=eX qe
def B64_3:=gx 64 3 [.lp 6 0 0,.lp 7 0 0,x23,v24,v25] [(6,0,b6),(7,0,b7)] hp
theorem E64:run cxX 64 [a0,a1,a2] hp=aS a0 fun y0=>aS a1 fun y1=>bC .rem 5 12 y0 (kB 8) fun y2=>cV 5 3 y2 fun y3=>bG .add 3 (.const (kI 1)) (.tmp 14) (kI 1) y3 fun y4=>bC .rem 5 16 y1 (kB 40) fun y5=>cV 5 3 y5 fun y6=>bG .add 3 (.const (kI 1)) (.tmp 18) (kI 1) y6 fun y7=>cN 2 131 [y4,y7] hp fun z1 h2=>nS z1 1 fun y10=>(ql 3 (ro (js z1 0))).bind fun y11=>(qm [kI 0,kI 0,nl] 0 y11).bind fun y12=>ln (ro a2) fun y13=>B64_3 (ro a2) (kI y13) (kI 0) [kI 0,kI 0,nl] y12 h2:=eE qe
theorem Jq:B64_3 x23 v24 v25 b6 b7 hp=iT .lss 3 25 24 v25 v24 ((jc 2 x23 v25).bind fun y16=>(qn y16 0 2).bind fun y17=>(ql 2 (.agg (List.map ro1 y17))).bind fun y18=>(qm [kU 0,kW 0] 0 y18).bind fun y19=>(qn b7 0 3).bind fun y20=>(qj y19 0).bind fun y21=>(qj y19 1).bind fun y22=>cA 132 [ro (.agg (List.map ro1 y20)),y21,y22] hp fun z1 h2=>(ql 3 z1).bind fun y25=>(qm b7 0 y25).bind fun y26=>bC .add 3 25 v25 (kI 1) fun y27=>B64_3 x23 v24 y27 b6 y26 h2) ((qn b7 0 3).bind fun y28=>(YO hp (List.map ro1 y28)).bind fun y29=>(ql 3 (.agg y29.1)).bind fun y30=>(qm b6 0 y30).bind fun y31=>(qn y31 0 3).bind fun y32=>rQ (.agg y32) y29.2):=eX qe
def B59_2:=gb 59 2 [] hp
def B59_3:=gx 59 3 [.lp 1 0 0] [(1,0,b1)] hp
def B59_4:=gx 59 4 [.lp 1 0 0,x22,v23,v24] [(1,0,b1)] hp
def B59_7:=gb 59 7 [] hp
def B59_8:=gx 59 8 [.lp 1 0 0,x22,v23,v24] [(1,0,b1)] hp
def B59_10:=gb 59 10 [] hp
def B59_11:=gb 59 11 [] hp
theorem E59:run cxX 59 [a0] hp=(ql 11 a0).bind fun y0=>(qj (List.map ro1 y0) 0).bind fun y1=>iC .lss 3 6 y1 (kI 1) (B59_2 hp) ((qj (List.map ro1 y0) 0).bind fun y4=>iC .gtr 3 10 y4 (kI 16) (B59_2 hp) ((qo (List.map ro1 y0) 10).bind fun y7=>ln (ro1 y7) fun y8=>(qj (List.map ro1 y0) 0).bind fun y9=>iT .gtr 3 16 18 (kI y8) y9 (B59_2 hp) (B59_3 (List.map ro1 y0) hp))):=eE qe
theorem qwc:B59_2 hp=rQ (kI 2) hp:=eB qe
theorem qwb:B59_3 b1 hp=(qo b1 10).bind fun y12=>ln (ro1 y12) fun y13=>B59_4 (ro1 y12) (kI y13) (kI 0) b1 hp:=eX qe
theorem qhf:B59_4 x22 v23 v24 b1 hp=iT .lss 3 24 23 v24 v23 (jK x22 v24 fun y17=>iC .gtr 3 29 v24 (kI 0) ((qo b1 10).bind fun y20=>bC .sub 3 35 v24 (kI 1) fun y21=>jK (ro1 y20) y21 fun y23=>pS 124 [y17,y23] fun y27=>iB y27 (B59_7 hp) (B59_8 x22 v23 v24 b1 hp)) (B59_8 x22 v23 v24 b1 hp)) ((qj b1 8).bind fun y29=>(qj b1 8).bind fun y30=>iT .neq 42 43 45 y29 y30 (B59_10 hp) ((qj b1 9).bind fun y33=>(qj b1 9).bind fun y34=>iT .neq 42 49 51 y33 y34 (B59_10 hp) (B59_11 hp))):=eX qe
theorem qwa:B59_7 hp=rQ (kI 8) hp:=eB qe
theorem qhe:B59_8 x22 v23 v24 b1 hp=bC .add 3 24 v24 (kI 1) fun y37=>B59_4 x22 v23 y37 b1 hp:=eX qe
theorem qap:B59_10 hp=rQ (kI 4) hp:=eB qe
theorem qpe:B59_11 hp=rQ (kI 0) hp:=eB qe
def B118_2:=gb 118 2 [] hp
def B118_3:=gx 118 3 [.lp 2 0 0,.lp 3 0 0] [(2,0,b2),(3,0,b3)] hp
def B118_4:=gx 118 4 [.lp 2 0 0,.lp 3 0 0,v52,v53] [(2,0,b2),(3,0,b3)] hp
theorem E118:run cxX 118 [a0,a1] hp=(ql 11 a0).bind fun y0=>(ql 11 a1).bind fun y1=>(qj (List.map ro1 y0) 0).bind fun y2=>(qj (List.map ro1 y1) 0).bind fun y3=>iT .neq 3 7 9 y2 y3 (B118_2 hp) ((qj (List.map ro1 y0) 1).bind fun y6=>(qj (List.map ro1 y1) 1).bind fun y7=>iT .neq 40 13 15 y6 y7 (B118_2 hp) ((qn (List.map ro1 y0) 2 6).bind fun y10=>(qn (List.map ro1 y1) 2 6).bind fun y11=>(ye (.agg (List.map ro1 y10))).bind fun y12=>(ye (.agg (List.map ro1 y11))).bind fun y13=>iT .neq 41 20 22 y12 y13 (B118_2 hp) ((qj (List.map ro1 y0) 8).bind fun y16=>(qj (List.map ro1 y1) 8).bind fun y17=>pS 193 [y16,y17] fun y21=>iN y21 (B118_2 hp) ((qj (List.map ro1 y0) 9).bind fun y24=>(qj (List.map ro1 y1) 9).bind fun y25=>pS 193 [y24,y25] fun y29=>iN y29 (B118_2 hp) ((qo (List.map ro1 y0) 10).bind fun y32=>ln (ro1 y32) fun y33=>(qo (List.map ro1 y1) 10).bind fun y34=>ln (ro1 y34) fun y35=>iT .neq 3 44 47 (kI y33) (kI y35) (B118_2 hp) (B118_3 (List.map ro1 y0) (List.map ro1 y1) hp)))))):=eE qe
theorem qqt:B118_2 hp=rQ (.sc (.bool false)) hp:=eB qe
theorem qbk:B118_3 b2 b3 hp=(qo b2 10).bind fun y38=>ln (ro1 y38) fun y39=>B118_4 (kI y39) (kI 0) b2 b3 hp:=eX qe
theorem qbj:B118_4 v52 v53 b2 b3 hp=iT .lss 3 53 52 v53 v52 ((qo b2 10).bind fun y42=>jK (ro1 y42) v53 fun y44=>(qo b3 10).bind fun y45=>jK (ro1 y45) v53 fun y47=>pS 193 [y44,y47] fun y51=>iN y51 (rQ (.sc (.bool false)) hp) (bC .add 3 53 v53 (kI 1) fun y54=>B118_4 v52 y54 b2 b3 hp)) (rQ (.sc (.bool true)) hp):=eX qe
def B133_2:=gx 133 2 [.lp 2 0 0] [(2,0,b2)] hp
def B133_3:=gx 133 3 [v0,.lp 2 0 0] [(2,0,b2)] hp
theorem E133:run cxX 133 [a0] hp=aS a0 fun y0=>iC .lss 3 4 y0 (kI 1) (B133_2 zL2 hp) (iC .gtr 3 7 y0 (kI 16) (B133_2 zL2 hp) (B133_3 y0 zL2 hp)):=eE qe
theorem qqn:B133_3 v0 b2 hp=pS 200 [kI 1] fun y10=>pS 200 [.sc (.int .i64 (.negSucc 0))] fun y14=>(qm b2 0 [v0,kW 0,kW 0,kW 0,kW 0,kW 0,kW 0,kW 0,y10,y14,nl]).bind fun y15=>(qn y15 0 11).bind fun y16=>rQ (.tup [.agg y16,.sc (.bool true)]) hp:=eX qe
theorem E134:run cxX 134 [a0,a1] hp=aS a1 fun y0=>(ql 11 a0).bind fun y1=>(qn (List.map ro1 y1) 0 11).bind fun y2=>(qj (List.map ro1 y1) 0).bind fun y3=>pA 202 [y3,y0] fun z1=>pA 201 [.agg (List.map ro1 y2),z1] fun z2=>(ql 11 z2).bind fun y12=>(qm zL2 0 y12).bind fun y13=>(qn y13 0 11).bind fun y14=>rQ (.agg y14) hp:=eE qe
def B201_3:=gx 201 3 [.lp 2 0 0,.lp 3 0 0,.lp 4 0 0,.lp 5 0 0,v27] [(2,0,b2),(3,0,b3),(4,0,b4),(5,0,b5)] hp
def B201_8:=gx 201 8 [.lp 2 0 0,.lp 4 0 0,.lp 5 0 0,x7,x8] [(2,0,b2),(4,0,b4),(5,0,b5)] hp
def B201_9:=gx 201 9 [.lp 2 0 0,.lp 4 0 0,.lp 5 0 0,x7,x8] [(2,0,b2),(4,0,b4),(5,0,b5)] hp
def B201_12:=gx 201 12 [.lp 4 0 0,.lp 5 0 0] [(4,0,b4),(5,0,b5)] hp
def B201_10:=gx 201 10 [.lp 2 0 0,.lp 4 0 0,.lp 5 0 0,x7,x8] [(2,0,b2),(4,0,b4),(5,0,b5)] hp
def B201_11:=gx 201 11 [.lp 2 0 0,.lp 4 0 0,.lp 5 0 0,x7,x8] [(2,0,b2),(4,0,b4),(5,0,b5)] hp
theorem E201:run cxX 201 [a0,a1] hp=(ql 11 a0).bind fun y0=>(ql 11 a1).bind fun y1=>(qj (List.map ro1 y0) 0).bind fun y2=>(qj (List.map ro1 y0) 1).bind fun y3=>(qj (List.map ro1 y1) 1).bind fun y4=>pS 199 [y3,y4] fun y8=>(qj (List.map ro1 y0) 8).bind fun y9=>(qj (List.map ro1 y1) 8).bind fun y10=>pS 246 [y9,y10] fun y14=>(qj (List.map ro1 y0) 9).bind fun y15=>(qj (List.map ro1 y1) 9).bind fun y16=>pS 247 [y15,y16] fun y20=>B201_3 (kI 0) (List.map ro1 y0) (List.map ro1 y1) zL2 [y2,y8,kW 0,kW 0,kW 0,kW 0,kW 0,kW 0,y14,y20,nl] hp:=eE qe
theorem yN:B201_3 v27 b2 b3 b4 b5 hp=iC .lss 3 27 v27 (kI 6) ((idx 6 v27).bind fun y23=>(qj b2 (Nat.add 2 (Nat.add 0 y23))).bind fun y24=>(idx 6 v27).bind fun y25=>(qj b3 (Nat.add 2 (Nat.add 0 y25))).bind fun y26=>pS 199 [y24,y26] fun y30=>(idx 6 v27).bind fun y31=>(qm b5 (Nat.add 2 (Nat.add 0 y31)) [y30]).bind fun y32=>bC .add 3 27 v27 (kI 1) fun y33=>B201_3 y33 b2 b3 b4 y32 hp) ((qo b2 10).bind fun y34=>(qo b3 10).bind fun y35=>B201_8 (ro1 y34) (ro1 y35) b2 b4 b5 hp):=eX qe
theorem qpx:B201_8 x7 x8 b2 b4 b5 hp=(qo b5 10).bind fun y36=>ln (ro1 y36) fun y37=>(qj b2 0).bind fun y38=>iT .lss 3 49 51 (kI y37) y38 (ln (ro x7) fun y41=>ln (ro x8) fun y42=>bT .add 3 55 57 (kI y41) (kI y42) fun y43=>iC .gtr 3 58 y43 (kI 0) (B201_9 x7 x8 b2 b4 b5 hp) (B201_12 b4 b5 hp)) (B201_12 b4 b5 hp):=eX qe
theorem Qs:B201_9 x7 x8 b2 b4 b5 hp=ln (ro x8) fun y46=>iC .eql 3 62 (kI y46) (kI 0) (B201_10 x7 x8 b2 b4 b5 hp) (ln (ro x7) fun y49=>iC .gtr 3 66 (kI y49) (kI 0) (jK (ro x8) (kI 0) fun y53=>jK (ro x7) (kI 0) fun y55=>pS 124 [y53,y55] fun y59=>iN y59 (B201_10 x7 x8 b2 b4 b5 hp) (B201_11 x7 x8 b2 b4 b5 hp)) (B201_11 x7 x8 b2 b4 b5 hp)):=eX qe
theorem qkg:B201_12 b4 b5 hp=(qn b5 0 11).bind fun y62=>(qm b5 0 (List.map ro1 y62)).bind fun y63=>(ql 11 (.agg y62)).bind fun y64=>(qm b4 0 y64).bind fun y65=>(qn y65 0 11).bind fun y66=>rQ (.agg y66) hp:=eX qe
theorem qki:B201_10 x7 x8 b2 b4 b5 hp=(qo b5 10).bind fun y67=>jK (ro x7) (kI 0) fun y69=>ap 8 y67 y69 fun y71=>(jb 1 (ro x7) (Option.some (kI 1)) none none).bind fun y72=>(ql 1 y71).bind fun y73=>(qm (List.set b5 10 (ro1 y67)) 10 y73).bind fun y74=>B201_8 y72 x8 b2 b4 y74 hp:=eX qe
theorem qkh:B201_11 x7 x8 b2 b4 b5 hp=(qo b5 10).bind fun y75=>jK (ro x8) (kI 0) fun y77=>ap 8 y75 y77 fun y79=>(jb 1 (ro x8) (Option.some (kI 1)) none none).bind fun y80=>(ql 1 y79).bind fun y81=>(qm (List.set b5 10 (ro1 y75)) 10 y81).bind fun y82=>B201_8 x7 y80 b2 b4 y82 hp:=eX qe
def B202_5:=gx 202 5 [v1,.lp 4 0 0,.lp 5 0 0] [(4,0,b4),(5,0,b5)] hp
theorem E202:run cxX 202 [a0,a1] hp=aS a0 fun y0=>aS a1 fun y1=>pS 200 [kI 1] fun y5=>pS 200 [.sc (.int .i64 (.negSucc 0))] fun y9=>pS 248 [y1] fun y13=>(idx 6 y13).bind fun y14=>(qm [y0,kW 1,kW 0,kW 0,kW 0,kW 0,kW 0,kW 0,y5,y9,nl] (Nat.add 2 (Nat.add 0 y14)) [kW 1]).bind fun y15=>iT .eql 42 16 17 y1 y1 ((qm y15 8 [y1]).bind fun y18=>(qm y18 9 [y1]).bind fun y19=>B202_5 y1 zL2 y19 hp) (B202_5 y1 zL2 y15 hp):=eE qe
theorem qpw:B202_5 v1 b4 b5 hp=pS 151 [v1] fun y23=>pT 2 243 [y23] fun z1=>nS z1 0 fun y28=>nS z1 1 fun y29=>(kC [y28]).bind fun y30=>(qm b5 10 [AV.us 1 [y28]]).bind fun y31=>(qn y31 0 11).bind fun y32=>(qm y31 0 (List.map ro1 y32)).bind fun y33=>(ql 11 (.agg y32)).bind fun y34=>(qm b4 0 y34).bind fun y35=>(qn y35 0 11).bind fun y36=>rQ (.agg y36) hp:=eX qe
def B58_2:=gb 58 2 [] hp
def B58_3:=gx 58 3 [.lp 1 0 0] [(1,0,b1)] hp
theorem E58:run cxX 58 [a0] hp=(ql 3 a0).bind fun y0=>(qj (List.map ro1 y0) 0).bind fun y1=>iC .lss 3 5 y1 (kI 1) (B58_2 hp) ((qj (List.map ro1 y0) 0).bind fun y4=>iC .gtr 3 9 y4 (kI 8) (B58_2 hp) ((qj (List.map ro1 y0) 1).bind fun y7=>iC .lss 3 14 y7 (kI 1) (B58_2 hp) ((qj (List.map ro1 y0) 1).bind fun y10=>iC .gtr 3 19 y10 (kI 256) (B58_2 hp) (B58_3 (List.map ro1 y0) hp)))):=eE qe
theorem qhg:B58_2 hp=rQ (kI 2) hp:=eB qe
theorem Jr:B58_3 b1 hp=(qo b1 2).bind fun y13=>ln (ro1 y13) fun y14=>(qj b1 0).bind fun y15=>(qj b1 1).bind fun y16=>bT .mul 3 27 29 y15 y16 fun y17=>iT .neq 3 25 30 (kI y14) y17 (rQ (kI 6) hp) (rQ (kI 0) hp):=eX qe
def B117_2:=gb 117 2 [] hp
def B117_3:=gx 117 3 [.lp 2 0 0,.lp 3 0 0] [(2,0,b2),(3,0,b3)] hp
def B117_4:=gx 117 4 [.lp 2 0 0,.lp 3 0 0,v29,v30] [(2,0,b2),(3,0,b3)] hp
theorem E117:run cxX 117 [a0,a1] hp=(ql 3 a0).bind fun y0=>(ql 3 a1).bind fun y1=>(qj (List.map ro1 y0) 0).bind fun y2=>(qj (List.map ro1 y1) 0).bind fun y3=>iT .neq 3 7 9 y2 y3 (B117_2 hp) ((qj (List.map ro1 y0) 1).bind fun y6=>(qj (List.map ro1 y1) 1).bind fun y7=>iT .neq 3 13 15 y6 y7 (B117_2 hp) ((qo (List.map ro1 y0) 2).bind fun y10=>ln (ro1 y10) fun y11=>(qo (List.map ro1 y1) 2).bind fun y12=>ln (ro1 y12) fun y13=>iT .neq 3 21 24 (kI y11) (kI y13) (B117_2 hp) (B117_3 (List.map ro1 y0) (List.map ro1 y1) hp))):=eE qe
theorem qqv:B117_2 hp=rQ (.sc (.bool false)) hp:=eB qe
theorem qqu:B117_3 b2 b3 hp=(qo b2 2).bind fun y16=>ln (ro1 y16) fun y17=>B117_4 (kI y17) (kI 0) b2 b3 hp:=eX qe
theorem qbl:B117_4 v29 v30 b2 b3 hp=iT .lss 3 30 29 v30 v29 ((qo b2 2).bind fun y20=>jK (ro1 y20) v30 fun y22=>(qo b3 2).bind fun y23=>jK (ro1 y23) v30 fun y25=>iT .neq 40 37 42 y22 y25 (rQ (.sc (.bool false)) hp) (bC .add 3 30 v30 (kI 1) fun y28=>B117_4 v29 y28 b2 b3 hp)) (rQ (.sc (.bool true)) hp):=eX qe
def B131_2:=gx 131 2 [.lp 4 0 0] [(4,0,b4)] hp
def B131_3:=gx 131 3 [v0,v1,.lp 4 0 0] [(4,0,b4)] hp
theorem E131:run cxX 131 [a0,a1] hp=aS a0 fun y0=>aS a1 fun y1=>iC .lss 3 6 y0 (kI 1) (B131_2 [kI 0,kI 0,nl] hp) (iC .gtr 3 9 y0 (kI 8) (B131_2 [kI 0,kI 0,nl] hp) (iC .lss 3 13 y1 (kI 1) (B131_2 [kI 0,kI 0,nl] hp) (iC .gtr 3 17 y1 (kI 256) (B131_2 [kI 0,kI 0,nl] hp) (B131_3 y0 y1 [kI 0,kI 0,nl] hp)))):=eE qe
theorem qqo:B131_3 v0 v1 b4 hp=bT .mul 3 23 24 v0 v1 fun y12=>(YP y12).bind fun y13=>(YP y12).bind fun y14=>(QQ 4 1 y13 y14).bind fun y15=>(qm b4 0 [v0,v1,ro1 (AV.ms hp.1 0 0 (tN y13) 1)]).bind fun y16=>(qn y16 0 3).bind fun y17=>rQ (.tup [.agg y17,.sc (.bool true)]) (Hp.new hp (QF y13 [kW 0])):=eX qe
def B132_4:=gx 132 4 [v1,v2,.lp 3 0 0,.lp 6 0 0,.lp 7 0 0,v23,v24] [(3,0,b3),(6,0,b6),(7,0,b7)] hp
def B132_9:=gx 132 9 [.lp 6 0 0,.lp 7 0 0] [(6,0,b6),(7,0,b7)] hp
theorem E132:run cxX 132 [a0,a1,a2] hp=aS a1 fun y0=>aS a2 fun y1=>(ql 3 a0).bind fun y2=>(qj (List.map ro1 y2) 0).bind fun y3=>(qj (List.map ro1 y2) 1).bind fun y4=>(kC []).bind fun y5=>(qo (List.map ro1 y2) 2).bind fun y6=>(zV 4 1 (AV.us 1 []) (ro1 y6) hp).bind fun y7=>(ql 1 y7.1).bind fun y8=>(qm [y3,y4,nl] 2 y8).bind fun y9=>(ql 3 (.agg (List.map ro1 y9))).bind fun y10=>(qm [kI 0,kI 0,nl] 0 y10).bind fun y11=>(qn (List.map ro1 y2) 0 3).bind fun y12=>cS 58 [ro (.agg (List.map ro1 y12))] y7.2 fun y14 h1=>iC .eql 50 20 y14 (kI 0) ((qj (List.map ro1 y2) 0).bind fun y17=>B132_4 y0 y1 y17 (kI 0) (List.map ro1 y2) [kI 0,kI 0,nl] y11 h1) (B132_9 [kI 0,kI 0,nl] y11 h1):=eE qe
theorem qbe:B132_4 v1 v2 v23 v24 b3 b6 b7 hp=iT .lss 3 24 23 v24 v23 ((qj b3 1).bind fun y20=>bT .mul 3 27 29 v24 y20 fun y21=>(qn b3 0 3).bind fun y22=>cS 198 [ro (.agg (List.map ro1 y22)),v1,v24] hp fun y24 h1=>bT .add 3 30 34 y21 y24 fun y25=>(qo b7 2).bind fun y26=>(qo b7 2).bind fun y27=>(qK (ro1 y27)).bind fun y28=>(idx y28.2.2.2.1 y25).bind fun y29=>(jo y28.2.2.2.2 1).bind fun y30=>(Hp.rd h1 y28.1 y28.2.1).bind fun y31=>(qj y31 (Nat.add y28.2.2.1 (Nat.add 0 y29))).bind fun y32=>pS 199 [y32,v2] fun y36=>(qK (ro1 y26)).bind fun y37=>(idx y37.2.2.2.1 y25).bind fun y38=>(jo y37.2.2.2.2 1).bind fun y39=>(Hp.rd h1 y37.1 y37.2.1).bind fun y40=>(qm y40 (Nat.add y37.2.2.1 (Nat.add 0 y38)) [y36]).bind fun y41=>bC .add 3 24 v24 (kI 1) fun y42=>B132_4 v1 v2 v23 y42 b3 b6 b7 (Hp.put h1 y37.1 y37.2.1 y41)) (B132_9 b6 b7 hp):=eX qe
theorem qbd:B132_9 b6 b7 hp=(qn b7 0 3).bind fun y43=>(YO hp (List.map ro1 y43)).bind fun y44=>(ql 3 (.agg y44.1)).bind fun y45=>(qm b6 0 y45).bind fun y46=>(qn y46 0 3).bind fun y47=>rQ (.agg y47) y44.2:=eX qe
theorem E198:run cxX 198 [a0,a1,a2] hp=aS a1 fun y0=>aS a2 fun y1=>(ql 3 a0).bind fun y2=>bC .shr 125 8 y0 (kU 32) fun y3=>bG .mul 3 (.const (kI 2)) (.tmp 10) (kI 2) y1 fun y4=>bC .add 3 11 y4 (kI 1) fun y5=>cV 3 125 y5 fun y6=>bT .mul 125 9 13 y3 y6 fun y7=>bC .and 125 15 y0 (kU 4294967295) fun y8=>bT .add 125 14 16 y7 y8 fun y9=>bC .shr 125 19 y9 (kU 17) fun y10=>bT .xor 125 18 20 y9 y10 fun y11=>(qj (List.map ro1 y2) 1).bind fun y12=>(yE Tryz.prog Go.Builtin.max (Array.mk [3,3]) 3 [y12,kI 1]).bind fun y13=>cV 3 125 y13 fun y14=>bT .rem 125 21 25 y11 y14 fun y15=>cV 125 3 y15 fun y16=>rQ y16 hp:=eE qe
theorem E199:run cxX 199 [a0,a1] hp=aS a0 fun y0=>aS a1 fun y1=>bT .add 40 6 7 y0 y1 fun y2=>iT .geq 40 9 10 y2 y0 (rQ y2 hp) (rQ (kW 4294967295) hp):=eE qe
def B65_3:=gx 65 3 [.lp 4 0 0,.lp 5 0 0,x17,v18,v19] [(4,0,b4),(5,0,b5)] hp
theorem E65:run cxX 65 [a0,a1] hp=aS a0 fun y0=>bC .rem 5 10 y0 (kB 16) fun y1=>cV 5 3 y1 fun y2=>bG .add 3 (.const (kI 1)) (.tmp 12) (kI 1) y2 fun y3=>pT 2 133 [y3] fun z1=>nS z1 1 fun y8=>(ql 11 (ro (js z1 0))).bind fun y9=>(qm zL2 0 y9).bind fun y10=>ln (ro a1) fun y11=>B65_3 (ro a1) (kI y11) (kI 0) zL2 y10 hp:=eE qe
theorem qg9:B65_3 x17 v18 v19 b4 b5 hp=iT .lss 3 19 18 v19 v18 ((jc 2 x17 v19).bind fun y14=>(qn y14 0 2).bind fun y15=>(ql 2 (.agg (List.map ro1 y15))).bind fun y16=>(qm [kU 0,kB 0] 0 y16).bind fun y17=>(qn b5 0 11).bind fun y18=>(qn y17 0 2).bind fun y19=>pS 135 [.agg (List.map ro1 y19)] fun y23=>pA 134 [.agg (List.map ro1 y18),y23] fun z1=>(ql 11 z1).bind fun y28=>(qm b5 0 y28).bind fun y29=>bC .add 3 19 v19 (kI 1) fun y30=>B65_3 x17 v18 y30 b4 y29 hp) ((qn b5 0 11).bind fun y31=>(qm b5 0 (List.map ro1 y31)).bind fun y32=>(ql 11 (.agg y31)).bind fun y33=>(qm b4 0 y33).bind fun y34=>(qn y34 0 11).bind fun y35=>rQ (.agg y35) hp):=eX qe
theorem E135:run cxX 135 [a0] hp=(ql 2 a0).bind fun y0=>(qj (List.map ro1 y0) 0).bind fun y1=>(qj (List.map ro1 y0) 1).bind fun y2=>pS 203 [y1,y2] fun y6=>rQ y6 hp:=eE qe
theorem E124:run cxX 124 [a0,a1] hp=aS a0 fun y0=>aS a1 fun y1=>pS 151 [y0] fun y5=>pS 151 [y1] fun y9=>bT .lss 125 6 8 y5 y9 fun y10=>rQ y10 hp:=eE qe
def B151_7:=gb 151 7 [v3] hp
theorem E151:run cxX 151 [a0] hp=aS a0 fun y0=>(one (wR Tryz.prog 214 [y0])).bind fun y1=>pS 215 [y0] fun y5=>iB y5 (B151_7 (kU 18444492273895866369) hp) (bC .and 125 12 y1 (kU 9223372036854775808) fun y7=>iC .neq 125 13 y7 (kU 0) ((unV Tryz.prog .xor y1).bind fun y10=>B151_7 y10 hp) (bC .or 125 6 y1 (kU 9223372036854775808) fun y11=>B151_7 y11 hp)):=eE qe
theorem Yh:B151_7 v3 hp=rQ v3 hp:=eB qe
theorem E193:run cxX 193 [a0,a1] hp=aS a0 fun y0=>aS a1 fun y1=>pS 151 [y0] fun y5=>pS 151 [y1] fun y9=>bT .eql 125 6 8 y5 y9 fun y10=>rQ y10 hp:=eE qe
end
end Go.Proofs.YtoliekekdmfngaaGreat.AI
