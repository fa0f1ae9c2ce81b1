/- Texts that the proof of PackPuts rests on, part 4. -/
import Derived.Test.YtchmioacjkbfcaaGreatQPackPuts3
import Derived.Below
import Derived.ProofKit
import Derived.RowKit
import Derived.OpenShut
import Derived.ChangeOld
import Derived.SizedLaws
import Derived.Carry
import GoSem.Core.Float
import GoSem.Core.View
namespace Go.Proofs.YtchmioacjkbfcaaGreat.AI
open Go
set_option linter.unusedVariables false
set_option linter.unusedSimpArgs false
set_option maxRecDepth 100000
set_option maxHeartbeats 0
noncomputable section
variable (a0 a1 a2 a3 a4 a5:AV)(v0:Value)(x0:AV)(v1:Value)(x1:AV)(v2:Value)(x2:AV)(v3:Value)(x3:AV)(v4:Value)(x4:AV)(v5:Value)(x5:AV)(v6:Value)(x6:AV)(v7:Value)(x7:AV)(v8:Value)(x8:AV)(v9:Value)(x9:AV)(v10:Value)(x10:AV)(v11:Value)(x11:AV)(v12 v13:Value)(x13:AV)(v14 v15:Value)(x15:AV)(v16 v17:Value)(x17:AV)(v18 v19:Value)(x19:AV)(v20 v21 v22:Value)(x22:AV)(v23:Value)(x23:AV)(v24:Value)(x24:AV)(v25 v26 v27:Value)(x27:AV)(v28 v29 v30 v33 v34 v37 v38:Value)(x38:AV)(v39 v40:Value)(x41:AV)(v42 v43:Value)(x49:AV)(v50 v51 v52 v53 v64 v78:Value)(x93:AV)(v94 v95:Value)(b1 b2 b3 b4 b5 b6 b7 b8 b10:List AV)(hp:Hp)
theorem E5:run cxX 5 [a0] hp=(qg 7 a0).bind fun y0=>(yW [] []).bind fun y1=>(run cxX 10 [] hp0).bind fun y2=>(vF y2.1).bind fun y3=>aS y2.1 fun y4=>iN y4 (rQ (.sc (.bool false)) hp) ((ql (List.map ro1 y0) 0 7).bind fun y7=>pS 14 [.agg (List.map ro1 y7)] fun y11=>iN y11 (rQ (.sc (.bool true)) hp) ((ql (List.map ro1 y0) 0 7).bind fun y14=>pA 15 [.agg (List.map ro1 y14)] fun z1=>(qg 23 z1).bind fun y19=>(qh ZU 0 y19).bind fun y20=>(ql y20 0 23).bind fun y21=>pT 2 16 [.agg (List.map ro1 y21)] fun z2=>nS z2 1 fun y26=>(qe y20 0).bind fun y27=>cN 2 17 [y27,ro (r2 (yG z2 0)),Value.pointer none] hp fun z3 h4=>nS z3 1 fun y30=>(qg 23 (ro (yG z3 0))).bind fun y31=>(qh ZU 0 y31).bind fun y32=>iC .eql 57 27 y26 (kI 0) ((yF 1 (r2 (yG z2 0))).bind fun y35=>(zn y35).bind fun y36=>(ql y20 0 23).bind fun y37=>pA 18 [.agg (List.map ro1 y37)] fun z5=>(yF 1 z5).bind fun y42=>(zn y42).bind fun y43=>iT .eql 9 31 34 (Value.string (ByteArray.mk (Array.mk y36))) (Value.string (ByteArray.mk (Array.mk y43))) (iC .eql 57 38 y30 (kI 0) ((ql y20 0 23).bind fun y48=>(ql y32 0 23).bind fun y49=>pS 19 [.agg (List.map ro1 y48),.agg (List.map ro1 y49)] fun y53=>rQ y53 h4) (rQ (.sc (.bool false)) h4)) (rQ (.sc (.bool false)) h4)) (rQ (.sc (.bool false)) h4))):=eE (by kernel_rfl)
theorem E54:run cxX 54 [a0] hp=pA 109 [ro a0] fun z1=>rQ z1 hp:=eE (by kernel_rfl)
theorem E55:run cxX 55 [a0,a1] hp=aS a0 fun y0=>cV 3 76 y0 fun y1=>pA 110 [y1] fun z1=>pA 111 [ro a1] fun z2=>(zZ 1 1 z1 z2).bind fun y10=>rQ y10 hp:=eE (by kernel_rfl)
theorem E56:run cxX 56 [a0,a1] hp=aS a0 fun y0=>cV 3 5 y0 fun y1=>(xx [y1]).bind fun y2=>pA 112 [kI 64,ro a1] fun z1=>(zZ 1 1 (AV.us 1 [y1]) z1).bind fun y7=>rQ y7 hp:=eE (by kernel_rfl)
theorem E57:run cxX 57 [a0,a1,a2] hp=aS a0 fun y0=>aS a1 fun y1=>cV 3 76 y0 fun y2=>pA 110 [y2] fun z1=>cV 3 5 y1 fun y7=>ap 1 z1 y7 fun y9=>pA 113 [ro a2] fun z2=>(zZ 1 1 y9 z2).bind fun y14=>rQ y14 hp:=eE (by kernel_rfl)
def B58_3:=gb 58 3 [v1,x2,x7,v8] hp
def B58_8:=gb 58 8 [v1,x2,x7,v8,v9] hp
theorem E58:run cxX 58 [a0,a1,a2] hp=aS a0 fun y0=>aS a1 fun y1=>cV 3 5 y0 fun y2=>(xx [y2]).bind fun y3=>cV 3 76 y1 fun y4=>pA 110 [y4] fun z1=>(zZ 1 1 (AV.us 1 [y2]) z1).bind fun y9=>B58_3 y1 a2 y9 (kI 0) hp:=eE (by kernel_rfl)
theorem qib:B58_3 v1 x2 x7 v8 hp=ln (ro x2) fun y10=>iT .lss 3 17 19 v8 (kI y10) (bT .rem 3 23 24 v8 v1 fun y13=>iC .gtr 3 25 y13 (kI 0) (bC .sub 3 28 v8 (kI 1) fun y16=>ju (ro x2) y16 fun y18=>cV 30 2 y18 fun y19=>B58_8 v1 x2 x7 v8 y19 hp) (B58_8 v1 x2 x7 v8 (kI 0) hp)) (rQ x7 hp):=eB (by kernel_rfl)
theorem qyn:B58_8 v1 x2 x7 v8 v9 hp=ju (ro x2) v8 fun y21=>cV 30 2 y21 fun y22=>bT .sub 2 38 39 y22 v9 fun y23=>pA 114 [y23] fun z1=>(zZ 1 1 x7 z1).bind fun y28=>bC .add 3 21 v8 (kI 1) fun y29=>B58_3 v1 x2 y28 y29 hp:=eB (by kernel_rfl)
def B59_3:=gx 59 3 [v3,v4,x5,.lp 8 0 0,x13,v14] [(8,0,b8)] hp
def B59_11:=gb 59 11 [x5,x13,v15,v16] hp
theorem E59:run cxX 59 [a0,a1,a2,a3,a4,a5] hp=aS a0 fun y0=>aS a1 fun y1=>aS a3 fun y2=>aS a4 fun y3=>(qg 6 a2).bind fun y4=>cV 3 5 y0 fun y5=>(xx [y5]).bind fun y6=>cV 30 76 y1 fun y7=>pA 110 [y7] fun z1=>(zZ 1 1 (AV.us 1 [y5]) z1).bind fun y12=>B59_3 y2 y3 a5 y12 (kI 0) (List.map ro1 y4) hp:=eE (by kernel_rfl)
theorem qia:B59_3 v3 v4 x5 x13 v14 b8 hp=iC .lss 3 25 v14 (kI 6) ((idx 6 v14).bind fun y15=>(qe b8 (Nat.add 0 (Nat.add 0 y15))).bind fun y16=>cV 30 76 y16 fun y17=>pA 110 [y17] fun z1=>(zZ 1 1 x13 z1).bind fun y22=>bC .add 3 27 v14 (kI 1) fun y23=>B59_3 v3 v4 x5 y22 y23 b8 hp) (pS 115 [v3] fun y27=>pA 110 [y27] fun z2=>(zZ 1 1 x13 z2).bind fun y32=>pS 115 [v4] fun y36=>pA 110 [y36] fun z3=>(zZ 1 1 y32 z3).bind fun y41=>ln (ro x5) fun y42=>cV 3 5 (kI y42) fun y43=>ap 1 y41 y43 fun y45=>B59_11 x5 y45 (kU 0) (kI 0) hp):=eX (by kernel_rfl)
theorem qam:B59_11 x5 x13 v15 v16 hp=ln (ro x5) fun y46=>iT .lss 3 52 54 v16 (kI y46) (ju (ro x5) v16 fun y50=>pS 115 [y50] fun y54=>bT .sub 76 64 65 y54 v15 fun y55=>pA 110 [y55] fun z1=>(zZ 1 1 x13 z1).bind fun y60=>bC .add 3 56 v16 (kI 1) fun y61=>B59_11 x5 y60 y54 y61 hp) (rQ x13 hp):=eB (by kernel_rfl)
theorem E10:run cxX 10 [] hp=pT 2 16 [.agg ZU] fun z1=>nS z1 1 fun y4=>cN 2 17 [kB 0,ro (r2 (yG z1 0)),Value.pointer none] hp fun z2 h3=>nS z2 1 fun y7=>(qg 23 (ro (yG z2 0))).bind fun y8=>(qh ZU 0 y8).bind fun y9=>iC .eql 57 15 y4 (kI 0) ((yF 1 (r2 (yG z1 0))).bind fun y12=>(zn y12).bind fun y13=>iC .eql 9 19 (Value.string (ByteArray.mk (Array.mk y13))) (Value.string (ByteArray.mk (Array.mk [0]))) (iC .eql 57 23 y7 (kI 0) ((qj y9 1).bind fun y18=>ln (ro1 y18) fun y19=>bC .eql 3 29 (kI y19) (kI 0) fun y20=>rQ y20 h3) (rQ (.sc (.bool false)) h3)) (rQ (.sc (.bool false)) h3)) (rQ (.sc (.bool false)) h3):=eE (by kernel_rfl)
theorem E18:run cxX 18 [a0] hp=(qg 23 a0).bind fun y0=>(qe (List.map ro1 y0) 0).bind fun y1=>iC .eql 39 5 y1 (kB 0) ((qj (List.map ro1 y0) 1).bind fun y4=>pA 54 [ro1 y4] fun z1=>rQ z1 hp) (iC .eql 39 5 y1 (kB 1) ((qe (List.map ro1 y0) 2).bind fun y11=>(qj (List.map ro1 y0) 3).bind fun y12=>pA 55 [y11,ro1 y12] fun z2=>rQ z2 hp) (iC .eql 39 5 y1 (kB 2) ((qe (List.map ro1 y0) 4).bind fun y19=>(qj (List.map ro1 y0) 5).bind fun y20=>pA 56 [y19,ro1 y20] fun z3=>rQ z3 hp) (iC .eql 39 5 y1 (kB 3) ((qe (List.map ro1 y0) 6).bind fun y27=>(qe (List.map ro1 y0) 7).bind fun y28=>(qj (List.map ro1 y0) 8).bind fun y29=>pA 57 [y27,y28,ro1 y29] fun z4=>rQ z4 hp) (iC .eql 39 5 y1 (kB 4) ((qe (List.map ro1 y0) 9).bind fun y36=>(qe (List.map ro1 y0) 10).bind fun y37=>(qj (List.map ro1 y0) 11).bind fun y38=>pA 58 [y36,y37,ro1 y38] fun z5=>rQ z5 hp) ((ql (List.map ro1 y0) 12 11).bind fun y43=>(qg 11 (.agg (List.map ro1 y43))).bind fun y44=>(qh zL1 0 y44).bind fun y45=>(qe y45 0).bind fun y46=>(qe y45 1).bind fun y47=>(ql y45 2 6).bind fun y48=>(qe y45 8).bind fun y49=>(qe y45 9).bind fun y50=>(qj y45 10).bind fun y51=>pA 59 [y46,y47,.agg (List.map ro1 y48),y49,y50,ro1 y51] fun z6=>rQ z6 hp))))):=eE (by kernel_rfl)
def B110_2:=gb 110 2 [v0,x3] hp
theorem E110:run cxX 110 [a0] hp=aS a0 fun y0=>B110_2 y0 nl hp:=eE (by kernel_rfl)
theorem qsz:B110_2 v0 x3 hp=iC .geq 76 4 v0 (kU 128) (bC .rem 76 7 v0 (kU 128) fun y3=>bC .add 76 8 y3 (kU 128) fun y4=>cV 76 5 y4 fun y5=>ap 1 x3 y5 fun y7=>bC .quo 76 13 v0 (kU 128) fun y8=>B110_2 y8 y7 hp) (cV 76 5 v0 fun y9=>ap 1 x3 y9 fun y11=>rQ y11 hp):=eB (by kernel_rfl)
theorem E114:run cxX 114 [a0] hp=aS a0 fun y0=>iC .lss 2 3 y0 (kI 0) (bC .add 2 5 y0 (kI 1) fun y3=>(unV Tryz.prog .neg y3).bind fun y4=>cV 2 76 y4 fun y5=>bC .mul 76 8 y5 (kU 2) fun y6=>bC .add 76 9 y6 (kU 1) fun y7=>pA 110 [y7] fun z1=>rQ z1 hp) (cV 2 76 y0 fun y12=>bC .mul 76 13 y12 (kU 2) fun y13=>pA 110 [y13] fun z2=>rQ z2 hp):=eE (by kernel_rfl)
def B111_5:=gb 111 5 [x0,v3,x4,x5,v6] hp
theorem E111:run cxX 111 [a0] hp=pS 157 [ro a0] fun y3=>pA 158 [ro a0] fun z1=>B111_5 a0 y3 nl z1 (kI 0) hp:=eE (by kernel_rfl)
theorem qb0:B111_5 x0 v3 x4 x5 v6 hp=ln (ro x5) fun y8=>iT .lss 3 13 15 v6 (kI y8) (ju (ro x5) v6 fun y12=>bT .shr 76 23 24 y12 v3 fun y13=>cV 76 3 y13 fun y14=>pA 159 [y14] fun z1=>(zZ 1 1 x4 z1).bind fun y19=>ju (ro x5) v6 fun y21=>pA 160 [y21,v3] fun z2=>(zZ 1 1 y19 z2).bind fun y26=>bC .add 3 17 v6 (kI 1) fun y27=>B111_5 x0 v3 y26 x5 y27 hp) (pA 161 [ro x4] fun z3=>ln (ro x0) fun y32=>cV 3 76 (kI y32) fun y33=>pA 110 [y33] fun z4=>cV 3 5 v3 fun y38=>ap 1 z4 y38 fun y40=>ln (ro z3) fun y41=>cV 3 76 (kI y41) fun y42=>pA 110 [y42] fun z5=>(zZ 1 1 y40 z5).bind fun y47=>(zZ 1 1 y47 (ro z3)).bind fun y48=>rQ y48 hp):=eB (by kernel_rfl)
def B113_5:=gb 113 5 [x0,v3,v4] hp
def B113_6:=gb 113 6 [x0,v3,v4,v5] hp
def B113_7:=gb 113 7 [x0,v3,v4,v5] hp
def B113_8:=gb 113 8 [x0,v3,v4,v5] hp
def B113_11:=gb 113 11 [x0,v3,v4,v5,x6,x7,v8,v9] hp
theorem E113:run cxX 113 [a0] hp=ln (ro a0) fun y0=>iC .gtr 3 14 (kI y0) (kI 0) (bC .sub 3 17 (kI y0) (kI 1) fun y3=>ju (ro a0) y3 fun y5=>B113_5 a0 (kI y0) y5 hp) (B113_5 a0 (kI y0) (kW 0) hp):=eE (by kernel_rfl)
theorem qsy:B113_5 x0 v3 v4 hp=B113_6 x0 v3 v4 (kI 0) hp:=eB (by kernel_rfl)
theorem qsx:B113_6 x0 v3 v4 v5 hp=iC .gtr 3 21 v3 (kI 0) (cV 30 3 v4 fun y8=>bC .quo 3 25 y8 (kI 2) fun y9=>bT .shr 3 26 27 y9 v5 fun y10=>iT .geq 3 28 29 y10 v3 (B113_7 x0 v3 v4 v5 hp) (B113_8 x0 v3 v4 v5 hp)) (B113_8 x0 v3 v4 v5 hp):=eB (by kernel_rfl)
theorem qsw:B113_7 x0 v3 v4 v5 hp=bC .add 3 32 v5 (kI 1) fun y13=>B113_6 x0 v3 v4 y13 hp:=eB (by kernel_rfl)
theorem qsv:B113_8 x0 v3 v4 v5 hp=B113_11 x0 v3 v4 v5 nl nl (kW 0) (kI 0) hp:=eB (by kernel_rfl)
theorem Vm:B113_11 x0 v3 v4 v5 x6 x7 v8 v9 hp=iT .lss 3 34 35 v9 v3 (ju (ro x0) v9 fun y17=>cV 30 76 y17 fun y18=>pA 160 [y18,v5] fun z1=>(zZ 1 1 x6 z1).bind fun y23=>ju (ro x0) v9 fun y25=>bT .shr 30 52 53 y25 v5 fun y26=>bT .sub 30 54 55 y26 v8 fun y27=>cV 30 3 y27 fun y28=>pA 159 [y28] fun z2=>(zZ 1 1 x7 z2).bind fun y33=>ju (ro x0) v9 fun y35=>bT .shr 30 63 64 y35 v5 fun y36=>bC .add 3 37 v9 (kI 1) fun y37=>B113_11 x0 v3 v4 v5 y23 y33 y36 y37 hp) (cV 3 76 v3 fun y38=>pA 110 [y38] fun z3=>cV 30 76 v4 fun y43=>pA 110 [y43] fun z4=>(zZ 1 1 z3 z4).bind fun y48=>pA 161 [ro x6] fun z5=>(zZ 1 1 y48 z5).bind fun y53=>pA 161 [ro x7] fun z6=>ln (ro z6) fun y58=>cV 3 76 (kI y58) fun y59=>pA 110 [y59] fun z7=>(zZ 1 1 y53 z7).bind fun y64=>(zZ 1 1 y64 (ro z6)).bind fun y65=>rQ y65 hp):=eB (by kernel_rfl)
def B157_4:=gb 157 4 [v3,v4,x5,v6] hp
def B157_9:=gb 157 9 [v3,v4,x5,v6,v7,v8,v9] hp
def B157_15:=gb 157 15 [v3,v4,x5,v6,v7,v8,v9,v10] hp
def B157_17:=gb 157 17 [x5,v6,v7] hp
def B157_5:=gb 157 5 [v3,v4,x5,v6] hp
theorem E157:run cxX 157 [a0] hp=pA 158 [ro a0] fun z1=>B157_4 (kI 63) (.int .i64 (.negSucc 0)) z1 (kI 0) hp:=eE (by kernel_rfl)
theorem qbd:B157_4 v3 v4 x5 v6 hp=iC .lss 3 13 v6 (kI 64) (B157_9 v3 v4 x5 v6 (kI 0) (.bool true) (kI 0) hp) (rQ v3 hp):=eB (by kernel_rfl)
theorem qbc:B157_9 v3 v4 x5 v6 v7 v8 v9 hp=ln (ro x5) fun y6=>iT .lss 3 17 19 v9 (kI y6) (ju (ro x5) v9 fun y10=>bT .shr 76 26 27 y10 v6 fun y11=>iC .gtr 76 29 y11 (kU 4096) (B157_15 v3 v4 x5 v6 v7 (.bool false) v9 (kU 0) hp) (B157_15 v3 v4 x5 v6 v7 v8 v9 y11 hp)) (iB v8 (iC .lss 3 40 v4 (kI 0) (B157_17 x5 v6 v7 hp) (iT .lss 3 43 44 v7 v4 (B157_17 x5 v6 v7 hp) (B157_5 v3 v4 x5 v6 hp))) (B157_5 v3 v4 x5 v6 hp)):=eB (by kernel_rfl)
theorem qlt:B157_15 v3 v4 x5 v6 v7 v8 v9 v10 hp=cV 76 3 v10 fun y19=>bT .add 3 31 33 v7 y19 fun y20=>bC .add 3 34 y20 (kI 1) fun y21=>bT .add 3 35 36 y21 v6 fun y22=>bC .add 3 21 v9 (kI 1) fun y23=>B157_9 v3 v4 x5 v6 y22 v8 y23 hp:=eB (by kernel_rfl)
theorem Vj:B157_17 x5 v6 v7 hp=B157_5 v6 v7 x5 v6 hp:=eB (by kernel_rfl)
theorem qr0:B157_5 v3 v4 x5 v6 hp=bC .add 3 15 v6 (kI 1) fun y24=>B157_4 v3 v4 x5 y24 hp:=eB (by kernel_rfl)
def B158_3:=gb 158 3 [x0,x3,v4] hp
def B158_4:=gb 158 4 [x0,x3,v4] hp
theorem E158:run cxX 158 [a0] hp=B158_3 a0 nl (kI 0) hp:=eE (by kernel_rfl)
theorem qbb:B158_3 x0 x3 v4 hp=ln (ro x0) fun y0=>iT .lss 3 5 7 v4 (kI y0) (iC .eql 3 11 v4 (kI 0) (ju (ro x0) (kI 0) fun y6=>ap 8 x3 y6 fun y8=>B158_4 x0 y8 v4 hp) (ju (ro x0) v4 fun y10=>bC .sub 3 25 v4 (kI 1) fun y11=>ju (ro x0) y11 fun y13=>bT .sub 76 23 28 y10 y13 fun y14=>bC .sub 76 29 y14 (kU 1) fun y15=>ap 8 x3 y15 fun y17=>B158_4 x0 y17 v4 hp)) (rQ x3 hp):=eB (by kernel_rfl)
theorem qrz:B158_4 x0 x3 v4 hp=bC .add 3 9 v4 (kI 1) fun y18=>B158_3 x0 x3 y18 hp:=eB (by kernel_rfl)
def B159_3:=gb 159 3 [v0,x3,v4] hp
theorem E159:run cxX 159 [a0] hp=aS a0 fun y0=>B159_3 y0 nl (kI 0) hp:=eE (by kernel_rfl)
theorem qba:B159_3 v0 x3 v4 hp=iT .lss 3 5 6 v4 v0 (ap 1 x3 (kB 1) fun y4=>bC .add 3 8 v4 (kI 1) fun y5=>B159_3 v0 y4 y5 hp) (ap 1 x3 (kB 0) fun y7=>rQ y7 hp):=eB (by kernel_rfl)
def B160_3:=gb 160 3 [v0,v1] hp
def B160_5:=gb 160 5 [v0,v1] hp
def B160_7:=gb 160 7 [v0,x5,v6] hp
theorem E160:run cxX 160 [a0,a1] hp=aS a0 fun y0=>aS a1 fun y1=>iC .gtr 3 7 y1 (kI 64) (B160_3 y0 (kI 64) hp) (B160_3 y0 y1 hp):=eE (by kernel_rfl)
theorem qrw:B160_3 v0 v1 hp=iC .lss 3 9 v1 (kI 0) (B160_5 v0 (kI 0) hp) (B160_5 v0 v1 hp):=eB (by kernel_rfl)
theorem qrv:B160_5 v0 v1 hp=(YW v1).bind fun y6=>(YW v1).bind fun y7=>(yu 1 1 y6 y7).bind fun y8=>bC .sub 3 13 v1 (kI 1) fun y9=>B160_7 v0 (AV.ms hp.1 0 0 (tN y6) 1) y9 (Hp.new hp (yU y6 [kB 0])):=eB (by kernel_rfl)
theorem qa7:B160_7 v0 x5 v6 hp=iC .geq 3 15 v6 (kI 0) (bC .rem 76 21 v0 (kU 2) fun y12=>cV 76 5 y12 fun y13=>(qL (ro x5)).bind fun y14=>(idx y14.2.2.2.1 v6).bind fun y15=>(jl y14.2.2.2.2 1).bind fun y16=>(Hp.rd hp y14.1 y14.2.1).bind fun y17=>(qh y17 (Nat.add y14.2.2.1 (Nat.add 0 y15)) [y13]).bind fun y18=>bC .quo 76 25 v0 (kU 2) fun y19=>bC .sub 3 17 v6 (kI 1) fun y20=>B160_7 y19 x5 y20 (Hp.put hp y14.1 y14.2.1 y18)) ((xQ hp (ro x5)).bind fun y21=>rQ y21.1 y21.2):=eB (by kernel_rfl)
def B161_3:=gb 161 3 [x0,x3,v4] hp
theorem E161:run cxX 161 [a0] hp=ln (ro a0) fun y0=>bC .add 3 6 (kI y0) (kI 7) fun y1=>bC .quo 3 7 y1 (kI 8) fun y2=>(YW y2).bind fun y3=>(YW y2).bind fun y4=>(yu 1 1 y3 y4).bind fun y5=>B161_3 a0 (AV.ms hp.1 0 0 (tN y3) 1) (kI 0) (Hp.new hp (yU y3 [kB 0])):=eE (by kernel_rfl)
theorem qa6:B161_3 x0 x3 v4 hp=ln (ro x0) fun y6=>iT .lss 3 10 12 v4 (kI y6) (bC .quo 3 17 v4 (kI 8) fun y9=>bC .quo 3 20 v4 (kI 8) fun y10=>(qL (ro x3)).bind fun y11=>(idx y11.2.2.2.1 y10).bind fun y12=>(jl y11.2.2.2.2 1).bind fun y13=>(Hp.rd hp y11.1 y11.2.1).bind fun y14=>(qe y14 (Nat.add y11.2.2.1 (Nat.add 0 y12))).bind fun y15=>ju (ro x0) v4 fun y17=>bC .rem 3 28 v4 (kI 8) fun y18=>bG .sub 3 (.const (kI 7)) (.tmp 29) (kI 7) y18 fun y19=>bT .shl 5 27 30 y17 y19 fun y20=>bT .add 5 23 31 y15 y20 fun y21=>(qL (ro x3)).bind fun y22=>(idx y22.2.2.2.1 y9).bind fun y23=>(jl y22.2.2.2.2 1).bind fun y24=>(Hp.rd hp y22.1 y22.2.1).bind fun y25=>(qh y25 (Nat.add y22.2.2.1 (Nat.add 0 y23)) [y21]).bind fun y26=>bC .add 3 14 v4 (kI 1) fun y27=>B161_3 x0 x3 y27 (Hp.put hp y22.1 y22.2.1 y26)) ((xQ hp (ro x3)).bind fun y28=>rQ y28.1 y28.2):=eB (by kernel_rfl)
def B34_7:=gb 34 7 [x0,v5,x6,v20,v21] hp
theorem E34:run cxX 34 [a0] hp=pS 82 [ro a0] fun y3=>iC .neq 57 12 y3 (kI 0) (rQ (.tup [nl,y3]) hp) (pS 83 [ro a0] fun y9=>ln (ro a0) fun y10=>B34_7 a0 y9 (AV.ptr hp.1 0 0) (kI y10) (kI 0) (Hp.new hp [nl,kI 0])):=eE (by kernel_rfl)
theorem qii:B34_7 x0 v5 x6 v20 v21 hp=iT .lss 3 21 20 v21 v20 (pS 84 [ro x0,v21] fun y16=>bT .shr 76 28 29 y16 v5 fun y17=>cV 76 3 y17 fun y18=>cT 85 [r2 x6,y18] hp fun h1=>cT 86 [r2 x6,y16,v5] h1 fun h2=>bC .add 3 21 v21 (kI 1) fun y23=>B34_7 x0 v5 x6 v20 y23 h2) (ln (ro x0) fun y24=>cV 3 76 (kI y24) fun y25=>cT 25 [r2 (AV.ptr hp.1 0 0),y25] (Hp.new hp [nl]) fun h3=>cV 3 5 v5 fun y28=>cT 36 [r2 (AV.ptr hp.1 0 0),y28] h3 fun h4=>cA 87 [r2 x6] h4 fun z5 h6=>ln z5 fun y33=>cV 3 76 (kI y33) fun y34=>cT 25 [r2 (AV.ptr hp.1 0 0),y34] h6 fun h7=>cA 87 [r2 x6] h7 fun z8 h9=>cT 35 [r2 (AV.ptr hp.1 0 0),ro z8] h9 fun h10=>cA 13 [r2 (AV.ptr hp.1 0 0)] h10 fun z11 h12=>rQ (.tup [z11,kI 0]) h12):=eB (by kernel_rfl)
def B46_3:=gb 46 3 [x0,x3,x4] hp
def B46_9:=gb 46 9 [x0,x3,x4] hp
def B46_10:=gb 46 10 [x0,x4] hp
def B46_11:=gb 46 11 [x0,x4] hp
theorem E46:run cxX 46 [a0] hp=cA 98 [r2 a0] hp fun z1 h2=>B46_3 a0 z1 nl h2:=eE (by kernel_rfl)
theorem qif:B46_3 x0 x3 x4 hp=cN 2 99 [r2 x3] hp fun z1 h2=>nS z1 0 fun y4=>nS z1 1 fun y5=>iN y5 (cS 100 [r2 x3] h2 fun y9 h3=>iC .neq 57 23 y9 (kI 0) (cT 95 [r2 x0,y9] h3 fun h4=>B46_9 x0 x3 x4 h4) (B46_9 x0 x3 x4 h3)) (ap 8 x4 y4 fun y15=>B46_3 x0 x3 y15 h2):=eB (by kernel_rfl)
theorem qyq:B46_9 x0 x3 x4 hp=cS 93 [r2 x0] hp fun y17 h1=>iC .eql 57 29 y17 (kI 0) (pS 83 [ro x4] fun y23=>jI 1 (ro x3) h1 fun y27=>iT .neq 3 33 37 y23 y27 (B46_10 x0 x4 h1) (B46_11 x0 x4 h1)) (B46_11 x0 x4 h1):=eB (by kernel_rfl)
theorem qrj:B46_11 x0 x4 hp=cS 93 [r2 x0] hp fun y33 h1=>iC .neq 57 43 y33 (kI 0) (rQ nl h1) (rQ x4 h1):=eB (by kernel_rfl)
def B82_4:=gb 82 4 [x0,v3] hp
theorem E82:run cxX 82 [a0] hp=ln (ro a0) fun y0=>iC .gtr 3 5 (kI y0) (kI 4096) (rQ (kI 7) hp) (B82_4 a0 (kI 1) hp):=eE (by kernel_rfl)
theorem Va:B82_4 x0 v3 hp=ln (ro x0) fun y3=>iT .lss 3 7 9 v3 (kI y3) (ju (ro x0) v3 fun y7=>bC .sub 3 18 v3 (kI 1) fun y8=>ju (ro x0) y8 fun y10=>iT .leq 76 16 21 y7 y10 (rQ (kI 8) hp) (bC .add 3 11 v3 (kI 1) fun y13=>B82_4 x0 y13 hp)) (rQ (kI 0) hp):=eB (by kernel_rfl)
def B83_3:=gb 83 3 [x0,v3,v4,v8] hp
def B83_7:=gb 83 7 [x0,v5,v6,v8] hp
def B83_8:=gb 83 8 [x0,v3,v4,v8] hp
theorem E83:run cxX 83 [a0] hp=B83_3 a0 (kI 63) (.int .i64 (.negSucc 0)) (kI 0) hp:=eE (by kernel_rfl)
theorem qhu:B83_3 x0 v3 v4 v8 hp=iC .lss 3 8 v8 (kI 64) (pT 2 136 [ro x0,v8] fun z1=>nS z1 0 fun y6=>nS z1 1 fun y7=>iB y7 (iC .lss 3 19 v4 (kI 0) (B83_7 x0 v8 y6 v8 hp) (iT .lss 3 22 23 y6 v4 (B83_7 x0 v8 y6 v8 hp) (B83_8 x0 v3 v4 v8 hp))) (B83_8 x0 v3 v4 v8 hp)) (rQ v3 hp):=eB (by kernel_rfl)
theorem qht:B83_7 x0 v5 v6 v8 hp=B83_8 x0 v5 v6 v8 hp:=eB (by kernel_rfl)
theorem qyc:B83_8 x0 v3 v4 v8 hp=bC .add 3 8 v8 (kI 1) fun y13=>B83_3 x0 v3 v4 y13 hp:=eB (by kernel_rfl)
theorem E84:run cxX 84 [a0,a1] hp=aS a1 fun y0=>iC .eql 3 5 y0 (kI 0) (ju (ro a0) (kI 0) fun y4=>rQ y4 hp) (ju (ro a0) y0 fun y6=>bC .sub 3 15 y0 (kI 1) fun y7=>ju (ro a0) y7 fun y9=>bT .sub 76 13 18 y6 y9 fun y10=>bC .sub 76 19 y10 (kU 1) fun y11=>rQ y11 hp):=eE (by kernel_rfl)
def B98_5:=gb 98 5 [x0,x3,x4] hp
theorem E98:run cxX 98 [a0] hp=cS 45 [r2 a0,kU 4096] hp fun y1 h1=>cV 76 3 y1 fun y2=>cS 48 [r2 a0] h1 fun y4 h2=>cV 5 3 y4 fun y5=>cS 45 [r2 a0,kU 1048576] (Hp.new h2 [Value.pointer none,y5,y2,kI 0,kU 0,.sc (.bool false)]) fun y7 h3=>cV 76 3 y7 fun y8=>cA 102 [r2 a0,y8] h3 fun z4 h5=>jI 1 (ro (AV.ptr h2.1 0 0)) h5 fun y14=>iC .geq 3 21 y14 (kI 64) (cT 95 [r2 a0,kI 2] h5 fun h6=>B98_5 a0 (AV.ptr h2.1 0 0) z4 h6) (B98_5 a0 (AV.ptr h2.1 0 0) z4 h5):=eE (by kernel_rfl)
theorem qx5:B98_5 x0 x3 x4 hp=cS 93 [r2 x0] hp fun y20 h1=>iC .neq 57 26 y20 (kI 0) (rQ (AV.ptr h1.1 0 0) (Hp.new h1 [Value.pointer none,kI 0,kI 0,kI 0,kU 0,.sc (.bool false)])) (cA 147 [r2 x4] h1 fun z2 h3=>(Qm (ro x3)).bind fun y25=>(qN (ro x3)).bind fun y26=>(qg 1 z2).bind fun y27=>(Hp.rd h3 y26.1 y26.2.1).bind fun y28=>(qh y28 y26.2.2 y27).bind fun y29=>rQ (ro x3) (Hp.put h3 y26.1 y26.2.1 y29)):=eB (by kernel_rfl)
def B99_9:=gb 99 9 [x0,v4,v7] hp
def B99_10:=gb 99 10 [x0] hp
def B99_12:=gb 99 12 [x0,v7] hp
theorem E99:run cxX 99 [a0] hp=cS 148 [r2 a0] hp fun y1 h1=>iC .eql 3 9 y1 (kI 0) (rQ (.tup [kU 0,.sc (.bool false)]) h1) (vb 0 (ro a0) h1 fun y7=>cS 149 [ro (ro1 y7),kI 4096] h1 fun y9 h2=>cV 3 76 y9 fun y10=>vb 0 (ro a0) h2 fun y14=>jI 1 (ro a0) h2 fun y18=>cS 150 [ro (ro1 y14),y18] h2 fun y20 h3=>jI 1 (ro a0) h3 fun y24=>bT .shl 76 26 30 y10 y24 fun y25=>bT .or 76 31 32 y25 y20 fun y26=>jI 3 (ro a0) h3 fun y30=>iC .gtr 3 38 y30 (kI 0) (jI 4 (ro a0) h3 fun y36=>bC .add 76 43 y36 (kU 1) fun y37=>bT .add 76 44 45 y37 y26 fun y38=>B99_9 a0 y10 y38 h3) (B99_9 a0 y10 y26 h3)):=eE (by kernel_rfl)
theorem qhn:B99_9 x0 v4 v7 hp=vb 0 (ro x0) hp fun y42=>cS 151 [ro (ro1 y42)] hp fun y44 h1=>iB y44 (B99_10 x0 h1) (jI 1 (ro x0) h1 fun y49=>bT .shl 76 53 57 v4 y49 fun y50=>jI 1 (ro x0) h1 fun y54=>bT .shr 76 58 62 y50 y54 fun y55=>iT .neq 76 63 64 y55 v4 (B99_10 x0 h1) (jI 3 (ro x0) h1 fun y61=>iC .gtr 3 71 y61 (kI 0) (jI 4 (ro x0) h1 fun y67=>iT .leq 76 74 78 v7 y67 (B99_10 x0 h1) (B99_12 x0 v7 h1)) (B99_12 x0 v7 h1))):=eB (by kernel_rfl)
theorem qq5:B99_12 x0 v7 hp=jI 3 (ro x0) hp fun y77=>bC .add 3 88 y77 (kI 1) fun y78=>ZT 3 (ro x0) hp [y78] fun h1=>ZT 4 (ro x0) h1 [v7] fun h2=>rQ (.tup [v7,.sc (.bool true)]) h2:=eB (by kernel_rfl)
def B100_4:=gb 100 4 [] hp
def B100_5:=gb 100 5 [x0] hp
theorem E100:run cxX 100 [a0] hp=iZ (ro a0) (rQ (kI 1) hp) (jI 5 (ro a0) hp fun y4=>iB y4 (B100_4 hp) (jI 3 (ro a0) hp fun y9=>jI 2 (ro a0) hp fun y13=>iT .lss 3 15 19 y9 y13 (B100_4 hp) (B100_5 a0 hp))):=eE (by kernel_rfl)
theorem qs9:B100_5 x0 hp=vb 0 (ro x0) hp fun y19=>iZ (ro1 y19) (rQ (kI 0) hp) (vb 0 (ro x0) hp fun y24=>cS 152 [ro (ro1 y24)] hp fun y26 h1=>rQ y26 h1):=eB (by kernel_rfl)
def B136_3:=gb 136 3 [x0,v1,v6,v10,v11] hp
theorem E136:run cxX 136 [a0,a1] hp=aS a1 fun y0=>ln (ro a0) fun y1=>B136_3 a0 y0 (kI 0) (kI y1) (kI 0) hp:=eE (by kernel_rfl)
theorem qbp:B136_3 x0 v1 v6 v10 v11 hp=iT .lss 3 11 10 v11 v10 (pS 84 [ro x0,v11] fun y7=>bT .shr 76 16 17 y7 v1 fun y8=>iC .gtr 76 19 y8 (kU 4096) (rQ (.tup [kI 0,.sc (.bool false)]) hp) (cV 76 3 y8 fun y11=>bC .add 3 23 y11 (kI 1) fun y12=>bT .add 3 24 25 y12 v1 fun y13=>bT .add 3 21 26 v6 y13 fun y14=>bC .add 3 11 v11 (kI 1) fun y15=>B136_3 x0 v1 y14 v10 y15 hp)) (rQ (.tup [v6,.sc (.bool true)]) hp):=eB (by kernel_rfl)
def B148_2:=gb 148 2 [] hp
def B148_3:=gb 148 3 [x0] hp
theorem E148:run cxX 148 [a0] hp=iZ (ro a0) (B148_2 hp) (jI 5 (ro a0) hp fun y4=>iB y4 (B148_2 hp) (B148_3 a0 hp)):=eE (by kernel_rfl)
theorem qr5:B148_3 x0 hp=jI 2 (ro x0) hp fun y9=>jI 3 (ro x0) hp fun y13=>bT .sub 3 14 18 y9 y13 fun y14=>rQ y14 hp:=eB (by kernel_rfl)
def B85_0:=gb 85 0 [x0,v1] hp
theorem E85:run cxX 85 [a0,a1] hp=aS a1 fun y0=>B85_0 a0 y0 hp:=eE (by kernel_rfl)
theorem qhs:B85_0 x0 v1 hp=iC .gtr 3 4 v1 (kI 0) (cT 86 [r2 x0,kU 1,kI 1] hp fun h1=>bC .sub 3 6 v1 (kI 1) fun y5=>B85_0 x0 y5 h1) (cT 86 [r2 x0,kU 0,kI 1] hp fun h2=>rQ (.tup []) h2):=eB (by kernel_rfl)
def B86_2:=gb 86 2 [x0,v1,v6] hp
def B86_6:=gb 86 6 [x0,v1,v6] hp
def B86_8:=gb 86 8 [x0,v1,v6] hp
theorem E86:run cxX 86 [a0,a1,a2] hp=aS a1 fun y0=>aS a2 fun y1=>iZ (ro a0) (rQ (.tup []) hp) ((vc Tryz.prog Go.Builtin.max (Array.mk [3,3]) 3 [y1,kI 0]).bind fun y3=>(vc Tryz.prog Go.Builtin.min (Array.mk [3,3]) 3 [y3,kI 64]).bind fun y4=>bC .sub 3 11 y4 (kI 1) fun y5=>B86_2 a0 y0 y5 hp):=eE (by kernel_rfl)
theorem qhr:B86_2 x0 v1 v6 hp=iC .geq 3 13 v6 (kI 0) (jI 1 (ro x0) hp fun y11=>bC .rem 3 20 y11 (kI 8) fun y12=>iC .eql 3 21 y12 (kI 0) (vb 0 (ro x0) hp fun y18=>(xx [kB 0]).bind fun y19=>(jo 1 1 (ro1 y18) (AV.us 1 [kB 0]) hp).bind fun y20=>(Qm (ro x0)).bind fun y21=>(qN (ro x0)).bind fun y22=>(qg 1 y20.1).bind fun y23=>(Hp.rd y20.2 y22.1 y22.2.1).bind fun y24=>(qh y24 y22.2.2 y23).bind fun y25=>B86_6 x0 v1 v6 (Hp.put y20.2 y22.1 y22.2.1 y25)) (B86_6 x0 v1 v6 hp)) (rQ (.tup []) hp):=eB (by kernel_rfl)
theorem qyb:B86_6 x0 v1 v6 hp=bT .shr 76 32 33 v1 v6 fun y26=>bC .and 76 34 y26 (kU 1) fun y27=>iC .eql 76 35 y27 (kU 1) (vb 0 (ro x0) hp fun y33=>jI 1 (ro x0) hp fun y37=>bC .quo 3 44 y37 (kI 8) fun y38=>(qL (ro1 y33)).bind fun y39=>(idx y39.2.2.2.1 y38).bind fun y40=>(jl y39.2.2.2.2 1).bind fun y41=>(Hp.rd hp y39.1 y39.2.1).bind fun y42=>(qe y42 (Nat.add y39.2.2.1 (Nat.add 0 y40))).bind fun y43=>jI 1 (ro x0) hp fun y47=>bC .rem 3 51 y47 (kI 8) fun y48=>bG .shr 5 (.const (kB 128)) (.tmp 52) (kB 128) y48 fun y49=>bT .or 5 47 53 y43 y49 fun y50=>(qL (ro1 y33)).bind fun y51=>(idx y51.2.2.2.1 y38).bind fun y52=>(jl y51.2.2.2.2 1).bind fun y53=>(Hp.rd hp y51.1 y51.2.1).bind fun y54=>(qh y54 (Nat.add y51.2.2.1 (Nat.add 0 y52)) [y50]).bind fun y55=>B86_8 x0 v1 v6 (Hp.put hp y51.1 y51.2.1 y55)) (B86_8 x0 v1 v6 hp):=eB (by kernel_rfl)
theorem qya:B86_8 x0 v1 v6 hp=jI 1 (ro x0) hp fun y59=>bC .add 3 59 y59 (kI 1) fun y60=>ZT 1 (ro x0) hp [y60] fun h1=>bC .sub 3 15 v6 (kI 1) fun y65=>B86_2 x0 v1 y65 h1:=eB (by kernel_rfl)
theorem E87:run cxX 87 [a0] hp=iZ (ro a0) (rQ nl hp) ((xx []).bind fun y1=>vb 0 (ro a0) hp fun y5=>(jo 1 1 (AV.us 1 []) (ro1 y5) hp).bind fun y6=>(xQ y6.2 y6.1).bind fun y7=>rQ y7.1 y7.2):=eE (by kernel_rfl)
theorem E147:run cxX 147 [a0] hp=(qg 1 (ro a0)).bind fun y0=>(qh [nl,kI 0,.sc (.bool false)] 0 y0).bind fun y1=>(qg 3 (.agg (List.map ro1 y1))).bind fun y2=>rQ (AV.ptr hp.1 0 0) (Hp.new hp (List.map ro1 y2)):=eE (by kernel_rfl)
def B149_2:=gb 149 2 [x0,v1,v5] hp
theorem E149:run cxX 149 [a0,a1] hp=aS a1 fun y0=>B149_2 a0 y0 (kI 0) hp:=eE (by kernel_rfl)
theorem qr4:B149_2 x0 v1 v5 hp=cS 176 [r2 x0] hp fun y2 h1=>iC .eql 3 7 y2 (kI 1) (bC .add 3 9 v5 (kI 1) fun y5=>iT .gtr 3 11 12 y5 v1 (cT 177 [r2 x0] h1 fun h2=>B149_2 x0 v1 y5 h2) (B149_2 x0 v1 y5 h1)) (cS 151 [r2 x0] h1 fun y11 h3=>iB y11 (rQ (kI 0) h3) (rQ v5 h3)):=eB (by kernel_rfl)
def B150_3:=gb 150 3 [x0,v5,v8,v9] hp
theorem E150:run cxX 150 [a0,a1] hp=aS a1 fun y0=>(vc Tryz.prog Go.Builtin.max (Array.mk [3,3]) 3 [y0,kI 0]).bind fun y1=>(vc Tryz.prog Go.Builtin.min (Array.mk [3,3]) 3 [y1,kI 64]).bind fun y2=>B150_3 a0 (kU 0) y2 (kI 0) hp:=eE (by kernel_rfl)
theorem qbg:B150_3 x0 v5 v8 v9 hp=iT .lss 3 9 8 v9 v8 (bC .shl 76 11 v5 (kU 1) fun y5=>cS 176 [r2 x0] hp fun y7 h1=>cV 3 76 y7 fun y8=>bT .or 76 12 15 y5 y8 fun y9=>bC .add 3 9 v9 (kI 1) fun y10=>B150_3 x0 y9 v8 y10 h1) (cS 151 [r2 x0] hp fun y12 h2=>iB y12 (rQ (kU 0) h2) (rQ v5 h2)):=eB (by kernel_rfl)
theorem E151:run cxX 151 [a0] hp=iZ (ro a0) (rQ (.sc (.bool true)) hp) (jI 2 (ro a0) hp fun y4=>rQ y4 hp):=eE (by kernel_rfl)
def B152_8:=gb 152 8 [x0,v3] hp
theorem E152:run cxX 152 [a0] hp=iZ (ro a0) (rQ (kI 1) hp) (jI 2 (ro a0) hp fun y4=>iB y4 (rQ (kI 3) hp) (vb 0 (ro a0) hp fun y9=>ln (ro1 y9) fun y10=>bG .mul 3 (.const (kI 8)) (.tmp 17) (kI 8) (kI y10) fun y11=>jI 1 (ro a0) hp fun y15=>bT .sub 3 18 22 y11 y15 fun y16=>iC .geq 3 23 y16 (kI 8) (rQ (kI 15) hp) (jI 1 (ro a0) hp fun y22=>B152_8 a0 y22 hp))):=eE (by kernel_rfl)
theorem qbf:B152_8 x0 v3 hp=vb 0 (ro x0) hp fun y26=>ln (ro1 y26) fun y27=>bG .mul 3 (.const (kI 8)) (.tmp 34) (kI 8) (kI y27) fun y28=>iT .lss 3 29 35 v3 y28 (vb 0 (ro x0) hp fun y34=>bC .quo 3 43 v3 (kI 8) fun y35=>ju (ro1 y34) y35 fun y37=>bC .rem 3 47 v3 (kI 8) fun y38=>bG .sub 3 (.const (kI 7)) (.tmp 48) (kI 7) y38 fun y39=>bT .shr 5 46 49 y37 y39 fun y40=>bC .and 5 50 y40 (kB 1) fun y41=>iC .eql 5 51 y41 (kB 1) (rQ (kI 15) hp) (bC .add 3 37 v3 (kI 1) fun y44=>B152_8 x0 y44 hp)) (rQ (kI 0) hp):=eB (by kernel_rfl)
def B176_2:=gb 176 2 [x0] hp
def B176_5:=gb 176 5 [x0] hp
def B176_4:=gb 176 4 [] hp
theorem E176:run cxX 176 [a0] hp=iZ (ro a0) (B176_2 a0 hp) (jI 2 (ro a0) hp fun y4=>iB y4 (B176_2 a0 hp) (jI 1 (ro a0) hp fun y9=>vb 0 (ro a0) hp fun y13=>ln (ro1 y13) fun y14=>bG .mul 3 (.const (kI 8)) (.tmp 21) (kI 8) (kI y14) fun y15=>iT .geq 3 16 22 y9 y15 (B176_2 a0 hp) (B176_5 a0 hp))):=eE (by kernel_rfl)
theorem qrr:B176_2 x0 hp=(Jp (ro x0)).bind fun y18=>cond (Bool.rec true false y18) (ZT 2 (ro x0) hp [.sc (.bool true)] fun h1=>B176_4 h1) (B176_4 hp):=eB (by kernel_rfl)
theorem qrp:B176_5 x0 hp=vb 0 (ro x0) hp fun y26=>jI 1 (ro x0) hp fun y30=>bC .quo 3 37 y30 (kI 8) fun y31=>ju (ro1 y26) y31 fun y33=>jI 1 (ro x0) hp fun y37=>bC .rem 3 44 y37 (kI 8) fun y38=>bG .sub 3 (.const (kI 7)) (.tmp 45) (kI 7) y38 fun y39=>bT .shr 5 40 46 y33 y39 fun y40=>bC .and 5 47 y40 (kB 1) fun y41=>jI 1 (ro x0) hp fun y45=>bC .add 3 52 y45 (kI 1) fun y46=>ZT 1 (ro x0) hp [y46] fun h1=>cV 5 3 y41 fun y51=>rQ y51 h1:=eB (by kernel_rfl)
theorem qrq:B176_4 hp=rQ (kI 0) hp:=eB (by kernel_rfl)
theorem E177:run cxX 177 [a0] hp=(Jp (ro a0)).bind fun y0=>cond (Bool.rec true false y0) (ZT 2 (ro a0) hp [.sc (.bool true)] fun h1=>rQ (.tup []) h1) (rQ (.tup []) hp):=eE (by kernel_rfl)
theorem E12:run cxX 12 [a0,a1] hp=aS a1 fun y0=>cV 2 76 y0 fun y1=>bC .shl 76 6 y1 (kU 1) fun y2=>bC .shr 2 8 y0 (kU 63) fun y3=>cV 2 76 y3 fun y4=>bT .xor 76 7 10 y2 y4 fun y5=>cT 25 [r2 a0,y5] hp fun h1=>rQ (.tup []) h1:=eE (by kernel_rfl)
theorem E13:run cxX 13 [a0] hp=iZ (ro a0) (rQ nl hp) ((xx []).bind fun y1=>vb 0 (ro a0) hp fun y5=>(zZ 1 1 (AV.us 1 []) (ro1 y5)).bind fun y6=>rQ y6 hp):=eE (by kernel_rfl)
def B25_0:=gb 25 0 [x0,v1] hp
theorem E25:run cxX 25 [a0,a1] hp=aS a1 fun y0=>B25_0 a0 y0 hp:=eE (by kernel_rfl)
theorem qyw:B25_0 x0 v1 hp=iC .geq 76 4 v1 (kU 128) (cV 76 5 v1 fun y3=>bC .or 5 10 y3 (kB 128) fun y4=>cT 36 [r2 x0,y4] hp fun h1=>bC .shr 76 6 v1 (kU 7) fun y7=>B25_0 x0 y7 h1) (cV 76 5 v1 fun y8=>cT 36 [r2 x0,y8] hp fun h2=>rQ (.tup []) h2):=eB (by kernel_rfl)
theorem E35:run cxX 35 [a0,a1] hp=(Jp (ro a0)).bind fun y0=>cond (Bool.rec true false y0) ((Qm (ro a0)).bind fun y1=>(qN (ro a0)).bind fun y2=>(Hp.rd hp y2.1 y2.2.1).bind fun y3=>(qj y3 y2.2.2).bind fun y4=>(zZ 1 1 y4 (ro a1)).bind fun y5=>(Qm (ro a0)).bind fun y6=>(qN (ro a0)).bind fun y7=>(qg 1 y5).bind fun y8=>(Hp.rd (Hp.put hp y2.1 y2.2.1 (List.set y3 y2.2.2 (ro1 y4))) y7.1 y7.2.1).bind fun y9=>(qh y9 y7.2.2 y8).bind fun y10=>rQ (.tup []) (Hp.put (Hp.put hp y2.1 y2.2.1 (List.set y3 y2.2.2 (ro1 y4))) y7.1 y7.2.1 y10)) (rQ (.tup []) hp):=eE (by kernel_rfl)
theorem E36:run cxX 36 [a0,a1] hp=aS a1 fun y0=>(Jp (ro a0)).bind fun y1=>cond (Bool.rec true false y1) ((Qm (ro a0)).bind fun y2=>(qN (ro a0)).bind fun y3=>(Hp.rd hp y3.1 y3.2.1).bind fun y4=>(qj y4 y3.2.2).bind fun y5=>ap 1 y5 y0 fun y7=>(Qm (ro a0)).bind fun y8=>(qN (ro a0)).bind fun y9=>(qg 1 y7).bind fun y10=>(Hp.rd (Hp.put hp y3.1 y3.2.1 (List.set y4 y3.2.2 (ro1 y5))) y9.1 y9.2.1).bind fun y11=>(qh y11 y9.2.2 y10).bind fun y12=>rQ (.tup []) (Hp.put (Hp.put hp y3.1 y3.2.1 (List.set y4 y3.2.2 (ro1 y5))) y9.1 y9.2.1 y12)) (rQ (.tup []) hp):=eE (by kernel_rfl)
theorem E42:run cxX 42 [a0] hp=(qg 1 (ro a0)).bind fun y0=>(qh [nl,kI 0,kI 0] 0 y0).bind fun y1=>(qg 3 (.agg (List.map ro1 y1))).bind fun y2=>rQ (AV.ptr hp.1 0 0) (Hp.new hp (List.map ro1 y2)):=eE (by kernel_rfl)
def B45_4:=gb 45 4 [x0,v1,v5,v6] hp
def B45_6:=gb 45 6 [x0,v1,v5,v6,v7] hp
def B45_7:=gb 45 7 [x0,v1,v5,v6,v7] hp
theorem E45:run cxX 45 [a0,a1] hp=aS a1 fun y0=>B45_4 a0 y0 (kU 0) (kI 0) hp:=eE (by kernel_rfl)
theorem JP:B45_4 x0 v1 v5 v6 hp=cS 48 [r2 x0] hp fun y2 h1=>iC .eql 3 12 v6 (kI 63) (iC .gtr 5 15 y2 (kB 1) (B45_6 x0 v1 v5 v6 y2 h1) (iC .gtr 3 19 v6 (kI 0) (iC .eql 5 22 y2 (kB 0) (B45_6 x0 v1 v5 v6 y2 h1) (B45_7 x0 v1 v5 v6 y2 h1)) (B45_7 x0 v1 v5 v6 y2 h1))) (iC .gtr 3 19 v6 (kI 0) (iC .eql 5 22 y2 (kB 0) (B45_6 x0 v1 v5 v6 y2 h1) (B45_7 x0 v1 v5 v6 y2 h1)) (B45_7 x0 v1 v5 v6 y2 h1)):=eB (by kernel_rfl)
theorem qyr:B45_6 x0 v1 v5 v6 v7 hp=cT 95 [r2 x0,kI 4] hp fun h1=>B45_7 x0 v1 v5 v6 v7 h1:=eB (by kernel_rfl)
theorem qig:B45_7 x0 v1 v5 v6 v7 hp=cS 93 [r2 x0] hp fun y18 h1=>iC .neq 57 29 y18 (kI 0) (rQ (kU 0) h1) (bC .and 5 32 v7 (kB 127) fun y21=>cV 5 76 y21 fun y22=>bT .shl 76 34 35 y22 v6 fun y23=>bT .or 76 31 36 v5 y23 fun y24=>iC .lss 5 38 v7 (kB 128) (iT .gtr 76 40 41 y24 v1 (cT 95 [r2 x0,kI 7] h1 fun h2=>rQ (kU 0) h2) (rQ y24 h1)) (bC .add 3 8 v6 (kI 7) fun y31=>B45_4 x0 v1 y24 y31 h1)):=eB (by kernel_rfl)
theorem E48:run cxX 48 [a0] hp=cS 103 [r2 a0] hp fun y1 h1=>iC .eql 3 4 y1 (kI 0) (cT 95 [r2 a0,kI 3] h1 fun h2=>rQ (kB 0) h2) (jI 1 (ro a0) h1 fun y9=>bC .add 3 11 y9 (kI 1) fun y10=>ZT 1 (ro a0) h1 [y10] fun h3=>vb 0 (ro a0) h3 fun y18=>jI 1 (ro a0) h3 fun y22=>bC .sub 3 22 y22 (kI 1) fun y23=>ju (ro1 y18) y23 fun y25=>rQ y25 h3):=eE (by kernel_rfl)
def B53_2:=gb 53 2 [] hp
def B53_3:=gb 53 3 [x0] hp
theorem E53:run cxX 53 [a0] hp=(Jp (ro a0)).bind fun y0=>cond (Bool.rec true false y0) (jI 2 (ro a0) hp fun y4=>iC .eql 57 9 y4 (kI 0) (jI 1 (ro a0) hp fun y10=>vb 0 (ro a0) hp fun y14=>ln (ro1 y14) fun y15=>iT .lss 3 16 21 y10 (kI y15) (B53_2 hp) (B53_3 a0 hp)) (B53_3 a0 hp)) (B53_3 a0 hp):=eE (by kernel_rfl)
theorem qyo:B53_2 hp=rQ (kI 15) hp:=eB (by kernel_rfl)
theorem qic:B53_3 x0 hp=cS 93 [r2 x0] hp fun y19 h1=>rQ y19 h1:=eB (by kernel_rfl)
theorem E93:run cxX 93 [a0] hp=iZ (ro a0) (rQ (kI 1) hp) (jI 2 (ro a0) hp fun y4=>rQ y4 hp):=eE (by kernel_rfl)
def B95_1:=gb 95 1 [x0,v1] hp
theorem E95:run cxX 95 [a0,a1] hp=aS a1 fun y0=>(Jp (ro a0)).bind fun y1=>cond (Bool.rec true false y1) (jI 2 (ro a0) hp fun y5=>iC .eql 57 10 y5 (kI 0) (B95_1 a0 y0 hp) (rQ (.tup []) hp)) (rQ (.tup []) hp):=eE (by kernel_rfl)
theorem qx6:B95_1 x0 v1 hp=ZT 2 (ro x0) hp [v1] fun h1=>rQ (.tup []) h1:=eB (by kernel_rfl)
def B102_2:=gb 102 2 [x0] hp
def B102_4:=gb 102 4 [x0,v1] hp
theorem E102:run cxX 102 [a0,a1] hp=aS a1 fun y0=>iC .lss 3 5 y0 (kI 0) (B102_2 a0 hp) (cS 103 [r2 a0] hp fun y4 h1=>iT .gtr 3 8 10 y0 y4 (B102_2 a0 h1) (B102_4 a0 y0 h1)):=eE (by kernel_rfl)
theorem qs7:B102_2 x0 hp=cT 95 [r2 x0,kI 3] hp fun h1=>rQ nl h1:=eB (by kernel_rfl)
theorem qb3:B102_4 x0 v1 hp=iC .eql 3 15 v1 (kI 0) (rQ nl hp) (jI 1 (ro x0) hp fun y14=>bT .add 3 20 21 y14 v1 fun y15=>ZT 1 (ro x0) hp [y15] fun h1=>vb 0 (ro x0) h1 fun y23=>jI 1 (ro x0) h1 fun y27=>bT .sub 3 32 33 y27 v1 fun y28=>jI 1 (ro x0) h1 fun y32=>jI 1 (ro x0) h1 fun y36=>(xC 1 (ro1 y23) (Option.some y28) (Option.some y32) (Option.some y36)).bind fun y37=>rQ y37 h1):=eB (by kernel_rfl)
def B103_2:=gb 103 2 [] hp
def B103_3:=gb 103 3 [x0] hp
theorem E103:run cxX 103 [a0] hp=iZ (ro a0) (B103_2 hp) (jI 2 (ro a0) hp fun y4=>iC .neq 57 9 y4 (kI 0) (B103_2 hp) (B103_3 a0 hp)):=eE (by kernel_rfl)
theorem qs6:B103_2 hp=rQ (kI 0) hp:=eB (by kernel_rfl)
theorem qs5:B103_3 x0 hp=vb 0 (ro x0) hp fun y10=>ln (ro1 y10) fun y11=>jI 1 (ro x0) hp fun y15=>bT .sub 3 16 20 (kI y11) y15 fun y16=>rQ y16 hp:=eB (by kernel_rfl)
theorem E107:run cxX 107 [a0] hp=cS 45 [r2 a0,kU 18446744073709551615] hp fun y1 h1=>bC .shr 76 6 y1 (kU 1) fun y2=>cV 76 2 y2 fun y3=>bC .and 76 9 y1 (kU 1) fun y4=>cV 76 2 y4 fun y5=>(unV Tryz.prog .neg y5).bind fun y6=>bT .xor 2 8 12 y3 y6 fun y7=>rQ y7 h1:=eE (by kernel_rfl)
theorem E146:run cxX 146 [a0] hp=aS a0 fun y0=>bC .shr 76 3 y0 (kU 1) fun y1=>bC .and 76 4 y1 (kU 6148914691236517205) fun y2=>bC .and 76 6 y0 (kU 6148914691236517205) fun y3=>bT .add 76 5 7 y2 y3 fun y4=>bC .shr 76 9 y4 (kU 2) fun y5=>bC .and 76 10 y5 (kU 3689348814741910323) fun y6=>bC .and 76 12 y4 (kU 3689348814741910323) fun y7=>bT .add 76 11 13 y6 y7 fun y8=>bC .shr 76 15 y8 (kU 4) fun y9=>bT .add 76 16 17 y9 y8 fun y10=>bC .and 76 18 y10 (kU 1085102592571150095) fun y11=>bC .shr 76 21 y11 (kU 8) fun y12=>bT .add 76 20 22 y11 y12 fun y13=>bC .shr 76 25 y13 (kU 16) fun y14=>bT .add 76 24 26 y13 y14 fun y15=>bC .shr 76 29 y15 (kU 32) fun y16=>bT .add 76 28 30 y15 y16 fun y17=>cV 76 3 y17 fun y18=>bC .and 3 33 y18 (kI 127) fun y19=>rQ y19 hp:=eE (by kernel_rfl)
theorem E168:run cxX 168 [a0] hp=aS a0 fun y0=>pS 180 [y0] fun y4=>bG .sub 3 (.const (kI 64)) (.tmp 4) (kI 64) y4 fun y5=>rQ y5 hp:=eE (by kernel_rfl)
def B180_4:=gb 180 4 [v0,v2] hp
def B180_7:=gb 180 7 [v0,v2] hp
def B180_10:=gb 180 10 [v0,v2] hp
theorem E180:run cxX 180 [a0] hp=aS a0 fun y0=>iC .geq 76 3 y0 (kU 4294967296) (bC .shr 76 5 y0 (kU 32) fun y3=>B180_4 y3 (kI 32) hp) (B180_4 y0 (kI 0) hp):=eE (by kernel_rfl)
theorem qav:B180_4 v0 v2 hp=iC .geq 76 7 v0 (kU 65536) (bC .shr 76 9 v0 (kU 16) fun y6=>bC .add 3 11 v2 (kI 16) fun y7=>B180_7 y6 y7 hp) (B180_7 v0 v2 hp):=eB (by kernel_rfl)
theorem qau:B180_7 v0 v2 hp=iC .geq 76 13 v0 (kU 256) (bC .shr 76 15 v0 (kU 8) fun y10=>bC .add 3 17 v2 (kI 8) fun y11=>B180_10 y10 y11 hp) (B180_10 v0 v2 hp):=eB (by kernel_rfl)
theorem qls:B180_10 v0 v2 hp=cV 76 5 v0 fun y12=>(ixV Tryz.prog 9 (Value.string (ByteArray.mk (Array.mk [0,1,2,2,3,3,3,3,4,4,4,4,4,4,4,4,5,5,5,5,5,5,5,5,5,5,5,5,5,5,5,5,6,6,6,6,6,6,6,6,6,6,6,6,6,6,6,6,6,6,6,6,6,6,6,6,6,6,6,6,6,6,6,6,7,7,7,7,7,7,7,7,7,7,7,7,7,7,7,7,7,7,7,7,7,7,7,7,7,7,7,7,7,7,7,7,7,7,7,7,7,7,7,7,7,7,7,7,7,7,7,7,7,7,7,7,7,7,7,7,7,7,7,7,7,7,7,7,8,8,8,8,8,8,8,8,8,8,8,8,8,8,8,8,8,8,8,8,8,8,8,8,8,8,8,8,8,8,8,8,8,8,8,8,8,8,8,8,8,8,8,8,8,8,8,8,8,8,8,8,8,8,8,8,8,8,8,8,8,8,8,8,8,8,8,8,8,8,8,8,8,8,8,8,8,8,8,8,8,8,8,8,8,8,8,8,8,8,8,8,8,8,8,8,8,8,8,8,8,8,8,8,8,8,8,8,8,8,8,8,8,8,8,8,8,8,8,8,8,8,8,8,8,8,8,8]))) y12).bind fun y13=>cV 5 3 y13 fun y14=>bT .add 3 19 23 v2 y14 fun y15=>rQ y15 hp:=eB (by kernel_rfl)
def B63_2:=gb 63 2 [] hp
def B63_3:=gx 63 3 [.lp 1 0 0] [(1,0,b1)] hp
theorem E63:run cxX 63 [a0] hp=(qg 2 a0).bind fun y0=>(qe (List.map ro1 y0) 0).bind fun y1=>iC .lss 3 5 y1 (kI 1) (B63_2 hp) ((qe (List.map ro1 y0) 0).bind fun y4=>iC .gtr 3 9 y4 (kI 1024) (B63_2 hp) (B63_3 (List.map ro1 y0) hp)):=eE (by kernel_rfl)
theorem qh9:B63_2 hp=rQ (kI 2) hp:=eB (by kernel_rfl)
theorem qh8:B63_3 b1 hp=(qj b1 1).bind fun y7=>ln (ro1 y7) fun y8=>(qe b1 0).bind fun y9=>iT .gtr 3 15 17 (kI y8) y9 (rQ (kI 7) hp) ((qj b1 1).bind fun y12=>pS 82 [ro1 y12] fun y16=>rQ y16 hp):=eX (by kernel_rfl)
theorem E69:run cxX 69 [a0,a1] hp=aS a1 fun y0=>(qg 2 a0).bind fun y1=>(ql (List.map ro1 y1) 0 2).bind fun y2=>(qe (List.map ro1 y1) 0).bind fun y3=>(xx [y0]).bind fun y4=>pA 124 [.agg (List.map ro1 y2),.agg [y3,ro1 (AV.us 1 [y0])]] fun z1=>(qg 2 z1).bind fun y9=>(qh [kI 0,nl] 0 y9).bind fun y10=>(ql y10 0 2).bind fun y11=>rQ (.agg y11) hp:=eE (by kernel_rfl)
def B117_2:=gb 117 2 [] hp
def B117_3:=gx 117 3 [.lp 2 0 0,.lp 3 0 0] [(2,0,b2),(3,0,b3)] hp
def B117_4:=gx 117 4 [.lp 2 0 0,.lp 3 0 0,v22,v23] [(2,0,b2),(3,0,b3)] hp
theorem E117:run cxX 117 [a0,a1] hp=(qg 2 a0).bind fun y0=>(qg 2 a1).bind fun y1=>(qe (List.map ro1 y0) 0).bind fun y2=>(qe (List.map ro1 y1) 0).bind fun y3=>iT .neq 3 7 9 y2 y3 (B117_2 hp) ((qj (List.map ro1 y0) 1).bind fun y6=>ln (ro1 y6) fun y7=>(qj (List.map ro1 y1) 1).bind fun y8=>ln (ro1 y8) fun y9=>iT .neq 3 14 17 (kI y7) (kI y9) (B117_2 hp) (B117_3 (List.map ro1 y0) (List.map ro1 y1) hp)):=eE (by kernel_rfl)
theorem qbx:B117_2 hp=rQ (.sc (.bool false)) hp:=eB (by kernel_rfl)
theorem qsu:B117_3 b2 b3 hp=(qj b2 1).bind fun y12=>ln (ro1 y12) fun y13=>B117_4 (kI y13) (kI 0) b2 b3 hp:=eX (by kernel_rfl)
theorem qbw:B117_4 v22 v23 b2 b3 hp=iT .lss 3 23 22 v23 v22 ((qj b2 1).bind fun y16=>ju (ro1 y16) v23 fun y18=>(qj b3 1).bind fun y19=>ju (ro1 y19) v23 fun y21=>iT .neq 76 30 35 y18 y21 (rQ (.sc (.bool false)) hp) (bC .add 3 23 v23 (kI 1) fun y24=>B117_4 v22 y24 b2 b3 hp)) (rQ (.sc (.bool true)) hp):=eX (by kernel_rfl)
def B124_3:=gx 124 3 [.lp 2 0 0,.lp 4 0 0,.lp 5 0 0,x6,x7] [(2,0,b2),(4,0,b4),(5,0,b5)] hp
def B124_5:=gx 124 5 [.lp 2 0 0,.lp 4 0 0,.lp 5 0 0,x6,x7] [(2,0,b2),(4,0,b4),(5,0,b5)] hp
def B124_9:=gx 124 9 [.lp 4 0 0,.lp 5 0 0] [(4,0,b4),(5,0,b5)] hp
def B124_6:=gx 124 6 [.lp 2 0 0,.lp 4 0 0,.lp 5 0 0,x6,x7] [(2,0,b2),(4,0,b4),(5,0,b5)] hp
def B124_7:=gx 124 7 [.lp 2 0 0,.lp 4 0 0,.lp 5 0 0,x6,x7] [(2,0,b2),(4,0,b4),(5,0,b5)] hp
def B124_8:=gx 124 8 [.lp 2 0 0,.lp 4 0 0,.lp 5 0 0,x6,x7] [(2,0,b2),(4,0,b4),(5,0,b5)] hp
def B124_4:=gx 124 4 [.lp 2 0 0,.lp 4 0 0,.lp 5 0 0,x6,x7] [(2,0,b2),(4,0,b4),(5,0,b5)] hp
theorem E124:run cxX 124 [a0,a1] hp=(qg 2 a0).bind fun y0=>(qg 2 a1).bind fun y1=>(qe (List.map ro1 y0) 0).bind fun y2=>(qj (List.map ro1 y0) 1).bind fun y3=>(qj (List.map ro1 y1) 1).bind fun y4=>B124_3 (ro1 y3) (ro1 y4) (List.map ro1 y0) [kI 0,nl] [y2,nl] hp:=eE (by kernel_rfl)
theorem qsp:B124_3 x6 x7 b2 b4 b5 hp=(qj b5 1).bind fun y5=>ln (ro1 y5) fun y6=>(qe b2 0).bind fun y7=>iT .lss 3 17 19 (kI y6) y7 (ln (ro x6) fun y10=>ln (ro x7) fun y11=>bT .add 3 23 25 (kI y10) (kI y11) fun y12=>iC .gtr 3 26 y12 (kI 0) (B124_5 x6 x7 b2 b4 b5 hp) (B124_9 b4 b5 hp)) (B124_9 b4 b5 hp):=eX (by kernel_rfl)
theorem vT:B124_5 x6 x7 b2 b4 b5 hp=ln (ro x7) fun y15=>iC .eql 3 43 (kI y15) (kI 0) (B124_6 x6 x7 b2 b4 b5 hp) (ln (ro x6) fun y18=>iC .gtr 3 47 (kI y18) (kI 0) (ju (ro x6) (kI 0) fun y22=>ju (ro x7) (kI 0) fun y24=>iT .lss 76 52 55 y22 y24 (B124_6 x6 x7 b2 b4 b5 hp) (B124_7 x6 x7 b2 b4 b5 hp)) (B124_7 x6 x7 b2 b4 b5 hp)):=eX (by kernel_rfl)
theorem qsl:B124_9 b4 b5 hp=(ql b5 0 2).bind fun y27=>(qh b5 0 (List.map ro1 y27)).bind fun y28=>(qg 2 (.agg y27)).bind fun y29=>(qh b4 0 y29).bind fun y30=>(ql y30 0 2).bind fun y31=>rQ (.agg y31) hp:=eX (by kernel_rfl)
theorem qsn:B124_6 x6 x7 b2 b4 b5 hp=(qj b5 1).bind fun y32=>ju (ro x6) (kI 0) fun y34=>ap 8 y32 y34 fun y36=>(xC 1 (ro x6) (Option.some (kI 1)) none none).bind fun y37=>(qg 1 y36).bind fun y38=>(qh (List.set b5 1 (ro1 y32)) 1 y38).bind fun y39=>B124_3 y37 x7 b2 b4 y39 hp:=eX (by kernel_rfl)
theorem YD:B124_7 x6 x7 b2 b4 b5 hp=ln (ro x6) fun y40=>iC .eql 3 71 (kI y40) (kI 0) (B124_8 x6 x7 b2 b4 b5 hp) (ju (ro x7) (kI 0) fun y44=>ju (ro x6) (kI 0) fun y46=>iT .lss 76 76 79 y44 y46 (B124_8 x6 x7 b2 b4 b5 hp) (B124_4 x6 x7 b2 b4 b5 hp)):=eX (by kernel_rfl)
theorem qsm:B124_8 x6 x7 b2 b4 b5 hp=(qj b5 1).bind fun y49=>ju (ro x7) (kI 0) fun y51=>ap 8 y49 y51 fun y53=>(xC 1 (ro x7) (Option.some (kI 1)) none none).bind fun y54=>(qg 1 y53).bind fun y55=>(qh (List.set b5 1 (ro1 y49)) 1 y55).bind fun y56=>B124_3 x6 y54 b2 b4 y56 hp:=eX (by kernel_rfl)
theorem qso:B124_4 x6 x7 b2 b4 b5 hp=(qj b5 1).bind fun y57=>ju (ro x6) (kI 0) fun y59=>ap 8 y57 y59 fun y61=>(xC 1 (ro x6) (Option.some (kI 1)) none none).bind fun y62=>(xC 1 (ro x7) (Option.some (kI 1)) none none).bind fun y63=>(qg 1 y61).bind fun y64=>(qh (List.set b5 1 (ro1 y57)) 1 y64).bind fun y65=>B124_3 y62 y63 b2 b4 y65 hp:=eX (by kernel_rfl)
def B27_3:=gx 27 3 [v2,.lp 6 0 0,.lp 7 0 0,x15,v16,v17] [(6,0,b6),(7,0,b7)] hp
def B27_7:=gx 27 7 [v2,.lp 6 0 0,.lp 7 0 0,v9,x15,v16,v17] [(6,0,b6),(7,0,b7)] hp
theorem E27:run cxX 27 [a0,a1,a2] hp=aS a0 fun y0=>aS a2 fun y1=>bC .rem 5 10 y0 (kB 20) fun y2=>cV 5 3 y2 fun y3=>bG .add 3 (.const (kI 1)) (.tmp 12) (kI 1) y3 fun y4=>ln (ro a1) fun y5=>B27_3 y1 (ro a1) (kI y5) (kI 0) [kI 0,nl] [y4,nl] hp:=eE (by kernel_rfl)
theorem qim:B27_3 v2 x15 v16 v17 b6 b7 hp=iT .lss 3 17 16 v17 v16 (ju x15 v17 fun y9=>iB v2 (bC .rem 76 22 y9 (kU 30) fun y11=>B27_7 v2 y11 x15 v16 v17 b6 b7 hp) (B27_7 v2 y9 x15 v16 v17 b6 b7 hp)) ((ql b7 0 2).bind fun y12=>(qh b7 0 (List.map ro1 y12)).bind fun y13=>(qg 2 (.agg y12)).bind fun y14=>(qh b6 0 y14).bind fun y15=>(ql y15 0 2).bind fun y16=>rQ (.agg y16) hp):=eX (by kernel_rfl)
theorem qyu:B27_7 v2 v9 x15 v16 v17 b6 b7 hp=(ql b7 0 2).bind fun y17=>pA 69 [.agg (List.map ro1 y17),v9] fun z1=>(qg 2 z1).bind fun y22=>(qh b7 0 y22).bind fun y23=>bC .add 3 17 v17 (kI 1) fun y24=>B27_3 v2 x15 v16 y24 b6 y23 hp:=eX (by kernel_rfl)
def B38_11:=gx 38 11 [x0,.lp 2 0 0,.lp 4 0 0,x5,x6,v7,x38,v39,v40] [(2,0,b2),(4,0,b4)] hp
def B38_14:=gx 38 14 [.lp 2 0 0] [(2,0,b2)] hp
def B38_15:=gx 38 15 [x0,.lp 2 0 0,.lp 4 0 0,x5,x6,v7,v9,x38,v39,v40] [(2,0,b2),(4,0,b4)] hp
theorem E38:run cxX 38 [a0] hp=ln (ro a0) fun y0=>iC .gtr 3 11 (kI y0) (kI 4096) (rQ (.tup [.agg [kI 0,kW 0,kI 0,nl,nl],kI 7]) hp) (ln (ro a0) fun y3=>ln (ro a0) fun y4=>iC .eql 3 18 (kI y4) (kI 0) (rQ (.tup [.agg [kI y3,kW 0,kI 0,nl,nl],kI 0]) hp) (ln (ro a0) fun y7=>bC .sub 3 23 (kI y7) (kI 1) fun y8=>ju (ro a0) y8 fun y10=>ln (ro a0) fun y11=>(qe [kI y3,y10,kI 0,nl,nl] 1).bind fun y12=>pS 91 [kI y11,y12] fun y16=>ln (ro a0) fun y17=>B38_11 a0 (AV.ptr hp.1 0 0) (AV.ptr (Hp.new hp [nl,kI 0]).1 0 0) (kW 0) (ro a0) (kI y17) (kI 0) [kI 0,kW 0,kI 0,nl,nl] [kI y3,y10,y16,nl,nl] (Hp.new (Hp.new hp [nl,kI 0]) [nl,kI 0]))):=eE (by kernel_rfl)
theorem qar:B38_11 x0 x5 x6 v7 x38 v39 v40 b2 b4 hp=iT .lss 3 40 39 v40 v39 (ju x38 v40 fun y21=>iC .gtr 3 45 v40 (kI 0) (bC .sub 3 50 v40 (kI 1) fun y24=>ju (ro x0) y24 fun y26=>iT .lss 30 48 53 y21 y26 (B38_14 b2 hp) (B38_15 x0 x5 x6 v7 y21 x38 v39 v40 b2 b4 hp)) (B38_15 x0 x5 x6 v7 y21 x38 v39 v40 b2 b4 hp)) (cA 87 [r2 x5] hp fun z1 h2=>cA 87 [r2 x6] h2 fun z3 h4=>(qg 1 z1).bind fun y33=>(qh b4 3 y33).bind fun y34=>(qg 1 z3).bind fun y35=>(qh y34 4 y35).bind fun y36=>(ql y36 0 5).bind fun y37=>(qh y36 0 (List.map ro1 y37)).bind fun y38=>(qg 5 (.agg y37)).bind fun y39=>(qh b2 0 y39).bind fun y40=>(ql y40 0 5).bind fun y41=>rQ (.tup [.agg y41,kI 0]) h4):=eX (by kernel_rfl)
theorem qrm:B38_15 x0 x5 x6 v7 v9 x38 v39 v40 b2 b4 hp=cV 30 76 v9 fun y44=>(qe b4 2).bind fun y45=>cT 86 [r2 x5,y44,y45] hp fun h1=>(qe b4 2).bind fun y48=>bT .shr 30 64 66 v9 y48 fun y49=>bT .sub 30 67 68 y49 v7 fun y50=>cV 30 3 y50 fun y51=>cT 85 [r2 x6,y51] h1 fun h2=>(qe b4 2).bind fun y54=>bT .shr 30 72 74 v9 y54 fun y55=>bC .add 3 40 v40 (kI 1) fun y56=>B38_11 x0 x5 x6 y55 x38 v39 y56 b2 b4 h2:=eX (by kernel_rfl)
theorem E39:run cxX 39 [a0,a1] hp=(qg 5 a0).bind fun y0=>(qe (List.map ro1 y0) 0).bind fun y1=>cV 3 76 y1 fun y2=>cT 25 [r2 a1,y2] hp fun h1=>(qe (List.map ro1 y0) 1).bind fun y5=>cV 30 76 y5 fun y6=>cT 25 [r2 a1,y6] h1 fun h2=>(qj (List.map ro1 y0) 3).bind fun y9=>cT 35 [r2 a1,ro (ro1 y9)] h2 fun h3=>(qj (List.map ro1 y0) 4).bind fun y12=>ln (ro1 y12) fun y13=>cV 3 76 (kI y13) fun y14=>cT 25 [r2 a1,y14] h3 fun h4=>(qj (List.map ro1 y0) 4).bind fun y17=>cT 35 [r2 a1,ro (ro1 y17)] h4 fun h5=>rQ (.tup []) h5:=eE (by kernel_rfl)
def B49_10:=gx 49 10 [x0,.lp 2 0 0] [(2,0,b2)] hp
def B49_12:=gx 49 12 [.lp 2 0 0,.lp 3 0 0] [(2,0,b2),(3,0,b3)] hp
theorem E49:run cxX 49 [a0] hp=cS 45 [r2 a0,kU 4096] hp fun y1 h1=>cV 76 3 y1 fun y2=>cS 45 [r2 a0,kU 4294967295] h1 fun y4 h2=>cV 76 30 y4 fun y5=>(qe [y2,y5,kI 0,nl,nl] 0).bind fun y6=>(qe [y2,y5,kI 0,nl,nl] 1).bind fun y7=>pS 91 [y6,y7] fun y11=>(qe [y2,y5,y11,nl,nl] 0).bind fun y12=>(qe [y2,y5,y11,nl,nl] 2).bind fun y13=>bT .mul 3 22 24 y12 y13 fun y14=>bC .add 3 25 y14 (kI 7) fun y15=>bC .quo 3 26 y15 (kI 8) fun y16=>cA 102 [r2 a0,y16] h2 fun z3 h4=>(qg 1 z3).bind fun y19=>(qh [y2,y5,y11,nl,nl] 3 y19).bind fun y20=>cS 45 [r2 a0,kU 1048576] h4 fun y22 h5=>cV 76 3 y22 fun y23=>cA 102 [r2 a0,y23] h5 fun z6 h7=>(qg 1 z6).bind fun y26=>(qh y20 4 y26).bind fun y27=>cS 93 [r2 a0] h7 fun y29 h8=>iC .neq 57 37 y29 (kI 0) (rQ (.agg [kI 0,kW 0,kI 0,nl,nl]) h8) ((ql y27 0 5).bind fun y32=>pA 50 [.agg (List.map ro1 y32)] fun z9=>pT 2 38 [ro z9] fun z10=>nS z10 1 fun y41=>(qg 5 (ro (yG z10 0))).bind fun y42=>(qh [kI 0,kW 0,kI 0,nl,nl] 0 y42).bind fun y43=>ln (ro z9) fun y44=>(qe y27 0).bind fun y45=>iT .neq 3 48 50 (kI y44) y45 (B49_10 a0 [kI 0,kW 0,kI 0,nl,nl] h8) (iC .neq 57 53 y41 (kI 0) (B49_10 a0 [kI 0,kW 0,kI 0,nl,nl] h8) ((ql y27 0 5).bind fun y50=>(ql y43 0 5).bind fun y51=>pS 104 [.agg (List.map ro1 y50),.agg (List.map ro1 y51)] fun y55=>iN y55 (B49_10 a0 [kI 0,kW 0,kI 0,nl,nl] h8) (B49_12 [kI 0,kW 0,kI 0,nl,nl] y27 h8)))):=eE (by kernel_rfl)
theorem qri:B49_12 b2 b3 hp=(ql b3 0 5).bind fun y62=>(qh b3 0 (List.map ro1 y62)).bind fun y63=>(qg 5 (.agg y62)).bind fun y64=>(qh b2 0 y64).bind fun y65=>(ql y65 0 5).bind fun y66=>rQ (.agg y66) hp:=eX (by kernel_rfl)
def B50_4:=gb 50 4 [x3,x4,v5,v6] hp
theorem E50:run cxX 50 [a0] hp=(qg 5 a0).bind fun y0=>(ql (List.map ro1 y0) 0 5).bind fun y1=>cA 105 [ro (.agg (List.map ro1 y1))] hp fun z1 h2=>cN 2 106 [r2 z1] h2 fun z3 h4=>nS z3 0 fun y6=>nS z3 1 fun y7=>B50_4 nl z1 y6 y7 h4:=eE (by kernel_rfl)
theorem qie:B50_4 x3 x4 v5 v6 hp=iB v6 (ap 4 x3 v5 fun y10=>cN 2 106 [r2 x4] hp fun z1 h2=>nS z1 0 fun y13=>nS z1 1 fun y14=>B50_4 y10 x4 y13 y14 h2) (rQ x3 hp):=eB (by kernel_rfl)
def B91_2:=gb 91 2 [v0,v1,v5] hp
def B91_3:=gb 91 3 [v0,v1,v5] hp
def B91_4:=gb 91 4 [v5] hp
theorem E91:run cxX 91 [a0,a1] hp=aS a0 fun y0=>aS a1 fun y1=>B91_2 y0 y1 (kI 0) hp:=eE (by kernel_rfl)
theorem qx9:B91_2 v0 v1 v5 hp=iC .gtr 3 6 v0 (kI 0) (cV 30 76 v1 fun y4=>bC .add 3 11 v5 (kI 1) fun y5=>bT .shr 76 10 12 y4 y5 fun y6=>cV 3 76 v0 fun y7=>iT .geq 76 13 15 y6 y7 (B91_3 v0 v1 v5 hp) (B91_4 v5 hp)) (B91_4 v5 hp):=eB (by kernel_rfl)
theorem qx8:B91_3 v0 v1 v5 hp=bC .add 3 18 v5 (kI 1) fun y10=>B91_2 v0 v1 y10 hp:=eB (by kernel_rfl)
theorem qx7:B91_4 v5 hp=rQ v5 hp:=eB (by kernel_rfl)
theorem E104:run cxX 104 [a0,a1] hp=(qg 5 a0).bind fun y0=>(qg 5 a1).bind fun y1=>(qe (List.map ro1 y0) 0).bind fun y2=>(qe (List.map ro1 y1) 0).bind fun y3=>iT .eql 3 6 8 y2 y3 ((qe (List.map ro1 y0) 1).bind fun y6=>(qe (List.map ro1 y1) 1).bind fun y7=>iT .eql 30 12 14 y6 y7 ((qj (List.map ro1 y0) 3).bind fun y10=>(yF 1 (ro1 y10)).bind fun y11=>(zn y11).bind fun y12=>(qj (List.map ro1 y1) 3).bind fun y13=>(yF 1 (ro1 y13)).bind fun y14=>(zn y14).bind fun y15=>iT .eql 9 20 23 (Value.string (ByteArray.mk (Array.mk y12))) (Value.string (ByteArray.mk (Array.mk y15))) ((qj (List.map ro1 y0) 4).bind fun y18=>(yF 1 (ro1 y18)).bind fun y19=>(zn y19).bind fun y20=>(qj (List.map ro1 y1) 4).bind fun y21=>(yF 1 (ro1 y21)).bind fun y22=>(zn y22).bind fun y23=>bT .eql 9 29 32 (Value.string (ByteArray.mk (Array.mk y20))) (Value.string (ByteArray.mk (Array.mk y23))) fun y24=>rQ y24 hp) (rQ (.sc (.bool false)) hp)) (rQ (.sc (.bool false)) hp)) (rQ (.sc (.bool false)) hp):=eE (by kernel_rfl)
theorem E105:run cxX 105 [a0] hp=(qg 5 a0).bind fun y0=>(ql (List.map ro1 y0) 0 5).bind fun y1=>(qj (List.map ro1 y0) 3).bind fun y2=>cA 147 [ro (ro1 y2)] hp fun z1 h2=>(qj (List.map ro1 y0) 4).bind fun y5=>cA 147 [ro (ro1 y5)] h2 fun z3 h4=>(qg 5 (.agg (List.map ro1 y1))).bind fun y8=>(qh [kI 0,kW 0,kI 0,nl,nl,Value.pointer none,Value.pointer none,kI 0,kW 0] 0 y8).bind fun y9=>(qg 1 z1).bind fun y10=>(qh y9 5 y10).bind fun y11=>(qg 1 z3).bind fun y12=>(qh y11 6 y12).bind fun y13=>(qg 9 (.agg (List.map ro1 y13))).bind fun y14=>rQ (AV.ptr h4.1 0 0) (Hp.new h4 (List.map ro1 y14)):=eE (by kernel_rfl)
def B106_2:=gb 106 2 [] hp
def B106_3:=gb 106 3 [x0] hp
def B106_6:=gb 106 6 [x0] hp
def B106_8:=gb 106 8 [x0,v4] hp
theorem E106:run cxX 106 [a0] hp=iZ (ro a0) (B106_2 hp) (jI 7 (ro a0) hp fun y4=>jI 0 (ro a0) hp fun y8=>iT .geq 3 11 16 y4 y8 (B106_2 hp) (B106_3 a0 hp)):=eE (by kernel_rfl)
theorem qs4:B106_2 hp=rQ (.tup [kW 0,.sc (.bool false)]) hp:=eB (by kernel_rfl)
theorem qs3:B106_3 x0 hp=(Qm (ro x0)).bind fun y11=>(qN (ro x0)).bind fun y12=>(Hp.rd hp y12.1 y12.2.1).bind fun y13=>(qe y13 (Nat.succ (Nat.succ (Nat.succ (Nat.succ (Nat.succ (Nat.succ (Nat.succ (Nat.succ y12.2.2))))))))).bind fun y14=>vb 6 (ro x0) hp fun y18=>jI 1 (ro x0) hp fun y22=>jI 2 (ro x0) hp fun y26=>bT .shr 30 31 36 y22 y26 fun y27=>cV 30 3 y27 fun y28=>bC .add 3 38 y28 (kI 1) fun y29=>cS 149 [ro (ro1 y18),y29] hp fun y31 h1=>cV 3 30 y31 fun y32=>bT .add 30 22 41 y14 y32 fun y33=>ZT 8 (ro x0) h1 [y33] fun h2=>(yK (Prod.mk (AV.ptr y12.1 y12.2.1 (Nat.succ (Nat.succ (Nat.succ (Nat.succ (Nat.succ (Nat.succ (Nat.succ (Nat.succ y12.2.2))))))))) 1) hp.2 h1.2).bind fun y38=>(Qm (ro x0)).bind fun y39=>(qN (ro x0)).bind fun y40=>(Hp.rd h2 y40.1 y40.2.1).bind fun y41=>(qe y41 (Nat.succ (Nat.succ (Nat.succ (Nat.succ (Nat.succ (Nat.succ (Nat.succ (Nat.succ y40.2.2))))))))).bind fun y42=>(Qm (ro x0)).bind fun y43=>(qN (ro x0)).bind fun y44=>(Hp.rd h2 y44.1 y44.2.1).bind fun y45=>(qe y45 (Nat.succ (Nat.succ y44.2.2))).bind fun y46=>bT .shl 30 48 53 y42 y46 fun y47=>vb 5 (ro x0) h2 fun y51=>jI 2 (ro x0) h2 fun y55=>cS 150 [ro (ro1 y51),y55] h2 fun y57 h3=>cV 76 30 y57 fun y58=>bT .or 30 54 65 y47 y58 fun y59=>(yK (Prod.mk (AV.ptr y44.1 y44.2.1 (Nat.succ (Nat.succ y44.2.2))) 1) h2.2 h3.2).bind fun y60=>(yK (Prod.mk (AV.ptr y40.1 y40.2.1 (Nat.succ (Nat.succ (Nat.succ (Nat.succ (Nat.succ (Nat.succ (Nat.succ (Nat.succ y40.2.2))))))))) 1) h2.2 h3.2).bind fun y61=>vb 6 (ro x0) h3 fun y65=>cS 151 [ro (ro1 y65)] h3 fun y67 h4=>iB y67 (B106_6 x0 h4) (vb 5 (ro x0) h4 fun y72=>cS 151 [ro (ro1 y72)] h4 fun y74 h5=>iB y74 (B106_6 x0 h5) (B106_8 x0 y59 h5)):=eB (by kernel_rfl)
theorem qs2:B106_8 x0 v4 hp=jI 7 (ro x0) hp fun y87=>bC .add 3 90 y87 (kI 1) fun y88=>ZT 7 (ro x0) hp [y88] fun h1=>rQ (.tup [v4,.sc (.bool true)]) h1:=eB (by kernel_rfl)
def B112_5:=gx 112 5 [x1,.lp 5 0 0,x6,v7,v8] [(5,0,b5)] hp
def B112_11:=gx 112 11 [x1,.lp 5 0 0,x6,v7,v8,v9] [(5,0,b5)] hp
theorem E112:run cxX 112 [a0,a1] hp=aS a0 fun y0=>cA 162 [y0] hp fun z1 h2=>(qg 1 z1).bind fun y3=>(qh [nl] 0 y3).bind fun y4=>(yu 1 1 (.ofNat 4) (.ofNat 4)).bind fun y5=>B112_5 a1 (AV.ms h2.1 0 0 (tN (.ofNat 4)) 1) (kU 4294967295) (kI 0) y4 (Hp.new h2 (yU (.ofNat 4) [kB 0])):=eE (by kernel_rfl)
theorem qbz:B112_5 x1 x6 v7 v8 b5 hp=ln (ro x1) fun y6=>iT .lss 3 14 16 v8 (kI y6) (ju (ro x1) v8 fun y10=>cV 5 3 y10 fun y11=>(ql b5 0 1).bind fun y12=>cS 163 [ro (.agg (List.map ro1 y12))] hp fun y14 h1=>cV 3 76 y14 fun y15=>bT .quo 76 25 28 v7 y15 fun y16=>(ql b5 0 1).bind fun y17=>cS 165 [ro (.agg (List.map ro1 y17)),y11] h1 fun y19 h2=>cV 3 76 y19 fun y20=>bT .mul 76 31 35 y16 y20 fun y21=>cA 164 [r2 x6,y21] h2 fun z3 h4=>(qj b5 0).bind fun y24=>(qL (ro1 y24)).bind fun y25=>(idx y25.2.2.2.1 y11).bind fun y26=>(jl y25.2.2.2.2 1).bind fun y27=>(Hp.rd h4 y25.1 y25.2.1).bind fun y28=>(qe y28 (Nat.add y25.2.2.1 (Nat.add 0 y26))).bind fun y29=>cV 3 76 y29 fun y30=>bT .mul 76 38 44 y16 y30 fun y31=>B112_11 x1 z3 y31 v8 y11 b5 h4) ((xQ hp (ro x6)).bind fun y32=>rQ y32.1 y32.2):=eX (by kernel_rfl)
theorem Vn:B112_11 x1 x6 v7 v8 v9 b5 hp=iC .lss 76 46 v7 (kU 16777216) (bC .mul 76 48 v7 (kU 256) fun y35=>(xx [kB 0]).bind fun y36=>(jo 1 1 (ro x6) (AV.us 1 [kB 0]) hp).bind fun y37=>B112_11 x1 y37.1 y35 v8 v9 b5 y37.2) ((ql b5 0 1).bind fun y38=>cA 166 [ro (.agg (List.map ro1 y38)),v9] hp fun z1 h2=>(qg 1 z1).bind fun y41=>(qh b5 0 y41).bind fun y42=>bC .add 3 18 v8 (kI 1) fun y43=>B112_5 x1 x6 v7 y43 y42 h2):=eX (by kernel_rfl)
def B162_3:=gx 162 3 [v0,.lp 2 0 0,.lp 3 0 0,v4] [(2,0,b2),(3,0,b3)] hp
theorem E162:run cxX 162 [a0] hp=aS a0 fun y0=>B162_3 y0 (kI 0) [nl] [nl] hp:=eE (by kernel_rfl)
theorem Yz:B162_3 v0 v4 b2 b3 hp=iT .lss 3 5 6 v4 v0 ((qj b3 0).bind fun y3=>(xx [kI 1]).bind fun y4=>(jo 8 1 (ro1 y3) (AV.us 1 [kI 1]) hp).bind fun y5=>(qg 1 y5.1).bind fun y6=>(qh b3 0 y6).bind fun y7=>bC .add 3 8 v4 (kI 1) fun y8=>B162_3 v0 y8 b2 y7 y5.2) ((ql b3 0 1).bind fun y9=>(qh b3 0 (List.map ro1 y9)).bind fun y10=>(qg 1 (.agg y9)).bind fun y11=>(qh b2 0 y11).bind fun y12=>(ql y12 0 1).bind fun y13=>rQ (.agg y13) hp):=eX (by kernel_rfl)
def B163_3:=gx 163 3 [.lp 1 0 0,v3,v4] [(1,0,b1)] hp
theorem E163:run cxX 163 [a0] hp=(qg 1 a0).bind fun y0=>B163_3 (kI 0) (kI 0) (List.map ro1 y0) hp:=eE (by kernel_rfl)
theorem qa5:B163_3 v3 v4 b1 hp=(qj b1 0).bind fun y1=>ln (ro1 y1) fun y2=>iT .lss 3 5 8 v4 (kI y2) ((qj b1 0).bind fun y5=>(qL (ro1 y5)).bind fun y6=>(idx y6.2.2.2.1 v4).bind fun y7=>(jl y6.2.2.2.2 1).bind fun y8=>(Hp.rd hp y6.1 y6.2.1).bind fun y9=>(qe y9 (Nat.add y6.2.2.1 (Nat.add 0 y7))).bind fun y10=>bT .add 3 12 17 v3 y10 fun y11=>bC .add 3 10 v4 (kI 1) fun y12=>B163_3 y11 y12 b1 hp) (rQ v3 hp):=eX (by kernel_rfl)
def B164_3:=gb 164 3 [x0,v5,v6] hp
def B164_5:=gb 164 5 [x0,v5,v6] hp
def B164_8:=gb 164 8 [x0] hp
theorem E164:run cxX 164 [a0,a1] hp=aS a1 fun y0=>ln (ro a0) fun y1=>bC .sub 3 10 (kI y1) (kI 1) fun y2=>B164_3 a0 y0 y2 hp:=eE (by kernel_rfl)
theorem qa4:B164_3 x0 v5 v6 hp=iC .geq 3 12 v6 (kI 0) (iC .gtr 76 15 v5 (kU 0) (B164_5 x0 v5 v6 hp) (B164_8 x0 hp)) (B164_8 x0 hp):=eB (by kernel_rfl)
theorem qru:B164_5 x0 v5 v6 hp=(qL (ro x0)).bind fun y7=>(idx y7.2.2.2.1 v6).bind fun y8=>(jl y7.2.2.2.2 1).bind fun y9=>(Hp.rd hp y7.1 y7.2.1).bind fun y10=>(qe y10 (Nat.add y7.2.2.1 (Nat.add 0 y8))).bind fun y11=>cV 5 76 y11 fun y12=>bC .rem 76 25 v5 (kU 256) fun y13=>bT .add 76 24 26 y12 y13 fun y14=>bC .rem 76 30 y14 (kU 256) fun y15=>cV 76 5 y15 fun y16=>(qL (ro x0)).bind fun y17=>(idx y17.2.2.2.1 v6).bind fun y18=>(jl y17.2.2.2.2 1).bind fun y19=>(Hp.rd hp y17.1 y17.2.1).bind fun y20=>(qh y20 (Nat.add y17.2.2.1 (Nat.add 0 y18)) [y16]).bind fun y21=>bC .quo 76 34 v5 (kU 256) fun y22=>bC .quo 76 36 y14 (kU 256) fun y23=>bT .add 76 35 37 y22 y23 fun y24=>bC .sub 3 18 v6 (kI 1) fun y25=>B164_3 x0 y24 y25 (Hp.put hp y17.1 y17.2.1 y21):=eB (by kernel_rfl)
theorem qa3:B164_8 x0 hp=rQ x0 hp:=eB (by kernel_rfl)
def B165_3:=gx 165 3 [v1,.lp 2 0 0,v5,v6] [(2,0,b2)] hp
theorem E165:run cxX 165 [a0,a1] hp=aS a1 fun y0=>(qg 1 a0).bind fun y1=>B165_3 y0 (kI 0) (kI 0) (List.map ro1 y1) hp:=eE (by kernel_rfl)
theorem qa2:B165_3 v1 v5 v6 b2 hp=iT .lss 3 7 8 v6 v1 ((qj b2 0).bind fun y4=>(qL (ro1 y4)).bind fun y5=>(idx y5.2.2.2.1 v6).bind fun y6=>(jl y5.2.2.2.2 1).bind fun y7=>(Hp.rd hp y5.1 y5.2.1).bind fun y8=>(qe y8 (Nat.add y5.2.2.1 (Nat.add 0 y6))).bind fun y9=>bT .add 3 12 17 v5 y9 fun y10=>bC .add 3 10 v6 (kI 1) fun y11=>B165_3 v1 y10 y11 b2 hp) (rQ v5 hp):=eX (by kernel_rfl)
def B166_5:=gx 166 5 [.lp 4 0 0,.lp 5 0 0,v6] [(4,0,b4),(5,0,b5)] hp
def B166_8:=gx 166 8 [.lp 4 0 0,.lp 5 0 0] [(4,0,b4),(5,0,b5)] hp
theorem E166:run cxX 166 [a0,a1] hp=aS a1 fun y0=>(qg 1 a0).bind fun y1=>(xx []).bind fun y2=>(qj (List.map ro1 y1) 0).bind fun y3=>(jo 8 1 (AV.us 1 []) (ro1 y3) hp).bind fun y4=>(qg 1 y4.1).bind fun y5=>(qh [nl] 0 y5).bind fun y6=>(qg 1 (.agg (List.map ro1 y6))).bind fun y7=>(qh [nl] 0 y7).bind fun y8=>(qj y8 0).bind fun y9=>(qj y8 0).bind fun y10=>(qL (ro1 y10)).bind fun y11=>(idx y11.2.2.2.1 y0).bind fun y12=>(jl y11.2.2.2.2 1).bind fun y13=>(Hp.rd y4.2 y11.1 y11.2.1).bind fun y14=>(qe y14 (Nat.add y11.2.2.1 (Nat.add 0 y12))).bind fun y15=>bC .add 3 19 y15 (kI 24) fun y16=>(qL (ro1 y9)).bind fun y17=>(idx y17.2.2.2.1 y0).bind fun y18=>(jl y17.2.2.2.2 1).bind fun y19=>(Hp.rd y4.2 y17.1 y17.2.1).bind fun y20=>(qh y20 (Nat.add y17.2.2.1 (Nat.add 0 y18)) [y16]).bind fun y21=>(ql y8 0 1).bind fun y22=>cS 163 [ro (.agg (List.map ro1 y22))] (Hp.put y4.2 y17.1 y17.2.1 y21) fun y24 h1=>iC .gtr 3 23 y24 (kI 4096) (B166_5 (kI 0) [nl] y8 h1) (B166_8 [nl] y8 h1):=eE (by kernel_rfl)
theorem qa1:B166_5 v6 b4 b5 hp=(qj b5 0).bind fun y27=>ln (ro1 y27) fun y28=>iT .lss 3 25 28 v6 (kI y28) ((qj b5 0).bind fun y31=>(qj b5 0).bind fun y32=>(qL (ro1 y32)).bind fun y33=>(idx y33.2.2.2.1 v6).bind fun y34=>(jl y33.2.2.2.2 1).bind fun y35=>(Hp.rd hp y33.1 y33.2.1).bind fun y36=>(qe y36 (Nat.add y33.2.2.1 (Nat.add 0 y34))).bind fun y37=>bC .add 3 39 y37 (kI 1) fun y38=>bC .quo 3 40 y38 (kI 2) fun y39=>(qL (ro1 y31)).bind fun y40=>(idx y40.2.2.2.1 v6).bind fun y41=>(jl y40.2.2.2.2 1).bind fun y42=>(Hp.rd hp y40.1 y40.2.1).bind fun y43=>(qh y43 (Nat.add y40.2.2.1 (Nat.add 0 y41)) [y39]).bind fun y44=>bC .add 3 30 v6 (kI 1) fun y45=>B166_5 y45 b4 b5 (Hp.put hp y40.1 y40.2.1 y44)) (B166_8 b4 b5 hp):=eX (by kernel_rfl)
theorem qa0:B166_8 b4 b5 hp=(ql b5 0 1).bind fun y46=>(qh b5 0 (List.map ro1 y46)).bind fun y47=>(qg 1 (.agg y46)).bind fun y48=>(qh b4 0 y48).bind fun y49=>(ql y49 0 1).bind fun y50=>rQ (.agg y50) hp:=eX (by kernel_rfl)
def B37_2:=gb 37 2 [] hp
def B37_3:=gb 37 3 [v0,x1] hp
def B37_5:=gb 37 5 [x6,x17,v18,v19] hp
theorem E37:run cxX 37 [a0,a1] hp=aS a0 fun y0=>iC .lss 3 9 y0 (kI 1) (B37_2 hp) (iC .gtr 3 12 y0 (kI 64) (B37_2 hp) (B37_3 y0 a1 hp)):=eE (by kernel_rfl)
theorem qyt:B37_3 v0 x1 hp=cA 88 [v0] hp fun z1 h2=>ln (ro x1) fun y7=>B37_5 z1 (ro x1) (kI y7) (kI 0) h2:=eB (by kernel_rfl)
theorem qih:B37_5 x6 x17 v18 v19 hp=iT .lss 3 19 18 v19 v18 (ju x17 v19 fun y11=>cV 5 3 y11 fun y12=>cS 89 [r2 x6,y12] hp fun y14 h1=>iN y14 (rQ (.tup [nl,kI 2]) h1) (bC .add 3 19 v19 (kI 1) fun y17=>B37_5 x6 x17 v18 y17 h1)) (cA 90 [r2 x6] hp fun z2 h3=>rQ (.tup [z2,kI 0]) h3):=eB (by kernel_rfl)
theorem E88:run cxX 88 [a0] hp=aS a0 fun y0=>cA 137 [y0] hp fun z1 h2=>(qg 1 z1).bind fun y3=>(qh zL0 0 y3).bind fun y4=>(qh y4 2 [kW 4294967295]).bind fun y5=>(qg 8 (.agg (List.map ro1 y5))).bind fun y6=>rQ (AV.ptr h2.1 0 0) (Hp.new h2 (List.map ro1 y6)):=eE (by kernel_rfl)
def B89_9:=gb 89 9 [x0,v1] hp
theorem E89:run cxX 89 [a0,a1] hp=aS a1 fun y0=>iZ (ro a0) (rQ (.sc (.bool false)) hp) (vb 0 (ro a0) hp fun y5=>cN 2 138 [ro (ro1 y5),y0] hp fun z1 h2=>nS z1 0 fun y8=>nS z1 1 fun y9=>iC .eql 3 19 y9 (kI 0) (rQ (.sc (.bool false)) h2) ((Qm (ro a0)).bind fun y12=>(qN (ro a0)).bind fun y13=>(Hp.rd h2 y13.1 y13.2.1).bind fun y14=>(qe y14 (Nat.succ (Nat.succ y13.2.2))).bind fun y15=>vb 0 (ro a0) h2 fun y19=>cS 139 [ro (ro1 y19)] h2 fun y21 h3=>cV 3 30 y21 fun y22=>bT .quo 30 24 30 y15 y22 fun y23=>(yK (Prod.mk (AV.ptr y13.1 y13.2.1 (Nat.succ (Nat.succ y13.2.2))) 1) h2.2 h3.2).bind fun y24=>jI 1 (ro a0) h3 fun y28=>cV 30 76 y23 fun y29=>cV 3 76 y8 fun y30=>bT .mul 76 37 39 y29 y30 fun y31=>bT .add 76 35 40 y28 y31 fun y32=>ZT 1 (ro a0) h3 [y32] fun h4=>cV 3 30 y9 fun y37=>bT .mul 30 45 47 y23 y37 fun y38=>ZT 2 (ro a0) h4 [y38] fun h5=>B89_9 a0 y0 h5)):=eE (by kernel_rfl)
theorem qhq:B89_9 x0 v1 hp=jI 2 (ro x0) hp fun y46=>iC .lss 30 54 y46 (kW 16777216) (jI 2 (ro x0) hp fun y52=>bC .shl 30 59 y52 (kU 8) fun y53=>ZT 2 (ro x0) hp [y53] fun h1=>cT 140 [r2 x0] h1 fun h2=>B89_9 x0 v1 h2) (vb 0 (ro x0) hp fun y63=>cT 141 [ro (ro1 y63),v1] hp fun h3=>jI 7 (ro x0) h3 fun y69=>bC .add 3 74 y69 (kI 1) fun y70=>ZT 7 (ro x0) h3 [y70] fun h4=>rQ (.sc (.bool true)) h4):=eB (by kernel_rfl)
def B90_6:=gb 90 6 [x3,v16] hp
theorem E90:run cxX 90 [a0] hp=iZ (ro a0) (rQ nl hp) (ldN 8 0 (ro a0) hp fun y4=>(qg 8 (.agg (List.map ro1 y4))).bind fun y5=>(Hp.rd (Hp.new hp zL0) hp.1 0).bind fun y6=>(qh y6 0 y5).bind fun y7=>(xx []).bind fun y8=>vb 6 (ro a0) (Hp.put (Hp.new hp zL0) hp.1 0 y7) fun y12=>(zZ 1 1 (AV.us 1 []) (ro1 y12)).bind fun y13=>(qg 1 y13).bind fun y14=>(Hp.rd (Hp.put (Hp.new hp zL0) hp.1 0 y7) hp.1 0).bind fun y15=>(qh y15 6 y14).bind fun y16=>B90_6 (AV.ptr hp.1 0 0) (kI 0) (Hp.put (Hp.put (Hp.new hp zL0) hp.1 0 y7) hp.1 0 y16)):=eE (by kernel_rfl)
theorem qhp:B90_6 x3 v16 hp=iC .lss 3 16 v16 (kI 5) (cT 140 [ro x3] hp fun h1=>bC .add 3 16 v16 (kI 1) fun y21=>B90_6 x3 y21 h1) ((qN x3).bind fun y22=>(Hp.rd hp y22.1 y22.2.1).bind fun y23=>(qj y23 (Nat.succ (Nat.succ (Nat.succ (Nat.succ (Nat.succ (Nat.succ y22.2.2))))))).bind fun y24=>rQ y24 (Hp.put hp y22.1 y22.2.1 (List.set y23 (Nat.succ (Nat.succ (Nat.succ (Nat.succ (Nat.succ (Nat.succ y22.2.2)))))) (ro1 y24)))):=eB (by kernel_rfl)
def B101_2:=gb 101 2 [] hp
def B101_3:=gb 101 3 [v0,v1,x2] hp
def B101_7:=gb 101 7 [v0,x2,x8,x9,x10,v33,v34] hp
def B101_12:=gb 101 12 [v0,x2,x8,x10] hp
theorem E101:run cxX 101 [a0,a1,a2] hp=aS a0 fun y0=>aS a1 fun y1=>iC .lss 3 14 y0 (kI 1) (B101_2 hp) (iC .gtr 3 17 y0 (kI 64) (B101_2 hp) (iC .lss 3 21 y1 (kI 0) (B101_2 hp) (iC .gtr 3 25 y1 (kI 4096) (B101_2 hp) (B101_3 y0 y1 a2 hp)))):=eE (by kernel_rfl)
theorem qs8:B101_3 v0 v1 x2 hp=cA 42 [r2 x2] hp fun z1 h2=>cA 153 [v0,r2 z1] h2 fun z3 h4=>B101_7 v0 x2 z1 z3 nl v1 (kI 0) h4:=eB (by kernel_rfl)
theorem qb4:B101_7 v0 x2 x8 x9 x10 v33 v34 hp=iT .lss 3 34 33 v34 v33 (cS 154 [r2 x9] hp fun y17 h1=>iC .lss 3 38 y17 (kI 0) (B101_12 v0 x2 x8 x10 h1) (cV 3 5 y17 fun y20=>ap 1 x10 y20 fun y22=>bC .add 3 34 v34 (kI 1) fun y23=>B101_7 v0 x2 x8 x9 y22 v33 y23 h1)) (B101_12 v0 x2 x8 x10 hp):=eB (by kernel_rfl)
theorem ql3:B101_12 v0 x2 x8 x10 hp=cS 93 [r2 x8] hp fun y25 h1=>iC .neq 57 47 y25 (kI 0) (cS 93 [r2 x8] h1 fun y29 h2=>rQ (.tup [nl,y29]) h2) (pT 2 37 [v0,ro x10] fun z3=>nS z3 1 fun y34=>(yF 1 (r2 (yG z3 0))).bind fun y35=>(zn y35).bind fun y36=>(yF 1 (ro x2)).bind fun y37=>(zn y37).bind fun y38=>iT .neq 9 58 60 (Value.string (ByteArray.mk (Array.mk y36))) (Value.string (ByteArray.mk (Array.mk y38))) (rQ (.tup [nl,kI 4]) h1) (rQ (.tup [x10,kI 0]) h1)):=eB (by kernel_rfl)
def B140_1:=gb 140 1 [x0] hp
def B140_8:=gb 140 8 [x0] hp
def B140_4:=gb 140 4 [x0,v2] hp
def B140_9:=gb 140 9 [x0] hp
theorem E140:run cxX 140 [a0] hp=jI 1 (ro a0) hp fun y3=>iC .lss 76 6 y3 (kU 4278190080) (B140_1 a0 hp) (jI 1 (ro a0) hp fun y9=>iC .geq 76 12 y9 (kU 4294967296) (B140_1 a0 hp) (B140_8 a0 hp)):=eE (by kernel_rfl)
theorem qr8:B140_1 x0 hp=jI 1 (ro x0) hp fun y15=>bC .shr 76 18 y15 (kU 32) fun y16=>cV 76 5 y16 fun y17=>jI 5 (ro x0) hp fun y21=>iB y21 ((Qm (ro x0)).bind fun y23=>(qN (ro x0)).bind fun y24=>(Hp.rd hp y24.1 y24.2.1).bind fun y25=>(qj y25 (Nat.succ (Nat.succ (Nat.succ (Nat.succ (Nat.succ (Nat.succ y24.2.2))))))).bind fun y26=>(Qm (ro x0)).bind fun y27=>(qN (ro x0)).bind fun y28=>(Hp.rd (Hp.put hp y24.1 y24.2.1 (List.set y25 (Nat.succ (Nat.succ (Nat.succ (Nat.succ (Nat.succ (Nat.succ y24.2.2)))))) (ro1 y26))) y28.1 y28.2.1).bind fun y29=>(qe y29 (Nat.succ (Nat.succ (Nat.succ (Nat.succ y28.2.2))))).bind fun y30=>bT .add 5 33 34 y30 y17 fun y31=>ap 1 y26 y31 fun y33=>(Qm (ro x0)).bind fun y34=>(qN (ro x0)).bind fun y35=>(qg 1 y33).bind fun y36=>(Hp.rd (Hp.put hp y24.1 y24.2.1 (List.set y25 (Nat.succ (Nat.succ (Nat.succ (Nat.succ (Nat.succ (Nat.succ y24.2.2)))))) (ro1 y26))) y35.1 y35.2.1).bind fun y37=>(qh y37 (Nat.succ (Nat.succ (Nat.succ (Nat.succ (Nat.succ (Nat.succ y35.2.2)))))) y36).bind fun y38=>(yK (Prod.mk (AV.ptr y28.1 y28.2.1 (Nat.succ (Nat.succ (Nat.succ (Nat.succ y28.2.2))))) 1) hp.2 (Hp.put hp y24.1 y24.2.1 (List.set y25 (Nat.succ (Nat.succ (Nat.succ (Nat.succ (Nat.succ (Nat.succ y24.2.2)))))) (ro1 y26))).2).bind fun y39=>B140_4 x0 y17 (Hp.put (Hp.put hp y24.1 y24.2.1 (List.set y25 (Nat.succ (Nat.succ (Nat.succ (Nat.succ (Nat.succ (Nat.succ y24.2.2)))))) (ro1 y26))) y35.1 y35.2.1 y38)) (B140_4 x0 y17 hp):=eB (by kernel_rfl)
theorem qr7:B140_8 x0 hp=jI 3 (ro x0) hp fun y43=>bC .add 3 78 y43 (kI 1) fun y44=>ZT 3 (ro x0) hp [y44] fun h1=>B140_9 x0 h1:=eB (by kernel_rfl)
theorem qbn:B140_4 x0 v2 hp=jI 3 (ro x0) hp fun y52=>iC .gtr 3 43 y52 (kI 0) ((Qm (ro x0)).bind fun y55=>(qN (ro x0)).bind fun y56=>(Hp.rd hp y56.1 y56.2.1).bind fun y57=>(qj y57 (Nat.succ (Nat.succ (Nat.succ (Nat.succ (Nat.succ (Nat.succ y56.2.2))))))).bind fun y58=>bG .add 5 (.const (kB 255)) (.tmp 57) (kB 255) v2 fun y59=>ap 1 y58 y59 fun y61=>(Qm (ro x0)).bind fun y62=>(qN (ro x0)).bind fun y63=>(qg 1 y61).bind fun y64=>(Hp.rd (Hp.put hp y56.1 y56.2.1 (List.set y57 (Nat.succ (Nat.succ (Nat.succ (Nat.succ (Nat.succ (Nat.succ y56.2.2)))))) (ro1 y58))) y63.1 y63.2.1).bind fun y65=>(qh y65 (Nat.succ (Nat.succ (Nat.succ (Nat.succ (Nat.succ (Nat.succ y63.2.2)))))) y64).bind fun y66=>jI 3 (ro x0) (Hp.put (Hp.put hp y56.1 y56.2.1 (List.set y57 (Nat.succ (Nat.succ (Nat.succ (Nat.succ (Nat.succ (Nat.succ y56.2.2)))))) (ro1 y58))) y63.1 y63.2.1 y66) fun y70=>bC .sub 3 48 y70 (kI 1) fun y71=>ZT 3 (ro x0) (Hp.put (Hp.put hp y56.1 y56.2.1 (List.set y57 (Nat.succ (Nat.succ (Nat.succ (Nat.succ (Nat.succ (Nat.succ y56.2.2)))))) (ro1 y58))) y63.1 y63.2.1 y66) [y71] fun h1=>B140_4 x0 v2 h1) (jI 1 (ro x0) hp fun y79=>bC .shr 76 68 y79 (kU 24) fun y80=>cV 76 5 y80 fun y81=>ZT 5 (ro x0) hp [.sc (.bool true)] fun h2=>ZT 4 (ro x0) h2 [y81] fun h3=>B140_9 x0 h3):=eB (by kernel_rfl)
theorem qbm:B140_9 x0 hp=jI 1 (ro x0) hp fun y93=>bC .and 76 86 y93 (kU 16777215) fun y94=>bC .shl 76 87 y94 (kU 8) fun y95=>ZT 1 (ro x0) hp [y95] fun h1=>rQ (.tup []) h1:=eB (by kernel_rfl)
theorem E153:run cxX 153 [a0,a1] hp=aS a0 fun y0=>cA 137 [y0] hp fun z1 h2=>cS 178 [r2 a1] h2 fun y4 h3=>(qg 1 z1).bind fun y5=>(qh [Value.pointer none,Value.pointer none,kW 0,kW 0] 0 y5).bind fun y6=>(qg 1 (ro a1)).bind fun y7=>(qh y6 1 y7).bind fun y8=>(qh y8 2 [y4]).bind fun y9=>(qh y9 3 [kW 4294967295]).bind fun y10=>(qg 4 (.agg (List.map ro1 y10))).bind fun y11=>rQ (AV.ptr h3.1 0 0) (Hp.new h3 (List.map ro1 y11)):=eE (by kernel_rfl)
def B154_2:=gb 154 2 [] hp
def B154_3:=gb 154 3 [x0] hp
def B154_11:=gb 154 11 [x0,v4] hp
theorem E154:run cxX 154 [a0] hp=iZ (ro a0) (B154_2 hp) (vb 1 (ro a0) hp fun y4=>cS 93 [ro (ro1 y4)] hp fun y6 h1=>iC .neq 57 14 y6 (kI 0) (B154_2 h1) (B154_3 a0 h1)):=eE (by kernel_rfl)
theorem qr3:B154_3 x0 hp=(Qm (ro x0)).bind fun y9=>(qN (ro x0)).bind fun y10=>(Hp.rd hp y10.1 y10.2.1).bind fun y11=>(qe y11 (Nat.succ (Nat.succ (Nat.succ y10.2.2)))).bind fun y12=>vb 0 (ro x0) hp fun y16=>cS 139 [ro (ro1 y16)] hp fun y18 h1=>cV 3 30 y18 fun y19=>bT .quo 30 20 26 y12 y19 fun y20=>(yK (Prod.mk (AV.ptr y10.1 y10.2.1 (Nat.succ (Nat.succ (Nat.succ y10.2.2)))) 1) hp.2 h1.2).bind fun y21=>vb 0 (ro x0) h1 fun y25=>jI 2 (ro x0) h1 fun y29=>bT .quo 30 35 36 y29 y20 fun y30=>cV 30 3 y30 fun y31=>cS 179 [ro (ro1 y25),y31] h1 fun y33 h2=>iC .lss 3 40 y33 (kI 0) (vb 1 (ro x0) h2 fun y39=>cT 95 [ro (ro1 y39),kI 4] h2 fun h3=>rQ (.sc (.int .i64 (.negSucc 0))) h3) (vb 0 (ro x0) h2 fun y45=>cN 2 138 [ro (ro1 y45),y33] h2 fun z4 h5=>nS z4 0 fun y48=>nS z4 1 fun y49=>jI 2 (ro x0) h5 fun y53=>cV 3 30 y48 fun y54=>bT .mul 30 60 62 y20 y54 fun y55=>bT .sub 30 59 63 y53 y55 fun y56=>ZT 2 (ro x0) h5 [y56] fun h6=>cV 3 30 y49 fun y61=>bT .mul 30 68 70 y20 y61 fun y62=>ZT 3 (ro x0) h6 [y62] fun h7=>B154_11 x0 y33 h7):=eB (by kernel_rfl)
theorem Vl:B154_11 x0 v4 hp=jI 3 (ro x0) hp fun y70=>iC .lss 30 77 y70 (kW 16777216) (jI 3 (ro x0) hp fun y76=>bC .shl 30 82 y76 (kU 8) fun y77=>ZT 3 (ro x0) hp [y77] fun h1=>(Qm (ro x0)).bind fun y82=>(qN (ro x0)).bind fun y83=>(Hp.rd h1 y83.1 y83.2.1).bind fun y84=>(qe y84 (Nat.succ (Nat.succ y83.2.2))).bind fun y85=>bC .shl 30 90 y85 (kU 8) fun y86=>vb 1 (ro x0) h1 fun y90=>cS 48 [ro (ro1 y90)] h1 fun y92 h2=>cV 5 30 y92 fun y93=>bT .or 30 91 97 y86 y93 fun y94=>ZT 2 (ro x0) h2 [y94] fun h3=>(yK (Prod.mk (AV.ptr y83.1 y83.2.1 (Nat.succ (Nat.succ y83.2.2))) 1) h1.2 h2.2).bind fun y99=>B154_11 x0 v4 h3) (vb 1 (ro x0) hp fun y103=>cS 93 [ro (ro1 y103)] hp fun y105 h4=>iC .neq 57 105 y105 (kI 0) (rQ (.sc (.int .i64 (.negSucc 0))) h4) (vb 0 (ro x0) h4 fun y111=>cT 141 [ro (ro1 y111),v4] h4 fun h5=>rQ v4 h5)):=eB (by kernel_rfl)
def B178_3:=gb 178 3 [x0,v3,v4] hp
theorem E178:run cxX 178 [a0] hp=B178_3 a0 (kW 0) (kI 0) hp:=eE (by kernel_rfl)
theorem qay:B178_3 x0 v3 v4 hp=iC .lss 3 4 v4 (kI 4) (bC .shl 30 6 v3 (kU 8) fun y2=>cS 48 [r2 x0] hp fun y4 h1=>cV 5 30 y4 fun y5=>bT .or 30 7 10 y2 y5 fun y6=>bC .add 3 4 v4 (kI 1) fun y7=>B178_3 x0 y6 y7 h1) (rQ v3 hp):=eB (by kernel_rfl)
def B137_3:=gb 137 3 [x3,v8,v9] hp
theorem E137:run cxX 137 [a0] hp=aS a0 fun y0=>(vc Tryz.prog Go.Builtin.max (Array.mk [3,3]) 3 [y0,kI 1]).bind fun y1=>(vc Tryz.prog Go.Builtin.min (Array.mk [3,3]) 3 [y1,kI 64]).bind fun y2=>B137_3 (AV.ptr hp.1 0 0) y2 (kI 0) (Hp.new hp [nl,kI 0]):=eE (by kernel_rfl)
theorem YB:B137_3 x3 v8 v9 hp=iT .lss 3 9 8 v9 v8 (vb 0 (ro x3) hp fun y8=>(xx [kI 1]).bind fun y9=>(jo 8 1 (ro1 y8) (AV.us 1 [kI 1]) hp).bind fun y10=>(Qm (ro x3)).bind fun y11=>(qN (ro x3)).bind fun y12=>(qg 1 y10.1).bind fun y13=>(Hp.rd y10.2 y12.1 y12.2.1).bind fun y14=>(qh y14 y12.2.2 y13).bind fun y15=>jI 1 (ro x3) (Hp.put y10.2 y12.1 y12.2.1 y15) fun y19=>bC .add 3 23 y19 (kI 1) fun y20=>ZT 1 (ro x3) (Hp.put y10.2 y12.1 y12.2.1 y15) [y20] fun h1=>bC .add 3 9 v9 (kI 1) fun y25=>B137_3 x3 v8 y25 h1) (rQ (ro x3) hp):=eB (by kernel_rfl)
def B138_2:=gb 138 2 [] hp
def B138_3:=gb 138 3 [x0,v1] hp
def B138_5:=gb 138 5 [x0,v1,v6,x22,v23,v24] hp
theorem E138:run cxX 138 [a0,a1] hp=aS a1 fun y0=>iC .lss 3 9 y0 (kI 0) (B138_2 hp) (cS 175 [r2 a0] hp fun y4 h1=>iT .geq 3 12 14 y0 y4 (B138_2 h1) (B138_3 a0 y0 h1)):=eE (by kernel_rfl)
theorem qr9:B138_3 x0 v1 hp=vb 0 (ro x0) hp fun y10=>(qL (ro1 y10)).bind fun y11=>(zd (.ofNat 0) (.ofNat y11.2.2.2.1) none y11.2.2.2.1).bind fun y12=>(zd (.ofNat 0) (.ofNat y12) (Option.some v1) y11.2.2.2.1).bind fun y13=>(zd (.ofNat 0) (.ofNat y13) none 0).bind fun y14=>(jl y11.2.2.2.2 1).bind fun y15=>ln (AV.ms y11.1 y11.2.1 (Nat.add y11.2.2.1 (Nat.add 0 y14)) (Nat.sub y13 y14) 1) fun y16=>B138_5 x0 v1 (kI 0) (AV.ms y11.1 y11.2.1 (Nat.add y11.2.2.1 (Nat.add 0 y14)) (Nat.sub y13 y14) 1) (kI y16) (kI 0) hp:=eB (by kernel_rfl)
theorem qbo:B138_5 x0 v1 v6 x22 v23 v24 hp=iT .lss 3 24 23 v24 v23 ((qL x22).bind fun y19=>(idx y19.2.2.2.1 v24).bind fun y20=>(jl y19.2.2.2.2 1).bind fun y21=>(Hp.rd hp y19.1 y19.2.1).bind fun y22=>(qe y22 (Nat.add y19.2.2.1 (Nat.add 0 y20))).bind fun y23=>bT .add 3 28 29 v6 y23 fun y24=>bC .add 3 24 v24 (kI 1) fun y25=>B138_5 x0 v1 y24 x22 v23 y25 hp) (vb 0 (ro x0) hp fun y29=>(qL (ro1 y29)).bind fun y30=>(idx y30.2.2.2.1 v1).bind fun y31=>(jl y30.2.2.2.2 1).bind fun y32=>(Hp.rd hp y30.1 y30.2.1).bind fun y33=>(qe y33 (Nat.add y30.2.2.1 (Nat.add 0 y31))).bind fun y34=>rQ (.tup [v6,y34]) hp):=eB (by kernel_rfl)
theorem E139:run cxX 139 [a0] hp=iZ (ro a0) (rQ (kI 0) hp) (jI 1 (ro a0) hp fun y4=>rQ y4 hp):=eE (by kernel_rfl)
def B141_1:=gb 141 1 [x0,v1] hp
def B141_6:=gb 141 6 [x0,x41,v42,v43] hp
theorem E141:run cxX 141 [a0,a1] hp=aS a1 fun y0=>iC .lss 3 6 y0 (kI 0) (rQ (.tup []) hp) (cS 175 [r2 a0] hp fun y4 h1=>iT .geq 3 9 11 y0 y4 (rQ (.tup []) h1) (B141_1 a0 y0 h1)):=eE (by kernel_rfl)
theorem qbl:B141_1 x0 v1 hp=vb 0 (ro x0) hp fun y10=>(qL (ro1 y10)).bind fun y11=>(idx y11.2.2.2.1 v1).bind fun y12=>(jl y11.2.2.2.2 1).bind fun y13=>(Hp.rd hp y11.1 y11.2.1).bind fun y14=>(qe y14 (Nat.add y11.2.2.1 (Nat.add 0 y12))).bind fun y15=>bC .add 3 20 y15 (kI 24) fun y16=>(qL (ro1 y10)).bind fun y17=>(idx y17.2.2.2.1 v1).bind fun y18=>(jl y17.2.2.2.2 1).bind fun y19=>(Hp.rd hp y17.1 y17.2.1).bind fun y20=>(qh y20 (Nat.add y17.2.2.1 (Nat.add 0 y18)) [y16]).bind fun y21=>jI 1 (ro x0) (Hp.put hp y17.1 y17.2.1 y21) fun y25=>bC .add 3 26 y25 (kI 24) fun y26=>ZT 1 (ro x0) (Hp.put hp y17.1 y17.2.1 y21) [y26] fun h1=>jI 1 (ro x0) h1 fun y34=>iC .leq 3 33 y34 (kI 4096) (rQ (.tup []) h1) (ZT 1 (ro x0) h1 [kI 0] fun h2=>vb 0 (ro x0) h2 fun y44=>ln (ro1 y44) fun y45=>B141_6 x0 (ro1 y44) (kI y45) (kI 0) h2):=eB (by kernel_rfl)
theorem qbk:B141_6 x0 x41 v42 v43 hp=iT .lss 3 43 42 v43 v42 ((qL x41).bind fun y48=>(idx y48.2.2.2.1 v43).bind fun y49=>(jl y48.2.2.2.2 1).bind fun y50=>(Hp.rd hp y48.1 y48.2.1).bind fun y51=>(qe y51 (Nat.add y48.2.2.1 (Nat.add 0 y49))).bind fun y52=>vb 0 (ro x0) hp fun y56=>bC .add 3 53 y52 (kI 1) fun y57=>bC .quo 3 54 y57 (kI 2) fun y58=>(qL (ro1 y56)).bind fun y59=>(idx y59.2.2.2.1 v43).bind fun y60=>(jl y59.2.2.2.2 1).bind fun y61=>(Hp.rd hp y59.1 y59.2.1).bind fun y62=>(qh y62 (Nat.add y59.2.2.1 (Nat.add 0 y60)) [y58]).bind fun y63=>jI 1 (ro x0) (Hp.put hp y59.1 y59.2.1 y63) fun y67=>vb 0 (ro x0) (Hp.put hp y59.1 y59.2.1 y63) fun y71=>(qL (ro1 y71)).bind fun y72=>(idx y72.2.2.2.1 v43).bind fun y73=>(jl y72.2.2.2.2 1).bind fun y74=>(Hp.rd (Hp.put hp y59.1 y59.2.1 y63) y72.1 y72.2.1).bind fun y75=>(qe y75 (Nat.add y72.2.2.1 (Nat.add 0 y73))).bind fun y76=>bT .add 3 60 67 y67 y76 fun y77=>ZT 1 (ro x0) (Hp.put hp y59.1 y59.2.1 y63) [y77] fun h1=>bC .add 3 43 v43 (kI 1) fun y82=>B141_6 x0 x41 v42 y82 h1) (rQ (.tup []) hp):=eB (by kernel_rfl)
theorem E175:run cxX 175 [a0] hp=iZ (ro a0) (rQ (kI 0) hp) (vb 0 (ro a0) hp fun y4=>ln (ro1 y4) fun y5=>rQ (kI y5) hp):=eE (by kernel_rfl)
def B179_2:=gb 179 2 [] hp
def B179_3:=gb 179 3 [x0,v1] hp
def B179_4:=gb 179 4 [x0,v1,v5] hp
theorem E179:run cxX 179 [a0,a1] hp=aS a1 fun y0=>iC .lss 3 6 y0 (kI 0) (B179_2 hp) (cS 139 [r2 a0] hp fun y4 h1=>iT .geq 3 9 11 y0 y4 (B179_2 h1) (B179_3 a0 y0 h1)):=eE (by kernel_rfl)
theorem qro:B179_3 x0 v1 hp=B179_4 x0 v1 (kI 0) hp:=eB (by kernel_rfl)
theorem qax:B179_4 x0 v1 v5 hp=vb 0 (ro x0) hp fun y10=>(qL (ro1 y10)).bind fun y11=>(idx y11.2.2.2.1 v5).bind fun y12=>(jl y11.2.2.2.2 1).bind fun y13=>(Hp.rd hp y11.1 y11.2.1).bind fun y14=>(qe y14 (Nat.add y11.2.2.1 (Nat.add 0 y12))).bind fun y15=>iT .geq 3 14 21 v1 y15 (vb 0 (ro x0) hp fun y21=>(qL (ro1 y21)).bind fun y22=>(idx y22.2.2.2.1 v5).bind fun y23=>(jl y22.2.2.2.2 1).bind fun y24=>(Hp.rd hp y22.1 y22.2.1).bind fun y25=>(qe y25 (Nat.add y22.2.2.1 (Nat.add 0 y23))).bind fun y26=>bT .sub 3 25 32 v1 y26 fun y27=>bC .add 3 23 v5 (kI 1) fun y28=>B179_4 x0 y27 y28 hp) (rQ v5 hp):=eB (by kernel_rfl)
def B32_5:=gb 32 5 [x0,x4,x11,v12,v13] hp
def B32_8:=gb 32 8 [] hp
def B32_9:=gb 32 9 [x0,x4,v6,x11,v12,v13] hp
def B32_11:=gb 32 11 [x0,x4,v6,x11,v12,v13] hp
def B32_12:=gb 32 12 [x0,x4,v6,x11,v12,v13] hp
theorem E32:run cxX 32 [a0] hp=ln (ro a0) fun y0=>iC .gtr 3 9 (kI y0) (kI 4096) (rQ (.tup [nl,kI 7]) hp) (ln (ro a0) fun y3=>B32_5 a0 nl (ro a0) (kI y3) (kI 0) hp):=eE (by kernel_rfl)
theorem JQ:B32_5 x0 x4 x11 v12 v13 hp=iT .lss 3 13 12 v13 v12 (ju x11 v13 fun y7=>iC .gtr 3 18 v13 (kI 0) (bC .sub 3 23 v13 (kI 1) fun y10=>ju (ro x0) y10 fun y12=>iT .leq 30 21 26 y7 y12 (B32_8 hp) (B32_9 x0 x4 y7 x11 v12 v13 hp)) (B32_9 x0 x4 y7 x11 v12 v13 hp)) ((xQ hp (ro x4)).bind fun y15=>rQ (.tup [y15.1,kI 0]) y15.2):=eB (by kernel_rfl)
theorem Vi:B32_9 x0 x4 v6 x11 v12 v13 hp=ln (ro x4) fun y16=>iC .eql 3 31 (kI y16) (kI 0) (B32_11 x0 x4 v6 x11 v12 v13 hp) (bC .sub 3 35 (kI y16) (kI 1) fun y19=>(qL (ro x4)).bind fun y20=>(idx y20.2.2.2.1 y19).bind fun y21=>(jl y20.2.2.2.2 5).bind fun y22=>(Hp.rd hp y20.1 y20.2.1).bind fun y23=>(qe y23 (Nat.add y20.2.2.1 (Nat.add (Nat.add (Nat.add (Nat.add (Nat.add 0 y21) y21) y21) y21) y21))).bind fun y24=>bC .shr 30 40 v6 (kU 8) fun y25=>iT .neq 30 39 41 y24 y25 (B32_11 x0 x4 v6 x11 v12 v13 hp) (B32_12 x0 x4 v6 x11 v12 v13 hp)):=eB (by kernel_rfl)
theorem qas:B32_11 x0 x4 v6 x11 v12 v13 hp=bC .shr 30 45 v6 (kU 8) fun y28=>(xx [y28,kU 0,kU 0,kU 0,kU 0]).bind fun y29=>(jo 40 5 (ro x4) (AV.us 5 [y28,kU 0,kU 0,kU 0,kU 0]) hp).bind fun y30=>B32_12 x0 y30.1 v6 x11 v12 v13 y30.2:=eB (by kernel_rfl)
theorem qrn:B32_12 x0 x4 v6 x11 v12 v13 hp=ln (ro x4) fun y31=>bC .sub 3 52 (kI y31) (kI 1) fun y32=>(qL (ro x4)).bind fun y33=>(idx y33.2.2.2.1 y32).bind fun y34=>(jl y33.2.2.2.2 5).bind fun y35=>cV 30 5 v6 fun y36=>cT 80 [ro (AV.ptr y33.1 y33.2.1 (Nat.add y33.2.2.1 (Nat.add (Nat.add (Nat.add (Nat.add (Nat.add 0 y34) y34) y34) y34) y34))),y36] hp fun h1=>bC .add 3 13 v13 (kI 1) fun y39=>B32_5 x0 x4 x11 v12 y39 h1:=eB (by kernel_rfl)
def B33_2:=gb 33 2 [x1,x11,v12,v13] hp
theorem E33:run cxX 33 [a0,a1] hp=ln (ro a0) fun y0=>cV 3 76 (kI y0) fun y1=>cT 25 [r2 a1,y1] hp fun h1=>ln (ro a0) fun y4=>B33_2 a1 (ro a0) (kI y4) (kI 0) h1:=eE (by kernel_rfl)
theorem Vh:B33_2 x1 x11 v12 v13 hp=iT .lss 3 13 12 v13 v12 ((yw 5 x11 v13).bind fun y7=>(ql y7 0 5).bind fun y8=>(qg 5 (.agg (List.map ro1 y8))).bind fun y9=>(qh [kW 0,kU 0,kU 0,kU 0,kU 0] 0 y9).bind fun y10=>(ql y10 0 5).bind fun y11=>cT 81 [ro (.agg (List.map ro1 y11)),r2 x1] hp fun h1=>bC .add 3 13 v13 (kI 1) fun y14=>B33_2 x1 x11 v12 y14 h1) (rQ (.tup []) hp):=eB (by kernel_rfl)
def B43_5:=gb 43 5 [x0,x3,v4,v5,v6] hp
def B43_7:=gb 43 7 [x0,x3,v4,v5,v6] hp
def B43_15:=gb 43 15 [x0,x3] hp
def B43_10:=gx 43 10 [x0,x3,v4,v5,v6,.lp 7 0 0] [(7,0,b7)] hp
def B43_11:=gx 43 11 [x0,x3,v4,v5,v6,.lp 7 0 0] [(7,0,b7)] hp
def B43_14:=gx 43 14 [x0,x3,v4,v5,v6,.lp 7 0 0] [(7,0,b7)] hp
theorem E43:run cxX 43 [a0] hp=cS 45 [r2 a0,kU 4096] hp fun y1 h1=>B43_5 a0 nl (kI 0) y1 (kU 0) h1:=eE (by kernel_rfl)
theorem Vg:B43_5 x0 x3 v4 v5 v6 hp=iT .lss 76 11 12 v6 v5 (cS 93 [r2 x0] hp fun y5 h1=>iC .eql 57 16 y5 (kI 0) (B43_7 x0 x3 v4 v5 v6 h1) (B43_15 x0 x3 h1)) (B43_15 x0 x3 hp):=eB (by kernel_rfl)
theorem qys:B43_7 x0 x3 v4 v5 v6 hp=cA 94 [r2 x0] hp fun z1 h2=>(qg 5 z1).bind fun y10=>(qh [kW 0,kU 0,kU 0,kU 0,kU 0] 0 y10).bind fun y11=>ln (ro x3) fun y12=>iC .gtr 3 25 (kI y12) (kI 0) (cS 93 [r2 x0] h2 fun y16 h3=>iC .eql 57 29 y16 (kI 0) ((qe y11 0).bind fun y19=>bC .sub 3 36 (kI y12) (kI 1) fun y20=>(yw 5 (ro x3) y20).bind fun y21=>(qe y21 0).bind fun y22=>iT .leq 30 34 40 y19 y22 (B43_10 x0 x3 v4 v5 v6 y11 h3) (B43_11 x0 x3 v4 v5 v6 y11 h3)) (B43_11 x0 x3 v4 v5 v6 y11 h3)) (B43_11 x0 x3 v4 v5 v6 y11 h2):=eB (by kernel_rfl)
theorem qap:B43_15 x0 x3 hp=cS 93 [r2 x0] hp fun y26 h1=>iC .neq 57 58 y26 (kI 0) (rQ nl h1) (rQ x3 h1):=eB (by kernel_rfl)
theorem qrl:B43_11 x0 x3 v4 v5 v6 b7 hp=(ql b7 0 5).bind fun y31=>pS 96 [.agg (List.map ro1 y31)] fun y35=>bT .add 3 45 47 v4 y35 fun y36=>iC .gtr 3 49 y36 (kI 4096) (cT 95 [r2 x0,kI 7] hp fun h1=>B43_14 x0 x3 y36 v5 v6 b7 h1) (B43_14 x0 x3 y36 v5 v6 b7 hp):=eX (by kernel_rfl)
theorem qrk:B43_14 x0 x3 v4 v5 v6 b7 hp=(ql b7 0 5).bind fun y41=>(qg 5 (.agg (List.map ro1 y41))).bind fun y42=>(qh [kW 0,kU 0,kU 0,kU 0,kU 0] 0 y42).bind fun y43=>(xx y43).bind fun y44=>(zZ 40 5 x3 (AV.us 5 (List.map ro1 y43))).bind fun y45=>bC .add 76 19 v6 (kU 1) fun y46=>B43_5 x0 y45 v4 v5 y46 hp:=eX (by kernel_rfl)
def B44_3:=gb 44 3 [x3,x7,v8,v9] hp
def B44_6:=gx 44 6 [x3,.lp 5 0 0,x7,v8,v9,v13] [(5,0,b5)] hp
def B44_10:=gx 44 10 [x3,.lp 5 0 0,x7,v8,v9,v13] [(5,0,b5)] hp
theorem E44:run cxX 44 [a0] hp=ln (ro a0) fun y0=>B44_3 nl (ro a0) (kI y0) (kI 0) hp:=eE (by kernel_rfl)
theorem Vf:B44_3 x3 x7 v8 v9 hp=iT .lss 3 9 8 v9 v8 ((yw 5 x7 v9).bind fun y3=>(ql y3 0 5).bind fun y4=>(qg 5 (.agg (List.map ro1 y4))).bind fun y5=>(qh [kW 0,kU 0,kU 0,kU 0,kU 0] 0 y5).bind fun y6=>B44_6 x3 x7 v8 v9 (kI 0) y6 hp) (rQ x3 hp):=eB (by kernel_rfl)
theorem Ve:B44_6 x3 x7 v8 v9 v13 b5 hp=iC .lss 3 13 v13 (kI 256) ((ql b5 0 5).bind fun y9=>cV 3 5 v13 fun y10=>pS 97 [.agg (List.map ro1 y9),y10] fun y14=>iB y14 ((qe b5 0).bind fun y16=>bC .shl 30 22 y16 (kU 8) fun y17=>cV 3 30 v13 fun y18=>bT .or 30 23 25 y17 y18 fun y19=>ap 4 x3 y19 fun y21=>B44_10 y21 x7 v8 v9 v13 b5 hp) (B44_10 x3 x7 v8 v9 v13 b5 hp)) (bC .add 3 9 v9 (kI 1) fun y22=>B44_3 x3 x7 v8 y22 hp):=eX (by kernel_rfl)
theorem qao:B44_10 x3 x7 v8 v9 v13 b5 hp=bC .add 3 13 v13 (kI 1) fun y23=>B44_6 x3 x7 v8 v9 y23 b5 hp:=eX (by kernel_rfl)
theorem E80:run cxX 80 [a0,a1] hp=aS a1 fun y0=>bC .shr 5 5 y0 (kU 6) fun y1=>(Qm (ro a0)).bind fun y2=>(qN (ro a0)).bind fun y3=>(idx 4 y1).bind fun y4=>(Hp.rd hp y3.1 y3.2.1).bind fun y5=>(qe y5 (Nat.add (Nat.succ y3.2.2) (Nat.add 0 y4))).bind fun y6=>bC .and 5 11 y0 (kB 63) fun y7=>bG .shl 76 (.const (kU 1)) (.tmp 12) (kU 1) y7 fun y8=>bT .or 76 10 13 y6 y8 fun y9=>(Qm (ro a0)).bind fun y10=>(qN (ro a0)).bind fun y11=>(idx 4 y1).bind fun y12=>(Hp.rd hp y11.1 y11.2.1).bind fun y13=>(qh y13 (Nat.add (Nat.succ y11.2.2) (Nat.add 0 y12)) [y9]).bind fun y14=>rQ (.tup []) (Hp.put hp y11.1 y11.2.1 y14):=eE (by kernel_rfl)
def B81_17:=gx 81 17 [x1,.lp 2 0 0,v64] [(2,0,b2)] hp
def B81_24:=gx 81 24 [x1,.lp 2 0 0,v78] [(2,0,b2)] hp
def B81_7:=gx 81 7 [x1,.lp 2 0 0,v7] [(2,0,b2)] hp
def B81_21:=gx 81 21 [x1,.lp 2 0 0,v64] [(2,0,b2)] hp
def B81_8:=gx 81 8 [x1,.lp 2 0 0,v7] [(2,0,b2)] hp
def B81_11:=gx 81 11 [x1,.lp 2 0 0,v7,v8] [(2,0,b2)] hp
def B81_12:=gx 81 12 [x1,.lp 2 0 0,v7,v8] [(2,0,b2)] hp
def B81_13:=gx 81 13 [x1,.lp 2 0 0,v7,v8] [(2,0,b2)] hp
theorem E81:run cxX 81 [a0,a1] hp=(qg 5 a0).bind fun y0=>(ql (List.map ro1 y0) 0 5).bind fun y1=>pS 134 [.agg (List.map ro1 y1)] fun y5=>(qe (List.map ro1 y0) 0).bind fun y6=>cV 30 76 y6 fun y7=>cT 25 [r2 a1,y7] hp fun h1=>cT 36 [r2 a1,y5] h1 fun h2=>iC .eql 198 19 y5 (kB 0) ((ql (List.map ro1 y0) 0 5).bind fun y14=>pS 96 [.agg (List.map ro1 y14)] fun y18=>bC .sub 3 60 y18 (kI 1) fun y19=>cV 3 5 y19 fun y20=>cT 36 [r2 a1,y20] h2 fun h3=>B81_17 a1 (kI 0) (List.map ro1 y0) h3) (iC .eql 198 19 y5 (kB 1) (B81_24 a1 (kI 0) (List.map ro1 y0) h2) ((ql (List.map ro1 y0) 0 5).bind fun y25=>pS 135 [.agg (List.map ro1 y25)] fun y29=>bC .sub 3 22 y29 (kI 1) fun y30=>cV 3 5 y30 fun y31=>cT 36 [r2 a1,y31] h2 fun h4=>B81_7 a1 (kI 0) (List.map ro1 y0) h4)):=eE (by kernel_rfl)
theorem qai:B81_17 x1 v64 b2 hp=iC .lss 3 64 v64 (kI 256) ((ql b2 0 5).bind fun y36=>cV 3 5 v64 fun y37=>pS 97 [.agg (List.map ro1 y36),y37] fun y41=>iB y41 (cV 3 5 v64 fun y43=>cT 36 [r2 x1,y43] hp fun h1=>B81_21 x1 v64 b2 h1) (B81_21 x1 v64 b2 hp)) (rQ (.tup []) hp):=eX (by kernel_rfl)
theorem qah:B81_24 x1 v78 b2 hp=iC .lss 3 78 v78 (kI 32) (bC .quo 3 82 v78 (kI 8) fun y48=>(idx 4 y48).bind fun y49=>(qe b2 (Nat.add 1 (Nat.add 0 y49))).bind fun y50=>bC .rem 3 87 v78 (kI 8) fun y51=>bG .mul 3 (.const (kI 8)) (.tmp 88) (kI 8) y51 fun y52=>bT .shr 76 86 89 y50 y52 fun y53=>cV 76 5 y53 fun y54=>cT 36 [r2 x1,y54] hp fun h1=>bC .add 3 78 v78 (kI 1) fun y57=>B81_24 x1 y57 b2 h1) (rQ (.tup []) hp):=eX (by kernel_rfl)
theorem Vb:B81_7 x1 v7 b2 hp=iC .lss 3 26 v7 (kI 256) ((ql b2 0 5).bind fun y60=>cV 3 5 v7 fun y61=>pS 97 [.agg (List.map ro1 y60),y61] fun y65=>iN y65 (B81_8 x1 v7 b2 hp) (B81_11 x1 v7 v7 b2 hp)) (rQ (.tup []) hp):=eX (by kernel_rfl)
theorem qq8:B81_21 x1 v64 b2 hp=bC .add 3 64 v64 (kI 1) fun y68=>B81_17 x1 y68 b2 hp:=eX (by kernel_rfl)
theorem qyd:B81_8 x1 v7 b2 hp=bC .add 3 28 v7 (kI 1) fun y69=>B81_7 x1 y69 b2 hp:=eX (by kernel_rfl)
theorem qaj:B81_11 x1 v7 v8 b2 hp=iC .lss 3 36 v7 (kI 255) ((ql b2 0 5).bind fun y72=>bC .add 3 40 v7 (kI 1) fun y73=>cV 3 5 y73 fun y74=>pS 97 [.agg (List.map ro1 y72),y74] fun y78=>iB y78 (B81_12 x1 v7 v8 b2 hp) (B81_13 x1 v7 v8 b2 hp)) (B81_13 x1 v7 v8 b2 hp):=eX (by kernel_rfl)
theorem qra:B81_12 x1 v7 v8 b2 hp=bC .add 3 45 v7 (kI 1) fun y80=>B81_11 x1 y80 v8 b2 hp:=eX (by kernel_rfl)
theorem qq9:B81_13 x1 v7 v8 b2 hp=cV 3 5 v8 fun y81=>bT .sub 3 50 51 v7 v8 fun y82=>cV 3 5 y82 fun y83=>(xx [y81,y83]).bind fun y84=>cT 35 [r2 x1,ro (AV.us 1 [y81,y83])] hp fun h1=>B81_8 x1 v7 b2 h1:=eX (by kernel_rfl)
def B94_15:=gx 94 15 [x0,.lp 2 0 0,x3,v4] [(2,0,b2)] hp
def B94_9:=gx 94 9 [x0,.lp 2 0 0,x3,v4,x23,v24,v25] [(2,0,b2)] hp
def B94_16:=gx 94 16 [x0,.lp 2 0 0,x3] [(2,0,b2)] hp
def B94_17:=gx 94 17 [x0,.lp 2 0 0,x3] [(2,0,b2)] hp
theorem E94:run cxX 94 [a0] hp=cS 45 [r2 a0,kU 16777215] hp fun y1 h1=>cV 76 30 y1 fun y2=>(Hp.rd (Hp.new h1 [kW 0,kU 0,kU 0,kU 0,kU 0]) h1.1 0).bind fun y3=>(qh y3 0 [y2,kU 0,kU 0,kU 0,kU 0]).bind fun y4=>cS 48 [r2 a0] (Hp.put (Hp.new h1 [kW 0,kU 0,kU 0,kU 0,kU 0]) h1.1 0 y4) fun y6 h2=>iC .eql 198 13 y6 (kB 0) (cT 144 [ro (AV.ptr h1.1 0 0),r2 a0] h2 fun h3=>B94_15 a0 (AV.ptr h1.1 0 0) y6 [kW 0,kU 0,kU 0,kU 0,kU 0] h3) (iC .eql 198 13 y6 (kB 1) (cA 102 [r2 a0,kI 32] h2 fun z4 h5=>ln z4 fun y15=>B94_9 a0 (AV.ptr h1.1 0 0) y6 z4 (kI y15) (kI 0) [kW 0,kU 0,kU 0,kU 0,kU 0] h5) (iC .eql 198 13 y6 (kB 2) (cT 145 [ro (AV.ptr h1.1 0 0),r2 a0] h2 fun h6=>B94_15 a0 (AV.ptr h1.1 0 0) y6 [kW 0,kU 0,kU 0,kU 0,kU 0] h6) (cT 95 [r2 a0,kI 5] h2 fun h7=>B94_15 a0 (AV.ptr h1.1 0 0) y6 [kW 0,kU 0,kU 0,kU 0,kU 0] h7))):=eE (by kernel_rfl)
theorem qq7:B94_15 x0 x3 v4 b2 hp=cS 93 [r2 x0] hp fun y23 h1=>iC .eql 57 50 y23 (kI 0) (lpN 5 0 x3 h1 fun y28=>pS 96 [.agg (List.map ro1 y28)] fun y32=>iC .eql 3 54 y32 (kI 0) (B94_16 x0 x3 b2 h1) (lpN 5 0 x3 h1 fun y37=>pS 134 [.agg (List.map ro1 y37)] fun y41=>iT .neq 198 58 59 y41 v4 (B94_16 x0 x3 b2 h1) (B94_17 x0 x3 b2 h1))) (B94_17 x0 x3 b2 h1):=eX (by kernel_rfl)
theorem qho:B94_9 x0 x3 v4 x23 v24 v25 b2 hp=iT .lss 3 25 24 v25 v24 (ju x23 v25 fun y47=>bC .quo 3 30 v25 (kI 8) fun y48=>(qN x3).bind fun y49=>(idx 4 y48).bind fun y50=>(Hp.rd hp y49.1 y49.2.1).bind fun y51=>(qe y51 (Nat.add (Nat.succ y49.2.2) (Nat.add 0 y50))).bind fun y52=>cV 5 76 y47 fun y53=>bC .rem 3 37 v25 (kI 8) fun y54=>bG .mul 3 (.const (kI 8)) (.tmp 38) (kI 8) y54 fun y55=>bT .shl 76 36 39 y53 y55 fun y56=>bT .or 76 34 40 y52 y56 fun y57=>(qN x3).bind fun y58=>(idx 4 y48).bind fun y59=>(Hp.rd hp y58.1 y58.2.1).bind fun y60=>(qh y60 (Nat.add (Nat.succ y58.2.2) (Nat.add 0 y59)) [y57]).bind fun y61=>bC .add 3 25 v25 (kI 1) fun y62=>B94_9 x0 x3 v4 x23 v24 y62 b2 (Hp.put hp y58.1 y58.2.1 y61)) (B94_15 x0 x3 v4 b2 hp):=eX (by kernel_rfl)
theorem qq6:B94_17 x0 x3 b2 hp=cS 93 [r2 x0] hp fun y66 h1=>iC .neq 57 66 y66 (kI 0) ((qh b2 0 [kW 0,kU 0,kU 0,kU 0,kU 0]).bind fun y69=>(ql y69 0 5).bind fun y70=>rQ (.agg y70) h1) ((qN x3).bind fun y71=>(Hp.rd h1 y71.1 y71.2.1).bind fun y72=>(ql y72 y71.2.2 5).bind fun y73=>(qh y72 y71.2.2 (List.map ro1 y73)).bind fun y74=>(qg 5 (.agg y73)).bind fun y75=>(qh b2 0 y75).bind fun y76=>(ql y76 0 5).bind fun y77=>rQ (.agg y77) (Hp.put h1 y71.1 y71.2.1 y74)):=eX (by kernel_rfl)
def B96_3:=gb 96 3 [v3,x7,v8] hp
theorem E96:run cxX 96 [a0] hp=(qg 5 a0).bind fun y0=>(ql (List.map ro1 y0) 1 4).bind fun y1=>B96_3 (kI 0) (.agg (List.map ro1 y1)) (kI 0) hp:=eE (by kernel_rfl)
theorem QB:B96_3 v3 x7 v8 hp=iC .lss 3 8 v8 (kI 4) ((yE x7).bind fun y4=>(ixV Tryz.prog 139 y4 v8).bind fun y5=>pS 146 [y5] fun y9=>bT .add 3 11 13 v3 y9 fun y10=>bC .add 3 8 v8 (kI 1) fun y11=>B96_3 y10 x7 y11 hp) (rQ v3 hp):=eB (by kernel_rfl)
theorem E97:run cxX 97 [a0,a1] hp=aS a1 fun y0=>(qg 5 a0).bind fun y1=>bC .shr 5 5 y0 (kU 6) fun y2=>(idx 4 y2).bind fun y3=>(qe (List.map ro1 y1) (Nat.add 1 (Nat.add 0 y3))).bind fun y4=>bC .and 5 10 y0 (kB 63) fun y5=>bT .shr 76 9 11 y4 y5 fun y6=>bC .and 76 12 y6 (kU 1) fun y7=>bC .eql 76 13 y7 (kU 1) fun y8=>rQ y8 hp:=eE (by kernel_rfl)
def B134_3:=gb 134 3 [] hp
def B134_4:=gb 134 4 [v4] hp
theorem E134:run cxX 134 [a0] hp=(qg 5 a0).bind fun y0=>(ql (List.map ro1 y0) 0 5).bind fun y1=>pS 96 [.agg (List.map ro1 y1)] fun y5=>bC .add 3 6 y5 (kI 1) fun y6=>(ql (List.map ro1 y0) 0 5).bind fun y7=>pS 135 [.agg (List.map ro1 y7)] fun y11=>bG .mul 3 (.const (kI 2)) (.tmp 9) (kI 2) y11 fun y12=>bC .add 3 10 y12 (kI 1) fun y13=>iC .leq 3 13 y6 (kI 32) (iT .leq 3 16 17 y6 y13 (B134_3 hp) (B134_4 y13 hp)) (B134_4 y13 hp):=eE (by kernel_rfl)
theorem qsd:B134_3 hp=rQ (kB 0) hp:=eB (by kernel_rfl)
theorem qsc:B134_4 v4 hp=iG .leq 3 (.const (kI 32)) (.tmp 21) (kI 32) v4 (rQ (kB 1) hp) (rQ (kB 2) hp):=eB (by kernel_rfl)
def B135_4:=gx 135 4 [.lp 1 0 0,v3,v4,v7] [(1,0,b1)] hp
def B135_8:=gx 135 8 [.lp 1 0 0,v3,v6,v7] [(1,0,b1)] hp
def B135_9:=gx 135 9 [.lp 1 0 0,v3,v6,v7] [(1,0,b1)] hp
theorem E135:run cxX 135 [a0] hp=(qg 5 a0).bind fun y0=>B135_4 (kI 0) (.bool false) (kI 0) (List.map ro1 y0) hp:=eE (by kernel_rfl)
theorem qbq:B135_4 v3 v4 v7 b1 hp=iC .lss 3 7 v7 (kI 256) ((ql b1 0 5).bind fun y3=>cV 3 5 v7 fun y4=>pS 97 [.agg (List.map ro1 y3),y4] fun y8=>iB y8 (iN v4 (B135_8 v3 y8 v7 b1 hp) (B135_9 v3 y8 v7 b1 hp)) (B135_9 v3 y8 v7 b1 hp)) (rQ v3 hp):=eX (by kernel_rfl)
theorem qsb:B135_8 v3 v6 v7 b1 hp=bC .add 3 19 v3 (kI 1) fun y12=>B135_9 y12 v6 v7 b1 hp:=eX (by kernel_rfl)
theorem qsa:B135_9 v3 v6 v7 b1 hp=bC .add 3 7 v7 (kI 1) fun y13=>B135_4 v3 v6 y13 b1 hp:=eX (by kernel_rfl)
def B144_2:=gb 144 2 [x0,x1,v4,v9,v10] hp
theorem E144:run cxX 144 [a0,a1] hp=cS 48 [r2 a1] hp fun y1 h1=>cV 5 3 y1 fun y2=>bC .add 3 8 y2 (kI 1) fun y3=>B144_2 a0 a1 (.int .i64 (.negSucc 0)) y3 (kI 0) h1:=eE (by kernel_rfl)
theorem qbj:B144_2 x0 x1 v4 v9 v10 hp=iT .lss 3 10 9 v10 v9 (cS 48 [r2 x1] hp fun y7 h1=>cV 5 3 y7 fun y8=>cS 93 [r2 x1] h1 fun y10 h2=>iC .neq 57 16 y10 (kI 0) (rQ (.tup []) h2) (iT .leq 3 18 19 y8 v4 (cT 95 [r2 x1,kI 8] h2 fun h3=>rQ (.tup []) h3) (cV 3 5 y8 fun y17=>cT 80 [r2 x0,y17] h2 fun h4=>bC .add 3 10 v10 (kI 1) fun y20=>B144_2 x0 x1 y8 v9 y20 h4))) (rQ (.tup []) hp):=eB (by kernel_rfl)
def B145_2:=gb 145 2 [x0,x1,v4,v11,v12] hp
def B145_6:=gb 145 6 [x1] hp
def B145_7:=gb 145 7 [x0,x1,v5,v6,v11,v12] hp
def B145_8:=gb 145 8 [x0,x1,v5,v6,v7,v11,v12] hp
theorem E145:run cxX 145 [a0,a1] hp=cS 48 [r2 a1] hp fun y1 h1=>cV 5 3 y1 fun y2=>bC .add 3 10 y2 (kI 1) fun y3=>B145_2 a0 a1 (.int .i64 (.negSucc 1)) y3 (kI 0) h1:=eE (by kernel_rfl)
theorem qbi:B145_2 x0 x1 v4 v11 v12 hp=iT .lss 3 12 11 v12 v11 (cS 48 [r2 x1] hp fun y7 h1=>cV 5 3 y7 fun y8=>cS 48 [r2 x1] h1 fun y10 h2=>cV 5 3 y10 fun y11=>cS 93 [r2 x1] h2 fun y13 h3=>iC .neq 57 21 y13 (kI 0) (rQ (.tup []) h3) (bC .add 3 24 v4 (kI 1) fun y16=>iT .leq 3 23 25 y8 y16 (B145_6 x1 h3) (bT .add 3 28 29 y8 y11 fun y19=>iC .gtr 3 30 y19 (kI 255) (B145_6 x1 h3) (B145_7 x0 x1 y8 y11 v11 v12 h3)))) (rQ (.tup []) hp):=eB (by kernel_rfl)
theorem qr6:B145_7 x0 x1 v5 v6 v11 v12 hp=B145_8 x0 x1 v5 v6 v5 v11 v12 hp:=eB (by kernel_rfl)
theorem qbh:B145_8 x0 x1 v5 v6 v7 v11 v12 hp=bT .add 3 37 38 v5 v6 fun y24=>iT .leq 3 36 39 v7 y24 (cV 3 5 v7 fun y27=>cT 80 [r2 x0,y27] hp fun h1=>bC .add 3 41 v7 (kI 1) fun y30=>B145_8 x0 x1 v5 v6 y30 v11 v12 h1) (bT .add 3 47 48 v5 v6 fun y31=>bC .add 3 12 v12 (kI 1) fun y32=>B145_2 x0 x1 y31 v11 y32 hp):=eB (by kernel_rfl)
def B109_4:=gb 109 4 [x0,x3,v4,v5] hp
def B109_7:=gb 109 7 [x0,x3,v4,v5,v6,x7] hp
def B109_8:=gb 109 8 [x0,x3,v4,v5,v6,x7] hp
def B109_10:=gb 109 10 [x0,x3,v4,v5,v6,x7] hp
theorem E109:run cxX 109 [a0] hp=B109_4 a0 nl (kI 0) (kI 0) hp:=eE (by kernel_rfl)
theorem qb2:B109_4 x0 x3 v4 v5 hp=ln (ro x0) fun y0=>iT .lss 3 8 10 v5 (kI y0) (ju (ro x0) v5 fun y4=>bC .quo 30 15 y4 (kW 256) fun y5=>B109_7 x0 x3 v4 v5 y5 nl hp) (cV 3 76 v4 fun y6=>pA 110 [y6] fun z1=>(zZ 1 1 z1 (ro x3)).bind fun y11=>rQ y11 hp):=eB (by kernel_rfl)
theorem qb1:B109_7 x0 x3 v4 v5 v6 x7 hp=ln (ro x0) fun y12=>iT .lss 3 17 19 v5 (kI y12) (ju (ro x0) v5 fun y16=>bC .quo 30 25 y16 (kW 256) fun y17=>iT .eql 30 26 27 y17 v6 (B109_8 x0 x3 v4 v5 v6 x7 hp) (B109_10 x0 x3 v4 v5 v6 x7 hp)) (B109_10 x0 x3 v4 v5 v6 x7 hp):=eB (by kernel_rfl)
theorem qs0:B109_8 x0 x3 v4 v5 v6 x7 hp=ju (ro x0) v5 fun y21=>bC .rem 30 34 y21 (kW 256) fun y22=>cV 30 3 y22 fun y23=>ap 8 x7 y23 fun y25=>bC .add 3 39 v5 (kI 1) fun y26=>B109_7 x0 x3 v4 y26 v6 y25 hp:=eB (by kernel_rfl)
theorem ql2:B109_10 x0 x3 v4 v5 v6 x7 hp=pA 156 [v6,ro x7] fun z1=>(zZ 1 1 x3 z1).bind fun y31=>bC .add 3 46 v4 (kI 1) fun y32=>B109_4 x0 y31 y32 v5 hp:=eB (by kernel_rfl)
theorem E115:run cxX 115 [a0] hp=aS a0 fun y0=>iT .neq 50 4 5 y0 y0 (rQ (kU 18444492273895866369) hp) ((one (ZG Tryz.prog 142 [y0])).bind fun y3=>iC .geq 76 9 y3 (kU 9223372036854775808) (bG .sub 76 (.const (kU 18446744073709551615)) (.tmp 11) (kU 18446744073709551615) y3 fun y6=>rQ y6 hp) (bC .add 76 13 y3 (kU 9223372036854775808) fun y7=>rQ y7 hp)):=eE (by kernel_rfl)
def B156_7:=gb 156 7 [x1,x5,x6,v7,x8,x9,v10] hp
def B156_12:=gb 156 12 [x1,x5,x6,v7,x8,x9,v10] hp
def B156_13:=gb 156 13 [x1,x5,x6,v7,x8,x9,v10] hp
def B156_17:=gb 156 17 [x1,x5,x9] hp
def B156_18:=gb 156 18 [x5,x6,v7,x8,v12] hp
def B156_8:=gb 156 8 [x1,x5,x6,v7,x8,x9,v10] hp
theorem E156:run cxX 156 [a0,a1] hp=aS a0 fun y0=>cV 30 76 y0 fun y1=>pA 110 [y1] fun z1=>(yu 1 1 (.ofNat 32) (.ofNat 32)).bind fun y6=>B156_7 a1 z1 nl (kI 0) (AV.ms hp.1 0 0 (tN (.ofNat 32)) 1) nl (kI 0) (Hp.new hp (yU (.ofNat 32) [kB 0])):=eE (by kernel_rfl)
theorem qbe:B156_7 x1 x5 x6 v7 x8 x9 v10 hp=ln (ro x1) fun y7=>iT .lss 3 17 19 v10 (kI y7) (ju (ro x1) v10 fun y11=>cV 3 5 y11 fun y12=>ap 1 x9 y12 fun y14=>ju (ro x1) v10 fun y16=>bC .quo 3 35 y16 (kI 8) fun y17=>ju (ro x1) v10 fun y19=>bC .quo 3 41 y19 (kI 8) fun y20=>(qL (ro x8)).bind fun y21=>(idx y21.2.2.2.1 y20).bind fun y22=>(jl y21.2.2.2.2 1).bind fun y23=>(Hp.rd hp y21.1 y21.2.1).bind fun y24=>(qe y24 (Nat.add y21.2.2.1 (Nat.add 0 y22))).bind fun y25=>ju (ro x1) v10 fun y27=>bC .rem 3 48 y27 (kI 8) fun y28=>bG .shl 5 (.const (kB 1)) (.tmp 49) (kB 1) y28 fun y29=>bT .add 5 44 50 y25 y29 fun y30=>(qL (ro x8)).bind fun y31=>(idx y31.2.2.2.1 y17).bind fun y32=>(jl y31.2.2.2.2 1).bind fun y33=>(Hp.rd hp y31.1 y31.2.1).bind fun y34=>(qh y34 (Nat.add y31.2.2.1 (Nat.add 0 y32)) [y30]).bind fun y35=>iC .gtr 3 53 v10 (kI 0) (ju (ro x1) v10 fun y39=>bC .sub 3 61 v10 (kI 1) fun y40=>ju (ro x1) y40 fun y42=>bC .add 3 64 y42 (kI 1) fun y43=>iT .eql 3 59 65 y39 y43 (B156_12 x1 x5 x6 v7 x8 y14 v10 (Hp.put hp y31.1 y31.2.1 y35)) (B156_13 x1 x5 x6 v7 x8 y14 v10 (Hp.put hp y31.1 y31.2.1 y35))) (B156_13 x1 x5 x6 v7 x8 y14 v10 (Hp.put hp y31.1 y31.2.1 y35))) (ln (ro x1) fun y46=>bG .add 3 (.const (kI 1)) (.tmp 87) (kI 1) (kI y46) fun y47=>bG .mul 3 (.const (kI 2)) (.tmp 89) (kI 2) v7 fun y48=>bG .add 3 (.const (kI 1)) (.tmp 90) (kI 1) y48 fun y49=>iC .leq 3 92 y47 (kI 32) (iT .leq 3 95 96 y47 y49 (B156_17 x1 x5 x9 hp) (B156_18 x5 x6 v7 x8 y49 hp)) (B156_18 x5 x6 v7 x8 y49 hp)):=eB (by kernel_rfl)
theorem qlw:B156_12 x1 x5 x6 v7 x8 x9 v10 hp=ln (ro x6) fun y54=>bC .sub 3 70 (kI y54) (kI 1) fun y55=>(qL (ro x6)).bind fun y56=>(idx y56.2.2.2.1 y55).bind fun y57=>(jl y56.2.2.2.2 1).bind fun y58=>(Hp.rd hp y56.1 y56.2.1).bind fun y59=>(qe y59 (Nat.add y56.2.2.1 (Nat.add 0 y57))).bind fun y60=>bC .add 5 73 y60 (kB 1) fun y61=>(qL (ro x6)).bind fun y62=>(idx y62.2.2.2.1 y55).bind fun y63=>(jl y62.2.2.2.2 1).bind fun y64=>(Hp.rd hp y62.1 y62.2.1).bind fun y65=>(qh y65 (Nat.add y62.2.2.1 (Nat.add 0 y63)) [y61]).bind fun y66=>B156_8 x1 x5 x6 v7 x8 x9 v10 (Hp.put hp y62.1 y62.2.1 y66):=eB (by kernel_rfl)
theorem qlv:B156_13 x1 x5 x6 v7 x8 x9 v10 hp=ju (ro x1) v10 fun y68=>cV 3 5 y68 fun y69=>(xx [y69,kB 0]).bind fun y70=>(jo 1 1 (ro x6) (AV.us 1 [y69,kB 0]) hp).bind fun y71=>bC .add 3 84 v7 (kI 1) fun y72=>B156_8 x1 x5 y71.1 y72 x8 x9 v10 y71.2:=eB (by kernel_rfl)
theorem qlu:B156_17 x1 x5 x9 hp=ln (ro x1) fun y73=>bC .sub 3 101 (kI y73) (kI 1) fun y74=>cV 3 5 y74 fun y75=>(xx [kB 0,y75]).bind fun y76=>(jo 1 1 x5 (AV.us 1 [kB 0,y75]) hp).bind fun y77=>(jo 1 1 y77.1 (ro x9) y77.2).bind fun y78=>(xQ y78.2 y78.1).bind fun y79=>rQ y79.1 y79.2:=eB (by kernel_rfl)
theorem Vk:B156_18 x5 x6 v7 x8 v12 hp=iG .leq 3 (.const (kI 32)) (.tmp 108) (kI 32) v12 ((xx [kB 1]).bind fun y82=>(jo 1 1 x5 (AV.us 1 [kB 1]) hp).bind fun y83=>(jo 1 1 y83.1 (ro x8) y83.2).bind fun y84=>(xQ y84.2 y84.1).bind fun y85=>rQ y85.1 y85.2) (bC .sub 3 116 v7 (kI 1) fun y86=>cV 3 5 y86 fun y87=>(xx [kB 2,y87]).bind fun y88=>(jo 1 1 x5 (AV.us 1 [kB 2,y87]) hp).bind fun y89=>(jo 1 1 y89.1 (ro x6) y89.2).bind fun y90=>(xQ y90.2 y90.1).bind fun y91=>rQ y91.1 y91.2):=eB (by kernel_rfl)
theorem qr1:B156_8 x1 x5 x6 v7 x8 x9 v10 hp=bC .add 3 21 v10 (kI 1) fun y92=>B156_7 x1 x5 x6 v7 x8 x9 y92 hp:=eB (by kernel_rfl)
def B11_2:=gb 11 2 [x0,v1,v6,x9,v10,v11] hp
def B11_6:=gb 11 6 [x0,v1,v6,v8,x9,v10,v11] hp
theorem E11:run cxX 11 [a0,a1,a2] hp=aS a1 fun y0=>ln (ro a2) fun y1=>B11_2 a0 y0 (kI 0) (ro a2) (kI y1) (kI 0) hp:=eE (by kernel_rfl)
theorem qip:B11_2 x0 v1 v6 x9 v10 v11 hp=iT .lss 3 11 10 v11 v10 (ju x9 v11 fun y5=>(vc Tryz.prog Go.Builtin.max (Array.mk [3,3]) 3 [v1,kI 1]).bind fun y6=>bT .rem 3 16 18 v11 y6 fun y7=>iC .eql 3 19 y7 (kI 0) (B11_6 x0 v1 (kI 0) y5 x9 v10 v11 hp) (B11_6 x0 v1 v6 y5 x9 v10 v11 hp)) (rQ (.tup []) hp):=eB (by kernel_rfl)
theorem qyy:B11_6 x0 v1 v6 v8 x9 v10 v11 hp=cV 30 2 v8 fun y10=>bT .sub 2 23 24 y10 v6 fun y11=>cT 12 [r2 x0,y11] hp fun h1=>cV 30 2 v8 fun y14=>bC .add 3 11 v11 (kI 1) fun y15=>B11_2 x0 v1 y14 x9 v10 y15 h1:=eB (by kernel_rfl)
def B16_28:=gb 16 28 [x5] hp
theorem E16:run cxX 16 [a0] hp=(qg 23 a0).bind fun y0=>(ql (List.map ro1 y0) 0 23).bind fun y1=>pS 23 [.agg (List.map ro1 y1)] fun y5=>iC .neq 57 16 y5 (kI 0) (rQ (.tup [nl,y5]) hp) ((qe (List.map ro1 y0) 0).bind fun y8=>iC .eql 39 22 y8 (kB 0) ((qj (List.map ro1 y0) 1).bind fun y11=>pT 2 32 [ro1 y11] fun z1=>nS z1 1 fun y16=>cT 33 [ro (r2 (yG z1 0)),r2 (AV.ptr hp.1 0 0)] (Hp.new hp [nl]) fun h2=>B16_28 (AV.ptr hp.1 0 0) h2) (iC .eql 39 22 y8 (kB 1) ((qe (List.map ro1 y0) 2).bind fun y21=>cV 3 76 y21 fun y22=>cT 25 [r2 (AV.ptr hp.1 0 0),y22] (Hp.new hp [nl]) fun h3=>(qj (List.map ro1 y0) 3).bind fun y25=>pT 2 34 [ro1 y25] fun z4=>nS z4 1 fun y30=>cT 35 [r2 (AV.ptr hp.1 0 0),ro (r2 (yG z4 0))] h3 fun h5=>B16_28 (AV.ptr hp.1 0 0) h5) (iC .eql 39 22 y8 (kB 2) ((qe (List.map ro1 y0) 4).bind fun y35=>cV 3 5 y35 fun y36=>cT 36 [r2 (AV.ptr hp.1 0 0),y36] (Hp.new hp [nl]) fun h6=>(qj (List.map ro1 y0) 5).bind fun y39=>pT 2 37 [kI 64,ro1 y39] fun z7=>nS z7 1 fun y44=>cT 35 [r2 (AV.ptr hp.1 0 0),ro (r2 (yG z7 0))] h6 fun h8=>B16_28 (AV.ptr hp.1 0 0) h8) (iC .eql 39 22 y8 (kB 3) ((qe (List.map ro1 y0) 6).bind fun y49=>cV 3 76 y49 fun y50=>cT 25 [r2 (AV.ptr hp.1 0 0),y50] (Hp.new hp [nl]) fun h9=>(qe (List.map ro1 y0) 7).bind fun y53=>cV 3 5 y53 fun y54=>cT 36 [r2 (AV.ptr hp.1 0 0),y54] h9 fun h10=>(qj (List.map ro1 y0) 8).bind fun y57=>pT 2 38 [ro1 y57] fun z11=>nS z11 1 fun y62=>(qg 5 (ro (yG z11 0))).bind fun y63=>(qh [kI 0,kW 0,kI 0,nl,nl] 0 y63).bind fun y64=>(ql y64 0 5).bind fun y65=>cT 39 [ro (.agg (List.map ro1 y65)),r2 (AV.ptr hp.1 0 0)] h10 fun h12=>B16_28 (AV.ptr hp.1 0 0) h12) (iC .eql 39 22 y8 (kB 4) ((qe (List.map ro1 y0) 9).bind fun y70=>cV 3 5 y70 fun y71=>cT 36 [r2 (AV.ptr hp.1 0 0),y71] (Hp.new hp [nl]) fun h13=>(qe (List.map ro1 y0) 10).bind fun y74=>cV 3 76 y74 fun y75=>cT 25 [r2 (AV.ptr hp.1 0 0),y75] h13 fun h14=>(qe (List.map ro1 y0) 10).bind fun y78=>(qj (List.map ro1 y0) 11).bind fun y79=>cT 11 [r2 (AV.ptr hp.1 0 0),y78,ro (ro1 y79)] h14 fun h15=>B16_28 (AV.ptr hp.1 0 0) h15) (iC .eql 39 22 y8 (kB 5) ((ql (List.map ro1 y0) 12 11).bind fun y84=>cT 40 [r2 (AV.ptr hp.1 0 0),ro (.agg (List.map ro1 y84))] (Hp.new hp [nl]) fun h16=>B16_28 (AV.ptr hp.1 0 0) h16) (B16_28 (AV.ptr hp.1 0 0) (Hp.new hp [nl])))))))):=eE (by kernel_rfl)
theorem qaz:B16_28 x5 hp=cA 13 [r2 x5] hp fun z1 h2=>rQ (.tup [z1,kI 0]) h2:=eB (by kernel_rfl)
def B17_24:=gx 17 24 [.lp 6 0 0,x9,.lp 10 0 0] [(6,0,b6),(10,0,b10)] hp
theorem E17:run cxX 17 [a0,a1,a2] hp=aS a0 fun y0=>iC .geq 39 13 y0 (kB 6) (rQ (.tup [.agg ZU,kI 5]) hp) (ln (ro a1) fun y3=>iC .gtr 3 17 (kI y3) (kI 1048576) (rQ (.tup [.agg ZU,kI 6]) hp) (ln (ro a1) fun y6=>pS 21 [kI y6] fun y10=>cS 41 [r2 a2,y10] hp fun y12 h1=>iC .neq 57 25 y12 (kI 0) (rQ (.tup [.agg ZU,y12]) h1) (cA 42 [r2 a1] h1 fun z2 h3=>iC .eql 39 33 y0 (kB 0) (cA 43 [r2 z2] h3 fun z4 h5=>pA 44 [z4] fun z6=>(qg 1 z6).bind fun y25=>(qh [y0,nl,kI 0,nl,kI 0,nl,kI 0,kI 0,nl,kI 0,kI 0,nl,kI 0,kW 0,kW 0,kW 0,kW 0,kW 0,kW 0,kW 0,Value.float Go.FloatKind.f64 0,Value.float Go.FloatKind.f64 0,nl] 1 y25).bind fun y26=>B17_24 z2 ZU y26 h5) (iC .eql 39 33 y0 (kB 1) (cS 45 [r2 z2,kU 1024] h3 fun y30 h7=>cV 76 3 y30 fun y31=>cA 46 [r2 z2] h7 fun z8 h9=>(qg 1 z8).bind fun y34=>(qh [y31,nl] 1 y34).bind fun y35=>(qg 2 (.agg (List.map ro1 y35))).bind fun y36=>(qh [y0,nl,kI 0,nl,kI 0,nl,kI 0,kI 0,nl,kI 0,kI 0,nl,kI 0,kW 0,kW 0,kW 0,kW 0,kW 0,kW 0,kW 0,Value.float Go.FloatKind.f64 0,Value.float Go.FloatKind.f64 0,nl] 2 y36).bind fun y37=>B17_24 z2 ZU y37 h9) (iC .eql 39 33 y0 (kB 2) (cA 47 [r2 z2] h3 fun z10 h11=>(qg 2 z10).bind fun y42=>(qh [y0,nl,kI 0,nl,kI 0,nl,kI 0,kI 0,nl,kI 0,kI 0,nl,kI 0,kW 0,kW 0,kW 0,kW 0,kW 0,kW 0,kW 0,Value.float Go.FloatKind.f64 0,Value.float Go.FloatKind.f64 0,nl] 4 y42).bind fun y43=>B17_24 z2 ZU y43 h11) (iC .eql 39 33 y0 (kB 3) (cS 45 [r2 z2,kU 4096] h3 fun y47 h12=>cV 76 3 y47 fun y48=>cS 48 [r2 z2] h12 fun y50 h13=>cV 5 3 y50 fun y51=>cA 49 [r2 z2] h13 fun z14 h15=>pA 50 [z14] fun z16=>(qg 1 z16).bind fun y58=>(qh [y0,nl,kI 0,nl,kI 0,nl,y48,y51,nl,kI 0,kI 0,nl,kI 0,kW 0,kW 0,kW 0,kW 0,kW 0,kW 0,kW 0,Value.float Go.FloatKind.f64 0,Value.float Go.FloatKind.f64 0,nl] 8 y58).bind fun y59=>B17_24 z2 ZU y59 h15) (iC .eql 39 33 y0 (kB 4) (cA 51 [r2 z2] h3 fun z17 h18=>(qg 3 z17).bind fun y64=>(qh [y0,nl,kI 0,nl,kI 0,nl,kI 0,kI 0,nl,kI 0,kI 0,nl,kI 0,kW 0,kW 0,kW 0,kW 0,kW 0,kW 0,kW 0,Value.float Go.FloatKind.f64 0,Value.float Go.FloatKind.f64 0,nl] 9 y64).bind fun y65=>B17_24 z2 ZU y65 h18) (iC .eql 39 33 y0 (kB 5) (cA 52 [r2 z2] h3 fun z19 h20=>(qg 11 z19).bind fun y70=>(qh [y0,nl,kI 0,nl,kI 0,nl,kI 0,kI 0,nl,kI 0,kI 0,nl,kI 0,kW 0,kW 0,kW 0,kW 0,kW 0,kW 0,kW 0,Value.float Go.FloatKind.f64 0,Value.float Go.FloatKind.f64 0,nl] 12 y70).bind fun y71=>B17_24 z2 ZU y71 h20) (B17_24 z2 ZU [y0,nl,kI 0,nl,kI 0,nl,kI 0,kI 0,nl,kI 0,kI 0,nl,kI 0,kW 0,kW 0,kW 0,kW 0,kW 0,kW 0,kW 0,Value.float Go.FloatKind.f64 0,Value.float Go.FloatKind.f64 0,nl] h3))))))))):=eE (by kernel_rfl)
theorem qaw:B17_24 x9 b6 b10 hp=cS 53 [r2 x9] hp fun y73 h1=>iC .neq 57 81 y73 (kI 0) ((qh b6 0 ZU).bind fun y76=>(ql y76 0 23).bind fun y77=>rQ (.tup [.agg y77,y73]) h1) ((ql b10 0 23).bind fun y78=>pS 23 [.agg (List.map ro1 y78)] fun y82=>iC .neq 57 87 y82 (kI 0) ((qh b6 0 ZU).bind fun y85=>(ql y85 0 23).bind fun y86=>rQ (.tup [.agg y86,y82]) h1) ((ql b10 0 23).bind fun y87=>(qh b10 0 (List.map ro1 y87)).bind fun y88=>(qg 23 (.agg y87)).bind fun y89=>(qh b6 0 y89).bind fun y90=>(ql y90 0 23).bind fun y91=>rQ (.tup [.agg y91,kI 0]) h1)):=eX (by kernel_rfl)
theorem E21:run cxX 21 [a0] hp=aS a0 fun y0=>(vc Tryz.prog Go.Builtin.max (Array.mk [3,3]) 3 [y0,kI 0]).bind fun y1=>(vc Tryz.prog Go.Builtin.min (Array.mk [3,3]) 3 [y1,kI 1048576]).bind fun y2=>bG .mul 3 (.const (kI 64)) (.tmp 5) (kI 64) y2 fun y3=>bC .add 3 6 y3 (kI 16384) fun y4=>rQ y4 hp:=eE (by kernel_rfl)
def B40_5:=gx 40 5 [x0,.lp 3 0 0,x4,x23,v24] [(3,0,b3)] hp
def B40_14:=gb 40 14 [x0,v7,x49,v50,v51] hp
theorem E40:run cxX 40 [a0,a1] hp=(qg 11 a1).bind fun y0=>(qnd [ro a0]).bind fun y1=>(qe (List.map ro1 y0) 0).bind fun y2=>cV 3 5 y2 fun y3=>cT 36 [r2 a0,y3] hp fun h1=>(qe (List.map ro1 y0) 1).bind fun y6=>cV 30 76 y6 fun y7=>(wU (ro (AV.fn 4294967321 [ro1 (ro a0)]))).bind fun y8=>cT y8.1 (List.append y8.2 [y7]) h1 fun h2=>(ql (List.map ro1 y0) 2 6).bind fun y11=>B40_5 a0 (AV.fn 4294967321 [ro1 (ro a0)]) (.agg (List.map ro1 y11)) (kI 0) (List.map ro1 y0) h2:=eE (by kernel_rfl)
theorem va:B40_5 x0 x4 x23 v24 b3 hp=iC .lss 3 24 v24 (kI 6) ((yE x23).bind fun y14=>(ixV Tryz.prog 49 y14 v24).bind fun y15=>cV 30 76 y15 fun y16=>(wU (ro x4)).bind fun y17=>cT y17.1 (List.append y17.2 [y16]) hp fun h1=>bC .add 3 24 v24 (kI 1) fun y20=>B40_5 x0 x4 x23 y20 b3 h1) ((qe b3 8).bind fun y21=>pS 92 [y21] fun y25=>(wU (ro x4)).bind fun y26=>cT y26.1 (List.append y26.2 [y25]) hp fun h2=>(qe b3 9).bind fun y29=>pS 92 [y29] fun y33=>(wU (ro x4)).bind fun y34=>cT y34.1 (List.append y34.2 [y33]) h2 fun h3=>(qj b3 10).bind fun y37=>ln (ro1 y37) fun y38=>cV 3 5 (kI y38) fun y39=>cT 36 [r2 x0,y39] h3 fun h4=>(qj b3 10).bind fun y42=>ln (ro1 y42) fun y43=>B40_14 x0 (kU 0) (ro1 y42) (kI y43) (kI 0) h4):=eX (by kernel_rfl)
theorem qaq:B40_14 x0 v7 x49 v50 v51 hp=iT .lss 3 51 50 v51 v50 (ju x49 v51 fun y47=>pS 92 [y47] fun y51=>bT .sub 76 57 58 y51 v7 fun y52=>cT 25 [r2 x0,y52] hp fun h1=>pS 92 [y47] fun y58=>bC .add 3 51 v51 (kI 1) fun y59=>B40_14 x0 y58 x49 v50 y59 h1) (rQ (.tup []) hp):=eB (by kernel_rfl)
def B47_8:=gx 47 8 [.lp 2 0 0,.lp 3 0 0,x5] [(2,0,b2),(3,0,b3)] hp
theorem E47:run cxX 47 [a0] hp=cS 48 [r2 a0] hp fun y1 h1=>cV 5 3 y1 fun y2=>pT 2 74 [y2] fun z2=>nS z2 1 fun y7=>(qg 2 (ro (yG z2 0))).bind fun y8=>(qh [kI 0,nl] 0 y8).bind fun y9=>iN y7 (cT 95 [r2 a0,kI 2] h1 fun h3=>(ql y9 0 2).bind fun y14=>(qh y9 0 (List.map ro1 y14)).bind fun y15=>(qg 2 (.agg y14)).bind fun y16=>(qh [kI 0,nl] 0 y16).bind fun y17=>(ql y17 0 2).bind fun y18=>rQ (.agg y18) h3) ((qj y9 1).bind fun y19=>ln (ro1 y19) fun y20=>cS 103 [r2 a0] h1 fun y22 h4=>cA 102 [r2 a0,y22] h4 fun z5 h6=>pT 2 101 [kI 64,kI y20,z5] fun z7=>nS z7 1 fun y29=>iC .neq 57 30 y29 (kI 0) (cT 95 [r2 a0,y29] h6 fun h8=>B47_8 (r2 (yG z7 0)) [kI 0,nl] y9 h8) (B47_8 (r2 (yG z7 0)) [kI 0,nl] y9 h6)):=eE (by kernel_rfl)
theorem qyp:B47_8 x5 b2 b3 hp=(qg 1 (ro x5)).bind fun y34=>(qh b3 1 y34).bind fun y35=>(ql y35 0 2).bind fun y36=>(qh y35 0 (List.map ro1 y36)).bind fun y37=>(qg 2 (.agg y36)).bind fun y38=>(qh b2 0 y38).bind fun y39=>(ql y39 0 2).bind fun y40=>rQ (.agg y40) hp:=eX (by kernel_rfl)
def B51_7:=gx 51 7 [x0,.lp 2 0 0,.lp 3 0 0,v5,v26,v27] [(2,0,b2),(3,0,b3)] hp
def B51_11:=gx 51 11 [x0,.lp 2 0 0,.lp 3 0 0,v5,v6,v26,v27] [(2,0,b2),(3,0,b3)] hp
def B51_19:=gx 51 19 [.lp 2 0 0,.lp 3 0 0] [(2,0,b2),(3,0,b3)] hp
def B51_14:=gx 51 14 [x0,.lp 2 0 0,.lp 3 0 0,v5,v6,v26,v27] [(2,0,b2),(3,0,b3)] hp
def B51_15:=gx 51 15 [x0,.lp 2 0 0,.lp 3 0 0,v6,v8,v26,v27] [(2,0,b2),(3,0,b3)] hp
def B51_16:=gx 51 16 [x0,.lp 2 0 0,.lp 3 0 0,v5,v6,v26,v27] [(2,0,b2),(3,0,b3)] hp
theorem E51:run cxX 51 [a0] hp=cS 48 [r2 a0] hp fun y1 h1=>cV 5 3 y1 fun y2=>cS 45 [r2 a0,kU 256] h1 fun y4 h2=>cV 76 3 y4 fun y5=>cN 2 76 [y2,y5] h2 fun z3 h4=>nS z3 1 fun y8=>(qg 3 (ro (yG z3 0))).bind fun y9=>(qh [kI 0,kI 0,nl] 0 y9).bind fun y10=>iN y8 (cT 95 [r2 a0,kI 2] h4 fun h5=>(ql y10 0 3).bind fun y15=>(Jz h5 (List.map ro1 y15)).bind fun y16=>(qg 3 (.agg y16.1)).bind fun y17=>(qh [kI 0,kI 0,nl] 0 y17).bind fun y18=>(ql y18 0 3).bind fun y19=>rQ (.agg y19) y16.2) ((qj y10 2).bind fun y20=>ln (ro1 y20) fun y21=>B51_7 a0 (kI 0) (kI y21) (kI 0) [kI 0,kI 0,nl] y10 h4):=eE (by kernel_rfl)
theorem qid:B51_7 x0 v5 v26 v27 b2 b3 hp=iT .lss 3 27 26 v27 v26 ((qe b3 1).bind fun y24=>bT .rem 3 30 32 v27 y24 fun y25=>iC .eql 3 33 y25 (kI 0) (B51_11 x0 (kI 0) v27 v26 v27 b2 b3 hp) (B51_11 x0 v5 v27 v26 v27 b2 b3 hp)) (B51_19 b2 b3 hp):=eX (by kernel_rfl)
theorem qrh:B51_11 x0 v5 v6 v26 v27 b2 b3 hp=cS 107 [r2 x0] hp fun y29 h1=>bT .add 2 37 38 v5 y29 fun y30=>iC .lss 2 40 y30 (kI 0) (B51_14 x0 v5 v6 v26 v27 b2 b3 h1) (iC .gtr 2 43 y30 (kI 4294967295) (B51_14 x0 v5 v6 v26 v27 b2 b3 h1) (iC .lss 2 47 y29 (.int .i64 (.negSucc 4294967295)) (B51_14 x0 v5 v6 v26 v27 b2 b3 h1) (iC .gtr 2 51 y29 (kI 4294967296) (B51_14 x0 v5 v6 v26 v27 b2 b3 h1) (B51_15 x0 v6 y30 v26 v27 b2 b3 h1)))):=eX (by kernel_rfl)
theorem qre:B51_19 b2 b3 hp=(ql b3 0 3).bind fun y39=>(Jz hp (List.map ro1 y39)).bind fun y40=>(qg 3 (.agg y40.1)).bind fun y41=>(qh b2 0 y41).bind fun y42=>(ql y42 0 3).bind fun y43=>rQ (.agg y43) y40.2:=eX (by kernel_rfl)
theorem qrg:B51_15 x0 v6 v8 v26 v27 b2 b3 hp=B51_16 x0 v8 v6 v26 v27 b2 b3 hp:=eX (by kernel_rfl)
theorem qrf:B51_16 x0 v5 v6 v26 v27 b2 b3 hp=cS 93 [r2 x0] hp fun y47 h1=>iC .neq 57 58 y47 (kI 0) (B51_19 b2 b3 h1) ((qj b3 2).bind fun y50=>cV 2 30 v5 fun y51=>(qL (ro1 y50)).bind fun y52=>(idx y52.2.2.2.1 v6).bind fun y53=>(jl y52.2.2.2.2 1).bind fun y54=>(Hp.rd h1 y52.1 y52.2.1).bind fun y55=>(qh y55 (Nat.add y52.2.2.1 (Nat.add 0 y53)) [y51]).bind fun y56=>bC .add 3 27 v27 (kI 1) fun y57=>B51_7 x0 v5 v26 y57 b2 b3 (Hp.put h1 y52.1 y52.2.1 y56)):=eX (by kernel_rfl)
def B52_3:=gx 52 3 [x0,.lp 2 0 0,.lp 3 0 0,v14] [(2,0,b2),(3,0,b3)] hp
def B52_11:=gx 52 11 [x0,.lp 2 0 0,.lp 3 0 0,v5,v37,v38] [(2,0,b2),(3,0,b3)] hp
def B52_15:=gx 52 15 [x0,.lp 2 0 0,.lp 3 0 0,v5,v6,v37,v38] [(2,0,b2),(3,0,b3)] hp
theorem E52:run cxX 52 [a0] hp=cS 48 [r2 a0] hp fun y1 h1=>cV 5 3 y1 fun y2=>cS 45 [r2 a0,kU 4294967295] h1 fun y4 h2=>cV 76 30 y4 fun y5=>B52_3 a0 (kI 0) zL1 [y2,y5,kW 0,kW 0,kW 0,kW 0,kW 0,kW 0,Value.float Go.FloatKind.f64 0,Value.float Go.FloatKind.f64 0,nl] h2:=eE (by kernel_rfl)
theorem kZ:B52_3 x0 v14 b2 b3 hp=iC .lss 3 14 v14 (kI 6) (cS 45 [r2 x0,kU 4294967295] hp fun y9 h1=>cV 76 30 y9 fun y10=>(idx 6 v14).bind fun y11=>(qh b3 (Nat.add 2 (Nat.add 0 y11)) [y10]).bind fun y12=>bC .add 3 14 v14 (kI 1) fun y13=>B52_3 x0 y13 b2 y12 h1) (cS 45 [r2 x0,kU 18446744073709551615] hp fun y15 h2=>cS 108 [r2 x0,y15] h2 fun y17 h3=>(qh b3 8 [y17]).bind fun y18=>cS 45 [r2 x0,kU 18446744073709551615] h3 fun y20 h4=>cS 108 [r2 x0,y20] h4 fun y22 h5=>(qh y18 9 [y22]).bind fun y23=>cS 48 [r2 x0] h5 fun y25 h6=>cV 5 3 y25 fun y26=>(vc Tryz.prog Go.Builtin.min (Array.mk [3,3]) 3 [y26,kI 17]).bind fun y27=>B52_11 x0 (kU 0) y27 (kI 0) b2 y23 h6):=eX (by kernel_rfl)
theorem qan:B52_11 x0 v5 v37 v38 b2 b3 hp=iT .lss 3 38 37 v38 v37 (cS 45 [r2 x0,kU 18446744073709551615] hp fun y31 h1=>bT .add 76 42 43 v5 y31 fun y32=>iT .lss 76 44 45 y32 v5 (cT 95 [r2 x0,kI 2] h1 fun h2=>B52_15 x0 v5 y31 v37 v38 b2 b3 h2) (B52_15 x0 v5 y31 v37 v38 b2 b3 h1)) ((ql b3 0 11).bind fun y37=>(qh b3 0 (List.map ro1 y37)).bind fun y38=>(qg 11 (.agg y37)).bind fun y39=>(qh b2 0 y39).bind fun y40=>(ql y40 0 11).bind fun y41=>rQ (.agg y41) hp):=eX (by kernel_rfl)
theorem qrd:B52_15 x0 v5 v6 v37 v38 b2 b3 hp=bT .add 76 49 50 v5 v6 fun y42=>(qj b3 10).bind fun y43=>cS 108 [r2 x0,y42] hp fun y45 h1=>ap 8 y43 y45 fun y47=>(qg 1 y47).bind fun y48=>(qh (List.set b3 10 (ro1 y43)) 10 y48).bind fun y49=>bC .add 3 38 v38 (kI 1) fun y50=>B52_11 x0 y42 v37 y50 b2 y49 h1:=eX (by kernel_rfl)
def B108_4:=gb 108 4 [v5] hp
theorem E108:run cxX 108 [a0,a1] hp=aS a1 fun y0=>pT 2 155 [y0] fun z1=>nS z1 0 fun y5=>nS z1 1 fun y6=>iN y6 (cT 95 [r2 a0,kI 4] hp fun h2=>B108_4 y5 h2) (B108_4 y5 hp):=eE (by kernel_rfl)
theorem qs1:B108_4 v5 hp=rQ v5 hp:=eB (by kernel_rfl)
theorem E19:run cxX 19 [a0,a1] hp=(qg 23 a0).bind fun y0=>(qg 23 a1).bind fun y1=>(ql (List.map ro1 y0) 0 23).bind fun y2=>(ql (List.map ro1 y1) 0 23).bind fun y3=>pS 60 [.agg (List.map ro1 y2),.agg (List.map ro1 y3)] fun y7=>rQ y7 hp:=eE (by kernel_rfl)
theorem E23:run cxX 23 [a0] hp=(qg 23 a0).bind fun y0=>(qe (List.map ro1 y0) 0).bind fun y1=>iC .geq 39 4 y1 (kB 6) (rQ (kI 5) hp) ((ql (List.map ro1 y0) 0 23).bind fun y4=>(ql (List.map ro1 y0) 0 23).bind fun y5=>pA 61 [.agg (List.map ro1 y5)] fun z1=>pS 60 [.agg (List.map ro1 y4),z1] fun y13=>iN y13 (rQ (kI 4) hp) ((qe (List.map ro1 y0) 0).bind fun y16=>iC .eql 39 12 y16 (kB 0) ((qj (List.map ro1 y0) 1).bind fun y19=>pS 62 [ro1 y19] fun y23=>rQ y23 hp) (iC .eql 39 12 y16 (kB 1) ((ql (List.map ro1 y0) 2 2).bind fun y26=>pS 63 [.agg (List.map ro1 y26)] fun y30=>rQ y30 hp) (iC .eql 39 12 y16 (kB 2) ((ql (List.map ro1 y0) 4 2).bind fun y33=>pS 64 [.agg (List.map ro1 y33)] fun y37=>rQ y37 hp) (iC .eql 39 12 y16 (kB 3) ((ql (List.map ro1 y0) 6 3).bind fun y40=>pS 65 [.agg (List.map ro1 y40)] fun y44=>rQ y44 hp) (iC .eql 39 12 y16 (kB 4) ((ql (List.map ro1 y0) 9 3).bind fun y47=>cS 66 [ro (.agg (List.map ro1 y47))] hp fun y49 h2=>rQ y49 h2) ((ql (List.map ro1 y0) 12 11).bind fun y50=>pS 67 [.agg (List.map ro1 y50)] fun y54=>rQ y54 hp))))))):=eE (by kernel_rfl)
theorem E60:run cxX 60 [a0,a1] hp=(qg 23 a0).bind fun y0=>(qg 23 a1).bind fun y1=>(qe (List.map ro1 y0) 0).bind fun y2=>(qe (List.map ro1 y1) 0).bind fun y3=>iT .eql 39 6 8 y2 y3 ((qj (List.map ro1 y0) 1).bind fun y6=>(qj (List.map ro1 y1) 1).bind fun y7=>pS 116 [ro1 y6,ro1 y7] fun y11=>iB y11 ((ql (List.map ro1 y0) 2 2).bind fun y13=>(ql (List.map ro1 y1) 2 2).bind fun y14=>pS 117 [.agg (List.map ro1 y13),.agg (List.map ro1 y14)] fun y18=>iB y18 ((ql (List.map ro1 y0) 4 2).bind fun y20=>(ql (List.map ro1 y1) 4 2).bind fun y21=>pS 118 [.agg (List.map ro1 y20),.agg (List.map ro1 y21)] fun y25=>iB y25 ((ql (List.map ro1 y0) 6 3).bind fun y27=>(ql (List.map ro1 y1) 6 3).bind fun y28=>pS 119 [.agg (List.map ro1 y27),.agg (List.map ro1 y28)] fun y32=>iB y32 ((ql (List.map ro1 y0) 9 3).bind fun y34=>(ql (List.map ro1 y1) 9 3).bind fun y35=>pS 120 [.agg (List.map ro1 y34),.agg (List.map ro1 y35)] fun y39=>iB y39 ((ql (List.map ro1 y0) 12 11).bind fun y41=>(ql (List.map ro1 y1) 12 11).bind fun y42=>pS 121 [.agg (List.map ro1 y41),.agg (List.map ro1 y42)] fun y46=>rQ y46 hp) (rQ (.sc (.bool false)) hp)) (rQ (.sc (.bool false)) hp)) (rQ (.sc (.bool false)) hp)) (rQ (.sc (.bool false)) hp)) (rQ (.sc (.bool false)) hp)) (rQ (.sc (.bool false)) hp):=eE (by kernel_rfl)
def B61_15:=gx 61 15 [.lp 2 0 0,.lp 3 0 0] [(2,0,b2),(3,0,b3)] hp
theorem E61:run cxX 61 [a0] hp=(qg 23 a0).bind fun y0=>(qe (List.map ro1 y0) 0).bind fun y1=>(qe (List.map ro1 y0) 0).bind fun y2=>iC .eql 39 8 y2 (kB 0) ((qj (List.map ro1 y0) 1).bind fun y5=>(qg 1 (ro1 y5)).bind fun y6=>(qh [y1,nl,kI 0,nl,kI 0,nl,kI 0,kI 0,nl,kI 0,kI 0,nl,kI 0,kW 0,kW 0,kW 0,kW 0,kW 0,kW 0,kW 0,Value.float Go.FloatKind.f64 0,Value.float Go.FloatKind.f64 0,nl] 1 y6).bind fun y7=>B61_15 ZU y7 hp) (iC .eql 39 8 y2 (kB 1) ((ql (List.map ro1 y0) 2 2).bind fun y10=>(qg 2 (.agg (List.map ro1 y10))).bind fun y11=>(qh [y1,nl,kI 0,nl,kI 0,nl,kI 0,kI 0,nl,kI 0,kI 0,nl,kI 0,kW 0,kW 0,kW 0,kW 0,kW 0,kW 0,kW 0,Value.float Go.FloatKind.f64 0,Value.float Go.FloatKind.f64 0,nl] 2 y11).bind fun y12=>B61_15 ZU y12 hp) (iC .eql 39 8 y2 (kB 2) ((ql (List.map ro1 y0) 4 2).bind fun y15=>(qg 2 (.agg (List.map ro1 y15))).bind fun y16=>(qh [y1,nl,kI 0,nl,kI 0,nl,kI 0,kI 0,nl,kI 0,kI 0,nl,kI 0,kW 0,kW 0,kW 0,kW 0,kW 0,kW 0,kW 0,Value.float Go.FloatKind.f64 0,Value.float Go.FloatKind.f64 0,nl] 4 y16).bind fun y17=>B61_15 ZU y17 hp) (iC .eql 39 8 y2 (kB 3) ((ql (List.map ro1 y0) 6 3).bind fun y20=>(qg 3 (.agg (List.map ro1 y20))).bind fun y21=>(qh [y1,nl,kI 0,nl,kI 0,nl,kI 0,kI 0,nl,kI 0,kI 0,nl,kI 0,kW 0,kW 0,kW 0,kW 0,kW 0,kW 0,kW 0,Value.float Go.FloatKind.f64 0,Value.float Go.FloatKind.f64 0,nl] 6 y21).bind fun y22=>B61_15 ZU y22 hp) (iC .eql 39 8 y2 (kB 4) ((ql (List.map ro1 y0) 9 3).bind fun y25=>(qg 3 (.agg (List.map ro1 y25))).bind fun y26=>(qh [y1,nl,kI 0,nl,kI 0,nl,kI 0,kI 0,nl,kI 0,kI 0,nl,kI 0,kW 0,kW 0,kW 0,kW 0,kW 0,kW 0,kW 0,Value.float Go.FloatKind.f64 0,Value.float Go.FloatKind.f64 0,nl] 9 y26).bind fun y27=>B61_15 ZU y27 hp) (iC .eql 39 8 y2 (kB 5) ((ql (List.map ro1 y0) 12 11).bind fun y30=>(qg 11 (.agg (List.map ro1 y30))).bind fun y31=>(qh [y1,nl,kI 0,nl,kI 0,nl,kI 0,kI 0,nl,kI 0,kI 0,nl,kI 0,kW 0,kW 0,kW 0,kW 0,kW 0,kW 0,kW 0,Value.float Go.FloatKind.f64 0,Value.float Go.FloatKind.f64 0,nl] 12 y31).bind fun y32=>B61_15 ZU y32 hp) (B61_15 ZU [y1,nl,kI 0,nl,kI 0,nl,kI 0,kI 0,nl,kI 0,kI 0,nl,kI 0,kW 0,kW 0,kW 0,kW 0,kW 0,kW 0,kW 0,Value.float Go.FloatKind.f64 0,Value.float Go.FloatKind.f64 0,nl] hp)))))):=eE (by kernel_rfl)
theorem xd:B61_15 b2 b3 hp=(ql b3 0 23).bind fun y33=>(qh b3 0 (List.map ro1 y33)).bind fun y34=>(qg 23 (.agg y33)).bind fun y35=>(qh b2 0 y35).bind fun y36=>(ql y36 0 23).bind fun y37=>rQ (.agg y37) hp:=eX (by kernel_rfl)
def B62_4:=gb 62 4 [x0,v3] hp
theorem E62:run cxX 62 [a0] hp=ln (ro a0) fun y0=>iC .gtr 3 5 (kI y0) (kI 4096) (rQ (kI 7) hp) (B62_4 a0 (kI 1) hp):=eE (by kernel_rfl)
theorem Vd:B62_4 x0 v3 hp=ln (ro x0) fun y3=>iT .lss 3 7 9 v3 (kI y3) (ju (ro x0) v3 fun y7=>bC .sub 3 18 v3 (kI 1) fun y8=>ju (ro x0) y8 fun y10=>iT .leq 30 16 21 y7 y10 (rQ (kI 8) hp) (bC .add 3 11 v3 (kI 1) fun y13=>B62_4 x0 y13 hp)) (rQ (kI 0) hp):=eB (by kernel_rfl)
def B73_3:=gb 73 3 [x4,x8,v9,v10] hp
def B73_6:=gb 73 6 [x4,v6,v7,x8,v9,v10] hp
def B73_7:=gb 73 7 [x4,v6,v7,x8,v9,v10] hp
def B73_9:=gb 73 9 [x4,v6,v7,x8,v9,v10] hp
def B73_14:=gb 73 14 [x4,x8,v9,v10] hp
theorem E73:run cxX 73 [a0] hp=ln (ro a0) fun y0=>B73_3 nl (ro a0) (kI y0) (kI 0) hp:=eE (by kernel_rfl)
theorem Vc:B73_3 x4 x8 v9 v10 hp=iT .lss 3 10 9 v10 v9 (ju x8 v10 fun y4=>ln (ro x4) fun y5=>B73_6 x4 y4 (kI y5) x8 v9 v10 hp) ((xQ hp (ro x4)).bind fun y6=>rQ (.tup [y6.1,kI 0]) y6.2):=eB (by kernel_rfl)
theorem qhw:B73_6 x4 v6 v7 x8 v9 v10 hp=iC .gtr 3 16 v7 (kI 0) (bC .sub 3 20 v7 (kI 1) fun y9=>(qL (ro x4)).bind fun y10=>(idx y10.2.2.2.1 y9).bind fun y11=>(jl y10.2.2.2.2 1).bind fun y12=>(Hp.rd hp y10.1 y10.2.1).bind fun y13=>(qe y13 (Nat.add y10.2.2.1 (Nat.add 0 y11))).bind fun y14=>iT .geq 30 23 24 y14 v6 (B73_7 x4 v6 v7 x8 v9 v10 hp) (B73_9 x4 v6 v7 x8 v9 v10 hp)) (B73_9 x4 v6 v7 x8 v9 v10 hp):=eB (by kernel_rfl)
theorem qhv:B73_7 x4 v6 v7 x8 v9 v10 hp=bC .sub 3 27 v7 (kI 1) fun y17=>(qL (ro x4)).bind fun y18=>(idx y18.2.2.2.1 y17).bind fun y19=>(jl y18.2.2.2.2 1).bind fun y20=>(Hp.rd hp y18.1 y18.2.1).bind fun y21=>(qe y21 (Nat.add y18.2.2.1 (Nat.add 0 y19))).bind fun y22=>iT .eql 30 32 33 y22 v6 (B73_14 x4 x8 v9 v10 hp) (B73_6 x4 v6 y17 x8 v9 v10 hp):=eB (by kernel_rfl)
theorem qyh:B73_9 x4 v6 v7 x8 v9 v10 hp=ln (ro x4) fun y25=>iC .eql 3 36 (kI y25) (kI 4096) (rQ (.tup [nl,kI 7]) hp) ((xx [kW 0]).bind fun y28=>(jo 4 1 (ro x4) (AV.us 1 [kW 0]) hp).bind fun y29=>bC .add 3 42 v7 (kI 1) fun y30=>(qL (ro y29.1)).bind fun y31=>(zd (.ofNat 0) (.ofNat y31.2.2.2.1) none y31.2.2.2.1).bind fun y32=>(zd (.ofNat 0) (.ofNat y32) none y31.2.2.2.1).bind fun y33=>(zd (.ofNat 0) (.ofNat y33) (Option.some y30) 0).bind fun y34=>(jl y31.2.2.2.2 1).bind fun y35=>(qL (ro y29.1)).bind fun y36=>(zd (.ofNat 0) (.ofNat y36.2.2.2.1) none y36.2.2.2.1).bind fun y37=>(zd (.ofNat 0) (.ofNat y37) none y36.2.2.2.1).bind fun y38=>(zd (.ofNat 0) (.ofNat y38) (Option.some v7) 0).bind fun y39=>(jl y36.2.2.2.2 1).bind fun y40=>(jl 1 1).bind fun y41=>(wW y29.2 1 (AV.ms y36.1 y36.2.1 (Nat.add y36.2.2.1 (Nat.add 0 y39)) (Nat.sub y38 y39) 1)).bind fun y42=>(Hp.rd y29.2 y31.1 y31.2.1).bind fun y43=>(qh y43 (Nat.add y31.2.2.1 (Nat.add 0 y34)) (JF 1 (Nat.sub y33 y34) y42).2).bind fun y44=>(qL (ro y29.1)).bind fun y45=>(idx y45.2.2.2.1 v7).bind fun y46=>(jl y45.2.2.2.2 1).bind fun y47=>(Hp.rd (Hp.put y29.2 y31.1 y31.2.1 y44) y45.1 y45.2.1).bind fun y48=>(qh y48 (Nat.add y45.2.2.1 (Nat.add 0 y46)) [v6]).bind fun y49=>B73_14 y29.1 x8 v9 v10 (Hp.put (Hp.put y29.2 y31.1 y31.2.1 y44) y45.1 y45.2.1 y49)):=eB (by kernel_rfl)
theorem qrb:B73_14 x4 x8 v9 v10 hp=bC .add 3 10 v10 (kI 1) fun y50=>B73_3 x4 x8 v9 y50 hp:=eB (by kernel_rfl)
def B116_4:=gb 116 4 [x0,x1,v12,v13] hp
theorem E116:run cxX 116 [a0,a1] hp=ln (ro a0) fun y0=>ln (ro a1) fun y1=>iT .neq 3 7 9 (kI y0) (kI y1) (rQ (.sc (.bool false)) hp) (ln (ro a0) fun y4=>B116_4 a0 a1 (kI y4) (kI 0) hp):=eE (by kernel_rfl)
theorem qby:B116_4 x0 x1 v12 v13 hp=iT .lss 3 13 12 v13 v12 (ju (ro x0) v13 fun y8=>ju (ro x1) v13 fun y10=>iT .neq 30 19 23 y8 y10 (rQ (.sc (.bool false)) hp) (bC .add 3 13 v13 (kI 1) fun y13=>B116_4 x0 x1 v12 y13 hp)) (rQ (.sc (.bool true)) hp):=eB (by kernel_rfl)
def B26_3:=gb 26 3 [v1,x6,x9,v10,v11] hp
def B26_7:=gb 26 7 [v1,x6,v8,x9,v10,v11] hp
theorem E26:run cxX 26 [a0,a1] hp=aS a1 fun y0=>ln (ro a0) fun y1=>B26_3 y0 nl (ro a0) (kI y1) (kI 0) hp:=eE (by kernel_rfl)
theorem qin:B26_3 v1 x6 x9 v10 v11 hp=iT .lss 3 11 10 v11 v10 (ju x9 v11 fun y5=>iB v1 (bC .rem 30 16 y5 (kW 50) fun y7=>B26_7 v1 x6 y7 x9 v10 v11 hp) (B26_7 v1 x6 y5 x9 v10 v11 hp)) (pT 2 73 [ro x6] fun z1=>aS (yG z1 1) fun y12=>rQ (.tup [yG z1 0,y12]) hp):=eB (by kernel_rfl)
theorem qyv:B26_7 v1 x6 v8 x9 v10 v11 hp=ap 4 x6 v8 fun y14=>bC .add 3 11 v11 (kI 1) fun y15=>B26_3 v1 y14 x9 v10 y15 hp:=eB (by kernel_rfl)
def B64_2:=gb 64 2 [] hp
def B64_3:=gx 64 3 [.lp 1 0 0] [(1,0,b1)] hp
def B64_6:=gx 64 6 [.lp 1 0 0,x23,v24,v25] [(1,0,b1)] hp
theorem E64:run cxX 64 [a0] hp=(qg 2 a0).bind fun y0=>(qe (List.map ro1 y0) 0).bind fun y1=>iC .lss 3 7 y1 (kI 4) (B64_2 hp) ((qe (List.map ro1 y0) 0).bind fun y4=>iC .gtr 3 11 y4 (kI 8) (B64_2 hp) (B64_3 (List.map ro1 y0) hp)):=eE (by kernel_rfl)
theorem qh7:B64_2 hp=rQ (kI 2) hp:=eB (by kernel_rfl)
theorem qh6:B64_3 b1 hp=(qj b1 1).bind fun y7=>ln (ro1 y7) fun y8=>(qe b1 0).bind fun y9=>bG .shl 3 (.const (kI 1)) (.tmp 19) (kI 1) y9 fun y10=>iT .neq 3 17 20 (kI y8) y10 (rQ (kI 6) hp) ((qj b1 1).bind fun y13=>ln (ro1 y13) fun y14=>B64_6 (ro1 y13) (kI y14) (kI 0) b1 hp):=eX (by kernel_rfl)
theorem qh5:B64_6 x23 v24 v25 b1 hp=iT .lss 3 25 24 v25 v24 (ju x23 v25 fun y18=>cV 5 3 y18 fun y19=>(ql b1 0 2).bind fun y20=>pS 122 [.agg (List.map ro1 y20)] fun y24=>iT .gtr 3 30 32 y19 y24 (rQ (kI 2) hp) (bC .add 3 25 v25 (kI 1) fun y27=>B64_6 x23 v24 y27 b1 hp)) (rQ (kI 0) hp):=eX (by kernel_rfl)
def B70_5:=gx 70 5 [.lp 4 0 0,.lp 5 0 0] [(4,0,b4),(5,0,b5)] hp
theorem E70:run cxX 70 [a0,a1] hp=aS a1 fun y0=>(qg 2 a0).bind fun y1=>(qe (List.map ro1 y1) 0).bind fun y2=>(xx []).bind fun y3=>(qj (List.map ro1 y1) 1).bind fun y4=>(jo 1 1 (AV.us 1 []) (ro1 y4) hp).bind fun y5=>(qg 1 y5.1).bind fun y6=>(qh [y2,nl] 1 y6).bind fun y7=>(qg 2 (.agg (List.map ro1 y7))).bind fun y8=>(qh [kI 0,nl] 0 y8).bind fun y9=>(ql (List.map ro1 y1) 0 2).bind fun y10=>pT 2 125 [.agg (List.map ro1 y10),y0] fun z1=>nS z1 0 fun y15=>nS z1 1 fun y16=>(qj y9 1).bind fun y17=>ln (ro1 y17) fun y18=>iT .lss 3 21 24 y15 (kI y18) ((qj y9 1).bind fun y21=>(qj y9 1).bind fun y22=>(qL (ro1 y22)).bind fun y23=>(idx y23.2.2.2.1 y15).bind fun y24=>(jl y23.2.2.2.2 1).bind fun y25=>(Hp.rd y5.2 y23.1 y23.2.1).bind fun y26=>(qe y26 (Nat.add y23.2.2.1 (Nat.add 0 y24))).bind fun y27=>(vc Tryz.prog Go.Builtin.max (Array.mk [5,5]) 5 [y27,y16]).bind fun y28=>(qL (ro1 y21)).bind fun y29=>(idx y29.2.2.2.1 y15).bind fun y30=>(jl y29.2.2.2.2 1).bind fun y31=>(Hp.rd y5.2 y29.1 y29.2.1).bind fun y32=>(qh y32 (Nat.add y29.2.2.1 (Nat.add 0 y30)) [y28]).bind fun y33=>B70_5 [kI 0,nl] y9 (Hp.put y5.2 y29.1 y29.2.1 y33)) (B70_5 [kI 0,nl] y9 y5.2):=eE (by kernel_rfl)
theorem qh0:B70_5 b4 b5 hp=(ql b5 0 2).bind fun y34=>(Jz hp (List.map ro1 y34)).bind fun y35=>(qg 2 (.agg y35.1)).bind fun y36=>(qh b4 0 y36).bind fun y37=>(ql y37 0 2).bind fun y38=>rQ (.agg y38) y35.2:=eX (by kernel_rfl)
def B74_2:=gx 74 2 [.lp 2 0 0] [(2,0,b2)] hp
def B74_3:=gx 74 3 [v0,.lp 2 0 0] [(2,0,b2)] hp
theorem E74:run cxX 74 [a0] hp=aS a0 fun y0=>iC .lss 3 4 y0 (kI 4) (B74_2 [kI 0,nl] hp) (iC .gtr 3 7 y0 (kI 8) (B74_2 [kI 0,nl] hp) (B74_3 y0 [kI 0,nl] hp)):=eE (by kernel_rfl)
theorem qyg:B74_3 v0 b2 hp=bG .shl 3 (.const (kI 1)) (.tmp 12) (kI 1) v0 fun y7=>(YW y7).bind fun y8=>(YW y7).bind fun y9=>(yu 1 1 y8 y9).bind fun y10=>(qh b2 0 [v0,ro1 (AV.us 1 (yU y8 [kB 0]))]).bind fun y11=>(ql y11 0 2).bind fun y12=>rQ (.tup [.agg y12,.sc (.bool true)]) hp:=eX (by kernel_rfl)
theorem E118:run cxX 118 [a0,a1] hp=(qg 2 a0).bind fun y0=>(qg 2 a1).bind fun y1=>(qe (List.map ro1 y0) 0).bind fun y2=>(qe (List.map ro1 y1) 0).bind fun y3=>iT .eql 3 6 8 y2 y3 ((qj (List.map ro1 y0) 1).bind fun y6=>(yF 1 (ro1 y6)).bind fun y7=>(zn y7).bind fun y8=>(qj (List.map ro1 y1) 1).bind fun y9=>(yF 1 (ro1 y9)).bind fun y10=>(zn y10).bind fun y11=>bT .eql 9 13 16 (Value.string (ByteArray.mk (Array.mk y8))) (Value.string (ByteArray.mk (Array.mk y11))) fun y12=>rQ y12 hp) (rQ (.sc (.bool false)) hp):=eE (by kernel_rfl)
theorem E122:run cxX 122 [a0] hp=(qg 2 a0).bind fun y0=>(qe (List.map ro1 y0) 0).bind fun y1=>bG .sub 3 (.const (kI 65)) (.tmp 4) (kI 65) y1 fun y2=>rQ y2 hp:=eE (by kernel_rfl)
theorem E125:run cxX 125 [a0,a1] hp=aS a1 fun y0=>(qg 2 a0).bind fun y1=>(qe (List.map ro1 y1) 0).bind fun y2=>(vc Tryz.prog Go.Builtin.max (Array.mk [3,3]) 3 [y2,kI 4]).bind fun y3=>(vc Tryz.prog Go.Builtin.min (Array.mk [3,3]) 3 [y3,kI 8]).bind fun y4=>bG .sub 3 (.const (kI 64)) (.tmp 12) (kI 64) y4 fun y5=>bT .shr 76 11 13 y0 y5 fun y6=>cV 76 3 y6 fun y7=>bT .shl 76 16 17 y0 y4 fun y8=>pS 168 [y8] fun y12=>bG .sub 3 (.const (kI 64)) (.tmp 20) (kI 64) y4 fun y13=>(vc Tryz.prog Go.Builtin.min (Array.mk [3,3]) 3 [y12,y13]).bind fun y14=>bC .add 3 22 y14 (kI 1) fun y15=>cV 3 5 y15 fun y16=>rQ (.tup [y7,y16]) hp:=eE (by kernel_rfl)
def B28_3:=gx 28 3 [.lp 4 0 0,.lp 5 0 0,x17,v18,v19] [(4,0,b4),(5,0,b5)] hp
theorem E28:run cxX 28 [a0,a1] hp=aS a0 fun y0=>bC .rem 5 10 y0 (kB 5) fun y1=>cV 5 3 y1 fun y2=>bG .add 3 (.const (kI 4)) (.tmp 12) (kI 4) y2 fun y3=>pT 2 74 [y3] fun z1=>nS z1 1 fun y8=>(qg 2 (ro (yG z1 0))).bind fun y9=>(qh [kI 0,nl] 0 y9).bind fun y10=>ln (ro a1) fun y11=>B28_3 (ro a1) (kI y11) (kI 0) [kI 0,nl] y10 hp:=eE (by kernel_rfl)
theorem qil:B28_3 x17 v18 v19 b4 b5 hp=iT .lss 3 19 18 v19 v18 (ju x17 v19 fun y15=>(ql b5 0 2).bind fun y16=>pS 75 [y15] fun y20=>pA 70 [.agg (List.map ro1 y16),y20] fun z1=>(qg 2 z1).bind fun y25=>(qh b5 0 y25).bind fun y26=>bC .add 3 19 v19 (kI 1) fun y27=>B28_3 x17 v18 y27 b4 y26 hp) ((ql b5 0 2).bind fun y28=>(qh b5 0 (List.map ro1 y28)).bind fun y29=>(qg 2 (.agg y28)).bind fun y30=>(qh b4 0 y30).bind fun y31=>(ql y31 0 2).bind fun y32=>rQ (.agg y32) hp):=eX (by kernel_rfl)
theorem E75:run cxX 75 [a0] hp=aS a0 fun y0=>bC .rem 76 3 y0 (kU 3) fun y1=>iC .eql 76 4 y1 (kU 0) (bC .shr 76 6 y0 (kU 56) fun y4=>bC .shl 76 7 y4 (kU 56) fun y5=>bC .quo 76 10 y0 (kU 4) fun y6=>bC .rem 76 11 y6 (kU 56) fun y7=>bG .shl 76 (.const (kU 1)) (.tmp 12) (kU 1) y7 fun y8=>bC .sub 76 13 y8 (kU 1) fun y9=>bT .and 76 9 14 y0 y9 fun y10=>bT .or 76 8 15 y5 y10 fun y11=>rQ y11 hp) (rQ y0 hp):=eE (by kernel_rfl)
def B65_2:=gb 65 2 [] hp
def B65_3:=gx 65 3 [.lp 1 0 0] [(1,0,b1)] hp
def B65_4:=gx 65 4 [.lp 1 0 0,x24,v25,v26] [(1,0,b1)] hp
def B65_9:=gb 65 9 [] hp
def B65_10:=gx 65 10 [.lp 1 0 0,x24,v25,v26] [(1,0,b1)] hp
theorem E65:run cxX 65 [a0] hp=(qg 3 a0).bind fun y0=>(qe (List.map ro1 y0) 0).bind fun y1=>iC .lss 3 6 y1 (kI 1) (B65_2 hp) ((qe (List.map ro1 y0) 0).bind fun y4=>iC .gtr 3 10 y4 (kI 4096) (B65_2 hp) ((qe (List.map ro1 y0) 1).bind fun y7=>iC .lss 3 15 y7 (kI 1) (B65_2 hp) ((qe (List.map ro1 y0) 1).bind fun y10=>iC .gtr 3 20 y10 (kI 8) (B65_2 hp) (B65_3 (List.map ro1 y0) hp)))):=eE (by kernel_rfl)
theorem JO:B65_2 hp=rQ (kI 2) hp:=eB (by kernel_rfl)
theorem qym:B65_3 b1 hp=(qj b1 2).bind fun y13=>ln (ro1 y13) fun y14=>B65_4 (ro1 y13) (kI y14) (kI 0) b1 hp:=eX (by kernel_rfl)
theorem qh4:B65_4 x24 v25 v26 b1 hp=iT .lss 3 26 25 v26 v25 (ju x24 v26 fun y18=>cV 30 3 y18 fun y19=>(qe b1 0).bind fun y20=>iT .geq 3 32 34 y19 y20 (rQ (kI 2) hp) (iC .gtr 3 36 v26 (kI 0) ((qj b1 2).bind fun y25=>bC .sub 3 42 v26 (kI 1) fun y26=>ju (ro1 y25) y26 fun y28=>iT .leq 30 39 45 y18 y28 (B65_9 hp) (B65_10 x24 v25 v26 b1 hp)) (B65_10 x24 v25 v26 b1 hp))) (rQ (kI 0) hp):=eX (by kernel_rfl)
theorem qyl:B65_9 hp=rQ (kI 8) hp:=eB (by kernel_rfl)
theorem qal:B65_10 x24 v25 v26 b1 hp=bC .add 3 26 v26 (kI 1) fun y31=>B65_4 x24 v25 y31 b1 hp:=eX (by kernel_rfl)
def B71_3:=gx 71 3 [.lp 2 0 0,.lp 4 0 0,.lp 5 0 0,x11,v12,v13] [(2,0,b2),(4,0,b4),(5,0,b5)] hp
theorem E71:run cxX 71 [a0,a1] hp=aS a1 fun y0=>(qg 3 a0).bind fun y1=>(ql (List.map ro1 y1) 0 3).bind fun y2=>(qg 3 (.agg (List.map ro1 y2))).bind fun y3=>(qh [kI 0,kI 0,nl] 0 y3).bind fun y4=>(ql (List.map ro1 y1) 0 3).bind fun y5=>pA 126 [.agg (List.map ro1 y5),y0] fun z1=>ln z1 fun y10=>B71_3 z1 (kI y10) (kI 0) (List.map ro1 y1) [kI 0,kI 0,nl] y4 hp:=eE (by kernel_rfl)
theorem qhz:B71_3 x11 v12 v13 b2 b4 b5 hp=iT .lss 3 13 12 v13 v12 (ju x11 v13 fun y14=>(ql b5 0 3).bind fun y15=>(qe b2 0).bind fun y16=>(qe b2 1).bind fun y17=>(xx [y14]).bind fun y18=>pA 127 [.agg (List.map ro1 y15),.agg [y16,y17,ro1 (AV.us 1 [y14])]] fun z1=>(qg 3 z1).bind fun y23=>(qh b5 0 y23).bind fun y24=>bC .add 3 13 v13 (kI 1) fun y25=>B71_3 x11 v12 y25 b2 b4 y24 hp) ((ql b5 0 3).bind fun y26=>(qh b5 0 (List.map ro1 y26)).bind fun y27=>(qg 3 (.agg y26)).bind fun y28=>(qh b4 0 y28).bind fun y29=>(ql y29 0 3).bind fun y30=>rQ (.agg y30) hp):=eX (by kernel_rfl)
def B119_2:=gb 119 2 [] hp
def B119_3:=gx 119 3 [.lp 2 0 0,.lp 3 0 0] [(2,0,b2),(3,0,b3)] hp
def B119_4:=gx 119 4 [.lp 2 0 0,.lp 3 0 0,v29,v30] [(2,0,b2),(3,0,b3)] hp
theorem E119:run cxX 119 [a0,a1] hp=(qg 3 a0).bind fun y0=>(qg 3 a1).bind fun y1=>(qe (List.map ro1 y0) 0).bind fun y2=>(qe (List.map ro1 y1) 0).bind fun y3=>iT .neq 3 7 9 y2 y3 (B119_2 hp) ((qe (List.map ro1 y0) 1).bind fun y6=>(qe (List.map ro1 y1) 1).bind fun y7=>iT .neq 3 13 15 y6 y7 (B119_2 hp) ((qj (List.map ro1 y0) 2).bind fun y10=>ln (ro1 y10) fun y11=>(qj (List.map ro1 y1) 2).bind fun y12=>ln (ro1 y12) fun y13=>iT .neq 3 21 24 (kI y11) (kI y13) (B119_2 hp) (B119_3 (List.map ro1 y0) (List.map ro1 y1) hp))):=eE (by kernel_rfl)
theorem YE:B119_2 hp=rQ (.sc (.bool false)) hp:=eB (by kernel_rfl)
theorem qst:B119_3 b2 b3 hp=(qj b2 2).bind fun y16=>ln (ro1 y16) fun y17=>B119_4 (kI y17) (kI 0) b2 b3 hp:=eX (by kernel_rfl)
theorem qbv:B119_4 v29 v30 b2 b3 hp=iT .lss 3 30 29 v30 v29 ((qj b2 2).bind fun y20=>ju (ro1 y20) v30 fun y22=>(qj b3 2).bind fun y23=>ju (ro1 y23) v30 fun y25=>iT .neq 30 37 42 y22 y25 (rQ (.sc (.bool false)) hp) (bC .add 3 30 v30 (kI 1) fun y28=>B119_4 v29 y28 b2 b3 hp)) (rQ (.sc (.bool true)) hp):=eX (by kernel_rfl)
def B126_6:=gx 126 6 [.lp 2 0 0,x5,v6,v7,v19,v20] [(2,0,b2)] hp
theorem E126:run cxX 126 [a0,a1] hp=aS a1 fun y0=>(qg 3 a0).bind fun y1=>(ql (List.map ro1 y1) 0 3).bind fun y2=>pS 65 [.agg (List.map ro1 y2)] fun y6=>iC .neq 57 9 y6 (kI 0) (rQ nl hp) (cV 76 30 y0 fun y9=>bC .shr 76 14 y0 (kU 32) fun y10=>cV 76 30 y10 fun y11=>bC .or 30 16 y11 (kW 1) fun y12=>(qe (List.map ro1 y1) 1).bind fun y13=>B126_6 nl y9 y12 y13 (kI 0) (List.map ro1 y1) hp):=eE (by kernel_rfl)
theorem qbr:B126_6 x5 v6 v7 v19 v20 b2 hp=iT .lss 3 20 19 v20 v19 ((qe b2 0).bind fun y16=>cV 3 30 y16 fun y17=>bT .rem 30 23 26 v6 y17 fun y18=>ap 4 x5 y18 fun y20=>bT .add 30 30 31 v6 v7 fun y21=>bC .add 3 20 v20 (kI 1) fun y22=>B126_6 y20 y21 v7 v19 y22 b2 hp) (rQ x5 hp):=eX (by kernel_rfl)
def B127_3:=gx 127 3 [.lp 4 0 0,.lp 5 0 0,x6,x7] [(4,0,b4),(5,0,b5)] hp
def B127_6:=gx 127 6 [.lp 4 0 0,.lp 5 0 0,x6,x7] [(4,0,b4),(5,0,b5)] hp
def B127_7:=gx 127 7 [.lp 4 0 0,.lp 5 0 0,x6,x7] [(4,0,b4),(5,0,b5)] hp
def B127_8:=gx 127 8 [.lp 4 0 0,.lp 5 0 0,x6,x7] [(4,0,b4),(5,0,b5)] hp
def B127_4:=gx 127 4 [.lp 4 0 0,.lp 5 0 0,x6,x7] [(4,0,b4),(5,0,b5)] hp
theorem E127:run cxX 127 [a0,a1] hp=(qg 3 a0).bind fun y0=>(qg 3 a1).bind fun y1=>(qe (List.map ro1 y0) 0).bind fun y2=>(qe (List.map ro1 y0) 1).bind fun y3=>(qj (List.map ro1 y0) 2).bind fun y4=>(qj (List.map ro1 y1) 2).bind fun y5=>B127_3 (ro1 y4) (ro1 y5) [kI 0,kI 0,nl] [y2,y3,nl] hp:=eE (by kernel_rfl)
theorem qsk:B127_3 x6 x7 b4 b5 hp=ln (ro x6) fun y6=>ln (ro x7) fun y7=>bT .add 3 18 20 (kI y6) (kI y7) fun y8=>iC .gtr 3 21 y8 (kI 0) (ln (ro x7) fun y11=>iC .eql 3 37 (kI y11) (kI 0) (B127_6 x6 x7 b4 b5 hp) (ln (ro x6) fun y14=>iC .gtr 3 41 (kI y14) (kI 0) (ju (ro x6) (kI 0) fun y18=>ju (ro x7) (kI 0) fun y20=>iT .lss 30 46 49 y18 y20 (B127_6 x6 x7 b4 b5 hp) (B127_7 x6 x7 b4 b5 hp)) (B127_7 x6 x7 b4 b5 hp))) ((ql b5 0 3).bind fun y23=>(qh b5 0 (List.map ro1 y23)).bind fun y24=>(qg 3 (.agg y23)).bind fun y25=>(qh b4 0 y25).bind fun y26=>(ql y26 0 3).bind fun y27=>rQ (.agg y27) hp):=eX (by kernel_rfl)
theorem qsi:B127_6 x6 x7 b4 b5 hp=(qj b5 2).bind fun y28=>ju (ro x6) (kI 0) fun y30=>ap 4 y28 y30 fun y32=>(xC 1 (ro x6) (Option.some (kI 1)) none none).bind fun y33=>(qg 1 y32).bind fun y34=>(qh (List.set b5 2 (ro1 y28)) 2 y34).bind fun y35=>B127_3 y33 x7 b4 y35 hp:=eX (by kernel_rfl)
theorem YC:B127_7 x6 x7 b4 b5 hp=ln (ro x6) fun y36=>iC .eql 3 65 (kI y36) (kI 0) (B127_8 x6 x7 b4 b5 hp) (ju (ro x7) (kI 0) fun y40=>ju (ro x6) (kI 0) fun y42=>iT .lss 30 70 73 y40 y42 (B127_8 x6 x7 b4 b5 hp) (B127_4 x6 x7 b4 b5 hp)):=eX (by kernel_rfl)
theorem qsh:B127_8 x6 x7 b4 b5 hp=(qj b5 2).bind fun y45=>ju (ro x7) (kI 0) fun y47=>ap 4 y45 y47 fun y49=>(xC 1 (ro x7) (Option.some (kI 1)) none none).bind fun y50=>(qg 1 y49).bind fun y51=>(qh (List.set b5 2 (ro1 y45)) 2 y51).bind fun y52=>B127_3 x6 y50 b4 y52 hp:=eX (by kernel_rfl)
theorem qsj:B127_4 x6 x7 b4 b5 hp=(qj b5 2).bind fun y53=>ju (ro x6) (kI 0) fun y55=>ap 4 y53 y55 fun y57=>(xC 1 (ro x6) (Option.some (kI 1)) none none).bind fun y58=>(xC 1 (ro x7) (Option.some (kI 1)) none none).bind fun y59=>(qg 1 y57).bind fun y60=>(qh (List.set b5 2 (ro1 y53)) 2 y60).bind fun y61=>B127_3 y58 y59 b4 y61 hp:=eX (by kernel_rfl)
def B29_3:=gx 29 3 [.lp 6 0 0,.lp 7 0 0,x19,v20,v21] [(6,0,b6),(7,0,b7)] hp
theorem E29:run cxX 29 [a0,a1,a2] hp=aS a0 fun y0=>aS a1 fun y1=>bC .rem 34 10 y0 (kH 300) fun y2=>cV 34 3 y2 fun y3=>bG .add 3 (.const (kI 1)) (.tmp 12) (kI 1) y3 fun y4=>bC .rem 5 14 y1 (kB 8) fun y5=>cV 5 3 y5 fun y6=>bG .add 3 (.const (kI 1)) (.tmp 16) (kI 1) y6 fun y7=>ln (ro a2) fun y8=>B29_3 (ro a2) (kI y8) (kI 0) [kI 0,kI 0,nl] [y4,y7,nl] hp:=eE (by kernel_rfl)
theorem qik:B29_3 x19 v20 v21 b6 b7 hp=iT .lss 3 21 20 v21 v20 (ju x19 v21 fun y12=>(ql b7 0 3).bind fun y13=>pA 71 [.agg (List.map ro1 y13),y12] fun z1=>(qg 3 z1).bind fun y18=>(qh b7 0 y18).bind fun y19=>bC .add 3 21 v21 (kI 1) fun y20=>B29_3 x19 v20 y20 b6 y19 hp) ((ql b7 0 3).bind fun y21=>(qh b7 0 (List.map ro1 y21)).bind fun y22=>(qg 3 (.agg y21)).bind fun y23=>(qh b6 0 y23).bind fun y24=>(ql y24 0 3).bind fun y25=>rQ (.agg y25) hp):=eX (by kernel_rfl)
def B30_3:=gx 30 3 [.lp 6 0 0,.lp 7 0 0,x23,v24,v25] [(6,0,b6),(7,0,b7)] hp
theorem E30:run cxX 30 [a0,a1,a2] hp=aS a0 fun y0=>aS a1 fun y1=>bC .rem 5 12 y0 (kB 8) fun y2=>cV 5 3 y2 fun y3=>bG .add 3 (.const (kI 1)) (.tmp 14) (kI 1) y3 fun y4=>bC .rem 5 16 y1 (kB 40) fun y5=>cV 5 3 y5 fun y6=>bG .add 3 (.const (kI 1)) (.tmp 18) (kI 1) y6 fun y7=>cN 2 76 [y4,y7] hp fun z1 h2=>nS z1 1 fun y10=>(qg 3 (ro (yG z1 0))).bind fun y11=>(qh [kI 0,kI 0,nl] 0 y11).bind fun y12=>ln (ro a2) fun y13=>B30_3 (ro a2) (kI y13) (kI 0) [kI 0,kI 0,nl] y12 h2:=eE (by kernel_rfl)
theorem JR:B30_3 x23 v24 v25 b6 b7 hp=iT .lss 3 25 24 v25 v24 ((yw 2 x23 v25).bind fun y16=>(ql y16 0 2).bind fun y17=>(qg 2 (.agg (List.map ro1 y17))).bind fun y18=>(qh [kU 0,kW 0] 0 y18).bind fun y19=>(ql b7 0 3).bind fun y20=>(qe y19 0).bind fun y21=>(qe y19 1).bind fun y22=>cA 72 [ro (.agg (List.map ro1 y20)),y21,y22] hp fun z1 h2=>(qg 3 z1).bind fun y25=>(qh b7 0 y25).bind fun y26=>bC .add 3 25 v25 (kI 1) fun y27=>B30_3 x23 v24 y27 b6 y26 h2) ((ql b7 0 3).bind fun y28=>(Jz hp (List.map ro1 y28)).bind fun y29=>(qg 3 (.agg y29.1)).bind fun y30=>(qh b6 0 y30).bind fun y31=>(ql y31 0 3).bind fun y32=>rQ (.agg y32) y29.2):=eX (by kernel_rfl)
def B67_2:=gb 67 2 [] hp
def B67_3:=gx 67 3 [.lp 1 0 0] [(1,0,b1)] hp
def B67_4:=gx 67 4 [.lp 1 0 0,x22,v23,v24] [(1,0,b1)] hp
def B67_7:=gb 67 7 [] hp
def B67_8:=gx 67 8 [.lp 1 0 0,x22,v23,v24] [(1,0,b1)] hp
def B67_10:=gb 67 10 [] hp
def B67_11:=gb 67 11 [] hp
theorem E67:run cxX 67 [a0] hp=(qg 11 a0).bind fun y0=>(qe (List.map ro1 y0) 0).bind fun y1=>iC .lss 3 6 y1 (kI 1) (B67_2 hp) ((qe (List.map ro1 y0) 0).bind fun y4=>iC .gtr 3 10 y4 (kI 16) (B67_2 hp) ((qj (List.map ro1 y0) 10).bind fun y7=>ln (ro1 y7) fun y8=>(qe (List.map ro1 y0) 0).bind fun y9=>iT .gtr 3 16 18 (kI y8) y9 (B67_2 hp) (B67_3 (List.map ro1 y0) hp))):=eE (by kernel_rfl)
theorem qyk:B67_2 hp=rQ (kI 2) hp:=eB (by kernel_rfl)
theorem qyj:B67_3 b1 hp=(qj b1 10).bind fun y12=>ln (ro1 y12) fun y13=>B67_4 (ro1 y12) (kI y13) (kI 0) b1 hp:=eX (by kernel_rfl)
theorem qh2:B67_4 x22 v23 v24 b1 hp=iT .lss 3 24 23 v24 v23 (ju x22 v24 fun y17=>iC .gtr 3 29 v24 (kI 0) ((qj b1 10).bind fun y20=>bC .sub 3 35 v24 (kI 1) fun y21=>ju (ro1 y20) y21 fun y23=>pS 123 [y17,y23] fun y27=>iB y27 (B67_7 hp) (B67_8 x22 v23 v24 b1 hp)) (B67_8 x22 v23 v24 b1 hp)) ((qe b1 8).bind fun y29=>(qe b1 8).bind fun y30=>iT .neq 50 43 45 y29 y30 (B67_10 hp) ((qe b1 9).bind fun y33=>(qe b1 9).bind fun y34=>iT .neq 50 49 51 y33 y34 (B67_10 hp) (B67_11 hp))):=eX (by kernel_rfl)
theorem qyi:B67_7 hp=rQ (kI 8) hp:=eB (by kernel_rfl)
theorem qh1:B67_8 x22 v23 v24 b1 hp=bC .add 3 24 v24 (kI 1) fun y37=>B67_4 x22 v23 y37 b1 hp:=eX (by kernel_rfl)
theorem qak:B67_10 hp=rQ (kI 4) hp:=eB (by kernel_rfl)
theorem qrc:B67_11 hp=rQ (kI 0) hp:=eB (by kernel_rfl)
def B77_2:=gx 77 2 [.lp 2 0 0] [(2,0,b2)] hp
def B77_3:=gx 77 3 [v0,.lp 2 0 0] [(2,0,b2)] hp
theorem E77:run cxX 77 [a0] hp=aS a0 fun y0=>iC .lss 3 4 y0 (kI 1) (B77_2 zL1 hp) (iC .gtr 3 7 y0 (kI 16) (B77_2 zL1 hp) (B77_3 y0 zL1 hp)):=eE (by kernel_rfl)
theorem qye:B77_3 v0 b2 hp=pS 130 [kI 1] fun y10=>pS 130 [.sc (.int .i64 (.negSucc 0))] fun y14=>(qh b2 0 [v0,kW 0,kW 0,kW 0,kW 0,kW 0,kW 0,kW 0,y10,y14,nl]).bind fun y15=>(ql y15 0 11).bind fun y16=>rQ (.tup [.agg y16,.sc (.bool true)]) hp:=eX (by kernel_rfl)
theorem E78:run cxX 78 [a0,a1] hp=aS a1 fun y0=>(qg 11 a0).bind fun y1=>(ql (List.map ro1 y1) 0 11).bind fun y2=>(qe (List.map ro1 y1) 0).bind fun y3=>pA 132 [y3,y0] fun z1=>pA 131 [.agg (List.map ro1 y2),z1] fun z2=>(qg 11 z2).bind fun y12=>(qh zL1 0 y12).bind fun y13=>(ql y13 0 11).bind fun y14=>rQ (.agg y14) hp:=eE (by kernel_rfl)
def B121_2:=gb 121 2 [] hp
def B121_3:=gx 121 3 [.lp 2 0 0,.lp 3 0 0] [(2,0,b2),(3,0,b3)] hp
def B121_4:=gx 121 4 [.lp 2 0 0,.lp 3 0 0,v52,v53] [(2,0,b2),(3,0,b3)] hp
theorem E121:run cxX 121 [a0,a1] hp=(qg 11 a0).bind fun y0=>(qg 11 a1).bind fun y1=>(qe (List.map ro1 y0) 0).bind fun y2=>(qe (List.map ro1 y1) 0).bind fun y3=>iT .neq 3 7 9 y2 y3 (B121_2 hp) ((qe (List.map ro1 y0) 1).bind fun y6=>(qe (List.map ro1 y1) 1).bind fun y7=>iT .neq 30 13 15 y6 y7 (B121_2 hp) ((ql (List.map ro1 y0) 2 6).bind fun y10=>(ql (List.map ro1 y1) 2 6).bind fun y11=>(yE (.agg (List.map ro1 y10))).bind fun y12=>(yE (.agg (List.map ro1 y11))).bind fun y13=>iT .neq 49 20 22 y12 y13 (B121_2 hp) ((qe (List.map ro1 y0) 8).bind fun y16=>(qe (List.map ro1 y1) 8).bind fun y17=>pS 167 [y16,y17] fun y21=>iN y21 (B121_2 hp) ((qe (List.map ro1 y0) 9).bind fun y24=>(qe (List.map ro1 y1) 9).bind fun y25=>pS 167 [y24,y25] fun y29=>iN y29 (B121_2 hp) ((qj (List.map ro1 y0) 10).bind fun y32=>ln (ro1 y32) fun y33=>(qj (List.map ro1 y1) 10).bind fun y34=>ln (ro1 y34) fun y35=>iT .neq 3 44 47 (kI y33) (kI y35) (B121_2 hp) (B121_3 (List.map ro1 y0) (List.map ro1 y1) hp)))))):=eE (by kernel_rfl)
theorem qsq:B121_2 hp=rQ (.sc (.bool false)) hp:=eB (by kernel_rfl)
theorem qbt:B121_3 b2 b3 hp=(qj b2 10).bind fun y38=>ln (ro1 y38) fun y39=>B121_4 (kI y39) (kI 0) b2 b3 hp:=eX (by kernel_rfl)
theorem qbs:B121_4 v52 v53 b2 b3 hp=iT .lss 3 53 52 v53 v52 ((qj b2 10).bind fun y42=>ju (ro1 y42) v53 fun y44=>(qj b3 10).bind fun y45=>ju (ro1 y45) v53 fun y47=>pS 167 [y44,y47] fun y51=>iN y51 (rQ (.sc (.bool false)) hp) (bC .add 3 53 v53 (kI 1) fun y54=>B121_4 v52 y54 b2 b3 hp)) (rQ (.sc (.bool true)) hp):=eX (by kernel_rfl)
def B131_3:=gx 131 3 [.lp 2 0 0,.lp 3 0 0,.lp 4 0 0,.lp 5 0 0,v27] [(2,0,b2),(3,0,b3),(4,0,b4),(5,0,b5)] hp
def B131_8:=gx 131 8 [.lp 2 0 0,.lp 4 0 0,.lp 5 0 0,x7,x8] [(2,0,b2),(4,0,b4),(5,0,b5)] hp
def B131_9:=gx 131 9 [.lp 2 0 0,.lp 4 0 0,.lp 5 0 0,x7,x8] [(2,0,b2),(4,0,b4),(5,0,b5)] hp
def B131_12:=gx 131 12 [.lp 4 0 0,.lp 5 0 0] [(4,0,b4),(5,0,b5)] hp
def B131_10:=gx 131 10 [.lp 2 0 0,.lp 4 0 0,.lp 5 0 0,x7,x8] [(2,0,b2),(4,0,b4),(5,0,b5)] hp
def B131_11:=gx 131 11 [.lp 2 0 0,.lp 4 0 0,.lp 5 0 0,x7,x8] [(2,0,b2),(4,0,b4),(5,0,b5)] hp
theorem E131:run cxX 131 [a0,a1] hp=(qg 11 a0).bind fun y0=>(qg 11 a1).bind fun y1=>(qe (List.map ro1 y0) 0).bind fun y2=>(qe (List.map ro1 y0) 1).bind fun y3=>(qe (List.map ro1 y1) 1).bind fun y4=>pS 129 [y3,y4] fun y8=>(qe (List.map ro1 y0) 8).bind fun y9=>(qe (List.map ro1 y1) 8).bind fun y10=>pS 170 [y9,y10] fun y14=>(qe (List.map ro1 y0) 9).bind fun y15=>(qe (List.map ro1 y1) 9).bind fun y16=>pS 171 [y15,y16] fun y20=>B131_3 (kI 0) (List.map ro1 y0) (List.map ro1 y1) zL1 [y2,y8,kW 0,kW 0,kW 0,kW 0,kW 0,kW 0,y14,y20,nl] hp:=eE (by kernel_rfl)
theorem xe:B131_3 v27 b2 b3 b4 b5 hp=iC .lss 3 27 v27 (kI 6) ((idx 6 v27).bind fun y23=>(qe b2 (Nat.add 2 (Nat.add 0 y23))).bind fun y24=>(idx 6 v27).bind fun y25=>(qe b3 (Nat.add 2 (Nat.add 0 y25))).bind fun y26=>pS 129 [y24,y26] fun y30=>(idx 6 v27).bind fun y31=>(qh b5 (Nat.add 2 (Nat.add 0 y31)) [y30]).bind fun y32=>bC .add 3 27 v27 (kI 1) fun y33=>B131_3 y33 b2 b3 b4 y32 hp) ((qj b2 10).bind fun y34=>(qj b3 10).bind fun y35=>B131_8 (ro1 y34) (ro1 y35) b2 b4 b5 hp):=eX (by kernel_rfl)
theorem qsf:B131_8 x7 x8 b2 b4 b5 hp=(qj b5 10).bind fun y36=>ln (ro1 y36) fun y37=>(qe b2 0).bind fun y38=>iT .lss 3 49 51 (kI y37) y38 (ln (ro x7) fun y41=>ln (ro x8) fun y42=>bT .add 3 55 57 (kI y41) (kI y42) fun y43=>iC .gtr 3 58 y43 (kI 0) (B131_9 x7 x8 b2 b4 b5 hp) (B131_12 b4 b5 hp)) (B131_12 b4 b5 hp):=eX (by kernel_rfl)
theorem QX:B131_9 x7 x8 b2 b4 b5 hp=ln (ro x8) fun y46=>iC .eql 3 62 (kI y46) (kI 0) (B131_10 x7 x8 b2 b4 b5 hp) (ln (ro x7) fun y49=>iC .gtr 3 66 (kI y49) (kI 0) (ju (ro x8) (kI 0) fun y53=>ju (ro x7) (kI 0) fun y55=>pS 123 [y53,y55] fun y59=>iN y59 (B131_10 x7 x8 b2 b4 b5 hp) (B131_11 x7 x8 b2 b4 b5 hp)) (B131_11 x7 x8 b2 b4 b5 hp)):=eX (by kernel_rfl)
theorem qlz:B131_12 b4 b5 hp=(ql b5 0 11).bind fun y62=>(qh b5 0 (List.map ro1 y62)).bind fun y63=>(qg 11 (.agg y62)).bind fun y64=>(qh b4 0 y64).bind fun y65=>(ql y65 0 11).bind fun y66=>rQ (.agg y66) hp:=eX (by kernel_rfl)
theorem ql1:B131_10 x7 x8 b2 b4 b5 hp=(qj b5 10).bind fun y67=>ju (ro x7) (kI 0) fun y69=>ap 8 y67 y69 fun y71=>(xC 1 (ro x7) (Option.some (kI 1)) none none).bind fun y72=>(qg 1 y71).bind fun y73=>(qh (List.set b5 10 (ro1 y67)) 10 y73).bind fun y74=>B131_8 y72 x8 b2 b4 y74 hp:=eX (by kernel_rfl)
theorem ql0:B131_11 x7 x8 b2 b4 b5 hp=(qj b5 10).bind fun y75=>ju (ro x8) (kI 0) fun y77=>ap 8 y75 y77 fun y79=>(xC 1 (ro x8) (Option.some (kI 1)) none none).bind fun y80=>(qg 1 y79).bind fun y81=>(qh (List.set b5 10 (ro1 y75)) 10 y81).bind fun y82=>B131_8 x7 y80 b2 b4 y82 hp:=eX (by kernel_rfl)
def B132_5:=gx 132 5 [v1,.lp 4 0 0,.lp 5 0 0] [(4,0,b4),(5,0,b5)] hp
theorem E132:run cxX 132 [a0,a1] hp=aS a0 fun y0=>aS a1 fun y1=>pS 130 [kI 1] fun y5=>pS 130 [.sc (.int .i64 (.negSucc 0))] fun y9=>pS 172 [y1] fun y13=>(idx 6 y13).bind fun y14=>(qh [y0,kW 1,kW 0,kW 0,kW 0,kW 0,kW 0,kW 0,y5,y9,nl] (Nat.add 2 (Nat.add 0 y14)) [kW 1]).bind fun y15=>iT .eql 50 16 17 y1 y1 ((qh y15 8 [y1]).bind fun y18=>(qh y18 9 [y1]).bind fun y19=>B132_5 y1 zL1 y19 hp) (B132_5 y1 zL1 y15 hp):=eE (by kernel_rfl)
theorem qse:B132_5 v1 b4 b5 hp=pS 92 [v1] fun y23=>pT 2 155 [y23] fun z1=>nS z1 0 fun y28=>nS z1 1 fun y29=>(xx [y28]).bind fun y30=>(qh b5 10 [AV.us 1 [y28]]).bind fun y31=>(ql y31 0 11).bind fun y32=>(qh y31 0 (List.map ro1 y32)).bind fun y33=>(qg 11 (.agg y32)).bind fun y34=>(qh b4 0 y34).bind fun y35=>(ql y35 0 11).bind fun y36=>rQ (.agg y36) hp:=eX (by kernel_rfl)
def B66_2:=gb 66 2 [] hp
def B66_3:=gx 66 3 [.lp 1 0 0] [(1,0,b1)] hp
theorem E66:run cxX 66 [a0] hp=(qg 3 a0).bind fun y0=>(qe (List.map ro1 y0) 0).bind fun y1=>iC .lss 3 5 y1 (kI 1) (B66_2 hp) ((qe (List.map ro1 y0) 0).bind fun y4=>iC .gtr 3 9 y4 (kI 8) (B66_2 hp) ((qe (List.map ro1 y0) 1).bind fun y7=>iC .lss 3 14 y7 (kI 1) (B66_2 hp) ((qe (List.map ro1 y0) 1).bind fun y10=>iC .gtr 3 19 y10 (kI 256) (B66_2 hp) (B66_3 (List.map ro1 y0) hp)))):=eE (by kernel_rfl)
theorem qh3:B66_2 hp=rQ (kI 2) hp:=eB (by kernel_rfl)
theorem JN:B66_3 b1 hp=(qj b1 2).bind fun y13=>ln (ro1 y13) fun y14=>(qe b1 0).bind fun y15=>(qe b1 1).bind fun y16=>bT .mul 3 27 29 y15 y16 fun y17=>iT .neq 3 25 30 (kI y14) y17 (rQ (kI 6) hp) (rQ (kI 0) hp):=eX (by kernel_rfl)
def B72_4:=gx 72 4 [v1,v2,.lp 3 0 0,.lp 6 0 0,.lp 7 0 0,v23,v24] [(3,0,b3),(6,0,b6),(7,0,b7)] hp
def B72_9:=gx 72 9 [.lp 6 0 0,.lp 7 0 0] [(6,0,b6),(7,0,b7)] hp
theorem E72:run cxX 72 [a0,a1,a2] hp=aS a1 fun y0=>aS a2 fun y1=>(qg 3 a0).bind fun y2=>(qe (List.map ro1 y2) 0).bind fun y3=>(qe (List.map ro1 y2) 1).bind fun y4=>(xx []).bind fun y5=>(qj (List.map ro1 y2) 2).bind fun y6=>(jo 4 1 (AV.us 1 []) (ro1 y6) hp).bind fun y7=>(qg 1 y7.1).bind fun y8=>(qh [y3,y4,nl] 2 y8).bind fun y9=>(qg 3 (.agg (List.map ro1 y9))).bind fun y10=>(qh [kI 0,kI 0,nl] 0 y10).bind fun y11=>(ql (List.map ro1 y2) 0 3).bind fun y12=>cS 66 [ro (.agg (List.map ro1 y12))] y7.2 fun y14 h1=>iC .eql 57 20 y14 (kI 0) ((qe (List.map ro1 y2) 0).bind fun y17=>B72_4 y0 y1 y17 (kI 0) (List.map ro1 y2) [kI 0,kI 0,nl] y11 h1) (B72_9 [kI 0,kI 0,nl] y11 h1):=eE (by kernel_rfl)
theorem qhy:B72_4 v1 v2 v23 v24 b3 b6 b7 hp=iT .lss 3 24 23 v24 v23 ((qe b3 1).bind fun y20=>bT .mul 3 27 29 v24 y20 fun y21=>(ql b3 0 3).bind fun y22=>cS 128 [ro (.agg (List.map ro1 y22)),v1,v24] hp fun y24 h1=>bT .add 3 30 34 y21 y24 fun y25=>(qj b7 2).bind fun y26=>(qj b7 2).bind fun y27=>(qL (ro1 y27)).bind fun y28=>(idx y28.2.2.2.1 y25).bind fun y29=>(jl y28.2.2.2.2 1).bind fun y30=>(Hp.rd h1 y28.1 y28.2.1).bind fun y31=>(qe y31 (Nat.add y28.2.2.1 (Nat.add 0 y29))).bind fun y32=>pS 129 [y32,v2] fun y36=>(qL (ro1 y26)).bind fun y37=>(idx y37.2.2.2.1 y25).bind fun y38=>(jl y37.2.2.2.2 1).bind fun y39=>(Hp.rd h1 y37.1 y37.2.1).bind fun y40=>(qh y40 (Nat.add y37.2.2.1 (Nat.add 0 y38)) [y36]).bind fun y41=>bC .add 3 24 v24 (kI 1) fun y42=>B72_4 v1 v2 v23 y42 b3 b6 b7 (Hp.put h1 y37.1 y37.2.1 y41)) (B72_9 b6 b7 hp):=eX (by kernel_rfl)
theorem qhx:B72_9 b6 b7 hp=(ql b7 0 3).bind fun y43=>(Jz hp (List.map ro1 y43)).bind fun y44=>(qg 3 (.agg y44.1)).bind fun y45=>(qh b6 0 y45).bind fun y46=>(ql y46 0 3).bind fun y47=>rQ (.agg y47) y44.2:=eX (by kernel_rfl)
def B76_2:=gx 76 2 [.lp 4 0 0] [(4,0,b4)] hp
def B76_3:=gx 76 3 [v0,v1,.lp 4 0 0] [(4,0,b4)] hp
theorem E76:run cxX 76 [a0,a1] hp=aS a0 fun y0=>aS a1 fun y1=>iC .lss 3 6 y0 (kI 1) (B76_2 [kI 0,kI 0,nl] hp) (iC .gtr 3 9 y0 (kI 8) (B76_2 [kI 0,kI 0,nl] hp) (iC .lss 3 13 y1 (kI 1) (B76_2 [kI 0,kI 0,nl] hp) (iC .gtr 3 17 y1 (kI 256) (B76_2 [kI 0,kI 0,nl] hp) (B76_3 y0 y1 [kI 0,kI 0,nl] hp)))):=eE (by kernel_rfl)
theorem qyf:B76_3 v0 v1 b4 hp=bT .mul 3 23 24 v0 v1 fun y12=>(YW y12).bind fun y13=>(YW y12).bind fun y14=>(yu 4 1 y13 y14).bind fun y15=>(qh b4 0 [v0,v1,ro1 (AV.ms hp.1 0 0 (tN y13) 1)]).bind fun y16=>(ql y16 0 3).bind fun y17=>rQ (.tup [.agg y17,.sc (.bool true)]) (Hp.new hp (yU y13 [kW 0])):=eX (by kernel_rfl)
def B120_2:=gb 120 2 [] hp
def B120_3:=gx 120 3 [.lp 2 0 0,.lp 3 0 0] [(2,0,b2),(3,0,b3)] hp
def B120_4:=gx 120 4 [.lp 2 0 0,.lp 3 0 0,v29,v30] [(2,0,b2),(3,0,b3)] hp
theorem E120:run cxX 120 [a0,a1] hp=(qg 3 a0).bind fun y0=>(qg 3 a1).bind fun y1=>(qe (List.map ro1 y0) 0).bind fun y2=>(qe (List.map ro1 y1) 0).bind fun y3=>iT .neq 3 7 9 y2 y3 (B120_2 hp) ((qe (List.map ro1 y0) 1).bind fun y6=>(qe (List.map ro1 y1) 1).bind fun y7=>iT .neq 3 13 15 y6 y7 (B120_2 hp) ((qj (List.map ro1 y0) 2).bind fun y10=>ln (ro1 y10) fun y11=>(qj (List.map ro1 y1) 2).bind fun y12=>ln (ro1 y12) fun y13=>iT .neq 3 21 24 (kI y11) (kI y13) (B120_2 hp) (B120_3 (List.map ro1 y0) (List.map ro1 y1) hp))):=eE (by kernel_rfl)
theorem qss:B120_2 hp=rQ (.sc (.bool false)) hp:=eB (by kernel_rfl)
theorem qsr:B120_3 b2 b3 hp=(qj b2 2).bind fun y16=>ln (ro1 y16) fun y17=>B120_4 (kI y17) (kI 0) b2 b3 hp:=eX (by kernel_rfl)
theorem qbu:B120_4 v29 v30 b2 b3 hp=iT .lss 3 30 29 v30 v29 ((qj b2 2).bind fun y20=>ju (ro1 y20) v30 fun y22=>(qj b3 2).bind fun y23=>ju (ro1 y23) v30 fun y25=>iT .neq 30 37 42 y22 y25 (rQ (.sc (.bool false)) hp) (bC .add 3 30 v30 (kI 1) fun y28=>B120_4 v29 y28 b2 b3 hp)) (rQ (.sc (.bool true)) hp):=eX (by kernel_rfl)
theorem E128:run cxX 128 [a0,a1,a2] hp=aS a1 fun y0=>aS a2 fun y1=>(qg 3 a0).bind fun y2=>bC .shr 76 8 y0 (kU 32) fun y3=>bG .mul 3 (.const (kI 2)) (.tmp 10) (kI 2) y1 fun y4=>bC .add 3 11 y4 (kI 1) fun y5=>cV 3 76 y5 fun y6=>bT .mul 76 9 13 y3 y6 fun y7=>bC .and 76 15 y0 (kU 4294967295) fun y8=>bT .add 76 14 16 y7 y8 fun y9=>bC .shr 76 19 y9 (kU 17) fun y10=>bT .xor 76 18 20 y9 y10 fun y11=>(qe (List.map ro1 y2) 1).bind fun y12=>(vc Tryz.prog Go.Builtin.max (Array.mk [3,3]) 3 [y12,kI 1]).bind fun y13=>cV 3 76 y13 fun y14=>bT .rem 76 21 25 y11 y14 fun y15=>cV 76 3 y15 fun y16=>rQ y16 hp:=eE (by kernel_rfl)
theorem E129:run cxX 129 [a0,a1] hp=aS a0 fun y0=>aS a1 fun y1=>bT .add 30 6 7 y0 y1 fun y2=>iT .geq 30 9 10 y2 y0 (rQ y2 hp) (rQ (kW 4294967295) hp):=eE (by kernel_rfl)
def B31_3:=gx 31 3 [.lp 4 0 0,.lp 5 0 0,x17,v18,v19] [(4,0,b4),(5,0,b5)] hp
theorem E31:run cxX 31 [a0,a1] hp=aS a0 fun y0=>bC .rem 5 10 y0 (kB 16) fun y1=>cV 5 3 y1 fun y2=>bG .add 3 (.const (kI 1)) (.tmp 12) (kI 1) y2 fun y3=>pT 2 77 [y3] fun z1=>nS z1 1 fun y8=>(qg 11 (ro (yG z1 0))).bind fun y9=>(qh zL1 0 y9).bind fun y10=>ln (ro a1) fun y11=>B31_3 (ro a1) (kI y11) (kI 0) zL1 y10 hp:=eE (by kernel_rfl)
theorem qij:B31_3 x17 v18 v19 b4 b5 hp=iT .lss 3 19 18 v19 v18 ((yw 2 x17 v19).bind fun y14=>(ql y14 0 2).bind fun y15=>(qg 2 (.agg (List.map ro1 y15))).bind fun y16=>(qh [kU 0,kB 0] 0 y16).bind fun y17=>(ql b5 0 11).bind fun y18=>(ql y17 0 2).bind fun y19=>pS 79 [.agg (List.map ro1 y19)] fun y23=>pA 78 [.agg (List.map ro1 y18),y23] fun z1=>(qg 11 z1).bind fun y28=>(qh b5 0 y28).bind fun y29=>bC .add 3 19 v19 (kI 1) fun y30=>B31_3 x17 v18 y30 b4 y29 hp) ((ql b5 0 11).bind fun y31=>(qh b5 0 (List.map ro1 y31)).bind fun y32=>(qg 11 (.agg y31)).bind fun y33=>(qh b4 0 y33).bind fun y34=>(ql y34 0 11).bind fun y35=>rQ (.agg y35) hp):=eX (by kernel_rfl)
theorem E79:run cxX 79 [a0] hp=(qg 2 a0).bind fun y0=>(qe (List.map ro1 y0) 0).bind fun y1=>(qe (List.map ro1 y0) 1).bind fun y2=>pS 133 [y1,y2] fun y6=>rQ y6 hp:=eE (by kernel_rfl)
def B92_7:=gb 92 7 [v3] hp
theorem E92:run cxX 92 [a0] hp=aS a0 fun y0=>(one (ZG Tryz.prog 142 [y0])).bind fun y1=>pS 143 [y0] fun y5=>iB y5 (B92_7 (kU 18444492273895866369) hp) (bC .and 76 12 y1 (kU 9223372036854775808) fun y7=>iC .neq 76 13 y7 (kU 0) ((unV Tryz.prog .xor y1).bind fun y10=>B92_7 y10 hp) (bC .or 76 6 y1 (kU 9223372036854775808) fun y11=>B92_7 y11 hp)):=eE (by kernel_rfl)
theorem KZ:B92_7 v3 hp=rQ v3 hp:=eB (by kernel_rfl)
theorem E123:run cxX 123 [a0,a1] hp=aS a0 fun y0=>aS a1 fun y1=>pS 92 [y0] fun y5=>pS 92 [y1] fun y9=>bT .lss 76 6 8 y5 y9 fun y10=>rQ y10 hp:=eE (by kernel_rfl)
def B155_4:=gb 155 4 [v0,v4] hp
theorem E155:run cxX 155 [a0] hp=aS a0 fun y0=>bC .andNot 76 6 y0 (kU 9223372036854775808) fun y1=>bC .and 76 8 y0 (kU 9223372036854775808) fun y2=>iC .eql 76 9 y2 (kU 0) ((unV Tryz.prog .xor y0).bind fun y5=>B155_4 y0 y5 hp) (B155_4 y0 y1 hp):=eE (by kernel_rfl)
theorem qr2:B155_4 v0 v4 hp=(one (ZG Tryz.prog 169 [v4])).bind fun y6=>pS 92 [y6] fun y10=>bT .eql 76 17 18 y10 v0 fun y11=>rQ (.tup [y6,y11]) hp:=eB (by kernel_rfl)
theorem E167:run cxX 167 [a0,a1] hp=aS a0 fun y0=>aS a1 fun y1=>pS 92 [y0] fun y5=>pS 92 [y1] fun y9=>bT .eql 76 6 8 y5 y9 fun y10=>rQ y10 hp:=eE (by kernel_rfl)
theorem E170:run cxX 170 [a0,a1] hp=aS a0 fun y0=>aS a1 fun y1=>pS 123 [y1,y0] fun y5=>iB y5 (rQ y1 hp) (rQ y0 hp):=eE (by kernel_rfl)
theorem E171:run cxX 171 [a0,a1] hp=aS a0 fun y0=>aS a1 fun y1=>pS 123 [y0,y1] fun y5=>iB y5 (rQ y1 hp) (rQ y0 hp):=eE (by kernel_rfl)
def B172_8:=gb 172 8 [] hp
def B172_9:=gb 172 9 [v0] hp
theorem E172:run cxX 172 [a0] hp=aS a0 fun y0=>iT .neq 50 4 5 y0 y0 (rQ (kB 1) hp) (pS 181 [y0,.sc (.int .i64 (.negSucc 0))] fun y6=>iB y6 (rQ (kB 2) hp) (pS 181 [y0,kI 1] fun y11=>iB y11 (rQ (kB 3) hp) (iC .eql 50 14 y0 (Value.float Go.FloatKind.f64 0) (pS 182 [y0] fun y18=>iB y18 (B172_8 hp) (B172_9 y0 hp)) (B172_9 y0 hp)))):=eE (by kernel_rfl)
theorem qrt:B172_8 hp=rQ (kB 4) hp:=eB (by kernel_rfl)
theorem qrs:B172_9 v0 hp=iC .eql 50 21 v0 (Value.float Go.FloatKind.f64 0) (rQ (kB 5) hp) (rQ (kB 0) hp):=eB (by kernel_rfl)
def B130_5:=gb 130 5 [v3] hp
theorem E130:run cxX 130 [a0] hp=aS a0 fun y0=>iC .geq 3 4 y0 (kI 0) (B130_5 (kU 9218868437227405312) hp) (B130_5 (kU 18442240474082181120) hp):=eE (by kernel_rfl)
theorem qsg:B130_5 v3 hp=(one (ZG Tryz.prog 169 [v3])).bind fun y3=>rQ y3 hp:=eB (by kernel_rfl)
theorem E143:run cxX 143 [a0] hp=aS a0 fun y0=>bT .neq 50 3 4 y0 y0 fun y1=>rQ y1 hp:=eE (by kernel_rfl)
theorem E173:run cxX 173 [] hp=(one (ZG Tryz.prog 169 [kU 9221120237041090561])).bind fun y0=>rQ y0 hp:=eE (by kernel_rfl)
theorem E174:run cxX 174 [a0,a1] hp=aS a0 fun y0=>aS a1 fun y1=>(one (ZG Tryz.prog 142 [y0])).bind fun y2=>bC .andNot 76 6 y2 (kU 9223372036854775808) fun y3=>(one (ZG Tryz.prog 142 [y1])).bind fun y4=>bC .and 76 9 y4 (kU 9223372036854775808) fun y5=>bT .or 76 7 10 y3 y5 fun y6=>(one (ZG Tryz.prog 169 [y6])).bind fun y7=>rQ y7 hp:=eE (by kernel_rfl)
def B181_5:=gb 181 5 [v0] hp
theorem E181:run cxX 181 [a0,a1] hp=aS a0 fun y0=>aS a1 fun y1=>iC .eql 3 5 y1 (kI 0) (pS 183 [y0] fun y7=>B181_5 y7 hp) (iC .lss 3 9 y1 (kI 0) ((unV Tryz.prog .neg y0).bind fun y10=>B181_5 y10 hp) (B181_5 y0 hp)):=eE (by kernel_rfl)
theorem qat:B181_5 v0 hp=bC .gtr 50 13 v0 (Value.float Go.FloatKind.f64 9218868437227405311) fun y11=>rQ y11 hp:=eB (by kernel_rfl)
theorem E182:run cxX 182 [a0] hp=aS a0 fun y0=>(one (ZG Tryz.prog 142 [y0])).bind fun y1=>cV 76 2 y1 fun y2=>bC .lss 2 5 y2 (kI 0) fun y3=>rQ y3 hp:=eE (by kernel_rfl)
def B133_10:=gb 133 10 [v0] hp
def B133_11:=gb 133 11 [v0] hp
theorem qlr:run cxX 133 [a0,a1] hp=aS a0 fun y0=>aS a1 fun y1=>bC .rem 5 5 y1 (kB 8) fun y2=>iC .eql 5 6 y2 (kB 0) ((yW [] []).bind fun y5=>(run cxX 173 [] hp0).bind fun y6=>(vF y6.1).bind fun y7=>aS y6.1 fun y8=>rQ y8 hp) (iC .eql 5 6 y2 (kB 1) (bC .rem 76 12 y0 (kU 2) fun y11=>cV 76 3 y11 fun y12=>bC .mul 3 14 y12 (kI 2) fun y13=>bC .sub 3 15 y13 (kI 1) fun y14=>pS 130 [y14] fun y18=>rQ y18 hp) (iC .eql 5 6 y2 (kB 2) (bC .rem 76 20 y0 (kU 2) fun y21=>cV 76 50 y21 fun y22=>bC .sub 50 22 y22 (Value.float Go.FloatKind.f64 4602678819172646912) fun y23=>pS 174 [Value.float Go.FloatKind.f64 0,y23] fun y27=>rQ y27 hp) (bC .eql 5 6 y2 (kB 3) fun y28=>iB y28 (iB y28 (B133_10 y0 hp) (B133_11 y0 hp)) (iC .eql 5 6 y2 (kB 4) (B133_10 y0 hp) (B133_11 y0 hp))))):=eE (by kernel_rfl)
theorem qly:B133_10 v0 hp=bC .rem 76 28 v0 (kU 2001) fun y33=>cV 76 2 y33 fun y34=>bC .sub 2 30 y34 (kI 1000) fun y35=>cV 2 50 y35 fun y36=>rQ y36 hp:=eB (by kernel_rfl)
theorem qlx:B133_11 v0 hp=(one (ZG Tryz.prog 169 [v0])).bind fun y37=>rQ y37 hp:=eB (by kernel_rfl)
theorem E14:run cxX 14 [a0] hp=(qg 7 a0).bind fun y0=>(qj (List.map ro1 y0) 5).bind fun y1=>ln (ro1 y1) fun y2=>iC .leq 3 5 (kI y2) (kI 40) ((qj (List.map ro1 y0) 6).bind fun y5=>ln (ro1 y5) fun y6=>bC .leq 3 10 (kI y6) (kI 40) fun y7=>rQ y7 hp) (rQ (.sc (.bool false)) hp):=eE (by kernel_rfl)
def B15_7:=gx 15 7 [.lp 1 0 0,.lp 2 0 0,.lp 3 0 0,x4,x27,v28,v29] [(1,0,b1),(2,0,b2),(3,0,b3)] hp
def B15_35:=gx 15 35 [.lp 2 0 0,.lp 3 0 0] [(2,0,b2),(3,0,b3)] hp
def B15_27:=gx 15 27 [.lp 1 0 0,.lp 2 0 0,.lp 3 0 0,x8,x93,v94,v95] [(1,0,b1),(2,0,b2),(3,0,b3)] hp
def B15_12:=gx 15 12 [.lp 1 0 0,.lp 2 0 0,.lp 3 0 0,x4,v6,x27,v28,v29,v42,v43] [(1,0,b1),(2,0,b2),(3,0,b3)] hp
def B15_16:=gx 15 16 [.lp 1 0 0,.lp 2 0 0,.lp 3 0 0,x4,x27,v28,v29] [(1,0,b1),(2,0,b2),(3,0,b3)] hp
def B15_32:=gx 15 32 [.lp 1 0 0,.lp 2 0 0,.lp 3 0 0,x8,v10,v11,x93,v94,v95] [(1,0,b1),(2,0,b2),(3,0,b3)] hp
theorem E15:run cxX 15 [a0] hp=(qg 7 a0).bind fun y0=>(qe (List.map ro1 y0) 0).bind fun y1=>bC .rem 5 13 y1 (kB 6) fun y2=>(qe [y2,nl,kI 0,nl,kI 0,nl,kI 0,kI 0,nl,kI 0,kI 0,nl,kI 0,kW 0,kW 0,kW 0,kW 0,kW 0,kW 0,kW 0,Value.float Go.FloatKind.f64 0,Value.float Go.FloatKind.f64 0,nl] 0).bind fun y3=>iC .eql 39 17 y3 (kB 0) ((qj (List.map ro1 y0) 5).bind fun y6=>ln (ro1 y6) fun y7=>B15_7 nl (ro1 y6) (kI y7) (kI 0) (List.map ro1 y0) ZU [y2,nl,kI 0,nl,kI 0,nl,kI 0,kI 0,nl,kI 0,kI 0,nl,kI 0,kW 0,kW 0,kW 0,kW 0,kW 0,kW 0,kW 0,Value.float Go.FloatKind.f64 0,Value.float Go.FloatKind.f64 0,nl] hp) (iC .eql 39 17 y3 (kB 1) ((qe (List.map ro1 y0) 1).bind fun y10=>(qj (List.map ro1 y0) 5).bind fun y11=>(qe (List.map ro1 y0) 4).bind fun y12=>pA 27 [y10,ro1 y11,y12] fun z1=>(qg 2 z1).bind fun y17=>(qh [y2,nl,kI 0,nl,kI 0,nl,kI 0,kI 0,nl,kI 0,kI 0,nl,kI 0,kW 0,kW 0,kW 0,kW 0,kW 0,kW 0,kW 0,Value.float Go.FloatKind.f64 0,Value.float Go.FloatKind.f64 0,nl] 2 y17).bind fun y18=>B15_35 ZU y18 hp) (iC .eql 39 17 y3 (kB 2) ((qe (List.map ro1 y0) 1).bind fun y21=>(qj (List.map ro1 y0) 5).bind fun y22=>pA 28 [y21,ro1 y22] fun z2=>(qg 2 z2).bind fun y27=>(qh [y2,nl,kI 0,nl,kI 0,nl,kI 0,kI 0,nl,kI 0,kI 0,nl,kI 0,kW 0,kW 0,kW 0,kW 0,kW 0,kW 0,kW 0,Value.float Go.FloatKind.f64 0,Value.float Go.FloatKind.f64 0,nl] 4 y27).bind fun y28=>B15_35 ZU y28 hp) (iC .eql 39 17 y3 (kB 3) ((qe (List.map ro1 y0) 3).bind fun y31=>(qe (List.map ro1 y0) 1).bind fun y32=>(qj (List.map ro1 y0) 5).bind fun y33=>pA 29 [y31,y32,ro1 y33] fun z3=>(qg 3 z3).bind fun y38=>(qh [y2,nl,kI 0,nl,kI 0,nl,kI 0,kI 0,nl,kI 0,kI 0,nl,kI 0,kW 0,kW 0,kW 0,kW 0,kW 0,kW 0,kW 0,Value.float Go.FloatKind.f64 0,Value.float Go.FloatKind.f64 0,nl] 6 y38).bind fun y39=>B15_35 ZU y39 hp) (iC .eql 39 17 y3 (kB 4) ((qj (List.map ro1 y0) 5).bind fun y42=>ln (ro1 y42) fun y43=>B15_27 nl (ro1 y42) (kI y43) (kI 0) (List.map ro1 y0) ZU [y2,nl,kI 0,nl,kI 0,nl,kI 0,kI 0,nl,kI 0,kI 0,nl,kI 0,kW 0,kW 0,kW 0,kW 0,kW 0,kW 0,kW 0,Value.float Go.FloatKind.f64 0,Value.float Go.FloatKind.f64 0,nl] hp) ((qe (List.map ro1 y0) 1).bind fun y44=>(qj (List.map ro1 y0) 6).bind fun y45=>pA 31 [y44,ro1 y45] fun z4=>(qg 11 z4).bind fun y50=>(qh [y2,nl,kI 0,nl,kI 0,nl,kI 0,kI 0,nl,kI 0,kI 0,nl,kI 0,kW 0,kW 0,kW 0,kW 0,kW 0,kW 0,kW 0,Value.float Go.FloatKind.f64 0,Value.float Go.FloatKind.f64 0,nl] 12 y50).bind fun y51=>B15_35 ZU y51 hp))))):=eE (by kernel_rfl)
theorem qio:B15_7 x4 x27 v28 v29 b1 b2 b3 hp=iT .lss 3 29 28 v29 v28 (ju x27 v29 fun y55=>cV 76 30 y55 fun y56=>ap 4 x4 y56 fun y58=>(qe b1 4).bind fun y59=>iB y59 (bC .rem 76 40 y55 (kU 40) fun y61=>cV 76 30 y61 fun y62=>B15_12 y58 y55 x27 v28 v29 y62 (kW 0) b1 b2 b3 hp) (B15_16 y58 x27 v28 v29 b1 b2 b3 hp)) (pT 2 26 [ro x4,.sc (.bool false)] fun z1=>nS z1 1 fun y67=>(qg 1 (ro (yG z1 0))).bind fun y68=>(qh b3 1 y68).bind fun y69=>B15_35 b2 y69 hp):=eX (by kernel_rfl)
theorem qrx:B15_35 b2 b3 hp=(ql b3 0 23).bind fun y70=>(qh b3 0 (List.map ro1 y70)).bind fun y71=>(qg 23 (.agg y70)).bind fun y72=>(qh b2 0 y72).bind fun y73=>(ql y73 0 23).bind fun y74=>rQ (.agg y74) hp:=eX (by kernel_rfl)
theorem YA:B15_27 x8 x93 v94 v95 b1 b2 b3 hp=iT .lss 3 95 94 v95 v94 (ju x93 v95 fun y78=>bC .rem 76 100 y78 (kU 9) fun y79=>cV 76 30 y79 fun y80=>bC .rem 3 103 v95 (kI 5) fun y81=>iC .eql 3 104 y81 (kI 4) (bC .shr 76 106 y78 (kU 32) fun y84=>cV 76 30 y84 fun y85=>B15_32 x8 y78 y85 x93 v94 v95 b1 b2 b3 hp) (B15_32 x8 y78 y80 x93 v94 v95 b1 b2 b3 hp)) ((qe b1 1).bind fun y86=>(qe b1 2).bind fun y87=>pA 30 [y86,y87,ro x8] fun z1=>(qg 3 z1).bind fun y92=>(qh b3 9 y92).bind fun y93=>B15_35 b2 y93 hp):=eX (by kernel_rfl)
theorem qa9:B15_12 x4 v6 x27 v28 v29 v42 v43 b1 b2 b3 hp=iT .lss 30 43 42 v43 v42 (bC .rem 76 47 v6 (kU 9000) fun y96=>cV 76 30 y96 fun y97=>bT .add 30 49 50 y97 v43 fun y98=>ap 4 x4 y98 fun y100=>bC .add 30 43 v43 (kW 1) fun y101=>B15_12 y100 v6 x27 v28 v29 v42 y101 b1 b2 b3 hp) (B15_16 x4 x27 v28 v29 b1 b2 b3 hp):=eX (by kernel_rfl)
theorem qry:B15_16 x4 x27 v28 v29 b1 b2 b3 hp=bC .add 3 29 v29 (kI 1) fun y102=>B15_7 x4 x27 v28 y102 b1 b2 b3 hp:=eX (by kernel_rfl)
theorem qa8:B15_32 x8 v10 v11 x93 v94 v95 b1 b2 b3 hp=(xx [v10,v11]).bind fun y103=>(zZ 16 2 x8 (AV.us 2 [v10,v11])).bind fun y104=>bC .add 3 95 v95 (kI 1) fun y105=>B15_27 y104 x93 v94 y105 b1 b2 b3 hp:=eX (by kernel_rfl)
theorem E41:run cxX 41 [a0,a1] hp=aS a1 fun y0=>iZ (ro a0) (rQ (kI 0) hp) ((vc Tryz.prog Go.Builtin.max (Array.mk [3,3]) 3 [y0,kI 0]).bind fun y2=>jI 1 (ro a0) hp fun y6=>jI 0 (ro a0) hp fun y10=>bT .sub 3 13 17 y6 y10 fun y11=>iT .gtr 3 9 18 y2 y11 (rQ (kI 14) hp) (jI 0 (ro a0) hp fun y17=>bT .add 3 23 24 y17 y2 fun y18=>ZT 0 (ro a0) hp [y18] fun h1=>rQ (kI 0) h1)):=eE (by kernel_rfl)
end
end Go.Proofs.YtchmioacjkbfcaaGreat.AI
namespace Go.Proofs.YtchmioacjkbfcaaGreat.AI
open Go Go.RowKit
set_option linter.unusedVariables false
set_option linter.unusedSimpArgs false
def Kp(W:World):Gh where
 Om b:=if b<W.heap.size then .oth else .fr
 I b:=match W.heap[b]? with
  |some (.cells arr _ _)=>arr.size
  |_=>0
 mu _ _:=none
 la _ _:=none
theorem hpI0(W:World):HpI (Kp W) W hp0 where
 heap b g cs h:=by cases h
 next b g _:=rfl
 hlt b g cs h:=by cases h
 new b hb:=⟨by simp[Kp];omega,by simp[Kp,Array.getElem?_eq_none hb]⟩
 vars b hb:=by
  exfalso
  rcases hb with⟨k,g,h⟩|⟨k,g,h⟩<;>simp only[Kp]at h<;>split at h<;>cases h
theorem qw3{W W':World}{G':Gh}(h:Fr (Kp W) W G' W'):Below W.heap.size W W':=
 ⟨h.rest.1,h.rest.2.1,h.rest.2.2,h.size,fun k hk=>(h.same k hk (.inr (by simp[Kp,hk]))).1⟩
theorem zb2{W:World}{b i:Nat}{c:Value}(h:W.cell? ⟨b,i,none⟩=some c):i<(Kp W).I b:=by
 simp only[World.cell?]at h
 simp only[Kp]
 split at h
 ·rename_i arr t fz e
  rw[e]
  exact(Array.getElem?_eq_some_iff.mp (by simpa using h)).1
 ·cases h
theorem qxx{W:World}{a:Addr}{n cap sz:Nat}{cs:List AV}{vs:List Value}(hsz:0<sz)(hcs:cs.length=n*sz)(hlen:vs.length=cs.length)(hcap:n<=cap)
 (hcell:∀(i:Nat) (v:Value),vs[i]?=some v->W.cell? (a.add i)=some v) (hvl:∀x∈cs,vl x=true) (hrel:∀(i:Nat) (x:AV) (v:Value),cs[i]?=some x->vs[i]?=some v->RelR (Kp W) W x v):
 Vo (Kp W) W (.sl sz cs) (.slice (some a) n cap):=by
 intro p
 have key:RelR (Kp W) W (.sl sz cs) (.slice (some a) n cap):=by
  by_cases hn:n=0
  ·subst hn
   have:cs=[]:=List.length_eq_zero_iff.mp (by simpa using hcs)
   subst this
   exact .sl0 sz a cap hsz
  ·obtain⟨b,o,sp⟩:=a
   have hpos:0<vs.length:=by rw[hlen,hcs];exact Nat.mul_pos (Nat.pos_of_ne_zero hn) hsz
   have hsp:sp=none:=by
    have h0:=hcell 0 vs[0] (List.getElem?_eq_getElem hpos)
    have e:(⟨b,o,sp⟩:Addr).add 0=⟨b,o,sp⟩:=rfl
    rw[e]at h0
    simp only[World.cell?]at h0
    split at h0
    ·cases sp with
     |none=>rfl
     |some q=>simp at h0
    ·cases h0
   subst hsp
   have hc':∀k c,vs[k]?=some c->W.cell? ⟨b,o+k,none⟩=some c:=fun k c hk=>by rw[<-zg];exact hcell k c hk
   refine .sl sz cs n cap b o vs hsz (Nat.pos_of_ne_zero hn) hcs hcap ?_ hlen hc' hvl hrel
   have hl:vs.length-1<vs.length:=by omega
   have:=zb2 (hc' (vs.length-1) _ (List.getElem?_eq_getElem hl))
   omega
 exact(key.c (p 0)).v
theorem qwi{c:Cx}(hc:Ok c/\KY c){f:FuncId}{xs:List AV}{vs:List Value}{v:Value}{hp':Hp}{W:World}(h:run c f xs hp0=some (.sc v,hp'))(hl:xs.length=vs.length)
 (ha:∀(i:Nat) (x:AV) (u:Value),xs[i]?=some x->vs[i]?=some u->Vo (Kp W) W x u):Calls c.P f vs.toArray W fun e W'=>e= .returned v/\Below W.heap.size W W':=by
 refine(qoa hc.1 hc.2 h (hpI0 W) hl ha).mono fun e W' hg=>?_
 obtain⟨u,G',rfl,hf,_,hr⟩:=hg
 have hr':RelR G' W' (.sc v) u:=hr
 cases hr' with
 |sc _ _=>exact⟨rfl,qw3 hf⟩
end Go.Proofs.YtchmioacjkbfcaaGreat.AI
namespace Go.Proofs.YtchmioacjkbfcaaGreat.AI
open Go
set_option linter.unusedVariables false
set_option linter.unusedSimpArgs false
set_option maxRecDepth 100000
set_option maxHeartbeats 0
section
variable (P:Program)(t:TypeId)(x y:Operand)(k k':IntKind)(a b:Int)
theorem Qv(op:BinOp):eqGuard op t x y (.int k a) (.int k' b)=pure ():=by
 cases op<;>rfl
theorem jg(op:BinOp)(h:op≠ .shl)(h':op≠ .shr):qr P op t x y (.int k a) (.int k b)=one (zb P (match op with
 | .add| .sub| .mul=>Op.intArith op k a b
 | .quo| .rem=>Op.intDiv op k a b
 | .and| .or| .xor| .andNot=>Op.intBits op k a b
 |_=>Op.intCmp op a b)):=by
 unfold qr
 rw[Qv]
 cases op<;>simp[Go.binOp]<;>first|rfl|exact absurd rfl h|exact absurd rfl h'
@[simp] theorem jH : qr P .add t x y (.int k a) (.int k b) = some (.int k (k.wrap (a + b))) := by rw [jg P t x y k a b .add (by decide) (by decide)]; rfl
@[simp] theorem kV : qr P .sub t x y (.int k a) (.int k b) = some (.int k (k.wrap (a - b))) := by rw [jg P t x y k a b .sub (by decide) (by decide)]; rfl
@[simp] theorem JI : qr P .mul t x y (.int k a) (.int k b) = some (.int k (k.wrap (a * b))) := by rw [jg P t x y k a b .mul (by decide) (by decide)]; rfl
@[simp] theorem KR : qr P .eql t x y (.int k a) (.int k b) = some (.bool (decide (a = b))) := by rw [jg P t x y k a b .eql (by decide) (by decide)]; show some (Value.bool (a == b)) = _; congr 2
@[simp] theorem zhs : qr P .neq t x y (.int k a) (.int k b) = some (.bool (!decide (a = b))) := by rw [jg P t x y k a b .neq (by decide) (by decide)]; show some (Value.bool (a != b)) = _; rfl
@[simp] theorem Qx : qr P .lss t x y (.int k a) (.int k b) = some (.bool (decide (a < b))) := by rw [jg P t x y k a b .lss (by decide) (by decide)]; rfl
@[simp] theorem zht : qr P .leq t x y (.int k a) (.int k b) = some (.bool (decide (a ≤ b))) := by rw [jg P t x y k a b .leq (by decide) (by decide)]; rfl
@[simp] theorem vR : qr P .gtr t x y (.int k a) (.int k b) = some (.bool (decide (a > b))) := by rw [jg P t x y k a b .gtr (by decide) (by decide)]; rfl
@[simp] theorem Qy : qr P .geq t x y (.int k a) (.int k b) = some (.bool (decide (a ≥ b))) := by rw [jg P t x y k a b .geq (by decide) (by decide)]; rfl
theorem jU(h:b≠0):qr P .quo t x y (.int k a) (.int k b)=some (.int k (k.wrap (a.tdiv b))):=by
 rw[jg P t x y k a b .quo (by decide) (by decide)];simp only[Op.intDiv,h,if_false];rfl
theorem qW(h:b≠0):qr P .rem t x y (.int k a) (.int k b)=some (.int k (a.tmod b)):=by
 rw[jg P t x y k a b .rem (by decide) (by decide)];simp only[Op.intDiv,h,if_false];rfl
@[simp] theorem qS : qr P .and t x y (.int k a) (.int k b) = some (.int k (k.wrap (BitVec.ofInt k.bits a &&& BitVec.ofInt k.bits b).toNat)) := by rw [jg P t x y k a b .and (by decide) (by decide)]; rfl
@[simp] theorem zG : qr P .or t x y (.int k a) (.int k b) = some (.int k (k.wrap (BitVec.ofInt k.bits a ||| BitVec.ofInt k.bits b).toNat)) := by rw [jg P t x y k a b .or (by decide) (by decide)]; rfl
@[simp] theorem yQ : qr P .xor t x y (.int k a) (.int k b) = some (.int k (k.wrap (BitVec.ofInt k.bits a ^^^ BitVec.ofInt k.bits b).toNat)) := by rw [jg P t x y k a b .xor (by decide) (by decide)]; rfl
@[simp] theorem zhz (c : Bool) : unV P .not (.bool c) = some (.bool !c) := rfl
@[simp] theorem jt (c : Bool) : asB (.bool c) = some c := rfl
@[simp] theorem zh7 : YW (.int k a) = some a := rfl
@[simp] theorem xV (v : Value) : vA (.sc v) = some v := rfl
end
theorem qO{α β:Type}(P:Program)(s:Sem α)(f:α->Sem β):zb P (s>>=f)=(zb P s).bind fun a=>zb P (f a):=by
 show zb P (Sem.bind s f)=_
 induction s with
 |pure a=>rfl
 |program k ih=>simp only[Sem.bind,zb];exact ih P
 |mark x k ih=>simp only[Sem.bind,zb];exact ih
 |_=>rfl
@[simp] theorem zco {α : Type} (P : Program) (a : α) : zb P (pure a : Sem α) = some a := rfl
theorem YS(P:Program)(t:TypeId)(x y:Operand)(op:BinOp)(a b:ByteArray):eqGuard op t x y (.string a) (.string b)=pure ():=by
 cases op<;>rfl
theorem zc2(a b:ByteArray):(a.toList==b.toList)=decide (a.data.toList=b.data.toList):=by
 rw[ByteArray.toList_eq,ByteArray.toList_eq]
 by_cases h:a.data.toList=b.data.toList
 ·rw[h];simp
 ·rw[decide_eq_false h];exact beq_eq_false_iff_ne.mpr h
@[simp] theorem zf4 (P : Program) (t : TypeId) (x y : Operand) (a b : ByteArray) : qr P .eql t x y (.string a) (.string b) = some (.bool (decide (a.data.toList = b.data.toList))) := by
 unfold qr
 rw[YS P]
 show some (Value.bool (a.toList==b.toList))=_
 rw[zc2]
@[simp] theorem zf3 (P : Program) (t : TypeId) (x y : Operand) (a b : ByteArray) : qr P .neq t x y (.string a) (.string b) = some (.bool (!decide (a.data.toList = b.data.toList))) := by
 unfold qr
 rw[YS P]
 show some (Value.bool (!(a.toList==b.toList)))=_
 rw[zc2]
def Rd(sz:Nat)(x:AV)(cs:List AV):Prop:=x= .sl sz cs\/x= .us sz cs\/(x= .sc nil0/\cs=[])
section
variable {sz:Nat}{x:AV}{cs:List AV}
theorem Rd.ro(h:Rd sz x cs):Rd sz (AI.ro x) cs:=by
 rcases h with rfl|rfl|⟨rfl,rfl⟩
 ·exact .inl rfl
 ·exact .inl rfl
 ·exact .inr (.inr ⟨rfl,rfl⟩)
theorem Rd.ro1(h:Rd sz x cs):Rd sz (AI.ro1 x) cs:=by
 rcases h with rfl|rfl|⟨rfl,rfl⟩
 ·exact .inl rfl
 ·exact .inl rfl
 ·exact .inr (.inr ⟨rfl,rfl⟩)
theorem Rd.len(h:Rd 1 x cs):yH x=some cs.length:=by
 rcases h with rfl|rfl|⟨rfl,rfl⟩<;>rfl
theorem Rd.idx(h:Rd 1 x cs){k:IntKind}{z:Int}{i:Nat}{y:AV}(hz:z=(i:Int))(hy:cs[i]?=some y):yw 1 x (.int k z)=some [y]:=by
 subst hz
 have hlt:=(List.getElem?_eq_some_iff.mp hy).1
 have key:((AI.idx (if 1=1 then cs.length else cs.length/1) (.int k (i:Int))).bind fun i=>ql cs (i*1) 1)=some [y]:=by
  have hc:(0:Int)<=(i:Int)/\(i:Int)<(cs.length:Int):=⟨Int.natCast_nonneg i,by omega⟩
  simp only[if_true,AI.idx,YW,Option.bind_some,hc,and_self,Int.toNat_natCast,Nat.mul_one]
  unfold ql
  rw[if_pos (by omega)]
  congr 1
  obtain⟨h1,h2⟩:=List.getElem?_eq_some_iff.mp hy
  rw[List.drop_eq_getElem_cons h1,h2]
  rfl
 rcases h with rfl|rfl|⟨rfl,rfl⟩
 ·simp only[yw,if_true];simpa using key
 ·simp only[yw,if_true];simpa using key
 ·simp at hy
end
def Wd(sz:Nat)(x:AV)(cs:List AV):Prop:=x= .us sz cs\/(x= .sc nil0/\cs=[])
theorem Wd.rd{sz:Nat}{x:AV}{cs:List AV}(h:Wd sz x cs):Rd sz x cs:=by
 rcases h with rfl|⟨rfl,rfl⟩
 ·exact .inr (.inl rfl)
 ·exact .inr (.inr ⟨rfl,rfl⟩)
def qhm(ys:List AV):Prop:=ys.map ro1=ys
theorem Wd.app{bytes sz:Nat}{d s:AV}{cs ys:List AV}(hd:Wd sz d cs)(hs:Rd sz s ys)(hf:qhm ys)(hfit:ys≠[]->yk bytes sz (cs.length+ys.length)=true):
 ∃z,zZ bytes sz d s=some z/\Wd sz z (cs++ys):=by
 have hsrc:yF sz s=some ys:=by
  rcases hs with rfl|rfl|⟨rfl,rfl⟩
  ·simp[yF]
  ·simp[yF]
  ·rfl
 unfold zZ qhb
 rw[hsrc]
 simp only[Option.bind_some]
 cases ys with
 |nil=>
  rw[List.append_nil]
  rcases hd with rfl|⟨rfl,rfl⟩
  ·exact⟨.us sz cs,by simp,.inl rfl⟩
  ·exact⟨.sc nil0,rfl,.inr ⟨rfl,rfl⟩⟩
 |cons y ys=>
  have hfit:=hfit (by simp)
  rcases hd with rfl|⟨rfl,rfl⟩
  ·refine⟨.us sz (cs++(y::ys)),?_,.inl rfl⟩
   have hf':(y::ys).map ro1=y::ys:=hf
   have hfit2:yk bytes sz (cs.length+(ys.length+1))=true:=by simpa using hfit
   have hm:ro1 y::List.map ro1 ys=y::ys:=hf'
   simp[hfit2,hm]
  ·refine⟨.us sz (y::ys),?_,.inl rfl⟩
   have hf':(y::ys).map ro1=y::ys:=hf
   have hfit':yk bytes sz (y::ys).length=true:=by simpa using hfit
   have hn:vI nil0=true:=rfl
   simp only[hn,Bool.true_and,hfit',if_true,hf',List.nil_append]
theorem qf{z:Int}(h1:-9223372036854775808<=z)(h2:z<9223372036854775808):IntKind.i64.wrap z=z:=by
 rw[IntKind.wrap_i64];omega
@[simp] theorem zgj : IntKind.i64.wrap 0 = 0 := rfl
@[simp] theorem zgi : IntKind.i64.wrap 1 = 1 := rfl
@[simp] theorem zgh : IntKind.i64.wrap 2 = 2 := rfl
@[simp] theorem zgg : IntKind.i64.wrap 3 = 3 := rfl
@[simp] theorem zgf : IntKind.i64.wrap 4 = 4 := rfl
@[simp] theorem zge : IntKind.i64.wrap 5 = 5 := rfl
@[simp] theorem zgd : IntKind.i64.wrap 6 = 6 := rfl
@[simp] theorem zgc : IntKind.i64.wrap 7 = 7 := rfl
@[simp] theorem zgb : IntKind.i64.wrap 8 = 8 := rfl
@[simp] theorem zga : IntKind.i64.wrap 9 = 9 := rfl
@[simp] theorem zfx : IntKind.i64.wrap 10 = 10 := rfl
@[simp] theorem zfw : IntKind.i64.wrap 11 = 11 := rfl
@[simp] theorem zfv : IntKind.i64.wrap 12 = 12 := rfl
@[simp] theorem zfu : IntKind.i64.wrap 13 = 13 := rfl
@[simp] theorem zft : IntKind.i64.wrap 14 = 14 := rfl
@[simp] theorem zfs : IntKind.i64.wrap 15 = 15 := rfl
@[simp] theorem zfr : IntKind.i64.wrap 16 = 16 := rfl
def S(k sz:Nat)(cs:List AV):AV:=
 match k with
 |0=>.sl sz cs
 |1=>.us sz cs
 |2=>match cs with
  |[]=>.sc nil0
  |_=>.us sz cs
 |_=>match cs with
  |[]=>.sc nil0
  |_=>.sl sz cs
def rk:Nat->Nat
 |0=>0
 |1=>0
 |_=>3
def tg(k:Nat)(cs:List AV):Nat:=
 match cs with
 |[]=>rk k
 |_=>0
@[simp] theorem Wn (k : Nat) : rk (rk k) = rk k := by
 match k with
 |0=>rfl
 |1=>rfl
 |n+2=>rfl
@[simp] theorem rk0 : rk 0 = 0 := rfl
@[simp] theorem rk1 : rk 1 = 0 := rfl
@[simp] theorem rk2 : rk 2 = 3 := rfl
@[simp] theorem rk3 : rk 3 = 3 := rfl
section
variable (k sz:Nat)(cs:List AV)
theorem jk:S k sz cs= .sl sz cs\/S k sz cs= .us sz cs\/(S k sz cs= .sc nil0/\cs=[]):=by
 unfold S
 match k,cs with
 |0,_=>exact .inl rfl
 |1,_=>exact .inr (.inl rfl)
 |2,[]=>exact .inr (.inr ⟨rfl,rfl⟩)
 |2,_::_=>exact .inr (.inl rfl)
 |n+3,[]=>exact .inr (.inr ⟨rfl,rfl⟩)
 |n+3,_::_=>exact .inl rfl
@[simp] theorem ro1_S : ro1 (S k sz cs) = S (rk k) sz cs := by
 match k,cs with
 |0,_=>rfl
 |1,_=>rfl
 |2,[]=>rfl
 |2,_::_=>rfl
 |n+3,[]=>rfl
 |n+3,_::_=>rfl
@[simp] theorem ro_S : ro (S k sz cs) = S (rk k) sz cs := by
 match k,cs with
 |0,_=>rfl
 |1,_=>rfl
 |2,[]=>rfl
 |2,_::_=>rfl
 |n+3,[]=>rfl
 |n+3,_::_=>rfl
theorem rd_S:Rd sz (S k sz cs) cs:=jk k sz cs
@[simp] theorem qwg : yH (S k 1 cs) = some cs.length := (rd_S k 1 cs).len
@[simp] theorem qkw (K : IntKind) (z : Int) : yw 1 (S k 1 cs) (.int K z) = if 0 ≤ z then (cs[z.toNat]?).map fun c => [c] else none := by
 by_cases hz:0<=z
 ·rw[if_pos hz]
  cases h:cs[z.toNat]? with
  |some y=>exact(rd_S k 1 cs).idx (by omega) h
  |none=>
   have hl:cs.length<=z.toNat:=by simpa using h
   have hn:¬(z<(cs.length:Int)):=by omega
   rcases jk k 1 cs with e|e|⟨e,e'⟩
   ·rw[e];simp[yw,idx,YW,hn]
   ·rw[e];simp[yw,idx,YW,hn]
   ·rw[e];rfl
 ·rw[if_neg hz]
  rcases jk k 1 cs with e|e|⟨e,e'⟩
  ·rw[e];simp[yw,idx,YW,hz]
  ·rw[e];simp[yw,idx,YW,hz]
  ·rw[e];rfl
@[simp] theorem zhn : qg 1 (S k sz cs) = some [S k sz cs] := by
 rcases jk k sz cs with e|e|⟨e,e'⟩<;>rw[e]<;>rfl
@[simp] theorem zh1 : Ql (S k sz cs) = some () := by
 rcases jk k sz cs with e|e|⟨e,e'⟩<;>rw[e]<;>rfl
@[simp] theorem qtp : yF sz (S k sz cs) = some cs := by
 rcases jk k sz cs with e|e|⟨e,e'⟩
 ·rw[e];simp[yF]
 ·rw[e];simp[yF]
 ·rw[e,e'];rfl
@[simp] theorem us_S : AV.us sz cs = S 1 sz cs := rfl
@[simp] theorem sl_S : AV.sl sz cs = S 0 sz cs := rfl
end
@[simp] theorem nil_S1 : AV.sc (Value.slice none 0 0) = S 2 1 [] := rfl
@[simp] theorem S3_nil (sz : Nat) : S 3 sz [] = S 2 sz [] := rfl
theorem vt(k:Nat)(cs:List AV)(K:IntKind)(z:Int)(h:0<=z)(h':z<=cs.length):xC 1 (S k 1 cs) (some (.int K z)) none none=some (S (tg k cs) 1 (cs.drop z.toNat)):=by
 obtain⟨i,rfl⟩:∃i:Nat,z=i:=⟨z.toNat,by omega⟩
 have hi:i<=cs.length:=by omega
 have hb:∀n:Nat,i<=n->zd 0 (n:Int) (some (.int K (i:Int))) 0=some i:=by
  intro n hn
  have:(0:Int)<=(i:Int)/\(i:Int)<=(n:Int):=⟨Int.natCast_nonneg i,by omega⟩
  simp only[zd,YW,Option.bind_some,this,and_self,if_true,Int.toNat_natCast]
 have key:(cs.drop (i*1)).take ((cs.length-i)*1)=cs.drop i:=by
  rw[Nat.mul_one,Nat.mul_one]
  exact List.take_of_length_le (by simp)
 have this:=hb cs.length hi
 simp only[zd]at this
 have a:xC 1 (.sl 1 cs) (some (.int K i)) none none=some (.sl 1 (cs.drop i)):=by
  simp only[xC,if_true]
  show(zd 0 _ none _).bind _=_
  simp only[zd,Option.bind_some]
  rw[this]
  simp only[Option.bind_some,key]
 have b:xC 1 (.us 1 cs) (some (.int K i)) none none=some (.sl 1 (cs.drop i)):=by
  simp only[xC,if_true]
  show(zd 0 _ none _).bind _=_
  simp only[zd,Option.bind_some]
  rw[this]
  simp only[Option.bind_some,key]
 rw[Int.toNat_natCast]
 match k,cs with
 |0,[]=>exact a
 |0,_::_=>exact a
 |1,[]=>exact b
 |1,_::_=>exact b
 |2,[]=>obtain rfl:i=0:=by simpa using hi
        rfl
 |2,_::_=>exact b
 |n+3,[]=>obtain rfl:i=0:=by simpa using hi
          rfl
 |n+3,_::_=>exact a
theorem ZP(b sz k:Nat)(cs ys:List AV)(k':Nat)(hk:k=1\/k=2)(hf:qhm ys)(hfit:ys=[]\/yk b sz (cs.length+ys.length)=true):
 zZ b sz (S k sz cs) (S k' sz ys)=some (S k sz (cs++ys)):=by
 unfold zZ qhb
 rw[qtp]
 simp only[Option.bind_some]
 have hf':ys.map ro1=ys:=hf
 match ys,hf',hfit with
 |[],_,_=>
  rw[List.append_nil]
  rcases hk with rfl|rfl
  ·show(if sz=sz then some (AV.us sz cs)else none)=_
   rw[if_pos rfl];rfl
  ·cases cs with
   |nil=>rfl
   |cons c cs=>exact if_pos rfl
 |y::ys,hf',hfit=>
  have hfit:yk b sz (cs.length+(y::ys).length)=true:=hfit.resolve_left (by simp)
  rcases hk with rfl|rfl
  ·simp only[S,hf',hfit,Bool.and_true,decide_true,if_true]
  ·cases cs with
   |nil=>
    have h0:yk b sz (y::ys).length=true:=by simpa using hfit
    simp only[S,hf',h0,vI,nil0,Bool.and_true,if_true,List.nil_append]
   |cons c cs=>simp only[S,hf',hfit,Bool.and_true,decide_true,if_true,List.cons_append]
theorem yo{b sz n:Nat}(hb:0<b)(h:n*b<=140737488355328*sz):yk b sz n=true:=by
 simp[yk,h,hb]
@[simp] theorem qgm (v : Value) : qhm [.sc v] := rfl
theorem qw6{α:Type}(f:α->Value)(l:List α):qhm (l.map fun x=>.sc (f x)):=by
 unfold qhm;rw[List.map_map];rfl
@[simp] theorem zdx (v : Value) : ro1 (.sc v) = .sc v := rfl
@[simp] theorem zgr (v : Value) : ro (.sc v) = .sc v := rfl
@[simp] theorem zdw (l : List AV) : ro (.agg l) = .agg (l.map ro1) := rfl
@[simp] theorem zg0 (v : Value) : Ql (.sc v) = some () := rfl
@[simp] theorem zfz (l : List AV) : Ql (.agg l) = some () := rfl
@[simp] theorem vl_S (k sz : Nat) (cs : List AV) : vl (S k sz cs) = true := by
 rcases jk k sz cs with e|e|⟨e,e'⟩<;>rw[e]<;>rfl
@[simp] theorem vlF_S (k sz : Nat) (cs : List AV) : vlF (S k sz cs) = true := by
 rcases jk k sz cs with e|e|⟨e,e'⟩<;>rw[e]<;>rfl
@[simp] theorem vlV_S (k sz : Nat) (cs : List AV) : vlV (S k sz cs) = true := by
 rcases jk k sz cs with e|e|⟨e,e'⟩<;>rw[e]<;>rfl
@[simp] theorem vl_sc (v : Value) : vl (.sc v) = true := rfl
@[simp] theorem vlF_sc (v : Value) : vlF (.sc v) = true := rfl
@[simp] theorem vlV_sc (v : Value) : vlV (.sc v) = true := rfl
@[simp] theorem zhy (l : List AV) : vlF (.agg l) = l.all vl := rfl
@[simp] theorem zhx (l : List AV) : vlV (.agg l) = l.all vl := rfl
@[simp] theorem zhw (l : List AV) : vlV (.tup l) = l.all vlF := rfl
@[simp] theorem vl_fn (f : FuncId) : vl (.fn f []) = true := rfl
@[simp] theorem vlF_fn (f : FuncId) : vlF (.fn f []) = true := rfl
@[simp] theorem qpr (xs caps : List AV) : yW xs caps = wI (xs.all vlF = true ∧ caps.all vl = true) := rfl
@[simp] theorem wG (a b : Nat) : jl a b = wI (a = b) := rfl
@[simp] theorem zh6 (b : Bool) : qlc b = wI (b = true) := rfl
@[simp] theorem qvx (cs : List AV) : xx cs = wI (cs.all vl = true) := rfl
@[simp] theorem tN_eq (n : Int) : tN n = n.toNat := rfl
theorem QN{b z:Nat}{n:Int}(h0:0<=n)(hf:n.toNat*b<=140737488355328)(hb:0<b)(hz:0<z):yu b z n n=some ():=
 if_pos ⟨rfl,h0,by simp[yk];omega,hz⟩
@[simp] theorem qvz (y : AV) : vF y = wI (vlV y = true) := rfl
theorem xG{p:Prop}[Decidable p](h:p):wI p=some ():=if_pos h
@[simp] theorem kR : wI True = some () := rfl
@[simp] theorem ZL {α : Type} [DecidableEq α] (a : α) : wI (a = a) = some () := if_pos rfl
@[simp] theorem zhv (l : List AV) : zce (.agg l) = some l := rfl
@[simp] theorem ze5 (n : Nat) (l : List AV) : vz n (.tup l) = if l.length = n then some () else none := rfl
@[simp] theorem zgz (l : List AV) (i : Nat) : yG (.tup l) i = l.getD i (.tup []) := rfl
theorem qvy(v:Value):vF (.sc v)=some ():=by rw[qvz];exact if_pos (by simp)
@[simp] theorem zhm : wI (True ∧ True) = some () := rfl
@[simp] theorem ze6 (n : Nat) (l : List AV) : qg n (.agg l) = if l.length = n then some l else none := rfl
@[simp] theorem zhu : vA (.sc nil0) = some nil0 := rfl
theorem qm{α:Type}{l:List α}{i:Nat}{x:α}{r:List α}(h:l.drop i=x::r):l[i]?=some x/\l.drop (i+1)=r/\∃h:i<l.length,l[i]=x:=by
 have hi:i<l.length:=by
  by_cases hi:i<l.length
  ·exact hi
  ·rw[List.drop_eq_nil_of_le (by omega)]at h;cases h
 rw[List.drop_eq_getElem_cons hi]at h
 injection h with h1 h2
 exact⟨by rw[List.getElem?_eq_getElem hi,h1],h2,hi,h1⟩
theorem qB{α:Type}{l:List α}{i:Nat}(h:l.drop i=[]):l.length<=i:=by simpa using h
def LI(K:IntKind)(l:List Int):List AV:=l.map fun n=>.sc (.int K n)
section
variable (K:IntKind)(l:List Int)
theorem Kw:qhm (LI K l):=qw6 _ l
@[simp] theorem vlI : (LI K l).all vl = true := by simp [LI, List.all_map]
@[simp] theorem vy : (LI K l).length = l.length := by simp [LI]
@[simp] theorem VE? (i : Nat) : (LI K l)[i]? = (l[i]?).map fun n => .sc (.int K n) := by simp [LI]
@[simp] theorem VE (i : Nat) (h : i < (LI K l).length) : (LI K l)[i] = .sc (.int K (l[i]'(by simpa using h))) := by simp [LI]
@[simp] theorem zhl (i : Nat) : (LI K l).drop i = LI K (l.drop i) := by simp [LI]
@[simp] theorem tailI : (LI K l).tail = LI K l.tail := by simp [LI]
@[simp] theorem nilI : LI K [] = [] := rfl
theorem ZO(k:Nat)(hk:k=1\/k=2)(b:Nat)(hb:0<b/\b<=1000)(n:Int)(h:l.length<=1000000):zZ b 1 (S k 1 (LI K l)) (S 1 1 [.sc (.int K n)])=some (S k 1 (LI K (l++[n]))):=by
 rw[ZP b 1 k _ _ 1 hk (qgm _) (.inr (yo hb.1 ?_))]
 ·simp[LI]
 ·simp only[vy,List.length_cons,List.length_nil]
  have:(l.length+(0+1))*b<=1000001*1000:=Nat.mul_le_mul (by omega) hb.2
  omega
theorem qxy(k:Nat)(hk:k=1\/k=2)(b:Nat)(hb:0<b/\b<=1000)(k':Nat)(m:List Int)(h:l.length+m.length<=1000000):zZ b 1 (S k 1 (LI K l)) (S k' 1 (LI K m))=some (S k 1 (LI K (l++m))):=by
 rw[ZP b 1 k _ _ k' hk (Kw _ _) (.inr (yo hb.1 ?_))]
 ·simp[LI]
 ·simp only[vy]
  have:(l.length+m.length)*b<=1000000*1000:=Nat.mul_le_mul (by omega) hb.2
  omega
end
section
variable (P:Program)(t:TypeId)(x y:Operand)(k k':IntKind)(a b:Int)
theorem js(h:0<=b):qr P .shr t x y (.int k a) (.int k' b)=some (.int k (a.fdiv (2^(min b.toNat k.bits)))):=by
 unfold qr
 rw[Qv]
 simp only[Go.binOp,Op.shift]
 rw[if_neg (by omega)]
 rfl
theorem zF(h:0<=b):qr P .shl t x y (.int k a) (.int k' b)=some (.int k (k.wrap (a*2^(min b.toNat k.bits)))):=by
 unfold qr
 rw[Qv]
 simp only[Go.binOp,Op.shift]
 rw[if_neg (by omega)]
 rfl
end
theorem qT{z:Int}(h1:0<=z)(h2:z<256):IntKind.u8.wrap z=z:=by rw[IntKind.wrap_u8];omega
theorem qD{z:Int}(h1:0<=z)(h2:z<4294967296):IntKind.u32.wrap z=z:=by rw[IntKind.wrap_u32];omega
theorem qn{z:Int}(h1:0<=z)(h2:z<18446744073709551616):IntKind.u64.wrap z=z:=by rw[IntKind.wrap_u64];omega
theorem qV{a b:Int}(h:0<=a):a.tmod b=a%b:=Int.tmod_eq_emod_of_nonneg h
@[simp] theorem zhr (P : Program) (ts : Array TypeId) (t : TypeId) (k k' : IntKind) (a b : Int) : vc P .max ts t [.int k a, .int k' b] = some (.int k (max a b)) := by
 show some (Value.int k (if b>a then b else a))=_
 congr 2
 split<;>omega
@[simp] theorem zhq (P : Program) (ts : Array TypeId) (t : TypeId) (k k' : IntKind) (a b : Int) : vc P .min ts t [.int k a, .int k' b] = some (.int k (min a b)) := by
 show some (Value.int k (if b<a then b else a))=_
 congr 2
 split<;>omega
@[simp] theorem kK (b g o n z : Nat) : qL (.ms b g o n z) = some (b, g, o, n, z) := rfl
@[simp] theorem Wm (b g o n z : Nat) : ro (.ms b g o n z) = .ms b g o n z := rfl
@[simp] theorem zdy (b g o n z : Nat) : ro1 (.ms b g o n z) = .ms b g o n z := rfl
@[simp] theorem zh2 (b g o n z : Nat) : yH (.ms b g o n z) = some n := rfl
@[simp] theorem zf2 (b g o n z : Nat) : qg 1 (.ms b g o n z) = some [.ms b g o n z] := rfl
@[simp] theorem zg1 (b g o n z : Nat) : Ql (.ms b g o n z) = some () := rfl
theorem qU{n i:Nat}(K:IntKind)(h:i<n):idx n (.int K (i:Int))=some i:=by
 have h1:(i:Int)<(n:Int):=by omega
 simp[idx,h1]
theorem qz(hp:Hp)(cs:List AV):(hp.new cs).rd hp.next 0=some cs:=by simp[Hp.rd,Hp.new]
theorem qi(hp:Hp)(b:Nat)(cs:List AV):(hp.put b 0 cs).rd b 0=some cs:=by simp[Hp.rd,Hp.put]
theorem yL(K:IntKind)(l:List Int)(i:Nat)(n:Int)(h:i<l.length):qh (LI K l) i [.sc (.int K n)]=some (LI K (l.set i n)):=by
 unfold qh
 rw[if_pos (by simp;omega)]
 congr 1
 apply List.ext_getElem?
 intro j
 simp only[List.length_cons,List.length_nil,LI,List.getElem?_map,List.getElem?_append,List.length_append,List.length_take,List.length_map,List.getElem?_take,List.getElem?_drop,List.getElem?_set,List.length_cons,List.length_nil]
 by_cases h1:j<i
 ·have e1:j<min i l.length+(0+1):=by omega
  have e2:j<min i l.length:=by omega
  have e3:¬(i=j):=by omega
  simp[e1,e2,e3,h1]
 ·by_cases h2:j=i
  ·subst h2
   have e2:¬(j<min j l.length):=by omega
   have e3:j-min j l.length=0:=by omega
   have e4:min j l.length=j:=by omega
   simp[e2,e3,e4,h]
  ·have e1:¬(j<min i l.length+(0+1)):=by omega
   have e2:¬(i=j):=by omega
   have e3:i+(0+1)+(j-(min i l.length+(0+1)))=j:=by omega
   have e4:¬(j<min i l.length):=by omega
   simp only[e1,e2,e3,if_false]
theorem qgg(cs:List AV):ql cs 0 cs.length=some cs:=by simp[ql]
theorem zbh(hp:Hp)(b:Nat)(cs:List AV)(hb:hp.rd b 0=some cs)(hv:cs.all vl=true):xQ hp (.ms b 0 0 cs.length 1)=some (.sl 1 (cs.map ro1),hp.del b):=by
 have e:ql cs 0 (cs.length*1)=some cs:=by rw[Nat.mul_one];exact qgg cs
 simp only[xQ,hb,Option.bind_some,e,hv,wI]
 rfl
theorem wF(K:IntKind)(l:List Int)(hp:Hp)(b:Nat)(hb:hp.rd b 0=some (LI K l)):xQ hp (.ms b 0 0 l.length 1)=some (S 0 1 (LI K l),hp.del b):=by
 have h:=zbh hp b (LI K l) hb (vlI K l)
 rw[vy]at h
 rw[h,Kw K l]
 rfl
@[simp] theorem frz1_S (k sz : Nat) (cs : List AV) (hp : Hp) : xQ hp (S k sz cs) = some (S k sz cs, hp) := by
 rcases jk k sz cs with e|e|⟨e,e'⟩<;>rw[e]<;>rfl
@[simp] theorem zh3 (v : Value) (hp : Hp) : xQ hp (.sc v) = some (.sc v, hp) := rfl
@[simp] theorem zhg (hp : Hp) : Jz hp [] = some ([], hp) := rfl
@[simp] theorem zf1 (hp : Hp) (x : AV) (r : List AV) : Jz hp (x :: r) = (xQ hp x).bind fun p => (Jz p.2 r).bind fun q => some (p.1 :: q.1, q.2) := rfl
@[simp] theorem Ki (cs : List AV) : zt 1 cs = cs.length := rfl
theorem Zn(hp:Hp)(k sz:Nat)(cs:List AV):wW hp sz (S k sz cs)=some cs:=by
 unfold wW
 rcases jk k sz cs with e|e|⟨e,e'⟩<;>rw[e]
 ·simp[qL,yF]
 ·simp[qL,yF]
 ·simp[qL,yF,e',nil0]
theorem kX(K:IntKind)(l:List Int)(k:Nat)(b:Nat)(hb:0<b/\b<=1000)(hl:l.length<=1000000)(hne:l≠[])(hp:Hp):jo b 1 (S 1 1 []) (S k 1 (LI K l)) hp=some (.ms hp.next 0 0 l.length 1,hp.new (LI K l)):=by
 unfold jo
 rw[Zn]
 simp only[Option.bind_some]
 cases l with
 |nil=>exact absurd rfl hne
 |cons x l=>
  have hf:yk b 1 (LI K (x::l)).length=true:=yo hb.1 (by
   rw[vy]
   have:(x::l).length*b<=1000000*1000:=Nat.mul_le_mul hl hb.2
   omega)
  have e:LI K (x::l)= .sc (.int K x)::LI K l:=rfl
  rw[e]at hf⊢
  show(wI (1=1/\yk b 1 (AV.sc (Value.int K x)::LI K l).length=true)).bind _=_
  rw[xG ⟨rfl,hf⟩]
  simp[vy]
theorem KU(b:Nat)(k:Nat)(hp:Hp):jo b 1 (S 1 1 []) (S k 1 []) hp=some (S 1 1 [],hp):=by
 unfold jo
 rw[Zn]
 rfl
theorem Qz(K:IntKind)(l:List Int)(n:Int)(b x:Nat)(hb:0<b/\b<=1000)(hl:l.length<=1000000)(hne:l≠[])(hp:Hp)(hx:hp.rd x 0=some (LI K l)):
 jo b 1 (.ms x 0 0 l.length 1) (S 1 1 [.sc (.int K n)]) hp=some (.ms hp.next 0 0 (l.length+1) 1,(hp.del x).new (LI K (l++[n]))):=by
 have hpos:0<l.length:=List.length_pos_iff.mpr hne
 have hf:yk b 1 (l.length*1+1)=true:=yo hb.1 (by
  have:(l.length*1+1)*b<=1000001*1000:=Nat.mul_le_mul (by omega) hb.2
  omega)
 unfold jo
 rw[Zn]
 simp only[Option.bind_some,hx,List.length_cons,List.length_nil,Ki]
 rw[xG (by simp[hpos])]
 simp only[Option.bind_some]
 rw[xG ⟨by rw[vy];omega,hf⟩]
 have e:((LI K l).take (l.length*1)).map ro1++[AV.sc (.int K n)]=LI K (l++[n]):=by
  rw[Nat.mul_one,List.take_of_length_le (by simp),Kw]
  simp[LI]
 simp only[Option.bind_some,e]
theorem wM(K:IntKind)(n:Int)(b:Nat)(hb:0<b/\b<=1000)(hp:Hp):jo b 1 (S 2 1 []) (S 1 1 [.sc (.int K n)]) hp=some (.ms hp.next 0 0 1 1,hp.new (LI K [n])):=by
 have hf:yk b 1 1=true:=yo hb.1 (by omega)
 unfold jo
 rw[Zn]
 show(wI (vI nil0=true/\yk b 1 1=true)).bind _=_
 rw[xG ⟨rfl,hf⟩]
 rfl
theorem QC(K:IntKind)(n:Nat):yU (n:Int) [.int K 0]=LI K (List.replicate n 0):=by
 unfold yU LI
 rw[Int.toNat_natCast]
 induction n with
 |zero=>rfl
 |succ n ih=>
  rw[List.replicate_succ,List.replicate_succ,List.flatten_cons,ih]
  rfl
@[simp] theorem qlf (lo hi : Int) (d : Nat) : zd lo hi none d = some d := rfl
theorem ka{hi d n:Nat}(K:IntKind)(h:n<=hi):zd 0 (hi:Int) (some (.int K (n:Int))) d=some n:=by
 have h1:(n:Int)<=(hi:Int):=by omega
 simp[zd,h1]
theorem zer(K:IntKind)(l:List Int)(i n:Nat)(h:i+n<=l.length):ql (LI K l) i n=some (LI K ((l.drop i).take n)):=by
 unfold ql
 rw[if_pos (by simpa using h)]
 simp[LI,List.map_drop,List.map_take]
theorem qz5(K:IntKind)(l m:List Int)(i:Nat)(h:i+m.length<=l.length):qh (LI K l) i (LI K m)=some (LI K (l.take i++m++l.drop (i+m.length))):=by
 unfold qh
 rw[if_pos (by simpa using h)]
 simp[LI,List.map_drop,List.map_take]
theorem zci(K:IntKind)(l:List Int)(n:Nat):(LI K l).take n=LI K (l.take n):=by simp[LI,List.map_take]
theorem Ja(K:IntKind)(l:List Int)(hp:Hp)(b o n:Nat)(hb:hp.rd b 0=some (LI K l))(h:o+n<=l.length):wW hp 1 (.ms b 0 o n 1)=some (LI K ((l.drop o).take n)):=by
 unfold wW
 have e:=zer K l o n h
 have e1:wI (1=1/\0<1)=some ():=xG ⟨rfl,by decide⟩
 show(wI (1=1/\0<1)).bind _=_
 rw[e1]
 simp only[Option.bind_some,hb,Nat.mul_one,e]
 rw[Kw]
theorem Qd{q:AV×Nat}{g g':Nat->Option (Nat×List AV)}(h:yi q g=yi q g'):yK q g g'=some ():=by
 unfold yK
 exact if_pos h
@[simp] theorem zdr (q : AV × Nat) (g : Nat → Option (Nat × List AV)) : yK q g g = some () := Qd rfl
theorem YX(K:IntKind)(l:List Int)(x:AV)(b:Nat)(hb:0<b/\b<=1000)(hl:l.length<=1000000)(hne:l≠[])(hp:Hp)(hx:wW hp 1 x=some (LI K l)):jo b 1 (S 1 1 []) x hp=some (.ms hp.next 0 0 l.length 1,hp.new (LI K l)):=by
 have h:=kX K l 0 b hb hl hne hp
 unfold jo at h⊢
 rw[Zn]at h
 rw[hx]
 exact h
theorem qd9(K:IntKind)(l:List Int)(hp:Hp)(b:Nat)(hb:hp.rd b 0=some (LI K l)):wW hp 1 (.ms b 0 0 l.length 1)=some (LI K l):=by
 have h:=Ja K l hp b 0 l.length hb (by omega)
 rwa [List.drop_zero,List.take_of_length_le (Nat.le_refl _)]at h
end Go.Proofs.YtchmioacjkbfcaaGreat.AI
namespace Go.Proofs.YtchmioacjkbfcaaGreat.AI
open Go Go.RowKit Go.ChangeShapes Go.WideShapes Go.ChangeAt
set_option linter.unusedVariables false
set_option linter.unusedSimpArgs false
def InK(k:IntKind)(n:Int):Prop:=(Lit.int k n).wf=true
theorem InK.le{k:IntKind}{n:Int}(h:InK k n):k.min<=n/\n<=k.max:=by
 simpa[InK,Lit.wf]using h
theorem InK.u8{n:Int}(h:InK .u8 n):0<=n/\n<256:=by
 have:=h.le;simp[IntKind.min,IntKind.max,IntKind.signed,IntKind.bits]at this;omega
theorem InK.u16{n:Int}(h:InK .u16 n):0<=n/\n<65536:=by
 have:=h.le;simp[IntKind.min,IntKind.max,IntKind.signed,IntKind.bits]at this;omega
theorem InK.u32{n:Int}(h:InK .u32 n):0<=n/\n<4294967296:=by
 have:=h.le;simp[IntKind.min,IntKind.max,IntKind.signed,IntKind.bits]at this;omega
theorem InK.u64{n:Int}(h:InK .u64 n):0<=n/\n<18446744073709551616:=by
 have:=h.le;simp[IntKind.min,IntKind.max,IntKind.signed,IntKind.bits]at this;omega
theorem InK.i64{n:Int}(h:InK .i64 n):-9223372036854775808<=n/\n<9223372036854775808:=by
 have:=h.le;simp[IntKind.min,IntKind.max,IntKind.signed,IntKind.bits]at this;omega
def ArgsR(W:World)(xs:List AV)(vs:List Value):Prop:=xs.length=vs.length/\∀(i:Nat) (x:AV) (u:Value),xs[i]?=some x->vs[i]?=some u->Vo (Kp W) W x u
theorem ArgsR.nil(W:World):ArgsR W [] []:=⟨rfl,by simp⟩
theorem ArgsR.cons{W:World}{x:AV}{v:Value}{xs:List AV}{vs:List Value}(h:Vo (Kp W) W x v)(t:ArgsR W xs vs):ArgsR W (x::xs) (v::vs):=by
 refine⟨by simp[t.1],fun i y u hx hu=>?_⟩
 cases i with
 |zero=>
  simp at hx hu
  subst hx hu
  exact h
 |succ i=>exact t.2 i y u (by simpa using hx) (by simpa using hu)
theorem law_args{c:Cx}(hc:Ok c/\KY c){f:FuncId}{xs:List AV}{vs:List Value}{v:Value}{hp':Hp}{W:World}(ha:ArgsR W xs vs)(h:run c f xs hp0=some (.sc v,hp')):Calls c.P f vs.toArray W fun e W'=>e= .returned v/\Below W.heap.size W W':=
 qwi hc h ha.1 ha.2
section
variable {H:Type}{enc:TypeId×Value->H}{P:Program}{W:World}{fuel:Nat}{t e:TypeId}{cs:List Value}{y:DataW H×List MemPlace}{K:IntKind}
theorem rd_int(ht:P.underlying t=some (.int K))(h:DataW.trod enc P W 0 (fun _=>true) true fuel t cs=some y):∃n,cs=[.int K n]/\InK K n:=by
 obtain⟨n,h1,h2,h3⟩:=DataW.trod_int ht h
 exact⟨n,h1,h3⟩
theorem rd_bool(ht:P.underlying t=some .bool)(h:DataW.trod enc P W 0 (fun _=>true) true fuel t cs=some y):∃b:Bool,cs=[.bool b]:=by
 obtain⟨n,h1,h2⟩:=DataW.trod_bool ht h
 exact⟨n,h1⟩
theorem qo4{a:Addr}{len cap:Nat}{zs:List Int}(hl:len<=cap)(hz:zs.length=cap)(hcell:∀i,i<zs.length->W.cell? (a.add i)=some (.int K (zs.getD i 0))):
 RelR (Kp W) W (S 0 1 (LI K (zs.take len))) (.slice (some a) len cap):=by
 have hg:∀i,i<zs.length->zs.getD i 0=zs[i]?.getD 0:=fun i _=>by simp
 have:=qxx (W:=W) (a:=a) (n:=len) (cap:=cap) (sz:=1) (cs:=LI K (zs.take len)) (vs:=(zs.take len).map fun n=>.int K n) (by omega) (by simp;omega) (by simp) hl
  (fun i v hv=>by
   simp only[List.getElem?_map,Option.map_eq_some_iff]at hv
   obtain⟨n,hn,rfl⟩:=hv
   have hi:i<(zs.take len).length:=(List.getElem?_eq_some_iff.mp hn).1
   simp at hi
   rw[hcell i (by omega)]
   rw[List.getElem?_take_of_lt (by omega)]at hn
   simp[hn])
  (fun x hx=>by
   obtain⟨n,_,rfl⟩:=List.mem_map.mp hx
   rfl)
  (fun i x v hx hv=>by
   simp only[LI,List.getElem?_map,Option.map_eq_some_iff]at hx hv
   obtain⟨n,hn,rfl⟩:=hx
   obtain⟨m,hm,rfl⟩:=hv
   rw[hn]at hm
   cases hm
   exact .sc _ rfl)
 exact this (fun _=>.fr)
theorem rd_ints(ht:P.underlying t=some (.slice e))(he:P.underlying e=some (.int K))(hc:P.cellsOf e=1)(h:DataW.trod enc P W 0 (fun _=>true) true fuel t cs=some y):
 ∃k l v,cs=[v]/\RelR (Kp W) W (S k 1 (LI K l)) v/\(k=0\/(k=2/\l=[]))/\∀n∈l,InK K n:=by
 rcases open_ints ht he hc h with⟨hcs,_⟩|⟨a,len,cap,zs,hcs,_,hl,hm,hz,_,hcell,hwz⟩
 ·exact⟨2,[],_,hcs,.sc nil0 rfl,.inr ⟨rfl,rfl⟩,by simp⟩
 ·exact⟨0,zs.take len,_,hcs,qo4 hl (by simpa using hz) hcell,.inl rfl,fun n hn=>hwz n (List.mem_of_mem_take hn)⟩
theorem arg_agg{xs:List AV}{vs:List Value}(hl:xs.length=vs.length)(h:∀(i:Nat) (x:AV) (v:Value),xs[i]?=some x->vs[i]?=some v->RelR (Kp W) W x v):Vo (Kp W) W (.agg xs) (.agg vs.toArray):=
 fun p=>⟨vs,rfl,hl,fun i x v hx hv=>(h i x v hx hv).c (p i)⟩
theorem cells_nil:∀(i:Nat) (x:AV) (v:Value),([]:List AV)[i]?=some x->([]:List Value)[i]?=some v->RelR (Kp W) W x v:=by simp
theorem cells_cons{x:AV}{v:Value}{xs:List AV}{vs:List Value}(h:RelR (Kp W) W x v)(t:∀(i:Nat) (x:AV) (v:Value),xs[i]?=some x->vs[i]?=some v->RelR (Kp W) W x v):
 ∀(i:Nat) (y:AV) (u:Value),(x::xs)[i]?=some y->(v::vs)[i]?=some u->RelR (Kp W) W y u:=by
 intro i y u hx hu
 cases i with
 |zero=>
  simp at hx hu
  subst hx hu
  exact h
 |succ i=>exact t i y u (by simpa using hx) (by simpa using hu)
end
theorem cell_at{l:List Value}{o n:Nat}{a:Value}(h:(l.drop o).take n=[a]):l[o]?=some a:=by
 have h0:((l.drop o).take n)[0]?=some a:=by rw[h];rfl
 have hn:0<n:=by
  cases n with
  |zero=>simp at h
  |succ n=>omega
 rw[List.getElem?_take_of_lt hn]at h0
 simpa using h0
theorem list_eq7{l:List Value}{a0 a1 a2 a3 a4 a5 a6:Value}(h:l.length=7)(h0:l[0]?=some a0) (h1:l[1]?=some a1) (h2:l[2]?=some a2) (h3:l[3]?=some a3) (h4:l[4]?=some a4) (h5:l[5]?=some a5) (h6:l[6]?=some a6):l=[a0,a1,a2,a3,a4,a5,a6]:=by
 apply List.ext_getElem?
 intro i
 match i with
 |0=>rw[h0];rfl
 |1=>rw[h1];rfl
 |2=>rw[h2];rfl
 |3=>rw[h3];rfl
 |4=>rw[h4];rfl
 |5=>rw[h5];rfl
 |6=>rw[h6];rfl
 |i+7=>rw[List.getElem?_eq_none (by omega),List.getElem?_eq_none (by simp)]
end Go.Proofs.YtchmioacjkbfcaaGreat.AI
namespace Go.Proofs.YtchmioacjkbfcaaGreat.AI
open Go
set_option linter.unusedVariables false
set_option linter.unusedSimpArgs false
set_option maxRecDepth 100000
set_option maxHeartbeats 0
def xE(n:Nat):Nat->List Bool
 |0=>[]
 |k+1=>n.testBit k::xE n k
def una(n:Nat):List Bool:=List.replicate n true++[false]
def by8(l:List Bool)(s:Nat):Nat:=
 (l.getD s false).toNat*128+(l.getD (s+1) false).toNat*64+(l.getD (s+2) false).toNat*32+(l.getD (s+3) false).toNat*16
  +(l.getD (s+4) false).toNat*8+(l.getD (s+5) false).toNat*4+(l.getD (s+6) false).toNat*2+(l.getD (s+7) false).toNat
def pk(l:List Bool):List Int:=(List.range ((l.length+7)/8)).map fun i=>(by8 l (8*i):Int)
def jN(b:List Int)(i:Nat):Bool:=(b.getD (i/8) 0).toNat.testBit (7-i%8)
@[simp] theorem qdb (n k : Nat) : (xE n k).length = k := by
 induction k with
 |zero=>rfl
 |succ k ih=>simp[xE,ih]
@[simp] theorem ZW (n : Nat) : (una n).length = n + 1 := by simp [una]
@[simp] theorem zR (l : List Bool) : (pk l).length = (l.length + 7) / 8 := by simp [pk]
theorem qvd:pk []=[]:=rfl
theorem b2n(b:Bool):b.toNat<=1:=by cases b<;>decide
theorem qle(l:List Bool)(s:Nat):by8 l s<256:=by
 unfold by8
 have:=b2n (l.getD s false);have:=b2n (l.getD (s+1) false);have:=b2n (l.getD (s+2) false);have:=b2n (l.getD (s+3) false)
 have:=b2n (l.getD (s+4) false);have:=b2n (l.getD (s+5) false);have:=b2n (l.getD (s+6) false);have:=b2n (l.getD (s+7) false)
 omega
theorem qc3(l:List Bool)(i:Nat)(h:i<(l.length+7)/8):(pk l).getD i 0=(by8 l (8*i):Int):=by
 unfold pk
 rw[List.getD_eq_getElem?_getD,List.getElem?_map,List.getElem?_range h]
 rfl
theorem qc2{l:List Bool}{x:Int}(h:x∈pk l):0<=x/\x<256:=by
 unfold pk at h
 obtain⟨i,_,rfl⟩:=List.mem_map.mp h
 have:=qle l (8*i)
 omega
theorem qgz(a b c d e f g h:Bool)(k:Nat)(hk:k<8):
 (a.toNat*128+b.toNat*64+c.toNat*32+d.toNat*16+e.toNat*8+f.toNat*4+g.toNat*2+h.toNat).testBit (7-k)=[a,b,c,d,e,f,g,h].getD k false:=by
 have:k=0\/k=1\/k=2\/k=3\/k=4\/k=5\/k=6\/k=7:=by omega
 rcases this with r|r|r|r|r|r|r|r<;>subst r<;>revert a b c d e f g h<;>decide
theorem qg5(l:List Bool)(i:Nat)(h:i<l.length):jN (pk l) i=l.getD i false:=by
 unfold jN
 rw[qc3 l (i/8) (by omega),Int.toNat_natCast]
 unfold by8
 rw[qgz _ _ _ _ _ _ _ _ _ (by omega)]
 have hi:i=8*(i/8)+i%8:=by omega
 generalize hq:8*(i/8)=q at*
 have:i%8=0\/i%8=1\/i%8=2\/i%8=3\/i%8=4\/i%8=5\/i%8=6\/i%8=7:=by omega
 rcases this with r|r|r|r|r|r|r|r<;>(rw[r]at hi⊢;rw[hi];rfl)
theorem JH(l:List Bool)(i:Nat)(h:l.length<=i):jN (pk l) i=false:=by
 unfold jN
 by_cases h1:i/8<(l.length+7)/8
 ·rw[qc3 l (i/8) h1,Int.toNat_natCast]
  unfold by8
  rw[qgz _ _ _ _ _ _ _ _ _ (by omega)]
  have hi:i=8*(i/8)+i%8:=by omega
  have hz:∀j,l.length<=j->l.getD j false=false:=fun j hj=>by
   rw[List.getD_eq_getElem?_getD,List.getElem?_eq_none hj];rfl
  generalize hq:8*(i/8)=q at*
  have:i%8=0\/i%8=1\/i%8=2\/i%8=3\/i%8=4\/i%8=5\/i%8=6\/i%8=7:=by omega
  rcases this with r|r|r|r|r|r|r|r<;>(rw[r]at hi⊢;rw[hi]at h;first|exact hz _ h|exact hz _ (by omega))
 ·rw[List.getD_eq_getElem?_getD,List.getElem?_eq_none (by rw[zR];omega)]
  exact Nat.zero_testBit _
theorem QS(l:List Bool)(b:Bool)(j:Nat):(l++[b]).getD j false=if j<l.length then l.getD j false else if j=l.length then b else false:=by
 rw[List.getD_eq_getElem?_getD,List.getD_eq_getElem?_getD]
 by_cases h:j<l.length
 ·rw[if_pos h,List.getElem?_append_left h]
 ·rw[if_neg h,List.getElem?_append_right (by omega)]
  by_cases h1:j=l.length
  ·simp[h1]
  ·rw[if_neg h1,List.getElem?_eq_none (by simp;omega)];rfl
theorem qfk(l:List Bool):pk (l++[false])=if l.length%8=0 then pk l++[0]else pk l:=by
 have hb:∀s,by8 (l++[false]) s=by8 l s:=by
  intro s
  have hg:∀j,(l++[false]).getD j false=l.getD j false:=by
   intro j
   rw[QS]
   by_cases h:j<l.length
   ·rw[if_pos h]
   ·rw[if_neg h]
    have:l.getD j false=false:=by rw[List.getD_eq_getElem?_getD,List.getElem?_eq_none (by omega)];rfl
    rw[this];simp
  unfold by8
  simp only[hg]
 unfold pk
 simp only[hb,List.length_append,List.length_singleton]
 by_cases h:l.length%8=0
 ·rw[if_pos h]
  have e:(l.length+1+7)/8=(l.length+7)/8+1:=by omega
  have e2:8*((l.length+7)/8)=l.length:=by omega
  rw[e,List.range_succ,List.map_append]
  congr 1
  simp only[List.map_cons,List.map_nil,e2]
  have hz:∀j,l.getD (l.length+j) false=false:=fun j=>by
   rw[List.getD_eq_getElem?_getD,List.getElem?_eq_none (by omega)];rfl
  have hz0:=hz 0
  rw[Nat.add_zero]at hz0
  unfold by8
  simp only[hz,hz0]
  rfl
 ·rw[if_neg h]
  have e:(l.length+1+7)/8=(l.length+7)/8:=by omega
  rw[e]
theorem zad(l:List Bool):pk (l++[true])=(pk (l++[false])).set (l.length/8) (by8 (l++[true]) (8*(l.length/8)):Int):=by
 apply List.ext_getElem?
 intro i
 rw[List.getElem?_set]
 by_cases hi:i<(l.length+1+7)/8
 ·have e:∀b,(pk (l++[b]))[i]?=some (by8 (l++[b]) (8*i):Int):=by
   intro b
   unfold pk
   rw[List.getElem?_map,List.getElem?_range (by simpa using hi)]
   rfl
  rw[e,e,zR,List.length_append,List.length_singleton]
  by_cases h1:l.length/8=i
  ·rw[if_pos h1,if_pos (by omega),h1]
  ·rw[if_neg h1]
   have hg:∀j,j<8->(l++[true]).getD (8*i+j) false=(l++[false]).getD (8*i+j) false:=by
    intro j hj
    rw[QS,QS]
    have:8*i+j≠l.length:=by omega
    simp[this]
   have h0:=hg 0 (by omega)
   rw[Nat.add_zero]at h0
   unfold by8
   rw[h0,hg 1 (by omega),hg 2 (by omega),hg 3 (by omega),hg 4 (by omega),hg 5 (by omega),hg 6 (by omega),hg 7 (by omega)]
 ·have e:∀b,(pk (l++[b]))[i]?=none:=by
   intro b
   rw[List.getElem?_eq_none]
   rw[zR,List.length_append,List.length_singleton]
   omega
  rw[e,e,zR,List.length_append,List.length_singleton]
  by_cases h1:l.length/8=i
  ·omega
  ·rw[if_neg h1]
theorem ze8(l:List Bool):(BitVec.ofNat 8 (by8 (l++[false]) (8*(l.length/8)))|||BitVec.ofNat 8 (2^(7-l.length%8))).toNat=by8 (l++[true]) (8*(l.length/8)):=by
 have hi:l.length=8*(l.length/8)+l.length%8:=by omega
 unfold by8
 simp only[QS]
 generalize hq:8*(l.length/8)=q at*
 have hr:l.length%8=0\/l.length%8=1\/l.length%8=2\/l.length%8=3\/l.length%8=4\/l.length%8=5\/l.length%8=6\/l.length%8=7:=by omega
 generalize l.getD q false=a0
 generalize l.getD (q+1) false=a1
 generalize l.getD (q+2) false=a2
 generalize l.getD (q+3) false=a3
 generalize l.getD (q+4) false=a4
 generalize l.getD (q+5) false=a5
 generalize l.getD (q+6) false=a6
 generalize l.getD (q+7) false=a7
 generalize l.length%8=r at*
 rw[hi]
 rcases hr with e|e|e|e|e|e|e|e<;>subst e<;>simp[show∀j,¬(q+j<q)from fun j=>by omega]
 ·cases a0<;>rfl
 ·cases a0<;>cases a1<;>rfl
 ·cases a0<;>cases a1<;>cases a2<;>rfl
 ·cases a0<;>cases a1<;>cases a2<;>cases a3<;>rfl
 ·cases a0<;>cases a1<;>cases a2<;>cases a3<;>cases a4<;>rfl
 ·cases a0<;>cases a1<;>cases a2<;>cases a3<;>cases a4<;>cases a5<;>rfl
 ·cases a0<;>cases a1<;>cases a2<;>cases a3<;>cases a4<;>cases a5<;>cases a6<;>rfl
end Go.Proofs.YtchmioacjkbfcaaGreat.AI
namespace Go.Proofs.YtchmioacjkbfcaaGreat.AI
set_option linter.unusedVariables false
set_option linter.unusedSimpArgs false
def mrg:List Int->List Int->List Int
 |[],b=>b
 |a,[]=>a
 |x::a,y::b=>if x<y then x::mrg a (y::b)else if y<x then y::mrg (x::a) b else x::mrg a b
termination_by a b=>a.length+b.length
@[simp] theorem WD (b : List Int) : mrg [] b = b := by unfold mrg; rfl
@[simp] theorem WC (a : List Int) : mrg a [] = a := by cases a <;> (unfold mrg; rfl)
theorem zI(x:Int)(a:List Int)(y:Int)(b:List Int):mrg (x::a) (y::b)=if x<y then x::mrg a (y::b)else if y<x then y::mrg (x::a) b else x::mrg a b:=by
 rw[mrg]
theorem Xj{motive:List Int->List Int->Prop}(h1:∀b,motive [] b)(h2:∀a,motive a [])(h3:∀x a y b,x<y->motive a (y::b)->motive (x::a) (y::b))
 (h4:∀x a y b,y<x->motive (x::a) b->motive (x::a) (y::b)) (h5:∀x a b,motive a b->motive (x::a) (x::b)):∀a b,motive a b:=by
 intro a b
 generalize hn:a.length+b.length=n
 induction n using Nat.strongRecOn generalizing a b with
 |_ n ih=>
  cases a with
  |nil=>exact h1 b
  |cons x a=>
   cases b with
   |nil=>exact h2 _
   |cons y b=>
    by_cases hxy:x<y
    ·exact h3 x a y b hxy (ih (a.length+(y::b).length) (by simp at hn⊢;omega) _ _ rfl)
    ·by_cases hyx:y<x
     ·exact h4 x a y b hyx (ih ((x::a).length+b.length) (by simp at hn⊢;omega) _ _ rfl)
     ·have:x=y:=by omega
      subst this
      exact h5 x a b (ih (a.length+b.length) (by simp at hn⊢;omega) _ _ rfl)
theorem wv(n:Int):∀a b,n∈mrg a b↔n∈a\/n∈b:=by
 apply Xj
 ·intro b;simp
 ·intro a;simp
 ·intro x a y b h ih
  rw[zI,if_pos h,List.mem_cons,ih,List.mem_cons,List.mem_cons]
  constructor
  ·rintro(h|h|h|h)
   ·exact .inl (.inl h)
   ·exact .inl (.inr h)
   ·exact .inr (.inl h)
   ·exact .inr (.inr h)
  ·rintro((h|h)|(h|h))
   ·exact .inl h
   ·exact .inr (.inl h)
   ·exact .inr (.inr (.inl h))
   ·exact .inr (.inr (.inr h))
 ·intro x a y b h ih
  rw[zI,if_neg (by omega),if_pos h,List.mem_cons,ih,List.mem_cons,List.mem_cons]
  constructor
  ·rintro(h|(h|h)|h)
   ·exact .inr (.inl h)
   ·exact .inl (.inl h)
   ·exact .inl (.inr h)
   ·exact .inr (.inr h)
  ·rintro((h|h)|(h|h))
   ·exact .inr (.inl (.inl h))
   ·exact .inr (.inl (.inr h))
   ·exact .inl h
   ·exact .inr (.inr h)
 ·intro x a b ih
  rw[zI,if_neg (by omega),if_neg (by omega),List.mem_cons,ih,List.mem_cons,List.mem_cons]
  constructor
  ·rintro(h|h|h)
   ·exact .inl (.inl h)
   ·exact .inl (.inr h)
   ·exact .inr (.inr h)
  ·rintro((h|h)|(h|h))
   ·exact .inl h
   ·exact .inr (.inl h)
   ·exact .inl h
   ·exact .inr (.inr h)
abbrev yf(l:List Int):Prop:=l.Pairwise (·<·)
theorem Qf:∀a b,yf a->yf b->yf (mrg a b):=by
 apply Xj (motive:=fun a b=>yf a->yf b->yf (mrg a b))
 ·intro b _ h;simpa using h
 ·intro a h _;simpa using h
 ·intro x a y b h ih ha hb
  rw[zI,if_pos h]
  have ha:=List.pairwise_cons.mp ha
  refine List.pairwise_cons.mpr ⟨fun n hn=>?_,ih ha.2 hb⟩
  rcases(wv n a (y::b)).mp hn with h'|h'
  ·exact ha.1 n h'
  ·rcases List.mem_cons.mp h' with rfl|h'
   ·exact h
   ·have:=(List.pairwise_cons.mp hb).1 n h';omega
 ·intro x a y b h ih ha hb
  rw[zI,if_neg (by omega),if_pos h]
  have hb':=List.pairwise_cons.mp hb
  refine List.pairwise_cons.mpr ⟨fun n hn=>?_,ih ha hb'.2⟩
  rcases(wv n (x::a) b).mp hn with h'|h'
  ·rcases List.mem_cons.mp h' with rfl|h'
   ·exact h
   ·have:=(List.pairwise_cons.mp ha).1 n h';omega
  ·exact hb'.1 n h'
 ·intro x a b ih ha hb
  rw[zI,if_neg (by omega),if_neg (by omega)]
  have ha':=List.pairwise_cons.mp ha
  have hb':=List.pairwise_cons.mp hb
  refine List.pairwise_cons.mpr ⟨fun n hn=>?_,ih ha'.2 hb'.2⟩
  rcases(wv n a b).mp hn with h'|h'
  ·exact ha'.1 n h'
  ·exact hb'.1 n h'
theorem qmy:∀a b,(mrg a b).length<=a.length+b.length:=by
 apply Xj (motive:=fun a b=>(mrg a b).length<=a.length+b.length)
 ·intro b;simp
 ·intro a;simp
 ·intro x a y b h ih
  rw[zI,if_pos h];simp at ih⊢;omega
 ·intro x a y b h ih
  rw[zI,if_neg (by omega),if_pos h];simp at ih⊢;omega
 ·intro x a b ih
  rw[zI,if_neg (by omega),if_neg (by omega)];simp at ih⊢;omega
theorem XU:∀{a b:List Int},yf a->yf b->(∀n,n∈a↔n∈b)->a=b
 |[],[],_,_,_=>rfl
 |[],y::b,_,_,h=>absurd ((h y).mpr (by simp)) (by simp)
 |x::a,[],_,_,h=>absurd ((h x).mp (by simp)) (by simp)
 |x::a,y::b,ha,hb,h=>by
  have ha':=List.pairwise_cons.mp ha
  have hb':=List.pairwise_cons.mp hb
  have hxy:x=y:=by
   have h1:=List.mem_cons.mp ((h x).mp (by simp))
   have h2:=List.mem_cons.mp ((h y).mpr (by simp))
   rcases h1 with h1|h1
   ·exact h1
   ·rcases h2 with h2|h2
    ·exact h2.symm
    ·have:=ha'.1 y h2
     have:=hb'.1 x h1
     omega
  subst hxy
  congr 1
  refine XU ha'.2 hb'.2 fun n=>?_
  have:=h n
  constructor
  ·intro hn
   have hlt:=ha'.1 n hn
   rcases List.mem_cons.mp (this.mp (List.mem_cons_of_mem _ hn))with rfl|h'
   ·omega
   ·exact h'
  ·intro hn
   have hlt:=hb'.1 n hn
   rcases List.mem_cons.mp (this.mpr (List.mem_cons_of_mem _ hn))with rfl|h'
   ·omega
   ·exact h'
theorem zay{a b:List Int}(ha:yf a)(hb:yf b)(h:∀n∈b,n∈a):mrg a b=a:=
 XU (Qf _ _ ha hb) ha fun n=>by rw[wv];exact⟨fun h'=>h'.elim id (h n),.inl⟩
end Go.Proofs.YtchmioacjkbfcaaGreat.AI
namespace Go.Proofs.YtchmioacjkbfcaaGreat.AI
set_option linter.unusedVariables false
set_option linter.unusedSimpArgs false
theorem qtj:∀(A B:List Int) (k m n:Nat),k<=m->k<=n->(mrg (A.take m) (B.take n)).take k=(mrg A B).take k:=by
 apply Xj (motive:=fun A B=>∀(k m n:Nat),k<=m->k<=n->(mrg (A.take m) (B.take n)).take k=(mrg A B).take k)
 ·intro b k m n hm hn
  rw[List.take_nil,WD,WD,List.take_take,Nat.min_eq_left hn]
 ·intro a k m n hm hn
  rw[List.take_nil,WC,WC,List.take_take,Nat.min_eq_left hm]
 ·intro x a y b h ih k m n hm hn
  match k,m,n,hm,hn with
  |0,_,_,_,_=>simp
  |k+1,m+1,n+1,hm,hn=>
   have:=ih k m (n+1) (by omega) (by omega)
   rw[List.take_succ_cons]at this
   rw[List.take_succ_cons,List.take_succ_cons,zI,zI,if_pos h,if_pos h,List.take_succ_cons,List.take_succ_cons,this]
 ·intro x a y b h ih k m n hm hn
  match k,m,n,hm,hn with
  |0,_,_,_,_=>simp
  |k+1,m+1,n+1,hm,hn=>
   have n1:¬x<y:=by omega
   have:=ih k (m+1) n (by omega) (by omega)
   rw[List.take_succ_cons]at this
   rw[List.take_succ_cons,List.take_succ_cons,zI,zI,if_neg n1,if_pos h,if_neg n1,if_pos h,List.take_succ_cons,List.take_succ_cons,this]
 ·intro x a b ih k m n hm hn
  match k,m,n,hm,hn with
  |0,_,_,_,_=>simp
  |k+1,m+1,n+1,hm,hn=>
   have n1:¬x<x:=by omega
   have:=ih k m n (by omega) (by omega)
   rw[List.take_succ_cons,List.take_succ_cons,zI,zI,if_neg n1,if_neg n1,if_neg n1,if_neg n1,List.take_succ_cons,List.take_succ_cons,this]
theorem qiy(A B:List Int)(k:Nat):(mrg (A.take k) B).take k=(mrg A B).take k:=by
 have h:=qtj A B k k (k+B.length) (by omega) (by omega)
 rwa [List.take_of_length_le (by omega:B.length<=k+B.length)]at h
theorem qoz{l:List Int}(k:Nat)(h:yf l):yf (l.take k):=List.Pairwise.sublist (List.take_sublist k l) h
def YH(acc:List Int):List Int->List Int
 |[]=>acc
 |n::r=>YH (mrg acc [n]) r
theorem XF:∀(r:List Int) {acc:List Int},yf acc->yf (YH acc r)
 |[],_,h=>h
 |n::r,_,h=>XF r (Qf _ _ h (by simp))
theorem qde(x:Int):∀(r acc:List Int),x∈YH acc r↔x∈acc\/x∈r
 |[],acc=>by simp[YH]
 |n::r,acc=>by
  rw[YH,qde x r,wv]
  simp[or_assoc]
def Qq(K:Nat)(acc:List Int):List Int->List Int
 |[]=>acc
 |n::r=>Qq K ((mrg acc [n]).take K) r
theorem qf4(K:Nat):∀(r acc:List Int),Qq K (acc.take K) r=(YH acc r).take K
 |[],acc=>rfl
 |n::r,acc=>by
  rw[Qq,qiy,qf4 K r,YH]
theorem qdj(K:Nat)(r:List Int):Qq K [] r=(YH [] r).take K:=by
 simpa using qf4 K r []
theorem qp3(K:Nat)(a:List Int):yf (Qq K [] a):=by rw[qdj];exact qoz K (XF a List.Pairwise.nil)
theorem qwj(K:Nat)(a:List Int):(Qq K [] a).length<=K:=by rw[qdj,List.length_take];omega
theorem qv9{K:Nat}{a:List Int}{x:Int}(h:x∈Qq K [] a):x∈a:=by
 rw[qdj]at h
 have:=(qde x a []).mp (List.mem_of_mem_take h)
 simpa using this
end Go.Proofs.YtchmioacjkbfcaaGreat.AI
namespace Go.Proofs.YtchmioacjkbfcaaGreat.AI
open Ieee
set_option linter.unusedVariables false
set_option linter.unusedSimpArgs false
def yn(x:Nat):Prop:=9218868437227405312<x%9223372036854775808
instance (x : Nat) : Decidable (yn x) := by unfold yn; infer_instance
def zQ(x:Nat):Int:=if x/9223372036854775808%2=1 then -((x%9223372036854775808:Nat):Int)else((x%9223372036854775808:Nat):Int)
def yj(r:Nat):Nat:=if r<4503599627370496 then r else(4503599627370496+r%4503599627370496)*2^(r/4503599627370496-1)
theorem Xm{a b:Nat}(h:a<b):yj a<yj b:=by
 unfold yj
 by_cases ha:a<4503599627370496
 ·rw[if_pos ha]
  by_cases hb:b<4503599627370496
  ·rw[if_pos hb];exact h
  ·rw[if_neg hb]
   have h1:1<=2^(b/4503599627370496-1):=Nat.one_le_two_pow
   have h2:=Nat.mul_le_mul (Nat.le_refl (4503599627370496+b%4503599627370496)) h1
   omega
 ·have hb:¬b<4503599627370496:=by omega
  rw[if_neg ha,if_neg hb]
  by_cases hq:a/4503599627370496=b/4503599627370496
  ·rw[hq]
   have hr:a%4503599627370496<b%4503599627370496:=by omega
   exact Nat.mul_lt_mul_of_pos_right (by omega) (Nat.two_pow_pos _)
  ·have hq':a/4503599627370496<b/4503599627370496:=by omega
   have h1:(4503599627370496+a%4503599627370496)*2^(a/4503599627370496-1)<(2*4503599627370496)*2^(a/4503599627370496-1):=by
    have:a%4503599627370496<4503599627370496:=Nat.mod_lt _ (by omega)
    exact Nat.mul_lt_mul_of_pos_right (by omega) (Nat.two_pow_pos _)
   have h2:2^(a/4503599627370496-1)*2=2^(a/4503599627370496):=by
    rw[<-Nat.pow_succ]
    congr 1
    omega
   have h3:2^(a/4503599627370496)<=2^(b/4503599627370496-1):=Nat.pow_le_pow_right (by omega) (by omega)
   have h4:4503599627370496*2^(b/4503599627370496-1)<=(4503599627370496+b%4503599627370496)*2^(b/4503599627370496-1):=Nat.mul_le_mul (by omega) (Nat.le_refl _)
   have h5:(2*4503599627370496)*2^(a/4503599627370496-1)=4503599627370496*2^(a/4503599627370496):=by
    rw[<-h2];generalize 2^(a/4503599627370496-1)=z;omega
   have h6:=Nat.mul_le_mul (Nat.le_refl 4503599627370496) h3
   omega
theorem Kj{a b:Nat}(h:yj a=yj b):a=b:=by
 rcases Nat.lt_trichotomy a b with h'|h'|h'
 ·have:=Xm h';omega
 ·exact h'
 ·have:=Xm h';omega
theorem qdf:yj 0=0:=rfl
theorem xT(a b:Int):compare a b=if a<b then .lt else if a=b then .eq else .gt:=rfl
theorem qqr(a b:Int){c:Int}(hc:0<c):compare a b=compare (a*c) (b*c):=by
 rw[xT,xT]
 have h1:a*c<b*c↔a<b:=Int.mul_lt_mul_right hc
 have h2:a*c=b*c↔a=b:=⟨fun h=>Int.eq_of_mul_eq_mul_right (by omega) h,fun h=>by rw[h]⟩
 simp only[h1,h2]
theorem Jm{x:Nat}(h:x%9223372036854775808<9218868437227405312):∃(m i:Nat),double.read x= .number (x/9223372036854775808%2==1) m (-1074+i)/\m*2^i=yj (x%9223372036854775808):=by
 have e1:double.signWeight=9223372036854775808:=by decide
 have e2:double.binade=4503599627370496:=by decide
 have e3:double.infRung=9218868437227405312:=by decide
 have e4:double.leastPlace=-1074:=by decide
 unfold Format.read
 simp only[e1,e2,e3,e4]
 unfold yj
 by_cases hb:x%9223372036854775808<4503599627370496
 ·rw[if_pos hb,if_pos hb]
  exact⟨_,0,rfl,by simp⟩
 ·rw[if_neg hb,if_neg hb,if_pos h]
  exact⟨_,_,rfl,rfl⟩
theorem Jl{x:Nat}(h:x%9223372036854775808=9218868437227405312):double.read x= .infinity (x/9223372036854775808%2==1):=by
 have e1:double.signWeight=9223372036854775808:=by decide
 have e2:double.binade=4503599627370496:=by decide
 have e3:double.infRung=9218868437227405312:=by decide
 unfold Format.read
 simp only[e1,e2,e3]
 rw[if_neg (by omega),if_neg (by omega),if_pos h]
theorem qfd{x:Nat}(h:yn x):∃s t,double.read x= .nan s t:=by
 unfold yn at h
 have e1:double.signWeight=9223372036854775808:=by decide
 have e2:double.binade=4503599627370496:=by decide
 have e3:double.infRung=9218868437227405312:=by decide
 unfold Format.read
 simp only[e1,e2,e3]
 rw[if_neg (by omega),if_neg (by omega),if_neg (by omega)]
 exact⟨_,_,rfl⟩
theorem Qi{x y:Nat}(h:yn x):double.order x y=none:=by
 obtain⟨s,t,e⟩:=qfd h
 unfold Format.order
 rw[e]
 rfl
theorem Qh{x y:Nat}(h:yn y):double.order x y=none:=by
 obtain⟨s,t,e⟩:=qfd h
 unfold Format.order
 rw[e]
 cases double.read x<;>rfl
def sg(s:Bool)(m:Int):Int:=if s then -m else m
theorem ze4(s t:Bool)(a b:Nat):compare (sg s (yj a)) (sg t (yj b))=compare (sg s (a:Int)) (sg t (b:Int)):=by
 have h1:yj a<yj b↔a<b:=by
  constructor
  ·intro h
   rcases Nat.lt_trichotomy a b with h'|h'|h'
   ·exact h'
   ·subst h';omega
   ·have:=Xm h';omega
  ·exact Xm
 have h2:yj a=yj b↔a=b:=⟨Kj,fun h=>by rw[h]⟩
 have h3:yj a=0↔a=0:=⟨fun h=>Kj (b:=0) (by rw[h,qdf]),fun h=>by rw[h,qdf]⟩
 have h4:yj b=0↔b=0:=⟨fun h=>Kj (b:=0) (by rw[h,qdf]),fun h=>by rw[h,qdf]⟩
 rw[xT,xT]
 cases s<;>cases t<;>simp only[sg,if_true,if_false,Bool.false_eq_true]
 ·have c1:((yj a:Nat):Int)<(yj b:Nat)↔(a:Int)<b:=by omega
  have c2:((yj a:Nat):Int)=(yj b:Nat)↔(a:Int)=b:=by omega
  simp only[c1,c2]
 ·have c1:((yj a:Nat):Int)< -(yj b:Nat)↔(a:Int)< -(b:Int):=by omega
  have c2:((yj a:Nat):Int)=-(yj b:Nat)↔(a:Int)=-(b:Int):=by omega
  simp only[c1,c2]
 ·have c1:-((yj a:Nat):Int)<(yj b:Nat)↔-(a:Int)<(b:Int):=by omega
  have c2:-((yj a:Nat):Int)=(yj b:Nat)↔-(a:Int)=(b:Int):=by omega
  simp only[c1,c2]
 ·have c1:-((yj a:Nat):Int)< -(yj b:Nat)↔-(a:Int)< -(b:Int):=by omega
  have c2:-((yj a:Nat):Int)=-(yj b:Nat)↔-(a:Int)=-(b:Int):=by omega
  simp only[c1,c2]
theorem vm(x:Nat):zQ x=sg (x/9223372036854775808%2==1) ((x%9223372036854775808:Nat):Int):=by
 unfold zQ sg
 by_cases h:x/9223372036854775808%2=1<;>simp[h]
theorem VU(s:Bool)(m k:Nat):Ieee.signed s m k=sg s ((m*2^k:Nat):Int):=by
 unfold Ieee.signed sg
 rw[Nat.shiftLeft_eq]
 try (cases s<;>rfl)
theorem qpj{x y:Nat}(hx:x%9223372036854775808<9218868437227405312)(hy:y%9223372036854775808<9218868437227405312):double.order x y=some (compare (zQ x) (zQ y)):=by
 obtain⟨m,i,e1,e2⟩:=Jm hx
 obtain⟨n,j,f1,f2⟩:=Jm hy
 unfold Format.order
 rw[e1,f1]
 simp only[Datum.order]
 rw[vm,vm,<-ze4,<-e2,<-f2,VU,VU]
 congr 1
 have hc:(0:Int)<((2^(min i j):Nat):Int):=by have:=Nat.two_pow_pos (min i j);omega
 rw[qqr _ _ hc]
 have p1:(-1074+(i:Int)-min (-1074+(i:Int)) (-1074+(j:Int))).toNat+min i j=i:=by omega
 have p2:(-1074+(j:Int)-min (-1074+(i:Int)) (-1074+(j:Int))).toNat+min i j=j:=by omega
 have q:∀(s:Bool) (m k c:Nat),sg s ((m*2^k:Nat):Int)*((2^c:Nat):Int)=sg s ((m*2^(k+c):Nat):Int):=by
  intro s m k c
  rw[Nat.pow_add,<-Nat.mul_assoc]
  cases s
  ·simp only[sg,Bool.false_eq_true,if_false];rw[<-Int.natCast_mul]
  ·simp only[sg,if_true];rw[Int.neg_mul,<-Int.natCast_mul]
 rw[q,q,p1,p2]
theorem Yi{x y:Nat}(hx:¬yn x)(hy:¬yn y):double.order x y=some (compare (zQ x) (zQ y)):=by
 unfold yn at hx hy
 by_cases ix:x%9223372036854775808=9218868437227405312
 ·by_cases iy:y%9223372036854775808=9218868437227405312
  ·unfold Format.order
   rw[Jl ix,Jl iy]
   simp only[Datum.order]
   rw[vm,vm,ix,iy]
   cases(x/9223372036854775808%2==1)<;>cases(y/9223372036854775808%2==1)<;>decide
  ·obtain⟨n,j,f1,f2⟩:=Jm (x:=y) (by omega)
   unfold Format.order
   rw[Jl ix,f1]
   simp only[Datum.order]
   rw[vm,vm,ix,xT]
   generalize y%9223372036854775808=r at*
   cases(x/9223372036854775808%2==1)<;>cases(y/9223372036854775808%2==1)<;>simp only[sg,if_true,if_false,Bool.false_eq_true]
   ·rw[if_neg (by omega),if_neg (by omega)]
   ·rw[if_neg (by omega),if_neg (by omega)]
   ·rw[if_pos (by omega)]
   ·rw[if_pos (by omega)]
 ·by_cases iy:y%9223372036854775808=9218868437227405312
  ·obtain⟨n,j,f1,f2⟩:=Jm (x:=x) (by omega)
   unfold Format.order
   rw[Jl iy,f1]
   simp only[Datum.order]
   rw[vm,vm,iy,xT]
   generalize x%9223372036854775808=r at*
   cases(x/9223372036854775808%2==1)<;>cases(y/9223372036854775808%2==1)<;>simp only[sg,if_true,if_false,Bool.false_eq_true]
   ·rw[if_pos (by omega)]
   ·rw[if_neg (by omega),if_neg (by omega)]
   ·rw[if_pos (by omega)]
   ·rw[if_neg (by omega),if_neg (by omega)]
  ·exact qpj (by omega) (by omega)
theorem zev(x y:Nat):(double.order x y==some .eq)=decide (¬yn x/\¬yn y/\zQ x=zQ y):=by
 by_cases hx:yn x
 ·rw[Qi hx];simp[hx]
 ·by_cases hy:yn y
  ·rw[Qh hy];simp[hy]
  ·rw[Yi hx hy,xT]
   rcases Int.lt_trichotomy (zQ x) (zQ y)with h|h|h
   ·have:¬(zQ x=zQ y):=by omega
    simp[hx,hy,h,this]
   ·have:¬(zQ x<zQ y):=by omega
    simp[hx,hy,h]
   ·have h1:¬(zQ x<zQ y):=by omega
    have h2:¬(zQ x=zQ y):=by omega
    simp[hx,hy,h1,h2]
theorem f_lt(x y:Nat):(double.order x y==some .lt)=decide (¬yn x/\¬yn y/\zQ x<zQ y):=by
 by_cases hx:yn x
 ·rw[Qi hx];simp[hx]
 ·by_cases hy:yn y
  ·rw[Qh hy];simp[hy]
  ·rw[Yi hx hy,xT]
   rcases Int.lt_trichotomy (zQ x) (zQ y)with h|h|h
   ·simp[hx,hy,h]
   ·have:¬(zQ x<zQ y):=by omega
    simp[hx,hy,h]
   ·have h1:¬(zQ x<zQ y):=by omega
    have h2:¬(zQ x=zQ y):=by omega
    simp[hx,hy,h1,h2]
theorem f_gt(x y:Nat):(double.order x y==some .gt)=decide (¬yn x/\¬yn y/\zQ y<zQ x):=by
 by_cases hx:yn x
 ·rw[Qi hx];simp[hx]
 ·by_cases hy:yn y
  ·rw[Qh hy];simp[hy]
  ·rw[Yi hx hy,xT]
   rcases Int.lt_trichotomy (zQ x) (zQ y)with h|h|h
   ·have h1:¬(zQ y<zQ x):=by omega
    simp[hx,hy,h,h1]
   ·have:¬(zQ y<zQ x):=by omega
    simp[hx,hy,h]
   ·have h1:¬(zQ x<zQ y):=by omega
    have h2:¬(zQ x=zQ y):=by omega
    simp[hx,hy,h1,h2,h]
end Go.Proofs.YtchmioacjkbfcaaGreat.AI
namespace Go.Proofs.YtchmioacjkbfcaaGreat.AI
open Go
set_option linter.unusedVariables false
set_option linter.unusedSimpArgs false
set_option maxRecDepth 100000
set_option maxHeartbeats 0
theorem qqt(n:Nat)(h:n<9223372036854775808):(BitVec.ofInt 64 (n:Int)|||BitVec.ofInt 64 9223372036854775808).toNat=n+9223372036854775808:=by
 rw[BitVec.toNat_or,BitVec.toNat_ofInt,BitVec.toNat_ofInt]
 have e1:(((n:Int)%((2^64:Nat):Int)).toNat)=n:=by omega
 have e2:(((9223372036854775808:Int)%((2^64:Nat):Int)).toNat)=2^63*1:=by decide
 rw[e1,e2,Nat.or_comm,<-Nat.two_pow_add_eq_or_of_lt (by simpa using h)]
 omega
theorem VG(n:Nat)(h:n<9223372036854775808):(BitVec.ofInt 64 (n:Int)&&&BitVec.ofInt 64 9223372036854775808).toNat=0:=by
 rw[BitVec.toNat_and,BitVec.toNat_ofInt,BitVec.toNat_ofInt]
 have e1:(((n:Int)%((2^64:Nat):Int)).toNat)=n:=by omega
 have e2:(((9223372036854775808:Int)%((2^64:Nat):Int)).toNat)=2^63:=by decide
 rw[e1,e2]
 apply Nat.eq_of_testBit_eq
 intro i
 rw[Nat.testBit_and,Nat.testBit_two_pow,Nat.zero_testBit]
 by_cases hi:63=i
 ·subst hi
  rw[Nat.testBit_lt_two_pow (by simpa using h)]
  rfl
 ·simp[hi]
theorem VH(n:Nat)(h:9223372036854775808<=n)(h':n<18446744073709551616):(BitVec.ofInt 64 (n:Int)&&&BitVec.ofInt 64 9223372036854775808).toNat=9223372036854775808:=by
 rw[BitVec.toNat_and,BitVec.toNat_ofInt,BitVec.toNat_ofInt]
 have e1:(((n:Int)%((2^64:Nat):Int)).toNat)=n:=by omega
 have e2:(((9223372036854775808:Int)%((2^64:Nat):Int)).toNat)=2^63:=by decide
 have e3:(9223372036854775808:Nat)=2^63:=by decide
 rw[e1,e2]
 conv=>rhs;rw[e3]
 obtain⟨m,rfl⟩:∃m,n=2^63*1+m:=⟨n-2^63,by omega⟩
 rw[Nat.two_pow_add_eq_or_of_lt (by omega)]
 apply Nat.eq_of_testBit_eq
 intro i
 rw[Nat.testBit_and,Nat.testBit_or,Nat.mul_one,Nat.testBit_two_pow]
 by_cases hi:63=i
 ·subst hi;simp
 ·simp[hi]
theorem qdt(n:Nat)(h':n<18446744073709551616):(BitVec.ofInt 64 (n:Int)&&&~~~(BitVec.ofInt 64 9223372036854775808)).toNat=n%9223372036854775808:=by
 have e2:(~~~(BitVec.ofInt 64 9223372036854775808)).toNat=2^63-1:=by decide
 rw[BitVec.toNat_and,BitVec.toNat_ofInt,e2,Nat.and_two_pow_sub_one_eq_mod]
 have e1:(((n:Int)%((2^64:Nat):Int)).toNat)=n:=by omega
 rw[e1]
def kw(w:Nat):Nat:=if yn w then 18444492273895866369 else if w<9223372036854775808 then w+9223372036854775808 else 18446744073709551615-w
def wk(k:Nat):Nat:=if k<9223372036854775808 then 18446744073709551615-k else k-9223372036854775808
def qv3(k:Nat):Bool:=decide (kw (wk k)=k)
theorem vG(w:Nat)(h:w<18446744073709551616):kw w<18446744073709551616:=by
 unfold kw;repeat' split
 all_goals omega
theorem VN(k:Nat)(h:k<18446744073709551616):wk k<18446744073709551616:=by
 unfold wk;split<;>omega
theorem zgk{w:Nat}(h:w<18446744073709551616)(hn:¬yn w):wk (kw w)=w:=by
 unfold kw
 rw[if_neg hn]
 unfold wk
 repeat' split
 all_goals omega
theorem qf3(w:Nat)(h:w<18446744073709551616):kw (wk (kw w))=kw w:=by
 by_cases hn:yn w
 ·unfold kw
  rw[if_pos hn]
  decide
 ·rw[zgk h hn]
def vh(w:Nat):Int:=if yn w then 6 else if w=9218868437227405312 then 5 else if w=18442240474082181120 then 0 else if w=9223372036854775808 then 2 else if w=0 then 3 else if w<9223372036854775808 then 4 else 1
def YQ(a b:Nat):Bool:=decide (¬yn a/\¬yn b/\zQ a<zQ b)
end Go.Proofs.YtchmioacjkbfcaaGreat.AI
namespace Go.Proofs.YtchmioacjkbfcaaGreat.AI
set_option linter.unusedVariables false
set_option linter.unusedSimpArgs false
def Bl(x n:Nat):Prop:=x<2^n/\(n=0\/2^(n-1)<=x)
theorem Bl.up{x k n:Nat}(h:Bl (x/2^k) n)(hx:2^k<=x):Bl x (n+k):=by
 obtain⟨h1,h2⟩:=h
 have hp:=Nat.two_pow_pos k
 have hn:n≠0:=by
  intro e
  subst e
  have:1<=x/2^k:=(Nat.one_le_div_iff hp).mpr hx
  simp at h1
  omega
 refine⟨?_,.inr ?_⟩
 ·rw[Nat.pow_add]
  exact(Nat.div_lt_iff_lt_mul hp).mp h1
 ·have h3:=h2.resolve_left hn
  rw[show n+k-1=(n-1)+k by omega,Nat.pow_add]
  exact(Nat.le_div_iff_mul_le hp).mp h3
end Go.Proofs.YtchmioacjkbfcaaGreat.AI
namespace Go.Proofs.YtchmioacjkbfcaaGreat.AI
set_option linter.unusedVariables false
set_option linter.unusedSimpArgs false
def uv(n:Nat):List Int:=if h:n<128 then [(n:Int)]else((n%128+128:Nat):Int)::uv (n/128)
termination_by n
decreasing_by omega
theorem ZV{n:Nat}(h:n<128):uv n=[(n:Int)]:=by rw[uv];simp[h]
theorem Xz{n:Nat}(h:¬(n<128)):uv n=((n%128+128:Nat):Int)::uv (n/128):=by rw[uv];simp[h]
theorem zgl(n:Nat):uv n≠[]:=by
 by_cases h:n<128
 ·rw[ZV h];simp
 ·rw[Xz h];simp
theorem zgm:∀(n:Nat) (x:Int),x∈uv n->0<=x/\x<256:=by
 intro n
 induction n using Nat.strongRecOn with
 |_ n ih=>
  intro x hx
  by_cases h:n<128
  ·rw[ZV h]at hx;simp at hx;omega
  ·rw[Xz h]at hx
   rcases List.mem_cons.mp hx with rfl|hx
   ·omega
   ·exact ih (n/128) (by omega) x hx
theorem zc9:∀(k n:Nat),n<128^(k+1)->(uv n).length<=k+1:=by
 intro k
 induction k with
 |zero=>intro n h;rw[ZV (by omega)];simp
 |succ k ih=>
  intro n h
  by_cases h1:n<128
  ·rw[ZV h1];simp
  ·rw[Xz h1]
   have:n/128<128^(k+1):=Nat.div_lt_of_lt_mul (by rw[Nat.pow_succ]at h;omega)
   have:=ih _ this
   simp only[List.length_cons];omega
theorem qx{n:Nat}(h:n<18446744073709551616):(uv n).length<=10:=zc9 9 n (Nat.lt_of_lt_of_le h (by decide))
def gU:List Int->Nat->Nat->Nat->Nat×Nat×Int
 |[],_,_,u=>(0,u,3)
 |c::r,s,n,u=>
  if(s=63/\1<c)\/(0<s/\c=0)then(0,u+1,4)
  else if c<128 then(n+c.toNat*2^s,u+1,0)
  else gU r (s+7) (n+(c.toNat-128)*2^s) (u+1)
theorem zhb:∀(k m:Nat) (rest:List Int) (s n u:Nat),s=7*k->k<=9->m*2^s<18446744073709551616->(0<s->m≠0)->
 gU (uv m++rest) s n u=(n+m*2^s,u+(uv m).length,0):=by
 intro k m
 induction m using Nat.strongRecOn generalizing k with
 |_ m ih=>
  intro rest s n u hs hk hm hz
  have h63:s=63->m<2:=by
   intro e;rw[e]at hm
   have:(2:Nat)^63=9223372036854775808:=rfl
   rw[this]at hm;omega
  by_cases h:m<128
  ·rw[ZV h]
   simp only[List.cons_append,List.nil_append]
   unfold gU
   rw[if_neg (by
    rintro(⟨h1,h2⟩|⟨h1,h2⟩)
    ·have:=h63 h1;omega
    ·have:=hz h1;omega),if_pos (by omega)]
   simp
  ·rw[Xz h]
   have hk9:k<9:=by
    rcases Nat.lt_or_ge k 9 with h1|h1
    ·exact h1
    ·have:=h63 (by omega);omega
   simp only[List.cons_append]
   unfold gU
   rw[if_neg (by
    rintro(⟨h1,h2⟩|⟨h1,h2⟩)
    ·omega
    ·omega),if_neg (by omega)]
   have jA:2^(s+7)=128*2^s:=by rw[Nat.pow_add];omega
   have hle:m/128*2^(s+7)<=m*2^s:=by
    rw[jA,<-Nat.mul_assoc]
    exact Nat.mul_le_mul_right _ (by omega)
   rw[ih (m/128) (by omega) (k+1) rest (s+7) _ _ (by omega) (by omega) (by omega) (by intro _;omega)]
   have e1:(((m%128+128:Nat):Int).toNat-128)=m%128:=by omega
   rw[e1,jA]
   have e2:n+m%128*2^s+m/128*(128*2^s)=n+m*2^s:=by
    have:m/128*(128*2^s)=(128*(m/128))*2^s:=by rw[Nat.mul_comm 128 (m/128),Nat.mul_assoc]
    rw[this,Nat.add_assoc,<-Nat.add_mul]
    have:m%128+128*(m/128)=m:=by omega
    rw[this]
   rw[e2]
   simp only[List.length_cons]
   have e3:u+1+(uv (m/128)).length=u+((uv (m/128)).length+1):=by omega
   rw[e3]
theorem zhc:∀(r:List Int) (k s n u:Nat),(∀c∈r,0<=c/\c<256)->s=7*k->k<=9->(gU r s n u).2.2=0->
 ∃m,(gU r s n u).1=n+m*2^s/\(gU r s n u).2.1=u+(uv m).length/\r=uv m++r.drop (uv m).length/\(0<s->m≠0)/\m*2^s<18446744073709551616:=by
 intro r
 induction r with
 |nil=>intro k s n u hr hs hk h;simp[gU]at h
 |cons c r ih=>
  intro k s n u hr hs hk h
  have hc:=hr c (by simp)
  unfold gU at h⊢
  split at h
  ·simp at h
  ·rename_i h1
   rw[if_neg h1]
   split at h
   ·rename_i h2
    rw[if_pos h2]
    have hu:uv c.toNat=[c]:=by
     rw[ZV (by omega)]
     have:((c.toNat:Nat):Int)=c:=by omega
     rw[this]
    refine⟨c.toNat,rfl,by rw[hu];rfl,by rw[hu];rfl,fun h3 h4=>h1 (.inr ⟨h3,by omega⟩),?_⟩
    by_cases h63:s=63
    ·have:¬(1<c):=fun h3=>h1 (.inl ⟨h63,h3⟩)
     have e:(2:Nat)^63=9223372036854775808:=rfl
     rw[h63,e];omega
    ·have hs56:s<=56:=by omega
     have:2^s<=2^56:=Nat.pow_le_pow_right (by decide) hs56
     have e:(2:Nat)^56=72057594037927936:=rfl
     rw[e]at this
     have:c.toNat*2^s<=127*72057594037927936:=Nat.mul_le_mul (by omega) this
     omega
   ·rename_i h2
    rw[if_neg h2]
    have hk9:k<9:=by
     rcases Nat.lt_or_ge k 9 with h3|h3
     ·exact h3
     ·exact absurd (.inl ⟨by omega,by omega⟩) h1
    obtain⟨m,m1,m2,m3,m4,m5⟩:=ih (k+1) (s+7) (n+(c.toNat-128)*2^s) (u+1) (fun x hx=>hr x (by simp[hx])) (by omega) (by omega) h
    have hm0:=m4 (by omega)
    have hq:(c.toNat-128+128*m)/128=m:=by omega
    have hrm:(c.toNat-128+128*m)%128=c.toNat-128:=by omega
    have hu:uv (c.toNat-128+128*m)=c::uv m:=by
     rw[Xz (by omega),hq,hrm]
     have:((c.toNat-128+128:Nat):Int)=c:=by omega
     rw[this]
    have jA:2^(s+7)=128*2^s:=by rw[Nat.pow_add];omega
    have e2:(c.toNat-128)*2^s+m*(128*2^s)=(c.toNat-128+128*m)*2^s:=by
     have:m*(128*2^s)=(128*m)*2^s:=by rw[Nat.mul_comm 128 m,Nat.mul_assoc]
     rw[this,<-Nat.add_mul]
    refine⟨c.toNat-128+128*m,?_,?_,?_,fun _ h4=>by omega,?_⟩
    ·rw[m1,jA,Nat.add_assoc,e2]
    ·rw[m2,hu];simp only[List.length_cons];omega
    ·rw[hu];simp only[List.length_cons,List.drop_succ_cons,List.cons_append]
     congr 1
    ·by_cases h56:s<=49
     ·rw[<-e2,<-jA]
      have h7:2^s<=2^49:=Nat.pow_le_pow_right (by decide) h56
      have e:(2:Nat)^49=562949953421312:=rfl
      rw[e]at h7
      have:(c.toNat-128)*2^s<=127*562949953421312:=Nat.mul_le_mul (by omega) h7
      have hd:m*2^(s+7)+2^(s+7)<=18446744073709551616:=by
       have hdv:2^(s+7)∣18446744073709551616:=by
        have:(18446744073709551616:Nat)=2^64:=rfl
        rw[this];exact Nat.pow_dvd_pow 2 (by omega)
       obtain⟨q,hq'⟩:=hdv
       have hlt:m<q:=by
        have:m*2^(s+7)<q*2^(s+7):=by rw[Nat.mul_comm q,<-hq'];exact m5
        exact Nat.lt_of_mul_lt_mul_right this
       have:(m+1)*2^(s+7)<=q*2^(s+7):=Nat.mul_le_mul_right _ hlt
       rw[Nat.add_mul,Nat.one_mul,Nat.mul_comm q,<-hq']at this
       exact this
      have hlt7:(c.toNat-128)*2^s<2^(s+7):=by
       rw[jA]
       exact Nat.mul_lt_mul_of_pos_right (by omega) (Nat.two_pow_pos s)
      omega
     ·have hs56:s=56:=by omega
      rw[hs56]at m5⊢
      have e:(2:Nat)^(56+7)=9223372036854775808:=rfl
      have e':(2:Nat)^56=72057594037927936:=rfl
      rw[e]at m5
      rw[e']
      have hm1:m=1:=by omega
      have hb:c.toNat-128+128*m<=255:=by rw[hm1];omega
      exact Nat.lt_of_le_of_lt (Nat.mul_le_mul_right _ hb) (by decide)
def zz(n:Int):Nat:=if n<0 then((-(n+1))*2+1).toNat else(n*2).toNat
def qiv(u:Nat):Int:=if u%2=0 then(u/2:Nat)else -((u/2:Nat):Int)-1
theorem qy2(n:Int):qiv (zz n)=n:=by
 unfold zz qiv
 by_cases h:n<0
 ·rw[if_pos h]
  have:((-(n+1))*2+1).toNat%2=1:=by omega
  rw[if_neg (by omega)]
  omega
 ·rw[if_neg h]
  rw[if_pos (by omega)]
  omega
theorem qdz{n:Int}(h1:-9223372036854775808<=n)(h2:n<9223372036854775808):zz n<18446744073709551616:=by
 unfold zz;split<;>omega
end Go.Proofs.YtchmioacjkbfcaaGreat.AI
namespace Go.Proofs.YtchmioacjkbfcaaGreat.AI
open Go
set_option linter.unusedVariables false
set_option linter.unusedSimpArgs false
set_option maxRecDepth 100000
set_option maxHeartbeats 0
def nz(l:List Nat):List Int:=l.map fun(n:Nat)=>(n:Int)
@[simp] theorem qkb (l : List Nat) : (nz l).length = l.length := by simp [nz]
def Ku(p:Nat):List Nat->List Nat
 |[]=>[]
 |x::r=>(x-p-1)::Ku x r
def qt:List Nat->List Nat
 |[]=>[]
 |x::r=>x::Ku x r
def zi:List Nat->Prop
 |[]=>True
 |[_]=>True
 |x::y::r=>x<y/\zi (y::r)
def yD(k:Nat):List Nat->Nat->Nat×Bool
 |[],n=>(n,true)
 |g::r,n=>if 4096<g/2^k then(0,false)else yD k r (n+(g/2^k+1+k))
def YZ(gs:List Nat):Nat->Nat->Nat->Int->Nat
 |0,_,b,_=>b
 |f+1,k,b,m=>if(yD k gs 0).2=true/\(m<0\/((yD k gs 0).1:Int)<m)then YZ gs f (k+1) k (yD k gs 0).1 else YZ gs f (k+1) b m
def zY(gs:List Nat):Nat:=YZ gs 64 0 63 (-1)
def zU(k:Nat):List Nat->List Bool
 |[]=>[]
 |g::r=>una (g/2^k)++xE g k++zU k r
def jz(gs:List Nat):List Bool:=zU (zY gs) gs
def yc(l:List Nat):List Int:=uv l.length++[(zY (qt l):Int)]++uv (pk (jz (qt l))).length++pk (jz (qt l))
@[simp] theorem zf0 (p : Nat) (l : List Nat) : (Ku p l).length = l.length := by
 induction l generalizing p with
 |nil=>rfl
 |cons x r ih=>simp[Ku,ih]
@[simp] theorem kN (l : List Nat) : (qt l).length = l.length := by cases l <;> simp [qt]
theorem qw1(l:List Nat)(p B:Nat)(h:∀x∈l,x<B):∀g∈Ku p l,g<B:=by
 induction l generalizing p with
 |nil=>intro g hg;cases hg
 |cons x r ih=>
  intro g hg
  rcases List.mem_cons.mp hg with e|e
  ·have:=h x (by simp);omega
  ·exact ih x (fun y hy=>h y (by simp[hy])) g e
theorem vk{l:List Nat}{B:Nat}(h:∀x∈l,x<B):∀g∈qt l,g<B:=by
 cases l with
 |nil=>intro g hg;cases hg
 |cons x r=>
  intro g hg
  rcases List.mem_cons.mp hg with e|e
  ·rw[e];exact h x (by simp)
  ·exact qw1 r x B (fun y hy=>h y (by simp[hy])) g e
theorem qqa:∀(l:List Nat) (p i:Nat),i<l.length->(Ku p l)[i]?=some (l.getD i 0-(p::l).getD i 0-1):=by
 intro l
 induction l with
 |nil=>intro p i h;cases h
 |cons x r ih=>
  intro p i h
  cases i with
  |zero=>rfl
  |succ i=>
   have:=ih x i (by simpa using h)
   simpa[Ku]using this
theorem Ks(l:List Nat)(i:Nat)(h:i<l.length):(qt l)[i]?=some (if i=0 then l.getD 0 0 else l.getD i 0-l.getD (i-1) 0-1):=by
 cases l with
 |nil=>cases h
 |cons x r=>
  cases i with
  |zero=>rfl
  |succ i=>
   have:=qqa r x i (by simpa using h)
   simpa[qt]using this
theorem kn:∀(l:List Nat),zi l->∀i,i+1<l.length->l.getD i 0<l.getD (i+1) 0:=by
 intro l
 induction l with
 |nil=>intro _ i h;simp at h
 |cons x r ih=>
  intro hr i h
  cases r with
  |nil=>simp at h
  |cons y r=>
   cases i with
   |zero=>exact hr.1
   |succ i=>exact ih hr.2 i (by simpa using h)
theorem qxk(k:Nat):∀(gs:List Nat) (n:Nat),(yD k gs n).2=true->∀g∈gs,g/2^k<=4096:=by
 intro gs
 induction gs with
 |nil=>intro n _ g hg;cases hg
 |cons x r ih=>
  intro n h g hg
  unfold yD at h
  split at h
  ·cases h
  ·rcases List.mem_cons.mp hg with e|e
   ·subst e;omega
   ·exact ih _ h g e
theorem zah(gs:List Nat):∀(f k b:Nat) (m:Int),k+f=64->b<=63->(∀g∈gs,g/2^b<=4096)->YZ gs f k b m<=63/\∀g∈gs,g/2^(YZ gs f k b m)<=4096:=by
 intro f
 induction f with
 |zero=>intro k b m _ h1 h2;exact⟨h1,h2⟩
 |succ f ih=>
  intro k b m hk h1 h2
  unfold YZ
  split
  ·rename_i h
   exact ih (k+1) k _ (by omega) (by omega) (qxk k gs 0 h.1)
  ·exact ih (k+1) b m (by omega) h1 h2
theorem Jo{gs:List Nat}(h:∀g∈gs,g<18446744073709551616):zY gs<=63/\∀g∈gs,g/2^zY gs<=4096:=by
 refine zah gs 64 0 63 (-1) rfl (Nat.le_refl _) (fun g hg=>?_)
 have:=h g hg
 have e:(2:Nat)^63=9223372036854775808:=by decide
 rw[e]
 omega
theorem QK(k:Nat)(hk:k<=63):∀(gs:List Nat),(∀g∈gs,g/2^k<=4096)->(zU k gs).length<=gs.length*4160:=by
 intro gs
 induction gs with
 |nil=>intro _;exact Nat.zero_le _
 |cons x r ih=>
  intro h
  have h1:=ih (fun g hg=>h g (by simp[hg]))
  have h2:=h x (by simp)
  simp[zU]
  omega
theorem zcq(l:List Bool)(i:Nat):jN (pk l) i=l.getD i false:=by
 by_cases h:i<l.length
 ·exact qg5 l i h
 ·rw[JH l i (by omega),List.getD_eq_getElem?_getD,List.getElem?_eq_none (by omega)]
  rfl
def Ss(l m:List Bool):Prop:=∀i,l.getD i false=m.getD i false
theorem Ss.pk{l m:List Bool}(h:pk l=pk m):Ss l m:=fun i=>by rw[<-zcq,<-zcq,h]
theorem Ss.tail{a b:Bool}{l m:List Bool}(h:Ss (a::l) (b::m)):a=b/\Ss l m:=⟨h 0,fun i=>h (i+1)⟩
theorem Ss.una:∀(q q':Nat) (l m:List Bool),Ss (una q++l) (una q'++m)->q=q'/\Ss l m:=by
 intro q
 induction q with
 |zero=>
  intro q' l m h
  cases q' with
  |zero=>exact⟨rfl,(Ss.tail h).2⟩
  |succ q'=>exact absurd (Ss.tail h).1 (by decide)
 |succ q ih=>
  intro q' l m h
  cases q' with
  |zero=>exact absurd (Ss.tail h).1 (by decide)
  |succ q'=>
   have:=ih q' l m (Ss.tail h).2
   exact⟨by omega,this.2⟩
theorem Ss.app:∀(a b l m:List Bool),a.length=b.length->Ss (a++l) (b++m)->a=b/\Ss l m:=by
 intro a
 induction a with
 |nil=>
  intro b l m e h
  cases b with
  |nil=>exact⟨rfl,h⟩
  |cons y s=>cases e
 |cons x r ih=>
  intro b l m e h
  cases b with
  |nil=>cases e
  |cons y s=>
   have t:=Ss.tail h
   have i:=ih s l m (by simpa using e) t.2
   exact⟨by rw[t.1,i.1],i.2⟩
noncomputable def zdk:Value:=.string ⟨#[0,1,2,2,3,3,3,3,4,4,4,4,4,4,4,4,5,5,5,5,5,5,5,5,5,5,5,5,5,5,5,5,6,6,6,6,6,6,6,6,6,6,6,6,6,6,6,6,6,6,6,6,6,6,6,6,6,6,6,6,6,6,6,6,7,7,7,7,7,7,7,7,7,7,7,7,7,7,7,7,7,7,7,7,7,7,7,7,7,7,7,7,7,7,7,7,7,7,7,7,7,7,7,7,7,7,7,7,7,7,7,7,7,7,7,7,7,7,7,7,7,7,7,7,7,7,7,7,8,8,8,8,8,8,8,8,8,8,8,8,8,8,8,8,8,8,8,8,8,8,8,8,8,8,8,8,8,8,8,8,8,8,8,8,8,8,8,8,8,8,8,8,8,8,8,8,8,8,8,8,8,8,8,8,8,8,8,8,8,8,8,8,8,8,8,8,8,8,8,8,8,8,8,8,8,8,8,8,8,8,8,8,8,8,8,8,8,8,8,8,8,8,8,8,8,8,8,8,8,8,8,8,8,8,8,8,8,8,8,8,8,8,8,8,8,8,8,8,8,8,8,8,8,8,8,8]⟩
theorem qyx(v0 v2:Value)(hp:Hp):B180_10 v0 v2 hp=(JU Tryz.prog 76 5 v0).bind fun y12=>(ixV Tryz.prog 9 zdk y12).bind fun y13=>(JU Tryz.prog 5 3 y13).bind fun y14=>(qr Tryz.prog .add 3 (.tmp 19) (.tmp 23) v2 y14).bind fun y15=>some (.sc y15,hp):=
 (qls _ _ _).trans (by kernel_rfl)
noncomputable def zcj(x:Nat):Bool:=
 match ixV Tryz.prog 9 zdk (.int .u8 (x:Int))with
 |some (.int .u8 (.ofNat n))=>decide (n<=8)&&decide (x<2^n)&&(decide (n=0)||decide (2^(n-1)<=x))
 |_=>false
theorem qy8:(List.range 256).all zcj=true:=by kernel_rfl
theorem zdj(x:Nat)(h:x<256):∃n:Nat,n<=8/\Bl x n/\ixV Tryz.prog 9 zdk (.int .u8 (x:Int))=some (.int .u8 (n:Int)):=by
 have hx:=List.all_eq_true.mp qy8 x (List.mem_range.mpr h)
 unfold zcj at hx
 split at hx
 ·rename_i n e
  simp only[Bool.and_eq_true,Bool.or_eq_true,decide_eq_true_eq]at hx
  exact⟨n,hx.1.1,⟨hx.1.2,hx.2⟩,e⟩
 ·cases hx
theorem cv8(n:Int):JU Tryz.prog 5 3 (.int .u8 n)=some (.int .i64 (IntKind.i64.wrap n)):=yN n
theorem qy1(n:Nat)(h:n<1000000):IntKind.i64.wrap (n:Int)=n:=qf (by omega) (by omega)
theorem zcw(x v:Nat)(h:x<256)(hv:v<=100):∃n,n<=8/\Bl x n/\∀hp,B180_10 (.int .u64 (x:Int)) (.int .i64 (v:Int)) hp=some (.sc (.int .i64 ((n+v:Nat):Int)),hp):=by
 obtain⟨n,h1,h2,h3⟩:=zdj x h
 refine⟨n,h1,h2,fun hp=>?_⟩
 have w:IntKind.u8.wrap (x:Int)=x:=qT (by omega) (by omega)
 have w2:IntKind.i64.wrap (n:Int)=n:=qy1 n (by omega)
 have w3:IntKind.i64.wrap ((v:Int)+(n:Int))=((n+v:Nat):Int):=by rw[qf]<;>omega
 rw[qyx]
 simp[JC,w,h3,cv8,w2,w3]
theorem QF(x k:Nat)(hk:k<=64)(o o':Operand)(K:IntKind):qr Tryz.prog .shr 76 o o' (.int .u64 (x:Int)) (.int K (k:Int))=some (.int .u64 ((x/2^k:Nat):Int)):=by
 rw[js _ _ _ _ _ _ _ _ (by omega)]
 have e:min ((k:Int)).toNat IntKind.u64.bits=k:=by
  have:IntKind.u64.bits=64:=rfl
  rw[this];omega
 rw[e,Int.fdiv_eq_ediv_of_nonneg _ (by exact_mod_cast Nat.zero_le (2^k))]
 congr 2
theorem len7(x v:Nat)(h:x<65536)(hv:v<=90):∃n,n<=16/\Bl x n/\∀hp,B180_7 (.int .u64 (x:Int)) (.int .i64 (v:Int)) hp=some (.sc (.int .i64 ((n+v:Nat):Int)),hp):=by
 by_cases hx:256<=x
 ·obtain⟨n,h1,h2,h3⟩:=zcw (x/2^8) (v+8) (by omega) (by omega)
  refine⟨n+8,by omega,h2.up (by omega),fun hp=>?_⟩
  have s:=QF x 8 (by omega) (.tmp 15) (.const (.int .u64 8)) .u64
  have c:(256:Int)<=(x:Int):=by omega
  have w:IntKind.i64.wrap ((v:Int)+8)=((v+8:Nat):Int):=by rw[qf]<;>omega
  have e:n+(v+8)=n+8+v:=by omega
  rw[e]at h3
  rw[qau]
  simp at s w h3
  simp[c,s,w,h3]
 ·obtain⟨n,h1,h2,h3⟩:=zcw x v (by omega) (by omega)
  refine⟨n,by omega,h2,fun hp=>?_⟩
  have c:¬((256:Int)<=(x:Int)):=by omega
  rw[qau]
  simp at h3
  simp[c,h3]
theorem len4(x v:Nat)(h:x<4294967296)(hv:v<=70):∃n,n<=32/\Bl x n/\∀hp,B180_4 (.int .u64 (x:Int)) (.int .i64 (v:Int)) hp=some (.sc (.int .i64 ((n+v:Nat):Int)),hp):=by
 by_cases hx:65536<=x
 ·obtain⟨n,h1,h2,h3⟩:=len7 (x/2^16) (v+16) (by omega) (by omega)
  refine⟨n+16,by omega,h2.up (by omega),fun hp=>?_⟩
  have s:=QF x 16 (by omega) (.tmp 9) (.const (.int .u64 16)) .u64
  have c:(65536:Int)<=(x:Int):=by omega
  have w:IntKind.i64.wrap ((v:Int)+16)=((v+16:Nat):Int):=by rw[qf]<;>omega
  have e:n+(v+16)=n+16+v:=by omega
  rw[e]at h3
  rw[qav]
  simp at s w h3
  simp[c,s,w,h3]
 ·obtain⟨n,h1,h2,h3⟩:=len7 x v (by omega) (by omega)
  refine⟨n,by omega,h2,fun hp=>?_⟩
  have c:¬((65536:Int)<=(x:Int)):=by omega
  rw[qav]
  simp at h3
  simp[c,h3]
theorem qoi(x:Nat)(h:x<18446744073709551616):∃n,n<=64/\Bl x n/\∀hp,run cxX 180 [.sc (.int .u64 (x:Int))] hp=some (.sc (.int .i64 (n:Int)),hp):=by
 by_cases hx:4294967296<=x
 ·obtain⟨n,h1,h2,h3⟩:=len4 (x/2^32) 32 (by omega) (by omega)
  refine⟨n+32,by omega,h2.up (by omega),fun hp=>?_⟩
  have s:=QF x 32 (by omega) (.tmp 5) (.const (.int .u64 32)) .u64
  have c:(4294967296:Int)<=(x:Int):=by omega
  rw[E180]
  simp at s h3
  simp[c,s,h3]
 ·obtain⟨n,h1,h2,h3⟩:=len4 x 0 (by omega) (by omega)
  refine⟨n,by omega,h2,fun hp=>?_⟩
  have c:¬((4294967296:Int)<=(x:Int)):=by omega
  rw[E180]
  simp at h3
  simp[c,h3]
theorem wnat(n:Nat)(h:n<18446744073709551616):IntKind.u64.wrap (n:Int)=n:=qn (by omega) (by omega)
theorem Jn(x y:Nat)(hy:0<y)(h:x<18446744073709551616)(o o':Operand):qr Tryz.prog .quo 76 o o' (.int .u64 (x:Int)) (.int .u64 (y:Int))=some (.int .u64 ((x/y:Nat):Int)):=by
 rw[jU _ _ _ _ _ _ _ (by omega),Int.tdiv_eq_ediv_of_nonneg (by omega),<-Int.natCast_ediv]
 rw[wnat _ (Nat.lt_of_le_of_lt (Nat.div_le_self x y) h)]
theorem Xh(x y:Nat)(hy:0<y)(o o':Operand):qr Tryz.prog .rem 76 o o' (.int .u64 (x:Int)) (.int .u64 (y:Int))=some (.int .u64 ((x%y:Nat):Int)):=by
 rw[qW _ _ _ _ _ _ _ (by omega),qV (by omega),<-Int.natCast_emod]
section
variable {B:Nat}(hB:B=4294967296)
include hB
end
@[simp] theorem zg2 (b g o : Nat) : Jp (.ptr b g o) = some false := rfl
@[simp] theorem zg3 : Jp (.sc (.pointer none)) = some true := rfl
@[simp] theorem zau (b g o : Nat) : Qm (.ptr b g o) = some () := rfl
@[simp] theorem kG (b g o : Nat) : qN (.ptr b g o) = some (b, g, o) := rfl
@[simp] theorem zdv (b g o : Nat) : ro (.ptr b g o) = .ptr b g o := rfl
@[simp] theorem zh0 (b g o : Nat) : ro1 (.ptr b g o) = .ptr b g o := rfl
@[simp] theorem zfy (b g o : Nat) : Ql (.ptr b g o) = some () := rfl
theorem qp(hp:Hp)(b:Nat)(x y:List AV):(hp.put b 0 x).put b 0 y=hp.put b 0 y:=by
 unfold Hp.put
 congr 1
 funext z
 by_cases e:z=b
 ·simp[e]
 ·simp[e]
theorem jC(hp:Hp)(x y:List AV):(hp.new x).put hp.next 0 y=hp.new y:=by
 unfold Hp.put Hp.new
 congr 1
 funext z
 by_cases e:z=hp.next
 ·simp[e]
 ·simp[e]
theorem zE{hp:Hp}{b:Nat}{x:List AV}(h:hp.rd b 0=some x):hp.put b 0 x=hp:=by
 have hg:hp.get b=some (0,x):=by
  unfold Hp.rd at h
  obtain⟨p,hp1,h⟩:=bsm h
  split at h
  ·rename_i e
   cases h
   rw[hp1]
   obtain⟨p1,p2⟩:=p
   have:p1=0:=e.1
   subst this;rfl
  ·cases h
 obtain⟨n,g⟩:=hp
 unfold Hp.put
 congr 1
 funext z
 by_cases e:z=b
 ·subst e;simp only[if_true];exact hg.symm
 ·simp[e]
theorem qv(hp:Hp){b c:Nat}(x:List AV)(h:c≠b):(hp.put b 0 x).rd c 0=hp.rd c 0:=by
 simp[Hp.rd,Hp.put,h]
theorem zX(hp:Hp){c:Nat}(x:List AV)(h:c≠hp.next):(hp.new x).rd c 0=hp.rd c 0:=by
 simp[Hp.rd,Hp.new,h]
@[simp] theorem qfv (hp : Hp) (b : Nat) (x : List AV) : (hp.put b 0 x).next = hp.next := rfl
@[simp] theorem zg4 (hp : Hp) (x : List AV) : (hp.new x).next = hp.next + 1 := rfl
abbrev Wc(l:List Int):List AV:=[S 2 1 (LI .u8 l)]
theorem kc{x:Int}:IntKind.u8.wrap x=x%256:=by rw[IntKind.wrap_u8]
theorem zW(b:Nat)(l:List Int)(c:Int)(hl:l.length<=1000000)(hp:Hp)(h:hp.rd b 0=some (Wc l)):
 run cxX 36 [.ptr b 0 0,.sc (.int .u8 c)] hp=some (.tup [],hp.put b 0 (Wc (l++[c]))):=by
 have ap:=ZO .u8 l 2 (.inr rfl) 1 (by decide) c hl
 rw[E36]
 simp[h,qj,ap,qi,qh,qp]
theorem vC(b:Nat)(l m:List Int)(k:Nat)(hl:l.length+m.length<=1000000)(hp:Hp)(h:hp.rd b 0=some (Wc l)):
 run cxX 35 [.ptr b 0 0,S k 1 (LI .u8 m)] hp=some (.tup [],hp.put b 0 (Wc (l++m))):=by
 have ap:=fun k=>qxy .u8 l 2 (.inr rfl) 1 (by decide) k m hl
 rw[E35]
 simp[h,qj,ap,qi,qh,qp]
theorem Zs(b:Nat)(l:List Int)(hl:l.length<=1000000)(hp:Hp)(h:hp.rd b 0=some (Wc l)):
 run cxX 13 [.ptr b 0 0] hp=some (S 1 1 (LI .u8 l),hp):=by
 have ap:=fun k=>qxy .u8 [] 1 (.inl rfl) 1 (by decide) k l (by simpa using hl)
 simp at ap
 rw[E13]
 simp[h,qj,ap]
theorem qvj:∀x:BitVec 8,(x|||128#8).toNat=x.toNat%128+128:=by decide
theorem zgw(n:Nat)(t:TypeId)(x y:Operand):qr Tryz.prog .or t x y (.int .u8 ((n:Int)%256)) (.int .u8 128)=some (.int .u8 ((n%128+128:Nat):Int)):=by
 rw[zG]
 have e1:(BitVec.ofInt 8 ((n:Int)%256)).toNat=n%256:=by
  rw[BitVec.toNat_ofInt]
  omega
 have e2:(BitVec.ofInt IntKind.u8.bits ((n:Int)%256)|||BitVec.ofInt IntKind.u8.bits 128).toNat=n%128+128:=by
  show(BitVec.ofInt 8 ((n:Int)%256)|||128#8).toNat=_
  rw[qvj,e1]
  omega
 rw[e2,qT (by omega) (by omega)]
theorem shr7(n:Nat)(t:TypeId)(x y:Operand):qr Tryz.prog .shr t x y (.int .u64 (n:Int)) (.int .u64 7)=some (.int .u64 ((n/128:Nat):Int)):=by
 rw[js _ _ _ _ _ _ _ _ (by omega)]
 congr 2
 rw[Int.fdiv_eq_ediv_of_nonneg _ (by decide)]
 show(n:Int)/128=_
 omega
theorem qiq(b:Nat):∀(n:Nat) (l:List Int) (hp:Hp),n<18446744073709551616->l.length+(uv n).length<=1000000->hp.rd b 0=some (Wc l)->
 B25_0 (.ptr b 0 0) (.int .u64 (n:Int)) hp=some (.tup [],hp.put b 0 (Wc (l++uv n))):=by
 intro n
 induction n using Nat.strongRecOn with
 |_ n ih=>
  intro l hp hn hl h
  rw[qyw]
  by_cases h1:n<128
  ·rw[ZV h1]at hl⊢
   have hge:¬((n:Int)>=128):=by omega
   have hge':¬((128:Int)<=(n:Int)):=by omega
   have w:IntKind.u8.wrap (n:Int)=(n:Int):=qT (by omega) (by omega)
   have wb:=zW b l n (by simp at hl;omega) hp h
   simp[hge',w,wb]
  ·rw[Xz h1]at hl⊢
   have hge:(128:Int)<=(n:Int):=by omega
   have w:IntKind.u8.wrap (n:Int)=(n:Int)%256:=by rw[kc]
   have wb:=zW b l ((n%128+128:Nat):Int) (by simp at hl;omega) hp h
   have o:=zgw n
   have s:=shr7 n
   have ih':=ih (n/128) (by omega) (l++[((n%128+128:Nat):Int)]) (hp.put b 0 (Wc (l++[((n%128+128:Nat):Int)]))) (by omega) (by simp at hl⊢;omega) (qi _ _ _)
   rw[qp]at ih'
   generalize((n%128+128:Nat):Int)=c at*
   generalize((n/128:Nat):Int)=d at*
   simp[hge,w,wb,o,s,ih',-zG]
theorem zC(b n:Nat)(l:List Int)(hn:n<18446744073709551616)(hl:l.length+(uv n).length<=1000000)(hp:Hp)(h:hp.rd b 0=some (Wc l)):
 run cxX 25 [.ptr b 0 0,.sc (.int .u64 (n:Int))] hp=some (.tup [],hp.put b 0 (Wc (l++uv n))):=by
 rw[E25]
 simp[qiq b n l hp hn hl h]
theorem xor_zero(x:Nat)(h:x<18446744073709551616)(t:TypeId)(a b:Operand):qr Tryz.prog .xor t a b (.int .u64 (x:Int)) (.int .u64 0)=some (.int .u64 (x:Int)):=by
 rw[yQ]
 have e:(BitVec.ofInt IntKind.u64.bits (x:Int)^^^BitVec.ofInt IntKind.u64.bits 0).toNat=x:=by
  show(BitVec.ofInt 64 (x:Int)^^^0#64).toNat=x
  rw[BitVec.xor_zero,BitVec.toNat_ofInt]
  omega
 rw[e,qn (by omega) (by omega)]
theorem qtb(x:Nat)(h:x<18446744073709551616)(t:TypeId)(a b:Operand):qr Tryz.prog .xor t a b (.int .u64 (x:Int)) (.int .u64 18446744073709551615)=some (.int .u64 ((18446744073709551615-x:Nat):Int)):=by
 rw[yQ]
 have e:(BitVec.ofInt IntKind.u64.bits (x:Int)^^^BitVec.ofInt IntKind.u64.bits 18446744073709551615).toNat=18446744073709551615-x:=by
  have e1:BitVec.ofInt 64 18446744073709551615=BitVec.allOnes 64:=by decide
  show(BitVec.ofInt 64 (x:Int)^^^BitVec.ofInt 64 18446744073709551615).toNat=_
  rw[e1,BitVec.xor_allOnes,BitVec.toNat_not,BitVec.toNat_ofInt]
  omega
 rw[e,qn (by omega) (by omega)]
theorem qtz(b:Nat)(n:Int)(l:List Int)(hn:-9223372036854775808<=n/\n<9223372036854775808)(hl:l.length+(uv (zz n)).length<=1000000)(hp:Hp)(h:hp.rd b 0=some (Wc l)):
 run cxX 12 [.ptr b 0 0,.sc (.int .i64 n)] hp=some (.tup [],hp.put b 0 (Wc (l++uv (zz n)))):=by
 have wu:=zC b (zz n) l (qdz hn.1 hn.2) hl hp h
 rw[E12]
 by_cases h0:n<0
 ·have z:zz n=18446744073709551615-(2*n+18446744073709551616).toNat:=by unfold zz;rw[if_pos h0];omega
  have w1:IntKind.u64.wrap n=n+18446744073709551616:=by rw[IntKind.wrap_u64];omega
  have s1:∀t x y,qr Tryz.prog .shl t x y (.int .u64 (n+18446744073709551616)) (.int .u64 1)=some (.int .u64 (((2*n+18446744073709551616).toNat:Nat):Int)):=by
   intro t x y
   rw[zF _ _ _ _ _ _ _ _ (by omega)]
   have e:(2:Int)^min (1:Int).toNat IntKind.u64.bits=2:=rfl
   rw[e,IntKind.wrap_u64]
   congr 2
   omega
  have s2:∀t x y,qr Tryz.prog .shr t x y (.int .i64 n) (.int .u64 63)=some (.int .i64 (-1)):=by
   intro t x y
   rw[js _ _ _ _ _ _ _ _ (by omega)]
   have e:(2:Int)^min (63:Int).toNat IntKind.i64.bits=9223372036854775808:=rfl
   rw[e,Int.fdiv_eq_ediv_of_nonneg _ (by omega)]
   congr 2
   omega
  have w2:IntKind.u64.wrap (-1)=18446744073709551615:=by rw[IntKind.wrap_u64];rfl
  have x1:=qtb (2*n+18446744073709551616).toNat (by omega)
  rw[<-z]at x1
  generalize(2*n+18446744073709551616).toNat=X at*
  simp[w1,s1,s2,w2,x1,wu,-yQ]
 ·have z:zz n=(2*n).toNat:=by unfold zz;rw[if_neg h0];omega
  have w1:IntKind.u64.wrap n=n:=qn (by omega) (by omega)
  have s1:∀t x y,qr Tryz.prog .shl t x y (.int .u64 n) (.int .u64 1)=some (.int .u64 ((zz n:Nat):Int)):=by
   intro t x y
   rw[zF _ _ _ _ _ _ _ _ (by omega)]
   have e:(2:Int)^min (1:Int).toNat IntKind.u64.bits=2:=rfl
   rw[e,IntKind.wrap_u64,z]
   congr 2
   omega
  have s2:∀t x y,qr Tryz.prog .shr t x y (.int .i64 n) (.int .u64 63)=some (.int .i64 0):=by
   intro t x y
   rw[js _ _ _ _ _ _ _ _ (by omega)]
   have e:(2:Int)^min (63:Int).toNat IntKind.i64.bits=9223372036854775808:=rfl
   rw[e,Int.fdiv_eq_ediv_of_nonneg _ (by omega)]
   congr 2
   omega
  have w2:IntKind.u64.wrap 0=0:=rfl
  have x1:=xor_zero (zz n) (qdz hn.1 hn.2)
  simp[w1,s1,s2,w2,x1,wu,-yQ]
abbrev Rc(k:Nat)(l:List Int)(p:Nat)(e:Int):List AV:=[S k 1 (LI .u8 l),.sc (.int .i64 (p:Int)),.sc (.int .i64 e)]
def rE(e f:Int):Int:=if e=0 then f else e
def rL(l:List Int)(p:Nat)(e:Int):Nat:=if e=0 then l.length-p else 0
theorem JZ(k:Nat)(l:List Int)(hp:Hp):run cxX 42 [S k 1 (LI .u8 l)] hp=some (.ptr hp.next 0 0,hp.new (Rc (rk k) l 0 0)):=by
 rw[E42]
 simp[qh]
 rfl
theorem qza(k:Nat)(cs:List AV)(i h:Nat)(hih:i<=h)(hh:h<=cs.length)(hne:cs≠[]):
 xC 1 (S k 1 cs) (some (.int .i64 (i:Int))) (some (.int .i64 (h:Int))) (some (.int .i64 (h:Int)))=some (S 0 1 ((cs.drop i).take (h-i))):=by
 have b1:zd 0 (cs.length:Int) (some (.int .i64 (h:Int))) cs.length=some h:=ka .i64 hh
 have b2:zd 0 (h:Int) (some (.int .i64 (h:Int))) cs.length=some h:=ka .i64 (Nat.le_refl h)
 have b3:zd 0 (h:Int) (some (.int .i64 (i:Int))) 0=some i:=ka .i64 hih
 rcases jk k 1 cs with e|e|⟨e,e'⟩
 ·rw[e]
  simp only[Zj,xC,if_true,b1,b2,b3,Option.bind_some,Nat.mul_one]
  rfl
 ·rw[e]
  simp only[Zj,xC,if_true,b1,b2,b3,Option.bind_some,Nat.mul_one]
  rfl
 ·exact absurd e' hne
section
variable (b k:Nat)(l:List Int)(p:Nat)(e:Int)(hp:Hp)
theorem zH(h:hp.rd b 0=some (Rc k l p e)):run cxX 93 [.ptr b 0 0] hp=some (.sc (.int .i64 e),hp):=by
 rw[E93]
 simp[h,qe]
theorem QH(f:Int)(h:hp.rd b 0=some (Rc k l p e)):run cxX 95 [.ptr b 0 0,.sc (.int .i64 f)] hp=some (.tup [],hp.put b 0 (Rc k l p (rE e f))):=by
 rw[E95]
 unfold rE
 by_cases h0:e=0
 ·subst h0
  simp[h,qe,qx6,qh]
 ·simp[h,qe,h0,zE h]
theorem Yb(hl:l.length<=1000000000)(hp':p<=l.length)(h:hp.rd b 0=some (Rc k l p e)):run cxX 103 [.ptr b 0 0] hp=some (.sc (.int .i64 (rL l p e:Nat)),hp):=by
 rw[E103]
 unfold rL
 by_cases h0:e=0
 ·subst h0
  have w:IntKind.i64.wrap ((l.length:Int)-(p:Int))=((l.length-p:Nat):Int):=by rw[qf]<;>omega
  simp[h,qe,qj,qs5,w]
 ·simp[h,qe,h0,qs6]
def rB(l:List Int)(p:Nat)(e:Int):Int×Nat×Int:=if rL l p e=0 then(0,p,rE e 3)else(l.getD p 0,p+1,e)
theorem QI(hl:l.length<=1000000000)(hp':p<=l.length)(h:hp.rd b 0=some (Rc k l p e)):
 run cxX 48 [.ptr b 0 0] hp=some (.sc (.int .u8 (rB l p e).1),hp.put b 0 (Rc k l (rB l p e).2.1 (rB l p e).2.2)):=by
 have lf:=Yb b k l p e hp hl hp' h
 rw[E48]
 unfold rB
 by_cases h0:rL l p e=0
 ·have fl:=QH b k l p e hp 3 h
  simp[lf,h0,fl]
 ·have he:e=0:=by
   unfold rL at h0
   by_cases he:e=0
   ·exact he
   ·simp[he]at h0
  subst he
  have hlt:p<l.length:=by unfold rL at h0;simp at h0;omega
  have w:IntKind.i64.wrap ((p:Int)+1)=((p+1:Nat):Int):=by rw[qf]<;>omega
  have w2:IntKind.i64.wrap (((p+1:Nat):Int)-1)=(p:Int):=by rw[qf]<;>omega
  have w3:IntKind.i64.wrap (p:Int)=(p:Int):=qf (by omega) (by omega)
  simp only[Int.natCast_add,Int.natCast_one]at w w2
  simp[lf,h0,h,qe,qj,w,qh,qi,w2,w3,hlt,Rc]
theorem qjc(n:Nat)(hl:l.length<=1000000000)(hn:n<=1000000000)(hp':p<=l.length)(h:hp.rd b 0=some (Rc k l p e)):
 ∃t,run cxX 102 [.ptr b 0 0,.sc (.int .i64 (n:Int))] hp=
  if rL l p e<n then some (S 2 1 [],hp.put b 0 (Rc k l p (rE e 3)))else if n=0 then some (S 2 1 [],hp)else some (S t 1 (LI .u8 ((l.drop p).take n)),hp.put b 0 (Rc k l (p+n) e)):=by
 have lf:=Yb b k l p e hp hl hp' h
 have fl:=QH b k l p e hp 3 h
 have h00:¬((n:Int)<0):=by omega
 rw[E102]
 by_cases h0:rL l p e<n
 ·refine⟨0,?_⟩
  simp[h00,lf,h0,qs7,fl]
 ·by_cases h1:n=0
  ·subst h1
   refine⟨0,?_⟩
   have hz:¬((rL l p e:Int)<0):=by omega
   simp[lf,hz,qb3]
  ·have he:e=0:=by
    unfold rL at h0
    by_cases he:e=0
    ·exact he
    ·simp[he]at h0;omega
   subst he
   have hlt:p+n<=l.length:=by unfold rL at h0;simp at h0;omega
   have w:IntKind.i64.wrap ((p:Int)+(n:Int))=((p+n:Nat):Int):=by rw[qf]<;>omega
   have w2:IntKind.i64.wrap (((p+n:Nat):Int)-(n:Int))=(p:Int):=by rw[qf]<;>omega
   have sl:=fun k=>qza k (LI .u8 l) p (p+n) (by omega) (by simpa using hlt) (by intro hn0;have:=congrArg List.length hn0;simp at this;subst this;simp at hlt;omega)
   have e1:p+n-p=n:=by omega
   simp only[e1,zhl,zci]at sl
   refine⟨0,?_⟩
   have hz:¬((rL l p 0:Int)<(n:Int)):=by omega
   have pn:∀x:AV,qh (Rc k l p 0) 1 [x]=some [S k 1 (LI .u8 l),x,.sc (.int .i64 0)]:=fun x=>rfl
   have hn1:¬((n:Int)=0):=by omega
   generalize hq:((p+n:Nat):Int)=q at*
   simp[h00,lf,h0,hz,qb3,h1,hn1,h,qe,qj,w,pn,qi,w2,sl,Rc,hq]
theorem qel(hl:l.length<=1000000000)(hp':p<=l.length)(h:hp.rd b 0=some (Rc k l p e)):
 run cxX 53 [.ptr b 0 0] hp=some (.sc (.int .i64 (if e=0/\p<l.length then 15 else e)),hp):=by
 have er:=zH b k l p e hp h
 rw[E53]
 by_cases h0:e=0
 ·subst h0
  by_cases h1:p<l.length
  ·simp[h,qe,qj,h1,qyo]
  ·simp[h,qe,qj,h1,qic,er]
 ·simp[h,qe,h0,qic,er]
end
theorem qq0:∀x:BitVec 8,(x&&&127#8).toNat=x.toNat%128:=by decide
theorem zfm(c:Nat)(hc:c<256)(t:TypeId)(x y:Operand):qr Tryz.prog .and t x y (.int .u8 (c:Int)) (.int .u8 127)=some (.int .u8 ((c%128:Nat):Int)):=by
 rw[qS]
 have e1:(BitVec.ofInt 8 (c:Int)).toNat=c:=by
  rw[BitVec.toNat_ofInt];omega
 have e2:(BitVec.ofInt IntKind.u8.bits (c:Int)&&&BitVec.ofInt IntKind.u8.bits 127).toNat=c%128:=by
  show(BitVec.ofInt 8 (c:Int)&&&127#8).toNat=_
  rw[qq0,e1]
 rw[e2,qT (by omega) (by omega)]
theorem zd3(n x s:Nat)(hn:n<2^s)(h:n+x*2^s<18446744073709551616)(t:TypeId)(a b:Operand):
 qr Tryz.prog .or t a b (.int .u64 (n:Int)) (.int .u64 ((x*2^s:Nat):Int))=some (.int .u64 ((n+x*2^s:Nat):Int)):=by
 rw[zG]
 generalize hy:x*2^s=y at*
 have e:(BitVec.ofInt IntKind.u64.bits (n:Int)|||BitVec.ofInt IntKind.u64.bits (y:Int)).toNat=n+y:=by
  show(BitVec.ofInt 64 (n:Int)|||BitVec.ofInt 64 (y:Int)).toNat=_
  rw[BitVec.toNat_or,BitVec.toNat_ofInt,BitVec.toNat_ofInt]
  have e1:((n:Int)%((2^64:Nat):Int)).toNat=n:=by omega
  have e2:((y:Int)%((2^64:Nat):Int)).toNat=y:=by omega
  rw[e1,e2]
  have:=Nat.two_pow_add_eq_or_of_lt hn x
  rw[Nat.mul_comm]at this
  rw[hy]at this
  rw[Nat.or_comm,<-this,Nat.add_comm]
 rw[e,qn (by omega) (by omega)]
def rU(l:List Int)(p:Nat)(e:Int)(most:Nat):Nat×Nat×Int:=
 if e≠0 then(0,p,e)
 else if(gU (l.drop p) 0 0 0).2.2≠0 then(0,p+(gU (l.drop p) 0 0 0).2.1,(gU (l.drop p) 0 0 0).2.2)
 else if most<(gU (l.drop p) 0 0 0).1 then(0,p+(gU (l.drop p) 0 0 0).2.1,7)
 else((gU (l.drop p) 0 0 0).1,p+(gU (l.drop p) 0 0 0).2.1,0)
section
variable (b k:Nat)(l:List Int)(most:Nat)
theorem Yf(p:Nat)(e:Int)(he:e≠0)(hp:Hp)(h:hp.rd b 0=some (Rc k l p e))(v:Value)(n s:Int)(c:Int):
 B45_7 (.ptr b 0 0) v (.int .u64 n) (.int .i64 s) (.int .u8 c) hp=some (.sc (.int .u64 0),hp):=by
 have er:=zH b k l p e hp h
 rw[qig]
 simp[er,he]
theorem XS(p:Nat)(e:Int)(hp:Hp)(h:hp.rd b 0=some (Rc k l p e))(v:Value)(n s:Int)(c:Int):
 B45_6 (.ptr b 0 0) v (.int .u64 n) (.int .i64 s) (.int .u8 c) hp=some (.sc (.int .u64 0),hp.put b 0 (Rc k l p (rE e 4))):=by
 have fl:=QH b k l p e hp 4 h
 have e7:=Yf b k l p (rE e 4) (by unfold rE;split<;>simp_all) (hp.put b 0 (Rc k l p (rE e 4))) (qi _ _ _) v n s c
 rw[qyr]
 simp[fl,e7]
def uF(most:Nat)(g:Nat×Nat×Int):Nat×Int:=if g.2.2≠0 then(0,g.2.2)else if most<g.1 then(0,7)else(g.1,0)
theorem qzt(hm:most<18446744073709551616)(q s n c:Nat)(hp:Hp)(hc:c<256)(hs:s<=63)(hn:n<2^s)(hfit:n+c%128*2^s<18446744073709551616)(h:hp.rd b 0=some (Rc k l q 0)):
 B45_7 (.ptr b 0 0) (.int .u64 most) (.int .u64 n) (.int .i64 s) (.int .u8 c) hp=
  if c<128 then(if most<n+c*2^s then some (.sc (.int .u64 0),hp.put b 0 (Rc k l q 7))else some (.sc (.int .u64 ((n+c*2^s:Nat):Int)),hp))
  else B45_4 (.ptr b 0 0) (.int .u64 most) (.int .u64 ((n+(c-128)*2^s:Nat):Int)) (.int .i64 ((s+7:Nat):Int)) hp:=by
 have er:=zH b k l q 0 hp h
 have fl:=QH b k l q 0 hp 7 h
 have an:=zfm c hc
 have w:IntKind.u64.wrap ((c%128:Nat):Int)=((c%128:Nat):Int):=qn (by omega) (by omega)
 have sh:∀t x y,qr Tryz.prog .shl t x y (.int .u64 ((c%128:Nat):Int)) (.int .i64 (s:Int))=some (.int .u64 ((c%128*2^s:Nat):Int)):=by
  intro t x y
  rw[zF _ _ _ _ _ _ _ _ (by omega)]
  have e:min (s:Int).toNat IntKind.u64.bits=s:=by
   have:IntKind.u64.bits=64:=rfl
   omega
  rw[e]
  have e2:((c%128:Nat):Int)*2^s=((c%128*2^s:Nat):Int):=by simp
  rw[e2,qn (by omega) (by omega)]
 have oo:=zd3 n (c%128) s hn hfit
 have w7:IntKind.i64.wrap ((s:Int)+7)=((s+7:Nat):Int):=by rw[qf]<;>omega
 rw[qig]
 by_cases h1:c<128
 ·have e1:c%128=c:=by omega
  rw[e1]at an w sh oo
  have hlt:((c:Int)<128):=by omega
  rw[if_pos h1]
  by_cases h2:most<n+c*2^s
  ·rw[if_pos h2]
   generalize c*2^s=y at*
   generalize hz:n+y=z at*
   have hlt2:(most:Int)<(z:Int):=by omega
   simp[er,an,w,sh,oo,hlt,hlt2,fl,rE,-qS,-zG]
  ·rw[if_neg h2]
   generalize c*2^s=y at*
   generalize hz:n+y=z at*
   have hlt2:¬((most:Int)<(z:Int)):=by omega
   simp[er,an,w,sh,oo,hlt,hlt2,-qS,-zG]
 ·have e1:c%128=c-128:=by omega
  rw[e1]at an w sh oo
  have hlt:¬((c:Int)<128):=by omega
  rw[if_neg h1]
  generalize(c-128)*2^s=y at*
  generalize hz:n+y=z at*
  generalize((c-128:Nat):Int)=c' at*
  generalize((s+7:Nat):Int)=s' at*
  simp[er,an,w,sh,oo,hlt,w7,-qS,-zG]
end
section
variable (b k:Nat)(l:List Int)(most:Nat)
theorem qjs(hm:most<18446744073709551616)(hl:l.length<=1000000000)(h8:∀c∈l,0<=c/\c<256)(p:Nat):∀(r:List Int) (u s n i:Nat) (hp:Hp),l.drop (p+u)=r->p+u<=l.length->s=7*i->i<=9->n<2^s->hp.rd b 0=some (Rc k l (p+u) 0)->
 B45_4 (.ptr b 0 0) (.int .u64 most) (.int .u64 n) (.int .i64 s) hp=some (.sc (.int .u64 ((uF most (gU r s n u)).1:Nat)),hp.put b 0 (Rc k l (p+(gU r s n u).2.1) (uF most (gU r s n u)).2)):=by
 intro r
 induction r with
 |nil=>
  intro u s n i hp hr hpu hs hi hn h
  have hle:=qB hr
  have hb:rB l (p+u) 0=(0,p+u,3):=by
   unfold rB rL rE
   rw[if_pos (by simp;omega)]
   simp
  have rb:=QI b k l (p+u) 0 hp hl hpu h
  rw[hb]at rb
  have g:gU [] s n u=(0,u,3):=rfl
  have f:uF most (0,u,3)=(0,3):=rfl
  rw[g,f]
  have e6:=XS b k l (p+u) 3 (hp.put b 0 (Rc k l (p+u) 3)) (qi _ _ _) (.int .u64 most) n s 0
  have e7:=Yf b k l (p+u) 3 (by decide) (hp.put b 0 (Rc k l (p+u) 3)) (qi _ _ _) (.int .u64 most) n s 0
  have r34:rE 3 4=3:=rfl
  rw[qp,r34]at e6
  rw[JP]
  by_cases h63:s=63
  ·subst h63
   simp at e6
   simp[rb,e6]
  ·have hc:¬((s:Int)=63):=by omega
   by_cases h0:s=0
   ·subst h0
    simp at e7
    simp[rb,e7]
   ·have hp0:0<s:=by omega
    simp[rb,hc,hp0,e6]
 |cons c r ih=>
  intro u s n i hp hr hpu hs hi hn h
  obtain⟨e1,e2,hlt,e3⟩:=qm hr
  have hc8:=h8 c (List.mem_of_getElem? e1)
  obtain⟨cn,rfl⟩:∃cn:Nat,c=cn:=⟨c.toNat,by omega⟩
  have hb:rB l (p+u) 0=((cn:Int),p+u+1,0):=by
   unfold rB rL
   rw[if_neg (by simp;omega)]
   simp[hlt,e3]
  have rb:=QI b k l (p+u) 0 hp hl hpu h
  rw[hb]at rb
  have e6:=XS b k l (p+u+1) 0 (hp.put b 0 (Rc k l (p+u+1) 0)) (qi _ _ _) (.int .u64 most) n s cn
  have r34:rE 0 4=4:=rfl
  rw[qp,r34]at e6
  have hs63:s<=63:=by omega
  by_cases bad:(s=63/\1<(cn:Int))\/(0<s/\(cn:Int)=0)
  ·have g:gU ((cn:Int)::r) s n u=(0,u+1,4):=by unfold gU;rw[if_pos bad]
   have f:uF most (0,u+1,4)=(0,4):=rfl
   rw[g,f,JP]
   have hpu1:p+(u+1)=p+u+1:=by omega
   rw[hpu1]
   by_cases h63:s=63
   ·subst h63
    by_cases h1:1<cn
    ·have h1':1<(cn:Int):=by omega
     simp at e6
     simp[rb,h1',e6]
    ·have hc0:cn=0:=by
      rcases bad with⟨_,h2⟩|⟨_,h2⟩<;>omega
     subst hc0
     simp at e6
     simp[rb,e6]
   ·have hc:¬((s:Int)=63):=by omega
    have hz:0<s/\cn=0:=by
     rcases bad with⟨h2,_⟩|⟨h2,h3⟩
     ·exact absurd h2 h63
     ·exact⟨h2,by omega⟩
    obtain⟨hz1,hz2⟩:=hz
    subst hz2
    simp at e6
    simp[rb,hc,hz1,e6]
  ·have hfit:n+cn%128*2^s<18446744073709551616:=by
    by_cases h63:s=63
    ·subst h63
     have hc1:¬(1<(cn:Int)):=fun h2=>bad (.inl ⟨rfl,h2⟩)
     have e:(2:Nat)^63=9223372036854775808:=rfl
     rw[e]at hn⊢
     have:cn%128<=1:=by omega
     omega
    ·have hs56:s<=56:=by omega
     have h7:2^s<=2^56:=Nat.pow_le_pow_right (by decide) hs56
     have e:(2:Nat)^56=72057594037927936:=rfl
     rw[e]at h7
     have:cn%128*2^s<=127*72057594037927936:=Nat.mul_le_mul (by omega) h7
     omega
   have b7:=qzt b k l most hm (p+u+1) s n cn (hp.put b 0 (Rc k l (p+u+1) 0)) (by omega) hs63 hn hfit (qi _ _ _)
   have hpu1:p+(u+1)=p+u+1:=by omega
   have step:B45_4 (.ptr b 0 0) (.int .u64 most) (.int .u64 n) (.int .i64 s) hp=B45_7 (.ptr b 0 0) (.int .u64 most) (.int .u64 n) (.int .i64 s) (.int .u8 cn) (hp.put b 0 (Rc k l (p+u+1) 0)):=by
    rw[JP]
    by_cases h63:s=63
    ·subst h63
     have h1:¬(1<cn):=fun h2=>bad (.inl ⟨rfl,by omega⟩)
     have h2:¬(cn=0):=fun h2=>bad (.inr ⟨by omega,by omega⟩)
     have h1':¬(1<(cn:Int)):=by omega
     simp[rb,h1',h2]
    ·have hc:¬((s:Int)=63):=by omega
     by_cases h0:s=0
     ·subst h0
      simp[rb]
     ·have hp0:0<s:=by omega
      have h2:¬(cn=0):=fun h2=>bad (.inr ⟨by omega,by omega⟩)
      simp[rb,hc,hp0,h2]
   rw[step,b7]
   by_cases h1:cn<128
   ·have g:gU ((cn:Int)::r) s n u=(n+cn*2^s,u+1,0):=by
     unfold gU;rw[if_neg bad,if_pos (by omega),Int.toNat_natCast]
    rw[if_pos h1,g,qp]
    by_cases h2:most<n+cn*2^s
    ·have f:uF most (n+cn*2^s,u+1,0)=(0,7):=by unfold uF;simp[h2]
     rw[if_pos h2,f]
     simp only[hpu1];rfl
    ·have f:uF most (n+cn*2^s,u+1,0)=(n+cn*2^s,0):=by unfold uF;simp[h2]
     rw[if_neg h2,f]
     simp only[hpu1]
   ·have g:gU ((cn:Int)::r) s n u=gU r (s+7) (n+(cn-128)*2^s) (u+1):=by
     conv=>lhs;unfold gU
     rw[if_neg bad,if_neg (by omega),Int.toNat_natCast]
    have hi9:i+1<=9:=by
     by_cases h63:s=63
     ·exact absurd (.inl ⟨h63,by omega⟩) bad
     ·omega
    have hn7:n+(cn-128)*2^s<2^(s+7):=by
     have e:2^(s+7)=128*2^s:=by rw[Nat.pow_add];omega
     rw[e]
     have:(cn-128)*2^s<=127*2^s:=Nat.mul_le_mul_right _ (by omega)
     omega
    rw[if_neg h1,g]
    have hh:=ih (u+1) (s+7) (n+(cn-128)*2^s) (i+1) (hp.put b 0 (Rc k l (p+u+1) 0)) (by rw[hpu1];exact e2) (by omega) (by omega) hi9 hn7 (by rw[hpu1];exact qi _ _ _)
    rw[qp]at hh
    exact hh
theorem Ya(p:Nat)(e:Int)(hm:most<18446744073709551616)(hl:l.length<=1000000000)(h8:∀c∈l,0<=c/\c<256)(hpl:p<=l.length)(hp:Hp)(h:hp.rd b 0=some (Rc k l p e)):
 run cxX 45 [.ptr b 0 0,.sc (.int .u64 (most:Int))] hp=some (.sc (.int .u64 ((rU l p e most).1:Nat)),hp.put b 0 (Rc k l (rU l p e most).2.1 (rU l p e most).2.2)):=by
 rw[E45]
 by_cases he:e=0
 ·subst he
  have hh:=qjs b k l most hm hl h8 p (l.drop p) 0 0 0 0 hp rfl (by omega) rfl (by omega) (by decide) h
  have er:rU l p 0 most=((uF most (gU (l.drop p) 0 0 0)).1,p+(gU (l.drop p) 0 0 0).2.1,(uF most (gU (l.drop p) 0 0 0)).2):=by
   unfold rU uF
   rw[if_neg (by simp)]
   split
   ·rfl
   ·split<;>rfl
  rw[er]
  simpa using hh
 ·have er:rU l p e most=(0,p,e):=by unfold rU;rw[if_pos he]
  rw[er]
  have hb:rB l p e=(0,p,e):=by
   unfold rB rL rE
   simp[he]
  have rb:=QI b k l p e hp hl hpl h
  rw[hb,zE h]at rb
  have e7:=Yf b k l p e he hp h (.int .u64 most) 0 0 0
  rw[zE h]
  simp[JP,rb,e7]
end
theorem zgt(l:List Int)(p:Nat)(e:Int)(most:Nat)(h8:∀c∈l,0<=c/\c<256):(rU l p e most).1<18446744073709551616:=by
 unfold rU
 split
 ·exact(by decide:0<18446744073709551616)
 ·split
  ·exact(by decide:0<18446744073709551616)
  ·rename_i h
   split
   ·exact(by decide:0<18446744073709551616)
   ·obtain⟨m,m1,_,_,_,m5⟩:=zhc (l.drop p) 0 0 0 0 (fun c hc=>h8 c (List.mem_of_mem_drop hc)) rfl (by omega) (Classical.not_not.mp h)
    show(gU (l.drop p) 0 0 0).1<_
    rw[m1]
    simpa using m5
theorem zfn(n:Nat)(hn:n<18446744073709551616)(t:TypeId)(x y:Operand):qr Tryz.prog .and t x y (.int .u64 (n:Int)) (.int .u64 1)=some (.int .u64 ((n%2:Nat):Int)):=by
 rw[qS]
 have e2:(BitVec.ofInt IntKind.u64.bits (n:Int)&&&BitVec.ofInt IntKind.u64.bits 1).toNat=n%2:=by
  show(BitVec.ofInt 64 (n:Int)&&&1#64).toNat=_
  rw[BitVec.toNat_and,BitVec.toNat_ofInt]
  have e1:((n:Int)%((2^64:Nat):Int)).toNat=n:=by omega
  rw[e1]
  exact Nat.and_one_is_mod n
 rw[e2,qn (by omega) (by omega)]
theorem ql5(P:Program)(a:Int):unV P .neg (.int .i64 a)=some (.int .i64 (IntKind.i64.wrap (0-a))):=rfl
theorem qt7(b k:Nat)(l:List Int)(p:Nat)(e:Int)(hl:l.length<=1000000000)(h8:∀c∈l,0<=c/\c<256)(hpl:p<=l.length)(hp:Hp)(h:hp.rd b 0=some (Rc k l p e)):
 run cxX 107 [.ptr b 0 0] hp=some (.sc (.int .i64 (qiv (rU l p e 18446744073709551615).1)),hp.put b 0 (Rc k l (rU l p e 18446744073709551615).2.1 (rU l p e 18446744073709551615).2.2)):=by
 have ru:=Ya b k l 18446744073709551615 p e (by decide) hl h8 hpl hp h
 have hu:=zgt l p e 18446744073709551615 h8
 generalize rU l p e 18446744073709551615=q at*
 obtain⟨u,p',e'⟩:=q
 simp only at ru hu⊢
 have sh:∀t x y,qr Tryz.prog .shr t x y (.int .u64 (u:Int)) (.int .u64 1)=some (.int .u64 ((u/2:Nat):Int)):=by
  intro t x y
  rw[js _ _ _ _ _ _ _ _ (by omega)]
  congr 2
  rw[Int.fdiv_eq_ediv_of_nonneg _ (by decide)]
  show(u:Int)/2=_
  omega
 have an:=zfn u hu
 have w1:IntKind.i64.wrap ((u/2:Nat):Int)=((u/2:Nat):Int):=qf (by omega) (by omega)
 have w2:IntKind.i64.wrap ((u%2:Nat):Int)=((u%2:Nat):Int):=qf (by omega) (by omega)
 have lit:(.int .u64 18446744073709551615:Value)= .int .u64 ((18446744073709551615:Nat):Int):=rfl
 rw[E107]
 have fin:∀t x y,qr Tryz.prog .xor t x y (.int .i64 ((u/2:Nat):Int)) (.int .i64 (IntKind.i64.wrap (0-((u%2:Nat):Int))))=some (.int .i64 (qiv u)):=by
  intro t x y
  rw[yQ]
  have hx:(BitVec.ofInt 64 ((u/2:Nat):Int)).toNat=u/2:=by rw[BitVec.toNat_ofInt];omega
  by_cases h2:u%2=0
  ·have e0:IntKind.i64.wrap (0-((u%2:Nat):Int))=0:=by rw[h2];rfl
   have e1:(BitVec.ofInt IntKind.i64.bits ((u/2:Nat):Int)^^^BitVec.ofInt IntKind.i64.bits (IntKind.i64.wrap (0-((u%2:Nat):Int)))).toNat=u/2:=by
    rw[e0]
    show(BitVec.ofInt 64 ((u/2:Nat):Int)^^^0#64).toNat=_
    rw[BitVec.xor_zero,hx]
   rw[e1,w1]
   unfold qiv
   rw[if_pos h2]
  ·have e0:IntKind.i64.wrap (0-((u%2:Nat):Int))=-1:=by
    have:u%2=1:=by omega
    rw[this];rfl
   have e1:(BitVec.ofInt IntKind.i64.bits ((u/2:Nat):Int)^^^BitVec.ofInt IntKind.i64.bits (IntKind.i64.wrap (0-((u%2:Nat):Int)))).toNat=18446744073709551615-u/2:=by
    rw[e0]
    have e2:BitVec.ofInt 64 (-1)=BitVec.allOnes 64:=by decide
    show(BitVec.ofInt 64 ((u/2:Nat):Int)^^^BitVec.ofInt 64 (-1)).toNat=_
    rw[e2,BitVec.xor_allOnes,BitVec.toNat_not,hx]
   rw[e1]
   unfold qiv
   have hv:u/2<9223372036854775808:=by omega
   generalize u/2=v at*
   have e3:IntKind.i64.wrap ((18446744073709551615-v:Nat):Int)=-(v:Int)-1:=by
    have e4:((18446744073709551615-v:Nat):Int)=18446744073709551615-(v:Int):=by omega
    rw[e4,IntKind.wrap_i64]
    omega
   rw[if_neg h2,e3]
 generalize((u/2:Nat):Int)=c1 at*
 generalize((u%2:Nat):Int)=c2 at*
 generalize qiv u=z at*
 simp at ru
 simp only[Int.zero_sub]at fin
 simp[ru,sh,an,w1,w2,ql5,fin,-qS,-yQ]
def Fm(X:List Nat)(hp hp':Hp):Prop:=hp.next<=hp'.next/\∀c,c<hp.next->c∉X->hp'.get c=hp.get c
theorem Fm.refl(X:List Nat)(hp:Hp):Fm X hp hp:=⟨Nat.le_refl _,fun _ _ _=>rfl⟩
theorem Fm.trans{X:List Nat}{a b c:Hp}(h:Fm X a b)(g:Fm X b c):Fm X a c:=
 ⟨Nat.le_trans h.1 g.1,fun x hx hn=>by rw[g.2 x (Nat.lt_of_lt_of_le hx h.1) hn,h.2 x hx hn]⟩
theorem Fm.mono{X Y:List Nat}{a b:Hp}(h:Fm X a b)(hs:∀c,c∈X->c<a.next->c∈Y):Fm Y a b:=
 ⟨h.1,fun c hc hn=>h.2 c hc (fun hx=>hn (hs c hx hc))⟩
theorem rdg{a b:Hp}{c:Nat}(h:b.get c=a.get c):b.rd c 0=a.rd c 0:=by unfold Hp.rd;rw[h]
theorem Fm.rd{X:List Nat}{a b:Hp}(h:Fm X a b){c:Nat}(hc:c<a.next)(hn:c∉X):b.rd c 0=a.rd c 0:=rdg (h.2 c hc hn)
theorem Fm.put{X:List Nat}(hp:Hp)(b:Nat)(x:List AV)(hb:b∈X):Fm X hp (hp.put b 0 x):=
 ⟨Nat.le_refl _,fun c _ hn=>by
  have:c≠b:=fun e=>hn (e▸hb)
  simp[Hp.put,this]⟩
theorem Fm.new(X:List Nat)(hp:Hp)(x:List AV):Fm X hp (hp.new x):=
 ⟨Nat.le_succ _,fun c hc _=>by
  have:c≠hp.next:=by omega
  simp[Hp.new,this]⟩
theorem Fm.delNew{X:List Nat}(hp:Hp)(b:Nat)(x:List AV)(hb:b∈X):Fm X hp ((hp.del b).new x):=
 ⟨Nat.le_succ _,fun c hc hn=>by
  have h1:c≠hp.next:=by omega
  have h2:c≠b:=fun e=>hn (e▸hb)
  have h3:c≠(hp.del b).next:=h1
  show(if c=(hp.del b).next then _ else(hp.del b).get c)=_
  rw[if_neg h3]
  show(if c=b then none else hp.get c)=_
  rw[if_neg h2]⟩
def Bs(nb:Nat)(bs:List Bool):AV:=if bs=[]then S 2 1 []else .ms nb 0 0 (pk bs).length 1
def BW(hp:Hp)(w nb:Nat)(bs:List Bool):Prop:=
 w<hp.next/\(bs=[]->nb=w)/\(bs≠[]->nb<hp.next/\nb≠w/\hp.rd nb 0=some (LI .u8 (pk bs)))/\hp.rd w 0=some [Bs nb bs,.sc (.int .i64 (bs.length:Int))]
def RW(hp:Hp)(w nb:Nat)(l:List Bool)(m:Nat):Prop:=
 w<hp.next/\nb<hp.next/\nb≠w/\hp.rd nb 0=some (LI .u8 (pk l))/\hp.rd w 0=some [.ms nb 0 0 (pk l).length 1,.sc (.int .i64 (m:Int))]
theorem BW.new(hp:Hp):BW (hp.new [S 2 1 [],.sc (.int .i64 0)]) hp.next hp.next []:=
 ⟨Nat.lt_succ_self _,fun _=>rfl,fun h=>absurd rfl h,by rw[qz];rfl⟩
theorem BW.fr{hp hp':Hp}{w nb:Nat}{bs:List Bool}{X:List Nat}(h:BW hp w nb bs)(f:Fm X hp hp')(h1:w∉X)(h2:nb∉X):BW hp' w nb bs:=
 ⟨Nat.lt_of_lt_of_le h.1 f.1,h.2.1,fun hb=>⟨Nat.lt_of_lt_of_le (h.2.2.1 hb).1 f.1,(h.2.2.1 hb).2.1,by rw[f.rd (h.2.2.1 hb).1 h2];exact(h.2.2.1 hb).2.2⟩,
  by rw[f.rd h.1 h1];exact h.2.2.2⟩
def BS(hp:Hp)(w nb:Nat)(hp':Hp)(nb':Nat)(l:List Bool):Prop:=BW hp' w nb' l/\Fm [w,nb] hp hp'/\(nb'=nb\/hp.next<=nb')
theorem BS.trans{a b c:Hp}{w n1 n2 n3:Nat}{l m:List Bool}(hw:w<a.next)(h:BS a w n1 b n2 l)(g:BS b w n2 c n3 m):BS a w n1 c n3 m:=by
 refine⟨g.1,⟨Nat.le_trans h.2.1.1 g.2.1.1,fun x hx hn=>?_⟩,?_⟩
 ·have hx':=Nat.lt_of_lt_of_le hx h.2.1.1
  simp at hn
  rw[g.2.1.2 x hx' (by simp;refine⟨hn.1,?_⟩;rcases h.2.2 with e|e
                       ·rw[e];exact hn.2
                       ·omega),h.2.1.2 x hx (by simp;exact hn)]
 ·have:=h.2.1.1
  rcases h.2.2 with e|e
  ·rcases g.2.2 with e'|e'
   ·exact .inl (by rw[e',e])
   ·exact .inr (by omega)
  ·rcases g.2.2 with e'|e'
   ·exact .inr (by omega)
   ·exact .inr (by omega)
theorem qcz(m:Nat)(t:TypeId)(x y:Operand):qr Tryz.prog .rem t x y (.int .i64 (m:Int)) (.int .i64 8)=some (.int .i64 ((m%8:Nat):Int)):=by
 rw[qW _ _ _ _ _ _ _ (by omega),qV (by omega)]
 rfl
theorem qc1(m:Nat)(hm:m<1000000000)(t:TypeId)(x y:Operand):qr Tryz.prog .quo t x y (.int .i64 (m:Int)) (.int .i64 8)=some (.int .i64 ((m/8:Nat):Int)):=by
 rw[jU _ _ _ _ _ _ _ (by omega),Int.tdiv_eq_ediv_of_nonneg (by omega),qf (by omega) (by omega)]
 rfl
theorem pkne{l:List Bool}(h:l≠[]):pk l≠[]:=by
 intro e
 have:=congrArg List.length e
 have h1:=List.length_pos_iff.mpr h
 simp at this
 omega
section
variable (w nb n:Nat)(v1:Value)(i:Nat)(bs:List Bool)(hp:Hp)
theorem zfd(hm:bs.length<7900000)(h:BW hp w nb bs):∃hp' nb',B86_2 (.ptr w 0 0) v1 (.int .i64 (i:Int)) hp=B86_6 (.ptr w 0 0) v1 (.int .i64 (i:Int)) hp'/\
 RW hp' w nb' (bs++[false]) bs.length/\Fm [w,nb] hp hp'/\(nb'=nb\/hp.next<=nb'):=by
 obtain⟨h1,h2,h3,h4⟩:=h
 have hi:(0:Int)<=(i:Int):=by omega
 have r8:=qcz bs.length
 rw[qhr]
 by_cases hz:bs.length%8=0
 ·have pf:=qfk bs
  rw[if_pos hz]at pf
  rw[hz]at r8
  by_cases hb:bs=[]
  ·subst hb
   have e:Bs nb []=S 2 1 []:=rfl
   have r80:∀t x y,qr Tryz.prog .rem t x y (.int .i64 0) (.int .i64 8)=some (.int .i64 0):=fun t x y=>qcz 0 t x y
   rw[e]at h4
   have a:=wM .u8 0 1 (by decide) hp
   have hne:w≠hp.next:=by omega
   have r1:=zX hp (LI .u8 [0]) hne
   rw[h4]at r1
   refine⟨(hp.new (LI .u8 [0])).put w 0 [.ms hp.next 0 0 1 1,.sc (.int .i64 0)],hp.next,?_,?_,?_,.inr (Nat.le_refl _)⟩
   ·simp[hi,h4,qe,qj,r80,xx,a,r1,qh]
   ·refine⟨by simp;omega,by simp,fun e=>hne e.symm,?_,?_⟩
    ·rw[qv _ _ (fun e=>hne e.symm),qz];rfl
    ·rw[qi];rfl
   ·exact(Fm.new _ hp _).trans (Fm.put _ _ _ (by simp))
  ·obtain⟨n1,n2,n3⟩:=h3 hb
   have e:Bs nb bs= .ms nb 0 0 (pk bs).length 1:=if_neg hb
   rw[e]at h4
   have a:=Qz .u8 (pk bs) 0 1 nb (by decide) (by rw[zR];omega) (pkne hb) hp n3
   have hne:w≠hp.next:=by omega
   have r1:((hp.del nb).new (LI .u8 (pk bs++[0]))).rd w 0=hp.rd w 0:=(Fm.delNew (X:=[nb]) hp nb _ (by simp)).rd h1 (by simp;exact fun e=>n2 e.symm)
   rw[h4]at r1
   refine⟨((hp.del nb).new (LI .u8 (pk bs++[0]))).put w 0 [.ms hp.next 0 0 ((pk bs).length+1) 1,.sc (.int .i64 bs.length)],hp.next,?_,?_,?_,.inr (Nat.le_refl _)⟩
   ·generalize pk bs=pb at*
    simp[hi,h4,qe,qj,r8,xx,a,r1,qh]
   ·refine⟨by simp[Hp.del];omega,by simp[Hp.del],fun e=>hne e.symm,?_,?_⟩
    ·rw[qv _ _ (fun e=>hne e.symm),pf];exact qz (hp.del nb) _
    ·rw[qi,pf,List.length_append];rfl
   ·exact(Fm.delNew hp nb _ (by simp)).trans (Fm.put _ _ _ (by simp))
 ·have hb:bs≠[]:=fun e=>hz (by rw[e];rfl)
  obtain⟨n1,n2,n3⟩:=h3 hb
  have e:Bs nb bs= .ms nb 0 0 (pk bs).length 1:=if_neg hb
  rw[e]at h4
  have pf:=qfk bs
  rw[if_neg hz]at pf
  refine⟨hp,nb,?_,⟨h1,n1,n2,by rw[pf];exact n3,by rw[pf];exact h4⟩,Fm.refl _ _,.inl rfl⟩
  have hz':¬(((bs.length%8:Nat):Int)=0):=by omega
  generalize((bs.length%8:Nat):Int)=z at*
  simp[hi,h4,qe,r8,hz']
theorem zdq(m:Nat)(t:TypeId)(x y:Operand):qr Tryz.prog .shr t x y (.int .u8 128) (.int .i64 ((m%8:Nat):Int))=some (.int .u8 ((2^(7-m%8):Nat):Int)):=by
 rw[js _ _ _ _ _ _ _ _ (by omega),Int.toNat_natCast]
 have h:m%8<8:=Nat.mod_lt _ (by decide)
 generalize m%8=r at*
 have:r=0\/r=1\/r=2\/r=3\/r=4\/r=5\/r=6\/r=7:=by omega
 rcases this with e|e|e|e|e|e|e|e<;>subst e<;>rfl
theorem or8(bs:List Bool)(t:TypeId)(x y:Operand):qr Tryz.prog .or t x y (.int .u8 (by8 (bs++[false]) (8*(bs.length/8)):Nat)) (.int .u8 ((2^(7-bs.length%8):Nat):Int))=
 some (.int .u8 (by8 (bs++[true]) (8*(bs.length/8)):Nat)):=by
 rw[zG]
 have e:(BitVec.ofInt IntKind.u8.bits (by8 (bs++[false]) (8*(bs.length/8)):Nat)|||BitVec.ofInt IntKind.u8.bits ((2^(7-bs.length%8):Nat):Int)).toNat=by8 (bs++[true]) (8*(bs.length/8)):=by
  rw[<-ze8,BitVec.ofInt_natCast,BitVec.ofInt_natCast]
  rfl
 have:=qle (bs++[true]) (8*(bs.length/8))
 rw[e,qT (by omega) (by omega)]
theorem jv(K:IntKind)(l:List Int)(i:Nat)(h:i<l.length):qe (LI K l) i=some (.int K (l.getD i 0)):=by
 unfold qe LI
 rw[List.getElem?_map,List.getD_eq_getElem?_getD,List.getElem?_eq_getElem h]
 rfl
theorem zfc(hn:n<18446744073709551616)(hi:i<64)(hm:bs.length<7900000)(h:RW hp w nb (bs++[false]) bs.length):
 ∃hp',B86_6 (.ptr w 0 0) (.int .u64 (n:Int)) (.int .i64 (i:Int)) hp=B86_8 (.ptr w 0 0) (.int .u64 (n:Int)) (.int .i64 (i:Int)) hp'/\
  RW hp' w nb (bs++[n.testBit i]) bs.length/\Fm [w,nb] hp hp':=by
 obtain⟨h1,h2,h3,h4,h5⟩:=h
 have s1:=fun o o'=>QF n i (by omega) o o' .i64
 have s2':=zfn (n/2^i) (Nat.lt_of_le_of_lt (Nat.div_le_self _ _) hn)
 have tb:n.testBit i=decide (n/2^i%2=1):=Nat.testBit_eq_decide_div_mod_eq
 rw[qyb]
 by_cases hb:n/2^i%2=1
 ·have s2:∀t x y,qr Tryz.prog .and t x y (.int .u64 ((n/2^i:Nat):Int)) (.int .u64 1)=some (.int .u64 1):=fun t x y=>by rw[s2',hb];rfl
  rw[tb,decide_eq_true hb]
  have q:=qc1 bs.length (by omega)
  have r:=qcz bs.length
  have s3:=zdq bs.length
  have o8:=or8 bs
  have il:bs.length/8<(pk (bs++[false])).length:=by rw[zR];simp;omega
  have ix:=qU .i64 il
  have g1:=jv .u8 (pk (bs++[false])) _ il
  rw[qc3 _ _ (by simp;omega)]at g1
  have p1:=yL .u8 (pk (bs++[false])) (bs.length/8) (by8 (bs++[true]) (8*(bs.length/8)):Nat) il
  rw[<-zad]at p1
  have e:=zR (bs++[true])
  have e2:(pk (bs++[true])).length=(pk (bs++[false])).length:=by simp
  refine⟨hp.put nb 0 (LI .u8 (pk (bs++[true]))),?_,⟨h1,h2,h3,by rw[qi],by rw[qv _ _ (fun e=>h3 e.symm),h5,e2]⟩,Fm.put _ _ _ (by simp)⟩
  generalize(by8 (bs++[false]) (8*(bs.length/8)):Nat)=x at*
  generalize(by8 (bs++[true]) (8*(bs.length/8)):Nat)=y at*
  generalize pk (bs++[false])=pf at*
  generalize pk (bs++[true])=pt at*
  generalize((2^(7-bs.length%8):Nat):Int)=zz at*
  generalize n/2^i=nn at*
  generalize bs.length/8=jj at*
  generalize bs.length%8=kk at*
  simp only[Zj,s1,Option.bind_some]
  have gs:∀(x:AV) (v:Value),qe [x,.sc v] 1=some v:=fun _ _=>rfl
  simp[s2,h5,qj,gs,q,ix,h4,g1,r,s3,o8,p1,-zG,-qS]
 ·have hz:n/2^i%2=0:=by omega
  have s2:∀t x y,qr Tryz.prog .and t x y (.int .u64 ((n/2^i:Nat):Int)) (.int .u64 1)=some (.int .u64 0):=fun t x y=>by rw[s2',hz];rfl
  rw[tb,decide_eq_false hb]
  refine⟨hp,?_,⟨h1,h2,h3,h4,h5⟩,Fm.refl _ _⟩
  generalize n/2^i=nn at*
  simp only[Zj,s1,Option.bind_some]
  simp[s2,-qS]
theorem zfb(hm:bs.length<7900000)(b:Bool)(hi:i<64)(h:RW hp w nb (bs++[b]) bs.length):
 ∃hp',B86_8 (.ptr w 0 0) v1 (.int .i64 (i:Int)) hp=B86_2 (.ptr w 0 0) v1 (.int .i64 ((i:Int)-1)) hp'/\BW hp' w nb (bs++[b])/\Fm [w,nb] hp hp':=by
 obtain⟨h1,h2,h3,h4,h5⟩:=h
 have w1:IntKind.i64.wrap ((bs.length:Int)+1)=((bs.length:Int)+1):=by rw[qf]<;>omega
 have w2:IntKind.i64.wrap ((i:Int)-1)=((i:Int)-1):=by rw[qf]<;>omega
 have hne:bs++[b]≠[]:=by simp
 refine⟨hp.put w 0 [.ms nb 0 0 (pk (bs++[b])).length 1,.sc (.int .i64 ((bs++[b]).length:Int))],?_,⟨h1,fun e=>absurd e hne,fun _=>⟨h2,h3,by rw[qv _ _ h3];exact h4⟩,?_⟩,Fm.put _ _ _ (by simp)⟩
 ·rw[qya]
  generalize pk (bs++[b])=pb at*
  simp[h5,qe,w1,w2,qh]
 ·rw[qi]
  unfold Bs
  rw[if_neg hne]
theorem qqu(w n:Nat)(hn:n<18446744073709551616):∀(k nb:Nat) (bs:List Bool) (hp:Hp),k<=64->bs.length+k<7900000->BW hp w nb bs->
 ∃hp' nb',B86_2 (.ptr w 0 0) (.int .u64 (n:Int)) (.int .i64 ((k:Int)-1)) hp=some (.tup [],hp')/\BS hp w nb hp' nb' (bs++xE n k):=by
 intro k
 induction k with
 |zero=>
  intro nb bs hp hk hl h
  refine⟨hp,nb,?_,by simpa[xE]using h,Fm.refl _ _,.inl rfl⟩
  rw[qhr]
  simp
 |succ k ih=>
  intro nb bs hp hk hl h
  obtain⟨hp1,nb1,a1,a2,a3,a4⟩:=zfd w nb (.int .u64 (n:Int)) k bs hp (by omega) h
  obtain⟨hp2,b1,b2,b3⟩:=zfc w nb1 n k bs hp1 hn (by omega) (by omega) a2
  obtain⟨hp3,c1,c2,c3⟩:=zfb w nb1 (.int .u64 (n:Int)) k bs hp2 (by omega) _ (by omega) b2
  obtain⟨hp4,nb4,d1,d2⟩:=ih nb1 (bs++[n.testBit k]) hp3 (by omega) (by simp;omega) c2
  have e:((k+1:Nat):Int)-1=(k:Int):=by omega
  have e2:bs++xE n (k+1)=bs++[n.testBit k]++xE n k:=by simp[xE]
  refine⟨hp4,nb4,by rw[e,a1,b1,c1,d1],?_⟩
  rw[e2]
  refine BS.trans h.1 (n2:=nb1) (b:=hp3) (l:=bs++[n.testBit k]) ⟨c2,?_,a4⟩ d2
  refine⟨Nat.le_trans a3.1 (Nat.le_trans b3.1 c3.1),fun c hc hn=>?_⟩
  have hc1:=Nat.lt_of_lt_of_le hc a3.1
  have hc2:=Nat.lt_of_lt_of_le hc1 b3.1
  have hn':c∉[w,nb1]:=by
   simp at hn⊢
   refine⟨hn.1,?_⟩
   rcases a4 with e|e
   ·rw[e];exact hn.2
   ·omega
  rw[c3.2 c hc2 hn',b3.2 c hc1 hn',a3.2 c hc hn]
theorem Ji(w nb n k:Nat)(bs:List Bool)(hp:Hp)(hn:n<18446744073709551616)(hk:k<=64)(hl:bs.length+k<7900000)(h:BW hp w nb bs):
 ∃hp' nb',run cxX 86 [.ptr w 0 0,.sc (.int .u64 (n:Int)),.sc (.int .i64 (k:Int))] hp=some (.tup [],hp')/\BS hp w nb hp' nb' (bs++xE n k):=by
 obtain⟨hp',nb',h1,h2⟩:=qqu w n hn k nb bs hp hk hl h
 refine⟨hp',nb',?_,h2⟩
 have m1:max (k:Int) 0=(k:Int):=by omega
 have m2:min (k:Int) 64=(k:Int):=by omega
 have w1:IntKind.i64.wrap ((k:Int)-1)=(k:Int)-1:=by rw[qf]<;>omega
 rw[E86]
 simp[m1,m2,w1,h1]
theorem qiw(w:Nat):∀(k nb:Nat) (bs:List Bool) (hp:Hp),bs.length+k<7800000->BW hp w nb bs->
 ∃hp' nb',B85_0 (.ptr w 0 0) (.int .i64 (k:Int)) hp=some (.tup [],hp')/\BS hp w nb hp' nb' (bs++una k):=by
 intro k
 induction k with
 |zero=>
  intro nb bs hp hl h
  obtain⟨hp1,nb1,a1,a2⟩:=Ji w nb 0 1 bs hp (by omega) (by omega) (by omega) h
  refine⟨hp1,nb1,?_,a2⟩
  rw[qhs]
  simp at a1
  simp[a1]
 |succ k ih=>
  intro nb bs hp hl h
  obtain⟨hp1,nb1,a1,a2⟩:=Ji w nb 1 1 bs hp (by omega) (by omega) (by omega) h
  obtain⟨hp2,nb2,b1,b2⟩:=ih nb1 (bs++xE 1 1) hp1 (by simp;omega) a2.1
  have w2:IntKind.i64.wrap (((k+1:Nat):Int)-1)=(k:Int):=by rw[qf]<;>omega
  have hpos:((k+1:Nat):Int)>0:=by omega
  have e:bs++una (k+1)=bs++xE 1 1++una k:=by simp[una,xE,List.replicate_succ]
  refine⟨hp2,nb2,?_,by rw[e];exact a2.trans h.1 b2⟩
  rw[qhs]
  generalize((k+1:Nat):Int)=z at*
  simp at a1
  simp[a1,hpos,w2,b1]
theorem VX(w nb k:Nat)(bs:List Bool)(hp:Hp)(hl:bs.length+k<7800000)(h:BW hp w nb bs):
 ∃hp' nb',run cxX 85 [.ptr w 0 0,.sc (.int .i64 (k:Int))] hp=some (.tup [],hp')/\BS hp w nb hp' nb' (bs++una k):=by
 obtain⟨hp',nb',h1,h2⟩:=qiw w k nb bs hp hl h
 refine⟨hp',nb',?_,h2⟩
 rw[E85]
 simp[h1]
theorem vY(w nb:Nat)(bs:List Bool)(hp:Hp)(hl:bs.length<7900000)(h:BW hp w nb bs):
 ∃t hp',run cxX 87 [.ptr w 0 0] hp=some (S t 1 (LI .u8 (pk bs)),hp')/\Fm [] hp hp':=by
 obtain⟨h1,h2,h3,h4⟩:=h
 rw[E87]
 by_cases hb:bs=[]
 ·subst hb
  have e:Bs nb []=S 2 1 []:=rfl
  rw[e]at h4
  refine⟨1,hp,?_,Fm.refl _ _⟩
  have a:=KU 1 2 hp
  simp[h4,qj,xx,a,qvd]
 ·obtain⟨n1,n2,n3⟩:=h3 hb
  have e:Bs nb bs= .ms nb 0 0 (pk bs).length 1:=if_neg hb
  rw[e]at h4
  have s:=qd9 .u8 (pk bs) hp nb n3
  have a:=YX .u8 (pk bs) (.ms nb 0 0 (pk bs).length 1) 1 (by decide) (by rw[zR];omega) (pkne hb) hp s
  have f:=wF .u8 (pk bs) (hp.new (LI .u8 (pk bs))) hp.next (qz _ _)
  refine⟨0,(hp.new (LI .u8 (pk bs))).del hp.next,?_,⟨by simp[Hp.del],fun c hc _=>?_⟩⟩
  ·generalize pk bs=pb at*
   simp[h4,qj,xx,a,f]
  ·have:c≠hp.next:=by omega
   simp[Hp.del,Hp.new,this]
end
end Go.Proofs.YtchmioacjkbfcaaGreat.AI
