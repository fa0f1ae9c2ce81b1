/- Texts that the proof of PackSmall rests on, part 6. -/
import Derived.Test.YtchmioacjkbfcaaGreatQPackSmall5
import Derived.DataElems
namespace Go.Proofs.YtchmioacjkbfcaaGreat.AI
open Go
set_option linter.unusedVariables false
set_option linter.unusedSimpArgs false
set_option maxRecDepth 100000
set_option maxHeartbeats 0
noncomputable def B67_2 (hp : Hp) : Option (AV × Hp) := go cxX 67 [.code (sub [1, 0, 1, 0, 0] cd67), .code (sub [1, 0, 1, 0, 1] cd67), .code (sub [1, 1] cd67)] ⟨[], [], hp⟩
noncomputable def B67_3 (b1 : List AV) (hp : Hp) : Option (AV × Hp) := go cxX 67 [.code (sub [1, 1, 0, 0] cd67), .code (sub [1, 1, 0, 1] cd67), .code (sub [1, 1, 1] cd67)] ⟨[(1, .lp 1 0 0)], [(1, 0, b1)], hp⟩
noncomputable def B67_4 (x22 : AV) (v23 v24 : Value) (b1 : List AV) (hp : Hp) : Option (AV × Hp) := go cxX 67 [.code (sub [1, 1, 0, 1, 0, 0, 0] cd67), .code (sub [1, 1, 0, 1, 0, 0, 1] cd67), .inLoop (sub [1, 1, 0, 1, 0, 0] cd67), .inBlock 0, .code (sub [1, 1, 1] cd67)] ⟨[(1, .lp 1 0 0), (22, .av x22), (23, .sv v23), (24, .sv v24)], [(1, 0, b1)], hp⟩
noncomputable def B67_7 (hp : Hp) : Option (AV × Hp) := go cxX 67 [.code (sub [1, 1, 0, 1, 0, 0, 1, 1, 0, 0, 1, 1, 0, 0] cd67), .code (sub [1, 0, 1, 0, 1] cd67), .inBlock 1, .code (sub [1, 1, 0, 1, 0, 0, 1, 1, 1] cd67), .inLoop (sub [1, 1, 0, 1, 0, 0] cd67), .inBlock 0, .code (sub [1, 1, 1] cd67)] ⟨[], [], hp⟩
noncomputable def B67_8 (x22 : AV) (v23 v24 : Value) (b1 : List AV) (hp : Hp) : Option (AV × Hp) := go cxX 67 [.code (sub [1, 1, 0, 1, 0, 0, 1, 1, 1] cd67), .inLoop (sub [1, 1, 0, 1, 0, 0] cd67), .inBlock 0, .code (sub [1, 1, 1] cd67)] ⟨[(1, .lp 1 0 0), (22, .av x22), (23, .sv v23), (24, .sv v24)], [(1, 0, b1)], hp⟩
noncomputable def B67_10 (hp : Hp) : Option (AV × Hp) := go cxX 67 [.code (sub [1, 1, 1, 0, 1, 0, 0] cd67), .code (sub [1, 0, 1, 0, 1] cd67), .code (sub [1, 1, 1, 1] cd67)] ⟨[], [], hp⟩
noncomputable def B67_11 (hp : Hp) : Option (AV × Hp) := go cxX 67 [.code (sub [1, 1, 1, 1, 0] cd67), .code (sub [1, 0, 1, 0, 1] cd67)] ⟨[], [], hp⟩
theorem E67 (a0 : AV) (hp : Hp) : run cxX 67 [a0] hp = ((qh 11 a0).bind fun y0 => ((qc (List.map ro1 y0) 0).bind fun y1 => ((binV Tryz.prog .lss 3 (.tmp 6) (.const (.int .i64 (.ofNat 1))) y1 (.int .i64 (.ofNat 1))).bind fun y2 => ((asB y2).bind fun y3 => (cond y3 (B67_2 hp) ((qc (List.map ro1 y0) 0).bind fun y4 => ((binV Tryz.prog .gtr 3 (.tmp 10) (.const (.int .i64 (.ofNat 16))) y4 (.int .i64 (.ofNat 16))).bind fun y5 => ((asB y5).bind fun y6 => (cond y6 (B67_2 hp) ((getC (List.map ro1 y0) 10).bind fun y7 => ((lenA (ro1 y7)).bind fun y8 => ((qc (List.map ro1 y0) 0).bind fun y9 => ((binV Tryz.prog .gtr 3 (.tmp 16) (.tmp 18) (.int .i64 (.ofNat y8)) y9).bind fun y10 => ((asB y10).bind fun y11 => (cond y11 (B67_2 hp) (B67_3 (List.map ro1 y0) hp)))))))))))))))) :=
 (qf cxX 67 ss67 400 _ _).trans (by kernel_rfl)
theorem B67_2_eq (hp : Hp) : B67_2 hp = (some (Prod.mk (AV.sc (.int .i64 (.ofNat 2))) hp)) :=
 (qe cxX 67 ss67 400 _ _).trans (by kernel_rfl)
theorem B67_3_eq (b1 : List AV) (hp : Hp) : B67_3 b1 hp = ((getC b1 10).bind fun y12 => ((lenA (ro1 y12)).bind fun y13 => (B67_4 (ro1 y12) (.int .i64 (.ofNat y13)) (.int .i64 (.ofNat 0)) b1 hp))) :=
 (qe cxX 67 ss67 400 _ _).trans (by kernel_rfl)
theorem B67_4_eq (x22 : AV) (v23 v24 : Value) (b1 : List AV) (hp : Hp) : B67_4 x22 v23 v24 b1 hp = ((binV Tryz.prog .lss 3 (.tmp 24) (.tmp 23) v24 v23).bind fun y14 => ((asB y14).bind fun y15 => (cond y15 ((idxA 1 x22 v24).bind fun y16 => ((qc y16 0).bind fun y17 => ((binV Tryz.prog .gtr 3 (.tmp 29) (.const (.int .i64 (.ofNat 0))) v24 (.int .i64 (.ofNat 0))).bind fun y18 => ((asB y18).bind fun y19 => (cond y19 ((getC b1 10).bind fun y20 => ((binV Tryz.prog .sub 3 (.tmp 35) (.const (.int .i64 (.ofNat 1))) v24 (.int .i64 (.ofNat 1))).bind fun y21 => ((idxA 1 (ro1 y20) y21).bind fun y22 => ((qc y22 0).bind fun y23 => ((qi [AV.sc y17, AV.sc y23] []).bind fun y24 => ((run cxX 123 [AV.sc y17, AV.sc y23] hp0).bind fun y25 => ((qm (y25).1).bind fun y26 => ((asSc (y25).1).bind fun y27 => ((asB y27).bind fun y28 => (cond y28 (B67_7 hp) (B67_8 x22 v23 v24 b1 hp))))))))))) (B67_8 x22 v23 v24 b1 hp)))))) ((qc b1 8).bind fun y29 => ((qc b1 8).bind fun y30 => ((binV Tryz.prog .neq 50 (.tmp 43) (.tmp 45) y29 y30).bind fun y31 => ((asB y31).bind fun y32 => (cond y32 (B67_10 hp) ((qc b1 9).bind fun y33 => ((qc b1 9).bind fun y34 => ((binV Tryz.prog .neq 50 (.tmp 49) (.tmp 51) y33 y34).bind fun y35 => ((asB y35).bind fun y36 => (cond y36 (B67_10 hp) (B67_11 hp)))))))))))))) :=
 (qe cxX 67 ss67 400 _ _).trans (by kernel_rfl)
theorem B67_7_eq (hp : Hp) : B67_7 hp = (some (Prod.mk (AV.sc (.int .i64 (.ofNat 8))) hp)) :=
 (qe cxX 67 ss67 400 _ _).trans (by kernel_rfl)
theorem B67_8_eq (x22 : AV) (v23 v24 : Value) (b1 : List AV) (hp : Hp) : B67_8 x22 v23 v24 b1 hp = ((binV Tryz.prog .add 3 (.tmp 24) (.const (.int .i64 (.ofNat 1))) v24 (.int .i64 (.ofNat 1))).bind fun y37 => (B67_4 x22 v23 y37 b1 hp)) :=
 (qe cxX 67 ss67 400 _ _).trans (by kernel_rfl)
theorem B67_10_eq (hp : Hp) : B67_10 hp = (some (Prod.mk (AV.sc (.int .i64 (.ofNat 4))) hp)) :=
 (qe cxX 67 ss67 400 _ _).trans (by kernel_rfl)
theorem B67_11_eq (hp : Hp) : B67_11 hp = (some (Prod.mk (AV.sc (.int .i64 (.ofNat 0))) hp)) :=
 (qe cxX 67 ss67 400 _ _).trans (by kernel_rfl)
noncomputable def B77_2 (b2 : List AV) (hp : Hp) : Option (AV × Hp) := go cxX 77 [.code (sub [1, 0, 1, 0, 0] cd77), .code (sub [1, 0, 1, 0, 1] cd77), .code (sub [1, 1] cd77)] ⟨[(2, .lp 2 0 0)], [(2, 0, b2)], hp⟩
noncomputable def B77_3 (v0 : Value) (b2 : List AV) (hp : Hp) : Option (AV × Hp) := go cxX 77 [.code (sub [1, 1, 0] cd77), .code (sub [1, 0, 1, 0, 1] cd77)] ⟨[(0, .sv v0), (2, .lp 2 0 0)], [(2, 0, b2)], hp⟩
theorem E77 (a0 : AV) (hp : Hp) : run cxX 77 [a0] hp = ((asSc a0).bind fun y0 => ((binV Tryz.prog .lss 3 (.tmp 4) (.const (.int .i64 (.ofNat 1))) y0 (.int .i64 (.ofNat 1))).bind fun y1 => ((asB y1).bind fun y2 => (cond y2 (B77_2 [AV.sc (.int .i64 (.ofNat 0)), AV.sc (.int .u32 (.ofNat 0)), AV.sc (.int .u32 (.ofNat 0)), AV.sc (.int .u32 (.ofNat 0)), AV.sc (.int .u32 (.ofNat 0)), AV.sc (.int .u32 (.ofNat 0)), AV.sc (.int .u32 (.ofNat 0)), AV.sc (.int .u32 (.ofNat 0)), AV.sc (.float .f64 0), AV.sc (.float .f64 0), AV.sc (.slice none 0 0)] hp) ((binV Tryz.prog .gtr 3 (.tmp 7) (.const (.int .i64 (.ofNat 16))) y0 (.int .i64 (.ofNat 16))).bind fun y3 => ((asB y3).bind fun y4 => (cond y4 (B77_2 [AV.sc (.int .i64 (.ofNat 0)), AV.sc (.int .u32 (.ofNat 0)), AV.sc (.int .u32 (.ofNat 0)), AV.sc (.int .u32 (.ofNat 0)), AV.sc (.int .u32 (.ofNat 0)), AV.sc (.int .u32 (.ofNat 0)), AV.sc (.int .u32 (.ofNat 0)), AV.sc (.int .u32 (.ofNat 0)), AV.sc (.float .f64 0), AV.sc (.float .f64 0), AV.sc (.slice none 0 0)] hp) (B77_3 y0 [AV.sc (.int .i64 (.ofNat 0)), AV.sc (.int .u32 (.ofNat 0)), AV.sc (.int .u32 (.ofNat 0)), AV.sc (.int .u32 (.ofNat 0)), AV.sc (.int .u32 (.ofNat 0)), AV.sc (.int .u32 (.ofNat 0)), AV.sc (.int .u32 (.ofNat 0)), AV.sc (.int .u32 (.ofNat 0)), AV.sc (.float .f64 0), AV.sc (.float .f64 0), AV.sc (.slice none 0 0)] hp)))))))) :=
 (qf cxX 77 ss77 400 _ _).trans (by kernel_rfl)
theorem B77_3_eq (v0 : Value) (b2 : List AV) (hp : Hp) : B77_3 v0 b2 hp = ((qi [AV.sc (.int .i64 (.ofNat 1))] []).bind fun y7 => ((run cxX 130 [AV.sc (.int .i64 (.ofNat 1))] hp0).bind fun y8 => ((qm (y8).1).bind fun y9 => ((asSc (y8).1).bind fun y10 => ((qi [AV.sc (.int .i64 (Int.negSucc 0))] []).bind fun y11 => ((run cxX 130 [AV.sc (.int .i64 (Int.negSucc 0))] hp0).bind fun y12 => ((qm (y12).1).bind fun y13 => ((asSc (y12).1).bind fun y14 => ((putN b2 0 [AV.sc v0, AV.sc (.int .u32 (.ofNat 0)), AV.sc (.int .u32 (.ofNat 0)), AV.sc (.int .u32 (.ofNat 0)), AV.sc (.int .u32 (.ofNat 0)), AV.sc (.int .u32 (.ofNat 0)), AV.sc (.int .u32 (.ofNat 0)), AV.sc (.int .u32 (.ofNat 0)), AV.sc y10, AV.sc y14, AV.sc (.slice none 0 0)]).bind fun y15 => ((getN y15 0 11).bind fun y16 => (some (Prod.mk (AV.tup [AV.agg y16, AV.sc (.bool true)]) hp)))))))))))) :=
 (qe cxX 77 ss77 400 _ _).trans (by kernel_rfl)
theorem E78 (a0 a1 : AV) (hp : Hp) : run cxX 78 [a0, a1] hp = ((asSc a1).bind fun y0 => ((qh 11 a0).bind fun y1 => ((getN (List.map ro1 y1) 0 11).bind fun y2 => ((qc (List.map ro1 y1) 0).bind fun y3 => ((qi [AV.sc y3, AV.sc y0] []).bind fun y4 => ((run cxX 132 [AV.sc y3, AV.sc y0] hp0).bind fun y5 => ((qm (y5).1).bind fun y6 => ((qM (y5).1).bind fun y7 => ((qi ((AV.agg (List.map ro1 y2)) :: ((y5).1 :: [])) []).bind fun y8 => ((run cxX 131 [ro (AV.agg (List.map ro1 y2)), ro (y5).1] hp0).bind fun y9 => ((qm (y9).1).bind fun y10 => ((qM (y9).1).bind fun y11 => ((qh 11 (y9).1).bind fun y12 => ((putN [AV.sc (.int .i64 (.ofNat 0)), AV.sc (.int .u32 (.ofNat 0)), AV.sc (.int .u32 (.ofNat 0)), AV.sc (.int .u32 (.ofNat 0)), AV.sc (.int .u32 (.ofNat 0)), AV.sc (.int .u32 (.ofNat 0)), AV.sc (.int .u32 (.ofNat 0)), AV.sc (.int .u32 (.ofNat 0)), AV.sc (.float .f64 0), AV.sc (.float .f64 0), AV.sc (.slice none 0 0)] 0 y12).bind fun y13 => ((getN y13 0 11).bind fun y14 => (some (Prod.mk (AV.agg y14) hp))))))))))))))))) :=
 (qf cxX 78 ss78 400 _ _).trans (by kernel_rfl)
noncomputable def B121_2 (hp : Hp) : Option (AV × Hp) := go cxX 121 [.code (sub [1, 0, 1, 0, 0] cd121), .code (sub [1, 0, 1, 0, 1] cd121), .code (sub [1, 1] cd121)] ⟨[], [], hp⟩
noncomputable def B121_3 (b2 b3 : List AV) (hp : Hp) : Option (AV × Hp) := go cxX 121 [.code (sub [1, 1, 0, 0] cd121), .code (sub [1, 1, 0, 1] cd121), .code (sub [1, 1, 1] cd121)] ⟨[(2, .lp 2 0 0), (3, .lp 3 0 0)], [(2, 0, b2), (3, 0, b3)], hp⟩
noncomputable def B121_4 (v52 v53 : Value) (b2 b3 : List AV) (hp : Hp) : Option (AV × Hp) := go cxX 121 [.code (sub [1, 1, 0, 1, 0, 0, 0] cd121), .code (sub [1, 1, 0, 1, 0, 0, 1] cd121), .inLoop (sub [1, 1, 0, 1, 0, 0] cd121), .inBlock 0, .code (sub [1, 1, 1] cd121)] ⟨[(2, .lp 2 0 0), (3, .lp 3 0 0), (52, .sv v52), (53, .sv v53)], [(2, 0, b2), (3, 0, b3)], hp⟩
theorem E121 (a0 a1 : AV) (hp : Hp) : run cxX 121 [a0, a1] hp = ((qh 11 a0).bind fun y0 => ((qh 11 a1).bind fun y1 => ((qc (List.map ro1 y0) 0).bind fun y2 => ((qc (List.map ro1 y1) 0).bind fun y3 => ((binV Tryz.prog .neq 3 (.tmp 7) (.tmp 9) y2 y3).bind fun y4 => ((asB y4).bind fun y5 => (cond y5 (B121_2 hp) ((qc (List.map ro1 y0) 1).bind fun y6 => ((qc (List.map ro1 y1) 1).bind fun y7 => ((binV Tryz.prog .neq 30 (.tmp 13) (.tmp 15) y6 y7).bind fun y8 => ((asB y8).bind fun y9 => (cond y9 (B121_2 hp) ((getN (List.map ro1 y0) 2 6).bind fun y10 => ((getN (List.map ro1 y1) 2 6).bind fun y11 => ((jg (AV.agg (List.map ro1 y10))).bind fun y12 => ((jg (AV.agg (List.map ro1 y11))).bind fun y13 => ((binV Tryz.prog .neq 49 (.tmp 20) (.tmp 22) y12 y13).bind fun y14 => ((asB y14).bind fun y15 => (cond y15 (B121_2 hp) ((qc (List.map ro1 y0) 8).bind fun y16 => ((qc (List.map ro1 y1) 8).bind fun y17 => ((qi [AV.sc y16, AV.sc y17] []).bind fun y18 => ((run cxX 167 [AV.sc y16, AV.sc y17] hp0).bind fun y19 => ((qm (y19).1).bind fun y20 => ((asSc (y19).1).bind fun y21 => ((unV Tryz.prog .not y21).bind fun y22 => ((asB y22).bind fun y23 => (cond y23 (B121_2 hp) ((qc (List.map ro1 y0) 9).bind fun y24 => ((qc (List.map ro1 y1) 9).bind fun y25 => ((qi [AV.sc y24, AV.sc y25] []).bind fun y26 => ((run cxX 167 [AV.sc y24, AV.sc y25] hp0).bind fun y27 => ((qm (y27).1).bind fun y28 => ((asSc (y27).1).bind fun y29 => ((unV Tryz.prog .not y29).bind fun y30 => ((asB y30).bind fun y31 => (cond y31 (B121_2 hp) ((getC (List.map ro1 y0) 10).bind fun y32 => ((lenA (ro1 y32)).bind fun y33 => ((getC (List.map ro1 y1) 10).bind fun y34 => ((lenA (ro1 y34)).bind fun y35 => ((binV Tryz.prog .neq 3 (.tmp 44) (.tmp 47) (.int .i64 (.ofNat y33)) (.int .i64 (.ofNat y35))).bind fun y36 => ((asB y36).bind fun y37 => (cond y37 (B121_2 hp) (B121_3 (List.map ro1 y0) (List.map ro1 y1) hp))))))))))))))))))))))))))))))))))))))))))))) :=
 (qf cxX 121 ss121 400 _ _).trans (by kernel_rfl)
theorem B121_2_eq (hp : Hp) : B121_2 hp = (some (Prod.mk (AV.sc (.bool false)) hp)) :=
 (qe cxX 121 ss121 400 _ _).trans (by kernel_rfl)
theorem B121_3_eq (b2 b3 : List AV) (hp : Hp) : B121_3 b2 b3 hp = ((getC b2 10).bind fun y38 => ((lenA (ro1 y38)).bind fun y39 => (B121_4 (.int .i64 (.ofNat y39)) (.int .i64 (.ofNat 0)) b2 b3 hp))) :=
 (qe cxX 121 ss121 400 _ _).trans (by kernel_rfl)
theorem B121_4_eq (v52 v53 : Value) (b2 b3 : List AV) (hp : Hp) : B121_4 v52 v53 b2 b3 hp = ((binV Tryz.prog .lss 3 (.tmp 53) (.tmp 52) v53 v52).bind fun y40 => ((asB y40).bind fun y41 => (cond y41 ((getC b2 10).bind fun y42 => ((idxA 1 (ro1 y42) v53).bind fun y43 => ((qc y43 0).bind fun y44 => ((getC b3 10).bind fun y45 => ((idxA 1 (ro1 y45) v53).bind fun y46 => ((qc y46 0).bind fun y47 => ((qi [AV.sc y44, AV.sc y47] []).bind fun y48 => ((run cxX 167 [AV.sc y44, AV.sc y47] hp0).bind fun y49 => ((qm (y49).1).bind fun y50 => ((asSc (y49).1).bind fun y51 => ((unV Tryz.prog .not y51).bind fun y52 => ((asB y52).bind fun y53 => (cond y53 (some (Prod.mk (AV.sc (.bool false)) hp)) ((binV Tryz.prog .add 3 (.tmp 53) (.const (.int .i64 (.ofNat 1))) v53 (.int .i64 (.ofNat 1))).bind fun y54 => (B121_4 v52 y54 b2 b3 hp))))))))))))))) (some (Prod.mk (AV.sc (.bool true)) hp))))) :=
 (qe cxX 121 ss121 400 _ _).trans (by kernel_rfl)
noncomputable def B131_3 (v27 : Value) (b2 b3 b4 b5 : List AV) (hp : Hp) : Option (AV × Hp) := go cxX 131 [.code (sub [1, 1, 0, 1, 0, 0, 0] zX), .code (sub [1, 1, 0, 1, 0, 0, 1] zX), .inLoop (sub [1, 1, 0, 1, 0, 0] zX), .inBlock 0, .code (sub [1, 1, 1] zX)] ⟨[(2, .lp 2 0 0), (3, .lp 3 0 0), (4, .lp 4 0 0), (5, .lp 5 0 0), (27, .sv v27)], [(2, 0, b2), (3, 0, b3), (4, 0, b4), (5, 0, b5)], hp⟩
noncomputable def B131_8 (x7 x8 : AV) (b2 b4 b5 : List AV) (hp : Hp) : Option (AV × Hp) := go cxX 131 [.code (sub [1, 1, 1, 1, 0, 0, 0, 0, 0] zX), .code (sub [1, 1, 1, 1, 0, 0, 0, 0, 1] zX), .code (sub [1, 1, 1, 1, 0, 0, 0, 1] zX), .inLoop (sub [1, 1, 1, 1, 0, 0, 0] zX), .inBlock 2, .code (sub [1, 1, 1, 1, 1] zX)] ⟨[(2, .lp 2 0 0), (4, .lp 4 0 0), (5, .lp 5 0 0), (7, .av x7), (8, .av x8)], [(2, 0, b2), (4, 0, b4), (5, 0, b5)], hp⟩
noncomputable def B131_9 (x7 x8 : AV) (b2 b4 b5 : List AV) (hp : Hp) : Option (AV × Hp) := go cxX 131 [.code (sub [1, 1, 1, 1, 0, 0, 0, 1, 0, 0] zX), .code (sub [1, 1, 1, 1, 0, 0, 0, 1, 0, 1] zX), .inBlock 3, .inLoop (sub [1, 1, 1, 1, 0, 0, 0] zX), .inBlock 2, .code (sub [1, 1, 1, 1, 1] zX)] ⟨[(2, .lp 2 0 0), (4, .lp 4 0 0), (5, .lp 5 0 0), (7, .av x7), (8, .av x8)], [(2, 0, b2), (4, 0, b4), (5, 0, b5)], hp⟩
noncomputable def B131_12 (b4 b5 : List AV) (hp : Hp) : Option (AV × Hp) := go cxX 131 [.code (sub [1, 1, 1, 1, 1, 0] zX), .code (sub [1, 1, 1, 1, 1, 1] zX)] ⟨[(4, .lp 4 0 0), (5, .lp 5 0 0)], [(4, 0, b4), (5, 0, b5)], hp⟩
noncomputable def B131_10 (x7 x8 : AV) (b2 b4 b5 : List AV) (hp : Hp) : Option (AV × Hp) := go cxX 131 [.code (sub [1, 1, 1, 1, 0, 0, 0, 1, 0, 1, 0] zX), .inBlock 3, .inLoop (sub [1, 1, 1, 1, 0, 0, 0] zX), .inBlock 2, .code (sub [1, 1, 1, 1, 1] zX)] ⟨[(2, .lp 2 0 0), (4, .lp 4 0 0), (5, .lp 5 0 0), (7, .av x7), (8, .av x8)], [(2, 0, b2), (4, 0, b4), (5, 0, b5)], hp⟩
noncomputable def B131_11 (x7 x8 : AV) (b2 b4 b5 : List AV) (hp : Hp) : Option (AV × Hp) := go cxX 131 [.code (sub [1, 1, 1, 1, 0, 0, 0, 1, 0, 1, 1] zX), .inBlock 3, .inLoop (sub [1, 1, 1, 1, 0, 0, 0] zX), .inBlock 2, .code (sub [1, 1, 1, 1, 1] zX)] ⟨[(2, .lp 2 0 0), (4, .lp 4 0 0), (5, .lp 5 0 0), (7, .av x7), (8, .av x8)], [(2, 0, b2), (4, 0, b4), (5, 0, b5)], hp⟩
theorem E131 (a0 a1 : AV) (hp : Hp) : run cxX 131 [a0, a1] hp = ((qh 11 a0).bind fun y0 => ((qh 11 a1).bind fun y1 => ((qc (List.map ro1 y0) 0).bind fun y2 => ((qc (List.map ro1 y0) 1).bind fun y3 => ((qc (List.map ro1 y1) 1).bind fun y4 => ((qi [AV.sc y3, AV.sc y4] []).bind fun y5 => ((run cxX 129 [AV.sc y3, AV.sc y4] hp0).bind fun y6 => ((qm (y6).1).bind fun y7 => ((asSc (y6).1).bind fun y8 => ((qc (List.map ro1 y0) 8).bind fun y9 => ((qc (List.map ro1 y1) 8).bind fun y10 => ((qi [AV.sc y9, AV.sc y10] []).bind fun y11 => ((run cxX 170 [AV.sc y9, AV.sc y10] hp0).bind fun y12 => ((qm (y12).1).bind fun y13 => ((asSc (y12).1).bind fun y14 => ((qc (List.map ro1 y0) 9).bind fun y15 => ((qc (List.map ro1 y1) 9).bind fun y16 => ((qi [AV.sc y15, AV.sc y16] []).bind fun y17 => ((run cxX 171 [AV.sc y15, AV.sc y16] hp0).bind fun y18 => ((qm (y18).1).bind fun y19 => ((asSc (y18).1).bind fun y20 => (B131_3 (.int .i64 (.ofNat 0)) (List.map ro1 y0) (List.map ro1 y1) [AV.sc (.int .i64 (.ofNat 0)), AV.sc (.int .u32 (.ofNat 0)), AV.sc (.int .u32 (.ofNat 0)), AV.sc (.int .u32 (.ofNat 0)), AV.sc (.int .u32 (.ofNat 0)), AV.sc (.int .u32 (.ofNat 0)), AV.sc (.int .u32 (.ofNat 0)), AV.sc (.int .u32 (.ofNat 0)), AV.sc (.float .f64 0), AV.sc (.float .f64 0), AV.sc (.slice none 0 0)] [AV.sc y2, AV.sc y8, AV.sc (.int .u32 (.ofNat 0)), AV.sc (.int .u32 (.ofNat 0)), AV.sc (.int .u32 (.ofNat 0)), AV.sc (.int .u32 (.ofNat 0)), AV.sc (.int .u32 (.ofNat 0)), AV.sc (.int .u32 (.ofNat 0)), AV.sc y14, AV.sc y20, AV.sc (.slice none 0 0)] hp)))))))))))))))))))))) :=
 (qf cxX 131 ss131 400 _ _).trans (by kernel_rfl)
theorem jy (v27 : Value) (b2 b3 b4 b5 : List AV) (hp : Hp) : B131_3 v27 b2 b3 b4 b5 hp = ((binV Tryz.prog .lss 3 (.tmp 27) (.const (.int .i64 (.ofNat 6))) v27 (.int .i64 (.ofNat 6))).bind fun y21 => ((asB y21).bind fun y22 => (cond y22 ((idx 6 v27).bind fun y23 => ((qc b2 (Nat.add 2 (Nat.add 0 y23))).bind fun y24 => ((idx 6 v27).bind fun y25 => ((qc b3 (Nat.add 2 (Nat.add 0 y25))).bind fun y26 => ((qi [AV.sc y24, AV.sc y26] []).bind fun y27 => ((run cxX 129 [AV.sc y24, AV.sc y26] hp0).bind fun y28 => ((qm (y28).1).bind fun y29 => ((asSc (y28).1).bind fun y30 => ((idx 6 v27).bind fun y31 => ((putN b5 (Nat.add 2 (Nat.add 0 y31)) [AV.sc y30]).bind fun y32 => ((binV Tryz.prog .add 3 (.tmp 27) (.const (.int .i64 (.ofNat 1))) v27 (.int .i64 (.ofNat 1))).bind fun y33 => (B131_3 y33 b2 b3 b4 y32 hp)))))))))))) ((getC b2 10).bind fun y34 => ((getC b3 10).bind fun y35 => (B131_8 (ro1 y34) (ro1 y35) b2 b4 b5 hp)))))) :=
 (qe cxX 131 ss131 400 _ _).trans (by kernel_rfl)
theorem B131_8_eq (x7 x8 : AV) (b2 b4 b5 : List AV) (hp : Hp) : B131_8 x7 x8 b2 b4 b5 hp = ((getC b5 10).bind fun y36 => ((lenA (ro1 y36)).bind fun y37 => ((qc b2 0).bind fun y38 => ((binV Tryz.prog .lss 3 (.tmp 49) (.tmp 51) (.int .i64 (.ofNat y37)) y38).bind fun y39 => ((asB y39).bind fun y40 => (cond y40 ((lenA (ro x7)).bind fun y41 => ((lenA (ro x8)).bind fun y42 => ((binV Tryz.prog .add 3 (.tmp 55) (.tmp 57) (.int .i64 (.ofNat y41)) (.int .i64 (.ofNat y42))).bind fun y43 => ((binV Tryz.prog .gtr 3 (.tmp 58) (.const (.int .i64 (.ofNat 0))) y43 (.int .i64 (.ofNat 0))).bind fun y44 => ((asB y44).bind fun y45 => (cond y45 (B131_9 x7 x8 b2 b4 b5 hp) (B131_12 b4 b5 hp))))))) (B131_12 b4 b5 hp))))))) :=
 (qe cxX 131 ss131 400 _ _).trans (by kernel_rfl)
theorem B131_9_eq (x7 x8 : AV) (b2 b4 b5 : List AV) (hp : Hp) : B131_9 x7 x8 b2 b4 b5 hp = ((lenA (ro x8)).bind fun y46 => ((binV Tryz.prog .eql 3 (.tmp 62) (.const (.int .i64 (.ofNat 0))) (.int .i64 (.ofNat y46)) (.int .i64 (.ofNat 0))).bind fun y47 => ((asB y47).bind fun y48 => (cond y48 (B131_10 x7 x8 b2 b4 b5 hp) ((lenA (ro x7)).bind fun y49 => ((binV Tryz.prog .gtr 3 (.tmp 66) (.const (.int .i64 (.ofNat 0))) (.int .i64 (.ofNat y49)) (.int .i64 (.ofNat 0))).bind fun y50 => ((asB y50).bind fun y51 => (cond y51 ((idxA 1 (ro x8) (.int .i64 (.ofNat 0))).bind fun y52 => ((qc y52 0).bind fun y53 => ((idxA 1 (ro x7) (.int .i64 (.ofNat 0))).bind fun y54 => ((qc y54 0).bind fun y55 => ((qi [AV.sc y53, AV.sc y55] []).bind fun y56 => ((run cxX 123 [AV.sc y53, AV.sc y55] hp0).bind fun y57 => ((qm (y57).1).bind fun y58 => ((asSc (y57).1).bind fun y59 => ((unV Tryz.prog .not y59).bind fun y60 => ((asB y60).bind fun y61 => (cond y61 (B131_10 x7 x8 b2 b4 b5 hp) (B131_11 x7 x8 b2 b4 b5 hp)))))))))))) (B131_11 x7 x8 b2 b4 b5 hp))))))))) :=
 (qe cxX 131 ss131 400 _ _).trans (by kernel_rfl)
theorem B131_12_eq (b4 b5 : List AV) (hp : Hp) : B131_12 b4 b5 hp = ((getN b5 0 11).bind fun y62 => ((putN b5 0 (List.map ro1 y62)).bind fun y63 => ((qh 11 (AV.agg y62)).bind fun y64 => ((putN b4 0 y64).bind fun y65 => ((getN y65 0 11).bind fun y66 => (some (Prod.mk (AV.agg y66) hp))))))) :=
 (qe cxX 131 ss131 400 _ _).trans (by kernel_rfl)
theorem B131_10_eq (x7 x8 : AV) (b2 b4 b5 : List AV) (hp : Hp) : B131_10 x7 x8 b2 b4 b5 hp = ((getC b5 10).bind fun y67 => ((idxA 1 (ro x7) (.int .i64 (.ofNat 0))).bind fun y68 => ((qc y68 0).bind fun y69 => ((okV [AV.sc y69]).bind fun y70 => ((appA 8 1 y67 (AV.us 1 [AV.sc y69])).bind fun y71 => ((slcA 1 (ro x7) (some (.int .i64 (.ofNat 1))) none none).bind fun y72 => ((qh 1 y71).bind fun y73 => ((putN (List.set b5 10 (ro1 y67)) 10 y73).bind fun y74 => (B131_8 y72 x8 b2 b4 y74 hp))))))))) :=
 (qe cxX 131 ss131 400 _ _).trans (by kernel_rfl)
theorem B131_11_eq (x7 x8 : AV) (b2 b4 b5 : List AV) (hp : Hp) : B131_11 x7 x8 b2 b4 b5 hp = ((getC b5 10).bind fun y75 => ((idxA 1 (ro x8) (.int .i64 (.ofNat 0))).bind fun y76 => ((qc y76 0).bind fun y77 => ((okV [AV.sc y77]).bind fun y78 => ((appA 8 1 y75 (AV.us 1 [AV.sc y77])).bind fun y79 => ((slcA 1 (ro x8) (some (.int .i64 (.ofNat 1))) none none).bind fun y80 => ((qh 1 y79).bind fun y81 => ((putN (List.set b5 10 (ro1 y75)) 10 y81).bind fun y82 => (B131_8 x7 y80 b2 b4 y82 hp))))))))) :=
 (qe cxX 131 ss131 400 _ _).trans (by kernel_rfl)
noncomputable def B132_5 (v1 : Value) (b4 b5 : List AV) (hp : Hp) : Option (AV × Hp) := go cxX 132 [.code (sub [1, 1, 1, 1, 0] cd132), .code (sub [1, 1, 1, 1, 1] cd132)] ⟨[(1, .sv v1), (4, .lp 4 0 0), (5, .lp 5 0 0)], [(4, 0, b4), (5, 0, b5)], hp⟩
theorem E132 (a0 a1 : AV) (hp : Hp) : run cxX 132 [a0, a1] hp = ((asSc a0).bind fun y0 => ((asSc a1).bind fun y1 => ((qi [AV.sc (.int .i64 (.ofNat 1))] []).bind fun y2 => ((run cxX 130 [AV.sc (.int .i64 (.ofNat 1))] hp0).bind fun y3 => ((qm (y3).1).bind fun y4 => ((asSc (y3).1).bind fun y5 => ((qi [AV.sc (.int .i64 (Int.negSucc 0))] []).bind fun y6 => ((run cxX 130 [AV.sc (.int .i64 (Int.negSucc 0))] hp0).bind fun y7 => ((qm (y7).1).bind fun y8 => ((asSc (y7).1).bind fun y9 => ((qi [AV.sc y1] []).bind fun y10 => ((run cxX 172 [AV.sc y1] hp0).bind fun y11 => ((qm (y11).1).bind fun y12 => ((asSc (y11).1).bind fun y13 => ((idx 6 y13).bind fun y14 => ((putN [AV.sc y0, AV.sc (.int .u32 (.ofNat 1)), AV.sc (.int .u32 (.ofNat 0)), AV.sc (.int .u32 (.ofNat 0)), AV.sc (.int .u32 (.ofNat 0)), AV.sc (.int .u32 (.ofNat 0)), AV.sc (.int .u32 (.ofNat 0)), AV.sc (.int .u32 (.ofNat 0)), AV.sc y5, AV.sc y9, AV.sc (.slice none 0 0)] (Nat.add 2 (Nat.add 0 y14)) [AV.sc (.int .u32 (.ofNat 1))]).bind fun y15 => ((binV Tryz.prog .eql 50 (.tmp 16) (.tmp 17) y1 y1).bind fun y16 => ((asB y16).bind fun y17 => (cond y17 ((putN y15 8 [AV.sc y1]).bind fun y18 => ((putN y18 9 [AV.sc y1]).bind fun y19 => (B132_5 y1 [AV.sc (.int .i64 (.ofNat 0)), AV.sc (.int .u32 (.ofNat 0)), AV.sc (.int .u32 (.ofNat 0)), AV.sc (.int .u32 (.ofNat 0)), AV.sc (.int .u32 (.ofNat 0)), AV.sc (.int .u32 (.ofNat 0)), AV.sc (.int .u32 (.ofNat 0)), AV.sc (.int .u32 (.ofNat 0)), AV.sc (.float .f64 0), AV.sc (.float .f64 0), AV.sc (.slice none 0 0)] y19 hp))) (B132_5 y1 [AV.sc (.int .i64 (.ofNat 0)), AV.sc (.int .u32 (.ofNat 0)), AV.sc (.int .u32 (.ofNat 0)), AV.sc (.int .u32 (.ofNat 0)), AV.sc (.int .u32 (.ofNat 0)), AV.sc (.int .u32 (.ofNat 0)), AV.sc (.int .u32 (.ofNat 0)), AV.sc (.int .u32 (.ofNat 0)), AV.sc (.float .f64 0), AV.sc (.float .f64 0), AV.sc (.slice none 0 0)] y15 hp)))))))))))))))))))) :=
 (qf cxX 132 ss132 400 _ _).trans (by kernel_rfl)
theorem B132_5_eq (v1 : Value) (b4 b5 : List AV) (hp : Hp) : B132_5 v1 b4 b5 hp = ((qi [AV.sc v1] []).bind fun y20 => ((run cxX 92 [AV.sc v1] hp0).bind fun y21 => ((qm (y21).1).bind fun y22 => ((asSc (y21).1).bind fun y23 => ((qi [AV.sc y23] []).bind fun y24 => ((run cxX 155 [AV.sc y23] hp0).bind fun y25 => ((qm (y25).1).bind fun y26 => ((qo 2 (y25).1).bind fun y27 => ((asSc (ro (nthA (y25).1 0))).bind fun y28 => ((asSc (ro (nthA (y25).1 1))).bind fun y29 => ((okV [AV.sc y28]).bind fun y30 => ((putN b5 10 [AV.us 1 [AV.sc y28]]).bind fun y31 => ((getN y31 0 11).bind fun y32 => ((putN y31 0 (List.map ro1 y32)).bind fun y33 => ((qh 11 (AV.agg y32)).bind fun y34 => ((putN b4 0 y34).bind fun y35 => ((getN y35 0 11).bind fun y36 => (some (Prod.mk (AV.agg y36) hp))))))))))))))))))) :=
 (qe cxX 132 ss132 400 _ _).trans (by kernel_rfl)
noncomputable def B66_2 (hp : Hp) : Option (AV × Hp) := go cxX 66 [.code (sub [1, 0, 0, 1, 0, 0] cd66), .code (sub [1, 0, 0, 1, 0, 1] cd66), .inBlock 0, .code (sub [1, 1] cd66)] ⟨[], [], hp⟩
noncomputable def B66_3 (b1 : List AV) (hp : Hp) : Option (AV × Hp) := go cxX 66 [.code (sub [1, 0, 0, 1, 1, 0] cd66), .code (sub [1, 0, 0, 1, 1, 1] cd66), .inBlock 0, .code (sub [1, 1] cd66)] ⟨[(1, .lp 1 0 0)], [(1, 0, b1)], hp⟩
theorem E66 (a0 : AV) (hp : Hp) : run cxX 66 [a0] hp = ((qh 3 a0).bind fun y0 => ((qc (List.map ro1 y0) 0).bind fun y1 => ((binV Tryz.prog .lss 3 (.tmp 5) (.const (.int .i64 (.ofNat 1))) y1 (.int .i64 (.ofNat 1))).bind fun y2 => ((asB y2).bind fun y3 => (cond y3 (B66_2 hp) ((qc (List.map ro1 y0) 0).bind fun y4 => ((binV Tryz.prog .gtr 3 (.tmp 9) (.const (.int .i64 (.ofNat 8))) y4 (.int .i64 (.ofNat 8))).bind fun y5 => ((asB y5).bind fun y6 => (cond y6 (B66_2 hp) ((qc (List.map ro1 y0) 1).bind fun y7 => ((binV Tryz.prog .lss 3 (.tmp 14) (.const (.int .i64 (.ofNat 1))) y7 (.int .i64 (.ofNat 1))).bind fun y8 => ((asB y8).bind fun y9 => (cond y9 (B66_2 hp) ((qc (List.map ro1 y0) 1).bind fun y10 => ((binV Tryz.prog .gtr 3 (.tmp 19) (.const (.int .i64 (.ofNat 256))) y10 (.int .i64 (.ofNat 256))).bind fun y11 => ((asB y11).bind fun y12 => (cond y12 (B66_2 hp) (B66_3 (List.map ro1 y0) hp)))))))))))))))))) :=
 (qf cxX 66 ss66 400 _ _).trans (by kernel_rfl)
theorem B66_2_eq (hp : Hp) : B66_2 hp = (some (Prod.mk (AV.sc (.int .i64 (.ofNat 2))) hp)) :=
 (qe cxX 66 ss66 400 _ _).trans (by kernel_rfl)
theorem B66_3_eq (b1 : List AV) (hp : Hp) : B66_3 b1 hp = ((getC b1 2).bind fun y13 => ((lenA (ro1 y13)).bind fun y14 => ((qc b1 0).bind fun y15 => ((qc b1 1).bind fun y16 => ((binV Tryz.prog .mul 3 (.tmp 27) (.tmp 29) y15 y16).bind fun y17 => ((binV Tryz.prog .neq 3 (.tmp 25) (.tmp 30) (.int .i64 (.ofNat y14)) y17).bind fun y18 => ((asB y18).bind fun y19 => (cond y19 (some (Prod.mk (AV.sc (.int .i64 (.ofNat 6))) hp)) (some (Prod.mk (AV.sc (.int .i64 (.ofNat 0))) hp)))))))))) :=
 (qe cxX 66 ss66 400 _ _).trans (by kernel_rfl)
noncomputable def B72_4 (v1 v2 v23 v24 : Value) (b3 b6 b7 : List AV) (hp : Hp) : Option (AV × Hp) := go cxX 72 [.code (sub [1, 1, 0, 1, 0, 1, 0, 0, 0] cd72), .code (sub [1, 1, 0, 1, 0, 1, 0, 0, 1] cd72), .inLoop (sub [1, 1, 0, 1, 0, 1, 0, 0] cd72), .inBlock 0, .code (sub [1, 1, 1] cd72)] ⟨[(1, .sv v1), (2, .sv v2), (3, .lp 3 0 0), (6, .lp 6 0 0), (7, .lp 7 0 0), (23, .sv v23), (24, .sv v24)], [(3, 0, b3), (6, 0, b6), (7, 0, b7)], hp⟩
noncomputable def B72_9 (b6 b7 : List AV) (hp : Hp) : Option (AV × Hp) := go cxX 72 [.code (sub [1, 1, 1, 0] cd72), .code (sub [1, 1, 1, 1] cd72)] ⟨[(6, .lp 6 0 0), (7, .lp 7 0 0)], [(6, 0, b6), (7, 0, b7)], hp⟩
theorem E72 (a0 a1 a2 : AV) (hp : Hp) : run cxX 72 [a0, a1, a2] hp = ((asSc a1).bind fun y0 => ((asSc a2).bind fun y1 => ((qh 3 a0).bind fun y2 => ((qc (List.map ro1 y2) 0).bind fun y3 => ((qc (List.map ro1 y2) 1).bind fun y4 => ((okV []).bind fun y5 => ((getC (List.map ro1 y2) 2).bind fun y6 => ((appM 4 1 (AV.us 1 []) (ro1 y6) hp).bind fun y7 => ((qh 1 (y7).1).bind fun y8 => ((putN [AV.sc y3, AV.sc y4, AV.sc (.slice none 0 0)] 2 y8).bind fun y9 => ((qh 3 (AV.agg (List.map ro1 y9))).bind fun y10 => ((putN [AV.sc (.int .i64 (.ofNat 0)), AV.sc (.int .i64 (.ofNat 0)), AV.sc (.slice none 0 0)] 0 y10).bind fun y11 => ((getN (List.map ro1 y2) 0 3).bind fun y12 => ((run cxX 66 [ro (AV.agg (List.map ro1 y12))] (y7).2).bind fun y13 => ((asSc (y13).1).bind fun y14 => ((binV Tryz.prog .eql 57 (.tmp 20) (.const (.int .i64 (.ofNat 0))) y14 (.int .i64 (.ofNat 0))).bind fun y15 => ((asB y15).bind fun y16 => (cond y16 ((qc (List.map ro1 y2) 0).bind fun y17 => (B72_4 y0 y1 y17 (.int .i64 (.ofNat 0)) (List.map ro1 y2) [AV.sc (.int .i64 (.ofNat 0)), AV.sc (.int .i64 (.ofNat 0)), AV.sc (.slice none 0 0)] y11 (y13).2)) (B72_9 [AV.sc (.int .i64 (.ofNat 0)), AV.sc (.int .i64 (.ofNat 0)), AV.sc (.slice none 0 0)] y11 (y13).2))))))))))))))))))) :=
 (qf cxX 72 ss72 400 _ _).trans (by kernel_rfl)
theorem B72_4_eq (v1 v2 v23 v24 : Value) (b3 b6 b7 : List AV) (hp : Hp) : B72_4 v1 v2 v23 v24 b3 b6 b7 hp = ((binV Tryz.prog .lss 3 (.tmp 24) (.tmp 23) v24 v23).bind fun y18 => ((asB y18).bind fun y19 => (cond y19 ((qc b3 1).bind fun y20 => ((binV Tryz.prog .mul 3 (.tmp 27) (.tmp 29) v24 y20).bind fun y21 => ((getN b3 0 3).bind fun y22 => ((run cxX 128 [ro (AV.agg (List.map ro1 y22)), AV.sc v1, AV.sc v24] hp).bind fun y23 => ((asSc (y23).1).bind fun y24 => ((binV Tryz.prog .add 3 (.tmp 30) (.tmp 34) y21 y24).bind fun y25 => ((getC b7 2).bind fun y26 => ((getC b7 2).bind fun y27 => ((qR (ro1 y27)).bind fun y28 => ((idx ((((y28).2).2).2).1 y25).bind fun y29 => ((chkN ((((y28).2).2).2).2 1).bind fun y30 => ((Hp.rd (y23).2 (y28).1 ((y28).2).1).bind fun y31 => ((qc y31 (Nat.add (((y28).2).2).1 (Nat.add 0 y29))).bind fun y32 => ((qi [AV.sc y32, AV.sc v2] []).bind fun y33 => ((run cxX 129 [AV.sc y32, AV.sc v2] hp0).bind fun y34 => ((qm (y34).1).bind fun y35 => ((asSc (y34).1).bind fun y36 => ((qR (ro1 y26)).bind fun y37 => ((idx ((((y37).2).2).2).1 y25).bind fun y38 => ((chkN ((((y37).2).2).2).2 1).bind fun y39 => ((Hp.rd (y23).2 (y37).1 ((y37).2).1).bind fun y40 => ((putN y40 (Nat.add (((y37).2).2).1 (Nat.add 0 y38)) [AV.sc y36]).bind fun y41 => ((binV Tryz.prog .add 3 (.tmp 24) (.const (.int .i64 (.ofNat 1))) v24 (.int .i64 (.ofNat 1))).bind fun y42 => (B72_4 v1 v2 v23 y42 b3 b6 b7 (Hp.put (y23).2 (y37).1 ((y37).2).1 y41))))))))))))))))))))))))) (B72_9 b6 b7 hp)))) :=
 (qe cxX 72 ss72 400 _ _).trans (by kernel_rfl)
theorem B72_9_eq (b6 b7 : List AV) (hp : Hp) : B72_9 b6 b7 hp = ((getN b7 0 3).bind fun y43 => ((frzL hp (List.map ro1 y43)).bind fun y44 => ((qh 3 (AV.agg (y44).1)).bind fun y45 => ((putN b6 0 y45).bind fun y46 => ((getN y46 0 3).bind fun y47 => (some (Prod.mk (AV.agg y47) (y44).2))))))) :=
 (qe cxX 72 ss72 400 _ _).trans (by kernel_rfl)
noncomputable def B76_2 (b4 : List AV) (hp : Hp) : Option (AV × Hp) := go cxX 76 [.code (sub [1, 0, 1, 0, 0] cd76), .code (sub [1, 0, 1, 0, 1] cd76), .code (sub [1, 1] cd76)] ⟨[(4, .lp 4 0 0)], [(4, 0, b4)], hp⟩
noncomputable def B76_3 (v0 v1 : Value) (b4 : List AV) (hp : Hp) : Option (AV × Hp) := go cxX 76 [.code (sub [1, 1, 0] cd76), .code (sub [1, 0, 1, 0, 1] cd76)] ⟨[(0, .sv v0), (1, .sv v1), (4, .lp 4 0 0)], [(4, 0, b4)], hp⟩
theorem E76 (a0 a1 : AV) (hp : Hp) : run cxX 76 [a0, a1] hp = ((asSc a0).bind fun y0 => ((asSc a1).bind fun y1 => ((binV Tryz.prog .lss 3 (.tmp 6) (.const (.int .i64 (.ofNat 1))) y0 (.int .i64 (.ofNat 1))).bind fun y2 => ((asB y2).bind fun y3 => (cond y3 (B76_2 [AV.sc (.int .i64 (.ofNat 0)), AV.sc (.int .i64 (.ofNat 0)), AV.sc (.slice none 0 0)] hp) ((binV Tryz.prog .gtr 3 (.tmp 9) (.const (.int .i64 (.ofNat 8))) y0 (.int .i64 (.ofNat 8))).bind fun y4 => ((asB y4).bind fun y5 => (cond y5 (B76_2 [AV.sc (.int .i64 (.ofNat 0)), AV.sc (.int .i64 (.ofNat 0)), AV.sc (.slice none 0 0)] hp) ((binV Tryz.prog .lss 3 (.tmp 13) (.const (.int .i64 (.ofNat 1))) y1 (.int .i64 (.ofNat 1))).bind fun y6 => ((asB y6).bind fun y7 => (cond y7 (B76_2 [AV.sc (.int .i64 (.ofNat 0)), AV.sc (.int .i64 (.ofNat 0)), AV.sc (.slice none 0 0)] hp) ((binV Tryz.prog .gtr 3 (.tmp 17) (.const (.int .i64 (.ofNat 256))) y1 (.int .i64 (.ofNat 256))).bind fun y8 => ((asB y8).bind fun y9 => (cond y9 (B76_2 [AV.sc (.int .i64 (.ofNat 0)), AV.sc (.int .i64 (.ofNat 0)), AV.sc (.slice none 0 0)] hp) (B76_3 y0 y1 [AV.sc (.int .i64 (.ofNat 0)), AV.sc (.int .i64 (.ofNat 0)), AV.sc (.slice none 0 0)] hp))))))))))))))) :=
 (qf cxX 76 ss76 400 _ _).trans (by kernel_rfl)
theorem B76_3_eq (v0 v1 : Value) (b4 : List AV) (hp : Hp) : B76_3 v0 v1 b4 hp = ((binV Tryz.prog .mul 3 (.tmp 23) (.tmp 24) v0 v1).bind fun y12 => ((asI y12).bind fun y13 => ((asI y12).bind fun y14 => ((okMake 4 1 y13 y14).bind fun y15 => ((putN b4 0 [AV.sc v0, AV.sc v1, ro1 (AV.ms (hp).1 0 0 (tN y13) 1)]).bind fun y16 => ((getN y16 0 3).bind fun y17 => (some (Prod.mk (AV.tup [AV.agg y17, AV.sc (.bool true)]) (Hp.new hp (zerosA y13 [.int .u32 (.ofNat 0)])))))))))) :=
 (qe cxX 76 ss76 400 _ _).trans (by kernel_rfl)
noncomputable def B120_2 (hp : Hp) : Option (AV × Hp) := go cxX 120 [.code (sub [1, 0, 1, 0, 0] cd120), .code (sub [1, 0, 1, 0, 1] cd120), .code (sub [1, 1] cd120)] ⟨[], [], hp⟩
noncomputable def B120_3 (b2 b3 : List AV) (hp : Hp) : Option (AV × Hp) := go cxX 120 [.code (sub [1, 1, 0, 0] cd120), .code (sub [1, 1, 0, 1] cd120), .code (sub [1, 1, 1] cd120)] ⟨[(2, .lp 2 0 0), (3, .lp 3 0 0)], [(2, 0, b2), (3, 0, b3)], hp⟩
noncomputable def B120_4 (v29 v30 : Value) (b2 b3 : List AV) (hp : Hp) : Option (AV × Hp) := go cxX 120 [.code (sub [1, 1, 0, 1, 0, 0, 0] cd120), .code (sub [1, 1, 0, 1, 0, 0, 1] cd120), .inLoop (sub [1, 1, 0, 1, 0, 0] cd120), .inBlock 0, .code (sub [1, 1, 1] cd120)] ⟨[(2, .lp 2 0 0), (3, .lp 3 0 0), (29, .sv v29), (30, .sv v30)], [(2, 0, b2), (3, 0, b3)], hp⟩
theorem E120 (a0 a1 : AV) (hp : Hp) : run cxX 120 [a0, a1] hp = ((qh 3 a0).bind fun y0 => ((qh 3 a1).bind fun y1 => ((qc (List.map ro1 y0) 0).bind fun y2 => ((qc (List.map ro1 y1) 0).bind fun y3 => ((binV Tryz.prog .neq 3 (.tmp 7) (.tmp 9) y2 y3).bind fun y4 => ((asB y4).bind fun y5 => (cond y5 (B120_2 hp) ((qc (List.map ro1 y0) 1).bind fun y6 => ((qc (List.map ro1 y1) 1).bind fun y7 => ((binV Tryz.prog .neq 3 (.tmp 13) (.tmp 15) y6 y7).bind fun y8 => ((asB y8).bind fun y9 => (cond y9 (B120_2 hp) ((getC (List.map ro1 y0) 2).bind fun y10 => ((lenA (ro1 y10)).bind fun y11 => ((getC (List.map ro1 y1) 2).bind fun y12 => ((lenA (ro1 y12)).bind fun y13 => ((binV Tryz.prog .neq 3 (.tmp 21) (.tmp 24) (.int .i64 (.ofNat y11)) (.int .i64 (.ofNat y13))).bind fun y14 => ((asB y14).bind fun y15 => (cond y15 (B120_2 hp) (B120_3 (List.map ro1 y0) (List.map ro1 y1) hp)))))))))))))))))))) :=
 (qf cxX 120 ss120 400 _ _).trans (by kernel_rfl)
theorem B120_2_eq (hp : Hp) : B120_2 hp = (some (Prod.mk (AV.sc (.bool false)) hp)) :=
 (qe cxX 120 ss120 400 _ _).trans (by kernel_rfl)
theorem B120_3_eq (b2 b3 : List AV) (hp : Hp) : B120_3 b2 b3 hp = ((getC b2 2).bind fun y16 => ((lenA (ro1 y16)).bind fun y17 => (B120_4 (.int .i64 (.ofNat y17)) (.int .i64 (.ofNat 0)) b2 b3 hp))) :=
 (qe cxX 120 ss120 400 _ _).trans (by kernel_rfl)
theorem B120_4_eq (v29 v30 : Value) (b2 b3 : List AV) (hp : Hp) : B120_4 v29 v30 b2 b3 hp = ((binV Tryz.prog .lss 3 (.tmp 30) (.tmp 29) v30 v29).bind fun y18 => ((asB y18).bind fun y19 => (cond y19 ((getC b2 2).bind fun y20 => ((idxA 1 (ro1 y20) v30).bind fun y21 => ((qc y21 0).bind fun y22 => ((getC b3 2).bind fun y23 => ((idxA 1 (ro1 y23) v30).bind fun y24 => ((qc y24 0).bind fun y25 => ((binV Tryz.prog .neq 30 (.tmp 37) (.tmp 42) y22 y25).bind fun y26 => ((asB y26).bind fun y27 => (cond y27 (some (Prod.mk (AV.sc (.bool false)) hp)) ((binV Tryz.prog .add 3 (.tmp 30) (.const (.int .i64 (.ofNat 1))) v30 (.int .i64 (.ofNat 1))).bind fun y28 => (B120_4 v29 y28 b2 b3 hp))))))))))) (some (Prod.mk (AV.sc (.bool true)) hp))))) :=
 (qe cxX 120 ss120 400 _ _).trans (by kernel_rfl)
theorem E128 (a0 a1 a2 : AV) (hp : Hp) : run cxX 128 [a0, a1, a2] hp = ((asSc a1).bind fun y0 => ((asSc a2).bind fun y1 => ((qh 3 a0).bind fun y2 => ((binV Tryz.prog .shr 76 (.tmp 8) (.const (.int .u64 (.ofNat 32))) y0 (.int .u64 (.ofNat 32))).bind fun y3 => ((binV Tryz.prog .mul 3 (.const (.int .i64 (.ofNat 2))) (.tmp 10) (.int .i64 (.ofNat 2)) y1).bind fun y4 => ((binV Tryz.prog .add 3 (.tmp 11) (.const (.int .i64 (.ofNat 1))) y4 (.int .i64 (.ofNat 1))).bind fun y5 => ((cvV Tryz.prog 3 76 y5).bind fun y6 => ((binV Tryz.prog .mul 76 (.tmp 9) (.tmp 13) y3 y6).bind fun y7 => ((binV Tryz.prog .and 76 (.tmp 15) (.const (.int .u64 (.ofNat 4294967295))) y0 (.int .u64 (.ofNat 4294967295))).bind fun y8 => ((binV Tryz.prog .add 76 (.tmp 14) (.tmp 16) y7 y8).bind fun y9 => ((binV Tryz.prog .shr 76 (.tmp 19) (.const (.int .u64 (.ofNat 17))) y9 (.int .u64 (.ofNat 17))).bind fun y10 => ((binV Tryz.prog .xor 76 (.tmp 18) (.tmp 20) y9 y10).bind fun y11 => ((qc (List.map ro1 y2) 1).bind fun y12 => ((bltV Tryz.prog Go.Builtin.max (Array.mk [3, 3]) 3 [y12, .int .i64 (.ofNat 1)]).bind fun y13 => ((cvV Tryz.prog 3 76 y13).bind fun y14 => ((binV Tryz.prog .rem 76 (.tmp 21) (.tmp 25) y11 y14).bind fun y15 => ((cvV Tryz.prog 76 3 y15).bind fun y16 => (some (Prod.mk (AV.sc y16) hp))))))))))))))))))) :=
 (qf cxX 128 ss128 400 _ _).trans (by kernel_rfl)
theorem E129 (a0 a1 : AV) (hp : Hp) : run cxX 129 [a0, a1] hp = ((asSc a0).bind fun y0 => ((asSc a1).bind fun y1 => ((binV Tryz.prog .add 30 (.tmp 6) (.tmp 7) y0 y1).bind fun y2 => ((binV Tryz.prog .geq 30 (.tmp 9) (.tmp 10) y2 y0).bind fun y3 => ((asB y3).bind fun y4 => (cond y4 (some (Prod.mk (AV.sc y2) hp)) (some (Prod.mk (AV.sc (.int .u32 (.ofNat 4294967295))) hp)))))))) :=
 (qf cxX 129 ss129 400 _ _).trans (by kernel_rfl)
noncomputable def B31_3 (x17 : AV) (v18 v19 : Value) (b4 b5 : List AV) (hp : Hp) : Option (AV × Hp) := go cxX 31 [.code (sub [1, 1, 0, 1, 0, 0, 0] cd31), .code (sub [1, 1, 0, 1, 0, 0, 1] cd31), .inLoop (sub [1, 1, 0, 1, 0, 0] cd31), .inBlock 0, .code (sub [1, 1, 1] cd31)] ⟨[(4, .lp 4 0 0), (5, .lp 5 0 0), (17, .av x17), (18, .sv v18), (19, .sv v19)], [(4, 0, b4), (5, 0, b5)], hp⟩
theorem E31 (a0 a1 : AV) (hp : Hp) : run cxX 31 [a0, a1] hp = ((asSc a0).bind fun y0 => ((binV Tryz.prog .rem 5 (.tmp 10) (.const (.int .u8 (.ofNat 16))) y0 (.int .u8 (.ofNat 16))).bind fun y1 => ((cvV Tryz.prog 5 3 y1).bind fun y2 => ((binV Tryz.prog .add 3 (.const (.int .i64 (.ofNat 1))) (.tmp 12) (.int .i64 (.ofNat 1)) y2).bind fun y3 => ((qi [AV.sc y3] []).bind fun y4 => ((run cxX 77 [AV.sc y3] hp0).bind fun y5 => ((qm (y5).1).bind fun y6 => ((qo 2 (y5).1).bind fun y7 => ((asSc (ro (nthA (y5).1 1))).bind fun y8 => ((qh 11 (ro (nthA (y5).1 0))).bind fun y9 => ((putN [AV.sc (.int .i64 (.ofNat 0)), AV.sc (.int .u32 (.ofNat 0)), AV.sc (.int .u32 (.ofNat 0)), AV.sc (.int .u32 (.ofNat 0)), AV.sc (.int .u32 (.ofNat 0)), AV.sc (.int .u32 (.ofNat 0)), AV.sc (.int .u32 (.ofNat 0)), AV.sc (.int .u32 (.ofNat 0)), AV.sc (.float .f64 0), AV.sc (.float .f64 0), AV.sc (.slice none 0 0)] 0 y9).bind fun y10 => ((lenA (ro a1)).bind fun y11 => (B31_3 (ro a1) (.int .i64 (.ofNat y11)) (.int .i64 (.ofNat 0)) [AV.sc (.int .i64 (.ofNat 0)), AV.sc (.int .u32 (.ofNat 0)), AV.sc (.int .u32 (.ofNat 0)), AV.sc (.int .u32 (.ofNat 0)), AV.sc (.int .u32 (.ofNat 0)), AV.sc (.int .u32 (.ofNat 0)), AV.sc (.int .u32 (.ofNat 0)), AV.sc (.int .u32 (.ofNat 0)), AV.sc (.float .f64 0), AV.sc (.float .f64 0), AV.sc (.slice none 0 0)] y10 hp))))))))))))) :=
 (qf cxX 31 ss31 400 _ _).trans (by kernel_rfl)
theorem B31_3_eq (x17 : AV) (v18 v19 : Value) (b4 b5 : List AV) (hp : Hp) : B31_3 x17 v18 v19 b4 b5 hp = ((binV Tryz.prog .lss 3 (.tmp 19) (.tmp 18) v19 v18).bind fun y12 => ((asB y12).bind fun y13 => (cond y13 ((idxA 2 x17 v19).bind fun y14 => ((getN y14 0 2).bind fun y15 => ((qh 2 (AV.agg (List.map ro1 y15))).bind fun y16 => ((putN [AV.sc (.int .u64 (.ofNat 0)), AV.sc (.int .u8 (.ofNat 0))] 0 y16).bind fun y17 => ((getN b5 0 11).bind fun y18 => ((getN y17 0 2).bind fun y19 => ((qi [AV.agg (List.map ro1 y19)] []).bind fun y20 => ((run cxX 79 [ro (AV.agg (List.map ro1 y19))] hp0).bind fun y21 => ((qm (y21).1).bind fun y22 => ((asSc (y21).1).bind fun y23 => ((qi [AV.agg (List.map ro1 y18), AV.sc y23] []).bind fun y24 => ((run cxX 78 [ro (AV.agg (List.map ro1 y18)), AV.sc y23] hp0).bind fun y25 => ((qm (y25).1).bind fun y26 => ((qM (y25).1).bind fun y27 => ((qh 11 (y25).1).bind fun y28 => ((putN b5 0 y28).bind fun y29 => ((binV Tryz.prog .add 3 (.tmp 19) (.const (.int .i64 (.ofNat 1))) v19 (.int .i64 (.ofNat 1))).bind fun y30 => (B31_3 x17 v18 y30 b4 y29 hp)))))))))))))))))) ((getN b5 0 11).bind fun y31 => ((putN b5 0 (List.map ro1 y31)).bind fun y32 => ((qh 11 (AV.agg y31)).bind fun y33 => ((putN b4 0 y33).bind fun y34 => ((getN y34 0 11).bind fun y35 => (some (Prod.mk (AV.agg y35) hp)))))))))) :=
 (qe cxX 31 ss31 400 _ _).trans (by kernel_rfl)
theorem E79 (a0 : AV) (hp : Hp) : run cxX 79 [a0] hp = ((qh 2 a0).bind fun y0 => ((qc (List.map ro1 y0) 0).bind fun y1 => ((qc (List.map ro1 y0) 1).bind fun y2 => ((qi [AV.sc y1, AV.sc y2] []).bind fun y3 => ((run cxX 133 [AV.sc y1, AV.sc y2] hp0).bind fun y4 => ((qm (y4).1).bind fun y5 => ((asSc (y4).1).bind fun y6 => (some (Prod.mk (AV.sc y6) hp))))))))) :=
 (qf cxX 79 ss79 400 _ _).trans (by kernel_rfl)
noncomputable def B92_7 (v3 : Value) (hp : Hp) : Option (AV × Hp) := go cxX 92 [.code (sub [1, 1, 1, 0] cd92), .code (sub [1, 1, 1, 1] cd92)] ⟨[(3, .sv v3)], [], hp⟩
theorem E92 (a0 : AV) (hp : Hp) : run cxX 92 [a0] hp = ((asSc a0).bind fun y0 => ((one (extX Tryz.prog 142 [y0])).bind fun y1 => ((qi [AV.sc y0] []).bind fun y2 => ((run cxX 143 [AV.sc y0] hp0).bind fun y3 => ((qm (y3).1).bind fun y4 => ((asSc (y3).1).bind fun y5 => ((asB y5).bind fun y6 => (cond y6 (B92_7 (.int .u64 (.ofNat 18444492273895866369)) hp) ((binV Tryz.prog .and 76 (.tmp 12) (.const (.int .u64 (.ofNat 9223372036854775808))) y1 (.int .u64 (.ofNat 9223372036854775808))).bind fun y7 => ((binV Tryz.prog .neq 76 (.tmp 13) (.const (.int .u64 (.ofNat 0))) y7 (.int .u64 (.ofNat 0))).bind fun y8 => ((asB y8).bind fun y9 => (cond y9 ((unV Tryz.prog .xor y1).bind fun y10 => (B92_7 y10 hp)) ((binV Tryz.prog .or 76 (.tmp 6) (.const (.int .u64 (.ofNat 9223372036854775808))) y1 (.int .u64 (.ofNat 9223372036854775808))).bind fun y11 => (B92_7 y11 hp)))))))))))))) :=
 (qf cxX 92 ss92 400 _ _).trans (by kernel_rfl)
theorem B92_7_eq (v3 : Value) (hp : Hp) : B92_7 v3 hp = (some (Prod.mk (AV.sc v3) hp)) :=
 (qe cxX 92 ss92 400 _ _).trans (by kernel_rfl)
theorem E123 (a0 a1 : AV) (hp : Hp) : run cxX 123 [a0, a1] hp = ((asSc a0).bind fun y0 => ((asSc a1).bind fun y1 => ((qi [AV.sc y0] []).bind fun y2 => ((run cxX 92 [AV.sc y0] hp0).bind fun y3 => ((qm (y3).1).bind fun y4 => ((asSc (y3).1).bind fun y5 => ((qi [AV.sc y1] []).bind fun y6 => ((run cxX 92 [AV.sc y1] hp0).bind fun y7 => ((qm (y7).1).bind fun y8 => ((asSc (y7).1).bind fun y9 => ((binV Tryz.prog .lss 76 (.tmp 6) (.tmp 8) y5 y9).bind fun y10 => (some (Prod.mk (AV.sc y10) hp))))))))))))) :=
 (qf cxX 123 ss123 400 _ _).trans (by kernel_rfl)
noncomputable def B155_4 (v0 v4 : Value) (hp : Hp) : Option (AV × Hp) := go cxX 155 [.code (sub [1, 1, 1, 0] cd155), .code (sub [1, 1, 1, 1] cd155)] ⟨[(0, .sv v0), (4, .sv v4)], [], hp⟩
theorem E155 (a0 : AV) (hp : Hp) : run cxX 155 [a0] hp = ((asSc a0).bind fun y0 => ((binV Tryz.prog .andNot 76 (.tmp 6) (.const (.int .u64 (.ofNat 9223372036854775808))) y0 (.int .u64 (.ofNat 9223372036854775808))).bind fun y1 => ((binV Tryz.prog .and 76 (.tmp 8) (.const (.int .u64 (.ofNat 9223372036854775808))) y0 (.int .u64 (.ofNat 9223372036854775808))).bind fun y2 => ((binV Tryz.prog .eql 76 (.tmp 9) (.const (.int .u64 (.ofNat 0))) y2 (.int .u64 (.ofNat 0))).bind fun y3 => ((asB y3).bind fun y4 => (cond y4 ((unV Tryz.prog .xor y0).bind fun y5 => (B155_4 y0 y5 hp)) (B155_4 y0 y1 hp))))))) :=
 (qf cxX 155 ss155 400 _ _).trans (by kernel_rfl)
theorem B155_4_eq (v0 v4 : Value) (hp : Hp) : B155_4 v0 v4 hp = ((one (extX Tryz.prog 169 [v4])).bind fun y6 => ((qi [AV.sc y6] []).bind fun y7 => ((run cxX 92 [AV.sc y6] hp0).bind fun y8 => ((qm (y8).1).bind fun y9 => ((asSc (y8).1).bind fun y10 => ((binV Tryz.prog .eql 76 (.tmp 17) (.tmp 18) y10 v0).bind fun y11 => (some (Prod.mk (AV.tup [AV.sc y6, AV.sc y11]) hp)))))))) :=
 (qe cxX 155 ss155 400 _ _).trans (by kernel_rfl)
theorem E167 (a0 a1 : AV) (hp : Hp) : run cxX 167 [a0, a1] hp = ((asSc a0).bind fun y0 => ((asSc a1).bind fun y1 => ((qi [AV.sc y0] []).bind fun y2 => ((run cxX 92 [AV.sc y0] hp0).bind fun y3 => ((qm (y3).1).bind fun y4 => ((asSc (y3).1).bind fun y5 => ((qi [AV.sc y1] []).bind fun y6 => ((run cxX 92 [AV.sc y1] hp0).bind fun y7 => ((qm (y7).1).bind fun y8 => ((asSc (y7).1).bind fun y9 => ((binV Tryz.prog .eql 76 (.tmp 6) (.tmp 8) y5 y9).bind fun y10 => (some (Prod.mk (AV.sc y10) hp))))))))))))) :=
 (qf cxX 167 ss167 400 _ _).trans (by kernel_rfl)
theorem E170 (a0 a1 : AV) (hp : Hp) : run cxX 170 [a0, a1] hp = ((asSc a0).bind fun y0 => ((asSc a1).bind fun y1 => ((qi [AV.sc y1, AV.sc y0] []).bind fun y2 => ((run cxX 123 [AV.sc y1, AV.sc y0] hp0).bind fun y3 => ((qm (y3).1).bind fun y4 => ((asSc (y3).1).bind fun y5 => ((asB y5).bind fun y6 => (cond y6 (some (Prod.mk (AV.sc y1) hp)) (some (Prod.mk (AV.sc y0) hp)))))))))) :=
 (qf cxX 170 ss170 400 _ _).trans (by kernel_rfl)
theorem E171 (a0 a1 : AV) (hp : Hp) : run cxX 171 [a0, a1] hp = ((asSc a0).bind fun y0 => ((asSc a1).bind fun y1 => ((qi [AV.sc y0, AV.sc y1] []).bind fun y2 => ((run cxX 123 [AV.sc y0, AV.sc y1] hp0).bind fun y3 => ((qm (y3).1).bind fun y4 => ((asSc (y3).1).bind fun y5 => ((asB y5).bind fun y6 => (cond y6 (some (Prod.mk (AV.sc y1) hp)) (some (Prod.mk (AV.sc y0) hp)))))))))) :=
 (qf cxX 171 ss171 400 _ _).trans (by kernel_rfl)
noncomputable def B172_8 (hp : Hp) : Option (AV × Hp) := go cxX 172 [.code (sub [1, 0, 0, 1, 1, 1, 1, 1, 1, 1, 0, 0] cd172), .code (sub [1, 0, 0, 1, 0, 1] cd172), .inBlock 0, .code (sub [1, 1] cd172)] ⟨[], [], hp⟩
noncomputable def B172_9 (v0 : Value) (hp : Hp) : Option (AV × Hp) := go cxX 172 [.code (sub [1, 0, 0, 1, 1, 1, 1, 1, 1, 1, 1, 0] cd172), .code (sub [1, 0, 0, 1, 1, 1, 1, 1, 1, 1, 1, 1] cd172), .inBlock 0, .code (sub [1, 1] cd172)] ⟨[(0, .sv v0)], [], hp⟩
theorem E172 (a0 : AV) (hp : Hp) : run cxX 172 [a0] hp = ((asSc a0).bind fun y0 => ((binV Tryz.prog .neq 50 (.tmp 4) (.tmp 5) y0 y0).bind fun y1 => ((asB y1).bind fun y2 => (cond y2 (some (Prod.mk (AV.sc (.int .u8 (.ofNat 1))) hp)) ((qi [AV.sc y0, AV.sc (.int .i64 (Int.negSucc 0))] []).bind fun y3 => ((run cxX 181 [AV.sc y0, AV.sc (.int .i64 (Int.negSucc 0))] hp0).bind fun y4 => ((qm (y4).1).bind fun y5 => ((asSc (y4).1).bind fun y6 => ((asB y6).bind fun y7 => (cond y7 (some (Prod.mk (AV.sc (.int .u8 (.ofNat 2))) hp)) ((qi [AV.sc y0, AV.sc (.int .i64 (.ofNat 1))] []).bind fun y8 => ((run cxX 181 [AV.sc y0, AV.sc (.int .i64 (.ofNat 1))] hp0).bind fun y9 => ((qm (y9).1).bind fun y10 => ((asSc (y9).1).bind fun y11 => ((asB y11).bind fun y12 => (cond y12 (some (Prod.mk (AV.sc (.int .u8 (.ofNat 3))) hp)) ((binV Tryz.prog .eql 50 (.tmp 14) (.const (.float .f64 0)) y0 (.float .f64 0)).bind fun y13 => ((asB y13).bind fun y14 => (cond y14 ((qi [AV.sc y0] []).bind fun y15 => ((run cxX 182 [AV.sc y0] hp0).bind fun y16 => ((qm (y16).1).bind fun y17 => ((asSc (y16).1).bind fun y18 => ((asB y18).bind fun y19 => (cond y19 (B172_8 hp) (B172_9 y0 hp))))))) (B172_9 y0 hp)))))))))))))))))))) :=
 (qf cxX 172 ss172 400 _ _).trans (by kernel_rfl)
theorem B172_8_eq (hp : Hp) : B172_8 hp = (some (Prod.mk (AV.sc (.int .u8 (.ofNat 4))) hp)) :=
 (qe cxX 172 ss172 400 _ _).trans (by kernel_rfl)
theorem B172_9_eq (v0 : Value) (hp : Hp) : B172_9 v0 hp = ((binV Tryz.prog .eql 50 (.tmp 21) (.const (.float .f64 0)) v0 (.float .f64 0)).bind fun y20 => ((asB y20).bind fun y21 => (cond y21 (some (Prod.mk (AV.sc (.int .u8 (.ofNat 5))) hp)) (some (Prod.mk (AV.sc (.int .u8 (.ofNat 0))) hp))))) :=
 (qe cxX 172 ss172 400 _ _).trans (by kernel_rfl)
noncomputable def B130_5 (v3 : Value) (hp : Hp) : Option (AV × Hp) := go cxX 130 [.code (sub [1, 1, 1, 0] cd130), .code (sub [1, 1, 1, 1] cd130)] ⟨[(3, .sv v3)], [], hp⟩
theorem E130 (a0 : AV) (hp : Hp) : run cxX 130 [a0] hp = ((asSc a0).bind fun y0 => ((binV Tryz.prog .geq 3 (.tmp 4) (.const (.int .i64 (.ofNat 0))) y0 (.int .i64 (.ofNat 0))).bind fun y1 => ((asB y1).bind fun y2 => (cond y2 (B130_5 (.int .u64 (.ofNat 9218868437227405312)) hp) (B130_5 (.int .u64 (.ofNat 18442240474082181120)) hp))))) :=
 (qf cxX 130 ss130 400 _ _).trans (by kernel_rfl)
theorem B130_5_eq (v3 : Value) (hp : Hp) : B130_5 v3 hp = ((one (extX Tryz.prog 169 [v3])).bind fun y3 => (some (Prod.mk (AV.sc y3) hp))) :=
 (qe cxX 130 ss130 400 _ _).trans (by kernel_rfl)
theorem E143 (a0 : AV) (hp : Hp) : run cxX 143 [a0] hp = ((asSc a0).bind fun y0 => ((binV Tryz.prog .neq 50 (.tmp 3) (.tmp 4) y0 y0).bind fun y1 => (some (Prod.mk (AV.sc y1) hp)))) :=
 (qf cxX 143 ss143 400 _ _).trans (by kernel_rfl)
theorem E173 (hp : Hp) : run cxX 173 [] hp = ((one (extX Tryz.prog 169 [.int .u64 (.ofNat 9221120237041090561)])).bind fun y0 => (some (Prod.mk (AV.sc y0) hp))) :=
 (qf cxX 173 ss173 400 _ _).trans (by kernel_rfl)
theorem E174 (a0 a1 : AV) (hp : Hp) : run cxX 174 [a0, a1] hp = ((asSc a0).bind fun y0 => ((asSc a1).bind fun y1 => ((one (extX Tryz.prog 142 [y0])).bind fun y2 => ((binV Tryz.prog .andNot 76 (.tmp 6) (.const (.int .u64 (.ofNat 9223372036854775808))) y2 (.int .u64 (.ofNat 9223372036854775808))).bind fun y3 => ((one (extX Tryz.prog 142 [y1])).bind fun y4 => ((binV Tryz.prog .and 76 (.tmp 9) (.const (.int .u64 (.ofNat 9223372036854775808))) y4 (.int .u64 (.ofNat 9223372036854775808))).bind fun y5 => ((binV Tryz.prog .or 76 (.tmp 7) (.tmp 10) y3 y5).bind fun y6 => ((one (extX Tryz.prog 169 [y6])).bind fun y7 => (some (Prod.mk (AV.sc y7) hp)))))))))) :=
 (qf cxX 174 ss174 400 _ _).trans (by kernel_rfl)
noncomputable def B181_5 (v0 : Value) (hp : Hp) : Option (AV × Hp) := go cxX 181 [.code (sub [1, 1, 0] cd181), .code (sub [1, 1, 1] cd181)] ⟨[(0, .sv v0)], [], hp⟩
theorem E181 (a0 a1 : AV) (hp : Hp) : run cxX 181 [a0, a1] hp = ((asSc a0).bind fun y0 => ((asSc a1).bind fun y1 => ((binV Tryz.prog .eql 3 (.tmp 5) (.const (.int .i64 (.ofNat 0))) y1 (.int .i64 (.ofNat 0))).bind fun y2 => ((asB y2).bind fun y3 => (cond y3 ((qi [AV.sc y0] []).bind fun y4 => ((run cxX 183 [AV.sc y0] hp0).bind fun y5 => ((qm (y5).1).bind fun y6 => ((asSc (y5).1).bind fun y7 => (B181_5 y7 hp))))) ((binV Tryz.prog .lss 3 (.tmp 9) (.const (.int .i64 (.ofNat 0))) y1 (.int .i64 (.ofNat 0))).bind fun y8 => ((asB y8).bind fun y9 => (cond y9 ((unV Tryz.prog .neg y0).bind fun y10 => (B181_5 y10 hp)) (B181_5 y0 hp))))))))) :=
 (qf cxX 181 ss181 400 _ _).trans (by kernel_rfl)
theorem B181_5_eq (v0 : Value) (hp : Hp) : B181_5 v0 hp = ((binV Tryz.prog .gtr 50 (.tmp 13) (.const (.float .f64 9218868437227405311)) v0 (.float .f64 9218868437227405311)).bind fun y11 => (some (Prod.mk (AV.sc y11) hp))) :=
 (qe cxX 181 ss181 400 _ _).trans (by kernel_rfl)
theorem E182 (a0 : AV) (hp : Hp) : run cxX 182 [a0] hp = ((asSc a0).bind fun y0 => ((one (extX Tryz.prog 142 [y0])).bind fun y1 => ((cvV Tryz.prog 76 2 y1).bind fun y2 => ((binV Tryz.prog .lss 2 (.tmp 5) (.const (.int .i64 (.ofNat 0))) y2 (.int .i64 (.ofNat 0))).bind fun y3 => (some (Prod.mk (AV.sc y3) hp)))))) :=
 (qf cxX 182 ss182 400 _ _).trans (by kernel_rfl)
noncomputable def B133_10 (v0 : Value) (hp : Hp) : Option (AV × Hp) := go cxX 133 [.code (sub [1, 0, 1, 0, 1, 1, 1, 1, 1, 1, 1, 0, 0] cd133), .code (sub [1, 0, 1, 0, 1, 0, 1] cd133), .inBlock 0, .code (sub [1, 1] cd133)] ⟨[(0, .sv v0)], [], hp⟩
noncomputable def B133_11 (v0 : Value) (hp : Hp) : Option (AV × Hp) := go cxX 133 [.code (sub [1, 1, 0] cd133), .code (sub [1, 0, 1, 0, 1, 0, 1] cd133)] ⟨[(0, .sv v0)], [], hp⟩
theorem E133 (a0 a1 : AV) (hp : Hp) : run cxX 133 [a0, a1] hp = ((asSc a0).bind fun y0 => ((asSc a1).bind fun y1 => ((binV Tryz.prog .rem 5 (.tmp 5) (.const (.int .u8 (.ofNat 8))) y1 (.int .u8 (.ofNat 8))).bind fun y2 => ((binV Tryz.prog .eql 5 (.tmp 6) (.const (.int .u8 (.ofNat 0))) y2 (.int .u8 (.ofNat 0))).bind fun y3 => ((asB y3).bind fun y4 => (cond y4 ((qi [] []).bind fun y5 => ((run cxX 173 [] hp0).bind fun y6 => ((qm (y6).1).bind fun y7 => ((asSc (y6).1).bind fun y8 => (some (Prod.mk (AV.sc y8) hp)))))) ((binV Tryz.prog .eql 5 (.tmp 6) (.const (.int .u8 (.ofNat 1))) y2 (.int .u8 (.ofNat 1))).bind fun y9 => ((asB y9).bind fun y10 => (cond y10 ((binV Tryz.prog .rem 76 (.tmp 12) (.const (.int .u64 (.ofNat 2))) y0 (.int .u64 (.ofNat 2))).bind fun y11 => ((cvV Tryz.prog 76 3 y11).bind fun y12 => ((binV Tryz.prog .mul 3 (.tmp 14) (.const (.int .i64 (.ofNat 2))) y12 (.int .i64 (.ofNat 2))).bind fun y13 => ((binV Tryz.prog .sub 3 (.tmp 15) (.const (.int .i64 (.ofNat 1))) y13 (.int .i64 (.ofNat 1))).bind fun y14 => ((qi [AV.sc y14] []).bind fun y15 => ((run cxX 130 [AV.sc y14] hp0).bind fun y16 => ((qm (y16).1).bind fun y17 => ((asSc (y16).1).bind fun y18 => (some (Prod.mk (AV.sc y18) hp)))))))))) ((binV Tryz.prog .eql 5 (.tmp 6) (.const (.int .u8 (.ofNat 2))) y2 (.int .u8 (.ofNat 2))).bind fun y19 => ((asB y19).bind fun y20 => (cond y20 ((binV Tryz.prog .rem 76 (.tmp 20) (.const (.int .u64 (.ofNat 2))) y0 (.int .u64 (.ofNat 2))).bind fun y21 => ((cvV Tryz.prog 76 50 y21).bind fun y22 => ((binV Tryz.prog .sub 50 (.tmp 22) (.const (.float .f64 4602678819172646912)) y22 (.float .f64 4602678819172646912)).bind fun y23 => ((qi [AV.sc (.float .f64 0), AV.sc y23] []).bind fun y24 => ((run cxX 174 [AV.sc (.float .f64 0), AV.sc y23] hp0).bind fun y25 => ((qm (y25).1).bind fun y26 => ((asSc (y25).1).bind fun y27 => (some (Prod.mk (AV.sc y27) hp))))))))) ((binV Tryz.prog .eql 5 (.tmp 6) (.const (.int .u8 (.ofNat 3))) y2 (.int .u8 (.ofNat 3))).bind fun y28 => ((asB y28).bind fun y29 => (cond y29 ((asB y28).bind fun y30 => (cond y30 (B133_10 y0 hp) (B133_11 y0 hp))) ((binV Tryz.prog .eql 5 (.tmp 6) (.const (.int .u8 (.ofNat 4))) y2 (.int .u8 (.ofNat 4))).bind fun y31 => ((asB y31).bind fun y32 => (cond y32 (B133_10 y0 hp) (B133_11 y0 hp))))))))))))))))))) :=
 (qf cxX 133 ss133 400 _ _).trans (by kernel_rfl)
theorem B133_10_eq (v0 : Value) (hp : Hp) : B133_10 v0 hp = ((binV Tryz.prog .rem 76 (.tmp 28) (.const (.int .u64 (.ofNat 2001))) v0 (.int .u64 (.ofNat 2001))).bind fun y33 => ((cvV Tryz.prog 76 2 y33).bind fun y34 => ((binV Tryz.prog .sub 2 (.tmp 30) (.const (.int .i64 (.ofNat 1000))) y34 (.int .i64 (.ofNat 1000))).bind fun y35 => ((cvV Tryz.prog 2 50 y35).bind fun y36 => (some (Prod.mk (AV.sc y36) hp)))))) :=
 (qe cxX 133 ss133 400 _ _).trans (by kernel_rfl)
theorem B133_11_eq (v0 : Value) (hp : Hp) : B133_11 v0 hp = ((one (extX Tryz.prog 169 [v0])).bind fun y37 => (some (Prod.mk (AV.sc y37) hp))) :=
 (qe cxX 133 ss133 400 _ _).trans (by kernel_rfl)
def fEq (a b : Nat) : Bool := decide (¬isN a ∧ ¬isN b ∧ fval a = fval b)
theorem zJ (a : Nat) : fEq a a = decide (¬isN a) := by unfold fEq; congr 1; apply propext; constructor <;> intro h <;> simp_all
section
variable (P : Program) (t : TypeId) (x y : Operand) (a b : Nat)
theorem zW (op : BinOp) : eqGuard op t x y (.float .f64 a) (.float .f64 b) = pure () := by
 cases op <;> rfl
@[simp] theorem binV_flss : binV P .lss t x y (.float .f64 a) (.float .f64 b) = some (.bool (fLess a b)) := by
 unfold binV
 rw [zW]
 show one (some (Value.bool (Ieee.double.order a b == some .lt))) = _
 rw [f_lt]; rfl
@[simp] theorem binV_fgtr : binV P .gtr t x y (.float .f64 a) (.float .f64 b) = some (.bool (fLess b a)) := by
 unfold binV
 rw [zW]
 show one (some (Value.bool (Ieee.double.order a b == some .gt))) = _
 rw [f_gt]
 unfold fLess
 show some (Value.bool _) = _
 congr 2
 apply decide_eq_decide.mpr
 constructor <;> (rintro ⟨h1, h2, h3⟩; exact ⟨h2, h1, h3⟩)
@[simp] theorem binV_feql : binV P .eql t x y (.float .f64 a) (.float .f64 b) = some (.bool (fEq a b)) := by
 unfold binV
 rw [zW]
 show one (some (Value.bool (Ieee.double.order a b == some .eq))) = _
 rw [f_eq]; rfl
@[simp] theorem binV_fneq : binV P .neq t x y (.float .f64 a) (.float .f64 b) = some (.bool (!fEq a b)) := by
 unfold binV
 rw [zW]
 show one (some (Value.bool (!(Ieee.double.order a b == some .eq)))) = _
 rw [f_eq]; rfl
@[simp] theorem binV_fleq : binV P .leq t x y (.float .f64 a) (.float .f64 b) = some (.bool (fLess a b || fEq a b)) := by
 unfold binV
 rw [zW]
 show one (some (Value.bool (Ieee.double.order a b == some .lt || Ieee.double.order a b == some .eq))) = _
 rw [f_eq, f_lt]; rfl
end
section
variable (P : Program) (t : TypeId) (x y : Operand)
theorem wrapu64_nat (n : Nat) (h : n < 18446744073709551616) : IntKind.u64.wrap (n : Int) = n := qt (by omega) (by omega)
theorem binV_or_top (n : Nat) (h : n < 9223372036854775808) : binV P .or t x y (.int .u64 (n : Int)) (.int .u64 9223372036854775808) = some (.int .u64 ((n + 9223372036854775808 : Nat) : Int)) := by
 rw [zT]
 show some (Value.int .u64 (IntKind.u64.wrap ((BitVec.ofInt 64 (n : Int) ||| BitVec.ofInt 64 9223372036854775808).toNat : Nat))) = _
 rw [bv_or_top n h, wrapu64_nat _ (by omega)]
theorem binV_and_lo (n : Nat) (h : n < 9223372036854775808) : binV P .and t x y (.int .u64 (n : Int)) (.int .u64 9223372036854775808) = some (.int .u64 0) := by
 rw [qL]
 show some (Value.int .u64 (IntKind.u64.wrap ((BitVec.ofInt 64 (n : Int) &&& BitVec.ofInt 64 9223372036854775808).toNat : Nat))) = _
 rw [bv_and_top_lo n h]
 rfl
theorem binV_and_hi (n : Nat) (h : 9223372036854775808 ≤ n) (h' : n < 18446744073709551616) : binV P .and t x y (.int .u64 (n : Int)) (.int .u64 9223372036854775808) = some (.int .u64 9223372036854775808) := by
 rw [qL]
 show some (Value.int .u64 (IntKind.u64.wrap ((BitVec.ofInt 64 (n : Int) &&& BitVec.ofInt 64 9223372036854775808).toNat : Nat))) = _
 rw [bv_and_top_hi n h h']
 rfl
theorem binV_clear (n : Nat) (h : n < 18446744073709551616) : binV P .andNot t x y (.int .u64 (n : Int)) (.int .u64 9223372036854775808) = some (.int .u64 ((n % 9223372036854775808 : Nat) : Int)) := by
 rw [zh P t x y .u64 (n : Int) 9223372036854775808 .andNot (by decide) (by decide)]
 show some (Value.int .u64 (IntKind.u64.wrap ((BitVec.ofInt 64 (n : Int) &&& ~~~(BitVec.ofInt 64 9223372036854775808)).toNat : Nat))) = _
 rw [bv_clear_top n h, wrapu64_nat _ (by omega)]
theorem bv_not (n : Nat) (h : n < 18446744073709551616) : (BitVec.ofInt 64 18446744073709551615 ^^^ BitVec.ofInt 64 (n : Int)).toNat = 18446744073709551615 - n := by
 have e : BitVec.ofInt 64 18446744073709551615 = BitVec.allOnes 64 := by decide
 rw [e, BitVec.allOnes_xor, BitVec.toNat_not, BitVec.toNat_ofInt]
 have e1 : (((n : Int) % ((2 ^ 64 : Nat) : Int)).toNat) = n := by omega
 rw [e1]
theorem unV_not64 (n : Nat) (h : n < 18446744073709551616) : unV P .xor (.int .u64 (n : Int)) = some (.int .u64 ((18446744073709551615 - n : Nat) : Int)) := by
 show some (Value.int .u64 (IntKind.u64.wrap ((BitVec.ofInt 64 18446744073709551615 ^^^ BitVec.ofInt 64 (n : Int)).toNat : Nat))) = _
 rw [bv_not n h, wrapu64_nat _ (by omega)]
def nw (w : Nat) : Nat := if w < 9223372036854775808 then w + 9223372036854775808 else w - 9223372036854775808
theorem xor_top (w : Nat) (h : w < 18446744073709551616) : w ^^^ 2 ^ 63 = nw w := by
 unfold nw
 by_cases h1 : w < 9223372036854775808
 ·rw [if_pos h1]
  have e : w + 9223372036854775808 = 2 ^ 63 * 1 + w := by omega
  rw [e, Nat.two_pow_add_eq_or_of_lt (by omega)]
  apply Nat.eq_of_testBit_eq
  intro i
  rw [Nat.testBit_xor, Nat.testBit_or, Nat.mul_one, Nat.testBit_two_pow]
  by_cases hi : 63 = i
  ·subst hi
   rw [Nat.testBit_lt_two_pow (by omega)]
   rfl
  ·simp [hi]
 ·rw [if_neg h1]
  obtain ⟨m, rfl⟩ : ∃ m, w = 2 ^ 63 * 1 + m := ⟨w - 2 ^ 63, by omega⟩
  have e : 2 ^ 63 * 1 + m - 9223372036854775808 = m := by omega
  rw [e, Nat.two_pow_add_eq_or_of_lt (by omega)]
  apply Nat.eq_of_testBit_eq
  intro i
  rw [Nat.testBit_xor, Nat.testBit_or, Nat.mul_one, Nat.testBit_two_pow]
  by_cases hi : 63 = i
  ·subst hi
   rw [Nat.testBit_lt_two_pow (show m < 2 ^ 63 by omega)]
   rfl
  ·simp [hi]
theorem unV_fneg (w : Nat) (h : w < 18446744073709551616) : unV P .neg (.float .f64 w) = some (.float .f64 (nw w)) := by
 rw [← xor_top w h]; rfl
end
theorem nearest_lt (n : Int) : FloatKind.f64.nearest n < 18446744073709551616 := by
 have e1 : Ieee.double.signWeight = 9223372036854775808 := by decide
 have e3 : Ieee.double.infRung = 9218868437227405312 := by decide
 have hw : ∀ (s : Bool) (r : Nat), r ≤ 9218868437227405312 → Ieee.double.word s r < 18446744073709551616 := by
  intro s r hr
  unfold Ieee.Format.word
  rw [e1]
  split <;> omega
 have key : ∀ (s : Bool) (m : Nat) (p : Int), Ieee.double.nearest s m p < 18446744073709551616 := by
  intro s m p
  unfold Ieee.Format.nearest
  split
  ·exact hw _ _ (by omega)
  ·rw [e3]
   exact hw _ _ (Nat.min_le_right _ _)
 exact key (decide (n < 0)) n.natAbs 0
abbrev fl (w : Nat) : AV := .sc (.float .f64 w)
theorem x_bits (w : Nat) : one (extX Tryz.prog 142 [.float .f64 w]) = some (.int .u64 (w : Int)) := by kernel_rfl
theorem x_from (n : Int) : one (extX Tryz.prog 169 [.int .u64 n]) = some (.float .f64 n.toNat) := by kernel_rfl
theorem beq_tt (x y : Operand) : binV Tryz.prog .eql 4 x y (.bool true) (.bool true) = some (.bool true) := by kernel_rfl
theorem beq_tf (x y : Operand) : binV Tryz.prog .eql 4 x y (.bool true) (.bool false) = some (.bool false) := by kernel_rfl
theorem beq_ft (x y : Operand) : binV Tryz.prog .eql 4 x y (.bool false) (.bool true) = some (.bool false) := by kernel_rfl
theorem beq_ff (x y : Operand) : binV Tryz.prog .eql 4 x y (.bool false) (.bool false) = some (.bool true) := by kernel_rfl
@[simp] theorem beq_bb (x y : Operand) (a b : Bool) : binV Tryz.prog .eql 4 x y (.bool a) (.bool b) = some (.bool (decide (a = b))) := by
 cases a <;> cases b
 ·exact beq_ff x y
 ·exact beq_ft x y
 ·exact beq_tf x y
 ·exact beq_tt x y
theorem run_isnan (w : Nat) (hp : Hp) : run cxX 143 [fl w] hp = some (.sc (.bool (decide (isN w))), hp) := by
 rw [E143]
 simp [zJ]
theorem jP (w : Nat) (h : w < 18446744073709551616) (hp : Hp) : run cxX 92 [fl w] hp = some (.sc (.int .u64 (kw w : Int)), hp) := by
 rw [E92]
 unfold kw
 by_cases hn : isN w
 ·simp [x_bits, run_isnan, hn, B92_7_eq]
 ·by_cases hl : w < 9223372036854775808
  ·have e := binV_or_top Tryz.prog 76 (Go.Operand.tmp 6) (Go.Operand.const (.int .u64 (Int.ofNat 9223372036854775808))) w hl
   have e' := binV_and_lo Tryz.prog 76 (Go.Operand.tmp 12) (Go.Operand.const (.int .u64 (Int.ofNat 9223372036854775808))) w hl
   simp at e e'
   simp [x_bits, run_isnan, hn, hl, e, e', B92_7_eq]
  ·have e' := binV_and_hi Tryz.prog 76 (Go.Operand.tmp 12) (Go.Operand.const (.int .u64 (Int.ofNat 9223372036854775808))) w (by omega) h
   have e := unV_not64 Tryz.prog w h
   simp at e e'
   simp [x_bits, run_isnan, hn, hl, e, e', B92_7_eq]
theorem run_of (k : Nat) (h : k < 18446744073709551616) (hp : Hp) : run cxX 155 [.sc (.int .u64 (k : Int))] hp = some (.tup [fl (wk k), .sc (.bool (ofOk k))], hp) := by
 have e4 : ∀ hp, B155_4 (.int .u64 (k : Int)) (.int .u64 (wk k : Int)) hp = some (.tup [fl (wk k), .sc (.bool (ofOk k))], hp) := by
  intro hp
  rw [B155_4_eq]
  have hk := fun hp => jP (wk k) (wk_lt k h) hp
  have hd : decide ((kw (wk k) : Int) = (k : Int)) = ofOk k := by
   unfold ofOk
   apply decide_eq_decide.mpr
   omega
  simp [x_from, hk, hd]
 rw [E155]
 have c := binV_clear Tryz.prog 76 (Go.Operand.tmp 6) (Go.Operand.const (.int .u64 (Int.ofNat 9223372036854775808))) k h
 have n := unV_not64 Tryz.prog k h
 by_cases hl : k < 9223372036854775808
 ·have e' := binV_and_lo Tryz.prog 76 (Go.Operand.tmp 8) (Go.Operand.const (.int .u64 (Int.ofNat 9223372036854775808))) k hl
  have w : wk k = 18446744073709551615 - k := by unfold wk; rw [if_pos hl]
  rw [w] at e4
  rw [← w] at e4
  rw [← w] at n
  simp at c n e'
  simp [c, n, e', e4]
 ·have e' := binV_and_hi Tryz.prog 76 (Go.Operand.tmp 8) (Go.Operand.const (.int .u64 (Int.ofNat 9223372036854775808))) k (by omega) h
  have w : wk k = k % 9223372036854775808 := by unfold wk; rw [if_neg hl]; omega
  rw [← w] at c
  simp at c e'
  simp [c, e', e4]
theorem run_less (a b : Nat) (ha : a < 18446744073709551616) (hb : b < 18446744073709551616) (hp : Hp) : run cxX 123 [fl a, fl b] hp = some (.sc (.bool (decide (kw a < kw b))), hp) := by
 rw [E123]
 simp [jP a ha, jP b hb]
theorem yP (a b : Nat) (ha : a < 18446744073709551616) (hb : b < 18446744073709551616) (hp : Hp) : run cxX 167 [fl a, fl b] hp = some (.sc (.bool (decide (kw a = kw b))), hp) := by
 rw [E167]
 simp [jP a ha, jP b hb]
 omega
def fmin (a b : Nat) : Nat := if kw b < kw a then b else a
def fmax (a b : Nat) : Nat := if kw a < kw b then b else a
theorem fmin_lt {a b : Nat} (ha : a < 18446744073709551616) (hb : b < 18446744073709551616) : fmin a b < 18446744073709551616 := by unfold fmin; split <;> assumption
theorem fmax_lt {a b : Nat} (ha : a < 18446744073709551616) (hb : b < 18446744073709551616) : fmax a b < 18446744073709551616 := by unfold fmax; split <;> assumption
theorem run_fmin (a b : Nat) (ha : a < 18446744073709551616) (hb : b < 18446744073709551616) (hp : Hp) : run cxX 170 [fl a, fl b] hp = some (fl (fmin a b), hp) := by
 rw [E170]
 unfold fmin
 by_cases h : kw b < kw a <;> simp [run_less b a hb ha, h]
theorem run_fmax (a b : Nat) (ha : a < 18446744073709551616) (hb : b < 18446744073709551616) (hp : Hp) : run cxX 171 [fl a, fl b] hp = some (fl (fmax a b), hp) := by
 rw [E171]
 unfold fmax
 by_cases h : kw a < kw b <;> simp [run_less a b ha hb, h]
theorem run_nan (hp : Hp) : run cxX 173 [] hp = some (fl 9221120237041090561, hp) := by
 rw [E173]
 simp [x_from]
theorem run_inf (s : Int) (hp : Hp) : run cxX 130 [.sc (.int .i64 s)] hp = some (fl (if 0 ≤ s then 9218868437227405312 else 18442240474082181120), hp) := by
 rw [E130]
 by_cases h : 0 ≤ s <;> simp [h, B130_5_eq, x_from]
theorem run_cs0_mhalf (hp : Hp) : run cxX 174 [fl 0, fl 13826050856027422720] hp = some (fl 9223372036854775808, hp) := (E174 _ _ _).trans (by kernel_rfl)
theorem run_cs0_half (hp : Hp) : run cxX 174 [fl 0, fl 4602678819172646912] hp = some (fl 0, hp) := (E174 _ _ _).trans (by kernel_rfl)
theorem fsub0 (x y : Operand) : binV Tryz.prog .sub 50 x y (.float .f64 (FloatKind.f64.nearest 0)) (.float .f64 4602678819172646912) = some (.float .f64 13826050856027422720) := by kernel_rfl
theorem fsub1 (x y : Operand) : binV Tryz.prog .sub 50 x y (.float .f64 (FloatKind.f64.nearest 1)) (.float .f64 4602678819172646912) = some (.float .f64 4602678819172646912) := by kernel_rfl
theorem run_float (n e : Int) (hn : 0 ≤ n ∧ n < 18446744073709551616) (he : 0 ≤ e ∧ e < 256) : ∃ w, w < 18446744073709551616 ∧ ∀ hp, run cxX 133 [.sc (.int .u64 n), .sc (.int .u8 e)] hp = some (fl w, hp) := by
 have m8 : ∀ x y, binV Tryz.prog .rem 5 x y (.int .u8 e) (.int .u8 8) = some (.int .u8 (e % 8)) := by
  intro x y; rw [qI _ _ _ _ _ _ _ (by omega), qG he.1]
 have m2 : ∀ x y, binV Tryz.prog .rem 76 x y (.int .u64 n) (.int .u64 2) = some (.int .u64 (n % 2)) := by
  intro x y; rw [qI _ _ _ _ _ _ _ (by omega), qG hn.1]
 have m3 : ∀ x y, binV Tryz.prog .rem 76 x y (.int .u64 n) (.int .u64 2001) = some (.int .u64 (n % 2001)) := by
  intro x y; rw [qI _ _ _ _ _ _ _ (by omega), qG hn.1]
 have w2 : IntKind.i64.wrap (n % 2) = n % 2 := qg (by omega) (by omega)
 have w3 : IntKind.i64.wrap (n % 2001) = n % 2001 := qg (by omega) (by omega)
 have w4 : IntKind.i64.wrap (n % 2001 - 1000) = n % 2001 - 1000 := qg (by omega) (by omega)
 have w5 : IntKind.i64.wrap (2 * (n % 2)) = 2 * (n % 2) := qg (by omega) (by omega)
 have w5' : IntKind.i64.wrap (n % 2 * 2) = n % 2 * 2 := qg (by omega) (by omega)
 have w6 : IntKind.i64.wrap (n % 2 * 2 - 1) = n % 2 * 2 - 1 := qg (by omega) (by omega)
 have b10 : ∀ hp, B133_10 (.int .u64 n) hp = some (fl (FloatKind.f64.nearest (n % 2001 - 1000)), hp) := by
  intro hp
  rw [B133_10_eq]
  simp [m3, cv_76_2, w3, w4, cv_2_50]
 have b11 : ∀ hp, B133_11 (.int .u64 n) hp = some (fl n.toNat, hp) := by
  intro hp
  rw [B133_11_eq]
  simp [x_from]
 by_cases h0 : e % 8 = 0
 ·refine ⟨9221120237041090561, by decide, fun hp => ?_⟩
  rw [E133]
  simp [m8, h0, run_nan]
 ·by_cases h1 : e % 8 = 1
  ·refine ⟨if 0 ≤ n % 2 * 2 - 1 then 9218868437227405312 else 18442240474082181120, by split <;> decide, fun hp => ?_⟩
   rw [E133]
   simp [m8, h1, m2, cv_76_3, w2, w5', w6, run_inf]
  ·by_cases h2 : e % 8 = 2
   ·rcases Int.emod_two_eq n with q | q
    ·refine ⟨9223372036854775808, by decide, fun hp => ?_⟩
     rw [E133]
     simp [m8, h2, m2, q, cv_76_50, fsub0, run_cs0_mhalf]
    ·refine ⟨0, by decide, fun hp => ?_⟩
     rw [E133]
     simp [m8, h2, m2, q, cv_76_50, fsub1, run_cs0_half]
   ·by_cases h3 : e % 8 = 3
    ·refine ⟨_, nearest_lt (n % 2001 - 1000), fun hp => ?_⟩
     rw [E133]
     simp [m8, h3, b10]
    ·by_cases h4 : e % 8 = 4
     ·refine ⟨_, nearest_lt (n % 2001 - 1000), fun hp => ?_⟩
      rw [E133]
      simp [m8, h4, b10]
     ·refine ⟨n.toNat, by omega, fun hp => ?_⟩
      rw [E133]
      simp [m8, h0, h1, h2, h3, h4, b11]
theorem isN_nw {w : Nat} (h : w < 18446744073709551616) : isN (nw w) ↔ isN w := by
 unfold isN nw
 split <;> omega
theorem kw_num_lt {w : Nat} (h : w < 18446744073709551616) (hn : ¬isN w) : kw w < 18444492273895866369 := by
 unfold kw
 rw [if_neg hn]
 unfold isN at hn
 split <;> omega
theorem kw_nan {w : Nat} (hn : isN w) : kw w = 18444492273895866369 := by
 unfold kw
 rw [if_pos hn]
theorem run_isinf_m (w : Nat) (h : w < 18446744073709551616) (hn : ¬isN w) (hp : Hp) : run cxX 181 [fl w, .sc (.int .i64 (-1))] hp = some (.sc (.bool (decide (w = 18442240474082181120))), hp) := by
 have e := unV_fneg Tryz.prog w h
 have c : fLess 9218868437227405311 (nw w) = decide (w = 18442240474082181120) := by
  unfold fLess
  have v1 : fval 9218868437227405311 = 9218868437227405311 := by decide
  rw [v1]
  have hn' : ¬isN (nw w) := fun e => hn ((isN_nw h).mp e)
  have hn2 := hn
  unfold isN at hn2
  apply decide_eq_decide.mpr
  constructor
  ·rintro ⟨_, _, h3⟩
   unfold fval nw at h3
   repeat' split at h3
   all_goals omega
  ·intro h3
   subst h3
   exact ⟨by decide, by decide, by decide⟩
 rw [E181]
 simp [e, B181_5_eq, c]
theorem run_isinf_p (w : Nat) (h : w < 18446744073709551616) (hn : ¬isN w) (hp : Hp) : run cxX 181 [fl w, .sc (.int .i64 1)] hp = some (.sc (.bool (decide (w = 9218868437227405312))), hp) := by
 have c : fLess 9218868437227405311 w = decide (w = 9218868437227405312) := by
  unfold fLess
  have v1 : fval 9218868437227405311 = 9218868437227405311 := by decide
  rw [v1]
  have hn2 := hn
  unfold isN at hn2
  apply decide_eq_decide.mpr
  constructor
  ·rintro ⟨_, _, h3⟩
   unfold fval at h3
   split at h3 <;> omega
  ·intro h3
   subst h3
   exact ⟨by decide, by decide, by decide⟩
 rw [E181]
 simp [B181_5_eq, c]
theorem run_signbit (w : Nat) (h : w < 18446744073709551616) (hp : Hp) : run cxX 182 [fl w] hp = some (.sc (.bool (decide (9223372036854775808 ≤ w))), hp) := by
 have c : decide (IntKind.i64.wrap (w : Int) < 0) = decide (9223372036854775808 ≤ w) := by
  apply decide_eq_decide.mpr
  rw [IntKind.wrap_i64]
  omega
 rw [E182]
 simp [x_bits, cv_76_2]
 rw [IntKind.wrap_i64]
 omega
def edge (w : Nat) : Int := if isN w then 1 else if w = 18442240474082181120 then 2 else if w = 9218868437227405312 then 3 else if w = 9223372036854775808 then 4 else if w = 0 then 5 else 0
theorem fEq_zero {w : Nat} (h : w < 18446744073709551616) (hn : ¬isN w) : fEq w 0 = decide (w = 0 ∨ w = 9223372036854775808) := by
 unfold fEq
 have v3 : fval 0 = 0 := by decide
 rw [v3]
 apply decide_eq_decide.mpr
 constructor
 ·rintro ⟨_, _, h3⟩
  unfold fval at h3
  split at h3 <;> omega
 ·intro h3
  rcases h3 with rfl | rfl
  ·exact ⟨by decide, by decide, by decide⟩
  ·exact ⟨by decide, by decide, by decide⟩
theorem run_edge (w : Nat) (h : w < 18446744073709551616) (hp : Hp) : run cxX 172 [fl w] hp = some (.sc (.int .u8 (edge w)), hp) := by
 rw [E172]
 unfold edge
 by_cases hn : isN w
 ·simp [zJ, hn]
 ·have i1 := fun hp => run_isinf_m w h hn hp
  have i2 := fun hp => run_isinf_p w h hn hp
  have z := fEq_zero h hn
  have s := fun hp => run_signbit w h hp
  have b9 : ∀ hp, B172_9 (.float .f64 w) hp = some (.sc (.int .u8 (if w = 0 ∨ w = 9223372036854775808 then 5 else 0)), hp) := by
   intro hp
   rw [B172_9_eq]
   by_cases h0 : w = 0 ∨ w = 9223372036854775808 <;> simp [z, h0]
  by_cases h1 : w = 18442240474082181120
  ·subst h1
   simp at i1
   simp [zJ, hn, i1]
  ·by_cases h2 : w = 9218868437227405312
   ·subst h2
    simp at i1 i2
    simp [zJ, hn, i1, i2]
   ·simp only [h1, h2, decide_false] at i1 i2
    by_cases h3 : w = 9223372036854775808
    ·subst h3
     simp at s z
     simp [zJ, hn, i1, i2, z, s, B172_8_eq]
    ·by_cases h4 : w = 0
     ·subst h4
      simp at s z b9
      simp [zJ, hn, i1, i2, z, s, b9]
     ·simp [h3, h4] at z b9
      simp [zJ, hn, i1, i2, z, b9, h1, h2, h3, h4]
def mk : List Nat → List Nat → List Nat
 | [], b => b
 | a, [] => a
 | x :: a, y :: b => if y < x then y :: mk (x :: a) b else x :: mk a (y :: b)
termination_by a b => a.length + b.length
@[simp] theorem mk_nil_l (b : List Nat) : mk [] b = b := by unfold mk; rfl
@[simp] theorem mk_nil_r (a : List Nat) : mk a [] = a := by cases a <;> (unfold mk; rfl)
theorem jR (x : Nat) (a : List Nat) (y : Nat) (b : List Nat) : mk (x :: a) (y :: b) = if y < x then y :: mk (x :: a) b else x :: mk a (y :: b) := by
 rw [mk]
theorem mk_ind {motive : List Nat → List Nat → Prop} (h1 : ∀ b, motive [] b) (h2 : ∀ a, motive a []) (h3 : ∀ x a y b, y < x → motive (x :: a) b → motive (x :: a) (y :: b))
  (h4 : ∀ x a y b, ¬y < x → motive a (y :: b) → motive (x :: a) (y :: b)) : ∀ a b, motive a b := by
 intro a b
 generalize hn : a.length + b.length = n
 induction n using Nat.strongRecOn generalizing a b with
 | _ n ih =>
  cases a with
  | nil => exact h1 b
  | cons x a =>
   cases b with
   | nil => exact h2 _
   | cons y b =>
    by_cases hyx : y < x
    ·exact h3 x a y b hyx (ih ((x :: a).length + b.length) (by simp at hn ⊢; omega) _ _ rfl)
    ·exact h4 x a y b hyx (ih (a.length + (y :: b).length) (by simp at hn ⊢; omega) _ _ rfl)
theorem mk_perm : ∀ a b, (mk a b).Perm (a ++ b) := by
 apply mk_ind (motive := fun a b => (mk a b).Perm (a ++ b))
 ·intro b; simp
 ·intro a; simp
 ·intro x a y b h ih
  rw [jR, if_pos h]
  exact (List.Perm.cons y ih).trans List.perm_middle.symm
 ·intro x a y b h ih
  rw [jR, if_neg h]
  exact List.Perm.cons x ih
abbrev Up (l : List Nat) : Prop := l.Pairwise (· ≤ ·)
theorem mk_up : ∀ a b, Up a → Up b → Up (mk a b) := by
 apply mk_ind (motive := fun a b => Up a → Up b → Up (mk a b))
 ·intro b _ h; simpa using h
 ·intro a h _; simpa using h
 ·intro x a y b h ih ha hb
  rw [jR, if_pos h]
  have hb' := List.pairwise_cons.mp hb
  have ha' := List.pairwise_cons.mp ha
  refine List.pairwise_cons.mpr ⟨fun n hn => ?_, ih ha hb'.2⟩
  rcases List.mem_append.mp ((mk_perm _ _).mem_iff.mp hn) with h' | h'
  ·rcases List.mem_cons.mp h' with rfl | h'
   ·omega
   ·have := ha'.1 n h'; omega
  ·exact hb'.1 n h'
 ·intro x a y b h ih ha hb
  rw [jR, if_neg h]
  have hb' := List.pairwise_cons.mp hb
  have ha' := List.pairwise_cons.mp ha
  refine List.pairwise_cons.mpr ⟨fun n hn => ?_, ih ha'.2 hb⟩
  rcases List.mem_append.mp ((mk_perm _ _).mem_iff.mp hn) with h' | h'
  ·exact ha'.1 n h'
  ·rcases List.mem_cons.mp h' with rfl | h'
   ·omega
   ·have := hb'.1 n h'; omega
theorem up_ext : ∀ {a b : List Nat}, Up a → Up b → a.Perm b → a = b
 | [], b, _, _, h => (List.Perm.nil_eq h)
 | x :: a, [], _, _, h => absurd h.length_eq (by simp)
 | x :: a, y :: b, ha, hb, h => by
  have ha' := List.pairwise_cons.mp ha
  have hb' := List.pairwise_cons.mp hb
  have hxy : x = y := by
   have h1 := List.mem_cons.mp (h.mem_iff.mp (by simp : x ∈ x :: a))
   have h2 := List.mem_cons.mp (h.mem_iff.mpr (by simp : y ∈ y :: b))
   rcases h1 with h1 | h1
   ·exact h1
   ·rcases h2 with h2 | h2
    ·exact h2.symm
    ·have := ha'.1 y h2
     have := hb'.1 x h1
     omega
  subst hxy
  rw [up_ext ha'.2 hb'.2 (List.Perm.cons_inv h)]
theorem take_mk : ∀ (A B : List Nat) (k m n : Nat), k ≤ m → k ≤ n → (mk (A.take m) (B.take n)).take k = (mk A B).take k := by
 apply mk_ind (motive := fun A B => ∀ (k m n : Nat), k ≤ m → k ≤ n → (mk (A.take m) (B.take n)).take k = (mk A B).take k)
 ·intro b k m n hm hn
  rw [List.take_nil, mk_nil_l, mk_nil_l, List.take_take, Nat.min_eq_left hn]
 ·intro a k m n hm hn
  rw [List.take_nil, mk_nil_r, mk_nil_r, List.take_take, Nat.min_eq_left hm]
 ·intro x a y b h ih k m n hm hn
  match k, m, n, hm, hn with
  | 0, _, _, _, _ => simp
  | k + 1, m + 1, n + 1, hm, hn =>
   have := ih k (m + 1) n (by omega) (by omega)
   rw [List.take_succ_cons] at this
   rw [List.take_succ_cons, List.take_succ_cons, jR, jR, if_pos h, if_pos h, List.take_succ_cons, List.take_succ_cons, this]
 ·intro x a y b h ih k m n hm hn
  match k, m, n, hm, hn with
  | 0, _, _, _, _ => simp
  | k + 1, m + 1, n + 1, hm, hn =>
   have := ih k m (n + 1) (by omega) (by omega)
   rw [List.take_succ_cons] at this
   rw [List.take_succ_cons, List.take_succ_cons, jR, jR, if_neg h, if_neg h, List.take_succ_cons, List.take_succ_cons, this]
def sk : List Nat → List Nat
 | [] => []
 | x :: l => mk [x] (sk l)
theorem sk_up : ∀ l, Up (sk l)
 | [] => List.Pairwise.nil
 | x :: l => mk_up _ _ (by simp) (sk_up l)
theorem yZ : ∀ l, (sk l).Perm l
 | [] => List.Perm.refl _
 | x :: l => (mk_perm [x] (sk l)).trans (List.Perm.cons x (yZ l))
theorem sk_append (a b : List Nat) : sk (a ++ b) = mk (sk a) (sk b) :=
 up_ext (sk_up _) (mk_up _ _ (sk_up a) (sk_up b)) ((yZ _).trans (((yZ a).symm.append (yZ b).symm).trans (mk_perm _ _).symm))
theorem sk_of_perm {a b : List Nat} (h : a.Perm b) : sk a = sk b := up_ext (sk_up _) (sk_up _) ((yZ a).trans (h.trans (yZ b).symm))
theorem sk_len (l : List Nat) : (sk l).length = l.length := (yZ l).length_eq
def gm : List Nat → List Nat → List Nat
 | [], b => b
 | a, [] => a
 | x :: a, y :: b => if kw y < kw x then y :: gm (x :: a) b else x :: gm a (y :: b)
termination_by a b => a.length + b.length
@[simp] theorem gm_nil_l (b : List Nat) : gm [] b = b := by unfold gm; rfl
@[simp] theorem gm_nil_r (a : List Nat) : gm a [] = a := by cases a <;> (unfold gm; rfl)
theorem gm_cons (x : Nat) (a : List Nat) (y : Nat) (b : List Nat) : gm (x :: a) (y :: b) = if kw y < kw x then y :: gm (x :: a) b else x :: gm a (y :: b) := by
 rw [gm]
theorem gm_keys : ∀ (n : Nat) (a b : List Nat), a.length + b.length = n → (gm a b).map kw = mk (a.map kw) (b.map kw) := by
 intro n
 induction n using Nat.strongRecOn with
 | _ n ih =>
  intro a b hn
  match a, b with
  | [], b => simp
  | x :: a, [] => simp
  | x :: a, y :: b =>
   rw [gm_cons, List.map_cons, List.map_cons, jR]
   by_cases h : kw y < kw x
   ·rw [if_pos h, if_pos h, List.map_cons, ih ((x :: a).length + b.length) (by simp at hn ⊢; omega) (x :: a) b rfl, List.map_cons]
   ·rw [if_neg h, if_neg h, List.map_cons, ih (a.length + (y :: b).length) (by simp at hn ⊢; omega) a (y :: b) rfl, List.map_cons]
theorem mem_gm (w : Nat) : ∀ (n : Nat) (a b : List Nat), a.length + b.length = n → w ∈ gm a b → w ∈ a ∨ w ∈ b := by
 intro n
 induction n using Nat.strongRecOn with
 | _ n ih =>
  intro a b hn hw
  match a, b with
  | [], b => right; simpa using hw
  | x :: a, [] => left; simpa using hw
  | x :: a, y :: b =>
   rw [gm_cons] at hw
   by_cases h : kw y < kw x
   ·rw [if_pos h] at hw
    rcases List.mem_cons.mp hw with rfl | hw
    ·right; simp
    ·rcases ih ((x :: a).length + b.length) (by simp at hn ⊢; omega) (x :: a) b rfl hw with h' | h'
     ·exact .inl h'
     ·exact .inr (List.mem_cons_of_mem _ h')
   ·rw [if_neg h] at hw
    rcases List.mem_cons.mp hw with rfl | hw
    ·left; simp
    ·rcases ih (a.length + (y :: b).length) (by simp at hn ⊢; omega) a (y :: b) rfl hw with h' | h'
     ·exact .inl (List.mem_cons_of_mem _ h')
     ·exact .inr h'
def lowK : List Nat → Nat
 | [] => 18442240474082181120
 | f :: F => if isN f then lowK F else min (kw f) (lowK F)
def yi : List Nat → Nat
 | [] => 4503599627370495
 | f :: F => if isN f then yi F else max (kw f) (yi F)
theorem lowK_le : ∀ F, lowK F ≤ 18442240474082181120
 | [] => Nat.le_refl _
 | f :: F => by
  have := lowK_le F
  unfold lowK
  split <;> omega
theorem highK_ge : ∀ F, 4503599627370495 ≤ yi F
 | [] => Nat.le_refl _
 | f :: F => by
  have := highK_ge F
  unfold yi
  split <;> omega
theorem lowK_append : ∀ a b, lowK (a ++ b) = min (lowK a) (lowK b)
 | [], b => by have := lowK_le b; simp only [List.nil_append, lowK]; omega
 | f :: a, b => by
  have := lowK_append a b
  simp only [List.cons_append, lowK]
  split <;> omega
theorem highK_append : ∀ a b, yi (a ++ b) = max (yi a) (yi b)
 | [], b => by have := highK_ge b; simp only [List.nil_append, yi]; omega
 | f :: a, b => by
  have := highK_append a b
  simp only [List.cons_append, yi]
  split <;> omega
theorem lowK_perm {a b : List Nat} (h : a.Perm b) : lowK a = lowK b := by
  induction h with
  | nil => rfl
  | cons x _ ih => unfold lowK; rw [ih]
  | swap x y l => simp only [lowK]; repeat' split
                  all_goals omega
  | trans _ _ h1 h2 => rw [h1, h2]
theorem highK_perm {a b : List Nat} (h : a.Perm b) : yi a = yi b := by
  induction h with
  | nil => rfl
  | cons x _ ih => unfold yi; rw [ih]
  | swap x y l => simp only [yi]; repeat' split
                  all_goals omega
  | trans _ _ h1 h2 => rw [h1, h2]
theorem kw_fmin (a b : Nat) : kw (fmin a b) = min (kw a) (kw b) := by unfold fmin; split <;> omega
theorem kw_fmax (a b : Nat) : kw (fmax a b) = max (kw a) (kw b) := by unfold fmax; split <;> omega
def LF (l : List Nat) : List AV := l.map fun n => .sc (.float .f64 n)
section
variable (l : List Nat)
@[simp] theorem lenF : (LF l).length = l.length := by simp [LF]
@[simp] theorem getF? (i : Nat) : (LF l)[i]? = (l[i]?).map fun n => .sc (.float .f64 n) := by simp [LF]
@[simp] theorem getF (i : Nat) (h : i < (LF l).length) : (LF l)[i] = .sc (.float .f64 (l[i]'(by simpa using h))) := by simp [LF]
@[simp] theorem dropF (i : Nat) : (LF l).drop i = LF (l.drop i) := by simp [LF]
@[simp] theorem tailF : (LF l).tail = LF l.tail := by simp [LF]
@[simp] theorem nilF : LF [] = [] := rfl
theorem appF (n : Nat) (h : l.length ≤ 1000000) : appA 8 1 (S 2 1 (LF l)) (S 1 1 [.sc (.float .f64 n)]) = some (S 2 1 (LF (l ++ [n]))) := by
 rw [appA_S 8 1 2 _ _ 1 (.inr rfl) (flat_one _) (.inr (xl (by omega) (by simp; omega)))]
 simp [LF]
end
abbrev Ga (K M e0 e1 e2 e3 e4 e5 : Int) (lo hi : Nat) (x : AV) : AV :=
 .agg [.sc (.int .i64 K), .sc (.int .u32 M), .sc (.int .u32 e0), .sc (.int .u32 e1), .sc (.int .u32 e2), .sc (.int .u32 e3), .sc (.int .u32 e4), .sc (.int .u32 e5), fl lo, fl hi, x]
def plus (a b : Int) : Int := if a + b < 4294967296 then a + b else 4294967295
theorem jC (a b : Int) (ha : 0 ≤ a ∧ a < 4294967296) (hb : 0 ≤ b ∧ b < 4294967296) (hp : Hp) : run cxX 129 [.sc (.int .u32 a), .sc (.int .u32 b)] hp = some (.sc (.int .u32 (plus a b)), hp) := by
 rw [E129]
 unfold plus
 by_cases h : a + b < 4294967296
 ·have w : IntKind.u32.wrap (a + b) = a + b := zi (by omega) h
  have h1 : decide (a + b ≥ a) = true := by simp; omega
  simp only [jV, Option.bind_some, zR, yU, qW, w, h, h1, cond_true, if_true]
 ·have w : IntKind.u32.wrap (a + b) = a + b - 4294967296 := by rw [IntKind.wrap_u32]; omega
  have h1 : ¬(a ≤ a + b - 4294967296) := by omega
  simp [w, h, h1]
def Ws (l : List Nat) : Prop := ∀ w ∈ l, w < 18446744073709551616
theorem gmerge_loop (K : Int) (q c1 c2 c3 c4 c5 c6 c7 c8 c9 : AV) (b4 b2r : List AV) (hq : b4.length = 11) (hp : Hp) : ∀ (n : Nat) (a b acc : List Nat) (k k' : Nat), a.length + b.length = n → acc.length + n ≤ 1000000 → Ws a → Ws b →
  B131_8 (S k 1 (LF a)) (S k' 1 (LF b)) (.sc (.int .i64 K) :: b2r) b4 [q, c1, c2, c3, c4, c5, c6, c7, c8, c9, S 2 1 (LF acc)] hp = some (.agg [q, c1, c2, c3, c4, c5, c6, c7, c8, c9, S 2 1 (LF (acc ++ (gm a b).take (K.toNat - acc.length)))], hp) := by
 intro n
 induction n using Nat.strongRecOn with
 | _ n ih =>
 intro a b acc k k' hn hlen ha hb
 have ap : ∀ x : Nat, appA 8 1 (S 2 1 (LF acc)) (S 1 1 [.sc (.float .f64 x)]) = some (S 2 1 (LF (acc ++ [x]))) := fun x => appF acc x (by omega)
 have fin : B131_12 b4 [q, c1, c2, c3, c4, c5, c6, c7, c8, c9, S 2 1 (LF acc)] hp = some (.agg [q, c1, c2, c3, c4, c5, c6, c7, c8, c9, S 2 1 (LF acc)], hp) := by
  rw [B131_12_eq]
  obtain ⟨d0, d1, d2, d3, d4, d5, d6, d7, d8, d9, d10, rfl⟩ : ∃ d0 d1 d2 d3 d4 d5 d6 d7 d8 d9 d10, b4 = [d0, d1, d2, d3, d4, d5, d6, d7, d8, d9, d10] := by
   match b4, hq with
   | [d0, d1, d2, d3, d4, d5, d6, d7, d8, d9, d10], _ => exact ⟨d0, d1, d2, d3, d4, d5, d6, d7, d8, d9, d10, rfl⟩
  simp [getN, putN]
 rw [B131_8_eq]
 by_cases hK : (acc.length : Int) < K
 ·have hs : K.toNat - acc.length = (K.toNat - (acc.length + 1)) + 1 := by omega
  have goA : ∀ (x : Nat) (r : List Nat), r.length + 1 + b.length ≤ n → Ws r → B131_10 (S k 1 (LF (x :: r))) (S k' 1 (LF b)) (.sc (.int .i64 K) :: b2r) b4 [q, c1, c2, c3, c4, c5, c6, c7, c8, c9, S 2 1 (LF acc)] hp = some (.agg [q, c1, c2, c3, c4, c5, c6, c7, c8, c9, S 2 1 (LF (acc ++ (x :: gm r b).take (K.toNat - acc.length)))], hp) := by
   intro x r hle hr
   rw [B131_10_eq]
   have e := yM (rk k) (LF (x :: r)) .i64 1 (by omega) (by simp only [lenF, List.length_cons]; omega)
   have i := fun k => ih (r.length + b.length) (by omega) r b (acc ++ [x]) k k' rfl (by simp only [List.length_append, List.length_cons, List.length_nil]; omega) hr hb
   simp at i
   rw [hs, List.take_succ_cons]
   simp [getC, qc, ap, e, putN, i]
  have goB : ∀ (y : Nat) (r : List Nat), a.length + (r.length + 1) ≤ n → Ws r → B131_11 (S k 1 (LF a)) (S k' 1 (LF (y :: r))) (.sc (.int .i64 K) :: b2r) b4 [q, c1, c2, c3, c4, c5, c6, c7, c8, c9, S 2 1 (LF acc)] hp = some (.agg [q, c1, c2, c3, c4, c5, c6, c7, c8, c9, S 2 1 (LF (acc ++ (y :: gm a r).take (K.toNat - acc.length)))], hp) := by
   intro x r hle hr
   rw [B131_11_eq]
   have e := yM (rk k') (LF (x :: r)) .i64 1 (by omega) (by simp only [lenF, List.length_cons]; omega)
   have i := fun k' => ih (a.length + r.length) (by omega) a r (acc ++ [x]) k k' rfl (by simp only [List.length_append, List.length_cons, List.length_nil]; omega) ha hr
   simp at i
   rw [hs, List.take_succ_cons]
   simp [getC, qc, ap, e, putN, i]
  match a, b with
  | [], [] => simp [getC, qc, hK, fin]
  | [], y :: s =>
   have h := goB y s (by simp at hn ⊢; omega) (fun w hw => hb w (by simp [hw]))
   simp at h
   have hw' : IntKind.i64.wrap ((s.length : Int) + 1) = (s.length : Int) + 1 := qg (by omega) (by simp at hn; omega)
   have p : (0 : Int) < (s.length : Int) + 1 := by omega
   have z : ¬((s.length : Int) + 1 = 0) := by omega
   simp [getC, qc, hK, hw', p, z, B131_9_eq, h]
  | x :: r, [] =>
   have h := goA x r (by simp at hn ⊢; omega) (fun w hw => ha w (by simp [hw]))
   simp at h
   have hw' : IntKind.i64.wrap ((r.length : Int) + 1) = (r.length : Int) + 1 := qg (by omega) (by simp at hn; omega)
   have p : (0 : Int) < (r.length : Int) + 1 := by omega
   simp [getC, qc, hK, hw', p, B131_9_eq, h]
  | x :: r, y :: s =>
   have h1 := goA x r (by simp at hn ⊢; omega) (fun w hw => ha w (by simp [hw]))
   have h2 := goB y s (by simp at hn ⊢; omega) (fun w hw => hb w (by simp [hw]))
   have hw' : IntKind.i64.wrap ((r.length : Int) + 1 + ((s.length : Int) + 1)) = (r.length : Int) + 1 + ((s.length : Int) + 1) := qg (by omega) (by simp at hn; omega)
   have p : (0 : Int) < (r.length : Int) + 1 + ((s.length : Int) + 1) := by omega
   have p' : (0 : Int) < (r.length : Int) + 1 := by omega
   have z : ¬((s.length : Int) + 1 = 0) := by omega
   have l := fun hp => run_less y x (hb y (by simp)) (ha x (by simp)) hp
   rw [gm_cons]
   by_cases hyx : kw y < kw x
   ·simp only [hyx, decide_true] at l
    simp [getC, qc, hK, hw', p, p', z, hyx, l, h2, B131_9_eq]
   ·simp only [hyx, decide_false] at l
    simp [getC, qc, hK, hw', p, p', z, hyx, l, h1, B131_9_eq]
 ·have hs : K.toNat - acc.length = 0 := by omega
  simp [getC, qc, hK, fin, hs]
theorem idx6_0 : idx 6 (.int .i64 0) = some 0 := by kernel_rfl
theorem idx6_1 : idx 6 (.int .i64 1) = some 1 := by kernel_rfl
theorem idx6_2 : idx 6 (.int .i64 2) = some 2 := by kernel_rfl
theorem idx6_3 : idx 6 (.int .i64 3) = some 3 := by kernel_rfl
theorem idx6_4 : idx 6 (.int .i64 4) = some 4 := by kernel_rfl
theorem idx6_5 : idx 6 (.int .i64 5) = some 5 := by kernel_rfl
def qJ (n : Int) : Prop := 0 ≤ n ∧ n < 4294967296
theorem run_gmerge (K K' M M' e0 e1 e2 e3 e4 e5 f0 f1 f2 f3 f4 f5 : Int) (lo hi lo' hi' : Nat) (a b : List Nat) (k k' : Nat) (hM : qJ M ∧ qJ M') (h0 : qJ e0 ∧ qJ f0) (h1 : qJ e1 ∧ qJ f1) (h2 : qJ e2 ∧ qJ f2) (h3 : qJ e3 ∧ qJ f3)
  (h4 : qJ e4 ∧ qJ f4) (h5 : qJ e5 ∧ qJ f5) (hlo : lo < 18446744073709551616 ∧ lo' < 18446744073709551616) (hhi : hi < 18446744073709551616 ∧ hi' < 18446744073709551616) (ha : Ws a) (hb : Ws b) (hlen : a.length + b.length ≤ 1000000) (hp : Hp) :
  run cxX 131 [Ga K M e0 e1 e2 e3 e4 e5 lo hi (S k 1 (LF a)), Ga K' M' f0 f1 f2 f3 f4 f5 lo' hi' (S k' 1 (LF b))] hp =
   some (Ga K (plus M M') (plus e0 f0) (plus e1 f1) (plus e2 f2) (plus e3 f3) (plus e4 f4) (plus e5 f5) (fmin lo lo') (fmax hi hi') (S 2 1 (LF ((gm a b).take K.toNat))), hp) := by
 have pM := fun hp => jC M M' hM.1 hM.2 hp
 have p0 := fun hp => jC e0 f0 h0.1 h0.2 hp
 have p1 := fun hp => jC e1 f1 h1.1 h1.2 hp
 have p2 := fun hp => jC e2 f2 h2.1 h2.2 hp
 have p3 := fun hp => jC e3 f3 h3.1 h3.2 hp
 have p4 := fun hp => jC e4 f4 h4.1 h4.2 hp
 have p5 := fun hp => jC e5 f5 h5.1 h5.2 hp
 have mn := fun hp => run_fmin lo lo' hlo.1 hlo.2 hp
 have mx := fun hp => run_fmax hi hi' hhi.1 hhi.2 hp
 have w2 : IntKind.i64.wrap 2 = 2 := rfl
 have w3 : IntKind.i64.wrap 3 = 3 := rfl
 have w4 : IntKind.i64.wrap 4 = 4 := rfl
 have w5 : IntKind.i64.wrap 5 = 5 := rfl
 have w6 : IntKind.i64.wrap 6 = 6 := rfl
 have g := fun (c1 c2 c3 c4 c5 c6 c7 c8 c9 : AV) (b4 b2r : List AV) (hq : b4.length = 11) => gmerge_loop K (.sc (.int .i64 K)) c1 c2 c3 c4 c5 c6 c7 c8 c9 b4 b2r hq hp (a.length + b.length) a b [] (rk k) (rk k') rfl (by simpa using hlen) ha hb
 simp at g
 rw [E131]
 simp [qc, pM, mn, mx]
 rw [jy]
 simp [qc, idx6_0, p0, putN]
 rw [jy]
 simp [qc, idx6_1, p1, putN]
 rw [jy]
 simp [qc, idx6_2, p2, putN, w2]
 rw [jy]
 simp [qc, idx6_3, p3, putN, w3]
 rw [jy]
 simp [qc, idx6_4, p4, putN, w4]
 rw [jy]
 simp [qc, idx6_5, p5, putN, w5]
 rw [jy]
 simp [getC, w6]
 exact g _ _ _ _ _ _ _ _ _ _ _ rfl
structure Gs where
 M : Int
 e0 : Int
 e1 : Int
 e2 : Int
 e3 : Int
 e4 : Int
 e5 : Int
 lo : Nat
 hi : Nat
 L : List Nat
abbrev Gs.av (g : Gs) (K : Int) (k : Nat) : AV := Ga K g.M g.e0 g.e1 g.e2 g.e3 g.e4 g.e5 g.lo g.hi (S k 1 (LF g.L))
def gmg (K : Int) (g o : Gs) : Gs := ⟨plus g.M o.M, plus g.e0 o.e0, plus g.e1 o.e1, plus g.e2 o.e2, plus g.e3 o.e3, plus g.e4 o.e4, plus g.e5 o.e5, fmin g.lo o.lo, fmax g.hi o.hi, (gm g.L o.L).take K.toNat⟩
def gone (w : Nat) : Gs := ⟨1, if edge w = 0 then 1 else 0, if edge w = 1 then 1 else 0, if edge w = 2 then 1 else 0, if edge w = 3 then 1 else 0, if edge w = 4 then 1 else 0, if edge w = 5 then 1 else 0,
 if isN w then 9218868437227405312 else w, if isN w then 18442240474082181120 else w, [wk (kw w)]⟩
def gnew : Gs := ⟨0, 0, 0, 0, 0, 0, 0, 9218868437227405312, 18442240474082181120, []⟩
def cnt (i : Int) : List Nat → Nat
 | [] => 0
 | f :: F => (if edge f = i then 1 else 0) + cnt i F
theorem jb (i : Int) : ∀ a b, cnt i (a ++ b) = cnt i a + cnt i b
 | [], b => by simp [cnt]
 | f :: a, b => by simp only [List.cons_append, cnt, jb i a b]; omega
theorem zG (i : Int) : ∀ a, cnt i a ≤ a.length
 | [] => Nat.le_refl _
 | f :: a => by have := zG i a; simp only [cnt, List.length_cons]; split <;> omega
theorem yS (i : Int) {a b : List Nat} (h : a.Perm b) : cnt i a = cnt i b := by
 induction h with
 | nil => rfl
 | cons x _ ih => simp only [cnt, ih]
 | swap x y l => simp only [cnt]; omega
 | trans _ _ h1 h2 => rw [h1, h2]
theorem edge_in (w : Nat) : 0 ≤ edge w ∧ edge w ≤ 5 := by
 unfold edge
 repeat' split
 all_goals omega
structure GR (K : Int) (F : List Nat) (g : Gs) : Prop where
 M : g.M = F.length
 e0 : g.e0 = cnt 0 F
 e1 : g.e1 = cnt 1 F
 e2 : g.e2 = cnt 2 F
 e3 : g.e3 = cnt 3 F
 e4 : g.e4 = cnt 4 F
 e5 : g.e5 = cnt 5 F
 lo : g.lo < 18446744073709551616
 hi : g.hi < 18446744073709551616
 klo : kw g.lo = lowK F
 khi : kw g.hi = yi F
 ws : Ws g.L
 keys : g.L.map kw = (sk (F.map kw)).take K.toNat
theorem GR.len {K : Int} {F : List Nat} {g : Gs} (h : GR K F g) : g.L.length = min K.toNat F.length := by
 have := congrArg List.length h.keys
 rw [List.length_map, List.length_take, sk_len, List.length_map] at this
 exact this
theorem ye {a b : Nat} (h : a + b < 4294967296) : plus (a : Int) (b : Int) = ((a + b : Nat) : Int) := by
 unfold plus
 rw [if_pos (by omega)]
 omega
theorem GR.merge {K : Int} {F H : List Nat} {g o : Gs} (hg : GR K F g) (ho : GR K H o) (hl : F.length + H.length ≤ 1000) : GR K (F ++ H) (gmg K g o) where
 M := by simp only [gmg]; rw [hg.M, ho.M, ye (by omega), List.length_append]
 e0 := by have := zG 0 F; have := zG 0 H; simp only [gmg]; rw [hg.e0, ho.e0, ye (by omega), jb]
 e1 := by have := zG 1 F; have := zG 1 H; simp only [gmg]; rw [hg.e1, ho.e1, ye (by omega), jb]
 e2 := by have := zG 2 F; have := zG 2 H; simp only [gmg]; rw [hg.e2, ho.e2, ye (by omega), jb]
 e3 := by have := zG 3 F; have := zG 3 H; simp only [gmg]; rw [hg.e3, ho.e3, ye (by omega), jb]
 e4 := by have := zG 4 F; have := zG 4 H; simp only [gmg]; rw [hg.e4, ho.e4, ye (by omega), jb]
 e5 := by have := zG 5 F; have := zG 5 H; simp only [gmg]; rw [hg.e5, ho.e5, ye (by omega), jb]
 lo := fmin_lt hg.lo ho.lo
 hi := fmax_lt hg.hi ho.hi
 klo := by simp only [gmg]; rw [kw_fmin, hg.klo, ho.klo, lowK_append]
 khi := by simp only [gmg]; rw [kw_fmax, hg.khi, ho.khi, highK_append]
 ws := fun w hw => (mem_gm w _ _ _ rfl (List.mem_of_mem_take hw)).elim (hg.ws w) (ho.ws w)
 keys := by
  simp only [gmg]
  rw [List.map_take, gm_keys _ _ _ rfl, hg.keys, ho.keys, take_mk _ _ _ _ _ (Nat.le_refl _) (Nat.le_refl _), List.map_append, sk_append]
theorem gnew_ok (K : Int) : GR K [] gnew := ⟨rfl, rfl, rfl, rfl, rfl, rfl, rfl, by decide, by decide, by decide, by decide, by simp [gnew, Ws], by simp [gnew, sk]⟩
theorem gone_ok {K : Int} (hK : 1 ≤ K) {w : Nat} (hw : w < 18446744073709551616) : GR K [w] (gone w) where
 M := rfl
 e0 := by simp only [gone, cnt]; split <;> rfl
 e1 := by simp only [gone, cnt]; split <;> rfl
 e2 := by simp only [gone, cnt]; split <;> rfl
 e3 := by simp only [gone, cnt]; split <;> rfl
 e4 := by simp only [gone, cnt]; split <;> rfl
 e5 := by simp only [gone, cnt]; split <;> rfl
 lo := by simp only [gone]; split <;> omega
 hi := by simp only [gone]; split <;> omega
 klo := by
  simp only [gone, lowK]
  have h0 : kw 9218868437227405312 = 18442240474082181120 := by decide
  by_cases hn : isN w
  ·rw [if_pos hn, if_pos hn, h0]
  ·rw [if_neg hn, if_neg hn]
   have hn2 := hn
   unfold isN at hn2
   unfold kw
   rw [if_neg hn]
   split <;> omega
 khi := by
  simp only [gone, yi]
  have h0 : kw 18442240474082181120 = 4503599627370495 := by decide
  by_cases hn : isN w
  ·rw [if_pos hn, if_pos hn, h0]
  ·rw [if_neg hn, if_neg hn]
   have hn2 := hn
   unfold isN at hn2
   unfold kw
   rw [if_neg hn]
   split <;> omega
 ws := by simp only [gone, Ws, List.mem_singleton]; rintro x rfl; exact wk_lt _ (kw_lt w hw)
 keys := by
  have hk : K.toNat = (K.toNat - 1) + 1 := by omega
  simp only [gone, List.map_cons, List.map_nil, sk, mk_nil_r]
  rw [kw_wk_kw w hw, hk, List.take_succ_cons, List.take_nil]
theorem GR.in32 {K : Int} {F : List Nat} {g : Gs} (h : GR K F g) (hl : F.length ≤ 1000) : qJ g.M ∧ qJ g.e0 ∧ qJ g.e1 ∧ qJ g.e2 ∧ qJ g.e3 ∧ qJ g.e4 ∧ qJ g.e5 := by
 have a0 := zG 0 F
 have a1 := zG 1 F
 have a2 := zG 2 F
 have a3 := zG 3 F
 have a4 := zG 4 F
 have a5 := zG 5 F
 rw [h.M, h.e0, h.e1, h.e2, h.e3, h.e4, h.e5]
 unfold qJ
 refine ⟨?_, ?_, ?_, ?_, ?_, ?_, ?_⟩ <;> omega
theorem run_gm (K K' : Int) {F H : List Nat} {g o : Gs} (k k' : Nat) (hg : GR K F g) (ho : GR K' H o) (hl : F.length + H.length ≤ 1000) (hp : Hp) :
  run cxX 131 [g.av K k, o.av K' k'] hp = some ((gmg K g o).av K 2, hp) := by
 obtain ⟨m, x0, x1, x2, x3, x4, x5⟩ := hg.in32 (by omega)
 obtain ⟨m', y0, y1, y2, y3, y4, y5⟩ := ho.in32 (by omega)
 have l1 := hg.len
 have l2 := ho.len
 exact run_gmerge K K' g.M o.M g.e0 g.e1 g.e2 g.e3 g.e4 g.e5 o.e0 o.e1 o.e2 o.e3 o.e4 o.e5 g.lo g.hi o.lo o.hi g.L o.L k k' ⟨m, m'⟩ ⟨x0, y0⟩ ⟨x1, y1⟩ ⟨x2, y2⟩ ⟨x3, y3⟩ ⟨x4, y4⟩ ⟨x5, y5⟩ ⟨hg.lo, ho.lo⟩ ⟨hg.hi, ho.hi⟩ hg.ws ho.ws (by omega) hp
theorem run_one (K : Int) (w : Nat) (hw : w < 18446744073709551616) (hp : Hp) : run cxX 132 [.sc (.int .i64 K), fl w] hp = some ((gone w).av K 1, hp) := by
 have i1 := fun hp => run_inf 1 hp
 have i2 := fun hp => run_inf (-1) hp
 have ed := fun hp => run_edge w hw hp
 have k := fun hp => jP w hw hp
 have o := fun hp => run_of (kw w) (kw_lt w hw) hp
 simp at i1 i2
 have b5 : ∀ (x0 x1 x2 x3 x4 x5 x6 x7 x8 x9 x10 : AV) (q0 q1 q2 q3 q4 q5 q6 q7 q8 q9 q10 : AV) (hp : Hp), B132_5 (.float .f64 w) [q0, q1, q2, q3, q4, q5, q6, q7, q8, q9, q10] [x0, x1, x2, x3, x4, x5, x6, x7, x8, x9, x10] hp = some (.agg [x0, x1, x2, x3, x4, x5, x6, x7, x8, x9, S 1 1 [fl (wk (kw w))]], hp) := by
  intros
  rw [B132_5_eq]
  simp [k, o, putN, getN]
 rw [E132]
 have he := edge_in w
 have hc : edge w = 0 ∨ edge w = 1 ∨ edge w = 2 ∨ edge w = 3 ∨ edge w = 4 ∨ edge w = 5 := by omega
 have u0 : idx 6 (.int .u8 0) = some 0 := by kernel_rfl
 have u1 : idx 6 (.int .u8 1) = some 1 := by kernel_rfl
 have u2 : idx 6 (.int .u8 2) = some 2 := by kernel_rfl
 have u3 : idx 6 (.int .u8 3) = some 3 := by kernel_rfl
 have u4 : idx 6 (.int .u8 4) = some 4 := by kernel_rfl
 have u5 : idx 6 (.int .u8 5) = some 5 := by kernel_rfl
 unfold gone
 by_cases hn : isN w
 ·rcases hc with e | e | e | e | e | e <;> rw [e] at ed <;> simp [i1, i2, ed, u0, u1, u2, u3, u4, u5, putN, zJ, hn, b5, e, LF]
 ·rcases hc with e | e | e | e | e | e <;> rw [e] at ed <;> simp [i1, i2, ed, u0, u1, u2, u3, u4, u5, putN, zJ, hn, b5, e, LF]
theorem run_gnew (K : Int) (hK : 1 ≤ K ∧ K ≤ 16) (hp : Hp) : run cxX 77 [.sc (.int .i64 K)] hp = some (.tup [gnew.av K 2, .sc (.bool true)], hp) := by
 have i1 := fun hp => run_inf 1 hp
 have i2 := fun hp => run_inf (-1) hp
 simp at i1 i2
 have h1 : ¬(K < 1) := by omega
 have h2 : ¬(16 < K) := by omega
 rw [E77]
 simp [h1, h2]
 rw [B77_3_eq]
 simp [i1, i2, putN, getN, gnew]
theorem run_gadd (K : Int) {F : List Nat} {g : Gs} (k w : Nat) (hK : 1 ≤ K) (hg : GR K F g) (hl : F.length + 1 ≤ 1000) (hw : w < 18446744073709551616) (hp : Hp) :
  run cxX 78 [g.av K k, fl w] hp = some ((gmg K g (gone w)).av K 2, hp) := by
 have o := fun hp => run_one K w hw hp
 have m := fun k k' hp => run_gm K K k k' hg (gone_ok hK hw) (by simpa using hl) hp
 rw [E78]
 simp [getN, qc, o, m, putN]
theorem eqInt (d : Nat) (a b : Int) : qD Tryz.prog (Op.equalIn (d + 1) 30 (.int .u32 a) (.int .u32 b)) = some (a == b) := by
 unfold Op.equalIn
 rw [qy]
 have : qD Tryz.prog (underlying 30) = some (.int .u32) := by kernel_rfl
 rw [this]
 rfl
theorem eqArr (e0 e1 e2 e3 e4 e5 f0 f1 f2 f3 f4 f5 : Int) : qD Tryz.prog (Op.equal 49 (.agg #[.int .u32 e0, .int .u32 e1, .int .u32 e2, .int .u32 e3, .int .u32 e4, .int .u32 e5]) (.agg #[.int .u32 f0, .int .u32 f1, .int .u32 f2, .int .u32 f3, .int .u32 f4, .int .u32 f5])) =
  some (decide (e0 = f0 ∧ e1 = f1 ∧ e2 = f2 ∧ e3 = f3 ∧ e4 = f4 ∧ e5 = f5)) := by
 unfold Op.equal Op.maxDepth
 unfold Op.equalIn
 rw [qy]
 have : qD Tryz.prog (underlying 49) = some (.array 6 30) := by kernel_rfl
 rw [this]
 simp only [Option.bind_some]
 rw [qy]
 have hs : qD Tryz.prog (sizeOf 30) = some 1 := by kernel_rfl
 rw [hs]
 simp only [Option.bind_some]
 have hp : ∀ (x0 x1 x2 x3 x4 x5 : Value), qD Tryz.prog (part 30 #[x0, x1, x2, x3, x4, x5] 0) = some x0 ∧ qD Tryz.prog (part 30 #[x0, x1, x2, x3, x4, x5] 1) = some x1 ∧ qD Tryz.prog (part 30 #[x0, x1, x2, x3, x4, x5] 2) = some x2 ∧
   qD Tryz.prog (part 30 #[x0, x1, x2, x3, x4, x5] 3) = some x3 ∧ qD Tryz.prog (part 30 #[x0, x1, x2, x3, x4, x5] 4) = some x4 ∧ qD Tryz.prog (part 30 #[x0, x1, x2, x3, x4, x5] 5) = some x5 := by
  intro x0 x1 x2 x3 x4 x5
  refine ⟨?_, ?_, ?_, ?_, ?_, ?_⟩ <;> kernel_rfl
 have he := eqInt 9998
 obtain ⟨a0, a1, a2, a3, a4, a5⟩ := hp (.int .u32 e0) (.int .u32 e1) (.int .u32 e2) (.int .u32 e3) (.int .u32 e4) (.int .u32 e5)
 obtain ⟨b0, b1, b2, b3, b4, b5⟩ := hp (.int .u32 f0) (.int .u32 f1) (.int .u32 f2) (.int .u32 f3) (.int .u32 f4) (.int .u32 f5)
 rw [Std.Legacy.Range.forIn_eq_forIn_range']
 simp [Std.Legacy.Range.size, List.range'_succ, qy, a0, b0, he]
 by_cases h0 : e0 = f0
 ·subst h0
  simp [qy, a1, b1, he]
  by_cases h1 : e1 = f1
  ·subst h1
   simp [qy, a2, b2, he]
   by_cases h2 : e2 = f2
   ·subst h2
    simp [qy, a3, b3, he]
    by_cases h3 : e3 = f3
    ·subst h3
     simp [qy, a4, b4, he]
     by_cases h4 : e4 = f4
     ·subst h4
      simp [qy, a5, b5, he]
      by_cases h5 : e5 = f5
      ·subst h5
       simp [qy]
      ·simp [h5, qy]
     ·simp [h4, qy]
    ·simp [h3, qy]
   ·simp [h2, qy]
  ·simp [h1, qy]
 ·simp [h0, qy]
theorem neq44 (x y : Operand) (e0 e1 e2 e3 e4 e5 f0 f1 f2 f3 f4 f5 : Int) : binV Tryz.prog .neq 49 x y (.agg #[.int .u32 e0, .int .u32 e1, .int .u32 e2, .int .u32 e3, .int .u32 e4, .int .u32 e5]) (.agg #[.int .u32 f0, .int .u32 f1, .int .u32 f2, .int .u32 f3, .int .u32 f4, .int .u32 f5]) =
  some (.bool (!decide (e0 = f0 ∧ e1 = f1 ∧ e2 = f2 ∧ e3 = f3 ∧ e4 = f4 ∧ e5 = f5))) := by
 unfold binV
 rw [qy]
 have hg : qD Tryz.prog (eqGuard .neq 49 x y (.agg #[.int .u32 e0, .int .u32 e1, .int .u32 e2, .int .u32 e3, .int .u32 e4, .int .u32 e5]) (.agg #[.int .u32 f0, .int .u32 f1, .int .u32 f2, .int .u32 f3, .int .u32 f4, .int .u32 f5])) = some () := by kernel_rfl
 rw [hg]
 simp only [Option.bind_some, Go.binOp]
 rw [qy, eqArr]
 rfl
theorem gsame_loop (r0 r1 r2 r3 r4 r5 r6 r7 r8 r9 s0 s1 s2 s3 s4 s5 s6 s7 s8 s9 : AV) (a b : List Nat) (k k' : Nat) (hab : a.length = b.length) (hl : a.length ≤ 1000000) (ha : Ws a) (hb : Ws b) (hp : Hp) : ∀ (r s : List Nat) (i : Nat), a.drop i = r → b.drop i = s →
  B121_4 (.int .i64 a.length) (.int .i64 i) [r0, r1, r2, r3, r4, r5, r6, r7, r8, r9, S k 1 (LF a)] [s0, s1, s2, s3, s4, s5, s6, s7, s8, s9, S k' 1 (LF b)] hp = some (.sc (.bool (decide (r.map kw = s.map kw))), hp) := by
 intro r
 induction r with
 | nil =>
  intro s i hr hs
  have h1 := qw hr
  have h2 : s = [] := by rw [← hs]; exact List.drop_eq_nil_of_le (by omega)
  have hlt : ¬((i : Int) < (a.length : Int)) := by omega
  rw [B121_4_eq]
  simp [hlt, h2]
 | cons x r ih =>
  intro s i hr hs
  obtain ⟨e1, e2, hi, e3⟩ := qr hr
  rw [B121_4_eq]
  have hw : IntKind.i64.wrap ((i : Int) + 1) = ((i + 1 : Nat) : Int) := by rw [qg] <;> omega
  cases s with
  | nil => have := qw hs; omega
  | cons y s =>
   obtain ⟨f1, f2, hj, f3⟩ := qr hs
   have h := ih s (i + 1) e2 f2
   have q := fun hp => yP x y (ha x (List.mem_of_getElem? e1)) (hb y (List.mem_of_getElem? f1)) hp
   simp at h hw
   by_cases e : kw x = kw y
   ·simp only [e, decide_true] at q
    simp [hi, hj, getC, qc, e3, f3, e, hw, h, q]
   ·simp only [e, decide_false] at q
    simp [hi, hj, getC, qc, e3, f3, e, q]
def GSame (K K' : Int) (g o : Gs) : Prop := K = K' ∧ g.M = o.M ∧ (g.e0 = o.e0 ∧ g.e1 = o.e1 ∧ g.e2 = o.e2 ∧ g.e3 = o.e3 ∧ g.e4 = o.e4 ∧ g.e5 = o.e5) ∧ kw g.lo = kw o.lo ∧ kw g.hi = kw o.hi ∧ g.L.map kw = o.L.map kw
theorem run_gsame (K K' : Int) (g o : Gs) (k k' : Nat) (hs : GSame K K' g o) (h1 : g.lo < 18446744073709551616 ∧ o.lo < 18446744073709551616) (h2 : g.hi < 18446744073709551616 ∧ o.hi < 18446744073709551616) (h3 : Ws g.L ∧ Ws o.L) (hl : g.L.length ≤ 1000000) (hp : Hp) :
  run cxX 121 [g.av K k, o.av K' k'] hp = some (.sc (.bool true), hp) := by
 obtain ⟨q1, q2, q3, q4, q5, q6⟩ := hs
 have len : g.L.length = o.L.length := by simpa using congrArg List.length q6
 have l := gsame_loop (.sc (.int .i64 K)) (.sc (.int .u32 g.M)) (.sc (.int .u32 g.e0)) (.sc (.int .u32 g.e1)) (.sc (.int .u32 g.e2)) (.sc (.int .u32 g.e3)) (.sc (.int .u32 g.e4)) (.sc (.int .u32 g.e5)) (fl g.lo) (fl g.hi)
  (.sc (.int .i64 K')) (.sc (.int .u32 o.M)) (.sc (.int .u32 o.e0)) (.sc (.int .u32 o.e1)) (.sc (.int .u32 o.e2)) (.sc (.int .u32 o.e3)) (.sc (.int .u32 o.e4)) (.sc (.int .u32 o.e5)) (fl o.lo) (fl o.hi) g.L o.L (rk k) (rk k') len hl h3.1 h3.2 hp g.L o.L 0 rfl rfl
 have r1 := fun hp => yP g.lo o.lo h1.1 h1.2 hp
 have r2 := fun hp => yP g.hi o.hi h2.1 h2.2 hp
 have a := neq44 (.tmp 20) (.tmp 22) g.e0 g.e1 g.e2 g.e3 g.e4 g.e5 o.e0 o.e1 o.e2 o.e3 o.e4 o.e5
 simp only [eq_true q3, eq_true q4, eq_true q5, eq_true q6, decide_true, Bool.not_true] at a r1 r2 l
 subst q1
 rw [E121]
 simp at l
 rw [len] at l
 rw [q2] at l
 simp [qc, getC, getN, jg, yK, q2, a, r1, r2, len, B121_3_eq]
 exact l
open Classical in
noncomputable def wd (p : Int × Int) : Nat := if h : ∃ w, w < 18446744073709551616 ∧ ∀ hp, run cxX 133 [.sc (.int .u64 p.1), .sc (.int .u8 p.2)] hp = some (fl w, hp) then h.choose else 0
def InI (p : Int × Int) : Prop := (0 ≤ p.1 ∧ p.1 < 18446744073709551616) ∧ (0 ≤ p.2 ∧ p.2 < 256)
theorem wd_ok {p : Int × Int} (h : InI p) : wd p < 18446744073709551616 ∧ ∀ hp, run cxX 133 [.sc (.int .u64 p.1), .sc (.int .u8 p.2)] hp = some (fl (wd p), hp) := by
 have he := run_float p.1 p.2 h.1 h.2
 unfold wd
 rw [dif_pos he]
 exact he.choose_spec
theorem run_item (p : Int × Int) (h : InI p) (hp : Hp) : run cxX 79 [.agg [.sc (.int .u64 p.1), .sc (.int .u8 p.2)]] hp = some (fl (wd p), hp) := by
 rw [E79]
 simp [qc, (wd_ok h).2]
def LP : List (Int × Int) → List AV
 | [] => []
 | p :: l => .sc (.int .u64 p.1) :: .sc (.int .u8 p.2) :: LP l
theorem lenP : ∀ l, (LP l).length = 2 * l.length
 | [] => rfl
 | p :: l => by simp only [LP, List.length_cons, lenP l]; omega
theorem dropP : ∀ (i : Nat) (l : List (Int × Int)), (LP l).drop (i * 2) = LP (l.drop i)
 | 0, l => by simp
 | i + 1, [] => by simp [LP]
 | i + 1, p :: l => by
  have h : (i + 1) * 2 = i * 2 + 1 + 1 := by omega
  rw [h, LP, List.drop_succ_cons, List.drop_succ_cons, dropP i l, List.drop_succ_cons]
theorem lenA_P (k : Nat) (l : List (Int × Int)) : lenA (S k 2 (LP l)) = some l.length := by
 have h : (if (2 : Nat) = 1 then (LP l).length else (LP l).length / 2) = l.length := by rw [if_neg (by omega), lenP]; omega
 rcases zp k 2 (LP l) with e | e | ⟨e, e'⟩
 ·rw [e]; simp only [lenA, h]
 ·rw [e]; simp only [lenA, h]
 ·rw [e]
  have : l.length = 0 := by have := lenP l; rw [e'] at this; simp at this; omega
  rw [this]; rfl
theorem idxA_P (k : Nat) {l : List (Int × Int)} {i : Nat} {p : Int × Int} (h : l[i]? = some p) : idxA 2 (S k 2 (LP l)) (.int .i64 (i : Int)) = some [.sc (.int .u64 p.1), .sc (.int .u8 p.2)] := by
 obtain ⟨hi, hp⟩ := List.getElem?_eq_some_iff.mp h
 have hl : (if (2 : Nat) = 1 then (LP l).length else (LP l).length / 2) = l.length := by rw [if_neg (by omega), lenP]; omega
 have hx : idx l.length (.int .i64 (i : Int)) = some i := by
  have hc : (0 : Int) ≤ (i : Int) ∧ (i : Int) < (l.length : Int) := ⟨by omega, by omega⟩
  simp only [idx, asI, Option.bind_some, hc, and_self, if_true, Int.toNat_natCast]
 have hg : getN (LP l) (i * 2) 2 = some [.sc (.int .u64 p.1), .sc (.int .u8 p.2)] := by
  unfold getN
  rw [if_pos (by rw [lenP]; omega), dropP, List.drop_eq_getElem_cons hi, hp]
  rfl
 rcases zp k 2 (LP l) with e | e | ⟨e, e'⟩
 ·rw [e]; simp only [idxA, if_true, hl, hx, Option.bind_some, hg]
 ·rw [e]; simp only [idxA, if_true, hl, hx, Option.bind_some, hg]
 ·exfalso
  have := lenP l
  rw [e'] at this
  simp at this
  omega
def gfold (K : Int) (g : Gs) : List Nat → Gs
 | [] => g
 | w :: r => gfold K (gmg K g (gone w)) r
theorem gauge_loop (K : Int) (k : Nat) (l : List (Int × Int)) (z0 z1 z2 z3 z4 z5 z6 z7 z8 z9 z10 : AV) (hK : 1 ≤ K) (hl : l.length ≤ 900) (hI : ∀ p ∈ l, InI p) (hp : Hp) : ∀ (r : List (Int × Int)) (i : Nat) (F : List Nat) (g : Gs), l.drop i = r → F.length = i → GR K F g →
  B31_3 (S k 2 (LP l)) (.int .i64 l.length) (.int .i64 i) [z0, z1, z2, z3, z4, z5, z6, z7, z8, z9, z10] [.sc (.int .i64 K), .sc (.int .u32 g.M), .sc (.int .u32 g.e0), .sc (.int .u32 g.e1), .sc (.int .u32 g.e2), .sc (.int .u32 g.e3), .sc (.int .u32 g.e4), .sc (.int .u32 g.e5), fl g.lo, fl g.hi, S 2 1 (LF g.L)] hp =
   some ((gfold K g (r.map wd)).av K 2, hp) := by
 intro r
 induction r with
 | nil =>
  intro i F g hr hF hg
  have := qw hr
  have hlt : ¬((i : Int) < (l.length : Int)) := by omega
  rw [B31_3_eq]
  simp [hlt, getN, putN, gfold]
 | cons p r ih =>
  intro i F g hr hF hg
  obtain ⟨e1, e2, hi, e3⟩ := qr hr
  have hpI := hI p (List.mem_of_getElem? e1)
  have hw := (wd_ok hpI).1
  have ix := idxA_P k e1
  have it := fun hp => run_item p hpI hp
  have ad := fun k hp => run_gadd K k (wd p) hK hg (by omega) hw hp
  have h := ih (i + 1) (F ++ [wd p]) (gmg K g (gone (wd p))) e2 (by simp [hF]) (hg.merge (gone_ok hK hw) (by simp; omega))
  have hwi : IntKind.i64.wrap ((i : Int) + 1) = ((i + 1 : Nat) : Int) := by rw [qg] <;> omega
  rw [B31_3_eq]
  simp at h hwi
  simp [hi, ix, getN, putN, it, ad, hwi, h, gfold]
theorem run_gauge (c : Int) (k : Nat) (l : List (Int × Int)) (hc : 0 ≤ c ∧ c < 256) (hl : l.length ≤ 900) (hI : ∀ p ∈ l, InI p) (hp : Hp) :
  run cxX 31 [.sc (.int .u8 c), S k 2 (LP l)] hp = some ((gfold (1 + c % 16) gnew (l.map wd)).av (1 + c % 16) 2, hp) := by
 have m : ∀ x y, binV Tryz.prog .rem 5 x y (.int .u8 c) (.int .u8 16) = some (.int .u8 (c % 16)) := by
  intro x y; rw [qI _ _ _ _ _ _ _ (by omega), qG hc.1]
 have w1 : IntKind.i64.wrap (c % 16) = c % 16 := qg (by omega) (by omega)
 have w2 : IntKind.i64.wrap (1 + c % 16) = 1 + c % 16 := qg (by omega) (by omega)
 have cv : ∀ n : Int, cvV Tryz.prog 5 3 (.int .u8 n) = some (.int .i64 (IntKind.i64.wrap n)) := fun n => by kernel_rfl
 have nw := fun hp => run_gnew (1 + c % 16) (by omega) hp
 have lp := fun z0 z1 z2 z3 z4 z5 z6 z7 z8 z9 z10 => gauge_loop (1 + c % 16) (rk k) l z0 z1 z2 z3 z4 z5 z6 z7 z8 z9 z10 (by omega) hl hI hp l 0 [] gnew rfl rfl (gnew_ok _)
 simp at lp
 rw [E31]
 simp [m, cv, w1, w2, nw, putN, lenA_P]
 exact lp _ _ _ _ _ _ _ _ _ _ _
theorem GR.same {K : Int} {F H : List Nat} {g o : Gs} (hg : GR K F g) (ho : GR K H o) (h : F.Perm H) : GSame K K g o := by
 refine ⟨rfl, ?_, ⟨?_, ?_, ?_, ?_, ?_, ?_⟩, ?_, ?_, ?_⟩
 ·rw [hg.M, ho.M, h.length_eq]
 ·rw [hg.e0, ho.e0, yS 0 h]
 ·rw [hg.e1, ho.e1, yS 1 h]
 ·rw [hg.e2, ho.e2, yS 2 h]
 ·rw [hg.e3, ho.e3, yS 3 h]
 ·rw [hg.e4, ho.e4, yS 4 h]
 ·rw [hg.e5, ho.e5, yS 5 h]
 ·rw [hg.klo, ho.klo, lowK_perm h]
 ·rw [hg.khi, ho.khi, highK_perm h]
 ·rw [hg.keys, ho.keys, sk_of_perm (h.map kw)]
theorem ws_wd {l : List (Int × Int)} (h : ∀ p ∈ l, InI p) : Ws (l.map wd) := by
 intro w hw
 obtain ⟨p, hp, rfl⟩ := List.mem_map.mp hw
 exact (wd_ok (h p hp)).1
def LQ (K K' : IntKind) : List (Int × Int) → List AV
 | [] => []
 | p :: l => .sc (.int K p.1) :: .sc (.int K' p.2) :: LQ K K' l
section
variable (K K' : IntKind)
theorem lenQ : ∀ l, (LQ K K' l).length = 2 * l.length
 | [] => rfl
 | p :: l => by simp only [LQ, List.length_cons, lenQ l]; omega
theorem dropQ : ∀ (i : Nat) (l : List (Int × Int)), (LQ K K' l).drop (i * 2) = LQ K K' (l.drop i)
 | 0, l => by simp
 | i + 1, [] => by simp [LQ]
 | i + 1, p :: l => by
  have h : (i + 1) * 2 = i * 2 + 1 + 1 := by omega
  rw [h, LQ, List.drop_succ_cons, List.drop_succ_cons, dropQ i l, List.drop_succ_cons]
theorem appQ : ∀ a b, LQ K K' (a ++ b) = LQ K K' a ++ LQ K K' b
 | [], b => rfl
 | p :: a, b => by simp only [List.cons_append, LQ, appQ a b]
theorem lenA_Q (k : Nat) (l : List (Int × Int)) : lenA (S k 2 (LQ K K' l)) = some l.length := by
 have h : (if (2 : Nat) = 1 then (LQ K K' l).length else (LQ K K' l).length / 2) = l.length := by rw [if_neg (by omega), lenQ]; omega
 rcases zp k 2 (LQ K K' l) with e | e | ⟨e, e'⟩
 ·rw [e]; simp only [lenA, h]
 ·rw [e]; simp only [lenA, h]
 ·rw [e]
  have : l.length = 0 := by have := lenQ K K' l; rw [e'] at this; simp at this; omega
  rw [this]; rfl
theorem idxA_Q (k : Nat) {l : List (Int × Int)} {i : Nat} {p : Int × Int} (h : l[i]? = some p) : idxA 2 (S k 2 (LQ K K' l)) (.int .i64 (i : Int)) = some [.sc (.int K p.1), .sc (.int K' p.2)] := by
 obtain ⟨hi, hp⟩ := List.getElem?_eq_some_iff.mp h
 have hl : (if (2 : Nat) = 1 then (LQ K K' l).length else (LQ K K' l).length / 2) = l.length := by rw [if_neg (by omega), lenQ]; omega
 have hx : idx l.length (.int .i64 (i : Int)) = some i := zr .i64 hi
 have hg : getN (LQ K K' l) (i * 2) 2 = some [.sc (.int K p.1), .sc (.int K' p.2)] := by
  unfold getN
  rw [if_pos (by rw [lenQ]; omega), dropQ, List.drop_eq_getElem_cons hi, hp]
  rfl
 rcases zp k 2 (LQ K K' l) with e | e | ⟨e, e'⟩
 ·rw [e]; simp only [idxA, if_true, hl, hx, Option.bind_some, hg]
 ·rw [e]; simp only [idxA, if_true, hl, hx, Option.bind_some, hg]
 ·exfalso
  have := lenQ K K' l
  rw [e'] at this
  simp at this
  omega
theorem appA_Q (k : Nat) (hk : k = 1 ∨ k = 2) (l : List (Int × Int)) (a b : Int) (h : l.length ≤ 1000000) : appA 16 2 (S k 2 (LQ K K' l)) (S 1 2 [.sc (.int K a), .sc (.int K' b)]) = some (S k 2 (LQ K K' (l ++ [(a, b)]))) := by
 rw [appA_S 16 2 k _ _ 1 hk (show Flat [AV.sc (.int K a), AV.sc (.int K' b)] from rfl) (.inr (xl (by decide) ?_)), appQ]
 ·rfl
 ·rw [lenQ]; simp; omega
end
abbrev Cv (R C : Int) (x : AV) : AV := .agg [.sc (.int .i64 R), .sc (.int .i64 C), x]
def cchk (R C : Int) (l : List Int) : Int := if R < 1 ∨ 8 < R ∨ C < 1 ∨ 256 < C then 2 else if (l.length : Int) ≠ R * C then 6 else 0
theorem cmul {R C : Int} (hR : 1 ≤ R ∧ R ≤ 8) (hC : 1 ≤ C ∧ C ≤ 256) : 0 ≤ R * C ∧ R * C ≤ 2048 := by
 obtain ⟨r, rfl⟩ : ∃ r : Nat, R = r := ⟨R.toNat, by omega⟩
 obtain ⟨c, rfl⟩ : ∃ c : Nat, C = c := ⟨C.toNat, by omega⟩
 have h : r * c ≤ 8 * 256 := Nat.mul_le_mul (by omega) (by omega)
 have e : (r : Int) * (c : Int) = ((r * c : Nat) : Int) := by simp
 rw [e]; omega
theorem run_ccheck (R C : Int) (l : List Int) (k : Nat) (hl : l.length ≤ 1000000) (hp : Hp) : run cxX 66 [Cv R C (S k 1 (LI .u32 l))] hp = some (.sc (.int .i64 (cchk R C l)), hp) := by
 rw [E66]
 unfold cchk
 have b2 : B66_2 hp = some (.sc (.int .i64 2), hp) := by rw [B66_2_eq]; simp
 by_cases h1 : R < 1
 ·simp [qc, h1, b2]
 ·by_cases h2 : 8 < R
  ·simp [qc, h1, h2, b2]
  ·by_cases h3 : C < 1
   ·simp [qc, h1, h2, h3, b2]
   ·by_cases h4 : 256 < C
    ·simp [qc, h1, h2, h3, h4, b2]
    ·have m := cmul (R := R) (C := C) (by omega) (by omega)
     have w : IntKind.i64.wrap (R * C) = R * C := qg (by omega) (by omega)
     by_cases h5 : (l.length : Int) = R * C
     ·simp [qc, getC, h1, h2, h3, h4, w, h5, B66_3_eq]
     ·simp [qc, getC, h1, h2, h3, h4, w, h5, B66_3_eq]
theorem run_ccheck_ms (R C : Int) (l : List Int) (b : Nat) (hl : l.length ≤ 1000000) (hp : Hp) : run cxX 66 [Cv R C (.ms b 0 0 l.length 1)] hp = some (.sc (.int .i64 (cchk R C l)), hp) := by
 rw [E66]
 unfold cchk
 have b2 : B66_2 hp = some (.sc (.int .i64 2), hp) := by rw [B66_2_eq]; simp
 by_cases h1 : R < 1
 ·simp [qc, h1, b2]
 ·by_cases h2 : 8 < R
  ·simp [qc, h1, h2, b2]
  ·by_cases h3 : C < 1
   ·simp [qc, h1, h2, h3, b2]
   ·by_cases h4 : 256 < C
    ·simp [qc, h1, h2, h3, h4, b2]
    ·have m := cmul (R := R) (C := C) (by omega) (by omega)
     have w : IntKind.i64.wrap (R * C) = R * C := qg (by omega) (by omega)
     by_cases h5 : (l.length : Int) = R * C
     ·simp [qc, getC, h1, h2, h3, h4, w, h5, B66_3_eq]
     ·simp [qc, getC, h1, h2, h3, h4, w, h5, B66_3_eq]
theorem csame_loop (B B1 B' B1' : AV) (a b : List Int) (k k' : Nat) (hab : a.length = b.length) (hl : a.length ≤ 1000000) (hp : Hp) : ∀ (r s : List Int) (i : Nat), a.drop i = r → b.drop i = s →
  B120_4 (.int .i64 a.length) (.int .i64 i) [B, B1, S k 1 (LI .u32 a)] [B', B1', S k' 1 (LI .u32 b)] hp = some (.sc (.bool (decide (r = s))), hp) := by
 intro r
 induction r with
 | nil =>
  intro s i hr hs
  have h1 := qw hr
  have h2 : s = [] := by rw [← hs]; exact List.drop_eq_nil_of_le (by omega)
  have hlt : ¬((i : Int) < (a.length : Int)) := by omega
  rw [B120_4_eq]
  simp [hlt, h2]
 | cons x r ih =>
  intro s i hr hs
  obtain ⟨e1, e2, hi, e3⟩ := qr hr
  rw [B120_4_eq]
  have hw : IntKind.i64.wrap ((i : Int) + 1) = ((i + 1 : Nat) : Int) := by rw [qg] <;> omega
  cases s with
  | nil => have := qw hs; omega
  | cons y s =>
   obtain ⟨f1, f2, hj, f3⟩ := qr hs
   have h := ih s (i + 1) e2 f2
   simp at h hw
   by_cases e : x = y
   ·simp [hi, hj, getC, qc, e3, f3, e, hw, h]
   ·simp [hi, hj, getC, qc, e3, f3, e]
theorem run_csame (R C R' C' : Int) (a b : List Int) (k k' : Nat) (hp : Hp) (ha : a.length ≤ 1000000) :
  run cxX 120 [Cv R C (S k 1 (LI .u32 a)), Cv R' C' (S k' 1 (LI .u32 b))] hp = some (.sc (.bool (decide (R = R' ∧ C = C' ∧ a = b))), hp) := by
 rw [E120]
 have b2 : B120_2 hp = some (.sc (.bool false), hp) := by rw [B120_2_eq]
 by_cases h1 : R = R'
 ·by_cases h2 : C = C'
  ·by_cases h3 : a.length = b.length
   ·have h := csame_loop (.sc (.int .i64 R)) (.sc (.int .i64 C)) (.sc (.int .i64 R')) (.sc (.int .i64 C')) a b (rk k) (rk k') h3 ha hp a b 0 rfl rfl
    simp at h
    subst h1 h2
    rw [h3] at h
    simp [qc, getC, h3, B120_3_eq, h]
   ·have h4 : ¬(a = b) := fun e => h3 (by rw [e])
    have h5 : ¬((a.length : Int) = (b.length : Int)) := by omega
    simp [qc, getC, h1, h2, h4, h5, b2]
  ·simp [qc, h1, h2, b2]
 ·simp [qc, h1, b2]
theorem run_cnew (R C : Int) (hR : 1 ≤ R ∧ R ≤ 8) (hC : 1 ≤ C ∧ C ≤ 256) (hp : Hp) : run cxX 76 [.sc (.int .i64 R), .sc (.int .i64 C)] hp =
  some (.tup [Cv R C (.ms hp.next 0 0 (R * C).toNat 1), .sc (.bool true)], hp.new (LI .u32 (List.replicate (R * C).toNat 0))) := by
 rw [E76]
 have h1 : ¬(R < 1) := by omega
 have h2 : ¬(8 < R) := by omega
 have h3 : ¬(C < 1) := by omega
 have h4 : ¬(256 < C) := by omega
 have m := cmul hR hC
 have w : IntKind.i64.wrap (R * C) = R * C := qg (by omega) (by omega)
 have mk : okMake 4 1 (R * C) (R * C) = some () := okMake_ok (by omega) (by omega) (by decide) (by decide)
 have z := zeros_I .u32 (R * C).toNat
 rw [Int.toNat_of_nonneg m.1] at z
 simp [h1, h2, h3, h4, B76_3_eq, w, mk, z, getN, putN]
theorem run_cplace0 (C h r : Int) (hC : 1 ≤ C ∧ C ≤ 256) (hr : 0 ≤ r ∧ r ≤ 8) : ∃ v : Nat, (v : Int) < C ∧ ∀ (R x : AV) hp, run cxX 128 [.agg [R, .sc (.int .i64 C), x], .sc (.int .u64 h), .sc (.int .i64 r)] hp = some (.sc (.int .i64 (v : Int)), hp) := by
 obtain ⟨z1, s1⟩ : ∃ z : Int, ∀ t x y, binV Tryz.prog .shr t x y (.int .u64 h) (.int .u64 32) = some (.int .u64 z) := ⟨_, fun t x y => zK _ _ _ _ _ _ _ _ (by omega)⟩
 have w1 : IntKind.i64.wrap (2 * r) = 2 * r := qg (by omega) (by omega)
 have w2 : IntKind.i64.wrap (2 * r + 1) = 2 * r + 1 := qg (by omega) (by omega)
 have w3 : IntKind.u64.wrap (2 * r + 1) = 2 * r + 1 := qt (by omega) (by omega)
 obtain ⟨z2, s2⟩ : ∃ z : Int, ∀ t x y, binV Tryz.prog .mul t x y (.int .u64 z1) (.int .u64 (2 * r + 1)) = some (.int .u64 z) := ⟨_, fun t x y => binV_mul _ _ _ _ _ _ _⟩
 obtain ⟨z3, s3⟩ : ∃ z : Int, ∀ t x y, binV Tryz.prog .and t x y (.int .u64 h) (.int .u64 4294967295) = some (.int .u64 z) := ⟨_, fun t x y => qL _ _ _ _ _ _ _⟩
 obtain ⟨z4, s4⟩ : ∃ z : Int, ∀ t x y, binV Tryz.prog .add t x y (.int .u64 z2) (.int .u64 z3) = some (.int .u64 z) := ⟨_, fun t x y => zR _ _ _ _ _ _ _⟩
 obtain ⟨z5, s5⟩ : ∃ z : Int, ∀ t x y, binV Tryz.prog .shr t x y (.int .u64 z4) (.int .u64 17) = some (.int .u64 z) := ⟨_, fun t x y => zK _ _ _ _ _ _ _ _ (by omega)⟩
 obtain ⟨z6, b6, s6⟩ : ∃ z : Int, (0 ≤ z ∧ z < 18446744073709551616) ∧ ∀ t x y, binV Tryz.prog .xor t x y (.int .u64 z4) (.int .u64 z5) = some (.int .u64 z) := ⟨_, by rw [IntKind.wrap_u64]; omega, fun t x y => yv _ _ _ _ _ _ _⟩
 have m1 : max C 1 = C := by omega
 have w4 : IntKind.u64.wrap C = C := qt (by omega) (by omega)
 have hm : 0 ≤ z6 % C ∧ z6 % C < C := ⟨Int.emod_nonneg _ (by omega), Int.emod_lt_of_pos _ (by omega)⟩
 have s7 : ∀ t x y, binV Tryz.prog .rem t x y (.int .u64 z6) (.int .u64 C) = some (.int .u64 (z6 % C)) := by
  intro t x y; rw [qI _ _ _ _ _ _ _ (by omega), qG b6.1]
 have w5 : IntKind.i64.wrap (z6 % C) = z6 % C := qg (by omega) (by omega)
 refine ⟨(z6 % C).toNat, by omega, fun R x hp => ?_⟩
 rw [Int.toNat_of_nonneg hm.1, E128]
 generalize z6 % C = z7 at *
 simp [qc, s1, w1, w2, w3, s2, s3, s4, s5, s6, m1, w4, s7, w5, -binV_mul, -qL, -zR, -yv]
 simp [w1, w2, w3, s2, s3, s4, s5, s6, w4, s7, w5, -qL, -yv]
noncomputable def cplc (C h r : Int) : Nat := if hh : (1 ≤ C ∧ C ≤ 256) ∧ 0 ≤ r ∧ r ≤ 8 then (run_cplace0 C h r hh.1 hh.2).choose else 0
theorem cplc_ok {C h r : Int} (hC : 1 ≤ C ∧ C ≤ 256) (hr : 0 ≤ r ∧ r ≤ 8) : (cplc C h r : Int) < C ∧ ∀ (R x : AV) hp, run cxX 128 [.agg [R, .sc (.int .i64 C), x], .sc (.int .u64 h), .sc (.int .i64 r)] hp = some (.sc (.int .i64 (cplc C h r : Int)), hp) := by
 unfold cplc
 rw [dif_pos ⟨hC, hr⟩]
 exact (run_cplace0 C h r hC hr).choose_spec
def cmrg : List Int → List Int → List Int
 | [], _ => []
 | x :: a, [] => x :: a
 | x :: a, y :: b => plus x y :: cmrg a b
@[simp] theorem cmrg_nil_r : ∀ a, cmrg a [] = a
 | [] => rfl
 | _ :: _ => rfl
abbrev U32 (l : List Int) : Prop := ∀ n ∈ l, 0 ≤ n ∧ n < 4294967296
theorem plus_u32 {a b : Int} (ha : 0 ≤ a ∧ a < 4294967296) (hb : 0 ≤ b ∧ b < 4294967296) : 0 ≤ plus a b ∧ plus a b < 4294967296 := by
 unfold plus; split <;> omega
noncomputable def cadd1 (C h n : Int) (l : List Int) (r : Nat) : List Int := l.set (r * C.toNat + cplc C h r) (plus (l.getD (r * C.toNat + cplc C h r) 0) n)
noncomputable def caddF (C h n : Int) (l : List Int) (rs : List Nat) : List Int := rs.foldl (cadd1 C h n) l
noncomputable def cadd (R C h n : Int) (l : List Int) : List Int := if cchk R C l = 0 then caddF C h n l (List.range' 0 R.toNat) else l
theorem cadd1_len (C h n : Int) (l : List Int) (r : Nat) : (cadd1 C h n l r).length = l.length := by simp [cadd1]
theorem caddF_len (C h n : Int) : ∀ (rs : List Nat) (l : List Int), (caddF C h n l rs).length = l.length
 | [], _ => rfl
 | r :: rs, l => by
  show (caddF C h n (cadd1 C h n l r) rs).length = _
  rw [caddF_len C h n rs, cadd1_len]
theorem cadd_len (R C h n : Int) (l : List Int) : (cadd R C h n l).length = l.length := by
 unfold cadd; split
 ·exact caddF_len _ _ _ _ _
 ·rfl
theorem getD_u32 {l : List Int} (h : U32 l) (i : Nat) : 0 ≤ l.getD i 0 ∧ l.getD i 0 < 4294967296 := by
 by_cases hi : i < l.length
 ·have := h l[i] (List.getElem_mem hi)
  simpa [hi] using this
 ·simp [hi]
theorem cadd1_u32 {C h n : Int} {l : List Int} {r : Nat} (hl : U32 l) (hn : 0 ≤ n ∧ n < 4294967296) : U32 (cadd1 C h n l r) := by
 intro x hx
 rcases List.mem_or_eq_of_mem_set hx with hx | rfl
 ·exact hl x hx
 ·exact plus_u32 (getD_u32 hl _) hn
theorem caddF_u32 {C h n : Int} (hn : 0 ≤ n ∧ n < 4294967296) : ∀ (rs : List Nat) {l : List Int}, U32 l → U32 (caddF C h n l rs)
 | [], _, hl => hl
 | r :: rs, l, hl => caddF_u32 hn rs (cadd1_u32 hl hn)
theorem cadd_u32 {R C h n : Int} {l : List Int} (hn : 0 ≤ n ∧ n < 4294967296) (hl : U32 l) : U32 (cadd R C h n l) := by
 unfold cadd; split
 ·exact caddF_u32 hn _ hl
 ·exact hl
theorem cadd_fin (R C : Int) (q0 q1 q2 : AV) (b : Nat) (d : List Int) (hp : Hp) (hb : hp.rd b 0 = some (LI .u32 d)) :
  B72_9 [q0, q1, q2] [.sc (.int .i64 R), .sc (.int .i64 C), .ms b 0 0 d.length 1] hp = some (Cv R C (S 0 1 (LI .u32 d)), hp.del b) := by
 have f := frz1_I .u32 d hp b hb
 rw [B72_9_eq]
 simp [getN, putN, f]
theorem cadd_loop (R C h n : Int) (q0 q1 q2 : AV) (x : AV) (b : Nat) (hR : 1 ≤ R ∧ R ≤ 8) (hC : 1 ≤ C ∧ C ≤ 256) (hn : 0 ≤ n ∧ n < 4294967296) : ∀ (m i : Nat) (l : List Int) (hp : Hp), R = (i + m : Nat) → (l.length : Int) = R * C → U32 l → hp.rd b 0 = some (LI .u32 l) →
  ∃ hp', B72_4 (.int .u64 h) (.int .u32 n) (.int .i64 R) (.int .i64 i) [.sc (.int .i64 R), .sc (.int .i64 C), x] [q0, q1, q2] [.sc (.int .i64 R), .sc (.int .i64 C), .ms b 0 0 l.length 1] hp = some (Cv R C (S 0 1 (LI .u32 (caddF C h n l (List.range' i m)))), hp') := by
 intro m
 induction m with
 | zero =>
  intro i l hp hi hlen hl hb
  have hlt : ¬((i : Int) < R) := by omega
  refine ⟨hp.del b, ?_⟩
  rw [B72_4_eq]
  simp only [jI, hlt, decide_false, qW, Option.bind_some, cond_false]
  exact cadd_fin R C q0 q1 q2 b l hp hb
 | succ m ih =>
  intro i l hp hi hlen hl hb
  have hlt : (i : Int) < R := by omega
  obtain ⟨c, rfl⟩ : ∃ c : Nat, C = c := ⟨C.toNat, by omega⟩
  obtain ⟨pb, pc⟩ := cplc_ok (h := h) (r := (i : Int)) hC (by omega)
  have hRc : (R * (c : Int)) = (((i + (m + 1)) * c : Nat) : Int) := by rw [hi]; simp
  have hj : i * c + cplc c h i < l.length := by
   have e1 : (i + (m + 1)) * c = i * c + c + m * c := by rw [Nat.add_mul, Nat.add_mul]; omega
   have e2 : l.length = (i + (m + 1)) * c := by omega
   have e3 : cplc c h i < c := by omega
   omega
  have hl2 : l.length ≤ 2048 := by have := cmul hR hC; omega
  have w1 : IntKind.i64.wrap ((i : Int) * (c : Int)) = ((i * c : Nat) : Int) := by
   have e : (i : Int) * (c : Int) = ((i * c : Nat) : Int) := by simp
   rw [e, qg (by omega) (by omega)]
  have w2 : IntKind.i64.wrap (((i * c : Nat) : Int) + (cplc c h i : Int)) = ((i * c + cplc c h i : Nat) : Int) := by rw [qg (by omega) (by omega)]; omega
  have w3 : IntKind.i64.wrap ((i : Int) + ((1 : Nat) : Int)) = ((i + 1 : Nat) : Int) := by rw [qg] <;> omega
  have ed : cadd1 c h n l i = l.set (i * c + cplc c h i) (plus (l.getD (i * c + cplc c h i) 0) n) := by unfold cadd1; rw [Int.toNat_natCast]
  have ef : caddF c h n l (List.range' i (m + 1)) = caddF c h n (cadd1 c h n l i) (List.range' (i + 1) m) := by rw [List.range'_succ]; rfl
  have gs' : l[i * c + cplc c h i]? = some (l.getD (i * c + cplc c h i) 0) := by simp [hj]
  have hgd := getD_u32 hl (i * c + cplc c h i)
  have hu := cadd1_u32 (C := c) (h := h) (n := n) (r := i) hl hn
  have hcl := cadd1_len c h n l i
  rw [ed] at hu hcl ef
  rw [ef]
  generalize i * c + cplc c h i = j at *
  generalize l.getD j 0 = g at *
  have pl := fun hp => jC g n hgd hn hp
  have ix := zr .i64 hj
  have pt := putN_I .u32 l j (plus g n) hj
  obtain ⟨hp', hh⟩ := ih (i + 1) (l.set j (plus g n)) (hp.put b 0 (LI .u32 (l.set j (plus g n)))) (by omega) (by rw [hcl]; exact hlen) hu (qp _ _ _)
  refine ⟨hp', ?_⟩
  rw [hcl] at hh
  have oa : ∀ v w, qi [AV.sc v, AV.sc w] [] = some () := fun v w => by rw [okArgs_eq]; exact if_pos ⟨by simp, by simp⟩
  have gn : getN [AV.sc (.int .i64 R), AV.sc (.int .i64 (c : Int)), x] 0 3 = some [AV.sc (.int .i64 R), AV.sc (.int .i64 (c : Int)), x] := rfl
  rw [B72_4_eq]
  simp only [jI, hlt, decide_true, qW, Option.bind_some, cond_true, qc, List.getElem?_cons_succ, List.getElem?_cons_zero, jV, binV_mul, w1, gn, List.map_cons, List.map_nil, ro1_sc, ro_agg, ro_sc, pc, okRes_sc, zR, w2, getC, ro1_ms, yl, ix, xm, chk_eq, yq, hb, Nat.add_eq, Nat.zero_add, getI?, gs', Option.map_some, oa, pl, pt, Int.ofNat_eq_natCast, w3]
  exact hh
theorem run_cadd (R C h n : Int) (l : List Int) (k : Nat) (hn : 0 ≤ n ∧ n < 4294967296) (hl : l.length ≤ 1000000) (h32 : U32 l) (hp : Hp) :
  ∃ t hp', run cxX 72 [Cv R C (S k 1 (LI .u32 l)), .sc (.int .u64 h), .sc (.int .u32 n)] hp = some (Cv R C (S t 1 (LI .u32 (cadd R C h n l))), hp') := by
 rw [E72]
 have ck := fun hp => run_ccheck R C l (rk k) hl hp
 by_cases hc : cchk R C l = 0
 ·have hc' := hc
  unfold cchk at hc'
  split at hc'
  ·cases hc'
  ·split at hc'
   ·cases hc'
   ·rename_i h1 h2
    have hlen : (l.length : Int) = R * C := by omega
    have hne : l ≠ [] := by
     intro e
     subst e
     obtain ⟨r, rfl⟩ : ∃ r : Nat, R = r := ⟨R.toNat, by omega⟩
     obtain ⟨c, rfl⟩ : ∃ c : Nat, C = c := ⟨C.toNat, by omega⟩
     have e : (r : Int) * (c : Int) = ((r * c : Nat) : Int) := by simp
     rw [e] at hlen
     have : 0 < r * c := Nat.mul_pos (by omega) (by omega)
     simp at hlen
     omega
    have n1 := fun k hp => xn .u32 l k 4 (by decide) hl hne hp
    obtain ⟨hp', hh⟩ := cadd_loop R C h n (.sc (.int .i64 0)) (.sc (.int .i64 0)) (S 2 1 []) (S (rk k) 1 (LI .u32 l)) hp.next (by omega) (by omega) hn R.toNat 0 l (hp.new (LI .u32 l)) (by omega) hlen h32 (qB _ _)
    refine ⟨0, hp', ?_⟩
    have e : cadd R C h n l = caddF C h n l (List.range' 0 R.toNat) := by unfold cadd; rw [if_pos hc]
    simp at hh
    simp [qc, getC, getN, n1, putN, ck, hc, e, hh]
 ·have e : cadd R C h n l = l := by unfold cadd; rw [if_neg hc]
  by_cases hne : l = []
  ·subst hne
   have n1 := fun k hp => appM_nil 4 k hp
   refine ⟨0, hp, ?_⟩
   have e9 : ∀ (q0 q1 q2 : AV), B72_9 [q0, q1, q2] [.sc (.int .i64 R), .sc (.int .i64 C), S 0 1 []] hp = some (Cv R C (S 0 1 []), hp) := by
    intro q0 q1 q2
    rw [B72_9_eq]
    simp [getN, putN]
   simp at ck
   simp [qc, getC, getN, n1, putN, ck, hc, e, e9]
  ·have n1 := fun k hp => xn .u32 l k 4 (by decide) hl hne hp
   have f := cadd_fin R C (.sc (.int .i64 0)) (.sc (.int .i64 0)) (S 2 1 []) hp.next l (hp.new (LI .u32 l)) (qB _ _)
   refine ⟨0, (hp.new (LI .u32 l)).del hp.next, ?_⟩
   simp [qc, getC, getN, n1, putN, ck, hc, e, f]
theorem run_cadd_ms (R C h n : Int) (l : List Int) (b : Nat) (hn : 0 ≤ n ∧ n < 4294967296) (hl : l.length ≤ 1000000) (h32 : U32 l) (hc : cchk R C l = 0) (hp : Hp) (hb : hp.rd b 0 = some (LI .u32 l)) :
  ∃ t hp', run cxX 72 [Cv R C (.ms b 0 0 l.length 1), .sc (.int .u64 h), .sc (.int .u32 n)] hp = some (Cv R C (S t 1 (LI .u32 (cadd R C h n l))), hp') := by
 rw [E72]
 have ck := fun hp => run_ccheck_ms R C l b hl hp
 have hc' := hc
 unfold cchk at hc'
 split at hc'
 ·cases hc'
 ·split at hc'
  ·cases hc'
  ·rename_i h1 h2
   have hlen : (l.length : Int) = R * C := by omega
   have hne : l ≠ [] := by
    intro e
    subst e
    obtain ⟨r, rfl⟩ : ∃ r : Nat, R = r := ⟨R.toNat, by omega⟩
    obtain ⟨c, rfl⟩ : ∃ c : Nat, C = c := ⟨C.toNat, by omega⟩
    have e : (r : Int) * (c : Int) = ((r * c : Nat) : Int) := by simp
    rw [e] at hlen
    have : 0 < r * c := Nat.mul_pos (by omega) (by omega)
    simp at hlen
    omega
   have n1 := appM_freshM .u32 l (.ms b 0 0 l.length 1) 4 (by decide) hl hne hp (srcM_all .u32 l hp b hb)
   obtain ⟨hp', hh⟩ := cadd_loop R C h n (.sc (.int .i64 0)) (.sc (.int .i64 0)) (S 2 1 []) (.ms b 0 0 l.length 1) hp.next (by omega) (by omega) hn R.toNat 0 l (hp.new (LI .u32 l)) (by omega) hlen h32 (qB _ _)
   refine ⟨0, hp', ?_⟩
   have e : cadd R C h n l = caddF C h n l (List.range' 0 R.toNat) := by unfold cadd; rw [if_pos hc]
   simp at hh
   simp [qc, getC, getN, n1, putN, ck, hc, e, hh]
noncomputable def jn (R C : Int) (a : List Int) (l : List (Int × Int)) : List Int := l.foldl (fun a p => cadd R C p.1 p.2 a) a
theorem cfold_len (R C : Int) : ∀ (l : List (Int × Int)) (a : List Int), (jn R C a l).length = a.length
 | [], _ => rfl
 | p :: l, a => by
  show (jn R C (cadd R C p.1 p.2 a) l).length = _
  rw [cfold_len R C l, cadd_len]
theorem cfold_u32 (R C : Int) : ∀ {l : List (Int × Int)} {a : List Int}, U32 a → (∀ p ∈ l, 0 ≤ p.2 ∧ p.2 < 4294967296) → U32 (jn R C a l)
 | [], _, h, _ => h
 | p :: l, a, h, hl => cfold_u32 R C (l := l) (cadd_u32 (hl p (by simp)) h) (fun q hq => hl q (by simp [hq]))
theorem cms_loop (R C : Int) (q0 q1 q2 : AV) (l : List (Int × Int)) (k : Nat) (hl : l.length ≤ 1000000) (h32 : ∀ p ∈ l, 0 ≤ p.2 ∧ p.2 < 4294967296) : ∀ (r : List (Int × Int)) (i t : Nat) (a : List Int) (hp : Hp), l.drop i = r → a.length ≤ 1000000 → U32 a →
  ∃ t' hp', B30_3 (S k 2 (LQ .u64 .u32 l)) (.int .i64 l.length) (.int .i64 i) [q0, q1, q2] [.sc (.int .i64 R), .sc (.int .i64 C), S t 1 (LI .u32 a)] hp = some (Cv R C (S t' 1 (LI .u32 (jn R C a r))), hp') := by
 intro r
 induction r with
 | nil =>
  intro i t a hp hr ha hu
  have := qw hr
  have hlt : ¬((i : Int) < (l.length : Int)) := by omega
  refine ⟨rk t, hp, ?_⟩
  rw [B30_3_eq]
  simp [hlt, getN, putN, jn]
 | cons x r ih =>
  intro i t a hp hr ha hu
  obtain ⟨e1, e2, hi, e3⟩ := qr hr
  have hx := h32 x (List.mem_of_getElem? e1)
  have hw : IntKind.i64.wrap ((i : Int) + 1) = ((i + 1 : Nat) : Int) := by rw [qg] <;> omega
  obtain ⟨t1, hp1, ha1⟩ := run_cadd R C x.1 x.2 a (rk t) hx ha hu hp
  obtain ⟨t', hp', h⟩ := ih (i + 1) t1 (cadd R C x.1 x.2 a) hp1 e2 (by rw [cadd_len]; exact ha) (cadd_u32 hx hu)
  refine ⟨t', hp', ?_⟩
  have ix := idxA_Q .u64 .u32 k e1
  rw [B30_3_eq]
  simp at h hw
  have ef : jn R C a (x :: r) = jn R C (cadd R C x.1 x.2 a) r := rfl
  simp [hi, ix, qc, getN, putN, ha1, hw, h, ef]
theorem run_cms (a b : Int) (l : List (Int × Int)) (k : Nat) (ha : 0 ≤ a ∧ a < 256) (hb : 0 ≤ b ∧ b < 256) (hl : l.length ≤ 1000000) (h32 : ∀ p ∈ l, 0 ≤ p.2 ∧ p.2 < 4294967296) (hp : Hp) :
  ∃ t hp', run cxX 30 [.sc (.int .u8 a), .sc (.int .u8 b), S k 2 (LQ .u64 .u32 l)] hp = some (Cv (1 + a % 8) (1 + b % 40) (S t 1 (LI .u32 (jn (1 + a % 8) (1 + b % 40) (List.replicate ((1 + a % 8) * (1 + b % 40)).toNat 0) l))), hp') := by
 have h1 : ∀ t x y, binV Tryz.prog .rem t x y (.int .u8 a) (.int .u8 8) = some (.int .u8 (a % 8)) := by
  intro t x y; rw [qI _ _ _ _ _ _ _ (by omega), qG ha.1]
 have h2 : ∀ t x y, binV Tryz.prog .rem t x y (.int .u8 b) (.int .u8 40) = some (.int .u8 (b % 40)) := by
  intro t x y; rw [qI _ _ _ _ _ _ _ (by omega), qG hb.1]
 have w1 : IntKind.i64.wrap (a % 8) = a % 8 := qg (by omega) (by omega)
 have w2 : IntKind.i64.wrap (1 + a % 8) = 1 + a % 8 := qg (by omega) (by omega)
 have w3 : IntKind.i64.wrap (b % 40) = b % 40 := qg (by omega) (by omega)
 have w4 : IntKind.i64.wrap (1 + b % 40) = 1 + b % 40 := qg (by omega) (by omega)
 have nw := fun hp => run_cnew (1 + a % 8) (1 + b % 40) (by omega) (by omega) hp
 have m := cmul (R := 1 + a % 8) (C := 1 + b % 40) (by omega) (by omega)
 obtain ⟨R, hR⟩ : ∃ R, R = 1 + a % 8 := ⟨_, rfl⟩
 obtain ⟨C, hC⟩ : ∃ C, C = 1 + b % 40 := ⟨_, rfl⟩
 rw [← hR] at nw m w2 ⊢
 rw [← hC] at nw m w4 ⊢
 obtain ⟨z, hz⟩ : ∃ z, z = List.replicate (R * C).toNat (0 : Int) := ⟨_, rfl⟩
 have zl : z.length = (R * C).toNat := by rw [hz]; simp
 have zu : U32 z := fun n hn => by rw [hz] at hn; have := List.eq_of_mem_replicate hn; omega
 have zc : cchk R C z = 0 := by unfold cchk; rw [if_neg (by omega), if_neg (by rw [zl]; omega)]
 rw [← hz] at nw ⊢
 rw [← zl] at nw
 have ln := lenA_Q .u64 .u32
 have key : ∃ t hp', B30_3 (S (rk k) 2 (LQ .u64 .u32 l)) (.int .i64 l.length) (.int .i64 (0 : Nat)) [.sc (.int .i64 0), .sc (.int .i64 0), S 2 1 []] [.sc (.int .i64 R), .sc (.int .i64 C), .ms hp.next 0 0 z.length 1] (hp.new (LI .u32 z)) = some (Cv R C (S t 1 (LI .u32 (jn R C z l))), hp') := by
  cases l with
  | nil =>
   have f := frz1_I .u32 z (hp.new (LI .u32 z)) hp.next (qB _ _)
   refine ⟨0, (hp.new (LI .u32 z)).del hp.next, ?_⟩
   rw [B30_3_eq]
   simp [putN, getN, f, jn]
  | cons x r =>
   have hx := h32 x (by simp)
   have ix := idxA_Q (l := x :: r) (i := 0) (p := x) .u64 .u32 (rk k) rfl
   obtain ⟨t1, hp1, ha1⟩ := run_cadd_ms R C x.1 x.2 z hp.next hx (by rw [zl]; omega) zu zc (hp.new (LI .u32 z)) (qB _ _)
   obtain ⟨t, hp2, h⟩ := cms_loop R C (.sc (.int .i64 0)) (.sc (.int .i64 0)) (S 2 1 []) (x :: r) (rk k) hl h32 r 1 t1 (cadd R C x.1 x.2 z) hp1 rfl (by rw [cadd_len, zl]; omega) (cadd_u32 hx zu)
   refine ⟨t, hp2, ?_⟩
   have hw : IntKind.i64.wrap (((0 : Nat) : Int) + 1) = ((1 : Nat) : Int) := rfl
   have hlt : ((0 : Nat) : Int) < ((x :: r).length : Int) := by simp
   have ef : jn R C z (x :: r) = jn R C (cadd R C x.1 x.2 z) r := rfl
   have gn : getN [AV.sc (.int .i64 R), AV.sc (.int .i64 C), .ms hp.next 0 0 z.length 1] 0 3 = some [AV.sc (.int .i64 R), AV.sc (.int .i64 C), .ms hp.next 0 0 z.length 1] := rfl
   generalize (x :: r).length = n at *
   generalize LQ .u64 .u32 (x :: r) = q at *
   have hn : 0 < n := by simpa using hlt
   rw [B30_3_eq]
   simp at ix h
   simp [hn, ix, qc, getN, putN, ha1, ef, h]
 obtain ⟨t, hp', h⟩ := key
 refine ⟨t, hp', ?_⟩
 rw [E30]
 simp at h
 simp [h1, h2, w1, w2, w3, w4, ← hR, ← hC, nw, putN, ln, h]
structure GN where
 M : Int
 e0 : Int
 e1 : Int
 e2 : Int
 e3 : Int
 e4 : Int
 e5 : Int
 lo : Nat
 hi : Nat
 L : List Nat
deriving DecidableEq
def Gs.nf (g : Gs) : GN := ⟨g.M, g.e0, g.e1, g.e2, g.e3, g.e4, g.e5, kw g.lo, kw g.hi, g.L.map kw⟩
structure Gs.W (g : Gs) : Prop where
 M : qJ g.M
 e0 : qJ g.e0
 e1 : qJ g.e1
 e2 : qJ g.e2
 e3 : qJ g.e3
 e4 : qJ g.e4
 e5 : qJ g.e5
 lo : g.lo < 18446744073709551616
 hi : g.hi < 18446744073709551616
 L : Ws g.L
 len : g.L.length ≤ 100000
theorem gsame_nf (K K' : Int) (g o : Gs) : GSame K K' g o ↔ K = K' ∧ g.nf = o.nf := by
 unfold GSame Gs.nf
 simp only [GN.mk.injEq]
 constructor
 ·rintro ⟨h1, h2, ⟨h3, h4, h5, h6, h7, h8⟩, h9, h10, h11⟩
  exact ⟨h1, h2, h3, h4, h5, h6, h7, h8, h9, h10, h11⟩
 ·rintro ⟨h1, h2, h3, h4, h5, h6, h7, h8, h9, h10, h11⟩
  exact ⟨h1, h2, ⟨h3, h4, h5, h6, h7, h8⟩, h9, h10, h11⟩
theorem run_gsameD (K K' : Int) (g o : Gs) (k k' : Nat) (hg : g.W) (ho : o.W) (hp : Hp) : run cxX 121 [g.av K k, o.av K' k'] hp = some (.sc (.bool (decide (K = K' ∧ g.nf = o.nf))), hp) := by
 by_cases h : GSame K K' g o
 ·rw [run_gsame K K' g o k k' h ⟨hg.lo, ho.lo⟩ ⟨hg.hi, ho.hi⟩ ⟨hg.L, ho.L⟩ (by have := hg.len; omega) hp, decide_eq_true ((gsame_nf K K' g o).mp h)]
 ·have hd : decide (K = K' ∧ g.nf = o.nf) = false := decide_eq_false (fun h' => h ((gsame_nf K K' g o).mpr h'))
  rw [hd, E121]
  have b2 : B121_2 hp = some (.sc (.bool false), hp) := B121_2_eq hp
  have r1 := fun hp => yP g.lo o.lo hg.lo ho.lo hp
  have r2 := fun hp => yP g.hi o.hi hg.hi ho.hi hp
  have a := fun x y => neq44 x y g.e0 g.e1 g.e2 g.e3 g.e4 g.e5 o.e0 o.e1 o.e2 o.e3 o.e4 o.e5
  by_cases q1 : K = K'
  ·by_cases q2 : g.M = o.M
   ·by_cases q3 : (g.e0 = o.e0 ∧ g.e1 = o.e1 ∧ g.e2 = o.e2 ∧ g.e3 = o.e3 ∧ g.e4 = o.e4 ∧ g.e5 = o.e5)
    ·simp only [eq_true q3, decide_true, Bool.not_true] at a
     by_cases q4 : kw g.lo = kw o.lo
     ·by_cases q5 : kw g.hi = kw o.hi
      ·by_cases q6 : g.L.length = o.L.length
       ·have l := gsame_loop (.sc (.int .i64 K)) (.sc (.int .u32 g.M)) (.sc (.int .u32 g.e0)) (.sc (.int .u32 g.e1)) (.sc (.int .u32 g.e2)) (.sc (.int .u32 g.e3)) (.sc (.int .u32 g.e4)) (.sc (.int .u32 g.e5)) (fl g.lo) (fl g.hi)
         (.sc (.int .i64 K')) (.sc (.int .u32 o.M)) (.sc (.int .u32 o.e0)) (.sc (.int .u32 o.e1)) (.sc (.int .u32 o.e2)) (.sc (.int .u32 o.e3)) (.sc (.int .u32 o.e4)) (.sc (.int .u32 o.e5)) (fl o.lo) (fl o.hi) g.L o.L (rk k) (rk k') q6 (by have := hg.len; omega) hg.L ho.L hp g.L o.L 0 rfl rfl
        have q7 : ¬(g.L.map kw = o.L.map kw) := fun e => h ⟨q1, q2, q3, q4, q5, e⟩
        simp only [eq_false q7, decide_false] at l
        subst q1
        simp at l
        rw [q6, q2] at l
        simp [qc, getC, getN, jg, yK, q2, a, r1, r2, q4, q5, q6, B121_3_eq]
        exact l
       ·have q6' : ¬((g.L.length : Int) = (o.L.length : Int)) := by omega
        simp [qc, getC, getN, jg, yK, q1, q2, a, r1, r2, q4, q5, q6', b2]
      ·simp [qc, getC, getN, jg, yK, q1, q2, a, r1, r2, q4, q5, b2]
     ·simp [qc, getC, getN, jg, yK, q1, q2, a, r1, q4, b2]
    ·simp only [eq_false q3, decide_false, Bool.not_false] at a
     simp [qc, getC, getN, jg, yK, q1, q2, a, b2]
   ·simp [qc, q1, q2, b2]
  ·simp [qc, q1, b2]
def ordG : List Nat → Int
 | [] => 0
 | [_] => 0
 | x :: y :: r => if y < x then 8 else ordG (y :: r)
def nanK : Nat := 18444492273895866369
def gchkE (g : GN) : Int := if g.lo = nanK ∨ g.hi = nanK then 4 else 0
def gchk (K : Int) (g : GN) : Int := if K < 1 ∨ 16 < K ∨ K < (g.L.length : Int) then 2 else if ordG g.L = 0 then gchkE g else 8
theorem up_ordG : ∀ {l : List Nat}, Up l → ordG l = 0
 | [], _ => rfl
 | [_], _ => rfl
 | x :: y :: r, h => by
  have h' := List.pairwise_cons.mp h
  have hxy := h'.1 y (by simp)
  show (if y < x then (8 : Int) else ordG (y :: r)) = 0
  rw [if_neg (by omega)]
  exact up_ordG h'.2
theorem ordG_up : ∀ {l : List Nat}, ordG l = 0 → Up l
 | [], _ => List.Pairwise.nil
 | [_], _ => by simp
 | x :: y :: r, h => by
  have h : (if y < x then (8 : Int) else ordG (y :: r)) = 0 := h
  split at h
  ·cases h
  ·rename_i hxy
   have ih := ordG_up h
   have ih' := List.pairwise_cons.mp ih
   refine List.pairwise_cons.mpr ⟨fun n hn => ?_, ih⟩
   rcases List.mem_cons.mp hn with rfl | hn
   ·omega
   ·have := ih'.1 n hn; omega
theorem kw_isN {w : Nat} (h : w < 18446744073709551616) : isN w ↔ kw w = nanK := by
 constructor
 ·intro hn; exact kw_nan hn
 ·intro he
  by_cases hn : isN w
  ·exact hn
  ·have := kw_num_lt h hn
   rw [he] at this
   exact absurd this (by decide)
theorem gcheck_loop (K : Int) (g : Gs) (k : Nat) (hg : g.W) (hp : Hp) : ∀ (r : List Nat) (p : Option Nat) (i : Nat), g.L.drop i = r → (p = none ↔ i = 0) → (∀ q, p = some q → g.L[i - 1]? = some q) →
  B67_4 (S k 1 (LF g.L)) (.int .i64 g.L.length) (.int .i64 i) [.sc (.int .i64 K), .sc (.int .u32 g.M), .sc (.int .u32 g.e0), .sc (.int .u32 g.e1), .sc (.int .u32 g.e2), .sc (.int .u32 g.e3), .sc (.int .u32 g.e4), .sc (.int .u32 g.e5), fl g.lo, fl g.hi, S k 1 (LF g.L)] hp =
   some (.sc (.int .i64 (if ordG (p.toList.map kw ++ r.map kw) = 0 then gchkE g.nf else 8)), hp) := by
 intro r
 induction r with
 | nil =>
  intro p i hr hp0 hps
  have := qw hr
  have hlt : ¬((i : Int) < (g.L.length : Int)) := by omega
  have ho : ordG (p.toList.map kw ++ ([] : List Nat).map kw) = 0 := by cases p <;> rfl
  have n1 := kw_isN hg.lo
  have n2 := kw_isN hg.hi
  rw [if_pos ho, B67_4_eq]
  unfold gchkE Gs.nf
  by_cases h1 : isN g.lo
  ·have h1' := n1.mp h1
   simp [hlt, qc, zJ, h1, h1', B67_10_eq]
  ·have h1' : ¬(kw g.lo = nanK) := fun e => h1 (n1.mpr e)
   by_cases h2 : isN g.hi
   ·have h2' := n2.mp h2
    simp [hlt, qc, zJ, h1, h2, h2', B67_10_eq]
   ·have h2' : ¬(kw g.hi = nanK) := fun e => h2 (n2.mpr e)
    simp [hlt, qc, zJ, h1, h2, h1', h2', B67_11_eq]
 | cons x r ih =>
  intro p i hr hp0 hps
  obtain ⟨e1, e2, hi, e3⟩ := qr hr
  have hx := hg.L x (List.mem_of_getElem? e1)
  have hln := hg.len
  have hw : IntKind.i64.wrap ((i : Int) + 1) = ((i + 1 : Nat) : Int) := by rw [qg] <;> omega
  have h := ih (some x) (i + 1) e2 (by simp) (fun q hq => by simp at hq; subst hq; simpa using e1)
  have g1 : (LF g.L)[i]? = some (fl x) := by simp [LF, e1]
  rw [B67_4_eq]
  cases p with
  | none =>
   obtain rfl : i = 0 := hp0.mp rfl
   simp at g1 h hw
   simp [hi, qc, g1, hw, h, B67_8_eq]
  | some q =>
   have hi0 : i ≠ 0 := fun e => by have := hp0.mpr e; cases this
   have hq := hps q rfl
   have hq64 := hg.L q (List.mem_of_getElem? hq)
   have hpos : 0 < i := by omega
   simp at h hw
   have w1 : IntKind.i64.wrap ((i : Int) - 1) = ((i - 1 : Nat) : Int) := by rw [qg] <;> omega
   have g2 : (LF g.L)[i - 1]? = some (fl q) := by simp [LF, hq]
   have ls := fun hp => run_less x q hx hq64 hp
   by_cases hl : kw x < kw q
   ·simp [hi, e3, qc, getC, g1, hpos, w1, g2, ls, hl, B67_7_eq, ordG]
   ·simp [hi, e3, qc, getC, g1, hpos, w1, g2, ls, hl, hw, h, B67_8_eq, ordG]
theorem run_gcheck (K : Int) (g : Gs) (k : Nat) (hg : g.W) (hp : Hp) : run cxX 67 [g.av K k] hp = some (.sc (.int .i64 (gchk K g.nf)), hp) := by
 rw [E67]
 have b2 : B67_2 hp = some (.sc (.int .i64 2), hp) := by rw [B67_2_eq]; simp
 have hl : g.nf.L.length = g.L.length := by simp [Gs.nf]
 unfold gchk
 rw [hl]
 by_cases h1 : K < 1
 ·simp [qc, h1, b2]
 ·by_cases h2 : 16 < K
  ·simp [qc, h1, h2, b2]
  ·by_cases h3 : K < (g.L.length : Int)
   ·simp [qc, getC, h1, h2, h3, b2]
   ·have l := gcheck_loop K g (rk k) hg hp g.L none 0 rfl (by simp) (by simp)
    have e : g.nf.L = g.L.map kw := rfl
    simp at l
    simp [qc, getC, h1, h2, h3, B67_3_eq, l, e]
def gmgN (K : Int) (g o : GN) : GN := ⟨plus g.M o.M, plus g.e0 o.e0, plus g.e1 o.e1, plus g.e2 o.e2, plus g.e3 o.e3, plus g.e4 o.e4, plus g.e5 o.e5, min g.lo o.lo, max g.hi o.hi, (mk g.L o.L).take K.toNat⟩
theorem xh {a b : Int} (ha : qJ a) (hb : qJ b) : qJ (plus a b) := by
 unfold qJ at *; unfold plus; split <;> omega
theorem gmg_nf (K : Int) (g o : Gs) : (gmg K g o).nf = gmgN K g.nf o.nf := by
 simp only [Gs.nf, gmg, gmgN, kw_fmin, kw_fmax, ← gm_keys _ _ _ rfl, List.map_take]
theorem gmg_W {K : Int} {g o : Gs} (hK : K ≤ 100000) (hg : g.W) (ho : o.W) : (gmg K g o).W where
 M := xh hg.M ho.M
 e0 := xh hg.e0 ho.e0
 e1 := xh hg.e1 ho.e1
 e2 := xh hg.e2 ho.e2
 e3 := xh hg.e3 ho.e3
 e4 := xh hg.e4 ho.e4
 e5 := xh hg.e5 ho.e5
 lo := fmin_lt hg.lo ho.lo
 hi := fmax_lt hg.hi ho.hi
 L := fun w hw => by
  rcases mem_gm w _ _ _ rfl (List.mem_of_mem_take hw) with h | h
  ·exact hg.L w h
  ·exact ho.L w h
 len := by
  show ((gm g.L o.L).take K.toNat).length ≤ 100000
  rw [List.length_take]; omega
theorem gchk_ok {K : Int} {g : GN} : gchk K g = 0 ↔ (1 ≤ K ∧ K ≤ 16) ∧ (g.L.length : Int) ≤ K ∧ Up g.L ∧ g.lo ≠ nanK ∧ g.hi ≠ nanK := by
 unfold gchk gchkE
 constructor
 ·intro h
  split at h
  ·cases h
  ·split at h
   ·split at h
    ·cases h
    ·rename_i h1 h2 h3
     exact ⟨by omega, by omega, ordG_up h2, fun e => h3 (.inl e), fun e => h3 (.inr e)⟩
   ·cases h
 ·rintro ⟨h1, h2, h3, h4, h5⟩
  rw [if_neg (by omega), if_pos (up_ordG h3), if_neg (fun e => e.elim h4 h5)]
theorem gchk_merge {K : Int} {g o : GN} (hg : gchk K g = 0) (ho : gchk K o = 0) : gchk K (gmgN K g o) = 0 := by
 rw [gchk_ok] at *
 obtain ⟨h1, h2, h3, h4, h5⟩ := hg
 obtain ⟨f1, f2, f3, f4, f5⟩ := ho
 refine ⟨h1, ?_, ?_, ?_, ?_⟩
 ·simp only [gmgN, List.length_take]; omega
 ·exact List.Pairwise.sublist (List.take_sublist _ _) (mk_up _ _ h3 f3)
 ·show min g.lo o.lo ≠ nanK; omega
 ·show max g.hi o.hi ≠ nanK; omega
def GN.Pos (g : GN) : Prop := qJ g.M ∧ qJ g.e0 ∧ qJ g.e1 ∧ qJ g.e2 ∧ qJ g.e3 ∧ qJ g.e4 ∧ qJ g.e5
theorem Gs.W.pos {g : Gs} (h : g.W) : g.nf.Pos := ⟨h.M, h.e0, h.e1, h.e2, h.e3, h.e4, h.e5⟩
theorem in0 : qJ 0 := ⟨by decide, by decide⟩
theorem gnew_W : gnew.W := ⟨in0, in0, in0, in0, in0, in0, in0, by decide, by decide, by simp [gnew, Ws], by decide⟩
structure SkN where
 kind : Int
 set : List Int
 K : Int
 hs : List Int
 P : Int
 rg : List Int
 B : Int
 H : Int
 bs : List Int
 R : Int
 C : Int
 cs : List Int
 gK : Int
 g : GN
deriving DecidableEq
def gz : Gs := ⟨0, 0, 0, 0, 0, 0, 0, 0, 0, []⟩
theorem gz_W : gz.W := ⟨in0, in0, in0, in0, in0, in0, in0, by decide, by decide, by simp [gz, Ws], by decide⟩
def skZ : SkN := ⟨0, [], 0, [], 0, [], 0, 0, [], 0, 0, [], 0, gz.nf⟩
def skA (x : SkN) (g : Gs) (a b c d e f : Nat) : AV := .agg [.sc (.int .u8 x.kind), S a 1 (LI .u32 x.set), .sc (.int .i64 x.K), S b 1 (LI .u64 x.hs), .sc (.int .i64 x.P), S c 1 (LI .u8 x.rg), .sc (.int .i64 x.B), .sc (.int .i64 x.H), S d 1 (LI .u32 x.bs), .sc (.int .i64 x.R), .sc (.int .i64 x.C), S e 1 (LI .u32 x.cs),
 .sc (.int .i64 x.gK), .sc (.int .u32 g.M), .sc (.int .u32 g.e0), .sc (.int .u32 g.e1), .sc (.int .u32 g.e2), .sc (.int .u32 g.e3), .sc (.int .u32 g.e4), .sc (.int .u32 g.e5), fl g.lo, fl g.hi, S f 1 (LF g.L)]
def IsSk (x : SkN) (v : AV) : Prop := ∃ g a b c d e f, g.W ∧ g.nf = x.g ∧ v = skA x g a b c d e f
structure SkN.W (x : SkN) : Prop where
 kind : 0 ≤ x.kind ∧ x.kind < 256
 set : U32 x.set
 setL : x.set.length ≤ 100000
 hsL : x.hs.length ≤ 100000
 rg : ∀ n ∈ x.rg, 0 ≤ n ∧ n < 256
 rgL : x.rg.length ≤ 100000
 bs : U32 x.bs
 bsL : x.bs.length ≤ 100000
 cs : U32 x.cs
 csL : x.cs.length ≤ 100000
theorem skZ_W : skZ.W := ⟨by decide, by simp [skZ, U32], by decide, by decide, by simp [skZ], by decide, by simp [skZ, U32], by decide, by simp [skZ, U32], by decide⟩
def skEq (x y : SkN) : Prop := x.kind = y.kind ∧ x.set = y.set ∧ (x.K = y.K ∧ x.hs = y.hs) ∧ (x.P = y.P ∧ x.rg = y.rg) ∧ (x.B = y.B ∧ x.H = y.H ∧ x.bs = y.bs) ∧ (x.R = y.R ∧ x.C = y.C ∧ x.cs = y.cs) ∧ x.gK = y.gK ∧ x.g = y.g
instance (x y : SkN) : Decidable (skEq x y) := by unfold skEq; infer_instance
theorem skEq_iff (x y : SkN) : skEq x y ↔ x = y := by
 cases x; cases y
 simp only [skEq, SkN.mk.injEq]
 constructor
 ·rintro ⟨h1, h2, ⟨h3, h4⟩, ⟨h5, h6⟩, ⟨h7, h8, h9⟩, ⟨h10, h11, h12⟩, h13, h14⟩
  exact ⟨h1, h2, h3, h4, h5, h6, h7, h8, h9, h10, h11, h12, h13, h14⟩
 ·rintro ⟨h1, h2, h3, h4, h5, h6, h7, h8, h9, h10, h11, h12, h13, h14⟩
  exact ⟨h1, h2, ⟨h3, h4⟩, ⟨h5, h6⟩, ⟨h7, h8, h9⟩, ⟨h10, h11, h12⟩, h13, h14⟩
theorem run_sksame {x y : SkN} {v u : AV} (hv : IsSk x v) (hu : IsSk y u) (wx : x.W) (wy : y.W) (hp : Hp) : run cxX 60 [v, u] hp = some (.sc (.bool (decide (x = y))), hp) := by
 obtain ⟨g, a, b, c, d, e, f, gw, gn, rfl⟩ := hv
 obtain ⟨g', a', b', c', d', e', f', gw', gn', rfl⟩ := hu
 have hd : decide (x = y) = decide (skEq x y) := decide_eq_decide.mpr (skEq_iff x y).symm
 have r1 := fun k k' hp => run_ssame x.set y.set k k' hp (by have := wx.setL; omega)
 have r2 := fun k k' hp => run_ksame x.K y.K x.hs y.hs k k' hp (by have := wx.hsL; omega) (by have := wy.hsL; omega)
 have r3 := fun k k' hp => run_hsame x.P y.P x.rg y.rg k k' wx.rg wy.rg hp
 have r4 := fun k k' hp => run_same x.B x.H y.B y.H x.bs y.bs k k' hp (by have := wx.bsL; omega) (by have := wy.bsL; omega)
 have r5 := fun k k' hp => run_csame x.R x.C y.R y.C x.cs y.cs k k' hp (by have := wx.csL; omega)
 have r6 := fun k k' hp => run_gsameD x.gK y.gK g g' k k' gw gw' hp
 rw [hd, E60]
 unfold skA
 by_cases h1 : x.kind = y.kind
 ·by_cases h2 : x.set = y.set
  ·simp only [eq_true h2, decide_true] at r1
   by_cases h3 : x.K = y.K ∧ x.hs = y.hs
   ·simp only [eq_true h3, decide_true] at r2
    by_cases h4 : x.P = y.P ∧ x.rg = y.rg
    ·simp only [eq_true h4, decide_true] at r3
     by_cases h5 : x.B = y.B ∧ x.H = y.H ∧ x.bs = y.bs
     ·simp only [eq_true h5, decide_true] at r4
      by_cases h6 : x.R = y.R ∧ x.C = y.C ∧ x.cs = y.cs
      ·simp only [eq_true h6, decide_true] at r5
       have e : decide (skEq x y) = decide (x.gK = y.gK ∧ x.g = y.g) := decide_eq_decide.mpr ⟨fun h => h.2.2.2.2.2.2, fun h => ⟨h1, h2, h3, h4, h5, h6, h⟩⟩
       rw [gn, gn'] at r6
       rw [e]
       simp [qc, getC, getN, eq_true h1, r1, r2, r3, r4, r5, r6]
      ·simp only [eq_false h6, decide_false] at r5
       rw [decide_eq_false (fun h : skEq x y => h6 h.2.2.2.2.2.1)]
       simp [qc, getC, getN, eq_true h1, r1, r2, r3, r4, r5]
     ·simp only [eq_false h5, decide_false] at r4
      rw [decide_eq_false (fun h : skEq x y => h5 h.2.2.2.2.1)]
      simp [qc, getC, getN, eq_true h1, r1, r2, r3, r4]
    ·simp only [eq_false h4, decide_false] at r3
     rw [decide_eq_false (fun h : skEq x y => h4 h.2.2.2.1)]
     simp [qc, getC, getN, eq_true h1, r1, r2, r3]
   ·simp only [eq_false h3, decide_false] at r2
    rw [decide_eq_false (fun h : skEq x y => h3 h.2.2.1)]
    simp [qc, getC, getN, eq_true h1, r1, r2]
  ·simp only [eq_false h2, decide_false] at r1
   rw [decide_eq_false (fun h : skEq x y => h2 h.2.1)]
   simp [qc, getC, eq_true h1, r1]
 ·rw [decide_eq_false (fun h : skEq x y => h1 h.1)]
  simp [qc, h1]
def onlyN (x : SkN) : SkN :=
 if x.kind = 0 then { skZ with kind := x.kind, set := x.set }
 else if x.kind = 1 then { skZ with kind := x.kind, K := x.K, hs := x.hs }
 else if x.kind = 2 then { skZ with kind := x.kind, P := x.P, rg := x.rg }
 else if x.kind = 3 then { skZ with kind := x.kind, B := x.B, H := x.H, bs := x.bs }
 else if x.kind = 4 then { skZ with kind := x.kind, R := x.R, C := x.C, cs := x.cs }
 else if x.kind = 5 then { skZ with kind := x.kind, gK := x.gK, g := x.g }
 else { skZ with kind := x.kind }
theorem onlyN_W {x : SkN} (h : x.W) : (onlyN x).W := by
 have z := skZ_W
 unfold onlyN
 repeat' split
 ·exact ⟨h.kind, h.set, h.setL, z.hsL, z.rg, z.rgL, z.bs, z.bsL, z.cs, z.csL⟩
 ·exact ⟨h.kind, z.set, z.setL, h.hsL, z.rg, z.rgL, z.bs, z.bsL, z.cs, z.csL⟩
 ·exact ⟨h.kind, z.set, z.setL, z.hsL, h.rg, h.rgL, z.bs, z.bsL, z.cs, z.csL⟩
 ·exact ⟨h.kind, z.set, z.setL, z.hsL, z.rg, z.rgL, h.bs, h.bsL, z.cs, z.csL⟩
 ·exact ⟨h.kind, z.set, z.setL, z.hsL, z.rg, z.rgL, z.bs, z.bsL, h.cs, h.csL⟩
 ·exact ⟨h.kind, z.set, z.setL, z.hsL, z.rg, z.rgL, z.bs, z.bsL, z.cs, z.csL⟩
 ·exact ⟨h.kind, z.set, z.setL, z.hsL, z.rg, z.rgL, z.bs, z.bsL, z.cs, z.csL⟩
theorem run_skonly {x : SkN} {v : AV} (hv : IsSk x v) (hp : Hp) : ∃ r, IsSk (onlyN x) r ∧ run cxX 61 [v] hp = some (r, hp) := by
 obtain ⟨g, a, b, c, d, e, f, gw, gn, rfl⟩ := hv
 rw [E61]
 unfold onlyN
 by_cases h0 : x.kind = 0
 ·rw [if_pos h0]
  refine ⟨skA { skZ with kind := x.kind, set := x.set } gz (rk a) 2 2 2 2 2, ⟨gz, _, _, _, _, _, _, gz_W, rfl, rfl⟩, ?_⟩
  simp [skA, skZ, gz, LF, qc, getC, getN, putN, h0, jx]
 ·rw [if_neg h0]
  by_cases h1 : x.kind = 1
  ·rw [if_pos h1]
   refine ⟨skA { skZ with kind := x.kind, K := x.K, hs := x.hs } gz 2 (rk b) 2 2 2 2, ⟨gz, _, _, _, _, _, _, gz_W, rfl, rfl⟩, ?_⟩
   simp [skA, skZ, gz, LF, qc, getC, getN, putN, h1, jx]
  ·rw [if_neg h1]
   by_cases h2 : x.kind = 2
   ·rw [if_pos h2]
    refine ⟨skA { skZ with kind := x.kind, P := x.P, rg := x.rg } gz 2 2 (rk c) 2 2 2, ⟨gz, _, _, _, _, _, _, gz_W, rfl, rfl⟩, ?_⟩
    simp [skA, skZ, gz, LF, qc, getC, getN, putN, h2, jx]
   ·rw [if_neg h2]
    by_cases h3 : x.kind = 3
    ·rw [if_pos h3]
     refine ⟨skA { skZ with kind := x.kind, B := x.B, H := x.H, bs := x.bs } gz 2 2 2 (rk d) 2 2, ⟨gz, _, _, _, _, _, _, gz_W, rfl, rfl⟩, ?_⟩
     simp [skA, skZ, gz, LF, qc, getC, getN, putN, h3, jx]
    ·rw [if_neg h3]
     by_cases h4 : x.kind = 4
     ·rw [if_pos h4]
      refine ⟨skA { skZ with kind := x.kind, R := x.R, C := x.C, cs := x.cs } gz 2 2 2 2 (rk e) 2, ⟨gz, _, _, _, _, _, _, gz_W, rfl, rfl⟩, ?_⟩
      simp [skA, skZ, gz, LF, qc, getC, getN, putN, h4, jx]
     ·rw [if_neg h4]
      by_cases h5 : x.kind = 5
      ·rw [if_pos h5]
       refine ⟨skA { skZ with kind := x.kind, gK := x.gK, g := x.g } g 2 2 2 2 2 (rk f), ⟨g, _, _, _, _, _, _, gw, gn, rfl⟩, ?_⟩
       simp [skA, skZ, gz, LF, qc, getC, getN, putN, h5, jx]
      ·rw [if_neg h5]
       refine ⟨skA { skZ with kind := x.kind } gz 2 2 2 2 2 2, ⟨gz, _, _, _, _, _, _, gz_W, rfl, rfl⟩, ?_⟩
       simp [skA, skZ, gz, LF, qc, getC, getN, putN, h0, h1, h2, h3, h4, h5, jx]
def checkN (x : SkN) : Int :=
 if 6 ≤ x.kind then 5 else if x ≠ onlyN x then 4
 else if x.kind = 0 then schk x.set else if x.kind = 1 then kchk x.K x.hs else if x.kind = 2 then hchk x.P x.rg else if x.kind = 3 then bchk x.B x.H x.bs else if x.kind = 4 then cchk x.R x.C x.cs else gchk x.gK x.g
theorem zA {x : SkN} {g : Gs} (gw : g.W) (gn : g.nf = x.g) (a b c d e f : Nat) : IsSk x (skA x g a b c d e f) := ⟨g, a, b, c, d, e, f, gw, gn, rfl⟩
theorem IsSk.vl {x : SkN} {v : AV} (h : IsSk x v) : vlF v = true ∧ vlV v = true := by
 obtain ⟨g, a, b, c, d, e, f, gw, gn, rfl⟩ := h
 unfold skA
 constructor <;> simp
theorem IsSk.ro {x : SkN} {v : AV} (h : IsSk x v) : IsSk x (ro v) := by
 obtain ⟨g, a, b, c, d, e, f, gw, gn, rfl⟩ := h
 refine ⟨g, rk a, rk b, rk c, rk d, rk e, rk f, gw, gn, ?_⟩
 simp [skA]
theorem yA {x : SkN} {v : AV} (hv : IsSk x v) (w : x.W) (hp : Hp) : run cxX 23 [v] hp = some (.sc (.int .i64 (checkN x)), hp) := by
 obtain ⟨g, a, b, c, d, e, f, gw, gn, rfl⟩ := hv
 obtain ⟨o, ho, hr⟩ := run_skonly (zA gw gn (rk a) (rk b) (rk c) (rk d) (rk e) (rk f)) hp0
 have sm := run_sksame (zA gw gn (rk a) (rk b) (rk c) (rk d) (rk e) (rk f)) ho.ro w (onlyN_W w) hp0
 have vo := ho.vl
 have vo' := ho.ro.vl
 have hnt : qM o = some () := by
  obtain ⟨g, a, b, c, d, e, f, gw, gn, rfl⟩ := ho
  rfl
 have hrr : AI.ro (AI.ro o) = AI.ro o := by
  obtain ⟨g, a, b, c, d, e, f, gw, gn, rfl⟩ := ho
  simp [skA]
 have r1 := fun k hp => run_scheck x.set k hp
 have r2 := fun k hp => run_kcheck x.K x.hs k (by have := w.hsL; omega) hp
 have r3 := fun k hp => run_hcheck x.P x.rg k (by have := w.rgL; omega) w.rg hp
 have r4 := fun k hp => run_check x.B x.H x.bs k (by have := w.bsL; omega) w.bs hp
 have r5 := fun k hp => run_ccheck x.R x.C x.cs k (by have := w.csL; omega) hp
 have r6 := fun k hp => run_gcheck x.gK g k gw hp
 rw [gn] at r6
 rw [E23]
 unfold checkN
 unfold skA at hr sm ⊢
 by_cases h6 : 6 ≤ x.kind
 ·simp [qc, h6]
 ·rw [if_neg h6]
  by_cases ho' : x = onlyN x
  ·rw [if_neg (fun h => h ho')]
   simp only [eq_true ho', decide_true] at sm
   by_cases h0 : x.kind = 0
   ·simp only [h0] at hr sm
    simp [qc, getC, getN, h6, hr, vo, vo', hnt, sm, h0, r1]
   ·by_cases h1 : x.kind = 1
    ·simp only [h1] at hr sm
     simp [qc, getC, getN, h6, hr, vo, vo', hnt, sm, h1, r2]
    ·by_cases h2 : x.kind = 2
     ·simp only [h2] at hr sm
      simp [qc, getC, getN, h6, hr, vo, vo', hnt, sm, h2, r3]
     ·by_cases h3 : x.kind = 3
      ·simp only [h3] at hr sm
       simp [qc, getC, getN, h6, hr, vo, vo', hnt, sm, h3, r4]
      ·by_cases h4 : x.kind = 4
       ·simp only [h4] at hr sm
        simp [qc, getC, getN, h6, hr, vo, vo', hnt, sm, h4, r5]
       ·simp [qc, getC, getN, h6, hr, vo, vo', hnt, sm, h0, h1, h2, h3, h4, r6]
  ·rw [if_pos ho']
   simp only [eq_false ho', decide_false] at sm
   simp [qc, getC, getN, h6, hr, vo, vo', hnt, sm]
theorem chkL_rise {B : Int} : ∀ (l : List Int) (p : Option Int), chkL B p l = 0 → (match p with | none => Rise l | some q => Rise (q :: l)) ∧ ∀ n ∈ l, n < B
 | [], none, _ => ⟨List.Pairwise.nil, by simp⟩
 | [], some q, _ => ⟨by simp, by simp⟩
 | x :: l, p, h => by
  unfold chkL at h
  split at h
  ·cases h
  ·rename_i h1
   split at h
   ·have ih := chkL_rise l (some x) h
    refine ⟨ih.1, fun n hn => ?_⟩
    rcases List.mem_cons.mp hn with rfl | hn
    ·omega
    ·exact ih.2 n hn
   ·split at h
    ·cases h
    ·rename_i q h2
     have ih := chkL_rise l (some x) h
     refine ⟨?_, fun n hn => ?_⟩
     ·have hr : Rise (x :: l) := ih.1
      refine List.pairwise_cons.mpr ⟨fun n hn => ?_, hr⟩
      rcases List.mem_cons.mp hn with rfl | hn
      ·omega
      ·have := (List.pairwise_cons.mp hr).1 n hn; omega
     ·rcases List.mem_cons.mp hn with rfl | hn
      ·omega
      ·exact ih.2 n hn
theorem good_chk {B H : Int} {l : List Int} (h : bchk B H l = 0) (hl : U32 l) : (1 ≤ B ∧ B ≤ 4096) ∧ (1 ≤ H ∧ H ≤ 8) ∧ Good B l := by
 unfold bchk at h
 split at h
 ·cases h
 ·have c := chkL_rise l none h
  exact ⟨by omega, by omega, c.1, fun n hn => ⟨(hl n hn).1, c.2 n hn⟩⟩
theorem schk_ok {l : List Int} : schk l = 0 ↔ l.length ≤ 4096 ∧ Rise l := by
 unfold schk
 constructor
 ·intro h
  split at h
  ·cases h
  ·exact ⟨by omega, rise_ordS h⟩
 ·rintro ⟨h1, h2⟩
  rw [if_neg (by omega)]; exact ordS_rise h2
theorem ordL_rise : ∀ {l : List Int}, Rise l → ordL l = 0
 | [], _ => rfl
 | [_], _ => rfl
 | x :: y :: r, h => by
  have h' := List.pairwise_cons.mp h
  have hxy := h'.1 y (by simp)
  show (if y ≤ x then 8 else ordL (y :: r)) = 0
  rw [if_neg (by omega)]
  exact ordL_rise h'.2
theorem rise_ordL : ∀ {l : List Int}, ordL l = 0 → Rise l
 | [], _ => List.Pairwise.nil
 | [_], _ => by simp
 | x :: y :: r, h => by
  have h : (if y ≤ x then 8 else ordL (y :: r)) = 0 := h
  split at h
  ·cases h
  ·rename_i hxy
   have ih := rise_ordL h
   have ih' := List.pairwise_cons.mp ih
   refine List.pairwise_cons.mpr ⟨fun n hn => ?_, ih⟩
   rcases List.mem_cons.mp hn with rfl | hn
   ·omega
   ·have := ih'.1 n hn; omega
theorem kchk_ok {K : Int} {l : List Int} : kchk K l = 0 ↔ (1 ≤ K ∧ K ≤ 1024) ∧ (l.length : Int) ≤ K ∧ Rise l := by
 unfold kchk
 constructor
 ·intro h
  split at h
  ·cases h
  ·split at h
   ·cases h
   ·exact ⟨by omega, by omega, rise_ordL h⟩
 ·rintro ⟨h1, h2, h3⟩
  rw [if_neg (by omega), if_neg (by omega)]; exact ordL_rise h3
theorem hchk_ok {P : Int} {l : List Int} : hchk P l = 0 ↔ (4 ≤ P ∧ P ≤ 8) ∧ l.length = hpow P ∧ ∀ n ∈ l, n ≤ 65 - P := by
  unfold hchk hchkR
  constructor
  · intro h
    split at h
    · cases h
    · split at h
      · cases h
      · split at h
        · cases h
        · rename_i h1 h2 h3
          exact ⟨by omega, by simpa using h2, fun n hn => by
            by_cases hlt : 65 - P < n
            · exact absurd ⟨n, hn, hlt⟩ h3
            · omega⟩
  · rintro ⟨h1, h2, h3⟩
    rw [if_neg (by omega), if_neg (by simpa using h2), if_neg]
    rintro ⟨n, hn, hlt⟩
    have := h3 n hn
    omega
theorem cchk_ok {R C : Int} {l : List Int} : cchk R C l = 0 ↔ (1 ≤ R ∧ R ≤ 8) ∧ (1 ≤ C ∧ C ≤ 256) ∧ (l.length : Int) = R * C := by
 unfold cchk
 constructor
 ·intro h
  split at h
  ·cases h
  ·split at h
   ·cases h
   ·rename_i h1 h2
    exact ⟨by omega, by omega, by simpa using h2⟩
 ·rintro ⟨h1, h2, h3⟩
  rw [if_neg (by omega), if_neg (by simpa using h3)]
theorem qU {x : SkN} : checkN x = 0 ↔ x.kind < 6 ∧ x = onlyN x ∧ (if x.kind = 0 then schk x.set else if x.kind = 1 then kchk x.K x.hs else if x.kind = 2 then hchk x.P x.rg else if x.kind = 3 then bchk x.B x.H x.bs else if x.kind = 4 then cchk x.R x.C x.cs else gchk x.gK x.g) = 0 := by
 unfold checkN
 constructor
 ·intro h
  split at h
  ·cases h
  ·split at h
   ·cases h
   ·rename_i h1 h2
    exact ⟨by omega, by simpa using h2, h⟩
 ·rintro ⟨h1, h2, h3⟩
  rw [if_neg (by omega), if_neg (by simpa using h2)]; exact h3
structure SkN.W2 (x : SkN) : Prop extends x.W where
 set2 : x.set.length ≤ 50000
 hs2 : x.hs.length ≤ 50000
 bs2 : x.bs.length ≤ 50000
 gK2 : x.kind = 5 → x.gK ≤ 100000
def skL (x : SkN) (g : Gs) (a b c d e f : Nat) : List AV := [.sc (.int .u8 x.kind), S a 1 (LI .u32 x.set), .sc (.int .i64 x.K), S b 1 (LI .u64 x.hs), .sc (.int .i64 x.P), S c 1 (LI .u8 x.rg), .sc (.int .i64 x.B), .sc (.int .i64 x.H), S d 1 (LI .u32 x.bs), .sc (.int .i64 x.R), .sc (.int .i64 x.C), S e 1 (LI .u32 x.cs),
 .sc (.int .i64 x.gK), .sc (.int .u32 g.M), .sc (.int .u32 g.e0), .sc (.int .u32 g.e1), .sc (.int .u32 g.e2), .sc (.int .u32 g.e3), .sc (.int .u32 g.e4), .sc (.int .u32 g.e5), fl g.lo, fl g.hi, S f 1 (LF g.L)]
def skZL : List AV := [.sc (.int .u8 0), .sc (.slice none 0 0), .sc (.int .i64 0), .sc (.slice none 0 0), .sc (.int .i64 0), .sc (.slice none 0 0), .sc (.int .i64 0), .sc (.int .i64 0), .sc (.slice none 0 0), .sc (.int .i64 0), .sc (.int .i64 0), .sc (.slice none 0 0), .sc (.int .i64 0), .sc (.int .u32 0), .sc (.int .u32 0), .sc (.int .u32 0), .sc (.int .u32 0), .sc (.int .u32 0), .sc (.int .u32 0), .sc (.int .u32 0), fl 0, fl 0, .sc (.slice none 0 0)]
theorem hadd_u8 {P : Int} {l : List Int} {h : Int} (hP : 4 ≤ P ∧ P ≤ 8) (hl : ∀ n ∈ l, 0 ≤ n ∧ n < 256) : ∀ n ∈ hadd P l h, 0 ≤ n ∧ n < 256 := by
 unfold hadd
 split
 ·rename_i hi
  intro n hn
  rcases List.mem_or_eq_of_mem_set hn with hn | rfl
  ·exact hl n hn
  ·have h1 := hrow_in (h := h) hP
   have h2 := hl l[hplc P h] (List.getElem_mem hi)
   have e : l.getD (hplc P h) 0 = l[hplc P h] := by simp [hi]
   rw [e]; omega
 ·exact hl
structure Fine (x : SkN) : Prop where
 w : x.W
 c : checkN x = 0
 pos : x.g.Pos
theorem gz_pos : gz.nf.Pos := gz_W.pos
theorem Fine.W2 {x : SkN} (h : Fine x) : x.W2 := by
 obtain ⟨kd, on, sp⟩ := qU.mp h.c
 have w := h.w
 refine ⟨w, ?_, ?_, ?_, ?_⟩
 ·rw [on]; unfold onlyN
  by_cases k0 : x.kind = 0
  ·rw [if_pos k0] at sp ⊢
   have := (schk_ok.mp sp).1
   show x.set.length ≤ _; omega
  ·rw [if_neg k0]
   repeat' split
   all_goals exact Nat.zero_le _
 ·rw [on]; unfold onlyN
  by_cases k0 : x.kind = 0
  ·rw [if_pos k0]; exact Nat.zero_le _
  ·rw [if_neg k0] at sp ⊢
   by_cases k1 : x.kind = 1
   ·rw [if_pos k1] at sp ⊢
    have := kchk_ok.mp sp
    show x.hs.length ≤ _; omega
   ·rw [if_neg k1]
    repeat' split
    all_goals exact Nat.zero_le _
 ·rw [on]; unfold onlyN
  by_cases k3 : x.kind = 3
  ·have n0 : ¬(x.kind = 0) := by omega
   have n1 : ¬(x.kind = 1) := by omega
   have n2 : ¬(x.kind = 2) := by omega
   rw [if_neg n0, if_neg n1, if_neg n2, if_pos k3] at sp ⊢
   obtain ⟨hB, hH, hg⟩ := good_chk sp w.bs
   have := hg.len hB.2
   show x.bs.length ≤ _; omega
  ·repeat' split
   all_goals first | exact Nat.zero_le _ | (exfalso; omega)
 ·intro k5
  have n0 : ¬(x.kind = 0) := by omega
  have n1 : ¬(x.kind = 1) := by omega
  have n2 : ¬(x.kind = 2) := by omega
  have n3 : ¬(x.kind = 3) := by omega
  have n4 : ¬(x.kind = 4) := by omega
  rw [if_neg n0, if_neg n1, if_neg n2, if_neg n3, if_neg n4] at sp
  have := gchk_ok.mp sp
  omega
theorem six {x : SkN} (h : x.W) (hk : x.kind < 6) : x.kind = 0 ∨ x.kind = 1 ∨ x.kind = 2 ∨ x.kind = 3 ∨ x.kind = 4 ∨ x.kind = 5 := by
 have := h.kind; omega
def tn (l : List Int) : List Nat := l.map Int.toNat
@[simp] theorem tn_len (l : List Int) : (tn l).length = l.length := by simp [tn]
theorem nz_tn : ∀ {l : List Int}, (∀ n ∈ l, 0 ≤ n) → nz (tn l) = l := by
 intro l
 induction l with
 | nil => intro _; rfl
 | cons x r ih =>
  intro h
  have hx := h x (by simp)
  have e : nz (tn (x :: r)) = (x.toNat : Int) :: nz (tn r) := rfl
  rw [e, ih (fun n hn => h n (by simp [hn])), Int.toNat_of_nonneg hx]
theorem tn_mem {l : List Int} {B : Nat} (h : ∀ n ∈ l, 0 ≤ n ∧ n < (B : Int)) : ∀ x ∈ tn l, x < B := by
 intro x hx
 obtain ⟨n, hn, rfl⟩ := List.mem_map.mp hx
 have := h n hn
 omega
theorem rise_tn : ∀ {l : List Int}, (∀ n ∈ l, 0 ≤ n) → Rise l → zw (tn l) := by
 intro l
 induction l with
 | nil => intro _ _; trivial
 | cons x r ih =>
  intro h hr
  cases r with
  | nil => trivial
  | cons y s =>
   have hx := h x (by simp)
   have hy := h y (by simp)
   have h1 := (List.pairwise_cons.mp hr).1 y (by simp)
   exact ⟨by omega, ih (fun n hn => h n (by simp [hn])) (List.pairwise_cons.mp hr).2⟩
theorem rising_nofall : ∀ {l : List Nat}, zw l → jk l := by
 intro l
 induction l with
 | nil => intro _; trivial
 | cons x r ih =>
  intro h
  cases r with
  | nil => trivial
  | cons y s => exact ⟨Nat.le_of_lt h.1, ih h.2⟩
def pcnt (c : Int) : List Int → Nat → Int → List Int
 | [], _, _ => []
 | n :: r, i, last => uv (zz (n - if (i : Int) % max c 1 = 0 then 0 else last)) ++ pcnt c r (i + 1) n
theorem rem_max (c : Int) (i : Nat) (t : TypeId) (x y : Operand) : binV Tryz.prog .rem t x y (.int .i64 (i : Int)) (.int .i64 (max c 1)) = some (.int .i64 ((i : Int) % max c 1)) := by
 rw [qI _ _ _ _ _ _ _ (by omega), qG (by omega)]
theorem wint_le {n m : Int} (hn : 0 ≤ n ∧ n < 4294967296) (hm : 0 ≤ m ∧ m < 4294967296) : (uv (zz (n - m))).length ≤ 10 := qu (zz_lt (by omega) (by omega))
section
variable (c : Int) (l : List Int) (hl : l.length ≤ 4096) (h32 : U32 l)
include hl h32 in
theorem counts_loop (b k : Nat) : ∀ (r : List Int) (i : Nat) (last : Int) (acc : List Int) (hp : Hp), l.drop i = r → hp.rd b 0 = some (Wc acc) → acc.length ≤ 10 * i + 20 → i ≤ l.length → (0 ≤ last ∧ last < 4294967296) →
  B11_2 (.ptr b 0 0) (.int .i64 c) (.int .i64 last) (S k 1 (LI .u32 l)) (.int .i64 l.length) (.int .i64 i) hp = some (.tup [], hp.put b 0 (Wc (acc ++ pcnt c r i last))) := by
 intro r
 induction r with
 | nil =>
  intro i last acc hp hr h ha hil hla
  have := qw hr
  have hlt : ¬((i : Int) < (l.length : Int)) := by omega
  rw [B11_2_eq]
  simp only [pcnt, List.append_nil, zV h]
  simp [hlt]
 | cons x r ih =>
  intro i last acc hp hr h ha hil hla
  obtain ⟨e1, e2, hi, e3⟩ := qr hr
  have hx := h32 x (List.mem_of_getElem? e1)
  have rm := rem_max c i
  obtain ⟨lst, hlst⟩ : ∃ lst : Int, lst = if (i : Int) % max c 1 = 0 then 0 else last := ⟨_, rfl⟩
  have hb : 0 ≤ lst ∧ lst < 4294967296 := by rw [hlst]; split <;> omega
  have le := wint_le hx hb
  have wi := run_wint b (x - lst) acc (by omega) (by omega) hp h
  have ws : IntKind.i64.wrap x = x := qg (by omega) (by omega)
  have wd : IntKind.i64.wrap (x - lst) = x - lst := qg (by omega) (by omega)
  have hw : IntKind.i64.wrap ((i : Int) + 1) = ((i + 1 : Nat) : Int) := by rw [qg] <;> omega
  have hh := ih (i + 1) x (acc ++ uv (zz (x - lst))) (hp.put b 0 (Wc (acc ++ uv (zz (x - lst))))) e2 (qp _ _ _) (by simp; omega) (by omega) hx
  rw [qs] at hh
  have ec : acc ++ pcnt c (x :: r) i last = acc ++ uv (zz (x - lst)) ++ pcnt c r (i + 1) x := by
   rw [hlst, List.append_assoc]; rfl
  rw [ec]
  have b6 : B11_6 (.ptr b 0 0) (.int .i64 c) (.int .i64 lst) (.int .u32 x) (S k 1 (LI .u32 l)) (.int .i64 l.length) (.int .i64 i) hp = some (.tup [], hp.put b 0 (Wc (acc ++ uv (zz (x - lst)) ++ pcnt c r (i + 1) x))) := by
   rw [B11_6_eq]
   simp only [Int.natCast_add, Int.natCast_one] at hw hh
   generalize uv (zz (x - lst)) = u at *
   simp [ws, wd, wi, hw]
   simpa using hh
  rw [B11_2_eq]
  by_cases h0 : (i : Int) % max c 1 = 0
  ·have el : lst = 0 := by rw [hlst, if_pos h0]
   rw [el] at b6
   simp [hi, e3, qc, rm, h0]
   rw [List.append_assoc] at b6
   rw [el]
   exact b6
  ·have el : lst = last := by rw [hlst, if_neg h0]
   rw [el] at b6
   simp [hi, e3, qc, rm, h0]
   rw [List.append_assoc] at b6
   rw [el]
   exact b6
theorem pcnt_len (h32 : U32 l) : ∀ (r : List Int) (i : Nat) (last : Int), (∀ n ∈ r, 0 ≤ n ∧ n < 4294967296) → (0 ≤ last ∧ last < 4294967296) → (pcnt c r i last).length ≤ 10 * r.length
 | [], _, _, _, _ => by simp [pcnt]
 | x :: r, i, last, h, hla => by
  have ih := pcnt_len h32 r (i + 1) x (fun n hn => h n (by simp [hn])) (h x (by simp))
  have le : (uv (zz (x - if (i : Int) % max c 1 = 0 then 0 else last))).length ≤ 10 := wint_le (h x (by simp)) (by split <;> omega)
  simp only [pcnt, List.length_append, List.length_cons]
  omega
include hl h32 in
theorem run_counts (b k : Nat) (acc : List Int) (ha : acc.length ≤ 20) (hp : Hp) (h : hp.rd b 0 = some (Wc acc)) :
  run cxX 11 [.ptr b 0 0, .sc (.int .i64 c), S k 1 (LI .u32 l)] hp = some (.tup [], hp.put b 0 (Wc (acc ++ pcnt c l 0 0))) := by
 have hh := counts_loop c l hl h32 b (rk k) l 0 0 acc hp rfl h (by omega) (by omega) (by omega)
 rw [E11]
 simp at hh
 simpa using hh
end
def gdif (p : Nat) : List Nat → List Int
 | [] => []
 | k :: r => uv (k - p) ++ gdif k r
def gauY (K : Int) (g : GN) : List Int :=
 [K] ++ uv g.M.toNat ++ uv g.e0.toNat ++ uv g.e1.toNat ++ uv g.e2.toNat ++ uv g.e3.toNat ++ uv g.e4.toNat ++ uv g.e5.toNat ++ uv g.lo ++ uv g.hi ++ [(g.L.length : Int)] ++ gdif 0 g.L
theorem ordG_nofall : ∀ {l : List Nat}, ordG l = 0 → jk l := by
 intro l
 induction l with
 | nil => intro _; trivial
 | cons x r ih =>
  intro h
  cases r with
  | nil => trivial
  | cons y s =>
   have h' : (if y < x then 8 else ordG (y :: s)) = 0 := h
   by_cases c : y < x
   ·rw [if_pos c] at h'; cases h'
   ·rw [if_neg c] at h'
    exact ⟨by omega, ih h'⟩
theorem putg_loop (w k : Nat) (L : List Nat) (hL : Ws L) (hlen : L.length ≤ 1000) : ∀ (r : List Nat) (i p : Nat) (Z : List Int) (hp : Hp), L.drop i = r → jk (p :: r.map kw) → p < 18446744073709551616 → Z.length ≤ 1000 + 10 * i → hp.rd w 0 = some (Wc Z) →
  B40_14 (.ptr w 0 0) (.int .u64 (p : Int)) (S k 1 (LF L)) (.int .i64 (L.length : Int)) (.int .i64 (i : Int)) hp = some (.tup [], hp.put w 0 (Wc (Z ++ gdif p (r.map kw)))) := by
 intro r
 induction r with
 | nil =>
  intro i p Z hp h hn hp' hZ hw
  have h1 := qw h
  have hlt : ¬((i : Int) < (L.length : Int)) := by omega
  rw [B40_14_eq]
  simp [hlt, gdif, zV hw]
 | cons x r ih =>
  intro i p Z hp h hn hp' hZ hw
  obtain ⟨e1, e2, hi, e3⟩ := qr h
  have hx : x < 18446744073709551616 := hL x (by rw [← e3]; exact List.getElem_mem _)
  have ky := jP x hx hp0
  have kl := kw_lt x hx
  have hpk : p ≤ kw x := hn.1
  have hlt : (i : Int) < (L.length : Int) := by omega
  have hu := qu (n := kw x - p) (by omega)
  have wu := qQ w (kw x - p) Z (by omega) (by omega) hp hw
  have hi2 := ih (i + 1) (kw x) (Z ++ uv (kw x - p)) (hp.put w 0 (Wc (Z ++ uv (kw x - p)))) e2 hn.2 kl (by simp; omega) (qp _ _ _)
  rw [qs, List.append_assoc] at hi2
  have w1 : IntKind.u64.wrap ((kw x : Int) - (p : Int)) = ((kw x - p : Nat) : Int) := by rw [qt] <;> omega
  have w2 : IntKind.i64.wrap ((i : Int) + 1) = ((i + 1 : Nat) : Int) := by rw [qg] <;> omega
  have e : gdif p ((x :: r).map kw) = uv (kw x - p) ++ gdif (kw x) (r.map kw) := rfl
  have al : (LF L)[i]? = some (fl x) := by
   unfold LF
   rw [List.getElem?_map, e1]; rfl
  have gf : qc [fl x] 0 = asSc (fl x) := rfl
  rw [e, ← hi2, B40_14_eq]
  obtain ⟨F, hF⟩ : ∃ F, fl x = .sc F := ⟨_, rfl⟩
  rw [hF] at ky al
  generalize ((kw x - p : Nat) : Int) = D at *
  generalize ((i + 1 : Nat) : Int) = I at *
  have gs0 : ∀ (v : Value), qc [.sc v] 0 = some v := fun _ => rfl
  have g1 : (0 : Int) ≤ (i : Int) := by omega
  have ix : ∀ k, idxA 1 (S k 1 (LF L)) (.int .i64 (i : Int)) = some [.sc F] := by
   intro k
   rw [idxA_S, if_pos g1, Int.toNat_natCast, al]; rfl
  generalize LF L = LL at *
  simp [hlt, ix, gs0, ky, w1, wu, w2]
theorem ixe (a b c d e f : Int) : ixV Tryz.prog 49 (.agg #[.int .u32 a, .int .u32 b, .int .u32 c, .int .u32 d, .int .u32 e, .int .u32 f]) (.int .i64 0) = some (.int .u32 a)
  ∧ ixV Tryz.prog 49 (.agg #[.int .u32 a, .int .u32 b, .int .u32 c, .int .u32 d, .int .u32 e, .int .u32 f]) (.int .i64 1) = some (.int .u32 b)
  ∧ ixV Tryz.prog 49 (.agg #[.int .u32 a, .int .u32 b, .int .u32 c, .int .u32 d, .int .u32 e, .int .u32 f]) (.int .i64 2) = some (.int .u32 c)
  ∧ ixV Tryz.prog 49 (.agg #[.int .u32 a, .int .u32 b, .int .u32 c, .int .u32 d, .int .u32 e, .int .u32 f]) (.int .i64 3) = some (.int .u32 d)
  ∧ ixV Tryz.prog 49 (.agg #[.int .u32 a, .int .u32 b, .int .u32 c, .int .u32 d, .int .u32 e, .int .u32 f]) (.int .i64 4) = some (.int .u32 e)
  ∧ ixV Tryz.prog 49 (.agg #[.int .u32 a, .int .u32 b, .int .u32 c, .int .u32 d, .int .u32 e, .int .u32 f]) (.int .i64 5) = some (.int .u32 f) := ⟨by kernel_rfl, by kernel_rfl, by kernel_rfl, by kernel_rfl, by kernel_rfl, by kernel_rfl⟩
theorem wu32 (w : Nat) (n : Int) (hn : qJ n) (Z : List Int) (hZ : Z.length ≤ 1000) (hp : Hp) (h : hp.rd w 0 = some (Wc Z)) :
  run cxX 25 [.ptr w 0 0, .sc (.int .u64 n)] hp = some (.tup [], hp.put w 0 (Wc (Z ++ uv n.toNat))) ∧ (uv n.toNat).length ≤ 10 := by
 have h1 : n.toNat < 18446744073709551616 := by have := hn.2; omega
 have hu := qu h1
 have := qQ w n.toNat Z h1 (by omega) hp h
 rw [Int.toNat_of_nonneg hn.1] at this
 exact ⟨this, hu⟩
theorem run_putg (w : Nat) (K : Int) (g : Gs) (k : Nat) (hK : 0 ≤ K ∧ K < 256) (gw : g.W) (hn : ordG g.nf.L = 0) (hlen : g.L.length ≤ 200) (hp : Hp) (h : hp.rd w 0 = some (Wc [])) :
  run cxX 40 [.ptr w 0 0, .agg [.sc (.int .i64 K), .sc (.int .u32 g.M), .sc (.int .u32 g.e0), .sc (.int .u32 g.e1), .sc (.int .u32 g.e2), .sc (.int .u32 g.e3), .sc (.int .u32 g.e4), .sc (.int .u32 g.e5), fl g.lo, fl g.hi, S k 1 (LF g.L)]] hp =
   some (.tup [], hp.put w 0 (Wc (gauY K g.nf))) := by
 have nn := ordG_nofall hn
 have klo := jP g.lo gw.lo hp0
 have khi := jP g.hi gw.hi hp0
 have llo := kw_lt g.lo gw.lo
 have lhi := kw_lt g.hi gw.hi
 have wK : IntKind.u8.wrap K = K := zt hK.1 hK.2
 have w32 : ∀ n, qJ n → IntKind.u64.wrap n = n := fun n hn => qt hn.1 (by have := hn.2; omega)
 have u0 := zb w [] K (by decide) hp h
 rw [List.nil_append] at u0
 obtain ⟨Z0, hZ0⟩ : ∃ Z, Z = [K] := ⟨_, rfl⟩
 rw [← hZ0] at u0
 have l0 : Z0.length ≤ 1 := by rw [hZ0]; simp
 obtain ⟨u1, v1⟩ := wu32 w g.M gw.M Z0 (by omega) _ (qp hp w (Wc Z0))
 obtain ⟨Z1, hZ1⟩ : ∃ Z, Z = Z0 ++ uv g.M.toNat := ⟨_, rfl⟩
 rw [← hZ1, qs] at u1
 have l1 : Z1.length ≤ 11 := by rw [hZ1]; simp; omega
 obtain ⟨u2, v2⟩ := wu32 w g.e0 gw.e0 Z1 (by omega) _ (qp hp w (Wc Z1))
 obtain ⟨Z2, hZ2⟩ : ∃ Z, Z = Z1 ++ uv g.e0.toNat := ⟨_, rfl⟩
 rw [← hZ2, qs] at u2
 have l2 : Z2.length ≤ 21 := by rw [hZ2]; simp; omega
 obtain ⟨u3, v3⟩ := wu32 w g.e1 gw.e1 Z2 (by omega) _ (qp hp w (Wc Z2))
 obtain ⟨Z3, hZ3⟩ : ∃ Z, Z = Z2 ++ uv g.e1.toNat := ⟨_, rfl⟩
 rw [← hZ3, qs] at u3
 have l3 : Z3.length ≤ 31 := by rw [hZ3]; simp; omega
 obtain ⟨u4, v4⟩ := wu32 w g.e2 gw.e2 Z3 (by omega) _ (qp hp w (Wc Z3))
 obtain ⟨Z4, hZ4⟩ : ∃ Z, Z = Z3 ++ uv g.e2.toNat := ⟨_, rfl⟩
 rw [← hZ4, qs] at u4
 have l4 : Z4.length ≤ 41 := by rw [hZ4]; simp; omega
 obtain ⟨u5, v5⟩ := wu32 w g.e3 gw.e3 Z4 (by omega) _ (qp hp w (Wc Z4))
 obtain ⟨Z5, hZ5⟩ : ∃ Z, Z = Z4 ++ uv g.e3.toNat := ⟨_, rfl⟩
 rw [← hZ5, qs] at u5
 have l5 : Z5.length ≤ 51 := by rw [hZ5]; simp; omega
 obtain ⟨u6, v6⟩ := wu32 w g.e4 gw.e4 Z5 (by omega) _ (qp hp w (Wc Z5))
 obtain ⟨Z6, hZ6⟩ : ∃ Z, Z = Z5 ++ uv g.e4.toNat := ⟨_, rfl⟩
 rw [← hZ6, qs] at u6
 have l6 : Z6.length ≤ 61 := by rw [hZ6]; simp; omega
 obtain ⟨u7, v7⟩ := wu32 w g.e5 gw.e5 Z6 (by omega) _ (qp hp w (Wc Z6))
 obtain ⟨Z7, hZ7⟩ : ∃ Z, Z = Z6 ++ uv g.e5.toNat := ⟨_, rfl⟩
 rw [← hZ7, qs] at u7
 have l7 : Z7.length ≤ 71 := by rw [hZ7]; simp; omega
 have v8 := qu llo
 have u8 := qQ w (kw g.lo) Z7 llo (by omega) _ (qp hp w (Wc Z7))
 obtain ⟨Z8, hZ8⟩ : ∃ Z, Z = Z7 ++ uv (kw g.lo) := ⟨_, rfl⟩
 rw [← hZ8, qs] at u8
 have l8 : Z8.length ≤ 81 := by rw [hZ8]; simp; omega
 have v9 := qu lhi
 have u9 := qQ w (kw g.hi) Z8 lhi (by omega) _ (qp hp w (Wc Z8))
 obtain ⟨Z9, hZ9⟩ : ∃ Z, Z = Z8 ++ uv (kw g.hi) := ⟨_, rfl⟩
 rw [← hZ9, qs] at u9
 have l9 : Z9.length ≤ 91 := by rw [hZ9]; simp; omega
 have ua := zb w Z9 (g.L.length : Int) (by omega) _ (qp hp w (Wc Z9))
 obtain ⟨ZA, hZA⟩ : ∃ Z, Z = Z9 ++ [(g.L.length : Int)] := ⟨_, rfl⟩
 rw [← hZA, qs] at ua
 have la : ZA.length ≤ 92 := by rw [hZA]; simp; omega
 have lp := putg_loop w (rk k) g.L gw.L (by omega) g.L 0 0 ZA (hp.put w 0 (Wc ZA)) rfl (nofall_zero nn) (by omega) (by omega) (qp _ _ _)
 rw [qs] at lp
 have eY : gauY K g.nf = ZA ++ gdif 0 (g.L.map kw) := by
  rw [hZA, hZ9, hZ8, hZ7, hZ6, hZ5, hZ4, hZ3, hZ2, hZ1, hZ0]
  unfold gauY Gs.nf
  simp
 rw [eY]
 have wl : IntKind.u8.wrap (g.L.length : Int) = (g.L.length : Int) := zt (by omega) (by omega)
 have x1 := w32 _ gw.M
 have x2 := w32 _ gw.e0
 have x3 := w32 _ gw.e1
 have x4 := w32 _ gw.e2
 have x5 := w32 _ gw.e3
 have x6 := w32 _ gw.e4
 have x7 := w32 _ gw.e5
 obtain ⟨i0, i1, i2, i3, i4, i5⟩ := ixe g.e0 g.e1 g.e2 g.e3 g.e4 g.e5
 obtain ⟨FL, hFL⟩ : ∃ F, fl g.lo = .sc F := ⟨_, rfl⟩
 obtain ⟨FH, hFH⟩ : ∃ F, fl g.hi = .sc F := ⟨_, rfl⟩
 rw [hFL] at klo ⊢
 rw [hFH] at khi ⊢
 have lL : (LF g.L).length = g.L.length := by simp [LF]
 obtain ⟨g0, g1, g2, g3, g4, g5, g6, g7, g8, g9⟩ := g
 simp only at *
 generalize Wc (ZA ++ gdif 0 (g9.map kw)) = WF at *
 generalize Wc ZA = WA at *
 generalize Wc Z9 = W9 at *
 generalize Wc Z8 = W8 at *
 generalize Wc Z7 = W7 at *
 generalize Wc Z6 = W6 at *
 generalize Wc Z5 = W5 at *
 generalize Wc Z4 = W4 at *
 generalize Wc Z3 = W3 at *
 generalize Wc Z2 = W2 at *
 generalize Wc Z1 = W1 at *
 generalize Wc Z0 = W0 at *
 have ca : jg (.agg [.sc (.int .u32 g1), .sc (.int .u32 g2), .sc (.int .u32 g3), .sc (.int .u32 g4), .sc (.int .u32 g5), .sc (.int .u32 g6)]) = some (.agg #[.int .u32 g1, .int .u32 g2, .int .u32 g3, .int .u32 g4, .int .u32 g5, .int .u32 g6]) := rfl
 have gb : getBd (.fn (4294967296 + 25) [.ptr w 0 0]) = some (25, [.ptr w 0 0]) := rfl
 simp only [Nat.reduceAdd] at gb
 obtain ⟨fy, fl1⟩ : ∃ y, flatL [AV.ptr w 0 0] = some y := ⟨_, rfl⟩
 simp only [Int.natCast_zero] at lp
 rw [E40]
 simp [getN, qc, getC, wK, u0, zQ, ze, x1, fl1, gb, u1]
 rw [yx]
 simp [ca, i0, ze, x2, gb, u2]
 rw [yx]
 simp [ca, i1, ze, x3, gb, u3]
 rw [yx]
 simp [ca, i2, ze, x4, gb, u4]
 rw [yx]
 simp [ca, i3, ze, x5, gb, u5]
 rw [yx]
 simp [ca, i4, ze, x6, gb, u6]
 rw [yx]
 simp [ca, i5, ze, x7, gb, u7]
 rw [yx]
 simp [qc, getC, klo, gb, u8, khi, u9, lL, zQ, wl, ua, lp]
def putY (x : SkN) : List Int :=
 if x.kind = 0 then roaY (chs (tn x.set))
 else if x.kind = 1 then uv x.K.toNat ++ ricY (tn x.hs)
 else if x.kind = 2 then x.P :: cod (tn x.rg)
 else if x.kind = 3 then uv x.B.toNat ++ [x.H] ++ fanY (tn x.bs)
 else if x.kind = 4 then [x.R] ++ uv x.C.toNat ++ pcnt x.C x.cs 0 0
 else gauY x.gK x.g
def H64 (x : SkN) : Prop := ∀ n ∈ x.hs, 0 ≤ n ∧ n < 18446744073709551616
theorem ricY_len {l : List Nat} (hl : l.length ≤ 1024) (h64 : ∀ x ∈ l, x < 18446744073709551616) : (ricY l).length ≤ 700100 := by
 obtain ⟨k63, hq⟩ := parR_ok (gaps_lt h64)
 have hbl := rbits_len (parR (gaps l)) k63 (gaps l) hq
 rw [gaps_len] at hbl
 have hlY : (pk (ricB (gaps l))).length < 700000 := by rw [jL]; unfold ricB; omega
 have h1 := qu (n := l.length) (by omega)
 have h2 := qu (n := (pk (ricB (gaps l))).length) (by omega)
 unfold ricY
 simp only [List.length_append, List.length_singleton]
 omega
theorem fanY_len {l : List Nat} (hl : l.length ≤ 4096) (h32 : ∀ x ∈ l, x < 4294967296) (hr : jk l) : (fanY l).length ≤ 100000 := by
 by_cases hne : l = []
 ·subst hne
  have e : fanY [] = uv 0 ++ uv 0 ++ [] ++ uv 0 ++ [] := rfl
  have h := qu (n := 0) (by omega)
  rw [e]
  simp only [List.length_append, List.length_nil]
  omega
 ·obtain ⟨a, b, c⟩ := fan_bounds l hl h32 hr hne
  have h1 := qu (n := l.length) (by omega)
  have h2 := qu (n := qT l) (by omega)
  have hm : l.length * fanK l ≤ 4096 * 32 := Nat.mul_le_mul hl a
  have h3 := qu (n := (pk (zD (fanK l) 0 l)).length) (by rw [jL]; omega)
  unfold fanY
  simp only [List.length_append, jL, lowsB_len] at *
  omega
theorem cod_len {l : List Nat} (hl : l.length ≤ 1000) (h64 : ∀ x ∈ l, x < 64) : (cod l).length ≤ 100000 := by
 rw [(cod_num l h64).2]
 have key : ∀ (l cs : List Nat) (s : En), okM cs → (∀ x ∈ l, x < 64) → okE s s.width → 16777216 ≤ s.width ∧ s.width ≤ 4294967296 → eK (enc cs s l) ≤ eK s + 4 * l.length := by
  intro l
  induction l with
  | nil => intro cs s _ _ _ _; exact Nat.le_refl _
  | cons x r ih =>
   intro cs s hm hl h hw
   obtain ⟨d, b1, b2, b3, b4, b5, b6, b7⟩ := add_ok s cs x hm (hl x (by simp)) h hw
   have hd : d ≤ 4 := pow_d b7 (by rw [← b2]; exact b6)
   have := ih (see cs x) (norm 4 (nar s cs x)) (see_ok hm (hl x (by simp))) (fun y hy => hl y (by simp [hy])) b4 ⟨b5, b6⟩
   have e : enc cs s (x :: r) = enc (see cs x) (norm 4 (nar s cs x)) r := rfl
   rw [e, List.length_cons]
   omega
 have := key l cs0 en0 okM0 h64 okE0 ⟨by decide, by decide⟩
 have e0 : eK en0 = 0 := rfl
 omega
theorem roaY_len {l : List Nat} (hl : l.length ≤ 4096) (h32 : ∀ x ∈ l, x < 4294967296) : (roaY (chs l)).length ≤ 900000 := by
 have hc := chs_len l
 have h1 := qu (n := (chs l).length) (by omega)
 have key : ∀ cs : List (Nat × Nat), (∀ c ∈ cs, okC c) → (rowY cs).length ≤ 60 * cs.length := by
  intro cs
  induction cs with
  | nil => intro _; exact Nat.le_refl _
  | cons c r ih =>
   intro h
   have := ih (fun d hd => h d (by simp [hd]))
   have := chkY_len (h c (by simp))
   simp only [rowY, List.length_append, List.length_cons]
   omega
 have := key (chs l) (chs_ok h32)
 unfold roaY
 simp only [List.length_append]
 omega
theorem set_facts {x : SkN} (f : Fine x) (k : x.kind = 0) : x.set.length ≤ 4096 ∧ zw (tn x.set) ∧ (∀ n ∈ tn x.set, n < 4294967296) ∧ nz (tn x.set) = x.set := by
 have h := (qU.mp f.c).2.2
 rw [if_pos k] at h
 have s := schk_ok.mp h
 have n0 : ∀ n ∈ x.set, 0 ≤ n := fun n hn => (f.w.set n hn).1
 exact ⟨s.1, rise_tn n0 s.2, tn_mem (B := 4294967296) f.w.set, nz_tn n0⟩
theorem kmv_facts {x : SkN} (f : Fine x) (k : x.kind = 1) (h64 : H64 x) : (1 ≤ x.K ∧ x.K ≤ 1024) ∧ x.hs.length ≤ 1024 ∧ zw (tn x.hs) ∧ (∀ n ∈ tn x.hs, n < 18446744073709551616) ∧ nz (tn x.hs) = x.hs := by
 have h := (qU.mp f.c).2.2
 rw [if_neg (by omega), if_pos k] at h
 have s := kchk_ok.mp h
 have n0 : ∀ n ∈ x.hs, 0 ≤ n := fun n hn => (h64 n hn).1
 exact ⟨s.1, by omega, rise_tn n0 s.2.2, tn_mem (B := 18446744073709551616) h64, nz_tn n0⟩
theorem hll_facts {x : SkN} (f : Fine x) (k : x.kind = 2) : (4 ≤ x.P ∧ x.P ≤ 8) ∧ x.rg.length = hpow x.P ∧ x.rg.length ≤ 256 ∧ (∀ n ∈ tn x.rg, n < 64) ∧ nz (tn x.rg) = x.rg := by
 have h := (qU.mp f.c).2.2
 rw [if_neg (by omega), if_neg (by omega), if_pos k] at h
 have s := hchk_ok.mp h
 have n0 : ∀ n ∈ x.rg, 0 ≤ n := fun n hn => (f.w.rg n hn).1
 have hp : hpow x.P ≤ 256 := by
  unfold hpow
  exact Nat.le_trans (Nat.pow_le_pow_right (by decide) (show x.P.toNat ≤ 8 by omega)) (by decide)
 exact ⟨s.1, s.2.1, by omega, tn_mem (B := 64) (fun n hn => ⟨n0 n hn, by have := s.2.2 n hn; omega⟩), nz_tn n0⟩
theorem blo_facts {x : SkN} (f : Fine x) (k : x.kind = 3) : (1 ≤ x.B ∧ x.B ≤ 4096) ∧ (1 ≤ x.H ∧ x.H ≤ 8) ∧ x.bs.length ≤ 4096 ∧ jk (tn x.bs) ∧ (∀ n ∈ tn x.bs, n < 4294967296) ∧ nz (tn x.bs) = x.bs := by
 have h := (qU.mp f.c).2.2
 rw [if_neg (by omega), if_neg (by omega), if_neg (by omega), if_pos k] at h
 have s := good_chk h f.w.bs
 have n0 : ∀ n ∈ x.bs, 0 ≤ n := fun n hn => (f.w.bs n hn).1
 exact ⟨s.1, s.2.1, s.2.2.len s.1.2, rising_nofall (rise_tn n0 s.2.2.1), tn_mem (B := 4294967296) f.w.bs, nz_tn n0⟩
theorem cms_facts {x : SkN} (f : Fine x) (k : x.kind = 4) : (1 ≤ x.R ∧ x.R ≤ 8) ∧ (1 ≤ x.C ∧ x.C ≤ 256) ∧ (x.cs.length : Int) = x.R * x.C ∧ x.cs.length ≤ 2048 := by
 have h := (qU.mp f.c).2.2
 rw [if_neg (by omega), if_neg (by omega), if_neg (by omega), if_neg (by omega), if_pos k] at h
 have s := cchk_ok.mp h
 have := cmul s.1 s.2.1
 exact ⟨s.1, s.2.1, s.2.2, by omega⟩
theorem gau_facts {x : SkN} (f : Fine x) (k : x.kind = 5) : (1 ≤ x.gK ∧ x.gK ≤ 16) ∧ ordG x.g.L = 0 ∧ x.g.L.length ≤ 16 := by
 have h := (qU.mp f.c).2.2
 rw [if_neg (by omega), if_neg (by omega), if_neg (by omega), if_neg (by omega), if_neg (by omega)] at h
 unfold gchk at h
 split at h
 ·cases h
 ·rename_i h1
  split at h
  ·rename_i h2
   exact ⟨by omega, h2, by omega⟩
  ·cases h
theorem put_end (b : Nat) (Y : List Int) (hY : Y.length ≤ 1000000) (hp : Hp) (h : hp.rd b 0 = some (Wc Y)) : xq (.ptr b 0 0) hp = some (.tup [S 1 1 (LI .u8 Y), .sc (.int .i64 0)], hp) := by
 have wb := run_wbytes b Y hY hp h
 rw [B16_28_eq]
 simp [wb]
theorem run_put {x : SkN} {v : AV} (hv : IsSk x v) (f : Fine x) (h64 : H64 x) (hp : Hp) : ∃ hp', run cxX 16 [v] hp = some (.tup [S 1 1 (LI .u8 (putY x)), .sc (.int .i64 0)], hp') := by
 have ck := yA hv f.w hp0
 have ck2 := yA hv.ro f.w hp0
 rw [f.c] at ck ck2
 obtain ⟨g, a, b, c, d, e, t, gw, gn, rfl⟩ := hv
 have hk := f.w.kind
 have kd := (qU.mp f.c).1
 have hr0 : (hp.new [S 2 1 []]).rd hp.next 0 = some (Wc []) := qB _ _
 have w1 : IntKind.u64.wrap x.kind = x.kind := qt hk.1 (by omega)
 have six : x.kind = 0 ∨ x.kind = 1 ∨ x.kind = 2 ∨ x.kind = 3 ∨ x.kind = 4 ∨ x.kind = 5 := by omega
 have hck : ∀ L, AV.agg L = skA x g (rk a) (rk b) (rk c) (rk d) (rk e) (rk t) → run cxX 23 [.agg L] hp0 = some (.sc (.int .i64 0), hp0) := by
  intro L hL
  have e1 : AI.ro (skA x g a b c d e t) = .agg L := by rw [hL]; simp [skA]
  rw [e1] at ck2
  exact ck2
 have hc := hck _ rfl
 have nn : (putY x).length ≤ 1000000 := by
  unfold putY
  rcases six with k | k | k | k | k | k
  ·rw [if_pos k]
   have s := set_facts f k
   have := roaY_len (l := tn x.set) (by simp; exact s.1) s.2.2.1
   omega
  ·have s := kmv_facts f k h64
   have := ricY_len (l := tn x.hs) (by simp; exact s.2.1) s.2.2.2.1
   have hu := qu (n := x.K.toNat) (by omega)
   rw [if_neg (by omega), if_pos k, List.length_append]
   omega
  ·have s := hll_facts f k
   have := cod_len (l := tn x.rg) (by simp; omega) s.2.2.2.1
   rw [if_neg (by omega), if_neg (by omega), if_pos k, List.length_cons]
   omega
  ·have s := blo_facts f k
   have := fanY_len (l := tn x.bs) (by simp; exact s.2.2.1) s.2.2.2.2.1 s.2.2.2.1
   have hu := qu (n := x.B.toNat) (by omega)
   rw [if_neg (by omega), if_neg (by omega), if_neg (by omega), if_pos k]
   simp only [List.length_append, List.length_singleton]
   omega
  ·have s := cms_facts f k
   have := pcnt_len x.C x.cs f.w.cs x.cs 0 0 f.w.cs (by omega)
   have hu := qu (n := x.C.toNat) (by omega)
   rw [if_neg (by omega), if_neg (by omega), if_neg (by omega), if_neg (by omega), if_pos k]
   simp only [List.length_append, List.length_singleton]
   omega
  ·have s := gau_facts f k
   have hd : ∀ (L : List Nat) (p : Nat), (∀ k ∈ L, k < 18446744073709551616) → (gdif p L).length ≤ 10 * L.length := by
    intro L
    induction L with
    | nil => intro p _; exact Nat.le_refl _
    | cons k r ih =>
     intro p h
     have := ih k (fun y hy => h y (by simp [hy]))
     have hu := qu (n := k - p) (by have := h k (by simp); omega)
     simp only [gdif, List.length_append, List.length_cons]
     omega
   have hL : ∀ k ∈ x.g.L, k < 18446744073709551616 := by
    rw [← gn]
    intro k hk
    obtain ⟨w, hw, rfl⟩ := List.mem_map.mp hk
    exact kw_lt w (gw.L w hw)
   have h0 := hd x.g.L 0 hL
   have u : ∀ n : Int, qJ n → (uv n.toNat).length ≤ 10 := fun n hn => qu (by have := hn.2; omega)
   have p := f.pos
   have u1 := u _ p.1
   have u2 := u _ p.2.1
   have u3 := u _ p.2.2.1
   have u4 := u _ p.2.2.2.1
   have u5 := u _ p.2.2.2.2.1
   have u6 := u _ p.2.2.2.2.2.1
   have u7 := u _ p.2.2.2.2.2.2
   have u8 := qu (n := x.g.lo) (by rw [← gn]; exact kw_lt _ gw.lo)
   have u9 := qu (n := x.g.hi) (by rw [← gn]; exact kw_lt _ gw.hi)
   rw [if_neg (by omega), if_neg (by omega), if_neg (by omega), if_neg (by omega), if_neg (by omega)]
   unfold gauY
   simp only [List.length_append, List.length_singleton]
   omega
 unfold putY at nn ⊢
 rcases six with k | k | k | k | k | k
 ·rw [if_pos k] at nn ⊢
  obtain ⟨s1, s2, s3, s4⟩ := set_facts f k
  obtain ⟨t1, hp1, r1, r2⟩ := run_rof (tn x.set) (rk (rk a)) (by simp; exact s1) s3 s2 hp0
  rw [s4] at r1
  have sp := fun k => run_sput (chs (tn x.set)) k hp.next (chs_ok s3) (by have := chs_len (tn x.set); simp at this; omega) [] (by simp) _ hr0
  rw [List.nil_append] at sp
  simp only [zF] at sp
  have pe := put_end hp.next (roaY (chs (tn x.set))) nn (hp.new (Wc (roaY (chs (tn x.set))))) (qB _ _)
  refine ⟨hp.new (Wc (roaY (chs (tn x.set)))), ?_⟩
  generalize roaY (chs (tn x.set)) = Y at *
  generalize csL (chs (tn x.set)) = CL at *
  simp [skA, k] at hc
  rw [E16]
  simp at r1 sp
  simp [skA, getN, qc, getC, k, hc, r1, sp, pe]
 ·rw [if_neg (by omega), if_pos k] at nn ⊢
  obtain ⟨s0, s1, s2, s3, s4⟩ := kmv_facts f k h64
  obtain ⟨t1, hp1, r1, r2⟩ := run_rput (tn x.hs) (rk (rk b)) (by simp; exact s1) s3 s2 hp0
  rw [s4] at r1
  have hu := qu (n := x.K.toNat) (by omega)
  have u1 := qQ hp.next x.K.toNat [] (by omega) (by simp; omega) _ hr0
  rw [List.nil_append, zF, Int.toNat_of_nonneg (by omega)] at u1
  have wK : IntKind.u64.wrap x.K = x.K := qt (by omega) (by omega)
  have u2 := fun k => yO hp.next (uv x.K.toNat) (ricY (tn x.hs)) k (by rw [List.length_append] at nn; exact nn) (hp.new (Wc (uv x.K.toNat))) (qB _ _)
  simp only [zF] at u2
  have pe := put_end hp.next _ nn (hp.new (Wc (uv x.K.toNat ++ ricY (tn x.hs)))) (qB _ _)
  refine ⟨hp.new (Wc (uv x.K.toNat ++ ricY (tn x.hs))), ?_⟩
  generalize uv x.K.toNat ++ ricY (tn x.hs) = Y at *
  generalize uv x.K.toNat = U at *
  generalize ricY (tn x.hs) = RY at *
  simp [skA, k] at hc
  rw [E16]
  simp at r1 u1
  simp [skA, getN, qc, getC, k, hc, yH, wK, r1, u1, u2, pe]
 ·rw [if_neg (by omega), if_neg (by omega), if_pos k] at nn ⊢
  obtain ⟨s0, s1, s2, s3, s4⟩ := hll_facts f k
  obtain ⟨hp1, r1, r2⟩ := run_cdput (tn x.rg) (rk (rk c)) (by simp; omega) s3 hp0
  rw [s4] at r1
  have u1 := zb hp.next [] x.P (by decide) _ hr0
  rw [List.nil_append, zF] at u1
  have wK : IntKind.u8.wrap x.P = x.P := zt (by omega) (by omega)
  have u2 := fun k => yO hp.next [x.P] (cod (tn x.rg)) k (by simp at nn ⊢; omega) (hp.new (Wc [x.P])) (qB _ _)
  have eY : [x.P] ++ cod (tn x.rg) = x.P :: cod (tn x.rg) := rfl
  simp only [zF, eY] at u2
  have pe := put_end hp.next _ nn (hp.new (Wc (x.P :: cod (tn x.rg)))) (qB _ _)
  refine ⟨hp.new (Wc (x.P :: cod (tn x.rg))), ?_⟩
  generalize x.P :: cod (tn x.rg) = Y at *
  generalize cod (tn x.rg) = RY at *
  simp [skA, k] at hc
  rw [E16]
  simp at r1 u1 u2
  simp [skA, getN, qc, getC, k, hc, zQ, wK, r1, u1, u2, pe]
 ·rw [if_neg (by omega), if_neg (by omega), if_neg (by omega), if_pos k] at nn ⊢
  obtain ⟨s0, s9, s1, s2, s3, s4⟩ := blo_facts f k
  obtain ⟨t1, t2, hp1, r1, r2⟩ := run_fof (tn x.bs) (rk (rk d)) (by simp; exact s1) s3 s2 hp0
  rw [s4] at r1
  have hu := qu (n := x.B.toNat) (by omega)
  have u1 := qQ hp.next x.B.toNat [] (by omega) (by simp; omega) _ hr0
  rw [List.nil_append, zF, Int.toNat_of_nonneg (by omega)] at u1
  have wK : IntKind.u64.wrap x.B = x.B := qt (by omega) (by omega)
  have wH : IntKind.u8.wrap x.H = x.H := zt (by omega) (by omega)
  have u2 := zb hp.next (uv x.B.toNat) x.H (by omega) (hp.new (Wc (uv x.B.toNat))) (qB _ _)
  rw [zF] at u2
  have u3 := fun t1 t2 => run_fput (tn x.bs) (by simp; exact s1) s3 s2 hp.next t1 t2 (uv x.B.toNat ++ [x.H]) (by rw [List.length_append] at nn; exact nn) (hp.new (Wc (uv x.B.toNat ++ [x.H]))) (qB _ _)
  simp only [zF] at u3
  have pe := put_end hp.next _ nn (hp.new (Wc (uv x.B.toNat ++ [x.H] ++ fanY (tn x.bs)))) (qB _ _)
  refine ⟨hp.new (Wc (uv x.B.toNat ++ [x.H] ++ fanY (tn x.bs))), ?_⟩
  unfold Frow at r1 u3
  generalize uv x.B.toNat ++ [x.H] ++ fanY (tn x.bs) = Y at *
  generalize uv x.B.toNat ++ [x.H] = U2 at *
  generalize uv x.B.toNat = U at *
  generalize pk (jE (fanK (tn x.bs)) (tn x.bs)) = P1 at *
  generalize pk (zD (fanK (tn x.bs)) 0 (tn x.bs)) = P2 at *
  generalize ((qT (tn x.bs) : Nat) : Int) = La at *
  generalize ((fanK (tn x.bs) : Nat) : Int) = Lk at *
  simp [skA, k] at hc
  rw [E16]
  simp at r1 u1 u2 u3
  simp [skA, getN, qc, getC, k, hc, yH, zQ, wK, wH, r1, u1, u2, putN, u3, pe]
 ·rw [if_neg (by omega), if_neg (by omega), if_neg (by omega), if_neg (by omega), if_pos k] at nn ⊢
  obtain ⟨s0, s1, s2, s3⟩ := cms_facts f k
  have hu := qu (n := x.C.toNat) (by omega)
  have u1 := zb hp.next [] x.R (by decide) _ hr0
  rw [List.nil_append, zF] at u1
  have u2 := qQ hp.next x.C.toNat [x.R] (by omega) (by simp; omega) (hp.new (Wc [x.R])) (qB _ _)
  rw [zF, Int.toNat_of_nonneg (by omega)] at u2
  have wK : IntKind.u64.wrap x.C = x.C := qt (by omega) (by omega)
  have wH : IntKind.u8.wrap x.R = x.R := zt (by omega) (by omega)
  have u3 := fun k => run_counts x.C x.cs (by omega) f.w.cs hp.next k ([x.R] ++ uv x.C.toNat) (by simp; omega) (hp.new (Wc ([x.R] ++ uv x.C.toNat))) (qB _ _)
  simp only [zF] at u3
  have pe := put_end hp.next _ nn (hp.new (Wc ([x.R] ++ uv x.C.toNat ++ pcnt x.C x.cs 0 0))) (qB _ _)
  refine ⟨hp.new (Wc ([x.R] ++ uv x.C.toNat ++ pcnt x.C x.cs 0 0)), ?_⟩
  generalize [x.R] ++ uv x.C.toNat ++ pcnt x.C x.cs 0 0 = Y at *
  generalize [x.R] ++ uv x.C.toNat = U2 at *
  simp [skA, k] at hc
  rw [E16]
  try simp at u1
  try simp at u2
  try simp at u3
  simp [skA, getN, qc, getC, k, hc, yH, zQ, wK, wH, u1, u2, u3, pe]
 ·rw [if_neg (by omega), if_neg (by omega), if_neg (by omega), if_neg (by omega), if_neg (by omega)] at nn ⊢
  obtain ⟨s0, s1, s2⟩ := gau_facts f k
  have hl : g.L.length ≤ 16 := by rw [← gn] at s2; simpa [Gs.nf] using s2
  have u3 := fun k => run_putg hp.next x.gK g k ⟨by omega, by omega⟩ gw (by rw [gn]; exact s1) (by omega) _ hr0
  simp only [zF, gn] at u3
  have pe := put_end hp.next _ nn (hp.new (Wc (gauY x.gK x.g))) (qB _ _)
  refine ⟨hp.new (Wc (gauY x.gK x.g)), ?_⟩
  generalize gauY x.gK x.g = Y at *
  simp [skA, k] at hc
  rw [E16]
  try simp at u3
  simp [skA, getN, qc, getC, k, hc, u3, pe]
theorem E14 (a0 : AV) (hp : Hp) : run cxX 14 [a0] hp = ((qh 7 a0).bind fun y0 => ((getC (List.map ro1 y0) 5).bind fun y1 => ((lenA (ro1 y1)).bind fun y2 => ((binV Tryz.prog .leq 3 (.tmp 5) (.const (.int .i64 (.ofNat 40))) (.int .i64 (.ofNat y2)) (.int .i64 (.ofNat 40))).bind fun y3 => ((asB y3).bind fun y4 => (cond y4 ((getC (List.map ro1 y0) 6).bind fun y5 => ((lenA (ro1 y5)).bind fun y6 => ((binV Tryz.prog .leq 3 (.tmp 10) (.const (.int .i64 (.ofNat 40))) (.int .i64 (.ofNat y6)) (.int .i64 (.ofNat 40))).bind fun y7 => (some (Prod.mk (AV.sc y7) hp))))) (some (Prod.mk (AV.sc (.bool false)) hp)))))))) :=
 (qf cxX 14 ss14 400 _ _).trans (by kernel_rfl)
noncomputable def B15_7 (x4 x27 : AV) (v28 v29 : Value) (b1 b2 b3 : List AV) (hp : Hp) : Option (AV × Hp) := go cxX 15 [.code (sub [1, 1, 0, 1, 0, 1, 0, 1, 0, 1, 0, 0, 0] cd15), .code (sub [1, 1, 0, 1, 0, 1, 0, 1, 0, 1, 0, 0, 1] cd15), .inLoop (sub [1, 1, 0, 1, 0, 1, 0, 1, 0, 1, 0, 0] cd15), .inBlock 1, .code (sub [1, 1, 0, 1, 0, 1, 0, 1, 1] cd15), .inBlock 0, .code (sub [1, 1, 1] cd15)] ⟨[(1, .lp 1 0 0), (2, .lp 2 0 0), (3, .lp 3 0 0), (4, .av x4), (27, .av x27), (28, .sv v28), (29, .sv v29)], [(1, 0, b1), (2, 0, b2), (3, 0, b3)], hp⟩
noncomputable def yy (b2 b3 : List AV) (hp : Hp) : Option (AV × Hp) := go cxX 15 [.code (sub [1, 1, 1, 0] cd15), .code (sub [1, 1, 1, 1] cd15)] ⟨[(2, .lp 2 0 0), (3, .lp 3 0 0)], [(2, 0, b2), (3, 0, b3)], hp⟩
noncomputable def B15_27 (x8 x93 : AV) (v94 v95 : Value) (b1 b2 b3 : List AV) (hp : Hp) : Option (AV × Hp) := go cxX 15 [.code (sub [1, 1, 0, 1, 0, 1, 1, 1, 1, 1, 1, 1, 1, 1, 0, 1, 0, 1, 0, 0, 0] cd15), .code (sub [1, 1, 0, 1, 0, 1, 1, 1, 1, 1, 1, 1, 1, 1, 0, 1, 0, 1, 0, 0, 1] cd15), .inLoop (sub [1, 1, 0, 1, 0, 1, 1, 1, 1, 1, 1, 1, 1, 1, 0, 1, 0, 1, 0, 0] cd15), .inBlock 5, .code (sub [1, 1, 0, 1, 0, 1, 1, 1, 1, 1, 1, 1, 1, 1, 0, 1, 1] cd15), .inBlock 0, .code (sub [1, 1, 1] cd15)] ⟨[(1, .lp 1 0 0), (2, .lp 2 0 0), (3, .lp 3 0 0), (8, .av x8), (93, .av x93), (94, .sv v94), (95, .sv v95)], [(1, 0, b1), (2, 0, b2), (3, 0, b3)], hp⟩
noncomputable def B15_12 (x4 : AV) (v6 : Value) (x27 : AV) (v28 v29 v42 v43 : Value) (b1 b2 b3 : List AV) (hp : Hp) : Option (AV × Hp) := go cxX 15 [.code (sub [1, 1, 0, 1, 0, 1, 0, 1, 0, 1, 0, 0, 1, 1, 0, 0, 1, 1, 1, 0, 1, 0, 0, 0] cd15), .code (sub [1, 1, 0, 1, 0, 1, 0, 1, 0, 1, 0, 0, 1, 1, 0, 0, 1, 1, 1, 0, 1, 0, 0, 1] cd15), .inLoop (sub [1, 1, 0, 1, 0, 1, 0, 1, 0, 1, 0, 0, 1, 1, 0, 0, 1, 1, 1, 0, 1, 0, 0] cd15), .inBlock 3, .inBlock 2, .code (sub [1, 1, 0, 1, 0, 1, 0, 1, 0, 1, 0, 0, 1, 1, 1] cd15), .inLoop (sub [1, 1, 0, 1, 0, 1, 0, 1, 0, 1, 0, 0] cd15), .inBlock 1, .code (sub [1, 1, 0, 1, 0, 1, 0, 1, 1] cd15), .inBlock 0, .code (sub [1, 1, 1] cd15)] ⟨[(1, .lp 1 0 0), (2, .lp 2 0 0), (3, .lp 3 0 0), (4, .av x4), (6, .sv v6), (27, .av x27), (28, .sv v28), (29, .sv v29), (42, .sv v42), (43, .sv v43)], [(1, 0, b1), (2, 0, b2), (3, 0, b3)], hp⟩
noncomputable def B15_16 (x4 x27 : AV) (v28 v29 : Value) (b1 b2 b3 : List AV) (hp : Hp) : Option (AV × Hp) := go cxX 15 [.code (sub [1, 1, 0, 1, 0, 1, 0, 1, 0, 1, 0, 0, 1, 1, 1] cd15), .inLoop (sub [1, 1, 0, 1, 0, 1, 0, 1, 0, 1, 0, 0] cd15), .inBlock 1, .code (sub [1, 1, 0, 1, 0, 1, 0, 1, 1] cd15), .inBlock 0, .code (sub [1, 1, 1] cd15)] ⟨[(1, .lp 1 0 0), (2, .lp 2 0 0), (3, .lp 3 0 0), (4, .av x4), (27, .av x27), (28, .sv v28), (29, .sv v29)], [(1, 0, b1), (2, 0, b2), (3, 0, b3)], hp⟩
noncomputable def B15_32 (x8 : AV) (v10 v11 : Value) (x93 : AV) (v94 v95 : Value) (b1 b2 b3 : List AV) (hp : Hp) : Option (AV × Hp) := go cxX 15 [.code (sub [1, 1, 0, 1, 0, 1, 1, 1, 1, 1, 1, 1, 1, 1, 0, 1, 0, 1, 0, 0, 1, 1, 0, 0, 1, 1, 1] cd15), .inBlock 6, .code (sub [1, 1, 0, 1, 0, 1, 1, 1, 1, 1, 1, 1, 1, 1, 0, 1, 0, 1, 0, 0, 1, 1, 1] cd15), .inLoop (sub [1, 1, 0, 1, 0, 1, 1, 1, 1, 1, 1, 1, 1, 1, 0, 1, 0, 1, 0, 0] cd15), .inBlock 5, .code (sub [1, 1, 0, 1, 0, 1, 1, 1, 1, 1, 1, 1, 1, 1, 0, 1, 1] cd15), .inBlock 0, .code (sub [1, 1, 1] cd15)] ⟨[(1, .lp 1 0 0), (2, .lp 2 0 0), (3, .lp 3 0 0), (8, .av x8), (10, .sv v10), (11, .sv v11), (93, .av x93), (94, .sv v94), (95, .sv v95)], [(1, 0, b1), (2, 0, b2), (3, 0, b3)], hp⟩
theorem E15 (a0 : AV) (hp : Hp) : run cxX 15 [a0] hp = ((qh 7 a0).bind fun y0 => ((qc (List.map ro1 y0) 0).bind fun y1 => ((binV Tryz.prog .rem 5 (.tmp 13) (.const (.int .u8 (.ofNat 6))) y1 (.int .u8 (.ofNat 6))).bind fun y2 => ((qc [AV.sc y2, AV.sc (.slice none 0 0), AV.sc (.int .i64 (.ofNat 0)), AV.sc (.slice none 0 0), AV.sc (.int .i64 (.ofNat 0)), AV.sc (.slice none 0 0), AV.sc (.int .i64 (.ofNat 0)), AV.sc (.int .i64 (.ofNat 0)), AV.sc (.slice none 0 0), AV.sc (.int .i64 (.ofNat 0)), AV.sc (.int .i64 (.ofNat 0)), AV.sc (.slice none 0 0), AV.sc (.int .i64 (.ofNat 0)), AV.sc (.int .u32 (.ofNat 0)), AV.sc (.int .u32 (.ofNat 0)), AV.sc (.int .u32 (.ofNat 0)), AV.sc (.int .u32 (.ofNat 0)), AV.sc (.int .u32 (.ofNat 0)), AV.sc (.int .u32 (.ofNat 0)), AV.sc (.int .u32 (.ofNat 0)), AV.sc (.float .f64 0), AV.sc (.float .f64 0), AV.sc (.slice none 0 0)] 0).bind fun y3 => ((binV Tryz.prog .eql 39 (.tmp 17) (.const (.int .u8 (.ofNat 0))) y3 (.int .u8 (.ofNat 0))).bind fun y4 => ((asB y4).bind fun y5 => (cond y5 ((getC (List.map ro1 y0) 5).bind fun y6 => ((lenA (ro1 y6)).bind fun y7 => (B15_7 (AV.sc (.slice none 0 0)) (ro1 y6) (.int .i64 (.ofNat y7)) (.int .i64 (.ofNat 0)) (List.map ro1 y0) [AV.sc (.int .u8 (.ofNat 0)), AV.sc (.slice none 0 0), AV.sc (.int .i64 (.ofNat 0)), AV.sc (.slice none 0 0), AV.sc (.int .i64 (.ofNat 0)), AV.sc (.slice none 0 0), AV.sc (.int .i64 (.ofNat 0)), AV.sc (.int .i64 (.ofNat 0)), AV.sc (.slice none 0 0), AV.sc (.int .i64 (.ofNat 0)), AV.sc (.int .i64 (.ofNat 0)), AV.sc (.slice none 0 0), AV.sc (.int .i64 (.ofNat 0)), AV.sc (.int .u32 (.ofNat 0)), AV.sc (.int .u32 (.ofNat 0)), AV.sc (.int .u32 (.ofNat 0)), AV.sc (.int .u32 (.ofNat 0)), AV.sc (.int .u32 (.ofNat 0)), AV.sc (.int .u32 (.ofNat 0)), AV.sc (.int .u32 (.ofNat 0)), AV.sc (.float .f64 0), AV.sc (.float .f64 0), AV.sc (.slice none 0 0)] [AV.sc y2, AV.sc (.slice none 0 0), AV.sc (.int .i64 (.ofNat 0)), AV.sc (.slice none 0 0), AV.sc (.int .i64 (.ofNat 0)), AV.sc (.slice none 0 0), AV.sc (.int .i64 (.ofNat 0)), AV.sc (.int .i64 (.ofNat 0)), AV.sc (.slice none 0 0), AV.sc (.int .i64 (.ofNat 0)), AV.sc (.int .i64 (.ofNat 0)), AV.sc (.slice none 0 0), AV.sc (.int .i64 (.ofNat 0)), AV.sc (.int .u32 (.ofNat 0)), AV.sc (.int .u32 (.ofNat 0)), AV.sc (.int .u32 (.ofNat 0)), AV.sc (.int .u32 (.ofNat 0)), AV.sc (.int .u32 (.ofNat 0)), AV.sc (.int .u32 (.ofNat 0)), AV.sc (.int .u32 (.ofNat 0)), AV.sc (.float .f64 0), AV.sc (.float .f64 0), AV.sc (.slice none 0 0)] hp))) ((binV Tryz.prog .eql 39 (.tmp 17) (.const (.int .u8 (.ofNat 1))) y3 (.int .u8 (.ofNat 1))).bind fun y8 => ((asB y8).bind fun y9 => (cond y9 ((qc (List.map ro1 y0) 1).bind fun y10 => ((getC (List.map ro1 y0) 5).bind fun y11 => ((qc (List.map ro1 y0) 4).bind fun y12 => ((qi [AV.sc y10, ro1 y11, AV.sc y12] []).bind fun y13 => ((run cxX 27 [AV.sc y10, ro (ro1 y11), AV.sc y12] hp0).bind fun y14 => ((qm (y14).1).bind fun y15 => ((qM (y14).1).bind fun y16 => ((qh 2 (y14).1).bind fun y17 => ((putN [AV.sc y2, AV.sc (.slice none 0 0), AV.sc (.int .i64 (.ofNat 0)), AV.sc (.slice none 0 0), AV.sc (.int .i64 (.ofNat 0)), AV.sc (.slice none 0 0), AV.sc (.int .i64 (.ofNat 0)), AV.sc (.int .i64 (.ofNat 0)), AV.sc (.slice none 0 0), AV.sc (.int .i64 (.ofNat 0)), AV.sc (.int .i64 (.ofNat 0)), AV.sc (.slice none 0 0), AV.sc (.int .i64 (.ofNat 0)), AV.sc (.int .u32 (.ofNat 0)), AV.sc (.int .u32 (.ofNat 0)), AV.sc (.int .u32 (.ofNat 0)), AV.sc (.int .u32 (.ofNat 0)), AV.sc (.int .u32 (.ofNat 0)), AV.sc (.int .u32 (.ofNat 0)), AV.sc (.int .u32 (.ofNat 0)), AV.sc (.float .f64 0), AV.sc (.float .f64 0), AV.sc (.slice none 0 0)] 2 y17).bind fun y18 => (yy [AV.sc (.int .u8 (.ofNat 0)), AV.sc (.slice none 0 0), AV.sc (.int .i64 (.ofNat 0)), AV.sc (.slice none 0 0), AV.sc (.int .i64 (.ofNat 0)), AV.sc (.slice none 0 0), AV.sc (.int .i64 (.ofNat 0)), AV.sc (.int .i64 (.ofNat 0)), AV.sc (.slice none 0 0), AV.sc (.int .i64 (.ofNat 0)), AV.sc (.int .i64 (.ofNat 0)), AV.sc (.slice none 0 0), AV.sc (.int .i64 (.ofNat 0)), AV.sc (.int .u32 (.ofNat 0)), AV.sc (.int .u32 (.ofNat 0)), AV.sc (.int .u32 (.ofNat 0)), AV.sc (.int .u32 (.ofNat 0)), AV.sc (.int .u32 (.ofNat 0)), AV.sc (.int .u32 (.ofNat 0)), AV.sc (.int .u32 (.ofNat 0)), AV.sc (.float .f64 0), AV.sc (.float .f64 0), AV.sc (.slice none 0 0)] y18 hp)))))))))) ((binV Tryz.prog .eql 39 (.tmp 17) (.const (.int .u8 (.ofNat 2))) y3 (.int .u8 (.ofNat 2))).bind fun y19 => ((asB y19).bind fun y20 => (cond y20 ((qc (List.map ro1 y0) 1).bind fun y21 => ((getC (List.map ro1 y0) 5).bind fun y22 => ((qi [AV.sc y21, ro1 y22] []).bind fun y23 => ((run cxX 28 [AV.sc y21, ro (ro1 y22)] hp0).bind fun y24 => ((qm (y24).1).bind fun y25 => ((qM (y24).1).bind fun y26 => ((qh 2 (y24).1).bind fun y27 => ((putN [AV.sc y2, AV.sc (.slice none 0 0), AV.sc (.int .i64 (.ofNat 0)), AV.sc (.slice none 0 0), AV.sc (.int .i64 (.ofNat 0)), AV.sc (.slice none 0 0), AV.sc (.int .i64 (.ofNat 0)), AV.sc (.int .i64 (.ofNat 0)), AV.sc (.slice none 0 0), AV.sc (.int .i64 (.ofNat 0)), AV.sc (.int .i64 (.ofNat 0)), AV.sc (.slice none 0 0), AV.sc (.int .i64 (.ofNat 0)), AV.sc (.int .u32 (.ofNat 0)), AV.sc (.int .u32 (.ofNat 0)), AV.sc (.int .u32 (.ofNat 0)), AV.sc (.int .u32 (.ofNat 0)), AV.sc (.int .u32 (.ofNat 0)), AV.sc (.int .u32 (.ofNat 0)), AV.sc (.int .u32 (.ofNat 0)), AV.sc (.float .f64 0), AV.sc (.float .f64 0), AV.sc (.slice none 0 0)] 4 y27).bind fun y28 => (yy [AV.sc (.int .u8 (.ofNat 0)), AV.sc (.slice none 0 0), AV.sc (.int .i64 (.ofNat 0)), AV.sc (.slice none 0 0), AV.sc (.int .i64 (.ofNat 0)), AV.sc (.slice none 0 0), AV.sc (.int .i64 (.ofNat 0)), AV.sc (.int .i64 (.ofNat 0)), AV.sc (.slice none 0 0), AV.sc (.int .i64 (.ofNat 0)), AV.sc (.int .i64 (.ofNat 0)), AV.sc (.slice none 0 0), AV.sc (.int .i64 (.ofNat 0)), AV.sc (.int .u32 (.ofNat 0)), AV.sc (.int .u32 (.ofNat 0)), AV.sc (.int .u32 (.ofNat 0)), AV.sc (.int .u32 (.ofNat 0)), AV.sc (.int .u32 (.ofNat 0)), AV.sc (.int .u32 (.ofNat 0)), AV.sc (.int .u32 (.ofNat 0)), AV.sc (.float .f64 0), AV.sc (.float .f64 0), AV.sc (.slice none 0 0)] y28 hp))))))))) ((binV Tryz.prog .eql 39 (.tmp 17) (.const (.int .u8 (.ofNat 3))) y3 (.int .u8 (.ofNat 3))).bind fun y29 => ((asB y29).bind fun y30 => (cond y30 ((qc (List.map ro1 y0) 3).bind fun y31 => ((qc (List.map ro1 y0) 1).bind fun y32 => ((getC (List.map ro1 y0) 5).bind fun y33 => ((qi [AV.sc y31, AV.sc y32, ro1 y33] []).bind fun y34 => ((run cxX 29 [AV.sc y31, AV.sc y32, ro (ro1 y33)] hp0).bind fun y35 => ((qm (y35).1).bind fun y36 => ((qM (y35).1).bind fun y37 => ((qh 3 (y35).1).bind fun y38 => ((putN [AV.sc y2, AV.sc (.slice none 0 0), AV.sc (.int .i64 (.ofNat 0)), AV.sc (.slice none 0 0), AV.sc (.int .i64 (.ofNat 0)), AV.sc (.slice none 0 0), AV.sc (.int .i64 (.ofNat 0)), AV.sc (.int .i64 (.ofNat 0)), AV.sc (.slice none 0 0), AV.sc (.int .i64 (.ofNat 0)), AV.sc (.int .i64 (.ofNat 0)), AV.sc (.slice none 0 0), AV.sc (.int .i64 (.ofNat 0)), AV.sc (.int .u32 (.ofNat 0)), AV.sc (.int .u32 (.ofNat 0)), AV.sc (.int .u32 (.ofNat 0)), AV.sc (.int .u32 (.ofNat 0)), AV.sc (.int .u32 (.ofNat 0)), AV.sc (.int .u32 (.ofNat 0)), AV.sc (.int .u32 (.ofNat 0)), AV.sc (.float .f64 0), AV.sc (.float .f64 0), AV.sc (.slice none 0 0)] 6 y38).bind fun y39 => (yy [AV.sc (.int .u8 (.ofNat 0)), AV.sc (.slice none 0 0), AV.sc (.int .i64 (.ofNat 0)), AV.sc (.slice none 0 0), AV.sc (.int .i64 (.ofNat 0)), AV.sc (.slice none 0 0), AV.sc (.int .i64 (.ofNat 0)), AV.sc (.int .i64 (.ofNat 0)), AV.sc (.slice none 0 0), AV.sc (.int .i64 (.ofNat 0)), AV.sc (.int .i64 (.ofNat 0)), AV.sc (.slice none 0 0), AV.sc (.int .i64 (.ofNat 0)), AV.sc (.int .u32 (.ofNat 0)), AV.sc (.int .u32 (.ofNat 0)), AV.sc (.int .u32 (.ofNat 0)), AV.sc (.int .u32 (.ofNat 0)), AV.sc (.int .u32 (.ofNat 0)), AV.sc (.int .u32 (.ofNat 0)), AV.sc (.int .u32 (.ofNat 0)), AV.sc (.float .f64 0), AV.sc (.float .f64 0), AV.sc (.slice none 0 0)] y39 hp)))))))))) ((binV Tryz.prog .eql 39 (.tmp 17) (.const (.int .u8 (.ofNat 4))) y3 (.int .u8 (.ofNat 4))).bind fun y40 => ((asB y40).bind fun y41 => (cond y41 ((getC (List.map ro1 y0) 5).bind fun y42 => ((lenA (ro1 y42)).bind fun y43 => (B15_27 (AV.sc (.slice none 0 0)) (ro1 y42) (.int .i64 (.ofNat y43)) (.int .i64 (.ofNat 0)) (List.map ro1 y0) [AV.sc (.int .u8 (.ofNat 0)), AV.sc (.slice none 0 0), AV.sc (.int .i64 (.ofNat 0)), AV.sc (.slice none 0 0), AV.sc (.int .i64 (.ofNat 0)), AV.sc (.slice none 0 0), AV.sc (.int .i64 (.ofNat 0)), AV.sc (.int .i64 (.ofNat 0)), AV.sc (.slice none 0 0), AV.sc (.int .i64 (.ofNat 0)), AV.sc (.int .i64 (.ofNat 0)), AV.sc (.slice none 0 0), AV.sc (.int .i64 (.ofNat 0)), AV.sc (.int .u32 (.ofNat 0)), AV.sc (.int .u32 (.ofNat 0)), AV.sc (.int .u32 (.ofNat 0)), AV.sc (.int .u32 (.ofNat 0)), AV.sc (.int .u32 (.ofNat 0)), AV.sc (.int .u32 (.ofNat 0)), AV.sc (.int .u32 (.ofNat 0)), AV.sc (.float .f64 0), AV.sc (.float .f64 0), AV.sc (.slice none 0 0)] [AV.sc y2, AV.sc (.slice none 0 0), AV.sc (.int .i64 (.ofNat 0)), AV.sc (.slice none 0 0), AV.sc (.int .i64 (.ofNat 0)), AV.sc (.slice none 0 0), AV.sc (.int .i64 (.ofNat 0)), AV.sc (.int .i64 (.ofNat 0)), AV.sc (.slice none 0 0), AV.sc (.int .i64 (.ofNat 0)), AV.sc (.int .i64 (.ofNat 0)), AV.sc (.slice none 0 0), AV.sc (.int .i64 (.ofNat 0)), AV.sc (.int .u32 (.ofNat 0)), AV.sc (.int .u32 (.ofNat 0)), AV.sc (.int .u32 (.ofNat 0)), AV.sc (.int .u32 (.ofNat 0)), AV.sc (.int .u32 (.ofNat 0)), AV.sc (.int .u32 (.ofNat 0)), AV.sc (.int .u32 (.ofNat 0)), AV.sc (.float .f64 0), AV.sc (.float .f64 0), AV.sc (.slice none 0 0)] hp))) ((qc (List.map ro1 y0) 1).bind fun y44 => ((getC (List.map ro1 y0) 6).bind fun y45 => ((qi [AV.sc y44, ro1 y45] []).bind fun y46 => ((run cxX 31 [AV.sc y44, ro (ro1 y45)] hp0).bind fun y47 => ((qm (y47).1).bind fun y48 => ((qM (y47).1).bind fun y49 => ((qh 11 (y47).1).bind fun y50 => ((putN [AV.sc y2, AV.sc (.slice none 0 0), AV.sc (.int .i64 (.ofNat 0)), AV.sc (.slice none 0 0), AV.sc (.int .i64 (.ofNat 0)), AV.sc (.slice none 0 0), AV.sc (.int .i64 (.ofNat 0)), AV.sc (.int .i64 (.ofNat 0)), AV.sc (.slice none 0 0), AV.sc (.int .i64 (.ofNat 0)), AV.sc (.int .i64 (.ofNat 0)), AV.sc (.slice none 0 0), AV.sc (.int .i64 (.ofNat 0)), AV.sc (.int .u32 (.ofNat 0)), AV.sc (.int .u32 (.ofNat 0)), AV.sc (.int .u32 (.ofNat 0)), AV.sc (.int .u32 (.ofNat 0)), AV.sc (.int .u32 (.ofNat 0)), AV.sc (.int .u32 (.ofNat 0)), AV.sc (.int .u32 (.ofNat 0)), AV.sc (.float .f64 0), AV.sc (.float .f64 0), AV.sc (.slice none 0 0)] 12 y50).bind fun y51 => (yy [AV.sc (.int .u8 (.ofNat 0)), AV.sc (.slice none 0 0), AV.sc (.int .i64 (.ofNat 0)), AV.sc (.slice none 0 0), AV.sc (.int .i64 (.ofNat 0)), AV.sc (.slice none 0 0), AV.sc (.int .i64 (.ofNat 0)), AV.sc (.int .i64 (.ofNat 0)), AV.sc (.slice none 0 0), AV.sc (.int .i64 (.ofNat 0)), AV.sc (.int .i64 (.ofNat 0)), AV.sc (.slice none 0 0), AV.sc (.int .i64 (.ofNat 0)), AV.sc (.int .u32 (.ofNat 0)), AV.sc (.int .u32 (.ofNat 0)), AV.sc (.int .u32 (.ofNat 0)), AV.sc (.int .u32 (.ofNat 0)), AV.sc (.int .u32 (.ofNat 0)), AV.sc (.int .u32 (.ofNat 0)), AV.sc (.int .u32 (.ofNat 0)), AV.sc (.float .f64 0), AV.sc (.float .f64 0), AV.sc (.slice none 0 0)] y51 hp)))))))))))))))))))))))))))) :=
 (qf cxX 15 ss15 400 _ _).trans (by kernel_rfl)
theorem B15_7_eq (x4 x27 : AV) (v28 v29 : Value) (b1 b2 b3 : List AV) (hp : Hp) : B15_7 x4 x27 v28 v29 b1 b2 b3 hp = ((binV Tryz.prog .lss 3 (.tmp 29) (.tmp 28) v29 v28).bind fun y52 => ((asB y52).bind fun y53 => (cond y53 ((idxA 1 x27 v29).bind fun y54 => ((qc y54 0).bind fun y55 => ((cvV Tryz.prog 76 30 y55).bind fun y56 => ((okV [AV.sc y56]).bind fun y57 => ((appA 4 1 x4 (AV.us 1 [AV.sc y56])).bind fun y58 => ((qc b1 4).bind fun y59 => ((asB y59).bind fun y60 => (cond y60 ((binV Tryz.prog .rem 76 (.tmp 40) (.const (.int .u64 (.ofNat 40))) y55 (.int .u64 (.ofNat 40))).bind fun y61 => ((cvV Tryz.prog 76 30 y61).bind fun y62 => (B15_12 y58 y55 x27 v28 v29 y62 (.int .u32 (.ofNat 0)) b1 b2 b3 hp))) (B15_16 y58 x27 v28 v29 b1 b2 b3 hp))))))))) ((qi [ro x4, AV.sc (.bool false)] []).bind fun y63 => ((run cxX 26 [ro (ro x4), AV.sc (.bool false)] hp0).bind fun y64 => ((qm (y64).1).bind fun y65 => ((qo 2 (y64).1).bind fun y66 => ((asSc (ro (nthA (y64).1 1))).bind fun y67 => ((qh 1 (ro (nthA (y64).1 0))).bind fun y68 => ((putN b3 1 y68).bind fun y69 => (yy b2 y69 hp))))))))))) :=
 (qe cxX 15 ss15 400 _ _).trans (by kernel_rfl)
theorem B15_35_eq (b2 b3 : List AV) (hp : Hp) : yy b2 b3 hp = ((getN b3 0 23).bind fun y70 => ((putN b3 0 (List.map ro1 y70)).bind fun y71 => ((qh 23 (AV.agg y70)).bind fun y72 => ((putN b2 0 y72).bind fun y73 => ((getN y73 0 23).bind fun y74 => (some (Prod.mk (AV.agg y74) hp))))))) :=
 (qe cxX 15 ss15 400 _ _).trans (by kernel_rfl)
theorem B15_27_eq (x8 x93 : AV) (v94 v95 : Value) (b1 b2 b3 : List AV) (hp : Hp) : B15_27 x8 x93 v94 v95 b1 b2 b3 hp = ((binV Tryz.prog .lss 3 (.tmp 95) (.tmp 94) v95 v94).bind fun y75 => ((asB y75).bind fun y76 => (cond y76 ((idxA 1 x93 v95).bind fun y77 => ((qc y77 0).bind fun y78 => ((binV Tryz.prog .rem 76 (.tmp 100) (.const (.int .u64 (.ofNat 9))) y78 (.int .u64 (.ofNat 9))).bind fun y79 => ((cvV Tryz.prog 76 30 y79).bind fun y80 => ((binV Tryz.prog .rem 3 (.tmp 103) (.const (.int .i64 (.ofNat 5))) v95 (.int .i64 (.ofNat 5))).bind fun y81 => ((binV Tryz.prog .eql 3 (.tmp 104) (.const (.int .i64 (.ofNat 4))) y81 (.int .i64 (.ofNat 4))).bind fun y82 => ((asB y82).bind fun y83 => (cond y83 ((binV Tryz.prog .shr 76 (.tmp 106) (.const (.int .u64 (.ofNat 32))) y78 (.int .u64 (.ofNat 32))).bind fun y84 => ((cvV Tryz.prog 76 30 y84).bind fun y85 => (B15_32 x8 y78 y85 x93 v94 v95 b1 b2 b3 hp))) (B15_32 x8 y78 y80 x93 v94 v95 b1 b2 b3 hp))))))))) ((qc b1 1).bind fun y86 => ((qc b1 2).bind fun y87 => ((qi [AV.sc y86, AV.sc y87, ro x8] []).bind fun y88 => ((run cxX 30 [AV.sc y86, AV.sc y87, ro (ro x8)] hp0).bind fun y89 => ((qm (y89).1).bind fun y90 => ((qM (y89).1).bind fun y91 => ((qh 3 (y89).1).bind fun y92 => ((putN b3 9 y92).bind fun y93 => (yy b2 y93 hp)))))))))))) :=
 (qe cxX 15 ss15 400 _ _).trans (by kernel_rfl)
theorem B15_12_eq (x4 : AV) (v6 : Value) (x27 : AV) (v28 v29 v42 v43 : Value) (b1 b2 b3 : List AV) (hp : Hp) : B15_12 x4 v6 x27 v28 v29 v42 v43 b1 b2 b3 hp = ((binV Tryz.prog .lss 30 (.tmp 43) (.tmp 42) v43 v42).bind fun y94 => ((asB y94).bind fun y95 => (cond y95 ((binV Tryz.prog .rem 76 (.tmp 47) (.const (.int .u64 (.ofNat 9000))) v6 (.int .u64 (.ofNat 9000))).bind fun y96 => ((cvV Tryz.prog 76 30 y96).bind fun y97 => ((binV Tryz.prog .add 30 (.tmp 49) (.tmp 50) y97 v43).bind fun y98 => ((okV [AV.sc y98]).bind fun y99 => ((appA 4 1 x4 (AV.us 1 [AV.sc y98])).bind fun y100 => ((binV Tryz.prog .add 30 (.tmp 43) (.const (.int .u32 (.ofNat 1))) v43 (.int .u32 (.ofNat 1))).bind fun y101 => (B15_12 y100 v6 x27 v28 v29 v42 y101 b1 b2 b3 hp))))))) (B15_16 x4 x27 v28 v29 b1 b2 b3 hp)))) :=
 (qe cxX 15 ss15 400 _ _).trans (by kernel_rfl)
theorem B15_16_eq (x4 x27 : AV) (v28 v29 : Value) (b1 b2 b3 : List AV) (hp : Hp) : B15_16 x4 x27 v28 v29 b1 b2 b3 hp = ((binV Tryz.prog .add 3 (.tmp 29) (.const (.int .i64 (.ofNat 1))) v29 (.int .i64 (.ofNat 1))).bind fun y102 => (B15_7 x4 x27 v28 y102 b1 b2 b3 hp)) :=
 (qe cxX 15 ss15 400 _ _).trans (by kernel_rfl)
theorem B15_32_eq (x8 : AV) (v10 v11 : Value) (x93 : AV) (v94 v95 : Value) (b1 b2 b3 : List AV) (hp : Hp) : B15_32 x8 v10 v11 x93 v94 v95 b1 b2 b3 hp = ((okV [AV.sc v10, AV.sc v11]).bind fun y103 => ((appA 16 2 x8 (AV.us 2 [ro1 (AV.sc v10), ro1 (AV.sc v11)])).bind fun y104 => ((binV Tryz.prog .add 3 (.tmp 95) (.const (.int .i64 (.ofNat 1))) v95 (.int .i64 (.ofNat 1))).bind fun y105 => (B15_27 y104 x93 v94 y105 b1 b2 b3 hp)))) :=
 (qe cxX 15 ss15 400 _ _).trans (by kernel_rfl)
structure Sm where
 kind : Int
 A : Int
 B : Int
 wide : Int
 few : Bool
 hs : List Int
 fl : List (Int × Int)
structure Sm.Ok (s : Sm) : Prop where
 kind : 0 ≤ s.kind ∧ s.kind < 256
 A : 0 ≤ s.A ∧ s.A < 256
 B : 0 ≤ s.B ∧ s.B < 256
 wide : 0 ≤ s.wide ∧ s.wide < 65536
 hs : ∀ n ∈ s.hs, 0 ≤ n ∧ n < 18446744073709551616
 fl : ∀ p ∈ s.fl, InI p
abbrev smA (s : Sm) (k k' : Nat) : AV := .agg [.sc (.int .u8 s.kind), .sc (.int .u8 s.A), .sc (.int .u8 s.B), .sc (.int .u16 s.wide), .sc (.bool s.few), S k 1 (LI .u64 s.hs), S k' 2 (LP s.fl)]
def row (n : Int) (m : Nat) : List Int := (List.range m).map fun (k : Nat) => n + (k : Int)
def jK (few : Bool) (h : Int) : List Int := h % 4294967296 :: (if few then row (h % 9000) (h % 40).toNat else [])
def jM (few : Bool) (hs : List Int) : List Int := hs.flatMap (jK few)
def smc : Nat → List Int → List (Int × Int)
 | _, [] => []
 | i, h :: r => (h, if i % 5 = 4 then h / 4294967296 else h % 9) :: smc (i + 1) r
noncomputable def qS (s : Sm) : SkN :=
 if s.kind % 6 = 0 then { skZ with kind := 0, set := srt [] (jM s.few s.hs) }
 else if s.kind % 6 = 1 then { skZ with kind := 1, K := 1 + s.A % 20, hs := kmvs (1 + s.A % 20).toNat [] (s.hs.map (cut s.few)) }
 else if s.kind % 6 = 2 then { skZ with kind := 2, P := 4 + s.A % 5, rg := hfold (4 + s.A % 5) (List.replicate (hpow (4 + s.A % 5)) 0) s.hs }
 else if s.kind % 6 = 3 then { skZ with kind := 3, B := 1 + s.wide % 300, H := 1 + s.A % 8, bs := blm (1 + s.wide % 300) (1 + s.A % 8) [] s.hs }
 else if s.kind % 6 = 4 then { skZ with kind := 4, R := 1 + s.A % 8, C := 1 + s.B % 40, cs := jn (1 + s.A % 8) (1 + s.B % 40) (List.replicate ((1 + s.A % 8) * (1 + s.B % 40)).toNat 0) (smc 0 s.hs) }
 else { skZ with kind := 5, gK := 1 + s.A % 16, g := (gfold (1 + s.A % 16) gnew (s.fl.map wd)).nf }
theorem run_light (s : Sm) (k k' : Nat) (hp : Hp) : run cxX 14 [smA s k k'] hp = some (.sc (.bool (decide (s.hs.length ≤ 40 ∧ s.fl.length ≤ 40))), hp) := by
 rw [E14]
 by_cases h : s.hs.length ≤ 40
 ·have h' : (s.hs.length : Int) ≤ 40 := by omega
  have e : decide ((s.fl.length : Int) ≤ 40) = decide (s.fl.length ≤ 40) := decide_eq_decide.mpr (by omega)
  simp [getC, h, h', lenA_P, e]
 ·have h' : ¬((s.hs.length : Int) ≤ 40) := by omega
  simp [getC, h, h']
theorem row_in {n : Int} {m : Nat} (hn : 0 ≤ n ∧ n < 9000) (hm : m ≤ 40) : U32 (row n m) := by
 intro x hx
 simp only [row, List.mem_map, List.mem_range] at hx
 obtain ⟨k, hk, rfl⟩ := hx
 omega
theorem smset1_in {few : Bool} {h : Int} (hh : 0 ≤ h) : U32 (jK few h) := by
 intro x hx
 rcases List.mem_cons.mp hx with rfl | hx
 ·omega
 ·cases few with
  | false => simp at hx
  | true => exact row_in (by omega) (by omega) x hx
theorem smset_in {few : Bool} {hs : List Int} (h : ∀ n ∈ hs, 0 ≤ n ∧ n < 18446744073709551616) : U32 (jM few hs) := by
 intro x hx
 obtain ⟨y, hy, hx⟩ := List.mem_flatMap.mp hx
 exact smset1_in (h y hy).1 x hx
theorem smset1_len (few : Bool) {h : Int} (hh : 0 ≤ h) : (jK few h).length ≤ 40 := by
 unfold jK
 cases few with
 | false => simp
 | true =>
  simp only [if_true, List.length_cons, row, List.length_map, List.length_range]
  omega
theorem smset_len (few : Bool) : ∀ {hs : List Int}, (∀ n ∈ hs, 0 ≤ n ∧ n < 18446744073709551616) → (jM few hs).length ≤ 40 * hs.length
 | [], _ => by simp [jM]
 | x :: hs, h => by
  have ih := smset_len few (hs := hs) (fun n hn => h n (by simp [hn]))
  have l1 := smset1_len few (h x (by simp)).1
  show ((x :: hs).flatMap (jK few)).length ≤ _
  rw [List.flatMap_cons, List.length_append]
  simp only [List.length_cons]
  have : (List.flatMap (jK few) hs).length ≤ 40 * hs.length := ih
  omega
section
variable (b1 b2 b3 : List AV) (s : Sm) (k k' : Nat) (hp : Hp)
theorem sk_row (h : Int) (x27 : AV) (v28 v29 : Value) (hh : 0 ≤ h ∧ h < 18446744073709551616) (m : Nat) (hm : m ≤ 40) : ∀ (j : Nat) (l : List Int) (i : Nat), i + j = m → l.length + j ≤ 1000000 →
  B15_12 (S 2 1 (LI .u32 l)) (.int .u64 h) x27 v28 v29 (.int .u32 m) (.int .u32 i) b1 b2 b3 hp = B15_16 (S 2 1 (LI .u32 (l ++ (List.range' i j).map fun (k : Nat) => h % 9000 + (k : Int)))) x27 v28 v29 b1 b2 b3 hp := by
 intro j
 induction j with
 | zero =>
  intro l i hi hl
  have hlt : ¬((i : Int) < (m : Int)) := by omega
  rw [B15_12_eq]
  simp [hlt]
 | succ j ih =>
  intro l i hi hl
  have hlt : i < m := by omega
  have r : ∀ t x y, binV Tryz.prog .rem t x y (.int .u64 h) (.int .u64 9000) = some (.int .u64 (h % 9000)) := by
   intro t x y; rw [qI _ _ _ _ _ _ _ (by omega), qG hh.1]
  have w1 : IntKind.u32.wrap (h % 9000) = h % 9000 := zi (by omega) (by omega)
  have w2 : IntKind.u32.wrap (h % 9000 + (i : Int)) = h % 9000 + (i : Int) := zi (by omega) (by omega)
  have w3 : IntKind.u32.wrap ((i : Int) + 1) = ((i + 1 : Nat) : Int) := by rw [zi] <;> omega
  have ap := appI .u32 l 2 (.inr rfl) 4 (by decide) (h % 9000 + (i : Int)) (by omega)
  have g := ih (l ++ [h % 9000 + (i : Int)]) (i + 1) (by omega) (by simp; omega)
  rw [B15_12_eq, List.range'_succ]
  simp at g w3
  simp [hlt, r, w1, w2, ap, w3, g]
theorem sk_set (hs : ∀ n ∈ s.hs, 0 ≤ n ∧ n < 18446744073709551616) (hl : s.hs.length ≤ 40) : ∀ (r : List Int) (i : Nat) (l : List Int), s.hs.drop i = r → l.length ≤ 40 * i → i ≤ s.hs.length →
  ∃ t, ∀ b3', putN b3 1 [S t 1 (LI .u32 (srt [] (l ++ jM s.few r)))] = some b3' → B15_7 (S 2 1 (LI .u32 l)) (S k 1 (LI .u64 s.hs)) (.int .i64 s.hs.length) (.int .i64 i) [.sc (.int .u8 s.kind), .sc (.int .u8 s.A), .sc (.int .u8 s.B), .sc (.int .u16 s.wide), .sc (.bool s.few), S k 1 (LI .u64 s.hs), S k' 2 (LP s.fl)] b2 b3 hp =
   yy b2 b3' hp := by
 intro r
 induction r with
 | nil =>
  intro i l hr hll hil
  have := qw hr
  have hlt : ¬((i : Int) < (s.hs.length : Int)) := by omega
  obtain ⟨t, o⟩ := run_of11 l 3 (by omega) hp0
  refine ⟨rk t, fun b3' hb => ?_⟩
  rw [B15_7_eq]
  simp [jM] at hb
  simp [hlt, o, hb]
 | cons x r ih =>
  intro i l hr hll hil
  obtain ⟨e1, e2, hi, e3⟩ := qr hr
  have hx := hs x (List.mem_of_getElem? e1)
  have hw : IntKind.i64.wrap ((i : Int) + 1) = ((i + 1 : Nat) : Int) := by rw [qg] <;> omega
  have w1 : IntKind.u32.wrap x = x % 4294967296 := by rw [IntKind.wrap_u32]
  have ap := appI .u32 l 2 (.inr rfl) 4 (by decide) (x % 4294967296) (by omega)
  have l1 := smset1_len s.few hx.1
  obtain ⟨t, g⟩ := ih (i + 1) (l ++ jK s.few x) e2 (by rw [List.length_append]; omega) (by omega)
  refine ⟨t, fun b3' hb => ?_⟩
  have es : jM s.few (x :: r) = jK s.few x ++ jM s.few r := rfl
  rw [es, ← List.append_assoc] at hb
  have g := g b3' hb
  have g16 : B15_16 (S 2 1 (LI .u32 (l ++ jK s.few x))) (S k 1 (LI .u64 s.hs)) (.int .i64 s.hs.length) (.int .i64 i) [.sc (.int .u8 s.kind), .sc (.int .u8 s.A), .sc (.int .u8 s.B), .sc (.int .u16 s.wide), .sc (.bool s.few), S k 1 (LI .u64 s.hs), S k' 2 (LP s.fl)] b2 b3 hp = yy b2 b3' hp := by
   rw [B15_16_eq]
   simp at hw g
   simp [hw, g]
  rw [B15_7_eq]
  cases hf : s.few with
  | false =>
   rw [hf] at g16
   simp [jK] at g16
   simp [hi, e3, qc, w1, ap, g16]
  | true =>
   rw [hf] at g16
   have r40 : ∀ t a b, binV Tryz.prog .rem t a b (.int .u64 x) (.int .u64 40) = some (.int .u64 (x % 40)) := by
    intro t a b; rw [qI _ _ _ _ _ _ _ (by omega), qG hx.1]
   have w2 : IntKind.u32.wrap (x % 40) = x % 40 := zi (by omega) (by omega)
   have rw1 := sk_row [.sc (.int .u8 s.kind), .sc (.int .u8 s.A), .sc (.int .u8 s.B), .sc (.int .u16 s.wide), .sc (.bool true), S k 1 (LI .u64 s.hs), S k' 2 (LP s.fl)] b2 b3 hp x (S k 1 (LI .u64 s.hs)) (.int .i64 s.hs.length) (.int .i64 i) hx (x % 40).toNat (by omega) (x % 40).toNat (l ++ [x % 4294967296]) 0 (by omega) (by simp; omega)
   have e40 : (((x % 40).toNat : Nat) : Int) = x % 40 := by omega
   rw [e40] at rw1
   have er : (l ++ [x % 4294967296]) ++ (List.range' 0 (x % 40).toNat).map (fun (k : Nat) => x % 9000 + (k : Int)) = l ++ jK true x := by
    simp [jK, row, List.range_eq_range']
   rw [er, g16] at rw1
   simp at rw1
   simp [hi, e3, qc, w1, ap, r40, w2, rw1]
theorem sk_cms (hs : ∀ n ∈ s.hs, 0 ≤ n ∧ n < 18446744073709551616) (hA : 0 ≤ s.A ∧ s.A < 256) (hB : 0 ≤ s.B ∧ s.B < 256) (hl : s.hs.length ≤ 40) : ∀ (r : List Int) (i : Nat) (l : List (Int × Int)), s.hs.drop i = r → l.length ≤ i → i ≤ s.hs.length → (∀ p ∈ l, 0 ≤ p.2 ∧ p.2 < 4294967296) →
    ∃ t, ∀ b3', putN b3 9 [.sc (.int .i64 (1 + s.A % 8)), .sc (.int .i64 (1 + s.B % 40)), S t 1 (LI .u32 (jn (1 + s.A % 8) (1 + s.B % 40) (List.replicate ((1 + s.A % 8) * (1 + s.B % 40)).toNat 0) (l ++ smc i r)))] = some b3' →
      B15_27 (S 2 2 (LQ .u64 .u32 l)) (S k 1 (LI .u64 s.hs)) (.int .i64 s.hs.length) (.int .i64 i) [.sc (.int .u8 s.kind), .sc (.int .u8 s.A), .sc (.int .u8 s.B), .sc (.int .u16 s.wide), .sc (.bool s.few), S k 1 (LI .u64 s.hs), S k' 2 (LP s.fl)] b2 b3 hp = yy b2 b3' hp := by
  intro r
  induction r with
  | nil =>
    intro i l hr hll hil hp2
    have := qw hr
    have hlt : ¬((i : Int) < (s.hs.length : Int)) := by omega
    obtain ⟨t, hpc, o⟩ := run_cms s.A s.B l 3 hA hB (by omega) hp2 hp0
    refine ⟨t, fun b3' hb => ?_⟩
    rw [B15_27_eq]
    simp [smc] at hb
    simp [hlt, qc, o, hb]
  | cons x r ih =>
    intro i l hr hll hil hp2
    obtain ⟨e1, e2, hi, e3⟩ := qr hr
    have hx := hs x (List.mem_of_getElem? e1)
    have hw : IntKind.i64.wrap ((i : Int) + 1) = ((i + 1 : Nat) : Int) := by rw [qg] <;> omega
    have r9 : ∀ t a b, binV Tryz.prog .rem t a b (.int .u64 x) (.int .u64 9) = some (.int .u64 (x % 9)) := by
      intro t a b; rw [qI _ _ _ _ _ _ _ (by omega), qG hx.1]
    have r5 : ∀ t a b, binV Tryz.prog .rem t a b (.int .i64 (i : Int)) (.int .i64 5) = some (.int .i64 ((i : Int) % 5)) := by
      intro t a b; rw [qI _ _ _ _ _ _ _ (by omega), qG (by omega)]
    have w9 : IntKind.u32.wrap (x % 9) = x % 9 := zi (by omega) (by omega)
    have s32 : ∀ t a b, binV Tryz.prog .shr t a b (.int .u64 x) (.int .u64 32) = some (.int .u64 (x / 4294967296)) := by
      intro t a b
      rw [zK _ _ _ _ _ _ _ _ (by omega)]
      have e : (2 : Int) ^ (min (32 : Int).toNat IntKind.u64.bits) = 4294967296 := by decide
      rw [e, Int.fdiv_eq_ediv_of_nonneg _ (by decide)]
    have w32 : IntKind.u32.wrap (x / 4294967296) = x / 4294967296 := zi (by omega) (by omega)
    have ex : smc i (x :: r) = (x, if i % 5 = 4 then x / 4294967296 else x % 9) :: smc (i + 1) r := rfl
    have ap := fun n => appA_Q .u64 .u32 2 (.inr rfl) l x n (by omega)
    by_cases h4 : i % 5 = 4
    · have h4' : (i : Int) % 5 = 4 := by omega
      rw [if_pos h4] at ex
      obtain ⟨t, g⟩ := ih (i + 1) (l ++ [(x, x / 4294967296)]) e2 (by simp; omega) (by omega) (fun p hp => by
        rcases List.mem_append.mp hp with hp | hp
        · exact hp2 p hp
        · simp at hp; subst hp; dsimp; omega)
      refine ⟨t, fun b3' hb => ?_⟩
      rw [ex] at hb
      have g := g b3' (by simpa using hb)
      rw [B15_27_eq]
      simp at g hw
      simp [hi, e3, qc, r9, w9, r5, h4', s32, w32, B15_32_eq, ap, hw, g]
    · have h4' : ¬((i : Int) % 5 = 4) := by omega
      rw [if_neg h4] at ex
      obtain ⟨t, g⟩ := ih (i + 1) (l ++ [(x, x % 9)]) e2 (by simp; omega) (by omega) (fun p hp => by
        rcases List.mem_append.mp hp with hp | hp
        · exact hp2 p hp
        · simp at hp; subst hp; dsimp; omega)
      refine ⟨t, fun b3' hb => ?_⟩
      rw [ex] at hb
      have g := g b3' (by simpa using hb)
      rw [B15_27_eq]
      simp at g hw
      simp [hi, e3, qc, r9, w9, r5, h4', B15_32_eq, ap, hw, g]
end
theorem gone_W {w : Nat} (hw : w < 18446744073709551616) : (gone w).W := by
 have i01 : ∀ (p : Prop) [Decidable p], qJ (if p then 1 else 0) := by intro p _; split <;> exact ⟨by decide, by decide⟩
 refine ⟨⟨show (0 : Int) ≤ 1 by decide, show (1 : Int) < 4294967296 by decide⟩, i01 _, i01 _, i01 _, i01 _, i01 _, i01 _, ?_, ?_, ?_, ?_⟩
 ·show (if isN w then 9218868437227405312 else w) < 18446744073709551616
  split <;> omega
 ·show (if isN w then 18442240474082181120 else w) < 18446744073709551616
  split <;> omega
 ·intro x hx
  have : x = wk (kw w) := by simpa [gone] using hx
  subst this
  exact wk_lt _ (kw_lt w hw)
 ·simp [gone]
theorem gone_chk {w : Nat} {K : Int} (hw : w < 18446744073709551616) (hK : 1 ≤ K ∧ K ≤ 16) : gchk K (gone w).nf = 0 := by
 rw [gchk_ok]
 refine ⟨hK, ?_, ?_, ?_, ?_⟩
 ·simp [Gs.nf, gone]; omega
 ·simp [Gs.nf, gone]
 ·show kw (if isN w then 9218868437227405312 else w) ≠ nanK
  split
  ·decide
  ·rename_i h; exact fun e => h ((kw_isN hw).mpr e)
 ·show kw (if isN w then 18442240474082181120 else w) ≠ nanK
  split
  ·decide
  ·rename_i h; exact fun e => h ((kw_isN hw).mpr e)
theorem gnew_chk {K : Int} (hK : 1 ≤ K ∧ K ≤ 16) : gchk K gnew.nf = 0 := by
 rw [gchk_ok]
 exact ⟨hK, by simp [Gs.nf, gnew]; omega, by simp [Gs.nf, gnew], by decide, by decide⟩
theorem gfold_fine {K : Int} (hK : 1 ≤ K ∧ K ≤ 16) : ∀ {r : List Nat} {g : Gs}, Ws r → g.W → gchk K g.nf = 0 → (gfold K g r).W ∧ gchk K (gfold K g r).nf = 0
 | [], g, _, hg, hc => ⟨hg, hc⟩
 | w :: r, g, hr, hg, hc => by
  have hw := hr w (by simp)
  have h1 := gmg_W (K := K) (by omega) hg (gone_W hw)
  have h2 : gchk K (gmg K g (gone w)).nf = 0 := by rw [gmg_nf]; exact gchk_merge hc (gone_chk hw hK)
  exact gfold_fine hK (r := r) (fun x hx => hr x (by simp [hx])) h1 h2
theorem run_sketch (s : Sm) (k k' : Nat) (ok : s.Ok) (hl : s.hs.length ≤ 40) (hf : s.fl.length ≤ 40) (hp : Hp) : ∃ r, IsSk (qS s) r ∧ run cxX 15 [smA s k k'] hp = some (r, hp) := by
 have hk := ok.kind
 have hA := ok.A
 have hB := ok.B
 have r6 : ∀ t a b, binV Tryz.prog .rem t a b (.int .u8 s.kind) (.int .u8 6) = some (.int .u8 (s.kind % 6)) := by
  intro t a b; rw [qI _ _ _ _ _ _ _ (by omega), qG hk.1]
 have fin : ∀ (x : SkN) (g : Gs) (a b c d e f : Nat), yy skZL (skL x g a b c d e f) hp = some (skA x g a b c d e f, hp) := by
  intro x g a b c d e f
  rw [B15_35_eq]
  unfold skL skZL skA
  simp [getN, putN]
 rw [E15]
 unfold qS
 by_cases h0 : s.kind % 6 = 0
 ·rw [if_pos h0]
  obtain ⟨t, q⟩ := sk_set skZL skZL s (rk k) (rk k') hp ok.hs hl s.hs 0 [] rfl (by simp) (by simp)
  refine ⟨_, zA (x := { skZ with kind := 0, set := srt [] (jM s.few s.hs) }) gz_W rfl t 2 2 2 2 2, ?_⟩
  have f := fin { skZ with kind := 0, set := srt [] (jM s.few s.hs) } gz t 2 2 2 2 2
  have q := q (skL { skZ with kind := 0, set := srt [] (jM s.few s.hs) } gz t 2 2 2 2 2) (by unfold skZL skL; simp [putN, skZ, gz, LF])
  unfold skL skZL at q f
  unfold skA at f ⊢
  simp [skZ, gz, LF] at q f
  simp [qc, getC, r6, h0, q, f, skZ, gz, LF]
 ·rw [if_neg h0]
  by_cases h1 : s.kind % 6 = 1
  ·rw [if_pos h1]
   have q := fun k hp => run_kmv s.A s.few s.hs k hA (by omega) (fun n hn => (ok.hs n hn).1) hp
   refine ⟨_, zA (x := { skZ with kind := 1, K := 1 + s.A % 20, hs := kmvs (1 + s.A % 20).toNat [] (s.hs.map (cut s.few)) }) gz_W rfl 2 2 2 2 2 2, ?_⟩
   have f := fin { skZ with kind := 1, K := 1 + s.A % 20, hs := kmvs (1 + s.A % 20).toNat [] (s.hs.map (cut s.few)) } gz 2 2 2 2 2 2
   unfold skL skZL at f
   unfold skA at f ⊢
   simp [skZ, gz, LF] at f
   simp [qc, getC, putN, r6, h1, q, f, skZ, gz, LF]
  ·rw [if_neg h1]
   by_cases h2 : s.kind % 6 = 2
   ·rw [if_pos h2]
    obtain ⟨t, q⟩ := run_hll s.A s.hs (rk k) hA (by omega) ok.hs hp0
    refine ⟨_, zA (x := { skZ with kind := 2, P := 4 + s.A % 5, rg := hfold (4 + s.A % 5) (List.replicate (hpow (4 + s.A % 5)) 0) s.hs }) gz_W rfl 2 2 t 2 2 2, ?_⟩
    have f := fin { skZ with kind := 2, P := 4 + s.A % 5, rg := hfold (4 + s.A % 5) (List.replicate (hpow (4 + s.A % 5)) 0) s.hs } gz 2 2 t 2 2 2
    unfold skL skZL at f
    unfold skA at f ⊢
    simp [skZ, gz, LF] at f
    simp [qc, getC, putN, r6, h2, q, f, skZ, gz, LF]
   ·rw [if_neg h2]
    by_cases h3 : s.kind % 6 = 3
    ·rw [if_pos h3]
     have q := fun k hp => run_bloom s.wide s.A k s.hs ok.wide hA (by omega) hp
     refine ⟨_, zA (x := { skZ with kind := 3, B := 1 + s.wide % 300, H := 1 + s.A % 8, bs := blm (1 + s.wide % 300) (1 + s.A % 8) [] s.hs }) gz_W rfl 2 2 2 2 2 2, ?_⟩
     have f := fin { skZ with kind := 3, B := 1 + s.wide % 300, H := 1 + s.A % 8, bs := blm (1 + s.wide % 300) (1 + s.A % 8) [] s.hs } gz 2 2 2 2 2 2
     unfold skL skZL at f
     unfold skA at f ⊢
     simp [skZ, gz, LF] at f
     simp [qc, getC, putN, r6, h3, q, f, skZ, gz, LF]
    ·rw [if_neg h3]
     by_cases h4 : s.kind % 6 = 4
     ·rw [if_pos h4]
      obtain ⟨t, q⟩ := sk_cms skZL ((AV.sc (.int .u8 4)) :: skZL.tail) s (rk k) (rk k') hp ok.hs hA hB hl s.hs 0 [] rfl (by simp) (by simp) (by simp)
      refine ⟨_, zA (x := { skZ with kind := 4, R := 1 + s.A % 8, C := 1 + s.B % 40, cs := jn (1 + s.A % 8) (1 + s.B % 40) (List.replicate ((1 + s.A % 8) * (1 + s.B % 40)).toNat 0) (smc 0 s.hs) }) gz_W rfl 2 2 2 2 t 2, ?_⟩
      have f := fin { skZ with kind := 4, R := 1 + s.A % 8, C := 1 + s.B % 40, cs := jn (1 + s.A % 8) (1 + s.B % 40) (List.replicate ((1 + s.A % 8) * (1 + s.B % 40)).toNat 0) (smc 0 s.hs) } gz 2 2 2 2 t 2
      have q := q (skL { skZ with kind := 4, R := 1 + s.A % 8, C := 1 + s.B % 40, cs := jn (1 + s.A % 8) (1 + s.B % 40) (List.replicate ((1 + s.A % 8) * (1 + s.B % 40)).toNat 0) (smc 0 s.hs) } gz 2 2 2 2 t 2) (by unfold skZL skL; simp [putN, skZ, gz, LF])
      unfold skL skZL at q f
      unfold skA at f ⊢
      have nq : S 2 2 (LQ .u64 .u32 []) = S 2 1 [] := rfl
      rw [nq] at q
      simp [skZ, gz, LF] at q f
      simp [qc, getC, r6, h4, q, f, skZ, gz, LF]
     ·rw [if_neg h4]
      have h5 : s.kind % 6 = 5 := by omega
      obtain ⟨gw, gc⟩ := gfold_fine (K := 1 + s.A % 16) (by omega) (ws_wd ok.fl) gnew_W (gnew_chk (by omega))
      have q := fun k hp => run_gauge s.A k s.fl hA (by omega) ok.fl hp
      refine ⟨_, zA (x := { skZ with kind := 5, gK := 1 + s.A % 16, g := (gfold (1 + s.A % 16) gnew (s.fl.map wd)).nf }) gw rfl 2 2 2 2 2 2, ?_⟩
      have f := fin { skZ with kind := 5, gK := 1 + s.A % 16, g := (gfold (1 + s.A % 16) gnew (s.fl.map wd)).nf } (gfold (1 + s.A % 16) gnew (s.fl.map wd)) 2 2 2 2 2 2
      unfold skL skZL at f
      unfold skA at f ⊢
      simp [skZ] at f
      simp [qc, getC, putN, r6, h5, q, f, skZ]
theorem srt_len : ∀ (r acc : List Int), (srt acc r).length ≤ acc.length + r.length
 | [], acc => by simp [srt]
 | x :: r, acc => by
  have h := srt_len r (mrg acc [x])
  have l := len_mrg acc [x]
  show (srt (mrg acc [x]) r).length ≤ _
  simp at l ⊢
  omega
theorem hadd_le {P h : Int} {l : List Int} (hP : 4 ≤ P ∧ P ≤ 8) (hl : ∀ n ∈ l, n ≤ 65 - P) : ∀ n ∈ hadd P l h, n ≤ 65 - P := by
 unfold hadd
 split
 ·rename_i hi
  intro n hn
  rcases List.mem_or_eq_of_mem_set hn with hn | rfl
  ·exact hl n hn
  ·have h1 := hrow_in (h := h) hP
   have h2 := hl l[hplc P h] (List.getElem_mem hi)
   have e : l.getD (hplc P h) 0 = l[hplc P h] := by simp [hi]
   rw [e]; omega
 ·exact hl
theorem hfold_ok {P : Int} (hP : 4 ≤ P ∧ P ≤ 8) : ∀ {l a : List Int}, (∀ n ∈ a, 0 ≤ n ∧ n ≤ 65 - P) → ∀ n ∈ hfold P a l, 0 ≤ n ∧ n ≤ 65 - P
 | [], a, h => h
 | x :: l, a, h => by
  have h1 : ∀ n ∈ hadd P a (hsh x), 0 ≤ n ∧ n ≤ 65 - P := fun n hn => ⟨(hadd_u8 hP (fun m hm => by have := h m hm; omega) n hn).1, hadd_le hP (fun m hm => (h m hm).2) n hn⟩
  exact hfold_ok hP (l := l) h1
theorem sketchN_fine (s : Sm) (ok : s.Ok) (hl : s.hs.length ≤ 40) (hf : s.fl.length ≤ 40) : Fine (qS s) := by
 have z := skZ_W
 have hA := ok.A
 have hB := ok.B
 have hw := ok.wide
 have hk := ok.kind
 unfold qS
 by_cases h0 : s.kind % 6 = 0
 ·rw [if_pos h0]
  have r := srt_rise (jM s.few s.hs) (acc := []) List.Pairwise.nil
  have l := srt_len (jM s.few s.hs) []
  have l2 := smset_len s.few ok.hs
  simp at l
  have u : U32 (srt [] (jM s.few s.hs)) := fun n hn => by
   have := (mem_srt n _ _).mp hn
   simp at this
   exact smset_in ok.hs n this
  refine ⟨⟨by show (0 : Int) ≤ 0 ∧ (0 : Int) < 256; omega, u, by show (srt [] (jM s.few s.hs)).length ≤ _; omega, z.hsL, z.rg, z.rgL, z.bs, z.bsL, z.cs, z.csL⟩, ?_, gz_pos⟩
  rw [qU]
  exact ⟨by show (0 : Int) < 6; omega, rfl, schk_ok.mpr ⟨by show (srt [] (jM s.few s.hs)).length ≤ _; omega, r⟩⟩
 ·rw [if_neg h0]
  by_cases h1 : s.kind % 6 = 1
  ·rw [if_pos h1]
   have l := kmvs_len (1 + s.A % 20).toNat (s.hs.map (cut s.few))
   refine ⟨⟨by show (0 : Int) ≤ 1 ∧ (1 : Int) < 256; omega, z.set, z.setL, by show (kmvs (1 + s.A % 20).toNat [] (s.hs.map (cut s.few))).length ≤ _; omega, z.rg, z.rgL, z.bs, z.bsL, z.cs, z.csL⟩, ?_, gz_pos⟩
   rw [qU]
   exact ⟨by show (1 : Int) < 6; omega, rfl, kchk_ok.mpr ⟨by show 1 ≤ 1 + s.A % 20 ∧ 1 + s.A % 20 ≤ 1024; omega, by show ((kmvs (1 + s.A % 20).toNat [] (s.hs.map (cut s.few))).length : Int) ≤ 1 + s.A % 20; omega, kmvs_rise _ _⟩⟩
  ·rw [if_neg h1]
   by_cases h2 : s.kind % 6 = 2
   ·rw [if_pos h2]
    have hP : 4 ≤ 4 + s.A % 5 ∧ 4 + s.A % 5 ≤ 8 := by omega
    have o := hfold_ok hP (l := s.hs) (a := List.replicate (hpow (4 + s.A % 5)) 0) (fun n hn => by have := List.eq_of_mem_replicate hn; omega)
    have l := hfold_len (4 + s.A % 5) s.hs (List.replicate (hpow (4 + s.A % 5)) 0)
    rw [List.length_replicate] at l
    have hple := hpow_le hP.2
    refine ⟨⟨by show (0 : Int) ≤ 2 ∧ (2 : Int) < 256; omega, z.set, z.setL, z.hsL, fun n hn => by have := o n hn; omega, by show (hfold (4 + s.A % 5) (List.replicate (hpow (4 + s.A % 5)) 0) s.hs).length ≤ _; omega, z.bs, z.bsL, z.cs, z.csL⟩, ?_, gz_pos⟩
    rw [qU]
    exact ⟨by show (2 : Int) < 6; omega, rfl, hchk_ok.mpr ⟨hP, l, fun n hn => (o n hn).2⟩⟩
   ·rw [if_neg h2]
    by_cases h3 : s.kind % 6 = 3
    ·rw [if_pos h3]
     have hB' : 1 ≤ 1 + s.wide % 300 ∧ 1 + s.wide % 300 ≤ 4096 := by omega
     have g := blm_good (B := 1 + s.wide % 300) (H := 1 + s.A % 8) hB'.1 (r := s.hs) (Good.nil _)
     have l := g.len hB'.2
     refine ⟨⟨by show (0 : Int) ≤ 3 ∧ (3 : Int) < 256; omega, z.set, z.setL, z.hsL, z.rg, z.rgL, g.in32 hB'.2, by show (blm (1 + s.wide % 300) (1 + s.A % 8) [] s.hs).length ≤ _; omega, z.cs, z.csL⟩, ?_, gz_pos⟩
     rw [qU]
     exact ⟨by show (3 : Int) < 6; omega, rfl, chk_good hB' (by show 1 ≤ 1 + s.A % 8 ∧ 1 + s.A % 8 ≤ 8; omega) g⟩
    ·rw [if_neg h3]
     by_cases h4 : s.kind % 6 = 4
     ·rw [if_pos h4]
      have hR : 1 ≤ 1 + s.A % 8 ∧ 1 + s.A % 8 ≤ 8 := by omega
      have hC : 1 ≤ 1 + s.B % 40 ∧ 1 + s.B % 40 ≤ 256 := by omega
      have m := cmul hR hC
      have l := cfold_len (1 + s.A % 8) (1 + s.B % 40) (smc 0 s.hs) (List.replicate ((1 + s.A % 8) * (1 + s.B % 40)).toNat 0)
      rw [List.length_replicate] at l
      have p2 : ∀ (r : List Int) (i : Nat), (∀ n ∈ r, 0 ≤ n ∧ n < 18446744073709551616) → ∀ p ∈ smc i r, 0 ≤ p.2 ∧ p.2 < 4294967296 := by
       intro r
       induction r with
       | nil => intro i _ p hp; simp [smc] at hp
       | cons x r ih =>
        intro i hr p hp
        have hx := hr x (by simp)
        rcases List.mem_cons.mp hp with rfl | hp
        ·dsimp
         split <;> omega
        ·exact ih (i + 1) (fun n hn => hr n (by simp [hn])) p hp
      have u := cfold_u32 (1 + s.A % 8) (1 + s.B % 40) (l := smc 0 s.hs) (a := List.replicate ((1 + s.A % 8) * (1 + s.B % 40)).toNat 0) (fun n hn => by have := List.eq_of_mem_replicate hn; omega) (p2 s.hs 0 ok.hs)
      refine ⟨⟨by show (0 : Int) ≤ 4 ∧ (4 : Int) < 256; omega, z.set, z.setL, z.hsL, z.rg, z.rgL, z.bs, z.bsL, u, by show (jn (1 + s.A % 8) (1 + s.B % 40) (List.replicate ((1 + s.A % 8) * (1 + s.B % 40)).toNat 0) (smc 0 s.hs)).length ≤ _; omega⟩, ?_, gz_pos⟩
      rw [qU]
      exact ⟨by show (4 : Int) < 6; omega, rfl, cchk_ok.mpr ⟨hR, hC, by show ((jn (1 + s.A % 8) (1 + s.B % 40) (List.replicate ((1 + s.A % 8) * (1 + s.B % 40)).toNat 0) (smc 0 s.hs)).length : Int) = (1 + s.A % 8) * (1 + s.B % 40); omega⟩⟩
     ·rw [if_neg h4]
      obtain ⟨gw, gc⟩ := gfold_fine (K := 1 + s.A % 16) (by omega) (ws_wd ok.fl) gnew_W (gnew_chk (by omega))
      refine ⟨⟨by show (0 : Int) ≤ 5 ∧ (5 : Int) < 256; omega, z.set, z.setL, z.hsL, z.rg, z.rgL, z.bs, z.bsL, z.cs, z.csL⟩, ?_, gw.pos⟩
      rw [qU]
      exact ⟨by show (5 : Int) < 6; omega, rfl, gc⟩
theorem sketchN_kind (s : Sm) (ok : s.Ok) : (qS s).kind = s.kind % 6 := by
 have hk := ok.kind
 unfold qS
 repeat' split
 all_goals first | (simp; omega) | rfl
def Sm.none (s : Sm) : Sm := { s with hs := [], fl := [] }
theorem Sm.Ok.none {s : Sm} (h : s.Ok) : s.none.Ok := ⟨h.kind, h.A, h.B, h.wide, by simp [Sm.none], by simp [Sm.none]⟩
theorem putN_full (Z L : List AV) (h : Z.length = L.length) : putN Z 0 L = some L := by
 unfold putN
 rw [if_pos (by omega)]
 simp [h]
theorem getN_full (L : List AV) (n : Nat) (h : L.length = n) : getN L 0 n = some L := by
 subst h; exact getN_all L
theorem getSc_map (L : List AV) (i : Nat) : qc (L.map ro1) i = qc L i := by
 unfold qc
 rw [List.getElem?_map]
 cases L[i]? with
 | none => rfl
 | some x => cases x <;> rfl
structure Cl (x : SkN) (L : List AV) : Prop where
 sk : IsSk x (.agg L)
 len : L.length = 23
 vl : L.all vl = true
 ro : L.map ro1 = L
 k0 : qc L 0 = some (.int .u8 x.kind)
theorem IsSk.cl {x : SkN} {r : AV} (h : IsSk x r) : ∃ L, r = .agg L ∧ L.length = 23 ∧ L.all AI.vl = true ∧ Cl x (L.map ro1) := by
 obtain ⟨g, a, b, c, d, e, f, gw, gn, rfl⟩ := h
 refine ⟨_, rfl, rfl, by simp, ⟨⟨g, rk a, rk b, rk c, rk d, rk e, rk f, gw, gn, by simp [skA]⟩, by simp, by simp, by simp, by simp [qc]⟩⟩
def By (l : List Int) : Prop := ∀ x ∈ l, 0 ≤ x ∧ x < 256
theorem By.cons {a : Int} {b : List Int} (h : 0 ≤ a ∧ a < 256) (g : By b) : By (a :: b) := fun x hx => (List.mem_cons.mp hx).elim (fun e => by rw [e]; exact h) (g x)
theorem By.nil : By [] := fun x hx => by cases hx
theorem By.uv (n : Nat) : By (uv n) := uv_in n
theorem By.pk (l : List Bool) : By (pk l) := fun x hx => pk_rng hx
theorem sketchN_h64 (s : Sm) (ok : s.Ok) : H64 (qS s) := by
 intro n hn
 unfold qS at hn
 by_cases h0 : s.kind % 6 = 0
 ·rw [if_pos h0] at hn; cases hn
 ·rw [if_neg h0] at hn
  by_cases h1 : s.kind % 6 = 1
  ·rw [if_pos h1] at hn
   obtain ⟨m, hm, rfl⟩ := List.mem_map.mp (mem_kmvs hn)
   have := ok.hs m hm
   unfold cut
   split <;> omega
  ·rw [if_neg h1] at hn
   split at hn
   ·cases hn
   ·split at hn
    ·cases hn
    ·split at hn <;> cases hn
theorem E41 (a0 a1 : AV) (hp : Hp) : run cxX 41 [a0, a1] hp = ((asSc a1).bind fun y0 => ((nilP (ro a0)).bind fun y1 => (cond y1 (some (Prod.mk (AV.sc (.int .i64 (.ofNat 0))) hp)) ((bltV Tryz.prog Go.Builtin.max (Array.mk [3, 3]) 3 [y0, .int .i64 (.ofNat 0)]).bind fun y2 => ((nnA (ro a0)).bind fun y3 => ((qk (ro a0)).bind fun y4 => ((Hp.rd hp (y4).1 ((y4).2).1).bind fun y5 => ((qc y5 (Nat.succ ((y4).2).2)).bind fun y6 => ((nnA (ro a0)).bind fun y7 => ((qk (ro a0)).bind fun y8 => ((Hp.rd hp (y8).1 ((y8).2).1).bind fun y9 => ((qc y9 ((y8).2).2).bind fun y10 => ((binV Tryz.prog .sub 3 (.tmp 13) (.tmp 17) y6 y10).bind fun y11 => ((binV Tryz.prog .gtr 3 (.tmp 9) (.tmp 18) y2 y11).bind fun y12 => ((asB y12).bind fun y13 => (cond y13 (some (Prod.mk (AV.sc (.int .i64 (.ofNat 14))) hp)) ((nnA (ro a0)).bind fun y14 => ((qk (ro a0)).bind fun y15 => ((Hp.rd hp (y15).1 ((y15).2).1).bind fun y16 => ((qc y16 ((y15).2).2).bind fun y17 => ((binV Tryz.prog .add 3 (.tmp 23) (.tmp 24) y17 y2).bind fun y18 => ((nnA (ro a0)).bind fun y19 => ((qk (ro a0)).bind fun y20 => ((Hp.rd hp (y20).1 ((y20).2).1).bind fun y21 => ((putN y21 ((y20).2).2 [AV.sc y18]).bind fun y22 => (some (Prod.mk (AV.sc (.int .i64 (.ofNat 0))) (Hp.put hp (y20).1 ((y20).2).1 y22)))))))))))))))))))))))))))) :=
 (qf cxX 41 ss41 400 _ _).trans (by kernel_rfl)
theorem E10 (hp : Hp) : run cxX 10 [] hp = ((qi [AV.agg [AV.sc (.int .u8 (.ofNat 0)), AV.sc (.slice none 0 0), AV.sc (.int .i64 (.ofNat 0)), AV.sc (.slice none 0 0), AV.sc (.int .i64 (.ofNat 0)), AV.sc (.slice none 0 0), AV.sc (.int .i64 (.ofNat 0)), AV.sc (.int .i64 (.ofNat 0)), AV.sc (.slice none 0 0), AV.sc (.int .i64 (.ofNat 0)), AV.sc (.int .i64 (.ofNat 0)), AV.sc (.slice none 0 0), AV.sc (.int .i64 (.ofNat 0)), AV.sc (.int .u32 (.ofNat 0)), AV.sc (.int .u32 (.ofNat 0)), AV.sc (.int .u32 (.ofNat 0)), AV.sc (.int .u32 (.ofNat 0)), AV.sc (.int .u32 (.ofNat 0)), AV.sc (.int .u32 (.ofNat 0)), AV.sc (.int .u32 (.ofNat 0)), AV.sc (.float .f64 0), AV.sc (.float .f64 0), AV.sc (.slice none 0 0)]] []).bind fun y0 => ((run cxX 16 [ro (AV.agg [AV.sc (.int .u8 (.ofNat 0)), AV.sc (.slice none 0 0), AV.sc (.int .i64 (.ofNat 0)), AV.sc (.slice none 0 0), AV.sc (.int .i64 (.ofNat 0)), AV.sc (.slice none 0 0), AV.sc (.int .i64 (.ofNat 0)), AV.sc (.int .i64 (.ofNat 0)), AV.sc (.slice none 0 0), AV.sc (.int .i64 (.ofNat 0)), AV.sc (.int .i64 (.ofNat 0)), AV.sc (.slice none 0 0), AV.sc (.int .i64 (.ofNat 0)), AV.sc (.int .u32 (.ofNat 0)), AV.sc (.int .u32 (.ofNat 0)), AV.sc (.int .u32 (.ofNat 0)), AV.sc (.int .u32 (.ofNat 0)), AV.sc (.int .u32 (.ofNat 0)), AV.sc (.int .u32 (.ofNat 0)), AV.sc (.int .u32 (.ofNat 0)), AV.sc (.float .f64 0), AV.sc (.float .f64 0), AV.sc (.slice none 0 0)])] hp0).bind fun y1 => ((qm (y1).1).bind fun y2 => ((qo 2 (y1).1).bind fun y3 => ((asSc (ro (nthA (y1).1 1))).bind fun y4 => ((run cxX 17 [AV.sc (.int .u8 (.ofNat 0)), ro (ro (ro (nthA (y1).1 0))), AV.sc (Value.pointer none)] hp).bind fun y5 => ((qo 2 (y5).1).bind fun y6 => ((asSc (ro (nthA (y5).1 1))).bind fun y7 => ((qh 23 (ro (nthA (y5).1 0))).bind fun y8 => ((putN [AV.sc (.int .u8 (.ofNat 0)), AV.sc (.slice none 0 0), AV.sc (.int .i64 (.ofNat 0)), AV.sc (.slice none 0 0), AV.sc (.int .i64 (.ofNat 0)), AV.sc (.slice none 0 0), AV.sc (.int .i64 (.ofNat 0)), AV.sc (.int .i64 (.ofNat 0)), AV.sc (.slice none 0 0), AV.sc (.int .i64 (.ofNat 0)), AV.sc (.int .i64 (.ofNat 0)), AV.sc (.slice none 0 0), AV.sc (.int .i64 (.ofNat 0)), AV.sc (.int .u32 (.ofNat 0)), AV.sc (.int .u32 (.ofNat 0)), AV.sc (.int .u32 (.ofNat 0)), AV.sc (.int .u32 (.ofNat 0)), AV.sc (.int .u32 (.ofNat 0)), AV.sc (.int .u32 (.ofNat 0)), AV.sc (.int .u32 (.ofNat 0)), AV.sc (.float .f64 0), AV.sc (.float .f64 0), AV.sc (.slice none 0 0)] 0 y8).bind fun y9 => ((binV Tryz.prog .eql 57 (.tmp 15) (.const (.int .i64 (.ofNat 0))) y4 (.int .i64 (.ofNat 0))).bind fun y10 => ((asB y10).bind fun y11 => (cond y11 ((srcA 1 (ro (ro (nthA (y1).1 0)))).bind fun y12 => ((zC y12).bind fun y13 => ((binV Tryz.prog .eql 9 (.tmp 19) (.const (Value.string (ByteArray.mk (Array.mk [0])))) (Value.string (ByteArray.mk (Array.mk y13))) (Value.string (ByteArray.mk (Array.mk [0])))).bind fun y14 => ((asB y14).bind fun y15 => (cond y15 ((binV Tryz.prog .eql 57 (.tmp 23) (.const (.int .i64 (.ofNat 0))) y7 (.int .i64 (.ofNat 0))).bind fun y16 => ((asB y16).bind fun y17 => (cond y17 ((getC y9 1).bind fun y18 => ((lenA (ro1 y18)).bind fun y19 => ((binV Tryz.prog .eql 3 (.tmp 29) (.const (.int .i64 (.ofNat 0))) (.int .i64 (.ofNat y19)) (.int .i64 (.ofNat 0))).bind fun y20 => (some (Prod.mk (AV.sc y20) (y5).2))))) (some (Prod.mk (AV.sc (.bool false)) (y5).2))))) (some (Prod.mk (AV.sc (.bool false)) (y5).2))))))) (some (Prod.mk (AV.sc (.bool false)) (y5).2))))))))))))))) :=
 (qf cxX 10 ss10 400 _ _).trans (by kernel_rfl)
theorem check_zero : checkN skZ = 0 := by simp [checkN, onlyN, skZ, schk, ordS]
theorem run_rof_nil (k : Nat) (hp : Hp) : run cxX 32 [S k 1 []] hp = some (.tup [S 2 1 [], .sc (.int .i64 0)], hp) := by
 rw [E32]
 simp [B32_5_eq]
theorem run_sput_nil (b k : Nat) (hp : Hp) (h : hp.rd b 0 = some (Wc [])) : run cxX 33 [S k 1 [], .ptr b 0 0] hp = some (.tup [], hp.put b 0 (Wc [0])) := by
 have u0 : uv 0 = [0] := by rw [uv_lt (by decide)]; rfl
 have wu := qQ b 0 [] (by decide) (by rw [u0]; decide) hp h
 rw [u0] at wu
 have lz : ∀ k, lenA (S k 1 []) = some 0 := fun k => lenA_S k []
 have bz : ∀ x hp, B33_2 (.ptr b 0 0) x (.int .i64 0) (.int .i64 0) hp = some (.tup [], hp) := fun x hp => by rw [B33_2_eq]; simp
 simp at wu
 rw [E33]
 have w0 : IntKind.u64.wrap 0 = 0 := rfl
 simp [wu, lz, bz, w0]
theorem run_put_zero (hp : Hp) : ∃ hp', run cxX 16 [skA skZ gz 2 2 2 2 2 2] hp = some (.tup [S 1 1 (LI .u8 [0]), .sc (.int .i64 0)], hp') := by
 have ck := yA (zA (x := skZ) gz_W rfl 2 2 2 2 2 2) skZ_W hp0
 rw [check_zero] at ck
 have ro := run_rof_nil 2 hp0
 have sp := run_sput_nil hp.next 2 (hp.new (Wc [])) (qB _ _)
 have wb := run_wbytes hp.next [0] (by decide) ((hp.new (Wc [])).put hp.next 0 (Wc [0])) (qp _ _ _)
 refine ⟨(hp.new [S 2 1 []]).put hp.next 0 [S 2 1 (LI .u8 [0])], ?_⟩
 simp [skA, skZ, gz, LF, fl] at ck
 simp only [Wc, nilI] at sp wb
 rw [E16]
 simp [skA, skZ, gz, LF, fl, getN, qc, getC, ck, ro, sp, wb, B16_28_eq]
theorem run_rtake_zero (b k : Nat) (hp : Hp) (h : hp.rd b 0 = some (Rc k [0] 0 0)) : run cxX 43 [.ptr b 0 0] hp = some (S 2 1 [], hp.put b 0 (Rc k [0] 1 0)) := by
 have ru := run_ruint b k [0] 4096 0 0 (by decide) (by decide) (by simp) (by simp) hp h
 have e : rU [0] 0 0 4096 = (0, 1, 0) := by decide
 rw [e] at ru
 have er := run_rerr b k [0] 1 0 (hp.put b 0 (Rc k [0] 1 0)) (qp _ _ _)
 rw [E43]
 simp at ru
 simp [ru, B43_5_eq, B43_15_eq, er]
theorem run_slist_nil (k : Nat) (hp : Hp) : run cxX 44 [S k 1 []] hp = some (S 2 1 [], hp) := by
 have lz : ∀ k, lenA (S k 1 []) = some 0 := fun k => lenA_S k []
 rw [E44]
 simp [lz, B44_3_eq]
theorem run_room (n : Nat) (h : n ≤ 1048576) (hp : Hp) : run cxX 21 [.sc (.int .i64 (n : Int))] hp = some (.sc (.int .i64 (64 * (n : Int) + 16384)), hp) := by
 have m1 : max (n : Int) 0 = n := by omega
 have m2 : min (n : Int) 1048576 = n := by omega
 have w1 : IntKind.i64.wrap (64 * (n : Int)) = 64 * (n : Int) := qg (by omega) (by omega)
 have w2 : IntKind.i64.wrap (64 * (n : Int) + 16384) = 64 * (n : Int) + 16384 := qg (by omega) (by omega)
 rw [E21]
 simp [m1, m2, w1, w2]
theorem run_mtake_nil (n : Int) (hp : Hp) : run cxX 41 [.sc (.pointer none), .sc (.int .i64 n)] hp = some (.sc (.int .i64 0), hp) := by
 rw [E41]
 simp
theorem run_take_zero (k : Nat) (hp : Hp) : ∃ hp', run cxX 17 [.sc (.int .u8 0), S k 1 (LI .u8 [0]), .sc (.pointer none)] hp = some (.tup [skA skZ gz 2 2 2 2 2 2, .sc (.int .i64 0)], hp') := by
 have ck := yA (zA (x := skZ) gz_W rfl 2 2 2 2 2 2) skZ_W hp0
 rw [check_zero] at ck
 have rm := run_room 1 (by decide) hp0
 have mt := run_mtake_nil (64 * ((1 : Nat) : Int) + 16384) hp
 have wr := run_wread (rk k) [0] hp
 have rt := run_rtake_zero hp.next (rk k) (hp.new (Rc (rk k) [0] 0 0)) (qB _ _)
 have sl := run_slist_nil 2 hp0
 have en := run_rend hp.next (rk k) [0] 1 0 ((hp.new (Rc (rk k) [0] 0 0)).put hp.next 0 (Rc (rk k) [0] 1 0)) (by decide) (by decide) (qp _ _ _)
 refine ⟨(hp.new (Rc (rk k) [0] 0 0)).put hp.next 0 (Rc (rk k) [0] 1 0), ?_⟩
 simp [skA, skZ, gz, LF, fl] at ck
 simp at rm mt wr en
 rw [E17]
 simp [skA, skZ, gz, LF, fl, getN, qc, getC, putN, ck, rm, mt, wr, rt, sl, en, B17_24_eq]
theorem run_awake18 (hp : Hp) : ∃ hp', run cxX 10 [] hp = some (.sc (.bool true), hp') := by
 obtain ⟨h1, p0⟩ := run_put_zero hp0
 obtain ⟨h2, t0⟩ := run_take_zero (rk 1) hp
 have bo : zC (LI .u8 [0]) = some [0] := rfl
 refine ⟨h2, ?_⟩
 simp [skA, skZ, gz, LF, fl] at p0 t0
 rw [E10]
 simp [p0, t0, bo, putN, getC]
end Go.Proofs.YtchmioacjkbfcaaGreat.AI
namespace Go.Proofs.YtchmioacjkbfcaaGreat.AI
open Go Go.RowKit Go.ChangeShapes Go.WideShapes Go.ChangeAt
set_option linter.unusedVariables false
set_option linter.unusedSimpArgs false
theorem vlP : ∀ (l : List (Int × Int)) (x : AV), x ∈ LP l → vl x = true
 | [], x, h => by cases h
 | p :: l, x, h => by
  simp only [LP, List.mem_cons] at h
  rcases h with rfl | rfl | h
  ·rfl
  ·rfl
  ·exact vlP l x h
def VP : List (Int × Int) → List Value
 | [] => []
 | p :: l => .int .u64 p.1 :: .int .u8 p.2 :: VP l
theorem lenVP : ∀ l, (VP l).length = 2 * l.length
 | [] => rfl
 | p :: l => by simp only [VP, List.length_cons, lenVP l]; omega
theorem getVP : ∀ (l : List (Int × Int)) (i : Nat) (v : Value), (VP l)[i]? = some v → ∃ p, l[i / 2]? = some p ∧ v = if i % 2 = 0 then .int .u64 p.1 else .int .u8 p.2
 | [], i, v, h => by simp [VP] at h
 | p :: l, 0, v, h => by
  simp only [VP, List.getElem?_cons_zero, Option.some.injEq] at h
  exact ⟨p, rfl, by simp [h]⟩
 | p :: l, 1, v, h => by
  simp only [VP, List.getElem?_cons_succ, List.getElem?_cons_zero, Option.some.injEq] at h
  exact ⟨p, rfl, by simp [h]⟩
 | p :: l, i + 2, v, h => by
  simp only [VP, List.getElem?_cons_succ] at h
  obtain ⟨q, h1, h2⟩ := getVP l i v h
  refine ⟨q, ?_, ?_⟩
  ·rw [show (i + 2) / 2 = i / 2 + 1 by omega, List.getElem?_cons_succ]; exact h1
  ·rw [show (i + 2) % 2 = i % 2 by omega]; exact h2
theorem relVP : ∀ (l : List (Int × Int)) (i : Nat) (x : AV) (v : Value), (LP l)[i]? = some x → (VP l)[i]? = some v → x = .sc v ∧ v.oneCell' = true
 | [], i, x, v, h, _ => by simp [LP] at h
 | p :: l, 0, x, v, h, h' => by
  simp only [LP, VP, List.getElem?_cons_zero, Option.some.injEq] at h h'
  subst h h'
  exact ⟨rfl, rfl⟩
 | p :: l, 1, x, v, h, h' => by
  simp only [LP, VP, List.getElem?_cons_succ, List.getElem?_cons_zero, Option.some.injEq] at h h'
  subst h h'
  exact ⟨rfl, rfl⟩
 | p :: l, i + 2, x, v, h, h' => by
  simp only [LP, VP, List.getElem?_cons_succ] at h h'
  exact relVP l i x v h h'
section
variable {H : Type} {enc : TypeId × Value → H} {P : Program} {W : World} {fuel : Nat} {t e tu t8 : TypeId} {cs : List Value} {y : DataW H × List MemPlace} {fs : Array Field}
theorem rd_pairs {f0 f1 : Field} (ht : P.underlying t = some (.slice e)) (he : P.underlying e = some (.struct #[f0, f1])) (h0 : P.underlying f0.type = some (.int .u64)) (h1 : P.underlying f1.type = some (.int .u8))
    (o0 : f0.offset = 0) (o1 : f1.offset = 1) (hc : P.cellsOf e = 2) (c0 : P.cellsOf f0.type = 1) (c1 : P.cellsOf f1.type = 1) (h : DataW.trod enc P W 0 (fun _ => true) true fuel t cs = some y) :
    ∃ k l v, cs = [v] ∧ RelR (gh0 W) W (S k 2 (LP l)) v ∧ ∀ p ∈ l, InI p := by
  rcases DataW.trod_slice ht h with ⟨hcs, _⟩ | ⟨a, len, cap, elems, rest, n, _, hcs, _, _, hl, _, hlen, hel, _, _⟩
  · exact ⟨2, [], _, hcs, .sc nil0 rfl, by simp⟩
  · have each : ∀ i, i < len → ∃ p : Int × Int, InI p ∧ W.cell? (a.add (i * 2)) = some (.int .u64 p.1) ∧ W.cell? (a.add (i * 2 + 1)) = some (.int .u8 p.2) := by
      intro i hi
      have hb := hel i hi
      rw [List.getElem?_eq_getElem (by omega), hc, Option.bind_eq_some_iff] at hb
      obtain ⟨cs', hcs', hy'⟩ := hb
      obtain ⟨xs, m, _, _, hcl, hxl, hf⟩ := DataW.trod_struct he hy'
      have g0 := hf 0 f0 rfl
      have g1 := hf 1 f1 rfl
      rw [o0, c0] at g0
      rw [o1, c1] at g1
      rw [hc] at hcl
      obtain ⟨y0, hy0⟩ : ∃ y, xs[0]? = some y := ⟨_, List.getElem?_eq_getElem (by rw [hxl]; simp)⟩
      obtain ⟨y1, hy1⟩ : ∃ y, xs[1]? = some y := ⟨_, List.getElem?_eq_getElem (by rw [hxl]; simp)⟩
      rw [hy0] at g0
      rw [hy1] at g1
      obtain ⟨n0, q0, w0⟩ := rd_int h0 g0
      obtain ⟨n1, q1, w1⟩ := rd_int h1 g1
      have z0 := cell_at q0
      have z1 := cell_at q1
      have hc3 := (World.cells?_some hcs').2.2
      refine ⟨(n0, n1), ⟨w0.u64, w1.u8⟩, ?_, ?_⟩
      · have := hc3 0 (by omega)
        rw [Addr.add_add, Nat.add_zero] at this
        rw [this]; exact z0
      · have := hc3 1 (by omega)
        rw [Addr.add_add] at this
        rw [this]; exact z1
    have ch : ∃ f : Nat → Int × Int, ∀ i, i < len → InI (f i) ∧ W.cell? (a.add (i * 2)) = some (.int .u64 (f i).1) ∧ W.cell? (a.add (i * 2 + 1)) = some (.int .u8 (f i).2) := by
      refine ⟨fun i => if hi : i < len then (each i hi).choose else (0, 0), fun i hi => ?_⟩
      simp only [dif_pos hi]
      exact (each i hi).choose_spec
    obtain ⟨f, hf⟩ := ch
    have hg : ∀ (i : Nat) (p : Int × Int), ((List.range len).map f)[i]? = some p → i < len ∧ p = f i := by
      intro i p hp
      rw [List.getElem?_map, Option.map_eq_some_iff] at hp
      obtain ⟨j, hj, rfl⟩ := hp
      obtain ⟨h1, h2⟩ := List.getElem?_eq_some_iff.mp hj
      simp at h1 h2
      subst h2
      exact ⟨h1, rfl⟩
    refine ⟨0, (List.range len).map f, _, hcs, ?_, ?_⟩
    · have := arg_sl (W := W) (a := a) (n := len) (cap := cap) (sz := 2) (cs := LP ((List.range len).map f)) (vs := VP ((List.range len).map f)) (by omega) (by rw [lenP]; simp; omega) (by rw [lenP, lenVP]) hl
        (fun i v hv => by
          obtain ⟨p, hp, rfl⟩ := getVP _ i v hv
          obtain ⟨hi, rfl⟩ := hg _ _ hp
          obtain ⟨_, q0, q1⟩ := hf _ hi
          by_cases hm : i % 2 = 0
          · rw [if_pos hm, ← q0]
            congr 2
            omega
          · rw [if_neg hm, ← q1]
            congr 2
            omega)
        (fun x hx => vlP _ x hx)
        (fun i x v hx hv => by
          obtain ⟨rfl, ho⟩ := relVP _ i x v hx hv
          exact .sc _ ho)
      exact this (fun _ => .fr)
    · intro p hp
      obtain ⟨i, hi, rfl⟩ := List.mem_map.mp hp
      exact (hf i (by simpa using hi)).1
end
end Go.Proofs.YtchmioacjkbfcaaGreat.AI
namespace Go.Proofs.YtchmioacjkbfcaaGreat.AI
open Go
set_option linter.unusedVariables false
set_option linter.unusedSimpArgs false
set_option maxRecDepth 100000
set_option maxHeartbeats 0
def kzN : Nat → Nat → Nat × Nat
 | 0, w => (w, 0)
 | f + 1, w => if w < 16777216 then ((kzN f (w * 256)).1, (kzN f (w * 256)).2 + 1) else (w, 0)
def kz : Nat → Nat → Nat → Nat → Nat
 | 0, _, _, k => k
 | f + 1, a, w, k => kz f (if a + 24 + 63 ≤ 4096 then a + 24 else (a + 24 + 1) / 2) (kzN 4 (w / (a + 63) * a)).1 (k + (kzN 4 (w / (a + 63) * a)).2)
theorem norm_kz : ∀ (f : Nat) (s : En), okE s s.width → s.width ≤ 4294967296 → s.low = 0 → (norm f s).low = 0 ∧ (norm f s).width = (kzN f s.width).1 ∧ eK (norm f s) = eK s + (kzN f s.width).2 := by
 intro f
 induction f with
 | zero => intro s h hw hl; exact ⟨hl, rfl, rfl⟩
 | succ f ih =>
  intro s h hw hl
  unfold norm kzN
  by_cases hq : s.width < 16777216
  ·rw [if_pos hq, if_pos hq]
   obtain ⟨a1, a2, a3, a4⟩ := sh_ok (wid s (s.width * 256)) s.width h (by omega)
   have a4 : (sh (wid s (s.width * 256))).width = s.width * 256 := a4
   have a3 : eK (sh (wid s (s.width * 256))) = eK s + 1 := a3
   have hl2 : (sh (wid s (s.width * 256))).low = 0 := by
    have e : ∀ s : En, (sh s).low = s.low % 16777216 * 256 := fun s => by unfold sh; split <;> rfl
    rw [e]
    show s.low % 16777216 * 256 = 0
    rw [hl]
   obtain ⟨b1, b2, b3⟩ := ih (sh (wid s (s.width * 256))) (by rw [a4]; exact a1) (by rw [a4]; omega) hl2
   rw [a4] at b2 b3
   exact ⟨b1, b2, by rw [b3, a3]; omega⟩
  ·rw [if_neg hq, if_neg hq]
   exact ⟨hl, rfl, rfl⟩
theorem see_zero (a : Nat) : see (a :: List.replicate 63 1) 0 = (if a + 24 + 63 ≤ 4096 then a + 24 else (a + 24 + 1) / 2) :: List.replicate 63 1 := by
 have e : ((a :: List.replicate 63 1).set 0 ((a :: List.replicate 63 1).getD 0 0 + 24)) = (a + 24) :: List.replicate 63 1 := rfl
 have s : ((a + 24) :: List.replicate 63 1).sum = a + 24 + 63 := by rw [List.sum_cons]; rfl
 unfold see
 rw [e, s]
 split
 ·rfl
 ·simp
theorem enc_zero : ∀ (n a : Nat) (s : En), 1 ≤ a → okM (a :: List.replicate 63 1) → okE s s.width → 16777216 ≤ s.width ∧ s.width ≤ 4294967296 → s.low = 0 → eK (enc (a :: List.replicate 63 1) s (List.replicate n 0)) = kz n a s.width (eK s) := by
 intro n
 induction n with
 | zero => intro a s _ _ _ _ _; rfl
 | succ n ih =>
  intro a s ha hm h hw hl
  have e : List.replicate (n + 1) 0 = 0 :: List.replicate n 0 := rfl
  have es : (a :: List.replicate 63 1).sum = a + 63 := by rw [List.sum_cons]; rfl
  have et : ((a :: List.replicate 63 1).take 0).sum = 0 := rfl
  have eg : (a :: List.replicate 63 1).getD 0 0 = a := rfl
  obtain ⟨d, b1, b2, b3, b4, b5, b6, b7⟩ := add_ok s (a :: List.replicate 63 1) 0 hm (by omega) h hw
  have hnar : okE (nar s (a :: List.replicate 63 1) 0) (nar s (a :: List.replicate 63 1) 0).width ∧ (nar s (a :: List.replicate 63 1) 0).width ≤ 4294967296 := by
   have hle : s.width / (a + 63) * a ≤ s.width := Nat.le_trans (Nat.mul_le_mul_left _ (show a ≤ a + 63 by omega)) (Nat.div_mul_le_self _ _)
   rw [es, eg] at b7
   refine ⟨⟨?_, h.2.1, ?_, fun q => ?_⟩, ?_⟩
   ·show s.low + s.width / (a :: List.replicate 63 1).sum * _ + s.width / (a :: List.replicate 63 1).sum * _ ≤ _
    rw [es, et, eg]; have := h.1; omega
   ·show 0 < s.width / (a :: List.replicate 63 1).sum * _
    rw [es, eg]; exact b7
   ·have := h.2.2.2 q
    show s.low + s.width / (a :: List.replicate 63 1).sum * _ + s.width / (a :: List.replicate 63 1).sum * _ ≤ _
    rw [es, et, eg]; omega
   ·show s.width / (a :: List.replicate 63 1).sum * _ ≤ _
    rw [es, eg]; omega
  have hwn : (nar s (a :: List.replicate 63 1) 0).width = s.width / (a + 63) * a := by
   show s.width / (a :: List.replicate 63 1).sum * _ = _
   rw [es, eg]
  have hln : (nar s (a :: List.replicate 63 1) 0).low = 0 := by
   show s.low + s.width / (a :: List.replicate 63 1).sum * _ = 0
   rw [et, hl]; rfl
  have hkn : eK (nar s (a :: List.replicate 63 1) 0) = eK s := rfl
  obtain ⟨c1, c2, c3⟩ := norm_kz 4 (nar s (a :: List.replicate 63 1) 0) hnar.1 hnar.2 hln
  rw [hwn] at c2 c3
  have ee : enc (a :: List.replicate 63 1) s (0 :: List.replicate n 0) = enc (see (a :: List.replicate 63 1) 0) (norm 4 (nar s (a :: List.replicate 63 1) 0)) (List.replicate n 0) := rfl
  have hsee := see_ok hm (show 0 < 64 by omega)
  rw [e, ee, see_zero]
  rw [see_zero] at hsee
  rw [ih _ _ (by split <;> omega) hsee b4 ⟨b5, b6⟩ c1, c2, c3, hkn]
  rfl
theorem kz16 : kz 16 1 4294967295 0 ≤ 70 := by decide
theorem kz32 : kz 32 1 4294967295 0 ≤ 70 := by decide
theorem kz64 : kz 64 1 4294967295 0 ≤ 70 := by decide
theorem kz128 : kz 128 1 4294967295 0 ≤ 70 := by decide
theorem kz256 : kz 256 1 4294967295 0 ≤ 70 := by decide
theorem uv_one {n : Nat} (h : n < 128) : (uv n).length = 1 := by rw [uv_lt h]; rfl
theorem cod_zero {n : Nat} (h : n = 16 ∨ n = 32 ∨ n = 64 ∨ n = 128 ∨ n = 256) : (cod (List.replicate n 0)).length ≤ 74 := by
 have hz : ∀ x ∈ List.replicate n 0, x < 64 := fun x hx => by rw [List.eq_of_mem_replicate hx]; omega
 rw [(cod_num _ hz).2]
 have hc : cs0 = 1 :: List.replicate 63 1 := rfl
 have k := enc_zero n 1 en0 (by omega) (by rw [← hc]; exact okM0) okE0 ⟨by decide, by decide⟩ rfl
 rw [← hc] at k
 have e0 : eK en0 = 0 := rfl
 have ew : en0.width = 4294967295 := rfl
 rw [e0, ew] at k
 rw [k]
 rcases h with e | e | e | e | e <;> subst e
 ·have := kz16; omega
 ·have := kz32; omega
 ·have := kz64; omega
 ·have := kz128; omega
 ·have := kz256; omega
theorem none_len (s : Sm) (ok : s.Ok) (hk : s.kind % 6 ≠ 4) : (putY (qS s.none)).length ≤ 80 := by
 have u0 : (uv 0).length = 1 := uv_one (by omega)
 have hA := ok.A
 have hw := ok.wide
 unfold putY
 by_cases h0 : s.kind % 6 = 0
 ·have e : qS s.none = { skZ with kind := 0, set := [] } := by
   unfold qS
   rw [if_pos (show s.none.kind % 6 = 0 from h0)]; rfl
  rw [e, if_pos rfl]
  have e1 : roaY (chs (tn ([] : List Int))) = uv 0 ++ [] := rfl
  show (roaY (chs (tn ([] : List Int)))).length ≤ 80
  rw [e1, List.append_nil, u0]; omega
 ·by_cases h1 : s.kind % 6 = 1
  ·have e : qS s.none = { skZ with kind := 1, K := 1 + s.A % 20, hs := [] } := by
    unfold qS
    rw [if_neg (show ¬(s.none.kind % 6 = 0) from h0), if_pos (show s.none.kind % 6 = 1 from h1)]; rfl
   rw [e, if_neg (show ¬((1 : Int) = 0) by decide), if_pos rfl]
   show (uv (1 + s.A % 20).toNat ++ ricY (tn ([] : List Int))).length ≤ 80
   have e1 : ricY (tn ([] : List Int)) = uv 0 ++ [((parR (gaps []) : Nat) : Int)] ++ uv 0 ++ [] := rfl
   have hu := qu (n := (1 + s.A % 20).toNat) (by omega)
   rw [e1]
   simp only [List.length_append, List.length_singleton, List.length_nil, u0]
   omega
  ·by_cases h2 : s.kind % 6 = 2
   ·have e : qS s.none = { skZ with kind := 2, P := 4 + s.A % 5, rg := List.replicate (hpow (4 + s.A % 5)) 0 } := by
     unfold qS
     rw [if_neg (show ¬(s.none.kind % 6 = 0) from h0), if_neg (show ¬(s.none.kind % 6 = 1) from h1), if_pos (show s.none.kind % 6 = 2 from h2)]; rfl
    rw [e, if_neg (show ¬((2 : Int) = 0) by decide), if_neg (show ¬((2 : Int) = 1) by decide), if_pos rfl]
    show ((4 + s.A % 5) :: cod (tn (List.replicate (hpow (4 + s.A % 5)) 0))).length ≤ 80
    have et : tn (List.replicate (hpow (4 + s.A % 5)) 0) = List.replicate (hpow (4 + s.A % 5)) 0 := by unfold tn; rw [List.map_replicate]; rfl
    have h5 : s.A % 5 = 0 ∨ s.A % 5 = 1 ∨ s.A % 5 = 2 ∨ s.A % 5 = 3 ∨ s.A % 5 = 4 := by omega
    have hp : hpow (4 + s.A % 5) = 16 ∨ hpow (4 + s.A % 5) = 32 ∨ hpow (4 + s.A % 5) = 64 ∨ hpow (4 + s.A % 5) = 128 ∨ hpow (4 + s.A % 5) = 256 := by
     unfold hpow
     rcases h5 with q | q | q | q | q <;> rw [q]
     ·exact .inl (by decide)
     ·exact .inr (.inl (by decide))
     ·exact .inr (.inr (.inl (by decide)))
     ·exact .inr (.inr (.inr (.inl (by decide))))
     ·exact .inr (.inr (.inr (.inr (by decide))))
    have := cod_zero hp
    rw [et, List.length_cons]
    omega
   ·by_cases h3 : s.kind % 6 = 3
    ·have e : qS s.none = { skZ with kind := 3, B := 1 + s.wide % 300, H := 1 + s.A % 8, bs := [] } := by
      unfold qS
      rw [if_neg (show ¬(s.none.kind % 6 = 0) from h0), if_neg (show ¬(s.none.kind % 6 = 1) from h1), if_neg (show ¬(s.none.kind % 6 = 2) from h2), if_pos (show s.none.kind % 6 = 3 from h3)]; rfl
     rw [e, if_neg (show ¬((3 : Int) = 0) by decide), if_neg (show ¬((3 : Int) = 1) by decide), if_neg (show ¬((3 : Int) = 2) by decide), if_pos rfl]
     show (uv (1 + s.wide % 300).toNat ++ [1 + s.A % 8] ++ fanY (tn ([] : List Int))).length ≤ 80
     have e1 : fanY (tn ([] : List Int)) = uv 0 ++ uv 0 ++ [] ++ uv 0 ++ [] := rfl
     have hu := qu (n := (1 + s.wide % 300).toNat) (by omega)
     rw [e1]
     simp only [List.length_append, List.length_singleton, List.length_nil, u0]
     omega
    ·have e : qS s.none = { skZ with kind := 5, gK := 1 + s.A % 16, g := gnew.nf } := by
      unfold qS
      rw [if_neg (show ¬(s.none.kind % 6 = 0) from h0), if_neg (show ¬(s.none.kind % 6 = 1) from h1), if_neg (show ¬(s.none.kind % 6 = 2) from h2), if_neg (show ¬(s.none.kind % 6 = 3) from h3), if_neg (show ¬(s.none.kind % 6 = 4) from hk)]; rfl
     rw [e, if_neg (show ¬((5 : Int) = 0) by decide), if_neg (show ¬((5 : Int) = 1) by decide), if_neg (show ¬((5 : Int) = 2) by decide), if_neg (show ¬((5 : Int) = 3) by decide), if_neg (show ¬((5 : Int) = 4) by decide)]
     show (gauY (1 + s.A % 16) gnew.nf).length ≤ 80
     have h1 := qu (n := gnew.nf.lo) (by show kw gnew.lo < _; exact kw_lt _ (by decide))
     have h2 := qu (n := gnew.nf.hi) (by show kw gnew.hi < _; exact kw_lt _ (by decide))
     have e1 : gauY (1 + s.A % 16) gnew.nf = [1 + s.A % 16] ++ uv 0 ++ uv 0 ++ uv 0 ++ uv 0 ++ uv 0 ++ uv 0 ++ uv 0 ++ uv gnew.nf.lo ++ uv gnew.nf.hi ++ [0] ++ [] := rfl
     rw [e1]
     simp only [List.length_append, List.length_singleton, List.length_nil, u0]
     omega
def rowN (b n : Nat) : List Nat := (List.range n).map fun i => b + i
theorem rowN_succ (b n : Nat) : rowN b (n + 1) = rowN b n ++ [b + n] := by simp [rowN, List.range_succ]
theorem rowN_mem (b n y : Nat) : y ∈ rowN b n ↔ b ≤ y ∧ y < b + n := by
 unfold rowN
 rw [List.mem_map]
 constructor
 ·rintro ⟨i, hi, rfl⟩
  have := List.mem_range.mp hi
  omega
 ·intro h
  exact ⟨y - b, List.mem_range.mpr (by omega), by omega⟩
theorem rising_snoc : ∀ (l : List Nat) (x : Nat), zw l → (∀ y ∈ l, y < x) → zw (l ++ [x]) := by
 intro l
 induction l with
 | nil => intro x _ _; trivial
 | cons a r ih =>
  intro x h hx
  cases r with
  | nil => exact ⟨hx a (by simp), trivial⟩
  | cons b s => exact ⟨h.1, ih x h.2 fun y hy => hx y (by simp [hy])⟩
theorem rowN_rising (b : Nat) : ∀ n, zw (rowN b n) := by
 intro n
 induction n with
 | zero => trivial
 | succ n ih =>
  rw [rowN_succ]
  exact rising_snoc _ _ ih fun y hy => by have := (rowN_mem b n y).mp hy; omega
theorem chs_one (k : Nat) : ∀ (l : List Nat), l ≠ [] → (∀ x ∈ l, x / 256 = k) → ∃ m, chs l = [(k, m)] := by
 intro l
 induction l with
 | nil => intro h; exact absurd rfl h
 | cons x r ih =>
  intro _ h
  have hx := h x (by simp)
  cases r with
  | nil => exact ⟨2 ^ (x % 256), by show [(x / 256, 2 ^ (x % 256))] = _; rw [hx]⟩
  | cons y s =>
   obtain ⟨m, hm⟩ := ih (by simp) fun z hz => h z (by simp [hz])
   refine ⟨m ||| 2 ^ (x % 256), ?_⟩
   show putC x (chs (y :: s)) = _
   rw [hm, zy, if_pos hx.symm]
theorem rcn_row (m n : Nat) (hb : ∀ j, j < 256 → m.testBit j = decide (j < n)) : ∀ i, i ≤ 256 → rcn m i ≤ 1 := by
 intro i hi
 have key : ∀ i, i ≤ 256 → rcn m i = if i = 0 ∨ n = 0 then 0 else 1 := by
  intro i
  induction i with
  | zero => intro _; rfl
  | succ i ih =>
   intro h
   have e : rcn m (i + 1) = rcn m i + (m.testBit i && !(decide (0 < i) && m.testBit (i - 1))).toNat := rfl
   rw [e, ih (by omega), hb i (by omega), hb (i - 1) (by omega)]
   by_cases hn : n = 0
   ·subst hn; simp
   ·by_cases h0 : i = 0
    ·subst h0
     have : 0 < n := by omega
     simp [hn, this]
    ·by_cases hin : i < n
     ·have h1 : i - 1 < n := by omega
      have h2 : 0 < i := by omega
      simp [hn, h0, hin, h1, h2]
     ·simp [hn, h0, hin]
 rw [key i hi]
 split <;> omega
theorem row_len (k n : Nat) (hk : k < 16777216) (hn : n ≤ 255) : (roaY (chs (rowN (k * 256) n))).length ≤ 12 := by
  by_cases h0 : n = 0
  · subst h0
    have e : roaY (chs (rowN (k * 256) 0)) = uv 0 ++ [] := rfl
    rw [e, List.append_nil, uv_one (by omega)]; omega
  · have hne : rowN (k * 256) n ≠ [] := by
      intro e
      have := congrArg List.length e
      simp [rowN] at this
      exact h0 this
    have hall : ∀ x ∈ rowN (k * 256) n, x / 256 = k := fun x hx => by have := (rowN_mem _ _ _).mp hx; omega
    obtain ⟨m, hm⟩ := chs_one k (rowN (k * 256) n) hne hall
    have hr := rowN_rising (k * 256) n
    have hb : ∀ j, j < 256 → m.testBit j = decide (j < n) := by
      intro j hj
      have c := (chs_mem (rowN (k * 256) n) hr).2 (k * 256 + j)
      rw [hm, rowN_mem] at c
      have d1 : (k * 256 + j) / 256 = k := by omega
      have d2 : (k * 256 + j) % 256 = j := by omega
      rw [d1, d2] at c
      by_cases hjn : j < n
      · obtain ⟨c1, h1, h2, h3⟩ := c.mp ⟨by omega, by omega⟩
        have : c1 = (k, m) := by simpa using h1
        subst this
        rw [decide_eq_true hjn]; exact h3
      · rw [decide_eq_false hjn]
        cases q : m.testBit j
        · rfl
        · have := c.mpr ⟨(k, m), by simp, rfl, q⟩
          omega
    have r1 := rcn_row m n hb 256 (Nat.le_refl _)
    have hu : (uv k).length ≤ 4 := uv_len 3 k (by have : (128 : Nat) ^ 4 = 268435456 := by decide
                                                  omega)
    have e : roaY [(k, m)] = uv 1 ++ (uv k ++ ((kind m : Nat) : Int) :: bodY m ++ []) := rfl
    have hbody : (bodY m).length ≤ 3 := by
      unfold bodY
      have a := arrF_len0 m
      have b := rnF_len0 m
      by_cases k0 : kind m = 0
      · rw [if_pos k0, List.length_cons, a]
        unfold kind at k0
        split at k0
        · omega
        · split at k0 <;> omega
      · rw [if_neg k0]
        by_cases k1 : kind m = 1
        · exfalso
          unfold kind at k1
          split at k1
          · omega
          · split at k1 <;> omega
        · rw [if_neg k1, List.length_cons, b]; omega
    rw [hm, e]
    have u1 : (uv 1).length = 1 := uv_one (by omega)
    simp only [List.length_append, List.length_cons, List.length_nil, u1]
    omega
def rowS (l : List Int) : SkN := { skZ with kind := 0, set := l }
theorem rowS_fine {l : List Nat} (h32 : ∀ x ∈ l, x < 4294967296) (hr : zw l) (hl : l.length ≤ 300) : Fine (rowS (nz l)) ∧ tn (rowS (nz l)).set = l := by
 have z := skZ_W
 have hin : ∀ n ∈ nz l, 0 ≤ n ∧ n < 4294967296 := by
  intro n hn
  obtain ⟨m, hm, rfl⟩ := List.mem_map.mp hn
  have := h32 m hm
  omega
 have hR : ∀ l : List Nat, zw l → Rise (nz l) := by
  intro l
  induction l with
  | nil => intro _; exact List.Pairwise.nil
  | cons x r ih =>
   intro h
   refine List.pairwise_cons.mpr ⟨fun n hn => ?_, ih (rising_tail h)⟩
   obtain ⟨m, hm, rfl⟩ := List.mem_map.mp hn
   have := rising_lt r x h m hm
   show (x : Int) < (m : Int)
   omega
 refine ⟨⟨⟨by show (0 : Int) ≤ 0 ∧ (0 : Int) < 256; omega, hin, by show (nz l).length ≤ _; simp; omega, z.hsL, z.rg, z.rgL, z.bs, z.bsL, z.cs, z.csL⟩, ?_, gz_pos⟩, ?_⟩
 ·rw [qU]
  exact ⟨by show (0 : Int) < 6; omega, rfl, schk_ok.mpr ⟨by show (nz l).length ≤ _; simp; omega, hR l hr⟩⟩
 ·show (nz l).map Int.toNat = l
  simp [nz, Function.comp_def]
theorem gS7s (a b c d e f g : AV) : getN [a, b, c, d, e, f, g] 0 7 = some [a, b, c, d, e, f, g] := rfl
theorem rowN_len (b n : Nat) : (rowN b n).length = n := by simp [rowN]
theorem small_loop (fr n : Nat) (hfr : fr < 4294967296) (hn : n ≤ 255) (x8 : AV) (v9 : Value) (b7 : List AV) (hp : Hp) : ∀ (f i : Nat), i + f = n →
    B4_10 (.int .u32 (fr : Int)) x8 v9 (.int .u32 (n : Int)) (.int .u32 (i : Int)) b7 (skL (rowS (nz (rowN (fr / 256 * 256) i))) gz 2 2 2 2 2 2) hp =
      B4_10 (.int .u32 (fr : Int)) x8 v9 (.int .u32 (n : Int)) (.int .u32 (n : Int)) b7 (skL (rowS (nz (rowN (fr / 256 * 256) n))) gz 2 2 2 2 2 2) hp := by
  intro f
  induction f with
  | zero => intro i h; have e : i = n := by omega
            subst e; rfl
  | succ f ih =>
    intro i h
    have hlt : (i : Int) < (n : Int) := by omega
    have s8 : ∀ t o o', binV Tryz.prog .shr t o o' (.int .u32 (fr : Int)) (.int .u64 8) = some (.int .u32 ((fr / 256 : Nat) : Int)) := fun t o o' => jN .u32 fr 8 (by decide) t o o' .u64
    have l8 : ∀ t o o', binV Tryz.prog .shl t o o' (.int .u32 ((fr / 256 : Nat) : Int)) (.int .u64 8) = some (.int .u32 ((fr / 256 * 256 : Nat) : Int)) := by
      intro t o o'
      rw [zL _ _ _ _ _ _ _ _ (by omega)]
      have e2 : (2 : Int) ^ min (8 : Int).toNat IntKind.u32.bits = 256 := rfl
      have e3 : ((fr / 256 : Nat) : Int) * 256 = ((fr / 256 * 256 : Nat) : Int) := by omega
      rw [e2, e3, zi (by omega) (by omega)]
    have w1 : IntKind.u32.wrap (((fr / 256 * 256 : Nat) : Int) + (i : Int)) = ((fr / 256 * 256 + i : Nat) : Int) := by rw [zi] <;> omega
    have w2 : IntKind.u32.wrap ((i : Int) + 1) = ((i + 1 : Nat) : Int) := by rw [zi] <;> omega
    have ap := appI .u32 (nz (rowN (fr / 256 * 256) i)) 2 (.inr rfl) 4 (by decide) ((fr / 256 * 256 + i : Nat) : Int) (by simp [rowN]; omega)
    have es : nz (rowN (fr / 256 * 256) i) ++ [((fr / 256 * 256 + i : Nat) : Int)] = nz (rowN (fr / 256 * 256) (i + 1)) := by rw [rowN_succ, nz_snoc]
    rw [es] at ap
    rw [← ih (i + 1) (by omega), B4_10_eq]
    generalize nz (rowN (fr / 256 * 256) (i + 1)) = L1 at *
    generalize nz (rowN (fr / 256 * 256) i) = L0 at *
    generalize ((fr / 256 * 256 + i : Nat) : Int) = y at *
    generalize ((fr / 256 * 256 : Nat) : Int) = y2 at *
    generalize ((fr / 256 : Nat) : Int) = y3 at *
    generalize ((i + 1 : Nat) : Int) = I at *
    unfold skL rowS
    simp [hlt, getC, s8, l8, w1, okV, ap, putN, w2]
theorem small_end (x : SkN) (v : AV) (fx : Fine x) (hx : H64 x) (s : List AV) (hs : qc s 0 = some (.int .u8 x.kind)) (k : Nat) (fr n : Nat) (hfr : fr < 4294967296) (hn : n ≤ 255) (hlen : x.kind ≠ 4 → (putY x).length ≤ 80) (hp : Hp) :
  B4_10 (.int .u32 (fr : Int)) (S k 1 (LI .u8 (putY x))) (.int .i64 0) (.int .u32 (n : Int)) (.int .u32 (n : Int)) s (skL (rowS (nz (rowN (fr / 256 * 256) n))) gz 2 2 2 2 2 2) hp = some (.sc (.bool true), hp) := by
 have hb : ∀ y ∈ rowN (fr / 256 * 256) n, y < 4294967296 := fun y hy => by have := (rowN_mem _ _ _).mp hy; omega
 obtain ⟨fr2, et⟩ := rowS_fine hb (rowN_rising _ _) (by rw [rowN_len]; omega)
 have h64 : H64 (rowS (nz (rowN (fr / 256 * 256) n))) := fun y hy => by cases hy
 have rl := row_len (fr / 256) n (by omega) hn
 have ey : putY (rowS (nz (rowN (fr / 256 * 256) n))) = roaY (chs (rowN (fr / 256 * 256) n)) := by
  unfold putY
  rw [if_pos (show (rowS (nz (rowN (fr / 256 * 256) n))).kind = 0 from rfl), et]
 obtain ⟨hp1, pt⟩ := run_put (zA (x := rowS (nz (rowN (fr / 256 * 256) n))) gz_W rfl (rk 2) (rk 2) (rk 2) (rk 2) (rk 2) (rk 2)) fr2 h64 hp0
 rw [ey] at pt
 rw [B4_10_eq]
 unfold skA at pt
 unfold skL
 generalize roaY (chs (rowN (fr / 256 * 256) n)) = Y at *
 have rl' : (Y.length : Int) ≤ 12 := by omega
 generalize rowS (nz (rowN (fr / 256 * 256) n)) = q at *
 by_cases h4 : x.kind = 4
 ·simp [getN] at pt ⊢
  simp [pt, hs, h4, rl']
 ·have hl := hlen h4
  have hl' : ((putY x).length : Int) ≤ 80 := by omega
  generalize putY x = X at *
  simp [getN] at pt ⊢
  simp [pt, hs, h4, rl', hl']
theorem run_packsmall (s : Sm) (fr n : Nat) (hfr : fr < 4294967296) (hn : n ≤ 255) (k1 k2 : Nat) (oks : s.Ok) (hp : Hp) : run cxX 4 [smA s k1 k2, .sc (.int .u32 (fr : Int)), .sc (.int .u8 (n : Int))] hp = some (.sc (.bool true), hp) := by
  have li := fun k k' hp => run_light s k k' hp
  obtain ⟨ha, aw⟩ := run_awake18 hp0
  rw [E4]
  by_cases hs : s.hs.length ≤ 40 ∧ s.fl.length ≤ 40
  · simp only [eq_true hs, decide_true] at li
    have okn := oks.none
    have l1 : s.none.hs.length ≤ 40 := by show ([] : List Int).length ≤ 40; simp
    have l2 : s.none.fl.length ≤ 40 := by show ([] : List (Int × Int)).length ≤ 40; simp
    obtain ⟨r, hr, e⟩ := run_sketch s.none 2 2 okn l1 l2 hp0
    have fx := sketchN_fine s.none okn l1 l2
    have hx := sketchN_h64 s.none okn
    have nl : (qS s.none).kind ≠ 4 → (putY (qS s.none)).length ≤ 80 := fun h => none_len s oks (by
      rw [sketchN_kind s.none okn] at h
      exact h)
    generalize qS s.none = x at hr fx hx nl
    obtain ⟨M, rfl, ml, mv, mc⟩ := hr.cl
    obtain ⟨h1, p1⟩ := run_put mc.sk fx hx hp0
    have w1 : IntKind.u32.wrap (n : Int) = (n : Int) := zi (by omega) (by omega)
    have g23 : ∀ (l : List AV), l.length = 23 → getN l 0 23 = some l := fun l hl => getN_full l 23 hl
    have lo := fun k b7 => small_loop fr n hfr hn (S k 1 (LI .u8 (putY x))) (.int .i64 0) b7 hp n 0 (by omega)
    have en := fun k b7 hb => small_end x (.agg M) fx hx b7 hb k fr n hfr hn nl hp
    have fin : ∀ k b7, qc b7 0 = some (.int .u8 x.kind) → B4_10 (.int .u32 (fr : Int)) (S k 1 (LI .u8 (putY x))) (.int .i64 0) (.int .u32 (n : Int)) (.int .u32 ((0 : Nat) : Int)) b7 (skL (rowS (nz (rowN (fr / 256 * 256) 0))) gz 2 2 2 2 2 2) hp = some (.sc (.bool true), hp) :=
      fun k b7 hb => (lo k b7).trans (en k b7 hb)
    have e0 : skL (rowS (nz (rowN (fr / 256 * 256) 0))) gz 2 2 2 2 2 2 = skZL := rfl
    rw [e0] at fin
    unfold skZL at fin
    have l1' := mc.len; have v1 := mc.vl; have r1 := mc.ro; have k0 := mc.k0
    have e' : run cxX 15 [.agg [.sc (.int .u8 s.kind), .sc (.int .u8 s.A), .sc (.int .u8 s.B), .sc (.int .u16 s.wide), .sc (.bool s.few), S 2 1 [], S 2 1 []]] hp0 = some (.agg M, hp0) := e
    clear e
    generalize putY x = P1 at *
    have p5 : ∀ (x0 x1 x2 x3 x4 x5 x6 z : AV), putN [x0, x1, x2, x3, x4, x5, x6] 5 [z] = some [x0, x1, x2, x3, x4, z, x6] := fun _ _ _ _ _ _ _ _ => rfl
    have p6 : ∀ (x0 x1 x2 x3 x4 x5 x6 z : AV), putN [x0, x1, x2, x3, x4, x5, x6] 6 [z] = some [x0, x1, x2, x3, x4, x5, z] := fun _ _ _ _ _ _ _ _ => rfl
    simp only [Int.natCast_zero, fl] at fin
    simp [-List.map_map, -List.all_map, -List.all_eq_true, li, aw, gS7s, p5, p6, putN_full, e', ml, mv, g23, l1', v1, r1, p1, cv_5_30, w1]
    exact fin 0 M ((getSc_map M 0).symm.trans mc.k0)
  · simp only [eq_false hs, decide_false] at li
    simp [li, aw, gS7s]
theorem law_PackSmall (a : Int) (wa : InK .u8 a) (b : Int) (wb : InK .u8 b) (c : Int) (wc : InK .u8 c) (d : Int) (wd : InK .u16 d) (f : Bool) (k : Nat) (l : List Int) (wl : ∀ n ∈ l, InK .u64 n) (k' : Nat) (m : List (Int × Int)) (wm : ∀ p ∈ m, InI p)
  (fr : Int) (wfr : InK .u32 fr) (n : Int) (wn : InK .u8 n) (hp : Hp) :
  ∃ hp', run cxX 4 [.agg [.sc (.int .u8 a), .sc (.int .u8 b), .sc (.int .u8 c), .sc (.int .u16 d), .sc (.bool f), S k 1 (LI .u64 l), S k' 2 (LP m)], .sc (.int .u32 fr), .sc (.int .u8 n)] hp = some (.sc (.bool true), hp') := by
 have h1 := wfr.u32
 have h2 := wn.u8
 obtain ⟨fr, rfl⟩ : ∃ q : Nat, fr = q := ⟨fr.toNat, by omega⟩
 obtain ⟨n, rfl⟩ : ∃ q : Nat, n = q := ⟨n.toNat, by omega⟩
 exact ⟨hp, run_packsmall ⟨a, b, c, d, f, l, m⟩ fr n (by omega) (by omega) k k' ⟨wa.u8, wb.u8, wc.u8, wd.u16, fun n hn => (wl n hn).u64, wm⟩ hp⟩
end Go.Proofs.YtchmioacjkbfcaaGreat.AI
