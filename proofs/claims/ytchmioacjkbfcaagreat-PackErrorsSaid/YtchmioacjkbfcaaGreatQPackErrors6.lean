/- Texts that the proof of PackErrors rests on, part 6. -/
import Derived.Test.YtchmioacjkbfcaaGreatQPackErrors5
import Derived.DataElems
namespace Go.Proofs.YtchmioacjkbfcaaGreat.AI
open Go
set_option linter.unusedVariables false
set_option linter.unusedSimpArgs false
set_option maxRecDepth 100000
set_option maxHeartbeats 0
structure GN where
 M:Int
 e0:Int
 e1:Int
 e2:Int
 e3:Int
 e4:Int
 e5:Int
 lo:Nat
 hi:Nat
 L:List Nat
deriving DecidableEq
def Gs.nf(g:Gs):GN:=⟨g.M,g.e0,g.e1,g.e2,g.e3,g.e4,g.e5,kw g.lo,kw g.hi,g.L.map kw⟩
structure Gs.W (g:Gs):Prop where
 M:qL g.M
 e0:qL g.e0
 e1:qL g.e1
 e2:qL g.e2
 e3:qL g.e3
 e4:qL g.e4
 e5:qL g.e5
 lo:g.lo<18446744073709551616
 hi:g.hi<18446744073709551616
 L:Ws g.L
 len:g.L.length<=100000
theorem gsame_nf(K K':Int)(g o:Gs):GSame K K' g o↔K=K'/\g.nf=o.nf:=by
 unfold GSame Gs.nf
 simp only[GN.mk.injEq]
 constructor
 ·rintro⟨h1,h2,⟨h3,h4,h5,h6,h7,h8⟩,h9,h10,h11⟩
  exact⟨h1,h2,h3,h4,h5,h6,h7,h8,h9,h10,h11⟩
 ·rintro⟨h1,h2,h3,h4,h5,h6,h7,h8,h9,h10,h11⟩
  exact⟨h1,h2,⟨h3,h4,h5,h6,h7,h8⟩,h9,h10,h11⟩
theorem run_gsameD(K K':Int)(g o:Gs)(k k':Nat)(hg:g.W)(ho:o.W)(hp:Hp):run cxX 121 [g.av K k,o.av K' k'] hp=some (.sc (.bool (decide (K=K'/\g.nf=o.nf))),hp):=by
 by_cases h:GSame K K' g o
 ·rw[run_gsame K K' g o k k' h ⟨hg.lo,ho.lo⟩ ⟨hg.hi,ho.hi⟩ ⟨hg.L,ho.L⟩ (by have:=hg.len;omega) hp,decide_eq_true ((gsame_nf K K' g o).mp h)]
 ·have hd:decide (K=K'/\g.nf=o.nf)=false:=decide_eq_false (fun h'=>h ((gsame_nf K K' g o).mpr h'))
  rw[hd,E121]
  have b2:B121_2 hp=some (.sc (.bool false),hp):=B121_2_eq hp
  have r1:=fun hp=>xn g.lo o.lo hg.lo ho.lo hp
  have r2:=fun hp=>xn g.hi o.hi hg.hi ho.hi hp
  have a:=fun x y=>neq44 x y g.e0 g.e1 g.e2 g.e3 g.e4 g.e5 o.e0 o.e1 o.e2 o.e3 o.e4 o.e5
  by_cases q1:K=K'
  ·by_cases q2:g.M=o.M
   ·by_cases q3:(g.e0=o.e0/\g.e1=o.e1/\g.e2=o.e2/\g.e3=o.e3/\g.e4=o.e4/\g.e5=o.e5)
    ·simp only[eq_true q3,decide_true,Bool.not_true]at a
     by_cases q4:kw g.lo=kw o.lo
     ·by_cases q5:kw g.hi=kw o.hi
      ·by_cases q6:g.L.length=o.L.length
       ·have l:=gsame_loop (.sc (.int .i64 K)) (.sc (.int .u32 g.M)) (.sc (.int .u32 g.e0)) (.sc (.int .u32 g.e1)) (.sc (.int .u32 g.e2)) (.sc (.int .u32 g.e3)) (.sc (.int .u32 g.e4)) (.sc (.int .u32 g.e5)) (fl g.lo) (fl g.hi)
         (.sc (.int .i64 K')) (.sc (.int .u32 o.M)) (.sc (.int .u32 o.e0)) (.sc (.int .u32 o.e1)) (.sc (.int .u32 o.e2)) (.sc (.int .u32 o.e3)) (.sc (.int .u32 o.e4)) (.sc (.int .u32 o.e5)) (fl o.lo) (fl o.hi) g.L o.L (rk k) (rk k') q6 (by have:=hg.len;omega) hg.L ho.L hp g.L o.L 0 rfl rfl
        have q7:¬(g.L.map kw=o.L.map kw):=fun e=>h ⟨q1,q2,q3,q4,q5,e⟩
        simp only[eq_false q7,decide_false]at l
        subst q1
        simp at l
        rw[q6,q2]at l
        simp[qe,getC,getN,js,xg,q2,a,r1,r2,q4,q5,q6,B121_3_eq]
        exact l
       ·have q6':¬((g.L.length:Int)=(o.L.length:Int)):=by omega
        simp[qe,getC,getN,js,xg,q1,q2,a,r1,r2,q4,q5,q6',b2]
      ·simp[qe,getC,getN,js,xg,q1,q2,a,r1,r2,q4,q5,b2]
     ·simp[qe,getC,getN,js,xg,q1,q2,a,r1,q4,b2]
    ·simp only[eq_false q3,decide_false,Bool.not_false]at a
     simp[qe,getC,getN,js,xg,q1,q2,a,b2]
   ·simp[qe,q1,q2,b2]
  ·simp[qe,q1,b2]
def ordG:List Nat->Int
 |[]=>0
 |[_]=>0
 |x::y::r=>if y<x then 8 else ordG (y::r)
def nanK:Nat:=18444492273895866369
def gchkE(g:GN):Int:=if g.lo=nanK\/g.hi=nanK then 4 else 0
def gchk(K:Int)(g:GN):Int:=if K<1\/16<K\/K<(g.L.length:Int)then 2 else if ordG g.L=0 then gchkE g else 8
theorem up_ordG:∀{l:List Nat},Up l->ordG l=0
 |[],_=>rfl
 |[_],_=>rfl
 |x::y::r,h=>by
  have h':=List.pairwise_cons.mp h
  have hxy:=h'.1 y (by simp)
  show(if y<x then(8:Int)else ordG (y::r))=0
  rw[if_neg (by omega)]
  exact up_ordG h'.2
theorem ordG_up:∀{l:List Nat},ordG l=0->Up l
 |[],_=>List.Pairwise.nil
 |[_],_=>by simp
 | x::y::r,h=>by
  have h:(if y<x then(8:Int)else ordG (y::r))=0:=h
  split at h
  ·cases h
  ·rename_i hxy
   have ih:=ordG_up h
   have ih':=List.pairwise_cons.mp ih
   refine List.pairwise_cons.mpr ⟨fun n hn=>?_,ih⟩
   rcases List.mem_cons.mp hn with rfl|hn
   ·omega
   ·have:=ih'.1 n hn;omega
theorem kw_isN{w:Nat}(h:w<18446744073709551616):isN w↔kw w=nanK:=by
 constructor
 ·intro hn;exact kw_nan hn
 ·intro he
  by_cases hn:isN w
  ·exact hn
  ·have:=kw_num_lt h hn
   rw[he]at this
   exact absurd this (by decide)
theorem gcheck_loop(K:Int)(g:Gs)(k:Nat)(hg:g.W)(hp:Hp):∀(r:List Nat) (p:Option Nat) (i:Nat),g.L.drop i=r->(p=none↔i=0)->(∀q,p=some q->g.L[i-1]?=some q)->
  B67_4 (S k 1 (LF g.L)) (.int .i64 g.L.length) (.int .i64 i) [.sc (.int .i64 K),.sc (.int .u32 g.M),.sc (.int .u32 g.e0),.sc (.int .u32 g.e1),.sc (.int .u32 g.e2),.sc (.int .u32 g.e3),.sc (.int .u32 g.e4),.sc (.int .u32 g.e5),fl g.lo,fl g.hi,S k 1 (LF g.L)] hp=
   some (.sc (.int .i64 (if ordG (p.toList.map kw++r.map kw)=0 then gchkE g.nf else 8)),hp):=by
 intro r
 induction r with
 | nil=>
  intro p i hr hp0 hps
  have:=qt hr
  have hlt:¬((i:Int)<(g.L.length:Int)):=by omega
  have ho:ordG (p.toList.map kw++([]:List Nat).map kw)=0:=by cases p<;>rfl
  have n1:=kw_isN hg.lo
  have n2:=kw_isN hg.hi
  rw[if_pos ho,B67_4_eq]
  unfold gchkE Gs.nf
  by_cases h1:isN g.lo
  ·have h1':=n1.mp h1
   simp[hlt,qe,zU,h1,h1',B67_10_eq]
  ·have h1':¬(kw g.lo=nanK):=fun e=>h1 (n1.mpr e)
   by_cases h2:isN g.hi
   ·have h2':=n2.mp h2
    simp[hlt,qe,zU,h1,h2,h2',B67_10_eq]
   ·have h2':¬(kw g.hi=nanK):=fun e=>h2 (n2.mpr e)
    simp[hlt,qe,zU,h1,h2,h1',h2',B67_11_eq]
 | cons x r ih=>
  intro p i hr hp0 hps
  obtain⟨e1,e2,hi,e3⟩:=ql hr
  have hx:=hg.L x (List.mem_of_getElem? e1)
  have hln:=hg.len
  have hw:IntKind.i64.wrap ((i:Int)+1)=((i+1:Nat):Int):=by rw[qf]<;>omega
  have h:=ih (some x) (i+1) e2 (by simp) (fun q hq=>by simp at hq;subst hq;simpa using e1)
  have g1:(LF g.L)[i]?=some (fl x):=by simp[LF,e1]
  rw[B67_4_eq]
  cases p with
  |none=>
   obtain rfl:i=0:=hp0.mp rfl
   simp at g1 h hw
   simp[hi,qe,g1,hw,h,B67_8_eq]
  |some q=>
   have hi0:i≠0:=fun e=>by have:=hp0.mpr e;cases this
   have hq:=hps q rfl
   have hq64:=hg.L q (List.mem_of_getElem? hq)
   have hpos:0<i:=by omega
   simp at h hw
   have w1:IntKind.i64.wrap ((i:Int)-1)=((i-1:Nat):Int):=by rw[qf]<;>omega
   have g2:(LF g.L)[i-1]?=some (fl q):=by simp[LF,hq]
   have ls:=fun hp=>run_less x q hx hq64 hp
   by_cases hl:kw x<kw q
   ·simp[hi,e3,qe,getC,g1,hpos,w1,g2,ls,hl,B67_7_eq,ordG]
   ·simp[hi,e3,qe,getC,g1,hpos,w1,g2,ls,hl,hw,h,B67_8_eq,ordG]
theorem run_gcheck(K:Int)(g:Gs)(k:Nat)(hg:g.W)(hp:Hp):run cxX 67 [g.av K k] hp=some (.sc (.int .i64 (gchk K g.nf)),hp):=by
 rw[E67]
 have b2:B67_2 hp=some (.sc (.int .i64 2),hp):=by rw[B67_2_eq];simp
 have hl:g.nf.L.length=g.L.length:=by simp[Gs.nf]
 unfold gchk
 rw[hl]
 by_cases h1:K<1
 ·simp[qe,h1,b2]
 ·by_cases h2:16<K
  ·simp[qe,h1,h2,b2]
  ·by_cases h3:K<(g.L.length:Int)
   ·simp[qe,getC,h1,h2,h3,b2]
   ·have l:=gcheck_loop K g (rk k) hg hp g.L none 0 rfl (by simp) (by simp)
    have e:g.nf.L=g.L.map kw:=rfl
    simp at l
    simp[qe,getC,h1,h2,h3,B67_3_eq,l,e]
def gmgN(K:Int)(g o:GN):GN:=⟨plus g.M o.M,plus g.e0 o.e0,plus g.e1 o.e1,plus g.e2 o.e2,plus g.e3 o.e3,plus g.e4 o.e4,plus g.e5 o.e5,min g.lo o.lo,max g.hi o.hi,(mk g.L o.L).take K.toNat⟩
theorem xL{a b:Int}(ha:qL a)(hb:qL b):qL (plus a b):=by
 unfold qL at *;unfold plus;split<;>omega
theorem gmg_nf(K:Int)(g o:Gs):(gmg K g o).nf=gmgN K g.nf o.nf:=by
 simp only[Gs.nf,gmg,gmgN,kw_fmin,kw_fmax,<-gm_keys _ _ _ rfl,List.map_take]
theorem gmg_W{K:Int}{g o:Gs}(hK:K<=100000)(hg:g.W)(ho:o.W):(gmg K g o).W where
 M:=xL hg.M ho.M
 e0:=xL hg.e0 ho.e0
 e1:=xL hg.e1 ho.e1
 e2:=xL hg.e2 ho.e2
 e3:=xL hg.e3 ho.e3
 e4:=xL hg.e4 ho.e4
 e5:=xL hg.e5 ho.e5
 lo:=fmin_lt hg.lo ho.lo
 hi:=fmax_lt hg.hi ho.hi
 L:=fun w hw=>by
  rcases mem_gm w _ _ _ rfl (List.mem_of_mem_take hw)with h|h
  ·exact hg.L w h
  ·exact ho.L w h
 len:=by
  show((gm g.L o.L).take K.toNat).length<=100000
  rw[List.length_take];omega
theorem gchk_ok{K:Int}{g:GN}:gchk K g=0↔(1<=K/\K<=16)/\(g.L.length:Int)<=K/\Up g.L/\g.lo≠nanK/\g.hi≠nanK:=by
 unfold gchk gchkE
 constructor
 ·intro h
  split at h
  ·cases h
  ·split at h
   ·split at h
    ·cases h
    ·rename_i h1 h2 h3
     exact⟨by omega,by omega,ordG_up h2,fun e=>h3 (.inl e),fun e=>h3 (.inr e)⟩
   ·cases h
 ·rintro⟨h1,h2,h3,h4,h5⟩
  rw[if_neg (by omega),if_pos (up_ordG h3),if_neg (fun e=>e.elim h4 h5)]
theorem gchk_merge{K:Int}{g o:GN}(hg:gchk K g=0)(ho:gchk K o=0):gchk K (gmgN K g o)=0:=by
 rw[gchk_ok]at*
 obtain⟨h1,h2,h3,h4,h5⟩:=hg
 obtain⟨f1,f2,f3,f4,f5⟩:=ho
 refine⟨h1,?_,?_,?_,?_⟩
 ·simp only[gmgN,List.length_take];omega
 ·exact List.Pairwise.sublist (List.take_sublist _ _) (mk_up _ _ h3 f3)
 ·show min g.lo o.lo≠nanK;omega
 ·show max g.hi o.hi≠nanK;omega
def GN.Pos(g:GN):Prop:=qL g.M/\qL g.e0/\qL g.e1/\qL g.e2/\qL g.e3/\qL g.e4/\qL g.e5
theorem Gs.W.pos{g:Gs}(h:g.W):g.nf.Pos:=⟨h.M,h.e0,h.e1,h.e2,h.e3,h.e4,h.e5⟩
theorem in0:qL 0:=⟨by decide,by decide⟩
theorem gnew_W:gnew.W:=⟨in0,in0,in0,in0,in0,in0,in0,by decide,by decide,by simp[gnew,Ws],by decide⟩
structure SkN where
 kind:Int
 set:List Int
 K:Int
 hs:List Int
 P:Int
 rg:List Int
 B:Int
 H:Int
 bs:List Int
 R:Int
 C:Int
 cs:List Int
 gK:Int
 g:GN
deriving DecidableEq
def gz:Gs:=⟨0,0,0,0,0,0,0,0,0,[]⟩
theorem gz_W:gz.W:=⟨in0,in0,in0,in0,in0,in0,in0,by decide,by decide,by simp[gz,Ws],by decide⟩
def skZ:SkN:=⟨0,[],0,[],0,[],0,0,[],0,0,[],0,gz.nf⟩
def skA(x:SkN)(g:Gs)(a b c d e f:Nat):AV:=.agg [.sc (.int .u8 x.kind),S a 1 (LI .u32 x.set),.sc (.int .i64 x.K),S b 1 (LI .u64 x.hs),.sc (.int .i64 x.P),S c 1 (LI .u8 x.rg),.sc (.int .i64 x.B),.sc (.int .i64 x.H),S d 1 (LI .u32 x.bs),.sc (.int .i64 x.R),.sc (.int .i64 x.C),S e 1 (LI .u32 x.cs),
 .sc (.int .i64 x.gK),.sc (.int .u32 g.M),.sc (.int .u32 g.e0),.sc (.int .u32 g.e1),.sc (.int .u32 g.e2),.sc (.int .u32 g.e3),.sc (.int .u32 g.e4),.sc (.int .u32 g.e5),fl g.lo,fl g.hi,S f 1 (LF g.L)]
def IsSk(x:SkN)(v:AV):Prop:=∃g a b c d e f,g.W/\g.nf=x.g/\v=skA x g a b c d e f
structure SkN.W (x:SkN):Prop where
 kind:0<=x.kind/\x.kind<256
 set:U32 x.set
 setL:x.set.length<=100000
 hsL:x.hs.length<=100000
 rg:∀n∈x.rg,0<=n/\n<256
 rgL:x.rg.length<=100000
 bs:U32 x.bs
 bsL:x.bs.length<=100000
 cs:U32 x.cs
 csL:x.cs.length<=100000
theorem skZ_W:skZ.W:=⟨by decide,by simp[skZ,U32],by decide,by decide,by simp[skZ],by decide,by simp[skZ,U32],by decide,by simp[skZ,U32],by decide⟩
def skEq(x y:SkN):Prop:=x.kind=y.kind/\x.set=y.set/\(x.K=y.K/\x.hs=y.hs)/\(x.P=y.P/\x.rg=y.rg)/\(x.B=y.B/\x.H=y.H/\x.bs=y.bs)/\(x.R=y.R/\x.C=y.C/\x.cs=y.cs)/\x.gK=y.gK/\x.g=y.g
instance (x y : SkN) : Decidable (skEq x y) := by unfold skEq; infer_instance
theorem skEq_iff(x y:SkN):skEq x y↔x=y:=by
 cases x;cases y
 simp only[skEq,SkN.mk.injEq]
 constructor
 ·rintro⟨h1,h2,⟨h3,h4⟩,⟨h5,h6⟩,⟨h7,h8,h9⟩,⟨h10,h11,h12⟩,h13,h14⟩
  exact⟨h1,h2,h3,h4,h5,h6,h7,h8,h9,h10,h11,h12,h13,h14⟩
 ·rintro⟨h1,h2,h3,h4,h5,h6,h7,h8,h9,h10,h11,h12,h13,h14⟩
  exact⟨h1,h2,⟨h3,h4⟩,⟨h5,h6⟩,⟨h7,h8,h9⟩,⟨h10,h11,h12⟩,h13,h14⟩
theorem run_sksame{x y:SkN}{v u:AV}(hv:IsSk x v)(hu:IsSk y u)(wx:x.W)(wy:y.W)(hp:Hp):run cxX 60 [v,u] hp=some (.sc (.bool (decide (x=y))),hp):=by
 obtain⟨g,a,b,c,d,e,f,gw,gn,rfl⟩:=hv
 obtain⟨g',a',b',c',d',e',f',gw',gn',rfl⟩:=hu
 have hd:decide (x=y)=decide (skEq x y):=decide_eq_decide.mpr (skEq_iff x y).symm
 have r1:=fun k k' hp=>run_ssame x.set y.set k k' hp (by have:=wx.setL;omega)
 have r2:=fun k k' hp=>run_ksame x.K y.K x.hs y.hs k k' hp (by have:=wx.hsL;omega) (by have:=wy.hsL;omega)
 have r3:=fun k k' hp=>run_hsame x.P y.P x.rg y.rg k k' wx.rg wy.rg hp
 have r4:=fun k k' hp=>run_same x.B x.H y.B y.H x.bs y.bs k k' hp (by have:=wx.bsL;omega) (by have:=wy.bsL;omega)
 have r5:=fun k k' hp=>run_csame x.R x.C y.R y.C x.cs y.cs k k' hp (by have:=wx.csL;omega)
 have r6:=fun k k' hp=>run_gsameD x.gK y.gK g g' k k' gw gw' hp
 rw[hd,E60]
 unfold skA
 by_cases h1:x.kind=y.kind
 ·by_cases h2:x.set=y.set
  ·simp only[eq_true h2,decide_true]at r1
   by_cases h3:x.K=y.K/\x.hs=y.hs
   ·simp only[eq_true h3,decide_true]at r2
    by_cases h4:x.P=y.P/\x.rg=y.rg
    ·simp only[eq_true h4,decide_true]at r3
     by_cases h5:x.B=y.B/\x.H=y.H/\x.bs=y.bs
     ·simp only[eq_true h5,decide_true]at r4
      by_cases h6:x.R=y.R/\x.C=y.C/\x.cs=y.cs
      ·simp only[eq_true h6,decide_true]at r5
       have e:decide (skEq x y)=decide (x.gK=y.gK/\x.g=y.g):=decide_eq_decide.mpr ⟨fun h=>h.2.2.2.2.2.2,fun h=>⟨h1,h2,h3,h4,h5,h6,h⟩⟩
       rw[gn,gn']at r6
       rw[e]
       simp[qe,getC,getN,eq_true h1,r1,r2,r3,r4,r5,r6]
      ·simp only[eq_false h6,decide_false]at r5
       rw[decide_eq_false (fun h:skEq x y=>h6 h.2.2.2.2.2.1)]
       simp[qe,getC,getN,eq_true h1,r1,r2,r3,r4,r5]
     ·simp only[eq_false h5,decide_false]at r4
      rw[decide_eq_false (fun h:skEq x y=>h5 h.2.2.2.2.1)]
      simp[qe,getC,getN,eq_true h1,r1,r2,r3,r4]
    ·simp only[eq_false h4,decide_false]at r3
     rw[decide_eq_false (fun h:skEq x y=>h4 h.2.2.2.1)]
     simp[qe,getC,getN,eq_true h1,r1,r2,r3]
   ·simp only[eq_false h3,decide_false]at r2
    rw[decide_eq_false (fun h:skEq x y=>h3 h.2.2.1)]
    simp[qe,getC,getN,eq_true h1,r1,r2]
  ·simp only[eq_false h2,decide_false]at r1
   rw[decide_eq_false (fun h:skEq x y=>h2 h.2.1)]
   simp[qe,getC,eq_true h1,r1]
 ·rw[decide_eq_false (fun h:skEq x y=>h1 h.1)]
  simp[qe,h1]
def jS(x:SkN):SkN:=
 if x.kind=0 then{skZ with kind:=x.kind,set:=x.set}
 else if x.kind=1 then{skZ with kind:=x.kind,K:=x.K,hs:=x.hs}
 else if x.kind=2 then{skZ with kind:=x.kind,P:=x.P,rg:=x.rg}
 else if x.kind=3 then{skZ with kind:=x.kind,B:=x.B,H:=x.H,bs:=x.bs}
 else if x.kind=4 then{skZ with kind:=x.kind,R:=x.R,C:=x.C,cs:=x.cs}
 else if x.kind=5 then{skZ with kind:=x.kind,gK:=x.gK,g:=x.g}
 else{skZ with kind:=x.kind}
theorem onlyN_W{x:SkN}(h:x.W):(jS x).W:=by
 have z:=skZ_W
 unfold jS
 repeat' split
 ·exact⟨h.kind,h.set,h.setL,z.hsL,z.rg,z.rgL,z.bs,z.bsL,z.cs,z.csL⟩
 ·exact⟨h.kind,z.set,z.setL,h.hsL,z.rg,z.rgL,z.bs,z.bsL,z.cs,z.csL⟩
 ·exact⟨h.kind,z.set,z.setL,z.hsL,h.rg,h.rgL,z.bs,z.bsL,z.cs,z.csL⟩
 ·exact⟨h.kind,z.set,z.setL,z.hsL,z.rg,z.rgL,h.bs,h.bsL,z.cs,z.csL⟩
 ·exact⟨h.kind,z.set,z.setL,z.hsL,z.rg,z.rgL,z.bs,z.bsL,h.cs,h.csL⟩
 ·exact⟨h.kind,z.set,z.setL,z.hsL,z.rg,z.rgL,z.bs,z.bsL,z.cs,z.csL⟩
 ·exact⟨h.kind,z.set,z.setL,z.hsL,z.rg,z.rgL,z.bs,z.bsL,z.cs,z.csL⟩
theorem run_skonly{x:SkN}{v:AV}(hv:IsSk x v)(hp:Hp):∃r,IsSk (jS x) r/\run cxX 61 [v] hp=some (r,hp):=by
 obtain⟨g,a,b,c,d,e,f,gw,gn,rfl⟩:=hv
 rw[E61]
 unfold jS
 by_cases h0:x.kind=0
 ·rw[if_pos h0]
  refine⟨skA {skZ with kind:=x.kind,set:=x.set} gz (rk a) 2 2 2 2 2,⟨gz,_,_,_,_,_,_,gz_W,rfl,rfl⟩,?_⟩
  simp[skA,skZ,gz,LF,qe,getC,getN,putN,h0,jI]
 ·rw [if_neg h0]
  by_cases h1:x.kind=1
  ·rw[if_pos h1]
   refine⟨skA {skZ with kind:=x.kind,K:=x.K,hs:=x.hs} gz 2 (rk b) 2 2 2 2,⟨gz,_,_,_,_,_,_,gz_W,rfl,rfl⟩,?_⟩
   simp[skA,skZ,gz,LF,qe,getC,getN,putN,h1,jI]
  ·rw [if_neg h1]
   by_cases h2:x.kind=2
   ·rw[if_pos h2]
    refine⟨skA {skZ with kind:=x.kind,P:=x.P,rg:=x.rg} gz 2 2 (rk c) 2 2 2,⟨gz,_,_,_,_,_,_,gz_W,rfl,rfl⟩,?_⟩
    simp[skA,skZ,gz,LF,qe,getC,getN,putN,h2,jI]
   ·rw [if_neg h2]
    by_cases h3:x.kind=3
    ·rw[if_pos h3]
     refine⟨skA {skZ with kind:=x.kind,B:=x.B,H:=x.H,bs:=x.bs} gz 2 2 2 (rk d) 2 2,⟨gz,_,_,_,_,_,_,gz_W,rfl,rfl⟩,?_⟩
     simp[skA,skZ,gz,LF,qe,getC,getN,putN,h3,jI]
    ·rw[if_neg h3]
     by_cases h4:x.kind=4
     ·rw[if_pos h4]
      refine⟨skA {skZ with kind:=x.kind,R:=x.R,C:=x.C,cs:=x.cs} gz 2 2 2 2 (rk e) 2,⟨gz,_,_,_,_,_,_,gz_W,rfl,rfl⟩,?_⟩
      simp[skA,skZ,gz,LF,qe,getC,getN,putN,h4,jI]
     ·rw[if_neg h4]
      by_cases h5:x.kind=5
      ·rw[if_pos h5]
       refine⟨skA {skZ with kind:=x.kind,gK:=x.gK,g:=x.g} g 2 2 2 2 2 (rk f),⟨g,_,_,_,_,_,_,gw,gn,rfl⟩,?_⟩
       simp[skA,skZ,gz,LF,qe,getC,getN,putN,h5,jI]
      ·rw[if_neg h5]
       refine⟨skA {skZ with kind:=x.kind} gz 2 2 2 2 2 2,⟨gz,_,_,_,_,_,_,gz_W,rfl,rfl⟩,?_⟩
       simp[skA,skZ,gz,LF,qe,getC,getN,putN,h0,h1,h2,h3,h4,h5,jI]
def checkN(x:SkN):Int:=
 if 6<=x.kind then 5 else if x≠jS x then 4
 else if x.kind=0 then schk x.set else if x.kind=1 then kchk x.K x.hs else if x.kind=2 then hchk x.P x.rg else if x.kind=3 then bchk x.B x.H x.bs else if x.kind=4 then cchk x.R x.C x.cs else gchk x.gK x.g
theorem qV{x:SkN}{g:Gs}(gw:g.W)(gn:g.nf=x.g)(a b c d e f:Nat):IsSk x (skA x g a b c d e f):=⟨g,a,b,c,d,e,f,gw,gn,rfl⟩
theorem IsSk.vl{x:SkN}{v:AV}(h:IsSk x v):vlF v=true/\vlV v=true:=by
 obtain⟨g,a,b,c,d,e,f,gw,gn,rfl⟩:=h
 unfold skA
 constructor<;>simp
theorem IsSk.ro{x:SkN}{v:AV}(h:IsSk x v):IsSk x (ro v):=by
 obtain⟨g,a,b,c,d,e,f,gw,gn,rfl⟩:=h
 refine⟨g,rk a,rk b,rk c,rk d,rk e,rk f,gw,gn,?_⟩
 simp[skA]
theorem jo{x:SkN}{v:AV}(hv:IsSk x v)(w:x.W)(hp:Hp):run cxX 23 [v] hp=some (.sc (.int .i64 (checkN x)),hp):=by
 obtain⟨g,a,b,c,d,e,f,gw,gn,rfl⟩:=hv
 obtain⟨o,ho,hr⟩:=run_skonly (qV gw gn (rk a) (rk b) (rk c) (rk d) (rk e) (rk f)) hp0
 have sm:=run_sksame (qV gw gn (rk a) (rk b) (rk c) (rk d) (rk e) (rk f)) ho.ro w (onlyN_W w) hp0
 have vo:=ho.vl
 have vo':=ho.ro.vl
 have hnt:noTup o=some ():=by
  obtain⟨g,a,b,c,d,e,f,gw,gn,rfl⟩:=ho
  rfl
 have hrr:AI.ro (AI.ro o)=AI.ro o:=by
  obtain⟨g,a,b,c,d,e,f,gw,gn,rfl⟩:=ho
  simp[skA]
 have r1:=fun k hp=>run_scheck x.set k hp
 have r2:=fun k hp=>run_kcheck x.K x.hs k (by have:=w.hsL;omega) hp
 have r3:=fun k hp=>run_hcheck x.P x.rg k (by have:=w.rgL;omega) w.rg hp
 have r4:=fun k hp=>run_check x.B x.H x.bs k (by have:=w.bsL;omega) w.bs hp
 have r5:=fun k hp=>run_ccheck x.R x.C x.cs k (by have:=w.csL;omega) hp
 have r6:=fun k hp=>run_gcheck x.gK g k gw hp
 rw[gn]at r6
 rw[E23]
 unfold checkN
 unfold skA at hr sm⊢
 by_cases h6:6<=x.kind
 ·simp[qe,h6]
 ·rw [if_neg h6]
  by_cases ho':x=jS x
  ·rw [if_neg (fun h=>h ho')]
   simp only[eq_true ho',decide_true]at sm
   by_cases h0:x.kind=0
   ·simp only[h0]at hr sm
    simp[qe,getC,getN,h6,hr,vo,vo',hnt,sm,h0,r1]
   ·by_cases h1:x.kind=1
    ·simp only[h1]at hr sm
     simp[qe,getC,getN,h6,hr,vo,vo',hnt,sm,h1,r2]
    ·by_cases h2:x.kind=2
     ·simp only[h2]at hr sm
      simp[qe,getC,getN,h6,hr,vo,vo',hnt,sm,h2,r3]
     ·by_cases h3:x.kind=3
      ·simp only[h3]at hr sm
       simp[qe,getC,getN,h6,hr,vo,vo',hnt,sm,h3,r4]
      ·by_cases h4:x.kind=4
       ·simp only[h4]at hr sm
        simp[qe,getC,getN,h6,hr,vo,vo',hnt,sm,h4,r5]
       ·simp[qe,getC,getN,h6,hr,vo,vo',hnt,sm,h0,h1,h2,h3,h4,r6]
  ·rw[if_pos ho']
   simp only[eq_false ho',decide_false]at sm
   simp[qe,getC,getN,h6,hr,vo,vo',hnt,sm]
theorem chkL_rise{B:Int}:∀(l:List Int) (p:Option Int),chkL B p l=0->(match p with|none=>Rise l|some q=>Rise (q::l))/\∀n∈l,n<B
 |[],none,_=>⟨List.Pairwise.nil,by simp⟩
 |[],some q,_=>⟨by simp,by simp⟩
 | x ::l,p,h=>by
  unfold chkL at h
  split at h
  ·cases h
  ·rename_i h1
   split at h
   ·have ih:=chkL_rise l (some x) h
    refine⟨ih.1,fun n hn=>?_⟩
    rcases List.mem_cons.mp hn with rfl|hn
    ·omega
    ·exact ih.2 n hn
   ·split at h
    ·cases h
    ·rename_i q h2
     have ih:=chkL_rise l (some x) h
     refine⟨?_,fun n hn=>?_⟩
     ·have hr:Rise (x::l):=ih.1
      refine List.pairwise_cons.mpr ⟨fun n hn=>?_,hr⟩
      rcases List.mem_cons.mp hn with rfl|hn
      ·omega
      ·have:=(List.pairwise_cons.mp hr).1 n hn;omega
     ·rcases List.mem_cons.mp hn with rfl|hn
      ·omega
      ·exact ih.2 n hn
theorem good_chk{B H:Int}{l:List Int}(h:bchk B H l=0)(hl:U32 l):(1<=B/\B<=4096)/\(1<=H/\H<=8)/\Good B l:=by
 unfold bchk at h
 split at h
 ·cases h
 ·have c:=chkL_rise l none h
  exact⟨by omega,by omega,c.1,fun n hn=>⟨(hl n hn).1,c.2 n hn⟩⟩
theorem schk_ok{l:List Int}:schk l=0↔l.length<=4096/\Rise l:=by
 unfold schk
 constructor
 ·intro h
  split at h
  ·cases h
  ·exact⟨by omega,rise_ordS h⟩
 ·rintro⟨h1,h2⟩
  rw[if_neg (by omega)];exact ordS_rise h2
theorem ordL_rise:∀{l:List Int},Rise l->ordL l=0
 |[],_=>rfl
 |[_],_=>rfl
 |x::y::r,h=>by
  have h':=List.pairwise_cons.mp h
  have hxy:=h'.1 y (by simp)
  show(if y<=x then 8 else ordL (y::r))=0
  rw[if_neg (by omega)]
  exact ordL_rise h'.2
theorem rise_ordL:∀{l:List Int},ordL l=0->Rise l
 |[],_=>List.Pairwise.nil
 |[_],_=>by simp
 | x::y::r,h=>by
  have h:(if y<=x then 8 else ordL (y::r))=0:=h
  split at h
  ·cases h
  ·rename_i hxy
   have ih:=rise_ordL h
   have ih':=List.pairwise_cons.mp ih
   refine List.pairwise_cons.mpr ⟨fun n hn=>?_,ih⟩
   rcases List.mem_cons.mp hn with rfl|hn
   ·omega
   ·have:=ih'.1 n hn;omega
theorem kchk_ok{K:Int}{l:List Int}:kchk K l=0↔(1<=K/\K<=1024)/\(l.length:Int)<=K/\Rise l:=by
 unfold kchk
 constructor
 ·intro h
  split at h
  ·cases h
  ·split at h
   ·cases h
   ·exact⟨by omega,by omega,rise_ordL h⟩
 ·rintro⟨h1,h2,h3⟩
  rw[if_neg (by omega),if_neg (by omega)];exact ordL_rise h3
theorem hchk_ok{P:Int}{l:List Int}:hchk P l=0↔(4<=P/\P<=8)/\l.length=hpow P/\∀n∈l,n<=65-P:=by
  unfold hchk hchkR
  constructor
  · intro h
    split at h
    ·cases h
    · split at h
      ·cases h
      · split at h
        ·cases h
        · rename_i h1 h2 h3
          exact⟨by omega,by simpa using h2,fun n hn=>by
            by_cases hlt:65-P<n
            ·exact absurd ⟨n,hn,hlt⟩ h3
            ·omega⟩
  · rintro⟨h1,h2,h3⟩
    rw[if_neg (by omega),if_neg (by simpa using h2),if_neg]
    rintro⟨n,hn,hlt⟩
    have:=h3 n hn
    omega
theorem cchk_ok{R C:Int}{l:List Int}:cchk R C l=0↔(1<=R/\R<=8)/\(1<=C/\C<=256)/\(l.length:Int)=R*C:=by
 unfold cchk
 constructor
 ·intro h
  split at h
  ·cases h
  ·split at h
   ·cases h
   ·rename_i h1 h2
    exact⟨by omega,by omega,by simpa using h2⟩
 ·rintro⟨h1,h2,h3⟩
  rw[if_neg (by omega),if_neg (by simpa using h3)]
theorem qM{x:SkN}:checkN x=0↔x.kind<6/\x=jS x/\(if x.kind=0 then schk x.set else if x.kind=1 then kchk x.K x.hs else if x.kind=2 then hchk x.P x.rg else if x.kind=3 then bchk x.B x.H x.bs else if x.kind=4 then cchk x.R x.C x.cs else gchk x.gK x.g)=0:=by
 unfold checkN
 constructor
 ·intro h
  split at h
  ·cases h
  ·split at h
   ·cases h
   ·rename_i h1 h2
    exact⟨by omega,by simpa using h2,h⟩
 ·rintro⟨h1,h2,h3⟩
  rw[if_neg (by omega),if_neg (by simpa using h2)];exact h3
structure SkN.W2 (x:SkN):Prop extends x.W where
 set2:x.set.length<=50000
 hs2:x.hs.length<=50000
 bs2:x.bs.length<=50000
 gK2:x.kind=5->x.gK<=100000
def skL(x:SkN)(g:Gs)(a b c d e f:Nat):List AV:=[.sc (.int .u8 x.kind),S a 1 (LI .u32 x.set),.sc (.int .i64 x.K),S b 1 (LI .u64 x.hs),.sc (.int .i64 x.P),S c 1 (LI .u8 x.rg),.sc (.int .i64 x.B),.sc (.int .i64 x.H),S d 1 (LI .u32 x.bs),.sc (.int .i64 x.R),.sc (.int .i64 x.C),S e 1 (LI .u32 x.cs),
 .sc (.int .i64 x.gK),.sc (.int .u32 g.M),.sc (.int .u32 g.e0),.sc (.int .u32 g.e1),.sc (.int .u32 g.e2),.sc (.int .u32 g.e3),.sc (.int .u32 g.e4),.sc (.int .u32 g.e5),fl g.lo,fl g.hi,S f 1 (LF g.L)]
def skZL:List AV:=[.sc (.int .u8 0),.sc (.slice none 0 0),.sc (.int .i64 0),.sc (.slice none 0 0),.sc (.int .i64 0),.sc (.slice none 0 0),.sc (.int .i64 0),.sc (.int .i64 0),.sc (.slice none 0 0),.sc (.int .i64 0),.sc (.int .i64 0),.sc (.slice none 0 0),.sc (.int .i64 0),.sc (.int .u32 0),.sc (.int .u32 0),.sc (.int .u32 0),.sc (.int .u32 0),.sc (.int .u32 0),.sc (.int .u32 0),.sc (.int .u32 0),fl 0,fl 0,.sc (.slice none 0 0)]
theorem hadd_u8{P:Int}{l:List Int}{h:Int}(hP:4<=P/\P<=8)(hl:∀n∈l,0<=n/\n<256):∀n∈hadd P l h,0<=n/\n<256:=by
 unfold hadd
 split
 ·rename_i hi
  intro n hn
  rcases List.mem_or_eq_of_mem_set hn with hn|rfl
  ·exact hl n hn
  ·have h1:=hrow_in (h:=h) hP
   have h2:=hl l[hplc P h] (List.getElem_mem hi)
   have e:l.getD (hplc P h) 0=l[hplc P h]:=by simp[hi]
   rw[e];omega
 ·exact hl
structure Fine (x:SkN):Prop where
 w:x.W
 c:checkN x=0
 pos:x.g.Pos
theorem gz_pos:gz.nf.Pos:=gz_W.pos
theorem Fine.W2{x:SkN}(h:Fine x):x.W2:=by
 obtain⟨kd,on,sp⟩:=qM.mp h.c
 have w:=h.w
 refine⟨w,?_,?_,?_,?_⟩
 ·rw[on];unfold jS
  by_cases k0:x.kind=0
  ·rw[if_pos k0]at sp⊢
   have:=(schk_ok.mp sp).1
   show x.set.length<=_;omega
  ·rw[if_neg k0]
   repeat' split
   all_goals exact Nat.zero_le _
 ·rw[on];unfold jS
  by_cases k0:x.kind=0
  ·rw[if_pos k0];exact Nat.zero_le _
  ·rw[if_neg k0]at sp⊢
   by_cases k1:x.kind=1
   ·rw[if_pos k1]at sp⊢
    have:=kchk_ok.mp sp
    show x.hs.length<=_;omega
   ·rw[if_neg k1]
    repeat' split
    all_goals exact Nat.zero_le _
 ·rw[on];unfold jS
  by_cases k3:x.kind=3
  ·have n0:¬(x.kind=0):=by omega
   have n1:¬(x.kind=1):=by omega
   have n2:¬(x.kind=2):=by omega
   rw[if_neg n0,if_neg n1,if_neg n2,if_pos k3]at sp⊢
   obtain⟨hB,hH,hg⟩:=good_chk sp w.bs
   have:=hg.len hB.2
   show x.bs.length<=_;omega
  ·repeat' split
   all_goals first|exact Nat.zero_le _|(exfalso;omega)
 ·intro k5
  have n0:¬(x.kind=0):=by omega
  have n1:¬(x.kind=1):=by omega
  have n2:¬(x.kind=2):=by omega
  have n3:¬(x.kind=3):=by omega
  have n4:¬(x.kind=4):=by omega
  rw[if_neg n0,if_neg n1,if_neg n2,if_neg n3,if_neg n4]at sp
  have:=gchk_ok.mp sp
  omega
theorem six{x:SkN}(h:x.W)(hk:x.kind<6):x.kind=0\/x.kind=1\/x.kind=2\/x.kind=3\/x.kind=4\/x.kind=5:=by
 have:=h.kind;omega
def tn(l:List Int):List Nat:=l.map Int.toNat
@[simp] theorem tn_len (l : List Int) : (tn l).length = l.length := by simp [tn]
theorem nz_tn:∀{l:List Int},(∀n∈l,0<=n)->nz (tn l)=l:=by
 intro l
 induction l with
 |nil=>intro _;rfl
 |cons x r ih=>
  intro h
  have hx:=h x (by simp)
  have e:nz (tn (x::r))=(x.toNat:Int)::nz (tn r):=rfl
  rw[e,ih (fun n hn=>h n (by simp[hn])),Int.toNat_of_nonneg hx]
theorem tn_mem{l:List Int}{B:Nat}(h:∀n∈l,0<=n/\n<(B:Int)):∀x∈tn l,x<B:=by
 intro x hx
 obtain⟨n,hn,rfl⟩:=List.mem_map.mp hx
 have:=h n hn
 omega
theorem rise_tn:∀{l:List Int},(∀n∈l,0<=n)->Rise l->zb (tn l):=by
 intro l
 induction l with
 |nil=>intro _ _;trivial
 | cons x r ih=>
  intro h hr
  cases r with
  |nil=>trivial
  |cons y s=>
   have hx:=h x (by simp)
   have hy:=h y (by simp)
   have h1:=(List.pairwise_cons.mp hr).1 y (by simp)
   exact⟨by omega,ih (fun n hn=>h n (by simp[hn])) (List.pairwise_cons.mp hr).2⟩
theorem rising_nofall:∀{l:List Nat},zb l->zQ l:=by
 intro l
 induction l with
 |nil=>intro _;trivial
 |cons x r ih=>
  intro h
  cases r with
  |nil=>trivial
  |cons y s=>exact⟨Nat.le_of_lt h.1,ih h.2⟩
def pcnt(c:Int):List Int->Nat->Int->List Int
 |[],_,_=>[]
 |n::r,i,last=>uv (zz (n-if(i:Int)%max c 1=0 then 0 else last))++pcnt c r (i+1) n
theorem rem_max(c:Int)(i:Nat)(t:TypeId)(x y:Operand):binV Tryz.prog .rem t x y (.int .i64 (i:Int)) (.int .i64 (max c 1))=some (.int .i64 ((i:Int)%max c 1)):=by
 rw[qO _ _ _ _ _ _ _ (by omega),qN (by omega)]
theorem wint_le{n m:Int}(hn:0<=n/\n<4294967296)(hm:0<=m/\m<4294967296):(uv (zz (n-m))).length<=10:=qx (zz_lt (by omega) (by omega))
section
variable (c : Int) (l : List Int) (hl : l.length ≤ 4096) (h32 : U32 l)
include hl h32 in
theorem counts_loop(b k:Nat):∀(r:List Int) (i:Nat) (last:Int) (acc:List Int) (hp:Hp),l.drop i=r->hp.rd b 0=some (Wc acc)->acc.length<=10*i+20->i<=l.length->(0<=last/\last<4294967296)->
  B11_2 (.ptr b 0 0) (.int .i64 c) (.int .i64 last) (S k 1 (LI .u32 l)) (.int .i64 l.length) (.int .i64 i) hp=some (.tup [],hp.put b 0 (Wc (acc++pcnt c r i last))):=by
 intro r
 induction r with
 |nil=>
  intro i last acc hp hr h ha hil hla
  have:=qt hr
  have hlt:¬((i:Int)<(l.length:Int)):=by omega
  rw[B11_2_eq]
  simp only[pcnt,List.append_nil,zd h]
  simp[hlt]
 | cons x r ih=>
  intro i last acc hp hr h ha hil hla
  obtain⟨e1,e2,hi,e3⟩:=ql hr
  have hx:=h32 x (List.mem_of_getElem? e1)
  have rm:=rem_max c i
  obtain⟨lst,hlst⟩:∃lst:Int,lst=if(i:Int)%max c 1=0 then 0 else last:=⟨_,rfl⟩
  have hb:0<=lst/\lst<4294967296:=by rw[hlst];split<;>omega
  have le:=wint_le hx hb
  have wi:=run_wint b (x-lst) acc (by omega) (by omega) hp h
  have ws:IntKind.i64.wrap x=x:=qf (by omega) (by omega)
  have wd:IntKind.i64.wrap (x-lst)=x-lst:=qf (by omega) (by omega)
  have hw:IntKind.i64.wrap ((i:Int)+1)=((i+1:Nat):Int):=by rw[qf]<;>omega
  have hh:=ih (i+1) x (acc++uv (zz (x-lst))) (hp.put b 0 (Wc (acc++uv (zz (x-lst))))) e2 (qh _ _ _) (by simp;omega) (by omega) hx
  rw[qj]at hh
  have ec:acc++pcnt c (x::r) i last=acc++uv (zz (x-lst))++pcnt c r (i+1) x:=by
   rw[hlst,List.append_assoc];rfl
  rw[ec]
  have b6:B11_6 (.ptr b 0 0) (.int .i64 c) (.int .i64 lst) (.int .u32 x) (S k 1 (LI .u32 l)) (.int .i64 l.length) (.int .i64 i) hp=some (.tup [],hp.put b 0 (Wc (acc++uv (zz (x-lst))++pcnt c r (i+1) x))):=by
   rw[B11_6_eq]
   simp only[Int.natCast_add,Int.natCast_one]at hw hh
   generalize uv (zz (x-lst))=u at*
   simp[ws,wd,wi,hw]
   simpa using hh
  rw[B11_2_eq]
  by_cases h0:(i:Int)%max c 1=0
  ·have el:lst=0:=by rw[hlst,if_pos h0]
   rw[el]at b6
   simp[hi,e3,qe,rm,h0]
   rw[List.append_assoc]at b6
   rw[el]
   exact b6
  ·have el:lst=last:=by rw[hlst,if_neg h0]
   rw[el]at b6
   simp[hi,e3,qe,rm,h0]
   rw[List.append_assoc]at b6
   rw[el]
   exact b6
theorem pcnt_len(h32:U32 l):∀(r:List Int) (i:Nat) (last:Int),(∀n∈r,0<=n/\n<4294967296)->(0<=last/\last<4294967296)->(pcnt c r i last).length<=10*r.length
 |[],_,_,_,_=>by simp[pcnt]
 |x::r,i,last,h,hla=>by
  have ih:=pcnt_len h32 r (i+1) x (fun n hn=>h n (by simp[hn])) (h x (by simp))
  have le:(uv (zz (x-if(i:Int)%max c 1=0 then 0 else last))).length<=10:=wint_le (h x (by simp)) (by split<;>omega)
  simp only[pcnt,List.length_append,List.length_cons]
  omega
include hl h32 in
theorem run_counts(b k:Nat)(acc:List Int)(ha:acc.length<=20)(hp:Hp)(h:hp.rd b 0=some (Wc acc)):
  run cxX 11 [.ptr b 0 0,.sc (.int .i64 c),S k 1 (LI .u32 l)] hp=some (.tup [],hp.put b 0 (Wc (acc++pcnt c l 0 0))):=by
 have hh:=counts_loop c l hl h32 b (rk k) l 0 0 acc hp rfl h (by omega) (by omega) (by omega)
 rw[E11]
 simp at hh
 simpa using hh
end
def gdif(p:Nat):List Nat->List Int
 |[]=>[]
 |k::r=>uv (k-p)++gdif k r
def gauY(K:Int)(g:GN):List Int:=
 [K]++uv g.M.toNat++uv g.e0.toNat++uv g.e1.toNat++uv g.e2.toNat++uv g.e3.toNat++uv g.e4.toNat++uv g.e5.toNat++uv g.lo++uv g.hi++[(g.L.length:Int)]++gdif 0 g.L
theorem ordG_nofall:∀{l:List Nat},ordG l=0->zQ l:=by
 intro l
 induction l with
 |nil=>intro _;trivial
 | cons x r ih=>
  intro h
  cases r with
  |nil=>trivial
  | cons y s=>
   have h':(if y<x then 8 else ordG (y::s))=0:=h
   by_cases c:y<x
   ·rw[if_pos c]at h';cases h'
   ·rw[if_neg c]at h'
    exact⟨by omega,ih h'⟩
theorem putg_loop(w k:Nat)(L:List Nat)(hL:Ws L)(hlen:L.length<=1000):∀(r:List Nat) (i p:Nat) (Z:List Int) (hp:Hp),L.drop i=r->zQ (p::r.map kw)->p<18446744073709551616->Z.length<=1000+10*i->hp.rd w 0=some (Wc Z)->
  B40_14 (.ptr w 0 0) (.int .u64 (p:Int)) (S k 1 (LF L)) (.int .i64 (L.length:Int)) (.int .i64 (i:Int)) hp=some (.tup [],hp.put w 0 (Wc (Z++gdif p (r.map kw)))):=by
 intro r
 induction r with
 |nil=>
  intro i p Z hp h hn hp' hZ hw
  have h1:=qt h
  have hlt:¬((i:Int)<(L.length:Int)):=by omega
  rw[B40_14_eq]
  simp[hlt,gdif,zd hw]
 | cons x r ih=>
  intro i p Z hp h hn hp' hZ hw
  obtain⟨e1,e2,hi,e3⟩:=ql h
  have hx:x<18446744073709551616:=hL x (by rw[<-e3];exact List.getElem_mem _)
  have ky:=yc x hx hp0
  have kl:=kw_lt x hx
  have hpk:p<=kw x:=hn.1
  have hlt:(i:Int)<(L.length:Int):=by omega
  have hu:=qx (n:=kw x-p) (by omega)
  have wu:=qZ w (kw x-p) Z (by omega) (by omega) hp hw
  have hi2:=ih (i+1) (kw x) (Z++uv (kw x-p)) (hp.put w 0 (Wc (Z++uv (kw x-p)))) e2 hn.2 kl (by simp;omega) (qh _ _ _)
  rw[qj,List.append_assoc]at hi2
  have w1:IntKind.u64.wrap ((kw x:Int)-(p:Int))=((kw x-p:Nat):Int):=by rw[qr]<;>omega
  have w2:IntKind.i64.wrap ((i:Int)+1)=((i+1:Nat):Int):=by rw[qf]<;>omega
  have e:gdif p ((x::r).map kw)=uv (kw x-p)++gdif (kw x) (r.map kw):=rfl
  have al:(LF L)[i]?=some (fl x):=by
   unfold LF
   rw[List.getElem?_map,e1];rfl
  have gf:qe [fl x] 0=asSc (fl x):=rfl
  rw[e,<-hi2,B40_14_eq]
  obtain⟨F,hF⟩:∃F,fl x= .sc F:=⟨_,rfl⟩
  rw[hF]at ky al
  generalize((kw x-p:Nat):Int)=D at*
  generalize((i+1:Nat):Int)=I at*
  have gs0:∀(v:Value),qe [.sc v] 0=some v:=fun _=>rfl
  have g1:(0:Int)<=(i:Int):=by omega
  have ix:∀k,idxA 1 (S k 1 (LF L)) (.int .i64 (i:Int))=some [.sc F]:=by
   intro k
   rw[idxA_S,if_pos g1,Int.toNat_natCast,al];rfl
  generalize LF L=LL at*
  simp[hlt,ix,gs0,ky,w1,wu,w2]
theorem ixe(a b c d e f:Int):ixV Tryz.prog 49 (.agg #[.int .u32 a,.int .u32 b,.int .u32 c,.int .u32 d,.int .u32 e,.int .u32 f]) (.int .i64 0)=some (.int .u32 a)
  /\ixV Tryz.prog 49 (.agg #[.int .u32 a,.int .u32 b,.int .u32 c,.int .u32 d,.int .u32 e,.int .u32 f]) (.int .i64 1)=some (.int .u32 b)
  /\ixV Tryz.prog 49 (.agg #[.int .u32 a,.int .u32 b,.int .u32 c,.int .u32 d,.int .u32 e,.int .u32 f]) (.int .i64 2)=some (.int .u32 c)
  /\ixV Tryz.prog 49 (.agg #[.int .u32 a,.int .u32 b,.int .u32 c,.int .u32 d,.int .u32 e,.int .u32 f]) (.int .i64 3)=some (.int .u32 d)
  /\ixV Tryz.prog 49 (.agg #[.int .u32 a,.int .u32 b,.int .u32 c,.int .u32 d,.int .u32 e,.int .u32 f]) (.int .i64 4)=some (.int .u32 e)
  /\ixV Tryz.prog 49 (.agg #[.int .u32 a,.int .u32 b,.int .u32 c,.int .u32 d,.int .u32 e,.int .u32 f]) (.int .i64 5)=some (.int .u32 f):=⟨by kernel_rfl,by kernel_rfl,by kernel_rfl,by kernel_rfl,by kernel_rfl,by kernel_rfl⟩
theorem wu32(w:Nat)(n:Int)(hn:qL n)(Z:List Int)(hZ:Z.length<=1000)(hp:Hp)(h:hp.rd w 0=some (Wc Z)):
  run cxX 25 [.ptr w 0 0,.sc (.int .u64 n)] hp=some (.tup [],hp.put w 0 (Wc (Z++uv n.toNat)))/\(uv n.toNat).length<=10:=by
 have h1:n.toNat<18446744073709551616:=by have:=hn.2;omega
 have hu:=qx h1
 have:=qZ w n.toNat Z h1 (by omega) hp h
 rw[Int.toNat_of_nonneg hn.1]at this
 exact⟨this,hu⟩
theorem run_putg(w:Nat)(K:Int)(g:Gs)(k:Nat)(hK:0<=K/\K<256)(gw:g.W)(hn:ordG g.nf.L=0)(hlen:g.L.length<=200)(hp:Hp)(h:hp.rd w 0=some (Wc [])):
  run cxX 40 [.ptr w 0 0,.agg [.sc (.int .i64 K),.sc (.int .u32 g.M),.sc (.int .u32 g.e0),.sc (.int .u32 g.e1),.sc (.int .u32 g.e2),.sc (.int .u32 g.e3),.sc (.int .u32 g.e4),.sc (.int .u32 g.e5),fl g.lo,fl g.hi,S k 1 (LF g.L)]] hp=
   some (.tup [],hp.put w 0 (Wc (gauY K g.nf))):=by
 have nn:=ordG_nofall hn
 have klo:=yc g.lo gw.lo hp0
 have khi:=yc g.hi gw.hi hp0
 have llo:=kw_lt g.lo gw.lo
 have lhi:=kw_lt g.hi gw.hi
 have wK:IntKind.u8.wrap K=K:=zo hK.1 hK.2
 have w32:∀n,qL n->IntKind.u64.wrap n=n:=fun n hn=>qr hn.1 (by have:=hn.2;omega)
 have u0:=zt w [] K (by decide) hp h
 rw[List.nil_append]at u0
 obtain⟨Z0,hZ0⟩:∃Z,Z=[K]:=⟨_,rfl⟩
 rw[<-hZ0]at u0
 have l0:Z0.length<=1:=by rw[hZ0];simp
 obtain⟨u1,v1⟩:=wu32 w g.M gw.M Z0 (by omega) _ (qh hp w (Wc Z0))
 obtain⟨Z1,hZ1⟩:∃Z,Z=Z0++uv g.M.toNat:=⟨_,rfl⟩
 rw[<-hZ1,qj]at u1
 have l1:Z1.length<=11:=by rw[hZ1];simp;omega
 obtain⟨u2,v2⟩:=wu32 w g.e0 gw.e0 Z1 (by omega) _ (qh hp w (Wc Z1))
 obtain⟨Z2,hZ2⟩:∃Z,Z=Z1++uv g.e0.toNat:=⟨_,rfl⟩
 rw[<-hZ2,qj]at u2
 have l2:Z2.length<=21:=by rw[hZ2];simp;omega
 obtain⟨u3,v3⟩:=wu32 w g.e1 gw.e1 Z2 (by omega) _ (qh hp w (Wc Z2))
 obtain⟨Z3,hZ3⟩:∃Z,Z=Z2++uv g.e1.toNat:=⟨_,rfl⟩
 rw[<-hZ3,qj]at u3
 have l3:Z3.length<=31:=by rw[hZ3];simp;omega
 obtain⟨u4,v4⟩:=wu32 w g.e2 gw.e2 Z3 (by omega) _ (qh hp w (Wc Z3))
 obtain⟨Z4,hZ4⟩:∃Z,Z=Z3++uv g.e2.toNat:=⟨_,rfl⟩
 rw[<-hZ4,qj]at u4
 have l4:Z4.length<=41:=by rw[hZ4];simp;omega
 obtain⟨u5,v5⟩:=wu32 w g.e3 gw.e3 Z4 (by omega) _ (qh hp w (Wc Z4))
 obtain⟨Z5,hZ5⟩:∃Z,Z=Z4++uv g.e3.toNat:=⟨_,rfl⟩
 rw[<-hZ5,qj]at u5
 have l5:Z5.length<=51:=by rw[hZ5];simp;omega
 obtain⟨u6,v6⟩:=wu32 w g.e4 gw.e4 Z5 (by omega) _ (qh hp w (Wc Z5))
 obtain⟨Z6,hZ6⟩:∃Z,Z=Z5++uv g.e4.toNat:=⟨_,rfl⟩
 rw[<-hZ6,qj]at u6
 have l6:Z6.length<=61:=by rw[hZ6];simp;omega
 obtain⟨u7,v7⟩:=wu32 w g.e5 gw.e5 Z6 (by omega) _ (qh hp w (Wc Z6))
 obtain⟨Z7,hZ7⟩:∃Z,Z=Z6++uv g.e5.toNat:=⟨_,rfl⟩
 rw[<-hZ7,qj]at u7
 have l7:Z7.length<=71:=by rw[hZ7];simp;omega
 have v8:=qx llo
 have u8:=qZ w (kw g.lo) Z7 llo (by omega) _ (qh hp w (Wc Z7))
 obtain⟨Z8,hZ8⟩:∃Z,Z=Z7++uv (kw g.lo):=⟨_,rfl⟩
 rw[<-hZ8,qj]at u8
 have l8:Z8.length<=81:=by rw[hZ8];simp;omega
 have v9:=qx lhi
 have u9:=qZ w (kw g.hi) Z8 lhi (by omega) _ (qh hp w (Wc Z8))
 obtain⟨Z9,hZ9⟩:∃Z,Z=Z8++uv (kw g.hi):=⟨_,rfl⟩
 rw[<-hZ9,qj]at u9
 have l9:Z9.length<=91:=by rw[hZ9];simp;omega
 have ua:=zt w Z9 (g.L.length:Int) (by omega) _ (qh hp w (Wc Z9))
 obtain⟨ZA,hZA⟩:∃Z,Z=Z9++[(g.L.length:Int)]:=⟨_,rfl⟩
 rw[<-hZA,qj]at ua
 have la:ZA.length<=92:=by rw[hZA];simp;omega
 have lp:=putg_loop w (rk k) g.L gw.L (by omega) g.L 0 0 ZA (hp.put w 0 (Wc ZA)) rfl (jT nn) (by omega) (by omega) (qh _ _ _)
 rw[qj]at lp
 have eY:gauY K g.nf=ZA++gdif 0 (g.L.map kw):=by
  rw[hZA,hZ9,hZ8,hZ7,hZ6,hZ5,hZ4,hZ3,hZ2,hZ1,hZ0]
  unfold gauY Gs.nf
  simp
 rw[eY]
 have wl:IntKind.u8.wrap (g.L.length:Int)=(g.L.length:Int):=zo (by omega) (by omega)
 have x1:=w32 _ gw.M
 have x2:=w32 _ gw.e0
 have x3:=w32 _ gw.e1
 have x4:=w32 _ gw.e2
 have x5:=w32 _ gw.e3
 have x6:=w32 _ gw.e4
 have x7:=w32 _ gw.e5
 obtain⟨i0,i1,i2,i3,i4,i5⟩:=ixe g.e0 g.e1 g.e2 g.e3 g.e4 g.e5
 obtain⟨FL,hFL⟩:∃F,fl g.lo= .sc F:=⟨_,rfl⟩
 obtain⟨FH,hFH⟩:∃F,fl g.hi= .sc F:=⟨_,rfl⟩
 rw[hFL]at klo⊢
 rw[hFH]at khi⊢
 have lL:(LF g.L).length=g.L.length:=by simp[LF]
 obtain⟨g0,g1,g2,g3,g4,g5,g6,g7,g8,g9⟩:=g
 simp only at*
 generalize Wc (ZA++gdif 0 (g9.map kw))=WF at*
 generalize Wc ZA=WA at*
 generalize Wc Z9=W9 at*
 generalize Wc Z8=W8 at*
 generalize Wc Z7=W7 at*
 generalize Wc Z6=W6 at*
 generalize Wc Z5=W5 at*
 generalize Wc Z4=W4 at*
 generalize Wc Z3=W3 at*
 generalize Wc Z2=W2 at*
 generalize Wc Z1=W1 at*
 generalize Wc Z0=W0 at*
 have ca:js (.agg [.sc (.int .u32 g1),.sc (.int .u32 g2),.sc (.int .u32 g3),.sc (.int .u32 g4),.sc (.int .u32 g5),.sc (.int .u32 g6)])=some (.agg #[.int .u32 g1,.int .u32 g2,.int .u32 g3,.int .u32 g4,.int .u32 g5,.int .u32 g6]):=rfl
 have gb:getBd (.fn (4294967296+25) [.ptr w 0 0])=some (25,[.ptr w 0 0]):=rfl
 simp only[Nat.reduceAdd]at gb
 obtain⟨fy,fl1⟩:∃y,flatL [AV.ptr w 0 0]=some y:=⟨_,rfl⟩
 simp only[Int.natCast_zero]at lp
 rw[E40]
 simp[getN,qe,getC,wK,u0,zD,zx,x1,fl1,gb,u1]
 rw[yS]
 simp[ca,i0,zx,x2,gb,u2]
 rw[yS]
 simp[ca,i1,zx,x3,gb,u3]
 rw[yS]
 simp[ca,i2,zx,x4,gb,u4]
 rw[yS]
 simp[ca,i3,zx,x5,gb,u5]
 rw[yS]
 simp[ca,i4,zx,x6,gb,u6]
 rw[yS]
 simp[ca,i5,zx,x7,gb,u7]
 rw[yS]
 simp[qe,getC,klo,gb,u8,khi,u9,lL,zD,wl,ua,lp]
def putY(x:SkN):List Int:=
 if x.kind=0 then roaY (chs (tn x.set))
 else if x.kind=1 then uv x.K.toNat++ricY (tn x.hs)
 else if x.kind=2 then x.P::cod (tn x.rg)
 else if x.kind=3 then uv x.B.toNat++[x.H]++fanY (tn x.bs)
 else if x.kind=4 then [x.R]++uv x.C.toNat++pcnt x.C x.cs 0 0
 else gauY x.gK x.g
def H64(x:SkN):Prop:=∀n∈x.hs,0<=n/\n<18446744073709551616
theorem ricY_len{l:List Nat}(hl:l.length<=1024)(h64:∀x∈l,x<18446744073709551616):(ricY l).length<=700100:=by
 obtain⟨k63,hq⟩:=parR_ok (gaps_lt h64)
 have hbl:=rbits_len (parR (gaps l)) k63 (gaps l) hq
 rw[gaps_len]at hbl
 have hlY:(pk (ricB (gaps l))).length<700000:=by rw[zK];unfold ricB;omega
 have h1:=qx (n:=l.length) (by omega)
 have h2:=qx (n:=(pk (ricB (gaps l))).length) (by omega)
 unfold ricY
 simp only[List.length_append,List.length_singleton]
 omega
theorem fanY_len{l:List Nat}(hl:l.length<=4096)(h32:∀x∈l,x<4294967296)(hr:zQ l):(fanY l).length<=100000:=by
 by_cases hne:l=[]
 ·subst hne
  have e:fanY []=uv 0++uv 0++[]++uv 0++[]:=rfl
  have h:=qx (n:=0) (by omega)
  rw[e]
  simp only[List.length_append,List.length_nil]
  omega
 ·obtain⟨a,b,c⟩:=yL l hl h32 hr hne
  have h1:=qx (n:=l.length) (by omega)
  have h2:=qx (n:=qy l) (by omega)
  have hm:l.length*fanK l<=4096*32:=Nat.mul_le_mul hl a
  have h3:=qx (n:=(pk (qD (fanK l) 0 l)).length) (by rw[zK];omega)
  unfold fanY
  simp only[List.length_append,zK,lowsB_len]at*
  omega
theorem cod_len{l:List Nat}(hl:l.length<=1000)(h64:∀x∈l,x<64):(cod l).length<=100000:=by
 rw[(cod_num l h64).2]
 have key:∀(l cs:List Nat) (s:En),okM cs->(∀x∈l,x<64)->okE s s.width->16777216<=s.width/\s.width<=4294967296->eK (enc cs s l)<=eK s+4*l.length:=by
  intro l
  induction l with
  |nil=>intro cs s _ _ _ _;exact Nat.le_refl _
  |cons x r ih=>
   intro cs s hm hl h hw
   obtain⟨d,b1,b2,b3,b4,b5,b6,b7⟩:=add_ok s cs x hm (hl x (by simp)) h hw
   have hd:d<=4:=pow_d b7 (by rw[<-b2];exact b6)
   have:=ih (see cs x) (norm 4 (nar s cs x)) (see_ok hm (hl x (by simp))) (fun y hy=>hl y (by simp[hy])) b4 ⟨b5,b6⟩
   have e:enc cs s (x::r)=enc (see cs x) (norm 4 (nar s cs x)) r:=rfl
   rw[e,List.length_cons]
   omega
 have:=key l cs0 en0 okM0 h64 okE0 ⟨by decide,by decide⟩
 have e0:eK en0=0:=rfl
 omega
theorem roaY_len{l:List Nat}(hl:l.length<=4096)(h32:∀x∈l,x<4294967296):(roaY (chs l)).length<=900000:=by
 have hc:=chs_len l
 have h1:=qx (n:=(chs l).length) (by omega)
 have key:∀cs:List (Nat×Nat),(∀c∈cs,okC c)->(rowY cs).length<=60*cs.length:=by
  intro cs
  induction cs with
  |nil=>intro _;exact Nat.le_refl _
  |cons c r ih=>
   intro h
   have:=ih (fun d hd=>h d (by simp[hd]))
   have:=chkY_len (h c (by simp))
   simp only[rowY,List.length_append,List.length_cons]
   omega
 have:=key (chs l) (chs_ok h32)
 unfold roaY
 simp only[List.length_append]
 omega
theorem set_facts{x:SkN}(f:Fine x)(k:x.kind=0):x.set.length<=4096/\zb (tn x.set)/\(∀n∈tn x.set,n<4294967296)/\nz (tn x.set)=x.set:=by
 have h:=(qM.mp f.c).2.2
 rw[if_pos k]at h
 have s:=schk_ok.mp h
 have n0:∀n∈x.set,0<=n:=fun n hn=>(f.w.set n hn).1
 exact⟨s.1,rise_tn n0 s.2,tn_mem (B:=4294967296) f.w.set,nz_tn n0⟩
theorem kmv_facts{x:SkN}(f:Fine x)(k:x.kind=1)(h64:H64 x):(1<=x.K/\x.K<=1024)/\x.hs.length<=1024/\zb (tn x.hs)/\(∀n∈tn x.hs,n<18446744073709551616)/\nz (tn x.hs)=x.hs:=by
 have h:=(qM.mp f.c).2.2
 rw[if_neg (by omega),if_pos k]at h
 have s:=kchk_ok.mp h
 have n0:∀n∈x.hs,0<=n:=fun n hn=>(h64 n hn).1
 exact⟨s.1,by omega,rise_tn n0 s.2.2,tn_mem (B:=18446744073709551616) h64,nz_tn n0⟩
theorem hll_facts{x:SkN}(f:Fine x)(k:x.kind=2):(4<=x.P/\x.P<=8)/\x.rg.length=hpow x.P/\x.rg.length<=256/\(∀n∈tn x.rg,n<64)/\nz (tn x.rg)=x.rg:=by
 have h:=(qM.mp f.c).2.2
 rw[if_neg (by omega),if_neg (by omega),if_pos k]at h
 have s:=hchk_ok.mp h
 have n0:∀n∈x.rg,0<=n:=fun n hn=>(f.w.rg n hn).1
 have hp:hpow x.P<=256:=by
  unfold hpow
  exact Nat.le_trans (Nat.pow_le_pow_right (by decide) (show x.P.toNat<=8 by omega)) (by decide)
 exact⟨s.1,s.2.1,by omega,tn_mem (B:=64) (fun n hn=>⟨n0 n hn,by have:=s.2.2 n hn;omega⟩),nz_tn n0⟩
theorem blo_facts{x:SkN}(f:Fine x)(k:x.kind=3):(1<=x.B/\x.B<=4096)/\(1<=x.H/\x.H<=8)/\x.bs.length<=4096/\zQ (tn x.bs)/\(∀n∈tn x.bs,n<4294967296)/\nz (tn x.bs)=x.bs:=by
 have h:=(qM.mp f.c).2.2
 rw[if_neg (by omega),if_neg (by omega),if_neg (by omega),if_pos k]at h
 have s:=good_chk h f.w.bs
 have n0:∀n∈x.bs,0<=n:=fun n hn=>(f.w.bs n hn).1
 exact⟨s.1,s.2.1,s.2.2.len s.1.2,rising_nofall (rise_tn n0 s.2.2.1),tn_mem (B:=4294967296) f.w.bs,nz_tn n0⟩
theorem cms_facts{x:SkN}(f:Fine x)(k:x.kind=4):(1<=x.R/\x.R<=8)/\(1<=x.C/\x.C<=256)/\(x.cs.length:Int)=x.R*x.C/\x.cs.length<=2048:=by
 have h:=(qM.mp f.c).2.2
 rw[if_neg (by omega),if_neg (by omega),if_neg (by omega),if_neg (by omega),if_pos k]at h
 have s:=cchk_ok.mp h
 have:=cmul s.1 s.2.1
 exact⟨s.1,s.2.1,s.2.2,by omega⟩
theorem gau_facts{x:SkN}(f:Fine x)(k:x.kind=5):(1<=x.gK/\x.gK<=16)/\ordG x.g.L=0/\x.g.L.length<=16:=by
 have h:=(qM.mp f.c).2.2
 rw[if_neg (by omega),if_neg (by omega),if_neg (by omega),if_neg (by omega),if_neg (by omega)]at h
 unfold gchk at h
 split at h
 ·cases h
 ·rename_i h1
  split at h
  ·rename_i h2
   exact⟨by omega,h2,by omega⟩
  ·cases h
theorem put_end(b:Nat)(Y:List Int)(hY:Y.length<=1000000)(hp:Hp)(h:hp.rd b 0=some (Wc Y)):xX (.ptr b 0 0) hp=some (.tup [S 1 1 (LI .u8 Y),.sc (.int .i64 0)],hp):=by
 have wb:=run_wbytes b Y hY hp h
 rw[B16_28_eq]
 simp[wb]
theorem putY_len{x:SkN}{v:AV}(hv:IsSk x v)(f:Fine x)(h64:H64 x):(putY x).length<=1000000:=by
 obtain⟨g,a,b,c,d,e,t,gw,gn,rfl⟩:=hv
 have hk:=f.w.kind
 have kd:=(qM.mp f.c).1
 have six:x.kind=0\/x.kind=1\/x.kind=2\/x.kind=3\/x.kind=4\/x.kind=5:=by omega
 unfold putY
 rcases six with k|k|k|k|k|k
 ·rw[if_pos k]
  have s:=set_facts f k
  have:=roaY_len (l:=tn x.set) (by simp;exact s.1) s.2.2.1
  omega
 ·have s:=kmv_facts f k h64
  have:=ricY_len (l:=tn x.hs) (by simp;exact s.2.1) s.2.2.2.1
  have hu:=qx (n:=x.K.toNat) (by omega)
  rw[if_neg (by omega),if_pos k,List.length_append]
  omega
 ·have s:=hll_facts f k
  have:=cod_len (l:=tn x.rg) (by simp;omega) s.2.2.2.1
  rw[if_neg (by omega),if_neg (by omega),if_pos k,List.length_cons]
  omega
 ·have s:=blo_facts f k
  have:=fanY_len (l:=tn x.bs) (by simp;exact s.2.2.1) s.2.2.2.2.1 s.2.2.2.1
  have hu:=qx (n:=x.B.toNat) (by omega)
  rw[if_neg (by omega),if_neg (by omega),if_neg (by omega),if_pos k]
  simp only[List.length_append,List.length_singleton]
  omega
 ·have s:=cms_facts f k
  have:=pcnt_len x.C x.cs f.w.cs x.cs 0 0 f.w.cs (by omega)
  have hu:=qx (n:=x.C.toNat) (by omega)
  rw[if_neg (by omega),if_neg (by omega),if_neg (by omega),if_neg (by omega),if_pos k]
  simp only[List.length_append,List.length_singleton]
  omega
 ·have s:=gau_facts f k
  have hd:∀(L:List Nat) (p:Nat),(∀k∈L,k<18446744073709551616)->(gdif p L).length<=10*L.length:=by
   intro L
   induction L with
   |nil=>intro p _;exact Nat.le_refl _
   |cons k r ih=>
    intro p h
    have:=ih k (fun y hy=>h y (by simp[hy]))
    have hu:=qx (n:=k-p) (by have:=h k (by simp);omega)
    simp only[gdif,List.length_append,List.length_cons]
    omega
  have hL:∀k∈x.g.L,k<18446744073709551616:=by
   rw[<-gn]
   intro k hk
   obtain⟨w,hw,rfl⟩:=List.mem_map.mp hk
   exact kw_lt w (gw.L w hw)
  have h0:=hd x.g.L 0 hL
  have u:∀n:Int,qL n->(uv n.toNat).length<=10:=fun n hn=>qx (by have:=hn.2;omega)
  have p:=f.pos
  have u1:=u _ p.1
  have u2:=u _ p.2.1
  have u3:=u _ p.2.2.1
  have u4:=u _ p.2.2.2.1
  have u5:=u _ p.2.2.2.2.1
  have u6:=u _ p.2.2.2.2.2.1
  have u7:=u _ p.2.2.2.2.2.2
  have u8:=qx (n:=x.g.lo) (by rw[<-gn];exact kw_lt _ gw.lo)
  have u9:=qx (n:=x.g.hi) (by rw[<-gn];exact kw_lt _ gw.hi)
  rw[if_neg (by omega),if_neg (by omega),if_neg (by omega),if_neg (by omega),if_neg (by omega)]
  unfold gauY
  simp only[List.length_append,List.length_singleton]
  omega
theorem run_put{x:SkN}{v:AV}(hv:IsSk x v)(f:Fine x)(h64:H64 x)(hp:Hp):∃hp',run cxX 16 [v] hp=some (.tup [S 1 1 (LI .u8 (putY x)),.sc (.int .i64 0)],hp'):=by
 have hv0:=hv
 have ck:=jo hv f.w hp0
 have ck2:=jo hv.ro f.w hp0
 rw[f.c]at ck ck2
 obtain⟨g,a,b,c,d,e,t,gw,gn,rfl⟩:=hv
 have hk:=f.w.kind
 have kd:=(qM.mp f.c).1
 have hr0:(hp.new [S 2 1 []]).rd hp.next 0=some (Wc []):=qs _ _
 have w1:IntKind.u64.wrap x.kind=x.kind:=qr hk.1 (by omega)
 have six:x.kind=0\/x.kind=1\/x.kind=2\/x.kind=3\/x.kind=4\/x.kind=5:=by omega
 have hck:∀L,AV.agg L=skA x g (rk a) (rk b) (rk c) (rk d) (rk e) (rk t)->run cxX 23 [.agg L] hp0=some (.sc (.int .i64 0),hp0):=by
  intro L hL
  have e1:AI.ro (skA x g a b c d e t)= .agg L:=by rw[hL];simp[skA]
  rw[e1]at ck2
  exact ck2
 have hc:=hck _ rfl
 have nn:=putY_len hv0 f h64
 unfold putY at nn⊢
 rcases six with k|k|k|k|k|k
 ·rw[if_pos k]at nn⊢
  obtain⟨s1,s2,s3,s4⟩:=set_facts f k
  obtain⟨t1,hp1,r1,r2⟩:=run_rof (tn x.set) (rk (rk a)) (by simp;exact s1) s3 s2 hp0
  rw[s4]at r1
  have sp:=fun k=>run_sput (chs (tn x.set)) k hp.next (chs_ok s3) (by have:=chs_len (tn x.set);simp at this;omega) [] (by simp) _ hr0
  rw[List.nil_append]at sp
  simp only[zP]at sp
  have pe:=put_end hp.next (roaY (chs (tn x.set))) nn (hp.new (Wc (roaY (chs (tn x.set))))) (qs _ _)
  refine⟨hp.new (Wc (roaY (chs (tn x.set)))),?_⟩
  generalize roaY (chs (tn x.set))=Y at*
  generalize csL (chs (tn x.set))=CL at*
  simp[skA,k]at hc
  rw[E16]
  simp at r1 sp
  simp[skA,getN,qe,getC,k,hc,r1,sp,pe]
 ·rw[if_neg (by omega),if_pos k]at nn⊢
  obtain⟨s0,s1,s2,s3,s4⟩:=kmv_facts f k h64
  obtain⟨t1,hp1,r1,r2⟩:=run_rput (tn x.hs) (rk (rk b)) (by simp;exact s1) s3 s2 hp0
  rw[s4]at r1
  have hu:=qx (n:=x.K.toNat) (by omega)
  have u1:=qZ hp.next x.K.toNat [] (by omega) (by simp;omega) _ hr0
  rw[List.nil_append,zP,Int.toNat_of_nonneg (by omega)]at u1
  have wK:IntKind.u64.wrap x.K=x.K:=qr (by omega) (by omega)
  have u2:=fun k=>xm hp.next (uv x.K.toNat) (ricY (tn x.hs)) k (by rw[List.length_append]at nn;exact nn) (hp.new (Wc (uv x.K.toNat))) (qs _ _)
  simp only[zP]at u2
  have pe:=put_end hp.next _ nn (hp.new (Wc (uv x.K.toNat++ricY (tn x.hs)))) (qs _ _)
  refine⟨hp.new (Wc (uv x.K.toNat++ricY (tn x.hs))),?_⟩
  generalize uv x.K.toNat++ricY (tn x.hs)=Y at*
  generalize uv x.K.toNat=U at*
  generalize ricY (tn x.hs)=RY at*
  simp[skA,k]at hc
  rw[E16]
  simp at r1 u1
  simp[skA,getN,qe,getC,k,hc,jM,wK,r1,u1,u2,pe]
 ·rw[if_neg (by omega),if_neg (by omega),if_pos k]at nn⊢
  obtain⟨s0,s1,s2,s3,s4⟩:=hll_facts f k
  obtain⟨hp1,r1,r2⟩:=run_cdput (tn x.rg) (rk (rk c)) (by simp;omega) s3 hp0
  rw[s4]at r1
  have u1:=zt hp.next [] x.P (by decide) _ hr0
  rw[List.nil_append,zP]at u1
  have wK:IntKind.u8.wrap x.P=x.P:=zo (by omega) (by omega)
  have u2:=fun k=>xm hp.next [x.P] (cod (tn x.rg)) k (by simp at nn⊢;omega) (hp.new (Wc [x.P])) (qs _ _)
  have eY:[x.P]++cod (tn x.rg)=x.P::cod (tn x.rg):=rfl
  simp only[zP,eY]at u2
  have pe:=put_end hp.next _ nn (hp.new (Wc (x.P::cod (tn x.rg)))) (qs _ _)
  refine⟨hp.new (Wc (x.P::cod (tn x.rg))),?_⟩
  generalize x.P::cod (tn x.rg)=Y at*
  generalize cod (tn x.rg)=RY at*
  simp[skA,k]at hc
  rw[E16]
  simp at r1 u1 u2
  simp[skA,getN,qe,getC,k,hc,zD,wK,r1,u1,u2,pe]
 ·rw[if_neg (by omega),if_neg (by omega),if_neg (by omega),if_pos k]at nn⊢
  obtain⟨s0,s9,s1,s2,s3,s4⟩:=blo_facts f k
  obtain⟨t1,t2,hp1,r1,r2⟩:=run_fof (tn x.bs) (rk (rk d)) (by simp;exact s1) s3 s2 hp0
  rw[s4]at r1
  have hu:=qx (n:=x.B.toNat) (by omega)
  have u1:=qZ hp.next x.B.toNat [] (by omega) (by simp;omega) _ hr0
  rw[List.nil_append,zP,Int.toNat_of_nonneg (by omega)]at u1
  have wK:IntKind.u64.wrap x.B=x.B:=qr (by omega) (by omega)
  have wH:IntKind.u8.wrap x.H=x.H:=zo (by omega) (by omega)
  have u2:=zt hp.next (uv x.B.toNat) x.H (by omega) (hp.new (Wc (uv x.B.toNat))) (qs _ _)
  rw[zP]at u2
  have u3:=fun t1 t2=>run_fput (tn x.bs) (by simp;exact s1) s3 s2 hp.next t1 t2 (uv x.B.toNat++[x.H]) (by rw[List.length_append]at nn;exact nn) (hp.new (Wc (uv x.B.toNat++[x.H]))) (qs _ _)
  simp only[zP]at u3
  have pe:=put_end hp.next _ nn (hp.new (Wc (uv x.B.toNat++[x.H]++fanY (tn x.bs)))) (qs _ _)
  refine⟨hp.new (Wc (uv x.B.toNat++[x.H]++fanY (tn x.bs))),?_⟩
  unfold Frow at r1 u3
  generalize uv x.B.toNat++[x.H]++fanY (tn x.bs)=Y at*
  generalize uv x.B.toNat++[x.H]=U2 at*
  generalize uv x.B.toNat=U at*
  generalize pk (za (fanK (tn x.bs)) (tn x.bs))=P1 at*
  generalize pk (qD (fanK (tn x.bs)) 0 (tn x.bs))=P2 at*
  generalize((qy (tn x.bs):Nat):Int)=La at*
  generalize((fanK (tn x.bs):Nat):Int)=Lk at*
  simp[skA,k]at hc
  rw[E16]
  simp at r1 u1 u2 u3
  simp[skA,getN,qe,getC,k,hc,jM,zD,wK,wH,r1,u1,u2,putN,u3,pe]
 ·rw[if_neg (by omega),if_neg (by omega),if_neg (by omega),if_neg (by omega),if_pos k]at nn⊢
  obtain⟨s0,s1,s2,s3⟩:=cms_facts f k
  have hu:=qx (n:=x.C.toNat) (by omega)
  have u1:=zt hp.next [] x.R (by decide) _ hr0
  rw[List.nil_append,zP]at u1
  have u2:=qZ hp.next x.C.toNat [x.R] (by omega) (by simp;omega) (hp.new (Wc [x.R])) (qs _ _)
  rw[zP,Int.toNat_of_nonneg (by omega)]at u2
  have wK:IntKind.u64.wrap x.C=x.C:=qr (by omega) (by omega)
  have wH:IntKind.u8.wrap x.R=x.R:=zo (by omega) (by omega)
  have u3:=fun k=>run_counts x.C x.cs (by omega) f.w.cs hp.next k ([x.R]++uv x.C.toNat) (by simp;omega) (hp.new (Wc ([x.R]++uv x.C.toNat))) (qs _ _)
  simp only[zP]at u3
  have pe:=put_end hp.next _ nn (hp.new (Wc ([x.R]++uv x.C.toNat++pcnt x.C x.cs 0 0))) (qs _ _)
  refine⟨hp.new (Wc ([x.R]++uv x.C.toNat++pcnt x.C x.cs 0 0)),?_⟩
  generalize [x.R]++uv x.C.toNat++pcnt x.C x.cs 0 0=Y at*
  generalize [x.R]++uv x.C.toNat=U2 at*
  simp[skA,k]at hc
  rw[E16]
  try simp at u1
  try simp at u2
  try simp at u3
  simp[skA,getN,qe,getC,k,hc,jM,zD,wK,wH,u1,u2,u3,pe]
 ·rw[if_neg (by omega),if_neg (by omega),if_neg (by omega),if_neg (by omega),if_neg (by omega)]at nn⊢
  obtain⟨s0,s1,s2⟩:=gau_facts f k
  have hl:g.L.length<=16:=by rw[<-gn]at s2;simpa[Gs.nf]using s2
  have u3:=fun k=>run_putg hp.next x.gK g k ⟨by omega,by omega⟩ gw (by rw[gn];exact s1) (by omega) _ hr0
  simp only[zP,gn]at u3
  have pe:=put_end hp.next _ nn (hp.new (Wc (gauY x.gK x.g))) (qs _ _)
  refine⟨hp.new (Wc (gauY x.gK x.g)),?_⟩
  generalize gauY x.gK x.g=Y at*
  simp[skA,k]at hc
  rw[E16]
  try simp at u3
  simp[skA,getN,qe,getC,k,hc,u3,pe]
noncomputable section
theorem E14(a0:AV)(hp:Hp):run cxX 14 [a0] hp=(qg 7 a0).bind fun y0=>(getC (List.map ro1 y0) 5).bind fun y1=>ln (ro1 y1) fun y2=>iC .leq 3 5 (kI y2) (kI 40) ((getC (List.map ro1 y0) 6).bind fun y5=>ln (ro1 y5) fun y6=>bC .leq 3 10 (kI y6) (kI 40) fun y7=>rQ (.sc y7) hp) (rQ (.sc (.bool false)) hp):=
 (eE 14 ss14 _ _).trans (by kernel_rfl)
def B15_7(x4 x27:AV)(v28 v29:Value)(b1 b2 b3:List AV)(hp:Hp):=gb 15 [cc 15016 cd15,cc 15017 cd15,cl 7508 cd15,.inBlock 1,cc 939 cd15,.inBlock 0,cc 15 cd15] [(1,.lp 1 0 0),(2,.lp 2 0 0),(3,.lp 3 0 0),va 4 x4,va 27 x27,vs 28 v28,vs 29 v29] [(1,0,b1),(2,0,b2),(3,0,b3)] hp
def yT(b2 b3:List AV)(hp:Hp):=gb 15 [cc 30 cd15,cc 31 cd15] [(2,.lp 2 0 0),(3,.lp 3 0 0)] [(2,0,b2),(3,0,b3)] hp
def B15_27(x8 x93:AV)(v94 v95:Value)(b1 b2 b3:List AV)(hp:Hp):=gb 15 [cc 3866536 cd15,cc 3866537 cd15,cl 1933268 cd15,.inBlock 5,cc 241659 cd15,.inBlock 0,cc 15 cd15] [(1,.lp 1 0 0),(2,.lp 2 0 0),(3,.lp 3 0 0),va 8 x8,va 93 x93,vs 94 v94,vs 95 v95] [(1,0,b1),(2,0,b2),(3,0,b3)] hp
def B15_12(x4:AV)(v6:Value)(x27:AV)(v28 v29 v42 v43:Value)(b1 b2 b3:List AV)(hp:Hp):=gb 15 [cc 30756072 cd15,cc 30756073 cd15,cl 15378036 cd15,.inBlock 3,.inBlock 2,cc 60071 cd15,cl 7508 cd15,.inBlock 1,cc 939 cd15,.inBlock 0,cc 15 cd15] [(1,.lp 1 0 0),(2,.lp 2 0 0),(3,.lp 3 0 0),va 4 x4,vs 6 v6,va 27 x27,vs 28 v28,vs 29 v29,vs 42 v42,vs 43 v43] [(1,0,b1),(2,0,b2),(3,0,b3)] hp
def B15_16(x4 x27:AV)(v28 v29:Value)(b1 b2 b3:List AV)(hp:Hp):=gb 15 [cc 60071 cd15,cl 7508 cd15,.inBlock 1,cc 939 cd15,.inBlock 0,cc 15 cd15] [(1,.lp 1 0 0),(2,.lp 2 0 0),(3,.lp 3 0 0),va 4 x4,va 27 x27,vs 28 v28,vs 29 v29] [(1,0,b1),(2,0,b2),(3,0,b3)] hp
def B15_32(x8:AV)(v10 v11:Value)(x93:AV)(v94 v95:Value)(b1 b2 b3:List AV)(hp:Hp):=gb 15 [cc 247458407 cd15,.inBlock 6,cc 15466151 cd15,cl 1933268 cd15,.inBlock 5,cc 241659 cd15,.inBlock 0,cc 15 cd15] [(1,.lp 1 0 0),(2,.lp 2 0 0),(3,.lp 3 0 0),va 8 x8,vs 10 v10,vs 11 v11,va 93 x93,vs 94 v94,vs 95 v95] [(1,0,b1),(2,0,b2),(3,0,b3)] hp
theorem E15(a0:AV)(hp:Hp):run cxX 15 [a0] hp=(qg 7 a0).bind fun y0=>(qe (List.map ro1 y0) 0).bind fun y1=>bC .rem 5 13 y1 (kB 6) fun y2=>(qe [.sc y2,nl,.sc (kI 0),nl,.sc (kI 0),nl,.sc (kI 0),.sc (kI 0),nl,.sc (kI 0),.sc (kI 0),nl,.sc (kI 0),.sc (kW 0),.sc (kW 0),.sc (kW 0),.sc (kW 0),.sc (kW 0),.sc (kW 0),.sc (kW 0),.sc (Value.float Go.FloatKind.f64 0),.sc (Value.float Go.FloatKind.f64 0),nl] 0).bind fun y3=>iC .eql 39 17 y3 (kB 0) ((getC (List.map ro1 y0) 5).bind fun y6=>ln (ro1 y6) fun y7=>B15_7 nl (ro1 y6) (kI y7) (kI 0) (List.map ro1 y0) [.sc (kB 0),nl,.sc (kI 0),nl,.sc (kI 0),nl,.sc (kI 0),.sc (kI 0),nl,.sc (kI 0),.sc (kI 0),nl,.sc (kI 0),.sc (kW 0),.sc (kW 0),.sc (kW 0),.sc (kW 0),.sc (kW 0),.sc (kW 0),.sc (kW 0),.sc (Value.float Go.FloatKind.f64 0),.sc (Value.float Go.FloatKind.f64 0),nl] [.sc y2,nl,.sc (kI 0),nl,.sc (kI 0),nl,.sc (kI 0),.sc (kI 0),nl,.sc (kI 0),.sc (kI 0),nl,.sc (kI 0),.sc (kW 0),.sc (kW 0),.sc (kW 0),.sc (kW 0),.sc (kW 0),.sc (kW 0),.sc (kW 0),.sc (Value.float Go.FloatKind.f64 0),.sc (Value.float Go.FloatKind.f64 0),nl] hp) (iC .eql 39 17 y3 (kB 1) ((qe (List.map ro1 y0) 1).bind fun y10=>(getC (List.map ro1 y0) 5).bind fun y11=>(qe (List.map ro1 y0) 4).bind fun y12=>pA 27 [.sc y10,ro1 y11,.sc y12] fun z1=>(qg 2 z1).bind fun y17=>(putN [.sc y2,nl,.sc (kI 0),nl,.sc (kI 0),nl,.sc (kI 0),.sc (kI 0),nl,.sc (kI 0),.sc (kI 0),nl,.sc (kI 0),.sc (kW 0),.sc (kW 0),.sc (kW 0),.sc (kW 0),.sc (kW 0),.sc (kW 0),.sc (kW 0),.sc (Value.float Go.FloatKind.f64 0),.sc (Value.float Go.FloatKind.f64 0),nl] 2 y17).bind fun y18=>yT [.sc (kB 0),nl,.sc (kI 0),nl,.sc (kI 0),nl,.sc (kI 0),.sc (kI 0),nl,.sc (kI 0),.sc (kI 0),nl,.sc (kI 0),.sc (kW 0),.sc (kW 0),.sc (kW 0),.sc (kW 0),.sc (kW 0),.sc (kW 0),.sc (kW 0),.sc (Value.float Go.FloatKind.f64 0),.sc (Value.float Go.FloatKind.f64 0),nl] y18 hp) (iC .eql 39 17 y3 (kB 2) ((qe (List.map ro1 y0) 1).bind fun y21=>(getC (List.map ro1 y0) 5).bind fun y22=>pA 28 [.sc y21,ro1 y22] fun z2=>(qg 2 z2).bind fun y27=>(putN [.sc y2,nl,.sc (kI 0),nl,.sc (kI 0),nl,.sc (kI 0),.sc (kI 0),nl,.sc (kI 0),.sc (kI 0),nl,.sc (kI 0),.sc (kW 0),.sc (kW 0),.sc (kW 0),.sc (kW 0),.sc (kW 0),.sc (kW 0),.sc (kW 0),.sc (Value.float Go.FloatKind.f64 0),.sc (Value.float Go.FloatKind.f64 0),nl] 4 y27).bind fun y28=>yT [.sc (kB 0),nl,.sc (kI 0),nl,.sc (kI 0),nl,.sc (kI 0),.sc (kI 0),nl,.sc (kI 0),.sc (kI 0),nl,.sc (kI 0),.sc (kW 0),.sc (kW 0),.sc (kW 0),.sc (kW 0),.sc (kW 0),.sc (kW 0),.sc (kW 0),.sc (Value.float Go.FloatKind.f64 0),.sc (Value.float Go.FloatKind.f64 0),nl] y28 hp) (iC .eql 39 17 y3 (kB 3) ((qe (List.map ro1 y0) 3).bind fun y31=>(qe (List.map ro1 y0) 1).bind fun y32=>(getC (List.map ro1 y0) 5).bind fun y33=>pA 29 [.sc y31,.sc y32,ro1 y33] fun z3=>(qg 3 z3).bind fun y38=>(putN [.sc y2,nl,.sc (kI 0),nl,.sc (kI 0),nl,.sc (kI 0),.sc (kI 0),nl,.sc (kI 0),.sc (kI 0),nl,.sc (kI 0),.sc (kW 0),.sc (kW 0),.sc (kW 0),.sc (kW 0),.sc (kW 0),.sc (kW 0),.sc (kW 0),.sc (Value.float Go.FloatKind.f64 0),.sc (Value.float Go.FloatKind.f64 0),nl] 6 y38).bind fun y39=>yT [.sc (kB 0),nl,.sc (kI 0),nl,.sc (kI 0),nl,.sc (kI 0),.sc (kI 0),nl,.sc (kI 0),.sc (kI 0),nl,.sc (kI 0),.sc (kW 0),.sc (kW 0),.sc (kW 0),.sc (kW 0),.sc (kW 0),.sc (kW 0),.sc (kW 0),.sc (Value.float Go.FloatKind.f64 0),.sc (Value.float Go.FloatKind.f64 0),nl] y39 hp) (iC .eql 39 17 y3 (kB 4) ((getC (List.map ro1 y0) 5).bind fun y42=>ln (ro1 y42) fun y43=>B15_27 nl (ro1 y42) (kI y43) (kI 0) (List.map ro1 y0) [.sc (kB 0),nl,.sc (kI 0),nl,.sc (kI 0),nl,.sc (kI 0),.sc (kI 0),nl,.sc (kI 0),.sc (kI 0),nl,.sc (kI 0),.sc (kW 0),.sc (kW 0),.sc (kW 0),.sc (kW 0),.sc (kW 0),.sc (kW 0),.sc (kW 0),.sc (Value.float Go.FloatKind.f64 0),.sc (Value.float Go.FloatKind.f64 0),nl] [.sc y2,nl,.sc (kI 0),nl,.sc (kI 0),nl,.sc (kI 0),.sc (kI 0),nl,.sc (kI 0),.sc (kI 0),nl,.sc (kI 0),.sc (kW 0),.sc (kW 0),.sc (kW 0),.sc (kW 0),.sc (kW 0),.sc (kW 0),.sc (kW 0),.sc (Value.float Go.FloatKind.f64 0),.sc (Value.float Go.FloatKind.f64 0),nl] hp) ((qe (List.map ro1 y0) 1).bind fun y44=>(getC (List.map ro1 y0) 6).bind fun y45=>pA 31 [.sc y44,ro1 y45] fun z4=>(qg 11 z4).bind fun y50=>(putN [.sc y2,nl,.sc (kI 0),nl,.sc (kI 0),nl,.sc (kI 0),.sc (kI 0),nl,.sc (kI 0),.sc (kI 0),nl,.sc (kI 0),.sc (kW 0),.sc (kW 0),.sc (kW 0),.sc (kW 0),.sc (kW 0),.sc (kW 0),.sc (kW 0),.sc (Value.float Go.FloatKind.f64 0),.sc (Value.float Go.FloatKind.f64 0),nl] 12 y50).bind fun y51=>yT [.sc (kB 0),nl,.sc (kI 0),nl,.sc (kI 0),nl,.sc (kI 0),.sc (kI 0),nl,.sc (kI 0),.sc (kI 0),nl,.sc (kI 0),.sc (kW 0),.sc (kW 0),.sc (kW 0),.sc (kW 0),.sc (kW 0),.sc (kW 0),.sc (kW 0),.sc (Value.float Go.FloatKind.f64 0),.sc (Value.float Go.FloatKind.f64 0),nl] y51 hp))))):=
 (eE 15 ss15 _ _).trans (by kernel_rfl)
theorem B15_7_eq(x4 x27:AV)(v28 v29:Value)(b1 b2 b3:List AV)(hp:Hp):B15_7 x4 x27 v28 v29 b1 b2 b3 hp=iT .lss 3 29 28 v29 v28 (ixS x27 v29 fun y55=>cV 76 30 y55 fun y56=>ap 4 x4 y56 fun y58=>(qe b1 4).bind fun y59=>iB y59 (bC .rem 76 40 y55 (kU 40) fun y61=>cV 76 30 y61 fun y62=>B15_12 y58 y55 x27 v28 v29 y62 (kW 0) b1 b2 b3 hp) (B15_16 y58 x27 v28 v29 b1 b2 b3 hp)) (pT 2 26 [ro x4,.sc (.bool false)] fun z1=>nS z1 1 fun y67=>(qg 1 (ro (nthA z1 0))).bind fun y68=>(putN b3 1 y68).bind fun y69=>yT b2 y69 hp):=
 (eB 15 ss15 _ _).trans (by kernel_rfl)
theorem B15_35_eq(b2 b3:List AV)(hp:Hp):yT b2 b3 hp=(getN b3 0 23).bind fun y70=>(putN b3 0 (List.map ro1 y70)).bind fun y71=>(qg 23 (.agg y70)).bind fun y72=>(putN b2 0 y72).bind fun y73=>(getN y73 0 23).bind fun y74=>rQ (.agg y74) hp:=
 (eB 15 ss15 _ _).trans (by kernel_rfl)
theorem B15_27_eq(x8 x93:AV)(v94 v95:Value)(b1 b2 b3:List AV)(hp:Hp):B15_27 x8 x93 v94 v95 b1 b2 b3 hp=iT .lss 3 95 94 v95 v94 (ixS x93 v95 fun y78=>bC .rem 76 100 y78 (kU 9) fun y79=>cV 76 30 y79 fun y80=>bC .rem 3 103 v95 (kI 5) fun y81=>iC .eql 3 104 y81 (kI 4) (bC .shr 76 106 y78 (kU 32) fun y84=>cV 76 30 y84 fun y85=>B15_32 x8 y78 y85 x93 v94 v95 b1 b2 b3 hp) (B15_32 x8 y78 y80 x93 v94 v95 b1 b2 b3 hp)) ((qe b1 1).bind fun y86=>(qe b1 2).bind fun y87=>pA 30 [.sc y86,.sc y87,ro x8] fun z1=>(qg 3 z1).bind fun y92=>(putN b3 9 y92).bind fun y93=>yT b2 y93 hp):=
 (eB 15 ss15 _ _).trans (by kernel_rfl)
theorem B15_12_eq(x4:AV)(v6:Value)(x27:AV)(v28 v29 v42 v43:Value)(b1 b2 b3:List AV)(hp:Hp):B15_12 x4 v6 x27 v28 v29 v42 v43 b1 b2 b3 hp=iT .lss 30 43 42 v43 v42 (bC .rem 76 47 v6 (kU 9000) fun y96=>cV 76 30 y96 fun y97=>bT .add 30 49 50 y97 v43 fun y98=>ap 4 x4 y98 fun y100=>bC .add 30 43 v43 (kW 1) fun y101=>B15_12 y100 v6 x27 v28 v29 v42 y101 b1 b2 b3 hp) (B15_16 x4 x27 v28 v29 b1 b2 b3 hp):=
 (eB 15 ss15 _ _).trans (by kernel_rfl)
theorem B15_16_eq(x4 x27:AV)(v28 v29:Value)(b1 b2 b3:List AV)(hp:Hp):B15_16 x4 x27 v28 v29 b1 b2 b3 hp=bC .add 3 29 v29 (kI 1) fun y102=>B15_7 x4 x27 v28 y102 b1 b2 b3 hp:=
 (eB 15 ss15 _ _).trans (by kernel_rfl)
theorem B15_32_eq(x8:AV)(v10 v11:Value)(x93:AV)(v94 v95:Value)(b1 b2 b3:List AV)(hp:Hp):B15_32 x8 v10 v11 x93 v94 v95 b1 b2 b3 hp=(okV [.sc v10,.sc v11]).bind fun y103=>(appA 16 2 x8 (AV.us 2 [.sc v10,.sc v11])).bind fun y104=>bC .add 3 95 v95 (kI 1) fun y105=>B15_27 y104 x93 v94 y105 b1 b2 b3 hp:=
 (eB 15 ss15 _ _).trans (by kernel_rfl)
end
structure Sm where
 kind:Int
 A:Int
 B:Int
 wide:Int
 few:Bool
 hs:List Int
 fl:List (Int×Int)
structure Sm.Ok (s:Sm):Prop where
 kind:0<=s.kind/\s.kind<256
 A:0<=s.A/\s.A<256
 B:0<=s.B/\s.B<256
 wide:0<=s.wide/\s.wide<65536
 hs:∀n∈s.hs,0<=n/\n<18446744073709551616
 fl:∀p∈s.fl,InI p
abbrev smA(s:Sm)(k k':Nat):AV:=.agg [.sc (.int .u8 s.kind),.sc (.int .u8 s.A),.sc (.int .u8 s.B),.sc (.int .u16 s.wide),.sc (.bool s.few),S k 1 (LI .u64 s.hs),S k' 2 (LP s.fl)]
def row(n:Int)(m:Nat):List Int:=(List.range m).map fun(k:Nat)=>n+(k:Int)
def jZ(few:Bool)(h:Int):List Int:=h%4294967296::(if few then row (h%9000) (h%40).toNat else [])
def ya(few:Bool)(hs:List Int):List Int:=hs.flatMap (jZ few)
def smc:Nat->List Int->List (Int×Int)
 |_,[]=>[]
 |i,h::r=>(h,if i%5=4 then h/4294967296 else h%9)::smc (i+1) r
noncomputable def xC(s:Sm):SkN:=
 if s.kind%6=0 then{skZ with kind:=0,set:=srt [] (ya s.few s.hs)}
 else if s.kind%6=1 then{skZ with kind:=1,K:=1+s.A%20,hs:=kmvs (1+s.A%20).toNat [] (s.hs.map (cut s.few))}
 else if s.kind%6=2 then{skZ with kind:=2,P:=4+s.A%5,rg:=hfold (4+s.A%5) (List.replicate (hpow (4+s.A%5)) 0) s.hs}
 else if s.kind%6=3 then{skZ with kind:=3,B:=1+s.wide%300,H:=1+s.A%8,bs:=blm (1+s.wide%300) (1+s.A%8) [] s.hs}
 else if s.kind%6=4 then{skZ with kind:=4,R:=1+s.A%8,C:=1+s.B%40,cs:=jz (1+s.A%8) (1+s.B%40) (List.replicate ((1+s.A%8)*(1+s.B%40)).toNat 0) (smc 0 s.hs)}
 else{skZ with kind:=5,gK:=1+s.A%16,g:=(gfold (1+s.A%16) gnew (s.fl.map wd)).nf}
theorem run_light(s:Sm)(k k':Nat)(hp:Hp):run cxX 14 [smA s k k'] hp=some (.sc (.bool (decide (s.hs.length<=40/\s.fl.length<=40))),hp):=by
 rw[E14]
 by_cases h:s.hs.length<=40
 ·have h':(s.hs.length:Int)<=40:=by omega
  have e:decide ((s.fl.length:Int)<=40)=decide (s.fl.length<=40):=decide_eq_decide.mpr (by omega)
  simp[getC,h,h',lenA_P,e]
 ·have h':¬((s.hs.length:Int)<=40):=by omega
  simp[getC,h,h']
theorem row_in{n:Int}{m:Nat}(hn:0<=n/\n<9000)(hm:m<=40):U32 (row n m):=by
 intro x hx
 simp only[row,List.mem_map,List.mem_range]at hx
 obtain⟨k,hk,rfl⟩:=hx
 omega
theorem smset1_in{few:Bool}{h:Int}(hh:0<=h):U32 (jZ few h):=by
 intro x hx
 rcases List.mem_cons.mp hx with rfl|hx
 ·omega
 ·cases few with
  |false=>simp at hx
  |true=>exact row_in (by omega) (by omega) x hx
theorem smset_in{few:Bool}{hs:List Int}(h:∀n∈hs,0<=n/\n<18446744073709551616):U32 (ya few hs):=by
 intro x hx
 obtain⟨y,hy,hx⟩:=List.mem_flatMap.mp hx
 exact smset1_in (h y hy).1 x hx
theorem smset1_len(few:Bool){h:Int}(hh:0<=h):(jZ few h).length<=40:=by
 unfold jZ
 cases few with
 |false=>simp
 |true=>
  simp only[if_true,List.length_cons,row,List.length_map,List.length_range]
  omega
theorem smset_len(few:Bool):∀{hs:List Int},(∀n∈hs,0<=n/\n<18446744073709551616)->(ya few hs).length<=40*hs.length
 |[],_=>by simp[ya]
 |x::hs,h=>by
  have ih:=smset_len few (hs:=hs) (fun n hn=>h n (by simp[hn]))
  have l1:=smset1_len few (h x (by simp)).1
  show((x::hs).flatMap (jZ few)).length<=_
  rw[List.flatMap_cons,List.length_append]
  simp only[List.length_cons]
  have:(List.flatMap (jZ few) hs).length<=40*hs.length:=ih
  omega
section
variable (b1 b2 b3 : List AV) (s : Sm) (k k' : Nat) (hp : Hp)
theorem sk_row(h:Int)(x27:AV)(v28 v29:Value)(hh:0<=h/\h<18446744073709551616)(m:Nat)(hm:m<=40):∀(j:Nat) (l:List Int) (i:Nat),i+j=m->l.length+j<=1000000->
  B15_12 (S 2 1 (LI .u32 l)) (.int .u64 h) x27 v28 v29 (.int .u32 m) (.int .u32 i) b1 b2 b3 hp=B15_16 (S 2 1 (LI .u32 (l++(List.range' i j).map fun(k:Nat)=>h%9000+(k:Int)))) x27 v28 v29 b1 b2 b3 hp:=by
 intro j
 induction j with
 |zero=>
  intro l i hi hl
  have hlt:¬((i:Int)<(m:Int)):=by omega
  rw[B15_12_eq]
  simp[hlt]
 | succ j ih=>
  intro l i hi hl
  have hlt:i<m:=by omega
  have r:∀t x y,binV Tryz.prog .rem t x y (.int .u64 h) (.int .u64 9000)=some (.int .u64 (h%9000)):=by
   intro t x y;rw[qO _ _ _ _ _ _ _ (by omega),qN hh.1]
  have w1:IntKind.u32.wrap (h%9000)=h%9000:=qv (by omega) (by omega)
  have w2:IntKind.u32.wrap (h%9000+(i:Int))=h%9000+(i:Int):=qv (by omega) (by omega)
  have w3:IntKind.u32.wrap ((i:Int)+1)=((i+1:Nat):Int):=by rw[qv]<;>omega
  have ap:=appI .u32 l 2 (.inr rfl) 4 (by decide) (h%9000+(i:Int)) (by omega)
  have g:=ih (l++[h%9000+(i:Int)]) (i+1) (by omega) (by simp;omega)
  rw[B15_12_eq,List.range'_succ]
  simp at g w3
  simp[hlt,r,w1,w2,ap,w3,g]
theorem sk_set(hs:∀n∈s.hs,0<=n/\n<18446744073709551616)(hl:s.hs.length<=40):∀(r:List Int) (i:Nat) (l:List Int),s.hs.drop i=r->l.length<=40*i->i<=s.hs.length->
  ∃t,∀b3',putN b3 1 [S t 1 (LI .u32 (srt [] (l++ya s.few r)))]=some b3'->B15_7 (S 2 1 (LI .u32 l)) (S k 1 (LI .u64 s.hs)) (.int .i64 s.hs.length) (.int .i64 i) [.sc (.int .u8 s.kind),.sc (.int .u8 s.A),.sc (.int .u8 s.B),.sc (.int .u16 s.wide),.sc (.bool s.few),S k 1 (LI .u64 s.hs),S k' 2 (LP s.fl)] b2 b3 hp=
   yT b2 b3' hp:=by
 intro r
 induction r with
 |nil=>
  intro i l hr hll hil
  have:=qt hr
  have hlt:¬((i:Int)<(s.hs.length:Int)):=by omega
  obtain⟨t,o⟩:=run_of11 l 3 (by omega) hp0
  refine⟨rk t,fun b3' hb=>?_⟩
  rw[B15_7_eq]
  simp[ya]at hb
  simp[hlt,o,hb]
 | cons x r ih=>
  intro i l hr hll hil
  obtain⟨e1,e2,hi,e3⟩:=ql hr
  have hx:=hs x (List.mem_of_getElem? e1)
  have hw:IntKind.i64.wrap ((i:Int)+1)=((i+1:Nat):Int):=by rw[qf]<;>omega
  have w1:IntKind.u32.wrap x=x%4294967296:=by rw[IntKind.wrap_u32]
  have ap:=appI .u32 l 2 (.inr rfl) 4 (by decide) (x%4294967296) (by omega)
  have l1:=smset1_len s.few hx.1
  obtain⟨t,g⟩:=ih (i+1) (l++jZ s.few x) e2 (by rw[List.length_append];omega) (by omega)
  refine⟨t,fun b3' hb=>?_⟩
  have es:ya s.few (x::r)=jZ s.few x++ya s.few r:=rfl
  rw[es,<-List.append_assoc]at hb
  have g:=g b3' hb
  have g16:B15_16 (S 2 1 (LI .u32 (l++jZ s.few x))) (S k 1 (LI .u64 s.hs)) (.int .i64 s.hs.length) (.int .i64 i) [.sc (.int .u8 s.kind),.sc (.int .u8 s.A),.sc (.int .u8 s.B),.sc (.int .u16 s.wide),.sc (.bool s.few),S k 1 (LI .u64 s.hs),S k' 2 (LP s.fl)] b2 b3 hp=yT b2 b3' hp:=by
   rw[B15_16_eq]
   simp at hw g
   simp[hw,g]
  rw[B15_7_eq]
  cases hf:s.few with
  |false=>
   rw[hf]at g16
   simp[jZ]at g16
   simp[hi,e3,qe,w1,ap,g16]
  | true=>
   rw[hf]at g16
   have r40:∀t a b,binV Tryz.prog .rem t a b (.int .u64 x) (.int .u64 40)=some (.int .u64 (x%40)):=by
    intro t a b;rw[qO _ _ _ _ _ _ _ (by omega),qN hx.1]
   have w2:IntKind.u32.wrap (x%40)=x%40:=qv (by omega) (by omega)
   have rw1:=sk_row [.sc (.int .u8 s.kind),.sc (.int .u8 s.A),.sc (.int .u8 s.B),.sc (.int .u16 s.wide),.sc (.bool true),S k 1 (LI .u64 s.hs),S k' 2 (LP s.fl)] b2 b3 hp x (S k 1 (LI .u64 s.hs)) (.int .i64 s.hs.length) (.int .i64 i) hx (x%40).toNat (by omega) (x%40).toNat (l++[x%4294967296]) 0 (by omega) (by simp;omega)
   have e40:(((x%40).toNat:Nat):Int)=x%40:=by omega
   rw[e40]at rw1
   have er:(l++[x%4294967296])++(List.range' 0 (x%40).toNat).map (fun(k:Nat)=>x%9000+(k:Int))=l++jZ true x:=by
    simp[jZ,row,List.range_eq_range']
   rw[er,g16]at rw1
   simp at rw1
   simp[hi,e3,qe,w1,ap,r40,w2,rw1]
theorem sk_cms(hs:∀n∈s.hs,0<=n/\n<18446744073709551616)(hA:0<=s.A/\s.A<256)(hB:0<=s.B/\s.B<256)(hl:s.hs.length<=40):∀(r:List Int) (i:Nat) (l:List (Int×Int)),s.hs.drop i=r->l.length<=i->i<=s.hs.length->(∀p∈l,0<=p.2/\p.2<4294967296)->
    ∃ t,∀b3',putN b3 9 [.sc (.int .i64 (1+s.A%8)),.sc (.int .i64 (1+s.B%40)),S t 1 (LI .u32 (jz (1+s.A%8) (1+s.B%40) (List.replicate ((1+s.A%8)*(1+s.B%40)).toNat 0) (l++smc i r)))]=some b3'->
      B15_27 (S 2 2 (LQ .u64 .u32 l)) (S k 1 (LI .u64 s.hs)) (.int .i64 s.hs.length) (.int .i64 i) [.sc (.int .u8 s.kind),.sc (.int .u8 s.A),.sc (.int .u8 s.B),.sc (.int .u16 s.wide),.sc (.bool s.few),S k 1 (LI .u64 s.hs),S k' 2 (LP s.fl)] b2 b3 hp=yT b2 b3' hp:=by
  intro r
  induction r with
  | nil=>
    intro i l hr hll hil hp2
    have:=qt hr
    have hlt:¬((i:Int)<(s.hs.length:Int)):=by omega
    obtain⟨t,hpc,o⟩:=run_cms s.A s.B l 3 hA hB (by omega) hp2 hp0
    refine⟨t,fun b3' hb=>?_⟩
    rw[B15_27_eq]
    simp[smc]at hb
    simp[hlt,qe,o,hb]
  | cons x r ih=>
    intro i l hr hll hil hp2
    obtain⟨e1,e2,hi,e3⟩:=ql hr
    have hx:=hs x (List.mem_of_getElem? e1)
    have hw:IntKind.i64.wrap ((i:Int)+1)=((i+1:Nat):Int):=by rw[qf]<;>omega
    have r9:∀t a b,binV Tryz.prog .rem t a b (.int .u64 x) (.int .u64 9)=some (.int .u64 (x%9)):=by
      intro t a b;rw[qO _ _ _ _ _ _ _ (by omega),qN hx.1]
    have r5:∀t a b,binV Tryz.prog .rem t a b (.int .i64 (i:Int)) (.int .i64 5)=some (.int .i64 ((i:Int)%5)):=by
      intro t a b;rw[qO _ _ _ _ _ _ _ (by omega),qN (by omega)]
    have w9:IntKind.u32.wrap (x%9)=x%9:=qv (by omega) (by omega)
    have s32:∀t a b,binV Tryz.prog .shr t a b (.int .u64 x) (.int .u64 32)=some (.int .u64 (x/4294967296)):=by
      intro t a b
      rw[zJ _ _ _ _ _ _ _ _ (by omega)]
      have e:(2:Int)^(min (32:Int).toNat IntKind.u64.bits)=4294967296:=by decide
      rw[e,Int.fdiv_eq_ediv_of_nonneg _ (by decide)]
    have w32:IntKind.u32.wrap (x/4294967296)=x/4294967296:=qv (by omega) (by omega)
    have ex:smc i (x::r)=(x,if i%5=4 then x/4294967296 else x%9)::smc (i+1) r:=rfl
    have ap:=fun n=>appA_Q .u64 .u32 2 (.inr rfl) l x n (by omega)
    by_cases h4:i%5=4
    · have h4':(i:Int)%5=4:=by omega
      rw[if_pos h4]at ex
      obtain⟨t,g⟩:=ih (i+1) (l++[(x,x/4294967296)]) e2 (by simp;omega) (by omega) (fun p hp=>by
        rcases List.mem_append.mp hp with hp|hp
        ·exact hp2 p hp
        ·simp at hp;subst hp;dsimp;omega)
      refine⟨t,fun b3' hb=>?_⟩
      rw[ex]at hb
      have g:=g b3' (by simpa using hb)
      rw[B15_27_eq]
      simp at g hw
      simp[hi,e3,qe,r9,w9,r5,h4',s32,w32,B15_32_eq,ap,hw,g]
    · have h4':¬((i:Int)%5=4):=by omega
      rw[if_neg h4]at ex
      obtain⟨t,g⟩:=ih (i+1) (l++[(x,x%9)]) e2 (by simp;omega) (by omega) (fun p hp=>by
        rcases List.mem_append.mp hp with hp|hp
        ·exact hp2 p hp
        ·simp at hp;subst hp;dsimp;omega)
      refine⟨t,fun b3' hb=>?_⟩
      rw[ex]at hb
      have g:=g b3' (by simpa using hb)
      rw[B15_27_eq]
      simp at g hw
      simp[hi,e3,qe,r9,w9,r5,h4',B15_32_eq,ap,hw,g]
end
theorem gone_W{w:Nat}(hw:w<18446744073709551616):(gone w).W:=by
 have i01:∀(p:Prop) [Decidable p],qL (if p then 1 else 0):=by intro p _;split<;>exact⟨by decide,by decide⟩
 refine⟨⟨show(0:Int)<=1 by decide,show(1:Int)<4294967296 by decide⟩,i01 _,i01 _,i01 _,i01 _,i01 _,i01 _,?_,?_,?_,?_⟩
 ·show(if isN w then 9218868437227405312 else w)<18446744073709551616
  split<;>omega
 ·show(if isN w then 18442240474082181120 else w)<18446744073709551616
  split<;>omega
 ·intro x hx
  have:x=wk (kw w):=by simpa[gone]using hx
  subst this
  exact wk_lt _ (kw_lt w hw)
 ·simp[gone]
theorem gone_chk{w:Nat}{K:Int}(hw:w<18446744073709551616)(hK:1<=K/\K<=16):gchk K (gone w).nf=0:=by
 rw[gchk_ok]
 refine⟨hK,?_,?_,?_,?_⟩
 ·simp[Gs.nf,gone];omega
 ·simp[Gs.nf,gone]
 ·show kw (if isN w then 9218868437227405312 else w)≠nanK
  split
  ·decide
  ·rename_i h;exact fun e=>h ((kw_isN hw).mpr e)
 ·show kw (if isN w then 18442240474082181120 else w)≠nanK
  split
  ·decide
  ·rename_i h;exact fun e=>h ((kw_isN hw).mpr e)
theorem gnew_chk{K:Int}(hK:1<=K/\K<=16):gchk K gnew.nf=0:=by
 rw[gchk_ok]
 exact⟨hK,by simp[Gs.nf,gnew];omega,by simp[Gs.nf,gnew],by decide,by decide⟩
theorem gfold_fine{K:Int}(hK:1<=K/\K<=16):∀{r:List Nat} {g:Gs},Ws r->g.W->gchk K g.nf=0->(gfold K g r).W/\gchk K (gfold K g r).nf=0
 |[],g,_,hg,hc=>⟨hg,hc⟩
 |w::r,g,hr,hg,hc=>by
  have hw:=hr w (by simp)
  have h1:=gmg_W (K:=K) (by omega) hg (gone_W hw)
  have h2:gchk K (gmg K g (gone w)).nf=0:=by rw[gmg_nf];exact gchk_merge hc (gone_chk hw hK)
  exact gfold_fine hK (r:=r) (fun x hx=>hr x (by simp[hx])) h1 h2
theorem run_sketch(s:Sm)(k k':Nat)(ok:s.Ok)(hl:s.hs.length<=40)(hf:s.fl.length<=40)(hp:Hp):∃r,IsSk (xC s) r/\run cxX 15 [smA s k k'] hp=some (r,hp):=by
 have hk:=ok.kind
 have hA:=ok.A
 have hB:=ok.B
 have r6:∀t a b,binV Tryz.prog .rem t a b (.int .u8 s.kind) (.int .u8 6)=some (.int .u8 (s.kind%6)):=by
  intro t a b;rw[qO _ _ _ _ _ _ _ (by omega),qN hk.1]
 have fin:∀(x:SkN) (g:Gs) (a b c d e f:Nat),yT skZL (skL x g a b c d e f) hp=some (skA x g a b c d e f,hp):=by
  intro x g a b c d e f
  rw[B15_35_eq]
  unfold skL skZL skA
  simp[getN,putN]
 rw[E15]
 unfold xC
 by_cases h0:s.kind%6=0
 ·rw[if_pos h0]
  obtain⟨t,q⟩:=sk_set skZL skZL s (rk k) (rk k') hp ok.hs hl s.hs 0 [] rfl (by simp) (by simp)
  refine⟨_,qV (x:={skZ with kind:=0,set:=srt [] (ya s.few s.hs)}) gz_W rfl t 2 2 2 2 2,?_⟩
  have f:=fin {skZ with kind:=0,set:=srt [] (ya s.few s.hs)} gz t 2 2 2 2 2
  have q:=q (skL {skZ with kind:=0,set:=srt [] (ya s.few s.hs)} gz t 2 2 2 2 2) (by unfold skZL skL;simp[putN,skZ,gz,LF])
  unfold skL skZL at q f
  unfold skA at f⊢
  simp[skZ,gz,LF]at q f
  simp[qe,getC,r6,h0,q,f,skZ,gz,LF]
 ·rw [if_neg h0]
  by_cases h1:s.kind%6=1
  ·rw[if_pos h1]
   have q:=fun k hp=>run_kmv s.A s.few s.hs k hA (by omega) (fun n hn=>(ok.hs n hn).1) hp
   refine⟨_,qV (x:={skZ with kind:=1,K:=1+s.A%20,hs:=kmvs (1+s.A%20).toNat [] (s.hs.map (cut s.few))}) gz_W rfl 2 2 2 2 2 2,?_⟩
   have f:=fin {skZ with kind:=1,K:=1+s.A%20,hs:=kmvs (1+s.A%20).toNat [] (s.hs.map (cut s.few))} gz 2 2 2 2 2 2
   unfold skL skZL at f
   unfold skA at f⊢
   simp[skZ,gz,LF]at f
   simp[qe,getC,putN,r6,h1,q,f,skZ,gz,LF]
  ·rw [if_neg h1]
   by_cases h2:s.kind%6=2
   ·rw[if_pos h2]
    obtain⟨t,q⟩:=run_hll s.A s.hs (rk k) hA (by omega) ok.hs hp0
    refine⟨_,qV (x:={skZ with kind:=2,P:=4+s.A%5,rg:=hfold (4+s.A%5) (List.replicate (hpow (4+s.A%5)) 0) s.hs}) gz_W rfl 2 2 t 2 2 2,?_⟩
    have f:=fin {skZ with kind:=2,P:=4+s.A%5,rg:=hfold (4+s.A%5) (List.replicate (hpow (4+s.A%5)) 0) s.hs} gz 2 2 t 2 2 2
    unfold skL skZL at f
    unfold skA at f⊢
    simp[skZ,gz,LF]at f
    simp[qe,getC,putN,r6,h2,q,f,skZ,gz,LF]
   ·rw[if_neg h2]
    by_cases h3:s.kind%6=3
    ·rw[if_pos h3]
     have q:=fun k hp=>run_bloom s.wide s.A k s.hs ok.wide hA (by omega) hp
     refine⟨_,qV (x:={skZ with kind:=3,B:=1+s.wide%300,H:=1+s.A%8,bs:=blm (1+s.wide%300) (1+s.A%8) [] s.hs}) gz_W rfl 2 2 2 2 2 2,?_⟩
     have f:=fin {skZ with kind:=3,B:=1+s.wide%300,H:=1+s.A%8,bs:=blm (1+s.wide%300) (1+s.A%8) [] s.hs} gz 2 2 2 2 2 2
     unfold skL skZL at f
     unfold skA at f⊢
     simp[skZ,gz,LF]at f
     simp[qe,getC,putN,r6,h3,q,f,skZ,gz,LF]
    ·rw[if_neg h3]
     by_cases h4:s.kind%6=4
     ·rw[if_pos h4]
      obtain⟨t,q⟩:=sk_cms skZL ((AV.sc (.int .u8 4))::skZL.tail) s (rk k) (rk k') hp ok.hs hA hB hl s.hs 0 [] rfl (by simp) (by simp) (by simp)
      refine⟨_,qV (x:={skZ with kind:=4,R:=1+s.A%8,C:=1+s.B%40,cs:=jz (1+s.A%8) (1+s.B%40) (List.replicate ((1+s.A%8)*(1+s.B%40)).toNat 0) (smc 0 s.hs)}) gz_W rfl 2 2 2 2 t 2,?_⟩
      have f:=fin {skZ with kind:=4,R:=1+s.A%8,C:=1+s.B%40,cs:=jz (1+s.A%8) (1+s.B%40) (List.replicate ((1+s.A%8)*(1+s.B%40)).toNat 0) (smc 0 s.hs)} gz 2 2 2 2 t 2
      have q:=q (skL {skZ with kind:=4,R:=1+s.A%8,C:=1+s.B%40,cs:=jz (1+s.A%8) (1+s.B%40) (List.replicate ((1+s.A%8)*(1+s.B%40)).toNat 0) (smc 0 s.hs)} gz 2 2 2 2 t 2) (by unfold skZL skL;simp[putN,skZ,gz,LF])
      unfold skL skZL at q f
      unfold skA at f⊢
      have nq:S 2 2 (LQ .u64 .u32 [])=S 2 1 []:=rfl
      rw[nq]at q
      simp[skZ,gz,LF]at q f
      simp[qe,getC,r6,h4,q,f,skZ,gz,LF]
     ·rw[if_neg h4]
      have h5:s.kind%6=5:=by omega
      obtain⟨gw,gc⟩:=gfold_fine (K:=1+s.A%16) (by omega) (ws_wd ok.fl) gnew_W (gnew_chk (by omega))
      have q:=fun k hp=>run_gauge s.A k s.fl hA (by omega) ok.fl hp
      refine⟨_,qV (x:={skZ with kind:=5,gK:=1+s.A%16,g:=(gfold (1+s.A%16) gnew (s.fl.map wd)).nf}) gw rfl 2 2 2 2 2 2,?_⟩
      have f:=fin {skZ with kind:=5,gK:=1+s.A%16,g:=(gfold (1+s.A%16) gnew (s.fl.map wd)).nf} (gfold (1+s.A%16) gnew (s.fl.map wd)) 2 2 2 2 2 2
      unfold skL skZL at f
      unfold skA at f⊢
      simp[skZ]at f
      simp[qe,getC,putN,r6,h5,q,f,skZ]
theorem srt_len:∀(r acc:List Int),(srt acc r).length<=acc.length+r.length
 |[],acc=>by simp[srt]
 |x::r,acc=>by
  have h:=srt_len r (mrg acc [x])
  have l:=len_mrg acc [x]
  show(srt (mrg acc [x]) r).length<=_
  simp at l⊢
  omega
theorem hadd_le{P h:Int}{l:List Int}(hP:4<=P/\P<=8)(hl:∀n∈l,n<=65-P):∀n∈hadd P l h,n<=65-P:=by
 unfold hadd
 split
 ·rename_i hi
  intro n hn
  rcases List.mem_or_eq_of_mem_set hn with hn|rfl
  ·exact hl n hn
  ·have h1:=hrow_in (h:=h) hP
   have h2:=hl l[hplc P h] (List.getElem_mem hi)
   have e:l.getD (hplc P h) 0=l[hplc P h]:=by simp[hi]
   rw[e];omega
 ·exact hl
theorem hfold_ok{P:Int}(hP:4<=P/\P<=8):∀{l a:List Int},(∀n∈a,0<=n/\n<=65-P)->∀n∈hfold P a l,0<=n/\n<=65-P
 |[],a,h=>h
 |x::l,a,h=>by
  have h1:∀n∈hadd P a (hsh x),0<=n/\n<=65-P:=fun n hn=>⟨(hadd_u8 hP (fun m hm=>by have:=h m hm;omega) n hn).1,hadd_le hP (fun m hm=>(h m hm).2) n hn⟩
  exact hfold_ok hP (l:=l) h1
theorem sketchN_fine(s:Sm)(ok:s.Ok)(hl:s.hs.length<=40)(hf:s.fl.length<=40):Fine (xC s):=by
 have z:=skZ_W
 have hA:=ok.A
 have hB:=ok.B
 have hw:=ok.wide
 have hk:=ok.kind
 unfold xC
 by_cases h0:s.kind%6=0
 ·rw[if_pos h0]
  have r:=srt_rise (ya s.few s.hs) (acc:=[]) List.Pairwise.nil
  have l:=srt_len (ya s.few s.hs) []
  have l2:=smset_len s.few ok.hs
  simp at l
  have u:U32 (srt [] (ya s.few s.hs)):=fun n hn=>by
   have:=(mem_srt n _ _).mp hn
   simp at this
   exact smset_in ok.hs n this
  refine⟨⟨by show(0:Int)<=0/\(0:Int)<256;omega,u,by show(srt [] (ya s.few s.hs)).length<=_;omega,z.hsL,z.rg,z.rgL,z.bs,z.bsL,z.cs,z.csL⟩,?_,gz_pos⟩
  rw[qM]
  exact⟨by show(0:Int)<6;omega,rfl,schk_ok.mpr ⟨by show(srt [] (ya s.few s.hs)).length<=_;omega,r⟩⟩
 ·rw [if_neg h0]
  by_cases h1:s.kind%6=1
  ·rw[if_pos h1]
   have l:=kmvs_len (1+s.A%20).toNat (s.hs.map (cut s.few))
   refine⟨⟨by show(0:Int)<=1/\(1:Int)<256;omega,z.set,z.setL,by show(kmvs (1+s.A%20).toNat [] (s.hs.map (cut s.few))).length<=_;omega,z.rg,z.rgL,z.bs,z.bsL,z.cs,z.csL⟩,?_,gz_pos⟩
   rw[qM]
   exact⟨by show(1:Int)<6;omega,rfl,kchk_ok.mpr ⟨by show 1<=1+s.A%20/\1+s.A%20<=1024;omega,by show((kmvs (1+s.A%20).toNat [] (s.hs.map (cut s.few))).length:Int)<=1+s.A%20;omega,kmvs_rise _ _⟩⟩
  ·rw [if_neg h1]
   by_cases h2:s.kind%6=2
   ·rw[if_pos h2]
    have hP:4<=4+s.A%5/\4+s.A%5<=8:=by omega
    have o:=hfold_ok hP (l:=s.hs) (a:=List.replicate (hpow (4+s.A%5)) 0) (fun n hn=>by have:=List.eq_of_mem_replicate hn;omega)
    have l:=hfold_len (4+s.A%5) s.hs (List.replicate (hpow (4+s.A%5)) 0)
    rw[List.length_replicate]at l
    have hple:=hpow_le hP.2
    refine⟨⟨by show(0:Int)<=2/\(2:Int)<256;omega,z.set,z.setL,z.hsL,fun n hn=>by have:=o n hn;omega,by show(hfold (4+s.A%5) (List.replicate (hpow (4+s.A%5)) 0) s.hs).length<=_;omega,z.bs,z.bsL,z.cs,z.csL⟩,?_,gz_pos⟩
    rw[qM]
    exact⟨by show(2:Int)<6;omega,rfl,hchk_ok.mpr ⟨hP,l,fun n hn=>(o n hn).2⟩⟩
   ·rw [if_neg h2]
    by_cases h3:s.kind%6=3
    ·rw[if_pos h3]
     have hB':1<=1+s.wide%300/\1+s.wide%300<=4096:=by omega
     have g:=blm_good (B:=1+s.wide%300) (H:=1+s.A%8) hB'.1 (r:=s.hs) (Good.nil _)
     have l:=g.len hB'.2
     refine⟨⟨by show(0:Int)<=3/\(3:Int)<256;omega,z.set,z.setL,z.hsL,z.rg,z.rgL,g.in32 hB'.2,by show(blm (1+s.wide%300) (1+s.A%8) [] s.hs).length<=_;omega,z.cs,z.csL⟩,?_,gz_pos⟩
     rw[qM]
     exact⟨by show(3:Int)<6;omega,rfl,chk_good hB' (by show 1<=1+s.A%8/\1+s.A%8<=8;omega) g⟩
    ·rw [if_neg h3]
     by_cases h4:s.kind%6=4
     ·rw [if_pos h4]
      have hR:1<=1+s.A%8/\1+s.A%8<=8:=by omega
      have hC:1<=1+s.B%40/\1+s.B%40<=256:=by omega
      have m:=cmul hR hC
      have l:=cfold_len (1+s.A%8) (1+s.B%40) (smc 0 s.hs) (List.replicate ((1+s.A%8)*(1+s.B%40)).toNat 0)
      rw[List.length_replicate]at l
      have p2:∀(r:List Int) (i:Nat),(∀n∈r,0<=n/\n<18446744073709551616)->∀p∈smc i r,0<=p.2/\p.2<4294967296:=by
       intro r
       induction r with
       |nil=>intro i _ p hp;simp[smc]at hp
       | cons x r ih=>
        intro i hr p hp
        have hx:=hr x (by simp)
        rcases List.mem_cons.mp hp with rfl|hp
        ·dsimp
         split<;>omega
        ·exact ih (i+1) (fun n hn=>hr n (by simp[hn])) p hp
      have u:=cfold_u32 (1+s.A%8) (1+s.B%40) (l:=smc 0 s.hs) (a:=List.replicate ((1+s.A%8)*(1+s.B%40)).toNat 0) (fun n hn=>by have:=List.eq_of_mem_replicate hn;omega) (p2 s.hs 0 ok.hs)
      refine⟨⟨by show(0:Int)<=4/\(4:Int)<256;omega,z.set,z.setL,z.hsL,z.rg,z.rgL,z.bs,z.bsL,u,by show(jz (1+s.A%8) (1+s.B%40) (List.replicate ((1+s.A%8)*(1+s.B%40)).toNat 0) (smc 0 s.hs)).length<=_;omega⟩,?_,gz_pos⟩
      rw[qM]
      exact⟨by show(4:Int)<6;omega,rfl,cchk_ok.mpr ⟨hR,hC,by show((jz (1+s.A%8) (1+s.B%40) (List.replicate ((1+s.A%8)*(1+s.B%40)).toNat 0) (smc 0 s.hs)).length:Int)=(1+s.A%8)*(1+s.B%40);omega⟩⟩
     ·rw[if_neg h4]
      obtain⟨gw,gc⟩:=gfold_fine (K:=1+s.A%16) (by omega) (ws_wd ok.fl) gnew_W (gnew_chk (by omega))
      refine⟨⟨by show(0:Int)<=5/\(5:Int)<256;omega,z.set,z.setL,z.hsL,z.rg,z.rgL,z.bs,z.bsL,z.cs,z.csL⟩,?_,gw.pos⟩
      rw[qM]
      exact⟨by show(5:Int)<6;omega,rfl,gc⟩
def Sm.none(s:Sm):Sm:={s with hs:=[],fl:=[]}
theorem Sm.Ok.none{s:Sm}(h:s.Ok):s.none.Ok:=⟨h.kind,h.A,h.B,h.wide,by simp[Sm.none],by simp[Sm.none]⟩
theorem putN_full(Z L:List AV)(h:Z.length=L.length):putN Z 0 L=some L:=by
 unfold putN
 rw[if_pos (by omega)]
 simp[h]
theorem getN_full(L:List AV)(n:Nat)(h:L.length=n):getN L 0 n=some L:=by
 subst h;exact getN_all L
theorem getSc_map(L:List AV)(i:Nat):qe (L.map ro1) i=qe L i:=by
 unfold qe
 rw[List.getElem?_map]
 cases L[i]? with
 |none=>rfl
 |some x=>cases x<;>rfl
structure Cl (x:SkN) (L:List AV):Prop where
 sk:IsSk x (.agg L)
 len:L.length=23
 vl:L.all vl=true
 ro:L.map ro1=L
 k0:qe L 0=some (.int .u8 x.kind)
theorem IsSk.cl{x:SkN}{r:AV}(h:IsSk x r):∃L,r= .agg L/\L.length=23/\L.all AI.vl=true/\Cl x (L.map ro1):=by
 obtain⟨g,a,b,c,d,e,f,gw,gn,rfl⟩:=h
 refine⟨_,rfl,rfl,by simp,⟨⟨g,rk a,rk b,rk c,rk d,rk e,rk f,gw,gn,by simp[skA]⟩,by simp,by simp,by simp,by simp[qe]⟩⟩
def By(l:List Int):Prop:=∀x∈l,0<=x/\x<256
theorem By.app{a b:List Int}(h:By a)(g:By b):By (a++b):=fun x hx=>(List.mem_append.mp hx).elim (h x) (g x)
theorem By.cons{a:Int}{b:List Int}(h:0<=a/\a<256)(g:By b):By (a::b):=fun x hx=>(List.mem_cons.mp hx).elim (fun e=>by rw[e];exact h) (g x)
theorem By.nil:By []:=fun x hx=>by cases hx
theorem By.uv(n:Nat):By (uv n):=uv_in n
theorem By.pk(l:List Bool):By (pk l):=fun x hx=>pk_rng hx
theorem sh_by{s:En}(h:By s.out):By (sh s).out:=by
 unfold sh
 split
 ·refine By.app (By.app h ?_) fun x hx=>?_
  ·split
   ·exact By.cons (by omega) By.nil
   ·exact By.nil
  ·rw[List.eq_of_mem_replicate hx];omega
 ·exact h
theorem norm_by:∀(f:Nat) {s:En},By s.out->By (norm f s).out:=by
 intro f
 induction f with
 |zero=>intro s h;exact h
 |succ f ih=>
  intro s h
  unfold norm
  split
  ·exact ih (sh_by h)
  ·exact h
theorem enc_by:∀(l cs:List Nat) {s:En},By s.out->By (enc cs s l).out:=by
 intro l
 induction l with
 |nil=>intro cs s h;exact h
 |cons x r ih=>intro cs s h;exact ih _ (norm_by 4 h)
theorem cod_by(l:List Nat):By (cod l):=sh_by (sh_by (sh_by (sh_by (sh_by (enc_by l cs0 By.nil)))))
theorem arr_by(m:Nat):∀f i,i+f<=256->By (arrF m f i):=by
 intro f
 induction f with
 |zero=>intro i _;exact By.nil
 |succ f ih=>
  intro i h
  unfold arrF
  split
  ·exact By.cons (by omega) (ih _ (by omega))
  ·exact ih _ (by omega)
theorem bmp_by(m:Nat):∀f i,By (bmpF m f i):=by
 intro f
 induction f with
 |zero=>intro i;exact By.nil
 |succ f ih=>intro i;exact By.cons (by omega) (ih _)
theorem rn_by(m:Nat):∀f i,By (rnF m f i):=by
 intro f
 induction f with
 |zero=>intro i;exact By.nil
 | succ f ih=>
  intro i
  unfold rnF
  split
  ·exact By.nil
  ·split
   ·have:=rend_ok m (255-i) i
    exact By.cons (by omega) (By.cons (by omega) (ih _))
   ·exact ih _
theorem roaY_by{cs:List (Nat×Nat)}:By (roaY cs):=by
 have h:∀cs:List (Nat×Nat),By (rowY cs):=by
  intro cs
  induction cs with
  |nil=>exact By.nil
  | cons c r ih=>
   have k:=kind_lt c.2
   have a:=yy c.2 256
   have b:=rcn_le c.2 256
   refine By.app (By.app (By.uv _) (By.cons (by omega) ?_)) ih
   unfold bodY
   split
   ·exact By.cons (by omega) (arr_by _ _ _ (by omega))
   ·split
    ·exact bmp_by _ _ _
    ·exact By.cons (by omega) (rn_by _ _ _)
 exact By.app (By.uv _) (h cs)
theorem pcnt_by(c:Int):∀(l:List Int) (i:Nat) (last:Int),By (pcnt c l i last):=by
 intro l
 induction l with
 |nil=>intro i last;exact By.nil
 |cons x r ih=>intro i last;exact By.app (By.uv _) (ih _ _)
theorem gdif_by:∀(l:List Nat) (p:Nat),By (gdif p l):=by
 intro l
 induction l with
 |nil=>intro p;exact By.nil
 |cons x r ih=>intro p;exact By.app (By.uv _) (ih _)
theorem putY_by{x:SkN}(f:Fine x)(h64:H64 x):By (putY x):=by
 have hk:=f.w.kind
 have kd:=(qM.mp f.c).1
 have six:x.kind=0\/x.kind=1\/x.kind=2\/x.kind=3\/x.kind=4\/x.kind=5:=by omega
 unfold putY
 rcases six with k|k|k|k|k|k
 ·rw[if_pos k];exact roaY_by
 ·rw[if_neg (by omega),if_pos k]
  obtain⟨s0,s1,s2,s3,s4⟩:=kmv_facts f k h64
  have p:=(parR_ok (gaps_lt s3)).1
  exact By.app (By.uv _) (By.app (By.app (By.app (By.uv _) (By.cons (by omega) By.nil)) (By.uv _)) (By.pk _))
 ·rw[if_neg (by omega),if_neg (by omega),if_pos k]
  have s:=hll_facts f k
  exact By.cons (by omega) (cod_by _)
 ·rw[if_neg (by omega),if_neg (by omega),if_neg (by omega),if_pos k]
  have s:=blo_facts f k
  exact By.app (By.app (By.uv _) (By.cons (by omega) By.nil)) (By.app (By.app (By.app (By.app (By.uv _) (By.uv _)) (By.pk _)) (By.uv _)) (By.pk _))
 ·rw[if_neg (by omega),if_neg (by omega),if_neg (by omega),if_neg (by omega),if_pos k]
  have s:=cms_facts f k
  exact By.app (By.app (By.cons (by omega) By.nil) (By.uv _)) (pcnt_by _ _ _ _)
 ·rw[if_neg (by omega),if_neg (by omega),if_neg (by omega),if_neg (by omega),if_neg (by omega)]
  have s:=gau_facts f k
  unfold gauY
  exact By.app (By.app (By.app (By.app (By.app (By.app (By.app (By.app (By.app (By.app (By.app (By.cons (by omega) By.nil) (By.uv _)) (By.uv _)) (By.uv _)) (By.uv _)) (By.uv _)) (By.uv _)) (By.uv _)) (By.uv _)) (By.uv _)) (By.cons (by omega) By.nil)) (gdif_by _ _)
theorem sketchN_h64(s:Sm)(ok:s.Ok):H64 (xC s):=by
 intro n hn
 unfold xC at hn
 by_cases h0:s.kind%6=0
 ·rw[if_pos h0]at hn;cases hn
 ·rw[if_neg h0]at hn
  by_cases h1:s.kind%6=1
  ·rw[if_pos h1]at hn
   obtain⟨m,hm,rfl⟩:=List.mem_map.mp (mem_kmvs hn)
   have:=ok.hs m hm
   unfold cut
   split<;>omega
  ·rw[if_neg h1]at hn
   split at hn
   ·cases hn
   ·split at hn
    ·cases hn
    ·split at hn<;>cases hn
abbrev Rb(k:Nat)(l:List Int)(p:Nat)(s:Bool):List AV:=[S k 1 (LI .u8 l),.sc (.int .i64 (p:Int)),.sc (.bool s)]
def rb(l:List Int)(p:Nat)(s:Bool):Bool×Nat×Bool:=if s=true\/8*l.length<=p then(false,p,true)else(zZ l p,p+1,false)
def rt(l:List Int):Nat->Nat->Nat->Bool->Nat×Nat×Bool
 |0,n,p,s=>(if s then 0 else n,p,s)
 |k+1,n,p,s=>rt l k (2*n+(rb l p s).1.toNat) (rb l p s).2.1 (rb l p s).2.2
def ru(l:List Int)(most:Nat):Nat->Nat->Nat->Bool->Nat×Nat×Bool
 |0,n,p,s=>(0,p,true)
 |f+1,n,p,s=>if(rb l p s).1 then ru l most f (n+1) (rb l p s).2.1 ((rb l p s).2.2||decide (most<n+1))else(if(rb l p s).2.2 then 0 else n,(rb l p s).2.1,(rb l p s).2.2)
def rU1(l:List Int)(most p:Nat)(s:Bool):Nat×Nat×Bool:=ru l most (8*l.length+2) 0 p s
def rbend(l:List Int)(p:Nat)(s:Bool):Int:=if s then 3 else if p+8<=8*l.length then 15 else if(List.range (8*l.length-p)).any (fun i=>zZ l (p+i))then 15 else 0
theorem rb_p(l:List Int)(p:Nat)(s:Bool)(h:p<=8*l.length):(rb l p s).2.1<=8*l.length:=by
 unfold rb
 by_cases h1:s=true\/8*l.length<=p
 ·rw[if_pos h1];exact h
 ·rw[if_neg h1];simp at h1⊢;omega
theorem bit8(l:List Int)(p:Nat)(h8:∀c∈l,0<=c/\c<256)(hp:p<8*l.length):
  ∃z:Int,(∀t x y,binV Tryz.prog .shr t x y (.int .u8 (l.getD (p/8) 0)) (.int .i64 ((7-p%8:Nat):Int))=some (.int .u8 z))/\(∀t x y,binV Tryz.prog .and t x y (.int .u8 z) (.int .u8 1)=some (.int .u8 ((zZ l p).toNat:Nat))):=by
 obtain⟨c,hc⟩:∃c,l.getD (p/8) 0=c:=⟨_,rfl⟩
 have hm:c∈l:=by
  rw[<-hc,List.getD_eq_getElem?_getD,List.getElem?_eq_getElem (by omega)]
  exact List.getElem_mem _
 obtain⟨c1,c2⟩:=h8 c hm
 obtain⟨n,rfl⟩:∃n:Nat,c=n:=⟨c.toNat,by omega⟩
 unfold zZ
 rw[hc]
 refine⟨_,fun t x y=>zJ _ _ _ _ _ _ _ _ (by omega),fun t x y=>?_⟩
 rw[qE]
 have h:7-p%8<8:=by omega
 generalize 7-p%8=r at*
 have e1:min (r:Int).toNat IntKind.u8.bits=r:=by
  show min (r:Int).toNat 8=r
  omega
 have e2:(n:Int).fdiv (2^r)=((n/2^r:Nat):Int):=by
  rw[Int.fdiv_eq_ediv_of_nonneg _ (Int.le_of_lt (Int.pow_pos (by omega)))]
  simp
 have e3:(BitVec.ofInt IntKind.u8.bits ((n/2^r:Nat):Int)&&&BitVec.ofInt IntKind.u8.bits 1).toNat=n/2^r%2:=by
  have hlt:n/2^r<256:=Nat.lt_of_le_of_lt (Nat.div_le_self _ _) (by omega)
  generalize n/2^r=q at*
  show(BitVec.ofInt 8 (q:Int)&&&BitVec.ofInt 8 1).toNat=q%2
  have e:BitVec.ofInt 8 1=1#8:=rfl
  rw[BitVec.ofInt_natCast,e,BitVec.toNat_and,BitVec.toNat_ofNat,Nat.mod_eq_of_lt hlt]
  exact Nat.and_one_is_mod q
 rw[e1,e2,e3,Int.toNat_natCast,Nat.testBit_eq_decide_div_mod_eq]
 have:n/2^r%2=0\/n/2^r%2=1:=by omega
 rcases this with e|e<;>rw[e]<;>rfl
theorem run_bread(k:Nat)(l:List Int)(hp:Hp):run cxX 147 [S k 1 (LI .u8 l)] hp=some (.ptr hp.next 0 0,hp.new (Rb (rk k) l 0 false)):=by
 rw[E147]
 simp[putN]
 rfl
section
variable (b k : Nat) (l : List Int) (p : Nat) (s : Bool) (hp : Hp) (hl : l.length ≤ 100000000)
theorem yu(h:hp.rd b 0=some (Rb k l p s)):run cxX 151 [.ptr b 0 0] hp=some (.sc (.bool s),hp):=by
 rw[E151]
 simp[h,qe]
theorem run_bstop(h:hp.rd b 0=some (Rb k l p s)):run cxX 177 [.ptr b 0 0] hp=some (.tup [],hp.put b 0 (Rb k l p true)):=by
 rw[E177]
 simp[h,putN]
theorem bit_two(h:hp.rd b 0=some (Rb k l p s)):B176_2 (.ptr b 0 0) hp=some (.sc (.int .i64 0),hp.put b 0 (Rb k l p true)):=by
 rw[B176_2_eq]
 simp[h,putN,B176_4_eq]
include hl
theorem run_bit(h8:∀c∈l,0<=c/\c<256)(hpl:p<=8*l.length)(h:hp.rd b 0=some (Rb k l p s)):
  run cxX 176 [.ptr b 0 0] hp=some (.sc (.int .i64 ((rb l p s).1.toNat:Nat)),hp.put b 0 (Rb k l (rb l p s).2.1 (rb l p s).2.2)):=by
 have t:=bit_two b k l p s hp h
 rw[E176]
 unfold rb
 by_cases hs:s=true
 ·subst hs
  simp[h,qe,t]
 ·have hs:s=false:=by simpa using hs
  subst hs
  have w1:IntKind.i64.wrap (8*(l.length:Int))=((8*l.length:Nat):Int):=by rw[qf]<;>omega
  by_cases h1:8*l.length<=p
  ·have hge:((8*l.length:Nat):Int)<=(p:Int):=by omega
   generalize hq:((8*l.length:Nat):Int)=q at*
   simp[h,qe,getC,w1,hge,t,h1]
  ·have hge:¬(((8*l.length:Nat):Int)<=(p:Int)):=by omega
   have q8:=quo8 p (by omega)
   obtain⟨z8,b8,b8'⟩:=bit8 l p h8 (by omega)
   have r8:=rem8 p
   have w4:IntKind.i64.wrap (7-((p%8:Nat):Int))=((7-p%8:Nat):Int):=by rw[qf]<;>omega
   have w2:IntKind.i64.wrap ((p:Int)+1)=((p+1:Nat):Int):=by rw[qf]<;>omega
   have w3:IntKind.i64.wrap (((zZ l p).toNat:Nat):Int)=(((zZ l p).toNat:Nat):Int):=by have:=b2n (zZ l p);rw[qf]<;>omega
   have ge:(LI .u8 l)[p/8]?=some (.sc (.int .u8 (l.getD (p/8) 0))):=by
    unfold LI
    rw[List.getElem?_map,List.getD_eq_getElem?_getD,List.getElem?_eq_getElem (by omega)]
    rfl
   have g0:(0:Int)<=((p/8:Nat):Int):=by omega
   have b5:B176_5 (.ptr b 0 0) hp=some (.sc (.int .i64 ((zZ l p).toNat:Nat)),hp.put b 0 (Rb k l (p+1) false)):=by
    rw[B176_5_eq]
    generalize hcc:l.getD (p/8) 0=c at*
    generalize hrr:((7-p%8:Nat):Int)=r at*
    have gs1:∀(x y:AV) (v:Value),qe [x,.sc v,y] 1=some v:=fun _ _ _=>rfl
    have gs0:∀(v:Value),qe [.sc v] 0=some v:=fun _=>rfl
    have gc0:∀(x:AV) (l:List AV),getC (x::l) 0=some x:=fun _ _=>rfl
    generalize hq8:((p/8:Nat):Int)=q1 at*
    have ge':(LI .u8 l)[q1.toNat]?=some (.sc (.int .u8 c)):=by rw[<-hq8,Int.toNat_natCast];exact ge
    generalize((p%8:Nat):Int)=q2 at*
    simp[h,getC,gs1,q8,g0,ge',gs0,r8,w4,b8,b8',w2,cv8,w3,putN,-qE]
    rfl
   generalize hq:((8*l.length:Nat):Int)=q at*
   simp[h,qe,getC,w1,hge,b5,h1]
theorem take_loop(h8:∀c∈l,0<=c/\c<256)(n0:Nat)(hn0:n0<=64):∀(m acc p:Nat) (s:Bool) (hp:Hp),m<=n0->acc<2^(n0-m)->p<=8*l.length->hp.rd b 0=some (Rb k l p s)->
    B150_3 (.ptr b 0 0) (.int .u64 (acc:Int)) (.int .i64 (n0:Int)) (.int .i64 ((n0-m:Nat):Int)) hp=some (.sc (.int .u64 ((rt l m acc p s).1:Nat)),hp.put b 0 (Rb k l (rt l m acc p s).2.1 (rt l m acc p s).2.2)):=by
  intro m
  induction m with
  | zero=>
    intro acc p s hp hm ha hpl h
    have sh:=yu b k l p s hp h
    rw[B150_3_eq]
    cases s
    ·simp[sh,rt,zd h]
    ·simp[sh,rt,zd h]
  | succ m ih=>
    intro acc p s hp hm ha hpl h
    have bt:=run_bit b k l p s hp hl h8 hpl h
    have hlt:((n0-(m+1):Nat):Int)<(n0:Int):=by omega
    have hb:=b2n (rb l p s).1
    have hpow:2^(n0-(m+1))<=2^63:=Nat.pow_le_pow_right (by decide) (by omega)
    have e63:(2:Nat)^63=9223372036854775808:=by decide
    have s1:∀t x y,binV Tryz.prog .shl t x y (.int .u64 (acc:Int)) (.int .u64 1)=some (.int .u64 ((acc*2^1:Nat):Int)):=by
      intro t x y
      rw[zn _ _ _ _ _ _ _ _ (by omega)]
      have e:(2:Int)^min (1:Int).toNat IntKind.u64.bits=2:=rfl
      rw[e,IntKind.wrap_u64]
      congr 2
      omega
    have w1:IntKind.u64.wrap (((rb l p s).1.toNat:Nat):Int)=(((rb l p s).1.toNat:Nat):Int):=qr (by omega) (by omega)
    have o1:∀t x y,binV Tryz.prog .or t x y (.int .u64 ((acc*2^1:Nat):Int)) (.int .u64 (((rb l p s).1.toNat:Nat):Int))=some (.int .u64 ((2*acc+(rb l p s).1.toNat:Nat):Int)):=by
      intro t x y
      rw[ze]
      generalize(rb l p s).1.toNat=q at*
      have e:(BitVec.ofInt IntKind.u64.bits ((acc*2^1:Nat):Int)|||BitVec.ofInt IntKind.u64.bits (q:Int)).toNat=2*acc+q:=by
        show(BitVec.ofInt 64 ((acc*2^1:Nat):Int)|||BitVec.ofInt 64 (q:Int)).toNat=_
        rw[BitVec.toNat_or,BitVec.toNat_ofInt,BitVec.toNat_ofInt]
        have e1:(((acc*2^1:Nat):Int)%((2^64:Nat):Int)).toNat=2^1*acc:=by omega
        have e2:((q:Int)%((2^64:Nat):Int)).toNat=q:=by omega
        rw[e1,e2,<-Nat.two_pow_add_eq_or_of_lt (by omega) acc]
      rw[e,qr (by omega) (by omega)]
    have w2:IntKind.i64.wrap (((n0-(m+1):Nat):Int)+1)=((n0-m:Nat):Int):=by rw[qf]<;>omega
    have hi:=ih (2*acc+(rb l p s).1.toNat) (rb l p s).2.1 (rb l p s).2.2 (hp.put b 0 (Rb k l (rb l p s).2.1 (rb l p s).2.2)) (by omega) (by
      have:n0-m=n0-(m+1)+1:=by omega
      rw[this,Nat.pow_succ];omega) (rb_p l p s hpl) (qh _ _ _)
    rw[qj]at hi
    rw[B150_3_eq]
    have e3:rt l (m+1) acc p s=rt l m (2*acc+(rb l p s).1.toNat) (rb l p s).2.1 (rb l p s).2.2:=rfl
    rw[e3]
    generalize rt l m (2*acc+(rb l p s).1.toNat) (rb l p s).2.1 (rb l p s).2.2=R at*
    generalize((2*acc+(rb l p s).1.toNat:Nat):Int)=A at*
    generalize(((rb l p s).1.toNat:Nat):Int)=bb at*
    generalize((acc*2^1:Nat):Int)=aa at*
    generalize((n0-(m+1):Nat):Int)=jj at*
    generalize((n0-m:Nat):Int)=kk at*
    simp[hlt,s1,bt,w1,o1,w2,hi,-ze]
theorem run_btake(h8:∀c∈l,0<=c/\c<256)(n0:Nat)(hn0:n0<=64)(hpl:p<=8*l.length)(h:hp.rd b 0=some (Rb k l p s)):
  run cxX 150 [.ptr b 0 0,.sc (.int .i64 (n0:Int))] hp=some (.sc (.int .u64 ((rt l n0 0 p s).1:Nat)),hp.put b 0 (Rb k l (rt l n0 0 p s).2.1 (rt l n0 0 p s).2.2)):=by
 have t:=take_loop b k l hl h8 n0 hn0 n0 0 p s hp (Nat.le_refl _) (Nat.two_pow_pos _) hpl h
 have m1:max (n0:Int) 0=(n0:Int):=by omega
 have m2:min (n0:Int) 64=(n0:Int):=by omega
 rw[E150]
 simp at t
 simp[m1,m2,t]
theorem unar_loop(h8:∀c∈l,0<=c/\c<256)(most:Nat)(hmost:most<1000000000000):∀(f n p:Nat) (s:Bool) (hp:Hp),n<=1000000000000->p<=8*l.length->(s=true/\1<=f)\/8*l.length+1<=f+p->n+f<=1000000000000->hp.rd b 0=some (Rb k l p s)->
  B149_2 (.ptr b 0 0) (.int .i64 (most:Int)) (.int .i64 (n:Int)) hp=some (.sc (.int .i64 ((ru l most f n p s).1:Nat)),hp.put b 0 (Rb k l (ru l most f n p s).2.1 (ru l most f n p s).2.2)):=by
 intro f
 induction f with
 |zero=>intro n p s hp hn hpl hf hnf h;omega
 | succ f ih=>
  intro n p s hp hn hpl hf hnf h
  have bt:=run_bit b k l p s hp hl h8 hpl h
  have hrp:=rb_p l p s hpl
  rw[B149_2_eq]
  unfold ru
  by_cases hb:(rb l p s).1=true
  ·have hb2:(rb l p s).2=(p+1,false):=by
    unfold rb at hb⊢
    by_cases h1:s=true\/8*l.length<=p
    ·rw[if_pos h1]at hb;cases hb
    ·rw[if_neg h1]
   have hs:s=false:=by
    cases s
    ·rfl
    ·exfalso;unfold rb at hb;rw[if_pos (.inl rfl)]at hb;cases hb
   have hlp:p<8*l.length:=by
    by_cases h1:8*l.length<=p
    ·exfalso;unfold rb at hb;rw[if_pos (.inr h1)]at hb;cases hb
    ·omega
   have hf':8*l.length+1<=f+1+p:=by
    rcases hf with⟨h,_⟩|h
    ·rw[hs]at h;cases h
    ·exact h
   rw[hb,hb2]at bt
   rw[hb,hb2]
   have w1:IntKind.i64.wrap ((n:Int)+1)=((n+1:Nat):Int):=by rw[qf]<;>omega
   have st:=run_bstop b k l (p+1) false (hp.put b 0 (Rb k l (p+1) false)) (qh _ _ _)
   rw[qj]at st
   by_cases hm:most<n+1
   ·have hg:((n+1:Nat):Int)>(most:Int):=by omega
    have hi:=ih (n+1) (p+1) true (hp.put b 0 (Rb k l (p+1) true)) (by omega) (by omega) (.inl ⟨rfl,by omega⟩) (by omega) (qh _ _ _)
    rw[qj]at hi
    have e:(false||decide (most<n+1))=true:=by simp[hm]
    simp only[e,if_true]
    generalize hq:ru l most f (n+1) (p+1) true=R at*
    have e2:((true.toNat:Nat):Int)=1:=rfl
    rw[e2]at bt
    generalize hq3:((n+1:Nat):Int)=n1 at*
    generalize hp.put b 0 (Rb k l (p+1) false)=hpa at*
    generalize hp.put b 0 (Rb k l (p+1) true)=hpb at*
    simp[bt,w1,hg,st,hi]
   ·have hg:¬(((n+1:Nat):Int)>(most:Int)):=by omega
    have hi:=ih (n+1) (p+1) false (hp.put b 0 (Rb k l (p+1) false)) (by omega) (by omega) (.inr (by omega)) (by omega) (qh _ _ _)
    rw[qj]at hi
    have e:(false||decide (most<n+1))=false:=by simp[hm]
    simp only[e,if_true]
    generalize hq:ru l most f (n+1) (p+1) false=R at*
    have e2:((true.toNat:Nat):Int)=1:=rfl
    rw[e2]at bt
    generalize hq3:((n+1:Nat):Int)=n1 at*
    generalize hp.put b 0 (Rb k l (p+1) false)=hpa at*
    have hg':¬((most:Int)<n1):=hg
    simp[bt,w1,hg',hi]
  ·have hb:(rb l p s).1=false:=by simpa using hb
   rw[hb]at bt
   rw[hb]
   have e2:((false.toNat:Nat):Int)=0:=rfl
   rw[e2]at bt
   have sh:=yu b k l (rb l p s).2.1 (rb l p s).2.2 (hp.put b 0 (Rb k l (rb l p s).2.1 (rb l p s).2.2)) (qh _ _ _)
   generalize hq1:(rb l p s).2.2=s2 at*
   generalize hq2:(rb l p s).2.1=p2 at*
   cases s2
   ·simp[bt,sh]
   ·simp[bt,sh]
theorem run_bunary(h8:∀c∈l,0<=c/\c<256)(most:Nat)(hmost:most<1000000000000)(hpl:p<=8*l.length)(h:hp.rd b 0=some (Rb k l p s)):
  run cxX 149 [.ptr b 0 0,.sc (.int .i64 (most:Int))] hp=some (.sc (.int .i64 ((rU1 l most p s).1:Nat)),hp.put b 0 (Rb k l (rU1 l most p s).2.1 (rU1 l most p s).2.2)):=by
 have t:=unar_loop b k l hl h8 most hmost (8*l.length+2) 0 p s hp (by omega) hpl (by omega) (by omega) h
 rw[E149]
 unfold rU1
 simp at t
 simp[t]
theorem bend_loop(h8:∀c∈l,0<=c/\c<256)(s:Bool)(hp:Hp)(h:hp.rd b 0=some (Rb k l p s)):∀(m q:Nat),q+m=8*l.length->
  B152_8 (.ptr b 0 0) (.int .i64 (q:Int)) hp=some (.sc (.int .i64 (if(List.range m).any (fun i=>zZ l (q+i))then 15 else 0)),hp):=by
 intro m
 have w1:IntKind.i64.wrap (8*(l.length:Int))=((8*l.length:Nat):Int):=by rw[qf]<;>omega
 have gc0:∀(x:AV) (l:List AV),getC (x::l) 0=some x:=fun _ _=>rfl
 have gs0:∀(v:Value),qe [.sc v] 0=some v:=fun _=>rfl
 induction m with
 |zero=>
  intro q hq
  have hlt:¬((q:Int)<((8*l.length:Nat):Int)):=by omega
  rw[B152_8_eq]
  generalize((8*l.length:Nat):Int)=z at*
  simp[h,gc0,w1,hlt]
 | succ m ih=>
  intro q hq
  have hlt:(q:Int)<((8*l.length:Nat):Int):=by omega
  have q8:=quo8 q (by omega)
  obtain⟨z8,b8,b8'⟩:=bit8 l q h8 (by omega)
  have r8:=rem8 q
  have w4:IntKind.i64.wrap (7-((q%8:Nat):Int))=((7-q%8:Nat):Int):=by rw[qf]<;>omega
  have ge:(LI .u8 l)[q/8]?=some (.sc (.int .u8 (l.getD (q/8) 0))):=by
   unfold LI
   rw[List.getElem?_map,List.getD_eq_getElem?_getD,List.getElem?_eq_getElem (by omega)]
   rfl
  have g0:(0:Int)<=((q/8:Nat):Int):=by omega
  have w2:IntKind.i64.wrap ((q:Int)+1)=((q+1:Nat):Int):=by rw[qf]<;>omega
  have hi:=ih (q+1) (by omega)
  have e:(List.range (m+1)).any (fun i=>zZ l (q+i))=(zZ l q||(List.range m).any (fun i=>zZ l (q+1+i))):=by
   rw[List.range_succ_eq_map,List.any_cons,List.any_map]
   congr 2
   funext i
   show zZ l (q+(i+1))=_
   congr 1
   omega
  rw[e,B152_8_eq]
  generalize hcc:l.getD (q/8) 0=c at*
  generalize hrr:((7-q%8:Nat):Int)=r at*
  generalize hq8:((q/8:Nat):Int)=q1 at*
  have ge':(LI .u8 l)[q1.toNat]?=some (.sc (.int .u8 c)):=by rw[<-hq8,Int.toNat_natCast];exact ge
  generalize((q%8:Nat):Int)=q2 at*
  generalize((8*l.length:Nat):Int)=z at*
  generalize((q+1:Nat):Int)=q9 at*
  generalize(List.range m).any (fun i=>zZ l (q+1+i))=A at*
  cases hbb:zZ l q
  ·rw[hbb]at b8'
   have b9:∀t x y,binV Tryz.prog .and t x y (.int .u8 z8) (.int .u8 1)=some (.int .u8 0):=b8'
   simp[h,gc0,w1,hlt,q8,g0,ge',gs0,r8,w4,b8,b9,w2,hi,-qE]
  ·rw[hbb]at b8'
   have b9:∀t x y,binV Tryz.prog .and t x y (.int .u8 z8) (.int .u8 1)=some (.int .u8 1):=b8'
   simp[h,gc0,w1,hlt,q8,g0,ge',gs0,r8,w4,b8,b9,-qE]
theorem run_bend(h8:∀c∈l,0<=c/\c<256)(hpl:p<=8*l.length)(h:hp.rd b 0=some (Rb k l p s)):
  run cxX 152 [.ptr b 0 0] hp=some (.sc (.int .i64 (rbend l p s)),hp):=by
 have t:=bend_loop b k l p hl h8 s hp h (8*l.length-p) p (by omega)
 have w1:IntKind.i64.wrap (8*(l.length:Int))=((8*l.length:Nat):Int):=by rw[qf]<;>omega
 have w2:IntKind.i64.wrap (((8*l.length:Nat):Int)-(p:Int))=((8*l.length:Nat):Int)-(p:Int):=by rw[qf]<;>omega
 have gc0:∀(x:AV) (l:List AV),getC (x::l) 0=some x:=fun _ _=>rfl
 rw[E152]
 unfold rbend
 cases s
 ·by_cases h1:p+8<=8*l.length
  ·have hg:8<=((8*l.length:Nat):Int)-(p:Int):=by omega
   generalize((8*l.length:Nat):Int)=z at*
   simp[h,qe,gc0,w1,w2,hg,h1]
  ·have hg:¬(8<=((8*l.length:Nat):Int)-(p:Int)):=by omega
   generalize((8*l.length:Nat):Int)=z at*
   generalize(List.range (8*l.length-p)).any (fun i=>zZ l (p+i))=A at*
   simp[h,qe,gc0,w1,w2,hg,h1,t]
 ·simp[h,qe]
end
theorem qG{l a r:List Int}{p:Nat}(h:l.drop p=a++r):l.drop (p+a.length)=r:=by
 rw[<-List.drop_drop,h,List.drop_left]
theorem qT{l a r:List Int}{p:Nat}(hp:p<=l.length)(h:l.drop p=a++r):p+a.length<=l.length:=by
 have:=congrArg List.length h
 simp at this
 omega
theorem rU_uv{l r:List Int}{p m most:Nat}(h:l.drop p=uv m++r)(hm:m<=most)(hm2:m<18446744073709551616):rU l p 0 most=(m,p+(uv m).length,0):=by
 have g:=gU_uv 0 m r 0 0 0 rfl (by omega) (by simpa using hm2) (by omega)
 simp only[Nat.pow_zero,Nat.mul_one,Nat.zero_add]at g
 unfold rU
 rw[h,g]
 have h1:¬(most<m):=by omega
 simp[h1]
theorem rB_cons{l r:List Int}{p:Nat}{c:Int}(h:l.drop p=c::r):rB l p 0=(c,p+1,0):=by
 obtain⟨e1,e2,hi,e3⟩:=ql h
 unfold rB rL
 have h1:¬(l.length-p=0):=by omega
 have h2:l.getD p 0=c:=by rw[List.getD_eq_getElem?_getD,e1];rfl
 have h3:(if(0:Int)=0 then l.length-p else 0)=l.length-p:=if_pos rfl
 rw[h3,if_neg h1,h2]
section
variable (b k : Nat) (l : List Int) (hl : l.length ≤ 1000000000) (h8 : By l)
include hl h8
theorem zj{p m most:Nat}{r:List Int}(h:l.drop p=uv m++r)(hm:m<=most)(hm2:most<18446744073709551616)(hp:Hp)(hpl:p<=l.length)(hr:hp.rd b 0=some (Rc k l p 0)):
  run cxX 45 [.ptr b 0 0,.sc (.int .u64 (most:Int))] hp=some (.sc (.int .u64 (m:Int)),hp.put b 0 (Rc k l (p+(uv m).length) 0)):=by
 have a:=run_ruint b k l most p 0 hm2 hl h8 hpl hp hr
 rw[rU_uv h hm (by omega)]at a
 exact a
omit h8 in
theorem zk{p:Nat}{c:Int}{r:List Int}(h:l.drop p=c::r)(hp:Hp)(hpl:p<=l.length)(hr:hp.rd b 0=some (Rc k l p 0)):
  run cxX 48 [.ptr b 0 0] hp=some (.sc (.int .u8 c),hp.put b 0 (Rc k l (p+1) 0)):=by
 have a:=run_rbyte b k l p 0 hp hl hpl hr
 rw[rB_cons h]at a
 exact a
theorem take_int{p:Nat}{d:Int}{r:List Int}(h:l.drop p=uv (zz d)++r)(h1:-9223372036854775808<=d)(h2:d<9223372036854775808)(hp:Hp)(hpl:p<=l.length)(hr:hp.rd b 0=some (Rc k l p 0)):
  run cxX 107 [.ptr b 0 0] hp=some (.sc (.int .i64 d),hp.put b 0 (Rc k l (p+(uv (zz d)).length) 0)):=by
 have a:=run_rint b k l p 0 hl h8 hpl hp hr
 have z:=zz_lt h1 h2
 rw[rU_uv h (by omega) z]at a
 simp only[unzz_zz]at a
 exact a
theorem tcms_loop(cb:Nat)(R C:Int)(hC:1<=C/\C<=256)(cs:List Int)(hcl:cs.length<=4096)(h32:U32 cs)(b2:List AV)(hbc:cb≠b)(rest:List Int):∀(r:List Int) (i p:Nat) (last:Int) (hp:Hp),cs.drop i=r->i<=cs.length->(0<=last/\last<4294967296)->
  l.drop p=pcnt C r i last++rest->p<=l.length->hp.rd b 0=some (Rc k l p 0)->hp.rd cb 0=some (LI .u32 (cs.take i++List.replicate (cs.length-i) 0))->
  ∃hp',B51_7 (.ptr b 0 0) (.int .i64 last) (.int .i64 (cs.length:Int)) (.int .i64 (i:Int)) b2 [.sc (.int .i64 R),.sc (.int .i64 C),.ms cb 0 0 cs.length 1] hp=
   B51_19 b2 [.sc (.int .i64 R),.sc (.int .i64 C),.ms cb 0 0 cs.length 1] hp'/\hp'.rd b 0=some (Rc k l (p+(pcnt C r i last).length) 0)/\hp'.rd cb 0=some (LI .u32 cs)/\hp'.next=hp.next/\∀c,c≠b->c≠cb->hp'.get c=hp.get c:=by
 intro r
 induction r with
 |nil=>
  intro i p last hp h hil hla hd hpl hr hc
  have h1:=qt h
  have e:i=cs.length:=by omega
  subst e
  refine⟨hp,?_,by simpa[pcnt]using hr,by simpa using hc,rfl,fun _ _ _=>rfl⟩
  have hlt:¬((cs.length:Int)<(cs.length:Int)):=by omega
  rw[B51_7_eq]
  simp
 | cons x r ih=>
  intro i p last hp h hil hla hd hpl hr hc
  obtain⟨e1,e2,hi,e3⟩:=ql h
  have hx:=h32 x (List.mem_of_getElem? e1)
  obtain⟨lst,hlst⟩:∃lst:Int,lst=if(i:Int)%max C 1=0 then 0 else last:=⟨_,rfl⟩
  have hb:0<=lst/\lst<4294967296:=by rw[hlst];split<;>omega
  have ep:pcnt C (x::r) i last=uv (zz (x-lst))++pcnt C r (i+1) x:=by rw[hlst];rfl
  rw[ep,List.append_assoc]at hd
  have ti:=take_int b k l hl h8 hd (by omega) (by omega) hp hpl hr
  have hd2:=qG hd
  have hpl2:=qT hpl hd
  have hlt:(i:Int)<(cs.length:Int):=by omega
  have hmax:max C 1=C:=by omega
  have rm:∀t x y,binV Tryz.prog .rem t x y (.int .i64 (i:Int)) (.int .i64 C)=some (.int .i64 ((i:Int)%max C 1)):=by
   intro t x y
   have:=rem_max C i t x y
   rw[hmax]at this⊢
   exact this
  have w1:IntKind.i64.wrap (lst+(x-lst))=x:=by rw[qf]<;>omega
  have w2:IntKind.u32.wrap x=x:=qv hx.1 hx.2
  have w3:IntKind.i64.wrap ((i:Int)+1)=((i+1:Nat):Int):=by rw[qf]<;>omega
  have ix:idx cs.length (.int .i64 (i:Int))=some i:=zm .i64 hi
  have hlen:(cs.take i++List.replicate (cs.length-i) 0).length=cs.length:=by simp;omega
  have pn:=putN_I .u32 (cs.take i++List.replicate (cs.length-i) 0) i x (by omega)
  have es:(cs.take i++List.replicate (cs.length-i) 0).set i x=cs.take (i+1)++List.replicate (cs.length-(i+1)) 0:=by
   have a1:cs.take (i+1)=cs.take i++[x]:=by rw[List.take_add_one,e1];rfl
   have a2:cs.length-i=(cs.length-(i+1))+1:=by omega
   have a3:(cs.take i).length=i:=by simp;omega
   rw[a1,a2,List.replicate_succ,List.set_append_right _ _ (by omega),a3,Nat.sub_self,List.append_assoc]
   rfl
  rw[es]at pn
  have er:=zg b k l (p+(uv (zz (x-lst))).length) 0 (hp.put b 0 (Rc k l (p+(uv (zz (x-lst))).length) 0)) (qh _ _ _)
  have rc:(hp.put b 0 (Rc k l (p+(uv (zz (x-lst))).length) 0)).rd cb 0=some (LI .u32 (cs.take i++List.replicate (cs.length-i) 0)):=by rw[qp _ _ hbc];exact hc
  obtain⟨hp2,a1,a2,a3,a4,a5⟩:=ih (i+1) (p+(uv (zz (x-lst))).length) x ((hp.put b 0 (Rc k l (p+(uv (zz (x-lst))).length) 0)).put cb 0 (LI .u32 (cs.take (i+1)++List.replicate (cs.length-(i+1)) 0))) e2 hi hx hd2 hpl2
   (by rw[qp _ _ (fun q=>hbc q.symm),qh]) (qh _ _ _)
  refine⟨hp2,?_,by rw[ep,List.length_append,<-Nat.add_assoc];exact a2,a3,by rw[a4];rfl,fun c c1 c2=>by rw[a5 c c1 c2];simp[Hp.put,c1,c2]⟩
  have hms:∀a b c d e,qR (.ms a b c d e)=some (a,b,c,d,e):=fun _ _ _ _ _=>rfl
  have b11:B51_11 (.ptr b 0 0) (.int .i64 lst) (.int .i64 (i:Int)) (.int .i64 (cs.length:Int)) (.int .i64 (i:Int)) b2 [.sc (.int .i64 R),.sc (.int .i64 C),.ms cb 0 0 cs.length 1] hp=
    B51_19 b2 [.sc (.int .i64 R),.sc (.int .i64 C),.ms cb 0 0 cs.length 1] hp2:=by
   rw[<-a1,B51_11_eq]
   have c1:¬(x<0):=by omega
   have c2:¬((4294967295:Int)<x):=by omega
   have c3:¬(x-lst< -4294967296):=by omega
   have c4:¬((4294967296:Int)<x-lst):=by omega
   generalize cs.take (i+1)++List.replicate (cs.length-(i+1)) 0=L1 at*
   generalize cs.take i++List.replicate (cs.length-i) 0=L0 at*
   generalize hp.put b 0 (Rc k l (p+(uv (zz (x-lst))).length) 0)=hpA at*
   generalize((i+1:Nat):Int)=I at*
   clear hlst ep hd hd2 hpl2 a1
   generalize x-lst=D at*
   simp[ti,w1,c1,c2,c3,c4,B51_15_eq,B51_16_eq,er,getC,cv_2_30,w2,hms,ix,rc,pn,w3]
  rw[B51_7_eq]
  by_cases h0:(i:Int)%max C 1=0
  ·have el:lst=0:=by rw[hlst,if_pos h0]
   rw[el]at b11
   simp[hlt,qe,rm,h0,b11]
  ·have el:lst=last:=by rw[hlst,if_neg h0]
   rw[el]at b11
   simp[hlt,qe,rm,h0,b11]
end
def yB(k:Nat):Prop:=k<18446744073709551616/\kw (wk k)=k
theorem isKey_kw{w:Nat}(h:w<18446744073709551616):yB (kw w):=⟨kw_lt w h,kw_wk_kw w h⟩
theorem run_pfloat(b key:Nat)(hk:yB key)(hp:Hp):run cxX 108 [.ptr b 0 0,.sc (.int .u64 (key:Int))] hp=some (fl (wk key),hp):=by
 have o:=run_of key hk.1 hp0
 have e:ofOk key=true:=decide_eq_true hk.2
 rw[e]at o
 obtain⟨F,hF⟩:∃F,fl (wk key)= .sc F:=⟨_,rfl⟩
 rw[hF]at o⊢
 rw[E108]
 simp[o,B108_4_eq]
section
variable (b k : Nat) (l : List Int) (hl : l.length ≤ 1000000000) (h8 : By l)
include hl h8
theorem tgau_loop(K M e0 e1 e2 e3 e4 e5:Int)(lo hi:AV)(b2:List AV)(n:Nat)(rest:List Int):∀(r:List Nat) (i p last:Nat) (acc:List Nat) (hp:Hp),i+r.length=n->n<=17->zQ (last::r)->(∀x∈r,yB x)->acc.length<=i->
  l.drop p=gdif last r++rest->p<=l.length->hp.rd b 0=some (Rc k l p 0)->
  B52_11 (.ptr b 0 0) (.int .u64 (last:Int)) (.int .i64 (n:Int)) (.int .i64 (i:Int)) b2 [.sc (.int .i64 K),.sc (.int .u32 M),.sc (.int .u32 e0),.sc (.int .u32 e1),.sc (.int .u32 e2),.sc (.int .u32 e3),.sc (.int .u32 e4),.sc (.int .u32 e5),lo,hi,S 2 1 (LF acc)] hp=
   B52_11 (.ptr b 0 0) (.int .u64 ((last::r).getLastD 0:Nat)) (.int .i64 (n:Int)) (.int .i64 (n:Int)) b2 [.sc (.int .i64 K),.sc (.int .u32 M),.sc (.int .u32 e0),.sc (.int .u32 e1),.sc (.int .u32 e2),.sc (.int .u32 e3),.sc (.int .u32 e4),.sc (.int .u32 e5),lo,hi,S 2 1 (LF (acc++r.map wk))] (hp.put b 0 (Rc k l (p+(gdif last r).length) 0)):=by
 intro r
 induction r with
 |nil=>
  intro i p last acc hp hi hn hf hk ha hd hpl hr
  have e:i=n:=by simpa using hi
  subst e
  simp[gdif,zd hr]
 |cons x r ih=>
  intro i p last acc hp hi hn hf hk ha hd hpl hr
  simp only[List.length_cons]at hi
  have hx:=hk x (by simp)
  have ep:gdif last (x::r)=uv (x-last)++gdif x r:=rfl
  rw[ep,List.append_assoc]at hd
  have hle:last<=x:=hf.1
  have tu:=zj b k l hl h8 (most:=18446744073709551615) hd (by have:=hx.1;omega) (by omega) hp hpl hr
  have hd2:=qG hd
  have hpl2:=qT hpl hd
  have fl1:=fun hp=>run_pfloat b x hx hp
  have w1:IntKind.u64.wrap ((last:Int)+((x-last:Nat):Int))=(x:Int):=by have:=hx.1;rw[qr]<;>omega
  have w2:IntKind.i64.wrap ((i:Int)+1)=((i+1:Nat):Int):=by rw[qf]<;>omega
  have hlt:(i:Int)<(n:Int):=by omega
  have hxl:¬((x:Int)<(last:Int)):=by omega
  have hi2:=ih (i+1) (p+(uv (x-last)).length) x (acc++[wk x]) (hp.put b 0 (Rc k l (p+(uv (x-last)).length) 0)) (by omega) hn hf.2 (fun y hy=>hk y (by simp[hy])) (by simp;omega) hd2 hpl2 (qh _ _ _)
  rw[qj]at hi2
  have eg:(last::x::r).getLastD 0=(x::r).getLastD 0:=rfl
  have em:acc++(x::r).map wk=acc++[wk x]++r.map wk:=by simp
  rw[eg,em,ep,List.length_append,<-Nat.add_assoc,<-hi2,B52_11_eq]
  have ap:=appF acc (wk x) (by omega)
  have lit:((18446744073709551615:Nat):Int)=18446744073709551615:=rfl
  rw[lit]at tu
  generalize hp.put b 0 (Rc k l (p+(uv (x-last)).length) 0)=hpA at*
  generalize((x-last:Nat):Int)=D at*
  generalize((i+1:Nat):Int)=I at*
  generalize LF (acc++[wk x])=L1 at*
  generalize LF acc=L0 at*
  simp[hlt,tu,w1,hxl,B52_15_eq,getC,fl1,okV,ap,putN,w2]
theorem run_tgau(K:Int)(hK:0<=K/\K<256)(g:GN)(gp:g.Pos)(hlo:yB g.lo)(hhi:yB g.hi)(hL:∀x∈g.L,yB x)(hf:zQ g.L)(hn:g.L.length<=16)(p:Nat)(rest:List Int)(hd:l.drop p=gauY K g++rest)(hp:Hp)(hpl:p<=l.length)(hr:hp.rd b 0=some (Rc k l p 0)):
    run cxX 52 [.ptr b 0 0] hp=some (.agg [.sc (.int .i64 K),.sc (.int .u32 g.M),.sc (.int .u32 g.e0),.sc (.int .u32 g.e1),.sc (.int .u32 g.e2),.sc (.int .u32 g.e3),.sc (.int .u32 g.e4),.sc (.int .u32 g.e5),fl (wk g.lo),fl (wk g.hi),S 2 1 (LF (g.L.map wk))],hp.put b 0 (Rc k l (p+(gauY K g).length) 0)):=by
  obtain⟨pM,p0,p1,p2,p3,p4,p5⟩:=gp
  have lit:((4294967295:Nat):Int)=4294967295:=rfl
  have lit2:((18446744073709551615:Nat):Int)=18446744073709551615:=rfl
  have c32:∀n:Int,qL n->IntKind.u32.wrap ((n.toNat:Nat):Int)=n/\n.toNat<=4294967295:=fun n hn=>by
    have:=hn.2;have:=hn.1
    exact⟨by rw[qv]<;>omega,by omega⟩
  have eq:gauY K g++rest=K::(uv g.M.toNat++(uv g.e0.toNat++(uv g.e1.toNat++(uv g.e2.toNat++(uv g.e3.toNat++(uv g.e4.toNat++(uv g.e5.toNat++(uv g.lo++(uv g.hi++((g.L.length:Int)::(gdif 0 g.L++rest))))))))))):=by
    unfold gauY;simp
  rw[eq]at hd
  have t0:=zk b k l hl hd hp hpl hr
  obtain⟨_,d0,hi0,_⟩:=ql hd
  have h1:=zj b k l hl h8 (most:=4294967295) d0 (c32 _ pM).2 (by omega) (hp.put b 0 (Rc k l (p+1) 0)) (by omega) (qh _ _ _)
  rw[qj,lit]at h1
  have d1:=qG d0
  have q1:=qT (by omega) d0
  generalize e1:p+1+(uv g.M.toNat).length=P1 at*
  have h2:=zj b k l hl h8 (most:=4294967295) d1 (c32 _ p0).2 (by omega) (hp.put b 0 (Rc k l P1 0)) q1 (qh _ _ _)
  rw[qj,lit]at h2
  have d2:=qG d1
  have q2:=qT q1 d1
  generalize e2:P1+(uv g.e0.toNat).length=P2 at*
  have h3:=zj b k l hl h8 (most:=4294967295) d2 (c32 _ p1).2 (by omega) (hp.put b 0 (Rc k l P2 0)) q2 (qh _ _ _)
  rw[qj,lit]at h3
  have d3:=qG d2
  have q3:=qT q2 d2
  generalize e3:P2+(uv g.e1.toNat).length=P3 at*
  have h4:=zj b k l hl h8 (most:=4294967295) d3 (c32 _ p2).2 (by omega) (hp.put b 0 (Rc k l P3 0)) q3 (qh _ _ _)
  rw[qj,lit]at h4
  have d4:=qG d3
  have q4:=qT q3 d3
  generalize e4:P3+(uv g.e2.toNat).length=P4 at*
  have h5:=zj b k l hl h8 (most:=4294967295) d4 (c32 _ p3).2 (by omega) (hp.put b 0 (Rc k l P4 0)) q4 (qh _ _ _)
  rw[qj,lit]at h5
  have d5:=qG d4
  have q5:=qT q4 d4
  generalize e5:P4+(uv g.e3.toNat).length=P5 at*
  have h6:=zj b k l hl h8 (most:=4294967295) d5 (c32 _ p4).2 (by omega) (hp.put b 0 (Rc k l P5 0)) q5 (qh _ _ _)
  rw[qj,lit]at h6
  have d6:=qG d5
  have q6:=qT q5 d5
  generalize e6:P5+(uv g.e4.toNat).length=P6 at*
  have h7:=zj b k l hl h8 (most:=4294967295) d6 (c32 _ p5).2 (by omega) (hp.put b 0 (Rc k l P6 0)) q6 (qh _ _ _)
  rw[qj,lit]at h7
  have d7:=qG d6
  have q7:=qT q6 d6
  generalize e7:P6+(uv g.e5.toNat).length=P7 at*
  have h8':=zj b k l hl h8 (most:=18446744073709551615) d7 (by have:=hlo.1;omega) (by omega) (hp.put b 0 (Rc k l P7 0)) q7 (qh _ _ _)
  rw[qj,lit2]at h8'
  have d8:=qG d7
  have q8:=qT q7 d7
  generalize e8:P7+(uv g.lo).length=P8 at*
  have h9:=zj b k l hl h8 (most:=18446744073709551615) d8 (by have:=hhi.1;omega) (by omega) (hp.put b 0 (Rc k l P8 0)) q8 (qh _ _ _)
  rw[qj,lit2]at h9
  have d9:=qG d8
  have q9:=qT q8 d8
  generalize e9:P8+(uv g.hi).length=P9 at*
  have h10:=zk b k l hl d9 (hp.put b 0 (Rc k l P9 0)) q9 (qh _ _ _)
  rw[qj]at h10
  obtain⟨_,d10,hi10,_⟩:=ql d9
  have f1:=fun hp=>run_pfloat b g.lo hlo hp
  have f2:=fun hp=>run_pfloat b g.hi hhi hp
  have lp:=fun b2=>tgau_loop b k l hl h8 K g.M g.e0 g.e1 g.e2 g.e3 g.e4 g.e5 (fl (wk g.lo)) (fl (wk g.hi)) b2 g.L.length rest g.L 0 (P9+1) 0 [] (hp.put b 0 (Rc k l (P9+1) 0)) (by omega) (by omega) (jT hf) hL (by simp) d10 (by omega) (qh _ _ _)
  have eP:p+(gauY K g).length=P9+1+(gdif 0 g.L).length:=by
    unfold gauY
    simp only[List.length_append,List.length_singleton]
    omega
  rw[eP]
  simp only[qj,List.nil_append]at lp
  have wK:IntKind.i64.wrap K=K:=qf (by omega) (by omega)
  have wL:IntKind.i64.wrap (g.L.length:Int)=(g.L.length:Int):=qf (by omega) (by omega)
  have mL:min (g.L.length:Int) 17=(g.L.length:Int):=by omega
  have x1:=(c32 _ pM).1
  have x2:=(c32 _ p0).1
  have x3:=(c32 _ p1).1
  have x4:=(c32 _ p2).1
  have x5:=(c32 _ p3).1
  have x6:=(c32 _ p4).1
  have x7:=(c32 _ p5).1
  have i0:idx 6 (.int .i64 0)=some 0:=by kernel_rfl
  have i1:idx 6 (.int .i64 1)=some 1:=by kernel_rfl
  have i2:idx 6 (.int .i64 2)=some 2:=by kernel_rfl
  have i3:idx 6 (.int .i64 3)=some 3:=by kernel_rfl
  have i4:idx 6 (.int .i64 4)=some 4:=by kernel_rfl
  have i5:idx 6 (.int .i64 5)=some 5:=by kernel_rfl
  clear lit lit2 c32 eq hd d0 d1 d2 d3 d4 d5 d6 d7 d8 d9 d10
  have nlt:¬((g.L.length:Int)<(g.L.length:Int)):=by omega
  have fin:=fun b2 (hb2:b2=[.sc (.int .i64 0),.sc (.int .u32 0),.sc (.int .u32 0),.sc (.int .u32 0),.sc (.int .u32 0),.sc (.int .u32 0),.sc (.int .u32 0),.sc (.int .u32 0),.sc (.float .f64 0),.sc (.float .f64 0),S 2 1 []])=>(lp b2).trans (show _=some (AV.agg [.sc (.int .i64 K),.sc (.int .u32 g.M),.sc (.int .u32 g.e0),.sc (.int .u32 g.e1),.sc (.int .u32 g.e2),.sc (.int .u32 g.e3),.sc (.int .u32 g.e4),.sc (.int .u32 g.e5),fl (wk g.lo),fl (wk g.hi),S 2 1 (LF (g.L.map wk))],hp.put b 0 (Rc k l (P9+1+(gdif 0 g.L).length) 0))from by
    subst hb2
    rw[B52_11_eq]
    simp[getN,putN])
  generalize hp.put b 0 (Rc k l (P9+1+(gdif 0 g.L).length) 0)=HZ at*
  generalize hp.put b 0 (Rc k l (P9+1) 0)=H10 at*
  generalize hp.put b 0 (Rc k l P9 0)=H9 at*
  generalize hp.put b 0 (Rc k l P8 0)=H8 at*
  generalize hp.put b 0 (Rc k l P7 0)=H7 at*
  generalize hp.put b 0 (Rc k l P6 0)=H6 at*
  generalize hp.put b 0 (Rc k l P5 0)=H5 at*
  generalize hp.put b 0 (Rc k l P4 0)=H4 at*
  generalize hp.put b 0 (Rc k l P3 0)=H3 at*
  generalize hp.put b 0 (Rc k l P2 0)=H2 at*
  generalize hp.put b 0 (Rc k l P1 0)=H1 at*
  generalize hp.put b 0 (Rc k l (p+1) 0)=H0 at*
  have fin:=fin _ rfl
  generalize((g.M.toNat:Nat):Int)=m0 at*
  generalize((g.e0.toNat:Nat):Int)=m1 at*
  generalize((g.e1.toNat:Nat):Int)=m2 at*
  generalize((g.e2.toNat:Nat):Int)=m3 at*
  generalize((g.e3.toNat:Nat):Int)=m4 at*
  generalize((g.e4.toNat:Nat):Int)=m5 at*
  generalize((g.e5.toNat:Nat):Int)=m6 at*
  rw[E52]
  simp[t0,jy,wK,h1,zM,x1]
  rw[yR]
  simp[h2,zM,x2,i0,putN]
  rw[yR]
  simp[h3,zM,x3,i1,putN]
  rw[yR]
  simp[h4,zM,x4,i2,putN]
  rw[yR]
  simp[h5,zM,x5,i3,putN]
  rw[yR]
  simp[h6,zM,x6,i4,putN]
  rw[yR]
  simp[h7,zM,x7,i5,putN]
  rw[yR]
  simp at fin
  simp[h8',f1,putN,h9,f2,h10,jy,wL,mL]
  exact fin
end
section
variable (b k : Nat) (l : List Int) (hl : l.length ≤ 1000000000) (h8 : By l)
include hl h8
theorem run_tcms(R C:Int)(hR:1<=R/\R<=8)(hC:1<=C/\C<=256)(cs:List Int)(hcs:(cs.length:Int)=R*C)(h32:U32 cs)(p:Nat)(rest:List Int)(hd:l.drop p=[R]++uv C.toNat++pcnt C cs 0 0++rest)(hp:Hp)(hpl:p<=l.length)(hb:b<hp.next)(hr:hp.rd b 0=some (Rc k l p 0)):
  ∃hp',run cxX 51 [.ptr b 0 0] hp=some (.agg [.sc (.int .i64 R),.sc (.int .i64 C),S 0 1 (LI .u32 cs)],hp')/\hp'.rd b 0=some (Rc k l (p+([R]++uv C.toNat++pcnt C cs 0 0).length) 0)/\Fm [b] hp hp':=by
 have m:=cmul hR hC
 have eq:[R]++uv C.toNat++pcnt C cs 0 0++rest=R::(uv C.toNat++(pcnt C cs 0 0++rest)):=by simp
 have el:p+([R]++uv C.toNat++pcnt C cs 0 0).length=p+1+(uv C.toNat).length+(pcnt C cs 0 0).length:=by simp only[List.length_append,List.length_singleton];omega
 rw[eq]at hd
 rw[el]
 have t0:=zk b k l hl hd hp hpl hr
 obtain⟨_,d0,hi0,_⟩:=ql hd
 have t1:=zj b k l hl h8 (most:=256) d0 (by omega) (by omega) (hp.put b 0 (Rc k l (p+1) 0)) (by omega) (qh _ _ _)
 rw[qj]at t1
 have d1:=qG d0
 have q1:=qT (by omega) d0
 have cn:=run_cnew R C hR hC (hp.put b 0 (Rc k l (p+1+(uv C.toNat).length) 0))
 have hne:hp.next≠b:=by omega
 have ecs:(R*C).toNat=cs.length:=by omega
 rw[ecs]at cn
 obtain⟨hp2,a1,a2,a3,a4,a5⟩:=tcms_loop b k l hl h8 hp.next R C hC cs (by omega) h32 [.sc (.int .i64 0),.sc (.int .i64 0),S 2 1 []] hne rest cs 0 (p+1+(uv C.toNat).length) 0 ((hp.put b 0 (Rc k l (p+1+(uv C.toNat).length) 0)).new (LI .u32 (List.replicate cs.length 0))) rfl (by omega) (by omega) d1 q1
  (by rw[zE _ _ (by simp;omega),qh]) (by rw[List.take_zero,List.nil_append,Nat.sub_zero];exact qs (hp.put b 0 _) _)
 have fz:=frz1_I .u32 cs hp2 hp.next a3
 refine⟨hp2.del hp.next,?_,?_,by rw[show(hp2.del hp.next).next=hp2.next from rfl,a4];simp,fun c hc hcb=>?_⟩
 ·have w1:IntKind.i64.wrap R=R:=qf (by omega) (by omega)
  have w2:IntKind.i64.wrap ((C.toNat:Nat):Int)=C:=by rw[qf]<;>omega
  have lit:((256:Nat):Int)=256:=rfl
  rw[lit]at t1
  have b19:B51_19 [.sc (.int .i64 0),.sc (.int .i64 0),S 2 1 []] [.sc (.int .i64 R),.sc (.int .i64 C),.ms hp.next 0 0 cs.length 1] hp2=some (.agg [.sc (.int .i64 R),.sc (.int .i64 C),S 0 1 (LI .u32 cs)],hp2.del hp.next):=by
   rw[B51_19_eq]
   simp[getN,putN,fz]
  rw[<-a1]at b19
  have hln:∀a b c d e,lenA (.ms a b c d e)=some d:=fun _ _ _ _ _=>rfl
  rw[E51]
  generalize((C.toNat:Nat):Int)=Cc' at*
  generalize List.replicate cs.length 0=Z at*
  simp only[next_put]at cn
  simp only[Int.natCast_zero]at b19
  generalize hp.put b 0 (Rc k l (p+1+(uv C.toNat).length) 0)=H1 at*
  generalize hp.put b 0 (Rc k l (p+1) 0)=H0 at*
  try simp at b19
  simp[t0,jy,w1,t1,yg,w2,cn,putN,getC,hln,b19]
 ·have:b≠hp.next:=fun q=>hne q.symm
  have e:(hp2.del hp.next).get b=hp2.get b:=by simp[Hp.del,this]
  rw[rdg e];exact a2
 ·have h1:c≠hp.next:=by omega
  have h2:c≠b:=by simpa using hcb
  have e:(hp2.del hp.next).get c=hp2.get c:=by simp[Hp.del,h1]
  rw[e,a5 c h2 h1]
  simp[Hp.new,Hp.put,h1,h2]
end
def At(l:List Int)(p:Nat)(bs:List Bool):Prop:=p+bs.length<=8*l.length/\∀i,i<bs.length->zZ l (p+i)=bs.getD i false
theorem At.pk(bs:List Bool):At (pk bs) 0 bs:=⟨by rw[zK];omega,fun i hi=>by rw[Nat.zero_add];exact bitAt_pk bs i hi⟩
theorem At.app{l:List Int}{p:Nat}{a c:List Bool}(h:At l p (a++c)):At l p a/\At l (p+a.length) c:=by
 obtain⟨h1,h2⟩:=h
 simp only[List.length_append]at h1 h2
 refine⟨⟨by omega,fun i hi=>?_⟩,⟨by omega,fun i hi=>?_⟩⟩
 ·rw[h2 i (by omega),List.getD_eq_getElem?_getD,List.getD_eq_getElem?_getD,List.getElem?_append_left hi]
 ·rw[Nat.add_assoc,h2 (a.length+i) (by omega),List.getD_eq_getElem?_getD,List.getD_eq_getElem?_getD,List.getElem?_append_right (by omega)]
  congr 2
  omega
theorem At.cons{l:List Int}{p:Nat}{a:Bool}{c:List Bool}(h:At l p (a::c)):rb l p false=(a,p+1,false)/\At l (p+1) c:=by
 have h':At l p ([a]++c):=h
 have g:=h'.app
 refine⟨?_,by simpa using g.2⟩
 have h1:=h.1
 simp only[List.length_cons]at h1
 have h2:=h.2 0 (by simp)
 unfold rb
 rw[if_neg (by simp;omega)]
 simp at h2
 rw[h2]
theorem rt_at(l:List Int)(n:Nat):∀(k acc p:Nat),At l p (nbs n k)->rt l k acc p false=(acc*2^k+n%2^k,p+k,false):=by
 intro k
 induction k with
 |zero=>intro acc p h;show(if false then 0 else acc,p,false)=_;simp[Nat.mod_one]
 | succ k ih=>
  intro acc p h
  have c:=At.cons (show At l p (n.testBit k::nbs n k)from h)
  have i:=ih (2*acc+(n.testBit k).toNat) (p+1) c.2
  show rt l k (2*acc+(rb l p false).1.toNat) (rb l p false).2.1 (rb l p false).2.2=_
  rw[c.1]
  show rt l k (2*acc+(n.testBit k).toNat) (p+1) false=_
  rw[i]
  have e1:=Nat.mod_mul (x:=n) (a:=2^k) (b:=2)
  have e2:(n.testBit k).toNat=n/2^k%2:=by
   rw[Nat.testBit_eq_decide_div_mod_eq]
   have:n/2^k%2=0\/n/2^k%2=1:=by omega
   rcases this with e|e<;>rw[e]<;>rfl
  refine Prod.ext ?_ (Prod.ext (by show p+1+k=p+(k+1);omega) rfl)
  show(2*acc+(n.testBit k).toNat)*2^k+n%2^k=acc*2^(k+1)+n%2^(k+1)
  rw[Nat.pow_succ,e1,e2,Nat.add_mul,Nat.mul_comm 2 acc,Nat.mul_assoc acc,Nat.mul_comm 2 (2^k),Nat.mul_comm (n/2^k%2) (2^k)]
  omega
theorem ru_at(l:List Int)(most:Nat):∀(q f n p:Nat),At l p (una q)->n+q<=most->q+1<=f->ru l most f n p false=(n+q,p+q+1,false):=by
 intro q
 induction q with
 |zero=>
  intro f n p h hm hf
  obtain⟨f,rfl⟩:∃f',f=f'+1:=⟨f-1,by omega⟩
  have c:=At.cons (show At l p (false::[])from h)
  unfold ru
  rw[c.1]
  rfl
 |succ q ih=>
  intro f n p h hm hf
  obtain⟨f,rfl⟩:∃f',f=f'+1:=⟨f-1,by omega⟩
  have c:=At.cons (show At l p (true::una q)from h)
  have i:=ih f (n+1) (p+1) c.2 (by omega) (by omega)
  unfold ru
  rw[c.1]
  have e:(false||decide (most<n+1))=false:=by simp;omega
  show(if true=true then ru l most f (n+1) (p+1) (false||decide (most<n+1))else _)=_
  rw[if_pos rfl,e,i]
  refine Prod.ext (by show n+1+q=n+(q+1);omega) (Prod.ext (by show p+1+q+1=p+(q+1)+1;omega) rfl)
theorem rU1_at{l:List Int}{most q p:Nat}(h:At l p (una q))(hm:q<=most):rU1 l most p false=(q,p+q+1,false):=by
 have h1:=h.1
 rw[una_len]at h1
 have:=ru_at l most q (8*l.length+2) 0 p h (by omega) (by omega)
 rw[Nat.zero_add]at this
 exact this
theorem bend_at(bs:List Bool):rbend (pk bs) bs.length false=0:=by
 have hz:∀i,zZ (pk bs) (bs.length+i)=false:=fun i=>bitAt_pk_end bs _ (by omega)
 have hany:(List.range (8*(pk bs).length-bs.length)).any (fun i=>zZ (pk bs) (bs.length+i))=false:=by
  rw[List.any_eq_false]
  intro i _
  rw[hz i];decide
 unfold rbend
 rw[hany,zK,if_neg (by decide),if_neg (by omega),if_neg (by decide)]
abbrev Cu(br kk many i last:Nat):List AV:=[.ptr br 0 0,.sc (.int .i64 (kk:Int)),.sc (.int .i64 (many:Int)),.sc (.int .i64 (i:Int)),.sc (.int .u64 (last:Int)),.sc (.bool false)]
theorem run_cleft(c br kk many i last:Nat)(hi:i<=many)(hm:many<=100000)(hp:Hp)(h:hp.rd c 0=some (Cu br kk many i last)):run cxX 148 [.ptr c 0 0] hp=some (.sc (.int .i64 ((many-i:Nat):Int)),hp):=by
 have gs5:∀(x0 x1 x2 x3 x4:AV) (v:Value),qe [x0,x1,x2,x3,x4,.sc v] 5=some v:=fun _ _ _ _ _ _=>rfl
 have gs2:∀(x0 x1:AV) (v:Value) (r:List AV),qe (x0::x1::.sc v::r) 2=some v:=fun _ _ _ _=>rfl
 have gs3:∀(x0 x1 x2:AV) (v:Value) (r:List AV),qe (x0::x1::x2::.sc v::r) 3=some v:=fun _ _ _ _ _=>rfl
 have w1:IntKind.i64.wrap ((many:Int)-(i:Int))=((many-i:Nat):Int):=by rw[qf]<;>omega
 simp only[Cu]at h
 rw[E148]
 generalize((many-i:Nat):Int)=D at*
 simp[h,gs5,B148_3_eq,gs2,gs3,w1]
theorem shl_nat'(x k:Nat)(hk:k<=64)(h:x*2^k<18446744073709551616)(t:TypeId)(o o':Operand):binV Tryz.prog .shl t o o' (.int .u64 (x:Int)) (.int .i64 (k:Int))=some (.int .u64 ((x*2^k:Nat):Int)):=by
 rw[zn _ _ _ _ _ _ _ _ (by omega),Int.toNat_natCast,Nat.min_eq_left (show k<=IntKind.u64.bits from hk)]
 have e:(x:Int)*(2:Int)^k=((x*2^k:Nat):Int):=by simp
 rw[e]
 generalize x*2^k=z at*
 rw[qr (by omega) (by omega)]
theorem or_split(q k g:Nat)(hq:q=g/2^k)(hg:g<18446744073709551616)(t:TypeId)(o o':Operand):binV Tryz.prog .or t o o' (.int .u64 ((q*2^k:Nat):Int)) (.int .u64 ((g%2^k:Nat):Int))=some (.int .u64 (g:Int)):=by
 have h1:q*2^k<=g:=by rw[hq];exact Nat.div_mul_le_self _ _
 have h2:g%2^k<=g:=Nat.mod_le _ _
 rw[or64 _ _ (by omega) (by omega)]
 have e:=Nat.two_pow_add_eq_or_of_lt (i:=k) (b:=g%2^k) (Nat.mod_lt _ (Nat.two_pow_pos _)) q
 rw[Nat.mul_comm (2^k) q]at e
 rw[<-e,hq,Nat.div_add_mod']
section
variable (c br kk many : Nat) (t : Nat) (bl : List Int) (hkk : kk ≤ 63) (hm : many ≤ 100000) (hbl : bl.length ≤ 100000000) (h8 : By bl) (hne : c ≠ br)
include hkk hm hbl h8 hne
theorem run_cnext(i last g x q:Nat)(hi:i<many)(hg:g<18446744073709551616)(hg2:g/2^kk<=4096)(hx:x<18446744073709551616)(hxg:x=if i=0 then g else last+1+g)(hp:Hp)(h:hp.rd c 0=some (Cu br kk many i last))(hr:hp.rd br 0=some (Rb t bl q false))(hat:At bl q (una (g/2^kk)++nbs g kk)):
  run cxX 99 [.ptr c 0 0] hp=some (.tup [.sc (.int .u64 (x:Int)),.sc (.bool true)],(hp.put br 0 (Rb t bl (q+(una (g/2^kk)++nbs g kk).length) false)).put c 0 (Cu br kk many (i+1) x)):=by
 have lf:=run_cleft c br kk many i last (by omega) hm hp h
 have hmul:g/2^kk*2^kk<=g:=Nat.div_mul_le_self _ _
 have os:=or_split (g/2^kk) kk g rfl hg
 obtain⟨a1,a2⟩:=hat.app
 have hle:=hat.1
 rw[List.length_append,una_len,nbs_len]at hle⊢
 generalize g/2^kk=G at*
 have un:=run_bunary br t bl q false hp hbl h8 4096 (by omega) (by omega) hr
 rw[rU1_at a1 hg2]at un
 rw[una_len]at a2
 have tk:=run_btake br t bl (q+(G+1)) false (hp.put br 0 (Rb t bl (q+(G+1)) false)) hbl h8 kk (by omega) (by omega) (qh _ _ _)
 rw[rt_at bl g kk 0 _ a2,Nat.zero_mul,Nat.zero_add,qj]at tk
 simp only at un tk
 have sh:=yu br t bl (q+(G+1)+kk) false (hp.put br 0 (Rb t bl (q+(G+1)+kk) false)) (qh _ _ _)
 have e1:q+G+1=q+(G+1):=by omega
 have e2:q+(G+1+kk)=q+(G+1)+kk:=by omega
 rw[e1]at un
 rw[e2]
 have sl:=fun t o o'=>shl_nat' G kk (by omega) (Nat.lt_of_le_of_lt hmul hg) t o o'
 have sr:=fun t o o'=>jO .u64 (G*2^kk) kk (by show kk<=64;omega) t o o' .i64
 have ed:G*2^kk/2^kk=G:=Nat.mul_div_cancel _ (Nat.two_pow_pos _)
 rw[ed]at sr
 have rA:∀p,(hp.put br 0 (Rb t bl p false)).rd c 0=some (Cu br kk many i last):=fun p=>by rw[qp _ _ hne];exact h
 have r2:=rA (q+(G+1))
 have r3:=rA (q+(G+1)+kk)
 have gs1:∀(x0:AV) (v:Value) (r:List AV),qe (x0::.sc v::r) 1=some v:=fun _ _ _=>rfl
 have gs3:∀(x0 x1 x2:AV) (v:Value) (r:List AV),qe (x0::x1::x2::.sc v::r) 3=some v:=fun _ _ _ _ _=>rfl
 have gs4:∀(x0 x1 x2 x3:AV) (v:Value) (r:List AV),qe (x0::x1::x2::x3::.sc v::r) 4=some v:=fun _ _ _ _ _ _=>rfl
 have gc0:∀(x:AV) (l:List AV),getC (x::l) 0=some x:=fun _ _=>rfl
 have p3:∀(x0 x1 x2 x3 x4 x5 z:AV),putN [x0,x1,x2,x3,x4,x5] 3 [z]=some [x0,x1,x2,z,x4,x5]:=fun _ _ _ _ _ _ _=>rfl
 have p4:∀(x0 x1 x2 x3 x4 x5 z:AV),putN [x0,x1,x2,x3,x4,x5] 4 [z]=some [x0,x1,x2,x3,z,x5]:=fun _ _ _ _ _ _ _=>rfl
 have wq:IntKind.u64.wrap ((G:Nat):Int)=((G:Nat):Int):=(fun(z:Nat) (hz:z<=4096)=>qr (z:=(z:Int)) (by omega) (by omega)) _ hg2
 have wi:IntKind.i64.wrap ((i:Int)+1)=((i+1:Nat):Int):=by rw[qf]<;>omega
 have lit:((4096:Nat):Int)=4096:=rfl
 rw[lit]at un
 have hz:¬(many-i=0):=by omega
 generalize hp.put br 0 (Rb t bl (q+(G+1)+kk) false)=H2 at*
 generalize hp.put br 0 (Rb t bl (q+(G+1)) false)=H1 at*
 generalize((G*2^kk:Nat):Int)=qk at*
 generalize((G:Nat):Int)=qq at*
 generalize((g%2^kk:Nat):Int)=gl at*
 simp only[Cu]at h r2 r3⊢
 have b12:B99_12 (.ptr c 0 0) (.int .u64 (x:Int)) H2=some (.tup [.sc (.int .u64 (x:Int)),.sc (.bool true)],H2.put c 0 [.ptr br 0 0,.sc (.int .i64 (kk:Int)),.sc (.int .i64 (many:Int)),.sc (.int .i64 ((i+1:Nat):Int)),.sc (.int .u64 (x:Int)),.sc (.bool false)]):=by
  rw[B99_12_eq]
  generalize((i+1:Nat):Int)=I at*
  simp[r3,gs3,wi,p3,qh,p4,qj]
 generalize((i+1:Nat):Int)=I at*
 rw[E99]
 by_cases h0:i=0
 ·rw[if_pos h0]at hxg
  have hi0:((0:Int)<(i:Int))=False:=by simp[h0]
  have hi0':(0<i)=False:=by simp[h0]
  have b9:B99_9 (.ptr c 0 0) (.int .u64 qq) (.int .u64 (x:Int)) H2=some (.tup [.sc (.int .u64 (x:Int)),.sc (.bool true)],H2.put c 0 [.ptr br 0 0,.sc (.int .i64 (kk:Int)),.sc (.int .i64 (many:Int)),.sc (.int .i64 I),.sc (.int .u64 (x:Int)),.sc (.bool false)]):=by
   rw[B99_9_eq]
   simp[r3,gc0,sh,gs1,sl,sr,gs3,hi0',b12]
  rw[hxg]at b9
  rw[hxg]
  simp[lf,hz,h,gc0,un,jM,wq,r2,gs1,tk,r3,sl,os,gs3,hi0',b9]
 ·rw[if_neg h0]at hxg
  have hi0':0<i:=by omega
  have wa:IntKind.u64.wrap ((last:Int)+1)=((last+1:Nat):Int):=by rw[qr]<;>omega
  have wb:IntKind.u64.wrap (((last+1:Nat):Int)+(g:Int))=(x:Int):=by rw[qr]<;>omega
  have hxl:¬(x<=last):=by omega
  have b9:B99_9 (.ptr c 0 0) (.int .u64 qq) (.int .u64 (x:Int)) H2=some (.tup [.sc (.int .u64 (x:Int)),.sc (.bool true)],H2.put c 0 [.ptr br 0 0,.sc (.int .i64 (kk:Int)),.sc (.int .i64 (many:Int)),.sc (.int .i64 I),.sc (.int .u64 (x:Int)),.sc (.bool false)]):=by
   rw[B99_9_eq]
   simp[r3,gc0,sh,gs1,sl,sr,gs3,hi0',gs4,hxl,b12]
  generalize((last+1:Nat):Int)=L1 at*
  simp[lf,hz,h,gc0,un,jM,wq,r2,gs1,tk,r3,sl,os,gs3,hi0',gs4,wa,wb,b9]
end
section
variable (b c br kk t : Nat) (bl : List Int) (hs : List Nat) (hkk : kk ≤ 63) (hm : hs.length ≤ 4096) (hbl : bl.length ≤ 100000000) (h8 : By bl) (hne : c ≠ br) (h64 : ∀ x ∈ hs, x < 18446744073709551616) (hr : zb hs) (hq : ∀ g ∈ gaps hs, g / 2 ^ kk ≤ 4096)
include hkk hm hbl h8 hne h64 hr hq
theorem rtake_loop:∀(r:List Nat) (i q:Nat) (hp:Hp),hs.drop i=r->i+r.length=hs.length->hp.rd c 0=some (Cu br kk hs.length i (if i=0 then 0 else hs.getD (i-1) 0))->hp.rd br 0=some (Rb t bl q false)->At bl q (jR kk ((gaps hs).drop i))->
  ∃hp' L,B46_3 (.ptr b 0 0) (.ptr c 0 0) (S 2 1 (LI .u64 (nz (hs.take i)))) hp=B46_3 (.ptr b 0 0) (.ptr c 0 0) (S 2 1 (LI .u64 (nz hs))) hp'/\hp'.rd c 0=some (Cu br kk hs.length hs.length L)/\hp'.rd br 0=some (Rb t bl (q+(jR kk ((gaps hs).drop i)).length) false)/\
   hp'.next=hp.next/\∀a,a≠c->a≠br->hp'.get a=hp.get a:=by
 intro r
 induction r with
 |nil=>
  intro i q hp h hil hc hb hat
  have e:i=hs.length:=by simpa using hil
  subst e
  have eg:(gaps hs).drop hs.length=[]:=List.drop_eq_nil_of_le (by simp)
  rw[eg,List.take_length]
  exact⟨hp,_,rfl,hc,by simpa[jR]using hb,rfl,fun _ _ _=>rfl⟩
 | cons x r ih=>
  intro i q hp h hil hc hb hat
  obtain⟨e1,e2,hi,e3⟩:=ql h
  simp only[List.length_cons]at hil
  have hig:i<(gaps hs).length:=by simp;omega
  have gg:=gaps_get hs i hi
  have ex:hs.getD i 0=x:=by rw[List.getD_eq_getElem?_getD,e1];rfl
  have hx:x<18446744073709551616:=h64 x (by rw[<-e3];exact List.getElem_mem _)
  obtain⟨g,hgd⟩:∃g,(gaps hs)[i]?=some g:=⟨_,gg⟩
  have hge:(gaps hs)[i]=g:=(List.getElem?_eq_some_iff.mp hgd).2
  have hgm:g∈gaps hs:=by rw[<-hge];exact List.getElem_mem _
  have hg64:=gaps_lt h64 g hgm
  have hgq:=hq g hgm
  have hdr:(gaps hs).drop i=g::(gaps hs).drop (i+1):=by rw[List.drop_eq_getElem_cons hig,hge]
  have hxg:x=if i=0 then g else(if i=0 then 0 else hs.getD (i-1) 0)+1+g:=by
   rw[gg]at hgd
   have hgd:=Option.some.inj hgd
   by_cases h0:i=0
   ·subst h0
    rw[if_pos rfl]at hgd⊢
    rw[<-hgd,ex]
   ·rw[if_neg h0]at hgd⊢
    have hlt:=xG hs hr (i-1) (by omega)
    have e:i-1+1=i:=by omega
    rw[e]at hlt
    rw[if_neg h0]
    omega
  rw[hdr]at hat⊢
  have eb:jR kk (g::(gaps hs).drop (i+1))=una (g/2^kk)++nbs g kk++jR kk ((gaps hs).drop (i+1)):=rfl
  rw[eb]at hat⊢
  obtain⟨at1,at2⟩:=hat.app
  have nx:=run_cnext c br kk hs.length t bl hkk (by omega) hbl h8 hne i _ g x q hi hg64 hgq hx hxg hp hc hb at1
  have el:(una (g/2^kk)++nbs g kk++jR kk ((gaps hs).drop (i+1))).length=(una (g/2^kk)++nbs g kk).length+(jR kk ((gaps hs).drop (i+1))).length:=List.length_append
  have ap:=appI .u64 (nz (hs.take i)) 2 (.inr rfl) 8 (by decide) (x:Int) (by simp;omega)
  have es:nz (hs.take i)++[(x:Int)]=nz (hs.take (i+1)):=by
   have a1:hs.take (i+1)=hs.take i++[x]:=by rw[List.take_add_one,e1];rfl
   rw[a1,nz_snoc]
  rw[es]at ap
  obtain⟨hp2,L,a1,a2,a3,a4,a5⟩:=ih (i+1) (q+(una (g/2^kk)++nbs g kk).length) ((hp.put br 0 (Rb t bl (q+(una (g/2^kk)++nbs g kk).length) false)).put c 0 (Cu br kk hs.length (i+1) x)) e2 (by omega)
   (by rw[qh,if_neg (by omega),Nat.add_sub_cancel,ex]) (by rw[qp _ _ (fun e=>hne e.symm),qh]) at2
  refine⟨hp2,L,?_,a2,by rw[a3,el,Nat.add_assoc],by rw[a4];rfl,fun a h1 h2=>by rw[a5 a h1 h2];simp[Hp.put,h1,h2]⟩
  rw[<-a1,B46_3_eq]
  generalize(hp.put br 0 (Rb t bl (q+(una (g/2^kk)++nbs g kk).length) false)).put c 0 (Cu br kk hs.length (i+1) x)=H1 at*
  generalize nz (hs.take (i+1))=L1 at*
  generalize nz (hs.take i)=L0 at*
  simp[nx,okV,ap]
end
theorem yp(b k:Nat)(l:List Int)(hl:l.length<=1000000000){p:Nat}{a r:List Int}(h:l.drop p=a++r)(hp:Hp)(hpl:p<=l.length)(hr:hp.rd b 0=some (Rc k l p 0)):
  ∃t,run cxX 102 [.ptr b 0 0,.sc (.int .i64 (a.length:Int))] hp=some (S t 1 (LI .u8 a),hp.put b 0 (Rc k l (p+a.length) 0)):=by
 have q:=qT hpl h
 obtain⟨t,e⟩:=run_rbytes b k l p 0 hp a.length hl (by omega) hpl hr
 have hL:¬(rL l p 0<a.length):=by unfold rL;rw[if_pos rfl];omega
 have ht:(l.drop p).take a.length=a:=by rw[h,List.take_left]
 rw[if_neg hL]at e
 by_cases h0:a.length=0
 ·have ha:a=[]:=List.length_eq_zero_iff.mp h0
  subst ha
  rw[if_pos (show([]:List Int).length=0 from rfl)]at e
  have hps:=zd hr
  simp only[List.length_nil,Nat.add_zero]
  rw[hps]
  exact⟨2,e⟩
 ·rw[if_neg h0,ht]at e
  exact⟨t,e⟩
theorem run_open(b k:Nat)(l:List Int)(hl:l.length<=1000000000)(h8:By l)(n kk:Nat)(bl:List Int)(hn:n<=4096)(hkk:kk<=63)(hbl:bl.length<=1048576)(p:Nat)(rest:List Int)(hd:l.drop p=uv n++((kk:Int)::(uv bl.length++(bl++rest))))(hp:Hp)(hpl:p<=l.length)(hb:b<hp.next)(hr:hp.rd b 0=some (Rc k l p 0)):
  ∃hp' t,run cxX 98 [.ptr b 0 0] hp=some (.ptr hp.next 0 0,hp')/\hp'.rd hp.next 0=some (Cu (hp.next+1) kk n 0 0)/\hp'.rd (hp.next+1) 0=some (Rb t bl 0 false)/\hp'.rd b 0=some (Rc k l (p+(uv n).length+1+(uv bl.length).length+bl.length) 0)/\
   hp'.next=hp.next+2/\∀a,a<hp.next->a≠b->hp'.get a=hp.get a:=by
 have t0:=zj b k l hl h8 (most:=4096) hd (by omega) (by omega) hp hpl hr
 have d0:=qG hd
 have q0:=qT hpl hd
 have t1:=zk b k l hl d0 (hp.put b 0 (Rc k l (p+(uv n).length) 0)) q0 (qh _ _ _)
 rw[qj]at t1
 obtain⟨_,d1,hi1,_⟩:=ql d0
 generalize eP1:p+(uv n).length+1=P1 at*
 have hne:b≠hp.next:=by omega
 let C0:List AV:=[.sc (.pointer none),.sc (.int .i64 (kk:Int)),.sc (.int .i64 (n:Int)),.sc (.int .i64 0),.sc (.int .u64 0),.sc (.bool false)]
 have rA:((hp.put b 0 (Rc k l P1 0)).new C0).rd b 0=some (Rc k l P1 0):=by rw[zE _ _ (by simpa using hne),qh]
 have t2:=zj b k l hl h8 (most:=1048576) d1 hbl (by omega) ((hp.put b 0 (Rc k l P1 0)).new C0) (by omega) rA
 have d2:=qG d1
 have q2:=qT (by omega) d1
 generalize eP2:P1+(uv bl.length).length=P2 at*
 obtain⟨t,t3⟩:=yp b k l hl d2 (((hp.put b 0 (Rc k l P1 0)).new C0).put b 0 (Rc k l P2 0)) q2 (qh _ _ _)
 rw[qj]at t3
 have d3:=qG d2
 have q3:=qT q2 d2
 generalize eP3:P2+bl.length=P3 at*
 generalize hH:((hp.put b 0 (Rc k l P1 0)).new C0).put b 0 (Rc k l P3 0)=H at*
 have hHb:H.rd b 0=some (Rc k l P3 0):=by rw[<-hH,qh]
 have hHc:H.rd hp.next 0=some C0:=by rw[<-hH,qp _ _ (fun e=>hne e.symm)];exact qs (hp.put b 0 _) _
 have hHn:H.next=hp.next+1:=by rw[<-hH];rfl
 have er:=zg b k l P3 0 H hHb
 have br:=run_bread t bl H
 rw[hHn]at br
 have hc2:(H.new (Rb (rk t) bl 0 false)).rd hp.next 0=some C0:=by rw[zE _ _ (by omega)];exact hHc
 refine⟨(H.new (Rb (rk t) bl 0 false)).put hp.next 0 (Cu (hp.next+1) kk n 0 0),rk t,?_,qh _ _ _,?_,?_,by show H.next+1=_;omega,fun a ha hab=>?_⟩
 ·have w1:IntKind.i64.wrap (n:Int)=(n:Int):=qf (by omega) (by omega)
  have w2:IntKind.i64.wrap (kk:Int)=(kk:Int):=qf (by omega) (by omega)
  have w3:IntKind.i64.wrap (bl.length:Int)=(bl.length:Int):=qf (by omega) (by omega)
  have l1:((4096:Nat):Int)=4096:=rfl
  have l2:((1048576:Nat):Int)=1048576:=rfl
  rw[l1]at t0
  rw[l2]at t2
  have hk:¬((64:Int)<=(kk:Int)):=by omega
  have gs1:∀(x0:AV) (v:Value) (r:List AV),qe (x0::.sc v::r) 1=some v:=fun _ _ _=>rfl
  have p0:∀(x0 x1 x2 x3 x4 x5 z:AV),putN [x0,x1,x2,x3,x4,x5] 0 [z]=some [z,x1,x2,x3,x4,x5]:=fun _ _ _ _ _ _ _=>rfl
  simp only[C0]at t2 t3 hHc hc2
  have b5:∀t',rk t'=rk t->B98_5 (.ptr b 0 0) (.ptr hp.next 0 0) (S t' 1 (LI .u8 bl)) H=some (.ptr hp.next 0 0,(H.new (Rb (rk t) bl 0 false)).put hp.next 0 (Cu (hp.next+1) kk n 0 0)):=by
   intro t' ht
   have br':=run_bread (rk t) bl H
   rw[hHn,rk_rk]at br'
   have cn:qg 1 (.ptr (hp.next+1) 0 0)=some [.ptr (hp.next+1) 0 0]:=rfl
   rw[B98_5_eq]
   generalize H.new (Rb (rk t) bl 0 false)=H9 at*
   simp[er,ht,br',hc2,p0,cn]
   rfl
  have hAn:(hp.put b 0 (Rc k l P1 0)).next=hp.next:=rfl
  generalize hp.put b 0 (Rc k l P1 0)=HA at*
  generalize hp.put b 0 (Rc k l (p+(uv n).length) 0)=HB at*
  rw[E98]
  simp[t0,yg,w1,t1,jy,w2,hAn,t2,w3,t3,hHc,gs1,hk,b5,rk_rk]
 ·rw[qp _ _ (by omega),<-hHn];exact qs _ _
 ·rw[qp _ _ hne,zE _ _ (by omega)];exact hHb
 ·have h1:a≠hp.next:=by omega
  have h2:a≠H.next:=by omega
  have e1:((H.new (Rb (rk t) bl 0 false)).put hp.next 0 (Cu (hp.next+1) kk n 0 0)).get a=H.get a:=by simp[Hp.put,Hp.new,h1,h2]
  rw[e1,<-hH]
  simp[Hp.put,Hp.new,h1,hab]
theorem run_cnone(c br kk many last:Nat)(hm:many<=100000)(hp:Hp)(h:hp.rd c 0=some (Cu br kk many many last)):run cxX 99 [.ptr c 0 0] hp=some (.tup [.sc (.int .u64 0),.sc (.bool false)],hp):=by
 have lf:=run_cleft c br kk many many last (Nat.le_refl _) hm hp h
 rw[Nat.sub_self]at lf
 rw[E99]
 simp[lf]
theorem run_cend(c br kk many last:Nat)(hm:many<=100000)(t:Nat)(bl:List Int)(hbl:bl.length<=100000000)(h8:By bl)(q:Nat)(hq:q<=8*bl.length)(he:rbend bl q false=0)(hp:Hp)(h:hp.rd c 0=some (Cu br kk many many last))(hr:hp.rd br 0=some (Rb t bl q false)):
  run cxX 100 [.ptr c 0 0] hp=some (.sc (.int .i64 0),hp):=by
 have e:=run_bend br t bl q false hp hbl h8 hq hr
 rw[he]at e
 have gs5:∀(x0 x1 x2 x3 x4:AV) (v:Value) (r:List AV),qe (x0::x1::x2::x3::x4::.sc v::r) 5=some v:=fun _ _ _ _ _ _ _=>rfl
 have gs3:∀(x0 x1 x2:AV) (v:Value) (r:List AV),qe (x0::x1::x2::.sc v::r) 3=some v:=fun _ _ _ _ _=>rfl
 have gs2:∀(x0 x1:AV) (v:Value) (r:List AV),qe (x0::x1::.sc v::r) 2=some v:=fun _ _ _ _=>rfl
 have gc0:∀(x:AV) (l:List AV),getC (x::l) 0=some x:=fun _ _=>rfl
 rw[E100]
 simp[h,gs5,gs3,gs2,B100_5_eq,gc0,e]
theorem run_rtake(b k:Nat)(l:List Int)(hl:l.length<=1000000000)(h8:By l)(hs:List Nat)(hn:hs.length<=1024)(h64:∀x∈hs,x<18446744073709551616)(hri:zb hs)(p:Nat)(rest:List Int)(hd:l.drop p=ricY hs++rest)(hp:Hp)(hpl:p<=l.length)(hb:b<hp.next)(hr:hp.rd b 0=some (Rc k l p 0)):
  ∃hp',run cxX 46 [.ptr b 0 0] hp=some (S 2 1 (LI .u64 (nz hs)),hp')/\hp'.rd b 0=some (Rc k l (p+(ricY hs).length) 0)/\hp'.next=hp.next+2/\∀a,a<hp.next->a≠b->hp'.get a=hp.get a:=by
 obtain⟨k63,hq⟩:=parR_ok (gs:=gaps hs) (gaps_lt h64)
 have rl:=rbits_len (parR (gaps hs)) k63 (gaps hs) hq
 rw[gaps_len]at rl
 have eR:ricB (gaps hs)=jR (parR (gaps hs)) (gaps hs):=rfl
 have b8:By (pk (ricB (gaps hs))):=fun x hx=>pk_rng hx
 have hbl:(pk (ricB (gaps hs))).length<=1048576:=by rw[zK,eR];omega
 have ey:ricY hs=uv hs.length++((parR (gaps hs):Int)::(uv (pk (ricB (gaps hs))).length++(pk (ricB (gaps hs))))):=by unfold ricY;simp
 have ed:ricY hs++rest=uv hs.length++((parR (gaps hs):Int)::(uv (pk (ricB (gaps hs))).length++(pk (ricB (gaps hs))++rest))):=by rw[ey];simp
 have el:(ricY hs).length=(uv hs.length).length+1+(uv (pk (ricB (gaps hs))).length).length+(pk (ricB (gaps hs))).length:=by rw[ey];simp only[List.length_append,List.length_cons];omega
 rw[ed]at hd
 obtain⟨hp1,t,a1,a2,a3,a4,a5,a6⟩:=run_open b k l hl h8 hs.length (parR (gaps hs)) (pk (ricB (gaps hs))) (by omega) k63 hbl p rest hd hp hpl hb hr
 have hne:hp.next≠hp.next+1:=by omega
 obtain⟨hp2,L,c1,c2,c3,c4,c5⟩:=rtake_loop b hp.next (hp.next+1) (parR (gaps hs)) t (pk (ricB (gaps hs))) hs k63 (by omega) (by omega) b8 hne h64 hri hq hs 0 0 hp1 rfl (by omega) a2 a3 (by rw[List.drop_zero,<-eR];exact At.pk _)
 rw[List.drop_zero,<-eR,Nat.zero_add]at c3
 have hb2:hp2.rd b 0=some (Rc k l (p+(ricY hs).length) 0):=by
  rw[Hp.rd,c5 b (by omega) (by omega),<-Hp.rd,a4,el]
  congr 2
  omega
 refine⟨hp2,?_,hb2,by omega,fun a h1 h2=>by rw[c5 a (by omega) (by omega),a6 a h1 h2]⟩
 have nx:=run_cnone hp.next (hp.next+1) (parR (gaps hs)) hs.length L (by omega) hp2 c2
 have en:=run_cend hp.next (hp.next+1) (parR (gaps hs)) hs.length L (by omega) t (pk (ricB (gaps hs))) (by omega) b8 (ricB (gaps hs)).length (by rw[zK];omega) (bend_at _) hp2 c2 c3
 have er:=zg b k l (p+(ricY hs).length) 0 hp2 hb2
 have pr:=run_param hs 3 (by omega) h64 hri hp0
 have gs1:∀(x0:AV) (v:Value) (r:List AV),qe (x0::.sc v::r) 1=some v:=fun _ _ _=>rfl
 rw[E46]
 have c1':B46_3 (.ptr b 0 0) (.ptr hp.next 0 0) (S 2 1 []) hp1=B46_3 (.ptr b 0 0) (.ptr hp.next 0 0) (S 2 1 (LI .u64 (nz hs))) hp2:=c1
 generalize parR (gaps hs)=K at*
 simp[a1,c1']
 rw[B46_3_eq]
 simp[nx,en,B46_9_eq,er,pr,c2,gs1,B46_11_eq]
def tot:List (Nat×Nat)->Nat
 |[]=>0
 |c::r=>pcn c.2 256+tot r
theorem tot_app(a b:List (Nat×Nat)):tot (a++b)=tot a+tot b:=by
 induction a with
 |nil=>simp[tot]
 |cons c a ih=>simp[tot,ih];omega
def lsF(key m:Nat):Nat->Nat->List Nat
 |0,_=>[]
 |f+1,i=>if m.testBit i then(key*256+i)::lsF key m f (i+1)else lsF key m f (i+1)
def lsC:List (Nat×Nat)->List Nat
 |[]=>[]
 |c::r=>lsF c.1 c.2 256 0++lsC r
theorem lsF_pcn(key m:Nat):∀f i,(lsF key m f i).length+pcn m i=pcn m (i+f):=by
 intro f
 induction f with
 |zero=>intro i;simp[lsF]
 | succ f ih=>
  intro i
  have h:=ih (i+1)
  have e:i+1+f=i+(f+1):=by omega
  rw[e]at h
  have e2:pcn m (i+1)=pcn m i+(m.testBit i).toNat:=rfl
  rw[e2]at h
  unfold lsF
  cases hb:m.testBit i
  ·rw[hb]at h;simpa using h
  ·rw[hb]at h
   have e3:true.toNat=1:=rfl
   simp only[if_true,List.length_cons]
   omega
theorem lsF_mem(key m:Nat):∀f i y,y∈lsF key m f i↔∃j,i<=j/\j<i+f/\m.testBit j=true/\y=key*256+j:=by
 intro f
 induction f with
 |zero=>intro i y;simp[lsF];omega
 | succ f ih=>
  intro i y
  unfold lsF
  by_cases hb:m.testBit i=true
  ·rw[if_pos hb,List.mem_cons,ih]
   constructor
   ·rintro(h|⟨j,h1,h2,h3,h4⟩)
    ·exact⟨i,Nat.le_refl _,by omega,hb,h⟩
    ·exact⟨j,by omega,by omega,h3,h4⟩
   ·rintro⟨j,h1,h2,h3,h4⟩
    by_cases e:j=i
    ·subst e;exact .inl h4
    ·exact .inr ⟨j,by omega,by omega,h3,h4⟩
  ·rw[if_neg hb,ih]
   constructor
   ·rintro⟨j,h1,h2,h3,h4⟩;exact⟨j,by omega,by omega,h3,h4⟩
   ·rintro⟨j,h1,h2,h3,h4⟩
    by_cases e:j=i
    ·subst e;exact absurd h3 hb
    ·exact⟨j,by omega,by omega,h3,h4⟩
theorem rising_pw:∀l:List Nat,zb l↔l.Pairwise (·<·):=by
 intro l
 induction l with
 |nil=>simp[zb]
 | cons x r ih=>
  rw[List.pairwise_cons,<-ih]
  constructor
  ·intro h;exact⟨rising_lt r x h,jQ h⟩
  ·rintro⟨h1,h2⟩
   cases r with
   |nil=>exact trivial
   |cons y r=>exact⟨h1 y (by simp),h2⟩
theorem lsF_pw(key m:Nat):∀f i,(lsF key m f i).Pairwise (·<·):=by
 intro f
 induction f with
 |zero=>intro i;exact List.Pairwise.nil
 | succ f ih=>
  intro i
  unfold lsF
  split
  ·refine List.Pairwise.cons (fun y hy=>?_) (ih _)
   obtain⟨j,h1,_,_,h4⟩:=(lsF_mem key m f (i+1) y).mp hy
   omega
  ·exact ih _
theorem lsC_mem:∀(cs:List (Nat×Nat)) (y:Nat),y∈lsC cs↔∃c∈cs,c.1=y/256/\c.2.testBit (y%256)=true:=by
 intro cs
 induction cs with
 |nil=>intro y;simp[lsC]
 | cons c r ih=>
  intro y
  show y∈lsF c.1 c.2 256 0++lsC r↔_
  rw[List.mem_append,lsF_mem,ih]
  constructor
  ·rintro(⟨j,h1,h2,h3,h4⟩|⟨d,h1,h2⟩)
   ·have e1:y/256=c.1:=by omega
    have e2:y%256=j:=by omega
    exact⟨c,by simp,e1.symm,by rw[e2];exact h3⟩
   ·exact⟨d,by simp[h1],h2⟩
  ·rintro⟨d,h1,h2,h3⟩
   rcases List.mem_cons.mp h1 with e|h1
   ·subst e;exact .inl ⟨y%256,by omega,by omega,h3,by omega⟩
   ·exact .inr ⟨d,h1,h2,h3⟩
theorem lsC_rising:∀(cs:List (Nat×Nat)),zb (cs.map (·.1))->(lsC cs).Pairwise (·<·):=by
 intro cs
 induction cs with
 |nil=>intro _;exact List.Pairwise.nil
 |cons c r ih=>
  intro h
  show(lsF c.1 c.2 256 0++lsC r).Pairwise (·<·)
  rw[List.pairwise_append]
  refine⟨lsF_pw _ _ _ _,ih (jQ h),fun x hx y hy=>?_⟩
  obtain⟨j,_,h2,_,h4⟩:=(lsF_mem _ _ _ _ x).mp hx
  obtain⟨d,d1,d2,_⟩:=(lsC_mem r y).mp hy
  have:c.1<d.1:=rising_lt _ _ h d.1 (List.mem_map.mpr ⟨d,d1,rfl⟩)
  omega
theorem chs_keys:∀l:List Nat,zb l->zb ((chs l).map (·.1)):=by
 intro l
 induction l with
 |nil=>intro _;exact trivial
 | cons x r ih=>
  intro h
  have i:=ih (jQ h)
  have hm:=(chs_mem (x::r) h).1
  have e:chs (x::r)=putC x (chs r):=rfl
  rw[e]at hm⊢
  generalize hc:chs r=cs at*
  cases cs with
  |nil=>exact trivial
  | cons c cs=>
   rw[zF]at hm⊢
   by_cases hk:c.1=x/256
   ·rw[if_pos hk]at hm⊢
    exact i
   ·rw[if_neg hk]at hm⊢
    have:=hm c (by simp) x (by simp)
    exact⟨by show x/256<c.1;omega,i⟩
theorem lsC_chs(l:List Nat)(h:zb l):lsC (chs l)=l:=
 rising_ext _ _ ((rising_pw _).mpr (lsC_rising _ (chs_keys l h))) h (fun y=>by rw[lsC_mem,(chs_mem l h).2])
theorem pcn_or(m i:Nat):∀n,pcn (m|||2^i) n<=pcn m n+(decide (i<n)).toNat:=by
 intro n
 induction n with
 |zero=>exact Nat.zero_le _
 | succ n ih=>
  show pcn (m|||2^i) n+((m|||2^i).testBit n).toNat<=pcn m n+(m.testBit n).toNat+_
  rw[Nat.testBit_or,Nat.testBit_two_pow]
  by_cases e:i=n
  ·subst e
   have h1:decide (i<i)=false:=by simp
   have h2:decide (i<i+1)=true:=by simp
   rw[h1]at ih
   rw[h2]
   have:=b2n (m.testBit i||decide (i=i))
   have e1:true.toNat=1:=rfl
   have e0:false.toNat=0:=rfl
   omega
  ·have h2:decide (i<n+1)=decide (i<n):=by
    by_cases h:i<n
    ·have:i<n+1:=by omega
     simp[h,this]
    ·have:¬(i<n+1):=by omega
     simp[h,this]
   have h3:decide (i=n)=false:=by simp[e]
   rw[h2,h3,Bool.or_false]
   omega
theorem pcn_zero:∀n,pcn 0 n=0:=by
 intro n
 induction n with
 |zero=>rfl
 |succ n ih=>show pcn 0 n+_=0;rw[ih,Nat.zero_testBit];rfl
theorem tot_put(x:Nat)(cs:List (Nat×Nat)):tot (putC x cs)<=tot cs+1:=by
 have hp:pcn (2^(x%256)) 256<=1:=by
  have:=pcn_or 0 (x%256) 256
  rw[Nat.zero_or,pcn_zero]at this
  have:=b2n (decide (x%256<256))
  omega
 cases cs with
 |nil=>show pcn (2^(x%256)) 256+0<=0+1;omega
 | cons c r=>
  rw[zF]
  split
  ·show pcn (c.2|||2^(x%256)) 256+tot r<=pcn c.2 256+tot r+1
   have:=pcn_or c.2 (x%256) 256
   have:=b2n (decide (x%256<256))
   omega
  ·show pcn (2^(x%256)) 256+(pcn c.2 256+tot r)<=pcn c.2 256+tot r+1
   omega
theorem tot_chs:∀l,tot (chs l)<=l.length:=by
 intro l
 induction l with
 |nil=>exact Nat.le_refl _
 |cons x r ih=>
  have:=tot_put x (chs r)
  show tot (putC x (chs r))<=r.length+1
  omega
theorem mod_bit(m i:Nat):m%2^(i+1)=if m.testBit i then m%2^i|||2^i else m%2^i:=by
 apply Nat.eq_of_testBit_eq
 intro j
 by_cases e:i=j
 ·subst e
  by_cases h:m.testBit i=true
  ·rw[if_pos h,Nat.testBit_mod_two_pow,Nat.testBit_or,Nat.testBit_mod_two_pow,Nat.testBit_two_pow]
   simp[h]
  ·rw[if_neg h,Nat.testBit_mod_two_pow,Nat.testBit_mod_two_pow]
   simp at h
   simp[h]
 ·have d:decide (j<i+1)=decide (j<i):=by
   by_cases h:j<i
   ·simp[h];omega
   ·simp[h];omega
  by_cases h:m.testBit i=true
  ·rw[if_pos h,Nat.testBit_mod_two_pow,Nat.testBit_or,Nat.testBit_mod_two_pow,Nat.testBit_two_pow,d]
   simp[e]
  ·rw[if_neg h,Nat.testBit_mod_two_pow,Nat.testBit_mod_two_pow,d]
theorem run_chadd1(c:Nat×Nat)(b i:Nat)(hi:i<256)(hp:Hp)(h:hp.rd b 0=some (Cc c)):
  run cxX 80 [.ptr b 0 0,.sc (.int .u8 (i:Int))] hp=some (.tup [],hp.put b 0 (Cc (c.1,c.2|||2^i))):=by
 have e:∀c,csL ([]++[c])=Cc c:=fun c=>by simp[csL]
 have a:=run_chadd [] c b i hi hp (by rw[e];exact h)
 rw[e]at a
 exact a
section
variable (b k : Nat) (l : List Int) (hl : l.length ≤ 1000000000) (ob : Nat) (hob : ob ≠ b) (key m : Nat)
include hl hob
theorem tarr_loop(N:Nat)(hN:N<=256)(rest:List Int):∀(f i p n:Nat) (last:Int) (hp:Hp),i+f=256->n+(arrF m f i).length=N->last<i->-1<=last->l.drop p=arrF m f i++rest->p<=l.length->hp.rd b 0=some (Rc k l p 0)->hp.rd ob 0=some (Cc (key,m%2^i))->
  ∃hp',B144_2 (.ptr ob 0 0) (.ptr b 0 0) (.int .i64 last) (.int .i64 (N:Int)) (.int .i64 (n:Int)) hp=some (.tup [],hp')/\hp'.rd b 0=some (Rc k l (p+(arrF m f i).length) 0)/\hp'.rd ob 0=some (Cc (key,m%2^256))/\hp'.next=hp.next/\∀a,a≠b->a≠ob->hp'.get a=hp.get a:=by
 intro f
 induction f with
 |zero=>
  intro i p n last hp hi hn hla hla2 hd hpl hr hc
  have e:i=256:=by omega
  subst e
  have e2:n=N:=hn
  subst e2
  refine⟨hp,?_,hr,hc,rfl,fun _ _ _=>rfl⟩
  rw[B144_2_eq]
  simp
 | succ f ih=>
  intro i p n last hp hi hn hla hla2 hd hpl hr hc
  have mb:=mod_bit m i
  by_cases hb:m.testBit i=true
  ·have ea:arrF m (f+1) i=(i:Int)::arrF m f (i+1):=by rw[arrF,if_pos hb]
   rw[if_pos hb]at mb
   rw[ea]at hn hd⊢
   simp only[List.length_cons]at hn⊢
   have tb:=zk b k l hl hd hp hpl hr
   obtain⟨_,d0,hi0,_⟩:=ql hd
   have er:=zg b k l (p+1) 0 (hp.put b 0 (Rc k l (p+1) 0)) (qh _ _ _)
   have ca:=run_chadd1 (key,m%2^i) ob i (by omega) (hp.put b 0 (Rc k l (p+1) 0)) (by rw[qp _ _ hob];exact hc)
   simp only at ca
   rw[<-mb]at ca
   obtain⟨hp2,a1,a2,a3,a4,a5⟩:=ih (i+1) (p+1) (n+1) (i:Int) ((hp.put b 0 (Rc k l (p+1) 0)).put ob 0 (Cc (key,m%2^(i+1)))) (by omega) (by omega) (by omega) (by omega) d0 (by omega) (by rw[qp _ _ (fun q=>hob q.symm),qh]) (qh _ _ _)
   refine⟨hp2,?_,by rw[a2];congr 2;omega,a3,by rw[a4];rfl,fun a c1 c2=>by rw[a5 a c1 c2];simp[Hp.put,c1,c2]⟩
   rw[<-a1,B144_2_eq]
   have w1:IntKind.i64.wrap (i:Int)=(i:Int):=qf (by omega) (by omega)
   have w2:IntKind.u8.wrap (i:Int)=(i:Int):=zo (by omega) (by omega)
   have w3:IntKind.i64.wrap ((n:Int)+1)=((n+1:Nat):Int):=by rw[qf]<;>omega
   have hlt:(n:Int)<(N:Int):=by omega
   have hle:¬((i:Int)<=last):=by omega
   generalize(hp.put b 0 (Rc k l (p+1) 0)).put ob 0 (Cc (key,m%2^(i+1)))=H2 at*
   generalize hp.put b 0 (Rc k l (p+1) 0)=H1 at*
   generalize((n+1:Nat):Int)=n1 at*
   simp[hlt,tb,jy,w1,er,hle,zD,w2,ca,w3]
  ·have ea:arrF m (f+1) i=arrF m f (i+1):=by rw[arrF,if_neg hb]
   rw[if_neg hb]at mb
   rw[ea]at hn hd⊢
   exact ih (i+1) p n last hp (by omega) hn (by omega) hla2 hd hpl hr (by rw[mb];exact hc)
omit hl hob in
theorem trow_in(N n fr mo:Nat)(hm:fr+mo<256):∀(g j:Nat) (hp:Hp),j+g=fr+mo+1->(∀x,j<=x->x<=fr+mo->m.testBit x=true)->n<1000->hp.rd ob 0=some (Cc (key,m%2^j))->
  B145_8 (.ptr ob 0 0) (.ptr b 0 0) (.int .i64 (fr:Int)) (.int .i64 (mo:Int)) (.int .i64 (j:Int)) (.int .i64 (N:Int)) (.int .i64 (n:Int)) hp=
   B145_2 (.ptr ob 0 0) (.ptr b 0 0) (.int .i64 ((fr+mo:Nat):Int)) (.int .i64 (N:Int)) (.int .i64 ((n+1:Nat):Int)) (hp.put ob 0 (Cc (key,m%2^(fr+mo+1)))):=by
 intro g
 have w1:IntKind.i64.wrap ((fr:Int)+(mo:Int))=((fr+mo:Nat):Int):=by rw[qf]<;>omega
 induction g with
 |zero=>
  intro j hp hj hb hn hc
  have e:j=fr+mo+1:=by omega
  subst e
  have w2:IntKind.i64.wrap ((n:Int)+1)=((n+1:Nat):Int):=by rw[qf]<;>omega
  have hle:¬(((fr+mo+1:Nat):Int)<=((fr+mo:Nat):Int)):=by omega
  rw[zd hc,B145_8_eq]
  generalize((fr+mo+1:Nat):Int)=q1 at*
  generalize((fr+mo:Nat):Int)=q2 at*
  generalize((n+1:Nat):Int)=n1 at*
  simp[w1,hle,w2]
 |succ g ih=>
  intro j hp hj hb hn hc
  have mb:=mod_bit m j
  rw[if_pos (hb j (Nat.le_refl _) (by omega))]at mb
  have ca:=run_chadd1 (key,m%2^j) ob j (by omega) hp hc
  simp only at ca
  rw[<-mb]at ca
  have i2:=ih (j+1) (hp.put ob 0 (Cc (key,m%2^(j+1)))) (by omega) (fun x h1 h2=>hb x (by omega) h2) hn (qh _ _ _)
  rw[qj]at i2
  rw[<-i2,B145_8_eq]
  have w2:IntKind.u8.wrap (j:Int)=(j:Int):=zo (by omega) (by omega)
  have w3:IntKind.i64.wrap ((j:Int)+1)=((j+1:Nat):Int):=by rw[qf]<;>omega
  have hle:(j:Int)<=((fr+mo:Nat):Int):=by omega
  generalize hp.put ob 0 (Cc (key,m%2^(j+1)))=H1 at*
  generalize((fr+mo:Nat):Int)=q2 at*
  generalize((j+1:Nat):Int)=n1 at*
  simp[w1,hle,zD,w2,ca,w3]
theorem trow_loop(N:Nat)(hN:N<=256)(rest:List Int):∀(f i p n:Nat) (last:Int) (hp:Hp),256<=i+f->i<=256->2*n+(rnF m f i).length=2*N->last<i->-2<=last->(m.testBit i=true->i<256->last+1<i)->l.drop p=rnF m f i++rest->p<=l.length->hp.rd b 0=some (Rc k l p 0)->hp.rd ob 0=some (Cc (key,m%2^i))->
    ∃hp',B145_2 (.ptr ob 0 0) (.ptr b 0 0) (.int .i64 last) (.int .i64 (N:Int)) (.int .i64 (n:Int)) hp=some (.tup [],hp')/\hp'.rd b 0=some (Rc k l (p+(rnF m f i).length) 0)/\hp'.rd ob 0=some (Cc (key,m%2^256))/\hp'.next=hp.next/\∀a,a≠b->a≠ob->hp'.get a=hp.get a:=by
  intro f
  have done:∀(i p n:Nat) (last:Int) (hp:Hp),i=256->2*n+0=2*N->hp.rd b 0=some (Rc k l p 0)->hp.rd ob 0=some (Cc (key,m%2^i))->
      ∃hp',B145_2 (.ptr ob 0 0) (.ptr b 0 0) (.int .i64 last) (.int .i64 (N:Int)) (.int .i64 (n:Int)) hp=some (.tup [],hp')/\hp'.rd b 0=some (Rc k l (p+0) 0)/\hp'.rd ob 0=some (Cc (key,m%2^256))/\hp'.next=hp.next/\∀a,a≠b->a≠ob->hp'.get a=hp.get a:=by
    intro i p n last hp e hn hr hc
    subst e
    have e2:n=N:=by omega
    subst e2
    refine⟨hp,?_,hr,hc,rfl,fun _ _ _=>rfl⟩
    rw[B145_2_eq]
    simp
  induction f with
  | zero=>
    intro i p n last hp hi hi2 hn hla hla2 hbb hd hpl hr hc
    exact done i p n last hp (by omega) hn hr hc
  | succ f ih=>
    intro i p n last hp hi hi2 hn hla hla2 hbb hd hpl hr hc
    by_cases h256:256<=i
    · have ea:rnF m (f+1) i=[]:=by rw[rnF,if_pos h256]
      rw[ea]at hn⊢
      exact done i p n last hp (by omega) hn hr hc
    · by_cases hb:m.testBit i=true
      · obtain⟨r1,r2,r3,r4⟩:=rend_ok m (255-i) i
        have ea:rnF m (f+1) i=(i:Int)::((rend m (255-i) i-i:Nat):Int)::rnF m f (rend m (255-i) i+1):=by rw[rnF,if_neg h256,if_pos hb]
        generalize hE:rend m (255-i) i=E at*
        rw[ea]at hn hd⊢
        simp only[List.length_cons]at hn⊢
        have hg:=hbb hb (by omega)
        have tb:=zk b k l hl hd hp hpl hr
        obtain⟨_,d0,hi0,_⟩:=ql hd
        have tb2:=zk b k l hl d0 (hp.put b 0 (Rc k l (p+1) 0)) (by omega) (qh _ _ _)
        obtain⟨_,d1,hi1,_⟩:=ql d0
        rw[qj]at tb2
        have er:=zg b k l (p+1+1) 0 (hp.put b 0 (Rc k l (p+1+1) 0)) (qh _ _ _)
        obtain⟨mo,hmo⟩:∃mo,E=i+mo:=⟨E-i,by omega⟩
        have emo:E-i=mo:=by omega
        have ti:=trow_in b ob key m N n i mo (by omega) (mo+1) i (hp.put b 0 (Rc k l (p+1+1) 0)) (by omega) (fun x h1 h2=>by
          by_cases e:x=i
          ·rw[e];exact hb
          ·exact r3 x (by omega) (by omega)) (by omega) (by rw[qp _ _ hob];exact hc)
        rw[emo]at tb2
        subst hmo
        obtain⟨hp2,a1,a2,a3,a4,a5⟩:=ih (i+mo+1) (p+1+1) (n+1) ((i+mo:Nat):Int) ((hp.put b 0 (Rc k l (p+1+1) 0)).put ob 0 (Cc (key,m%2^(i+mo+1)))) (by omega) (by omega) (by omega) (by omega) (by omega)
          (fun h1 h2=>by rw[r4 (by omega)]at h1;cases h1) d1 (by omega) (by rw[qp _ _ (fun q=>hob q.symm),qh]) (qh _ _ _)
        refine⟨hp2,?_,by rw[a2];congr 2;omega,a3,by rw[a4];rfl,fun a c1 c2=>by rw[a5 a c1 c2];simp[Hp.put,c1,c2]⟩
        rw[<-a1,<-ti,B145_2_eq]
        have w1:IntKind.i64.wrap (i:Int)=(i:Int):=qf (by omega) (by omega)
        have w2:IntKind.i64.wrap (mo:Int)=(mo:Int):=qf (by omega) (by omega)
        have w3:IntKind.i64.wrap (last+1)=last+1:=by rw[qf]<;>omega
        have w4:IntKind.i64.wrap ((i:Int)+(mo:Int))=(i:Int)+(mo:Int):=by rw[qf]<;>omega
        have hlt:(n:Int)<(N:Int):=by omega
        have hle:¬((i:Int)<=last+1):=by omega
        have h255:¬((255:Int)<(i:Int)+(mo:Int)):=by omega
        generalize hp.put b 0 (Rc k l (p+1+1) 0)=H2 at*
        generalize hp.put b 0 (Rc k l (p+1) 0)=H1 at*
        simp[hlt,tb,tb2,jy,w1,w2,er,w3,hle,w4,h255,B145_7_eq]
      · have ea:rnF m (f+1) i=rnF m f (i+1):=by rw[rnF,if_neg h256,if_neg hb]
        have mb:=mod_bit m i
        rw[if_neg hb]at mb
        rw[ea]at hn hd⊢
        exact ih (i+1) p n last hp (by omega) (by omega) hn (by omega) hla2 (fun _ _=>by omega) hd hpl hr (by rw[mb];exact hc)
end
theorem wrd_tb(m j x:Nat):(wrd m j).testBit x=(decide (x<64)&&m.testBit (64*j+x)):=by
 unfold wrd
 have e:(18446744073709551616:Nat)=2^64:=rfl
 rw[e,Nat.testBit_mod_two_pow,Nat.testBit_div_two_pow,Nat.add_comm]
theorem wrd_byte_or(m i j:Nat)(hi:i<32):wrd (m%2^(8*(i+1))) j=if j=i/8 then wrd (m%2^(8*i)) j|||m/2^(8*i)%256*2^(8*(i%8))else wrd (m%2^(8*i)) j:=by
 have e256:(256:Nat)=2^8:=rfl
 apply Nat.eq_of_testBit_eq
 intro x
 by_cases hj:j=i/8
 ·rw[if_pos hj,wrd_tb,Nat.testBit_or,wrd_tb,Nat.testBit_mul_two_pow,e256,Nat.testBit_mod_two_pow,Nat.testBit_mod_two_pow,Nat.testBit_mod_two_pow,Nat.testBit_div_two_pow]
  by_cases h1:x<8*(i%8)
  ·have a1:x<64:=by omega
   have a2:64*j+x<8*(i+1):=by omega
   have a3:64*j+x<8*i:=by omega
   have a4:¬(8*(i%8)<=x):=by omega
   simp[a1,a2,a3,a4]
  ·by_cases h2:x<8*(i%8)+8
   ·have a1:x<64:=by omega
    have a2:64*j+x<8*(i+1):=by omega
    have a3:¬(64*j+x<8*i):=by omega
    have a4:8*(i%8)<=x:=by omega
    have a5:x-8*(i%8)<8:=by omega
    have a6:x-8*(i%8)+8*i=64*j+x:=by omega
    simp[a1,a2,a3,a4,a5,a6]
   ·have a2:¬(64*j+x<8*(i+1)):=by omega
    have a3:¬(64*j+x<8*i):=by omega
    have a5:¬(x-8*(i%8)<8):=by omega
    simp[a2,a3,a5]
 ·rw [if_neg hj,wrd_tb,wrd_tb,Nat.testBit_mod_two_pow,Nat.testBit_mod_two_pow]
  by_cases h1:x<64
  ·have a:decide (64*j+x<8*(i+1))=decide (64*j+x<8*i):=by
    by_cases h:64*j+x<8*i
    ·have h':64*j+x<8*(i+1):=by omega
     simp[h,h']
    ·have h':¬(64*j+x<8*(i+1)):=by omega
     simp[h,h']
   rw[a]
  ·simp[h1]
theorem putN_by(key m i:Nat)(hi:i<32):putN (Cc (key,m%2^(8*i))) (1+i/8) [.sc (.int .u64 (wrd (m%2^(8*i)) (i/8)|||m/2^(8*i)%256*2^(8*(i%8)):Nat))]=some (Cc (key,m%2^(8*(i+1)))):=by
 have h:i/8=0\/i/8=1\/i/8=2\/i/8=3:=by omega
 have w:=fun j=>wrd_byte_or m i j hi
 have e:Cc (key,m%2^(8*(i+1)))=[.sc (.int .u32 (key:Int)),.sc (.int .u64 (wrd (m%2^(8*(i+1))) 0:Nat)),.sc (.int .u64 (wrd (m%2^(8*(i+1))) 1:Nat)),.sc (.int .u64 (wrd (m%2^(8*(i+1))) 2:Nat)),.sc (.int .u64 (wrd (m%2^(8*(i+1))) 3:Nat))]:=rfl
 rw[e,w 0,w 1,w 2,w 3]
 rcases h with h|h|h|h<;>rw[h]<;>rfl
theorem bmpF_at(m:Nat):∀(f i j:Nat),j<f->(bmpF m f i)[j]?=some ((m/2^(8*(i+j))%256:Nat):Int):=by
 intro f
 induction f with
 |zero=>intro i j h;omega
 | succ f ih=>
  intro i j h
  cases j with
  |zero=>rfl
  |succ j=>
   have:=ih (i+1) j (by omega)
   have e:i+1+j=i+(j+1):=by omega
   rw[e]at this
   exact this
theorem tbmp_loop(b ob t key m:Nat)(b2:List AV):∀(g i:Nat) (hp:Hp),i+g=32->hp.rd ob 0=some (Cc (key,m%2^(8*i)))->
  B94_9 (.ptr b 0 0) (.ptr ob 0 0) (.int .u8 1) (S t 1 (LI .u8 (bmpF m 32 0))) (.int .i64 32) (.int .i64 (i:Int)) b2 hp=B94_15 (.ptr b 0 0) (.ptr ob 0 0) (.int .u8 1) b2 (hp.put ob 0 (Cc (key,m%2^256))):=by
 intro g
 induction g with
 |zero=>
  intro i hp hi hc
  have e:i=32:=by omega
  subst e
  have hc:hp.rd ob 0=some (Cc (key,m%2^256)):=hc
  rw[zd hc,B94_9_eq]
  simp
 | succ g ih=>
  intro i hp hi hc
  have i2:=ih (i+1) (hp.put ob 0 (Cc (key,m%2^(8*(i+1))))) (by omega) (qh _ _ _)
  rw[qj]at i2
  have pb:=putN_by key m i (by omega)
  have hlt:(i:Int)<32:=by omega
  have gb:=bmpF_at m 32 0 i (by omega)
  rw[Nat.zero_add]at gb
  have hB:m/2^(8*i)%256<256:=Nat.mod_lt _ (by decide)
  have gw:=getSc_Cc (key,m%2^(8*i)) (i/8) (by omega)
  have hw:=wrd_lt (m%2^(8*i)) (i/8)
  simp only at gw
  have hs:2^(8*(i%8))<=2^56:=Nat.pow_le_pow_right (by decide) (by omega)
  have e56:(2:Nat)^56=72057594037927936:=rfl
  have sl:=shl_nat' (m/2^(8*i)%256) (8*(i%8)) (by omega) (Nat.lt_of_le_of_lt (Nat.mul_le_mul (Nat.le_of_lt_succ hB) hs) (by omega))
  have hz:m/2^(8*i)%256*2^(8*(i%8))<18446744073709551616:=Nat.lt_of_le_of_lt (Nat.mul_le_mul (Nat.le_of_lt_succ hB) hs) (by omega)
  have o:=or64 _ _ hw hz
  have q8:=quo8 i (by omega)
  have r8:=rem8 i
  have w1:IntKind.i64.wrap (8*((i%8:Nat):Int))=((8*(i%8):Nat):Int):=by rw[qf]<;>omega
  have w2:IntKind.u64.wrap ((m/2^(8*i)%256:Nat):Int)=((m/2^(8*i)%256:Nat):Int):=qr (by omega) (by omega)
  have w3:IntKind.i64.wrap ((i:Int)+1)=((i+1:Nat):Int):=by rw[qf]<;>omega
  have ix:idx 4 (.int .i64 ((i/8:Nat):Int))=some (i/8):=zm .i64 (by omega)
  have ge:idxA 1 (S t 1 (LI .u8 (bmpF m 32 0))) (.int .i64 (i:Int))=some [.sc (.int .u8 ((m/2^(8*i)%256:Nat):Int))]:=by
   rw[idxA_S,if_pos (by omega),Int.toNat_natCast,getI?,gb];rfl
  rw[<-i2,B94_9_eq]
  have gp:∀a b c,qz (AV.ptr a b c)=some (a,b,c):=fun _ _ _=>rfl
  have gs0:∀(v:Value),qe [.sc v] 0=some v:=fun _=>rfl
  have en:Nat.add (Nat.succ 0) (Nat.add 0 (i/8))=1+i/8:=by show Nat.succ 0+(0+i/8)=1+i/8;omega
  have en':Nat.add 1 (Nat.add 0 (i/8))=1+i/8:=by show 1+(0+i/8)=1+i/8;omega
  rw[en']at gw
  generalize((wrd (m%2^(8*i)) (i/8)|||m/2^(8*i)%256*2^(8*(i%8)):Nat):Int)=WO at*
  generalize((wrd (m%2^(8*i)) (i/8):Nat):Int)=W0 at*
  generalize((m/2^(8*i)%256*2^(8*(i%8)):Nat):Int)=BS at*
  generalize((m/2^(8*i)%256:Nat):Int)=BB at*
  generalize((8*(i%8):Nat):Int)=SH at*
  generalize((i%8:Nat):Int)=I8 at*
  generalize((i/8:Nat):Int)=J8 at*
  generalize((i+1:Nat):Int)=I1 at*
  generalize Cc (key,m%2^(8*i))=C0 at*
  generalize Cc (key,m%2^(8*(i+1)))=C1 at*
  simp only[cmb,binV_lss,hlt,decide_true,zN,Option.bind_some,cond_true,ge,gs0,show Int.ofNat 8=8 from rfl,show Int.ofNat 1=1 from rfl,q8,gp,ix,hc,en,gw,cv_5_76,w2,r8,binV_mul,w1,sl,o,pb,zV,w3]
abbrev Z5:List AV:=[.sc (.int .u32 0),.sc (.int .u64 0),.sc (.int .u64 0),.sc (.int .u64 0),.sc (.int .u64 0)]
theorem tchunk_15(b k:Nat)(l:List Int)(p ob:Nat)(c:Nat×Nat)(hc:okC c)(hp:Hp)(hr:hp.rd b 0=some (Rc k l p 0))(hob:hp.rd ob 0=some (Cc c)):
  B94_15 (.ptr b 0 0) (.ptr ob 0 0) (.int .u8 (kind c.2:Nat)) Z5 hp=some (.agg (Cc c),hp):=by
 have er:=zg b k l p 0 hp hr
 have mn:=run_many c hp0
 have bs:=run_best c hp0
 have gp:∀a b c,qz (AV.ptr a b c)=some (a,b,c):=fun _ _ _=>rfl
 have ps:=zd hob
 have hn:¬((pcn c.2 256:Nat):Int)=0:=by have:=hc.2.2;omega
 rw[B94_15_eq]
 unfold Cc at*
 unfold Z5 at*
 generalize((pcn c.2 256:Nat):Int)=PN at*
 generalize((kind c.2:Nat):Int)=KI at*
 generalize((wrd c.2 0:Nat):Int)=W0 at*
 generalize((wrd c.2 1:Nat):Int)=W1 at*
 generalize((wrd c.2 2:Nat):Int)=W2 at*
 generalize((wrd c.2 3:Nat):Int)=W3 at*
 generalize(c.1:Int)=W9 at*
 simp[er,gp,hob,getN,mn,hn,bs,B94_17_eq,putN,qg,ps]
section
variable (b k : Nat) (l : List Int) (hl : l.length ≤ 1000000000) (ob : Nat) (hob : ob ≠ b) (key m : Nat) (hm : m < 2 ^ 256) (h0 : 0 < pcn m 256)
include hl hob hm h0
theorem run_tarray(rest:List Int)(p:Nat)(hp:Hp)(hd:l.drop p=((pcn m 256-1:Nat):Int)::arrF m 256 0++rest)(h32:pcn m 256<=256)(hpl:p<=l.length)(hr:hp.rd b 0=some (Rc k l p 0))(hc:hp.rd ob 0=some (Cc (key,0))):
  ∃hp',run cxX 144 [.ptr ob 0 0,.ptr b 0 0] hp=some (.tup [],hp')/\hp'.rd b 0=some (Rc k l (p+1+(arrF m 256 0).length) 0)/\hp'.rd ob 0=some (Cc (key,m))/\hp'.next=hp.next/\∀a,a≠b->a≠ob->hp'.get a=hp.get a:=by
 have tb:=zk b k l hl hd hp hpl hr
 obtain⟨_,d0,hi0,_⟩:=ql hd
 have e0:m%2^0=0:=Nat.mod_one m
 have em:m%2^256=m:=Nat.mod_eq_of_lt hm
 obtain⟨hp2,a1,a2,a3,a4,a5⟩:=tarr_loop b k l hl ob hob key m (pcn m 256) h32 rest 256 0 (p+1) 0 (-1) (hp.put b 0 (Rc k l (p+1) 0)) rfl (by rw[arrF_len0,Nat.zero_add]) (by omega) (by omega) d0 (by omega) (qh _ _ _) (by rw[e0,qp _ _ hob];exact hc)
 rw[em]at a3
 refine⟨hp2,?_,a2,a3,by rw[a4];rfl,fun a c1 c2=>by rw[a5 a c1 c2];simp[Hp.put,c1,c2]⟩
 have w1:IntKind.i64.wrap ((pcn m 256-1:Nat):Int)=((pcn m 256-1:Nat):Int):=qf (by omega) (by omega)
 have w2:IntKind.i64.wrap (((pcn m 256-1:Nat):Int)+1)=((pcn m 256:Nat):Int):=by rw[qf]<;>omega
 have a1':B144_2 (.ptr ob 0 0) (.ptr b 0 0) (.int .i64 (Int.negSucc 0)) (.int .i64 ((pcn m 256:Nat):Int)) (.int .i64 0) (hp.put b 0 (Rc k l (p+1) 0))=some (.tup [],hp2):=a1
 rw[E144]
 generalize hp.put b 0 (Rc k l (p+1) 0)=H1 at*
 generalize((pcn m 256-1:Nat):Int)=P1 at*
 generalize((pcn m 256:Nat):Int)=P2 at*
 simp at a1'
 simp[tb,jy,w1,w2,a1']
theorem run_trows(rest:List Int)(p:Nat)(hp:Hp)(hd:l.drop p=((rcn m 256-1:Nat):Int)::rnF m 256 0++rest)(h32:rcn m 256<=256)(hpl:p<=l.length)(hr:hp.rd b 0=some (Rc k l p 0))(hc:hp.rd ob 0=some (Cc (key,0))):
  ∃hp',run cxX 145 [.ptr ob 0 0,.ptr b 0 0] hp=some (.tup [],hp')/\hp'.rd b 0=some (Rc k l (p+1+(rnF m 256 0).length) 0)/\hp'.rd ob 0=some (Cc (key,m))/\hp'.next=hp.next/\∀a,a≠b->a≠ob->hp'.get a=hp.get a:=by
 have tb:=zk b k l hl hd hp hpl hr
 obtain⟨_,d0,hi0,_⟩:=ql hd
 have e0:m%2^0=0:=Nat.mod_one m
 have em:m%2^256=m:=Nat.mod_eq_of_lt hm
 have rp:=rcn_pos h0
 obtain⟨hp2,a1,a2,a3,a4,a5⟩:=trow_loop b k l hl ob hob key m (rcn m 256) h32 rest 256 0 (p+1) 0 (-2) (hp.put b 0 (Rc k l (p+1) 0)) (by omega) (by omega) (by rw[rnF_len0];omega) (by omega) (by omega) (fun _ _=>by omega) d0 (by omega) (qh _ _ _) (by rw[e0,qp _ _ hob];exact hc)
 rw[em]at a3
 refine⟨hp2,?_,a2,a3,by rw[a4];rfl,fun a c1 c2=>by rw[a5 a c1 c2];simp[Hp.put,c1,c2]⟩
 have w1:IntKind.i64.wrap ((rcn m 256-1:Nat):Int)=((rcn m 256-1:Nat):Int):=qf (by omega) (by omega)
 have w2:IntKind.i64.wrap (((rcn m 256-1:Nat):Int)+1)=((rcn m 256:Nat):Int):=by rw[qf]<;>omega
 have a1':B145_2 (.ptr ob 0 0) (.ptr b 0 0) (.int .i64 (Int.negSucc 1)) (.int .i64 ((rcn m 256:Nat):Int)) (.int .i64 0) (hp.put b 0 (Rc k l (p+1) 0))=some (.tup [],hp2):=a1
 rw[E145]
 generalize hp.put b 0 (Rc k l (p+1) 0)=H1 at*
 generalize((rcn m 256-1:Nat):Int)=P1 at*
 generalize((rcn m 256:Nat):Int)=P2 at*
 simp at a1'
 simp[tb,jy,w1,w2,a1']
end
theorem run_tchunk(b k:Nat)(l:List Int)(hl:l.length<=1000000000)(h8:By l)(c:Nat×Nat)(hc:okC c)(rest:List Int)(p:Nat)(hp:Hp)(hd:l.drop p=chkY c++rest)(hpl:p<=l.length)(hb:b<hp.next)(hr:hp.rd b 0=some (Rc k l p 0)):
  ∃hp',run cxX 94 [.ptr b 0 0] hp=some (.agg (Cc c),hp')/\hp'.rd b 0=some (Rc k l (p+(chkY c).length) 0)/\hp'.next=hp.next+1/\∀a,a<hp.next->a≠b->hp'.get a=hp.get a:=by
 obtain⟨key,m⟩:=c
 obtain⟨ck,cm,c0⟩:=hc
 simp only at ck cm c0
 have ey:chkY (key,m)++rest=uv key++(((kind m:Nat):Int)::(bodY m++rest)):=by unfold chkY;simp
 have el:(chkY (key,m)).length=(uv key).length+1+(bodY m).length:=by unfold chkY;simp;omega
 rw[ey]at hd
 have t0:=zj b k l hl h8 (most:=16777215) hd (by omega) (by omega) hp hpl hr
 have d0:=qG hd
 have q0:=qT hpl hd
 obtain⟨_,d1,hi1,_⟩:=ql d0
 have hne:hp.next≠b:=by omega
 have hp256:=yy m 256
 have hr256:=rcn_le m 256
 let H0:Hp:=((hp.put b 0 (Rc k l (p+(uv key).length) 0)).new Z5).put hp.next 0 (Cc (key,0))
 have H0b:H0.rd b 0=some (Rc k l (p+(uv key).length) 0):=by
  show(((hp.put b 0 _).new Z5).put hp.next 0 _).rd b 0=_
  rw[qp _ _ (fun e=>hne e.symm),zE _ _ (show b≠(hp.put b 0 _).next from fun e=>hne e.symm),qh]
 have H0c:H0.rd hp.next 0=some (Cc (key,0)):=qh _ _ _
 have t1:=zk b k l hl d0 H0 q0 H0b
 generalize eP1:p+(uv key).length+1=P1 at*
 let H1:Hp:=H0.put b 0 (Rc k l P1 0)
 have H1b:H1.rd b 0=some (Rc k l P1 0):=qh _ _ _
 have H1c:H1.rd hp.next 0=some (Cc (key,0)):=by show(H0.put b 0 _).rd hp.next 0=_;rw[qp _ _ hne];exact H0c
 have H1n:H1.next=hp.next+1:=rfl
 have H1f:∀a,a<hp.next->a≠b->H1.get a=hp.get a:=fun a h1 h2=>by
  have h3:a≠hp.next:=by omega
  simp[H1,H0,Hp.put,Hp.new,h2,h3]
 have key':∃hp',hp'.rd b 0=some (Rc k l (P1+(bodY m).length) 0)/\hp'.rd hp.next 0=some (Cc (key,m))/\hp'.next=H1.next/\(∀a,a≠b->a≠hp.next->hp'.get a=H1.get a)/\
   run cxX 94 [.ptr b 0 0] hp=B94_15 (.ptr b 0 0) (.ptr hp.next 0 0) (.int .u8 (kind m:Nat)) Z5 hp':=by
  have hk:=kind_lt m
  have hAn:(hp.put b 0 (Rc k l (p+(uv key).length) 0)).next=hp.next:=rfl
  have hAr:((hp.put b 0 (Rc k l (p+(uv key).length) 0)).new Z5).rd hp.next 0=some Z5:=qs (hp.put b 0 _) _
  have pz:putN Z5 0 [.sc (.int .u32 (key:Int)),.sc (.int .u64 0),.sc (.int .u64 0),.sc (.int .u64 0),.sc (.int .u64 0)]=some (Cc (key,0)):=by
   unfold Cc
   simp only[wrd_zero]
   rfl
  have w1:IntKind.u32.wrap (key:Int)=(key:Int):=qv (by omega) (by omega)
  have lit:((16777215:Nat):Int)=16777215:=rfl
  rw[lit]at t0
  have kk:kind m=0\/kind m=1\/kind m=2:=by omega
  have fold:((hp.put b 0 (Rc k l (p+(uv key).length) 0)).new Z5).put hp.next 0 (Cc (key,0))=H0:=rfl
  have foldH1:H0.put b 0 (Rc k l P1 0)=H1:=rfl
  rw[foldH1]at t1
  rcases kk with e|e|e
  ·have eb:bodY m=((pcn m 256-1:Nat):Int)::arrF m 256 0:=by unfold bodY;rw[if_pos e]
   have ebl:P1+(bodY m).length=P1+1+(arrF m 256 0).length:=by rw[eb,List.length_cons];omega
   rw[eb]at d1
   obtain⟨hp2,a1,a2,a3,a4,a5⟩:=run_tarray b k l hl hp.next hne key m cm c0 rest P1 H1 d1 hp256 (by omega) H1b H1c
   rw[<-ebl]at a2
   refine⟨hp2,a2,a3,a4,a5,?_⟩
   rw[e]at t1⊢
   rw[E94]
   clear_value H0 H1
   generalize hp.put b 0 (Rc k l (p+(uv key).length) 0)=HA at*
   generalize Cc (key,0)=C0 at*
   simp[t0,zM,w1,hAn,hAr,pz,fold,t1,a1]
  ·have eb:bodY m=bmpF m 32 0:=by unfold bodY;rw[if_neg (by omega),if_pos e]
   rw[eb]at d1⊢
   obtain⟨t,a1⟩:=yp b k l hl d1 H1 (by omega) H1b
   rw[bmpF_len]at a1⊢
   have e0:m%2^(8*0)=0:=Nat.mod_one m
   have em:m%2^256=m:=Nat.mod_eq_of_lt cm
   have a2:=tbmp_loop b hp.next t key m Z5 32 0 (H1.put b 0 (Rc k l (P1+32) 0)) rfl (by rw[e0,qp _ _ hne];exact H1c)
   rw[em]at a2
   refine⟨(H1.put b 0 (Rc k l (P1+32) 0)).put hp.next 0 (Cc (key,m)),?_,qh _ _ _,rfl,fun a h1 h2=>?_,?_⟩
   ·rw[qp _ _ (fun e=>hne e.symm),qh]
   ·simp[Hp.put,h1,h2]
   have o1:((1:Nat):Int)=1:=rfl
   rw[e,o1]at t1⊢
   rw[<-a2,E94]
   clear_value H0 H1
   generalize hp.put b 0 (Rc k l (p+(uv key).length) 0)=HA at*
   generalize Cc (key,0)=C0 at*
   generalize H1.put b 0 (Rc k l (P1+32) 0)=H2 at*
   simp at a1
   simp[t0,zM,w1,hAn,hAr,pz,fold,t1,a1]
  ·have eb:bodY m=((rcn m 256-1:Nat):Int)::rnF m 256 0:=by unfold bodY;rw[if_neg (by omega),if_neg (by omega)]
   have ebl:P1+(bodY m).length=P1+1+(rnF m 256 0).length:=by rw[eb,List.length_cons];omega
   rw[eb]at d1
   obtain⟨hp2,a1,a2,a3,a4,a5⟩:=run_trows b k l hl hp.next hne key m cm c0 rest P1 H1 d1 (by omega) (by omega) H1b H1c
   rw[<-ebl]at a2
   refine⟨hp2,a2,a3,a4,a5,?_⟩
   rw[e]at t1⊢
   rw[E94]
   clear_value H0 H1
   generalize hp.put b 0 (Rc k l (p+(uv key).length) 0)=HA at*
   generalize Cc (key,0)=C0 at*
   simp[t0,zM,w1,hAn,hAr,pz,fold,t1,a1]
 obtain⟨hp2,a2,a3,a4,a5,a6⟩:=key'
 have t15:=tchunk_15 b k l _ hp.next (key,m) ⟨ck,cm,c0⟩ hp2 a2 a3
 refine⟨hp2,by rw[a6];exact t15,?_,by rw[a4,H1n],fun a h1 h2=>by rw[a5 a h2 (by omega),H1f a h1 h2]⟩
 rw[a2,el]
 congr 2
 omega
theorem appA_5(cs:List (Nat×Nat))(c:Nat×Nat)(h:cs.length<=100000):appA 40 5 (S 2 5 (csL cs)) (S 1 5 (Cc c))=some (S 2 5 (csL (cs++[c]))):=by
 have e:csL (cs++[c])=csL cs++Cc c:=by rw[csL_app];simp[csL]
 rw[e]
 exact appA_S 40 5 2 _ _ 1 (.inr rfl) (show Flat (Cc c)from rfl) (.inr (xd (by decide) (by rw[jh];simp;omega)))
theorem ttake_11(b k:Nat)(l:List Int)(p:Nat)(cs:List (Nat×Nat))(hl:cs.length<=4096)(c:Nat×Nat)(T n:Nat)(hT:T+pcn c.2 256<=4096)(hp:Hp):
  B43_11 (.ptr b 0 0) (S 2 5 (csL cs)) (.int .i64 (T:Int)) (.int .u64 (n:Int)) (.int .u64 (cs.length:Int)) (Cc c) hp=
   B43_5 (.ptr b 0 0) (S 2 5 (csL (cs++[c]))) (.int .i64 ((T+pcn c.2 256:Nat):Int)) (.int .u64 (n:Int)) (.int .u64 ((cs.length+1:Nat):Int)) hp:=by
 have mn:=run_many c hp0
 have ap:=appA_5 cs c (by omega)
 have w1:IntKind.i64.wrap ((T:Int)+((pcn c.2 256:Nat):Int))=((T+pcn c.2 256:Nat):Int):=by rw[qf]<;>omega
 have w2:IntKind.u64.wrap ((cs.length:Int)+1)=((cs.length+1:Nat):Int):=by rw[qr]<;>omega
 have h4:¬((4096:Int)<((T+pcn c.2 256:Nat):Int)):=by omega
 rw[B43_11_eq]
 generalize((T+pcn c.2 256:Nat):Int)=T2 at*
 generalize((cs.length+1:Nat):Int)=T3 at*
 generalize csL (cs++[c])=L2 at*
 generalize csL cs=L1 at*
 unfold Cc at*
 generalize((pcn c.2 256:Nat):Int)=PN at*
 generalize((wrd c.2 0:Nat):Int)=W0 at*
 generalize((wrd c.2 1:Nat):Int)=W1 at*
 generalize((wrd c.2 2:Nat):Int)=W2 at*
 generalize((wrd c.2 3:Nat):Int)=W3 at*
 generalize(c.1:Int)=W9 at*
 simp[getN,mn,w1,h4,B43_14_eq,qg,putN,okV,ap,w2]
theorem rising_snd(cs:List (Nat×Nat))(i:Nat)(c d:Nat×Nat)(h:zb (cs.map (·.1)))(h1:cs[i]?=some c) (h2:cs[i+1]?=some d):c.1<d.1:=by
 have hi:=(List.getElem?_eq_some_iff.mp h2).1
 have:=xG _ h i (by simpa using hi)
 rw[List.getD_eq_getElem?_getD,List.getD_eq_getElem?_getD,List.getElem?_map,List.getElem?_map,h1,h2]at this
 exact this
section
variable (b k : Nat) (l : List Int) (hl : l.length ≤ 1000000000) (h8 : By l) (cs : List (Nat × Nat)) (hcs : ∀ c ∈ cs, okC c) (hcl : cs.length ≤ 4096) (htot : tot cs ≤ 4096) (hri : zb (cs.map (·.1)))
include hl h8 hcs hcl htot hri
theorem ttake_loop(rest:List Int):∀(r:List (Nat×Nat)) (i p:Nat) (hp:Hp),cs.drop i=r->i<=cs.length->l.drop p=rowY r++rest->p<=l.length->b<hp.next->hp.rd b 0=some (Rc k l p 0)->
  ∃hp',B43_5 (.ptr b 0 0) (S 2 5 (csL (cs.take i))) (.int .i64 (tot (cs.take i):Nat)) (.int .u64 (cs.length:Int)) (.int .u64 (i:Int)) hp=some (S 2 5 (csL cs),hp')/\hp'.rd b 0=some (Rc k l (p+(rowY r).length) 0)/\hp.next<=hp'.next/\∀a,a<hp.next->a≠b->hp'.get a=hp.get a:=by
 intro r
 induction r with
 |nil=>
  intro i p hp h hil hd hpl hb hr
  have h1:=qt h
  have e:i=cs.length:=by omega
  subst e
  have er:=zg b k l p 0 hp hr
  rw[List.take_length]
  refine⟨hp,?_,by simpa[rowY]using hr,Nat.le_refl _,fun _ _ _=>rfl⟩
  rw[B43_5_eq]
  generalize((tot cs:Nat):Int)=TT
  simp[B43_15_eq,er]
 | cons c r ih=>
  intro i p hp h hil hd hpl hb hr
  obtain⟨e1,e2,hi,e3⟩:=ql h
  have er0:rowY (c::r)=chkY c++rowY r:=rfl
  rw[er0,List.append_assoc]at hd
  rw[er0,List.length_append,<-Nat.add_assoc]
  have hcc:=hcs c (List.mem_of_getElem? e1)
  have er:=zg b k l p 0 hp hr
  obtain⟨hp2,t1,t2,t3,t4⟩:=run_tchunk b k l hl h8 c hcc _ p hp hd hpl hb hr
  have hd2:=qG hd
  have hpl2:=qT hpl hd
  obtain⟨hp3,a1,a2,a3,a4⟩:=ih (i+1) (p+(chkY c).length) hp2 e2 hi hd2 hpl2 (by omega) t2
  refine⟨hp3,?_,a2,by omega,fun a h1 h2=>by rw[a4 a (by omega) h2,t4 a h1 h2]⟩
  have et:cs.take (i+1)=cs.take i++[c]:=by rw[List.take_add_one,e1];rfl
  have etl:(cs.take i).length=i:=by simp;omega
  have ett:tot (cs.take (i+1))=tot (cs.take i)+pcn c.2 256:=by rw[et,tot_app];rfl
  have etot:tot (cs.take (i+1))<=tot cs:=by
   have:=tot_app (cs.take (i+1)) (cs.drop (i+1))
   rw[List.take_append_drop]at this
   omega
  have b11:=ttake_11 b k l (p+(chkY c).length) (cs.take i) (by omega) c (tot (cs.take i)) cs.length (by omega) hp2
  rw[etl,<-et,<-ett,a1]at b11
  have er2:=zg b k l (p+(chkY c).length) 0 hp2 t2
  have hlt:(i:Int)<(cs.length:Int):=by omega
  have ln:∀k',lenA (S k' 5 (csL (cs.take i)))=some i:=fun k'=>by rw[lenA_5,etl]
  have b7:B43_7 (.ptr b 0 0) (S 2 5 (csL (cs.take i))) (.int .i64 (tot (cs.take i):Nat)) (.int .u64 (cs.length:Int)) (.int .u64 (i:Int)) hp=some (S 2 5 (csL cs),hp3):=by
   rw[<-b11,B43_7_eq]
   have c5:qg 5 (.agg (Cc c))=some (Cc c):=rfl
   have pz:putN Z5 0 (Cc c)=some (Cc c):=rfl
   have gs:qe (Cc c) 0=some (.int .u32 (c.1:Int)):=rfl
   unfold Z5 at pz
   by_cases h0:i=0
   ·subst h0
    generalize((tot (cs.take 0):Nat):Int)=TT at*
    generalize csL (cs.take 0)=L0 at*
    generalize Cc c=C at*
    simp[t1,c5,pz,ln]
   ·obtain⟨d,hd1⟩:∃d,cs[i-1]?=some d:=⟨_,List.getElem?_eq_getElem (by omega)⟩
    have hkd:=rising_snd cs (i-1) d c hri hd1 (by rw[show i-1+1=i by omega];exact e1)
    have hd2:(cs.take i)[i-1]?=some d:=by rw[List.getElem?_take,if_pos (by omega)];exact hd1
    have ix:∀k',idxA 5 (S k' 5 (csL (cs.take i))) (.int .i64 ((i-1:Nat):Int))=some (Cc d):=fun k'=>idxA_5 k' _ _ _ hd2
    have gs2:qe (Cc d) 0=some (.int .u32 (d.1:Int)):=rfl
    have w1:IntKind.i64.wrap ((i:Int)-1)=((i-1:Nat):Int):=by rw[qf]<;>omega
    have hpos:(0:Int)<(i:Int):=by omega
    have hle:¬((c.1:Int)<=(d.1:Int)):=by omega
    generalize((tot (cs.take i):Nat):Int)=TT at*
    generalize csL (cs.take i)=L0 at*
    generalize((i-1:Nat):Int)=I1 at*
    generalize(c.1:Int)=K1 at*
    generalize(d.1:Int)=K2 at*
    generalize Cc c=C at*
    generalize Cc d=D at*
    have hpos':0<i:=by omega
    simp[t1,c5,pz,ln,hpos',er2,gs,w1,ix,gs2,hle]
  rw[B43_5_eq]
  generalize((tot (cs.take i):Nat):Int)=TT at*
  generalize csL (cs.take i)=L0 at*
  have hlt':i<cs.length:=hi
  simp[hlt',er,b7]
end
theorem run_roartake(b k:Nat)(l:List Int)(hl:l.length<=1000000000)(h8:By l)(cs:List (Nat×Nat))(hcs:∀c∈cs,okC c)(hcl:cs.length<=4096)(htot:tot cs<=4096)(hri:zb (cs.map (·.1)))(p:Nat)(rest:List Int)(hd:l.drop p=roaY cs++rest)(hp:Hp)(hpl:p<=l.length)(hb:b<hp.next)(hr:hp.rd b 0=some (Rc k l p 0)):
  ∃hp',run cxX 43 [.ptr b 0 0] hp=some (S 2 5 (csL cs),hp')/\hp'.rd b 0=some (Rc k l (p+(roaY cs).length) 0)/\hp.next<=hp'.next/\∀a,a<hp.next->a≠b->hp'.get a=hp.get a:=by
 have ey:roaY cs++rest=uv cs.length++(rowY cs++rest):=by unfold roaY;simp
 have el:(roaY cs).length=(uv cs.length).length+(rowY cs).length:=by unfold roaY;simp
 rw[ey]at hd
 have t0:=zj b k l hl h8 (most:=4096) hd (by omega) (by omega) hp hpl hr
 have d0:=qG hd
 have q0:=qT hpl hd
 obtain⟨hp2,a1,a2,a3,a4⟩:=ttake_loop b k l hl h8 cs hcs hcl htot hri rest cs 0 _ (hp.put b 0 (Rc k l (p+(uv cs.length).length) 0)) rfl (Nat.zero_le _) d0 q0 hb (qh _ _ _)
 refine⟨hp2,?_,by rw[a2,el,Nat.add_assoc],a3,fun a h1 h2=>by rw[a4 a h1 h2];simp[Hp.put,h2]⟩
 have lit:((4096:Nat):Int)=4096:=rfl
 rw[lit]at t0
 have a1':B43_5 (.ptr b 0 0) (S 2 1 []) (.int .i64 0) (.int .u64 (cs.length:Int)) (.int .u64 0) (hp.put b 0 (Rc k l (p+(uv cs.length).length) 0))=some (S 2 5 (csL cs),hp2):=a1
 rw[E43]
 simp[t0,a1']
section
variable (cs : List (Nat × Nat)) (k : Nat) (hcs : ∀ c ∈ cs, okC c) (hcl : cs.length ≤ 4096)
include hcs hcl
omit hcs in
theorem slist_in(i:Nat)(hi:i<cs.length)(c:Nat×Nat)(hc:okC c)(hp:Hp):∀(f j:Nat) (acc:List Nat),j+f=256->acc.length+f<=900000->
  B44_6 (S 2 1 (LI .u32 (nz acc))) (S k 5 (csL cs)) (.int .i64 (cs.length:Int)) (.int .i64 (i:Int)) (.int .i64 (j:Int)) (Cc c) hp=
   B44_3 (S 2 1 (LI .u32 (nz (acc++lsF c.1 c.2 f j)))) (S k 5 (csL cs)) (.int .i64 (cs.length:Int)) (.int .i64 ((i+1:Nat):Int)) hp:=by
 intro f
 induction f with
 |zero=>
  intro j acc hj ha
  have e:j=256:=by omega
  subst e
  have e2:acc++lsF c.1 c.2 0 256=acc:=by simp[lsF]
  have w1:IntKind.i64.wrap ((i:Int)+1)=((i+1:Nat):Int):=by rw[qf]<;>omega
  rw[e2,B44_6_eq]
  generalize((i+1:Nat):Int)=I1 at*
  generalize nz acc=L0 at*
  simp[w1]
 | succ f ih=>
  intro j acc hj ha
  have hs:=run_chas c j (by omega) hp0
  have hlt:(j:Int)<256:=by omega
  have w1:IntKind.i64.wrap ((j:Int)+1)=((j+1:Nat):Int):=by rw[qf]<;>omega
  have w2:IntKind.u8.wrap (j:Int)=(j:Int):=zo (by omega) (by omega)
  have w3:IntKind.u32.wrap (j:Int)=(j:Int):=qv (by omega) (by omega)
  have g5:getN (Cc c) 0 5=some (Cc c):=rfl
  have gs:qe (Cc c) 0=some (.int .u32 (c.1:Int)):=rfl
  have rm:(Cc c).map ro1=Cc c:=rfl
  by_cases hb:c.2.testBit j=true
  ·have e2:acc++lsF c.1 c.2 (f+1) j=acc++[c.1*256+j]++lsF c.1 c.2 f (j+1):=by rw[lsF,if_pos hb];simp
   have i2:=ih (j+1) (acc++[c.1*256+j]) (by omega) (by simp;omega)
   have ap:=appI .u32 (nz acc) 2 (.inr rfl) 4 (by decide) ((c.1*256+j:Nat):Int) (by simp;omega)
   have hk:=hc.1
   have sl:∀t o o',binV Tryz.prog .shl t o o' (.int .u32 (c.1:Int)) (.int .u64 8)=some (.int .u32 ((c.1*256:Nat):Int)):=by
    intro t o o'
    rw[zn _ _ _ _ _ _ _ _ (by omega)]
    have e:(2:Int)^min (8:Int).toNat IntKind.u32.bits=256:=rfl
    rw[e,qv (by omega) (by omega)]
    rfl
   have o:∀t x y,binV Tryz.prog .or t x y (.int .u32 ((c.1*256:Nat):Int)) (.int .u32 (j:Int))=some (.int .u32 ((c.1*256+j:Nat):Int)):=by
    intro t x y
    rw[ze]
    have e:(BitVec.ofInt IntKind.u32.bits ((c.1*256:Nat):Int)|||BitVec.ofInt IntKind.u32.bits (j:Int)).toNat=c.1*256+j:=by
     show(BitVec.ofInt 32 ((c.1*256:Nat):Int)|||BitVec.ofInt 32 (j:Int)).toNat=_
     rw[BitVec.toNat_or,BitVec.toNat_ofInt,BitVec.toNat_ofInt]
     have e1:(((c.1*256:Nat):Int)%((2^32:Nat):Int)).toNat=2^8*c.1:=by omega
     have e2:((j:Int)%((2^32:Nat):Int)).toNat=j:=by omega
     rw[e1,e2,<-Nat.two_pow_add_eq_or_of_lt (by omega) c.1]
     omega
    rw[e,qv (by omega) (by omega)]
   rw[<-nz_snoc]at ap
   rw[e2,<-i2,B44_6_eq]
   generalize((c.1*256:Nat):Int)=Q1 at*
   generalize((c.1*256+j:Nat):Int)=Q2 at*
   generalize((j+1:Nat):Int)=I1 at*
   generalize nz (acc++[c.1*256+j])=L1 at*
   generalize nz acc=L0 at*
   unfold Cc at*
   generalize((wrd c.2 0:Nat):Int)=W0 at*
   generalize((wrd c.2 1:Nat):Int)=W1 at*
   generalize((wrd c.2 2:Nat):Int)=W2 at*
   generalize((wrd c.2 3:Nat):Int)=W3 at*
   generalize(c.1:Int)=K1 at*
   simp[hlt,getN,zD,w2,hs,hb,gs,sl,cv_3_30,w3,o,okV,ap,B44_10_eq,w1,-ze]
  ·have e2:acc++lsF c.1 c.2 (f+1) j=acc++lsF c.1 c.2 f (j+1):=by rw[lsF,if_neg hb]
   have i2:=ih (j+1) acc (by omega) (by omega)
   rw[e2,<-i2,B44_6_eq]
   generalize((j+1:Nat):Int)=I1 at*
   generalize nz acc=L0 at*
   unfold Cc at*
   generalize((wrd c.2 0:Nat):Int)=W0 at*
   generalize((wrd c.2 1:Nat):Int)=W1 at*
   generalize((wrd c.2 2:Nat):Int)=W2 at*
   generalize((wrd c.2 3:Nat):Int)=W3 at*
   generalize(c.1:Int)=K1 at*
   simp[hlt,getN,zD,w2,hs,hb,B44_10_eq,w1]
theorem slist_loop(hp:Hp):∀(r:List (Nat×Nat)) (i:Nat) (acc:List Nat),cs.drop i=r->acc.length+tot r<=800000->i<=cs.length->
  B44_3 (S 2 1 (LI .u32 (nz acc))) (S k 5 (csL cs)) (.int .i64 (cs.length:Int)) (.int .i64 (i:Int)) hp=some (S 2 1 (LI .u32 (nz (acc++lsC r))),hp):=by
 intro r
 induction r with
 |nil=>
  intro i acc h ha hil
  have h1:=qt h
  have e:i=cs.length:=by omega
  subst e
  have e2:acc++lsC []=acc:=by simp[lsC]
  rw[e2,B44_3_eq]
  generalize nz acc=L0 at*
  simp
 |cons c r ih=>
  intro i acc h ha hil
  obtain⟨e1,e2,hi,e3⟩:=ql h
  have hcc:=hcs c (List.mem_of_getElem? e1)
  have ll:=lsF_pcn c.1 c.2 256 0
  have ll0:pcn c.2 0=0:=rfl
  rw[ll0,Nat.zero_add,Nat.add_zero]at ll
  have et:tot (c::r)=pcn c.2 256+tot r:=rfl
  rw[et]at ha
  have lp:=yy c.2 256
  have si:=slist_in cs k hcl i hi c hcc hp 256 0 acc rfl (by omega)
  have i2:=ih (i+1) (acc++lsF c.1 c.2 256 0) e2 (by simp;omega) hi
  have el:acc++lsC (c::r)=acc++lsF c.1 c.2 256 0++lsC r:=by show acc++(lsF c.1 c.2 256 0++lsC r)=_;simp
  rw[i2]at si
  rw[el,<-si,B44_3_eq]
  have hlt:(i:Int)<(cs.length:Int):=by omega
  have hlt':i<cs.length:=hi
  have ix:=idxA_5 k cs i c e1
  have g5:getN (Cc c) 0 5=some (Cc c):=rfl
  have c5:qg 5 (.agg (Cc c))=some (Cc c):=rfl
  have pz:putN Z5 0 (Cc c)=some (Cc c):=rfl
  unfold Z5 at pz
  generalize nz acc=L0 at*
  generalize csL cs=L1 at*
  unfold Cc at*
  generalize((wrd c.2 0:Nat):Int)=W0 at*
  generalize((wrd c.2 1:Nat):Int)=W1 at*
  generalize((wrd c.2 2:Nat):Int)=W2 at*
  generalize((wrd c.2 3:Nat):Int)=W3 at*
  generalize(c.1:Int)=K1 at*
  simp[hlt',ix,getN,qg,pz]
theorem run_slist(ht:tot cs<=4096)(hp:Hp):run cxX 44 [S k 5 (csL cs)] hp=some (S 2 1 (LI .u32 (nz (lsC cs))),hp):=by
 have a:=slist_loop cs (rk k) hcs hcl hp cs 0 [] rfl (by simp only[List.length_nil];omega) (Nat.zero_le _)
 have ln:=lenA_5 (rk k) cs
 have a':B44_3 (S 2 1 []) (S (rk k) 5 (csL cs)) (.int .i64 (cs.length:Int)) (.int .i64 0) hp=some (S 2 1 (LI .u32 (nz (lsC cs))),hp):=a
 rw[E44]
 generalize csL cs=L1 at*
 simp[ln,a']
end
abbrev Fu(n last kk:Nat)(T1 T2:AV)(b1 b2 i up:Nat):List AV:=[.sc (.int .i64 (n:Int)),.sc (.int .u32 (last:Int)),.sc (.int .i64 (kk:Int)),T1,T2,.ptr b1 0 0,.ptr b2 0 0,.sc (.int .i64 (i:Int)),.sc (.int .u32 (up:Int))]
theorem or_split32(q k g:Nat)(hq:q=g/2^k)(hg:g<4294967296)(t:TypeId)(o o':Operand):binV Tryz.prog .or t o o' (.int .u32 ((q*2^k:Nat):Int)) (.int .u32 ((g%2^k:Nat):Int))=some (.int .u32 (g:Int)):=by
 rw[ze]
 have hmul:g/2^k*2^k<=g:=Nat.div_mul_le_self _ _
 have hmod:g%2^k<=g:=Nat.mod_le _ _
 have hlt:g%2^k<2^k:=Nat.mod_lt _ (Nat.two_pow_pos _)
 have hdm:=Nat.div_add_mod g (2^k)
 have e:(BitVec.ofInt IntKind.u32.bits ((q*2^k:Nat):Int)|||BitVec.ofInt IntKind.u32.bits ((g%2^k:Nat):Int)).toNat=g:=by
  show(BitVec.ofInt 32 ((q*2^k:Nat):Int)|||BitVec.ofInt 32 ((g%2^k:Nat):Int)).toNat=_
  subst hq
  rw[BitVec.toNat_or,BitVec.toNat_ofInt,BitVec.toNat_ofInt]
  have e1:(((g/2^k*2^k:Nat):Int)%((2^32:Nat):Int)).toNat=2^k*(g/2^k):=by rw[Nat.mul_comm (2^k)];omega
  have e2:(((g%2^k:Nat):Int)%((2^32:Nat):Int)).toNat=g%2^k:=by omega
  rw[e1,e2,<-Nat.two_pow_add_eq_or_of_lt hlt (g/2^k)]
  omega
 rw[e,qv (by omega) (by omega)]
theorem run_fcur(n last kk t1 t2:Nat)(A B:List Int)(hp:Hp):
  run cxX 105 [.agg [.sc (.int .i64 (n:Int)),.sc (.int .u32 (last:Int)),.sc (.int .i64 (kk:Int)),S t1 1 (LI .u8 A),S t2 1 (LI .u8 B)]] hp=
   some (.ptr (hp.next+2) 0 0,((hp.new (Rb (rk t1) A 0 false)).new (Rb (rk t2) B 0 false)).new (Fu n last kk (S (rk t1) 1 (LI .u8 A)) (S (rk t2) 1 (LI .u8 B)) hp.next (hp.next+1) 0 0)):=by
 have r1:=run_bread (rk t1) A hp
 have r2:=run_bread (rk t2) B (hp.new (Rb (rk t1) A 0 false))
 simp only[rk_rk]at r1 r2
 have n1:(hp.new (Rb (rk t1) A 0 false)).next=hp.next+1:=rfl
 have n2:((hp.new (Rb (rk t1) A 0 false)).new (Rb (rk t2) B 0 false)).next=hp.next+2:=rfl
 rw[n1]at r2
 rw[E105]
 generalize hp.new (Rb (rk t1) A 0 false)=H1 at*
 generalize H1.new (Rb (rk t2) B 0 false)=H2 at*
 simp[qg,getN,getC,r1,r2,putN,n2]
 rfl
section
variable (n last kk t1 t2 : Nat) (T1 T2 : AV) (A B : List Int) (c b1 b2 : Nat) (hkk : kk ≤ 32) (hn : n ≤ 4096) (hlast : last < 4294967296) (hq : last / 2 ^ kk ≤ 8192) (hA : A.length ≤ 100000000) (hB : B.length ≤ 100000000) (A8 : By A) (B8 : By B) (h1 : c ≠ b1) (h2 : c ≠ b2) (h12 : b1 ≠ b2)
include hkk hn hlast hq hA hB A8 B8 h1 h2 h12
theorem run_fnext(i up x q1 q2:Nat)(hi:i<n)(hx:x<=last)(hup:up<=x/2^kk)(hp:Hp)(h:hp.rd c 0=some (Fu n last kk T1 T2 b1 b2 i up))(r1:hp.rd b1 0=some (Rb t1 A q1 false))(r2:hp.rd b2 0=some (Rb t2 B q2 false))(a1:At A q1 (nbs x kk))(a2:At B q2 (una (x/2^kk-up))):
  ∃hp',run cxX 106 [.ptr c 0 0] hp=some (.tup [.sc (.int .u32 (x:Int)),.sc (.bool true)],hp')/\hp'.rd c 0=some (Fu n last kk T1 T2 b1 b2 (i+1) (x/2^kk))/\
   hp'.rd b1 0=some (Rb t1 A (q1+(nbs x kk).length) false)/\hp'.rd b2 0=some (Rb t2 B (q2+(una (x/2^kk-up)).length) false)/\hp'.next=hp.next/\∀a,a≠c->a≠b1->a≠b2->hp'.get a=hp.get a:=by
 have hxl:x/2^kk<=last/2^kk:=Nat.div_le_div_right hx
 have hmul:x/2^kk*2^kk<=x:=Nat.div_mul_le_self _ _
 have hmod:x%2^kk<=x:=Nat.mod_le _ _
 have os:=or_split32 (x/2^kk) kk x rfl (by omega)
 have l1:=a1.1
 have l2:=a2.1
 rw[nbs_len]at l1⊢
 rw[una_len]at l2⊢
 have un:=run_bunary b2 t2 B q2 false hp hB B8 (last/2^kk+1) (by omega) (by omega) r2
 rw[rU1_at a2 (by omega)]at un
 have e1:q2+(x/2^kk-up)+1=q2+(x/2^kk-up+1):=by omega
 rw[e1]at un
 let H1:=hp.put b2 0 (Rb t2 B (q2+(x/2^kk-up+1)) false)
 have H1c:H1.rd c 0=some (Fu n last kk T1 T2 b1 b2 i up):=by show(hp.put b2 0 _).rd c 0=_;rw[qp _ _ h2];exact h
 let H2:=H1.put c 0 (Fu n last kk T1 T2 b1 b2 i (x/2^kk))
 have H2c:H2.rd c 0=some (Fu n last kk T1 T2 b1 b2 i (x/2^kk)):=qh _ _ _
 have H2b:H2.rd b1 0=some (Rb t1 A q1 false):=by
  show((hp.put b2 0 _).put c 0 _).rd b1 0=_
  rw[qp _ _ (fun e=>h1 e.symm),qp _ _ h12];exact r1
 have tk:=run_btake b1 t1 A q1 false H2 hA A8 kk (by omega) (by omega) H2b
 rw[rt_at A x kk 0 _ a1,Nat.zero_mul,Nat.zero_add]at tk
 let H3:=H2.put b1 0 (Rb t1 A (q1+kk) false)
 have H3c:H3.rd c 0=some (Fu n last kk T1 T2 b1 b2 i (x/2^kk)):=by show(H2.put b1 0 _).rd c 0=_;rw[qp _ _ h1];exact H2c
 have H3a:H3.rd b1 0=some (Rb t1 A (q1+kk) false):=qh _ _ _
 have H3b:H3.rd b2 0=some (Rb t2 B (q2+(x/2^kk-up+1)) false):=by
  show(((hp.put b2 0 _).put c 0 _).put b1 0 _).rd b2 0=_
  rw[qp _ _ (fun e=>h12 e.symm),qp _ _ (fun e=>h2 e.symm),qh]
 have s2:=yu b2 t2 B _ false H3 H3b
 have s1:=yu b1 t1 A _ false H3 H3a
 let H4:=H3.put c 0 (Fu n last kk T1 T2 b1 b2 (i+1) (x/2^kk))
 refine⟨H4,?_,qh _ _ _,?_,?_,rfl,fun a c1 c2 c3=>?_⟩
 ·have gl:=getOf h
  have g1:H1.get c=hp.get c:=by simp[H1,Hp.put,h2]
  have g3:H3.get c=H2.get c:=by simp[H3,Hp.put,h1]
  have sg1:∀q j,jw (AV.ptr c q j,1) hp.get H1.get=some ():=fun q j=>sameG_ok (by unfold seeG;simp only[cmb,yF,Option.bind_some,g1])
  have sg2:∀q j,jw (AV.ptr c q j,1) H2.get H3.get=some ():=fun q j=>sameG_ok (by unfold seeG;simp only[cmb,yF,Option.bind_some,g3])
  have m1:H1=hp.put b2 0 (Rb t2 B (q2+(x/2^kk-up+1)) false):=rfl
  have m2:H1.put c 0 (Fu n last kk T1 T2 b1 b2 i (x/2^kk))=H2:=rfl
  have m3:H2.put b1 0 (Rb t1 A (q1+kk) false)=H3:=rfl
  have m4:H3.put c 0 (Fu n last kk T1 T2 b1 b2 (i+1) (x/2^kk))=H4:=rfl
  simp only at un tk
  rw[<-m1]at un
  rw[m3]at tk
  have w1:IntKind.i64.wrap ((last/2^kk:Nat):Int)=((last/2^kk:Nat):Int):=(fun(z:Nat) (hz:z<=8192)=>qf (z:=(z:Int)) (by omega) (by omega)) _ hq
  have w2:IntKind.i64.wrap (((last/2^kk:Nat):Int)+1)=((last/2^kk+1:Nat):Int):=by rw[qf]<;>omega
  have w3:IntKind.u32.wrap ((x/2^kk-up:Nat):Int)=((x/2^kk-up:Nat):Int):=qv (by omega) (by omega)
  have w4:IntKind.u32.wrap ((up:Int)+((x/2^kk-up:Nat):Int))=((x/2^kk:Nat):Int):=by rw[qv]<;>omega
  have w5:IntKind.u32.wrap ((x%2^kk:Nat):Int)=((x%2^kk:Nat):Int):=(fun(z:Nat) (hz:z<=x)=>qv (z:=(z:Int)) (by omega) (by omega)) _ hmod
  have w6:IntKind.i64.wrap ((i:Int)+1)=((i+1:Nat):Int):=by rw[qf]<;>omega
  have sr:=fun t o o'=>jO .u32 last kk (by show kk<=32;exact hkk) t o o' .i64
  have sl:∀t o o',binV Tryz.prog .shl t o o' (.int .u32 ((x/2^kk:Nat):Int)) (.int .i64 (kk:Int))=some (.int .u32 ((x/2^kk*2^kk:Nat):Int)):=by
   intro t o o'
   rw[zn _ _ _ _ _ _ _ _ (by omega)]
   have e:min (kk:Int).toNat IntKind.u32.bits=kk:=by show min (kk:Int).toNat 32=kk;omega
   rw[e]
   have e2:((x/2^kk:Nat):Int)*2^kk=((x/2^kk*2^kk:Nat):Int):=by simp
   rw[e2]
   congr 2
   exact(fun(z:Nat) (hz:z<=x)=>qv (z:=(z:Int)) (by omega) (by omega)) _ hmul
  have hge:¬((n:Int)<=(i:Int)):=by omega
  simp only[Fu]at h H1c H2c H3c m2 m4
  rw[E106]
  clear_value H4 H3 H2 H1
  clear l1 l2 a1 a2 e1 hup hxl hmul hmod
  generalize((last/2^kk+1:Nat):Int)=V1 at*
  generalize((last/2^kk:Nat):Int)=V0 at*
  generalize((x/2^kk-up:Nat):Int)=V2 at*
  generalize((x/2^kk*2^kk:Nat):Int)=V4 at*
  generalize((x/2^kk:Nat):Int)=V3 at*
  generalize((x%2^kk:Nat):Int)=V5 at*
  generalize((i+1:Nat):Int)=V6 at*
  have gs1:∀(x0:AV) (v:Value) (r:List AV),qe (x0::.sc v::r) 1=some v:=fun _ _ _=>rfl
  have gs2:∀(x0 x1:AV) (v:Value) (r:List AV),qe (x0::x1::.sc v::r) 2=some v:=fun _ _ _ _=>rfl
  have gs7:∀(x0 x1 x2 x3 x4 x5 x6:AV) (v:Value) (r:List AV),qe (x0::x1::x2::x3::x4::x5::x6::.sc v::r) 7=some v:=fun _ _ _ _ _ _ _ _ _=>rfl
  have gs8:∀(x0 x1 x2 x3 x4 x5 x6 x7:AV) (v:Value) (r:List AV),qe (x0::x1::x2::x3::x4::x5::x6::x7::.sc v::r) 8=some v:=fun _ _ _ _ _ _ _ _ _ _=>rfl
  have gs0:∀(v:Value) (r:List AV),qe (.sc v::r) 0=some v:=fun _ _=>rfl
  have gc5:∀(x0 x1 x2 x3 x4 x5:AV) (r:List AV),getC (x0::x1::x2::x3::x4::x5::r) 5=some x5:=fun _ _ _ _ _ _ _=>rfl
  have gc6:∀(x0 x1 x2 x3 x4 x5 x6:AV) (r:List AV),getC (x0::x1::x2::x3::x4::x5::x6::r) 6=some x6:=fun _ _ _ _ _ _ _ _=>rfl
  have p8:∀(x0 x1 x2 x3 x4 x5 x6 x7 x8 z:AV),putN [x0,x1,x2,x3,x4,x5,x6,x7,x8] 8 [z]=some [x0,x1,x2,x3,x4,x5,x6,x7,z]:=fun _ _ _ _ _ _ _ _ _ _=>rfl
  have p7:∀(x0 x1 x2 x3 x4 x5 x6 x7 x8 z:AV),putN [x0,x1,x2,x3,x4,x5,x6,x7,x8] 7 [z]=some [x0,x1,x2,x3,x4,x5,x6,z,x8]:=fun _ _ _ _ _ _ _ _ _ _=>rfl
  simp[h,gs7,gs0,hge,B106_3_eq,gs8,gc6,gs1,gs2,sr,xR,w1,w2,un,cv_3_30,w3,w4,H1c,p8,sg1,m2,H2c,sl,gc5,tk,zM,w5,os,sg2,H3c,s2,s1,B106_8_eq,w6,p7,m4]
 ·show(H3.put c 0 _).rd b1 0=_;rw[qp _ _ (fun e=>h1 e.symm)];exact H3a
 ·show(H3.put c 0 _).rd b2 0=_;rw[qp _ _ (fun e=>h2 e.symm)];exact H3b
 ·show((((hp.put b2 0 _).put c 0 _).put b1 0 _).put c 0 _).get a=_
  simp[Hp.put,c1,c2,c3]
end
theorem run_fnone(n last kk:Nat)(T1 T2:AV)(c b1 b2 up:Nat)(hp:Hp)(h:hp.rd c 0=some (Fu n last kk T1 T2 b1 b2 n up)):
  run cxX 106 [.ptr c 0 0] hp=some (.tup [.sc (.int .u32 0),.sc (.bool false)],hp):=by
 have gs7:∀(x0 x1 x2 x3 x4 x5 x6:AV) (v:Value) (r:List AV),qe (x0::x1::x2::x3::x4::x5::x6::.sc v::r) 7=some v:=fun _ _ _ _ _ _ _ _ _=>rfl
 have gs0:∀(v:Value) (r:List AV),qe (.sc v::r) 0=some v:=fun _ _=>rfl
 simp only[Fu]at h
 rw[E106]
 simp[h,gs7,gs0,B106_2_eq]
theorem nofall_le:∀(l:List Nat),zQ l->∀x∈l,x<=qy l
 |[],_,x,h=>by cases h
 |[a],_,x,h=>by rcases List.mem_singleton.mp h with rfl;exact Nat.le_refl _
 |a::b::r,hr,x,h=>by
  rw[lastN_cons]
  have ih:=nofall_le (b::r) hr.2
  rcases List.mem_cons.mp h with rfl|h
  ·exact Nat.le_trans hr.1 (ih b (by simp))
  ·exact ih x h
section
variable (n last kk t1 t2 : Nat) (T1 T2 : AV) (A B : List Int) (c b1 b2 : Nat) (hkk : kk ≤ 32) (hn : n ≤ 4096) (hlast : last < 4294967296) (hq : last / 2 ^ kk ≤ 8192) (hA : A.length ≤ 100000000) (hB : B.length ≤ 100000000) (A8 : By A) (B8 : By B) (h1 : c ≠ b1) (h2 : c ≠ b2) (h12 : b1 ≠ b2)
include hkk hn hlast hq hA hB A8 B8 h1 h2 h12
theorem flist_loop:∀(r:List Nat) (i p q1 q2:Nat) (acc:List Nat) (hp:Hp),i+r.length=n->zQ (p::r)->(∀x∈r,x<=last)->acc.length=i->hp.rd c 0=some (Fu n last kk T1 T2 b1 b2 i (p/2^kk))->hp.rd b1 0=some (Rb t1 A q1 false)->hp.rd b2 0=some (Rb t2 B q2 false)->At A q1 (za kk r)->At B q2 (qD kk (p/2^kk) r)->
  ∃v o hp1 hp2,run cxX 106 [.ptr c 0 0] hp=some (.tup [.sc v,.sc (.bool o)],hp1)/\B50_4 (S 2 1 (LI .u32 (nz acc))) (.ptr c 0 0) v (.bool o) hp1=some (S 2 1 (LI .u32 (nz (acc++r))),hp2):=by
 intro r
 induction r with
 |nil=>
  intro i p q1 q2 acc hp hi hf hx ha hc r1 r2 a1 a2
  have e:i=n:=hi
  subst e
  refine⟨_,_,_,hp,run_fnone i last kk T1 T2 c b1 b2 _ hp hc,?_⟩
  rw[B50_4_eq,List.append_nil]
  generalize nz acc=L0
  simp
 |cons x r ih=>
  intro i p q1 q2 acc hp hi hf hx ha hc r1 r2 a1 a2
  simp only[List.length_cons]at hi
  have el:za kk (x::r)=nbs x kk++za kk r:=rfl
  have eh:qD kk (p/2^kk) (x::r)=una (x/2^kk-p/2^kk)++qD kk (x/2^kk) r:=rfl
  rw[el]at a1
  rw[eh]at a2
  obtain⟨a1a,a1b⟩:=a1.app
  obtain⟨a2a,a2b⟩:=a2.app
  obtain⟨hp1,f1,f2,f3,f4,f5,f6⟩:=run_fnext n last kk t1 t2 T1 T2 A B c b1 b2 hkk hn hlast hq hA hB A8 B8 h1 h2 h12 i (p/2^kk) x q1 q2 (by omega) (hx x (by simp)) (Nat.div_le_div_right hf.1) hp hc r1 r2 a1a a2a
  obtain⟨v,o,hp3,hp4,g1,g2⟩:=ih (i+1) x _ _ (acc++[x]) hp1 (by omega) hf.2 (fun y hy=>hx y (by simp[hy])) (by simp[ha]) f2 f3 f4 a1b a2b
  refine⟨_,_,hp1,hp4,f1,?_⟩
  have ap:=appI .u32 (nz acc) 2 (.inr rfl) 4 (by decide) (x:Int) (by simp;omega)
  rw[<-nz_snoc]at ap
  have ea:acc++x::r=acc++[x]++r:=by simp
  rw[ea,<-g2,B50_4_eq]
  generalize nz (acc++[x])=L1 at*
  generalize nz acc=L0 at*
  simp[okV,ap,g1]
end
section
variable (l : List Nat) (hl : l.length ≤ 4096) (h32 : ∀ x ∈ l, x < 4294967296) (hr : zQ l)
include hl h32 hr
theorem run_flist(t1 t2:Nat)(hp:Hp):∃hp',run cxX 50 [Frow l t1 t2] hp=some (S 2 1 (LI .u32 (nz l)),hp'):=by
 have hb:fanK l<=32/\qy l<4294967296/\qy l/2^fanK l<=8192/\(qD (fanK l) 0 l).length<=3*4096:=by
  by_cases hne:l=[]
  ·subst hne;exact⟨by decide,by decide,by decide,by decide⟩
  ·obtain⟨k1,k2,k3⟩:=yL l hl h32 hr hne
   have h2:qy l/2^fanK l<2*l.length:=lowF_two (List.length_pos_iff.mpr hne) k2
   exact⟨k1,k2,by omega,k3⟩
 obtain⟨k1,k2,k3,k4⟩:=hb
 have cu:=run_fcur l.length (qy l) (fanK l) (rk (rk t1)) (rk (rk t2)) (pk (za (fanK l) l)) (pk (qD (fanK l) 0 l)) hp
 simp only[rk_rk]at cu
 have lA:(pk (za (fanK l) l)).length<=100000000:=by
  rw[zK,lowsB_len]
  have:l.length*fanK l<=4096*32:=Nat.mul_le_mul hl k1
  omega
 have lB:(pk (qD (fanK l) 0 l)).length<=100000000:=by rw[zK];omega
 let H0:=hp.new (Rb (rk t1) (pk (za (fanK l) l)) 0 false)
 let H1:=H0.new (Rb (rk t2) (pk (qD (fanK l) 0 l)) 0 false)
 let H2:=H1.new (Fu l.length (qy l) (fanK l) (S (rk t1) 1 (LI .u8 (pk (za (fanK l) l)))) (S (rk t2) 1 (LI .u8 (pk (qD (fanK l) 0 l)))) hp.next (hp.next+1) 0 0)
 have rc:H2.rd (hp.next+2) 0=some (Fu l.length (qy l) (fanK l) (S (rk t1) 1 (LI .u8 (pk (za (fanK l) l)))) (S (rk t2) 1 (LI .u8 (pk (qD (fanK l) 0 l)))) hp.next (hp.next+1) 0 0):=qs H1 _
 have r1:H2.rd hp.next 0=some (Rb (rk t1) (pk (za (fanK l) l)) 0 false):=by
  show((H0.new _).new _).rd hp.next 0=_
  rw[zE _ _ (show hp.next≠H1.next from by show hp.next≠hp.next+1+1;omega),zE _ _ (show hp.next≠H0.next from by show hp.next≠hp.next+1;omega)]
  exact qs hp _
 have r2:H2.rd (hp.next+1) 0=some (Rb (rk t2) (pk (qD (fanK l) 0 l)) 0 false):=by
  show(H1.new _).rd (hp.next+1) 0=_
  rw[zE _ _ (show hp.next+1≠H1.next from by show hp.next+1≠hp.next+1+1;omega)]
  exact qs H0 _
 have z0:(0:Nat)/2^fanK l=0:=Nat.zero_div _
 obtain⟨v,o,hp3,hp4,g1,g2⟩:=flist_loop l.length (qy l) (fanK l) (rk t1) (rk t2) (S (rk t1) 1 (LI .u8 (pk (za (fanK l) l)))) (S (rk t2) 1 (LI .u8 (pk (qD (fanK l) 0 l)))) (pk (za (fanK l) l)) (pk (qD (fanK l) 0 l)) (hp.next+2) hp.next (hp.next+1) k1 hl k2 k3 lA lB (fun x hx=>pk_rng hx) (fun x hx=>pk_rng hx) (by omega) (by omega) (by omega) l 0 0 0 0 [] H2 (by simp) (jT hr) (nofall_le l hr) rfl (by rw[z0];exact rc) r1 r2 (At.pk _) (by rw[z0];exact At.pk _)
 refine⟨hp4,?_⟩
 have g2':B50_4 (S 2 1 []) (.ptr (hp.next+2) 0 0) v (.bool o) hp3=some (S 2 1 (LI .u32 (nz l)),hp4):=g2
 have m:((hp.new (Rb (rk t1) (pk (za (fanK l) l)) 0 false)).new (Rb (rk t2) (pk (qD (fanK l) 0 l)) 0 false)).new (Fu l.length (qy l) (fanK l) (S (rk t1) 1 (LI .u8 (pk (za (fanK l) l)))) (S (rk t2) 1 (LI .u8 (pk (qD (fanK l) 0 l)))) hp.next (hp.next+1) 0 0)=H2:=rfl
 rw[m]at cu
 unfold Frow
 rw[E50]
 clear_value H2
 clear r1 r2 rc m k3 k4 lA lB z0
 generalize pk (za (fanK l) l)=A at*
 generalize pk (qD (fanK l) 0 l)=B at*
 generalize((qy l:Nat):Int)=La at*
 generalize((fanK l:Nat):Int)=Ka at*
 simp[qg,getN,cu,g1,g2']
omit hl h32 hr in
theorem run_fnsame(t1 t2 t3 t4:Nat)(hp:Hp):run cxX 104 [Frow l t1 t2,Frow l t3 t4] hp=some (.sc (.bool true),hp):=by
 have gs0:∀(v:Value) (r:List AV),qe (.sc v::r) 0=some v:=fun _ _=>rfl
 have gs1:∀(x0:AV) (v:Value) (r:List AV),qe (x0::.sc v::r) 1=some v:=fun _ _ _=>rfl
 unfold Frow
 rw[E104]
 generalize pk (za (fanK l) l)=A at*
 generalize pk (qD (fanK l) 0 l)=B at*
 generalize((qy l:Nat):Int)=La at*
 generalize((fanK l:Nat):Int)=Ka at*
 simp[qg,gs0,gs1,getC]
theorem run_ftake(b k:Nat)(bl:List Int)(hbl:bl.length<=1000000000)(h8:By bl)(p:Nat)(rest:List Int)(hd:bl.drop p=fanY l++rest)(hp:Hp)(hpl:p<=bl.length)(hrd:hp.rd b 0=some (Rc k bl p 0)):
  ∃t1 t2,run cxX 49 [.ptr b 0 0] hp=some (Frow l t1 t2,hp.put b 0 (Rc k bl (p+(fanY l).length) 0)):=by
 have hb:fanK l<=32/\qy l<4294967296/\(qD (fanK l) 0 l).length<=3*4096:=by
  by_cases hne:l=[]
  ·subst hne;exact⟨by decide,by decide,by decide⟩
  ·exact yL l hl h32 hr hne
 obtain⟨k1,k2,k4⟩:=hb
 have hlow:=run_lower l.length (qy l) (by omega) k2 hp0
 have e4:lowF l.length (qy l)=fanK l:=rfl
 rw[e4]at hlow
 have hmul:l.length*fanK l<=4096*32:=Nat.mul_le_mul hl k1
 have eA:(pk (za (fanK l) l)).length=(l.length*fanK l+7)/8:=by rw[zK,lowsB_len]
 have hBl:(pk (qD (fanK l) 0 l)).length<=1048576:=by rw[zK];omega
 have ey:fanY l++rest=uv l.length++(uv (qy l)++(pk (za (fanK l) l)++(uv (pk (qD (fanK l) 0 l)).length++(pk (qD (fanK l) 0 l)++rest)))):=by unfold fanY;simp
 have el:(fanY l).length=(uv l.length).length+(uv (qy l)).length+(pk (za (fanK l) l)).length+(uv (pk (qD (fanK l) 0 l)).length).length+(pk (qD (fanK l) 0 l)).length:=by unfold fanY;simp only[List.length_append]
 rw[ey]at hd
 obtain⟨t5,hpL,ls⟩:∃t5 hpL,run cxX 50 [Frow l t5 t5] hp0=some (S 2 1 (LI .u32 (nz l)),hpL):=⟨0,run_flist l hl h32 hr 0 0 hp0⟩
 have u0:=zj b k bl hbl h8 (most:=4096) hd hl (by omega) hp hpl hrd
 have d0:=qG hd
 have q0:=qT hpl hd
 have u1:=zj b k bl hbl h8 (most:=4294967295) d0 (by omega) (by omega) _ q0 (qh hp b (Rc k bl (p+(uv l.length).length) 0))
 rw[qj]at u1
 have d1:=qG d0
 have q1:=qT q0 d0
 generalize eP1:p+(uv l.length).length+(uv (qy l)).length=P1 at*
 obtain⟨ta,u2⟩:=yp b k bl hbl d1 _ q1 (qh hp b (Rc k bl P1 0))
 rw[qj]at u2
 have d2:=qG d1
 have q2:=qT q1 d1
 generalize eP2:P1+(pk (za (fanK l) l)).length=P2 at*
 have u3:=zj b k bl hbl h8 (most:=1048576) d2 hBl (by omega) _ q2 (qh hp b (Rc k bl P2 0))
 rw[qj]at u3
 have d3:=qG d2
 have q3:=qT q2 d2
 generalize eP3:P2+(uv (pk (qD (fanK l) 0 l)).length).length=P3 at*
 obtain⟨tb,u4⟩:=yp b k bl hbl d3 _ q3 (qh hp b (Rc k bl P3 0))
 rw[qj]at u4
 generalize eP4:P3+(pk (qD (fanK l) 0 l)).length=P4 at*
 have eP:p+(fanY l).length=P4:=by rw[el];omega
 have er:=zg b k bl P4 0 _ (qh hp b (Rc k bl P4 0))
 have lsr:∀s1 s2,∃hpL,run cxX 50 [Frow l s1 s2] hp0=some (S 2 1 (LI .u32 (nz l)),hpL):=fun s1 s2=>run_flist l hl h32 hr s1 s2 hp0
 obtain⟨hL,ls1⟩:=lsr (rk ta) (rk tb)
 obtain⟨t3,t4,hO,of⟩:=run_fof l 3 hl h32 hr hp0
 have sm:=fun a b c d=>run_fnsame l a b c d hp0
 rw[eP]
 refine⟨ta,tb,?_⟩
 have l1:((4096:Nat):Int)=4096:=rfl
 have l2:((4294967295:Nat):Int)=4294967295:=rfl
 have l3:((1048576:Nat):Int)=1048576:=rfl
 rw[l1]at u0
 rw[l2]at u1
 rw[l3]at u3
 rw[eA]at u2
 have w1:IntKind.i64.wrap (l.length:Int)=(l.length:Int):=qf (by omega) (by omega)
 have w2:IntKind.u32.wrap ((qy l:Nat):Int)=((qy l:Nat):Int):=qv (by omega) (by omega)
 have w3:IntKind.i64.wrap ((l.length:Int)*((fanK l:Nat):Int))=((l.length*fanK l:Nat):Int):=by
  have e:(l.length:Int)*((fanK l:Nat):Int)=((l.length*fanK l:Nat):Int):=by simp
  rw[e,qf]<;>omega
 have w4:IntKind.i64.wrap (((l.length*fanK l:Nat):Int)+7)=((l.length*fanK l+7:Nat):Int):=by rw[qf]<;>omega
 have q8:=quo8 (l.length*fanK l+7) (by omega)
 have w5:IntKind.i64.wrap ((pk (qD (fanK l) 0 l)).length:Int)=((pk (qD (fanK l) 0 l)).length:Int):=qf (by omega) (by omega)
 have gs0:∀(v:Value) (r:List AV),qe (.sc v::r) 0=some v:=fun _ _=>rfl
 have gs1:∀(x0:AV) (v:Value) (r:List AV),qe (x0::.sc v::r) 1=some v:=fun _ _ _=>rfl
 have gs2:∀(x0 x1:AV) (v:Value) (r:List AV),qe (x0::x1::.sc v::r) 2=some v:=fun _ _ _ _=>rfl
 have p3:∀(x0 x1 x2 x3 x4 z:AV),putN [x0,x1,x2,x3,x4] 3 [z]=some [x0,x1,x2,z,x4]:=fun _ _ _ _ _ _=>rfl
 have p4:∀(x0 x1 x2 x3 x4 z:AV),putN [x0,x1,x2,x3,x4] 4 [z]=some [x0,x1,x2,x3,z]:=fun _ _ _ _ _ _=>rfl
 have p5:∀(x0 x1 x2 x3 x4 z0 z1 z2 z3 z4:AV),putN [x0,x1,x2,x3,x4] 0 [z0,z1,z2,z3,z4]=some [z0,z1,z2,z3,z4]:=fun _ _ _ _ _ _ _ _ _ _=>rfl
 clear eA hBl ey el hd d0 d1 d2 d3 lsr ls k4 q0 q1 q2 q3 eP1 eP2 eP3 eP4 eP hmul e4
 unfold Frow at*
 rw[E49]
 generalize pk (za (fanK l) l)=A at*
 generalize pk (qD (fanK l) 0 l)=B at*
 generalize(((l.length*fanK l+7)/8:Nat):Int)=V3 at*
 generalize((l.length*fanK l+7:Nat):Int)=V2 at*
 generalize((l.length*fanK l:Nat):Int)=V1 at*
 generalize((qy l:Nat):Int)=La at*
 generalize((fanK l:Nat):Int)=Ka at*
 generalize((B.length:Nat):Int)=Bn at*
 generalize hp.put b 0 (Rc k bl (p+(uv l.length).length) 0)=G0 at*
 generalize hp.put b 0 (Rc k bl P1 0)=G1 at*
 generalize hp.put b 0 (Rc k bl P2 0)=G2 at*
 generalize hp.put b 0 (Rc k bl P3 0)=G3 at*
 generalize hp.put b 0 (Rc k bl P4 0)=G4 at*
 simp[u0,yg,w1,u1,zM,w2,gs0,gs1,hlow,gs2,w3,w4,q8,u2,p3,u3,w5,u4,p4,er,getN,ls1,of,p5,sm,B49_12_eq]
end
theorem bnum_app:∀(b a:List Int),bnum (a++b)=bnum a*256^b.length+bnum b:=by
 intro b
 induction b with
 |nil=>intro a;simp[bnum]
 |cons c b ih=>
  intro a
  have e1:a++c::b=(a++[c])++b:=by simp
  have e2:c::b=[c]++b:=rfl
  have e3:bnum [c]=c.toNat:=by simp[bnum]
  rw[e1,ih,jc,e2,ih [c],e3,List.length_append,Nat.pow_add,Nat.add_mul,Nat.mul_assoc]
  have e4:256^[c].length=256:=rfl
  rw[e4]
  omega
theorem bnum_lt:∀(l:List Int),(∀x∈l,0<=x/\x<256)->bnum l<256^l.length:=by
 intro l
 induction l with
 |nil=>intro _;decide
 |cons c b ih=>
  intro h
  have hc:=h c (by simp)
  have i:=ih fun x hx=>h x (by simp[hx])
  have e2:c::b=[c]++b:=rfl
  have e3:bnum [c]=c.toNat:=by simp[bnum]
  have hm:c.toNat*256^b.length<=255*256^b.length:=Nat.mul_le_mul_right _ (by omega)
  rw[e2,bnum_app,e3,List.length_append,Nat.pow_add]
  have e4:256^[c].length=256:=rfl
  rw[e4]
  omega
theorem bnum_take_succ(C:List Int)(j:Nat)(h:j<C.length):bnum (C.take (j+1))=bnum (C.take j)*256+(C.getD j 0).toNat:=by
 have e:C.take (j+1)=C.take j++[C.getD j 0]:=by
  rw[List.take_add_one,List.getD_eq_getElem?_getD,List.getElem?_eq_getElem h];rfl
 rw[e,jc]
theorem bnum_win(C:List Int)(h:∀x∈C,0<=x/\x<256)(j D a b:Nat)(hj:C.length=j+D)(h1:a*256^D<=bnum C)(h2:bnum C<b*256^D):a<=bnum (C.take j)/\bnum (C.take j)<b:=by
 have e:bnum C=bnum (C.take j)*256^D+bnum (C.drop j):=by
  have:=bnum_app (C.drop j) (C.take j)
  rw[List.take_append_drop,List.length_drop]at this
  rw[this]
  congr 3
  omega
 have hl:bnum (C.drop j)<256^D:=by
  have:=bnum_lt (C.drop j) fun x hx=>h x (List.mem_of_mem_drop hx)
  rw[List.length_drop]at this
  have e2:C.length-j=D:=by omega
  rwa [e2]at this
 generalize bnum (C.take j)=q at*
 generalize 256^D=P at*
 have hp:0<P:=by omega
 constructor
 ·have:a*P<(q+1)*P:=by rw[Nat.add_mul];omega
  have:=Nat.lt_of_mul_lt_mul_right this
  omega
 ·have:q*P<b*P:=by omega
  exact Nat.lt_of_mul_lt_mul_right this
section
variable (C : List Int) (hC : ∀ x ∈ C, 0 ≤ x ∧ x < 256)
include hC
theorem dec_win(s:En)(cs:List Nat)(l:List Nat)(hm:okM cs)(hl:∀x∈l,x<64)(ho:okE s s.width)(hw:16777216<=s.width/\s.width<=4294967296)(h1:bnum C=eV (enc cs s l))(h2:C.length=eK (enc cs s l)+4):
  eK s+4<=C.length/\eV s<=bnum (C.take (eK s+4))/\bnum (C.take (eK s+4))<eV s+s.width:=by
 obtain⟨d,a1,a2,a3,_,a5⟩:=enc_in l cs s hm hl ho hw
 have w:=bnum_win C hC (eK s+4) d (eV s) (eV s+s.width) (by omega) (by rw[h1];exact a2) (by rw[h1];omega)
 exact⟨by omega,w.1,w.2⟩
theorem dec_sym(s:En)(cs:List Nat)(x:Nat)(l:List Nat)(hm:okM cs)(hx:x<64)(hl:∀x∈l,x<64)(ho:okE s s.width)(hw:16777216<=s.width/\s.width<=4294967296)(h1:bnum C=eV (enc (see cs x) (norm 4 (nar s cs x)) l))(h2:C.length=eK (enc (see cs x) (norm 4 (nar s cs x)) l)+4):
  eV s+s.width/cs.sum*(cs.take x).sum<=bnum (C.take (eK s+4))/\bnum (C.take (eK s+4))<eV s+s.width/cs.sum*(cs.take x).sum+s.width/cs.sum*cs.getD x 0:=by
 obtain⟨d,b1,b2,b3,b4,b5,b6,b7⟩:=add_ok s cs x hm hx ho hw
 obtain⟨d1,a1,a2,a3,_,a5⟩:=enc_in l (see cs x) (norm 4 (nar s cs x)) (see_ok hm hx) hl b4 ⟨b5,b6⟩
 rw[b1]at a2
 rw[b1,b2,<-Nat.add_mul]at a3
 refine bnum_win C hC (eK s+4) (d+d1) _ _ (by omega) ?_ ?_
 ·rw[h1,Nat.pow_add,<-Nat.mul_assoc];exact a2
 ·rw[h1,Nat.pow_add,<-Nat.mul_assoc];omega
end
abbrev DC(m b code w:Nat):List AV:=[.ptr m 0 0,.ptr b 0 0,.sc (.int .u32 (code:Int)),.sc (.int .u32 (w:Int))]
theorem or8_32(a j:Nat)(ha:a<16777216)(hj:j<256)(t:TypeId)(x y:Operand):binV Tryz.prog .or t x y (.int .u32 ((a*256:Nat):Int)) (.int .u32 (j:Int))=some (.int .u32 ((a*256+j:Nat):Int)):=by
 rw[ze]
 have e:(BitVec.ofInt IntKind.u32.bits ((a*256:Nat):Int)|||BitVec.ofInt IntKind.u32.bits (j:Int)).toNat=a*256+j:=by
  show(BitVec.ofInt 32 ((a*256:Nat):Int)|||BitVec.ofInt 32 (j:Int)).toNat=_
  rw[BitVec.toNat_or,BitVec.toNat_ofInt,BitVec.toNat_ofInt]
  have e1:(((a*256:Nat):Int)%((2^32:Nat):Int)).toNat=2^8*a:=by omega
  have e2:((j:Int)%((2^32:Nat):Int)).toNat=j:=by omega
  rw[e1,e2,<-Nat.two_pow_add_eq_or_of_lt (by omega) a]
  omega
 rw[e,qv (by omega) (by omega)]
theorem shl8_32(a:Nat)(ha:a<16777216)(t:TypeId)(x y:Operand):binV Tryz.prog .shl t x y (.int .u32 (a:Int)) (.int .u64 8)=some (.int .u32 ((a*256:Nat):Int)):=by
 rw[zn _ _ _ _ _ _ _ _ (by omega)]
 have e:(2:Int)^min (8:Int).toNat IntKind.u32.bits=256:=rfl
 rw[e,qv (by omega) (by omega)]
 rfl
section
variable (hp : Hp) (m cb : Nat) (cs : List Nat) (h : MW hp m cb cs) (hs : cs.sum ≤ 1000000) (hcl : cs.length = 64)
include h hs hcl
theorem find_loop(x P:Nat)(hx:x<64)(h1:(cs.take x).sum<=P)(h2:P<(cs.take (x+1)).sum):∀(f i:Nat),i+f=x->
  B179_4 (.ptr m 0 0) (.int .i64 ((P-(cs.take i).sum:Nat):Int)) (.int .i64 (i:Int)) hp=some (.sc (.int .i64 (x:Int)),hp):=by
 obtain⟨m1,m2,m3,m4,m5⟩:=h
 have hms:∀a b c d e,qR (.ms a b c d e)=some (a,b,c,d,e):=fun _ _ _ _ _=>rfl
 have hbig:(cs.take (x+1)).sum<=cs.sum:=qS cs _
 intro f
 induction f with
 |zero=>
  intro i hi
  have e:i=x:=by omega
  subst e
  have ix:idx cs.length (.int .i64 (i:Int))=some i:=zm .i64 (by omega)
  have g:=yZ .i64 (nz cs) i (by simp;omega)
  rw[xN cs i (by omega)]at g
  have ts:=qP cs i (by omega)
  have hge:¬((cs.getD i 0:Nat):Int)<=((P-(cs.take i).sum:Nat):Int):=by omega
  rw[B179_4_eq]
  generalize((cs.getD i 0:Nat):Int)=q1 at*
  generalize((P-(cs.take i).sum:Nat):Int)=q2 at*
  simp[m5,getC,hms,ix,m4,g,hge]
 |succ f ih=>
  intro i hi
  have ix:idx cs.length (.int .i64 (i:Int))=some i:=zm .i64 (by omega)
  have g:=yZ .i64 (nz cs) i (by simp;omega)
  rw[xN cs i (by omega)]at g
  have ts:=qP cs i (by omega)
  have tl:=sum_take_le cs (i+1) x (by omega)
  have hge:((cs.getD i 0:Nat):Int)<=((P-(cs.take i).sum:Nat):Int):=by omega
  have i2:=ih (i+1) (by omega)
  have w1:IntKind.i64.wrap (((P-(cs.take i).sum:Nat):Int)-((cs.getD i 0:Nat):Int))=((P-(cs.take (i+1)).sum:Nat):Int):=by rw[qf]<;>omega
  have w2:IntKind.i64.wrap ((i:Int)+1)=((i+1:Nat):Int):=by rw[qf]<;>omega
  rw[<-i2,B179_4_eq]
  generalize((cs.getD i 0:Nat):Int)=q1 at*
  generalize((P-(cs.take i).sum:Nat):Int)=q2 at*
  generalize((P-(cs.take (i+1)).sum:Nat):Int)=q3 at*
  generalize((i+1:Nat):Int)=q4 at*
  simp[m5,getC,hms,ix,m4,g,hge,w1,w2]
theorem run_find(x P:Nat)(hx:x<64)(h1:(cs.take x).sum<=P)(h2:P<(cs.take (x+1)).sum):
  run cxX 179 [.ptr m 0 0,.sc (.int .i64 (P:Int))] hp=some (.sc (.int .i64 (x:Int)),hp):=by
 have hbig:(cs.take (x+1)).sum<=cs.sum:=qS cs _
 have fl:=find_loop hp m cb cs h hs hcl x P hx h1 h2 x 0 (by omega)
 have al:=run_mall hp m cb cs h
 have e0:P-(cs.take 0).sum=P:=by simp
 rw[e0]at fl
 have hn:¬((P:Int)<0):=by omega
 have hge:¬((cs.sum:Int)<=(P:Int)):=by omega
 have fl':B179_4 (.ptr m 0 0) (.int .i64 (P:Int)) (.int .i64 0) hp=some (.sc (.int .i64 (x:Int)),hp):=fl
 rw[E179]
 generalize((cs.sum:Nat):Int)=S1 at*
 generalize((P:Nat):Int)=P1 at*
 simp[hn,al,hge,B179_3_eq,fl']
end
section
variable (d b m cb k x : Nat) (C : List Int) (hC : By C) (hCl : C.length ≤ 1000000) (hx : x < 64) (cs : List Nat) (hm : okM cs) (n1 : d ≠ b) (n2 : d ≠ m) (n3 : d ≠ cb) (n4 : b ≠ m) (n5 : b ≠ cb)
include hC hCl hx hm n1 n2 n3 n4 n5
theorem dnorm_loop:∀(f:Nat) (s:En) (code:Nat) (hp:Hp),okE s s.width->s.width<4294967296->4294967296<=s.width*256^f*256->code<s.width->bnum (C.take (eK s+4))=eV s+code->eK (norm f s)+4<=C.length->
    hp.rd d 0=some (DC m b code s.width)->hp.rd b 0=some (Rc k C (eK s+4) 0)->MW hp m cb cs->
    ∃ hp' code',B154_11 (.ptr d 0 0) (.int .i64 (x:Int)) hp=some (.sc (.int .i64 (x:Int)),hp')/\bnum (C.take (eK (norm f s)+4))=eV (norm f s)+code'/\code'<(norm f s).width/\
      hp'.rd d 0=some (DC m b code' (norm f s).width)/\hp'.rd b 0=some (Rc k C (eK (norm f s)+4) 0)/\MW hp' m cb (see cs x)/\hp'.next=hp.next/\∀c,c≠d->c≠b->c≠m->c≠cb->hp'.get c=hp.get c:=by
  have gs2:∀(x0 x1:AV) (v:Value) (r:List AV),qe (x0::x1::.sc v::r) 2=some v:=fun _ _ _ _=>rfl
  have gs3:∀(x0 x1 x2:AV) (v:Value) (r:List AV),qe (x0::x1::x2::.sc v::r) 3=some v:=fun _ _ _ _ _=>rfl
  have gc1:∀(x0 x1:AV) (r:List AV),getC (x0::x1::r) 1=some x1:=fun _ _ _=>rfl
  have gc0:∀(x0:AV) (r:List AV),getC (x0::r) 0=some x0:=fun _ _=>rfl
  have p2:∀(x0 x1 x2 x3 z:AV),putN [x0,x1,x2,x3] 2 [z]=some [x0,x1,z,x3]:=fun _ _ _ _ _=>rfl
  have p3:∀(x0 x1 x2 x3 z:AV),putN [x0,x1,x2,x3] 3 [z]=some [x0,x1,x2,z]:=fun _ _ _ _ _=>rfl
  have done:∀(s:En) (code:Nat) (hp:Hp),¬(s.width<16777216)->code<s.width->bnum (C.take (eK s+4))=eV s+code->hp.rd d 0=some (DC m b code s.width)->hp.rd b 0=some (Rc k C (eK s+4) 0)->MW hp m cb cs->
    ∃ hp' code',B154_11 (.ptr d 0 0) (.int .i64 (x:Int)) hp=some (.sc (.int .i64 (x:Int)),hp')/\bnum (C.take (eK s+4))=eV s+code'/\code'<s.width/\
      hp'.rd d 0=some (DC m b code' s.width)/\hp'.rd b 0=some (Rc k C (eK s+4) 0)/\MW hp' m cb (see cs x)/\hp'.next=hp.next/\∀c,c≠d->c≠b->c≠m->c≠cb->hp'.get c=hp.get c:=by
    intro s code hp hw hcode hN hd hb hM
    obtain⟨hp1,a1,a2,a3,a4⟩:=run_see hp m cb x cs hM hm hx
    refine⟨hp1,code,?_,hN,hcode,by rw[rdg (a4 d n2 n3)];exact hd,by rw[rdg (a4 b n4 n5)];exact hb,a2,a3,fun c c1 c2 c3 c4=>a4 c c3 c4⟩
    have er:=zg b k C (eK s+4) 0 hp hb
    have d1:decide ((s.width:Int)<Int.ofNat 16777216)=false:=decide_eq_false (by show ¬((s.width:Int)<((16777216:Nat):Int));omega)
    clear hw hcode hN
    simp only[DC]at hd
    rw[B154_11_eq]
    rw[xP hd (gs3 _ _ _ _ _),iC_lss,d1,cond_false]
    clear d1
    simp[hd,gc1,er,gc0,a1]
  intro f
  induction f with
  | zero=>
    intro s code hp ho hw hf hcode hN hle hd hb hM
    exact done s code hp (by rw[Nat.pow_zero,Nat.mul_one]at hf;omega) hcode hN hd hb hM
  | succ f ih=>
    intro s code hp ho hw hf hcode hN hle hd hb hM
    by_cases hl:s.width<16777216
    · have en:norm (f+1) s=norm f (sh (wid s (s.width*256))):=by rw[norm,if_pos hl]
      rw[en]at hle⊢
      have ho':okE (wid s (s.width*256)) s.width:=ho
      obtain⟨a1,a2,a3,a4⟩:=sh_ok (wid s (s.width*256)) s.width ho' (by omega)
      have a4:(sh (wid s (s.width*256))).width=s.width*256:=a4
      rw[(eV_wid s _).1]at a2
      rw[(eV_wid s _).2]at a3
      have hf2:4294967296<=s.width*256*256^f*256:=by
        rw[Nat.pow_succ]at hf
        have e:s.width*(256^f*256)*256=s.width*256*256^f*256:=by
          rw[Nat.mul_assoc s.width 256,Nat.mul_comm 256 (256^f)]
        rwa [e]at hf
      generalize sh (wid s (s.width*256))=s1 at*
      rw[<-a4]at a1
      obtain⟨dd,_,_,q3,_⟩:=norm_ok f s1 a1 (by rw[a4];omega) (by rw[a4];exact hf2)
      have hlt:eK s+4<C.length:=by omega
      have hmem:C.getD (eK s+4) 0∈C:=by rw[List.getD_eq_getElem?_getD,List.getElem?_eq_getElem hlt];exact List.getElem_mem _
      obtain⟨c1,c2⟩:=hC _ hmem
      obtain⟨j,hj⟩:∃j:Nat,C.getD (eK s+4) 0=j:=⟨(C.getD (eK s+4) 0).toNat,by omega⟩
      have bs:=bnum_take_succ C (eK s+4) hlt
      rw[hj]at bs c1 c2
      rw[hN,Int.toNat_natCast]at bs
      have hdr:C.drop (eK s+4)=(j:Int)::C.drop (eK s+4+1):=by
        rw[List.drop_eq_getElem_cons hlt]
        congr 1
        rw[<-hj,List.getD_eq_getElem?_getD,List.getElem?_eq_getElem hlt];rfl
      let H1:=hp.put d 0 (DC m b code (s.width*256))
      have H1d:H1.rd d 0=some (DC m b code (s.width*256)):=qh _ _ _
      have H1b:H1.rd b 0=some (Rc k C (eK s+4) 0):=by show(hp.put d 0 _).rd b 0=_;rw[qp _ _ (fun e=>n1 e.symm)];exact hb
      have tb:=zk b k C (by omega) hdr H1 (by omega) H1b
      let H2:=H1.put b 0 (Rc k C (eK s+4+1) 0)
      have H2d:H2.rd d 0=some (DC m b code (s.width*256)):=by show(H1.put b 0 _).rd d 0=_;rw[qp _ _ n1];exact H1d
      let H3:=H2.put d 0 (DC m b (code*256+j) (s.width*256))
      have H3d:H3.rd d 0=some (DC m b (code*256+j) s1.width):=by rw[a4];exact qh _ _ _
      have H3b:H3.rd b 0=some (Rc k C (eK s1+4) 0):=by
        show((H1.put b 0 _).put d 0 _).rd b 0=_
        rw[qp _ _ (fun e=>n1 e.symm),qh,a3]
      have H3f:∀c,c≠d->c≠b->H3.get c=hp.get c:=fun c h1 h2=>by
        show(((hp.put d 0 _).put b 0 _).put d 0 _).get c=_
        simp[Hp.put,h1,h2]
      have H3M:MW H3 m cb cs:=by
        obtain⟨m1,m2,m3,m4,m5⟩:=hM
        exact⟨m1,m2,m3,by rw[rdg (H3f cb (fun e=>n3 e.symm) (fun e=>n5 e.symm))];exact m4,by rw[rdg (H3f m (fun e=>n2 e.symm) (fun e=>n4 e.symm))];exact m5⟩
      obtain⟨hp',code',r1,r2,r3,r4,r5,r6,r7,r8⟩:=ih s1 (code*256+j) H3 a1 (by rw[a4];omega) (by rw[a4];exact hf2) (by rw[a4];omega) (by
        have e:eK s1+4=eK s+4+1:=by omega
        rw[e,bs,a2];omega) hle H3d H3b H3M
      refine⟨hp',code',?_,r2,r3,r4,r5,r6,by rw[r7];rfl,fun c h1 h2 h3 h4=>by rw[r8 c h1 h2 h3 h4,H3f c h1 h2]⟩
      have d1:decide ((s.width:Int)<Int.ofNat 16777216)=true:=decide_eq_true (by show((s.width:Int)<((16777216:Nat):Int));omega)
      have s1':=shl8_32 s.width hl
      have s2':=shl8_32 code (by omega)
      have o:=or8_32 code j (by omega) (by omega)
      have w1:IntKind.u32.wrap (j:Int)=(j:Int):=qv (by omega) (by omega)
      have g2:H2.get d=H1.get d:=by
        show(H1.put b 0 _).get d=_
        simp[Hp.put,n1]
      have sg:∀q i,jw (AV.ptr d q i,1) H1.get H2.get=some ():=fun q i=>sameG_ok (by unfold seeG;simp only[cmb,yF,Option.bind_some,g2])
      have m1:hp.put d 0 (DC m b code (s.width*256))=H1:=rfl
      have m2:H1.put b 0 (Rc k C (eK s+4+1) 0)=H2:=rfl
      have m3:H2.put d 0 (DC m b (code*256+j) (s.width*256))=H3:=rfl
      rw[m2]at tb
      rw[<-r1,B154_11_eq]
      clear_value H3 H2 H1
      simp only[DC]at hd H1d H2d m1 m3
      clear a1 a2 a3 a4 hf2 hf hcode hN hle hl ho hw q3 ih r2 r3 r4 r5 r8 H3d bs
      generalize((s.width*256:Nat):Int)=W2 at*
      rw[xP hd (gs3 _ _ _ _ _),iC_lss,d1,cond_true]
      clear d1
      generalize((s.width:Nat):Int)=W at*
      generalize((code*256+j:Nat):Int)=Q2 at*
      generalize((code*256:Nat):Int)=Q1 at*
      simp[hd,gs3,s1',p3,m1,H1d,gs2,s2',gc1,tb,cv_5_30,w1,o,H2d,p2,m3,sg,-ze]
    · have en:norm (f+1) s=s:=by rw[norm,if_neg hl]
      rw[en]at hle⊢
      exact done s code hp hl hcode hN hd hb hM
theorem run_dtake(s:En)(r:List Nat)(code:Nat)(hp:Hp)(hr:∀y∈r,y<64)(ho:okE s s.width)(hw:16777216<=s.width/\s.width<4294967296)(h1:bnum C=eV (enc cs s (x::r)))(h2:C.length=eK (enc cs s (x::r))+4)(hcode:bnum (C.take (eK s+4))=eV s+code)
    (hd:hp.rd d 0=some (DC m b code s.width)) (hb:hp.rd b 0=some (Rc k C (eK s+4) 0)) (hM:MW hp m cb cs):
    ∃ hp' code',run cxX 154 [.ptr d 0 0] hp=some (.sc (.int .i64 (x:Int)),hp')/\bnum (C.take (eK (norm 4 (nar s cs x))+4))=eV (norm 4 (nar s cs x))+code'/\
      hp'.rd d 0=some (DC m b code' (norm 4 (nar s cs x)).width)/\hp'.rd b 0=some (Rc k C (eK (norm 4 (nar s cs x))+4) 0)/\MW hp' m cb (see cs x)/\hp'.next=hp.next/\∀c,c≠d->c≠b->c≠m->c≠cb->hp'.get c=hp.get c:=by
  have hw':16777216<=s.width/\s.width<=4294967296:=⟨hw.1,Nat.le_of_lt hw.2⟩
  have e1:enc cs s (x::r)=enc (see cs x) (norm 4 (nar s cs x)) r:=rfl
  rw[e1]at h1 h2
  obtain⟨y1,y2⟩:=dec_sym C hC s cs x r hm hx hr ho hw' h1 h2
  obtain⟨dd,b1,b2,b3,b4,b5,b6,b7⟩:=add_ok s cs x hm hx ho hw'
  obtain⟨y3,_,_⟩:=dec_win C hC (norm 4 (nar s cs x)) (see cs x) r (see_ok hm hx) hr b4 ⟨b5,b6⟩ h1 h2
  rw[hcode]at y1 y2
  have hmm:=hm
  obtain⟨m1,m2,m3⟩:=hmm
  have hn1:1<=cs.getD x 0:=by
    rw[List.getD_eq_getElem?_getD,List.getElem?_eq_getElem (by omega)]
    exact m3 _ (List.getElem_mem _)
  have ht:=qP cs x (by omega)
  have hta:=qS cs (x+1)
  have hpart:4096<=s.width/cs.sum:=by
    rw[Nat.le_div_iff_mul_le (by omega)]
    have:4096*cs.sum<=4096*4096:=Nat.mul_le_mul_left _ m2
    omega
  have hmul:s.width/cs.sum*cs.sum<=s.width:=Nat.div_mul_le_self _ _
  have hsum:s.width/cs.sum*(cs.take x).sum+s.width/cs.sum*cs.getD x 0<=s.width:=by
    rw[<-Nat.mul_add,<-ht]
    exact Nat.le_trans (Nat.mul_le_mul_left _ hta) hmul
  have hge:s.width/cs.sum*1<=s.width/cs.sum*cs.getD x 0:=Nat.mul_le_mul_left _ hn1
  have hpw:s.width/cs.sum<=s.width:=Nat.div_le_self _ _
  have okn:okE (nar s cs x) (nar s cs x).width:=by
    obtain⟨o1,o2,o3,o4⟩:=ho
    refine⟨?_,o2,?_,fun q=>?_⟩
    ·show s.low+s.width/cs.sum*(cs.take x).sum+s.width/cs.sum*cs.getD x 0<=_;omega
    ·show 0<s.width/cs.sum*cs.getD x 0;omega
    · have:=o4 q
      show s.low+s.width/cs.sum*(cs.take x).sum+s.width/cs.sum*cs.getD x 0<=_;omega
  have ev:eV (nar s cs x)=eV s+s.width/cs.sum*(cs.take x).sum:=by
    show bnum (bl s)*4294967296+(s.low+_)=bnum (bl s)*4294967296+s.low+_
    omega
  have ek:eK (nar s cs x)=eK s:=rfl
  have ew:(nar s cs x).width=s.width/cs.sum*cs.getD x 0:=rfl
  have cdiv:(cs.take x).sum<=code/(s.width/cs.sum)/\code/(s.width/cs.sum)<(cs.take (x+1)).sum:=by
    constructor
    ·rw[Nat.le_div_iff_mul_le (by omega),Nat.mul_comm];omega
    ·rw[Nat.div_lt_iff_lt_mul (by omega),ht,Nat.mul_comm,Nat.mul_add];omega
  let H1:=(hp.put d 0 (DC m b (code-s.width/cs.sum*(cs.take x).sum) s.width)).put d 0 (DC m b (code-s.width/cs.sum*(cs.take x).sum) (s.width/cs.sum*cs.getD x 0))
  have H1d:H1.rd d 0=some (DC m b (code-s.width/cs.sum*(cs.take x).sum) (nar s cs x).width):=qh _ _ _
  have H1f:∀c,c≠d->H1.get c=hp.get c:=fun c h=>by
    show((hp.put d 0 _).put d 0 _).get c=_
    simp[Hp.put,h]
  have H1b:H1.rd b 0=some (Rc k C (eK (nar s cs x)+4) 0):=by rw[rdg (H1f b (fun e=>n1 e.symm)),ek];exact hb
  have H1M:MW H1 m cb cs:=by
    obtain⟨q1,q2,q3,q4,q5⟩:=hM
    exact⟨q1,q2,q3,by rw[rdg (H1f cb (fun e=>n3 e.symm))];exact q4,by rw[rdg (H1f m (fun e=>n2 e.symm))];exact q5⟩
  obtain⟨hp',code',r1,r2,r3,r4,r5,r6,r7,r8⟩:=dnorm_loop d b m cb k x C hC hCl hx cs hm n1 n2 n3 n4 n5 4 (nar s cs x) (code-s.width/cs.sum*(cs.take x).sum) H1 okn (by rw[ew];omega) (by
      rw[ew]
      have e:(256:Nat)^4=4294967296:=by decide
      rw[e]
      omega) (by rw[ew];omega) (by rw[ev,ek,hcode];omega) y3 H1d H1b H1M
  refine⟨hp',code',?_,r2,r4,r5,r6,r7,fun c c1 c2 c3 c4=>by rw[r8 c c1 c2 c3 c4,H1f c c1]⟩
  have er:=zg b k C (eK s+4) 0 hp hb
  have pt:=run_part hp m cb cs hM (by omega) m1 x hx
  have al:=run_mall hp m cb cs hM
  have fd:=run_find hp m cb cs hM (by omega) m1 x (code/(s.width/cs.sum)) hx cdiv.1 cdiv.2
  have gs2:∀(x0 x1:AV) (v:Value) (r:List AV),qe (x0::x1::.sc v::r) 2=some v:=fun _ _ _ _=>rfl
  have gs3:∀(x0 x1 x2:AV) (v:Value) (r:List AV),qe (x0::x1::x2::.sc v::r) 3=some v:=fun _ _ _ _ _=>rfl
  have gc1:∀(x0 x1:AV) (r:List AV),getC (x0::x1::r) 1=some x1:=fun _ _ _=>rfl
  have gc0:∀(x0:AV) (r:List AV),getC (x0::r) 0=some x0:=fun _ _=>rfl
  have p2:∀(x0 x1 x2 x3 z:AV),putN [x0,x1,x2,x3] 2 [z]=some [x0,x1,z,x3]:=fun _ _ _ _ _=>rfl
  have p3:∀(x0 x1 x2 x3 z:AV),putN [x0,x1,x2,x3] 3 [z]=some [x0,x1,x2,z]:=fun _ _ _ _ _=>rfl
  have w1:IntKind.u32.wrap ((cs.sum:Nat):Int)=((cs.sum:Nat):Int):=qv (by omega) (by omega)
  have qd:∀t o o',binV Tryz.prog .quo t o o' (.int .u32 (s.width:Int)) (.int .u32 (cs.sum:Nat))=some (.int .u32 ((s.width/cs.sum:Nat):Int)):=by
    intro t o o'
    rw[xu _ _ _ _ _ _ _ (by omega),Int.tdiv_eq_ediv_of_nonneg (by omega)]
    have e:(s.width:Int)/((cs.sum:Nat):Int)=((s.width/cs.sum:Nat):Int):=by simp
    rw[e,qv (by omega) (by omega)]
  have hcd:code/(s.width/cs.sum)<=code:=Nat.div_le_self _ _
  have qc:∀t o o',binV Tryz.prog .quo t o o' (.int .u32 (code:Int)) (.int .u32 ((s.width/cs.sum:Nat):Int))=some (.int .u32 ((code/(s.width/cs.sum):Nat):Int)):=by
    intro t o o'
    rw[xu _ _ _ _ _ _ _ (by omega),Int.tdiv_eq_ediv_of_nonneg (by omega)]
    have e:(code:Int)/((s.width/cs.sum:Nat):Int)=((code/(s.width/cs.sum):Nat):Int):=by simp
    rw[e,qv (by omega) (by omega)]
  have hcx:cs.getD x 0<=4096:=by omega
  have htx:(cs.take x).sum<=4096:=by omega
  have x1:((s.width/cs.sum:Nat):Int)*(((cs.take x).sum:Nat):Int)=((s.width/cs.sum*(cs.take x).sum:Nat):Int):=by simp
  have x2:((s.width/cs.sum:Nat):Int)*((cs.getD x 0:Nat):Int)=((s.width/cs.sum*cs.getD x 0:Nat):Int):=by simp
  have mm:(hp.put d 0 (DC m b (code-s.width/cs.sum*(cs.take x).sum) s.width)).put d 0 (DC m b (code-s.width/cs.sum*(cs.take x).sum) (s.width/cs.sum*cs.getD x 0))=H1:=rfl
  rw[qj]at mm
  clear_value H1
  clear y3 b1 b2 b3 b4 b5 b6 b7 okn ev H1f r2 r3 r4 r5 H1d h1 h2 cdiv hcode H1b
  have ple:s.width/cs.sum<4294967296:=by omega
  generalize hA:s.width/cs.sum*(cs.take x).sum=A at*
  generalize hB:s.width/cs.sum*cs.getD x 0=B at*
  generalize hQ:code/(s.width/cs.sum)=Q at*
  generalize s.width/cs.sum=p at*
  generalize(cs.take x).sum=tk at*
  generalize cs.getD x 0=gx at*
  have w2:IntKind.i64.wrap (Q:Int)=(Q:Int):=qf (by omega) (by omega)
  have w3:IntKind.u32.wrap (tk:Int)=(tk:Int):=qv (by omega) (by omega)
  have w4:IntKind.u32.wrap ((p:Int)*(tk:Int))=(A:Int):=by rw[x1,qv (by omega) (by omega)]
  have w5:IntKind.u32.wrap ((code:Int)-(A:Int))=((code-A:Nat):Int):=by rw[qv]<;>omega
  have w6:IntKind.u32.wrap (gx:Int)=(gx:Int):=qv (by omega) (by omega)
  have w7:IntKind.u32.wrap ((p:Int)*(gx:Int))=(B:Int):=by rw[x2,qv (by omega) (by omega)]
  simp only[DC]at hd mm
  rw[E154]
  generalize((code-A:Nat):Int)=CA at*
  have hx0:¬((x:Int)<0):=by omega
  simp[hd,gc1,er,B154_3_eq,gs3,gc0,al,cv_3_30,w1,qd,gs2,qc,xR,w2,fd,hx0,pt,w3,w4,w5,p2,w6,w7,qh,p3,qj,mm,r1]
end
section
variable (b k : Nat) (C : List Int) (hC : By C) (hCl : C.length ≤ 1000000) (h4 : 4 ≤ C.length)
include hC hCl h4
theorem top_loop:∀(f i:Nat) (hp:Hp),i+f=4->hp.rd b 0=some (Rc k C i 0)->
  B178_3 (.ptr b 0 0) (.int .u32 ((bnum (C.take i):Nat):Int)) (.int .i64 (i:Int)) hp=some (.sc (.int .u32 ((bnum (C.take 4):Nat):Int)),hp.put b 0 (Rc k C 4 0)):=by
 intro f
 induction f with
 |zero=>
  intro i hp hi hb
  have e:i=4:=by omega
  subst e
  rw[B178_3_eq,zd hb]
  generalize bnum (C.take 4)=N
  simp
 | succ f ih=>
  intro i hp hi hb
  have hlt:i<C.length:=by omega
  have hmem:C.getD i 0∈C:=by rw[List.getD_eq_getElem?_getD,List.getElem?_eq_getElem hlt];exact List.getElem_mem _
  obtain⟨c1,c2⟩:=hC _ hmem
  obtain⟨j,hj⟩:∃j:Nat,C.getD i 0=j:=⟨(C.getD i 0).toNat,by omega⟩
  have bs:=bnum_take_succ C i hlt
  rw[hj]at bs c1 c2
  rw[Int.toNat_natCast]at bs
  have hdr:C.drop i=(j:Int)::C.drop (i+1):=by
   rw[List.drop_eq_getElem_cons hlt]
   congr 1
   rw[<-hj,List.getD_eq_getElem?_getD,List.getElem?_eq_getElem hlt];rfl
  have tb:=zk b k C (by omega) hdr hp (by omega) hb
  have i2:=ih (i+1) (hp.put b 0 (Rc k C (i+1) 0)) (by omega) (qh _ _ _)
  rw[qj]at i2
  have hsm:bnum (C.take i)<16777216:=by
   have a:=bnum_lt (C.take i) fun x hx=>hC x (List.mem_of_mem_take hx)
   have e:(C.take i).length=i:=by simp;omega
   rw[e]at a
   have:(256:Nat)^i<=256^3:=Nat.pow_le_pow_right (by decide) (by omega)
   have e3:(256:Nat)^3=16777216:=by decide
   omega
  have sl:=shl8_32 _ hsm
  have o:=or8_32 _ j hsm (by omega)
  rw[<-bs]at o
  have w1:IntKind.u32.wrap (j:Int)=(j:Int):=qv (by omega) (by omega)
  have w2:IntKind.i64.wrap ((i:Int)+1)=((i+1:Nat):Int):=by rw[qf]<;>omega
  have hl4:(i:Int)<4:=by omega
  rw[<-i2,B178_3_eq]
  clear bs hsm
  generalize hp.put b 0 (Rc k C (i+1) 0)=H1 at*
  generalize((bnum (C.take i)*256:Nat):Int)=N1 at*
  generalize((bnum (C.take i):Nat):Int)=N0 at*
  generalize((bnum (C.take (i+1)):Nat):Int)=N2 at*
  generalize((i+1:Nat):Int)=I1 at*
  simp[hl4,sl,tb,cv_5_30,w1,o,w2,-ze]
theorem run_top(hp:Hp)(hb:hp.rd b 0=some (Rc k C 0 0)):run cxX 178 [.ptr b 0 0] hp=some (.sc (.int .u32 ((bnum (C.take 4):Nat):Int)),hp.put b 0 (Rc k C 4 0)):=by
 have t:=top_loop b k C hC hCl h4 4 0 hp rfl hb
 have t':B178_3 (.ptr b 0 0) (.int .u32 0) (.int .i64 0) hp=some (.sc (.int .u32 ((bnum (C.take 4):Nat):Int)),hp.put b 0 (Rc k C 4 0)):=t
 rw[E178]
 generalize bnum (C.take 4)=N at*
 simp[t']
theorem run_newdec(hp:Hp)(hbn:b<hp.next)(hb:hp.rd b 0=some (Rc k C 0 0)):∃hp' d m cb,run cxX 153 [.sc (.int .i64 64),.ptr b 0 0] hp=some (.ptr d 0 0,hp')/\hp'.rd d 0=some (DC m b (bnum (C.take 4)) 4294967295)/\hp'.rd b 0=some (Rc k C 4 0)/\MW hp' m cb cs0/\d≠b/\d≠m/\d≠cb/\b≠m/\b≠cb:=by
 obtain⟨hp1,cb,a1,a2,a3,a4,a5⟩:=run_mnew hp
 have hcb:=a2.2.1
 have hm:=a2.1
 have hb1:hp1.rd b 0=some (Rc k C 0 0):=by rw[rdg (a5 b hbn)];exact hb
 have tp:=run_top b k C hC hCl h4 hp1 hb1
 refine⟨(hp1.put b 0 (Rc k C 4 0)).new (DC hp.next b (bnum (C.take 4)) 4294967295),hp1.next,hp.next,cb,?_,qs (hp1.put b 0 _) _,?_,?_,by omega,by omega,by omega,by omega,by omega⟩
 ·have p0:∀(x0 x1 x2 x3 z:AV),putN [x0,x1,x2,x3] 0 [z]=some [z,x1,x2,x3]:=fun _ _ _ _ _=>rfl
  have p1:∀(x0 x1 x2 x3 z:AV),putN [x0,x1,x2,x3] 1 [z]=some [x0,z,x2,x3]:=fun _ _ _ _ _=>rfl
  have p2:∀(x0 x1 x2 x3 z:AV),putN [x0,x1,x2,x3] 2 [z]=some [x0,x1,z,x3]:=fun _ _ _ _ _=>rfl
  have p3:∀(x0 x1 x2 x3 z:AV),putN [x0,x1,x2,x3] 3 [z]=some [x0,x1,x2,z]:=fun _ _ _ _ _=>rfl
  have hn:(hp1.put b 0 (Rc k C 4 0)).next=hp1.next:=rfl
  have cp:∀a,qg 1 (.ptr a 0 0)=some [.ptr a 0 0]:=fun _=>rfl
  rw[E153]
  generalize bnum (C.take 4)=N at*
  generalize hp1.put b 0 (Rc k C 4 0)=H1 at*
  simp[a1,tp,p0,p1,p2,p3,hn,cp]
  rfl
 ·rw[zE _ _ (show b≠(hp1.put b 0 (Rc k C 4 0)).next from(by omega:b≠hp1.next)),qh]
 ·have f1:Fm [b] hp1 (hp1.put b 0 (Rc k C 4 0)):=Fm.put hp1 b _ (by simp)
  exact(a2.fr f1 (by simp;omega) (by simp;omega)).fr (Fm.new [] (hp1.put b 0 (Rc k C 4 0)) _) (by simp) (by simp)
end
section
variable (d b m cb k : Nat) (C : List Int) (hC : By C) (hCl : C.length ≤ 1000000) (n1 : d ≠ b) (n2 : d ≠ m) (n3 : d ≠ cb) (n4 : b ≠ m) (n5 : b ≠ cb) (L : List Nat) (hL : L.length ≤ 4096)
include hC hCl n1 n2 n3 n4 n5 hL
theorem cdt_loop(X2:AV):∀(r:List Nat) (i:Nat) (s:En) (cs:List Nat) (code:Nat) (hp:Hp),L.drop i=r->i+r.length=L.length->(∀y∈r,y<64)->okM cs->okE s s.width->16777216<=s.width/\s.width<4294967296->bnum C=eV (enc cs s r)->C.length=eK (enc cs s r)+4->
  bnum (C.take (eK s+4))=eV s+code->hp.rd d 0=some (DC m b code s.width)->hp.rd b 0=some (Rc k C (eK s+4) 0)->MW hp m cb cs->
  ∃hp' p,B101_7 (.int .i64 64) X2 (.ptr b 0 0) (.ptr d 0 0) (S 2 1 (LI .u8 (nz (L.take i)))) (.int .i64 (L.length:Int)) (.int .i64 (i:Int)) hp=B101_12 (.int .i64 64) X2 (.ptr b 0 0) (S 2 1 (LI .u8 (nz L))) hp'/\hp'.rd b 0=some (Rc k C p 0):=by
 intro r
 induction r with
 |nil=>
  intro i s cs code hp h hil hr hm ho hw h1 h2 hcode hd hb hM
  have e:i=L.length:=by simpa using hil
  subst e
  refine⟨hp,_,?_,hb⟩
  rw[List.take_length,B101_7_eq]
  generalize nz L=L0
  simp
 | cons x r ih=>
  intro i s cs code hp h hil hr hm ho hw h1 h2 hcode hd hb hM
  obtain⟨e1,e2,hi,e3⟩:=ql h
  simp only[List.length_cons]at hil
  have hx:=hr x (by simp)
  have hr':∀y∈r,y<64:=fun y hy=>hr y (by simp[hy])
  obtain⟨hp1,code1,a1,a2,a3,a4,a5,a6,a7⟩:=run_dtake d b m cb k x C hC hCl hx cs hm n1 n2 n3 n4 n5 s r code hp hr' ho hw h1 h2 hcode hd hb hM
  obtain⟨dd,b1,b2,b3,b4,b5,b6,b7⟩:=add_ok s cs x hm hx ho ⟨hw.1,Nat.le_of_lt hw.2⟩
  have hlt2:(norm 4 (nar s cs x)).width<4294967296:=by
   apply norm_lt
   show s.width/cs.sum*cs.getD x 0<_
   have ht:=qP cs x (by have:=hm.1;omega)
   have hta:=qS cs (x+1)
   have hmul:s.width/cs.sum*cs.sum<=s.width:=Nat.div_mul_le_self _ _
   have hle:s.width/cs.sum*cs.getD x 0<=s.width/cs.sum*cs.sum:=Nat.mul_le_mul_left _ (by omega)
   omega
  obtain⟨hp2,p,c1,c2⟩:=ih (i+1) (norm 4 (nar s cs x)) (see cs x) code1 hp1 e2 (by omega) hr' (see_ok hm hx) b4 ⟨b5,hlt2⟩ h1 h2 a2 a3 a4 a5
  refine⟨hp2,p,?_,c2⟩
  have hlt:(i:Int)<(L.length:Int):=by omega
  have hx0:¬((x:Int)<0):=by omega
  have w1:IntKind.u8.wrap (x:Int)=(x:Int):=zo (by omega) (by omega)
  have w2:IntKind.i64.wrap ((i:Int)+1)=((i+1:Nat):Int):=by rw[qf]<;>omega
  have ap:=appI .u8 (nz (L.take i)) 2 (.inr rfl) 1 (by decide) (x:Int) (by simp;omega)
  have es:nz (L.take i)++[(x:Int)]=nz (L.take (i+1)):=by
   have a1:L.take (i+1)=L.take i++[x]:=by rw[List.take_add_one,e1];rfl
   rw[a1,nz_snoc]
  rw[es]at ap
  rw[<-c1,B101_7_eq]
  have hi4:(i<L.length)=True:=by simp[hi]
  generalize nz (L.take (i+1))=L1 at*
  generalize nz (L.take i)=L0 at*
  generalize((i+1:Nat):Int)=I1 at*
  simp[hi4,a1,hx0,zD,w1,okV,ap,w2]
end
theorem cod_len4{l:List Nat}(hl:l.length<=1000)(h64:∀x∈l,x<64):4<=(cod l).length/\(cod l).length<=1000000:=by
 have a:=cod_len hl h64
 have b:=(cod_num l h64).2
 omega
theorem run_cdtake(L:List Nat)(t:Nat)(hL:L.length<=1000)(h64:∀x∈L,x<64)(hp:Hp):
    ∃hp',run cxX 101 [.sc (.int .i64 64),.sc (.int .i64 (L.length:Int)),S t 1 (LI .u8 (cod L))] hp=some (.tup [S 2 1 (LI .u8 (nz L)),.sc (.int .i64 0)],hp'):=by
  obtain⟨l4,lC⟩:=cod_len4 hL h64
  have hC:By (cod L):=cod_by L
  obtain⟨v1,v2⟩:=cod_num L h64
  have rd0:=run_wread (rk t) (cod L) hp
  rw[rk_rk]at rd0
  obtain⟨hp1,d,m,cb,a1,a2,a3,a4,n1,n2,n3,n4,n5⟩:=run_newdec hp.next (rk t) (cod L) hC lC l4 (hp.new (Rc (rk t) (cod L) 0 0)) (by simp) (qs _ _)
  obtain⟨hp2,p,b1,b2⟩:=cdt_loop d hp.next m cb (rk t) (cod L) hC lC n1 n2 n3 n4 n5 L (by omega) (S t 1 (LI .u8 (cod L))) L 0 en0 cs0 (bnum ((cod L).take 4)) hp1 rfl (by omega) h64 okM0 okE0 ⟨by decide,by decide⟩ v1 v2 (by
    show bnum ((cod L).take (0+4))=0+_
    rw[Nat.zero_add,Nat.zero_add]) a2 a3 a4
  have er:=zg hp.next (rk t) (cod L) p 0 hp2 b2
  obtain⟨hp3,c1,c2⟩:=run_cdput L 3 (by omega) h64 hp0
  have c3:B101_12 (.int .i64 64) (S t 1 (LI .u8 (cod L))) (.ptr hp.next 0 0) (S 2 1 (LI .u8 (nz L))) hp2=some (.tup [S 2 1 (LI .u8 (nz L)),.sc (.int .i64 0)],hp2):=by
    rw[B101_12_eq]
    generalize nz L=L0 at*
    generalize cod L=C0 at*
    simp[er,c1]
  have b1':B101_7 (.int .i64 64) (S t 1 (LI .u8 (cod L))) (.ptr hp.next 0 0) (.ptr d 0 0) (S 2 1 []) (.int .i64 (L.length:Int)) (.int .i64 0) hp1=B101_12 (.int .i64 64) (S t 1 (LI .u8 (cod L))) (.ptr hp.next 0 0) (S 2 1 (LI .u8 (nz L))) hp2:=b1
  have m0:¬((L.length:Int)<0):=by omega
  have m1:¬((4096:Int)<(L.length:Int)):=by omega
  refine⟨hp2,?_⟩
  rw[E101]
  generalize hp.new (Rc (rk t) (cod L) 0 0)=H0 at*
  generalize cod L=C0 at*
  generalize nz L=L0 at*
  have m1':decide ((4096:Int)<(L.length:Int))=false:=decide_eq_false m1
  simp[m0,m1',B101_3_eq,rd0,a1,b1',c3]
noncomputable section
theorem E20(a0:AV)(hp:Hp):run cxX 20 [a0] hp=aS a0 fun y0=>(bltV Tryz.prog Go.Builtin.max (Array.mk [3,3]) 3 [y0,kI 0]).bind fun y1=>rQ (AV.ptr hp.1 0 0) (Hp.new hp [.sc (kI 0),.sc y1]):=
 (eE 20 ss20 _ _).trans (by kernel_rfl)
theorem E22(a0:AV)(hp:Hp):run cxX 22 [a0] hp=iZ (ro a0) (rQ (.sc (kI 0)) hp) (ldS 0 (ro a0) hp fun y4=>rQ (.sc y4) hp):=
 (eE 22 ss22 _ _).trans (by kernel_rfl)
theorem E41(a0 a1:AV)(hp:Hp):run cxX 41 [a0,a1] hp=aS a1 fun y0=>iZ (ro a0) (rQ (.sc (kI 0)) hp) ((bltV Tryz.prog Go.Builtin.max (Array.mk [3,3]) 3 [y0,kI 0]).bind fun y2=>ldS 1 (ro a0) hp fun y6=>ldS 0 (ro a0) hp fun y10=>bT .sub 3 13 17 y6 y10 fun y11=>iT .gtr 3 9 18 y2 y11 (rQ (.sc (kI 14)) hp) (ldS 0 (ro a0) hp fun y17=>bT .add 3 23 24 y17 y2 fun y18=>stN 0 (ro a0) hp [.sc y18] fun h1=>rQ (.sc (kI 0)) h1)):=
 (eE 41 ss41 _ _).trans (by kernel_rfl)
end
noncomputable section
theorem E10(hp:Hp):run cxX 10 [] hp=pT 2 16 [.agg [.sc (kB 0),nl,.sc (kI 0),nl,.sc (kI 0),nl,.sc (kI 0),.sc (kI 0),nl,.sc (kI 0),.sc (kI 0),nl,.sc (kI 0),.sc (kW 0),.sc (kW 0),.sc (kW 0),.sc (kW 0),.sc (kW 0),.sc (kW 0),.sc (kW 0),.sc (Value.float Go.FloatKind.f64 0),.sc (Value.float Go.FloatKind.f64 0),nl]] fun z1=>nS z1 1 fun y4=>cN 2 17 [.sc (kB 0),ro (r2 (nthA z1 0)),.sc (Value.pointer none)] hp fun z2 h3=>nS z2 1 fun y7=>(qg 23 (ro (nthA z2 0))).bind fun y8=>(putN [.sc (kB 0),nl,.sc (kI 0),nl,.sc (kI 0),nl,.sc (kI 0),.sc (kI 0),nl,.sc (kI 0),.sc (kI 0),nl,.sc (kI 0),.sc (kW 0),.sc (kW 0),.sc (kW 0),.sc (kW 0),.sc (kW 0),.sc (kW 0),.sc (kW 0),.sc (Value.float Go.FloatKind.f64 0),.sc (Value.float Go.FloatKind.f64 0),nl] 0 y8).bind fun y9=>iC .eql 57 15 y4 (kI 0) ((srcA 1 (r2 (nthA z1 0))).bind fun y12=>(qX y12).bind fun y13=>iC .eql 9 19 (Value.string (ByteArray.mk (Array.mk y13))) (Value.string (ByteArray.mk (Array.mk [0]))) (iC .eql 57 23 y7 (kI 0) ((getC y9 1).bind fun y18=>ln (ro1 y18) fun y19=>bC .eql 3 29 (kI y19) (kI 0) fun y20=>rQ (.sc y20) h3) (rQ (.sc (.bool false)) h3)) (rQ (.sc (.bool false)) h3)) (rQ (.sc (.bool false)) h3):=
 (eE 10 ss10 _ _).trans (by kernel_rfl)
end
theorem check_zero:checkN skZ=0:=by simp[checkN,jS,skZ,schk,ordS]
theorem run_rof_nil(k:Nat)(hp:Hp):run cxX 32 [S k 1 []] hp=some (.tup [S 2 1 [],.sc (.int .i64 0)],hp):=by
 rw[E32]
 simp[B32_5_eq]
theorem run_sput_nil(b k:Nat)(hp:Hp)(h:hp.rd b 0=some (Wc [])):run cxX 33 [S k 1 [],.ptr b 0 0] hp=some (.tup [],hp.put b 0 (Wc [0])):=by
 have u0:uv 0=[0]:=by rw[uv_lt (by decide)];rfl
 have wu:=qZ b 0 [] (by decide) (by rw[u0];decide) hp h
 rw[u0]at wu
 have lz:∀k,lenA (S k 1 [])=some 0:=fun k=>lenA_S k []
 have bz:∀x hp,B33_2 (.ptr b 0 0) x (.int .i64 0) (.int .i64 0) hp=some (.tup [],hp):=fun x hp=>by rw[B33_2_eq];simp
 simp at wu
 rw[E33]
 have w0:IntKind.u64.wrap 0=0:=rfl
 simp[wu,lz,bz,w0]
theorem run_put_zero(hp:Hp):∃hp',run cxX 16 [skA skZ gz 2 2 2 2 2 2] hp=some (.tup [S 1 1 (LI .u8 [0]),.sc (.int .i64 0)],hp'):=by
 have ck:=jo (qV (x:=skZ) gz_W rfl 2 2 2 2 2 2) skZ_W hp0
 rw[check_zero]at ck
 have ro:=run_rof_nil 2 hp0
 have sp:=run_sput_nil hp.next 2 (hp.new (Wc [])) (qs _ _)
 have wb:=run_wbytes hp.next [0] (by decide) ((hp.new (Wc [])).put hp.next 0 (Wc [0])) (qh _ _ _)
 refine⟨(hp.new [S 2 1 []]).put hp.next 0 [S 2 1 (LI .u8 [0])],?_⟩
 simp[skA,skZ,gz,LF,fl]at ck
 simp only[Wc,nilI]at sp wb
 rw[E16]
 simp[skA,skZ,gz,LF,fl,getN,qe,getC,ck,ro,sp,wb,B16_28_eq]
theorem run_rtake_zero(b k:Nat)(hp:Hp)(h:hp.rd b 0=some (Rc k [0] 0 0)):run cxX 43 [.ptr b 0 0] hp=some (S 2 1 [],hp.put b 0 (Rc k [0] 1 0)):=by
 have ru:=run_ruint b k [0] 4096 0 0 (by decide) (by decide) (by simp) (by simp) hp h
 have e:rU [0] 0 0 4096=(0,1,0):=by decide
 rw[e]at ru
 have er:=zg b k [0] 1 0 (hp.put b 0 (Rc k [0] 1 0)) (qh _ _ _)
 rw[E43]
 simp at ru
 simp[ru,B43_5_eq,B43_15_eq,er]
theorem run_slist_nil(k:Nat)(hp:Hp):run cxX 44 [S k 1 []] hp=some (S 2 1 [],hp):=by
 have lz:∀k,lenA (S k 1 [])=some 0:=fun k=>lenA_S k []
 rw[E44]
 simp[lz,B44_3_eq]
theorem run_room(n:Nat)(h:n<=1048576)(hp:Hp):run cxX 21 [.sc (.int .i64 (n:Int))] hp=some (.sc (.int .i64 (64*(n:Int)+16384)),hp):=by
 have m1:max (n:Int) 0=n:=by omega
 have m2:min (n:Int) 1048576=n:=by omega
 have w1:IntKind.i64.wrap (64*(n:Int))=64*(n:Int):=qf (by omega) (by omega)
 have w2:IntKind.i64.wrap (64*(n:Int)+16384)=64*(n:Int)+16384:=qf (by omega) (by omega)
 rw[E21]
 simp[m1,m2,w1,w2]
theorem run_mtake_nil(n:Int)(hp:Hp):run cxX 41 [.sc (.pointer none),.sc (.int .i64 n)] hp=some (.sc (.int .i64 0),hp):=by
 rw[E41]
 simp
theorem run_take_zero(k:Nat)(hp:Hp):∃hp',run cxX 17 [.sc (.int .u8 0),S k 1 (LI .u8 [0]),.sc (.pointer none)] hp=some (.tup [skA skZ gz 2 2 2 2 2 2,.sc (.int .i64 0)],hp'):=by
 have ck:=jo (qV (x:=skZ) gz_W rfl 2 2 2 2 2 2) skZ_W hp0
 rw[check_zero]at ck
 have rm:=run_room 1 (by decide) hp0
 have mt:=run_mtake_nil (64*((1:Nat):Int)+16384) hp
 have wr:=run_wread (rk k) [0] hp
 have rt:=run_rtake_zero hp.next (rk k) (hp.new (Rc (rk k) [0] 0 0)) (qs _ _)
 have sl:=run_slist_nil 2 hp0
 have en:=run_rend hp.next (rk k) [0] 1 0 ((hp.new (Rc (rk k) [0] 0 0)).put hp.next 0 (Rc (rk k) [0] 1 0)) (by decide) (by decide) (qh _ _ _)
 refine⟨(hp.new (Rc (rk k) [0] 0 0)).put hp.next 0 (Rc (rk k) [0] 1 0),?_⟩
 simp[skA,skZ,gz,LF,fl]at ck
 simp at rm mt wr en
 rw[E17]
 simp[skA,skZ,gz,LF,fl,getN,qe,getC,putN,ck,rm,mt,wr,rt,sl,en,B17_24_eq]
theorem run_awake18(hp:Hp):∃hp',run cxX 10 [] hp=some (.sc (.bool true),hp'):=by
 obtain⟨h1,p0⟩:=run_put_zero hp0
 obtain⟨h2,t0⟩:=run_take_zero (rk 1) hp
 have bo:qX (LI .u8 [0])=some [0]:=rfl
 refine⟨h2,?_⟩
 simp[skA,skZ,gz,LF,fl]at p0 t0
 rw[E10]
 simp[p0,t0,bo,putN,getC]
theorem take_24{x:SkN}(f:Fine x)(g:Gs)(gw:g.W)(gn:g.nf=x.g)(a c d e q t:Nat)(b k:Nat)(l:List Int)(hl:l.length<=1000000000)(hp:Hp)(hr:hp.rd b 0=some (Rc k l l.length 0)):
  xW (.ptr b 0 0) skZL (skL x g a c d e q t) hp=some (.tup [skA x g a c d e q t,.sc (.int .i64 0)],hp):=by
 have ck:=jo (qV gw gn (rk a) (rk c) (rk d) (rk e) (rk q) (rk t)) f.w hp0
 have en:=run_rend b k l l.length 0 hp hl (Nat.le_refl _) hr
 have e0:(if(0:Int)=0/\l.length<l.length then(15:Int)else 0)=0:=by simp
 rw[e0]at en
 rw[f.c]at ck
 rw[B17_24_eq]
 unfold skA at ck⊢
 unfold skL skZL
 simp[en,getN,putN,ck]
theorem run_thll(b k:Nat)(l:List Int)(hl:l.length<=1000000000)(P:Int)(hP:4<=P/\P<=8)(L:List Nat)(hL:L.length=hpow P)(h64:∀x∈L,x<64)(p:Nat)(hd:l.drop p=P::cod L)(hp:Hp)(hpl:p<=l.length)(hr:hp.rd b 0=some (Rc k l p 0)):
  ∃t,run cxX 47 [.ptr b 0 0] hp=some (.agg [.sc (.int .i64 P),S t 1 (LI .u8 (nz L))],hp.put b 0 (Rc k l l.length 0)):=by
 have hp256:hpow P<=256:=by
  unfold hpow
  exact Nat.le_trans (Nat.pow_le_pow_right (by decide) (show P.toNat<=8 by omega)) (by decide)
 have t0:=zk b k l hl hd hp hpl hr
 obtain⟨_,d0,hi0,_⟩:=ql hd
 have el:l.length=p+1+(cod L).length:=by
  have:=congrArg List.length d0
  simp only[List.length_drop]at this
  omega
 have d0':l.drop (p+1)=cod L++[]:=by rw[List.append_nil];exact d0
 have lf:=run_rleft b k l (p+1) 0 (hp.put b 0 (Rc k l (p+1) 0)) hl (by omega) (qh _ _ _)
 have eL:rL l (p+1) 0=(cod L).length:=by unfold rL;rw[if_pos rfl];omega
 rw[eL]at lf
 obtain⟨t,t1⟩:=yp b k l hl d0' (hp.put b 0 (Rc k l (p+1) 0)) (by omega) (qh _ _ _)
 rw[qj,<-el]at t1
 obtain⟨hpC,ct⟩:=run_cdtake L (rk t) (by omega) h64 hp0
 have hn:=run_hnew P hP hp0
 have w1:IntKind.i64.wrap P=P:=qf (by omega) (by omega)
 refine⟨3,?_⟩
 rw[E47]
 generalize hp.put b 0 (Rc k l (p+1) 0)=H1 at*
 generalize hp.put b 0 (Rc k l l.length 0)=H2 at*
 generalize cod L=C0 at*
 rw[hL]at ct
 generalize nz L=L0 at*
 simp[t0,jy,w1,hn,putN,getC,lf,t1,ct,B47_8_eq,getN]
theorem gau_keys{x:SkN}{v:AV}(hv:IsSk x v):yB x.g.lo/\yB x.g.hi/\∀k∈x.g.L,yB k:=by
 obtain⟨g,a,b,c,d,e,t,gw,gn,rfl⟩:=hv
 rw[<-gn]
 refine⟨isKey_kw gw.lo,isKey_kw gw.hi,fun k hk=>?_⟩
 obtain⟨w,hw,rfl⟩:=List.mem_map.mp hk
 exact isKey_kw (gw.L w hw)
def gOf(g:GN):Gs:=⟨g.M,g.e0,g.e1,g.e2,g.e3,g.e4,g.e5,wk g.lo,wk g.hi,g.L.map wk⟩
theorem gOf_nf{g:GN}(h1:yB g.lo)(h2:yB g.hi)(h3:∀k∈g.L,yB k):(gOf g).nf=g:=by
 have e:(g.L.map wk).map kw=g.L:=by
  rw[List.map_map]
  have:∀k∈g.L,(kw∘wk) k=id k:=fun k hk=>(h3 k hk).2
  rw[List.map_congr_left this,List.map_id]
 unfold gOf Gs.nf
 simp only[h1.2,h2.2,e]
theorem gOf_W{g:GN}(p:g.Pos)(h1:yB g.lo)(h2:yB g.hi)(h3:∀k∈g.L,yB k)(hl:g.L.length<=16):(gOf g).W:=by
 obtain⟨p0,p1,p2,p3,p4,p5,p6⟩:=p
 refine⟨p0,p1,p2,p3,p4,p5,p6,wk_lt _ h1.1,wk_lt _ h2.1,fun w hw=>?_,by show(g.L.map wk).length<=_;rw[List.length_map];omega⟩
 obtain⟨k,hk,rfl⟩:=List.mem_map.mp hw
 exact wk_lt _ (h3 k hk).1
theorem run_take{x:SkN}{v:AV}(hv:IsSk x v)(f:Fine x)(h64:H64 x)(k:Nat)(M:AV)(hro:AI.ro M=M)(hp hp1:Hp)(mt:run cxX 41 [M,.sc (.int .i64 (64*((putY x).length:Int)+16384))] hp=some (.sc (.int .i64 0),hp1)):
    ∃r hp',IsSk x r/\run cxX 17 [.sc (.int .u8 x.kind),S k 1 (LI .u8 (putY x)),M] hp=some (.tup [r,.sc (.int .i64 0)],hp')/\∀a,a<hp1.next->hp'.get a=hp1.get a:=by
  have nn:=putY_len hv f h64
  have by8:=putY_by f h64
  have hk:=f.w.kind
  obtain⟨kd,on,_⟩:=qM.mp f.c
  have six:x.kind=0\/x.kind=1\/x.kind=2\/x.kind=3\/x.kind=4\/x.kind=5:=by omega
  have rm:=run_room (putY x).length (by omega) hp0
  have wr:=run_wread (rk k) (putY x) hp1
  rw[rk_rk]at wr
  have hr0:(hp1.new (Rc (rk k) (putY x) 0 0)).rd hp1.next 0=some (Rc (rk k) (putY x) 0 0):=qs _ _
  have fr0:∀a,a<hp1.next->(hp1.new (Rc (rk k) (putY x) 0 0)).get a=hp1.get a:=fun a ha=>by
    have:a≠hp1.next:=by omega
    simp[Hp.new,this]
  have hn0:(hp1.new (Rc (rk k) (putY x) 0 0)).next=hp1.next+1:=rfl
  have hlen:¬((1048576:Int)<((putY x).length:Int)):=by omega
  have dlen:decide ((1048576:Int)<((putY x).length:Int))=false:=decide_eq_false hlen
  have d0:∀Y:List Int,putY x=Y->(putY x).drop 0=Y++[]:=fun Y h=>by rw[h,List.drop_zero,List.append_nil]
  rcases six with kk|kk|kk|kk|kk|kk
  · have s:=set_facts f kk
    have eY:putY x=roaY (chs (tn x.set)):=by unfold putY;rw[if_pos kk]
    have cl:=chs_len (tn x.set)
    have tc:=tot_chs (tn x.set)
    rw[tn_len]at cl tc
    obtain⟨hp2,a1,a2,a3,a4⟩:=run_roartake hp1.next (rk k) (putY x) (by omega) by8 (chs (tn x.set)) (chs_ok s.2.2.1) (by omega) (by omega) (chs_keys _ s.2.1) 0 [] (d0 _ eY) (hp1.new (Rc (rk k) (putY x) 0 0)) (by omega) (by rw[hn0];omega) hr0
    rw[<-eY,Nat.zero_add]at a2
    have sl:=run_slist (chs (tn x.set)) 3 (chs_ok s.2.2.1) (by omega) (by omega) hp0
    rw[lsC_chs _ s.2.1,s.2.2.2]at sl
    have ex:x={skZ with kind:=0,set:=x.set}:=by
      rw[jS,if_pos kk,kk]at on;exact on
    have t24:=take_24 f gz gz_W (by rw[ex];rfl) 2 2 2 2 2 2 hp1.next (rk k) (putY x) (by omega) hp2 a2
    refine⟨_,hp2,qV gz_W (by rw[ex];rfl) 2 2 2 2 2 2,?_,fun a ha=>by rw[a4 a (by rw[hn0];omega) (by omega),fr0 a ha]⟩
    rw[<-t24,E17]
    generalize putY x=Y at*
    generalize hp1.new (Rc (rk k) Y 0 0)=H1 at*
    generalize csL (chs (tn x.set))=CL at*
    have e2:skL x gz 2 2 2 2 2 2=skL {skZ with kind:=0,set:=x.set} gz 2 2 2 2 2 2:=congrArg (fun y=>skL y gz 2 2 2 2 2 2) ex
    rw[e2]
    simp[dlen,rm,hro,mt,kk,wr,a1,sl,putN]
    rfl
  · have s:=kmv_facts f kk h64
    have eY:putY x=uv x.K.toNat++ricY (tn x.hs):=by unfold putY;rw[if_neg (by omega),if_pos kk]
    have eYl:(putY x).length=(uv x.K.toNat).length+(ricY (tn x.hs)).length:=by rw[eY,List.length_append]
    have dd:(putY x).drop 0=uv x.K.toNat++(ricY (tn x.hs)++[]):=by rw[eY,List.append_nil,List.drop_zero]
    have t0:=zj hp1.next (rk k) (putY x) (by omega) by8 (most:=1024) dd (by omega) (by omega) (hp1.new (Rc (rk k) (putY x) 0 0)) (Nat.zero_le _) hr0
    have d1:=qG dd
    have q1:=qT (Nat.zero_le _) dd
    rw[Nat.zero_add]at t0 d1 q1
    obtain⟨hp2,a1,a2,a3,a4⟩:=run_rtake hp1.next (rk k) (putY x) (by omega) by8 (tn x.hs) (by rw[tn_len];exact s.2.1) s.2.2.2.1 s.2.2.1 (uv x.K.toNat).length [] d1 ((hp1.new (Rc (rk k) (putY x) 0 0)).put hp1.next 0 (Rc (rk k) (putY x) (uv x.K.toNat).length 0)) q1 (by show hp1.next<hp1.next+1;omega) (qh _ _ _)
    rw[<-eYl]at a2
    rw[s.2.2.2.2]at a1
    have ex:x={skZ with kind:=1,K:=x.K,hs:=x.hs}:=by
      rw[jS,if_neg (by omega),if_pos kk,kk]at on;exact on
    have t24:=take_24 f gz gz_W (by rw[ex];rfl) 2 3 2 2 2 2 hp1.next (rk k) (putY x) (by omega) hp2 a2
    refine⟨_,hp2,qV gz_W (by rw[ex];rfl) 2 3 2 2 2 2,?_,fun a ha=>by
      have h1:a≠hp1.next:=by omega
      rw[a4 a (by show a<hp1.next+1;omega) h1,<-fr0 a ha];simp[Hp.put,h1]⟩
    have eK:((x.K.toNat:Nat):Int)=x.K:=by omega
    have w1:IntKind.i64.wrap x.K=x.K:=qf (by omega) (by omega)
    have lit:((1024:Nat):Int)=1024:=rfl
    rw[eK,lit]at t0
    rw[<-t24,E17]
    generalize putY x=Y at*
    generalize(hp1.new (Rc (rk k) Y 0 0)).put hp1.next 0 (Rc (rk k) Y (uv x.K.toNat).length 0)=H2 at*
    generalize hp1.new (Rc (rk k) Y 0 0)=H1 at*
    have e2:skL x gz 2 3 2 2 2 2=skL {skZ with kind:=1,K:=x.K,hs:=x.hs} gz 2 3 2 2 2 2:=congrArg (fun y=>skL y gz 2 3 2 2 2 2) ex
    rw[e2]
    simp[dlen,rm,hro,mt,kk,wr,t0,yg,w1,a1,putN]
    rfl
  · have s:=hll_facts f kk
    have eY:putY x=x.P::cod (tn x.rg):=by unfold putY;rw[if_neg (by omega),if_neg (by omega),if_pos kk]
    obtain⟨t,a1⟩:=run_thll hp1.next (rk k) (putY x) (by omega) x.P s.1 (tn x.rg) (by rw[tn_len];exact s.2.1) s.2.2.2.1 0 (by rw[List.drop_zero];exact eY) (hp1.new (Rc (rk k) (putY x) 0 0)) (Nat.zero_le _) hr0
    rw[s.2.2.2.2]at a1
    have ex:x={skZ with kind:=2,P:=x.P,rg:=x.rg}:=by
      rw[jS,if_neg (by omega),if_neg (by omega),if_pos kk,kk]at on;exact on
    have t24:=take_24 f gz gz_W (by rw[ex];rfl) 2 2 t 2 2 2 hp1.next (rk k) (putY x) (by omega) ((hp1.new (Rc (rk k) (putY x) 0 0)).put hp1.next 0 (Rc (rk k) (putY x) (putY x).length 0)) (qh _ _ _)
    refine⟨_,(hp1.new (Rc (rk k) (putY x) 0 0)).put hp1.next 0 (Rc (rk k) (putY x) (putY x).length 0),qV gz_W (by rw[ex];rfl) 2 2 t 2 2 2,?_,fun a ha=>?_⟩
    · rw[<-t24,E17]
      generalize putY x=Y at*
      generalize(hp1.new (Rc (rk k) Y 0 0)).put hp1.next 0 (Rc (rk k) Y Y.length 0)=H2 at*
      generalize hp1.new (Rc (rk k) Y 0 0)=H1 at*
      have e2:skL x gz 2 2 t 2 2 2=skL {skZ with kind:=2,P:=x.P,rg:=x.rg} gz 2 2 t 2 2 2:=congrArg (fun y=>skL y gz 2 2 t 2 2 2) ex
      rw[e2]
      simp[dlen,rm,hro,mt,kk,wr,a1,putN]
      rfl
    · have h1:a≠hp1.next:=by omega
      rw[<-fr0 a ha];simp[Hp.put,h1]
  · have s:=blo_facts f kk
    have eY:putY x=uv x.B.toNat++[x.H]++fanY (tn x.bs):=by unfold putY;rw[if_neg (by omega),if_neg (by omega),if_neg (by omega),if_pos kk]
    have eYl:(putY x).length=(uv x.B.toNat).length+1+(fanY (tn x.bs)).length:=by rw[eY];simp only[List.length_append,List.length_singleton]
    have dd:(putY x).drop 0=uv x.B.toNat++(x.H::(fanY (tn x.bs)++[])):=by rw[eY,List.append_nil,List.drop_zero];simp
    have t0:=zj hp1.next (rk k) (putY x) (by omega) by8 (most:=4096) dd (by omega) (by omega) (hp1.new (Rc (rk k) (putY x) 0 0)) (Nat.zero_le _) hr0
    have d1:=qG dd
    have q1:=qT (Nat.zero_le _) dd
    rw[Nat.zero_add]at t0 d1 q1
    have t1:=zk hp1.next (rk k) (putY x) (by omega) d1 ((hp1.new (Rc (rk k) (putY x) 0 0)).put hp1.next 0 (Rc (rk k) (putY x) (uv x.B.toNat).length 0)) q1 (qh _ _ _)
    rw[qj]at t1
    obtain⟨_,d2,hi2,_⟩:=ql d1
    obtain⟨ta,tb,t2⟩:=run_ftake (tn x.bs) (by rw[tn_len];exact s.2.2.1) s.2.2.2.2.1 s.2.2.2.1 hp1.next (rk k) (putY x) (by omega) by8 ((uv x.B.toNat).length+1) [] d2 ((hp1.new (Rc (rk k) (putY x) 0 0)).put hp1.next 0 (Rc (rk k) (putY x) ((uv x.B.toNat).length+1) 0)) (by omega) (qh _ _ _)
    rw[qj,<-eYl]at t2
    obtain⟨hpL,ls⟩:=run_flist (tn x.bs) (by rw[tn_len];exact s.2.2.1) s.2.2.2.2.1 s.2.2.2.1 (rk ta) (rk tb) hp0
    rw[s.2.2.2.2.2]at ls
    have ex:x={skZ with kind:=3,B:=x.B,H:=x.H,bs:=x.bs}:=by
      rw[jS,if_neg (by omega),if_neg (by omega),if_neg (by omega),if_pos kk,kk]at on;exact on
    have t24:=take_24 f gz gz_W (by rw[ex];rfl) 2 2 2 2 2 2 hp1.next (rk k) (putY x) (by omega) ((hp1.new (Rc (rk k) (putY x) 0 0)).put hp1.next 0 (Rc (rk k) (putY x) (putY x).length 0)) (qh _ _ _)
    refine⟨_,(hp1.new (Rc (rk k) (putY x) 0 0)).put hp1.next 0 (Rc (rk k) (putY x) (putY x).length 0),qV gz_W (by rw[ex];rfl) 2 2 2 2 2 2,?_,fun a ha=>?_⟩
    · have eB:((x.B.toNat:Nat):Int)=x.B:=by omega
      have w1:IntKind.i64.wrap x.B=x.B:=qf (by omega) (by omega)
      have w2:IntKind.i64.wrap x.H=x.H:=qf (by omega) (by omega)
      have lit:((4096:Nat):Int)=4096:=rfl
      rw[eB,lit]at t0
      rw[<-t24,E17]
      unfold Frow at t2 ls
      generalize pk (za (fanK (tn x.bs)) (tn x.bs))=A at*
      generalize pk (qD (fanK (tn x.bs)) 0 (tn x.bs))=Bh at*
      generalize putY x=Y at*
      generalize(hp1.new (Rc (rk k) Y 0 0)).put hp1.next 0 (Rc (rk k) Y Y.length 0)=H4 at*
      generalize(hp1.new (Rc (rk k) Y 0 0)).put hp1.next 0 (Rc (rk k) Y ((uv x.B.toNat).length+1) 0)=H3 at*
      generalize(hp1.new (Rc (rk k) Y 0 0)).put hp1.next 0 (Rc (rk k) Y (uv x.B.toNat).length 0)=H2 at*
      generalize hp1.new (Rc (rk k) Y 0 0)=H1 at*
      have e2:skL x gz 2 2 2 2 2 2=skL {skZ with kind:=3,B:=x.B,H:=x.H,bs:=x.bs} gz 2 2 2 2 2 2:=congrArg (fun y=>skL y gz 2 2 2 2 2 2) ex
      rw[e2]
      generalize((tn x.bs).length:Int)=N1 at*
      generalize((qy (tn x.bs):Nat):Int)=N2 at*
      generalize((fanK (tn x.bs):Nat):Int)=N3 at*
      simp[dlen,rm,hro,mt,kk,wr,t0,yg,w1,t1,jy,w2,t2,ls,putN]
      rfl
    · have h1:a≠hp1.next:=by omega
      rw[<-fr0 a ha];simp[Hp.put,h1]
  · have s:=cms_facts f kk
    have eY:putY x=[x.R]++uv x.C.toNat++pcnt x.C x.cs 0 0:=by unfold putY;rw[if_neg (by omega),if_neg (by omega),if_neg (by omega),if_neg (by omega),if_pos kk]
    obtain⟨hp2,a1,a2,a3⟩:=run_tcms hp1.next (rk k) (putY x) (by omega) by8 x.R x.C s.1 s.2.1 x.cs s.2.2.1 f.w.cs 0 [] (d0 _ eY) (hp1.new (Rc (rk k) (putY x) 0 0)) (Nat.zero_le _) (by rw[hn0];omega) hr0
    rw[<-eY,Nat.zero_add]at a2
    have ex:x={skZ with kind:=4,R:=x.R,C:=x.C,cs:=x.cs}:=by
      rw[jS,if_neg (by omega),if_neg (by omega),if_neg (by omega),if_neg (by omega),if_pos kk,kk]at on;exact on
    have t24:=take_24 f gz gz_W (by rw[ex];rfl) 2 2 2 2 0 2 hp1.next (rk k) (putY x) (by omega) hp2 a2
    refine⟨_,hp2,qV gz_W (by rw[ex];rfl) 2 2 2 2 0 2,?_,fun a ha=>by
      have h1:a≠hp1.next:=by omega
      rw[a3.2 a (by rw[hn0];omega) (by simp[h1]),fr0 a ha]⟩
    rw[<-t24,E17]
    generalize putY x=Y at*
    generalize hp1.new (Rc (rk k) Y 0 0)=H1 at*
    have e2:skL x gz 2 2 2 2 0 2=skL {skZ with kind:=4,R:=x.R,C:=x.C,cs:=x.cs} gz 2 2 2 2 0 2:=congrArg (fun y=>skL y gz 2 2 2 2 0 2) ex
    rw[e2]
    simp[dlen,rm,hro,mt,kk,wr,a1,putN]
    rfl
  · have s:=gau_facts f kk
    obtain⟨g1,g2,g3⟩:=gau_keys hv
    have eY:putY x=gauY x.gK x.g:=by unfold putY;rw[if_neg (by omega),if_neg (by omega),if_neg (by omega),if_neg (by omega),if_neg (by omega)]
    have a1:=run_tgau hp1.next (rk k) (putY x) (by omega) by8 x.gK (by omega) x.g f.pos g1 g2 g3 (ordG_nofall s.2.1) s.2.2 0 [] (d0 _ eY) (hp1.new (Rc (rk k) (putY x) 0 0)) (Nat.zero_le _) hr0
    rw[<-eY,Nat.zero_add]at a1
    have ex:x={skZ with kind:=5,gK:=x.gK,g:=x.g}:=by
      rw[jS,if_neg (by omega),if_neg (by omega),if_neg (by omega),if_neg (by omega),if_neg (by omega),if_pos kk,kk]at on;exact on
    have gw:=gOf_W f.pos g1 g2 g3 s.2.2
    have gn:=gOf_nf g1 g2 g3
    have t24:=take_24 f (gOf x.g) gw gn 2 2 2 2 2 2 hp1.next (rk k) (putY x) (by omega) ((hp1.new (Rc (rk k) (putY x) 0 0)).put hp1.next 0 (Rc (rk k) (putY x) (putY x).length 0)) (qh _ _ _)
    refine⟨_,(hp1.new (Rc (rk k) (putY x) 0 0)).put hp1.next 0 (Rc (rk k) (putY x) (putY x).length 0),qV gw gn 2 2 2 2 2 2,?_,fun a ha=>?_⟩
    · rw[<-t24,E17]
      generalize putY x=Y at*
      generalize(hp1.new (Rc (rk k) Y 0 0)).put hp1.next 0 (Rc (rk k) Y Y.length 0)=H2 at*
      generalize hp1.new (Rc (rk k) Y 0 0)=H1 at*
      have e2:skL x (gOf x.g) 2 2 2 2 2 2=skL {skZ with kind:=5,gK:=x.gK,g:=x.g} (gOf x.g) 2 2 2 2 2 2:=congrArg (fun y=>skL y (gOf x.g) 2 2 2 2 2 2) ex
      rw[e2]
      simp[dlen,rm,hro,mt,kk,wr,a1,putN]
      rfl
    · have h1:a≠hp1.next:=by omega
      rw[<-fr0 a ha];simp[Hp.put,h1]
theorem run_metnew(n:Int)(h:0<=n)(hp:Hp):run cxX 20 [.sc (.int .i64 n)] hp=some (.ptr hp.next 0 0,hp.new [.sc (.int .i64 0),.sc (.int .i64 n)]):=by
 have m1:max n 0=n:=by omega
 rw[E20]
 simp[m1]
theorem run_metused(c:Nat)(u n:Int)(hp:Hp)(h:hp.rd c 0=some [.sc (.int .i64 u),.sc (.int .i64 n)]):run cxX 22 [.ptr c 0 0] hp=some (.sc (.int .i64 u),hp):=by
 rw[E22]
 simp[h,qe]
theorem run_mettake(c:Nat)(n m:Int)(hn:0<=n/\n<4611686018427387904)(hm:0<=m/\m<4611686018427387904)(hp:Hp)(h:hp.rd c 0=some [.sc (.int .i64 0),.sc (.int .i64 n)]):
  run cxX 41 [.ptr c 0 0,.sc (.int .i64 m)] hp=if n<m then some (.sc (.int .i64 14),hp)else some (.sc (.int .i64 0),hp.put c 0 [.sc (.int .i64 m),.sc (.int .i64 n)]):=by
 have m1:max m 0=m:=by omega
 have w1:IntKind.i64.wrap n=n:=qf (by omega) (by omega)
 have w2:IntKind.i64.wrap m=m:=qf (by omega) (by omega)
 rw[E41]
 by_cases hlt:n<m
 ·rw[if_pos hlt]
  simp[h,qe,m1,w1,hlt]
 ·rw[if_neg hlt]
  simp[h,qe,m1,w1,hlt,w2,putN]
theorem run_take_budget{x:SkN}{v:AV}(hv:IsSk x v)(f:Fine x)(h64:H64 x)(k:Nat)(M:AV)(hro:AI.ro M=M)(hp hp1:Hp)(mt:run cxX 41 [M,.sc (.int .i64 (64*((putY x).length:Int)+16384))] hp=some (.sc (.int .i64 14),hp1)):
  run cxX 17 [.sc (.int .u8 x.kind),S k 1 (LI .u8 (putY x)),M] hp=some (.tup [.agg skZL,.sc (.int .i64 14)],hp1):=by
 have nn:=putY_len hv f h64
 have hk:=f.w.kind
 have kd:=(qM.mp f.c).1
 have rm:=run_room (putY x).length (by omega) hp0
 have dlen:decide ((1048576:Int)<((putY x).length:Int))=false:=decide_eq_false (by omega)
 have dk:decide ((6:Int)<=x.kind)=false:=decide_eq_false (by omega)
 rw[E17]
 generalize putY x=Y at*
 simp[dk,dlen,rm,hro,mt]
 rfl
theorem run_take_size(kd:Int)(hk:kd<6)(l:List AV)(k:Nat)(hl:1048576<l.length)(M:AV)(hp:Hp):run cxX 17 [.sc (.int .u8 kd),S k 1 l,M] hp=some (.tup [.agg skZL,.sc (.int .i64 6)],hp):=by
 have dlen:decide ((1048576:Int)<(l.length:Int))=true:=decide_eq_true (by omega)
 have dk:decide ((6:Int)<=kd)=false:=decide_eq_false (by omega)
 have ln:lenA (S (rk k) 1 l)=some l.length:=lenA_S _ _
 rw[E17]
 simp[dk]
 simp only[dlen,cond_true]
 rfl
theorem run_put_kind{x:SkN}{v:AV}(hv:IsSk x v)(w:x.W)(h:6<=x.kind)(hp:Hp):run cxX 16 [v] hp=some (.tup [S 2 1 [],.sc (.int .i64 5)],hp):=by
 have ck:=jo hv.ro w hp0
 have e5:checkN x=5:=if_pos h
 rw[e5]at ck
 obtain⟨g,a,b,c,d,e,t,gw,gn,rfl⟩:=hv
 unfold skA at ck⊢
 rw[E16]
 simp at ck
 simp[getN,ck]
theorem run_room_any(n:Int)(hp:Hp):run cxX 21 [.sc (.int .i64 n)] hp=some (.sc (.int .i64 (64*min (max n 0) 1048576+16384)),hp):=by
 have h:0<=min (max n 0) 1048576/\min (max n 0) 1048576<=1048576:=by omega
 generalize hM:min (max n 0) 1048576=q at*
 have w1:IntKind.i64.wrap (64*q)=64*q:=qf (by omega) (by omega)
 have w2:IntKind.i64.wrap (64*q+16384)=64*q+16384:=qf (by omega) (by omega)
 rw[E21]
 simp[hM,w1,w2]
theorem kind6{x:SkN}{L:List AV}(h:IsSk x (.agg L)):∃L',putN L 0 [.sc (.int .u8 6)]=some L'/\L'.length=23/\IsSk {x with kind:=6} (.agg L'):=by
 obtain⟨g,a,b,c,d,e,t,gw,gn,he⟩:=h
 unfold skA at he
 injection he with he
 subst he
 exact⟨_,rfl,rfl,g,a,b,c,d,e,t,gw,gn,rfl⟩
end Go.Proofs.YtchmioacjkbfcaaGreat.AI
namespace Go.Proofs.YtchmioacjkbfcaaGreat.AI
open Go Go.RowKit Go.ChangeShapes Go.WideShapes Go.ChangeAt
set_option linter.unusedVariables false
set_option linter.unusedSimpArgs false
theorem vlP:∀(l:List (Int×Int)) (x:AV),x∈LP l->vl x=true
 |[],x,h=>by cases h
 |p::l,x,h=>by
  simp only[LP,List.mem_cons]at h
  rcases h with rfl|rfl|h
  ·rfl
  ·rfl
  ·exact vlP l x h
def VP:List (Int×Int)->List Value
 |[]=>[]
 |p::l=>.int .u64 p.1::.int .u8 p.2::VP l
theorem lenVP:∀l,(VP l).length=2*l.length
 |[]=>rfl
 |p::l=>by simp only[VP,List.length_cons,lenVP l];omega
theorem getVP:∀(l:List (Int×Int)) (i:Nat) (v:Value),(VP l)[i]?=some v->∃p,l[i/2]?=some p/\v=if i%2=0 then .int .u64 p.1 else .int .u8 p.2
 |[],i,v,h=>by simp[VP]at h
 |p::l,0,v,h=>by
  simp only[VP,List.getElem?_cons_zero,Option.some.injEq]at h
  exact⟨p,rfl,by simp[h]⟩
 |p::l,1,v,h=>by
  simp only[VP,List.getElem?_cons_succ,List.getElem?_cons_zero,Option.some.injEq]at h
  exact⟨p,rfl,by simp[h]⟩
 |p::l,i+2,v,h=>by
  simp only[VP,List.getElem?_cons_succ]at h
  obtain⟨q,h1,h2⟩:=getVP l i v h
  refine⟨q,?_,?_⟩
  ·rw[show(i+2)/2=i/2+1 by omega,List.getElem?_cons_succ];exact h1
  ·rw[show(i+2)%2=i%2 by omega];exact h2
theorem relVP:∀(l:List (Int×Int)) (i:Nat) (x:AV) (v:Value),(LP l)[i]?=some x->(VP l)[i]?=some v->x= .sc v/\v.oneCell'=true
 |[],i,x,v,h,_=>by simp[LP]at h
 |p::l,0,x,v,h,h'=>by
  simp only[LP,VP,List.getElem?_cons_zero,Option.some.injEq]at h h'
  subst h h'
  exact⟨rfl,rfl⟩
 |p::l,1,x,v,h,h'=>by
  simp only[LP,VP,List.getElem?_cons_succ,List.getElem?_cons_zero,Option.some.injEq]at h h'
  subst h h'
  exact⟨rfl,rfl⟩
 |p::l,i+2,x,v,h,h'=>by
  simp only[LP,VP,List.getElem?_cons_succ]at h h'
  exact relVP l i x v h h'
section
variable {H : Type} {enc : TypeId × Value → H} {P : Program} {W : World} {fuel : Nat} {t e tu t8 : TypeId} {cs : List Value} {y : DataW H × List MemPlace} {fs : Array Field}
theorem rd_pairs{f0 f1:Field}(ht:P.underlying t=some (.slice e))(he:P.underlying e=some (.struct #[f0,f1])) (h0:P.underlying f0.type=some (.int .u64)) (h1:P.underlying f1.type=some (.int .u8))
    (o0:f0.offset=0) (o1:f1.offset=1) (hc:P.cellsOf e=2) (c0:P.cellsOf f0.type=1) (c1:P.cellsOf f1.type=1) (h:DataW.trod enc P W 0 (fun _=>true) true fuel t cs=some y):
    ∃k l v,cs=[v]/\RelR (gh0 W) W (S k 2 (LP l)) v/\∀p∈l,InI p:=by
  rcases DataW.trod_slice ht h with⟨hcs,_⟩|⟨a,len,cap,elems,rest,n,_,hcs,_,_,hl,_,hlen,hel,_,_⟩
  ·exact⟨2,[],_,hcs,.sc nil0 rfl,by simp⟩
  · have each:∀i,i<len->∃p:Int×Int,InI p/\W.cell? (a.add (i*2))=some (.int .u64 p.1)/\W.cell? (a.add (i*2+1))=some (.int .u8 p.2):=by
      intro i hi
      have hb:=hel i hi
      rw[List.getElem?_eq_getElem (by omega),hc,Option.bind_eq_some_iff]at hb
      obtain⟨cs',hcs',hy'⟩:=hb
      obtain⟨xs,m,_,_,hcl,hxl,hf⟩:=DataW.trod_struct he hy'
      have g0:=hf 0 f0 rfl
      have g1:=hf 1 f1 rfl
      rw[o0,c0]at g0
      rw[o1,c1]at g1
      rw[hc]at hcl
      obtain⟨y0,hy0⟩:∃y,xs[0]?=some y:=⟨_,List.getElem?_eq_getElem (by rw[hxl];simp)⟩
      obtain⟨y1,hy1⟩:∃y,xs[1]?=some y:=⟨_,List.getElem?_eq_getElem (by rw[hxl];simp)⟩
      rw[hy0]at g0
      rw[hy1]at g1
      obtain⟨n0,q0,w0⟩:=rd_int h0 g0
      obtain⟨n1,q1,w1⟩:=rd_int h1 g1
      have z0:=cell_at q0
      have z1:=cell_at q1
      have hc3:=(World.cells?_some hcs').2.2
      refine⟨(n0,n1),⟨w0.u64,w1.u8⟩,?_,?_⟩
      · have:=hc3 0 (by omega)
        rw[Addr.add_add,Nat.add_zero]at this
        rw[this];exact z0
      · have:=hc3 1 (by omega)
        rw[Addr.add_add]at this
        rw[this];exact z1
    have ch:∃f:Nat->Int×Int,∀i,i<len->InI (f i)/\W.cell? (a.add (i*2))=some (.int .u64 (f i).1)/\W.cell? (a.add (i*2+1))=some (.int .u8 (f i).2):=by
      refine⟨fun i=>if hi:i<len then(each i hi).choose else(0,0),fun i hi=>?_⟩
      simp only[dif_pos hi]
      exact(each i hi).choose_spec
    obtain⟨f,hf⟩:=ch
    have hg:∀(i:Nat) (p:Int×Int),((List.range len).map f)[i]?=some p->i<len/\p=f i:=by
      intro i p hp
      rw[List.getElem?_map,Option.map_eq_some_iff]at hp
      obtain⟨j,hj,rfl⟩:=hp
      obtain⟨h1,h2⟩:=List.getElem?_eq_some_iff.mp hj
      simp at h1 h2
      subst h2
      exact⟨h1,rfl⟩
    refine⟨0,(List.range len).map f,_,hcs,?_,?_⟩
    · have:=arg_sl (W:=W) (a:=a) (n:=len) (cap:=cap) (sz:=2) (cs:=LP ((List.range len).map f)) (vs:=VP ((List.range len).map f)) (by omega) (by rw[lenP];simp;omega) (by rw[lenP,lenVP]) hl
        (fun i v hv=>by
          obtain⟨p,hp,rfl⟩:=getVP _ i v hv
          obtain⟨hi,rfl⟩:=hg _ _ hp
          obtain⟨_,q0,q1⟩:=hf _ hi
          by_cases hm:i%2=0
          · rw[if_pos hm,<-q0]
            congr 2
            omega
          · rw[if_neg hm,<-q1]
            congr 2
            omega)
        (fun x hx=>vlP _ x hx)
        (fun i x v hx hv=>by
          obtain⟨rfl,ho⟩:=relVP _ i x v hx hv
          exact .sc _ ho)
      exact this (fun _=>.fr)
    · intro p hp
      obtain⟨i,hi,rfl⟩:=List.mem_map.mp hp
      exact(hf i (by simpa using hi)).1
end
end Go.Proofs.YtchmioacjkbfcaaGreat.AI
namespace Go.Proofs.YtchmioacjkbfcaaGreat.AI
open Go
set_option linter.unusedVariables false
set_option linter.unusedSimpArgs false
set_option maxRecDepth 100000
set_option maxHeartbeats 0
theorem gS7e(a b c d e f g:AV):getN [a,b,c,d,e,f,g] 0 7=some [a,b,c,d,e,f,g]:=rfl
theorem errors_12(x:SkN)(M:List AV)(ml:M.length=23)(mv:M.all AI.vl=true)(mc:Cl x (M.map ro1))(fx:Fine x)(li n z u c:Int)(hli:0<=li/\li<65536)(hu:u<=li)(b:Nat)(hp:Hp)(hb:hp.rd b 0=some [.sc (.int .i64 u),.sc (.int .i64 li)]):
  B7_12 (.int .u16 li) (.int .i64 n) (.ptr b 0 0) (.int .i64 z) (.int .i64 z) M hp=some (.sc (.bool true),hp):=by
 obtain⟨L',p6,l6,sk6⟩:=kind6 mc.sk
 have w6:({x with kind:=6}:SkN).W:=⟨by show(0:Int)<=6/\(6:Int)<256;omega,fx.w.set,fx.w.setL,fx.w.hsL,fx.w.rg,fx.w.rgL,fx.w.bs,fx.w.bsL,fx.w.cs,fx.w.csL⟩
 have hk:=(qM.mp fx.c).1
 obtain⟨L6,e6,l6',v6,mc6⟩:=sk6.cl
 injection e6 with e6
 subst e6
 have pk6:=run_put_kind mc6.sk w6 (by show(6:Int)<=6;omega) hp0
 have us:=run_metused b u li hp hb
 have rm:=run_room_any n hp0
 have mk:xM 1 1 (1048577:Int) 1048577=some ():=okMake_ok (by omega) (by decide) (by decide) (by decide)
 obtain⟨ZL,hZ⟩:∃ZL,ZL=LI .u8 (List.replicate 1048577 0):=⟨_,rfl⟩
 have zl:ZL.length=1048577:=by rw[hZ,LI,List.length_map,List.length_replicate]
 have zz:xx (1048577:Int) [.int .u8 0]=ZL:=by rw[hZ];exact zeros_I .u8 1048577
 have ts:=fun k=>run_take_size x.kind hk ZL k (by omega) (.sc (.pointer none)) hp
 have g23:∀(l:List AV),l.length=23->getN l 0 23=some l:=fun l hl=>getN_full l 23 hl
 have l1':=mc.len;have v1:=mc.vl;have r1:=mc.ro;have k0:=mc.k0
 have k0':qe M 0=some (.int .u8 x.kind):=(getSc_map M 0).symm.trans mc.k0
 have l2':=mc6.len;have v2:=mc6.vl;have r2:=mc6.ro
 have w1:IntKind.i64.wrap li=li:=qf (by omega) (by omega)
 have hM:0<=min (max n 0) 1048576/\min (max n 0) 1048576<=1048576:=by omega
 have w2:IntKind.i64.wrap (64*min (max n 0) 1048576)=64*min (max n 0) 1048576:=qf (by omega) (by omega)
 have w3:IntKind.i64.wrap (64*min (max n 0) 1048576+16384)=64*min (max n 0) 1048576+16384:=qf (by omega) (by omega)
 rw[B7_12_eq]
 clear hZ
 simp only[Int.ofNat_eq_natCast]at*
 unfold skZL at ts
 simp[-List.map_map,-List.all_map,-List.all_eq_true,g23,l1',r1,v1,putN_full,p6,l6,v6,pk6,k0,ml,mv,k0',mk,v2,r2,zz,ts,us,w1,hu,rm,w2,w3]
theorem run_packerrors(s:Sm)(li n:Int)(hli:0<=li/\li<65536)(k1 k2:Nat)(oks:s.Ok)(hp:Hp):∃hp',run cxX 7 [smA s k1 k2,.sc (.int .u16 li),.sc (.int .i64 n)] hp=some (.sc (.bool true),hp'):=by
 have lt:=fun k k' hp=>run_light s k k' hp
 obtain⟨ha,aw⟩:=run_awake18 hp0
 rw[E7]
 by_cases hs:s.hs.length<=40/\s.fl.length<=40
 ·simp only[eq_true hs,decide_true]at lt
  obtain⟨r,hr,e⟩:=run_sketch s (rk k1) (rk k2) oks hs.1 hs.2 hp0
  have fx:=sketchN_fine s oks hs.1 hs.2
  have hx:=sketchN_h64 s oks
  generalize xC s=x at hr fx hx
  obtain⟨M,rfl,ml,mv,mc⟩:=hr.cl
  obtain⟨h1,p1⟩:=run_put mc.sk fx hx hp0
  have nn:=putY_len mc.sk fx hx
  have rm:=run_room (putY x).length (by omega) hp0
  have w1:IntKind.i64.wrap li=li:=qf (by omega) (by omega)
  have mn:=run_metnew li hli.1 hp
  have mt:=run_mettake hp.next li (64*((putY x).length:Int)+16384) (by omega) (by omega) (hp.new [.sc (.int .i64 0),.sc (.int .i64 li)]) (qs _ _)
  have g23:∀(l:List AV),l.length=23->getN l 0 23=some l:=fun l hl=>getN_full l 23 hl
  have l1':=mc.len;have v1:=mc.vl;have r1:=mc.ro;have k0:=mc.k0
  have k0':qe M 0=some (.int .u8 x.kind):=(getSc_map M 0).symm.trans mc.k0
  have sr:∀q,x.kind=q->True:=fun _ _=>trivial
  by_cases hlt:li<64*((putY x).length:Int)+16384
  ·rw[if_pos hlt]at mt
   have tk:=fun k=>run_take_budget mc.sk fx hx k (.ptr hp.next 0 0) rfl _ _ mt
   have fin:=errors_12 x M ml mv mc fx li n 14 0 0 hli hli.1 hp.next (hp.new [.sc (.int .i64 0),.sc (.int .i64 li)]) (qs _ _)
   refine⟨hp.new [.sc (.int .i64 0),.sc (.int .i64 li)],?_⟩
   generalize hp.new [.sc (.int .i64 0),.sc (.int .i64 li)]=H1 at*
   generalize putY x=Y at*
   unfold skZL at tk
   simp[-List.map_map,-List.all_map,-List.all_eq_true,lt,aw,gS7e,e,ml,mv,g23,l1',v1,r1,putN_full,p1,w1,mn,k0',tk,rm,hlt,fin]
  ·rw[if_neg hlt]at mt
   obtain⟨r3,hp3,i3,t3,f3⟩:=run_take mc.sk fx hx 0 (.ptr hp.next 0 0) rfl _ _ mt
   have hb3:hp3.rd hp.next 0=some [.sc (.int .i64 (64*((putY x).length:Int)+16384)),.sc (.int .i64 li)]:=by
    rw[rdg (f3 hp.next (by show hp.next<hp.next+1;omega)),qh]
   have fin:=errors_12 x M ml mv mc fx li n 0 (64*((putY x).length:Int)+16384) 0 hli (by omega) hp.next hp3 hb3
   obtain⟨M3,rfl,ml3,mv3,mc3⟩:=i3.cl
   refine⟨hp3,?_⟩
   generalize hp.new [.sc (.int .i64 0),.sc (.int .i64 li)]=H1 at*
   have l3':=mc3.len;have v3:=mc3.vl;have r3:=mc3.ro
   generalize putY x=Y at*
   simp[-List.map_map,-List.all_map,-List.all_eq_true,lt,aw,gS7e,e,ml,mv,g23,l1',v1,r1,putN_full,p1,w1,mn,k0',t3,ml3,mv3,l3',v3,r3,rm,hlt,fin]
 ·simp only[eq_false hs,decide_false]at lt
  exact⟨hp,by simp[lt,aw,gS7e]⟩
theorem law_PackErrors(a:Int)(wa:InK .u8 a)(b:Int)(wb:InK .u8 b)(c:Int)(wc:InK .u8 c)(d:Int)(wd:InK .u16 d)(f:Bool)(k:Nat)(l:List Int)(wl:∀n∈l,InK .u64 n)(k':Nat)(m:List (Int×Int))(wm:∀p∈m,InI p)
  (li:Int) (wli:InK .u16 li) (n:Int) (wn:InK .i64 n) (hp:Hp):
  ∃hp',run cxX 7 [.agg [.sc (.int .u8 a),.sc (.int .u8 b),.sc (.int .u8 c),.sc (.int .u16 d),.sc (.bool f),S k 1 (LI .u64 l),S k' 2 (LP m)],.sc (.int .u16 li),.sc (.int .i64 n)] hp=some (.sc (.bool true),hp'):=
 run_packerrors ⟨a,b,c,d,f,l,m⟩ li n wli.u16 k k' ⟨wa.u8,wb.u8,wc.u8,wd.u16,fun n hn=>(wl n hn).u64,wm⟩ hp
end Go.Proofs.YtchmioacjkbfcaaGreat.AI
