/- Texts that the proof of FuseSees rests on, part 9. -/
import Derived.Test.YtmajcennjgjlnaaGreatQFuseSees8
namespace Go.Proofs.YtmajcennjgjlnaaGreat.AI
open Go
set_option linter.unusedVariables false
set_option linter.unusedSimpArgs false
set_option maxRecDepth 100000
set_option maxHeartbeats 0
structure Fine (x : SkN) : Prop where
 w:x.W
 c:yA x=0
 pos:x.g.Pos
theorem Yw:gz.nf.Pos:=vM.pos
theorem Fine.W2{x:SkN}(h:Fine x):x.W2:=by
 obtain⟨kd,on,sp⟩:=qJ.mp h.c
 have w:=h.w
 refine⟨w,?_,?_,?_,?_⟩
 ·rw[on];unfold jn
  by_cases k0:x.kind=0
  ·rw[if_pos k0]at sp⊢
   have:=(xy.mp sp).1
   show x.set.length<=_;omega
  ·rw[if_neg k0]
   repeat' split
   all_goals exact zn1 _
 ·rw[on];unfold jn
  by_cases k0:x.kind=0
  ·rw[if_pos k0];exact zn1 _
  ·rw[if_neg k0]at sp⊢
   by_cases k1:x.kind=1
   ·rw[if_pos k1]at sp⊢
    have:=yY.mp sp
    show x.hs.length<=_;omega
   ·rw[if_neg k1]
    repeat' split
    all_goals exact zn1 _
 ·rw[on];unfold jn
  by_cases k3:x.kind=3
  ·have n0:¬(x.kind=0):=qe
   have n1:¬(x.kind=1):=qe
   have n2:¬(x.kind=2):=qe
   rw[if_neg n0,if_neg n1,if_neg n2,if_pos k3]at sp⊢
   obtain⟨hB,hH,hg⟩:=yT sp w.bs
   have:=hg.len hB.2
   show x.bs.length<=_;omega
  ·repeat' split
   all_goals first|exact zn1 _|(exfalso;omega)
 ·intro k5
  have n0:¬(x.kind=0):=qe
  have n1:¬(x.kind=1):=qe
  have n2:¬(x.kind=2):=qe
  have n3:¬(x.kind=3):=qe
  have n4:¬(x.kind=4):=qe
  rw[if_neg n0,if_neg n1,if_neg n2,if_neg n3,if_neg n4]at sp
  have:=Xo.mp sp
  omega
theorem qdh:∀{a:List Int},yD a a=a
 |[]=>rfl
 |x::a=>by
  show max x x::yD a a=x::a
  rw[qdh,Int.max_self]
theorem qdg:∀{a:List Int},(∀n∈a,0<=n)->yD a (List.replicate a.length 0)=a
 |[],_=>rfl
 |x::a,h=>by
  have ih:=qdg (a:=a) (fun n hn=>h n (by simp[hn]))
  have hx:=h x qg
  show max x 0::yD a (List.replicate a.length 0)=x::a
  rw[ih]
  congr 1
  omega
theorem qq4{m:Int}:∀{a b:List Int},(∀n∈a,n<=m)->(∀n∈b,n<=m)->∀n∈yD a b,n<=m
 |[],_,_,_=>by simp[yD]
 |x::a,[],ha,_=>by simpa[yD]using ha
 |x::a,y::b,ha,hb=>by
  have ih:=qq4 (a:=a) (b:=b) (fun n hn=>ha n (by simp[hn])) (fun n hn=>hb n (by simp[hn]))
  intro n hn
  rcases zne.mp hn with rfl|hn
  ·have h1:=ha x qg;have h2:=hb y qg;omega
  ·exact ih n hn
theorem qdn:∀{a:List Int},kr a->jY a (List.replicate a.length 0)=a
 |[],_=>rfl
 |x::a,h=>by
  have ih:=qdn (a:=a) (fun n hn=>h n (by simp[hn]))
  show zi x 0::jY a (List.replicate a.length 0)=x::a
  rw[ih,xm (h x qg)]
theorem JE{x y:SkN}(h:jT x y=true):x.kind=y.kind:=by
 unfold jT at h
 simp only[zo0,decide_eq_true_eq]at h
 exact h.1
theorem qha{x y:SkN}(h:jT x y=true):(x.kind=1->x.K=y.K)/\(x.kind=2->x.P=y.P)/\(x.kind=3->x.B=y.B/\x.H=y.H)/\(x.kind=4->x.R=y.R/\x.C=y.C)/\(x.kind=5->x.gK=y.gK):=by
 unfold jT at h
 refine⟨fun k=>?_,fun k=>?_,fun k=>?_,fun k=>?_,fun k=>?_⟩<;>simpa[k]using And.right (by simpa[k]using h)
theorem qqy{x y:SkN}(hk:x.kind=y.kind)(h:(x.kind=1->x.K=y.K)/\(x.kind=2->x.P=y.P)/\(x.kind=3->x.B=y.B/\x.H=y.H)/\(x.kind=4->x.R=y.R/\x.C=y.C)/\(x.kind=5->x.gK=y.gK)):jT x y=true:=by
 obtain⟨h1,h2,h3,h4,h5⟩:=h
 unfold jT
 simp only[hk,decide_true,zqy]
 rw[hk]at h1 h2 h3 h4 h5
 by_cases k1:y.kind=1
 ·simp[k1,h1 k1]
 ·by_cases k2:y.kind=2
  ·simp[k2,h2 k2]
  ·by_cases k3:y.kind=3
   ·simp[k3,(h3 k3).1,(h3 k3).2]
   ·by_cases k4:y.kind=4
    ·simp[k4,(h4 k4).1,(h4 k4).2]
    ·by_cases k5:y.kind=5
     ·simp[k5,h5 k5]
     ·simp[k1,k2,k3,k4,k5]
theorem qdc(x:SkN):jT x x=true:=qqy rfl ⟨fun _=>rfl,fun _=>rfl,fun _=>⟨rfl,rfl⟩,fun _=>⟨rfl,rfl⟩,fun _=>rfl⟩
theorem qg5(x y:SkN):(qx x y).kind=x.kind:=by
 unfold qx;repeat' split
 all_goals rfl
theorem qg4{x:SkN}(y:SkN):qx x y=jn (qx x y):=by
 unfold qx
 by_cases k0:x.kind=0
 ·simp[k0,jn]
 ·by_cases k1:x.kind=1
  ·simp[k1,jn]
  ·by_cases k2:x.kind=2
   ·simp[k2,jn]
   ·by_cases k3:x.kind=3
    ·simp[k3,jn]
    ·by_cases k4:x.kind=4
     ·simp[k4,jn]
     ·by_cases k5:x.kind=5
      ·simp[k5,jn]
      ·simp[k0,k1,k2,k3,k4,k5,jn]
theorem six{x:SkN}(h:x.W)(hk:x.kind<6):x.kind=0\/x.kind=1\/x.kind=2\/x.kind=3\/x.kind=4\/x.kind=5:=by
 have:=h.kind;omega
theorem Vj{x y:SkN}(hx:Fine x)(hy:Fine y)(hl:jT x y=true):yA (qx x y)=if x.kind=0/\4096<(mrg x.set y.set).length then 7 else 0:=by
 obtain⟨kd,on,sp⟩:=qJ.mp hx.c
 obtain⟨kd',on',sp'⟩:=qJ.mp hy.c
 have hk:=JE hl
 obtain⟨l1,l2,l3,l4,l5⟩:=qha hl
 rw[<-hk]at sp'
 have ho:=qg4 (x:=x) y
 unfold yA
 rw[qg5,if_neg qe,if_neg (fun h=>h ho)]
 rcases six hx.w kd with k|k|k|k|k|k
 ·have e:qx x y={skZ with kind:=x.kind,set:=mrg x.set y.set}:=by unfold qx;rw[if_pos k]
  rw[if_pos k]at sp sp'
  rw[if_pos k,e]
  obtain⟨a1,a2⟩:=xy.mp sp
  obtain⟨b1,b2⟩:=xy.mp sp'
  show qh9 (mrg x.set y.set)=_
  unfold qh9
  by_cases h:4096<(mrg x.set y.set).length
  ·rw[if_pos h,if_pos ⟨k,h⟩]
  ·rw[if_neg h,if_neg (fun h'=>h h'.2)]
   exact Kf (jl _ _ a2 b2)
 ·have e:qx x y={skZ with kind:=x.kind,K:=x.K,hs:=(mrg x.hs y.hs).take x.K.toNat}:=by unfold qx;simp[k]
  simp[k]at sp sp'⊢
  rw[e]
  obtain⟨a1,a2,a3⟩:=yY.mp sp
  obtain⟨b1,b2,b3⟩:=yY.mp sp'
  exact yY.mpr ⟨a1,by simp only[zn8];omega,Kb _ (jl _ _ a3 b3)⟩
 ·have e:qx x y={skZ with kind:=x.kind,P:=x.P,rg:=yD x.rg y.rg}:=by unfold qx;simp[k]
  simp[k]at sp sp'⊢
  rw[e]
  have lp:=l2 k
  obtain⟨a1,a2,a3⟩:=xF.mp sp
  obtain⟨b1,b2,b3⟩:=xF.mp sp'
  rw[<-lp]at b3
  exact xF.mpr ⟨a1,by simp only[Xi];exact a2,qq4 a3 b3⟩
 ·have e:qx x y={skZ with kind:=x.kind,B:=x.B,H:=x.H,bs:=mrg x.bs y.bs}:=by unfold qx;simp[k]
  simp[k]at sp sp'⊢
  rw[e]
  obtain⟨lb,lh⟩:=l3 k
  obtain⟨a1,a2,a3⟩:=yT sp hx.w.bs
  obtain⟨b1,b2,b3⟩:=yT sp' hy.w.bs
  rw[<-lb]at b3
  exact Xz a1 a2 (a3.mrg b3)
 ·have e:qx x y={skZ with kind:=x.kind,R:=x.R,C:=x.C,cs:=jY x.cs y.cs}:=by unfold qx;simp[k]
  simp[k]at sp sp'⊢
  rw[e]
  obtain⟨a1,a2,a3⟩:=kq.mp sp
  exact kq.mpr ⟨a1,a2,by simp only[Jb];exact a3⟩
 ·have e:qx x y={skZ with kind:=x.kind,gK:=x.gK,g:=kG x.gK x.g y.g}:=by unfold qx;simp[k]
  simp[k]at sp sp'⊢
  rw[e]
  have lg:=l5 k
  rw[<-lg]at sp'
  exact qaa sp sp'
theorem qtz{x y:SkN}(hx:Fine x)(hy:Fine y):(qx x y).g.Pos:=by
 unfold qx
 repeat' split
 all_goals first|exact Yw|exact zbf hx.pos hy.pos
theorem WP{x y:SkN}(hx:Fine x)(hy:Fine y)(hl:jT x y=true)(h:¬(x.kind=0/\4096<(mrg x.set y.set).length)):Fine (qx x y):=
 ⟨qt0 hx.W2 hy.W2,by rw[Vj hx hy hl,if_neg h],qtz hx hy⟩
theorem qc6{x y:SkN}(hx:Fine x)(hy:Fine y):yl x y=if jT x y=false then(skZ,13)else if x.kind=0/\4096<(mrg x.set y.set).length then(skZ,7)else(qx x y,0):=by
 unfold yl
 rw[if_neg (by simpa using hx.c),if_neg (by simpa using hy.c)]
 by_cases hl:jT x y=false
 ·rw[if_pos hl,if_pos hl]
 ·rw[if_neg hl,if_neg hl]
  have hl':jT x y=true:=by simpa using hl
  unfold okN
  rw[Vj hx hy hl']
  by_cases h:x.kind=0/\4096<(mrg x.set y.set).length
  ·rw[if_pos h,if_pos h];rfl
  ·rw[if_neg h,if_neg h];rfl
theorem qn8{x:SkN}(hx:Fine x)(h4:x.kind≠4)(h5:x.kind≠5):qx x x=x:=by
 obtain⟨kd,on,sp⟩:=qJ.mp hx.c
 conv=>rhs;rw[on]
 rcases six hx.w kd with k|k|k|k|k|k
 ·simp[k]at sp
  simp[qx,jn,k]
  exact Xe (xy.mp sp).2
 ·simp[k]at sp
  simp[qx,jn,k]
  obtain⟨a,b,c⟩:=yY.mp sp
  rw[Xe c]
  exact zn2 qe
 ·simp[qx,jn,k]
  exact qdh
 ·simp[k]at sp
  simp[qx,jn,k]
  exact Xe (yT sp hx.w.bs).2.2.1
 ·exact absurd k h4
 ·exact absurd k h5
def tn(l:List Int):List Nat:=l.map Int.toNat
@[simp] theorem Yf(l:List Int):(tn l).length=l.length:=by simp[tn]
theorem qqk:∀{l:List Int},(∀n∈l,0<=n)->nz (tn l)=l:=by
 intro l
 induction l with
 |nil=>intro _;rfl
 |cons x r ih=>
  intro h
  have hx:=h x qg
  have e:nz (tn (x::r))=(x.toNat:Int)::nz (tn r):=rfl
  rw[e,ih (fun n hn=>h n (by simp[hn])),zox hx]
theorem qf3{l:List Int}{B:Nat}(h:∀n∈l,0<=n/\n<(B:Int)):∀x∈tn l,x<B:=by
 intro x hx
 obtain⟨n,hn,rfl⟩:=zn9.mp hx
 have:=h n hn
 omega
theorem Vx:∀{l:List Int},(∀n∈l,0<=n)->jP l->qN (tn l):=by
 intro l
 induction l with
 |nil=>intro _ _;trivial
 |cons x r ih=>
  intro h hr
  cases r with
  |nil=>trivial
  |cons y s=>
   have hx:=h x qg
   have hy:=h y qg
   have h1:=(znh.mp hr).1 y qg
   exact⟨qe,ih (fun n hn=>h n (by simp[hn])) (znh.mp hr).2⟩
theorem jc:∀{l:List Nat},qN l->zO l:=by
 intro l
 induction l with
 |nil=>intro _;trivial
 |cons x r ih=>
  intro h
  cases r with
  |nil=>trivial
  |cons y s=>exact⟨zqe h.1,ih h.2⟩
def zV(c:Int):List Int->Nat->Int->List Int
 |[],_,_=>[]
 |n::r,i,last=>uv (zz (n-if(i:Int)%max c 1=0 then 0 else last))++zV c r (i+1) n
theorem zez(c:Int)(i:Nat)(t:TypeId)(x y:Operand):qy Tryz.prog .rem t x y (.int .i64 (i:Int)) (.int .i64 (max c 1))=some (.int .i64 ((i:Int)%max c 1)):=by
 rw[zp _ _ _ _ _ _ _ qe,zn qe]
theorem qpy{n m:Int}(hn:0<=n/\n<4294967296)(hm:0<=m/\m<4294967296):(uv (zz (n-m))).length<=10:=qD (qb0 qe qe)
section
variable (c:Int)(l:List Int)(hl:l.length<=4096)(h32:kr l)
theorem vE(h32:kr l):∀(r:List Int) (i:Nat) (last:Int),(∀n∈r,0<=n/\n<4294967296)->(0<=last/\last<4294967296)->(zV c r i last).length<=10*r.length
 |[],_,_,_,_=>by simp[zV]
 |x::r,i,last,h,hla=>by
  have ih:=vE h32 r (i+1) x (fun n hn=>h n (by simp[hn])) (h x qg)
  have le:(uv (zz (x-if(i:Int)%max c 1=0 then 0 else last))).length<=10:=qpy (h x qg) (by split<;>omega)
  simp only[zV,zm9,zna]
  omega
end
def jO(p:Nat):List Nat->List Int
 |[]=>[]
 |k::r=>uv (k-p)++jO k r
def yE(K:Int)(g:GN):List Int:=
 [K]++uv g.M.toNat++uv g.e0.toNat++uv g.e1.toNat++uv g.e2.toNat++uv g.e3.toNat++uv g.e4.toNat++uv g.e5.toNat++uv g.lo++uv g.hi++[(g.L.length:Int)]++jO 0 g.L
theorem ZM:∀{l:List Nat},JS l=0->zO l:=by
 intro l
 induction l with
 |nil=>intro _;trivial
 |cons x r ih=>
  intro h
  cases r with
  |nil=>trivial
  |cons y s=>
   have h':(if y<x then 8 else JS (y::s))=0:=h
   by_cases c:y<x
   ·rw[if_pos c]at h';cases h'
   ·rw[if_neg c]at h'
    exact⟨qe,ih h'⟩
def qE(x:SkN):List Int:=
 if x.kind=0 then jX (jR (tn x.set))
 else if x.kind=1 then uv x.K.toNat++zh (tn x.hs)
 else if x.kind=2 then x.P::jk (tn x.rg)
 else if x.kind=3 then uv x.B.toNat++[x.H]++zE (tn x.bs)
 else if x.kind=4 then [x.R]++uv x.C.toNat++zV x.C x.cs 0 0
 else yE x.gK x.g
def H64(x:SkN):Prop:=∀n∈x.hs,0<=n/\n<18446744073709551616
theorem kC{l:List Nat}(hl:l.length<=1024)(h64:∀x∈l,x<18446744073709551616):(zh l).length<=700100:=by
 obtain⟨k63,hq⟩:=QZ (xG h64)
 have hbl:=Qn (jd (qw l)) k63 (qw l) hq
 rw[kK]at hbl
 have hlY:(pk (jf (qw l))).length<700000:=by rw[zZ];unfold jf;omega
 have h1:=qD (n:=l.length) qe
 have h2:=qD (n:=(pk (jf (qw l))).length) qe
 unfold zh
 simp only[zm9,znl]
 omega
theorem kL{l:List Nat}(hl:l.length<=4096)(h32:∀x∈l,x<4294967296)(hr:zO l):(zE l).length<=100000:=by
 by_cases hne:l=[]
 ·subst hne
  have e:zE []=uv 0++uv 0++[]++uv 0++[]:=rfl
  have h:=qD (n:=0) qe
  rw[e]
  simp only[zm9,zns]
  omega
 ·obtain⟨a,b,c⟩:=xW l hl h32 hr hne
  have h1:=qD (n:=l.length) qe
  have h2:=qD (n:=qI l) qe
  have hm:l.length*qA l<=4096*32:=zn5 hl a
  have h3:=qD (n:=(pk (qG (qA l) 0 l)).length) (by rw[zZ];omega)
  unfold zE
  simp only[zm9,zZ,Qp]at*
  omega
theorem Zh{l:List Nat}(hl:l.length<=1000)(h64:∀x∈l,x<64):(jk l).length<=100000:=by
 rw[(JM l h64).2]
 have key:∀(l cs:List Nat) (s:En),okM cs->(∀x∈l,x<64)->ZN s s.width->16777216<=s.width/\s.width<=4294967296->eK (enc cs s l)<=eK s+4*l.length:=by
  intro l
  induction l with
  |nil=>intro cs s _ _ _ _;exact znd _
  |cons x r ih=>
   intro cs s hm hl h hw
   obtain⟨d,b1,b2,b3,b4,b5,b6,b7⟩:=Zm s cs x hm (hl x qg) h hw
   have hd:d<=4:=qzl b7 (by rw[<-b2];exact b6)
   have:=ih (YJ cs x) (zG 4 (xL s cs x)) (QO hm (hl x qg)) (fun y hy=>hl y (by simp[hy])) b4 ⟨b5,b6⟩
   have e:enc cs s (x::r)=enc (YJ cs x) (zG 4 (xL s cs x)) r:=rfl
   rw[e,zna]
   omega
 have:=key l cs0 en0 qju h64 qjv ⟨qh,qh⟩
 have e0:eK en0=0:=rfl
 omega
theorem Ql{l:List Nat}(hl:l.length<=4096)(h32:∀x∈l,x<4294967296):(jX (jR l)).length<=900000:=by
 have hc:=Xy l
 have h1:=qD (n:=(jR l).length) qe
 have key:∀cs:List (Nat×Nat),(∀c∈cs,Xc c)->(wW cs).length<=60*cs.length:=by
  intro cs
  induction cs with
  |nil=>intro _;exact znd _
  |cons c r ih=>
   intro h
   have:=ih (fun d hd=>h d (by simp[hd]))
   have:=qao (h c qg)
   simp only[wW,zm9,zna]
   omega
 have:=key (jR l) (Qc h32)
 unfold jX
 simp only[zm9]
 omega
theorem Qh{x:SkN}(f:Fine x)(k:x.kind=0):x.set.length<=4096/\qN (tn x.set)/\(∀n∈tn x.set,n<4294967296)/\nz (tn x.set)=x.set:=by
 have h:=(qJ.mp f.c).2.2
 rw[if_pos k]at h
 have s:=xy.mp h
 have n0:∀n∈x.set,0<=n:=fun n hn=>(f.w.set n hn).1
 exact⟨s.1,Vx n0 s.2,qf3 (B:=4294967296) f.w.set,qqk n0⟩
theorem vp{x:SkN}(f:Fine x)(k:x.kind=1)(h64:H64 x):(1<=x.K/\x.K<=1024)/\x.hs.length<=1024/\qN (tn x.hs)/\(∀n∈tn x.hs,n<18446744073709551616)/\nz (tn x.hs)=x.hs:=by
 have h:=(qJ.mp f.c).2.2
 rw[if_neg qe,if_pos k]at h
 have s:=yY.mp h
 have n0:∀n∈x.hs,0<=n:=fun n hn=>(h64 n hn).1
 exact⟨s.1,qe,Vx n0 s.2.2,qf3 (B:=18446744073709551616) h64,qqk n0⟩
theorem vq{x:SkN}(f:Fine x)(k:x.kind=2):(4<=x.P/\x.P<=8)/\x.rg.length=jU x.P/\x.rg.length<=256/\(∀n∈tn x.rg,n<64)/\nz (tn x.rg)=x.rg:=by
 have h:=(qJ.mp f.c).2.2
 rw[if_neg qe,if_neg qe,if_pos k]at h
 have s:=xF.mp h
 have n0:∀n∈x.rg,0<=n:=fun n hn=>(f.w.rg n hn).1
 have hp:jU x.P<=256:=by
  unfold jU
  exact zon (zoc qh (show x.P.toNat<=8 by omega)) qh
 exact⟨s.1,s.2.1,qe,qf3 (B:=64) (fun n hn=>⟨n0 n hn,by have:=s.2.2 n hn;omega⟩),qqk n0⟩
theorem xZ{x:SkN}(f:Fine x)(k:x.kind=3):(1<=x.B/\x.B<=4096)/\(1<=x.H/\x.H<=8)/\x.bs.length<=4096/\zO (tn x.bs)/\(∀n∈tn x.bs,n<4294967296)/\nz (tn x.bs)=x.bs:=by
 have h:=(qJ.mp f.c).2.2
 rw[if_neg qe,if_neg qe,if_neg qe,if_pos k]at h
 have s:=yT h f.w.bs
 have n0:∀n∈x.bs,0<=n:=fun n hn=>(f.w.bs n hn).1
 exact⟨s.1,s.2.1,s.2.2.len s.1.2,jc (Vx n0 s.2.2.1),qf3 (B:=4294967296) f.w.bs,qqk n0⟩
theorem vr{x:SkN}(f:Fine x)(k:x.kind=4):(1<=x.R/\x.R<=8)/\(1<=x.C/\x.C<=256)/\(x.cs.length:Int)=x.R*x.C/\x.cs.length<=2048:=by
 have h:=(qJ.mp f.c).2.2
 rw[if_neg qe,if_neg qe,if_neg qe,if_neg qe,if_pos k]at h
 have s:=kq.mp h
 have:=qku s.1 s.2.1
 exact⟨s.1,s.2.1,s.2.2,qe⟩
theorem xV{x:SkN}(f:Fine x)(k:x.kind=5):(1<=x.gK/\x.gK<=16)/\JS x.g.L=0/\x.g.L.length<=16:=by
 have h:=(qJ.mp f.c).2.2
 rw[if_neg qe,if_neg qe,if_neg qe,if_neg qe,if_neg qe]at h
 unfold JW at h
 split at h
 ·cases h
 ·rename_i h1
  split at h
  ·rename_i h2
   exact⟨qe,h2,qe⟩
  ·cases h
theorem qzj{x:SkN}{v:AV}(hv:yu x v)(f:Fine x)(h64:H64 x):(qE x).length<=1000000:=by
 obtain⟨g,a,b,c,d,e,t,gw,gn,rfl⟩:=hv
 have hk:=f.w.kind
 have kd:=(qJ.mp f.c).1
 have six:x.kind=0\/x.kind=1\/x.kind=2\/x.kind=3\/x.kind=4\/x.kind=5:=qe
 unfold qE
 rcases six with k|k|k|k|k|k
 ·rw[if_pos k]
  have s:=Qh f k
  have:=Ql (l:=tn x.set) (by simp;exact s.1) s.2.2.1
  omega
 ·have s:=vp f k h64
  have:=kC (l:=tn x.hs) (by simp;exact s.2.1) s.2.2.2.1
  have hu:=qD (n:=x.K.toNat) qe
  rw[if_neg qe,if_pos k,zm9]
  omega
 ·have s:=vq f k
  have:=Zh (l:=tn x.rg) qi s.2.2.2.1
  rw[if_neg qe,if_neg qe,if_pos k,zna]
  omega
 ·have s:=xZ f k
  have:=kL (l:=tn x.bs) (by simp;exact s.2.2.1) s.2.2.2.2.1 s.2.2.2.1
  have hu:=qD (n:=x.B.toNat) qe
  rw[if_neg qe,if_neg qe,if_neg qe,if_pos k]
  simp only[zm9,znl]
  omega
 ·have s:=vr f k
  have:=vE x.C x.cs f.w.cs x.cs 0 0 f.w.cs qe
  have hu:=qD (n:=x.C.toNat) qe
  rw[if_neg qe,if_neg qe,if_neg qe,if_neg qe,if_pos k]
  simp only[zm9,znl]
  omega
 ·have s:=xV f k
  have hd:∀(L:List Nat) (p:Nat),(∀k∈L,k<18446744073709551616)->(jO p L).length<=10*L.length:=by
   intro L
   induction L with
   |nil=>intro p _;exact znd _
   |cons k r ih=>
    intro p h
    have:=ih k (fun y hy=>h y (by simp[hy]))
    have hu:=qD (n:=k-p) (by have:=h k qg;omega)
    simp only[jO,zm9,zna]
    omega
  have hL:∀k∈x.g.L,k<18446744073709551616:=by
   rw[<-gn]
   intro k hk
   obtain⟨w,hw,rfl⟩:=zn9.mp hk
   exact Qq w (gw.L w hw)
  have h0:=hd x.g.L 0 hL
  have u:∀n:Int,zy n->(uv n.toNat).length<=10:=fun n hn=>qD (by have:=hn.2;omega)
  have p:=f.pos
  have u1:=u _ p.1
  have u2:=u _ p.2.1
  have u3:=u _ p.2.2.1
  have u4:=u _ p.2.2.2.1
  have u5:=u _ p.2.2.2.2.1
  have u6:=u _ p.2.2.2.2.2.1
  have u7:=u _ p.2.2.2.2.2.2
  have u8:=qD (n:=x.g.lo) (by rw[<-gn];exact Qq _ gw.lo)
  have u9:=qD (n:=x.g.hi) (by rw[<-gn];exact Qq _ gw.hi)
  rw[if_neg qe,if_neg qe,if_neg qe,if_neg qe,if_neg qe]
  unfold yE
  simp only[zm9,znl]
  omega
structure Sm where
 kind:Int
 A:Int
 B:Int
 wide:Int
 few:Bool
 hs:List Int
 fl:List (Int×Int)
structure Sm.Ok (s : Sm) : Prop where
 kind:0<=s.kind/\s.kind<256
 A:0<=s.A/\s.A<256
 B:0<=s.B/\s.B<256
 wide:0<=s.wide/\s.wide<65536
 hs:∀n∈s.hs,0<=n/\n<18446744073709551616
 fl:∀p∈s.fl,InI p
abbrev smA(s:Sm)(k k':Nat):AV:=.agg [.sc (.int .u8 s.kind),.sc (.int .u8 s.A),.sc (.int .u8 s.B),.sc (.int .u16 s.wide),.sc (.bool s.few),S k 1 (LI .u64 s.hs),S k' 2 (LP s.fl)]
def row(n:Int)(m:Nat):List Int:=(List.range m).map fun(k:Nat)=>n+(k:Int)
def kP(few:Bool)(h:Int):List Int:=h%4294967296::(if few then row (h%9000) (h%40).toNat else [])
def xw(few:Bool)(hs:List Int):List Int:=hs.flatMap (kP few)
def smc:Nat->List Int->List (Int×Int)
 |_,[]=>[]
 |i,h::r=>(h,if i%5=4 then h/4294967296 else h%9)::smc (i+1) r
noncomputable def zq(s:Sm):SkN:=
 if s.kind%6=0 then{skZ with kind:=0,set:=XN [] (xw s.few s.hs)}
 else if s.kind%6=1 then{skZ with kind:=1,K:=1+s.A%20,hs:=Zx (1+s.A%20).toNat [] (s.hs.map (cut s.few))}
 else if s.kind%6=2 then{skZ with kind:=2,P:=4+s.A%5,rg:=hfold (4+s.A%5) (List.replicate (jU (4+s.A%5)) 0) s.hs}
 else if s.kind%6=3 then{skZ with kind:=3,B:=1+s.wide%300,H:=1+s.A%8,bs:=blm (1+s.wide%300) (1+s.A%8) [] s.hs}
 else if s.kind%6=4 then{skZ with kind:=4,R:=1+s.A%8,C:=1+s.B%40,cs:=yV (1+s.A%8) (1+s.B%40) (List.replicate ((1+s.A%8)*(1+s.B%40)).toNat 0) (smc 0 s.hs)}
 else{skZ with kind:=5,gK:=1+s.A%16,g:=(Zu (1+s.A%16) gnew (s.fl.map wd)).nf}
theorem qso(s:Sm)(k k':Nat)(hp:Hp):run cxX 10 [smA s k k'] hp=some (.sc (.bool (decide (s.hs.length<=40/\s.fl.length<=40))),hp):=by
 rw[E10]
 by_cases h:s.hs.length<=40
 ·have h':(s.hs.length:Int)<=40:=qe
  have e:decide ((s.fl.length:Int)<=40)=decide (s.fl.length<=40):=decide_eq_decide.mpr qe
  simp[qs,h,h',zax,e]
 ·have h':¬((s.hs.length:Int)<=40):=qe
  simp[qs,h,h']
theorem zip{n:Int}{m:Nat}(hn:0<=n/\n<9000)(hm:m<=40):kr (row n m):=by
 intro x hx
 simp only[row,zn9,zq4]at hx
 obtain⟨k,hk,rfl⟩:=hx
 omega
theorem qr7{few:Bool}{h:Int}(hh:0<=h):kr (kP few h):=by
 intro x hx
 rcases zne.mp hx with rfl|hx
 ·omega
 ·cases few with
  |false=>simp at hx
  |true=>exact zip qe qe x hx
theorem qyb{few:Bool}{hs:List Int}(h:∀n∈hs,0<=n/\n<18446744073709551616):kr (xw few hs):=by
 intro x hx
 obtain⟨y,hy,hx⟩:=List.mem_flatMap.mp hx
 exact qr7 (h y hy).1 x hx
theorem VZ(few:Bool){h:Int}(hh:0<=h):(kP few h).length<=40:=by
 unfold kP
 cases few with
 |false=>simp
 |true=>
  simp only[if_true,zna,row,zpb,List.length_range]
  omega
theorem XR(few:Bool):∀{hs:List Int},(∀n∈hs,0<=n/\n<18446744073709551616)->(xw few hs).length<=40*hs.length
 |[],_=>by simp[xw]
 |x::hs,h=>by
  have ih:=XR few (hs:=hs) (fun n hn=>h n (by simp[hn]))
  have l1:=VZ few (h x qg).1
  show((x::hs).flatMap (kP few)).length<=_
  rw[List.flatMap_cons,zm9]
  simp only[zna]
  have:(List.flatMap (kP few) hs).length<=40*hs.length:=ih
  omega
section
variable (b1 b2 b3:List AV)(s:Sm)(k k':Nat)(hp:Hp)
theorem zih(h:Int)(x27:AV)(v28 v29:Value)(hh:0<=h/\h<18446744073709551616)(m:Nat)(hm:m<=40):∀(j:Nat) (l:List Int) (i:Nat),i+j=m->l.length+j<=1000000->
 B14_12 (S 2 1 (LI .u32 l)) (.int .u64 h) x27 v28 v29 (.int .u32 m) (.int .u32 i) b1 b2 b3 hp=B14_16 (S 2 1 (LI .u32 (l++(List.range' i j).map fun(k:Nat)=>h%9000+(k:Int)))) x27 v28 v29 b1 b2 b3 hp:=by
 intro j
 induction j with
 |zero=>
  intro l i hi hl
  have hlt:¬((i:Int)<(m:Int)):=qe
  rw[qez]
  simp[hlt]
 |succ j ih=>
  intro l i hi hl
  have hlt:i<m:=qe
  have r:∀t x y,qy Tryz.prog .rem t x y (.int .u64 h) (.int .u64 9000)=some (.int .u64 (h%9000)):=by
   intro t x y;rw[zp _ _ _ _ _ _ _ qe,zn hh.1]
  have w1:IntKind.u32.wrap (h%9000)=h%9000:=qK qe qe
  have w2:IntKind.u32.wrap (h%9000+(i:Int))=h%9000+(i:Int):=qK qe qe
  have w3:IntKind.u32.wrap ((i:Int)+1)=((i+1:Nat):Int):=by rw[qK]<;>omega
  have ap:=Qz .u32 l 2 (.inr rfl) 4 qh (h%9000+(i:Int)) qe
  have g:=ih (l++[h%9000+(i:Int)]) (i+1) qe qi
  rw[qez,List.range'_succ]
  simp at g w3
  simp[hlt,r,w1,w2,ap,w3,g]
theorem zig(hs:∀n∈s.hs,0<=n/\n<18446744073709551616)(hl:s.hs.length<=40):∀(r:List Int) (i:Nat) (l:List Int),s.hs.drop i=r->l.length<=40*i->i<=s.hs.length->
 ∃t,∀b3',qo b3 1 [S t 1 (LI .u32 (XN [] (l++xw s.few r)))]=some b3'->B14_7 (S 2 1 (LI .u32 l)) (S k 1 (LI .u64 s.hs)) (.int .i64 s.hs.length) (.int .i64 i) [.sc (.int .u8 s.kind),.sc (.int .u8 s.A),.sc (.int .u8 s.B),.sc (.int .u16 s.wide),.sc (.bool s.few),S k 1 (LI .u64 s.hs),S k' 2 (LP s.fl)] b2 b3 hp=
  B14_35 b2 b3' hp:=by
 intro r
 induction r with
 |nil=>
  intro i l hr hll hil
  have:=qL hr
  have hlt:¬((i:Int)<(s.hs.length:Int)):=qe
  obtain⟨t,o⟩:=qyu l 3 qe hp0
  refine⟨rk t,fun b3' hb=>?_⟩
  rw[qml]
  simp[xw]at hb
  simp[hlt,o,hb]
 |cons x r ih=>
  intro i l hr hll hil
  obtain⟨e1,e2,hi,e3⟩:=qt hr
  have hx:=hs x (znm e1)
  have hw:IntKind.i64.wrap ((i:Int)+1)=((i+1:Nat):Int):=qj
  have w1:IntKind.u32.wrap x=x%4294967296:=by rw[IntKind.wrap_u32]
  have ap:=Qz .u32 l 2 (.inr rfl) 4 qh (x%4294967296) qe
  have l1:=VZ s.few hx.1
  obtain⟨t,g⟩:=ih (i+1) (l++kP s.few x) e2 (by rw[zm9];omega) qe
  refine⟨t,fun b3' hb=>?_⟩
  have es:xw s.few (x::r)=kP s.few x++xw s.few r:=rfl
  rw[es,<-List.append_assoc]at hb
  have g:=g b3' hb
  have g16:B14_16 (S 2 1 (LI .u32 (l++kP s.few x))) (S k 1 (LI .u64 s.hs)) (.int .i64 s.hs.length) (.int .i64 i) [.sc (.int .u8 s.kind),.sc (.int .u8 s.A),.sc (.int .u8 s.B),.sc (.int .u16 s.wide),.sc (.bool s.few),S k 1 (LI .u64 s.hs),S k' 2 (LP s.fl)] b2 b3 hp=B14_35 b2 b3' hp:=by
   rw[qw0]
   simp at hw g
   simp[hw,g]
  rw[qml]
  cases hf:s.few with
  |false=>
   rw[hf]at g16
   simp[kP]at g16
   simp[hi,e3,ql,w1,ap,g16]
  |true=>
   rw[hf]at g16
   have r40:∀t a b,qy Tryz.prog .rem t a b (.int .u64 x) (.int .u64 40)=some (.int .u64 (x%40)):=by
    intro t a b;rw[zp _ _ _ _ _ _ _ qe,zn hx.1]
   have w2:IntKind.u32.wrap (x%40)=x%40:=qK qe qe
   have rw1:=zih [.sc (.int .u8 s.kind),.sc (.int .u8 s.A),.sc (.int .u8 s.B),.sc (.int .u16 s.wide),.sc (.bool true),S k 1 (LI .u64 s.hs),S k' 2 (LP s.fl)] b2 b3 hp x (S k 1 (LI .u64 s.hs)) (.int .i64 s.hs.length) (.int .i64 i) hx (x%40).toNat qe (x%40).toNat (l++[x%4294967296]) 0 qe qi
   have e40:(((x%40).toNat:Nat):Int)=x%40:=qe
   rw[e40]at rw1
   have er:(l++[x%4294967296])++(List.range' 0 (x%40).toNat).map (fun(k:Nat)=>x%9000+(k:Int))=l++kP true x:=by
    simp[kP,row,List.range_eq_range']
   rw[er,g16]at rw1
   simp at rw1
   simp[hi,e3,ql,w1,ap,r40,w2,rw1]
theorem zij(hs:∀n∈s.hs,0<=n/\n<18446744073709551616)(hA:0<=s.A/\s.A<256)(hB:0<=s.B/\s.B<256)(hl:s.hs.length<=40):∀(r:List Int) (i:Nat) (l:List (Int×Int)),s.hs.drop i=r->l.length<=i->i<=s.hs.length->(∀p∈l,0<=p.2/\p.2<4294967296)->
 ∃t,∀b3',qo b3 9 [.sc (.int .i64 (1+s.A%8)),.sc (.int .i64 (1+s.B%40)),S t 1 (LI .u32 (yV (1+s.A%8) (1+s.B%40) (List.replicate ((1+s.A%8)*(1+s.B%40)).toNat 0) (l++smc i r)))]=some b3'->
  B14_27 (S 2 2 (LQ .u64 .u32 l)) (S k 1 (LI .u64 s.hs)) (.int .i64 s.hs.length) (.int .i64 i) [.sc (.int .u8 s.kind),.sc (.int .u8 s.A),.sc (.int .u8 s.B),.sc (.int .u16 s.wide),.sc (.bool s.few),S k 1 (LI .u64 s.hs),S k' 2 (LP s.fl)] b2 b3 hp=B14_35 b2 b3' hp:=by
 intro r
 induction r with
 |nil=>
  intro i l hr hll hil hp2
  have:=qL hr
  have hlt:¬((i:Int)<(s.hs.length:Int)):=qe
  obtain⟨t,hpc,o⟩:=zeo s.A s.B l 3 hA hB qe hp2 hp0
  refine⟨t,fun b3' hb=>?_⟩
  rw[KO]
  simp[smc]at hb
  simp[hlt,ql,o,hb]
 |cons x r ih=>
  intro i l hr hll hil hp2
  obtain⟨e1,e2,hi,e3⟩:=qt hr
  have hx:=hs x (znm e1)
  have hw:IntKind.i64.wrap ((i:Int)+1)=((i+1:Nat):Int):=qj
  have r9:∀t a b,qy Tryz.prog .rem t a b (.int .u64 x) (.int .u64 9)=some (.int .u64 (x%9)):=by
   intro t a b;rw[zp _ _ _ _ _ _ _ qe,zn hx.1]
  have r5:∀t a b,qy Tryz.prog .rem t a b (.int .i64 (i:Int)) (.int .i64 5)=some (.int .i64 ((i:Int)%5)):=by
   intro t a b;rw[zp _ _ _ _ _ _ _ qe,zn qe]
  have w9:IntKind.u32.wrap (x%9)=x%9:=qK qe qe
  have s32:∀t a b,qy Tryz.prog .shr t a b (.int .u64 x) (.int .u64 32)=some (.int .u64 (x/4294967296)):=by
   intro t a b
   rw[jM _ _ _ _ _ _ _ _ qe]
   have e:(2:Int)^(min (32:Int).toNat IntKind.u64.bits)=4294967296:=qh
   rw[e,zos _ qh]
  have w32:IntKind.u32.wrap (x/4294967296)=x/4294967296:=qK qe qe
  have ex:smc i (x::r)=(x,if i%5=4 then x/4294967296 else x%9)::smc (i+1) r:=rfl
  have ap:=fun n=>zkn .u64 .u32 2 (.inr rfl) l x n qe
  by_cases h4:i%5=4
  ·have h4':(i:Int)%5=4:=qe
   rw[if_pos h4]at ex
   obtain⟨t,g⟩:=ih (i+1) (l++[(x,x/4294967296)]) e2 qi qe (fun p hp=>by
    rcases zoj.mp hp with hp|hp
    ·exact hp2 p hp
    ·simp at hp;subst hp;dsimp;omega)
   refine⟨t,fun b3' hb=>?_⟩
   rw[ex]at hb
   have g:=g b3' (by simpa using hb)
   rw[KO]
   simp at g hw
   simp[hi,e3,ql,r9,w9,r5,h4',s32,w32,qey,ap,hw,g]
  ·have h4':¬((i:Int)%5=4):=qe
   rw[if_neg h4]at ex
   obtain⟨t,g⟩:=ih (i+1) (l++[(x,x%9)]) e2 qi qe (fun p hp=>by
    rcases zoj.mp hp with hp|hp
    ·exact hp2 p hp
    ·simp at hp;subst hp;dsimp;omega)
   refine⟨t,fun b3' hb=>?_⟩
   rw[ex]at hb
   have g:=g b3' (by simpa using hb)
   rw[KO]
   simp at g hw
   simp[hi,e3,ql,r9,w9,r5,h4',qey,ap,hw,g]
end
theorem zjk{w:Nat}(hw:w<18446744073709551616):(kT w).W:=by
 have i01:∀(p:Prop) [Decidable p],zy (if p then 1 else 0):=by intro p _;split<;>exact⟨qh,qh⟩
 refine⟨⟨show(0:Int)<=1 by decide,show(1:Int)<4294967296 by decide⟩,i01 _,i01 _,i01 _,i01 _,i01 _,i01 _,?_,?_,?_,?_⟩
 ·show(if yR w then 9218868437227405312 else w)<18446744073709551616
  split<;>omega
 ·show(if yR w then 18442240474082181120 else w)<18446744073709551616
  split<;>omega
 ·intro x hx
  have:x=wk (kw w):=by simpa[kT]using hx
  subst this
  exact qb2 _ (Qq w hw)
 ·simp[kT]
theorem zbd{w:Nat}{K:Int}(hw:w<18446744073709551616)(hK:1<=K/\K<=16):JW K (kT w).nf=0:=by
 rw[Xo]
 refine⟨hK,?_,?_,?_,?_⟩
 ·simp[Gs.nf,kT];omega
 ·simp[Gs.nf,kT]
 ·show kw (if yR w then 9218868437227405312 else w)≠nanK
  split
  ·decide
  ·rename_i h;exact fun e=>h ((Kk hw).mpr e)
 ·show kw (if yR w then 18442240474082181120 else w)≠nanK
  split
  ·decide
  ·rename_i h;exact fun e=>h ((Kk hw).mpr e)
theorem WW{K:Int}(hK:1<=K/\K<=16):JW K gnew.nf=0:=by
 rw[Xo]
 exact⟨hK,by simp[Gs.nf,gnew];omega,by simp[Gs.nf,gnew],qh,qh⟩
theorem Ze{K:Int}(hK:1<=K/\K<=16):∀{r:List Nat} {g:Gs},Ws r->g.W->JW K g.nf=0->(Zu K g r).W/\JW K (Zu K g r).nf=0
 |[],g,_,hg,hc=>⟨hg,hc⟩
 |w::r,g,hr,hg,hc=>by
  have hw:=hr w qg
  have h1:=zhp (K:=K) qe hg (zjk hw)
  have h2:JW K (gmg K g (kT w)).nf=0:=by rw[zbe];exact qaa hc (zbd hw hK)
  exact Ze hK (r:=r) (fun x hx=>hr x (by simp[hx])) h1 h2
theorem Wg(s:Sm)(k k':Nat)(ok:s.Ok)(hl:s.hs.length<=40)(hf:s.fl.length<=40)(hp:Hp):∃r,yu (zq s) r/\run cxX 14 [smA s k k'] hp=some (r,hp):=by
 have hk:=ok.kind
 have hA:=ok.A
 have hB:=ok.B
 have r6:∀t a b,qy Tryz.prog .rem t a b (.int .u8 s.kind) (.int .u8 6)=some (.int .u8 (s.kind%6)):=by
  intro t a b;rw[zp _ _ _ _ _ _ _ qe,zn hk.1]
 have fin:∀(x:SkN) (g:Gs) (a b c d e f:Nat),B14_35 xt (Qe x g a b c d e f) hp=some (wA x g a b c d e f,hp):=by
  intro x g a b c d e f
  rw[qwz]
  unfold Qe xt wA
  simp[qp,qo]
 rw[E14]
 unfold zq
 by_cases h0:s.kind%6=0
 ·rw[if_pos h0]
  obtain⟨t,q⟩:=zig xt xt s (rk k) (rk k') hp ok.hs hl s.hs 0 [] rfl qg qg
  refine⟨_,zI (x:={skZ with kind:=0,set:=XN [] (xw s.few s.hs)}) vM rfl t 2 2 2 2 2,?_⟩
  have f:=fin {skZ with kind:=0,set:=XN [] (xw s.few s.hs)} gz t 2 2 2 2 2
  have q:=q (Qe {skZ with kind:=0,set:=XN [] (xw s.few s.hs)} gz t 2 2 2 2 2) (by unfold xt Qe;simp[qo,skZ,gz,LF])
  unfold Qe xt at q f
  unfold wA at f⊢
  simp[skZ,gz,LF]at q f
  simp[ql,qs,r6,h0,q,f,skZ,gz,LF]
 ·rw[if_neg h0]
  by_cases h1:s.kind%6=1
  ·rw[if_pos h1]
   have q:=fun k hp=>zem s.A s.few s.hs k hA qe (fun n hn=>(ok.hs n hn).1) hp
   refine⟨_,zI (x:={skZ with kind:=1,K:=1+s.A%20,hs:=Zx (1+s.A%20).toNat [] (s.hs.map (cut s.few))}) vM rfl 2 2 2 2 2 2,?_⟩
   have f:=fin {skZ with kind:=1,K:=1+s.A%20,hs:=Zx (1+s.A%20).toNat [] (s.hs.map (cut s.few))} gz 2 2 2 2 2 2
   unfold Qe xt at f
   unfold wA at f⊢
   simp[skZ,gz,LF]at f
   simp[ql,qs,qo,r6,h1,q,f,skZ,gz,LF]
  ·rw[if_neg h1]
   by_cases h2:s.kind%6=2
   ·rw[if_pos h2]
    obtain⟨t,q⟩:=zen s.A s.hs (rk k) hA qe ok.hs hp0
    refine⟨_,zI (x:={skZ with kind:=2,P:=4+s.A%5,rg:=hfold (4+s.A%5) (List.replicate (jU (4+s.A%5)) 0) s.hs}) vM rfl 2 2 t 2 2 2,?_⟩
    have f:=fin {skZ with kind:=2,P:=4+s.A%5,rg:=hfold (4+s.A%5) (List.replicate (jU (4+s.A%5)) 0) s.hs} gz 2 2 t 2 2 2
    unfold Qe xt at f
    unfold wA at f⊢
    simp[skZ,gz,LF]at f
    simp[ql,qs,qo,r6,h2,q,f,skZ,gz,LF]
   ·rw[if_neg h2]
    by_cases h3:s.kind%6=3
    ·rw[if_pos h3]
     have q:=fun k hp=>qs1 s.wide s.A k s.hs ok.wide hA qe hp
     refine⟨_,zI (x:={skZ with kind:=3,B:=1+s.wide%300,H:=1+s.A%8,bs:=blm (1+s.wide%300) (1+s.A%8) [] s.hs}) vM rfl 2 2 2 2 2 2,?_⟩
     have f:=fin {skZ with kind:=3,B:=1+s.wide%300,H:=1+s.A%8,bs:=blm (1+s.wide%300) (1+s.A%8) [] s.hs} gz 2 2 2 2 2 2
     unfold Qe xt at f
     unfold wA at f⊢
     simp[skZ,gz,LF]at f
     simp[ql,qs,qo,r6,h3,q,f,skZ,gz,LF]
    ·rw[if_neg h3]
     by_cases h4:s.kind%6=4
     ·rw[if_pos h4]
      obtain⟨t,q⟩:=zij xt ((AV.sc (.int .u8 4))::xt.tail) s (rk k) (rk k') hp ok.hs hA hB hl s.hs 0 [] rfl qg qg qg
      refine⟨_,zI (x:={skZ with kind:=4,R:=1+s.A%8,C:=1+s.B%40,cs:=yV (1+s.A%8) (1+s.B%40) (List.replicate ((1+s.A%8)*(1+s.B%40)).toNat 0) (smc 0 s.hs)}) vM rfl 2 2 2 2 t 2,?_⟩
      have f:=fin {skZ with kind:=4,R:=1+s.A%8,C:=1+s.B%40,cs:=yV (1+s.A%8) (1+s.B%40) (List.replicate ((1+s.A%8)*(1+s.B%40)).toNat 0) (smc 0 s.hs)} gz 2 2 2 2 t 2
      have q:=q (Qe {skZ with kind:=4,R:=1+s.A%8,C:=1+s.B%40,cs:=yV (1+s.A%8) (1+s.B%40) (List.replicate ((1+s.A%8)*(1+s.B%40)).toNat 0) (smc 0 s.hs)} gz 2 2 2 2 t 2) (by unfold xt Qe;simp[qo,skZ,gz,LF])
      unfold Qe xt at q f
      unfold wA at f⊢
      have nq:S 2 2 (LQ .u64 .u32 [])=S 2 1 []:=rfl
      rw[nq]at q
      simp[skZ,gz,LF]at q f
      simp[ql,qs,r6,h4,q,f,skZ,gz,LF]
     ·rw[if_neg h4]
      have h5:s.kind%6=5:=qe
      obtain⟨gw,gc⟩:=Ze (K:=1+s.A%16) qe (qxw ok.fl) qop (WW qe)
      have q:=fun k hp=>qst s.A k s.fl hA qe ok.fl hp
      refine⟨_,zI (x:={skZ with kind:=5,gK:=1+s.A%16,g:=(Zu (1+s.A%16) gnew (s.fl.map wd)).nf}) gw rfl 2 2 2 2 2 2,?_⟩
      have f:=fin {skZ with kind:=5,gK:=1+s.A%16,g:=(Zu (1+s.A%16) gnew (s.fl.map wd)).nf} (Zu (1+s.A%16) gnew (s.fl.map wd)) 2 2 2 2 2 2
      unfold Qe xt at f
      unfold wA at f⊢
      simp[skZ]at f
      simp[ql,qs,qo,r6,h5,q,f,skZ]
theorem qf6:∀(r acc:List Int),(XN acc r).length<=acc.length+r.length
 |[],acc=>by simp[XN]
 |x::r,acc=>by
  have h:=qf6 r (mrg acc [x])
  have l:=vb acc [x]
  show(XN (mrg acc [x]) r).length<=_
  simp at l⊢
  omega
theorem qq5{P h:Int}{l:List Int}(hP:4<=P/\P<=8)(hl:∀n∈l,n<=65-P):∀n∈kS P l h,n<=65-P:=by
 unfold kS
 split
 ·rename_i hi
  intro n hn
  rcases zp3 hn with hn|rfl
  ·exact hl n hn
  ·have h1:=qhd (h:=h) hP
   have h2:=hl l[yS P h] (znr hi)
   have e:l.getD (yS P h) 0=l[yS P h]:=by simp[hi]
   rw[e];omega
 ·exact hl
theorem qka{P:Int}(hP:4<=P/\P<=8):∀{l a:List Int},(∀n∈a,0<=n/\n<=65-P)->∀n∈hfold P a l,0<=n/\n<=65-P
 |[],a,h=>h
 |x::l,a,h=>by
  have h1:∀n∈kS P a (hsh x),0<=n/\n<=65-P:=fun n hn=>⟨(qhf hP (fun m hm=>by have:=h m hm;omega) n hn).1,qq5 hP (fun m hm=>(h m hm).2) n hn⟩
  exact qka hP (l:=l) h1
theorem QM(s:Sm)(ok:s.Ok)(hl:s.hs.length<=40)(hf:s.fl.length<=40):Fine (zq s):=by
 have z:=qp3
 have hA:=ok.A
 have hB:=ok.B
 have hw:=ok.wide
 have hk:=ok.kind
 unfold zq
 by_cases h0:s.kind%6=0
 ·rw[if_pos h0]
  have r:=VY (xw s.few s.hs) (acc:=[]) List.Pairwise.nil
  have l:=qf6 (xw s.few s.hs) []
  have l2:=XR s.few ok.hs
  simp at l
  have u:kr (XN [] (xw s.few s.hs)):=fun n hn=>by
   have:=(qg6 n _ _).mp hn
   simp at this
   exact qyb ok.hs n this
  refine⟨⟨by show(0:Int)<=0/\(0:Int)<256;omega,u,by show(XN [] (xw s.few s.hs)).length<=_;omega,z.hsL,z.rg,z.rgL,z.bs,z.bsL,z.cs,z.csL⟩,?_,Yw⟩
  rw[qJ]
  exact⟨by show(0:Int)<6;omega,rfl,xy.mpr ⟨by show(XN [] (xw s.few s.hs)).length<=_;omega,r⟩⟩
 ·rw[if_neg h0]
  by_cases h1:s.kind%6=1
  ·rw[if_pos h1]
   have l:=zaz (1+s.A%20).toNat (s.hs.map (cut s.few))
   refine⟨⟨by show(0:Int)<=1/\(1:Int)<256;omega,z.set,z.setL,by show(Zx (1+s.A%20).toNat [] (s.hs.map (cut s.few))).length<=_;omega,z.rg,z.rgL,z.bs,z.bsL,z.cs,z.csL⟩,?_,Yw⟩
   rw[qJ]
   exact⟨by show(1:Int)<6;omega,rfl,yY.mpr ⟨by show 1<=1+s.A%20/\1+s.A%20<=1024;omega,by show((Zx (1+s.A%20).toNat [] (s.hs.map (cut s.few))).length:Int)<=1+s.A%20;omega,qua _ _⟩⟩
  ·rw[if_neg h1]
   by_cases h2:s.kind%6=2
   ·rw[if_pos h2]
    have hP:4<=4+s.A%5/\4+s.A%5<=8:=qe
    have o:=qka hP (l:=s.hs) (a:=List.replicate (jU (4+s.A%5)) 0) (fun n hn=>by have:=zo9 hn;omega)
    have l:=qdi (4+s.A%5) s.hs (List.replicate (jU (4+s.A%5)) 0)
    rw[zrg]at l
    have hple:=VH hP.2
    refine⟨⟨by show(0:Int)<=2/\(2:Int)<256;omega,z.set,z.setL,z.hsL,fun n hn=>by have:=o n hn;omega,by show(hfold (4+s.A%5) (List.replicate (jU (4+s.A%5)) 0) s.hs).length<=_;omega,z.bs,z.bsL,z.cs,z.csL⟩,?_,Yw⟩
    rw[qJ]
    exact⟨by show(2:Int)<6;omega,rfl,xF.mpr ⟨hP,l,fun n hn=>(o n hn).2⟩⟩
   ·rw[if_neg h2]
    by_cases h3:s.kind%6=3
    ·rw[if_pos h3]
     have hB':1<=1+s.wide%300/\1+s.wide%300<=4096:=qe
     have g:=qk2 (B:=1+s.wide%300) (H:=1+s.A%8) hB'.1 (r:=s.hs) (kN.nil _)
     have l:=g.len hB'.2
     refine⟨⟨by show(0:Int)<=3/\(3:Int)<256;omega,z.set,z.setL,z.hsL,z.rg,z.rgL,g.in32 hB'.2,by show(blm (1+s.wide%300) (1+s.A%8) [] s.hs).length<=_;omega,z.cs,z.csL⟩,?_,Yw⟩
     rw[qJ]
     exact⟨by show(3:Int)<6;omega,rfl,Xz hB' (by show 1<=1+s.A%8/\1+s.A%8<=8;omega) g⟩
    ·rw[if_neg h3]
     by_cases h4:s.kind%6=4
     ·rw[if_pos h4]
      have hR:1<=1+s.A%8/\1+s.A%8<=8:=qe
      have hC:1<=1+s.B%40/\1+s.B%40<=256:=qe
      have m:=qku hR hC
      have l:=qdq (1+s.A%8) (1+s.B%40) (smc 0 s.hs) (List.replicate ((1+s.A%8)*(1+s.B%40)).toNat 0)
      rw[zrg]at l
      have p2:∀(r:List Int) (i:Nat),(∀n∈r,0<=n/\n<18446744073709551616)->∀p∈smc i r,0<=p.2/\p.2<4294967296:=by
       intro r
       induction r with
       |nil=>intro i _ p hp;simp[smc]at hp
       |cons x r ih=>
        intro i hr p hp
        have hx:=hr x qg
        rcases zne.mp hp with rfl|hp
        ·dsimp
         split<;>omega
        ·exact ih (i+1) (fun n hn=>hr n (by simp[hn])) p hp
      have u:=qdp (1+s.A%8) (1+s.B%40) (l:=smc 0 s.hs) (a:=List.replicate ((1+s.A%8)*(1+s.B%40)).toNat 0) (fun n hn=>by have:=zo9 hn;omega) (p2 s.hs 0 ok.hs)
      refine⟨⟨by show(0:Int)<=4/\(4:Int)<256;omega,z.set,z.setL,z.hsL,z.rg,z.rgL,z.bs,z.bsL,u,by show(yV (1+s.A%8) (1+s.B%40) (List.replicate ((1+s.A%8)*(1+s.B%40)).toNat 0) (smc 0 s.hs)).length<=_;omega⟩,?_,Yw⟩
      rw[qJ]
      exact⟨by show(4:Int)<6;omega,rfl,kq.mpr ⟨hR,hC,by show((yV (1+s.A%8) (1+s.B%40) (List.replicate ((1+s.A%8)*(1+s.B%40)).toNat 0) (smc 0 s.hs)).length:Int)=(1+s.A%8)*(1+s.B%40);omega⟩⟩
     ·rw[if_neg h4]
      obtain⟨gw,gc⟩:=Ze (K:=1+s.A%16) qe (qxw ok.fl) qop (WW qe)
      refine⟨⟨by show(0:Int)<=5/\(5:Int)<256;omega,z.set,z.setL,z.hsL,z.rg,z.rgL,z.bs,z.bsL,z.cs,z.csL⟩,?_,gw.pos⟩
      rw[qJ]
      exact⟨by show(5:Int)<6;omega,rfl,gc⟩
theorem QL(s:Sm)(ok:s.Ok):(zq s).kind=s.kind%6:=by
 have hk:=ok.kind
 unfold zq
 repeat' split
 all_goals first|(simp;omega)|rfl
theorem qga(s t:Sm)(ok:s.Ok)(ok':t.Ok)(hk:s.kind%6=t.kind%6)(hA:s.A=t.A)(hB:s.B=t.B)(hw:s.wide=t.wide):jT (zq s) (zq t)=true:=by
 have k1:=QL s ok
 have k2:=QL t ok'
 refine qqy (by rw[k1,k2,hk]) ?_
 rw[k1]
 unfold zq
 rw[<-hk,<-hA,<-hB,<-hw]
 refine⟨fun h=>?_,fun h=>?_,fun h=>?_,fun h=>?_,fun h=>?_⟩
 ·simp[h]
 ·simp[h]
 ·simp[h]
 ·simp[h]
 ·simp[h]
def Sm.none(s:Sm):Sm:={s with hs:=[],fl:=[]}
theorem Sm.Ok.none{s:Sm}(h:s.Ok):s.none.Ok:=⟨h.kind,h.A,h.B,h.wide,by simp[Sm.none],by simp[Sm.none]⟩
theorem qn9(s:Sm)(ok:s.Ok)(hl:s.hs.length<=40)(hf:s.fl.length<=40):qx (zq s) (zq s.none)=zq s:=by
 have fx:=QM s ok hl hf
 have hA:=ok.A
 have hB:=ok.B
 have hw:=ok.wide
 have hk:=ok.kind
 obtain⟨kd,on,sp⟩:=qJ.mp fx.c
 have w:=fx.w
 rw[QL s ok]at sp
 have e5:s.kind%6=0\/s.kind%6=1\/s.kind%6=2\/s.kind%6=3\/s.kind%6=4\/s.kind%6=5:=qe
 rcases e5 with k|k|k|k|k|k
 ·simp[zq,Sm.none,qx,k,xw,XN]
 ·simp[k]at sp
  obtain⟨a,b,c⟩:=yY.mp sp
  simp[zq,k]at a b
  simp[zq,Sm.none,qx,k,Zx]
  exact zn2 qe
 ·simp[k]at sp
  obtain⟨a,b,c⟩:=xF.mp sp
  have rg:=w.rg
  simp[zq,k]at a b c rg
  simp[zq,Sm.none,qx,k]
  have h:=qdg (a:=hfold (4+s.A%5) (List.replicate (jU (4+s.A%5)) 0) s.hs) (fun n hn=>(rg n hn).1)
  rw[b]at h
  exact h
 ·simp[zq,Sm.none,qx,k,blm]
 ·simp[k]at sp
  obtain⟨a,b,c⟩:=kq.mp sp
  have cs:=w.cs
  simp[zq,k]at a b c cs
  simp[zq,Sm.none,qx,k,smc]
  have h:=qdn (a:=yV (1+s.A%8) (1+s.B%40) (List.replicate ((1+s.A%8)*(1+s.B%40)).toNat 0) (smc 0 s.hs)) cs
  have l:(yV (1+s.A%8) (1+s.B%40) (List.replicate ((1+s.A%8)*(1+s.B%40)).toNat 0) (smc 0 s.hs)).length=((1+s.A%8)*(1+s.B%40)).toNat:=qe
  rw[l]at h
  exact h
 ·simp[k]at sp
  simp[zq,k]at sp
  simp[zq,Sm.none,qx,k,Zu]
  obtain⟨gw,gc⟩:=Ze (K:=1+s.A%16) qe (qxw ok.fl) qop (WW qe)
  exact zbg gw gc
theorem Jw(Z L:List AV)(h:Z.length=L.length):qo Z 0 L=some L:=by
 unfold qo
 rw[if_pos qe]
 simp[h]
theorem Km(L:List AV)(n:Nat)(h:L.length=n):qp L 0 n=some L:=by
 subst h;exact qkg L
theorem quh(L:List AV)(i:Nat):ql (L.map ro1) i=ql L i:=by
 unfold ql
 rw[znt]
 cases L[i]? with
 |none=>rfl
 |some x=>cases x<;>rfl
structure Cl (x : SkN) (L : List AV) : Prop where
 sk:yu x (.agg L)
 len:L.length=23
 vl:L.all vl=true
 ro:L.map ro1=L
 k0:ql L 0=some (.int .u8 x.kind)
theorem yu.cl{x:SkN}{r:AV}(h:yu x r):∃L,r= .agg L/\L.length=23/\L.all AI.vl=true/\Cl x (L.map ro1):=by
 obtain⟨g,a,b,c,d,e,f,gw,gn,rfl⟩:=h
 refine⟨_,rfl,rfl,qg,⟨⟨g,rk a,rk b,rk c,rk d,rk e,rk f,gw,gn,by simp[wA]⟩,qg,qg,qg,by simp[ql]⟩⟩
theorem ZE:Fine skZ:=⟨qp3,qh,Yw⟩
theorem qn0(x:SkN)(h:x=jn x):(x.kind≠0->x.set=[])/\(x.kind≠1->x.K=0/\x.hs=[])/\(x.kind≠2->x.P=0/\x.rg=[])/\(x.kind≠3->x.B=0/\x.H=0/\x.bs=[])/\(x.kind≠4->x.R=0/\x.C=0/\x.cs=[])/\(x.kind≠5->x.gK=0/\x.g=gz.nf):=by
 unfold jn at h
 refine⟨fun k=>?_,fun k=>?_,fun k=>?_,fun k=>?_,fun k=>?_,fun k=>?_⟩
 all_goals (rw[h];repeat' split)
 all_goals first|exact rfl|exact⟨rfl,rfl⟩|exact⟨rfl,rfl,rfl⟩|(exfalso;omega)
theorem zad{x:SkN}(hk:x.kind=0\/x.kind=1\/x.kind=2\/x.kind=3\/x.kind=4\/x.kind=5)(h:(x.kind≠0->x.set=[])/\(x.kind≠1->x.K=0/\x.hs=[])/\(x.kind≠2->x.P=0/\x.rg=[])/\(x.kind≠3->x.B=0/\x.H=0/\x.bs=[])/\(x.kind≠4->x.R=0/\x.C=0/\x.cs=[])/\(x.kind≠5->x.gK=0/\x.g=gz.nf)):x=jn x:=by
 obtain⟨a0,a1,a2,a3,a4,a5⟩:=h
 cases x
 simp only at hk a0 a1 a2 a3 a4 a5
 unfold jn skZ
 rcases hk with k|k|k|k|k|k
 all_goals subst k
 all_goals simp at a0 a1 a2 a3 a4 a5
 all_goals simp[a0,a1,a2,a3,a4,a5]
theorem We{x:SkN}(hx:Fine x){h:Int}(hh:0<=h/\h<18446744073709551616)(hs:x.kind=0->x.set.length<4096):Fine (je x h):=by
 obtain⟨kd,on,sp⟩:=qJ.mp hx.c
 have w:=hx.w
 obtain⟨a0,a1,a2,a3,a4,a5⟩:=qn0 x on
 have hm:0<=h%4294967296/\h%4294967296<4294967296:=qe
 have only:∀o:SkN,o.kind=x.kind->(x.kind≠0->o.set=x.set)->(x.kind≠1->o.hs=x.hs)->(x.kind≠2->o.rg=x.rg)->(x.kind≠3->o.bs=x.bs)->(x.kind≠4->o.cs=x.cs)->o.K=x.K->o.P=x.P->o.B=x.B->o.H=x.H->o.R=x.R->o.C=x.C->o.gK=x.gK->o.g=x.g->o=jn o:=by
  intro o e1 e2 e3 e4 e5 e6 e7 e8 e9 e10 e11 e12 e13 e14
  have c:=six w kd
  rw[<-e1]at e2 e3 e4 e5 e6 a0 a1 a2 a3 a4 a5 c
  exact zad c ⟨fun k=>(e2 k).trans (a0 k),fun k=>⟨e7.trans (a1 k).1,(e3 k).trans (a1 k).2⟩,fun k=>⟨e8.trans (a2 k).1,(e4 k).trans (a2 k).2⟩,fun k=>⟨e9.trans (a3 k).1,e10.trans (a3 k).2.1,(e5 k).trans (a3 k).2.2⟩,fun k=>⟨e11.trans (a4 k).1,e12.trans (a4 k).2.1,(e6 k).trans (a4 k).2.2⟩,fun k=>⟨e13.trans (a5 k).1,e14.trans (a5 k).2⟩⟩
 rcases six w kd with k|k|k|k|k|k
 ·have e:je x h={x with set:=mrg x.set [h%4294967296]}:=by unfold je;simp[k]
  have l:=vb x.set [h%4294967296]
  have hs:=hs k
  simp at l
  rw[e]
  simp[k]at sp
  refine⟨⟨w.kind,wJ w.set (by intro n hn;simp at hn;subst hn;exact hm),by show(mrg x.set [h%4294967296]).length<=_;omega,w.hsL,w.rg,w.rgL,w.bs,w.bsL,w.cs,w.csL⟩,?_,hx.pos⟩
  rw[qJ]
  refine⟨kd,only _ rfl (fun h=>absurd k h) (fun _=>rfl) (fun _=>rfl) (fun _=>rfl) (fun _=>rfl) rfl rfl rfl rfl rfl rfl rfl rfl,?_⟩
  simp[k]
  exact xy.mpr ⟨qe,jl _ _ (xy.mp sp).2 qg⟩
 ·have e:je x h={x with hs:=(mrg x.hs [h]).take x.K.toNat}:=by unfold je;simp[k]
  have l:=vb x.hs [h]
  simp at l
  have hl:=w.hsL
  rw[e]
  simp[k]at sp
  obtain⟨c1,c2,c3⟩:=yY.mp sp
  refine⟨⟨w.kind,w.set,w.setL,by show((mrg x.hs [h]).take x.K.toNat).length<=_;rw[zn8];omega,w.rg,w.rgL,w.bs,w.bsL,w.cs,w.csL⟩,?_,hx.pos⟩
  rw[qJ]
  refine⟨kd,only _ rfl (fun _=>rfl) (fun h=>absurd k h) (fun _=>rfl) (fun _=>rfl) (fun _=>rfl) rfl rfl rfl rfl rfl rfl rfl rfl,?_⟩
  simp[k]
  exact yY.mpr ⟨c1,by rw[zn8];omega,Kb _ (jl _ _ c3 qg)⟩
 ·have e:je x h={x with rg:=kS x.P x.rg h}:=by unfold je;simp[k]
  rw[e]
  simp[k]at sp
  obtain⟨c1,c2,c3⟩:=xF.mp sp
  refine⟨⟨w.kind,w.set,w.setL,w.hsL,qhf c1 w.rg,by show(kS x.P x.rg h).length<=_;rw[ZW];exact w.rgL,w.bs,w.bsL,w.cs,w.csL⟩,?_,hx.pos⟩
  rw[qJ]
  refine⟨kd,only _ rfl (fun _=>rfl) (fun _=>rfl) (fun h=>absurd k h) (fun _=>rfl) (fun _=>rfl) rfl rfl rfl rfl rfl rfl rfl rfl,?_⟩
  simp[k]
  exact xF.mpr ⟨c1,by rw[ZW];exact c2,qq5 c1 c3⟩
 ·have e:je x h={x with bs:=Ji x.bs (plg x.B x.H h)}:=by unfold je;simp[k]
  rw[e]
  simp[k]at sp
  obtain⟨hB,hH,hg⟩:=yT sp w.bs
  have hga:=QD hg (WC (H:=x.H) (h:=h) hB.1)
  have hl:=hga.len hB.2
  refine⟨⟨w.kind,w.set,w.setL,w.hsL,w.rg,w.rgL,hga.in32 hB.2,by show(Ji x.bs (plg x.B x.H h)).length<=_;omega,w.cs,w.csL⟩,?_,hx.pos⟩
  rw[qJ]
  refine⟨kd,only _ rfl (fun _=>rfl) (fun _=>rfl) (fun _=>rfl) (fun h=>absurd k h) (fun _=>rfl) rfl rfl rfl rfl rfl rfl rfl rfl,?_⟩
  simp[k]
  exact Xz hB hH hga
 ·have e:je x h={x with cs:=vg x.R x.C h 1 x.cs}:=by unfold je;simp[k]
  rw[e]
  simp[k]at sp
  obtain⟨c1,c2,c3⟩:=kq.mp sp
  refine⟨⟨w.kind,w.set,w.setL,w.hsL,w.rg,w.rgL,w.bs,w.bsL,Jd qe w.cs,by show(vg x.R x.C h 1 x.cs).length<=_;rw[Qv];exact w.csL⟩,?_,hx.pos⟩
  rw[qJ]
  refine⟨kd,only _ rfl (fun _=>rfl) (fun _=>rfl) (fun _=>rfl) (fun _=>rfl) (fun h=>absurd k h) rfl rfl rfl rfl rfl rfl rfl rfl,?_⟩
  simp[k]
  exact kq.mpr ⟨c1,c2,by rw[Qv];exact c3⟩
 ·have e:je x h=x:=by unfold je;simp[k]
  rw[e];exact hx
theorem qp7{x:SkN}(hx:Fine x){h:Int}(hh:0<=h/\h<18446744073709551616)(hs:x.kind=0->x.set.length<4096):qyi x h=(je x h,0):=by
 unfold qyi okN
 rw[if_neg (by simpa using hx.c),if_pos (We hx hh hs).c]
theorem KU(s:Sm)(ok:s.Ok)(hl:s.hs.length<=40):(zq s).set.length<=1600:=by
 have l:=qf6 (xw s.few s.hs) []
 have l2:=XR s.few ok.hs
 simp at l
 unfold zq
 repeat' split
 ·show(XN [] (xw s.few s.hs)).length<=_;omega
 all_goals exact zn1 _
def By(l:List Int):Prop:=∀x∈l,0<=x/\x<256
theorem By.app{a b:List Int}(h:By a)(g:By b):By (a++b):=fun x hx=>(zoj.mp hx).elim (h x) (g x)
theorem By.cons{a:Int}{b:List Int}(h:0<=a/\a<256)(g:By b):By (a::b):=fun x hx=>(zne.mp hx).elim (fun e=>by rw[e];exact h) (g x)
theorem By.nil:By []:=fun x hx=>by cases hx
theorem By.uv(n:Nat):By (uv n):=zlq n
theorem By.pk(l:List Bool):By (pk l):=fun x hx=>WE hx
theorem qb8{s:En}(h:By s.out):By (sh s).out:=by
 unfold sh
 split
 ·refine By.app (By.app h ?_) fun x hx=>?_
  ·split
   ·exact By.cons qe By.nil
   ·exact By.nil
  ·rw[zo9 hx];omega
 ·exact h
theorem zft:∀(f:Nat) {s:En},By s.out->By (zG f s).out:=by
 intro f
 induction f with
 |zero=>intro s h;exact h
 |succ f ih=>
  intro s h
  unfold zG
  split
  ·exact ih (qb8 h)
  ·exact h
theorem zj1:∀(l cs:List Nat) {s:En},By s.out->By (enc cs s l).out:=by
 intro l
 induction l with
 |nil=>intro cs s h;exact h
 |cons x r ih=>intro cs s h;exact ih _ (zft 4 h)
theorem qhl(l:List Nat):By (jk l):=qb8 (qb8 (qb8 (qb8 (qb8 (zj1 l cs0 By.nil)))))
theorem zkm(m:Nat):∀f i,i+f<=256->By (yJ m f i):=by
 intro f
 induction f with
 |zero=>intro i _;exact By.nil
 |succ f ih=>
  intro i h
  unfold yJ
  split
  ·exact By.cons qe (ih _ qe)
  ·exact ih _ qe
theorem zkh(m:Nat):∀f i,By (yH m f i):=by
 intro f
 induction f with
 |zero=>intro i;exact By.nil
 |succ f ih=>intro i;exact By.cons qe (ih _)
theorem zlv(m:Nat):∀f i,By (kQ m f i):=by
 intro f
 induction f with
 |zero=>intro i;exact By.nil
 |succ f ih=>
  intro i
  unfold kQ
  split
  ·exact By.nil
  ·split
   ·have:=wE m (255-i) i
    exact By.cons qe (By.cons qe (ih _))
   ·exact ih _
theorem qgk{cs:List (Nat×Nat)}:By (jX cs):=by
 have h:∀cs:List (Nat×Nat),By (wW cs):=by
  intro cs
  induction cs with
  |nil=>exact By.nil
  |cons c r ih=>
   have k:=Xg c.2
   have a:=vF c.2 256
   have b:=Yn c.2 256
   refine By.app (By.app (By.uv _) (By.cons qe ?_)) ih
   unfold Zk
   split
   ·exact By.cons qe (zkm _ _ _ qe)
   ·split
    ·exact zkh _ _ _
    ·exact By.cons qe (zlv _ _ _)
 exact By.app (By.uv _) (h cs)
theorem qgq(c:Int):∀(l:List Int) (i:Nat) (last:Int),By (zV c l i last):=by
 intro l
 induction l with
 |nil=>intro i last;exact By.nil
 |cons x r ih=>intro i last;exact By.app (By.uv _) (ih _ _)
theorem qra:∀(l:List Nat) (p:Nat),By (jO p l):=by
 intro l
 induction l with
 |nil=>intro p;exact By.nil
 |cons x r ih=>intro p;exact By.app (By.uv _) (ih _)
theorem ze3{x:SkN}(f:Fine x)(h64:H64 x):By (qE x):=by
 have hk:=f.w.kind
 have kd:=(qJ.mp f.c).1
 have six:x.kind=0\/x.kind=1\/x.kind=2\/x.kind=3\/x.kind=4\/x.kind=5:=qe
 unfold qE
 rcases six with k|k|k|k|k|k
 ·rw[if_pos k];exact qgk
 ·rw[if_neg qe,if_pos k]
  obtain⟨s0,s1,s2,s3,s4⟩:=vp f k h64
  have p:=(QZ (xG s3)).1
  exact By.app (By.uv _) (By.app (By.app (By.app (By.uv _) (By.cons qe By.nil)) (By.uv _)) (By.pk _))
 ·rw[if_neg qe,if_neg qe,if_pos k]
  have s:=vq f k
  exact By.cons qe (qhl _)
 ·rw[if_neg qe,if_neg qe,if_neg qe,if_pos k]
  have s:=xZ f k
  exact By.app (By.app (By.uv _) (By.cons qe By.nil)) (By.app (By.app (By.app (By.app (By.uv _) (By.uv _)) (By.pk _)) (By.uv _)) (By.pk _))
 ·rw[if_neg qe,if_neg qe,if_neg qe,if_neg qe,if_pos k]
  have s:=vr f k
  exact By.app (By.app (By.cons qe By.nil) (By.uv _)) (qgq _ _ _ _)
 ·rw[if_neg qe,if_neg qe,if_neg qe,if_neg qe,if_neg qe]
  have s:=xV f k
  unfold yE
  exact By.app (By.app (By.app (By.app (By.app (By.app (By.app (By.app (By.app (By.app (By.app (By.cons qe By.nil) (By.uv _)) (By.uv _)) (By.uv _)) (By.uv _)) (By.uv _)) (By.uv _)) (By.uv _)) (By.uv _)) (By.uv _)) (By.cons qe By.nil)) (qra _ _)
theorem KV(s:Sm)(ok:s.Ok):H64 (zq s):=by
 intro n hn
 unfold zq at hn
 by_cases h0:s.kind%6=0
 ·rw[if_pos h0]at hn;cases hn
 ·rw[if_neg h0]at hn
  by_cases h1:s.kind%6=1
  ·rw[if_pos h1]at hn
   obtain⟨m,hm,rfl⟩:=zn9.mp (zaq hn)
   have:=ok.hs m hm
   unfold cut
   split<;>omega
  ·rw[if_neg h1]at hn
   split at hn
   ·cases hn
   ·split at hn
    ·cases hn
    ·split at hn<;>cases hn
abbrev Rb(k:Nat)(l:List Int)(p:Nat)(s:Bool):List AV:=[S k 1 (LI .u8 l),.sc (.int .i64 (p:Int)),.sc (.bool s)]
def rb(l:List Int)(p:Nat)(s:Bool):Bool×Nat×Bool:=if s=true\/8*l.length<=p then(false,p,true)else(yr l p,p+1,false)
def rt(l:List Int):Nat->Nat->Nat->Bool->Nat×Nat×Bool
 |0,n,p,s=>(if s then 0 else n,p,s)
 |k+1,n,p,s=>rt l k (2*n+(rb l p s).1.toNat) (rb l p s).2.1 (rb l p s).2.2
def ru(l:List Int)(most:Nat):Nat->Nat->Nat->Bool->Nat×Nat×Bool
 |0,n,p,s=>(0,p,true)
 |f+1,n,p,s=>if(rb l p s).1 then ru l most f (n+1) (rb l p s).2.1 ((rb l p s).2.2||decide (most<n+1))else(if(rb l p s).2.2 then 0 else n,(rb l p s).2.1,(rb l p s).2.2)
def rU1(l:List Int)(most p:Nat)(s:Bool):Nat×Nat×Bool:=ru l most (8*l.length+2) 0 p s
def qje(l:List Int)(p:Nat)(s:Bool):Int:=if s then 3 else if p+8<=8*l.length then 15 else if(List.range (8*l.length-p)).any (fun i=>yr l (p+i))then 15 else 0
theorem rb_p(l:List Int)(p:Nat)(s:Bool)(h:p<=8*l.length):(rb l p s).2.1<=8*l.length:=by
 unfold rb
 by_cases h1:s=true\/8*l.length<=p
 ·rw[if_pos h1];exact h
 ·rw[if_neg h1];simp at h1⊢;omega
theorem bit8(l:List Int)(p:Nat)(h8:∀c∈l,0<=c/\c<256)(hp:p<8*l.length):
 ∃z:Int,(∀t x y,qy Tryz.prog .shr t x y (.int .u8 (l.getD (p/8) 0)) (.int .i64 ((7-p%8:Nat):Int))=some (.int .u8 z))/\(∀t x y,qy Tryz.prog .and t x y (.int .u8 z) (.int .u8 1)=some (.int .u8 ((yr l p).toNat:Nat))):=by
 obtain⟨c,hc⟩:∃c,l.getD (p/8) 0=c:=⟨_,rfl⟩
 have hm:c∈l:=by
  rw[<-hc,znb,zng qe]
  exact znr _
 obtain⟨c1,c2⟩:=h8 c hm
 obtain⟨n,rfl⟩:∃n:Nat,c=n:=⟨c.toNat,qe⟩
 unfold yr
 rw[hc]
 refine⟨_,fun t x y=>jM _ _ _ _ _ _ _ _ qe,fun t x y=>?_⟩
 rw[zk]
 have h:7-p%8<8:=qe
 generalize 7-p%8=r at*
 have e1:min (r:Int).toNat IntKind.u8.bits=r:=by
  show min (r:Int).toNat 8=r
  omega
 have e2:(n:Int).fdiv (2^r)=((n/2^r:Nat):Int):=by
  rw[zos _ (Int.le_of_lt (Int.pow_pos qe))]
  simp
 have e3:(BitVec.ofInt IntKind.u8.bits ((n/2^r:Nat):Int)&&&BitVec.ofInt IntKind.u8.bits 1).toNat=n/2^r%2:=by
  have hlt:n/2^r<256:=zow (zpl _ _) qe
  generalize n/2^r=q at*
  show(BitVec.ofInt 8 (q:Int)&&&BitVec.ofInt 8 1).toNat=q%2
  have e:BitVec.ofInt 8 1=1#8:=rfl
  rw[zo6,e,zp8,zo5,zoq hlt]
  exact Nat.and_one_is_mod q
 rw[e1,e2,e3,znj,zpd]
 have:n/2^r%2=0\/n/2^r%2=1:=qe
 rcases this with e|e<;>rw[e]<;>rfl
theorem Jv(k:Nat)(l:List Int)(hp:Hp):run cxX 159 [S k 1 (LI .u8 l)] hp=some (.ptr hp.next 0 0,hp.new (Rb (rk k) l 0 false)):=by
 rw[E159]
 simp[qo]
 rfl
section
variable (b k:Nat)(l:List Int)(p:Nat)(s:Bool)(hp:Hp)(hl:l.length<=100000000)
theorem vy(h:hp.rd b 0=some (Rb k l p s)):run cxX 163 [.ptr b 0 0] hp=some (.sc (.bool s),hp):=by
 rw[E163]
 simp[h,ql]
theorem qs0(h:hp.rd b 0=some (Rb k l p s)):run cxX 192 [.ptr b 0 0] hp=some (.tup [],hp.put b 0 (Rb k l p true)):=by
 rw[E192]
 simp[h,qo]
theorem zg3(h:hp.rd b 0=some (Rb k l p s)):B191_2 (.ptr b 0 0) hp=some (.sc (.int .i64 0),hp.put b 0 (Rb k l p true)):=by
 rw[qwb]
 simp[h,qo,qwa]
include hl
theorem qqc(h8:∀c∈l,0<=c/\c<256)(hpl:p<=8*l.length)(h:hp.rd b 0=some (Rb k l p s)):
 run cxX 191 [.ptr b 0 0] hp=some (.sc (.int .i64 ((rb l p s).1.toNat:Nat)),hp.put b 0 (Rb k l (rb l p s).2.1 (rb l p s).2.2)):=by
 have t:=zg3 b k l p s hp h
 rw[E191]
 unfold rb
 by_cases hs:s=true
 ·subst hs
  simp[h,ql,t]
 ·have hs:s=false:=by simpa using hs
  subst hs
  have w1:IntKind.i64.wrap (8*(l.length:Int))=((8*l.length:Nat):Int):=qj
  by_cases h1:8*l.length<=p
  ·have hge:((8*l.length:Nat):Int)<=(p:Int):=qe
   generalize hq:((8*l.length:Nat):Int)=q at*
   simp[h,ql,qs,w1,hge,t,h1]
  ·have hge:¬(((8*l.length:Nat):Int)<=(p:Int)):=qe
   have q8:=qgn p qe
   obtain⟨z8,b8,b8'⟩:=bit8 l p h8 qe
   have r8:=qgl p
   have w4:IntKind.i64.wrap (7-((p%8:Nat):Int))=((7-p%8:Nat):Int):=qj
   have w2:IntKind.i64.wrap ((p:Int)+1)=((p+1:Nat):Int):=qj
   have w3:IntKind.i64.wrap (((yr l p).toNat:Nat):Int)=(((yr l p).toNat:Nat):Int):=by have:=b2n (yr l p);rw[qm]<;>omega
   have ge:(LI .u8 l)[p/8]?=some (.sc (.int .u8 (l.getD (p/8) 0))):=by
    unfold LI
    rw[znt,znb,zng qe]
    rfl
   have g0:(0:Int)<=((p/8:Nat):Int):=qe
   have b5:B191_5 (.ptr b 0 0) hp=some (.sc (.int .i64 ((yr l p).toNat:Nat)),hp.put b 0 (Rb k l (p+1) false)):=by
    rw[qv9]
    generalize hcc:l.getD (p/8) 0=c at*
    generalize hrr:((7-p%8:Nat):Int)=r at*
    have gs1:∀(x y:AV) (v:Value),ql [x,.sc v,y] 1=some v:=fun _ _ _=>rfl
    have gs0:∀(v:Value),ql [.sc v] 0=some v:=fun _=>rfl
    have gc0:∀(x:AV) (l:List AV),qs (x::l) 0=some x:=fun _ _=>rfl
    generalize hq8:((p/8:Nat):Int)=q1 at*
    have ge':(LI .u8 l)[q1.toNat]?=some (.sc (.int .u8 c)):=by rw[<-hq8,znj];exact ge
    generalize((p%8:Nat):Int)=q2 at*
    simp[h,qs,gs1,q8,g0,ge',gs0,r8,w4,b8,b8',w2,cv8,w3,qo,-zk]
    rfl
   generalize hq:((8*l.length:Nat):Int)=q at*
   simp[h,ql,qs,w1,hge,b5,h1]
theorem qr4(h8:∀c∈l,0<=c/\c<256)(n0:Nat)(hn0:n0<=64):∀(m acc p:Nat) (s:Bool) (hp:Hp),m<=n0->acc<2^(n0-m)->p<=8*l.length->hp.rd b 0=some (Rb k l p s)->
 B162_3 (.ptr b 0 0) (.int .u64 (acc:Int)) (.int .i64 (n0:Int)) (.int .i64 ((n0-m:Nat):Int)) hp=some (.sc (.int .u64 ((rt l m acc p s).1:Nat)),hp.put b 0 (Rb k l (rt l m acc p s).2.1 (rt l m acc p s).2.2)):=by
 intro m
 induction m with
 |zero=>
  intro acc p s hp hm ha hpl h
  have sh:=vy b k l p s hp h
  rw[qev]
  cases s
  ·simp[sh,rt,jm h]
  ·simp[sh,rt,jm h]
 |succ m ih=>
  intro acc p s hp hm ha hpl h
  have bt:=qqc b k l p s hp hl h8 hpl h
  have hlt:((n0-(m+1):Nat):Int)<(n0:Int):=qe
  have hb:=b2n (rb l p s).1
  have jU:2^(n0-(m+1))<=2^63:=zoc qh qe
  have e63:(2:Nat)^63=9223372036854775808:=qh
  have s1:∀t x y,qy Tryz.prog .shl t x y (.int .u64 (acc:Int)) (.int .u64 1)=some (.int .u64 ((acc*2^1:Nat):Int)):=by
   intro t x y
   rw[zW _ _ _ _ _ _ _ _ qe]
   have e:(2:Int)^min (1:Int).toNat IntKind.u64.bits=2:=rfl
   rw[e,IntKind.wrap_u64]
   congr 2
   omega
  have w1:IntKind.u64.wrap (((rb l p s).1.toNat:Nat):Int)=(((rb l p s).1.toNat:Nat):Int):=qu qe qe
  have o1:∀t x y,qy Tryz.prog .or t x y (.int .u64 ((acc*2^1:Nat):Int)) (.int .u64 (((rb l p s).1.toNat:Nat):Int))=some (.int .u64 ((2*acc+(rb l p s).1.toNat:Nat):Int)):=by
   intro t x y
   rw[zS]
   generalize(rb l p s).1.toNat=q at*
   have e:(BitVec.ofInt IntKind.u64.bits ((acc*2^1:Nat):Int)|||BitVec.ofInt IntKind.u64.bits (q:Int)).toNat=2*acc+q:=by
    show(BitVec.ofInt 64 ((acc*2^1:Nat):Int)|||BitVec.ofInt 64 (q:Int)).toNat=_
    rw[zpt,znx,znx]
    have e1:(((acc*2^1:Nat):Int)%((2^64:Nat):Int)).toNat=2^1*acc:=qe
    have e2:((q:Int)%((2^64:Nat):Int)).toNat=q:=qe
    rw[e1,e2,<-Nat.two_pow_add_eq_or_of_lt qe acc]
   rw[e,qu qe qe]
  have w2:IntKind.i64.wrap (((n0-(m+1):Nat):Int)+1)=((n0-m:Nat):Int):=qj
  have hi:=ih (2*acc+(rb l p s).1.toNat) (rb l p s).2.1 (rb l p s).2.2 (hp.put b 0 (Rb k l (rb l p s).2.1 (rb l p s).2.2)) qe (by
   have:n0-m=n0-(m+1)+1:=qe
   rw[this,zo4];omega) (rb_p l p s hpl) (qr _ _ _)
  rw[qC]at hi
  rw[qev]
  have e3:rt l (m+1) acc p s=rt l m (2*acc+(rb l p s).1.toNat) (rb l p s).2.1 (rb l p s).2.2:=rfl
  rw[e3]
  generalize rt l m (2*acc+(rb l p s).1.toNat) (rb l p s).2.1 (rb l p s).2.2=R at*
  generalize((2*acc+(rb l p s).1.toNat:Nat):Int)=A at*
  generalize(((rb l p s).1.toNat:Nat):Int)=bb at*
  generalize((acc*2^1:Nat):Int)=aa at*
  generalize((n0-(m+1):Nat):Int)=jj at*
  generalize((n0-m:Nat):Int)=kk at*
  simp[hlt,s1,bt,w1,o1,w2,hi,-zS]
theorem qct(h8:∀c∈l,0<=c/\c<256)(n0:Nat)(hn0:n0<=64)(hpl:p<=8*l.length)(h:hp.rd b 0=some (Rb k l p s)):
 run cxX 162 [.ptr b 0 0,.sc (.int .i64 (n0:Int))] hp=some (.sc (.int .u64 ((rt l n0 0 p s).1:Nat)),hp.put b 0 (Rb k l (rt l n0 0 p s).2.1 (rt l n0 0 p s).2.2)):=by
 have t:=qr4 b k l hl h8 n0 hn0 n0 0 p s hp (znd _) (zpk _) hpl h
 have m1:max (n0:Int) 0=(n0:Int):=qe
 have m2:min (n0:Int) 64=(n0:Int):=qe
 rw[E162]
 simp at t
 simp[m1,m2,t]
theorem qrx(h8:∀c∈l,0<=c/\c<256)(most:Nat)(hmost:most<1000000000000):∀(f n p:Nat) (s:Bool) (hp:Hp),n<=1000000000000->p<=8*l.length->(s=true/\1<=f)\/8*l.length+1<=f+p->n+f<=1000000000000->hp.rd b 0=some (Rb k l p s)->
 B161_2 (.ptr b 0 0) (.int .i64 (most:Int)) (.int .i64 (n:Int)) hp=some (.sc (.int .i64 ((ru l most f n p s).1:Nat)),hp.put b 0 (Rb k l (ru l most f n p s).2.1 (ru l most f n p s).2.2)):=by
 intro f
 induction f with
 |zero=>intro n p s hp hn hpl hf hnf h;omega
 |succ f ih=>
  intro n p s hp hn hpl hf hnf h
  have bt:=qqc b k l p s hp hl h8 hpl h
  have hrp:=rb_p l p s hpl
  rw[qws]
  unfold ru
  by_cases hb:(rb l p s).1=true
  ·have hb2:(rb l p s).2=(p+1,false):=by
    unfold rb at hb⊢
    by_cases h1:s=true\/8*l.length<=p
    ·rw[if_pos h1]at hb;cases hb
    ·rw[if_neg h1]
   have hs:s=false:=by
    cases s
    ·rfl
    ·exfalso;unfold rb at hb;rw[if_pos (.inl rfl)]at hb;cases hb
   have hlp:p<8*l.length:=by
    by_cases h1:8*l.length<=p
    ·exfalso;unfold rb at hb;rw[if_pos (.inr h1)]at hb;cases hb
    ·omega
   have hf':8*l.length+1<=f+1+p:=by
    rcases hf with⟨h,_⟩|h
    ·rw[hs]at h;cases h
    ·exact h
   rw[hb,hb2]at bt
   rw[hb,hb2]
   have w1:IntKind.i64.wrap ((n:Int)+1)=((n+1:Nat):Int):=qj
   have st:=qs0 b k l (p+1) false (hp.put b 0 (Rb k l (p+1) false)) (qr _ _ _)
   rw[qC]at st
   by_cases hm:most<n+1
   ·have hg:((n+1:Nat):Int)>(most:Int):=qe
    have hi:=ih (n+1) (p+1) true (hp.put b 0 (Rb k l (p+1) true)) qe qe (.inl ⟨rfl,qe⟩) qe (qr _ _ _)
    rw[qC]at hi
    have e:(false||decide (most<n+1))=true:=by simp[hm]
    simp only[e,if_true]
    generalize hq:ru l most f (n+1) (p+1) true=R at*
    have e2:((true.toNat:Nat):Int)=1:=rfl
    rw[e2]at bt
    generalize hq3:((n+1:Nat):Int)=n1 at*
    generalize hp.put b 0 (Rb k l (p+1) false)=hpa at*
    generalize hp.put b 0 (Rb k l (p+1) true)=hpb at*
    simp[bt,w1,hg,st,hi]
   ·have hg:¬(((n+1:Nat):Int)>(most:Int)):=qe
    have hi:=ih (n+1) (p+1) false (hp.put b 0 (Rb k l (p+1) false)) qe qe (.inr qe) qe (qr _ _ _)
    rw[qC]at hi
    have e:(false||decide (most<n+1))=false:=by simp[hm]
    simp only[e,if_true]
    generalize hq:ru l most f (n+1) (p+1) false=R at*
    have e2:((true.toNat:Nat):Int)=1:=rfl
    rw[e2]at bt
    generalize hq3:((n+1:Nat):Int)=n1 at*
    generalize hp.put b 0 (Rb k l (p+1) false)=hpa at*
    have hg':¬((most:Int)<n1):=hg
    simp[bt,w1,hg',hi]
  ·have hb:(rb l p s).1=false:=by simpa using hb
   rw[hb]at bt
   rw[hb]
   have e2:((false.toNat:Nat):Int)=0:=rfl
   rw[e2]at bt
   have sh:=vy b k l (rb l p s).2.1 (rb l p s).2.2 (hp.put b 0 (Rb k l (rb l p s).2.1 (rb l p s).2.2)) (qr _ _ _)
   generalize hq1:(rb l p s).2.2=s2 at*
   generalize hq2:(rb l p s).2.1=p2 at*
   cases s2
   ·simp[bt,sh]
   ·simp[bt,sh]
theorem Wq(h8:∀c∈l,0<=c/\c<256)(most:Nat)(hmost:most<1000000000000)(hpl:p<=8*l.length)(h:hp.rd b 0=some (Rb k l p s)):
 run cxX 161 [.ptr b 0 0,.sc (.int .i64 (most:Int))] hp=some (.sc (.int .i64 ((rU1 l most p s).1:Nat)),hp.put b 0 (Rb k l (rU1 l most p s).2.1 (rU1 l most p s).2.2)):=by
 have t:=qrx b k l hl h8 most hmost (8*l.length+2) 0 p s hp qe hpl qe qe h
 rw[E161]
 unfold rU1
 simp at t
 simp[t]
theorem qu8(h8:∀c∈l,0<=c/\c<256)(s:Bool)(hp:Hp)(h:hp.rd b 0=some (Rb k l p s)):∀(m q:Nat),q+m=8*l.length->
 B179_8 (.ptr b 0 0) (.int .i64 (q:Int)) hp=some (.sc (.int .i64 (if(List.range m).any (fun i=>yr l (q+i))then 15 else 0)),hp):=by
 intro m
 have w1:IntKind.i64.wrap (8*(l.length:Int))=((8*l.length:Nat):Int):=qj
 have gc0:∀(x:AV) (l:List AV),qs (x::l) 0=some x:=fun _ _=>rfl
 have gs0:∀(v:Value),ql [.sc v] 0=some v:=fun _=>rfl
 induction m with
 |zero=>
  intro q hq
  have hlt:¬((q:Int)<((8*l.length:Nat):Int)):=qe
  rw[qei]
  generalize((8*l.length:Nat):Int)=z at*
  simp[h,gc0,w1,hlt]
 |succ m ih=>
  intro q hq
  have hlt:(q:Int)<((8*l.length:Nat):Int):=qe
  have q8:=qgn q qe
  obtain⟨z8,b8,b8'⟩:=bit8 l q h8 qe
  have r8:=qgl q
  have w4:IntKind.i64.wrap (7-((q%8:Nat):Int))=((7-q%8:Nat):Int):=qj
  have ge:(LI .u8 l)[q/8]?=some (.sc (.int .u8 (l.getD (q/8) 0))):=by
   unfold LI
   rw[znt,znb,zng qe]
   rfl
  have g0:(0:Int)<=((q/8:Nat):Int):=qe
  have w2:IntKind.i64.wrap ((q:Int)+1)=((q+1:Nat):Int):=qj
  have hi:=ih (q+1) qe
  have e:(List.range (m+1)).any (fun i=>yr l (q+i))=(yr l q||(List.range m).any (fun i=>yr l (q+1+i))):=by
   rw[List.range_succ_eq_map,List.any_cons,List.any_map]
   congr 2
   funext i
   show yr l (q+(i+1))=_
   congr 1
   omega
  rw[e,qei]
  generalize hcc:l.getD (q/8) 0=c at*
  generalize hrr:((7-q%8:Nat):Int)=r at*
  generalize hq8:((q/8:Nat):Int)=q1 at*
  have ge':(LI .u8 l)[q1.toNat]?=some (.sc (.int .u8 c)):=by rw[<-hq8,znj];exact ge
  generalize((q%8:Nat):Int)=q2 at*
  generalize((8*l.length:Nat):Int)=z at*
  generalize((q+1:Nat):Int)=q9 at*
  generalize(List.range m).any (fun i=>yr l (q+1+i))=A at*
  cases hbb:yr l q
  ·rw[hbb]at b8'
   have b9:∀t x y,qy Tryz.prog .and t x y (.int .u8 z8) (.int .u8 1)=some (.int .u8 0):=b8'
   simp[h,gc0,w1,hlt,q8,g0,ge',gs0,r8,w4,b8,b9,w2,hi,-zk]
  ·rw[hbb]at b8'
   have b9:∀t x y,qy Tryz.prog .and t x y (.int .u8 z8) (.int .u8 1)=some (.int .u8 1):=b8'
   simp[h,gc0,w1,hlt,q8,g0,ge',gs0,r8,w4,b8,b9,-zk]
theorem qzc(h8:∀c∈l,0<=c/\c<256)(hpl:p<=8*l.length)(h:hp.rd b 0=some (Rb k l p s)):
 run cxX 179 [.ptr b 0 0] hp=some (.sc (.int .i64 (qje l p s)),hp):=by
 have t:=qu8 b k l p hl h8 s hp h (8*l.length-p) p qe
 have w1:IntKind.i64.wrap (8*(l.length:Int))=((8*l.length:Nat):Int):=qj
 have w2:IntKind.i64.wrap (((8*l.length:Nat):Int)-(p:Int))=((8*l.length:Nat):Int)-(p:Int):=qj
 have gc0:∀(x:AV) (l:List AV),qs (x::l) 0=some x:=fun _ _=>rfl
 rw[E179]
 unfold qje
 cases s
 ·by_cases h1:p+8<=8*l.length
  ·have hg:8<=((8*l.length:Nat):Int)-(p:Int):=qe
   generalize((8*l.length:Nat):Int)=z at*
   simp[h,ql,gc0,w1,w2,hg,h1]
  ·have hg:¬(8<=((8*l.length:Nat):Int)-(p:Int)):=qe
   generalize((8*l.length:Nat):Int)=z at*
   generalize(List.range (8*l.length-p)).any (fun i=>yr l (p+i))=A at*
   simp[h,ql,gc0,w1,w2,hg,h1,t]
 ·simp[h,ql]
end
theorem qM{l a r:List Int}{p:Nat}(h:l.drop p=a++r):l.drop (p+a.length)=r:=by
 rw[<-List.drop_drop,h,zqg]
theorem qX{l a r:List Int}{p:Nat}(hp:p<=l.length)(h:l.drop p=a++r):p+a.length<=l.length:=by
 have:=congrArg List.length h
 simp at this
 omega
theorem zhg{l r:List Int}{p m most:Nat}(h:l.drop p=uv m++r)(hm:m<=most)(hm2:m<18446744073709551616):rU l p 0 most=(m,p+(uv m).length,0):=by
 have g:=zmd 0 m r 0 0 0 rfl qe (by simpa using hm2) qe
 simp only[Nat.pow_zero,zo2,znk]at g
 unfold rU
 rw[h,g]
 have h1:¬(most<m):=qe
 simp[h1]
theorem ze2{l r:List Int}{p:Nat}{c:Int}(h:l.drop p=c::r):rB l p 0=(c,p+1,0):=by
 obtain⟨e1,e2,hi,e3⟩:=qt h
 unfold rB rL
 have h1:¬(l.length-p=0):=qe
 have h2:l.getD p 0=c:=by rw[znb,e1];rfl
 have h3:(if(0:Int)=0 then l.length-p else 0)=l.length-p:=if_pos rfl
 rw[h3,if_neg h1,h2]
section
variable (b k:Nat)(l:List Int)(hl:l.length<=1000000000)(h8:By l)
include hl h8
theorem zd{p m most:Nat}{r:List Int}(h:l.drop p=uv m++r)(hm:m<=most)(hm2:most<18446744073709551616)(hp:Hp)(hpl:p<=l.length)(hr:hp.rd b 0=some (Rc k l p 0)):
 run cxX 60 [.ptr b 0 0,.sc (.int .u64 (most:Int))] hp=some (.sc (.int .u64 (m:Int)),hp.put b 0 (Rc k l (p+(uv m).length) 0)):=by
 have a:=qce b k l most p 0 hm2 hl h8 hpl hp hr
 rw[zhg h hm qe]at a
 exact a
omit h8 in
theorem zm{p:Nat}{c:Int}{r:List Int}(h:l.drop p=c::r)(hp:Hp)(hpl:p<=l.length)(hr:hp.rd b 0=some (Rc k l p 0)):
 run cxX 63 [.ptr b 0 0] hp=some (.sc (.int .u8 c),hp.put b 0 (Rc k l (p+1) 0)):=by
 have a:=Jt b k l p 0 hp hl hpl hr
 rw[ze2 h]at a
 exact a
theorem VV{p:Nat}{d:Int}{r:List Int}(h:l.drop p=uv (zz d)++r)(h1:-9223372036854775808<=d)(h2:d<9223372036854775808)(hp:Hp)(hpl:p<=l.length)(hr:hp.rd b 0=some (Rc k l p 0)):
 run cxX 116 [.ptr b 0 0] hp=some (.sc (.int .i64 d),hp.put b 0 (Rc k l (p+(uv (zz d)).length) 0)):=by
 have a:=qyr b k l p 0 hl h8 hpl hp hr
 have z:=qb0 h1 h2
 rw[zhg h qe z]at a
 simp only[zd1]at a
 exact a
theorem qr0(cb:Nat)(R C:Int)(hC:1<=C/\C<=256)(cs:List Int)(hcl:cs.length<=4096)(h32:kr cs)(b2:List AV)(hbc:cb≠b)(rest:List Int):∀(r:List Int) (i p:Nat) (last:Int) (hp:Hp),cs.drop i=r->i<=cs.length->(0<=last/\last<4294967296)->
 l.drop p=zV C r i last++rest->p<=l.length->hp.rd b 0=some (Rc k l p 0)->hp.rd cb 0=some (LI .u32 (cs.take i++List.replicate (cs.length-i) 0))->
 ∃hp',B66_7 (.ptr b 0 0) (.int .i64 last) (.int .i64 (cs.length:Int)) (.int .i64 (i:Int)) b2 [.sc (.int .i64 R),.sc (.int .i64 C),.ms cb 0 0 cs.length 1] hp=
  B66_19 b2 [.sc (.int .i64 R),.sc (.int .i64 C),.ms cb 0 0 cs.length 1] hp'/\hp'.rd b 0=some (Rc k l (p+(zV C r i last).length) 0)/\hp'.rd cb 0=some (LI .u32 cs)/\hp'.next=hp.next/\∀c,c≠b->c≠cb->hp'.get c=hp.get c:=by
 intro r
 induction r with
 |nil=>
  intro i p last hp h hil hla hd hpl hr hc
  have h1:=qL h
  have e:i=cs.length:=qe
  subst e
  refine⟨hp,?_,by simpa[zV]using hr,by simpa using hc,rfl,fun _ _ _=>rfl⟩
  have hlt:¬((cs.length:Int)<(cs.length:Int)):=qe
  rw[ql2]
  simp
 |cons x r ih=>
  intro i p last hp h hil hla hd hpl hr hc
  obtain⟨e1,e2,hi,e3⟩:=qt h
  have hx:=h32 x (znm e1)
  obtain⟨lst,hlst⟩:∃lst:Int,lst=if(i:Int)%max C 1=0 then 0 else last:=⟨_,rfl⟩
  have hb:0<=lst/\lst<4294967296:=by rw[hlst];split<;>omega
  have ep:zV C (x::r) i last=uv (zz (x-lst))++zV C r (i+1) x:=by rw[hlst];rfl
  rw[ep,znv]at hd
  have ti:=VV b k l hl h8 hd qe qe hp hpl hr
  have hd2:=qM hd
  have hpl2:=qX hpl hd
  have hlt:(i:Int)<(cs.length:Int):=qe
  have yD:max C 1=C:=qe
  have rm:∀t x y,qy Tryz.prog .rem t x y (.int .i64 (i:Int)) (.int .i64 C)=some (.int .i64 ((i:Int)%max C 1)):=by
   intro t x y
   have:=zez C i t x y
   rw[yD]at this⊢
   exact this
  have w1:IntKind.i64.wrap (lst+(x-lst))=x:=qj
  have w2:IntKind.u32.wrap x=x:=qK hx.1 hx.2
  have w3:IntKind.i64.wrap ((i:Int)+1)=((i+1:Nat):Int):=qj
  have ix:idx cs.length (.int .i64 (i:Int))=some i:=zr .i64 hi
  have hlen:(cs.take i++List.replicate (cs.length-i) 0).length=cs.length:=qi
  have pn:=xC .u32 (cs.take i++List.replicate (cs.length-i) 0) i x qe
  have es:(cs.take i++List.replicate (cs.length-i) 0).set i x=cs.take (i+1)++List.replicate (cs.length-(i+1)) 0:=by
   have a1:cs.take (i+1)=cs.take i++[x]:=by rw[zpi,e1];rfl
   have a2:cs.length-i=(cs.length-(i+1))+1:=qe
   have a3:(cs.take i).length=i:=qi
   rw[a1,a2,zpj,zqp _ _ qe,a3,Nat.sub_self,znv]
   rfl
  rw[es]at pn
  have er:=qW b k l (p+(uv (zz (x-lst))).length) 0 (hp.put b 0 (Rc k l (p+(uv (zz (x-lst))).length) 0)) (qr _ _ _)
  have rc:(hp.put b 0 (Rc k l (p+(uv (zz (x-lst))).length) 0)).rd cb 0=some (LI .u32 (cs.take i++List.replicate (cs.length-i) 0)):=by rw[qB _ _ hbc];exact hc
  obtain⟨hp2,a1,a2,a3,a4,a5⟩:=ih (i+1) (p+(uv (zz (x-lst))).length) x ((hp.put b 0 (Rc k l (p+(uv (zz (x-lst))).length) 0)).put cb 0 (LI .u32 (cs.take (i+1)++List.replicate (cs.length-(i+1)) 0))) e2 hi hx hd2 hpl2
   (by rw[qB _ _ (fun q=>hbc q.symm),qr]) (qr _ _ _)
  refine⟨hp2,?_,by rw[ep,zm9,<-Nat.add_assoc];exact a2,a3,by rw[a4];rfl,fun c c1 c2=>by rw[a5 c c1 c2];simp[Hp.put,c1,c2]⟩
  have hms:∀a b c d e,zg (.ms a b c d e)=some (a,b,c,d,e):=fun _ _ _ _ _=>rfl
  have b11:B66_11 (.ptr b 0 0) (.int .i64 lst) (.int .i64 (i:Int)) (.int .i64 (cs.length:Int)) (.int .i64 (i:Int)) b2 [.sc (.int .i64 R),.sc (.int .i64 C),.ms cb 0 0 cs.length 1] hp=
   B66_19 b2 [.sc (.int .i64 R),.sc (.int .i64 C),.ms cb 0 0 cs.length 1] hp2:=by
   rw[<-a1,qvn]
   have c1:¬(x<0):=qe
   have c2:¬((4294967295:Int)<x):=qe
   have c3:¬(x-lst< -4294967296):=qe
   have c4:¬((4294967296:Int)<x-lst):=qe
   generalize cs.take (i+1)++List.replicate (cs.length-(i+1)) 0=L1 at*
   generalize cs.take i++List.replicate (cs.length-i) 0=L0 at*
   generalize hp.put b 0 (Rc k l (p+(uv (zz (x-lst))).length) 0)=hpA at*
   generalize((i+1:Nat):Int)=I at*
   clear hlst ep hd hd2 hpl2 a1
   generalize x-lst=D at*
   simp[ti,w1,c1,c2,c3,c4,qvm,qvl,er,qs,qrm,w2,hms,ix,rc,pn,w3]
  rw[ql2]
  by_cases h0:(i:Int)%max C 1=0
  ·have el:lst=0:=by rw[hlst,if_pos h0]
   rw[el]at b11
   simp[hlt,ql,rm,h0,b11]
  ·have el:lst=last:=by rw[hlst,if_neg h0]
   rw[el]at b11
   simp[hlt,ql,rm,h0,b11]
end
def vJ(k:Nat):Prop:=k<18446744073709551616/\kw (wk k)=k
theorem WT{w:Nat}(h:w<18446744073709551616):vJ (kw w):=⟨Qq w h,qj4 w h⟩
theorem Yl(b key:Nat)(hk:vJ key)(hp:Hp):run cxX 130 [.ptr b 0 0,.sc (.int .u64 (key:Int))] hp=some (fl (wk key),hp):=by
 have o:=qyv key hk.1 hp0
 have e:zaj key=true:=decide_eq_true hk.2
 rw[e]at o
 obtain⟨F,hF⟩:∃F,fl (wk key)= .sc F:=⟨_,rfl⟩
 rw[hF]at o⊢
 rw[E130]
 simp[o,qxd]
section
variable (b k:Nat)(l:List Int)(hl:l.length<=1000000000)(h8:By l)
include hl h8
theorem qrz(K M e0 e1 e2 e3 e4 e5:Int)(lo hi:AV)(b2:List AV)(n:Nat)(rest:List Int):∀(r:List Nat) (i p last:Nat) (acc:List Nat) (hp:Hp),i+r.length=n->n<=17->zO (last::r)->(∀x∈r,vJ x)->acc.length<=i->
 l.drop p=jO last r++rest->p<=l.length->hp.rd b 0=some (Rc k l p 0)->
 B67_11 (.ptr b 0 0) (.int .u64 (last:Int)) (.int .i64 (n:Int)) (.int .i64 (i:Int)) b2 [.sc (.int .i64 K),.sc (.int .u32 M),.sc (.int .u32 e0),.sc (.int .u32 e1),.sc (.int .u32 e2),.sc (.int .u32 e3),.sc (.int .u32 e4),.sc (.int .u32 e5),lo,hi,S 2 1 (LF acc)] hp=
  B67_11 (.ptr b 0 0) (.int .u64 ((last::r).getLastD 0:Nat)) (.int .i64 (n:Int)) (.int .i64 (n:Int)) b2 [.sc (.int .i64 K),.sc (.int .u32 M),.sc (.int .u32 e0),.sc (.int .u32 e1),.sc (.int .u32 e2),.sc (.int .u32 e3),.sc (.int .u32 e4),.sc (.int .u32 e5),lo,hi,S 2 1 (LF (acc++r.map wk))] (hp.put b 0 (Rc k l (p+(jO last r).length) 0)):=by
 intro r
 induction r with
 |nil=>
  intro i p last acc hp hi hn hf hk ha hd hpl hr
  have e:i=n:=by simpa using hi
  subst e
  simp[jO,jm hr]
 |cons x r ih=>
  intro i p last acc hp hi hn hf hk ha hd hpl hr
  simp only[zna]at hi
  have hx:=hk x qg
  have ep:jO last (x::r)=uv (x-last)++jO x r:=rfl
  rw[ep,znv]at hd
  have hle:last<=x:=hf.1
  have tu:=zd b k l hl h8 (most:=18446744073709551615) hd (by have:=hx.1;omega) qe hp hpl hr
  have hd2:=qM hd
  have hpl2:=qX hpl hd
  have fl1:=fun hp=>Yl b x hx hp
  have w1:IntKind.u64.wrap ((last:Int)+((x-last:Nat):Int))=(x:Int):=by have:=hx.1;rw[qu]<;>omega
  have w2:IntKind.i64.wrap ((i:Int)+1)=((i+1:Nat):Int):=qj
  have hlt:(i:Int)<(n:Int):=qe
  have hxl:¬((x:Int)<(last:Int)):=qe
  have hi2:=ih (i+1) (p+(uv (x-last)).length) x (acc++[wk x]) (hp.put b 0 (Rc k l (p+(uv (x-last)).length) 0)) qe hn hf.2 (fun y hy=>hk y (by simp[hy])) qi hd2 hpl2 (qr _ _ _)
  rw[qC]at hi2
  have eg:(last::x::r).getLastD 0=(x::r).getLastD 0:=rfl
  have em:acc++(x::r).map wk=acc++[wk x]++r.map wk:=qg
  rw[eg,em,ep,zm9,<-Nat.add_assoc,<-hi2,qd3]
  have ap:=appF acc (wk x) qe
  have lit:((18446744073709551615:Nat):Int)=18446744073709551615:=rfl
  rw[lit]at tu
  generalize hp.put b 0 (Rc k l (p+(uv (x-last)).length) 0)=hpA at*
  generalize((x-last:Nat):Int)=D at*
  generalize((i+1:Nat):Int)=I at*
  generalize LF (acc++[wk x])=L1 at*
  generalize LF acc=L0 at*
  simp[hlt,tu,w1,hxl,qvj,qs,fl1,yC,ap,qo,w2]
theorem qyl(K:Int)(hK:0<=K/\K<256)(g:GN)(gp:g.Pos)(hlo:vJ g.lo)(hhi:vJ g.hi)(hL:∀x∈g.L,vJ x)(hf:zO g.L)(hn:g.L.length<=16)(p:Nat)(rest:List Int)(hd:l.drop p=yE K g++rest)(hp:Hp)(hpl:p<=l.length)(hr:hp.rd b 0=some (Rc k l p 0)):
 run cxX 67 [.ptr b 0 0] hp=some (.agg [.sc (.int .i64 K),.sc (.int .u32 g.M),.sc (.int .u32 g.e0),.sc (.int .u32 g.e1),.sc (.int .u32 g.e2),.sc (.int .u32 g.e3),.sc (.int .u32 g.e4),.sc (.int .u32 g.e5),fl (wk g.lo),fl (wk g.hi),S 2 1 (LF (g.L.map wk))],hp.put b 0 (Rc k l (p+(yE K g).length) 0)):=by
 obtain⟨pM,p0,p1,p2,p3,p4,p5⟩:=gp
 have lit:((4294967295:Nat):Int)=4294967295:=rfl
 have lit2:((18446744073709551615:Nat):Int)=18446744073709551615:=rfl
 have c32:∀n:Int,zy n->IntKind.u32.wrap ((n.toNat:Nat):Int)=n/\n.toNat<=4294967295:=fun n hn=>by
  have:=hn.2;have:=hn.1
  exact⟨by rw[qK]<;>omega,qe⟩
 have eq:yE K g++rest=K::(uv g.M.toNat++(uv g.e0.toNat++(uv g.e1.toNat++(uv g.e2.toNat++(uv g.e3.toNat++(uv g.e4.toNat++(uv g.e5.toNat++(uv g.lo++(uv g.hi++((g.L.length:Int)::(jO 0 g.L++rest))))))))))):=by
  unfold yE;simp
 rw[eq]at hd
 have t0:=zm b k l hl hd hp hpl hr
 obtain⟨_,d0,hi0,_⟩:=qt hd
 have h1:=zd b k l hl h8 (most:=4294967295) d0 (c32 _ pM).2 qe (hp.put b 0 (Rc k l (p+1) 0)) qe (qr _ _ _)
 rw[qC,lit]at h1
 have d1:=qM d0
 have q1:=qX qe d0
 generalize e1:p+1+(uv g.M.toNat).length=P1 at*
 have h2:=zd b k l hl h8 (most:=4294967295) d1 (c32 _ p0).2 qe (hp.put b 0 (Rc k l P1 0)) q1 (qr _ _ _)
 rw[qC,lit]at h2
 have d2:=qM d1
 have q2:=qX q1 d1
 generalize e2:P1+(uv g.e0.toNat).length=P2 at*
 have h3:=zd b k l hl h8 (most:=4294967295) d2 (c32 _ p1).2 qe (hp.put b 0 (Rc k l P2 0)) q2 (qr _ _ _)
 rw[qC,lit]at h3
 have d3:=qM d2
 have q3:=qX q2 d2
 generalize e3:P2+(uv g.e1.toNat).length=P3 at*
 have h4:=zd b k l hl h8 (most:=4294967295) d3 (c32 _ p2).2 qe (hp.put b 0 (Rc k l P3 0)) q3 (qr _ _ _)
 rw[qC,lit]at h4
 have d4:=qM d3
 have q4:=qX q3 d3
 generalize e4:P3+(uv g.e2.toNat).length=P4 at*
 have h5:=zd b k l hl h8 (most:=4294967295) d4 (c32 _ p3).2 qe (hp.put b 0 (Rc k l P4 0)) q4 (qr _ _ _)
 rw[qC,lit]at h5
 have d5:=qM d4
 have q5:=qX q4 d4
 generalize e5:P4+(uv g.e3.toNat).length=P5 at*
 have h6:=zd b k l hl h8 (most:=4294967295) d5 (c32 _ p4).2 qe (hp.put b 0 (Rc k l P5 0)) q5 (qr _ _ _)
 rw[qC,lit]at h6
 have d6:=qM d5
 have q6:=qX q5 d5
 generalize e6:P5+(uv g.e4.toNat).length=P6 at*
 have h7:=zd b k l hl h8 (most:=4294967295) d6 (c32 _ p5).2 qe (hp.put b 0 (Rc k l P6 0)) q6 (qr _ _ _)
 rw[qC,lit]at h7
 have d7:=qM d6
 have q7:=qX q6 d6
 generalize e7:P6+(uv g.e5.toNat).length=P7 at*
 have h8':=zd b k l hl h8 (most:=18446744073709551615) d7 (by have:=hlo.1;omega) qe (hp.put b 0 (Rc k l P7 0)) q7 (qr _ _ _)
 rw[qC,lit2]at h8'
 have d8:=qM d7
 have q8:=qX q7 d7
 generalize e8:P7+(uv g.lo).length=P8 at*
 have h9:=zd b k l hl h8 (most:=18446744073709551615) d8 (by have:=hhi.1;omega) qe (hp.put b 0 (Rc k l P8 0)) q8 (qr _ _ _)
 rw[qC,lit2]at h9
 have d9:=qM d8
 have q9:=qX q8 d8
 generalize e9:P8+(uv g.hi).length=P9 at*
 have h10:=zm b k l hl d9 (hp.put b 0 (Rc k l P9 0)) q9 (qr _ _ _)
 rw[qC]at h10
 obtain⟨_,d10,hi10,_⟩:=qt d9
 have f1:=fun hp=>Yl b g.lo hlo hp
 have f2:=fun hp=>Yl b g.hi hhi hp
 have lp:=fun b2=>qrz b k l hl h8 K g.M g.e0 g.e1 g.e2 g.e3 g.e4 g.e5 (fl (wk g.lo)) (fl (wk g.hi)) b2 g.L.length rest g.L 0 (P9+1) 0 [] (hp.put b 0 (Rc k l (P9+1) 0)) qe qe (jI hf) hL qg d10 qe (qr _ _ _)
 have eP:p+(yE K g).length=P9+1+(jO 0 g.L).length:=by
  unfold yE
  simp only[zm9,znl]
  omega
 rw[eP]
 simp only[qC,zn4]at lp
 have wK:IntKind.i64.wrap K=K:=qm qe qe
 have wL:IntKind.i64.wrap (g.L.length:Int)=(g.L.length:Int):=qm qe qe
 have mL:min (g.L.length:Int) 17=(g.L.length:Int):=qe
 have x1:=(c32 _ pM).1
 have x2:=(c32 _ p0).1
 have x3:=(c32 _ p1).1
 have x4:=(c32 _ p2).1
 have x5:=(c32 _ p3).1
 have x6:=(c32 _ p4).1
 have x7:=(c32 _ p5).1
 have i0:idx 6 (.int .i64 0)=some 0:=qf
 have i1:idx 6 (.int .i64 1)=some 1:=qf
 have i2:idx 6 (.int .i64 2)=some 2:=qf
 have i3:idx 6 (.int .i64 3)=some 3:=qf
 have i4:idx 6 (.int .i64 4)=some 4:=qf
 have i5:idx 6 (.int .i64 5)=some 5:=qf
 clear lit lit2 c32 eq hd d0 d1 d2 d3 d4 d5 d6 d7 d8 d9 d10
 have nlt:¬((g.L.length:Int)<(g.L.length:Int)):=qe
 have fin:=fun b2 (hb2:b2=[.sc (.int .i64 0),.sc (.int .u32 0),.sc (.int .u32 0),.sc (.int .u32 0),.sc (.int .u32 0),.sc (.int .u32 0),.sc (.int .u32 0),.sc (.int .u32 0),.sc (.float .f64 0),.sc (.float .f64 0),S 2 1 []])=>(lp b2).trans (show _=some (AV.agg [.sc (.int .i64 K),.sc (.int .u32 g.M),.sc (.int .u32 g.e0),.sc (.int .u32 g.e1),.sc (.int .u32 g.e2),.sc (.int .u32 g.e3),.sc (.int .u32 g.e4),.sc (.int .u32 g.e5),fl (wk g.lo),fl (wk g.hi),S 2 1 (LF (g.L.map wk))],hp.put b 0 (Rc k l (P9+1+(jO 0 g.L).length) 0))from by
  subst hb2
  rw[qd3]
  simp[qp,qo])
 generalize hp.put b 0 (Rc k l (P9+1+(jO 0 g.L).length) 0)=HZ at*
 generalize hp.put b 0 (Rc k l (P9+1) 0)=H10 at*
 generalize hp.put b 0 (Rc k l P9 0)=H9 at*
 generalize hp.put b 0 (Rc k l P8 0)=H8 at*
 generalize hp.put b 0 (Rc k l P7 0)=H7 at*
 generalize hp.put b 0 (Rc k l P6 0)=H6 at*
 generalize hp.put b 0 (Rc k l P5 0)=H5 at*
 generalize hp.put b 0 (Rc k l P4 0)=H4 at*
 generalize hp.put b 0 (Rc k l P3 0)=H3 at*
 generalize hp.put b 0 (Rc k l P2 0)=H2 at*
 generalize hp.put b 0 (Rc k l P1 0)=H1 at*
 generalize hp.put b 0 (Rc k l (p+1) 0)=H0 at*
 have fin:=fin _ rfl
 generalize((g.M.toNat:Nat):Int)=m0 at*
 generalize((g.e0.toNat:Nat):Int)=m1 at*
 generalize((g.e1.toNat:Nat):Int)=m2 at*
 generalize((g.e2.toNat:Nat):Int)=m3 at*
 generalize((g.e3.toNat:Nat):Int)=m4 at*
 generalize((g.e4.toNat:Nat):Int)=m5 at*
 generalize((g.e5.toNat:Nat):Int)=m6 at*
 rw[E67]
 simp[t0,jW,wK,h1,jK,x1]
 rw[wj]
 simp[h2,jK,x2,i0,qo]
 rw[wj]
 simp[h3,jK,x3,i1,qo]
 rw[wj]
 simp[h4,jK,x4,i2,qo]
 rw[wj]
 simp[h5,jK,x5,i3,qo]
 rw[wj]
 simp[h6,jK,x6,i4,qo]
 rw[wj]
 simp[h7,jK,x7,i5,qo]
 rw[wj]
 simp at fin
 simp[h8',f1,qo,h9,f2,h10,jW,wL,mL]
 exact fin
end
section
variable (b k:Nat)(l:List Int)(hl:l.length<=1000000000)(h8:By l)
include hl h8
theorem qym(R C:Int)(hR:1<=R/\R<=8)(hC:1<=C/\C<=256)(cs:List Int)(hcs:(cs.length:Int)=R*C)(h32:kr cs)(p:Nat)(rest:List Int)(hd:l.drop p=[R]++uv C.toNat++zV C cs 0 0++rest)(hp:Hp)(hpl:p<=l.length)(hb:b<hp.next)(hr:hp.rd b 0=some (Rc k l p 0)):
 ∃hp',run cxX 66 [.ptr b 0 0] hp=some (.agg [.sc (.int .i64 R),.sc (.int .i64 C),S 0 1 (LI .u32 cs)],hp')/\hp'.rd b 0=some (Rc k l (p+([R]++uv C.toNat++zV C cs 0 0).length) 0)/\Fm [b] hp hp':=by
 have m:=qku hR hC
 have eq:[R]++uv C.toNat++zV C cs 0 0++rest=R::(uv C.toNat++(zV C cs 0 0++rest)):=qg
 have el:p+([R]++uv C.toNat++zV C cs 0 0).length=p+1+(uv C.toNat).length+(zV C cs 0 0).length:=by simp only[zm9,znl];omega
 rw[eq]at hd
 rw[el]
 have t0:=zm b k l hl hd hp hpl hr
 obtain⟨_,d0,hi0,_⟩:=qt hd
 have t1:=zd b k l hl h8 (most:=256) d0 qe qe (hp.put b 0 (Rc k l (p+1) 0)) qe (qr _ _ _)
 rw[qC]at t1
 have d1:=qM d0
 have q1:=qX qe d0
 have cn:=qi0 R C hR hC (hp.put b 0 (Rc k l (p+1+(uv C.toNat).length) 0))
 have hne:hp.next≠b:=qe
 have ecs:(R*C).toNat=cs.length:=qe
 rw[ecs]at cn
 obtain⟨hp2,a1,a2,a3,a4,a5⟩:=qr0 b k l hl h8 hp.next R C hC cs qe h32 [.sc (.int .i64 0),.sc (.int .i64 0),S 2 1 []] hne rest cs 0 (p+1+(uv C.toNat).length) 0 ((hp.put b 0 (Rc k l (p+1+(uv C.toNat).length) 0)).new (LI .u32 (List.replicate cs.length 0))) rfl qe qe d1 q1
  (by rw[zH _ _ qi,qr]) (by rw[List.take_zero,zn4,zry];exact qT (hp.put b 0 _) _)
 have fz:=Zg .u32 cs hp2 hp.next a3
 refine⟨hp2.del hp.next,?_,?_,by rw[show(hp2.del hp.next).next=hp2.next from rfl,a4];simp,fun c hc hcb=>?_⟩
 ·have w1:IntKind.i64.wrap R=R:=qm qe qe
  have w2:IntKind.i64.wrap ((C.toNat:Nat):Int)=C:=qj
  have lit:((256:Nat):Int)=256:=rfl
  rw[lit]at t1
  have b19:B66_19 [.sc (.int .i64 0),.sc (.int .i64 0),S 2 1 []] [.sc (.int .i64 R),.sc (.int .i64 C),.ms hp.next 0 0 cs.length 1] hp2=some (.agg [.sc (.int .i64 R),.sc (.int .i64 C),S 0 1 (LI .u32 cs)],hp2.del hp.next):=by
   rw[qvk]
   simp[qp,qo,fz]
  rw[<-a1]at b19
  have hln:∀a b c d e,xU (.ms a b c d e)=some d:=fun _ _ _ _ _=>rfl
  rw[E66]
  generalize((C.toNat:Nat):Int)=Cc' at*
  generalize List.replicate cs.length 0=Z at*
  simp only[qjw]at cn
  simp only[Int.natCast_zero]at b19
  generalize hp.put b 0 (Rc k l (p+1+(uv C.toNat).length) 0)=H1 at*
  generalize hp.put b 0 (Rc k l (p+1) 0)=H0 at*
  try simp at b19
  simp[t0,jW,w1,t1,xI,w2,cn,qo,qs,hln,b19]
 ·have:b≠hp.next:=fun q=>hne q.symm
  have e:(hp2.del hp.next).get b=hp2.get b:=by simp[Hp.del,this]
  rw[xO e];exact a2
 ·have h1:c≠hp.next:=qe
  have h2:c≠b:=by simpa using hcb
  have e:(hp2.del hp.next).get c=hp2.get c:=by simp[Hp.del,h1]
  rw[e,a5 c h2 h1]
  simp[Hp.new,Hp.put,h1,h2]
end
def At(l:List Int)(p:Nat)(bs:List Bool):Prop:=p+bs.length<=8*l.length/\∀i,i<bs.length->yr l (p+i)=bs.getD i false
theorem At.pk(bs:List Bool):At (pk bs) 0 bs:=⟨by rw[zZ];omega,fun i hi=>by rw[znk];exact qk4 bs i hi⟩
theorem At.app{l:List Int}{p:Nat}{a c:List Bool}(h:At l p (a++c)):At l p a/\At l (p+a.length) c:=by
 obtain⟨h1,h2⟩:=h
 simp only[zm9]at h1 h2
 refine⟨⟨qe,fun i hi=>?_⟩,⟨qe,fun i hi=>?_⟩⟩
 ·rw[h2 i qe,znb,znb,zn3 hi]
 ·rw[zoz,h2 (a.length+i) qe,znb,znb,zny qe]
  congr 2
  omega
theorem At.cons{l:List Int}{p:Nat}{a:Bool}{c:List Bool}(h:At l p (a::c)):rb l p false=(a,p+1,false)/\At l (p+1) c:=by
 have h':At l p ([a]++c):=h
 have g:=h'.app
 refine⟨?_,by simpa using g.2⟩
 have h1:=h.1
 simp only[zna]at h1
 have h2:=h.2 0 qg
 unfold rb
 rw[if_neg qi]
 simp at h2
 rw[h2]
theorem zhe(l:List Int)(n:Nat):∀(k acc p:Nat),At l p (ko n k)->rt l k acc p false=(acc*2^k+n%2^k,p+k,false):=by
 intro k
 induction k with
 |zero=>intro acc p h;show(if false then 0 else acc,p,false)=_;simp[Nat.mod_one]
 |succ k ih=>
  intro acc p h
  have c:=At.cons (show At l p (n.testBit k::ko n k)from h)
  have i:=ih (2*acc+(n.testBit k).toNat) (p+1) c.2
  show rt l k (2*acc+(rb l p false).1.toNat) (rb l p false).2.1 (rb l p false).2.2=_
  rw[c.1]
  show rt l k (2*acc+(n.testBit k).toNat) (p+1) false=_
  rw[i]
  have e1:=Nat.mod_mul (x:=n) (a:=2^k) (b:=2)
  have e2:(n.testBit k).toNat=n/2^k%2:=by
   rw[zpd]
   have:n/2^k%2=0\/n/2^k%2=1:=qe
   rcases this with e|e<;>rw[e]<;>rfl
  refine Prod.ext ?_ (Prod.ext (by show p+1+k=p+(k+1);omega) rfl)
  show(2*acc+(n.testBit k).toNat)*2^k+n%2^k=acc*2^(k+1)+n%2^(k+1)
  rw[zo4,e1,e2,zpy,zof 2 acc,zo8 acc,zof 2 (2^k),zof (n/2^k%2) (2^k)]
  omega
theorem zlt(l:List Int)(most:Nat):∀(q f n p:Nat),At l p (una q)->n+q<=most->q+1<=f->ru l most f n p false=(n+q,p+q+1,false):=by
 intro q
 induction q with
 |zero=>
  intro f n p h hm hf
  obtain⟨f,rfl⟩:∃f',f=f'+1:=⟨f-1,qe⟩
  have c:=At.cons (show At l p (false::[])from h)
  unfold ru
  rw[c.1]
  rfl
 |succ q ih=>
  intro f n p h hm hf
  obtain⟨f,rfl⟩:∃f',f=f'+1:=⟨f-1,qe⟩
  have c:=At.cons (show At l p (true::una q)from h)
  have i:=ih f (n+1) (p+1) c.2 qe qe
  unfold ru
  rw[c.1]
  have e:(false||decide (most<n+1))=false:=qi
  show(if true=true then ru l most f (n+1) (p+1) (false||decide (most<n+1))else _)=_
  rw[if_pos rfl,e,i]
  refine Prod.ext (by show n+1+q=n+(q+1);omega) (Prod.ext (by show p+1+q+1=p+(q+1)+1;omega) rfl)
theorem qzi{l:List Int}{most q p:Nat}(h:At l p (una q))(hm:q<=most):rU1 l most p false=(q,p+q+1,false):=by
 have h1:=h.1
 rw[YL]at h1
 have:=zlt l most q (8*l.length+2) 0 p h qe qe
 rw[znk]at this
 exact this
theorem zg5(bs:List Bool):qje (pk bs) bs.length false=0:=by
 have hz:∀i,yr (pk bs) (bs.length+i)=false:=fun i=>XB bs _ qe
 have hany:(List.range (8*(pk bs).length-bs.length)).any (fun i=>yr (pk bs) (bs.length+i))=false:=by
  rw[List.any_eq_false]
  intro i _
  rw[hz i];decide
 unfold qje
 rw[hany,zZ,if_neg qh,if_neg qe,if_neg qh]
abbrev Cu(br kk zU i last:Nat):List AV:=[.ptr br 0 0,.sc (.int .i64 (kk:Int)),.sc (.int .i64 (zU:Int)),.sc (.int .i64 (i:Int)),.sc (.int .u64 (last:Int)),.sc (.bool false)]
theorem qcr(c br kk zU i last:Nat)(hi:i<=zU)(hm:zU<=100000)(hp:Hp)(h:hp.rd c 0=some (Cu br kk zU i last)):run cxX 160 [.ptr c 0 0] hp=some (.sc (.int .i64 ((zU-i:Nat):Int)),hp):=by
 have gs5:∀(x0 x1 x2 x3 x4:AV) (v:Value),ql [x0,x1,x2,x3,x4,.sc v] 5=some v:=fun _ _ _ _ _ _=>rfl
 have gs2:∀(x0 x1:AV) (v:Value) (r:List AV),ql (x0::x1::.sc v::r) 2=some v:=fun _ _ _ _=>rfl
 have gs3:∀(x0 x1 x2:AV) (v:Value) (r:List AV),ql (x0::x1::x2::.sc v::r) 3=some v:=fun _ _ _ _ _=>rfl
 have w1:IntKind.i64.wrap ((zU:Int)-(i:Int))=((zU-i:Nat):Int):=qj
 simp only[Cu]at h
 rw[E160]
 generalize((zU-i:Nat):Int)=D at*
 simp[h,gs5,qwt,gs2,gs3,w1]
theorem qh8(x k:Nat)(hk:k<=64)(h:x*2^k<18446744073709551616)(t:TypeId)(o o':Operand):qy Tryz.prog .shl t o o' (.int .u64 (x:Int)) (.int .i64 (k:Int))=some (.int .u64 ((x*2^k:Nat):Int)):=by
 rw[zW _ _ _ _ _ _ _ _ qe,znj,zp5 (show k<=IntKind.u64.bits from hk)]
 have e:(x:Int)*(2:Int)^k=((x*2^k:Nat):Int):=qg
 rw[e]
 generalize x*2^k=z at*
 rw[qu qe qe]
theorem qzx(q k g:Nat)(hq:q=g/2^k)(hg:g<18446744073709551616)(t:TypeId)(o o':Operand):qy Tryz.prog .or t o o' (.int .u64 ((q*2^k:Nat):Int)) (.int .u64 ((g%2^k:Nat):Int))=some (.int .u64 (g:Int)):=by
 have h1:q*2^k<=g:=by rw[hq];exact zop _ _
 have h2:g%2^k<=g:=Nat.mod_le _ _
 rw[zfi _ _ qe qe]
 have e:=zpu (i:=k) (b:=g%2^k) (zqa _ (zpk _)) q
 rw[zof (2^k) q]at e
 rw[<-e,hq,Nat.div_add_mod']
section
variable (c br kk zU:Nat)(t:Nat)(bl:List Int)(hkk:kk<=63)(hm:zU<=100000)(hbl:bl.length<=100000000)(h8:By bl)(hne:c≠br)
include hkk hm hbl h8 hne
theorem qcq(i last g x q:Nat)(hi:i<zU)(hg:g<18446744073709551616)(hg2:g/2^kk<=4096)(hx:x<18446744073709551616)(hxg:x=if i=0 then g else last+1+g)(hp:Hp)(h:hp.rd c 0=some (Cu br kk zU i last))(hr:hp.rd br 0=some (Rb t bl q false))(hat:At bl q (una (g/2^kk)++ko g kk)):
 run cxX 102 [.ptr c 0 0] hp=some (.tup [.sc (.int .u64 (x:Int)),.sc (.bool true)],(hp.put br 0 (Rb t bl (q+(una (g/2^kk)++ko g kk).length) false)).put c 0 (Cu br kk zU (i+1) x)):=by
 have lf:=qcr c br kk zU i last qe hm hp h
 have hmul:g/2^kk*2^kk<=g:=zop _ _
 have os:=qzx (g/2^kk) kk g rfl hg
 obtain⟨a1,a2⟩:=hat.app
 have hle:=hat.1
 rw[zm9,YL,qg1]at hle⊢
 generalize g/2^kk=G at*
 have un:=Wq br t bl q false hp hbl h8 4096 qe qe hr
 rw[qzi a1 hg2]at un
 rw[YL]at a2
 have tk:=qct br t bl (q+(G+1)) false (hp.put br 0 (Rb t bl (q+(G+1)) false)) hbl h8 kk qe qe (qr _ _ _)
 rw[zhe bl g kk 0 _ a2,zqb,znk,qC]at tk
 simp only at un tk
 have sh:=vy br t bl (q+(G+1)+kk) false (hp.put br 0 (Rb t bl (q+(G+1)+kk) false)) (qr _ _ _)
 have e1:q+G+1=q+(G+1):=qe
 have e2:q+(G+1+kk)=q+(G+1)+kk:=qe
 rw[e1]at un
 rw[e2]
 have sl:=fun t o o'=>qh8 G kk qe (zow hmul hg) t o o'
 have sr:=fun t o o'=>xh .u64 (G*2^kk) kk (by show kk<=64;omega) t o o' .i64
 have ed:G*2^kk/2^kk=G:=zrs _ (zpk _)
 rw[ed]at sr
 have rA:∀p,(hp.put br 0 (Rb t bl p false)).rd c 0=some (Cu br kk zU i last):=fun p=>by rw[qB _ _ hne];exact h
 have r2:=rA (q+(G+1))
 have r3:=rA (q+(G+1)+kk)
 have gs1:∀(x0:AV) (v:Value) (r:List AV),ql (x0::.sc v::r) 1=some v:=fun _ _ _=>rfl
 have gs3:∀(x0 x1 x2:AV) (v:Value) (r:List AV),ql (x0::x1::x2::.sc v::r) 3=some v:=fun _ _ _ _ _=>rfl
 have gs4:∀(x0 x1 x2 x3:AV) (v:Value) (r:List AV),ql (x0::x1::x2::x3::.sc v::r) 4=some v:=fun _ _ _ _ _ _=>rfl
 have gc0:∀(x:AV) (l:List AV),qs (x::l) 0=some x:=fun _ _=>rfl
 have p3:∀(x0 x1 x2 x3 x4 x5 z:AV),qo [x0,x1,x2,x3,x4,x5] 3 [z]=some [x0,x1,x2,z,x4,x5]:=fun _ _ _ _ _ _ _=>rfl
 have p4:∀(x0 x1 x2 x3 x4 x5 z:AV),qo [x0,x1,x2,x3,x4,x5] 4 [z]=some [x0,x1,x2,x3,z,x5]:=fun _ _ _ _ _ _ _=>rfl
 have wq:IntKind.u64.wrap ((G:Nat):Int)=((G:Nat):Int):=(fun(z:Nat) (hz:z<=4096)=>qu (z:=(z:Int)) qe qe) _ hg2
 have wi:IntKind.i64.wrap ((i:Int)+1)=((i+1:Nat):Int):=qj
 have lit:((4096:Nat):Int)=4096:=rfl
 rw[lit]at un
 have hz:¬(zU-i=0):=qe
 generalize hp.put br 0 (Rb t bl (q+(G+1)+kk) false)=H2 at*
 generalize hp.put br 0 (Rb t bl (q+(G+1)) false)=H1 at*
 generalize((G*2^kk:Nat):Int)=qk at*
 generalize((G:Nat):Int)=qq at*
 generalize((g%2^kk:Nat):Int)=gl at*
 simp only[Cu]at h r2 r3⊢
 have b12:B102_12 (.ptr c 0 0) (.int .u64 (x:Int)) H2=some (.tup [.sc (.int .u64 (x:Int)),.sc (.bool true)],H2.put c 0 [.ptr br 0 0,.sc (.int .i64 (kk:Int)),.sc (.int .i64 (zU:Int)),.sc (.int .i64 ((i+1:Nat):Int)),.sc (.int .u64 (x:Int)),.sc (.bool false)]):=by
  rw[qpx]
  generalize((i+1:Nat):Int)=I at*
  simp[r3,gs3,wi,p3,qr,p4,qC]
 generalize((i+1:Nat):Int)=I at*
 rw[E102]
 by_cases h0:i=0
 ·rw[if_pos h0]at hxg
  have hi0:((0:Int)<(i:Int))=False:=by simp[h0]
  have hi0':(0<i)=False:=by simp[h0]
  have b9:B102_9 (.ptr c 0 0) (.int .u64 qq) (.int .u64 (x:Int)) H2=some (.tup [.sc (.int .u64 (x:Int)),.sc (.bool true)],H2.put c 0 [.ptr br 0 0,.sc (.int .i64 (kk:Int)),.sc (.int .i64 (zU:Int)),.sc (.int .i64 I),.sc (.int .u64 (x:Int)),.sc (.bool false)]):=by
   rw[qft]
   simp[r3,gc0,sh,gs1,sl,sr,gs3,hi0',b12]
  rw[hxg]at b9
  rw[hxg]
  simp[lf,hz,h,gc0,un,yq,wq,r2,gs1,tk,r3,sl,os,gs3,hi0',b9]
 ·rw[if_neg h0]at hxg
  have hi0':0<i:=qe
  have wa:IntKind.u64.wrap ((last:Int)+1)=((last+1:Nat):Int):=by rw[qu]<;>omega
  have wb:IntKind.u64.wrap (((last+1:Nat):Int)+(g:Int))=(x:Int):=by rw[qu]<;>omega
  have hxl:¬(x<=last):=qe
  have b9:B102_9 (.ptr c 0 0) (.int .u64 qq) (.int .u64 (x:Int)) H2=some (.tup [.sc (.int .u64 (x:Int)),.sc (.bool true)],H2.put c 0 [.ptr br 0 0,.sc (.int .i64 (kk:Int)),.sc (.int .i64 (zU:Int)),.sc (.int .i64 I),.sc (.int .u64 (x:Int)),.sc (.bool false)]):=by
   rw[qft]
   simp[r3,gc0,sh,gs1,sl,sr,gs3,hi0',gs4,hxl,b12]
  generalize((last+1:Nat):Int)=L1 at*
  simp[lf,hz,h,gc0,un,yq,wq,r2,gs1,tk,r3,sl,os,gs3,hi0',gs4,wa,wb,b9]
end
section
variable (b c br kk t:Nat)(bl:List Int)(hs:List Nat)(hkk:kk<=63)(hm:hs.length<=4096)(hbl:bl.length<=100000000)(h8:By bl)(hne:c≠br)(h64:∀x∈hs,x<18446744073709551616)(hr:qN hs)(hq:∀g∈qw hs,g/2^kk<=4096)
include hkk hm hbl h8 hne h64 hr hq
theorem qnk:∀(r:List Nat) (i q:Nat) (hp:Hp),hs.drop i=r->i+r.length=hs.length->hp.rd c 0=some (Cu br kk hs.length i (if i=0 then 0 else hs.getD (i-1) 0))->hp.rd br 0=some (Rb t bl q false)->At bl q (jb kk ((qw hs).drop i))->
 ∃hp' L,B61_3 (.ptr b 0 0) (.ptr c 0 0) (S 2 1 (LI .u64 (nz (hs.take i)))) hp=B61_3 (.ptr b 0 0) (.ptr c 0 0) (S 2 1 (LI .u64 (nz hs))) hp'/\hp'.rd c 0=some (Cu br kk hs.length hs.length L)/\hp'.rd br 0=some (Rb t bl (q+(jb kk ((qw hs).drop i)).length) false)/\
  hp'.next=hp.next/\∀a,a≠c->a≠br->hp'.get a=hp.get a:=by
 intro r
 induction r with
 |nil=>
  intro i q hp h hil hc hb hat
  have e:i=hs.length:=by simpa using hil
  subst e
  have eg:(qw hs).drop hs.length=[]:=zoh qg
  rw[eg,zpm]
  exact⟨hp,_,rfl,hc,by simpa[jb]using hb,rfl,fun _ _ _=>rfl⟩
 |cons x r ih=>
  intro i q hp h hil hc hb hat
  obtain⟨e1,e2,hi,e3⟩:=qt h
  simp only[zna]at hil
  have hig:i<(qw hs).length:=qi
  have gg:=Xp hs i hi
  have ex:hs.getD i 0=x:=by rw[znb,e1];rfl
  have hx:x<18446744073709551616:=h64 x (by rw[<-e3];exact znr _)
  obtain⟨g,hgd⟩:∃g,(qw hs)[i]?=some g:=⟨_,gg⟩
  have hge:(qw hs)[i]=g:=(zni.mp hgd).2
  have hgm:g∈qw hs:=by rw[<-hge];exact znr _
  have hg64:=xG h64 g hgm
  have hgq:=hq g hgm
  have hdr:(qw hs).drop i=g::(qw hs).drop (i+1):=by rw[zn6 hig,hge]
  have hxg:x=if i=0 then g else(if i=0 then 0 else hs.getD (i-1) 0)+1+g:=by
   rw[gg]at hgd
   have hgd:=zn0 hgd
   by_cases h0:i=0
   ·subst h0
    rw[if_pos rfl]at hgd⊢
    rw[<-hgd,ex]
   ·rw[if_neg h0]at hgd⊢
    have hlt:=vA hs hr (i-1) qe
    have e:i-1+1=i:=qe
    rw[e]at hlt
    rw[if_neg h0]
    omega
  rw[hdr]at hat⊢
  have eb:jb kk (g::(qw hs).drop (i+1))=una (g/2^kk)++ko g kk++jb kk ((qw hs).drop (i+1)):=rfl
  rw[eb]at hat⊢
  obtain⟨at1,at2⟩:=hat.app
  have nx:=qcq c br kk hs.length t bl hkk qe hbl h8 hne i _ g x q hi hg64 hgq hx hxg hp hc hb at1
  have el:(una (g/2^kk)++ko g kk++jb kk ((qw hs).drop (i+1))).length=(una (g/2^kk)++ko g kk).length+(jb kk ((qw hs).drop (i+1))).length:=zm9
  have ap:=Qz .u64 (nz (hs.take i)) 2 (.inr rfl) 8 qh (x:Int) qi
  have es:nz (hs.take i)++[(x:Int)]=nz (hs.take (i+1)):=by
   have a1:hs.take (i+1)=hs.take i++[x]:=by rw[zpi,e1];rfl
   rw[a1,yW]
  rw[es]at ap
  obtain⟨hp2,L,a1,a2,a3,a4,a5⟩:=ih (i+1) (q+(una (g/2^kk)++ko g kk).length) ((hp.put br 0 (Rb t bl (q+(una (g/2^kk)++ko g kk).length) false)).put c 0 (Cu br kk hs.length (i+1) x)) e2 qe
   (by rw[qr,if_neg qe,Nat.add_sub_cancel,ex]) (by rw[qB _ _ (fun e=>hne e.symm),qr]) at2
  refine⟨hp2,L,?_,a2,by rw[a3,el,zoz],by rw[a4];rfl,fun a h1 h2=>by rw[a5 a h1 h2];simp[Hp.put,h1,h2]⟩
  rw[<-a1,ql4]
  generalize(hp.put br 0 (Rb t bl (q+(una (g/2^kk)++ko g kk).length) false)).put c 0 (Cu br kk hs.length (i+1) x)=H1 at*
  generalize nz (hs.take (i+1))=L1 at*
  generalize nz (hs.take i)=L0 at*
  simp[nx,yC,ap]
end
theorem vu(b k:Nat)(l:List Int)(hl:l.length<=1000000000){p:Nat}{a r:List Int}(h:l.drop p=a++r)(hp:Hp)(hpl:p<=l.length)(hr:hp.rd b 0=some (Rc k l p 0)):
 ∃t,run cxX 126 [.ptr b 0 0,.sc (.int .i64 (a.length:Int))] hp=some (S t 1 (LI .u8 a),hp.put b 0 (Rc k l (p+a.length) 0)):=by
 have q:=qX hpl h
 obtain⟨t,e⟩:=qm6 b k l p 0 hp a.length hl qe hpl hr
 have hL:¬(rL l p 0<a.length):=by unfold rL;rw[if_pos rfl];omega
 have ht:(l.drop p).take a.length=a:=by rw[h,zrq]
 rw[if_neg hL]at e
 by_cases h0:a.length=0
 ·have ha:a=[]:=znp.mp h0
  subst ha
  rw[if_pos (show([]:List Int).length=0 from rfl)]at e
  have hps:=jm hr
  simp only[zns,zoy]
  rw[hps]
  exact⟨2,e⟩
 ·rw[if_neg h0,ht]at e
  exact⟨t,e⟩
theorem qin(b k:Nat)(l:List Int)(hl:l.length<=1000000000)(h8:By l)(n kk:Nat)(bl:List Int)(hn:n<=4096)(hkk:kk<=63)(hbl:bl.length<=1048576)(p:Nat)(rest:List Int)(hd:l.drop p=uv n++((kk:Int)::(uv bl.length++(bl++rest))))(hp:Hp)(hpl:p<=l.length)(hb:b<hp.next)(hr:hp.rd b 0=some (Rc k l p 0)):
 ∃hp' t,run cxX 101 [.ptr b 0 0] hp=some (.ptr hp.next 0 0,hp')/\hp'.rd hp.next 0=some (Cu (hp.next+1) kk n 0 0)/\hp'.rd (hp.next+1) 0=some (Rb t bl 0 false)/\hp'.rd b 0=some (Rc k l (p+(uv n).length+1+(uv bl.length).length+bl.length) 0)/\
  hp'.next=hp.next+2/\∀a,a<hp.next->a≠b->hp'.get a=hp.get a:=by
 have t0:=zd b k l hl h8 (most:=4096) hd qe qe hp hpl hr
 have d0:=qM hd
 have q0:=qX hpl hd
 have t1:=zm b k l hl d0 (hp.put b 0 (Rc k l (p+(uv n).length) 0)) q0 (qr _ _ _)
 rw[qC]at t1
 obtain⟨_,d1,hi1,_⟩:=qt d0
 generalize eP1:p+(uv n).length+1=P1 at*
 have hne:b≠hp.next:=qe
 let C0:List AV:=[.sc (.pointer none),.sc (.int .i64 (kk:Int)),.sc (.int .i64 (n:Int)),.sc (.int .i64 0),.sc (.int .u64 0),.sc (.bool false)]
 have rA:((hp.put b 0 (Rc k l P1 0)).new C0).rd b 0=some (Rc k l P1 0):=by rw[zH _ _ (by simpa using hne),qr]
 have t2:=zd b k l hl h8 (most:=1048576) d1 hbl qe ((hp.put b 0 (Rc k l P1 0)).new C0) qe rA
 have d2:=qM d1
 have q2:=qX qe d1
 generalize eP2:P1+(uv bl.length).length=P2 at*
 obtain⟨t,t3⟩:=vu b k l hl d2 (((hp.put b 0 (Rc k l P1 0)).new C0).put b 0 (Rc k l P2 0)) q2 (qr _ _ _)
 rw[qC]at t3
 have d3:=qM d2
 have q3:=qX q2 d2
 generalize eP3:P2+bl.length=P3 at*
 generalize hH:((hp.put b 0 (Rc k l P1 0)).new C0).put b 0 (Rc k l P3 0)=H at*
 have hHb:H.rd b 0=some (Rc k l P3 0):=by rw[<-hH,qr]
 have hHc:H.rd hp.next 0=some C0:=by rw[<-hH,qB _ _ (fun e=>hne e.symm)];exact qT (hp.put b 0 _) _
 have hHn:H.next=hp.next+1:=by rw[<-hH];rfl
 have er:=qW b k l P3 0 H hHb
 have br:=Jv t bl H
 rw[hHn]at br
 have hc2:(H.new (Rb (rk t) bl 0 false)).rd hp.next 0=some C0:=by rw[zH _ _ qe];exact hHc
 refine⟨(H.new (Rb (rk t) bl 0 false)).put hp.next 0 (Cu (hp.next+1) kk n 0 0),rk t,?_,qr _ _ _,?_,?_,by show H.next+1=_;omega,fun a ha hab=>?_⟩
 ·have w1:IntKind.i64.wrap (n:Int)=(n:Int):=qm qe qe
  have w2:IntKind.i64.wrap (kk:Int)=(kk:Int):=qm qe qe
  have w3:IntKind.i64.wrap (bl.length:Int)=(bl.length:Int):=qm qe qe
  have l1:((4096:Nat):Int)=4096:=rfl
  have l2:((1048576:Nat):Int)=1048576:=rfl
  rw[l1]at t0
  rw[l2]at t2
  have hk:¬((64:Int)<=(kk:Int)):=qe
  have gs1:∀(x0:AV) (v:Value) (r:List AV),ql (x0::.sc v::r) 1=some v:=fun _ _ _=>rfl
  have p0:∀(x0 x1 x2 x3 x4 x5 z:AV),qo [x0,x1,x2,x3,x4,x5] 0 [z]=some [z,x1,x2,x3,x4,x5]:=fun _ _ _ _ _ _ _=>rfl
  simp only[C0]at t2 t3 hHc hc2
  have b5:∀t',rk t'=rk t->B101_5 (.ptr b 0 0) (.ptr hp.next 0 0) (S t' 1 (LI .u8 bl)) H=some (.ptr hp.next 0 0,(H.new (Rb (rk t) bl 0 false)).put hp.next 0 (Cu (hp.next+1) kk n 0 0)):=by
   intro t' ht
   have br':=Jv (rk t) bl H
   rw[hHn,Wx]at br'
   have cn:qn 1 (.ptr (hp.next+1) 0 0)=some [.ptr (hp.next+1) 0 0]:=rfl
   rw[qxt]
   generalize H.new (Rb (rk t) bl 0 false)=H9 at*
   simp[er,ht,br',hc2,p0,cn]
   rfl
  have hAn:(hp.put b 0 (Rc k l P1 0)).next=hp.next:=rfl
  generalize hp.put b 0 (Rc k l P1 0)=HA at*
  generalize hp.put b 0 (Rc k l (p+(uv n).length) 0)=HB at*
  rw[E101]
  simp[t0,xI,w1,t1,jW,w2,hAn,t2,w3,t3,hHc,gs1,hk,b5,Wx]
 ·rw[qB _ _ qe,<-hHn];exact qT _ _
 ·rw[qB _ _ hne,zH _ _ qe];exact hHb
 ·have h1:a≠hp.next:=qe
  have h2:a≠H.next:=qe
  have e1:((H.new (Rb (rk t) bl 0 false)).put hp.next 0 (Cu (hp.next+1) kk n 0 0)).get a=H.get a:=by simp[Hp.put,Hp.new,h1,h2]
  rw[e1,<-hH]
  simp[Hp.put,Hp.new,h1,hab]
theorem qcp(c br kk zU last:Nat)(hm:zU<=100000)(hp:Hp)(h:hp.rd c 0=some (Cu br kk zU zU last)):run cxX 102 [.ptr c 0 0] hp=some (.tup [.sc (.int .u64 0),.sc (.bool false)],hp):=by
 have lf:=qcr c br kk zU zU last (znd _) hm hp h
 rw[Nat.sub_self]at lf
 rw[E102]
 simp[lf]
theorem qzb(c br kk zU last:Nat)(hm:zU<=100000)(t:Nat)(bl:List Int)(hbl:bl.length<=100000000)(h8:By bl)(q:Nat)(hq:q<=8*bl.length)(he:qje bl q false=0)(hp:Hp)(h:hp.rd c 0=some (Cu br kk zU zU last))(hr:hp.rd br 0=some (Rb t bl q false)):
 run cxX 123 [.ptr c 0 0] hp=some (.sc (.int .i64 0),hp):=by
 have e:=qzc br t bl q false hp hbl h8 hq hr
 rw[he]at e
 have gs5:∀(x0 x1 x2 x3 x4:AV) (v:Value) (r:List AV),ql (x0::x1::x2::x3::x4::.sc v::r) 5=some v:=fun _ _ _ _ _ _ _=>rfl
 have gs3:∀(x0 x1 x2:AV) (v:Value) (r:List AV),ql (x0::x1::x2::.sc v::r) 3=some v:=fun _ _ _ _ _=>rfl
 have gs2:∀(x0 x1:AV) (v:Value) (r:List AV),ql (x0::x1::.sc v::r) 2=some v:=fun _ _ _ _=>rfl
 have gc0:∀(x:AV) (l:List AV),qs (x::l) 0=some x:=fun _ _=>rfl
 rw[E123]
 simp[h,gs5,gs3,gs2,qxm,gc0,e]
theorem qsj(b k:Nat)(l:List Int)(hl:l.length<=1000000000)(h8:By l)(hs:List Nat)(hn:hs.length<=1024)(h64:∀x∈hs,x<18446744073709551616)(hri:qN hs)(p:Nat)(rest:List Int)(hd:l.drop p=zh hs++rest)(hp:Hp)(hpl:p<=l.length)(hb:b<hp.next)(hr:hp.rd b 0=some (Rc k l p 0)):
 ∃hp',run cxX 61 [.ptr b 0 0] hp=some (S 2 1 (LI .u64 (nz hs)),hp')/\hp'.rd b 0=some (Rc k l (p+(zh hs).length) 0)/\hp'.next=hp.next+2/\∀a,a<hp.next->a≠b->hp'.get a=hp.get a:=by
 obtain⟨k63,hq⟩:=QZ (gs:=qw hs) (xG h64)
 have rl:=Qn (jd (qw hs)) k63 (qw hs) hq
 rw[kK]at rl
 have eR:jf (qw hs)=jb (jd (qw hs)) (qw hs):=rfl
 have b8:By (pk (jf (qw hs))):=fun x hx=>WE hx
 have hbl:(pk (jf (qw hs))).length<=1048576:=by rw[zZ,eR];omega
 have ey:zh hs=uv hs.length++((jd (qw hs):Int)::(uv (pk (jf (qw hs))).length++(pk (jf (qw hs))))):=by unfold zh;simp
 have ed:zh hs++rest=uv hs.length++((jd (qw hs):Int)::(uv (pk (jf (qw hs))).length++(pk (jf (qw hs))++rest))):=by rw[ey];simp
 have el:(zh hs).length=(uv hs.length).length+1+(uv (pk (jf (qw hs))).length).length+(pk (jf (qw hs))).length:=by rw[ey];simp only[zm9,zna];omega
 rw[ed]at hd
 obtain⟨hp1,t,a1,a2,a3,a4,a5,a6⟩:=qin b k l hl h8 hs.length (jd (qw hs)) (pk (jf (qw hs))) qe k63 hbl p rest hd hp hpl hb hr
 have hne:hp.next≠hp.next+1:=qe
 obtain⟨hp2,L,c1,c2,c3,c4,c5⟩:=qnk b hp.next (hp.next+1) (jd (qw hs)) t (pk (jf (qw hs))) hs k63 qe qe b8 hne h64 hri hq hs 0 0 hp1 rfl qe a2 a3 (by rw[zpa,<-eR];exact At.pk _)
 rw[zpa,<-eR,znk]at c3
 have hb2:hp2.rd b 0=some (Rc k l (p+(zh hs).length) 0):=by
  rw[Hp.rd,c5 b qe qe,<-Hp.rd,a4,el]
  congr 2
  omega
 refine⟨hp2,?_,hb2,qe,fun a h1 h2=>by rw[c5 a qe qe,a6 a h1 h2]⟩
 have nx:=qcp hp.next (hp.next+1) (jd (qw hs)) hs.length L qe hp2 c2
 have en:=qzb hp.next (hp.next+1) (jd (qw hs)) hs.length L qe t (pk (jf (qw hs))) qe b8 (jf (qw hs)).length (by rw[zZ];omega) (zg5 _) hp2 c2 c3
 have er:=qW b k l (p+(zh hs).length) 0 hp2 hb2
 have pr:=qcg hs 3 qe h64 hri hp0
 have gs1:∀(x0:AV) (v:Value) (r:List AV),ql (x0::.sc v::r) 1=some v:=fun _ _ _=>rfl
 rw[E61]
 have c1':B61_3 (.ptr b 0 0) (.ptr hp.next 0 0) (S 2 1 []) hp1=B61_3 (.ptr b 0 0) (.ptr hp.next 0 0) (S 2 1 (LI .u64 (nz hs))) hp2:=c1
 generalize jd (qw hs)=K at*
 simp[a1,c1']
 rw[ql4]
 simp[nx,en,zc8,er,pr,c2,gs1,qvp]
theorem qg3(m i:Nat):m%2^(i+1)=if m.testBit i then m%2^i|||2^i else m%2^i:=by
 apply zol
 intro j
 by_cases e:i=j
 ·subst e
  by_cases h:m.testBit i=true
  ·rw[if_pos h,znn,zoa,znn,zom]
   simp[h]
  ·rw[if_neg h,znn,znn]
   simp at h
   simp[h]
 ·have d:decide (j<i+1)=decide (j<i):=by
   by_cases h:j<i
   ·simp[h];omega
   ·simp[h];omega
  by_cases h:m.testBit i=true
  ·rw[if_pos h,znn,zoa,znn,zom,d]
   simp[e]
  ·rw[if_neg h,znn,znn,d]
theorem Wn(c:Nat×Nat)(b i:Nat)(hi:i<256)(hp:Hp)(h:hp.rd b 0=some (Cc c)):
 run cxX 194 [.ptr b 0 0,.sc (.int .u8 (i:Int))] hp=some (.tup [],hp.put b 0 (Cc (c.1,c.2|||2^i))):=by
 have e:∀c,csL ([]++[c])=Cc c:=fun c=>by simp[csL]
 have a:=qsy [] c b i hi hp (by rw[e];exact h)
 rw[e]at a
 exact a
section
variable (b k:Nat)(l:List Int)(hl:l.length<=1000000000)(ob:Nat)(hob:ob≠b)(key m:Nat)
include hl hob
theorem qr3(N:Nat)(hN:N<=256)(rest:List Int):∀(f i p n:Nat) (last:Int) (hp:Hp),i+f=256->n+(yJ m f i).length=N->last<i->-1<=last->l.drop p=yJ m f i++rest->p<=l.length->hp.rd b 0=some (Rc k l p 0)->hp.rd ob 0=some (Cc (key,m%2^i))->
 ∃hp',B175_2 (.ptr ob 0 0) (.ptr b 0 0) (.int .i64 last) (.int .i64 (N:Int)) (.int .i64 (n:Int)) hp=some (.tup [],hp')/\hp'.rd b 0=some (Rc k l (p+(yJ m f i).length) 0)/\hp'.rd ob 0=some (Cc (key,m%2^256))/\hp'.next=hp.next/\∀a,a≠b->a≠ob->hp'.get a=hp.get a:=by
 intro f
 induction f with
 |zero=>
  intro i p n last hp hi hn hla hla2 hd hpl hr hc
  have e:i=256:=qe
  subst e
  have e2:n=N:=hn
  subst e2
  refine⟨hp,?_,hr,hc,rfl,fun _ _ _=>rfl⟩
  rw[qel]
  simp
 |succ f ih=>
  intro i p n last hp hi hn hla hla2 hd hpl hr hc
  have mb:=qg3 m i
  by_cases hb:m.testBit i=true
  ·have ea:yJ m (f+1) i=(i:Int)::yJ m f (i+1):=by rw[yJ,if_pos hb]
   rw[if_pos hb]at mb
   rw[ea]at hn hd⊢
   simp only[zna]at hn⊢
   have tb:=zm b k l hl hd hp hpl hr
   obtain⟨_,d0,hi0,_⟩:=qt hd
   have er:=qW b k l (p+1) 0 (hp.put b 0 (Rc k l (p+1) 0)) (qr _ _ _)
   have ca:=Wn (key,m%2^i) ob i qe (hp.put b 0 (Rc k l (p+1) 0)) (by rw[qB _ _ hob];exact hc)
   simp only at ca
   rw[<-mb]at ca
   obtain⟨hp2,a1,a2,a3,a4,a5⟩:=ih (i+1) (p+1) (n+1) (i:Int) ((hp.put b 0 (Rc k l (p+1) 0)).put ob 0 (Cc (key,m%2^(i+1)))) qe qe qe qe d0 qe (by rw[qB _ _ (fun q=>hob q.symm),qr]) (qr _ _ _)
   refine⟨hp2,?_,by rw[a2];congr 2;omega,a3,by rw[a4];rfl,fun a c1 c2=>by rw[a5 a c1 c2];simp[Hp.put,c1,c2]⟩
   rw[<-a1,qel]
   have w1:IntKind.i64.wrap (i:Int)=(i:Int):=qm qe qe
   have w2:IntKind.u8.wrap (i:Int)=(i:Int):=zB qe qe
   have w3:IntKind.i64.wrap ((n:Int)+1)=((n+1:Nat):Int):=qj
   have hlt:(n:Int)<(N:Int):=qe
   have hle:¬((i:Int)<=last):=qe
   generalize(hp.put b 0 (Rc k l (p+1) 0)).put ob 0 (Cc (key,m%2^(i+1)))=H2 at*
   generalize hp.put b 0 (Rc k l (p+1) 0)=H1 at*
   generalize((n+1:Nat):Int)=n1 at*
   simp[hlt,tb,jW,w1,er,hle,ym,w2,ca,w3]
  ·have ea:yJ m (f+1) i=yJ m f (i+1):=by rw[yJ,if_neg hb]
   rw[if_neg hb]at mb
   rw[ea]at hn hd⊢
   exact ih (i+1) p n last hp qe hn qe hla2 hd hpl hr (by rw[mb];exact hc)
omit hl hob in
theorem zd2(N n fr mo:Nat)(hm:fr+mo<256):∀(g j:Nat) (hp:Hp),j+g=fr+mo+1->(∀x,j<=x->x<=fr+mo->m.testBit x=true)->n<1000->hp.rd ob 0=some (Cc (key,m%2^j))->
 B176_8 (.ptr ob 0 0) (.ptr b 0 0) (.int .i64 (fr:Int)) (.int .i64 (mo:Int)) (.int .i64 (j:Int)) (.int .i64 (N:Int)) (.int .i64 (n:Int)) hp=
  B176_2 (.ptr ob 0 0) (.ptr b 0 0) (.int .i64 ((fr+mo:Nat):Int)) (.int .i64 (N:Int)) (.int .i64 ((n+1:Nat):Int)) (hp.put ob 0 (Cc (key,m%2^(fr+mo+1)))):=by
 intro g
 have w1:IntKind.i64.wrap ((fr:Int)+(mo:Int))=((fr+mo:Nat):Int):=qj
 induction g with
 |zero=>
  intro j hp hj hb hn hc
  have e:j=fr+mo+1:=qe
  subst e
  have w2:IntKind.i64.wrap ((n:Int)+1)=((n+1:Nat):Int):=qj
  have hle:¬(((fr+mo+1:Nat):Int)<=((fr+mo:Nat):Int)):=qe
  rw[jm hc,qej]
  generalize((fr+mo+1:Nat):Int)=q1 at*
  generalize((fr+mo:Nat):Int)=q2 at*
  generalize((n+1:Nat):Int)=n1 at*
  simp[w1,hle,w2]
 |succ g ih=>
  intro j hp hj hb hn hc
  have mb:=qg3 m j
  rw[if_pos (hb j (znd _) qe)]at mb
  have ca:=Wn (key,m%2^j) ob j qe hp hc
  simp only at ca
  rw[<-mb]at ca
  have i2:=ih (j+1) (hp.put ob 0 (Cc (key,m%2^(j+1)))) qe (fun x h1 h2=>hb x qe h2) hn (qr _ _ _)
  rw[qC]at i2
  rw[<-i2,qej]
  have w2:IntKind.u8.wrap (j:Int)=(j:Int):=zB qe qe
  have w3:IntKind.i64.wrap ((j:Int)+1)=((j+1:Nat):Int):=qj
  have hle:(j:Int)<=((fr+mo:Nat):Int):=qe
  generalize hp.put ob 0 (Cc (key,m%2^(j+1)))=H1 at*
  generalize((fr+mo:Nat):Int)=q2 at*
  generalize((j+1:Nat):Int)=n1 at*
  simp[w1,hle,ym,w2,ca,w3]
theorem qry(N:Nat)(hN:N<=256)(rest:List Int):∀(f i p n:Nat) (last:Int) (hp:Hp),256<=i+f->i<=256->2*n+(kQ m f i).length=2*N->last<i->-2<=last->(m.testBit i=true->i<256->last+1<i)->l.drop p=kQ m f i++rest->p<=l.length->hp.rd b 0=some (Rc k l p 0)->hp.rd ob 0=some (Cc (key,m%2^i))->
 ∃hp',B176_2 (.ptr ob 0 0) (.ptr b 0 0) (.int .i64 last) (.int .i64 (N:Int)) (.int .i64 (n:Int)) hp=some (.tup [],hp')/\hp'.rd b 0=some (Rc k l (p+(kQ m f i).length) 0)/\hp'.rd ob 0=some (Cc (key,m%2^256))/\hp'.next=hp.next/\∀a,a≠b->a≠ob->hp'.get a=hp.get a:=by
 intro f
 have done:∀(i p n:Nat) (last:Int) (hp:Hp),i=256->2*n+0=2*N->hp.rd b 0=some (Rc k l p 0)->hp.rd ob 0=some (Cc (key,m%2^i))->
  ∃hp',B176_2 (.ptr ob 0 0) (.ptr b 0 0) (.int .i64 last) (.int .i64 (N:Int)) (.int .i64 (n:Int)) hp=some (.tup [],hp')/\hp'.rd b 0=some (Rc k l (p+0) 0)/\hp'.rd ob 0=some (Cc (key,m%2^256))/\hp'.next=hp.next/\∀a,a≠b->a≠ob->hp'.get a=hp.get a:=by
  intro i p n last hp e hn hr hc
  subst e
  have e2:n=N:=qe
  subst e2
  refine⟨hp,?_,hr,hc,rfl,fun _ _ _=>rfl⟩
  rw[qek]
  simp
 induction f with
 |zero=>
  intro i p n last hp hi hi2 hn hla hla2 hbb hd hpl hr hc
  exact done i p n last hp qe hn hr hc
 |succ f ih=>
  intro i p n last hp hi hi2 hn hla hla2 hbb hd hpl hr hc
  by_cases h256:256<=i
  ·have ea:kQ m (f+1) i=[]:=by rw[kQ,if_pos h256]
   rw[ea]at hn⊢
   exact done i p n last hp qe hn hr hc
  ·by_cases hb:m.testBit i=true
   ·obtain⟨r1,r2,r3,r4⟩:=wE m (255-i) i
    have ea:kQ m (f+1) i=(i:Int)::((yx m (255-i) i-i:Nat):Int)::kQ m f (yx m (255-i) i+1):=by rw[kQ,if_neg h256,if_pos hb]
    generalize hE:yx m (255-i) i=E at*
    rw[ea]at hn hd⊢
    simp only[zna]at hn⊢
    have hg:=hbb hb qe
    have tb:=zm b k l hl hd hp hpl hr
    obtain⟨_,d0,hi0,_⟩:=qt hd
    have tb2:=zm b k l hl d0 (hp.put b 0 (Rc k l (p+1) 0)) qe (qr _ _ _)
    obtain⟨_,d1,hi1,_⟩:=qt d0
    rw[qC]at tb2
    have er:=qW b k l (p+1+1) 0 (hp.put b 0 (Rc k l (p+1+1) 0)) (qr _ _ _)
    obtain⟨mo,hmo⟩:∃mo,E=i+mo:=⟨E-i,qe⟩
    have emo:E-i=mo:=qe
    have ti:=zd2 b ob key m N n i mo qe (mo+1) i (hp.put b 0 (Rc k l (p+1+1) 0)) qe (fun x h1 h2=>by
     by_cases e:x=i
     ·rw[e];exact hb
     ·exact r3 x qe qe) qe (by rw[qB _ _ hob];exact hc)
    rw[emo]at tb2
    subst hmo
    obtain⟨hp2,a1,a2,a3,a4,a5⟩:=ih (i+mo+1) (p+1+1) (n+1) ((i+mo:Nat):Int) ((hp.put b 0 (Rc k l (p+1+1) 0)).put ob 0 (Cc (key,m%2^(i+mo+1)))) qe qe qe qe qe
     (fun h1 h2=>by rw[r4 qe]at h1;cases h1) d1 qe (by rw[qB _ _ (fun q=>hob q.symm),qr]) (qr _ _ _)
    refine⟨hp2,?_,by rw[a2];congr 2;omega,a3,by rw[a4];rfl,fun a c1 c2=>by rw[a5 a c1 c2];simp[Hp.put,c1,c2]⟩
    rw[<-a1,<-ti,qek]
    have w1:IntKind.i64.wrap (i:Int)=(i:Int):=qm qe qe
    have w2:IntKind.i64.wrap (mo:Int)=(mo:Int):=qm qe qe
    have w3:IntKind.i64.wrap (last+1)=last+1:=qj
    have w4:IntKind.i64.wrap ((i:Int)+(mo:Int))=(i:Int)+(mo:Int):=qj
    have hlt:(n:Int)<(N:Int):=qe
    have hle:¬((i:Int)<=last+1):=qe
    have h255:¬((255:Int)<(i:Int)+(mo:Int)):=qe
    generalize hp.put b 0 (Rc k l (p+1+1) 0)=H2 at*
    generalize hp.put b 0 (Rc k l (p+1) 0)=H1 at*
    simp[hlt,tb,tb2,jW,w1,w2,er,w3,hle,w4,h255,qwl]
   ·have ea:kQ m (f+1) i=kQ m f (i+1):=by rw[kQ,if_neg h256,if_neg hb]
    have mb:=qg3 m i
    rw[if_neg hb]at mb
    rw[ea]at hn hd⊢
    exact ih (i+1) p n last hp qe qe hn qe hla2 (fun _ _=>qe) hd hpl hr (by rw[mb];exact hc)
end
theorem Ye(m j x:Nat):(zX m j).testBit x=(decide (x<64)&&m.testBit (64*j+x)):=by
 unfold zX
 have e:(18446744073709551616:Nat)=2^64:=rfl
 rw[e,znn,zob,zq2]
theorem qhv(m i j:Nat)(hi:i<32):zX (m%2^(8*(i+1))) j=if j=i/8 then zX (m%2^(8*i)) j|||m/2^(8*i)%256*2^(8*(i%8))else zX (m%2^(8*i)) j:=by
 have e256:(256:Nat)=2^8:=rfl
 apply zol
 intro x
 by_cases hj:j=i/8
 ·rw[if_pos hj,Ye,zoa,Ye,Nat.testBit_mul_two_pow,e256,znn,znn,znn,zob]
  by_cases h1:x<8*(i%8)
  ·have a1:x<64:=qe
   have a2:64*j+x<8*(i+1):=qe
   have a3:64*j+x<8*i:=qe
   have a4:¬(8*(i%8)<=x):=qe
   simp[a1,a2,a3,a4]
  ·by_cases h2:x<8*(i%8)+8
   ·have a1:x<64:=qe
    have a2:64*j+x<8*(i+1):=qe
    have a3:¬(64*j+x<8*i):=qe
    have a4:8*(i%8)<=x:=qe
    have a5:x-8*(i%8)<8:=qe
    have a6:x-8*(i%8)+8*i=64*j+x:=qe
    simp[a1,a2,a3,a4,a5,a6]
   ·have a2:¬(64*j+x<8*(i+1)):=qe
    have a3:¬(64*j+x<8*i):=qe
    have a5:¬(x-8*(i%8)<8):=qe
    simp[a2,a3,a5]
 ·rw[if_neg hj,Ye,Ye,znn,znn]
  by_cases h1:x<64
  ·have a:decide (64*j+x<8*(i+1))=decide (64*j+x<8*i):=by
    by_cases h:64*j+x<8*i
    ·have h':64*j+x<8*(i+1):=qe
     simp[h,h']
    ·have h':¬(64*j+x<8*(i+1)):=qe
     simp[h,h']
   rw[a]
  ·simp[h1]
theorem ze5(key m i:Nat)(hi:i<32):qo (Cc (key,m%2^(8*i))) (1+i/8) [.sc (.int .u64 (zX (m%2^(8*i)) (i/8)|||m/2^(8*i)%256*2^(8*(i%8)):Nat))]=some (Cc (key,m%2^(8*(i+1)))):=by
 have h:i/8=0\/i/8=1\/i/8=2\/i/8=3:=qe
 have w:=fun j=>qhv m i j hi
 have e:Cc (key,m%2^(8*(i+1)))=[.sc (.int .u32 (key:Int)),.sc (.int .u64 (zX (m%2^(8*(i+1))) 0:Nat)),.sc (.int .u64 (zX (m%2^(8*(i+1))) 1:Nat)),.sc (.int .u64 (zX (m%2^(8*(i+1))) 2:Nat)),.sc (.int .u64 (zX (m%2^(8*(i+1))) 3:Nat))]:=rfl
 rw[e,w 0,w 1,w 2,w 3]
 rcases h with h|h|h|h<;>rw[h]<;>rfl
theorem zg1(m:Nat):∀(f i j:Nat),j<f->(yH m f i)[j]?=some ((m/2^(8*(i+j))%256:Nat):Int):=by
 intro f
 induction f with
 |zero=>intro i j h;omega
 |succ f ih=>
  intro i j h
  cases j with
  |zero=>rfl
  |succ j=>
   have:=ih (i+1) j qe
   have e:i+1+j=i+(j+1):=qe
   rw[e]at this
   exact this
theorem qr2(b ob t key m:Nat)(b2:List AV):∀(g i:Nat) (hp:Hp),i+g=32->hp.rd ob 0=some (Cc (key,m%2^(8*i)))->
 B119_9 (.ptr b 0 0) (.ptr ob 0 0) (.int .u8 1) (S t 1 (LI .u8 (yH m 32 0))) (.int .i64 32) (.int .i64 (i:Int)) b2 hp=B119_15 (.ptr b 0 0) (.ptr ob 0 0) (.int .u8 1) b2 (hp.put ob 0 (Cc (key,m%2^256))):=by
 intro g
 induction g with
 |zero=>
  intro i hp hi hc
  have e:i=32:=qe
  subst e
  have hc:hp.rd ob 0=some (Cc (key,m%2^256)):=hc
  rw[jm hc,qfo]
  simp
 |succ g ih=>
  intro i hp hi hc
  have i2:=ih (i+1) (hp.put ob 0 (Cc (key,m%2^(8*(i+1))))) qe (qr _ _ _)
  rw[qC]at i2
  have pb:=ze5 key m i qe
  have hlt:(i:Int)<32:=qe
  have gb:=zg1 m 32 0 i qe
  rw[znk]at gb
  have hB:m/2^(8*i)%256<256:=zqa _ qh
  have gw:=Qr (key,m%2^(8*i)) (i/8) qe
  have hw:=QI (m%2^(8*i)) (i/8)
  simp only at gw
  have hs:2^(8*(i%8))<=2^56:=zoc qh qe
  have e56:(2:Nat)^56=72057594037927936:=rfl
  have sl:=qh8 (m/2^(8*i)%256) (8*(i%8)) qe (zow (zn5 (Nat.le_of_lt_succ hB) hs) qe)
  have hz:m/2^(8*i)%256*2^(8*(i%8))<18446744073709551616:=zow (zn5 (Nat.le_of_lt_succ hB) hs) qe
  have o:=zfi _ _ hw hz
  have q8:=qgn i qe
  have r8:=qgl i
  have w1:IntKind.i64.wrap (8*((i%8:Nat):Int))=((8*(i%8):Nat):Int):=qj
  have w2:IntKind.u64.wrap ((m/2^(8*i)%256:Nat):Int)=((m/2^(8*i)%256:Nat):Int):=qu qe qe
  have w3:IntKind.i64.wrap ((i:Int)+1)=((i+1:Nat):Int):=qj
  have ix:idx 4 (.int .i64 ((i/8:Nat):Int))=some (i/8):=zr .i64 qe
  have ge:jE 1 (S t 1 (LI .u8 (yH m 32 0))) (.int .i64 (i:Int))=some [.sc (.int .u8 ((m/2^(8*i)%256:Nat):Int))]:=by
   rw[Kl,if_pos qe,znj,qbu?,gb];rfl
  rw[<-i2,qfo]
  have gp:∀a b c,qZ (AV.ptr a b c)=some (a,b,c):=fun _ _ _=>rfl
  have gs0:∀(v:Value),ql [.sc v] 0=some v:=fun _=>rfl
  have en:Nat.add (Nat.succ 0) (Nat.add 0 (i/8))=1+i/8:=by show Nat.succ 0+(0+i/8)=1+i/8;omega
  have en':Nat.add 1 (Nat.add 0 (i/8))=1+i/8:=by show 1+(0+i/8)=1+i/8;omega
  rw[en']at gw
  generalize((zX (m%2^(8*i)) (i/8)|||m/2^(8*i)%256*2^(8*(i%8)):Nat):Int)=WO at*
  generalize((zX (m%2^(8*i)) (i/8):Nat):Int)=W0 at*
  generalize((m/2^(8*i)%256*2^(8*(i%8)):Nat):Int)=BS at*
  generalize((m/2^(8*i)%256:Nat):Int)=BB at*
  generalize((8*(i%8):Nat):Int)=SH at*
  generalize((i%8:Nat):Int)=I8 at*
  generalize((i/8:Nat):Int)=J8 at*
  generalize((i+1:Nat):Int)=I1 at*
  generalize Cc (key,m%2^(8*i))=C0 at*
  generalize Cc (key,m%2^(8*(i+1)))=C1 at*
  simp only[YE,Jf,hlt,decide_true,jN,znc,cond_true,ge,gs0,show Int.ofNat 8=8 from rfl,show Int.ofNat 1=1 from rfl,q8,gp,ix,hc,en,gw,zgp,w2,r8,XC,w1,sl,o,pb,yi,w3]
abbrev Z5:List AV:=[.sc (.int .u32 0),.sc (.int .u64 0),.sc (.int .u64 0),.sc (.int .u64 0),.sc (.int .u64 0)]
theorem qr1(b k:Nat)(l:List Int)(p ob:Nat)(c:Nat×Nat)(hc:Xc c)(hp:Hp)(hr:hp.rd b 0=some (Rc k l p 0))(hob:hp.rd ob 0=some (Cc c)):
 B119_15 (.ptr b 0 0) (.ptr ob 0 0) (.int .u8 (kind c.2:Nat)) Z5 hp=some (.agg (Cc c),hp):=by
 have er:=qW b k l p 0 hp hr
 have mn:=Qj c hp0
 have bs:=qi3 c hp0
 have gp:∀a b c,qZ (AV.ptr a b c)=some (a,b,c):=fun _ _ _=>rfl
 have ps:=jm hob
 have hn:¬((zx c.2 256:Nat):Int)=0:=by have:=hc.2.2;omega
 rw[qpv]
 unfold Cc at*
 unfold Z5 at*
 generalize((zx c.2 256:Nat):Int)=PN at*
 generalize((kind c.2:Nat):Int)=KI at*
 generalize((zX c.2 0:Nat):Int)=W0 at*
 generalize((zX c.2 1:Nat):Int)=W1 at*
 generalize((zX c.2 2:Nat):Int)=W2 at*
 generalize((zX c.2 3:Nat):Int)=W3 at*
 generalize(c.1:Int)=W9 at*
 simp[er,gp,hob,qp,mn,hn,bs,qpu,qo,qn,ps]
section
variable (b k:Nat)(l:List Int)(hl:l.length<=1000000000)(ob:Nat)(hob:ob≠b)(key m:Nat)(hm:m<2^256)(h0:0<zx m 256)
include hl hob hm h0
theorem qm0(rest:List Int)(p:Nat)(hp:Hp)(hd:l.drop p=((zx m 256-1:Nat):Int)::yJ m 256 0++rest)(h32:zx m 256<=256)(hpl:p<=l.length)(hr:hp.rd b 0=some (Rc k l p 0))(hc:hp.rd ob 0=some (Cc (key,0))):
 ∃hp',run cxX 175 [.ptr ob 0 0,.ptr b 0 0] hp=some (.tup [],hp')/\hp'.rd b 0=some (Rc k l (p+1+(yJ m 256 0).length) 0)/\hp'.rd ob 0=some (Cc (key,m))/\hp'.next=hp.next/\∀a,a≠b->a≠ob->hp'.get a=hp.get a:=by
 have tb:=zm b k l hl hd hp hpl hr
 obtain⟨_,d0,hi0,_⟩:=qt hd
 have e0:m%2^0=0:=Nat.mod_one m
 have em:m%2^256=m:=zoq hm
 obtain⟨hp2,a1,a2,a3,a4,a5⟩:=qr3 b k l hl ob hob key m (zx m 256) h32 rest 256 0 (p+1) 0 (-1) (hp.put b 0 (Rc k l (p+1) 0)) rfl (by rw[KE,znk]) qe qe d0 qe (qr _ _ _) (by rw[e0,qB _ _ hob];exact hc)
 rw[em]at a3
 refine⟨hp2,?_,a2,a3,by rw[a4];rfl,fun a c1 c2=>by rw[a5 a c1 c2];simp[Hp.put,c1,c2]⟩
 have w1:IntKind.i64.wrap ((zx m 256-1:Nat):Int)=((zx m 256-1:Nat):Int):=qm qe qe
 have w2:IntKind.i64.wrap (((zx m 256-1:Nat):Int)+1)=((zx m 256:Nat):Int):=qj
 have a1':B175_2 (.ptr ob 0 0) (.ptr b 0 0) (.int .i64 (Int.negSucc 0)) (.int .i64 ((zx m 256:Nat):Int)) (.int .i64 0) (hp.put b 0 (Rc k l (p+1) 0))=some (.tup [],hp2):=a1
 rw[E175]
 generalize hp.put b 0 (Rc k l (p+1) 0)=H1 at*
 generalize((zx m 256-1:Nat):Int)=P1 at*
 generalize((zx m 256:Nat):Int)=P2 at*
 simp at a1'
 simp[tb,jW,w1,w2,a1']
theorem qse(rest:List Int)(p:Nat)(hp:Hp)(hd:l.drop p=((jD m 256-1:Nat):Int)::kQ m 256 0++rest)(h32:jD m 256<=256)(hpl:p<=l.length)(hr:hp.rd b 0=some (Rc k l p 0))(hc:hp.rd ob 0=some (Cc (key,0))):
 ∃hp',run cxX 176 [.ptr ob 0 0,.ptr b 0 0] hp=some (.tup [],hp')/\hp'.rd b 0=some (Rc k l (p+1+(kQ m 256 0).length) 0)/\hp'.rd ob 0=some (Cc (key,m))/\hp'.next=hp.next/\∀a,a≠b->a≠ob->hp'.get a=hp.get a:=by
 have tb:=zm b k l hl hd hp hpl hr
 obtain⟨_,d0,hi0,_⟩:=qt hd
 have e0:m%2^0=0:=Nat.mod_one m
 have em:m%2^256=m:=zoq hm
 have rp:=Vz h0
 obtain⟨hp2,a1,a2,a3,a4,a5⟩:=qry b k l hl ob hob key m (jD m 256) h32 rest 256 0 (p+1) 0 (-2) (hp.put b 0 (Rc k l (p+1) 0)) qe qe (by rw[vz];omega) qe qe (fun _ _=>qe) d0 qe (qr _ _ _) (by rw[e0,qB _ _ hob];exact hc)
 rw[em]at a3
 refine⟨hp2,?_,a2,a3,by rw[a4];rfl,fun a c1 c2=>by rw[a5 a c1 c2];simp[Hp.put,c1,c2]⟩
 have w1:IntKind.i64.wrap ((jD m 256-1:Nat):Int)=((jD m 256-1:Nat):Int):=qm qe qe
 have w2:IntKind.i64.wrap (((jD m 256-1:Nat):Int)+1)=((jD m 256:Nat):Int):=qj
 have a1':B176_2 (.ptr ob 0 0) (.ptr b 0 0) (.int .i64 (Int.negSucc 1)) (.int .i64 ((jD m 256:Nat):Int)) (.int .i64 0) (hp.put b 0 (Rc k l (p+1) 0))=some (.tup [],hp2):=a1
 rw[E176]
 generalize hp.put b 0 (Rc k l (p+1) 0)=H1 at*
 generalize((jD m 256-1:Nat):Int)=P1 at*
 generalize((jD m 256:Nat):Int)=P2 at*
 simp at a1'
 simp[tb,jW,w1,w2,a1']
end
theorem qmz(b k:Nat)(l:List Int)(hl:l.length<=1000000000)(h8:By l)(c:Nat×Nat)(hc:Xc c)(rest:List Int)(p:Nat)(hp:Hp)(hd:l.drop p=yG c++rest)(hpl:p<=l.length)(hb:b<hp.next)(hr:hp.rd b 0=some (Rc k l p 0)):
 ∃hp',run cxX 119 [.ptr b 0 0] hp=some (.agg (Cc c),hp')/\hp'.rd b 0=some (Rc k l (p+(yG c).length) 0)/\hp'.next=hp.next+1/\∀a,a<hp.next->a≠b->hp'.get a=hp.get a:=by
 obtain⟨key,m⟩:=c
 obtain⟨ck,cm,c0⟩:=hc
 simp only at ck cm c0
 have ey:yG (key,m)++rest=uv key++(((kind m:Nat):Int)::(Zk m++rest)):=by unfold yG;simp
 have el:(yG (key,m)).length=(uv key).length+1+(Zk m).length:=by unfold yG;simp;omega
 rw[ey]at hd
 have t0:=zd b k l hl h8 (most:=16777215) hd qe qe hp hpl hr
 have d0:=qM hd
 have q0:=qX hpl hd
 obtain⟨_,d1,hi1,_⟩:=qt d0
 have hne:hp.next≠b:=qe
 have hp256:=vF m 256
 have hr256:=Yn m 256
 let H0:Hp:=((hp.put b 0 (Rc k l (p+(uv key).length) 0)).new Z5).put hp.next 0 (Cc (key,0))
 have H0b:H0.rd b 0=some (Rc k l (p+(uv key).length) 0):=by
  show(((hp.put b 0 _).new Z5).put hp.next 0 _).rd b 0=_
  rw[qB _ _ (fun e=>hne e.symm),zH _ _ (show b≠(hp.put b 0 _).next from fun e=>hne e.symm),qr]
 have H0c:H0.rd hp.next 0=some (Cc (key,0)):=qr _ _ _
 have t1:=zm b k l hl d0 H0 q0 H0b
 generalize eP1:p+(uv key).length+1=P1 at*
 let H1:Hp:=H0.put b 0 (Rc k l P1 0)
 have H1b:H1.rd b 0=some (Rc k l P1 0):=qr _ _ _
 have H1c:H1.rd hp.next 0=some (Cc (key,0)):=by show(H0.put b 0 _).rd hp.next 0=_;rw[qB _ _ hne];exact H0c
 have H1n:H1.next=hp.next+1:=rfl
 have H1f:∀a,a<hp.next->a≠b->H1.get a=hp.get a:=fun a h1 h2=>by
  have h3:a≠hp.next:=qe
  simp[H1,H0,Hp.put,Hp.new,h2,h3]
 have key':∃hp',hp'.rd b 0=some (Rc k l (P1+(Zk m).length) 0)/\hp'.rd hp.next 0=some (Cc (key,m))/\hp'.next=H1.next/\(∀a,a≠b->a≠hp.next->hp'.get a=H1.get a)/\
  run cxX 119 [.ptr b 0 0] hp=B119_15 (.ptr b 0 0) (.ptr hp.next 0 0) (.int .u8 (kind m:Nat)) Z5 hp':=by
  have hk:=Xg m
  have hAn:(hp.put b 0 (Rc k l (p+(uv key).length) 0)).next=hp.next:=rfl
  have hAr:((hp.put b 0 (Rc k l (p+(uv key).length) 0)).new Z5).rd hp.next 0=some Z5:=qT (hp.put b 0 _) _
  have pz:qo Z5 0 [.sc (.int .u32 (key:Int)),.sc (.int .u64 0),.sc (.int .u64 0),.sc (.int .u64 0),.sc (.int .u64 0)]=some (Cc (key,0)):=by
   unfold Cc
   simp only[VN]
   rfl
  have w1:IntKind.u32.wrap (key:Int)=(key:Int):=qK qe qe
  have lit:((16777215:Nat):Int)=16777215:=rfl
  rw[lit]at t0
  have kk:kind m=0\/kind m=1\/kind m=2:=qe
  have fold:((hp.put b 0 (Rc k l (p+(uv key).length) 0)).new Z5).put hp.next 0 (Cc (key,0))=H0:=rfl
  have foldH1:H0.put b 0 (Rc k l P1 0)=H1:=rfl
  rw[foldH1]at t1
  rcases kk with e|e|e
  ·have eb:Zk m=((zx m 256-1:Nat):Int)::yJ m 256 0:=by unfold Zk;rw[if_pos e]
   have ebl:P1+(Zk m).length=P1+1+(yJ m 256 0).length:=by rw[eb,zna];omega
   rw[eb]at d1
   obtain⟨hp2,a1,a2,a3,a4,a5⟩:=qm0 b k l hl hp.next hne key m cm c0 rest P1 H1 d1 hp256 qe H1b H1c
   rw[<-ebl]at a2
   refine⟨hp2,a2,a3,a4,a5,?_⟩
   rw[e]at t1⊢
   rw[zku]
   clear_value H0 H1
   generalize hp.put b 0 (Rc k l (p+(uv key).length) 0)=HA at*
   generalize Cc (key,0)=C0 at*
   simp[t0,jK,w1,hAn,hAr,pz,fold,t1,a1]
  ·have eb:Zk m=yH m 32 0:=by unfold Zk;rw[if_neg qe,if_pos e]
   rw[eb]at d1⊢
   obtain⟨t,a1⟩:=vu b k l hl d1 H1 qe H1b
   rw[qk0]at a1⊢
   have e0:m%2^(8*0)=0:=Nat.mod_one m
   have em:m%2^256=m:=zoq cm
   have a2:=qr2 b hp.next t key m Z5 32 0 (H1.put b 0 (Rc k l (P1+32) 0)) rfl (by rw[e0,qB _ _ hne];exact H1c)
   rw[em]at a2
   refine⟨(H1.put b 0 (Rc k l (P1+32) 0)).put hp.next 0 (Cc (key,m)),?_,qr _ _ _,rfl,fun a h1 h2=>?_,?_⟩
   ·rw[qB _ _ (fun e=>hne e.symm),qr]
   ·simp[Hp.put,h1,h2]
   have o1:((1:Nat):Int)=1:=rfl
   rw[e,o1]at t1⊢
   rw[<-a2,zku]
   clear_value H0 H1
   generalize hp.put b 0 (Rc k l (p+(uv key).length) 0)=HA at*
   generalize Cc (key,0)=C0 at*
   generalize H1.put b 0 (Rc k l (P1+32) 0)=H2 at*
   simp at a1
   simp[t0,jK,w1,hAn,hAr,pz,fold,t1,a1]
  ·have eb:Zk m=((jD m 256-1:Nat):Int)::kQ m 256 0:=by unfold Zk;rw[if_neg qe,if_neg qe]
   have ebl:P1+(Zk m).length=P1+1+(kQ m 256 0).length:=by rw[eb,zna];omega
   rw[eb]at d1
   obtain⟨hp2,a1,a2,a3,a4,a5⟩:=qse b k l hl hp.next hne key m cm c0 rest P1 H1 d1 qe qe H1b H1c
   rw[<-ebl]at a2
   refine⟨hp2,a2,a3,a4,a5,?_⟩
   rw[e]at t1⊢
   rw[zku]
   clear_value H0 H1
   generalize hp.put b 0 (Rc k l (p+(uv key).length) 0)=HA at*
   generalize Cc (key,0)=C0 at*
   simp[t0,jK,w1,hAn,hAr,pz,fold,t1,a1]
 obtain⟨hp2,a2,a3,a4,a5,a6⟩:=key'
 have t15:=qr1 b k l _ hp.next (key,m) ⟨ck,cm,c0⟩ hp2 a2 a3
 refine⟨hp2,by rw[a6];exact t15,?_,by rw[a4,H1n],fun a h1 h2=>by rw[a5 a h2 qe,H1f a h1 h2]⟩
 rw[a2,el]
 congr 2
 omega
theorem zck(cs:List (Nat×Nat))(c:Nat×Nat)(h:cs.length<=100000):jp 40 5 (S 2 5 (csL cs)) (S 1 5 (Cc c))=some (S 2 5 (csL (cs++[c]))):=by
 have e:csL (cs++[c])=csL cs++Cc c:=by rw[qhj];simp[csL]
 rw[e]
 exact YG 40 5 2 _ _ 1 (.inr rfl) (show qlk (Cc c)from rfl) (.inr (yZ qh (by rw[vd];simp;omega)))
theorem qx3(b k:Nat)(l:List Int)(p:Nat)(cs:List (Nat×Nat))(hl:cs.length<=4096)(c:Nat×Nat)(T n:Nat)(hT:T+zx c.2 256<=4096)(hp:Hp):
 B58_11 (.ptr b 0 0) (S 2 5 (csL cs)) (.int .i64 (T:Int)) (.int .u64 (n:Int)) (.int .u64 (cs.length:Int)) (Cc c) hp=
  B58_5 (.ptr b 0 0) (S 2 5 (csL (cs++[c]))) (.int .i64 ((T+zx c.2 256:Nat):Int)) (.int .u64 (n:Int)) (.int .u64 ((cs.length+1:Nat):Int)) hp:=by
 have mn:=Qj c hp0
 have ap:=zck cs c qe
 have w1:IntKind.i64.wrap ((T:Int)+((zx c.2 256:Nat):Int))=((T+zx c.2 256:Nat):Int):=qj
 have w2:IntKind.u64.wrap ((cs.length:Int)+1)=((cs.length+1:Nat):Int):=by rw[qu]<;>omega
 have h4:¬((4096:Int)<((T+zx c.2 256:Nat):Int)):=qe
 rw[qvs]
 generalize((T+zx c.2 256:Nat):Int)=T2 at*
 generalize((cs.length+1:Nat):Int)=T3 at*
 generalize csL (cs++[c])=L2 at*
 generalize csL cs=L1 at*
 unfold Cc at*
 generalize((zx c.2 256:Nat):Int)=PN at*
 generalize((zX c.2 0:Nat):Int)=W0 at*
 generalize((zX c.2 1:Nat):Int)=W1 at*
 generalize((zX c.2 2:Nat):Int)=W2 at*
 generalize((zX c.2 3:Nat):Int)=W3 at*
 generalize(c.1:Int)=W9 at*
 simp[qp,mn,w1,h4,qvr,qn,qo,yC,ap,w2]
theorem qnl(cs:List (Nat×Nat))(i:Nat)(c d:Nat×Nat)(h:qN (cs.map (·.1)))(h1:cs[i]?=some c) (h2:cs[i+1]?=some d):c.1<d.1:=by
 have hi:=(zni.mp h2).1
 have:=vA _ h i (by simpa using hi)
 rw[znb,znb,znt,znt,h1,h2]at this
 exact this
section
variable (b k:Nat)(l:List Int)(hl:l.length<=1000000000)(h8:By l)(cs:List (Nat×Nat))(hcs:∀c∈cs,Xc c)(hcl:cs.length<=4096)(htot:wo cs<=4096)(hri:qN (cs.map (·.1)))
include hl h8 hcs hcl htot hri
theorem qms(rest:List Int):∀(r:List (Nat×Nat)) (i p:Nat) (hp:Hp),cs.drop i=r->i<=cs.length->l.drop p=wW r++rest->p<=l.length->b<hp.next->hp.rd b 0=some (Rc k l p 0)->
 ∃hp',B58_5 (.ptr b 0 0) (S 2 5 (csL (cs.take i))) (.int .i64 (wo (cs.take i):Nat)) (.int .u64 (cs.length:Int)) (.int .u64 (i:Int)) hp=some (S 2 5 (csL cs),hp')/\hp'.rd b 0=some (Rc k l (p+(wW r).length) 0)/\hp.next<=hp'.next/\∀a,a<hp.next->a≠b->hp'.get a=hp.get a:=by
 intro r
 induction r with
 |nil=>
  intro i p hp h hil hd hpl hb hr
  have h1:=qL h
  have e:i=cs.length:=qe
  subst e
  have er:=qW b k l p 0 hp hr
  rw[zpm]
  refine⟨hp,?_,by simpa[wW]using hr,znd _,fun _ _ _=>rfl⟩
  rw[ql7]
  generalize((wo cs:Nat):Int)=TT
  simp[qvq,er]
 |cons c r ih=>
  intro i p hp h hil hd hpl hb hr
  obtain⟨e1,e2,hi,e3⟩:=qt h
  have er0:wW (c::r)=yG c++wW r:=rfl
  rw[er0,znv]at hd
  rw[er0,zm9,<-Nat.add_assoc]
  have hcc:=hcs c (znm e1)
  have er:=qW b k l p 0 hp hr
  obtain⟨hp2,t1,t2,t3,t4⟩:=qmz b k l hl h8 c hcc _ p hp hd hpl hb hr
  have hd2:=qM hd
  have hpl2:=qX hpl hd
  obtain⟨hp3,a1,a2,a3,a4⟩:=ih (i+1) (p+(yG c).length) hp2 e2 hi hd2 hpl2 qe t2
  refine⟨hp3,?_,a2,qe,fun a h1 h2=>by rw[a4 a qe h2,t4 a h1 h2]⟩
  have et:cs.take (i+1)=cs.take i++[c]:=by rw[zpi,e1];rfl
  have etl:(cs.take i).length=i:=qi
  have ett:wo (cs.take (i+1))=wo (cs.take i)+zx c.2 256:=by rw[et,qp1];rfl
  have etot:wo (cs.take (i+1))<=wo cs:=by
   have:=qp1 (cs.take (i+1)) (cs.drop (i+1))
   rw[zrf]at this
   omega
  have b11:=qx3 b k l (p+(yG c).length) (cs.take i) qe c (wo (cs.take i)) cs.length qe hp2
  rw[etl,<-et,<-ett,a1]at b11
  have er2:=qW b k l (p+(yG c).length) 0 hp2 t2
  have hlt:(i:Int)<(cs.length:Int):=qe
  have ln:∀k',xU (S k' 5 (csL (cs.take i)))=some i:=fun k'=>by rw[Yt,etl]
  have b7:B58_7 (.ptr b 0 0) (S 2 5 (csL (cs.take i))) (.int .i64 (wo (cs.take i):Nat)) (.int .u64 (cs.length:Int)) (.int .u64 (i:Int)) hp=some (S 2 5 (csL cs),hp3):=by
   rw[<-b11,zda]
   have c5:qn 5 (.agg (Cc c))=some (Cc c):=rfl
   have pz:qo Z5 0 (Cc c)=some (Cc c):=rfl
   have gs:ql (Cc c) 0=some (.int .u32 (c.1:Int)):=rfl
   unfold Z5 at pz
   by_cases h0:i=0
   ·subst h0
    generalize((wo (cs.take 0):Nat):Int)=TT at*
    generalize csL (cs.take 0)=L0 at*
    generalize Cc c=C at*
    simp[t1,c5,pz,ln]
   ·obtain⟨d,hd1⟩:∃d,cs[i-1]?=some d:=⟨_,zng qe⟩
    have hkd:=qnl cs (i-1) d c hri hd1 (by rw[show i-1+1=i by omega];exact e1)
    have hd2:(cs.take i)[i-1]?=some d:=by rw[zno,if_pos qe];exact hd1
    have ix:∀k',jE 5 (S k' 5 (csL (cs.take i))) (.int .i64 ((i-1:Nat):Int))=some (Cc d):=fun k'=>wX k' _ _ _ hd2
    have gs2:ql (Cc d) 0=some (.int .u32 (d.1:Int)):=rfl
    have w1:IntKind.i64.wrap ((i:Int)-1)=((i-1:Nat):Int):=qj
    have hpos:(0:Int)<(i:Int):=qe
    have hle:¬((c.1:Int)<=(d.1:Int)):=qe
    generalize((wo (cs.take i):Nat):Int)=TT at*
    generalize csL (cs.take i)=L0 at*
    generalize((i-1:Nat):Int)=I1 at*
    generalize(c.1:Int)=K1 at*
    generalize(d.1:Int)=K2 at*
    generalize Cc c=C at*
    generalize Cc d=D at*
    have hpos':0<i:=qe
    simp[t1,c5,pz,ln,hpos',er2,gs,w1,ix,gs2,hle]
  rw[ql7]
  generalize((wo (cs.take i):Nat):Int)=TT at*
  generalize csL (cs.take i)=L0 at*
  have hlt':i<cs.length:=hi
  simp[hlt',er,b7]
end
theorem QQ(b k:Nat)(l:List Int)(hl:l.length<=1000000000)(h8:By l)(cs:List (Nat×Nat))(hcs:∀c∈cs,Xc c)(hcl:cs.length<=4096)(htot:wo cs<=4096)(hri:qN (cs.map (·.1)))(p:Nat)(rest:List Int)(hd:l.drop p=jX cs++rest)(hp:Hp)(hpl:p<=l.length)(hb:b<hp.next)(hr:hp.rd b 0=some (Rc k l p 0)):
 ∃hp',run cxX 58 [.ptr b 0 0] hp=some (S 2 5 (csL cs),hp')/\hp'.rd b 0=some (Rc k l (p+(jX cs).length) 0)/\hp.next<=hp'.next/\∀a,a<hp.next->a≠b->hp'.get a=hp.get a:=by
 have ey:jX cs++rest=uv cs.length++(wW cs++rest):=by unfold jX;simp
 have el:(jX cs).length=(uv cs.length).length+(wW cs).length:=by unfold jX;simp
 rw[ey]at hd
 have t0:=zd b k l hl h8 (most:=4096) hd qe qe hp hpl hr
 have d0:=qM hd
 have q0:=qX hpl hd
 obtain⟨hp2,a1,a2,a3,a4⟩:=qms b k l hl h8 cs hcs hcl htot hri rest cs 0 _ (hp.put b 0 (Rc k l (p+(uv cs.length).length) 0)) rfl (zn1 _) d0 q0 hb (qr _ _ _)
 refine⟨hp2,?_,by rw[a2,el,zoz],a3,fun a h1 h2=>by rw[a4 a h1 h2];simp[Hp.put,h2]⟩
 have lit:((4096:Nat):Int)=4096:=rfl
 rw[lit]at t0
 have a1':B58_5 (.ptr b 0 0) (S 2 1 []) (.int .i64 0) (.int .u64 (cs.length:Int)) (.int .u64 0) (hp.put b 0 (Rc k l (p+(uv cs.length).length) 0))=some (S 2 5 (csL cs),hp2):=a1
 rw[E58]
 simp[t0,a1']
section
variable (cs:List (Nat×Nat))(k:Nat)(hcs:∀c∈cs,Xc c)(hcl:cs.length<=4096)
include hcs hcl
omit hcs in
theorem qyc(i:Nat)(hi:i<cs.length)(c:Nat×Nat)(hc:Xc c)(hp:Hp):∀(f j:Nat) (acc:List Nat),j+f=256->acc.length+f<=900000->
 B59_6 (S 2 1 (LI .u32 (nz acc))) (S k 5 (csL cs)) (.int .i64 (cs.length:Int)) (.int .i64 (i:Int)) (.int .i64 (j:Int)) (Cc c) hp=
  B59_3 (S 2 1 (LI .u32 (nz (acc++Vd c.1 c.2 f j)))) (S k 5 (csL cs)) (.int .i64 (cs.length:Int)) (.int .i64 ((i+1:Nat):Int)) hp:=by
 intro f
 induction f with
 |zero=>
  intro j acc hj ha
  have e:j=256:=qe
  subst e
  have e2:acc++Vd c.1 c.2 0 256=acc:=by simp[Vd]
  have w1:IntKind.i64.wrap ((i:Int)+1)=((i+1:Nat):Int):=qj
  rw[e2,qa7]
  generalize((i+1:Nat):Int)=I1 at*
  generalize nz acc=L0 at*
  simp[w1]
 |succ f ih=>
  intro j acc hj ha
  have hs:=ZH c j qe hp0
  have hlt:(j:Int)<256:=qe
  have w1:IntKind.i64.wrap ((j:Int)+1)=((j+1:Nat):Int):=qj
  have w2:IntKind.u8.wrap (j:Int)=(j:Int):=zB qe qe
  have w3:IntKind.u32.wrap (j:Int)=(j:Int):=qK qe qe
  have g5:qp (Cc c) 0 5=some (Cc c):=rfl
  have gs:ql (Cc c) 0=some (.int .u32 (c.1:Int)):=rfl
  have rm:(Cc c).map ro1=Cc c:=rfl
  by_cases hb:c.2.testBit j=true
  ·have e2:acc++Vd c.1 c.2 (f+1) j=acc++[c.1*256+j]++Vd c.1 c.2 f (j+1):=by rw[Vd,if_pos hb];simp
   have i2:=ih (j+1) (acc++[c.1*256+j]) qe qi
   have ap:=Qz .u32 (nz acc) 2 (.inr rfl) 4 qh ((c.1*256+j:Nat):Int) qi
   have hk:=hc.1
   have sl:∀t o o',qy Tryz.prog .shl t o o' (.int .u32 (c.1:Int)) (.int .u64 8)=some (.int .u32 ((c.1*256:Nat):Int)):=by
    intro t o o'
    rw[zW _ _ _ _ _ _ _ _ qe]
    have e:(2:Int)^min (8:Int).toNat IntKind.u32.bits=256:=rfl
    rw[e,qK qe qe]
    rfl
   have o:∀t x y,qy Tryz.prog .or t x y (.int .u32 ((c.1*256:Nat):Int)) (.int .u32 (j:Int))=some (.int .u32 ((c.1*256+j:Nat):Int)):=by
    intro t x y
    rw[zS]
    have e:(BitVec.ofInt IntKind.u32.bits ((c.1*256:Nat):Int)|||BitVec.ofInt IntKind.u32.bits (j:Int)).toNat=c.1*256+j:=by
     show(BitVec.ofInt 32 ((c.1*256:Nat):Int)|||BitVec.ofInt 32 (j:Int)).toNat=_
     rw[zpt,znx,znx]
     have e1:(((c.1*256:Nat):Int)%((2^32:Nat):Int)).toNat=2^8*c.1:=qe
     have e2:((j:Int)%((2^32:Nat):Int)).toNat=j:=qe
     rw[e1,e2,<-Nat.two_pow_add_eq_or_of_lt qe c.1]
     omega
    rw[e,qK qe qe]
   rw[<-yW]at ap
   rw[e2,<-i2,qa7]
   generalize((c.1*256:Nat):Int)=Q1 at*
   generalize((c.1*256+j:Nat):Int)=Q2 at*
   generalize((j+1:Nat):Int)=I1 at*
   generalize nz (acc++[c.1*256+j])=L1 at*
   generalize nz acc=L0 at*
   unfold Cc at*
   generalize((zX c.2 0:Nat):Int)=W0 at*
   generalize((zX c.2 1:Nat):Int)=W1 at*
   generalize((zX c.2 2:Nat):Int)=W2 at*
   generalize((zX c.2 3:Nat):Int)=W3 at*
   generalize(c.1:Int)=K1 at*
   simp[hlt,qp,ym,w2,hs,hb,gs,sl,Xv,w3,o,yC,ap,qd4,w1,-zS]
  ·have e2:acc++Vd c.1 c.2 (f+1) j=acc++Vd c.1 c.2 f (j+1):=by rw[Vd,if_neg hb]
   have i2:=ih (j+1) acc qe qe
   rw[e2,<-i2,qa7]
   generalize((j+1:Nat):Int)=I1 at*
   generalize nz acc=L0 at*
   unfold Cc at*
   generalize((zX c.2 0:Nat):Int)=W0 at*
   generalize((zX c.2 1:Nat):Int)=W1 at*
   generalize((zX c.2 2:Nat):Int)=W2 at*
   generalize((zX c.2 3:Nat):Int)=W3 at*
   generalize(c.1:Int)=K1 at*
   simp[hlt,qp,ym,w2,hs,hb,qd4,w1]
theorem qmv(hp:Hp):∀(r:List (Nat×Nat)) (i:Nat) (acc:List Nat),cs.drop i=r->acc.length+wo r<=800000->i<=cs.length->
 B59_3 (S 2 1 (LI .u32 (nz acc))) (S k 5 (csL cs)) (.int .i64 (cs.length:Int)) (.int .i64 (i:Int)) hp=some (S 2 1 (LI .u32 (nz (acc++lsC r))),hp):=by
 intro r
 induction r with
 |nil=>
  intro i acc h ha hil
  have h1:=qL h
  have e:i=cs.length:=qe
  subst e
  have e2:acc++lsC []=acc:=by simp[lsC]
  rw[e2,ql6]
  generalize nz acc=L0 at*
  simp
 |cons c r ih=>
  intro i acc h ha hil
  obtain⟨e1,e2,hi,e3⟩:=qt h
  have hcc:=hcs c (znm e1)
  have ll:=qqq c.1 c.2 256 0
  have ll0:zx c.2 0=0:=rfl
  rw[ll0,znk,zoy]at ll
  have et:wo (c::r)=zx c.2 256+wo r:=rfl
  rw[et]at ha
  have lp:=vF c.2 256
  have si:=qyc cs k hcl i hi c hcc hp 256 0 acc rfl qe
  have i2:=ih (i+1) (acc++Vd c.1 c.2 256 0) e2 qi hi
  have el:acc++lsC (c::r)=acc++Vd c.1 c.2 256 0++lsC r:=by show acc++(Vd c.1 c.2 256 0++lsC r)=_;simp
  rw[i2]at si
  rw[el,<-si,ql6]
  have hlt:(i:Int)<(cs.length:Int):=qe
  have hlt':i<cs.length:=hi
  have ix:=wX k cs i c e1
  have g5:qp (Cc c) 0 5=some (Cc c):=rfl
  have c5:qn 5 (.agg (Cc c))=some (Cc c):=rfl
  have pz:qo Z5 0 (Cc c)=some (Cc c):=rfl
  unfold Z5 at pz
  generalize nz acc=L0 at*
  generalize csL cs=L1 at*
  unfold Cc at*
  generalize((zX c.2 0:Nat):Int)=W0 at*
  generalize((zX c.2 1:Nat):Int)=W1 at*
  generalize((zX c.2 2:Nat):Int)=W2 at*
  generalize((zX c.2 3:Nat):Int)=W3 at*
  generalize(c.1:Int)=K1 at*
  simp[hlt',ix,qp,qn,pz]
theorem qsi(ht:wo cs<=4096)(hp:Hp):run cxX 59 [S k 5 (csL cs)] hp=some (S 2 1 (LI .u32 (nz (lsC cs))),hp):=by
 have a:=qmv cs (rk k) hcs hcl hp cs 0 [] rfl (by simp only[zns];omega) (zn1 _)
 have ln:=Yt (rk k) cs
 have a':B59_3 (S 2 1 []) (S (rk k) 5 (csL cs)) (.int .i64 (cs.length:Int)) (.int .i64 0) hp=some (S 2 1 (LI .u32 (nz (lsC cs))),hp):=a
 rw[E59]
 generalize csL cs=L1 at*
 simp[ln,a']
end
theorem zdy(m n j:Nat):zX (m|||n) j=zX m j|||zX n j:=by
 apply zol
 intro x
 rw[Ye,zoa,zoa,Ye,Ye]
 cases decide (x<64)<;>simp
theorem zei(a b:Nat)(ha:a<18446744073709551616)(hb:b<18446744073709551616)(hp:Hp):run cxX 157 [.sc (.int .u64 (a:Int)),.sc (.int .u64 (b:Int))] hp=some (.sc (.int .u64 ((a|||b:Nat):Int)),hp):=by
 have o:=zfi a b ha hb
 rw[E157]
 generalize((a|||b:Nat):Int)=c at*
 simp[o,-zS]
theorem qkt(c:Nat×Nat)(r:List (Nat×Nat)):csL (c::r)=Cc c++csL r:=rfl
theorem qf8(k:Nat)(c:Nat×Nat)(r:List (Nat×Nat)):∃t,yb 5 (S k 5 (csL (c::r))) (some (.int .i64 1)) none none=some (S t 5 (csL r)):=by
 have l5:(Cc c).length=5:=rfl
 have hl:(csL (c::r)).length=5*(r.length+1):=by rw[vd];rfl
 have n5:(csL (c::r)).length/5=r.length+1:=by rw[hl];omega
 have hb:zo 0 ((r.length+1:Nat):Int) (some (.int .i64 ((1:Nat):Int))) 0=some 1:=xY .i64 qe
 have cut:((csL (c::r)).drop (1*5)).take ((r.length+1-1)*5)=csL r:=by
  rw[qkt,zrd,l5,zoh (by rw[l5];omega),zn4]
  have:(1:Nat)*5-5=0:=rfl
  rw[this,zpa,zn2 (by rw[vd];omega)]
 have key:∀s:AV,(s= .sl 5 (csL (c::r))\/s= .us 5 (csL (c::r)))->yb 5 s (some (.int .i64 1)) none none=some (.sl 5 (csL r)):=by
  rintro s (e|e)<;>subst e
  all_goals
   simp only[yb,if_true]
   have h51:¬((5:Nat)=1):=qh
   simp only[if_neg h51,n5]
   show(zo 0 _ none _).bind _=_
   simp only[qau,znc]
   have hb':zo 0 ((r.length+1:Nat):Int) (some (.int .i64 1)) 0=some 1:=hb
   rw[hb']
   simp only[znc,cut]
 have hne:csL (c::r)≠[]:=by rw[qkt];simp
 refine⟨0,?_⟩
 rcases jq k 5 (csL (c::r))with e|e|⟨e,e'⟩
 ·rw[e];exact key _ (.inl rfl)
 ·rw[e];exact key _ (.inr rfl)
 ·exact absurd e' hne
theorem qt2(cs:List (Nat×Nat))(k:Nat)(hcl:cs.length<=100000)(ht:wo cs<=1000000)(hp:Hp):∀(r:List (Nat×Nat)) (i n:Nat),cs.drop i=r->i+r.length=cs.length->n+wo r<=1000000->
 B99_3 (.int .i64 (n:Int)) (S k 5 (csL cs)) (.int .i64 (cs.length:Int)) (.int .i64 (i:Int)) hp=some (.sc (.int .i64 ((n+wo r:Nat):Int)),hp):=by
 intro r
 induction r with
 |nil=>
  intro i n h hil hn
  simp at hil
  have hlt:¬(i<cs.length):=qe
  rw[qll]
  simp[hlt,wo]
 |cons c r ih=>
  intro i n h hil hn
  obtain⟨e1,e2,hi,e3⟩:=qt h
  simp only[zna]at hil
  have et:wo (c::r)=zx c.2 256+wo r:=rfl
  rw[et]at hn⊢
  have i1:=ih (i+1) (n+zx c.2 256) e2 qe qe
  have ix:=wX k cs i c e1
  have mn:=Qj c hp0
  have w1:IntKind.i64.wrap ((n:Int)+((zx c.2 256:Nat):Int))=((n+zx c.2 256:Nat):Int):=qj
  have w2:IntKind.i64.wrap ((i:Int)+1)=((i+1:Nat):Int):=qj
  rw[qll]
  have ea:n+(zx c.2 256+wo r)=n+zx c.2 256+wo r:=qe
  rw[ea]
  generalize((n+zx c.2 256+wo r:Nat):Int)=R at*
  generalize((n+zx c.2 256:Nat):Int)=N at*
  generalize((zx c.2 256:Nat):Int)=P at*
  generalize((i+1:Nat):Int)=I at*
  simp[hi,ix,qp,qo,mn,w1,w2,i1]
theorem qsh(cs:List (Nat×Nat))(k:Nat)(hcl:cs.length<=100000)(ht:wo cs<=1000000)(hp:Hp):run cxX 99 [S k 5 (csL cs)] hp=some (.sc (.int .i64 (wo cs:Nat)),hp):=by
 have h:=qt2 cs (rk k) hcl ht hp cs 0 0 rfl qg qe
 have ln:=Yt (rk k) cs
 rw[E99]
 simp at h
 simp[ln,h]
def Wj(key m j:Nat):List AV:=[.sc (.int .u32 (key:Int)),.sc (.int .u64 ((if 0<j then zX m 0 else 0:Nat):Int)),.sc (.int .u64 ((if 1<j then zX m 1 else 0:Nat):Int)),.sc (.int .u64 ((if 2<j then zX m 2 else 0:Nat):Int)),.sc (.int .u64 ((if 3<j then zX m 3 else 0:Nat):Int))]
section
variable (x7 x0 x1:AV)(c d:Nat×Nat)(key:Nat)(out:List (Nat×Nat))(ho:out.length<=100000)(hp:Hp)
include ho
theorem qhp(hk:0<zx (c.2|||d.2) 256):
 B156_10 x0 x1 (.fn 157 []) (S 2 5 (csL out)) (Cc c) (Cc d) hp=B156_2 x0 x1 (.fn 157 []) (S 2 5 (csL (out++[(d.1,c.2|||d.2)]))) hp:=by
 have st:∀j:Nat,j<4->B156_12 x0 x1 (.fn 157 []) (S 2 5 (csL out)) (.int .i64 (j:Int)) (Cc c) (Cc d) (Wj d.1 (c.2|||d.2) j) hp=B156_12 x0 x1 (.fn 157 []) (S 2 5 (csL out)) (.int .i64 ((j+1:Nat):Int)) (Cc c) (Cc d) (Wj d.1 (c.2|||d.2) (j+1)) hp:=by
  intro j hj
  have o:=zei (zX c.2 j) (zX d.2 j) (QI _ _) (QI _ _) hp0
  rw[<-zdy]at o
  have ix:idx 4 (.int .i64 (j:Int))=some j:=zr .i64 hj
  have g1:=Qr c j hj
  have g2:=Qr d j hj
  have w2:IntKind.i64.wrap ((j:Int)+1)=((j+1:Nat):Int):=qj
  have hlt:(j:Int)<4:=qe
  have pn:qo (Wj d.1 (c.2|||d.2) j) (Nat.add 1 (Nat.add 0 j)) [.sc (.int .u64 ((zX (c.2|||d.2) j:Nat):Int))]=some (Wj d.1 (c.2|||d.2) (j+1)):=by
   have:j=0\/j=1\/j=2\/j=3:=qe
   rcases this with e|e|e|e<;>subst e<;>rfl
  have gf:Xn (.fn 157 [])=some (157,[]):=rfl
  have rf:ro (.fn 157 [])= .fn 157 []:=rfl
  rw[qbf]
  generalize Wj d.1 (c.2|||d.2) (j+1)=Z1 at*
  generalize Wj d.1 (c.2|||d.2) j=Z0 at*
  generalize((j+1:Nat):Int)=J at*
  generalize((zX (c.2|||d.2) j:Nat):Int)=W at*
  generalize Cc c=C1 at*
  generalize Cc d=C2 at*
  simp only[zqv,znk]at g1 g2 pn
  simp[hlt,ix,g1,g2,gf,rf,o,pn,w2]
 have mn:=Qj (d.1,c.2|||d.2) hp0
 have ap:=zck out (d.1,c.2|||d.2) ho
 have e4:Wj d.1 (c.2|||d.2) 4=Cc (d.1,c.2|||d.2):=rfl
 have e0:Wj d.1 (c.2|||d.2) 0=[.sc (.int .u32 (d.1:Int)),.sc (.int .u64 0),.sc (.int .u64 0),.sc (.int .u64 0),.sc (.int .u64 0)]:=rfl
 have s0:=st 0 qh
 have s1:=st 1 qh
 have s2:=st 2 qh
 have s3:=st 3 qh
 simp only[znk,Nat.reduceAdd,zp2]at s0 s1 s2 s3
 rw[s1,s2,s3,e4,e0]at s0
 have hk':(0:Int)<((zx (c.2|||d.2) 256:Nat):Int):=qe
 have gs:ql (Cc d) 0=some (.int .u32 (d.1:Int)):=rfl
 have e10:B156_10 x0 x1 (.fn 157 []) (S 2 5 (csL out)) (Cc c) (Cc d) hp=B156_12 x0 x1 (.fn 157 []) (S 2 5 (csL out)) (.int .i64 0) (Cc c) (Cc d) [.sc (.int .u32 (d.1:Int)),.sc (.int .u64 0),.sc (.int .u64 0),.sc (.int .u64 0),.sc (.int .u64 0)] hp:=by
  rw[qpm]
  generalize Cc c=C1 at*
  generalize Cc d=C2 at*
  simp[gs]
 obtain⟨C3,hC3⟩:∃C3,C3=Cc (d.1,c.2|||d.2):=⟨_,rfl⟩
 have ro5:C3.map ro1=C3:=by rw[hC3];rfl
 have g5:qp C3 0 5=some C3:=by rw[hC3];rfl
 have l5:C3.length=5:=by rw[hC3];rfl
 have v5:C3.all vl=true:=by rw[hC3];rfl
 have p5:∀a b c d e:AV,qo [a,b,c,d,e] 0 C3=some C3:=fun _ _ _ _ _=>by rw[hC3];rfl
 rw[e10,s0,qbf]
 rw[<-hC3]at mn ap⊢
 simp[-List.all_eq_true,-List.map_map,-List.all_map,g5,ro5,mn,hk,l5,p5,v5,ap]
end
theorem qu5:∀(n:Nat) (a b out:List (Nat×Nat)) (k k':Nat) (hp:Hp),a.length+b.length<=n->out.length+n<=100000->(∀c∈a,0<zx c.2 256)->(∀c∈b,0<zx c.2 256)->(∀c∈a,c.1<4294967296)->(∀c∈b,c.1<4294967296)->
 B156_2 (S k 5 (csL a)) (S k' 5 (csL b)) (.fn 157 []) (S 2 5 (csL out)) hp=some (S 2 5 (csL (out++Zz a b)),hp):=by
 intro n
 induction n with
 |zero=>
  intro a b out k k' hp hn ho ha hb ha1 hb1
  have e1:a=[]:=znp.mp qe
  have e2:b=[]:=znp.mp qe
  subst e1;subst e2
  have l0:∀k,xU (S k 5 (csL []))=some 0:=fun k=>Yt k []
  rw[qex]
  simp[l0]
 |succ n ih=>
  intro a b out k k' hp hn ho ha hb ha1 hb1
  have la:=fun k=>Yt k a
  have lb:=fun k=>Yt k b
  have wl:IntKind.i64.wrap ((a.length:Int)+(b.length:Int))=(a.length:Int)+(b.length:Int):=qm qe qe
  --the first one's chunk alone
  have goA:∀(c:Nat×Nat) (r:List (Nat×Nat)),a=c::r->B156_6 (S k 5 (csL a)) (S k' 5 (csL b)) (.fn 157 []) (S 2 5 (csL out)) [.sc (.int .u32 0),.sc (.int .u64 0),.sc (.int .u64 0),.sc (.int .u64 0),.sc (.int .u64 0)] [.sc (.int .u32 0),.sc (.int .u64 0),.sc (.int .u64 0),.sc (.int .u64 0),.sc (.int .u64 0)] hp=some (S 2 5 (csL (out++c::Zz r b)),hp):=by
   intro c r e
   subst e
   obtain⟨t,sl⟩:=qf8 (rk k) c r
   have ix:∀k,jE 5 (S k 5 (csL (c::r))) (.int .i64 0)=some (Cc c):=fun k=>wX k (c::r) 0 c rfl
   have pc:=ha c qg
   have e0:Cc (c.1,0)=[.sc (.int .u32 (c.1:Int)),.sc (.int .u64 0),.sc (.int .u64 0),.sc (.int .u64 0),.sc (.int .u64 0)]:=by simp[VN]
   have inn:=qhp (S t 5 (csL r)) (S k' 5 (csL b)) c (c.1,0) out qe hp (by rw[Nat.or_zero];exact pc)
   have i1:=ih r b (out++[c]) t k' hp (by simp at hn;omega) qi (fun x hx=>ha x (by simp[hx])) hb (fun x hx=>ha1 x (by simp[hx])) hb1
   have ec:(c.1,c.2|||0)=c:=by rw[Nat.or_zero]
   have ec2:((c.1,0):Nat×Nat).1=c.1:=rfl
   simp only[ec2,Nat.or_zero]at inn
   rw[e0]at inn
   have el:out++[c]++Zz r b=out++c::Zz r b:=qg
   rw[el]at i1
   rw[i1]at inn
   have g5:qp (Cc c) 0 5=some (Cc c):=rfl
   have r5:(Cc c).map ro1=Cc c:=rfl
   have l5:(Cc c).length=5:=rfl
   have p5:∀a b d e f:AV,qo [a,b,d,e,f] 0 (Cc c)=some (Cc c):=fun _ _ _ _ _=>rfl
   have s5:ql (Cc c) 0=some (.int .u32 (c.1:Int)):=rfl
   have q5:∀a b d e f z:AV,qo [a,b,d,e,f] 0 [z]=some [z,b,d,e,f]:=fun _ _ _ _ _ _=>rfl
   rw[qww]
   generalize Cc c=C1 at*
   simp[ix,g5,sl,r5,l5,p5,s5,q5,inn]
  have goB:∀(d:Nat×Nat) (s:List (Nat×Nat)),b=d::s->B156_9 (S k 5 (csL a)) (S k' 5 (csL b)) (.fn 157 []) (S 2 5 (csL out)) [.sc (.int .u32 0),.sc (.int .u64 0),.sc (.int .u64 0),.sc (.int .u64 0),.sc (.int .u64 0)] [.sc (.int .u32 0),.sc (.int .u64 0),.sc (.int .u64 0),.sc (.int .u64 0),.sc (.int .u64 0)] hp=some (S 2 5 (csL (out++d::Zz a s)),hp):=by
   intro d s e
   subst e
   obtain⟨t,sl⟩:=qf8 (rk k') d s
   have ix:∀k,jE 5 (S k 5 (csL (d::s))) (.int .i64 0)=some (Cc d):=fun k=>wX k (d::s) 0 d rfl
   have pd:=hb d qg
   have e0:Cc (0,0)=[.sc (.int .u32 0),.sc (.int .u64 0),.sc (.int .u64 0),.sc (.int .u64 0),.sc (.int .u64 0)]:=by simp[VN]
   have inn:=qhp (S k 5 (csL a)) (S t 5 (csL s)) (0,0) d out qe hp (by rw[Nat.zero_or];exact pd)
   have i1:=ih a s (out++[d]) k t hp (by simp at hn;omega) qi ha (fun x hx=>hb x (by simp[hx])) ha1 (fun x hx=>hb1 x (by simp[hx]))
   simp only[Nat.zero_or]at inn
   rw[e0]at inn
   have el:out++[d]++Zz a s=out++d::Zz a s:=qg
   rw[el]at i1
   rw[i1]at inn
   have g5:qp (Cc d) 0 5=some (Cc d):=rfl
   have r5:(Cc d).map ro1=Cc d:=rfl
   have l5:(Cc d).length=5:=rfl
   have p5:∀a b c e f:AV,qo [a,b,c,e,f] 0 (Cc d)=some (Cc d):=fun _ _ _ _ _=>rfl
   rw[qwv]
   generalize Cc d=C1 at*
   simp[ix,g5,sl,r5,l5,p5,inn]
  have wY:∀(c d:Nat×Nat) (r s:List (Nat×Nat)),a=c::r->b=d::s->c.1=d.1->B156_4 (S k 5 (csL a)) (S k' 5 (csL b)) (.fn 157 []) (S 2 5 (csL out)) [.sc (.int .u32 0),.sc (.int .u64 0),.sc (.int .u64 0),.sc (.int .u64 0),.sc (.int .u64 0)] [.sc (.int .u32 0),.sc (.int .u64 0),.sc (.int .u64 0),.sc (.int .u64 0),.sc (.int .u64 0)] hp=some (S 2 5 (csL (out++(c.1,c.2|||d.2)::Zz r s)),hp):=by
   intro c d r s e e2 ek
   subst e;subst e2
   obtain⟨t,sl⟩:=qf8 (rk k) c r
   obtain⟨t',sl'⟩:=qf8 (rk k') d s
   have ix:∀k,jE 5 (S k 5 (csL (c::r))) (.int .i64 0)=some (Cc c):=fun k=>wX k (c::r) 0 c rfl
   have ix':∀k,jE 5 (S k 5 (csL (d::s))) (.int .i64 0)=some (Cc d):=fun k=>wX k (d::s) 0 d rfl
   have pc:=ha c qg
   have inn:=qhp (S t 5 (csL r)) (S t' 5 (csL s)) c d out qe hp (by have:=qgr c.2 d.2 256;omega)
   rw[<-ek]at inn
   have i1:=ih r s (out++[(c.1,c.2|||d.2)]) t t' hp (by simp at hn;omega) qi (fun x hx=>ha x (by simp[hx])) (fun x hx=>hb x (by simp[hx])) (fun x hx=>ha1 x (by simp[hx])) (fun x hx=>hb1 x (by simp[hx]))
   have el:out++[(c.1,c.2|||d.2)]++Zz r s=out++(c.1,c.2|||d.2)::Zz r s:=qg
   rw[el]at i1
   rw[i1]at inn
   have g5:qp (Cc c) 0 5=some (Cc c):=rfl
   have r5:(Cc c).map ro1=Cc c:=rfl
   have l5:(Cc c).length=5:=rfl
   have p5:∀a b d e f:AV,qo [a,b,d,e,f] 0 (Cc c)=some (Cc c):=fun _ _ _ _ _=>rfl
   have g5':qp (Cc d) 0 5=some (Cc d):=rfl
   have r5':(Cc d).map ro1=Cc d:=rfl
   have l5':(Cc d).length=5:=rfl
   have p5':∀a b c e f:AV,qo [a,b,c,e,f] 0 (Cc d)=some (Cc d):=fun _ _ _ _ _=>rfl
   rw[qwx]
   generalize Cc c=C1 at*
   generalize Cc d=C2 at*
   simp[ix,ix',g5,sl,sl',r5,l5,p5,g5',r5',l5',p5',inn]
  rw[qex]
  cases a with
  |nil=>
   cases b with
   |nil=>
    simp at la lb
    simp[la,lb]
   |cons d s=>
    have g:=goB d s rfl
    have lpos:¬((s.length:Int)+1=0):=qe
    have lp2:(0:Int)<(s.length:Int)+1:=qe
    have b8:B156_8 (S k 5 (csL [])) (S k' 5 (csL (d::s))) (.fn 157 []) (S 2 5 (csL out)) [.sc (.int .u32 0),.sc (.int .u64 0),.sc (.int .u64 0),.sc (.int .u64 0),.sc (.int .u64 0)] [.sc (.int .u32 0),.sc (.int .u64 0),.sc (.int .u64 0),.sc (.int .u64 0),.sc (.int .u64 0)] hp=some (S 2 5 (csL (out++d::Zz [] s)),hp):=by
     rw[<-g,qew]
     simp only[zns]at la
     simp[la]
    rw[qtn]at b8⊢
    simp only[zns,zna]at la lb wl
    simp at wl
    simp[la,lb,wl,lpos,lp2,b8]
  |cons c r=>
   cases b with
   |nil=>
    have g:=goA c r rfl
    have lp2:(0:Int)<(r.length:Int)+1:=qe
    rw[qtm]at g⊢
    simp only[zns,zna]at la lb wl
    simp at wl
    simp[la,lb,wl,lp2,g]
   |cons d s=>
    have ixc:∀k,jE 5 (S k 5 (csL (c::r))) (.int .i64 0)=some (Cc c):=fun k=>wX k (c::r) 0 c rfl
    have ixd:∀k,jE 5 (S k 5 (csL (d::s))) (.int .i64 0)=some (Cc d):=fun k=>wX k (d::s) 0 d rfl
    have sc5:ql (Cc c) 0=some (.int .u32 (c.1:Int)):=rfl
    have sd5:ql (Cc d) 0=some (.int .u32 (d.1:Int)):=rfl
    have n1:¬((s.length:Int)+1=0):=qe
    have n2:(0:Int)<(r.length:Int)+1:=qe
    have n3:¬((r.length:Int)+1=0):=qe
    have n4:(0:Int)<(r.length:Int)+1+((s.length:Int)+1):=qe
    have gA:=goA c r rfl
    have gB:=goB d s rfl
    have gC:=wY c d r s rfl rfl
    simp only[zna]at la lb wl
    simp only[zrl,zrm,zp2]at wl
    rw[jS]
    have b8:¬(c.1<d.1)->B156_8 (S k 5 (csL (c::r))) (S k' 5 (csL (d::s))) (.fn 157 []) (S 2 5 (csL out)) [.sc (.int .u32 0),.sc (.int .u64 0),.sc (.int .u64 0),.sc (.int .u64 0),.sc (.int .u64 0)] [.sc (.int .u32 0),.sc (.int .u64 0),.sc (.int .u64 0),.sc (.int .u64 0),.sc (.int .u64 0)] hp=some (S 2 5 (csL (out++if d.1<c.1 then d::Zz (c::r) s else(c.1,c.2|||d.2)::Zz r s)),hp):=by
     intro hn1
     rw[qew]
     by_cases l2:d.1<c.1
     ·rw[if_pos l2]
      generalize Cc c=C1 at*
      generalize Cc d=C2 at*
      simp[la,n3,ixc,ixd,sc5,sd5,l2,gB]
     ·rw[if_neg l2]
      have gC:=gC qe
      generalize Cc c=C1 at*
      generalize Cc d=C2 at*
      simp[la,n3,ixc,ixd,sc5,sd5,l2,gC]
    by_cases l1:c.1<d.1
    ·rw[if_pos l1]
     generalize Cc c=C1 at*
     generalize Cc d=C2 at*
     simp[la,lb,wl,n1,n2,n4,ixc,ixd,sc5,sd5,l1,gA]
    ·rw[if_neg l1]
     have b8:=b8 l1
     generalize Cc c=C1 at*
     generalize Cc d=C2 at*
     simp[la,lb,wl,n1,n2,n4,ixc,ixd,sc5,sd5,l1,b8]
theorem zeh(a b:List (Nat×Nat))(k k':Nat)(hl:a.length+b.length<=100000)(ha:∀c∈a,Xc c)(hb:∀c∈b,Xc c)(hp:Hp):run cxX 98 [S k 5 (csL a),S k' 5 (csL b)] hp=some (S 2 5 (csL (Zz a b)),hp):=by
 have h:=fun k k'=>qu5 (a.length+b.length) a b [] k k' hp0 (znd _) (by simpa using hl) (fun c hc=>(ha c hc).2.2) (fun c hc=>(hb c hc).2.2) (fun c hc=>by have:=(ha c hc).1;omega) (fun c hc=>by have:=(hb c hc).1;omega)
 have h2:∀k k',run cxX 156 [S k 5 (csL a),S k' 5 (csL b),.fn 157 []] hp0=some (S 2 5 (csL (Zz a b)),hp0):=by
  intro k k'
  have e0:csL []=[]:=rfl
  have:=h k k'
  have e5:S 2 5 []=S 2 1 []:=rfl
  rw[e0,e5]at this
  rw[E156]
  simpa using this
 have rf:ro (.fn 157 [])= .fn 157 []:=rfl
 rw[E98]
 simp[rf,h2]
abbrev Fu(n last kk:Nat)(T1 T2:AV)(b1 b2 i up:Nat):List AV:=[.sc (.int .i64 (n:Int)),.sc (.int .u32 (last:Int)),.sc (.int .i64 (kk:Int)),T1,T2,.ptr b1 0 0,.ptr b2 0 0,.sc (.int .i64 (i:Int)),.sc (.int .u32 (up:Int))]
theorem qnu(q k g:Nat)(hq:q=g/2^k)(hg:g<4294967296)(t:TypeId)(o o':Operand):qy Tryz.prog .or t o o' (.int .u32 ((q*2^k:Nat):Int)) (.int .u32 ((g%2^k:Nat):Int))=some (.int .u32 (g:Int)):=by
 rw[zS]
 have hmul:g/2^k*2^k<=g:=zop _ _
 have hmod:g%2^k<=g:=Nat.mod_le _ _
 have hlt:g%2^k<2^k:=zqa _ (zpk _)
 have hdm:=Nat.div_add_mod g (2^k)
 have e:(BitVec.ofInt IntKind.u32.bits ((q*2^k:Nat):Int)|||BitVec.ofInt IntKind.u32.bits ((g%2^k:Nat):Int)).toNat=g:=by
  show(BitVec.ofInt 32 ((q*2^k:Nat):Int)|||BitVec.ofInt 32 ((g%2^k:Nat):Int)).toNat=_
  subst hq
  rw[zpt,znx,znx]
  have e1:(((g/2^k*2^k:Nat):Int)%((2^32:Nat):Int)).toNat=2^k*(g/2^k):=by rw[zof (2^k)];omega
  have e2:(((g%2^k:Nat):Int)%((2^32:Nat):Int)).toNat=g%2^k:=qe
  rw[e1,e2,<-Nat.two_pow_add_eq_or_of_lt hlt (g/2^k)]
  omega
 rw[e,qK qe qe]
theorem qix(n last kk t1 t2:Nat)(A B:List Int)(hp:Hp):
 run cxX 112 [.agg [.sc (.int .i64 (n:Int)),.sc (.int .u32 (last:Int)),.sc (.int .i64 (kk:Int)),S t1 1 (LI .u8 A),S t2 1 (LI .u8 B)]] hp=
  some (.ptr (hp.next+2) 0 0,((hp.new (Rb (rk t1) A 0 false)).new (Rb (rk t2) B 0 false)).new (Fu n last kk (S (rk t1) 1 (LI .u8 A)) (S (rk t2) 1 (LI .u8 B)) hp.next (hp.next+1) 0 0)):=by
 have r1:=Jv (rk t1) A hp
 have r2:=Jv (rk t2) B (hp.new (Rb (rk t1) A 0 false))
 simp only[Wx]at r1 r2
 have n1:(hp.new (Rb (rk t1) A 0 false)).next=hp.next+1:=rfl
 have n2:((hp.new (Rb (rk t1) A 0 false)).new (Rb (rk t2) B 0 false)).next=hp.next+2:=rfl
 rw[n1]at r2
 rw[E112]
 generalize hp.new (Rb (rk t1) A 0 false)=H1 at*
 generalize H1.new (Rb (rk t2) B 0 false)=H2 at*
 simp[qn,qp,qs,r1,r2,qo,n2]
 rfl
section
variable (n last kk t1 t2:Nat)(T1 T2:AV)(A B:List Int)(c b1 b2:Nat)(hkk:kk<=32)(hn:n<=4096)(hlast:last<4294967296)(hq:last/2^kk<=8192)(hA:A.length<=100000000)(hB:B.length<=100000000)(A8:By A)(B8:By B)(h1:c≠b1)(h2:c≠b2)(h12:b1≠b2)
include hkk hn hlast hq hA hB A8 B8 h1 h2 h12
theorem qcm(i up x q1 q2:Nat)(hi:i<n)(hx:x<=last)(hup:up<=x/2^kk)(hp:Hp)(h:hp.rd c 0=some (Fu n last kk T1 T2 b1 b2 i up))(r1:hp.rd b1 0=some (Rb t1 A q1 false))(r2:hp.rd b2 0=some (Rb t2 B q2 false))(a1:At A q1 (ko x kk))(a2:At B q2 (una (x/2^kk-up))):
 ∃hp',run cxX 113 [.ptr c 0 0] hp=some (.tup [.sc (.int .u32 (x:Int)),.sc (.bool true)],hp')/\hp'.rd c 0=some (Fu n last kk T1 T2 b1 b2 (i+1) (x/2^kk))/\
  hp'.rd b1 0=some (Rb t1 A (q1+(ko x kk).length) false)/\hp'.rd b2 0=some (Rb t2 B (q2+(una (x/2^kk-up)).length) false)/\hp'.next=hp.next/\∀a,a≠c->a≠b1->a≠b2->hp'.get a=hp.get a:=by
 have hxl:x/2^kk<=last/2^kk:=zpp hx
 have hmul:x/2^kk*2^kk<=x:=zop _ _
 have hmod:x%2^kk<=x:=Nat.mod_le _ _
 have os:=qnu (x/2^kk) kk x rfl qe
 have l1:=a1.1
 have l2:=a2.1
 rw[qg1]at l1⊢
 rw[YL]at l2⊢
 have un:=Wq b2 t2 B q2 false hp hB B8 (last/2^kk+1) qe qe r2
 rw[qzi a2 qe]at un
 have e1:q2+(x/2^kk-up)+1=q2+(x/2^kk-up+1):=qe
 rw[e1]at un
 let H1:=hp.put b2 0 (Rb t2 B (q2+(x/2^kk-up+1)) false)
 have H1c:H1.rd c 0=some (Fu n last kk T1 T2 b1 b2 i up):=by show(hp.put b2 0 _).rd c 0=_;rw[qB _ _ h2];exact h
 let H2:=H1.put c 0 (Fu n last kk T1 T2 b1 b2 i (x/2^kk))
 have H2c:H2.rd c 0=some (Fu n last kk T1 T2 b1 b2 i (x/2^kk)):=qr _ _ _
 have H2b:H2.rd b1 0=some (Rb t1 A q1 false):=by
  show((hp.put b2 0 _).put c 0 _).rd b1 0=_
  rw[qB _ _ (fun e=>h1 e.symm),qB _ _ h12];exact r1
 have tk:=qct b1 t1 A q1 false H2 hA A8 kk qe qe H2b
 rw[zhe A x kk 0 _ a1,zqb,znk]at tk
 let H3:=H2.put b1 0 (Rb t1 A (q1+kk) false)
 have H3c:H3.rd c 0=some (Fu n last kk T1 T2 b1 b2 i (x/2^kk)):=by show(H2.put b1 0 _).rd c 0=_;rw[qB _ _ h1];exact H2c
 have H3a:H3.rd b1 0=some (Rb t1 A (q1+kk) false):=qr _ _ _
 have H3b:H3.rd b2 0=some (Rb t2 B (q2+(x/2^kk-up+1)) false):=by
  show(((hp.put b2 0 _).put c 0 _).put b1 0 _).rd b2 0=_
  rw[qB _ _ (fun e=>h12 e.symm),qB _ _ (fun e=>h2 e.symm),qr]
 have s2:=vy b2 t2 B _ false H3 H3b
 have s1:=vy b1 t1 A _ false H3 H3a
 let H4:=H3.put c 0 (Fu n last kk T1 T2 b1 b2 (i+1) (x/2^kk))
 refine⟨H4,?_,qr _ _ _,?_,?_,rfl,fun a c1 c2 c3=>?_⟩
 ·have gl:=zhr h
  have g1:H1.get c=hp.get c:=by simp[H1,Hp.put,h2]
  have g3:H3.get c=H2.get c:=by simp[H3,Hp.put,h1]
  have sg1:∀q j,xz (AV.ptr c q j,1) hp.get H1.get=some ():=fun q j=>ZF (by unfold yO;simp only[YE,vO,znc,g1])
  have sg2:∀q j,xz (AV.ptr c q j,1) H2.get H3.get=some ():=fun q j=>ZF (by unfold yO;simp only[YE,vO,znc,g3])
  have m1:H1=hp.put b2 0 (Rb t2 B (q2+(x/2^kk-up+1)) false):=rfl
  have m2:H1.put c 0 (Fu n last kk T1 T2 b1 b2 i (x/2^kk))=H2:=rfl
  have m3:H2.put b1 0 (Rb t1 A (q1+kk) false)=H3:=rfl
  have m4:H3.put c 0 (Fu n last kk T1 T2 b1 b2 (i+1) (x/2^kk))=H4:=rfl
  simp only at un tk
  rw[<-m1]at un
  rw[m3]at tk
  have w1:IntKind.i64.wrap ((last/2^kk:Nat):Int)=((last/2^kk:Nat):Int):=(fun(z:Nat) (hz:z<=8192)=>qm (z:=(z:Int)) qe qe) _ hq
  have w2:IntKind.i64.wrap (((last/2^kk:Nat):Int)+1)=((last/2^kk+1:Nat):Int):=qj
  have w3:IntKind.u32.wrap ((x/2^kk-up:Nat):Int)=((x/2^kk-up:Nat):Int):=qK qe qe
  have w4:IntKind.u32.wrap ((up:Int)+((x/2^kk-up:Nat):Int))=((x/2^kk:Nat):Int):=by rw[qK]<;>omega
  have w5:IntKind.u32.wrap ((x%2^kk:Nat):Int)=((x%2^kk:Nat):Int):=(fun(z:Nat) (hz:z<=x)=>qK (z:=(z:Int)) qe qe) _ hmod
  have w6:IntKind.i64.wrap ((i:Int)+1)=((i+1:Nat):Int):=qj
  have sr:=fun t o o'=>xh .u32 last kk (by show kk<=32;exact hkk) t o o' .i64
  have sl:∀t o o',qy Tryz.prog .shl t o o' (.int .u32 ((x/2^kk:Nat):Int)) (.int .i64 (kk:Int))=some (.int .u32 ((x/2^kk*2^kk:Nat):Int)):=by
   intro t o o'
   rw[zW _ _ _ _ _ _ _ _ qe]
   have e:min (kk:Int).toNat IntKind.u32.bits=kk:=by show min (kk:Int).toNat 32=kk;omega
   rw[e]
   have e2:((x/2^kk:Nat):Int)*2^kk=((x/2^kk*2^kk:Nat):Int):=qg
   rw[e2]
   congr 2
   exact(fun(z:Nat) (hz:z<=x)=>qK (z:=(z:Int)) qe qe) _ hmul
  have hge:¬((n:Int)<=(i:Int)):=qe
  simp only[Fu]at h H1c H2c H3c m2 m4
  rw[E113]
  clear_value H4 H3 H2 H1
  clear l1 l2 a1 a2 e1 hup hxl hmul hmod
  generalize((last/2^kk+1:Nat):Int)=V1 at*
  generalize((last/2^kk:Nat):Int)=V0 at*
  generalize((x/2^kk-up:Nat):Int)=V2 at*
  generalize((x/2^kk*2^kk:Nat):Int)=V4 at*
  generalize((x/2^kk:Nat):Int)=V3 at*
  generalize((x%2^kk:Nat):Int)=V5 at*
  generalize((i+1:Nat):Int)=V6 at*
  have gs1:∀(x0:AV) (v:Value) (r:List AV),ql (x0::.sc v::r) 1=some v:=fun _ _ _=>rfl
  have gs2:∀(x0 x1:AV) (v:Value) (r:List AV),ql (x0::x1::.sc v::r) 2=some v:=fun _ _ _ _=>rfl
  have gs7:∀(x0 x1 x2 x3 x4 x5 x6:AV) (v:Value) (r:List AV),ql (x0::x1::x2::x3::x4::x5::x6::.sc v::r) 7=some v:=fun _ _ _ _ _ _ _ _ _=>rfl
  have gs8:∀(x0 x1 x2 x3 x4 x5 x6 x7:AV) (v:Value) (r:List AV),ql (x0::x1::x2::x3::x4::x5::x6::x7::.sc v::r) 8=some v:=fun _ _ _ _ _ _ _ _ _ _=>rfl
  have gs0:∀(v:Value) (r:List AV),ql (.sc v::r) 0=some v:=fun _ _=>rfl
  have gc5:∀(x0 x1 x2 x3 x4 x5:AV) (r:List AV),qs (x0::x1::x2::x3::x4::x5::r) 5=some x5:=fun _ _ _ _ _ _ _=>rfl
  have gc6:∀(x0 x1 x2 x3 x4 x5 x6:AV) (r:List AV),qs (x0::x1::x2::x3::x4::x5::x6::r) 6=some x6:=fun _ _ _ _ _ _ _ _=>rfl
  have p8:∀(x0 x1 x2 x3 x4 x5 x6 x7 x8 z:AV),qo [x0,x1,x2,x3,x4,x5,x6,x7,x8] 8 [z]=some [x0,x1,x2,x3,x4,x5,x6,x7,z]:=fun _ _ _ _ _ _ _ _ _ _=>rfl
  have p7:∀(x0 x1 x2 x3 x4 x5 x6 x7 x8 z:AV),qo [x0,x1,x2,x3,x4,x5,x6,x7,x8] 7 [z]=some [x0,x1,x2,x3,x4,x5,x6,z,x8]:=fun _ _ _ _ _ _ _ _ _ _=>rfl
  simp[h,gs7,gs0,hge,qxp,gs8,gc6,gs1,gs2,sr,xJ,w1,w2,un,Xv,w3,w4,H1c,p8,sg1,m2,H2c,sl,gc5,tk,jK,w5,os,sg2,H3c,s2,s1,qxo,w6,p7,m4]
 ·show(H3.put c 0 _).rd b1 0=_;rw[qB _ _ (fun e=>h1 e.symm)];exact H3a
 ·show(H3.put c 0 _).rd b2 0=_;rw[qB _ _ (fun e=>h2 e.symm)];exact H3b
 ·show((((hp.put b2 0 _).put c 0 _).put b1 0 _).put c 0 _).get a=_
  simp[Hp.put,c1,c2,c3]
end
theorem qcl(n last kk:Nat)(T1 T2:AV)(c b1 b2 up:Nat)(hp:Hp)(h:hp.rd c 0=some (Fu n last kk T1 T2 b1 b2 n up)):
 run cxX 113 [.ptr c 0 0] hp=some (.tup [.sc (.int .u32 0),.sc (.bool false)],hp):=by
 have gs7:∀(x0 x1 x2 x3 x4 x5 x6:AV) (v:Value) (r:List AV),ql (x0::x1::x2::x3::x4::x5::x6::.sc v::r) 7=some v:=fun _ _ _ _ _ _ _ _ _=>rfl
 have gs0:∀(v:Value) (r:List AV),ql (.sc v::r) 0=some v:=fun _ _=>rfl
 simp only[Fu]at h
 rw[E113]
 simp[h,gs7,gs0,qxq]
theorem Kg:∀(l:List Nat),zO l->∀x∈l,x<=qI l
 |[],_,x,h=>by cases h
 |[a],_,x,h=>by rcases zp1.mp h with rfl;exact znd _
 |a::b::r,hr,x,h=>by
  rw[Yu]
  have ih:=Kg (b::r) hr.2
  rcases zne.mp h with rfl|h
  ·exact zon hr.1 (ih b qg)
  ·exact ih x h
section
variable (n last kk t1 t2:Nat)(T1 T2:AV)(A B:List Int)(c b1 b2:Nat)(hkk:kk<=32)(hn:n<=4096)(hlast:last<4294967296)(hq:last/2^kk<=8192)(hA:A.length<=100000000)(hB:B.length<=100000000)(A8:By A)(B8:By B)(h1:c≠b1)(h2:c≠b2)(h12:b1≠b2)
include hkk hn hlast hq hA hB A8 B8 h1 h2 h12
theorem qov:∀(r:List Nat) (i p q1 q2:Nat) (acc:List Nat) (hp:Hp),i+r.length=n->zO (p::r)->(∀x∈r,x<=last)->acc.length=i->hp.rd c 0=some (Fu n last kk T1 T2 b1 b2 i (p/2^kk))->hp.rd b1 0=some (Rb t1 A q1 false)->hp.rd b2 0=some (Rb t2 B q2 false)->At A q1 (qO kk r)->At B q2 (qG kk (p/2^kk) r)->
 ∃v o hp1 hp2,run cxX 113 [.ptr c 0 0] hp=some (.tup [.sc v,.sc (.bool o)],hp1)/\B65_4 (S 2 1 (LI .u32 (nz acc))) (.ptr c 0 0) v (.bool o) hp1=some (S 2 1 (LI .u32 (nz (acc++r))),hp2):=by
 intro r
 induction r with
 |nil=>
  intro i p q1 q2 acc hp hi hf hx ha hc r1 r2 a1 a2
  have e:i=n:=hi
  subst e
  refine⟨_,_,_,hp,qcl i last kk T1 T2 c b1 b2 _ hp hc,?_⟩
  rw[ql3,znz]
  generalize nz acc=L0
  simp
 |cons x r ih=>
  intro i p q1 q2 acc hp hi hf hx ha hc r1 r2 a1 a2
  simp only[zna]at hi
  have el:qO kk (x::r)=ko x kk++qO kk r:=rfl
  have eh:qG kk (p/2^kk) (x::r)=una (x/2^kk-p/2^kk)++qG kk (x/2^kk) r:=rfl
  rw[el]at a1
  rw[eh]at a2
  obtain⟨a1a,a1b⟩:=a1.app
  obtain⟨a2a,a2b⟩:=a2.app
  obtain⟨hp1,f1,f2,f3,f4,f5,f6⟩:=qcm n last kk t1 t2 T1 T2 A B c b1 b2 hkk hn hlast hq hA hB A8 B8 h1 h2 h12 i (p/2^kk) x q1 q2 qe (hx x qg) (zpp hf.1) hp hc r1 r2 a1a a2a
  obtain⟨v,o,hp3,hp4,g1,g2⟩:=ih (i+1) x _ _ (acc++[x]) hp1 qe hf.2 (fun y hy=>hx y (by simp[hy])) (by simp[ha]) f2 f3 f4 a1b a2b
  refine⟨_,_,hp1,hp4,f1,?_⟩
  have ap:=Qz .u32 (nz acc) 2 (.inr rfl) 4 qh (x:Int) qi
  rw[<-yW]at ap
  have ea:acc++x::r=acc++[x]++r:=qg
  rw[ea,<-g2,ql3]
  generalize nz (acc++[x])=L1 at*
  generalize nz acc=L0 at*
  simp[yC,ap,g1]
end
section
variable (l:List Nat)(hl:l.length<=4096)(h32:∀x∈l,x<4294967296)(hr:zO l)
include hl h32 hr
theorem XY(t1 t2:Nat)(hp:Hp):∃hp',run cxX 65 [wg l t1 t2] hp=some (S 2 1 (LI .u32 (nz l)),hp'):=by
 have hb:qA l<=32/\qI l<4294967296/\qI l/2^qA l<=8192/\(qG (qA l) 0 l).length<=3*4096:=by
  by_cases hne:l=[]
  ·subst hne;exact⟨qh,qh,qh,qh⟩
  ·obtain⟨k1,k2,k3⟩:=xW l hl h32 hr hne
   have h2:qI l/2^qA l<2*l.length:=ZU (zou.mpr hne) k2
   exact⟨k1,k2,qe,k3⟩
 obtain⟨k1,k2,k3,k4⟩:=hb
 have cu:=qix l.length (qI l) (qA l) (rk (rk t1)) (rk (rk t2)) (pk (qO (qA l) l)) (pk (qG (qA l) 0 l)) hp
 simp only[Wx]at cu
 have lA:(pk (qO (qA l) l)).length<=100000000:=by
  rw[zZ,Qp]
  have:l.length*qA l<=4096*32:=zn5 hl k1
  omega
 have lB:(pk (qG (qA l) 0 l)).length<=100000000:=by rw[zZ];omega
 let H0:=hp.new (Rb (rk t1) (pk (qO (qA l) l)) 0 false)
 let H1:=H0.new (Rb (rk t2) (pk (qG (qA l) 0 l)) 0 false)
 let H2:=H1.new (Fu l.length (qI l) (qA l) (S (rk t1) 1 (LI .u8 (pk (qO (qA l) l)))) (S (rk t2) 1 (LI .u8 (pk (qG (qA l) 0 l)))) hp.next (hp.next+1) 0 0)
 have rc:H2.rd (hp.next+2) 0=some (Fu l.length (qI l) (qA l) (S (rk t1) 1 (LI .u8 (pk (qO (qA l) l)))) (S (rk t2) 1 (LI .u8 (pk (qG (qA l) 0 l)))) hp.next (hp.next+1) 0 0):=qT H1 _
 have r1:H2.rd hp.next 0=some (Rb (rk t1) (pk (qO (qA l) l)) 0 false):=by
  show((H0.new _).new _).rd hp.next 0=_
  rw[zH _ _ (show hp.next≠H1.next from by show hp.next≠hp.next+1+1;omega),zH _ _ (show hp.next≠H0.next from by show hp.next≠hp.next+1;omega)]
  exact qT hp _
 have r2:H2.rd (hp.next+1) 0=some (Rb (rk t2) (pk (qG (qA l) 0 l)) 0 false):=by
  show(H1.new _).rd (hp.next+1) 0=_
  rw[zH _ _ (show hp.next+1≠H1.next from by show hp.next+1≠hp.next+1+1;omega)]
  exact qT H0 _
 have z0:(0:Nat)/2^qA l=0:=zq3 _
 obtain⟨v,o,hp3,hp4,g1,g2⟩:=qov l.length (qI l) (qA l) (rk t1) (rk t2) (S (rk t1) 1 (LI .u8 (pk (qO (qA l) l)))) (S (rk t2) 1 (LI .u8 (pk (qG (qA l) 0 l)))) (pk (qO (qA l) l)) (pk (qG (qA l) 0 l)) (hp.next+2) hp.next (hp.next+1) k1 hl k2 k3 lA lB (fun x hx=>WE hx) (fun x hx=>WE hx) qe qe qe l 0 0 0 0 [] H2 qg (jI hr) (Kg l hr) rfl (by rw[z0];exact rc) r1 r2 (At.pk _) (by rw[z0];exact At.pk _)
 refine⟨hp4,?_⟩
 have g2':B65_4 (S 2 1 []) (.ptr (hp.next+2) 0 0) v (.bool o) hp3=some (S 2 1 (LI .u32 (nz l)),hp4):=g2
 have m:((hp.new (Rb (rk t1) (pk (qO (qA l) l)) 0 false)).new (Rb (rk t2) (pk (qG (qA l) 0 l)) 0 false)).new (Fu l.length (qI l) (qA l) (S (rk t1) 1 (LI .u8 (pk (qO (qA l) l)))) (S (rk t2) 1 (LI .u8 (pk (qG (qA l) 0 l)))) hp.next (hp.next+1) 0 0)=H2:=rfl
 rw[m]at cu
 unfold wg
 rw[E65]
 clear_value H2
 clear r1 r2 rc m k3 k4 lA lB z0
 generalize pk (qO (qA l) l)=A at*
 generalize pk (qG (qA l) 0 l)=B at*
 generalize((qI l:Nat):Int)=La at*
 generalize((qA l:Nat):Int)=Ka at*
 simp[qn,qp,cu,g1,g2']
omit hl h32 hr in
theorem qng(t1 t2 t3 t4:Nat)(hp:Hp):run cxX 129 [wg l t1 t2,wg l t3 t4] hp=some (.sc (.bool true),hp):=by
 have gs0:∀(v:Value) (r:List AV),ql (.sc v::r) 0=some v:=fun _ _=>rfl
 have gs1:∀(x0:AV) (v:Value) (r:List AV),ql (x0::.sc v::r) 1=some v:=fun _ _ _=>rfl
 unfold wg
 rw[E129]
 generalize pk (qO (qA l) l)=A at*
 generalize pk (qG (qA l) 0 l)=B at*
 generalize((qI l:Nat):Int)=La at*
 generalize((qA l:Nat):Int)=Ka at*
 simp[qn,gs0,gs1,qs]
theorem XX(b k:Nat)(bl:List Int)(hbl:bl.length<=1000000000)(h8:By bl)(p:Nat)(rest:List Int)(hd:bl.drop p=zE l++rest)(hp:Hp)(hpl:p<=bl.length)(hrd:hp.rd b 0=some (Rc k bl p 0)):
 ∃t1 t2,run cxX 64 [.ptr b 0 0] hp=some (wg l t1 t2,hp.put b 0 (Rc k bl (p+(zE l).length) 0)):=by
 have hb:qA l<=32/\qI l<4294967296/\(qG (qA l) 0 l).length<=3*4096:=by
  by_cases hne:l=[]
  ·subst hne;exact⟨qh,qh,qh⟩
  ·exact xW l hl h32 hr hne
 obtain⟨k1,k2,k4⟩:=hb
 have hlow:=qcj l.length (qI l) qe k2 hp0
 have e4:WS l.length (qI l)=qA l:=rfl
 rw[e4]at hlow
 have hmul:l.length*qA l<=4096*32:=zn5 hl k1
 have eA:(pk (qO (qA l) l)).length=(l.length*qA l+7)/8:=by rw[zZ,Qp]
 have hBl:(pk (qG (qA l) 0 l)).length<=1048576:=by rw[zZ];omega
 have ey:zE l++rest=uv l.length++(uv (qI l)++(pk (qO (qA l) l)++(uv (pk (qG (qA l) 0 l)).length++(pk (qG (qA l) 0 l)++rest)))):=by unfold zE;simp
 have el:(zE l).length=(uv l.length).length+(uv (qI l)).length+(pk (qO (qA l) l)).length+(uv (pk (qG (qA l) 0 l)).length).length+(pk (qG (qA l) 0 l)).length:=by unfold zE;simp only[zm9]
 rw[ey]at hd
 obtain⟨t5,hpL,ls⟩:∃t5 hpL,run cxX 65 [wg l t5 t5] hp0=some (S 2 1 (LI .u32 (nz l)),hpL):=⟨0,XY l hl h32 hr 0 0 hp0⟩
 have u0:=zd b k bl hbl h8 (most:=4096) hd hl qe hp hpl hrd
 have d0:=qM hd
 have q0:=qX hpl hd
 have u1:=zd b k bl hbl h8 (most:=4294967295) d0 qe qe _ q0 (qr hp b (Rc k bl (p+(uv l.length).length) 0))
 rw[qC]at u1
 have d1:=qM d0
 have q1:=qX q0 d0
 generalize eP1:p+(uv l.length).length+(uv (qI l)).length=P1 at*
 obtain⟨ta,u2⟩:=vu b k bl hbl d1 _ q1 (qr hp b (Rc k bl P1 0))
 rw[qC]at u2
 have d2:=qM d1
 have q2:=qX q1 d1
 generalize eP2:P1+(pk (qO (qA l) l)).length=P2 at*
 have u3:=zd b k bl hbl h8 (most:=1048576) d2 hBl qe _ q2 (qr hp b (Rc k bl P2 0))
 rw[qC]at u3
 have d3:=qM d2
 have q3:=qX q2 d2
 generalize eP3:P2+(uv (pk (qG (qA l) 0 l)).length).length=P3 at*
 obtain⟨tb,u4⟩:=vu b k bl hbl d3 _ q3 (qr hp b (Rc k bl P3 0))
 rw[qC]at u4
 generalize eP4:P3+(pk (qG (qA l) 0 l)).length=P4 at*
 have eP:p+(zE l).length=P4:=by rw[el];omega
 have er:=qW b k bl P4 0 _ (qr hp b (Rc k bl P4 0))
 have lsr:∀s1 s2,∃hpL,run cxX 65 [wg l s1 s2] hp0=some (S 2 1 (LI .u32 (nz l)),hpL):=fun s1 s2=>XY l hl h32 hr s1 s2 hp0
 obtain⟨hL,ls1⟩:=lsr (rk ta) (rk tb)
 obtain⟨t3,t4,hO,of⟩:=qqa l 3 hl h32 hr hp0
 have sm:=fun a b c d=>qng l a b c d hp0
 rw[eP]
 refine⟨ta,tb,?_⟩
 have l1:((4096:Nat):Int)=4096:=rfl
 have l2:((4294967295:Nat):Int)=4294967295:=rfl
 have l3:((1048576:Nat):Int)=1048576:=rfl
 rw[l1]at u0
 rw[l2]at u1
 rw[l3]at u3
 rw[eA]at u2
 have w1:IntKind.i64.wrap (l.length:Int)=(l.length:Int):=qm qe qe
 have w2:IntKind.u32.wrap ((qI l:Nat):Int)=((qI l:Nat):Int):=qK qe qe
 have w3:IntKind.i64.wrap ((l.length:Int)*((qA l:Nat):Int))=((l.length*qA l:Nat):Int):=by
  have e:(l.length:Int)*((qA l:Nat):Int)=((l.length*qA l:Nat):Int):=qg
  rw[e,qm]<;>omega
 have w4:IntKind.i64.wrap (((l.length*qA l:Nat):Int)+7)=((l.length*qA l+7:Nat):Int):=qj
 have q8:=qgn (l.length*qA l+7) qe
 have w5:IntKind.i64.wrap ((pk (qG (qA l) 0 l)).length:Int)=((pk (qG (qA l) 0 l)).length:Int):=qm qe qe
 have gs0:∀(v:Value) (r:List AV),ql (.sc v::r) 0=some v:=fun _ _=>rfl
 have gs1:∀(x0:AV) (v:Value) (r:List AV),ql (x0::.sc v::r) 1=some v:=fun _ _ _=>rfl
 have gs2:∀(x0 x1:AV) (v:Value) (r:List AV),ql (x0::x1::.sc v::r) 2=some v:=fun _ _ _ _=>rfl
 have p3:∀(x0 x1 x2 x3 x4 z:AV),qo [x0,x1,x2,x3,x4] 3 [z]=some [x0,x1,x2,z,x4]:=fun _ _ _ _ _ _=>rfl
 have p4:∀(x0 x1 x2 x3 x4 z:AV),qo [x0,x1,x2,x3,x4] 4 [z]=some [x0,x1,x2,x3,z]:=fun _ _ _ _ _ _=>rfl
 have p5:∀(x0 x1 x2 x3 x4 z0 z1 z2 z3 z4:AV),qo [x0,x1,x2,x3,x4] 0 [z0,z1,z2,z3,z4]=some [z0,z1,z2,z3,z4]:=fun _ _ _ _ _ _ _ _ _ _=>rfl
 clear eA hBl ey el hd d0 d1 d2 d3 lsr ls k4 q0 q1 q2 q3 eP1 eP2 eP3 eP4 eP hmul e4
 unfold wg at*
 rw[E64]
 generalize pk (qO (qA l) l)=A at*
 generalize pk (qG (qA l) 0 l)=B at*
 generalize(((l.length*qA l+7)/8:Nat):Int)=V3 at*
 generalize((l.length*qA l+7:Nat):Int)=V2 at*
 generalize((l.length*qA l:Nat):Int)=V1 at*
 generalize((qI l:Nat):Int)=La at*
 generalize((qA l:Nat):Int)=Ka at*
 generalize((B.length:Nat):Int)=Bn at*
 generalize hp.put b 0 (Rc k bl (p+(uv l.length).length) 0)=G0 at*
 generalize hp.put b 0 (Rc k bl P1 0)=G1 at*
 generalize hp.put b 0 (Rc k bl P2 0)=G2 at*
 generalize hp.put b 0 (Rc k bl P3 0)=G3 at*
 generalize hp.put b 0 (Rc k bl P4 0)=G4 at*
 simp[u0,xI,w1,u1,jK,w2,gs0,gs1,hlow,gs2,w3,w4,q8,u2,p3,u3,w5,u4,p4,er,qp,ls1,of,p5,sm,qvo]
end
abbrev DC(m b code w:Nat):List AV:=[.ptr m 0 0,.ptr b 0 0,.sc (.int .u32 (code:Int)),.sc (.int .u32 (w:Int))]
theorem qzz(a j:Nat)(ha:a<16777216)(hj:j<256)(t:TypeId)(x y:Operand):qy Tryz.prog .or t x y (.int .u32 ((a*256:Nat):Int)) (.int .u32 (j:Int))=some (.int .u32 ((a*256+j:Nat):Int)):=by
 rw[zS]
 have e:(BitVec.ofInt IntKind.u32.bits ((a*256:Nat):Int)|||BitVec.ofInt IntKind.u32.bits (j:Int)).toNat=a*256+j:=by
  show(BitVec.ofInt 32 ((a*256:Nat):Int)|||BitVec.ofInt 32 (j:Int)).toNat=_
  rw[zpt,znx,znx]
  have e1:(((a*256:Nat):Int)%((2^32:Nat):Int)).toNat=2^8*a:=qe
  have e2:((j:Int)%((2^32:Nat):Int)).toNat=j:=qe
  rw[e1,e2,<-Nat.two_pow_add_eq_or_of_lt qe a]
  omega
 rw[e,qK qe qe]
theorem qgb(a:Nat)(ha:a<16777216)(t:TypeId)(x y:Operand):qy Tryz.prog .shl t x y (.int .u32 (a:Int)) (.int .u64 8)=some (.int .u32 ((a*256:Nat):Int)):=by
 rw[zW _ _ _ _ _ _ _ _ qe]
 have e:(2:Int)^min (8:Int).toNat IntKind.u32.bits=256:=rfl
 rw[e,qK qe qe]
 rfl
section
variable (hp:Hp)(m cb:Nat)(cs:List Nat)(h:MW hp m cb cs)(hs:cs.sum<=1000000)(hcl:cs.length=64)
include h hs hcl
theorem qul(x P:Nat)(hx:x<64)(h1:(cs.take x).sum<=P)(h2:P<(cs.take (x+1)).sum):∀(f i:Nat),i+f=x->
 B174_4 (.ptr m 0 0) (.int .i64 ((P-(cs.take i).sum:Nat):Int)) (.int .i64 (i:Int)) hp=some (.sc (.int .i64 (x:Int)),hp):=by
 obtain⟨m1,m2,m3,m4,m5⟩:=h
 have hms:∀a b c d e,zg (.ms a b c d e)=some (a,b,c,d,e):=fun _ _ _ _ _=>rfl
 have hbig:(cs.take (x+1)).sum<=cs.sum:=qR cs _
 intro f
 induction f with
 |zero=>
  intro i hi
  have e:i=x:=qe
  subst e
  have ix:idx cs.length (.int .i64 (i:Int))=some i:=zr .i64 qe
  have g:=jQ .i64 (nz cs) i qi
  rw[yX cs i qe]at g
  have ts:=qQ cs i qe
  have hge:¬((cs.getD i 0:Nat):Int)<=((P-(cs.take i).sum:Nat):Int):=qe
  rw[qem]
  generalize((cs.getD i 0:Nat):Int)=q1 at*
  generalize((P-(cs.take i).sum:Nat):Int)=q2 at*
  simp[m5,qs,hms,ix,m4,g,hge]
 |succ f ih=>
  intro i hi
  have ix:idx cs.length (.int .i64 (i:Int))=some i:=zr .i64 qe
  have g:=jQ .i64 (nz cs) i qi
  rw[yX cs i qe]at g
  have ts:=qQ cs i qe
  have tl:=KS cs (i+1) x qe
  have hge:((cs.getD i 0:Nat):Int)<=((P-(cs.take i).sum:Nat):Int):=qe
  have i2:=ih (i+1) qe
  have w1:IntKind.i64.wrap (((P-(cs.take i).sum:Nat):Int)-((cs.getD i 0:Nat):Int))=((P-(cs.take (i+1)).sum:Nat):Int):=qj
  have w2:IntKind.i64.wrap ((i:Int)+1)=((i+1:Nat):Int):=qj
  rw[<-i2,qem]
  generalize((cs.getD i 0:Nat):Int)=q1 at*
  generalize((P-(cs.take i).sum:Nat):Int)=q2 at*
  generalize((P-(cs.take (i+1)).sum:Nat):Int)=q3 at*
  generalize((i+1:Nat):Int)=q4 at*
  simp[m5,qs,hms,ix,m4,g,hge,w1,w2]
theorem qy4(x P:Nat)(hx:x<64)(h1:(cs.take x).sum<=P)(h2:P<(cs.take (x+1)).sum):
 run cxX 174 [.ptr m 0 0,.sc (.int .i64 (P:Int))] hp=some (.sc (.int .i64 (x:Int)),hp):=by
 have hbig:(cs.take (x+1)).sum<=cs.sum:=qR cs _
 have fl:=qul hp m cb cs h hs hcl x P hx h1 h2 x 0 qe
 have al:=Wk hp m cb cs h
 have e0:P-(cs.take 0).sum=P:=qg
 rw[e0]at fl
 have hn:¬((P:Int)<0):=qe
 have hge:¬((cs.sum:Int)<=(P:Int)):=qe
 have fl':B174_4 (.ptr m 0 0) (.int .i64 (P:Int)) (.int .i64 0) hp=some (.sc (.int .i64 (x:Int)),hp):=fl
 rw[E174]
 generalize((cs.sum:Nat):Int)=S1 at*
 generalize((P:Nat):Int)=P1 at*
 simp[hn,al,hge,qwm,fl']
end
def Rp(k:Nat)(pre C:List Int)(i:Nat):List AV:=Rc k (pre++C) (pre.length+i) 0
theorem zkt(k:Nat)(C:List Int)(i:Nat):Rp k [] C i=Rc k C i 0:=by
 unfold Rp
 rw[zn4,zns,znk]
theorem XU(b k:Nat)(pre C:List Int)(i:Nat)(hp:Hp)(h:hp.rd b 0=some (Rp k pre C i)):run cxX 97 [.ptr b 0 0] hp=some (.sc (.int .i64 0),hp):=qW b k _ _ 0 hp h
theorem VW(b k:Nat)(pre C:List Int)(hpre:pre.length<=1000)(hC:C.length<=1000000){i:Nat}{c:Int}{r:List Int}(h:C.drop i=c::r)(hp:Hp)(hi:i<=C.length)(hr:hp.rd b 0=some (Rp k pre C i)):
 run cxX 63 [.ptr b 0 0] hp=some (.sc (.int .u8 c),hp.put b 0 (Rp k pre C (i+1))):=
 zm b k (pre++C) (by rw[zm9];omega) (p:=pre.length+i) (r:=r) (by rw[zrd,zoh qe,zn4,Nat.add_sub_cancel_left];exact h) hp (by rw[zm9];omega) hr
section
variable (d b m cb k x:Nat)(pre C:List Int)(hpre:pre.length<=1000)(hC:By C)(hCl:C.length<=1000000)(hx:x<64)(cs:List Nat)(hm:okM cs)(n1:d≠b)(n2:d≠m)(n3:d≠cb)(n4:b≠m)(n5:b≠cb)
include hpre hC hCl hx hm n1 n2 n3 n4 n5
theorem qoy:∀(f:Nat) (s:En) (code:Nat) (hp:Hp),ZN s s.width->s.width<4294967296->4294967296<=s.width*256^f*256->code<s.width->qP (C.take (eK s+4))=eV s+code->eK (zG f s)+4<=C.length->
 hp.rd d 0=some (DC m b code s.width)->hp.rd b 0=some (Rp k pre C (eK s+4))->MW hp m cb cs->
 ∃hp' code',B109_11 (.ptr d 0 0) (.int .i64 (x:Int)) hp=some (.sc (.int .i64 (x:Int)),hp')/\qP (C.take (eK (zG f s)+4))=eV (zG f s)+code'/\code'<(zG f s).width/\
  hp'.rd d 0=some (DC m b code' (zG f s).width)/\hp'.rd b 0=some (Rp k pre C (eK (zG f s)+4))/\MW hp' m cb (YJ cs x)/\hp'.next=hp.next/\∀c,c≠d->c≠b->c≠m->c≠cb->hp'.get c=hp.get c:=by
 have gs2:∀(x0 x1:AV) (v:Value) (r:List AV),ql (x0::x1::.sc v::r) 2=some v:=fun _ _ _ _=>rfl
 have gs3:∀(x0 x1 x2:AV) (v:Value) (r:List AV),ql (x0::x1::x2::.sc v::r) 3=some v:=fun _ _ _ _ _=>rfl
 have gc1:∀(x0 x1:AV) (r:List AV),qs (x0::x1::r) 1=some x1:=fun _ _ _=>rfl
 have gc0:∀(x0:AV) (r:List AV),qs (x0::r) 0=some x0:=fun _ _=>rfl
 have p2:∀(x0 x1 x2 x3 z:AV),qo [x0,x1,x2,x3] 2 [z]=some [x0,x1,z,x3]:=fun _ _ _ _ _=>rfl
 have p3:∀(x0 x1 x2 x3 z:AV),qo [x0,x1,x2,x3] 3 [z]=some [x0,x1,x2,z]:=fun _ _ _ _ _=>rfl
 have done:∀(s:En) (code:Nat) (hp:Hp),¬(s.width<16777216)->code<s.width->qP (C.take (eK s+4))=eV s+code->hp.rd d 0=some (DC m b code s.width)->hp.rd b 0=some (Rp k pre C (eK s+4))->MW hp m cb cs->
  ∃hp' code',B109_11 (.ptr d 0 0) (.int .i64 (x:Int)) hp=some (.sc (.int .i64 (x:Int)),hp')/\qP (C.take (eK s+4))=eV s+code'/\code'<s.width/\
   hp'.rd d 0=some (DC m b code' s.width)/\hp'.rd b 0=some (Rp k pre C (eK s+4))/\MW hp' m cb (YJ cs x)/\hp'.next=hp.next/\∀c,c≠d->c≠b->c≠m->c≠cb->hp'.get c=hp.get c:=by
  intro s code hp hw hcode hN hd hb hM
  obtain⟨hp1,a1,a2,a3,a4⟩:=qp8 hp m cb x cs hM hm hx
  refine⟨hp1,code,?_,hN,hcode,by rw[xO (a4 d n2 n3)];exact hd,by rw[xO (a4 b n4 n5)];exact hb,a2,a3,fun c c1 c2 c3 c4=>a4 c c3 c4⟩
  have er:=XU b k pre C (eK s+4) hp hb
  have d1:decide ((s.width:Int)<Int.ofNat 16777216)=false:=decide_eq_false (by show ¬((s.width:Int)<((16777216:Nat):Int));omega)
  clear hw hcode hN
  simp only[DC]at hd
  rw[qbj]
  rw[Zc hd (gs3 _ _ _ _ _),Yv,d1,cond_false]
  clear d1
  simp[hd,gc1,er,gc0,a1]
 intro f
 induction f with
 |zero=>
  intro s code hp ho hw hf hcode hN hle hd hb hM
  exact done s code hp (by rw[Nat.pow_zero,zo2]at hf;omega) hcode hN hd hb hM
 |succ f ih=>
  intro s code hp ho hw hf hcode hN hle hd hb hM
  by_cases hl:s.width<16777216
  ·have en:zG (f+1) s=zG f (sh (XM s (s.width*256))):=by rw[zG,if_pos hl]
   rw[en]at hle⊢
   have ho':ZN (XM s (s.width*256)) s.width:=ho
   obtain⟨a1,a2,a3,a4⟩:=YP (XM s (s.width*256)) s.width ho' qe
   have a4:(sh (XM s (s.width*256))).width=s.width*256:=a4
   rw[(Kr s _).1]at a2
   rw[(Kr s _).2]at a3
   have hf2:4294967296<=s.width*256*256^f*256:=by
    rw[zo4]at hf
    have e:s.width*(256^f*256)*256=s.width*256*256^f*256:=by
     rw[zo8 s.width 256,zof 256 (256^f)]
    rwa [e]at hf
   generalize sh (XM s (s.width*256))=s1 at*
   rw[<-a4]at a1
   obtain⟨dd,_,_,q3,_⟩:=qql f s1 a1 (by rw[a4];omega) (by rw[a4];exact hf2)
   have hlt:eK s+4<C.length:=qe
   have hmem:C.getD (eK s+4) 0∈C:=by rw[znb,zng hlt];exact znr _
   obtain⟨c1,c2⟩:=hC _ hmem
   obtain⟨j,hj⟩:∃j:Nat,C.getD (eK s+4) 0=j:=⟨(C.getD (eK s+4) 0).toNat,qe⟩
   have bs:=Je C (eK s+4) hlt
   rw[hj]at bs c1 c2
   rw[hN,znj]at bs
   have hdr:C.drop (eK s+4)=(j:Int)::C.drop (eK s+4+1):=by
    rw[zn6 hlt]
    congr 1
    rw[<-hj,znb,zng hlt];rfl
   let H1:=hp.put d 0 (DC m b code (s.width*256))
   have H1d:H1.rd d 0=some (DC m b code (s.width*256)):=qr _ _ _
   have H1b:H1.rd b 0=some (Rp k pre C (eK s+4)):=by show(hp.put d 0 _).rd b 0=_;rw[qB _ _ (fun e=>n1 e.symm)];exact hb
   have tb:=VW b k pre C hpre hCl hdr H1 qe H1b
   let H2:=H1.put b 0 (Rp k pre C (eK s+4+1))
   have H2d:H2.rd d 0=some (DC m b code (s.width*256)):=by show(H1.put b 0 _).rd d 0=_;rw[qB _ _ n1];exact H1d
   let H3:=H2.put d 0 (DC m b (code*256+j) (s.width*256))
   have H3d:H3.rd d 0=some (DC m b (code*256+j) s1.width):=by rw[a4];exact qr _ _ _
   have H3b:H3.rd b 0=some (Rp k pre C (eK s1+4)):=by
    show((H1.put b 0 _).put d 0 _).rd b 0=_
    rw[qB _ _ (fun e=>n1 e.symm),qr,a3]
   have H3f:∀c,c≠d->c≠b->H3.get c=hp.get c:=fun c h1 h2=>by
    show(((hp.put d 0 _).put b 0 _).put d 0 _).get c=_
    simp[Hp.put,h1,h2]
   have H3M:MW H3 m cb cs:=by
    obtain⟨m1,m2,m3,m4,m5⟩:=hM
    exact⟨m1,m2,m3,by rw[xO (H3f cb (fun e=>n3 e.symm) (fun e=>n5 e.symm))];exact m4,by rw[xO (H3f m (fun e=>n2 e.symm) (fun e=>n4 e.symm))];exact m5⟩
   obtain⟨hp',code',r1,r2,r3,r4,r5,r6,r7,r8⟩:=ih s1 (code*256+j) H3 a1 (by rw[a4];omega) (by rw[a4];exact hf2) (by rw[a4];omega) (by
    have e:eK s1+4=eK s+4+1:=qe
    rw[e,bs,a2];omega) hle H3d H3b H3M
   refine⟨hp',code',?_,r2,r3,r4,r5,r6,by rw[r7];rfl,fun c h1 h2 h3 h4=>by rw[r8 c h1 h2 h3 h4,H3f c h1 h2]⟩
   have d1:decide ((s.width:Int)<Int.ofNat 16777216)=true:=decide_eq_true (by show((s.width:Int)<((16777216:Nat):Int));omega)
   have s1':=qgb s.width hl
   have s2':=qgb code qe
   have o:=qzz code j qe qe
   have w1:IntKind.u32.wrap (j:Int)=(j:Int):=qK qe qe
   have g2:H2.get d=H1.get d:=by
    show(H1.put b 0 _).get d=_
    simp[Hp.put,n1]
   have sg:∀q i,xz (AV.ptr d q i,1) H1.get H2.get=some ():=fun q i=>ZF (by unfold yO;simp only[YE,vO,znc,g2])
   have m1:hp.put d 0 (DC m b code (s.width*256))=H1:=rfl
   have m2:H1.put b 0 (Rp k pre C (eK s+4+1))=H2:=rfl
   have m3:H2.put d 0 (DC m b (code*256+j) (s.width*256))=H3:=rfl
   rw[m2]at tb
   rw[<-r1,qbj]
   clear_value H3 H2 H1
   simp only[DC]at hd H1d H2d m1 m3
   clear a1 a2 a3 a4 hf2 hf hcode hN hle hl ho hw q3 ih r2 r3 r4 r5 r8 H3d bs
   generalize((s.width*256:Nat):Int)=W2 at*
   rw[Zc hd (gs3 _ _ _ _ _),Yv,d1,cond_true]
   clear d1
   generalize((s.width:Nat):Int)=W at*
   generalize((code*256+j:Nat):Int)=Q2 at*
   generalize((code*256:Nat):Int)=Q1 at*
   simp[hd,gs3,s1',p3,m1,H1d,gs2,s2',gc1,tb,qrl,w1,o,H2d,p2,m3,sg,-zS]
  ·have en:zG (f+1) s=s:=by rw[zG,if_neg hl]
   rw[en]at hle⊢
   exact done s code hp hl hcode hN hd hb hM
theorem qco(s:En)(r:List Nat)(code:Nat)(hp:Hp)(hr:∀y∈r,y<64)(ho:ZN s s.width)(hw:16777216<=s.width/\s.width<4294967296)(h1:qP C=eV (enc cs s (x::r)))(h2:C.length=eK (enc cs s (x::r))+4)(hcode:qP (C.take (eK s+4))=eV s+code)
 (hd:hp.rd d 0=some (DC m b code s.width)) (hb:hp.rd b 0=some (Rp k pre C (eK s+4))) (hM:MW hp m cb cs):
 ∃hp' code',run cxX 109 [.ptr d 0 0] hp=some (.sc (.int .i64 (x:Int)),hp')/\qP (C.take (eK (zG 4 (xL s cs x))+4))=eV (zG 4 (xL s cs x))+code'/\
  hp'.rd d 0=some (DC m b code' (zG 4 (xL s cs x)).width)/\hp'.rd b 0=some (Rp k pre C (eK (zG 4 (xL s cs x))+4))/\MW hp' m cb (YJ cs x)/\hp'.next=hp.next/\∀c,c≠d->c≠b->c≠m->c≠cb->hp'.get c=hp.get c:=by
 have hw':16777216<=s.width/\s.width<=4294967296:=⟨hw.1,zqe hw.2⟩
 have e1:enc cs s (x::r)=enc (YJ cs x) (zG 4 (xL s cs x)) r:=rfl
 rw[e1]at h1 h2
 obtain⟨y1,y2⟩:=zgo C hC s cs x r hm hx hr ho hw' h1 h2
 obtain⟨dd,b1,b2,b3,b4,b5,b6,b7⟩:=Zm s cs x hm hx ho hw'
 obtain⟨y3,_,_⟩:=zgn C hC (zG 4 (xL s cs x)) (YJ cs x) r (QO hm hx) hr b4 ⟨b5,b6⟩ h1 h2
 rw[hcode]at y1 y2
 have hmm:=hm
 obtain⟨m1,m2,m3⟩:=hmm
 have hn1:1<=cs.getD x 0:=by
  rw[znb,zng qe]
  exact m3 _ (znr _)
 have ht:=qQ cs x qe
 have hta:=qR cs (x+1)
 have hpart:4096<=s.width/cs.sum:=by
  rw[zqf qe]
  have:4096*cs.sum<=4096*4096:=zok _ m2
  omega
 have hmul:s.width/cs.sum*cs.sum<=s.width:=zop _ _
 have hsum:s.width/cs.sum*(cs.take x).sum+s.width/cs.sum*cs.getD x 0<=s.width:=by
  rw[<-Nat.mul_add,<-ht]
  exact zon (zok _ hta) hmul
 have hge:s.width/cs.sum*1<=s.width/cs.sum*cs.getD x 0:=zok _ hn1
 have hpw:s.width/cs.sum<=s.width:=zpl _ _
 have okn:ZN (xL s cs x) (xL s cs x).width:=by
  obtain⟨o1,o2,o3,o4⟩:=ho
  refine⟨?_,o2,?_,fun q=>?_⟩
  ·show s.low+s.width/cs.sum*(cs.take x).sum+s.width/cs.sum*cs.getD x 0<=_;omega
  ·show 0<s.width/cs.sum*cs.getD x 0;omega
  ·have:=o4 q
   show s.low+s.width/cs.sum*(cs.take x).sum+s.width/cs.sum*cs.getD x 0<=_;omega
 have ev:eV (xL s cs x)=eV s+s.width/cs.sum*(cs.take x).sum:=by
  show qP (bl s)*4294967296+(s.low+_)=qP (bl s)*4294967296+s.low+_
  omega
 have ek:eK (xL s cs x)=eK s:=rfl
 have ew:(xL s cs x).width=s.width/cs.sum*cs.getD x 0:=rfl
 have cdiv:(cs.take x).sum<=code/(s.width/cs.sum)/\code/(s.width/cs.sum)<(cs.take (x+1)).sum:=by
  constructor
  ·rw[zqf qe,zof];omega
  ·rw[Nat.div_lt_iff_lt_mul qe,ht,zof,Nat.mul_add];omega
 let H1:=(hp.put d 0 (DC m b (code-s.width/cs.sum*(cs.take x).sum) s.width)).put d 0 (DC m b (code-s.width/cs.sum*(cs.take x).sum) (s.width/cs.sum*cs.getD x 0))
 have H1d:H1.rd d 0=some (DC m b (code-s.width/cs.sum*(cs.take x).sum) (xL s cs x).width):=qr _ _ _
 have H1f:∀c,c≠d->H1.get c=hp.get c:=fun c h=>by
  show((hp.put d 0 _).put d 0 _).get c=_
  simp[Hp.put,h]
 have H1b:H1.rd b 0=some (Rp k pre C (eK (xL s cs x)+4)):=by rw[xO (H1f b (fun e=>n1 e.symm)),ek];exact hb
 have H1M:MW H1 m cb cs:=by
  obtain⟨q1,q2,q3,q4,q5⟩:=hM
  exact⟨q1,q2,q3,by rw[xO (H1f cb (fun e=>n3 e.symm))];exact q4,by rw[xO (H1f m (fun e=>n2 e.symm))];exact q5⟩
 obtain⟨hp',code',r1,r2,r3,r4,r5,r6,r7,r8⟩:=qoy d b m cb k x pre C hpre hC hCl hx cs hm n1 n2 n3 n4 n5 4 (xL s cs x) (code-s.width/cs.sum*(cs.take x).sum) H1 okn (by rw[ew];omega) (by
  rw[ew]
  have e:(256:Nat)^4=4294967296:=qh
  rw[e]
  omega) (by rw[ew];omega) (by rw[ev,ek,hcode];omega) y3 H1d H1b H1M
 refine⟨hp',code',?_,r2,r4,r5,r6,r7,fun c c1 c2 c3 c4=>by rw[r8 c c1 c2 c3 c4,H1f c c1]⟩
 have er:=XU b k pre C (eK s+4) hp hb
 have pt:=qim hp m cb cs hM qe m1 x hx
 have al:=Wk hp m cb cs hM
 have fd:=qy4 hp m cb cs hM qe m1 x (code/(s.width/cs.sum)) hx cdiv.1 cdiv.2
 have gs2:∀(x0 x1:AV) (v:Value) (r:List AV),ql (x0::x1::.sc v::r) 2=some v:=fun _ _ _ _=>rfl
 have gs3:∀(x0 x1 x2:AV) (v:Value) (r:List AV),ql (x0::x1::x2::.sc v::r) 3=some v:=fun _ _ _ _ _=>rfl
 have gc1:∀(x0 x1:AV) (r:List AV),qs (x0::x1::r) 1=some x1:=fun _ _ _=>rfl
 have gc0:∀(x0:AV) (r:List AV),qs (x0::r) 0=some x0:=fun _ _=>rfl
 have p2:∀(x0 x1 x2 x3 z:AV),qo [x0,x1,x2,x3] 2 [z]=some [x0,x1,z,x3]:=fun _ _ _ _ _=>rfl
 have p3:∀(x0 x1 x2 x3 z:AV),qo [x0,x1,x2,x3] 3 [z]=some [x0,x1,x2,z]:=fun _ _ _ _ _=>rfl
 have w1:IntKind.u32.wrap ((cs.sum:Nat):Int)=((cs.sum:Nat):Int):=qK qe qe
 have qd:∀t o o',qy Tryz.prog .quo t o o' (.int .u32 (s.width:Int)) (.int .u32 (cs.sum:Nat))=some (.int .u32 ((s.width/cs.sum:Nat):Int)):=by
  intro t o o'
  rw[yB _ _ _ _ _ _ _ qe,zoi qe]
  have e:(s.width:Int)/((cs.sum:Nat):Int)=((s.width/cs.sum:Nat):Int):=qg
  rw[e,qK qe qe]
 have hcd:code/(s.width/cs.sum)<=code:=zpl _ _
 have qc:∀t o o',qy Tryz.prog .quo t o o' (.int .u32 (code:Int)) (.int .u32 ((s.width/cs.sum:Nat):Int))=some (.int .u32 ((code/(s.width/cs.sum):Nat):Int)):=by
  intro t o o'
  rw[yB _ _ _ _ _ _ _ qe,zoi qe]
  have e:(code:Int)/((s.width/cs.sum:Nat):Int)=((code/(s.width/cs.sum):Nat):Int):=qg
  rw[e,qK qe qe]
 have hcx:cs.getD x 0<=4096:=qe
 have htx:(cs.take x).sum<=4096:=qe
 have x1:((s.width/cs.sum:Nat):Int)*(((cs.take x).sum:Nat):Int)=((s.width/cs.sum*(cs.take x).sum:Nat):Int):=qg
 have x2:((s.width/cs.sum:Nat):Int)*((cs.getD x 0:Nat):Int)=((s.width/cs.sum*cs.getD x 0:Nat):Int):=qg
 have mm:(hp.put d 0 (DC m b (code-s.width/cs.sum*(cs.take x).sum) s.width)).put d 0 (DC m b (code-s.width/cs.sum*(cs.take x).sum) (s.width/cs.sum*cs.getD x 0))=H1:=rfl
 rw[qC]at mm
 clear_value H1
 clear y3 b1 b2 b3 b4 b5 b6 b7 okn ev H1f r2 r3 r4 r5 H1d h1 h2 cdiv hcode H1b
 have ple:s.width/cs.sum<4294967296:=qe
 generalize hA:s.width/cs.sum*(cs.take x).sum=A at*
 generalize hB:s.width/cs.sum*cs.getD x 0=B at*
 generalize hQ:code/(s.width/cs.sum)=Q at*
 generalize s.width/cs.sum=p at*
 generalize(cs.take x).sum=tk at*
 generalize cs.getD x 0=gx at*
 have w2:IntKind.i64.wrap (Q:Int)=(Q:Int):=qm qe qe
 have w3:IntKind.u32.wrap (tk:Int)=(tk:Int):=qK qe qe
 have w4:IntKind.u32.wrap ((p:Int)*(tk:Int))=(A:Int):=by rw[x1,qK qe qe]
 have w5:IntKind.u32.wrap ((code:Int)-(A:Int))=((code-A:Nat):Int):=by rw[qK]<;>omega
 have w6:IntKind.u32.wrap (gx:Int)=(gx:Int):=qK qe qe
 have w7:IntKind.u32.wrap ((p:Int)*(gx:Int))=(B:Int):=by rw[x2,qK qe qe]
 simp only[DC]at hd mm
 rw[E109]
 generalize((code-A:Nat):Int)=CA at*
 have hx0:¬((x:Int)<0):=qe
 simp[hd,gc1,er,qxr,gs3,gc0,al,Xv,w1,qd,gs2,qc,xJ,w2,fd,hx0,pt,w3,w4,w5,p2,w6,w7,qr,p3,qC,mm,r1]
end
section
variable (b k:Nat)(pre C:List Int)(hpre:pre.length<=1000)(hC:By C)(hCl:C.length<=1000000)(h4:4<=C.length)
include hpre hC hCl h4
theorem qx4:∀(f i:Nat) (hp:Hp),i+f=4->hp.rd b 0=some (Rp k pre C i)->
 B169_3 (.ptr b 0 0) (.int .u32 ((qP (C.take i):Nat):Int)) (.int .i64 (i:Int)) hp=some (.sc (.int .u32 ((qP (C.take 4):Nat):Int)),hp.put b 0 (Rp k pre C 4)):=by
 intro f
 induction f with
 |zero=>
  intro i hp hi hb
  have e:i=4:=qe
  subst e
  rw[qes,jm hb]
  generalize qP (C.take 4)=N
  simp
 |succ f ih=>
  intro i hp hi hb
  have hlt:i<C.length:=qe
  have hmem:C.getD i 0∈C:=by rw[znb,zng hlt];exact znr _
  obtain⟨c1,c2⟩:=hC _ hmem
  obtain⟨j,hj⟩:∃j:Nat,C.getD i 0=j:=⟨(C.getD i 0).toNat,qe⟩
  have bs:=Je C i hlt
  rw[hj]at bs c1 c2
  rw[znj]at bs
  have hdr:C.drop i=(j:Int)::C.drop (i+1):=by
   rw[zn6 hlt]
   congr 1
   rw[<-hj,znb,zng hlt];rfl
  have tb:=VW b k pre C hpre hCl hdr hp qe hb
  have i2:=ih (i+1) (hp.put b 0 (Rp k pre C (i+1))) qe (qr _ _ _)
  rw[qC]at i2
  have hsm:qP (C.take i)<16777216:=by
   have a:=VK (C.take i) fun x hx=>hC x (zov hx)
   have e:(C.take i).length=i:=qi
   rw[e]at a
   have:(256:Nat)^i<=256^3:=zoc qh qe
   have e3:(256:Nat)^3=16777216:=qh
   omega
  have sl:=qgb _ hsm
  have o:=qzz _ j hsm qe
  rw[<-bs]at o
  have w1:IntKind.u32.wrap (j:Int)=(j:Int):=qK qe qe
  have w2:IntKind.i64.wrap ((i:Int)+1)=((i+1:Nat):Int):=qj
  have hl4:(i:Int)<4:=qe
  rw[<-i2,qes]
  clear bs hsm
  generalize hp.put b 0 (Rp k pre C (i+1))=H1 at*
  generalize((qP (C.take i)*256:Nat):Int)=N1 at*
  generalize((qP (C.take i):Nat):Int)=N0 at*
  generalize((qP (C.take (i+1)):Nat):Int)=N2 at*
  generalize((i+1:Nat):Int)=I1 at*
  simp[hl4,sl,tb,qrl,w1,o,w2,-zS]
theorem zeg(hp:Hp)(hb:hp.rd b 0=some (Rp k pre C 0)):run cxX 169 [.ptr b 0 0] hp=some (.sc (.int .u32 ((qP (C.take 4):Nat):Int)),hp.put b 0 (Rp k pre C 4)):=by
 have t:=qx4 b k pre C hpre hC hCl h4 4 0 hp rfl hb
 have t':B169_3 (.ptr b 0 0) (.int .u32 0) (.int .i64 0) hp=some (.sc (.int .u32 ((qP (C.take 4):Nat):Int)),hp.put b 0 (Rp k pre C 4)):=t
 rw[E169]
 generalize qP (C.take 4)=N at*
 simp[t']
theorem Ym(hp:Hp)(hbn:b<hp.next)(hb:hp.rd b 0=some (Rp k pre C 0)):∃hp' d m cb,run cxX 106 [.sc (.int .i64 64),.ptr b 0 0] hp=some (.ptr d 0 0,hp')/\hp'.rd d 0=some (DC m b (qP (C.take 4)) 4294967295)/\hp'.rd b 0=some (Rp k pre C 4)/\MW hp' m cb cs0/\d≠b/\d≠m/\d≠cb/\b≠m/\b≠cb/\d<hp'.next/\hp.next<=d/\hp.next<=m/\hp.next<=cb/\hp.next<=hp'.next/\∀c,c<hp.next->c≠b->hp'.get c=hp.get c:=by
 obtain⟨hp1,cb,a1,a2,a3,a4,a5⟩:=qiq hp
 have hcb:=a2.2.1
 have hm:=a2.1
 have hb1:hp1.rd b 0=some (Rp k pre C 0):=by rw[xO (a5 b hbn)];exact hb
 have tp:=zeg b k pre C hpre hC hCl h4 hp1 hb1
 refine⟨(hp1.put b 0 (Rp k pre C 4)).new (DC hp.next b (qP (C.take 4)) 4294967295),hp1.next,hp.next,cb,?_,qT (hp1.put b 0 _) _,?_,?_,qe,qe,qe,qe,qe,zqt _,a4,znd _,qe,zon a4 (Nat.le_succ _),fun c h1 h2=>by
  have:c≠hp1.next:=qe
  rw[<-a5 c h1]
  simp[Hp.new,Hp.put,this,h2]⟩
 ·have p0:∀(x0 x1 x2 x3 z:AV),qo [x0,x1,x2,x3] 0 [z]=some [z,x1,x2,x3]:=fun _ _ _ _ _=>rfl
  have p1:∀(x0 x1 x2 x3 z:AV),qo [x0,x1,x2,x3] 1 [z]=some [x0,z,x2,x3]:=fun _ _ _ _ _=>rfl
  have p2:∀(x0 x1 x2 x3 z:AV),qo [x0,x1,x2,x3] 2 [z]=some [x0,x1,z,x3]:=fun _ _ _ _ _=>rfl
  have p3:∀(x0 x1 x2 x3 z:AV),qo [x0,x1,x2,x3] 3 [z]=some [x0,x1,x2,z]:=fun _ _ _ _ _=>rfl
  have hn:(hp1.put b 0 (Rp k pre C 4)).next=hp1.next:=rfl
  have cp:∀a,qn 1 (.ptr a 0 0)=some [.ptr a 0 0]:=fun _=>rfl
  rw[E106]
  generalize qP (C.take 4)=N at*
  generalize hp1.put b 0 (Rp k pre C 4)=H1 at*
  simp[a1,tp,p0,p1,p2,p3,hn,cp]
  rfl
 ·rw[zH _ _ (show b≠(hp1.put b 0 (Rp k pre C 4)).next from(by omega:b≠hp1.next)),qr]
 ·have f1:Fm [b] hp1 (hp1.put b 0 (Rp k pre C 4)):=Fm.put hp1 b _ qg
  exact(a2.fr f1 qi qi).fr (Fm.new [] (hp1.put b 0 (Rp k pre C 4)) _) qg qg
end
section
variable (d b m cb k:Nat)(pre C:List Int)(hpre:pre.length<=1000)(hC:By C)(hCl:C.length<=1000000)(n1:d≠b)(n2:d≠m)(n3:d≠cb)(n4:b≠m)(n5:b≠cb)(L:List Nat)(hL:L.length<=4096)
include hpre hC hCl n1 n2 n3 n4 n5 hL
theorem zcb(X2:AV):∀(r:List Nat) (i:Nat) (s:En) (cs:List Nat) (code:Nat) (hp:Hp),L.drop i=r->i+r.length=L.length->(∀y∈r,y<64)->okM cs->ZN s s.width->16777216<=s.width/\s.width<4294967296->qP C=eV (enc cs s r)->C.length=eK (enc cs s r)+4->
 qP (C.take (eK s+4))=eV s+code->hp.rd d 0=some (DC m b code s.width)->hp.rd b 0=some (Rp k pre C (eK s+4))->MW hp m cb cs->
 ∃hp' p,B125_7 (.int .i64 64) X2 (.ptr b 0 0) (.ptr d 0 0) (S 2 1 (LI .u8 (nz (L.take i)))) (.int .i64 (L.length:Int)) (.int .i64 (i:Int)) hp=B125_12 (.int .i64 64) X2 (.ptr b 0 0) (S 2 1 (LI .u8 (nz L))) hp'/\hp'.rd b 0=some (Rp k pre C p):=by
 intro r
 induction r with
 |nil=>
  intro i s cs code hp h hil hr hm ho hw h1 h2 hcode hd hb hM
  have e:i=L.length:=by simpa using hil
  subst e
  refine⟨hp,_,?_,hb⟩
  rw[zpm,qfl]
  generalize nz L=L0
  simp
 |cons x r ih=>
  intro i s cs code hp h hil hr hm ho hw h1 h2 hcode hd hb hM
  obtain⟨e1,e2,hi,e3⟩:=qt h
  simp only[zna]at hil
  have hx:=hr x qg
  have hr':∀y∈r,y<64:=fun y hy=>hr y (by simp[hy])
  obtain⟨hp1,code1,a1,a2,a3,a4,a5,a6,a7⟩:=qco d b m cb k x pre C hpre hC hCl hx cs hm n1 n2 n3 n4 n5 s r code hp hr' ho hw h1 h2 hcode hd hb hM
  obtain⟨dd,b1,b2,b3,b4,b5,b6,b7⟩:=Zm s cs x hm hx ho ⟨hw.1,zqe hw.2⟩
  have hlt2:(zG 4 (xL s cs x)).width<4294967296:=by
   apply VB
   show s.width/cs.sum*cs.getD x 0<_
   have ht:=qQ cs x (by have:=hm.1;omega)
   have hta:=qR cs (x+1)
   have hmul:s.width/cs.sum*cs.sum<=s.width:=zop _ _
   have hle:s.width/cs.sum*cs.getD x 0<=s.width/cs.sum*cs.sum:=zok _ qe
   omega
  obtain⟨hp2,p,c1,c2⟩:=ih (i+1) (zG 4 (xL s cs x)) (YJ cs x) code1 hp1 e2 qe hr' (QO hm hx) b4 ⟨b5,hlt2⟩ h1 h2 a2 a3 a4 a5
  refine⟨hp2,p,?_,c2⟩
  have hlt:(i:Int)<(L.length:Int):=qe
  have hx0:¬((x:Int)<0):=qe
  have w1:IntKind.u8.wrap (x:Int)=(x:Int):=zB qe qe
  have w2:IntKind.i64.wrap ((i:Int)+1)=((i+1:Nat):Int):=qj
  have ap:=Qz .u8 (nz (L.take i)) 2 (.inr rfl) 1 qh (x:Int) qi
  have es:nz (L.take i)++[(x:Int)]=nz (L.take (i+1)):=by
   have a1:L.take (i+1)=L.take i++[x]:=by rw[zpi,e1];rfl
   rw[a1,yW]
  rw[es]at ap
  rw[<-c1,qfl]
  have hi4:(i<L.length)=True:=by simp[hi]
  generalize nz (L.take (i+1))=L1 at*
  generalize nz (L.take i)=L0 at*
  generalize((i+1:Nat):Int)=I1 at*
  simp[hi4,a1,hx0,ym,w1,yC,ap,w2]
end
theorem qak{l:List Nat}(hl:l.length<=1000)(h64:∀x∈l,x<64):4<=(jk l).length/\(jk l).length<=1000000:=by
 have a:=Zh hl h64
 have b:=(JM l h64).2
 omega
theorem qni(L:List Nat)(t:Nat)(hL:L.length<=1000)(h64:∀x∈L,x<64)(hp:Hp):
 ∃hp',run cxX 125 [.sc (.int .i64 64),.sc (.int .i64 (L.length:Int)),S t 1 (LI .u8 (jk L))] hp=some (.tup [S 2 1 (LI .u8 (nz L)),.sc (.int .i64 0)],hp'):=by
 obtain⟨l4,lC⟩:=qak hL h64
 have hC:By (jk L):=qhl L
 obtain⟨v1,v2⟩:=JM L h64
 have rd0:=Jr (rk t) (jk L) hp
 rw[Wx]at rd0
 obtain⟨hp1,d,m,cb,a1,a2,a3,a4,n1,n2,n3,n4,n5,_⟩:=Ym hp.next (rk t) [] (jk L) qg hC lC l4 (hp.new (Rc (rk t) (jk L) 0 0)) qg (by rw[zkt];exact qT _ _)
 obtain⟨hp2,p,b1,b2⟩:=zcb d hp.next m cb (rk t) [] (jk L) qg hC lC n1 n2 n3 n4 n5 L qe (S t 1 (LI .u8 (jk L))) L 0 en0 cs0 (qP ((jk L).take 4)) hp1 rfl qe h64 qju qjv ⟨qh,qh⟩ v1 v2 (by
  show qP ((jk L).take (0+4))=0+_
  rw[znk,znk]) a2 a3 a4
 have er:=XU hp.next (rk t) [] (jk L) p hp2 b2
 obtain⟨hp3,c1,c2⟩:=qsz L 3 qe h64 hp0
 have c3:B125_12 (.int .i64 64) (S t 1 (LI .u8 (jk L))) (.ptr hp.next 0 0) (S 2 1 (LI .u8 (nz L))) hp2=some (.tup [S 2 1 (LI .u8 (nz L)),.sc (.int .i64 0)],hp2):=by
  rw[qpt]
  generalize nz L=L0 at*
  generalize jk L=C0 at*
  simp[er,c1]
 have b1':B125_7 (.int .i64 64) (S t 1 (LI .u8 (jk L))) (.ptr hp.next 0 0) (.ptr d 0 0) (S 2 1 []) (.int .i64 (L.length:Int)) (.int .i64 0) hp1=B125_12 (.int .i64 64) (S t 1 (LI .u8 (jk L))) (.ptr hp.next 0 0) (S 2 1 (LI .u8 (nz L))) hp2:=b1
 have m0:¬((L.length:Int)<0):=qe
 have m1:¬((4096:Int)<(L.length:Int)):=qe
 refine⟨hp2,?_⟩
 rw[E125]
 generalize hp.new (Rc (rk t) (jk L) 0 0)=H0 at*
 generalize jk L=C0 at*
 generalize nz L=L0 at*
 have m1':decide ((4096:Int)<(L.length:Int))=false:=decide_eq_false m1
 simp[m0,m1',qxk,rd0,a1,b1',c3]
theorem qyq(n:Nat)(h:n<=1048576)(hp:Hp):run cxX 16 [.sc (.int .i64 (n:Int))] hp=some (.sc (.int .i64 (64*(n:Int)+16384)),hp):=by
 have m1:max (n:Int) 0=n:=qe
 have m2:min (n:Int) 1048576=n:=qe
 have w1:IntKind.i64.wrap (64*(n:Int))=64*(n:Int):=qm qe qe
 have w2:IntKind.i64.wrap (64*(n:Int)+16384)=64*(n:Int)+16384:=qm qe qe
 rw[E16]
 simp[m1,m2,w1,w2]
theorem wV(n:Int)(hp:Hp):run cxX 30 [.sc (.pointer none),.sc (.int .i64 n)] hp=some (.sc (.int .i64 0),hp):=by
 rw[E30]
 simp
theorem Jn{x:SkN}(f:Fine x)(g:Gs)(gw:g.W)(gn:g.nf=x.g)(a c d e q t:Nat)(b k:Nat)(l:List Int)(hl:l.length<=1000000000)(hp:Hp)(hr:hp.rd b 0=some (Rc k l l.length 0)):
 B21_24 (.ptr b 0 0) xt (Qe x g a c d e q t) hp=some (.tup [wA x g a c d e q t,.sc (.int .i64 0)],hp):=by
 have ck:=ZG (zI gw gn (rk a) (rk c) (rk d) (rk e) (rk q) (rk t)) f.w hp0
 have en:=Wh b k l l.length 0 hp hl (znd _) hr
 have e0:(if(0:Int)=0/\l.length<l.length then(15:Int)else 0)=0:=qg
 rw[e0]at en
 rw[f.c]at ck
 rw[qv8]
 unfold wA at ck⊢
 unfold Qe xt
 simp[en,qp,qo,ck]
theorem qyk(b k:Nat)(l:List Int)(hl:l.length<=1000000000)(P:Int)(hP:4<=P/\P<=8)(L:List Nat)(hL:L.length=jU P)(h64:∀x∈L,x<64)(p:Nat)(hd:l.drop p=P::jk L)(hp:Hp)(hpl:p<=l.length)(hr:hp.rd b 0=some (Rc k l p 0)):
 ∃t,run cxX 62 [.ptr b 0 0] hp=some (.agg [.sc (.int .i64 P),S t 1 (LI .u8 (nz L))],hp.put b 0 (Rc k l l.length 0)):=by
 have hp256:jU P<=256:=by
  unfold jU
  exact zon (zoc qh (show P.toNat<=8 by omega)) qh
 have t0:=zm b k l hl hd hp hpl hr
 obtain⟨_,d0,hi0,_⟩:=qt hd
 have el:l.length=p+1+(jk L).length:=by
  have:=congrArg List.length d0
  simp only[zo7]at this
  omega
 have d0':l.drop (p+1)=jk L++[]:=by rw[znz];exact d0
 have lf:=XT b k l (p+1) 0 (hp.put b 0 (Rc k l (p+1) 0)) hl qe (qr _ _ _)
 have eL:rL l (p+1) 0=(jk L).length:=by unfold rL;rw[if_pos rfl];omega
 rw[eL]at lf
 obtain⟨t,t1⟩:=vu b k l hl d0' (hp.put b 0 (Rc k l (p+1) 0)) qe (qr _ _ _)
 rw[qC,<-el]at t1
 obtain⟨hpC,ct⟩:=qni L (rk t) qe h64 hp0
 have hn:=qiu P hP hp0
 have w1:IntKind.i64.wrap P=P:=qm qe qe
 refine⟨3,?_⟩
 rw[E62]
 generalize hp.put b 0 (Rc k l (p+1) 0)=H1 at*
 generalize hp.put b 0 (Rc k l l.length 0)=H2 at*
 generalize jk L=C0 at*
 rw[hL]at ct
 generalize nz L=L0 at*
 simp[t0,jW,w1,hn,qo,qs,lf,t1,ct,zc7,qp]
theorem zbj{x:SkN}{v:AV}(hv:yu x v):vJ x.g.lo/\vJ x.g.hi/\∀k∈x.g.L,vJ k:=by
 obtain⟨g,a,b,c,d,e,t,gw,gn,rfl⟩:=hv
 rw[<-gn]
 refine⟨WT gw.lo,WT gw.hi,fun k hk=>?_⟩
 obtain⟨w,hw,rfl⟩:=zn9.mp hk
 exact WT (gw.L w hw)
def gOf(g:GN):Gs:=⟨g.M,g.e0,g.e1,g.e2,g.e3,g.e4,g.e5,wk g.lo,wk g.hi,g.L.map wk⟩
theorem zjn{g:GN}(h1:vJ g.lo)(h2:vJ g.hi)(h3:∀k∈g.L,vJ k):(gOf g).nf=g:=by
 have e:(g.L.map wk).map kw=g.L:=by
  rw[zrh]
  have:∀k∈g.L,(kw∘wk) k=id k:=fun k hk=>(h3 k hk).2
  rw[zro this,List.map_id]
 unfold gOf Gs.nf
 simp only[h1.2,h2.2,e]
theorem zmf{g:GN}(p:g.Pos)(h1:vJ g.lo)(h2:vJ g.hi)(h3:∀k∈g.L,vJ k)(hl:g.L.length<=16):(gOf g).W:=by
 obtain⟨p0,p1,p2,p3,p4,p5,p6⟩:=p
 refine⟨p0,p1,p2,p3,p4,p5,p6,qb2 _ h1.1,qb2 _ h2.1,fun w hw=>?_,by show(g.L.map wk).length<=_;rw[zpb];omega⟩
 obtain⟨k,hk,rfl⟩:=zn9.mp hw
 exact qb2 _ (h3 k hk).1
theorem qcb{x:SkN}{v:AV}(hv:yu x v)(f:Fine x)(h64:H64 x)(k:Nat)(M:AV)(hro:AI.ro M=M)(hp hp1:Hp)(mt:run cxX 30 [M,.sc (.int .i64 (64*((qE x).length:Int)+16384))] hp=some (.sc (.int .i64 0),hp1)):
 ∃r hp',yu x r/\run cxX 21 [.sc (.int .u8 x.kind),S k 1 (LI .u8 (qE x)),M] hp=some (.tup [r,.sc (.int .i64 0)],hp')/\hp1.next<=hp'.next/\∀a,a<hp1.next->hp'.get a=hp1.get a:=by
 have nn:=qzj hv f h64
 have by8:=ze3 f h64
 have hk:=f.w.kind
 obtain⟨kd,on,_⟩:=qJ.mp f.c
 have six:x.kind=0\/x.kind=1\/x.kind=2\/x.kind=3\/x.kind=4\/x.kind=5:=qe
 have rm:=qyq (qE x).length qe hp0
 have wr:=Jr (rk k) (qE x) hp1
 rw[Wx]at wr
 have hr0:(hp1.new (Rc (rk k) (qE x) 0 0)).rd hp1.next 0=some (Rc (rk k) (qE x) 0 0):=qT _ _
 have fr0:∀a,a<hp1.next->(hp1.new (Rc (rk k) (qE x) 0 0)).get a=hp1.get a:=fun a ha=>by
  have:a≠hp1.next:=qe
  simp[Hp.new,this]
 have hn0:(hp1.new (Rc (rk k) (qE x) 0 0)).next=hp1.next+1:=rfl
 have hlen:¬((1048576:Int)<((qE x).length:Int)):=qe
 have dlen:decide ((1048576:Int)<((qE x).length:Int))=false:=decide_eq_false hlen
 have d0:∀Y:List Int,qE x=Y->(qE x).drop 0=Y++[]:=fun Y h=>by rw[h,zpa,znz]
 rcases six with kk|kk|kk|kk|kk|kk
 ·have s:=Qh f kk
  have eY:qE x=jX (jR (tn x.set)):=by unfold qE;rw[if_pos kk]
  have cl:=Xy (tn x.set)
  have tc:=zd4 (tn x.set)
  rw[Yf]at cl tc
  obtain⟨hp2,a1,a2,a3,a4⟩:=QQ hp1.next (rk k) (qE x) qe by8 (jR (tn x.set)) (Qc s.2.2.1) qe qe (vV _ s.2.1) 0 [] (d0 _ eY) (hp1.new (Rc (rk k) (qE x) 0 0)) qe (by rw[hn0];omega) hr0
  rw[<-eY,znk]at a2
  have sl:=qsi (jR (tn x.set)) 3 (Qc s.2.2.1) qe qe hp0
  rw[qqs _ s.2.1,s.2.2.2]at sl
  have ex:x={skZ with kind:=0,set:=x.set}:=by
   rw[jn,if_pos kk,kk]at on;exact on
  have t24:=Jn f gz vM (by rw[ex];rfl) 2 2 2 2 2 2 hp1.next (rk k) (qE x) qe hp2 a2
  refine⟨_,hp2,zI vM (by rw[ex];rfl) 2 2 2 2 2 2,?_,zon (by rw[hn0];omega) a3,fun a ha=>by rw[a4 a (by rw[hn0];omega) qe,fr0 a ha]⟩
  rw[<-t24,E21]
  generalize qE x=Y at*
  generalize hp1.new (Rc (rk k) Y 0 0)=H1 at*
  generalize csL (jR (tn x.set))=CL at*
  have e2:Qe x gz 2 2 2 2 2 2=Qe {skZ with kind:=0,set:=x.set} gz 2 2 2 2 2 2:=congrArg (fun y=>Qe y gz 2 2 2 2 2 2) ex
  rw[e2]
  simp[dlen,rm,hro,mt,kk,wr,a1,sl,qo]
  rfl
 ·have s:=vp f kk h64
  have eY:qE x=uv x.K.toNat++zh (tn x.hs):=by unfold qE;rw[if_neg qe,if_pos kk]
  have eYl:(qE x).length=(uv x.K.toNat).length+(zh (tn x.hs)).length:=by rw[eY,zm9]
  have dd:(qE x).drop 0=uv x.K.toNat++(zh (tn x.hs)++[]):=by rw[eY,znz,zpa]
  have t0:=zd hp1.next (rk k) (qE x) qe by8 (most:=1024) dd qe qe (hp1.new (Rc (rk k) (qE x) 0 0)) (zn1 _) hr0
  have d1:=qM dd
  have q1:=qX (zn1 _) dd
  rw[znk]at t0 d1 q1
  obtain⟨hp2,a1,a2,a3,a4⟩:=qsj hp1.next (rk k) (qE x) qe by8 (tn x.hs) (by rw[Yf];exact s.2.1) s.2.2.2.1 s.2.2.1 (uv x.K.toNat).length [] d1 ((hp1.new (Rc (rk k) (qE x) 0 0)).put hp1.next 0 (Rc (rk k) (qE x) (uv x.K.toNat).length 0)) q1 (by show hp1.next<hp1.next+1;omega) (qr _ _ _)
  rw[<-eYl]at a2
  rw[s.2.2.2.2]at a1
  have ex:x={skZ with kind:=1,K:=x.K,hs:=x.hs}:=by
   rw[jn,if_neg qe,if_pos kk,kk]at on;exact on
  have t24:=Jn f gz vM (by rw[ex];rfl) 2 3 2 2 2 2 hp1.next (rk k) (qE x) qe hp2 a2
  refine⟨_,hp2,zI vM (by rw[ex];rfl) 2 3 2 2 2 2,?_,by rw[a3];show hp1.next<=hp1.next+1+2;omega,fun a ha=>by
   have h1:a≠hp1.next:=qe
   rw[a4 a (by show a<hp1.next+1;omega) h1,<-fr0 a ha];simp[Hp.put,h1]⟩
  have eK:((x.K.toNat:Nat):Int)=x.K:=qe
  have w1:IntKind.i64.wrap x.K=x.K:=qm qe qe
  have lit:((1024:Nat):Int)=1024:=rfl
  rw[eK,lit]at t0
  rw[<-t24,E21]
  generalize qE x=Y at*
  generalize(hp1.new (Rc (rk k) Y 0 0)).put hp1.next 0 (Rc (rk k) Y (uv x.K.toNat).length 0)=H2 at*
  generalize hp1.new (Rc (rk k) Y 0 0)=H1 at*
  have e2:Qe x gz 2 3 2 2 2 2=Qe {skZ with kind:=1,K:=x.K,hs:=x.hs} gz 2 3 2 2 2 2:=congrArg (fun y=>Qe y gz 2 3 2 2 2 2) ex
  rw[e2]
  simp[dlen,rm,hro,mt,kk,wr,t0,xI,w1,a1,qo]
  rfl
 ·have s:=vq f kk
  have eY:qE x=x.P::jk (tn x.rg):=by unfold qE;rw[if_neg qe,if_neg qe,if_pos kk]
  obtain⟨t,a1⟩:=qyk hp1.next (rk k) (qE x) qe x.P s.1 (tn x.rg) (by rw[Yf];exact s.2.1) s.2.2.2.1 0 (by rw[zpa];exact eY) (hp1.new (Rc (rk k) (qE x) 0 0)) (zn1 _) hr0
  rw[s.2.2.2.2]at a1
  have ex:x={skZ with kind:=2,P:=x.P,rg:=x.rg}:=by
   rw[jn,if_neg qe,if_neg qe,if_pos kk,kk]at on;exact on
  have t24:=Jn f gz vM (by rw[ex];rfl) 2 2 t 2 2 2 hp1.next (rk k) (qE x) qe ((hp1.new (Rc (rk k) (qE x) 0 0)).put hp1.next 0 (Rc (rk k) (qE x) (qE x).length 0)) (qr _ _ _)
  refine⟨_,(hp1.new (Rc (rk k) (qE x) 0 0)).put hp1.next 0 (Rc (rk k) (qE x) (qE x).length 0),zI vM (by rw[ex];rfl) 2 2 t 2 2 2,?_,by show hp1.next<=hp1.next+1;omega,fun a ha=>?_⟩
  ·rw[<-t24,E21]
   generalize qE x=Y at*
   generalize(hp1.new (Rc (rk k) Y 0 0)).put hp1.next 0 (Rc (rk k) Y Y.length 0)=H2 at*
   generalize hp1.new (Rc (rk k) Y 0 0)=H1 at*
   have e2:Qe x gz 2 2 t 2 2 2=Qe {skZ with kind:=2,P:=x.P,rg:=x.rg} gz 2 2 t 2 2 2:=congrArg (fun y=>Qe y gz 2 2 t 2 2 2) ex
   rw[e2]
   simp[dlen,rm,hro,mt,kk,wr,a1,qo]
   rfl
  ·have h1:a≠hp1.next:=qe
   rw[<-fr0 a ha];simp[Hp.put,h1]
 ·have s:=xZ f kk
  have eY:qE x=uv x.B.toNat++[x.H]++zE (tn x.bs):=by unfold qE;rw[if_neg qe,if_neg qe,if_neg qe,if_pos kk]
  have eYl:(qE x).length=(uv x.B.toNat).length+1+(zE (tn x.bs)).length:=by rw[eY];simp only[zm9,znl]
  have dd:(qE x).drop 0=uv x.B.toNat++(x.H::(zE (tn x.bs)++[])):=by rw[eY,znz,zpa];simp
  have t0:=zd hp1.next (rk k) (qE x) qe by8 (most:=4096) dd qe qe (hp1.new (Rc (rk k) (qE x) 0 0)) (zn1 _) hr0
  have d1:=qM dd
  have q1:=qX (zn1 _) dd
  rw[znk]at t0 d1 q1
  have t1:=zm hp1.next (rk k) (qE x) qe d1 ((hp1.new (Rc (rk k) (qE x) 0 0)).put hp1.next 0 (Rc (rk k) (qE x) (uv x.B.toNat).length 0)) q1 (qr _ _ _)
  rw[qC]at t1
  obtain⟨_,d2,hi2,_⟩:=qt d1
  obtain⟨ta,tb,t2⟩:=XX (tn x.bs) (by rw[Yf];exact s.2.2.1) s.2.2.2.2.1 s.2.2.2.1 hp1.next (rk k) (qE x) qe by8 ((uv x.B.toNat).length+1) [] d2 ((hp1.new (Rc (rk k) (qE x) 0 0)).put hp1.next 0 (Rc (rk k) (qE x) ((uv x.B.toNat).length+1) 0)) qe (qr _ _ _)
  rw[qC,<-eYl]at t2
  obtain⟨hpL,ls⟩:=XY (tn x.bs) (by rw[Yf];exact s.2.2.1) s.2.2.2.2.1 s.2.2.2.1 (rk ta) (rk tb) hp0
  rw[s.2.2.2.2.2]at ls
  have ex:x={skZ with kind:=3,B:=x.B,H:=x.H,bs:=x.bs}:=by
   rw[jn,if_neg qe,if_neg qe,if_neg qe,if_pos kk,kk]at on;exact on
  have t24:=Jn f gz vM (by rw[ex];rfl) 2 2 2 2 2 2 hp1.next (rk k) (qE x) qe ((hp1.new (Rc (rk k) (qE x) 0 0)).put hp1.next 0 (Rc (rk k) (qE x) (qE x).length 0)) (qr _ _ _)
  refine⟨_,(hp1.new (Rc (rk k) (qE x) 0 0)).put hp1.next 0 (Rc (rk k) (qE x) (qE x).length 0),zI vM (by rw[ex];rfl) 2 2 2 2 2 2,?_,by show hp1.next<=hp1.next+1;omega,fun a ha=>?_⟩
  ·have eB:((x.B.toNat:Nat):Int)=x.B:=qe
   have w1:IntKind.i64.wrap x.B=x.B:=qm qe qe
   have w2:IntKind.i64.wrap x.H=x.H:=qm qe qe
   have lit:((4096:Nat):Int)=4096:=rfl
   rw[eB,lit]at t0
   rw[<-t24,E21]
   unfold wg at t2 ls
   generalize pk (qO (qA (tn x.bs)) (tn x.bs))=A at*
   generalize pk (qG (qA (tn x.bs)) 0 (tn x.bs))=Bh at*
   generalize qE x=Y at*
   generalize(hp1.new (Rc (rk k) Y 0 0)).put hp1.next 0 (Rc (rk k) Y Y.length 0)=H4 at*
   generalize(hp1.new (Rc (rk k) Y 0 0)).put hp1.next 0 (Rc (rk k) Y ((uv x.B.toNat).length+1) 0)=H3 at*
   generalize(hp1.new (Rc (rk k) Y 0 0)).put hp1.next 0 (Rc (rk k) Y (uv x.B.toNat).length 0)=H2 at*
   generalize hp1.new (Rc (rk k) Y 0 0)=H1 at*
   have e2:Qe x gz 2 2 2 2 2 2=Qe {skZ with kind:=3,B:=x.B,H:=x.H,bs:=x.bs} gz 2 2 2 2 2 2:=congrArg (fun y=>Qe y gz 2 2 2 2 2 2) ex
   rw[e2]
   generalize((tn x.bs).length:Int)=N1 at*
   generalize((qI (tn x.bs):Nat):Int)=N2 at*
   generalize((qA (tn x.bs):Nat):Int)=N3 at*
   simp[dlen,rm,hro,mt,kk,wr,t0,xI,w1,t1,jW,w2,t2,ls,qo]
   rfl
  ·have h1:a≠hp1.next:=qe
   rw[<-fr0 a ha];simp[Hp.put,h1]
 ·have s:=vr f kk
  have eY:qE x=[x.R]++uv x.C.toNat++zV x.C x.cs 0 0:=by unfold qE;rw[if_neg qe,if_neg qe,if_neg qe,if_neg qe,if_pos kk]
  obtain⟨hp2,a1,a2,a3⟩:=qym hp1.next (rk k) (qE x) qe by8 x.R x.C s.1 s.2.1 x.cs s.2.2.1 f.w.cs 0 [] (d0 _ eY) (hp1.new (Rc (rk k) (qE x) 0 0)) (zn1 _) (by rw[hn0];omega) hr0
  rw[<-eY,znk]at a2
  have ex:x={skZ with kind:=4,R:=x.R,C:=x.C,cs:=x.cs}:=by
   rw[jn,if_neg qe,if_neg qe,if_neg qe,if_neg qe,if_pos kk,kk]at on;exact on
  have t24:=Jn f gz vM (by rw[ex];rfl) 2 2 2 2 0 2 hp1.next (rk k) (qE x) qe hp2 a2
  refine⟨_,hp2,zI vM (by rw[ex];rfl) 2 2 2 2 0 2,?_,zon (by rw[hn0];omega) a3.1,fun a ha=>by
   have h1:a≠hp1.next:=qe
   rw[a3.2 a (by rw[hn0];omega) (by simp[h1]),fr0 a ha]⟩
  rw[<-t24,E21]
  generalize qE x=Y at*
  generalize hp1.new (Rc (rk k) Y 0 0)=H1 at*
  have e2:Qe x gz 2 2 2 2 0 2=Qe {skZ with kind:=4,R:=x.R,C:=x.C,cs:=x.cs} gz 2 2 2 2 0 2:=congrArg (fun y=>Qe y gz 2 2 2 2 0 2) ex
  rw[e2]
  simp[dlen,rm,hro,mt,kk,wr,a1,qo]
  rfl
 ·have s:=xV f kk
  obtain⟨g1,g2,g3⟩:=zbj hv
  have eY:qE x=yE x.gK x.g:=by unfold qE;rw[if_neg qe,if_neg qe,if_neg qe,if_neg qe,if_neg qe]
  have a1:=qyl hp1.next (rk k) (qE x) qe by8 x.gK qe x.g f.pos g1 g2 g3 (ZM s.2.1) s.2.2 0 [] (d0 _ eY) (hp1.new (Rc (rk k) (qE x) 0 0)) (zn1 _) hr0
  rw[<-eY,znk]at a1
  have ex:x={skZ with kind:=5,gK:=x.gK,g:=x.g}:=by
   rw[jn,if_neg qe,if_neg qe,if_neg qe,if_neg qe,if_neg qe,if_pos kk,kk]at on;exact on
  have gw:=zmf f.pos g1 g2 g3 s.2.2
  have gn:=zjn g1 g2 g3
  have t24:=Jn f (gOf x.g) gw gn 2 2 2 2 2 2 hp1.next (rk k) (qE x) qe ((hp1.new (Rc (rk k) (qE x) 0 0)).put hp1.next 0 (Rc (rk k) (qE x) (qE x).length 0)) (qr _ _ _)
  refine⟨_,(hp1.new (Rc (rk k) (qE x) 0 0)).put hp1.next 0 (Rc (rk k) (qE x) (qE x).length 0),zI gw gn 2 2 2 2 2 2,?_,by show hp1.next<=hp1.next+1;omega,fun a ha=>?_⟩
  ·rw[<-t24,E21]
   generalize qE x=Y at*
   generalize(hp1.new (Rc (rk k) Y 0 0)).put hp1.next 0 (Rc (rk k) Y Y.length 0)=H2 at*
   generalize hp1.new (Rc (rk k) Y 0 0)=H1 at*
   have e2:Qe x (gOf x.g) 2 2 2 2 2 2=Qe {skZ with kind:=5,gK:=x.gK,g:=x.g} (gOf x.g) 2 2 2 2 2 2:=congrArg (fun y=>Qe y (gOf x.g) 2 2 2 2 2 2) ex
   rw[e2]
   simp[dlen,rm,hro,mt,kk,wr,a1,qo]
   rfl
  ·have h1:a≠hp1.next:=qe
   rw[<-fr0 a ha];simp[Hp.put,h1]
theorem zt(v:Value):ql [.sc v] 0=some v:=rfl
theorem yc(k:Nat)(hp:Hp):run cxX 55 [S k 1 [.sc (.int .i64 0),.sc (.int .i64 0)]] hp=some (.sc (.int .i64 0),hp):=by
 rw[E55]
 have b2:B55_2 (S (rk k) 1 [.sc (.int .i64 0),.sc (.int .i64 0)]) (.int .i64 2) (.int .i64 2) hp=some (.sc (.int .i64 0),hp):=by
  rw[qa8];simp
 have w1:IntKind.i64.wrap (1+1)=2:=qh
 have w0:IntKind.i64.wrap (0+1)=1:=qh
 have b1:B55_2 (S (rk k) 1 [.sc (.int .i64 0),.sc (.int .i64 0)]) (.int .i64 2) (.int .i64 1) hp=some (.sc (.int .i64 0),hp):=by
  rw[qa8];simp[zt,w1,b2]
 have b0:B55_2 (S (rk k) 1 [.sc (.int .i64 0),.sc (.int .i64 0)]) (.int .i64 2) (.int .i64 0) hp=some (.sc (.int .i64 0),hp):=by
  rw[qa8];simp[zt,w0,b1]
 simp[b0]
theorem zf1(cs:List (Nat×Nat)):(lsC cs).length=wo cs:=by
 induction cs with
 |nil=>rfl
 |cons c r ih=>
  show(Vd c.1 c.2 256 0++lsC r).length=zx c.2 256+wo r
  have:=qqq c.1 c.2 256 0
  have e:zx c.2 0=0:=rfl
  rw[e]at this
  rw[zm9,ih]
  simp only[zoy,znk]at this
  omega
theorem qf1(l:List Nat)(h:qN l):wo (jR l)=l.length:=by rw[<-zf1,qqs l h]
structure RW3 (hp : Hp) (rb sb wb k1 k2 : Nat) (L1 L2 : List Int) (p1 p2 : Nat) (Z : List Int) : Prop where
 r:hp.rd rb 0=some (Rc k1 L1 p1 0)
 s:hp.rd sb 0=some (Rc k2 L2 p2 0)
 w:hp.rd wb 0=some (Wc Z)
 lr:rb<hp.next
 ls:sb<hp.next
 lw:wb<hp.next
 rs:rb≠sb
 rw:rb≠wb
 sw:sb≠wb
section
variable {hp:Hp}{rb sb wb k1 k2:Nat}{L1 L2:List Int}{p1 p2:Nat}{Z:List Int}
theorem RW3.fr{hp':Hp}{p1' p2':Nat}{Z':List Int}(h:RW3 hp rb sb wb k1 k2 L1 L2 p1 p2 Z)(hn:hp.next<=hp'.next)(h1:hp'.rd rb 0=some (Rc k1 L1 p1' 0))(h2:hp'.rd sb 0=some (Rc k2 L2 p2' 0))(h3:hp'.rd wb 0=some (Wc Z')):RW3 hp' rb sb wb k1 k2 L1 L2 p1' p2' Z':=
 ⟨h1,h2,h3,znu h.lr hn,znu h.ls hn,znu h.lw hn,h.rs,h.rw,h.sw⟩
theorem RW3.setR(h:RW3 hp rb sb wb k1 k2 L1 L2 p1 p2 Z)(p:Nat):RW3 (hp.put rb 0 (Rc k1 L1 p 0)) rb sb wb k1 k2 L1 L2 p p2 Z:=
 h.fr (znd _) (qr _ _ _) (by rw[qB _ _ (fun e=>h.rs e.symm)];exact h.s) (by rw[qB _ _ (fun e=>h.rw e.symm)];exact h.w)
theorem RW3.setS(h:RW3 hp rb sb wb k1 k2 L1 L2 p1 p2 Z)(p:Nat):RW3 (hp.put sb 0 (Rc k2 L2 p 0)) rb sb wb k1 k2 L1 L2 p1 p Z:=
 h.fr (znd _) (by rw[qB _ _ h.rs];exact h.r) (qr _ _ _) (by rw[qB _ _ (fun e=>h.sw e.symm)];exact h.w)
theorem RW3.setW(h:RW3 hp rb sb wb k1 k2 L1 L2 p1 p2 Z)(Z':List Int):RW3 (hp.put wb 0 (Wc Z')) rb sb wb k1 k2 L1 L2 p1 p2 Z':=
 h.fr (znd _) (by rw[qB _ _ h.rw];exact h.r) (by rw[qB _ _ h.sw];exact h.s) (qr _ _ _)
end
theorem qsu(hp:Hp)(rb sb wb k1 k2:Nat)(a b m:List Nat)(ha:qN a)(hb:qN b)(hm:qN m)(a32:∀x∈a,x<4294967296)(b32:∀x∈b,x<4294967296)(al:a.length<=4096)(bl:b.length<=4096)(hab:∀x,x∈m↔x∈a\/x∈b)
 (h:RW3 hp rb sb wb k1 k2 (jX (jR a)) (jX (jR b)) 0 0 []):
 ∃hp',run cxX 49 [.ptr wb 0 0,.ptr rb 0 0,.ptr sb 0 0] hp=some (.sc (.int .i64 (if 4096<m.length then 7 else 0)),hp')/\
  (m.length<=4096->RW3 hp' rb sb wb k1 k2 (jX (jR a)) (jX (jR b)) (jX (jR a)).length (jX (jR b)).length (jX (jR m))):=by
 have oa:=Qc a32
 have ob:=Qc b32
 have m32:∀x∈m,x<4294967296:=fun x hx=>((hab x).mp hx).elim (a32 x) (b32 x)
 have om:=Qc m32
 have ca:=Xy a
 have cb:=Xy b
 have cm:=Xy m
 have la:=Ql (l:=a) al a32
 have lb:=Ql (l:=b) bl b32
 have e:=zj7 a b m ha hb hm a32 b32 hab
 have ta:=qf1 a ha
 have tb:=qf1 b hb
 have tm:=qf1 m hm
 obtain⟨hp1,q1,q2,q3,q4⟩:=QQ rb k1 (jX (jR a)) qe qgk (jR a) oa qe qe (vV a ha) 0 [] qg hp qe h.lr h.r
 rw[znk]at q2
 have s1:hp1.rd sb 0=some (Rc k2 (jX (jR b)) 0 0):=by rw[xO (q4 sb h.ls (fun e=>h.rs e.symm))];exact h.s
 have w1:hp1.rd wb 0=some (Wc []):=by rw[xO (q4 wb h.lw (fun e=>h.rw e.symm))];exact h.w
 have h1:RW3 hp1 rb sb wb k1 k2 (jX (jR a)) (jX (jR b)) (jX (jR a)).length 0 []:=h.fr q3 q2 s1 w1
 obtain⟨hp2,z1,z2,z3,z4⟩:=QQ sb k2 (jX (jR b)) qe qgk (jR b) ob qe qe (vV b hb) 0 [] qg hp1 qe h1.ls s1
 rw[znk]at z2
 have h2:RW3 hp2 rb sb wb k1 k2 (jX (jR a)) (jX (jR b)) (jX (jR a)).length (jX (jR b)).length []:=
  h1.fr z3 (by rw[xO (z4 rb h1.lr h.rs)];exact q2) z2 (by rw[xO (z4 wb h1.lw (fun e=>h.sw e.symm))];exact w1)
 have r1:=qW rb k1 _ _ _ hp2 h2.r
 have r2:=qW sb k2 _ _ _ hp2 h2.s
 have f2:=yc
 have so:=fun k k'=>zeh (jR a) (jR b) k k' qe oa ob hp0
 rw[e]at so
 have mlen:m.length<=8192:=by
  have:m.length<=(a++b).length:=by
   have nd:m.Nodup:=((xk m).mp hm).imp (fun h=>zpf h)
   exact nd.length_le_of_subset (fun x hx=>by rw[zoj];exact(hab x).mp hx)
  rw[zm9]at this
  omega
 have totm:wo (jR m)<=1000000:=qe
 have sm:=fun k=>qsh (jR m) k qe totm hp0
 rw[tm]at sm
 by_cases hlt:4096<m.length
 ·rw[if_pos hlt]
  refine⟨hp2,?_,fun c=>qe⟩
  have hlt':(4096:Int)<(m.length:Int):=qe
  rw[E49]
  simp[q1,z1,r1,r2,f2,so,sm,hlt,hlt']
 ·rw[if_neg hlt]
  have hlt':¬((4096:Int)<(m.length:Int)):=qe
  have sp:=fun k=>qyn (jR m) k wb om qe [] qg hp2 h2.w
  rw[zn4]at sp
  refine⟨hp2.put wb 0 (Wc (jX (jR m))),?_,fun _=>h2.setW _⟩
  rw[E49]
  generalize csL (jR m)=CM at*
  generalize csL (jR a)=CA at*
  generalize csL (jR b)=CB at*
  simp[q1,z1,r1,r2,f2,so,sm,hlt,hlt',sp]
def wt:List Nat->List Nat->List Nat
 |[],b=>b
 |a,[]=>a
 |x::a,y::b=>if x<y then x::wt a (y::b)else if y<x then y::wt (x::a) b else x::wt a b
termination_by a b=>a.length+b.length
@[simp] theorem xT(b:List Nat):wt [] b=b:=by unfold wt;rfl
@[simp] theorem qc5(a:List Nat):wt a []=a:=by cases a<;>(unfold wt;rfl)
theorem vH(x:Nat)(a:List Nat)(y:Nat)(b:List Nat):wt (x::a) (y::b)=if x<y then x::wt a (y::b)else if y<x then y::wt (x::a) b else x::wt a b:=by
 rw[wt]
theorem WL:∀(n:Nat) (a b:List Nat),a.length+b.length<=n->nz (wt a b)=mrg (nz a) (nz b):=by
 intro n
 induction n with
 |zero=>
  intro a b h
  have e1:a=[]:=znp.mp qe
  subst e1
  rw[xT]
  exact(Jz _).symm
 |succ n ih=>
  intro a b h
  cases a with
  |nil=>rw[xT];exact(Jz _).symm
  |cons x a=>
   cases b with
   |nil=>rw[qc5];exact(Kh _).symm
   |cons y b=>
    simp only[zna]at h
    have e1:=ih a (y::b) (by simp only[zna];omega)
    have e2:=ih (x::a) b (by simp only[zna];omega)
    have e3:=ih a b qe
    rw[vH]
    show _=mrg ((x:Int)::nz a) ((y:Int)::nz b)
    rw[zP]
    by_cases h1:x<y
    ·rw[if_pos h1,if_pos (show(x:Int)<(y:Int) by omega)]
     show(x:Int)::nz _=_
     rw[e1];rfl
    ·rw[if_neg h1,if_neg (show ¬((x:Int)<(y:Int)) by omega)]
     by_cases h2:y<x
     ·rw[if_pos h2,if_pos (show(y:Int)<(x:Int) by omega)]
      show(y:Int)::nz _=_
      rw[e2];rfl
     ·rw[if_neg h2,if_neg (show ¬((y:Int)<(x:Int)) by omega)]
      show(x:Int)::nz _=_
      rw[e3]
def RCu(hp:Hp)(c br:Nat)(hs r:List Nat):Prop:=
 ∃kk t bl q i,kk<=63/\bl.length<=100000000/\By bl/\c≠br/\(∀g∈qw hs,g/2^kk<=4096)/\hs.drop i=r/\i+r.length=hs.length/\
  hp.rd c 0=some (Cu br kk hs.length i (if i=0 then 0 else hs.getD (i-1) 0))/\hp.rd br 0=some (Rb t bl q false)/\At bl q (jb kk ((qw hs).drop i))
theorem RCu.fr{hp hp':Hp}{c br:Nat}{hs r:List Nat}(h:RCu hp c br hs r)(e1:hp'.get c=hp.get c)(e2:hp'.get br=hp.get br):RCu hp' c br hs r:=by
 obtain⟨kk,t,bl,q,i,h1,h2,h3,h4,h5,h6,h7,h8,h9,h10⟩:=h
 exact⟨kk,t,bl,q,i,h1,h2,h3,h4,h5,h6,h7,by rw[xO e1];exact h8,by rw[xO e2];exact h9,h10⟩
theorem Xw{hp:Hp}{c br:Nat}{hs r:List Nat}(hm:hs.length<=4096)(h64:∀x∈hs,x<18446744073709551616)(hr:qN hs)(h:RCu hp c br hs r):
 ∃hp',run cxX 102 [.ptr c 0 0] hp=some (.tup [.sc (.int .u64 (r.headD 0:Nat)),.sc (.bool (!r.isEmpty))],hp')/\RCu hp' c br hs r.tail/\hp'.next=hp.next/\∀a,a≠c->a≠br->hp'.get a=hp.get a:=by
 obtain⟨kk,t,bl,q,i,hkk,hbl,h8,hne,hq,h,hil,hc,hb,hat⟩:=h
 cases r with
 |nil=>
  have e:i=hs.length:=by simpa using hil
  subst e
  exact⟨hp,qcp c br kk hs.length _ qe hp hc,⟨kk,t,bl,q,hs.length,hkk,hbl,h8,hne,hq,h,hil,hc,hb,hat⟩,rfl,fun _ _ _=>rfl⟩
 |cons x r=>
  obtain⟨e1,e2,hi,e3⟩:=qt h
  simp only[zna]at hil
  have hig:i<(qw hs).length:=qi
  have gg:=Xp hs i hi
  have ex:hs.getD i 0=x:=by rw[znb,e1];rfl
  have hx:x<18446744073709551616:=h64 x (by rw[<-e3];exact znr _)
  obtain⟨g,hgd⟩:∃g,(qw hs)[i]?=some g:=⟨_,gg⟩
  have hge:(qw hs)[i]=g:=(zni.mp hgd).2
  have hgm:g∈qw hs:=by rw[<-hge];exact znr _
  have hg64:=xG h64 g hgm
  have hgq:=hq g hgm
  have hdr:(qw hs).drop i=g::(qw hs).drop (i+1):=by rw[zn6 hig,hge]
  have hxg:x=if i=0 then g else(if i=0 then 0 else hs.getD (i-1) 0)+1+g:=by
   rw[gg]at hgd
   have hgd:=zn0 hgd
   by_cases h0:i=0
   ·subst h0
    rw[if_pos rfl]at hgd⊢
    rw[<-hgd,ex]
   ·rw[if_neg h0]at hgd⊢
    have hlt:=vA hs hr (i-1) qe
    have e:i-1+1=i:=qe
    rw[e]at hlt
    rw[if_neg h0]
    omega
  rw[hdr]at hat
  have eb:jb kk (g::(qw hs).drop (i+1))=una (g/2^kk)++ko g kk++jb kk ((qw hs).drop (i+1)):=rfl
  rw[eb]at hat
  obtain⟨at1,at2⟩:=hat.app
  have nx:=qcq c br kk hs.length t bl hkk qe hbl h8 hne i _ g x q hi hg64 hgq hx hxg hp hc hb at1
  refine⟨_,nx,⟨kk,t,bl,q+(una (g/2^kk)++ko g kk).length,i+1,hkk,hbl,h8,hne,hq,e2,by simp only[zp9];omega,?_,?_,at2⟩,rfl,fun a h1 h2=>by simp[Hp.put,h1,h2]⟩
  ·rw[qr,if_neg qe,Nat.add_sub_cancel,ex]
  ·rw[qB _ _ (fun e=>hne e.symm),qr]
theorem qks(b k:Nat)(l:List Int)(hl:l.length<=1000000000)(h8:By l)(hs:List Nat)(hn:hs.length<=1024)(h64:∀x∈hs,x<18446744073709551616)(p:Nat)(rest:List Int)(hd:l.drop p=zh hs++rest)(hp:Hp)(hpl:p<=l.length)(hb:b<hp.next)(hr:hp.rd b 0=some (Rc k l p 0)):
 ∃hp',run cxX 101 [.ptr b 0 0] hp=some (.ptr hp.next 0 0,hp')/\RCu hp' hp.next (hp.next+1) hs hs/\hp'.rd b 0=some (Rc k l (p+(zh hs).length) 0)/\hp'.next=hp.next+2/\∀a,a<hp.next->a≠b->hp'.get a=hp.get a:=by
 obtain⟨k63,hq⟩:=QZ (gs:=qw hs) (xG h64)
 have rl:=Qn (jd (qw hs)) k63 (qw hs) hq
 rw[kK]at rl
 have eR:jf (qw hs)=jb (jd (qw hs)) (qw hs):=rfl
 have b8:By (pk (jf (qw hs))):=fun x hx=>WE hx
 have hbl:(pk (jf (qw hs))).length<=1048576:=by rw[zZ,eR];omega
 have ey:zh hs=uv hs.length++((jd (qw hs):Int)::(uv (pk (jf (qw hs))).length++(pk (jf (qw hs))))):=by unfold zh;simp
 have ed:zh hs++rest=uv hs.length++((jd (qw hs):Int)::(uv (pk (jf (qw hs))).length++(pk (jf (qw hs))++rest))):=by rw[ey];simp
 have el:(zh hs).length=(uv hs.length).length+1+(uv (pk (jf (qw hs))).length).length+(pk (jf (qw hs))).length:=by rw[ey];simp only[zm9,zna];omega
 rw[ed]at hd
 obtain⟨hp1,t,a1,a2,a3,a4,a5,a6⟩:=qin b k l hl h8 hs.length (jd (qw hs)) (pk (jf (qw hs))) qe k63 hbl p rest hd hp hpl hb hr
 have e':p+(uv hs.length).length+1+(uv (pk (jf (qw hs))).length).length+(pk (jf (qw hs))).length=p+(zh hs).length:=qe
 rw[e']at a4
 exact⟨hp1,a1,⟨jd (qw hs),t,pk (jf (qw hs)),0,0,k63,qe,b8,qe,hq,rfl,qg,a2,a3,by rw[zpa,<-eR];exact At.pk _⟩,a4,a5,a6⟩
section
variable (wb c1 b1 c2 b2 K:Nat)(aa bb:List Nat)(hK:K<=1024)(la:aa.length<=4096)(lb:bb.length<=4096)(ha:qN aa)(hb:qN bb)(a64:∀x∈aa,x<18446744073709551616)(b64:∀x∈bb,x<18446744073709551616)
 (n1:c1≠c2) (n2:c1≠b2) (n3:b1≠c2) (n4:b1≠b2)
noncomputable def Hst(out A B:List Nat)(hp:Hp):Option (AV×Hp):=B50_11 (.ptr wb 0 0) (.int .u64 (K:Int)) (.ptr c1 0 0) (.ptr c2 0 0) (S 2 1 (LI .u64 (nz out))) (.int .u64 (A.headD 0:Nat)) (.bool (!A.isEmpty)) (.int .u64 (B.headD 0:Nat)) (.bool (!B.isEmpty)) hp
include hK la lb ha hb a64 b64 n1 n2 n3 n4
theorem zbc(out A B:List Nat)(hout:out.length<K)(v:Nat)(hv:v<18446744073709551616)(hp:Hp)(hA:RCu hp c1 b1 aa A.tail)(hB:RCu hp c2 b2 bb B.tail)(x17:Value)(hx:x17= .int .u64 (v:Int)):
 ∃hp',B50_15 (.ptr wb 0 0) (.int .u64 (K:Int)) (.ptr c1 0 0) (.ptr c2 0 0) (S 2 1 (LI .u64 (nz out))) (.int .u64 (A.headD 0:Nat)) (.bool (!A.isEmpty)) (.int .u64 (B.headD 0:Nat)) (.bool (!B.isEmpty)) x17 hp=Hst wb c1 c2 K (out++[v]) (if !A.isEmpty&&decide (A.headD 0=v)then A.tail else A) (if !B.isEmpty&&decide (B.headD 0=v)then B.tail else B) hp'/\
  RCu hp' c1 b1 aa (if !A.isEmpty&&decide (A.headD 0=v)then A.tail else A).tail/\RCu hp' c2 b2 bb (if !B.isEmpty&&decide (B.headD 0=v)then B.tail else B).tail/\hp'.next=hp.next/\∀a,a≠c1->a≠b1->a≠c2->a≠b2->hp'.get a=hp.get a:=by
 subst hx
 obtain⟨h1,p1,p2,p3,p4⟩:=Xw la a64 ha hA
 have ap:=Qz .u64 (nz out) 2 (.inr rfl) 8 qh (v:Int) qi
 have es:nz out++[(v:Int)]=nz (out++[v]):=by rw[yW]
 rw[es]at ap
 have s2:∀(A':List Nat) (hp:Hp),RCu hp c1 b1 aa A'.tail->RCu hp c2 b2 bb B.tail->∃hp',B50_18 (.ptr wb 0 0) (.int .u64 (K:Int)) (.ptr c1 0 0) (.ptr c2 0 0) (S 2 1 (LI .u64 (nz (out++[v])))) (.int .u64 (A'.headD 0:Nat)) (.bool (!A'.isEmpty)) (.int .u64 (B.headD 0:Nat)) (.bool (!B.isEmpty)) (.int .u64 (v:Int)) hp=Hst wb c1 c2 K (out++[v]) A' (if !B.isEmpty&&decide (B.headD 0=v)then B.tail else B) hp'/\
  RCu hp' c1 b1 aa A'.tail/\RCu hp' c2 b2 bb (if !B.isEmpty&&decide (B.headD 0=v)then B.tail else B).tail/\hp'.next=hp.next/\∀a,a≠c1->a≠b1->a≠c2->a≠b2->hp'.get a=hp.get a:=by
  intro A' hp hA' hB'
  obtain⟨h2,q1,q2,q3,q4⟩:=Xw lb b64 hb hB'
  rw[qv2]
  by_cases hc:(!B.isEmpty&&decide (B.headD 0=v))=true
  ·rw[if_pos hc]
   have hc':=hc
   rw[zo0,decide_eq_true_eq]at hc
   refine⟨h2,?_,hA'.fr (q4 _ n1 n2) (q4 _ n3 n4),q2,q3,fun a _ _ e3 e4=>q4 a e3 e4⟩
   rw[hc.1,hc.2]
   unfold Hst
   generalize B.tail=T at*
   simp[qv1,q1]
  ·rw[if_neg hc]
   refine⟨hp,?_,hA',hB',rfl,fun _ _ _ _ _=>rfl⟩
   unfold Hst
   cases B with
   |nil=>simp
   |cons y r=>
    have hy:¬(y=v):=fun e=>hc (by simp[e])
    have hy':¬((y:Int)=(v:Int)):=qe
    simp[hy,hy']
 rw[qv4]
 by_cases hc:(!A.isEmpty&&decide (A.headD 0=v))=true
 ·rw[if_pos hc]
  rw[zo0,decide_eq_true_eq]at hc
  obtain⟨h2,q1,q2,q3,q4,q5⟩:=s2 A.tail h1 p2 (hB.fr (p4 _ (fun e=>n1 e.symm) (fun e=>n3 e.symm)) (p4 _ (fun e=>n2 e.symm) (fun e=>n4 e.symm)))
  refine⟨h2,?_,q2,q3,by rw[q4,p3],fun a e1 e2 e3 e4=>by rw[q5 a e1 e2 e3 e4,p4 a e1 e2]⟩
  rw[<-q1,hc.1,hc.2]
  generalize A.tail=T at*
  simp[ap,qv3,p1]
 ·rw[if_neg hc]
  obtain⟨h2,q1,q2,q3,q4,q5⟩:=s2 A hp hA hB
  refine⟨h2,?_,q2,q3,q4,q5⟩
  rw[<-q1]
  cases A with
  |nil=>simp[ap]
  |cons y r=>
   have hy:¬(y=v):=fun e=>hc (by simp[e])
   have hy':¬((y:Int)=(v:Int)):=qe
   simp[ap,hy,hy']
theorem quf:∀(n:Nat) (A B out:List Nat) (hp:Hp),A.length+B.length<=n->out.length<=K->(∀x∈A,x<18446744073709551616)->(∀x∈B,x<18446744073709551616)->RCu hp c1 b1 aa A.tail->RCu hp c2 b2 bb B.tail->
 ∃hp',Hst wb c1 c2 K out A B hp=B50_20 (.ptr wb 0 0) (.int .u64 (K:Int)) (S 2 1 (LI .u64 (nz ((out++wt A B).take K)))) hp'/\hp'.next=hp.next/\∀a,a≠c1->a≠b1->a≠c2->a≠b2->hp'.get a=hp.get a:=by
 intro n
 induction n with
 |zero=>
  intro A B out hp hn ho hA hB h1 h2
  have e1:A=[]:=znp.mp qe
  have e2:B=[]:=znp.mp qe
  subst e1;subst e2
  refine⟨hp,?_,rfl,fun _ _ _ _ _=>rfl⟩
  rw[xT,znz,zn2 ho]
  unfold Hst
  rw[xq]
  simp
 |succ n ih=>
  intro A B out hp hn ho hA hB h1 h2
  have w1:IntKind.u64.wrap ((out.length:Nat):Int)=((out.length:Nat):Int):=by rw[qu]<;>omega
  by_cases hfull:out.length=K
  ·refine⟨hp,?_,rfl,fun _ _ _ _ _=>rfl⟩
   have ex:(out++wt A B).take K=out:=by rw[<-hfull,zrq]
   rw[ex]
   unfold Hst
   rw[xq]
   have hl:¬(out.length<K):=qe
   have hl':¬((out.length:Int)<(K:Int)):=qe
   cases A with
   |nil=>cases B<;>simp[yq,w1,hl,hl']
   |cons x A=>simp[yq,w1,hl,hl']
  ·have hlt:out.length<K:=qe
   have hlt':(out.length:Int)<(K:Int):=qe
   have go:∀(v:Nat) (A' B':List Nat),v<18446744073709551616->(if !A.isEmpty&&decide (A.headD 0=v)then A.tail else A)=A'->(if !B.isEmpty&&decide (B.headD 0=v)then B.tail else B)=B'->A'.length+B'.length<=n->(∀x∈A',x<18446744073709551616)->(∀x∈B',x<18446744073709551616)->v::wt A' B'=wt A B->
    Hst wb c1 c2 K out A B hp=B50_15 (.ptr wb 0 0) (.int .u64 (K:Int)) (.ptr c1 0 0) (.ptr c2 0 0) (S 2 1 (LI .u64 (nz out))) (.int .u64 (A.headD 0:Nat)) (.bool (!A.isEmpty)) (.int .u64 (B.headD 0:Nat)) (.bool (!B.isEmpty)) (.int .u64 (v:Int)) hp->
    ∃hp',Hst wb c1 c2 K out A B hp=B50_20 (.ptr wb 0 0) (.int .u64 (K:Int)) (S 2 1 (LI .u64 (nz ((out++wt A B).take K)))) hp'/\hp'.next=hp.next/\∀a,a≠c1->a≠b1->a≠c2->a≠b2->hp'.get a=hp.get a:=by
    intro v A' B' hv eA eB hn' hA' hB' em es
    obtain⟨g1,s1,s2,s3,s4,s5⟩:=zbc wb c1 b1 c2 b2 K aa bb hK la lb ha hb a64 b64 n1 n2 n3 n4 out A B hlt v hv hp h1 h2 _ rfl
    rw[eA]at s1 s2
    rw[eB]at s1 s3
    obtain⟨g2,t1,t2,t3⟩:=ih A' B' (out++[v]) g1 hn' qi hA' hB' s2 s3
    refine⟨g2,?_,by rw[t2,s4],fun a e1 e2 e3 e4=>by rw[t3 a e1 e2 e3 e4,s5 a e1 e2 e3 e4]⟩
    rw[es,s1,t1,<-em]
    simp
   cases A with
   |nil=>
    cases B with
    |nil=>
     refine⟨hp,?_,rfl,fun _ _ _ _ _=>rfl⟩
     rw[xT,znz,zn2 ho]
     unfold Hst
     rw[xq]
     simp
    |cons y B=>
     refine go y [] B (hB y qg) qg qg (by simp at hn⊢;omega) qg (fun x hx=>hB x (by simp[hx])) qg ?_
     unfold Hst
     rw[xq]
     simp[yq,w1,hlt,hlt',QF,qd8]
   |cons x A=>
    cases B with
    |nil=>
     refine go x A [] (hA x qg) qg qg (by simp at hn⊢;omega) (fun y hy=>hA y (by simp[hy])) qg qg ?_
     unfold Hst
     rw[xq]
     simp[yq,w1,hlt,hlt',QF]
    |cons y B=>
     simp only[zna]at hn
     by_cases hxy:x<y
     ·refine go x A (y::B) (hA x qg) qg qi qi (fun z hz=>hA z (by simp[hz])) hB (by rw[vH,if_pos hxy]) ?_
      unfold Hst
      rw[xq]
      have q:¬(y<x):=qe
      have q':¬((y:Int)<(x:Int)):=qe
      simp[yq,w1,hlt,hlt',QF,q,q']
     ·by_cases hyx:y<x
      ·refine go y (x::A) B (hB y qg) qi qg qi hA (fun z hz=>hB z (by simp[hz])) (by rw[vH,if_neg hxy,if_pos hyx]) ?_
       unfold Hst
       rw[xq]
       have q':(y:Int)<(x:Int):=qe
       simp[yq,w1,hlt,hlt',QF,qd8,hyx,q']
      ·have exy:x=y:=qe
       refine go x A B (hA x qg) qg (by simp[exy]) qe (fun z hz=>hA z (by simp[hz])) (fun z hz=>hB z (by simp[hz])) (by rw[vH,if_neg hxy,if_neg hyx]) ?_
       unfold Hst
       rw[xq]
       have q':¬((y:Int)<(x:Int)):=qe
       simp[yq,w1,hlt,hlt',QF,hyx,q']
end
theorem JA(x:Nat)(a b:List Nat):x∈wt a b↔x∈a\/x∈b:=by
 have h:=ye (x:Int) (nz a) (nz b)
 rw[<-WL _ a b (znd _)]at h
 have q:∀l:List Nat,(x:Int)∈nz l↔x∈l:=by
  intro l
  unfold nz
  rw[zn9]
  exact⟨fun⟨y,h1,h2⟩=>by rw[<-Int.ofNat_inj.mp h2];exact h1,fun h=>⟨x,h,rfl⟩⟩
 rw[q,q,q]at h
 exact h
theorem qgz(l:List Nat):jP (nz l)↔qN l:=by
 rw[xk]
 unfold nz jP
 rw[List.pairwise_map]
 constructor
 ·intro h;exact h.imp (fun h=>qe)
 ·intro h;exact h.imp (fun h=>qe)
theorem Zb{a b:List Nat}(ha:qN a)(hb:qN b):qN (wt a b):=by
 rw[<-qgz,WL _ a b (znd _)]
 exact jl _ _ ((qgz a).mpr ha) ((qgz b).mpr hb)
theorem qh3{a:List Nat}(ha:qN a)(K:Nat):qN (a.take K):=by
 rw[xk]at ha⊢
 exact ha.sublist (zq6 _ _)
theorem qqe{l:List Nat}(h64:∀x∈l,x<18446744073709551616):By (zh l):=by
 have p:=(QZ (xG h64)).1
 exact By.app (By.app (By.app (By.uv _) (By.cons qe By.nil)) (By.uv _)) (By.pk _)
theorem qiw(hp:Hp)(rb sb wb k1 k2 K:Nat)(a b:List Nat)(hK:K<=1024)(ha:qN a)(hb:qN b)(a64:∀x∈a,x<18446744073709551616)(b64:∀x∈b,x<18446744073709551616)(al:a.length<=1024)(bl:b.length<=1024)
 (h:RW3 hp rb sb wb k1 k2 (uv K++zh a) (uv K++zh b) 0 0 []):
 ∃hp',run cxX 50 [.ptr wb 0 0,.ptr rb 0 0,.ptr sb 0 0] hp=some (.sc (.int .i64 0),hp')/\
  RW3 hp' rb sb wb k1 k2 (uv K++zh a) (uv K++zh b) (uv K++zh a).length (uv K++zh b).length (uv K++zh ((wt a b).take K)):=by
 have m64:∀x∈(wt a b).take K,x<18446744073709551616:=fun x hx=>((JA x a b).mp (zov hx)).elim (a64 x) (b64 x)
 have mr:=qh3 (Zb ha hb) K
 have ml:((wt a b).take K).length<=1024:=by rw[zn8];omega
 have hu:=qD (n:=K) qe
 have la:=kC (l:=a) qe a64
 have lb:=kC (l:=b) qe b64
 have lm:=kC (l:=(wt a b).take K) ml m64
 have L1:(uv K++zh a).length<=1000000000:=by rw[zm9];omega
 have L2:(uv K++zh b).length<=1000000000:=by rw[zm9];omega
 have B1:By (uv K++zh a):=(By.uv K).app (qqe a64)
 have B2:By (uv K++zh b):=(By.uv K).app (qqe b64)
 have t1:=zd rb k1 (uv K++zh a) L1 B1 (p:=0) (m:=K) (most:=1024) (r:=zh a) rfl qe qh hp (zn1 _) h.r
 rw[znk]at t1
 have h1:=h.setR (uv K).length
 generalize hp.put rb 0 (Rc k1 (uv K++zh a) (uv K).length 0)=H1 at*
 have t2:=zd sb k2 (uv K++zh b) L2 B2 (p:=0) (m:=K) (most:=1024) (r:=zh b) rfl qe qh H1 (zn1 _) h1.s
 rw[znk]at t2
 have h2:=h1.setS (uv K).length
 generalize H1.put sb 0 (Rc k2 (uv K++zh b) (uv K).length 0)=H2 at*
 obtain⟨H3,o1,o2,o3,o4,o5⟩:=qks rb k1 (uv K++zh a) L1 B1 a qe a64 (uv K).length [] qg H2 qg h2.lr h2.r
 have e1:(uv K).length+(zh a).length=(uv K++zh a).length:=by rw[zm9]
 rw[e1]at o3
 have h3:RW3 H3 rb sb wb k1 k2 (uv K++zh a) (uv K++zh b) (uv K++zh a).length (uv K).length []:=
  h2.fr qe o3 (by rw[xO (o5 sb h2.ls (fun e=>h2.rs e.symm))];exact h2.s) (by rw[xO (o5 wb h2.lw (fun e=>h2.rw e.symm))];exact h2.w)
 obtain⟨H4,q1,q2,q3,q4,q5⟩:=qks sb k2 (uv K++zh b) L2 B2 b qe b64 (uv K).length [] qg H3 qg h3.ls h3.s
 have e2:(uv K).length+(zh b).length=(uv K++zh b).length:=by rw[zm9]
 rw[e2]at q3
 have h4:RW3 H4 rb sb wb k1 k2 (uv K++zh a) (uv K++zh b) (uv K++zh a).length (uv K++zh b).length []:=
  h3.fr qe (by rw[xO (q5 rb h3.lr h3.rs)];exact h3.r) q3 (by rw[xO (q5 wb h3.lw (fun e=>h3.sw e.symm))];exact h3.w)
 have c1:=o2.fr (hp':=H4) (q5 _ qe (by have:=h2.ls;omega)) (q5 _ qe (by have:=h2.ls;omega))
 have er1:=qW rb k1 _ _ _ H4 h4.r
 have er2:=qW sb k2 _ _ _ H4 h4.s
 have f2:=yc
 obtain⟨H5,n1,n2,n3,n4⟩:=Xw qe a64 ha c1
 have c2:=q2.fr (hp':=H5) (n4 _ qe qe) (n4 _ qe qe)
 obtain⟨H6,m1,m2,m3,m4⟩:=Xw qe b64 hb c2
 have c3:=n2.fr (hp':=H6) (m4 _ qe qe) (m4 _ qe qe)
 obtain⟨H7,u1,u2,u3⟩:=quf wb H2.next (H2.next+1) H3.next (H3.next+1) K a b hK qe qe ha hb a64 b64 qe qe qe qe _ a b [] H6 (znd _) (zn1 _) a64 b64 c3 m2
 have g7:∀x,x<H2.next->H7.get x=H4.get x:=fun x hx=>by
  rw[u3 x qe qe qe qe,m4 x qe qe,n4 x qe qe]
 have h7:RW3 H7 rb sb wb k1 k2 (uv K++zh a) (uv K++zh b) (uv K++zh a).length (uv K++zh b).length []:=
  h4.fr qe (by rw[xO (g7 rb h2.lr)];exact h4.r) (by rw[xO (g7 sb h2.ls)];exact h4.s) (by rw[xO (g7 wb h2.lw)];exact h4.w)
 rw[zn4]at u1
 generalize(wt a b).take K=M at*
 have wu:=zY wb K [] qe qi H7 h7.w
 rw[zn4]at wu
 have h8:=h7.setW (uv K)
 generalize H7.put wb 0 (Wc (uv K))=H8 at*
 obtain⟨t,hpz,z1,_⟩:=qyp M 3 ml m64 mr hp0
 have wp:=Qi wb (uv K) (zh M) (rk t) qe H8 h8.w
 refine⟨H8.put wb 0 (Wc (uv K++zh M)),?_,h8.setW _⟩
 rw[E50]
 unfold Hst at u1
 have e0:S 2 1 []=S 2 1 (LI .u64 (nz [])):=rfl
 have b20:B50_20 (.ptr wb 0 0) (.int .u64 (K:Int)) (S 2 1 (LI .u64 (nz M))) H7=some (.sc (.int .i64 0),H8.put wb 0 (Wc (uv K++zh M))):=by
  rw[qv0]
  generalize uv K++zh M=Q at*
  simp[wu,z1,wp]
 rw[b20,<-e0]at u1
 generalize uv K++zh M=Q at*
 generalize uv K++zh a=Qa at*
 generalize uv K++zh b=Qb at*
 simp at t1 t2 er1 er2 o1 q1 n1 m1 u1
 simp[t1,t2,o1,q1,er1,er2,f2,n1,m1,u1]
def YK(a b:List Nat):List Nat:=List.zipWith max a b
theorem zak:∀(a b:List Nat),a.length=b.length->nz (YK a b)=yD (nz a) (nz b)
 |[],_,_=>rfl
 |x::a,[],h=>by simp at h
 |x::a,y::b,h=>by
  show((max x y:Nat):Int)::nz (YK a b)=max (x:Int) (y:Int)::yD (nz a) (nz b)
  rw[zak a b (by simpa using h)]
  congr 1
  omega
def DSt(hp:Hp)(d m cb b k:Nat)(pre C:List Int)(r:List Nat):Prop:=
 ∃s cs code,okM cs/\ZN s s.width/\16777216<=s.width/\s.width<4294967296/\qP C=eV (enc cs s r)/\C.length=eK (enc cs s r)+4/\qP (C.take (eK s+4))=eV s+code/\
  hp.rd d 0=some (DC m b code s.width)/\hp.rd b 0=some (Rp k pre C (eK s+4))/\MW hp m cb cs
theorem DSt.fr{hp hp':Hp}{d m cb b k:Nat}{pre C:List Int}{r:List Nat}(h:DSt hp d m cb b k pre C r)(hn:hp.next<=hp'.next)(e:∀a,a=d\/a=m\/a=cb\/a=b->hp'.get a=hp.get a):DSt hp' d m cb b k pre C r:=by
 obtain⟨s,cs,code,h1,h2,h3,h4,h5,h6,h7,h8,h9,m1,m2,m3,m4,m5⟩:=h
 exact⟨s,cs,code,h1,h2,h3,h4,h5,h6,h7,by rw[xO (e d (.inl rfl))];exact h8,by rw[xO (e b (.inr (.inr (.inr rfl))))];exact h9,znu m1 hn,znu m2 hn,m3,by rw[xO (e cb (.inr (.inr (.inl rfl))))];exact m4,by rw[xO (e m (.inr (.inl rfl)))];exact m5⟩
theorem qrj{hp:Hp}{d m cb b k x:Nat}{pre C:List Int}{r:List Nat}(hpre:pre.length<=1000)(hC:By C)(hCl:C.length<=1000000)(hx:x<64)(hr:∀y∈r,y<64)(n1:d≠b)(n2:d≠m)(n3:d≠cb)(n4:b≠m)(n5:b≠cb)(h:DSt hp d m cb b k pre C (x::r)):
 ∃hp',run cxX 109 [.ptr d 0 0] hp=some (.sc (.int .i64 (x:Int)),hp')/\DSt hp' d m cb b k pre C r/\hp'.next=hp.next/\∀c,c≠d->c≠b->c≠m->c≠cb->hp'.get c=hp.get c:=by
 obtain⟨s,cs,code,hm,ho,w1,w2,h1,h2,hcode,hd,hb,hM⟩:=h
 obtain⟨hp1,code1,a1,a2,a3,a4,a5,a6,a7⟩:=qco d b m cb k x pre C hpre hC hCl hx cs hm n1 n2 n3 n4 n5 s r code hp hr ho ⟨w1,w2⟩ h1 h2 hcode hd hb hM
 obtain⟨dd,b1,b2,b3,b4,b5,b6,b7⟩:=Zm s cs x hm hx ho ⟨w1,zqe w2⟩
 have hlt2:(zG 4 (xL s cs x)).width<4294967296:=by
  apply VB
  show s.width/cs.sum*cs.getD x 0<_
  have ht:=qQ cs x (by have:=hm.1;omega)
  have hta:=qR cs (x+1)
  have hmul:s.width/cs.sum*cs.sum<=s.width:=zop _ _
  have hle:s.width/cs.sum*cs.getD x 0<=s.width/cs.sum*cs.sum:=zok _ qe
  omega
 exact⟨hp1,a1,⟨zG 4 (xL s cs x),YJ cs x,code1,QO hm hx,b4,b5,hlt2,h1,h2,a2,a3,a4,a5⟩,a6,a7⟩
theorem zb2{hp:Hp}{d m cb b k:Nat}{pre C:List Int}(h:DSt hp d m cb b k pre C []):hp.rd b 0=some (Rp k pre C C.length):=by
 obtain⟨s,cs,code,hm,ho,w1,w2,h1,h2,hcode,hd,hb,hM⟩:=h
 rw[h2]
 exact hb
def ESt(hp:Hp)(e m cb n:Nat)(L r:List Nat):Prop:=
 ∃s cs,okM cs/\ZN s s.width/\16777216<=s.width/\s.width<4294967296/\eK s<=4*n/\enc cs s r=enc cs0 en0 L/\EW hp e m cb s cs 2 n
theorem ESt.fr{hp hp':Hp}{e m cb n:Nat}{L r:List Nat}(h:ESt hp e m cb n L r)(hn:hp.next<=hp'.next)(g:∀a,a=e\/a=m\/a=cb->hp'.get a=hp.get a):ESt hp' e m cb n L r:=by
 obtain⟨s,cs,h1,h2,h3,h4,h5,h6,w1,w2,⟨m1,m2,m3,m4,m5⟩,w4,w5⟩:=h
 exact⟨s,cs,h1,h2,h3,h4,h5,h6,znu w1 hn,by rw[xO (g e (.inl rfl))];exact w2,⟨znu m1 hn,znu m2 hn,m3,by rw[xO (g cb (.inr (.inr rfl)))];exact m4,by rw[xO (g m (.inr (.inl rfl)))];exact m5⟩,w4,w5⟩
theorem zj0{hp:Hp}{e m cb n x:Nat}{L r:List Nat}(hx:x<64)(hn:n<=1000)(h:ESt hp e m cb n L (x::r)):
 ∃hp',run cxX 108 [.ptr e 0 0,.sc (.int .i64 (x:Int))] hp=some (.sc (.bool true),hp')/\ESt hp' e m cb (n+1) L r/\F3 e m cb hp hp':=by
 obtain⟨s,cs,hm,ho,w1,w2,hK,he,hE⟩:=h
 obtain⟨d,b1,b2,b3,b4,b5,b6,b7⟩:=Zm s cs x hm hx ho ⟨w1,zqe w2⟩
 have hd:d<=4:=qzl b7 (by rw[<-b2];exact b6)
 have hlt2:(zG 4 (xL s cs x)).width<4294967296:=by
  apply VB
  show s.width/cs.sum*cs.getD x 0<_
  have ht:=qQ cs x (by have:=hm.1;omega)
  have hta:=qR cs (x+1)
  have hmul:s.width/cs.sum*cs.sum<=s.width:=zop _ _
  have hle:s.width/cs.sum*cs.getD x 0<=s.width/cs.sum*cs.sum:=zok _ qe
  omega
 obtain⟨hp1,c1,c2,c3⟩:=qiz e m cb 2 (.inr rfl) x hx cs hm n qe s hp hE ho ⟨w1,w2⟩ qe
 exact⟨hp1,c1,⟨zG 4 (xL s cs x),YJ cs x,QO hm hx,b4,b5,hlt2,qe,he,c2⟩,c3⟩
theorem zbz{hp:Hp}{e m cb n:Nat}{L:List Nat}(hn:n<=1000)(h:ESt hp e m cb n L []):
 ∃hp',run cxX 111 [.ptr e 0 0] hp=some (S 1 1 (LI .u8 (jk L)),hp')/\Fm [] hp hp':=by
 obtain⟨s,cs,hm,ho,w1,w2,hK,he,hE⟩:=h
 have he':s=enc cs0 en0 L:=he
 subst he'
 exact Wl e m n 2 (enc cs0 en0 L) hp hE.1 (Yq ho qe qe) qe hE.2.1
structure RegG (n0 n1 n2 rb sb d1 m1 q1 d2 m2 q2 e m3 q3 : Nat) : Prop where
 a:rb<n0/\sb<n0/\rb≠sb
 b:n0<=d1/\n0<=m1/\n0<=q1/\d1<n1/\m1<n1/\q1<n1/\d1≠m1/\d1≠q1
 c:n1<=d2/\n1<=m2/\n1<=q2/\d2<n2/\m2<n2/\q2<n2/\d2≠m2/\d2≠q2
 d:n2<=e/\n2<=m3/\n2<=q3
 m:n0<=n1/\n1<=n2
section
variable {n0 n1 n2 rb sb d1 m1 q1 d2 m2 q2 e m3 q3:Nat}(g:RegG n0 n1 n2 rb sb d1 m1 q1 d2 m2 q2 e m3 q3)(X0:AV)(v7:Value)(k1 k2 N:Nat)(pre Ca Cb:List Int)(hpre:pre.length<=1000)(hCa:By Ca)(hla:Ca.length<=1000000)(hCb:By Cb)(hlb:Cb.length<=1000000)(L:List Nat)(hN:N<=1000)
include g hpre hCa hla hCb hlb hN
theorem qzf:∀(ra sa:List Nat) (i:Nat) (hp:Hp),ra.length=sa.length->i+ra.length=N->(∀y∈ra,y<64)->(∀y∈sa,y<64)->DSt hp d1 m1 q1 rb k1 pre Ca ra->DSt hp d2 m2 q2 sb k2 pre Cb sa->ESt hp e m3 q3 i L (YK ra sa)->
 ∃hp',B51_10 X0 (.ptr rb 0 0) (.ptr sb 0 0) v7 (.ptr d1 0 0) (.ptr d2 0 0) (.ptr e 0 0) (.int .i64 (N:Int)) (.int .i64 (i:Int)) hp=B51_10 X0 (.ptr rb 0 0) (.ptr sb 0 0) v7 (.ptr d1 0 0) (.ptr d2 0 0) (.ptr e 0 0) (.int .i64 (N:Int)) (.int .i64 (N:Int)) hp'/\
  hp'.rd rb 0=some (Rp k1 pre Ca Ca.length)/\hp'.rd sb 0=some (Rp k2 pre Cb Cb.length)/\ESt hp' e m3 q3 N L []/\hp'.next=hp.next/\∀a,a<n0->a≠rb->a≠sb->hp'.get a=hp.get a:=by
 obtain⟨ga,gb,gc,gd,gm⟩:=g
 intro ra
 induction ra with
 |nil=>
  intro sa i hp hl hi h64 h64' hA hB hE
  have e1:sa=[]:=znp.mp (by simpa using hl.symm)
  subst e1
  have e2:i=N:=by simpa using hi
  subst e2
  exact⟨hp,rfl,zb2 hA,zb2 hB,hE,rfl,fun _ _ _ _=>rfl⟩
 |cons x ra ih=>
  intro sa i hp hl hi h64 h64' hA hB hE
  cases sa with
  |nil=>simp at hl
  |cons y sa=>
   simp only[zna]at hl hi
   have hx:=h64 x qg
   have hy:=h64' y qg
   obtain⟨H1,a1,a2,a3,a4⟩:=qrj hpre hCa hla hx (fun z hz=>h64 z (by simp[hz])) qe qe qe qe qe hA
   have hB1:=hB.fr (hp':=H1) qe (fun a h=>a4 a qe qe qe qe)
   have hE1:=hE.fr (hp':=H1) qe (fun a h=>a4 a qe qe qe qe)
   obtain⟨H2,b1,b2,b3,b4⟩:=qrj hpre hCb hlb hy (fun z hz=>h64' z (by simp[hz])) qe qe qe qe qe hB1
   have hA2:=a2.fr (hp':=H2) qe (fun a h=>b4 a qe qe qe qe)
   have hE2:=hE1.fr (hp':=H2) qe (fun a h=>b4 a qe qe qe qe)
   have em:YK (x::ra) (y::sa)=max x y::YK ra sa:=rfl
   rw[em]at hE2
   obtain⟨H3,c1,c2,c3,c4⟩:=zj0 qe qe hE2
   have hA3:=hA2.fr (hp':=H3) qe (fun a h=>c4 a qe qe qe)
   have hB3:=b2.fr (hp':=H3) qe (fun a h=>c4 a qe qe qe)
   obtain⟨H4,s1,s2,s3,s4,s5,s6⟩:=ih sa (i+1) H3 qe qe (fun z hz=>h64 z (by simp[hz])) (fun z hz=>h64' z (by simp[hz])) hA3 hB3 c2
   refine⟨H4,?_,s2,s3,s4,qe,fun a h1 h2 h3=>by rw[s6 a h1 h2 h3,c4 a qe qe qe,b4 a qe qe qe qe,a4 a qe qe qe qe]⟩
   have hlt:(i:Int)<(N:Int):=qe
   have hlt':i<N:=qe
   have ex:max (x:Int) (y:Int)=((max x y:Nat):Int):=qe
   have w2:IntKind.i64.wrap ((i:Int)+1)=((i+1:Nat):Int):=qj
   rw[<-s1,qd7]
   generalize((i+1:Nat):Int)=I at*
   generalize((max x y:Nat):Int)=M at*
   simp[hlt,hlt',a1,b1,ex,c1,w2]
end
theorem qsv(hp:Hp)(rb sb wb k1 k2 P:Nat)(a b:List Nat)(hP:4<=P/\P<=8)(a64:∀x∈a,x<64)(b64:∀x∈b,x<64)(al:a.length=2^P)(bl:b.length=2^P)
 (h:RW3 hp rb sb wb k1 k2 ((P:Int)::jk a) ((P:Int)::jk b) 0 0 []):
 ∃hp',run cxX 51 [.ptr wb 0 0,.ptr rb 0 0,.ptr sb 0 0] hp=some (.sc (.int .i64 0),hp')/\
  RW3 hp' rb sb wb k1 k2 ((P:Int)::jk a) ((P:Int)::jk b) ((P:Int)::jk a).length ((P:Int)::jk b).length ((P:Int)::jk (YK a b)):=by
 have hN:2^P<=256:=zoc qh hP.2
 have m64:∀x∈YK a b,x<64:=by
  intro x hx
  unfold YK at hx
  obtain⟨i,hi,e⟩:=zpv hx
  rw[List.getElem_zipWith]at e
  have h1:=a64 _ (znr (by simp at hi;omega:i<a.length))
  have h2:=b64 _ (znr (by simp at hi;omega:i<b.length))
  omega
 have ml:(YK a b).length=2^P:=by unfold YK;rw[List.length_zipWith,al,bl,Nat.min_self]
 obtain⟨a4,la⟩:=qak (l:=a) qe a64
 obtain⟨b4,lb⟩:=qak (l:=b) qe b64
 have lm:=Zh (l:=YK a b) qe m64
 obtain⟨va1,va2⟩:=JM a a64
 obtain⟨vb1,vb2⟩:=JM b b64
 have Ba:=qhl a
 have Bb:=qhl b
 have t1:=zm rb k1 ((P:Int)::jk a) (by rw[zna];omega) (p:=0) (c:=(P:Int)) (r:=jk a) rfl hp (zn1 _) h.r
 have h1:=h.setR 1
 rw[znk]at t1
 generalize hp.put rb 0 (Rc k1 ((P:Int)::jk a) 1 0)=H1 at*
 have t2:=zm sb k2 ((P:Int)::jk b) (by rw[zna];omega) (p:=0) (c:=(P:Int)) (r:=jk b) rfl H1 (zn1 _) h1.s
 have h2:=h1.setS 1
 rw[znk]at t2
 generalize H1.put sb 0 (Rc k2 ((P:Int)::jk b) 1 0)=H2 at*
 have er1:=qW rb k1 _ _ _ H2 h2.r
 have er2:=qW sb k2 _ _ _ H2 h2.s
 have f2:=yc
 obtain⟨H3,d1,m1,q1,x1,x2,x3,x4,x5,x6,x7,x8,x9,x10,x11,x12,x13,x14,x15⟩:=Ym rb k1 [(P:Int)] (jk a) qg Ba la a4 H2 h2.lr h2.r
 have s3:H3.rd sb 0=some (Rp k2 [(P:Int)] (jk b) 0):=by rw[xO (x15 sb h2.ls (fun e=>h2.rs e.symm))];exact h2.s
 obtain⟨H4,d2,m2,q2,y1,y2,y3,y4,y5,y6,y7,y8,y9,y10,y11,y12,y13,y14,y15⟩:=Ym sb k2 [(P:Int)] (jk b) qg Bb lb b4 H3 (by have:=h2.ls;omega) s3
 obtain⟨H5,e,m3,q3,z1,z2,z3,z4,z5,z6,z7⟩:=Wi H4
 have l3:=x4.1
 have l3':=x4.2.1
 have l4:=y4.1
 have l4':=y4.2.1
 have hlr:=h2.lr
 have hls:=h2.ls
 have hlw:=h2.lw
 have hrs:=h2.rs
 have hrw:=h2.rw
 have hsw:=h2.sw
 have G:RegG H2.next H3.next H4.next rb sb d1 m1 q1 d2 m2 q2 e m3 q3:=⟨⟨hlr,hls,hrs⟩,⟨x11,x12,x13,x10,l3,l3',x6,x7⟩,⟨y11,y12,y13,y10,l4,l4',y6,y7⟩,⟨z3,z4,z5⟩,⟨x14,y14⟩⟩
 have D1:DSt H3 d1 m1 q1 rb k1 [(P:Int)] (jk a) a:=⟨en0,cs0,qP ((jk a).take 4),qju,qjv,qh,qh,va1,va2,by
  show qP ((jk a).take (0+4))=0+_
  rw[znk,znk],x2,x3,x4⟩
 have D2:DSt H4 d2 m2 q2 sb k2 [(P:Int)] (jk b) b:=⟨en0,cs0,qP ((jk b).take 4),qju,qjv,qh,qh,vb1,vb2,by
  show qP ((jk b).take (0+4))=0+_
  rw[znk,znk],y2,y3,y4⟩
 have D1':=(D1.fr (hp':=H4) qe (fun c hc=>y15 c qe qe)).fr (hp':=H5) qe (fun c hc=>z7 c qe)
 have D2':=D2.fr (hp':=H5) qe (fun c hc=>z7 c qe)
 have E0:ESt H5 e m3 q3 0 (YK a b) (YK a b):=⟨en0,cs0,qju,qjv,qh,qh,qh,rfl,z2⟩
 obtain⟨H6,s1,s2,s3',s4,s5,s6⟩:=qzf G (.ptr wb 0 0) (.int .u8 (P:Int)) k1 k2 (2^P) [(P:Int)] (jk a) (jk b) qg Ba la Bb lb (YK a b) qe a b 0 H5 qe qe a64 b64 D1' D2' E0
 have w6:H6.rd wb 0=some (Wc []):=by rw[xO (s6 wb hlw hrw.symm hsw.symm),xO (z7 wb qe),xO (y15 wb qe hsw.symm),xO (x15 wb qe hrw.symm)];exact h2.w
 have eq1:1+(jk a).length=((P:Int)::jk a).length:=by rw[zna];omega
 have eq2:1+(jk b).length=((P:Int)::jk b).length:=by rw[zna];omega
 have s2':H6.rd rb 0=some (Rc k1 ((P:Int)::jk a) ((P:Int)::jk a).length 0):=by rw[<-eq1];exact s2
 have s3'':H6.rd sb 0=some (Rc k2 ((P:Int)::jk b) ((P:Int)::jk b).length 0):=by rw[<-eq2];exact s3'
 have h6:RW3 H6 rb sb wb k1 k2 ((P:Int)::jk a) ((P:Int)::jk b) ((P:Int)::jk a).length ((P:Int)::jk b).length []:=
  h2.fr qe s2' s3'' w6
 have wy:run cxX 110 [.ptr wb 0 0,.sc (.int .u8 (P:Int))] H6=some (.tup [],H6.put wb 0 (Wc [(P:Int)])):=ju wb [] P qg H6 h6.w
 have h7:=h6.setW [(P:Int)]
 have E7:=s4.fr (hp':=H6.put wb 0 (Wc [(P:Int)])) (znd _) (fun c hc=>by
  have:c≠wb:=qe
  simp[Hp.put,this])
 have n7:(H6.put wb 0 (Wc [(P:Int)])).next=H6.next:=rfl
 generalize H6.put wb 0 (Wc [(P:Int)])=H7 at*
 obtain⟨H8,u1,u2⟩:=zbz qe E7
 have g8:∀c,c<H2.next->H8.get c=H7.get c:=fun c hc=>u2.2 c qe qg
 have h8:RW3 H8 rb sb wb k1 k2 ((P:Int)::jk a) ((P:Int)::jk b) ((P:Int)::jk a).length ((P:Int)::jk b).length [(P:Int)]:=
  h7.fr u2.1 (by rw[xO (g8 rb hlr)];exact h7.r) (by rw[xO (g8 sb hls)];exact h7.s) (by rw[xO (g8 wb hlw)];exact h7.w)
 have wp:=Qi wb [(P:Int)] (jk (YK a b)) 0 qi H8 h8.w
 refine⟨H8.put wb 0 (Wc ((P:Int)::jk (YK a b))),?_,h8.setW _⟩
 have wp:run cxX 105 [.ptr wb 0 0,S 0 1 (LI .u8 (jk (YK a b)))] H8=some (.tup [],H8.put wb 0 (Wc ((P:Int)::jk (YK a b)))):=wp
 have b10:B51_10 (.ptr wb 0 0) (.ptr rb 0 0) (.ptr sb 0 0) (.int .u8 (P:Int)) (.ptr d1 0 0) (.ptr d2 0 0) (.ptr e 0 0) (.int .i64 ((2^P:Nat):Int)) (.int .i64 ((2^P:Nat):Int)) H6=some (.sc (.int .i64 0),H8.put wb 0 (Wc ((P:Int)::jk (YK a b)))):=by
  rw[qd7]
  generalize(((2:Nat)^P:Nat):Int)=Q at*
  generalize jk (YK a b)=M at*
  simp[wy,u1,wp]
 rw[b10]at s1
 have s1:B51_10 (.ptr wb 0 0) (.ptr rb 0 0) (.ptr sb 0 0) (.int .u8 (P:Int)) (.ptr d1 0 0) (.ptr d2 0 0) (.ptr e 0 0) (.int .i64 ((2^P:Nat):Int)) (.int .i64 0) H5=some (.sc (.int .i64 0),H8.put wb 0 (Wc ((P:Int)::jk (YK a b)))):=s1
 have sh:∀t o o',qy Tryz.prog .shl t o o' (.int .i64 1) (.int .u8 (P:Int))=some (.int .i64 ((2^P:Nat):Int)):=by
  intro t o o'
  have:P=4\/P=5\/P=6\/P=7\/P=8:=qe
  rcases this with e|e|e|e|e<;>subst e<;>rfl
 have p1:¬((P:Int)<4):=qe
 have p1':¬(P<4):=qe
 have p2:¬((8:Int)<(P:Int)):=qe
 have p2':¬(8<P):=qe
 rw[E51]
 generalize(P:Int)::jk (YK a b)=M at*
 generalize(P:Int)::jk a=Ca at*
 generalize(P:Int)::jk b=Cb at*
 generalize(((2:Nat)^P:Nat):Int)=Q at*
 simp[t1,t2,er1,er2,f2,p1,p1',p2,p2',zde,x1,y1,z1,sh,s1]
def FCu(hp:Hp)(c b1 b2:Nat)(r:List Nat):Prop:=
 ∃n last kk t1 t2 T1 T2 A B p q1 q2 i,kk<=32/\n<=4096/\last<4294967296/\last/2^kk<=8192/\A.length<=100000000/\B.length<=100000000/\By A/\By B/\c≠b1/\c≠b2/\b1≠b2/\
  i+r.length=n/\zO (p::r)/\(∀x∈r,x<=last)/\hp.rd c 0=some (Fu n last kk T1 T2 b1 b2 i (p/2^kk))/\hp.rd b1 0=some (Rb t1 A q1 false)/\hp.rd b2 0=some (Rb t2 B q2 false)/\At A q1 (qO kk r)/\At B q2 (qG kk (p/2^kk) r)
theorem FCu.fr{hp hp':Hp}{c b1 b2:Nat}{r:List Nat}(h:FCu hp c b1 b2 r)(g:∀a,a=c\/a=b1\/a=b2->hp'.get a=hp.get a):FCu hp' c b1 b2 r:=by
 obtain⟨n,last,kk,t1,t2,T1,T2,A,B,p,q1,q2,i,h1,h2,h3,h4,h5,h6,h7,h8,h9,h10,h11,h12,h13,h14,h15,h16,h17,h18,h19⟩:=h
 exact⟨n,last,kk,t1,t2,T1,T2,A,B,p,q1,q2,i,h1,h2,h3,h4,h5,h6,h7,h8,h9,h10,h11,h12,h13,h14,by rw[xO (g c (.inl rfl))];exact h15,by rw[xO (g b1 (.inr (.inl rfl)))];exact h16,by rw[xO (g b2 (.inr (.inr rfl)))];exact h17,h18,h19⟩
theorem Xs{hp:Hp}{c b1 b2:Nat}{r:List Nat}(h:FCu hp c b1 b2 r):
 ∃hp',run cxX 113 [.ptr c 0 0] hp=some (.tup [.sc (.int .u32 (r.headD 0:Nat)),.sc (.bool (!r.isEmpty))],hp')/\FCu hp' c b1 b2 r.tail/\hp'.next=hp.next/\∀a,a≠c->a≠b1->a≠b2->hp'.get a=hp.get a:=by
 have h0:=h
 obtain⟨n,last,kk,t1,t2,T1,T2,A,B,p,q1,q2,i,hkk,hn,hlast,hq,hA,hB,A8,B8,n1,n2,n12,hi,hf,hx,hc,r1,r2,a1,a2⟩:=h
 cases r with
 |nil=>
  have e:i=n:=hi
  subst e
  exact⟨hp,qcl i last kk T1 T2 c b1 b2 _ hp hc,h0,rfl,fun _ _ _ _=>rfl⟩
 |cons x r=>
  simp only[zna]at hi
  have el:qO kk (x::r)=ko x kk++qO kk r:=rfl
  have eh:qG kk (p/2^kk) (x::r)=una (x/2^kk-p/2^kk)++qG kk (x/2^kk) r:=rfl
  rw[el]at a1
  rw[eh]at a2
  obtain⟨a1a,a1b⟩:=a1.app
  obtain⟨a2a,a2b⟩:=a2.app
  obtain⟨hp1,f1,f2,f3,f4,f5,f6⟩:=qcm n last kk t1 t2 T1 T2 A B c b1 b2 hkk hn hlast hq hA hB A8 B8 n1 n2 n12 i (p/2^kk) x q1 q2 qe (hx x qg) (zpp hf.1) hp hc r1 r2 a1a a2a
  exact⟨hp1,f1,⟨n,last,kk,t1,t2,T1,T2,A,B,x,_,_,i+1,hkk,hn,hlast,hq,hA,hB,A8,B8,n1,n2,n12,by rw[zp9];omega,hf.2,fun y hy=>hx y (by rw[zp9]at hy;simp[hy]),f2,f3,f4,a1b,a2b⟩,f5,f6⟩
theorem qrg(l:List Nat)(hl:l.length<=4096)(h32:∀x∈l,x<4294967296)(hr:zO l)(t1 t2:Nat)(hp:Hp):∃hp',run cxX 112 [wg l t1 t2] hp=some (.ptr (hp.next+2) 0 0,hp')/\FCu hp' (hp.next+2) hp.next (hp.next+1) l/\hp'.next=hp.next+3/\∀c,c<hp.next->hp'.get c=hp.get c:=by
 have hb:qA l<=32/\qI l<4294967296/\qI l/2^qA l<=8192/\(qG (qA l) 0 l).length<=3*4096:=by
  by_cases hne:l=[]
  ·subst hne;exact⟨qh,qh,qh,qh⟩
  ·obtain⟨k1,k2,k3⟩:=xW l hl h32 hr hne
   have h2:qI l/2^qA l<2*l.length:=ZU (zou.mpr hne) k2
   exact⟨k1,k2,qe,k3⟩
 obtain⟨k1,k2,k3,k4⟩:=hb
 have cu:=qix l.length (qI l) (qA l) t1 t2 (pk (qO (qA l) l)) (pk (qG (qA l) 0 l)) hp
 have lA:(pk (qO (qA l) l)).length<=100000000:=by
  rw[zZ,Qp]
  have:l.length*qA l<=4096*32:=zn5 hl k1
  omega
 have lB:(pk (qG (qA l) 0 l)).length<=100000000:=by rw[zZ];omega
 have z0:(0:Nat)/2^qA l=0:=zq3 _
 have rc:=qT ((hp.new (Rb (rk t1) (pk (qO (qA l) l)) 0 false)).new (Rb (rk t2) (pk (qG (qA l) 0 l)) 0 false)) (Fu l.length (qI l) (qA l) (S (rk t1) 1 (LI .u8 (pk (qO (qA l) l)))) (S (rk t2) 1 (LI .u8 (pk (qG (qA l) 0 l)))) hp.next (hp.next+1) 0 0)
 have r1:(((hp.new (Rb (rk t1) (pk (qO (qA l) l)) 0 false)).new (Rb (rk t2) (pk (qG (qA l) 0 l)) 0 false)).new (Fu l.length (qI l) (qA l) (S (rk t1) 1 (LI .u8 (pk (qO (qA l) l)))) (S (rk t2) 1 (LI .u8 (pk (qG (qA l) 0 l)))) hp.next (hp.next+1) 0 0)).rd hp.next 0=some (Rb (rk t1) (pk (qO (qA l) l)) 0 false):=by
  rw[zH _ _ (show hp.next≠hp.next+1+1 by omega),zH _ _ (show hp.next≠hp.next+1 by omega)]
  exact qT hp _
 have r2:(((hp.new (Rb (rk t1) (pk (qO (qA l) l)) 0 false)).new (Rb (rk t2) (pk (qG (qA l) 0 l)) 0 false)).new (Fu l.length (qI l) (qA l) (S (rk t1) 1 (LI .u8 (pk (qO (qA l) l)))) (S (rk t2) 1 (LI .u8 (pk (qG (qA l) 0 l)))) hp.next (hp.next+1) 0 0)).rd (hp.next+1) 0=some (Rb (rk t2) (pk (qG (qA l) 0 l)) 0 false):=by
  rw[zH _ _ (show hp.next+1≠hp.next+1+1 by omega)]
  exact qT (hp.new _) _
 have q1:=At.pk (qO (qA l) l)
 have q2:=At.pk (qG (qA l) 0 l)
 have e3:∀c,c<hp.next->(((hp.new (Rb (rk t1) (pk (qO (qA l) l)) 0 false)).new (Rb (rk t2) (pk (qG (qA l) 0 l)) 0 false)).new (Fu l.length (qI l) (qA l) (S (rk t1) 1 (LI .u8 (pk (qO (qA l) l)))) (S (rk t2) 1 (LI .u8 (pk (qG (qA l) 0 l)))) hp.next (hp.next+1) 0 0)).get c=hp.get c:=by
  intro c hc
  have e1:c≠hp.next:=qe
  have e2:c≠hp.next+1:=qe
  have e3:c≠hp.next+1+1:=qe
  simp[Hp.new,e1,e2,e3]
 have e4:(((hp.new (Rb (rk t1) (pk (qO (qA l) l)) 0 false)).new (Rb (rk t2) (pk (qG (qA l) 0 l)) 0 false)).new (Fu l.length (qI l) (qA l) (S (rk t1) 1 (LI .u8 (pk (qO (qA l) l)))) (S (rk t2) 1 (LI .u8 (pk (qG (qA l) 0 l)))) hp.next (hp.next+1) 0 0)).next=hp.next+3:=rfl
 have rc':=rc
 have nn:((hp.new (Rb (rk t1) (pk (qO (qA l) l)) 0 false)).new (Rb (rk t2) (pk (qG (qA l) 0 l)) 0 false)).next=hp.next+2:=rfl
 rw[nn]at rc'
 generalize((hp.new (Rb (rk t1) (pk (qO (qA l) l)) 0 false)).new (Rb (rk t2) (pk (qG (qA l) 0 l)) 0 false)).new (Fu l.length (qI l) (qA l) (S (rk t1) 1 (LI .u8 (pk (qO (qA l) l)))) (S (rk t2) 1 (LI .u8 (pk (qG (qA l) 0 l)))) hp.next (hp.next+1) 0 0)=H at*
 refine⟨H,cu,⟨l.length,qI l,qA l,rk t1,rk t2,S (rk t1) 1 (LI .u8 (pk (qO (qA l) l))),S (rk t2) 1 (LI .u8 (pk (qG (qA l) 0 l))),pk (qO (qA l) l),pk (qG (qA l) 0 l),0,0,0,0,k1,hl,k2,k3,lA,lB,By.pk _,By.pk _,qe,qe,qe,qe,jI hr,Kg l hr,?_,r1,r2,q1,?_⟩,e4,e3⟩
 ·rw[z0];exact rc'
 ·rw[z0];exact q2
section
variable (X0:AV)(v7 v9:Value)(c1 p1 q1 c2 p2 q2:Nat)(n1:c1≠c2/\c1≠p2/\c1≠q2)(n2:p1≠c2/\p1≠p2/\p1≠q2)(n3:q1≠c2/\q1≠p2/\q1≠q2)
noncomputable def Fst(out A B:List Nat)(hp:Hp):Option (AV×Hp):=B52_12 X0 v7 v9 (.ptr c1 0 0) (.ptr c2 0 0) (S 2 1 (LI .u32 (nz out))) (.int .u32 (A.headD 0:Nat)) (.bool (!A.isEmpty)) (.int .u32 (B.headD 0:Nat)) (.bool (!B.isEmpty)) hp
include n1 n2 n3
theorem zbt:∀(n:Nat) (A B out:List Nat) (hp:Hp),A.length+B.length<=n->out.length+n<=100000->FCu hp c1 p1 q1 A.tail->FCu hp c2 p2 q2 B.tail->
 ∃hp',Fst X0 v7 v9 c1 c2 out A B hp=B52_22 X0 v7 v9 (S 2 1 (LI .u32 (nz (out++wt A B)))) hp'/\hp'.next=hp.next/\∀a,a≠c1->a≠p1->a≠q1->a≠c2->a≠p2->a≠q2->hp'.get a=hp.get a:=by
 intro n
 induction n with
 |zero=>
  intro A B out hp hn ho h1 h2
  have e1:A=[]:=znp.mp qe
  have e2:B=[]:=znp.mp qe
  subst e1;subst e2
  refine⟨hp,?_,rfl,fun _ _ _ _ _ _ _=>rfl⟩
  rw[xT,znz]
  unfold Fst
  rw[kj]
  simp
 |succ n ih=>
  intro A B out hp hn ho h1 h2
  obtain⟨H1,s1,s2,s3,s4⟩:=Xs h1
  have h2':=h2.fr (hp':=H1) (fun a h=>s4 a qe qe qe)
  obtain⟨H2,t1,t2,t3,t4⟩:=Xs h2'
  have s2':=s2.fr (hp':=H2) (fun a h=>t4 a qe qe qe)
  obtain⟨H3,u1,u2,u3,u4⟩:=Xs h2
  have h1':=h1.fr (hp':=H3) (fun a h=>u4 a qe qe qe)
  have ap:=fun(v:Nat)=>Qz .u32 (nz out) 2 (.inr rfl) 4 qh (v:Int) qi
  have es:∀v:Nat,nz out++[(v:Int)]=nz (out++[v]):=fun v=>by rw[yW]
  simp only[es]at ap
  --the three ways on
  have w14:∀(x:Nat) (v17 v18:Value),B52_14 X0 v7 v9 (.ptr c1 0 0) (.ptr c2 0 0) (S 2 1 (LI .u32 (nz out))) (.int .u32 (x:Int)) v17 v18 hp=B52_12 X0 v7 v9 (.ptr c1 0 0) (.ptr c2 0 0) (S 2 1 (LI .u32 (nz (out++[x])))) (.int .u32 (A.tail.headD 0:Nat)) (.bool (!A.tail.isEmpty)) v17 v18 H1:=by
   intro x v17 v18
   rw[qvz]
   generalize A.tail=T at*
   simp[yC,ap,s1]
  have w17:∀(y:Nat) (v15 v16:Value),B52_17 X0 v7 v9 (.ptr c1 0 0) (.ptr c2 0 0) (S 2 1 (LI .u32 (nz out))) v15 v16 (.int .u32 (y:Int)) hp=B52_12 X0 v7 v9 (.ptr c1 0 0) (.ptr c2 0 0) (S 2 1 (LI .u32 (nz (out++[y])))) v15 v16 (.int .u32 (B.tail.headD 0:Nat)) (.bool (!B.tail.isEmpty)) H3:=by
   intro y v15 v16
   rw[qvy]
   generalize B.tail=T at*
   simp[yC,ap,u1]
  have w19:∀(x:Nat),B52_19 X0 v7 v9 (.ptr c1 0 0) (.ptr c2 0 0) (S 2 1 (LI .u32 (nz out))) (.int .u32 (x:Int)) hp=B52_12 X0 v7 v9 (.ptr c1 0 0) (.ptr c2 0 0) (S 2 1 (LI .u32 (nz (out++[x])))) (.int .u32 (A.tail.headD 0:Nat)) (.bool (!A.tail.isEmpty)) (.int .u32 (B.tail.headD 0:Nat)) (.bool (!B.tail.isEmpty)) H2:=by
   intro x
   rw[qvx]
   generalize A.tail=T at*
   generalize B.tail=T' at*
   simp[yC,ap,s1,t1]
  cases A with
  |nil=>
   cases B with
   |nil=>
    refine⟨hp,?_,rfl,fun _ _ _ _ _ _ _=>rfl⟩
    rw[xT,znz]
    unfold Fst
    rw[kj]
    simp
   |cons y B=>
    simp only[zna,zns]at hn
    obtain⟨H4,r1,r2,r3⟩:=ih [] B (out++[y]) H3 (by simp only[zns];omega) qi h1' u2
    refine⟨H4,?_,qe,fun a e1 e2 e3 e4 e5 e6=>by rw[r3 a e1 e2 e3 e4 e5 e6,u4 a e4 e5 e6]⟩
    rw[xT]at r1⊢
    rw[<-List.append_cons]at r1
    rw[<-r1]
    unfold Fst
    rw[kj]
    simp only[zp9]at w17
    simp[QE,KJ,w17]
  |cons x A=>
   cases B with
   |nil=>
    simp only[zna,zns]at hn
    obtain⟨H4,r1,r2,r3⟩:=ih A [] (out++[x]) H1 (by simp only[zns];omega) qi s2 h2'
    refine⟨H4,?_,qe,fun a e1 e2 e3 e4 e5 e6=>by rw[r3 a e1 e2 e3 e4 e5 e6,s4 a e1 e2 e3]⟩
    rw[qc5]at r1⊢
    rw[<-List.append_cons]at r1
    rw[<-r1]
    unfold Fst
    rw[kj]
    simp only[zp9]at w14
    simp[QE,w14]
   |cons y B=>
    simp only[zna]at hn
    by_cases hxy:x<y
    ·obtain⟨H4,r1,r2,r3⟩:=ih A (y::B) (out++[x]) H1 (by simp only[zna];omega) qi s2 h2'
     refine⟨H4,?_,qe,fun a e1 e2 e3 e4 e5 e6=>by rw[r3 a e1 e2 e3 e4 e5 e6,s4 a e1 e2 e3]⟩
     have q:(x:Int)<(y:Int):=qe
     rw[vH,if_pos hxy]
     rw[<-List.append_cons]at r1
     rw[<-r1]
     unfold Fst
     rw[kj]
     simp only[zp9]at w14
     simp[QE,w14,hxy,q]
    ·have q:¬((x:Int)<(y:Int)):=qe
     by_cases hyx:y<x
     ·obtain⟨H4,r1,r2,r3⟩:=ih (x::A) B (out++[y]) H3 (by simp only[zna];omega) qi h1' u2
      refine⟨H4,?_,qe,fun a e1 e2 e3 e4 e5 e6=>by rw[r3 a e1 e2 e3 e4 e5 e6,u4 a e4 e5 e6]⟩
      have q':(y:Int)<(x:Int):=qe
      rw[vH,if_neg hxy,if_pos hyx]
      rw[<-List.append_cons]at r1
      rw[<-r1]
      unfold Fst
      rw[kj]
      simp only[zp9]at w17
      simp[QE,KJ,w17,hxy,q,hyx,q']
     ·obtain⟨H4,r1,r2,r3⟩:=ih A B (out++[x]) H2 qe qi s2' t2
      refine⟨H4,?_,qe,fun a e1 e2 e3 e4 e5 e6=>by rw[r3 a e1 e2 e3 e4 e5 e6,t4 a e4 e5 e6,s4 a e1 e2 e3]⟩
      have q':¬((y:Int)<(x:Int)):=qe
      rw[vH,if_neg hxy,if_neg hyx]
      rw[<-List.append_cons]at r1
      rw[<-r1]
      unfold Fst
      rw[kj]
      simp only[zp9]at w19
      simp[QE,KJ,w19,hxy,q,hyx,q']
end
theorem qrh(l:List Nat):By (zE l):=By.app (By.app (By.app (By.app (By.uv _) (By.uv _)) (By.pk _)) (By.uv _)) (By.pk _)
theorem zet(l:List Nat)(t1 t2:Nat):ro (wg l t1 t2)=wg l (rk t1) (rk t2):=by simp[wg]
theorem qn3(l:List Nat)(t1 t2:Nat):Zs (wg l t1 t2)=some ():=rfl
theorem qy6(hp:Hp)(rb sb wb k1 k2 B H:Nat)(a b:List Nat)(hB:B<=4096)(hH:H<=8)(ha:qN a)(hb:qN b)(a32:∀x∈a,x<4294967296)(b32:∀x∈b,x<4294967296)(al:a.length<=4096)(bl:b.length<=4096)(ml:(wt a b).length<=4096)
 (h:RW3 hp rb sb wb k1 k2 (uv B++[(H:Int)]++zE a) (uv B++[(H:Int)]++zE b) 0 0 []):
 ∃hp',run cxX 52 [.ptr wb 0 0,.ptr rb 0 0,.ptr sb 0 0] hp=some (.sc (.int .i64 0),hp')/\
  RW3 hp' rb sb wb k1 k2 (uv B++[(H:Int)]++zE a) (uv B++[(H:Int)]++zE b) (uv B++[(H:Int)]++zE a).length (uv B++[(H:Int)]++zE b).length (uv B++[(H:Int)]++zE (wt a b)):=by
 have m32:∀x∈wt a b,x<4294967296:=fun x hx=>((JA x a b).mp hx).elim (a32 x) (b32 x)
 have mr:=jc (Zb ha hb)
 have hu:=qD (n:=B) qe
 have la:=kL (l:=a) al a32 (jc ha)
 have lb:=kL (l:=b) bl b32 (jc hb)
 have lm:=kL (l:=wt a b) ml m32 mr
 have L1:(uv B++[(H:Int)]++zE a).length<=1000000000:=by simp only[zm9,znl];omega
 have L2:(uv B++[(H:Int)]++zE b).length<=1000000000:=by simp only[zm9,znl];omega
 have B1:By (uv B++[(H:Int)]++zE a):=By.app (By.app (By.uv _) (By.cons qe By.nil)) (qrh _)
 have B2:By (uv B++[(H:Int)]++zE b):=By.app (By.app (By.uv _) (By.cons qe By.nil)) (qrh _)
 have D1:(uv B++[(H:Int)]++zE a).drop (uv B).length=(H:Int)::zE a:=by rw[znv,zqg];rfl
 have D2:(uv B++[(H:Int)]++zE b).drop (uv B).length=(H:Int)::zE b:=by rw[znv,zqg];rfl
 have D1':(uv B++[(H:Int)]++zE a).drop ((uv B).length+1)=zE a++[]:=by
  have:(uv B).length+1=(uv B++[(H:Int)]).length:=qg
  rw[this,zqg,znz]
 have D2':(uv B++[(H:Int)]++zE b).drop ((uv B).length+1)=zE b++[]:=by
  have:(uv B).length+1=(uv B++[(H:Int)]).length:=qg
  rw[this,zqg,znz]
 have e1:(uv B).length+1+(zE a).length=(uv B++[(H:Int)]++zE a).length:=qi
 have e2:(uv B).length+1+(zE b).length=(uv B++[(H:Int)]++zE b).length:=qi
 have t1:=zd rb k1 (uv B++[(H:Int)]++zE a) L1 B1 (p:=0) (m:=B) (most:=4096) (r:=(H:Int)::zE a) (by rw[znv];rfl) qe qh hp (zn1 _) h.r
 rw[znk]at t1
 have h1:=h.setR (uv B).length
 have t2':=fun H1=>zd sb k2 (uv B++[(H:Int)]++zE b) L2 B2 (p:=0) (m:=B) (most:=4096) (r:=(H:Int)::zE b) (by rw[znv];rfl) qe qh H1 (zn1 _)
 generalize uv B++[(H:Int)]++zE a=QA at*
 generalize uv B++[(H:Int)]++zE b=QB at*
 generalize hp.put rb 0 (Rc k1 QA (uv B).length 0)=H1 at*
 have t2:=t2' H1 h1.s
 rw[znk]at t2
 have h2:=h1.setS (uv B).length
 generalize H1.put sb 0 (Rc k2 QB (uv B).length 0)=H2 at*
 have t3:=zm rb k1 QA L1 D1 H2 qe h2.r
 have h3:=h2.setR ((uv B).length+1)
 generalize H2.put rb 0 (Rc k1 QA ((uv B).length+1) 0)=H3 at*
 have t4:=zm sb k2 QB L2 D2 H3 qe h3.s
 have h4:=h3.setS ((uv B).length+1)
 generalize H3.put sb 0 (Rc k2 QB ((uv B).length+1) 0)=H4 at*
 obtain⟨z1,z2,t5⟩:=XX a al a32 (jc ha) rb k1 QA L1 B1 _ [] D1' H4 qe h4.r
 have h5:=h4.setR ((uv B).length+1+(zE a).length)
 generalize H4.put rb 0 (Rc k1 QA ((uv B).length+1+(zE a).length) 0)=H5 at*
 obtain⟨H6,t6,f6,n6,g6⟩:=qrg a al a32 (jc ha) (rk z1) (rk z2) H5
 have h6:RW3 H6 rb sb wb k1 k2 QA QB ((uv B).length+1+(zE a).length) ((uv B).length+1) []:=
  h5.fr qe (by rw[xO (g6 rb h5.lr)];exact h5.r) (by rw[xO (g6 sb h5.ls)];exact h5.s) (by rw[xO (g6 wb h5.lw)];exact h5.w)
 obtain⟨z3,z4,t7⟩:=XX b bl b32 (jc hb) sb k2 QB L2 B2 _ [] D2' H6 qe h6.s
 have h7:=h6.setS ((uv B).length+1+(zE b).length)
 have hsb:=h5.ls
 have f7:=f6.fr (hp':=H6.put sb 0 (Rc k2 QB ((uv B).length+1+(zE b).length) 0)) (fun x hx=>by
  have:x≠sb:=qe
  simp[Hp.put,this])
 have n7:(H6.put sb 0 (Rc k2 QB ((uv B).length+1+(zE b).length) 0)).next=H6.next:=rfl
 generalize H6.put sb 0 (Rc k2 QB ((uv B).length+1+(zE b).length) 0)=H7 at*
 obtain⟨H8,t8,f8,n8,g8⟩:=qrg b bl b32 (jc hb) (rk z3) (rk z4) H7
 have f7':=f7.fr (hp':=H8) (fun x hx=>g8 x qe)
 rw[e1,e2]at h7
 have h8:RW3 H8 rb sb wb k1 k2 QA QB QA.length QB.length []:=
  h7.fr qe (by rw[xO (g8 rb h7.lr)];exact h7.r) (by rw[xO (g8 sb h7.ls)];exact h7.s) (by rw[xO (g8 wb h7.lw)];exact h7.w)
 have er1:=qW rb k1 _ _ _ H8 h8.r
 have er2:=qW sb k2 _ _ _ H8 h8.s
 have fi:=yc
 obtain⟨H9,s1,s2,s3,s4⟩:=Xs f7'
 have f9:=f8.fr (hp':=H9) (fun x hx=>s4 x qe qe qe)
 obtain⟨H10,u1,u2,u3,u4⟩:=Xs f9
 have s2':=s2.fr (hp':=H10) (fun x hx=>u4 x qe qe qe)
 obtain⟨H11,v1,v2,v3⟩:=zbt (.ptr wb 0 0) (.int .u64 (B:Int)) (.int .u8 (H:Int)) (H5.next+2) H5.next (H5.next+1) (H7.next+2) H7.next (H7.next+1) qe qe qe _ a b [] H10 (znd _) qi s2' u2
 have hlr:=h5.lr
 have hlw:=h5.lw
 have g11:∀x,x<H5.next->H11.get x=H8.get x:=fun x hx=>by
  rw[v3 x qe qe qe qe qe qe,u4 x qe qe qe,s4 x qe qe qe]
 have h11:RW3 H11 rb sb wb k1 k2 QA QB QA.length QB.length []:=
  h8.fr qe (by rw[xO (g11 rb hlr)];exact h8.r) (by rw[xO (g11 sb hsb)];exact h8.s) (by rw[xO (g11 wb hlw)];exact h8.w)
 rw[zn4]at v1
 generalize wt a b=M at*
 have wu:=zY wb B [] qe qi H11 h11.w
 rw[zn4]at wu
 have h12:=h11.setW (uv B)
 generalize H11.put wb 0 (Wc (uv B))=H12 at*
 have wy:=ju wb (uv B) H qe H12 h12.w
 have h13:=h12.setW (uv B++[(H:Int)])
 generalize H12.put wb 0 (Wc (uv B++[(H:Int)]))=H13 at*
 obtain⟨t,t',hpz,x1,_⟩:=qqa M 3 ml m32 mr hp0
 have wf:=fun t t'=>qy0 M ml m32 mr wb t t' (uv B++[(H:Int)]) (by simp only[zm9,znl];omega) H13 h13.w
 refine⟨H13.put wb 0 (Wc (uv B++[(H:Int)]++zE M)),?_,h13.setW _⟩
 have b22:B52_22 (.ptr wb 0 0) (.int .u64 (B:Int)) (.int .u8 (H:Int)) (S 2 1 (LI .u32 (nz M))) H11=some (.sc (.int .i64 0),H13.put wb 0 (Wc (uv B++[(H:Int)]++zE M))):=by
  rw[qvw]
  unfold wg at x1 wf
  generalize uv B++[(H:Int)]++zE M=Q at*
  generalize pk (qO (qA M) M)=P1 at*
  generalize pk (qG (qA M) 0 M)=P2 at*
  generalize((qI M:Nat):Int)=La at*
  generalize((qA M:Nat):Int)=Lk at*
  simp[wu,wy,x1,wf,qp,qo]
 rw[b22]at v1
 have e0:S 2 1 []=S 2 1 (LI .u32 (nz [])):=rfl
 unfold Fst at v1
 rw[<-e0]at v1
 rw[E52]
 generalize uv B++[(H:Int)]++zE M=Q at*
 simp at t1 t2 er1 er2 s1 u1 v1
 simp[qn3,zet,t1,t2,t3,t4,t5,t6,t7,t8,er1,er2,fi,zdd,s1,u1,v1]
def lst(C i:Nat)(l:Int):Int:=if(i:Int)%max (C:Int) 1=0 then 0 else l
theorem qc1(C i:Nat)(x:Int)(r:List Int)(l:Int):zV (C:Int) (x::r) i l=uv (zz (x-lst C i l))++zV (C:Int) r (i+1) x:=rfl
theorem JC{C row col:Nat}(h:col<C)(l:Int):lst C (row*C+col) l=if col=0 then 0 else l:=by
 have e1:max (C:Int) 1=(C:Int):=qe
 have e2:((row*C+col:Nat):Int)%(C:Int)=((col:Nat):Int):=by
  rw[<-Int.natCast_emod,zq2,Nat.add_mul_mod_self_right,zoq h]
 unfold lst
 rw[e1,e2]
 by_cases h0:col=0
 ·rw[if_pos h0,if_pos qe]
 ·rw[if_neg h0,if_neg qe]
theorem qzo(x y:Int)(hx:0<=x/\x<4294967296)(hy:0<=y/\y<4294967296):0<=zi x y/\zi x y<4294967296:=by
 unfold zi
 split<;>omega
section
variable (rb sb wb k1 k2 R C:Nat)(hR:1<=R/\R<=8)(hC:1<=C/\C<=256)(L1 L2:List Int)(hl1:L1.length<=1000000000)(hl2:L2.length<=1000000000)(B1:By L1)(B2:By L2)
include hR hC hl1 hl2 B1 B2
theorem zb8:∀(ra sa:List Int) (i row col:Nat) (la lb lm:Int) (p1 p2:Nat) (Z:List Int) (hp:Hp),ra≠[]->ra.length=sa.length->i=row*C+col->col<C->row<R->i+ra.length=R*C->kr ra->kr sa->(0<=la/\la<4294967296)->(0<=lb/\lb<4294967296)->(0<=lm/\lm<4294967296)->
 L1.drop p1=zV (C:Int) ra i la->L2.drop p2=zV (C:Int) sa i lb->p1<=L1.length->p2<=L2.length->Z.length<=10*i+20->i<=2048->RW3 hp rb sb wb k1 k2 L1 L2 p1 p2 Z->
 ∃hp',B53_14 (.ptr wb 0 0) (.ptr rb 0 0) (.ptr sb 0 0) (.int .u64 (C:Int)) (.int .i64 (lst C i la)) (.int .i64 (lst C i lb)) (.int .i64 (lst C i lm)) (.int .i64 (R:Int)) (.int .i64 (row:Int)) (.int .i64 (C:Int)) (.int .i64 (col:Int)) hp=some (.sc (.int .i64 0),hp')/\
  RW3 hp' rb sb wb k1 k2 L1 L2 L1.length L2.length (Z++zV (C:Int) (jY ra sa) i lm):=by
 intro ra
 induction ra with
 |nil=>intro _ _ _ _ _ _ _ _ _ _ _ h;exact absurd rfl h
 |cons x ra ih=>
  intro sa i row col la lb lm p1 p2 Z hp _ hlen hi hcol JU hsum ua ub hla hlb hlm d1 d2 q1 q2 hZ hi2 h
  cases sa with
  |nil=>simp at hlen
  |cons y sa=>
   have hx:=ua x qg
   have hy:=ub y qg
   have ua':kr ra:=fun n hn=>ua n (by simp[hn])
   have ub':kr sa:=fun n hn=>ub n (by simp[hn])
   simp only[zna]at hlen hsum
   have bA:0<=lst C i la/\lst C i la<4294967296:=by unfold lst;split<;>omega
   have bB:0<=lst C i lb/\lst C i lb<4294967296:=by unfold lst;split<;>omega
   have bM:0<=lst C i lm/\lst C i lm<4294967296:=by unfold lst;split<;>omega
   have em:jY (x::ra) (y::sa)=zi x y::jY ra sa:=rfl
   rw[em,qc1,<-List.append_assoc]
   rw[qc1]at d1 d2
   have hm:=qzo x y hx hy
   have t1:=VV rb k1 L1 hl1 B1 d1 qe qe hp q1 h.r
   have d1':=qM d1
   have q1':=qX q1 d1
   have h1:=h.setR (p1+(uv (zz (x-lst C i la))).length)
   generalize hp.put rb 0 (Rc k1 L1 (p1+(uv (zz (x-lst C i la))).length) 0)=H1 at*
   have t2:=VV sb k2 L2 hl2 B2 d2 qe qe H1 q2 h1.s
   have d2':=qM d2
   have q2':=qX q2 d2
   have h2:=h1.setS (p2+(uv (zz (y-lst C i lb))).length)
   generalize H1.put sb 0 (Rc k2 L2 (p2+(uv (zz (y-lst C i lb))).length) 0)=H2 at*
   have er1:=qW rb k1 _ _ _ H2 h2.r
   have er2:=qW sb k2 _ _ _ H2 h2.s
   have fi:=yc
   have pl:=yP x y hx hy
   have wl:(uv (zz (zi x y-lst C i lm))).length<=10:=qD (qb0 qe qe)
   have wi:=qyj wb (zi x y-lst C i lm) Z qe qe H2 h2.w
   have h3:=h2.setW (Z++uv (zz (zi x y-lst C i lm)))
   have hZ':(Z++uv (zz (zi x y-lst C i lm))).length<=10*(i+1)+20:=by rw[zm9];omega
   generalize H2.put wb 0 (Wc (Z++uv (zz (zi x y-lst C i lm))))=H3 at*
   generalize Z++uv (zz (zi x y-lst C i lm))=Z' at*
   have w1:IntKind.i64.wrap (lst C i la+(x-lst C i la))=x:=qj
   have w2:IntKind.i64.wrap (lst C i lb+(y-lst C i lb))=y:=qj
   have w3:IntKind.u32.wrap x=x:=qK hx.1 hx.2
   have w4:IntKind.u32.wrap y=y:=qK hy.1 hy.2
   have w5:IntKind.i64.wrap (zi x y)=zi x y:=qm qe qe
   have w6:IntKind.i64.wrap (zi x y-lst C i lm)=zi x y-lst C i lm:=qm qe qe
   have w7:IntKind.i64.wrap ((col:Int)+1)=((col+1:Nat):Int):=qj
   have w8:IntKind.i64.wrap ((row:Int)+1)=((row+1:Nat):Int):=qj
   have hcl:(col:Int)<(C:Int):=qe
   have one:B53_14 (.ptr wb 0 0) (.ptr rb 0 0) (.ptr sb 0 0) (.int .u64 (C:Int)) (.int .i64 (lst C i la)) (.int .i64 (lst C i lb)) (.int .i64 (lst C i lm)) (.int .i64 (R:Int)) (.int .i64 (row:Int)) (.int .i64 (C:Int)) (.int .i64 (col:Int)) hp=
    B53_14 (.ptr wb 0 0) (.ptr rb 0 0) (.ptr sb 0 0) (.int .u64 (C:Int)) (.int .i64 x) (.int .i64 y) (.int .i64 (zi x y)) (.int .i64 (R:Int)) (.int .i64 (row:Int)) (.int .i64 (C:Int)) (.int .i64 ((col+1:Nat):Int)) H3:=by
    clear ih d1 d1' d2 d2' hsum hZ hZ' wl
    rw[qd6]
    generalize((col+1:Nat):Int)=I at*
    generalize lst C i la=A at*
    generalize lst C i lb=B at*
    generalize lst C i lm=M at*
    generalize zi x y=P at*
    generalize x-A=XA at*
    generalize y-B=YB at*
    simp[hcl,hcol,t1,t2,w1,w2,er1,er2,fi,qrm,w3,w4,pl,zgq,w5,w6,wi,w7]
   rw[one]
   by_cases hlast:col+1<C
   ·have ei:i+1=row*C+(col+1):=qe
    have hne:ra≠[]:=by
     intro e
     rw[e]at hsum
     simp only[zns,znk]at hsum
     have:(row+1)*C<=R*C:=znw _ qe
     rw[Nat.succ_mul]at this
     omega
    have hRC:R*C<=2048:=zn5 hR.2 hC.2
    obtain⟨hp',z1,z2⟩:=ih sa (i+1) row (col+1) x y (zi x y) _ _ Z' H3 hne qe ei hlast JU qe ua' ub' hx hy hm d1' d2' q1' q2' hZ' qe h3
    refine⟨hp',?_,z2⟩
    rw[ei,JC hlast,JC hlast,JC hlast,if_neg qe,if_neg qe,if_neg qe]at z1
    exact z1
   ·have ec:col+1=C:=qe
    have ei:i+1=(row+1)*C:=by rw[Nat.succ_mul];omega
    have hCn:¬((C:Int)<(C:Int)):=qe
    have wC:IntKind.i64.wrap (C:Int)=(C:Int):=qm qe qe
    rw[ec]
    have two:∀v12 v13 v14,B53_14 (.ptr wb 0 0) (.ptr rb 0 0) (.ptr sb 0 0) (.int .u64 (C:Int)) v12 v13 v14 (.int .i64 (R:Int)) (.int .i64 (row:Int)) (.int .i64 (C:Int)) (.int .i64 (C:Int)) H3=
     B53_11 (.ptr wb 0 0) (.ptr rb 0 0) (.ptr sb 0 0) (.int .u64 (C:Int)) (.int .i64 (R:Int)) (.int .i64 ((row+1:Nat):Int)) H3:=by
     intro v12 v13 v14
     rw[qd6]
     generalize((row+1:Nat):Int)=I at*
     simp[w8]
    rw[two]
    by_cases hr:row+1<R
    ·have hRC:R*C<=2048:=zn5 hR.2 hC.2
     have hne:ra≠[]:=by
      intro e
      rw[e]at hsum
      simp only[zns,znk]at hsum
      have:(row+1+1)*C<=R*C:=znw _ qe
      rw[Nat.succ_mul]at this
      omega
     have ei':i+1=(row+1)*C+0:=qe
     obtain⟨hp',z1,z2⟩:=ih sa (i+1) (row+1) 0 x y (zi x y) _ _ Z' H3 hne qe ei' qe hr qe ua' ub' hx hy hm d1' d2' q1' q2' hZ' qe h3
     refine⟨hp',?_,z2⟩
     rw[ei',JC qe,JC qe,JC qe,if_pos rfl,if_pos rfl,if_pos rfl]at z1
     have hrl:((row+1:Nat):Int)<(R:Int):=qe
     rw[KH]
     generalize((row+1:Nat):Int)=I at*
     simp[hrl,xI,wC]
     exact z1
    ·have er:row+1=R:=qe
     have hRC:(row+1)*C=R*C:=by rw[er]
     rw[<-hRC,<-ei]at hsum
     have e0:ra=[]:=znp.mp qe
     have e0':sa=[]:=znp.mp qe
     subst e0;subst e0'
     refine⟨H3,?_,?_⟩
     ·rw[er,KH]
      simp
     ·have s1:L1.drop (p1+(uv (zz (x-lst C i la))).length)=[]:=d1'
      have s2:L2.drop (p2+(uv (zz (y-lst C i lb))).length)=[]:=d2'
      have g1:=qL s1
      have g2:=qL s2
      have e1:p1+(uv (zz (x-lst C i la))).length=L1.length:=qe
      have e2:p2+(uv (zz (y-lst C i lb))).length=L2.length:=qe
      rw[e1,e2]at h3
      show RW3 H3 rb sb wb k1 k2 L1 L2 L1.length L2.length (Z'++[])
      rw[znz]
      exact h3
end
theorem qy7(hp:Hp)(rb sb wb k1 k2 R C:Nat)(a b:List Int)(hR:1<=R/\R<=8)(hC:1<=C/\C<=256)(ua:kr a)(ub:kr b)(al:a.length=R*C)(bl:b.length=R*C)
 (h:RW3 hp rb sb wb k1 k2 ([(R:Int)]++uv C++zV (C:Int) a 0 0) ([(R:Int)]++uv C++zV (C:Int) b 0 0) 0 0 []):
 ∃hp',run cxX 53 [.ptr wb 0 0,.ptr rb 0 0,.ptr sb 0 0] hp=some (.sc (.int .i64 0),hp')/\
  RW3 hp' rb sb wb k1 k2 ([(R:Int)]++uv C++zV (C:Int) a 0 0) ([(R:Int)]++uv C++zV (C:Int) b 0 0) ([(R:Int)]++uv C++zV (C:Int) a 0 0).length ([(R:Int)]++uv C++zV (C:Int) b 0 0).length ([(R:Int)]++uv C++zV (C:Int) (jY a b) 0 0):=by
 have hRC:R*C<=8*256:=zn5 hR.2 hC.2
 have hRC1:1*1<=R*C:=zn5 hR.1 hC.1
 have hu:=qD (n:=C) qe
 have la:=vE (C:Int) a ua a 0 0 ua qe
 have lb:=vE (C:Int) b ub b 0 0 ub qe
 have L1:([(R:Int)]++uv C++zV (C:Int) a 0 0).length<=1000000000:=by simp only[zm9,znl];omega
 have L2:([(R:Int)]++uv C++zV (C:Int) b 0 0).length<=1000000000:=by simp only[zm9,znl];omega
 have B1:By ([(R:Int)]++uv C++zV (C:Int) a 0 0):=By.app (By.app (By.cons qe By.nil) (By.uv _)) (qgq _ _ _ _)
 have B2:By ([(R:Int)]++uv C++zV (C:Int) b 0 0):=By.app (By.app (By.cons qe By.nil) (By.uv _)) (qgq _ _ _ _)
 have D1:([(R:Int)]++uv C++zV (C:Int) a 0 0).drop 1=uv C++zV (C:Int) a 0 0:=rfl
 have D2:([(R:Int)]++uv C++zV (C:Int) b 0 0).drop 1=uv C++zV (C:Int) b 0 0:=rfl
 have D1':=qM D1
 have D2':=qM D2
 have t1:=zm rb k1 ([(R:Int)]++uv C++zV (C:Int) a 0 0) L1 (p:=0) (c:=(R:Int)) (r:=uv C++zV (C:Int) a 0 0) rfl hp (zn1 _) h.r
 have t2':=fun H1=>zm sb k2 ([(R:Int)]++uv C++zV (C:Int) b 0 0) L2 (p:=0) (c:=(R:Int)) (r:=uv C++zV (C:Int) b 0 0) rfl H1 (zn1 _)
 have l1:1+(uv C).length<=([(R:Int)]++uv C++zV (C:Int) a 0 0).length:=by simp only[zm9,znl];omega
 have l2:1+(uv C).length<=([(R:Int)]++uv C++zV (C:Int) b 0 0).length:=by simp only[zm9,znl];omega
 rw[znk]at t1
 have h1:=h.setR 1
 generalize [(R:Int)]++uv C++zV (C:Int) a 0 0=QA at*
 generalize [(R:Int)]++uv C++zV (C:Int) b 0 0=QB at*
 generalize hp.put rb 0 (Rc k1 QA 1 0)=H1 at*
 have t2:=t2' H1 h1.s
 rw[znk]at t2
 have h2:=h1.setS 1
 generalize H1.put sb 0 (Rc k2 QB 1 0)=H2 at*
 have t3:=zd rb k1 QA L1 B1 (most:=256) D1 qe qh H2 qe h2.r
 have h3:=h2.setR (1+(uv C).length)
 generalize H2.put rb 0 (Rc k1 QA (1+(uv C).length) 0)=H3 at*
 have t4:=zd sb k2 QB L2 B2 (most:=256) D2 qe qh H3 qe h3.s
 have h4:=h3.setS (1+(uv C).length)
 generalize H3.put sb 0 (Rc k2 QB (1+(uv C).length) 0)=H4 at*
 have er1:=qW rb k1 _ _ _ H4 h4.r
 have er2:=qW sb k2 _ _ _ H4 h4.s
 have fi:=yc
 have wy:run cxX 110 [.ptr wb 0 0,.sc (.int .u8 (R:Int))] H4=some (.tup [],H4.put wb 0 (Wc [(R:Int)])):=ju wb [] R qg H4 h4.w
 have h5:=h4.setW [(R:Int)]
 generalize H4.put wb 0 (Wc [(R:Int)])=H5 at*
 have wu:=zY wb C [(R:Int)] qe qi H5 h5.w
 have h6:=h5.setW ([(R:Int)]++uv C)
 generalize H5.put wb 0 (Wc ([(R:Int)]++uv C))=H6 at*
 obtain⟨H7,z1,z2⟩:=zb8 rb sb wb k1 k2 R C hR hC QA QB L1 L2 B1 B2 a b 0 0 0 0 0 0 _ _ ([(R:Int)]++uv C) H6 (by intro e;rw[e]at al;simp at al;omega) qe qg qe qe qe ua ub qe qe qe D1' D2' qe qe qi qe h6
 refine⟨H7,?_,z2⟩
 have l0:lst C 0 0=0:=by unfold lst;split<;>rfl
 rw[l0]at z1
 have wC:IntKind.i64.wrap (C:Int)=(C:Int):=qm qe qe
 have wR:IntKind.i64.wrap (R:Int)=(R:Int):=qm qe qe
 have b11:B53_11 (.ptr wb 0 0) (.ptr rb 0 0) (.ptr sb 0 0) (.int .u64 (C:Int)) (.int .i64 (R:Int)) (.int .i64 0) H6=some (.sc (.int .i64 0),H7):=by
  have hr:(0:Int)<(R:Int):=qe
  have hr':0<R:=qe
  rw[KH]
  simp at z1
  simp[hr,hr',xI,wC,z1]
 rw[E53]
 simp at t3 t4
 simp[t1,t2,t3,t4,er1,er2,fi,zdc,wy,wu,jW,wR,b11]
end Go.Proofs.YtmajcennjgjlnaaGreat.AI
