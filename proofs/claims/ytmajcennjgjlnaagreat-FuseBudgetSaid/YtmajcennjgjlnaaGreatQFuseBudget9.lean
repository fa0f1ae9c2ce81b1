/- Texts that the proof of FuseBudget rests on, part 9. -/
import Derived.Test.YtmajcennjgjlnaaGreatQFuseBudget8
namespace Go.Proofs.YtmajcennjgjlnaaGreat.AI
open Go
set_option linter.unusedVariables false
set_option linter.unusedSimpArgs false
set_option maxRecDepth 100000
set_option maxHeartbeats 0
def tn(l:List Int):List Nat:=l.map Int.toNat
@[simp] theorem JO(l:List Int):(tn l).length=l.length:=by simp[tn]
theorem qp9:∀{l:List Int},(∀n∈l,0<=n)->nz (tn l)=l:=by
 intro l
 induction l with
 |nil=>intro _;rfl
 |cons x r ih=>
  intro h
  have hx:=h x qg
  have e:nz (tn (x::r))=(x.toNat:Int)::nz (tn r):=rfl
  rw[e,ih (fun n hn=>h n (by simp[hn])),zoh hx]
theorem qfv{l:List Int}{B:Nat}(h:∀n∈l,0<=n/\n<(B:Int)):∀x∈tn l,x<B:=by
 intro x hx
 obtain⟨n,hn,rfl⟩:=zns.mp hx
 have:=h n hn
 omega
theorem Vp:∀{l:List Int},(∀n∈l,0<=n)->yo l->qM (tn l):=by
 intro l
 induction l with
 |nil=>intro _ _;trivial
 |cons x r ih=>
  intro h hr
  cases r with
  |nil=>trivial
  |cons y s=>
   have hx:=h x qg
   have hy:=h y qg
   have h1:=(zm1.mp hr).1 y qg
   exact⟨qe,ih (fun n hn=>h n (by simp[hn])) (zm1.mp hr).2⟩
theorem jc:∀{l:List Nat},qM l->zO l:=by
 intro l
 induction l with
 |nil=>intro _;trivial
 |cons x r ih=>
  intro h
  cases r with
  |nil=>trivial
  |cons y s=>exact⟨zpy h.1,ih h.2⟩
def zU(c:Int):List Int->Nat->Int->List Int
 |[],_,_=>[]
 |n::r,i,last=>uv (zz (n-if(i:Int)%max c 1=0 then 0 else last))++zU c r (i+1) n
theorem zei(c:Int)(i:Nat)(t:TypeId)(x y:Operand):qx Tryz.prog .rem t x y (.int .i64 (i:Int)) (.int .i64 (max c 1))=some (.int .i64 ((i:Int)%max c 1)):=by
 rw[zk _ _ _ _ _ _ _ qe,zj qe]
theorem qpq{n m:Int}(hn:0<=n/\n<4294967296)(hm:0<=m/\m<4294967296):(uv (zz (n-m))).length<=10:=qE (qbt qe qe)
section
variable (c:Int)(l:List Int)(hl:l.length<=4096)(h32:kY l)
theorem vu(h32:kY l):∀(r:List Int) (i:Nat) (last:Int),(∀n∈r,0<=n/\n<4294967296)->(0<=last/\last<4294967296)->(zU c r i last).length<=10*r.length
 |[],_,_,_,_=>by simp[zU]
 |x::r,i,last,h,hla=>by
  have ih:=vu h32 r (i+1) x (fun n hn=>h n (by simp[hn])) (h x qg)
  have le:(uv (zz (x-if(i:Int)%max c 1=0 then 0 else last))).length<=10:=qpq (h x qg) (by split<;>omega)
  simp only[zU,zmt,zmu]
  omega
end
def jL(p:Nat):List Nat->List Int
 |[]=>[]
 |k::r=>uv (k-p)++jL k r
def yy(K:Int)(g:GN):List Int:=
 [K]++uv g.M.toNat++uv g.e0.toNat++uv g.e1.toNat++uv g.e2.toNat++uv g.e3.toNat++uv g.e4.toNat++uv g.e5.toNat++uv g.lo++uv g.hi++[(g.L.length:Int)]++jL 0 g.L
theorem Zx:∀{l:List Nat},JB l=0->zO l:=by
 intro l
 induction l with
 |nil=>intro _;trivial
 |cons x r ih=>
  intro h
  cases r with
  |nil=>trivial
  |cons y s=>
   have h':(if y<x then 8 else JB (y::s))=0:=h
   by_cases c:y<x
   ·rw[if_pos c]at h';cases h'
   ·rw[if_neg c]at h'
    exact⟨qe,ih h'⟩
def qy(x:SkN):List Int:=
 if x.kind=0 then jV (jO (tn x.set))
 else if x.kind=1 then uv x.K.toNat++zh (tn x.hs)
 else if x.kind=2 then x.P::jh (tn x.rg)
 else if x.kind=3 then uv x.B.toNat++[x.H]++zB (tn x.bs)
 else if x.kind=4 then [x.R]++uv x.C.toNat++zU x.C x.cs 0 0
 else yy x.gK x.g
def Vg(x:SkN):Prop:=∀n∈x.hs,0<=n/\n<18446744073709551616
theorem kf{l:List Nat}(hl:l.length<=1024)(h64:∀x∈l,x<18446744073709551616):(zh l).length<=700100:=by
 obtain⟨k63,hq⟩:=QK (xu h64)
 have hbl:=Qc (jd (qw l)) k63 (qw l) hq
 rw[ko]at hbl
 have hlY:(pk (je (qw l))).length<700000:=by rw[zZ];unfold je;omega
 have h1:=qE (n:=l.length) qe
 have h2:=qE (n:=(pk (je (qw l))).length) qe
 unfold zh
 simp only[zmt,zm5]
 omega
theorem kp{l:List Nat}(hl:l.length<=4096)(h32:∀x∈l,x<4294967296)(hr:zO l):(zB l).length<=100000:=by
 by_cases hne:l=[]
 ·subst hne
  have e:zB []=uv 0++uv 0++[]++uv 0++[]:=rfl
  have h:=qE (n:=0) qe
  rw[e]
  simp only[zmt,znd]
  omega
 ·obtain⟨a,b,c⟩:=xL l hl h32 hr hne
  have h1:=qE (n:=l.length) qe
  have h2:=qE (n:=qI l) qe
  have hm:l.length*qA l<=4096*32:=zno hl a
  have h3:=qE (n:=(pk (qG (qA l) 0 l)).length) (by rw[zZ];omega)
  unfold zB
  simp only[zmt,zZ,Qe]at*
  omega
theorem QU{l:List Nat}(hl:l.length<=1000)(h64:∀x∈l,x<64):(jh l).length<=100000:=by
 rw[(Jv l h64).2]
 have key:∀(l cs:List Nat) (s:En),okM cs->(∀x∈l,x<64)->Zy s s.width->16777216<=s.width/\s.width<=4294967296->eK (enc cs s l)<=eK s+4*l.length:=by
  intro l
  induction l with
  |nil=>intro cs s _ _ _ _;exact zmx _
  |cons x r ih=>
   intro cs s hm hl h hw
   obtain⟨d,b1,b2,b3,b4,b5,b6,b7⟩:=Za s cs x hm (hl x qg) h hw
   have hd:d<=4:=qy8 b7 (by rw[<-b2];exact b6)
   have:=ih (Yu cs x) (zE 4 (xC s cs x)) (Qy hm (hl x qg)) (fun y hy=>hl y (by simp[hy])) b4 ⟨b5,b6⟩
   have e:enc cs s (x::r)=enc (Yu cs x) (zE 4 (xC s cs x)) r:=rfl
   rw[e,zmu]
   omega
 have:=key l cs0 en0 qji h64 qjj ⟨qh,qh⟩
 have e0:eK en0=0:=rfl
 omega
theorem wY{l:List Nat}(hl:l.length<=4096)(h32:∀x∈l,x<4294967296):(jV (jO l)).length<=900000:=by
 have hc:=Xr l
 have h1:=qE (n:=(jO l).length) qe
 have key:∀cs:List (Nat×Nat),(∀c∈cs,YT c)->(wG cs).length<=60*cs.length:=by
  intro cs
  induction cs with
  |nil=>intro _;exact zmx _
  |cons c r ih=>
   intro h
   have:=ih (fun d hd=>h d (by simp[hd]))
   have:=qag (h c qg)
   simp only[wG,zmt,zmu]
   omega
 have:=key (jO l) (wP h32)
 unfold jV
 simp only[zmt]
 omega
theorem wU{x:SkN}(f:Fine x)(k:x.kind=0):x.set.length<=4096/\qM (tn x.set)/\(∀n∈tn x.set,n<4294967296)/\nz (tn x.set)=x.set:=by
 have h:=(qZ.mp f.c).2.2
 rw[if_pos k]at h
 have s:=Qz.mp h
 have n0:∀n∈x.set,0<=n:=fun n hn=>(f.w.set n hn).1
 exact⟨s.1,Vp n0 s.2,qfv (B:=4294967296) f.w.set,qp9 n0⟩
theorem vd{x:SkN}(f:Fine x)(k:x.kind=1)(h64:Vg x):(1<=x.K/\x.K<=1024)/\x.hs.length<=1024/\qM (tn x.hs)/\(∀n∈tn x.hs,n<18446744073709551616)/\nz (tn x.hs)=x.hs:=by
 have h:=(qZ.mp f.c).2.2
 rw[if_neg qe,if_pos k]at h
 have s:=QP.mp h
 have n0:∀n∈x.hs,0<=n:=fun n hn=>(h64 n hn).1
 exact⟨s.1,qe,Vp n0 s.2.2,qfv (B:=18446744073709551616) h64,qp9 n0⟩
theorem ve{x:SkN}(f:Fine x)(k:x.kind=2):(4<=x.P/\x.P<=8)/\x.rg.length=jW x.P/\x.rg.length<=256/\(∀n∈tn x.rg,n<64)/\nz (tn x.rg)=x.rg:=by
 have h:=(qZ.mp f.c).2.2
 rw[if_neg qe,if_neg qe,if_pos k]at h
 have s:=Xb.mp h
 have n0:∀n∈x.rg,0<=n:=fun n hn=>(f.w.rg n hn).1
 have hp:jW x.P<=256:=by
  unfold jW
  exact zn7 (znv qh (show x.P.toNat<=8 by omega)) qh
 exact⟨s.1,s.2.1,qe,qfv (B:=64) (fun n hn=>⟨n0 n hn,by have:=s.2.2 n hn;omega⟩),qp9 n0⟩
theorem xP{x:SkN}(f:Fine x)(k:x.kind=3):(1<=x.B/\x.B<=4096)/\(1<=x.H/\x.H<=8)/\x.bs.length<=4096/\zO (tn x.bs)/\(∀n∈tn x.bs,n<4294967296)/\nz (tn x.bs)=x.bs:=by
 have h:=(qZ.mp f.c).2.2
 rw[if_neg qe,if_neg qe,if_neg qe,if_pos k]at h
 have s:=Qh h f.w.bs
 have n0:∀n∈x.bs,0<=n:=fun n hn=>(f.w.bs n hn).1
 exact⟨s.1,s.2.1,s.2.2.len s.1.2,jc (Vp n0 s.2.2.1),qfv (B:=4294967296) f.w.bs,qp9 n0⟩
theorem vf{x:SkN}(f:Fine x)(k:x.kind=4):(1<=x.R/\x.R<=8)/\(1<=x.C/\x.C<=256)/\(x.cs.length:Int)=x.R*x.C/\x.cs.length<=2048:=by
 have h:=(qZ.mp f.c).2.2
 rw[if_neg qe,if_neg qe,if_neg qe,if_neg qe,if_pos k]at h
 have s:=VE.mp h
 have:=qkj s.1 s.2.1
 exact⟨s.1,s.2.1,s.2.2,qe⟩
theorem xe{x:SkN}(f:Fine x)(k:x.kind=5):(1<=x.gK/\x.gK<=16)/\JB x.g.L=0/\x.g.L.length<=16:=by
 have h:=(qZ.mp f.c).2.2
 rw[if_neg qe,if_neg qe,if_neg qe,if_neg qe,if_neg qe]at h
 unfold Yi at h
 split at h
 ·cases h
 ·rename_i h1
  split at h
  ·rename_i h2
   exact⟨qe,h2,qe⟩
  ·cases h
theorem Zu{x:SkN}{v:AV}(hv:jU x v)(f:Fine x)(h64:Vg x):(qy x).length<=1000000:=by
 obtain⟨g,a,b,c,d,e,t,gw,gn,rfl⟩:=hv
 have hk:=f.w.kind
 have kd:=(qZ.mp f.c).1
 have six:x.kind=0\/x.kind=1\/x.kind=2\/x.kind=3\/x.kind=4\/x.kind=5:=qe
 unfold qy
 rcases six with k|k|k|k|k|k
 ·rw[if_pos k]
  have s:=wU f k
  have:=wY (l:=tn x.set) (by simp;exact s.1) s.2.2.1
  omega
 ·have s:=vd f k h64
  have:=kf (l:=tn x.hs) (by simp;exact s.2.1) s.2.2.2.1
  have hu:=qE (n:=x.K.toNat) qe
  rw[if_neg qe,if_pos k,zmt]
  omega
 ·have s:=ve f k
  have:=QU (l:=tn x.rg) qi s.2.2.2.1
  rw[if_neg qe,if_neg qe,if_pos k,zmu]
  omega
 ·have s:=xP f k
  have:=kp (l:=tn x.bs) (by simp;exact s.2.2.1) s.2.2.2.2.1 s.2.2.2.1
  have hu:=qE (n:=x.B.toNat) qe
  rw[if_neg qe,if_neg qe,if_neg qe,if_pos k]
  simp only[zmt,zm5]
  omega
 ·have s:=vf f k
  have:=vu x.C x.cs f.w.cs x.cs 0 0 f.w.cs qe
  have hu:=qE (n:=x.C.toNat) qe
  rw[if_neg qe,if_neg qe,if_neg qe,if_neg qe,if_pos k]
  simp only[zmt,zm5]
  omega
 ·have s:=xe f k
  have hd:∀(L:List Nat) (p:Nat),(∀k∈L,k<18446744073709551616)->(jL p L).length<=10*L.length:=by
   intro L
   induction L with
   |nil=>intro p _;exact zmx _
   |cons k r ih=>
    intro p h
    have:=ih k (fun y hy=>h y (by simp[hy]))
    have hu:=qE (n:=k-p) (by have:=h k qg;omega)
    simp only[jL,zmt,zmu]
    omega
  have hL:∀k∈x.g.L,k<18446744073709551616:=by
   rw[<-gn]
   intro k hk
   obtain⟨w,hw,rfl⟩:=zns.mp hk
   exact Qg w (gw.L w hw)
  have h0:=hd x.g.L 0 hL
  have u:∀n:Int,zw n->(uv n.toNat).length<=10:=fun n hn=>qE (by have:=hn.2;omega)
  have p:=f.pos
  have u1:=u _ p.1
  have u2:=u _ p.2.1
  have u3:=u _ p.2.2.1
  have u4:=u _ p.2.2.2.1
  have u5:=u _ p.2.2.2.2.1
  have u6:=u _ p.2.2.2.2.2.1
  have u7:=u _ p.2.2.2.2.2.2
  have u8:=qE (n:=x.g.lo) (by rw[<-gn];exact Qg _ gw.lo)
  have u9:=qE (n:=x.g.hi) (by rw[<-gn];exact Qg _ gw.hi)
  rw[if_neg qe,if_neg qe,if_neg qe,if_neg qe,if_neg qe]
  unfold yy
  simp only[zmt,zm5]
  omega
structure Sm where
 kind:Int
 A:Int
 B:Int
 wide:Int
 few:Bool
 hs:List Int
 fl:List (Int×Int)
structure Sm.Ok (s : Sm) : Prop where
 kind:0<=s.kind/\s.kind<256
 A:0<=s.A/\s.A<256
 B:0<=s.B/\s.B<256
 wide:0<=s.wide/\s.wide<65536
 hs:∀n∈s.hs,0<=n/\n<18446744073709551616
 fl:∀p∈s.fl,InI p
abbrev smA(s:Sm)(k k':Nat):AV:=.agg [.sc (.int .u8 s.kind),.sc (.int .u8 s.A),.sc (.int .u8 s.B),.sc (.int .u16 s.wide),.sc (.bool s.few),S k 1 (LI .u64 s.hs),S k' 2 (LP s.fl)]
def row(n:Int)(m:Nat):List Int:=(List.range m).map fun(k:Nat)=>n+(k:Int)
def kA(few:Bool)(h:Int):List Int:=h%4294967296::(if few then row (h%9000) (h%40).toNat else [])
def kG(few:Bool)(hs:List Int):List Int:=hs.flatMap (kA few)
def smc:Nat->List Int->List (Int×Int)
 |_,[]=>[]
 |i,h::r=>(h,if i%5=4 then h/4294967296 else h%9)::smc (i+1) r
noncomputable def jZ(s:Sm):SkN:=
 if s.kind%6=0 then{skZ with kind:=0,set:=KH [] (kG s.few s.hs)}
 else if s.kind%6=1 then{skZ with kind:=1,K:=1+s.A%20,hs:=ZH (1+s.A%20).toNat [] (s.hs.map (cut s.few))}
 else if s.kind%6=2 then{skZ with kind:=2,P:=4+s.A%5,rg:=hfold (4+s.A%5) (List.replicate (jW (4+s.A%5)) 0) s.hs}
 else if s.kind%6=3 then{skZ with kind:=3,B:=1+s.wide%300,H:=1+s.A%8,bs:=blm (1+s.wide%300) (1+s.A%8) [] s.hs}
 else if s.kind%6=4 then{skZ with kind:=4,R:=1+s.A%8,C:=1+s.B%40,cs:=xy (1+s.A%8) (1+s.B%40) (List.replicate ((1+s.A%8)*(1+s.B%40)).toNat 0) (smc 0 s.hs)}
 else{skZ with kind:=5,gK:=1+s.A%16,g:=(ZJ (1+s.A%16) gnew (s.fl.map wd)).nf}
theorem qcc(s:Sm)(k k':Nat)(hp:Hp):run cxX 10 [smA s k k'] hp=some (.sc (.bool (decide (s.hs.length<=40/\s.fl.length<=40))),hp):=by
 rw[E10]
 by_cases h:s.hs.length<=40
 ·have h':(s.hs.length:Int)<=40:=qe
  have e:decide ((s.fl.length:Int)<=40)=decide (s.fl.length<=40):=decide_eq_decide.mpr qe
  simp[qs,h,h',zaj,e]
 ·have h':¬((s.hs.length:Int)<=40):=qe
  simp[qs,h,h']
theorem zh9{n:Int}{m:Nat}(hn:0<=n/\n<9000)(hm:m<=40):kY (row n m):=by
 intro x hx
 simp only[row,zns,zqo]at hx
 obtain⟨k,hk,rfl⟩:=hx
 omega
theorem qrw{few:Bool}{h:Int}(hh:0<=h):kY (kA few h):=by
 intro x hx
 rcases zmy.mp hx with rfl|hx
 ·omega
 ·cases few with
  |false=>simp at hx
  |true=>exact zh9 qe qe x hx
theorem qxz{few:Bool}{hs:List Int}(h:∀n∈hs,0<=n/\n<18446744073709551616):kY (kG few hs):=by
 intro x hx
 obtain⟨y,hy,hx⟩:=List.mem_flatMap.mp hx
 exact qrw (h y hy).1 x hx
theorem VU(few:Bool){h:Int}(hh:0<=h):(kA few h).length<=40:=by
 unfold kA
 cases few with
 |false=>simp
 |true=>
  simp only[if_true,zmu,row,zov,List.length_range]
  omega
theorem qbz(few:Bool):∀{hs:List Int},(∀n∈hs,0<=n/\n<18446744073709551616)->(kG few hs).length<=40*hs.length
 |[],_=>by simp[kG]
 |x::hs,h=>by
  have ih:=qbz few (hs:=hs) (fun n hn=>h n (by simp[hn]))
  have l1:=VU few (h x qg).1
  show((x::hs).flatMap (kA few)).length<=_
  rw[List.flatMap_cons,zmt]
  simp only[zmu]
  have:(List.flatMap (kA few) hs).length<=40*hs.length:=ih
  omega
section
variable (b1 b2 b3:List AV)(s:Sm)(k k':Nat)(hp:Hp)
theorem zh2(h:Int)(x27:AV)(v28 v29:Value)(hh:0<=h/\h<18446744073709551616)(m:Nat)(hm:m<=40):∀(j:Nat) (l:List Int) (i:Nat),i+j=m->l.length+j<=1000000->
 B14_12 (S 2 1 (LI .u32 l)) (.int .u64 h) x27 v28 v29 (.int .u32 m) (.int .u32 i) b1 b2 b3 hp=B14_16 (S 2 1 (LI .u32 (l++(List.range' i j).map fun(k:Nat)=>h%9000+(k:Int)))) x27 v28 v29 b1 b2 b3 hp:=by
 intro j
 induction j with
 |zero=>
  intro l i hi hl
  have hlt:¬((i:Int)<(m:Int)):=qe
  rw[qer]
  simp[hlt]
 |succ j ih=>
  intro l i hi hl
  have hlt:i<m:=qe
  have r:∀t x y,qx Tryz.prog .rem t x y (.int .u64 h) (.int .u64 9000)=some (.int .u64 (h%9000)):=by
   intro t x y;rw[zk _ _ _ _ _ _ _ qe,zj hh.1]
  have w1:IntKind.u32.wrap (h%9000)=h%9000:=qJ qe qe
  have w2:IntKind.u32.wrap (h%9000+(i:Int))=h%9000+(i:Int):=qJ qe qe
  have w3:IntKind.u32.wrap ((i:Int)+1)=((i+1:Nat):Int):=by rw[qJ]<;>omega
  have ap:=QZ .u32 l 2 (.inr rfl) 4 qh (h%9000+(i:Int)) qe
  have g:=ih (l++[h%9000+(i:Int)]) (i+1) qe qi
  rw[qer,List.range'_succ]
  simp at g w3
  simp[hlt,r,w1,w2,ap,w3,g]
theorem zh1(hs:∀n∈s.hs,0<=n/\n<18446744073709551616)(hl:s.hs.length<=40):∀(r:List Int) (i:Nat) (l:List Int),s.hs.drop i=r->l.length<=40*i->i<=s.hs.length->
 ∃t,∀b3',qo b3 1 [S t 1 (LI .u32 (KH [] (l++kG s.few r)))]=some b3'->B14_7 (S 2 1 (LI .u32 l)) (S k 1 (LI .u64 s.hs)) (.int .i64 s.hs.length) (.int .i64 i) [.sc (.int .u8 s.kind),.sc (.int .u8 s.A),.sc (.int .u8 s.B),.sc (.int .u16 s.wide),.sc (.bool s.few),S k 1 (LI .u64 s.hs),S k' 2 (LP s.fl)] b2 b3 hp=
  B14_35 b2 b3' hp:=by
 intro r
 induction r with
 |nil=>
  intro i l hr hll hil
  have:=qK hr
  have hlt:¬((i:Int)<(s.hs.length:Int)):=qe
  obtain⟨t,o⟩:=qyg l 3 qe hp0
  refine⟨rk t,fun b3' hb=>?_⟩
  rw[qma]
  simp[kG]at hb
  simp[hlt,o,hb]
 |cons x r ih=>
  intro i l hr hll hil
  obtain⟨e1,e2,hi,e3⟩:=qt hr
  have hx:=hs x (zm6 e1)
  have hw:IntKind.i64.wrap ((i:Int)+1)=((i+1:Nat):Int):=qj
  have w1:IntKind.u32.wrap x=x%4294967296:=by rw[IntKind.wrap_u32]
  have ap:=QZ .u32 l 2 (.inr rfl) 4 qh (x%4294967296) qe
  have l1:=VU s.few hx.1
  obtain⟨t,g⟩:=ih (i+1) (l++kA s.few x) e2 (by rw[zmt];omega) qe
  refine⟨t,fun b3' hb=>?_⟩
  have es:kG s.few (x::r)=kA s.few x++kG s.few r:=rfl
  rw[es,<-List.append_assoc]at hb
  have g:=g b3' hb
  have g16:B14_16 (S 2 1 (LI .u32 (l++kA s.few x))) (S k 1 (LI .u64 s.hs)) (.int .i64 s.hs.length) (.int .i64 i) [.sc (.int .u8 s.kind),.sc (.int .u8 s.A),.sc (.int .u8 s.B),.sc (.int .u16 s.wide),.sc (.bool s.few),S k 1 (LI .u64 s.hs),S k' 2 (LP s.fl)] b2 b3 hp=B14_35 b2 b3' hp:=by
   rw[qwo]
   simp at hw g
   simp[hw,g]
  rw[qma]
  cases hf:s.few with
  |false=>
   rw[hf]at g16
   simp[kA]at g16
   simp[hi,e3,ql,w1,ap,g16]
  |true=>
   rw[hf]at g16
   have r40:∀t a b,qx Tryz.prog .rem t a b (.int .u64 x) (.int .u64 40)=some (.int .u64 (x%40)):=by
    intro t a b;rw[zk _ _ _ _ _ _ _ qe,zj hx.1]
   have w2:IntKind.u32.wrap (x%40)=x%40:=qJ qe qe
   have rw1:=zh2 [.sc (.int .u8 s.kind),.sc (.int .u8 s.A),.sc (.int .u8 s.B),.sc (.int .u16 s.wide),.sc (.bool true),S k 1 (LI .u64 s.hs),S k' 2 (LP s.fl)] b2 b3 hp x (S k 1 (LI .u64 s.hs)) (.int .i64 s.hs.length) (.int .i64 i) hx (x%40).toNat qe (x%40).toNat (l++[x%4294967296]) 0 qe qi
   have e40:(((x%40).toNat:Nat):Int)=x%40:=qe
   rw[e40]at rw1
   have er:(l++[x%4294967296])++(List.range' 0 (x%40).toNat).map (fun(k:Nat)=>x%9000+(k:Int))=l++kA true x:=by
    simp[kA,row,List.range_eq_range']
   rw[er,g16]at rw1
   simp at rw1
   simp[hi,e3,ql,w1,ap,r40,w2,rw1]
theorem zh4(hs:∀n∈s.hs,0<=n/\n<18446744073709551616)(hA:0<=s.A/\s.A<256)(hB:0<=s.B/\s.B<256)(hl:s.hs.length<=40):∀(r:List Int) (i:Nat) (l:List (Int×Int)),s.hs.drop i=r->l.length<=i->i<=s.hs.length->(∀p∈l,0<=p.2/\p.2<4294967296)->
 ∃t,∀b3',qo b3 9 [.sc (.int .i64 (1+s.A%8)),.sc (.int .i64 (1+s.B%40)),S t 1 (LI .u32 (xy (1+s.A%8) (1+s.B%40) (List.replicate ((1+s.A%8)*(1+s.B%40)).toNat 0) (l++smc i r)))]=some b3'->
  B14_27 (S 2 2 (LQ .u64 .u32 l)) (S k 1 (LI .u64 s.hs)) (.int .i64 s.hs.length) (.int .i64 i) [.sc (.int .u8 s.kind),.sc (.int .u8 s.A),.sc (.int .u8 s.B),.sc (.int .u16 s.wide),.sc (.bool s.few),S k 1 (LI .u64 s.hs),S k' 2 (LP s.fl)] b2 b3 hp=B14_35 b2 b3' hp:=by
 intro r
 induction r with
 |nil=>
  intro i l hr hll hil hp2
  have:=qK hr
  have hlt:¬((i:Int)<(s.hs.length:Int)):=qe
  obtain⟨t,hpc,o⟩:=zd6 s.A s.B l 3 hA hB qe hp2 hp0
  refine⟨t,fun b3' hb=>?_⟩
  rw[KB]
  simp[smc]at hb
  simp[hlt,ql,o,hb]
 |cons x r ih=>
  intro i l hr hll hil hp2
  obtain⟨e1,e2,hi,e3⟩:=qt hr
  have hx:=hs x (zm6 e1)
  have hw:IntKind.i64.wrap ((i:Int)+1)=((i+1:Nat):Int):=qj
  have r9:∀t a b,qx Tryz.prog .rem t a b (.int .u64 x) (.int .u64 9)=some (.int .u64 (x%9)):=by
   intro t a b;rw[zk _ _ _ _ _ _ _ qe,zj hx.1]
  have r5:∀t a b,qx Tryz.prog .rem t a b (.int .i64 (i:Int)) (.int .i64 5)=some (.int .i64 ((i:Int)%5)):=by
   intro t a b;rw[zk _ _ _ _ _ _ _ qe,zj qe]
  have w9:IntKind.u32.wrap (x%9)=x%9:=qJ qe qe
  have s32:∀t a b,qx Tryz.prog .shr t a b (.int .u64 x) (.int .u64 32)=some (.int .u64 (x/4294967296)):=by
   intro t a b
   rw[jI _ _ _ _ _ _ _ _ qe]
   have e:(2:Int)^(min (32:Int).toNat IntKind.u64.bits)=4294967296:=qh
   rw[e,zoc _ qh]
  have w32:IntKind.u32.wrap (x/4294967296)=x/4294967296:=qJ qe qe
  have ex:smc i (x::r)=(x,if i%5=4 then x/4294967296 else x%9)::smc (i+1) r:=rfl
  have ap:=fun n=>zj7 .u64 .u32 2 (.inr rfl) l x n qe
  by_cases h4:i%5=4
  ·have h4':(i:Int)%5=4:=qe
   rw[if_pos h4]at ex
   obtain⟨t,g⟩:=ih (i+1) (l++[(x,x/4294967296)]) e2 qi qe (fun p hp=>by
    rcases zn3.mp hp with hp|hp
    ·exact hp2 p hp
    ·simp at hp;subst hp;dsimp;omega)
   refine⟨t,fun b3' hb=>?_⟩
   rw[ex]at hb
   have g:=g b3' (by simpa using hb)
   rw[KB]
   simp at g hw
   simp[hi,e3,ql,r9,w9,r5,h4',s32,w32,qeq,ap,hw,g]
  ·have h4':¬((i:Int)%5=4):=qe
   rw[if_neg h4]at ex
   obtain⟨t,g⟩:=ih (i+1) (l++[(x,x%9)]) e2 qi qe (fun p hp=>by
    rcases zn3.mp hp with hp|hp
    ·exact hp2 p hp
    ·simp at hp;subst hp;dsimp;omega)
   refine⟨t,fun b3' hb=>?_⟩
   rw[ex]at hb
   have g:=g b3' (by simpa using hb)
   rw[KB]
   simp at g hw
   simp[hi,e3,ql,r9,w9,r5,h4',qeq,ap,hw,g]
end
theorem zi4{w:Nat}(hw:w<18446744073709551616):(kD w).W:=by
 have i01:∀(p:Prop) [Decidable p],zw (if p then 1 else 0):=by intro p _;split<;>exact⟨qh,qh⟩
 refine⟨⟨show(0:Int)<=1 by decide,show(1:Int)<4294967296 by decide⟩,i01 _,i01 _,i01 _,i01 _,i01 _,i01 _,?_,?_,?_,?_⟩
 ·show(if yQ w then 9218868437227405312 else w)<18446744073709551616
  split<;>omega
 ·show(if yQ w then 18442240474082181120 else w)<18446744073709551616
  split<;>omega
 ·intro x hx
  have:x=wk (kw w):=by simpa[kD]using hx
  subst this
  exact qbv _ (Qg w hw)
 ·simp[kD]
theorem zaz{w:Nat}{K:Int}(hw:w<18446744073709551616)(hK:1<=K/\K<=16):Yi K (kD w).nf=0:=by
 rw[VC]
 refine⟨hK,?_,?_,?_,?_⟩
 ·simp[Gs.nf,kD];omega
 ·simp[Gs.nf,kD]
 ·show kw (if yQ w then 9218868437227405312 else w)≠nanK
  split
  ·decide
  ·rename_i h;exact fun e=>h ((qg0 hw).mpr e)
 ·show kw (if yQ w then 18442240474082181120 else w)≠nanK
  split
  ·decide
  ·rename_i h;exact fun e=>h ((qg0 hw).mpr e)
theorem qj3{K:Int}(hK:1<=K/\K<=16):Yi K gnew.nf=0:=by
 rw[VC]
 exact⟨hK,by simp[Gs.nf,gnew];omega,by simp[Gs.nf,gnew],qh,qh⟩
theorem Yg{K:Int}(hK:1<=K/\K<=16):∀{r:List Nat} {g:Gs},Ws r->g.W->Yi K g.nf=0->(ZJ K g r).W/\Yi K (ZJ K g r).nf=0
 |[],g,_,hg,hc=>⟨hg,hc⟩
 |w::r,g,hr,hg,hc=>by
  have hw:=hr w qg
  have h1:=za1 (K:=K) qe hg (zi4 hw)
  have h2:Yi K (gmg K g (kD w)).nf=0:=by rw[qoh];exact WS hc (zaz hw hK)
  exact Yg hK (r:=r) (fun x hx=>hr x (by simp[hx])) h1 h2
theorem VY(s:Sm)(k k':Nat)(ok:s.Ok)(hl:s.hs.length<=40)(hf:s.fl.length<=40)(hp:Hp):∃r,jU (jZ s) r/\run cxX 14 [smA s k k'] hp=some (r,hp):=by
 have hk:=ok.kind
 have hA:=ok.A
 have hB:=ok.B
 have r6:∀t a b,qx Tryz.prog .rem t a b (.int .u8 s.kind) (.int .u8 6)=some (.int .u8 (s.kind%6)):=by
  intro t a b;rw[zk _ _ _ _ _ _ _ qe,zj hk.1]
 have fin:∀(x:SkN) (g:Gs) (a b c d e f:Nat),B14_35 xZ (JH x g a b c d e f) hp=some (Qx x g a b c d e f,hp):=by
  intro x g a b c d e f
  rw[qwn]
  unfold JH xZ Qx
  simp[qr,qo]
 rw[E14]
 unfold jZ
 by_cases h0:s.kind%6=0
 ·rw[if_pos h0]
  obtain⟨t,q⟩:=zh1 xZ xZ s (rk k) (rk k') hp ok.hs hl s.hs 0 [] rfl qg qg
  refine⟨_,zL (x:={skZ with kind:=0,set:=KH [] (kG s.few s.hs)}) kN rfl t 2 2 2 2 2,?_⟩
  have f:=fin {skZ with kind:=0,set:=KH [] (kG s.few s.hs)} gz t 2 2 2 2 2
  have q:=q (JH {skZ with kind:=0,set:=KH [] (kG s.few s.hs)} gz t 2 2 2 2 2) (by unfold xZ JH;simp[qo,skZ,gz,LF])
  unfold JH xZ at q f
  unfold Qx at f⊢
  simp[skZ,gz,LF]at q f
  simp[ql,qs,r6,h0,q,f,skZ,gz,LF]
 ·rw[if_neg h0]
  by_cases h1:s.kind%6=1
  ·rw[if_pos h1]
   have q:=fun k hp=>zd2 s.A s.few s.hs k hA qe (fun n hn=>(ok.hs n hn).1) hp
   refine⟨_,zL (x:={skZ with kind:=1,K:=1+s.A%20,hs:=ZH (1+s.A%20).toNat [] (s.hs.map (cut s.few))}) kN rfl 2 2 2 2 2 2,?_⟩
   have f:=fin {skZ with kind:=1,K:=1+s.A%20,hs:=ZH (1+s.A%20).toNat [] (s.hs.map (cut s.few))} gz 2 2 2 2 2 2
   unfold JH xZ at f
   unfold Qx at f⊢
   simp[skZ,gz,LF]at f
   simp[ql,qs,qo,r6,h1,q,f,skZ,gz,LF]
  ·rw[if_neg h1]
   by_cases h2:s.kind%6=2
   ·rw[if_pos h2]
    obtain⟨t,q⟩:=zd3 s.A s.hs (rk k) hA qe ok.hs hp0
    refine⟨_,zL (x:={skZ with kind:=2,P:=4+s.A%5,rg:=hfold (4+s.A%5) (List.replicate (jW (4+s.A%5)) 0) s.hs}) kN rfl 2 2 t 2 2 2,?_⟩
    have f:=fin {skZ with kind:=2,P:=4+s.A%5,rg:=hfold (4+s.A%5) (List.replicate (jW (4+s.A%5)) 0) s.hs} gz 2 2 t 2 2 2
    unfold JH xZ at f
    unfold Qx at f⊢
    simp[skZ,gz,LF]at f
    simp[ql,qs,qo,r6,h2,q,f,skZ,gz,LF]
   ·rw[if_neg h2]
    by_cases h3:s.kind%6=3
    ·rw[if_pos h3]
     have q:=fun k hp=>qso s.wide s.A k s.hs ok.wide hA qe hp
     refine⟨_,zL (x:={skZ with kind:=3,B:=1+s.wide%300,H:=1+s.A%8,bs:=blm (1+s.wide%300) (1+s.A%8) [] s.hs}) kN rfl 2 2 2 2 2 2,?_⟩
     have f:=fin {skZ with kind:=3,B:=1+s.wide%300,H:=1+s.A%8,bs:=blm (1+s.wide%300) (1+s.A%8) [] s.hs} gz 2 2 2 2 2 2
     unfold JH xZ at f
     unfold Qx at f⊢
     simp[skZ,gz,LF]at f
     simp[ql,qs,qo,r6,h3,q,f,skZ,gz,LF]
    ·rw[if_neg h3]
     by_cases h4:s.kind%6=4
     ·rw[if_pos h4]
      obtain⟨t,q⟩:=zh4 xZ ((AV.sc (.int .u8 4))::xZ.tail) s (rk k) (rk k') hp ok.hs hA hB hl s.hs 0 [] rfl qg qg qg
      refine⟨_,zL (x:={skZ with kind:=4,R:=1+s.A%8,C:=1+s.B%40,cs:=xy (1+s.A%8) (1+s.B%40) (List.replicate ((1+s.A%8)*(1+s.B%40)).toNat 0) (smc 0 s.hs)}) kN rfl 2 2 2 2 t 2,?_⟩
      have f:=fin {skZ with kind:=4,R:=1+s.A%8,C:=1+s.B%40,cs:=xy (1+s.A%8) (1+s.B%40) (List.replicate ((1+s.A%8)*(1+s.B%40)).toNat 0) (smc 0 s.hs)} gz 2 2 2 2 t 2
      have q:=q (JH {skZ with kind:=4,R:=1+s.A%8,C:=1+s.B%40,cs:=xy (1+s.A%8) (1+s.B%40) (List.replicate ((1+s.A%8)*(1+s.B%40)).toNat 0) (smc 0 s.hs)} gz 2 2 2 2 t 2) (by unfold xZ JH;simp[qo,skZ,gz,LF])
      unfold JH xZ at q f
      unfold Qx at f⊢
      have nq:S 2 2 (LQ .u64 .u32 [])=S 2 1 []:=rfl
      rw[nq]at q
      simp[skZ,gz,LF]at q f
      simp[ql,qs,r6,h4,q,f,skZ,gz,LF]
     ·rw[if_neg h4]
      have h5:s.kind%6=5:=qe
      obtain⟨gw,gc⟩:=Yg (K:=1+s.A%16) qe (zgw ok.fl) za0 (qj3 qe)
      have q:=fun k hp=>qsg s.A k s.fl hA qe ok.fl hp
      refine⟨_,zL (x:={skZ with kind:=5,gK:=1+s.A%16,g:=(ZJ (1+s.A%16) gnew (s.fl.map wd)).nf}) gw rfl 2 2 2 2 2 2,?_⟩
      have f:=fin {skZ with kind:=5,gK:=1+s.A%16,g:=(ZJ (1+s.A%16) gnew (s.fl.map wd)).nf} (ZJ (1+s.A%16) gnew (s.fl.map wd)) 2 2 2 2 2 2
      unfold JH xZ at f
      unfold Qx at f⊢
      simp[skZ]at f
      simp[ql,qs,qo,r6,h5,q,f,skZ]
theorem qpv:∀(r acc:List Int),(KH acc r).length<=acc.length+r.length
 |[],acc=>by simp[KH]
 |x::r,acc=>by
  have h:=qpv r (mrg acc [x])
  have l:=YX acc [x]
  show(KH (mrg acc [x]) r).length<=_
  simp at l⊢
  omega
theorem zfr{P h:Int}{l:List Int}(hP:4<=P/\P<=8)(hl:∀n∈l,n<=65-P):∀n∈QR P l h,n<=65-P:=by
 unfold QR
 split
 ·rename_i hi
  intro n hn
  rcases zpm hn with hn|rfl
  ·exact hl n hn
  ·have h1:=qg3 (h:=h) hP
   have h2:=hl l[yV P h] (znb hi)
   have e:l.getD (yV P h) 0=l[yV P h]:=by simp[hi]
   rw[e];omega
 ·exact hl
theorem qjx{P:Int}(hP:4<=P/\P<=8):∀{l a:List Int},(∀n∈a,0<=n/\n<=65-P)->∀n∈hfold P a l,0<=n/\n<=65-P
 |[],a,h=>h
 |x::l,a,h=>by
  have h1:∀n∈QR P a (hsh x),0<=n/\n<=65-P:=fun n hn=>⟨(zfq hP (fun m hm=>by have:=h m hm;omega) n hn).1,zfr hP (fun m hm=>(h m hm).2) n hn⟩
  exact qjx hP (l:=l) h1
theorem YC(s:Sm)(ok:s.Ok)(hl:s.hs.length<=40)(hf:s.fl.length<=40):Fine (jZ s):=by
 have z:=qpw
 have hA:=ok.A
 have hB:=ok.B
 have hw:=ok.wide
 have hk:=ok.kind
 unfold jZ
 by_cases h0:s.kind%6=0
 ·rw[if_pos h0]
  have r:=VT (kG s.few s.hs) (acc:=[]) List.Pairwise.nil
  have l:=qpv (kG s.few s.hs) []
  have l2:=qbz s.few ok.hs
  simp at l
  have u:kY (KH [] (kG s.few s.hs)):=fun n hn=>by
   have:=(qgw n _ _).mp hn
   simp at this
   exact qxz ok.hs n this
  refine⟨⟨by show(0:Int)<=0/\(0:Int)<256;omega,u,by show(KH [] (kG s.few s.hs)).length<=_;omega,z.hsL,z.rg,z.rgL,z.bs,z.bsL,z.cs,z.csL⟩,?_,Yf⟩
  rw[qZ]
  exact⟨by show(0:Int)<6;omega,rfl,Qz.mpr ⟨by show(KH [] (kG s.few s.hs)).length<=_;omega,r⟩⟩
 ·rw[if_neg h0]
  by_cases h1:s.kind%6=1
  ·rw[if_pos h1]
   have l:=zal (1+s.A%20).toNat (s.hs.map (cut s.few))
   refine⟨⟨by show(0:Int)<=1/\(1:Int)<256;omega,z.set,z.setL,by show(ZH (1+s.A%20).toNat [] (s.hs.map (cut s.few))).length<=_;omega,z.rg,z.rgL,z.bs,z.bsL,z.cs,z.csL⟩,?_,Yf⟩
   rw[qZ]
   exact⟨by show(1:Int)<6;omega,rfl,QP.mpr ⟨by show 1<=1+s.A%20/\1+s.A%20<=1024;omega,by show((ZH (1+s.A%20).toNat [] (s.hs.map (cut s.few))).length:Int)<=1+s.A%20;omega,qtz _ _⟩⟩
  ·rw[if_neg h1]
   by_cases h2:s.kind%6=2
   ·rw[if_pos h2]
    have hP:4<=4+s.A%5/\4+s.A%5<=8:=qe
    have o:=qjx hP (l:=s.hs) (a:=List.replicate (jW (4+s.A%5)) 0) (fun n hn=>by have:=zot hn;omega)
    have l:=qc9 (4+s.A%5) s.hs (List.replicate (jW (4+s.A%5)) 0)
    rw[zq0]at l
    have hple:=VA hP.2
    refine⟨⟨by show(0:Int)<=2/\(2:Int)<256;omega,z.set,z.setL,z.hsL,fun n hn=>by have:=o n hn;omega,by show(hfold (4+s.A%5) (List.replicate (jW (4+s.A%5)) 0) s.hs).length<=_;omega,z.bs,z.bsL,z.cs,z.csL⟩,?_,Yf⟩
    rw[qZ]
    exact⟨by show(2:Int)<6;omega,rfl,Xb.mpr ⟨hP,l,fun n hn=>(o n hn).2⟩⟩
   ·rw[if_neg h2]
    by_cases h3:s.kind%6=3
    ·rw[if_pos h3]
     have hB':1<=1+s.wide%300/\1+s.wide%300<=4096:=qe
     have g:=qkq (B:=1+s.wide%300) (H:=1+s.A%8) hB'.1 (r:=s.hs) (kr.nil _)
     have l:=g.len hB'.2
     refine⟨⟨by show(0:Int)<=3/\(3:Int)<256;omega,z.set,z.setL,z.hsL,z.rg,z.rgL,g.in32 hB'.2,by show(blm (1+s.wide%300) (1+s.A%8) [] s.hs).length<=_;omega,z.cs,z.csL⟩,?_,Yf⟩
     rw[qZ]
     exact⟨by show(3:Int)<6;omega,rfl,qaf hB' (by show 1<=1+s.A%8/\1+s.A%8<=8;omega) g⟩
    ·rw[if_neg h3]
     by_cases h4:s.kind%6=4
     ·rw[if_pos h4]
      have hR:1<=1+s.A%8/\1+s.A%8<=8:=qe
      have hC:1<=1+s.B%40/\1+s.B%40<=256:=qe
      have m:=qkj hR hC
      have l:=qdg (1+s.A%8) (1+s.B%40) (smc 0 s.hs) (List.replicate ((1+s.A%8)*(1+s.B%40)).toNat 0)
      rw[zq0]at l
      have p2:∀(r:List Int) (i:Nat),(∀n∈r,0<=n/\n<18446744073709551616)->∀p∈smc i r,0<=p.2/\p.2<4294967296:=by
       intro r
       induction r with
       |nil=>intro i _ p hp;simp[smc]at hp
       |cons x r ih=>
        intro i hr p hp
        have hx:=hr x qg
        rcases zmy.mp hp with rfl|hp
        ·dsimp
         split<;>omega
        ·exact ih (i+1) (fun n hn=>hr n (by simp[hn])) p hp
      have u:=qdf (1+s.A%8) (1+s.B%40) (l:=smc 0 s.hs) (a:=List.replicate ((1+s.A%8)*(1+s.B%40)).toNat 0) (fun n hn=>by have:=zot hn;omega) (p2 s.hs 0 ok.hs)
      refine⟨⟨by show(0:Int)<=4/\(4:Int)<256;omega,z.set,z.setL,z.hsL,z.rg,z.rgL,z.bs,z.bsL,u,by show(xy (1+s.A%8) (1+s.B%40) (List.replicate ((1+s.A%8)*(1+s.B%40)).toNat 0) (smc 0 s.hs)).length<=_;omega⟩,?_,Yf⟩
      rw[qZ]
      exact⟨by show(4:Int)<6;omega,rfl,VE.mpr ⟨hR,hC,by show((xy (1+s.A%8) (1+s.B%40) (List.replicate ((1+s.A%8)*(1+s.B%40)).toNat 0) (smc 0 s.hs)).length:Int)=(1+s.A%8)*(1+s.B%40);omega⟩⟩
     ·rw[if_neg h4]
      obtain⟨gw,gc⟩:=Yg (K:=1+s.A%16) qe (zgw ok.fl) za0 (qj3 qe)
      refine⟨⟨by show(0:Int)<=5/\(5:Int)<256;omega,z.set,z.setL,z.hsL,z.rg,z.rgL,z.bs,z.bsL,z.cs,z.csL⟩,?_,gw.pos⟩
      rw[qZ]
      exact⟨by show(5:Int)<6;omega,rfl,gc⟩
theorem YA(s:Sm)(ok:s.Ok):(jZ s).kind=s.kind%6:=by
 have hk:=ok.kind
 unfold jZ
 repeat' split
 all_goals first|(simp;omega)|rfl
theorem qf1(s t:Sm)(ok:s.Ok)(ok':t.Ok)(hk:s.kind%6=t.kind%6)(hA:s.A=t.A)(hB:s.B=t.B)(hw:s.wide=t.wide):jR (jZ s) (jZ t)=true:=by
 have k1:=YA s ok
 have k2:=YA t ok'
 refine qqo (by rw[k1,k2,hk]) ?_
 rw[k1]
 unfold jZ
 rw[<-hk,<-hA,<-hB,<-hw]
 refine⟨fun h=>?_,fun h=>?_,fun h=>?_,fun h=>?_,fun h=>?_⟩
 ·simp[h]
 ·simp[h]
 ·simp[h]
 ·simp[h]
 ·simp[h]
def Sm.none(s:Sm):Sm:={s with hs:=[],fl:=[]}
theorem Sm.Ok.none{s:Sm}(h:s.Ok):s.none.Ok:=⟨h.kind,h.A,h.B,h.wide,by simp[Sm.none],by simp[Sm.none]⟩
theorem jP(Z L:List AV)(h:Z.length=L.length):qo Z 0 L=some L:=by
 unfold qo
 rw[if_pos qe]
 simp[h]
theorem Kb(L:List AV)(n:Nat)(h:L.length=n):qr L 0 n=some L:=by
 subst h;exact qj5 L
theorem qt6(L:List AV)(i:Nat):ql (L.map ro1) i=ql L i:=by
 unfold ql
 rw[zne]
 cases L[i]? with
 |none=>rfl
 |some x=>cases x<;>rfl
structure Cl (x : SkN) (L : List AV) : Prop where
 sk:jU x (.agg L)
 len:L.length=23
 vl:L.all vl=true
 ro:L.map ro1=L
 k0:ql L 0=some (.int .u8 x.kind)
theorem jU.cl{x:SkN}{r:AV}(h:jU x r):∃L,r= .agg L/\L.length=23/\L.all AI.vl=true/\Cl x (L.map ro1):=by
 obtain⟨g,a,b,c,d,e,f,gw,gn,rfl⟩:=h
 refine⟨_,rfl,rfl,qg,⟨⟨g,rk a,rk b,rk c,rk d,rk e,rk f,gw,gn,by simp[Qx]⟩,qg,qg,qg,by simp[ql]⟩⟩
theorem vj:Fine skZ:=⟨qpw,qh,Yf⟩
def By(l:List Int):Prop:=∀x∈l,0<=x/\x<256
theorem By.app{a b:List Int}(h:By a)(g:By b):By (a++b):=fun x hx=>(zn3.mp hx).elim (h x) (g x)
theorem By.cons{a:Int}{b:List Int}(h:0<=a/\a<256)(g:By b):By (a::b):=fun x hx=>(zmy.mp hx).elim (fun e=>by rw[e];exact h) (g x)
theorem By.nil:By []:=fun x hx=>by cases hx
theorem By.uv(n:Nat):By (uv n):=zla n
theorem By.pk(l:List Bool):By (pk l):=fun x hx=>Wx hx
theorem qb2{s:En}(h:By s.out):By (sh s).out:=by
 unfold sh
 split
 ·refine By.app (By.app h ?_) fun x hx=>?_
  ·split
   ·exact By.cons qe By.nil
   ·exact By.nil
  ·rw[zot hx];omega
 ·exact h
theorem zfb:∀(f:Nat) {s:En},By s.out->By (zE f s).out:=by
 intro f
 induction f with
 |zero=>intro s h;exact h
 |succ f ih=>
  intro s h
  unfold zE
  split
  ·exact ih (qb2 h)
  ·exact h
theorem zjl:∀(l cs:List Nat) {s:En},By s.out->By (enc cs s l).out:=by
 intro l
 induction l with
 |nil=>intro cs s h;exact h
 |cons x r ih=>intro cs s h;exact ih _ (zfb 4 h)
theorem qha(l:List Nat):By (jh l):=qb2 (qb2 (qb2 (qb2 (qb2 (zjl l cs0 By.nil)))))
theorem zj6(m:Nat):∀f i,i+f<=256->By (yD m f i):=by
 intro f
 induction f with
 |zero=>intro i _;exact By.nil
 |succ f ih=>
  intro i h
  unfold yD
  split
  ·exact By.cons qe (ih _ qe)
  ·exact ih _ qe
theorem zj1(m:Nat):∀f i,By (yB m f i):=by
 intro f
 induction f with
 |zero=>intro i;exact By.nil
 |succ f ih=>intro i;exact By.cons qe (ih _)
theorem zlf(m:Nat):∀f i,By (kC m f i):=by
 intro f
 induction f with
 |zero=>intro i;exact By.nil
 |succ f ih=>
  intro i
  unfold kC
  split
  ·exact By.nil
  ·split
   ·have:=wg m (255-i) i
    exact By.cons qe (By.cons qe (ih _))
   ·exact ih _
theorem qga{cs:List (Nat×Nat)}:By (jV cs):=by
 have h:∀cs:List (Nat×Nat),By (wG cs):=by
  intro cs
  induction cs with
  |nil=>exact By.nil
  |cons c r ih=>
   have k:=YY c.2
   have a:=vx c.2 256
   have b:=JW c.2 256
   refine By.app (By.app (By.uv _) (By.cons qe ?_)) ih
   unfold QX
   split
   ·exact By.cons qe (zj6 _ _ _ qe)
   ·split
    ·exact zj1 _ _ _
    ·exact By.cons qe (zlf _ _ _)
 exact By.app (By.uv _) (h cs)
theorem qgg(c:Int):∀(l:List Int) (i:Nat) (last:Int),By (zU c l i last):=by
 intro l
 induction l with
 |nil=>intro i last;exact By.nil
 |cons x r ih=>intro i last;exact By.app (By.uv _) (ih _ _)
theorem qqz:∀(l:List Nat) (p:Nat),By (jL p l):=by
 intro l
 induction l with
 |nil=>intro p;exact By.nil
 |cons x r ih=>intro p;exact By.app (By.uv _) (ih _)
theorem zem{x:SkN}(f:Fine x)(h64:Vg x):By (qy x):=by
 have hk:=f.w.kind
 have kd:=(qZ.mp f.c).1
 have six:x.kind=0\/x.kind=1\/x.kind=2\/x.kind=3\/x.kind=4\/x.kind=5:=qe
 unfold qy
 rcases six with k|k|k|k|k|k
 ·rw[if_pos k];exact qga
 ·rw[if_neg qe,if_pos k]
  obtain⟨s0,s1,s2,s3,s4⟩:=vd f k h64
  have p:=(QK (xu s3)).1
  exact By.app (By.uv _) (By.app (By.app (By.app (By.uv _) (By.cons qe By.nil)) (By.uv _)) (By.pk _))
 ·rw[if_neg qe,if_neg qe,if_pos k]
  have s:=ve f k
  exact By.cons qe (qha _)
 ·rw[if_neg qe,if_neg qe,if_neg qe,if_pos k]
  have s:=xP f k
  exact By.app (By.app (By.uv _) (By.cons qe By.nil)) (By.app (By.app (By.app (By.app (By.uv _) (By.uv _)) (By.pk _)) (By.uv _)) (By.pk _))
 ·rw[if_neg qe,if_neg qe,if_neg qe,if_neg qe,if_pos k]
  have s:=vf f k
  exact By.app (By.app (By.cons qe By.nil) (By.uv _)) (qgg _ _ _ _)
 ·rw[if_neg qe,if_neg qe,if_neg qe,if_neg qe,if_neg qe]
  have s:=xe f k
  unfold yy
  exact By.app (By.app (By.app (By.app (By.app (By.app (By.app (By.app (By.app (By.app (By.app (By.cons qe By.nil) (By.uv _)) (By.uv _)) (By.uv _)) (By.uv _)) (By.uv _)) (By.uv _)) (By.uv _)) (By.uv _)) (By.uv _)) (By.cons qe By.nil)) (qqz _ _)
theorem KJ(s:Sm)(ok:s.Ok):Vg (jZ s):=by
 intro n hn
 unfold jZ at hn
 by_cases h0:s.kind%6=0
 ·rw[if_pos h0]at hn;cases hn
 ·rw[if_neg h0]at hn
  by_cases h1:s.kind%6=1
  ·rw[if_pos h1]at hn
   obtain⟨m,hm,rfl⟩:=zns.mp (zac hn)
   have:=ok.hs m hm
   unfold cut
   split<;>omega
  ·rw[if_neg h1]at hn
   split at hn
   ·cases hn
   ·split at hn
    ·cases hn
    ·split at hn<;>cases hn
abbrev Rb(k:Nat)(l:List Int)(p:Nat)(s:Bool):List AV:=[S k 1 (LI .u8 l),.sc (.int .i64 (p:Int)),.sc (.bool s)]
def rb(l:List Int)(p:Nat)(s:Bool):Bool×Nat×Bool:=if s=true\/8*l.length<=p then(false,p,true)else(yn l p,p+1,false)
def rt(l:List Int):Nat->Nat->Nat->Bool->Nat×Nat×Bool
 |0,n,p,s=>(if s then 0 else n,p,s)
 |k+1,n,p,s=>rt l k (2*n+(rb l p s).1.toNat) (rb l p s).2.1 (rb l p s).2.2
def ru(l:List Int)(most:Nat):Nat->Nat->Nat->Bool->Nat×Nat×Bool
 |0,n,p,s=>(0,p,true)
 |f+1,n,p,s=>if(rb l p s).1 then ru l most f (n+1) (rb l p s).2.1 ((rb l p s).2.2||decide (most<n+1))else(if(rb l p s).2.2 then 0 else n,(rb l p s).2.1,(rb l p s).2.2)
def rU1(l:List Int)(most p:Nat)(s:Bool):Nat×Nat×Bool:=ru l most (8*l.length+2) 0 p s
def qi3(l:List Int)(p:Nat)(s:Bool):Int:=if s then 3 else if p+8<=8*l.length then 15 else if(List.range (8*l.length-p)).any (fun i=>yn l (p+i))then 15 else 0
theorem rb_p(l:List Int)(p:Nat)(s:Bool)(h:p<=8*l.length):(rb l p s).2.1<=8*l.length:=by
 unfold rb
 by_cases h1:s=true\/8*l.length<=p
 ·rw[if_pos h1];exact h
 ·rw[if_neg h1];simp at h1⊢;omega
theorem bit8(l:List Int)(p:Nat)(h8:∀c∈l,0<=c/\c<256)(hp:p<8*l.length):
 ∃z:Int,(∀t x y,qx Tryz.prog .shr t x y (.int .u8 (l.getD (p/8) 0)) (.int .i64 ((7-p%8:Nat):Int))=some (.int .u8 z))/\(∀t x y,qx Tryz.prog .and t x y (.int .u8 z) (.int .u8 1)=some (.int .u8 ((yn l p).toNat:Nat))):=by
 obtain⟨c,hc⟩:∃c,l.getD (p/8) 0=c:=⟨_,rfl⟩
 have hm:c∈l:=by
  rw[<-hc,zmv,zm0 qe]
  exact znb _
 obtain⟨c1,c2⟩:=h8 c hm
 obtain⟨n,rfl⟩:∃n:Nat,c=n:=⟨c.toNat,qe⟩
 unfold yn
 rw[hc]
 refine⟨_,fun t x y=>jI _ _ _ _ _ _ _ _ qe,fun t x y=>?_⟩
 rw[zm]
 have h:7-p%8<8:=qe
 generalize 7-p%8=r at*
 have e1:min (r:Int).toNat IntKind.u8.bits=r:=by
  show min (r:Int).toNat 8=r
  omega
 have e2:(n:Int).fdiv (2^r)=((n/2^r:Nat):Int):=by
  rw[zoc _ (Int.le_of_lt (Int.pow_pos qe))]
  simp
 have e3:(BitVec.ofInt IntKind.u8.bits ((n/2^r:Nat):Int)&&&BitVec.ofInt IntKind.u8.bits 1).toNat=n/2^r%2:=by
  have hlt:n/2^r<256:=zog (zo5 _ _) qe
  generalize n/2^r=q at*
  show(BitVec.ofInt 8 (q:Int)&&&BitVec.ofInt 8 1).toNat=q%2
  have e:BitVec.ofInt 8 1=1#8:=rfl
  rw[zoq,e,zpr,zop,zoa hlt]
  exact Nat.and_one_is_mod q
 rw[e1,e2,e3,zm3,zox]
 have:n/2^r%2=0\/n/2^r%2=1:=qe
 rcases this with e|e<;>rw[e]<;>rfl
theorem Jg(k:Nat)(l:List Int)(hp:Hp):run cxX 159 [S k 1 (LI .u8 l)] hp=some (.ptr hp.next 0 0,hp.new (Rb (rk k) l 0 false)):=by
 rw[E159]
 simp[qo]
 rfl
section
variable (b k:Nat)(l:List Int)(p:Nat)(s:Bool)(hp:Hp)(hl:l.length<=100000000)
theorem vm(h:hp.rd b 0=some (Rb k l p s)):run cxX 163 [.ptr b 0 0] hp=some (.sc (.bool s),hp):=by
 rw[E163]
 simp[h,ql]
theorem qsn(h:hp.rd b 0=some (Rb k l p s)):run cxX 192 [.ptr b 0 0] hp=some (.tup [],hp.put b 0 (Rb k l p true)):=by
 rw[E192]
 simp[h,qo]
theorem zgn(h:hp.rd b 0=some (Rb k l p s)):B191_2 (.ptr b 0 0) hp=some (.sc (.int .i64 0),hp.put b 0 (Rb k l p true)):=by
 rw[qv0]
 simp[h,qo,qvz]
include hl
theorem qp2(h8:∀c∈l,0<=c/\c<256)(hpl:p<=8*l.length)(h:hp.rd b 0=some (Rb k l p s)):
 run cxX 191 [.ptr b 0 0] hp=some (.sc (.int .i64 ((rb l p s).1.toNat:Nat)),hp.put b 0 (Rb k l (rb l p s).2.1 (rb l p s).2.2)):=by
 have t:=zgn b k l p s hp h
 rw[E191]
 unfold rb
 by_cases hs:s=true
 ·subst hs
  simp[h,ql,t]
 ·have hs:s=false:=by simpa using hs
  subst hs
  have w1:IntKind.i64.wrap (8*(l.length:Int))=((8*l.length:Nat):Int):=qj
  by_cases h1:8*l.length<=p
  ·have hge:((8*l.length:Nat):Int)<=(p:Int):=qe
   generalize hq:((8*l.length:Nat):Int)=q at*
   simp[h,ql,qs,w1,hge,t,h1]
  ·have hge:¬(((8*l.length:Nat):Int)<=(p:Int)):=qe
   have q8:=qgd p qe
   obtain⟨z8,b8,b8'⟩:=bit8 l p h8 qe
   have r8:=qgb p
   have w4:IntKind.i64.wrap (7-((p%8:Nat):Int))=((7-p%8:Nat):Int):=qj
   have w2:IntKind.i64.wrap ((p:Int)+1)=((p+1:Nat):Int):=qj
   have w3:IntKind.i64.wrap (((yn l p).toNat:Nat):Int)=(((yn l p).toNat:Nat):Int):=by have:=b2n (yn l p);rw[qm]<;>omega
   have ge:(LI .u8 l)[p/8]?=some (.sc (.int .u8 (l.getD (p/8) 0))):=by
    unfold LI
    rw[zne,zmv,zm0 qe]
    rfl
   have g0:(0:Int)<=((p/8:Nat):Int):=qe
   have b5:B191_5 (.ptr b 0 0) hp=some (.sc (.int .i64 ((yn l p).toNat:Nat)),hp.put b 0 (Rb k l (p+1) false)):=by
    rw[qvy]
    generalize hcc:l.getD (p/8) 0=c at*
    generalize hrr:((7-p%8:Nat):Int)=r at*
    have gs1:∀(x y:AV) (v:Value),ql [x,.sc v,y] 1=some v:=fun _ _ _=>rfl
    have gs0:∀(v:Value),ql [.sc v] 0=some v:=fun _=>rfl
    have gc0:∀(x:AV) (l:List AV),qs (x::l) 0=some x:=fun _ _=>rfl
    generalize hq8:((p/8:Nat):Int)=q1 at*
    have ge':(LI .u8 l)[q1.toNat]?=some (.sc (.int .u8 c)):=by rw[<-hq8,zm3];exact ge
    generalize((p%8:Nat):Int)=q2 at*
    simp[h,qs,gs1,q8,g0,ge',gs0,r8,w4,b8,b8',w2,cv8,w3,qo,-zm]
    rfl
   generalize hq:((8*l.length:Nat):Int)=q at*
   simp[h,ql,qs,w1,hge,b5,h1]
theorem qrt(h8:∀c∈l,0<=c/\c<256)(n0:Nat)(hn0:n0<=64):∀(m acc p:Nat) (s:Bool) (hp:Hp),m<=n0->acc<2^(n0-m)->p<=8*l.length->hp.rd b 0=some (Rb k l p s)->
 B162_3 (.ptr b 0 0) (.int .u64 (acc:Int)) (.int .i64 (n0:Int)) (.int .i64 ((n0-m:Nat):Int)) hp=some (.sc (.int .u64 ((rt l m acc p s).1:Nat)),hp.put b 0 (Rb k l (rt l m acc p s).2.1 (rt l m acc p s).2.2)):=by
 intro m
 induction m with
 |zero=>
  intro acc p s hp hm ha hpl h
  have sh:=vm b k l p s hp h
  rw[qen]
  cases s
  ·simp[sh,rt,jk h]
  ·simp[sh,rt,jk h]
 |succ m ih=>
  intro acc p s hp hm ha hpl h
  have bt:=qp2 b k l p s hp hl h8 hpl h
  have hlt:((n0-(m+1):Nat):Int)<(n0:Int):=qe
  have hb:=b2n (rb l p s).1
  have jW:2^(n0-(m+1))<=2^63:=znv qh qe
  have e63:(2:Nat)^63=9223372036854775808:=qh
  have s1:∀t x y,qx Tryz.prog .shl t x y (.int .u64 (acc:Int)) (.int .u64 1)=some (.int .u64 ((acc*2^1:Nat):Int)):=by
   intro t x y
   rw[zW _ _ _ _ _ _ _ _ qe]
   have e:(2:Int)^min (1:Int).toNat IntKind.u64.bits=2:=rfl
   rw[e,IntKind.wrap_u64]
   congr 2
   omega
  have w1:IntKind.u64.wrap (((rb l p s).1.toNat:Nat):Int)=(((rb l p s).1.toNat:Nat):Int):=qu qe qe
  have o1:∀t x y,qx Tryz.prog .or t x y (.int .u64 ((acc*2^1:Nat):Int)) (.int .u64 (((rb l p s).1.toNat:Nat):Int))=some (.int .u64 ((2*acc+(rb l p s).1.toNat:Nat):Int)):=by
   intro t x y
   rw[zR]
   generalize(rb l p s).1.toNat=q at*
   have e:(BitVec.ofInt IntKind.u64.bits ((acc*2^1:Nat):Int)|||BitVec.ofInt IntKind.u64.bits (q:Int)).toNat=2*acc+q:=by
    show(BitVec.ofInt 64 ((acc*2^1:Nat):Int)|||BitVec.ofInt 64 (q:Int)).toNat=_
    rw[zpd,znh,znh]
    have e1:(((acc*2^1:Nat):Int)%((2^64:Nat):Int)).toNat=2^1*acc:=qe
    have e2:((q:Int)%((2^64:Nat):Int)).toNat=q:=qe
    rw[e1,e2,<-Nat.two_pow_add_eq_or_of_lt qe acc]
   rw[e,qu qe qe]
  have w2:IntKind.i64.wrap (((n0-(m+1):Nat):Int)+1)=((n0-m:Nat):Int):=qj
  have hi:=ih (2*acc+(rb l p s).1.toNat) (rb l p s).2.1 (rb l p s).2.2 (hp.put b 0 (Rb k l (rb l p s).2.1 (rb l p s).2.2)) qe (by
   have:n0-m=n0-(m+1)+1:=qe
   rw[this,zoo];omega) (rb_p l p s hpl) (qp _ _ _)
  rw[qC]at hi
  rw[qen]
  have e3:rt l (m+1) acc p s=rt l m (2*acc+(rb l p s).1.toNat) (rb l p s).2.1 (rb l p s).2.2:=rfl
  rw[e3]
  generalize rt l m (2*acc+(rb l p s).1.toNat) (rb l p s).2.1 (rb l p s).2.2=R at*
  generalize((2*acc+(rb l p s).1.toNat:Nat):Int)=A at*
  generalize(((rb l p s).1.toNat:Nat):Int)=bb at*
  generalize((acc*2^1:Nat):Int)=aa at*
  generalize((n0-(m+1):Nat):Int)=jj at*
  generalize((n0-m:Nat):Int)=kk at*
  simp[hlt,s1,bt,w1,o1,w2,hi,-zR]
theorem qcm(h8:∀c∈l,0<=c/\c<256)(n0:Nat)(hn0:n0<=64)(hpl:p<=8*l.length)(h:hp.rd b 0=some (Rb k l p s)):
 run cxX 162 [.ptr b 0 0,.sc (.int .i64 (n0:Int))] hp=some (.sc (.int .u64 ((rt l n0 0 p s).1:Nat)),hp.put b 0 (Rb k l (rt l n0 0 p s).2.1 (rt l n0 0 p s).2.2)):=by
 have t:=qrt b k l hl h8 n0 hn0 n0 0 p s hp (zmx _) (zo4 _) hpl h
 have m1:max (n0:Int) 0=(n0:Int):=qe
 have m2:min (n0:Int) 64=(n0:Int):=qe
 rw[E162]
 simp at t
 simp[m1,m2,t]
theorem qrm(h8:∀c∈l,0<=c/\c<256)(most:Nat)(hmost:most<1000000000000):∀(f n p:Nat) (s:Bool) (hp:Hp),n<=1000000000000->p<=8*l.length->(s=true/\1<=f)\/8*l.length+1<=f+p->n+f<=1000000000000->hp.rd b 0=some (Rb k l p s)->
 B161_2 (.ptr b 0 0) (.int .i64 (most:Int)) (.int .i64 (n:Int)) hp=some (.sc (.int .i64 ((ru l most f n p s).1:Nat)),hp.put b 0 (Rb k l (ru l most f n p s).2.1 (ru l most f n p s).2.2)):=by
 intro f
 induction f with
 |zero=>intro n p s hp hn hpl hf hnf h;omega
 |succ f ih=>
  intro n p s hp hn hpl hf hnf h
  have bt:=qp2 b k l p s hp hl h8 hpl h
  have hrp:=rb_p l p s hpl
  rw[qwg]
  unfold ru
  by_cases hb:(rb l p s).1=true
  ·have hb2:(rb l p s).2=(p+1,false):=by
    unfold rb at hb⊢
    by_cases h1:s=true\/8*l.length<=p
    ·rw[if_pos h1]at hb;cases hb
    ·rw[if_neg h1]
   have hs:s=false:=by
    cases s
    ·rfl
    ·exfalso;unfold rb at hb;rw[if_pos (.inl rfl)]at hb;cases hb
   have hlp:p<8*l.length:=by
    by_cases h1:8*l.length<=p
    ·exfalso;unfold rb at hb;rw[if_pos (.inr h1)]at hb;cases hb
    ·omega
   have hf':8*l.length+1<=f+1+p:=by
    rcases hf with⟨h,_⟩|h
    ·rw[hs]at h;cases h
    ·exact h
   rw[hb,hb2]at bt
   rw[hb,hb2]
   have w1:IntKind.i64.wrap ((n:Int)+1)=((n+1:Nat):Int):=qj
   have st:=qsn b k l (p+1) false (hp.put b 0 (Rb k l (p+1) false)) (qp _ _ _)
   rw[qC]at st
   by_cases hm:most<n+1
   ·have hg:((n+1:Nat):Int)>(most:Int):=qe
    have hi:=ih (n+1) (p+1) true (hp.put b 0 (Rb k l (p+1) true)) qe qe (.inl ⟨rfl,qe⟩) qe (qp _ _ _)
    rw[qC]at hi
    have e:(false||decide (most<n+1))=true:=by simp[hm]
    simp only[e,if_true]
    generalize hq:ru l most f (n+1) (p+1) true=R at*
    have e2:((true.toNat:Nat):Int)=1:=rfl
    rw[e2]at bt
    generalize hq3:((n+1:Nat):Int)=n1 at*
    generalize hp.put b 0 (Rb k l (p+1) false)=hpa at*
    generalize hp.put b 0 (Rb k l (p+1) true)=hpb at*
    simp[bt,w1,hg,st,hi]
   ·have hg:¬(((n+1:Nat):Int)>(most:Int)):=qe
    have hi:=ih (n+1) (p+1) false (hp.put b 0 (Rb k l (p+1) false)) qe qe (.inr qe) qe (qp _ _ _)
    rw[qC]at hi
    have e:(false||decide (most<n+1))=false:=by simp[hm]
    simp only[e,if_true]
    generalize hq:ru l most f (n+1) (p+1) false=R at*
    have e2:((true.toNat:Nat):Int)=1:=rfl
    rw[e2]at bt
    generalize hq3:((n+1:Nat):Int)=n1 at*
    generalize hp.put b 0 (Rb k l (p+1) false)=hpa at*
    have hg':¬((most:Int)<n1):=hg
    simp[bt,w1,hg',hi]
  ·have hb:(rb l p s).1=false:=by simpa using hb
   rw[hb]at bt
   rw[hb]
   have e2:((false.toNat:Nat):Int)=0:=rfl
   rw[e2]at bt
   have sh:=vm b k l (rb l p s).2.1 (rb l p s).2.2 (hp.put b 0 (Rb k l (rb l p s).2.1 (rb l p s).2.2)) (qp _ _ _)
   generalize hq1:(rb l p s).2.2=s2 at*
   generalize hq2:(rb l p s).2.1=p2 at*
   cases s2
   ·simp[bt,sh]
   ·simp[bt,sh]
theorem Wk(h8:∀c∈l,0<=c/\c<256)(most:Nat)(hmost:most<1000000000000)(hpl:p<=8*l.length)(h:hp.rd b 0=some (Rb k l p s)):
 run cxX 161 [.ptr b 0 0,.sc (.int .i64 (most:Int))] hp=some (.sc (.int .i64 ((rU1 l most p s).1:Nat)),hp.put b 0 (Rb k l (rU1 l most p s).2.1 (rU1 l most p s).2.2)):=by
 have t:=qrm b k l hl h8 most hmost (8*l.length+2) 0 p s hp qe hpl qe qe h
 rw[E161]
 unfold rU1
 simp at t
 simp[t]
theorem qux(h8:∀c∈l,0<=c/\c<256)(s:Bool)(hp:Hp)(h:hp.rd b 0=some (Rb k l p s)):∀(m q:Nat),q+m=8*l.length->
 B179_8 (.ptr b 0 0) (.int .i64 (q:Int)) hp=some (.sc (.int .i64 (if(List.range m).any (fun i=>yn l (q+i))then 15 else 0)),hp):=by
 intro m
 have w1:IntKind.i64.wrap (8*(l.length:Int))=((8*l.length:Nat):Int):=qj
 have gc0:∀(x:AV) (l:List AV),qs (x::l) 0=some x:=fun _ _=>rfl
 have gs0:∀(v:Value),ql [.sc v] 0=some v:=fun _=>rfl
 induction m with
 |zero=>
  intro q hq
  have hlt:¬((q:Int)<((8*l.length:Nat):Int)):=qe
  rw[qea]
  generalize((8*l.length:Nat):Int)=z at*
  simp[h,gc0,w1,hlt]
 |succ m ih=>
  intro q hq
  have hlt:(q:Int)<((8*l.length:Nat):Int):=qe
  have q8:=qgd q qe
  obtain⟨z8,b8,b8'⟩:=bit8 l q h8 qe
  have r8:=qgb q
  have w4:IntKind.i64.wrap (7-((q%8:Nat):Int))=((7-q%8:Nat):Int):=qj
  have ge:(LI .u8 l)[q/8]?=some (.sc (.int .u8 (l.getD (q/8) 0))):=by
   unfold LI
   rw[zne,zmv,zm0 qe]
   rfl
  have g0:(0:Int)<=((q/8:Nat):Int):=qe
  have w2:IntKind.i64.wrap ((q:Int)+1)=((q+1:Nat):Int):=qj
  have hi:=ih (q+1) qe
  have e:(List.range (m+1)).any (fun i=>yn l (q+i))=(yn l q||(List.range m).any (fun i=>yn l (q+1+i))):=by
   rw[List.range_succ_eq_map,List.any_cons,List.any_map]
   congr 2
   funext i
   show yn l (q+(i+1))=_
   congr 1
   omega
  rw[e,qea]
  generalize hcc:l.getD (q/8) 0=c at*
  generalize hrr:((7-q%8:Nat):Int)=r at*
  generalize hq8:((q/8:Nat):Int)=q1 at*
  have ge':(LI .u8 l)[q1.toNat]?=some (.sc (.int .u8 c)):=by rw[<-hq8,zm3];exact ge
  generalize((q%8:Nat):Int)=q2 at*
  generalize((8*l.length:Nat):Int)=z at*
  generalize((q+1:Nat):Int)=q9 at*
  generalize(List.range m).any (fun i=>yn l (q+1+i))=A at*
  cases hbb:yn l q
  ·rw[hbb]at b8'
   have b9:∀t x y,qx Tryz.prog .and t x y (.int .u8 z8) (.int .u8 1)=some (.int .u8 0):=b8'
   simp[h,gc0,w1,hlt,q8,g0,ge',gs0,r8,w4,b8,b9,w2,hi,-zm]
  ·rw[hbb]at b8'
   have b9:∀t x y,qx Tryz.prog .and t x y (.int .u8 z8) (.int .u8 1)=some (.int .u8 1):=b8'
   simp[h,gc0,w1,hlt,q8,g0,ge',gs0,r8,w4,b8,b9,-zm]
theorem qy0(h8:∀c∈l,0<=c/\c<256)(hpl:p<=8*l.length)(h:hp.rd b 0=some (Rb k l p s)):
 run cxX 179 [.ptr b 0 0] hp=some (.sc (.int .i64 (qi3 l p s)),hp):=by
 have t:=qux b k l p hl h8 s hp h (8*l.length-p) p qe
 have w1:IntKind.i64.wrap (8*(l.length:Int))=((8*l.length:Nat):Int):=qj
 have w2:IntKind.i64.wrap (((8*l.length:Nat):Int)-(p:Int))=((8*l.length:Nat):Int)-(p:Int):=qj
 have gc0:∀(x:AV) (l:List AV),qs (x::l) 0=some x:=fun _ _=>rfl
 rw[E179]
 unfold qi3
 cases s
 ·by_cases h1:p+8<=8*l.length
  ·have hg:8<=((8*l.length:Nat):Int)-(p:Int):=qe
   generalize((8*l.length:Nat):Int)=z at*
   simp[h,ql,gc0,w1,w2,hg,h1]
  ·have hg:¬(8<=((8*l.length:Nat):Int)-(p:Int)):=qe
   generalize((8*l.length:Nat):Int)=z at*
   generalize(List.range (8*l.length-p)).any (fun i=>yn l (p+i))=A at*
   simp[h,ql,gc0,w1,w2,hg,h1,t]
 ·simp[h,ql]
end
theorem qL{l a r:List Int}{p:Nat}(h:l.drop p=a++r):l.drop (p+a.length)=r:=by
 rw[<-List.drop_drop,h,zp0]
theorem qW{l a r:List Int}{p:Nat}(hp:p<=l.length)(h:l.drop p=a++r):p+a.length<=l.length:=by
 have:=congrArg List.length h
 simp at this
 omega
theorem zg3{l r:List Int}{p m most:Nat}(h:l.drop p=uv m++r)(hm:m<=most)(hm2:m<18446744073709551616):rU l p 0 most=(m,p+(uv m).length,0):=by
 have g:=zlx 0 m r 0 0 0 rfl qe (by simpa using hm2) qe
 simp only[Nat.pow_zero,zom,zm4]at g
 unfold rU
 rw[h,g]
 have h1:¬(most<m):=qe
 simp[h1]
theorem zel{l r:List Int}{p:Nat}{c:Int}(h:l.drop p=c::r):rB l p 0=(c,p+1,0):=by
 obtain⟨e1,e2,hi,e3⟩:=qt h
 unfold rB rL
 have h1:¬(l.length-p=0):=qe
 have h2:l.getD p 0=c:=by rw[zmv,e1];rfl
 have h3:(if(0:Int)=0 then l.length-p else 0)=l.length-p:=if_pos rfl
 rw[h3,if_neg h1,h2]
section
variable (b k:Nat)(l:List Int)(hl:l.length<=1000000000)(h8:By l)
include hl h8
theorem zd{p m most:Nat}{r:List Int}(h:l.drop p=uv m++r)(hm:m<=most)(hm2:most<18446744073709551616)(hp:Hp)(hpl:p<=l.length)(hr:hp.rd b 0=some (Rc k l p 0)):
 run cxX 60 [.ptr b 0 0,.sc (.int .u64 (most:Int))] hp=some (.sc (.int .u64 (m:Int)),hp.put b 0 (Rc k l (p+(uv m).length) 0)):=by
 have a:=qb6 b k l most p 0 hm2 hl h8 hpl hp hr
 rw[zg3 h hm qe]at a
 exact a
omit h8 in
theorem zn{p:Nat}{c:Int}{r:List Int}(h:l.drop p=c::r)(hp:Hp)(hpl:p<=l.length)(hr:hp.rd b 0=some (Rc k l p 0)):
 run cxX 63 [.ptr b 0 0] hp=some (.sc (.int .u8 c),hp.put b 0 (Rc k l (p+1) 0)):=by
 have a:=Je b k l p 0 hp hl hpl hr
 rw[zel h]at a
 exact a
theorem VQ{p:Nat}{d:Int}{r:List Int}(h:l.drop p=uv (zz d)++r)(h1:-9223372036854775808<=d)(h2:d<9223372036854775808)(hp:Hp)(hpl:p<=l.length)(hr:hp.rd b 0=some (Rc k l p 0)):
 run cxX 116 [.ptr b 0 0] hp=some (.sc (.int .i64 d),hp.put b 0 (Rc k l (p+(uv (zz d)).length) 0)):=by
 have a:=qyd b k l p 0 hl h8 hpl hp hr
 have z:=qbt h1 h2
 rw[zg3 h qe z]at a
 simp only[zdh]at a
 exact a
theorem qrp(cb:Nat)(R C:Int)(hC:1<=C/\C<=256)(cs:List Int)(hcl:cs.length<=4096)(h32:kY cs)(b2:List AV)(hbc:cb≠b)(rest:List Int):∀(r:List Int) (i p:Nat) (last:Int) (hp:Hp),cs.drop i=r->i<=cs.length->(0<=last/\last<4294967296)->
 l.drop p=zU C r i last++rest->p<=l.length->hp.rd b 0=some (Rc k l p 0)->hp.rd cb 0=some (LI .u32 (cs.take i++List.replicate (cs.length-i) 0))->
 ∃hp',B66_7 (.ptr b 0 0) (.int .i64 last) (.int .i64 (cs.length:Int)) (.int .i64 (i:Int)) b2 [.sc (.int .i64 R),.sc (.int .i64 C),.ms cb 0 0 cs.length 1] hp=
  B66_19 b2 [.sc (.int .i64 R),.sc (.int .i64 C),.ms cb 0 0 cs.length 1] hp'/\hp'.rd b 0=some (Rc k l (p+(zU C r i last).length) 0)/\hp'.rd cb 0=some (LI .u32 cs)/\hp'.next=hp.next/\∀c,c≠b->c≠cb->hp'.get c=hp.get c:=by
 intro r
 induction r with
 |nil=>
  intro i p last hp h hil hla hd hpl hr hc
  have h1:=qK h
  have e:i=cs.length:=qe
  subst e
  refine⟨hp,?_,by simpa[zU]using hr,by simpa using hc,rfl,fun _ _ _=>rfl⟩
  have hlt:¬((cs.length:Int)<(cs.length:Int)):=qe
  rw[qlr]
  simp
 |cons x r ih=>
  intro i p last hp h hil hla hd hpl hr hc
  obtain⟨e1,e2,hi,e3⟩:=qt h
  have hx:=h32 x (zm6 e1)
  obtain⟨lst,hlst⟩:∃lst:Int,lst=if(i:Int)%max C 1=0 then 0 else last:=⟨_,rfl⟩
  have hb:0<=lst/\lst<4294967296:=by rw[hlst];split<;>omega
  have ep:zU C (x::r) i last=uv (zz (x-lst))++zU C r (i+1) x:=by rw[hlst];rfl
  rw[ep,znf]at hd
  have ti:=VQ b k l hl h8 hd qe qe hp hpl hr
  have hd2:=qL hd
  have hpl2:=qW hpl hd
  have hlt:(i:Int)<(cs.length:Int):=qe
  have vD:max C 1=C:=qe
  have rm:∀t x y,qx Tryz.prog .rem t x y (.int .i64 (i:Int)) (.int .i64 C)=some (.int .i64 ((i:Int)%max C 1)):=by
   intro t x y
   have:=zei C i t x y
   rw[vD]at this⊢
   exact this
  have w1:IntKind.i64.wrap (lst+(x-lst))=x:=qj
  have w2:IntKind.u32.wrap x=x:=qJ hx.1 hx.2
  have w3:IntKind.i64.wrap ((i:Int)+1)=((i+1:Nat):Int):=qj
  have ix:idx cs.length (.int .i64 (i:Int))=some i:=zp .i64 hi
  have hlen:(cs.take i++List.replicate (cs.length-i) 0).length=cs.length:=qi
  have pn:=xp .u32 (cs.take i++List.replicate (cs.length-i) 0) i x qe
  have es:(cs.take i++List.replicate (cs.length-i) 0).set i x=cs.take (i+1)++List.replicate (cs.length-(i+1)) 0:=by
   have a1:cs.take (i+1)=cs.take i++[x]:=by rw[zo2,e1];rfl
   have a2:cs.length-i=(cs.length-(i+1))+1:=qe
   have a3:(cs.take i).length=i:=qi
   rw[a1,a2,zo3,zp9 _ _ qe,a3,Nat.sub_self,znf]
   rfl
  rw[es]at pn
  have er:=qV b k l (p+(uv (zz (x-lst))).length) 0 (hp.put b 0 (Rc k l (p+(uv (zz (x-lst))).length) 0)) (qp _ _ _)
  have rc:(hp.put b 0 (Rc k l (p+(uv (zz (x-lst))).length) 0)).rd cb 0=some (LI .u32 (cs.take i++List.replicate (cs.length-i) 0)):=by rw[qB _ _ hbc];exact hc
  obtain⟨hp2,a1,a2,a3,a4,a5⟩:=ih (i+1) (p+(uv (zz (x-lst))).length) x ((hp.put b 0 (Rc k l (p+(uv (zz (x-lst))).length) 0)).put cb 0 (LI .u32 (cs.take (i+1)++List.replicate (cs.length-(i+1)) 0))) e2 hi hx hd2 hpl2
   (by rw[qB _ _ (fun q=>hbc q.symm),qp]) (qp _ _ _)
  refine⟨hp2,?_,by rw[ep,zmt,<-Nat.add_assoc];exact a2,a3,by rw[a4];rfl,fun c c1 c2=>by rw[a5 c c1 c2];simp[Hp.put,c1,c2]⟩
  have hms:∀a b c d e,zg (.ms a b c d e)=some (a,b,c,d,e):=fun _ _ _ _ _=>rfl
  have b11:B66_11 (.ptr b 0 0) (.int .i64 lst) (.int .i64 (i:Int)) (.int .i64 (cs.length:Int)) (.int .i64 (i:Int)) b2 [.sc (.int .i64 R),.sc (.int .i64 C),.ms cb 0 0 cs.length 1] hp=
   B66_19 b2 [.sc (.int .i64 R),.sc (.int .i64 C),.ms cb 0 0 cs.length 1] hp2:=by
   rw[<-a1,qvc]
   have c1:¬(x<0):=qe
   have c2:¬((4294967295:Int)<x):=qe
   have c3:¬(x-lst< -4294967296):=qe
   have c4:¬((4294967296:Int)<x-lst):=qe
   generalize cs.take (i+1)++List.replicate (cs.length-(i+1)) 0=L1 at*
   generalize cs.take i++List.replicate (cs.length-i) 0=L0 at*
   generalize hp.put b 0 (Rc k l (p+(uv (zz (x-lst))).length) 0)=hpA at*
   generalize((i+1:Nat):Int)=I at*
   clear hlst ep hd hd2 hpl2 a1
   generalize x-lst=D at*
   simp[ti,w1,c1,c2,c3,c4,qvb,qva,er,qs,qrb,w2,hms,ix,rc,pn,w3]
  rw[qlr]
  by_cases h0:(i:Int)%max C 1=0
  ·have el:lst=0:=by rw[hlst,if_pos h0]
   rw[el]at b11
   simp[hlt,ql,rm,h0,b11]
  ·have el:lst=last:=by rw[hlst,if_neg h0]
   rw[el]at b11
   simp[hlt,ql,rm,h0,b11]
end
def vB(k:Nat):Prop:=k<18446744073709551616/\kw (wk k)=k
theorem WK{w:Nat}(h:w<18446744073709551616):vB (kw w):=⟨Qg w h,qjs w h⟩
theorem JU(b key:Nat)(hk:vB key)(hp:Hp):run cxX 130 [.ptr b 0 0,.sc (.int .u64 (key:Int))] hp=some (fl (wk key),hp):=by
 have o:=qyh key hk.1 hp0
 have e:qz5 key=true:=decide_eq_true hk.2
 rw[e]at o
 obtain⟨F,hF⟩:∃F,fl (wk key)= .sc F:=⟨_,rfl⟩
 rw[hF]at o⊢
 rw[E130]
 simp[o,qw1]
section
variable (b k:Nat)(l:List Int)(hl:l.length<=1000000000)(h8:By l)
include hl h8
theorem qro(K M e0 e1 e2 e3 e4 e5:Int)(lo hi:AV)(b2:List AV)(n:Nat)(rest:List Int):∀(r:List Nat) (i p last:Nat) (acc:List Nat) (hp:Hp),i+r.length=n->n<=17->zO (last::r)->(∀x∈r,vB x)->acc.length<=i->
 l.drop p=jL last r++rest->p<=l.length->hp.rd b 0=some (Rc k l p 0)->
 B67_11 (.ptr b 0 0) (.int .u64 (last:Int)) (.int .i64 (n:Int)) (.int .i64 (i:Int)) b2 [.sc (.int .i64 K),.sc (.int .u32 M),.sc (.int .u32 e0),.sc (.int .u32 e1),.sc (.int .u32 e2),.sc (.int .u32 e3),.sc (.int .u32 e4),.sc (.int .u32 e5),lo,hi,S 2 1 (LF acc)] hp=
  B67_11 (.ptr b 0 0) (.int .u64 ((last::r).getLastD 0:Nat)) (.int .i64 (n:Int)) (.int .i64 (n:Int)) b2 [.sc (.int .i64 K),.sc (.int .u32 M),.sc (.int .u32 e0),.sc (.int .u32 e1),.sc (.int .u32 e2),.sc (.int .u32 e3),.sc (.int .u32 e4),.sc (.int .u32 e5),lo,hi,S 2 1 (LF (acc++r.map wk))] (hp.put b 0 (Rc k l (p+(jL last r).length) 0)):=by
 intro r
 induction r with
 |nil=>
  intro i p last acc hp hi hn hf hk ha hd hpl hr
  have e:i=n:=by simpa using hi
  subst e
  simp[jL,jk hr]
 |cons x r ih=>
  intro i p last acc hp hi hn hf hk ha hd hpl hr
  simp only[zmu]at hi
  have hx:=hk x qg
  have ep:jL last (x::r)=uv (x-last)++jL x r:=rfl
  rw[ep,znf]at hd
  have hle:last<=x:=hf.1
  have tu:=zd b k l hl h8 (most:=18446744073709551615) hd (by have:=hx.1;omega) qe hp hpl hr
  have hd2:=qL hd
  have hpl2:=qW hpl hd
  have fl1:=fun hp=>JU b x hx hp
  have w1:IntKind.u64.wrap ((last:Int)+((x-last:Nat):Int))=(x:Int):=by have:=hx.1;rw[qu]<;>omega
  have w2:IntKind.i64.wrap ((i:Int)+1)=((i+1:Nat):Int):=qj
  have hlt:(i:Int)<(n:Int):=qe
  have hxl:¬((x:Int)<(last:Int)):=qe
  have hi2:=ih (i+1) (p+(uv (x-last)).length) x (acc++[wk x]) (hp.put b 0 (Rc k l (p+(uv (x-last)).length) 0)) qe hn hf.2 (fun y hy=>hk y (by simp[hy])) qi hd2 hpl2 (qp _ _ _)
  rw[qC]at hi2
  have eg:(last::x::r).getLastD 0=(x::r).getLastD 0:=rfl
  have em:acc++(x::r).map wk=acc++[wk x]++r.map wk:=qg
  rw[eg,em,ep,zmt,<-Nat.add_assoc,<-hi2,qdv]
  have ap:=appF acc (wk x) qe
  have lit:((18446744073709551615:Nat):Int)=18446744073709551615:=rfl
  rw[lit]at tu
  generalize hp.put b 0 (Rc k l (p+(uv (x-last)).length) 0)=hpA at*
  generalize((x-last:Nat):Int)=D at*
  generalize((i+1:Nat):Int)=I at*
  generalize LF (acc++[wk x])=L1 at*
  generalize LF acc=L0 at*
  simp[hlt,tu,w1,hxl,qu8,qs,fl1,yF,ap,qo,w2]
theorem qx8(K:Int)(hK:0<=K/\K<256)(g:GN)(gp:g.Pos)(hlo:vB g.lo)(hhi:vB g.hi)(hL:∀x∈g.L,vB x)(hf:zO g.L)(hn:g.L.length<=16)(p:Nat)(rest:List Int)(hd:l.drop p=yy K g++rest)(hp:Hp)(hpl:p<=l.length)(hr:hp.rd b 0=some (Rc k l p 0)):
 run cxX 67 [.ptr b 0 0] hp=some (.agg [.sc (.int .i64 K),.sc (.int .u32 g.M),.sc (.int .u32 g.e0),.sc (.int .u32 g.e1),.sc (.int .u32 g.e2),.sc (.int .u32 g.e3),.sc (.int .u32 g.e4),.sc (.int .u32 g.e5),fl (wk g.lo),fl (wk g.hi),S 2 1 (LF (g.L.map wk))],hp.put b 0 (Rc k l (p+(yy K g).length) 0)):=by
 obtain⟨pM,p0,p1,p2,p3,p4,p5⟩:=gp
 have lit:((4294967295:Nat):Int)=4294967295:=rfl
 have lit2:((18446744073709551615:Nat):Int)=18446744073709551615:=rfl
 have c32:∀n:Int,zw n->IntKind.u32.wrap ((n.toNat:Nat):Int)=n/\n.toNat<=4294967295:=fun n hn=>by
  have:=hn.2;have:=hn.1
  exact⟨by rw[qJ]<;>omega,qe⟩
 have eq:yy K g++rest=K::(uv g.M.toNat++(uv g.e0.toNat++(uv g.e1.toNat++(uv g.e2.toNat++(uv g.e3.toNat++(uv g.e4.toNat++(uv g.e5.toNat++(uv g.lo++(uv g.hi++((g.L.length:Int)::(jL 0 g.L++rest))))))))))):=by
  unfold yy;simp
 rw[eq]at hd
 have t0:=zn b k l hl hd hp hpl hr
 obtain⟨_,d0,hi0,_⟩:=qt hd
 have h1:=zd b k l hl h8 (most:=4294967295) d0 (c32 _ pM).2 qe (hp.put b 0 (Rc k l (p+1) 0)) qe (qp _ _ _)
 rw[qC,lit]at h1
 have d1:=qL d0
 have q1:=qW qe d0
 generalize e1:p+1+(uv g.M.toNat).length=P1 at*
 have h2:=zd b k l hl h8 (most:=4294967295) d1 (c32 _ p0).2 qe (hp.put b 0 (Rc k l P1 0)) q1 (qp _ _ _)
 rw[qC,lit]at h2
 have d2:=qL d1
 have q2:=qW q1 d1
 generalize e2:P1+(uv g.e0.toNat).length=P2 at*
 have h3:=zd b k l hl h8 (most:=4294967295) d2 (c32 _ p1).2 qe (hp.put b 0 (Rc k l P2 0)) q2 (qp _ _ _)
 rw[qC,lit]at h3
 have d3:=qL d2
 have q3:=qW q2 d2
 generalize e3:P2+(uv g.e1.toNat).length=P3 at*
 have h4:=zd b k l hl h8 (most:=4294967295) d3 (c32 _ p2).2 qe (hp.put b 0 (Rc k l P3 0)) q3 (qp _ _ _)
 rw[qC,lit]at h4
 have d4:=qL d3
 have q4:=qW q3 d3
 generalize e4:P3+(uv g.e2.toNat).length=P4 at*
 have h5:=zd b k l hl h8 (most:=4294967295) d4 (c32 _ p3).2 qe (hp.put b 0 (Rc k l P4 0)) q4 (qp _ _ _)
 rw[qC,lit]at h5
 have d5:=qL d4
 have q5:=qW q4 d4
 generalize e5:P4+(uv g.e3.toNat).length=P5 at*
 have h6:=zd b k l hl h8 (most:=4294967295) d5 (c32 _ p4).2 qe (hp.put b 0 (Rc k l P5 0)) q5 (qp _ _ _)
 rw[qC,lit]at h6
 have d6:=qL d5
 have q6:=qW q5 d5
 generalize e6:P5+(uv g.e4.toNat).length=P6 at*
 have h7:=zd b k l hl h8 (most:=4294967295) d6 (c32 _ p5).2 qe (hp.put b 0 (Rc k l P6 0)) q6 (qp _ _ _)
 rw[qC,lit]at h7
 have d7:=qL d6
 have q7:=qW q6 d6
 generalize e7:P6+(uv g.e5.toNat).length=P7 at*
 have h8':=zd b k l hl h8 (most:=18446744073709551615) d7 (by have:=hlo.1;omega) qe (hp.put b 0 (Rc k l P7 0)) q7 (qp _ _ _)
 rw[qC,lit2]at h8'
 have d8:=qL d7
 have q8:=qW q7 d7
 generalize e8:P7+(uv g.lo).length=P8 at*
 have h9:=zd b k l hl h8 (most:=18446744073709551615) d8 (by have:=hhi.1;omega) qe (hp.put b 0 (Rc k l P8 0)) q8 (qp _ _ _)
 rw[qC,lit2]at h9
 have d9:=qL d8
 have q9:=qW q8 d8
 generalize e9:P8+(uv g.hi).length=P9 at*
 have h10:=zn b k l hl d9 (hp.put b 0 (Rc k l P9 0)) q9 (qp _ _ _)
 rw[qC]at h10
 obtain⟨_,d10,hi10,_⟩:=qt d9
 have f1:=fun hp=>JU b g.lo hlo hp
 have f2:=fun hp=>JU b g.hi hhi hp
 have lp:=fun b2=>qro b k l hl h8 K g.M g.e0 g.e1 g.e2 g.e3 g.e4 g.e5 (fl (wk g.lo)) (fl (wk g.hi)) b2 g.L.length rest g.L 0 (P9+1) 0 [] (hp.put b 0 (Rc k l (P9+1) 0)) qe qe (jE hf) hL qg d10 qe (qp _ _ _)
 have eP:p+(yy K g).length=P9+1+(jL 0 g.L).length:=by
  unfold yy
  simp only[zmt,zm5]
  omega
 rw[eP]
 simp only[qC,znn]at lp
 have wK:IntKind.i64.wrap K=K:=qm qe qe
 have wL:IntKind.i64.wrap (g.L.length:Int)=(g.L.length:Int):=qm qe qe
 have mL:min (g.L.length:Int) 17=(g.L.length:Int):=qe
 have x1:=(c32 _ pM).1
 have x2:=(c32 _ p0).1
 have x3:=(c32 _ p1).1
 have x4:=(c32 _ p2).1
 have x5:=(c32 _ p3).1
 have x6:=(c32 _ p4).1
 have x7:=(c32 _ p5).1
 have i0:idx 6 (.int .i64 0)=some 0:=qf
 have i1:idx 6 (.int .i64 1)=some 1:=qf
 have i2:idx 6 (.int .i64 2)=some 2:=qf
 have i3:idx 6 (.int .i64 3)=some 3:=qf
 have i4:idx 6 (.int .i64 4)=some 4:=qf
 have i5:idx 6 (.int .i64 5)=some 5:=qf
 clear lit lit2 c32 eq hd d0 d1 d2 d3 d4 d5 d6 d7 d8 d9 d10
 have nlt:¬((g.L.length:Int)<(g.L.length:Int)):=qe
 have fin:=fun b2 (hb2:b2=[.sc (.int .i64 0),.sc (.int .u32 0),.sc (.int .u32 0),.sc (.int .u32 0),.sc (.int .u32 0),.sc (.int .u32 0),.sc (.int .u32 0),.sc (.int .u32 0),.sc (.float .f64 0),.sc (.float .f64 0),S 2 1 []])=>(lp b2).trans (show _=some (AV.agg [.sc (.int .i64 K),.sc (.int .u32 g.M),.sc (.int .u32 g.e0),.sc (.int .u32 g.e1),.sc (.int .u32 g.e2),.sc (.int .u32 g.e3),.sc (.int .u32 g.e4),.sc (.int .u32 g.e5),fl (wk g.lo),fl (wk g.hi),S 2 1 (LF (g.L.map wk))],hp.put b 0 (Rc k l (P9+1+(jL 0 g.L).length) 0))from by
  subst hb2
  rw[qdv]
  simp[qr,qo])
 generalize hp.put b 0 (Rc k l (P9+1+(jL 0 g.L).length) 0)=HZ at*
 generalize hp.put b 0 (Rc k l (P9+1) 0)=H10 at*
 generalize hp.put b 0 (Rc k l P9 0)=H9 at*
 generalize hp.put b 0 (Rc k l P8 0)=H8 at*
 generalize hp.put b 0 (Rc k l P7 0)=H7 at*
 generalize hp.put b 0 (Rc k l P6 0)=H6 at*
 generalize hp.put b 0 (Rc k l P5 0)=H5 at*
 generalize hp.put b 0 (Rc k l P4 0)=H4 at*
 generalize hp.put b 0 (Rc k l P3 0)=H3 at*
 generalize hp.put b 0 (Rc k l P2 0)=H2 at*
 generalize hp.put b 0 (Rc k l P1 0)=H1 at*
 generalize hp.put b 0 (Rc k l (p+1) 0)=H0 at*
 have fin:=fin _ rfl
 generalize((g.M.toNat:Nat):Int)=m0 at*
 generalize((g.e0.toNat:Nat):Int)=m1 at*
 generalize((g.e1.toNat:Nat):Int)=m2 at*
 generalize((g.e2.toNat:Nat):Int)=m3 at*
 generalize((g.e3.toNat:Nat):Int)=m4 at*
 generalize((g.e4.toNat:Nat):Int)=m5 at*
 generalize((g.e5.toNat:Nat):Int)=m6 at*
 rw[E67]
 simp[t0,jT,wK,h1,jG,x1]
 rw[vU]
 simp[h2,jG,x2,i0,qo]
 rw[vU]
 simp[h3,jG,x3,i1,qo]
 rw[vU]
 simp[h4,jG,x4,i2,qo]
 rw[vU]
 simp[h5,jG,x5,i3,qo]
 rw[vU]
 simp[h6,jG,x6,i4,qo]
 rw[vU]
 simp[h7,jG,x7,i5,qo]
 rw[vU]
 simp at fin
 simp[h8',f1,qo,h9,f2,h10,jT,wL,mL]
 exact fin
end
section
variable (b k:Nat)(l:List Int)(hl:l.length<=1000000000)(h8:By l)
include hl h8
theorem qx9(R C:Int)(hR:1<=R/\R<=8)(hC:1<=C/\C<=256)(cs:List Int)(hcs:(cs.length:Int)=R*C)(h32:kY cs)(p:Nat)(rest:List Int)(hd:l.drop p=[R]++uv C.toNat++zU C cs 0 0++rest)(hp:Hp)(hpl:p<=l.length)(hb:b<hp.next)(hr:hp.rd b 0=some (Rc k l p 0)):
 ∃hp',run cxX 66 [.ptr b 0 0] hp=some (.agg [.sc (.int .i64 R),.sc (.int .i64 C),S 0 1 (LI .u32 cs)],hp')/\hp'.rd b 0=some (Rc k l (p+([R]++uv C.toNat++zU C cs 0 0).length) 0)/\Fm [b] hp hp':=by
 have m:=qkj hR hC
 have eq:[R]++uv C.toNat++zU C cs 0 0++rest=R::(uv C.toNat++(zU C cs 0 0++rest)):=qg
 have el:p+([R]++uv C.toNat++zU C cs 0 0).length=p+1+(uv C.toNat).length+(zU C cs 0 0).length:=by simp only[zmt,zm5];omega
 rw[eq]at hd
 rw[el]
 have t0:=zn b k l hl hd hp hpl hr
 obtain⟨_,d0,hi0,_⟩:=qt hd
 have t1:=zd b k l hl h8 (most:=256) d0 qe qe (hp.put b 0 (Rc k l (p+1) 0)) qe (qp _ _ _)
 rw[qC]at t1
 have d1:=qL d0
 have q1:=qW qe d0
 have cn:=qip R C hR hC (hp.put b 0 (Rc k l (p+1+(uv C.toNat).length) 0))
 have hne:hp.next≠b:=qe
 have ecs:(R*C).toNat=cs.length:=qe
 rw[ecs]at cn
 obtain⟨hp2,a1,a2,a3,a4,a5⟩:=qrp b k l hl h8 hp.next R C hC cs qe h32 [.sc (.int .i64 0),.sc (.int .i64 0),S 2 1 []] hne rest cs 0 (p+1+(uv C.toNat).length) 0 ((hp.put b 0 (Rc k l (p+1+(uv C.toNat).length) 0)).new (LI .u32 (List.replicate cs.length 0))) rfl qe qe d1 q1
  (by rw[zF _ _ qi,qp]) (by rw[List.take_zero,znn,zri];exact qR (hp.put b 0 _) _)
 have fz:=QT .u32 cs hp2 hp.next a3
 refine⟨hp2.del hp.next,?_,?_,by rw[show(hp2.del hp.next).next=hp2.next from rfl,a4];simp,fun c hc hcb=>?_⟩
 ·have w1:IntKind.i64.wrap R=R:=qm qe qe
  have w2:IntKind.i64.wrap ((C.toNat:Nat):Int)=C:=qj
  have lit:((256:Nat):Int)=256:=rfl
  rw[lit]at t1
  have b19:B66_19 [.sc (.int .i64 0),.sc (.int .i64 0),S 2 1 []] [.sc (.int .i64 R),.sc (.int .i64 C),.ms hp.next 0 0 cs.length 1] hp2=some (.agg [.sc (.int .i64 R),.sc (.int .i64 C),S 0 1 (LI .u32 cs)],hp2.del hp.next):=by
   rw[qu9]
   simp[qr,qo,fz]
  rw[<-a1]at b19
  have hln:∀a b c d e,xK (.ms a b c d e)=some d:=fun _ _ _ _ _=>rfl
  rw[E66]
  generalize((C.toNat:Nat):Int)=Cc' at*
  generalize List.replicate cs.length 0=Z at*
  simp only[qjk]at cn
  simp only[Int.natCast_zero]at b19
  generalize hp.put b 0 (Rc k l (p+1+(uv C.toNat).length) 0)=H1 at*
  generalize hp.put b 0 (Rc k l (p+1) 0)=H0 at*
  try simp at b19
  simp[t0,jT,w1,t1,xw,w2,cn,qo,qs,hln,b19]
 ·have:b≠hp.next:=fun q=>hne q.symm
  have e:(hp2.del hp.next).get b=hp2.get b:=by simp[Hp.del,this]
  rw[xo e];exact a2
 ·have h1:c≠hp.next:=qe
  have h2:c≠b:=by simpa using hcb
  have e:(hp2.del hp.next).get c=hp2.get c:=by simp[Hp.del,h1]
  rw[e,a5 c h2 h1]
  simp[Hp.new,Hp.put,h1,h2]
end
def At(l:List Int)(p:Nat)(bs:List Bool):Prop:=p+bs.length<=8*l.length/\∀i,i<bs.length->yn l (p+i)=bs.getD i false
theorem At.pk(bs:List Bool):At (pk bs) 0 bs:=⟨by rw[zZ];omega,fun i hi=>by rw[zm4];exact qks bs i hi⟩
theorem At.app{l:List Int}{p:Nat}{a c:List Bool}(h:At l p (a++c)):At l p a/\At l (p+a.length) c:=by
 obtain⟨h1,h2⟩:=h
 simp only[zmt]at h1 h2
 refine⟨⟨qe,fun i hi=>?_⟩,⟨qe,fun i hi=>?_⟩⟩
 ·rw[h2 i qe,zmv,zmv,znm hi]
 ·rw[zoj,h2 (a.length+i) qe,zmv,zmv,zni qe]
  congr 2
  omega
theorem At.cons{l:List Int}{p:Nat}{a:Bool}{c:List Bool}(h:At l p (a::c)):rb l p false=(a,p+1,false)/\At l (p+1) c:=by
 have h':At l p ([a]++c):=h
 have g:=h'.app
 refine⟨?_,by simpa using g.2⟩
 have h1:=h.1
 simp only[zmu]at h1
 have h2:=h.2 0 qg
 unfold rb
 rw[if_neg qi]
 simp at h2
 rw[h2]
theorem zg1(l:List Int)(n:Nat):∀(k acc p:Nat),At l p (xW n k)->rt l k acc p false=(acc*2^k+n%2^k,p+k,false):=by
 intro k
 induction k with
 |zero=>intro acc p h;show(if false then 0 else acc,p,false)=_;simp[Nat.mod_one]
 |succ k ih=>
  intro acc p h
  have c:=At.cons (show At l p (n.testBit k::xW n k)from h)
  have i:=ih (2*acc+(n.testBit k).toNat) (p+1) c.2
  show rt l k (2*acc+(rb l p false).1.toNat) (rb l p false).2.1 (rb l p false).2.2=_
  rw[c.1]
  show rt l k (2*acc+(n.testBit k).toNat) (p+1) false=_
  rw[i]
  have e1:=Nat.mod_mul (x:=n) (a:=2^k) (b:=2)
  have e2:(n.testBit k).toNat=n/2^k%2:=by
   rw[zox]
   have:n/2^k%2=0\/n/2^k%2=1:=qe
   rcases this with e|e<;>rw[e]<;>rfl
  refine Prod.ext ?_ (Prod.ext (by show p+1+k=p+(k+1);omega) rfl)
  show(2*acc+(n.testBit k).toNat)*2^k+n%2^k=acc*2^(k+1)+n%2^(k+1)
  rw[zoo,e1,e2,zpi,znz 2 acc,zos acc,znz 2 (2^k),znz (n/2^k%2) (2^k)]
  omega
theorem zld(l:List Int)(most:Nat):∀(q f n p:Nat),At l p (una q)->n+q<=most->q+1<=f->ru l most f n p false=(n+q,p+q+1,false):=by
 intro q
 induction q with
 |zero=>
  intro f n p h hm hf
  obtain⟨f,rfl⟩:∃f',f=f'+1:=⟨f-1,qe⟩
  have c:=At.cons (show At l p (false::[])from h)
  unfold ru
  rw[c.1]
  rfl
 |succ q ih=>
  intro f n p h hm hf
  obtain⟨f,rfl⟩:∃f',f=f'+1:=⟨f-1,qe⟩
  have c:=At.cons (show At l p (true::una q)from h)
  have i:=ih f (n+1) (p+1) c.2 qe qe
  unfold ru
  rw[c.1]
  have e:(false||decide (most<n+1))=false:=qi
  show(if true=true then ru l most f (n+1) (p+1) (false||decide (most<n+1))else _)=_
  rw[if_pos rfl,e,i]
  refine Prod.ext (by show n+1+q=n+(q+1);omega) (Prod.ext (by show p+1+q+1=p+(q+1)+1;omega) rfl)
theorem qy6{l:List Int}{most q p:Nat}(h:At l p (una q))(hm:q<=most):rU1 l most p false=(q,p+q+1,false):=by
 have h1:=h.1
 rw[Yw]at h1
 have:=zld l most q (8*l.length+2) 0 p h qe qe
 rw[zm4]at this
 exact this
theorem zgp(bs:List Bool):qi3 (pk bs) bs.length false=0:=by
 have hz:∀i,yn (pk bs) (bs.length+i)=false:=fun i=>Xt bs _ qe
 have hany:(List.range (8*(pk bs).length-bs.length)).any (fun i=>yn (pk bs) (bs.length+i))=false:=by
  rw[List.any_eq_false]
  intro i _
  rw[hz i];decide
 unfold qi3
 rw[hany,zZ,if_neg qh,if_neg qe,if_neg qh]
abbrev Cu(br kk zT i last:Nat):List AV:=[.ptr br 0 0,.sc (.int .i64 (kk:Int)),.sc (.int .i64 (zT:Int)),.sc (.int .i64 (i:Int)),.sc (.int .u64 (last:Int)),.sc (.bool false)]
theorem qck(c br kk zT i last:Nat)(hi:i<=zT)(hm:zT<=100000)(hp:Hp)(h:hp.rd c 0=some (Cu br kk zT i last)):run cxX 160 [.ptr c 0 0] hp=some (.sc (.int .i64 ((zT-i:Nat):Int)),hp):=by
 have gs5:∀(x0 x1 x2 x3 x4:AV) (v:Value),ql [x0,x1,x2,x3,x4,.sc v] 5=some v:=fun _ _ _ _ _ _=>rfl
 have gs2:∀(x0 x1:AV) (v:Value) (r:List AV),ql (x0::x1::.sc v::r) 2=some v:=fun _ _ _ _=>rfl
 have gs3:∀(x0 x1 x2:AV) (v:Value) (r:List AV),ql (x0::x1::x2::.sc v::r) 3=some v:=fun _ _ _ _ _=>rfl
 have w1:IntKind.i64.wrap ((zT:Int)-(i:Int))=((zT-i:Nat):Int):=qj
 simp only[Cu]at h
 rw[E160]
 generalize((zT-i:Nat):Int)=D at*
 simp[h,gs5,qwh,gs2,gs3,w1]
theorem qhw(x k:Nat)(hk:k<=64)(h:x*2^k<18446744073709551616)(t:TypeId)(o o':Operand):qx Tryz.prog .shl t o o' (.int .u64 (x:Int)) (.int .i64 (k:Int))=some (.int .u64 ((x*2^k:Nat):Int)):=by
 rw[zW _ _ _ _ _ _ _ _ qe,zm3,zpo (show k<=IntKind.u64.bits from hk)]
 have e:(x:Int)*(2:Int)^k=((x*2^k:Nat):Int):=qg
 rw[e]
 generalize x*2^k=z at*
 rw[qu qe qe]
theorem qzk(q k g:Nat)(hq:q=g/2^k)(hg:g<18446744073709551616)(t:TypeId)(o o':Operand):qx Tryz.prog .or t o o' (.int .u64 ((q*2^k:Nat):Int)) (.int .u64 ((g%2^k:Nat):Int))=some (.int .u64 (g:Int)):=by
 have h1:q*2^k<=g:=by rw[hq];exact zn9 _ _
 have h2:g%2^k<=g:=Nat.mod_le _ _
 rw[ze0 _ _ qe qe]
 have e:=zpe (i:=k) (b:=g%2^k) (zpt _ (zo4 _)) q
 rw[znz (2^k) q]at e
 rw[<-e,hq,Nat.div_add_mod']
section
variable (c br kk zT:Nat)(t:Nat)(bl:List Int)(hkk:kk<=63)(hm:zT<=100000)(hbl:bl.length<=100000000)(h8:By bl)(hne:c≠br)
include hkk hm hbl h8 hne
theorem qcj(i last g x q:Nat)(hi:i<zT)(hg:g<18446744073709551616)(hg2:g/2^kk<=4096)(hx:x<18446744073709551616)(hxg:x=if i=0 then g else last+1+g)(hp:Hp)(h:hp.rd c 0=some (Cu br kk zT i last))(hr:hp.rd br 0=some (Rb t bl q false))(hat:At bl q (una (g/2^kk)++xW g kk)):
 run cxX 102 [.ptr c 0 0] hp=some (.tup [.sc (.int .u64 (x:Int)),.sc (.bool true)],(hp.put br 0 (Rb t bl (q+(una (g/2^kk)++xW g kk).length) false)).put c 0 (Cu br kk zT (i+1) x)):=by
 have lf:=qck c br kk zT i last qe hm hp h
 have hmul:g/2^kk*2^kk<=g:=zn9 _ _
 have os:=qzk (g/2^kk) kk g rfl hg
 obtain⟨a1,a2⟩:=hat.app
 have hle:=hat.1
 rw[zmt,Yw,qgr]at hle⊢
 generalize g/2^kk=G at*
 have un:=Wk br t bl q false hp hbl h8 4096 qe qe hr
 rw[qy6 a1 hg2]at un
 rw[Yw]at a2
 have tk:=qcm br t bl (q+(G+1)) false (hp.put br 0 (Rb t bl (q+(G+1)) false)) hbl h8 kk qe qe (qp _ _ _)
 rw[zg1 bl g kk 0 _ a2,zpu,zm4,qC]at tk
 simp only at un tk
 have sh:=vm br t bl (q+(G+1)+kk) false (hp.put br 0 (Rb t bl (q+(G+1)+kk) false)) (qp _ _ _)
 have e1:q+G+1=q+(G+1):=qe
 have e2:q+(G+1+kk)=q+(G+1)+kk:=qe
 rw[e1]at un
 rw[e2]
 have sl:=fun t o o'=>qhw G kk qe (zog hmul hg) t o o'
 have sr:=fun t o o'=>yY .u64 (G*2^kk) kk (by show kk<=64;omega) t o o' .i64
 have ed:G*2^kk/2^kk=G:=zrc _ (zo4 _)
 rw[ed]at sr
 have rA:∀p,(hp.put br 0 (Rb t bl p false)).rd c 0=some (Cu br kk zT i last):=fun p=>by rw[qB _ _ hne];exact h
 have r2:=rA (q+(G+1))
 have r3:=rA (q+(G+1)+kk)
 have gs1:∀(x0:AV) (v:Value) (r:List AV),ql (x0::.sc v::r) 1=some v:=fun _ _ _=>rfl
 have gs3:∀(x0 x1 x2:AV) (v:Value) (r:List AV),ql (x0::x1::x2::.sc v::r) 3=some v:=fun _ _ _ _ _=>rfl
 have gs4:∀(x0 x1 x2 x3:AV) (v:Value) (r:List AV),ql (x0::x1::x2::x3::.sc v::r) 4=some v:=fun _ _ _ _ _ _=>rfl
 have gc0:∀(x:AV) (l:List AV),qs (x::l) 0=some x:=fun _ _=>rfl
 have p3:∀(x0 x1 x2 x3 x4 x5 z:AV),qo [x0,x1,x2,x3,x4,x5] 3 [z]=some [x0,x1,x2,z,x4,x5]:=fun _ _ _ _ _ _ _=>rfl
 have p4:∀(x0 x1 x2 x3 x4 x5 z:AV),qo [x0,x1,x2,x3,x4,x5] 4 [z]=some [x0,x1,x2,x3,z,x5]:=fun _ _ _ _ _ _ _=>rfl
 have wq:IntKind.u64.wrap ((G:Nat):Int)=((G:Nat):Int):=(fun(z:Nat) (hz:z<=4096)=>qu (z:=(z:Int)) qe qe) _ hg2
 have wi:IntKind.i64.wrap ((i:Int)+1)=((i+1:Nat):Int):=qj
 have lit:((4096:Nat):Int)=4096:=rfl
 rw[lit]at un
 have hz:¬(zT-i=0):=qe
 generalize hp.put br 0 (Rb t bl (q+(G+1)+kk) false)=H2 at*
 generalize hp.put br 0 (Rb t bl (q+(G+1)) false)=H1 at*
 generalize((G*2^kk:Nat):Int)=qk at*
 generalize((G:Nat):Int)=qq at*
 generalize((g%2^kk:Nat):Int)=gl at*
 simp only[Cu]at h r2 r3⊢
 have b12:B102_12 (.ptr c 0 0) (.int .u64 (x:Int)) H2=some (.tup [.sc (.int .u64 (x:Int)),.sc (.bool true)],H2.put c 0 [.ptr br 0 0,.sc (.int .i64 (kk:Int)),.sc (.int .i64 (zT:Int)),.sc (.int .i64 ((i+1:Nat):Int)),.sc (.int .u64 (x:Int)),.sc (.bool false)]):=by
  rw[qpp]
  generalize((i+1:Nat):Int)=I at*
  simp[r3,gs3,wi,p3,qp,p4,qC]
 generalize((i+1:Nat):Int)=I at*
 rw[E102]
 by_cases h0:i=0
 ·rw[if_pos h0]at hxg
  have hi0:((0:Int)<(i:Int))=False:=by simp[h0]
  have hi0':(0<i)=False:=by simp[h0]
  have b9:B102_9 (.ptr c 0 0) (.int .u64 qq) (.int .u64 (x:Int)) H2=some (.tup [.sc (.int .u64 (x:Int)),.sc (.bool true)],H2.put c 0 [.ptr br 0 0,.sc (.int .i64 (kk:Int)),.sc (.int .i64 (zT:Int)),.sc (.int .i64 I),.sc (.int .u64 (x:Int)),.sc (.bool false)]):=by
   rw[qfl]
   simp[r3,gc0,sh,gs1,sl,sr,gs3,hi0',b12]
  rw[hxg]at b9
  rw[hxg]
  simp[lf,hz,h,gc0,un,ym,wq,r2,gs1,tk,r3,sl,os,gs3,hi0',b9]
 ·rw[if_neg h0]at hxg
  have hi0':0<i:=qe
  have wa:IntKind.u64.wrap ((last:Int)+1)=((last+1:Nat):Int):=by rw[qu]<;>omega
  have wb:IntKind.u64.wrap (((last+1:Nat):Int)+(g:Int))=(x:Int):=by rw[qu]<;>omega
  have hxl:¬(x<=last):=qe
  have b9:B102_9 (.ptr c 0 0) (.int .u64 qq) (.int .u64 (x:Int)) H2=some (.tup [.sc (.int .u64 (x:Int)),.sc (.bool true)],H2.put c 0 [.ptr br 0 0,.sc (.int .i64 (kk:Int)),.sc (.int .i64 (zT:Int)),.sc (.int .i64 I),.sc (.int .u64 (x:Int)),.sc (.bool false)]):=by
   rw[qfl]
   simp[r3,gc0,sh,gs1,sl,sr,gs3,hi0',gs4,hxl,b12]
  generalize((last+1:Nat):Int)=L1 at*
  simp[lf,hz,h,gc0,un,ym,wq,r2,gs1,tk,r3,sl,os,gs3,hi0',gs4,wa,wb,b9]
end
section
variable (b c br kk t:Nat)(bl:List Int)(hs:List Nat)(hkk:kk<=63)(hm:hs.length<=4096)(hbl:bl.length<=100000000)(h8:By bl)(hne:c≠br)(h64:∀x∈hs,x<18446744073709551616)(hr:qM hs)(hq:∀g∈qw hs,g/2^kk<=4096)
include hkk hm hbl h8 hne h64 hr hq
theorem qna:∀(r:List Nat) (i q:Nat) (hp:Hp),hs.drop i=r->i+r.length=hs.length->hp.rd c 0=some (Cu br kk hs.length i (if i=0 then 0 else hs.getD (i-1) 0))->hp.rd br 0=some (Rb t bl q false)->At bl q (jb kk ((qw hs).drop i))->
 ∃hp' L,B61_3 (.ptr b 0 0) (.ptr c 0 0) (S 2 1 (LI .u64 (nz (hs.take i)))) hp=B61_3 (.ptr b 0 0) (.ptr c 0 0) (S 2 1 (LI .u64 (nz hs))) hp'/\hp'.rd c 0=some (Cu br kk hs.length hs.length L)/\hp'.rd br 0=some (Rb t bl (q+(jb kk ((qw hs).drop i)).length) false)/\
  hp'.next=hp.next/\∀a,a≠c->a≠br->hp'.get a=hp.get a:=by
 intro r
 induction r with
 |nil=>
  intro i q hp h hil hc hb hat
  have e:i=hs.length:=by simpa using hil
  subst e
  have eg:(qw hs).drop hs.length=[]:=zn1 qg
  rw[eg,zo6]
  exact⟨hp,_,rfl,hc,by simpa[jb]using hb,rfl,fun _ _ _=>rfl⟩
 |cons x r ih=>
  intro i q hp h hil hc hb hat
  obtain⟨e1,e2,hi,e3⟩:=qt h
  simp only[zmu]at hil
  have hig:i<(qw hs).length:=qi
  have gg:=Xg hs i hi
  have ex:hs.getD i 0=x:=by rw[zmv,e1];rfl
  have hx:x<18446744073709551616:=h64 x (by rw[<-e3];exact znb _)
  obtain⟨g,hgd⟩:∃g,(qw hs)[i]?=some g:=⟨_,gg⟩
  have hge:(qw hs)[i]=g:=(zm2.mp hgd).2
  have hgm:g∈qw hs:=by rw[<-hge];exact znb _
  have hg64:=xu h64 g hgm
  have hgq:=hq g hgm
  have hdr:(qw hs).drop i=g::(qw hs).drop (i+1):=by rw[znp hig,hge]
  have hxg:x=if i=0 then g else(if i=0 then 0 else hs.getD (i-1) 0)+1+g:=by
   rw[gg]at hgd
   have hgd:=znk hgd
   by_cases h0:i=0
   ·subst h0
    rw[if_pos rfl]at hgd⊢
    rw[<-hgd,ex]
   ·rw[if_neg h0]at hgd⊢
    have hlt:=vp hs hr (i-1) qe
    have e:i-1+1=i:=qe
    rw[e]at hlt
    rw[if_neg h0]
    omega
  rw[hdr]at hat⊢
  have eb:jb kk (g::(qw hs).drop (i+1))=una (g/2^kk)++xW g kk++jb kk ((qw hs).drop (i+1)):=rfl
  rw[eb]at hat⊢
  obtain⟨at1,at2⟩:=hat.app
  have nx:=qcj c br kk hs.length t bl hkk qe hbl h8 hne i _ g x q hi hg64 hgq hx hxg hp hc hb at1
  have el:(una (g/2^kk)++xW g kk++jb kk ((qw hs).drop (i+1))).length=(una (g/2^kk)++xW g kk).length+(jb kk ((qw hs).drop (i+1))).length:=zmt
  have ap:=QZ .u64 (nz (hs.take i)) 2 (.inr rfl) 8 qh (x:Int) qi
  have es:nz (hs.take i)++[(x:Int)]=nz (hs.take (i+1)):=by
   have a1:hs.take (i+1)=hs.take i++[x]:=by rw[zo2,e1];rfl
   rw[a1,yO]
  rw[es]at ap
  obtain⟨hp2,L,a1,a2,a3,a4,a5⟩:=ih (i+1) (q+(una (g/2^kk)++xW g kk).length) ((hp.put br 0 (Rb t bl (q+(una (g/2^kk)++xW g kk).length) false)).put c 0 (Cu br kk hs.length (i+1) x)) e2 qe
   (by rw[qp,if_neg qe,Nat.add_sub_cancel,ex]) (by rw[qB _ _ (fun e=>hne e.symm),qp]) at2
  refine⟨hp2,L,?_,a2,by rw[a3,el,zoj],by rw[a4];rfl,fun a h1 h2=>by rw[a5 a h1 h2];simp[Hp.put,h1,h2]⟩
  rw[<-a1,qlt]
  generalize(hp.put br 0 (Rb t bl (q+(una (g/2^kk)++xW g kk).length) false)).put c 0 (Cu br kk hs.length (i+1) x)=H1 at*
  generalize nz (hs.take (i+1))=L1 at*
  generalize nz (hs.take i)=L0 at*
  simp[nx,yF,ap]
end
theorem vh(b k:Nat)(l:List Int)(hl:l.length<=1000000000){p:Nat}{a r:List Int}(h:l.drop p=a++r)(hp:Hp)(hpl:p<=l.length)(hr:hp.rd b 0=some (Rc k l p 0)):
 ∃t,run cxX 126 [.ptr b 0 0,.sc (.int .i64 (a.length:Int))] hp=some (S t 1 (LI .u8 a),hp.put b 0 (Rc k l (p+a.length) 0)):=by
 have q:=qW hpl h
 obtain⟨t,e⟩:=qmv b k l p 0 hp a.length hl qe hpl hr
 have hL:¬(rL l p 0<a.length):=by unfold rL;rw[if_pos rfl];omega
 have ht:(l.drop p).take a.length=a:=by rw[h,zra]
 rw[if_neg hL]at e
 by_cases h0:a.length=0
 ·have ha:a=[]:=zm9.mp h0
  subst ha
  rw[if_pos (show([]:List Int).length=0 from rfl)]at e
  have hps:=jk hr
  simp only[znd,zoi]
  rw[hps]
  exact⟨2,e⟩
 ·rw[if_neg h0,ht]at e
  exact⟨t,e⟩
theorem qic(b k:Nat)(l:List Int)(hl:l.length<=1000000000)(h8:By l)(n kk:Nat)(bl:List Int)(hn:n<=4096)(hkk:kk<=63)(hbl:bl.length<=1048576)(p:Nat)(rest:List Int)(hd:l.drop p=uv n++((kk:Int)::(uv bl.length++(bl++rest))))(hp:Hp)(hpl:p<=l.length)(hb:b<hp.next)(hr:hp.rd b 0=some (Rc k l p 0)):
 ∃hp' t,run cxX 101 [.ptr b 0 0] hp=some (.ptr hp.next 0 0,hp')/\hp'.rd hp.next 0=some (Cu (hp.next+1) kk n 0 0)/\hp'.rd (hp.next+1) 0=some (Rb t bl 0 false)/\hp'.rd b 0=some (Rc k l (p+(uv n).length+1+(uv bl.length).length+bl.length) 0)/\
  hp'.next=hp.next+2/\∀a,a<hp.next->a≠b->hp'.get a=hp.get a:=by
 have t0:=zd b k l hl h8 (most:=4096) hd qe qe hp hpl hr
 have d0:=qL hd
 have q0:=qW hpl hd
 have t1:=zn b k l hl d0 (hp.put b 0 (Rc k l (p+(uv n).length) 0)) q0 (qp _ _ _)
 rw[qC]at t1
 obtain⟨_,d1,hi1,_⟩:=qt d0
 generalize eP1:p+(uv n).length+1=P1 at*
 have hne:b≠hp.next:=qe
 let C0:List AV:=[.sc (.pointer none),.sc (.int .i64 (kk:Int)),.sc (.int .i64 (n:Int)),.sc (.int .i64 0),.sc (.int .u64 0),.sc (.bool false)]
 have rA:((hp.put b 0 (Rc k l P1 0)).new C0).rd b 0=some (Rc k l P1 0):=by rw[zF _ _ (by simpa using hne),qp]
 have t2:=zd b k l hl h8 (most:=1048576) d1 hbl qe ((hp.put b 0 (Rc k l P1 0)).new C0) qe rA
 have d2:=qL d1
 have q2:=qW qe d1
 generalize eP2:P1+(uv bl.length).length=P2 at*
 obtain⟨t,t3⟩:=vh b k l hl d2 (((hp.put b 0 (Rc k l P1 0)).new C0).put b 0 (Rc k l P2 0)) q2 (qp _ _ _)
 rw[qC]at t3
 have d3:=qL d2
 have q3:=qW q2 d2
 generalize eP3:P2+bl.length=P3 at*
 generalize hH:((hp.put b 0 (Rc k l P1 0)).new C0).put b 0 (Rc k l P3 0)=H at*
 have hHb:H.rd b 0=some (Rc k l P3 0):=by rw[<-hH,qp]
 have hHc:H.rd hp.next 0=some C0:=by rw[<-hH,qB _ _ (fun e=>hne e.symm)];exact qR (hp.put b 0 _) _
 have hHn:H.next=hp.next+1:=by rw[<-hH];rfl
 have er:=qV b k l P3 0 H hHb
 have br:=Jg t bl H
 rw[hHn]at br
 have hc2:(H.new (Rb (rk t) bl 0 false)).rd hp.next 0=some C0:=by rw[zF _ _ qe];exact hHc
 refine⟨(H.new (Rb (rk t) bl 0 false)).put hp.next 0 (Cu (hp.next+1) kk n 0 0),rk t,?_,qp _ _ _,?_,?_,by show H.next+1=_;omega,fun a ha hab=>?_⟩
 ·have w1:IntKind.i64.wrap (n:Int)=(n:Int):=qm qe qe
  have w2:IntKind.i64.wrap (kk:Int)=(kk:Int):=qm qe qe
  have w3:IntKind.i64.wrap (bl.length:Int)=(bl.length:Int):=qm qe qe
  have l1:((4096:Nat):Int)=4096:=rfl
  have l2:((1048576:Nat):Int)=1048576:=rfl
  rw[l1]at t0
  rw[l2]at t2
  have hk:¬((64:Int)<=(kk:Int)):=qe
  have gs1:∀(x0:AV) (v:Value) (r:List AV),ql (x0::.sc v::r) 1=some v:=fun _ _ _=>rfl
  have p0:∀(x0 x1 x2 x3 x4 x5 z:AV),qo [x0,x1,x2,x3,x4,x5] 0 [z]=some [z,x1,x2,x3,x4,x5]:=fun _ _ _ _ _ _ _=>rfl
  simp only[C0]at t2 t3 hHc hc2
  have b5:∀t',rk t'=rk t->B101_5 (.ptr b 0 0) (.ptr hp.next 0 0) (S t' 1 (LI .u8 bl)) H=some (.ptr hp.next 0 0,(H.new (Rb (rk t) bl 0 false)).put hp.next 0 (Cu (hp.next+1) kk n 0 0)):=by
   intro t' ht
   have br':=Jg (rk t) bl H
   rw[hHn,Wp]at br'
   have cn:qn 1 (.ptr (hp.next+1) 0 0)=some [.ptr (hp.next+1) 0 0]:=rfl
   rw[qxh]
   generalize H.new (Rb (rk t) bl 0 false)=H9 at*
   simp[er,ht,br',hc2,p0,cn]
   rfl
  have hAn:(hp.put b 0 (Rc k l P1 0)).next=hp.next:=rfl
  generalize hp.put b 0 (Rc k l P1 0)=HA at*
  generalize hp.put b 0 (Rc k l (p+(uv n).length) 0)=HB at*
  rw[E101]
  simp[t0,xw,w1,t1,jT,w2,hAn,t2,w3,t3,hHc,gs1,hk,b5,Wp]
 ·rw[qB _ _ qe,<-hHn];exact qR _ _
 ·rw[qB _ _ hne,zF _ _ qe];exact hHb
 ·have h1:a≠hp.next:=qe
  have h2:a≠H.next:=qe
  have e1:((H.new (Rb (rk t) bl 0 false)).put hp.next 0 (Cu (hp.next+1) kk n 0 0)).get a=H.get a:=by simp[Hp.put,Hp.new,h1,h2]
  rw[e1,<-hH]
  simp[Hp.put,Hp.new,h1,hab]
theorem qci(c br kk zT last:Nat)(hm:zT<=100000)(hp:Hp)(h:hp.rd c 0=some (Cu br kk zT zT last)):run cxX 102 [.ptr c 0 0] hp=some (.tup [.sc (.int .u64 0),.sc (.bool false)],hp):=by
 have lf:=qck c br kk zT zT last (zmx _) hm hp h
 rw[Nat.sub_self]at lf
 rw[E102]
 simp[lf]
theorem qyy(c br kk zT last:Nat)(hm:zT<=100000)(t:Nat)(bl:List Int)(hbl:bl.length<=100000000)(h8:By bl)(q:Nat)(hq:q<=8*bl.length)(he:qi3 bl q false=0)(hp:Hp)(h:hp.rd c 0=some (Cu br kk zT zT last))(hr:hp.rd br 0=some (Rb t bl q false)):
 run cxX 123 [.ptr c 0 0] hp=some (.sc (.int .i64 0),hp):=by
 have e:=qy0 br t bl q false hp hbl h8 hq hr
 rw[he]at e
 have gs5:∀(x0 x1 x2 x3 x4:AV) (v:Value) (r:List AV),ql (x0::x1::x2::x3::x4::.sc v::r) 5=some v:=fun _ _ _ _ _ _ _=>rfl
 have gs3:∀(x0 x1 x2:AV) (v:Value) (r:List AV),ql (x0::x1::x2::.sc v::r) 3=some v:=fun _ _ _ _ _=>rfl
 have gs2:∀(x0 x1:AV) (v:Value) (r:List AV),ql (x0::x1::.sc v::r) 2=some v:=fun _ _ _ _=>rfl
 have gc0:∀(x:AV) (l:List AV),qs (x::l) 0=some x:=fun _ _=>rfl
 rw[E123]
 simp[h,gs5,gs3,gs2,qxa,gc0,e]
theorem qr7(b k:Nat)(l:List Int)(hl:l.length<=1000000000)(h8:By l)(hs:List Nat)(hn:hs.length<=1024)(h64:∀x∈hs,x<18446744073709551616)(hri:qM hs)(p:Nat)(rest:List Int)(hd:l.drop p=zh hs++rest)(hp:Hp)(hpl:p<=l.length)(hb:b<hp.next)(hr:hp.rd b 0=some (Rc k l p 0)):
 ∃hp',run cxX 61 [.ptr b 0 0] hp=some (S 2 1 (LI .u64 (nz hs)),hp')/\hp'.rd b 0=some (Rc k l (p+(zh hs).length) 0)/\hp'.next=hp.next+2/\∀a,a<hp.next->a≠b->hp'.get a=hp.get a:=by
 obtain⟨k63,hq⟩:=QK (gs:=qw hs) (xu h64)
 have rl:=Qc (jd (qw hs)) k63 (qw hs) hq
 rw[ko]at rl
 have eR:je (qw hs)=jb (jd (qw hs)) (qw hs):=rfl
 have b8:By (pk (je (qw hs))):=fun x hx=>Wx hx
 have hbl:(pk (je (qw hs))).length<=1048576:=by rw[zZ,eR];omega
 have ey:zh hs=uv hs.length++((jd (qw hs):Int)::(uv (pk (je (qw hs))).length++(pk (je (qw hs))))):=by unfold zh;simp
 have ed:zh hs++rest=uv hs.length++((jd (qw hs):Int)::(uv (pk (je (qw hs))).length++(pk (je (qw hs))++rest))):=by rw[ey];simp
 have el:(zh hs).length=(uv hs.length).length+1+(uv (pk (je (qw hs))).length).length+(pk (je (qw hs))).length:=by rw[ey];simp only[zmt,zmu];omega
 rw[ed]at hd
 obtain⟨hp1,t,a1,a2,a3,a4,a5,a6⟩:=qic b k l hl h8 hs.length (jd (qw hs)) (pk (je (qw hs))) qe k63 hbl p rest hd hp hpl hb hr
 have hne:hp.next≠hp.next+1:=qe
 obtain⟨hp2,L,c1,c2,c3,c4,c5⟩:=qna b hp.next (hp.next+1) (jd (qw hs)) t (pk (je (qw hs))) hs k63 qe qe b8 hne h64 hri hq hs 0 0 hp1 rfl qe a2 a3 (by rw[zou,<-eR];exact At.pk _)
 rw[zou,<-eR,zm4]at c3
 have hb2:hp2.rd b 0=some (Rc k l (p+(zh hs).length) 0):=by
  rw[Hp.rd,c5 b qe qe,<-Hp.rd,a4,el]
  congr 2
  omega
 refine⟨hp2,?_,hb2,qe,fun a h1 h2=>by rw[c5 a qe qe,a6 a h1 h2]⟩
 have nx:=qci hp.next (hp.next+1) (jd (qw hs)) hs.length L qe hp2 c2
 have en:=qyy hp.next (hp.next+1) (jd (qw hs)) hs.length L qe t (pk (je (qw hs))) qe b8 (je (qw hs)).length (by rw[zZ];omega) (zgp _) hp2 c2 c3
 have er:=qV b k l (p+(zh hs).length) 0 hp2 hb2
 have pr:=qb8 hs 3 qe h64 hri hp0
 have gs1:∀(x0:AV) (v:Value) (r:List AV),ql (x0::.sc v::r) 1=some v:=fun _ _ _=>rfl
 rw[E61]
 have c1':B61_3 (.ptr b 0 0) (.ptr hp.next 0 0) (S 2 1 []) hp1=B61_3 (.ptr b 0 0) (.ptr hp.next 0 0) (S 2 1 (LI .u64 (nz hs))) hp2:=c1
 generalize jd (qw hs)=K at*
 simp[a1,c1']
 rw[qlt]
 simp[nx,en,zcs,er,pr,c2,gs1,qve]
theorem qgt(m i:Nat):m%2^(i+1)=if m.testBit i then m%2^i|||2^i else m%2^i:=by
 apply zn5
 intro j
 by_cases e:i=j
 ·subst e
  by_cases h:m.testBit i=true
  ·rw[if_pos h,zm7,znt,zm7,zn6]
   simp[h]
  ·rw[if_neg h,zm7,zm7]
   simp at h
   simp[h]
 ·have d:decide (j<i+1)=decide (j<i):=by
   by_cases h:j<i
   ·simp[h];omega
   ·simp[h];omega
  by_cases h:m.testBit i=true
  ·rw[if_pos h,zm7,znt,zm7,zn6,d]
   simp[e]
  ·rw[if_neg h,zm7,zm7,d]
theorem Wh(c:Nat×Nat)(b i:Nat)(hi:i<256)(hp:Hp)(h:hp.rd b 0=some (Cc c)):
 run cxX 194 [.ptr b 0 0,.sc (.int .u8 (i:Int))] hp=some (.tup [],hp.put b 0 (Cc (c.1,c.2|||2^i))):=by
 have e:∀c,csL ([]++[c])=Cc c:=fun c=>by simp[csL]
 have a:=qsl [] c b i hi hp (by rw[e];exact h)
 rw[e]at a
 exact a
section
variable (b k:Nat)(l:List Int)(hl:l.length<=1000000000)(ob:Nat)(hob:ob≠b)(key m:Nat)
include hl hob
theorem qrs(N:Nat)(hN:N<=256)(rest:List Int):∀(f i p n:Nat) (last:Int) (hp:Hp),i+f=256->n+(yD m f i).length=N->last<i->-1<=last->l.drop p=yD m f i++rest->p<=l.length->hp.rd b 0=some (Rc k l p 0)->hp.rd ob 0=some (Cc (key,m%2^i))->
 ∃hp',B175_2 (.ptr ob 0 0) (.ptr b 0 0) (.int .i64 last) (.int .i64 (N:Int)) (.int .i64 (n:Int)) hp=some (.tup [],hp')/\hp'.rd b 0=some (Rc k l (p+(yD m f i).length) 0)/\hp'.rd ob 0=some (Cc (key,m%2^256))/\hp'.next=hp.next/\∀a,a≠b->a≠ob->hp'.get a=hp.get a:=by
 intro f
 induction f with
 |zero=>
  intro i p n last hp hi hn hla hla2 hd hpl hr hc
  have e:i=256:=qe
  subst e
  have e2:n=N:=hn
  subst e2
  refine⟨hp,?_,hr,hc,rfl,fun _ _ _=>rfl⟩
  rw[qed]
  simp
 |succ f ih=>
  intro i p n last hp hi hn hla hla2 hd hpl hr hc
  have mb:=qgt m i
  by_cases hb:m.testBit i=true
  ·have ea:yD m (f+1) i=(i:Int)::yD m f (i+1):=by rw[yD,if_pos hb]
   rw[if_pos hb]at mb
   rw[ea]at hn hd⊢
   simp only[zmu]at hn⊢
   have tb:=zn b k l hl hd hp hpl hr
   obtain⟨_,d0,hi0,_⟩:=qt hd
   have er:=qV b k l (p+1) 0 (hp.put b 0 (Rc k l (p+1) 0)) (qp _ _ _)
   have ca:=Wh (key,m%2^i) ob i qe (hp.put b 0 (Rc k l (p+1) 0)) (by rw[qB _ _ hob];exact hc)
   simp only at ca
   rw[<-mb]at ca
   obtain⟨hp2,a1,a2,a3,a4,a5⟩:=ih (i+1) (p+1) (n+1) (i:Int) ((hp.put b 0 (Rc k l (p+1) 0)).put ob 0 (Cc (key,m%2^(i+1)))) qe qe qe qe d0 qe (by rw[qB _ _ (fun q=>hob q.symm),qp]) (qp _ _ _)
   refine⟨hp2,?_,by rw[a2];congr 2;omega,a3,by rw[a4];rfl,fun a c1 c2=>by rw[a5 a c1 c2];simp[Hp.put,c1,c2]⟩
   rw[<-a1,qed]
   have w1:IntKind.i64.wrap (i:Int)=(i:Int):=qm qe qe
   have w2:IntKind.u8.wrap (i:Int)=(i:Int):=zy qe qe
   have w3:IntKind.i64.wrap ((n:Int)+1)=((n+1:Nat):Int):=qj
   have hlt:(n:Int)<(N:Int):=qe
   have hle:¬((i:Int)<=last):=qe
   generalize(hp.put b 0 (Rc k l (p+1) 0)).put ob 0 (Cc (key,m%2^(i+1)))=H2 at*
   generalize hp.put b 0 (Rc k l (p+1) 0)=H1 at*
   generalize((n+1:Nat):Int)=n1 at*
   simp[hlt,tb,jT,w1,er,hle,yi,w2,ca,w3]
  ·have ea:yD m (f+1) i=yD m f (i+1):=by rw[yD,if_neg hb]
   rw[if_neg hb]at mb
   rw[ea]at hn hd⊢
   exact ih (i+1) p n last hp qe hn qe hla2 hd hpl hr (by rw[mb];exact hc)
omit hl hob in
theorem zdi(N n fr mo:Nat)(hm:fr+mo<256):∀(g j:Nat) (hp:Hp),j+g=fr+mo+1->(∀x,j<=x->x<=fr+mo->m.testBit x=true)->n<1000->hp.rd ob 0=some (Cc (key,m%2^j))->
 B176_8 (.ptr ob 0 0) (.ptr b 0 0) (.int .i64 (fr:Int)) (.int .i64 (mo:Int)) (.int .i64 (j:Int)) (.int .i64 (N:Int)) (.int .i64 (n:Int)) hp=
  B176_2 (.ptr ob 0 0) (.ptr b 0 0) (.int .i64 ((fr+mo:Nat):Int)) (.int .i64 (N:Int)) (.int .i64 ((n+1:Nat):Int)) (hp.put ob 0 (Cc (key,m%2^(fr+mo+1)))):=by
 intro g
 have w1:IntKind.i64.wrap ((fr:Int)+(mo:Int))=((fr+mo:Nat):Int):=qj
 induction g with
 |zero=>
  intro j hp hj hb hn hc
  have e:j=fr+mo+1:=qe
  subst e
  have w2:IntKind.i64.wrap ((n:Int)+1)=((n+1:Nat):Int):=qj
  have hle:¬(((fr+mo+1:Nat):Int)<=((fr+mo:Nat):Int)):=qe
  rw[jk hc,qeb]
  generalize((fr+mo+1:Nat):Int)=q1 at*
  generalize((fr+mo:Nat):Int)=q2 at*
  generalize((n+1:Nat):Int)=n1 at*
  simp[w1,hle,w2]
 |succ g ih=>
  intro j hp hj hb hn hc
  have mb:=qgt m j
  rw[if_pos (hb j (zmx _) qe)]at mb
  have ca:=Wh (key,m%2^j) ob j qe hp hc
  simp only at ca
  rw[<-mb]at ca
  have i2:=ih (j+1) (hp.put ob 0 (Cc (key,m%2^(j+1)))) qe (fun x h1 h2=>hb x qe h2) hn (qp _ _ _)
  rw[qC]at i2
  rw[<-i2,qeb]
  have w2:IntKind.u8.wrap (j:Int)=(j:Int):=zy qe qe
  have w3:IntKind.i64.wrap ((j:Int)+1)=((j+1:Nat):Int):=qj
  have hle:(j:Int)<=((fr+mo:Nat):Int):=qe
  generalize hp.put ob 0 (Cc (key,m%2^(j+1)))=H1 at*
  generalize((fr+mo:Nat):Int)=q2 at*
  generalize((j+1:Nat):Int)=n1 at*
  simp[w1,hle,yi,w2,ca,w3]
theorem qrn(N:Nat)(hN:N<=256)(rest:List Int):∀(f i p n:Nat) (last:Int) (hp:Hp),256<=i+f->i<=256->2*n+(kC m f i).length=2*N->last<i->-2<=last->(m.testBit i=true->i<256->last+1<i)->l.drop p=kC m f i++rest->p<=l.length->hp.rd b 0=some (Rc k l p 0)->hp.rd ob 0=some (Cc (key,m%2^i))->
 ∃hp',B176_2 (.ptr ob 0 0) (.ptr b 0 0) (.int .i64 last) (.int .i64 (N:Int)) (.int .i64 (n:Int)) hp=some (.tup [],hp')/\hp'.rd b 0=some (Rc k l (p+(kC m f i).length) 0)/\hp'.rd ob 0=some (Cc (key,m%2^256))/\hp'.next=hp.next/\∀a,a≠b->a≠ob->hp'.get a=hp.get a:=by
 intro f
 have done:∀(i p n:Nat) (last:Int) (hp:Hp),i=256->2*n+0=2*N->hp.rd b 0=some (Rc k l p 0)->hp.rd ob 0=some (Cc (key,m%2^i))->
  ∃hp',B176_2 (.ptr ob 0 0) (.ptr b 0 0) (.int .i64 last) (.int .i64 (N:Int)) (.int .i64 (n:Int)) hp=some (.tup [],hp')/\hp'.rd b 0=some (Rc k l (p+0) 0)/\hp'.rd ob 0=some (Cc (key,m%2^256))/\hp'.next=hp.next/\∀a,a≠b->a≠ob->hp'.get a=hp.get a:=by
  intro i p n last hp e hn hr hc
  subst e
  have e2:n=N:=qe
  subst e2
  refine⟨hp,?_,hr,hc,rfl,fun _ _ _=>rfl⟩
  rw[qec]
  simp
 induction f with
 |zero=>
  intro i p n last hp hi hi2 hn hla hla2 hbb hd hpl hr hc
  exact done i p n last hp qe hn hr hc
 |succ f ih=>
  intro i p n last hp hi hi2 hn hla hla2 hbb hd hpl hr hc
  by_cases h256:256<=i
  ·have ea:kC m (f+1) i=[]:=by rw[kC,if_pos h256]
   rw[ea]at hn⊢
   exact done i p n last hp qe hn hr hc
  ·by_cases hb:m.testBit i=true
   ·obtain⟨r1,r2,r3,r4⟩:=wg m (255-i) i
    have ea:kC m (f+1) i=(i:Int)::((yu m (255-i) i-i:Nat):Int)::kC m f (yu m (255-i) i+1):=by rw[kC,if_neg h256,if_pos hb]
    generalize hE:yu m (255-i) i=E at*
    rw[ea]at hn hd⊢
    simp only[zmu]at hn⊢
    have hg:=hbb hb qe
    have tb:=zn b k l hl hd hp hpl hr
    obtain⟨_,d0,hi0,_⟩:=qt hd
    have tb2:=zn b k l hl d0 (hp.put b 0 (Rc k l (p+1) 0)) qe (qp _ _ _)
    obtain⟨_,d1,hi1,_⟩:=qt d0
    rw[qC]at tb2
    have er:=qV b k l (p+1+1) 0 (hp.put b 0 (Rc k l (p+1+1) 0)) (qp _ _ _)
    obtain⟨mo,hmo⟩:∃mo,E=i+mo:=⟨E-i,qe⟩
    have emo:E-i=mo:=qe
    have ti:=zdi b ob key m N n i mo qe (mo+1) i (hp.put b 0 (Rc k l (p+1+1) 0)) qe (fun x h1 h2=>by
     by_cases e:x=i
     ·rw[e];exact hb
     ·exact r3 x qe qe) qe (by rw[qB _ _ hob];exact hc)
    rw[emo]at tb2
    subst hmo
    obtain⟨hp2,a1,a2,a3,a4,a5⟩:=ih (i+mo+1) (p+1+1) (n+1) ((i+mo:Nat):Int) ((hp.put b 0 (Rc k l (p+1+1) 0)).put ob 0 (Cc (key,m%2^(i+mo+1)))) qe qe qe qe qe
     (fun h1 h2=>by rw[r4 qe]at h1;cases h1) d1 qe (by rw[qB _ _ (fun q=>hob q.symm),qp]) (qp _ _ _)
    refine⟨hp2,?_,by rw[a2];congr 2;omega,a3,by rw[a4];rfl,fun a c1 c2=>by rw[a5 a c1 c2];simp[Hp.put,c1,c2]⟩
    rw[<-a1,<-ti,qec]
    have w1:IntKind.i64.wrap (i:Int)=(i:Int):=qm qe qe
    have w2:IntKind.i64.wrap (mo:Int)=(mo:Int):=qm qe qe
    have w3:IntKind.i64.wrap (last+1)=last+1:=qj
    have w4:IntKind.i64.wrap ((i:Int)+(mo:Int))=(i:Int)+(mo:Int):=qj
    have hlt:(n:Int)<(N:Int):=qe
    have hle:¬((i:Int)<=last+1):=qe
    have h255:¬((255:Int)<(i:Int)+(mo:Int)):=qe
    generalize hp.put b 0 (Rc k l (p+1+1) 0)=H2 at*
    generalize hp.put b 0 (Rc k l (p+1) 0)=H1 at*
    simp[hlt,tb,tb2,jT,w1,w2,er,w3,hle,w4,h255,qv9]
   ·have ea:kC m (f+1) i=kC m f (i+1):=by rw[kC,if_neg h256,if_neg hb]
    have mb:=qgt m i
    rw[if_neg hb]at mb
    rw[ea]at hn hd⊢
    exact ih (i+1) p n last hp qe qe hn qe hla2 (fun _ _=>qe) hd hpl hr (by rw[mb];exact hc)
end
theorem JN(m j x:Nat):(zX m j).testBit x=(decide (x<64)&&m.testBit (64*j+x)):=by
 unfold zX
 have e:(18446744073709551616:Nat)=2^64:=rfl
 rw[e,zm7,znu,zqm]
theorem qhk(m i j:Nat)(hi:i<32):zX (m%2^(8*(i+1))) j=if j=i/8 then zX (m%2^(8*i)) j|||m/2^(8*i)%256*2^(8*(i%8))else zX (m%2^(8*i)) j:=by
 have e256:(256:Nat)=2^8:=rfl
 apply zn5
 intro x
 by_cases hj:j=i/8
 ·rw[if_pos hj,JN,znt,JN,Nat.testBit_mul_two_pow,e256,zm7,zm7,zm7,znu]
  by_cases h1:x<8*(i%8)
  ·have a1:x<64:=qe
   have a2:64*j+x<8*(i+1):=qe
   have a3:64*j+x<8*i:=qe
   have a4:¬(8*(i%8)<=x):=qe
   simp[a1,a2,a3,a4]
  ·by_cases h2:x<8*(i%8)+8
   ·have a1:x<64:=qe
    have a2:64*j+x<8*(i+1):=qe
    have a3:¬(64*j+x<8*i):=qe
    have a4:8*(i%8)<=x:=qe
    have a5:x-8*(i%8)<8:=qe
    have a6:x-8*(i%8)+8*i=64*j+x:=qe
    simp[a1,a2,a3,a4,a5,a6]
   ·have a2:¬(64*j+x<8*(i+1)):=qe
    have a3:¬(64*j+x<8*i):=qe
    have a5:¬(x-8*(i%8)<8):=qe
    simp[a2,a3,a5]
 ·rw[if_neg hj,JN,JN,zm7,zm7]
  by_cases h1:x<64
  ·have a:decide (64*j+x<8*(i+1))=decide (64*j+x<8*i):=by
    by_cases h:64*j+x<8*i
    ·have h':64*j+x<8*(i+1):=qe
     simp[h,h']
    ·have h':¬(64*j+x<8*(i+1)):=qe
     simp[h,h']
   rw[a]
  ·simp[h1]
theorem zeo(key m i:Nat)(hi:i<32):qo (Cc (key,m%2^(8*i))) (1+i/8) [.sc (.int .u64 (zX (m%2^(8*i)) (i/8)|||m/2^(8*i)%256*2^(8*(i%8)):Nat))]=some (Cc (key,m%2^(8*(i+1)))):=by
 have h:i/8=0\/i/8=1\/i/8=2\/i/8=3:=qe
 have w:=fun j=>qhk m i j hi
 have e:Cc (key,m%2^(8*(i+1)))=[.sc (.int .u32 (key:Int)),.sc (.int .u64 (zX (m%2^(8*(i+1))) 0:Nat)),.sc (.int .u64 (zX (m%2^(8*(i+1))) 1:Nat)),.sc (.int .u64 (zX (m%2^(8*(i+1))) 2:Nat)),.sc (.int .u64 (zX (m%2^(8*(i+1))) 3:Nat))]:=rfl
 rw[e,w 0,w 1,w 2,w 3]
 rcases h with h|h|h|h<;>rw[h]<;>rfl
theorem zgl(m:Nat):∀(f i j:Nat),j<f->(yB m f i)[j]?=some ((m/2^(8*(i+j))%256:Nat):Int):=by
 intro f
 induction f with
 |zero=>intro i j h;omega
 |succ f ih=>
  intro i j h
  cases j with
  |zero=>rfl
  |succ j=>
   have:=ih (i+1) j qe
   have e:i+1+j=i+(j+1):=qe
   rw[e]at this
   exact this
theorem qrr(b ob t key m:Nat)(b2:List AV):∀(g i:Nat) (hp:Hp),i+g=32->hp.rd ob 0=some (Cc (key,m%2^(8*i)))->
 B119_9 (.ptr b 0 0) (.ptr ob 0 0) (.int .u8 1) (S t 1 (LI .u8 (yB m 32 0))) (.int .i64 32) (.int .i64 (i:Int)) b2 hp=B119_15 (.ptr b 0 0) (.ptr ob 0 0) (.int .u8 1) b2 (hp.put ob 0 (Cc (key,m%2^256))):=by
 intro g
 induction g with
 |zero=>
  intro i hp hi hc
  have e:i=32:=qe
  subst e
  have hc:hp.rd ob 0=some (Cc (key,m%2^256)):=hc
  rw[jk hc,qfg]
  simp
 |succ g ih=>
  intro i hp hi hc
  have i2:=ih (i+1) (hp.put ob 0 (Cc (key,m%2^(8*(i+1))))) qe (qp _ _ _)
  rw[qC]at i2
  have pb:=zeo key m i qe
  have hlt:(i:Int)<32:=qe
  have gb:=zgl m 32 0 i qe
  rw[zm4]at gb
  have hB:m/2^(8*i)%256<256:=zpt _ qh
  have gw:=Qj (key,m%2^(8*i)) (i/8) qe
  have hw:=Qt (m%2^(8*i)) (i/8)
  simp only at gw
  have hs:2^(8*(i%8))<=2^56:=znv qh qe
  have e56:(2:Nat)^56=72057594037927936:=rfl
  have sl:=qhw (m/2^(8*i)%256) (8*(i%8)) qe (zog (zno (Nat.le_of_lt_succ hB) hs) qe)
  have hz:m/2^(8*i)%256*2^(8*(i%8))<18446744073709551616:=zog (zno (Nat.le_of_lt_succ hB) hs) qe
  have o:=ze0 _ _ hw hz
  have q8:=qgd i qe
  have r8:=qgb i
  have w1:IntKind.i64.wrap (8*((i%8:Nat):Int))=((8*(i%8):Nat):Int):=qj
  have w2:IntKind.u64.wrap ((m/2^(8*i)%256:Nat):Int)=((m/2^(8*i)%256:Nat):Int):=qu qe qe
  have w3:IntKind.i64.wrap ((i:Int)+1)=((i+1:Nat):Int):=qj
  have ix:idx 4 (.int .i64 ((i/8:Nat):Int))=some (i/8):=zp .i64 qe
  have ge:jA 1 (S t 1 (LI .u8 (yB m 32 0))) (.int .i64 (i:Int))=some [.sc (.int .u8 ((m/2^(8*i)%256:Nat):Int))]:=by
   rw[XZ,if_pos qe,zm3,qbn?,gb];rfl
  rw[<-i2,qfg]
  have gp:∀a b c,qY (AV.ptr a b c)=some (a,b,c):=fun _ _ _=>rfl
  have gs0:∀(v:Value),ql [.sc v] 0=some v:=fun _=>rfl
  have en:Nat.add (Nat.succ 0) (Nat.add 0 (i/8))=1+i/8:=by show Nat.succ 0+(0+i/8)=1+i/8;omega
  have en':Nat.add 1 (Nat.add 0 (i/8))=1+i/8:=by show 1+(0+i/8)=1+i/8;omega
  rw[en']at gw
  generalize((zX (m%2^(8*i)) (i/8)|||m/2^(8*i)%256*2^(8*(i%8)):Nat):Int)=WO at*
  generalize((zX (m%2^(8*i)) (i/8):Nat):Int)=W0 at*
  generalize((m/2^(8*i)%256*2^(8*(i%8)):Nat):Int)=BS at*
  generalize((m/2^(8*i)%256:Nat):Int)=BB at*
  generalize((8*(i%8):Nat):Int)=SH at*
  generalize((i%8:Nat):Int)=I8 at*
  generalize((i/8:Nat):Int)=J8 at*
  generalize((i+1:Nat):Int)=I1 at*
  generalize Cc (key,m%2^(8*i))=C0 at*
  generalize Cc (key,m%2^(8*(i+1)))=C1 at*
  simp only[Yo,ZP,hlt,decide_true,jJ,zmw,cond_true,ge,gs0,show Int.ofNat 8=8 from rfl,show Int.ofNat 1=1 from rfl,q8,gp,ix,hc,en,gw,zf9,w2,r8,Xu,w1,sl,o,pb,yg,w3]
abbrev Z5:List AV:=[.sc (.int .u32 0),.sc (.int .u64 0),.sc (.int .u64 0),.sc (.int .u64 0),.sc (.int .u64 0)]
theorem qrq(b k:Nat)(l:List Int)(p ob:Nat)(c:Nat×Nat)(hc:YT c)(hp:Hp)(hr:hp.rd b 0=some (Rc k l p 0))(hob:hp.rd ob 0=some (Cc c)):
 B119_15 (.ptr b 0 0) (.ptr ob 0 0) (.int .u8 (kind c.2:Nat)) Z5 hp=some (.agg (Cc c),hp):=by
 have er:=qV b k l p 0 hp hr
 have mn:=wW c hp0
 have bs:=qis c hp0
 have gp:∀a b c,qY (AV.ptr a b c)=some (a,b,c):=fun _ _ _=>rfl
 have ps:=jk hob
 have hn:¬((zt c.2 256:Nat):Int)=0:=by have:=hc.2.2;omega
 rw[qpn]
 unfold Cc at*
 unfold Z5 at*
 generalize((zt c.2 256:Nat):Int)=PN at*
 generalize((kind c.2:Nat):Int)=KI at*
 generalize((zX c.2 0:Nat):Int)=W0 at*
 generalize((zX c.2 1:Nat):Int)=W1 at*
 generalize((zX c.2 2:Nat):Int)=W2 at*
 generalize((zX c.2 3:Nat):Int)=W3 at*
 generalize(c.1:Int)=W9 at*
 simp[er,gp,hob,qr,mn,hn,bs,qpm,qo,qn,ps]
section
variable (b k:Nat)(l:List Int)(hl:l.length<=1000000000)(ob:Nat)(hob:ob≠b)(key m:Nat)(hm:m<2^256)(h0:0<zt m 256)
include hl hob hm h0
theorem qmp(rest:List Int)(p:Nat)(hp:Hp)(hd:l.drop p=((zt m 256-1:Nat):Int)::yD m 256 0++rest)(h32:zt m 256<=256)(hpl:p<=l.length)(hr:hp.rd b 0=some (Rc k l p 0))(hc:hp.rd ob 0=some (Cc (key,0))):
 ∃hp',run cxX 175 [.ptr ob 0 0,.ptr b 0 0] hp=some (.tup [],hp')/\hp'.rd b 0=some (Rc k l (p+1+(yD m 256 0).length) 0)/\hp'.rd ob 0=some (Cc (key,m))/\hp'.next=hp.next/\∀a,a≠b->a≠ob->hp'.get a=hp.get a:=by
 have tb:=zn b k l hl hd hp hpl hr
 obtain⟨_,d0,hi0,_⟩:=qt hd
 have e0:m%2^0=0:=Nat.mod_one m
 have em:m%2^256=m:=zoa hm
 obtain⟨hp2,a1,a2,a3,a4,a5⟩:=qrs b k l hl ob hob key m (zt m 256) h32 rest 256 0 (p+1) 0 (-1) (hp.put b 0 (Rc k l (p+1) 0)) rfl (by rw[Kp,zm4]) qe qe d0 qe (qp _ _ _) (by rw[e0,qB _ _ hob];exact hc)
 rw[em]at a3
 refine⟨hp2,?_,a2,a3,by rw[a4];rfl,fun a c1 c2=>by rw[a5 a c1 c2];simp[Hp.put,c1,c2]⟩
 have w1:IntKind.i64.wrap ((zt m 256-1:Nat):Int)=((zt m 256-1:Nat):Int):=qm qe qe
 have w2:IntKind.i64.wrap (((zt m 256-1:Nat):Int)+1)=((zt m 256:Nat):Int):=qj
 have a1':B175_2 (.ptr ob 0 0) (.ptr b 0 0) (.int .i64 (Int.negSucc 0)) (.int .i64 ((zt m 256:Nat):Int)) (.int .i64 0) (hp.put b 0 (Rc k l (p+1) 0))=some (.tup [],hp2):=a1
 rw[E175]
 generalize hp.put b 0 (Rc k l (p+1) 0)=H1 at*
 generalize((zt m 256-1:Nat):Int)=P1 at*
 generalize((zt m 256:Nat):Int)=P2 at*
 simp at a1'
 simp[tb,jT,w1,w2,a1']
theorem qr2(rest:List Int)(p:Nat)(hp:Hp)(hd:l.drop p=((jz m 256-1:Nat):Int)::kC m 256 0++rest)(h32:jz m 256<=256)(hpl:p<=l.length)(hr:hp.rd b 0=some (Rc k l p 0))(hc:hp.rd ob 0=some (Cc (key,0))):
 ∃hp',run cxX 176 [.ptr ob 0 0,.ptr b 0 0] hp=some (.tup [],hp')/\hp'.rd b 0=some (Rc k l (p+1+(kC m 256 0).length) 0)/\hp'.rd ob 0=some (Cc (key,m))/\hp'.next=hp.next/\∀a,a≠b->a≠ob->hp'.get a=hp.get a:=by
 have tb:=zn b k l hl hd hp hpl hr
 obtain⟨_,d0,hi0,_⟩:=qt hd
 have e0:m%2^0=0:=Nat.mod_one m
 have em:m%2^256=m:=zoa hm
 have rp:=Vr h0
 obtain⟨hp2,a1,a2,a3,a4,a5⟩:=qrn b k l hl ob hob key m (jz m 256) h32 rest 256 0 (p+1) 0 (-2) (hp.put b 0 (Rc k l (p+1) 0)) qe qe (by rw[vn];omega) qe qe (fun _ _=>qe) d0 qe (qp _ _ _) (by rw[e0,qB _ _ hob];exact hc)
 rw[em]at a3
 refine⟨hp2,?_,a2,a3,by rw[a4];rfl,fun a c1 c2=>by rw[a5 a c1 c2];simp[Hp.put,c1,c2]⟩
 have w1:IntKind.i64.wrap ((jz m 256-1:Nat):Int)=((jz m 256-1:Nat):Int):=qm qe qe
 have w2:IntKind.i64.wrap (((jz m 256-1:Nat):Int)+1)=((jz m 256:Nat):Int):=qj
 have a1':B176_2 (.ptr ob 0 0) (.ptr b 0 0) (.int .i64 (Int.negSucc 1)) (.int .i64 ((jz m 256:Nat):Int)) (.int .i64 0) (hp.put b 0 (Rc k l (p+1) 0))=some (.tup [],hp2):=a1
 rw[E176]
 generalize hp.put b 0 (Rc k l (p+1) 0)=H1 at*
 generalize((jz m 256-1:Nat):Int)=P1 at*
 generalize((jz m 256:Nat):Int)=P2 at*
 simp at a1'
 simp[tb,jT,w1,w2,a1']
end
theorem qmo(b k:Nat)(l:List Int)(hl:l.length<=1000000000)(h8:By l)(c:Nat×Nat)(hc:YT c)(rest:List Int)(p:Nat)(hp:Hp)(hd:l.drop p=yA c++rest)(hpl:p<=l.length)(hb:b<hp.next)(hr:hp.rd b 0=some (Rc k l p 0)):
 ∃hp',run cxX 119 [.ptr b 0 0] hp=some (.agg (Cc c),hp')/\hp'.rd b 0=some (Rc k l (p+(yA c).length) 0)/\hp'.next=hp.next+1/\∀a,a<hp.next->a≠b->hp'.get a=hp.get a:=by
 obtain⟨key,m⟩:=c
 obtain⟨ck,cm,c0⟩:=hc
 simp only at ck cm c0
 have ey:yA (key,m)++rest=uv key++(((kind m:Nat):Int)::(QX m++rest)):=by unfold yA;simp
 have el:(yA (key,m)).length=(uv key).length+1+(QX m).length:=by unfold yA;simp;omega
 rw[ey]at hd
 have t0:=zd b k l hl h8 (most:=16777215) hd qe qe hp hpl hr
 have d0:=qL hd
 have q0:=qW hpl hd
 obtain⟨_,d1,hi1,_⟩:=qt d0
 have hne:hp.next≠b:=qe
 have hp256:=vx m 256
 have hr256:=JW m 256
 let H0:Hp:=((hp.put b 0 (Rc k l (p+(uv key).length) 0)).new Z5).put hp.next 0 (Cc (key,0))
 have H0b:H0.rd b 0=some (Rc k l (p+(uv key).length) 0):=by
  show(((hp.put b 0 _).new Z5).put hp.next 0 _).rd b 0=_
  rw[qB _ _ (fun e=>hne e.symm),zF _ _ (show b≠(hp.put b 0 _).next from fun e=>hne e.symm),qp]
 have H0c:H0.rd hp.next 0=some (Cc (key,0)):=qp _ _ _
 have t1:=zn b k l hl d0 H0 q0 H0b
 generalize eP1:p+(uv key).length+1=P1 at*
 let H1:Hp:=H0.put b 0 (Rc k l P1 0)
 have H1b:H1.rd b 0=some (Rc k l P1 0):=qp _ _ _
 have H1c:H1.rd hp.next 0=some (Cc (key,0)):=by show(H0.put b 0 _).rd hp.next 0=_;rw[qB _ _ hne];exact H0c
 have H1n:H1.next=hp.next+1:=rfl
 have H1f:∀a,a<hp.next->a≠b->H1.get a=hp.get a:=fun a h1 h2=>by
  have h3:a≠hp.next:=qe
  simp[H1,H0,Hp.put,Hp.new,h2,h3]
 have key':∃hp',hp'.rd b 0=some (Rc k l (P1+(QX m).length) 0)/\hp'.rd hp.next 0=some (Cc (key,m))/\hp'.next=H1.next/\(∀a,a≠b->a≠hp.next->hp'.get a=H1.get a)/\
  run cxX 119 [.ptr b 0 0] hp=B119_15 (.ptr b 0 0) (.ptr hp.next 0 0) (.int .u8 (kind m:Nat)) Z5 hp':=by
  have hk:=YY m
  have hAn:(hp.put b 0 (Rc k l (p+(uv key).length) 0)).next=hp.next:=rfl
  have hAr:((hp.put b 0 (Rc k l (p+(uv key).length) 0)).new Z5).rd hp.next 0=some Z5:=qR (hp.put b 0 _) _
  have pz:qo Z5 0 [.sc (.int .u32 (key:Int)),.sc (.int .u64 0),.sc (.int .u64 0),.sc (.int .u64 0),.sc (.int .u64 0)]=some (Cc (key,0)):=by
   unfold Cc
   simp only[VJ]
   rfl
  have w1:IntKind.u32.wrap (key:Int)=(key:Int):=qJ qe qe
  have lit:((16777215:Nat):Int)=16777215:=rfl
  rw[lit]at t0
  have kk:kind m=0\/kind m=1\/kind m=2:=qe
  have fold:((hp.put b 0 (Rc k l (p+(uv key).length) 0)).new Z5).put hp.next 0 (Cc (key,0))=H0:=rfl
  have foldH1:H0.put b 0 (Rc k l P1 0)=H1:=rfl
  rw[foldH1]at t1
  rcases kk with e|e|e
  ·have eb:QX m=((zt m 256-1:Nat):Int)::yD m 256 0:=by unfold QX;rw[if_pos e]
   have ebl:P1+(QX m).length=P1+1+(yD m 256 0).length:=by rw[eb,zmu];omega
   rw[eb]at d1
   obtain⟨hp2,a1,a2,a3,a4,a5⟩:=qmp b k l hl hp.next hne key m cm c0 rest P1 H1 d1 hp256 qe H1b H1c
   rw[<-ebl]at a2
   refine⟨hp2,a2,a3,a4,a5,?_⟩
   rw[e]at t1⊢
   rw[zke]
   clear_value H0 H1
   generalize hp.put b 0 (Rc k l (p+(uv key).length) 0)=HA at*
   generalize Cc (key,0)=C0 at*
   simp[t0,jG,w1,hAn,hAr,pz,fold,t1,a1]
  ·have eb:QX m=yB m 32 0:=by unfold QX;rw[if_neg qe,if_pos e]
   rw[eb]at d1⊢
   obtain⟨t,a1⟩:=vh b k l hl d1 H1 qe H1b
   rw[qko]at a1⊢
   have e0:m%2^(8*0)=0:=Nat.mod_one m
   have em:m%2^256=m:=zoa cm
   have a2:=qrr b hp.next t key m Z5 32 0 (H1.put b 0 (Rc k l (P1+32) 0)) rfl (by rw[e0,qB _ _ hne];exact H1c)
   rw[em]at a2
   refine⟨(H1.put b 0 (Rc k l (P1+32) 0)).put hp.next 0 (Cc (key,m)),?_,qp _ _ _,rfl,fun a h1 h2=>?_,?_⟩
   ·rw[qB _ _ (fun e=>hne e.symm),qp]
   ·simp[Hp.put,h1,h2]
   have o1:((1:Nat):Int)=1:=rfl
   rw[e,o1]at t1⊢
   rw[<-a2,zke]
   clear_value H0 H1
   generalize hp.put b 0 (Rc k l (p+(uv key).length) 0)=HA at*
   generalize Cc (key,0)=C0 at*
   generalize H1.put b 0 (Rc k l (P1+32) 0)=H2 at*
   simp at a1
   simp[t0,jG,w1,hAn,hAr,pz,fold,t1,a1]
  ·have eb:QX m=((jz m 256-1:Nat):Int)::kC m 256 0:=by unfold QX;rw[if_neg qe,if_neg qe]
   have ebl:P1+(QX m).length=P1+1+(kC m 256 0).length:=by rw[eb,zmu];omega
   rw[eb]at d1
   obtain⟨hp2,a1,a2,a3,a4,a5⟩:=qr2 b k l hl hp.next hne key m cm c0 rest P1 H1 d1 qe qe H1b H1c
   rw[<-ebl]at a2
   refine⟨hp2,a2,a3,a4,a5,?_⟩
   rw[e]at t1⊢
   rw[zke]
   clear_value H0 H1
   generalize hp.put b 0 (Rc k l (p+(uv key).length) 0)=HA at*
   generalize Cc (key,0)=C0 at*
   simp[t0,jG,w1,hAn,hAr,pz,fold,t1,a1]
 obtain⟨hp2,a2,a3,a4,a5,a6⟩:=key'
 have t15:=qrq b k l _ hp.next (key,m) ⟨ck,cm,c0⟩ hp2 a2 a3
 refine⟨hp2,by rw[a6];exact t15,?_,by rw[a4,H1n],fun a h1 h2=>by rw[a5 a h2 qe,H1f a h1 h2]⟩
 rw[a2,el]
 congr 2
 omega
theorem zb5(cs:List (Nat×Nat))(c:Nat×Nat)(h:cs.length<=100000):jm 40 5 (S 2 5 (csL cs)) (S 1 5 (Cc c))=some (S 2 5 (csL (cs++[c]))):=by
 have e:csL (cs++[c])=csL cs++Cc c:=by rw[qg8];simp[csL]
 rw[e]
 exact Yr 40 5 2 _ _ 1 (.inr rfl) (show qk9 (Cc c)from rfl) (.inr (yR qh (by rw[kP];simp;omega)))
theorem qxq(b k:Nat)(l:List Int)(p:Nat)(cs:List (Nat×Nat))(hl:cs.length<=4096)(c:Nat×Nat)(T n:Nat)(hT:T+zt c.2 256<=4096)(hp:Hp):
 B58_11 (.ptr b 0 0) (S 2 5 (csL cs)) (.int .i64 (T:Int)) (.int .u64 (n:Int)) (.int .u64 (cs.length:Int)) (Cc c) hp=
  B58_5 (.ptr b 0 0) (S 2 5 (csL (cs++[c]))) (.int .i64 ((T+zt c.2 256:Nat):Int)) (.int .u64 (n:Int)) (.int .u64 ((cs.length+1:Nat):Int)) hp:=by
 have mn:=wW c hp0
 have ap:=zb5 cs c qe
 have w1:IntKind.i64.wrap ((T:Int)+((zt c.2 256:Nat):Int))=((T+zt c.2 256:Nat):Int):=qj
 have w2:IntKind.u64.wrap ((cs.length:Int)+1)=((cs.length+1:Nat):Int):=by rw[qu]<;>omega
 have h4:¬((4096:Int)<((T+zt c.2 256:Nat):Int)):=qe
 rw[qvh]
 generalize((T+zt c.2 256:Nat):Int)=T2 at*
 generalize((cs.length+1:Nat):Int)=T3 at*
 generalize csL (cs++[c])=L2 at*
 generalize csL cs=L1 at*
 unfold Cc at*
 generalize((zt c.2 256:Nat):Int)=PN at*
 generalize((zX c.2 0:Nat):Int)=W0 at*
 generalize((zX c.2 1:Nat):Int)=W1 at*
 generalize((zX c.2 2:Nat):Int)=W2 at*
 generalize((zX c.2 3:Nat):Int)=W3 at*
 generalize(c.1:Int)=W9 at*
 simp[qr,mn,w1,h4,qvg,qn,qo,yF,ap,w2]
theorem qnb(cs:List (Nat×Nat))(i:Nat)(c d:Nat×Nat)(h:qM (cs.map (·.1)))(h1:cs[i]?=some c) (h2:cs[i+1]?=some d):c.1<d.1:=by
 have hi:=(zm2.mp h2).1
 have:=vp _ h i (by simpa using hi)
 rw[zmv,zmv,zne,zne,h1,h2]at this
 exact this
section
variable (b k:Nat)(l:List Int)(hl:l.length<=1000000000)(h8:By l)(cs:List (Nat×Nat))(hcs:∀c∈cs,YT c)(hcl:cs.length<=4096)(htot:vW cs<=4096)(hri:qM (cs.map (·.1)))
include hl h8 hcs hcl htot hri
theorem qmh(rest:List Int):∀(r:List (Nat×Nat)) (i p:Nat) (hp:Hp),cs.drop i=r->i<=cs.length->l.drop p=wG r++rest->p<=l.length->b<hp.next->hp.rd b 0=some (Rc k l p 0)->
 ∃hp',B58_5 (.ptr b 0 0) (S 2 5 (csL (cs.take i))) (.int .i64 (vW (cs.take i):Nat)) (.int .u64 (cs.length:Int)) (.int .u64 (i:Int)) hp=some (S 2 5 (csL cs),hp')/\hp'.rd b 0=some (Rc k l (p+(wG r).length) 0)/\hp.next<=hp'.next/\∀a,a<hp.next->a≠b->hp'.get a=hp.get a:=by
 intro r
 induction r with
 |nil=>
  intro i p hp h hil hd hpl hb hr
  have h1:=qK h
  have e:i=cs.length:=qe
  subst e
  have er:=qV b k l p 0 hp hr
  rw[zo6]
  refine⟨hp,?_,by simpa[wG]using hr,zmx _,fun _ _ _=>rfl⟩
  rw[qlw]
  generalize((vW cs:Nat):Int)=TT
  simp[qvf,er]
 |cons c r ih=>
  intro i p hp h hil hd hpl hb hr
  obtain⟨e1,e2,hi,e3⟩:=qt h
  have er0:wG (c::r)=yA c++wG r:=rfl
  rw[er0,znf]at hd
  rw[er0,zmt,<-Nat.add_assoc]
  have hcc:=hcs c (zm6 e1)
  have er:=qV b k l p 0 hp hr
  obtain⟨hp2,t1,t2,t3,t4⟩:=qmo b k l hl h8 c hcc _ p hp hd hpl hb hr
  have hd2:=qL hd
  have hpl2:=qW hpl hd
  obtain⟨hp3,a1,a2,a3,a4⟩:=ih (i+1) (p+(yA c).length) hp2 e2 hi hd2 hpl2 qe t2
  refine⟨hp3,?_,a2,qe,fun a h1 h2=>by rw[a4 a qe h2,t4 a h1 h2]⟩
  have et:cs.take (i+1)=cs.take i++[c]:=by rw[zo2,e1];rfl
  have etl:(cs.take i).length=i:=qi
  have ett:vW (cs.take (i+1))=vW (cs.take i)+zt c.2 256:=by rw[et,qpt];rfl
  have etot:vW (cs.take (i+1))<=vW cs:=by
   have:=qpt (cs.take (i+1)) (cs.drop (i+1))
   rw[zqz]at this
   omega
  have b11:=qxq b k l (p+(yA c).length) (cs.take i) qe c (vW (cs.take i)) cs.length qe hp2
  rw[etl,<-et,<-ett,a1]at b11
  have er2:=qV b k l (p+(yA c).length) 0 hp2 t2
  have hlt:(i:Int)<(cs.length:Int):=qe
  have ln:∀k',xK (S k' 5 (csL (cs.take i)))=some i:=fun k'=>by rw[Yc,etl]
  have b7:B58_7 (.ptr b 0 0) (S 2 5 (csL (cs.take i))) (.int .i64 (vW (cs.take i):Nat)) (.int .u64 (cs.length:Int)) (.int .u64 (i:Int)) hp=some (S 2 5 (csL cs),hp3):=by
   rw[<-b11,zcu]
   have c5:qn 5 (.agg (Cc c))=some (Cc c):=rfl
   have pz:qo Z5 0 (Cc c)=some (Cc c):=rfl
   have gs:ql (Cc c) 0=some (.int .u32 (c.1:Int)):=rfl
   unfold Z5 at pz
   by_cases h0:i=0
   ·subst h0
    generalize((vW (cs.take 0):Nat):Int)=TT at*
    generalize csL (cs.take 0)=L0 at*
    generalize Cc c=C at*
    simp[t1,c5,pz,ln]
   ·obtain⟨d,hd1⟩:∃d,cs[i-1]?=some d:=⟨_,zm0 qe⟩
    have hkd:=qnb cs (i-1) d c hri hd1 (by rw[show i-1+1=i by omega];exact e1)
    have hd2:(cs.take i)[i-1]?=some d:=by rw[zm8,if_pos qe];exact hd1
    have ix:∀k',jA 5 (S k' 5 (csL (cs.take i))) (.int .i64 ((i-1:Nat):Int))=some (Cc d):=fun k'=>wJ k' _ _ _ hd2
    have gs2:ql (Cc d) 0=some (.int .u32 (d.1:Int)):=rfl
    have w1:IntKind.i64.wrap ((i:Int)-1)=((i-1:Nat):Int):=qj
    have hpos:(0:Int)<(i:Int):=qe
    have hle:¬((c.1:Int)<=(d.1:Int)):=qe
    generalize((vW (cs.take i):Nat):Int)=TT at*
    generalize csL (cs.take i)=L0 at*
    generalize((i-1:Nat):Int)=I1 at*
    generalize(c.1:Int)=K1 at*
    generalize(d.1:Int)=K2 at*
    generalize Cc c=C at*
    generalize Cc d=D at*
    have hpos':0<i:=qe
    simp[t1,c5,pz,ln,hpos',er2,gs,w1,ix,gs2,hle]
  rw[qlw]
  generalize((vW (cs.take i):Nat):Int)=TT at*
  generalize csL (cs.take i)=L0 at*
  have hlt':i<cs.length:=hi
  simp[hlt',er,b7]
end
theorem QC(b k:Nat)(l:List Int)(hl:l.length<=1000000000)(h8:By l)(cs:List (Nat×Nat))(hcs:∀c∈cs,YT c)(hcl:cs.length<=4096)(htot:vW cs<=4096)(hri:qM (cs.map (·.1)))(p:Nat)(rest:List Int)(hd:l.drop p=jV cs++rest)(hp:Hp)(hpl:p<=l.length)(hb:b<hp.next)(hr:hp.rd b 0=some (Rc k l p 0)):
 ∃hp',run cxX 58 [.ptr b 0 0] hp=some (S 2 5 (csL cs),hp')/\hp'.rd b 0=some (Rc k l (p+(jV cs).length) 0)/\hp.next<=hp'.next/\∀a,a<hp.next->a≠b->hp'.get a=hp.get a:=by
 have ey:jV cs++rest=uv cs.length++(wG cs++rest):=by unfold jV;simp
 have el:(jV cs).length=(uv cs.length).length+(wG cs).length:=by unfold jV;simp
 rw[ey]at hd
 have t0:=zd b k l hl h8 (most:=4096) hd qe qe hp hpl hr
 have d0:=qL hd
 have q0:=qW hpl hd
 obtain⟨hp2,a1,a2,a3,a4⟩:=qmh b k l hl h8 cs hcs hcl htot hri rest cs 0 _ (hp.put b 0 (Rc k l (p+(uv cs.length).length) 0)) rfl (znl _) d0 q0 hb (qp _ _ _)
 refine⟨hp2,?_,by rw[a2,el,zoj],a3,fun a h1 h2=>by rw[a4 a h1 h2];simp[Hp.put,h2]⟩
 have lit:((4096:Nat):Int)=4096:=rfl
 rw[lit]at t0
 have a1':B58_5 (.ptr b 0 0) (S 2 1 []) (.int .i64 0) (.int .u64 (cs.length:Int)) (.int .u64 0) (hp.put b 0 (Rc k l (p+(uv cs.length).length) 0))=some (S 2 5 (csL cs),hp2):=a1
 rw[E58]
 simp[t0,a1']
section
variable (cs:List (Nat×Nat))(k:Nat)(hcs:∀c∈cs,YT c)(hcl:cs.length<=4096)
include hcs hcl
omit hcs in
theorem qx0(i:Nat)(hi:i<cs.length)(c:Nat×Nat)(hc:YT c)(hp:Hp):∀(f j:Nat) (acc:List Nat),j+f=256->acc.length+f<=900000->
 B59_6 (S 2 1 (LI .u32 (nz acc))) (S k 5 (csL cs)) (.int .i64 (cs.length:Int)) (.int .i64 (i:Int)) (.int .i64 (j:Int)) (Cc c) hp=
  B59_3 (S 2 1 (LI .u32 (nz (acc++KS c.1 c.2 f j)))) (S k 5 (csL cs)) (.int .i64 (cs.length:Int)) (.int .i64 ((i+1:Nat):Int)) hp:=by
 intro f
 induction f with
 |zero=>
  intro j acc hj ha
  have e:j=256:=qe
  subst e
  have e2:acc++KS c.1 c.2 0 256=acc:=by simp[KS]
  have w1:IntKind.i64.wrap ((i:Int)+1)=((i+1:Nat):Int):=qj
  rw[e2,qa1]
  generalize((i+1:Nat):Int)=I1 at*
  generalize nz acc=L0 at*
  simp[w1]
 |succ f ih=>
  intro j acc hj ha
  have hs:=Zs c j qe hp0
  have hlt:(j:Int)<256:=qe
  have w1:IntKind.i64.wrap ((j:Int)+1)=((j+1:Nat):Int):=qj
  have w2:IntKind.u8.wrap (j:Int)=(j:Int):=zy qe qe
  have w3:IntKind.u32.wrap (j:Int)=(j:Int):=qJ qe qe
  have g5:qr (Cc c) 0 5=some (Cc c):=rfl
  have gs:ql (Cc c) 0=some (.int .u32 (c.1:Int)):=rfl
  have rm:(Cc c).map ro1=Cc c:=rfl
  by_cases hb:c.2.testBit j=true
  ·have e2:acc++KS c.1 c.2 (f+1) j=acc++[c.1*256+j]++KS c.1 c.2 f (j+1):=by rw[KS,if_pos hb];simp
   have i2:=ih (j+1) (acc++[c.1*256+j]) qe qi
   have ap:=QZ .u32 (nz acc) 2 (.inr rfl) 4 qh ((c.1*256+j:Nat):Int) qi
   have hk:=hc.1
   have sl:∀t o o',qx Tryz.prog .shl t o o' (.int .u32 (c.1:Int)) (.int .u64 8)=some (.int .u32 ((c.1*256:Nat):Int)):=by
    intro t o o'
    rw[zW _ _ _ _ _ _ _ _ qe]
    have e:(2:Int)^min (8:Int).toNat IntKind.u32.bits=256:=rfl
    rw[e,qJ qe qe]
    rfl
   have o:∀t x y,qx Tryz.prog .or t x y (.int .u32 ((c.1*256:Nat):Int)) (.int .u32 (j:Int))=some (.int .u32 ((c.1*256+j:Nat):Int)):=by
    intro t x y
    rw[zR]
    have e:(BitVec.ofInt IntKind.u32.bits ((c.1*256:Nat):Int)|||BitVec.ofInt IntKind.u32.bits (j:Int)).toNat=c.1*256+j:=by
     show(BitVec.ofInt 32 ((c.1*256:Nat):Int)|||BitVec.ofInt 32 (j:Int)).toNat=_
     rw[zpd,znh,znh]
     have e1:(((c.1*256:Nat):Int)%((2^32:Nat):Int)).toNat=2^8*c.1:=qe
     have e2:((j:Int)%((2^32:Nat):Int)).toNat=j:=qe
     rw[e1,e2,<-Nat.two_pow_add_eq_or_of_lt qe c.1]
     omega
    rw[e,qJ qe qe]
   rw[<-yO]at ap
   rw[e2,<-i2,qa1]
   generalize((c.1*256:Nat):Int)=Q1 at*
   generalize((c.1*256+j:Nat):Int)=Q2 at*
   generalize((j+1:Nat):Int)=I1 at*
   generalize nz (acc++[c.1*256+j])=L1 at*
   generalize nz acc=L0 at*
   unfold Cc at*
   generalize((zX c.2 0:Nat):Int)=W0 at*
   generalize((zX c.2 1:Nat):Int)=W1 at*
   generalize((zX c.2 2:Nat):Int)=W2 at*
   generalize((zX c.2 3:Nat):Int)=W3 at*
   generalize(c.1:Int)=K1 at*
   simp[hlt,qr,yi,w2,hs,hb,gs,sl,Xn,w3,o,yF,ap,qdw,w1,-zR]
  ·have e2:acc++KS c.1 c.2 (f+1) j=acc++KS c.1 c.2 f (j+1):=by rw[KS,if_neg hb]
   have i2:=ih (j+1) acc qe qe
   rw[e2,<-i2,qa1]
   generalize((j+1:Nat):Int)=I1 at*
   generalize nz acc=L0 at*
   unfold Cc at*
   generalize((zX c.2 0:Nat):Int)=W0 at*
   generalize((zX c.2 1:Nat):Int)=W1 at*
   generalize((zX c.2 2:Nat):Int)=W2 at*
   generalize((zX c.2 3:Nat):Int)=W3 at*
   generalize(c.1:Int)=K1 at*
   simp[hlt,qr,yi,w2,hs,hb,qdw,w1]
theorem qml(hp:Hp):∀(r:List (Nat×Nat)) (i:Nat) (acc:List Nat),cs.drop i=r->acc.length+vW r<=800000->i<=cs.length->
 B59_3 (S 2 1 (LI .u32 (nz acc))) (S k 5 (csL cs)) (.int .i64 (cs.length:Int)) (.int .i64 (i:Int)) hp=some (S 2 1 (LI .u32 (nz (acc++lsC r))),hp):=by
 intro r
 induction r with
 |nil=>
  intro i acc h ha hil
  have h1:=qK h
  have e:i=cs.length:=qe
  subst e
  have e2:acc++lsC []=acc:=by simp[lsC]
  rw[e2,qlv]
  generalize nz acc=L0 at*
  simp
 |cons c r ih=>
  intro i acc h ha hil
  obtain⟨e1,e2,hi,e3⟩:=qt h
  have hcc:=hcs c (zm6 e1)
  have ll:=qqf c.1 c.2 256 0
  have ll0:zt c.2 0=0:=rfl
  rw[ll0,zm4,zoi]at ll
  have et:vW (c::r)=zt c.2 256+vW r:=rfl
  rw[et]at ha
  have lp:=vx c.2 256
  have si:=qx0 cs k hcl i hi c hcc hp 256 0 acc rfl qe
  have i2:=ih (i+1) (acc++KS c.1 c.2 256 0) e2 qi hi
  have el:acc++lsC (c::r)=acc++KS c.1 c.2 256 0++lsC r:=by show acc++(KS c.1 c.2 256 0++lsC r)=_;simp
  rw[i2]at si
  rw[el,<-si,qlv]
  have hlt:(i:Int)<(cs.length:Int):=qe
  have hlt':i<cs.length:=hi
  have ix:=wJ k cs i c e1
  have g5:qr (Cc c) 0 5=some (Cc c):=rfl
  have c5:qn 5 (.agg (Cc c))=some (Cc c):=rfl
  have pz:qo Z5 0 (Cc c)=some (Cc c):=rfl
  unfold Z5 at pz
  generalize nz acc=L0 at*
  generalize csL cs=L1 at*
  unfold Cc at*
  generalize((zX c.2 0:Nat):Int)=W0 at*
  generalize((zX c.2 1:Nat):Int)=W1 at*
  generalize((zX c.2 2:Nat):Int)=W2 at*
  generalize((zX c.2 3:Nat):Int)=W3 at*
  generalize(c.1:Int)=K1 at*
  simp[hlt',ix,qr,qn,pz]
theorem qr6(ht:vW cs<=4096)(hp:Hp):run cxX 59 [S k 5 (csL cs)] hp=some (S 2 1 (LI .u32 (nz (lsC cs))),hp):=by
 have a:=qml cs (rk k) hcs hcl hp cs 0 [] rfl (by simp only[znd];omega) (znl _)
 have ln:=Yc (rk k) cs
 have a':B59_3 (S 2 1 []) (S (rk k) 5 (csL cs)) (.int .i64 (cs.length:Int)) (.int .i64 0) hp=some (S 2 1 (LI .u32 (nz (lsC cs))),hp):=a
 rw[E59]
 generalize csL cs=L1 at*
 simp[ln,a']
end
theorem zde(m n j:Nat):zX (m|||n) j=zX m j|||zX n j:=by
 apply zn5
 intro x
 rw[JN,znt,znt,JN,JN]
 cases decide (x<64)<;>simp
theorem zdy(a b:Nat)(ha:a<18446744073709551616)(hb:b<18446744073709551616)(hp:Hp):run cxX 157 [.sc (.int .u64 (a:Int)),.sc (.int .u64 (b:Int))] hp=some (.sc (.int .u64 ((a|||b:Nat):Int)),hp):=by
 have o:=ze0 a b ha hb
 rw[E157]
 generalize((a|||b:Nat):Int)=c at*
 simp[o,-zR]
theorem qki(c:Nat×Nat)(r:List (Nat×Nat)):csL (c::r)=Cc c++csL r:=rfl
theorem qfz(k:Nat)(c:Nat×Nat)(r:List (Nat×Nat)):∃t,yq 5 (S k 5 (csL (c::r))) (some (.int .i64 1)) none none=some (S t 5 (csL r)):=by
 have l5:(Cc c).length=5:=rfl
 have hl:(csL (c::r)).length=5*(r.length+1):=by rw[kP];rfl
 have n5:(csL (c::r)).length/5=r.length+1:=by rw[hl];omega
 have hb:zo 0 ((r.length+1:Nat):Int) (some (.int .i64 ((1:Nat):Int))) 0=some 1:=xO .i64 qe
 have cut:((csL (c::r)).drop (1*5)).take ((r.length+1-1)*5)=csL r:=by
  rw[qki,zqx,l5,zn1 (by rw[l5];omega),znn]
  have:(1:Nat)*5-5=0:=rfl
  rw[this,zou,znr (by rw[kP];omega)]
 have key:∀s:AV,(s= .sl 5 (csL (c::r))\/s= .us 5 (csL (c::r)))->yq 5 s (some (.int .i64 1)) none none=some (.sl 5 (csL r)):=by
  rintro s (e|e)<;>subst e
  all_goals
   simp only[yq,if_true]
   have h51:¬((5:Nat)=1):=qh
   simp only[if_neg h51,n5]
   show(zo 0 _ none _).bind _=_
   simp only[qao,zmw]
   have hb':zo 0 ((r.length+1:Nat):Int) (some (.int .i64 1)) 0=some 1:=hb
   rw[hb']
   simp only[zmw,cut]
 have hne:csL (c::r)≠[]:=by rw[qki];simp
 refine⟨0,?_⟩
 rcases jn k 5 (csL (c::r))with e|e|⟨e,e'⟩
 ·rw[e];exact key _ (.inl rfl)
 ·rw[e];exact key _ (.inr rfl)
 ·exact absurd e' hne
theorem qtr(cs:List (Nat×Nat))(k:Nat)(hcl:cs.length<=100000)(ht:vW cs<=1000000)(hp:Hp):∀(r:List (Nat×Nat)) (i n:Nat),cs.drop i=r->i+r.length=cs.length->n+vW r<=1000000->
 B99_3 (.int .i64 (n:Int)) (S k 5 (csL cs)) (.int .i64 (cs.length:Int)) (.int .i64 (i:Int)) hp=some (.sc (.int .i64 ((n+vW r:Nat):Int)),hp):=by
 intro r
 induction r with
 |nil=>
  intro i n h hil hn
  simp at hil
  have hlt:¬(i<cs.length):=qe
  rw[qla]
  simp[hlt,vW]
 |cons c r ih=>
  intro i n h hil hn
  obtain⟨e1,e2,hi,e3⟩:=qt h
  simp only[zmu]at hil
  have et:vW (c::r)=zt c.2 256+vW r:=rfl
  rw[et]at hn⊢
  have i1:=ih (i+1) (n+zt c.2 256) e2 qe qe
  have ix:=wJ k cs i c e1
  have mn:=wW c hp0
  have w1:IntKind.i64.wrap ((n:Int)+((zt c.2 256:Nat):Int))=((n+zt c.2 256:Nat):Int):=qj
  have w2:IntKind.i64.wrap ((i:Int)+1)=((i+1:Nat):Int):=qj
  rw[qla]
  have ea:n+(zt c.2 256+vW r)=n+zt c.2 256+vW r:=qe
  rw[ea]
  generalize((n+zt c.2 256+vW r:Nat):Int)=R at*
  generalize((n+zt c.2 256:Nat):Int)=N at*
  generalize((zt c.2 256:Nat):Int)=P at*
  generalize((i+1:Nat):Int)=I at*
  simp[hi,ix,qr,qo,mn,w1,w2,i1]
theorem qr5(cs:List (Nat×Nat))(k:Nat)(hcl:cs.length<=100000)(ht:vW cs<=1000000)(hp:Hp):run cxX 99 [S k 5 (csL cs)] hp=some (.sc (.int .i64 (vW cs:Nat)),hp):=by
 have h:=qtr cs (rk k) hcl ht hp cs 0 0 rfl qg qe
 have ln:=Yc (rk k) cs
 rw[E99]
 simp at h
 simp[ln,h]
def Wj(key m j:Nat):List AV:=[.sc (.int .u32 (key:Int)),.sc (.int .u64 ((if 0<j then zX m 0 else 0:Nat):Int)),.sc (.int .u64 ((if 1<j then zX m 1 else 0:Nat):Int)),.sc (.int .u64 ((if 2<j then zX m 2 else 0:Nat):Int)),.sc (.int .u64 ((if 3<j then zX m 3 else 0:Nat):Int))]
section
variable (x7 x0 x1:AV)(c d:Nat×Nat)(key:Nat)(out:List (Nat×Nat))(ho:out.length<=100000)(hp:Hp)
include ho
theorem qhe(hk:0<zt (c.2|||d.2) 256):
 B156_10 x0 x1 (.fn 157 []) (S 2 5 (csL out)) (Cc c) (Cc d) hp=B156_2 x0 x1 (.fn 157 []) (S 2 5 (csL (out++[(d.1,c.2|||d.2)]))) hp:=by
 have st:∀j:Nat,j<4->B156_12 x0 x1 (.fn 157 []) (S 2 5 (csL out)) (.int .i64 (j:Int)) (Cc c) (Cc d) (Wj d.1 (c.2|||d.2) j) hp=B156_12 x0 x1 (.fn 157 []) (S 2 5 (csL out)) (.int .i64 ((j+1:Nat):Int)) (Cc c) (Cc d) (Wj d.1 (c.2|||d.2) (j+1)) hp:=by
  intro j hj
  have o:=zdy (zX c.2 j) (zX d.2 j) (Qt _ _) (Qt _ _) hp0
  rw[<-zde]at o
  have ix:idx 4 (.int .i64 (j:Int))=some j:=zp .i64 hj
  have g1:=Qj c j hj
  have g2:=Qj d j hj
  have w2:IntKind.i64.wrap ((j:Int)+1)=((j+1:Nat):Int):=qj
  have hlt:(j:Int)<4:=qe
  have pn:qo (Wj d.1 (c.2|||d.2) j) (Nat.add 1 (Nat.add 0 j)) [.sc (.int .u64 ((zX (c.2|||d.2) j:Nat):Int))]=some (Wj d.1 (c.2|||d.2) (j+1)):=by
   have:j=0\/j=1\/j=2\/j=3:=qe
   rcases this with e|e|e|e<;>subst e<;>rfl
  have gf:Xf (.fn 157 [])=some (157,[]):=rfl
  have rf:ro (.fn 157 [])= .fn 157 []:=rfl
  rw[qa8]
  generalize Wj d.1 (c.2|||d.2) (j+1)=Z1 at*
  generalize Wj d.1 (c.2|||d.2) j=Z0 at*
  generalize((j+1:Nat):Int)=J at*
  generalize((zX (c.2|||d.2) j:Nat):Int)=W at*
  generalize Cc c=C1 at*
  generalize Cc d=C2 at*
  simp only[zqf,zm4]at g1 g2 pn
  simp[hlt,ix,g1,g2,gf,rf,o,pn,w2]
 have mn:=wW (d.1,c.2|||d.2) hp0
 have ap:=zb5 out (d.1,c.2|||d.2) ho
 have e4:Wj d.1 (c.2|||d.2) 4=Cc (d.1,c.2|||d.2):=rfl
 have e0:Wj d.1 (c.2|||d.2) 0=[.sc (.int .u32 (d.1:Int)),.sc (.int .u64 0),.sc (.int .u64 0),.sc (.int .u64 0),.sc (.int .u64 0)]:=rfl
 have s0:=st 0 qh
 have s1:=st 1 qh
 have s2:=st 2 qh
 have s3:=st 3 qh
 simp only[zm4,Nat.reduceAdd,zpl]at s0 s1 s2 s3
 rw[s1,s2,s3,e4,e0]at s0
 have hk':(0:Int)<((zt (c.2|||d.2) 256:Nat):Int):=qe
 have gs:ql (Cc d) 0=some (.int .u32 (d.1:Int)):=rfl
 have e10:B156_10 x0 x1 (.fn 157 []) (S 2 5 (csL out)) (Cc c) (Cc d) hp=B156_12 x0 x1 (.fn 157 []) (S 2 5 (csL out)) (.int .i64 0) (Cc c) (Cc d) [.sc (.int .u32 (d.1:Int)),.sc (.int .u64 0),.sc (.int .u64 0),.sc (.int .u64 0),.sc (.int .u64 0)] hp:=by
  rw[qpe]
  generalize Cc c=C1 at*
  generalize Cc d=C2 at*
  simp[gs]
 obtain⟨C3,hC3⟩:∃C3,C3=Cc (d.1,c.2|||d.2):=⟨_,rfl⟩
 have ro5:C3.map ro1=C3:=by rw[hC3];rfl
 have g5:qr C3 0 5=some C3:=by rw[hC3];rfl
 have l5:C3.length=5:=by rw[hC3];rfl
 have v5:C3.all vl=true:=by rw[hC3];rfl
 have p5:∀a b c d e:AV,qo [a,b,c,d,e] 0 C3=some C3:=fun _ _ _ _ _=>by rw[hC3];rfl
 rw[e10,s0,qa8]
 rw[<-hC3]at mn ap⊢
 simp[-List.all_eq_true,-List.map_map,-List.all_map,g5,ro5,mn,hk,l5,p5,v5,ap]
end
theorem quu:∀(n:Nat) (a b out:List (Nat×Nat)) (k k':Nat) (hp:Hp),a.length+b.length<=n->out.length+n<=100000->(∀c∈a,0<zt c.2 256)->(∀c∈b,0<zt c.2 256)->(∀c∈a,c.1<4294967296)->(∀c∈b,c.1<4294967296)->
 B156_2 (S k 5 (csL a)) (S k' 5 (csL b)) (.fn 157 []) (S 2 5 (csL out)) hp=some (S 2 5 (csL (out++Zm a b)),hp):=by
 intro n
 induction n with
 |zero=>
  intro a b out k k' hp hn ho ha hb ha1 hb1
  have e1:a=[]:=zm9.mp qe
  have e2:b=[]:=zm9.mp qe
  subst e1;subst e2
  have l0:∀k,xK (S k 5 (csL []))=some 0:=fun k=>Yc k []
  rw[qep]
  simp[l0]
 |succ n ih=>
  intro a b out k k' hp hn ho ha hb ha1 hb1
  have la:=fun k=>Yc k a
  have lb:=fun k=>Yc k b
  have wl:IntKind.i64.wrap ((a.length:Int)+(b.length:Int))=(a.length:Int)+(b.length:Int):=qm qe qe
  --the first one's chunk alone
  have goA:∀(c:Nat×Nat) (r:List (Nat×Nat)),a=c::r->B156_6 (S k 5 (csL a)) (S k' 5 (csL b)) (.fn 157 []) (S 2 5 (csL out)) [.sc (.int .u32 0),.sc (.int .u64 0),.sc (.int .u64 0),.sc (.int .u64 0),.sc (.int .u64 0)] [.sc (.int .u32 0),.sc (.int .u64 0),.sc (.int .u64 0),.sc (.int .u64 0),.sc (.int .u64 0)] hp=some (S 2 5 (csL (out++c::Zm r b)),hp):=by
   intro c r e
   subst e
   obtain⟨t,sl⟩:=qfz (rk k) c r
   have ix:∀k,jA 5 (S k 5 (csL (c::r))) (.int .i64 0)=some (Cc c):=fun k=>wJ k (c::r) 0 c rfl
   have pc:=ha c qg
   have e0:Cc (c.1,0)=[.sc (.int .u32 (c.1:Int)),.sc (.int .u64 0),.sc (.int .u64 0),.sc (.int .u64 0),.sc (.int .u64 0)]:=by simp[VJ]
   have inn:=qhe (S t 5 (csL r)) (S k' 5 (csL b)) c (c.1,0) out qe hp (by rw[Nat.or_zero];exact pc)
   have i1:=ih r b (out++[c]) t k' hp (by simp at hn;omega) qi (fun x hx=>ha x (by simp[hx])) hb (fun x hx=>ha1 x (by simp[hx])) hb1
   have ec:(c.1,c.2|||0)=c:=by rw[Nat.or_zero]
   have ec2:((c.1,0):Nat×Nat).1=c.1:=rfl
   simp only[ec2,Nat.or_zero]at inn
   rw[e0]at inn
   have el:out++[c]++Zm r b=out++c::Zm r b:=qg
   rw[el]at i1
   rw[i1]at inn
   have g5:qr (Cc c) 0 5=some (Cc c):=rfl
   have r5:(Cc c).map ro1=Cc c:=rfl
   have l5:(Cc c).length=5:=rfl
   have p5:∀a b d e f:AV,qo [a,b,d,e,f] 0 (Cc c)=some (Cc c):=fun _ _ _ _ _=>rfl
   have s5:ql (Cc c) 0=some (.int .u32 (c.1:Int)):=rfl
   have q5:∀a b d e f z:AV,qo [a,b,d,e,f] 0 [z]=some [z,b,d,e,f]:=fun _ _ _ _ _ _=>rfl
   rw[qwk]
   generalize Cc c=C1 at*
   simp[ix,g5,sl,r5,l5,p5,s5,q5,inn]
  have goB:∀(d:Nat×Nat) (s:List (Nat×Nat)),b=d::s->B156_9 (S k 5 (csL a)) (S k' 5 (csL b)) (.fn 157 []) (S 2 5 (csL out)) [.sc (.int .u32 0),.sc (.int .u64 0),.sc (.int .u64 0),.sc (.int .u64 0),.sc (.int .u64 0)] [.sc (.int .u32 0),.sc (.int .u64 0),.sc (.int .u64 0),.sc (.int .u64 0),.sc (.int .u64 0)] hp=some (S 2 5 (csL (out++d::Zm a s)),hp):=by
   intro d s e
   subst e
   obtain⟨t,sl⟩:=qfz (rk k') d s
   have ix:∀k,jA 5 (S k 5 (csL (d::s))) (.int .i64 0)=some (Cc d):=fun k=>wJ k (d::s) 0 d rfl
   have pd:=hb d qg
   have e0:Cc (0,0)=[.sc (.int .u32 0),.sc (.int .u64 0),.sc (.int .u64 0),.sc (.int .u64 0),.sc (.int .u64 0)]:=by simp[VJ]
   have inn:=qhe (S k 5 (csL a)) (S t 5 (csL s)) (0,0) d out qe hp (by rw[Nat.zero_or];exact pd)
   have i1:=ih a s (out++[d]) k t hp (by simp at hn;omega) qi ha (fun x hx=>hb x (by simp[hx])) ha1 (fun x hx=>hb1 x (by simp[hx]))
   simp only[Nat.zero_or]at inn
   rw[e0]at inn
   have el:out++[d]++Zm a s=out++d::Zm a s:=qg
   rw[el]at i1
   rw[i1]at inn
   have g5:qr (Cc d) 0 5=some (Cc d):=rfl
   have r5:(Cc d).map ro1=Cc d:=rfl
   have l5:(Cc d).length=5:=rfl
   have p5:∀a b c e f:AV,qo [a,b,c,e,f] 0 (Cc d)=some (Cc d):=fun _ _ _ _ _=>rfl
   rw[qwj]
   generalize Cc d=C1 at*
   simp[ix,g5,sl,r5,l5,p5,inn]
  have Qi:∀(c d:Nat×Nat) (r s:List (Nat×Nat)),a=c::r->b=d::s->c.1=d.1->B156_4 (S k 5 (csL a)) (S k' 5 (csL b)) (.fn 157 []) (S 2 5 (csL out)) [.sc (.int .u32 0),.sc (.int .u64 0),.sc (.int .u64 0),.sc (.int .u64 0),.sc (.int .u64 0)] [.sc (.int .u32 0),.sc (.int .u64 0),.sc (.int .u64 0),.sc (.int .u64 0),.sc (.int .u64 0)] hp=some (S 2 5 (csL (out++(c.1,c.2|||d.2)::Zm r s)),hp):=by
   intro c d r s e e2 ek
   subst e;subst e2
   obtain⟨t,sl⟩:=qfz (rk k) c r
   obtain⟨t',sl'⟩:=qfz (rk k') d s
   have ix:∀k,jA 5 (S k 5 (csL (c::r))) (.int .i64 0)=some (Cc c):=fun k=>wJ k (c::r) 0 c rfl
   have ix':∀k,jA 5 (S k 5 (csL (d::s))) (.int .i64 0)=some (Cc d):=fun k=>wJ k (d::s) 0 d rfl
   have pc:=ha c qg
   have inn:=qhe (S t 5 (csL r)) (S t' 5 (csL s)) c d out qe hp (by have:=qgh c.2 d.2 256;omega)
   rw[<-ek]at inn
   have i1:=ih r s (out++[(c.1,c.2|||d.2)]) t t' hp (by simp at hn;omega) qi (fun x hx=>ha x (by simp[hx])) (fun x hx=>hb x (by simp[hx])) (fun x hx=>ha1 x (by simp[hx])) (fun x hx=>hb1 x (by simp[hx]))
   have el:out++[(c.1,c.2|||d.2)]++Zm r s=out++(c.1,c.2|||d.2)::Zm r s:=qg
   rw[el]at i1
   rw[i1]at inn
   have g5:qr (Cc c) 0 5=some (Cc c):=rfl
   have r5:(Cc c).map ro1=Cc c:=rfl
   have l5:(Cc c).length=5:=rfl
   have p5:∀a b d e f:AV,qo [a,b,d,e,f] 0 (Cc c)=some (Cc c):=fun _ _ _ _ _=>rfl
   have g5':qr (Cc d) 0 5=some (Cc d):=rfl
   have r5':(Cc d).map ro1=Cc d:=rfl
   have l5':(Cc d).length=5:=rfl
   have p5':∀a b c e f:AV,qo [a,b,c,e,f] 0 (Cc d)=some (Cc d):=fun _ _ _ _ _=>rfl
   rw[qwl]
   generalize Cc c=C1 at*
   generalize Cc d=C2 at*
   simp[ix,ix',g5,sl,sl',r5,l5,p5,g5',r5',l5',p5',inn]
  rw[qep]
  cases a with
  |nil=>
   cases b with
   |nil=>
    simp at la lb
    simp[la,lb]
   |cons d s=>
    have g:=goB d s rfl
    have lpos:¬((s.length:Int)+1=0):=qe
    have lp2:(0:Int)<(s.length:Int)+1:=qe
    have b8:B156_8 (S k 5 (csL [])) (S k' 5 (csL (d::s))) (.fn 157 []) (S 2 5 (csL out)) [.sc (.int .u32 0),.sc (.int .u64 0),.sc (.int .u64 0),.sc (.int .u64 0),.sc (.int .u64 0)] [.sc (.int .u32 0),.sc (.int .u64 0),.sc (.int .u64 0),.sc (.int .u64 0),.sc (.int .u64 0)] hp=some (S 2 5 (csL (out++d::Zm [] s)),hp):=by
     rw[<-g,qeo]
     simp only[znd]at la
     simp[la]
    rw[qtb]at b8⊢
    simp only[znd,zmu]at la lb wl
    simp at wl
    simp[la,lb,wl,lpos,lp2,b8]
  |cons c r=>
   cases b with
   |nil=>
    have g:=goA c r rfl
    have lp2:(0:Int)<(r.length:Int)+1:=qe
    rw[qta]at g⊢
    simp only[znd,zmu]at la lb wl
    simp at wl
    simp[la,lb,wl,lp2,g]
   |cons d s=>
    have ixc:∀k,jA 5 (S k 5 (csL (c::r))) (.int .i64 0)=some (Cc c):=fun k=>wJ k (c::r) 0 c rfl
    have ixd:∀k,jA 5 (S k 5 (csL (d::s))) (.int .i64 0)=some (Cc d):=fun k=>wJ k (d::s) 0 d rfl
    have sc5:ql (Cc c) 0=some (.int .u32 (c.1:Int)):=rfl
    have sd5:ql (Cc d) 0=some (.int .u32 (d.1:Int)):=rfl
    have n1:¬((s.length:Int)+1=0):=qe
    have n2:(0:Int)<(r.length:Int)+1:=qe
    have n3:¬((r.length:Int)+1=0):=qe
    have n4:(0:Int)<(r.length:Int)+1+((s.length:Int)+1):=qe
    have gA:=goA c r rfl
    have gB:=goB d s rfl
    have gC:=Qi c d r s rfl rfl
    simp only[zmu]at la lb wl
    simp only[zq5,zq6,zpl]at wl
    rw[jQ]
    have b8:¬(c.1<d.1)->B156_8 (S k 5 (csL (c::r))) (S k' 5 (csL (d::s))) (.fn 157 []) (S 2 5 (csL out)) [.sc (.int .u32 0),.sc (.int .u64 0),.sc (.int .u64 0),.sc (.int .u64 0),.sc (.int .u64 0)] [.sc (.int .u32 0),.sc (.int .u64 0),.sc (.int .u64 0),.sc (.int .u64 0),.sc (.int .u64 0)] hp=some (S 2 5 (csL (out++if d.1<c.1 then d::Zm (c::r) s else(c.1,c.2|||d.2)::Zm r s)),hp):=by
     intro hn1
     rw[qeo]
     by_cases l2:d.1<c.1
     ·rw[if_pos l2]
      generalize Cc c=C1 at*
      generalize Cc d=C2 at*
      simp[la,n3,ixc,ixd,sc5,sd5,l2,gB]
     ·rw[if_neg l2]
      have gC:=gC qe
      generalize Cc c=C1 at*
      generalize Cc d=C2 at*
      simp[la,n3,ixc,ixd,sc5,sd5,l2,gC]
    by_cases l1:c.1<d.1
    ·rw[if_pos l1]
     generalize Cc c=C1 at*
     generalize Cc d=C2 at*
     simp[la,lb,wl,n1,n2,n4,ixc,ixd,sc5,sd5,l1,gA]
    ·rw[if_neg l1]
     have b8:=b8 l1
     generalize Cc c=C1 at*
     generalize Cc d=C2 at*
     simp[la,lb,wl,n1,n2,n4,ixc,ixd,sc5,sd5,l1,b8]
theorem zdx(a b:List (Nat×Nat))(k k':Nat)(hl:a.length+b.length<=100000)(ha:∀c∈a,YT c)(hb:∀c∈b,YT c)(hp:Hp):run cxX 98 [S k 5 (csL a),S k' 5 (csL b)] hp=some (S 2 5 (csL (Zm a b)),hp):=by
 have h:=fun k k'=>quu (a.length+b.length) a b [] k k' hp0 (zmx _) (by simpa using hl) (fun c hc=>(ha c hc).2.2) (fun c hc=>(hb c hc).2.2) (fun c hc=>by have:=(ha c hc).1;omega) (fun c hc=>by have:=(hb c hc).1;omega)
 have h2:∀k k',run cxX 156 [S k 5 (csL a),S k' 5 (csL b),.fn 157 []] hp0=some (S 2 5 (csL (Zm a b)),hp0):=by
  intro k k'
  have e0:csL []=[]:=rfl
  have:=h k k'
  have e5:S 2 5 []=S 2 1 []:=rfl
  rw[e0,e5]at this
  rw[E156]
  simpa using this
 have rf:ro (.fn 157 [])= .fn 157 []:=rfl
 rw[E98]
 simp[rf,h2]
abbrev Fu(n last kk:Nat)(T1 T2:AV)(b1 b2 i up:Nat):List AV:=[.sc (.int .i64 (n:Int)),.sc (.int .u32 (last:Int)),.sc (.int .i64 (kk:Int)),T1,T2,.ptr b1 0 0,.ptr b2 0 0,.sc (.int .i64 (i:Int)),.sc (.int .u32 (up:Int))]
theorem qnl(q k g:Nat)(hq:q=g/2^k)(hg:g<4294967296)(t:TypeId)(o o':Operand):qx Tryz.prog .or t o o' (.int .u32 ((q*2^k:Nat):Int)) (.int .u32 ((g%2^k:Nat):Int))=some (.int .u32 (g:Int)):=by
 rw[zR]
 have hmul:g/2^k*2^k<=g:=zn9 _ _
 have hmod:g%2^k<=g:=Nat.mod_le _ _
 have hlt:g%2^k<2^k:=zpt _ (zo4 _)
 have hdm:=Nat.div_add_mod g (2^k)
 have e:(BitVec.ofInt IntKind.u32.bits ((q*2^k:Nat):Int)|||BitVec.ofInt IntKind.u32.bits ((g%2^k:Nat):Int)).toNat=g:=by
  show(BitVec.ofInt 32 ((q*2^k:Nat):Int)|||BitVec.ofInt 32 ((g%2^k:Nat):Int)).toNat=_
  subst hq
  rw[zpd,znh,znh]
  have e1:(((g/2^k*2^k:Nat):Int)%((2^32:Nat):Int)).toNat=2^k*(g/2^k):=by rw[znz (2^k)];omega
  have e2:(((g%2^k:Nat):Int)%((2^32:Nat):Int)).toNat=g%2^k:=qe
  rw[e1,e2,<-Nat.two_pow_add_eq_or_of_lt hlt (g/2^k)]
  omega
 rw[e,qJ qe qe]
theorem qim(n last kk t1 t2:Nat)(A B:List Int)(hp:Hp):
 run cxX 112 [.agg [.sc (.int .i64 (n:Int)),.sc (.int .u32 (last:Int)),.sc (.int .i64 (kk:Int)),S t1 1 (LI .u8 A),S t2 1 (LI .u8 B)]] hp=
  some (.ptr (hp.next+2) 0 0,((hp.new (Rb (rk t1) A 0 false)).new (Rb (rk t2) B 0 false)).new (Fu n last kk (S (rk t1) 1 (LI .u8 A)) (S (rk t2) 1 (LI .u8 B)) hp.next (hp.next+1) 0 0)):=by
 have r1:=Jg (rk t1) A hp
 have r2:=Jg (rk t2) B (hp.new (Rb (rk t1) A 0 false))
 simp only[Wp]at r1 r2
 have n1:(hp.new (Rb (rk t1) A 0 false)).next=hp.next+1:=rfl
 have n2:((hp.new (Rb (rk t1) A 0 false)).new (Rb (rk t2) B 0 false)).next=hp.next+2:=rfl
 rw[n1]at r2
 rw[E112]
 generalize hp.new (Rb (rk t1) A 0 false)=H1 at*
 generalize H1.new (Rb (rk t2) B 0 false)=H2 at*
 simp[qn,qr,qs,r1,r2,qo,n2]
 rfl
section
variable (n last kk t1 t2:Nat)(T1 T2:AV)(A B:List Int)(c b1 b2:Nat)(hkk:kk<=32)(hn:n<=4096)(hlast:last<4294967296)(hq:last/2^kk<=8192)(hA:A.length<=100000000)(hB:B.length<=100000000)(A8:By A)(B8:By B)(h1:c≠b1)(h2:c≠b2)(h12:b1≠b2)
include hkk hn hlast hq hA hB A8 B8 h1 h2 h12
theorem qcf(i up x q1 q2:Nat)(hi:i<n)(hx:x<=last)(hup:up<=x/2^kk)(hp:Hp)(h:hp.rd c 0=some (Fu n last kk T1 T2 b1 b2 i up))(r1:hp.rd b1 0=some (Rb t1 A q1 false))(r2:hp.rd b2 0=some (Rb t2 B q2 false))(a1:At A q1 (xW x kk))(a2:At B q2 (una (x/2^kk-up))):
 ∃hp',run cxX 113 [.ptr c 0 0] hp=some (.tup [.sc (.int .u32 (x:Int)),.sc (.bool true)],hp')/\hp'.rd c 0=some (Fu n last kk T1 T2 b1 b2 (i+1) (x/2^kk))/\
  hp'.rd b1 0=some (Rb t1 A (q1+(xW x kk).length) false)/\hp'.rd b2 0=some (Rb t2 B (q2+(una (x/2^kk-up)).length) false)/\hp'.next=hp.next/\∀a,a≠c->a≠b1->a≠b2->hp'.get a=hp.get a:=by
 have hxl:x/2^kk<=last/2^kk:=zo9 hx
 have hmul:x/2^kk*2^kk<=x:=zn9 _ _
 have hmod:x%2^kk<=x:=Nat.mod_le _ _
 have os:=qnl (x/2^kk) kk x rfl qe
 have l1:=a1.1
 have l2:=a2.1
 rw[qgr]at l1⊢
 rw[Yw]at l2⊢
 have un:=Wk b2 t2 B q2 false hp hB B8 (last/2^kk+1) qe qe r2
 rw[qy6 a2 qe]at un
 have e1:q2+(x/2^kk-up)+1=q2+(x/2^kk-up+1):=qe
 rw[e1]at un
 let H1:=hp.put b2 0 (Rb t2 B (q2+(x/2^kk-up+1)) false)
 have H1c:H1.rd c 0=some (Fu n last kk T1 T2 b1 b2 i up):=by show(hp.put b2 0 _).rd c 0=_;rw[qB _ _ h2];exact h
 let H2:=H1.put c 0 (Fu n last kk T1 T2 b1 b2 i (x/2^kk))
 have H2c:H2.rd c 0=some (Fu n last kk T1 T2 b1 b2 i (x/2^kk)):=qp _ _ _
 have H2b:H2.rd b1 0=some (Rb t1 A q1 false):=by
  show((hp.put b2 0 _).put c 0 _).rd b1 0=_
  rw[qB _ _ (fun e=>h1 e.symm),qB _ _ h12];exact r1
 have tk:=qcm b1 t1 A q1 false H2 hA A8 kk qe qe H2b
 rw[zg1 A x kk 0 _ a1,zpu,zm4]at tk
 let H3:=H2.put b1 0 (Rb t1 A (q1+kk) false)
 have H3c:H3.rd c 0=some (Fu n last kk T1 T2 b1 b2 i (x/2^kk)):=by show(H2.put b1 0 _).rd c 0=_;rw[qB _ _ h1];exact H2c
 have H3a:H3.rd b1 0=some (Rb t1 A (q1+kk) false):=qp _ _ _
 have H3b:H3.rd b2 0=some (Rb t2 B (q2+(x/2^kk-up+1)) false):=by
  show(((hp.put b2 0 _).put c 0 _).put b1 0 _).rd b2 0=_
  rw[qB _ _ (fun e=>h12 e.symm),qB _ _ (fun e=>h2 e.symm),qp]
 have s2:=vm b2 t2 B _ false H3 H3b
 have s1:=vm b1 t1 A _ false H3 H3a
 let H4:=H3.put c 0 (Fu n last kk T1 T2 b1 b2 (i+1) (x/2^kk))
 refine⟨H4,?_,qp _ _ _,?_,?_,rfl,fun a c1 c2 c3=>?_⟩
 ·have gl:=zhd h
  have g1:H1.get c=hp.get c:=by simp[H1,Hp.put,h2]
  have g3:H3.get c=H2.get c:=by simp[H3,Hp.put,h1]
  have sg1:∀q j,xm (AV.ptr c q j,1) hp.get H1.get=some ():=fun q j=>Zr (by unfold yK;simp only[Yo,vG,zmw,g1])
  have sg2:∀q j,xm (AV.ptr c q j,1) H2.get H3.get=some ():=fun q j=>Zr (by unfold yK;simp only[Yo,vG,zmw,g3])
  have m1:H1=hp.put b2 0 (Rb t2 B (q2+(x/2^kk-up+1)) false):=rfl
  have m2:H1.put c 0 (Fu n last kk T1 T2 b1 b2 i (x/2^kk))=H2:=rfl
  have m3:H2.put b1 0 (Rb t1 A (q1+kk) false)=H3:=rfl
  have m4:H3.put c 0 (Fu n last kk T1 T2 b1 b2 (i+1) (x/2^kk))=H4:=rfl
  simp only at un tk
  rw[<-m1]at un
  rw[m3]at tk
  have w1:IntKind.i64.wrap ((last/2^kk:Nat):Int)=((last/2^kk:Nat):Int):=(fun(z:Nat) (hz:z<=8192)=>qm (z:=(z:Int)) qe qe) _ hq
  have w2:IntKind.i64.wrap (((last/2^kk:Nat):Int)+1)=((last/2^kk+1:Nat):Int):=qj
  have w3:IntKind.u32.wrap ((x/2^kk-up:Nat):Int)=((x/2^kk-up:Nat):Int):=qJ qe qe
  have w4:IntKind.u32.wrap ((up:Int)+((x/2^kk-up:Nat):Int))=((x/2^kk:Nat):Int):=by rw[qJ]<;>omega
  have w5:IntKind.u32.wrap ((x%2^kk:Nat):Int)=((x%2^kk:Nat):Int):=(fun(z:Nat) (hz:z<=x)=>qJ (z:=(z:Int)) qe qe) _ hmod
  have w6:IntKind.i64.wrap ((i:Int)+1)=((i+1:Nat):Int):=qj
  have sr:=fun t o o'=>yY .u32 last kk (by show kk<=32;exact hkk) t o o' .i64
  have sl:∀t o o',qx Tryz.prog .shl t o o' (.int .u32 ((x/2^kk:Nat):Int)) (.int .i64 (kk:Int))=some (.int .u32 ((x/2^kk*2^kk:Nat):Int)):=by
   intro t o o'
   rw[zW _ _ _ _ _ _ _ _ qe]
   have e:min (kk:Int).toNat IntKind.u32.bits=kk:=by show min (kk:Int).toNat 32=kk;omega
   rw[e]
   have e2:((x/2^kk:Nat):Int)*2^kk=((x/2^kk*2^kk:Nat):Int):=qg
   rw[e2]
   congr 2
   exact(fun(z:Nat) (hz:z<=x)=>qJ (z:=(z:Int)) qe qe) _ hmul
  have hge:¬((n:Int)<=(i:Int)):=qe
  simp only[Fu]at h H1c H2c H3c m2 m4
  rw[E113]
  clear_value H4 H3 H2 H1
  clear l1 l2 a1 a2 e1 hup hxl hmul hmod
  generalize((last/2^kk+1:Nat):Int)=V1 at*
  generalize((last/2^kk:Nat):Int)=V0 at*
  generalize((x/2^kk-up:Nat):Int)=V2 at*
  generalize((x/2^kk*2^kk:Nat):Int)=V4 at*
  generalize((x/2^kk:Nat):Int)=V3 at*
  generalize((x%2^kk:Nat):Int)=V5 at*
  generalize((i+1:Nat):Int)=V6 at*
  have gs1:∀(x0:AV) (v:Value) (r:List AV),ql (x0::.sc v::r) 1=some v:=fun _ _ _=>rfl
  have gs2:∀(x0 x1:AV) (v:Value) (r:List AV),ql (x0::x1::.sc v::r) 2=some v:=fun _ _ _ _=>rfl
  have gs7:∀(x0 x1 x2 x3 x4 x5 x6:AV) (v:Value) (r:List AV),ql (x0::x1::x2::x3::x4::x5::x6::.sc v::r) 7=some v:=fun _ _ _ _ _ _ _ _ _=>rfl
  have gs8:∀(x0 x1 x2 x3 x4 x5 x6 x7:AV) (v:Value) (r:List AV),ql (x0::x1::x2::x3::x4::x5::x6::x7::.sc v::r) 8=some v:=fun _ _ _ _ _ _ _ _ _ _=>rfl
  have gs0:∀(v:Value) (r:List AV),ql (.sc v::r) 0=some v:=fun _ _=>rfl
  have gc5:∀(x0 x1 x2 x3 x4 x5:AV) (r:List AV),qs (x0::x1::x2::x3::x4::x5::r) 5=some x5:=fun _ _ _ _ _ _ _=>rfl
  have gc6:∀(x0 x1 x2 x3 x4 x5 x6:AV) (r:List AV),qs (x0::x1::x2::x3::x4::x5::x6::r) 6=some x6:=fun _ _ _ _ _ _ _ _=>rfl
  have p8:∀(x0 x1 x2 x3 x4 x5 x6 x7 x8 z:AV),qo [x0,x1,x2,x3,x4,x5,x6,x7,x8] 8 [z]=some [x0,x1,x2,x3,x4,x5,x6,x7,z]:=fun _ _ _ _ _ _ _ _ _ _=>rfl
  have p7:∀(x0 x1 x2 x3 x4 x5 x6 x7 x8 z:AV),qo [x0,x1,x2,x3,x4,x5,x6,x7,x8] 7 [z]=some [x0,x1,x2,x3,x4,x5,x6,z,x8]:=fun _ _ _ _ _ _ _ _ _ _=>rfl
  simp[h,gs7,gs0,hge,qxd,gs8,gc6,gs1,gs2,sr,xx,w1,w2,un,Xn,w3,w4,H1c,p8,sg1,m2,H2c,sl,gc5,tk,jG,w5,os,sg2,H3c,s2,s1,qxc,w6,p7,m4]
 ·show(H3.put c 0 _).rd b1 0=_;rw[qB _ _ (fun e=>h1 e.symm)];exact H3a
 ·show(H3.put c 0 _).rd b2 0=_;rw[qB _ _ (fun e=>h2 e.symm)];exact H3b
 ·show((((hp.put b2 0 _).put c 0 _).put b1 0 _).put c 0 _).get a=_
  simp[Hp.put,c1,c2,c3]
end
theorem qce(n last kk:Nat)(T1 T2:AV)(c b1 b2 up:Nat)(hp:Hp)(h:hp.rd c 0=some (Fu n last kk T1 T2 b1 b2 n up)):
 run cxX 113 [.ptr c 0 0] hp=some (.tup [.sc (.int .u32 0),.sc (.bool false)],hp):=by
 have gs7:∀(x0 x1 x2 x3 x4 x5 x6:AV) (v:Value) (r:List AV),ql (x0::x1::x2::x3::x4::x5::x6::.sc v::r) 7=some v:=fun _ _ _ _ _ _ _ _ _=>rfl
 have gs0:∀(v:Value) (r:List AV),ql (.sc v::r) 0=some v:=fun _ _=>rfl
 simp only[Fu]at h
 rw[E113]
 simp[h,gs7,gs0,qxe]
theorem XW:∀(l:List Nat),zO l->∀x∈l,x<=qI l
 |[],_,x,h=>by cases h
 |[a],_,x,h=>by rcases zpx.mp h with rfl;exact zmx _
 |a::b::r,hr,x,h=>by
  rw[Yd]
  have ih:=XW (b::r) hr.2
  rcases zmy.mp h with rfl|h
  ·exact zn7 hr.1 (ih b qg)
  ·exact ih x h
section
variable (n last kk t1 t2:Nat)(T1 T2:AV)(A B:List Int)(c b1 b2:Nat)(hkk:kk<=32)(hn:n<=4096)(hlast:last<4294967296)(hq:last/2^kk<=8192)(hA:A.length<=100000000)(hB:B.length<=100000000)(A8:By A)(B8:By B)(h1:c≠b1)(h2:c≠b2)(h12:b1≠b2)
include hkk hn hlast hq hA hB A8 B8 h1 h2 h12
theorem qon:∀(r:List Nat) (i p q1 q2:Nat) (acc:List Nat) (hp:Hp),i+r.length=n->zO (p::r)->(∀x∈r,x<=last)->acc.length=i->hp.rd c 0=some (Fu n last kk T1 T2 b1 b2 i (p/2^kk))->hp.rd b1 0=some (Rb t1 A q1 false)->hp.rd b2 0=some (Rb t2 B q2 false)->At A q1 (qN kk r)->At B q2 (qG kk (p/2^kk) r)->
 ∃v o hp1 hp2,run cxX 113 [.ptr c 0 0] hp=some (.tup [.sc v,.sc (.bool o)],hp1)/\B65_4 (S 2 1 (LI .u32 (nz acc))) (.ptr c 0 0) v (.bool o) hp1=some (S 2 1 (LI .u32 (nz (acc++r))),hp2):=by
 intro r
 induction r with
 |nil=>
  intro i p q1 q2 acc hp hi hf hx ha hc r1 r2 a1 a2
  have e:i=n:=hi
  subst e
  refine⟨_,_,_,hp,qce i last kk T1 T2 c b1 b2 _ hp hc,?_⟩
  rw[qls,znj]
  generalize nz acc=L0
  simp
 |cons x r ih=>
  intro i p q1 q2 acc hp hi hf hx ha hc r1 r2 a1 a2
  simp only[zmu]at hi
  have el:qN kk (x::r)=xW x kk++qN kk r:=rfl
  have eh:qG kk (p/2^kk) (x::r)=una (x/2^kk-p/2^kk)++qG kk (x/2^kk) r:=rfl
  rw[el]at a1
  rw[eh]at a2
  obtain⟨a1a,a1b⟩:=a1.app
  obtain⟨a2a,a2b⟩:=a2.app
  obtain⟨hp1,f1,f2,f3,f4,f5,f6⟩:=qcf n last kk t1 t2 T1 T2 A B c b1 b2 hkk hn hlast hq hA hB A8 B8 h1 h2 h12 i (p/2^kk) x q1 q2 qe (hx x qg) (zo9 hf.1) hp hc r1 r2 a1a a2a
  obtain⟨v,o,hp3,hp4,g1,g2⟩:=ih (i+1) x _ _ (acc++[x]) hp1 qe hf.2 (fun y hy=>hx y (by simp[hy])) (by simp[ha]) f2 f3 f4 a1b a2b
  refine⟨_,_,hp1,hp4,f1,?_⟩
  have ap:=QZ .u32 (nz acc) 2 (.inr rfl) 4 qh (x:Int) qi
  rw[<-yO]at ap
  have ea:acc++x::r=acc++[x]++r:=qg
  rw[ea,<-g2,qls]
  generalize nz (acc++[x])=L1 at*
  generalize nz acc=L0 at*
  simp[yF,ap,g1]
end
section
variable (l:List Nat)(hl:l.length<=4096)(h32:∀x∈l,x<4294967296)(hr:zO l)
include hl h32 hr
theorem XQ(t1 t2:Nat)(hp:Hp):∃hp',run cxX 65 [vT l t1 t2] hp=some (S 2 1 (LI .u32 (nz l)),hp'):=by
 have hb:qA l<=32/\qI l<4294967296/\qI l/2^qA l<=8192/\(qG (qA l) 0 l).length<=3*4096:=by
  by_cases hne:l=[]
  ·subst hne;exact⟨qh,qh,qh,qh⟩
  ·obtain⟨k1,k2,k3⟩:=xL l hl h32 hr hne
   have h2:qI l/2^qA l<2*l.length:=ZG (zoe.mpr hne) k2
   exact⟨k1,k2,qe,k3⟩
 obtain⟨k1,k2,k3,k4⟩:=hb
 have cu:=qim l.length (qI l) (qA l) (rk (rk t1)) (rk (rk t2)) (pk (qN (qA l) l)) (pk (qG (qA l) 0 l)) hp
 simp only[Wp]at cu
 have lA:(pk (qN (qA l) l)).length<=100000000:=by
  rw[zZ,Qe]
  have:l.length*qA l<=4096*32:=zno hl k1
  omega
 have lB:(pk (qG (qA l) 0 l)).length<=100000000:=by rw[zZ];omega
 let H0:=hp.new (Rb (rk t1) (pk (qN (qA l) l)) 0 false)
 let H1:=H0.new (Rb (rk t2) (pk (qG (qA l) 0 l)) 0 false)
 let H2:=H1.new (Fu l.length (qI l) (qA l) (S (rk t1) 1 (LI .u8 (pk (qN (qA l) l)))) (S (rk t2) 1 (LI .u8 (pk (qG (qA l) 0 l)))) hp.next (hp.next+1) 0 0)
 have rc:H2.rd (hp.next+2) 0=some (Fu l.length (qI l) (qA l) (S (rk t1) 1 (LI .u8 (pk (qN (qA l) l)))) (S (rk t2) 1 (LI .u8 (pk (qG (qA l) 0 l)))) hp.next (hp.next+1) 0 0):=qR H1 _
 have r1:H2.rd hp.next 0=some (Rb (rk t1) (pk (qN (qA l) l)) 0 false):=by
  show((H0.new _).new _).rd hp.next 0=_
  rw[zF _ _ (show hp.next≠H1.next from by show hp.next≠hp.next+1+1;omega),zF _ _ (show hp.next≠H0.next from by show hp.next≠hp.next+1;omega)]
  exact qR hp _
 have r2:H2.rd (hp.next+1) 0=some (Rb (rk t2) (pk (qG (qA l) 0 l)) 0 false):=by
  show(H1.new _).rd (hp.next+1) 0=_
  rw[zF _ _ (show hp.next+1≠H1.next from by show hp.next+1≠hp.next+1+1;omega)]
  exact qR H0 _
 have z0:(0:Nat)/2^qA l=0:=zqn _
 obtain⟨v,o,hp3,hp4,g1,g2⟩:=qon l.length (qI l) (qA l) (rk t1) (rk t2) (S (rk t1) 1 (LI .u8 (pk (qN (qA l) l)))) (S (rk t2) 1 (LI .u8 (pk (qG (qA l) 0 l)))) (pk (qN (qA l) l)) (pk (qG (qA l) 0 l)) (hp.next+2) hp.next (hp.next+1) k1 hl k2 k3 lA lB (fun x hx=>Wx hx) (fun x hx=>Wx hx) qe qe qe l 0 0 0 0 [] H2 qg (jE hr) (XW l hr) rfl (by rw[z0];exact rc) r1 r2 (At.pk _) (by rw[z0];exact At.pk _)
 refine⟨hp4,?_⟩
 have g2':B65_4 (S 2 1 []) (.ptr (hp.next+2) 0 0) v (.bool o) hp3=some (S 2 1 (LI .u32 (nz l)),hp4):=g2
 have m:((hp.new (Rb (rk t1) (pk (qN (qA l) l)) 0 false)).new (Rb (rk t2) (pk (qG (qA l) 0 l)) 0 false)).new (Fu l.length (qI l) (qA l) (S (rk t1) 1 (LI .u8 (pk (qN (qA l) l)))) (S (rk t2) 1 (LI .u8 (pk (qG (qA l) 0 l)))) hp.next (hp.next+1) 0 0)=H2:=rfl
 rw[m]at cu
 unfold vT
 rw[E65]
 clear_value H2
 clear r1 r2 rc m k3 k4 lA lB z0
 generalize pk (qN (qA l) l)=A at*
 generalize pk (qG (qA l) 0 l)=B at*
 generalize((qI l:Nat):Int)=La at*
 generalize((qA l:Nat):Int)=Ka at*
 simp[qn,qr,cu,g1,g2']
omit hl h32 hr in
theorem qm6(t1 t2 t3 t4:Nat)(hp:Hp):run cxX 129 [vT l t1 t2,vT l t3 t4] hp=some (.sc (.bool true),hp):=by
 have gs0:∀(v:Value) (r:List AV),ql (.sc v::r) 0=some v:=fun _ _=>rfl
 have gs1:∀(x0:AV) (v:Value) (r:List AV),ql (x0::.sc v::r) 1=some v:=fun _ _ _=>rfl
 unfold vT
 rw[E129]
 generalize pk (qN (qA l) l)=A at*
 generalize pk (qG (qA l) 0 l)=B at*
 generalize((qI l:Nat):Int)=La at*
 generalize((qA l:Nat):Int)=Ka at*
 simp[qn,gs0,gs1,qs]
theorem XP(b k:Nat)(bl:List Int)(hbl:bl.length<=1000000000)(h8:By bl)(p:Nat)(rest:List Int)(hd:bl.drop p=zB l++rest)(hp:Hp)(hpl:p<=bl.length)(hrd:hp.rd b 0=some (Rc k bl p 0)):
 ∃t1 t2,run cxX 64 [.ptr b 0 0] hp=some (vT l t1 t2,hp.put b 0 (Rc k bl (p+(zB l).length) 0)):=by
 have hb:qA l<=32/\qI l<4294967296/\(qG (qA l) 0 l).length<=3*4096:=by
  by_cases hne:l=[]
  ·subst hne;exact⟨qh,qh,qh⟩
  ·exact xL l hl h32 hr hne
 obtain⟨k1,k2,k4⟩:=hb
 have hlow:=qcb l.length (qI l) qe k2 hp0
 have e4:WJ l.length (qI l)=qA l:=rfl
 rw[e4]at hlow
 have hmul:l.length*qA l<=4096*32:=zno hl k1
 have eA:(pk (qN (qA l) l)).length=(l.length*qA l+7)/8:=by rw[zZ,Qe]
 have hBl:(pk (qG (qA l) 0 l)).length<=1048576:=by rw[zZ];omega
 have ey:zB l++rest=uv l.length++(uv (qI l)++(pk (qN (qA l) l)++(uv (pk (qG (qA l) 0 l)).length++(pk (qG (qA l) 0 l)++rest)))):=by unfold zB;simp
 have el:(zB l).length=(uv l.length).length+(uv (qI l)).length+(pk (qN (qA l) l)).length+(uv (pk (qG (qA l) 0 l)).length).length+(pk (qG (qA l) 0 l)).length:=by unfold zB;simp only[zmt]
 rw[ey]at hd
 obtain⟨t5,hpL,ls⟩:∃t5 hpL,run cxX 65 [vT l t5 t5] hp0=some (S 2 1 (LI .u32 (nz l)),hpL):=⟨0,XQ l hl h32 hr 0 0 hp0⟩
 have u0:=zd b k bl hbl h8 (most:=4096) hd hl qe hp hpl hrd
 have d0:=qL hd
 have q0:=qW hpl hd
 have u1:=zd b k bl hbl h8 (most:=4294967295) d0 qe qe _ q0 (qp hp b (Rc k bl (p+(uv l.length).length) 0))
 rw[qC]at u1
 have d1:=qL d0
 have q1:=qW q0 d0
 generalize eP1:p+(uv l.length).length+(uv (qI l)).length=P1 at*
 obtain⟨ta,u2⟩:=vh b k bl hbl d1 _ q1 (qp hp b (Rc k bl P1 0))
 rw[qC]at u2
 have d2:=qL d1
 have q2:=qW q1 d1
 generalize eP2:P1+(pk (qN (qA l) l)).length=P2 at*
 have u3:=zd b k bl hbl h8 (most:=1048576) d2 hBl qe _ q2 (qp hp b (Rc k bl P2 0))
 rw[qC]at u3
 have d3:=qL d2
 have q3:=qW q2 d2
 generalize eP3:P2+(uv (pk (qG (qA l) 0 l)).length).length=P3 at*
 obtain⟨tb,u4⟩:=vh b k bl hbl d3 _ q3 (qp hp b (Rc k bl P3 0))
 rw[qC]at u4
 generalize eP4:P3+(pk (qG (qA l) 0 l)).length=P4 at*
 have eP:p+(zB l).length=P4:=by rw[el];omega
 have er:=qV b k bl P4 0 _ (qp hp b (Rc k bl P4 0))
 have lsr:∀s1 s2,∃hpL,run cxX 65 [vT l s1 s2] hp0=some (S 2 1 (LI .u32 (nz l)),hpL):=fun s1 s2=>XQ l hl h32 hr s1 s2 hp0
 obtain⟨hL,ls1⟩:=lsr (rk ta) (rk tb)
 obtain⟨t3,t4,hO,of⟩:=qp1 l 3 hl h32 hr hp0
 have sm:=fun a b c d=>qm6 l a b c d hp0
 rw[eP]
 refine⟨ta,tb,?_⟩
 have l1:((4096:Nat):Int)=4096:=rfl
 have l2:((4294967295:Nat):Int)=4294967295:=rfl
 have l3:((1048576:Nat):Int)=1048576:=rfl
 rw[l1]at u0
 rw[l2]at u1
 rw[l3]at u3
 rw[eA]at u2
 have w1:IntKind.i64.wrap (l.length:Int)=(l.length:Int):=qm qe qe
 have w2:IntKind.u32.wrap ((qI l:Nat):Int)=((qI l:Nat):Int):=qJ qe qe
 have w3:IntKind.i64.wrap ((l.length:Int)*((qA l:Nat):Int))=((l.length*qA l:Nat):Int):=by
  have e:(l.length:Int)*((qA l:Nat):Int)=((l.length*qA l:Nat):Int):=qg
  rw[e,qm]<;>omega
 have w4:IntKind.i64.wrap (((l.length*qA l:Nat):Int)+7)=((l.length*qA l+7:Nat):Int):=qj
 have q8:=qgd (l.length*qA l+7) qe
 have w5:IntKind.i64.wrap ((pk (qG (qA l) 0 l)).length:Int)=((pk (qG (qA l) 0 l)).length:Int):=qm qe qe
 have gs0:∀(v:Value) (r:List AV),ql (.sc v::r) 0=some v:=fun _ _=>rfl
 have gs1:∀(x0:AV) (v:Value) (r:List AV),ql (x0::.sc v::r) 1=some v:=fun _ _ _=>rfl
 have gs2:∀(x0 x1:AV) (v:Value) (r:List AV),ql (x0::x1::.sc v::r) 2=some v:=fun _ _ _ _=>rfl
 have p3:∀(x0 x1 x2 x3 x4 z:AV),qo [x0,x1,x2,x3,x4] 3 [z]=some [x0,x1,x2,z,x4]:=fun _ _ _ _ _ _=>rfl
 have p4:∀(x0 x1 x2 x3 x4 z:AV),qo [x0,x1,x2,x3,x4] 4 [z]=some [x0,x1,x2,x3,z]:=fun _ _ _ _ _ _=>rfl
 have p5:∀(x0 x1 x2 x3 x4 z0 z1 z2 z3 z4:AV),qo [x0,x1,x2,x3,x4] 0 [z0,z1,z2,z3,z4]=some [z0,z1,z2,z3,z4]:=fun _ _ _ _ _ _ _ _ _ _=>rfl
 clear eA hBl ey el hd d0 d1 d2 d3 lsr ls k4 q0 q1 q2 q3 eP1 eP2 eP3 eP4 eP hmul e4
 unfold vT at*
 rw[E64]
 generalize pk (qN (qA l) l)=A at*
 generalize pk (qG (qA l) 0 l)=B at*
 generalize(((l.length*qA l+7)/8:Nat):Int)=V3 at*
 generalize((l.length*qA l+7:Nat):Int)=V2 at*
 generalize((l.length*qA l:Nat):Int)=V1 at*
 generalize((qI l:Nat):Int)=La at*
 generalize((qA l:Nat):Int)=Ka at*
 generalize((B.length:Nat):Int)=Bn at*
 generalize hp.put b 0 (Rc k bl (p+(uv l.length).length) 0)=G0 at*
 generalize hp.put b 0 (Rc k bl P1 0)=G1 at*
 generalize hp.put b 0 (Rc k bl P2 0)=G2 at*
 generalize hp.put b 0 (Rc k bl P3 0)=G3 at*
 generalize hp.put b 0 (Rc k bl P4 0)=G4 at*
 simp[u0,xw,w1,u1,jG,w2,gs0,gs1,hlow,gs2,w3,w4,q8,u2,p3,u3,w5,u4,p4,er,qr,ls1,of,p5,sm,qvd]
end
abbrev DC(m b code w:Nat):List AV:=[.ptr m 0 0,.ptr b 0 0,.sc (.int .u32 (code:Int)),.sc (.int .u32 (w:Int))]
theorem qzm(a j:Nat)(ha:a<16777216)(hj:j<256)(t:TypeId)(x y:Operand):qx Tryz.prog .or t x y (.int .u32 ((a*256:Nat):Int)) (.int .u32 (j:Int))=some (.int .u32 ((a*256+j:Nat):Int)):=by
 rw[zR]
 have e:(BitVec.ofInt IntKind.u32.bits ((a*256:Nat):Int)|||BitVec.ofInt IntKind.u32.bits (j:Int)).toNat=a*256+j:=by
  show(BitVec.ofInt 32 ((a*256:Nat):Int)|||BitVec.ofInt 32 (j:Int)).toNat=_
  rw[zpd,znh,znh]
  have e1:(((a*256:Nat):Int)%((2^32:Nat):Int)).toNat=2^8*a:=qe
  have e2:((j:Int)%((2^32:Nat):Int)).toNat=j:=qe
  rw[e1,e2,<-Nat.two_pow_add_eq_or_of_lt qe a]
  omega
 rw[e,qJ qe qe]
theorem qf2(a:Nat)(ha:a<16777216)(t:TypeId)(x y:Operand):qx Tryz.prog .shl t x y (.int .u32 (a:Int)) (.int .u64 8)=some (.int .u32 ((a*256:Nat):Int)):=by
 rw[zW _ _ _ _ _ _ _ _ qe]
 have e:(2:Int)^min (8:Int).toNat IntKind.u32.bits=256:=rfl
 rw[e,qJ qe qe]
 rfl
section
variable (hp:Hp)(m cb:Nat)(cs:List Nat)(h:MW hp m cb cs)(hs:cs.sum<=1000000)(hcl:cs.length=64)
include h hs hcl
theorem qua(x P:Nat)(hx:x<64)(h1:(cs.take x).sum<=P)(h2:P<(cs.take (x+1)).sum):∀(f i:Nat),i+f=x->
 B174_4 (.ptr m 0 0) (.int .i64 ((P-(cs.take i).sum:Nat):Int)) (.int .i64 (i:Int)) hp=some (.sc (.int .i64 (x:Int)),hp):=by
 obtain⟨m1,m2,m3,m4,m5⟩:=h
 have hms:∀a b c d e,zg (.ms a b c d e)=some (a,b,c,d,e):=fun _ _ _ _ _=>rfl
 have hbig:(cs.take (x+1)).sum<=cs.sum:=qQ cs _
 intro f
 induction f with
 |zero=>
  intro i hi
  have e:i=x:=qe
  subst e
  have ix:idx cs.length (.int .i64 (i:Int))=some i:=zp .i64 qe
  have g:=jN .i64 (nz cs) i qi
  rw[yP cs i qe]at g
  have ts:=qP cs i qe
  have hge:¬((cs.getD i 0:Nat):Int)<=((P-(cs.take i).sum:Nat):Int):=qe
  rw[qee]
  generalize((cs.getD i 0:Nat):Int)=q1 at*
  generalize((P-(cs.take i).sum:Nat):Int)=q2 at*
  simp[m5,qs,hms,ix,m4,g,hge]
 |succ f ih=>
  intro i hi
  have ix:idx cs.length (.int .i64 (i:Int))=some i:=zp .i64 qe
  have g:=jN .i64 (nz cs) i qi
  rw[yP cs i qe]at g
  have ts:=qP cs i qe
  have tl:=KF cs (i+1) x qe
  have hge:((cs.getD i 0:Nat):Int)<=((P-(cs.take i).sum:Nat):Int):=qe
  have i2:=ih (i+1) qe
  have w1:IntKind.i64.wrap (((P-(cs.take i).sum:Nat):Int)-((cs.getD i 0:Nat):Int))=((P-(cs.take (i+1)).sum:Nat):Int):=qj
  have w2:IntKind.i64.wrap ((i:Int)+1)=((i+1:Nat):Int):=qj
  rw[<-i2,qee]
  generalize((cs.getD i 0:Nat):Int)=q1 at*
  generalize((P-(cs.take i).sum:Nat):Int)=q2 at*
  generalize((P-(cs.take (i+1)).sum:Nat):Int)=q3 at*
  generalize((i+1:Nat):Int)=q4 at*
  simp[m5,qs,hms,ix,m4,g,hge,w1,w2]
theorem qyr(x P:Nat)(hx:x<64)(h1:(cs.take x).sum<=P)(h2:P<(cs.take (x+1)).sum):
 run cxX 174 [.ptr m 0 0,.sc (.int .i64 (P:Int))] hp=some (.sc (.int .i64 (x:Int)),hp):=by
 have hbig:(cs.take (x+1)).sum<=cs.sum:=qQ cs _
 have fl:=qua hp m cb cs h hs hcl x P hx h1 h2 x 0 qe
 have al:=Wb hp m cb cs h
 have e0:P-(cs.take 0).sum=P:=qg
 rw[e0]at fl
 have hn:¬((P:Int)<0):=qe
 have hge:¬((cs.sum:Int)<=(P:Int)):=qe
 have fl':B174_4 (.ptr m 0 0) (.int .i64 (P:Int)) (.int .i64 0) hp=some (.sc (.int .i64 (x:Int)),hp):=fl
 rw[E174]
 generalize((cs.sum:Nat):Int)=S1 at*
 generalize((P:Nat):Int)=P1 at*
 simp[hn,al,hge,qwa,fl']
end
def Rp(k:Nat)(pre C:List Int)(i:Nat):List AV:=Rc k (pre++C) (pre.length+i) 0
theorem zkd(k:Nat)(C:List Int)(i:Nat):Rp k [] C i=Rc k C i 0:=by
 unfold Rp
 rw[znn,znd,zm4]
theorem XL(b k:Nat)(pre C:List Int)(i:Nat)(hp:Hp)(h:hp.rd b 0=some (Rp k pre C i)):run cxX 97 [.ptr b 0 0] hp=some (.sc (.int .i64 0),hp):=qV b k _ _ 0 hp h
theorem VR(b k:Nat)(pre C:List Int)(hpre:pre.length<=1000)(hC:C.length<=1000000){i:Nat}{c:Int}{r:List Int}(h:C.drop i=c::r)(hp:Hp)(hi:i<=C.length)(hr:hp.rd b 0=some (Rp k pre C i)):
 run cxX 63 [.ptr b 0 0] hp=some (.sc (.int .u8 c),hp.put b 0 (Rp k pre C (i+1))):=
 zn b k (pre++C) (by rw[zmt];omega) (p:=pre.length+i) (r:=r) (by rw[zqx,zn1 qe,znn,Nat.add_sub_cancel_left];exact h) hp (by rw[zmt];omega) hr
section
variable (d b m cb k x:Nat)(pre C:List Int)(hpre:pre.length<=1000)(hC:By C)(hCl:C.length<=1000000)(hx:x<64)(cs:List Nat)(hm:okM cs)(n1:d≠b)(n2:d≠m)(n3:d≠cb)(n4:b≠m)(n5:b≠cb)
include hpre hC hCl hx hm n1 n2 n3 n4 n5
theorem qoq:∀(f:Nat) (s:En) (code:Nat) (hp:Hp),Zy s s.width->s.width<4294967296->4294967296<=s.width*256^f*256->code<s.width->qO (C.take (eK s+4))=eV s+code->eK (zE f s)+4<=C.length->
 hp.rd d 0=some (DC m b code s.width)->hp.rd b 0=some (Rp k pre C (eK s+4))->MW hp m cb cs->
 ∃hp' code',B109_11 (.ptr d 0 0) (.int .i64 (x:Int)) hp=some (.sc (.int .i64 (x:Int)),hp')/\qO (C.take (eK (zE f s)+4))=eV (zE f s)+code'/\code'<(zE f s).width/\
  hp'.rd d 0=some (DC m b code' (zE f s).width)/\hp'.rd b 0=some (Rp k pre C (eK (zE f s)+4))/\MW hp' m cb (Yu cs x)/\hp'.next=hp.next/\∀c,c≠d->c≠b->c≠m->c≠cb->hp'.get c=hp.get c:=by
 have gs2:∀(x0 x1:AV) (v:Value) (r:List AV),ql (x0::x1::.sc v::r) 2=some v:=fun _ _ _ _=>rfl
 have gs3:∀(x0 x1 x2:AV) (v:Value) (r:List AV),ql (x0::x1::x2::.sc v::r) 3=some v:=fun _ _ _ _ _=>rfl
 have gc1:∀(x0 x1:AV) (r:List AV),qs (x0::x1::r) 1=some x1:=fun _ _ _=>rfl
 have gc0:∀(x0:AV) (r:List AV),qs (x0::r) 0=some x0:=fun _ _=>rfl
 have p2:∀(x0 x1 x2 x3 z:AV),qo [x0,x1,x2,x3] 2 [z]=some [x0,x1,z,x3]:=fun _ _ _ _ _=>rfl
 have p3:∀(x0 x1 x2 x3 z:AV),qo [x0,x1,x2,x3] 3 [z]=some [x0,x1,x2,z]:=fun _ _ _ _ _=>rfl
 have done:∀(s:En) (code:Nat) (hp:Hp),¬(s.width<16777216)->code<s.width->qO (C.take (eK s+4))=eV s+code->hp.rd d 0=some (DC m b code s.width)->hp.rd b 0=some (Rp k pre C (eK s+4))->MW hp m cb cs->
  ∃hp' code',B109_11 (.ptr d 0 0) (.int .i64 (x:Int)) hp=some (.sc (.int .i64 (x:Int)),hp')/\qO (C.take (eK s+4))=eV s+code'/\code'<s.width/\
   hp'.rd d 0=some (DC m b code' s.width)/\hp'.rd b 0=some (Rp k pre C (eK s+4))/\MW hp' m cb (Yu cs x)/\hp'.next=hp.next/\∀c,c≠d->c≠b->c≠m->c≠cb->hp'.get c=hp.get c:=by
  intro s code hp hw hcode hN hd hb hM
  obtain⟨hp1,a1,a2,a3,a4⟩:=qpz hp m cb x cs hM hm hx
  refine⟨hp1,code,?_,hN,hcode,by rw[xo (a4 d n2 n3)];exact hd,by rw[xo (a4 b n4 n5)];exact hb,a2,a3,fun c c1 c2 c3 c4=>a4 c c3 c4⟩
  have er:=XL b k pre C (eK s+4) hp hb
  have d1:decide ((s.width:Int)<Int.ofNat 16777216)=false:=decide_eq_false (by show ¬((s.width:Int)<((16777216:Nat):Int));omega)
  clear hw hcode hN
  simp only[DC]at hd
  rw[qbc]
  rw[QO hd (gs3 _ _ _ _ _),Ye,d1,cond_false]
  clear d1
  simp[hd,gc1,er,gc0,a1]
 intro f
 induction f with
 |zero=>
  intro s code hp ho hw hf hcode hN hle hd hb hM
  exact done s code hp (by rw[Nat.pow_zero,zom]at hf;omega) hcode hN hd hb hM
 |succ f ih=>
  intro s code hp ho hw hf hcode hN hle hd hb hM
  by_cases hl:s.width<16777216
  ·have en:zE (f+1) s=zE f (sh (XF s (s.width*256))):=by rw[zE,if_pos hl]
   rw[en]at hle⊢
   have ho':Zy (XF s (s.width*256)) s.width:=ho
   obtain⟨a1,a2,a3,a4⟩:=YD (XF s (s.width*256)) s.width ho' qe
   have a4:(sh (XF s (s.width*256))).width=s.width*256:=a4
   rw[(Kg s _).1]at a2
   rw[(Kg s _).2]at a3
   have hf2:4294967296<=s.width*256*256^f*256:=by
    rw[zoo]at hf
    have e:s.width*(256^f*256)*256=s.width*256*256^f*256:=by
     rw[zos s.width 256,znz 256 (256^f)]
    rwa [e]at hf
   generalize sh (XF s (s.width*256))=s1 at*
   rw[<-a4]at a1
   obtain⟨dd,_,_,q3,_⟩:=qqa f s1 a1 (by rw[a4];omega) (by rw[a4];exact hf2)
   have hlt:eK s+4<C.length:=qe
   have hmem:C.getD (eK s+4) 0∈C:=by rw[zmv,zm0 hlt];exact znb _
   obtain⟨c1,c2⟩:=hC _ hmem
   obtain⟨j,hj⟩:∃j:Nat,C.getD (eK s+4) 0=j:=⟨(C.getD (eK s+4) 0).toNat,qe⟩
   have bs:=ZO C (eK s+4) hlt
   rw[hj]at bs c1 c2
   rw[hN,zm3]at bs
   have hdr:C.drop (eK s+4)=(j:Int)::C.drop (eK s+4+1):=by
    rw[znp hlt]
    congr 1
    rw[<-hj,zmv,zm0 hlt];rfl
   let H1:=hp.put d 0 (DC m b code (s.width*256))
   have H1d:H1.rd d 0=some (DC m b code (s.width*256)):=qp _ _ _
   have H1b:H1.rd b 0=some (Rp k pre C (eK s+4)):=by show(hp.put d 0 _).rd b 0=_;rw[qB _ _ (fun e=>n1 e.symm)];exact hb
   have tb:=VR b k pre C hpre hCl hdr H1 qe H1b
   let H2:=H1.put b 0 (Rp k pre C (eK s+4+1))
   have H2d:H2.rd d 0=some (DC m b code (s.width*256)):=by show(H1.put b 0 _).rd d 0=_;rw[qB _ _ n1];exact H1d
   let H3:=H2.put d 0 (DC m b (code*256+j) (s.width*256))
   have H3d:H3.rd d 0=some (DC m b (code*256+j) s1.width):=by rw[a4];exact qp _ _ _
   have H3b:H3.rd b 0=some (Rp k pre C (eK s1+4)):=by
    show((H1.put b 0 _).put d 0 _).rd b 0=_
    rw[qB _ _ (fun e=>n1 e.symm),qp,a3]
   have H3f:∀c,c≠d->c≠b->H3.get c=hp.get c:=fun c h1 h2=>by
    show(((hp.put d 0 _).put b 0 _).put d 0 _).get c=_
    simp[Hp.put,h1,h2]
   have H3M:MW H3 m cb cs:=by
    obtain⟨m1,m2,m3,m4,m5⟩:=hM
    exact⟨m1,m2,m3,by rw[xo (H3f cb (fun e=>n3 e.symm) (fun e=>n5 e.symm))];exact m4,by rw[xo (H3f m (fun e=>n2 e.symm) (fun e=>n4 e.symm))];exact m5⟩
   obtain⟨hp',code',r1,r2,r3,r4,r5,r6,r7,r8⟩:=ih s1 (code*256+j) H3 a1 (by rw[a4];omega) (by rw[a4];exact hf2) (by rw[a4];omega) (by
    have e:eK s1+4=eK s+4+1:=qe
    rw[e,bs,a2];omega) hle H3d H3b H3M
   refine⟨hp',code',?_,r2,r3,r4,r5,r6,by rw[r7];rfl,fun c h1 h2 h3 h4=>by rw[r8 c h1 h2 h3 h4,H3f c h1 h2]⟩
   have d1:decide ((s.width:Int)<Int.ofNat 16777216)=true:=decide_eq_true (by show((s.width:Int)<((16777216:Nat):Int));omega)
   have s1':=qf2 s.width hl
   have s2':=qf2 code qe
   have o:=qzm code j qe qe
   have w1:IntKind.u32.wrap (j:Int)=(j:Int):=qJ qe qe
   have g2:H2.get d=H1.get d:=by
    show(H1.put b 0 _).get d=_
    simp[Hp.put,n1]
   have sg:∀q i,xm (AV.ptr d q i,1) H1.get H2.get=some ():=fun q i=>Zr (by unfold yK;simp only[Yo,vG,zmw,g2])
   have m1:hp.put d 0 (DC m b code (s.width*256))=H1:=rfl
   have m2:H1.put b 0 (Rp k pre C (eK s+4+1))=H2:=rfl
   have m3:H2.put d 0 (DC m b (code*256+j) (s.width*256))=H3:=rfl
   rw[m2]at tb
   rw[<-r1,qbc]
   clear_value H3 H2 H1
   simp only[DC]at hd H1d H2d m1 m3
   clear a1 a2 a3 a4 hf2 hf hcode hN hle hl ho hw q3 ih r2 r3 r4 r5 r8 H3d bs
   generalize((s.width*256:Nat):Int)=W2 at*
   rw[QO hd (gs3 _ _ _ _ _),Ye,d1,cond_true]
   clear d1
   generalize((s.width:Nat):Int)=W at*
   generalize((code*256+j:Nat):Int)=Q2 at*
   generalize((code*256:Nat):Int)=Q1 at*
   simp[hd,gs3,s1',p3,m1,H1d,gs2,s2',gc1,tb,qra,w1,o,H2d,p2,m3,sg,-zR]
  ·have en:zE (f+1) s=s:=by rw[zE,if_neg hl]
   rw[en]at hle⊢
   exact done s code hp hl hcode hN hd hb hM
theorem qch(s:En)(r:List Nat)(code:Nat)(hp:Hp)(hr:∀y∈r,y<64)(ho:Zy s s.width)(hw:16777216<=s.width/\s.width<4294967296)(h1:qO C=eV (enc cs s (x::r)))(h2:C.length=eK (enc cs s (x::r))+4)(hcode:qO (C.take (eK s+4))=eV s+code)
 (hd:hp.rd d 0=some (DC m b code s.width)) (hb:hp.rd b 0=some (Rp k pre C (eK s+4))) (hM:MW hp m cb cs):
 ∃hp' code',run cxX 109 [.ptr d 0 0] hp=some (.sc (.int .i64 (x:Int)),hp')/\qO (C.take (eK (zE 4 (xC s cs x))+4))=eV (zE 4 (xC s cs x))+code'/\
  hp'.rd d 0=some (DC m b code' (zE 4 (xC s cs x)).width)/\hp'.rd b 0=some (Rp k pre C (eK (zE 4 (xC s cs x))+4))/\MW hp' m cb (Yu cs x)/\hp'.next=hp.next/\∀c,c≠d->c≠b->c≠m->c≠cb->hp'.get c=hp.get c:=by
 have hw':16777216<=s.width/\s.width<=4294967296:=⟨hw.1,zpy hw.2⟩
 have e1:enc cs s (x::r)=enc (Yu cs x) (zE 4 (xC s cs x)) r:=rfl
 rw[e1]at h1 h2
 obtain⟨y1,y2⟩:=zf8 C hC s cs x r hm hx hr ho hw' h1 h2
 obtain⟨dd,b1,b2,b3,b4,b5,b6,b7⟩:=Za s cs x hm hx ho hw'
 obtain⟨y3,_,_⟩:=zf7 C hC (zE 4 (xC s cs x)) (Yu cs x) r (Qy hm hx) hr b4 ⟨b5,b6⟩ h1 h2
 rw[hcode]at y1 y2
 have hmm:=hm
 obtain⟨m1,m2,m3⟩:=hmm
 have hn1:1<=cs.getD x 0:=by
  rw[zmv,zm0 qe]
  exact m3 _ (znb _)
 have ht:=qP cs x qe
 have hta:=qQ cs (x+1)
 have hpart:4096<=s.width/cs.sum:=by
  rw[zpz qe]
  have:4096*cs.sum<=4096*4096:=zn4 _ m2
  omega
 have hmul:s.width/cs.sum*cs.sum<=s.width:=zn9 _ _
 have hsum:s.width/cs.sum*(cs.take x).sum+s.width/cs.sum*cs.getD x 0<=s.width:=by
  rw[<-Nat.mul_add,<-ht]
  exact zn7 (zn4 _ hta) hmul
 have hge:s.width/cs.sum*1<=s.width/cs.sum*cs.getD x 0:=zn4 _ hn1
 have hpw:s.width/cs.sum<=s.width:=zo5 _ _
 have okn:Zy (xC s cs x) (xC s cs x).width:=by
  obtain⟨o1,o2,o3,o4⟩:=ho
  refine⟨?_,o2,?_,fun q=>?_⟩
  ·show s.low+s.width/cs.sum*(cs.take x).sum+s.width/cs.sum*cs.getD x 0<=_;omega
  ·show 0<s.width/cs.sum*cs.getD x 0;omega
  ·have:=o4 q
   show s.low+s.width/cs.sum*(cs.take x).sum+s.width/cs.sum*cs.getD x 0<=_;omega
 have ev:eV (xC s cs x)=eV s+s.width/cs.sum*(cs.take x).sum:=by
  show qO (bl s)*4294967296+(s.low+_)=qO (bl s)*4294967296+s.low+_
  omega
 have ek:eK (xC s cs x)=eK s:=rfl
 have ew:(xC s cs x).width=s.width/cs.sum*cs.getD x 0:=rfl
 have cdiv:(cs.take x).sum<=code/(s.width/cs.sum)/\code/(s.width/cs.sum)<(cs.take (x+1)).sum:=by
  constructor
  ·rw[zpz qe,znz];omega
  ·rw[Nat.div_lt_iff_lt_mul qe,ht,znz,Nat.mul_add];omega
 let H1:=(hp.put d 0 (DC m b (code-s.width/cs.sum*(cs.take x).sum) s.width)).put d 0 (DC m b (code-s.width/cs.sum*(cs.take x).sum) (s.width/cs.sum*cs.getD x 0))
 have H1d:H1.rd d 0=some (DC m b (code-s.width/cs.sum*(cs.take x).sum) (xC s cs x).width):=qp _ _ _
 have H1f:∀c,c≠d->H1.get c=hp.get c:=fun c h=>by
  show((hp.put d 0 _).put d 0 _).get c=_
  simp[Hp.put,h]
 have H1b:H1.rd b 0=some (Rp k pre C (eK (xC s cs x)+4)):=by rw[xo (H1f b (fun e=>n1 e.symm)),ek];exact hb
 have H1M:MW H1 m cb cs:=by
  obtain⟨q1,q2,q3,q4,q5⟩:=hM
  exact⟨q1,q2,q3,by rw[xo (H1f cb (fun e=>n3 e.symm))];exact q4,by rw[xo (H1f m (fun e=>n2 e.symm))];exact q5⟩
 obtain⟨hp',code',r1,r2,r3,r4,r5,r6,r7,r8⟩:=qoq d b m cb k x pre C hpre hC hCl hx cs hm n1 n2 n3 n4 n5 4 (xC s cs x) (code-s.width/cs.sum*(cs.take x).sum) H1 okn (by rw[ew];omega) (by
  rw[ew]
  have e:(256:Nat)^4=4294967296:=qh
  rw[e]
  omega) (by rw[ew];omega) (by rw[ev,ek,hcode];omega) y3 H1d H1b H1M
 refine⟨hp',code',?_,r2,r4,r5,r6,r7,fun c c1 c2 c3 c4=>by rw[r8 c c1 c2 c3 c4,H1f c c1]⟩
 have er:=XL b k pre C (eK s+4) hp hb
 have pt:=qib hp m cb cs hM qe m1 x hx
 have al:=Wb hp m cb cs hM
 have fd:=qyr hp m cb cs hM qe m1 x (code/(s.width/cs.sum)) hx cdiv.1 cdiv.2
 have gs2:∀(x0 x1:AV) (v:Value) (r:List AV),ql (x0::x1::.sc v::r) 2=some v:=fun _ _ _ _=>rfl
 have gs3:∀(x0 x1 x2:AV) (v:Value) (r:List AV),ql (x0::x1::x2::.sc v::r) 3=some v:=fun _ _ _ _ _=>rfl
 have gc1:∀(x0 x1:AV) (r:List AV),qs (x0::x1::r) 1=some x1:=fun _ _ _=>rfl
 have gc0:∀(x0:AV) (r:List AV),qs (x0::r) 0=some x0:=fun _ _=>rfl
 have p2:∀(x0 x1 x2 x3 z:AV),qo [x0,x1,x2,x3] 2 [z]=some [x0,x1,z,x3]:=fun _ _ _ _ _=>rfl
 have p3:∀(x0 x1 x2 x3 z:AV),qo [x0,x1,x2,x3] 3 [z]=some [x0,x1,x2,z]:=fun _ _ _ _ _=>rfl
 have w1:IntKind.u32.wrap ((cs.sum:Nat):Int)=((cs.sum:Nat):Int):=qJ qe qe
 have qd:∀t o o',qx Tryz.prog .quo t o o' (.int .u32 (s.width:Int)) (.int .u32 (cs.sum:Nat))=some (.int .u32 ((s.width/cs.sum:Nat):Int)):=by
  intro t o o'
  rw[yx _ _ _ _ _ _ _ qe,zn2 qe]
  have e:(s.width:Int)/((cs.sum:Nat):Int)=((s.width/cs.sum:Nat):Int):=qg
  rw[e,qJ qe qe]
 have hcd:code/(s.width/cs.sum)<=code:=zo5 _ _
 have qc:∀t o o',qx Tryz.prog .quo t o o' (.int .u32 (code:Int)) (.int .u32 ((s.width/cs.sum:Nat):Int))=some (.int .u32 ((code/(s.width/cs.sum):Nat):Int)):=by
  intro t o o'
  rw[yx _ _ _ _ _ _ _ qe,zn2 qe]
  have e:(code:Int)/((s.width/cs.sum:Nat):Int)=((code/(s.width/cs.sum):Nat):Int):=qg
  rw[e,qJ qe qe]
 have hcx:cs.getD x 0<=4096:=qe
 have htx:(cs.take x).sum<=4096:=qe
 have x1:((s.width/cs.sum:Nat):Int)*(((cs.take x).sum:Nat):Int)=((s.width/cs.sum*(cs.take x).sum:Nat):Int):=qg
 have x2:((s.width/cs.sum:Nat):Int)*((cs.getD x 0:Nat):Int)=((s.width/cs.sum*cs.getD x 0:Nat):Int):=qg
 have mm:(hp.put d 0 (DC m b (code-s.width/cs.sum*(cs.take x).sum) s.width)).put d 0 (DC m b (code-s.width/cs.sum*(cs.take x).sum) (s.width/cs.sum*cs.getD x 0))=H1:=rfl
 rw[qC]at mm
 clear_value H1
 clear y3 b1 b2 b3 b4 b5 b6 b7 okn ev H1f r2 r3 r4 r5 H1d h1 h2 cdiv hcode H1b
 have ple:s.width/cs.sum<4294967296:=qe
 generalize hA:s.width/cs.sum*(cs.take x).sum=A at*
 generalize hB:s.width/cs.sum*cs.getD x 0=B at*
 generalize hQ:code/(s.width/cs.sum)=Q at*
 generalize s.width/cs.sum=p at*
 generalize(cs.take x).sum=tk at*
 generalize cs.getD x 0=gx at*
 have w2:IntKind.i64.wrap (Q:Int)=(Q:Int):=qm qe qe
 have w3:IntKind.u32.wrap (tk:Int)=(tk:Int):=qJ qe qe
 have w4:IntKind.u32.wrap ((p:Int)*(tk:Int))=(A:Int):=by rw[x1,qJ qe qe]
 have w5:IntKind.u32.wrap ((code:Int)-(A:Int))=((code-A:Nat):Int):=by rw[qJ]<;>omega
 have w6:IntKind.u32.wrap (gx:Int)=(gx:Int):=qJ qe qe
 have w7:IntKind.u32.wrap ((p:Int)*(gx:Int))=(B:Int):=by rw[x2,qJ qe qe]
 simp only[DC]at hd mm
 rw[E109]
 generalize((code-A:Nat):Int)=CA at*
 have hx0:¬((x:Int)<0):=qe
 simp[hd,gc1,er,qxf,gs3,gc0,al,Xn,w1,qd,gs2,qc,xx,w2,fd,hx0,pt,w3,w4,w5,p2,w6,w7,qp,p3,qC,mm,r1]
end
section
variable (b k:Nat)(pre C:List Int)(hpre:pre.length<=1000)(hC:By C)(hCl:C.length<=1000000)(h4:4<=C.length)
include hpre hC hCl h4
theorem qxr:∀(f i:Nat) (hp:Hp),i+f=4->hp.rd b 0=some (Rp k pre C i)->
 B169_3 (.ptr b 0 0) (.int .u32 ((qO (C.take i):Nat):Int)) (.int .i64 (i:Int)) hp=some (.sc (.int .u32 ((qO (C.take 4):Nat):Int)),hp.put b 0 (Rp k pre C 4)):=by
 intro f
 induction f with
 |zero=>
  intro i hp hi hb
  have e:i=4:=qe
  subst e
  rw[qek,jk hb]
  generalize qO (C.take 4)=N
  simp
 |succ f ih=>
  intro i hp hi hb
  have hlt:i<C.length:=qe
  have hmem:C.getD i 0∈C:=by rw[zmv,zm0 hlt];exact znb _
  obtain⟨c1,c2⟩:=hC _ hmem
  obtain⟨j,hj⟩:∃j:Nat,C.getD i 0=j:=⟨(C.getD i 0).toNat,qe⟩
  have bs:=ZO C i hlt
  rw[hj]at bs c1 c2
  rw[zm3]at bs
  have hdr:C.drop i=(j:Int)::C.drop (i+1):=by
   rw[znp hlt]
   congr 1
   rw[<-hj,zmv,zm0 hlt];rfl
  have tb:=VR b k pre C hpre hCl hdr hp qe hb
  have i2:=ih (i+1) (hp.put b 0 (Rp k pre C (i+1))) qe (qp _ _ _)
  rw[qC]at i2
  have hsm:qO (C.take i)<16777216:=by
   have a:=VG (C.take i) fun x hx=>hC x (zof hx)
   have e:(C.take i).length=i:=qi
   rw[e]at a
   have:(256:Nat)^i<=256^3:=znv qh qe
   have e3:(256:Nat)^3=16777216:=qh
   omega
  have sl:=qf2 _ hsm
  have o:=qzm _ j hsm qe
  rw[<-bs]at o
  have w1:IntKind.u32.wrap (j:Int)=(j:Int):=qJ qe qe
  have w2:IntKind.i64.wrap ((i:Int)+1)=((i+1:Nat):Int):=qj
  have hl4:(i:Int)<4:=qe
  rw[<-i2,qek]
  clear bs hsm
  generalize hp.put b 0 (Rp k pre C (i+1))=H1 at*
  generalize((qO (C.take i)*256:Nat):Int)=N1 at*
  generalize((qO (C.take i):Nat):Int)=N0 at*
  generalize((qO (C.take (i+1)):Nat):Int)=N2 at*
  generalize((i+1:Nat):Int)=I1 at*
  simp[hl4,sl,tb,qra,w1,o,w2,-zR]
theorem zdw(hp:Hp)(hb:hp.rd b 0=some (Rp k pre C 0)):run cxX 169 [.ptr b 0 0] hp=some (.sc (.int .u32 ((qO (C.take 4):Nat):Int)),hp.put b 0 (Rp k pre C 4)):=by
 have t:=qxr b k pre C hpre hC hCl h4 4 0 hp rfl hb
 have t':B169_3 (.ptr b 0 0) (.int .u32 0) (.int .i64 0) hp=some (.sc (.int .u32 ((qO (C.take 4):Nat):Int)),hp.put b 0 (Rp k pre C 4)):=t
 rw[E169]
 generalize qO (C.take 4)=N at*
 simp[t']
theorem JV(hp:Hp)(hbn:b<hp.next)(hb:hp.rd b 0=some (Rp k pre C 0)):∃hp' d m cb,run cxX 106 [.sc (.int .i64 64),.ptr b 0 0] hp=some (.ptr d 0 0,hp')/\hp'.rd d 0=some (DC m b (qO (C.take 4)) 4294967295)/\hp'.rd b 0=some (Rp k pre C 4)/\MW hp' m cb cs0/\d≠b/\d≠m/\d≠cb/\b≠m/\b≠cb/\d<hp'.next/\hp.next<=d/\hp.next<=m/\hp.next<=cb/\hp.next<=hp'.next/\∀c,c<hp.next->c≠b->hp'.get c=hp.get c:=by
 obtain⟨hp1,cb,a1,a2,a3,a4,a5⟩:=qif hp
 have hcb:=a2.2.1
 have hm:=a2.1
 have hb1:hp1.rd b 0=some (Rp k pre C 0):=by rw[xo (a5 b hbn)];exact hb
 have tp:=zdw b k pre C hpre hC hCl h4 hp1 hb1
 refine⟨(hp1.put b 0 (Rp k pre C 4)).new (DC hp.next b (qO (C.take 4)) 4294967295),hp1.next,hp.next,cb,?_,qR (hp1.put b 0 _) _,?_,?_,qe,qe,qe,qe,qe,zqd _,a4,zmx _,qe,zn7 a4 (Nat.le_succ _),fun c h1 h2=>by
  have:c≠hp1.next:=qe
  rw[<-a5 c h1]
  simp[Hp.new,Hp.put,this,h2]⟩
 ·have p0:∀(x0 x1 x2 x3 z:AV),qo [x0,x1,x2,x3] 0 [z]=some [z,x1,x2,x3]:=fun _ _ _ _ _=>rfl
  have p1:∀(x0 x1 x2 x3 z:AV),qo [x0,x1,x2,x3] 1 [z]=some [x0,z,x2,x3]:=fun _ _ _ _ _=>rfl
  have p2:∀(x0 x1 x2 x3 z:AV),qo [x0,x1,x2,x3] 2 [z]=some [x0,x1,z,x3]:=fun _ _ _ _ _=>rfl
  have p3:∀(x0 x1 x2 x3 z:AV),qo [x0,x1,x2,x3] 3 [z]=some [x0,x1,x2,z]:=fun _ _ _ _ _=>rfl
  have hn:(hp1.put b 0 (Rp k pre C 4)).next=hp1.next:=rfl
  have cp:∀a,qn 1 (.ptr a 0 0)=some [.ptr a 0 0]:=fun _=>rfl
  rw[E106]
  generalize qO (C.take 4)=N at*
  generalize hp1.put b 0 (Rp k pre C 4)=H1 at*
  simp[a1,tp,p0,p1,p2,p3,hn,cp]
  rfl
 ·rw[zF _ _ (show b≠(hp1.put b 0 (Rp k pre C 4)).next from(by omega:b≠hp1.next)),qp]
 ·have f1:Fm [b] hp1 (hp1.put b 0 (Rp k pre C 4)):=Fm.put hp1 b _ qg
  exact(a2.fr f1 qi qi).fr (Fm.new [] (hp1.put b 0 (Rp k pre C 4)) _) qg qg
end
section
variable (d b m cb k:Nat)(pre C:List Int)(hpre:pre.length<=1000)(hC:By C)(hCl:C.length<=1000000)(n1:d≠b)(n2:d≠m)(n3:d≠cb)(n4:b≠m)(n5:b≠cb)(L:List Nat)(hL:L.length<=4096)
include hpre hC hCl n1 n2 n3 n4 n5 hL
theorem zbw(X2:AV):∀(r:List Nat) (i:Nat) (s:En) (cs:List Nat) (code:Nat) (hp:Hp),L.drop i=r->i+r.length=L.length->(∀y∈r,y<64)->okM cs->Zy s s.width->16777216<=s.width/\s.width<4294967296->qO C=eV (enc cs s r)->C.length=eK (enc cs s r)+4->
 qO (C.take (eK s+4))=eV s+code->hp.rd d 0=some (DC m b code s.width)->hp.rd b 0=some (Rp k pre C (eK s+4))->MW hp m cb cs->
 ∃hp' p,B125_7 (.int .i64 64) X2 (.ptr b 0 0) (.ptr d 0 0) (S 2 1 (LI .u8 (nz (L.take i)))) (.int .i64 (L.length:Int)) (.int .i64 (i:Int)) hp=B125_12 (.int .i64 64) X2 (.ptr b 0 0) (S 2 1 (LI .u8 (nz L))) hp'/\hp'.rd b 0=some (Rp k pre C p):=by
 intro r
 induction r with
 |nil=>
  intro i s cs code hp h hil hr hm ho hw h1 h2 hcode hd hb hM
  have e:i=L.length:=by simpa using hil
  subst e
  refine⟨hp,_,?_,hb⟩
  rw[zo6,qfd]
  generalize nz L=L0
  simp
 |cons x r ih=>
  intro i s cs code hp h hil hr hm ho hw h1 h2 hcode hd hb hM
  obtain⟨e1,e2,hi,e3⟩:=qt h
  simp only[zmu]at hil
  have hx:=hr x qg
  have hr':∀y∈r,y<64:=fun y hy=>hr y (by simp[hy])
  obtain⟨hp1,code1,a1,a2,a3,a4,a5,a6,a7⟩:=qch d b m cb k x pre C hpre hC hCl hx cs hm n1 n2 n3 n4 n5 s r code hp hr' ho hw h1 h2 hcode hd hb hM
  obtain⟨dd,b1,b2,b3,b4,b5,b6,b7⟩:=Za s cs x hm hx ho ⟨hw.1,zpy hw.2⟩
  have hlt2:(zE 4 (xC s cs x)).width<4294967296:=by
   apply Vt
   show s.width/cs.sum*cs.getD x 0<_
   have ht:=qP cs x (by have:=hm.1;omega)
   have hta:=qQ cs (x+1)
   have hmul:s.width/cs.sum*cs.sum<=s.width:=zn9 _ _
   have hle:s.width/cs.sum*cs.getD x 0<=s.width/cs.sum*cs.sum:=zn4 _ qe
   omega
  obtain⟨hp2,p,c1,c2⟩:=ih (i+1) (zE 4 (xC s cs x)) (Yu cs x) code1 hp1 e2 qe hr' (Qy hm hx) b4 ⟨b5,hlt2⟩ h1 h2 a2 a3 a4 a5
  refine⟨hp2,p,?_,c2⟩
  have hlt:(i:Int)<(L.length:Int):=qe
  have hx0:¬((x:Int)<0):=qe
  have w1:IntKind.u8.wrap (x:Int)=(x:Int):=zy qe qe
  have w2:IntKind.i64.wrap ((i:Int)+1)=((i+1:Nat):Int):=qj
  have ap:=QZ .u8 (nz (L.take i)) 2 (.inr rfl) 1 qh (x:Int) qi
  have es:nz (L.take i)++[(x:Int)]=nz (L.take (i+1)):=by
   have a1:L.take (i+1)=L.take i++[x]:=by rw[zo2,e1];rfl
   rw[a1,yO]
  rw[es]at ap
  rw[<-c1,qfd]
  have hi4:(i<L.length)=True:=by simp[hi]
  generalize nz (L.take (i+1))=L1 at*
  generalize nz (L.take i)=L0 at*
  generalize((i+1:Nat):Int)=I1 at*
  simp[hi4,a1,hx0,yi,w1,yF,ap,w2]
end
theorem qac{l:List Nat}(hl:l.length<=1000)(h64:∀x∈l,x<64):4<=(jh l).length/\(jh l).length<=1000000:=by
 have a:=QU hl h64
 have b:=(Jv l h64).2
 omega
theorem qm8(L:List Nat)(t:Nat)(hL:L.length<=1000)(h64:∀x∈L,x<64)(hp:Hp):
 ∃hp',run cxX 125 [.sc (.int .i64 64),.sc (.int .i64 (L.length:Int)),S t 1 (LI .u8 (jh L))] hp=some (.tup [S 2 1 (LI .u8 (nz L)),.sc (.int .i64 0)],hp'):=by
 obtain⟨l4,lC⟩:=qac hL h64
 have hC:By (jh L):=qha L
 obtain⟨v1,v2⟩:=Jv L h64
 have rd0:=Jb (rk t) (jh L) hp
 rw[Wp]at rd0
 obtain⟨hp1,d,m,cb,a1,a2,a3,a4,n1,n2,n3,n4,n5,_⟩:=JV hp.next (rk t) [] (jh L) qg hC lC l4 (hp.new (Rc (rk t) (jh L) 0 0)) qg (by rw[zkd];exact qR _ _)
 obtain⟨hp2,p,b1,b2⟩:=zbw d hp.next m cb (rk t) [] (jh L) qg hC lC n1 n2 n3 n4 n5 L qe (S t 1 (LI .u8 (jh L))) L 0 en0 cs0 (qO ((jh L).take 4)) hp1 rfl qe h64 qji qjj ⟨qh,qh⟩ v1 v2 (by
  show qO ((jh L).take (0+4))=0+_
  rw[zm4,zm4]) a2 a3 a4
 have er:=XL hp.next (rk t) [] (jh L) p hp2 b2
 obtain⟨hp3,c1,c2⟩:=qsm L 3 qe h64 hp0
 have c3:B125_12 (.int .i64 64) (S t 1 (LI .u8 (jh L))) (.ptr hp.next 0 0) (S 2 1 (LI .u8 (nz L))) hp2=some (.tup [S 2 1 (LI .u8 (nz L)),.sc (.int .i64 0)],hp2):=by
  rw[qpl]
  generalize nz L=L0 at*
  generalize jh L=C0 at*
  simp[er,c1]
 have b1':B125_7 (.int .i64 64) (S t 1 (LI .u8 (jh L))) (.ptr hp.next 0 0) (.ptr d 0 0) (S 2 1 []) (.int .i64 (L.length:Int)) (.int .i64 0) hp1=B125_12 (.int .i64 64) (S t 1 (LI .u8 (jh L))) (.ptr hp.next 0 0) (S 2 1 (LI .u8 (nz L))) hp2:=b1
 have m0:¬((L.length:Int)<0):=qe
 have m1:¬((4096:Int)<(L.length:Int)):=qe
 refine⟨hp2,?_⟩
 rw[E125]
 generalize hp.new (Rc (rk t) (jh L) 0 0)=H0 at*
 generalize jh L=C0 at*
 generalize nz L=L0 at*
 have m1':decide ((4096:Int)<(L.length:Int))=false:=decide_eq_false m1
 simp[m0,m1',qw8,rd0,a1,b1',c3]
theorem YF(n:Nat)(h:n<=1048576)(hp:Hp):run cxX 16 [.sc (.int .i64 (n:Int))] hp=some (.sc (.int .i64 (64*(n:Int)+16384)),hp):=by
 have m1:max (n:Int) 0=n:=qe
 have m2:min (n:Int) 1048576=n:=qe
 have w1:IntKind.i64.wrap (64*(n:Int))=64*(n:Int):=qm qe qe
 have w2:IntKind.i64.wrap (64*(n:Int)+16384)=64*(n:Int)+16384:=qm qe qe
 rw[E16]
 simp[m1,m2,w1,w2]
theorem wF(n:Int)(hp:Hp):run cxX 30 [.sc (.pointer none),.sc (.int .i64 n)] hp=some (.sc (.int .i64 0),hp):=by
 rw[E30]
 simp
theorem ZW{x:SkN}(f:Fine x)(g:Gs)(gw:g.W)(gn:g.nf=x.g)(a c d e q t:Nat)(b k:Nat)(l:List Int)(hl:l.length<=1000000000)(hp:Hp)(hr:hp.rd b 0=some (Rc k l l.length 0)):
 B21_24 (.ptr b 0 0) xZ (JH x g a c d e q t) hp=some (.tup [Qx x g a c d e q t,.sc (.int .i64 0)],hp):=by
 have ck:=qh0 (zL gw gn (rk a) (rk c) (rk d) (rk e) (rk q) (rk t)) f.w hp0
 have en:=VZ b k l l.length 0 hp hl (zmx _) hr
 have e0:(if(0:Int)=0/\l.length<l.length then(15:Int)else 0)=0:=qg
 rw[e0]at en
 rw[f.c]at ck
 rw[qvx]
 unfold Qx at ck⊢
 unfold JH xZ
 simp[en,qr,qo,ck]
theorem qx7(b k:Nat)(l:List Int)(hl:l.length<=1000000000)(P:Int)(hP:4<=P/\P<=8)(L:List Nat)(hL:L.length=jW P)(h64:∀x∈L,x<64)(p:Nat)(hd:l.drop p=P::jh L)(hp:Hp)(hpl:p<=l.length)(hr:hp.rd b 0=some (Rc k l p 0)):
 ∃t,run cxX 62 [.ptr b 0 0] hp=some (.agg [.sc (.int .i64 P),S t 1 (LI .u8 (nz L))],hp.put b 0 (Rc k l l.length 0)):=by
 have hp256:jW P<=256:=by
  unfold jW
  exact zn7 (znv qh (show P.toNat<=8 by omega)) qh
 have t0:=zn b k l hl hd hp hpl hr
 obtain⟨_,d0,hi0,_⟩:=qt hd
 have el:l.length=p+1+(jh L).length:=by
  have:=congrArg List.length d0
  simp only[zor]at this
  omega
 have d0':l.drop (p+1)=jh L++[]:=by rw[znj];exact d0
 have lf:=XK b k l (p+1) 0 (hp.put b 0 (Rc k l (p+1) 0)) hl qe (qp _ _ _)
 have eL:rL l (p+1) 0=(jh L).length:=by unfold rL;rw[if_pos rfl];omega
 rw[eL]at lf
 obtain⟨t,t1⟩:=vh b k l hl d0' (hp.put b 0 (Rc k l (p+1) 0)) qe (qp _ _ _)
 rw[qC,<-el]at t1
 obtain⟨hpC,ct⟩:=qm8 L (rk t) qe h64 hp0
 have hn:=qij P hP hp0
 have w1:IntKind.i64.wrap P=P:=qm qe qe
 refine⟨3,?_⟩
 rw[E62]
 generalize hp.put b 0 (Rc k l (p+1) 0)=H1 at*
 generalize hp.put b 0 (Rc k l l.length 0)=H2 at*
 generalize jh L=C0 at*
 rw[hL]at ct
 generalize nz L=L0 at*
 simp[t0,jT,w1,hn,qo,qs,lf,t1,ct,zcr,qr]
theorem za5{x:SkN}{v:AV}(hv:jU x v):vB x.g.lo/\vB x.g.hi/\∀k∈x.g.L,vB k:=by
 obtain⟨g,a,b,c,d,e,t,gw,gn,rfl⟩:=hv
 rw[<-gn]
 refine⟨WK gw.lo,WK gw.hi,fun k hk=>?_⟩
 obtain⟨w,hw,rfl⟩:=zns.mp hk
 exact WK (gw.L w hw)
def gOf(g:GN):Gs:=⟨g.M,g.e0,g.e1,g.e2,g.e3,g.e4,g.e5,wk g.lo,wk g.hi,g.L.map wk⟩
theorem zi7{g:GN}(h1:vB g.lo)(h2:vB g.hi)(h3:∀k∈g.L,vB k):(gOf g).nf=g:=by
 have e:(g.L.map wk).map kw=g.L:=by
  rw[zq1]
  have:∀k∈g.L,(kw∘wk) k=id k:=fun k hk=>(h3 k hk).2
  rw[zq8 this,List.map_id]
 unfold gOf Gs.nf
 simp only[h1.2,h2.2,e]
theorem zlz{g:GN}(p:g.Pos)(h1:vB g.lo)(h2:vB g.hi)(h3:∀k∈g.L,vB k)(hl:g.L.length<=16):(gOf g).W:=by
 obtain⟨p0,p1,p2,p3,p4,p5,p6⟩:=p
 refine⟨p0,p1,p2,p3,p4,p5,p6,qbv _ h1.1,qbv _ h2.1,fun w hw=>?_,by show(g.L.map wk).length<=_;rw[zov];omega⟩
 obtain⟨k,hk,rfl⟩:=zns.mp hw
 exact qbv _ (h3 k hk).1
theorem Jc{x:SkN}{v:AV}(hv:jU x v)(f:Fine x)(h64:Vg x)(k:Nat)(M:AV)(hro:AI.ro M=M)(hp hp1:Hp)(mt:run cxX 30 [M,.sc (.int .i64 (64*((qy x).length:Int)+16384))] hp=some (.sc (.int .i64 0),hp1)):
 ∃r hp',jU x r/\run cxX 21 [.sc (.int .u8 x.kind),S k 1 (LI .u8 (qy x)),M] hp=some (.tup [r,.sc (.int .i64 0)],hp')/\hp1.next<=hp'.next/\∀a,a<hp1.next->hp'.get a=hp1.get a:=by
 have nn:=Zu hv f h64
 have by8:=zem f h64
 have hk:=f.w.kind
 obtain⟨kd,on,_⟩:=qZ.mp f.c
 have six:x.kind=0\/x.kind=1\/x.kind=2\/x.kind=3\/x.kind=4\/x.kind=5:=qe
 have rm:=YF (qy x).length qe hp0
 have wr:=Jb (rk k) (qy x) hp1
 rw[Wp]at wr
 have hr0:(hp1.new (Rc (rk k) (qy x) 0 0)).rd hp1.next 0=some (Rc (rk k) (qy x) 0 0):=qR _ _
 have fr0:∀a,a<hp1.next->(hp1.new (Rc (rk k) (qy x) 0 0)).get a=hp1.get a:=fun a ha=>by
  have:a≠hp1.next:=qe
  simp[Hp.new,this]
 have hn0:(hp1.new (Rc (rk k) (qy x) 0 0)).next=hp1.next+1:=rfl
 have hlen:¬((1048576:Int)<((qy x).length:Int)):=qe
 have dlen:decide ((1048576:Int)<((qy x).length:Int))=false:=decide_eq_false hlen
 have d0:∀Y:List Int,qy x=Y->(qy x).drop 0=Y++[]:=fun Y h=>by rw[h,zou,znj]
 rcases six with kk|kk|kk|kk|kk|kk
 ·have s:=wU f kk
  have eY:qy x=jV (jO (tn x.set)):=by unfold qy;rw[if_pos kk]
  have cl:=Xr (tn x.set)
  have tc:=zdk (tn x.set)
  rw[JO]at cl tc
  obtain⟨hp2,a1,a2,a3,a4⟩:=QC hp1.next (rk k) (qy x) qe by8 (jO (tn x.set)) (wP s.2.2.1) qe qe (vN _ s.2.1) 0 [] (d0 _ eY) (hp1.new (Rc (rk k) (qy x) 0 0)) qe (by rw[hn0];omega) hr0
  rw[<-eY,zm4]at a2
  have sl:=qr6 (jO (tn x.set)) 3 (wP s.2.2.1) qe qe hp0
  rw[qqh _ s.2.1,s.2.2.2]at sl
  have ex:x={skZ with kind:=0,set:=x.set}:=by
   rw[jM,if_pos kk,kk]at on;exact on
  have t24:=ZW f gz kN (by rw[ex];rfl) 2 2 2 2 2 2 hp1.next (rk k) (qy x) qe hp2 a2
  refine⟨_,hp2,zL kN (by rw[ex];rfl) 2 2 2 2 2 2,?_,zn7 (by rw[hn0];omega) a3,fun a ha=>by rw[a4 a (by rw[hn0];omega) qe,fr0 a ha]⟩
  rw[<-t24,E21]
  generalize qy x=Y at*
  generalize hp1.new (Rc (rk k) Y 0 0)=H1 at*
  generalize csL (jO (tn x.set))=CL at*
  have e2:JH x gz 2 2 2 2 2 2=JH {skZ with kind:=0,set:=x.set} gz 2 2 2 2 2 2:=congrArg (fun y=>JH y gz 2 2 2 2 2 2) ex
  rw[e2]
  simp[dlen,rm,hro,mt,kk,wr,a1,sl,qo]
  rfl
 ·have s:=vd f kk h64
  have eY:qy x=uv x.K.toNat++zh (tn x.hs):=by unfold qy;rw[if_neg qe,if_pos kk]
  have eYl:(qy x).length=(uv x.K.toNat).length+(zh (tn x.hs)).length:=by rw[eY,zmt]
  have dd:(qy x).drop 0=uv x.K.toNat++(zh (tn x.hs)++[]):=by rw[eY,znj,zou]
  have t0:=zd hp1.next (rk k) (qy x) qe by8 (most:=1024) dd qe qe (hp1.new (Rc (rk k) (qy x) 0 0)) (znl _) hr0
  have d1:=qL dd
  have q1:=qW (znl _) dd
  rw[zm4]at t0 d1 q1
  obtain⟨hp2,a1,a2,a3,a4⟩:=qr7 hp1.next (rk k) (qy x) qe by8 (tn x.hs) (by rw[JO];exact s.2.1) s.2.2.2.1 s.2.2.1 (uv x.K.toNat).length [] d1 ((hp1.new (Rc (rk k) (qy x) 0 0)).put hp1.next 0 (Rc (rk k) (qy x) (uv x.K.toNat).length 0)) q1 (by show hp1.next<hp1.next+1;omega) (qp _ _ _)
  rw[<-eYl]at a2
  rw[s.2.2.2.2]at a1
  have ex:x={skZ with kind:=1,K:=x.K,hs:=x.hs}:=by
   rw[jM,if_neg qe,if_pos kk,kk]at on;exact on
  have t24:=ZW f gz kN (by rw[ex];rfl) 2 3 2 2 2 2 hp1.next (rk k) (qy x) qe hp2 a2
  refine⟨_,hp2,zL kN (by rw[ex];rfl) 2 3 2 2 2 2,?_,by rw[a3];show hp1.next<=hp1.next+1+2;omega,fun a ha=>by
   have h1:a≠hp1.next:=qe
   rw[a4 a (by show a<hp1.next+1;omega) h1,<-fr0 a ha];simp[Hp.put,h1]⟩
  have eK:((x.K.toNat:Nat):Int)=x.K:=qe
  have w1:IntKind.i64.wrap x.K=x.K:=qm qe qe
  have lit:((1024:Nat):Int)=1024:=rfl
  rw[eK,lit]at t0
  rw[<-t24,E21]
  generalize qy x=Y at*
  generalize(hp1.new (Rc (rk k) Y 0 0)).put hp1.next 0 (Rc (rk k) Y (uv x.K.toNat).length 0)=H2 at*
  generalize hp1.new (Rc (rk k) Y 0 0)=H1 at*
  have e2:JH x gz 2 3 2 2 2 2=JH {skZ with kind:=1,K:=x.K,hs:=x.hs} gz 2 3 2 2 2 2:=congrArg (fun y=>JH y gz 2 3 2 2 2 2) ex
  rw[e2]
  simp[dlen,rm,hro,mt,kk,wr,t0,xw,w1,a1,qo]
  rfl
 ·have s:=ve f kk
  have eY:qy x=x.P::jh (tn x.rg):=by unfold qy;rw[if_neg qe,if_neg qe,if_pos kk]
  obtain⟨t,a1⟩:=qx7 hp1.next (rk k) (qy x) qe x.P s.1 (tn x.rg) (by rw[JO];exact s.2.1) s.2.2.2.1 0 (by rw[zou];exact eY) (hp1.new (Rc (rk k) (qy x) 0 0)) (znl _) hr0
  rw[s.2.2.2.2]at a1
  have ex:x={skZ with kind:=2,P:=x.P,rg:=x.rg}:=by
   rw[jM,if_neg qe,if_neg qe,if_pos kk,kk]at on;exact on
  have t24:=ZW f gz kN (by rw[ex];rfl) 2 2 t 2 2 2 hp1.next (rk k) (qy x) qe ((hp1.new (Rc (rk k) (qy x) 0 0)).put hp1.next 0 (Rc (rk k) (qy x) (qy x).length 0)) (qp _ _ _)
  refine⟨_,(hp1.new (Rc (rk k) (qy x) 0 0)).put hp1.next 0 (Rc (rk k) (qy x) (qy x).length 0),zL kN (by rw[ex];rfl) 2 2 t 2 2 2,?_,by show hp1.next<=hp1.next+1;omega,fun a ha=>?_⟩
  ·rw[<-t24,E21]
   generalize qy x=Y at*
   generalize(hp1.new (Rc (rk k) Y 0 0)).put hp1.next 0 (Rc (rk k) Y Y.length 0)=H2 at*
   generalize hp1.new (Rc (rk k) Y 0 0)=H1 at*
   have e2:JH x gz 2 2 t 2 2 2=JH {skZ with kind:=2,P:=x.P,rg:=x.rg} gz 2 2 t 2 2 2:=congrArg (fun y=>JH y gz 2 2 t 2 2 2) ex
   rw[e2]
   simp[dlen,rm,hro,mt,kk,wr,a1,qo]
   rfl
  ·have h1:a≠hp1.next:=qe
   rw[<-fr0 a ha];simp[Hp.put,h1]
 ·have s:=xP f kk
  have eY:qy x=uv x.B.toNat++[x.H]++zB (tn x.bs):=by unfold qy;rw[if_neg qe,if_neg qe,if_neg qe,if_pos kk]
  have eYl:(qy x).length=(uv x.B.toNat).length+1+(zB (tn x.bs)).length:=by rw[eY];simp only[zmt,zm5]
  have dd:(qy x).drop 0=uv x.B.toNat++(x.H::(zB (tn x.bs)++[])):=by rw[eY,znj,zou];simp
  have t0:=zd hp1.next (rk k) (qy x) qe by8 (most:=4096) dd qe qe (hp1.new (Rc (rk k) (qy x) 0 0)) (znl _) hr0
  have d1:=qL dd
  have q1:=qW (znl _) dd
  rw[zm4]at t0 d1 q1
  have t1:=zn hp1.next (rk k) (qy x) qe d1 ((hp1.new (Rc (rk k) (qy x) 0 0)).put hp1.next 0 (Rc (rk k) (qy x) (uv x.B.toNat).length 0)) q1 (qp _ _ _)
  rw[qC]at t1
  obtain⟨_,d2,hi2,_⟩:=qt d1
  obtain⟨ta,tb,t2⟩:=XP (tn x.bs) (by rw[JO];exact s.2.2.1) s.2.2.2.2.1 s.2.2.2.1 hp1.next (rk k) (qy x) qe by8 ((uv x.B.toNat).length+1) [] d2 ((hp1.new (Rc (rk k) (qy x) 0 0)).put hp1.next 0 (Rc (rk k) (qy x) ((uv x.B.toNat).length+1) 0)) qe (qp _ _ _)
  rw[qC,<-eYl]at t2
  obtain⟨hpL,ls⟩:=XQ (tn x.bs) (by rw[JO];exact s.2.2.1) s.2.2.2.2.1 s.2.2.2.1 (rk ta) (rk tb) hp0
  rw[s.2.2.2.2.2]at ls
  have ex:x={skZ with kind:=3,B:=x.B,H:=x.H,bs:=x.bs}:=by
   rw[jM,if_neg qe,if_neg qe,if_neg qe,if_pos kk,kk]at on;exact on
  have t24:=ZW f gz kN (by rw[ex];rfl) 2 2 2 2 2 2 hp1.next (rk k) (qy x) qe ((hp1.new (Rc (rk k) (qy x) 0 0)).put hp1.next 0 (Rc (rk k) (qy x) (qy x).length 0)) (qp _ _ _)
  refine⟨_,(hp1.new (Rc (rk k) (qy x) 0 0)).put hp1.next 0 (Rc (rk k) (qy x) (qy x).length 0),zL kN (by rw[ex];rfl) 2 2 2 2 2 2,?_,by show hp1.next<=hp1.next+1;omega,fun a ha=>?_⟩
  ·have eB:((x.B.toNat:Nat):Int)=x.B:=qe
   have w1:IntKind.i64.wrap x.B=x.B:=qm qe qe
   have w2:IntKind.i64.wrap x.H=x.H:=qm qe qe
   have lit:((4096:Nat):Int)=4096:=rfl
   rw[eB,lit]at t0
   rw[<-t24,E21]
   unfold vT at t2 ls
   generalize pk (qN (qA (tn x.bs)) (tn x.bs))=A at*
   generalize pk (qG (qA (tn x.bs)) 0 (tn x.bs))=Bh at*
   generalize qy x=Y at*
   generalize(hp1.new (Rc (rk k) Y 0 0)).put hp1.next 0 (Rc (rk k) Y Y.length 0)=H4 at*
   generalize(hp1.new (Rc (rk k) Y 0 0)).put hp1.next 0 (Rc (rk k) Y ((uv x.B.toNat).length+1) 0)=H3 at*
   generalize(hp1.new (Rc (rk k) Y 0 0)).put hp1.next 0 (Rc (rk k) Y (uv x.B.toNat).length 0)=H2 at*
   generalize hp1.new (Rc (rk k) Y 0 0)=H1 at*
   have e2:JH x gz 2 2 2 2 2 2=JH {skZ with kind:=3,B:=x.B,H:=x.H,bs:=x.bs} gz 2 2 2 2 2 2:=congrArg (fun y=>JH y gz 2 2 2 2 2 2) ex
   rw[e2]
   generalize((tn x.bs).length:Int)=N1 at*
   generalize((qI (tn x.bs):Nat):Int)=N2 at*
   generalize((qA (tn x.bs):Nat):Int)=N3 at*
   simp[dlen,rm,hro,mt,kk,wr,t0,xw,w1,t1,jT,w2,t2,ls,qo]
   rfl
  ·have h1:a≠hp1.next:=qe
   rw[<-fr0 a ha];simp[Hp.put,h1]
 ·have s:=vf f kk
  have eY:qy x=[x.R]++uv x.C.toNat++zU x.C x.cs 0 0:=by unfold qy;rw[if_neg qe,if_neg qe,if_neg qe,if_neg qe,if_pos kk]
  obtain⟨hp2,a1,a2,a3⟩:=qx9 hp1.next (rk k) (qy x) qe by8 x.R x.C s.1 s.2.1 x.cs s.2.2.1 f.w.cs 0 [] (d0 _ eY) (hp1.new (Rc (rk k) (qy x) 0 0)) (znl _) (by rw[hn0];omega) hr0
  rw[<-eY,zm4]at a2
  have ex:x={skZ with kind:=4,R:=x.R,C:=x.C,cs:=x.cs}:=by
   rw[jM,if_neg qe,if_neg qe,if_neg qe,if_neg qe,if_pos kk,kk]at on;exact on
  have t24:=ZW f gz kN (by rw[ex];rfl) 2 2 2 2 0 2 hp1.next (rk k) (qy x) qe hp2 a2
  refine⟨_,hp2,zL kN (by rw[ex];rfl) 2 2 2 2 0 2,?_,zn7 (by rw[hn0];omega) a3.1,fun a ha=>by
   have h1:a≠hp1.next:=qe
   rw[a3.2 a (by rw[hn0];omega) (by simp[h1]),fr0 a ha]⟩
  rw[<-t24,E21]
  generalize qy x=Y at*
  generalize hp1.new (Rc (rk k) Y 0 0)=H1 at*
  have e2:JH x gz 2 2 2 2 0 2=JH {skZ with kind:=4,R:=x.R,C:=x.C,cs:=x.cs} gz 2 2 2 2 0 2:=congrArg (fun y=>JH y gz 2 2 2 2 0 2) ex
  rw[e2]
  simp[dlen,rm,hro,mt,kk,wr,a1,qo]
  rfl
 ·have s:=xe f kk
  obtain⟨g1,g2,g3⟩:=za5 hv
  have eY:qy x=yy x.gK x.g:=by unfold qy;rw[if_neg qe,if_neg qe,if_neg qe,if_neg qe,if_neg qe]
  have a1:=qx8 hp1.next (rk k) (qy x) qe by8 x.gK qe x.g f.pos g1 g2 g3 (Zx s.2.1) s.2.2 0 [] (d0 _ eY) (hp1.new (Rc (rk k) (qy x) 0 0)) (znl _) hr0
  rw[<-eY,zm4]at a1
  have ex:x={skZ with kind:=5,gK:=x.gK,g:=x.g}:=by
   rw[jM,if_neg qe,if_neg qe,if_neg qe,if_neg qe,if_neg qe,if_pos kk,kk]at on;exact on
  have gw:=zlz f.pos g1 g2 g3 s.2.2
  have gn:=zi7 g1 g2 g3
  have t24:=ZW f (gOf x.g) gw gn 2 2 2 2 2 2 hp1.next (rk k) (qy x) qe ((hp1.new (Rc (rk k) (qy x) 0 0)).put hp1.next 0 (Rc (rk k) (qy x) (qy x).length 0)) (qp _ _ _)
  refine⟨_,(hp1.new (Rc (rk k) (qy x) 0 0)).put hp1.next 0 (Rc (rk k) (qy x) (qy x).length 0),zL gw gn 2 2 2 2 2 2,?_,by show hp1.next<=hp1.next+1;omega,fun a ha=>?_⟩
  ·rw[<-t24,E21]
   generalize qy x=Y at*
   generalize(hp1.new (Rc (rk k) Y 0 0)).put hp1.next 0 (Rc (rk k) Y Y.length 0)=H2 at*
   generalize hp1.new (Rc (rk k) Y 0 0)=H1 at*
   have e2:JH x (gOf x.g) 2 2 2 2 2 2=JH {skZ with kind:=5,gK:=x.gK,g:=x.g} (gOf x.g) 2 2 2 2 2 2:=congrArg (fun y=>JH y (gOf x.g) 2 2 2 2 2 2) ex
   rw[e2]
   simp[dlen,rm,hro,mt,kk,wr,a1,qo]
   rfl
  ·have h1:a≠hp1.next:=qe
   rw[<-fr0 a ha];simp[Hp.put,h1]
theorem zq(v:Value):ql [.sc v] 0=some v:=rfl
theorem ya(k:Nat)(hp:Hp):run cxX 55 [S k 1 [.sc (.int .i64 0),.sc (.int .i64 0)]] hp=some (.sc (.int .i64 0),hp):=by
 rw[E55]
 have b2:B55_2 (S (rk k) 1 [.sc (.int .i64 0),.sc (.int .i64 0)]) (.int .i64 2) (.int .i64 2) hp=some (.sc (.int .i64 0),hp):=by
  rw[qa2];simp
 have w1:IntKind.i64.wrap (1+1)=2:=qh
 have w0:IntKind.i64.wrap (0+1)=1:=qh
 have b1:B55_2 (S (rk k) 1 [.sc (.int .i64 0),.sc (.int .i64 0)]) (.int .i64 2) (.int .i64 1) hp=some (.sc (.int .i64 0),hp):=by
  rw[qa2];simp[zq,w1,b2]
 have b0:B55_2 (S (rk k) 1 [.sc (.int .i64 0),.sc (.int .i64 0)]) (.int .i64 2) (.int .i64 0) hp=some (.sc (.int .i64 0),hp):=by
  rw[qa2];simp[zq,w0,b1]
 simp[b0]
theorem zfj(cs:List (Nat×Nat)):(lsC cs).length=vW cs:=by
 induction cs with
 |nil=>rfl
 |cons c r ih=>
  show(KS c.1 c.2 256 0++lsC r).length=zt c.2 256+vW r
  have:=qqf c.1 c.2 256 0
  have e:zt c.2 0=0:=rfl
  rw[e]at this
  rw[zmt,ih]
  simp only[zoi,zm4]at this
  omega
theorem qft(l:List Nat)(h:qM l):vW (jO l)=l.length:=by rw[<-zfj,qqh l h]
structure RW3 (hp : Hp) (rb sb wb k1 k2 : Nat) (L1 L2 : List Int) (p1 p2 : Nat) (Z : List Int) : Prop where
 r:hp.rd rb 0=some (Rc k1 L1 p1 0)
 s:hp.rd sb 0=some (Rc k2 L2 p2 0)
 w:hp.rd wb 0=some (Wc Z)
 lr:rb<hp.next
 ls:sb<hp.next
 lw:wb<hp.next
 rs:rb≠sb
 rw:rb≠wb
 sw:sb≠wb
section
variable {hp:Hp}{rb sb wb k1 k2:Nat}{L1 L2:List Int}{p1 p2:Nat}{Z:List Int}
theorem RW3.fr{hp':Hp}{p1' p2':Nat}{Z':List Int}(h:RW3 hp rb sb wb k1 k2 L1 L2 p1 p2 Z)(hn:hp.next<=hp'.next)(h1:hp'.rd rb 0=some (Rc k1 L1 p1' 0))(h2:hp'.rd sb 0=some (Rc k2 L2 p2' 0))(h3:hp'.rd wb 0=some (Wc Z')):RW3 hp' rb sb wb k1 k2 L1 L2 p1' p2' Z':=
 ⟨h1,h2,h3,znc h.lr hn,znc h.ls hn,znc h.lw hn,h.rs,h.rw,h.sw⟩
theorem RW3.setR(h:RW3 hp rb sb wb k1 k2 L1 L2 p1 p2 Z)(p:Nat):RW3 (hp.put rb 0 (Rc k1 L1 p 0)) rb sb wb k1 k2 L1 L2 p p2 Z:=
 h.fr (zmx _) (qp _ _ _) (by rw[qB _ _ (fun e=>h.rs e.symm)];exact h.s) (by rw[qB _ _ (fun e=>h.rw e.symm)];exact h.w)
theorem RW3.setS(h:RW3 hp rb sb wb k1 k2 L1 L2 p1 p2 Z)(p:Nat):RW3 (hp.put sb 0 (Rc k2 L2 p 0)) rb sb wb k1 k2 L1 L2 p1 p Z:=
 h.fr (zmx _) (by rw[qB _ _ h.rs];exact h.r) (qp _ _ _) (by rw[qB _ _ (fun e=>h.sw e.symm)];exact h.w)
theorem RW3.setW(h:RW3 hp rb sb wb k1 k2 L1 L2 p1 p2 Z)(Z':List Int):RW3 (hp.put wb 0 (Wc Z')) rb sb wb k1 k2 L1 L2 p1 p2 Z':=
 h.fr (zmx _) (by rw[qB _ _ h.rw];exact h.r) (by rw[qB _ _ h.sw];exact h.s) (qp _ _ _)
end
theorem qsh(hp:Hp)(rb sb wb k1 k2:Nat)(a b m:List Nat)(ha:qM a)(hb:qM b)(hm:qM m)(a32:∀x∈a,x<4294967296)(b32:∀x∈b,x<4294967296)(al:a.length<=4096)(bl:b.length<=4096)(hab:∀x,x∈m↔x∈a\/x∈b)
 (h:RW3 hp rb sb wb k1 k2 (jV (jO a)) (jV (jO b)) 0 0 []):
 ∃hp',run cxX 49 [.ptr wb 0 0,.ptr rb 0 0,.ptr sb 0 0] hp=some (.sc (.int .i64 (if 4096<m.length then 7 else 0)),hp')/\
  (m.length<=4096->RW3 hp' rb sb wb k1 k2 (jV (jO a)) (jV (jO b)) (jV (jO a)).length (jV (jO b)).length (jV (jO m))):=by
 have oa:=wP a32
 have ob:=wP b32
 have m32:∀x∈m,x<4294967296:=fun x hx=>((hab x).mp hx).elim (a32 x) (b32 x)
 have om:=wP m32
 have ca:=Xr a
 have cb:=Xr b
 have cm:=Xr m
 have la:=wY (l:=a) al a32
 have lb:=wY (l:=b) bl b32
 have e:=zjr a b m ha hb hm a32 b32 hab
 have ta:=qft a ha
 have tb:=qft b hb
 have tm:=qft m hm
 obtain⟨hp1,q1,q2,q3,q4⟩:=QC rb k1 (jV (jO a)) qe qga (jO a) oa qe qe (vN a ha) 0 [] qg hp qe h.lr h.r
 rw[zm4]at q2
 have s1:hp1.rd sb 0=some (Rc k2 (jV (jO b)) 0 0):=by rw[xo (q4 sb h.ls (fun e=>h.rs e.symm))];exact h.s
 have w1:hp1.rd wb 0=some (Wc []):=by rw[xo (q4 wb h.lw (fun e=>h.rw e.symm))];exact h.w
 have h1:RW3 hp1 rb sb wb k1 k2 (jV (jO a)) (jV (jO b)) (jV (jO a)).length 0 []:=h.fr q3 q2 s1 w1
 obtain⟨hp2,z1,z2,z3,z4⟩:=QC sb k2 (jV (jO b)) qe qga (jO b) ob qe qe (vN b hb) 0 [] qg hp1 qe h1.ls s1
 rw[zm4]at z2
 have h2:RW3 hp2 rb sb wb k1 k2 (jV (jO a)) (jV (jO b)) (jV (jO a)).length (jV (jO b)).length []:=
  h1.fr z3 (by rw[xo (z4 rb h1.lr h.rs)];exact q2) z2 (by rw[xo (z4 wb h1.lw (fun e=>h.sw e.symm))];exact w1)
 have r1:=qV rb k1 _ _ _ hp2 h2.r
 have r2:=qV sb k2 _ _ _ hp2 h2.s
 have f2:=ya
 have so:=fun k k'=>zdx (jO a) (jO b) k k' qe oa ob hp0
 rw[e]at so
 have mlen:m.length<=8192:=by
  have:m.length<=(a++b).length:=by
   have nd:m.Nodup:=((xa m).mp hm).imp (fun h=>zoz h)
   exact nd.length_le_of_subset (fun x hx=>by rw[zn3];exact(hab x).mp hx)
  rw[zmt]at this
  omega
 have totm:vW (jO m)<=1000000:=qe
 have sm:=fun k=>qr5 (jO m) k qe totm hp0
 rw[tm]at sm
 by_cases hlt:4096<m.length
 ·rw[if_pos hlt]
  refine⟨hp2,?_,fun c=>qe⟩
  have hlt':(4096:Int)<(m.length:Int):=qe
  rw[E49]
  simp[q1,z1,r1,r2,f2,so,sm,hlt,hlt']
 ·rw[if_neg hlt]
  have hlt':¬((4096:Int)<(m.length:Int)):=qe
  have sp:=fun k=>qya (jO m) k wb om qe [] qg hp2 h2.w
  rw[znn]at sp
  refine⟨hp2.put wb 0 (Wc (jV (jO m))),?_,fun _=>h2.setW _⟩
  rw[E49]
  generalize csL (jO m)=CM at*
  generalize csL (jO a)=CA at*
  generalize csL (jO b)=CB at*
  simp[q1,z1,r1,r2,f2,so,sm,hlt,hlt',sp]
def vX:List Nat->List Nat->List Nat
 |[],b=>b
 |a,[]=>a
 |x::a,y::b=>if x<y then x::vX a (y::b)else if y<x then y::vX (x::a) b else x::vX a b
termination_by a b=>a.length+b.length
@[simp] theorem xJ(b:List Nat):vX [] b=b:=by unfold vX;rfl
@[simp] theorem qcz(a:List Nat):vX a []=a:=by cases a<;>(unfold vX;rfl)
theorem vz(x:Nat)(a:List Nat)(y:Nat)(b:List Nat):vX (x::a) (y::b)=if x<y then x::vX a (y::b)else if y<x then y::vX (x::a) b else x::vX a b:=by
 rw[vX]
theorem WE:∀(n:Nat) (a b:List Nat),a.length+b.length<=n->nz (vX a b)=mrg (nz a) (nz b):=by
 intro n
 induction n with
 |zero=>
  intro a b h
  have e1:a=[]:=zm9.mp qe
  subst e1
  rw[xJ]
  exact(Jj _).symm
 |succ n ih=>
  intro a b h
  cases a with
  |nil=>rw[xJ];exact(Jj _).symm
  |cons x a=>
   cases b with
   |nil=>rw[qcz];exact(XX _).symm
   |cons y b=>
    simp only[zmu]at h
    have e1:=ih a (y::b) (by simp only[zmu];omega)
    have e2:=ih (x::a) b (by simp only[zmu];omega)
    have e3:=ih a b qe
    rw[vz]
    show _=mrg ((x:Int)::nz a) ((y:Int)::nz b)
    rw[zV]
    by_cases h1:x<y
    ·rw[if_pos h1,if_pos (show(x:Int)<(y:Int) by omega)]
     show(x:Int)::nz _=_
     rw[e1];rfl
    ·rw[if_neg h1,if_neg (show ¬((x:Int)<(y:Int)) by omega)]
     by_cases h2:y<x
     ·rw[if_pos h2,if_pos (show(y:Int)<(x:Int) by omega)]
      show(y:Int)::nz _=_
      rw[e2];rfl
     ·rw[if_neg h2,if_neg (show ¬((y:Int)<(x:Int)) by omega)]
      show(x:Int)::nz _=_
      rw[e3]
def RCu(hp:Hp)(c br:Nat)(hs r:List Nat):Prop:=
 ∃kk t bl q i,kk<=63/\bl.length<=100000000/\By bl/\c≠br/\(∀g∈qw hs,g/2^kk<=4096)/\hs.drop i=r/\i+r.length=hs.length/\
  hp.rd c 0=some (Cu br kk hs.length i (if i=0 then 0 else hs.getD (i-1) 0))/\hp.rd br 0=some (Rb t bl q false)/\At bl q (jb kk ((qw hs).drop i))
theorem RCu.fr{hp hp':Hp}{c br:Nat}{hs r:List Nat}(h:RCu hp c br hs r)(e1:hp'.get c=hp.get c)(e2:hp'.get br=hp.get br):RCu hp' c br hs r:=by
 obtain⟨kk,t,bl,q,i,h1,h2,h3,h4,h5,h6,h7,h8,h9,h10⟩:=h
 exact⟨kk,t,bl,q,i,h1,h2,h3,h4,h5,h6,h7,by rw[xo e1];exact h8,by rw[xo e2];exact h9,h10⟩
theorem Xo{hp:Hp}{c br:Nat}{hs r:List Nat}(hm:hs.length<=4096)(h64:∀x∈hs,x<18446744073709551616)(hr:qM hs)(h:RCu hp c br hs r):
 ∃hp',run cxX 102 [.ptr c 0 0] hp=some (.tup [.sc (.int .u64 (r.headD 0:Nat)),.sc (.bool (!r.isEmpty))],hp')/\RCu hp' c br hs r.tail/\hp'.next=hp.next/\∀a,a≠c->a≠br->hp'.get a=hp.get a:=by
 obtain⟨kk,t,bl,q,i,hkk,hbl,h8,hne,hq,h,hil,hc,hb,hat⟩:=h
 cases r with
 |nil=>
  have e:i=hs.length:=by simpa using hil
  subst e
  exact⟨hp,qci c br kk hs.length _ qe hp hc,⟨kk,t,bl,q,hs.length,hkk,hbl,h8,hne,hq,h,hil,hc,hb,hat⟩,rfl,fun _ _ _=>rfl⟩
 |cons x r=>
  obtain⟨e1,e2,hi,e3⟩:=qt h
  simp only[zmu]at hil
  have hig:i<(qw hs).length:=qi
  have gg:=Xg hs i hi
  have ex:hs.getD i 0=x:=by rw[zmv,e1];rfl
  have hx:x<18446744073709551616:=h64 x (by rw[<-e3];exact znb _)
  obtain⟨g,hgd⟩:∃g,(qw hs)[i]?=some g:=⟨_,gg⟩
  have hge:(qw hs)[i]=g:=(zm2.mp hgd).2
  have hgm:g∈qw hs:=by rw[<-hge];exact znb _
  have hg64:=xu h64 g hgm
  have hgq:=hq g hgm
  have hdr:(qw hs).drop i=g::(qw hs).drop (i+1):=by rw[znp hig,hge]
  have hxg:x=if i=0 then g else(if i=0 then 0 else hs.getD (i-1) 0)+1+g:=by
   rw[gg]at hgd
   have hgd:=znk hgd
   by_cases h0:i=0
   ·subst h0
    rw[if_pos rfl]at hgd⊢
    rw[<-hgd,ex]
   ·rw[if_neg h0]at hgd⊢
    have hlt:=vp hs hr (i-1) qe
    have e:i-1+1=i:=qe
    rw[e]at hlt
    rw[if_neg h0]
    omega
  rw[hdr]at hat
  have eb:jb kk (g::(qw hs).drop (i+1))=una (g/2^kk)++xW g kk++jb kk ((qw hs).drop (i+1)):=rfl
  rw[eb]at hat
  obtain⟨at1,at2⟩:=hat.app
  have nx:=qcj c br kk hs.length t bl hkk qe hbl h8 hne i _ g x q hi hg64 hgq hx hxg hp hc hb at1
  refine⟨_,nx,⟨kk,t,bl,q+(una (g/2^kk)++xW g kk).length,i+1,hkk,hbl,h8,hne,hq,e2,by simp only[zps];omega,?_,?_,at2⟩,rfl,fun a h1 h2=>by simp[Hp.put,h1,h2]⟩
  ·rw[qp,if_neg qe,Nat.add_sub_cancel,ex]
  ·rw[qB _ _ (fun e=>hne e.symm),qp]
theorem qkh(b k:Nat)(l:List Int)(hl:l.length<=1000000000)(h8:By l)(hs:List Nat)(hn:hs.length<=1024)(h64:∀x∈hs,x<18446744073709551616)(p:Nat)(rest:List Int)(hd:l.drop p=zh hs++rest)(hp:Hp)(hpl:p<=l.length)(hb:b<hp.next)(hr:hp.rd b 0=some (Rc k l p 0)):
 ∃hp',run cxX 101 [.ptr b 0 0] hp=some (.ptr hp.next 0 0,hp')/\RCu hp' hp.next (hp.next+1) hs hs/\hp'.rd b 0=some (Rc k l (p+(zh hs).length) 0)/\hp'.next=hp.next+2/\∀a,a<hp.next->a≠b->hp'.get a=hp.get a:=by
 obtain⟨k63,hq⟩:=QK (gs:=qw hs) (xu h64)
 have rl:=Qc (jd (qw hs)) k63 (qw hs) hq
 rw[ko]at rl
 have eR:je (qw hs)=jb (jd (qw hs)) (qw hs):=rfl
 have b8:By (pk (je (qw hs))):=fun x hx=>Wx hx
 have hbl:(pk (je (qw hs))).length<=1048576:=by rw[zZ,eR];omega
 have ey:zh hs=uv hs.length++((jd (qw hs):Int)::(uv (pk (je (qw hs))).length++(pk (je (qw hs))))):=by unfold zh;simp
 have ed:zh hs++rest=uv hs.length++((jd (qw hs):Int)::(uv (pk (je (qw hs))).length++(pk (je (qw hs))++rest))):=by rw[ey];simp
 have el:(zh hs).length=(uv hs.length).length+1+(uv (pk (je (qw hs))).length).length+(pk (je (qw hs))).length:=by rw[ey];simp only[zmt,zmu];omega
 rw[ed]at hd
 obtain⟨hp1,t,a1,a2,a3,a4,a5,a6⟩:=qic b k l hl h8 hs.length (jd (qw hs)) (pk (je (qw hs))) qe k63 hbl p rest hd hp hpl hb hr
 have e':p+(uv hs.length).length+1+(uv (pk (je (qw hs))).length).length+(pk (je (qw hs))).length=p+(zh hs).length:=qe
 rw[e']at a4
 exact⟨hp1,a1,⟨jd (qw hs),t,pk (je (qw hs)),0,0,k63,qe,b8,qe,hq,rfl,qg,a2,a3,by rw[zou,<-eR];exact At.pk _⟩,a4,a5,a6⟩
section
variable (wb c1 b1 c2 b2 K:Nat)(aa bb:List Nat)(hK:K<=1024)(la:aa.length<=4096)(lb:bb.length<=4096)(ha:qM aa)(hb:qM bb)(a64:∀x∈aa,x<18446744073709551616)(b64:∀x∈bb,x<18446744073709551616)
 (n1:c1≠c2) (n2:c1≠b2) (n3:b1≠c2) (n4:b1≠b2)
noncomputable def Hst(out A B:List Nat)(hp:Hp):Option (AV×Hp):=B50_11 (.ptr wb 0 0) (.int .u64 (K:Int)) (.ptr c1 0 0) (.ptr c2 0 0) (S 2 1 (LI .u64 (nz out))) (.int .u64 (A.headD 0:Nat)) (.bool (!A.isEmpty)) (.int .u64 (B.headD 0:Nat)) (.bool (!B.isEmpty)) hp
include hK la lb ha hb a64 b64 n1 n2 n3 n4
theorem zay(out A B:List Nat)(hout:out.length<K)(v:Nat)(hv:v<18446744073709551616)(hp:Hp)(hA:RCu hp c1 b1 aa A.tail)(hB:RCu hp c2 b2 bb B.tail)(x17:Value)(hx:x17= .int .u64 (v:Int)):
 ∃hp',B50_15 (.ptr wb 0 0) (.int .u64 (K:Int)) (.ptr c1 0 0) (.ptr c2 0 0) (S 2 1 (LI .u64 (nz out))) (.int .u64 (A.headD 0:Nat)) (.bool (!A.isEmpty)) (.int .u64 (B.headD 0:Nat)) (.bool (!B.isEmpty)) x17 hp=Hst wb c1 c2 K (out++[v]) (if !A.isEmpty&&decide (A.headD 0=v)then A.tail else A) (if !B.isEmpty&&decide (B.headD 0=v)then B.tail else B) hp'/\
  RCu hp' c1 b1 aa (if !A.isEmpty&&decide (A.headD 0=v)then A.tail else A).tail/\RCu hp' c2 b2 bb (if !B.isEmpty&&decide (B.headD 0=v)then B.tail else B).tail/\hp'.next=hp.next/\∀a,a≠c1->a≠b1->a≠c2->a≠b2->hp'.get a=hp.get a:=by
 subst hx
 obtain⟨h1,p1,p2,p3,p4⟩:=Xo la a64 ha hA
 have ap:=QZ .u64 (nz out) 2 (.inr rfl) 8 qh (v:Int) qi
 have es:nz out++[(v:Int)]=nz (out++[v]):=by rw[yO]
 rw[es]at ap
 have s2:∀(A':List Nat) (hp:Hp),RCu hp c1 b1 aa A'.tail->RCu hp c2 b2 bb B.tail->∃hp',B50_18 (.ptr wb 0 0) (.int .u64 (K:Int)) (.ptr c1 0 0) (.ptr c2 0 0) (S 2 1 (LI .u64 (nz (out++[v])))) (.int .u64 (A'.headD 0:Nat)) (.bool (!A'.isEmpty)) (.int .u64 (B.headD 0:Nat)) (.bool (!B.isEmpty)) (.int .u64 (v:Int)) hp=Hst wb c1 c2 K (out++[v]) A' (if !B.isEmpty&&decide (B.headD 0=v)then B.tail else B) hp'/\
  RCu hp' c1 b1 aa A'.tail/\RCu hp' c2 b2 bb (if !B.isEmpty&&decide (B.headD 0=v)then B.tail else B).tail/\hp'.next=hp.next/\∀a,a≠c1->a≠b1->a≠c2->a≠b2->hp'.get a=hp.get a:=by
  intro A' hp hA' hB'
  obtain⟨h2,q1,q2,q3,q4⟩:=Xo lb b64 hb hB'
  rw[qvr]
  by_cases hc:(!B.isEmpty&&decide (B.headD 0=v))=true
  ·rw[if_pos hc]
   have hc':=hc
   rw[zok,decide_eq_true_eq]at hc
   refine⟨h2,?_,hA'.fr (q4 _ n1 n2) (q4 _ n3 n4),q2,q3,fun a _ _ e3 e4=>q4 a e3 e4⟩
   rw[hc.1,hc.2]
   unfold Hst
   generalize B.tail=T at*
   simp[qvq,q1]
  ·rw[if_neg hc]
   refine⟨hp,?_,hA',hB',rfl,fun _ _ _ _ _=>rfl⟩
   unfold Hst
   cases B with
   |nil=>simp
   |cons y r=>
    have hy:¬(y=v):=fun e=>hc (by simp[e])
    have hy':¬((y:Int)=(v:Int)):=qe
    simp[hy,hy']
 rw[qvt]
 by_cases hc:(!A.isEmpty&&decide (A.headD 0=v))=true
 ·rw[if_pos hc]
  rw[zok,decide_eq_true_eq]at hc
  obtain⟨h2,q1,q2,q3,q4,q5⟩:=s2 A.tail h1 p2 (hB.fr (p4 _ (fun e=>n1 e.symm) (fun e=>n3 e.symm)) (p4 _ (fun e=>n2 e.symm) (fun e=>n4 e.symm)))
  refine⟨h2,?_,q2,q3,by rw[q4,p3],fun a e1 e2 e3 e4=>by rw[q5 a e1 e2 e3 e4,p4 a e1 e2]⟩
  rw[<-q1,hc.1,hc.2]
  generalize A.tail=T at*
  simp[ap,qvs,p1]
 ·rw[if_neg hc]
  obtain⟨h2,q1,q2,q3,q4,q5⟩:=s2 A hp hA hB
  refine⟨h2,?_,q2,q3,q4,q5⟩
  rw[<-q1]
  cases A with
  |nil=>simp[ap]
  |cons y r=>
   have hy:¬(y=v):=fun e=>hc (by simp[e])
   have hy':¬((y:Int)=(v:Int)):=qe
   simp[ap,hy,hy']
theorem qt4:∀(n:Nat) (A B out:List Nat) (hp:Hp),A.length+B.length<=n->out.length<=K->(∀x∈A,x<18446744073709551616)->(∀x∈B,x<18446744073709551616)->RCu hp c1 b1 aa A.tail->RCu hp c2 b2 bb B.tail->
 ∃hp',Hst wb c1 c2 K out A B hp=B50_20 (.ptr wb 0 0) (.int .u64 (K:Int)) (S 2 1 (LI .u64 (nz ((out++vX A B).take K)))) hp'/\hp'.next=hp.next/\∀a,a≠c1->a≠b1->a≠c2->a≠b2->hp'.get a=hp.get a:=by
 intro n
 induction n with
 |zero=>
  intro A B out hp hn ho hA hB h1 h2
  have e1:A=[]:=zm9.mp qe
  have e2:B=[]:=zm9.mp qe
  subst e1;subst e2
  refine⟨hp,?_,rfl,fun _ _ _ _ _=>rfl⟩
  rw[xJ,znj,znr ho]
  unfold Hst
  rw[xh]
  simp
 |succ n ih=>
  intro A B out hp hn ho hA hB h1 h2
  have w1:IntKind.u64.wrap ((out.length:Nat):Int)=((out.length:Nat):Int):=by rw[qu]<;>omega
  by_cases hfull:out.length=K
  ·refine⟨hp,?_,rfl,fun _ _ _ _ _=>rfl⟩
   have ex:(out++vX A B).take K=out:=by rw[<-hfull,zra]
   rw[ex]
   unfold Hst
   rw[xh]
   have hl:¬(out.length<K):=qe
   have hl':¬((out.length:Int)<(K:Int)):=qe
   cases A with
   |nil=>cases B<;>simp[ym,w1,hl,hl']
   |cons x A=>simp[ym,w1,hl,hl']
  ·have hlt:out.length<K:=qe
   have hlt':(out.length:Int)<(K:Int):=qe
   have go:∀(v:Nat) (A' B':List Nat),v<18446744073709551616->(if !A.isEmpty&&decide (A.headD 0=v)then A.tail else A)=A'->(if !B.isEmpty&&decide (B.headD 0=v)then B.tail else B)=B'->A'.length+B'.length<=n->(∀x∈A',x<18446744073709551616)->(∀x∈B',x<18446744073709551616)->v::vX A' B'=vX A B->
    Hst wb c1 c2 K out A B hp=B50_15 (.ptr wb 0 0) (.int .u64 (K:Int)) (.ptr c1 0 0) (.ptr c2 0 0) (S 2 1 (LI .u64 (nz out))) (.int .u64 (A.headD 0:Nat)) (.bool (!A.isEmpty)) (.int .u64 (B.headD 0:Nat)) (.bool (!B.isEmpty)) (.int .u64 (v:Int)) hp->
    ∃hp',Hst wb c1 c2 K out A B hp=B50_20 (.ptr wb 0 0) (.int .u64 (K:Int)) (S 2 1 (LI .u64 (nz ((out++vX A B).take K)))) hp'/\hp'.next=hp.next/\∀a,a≠c1->a≠b1->a≠c2->a≠b2->hp'.get a=hp.get a:=by
    intro v A' B' hv eA eB hn' hA' hB' em es
    obtain⟨g1,s1,s2,s3,s4,s5⟩:=zay wb c1 b1 c2 b2 K aa bb hK la lb ha hb a64 b64 n1 n2 n3 n4 out A B hlt v hv hp h1 h2 _ rfl
    rw[eA]at s1 s2
    rw[eB]at s1 s3
    obtain⟨g2,t1,t2,t3⟩:=ih A' B' (out++[v]) g1 hn' qi hA' hB' s2 s3
    refine⟨g2,?_,by rw[t2,s4],fun a e1 e2 e3 e4=>by rw[t3 a e1 e2 e3 e4,s5 a e1 e2 e3 e4]⟩
    rw[es,s1,t1,<-em]
    simp
   cases A with
   |nil=>
    cases B with
    |nil=>
     refine⟨hp,?_,rfl,fun _ _ _ _ _=>rfl⟩
     rw[xJ,znj,znr ho]
     unfold Hst
     rw[xh]
     simp
    |cons y B=>
     refine go y [] B (hB y qg) qg qg (by simp at hn⊢;omega) qg (fun x hx=>hB x (by simp[hx])) qg ?_
     unfold Hst
     rw[xh]
     simp[ym,w1,hlt,hlt',Qr,qd0]
   |cons x A=>
    cases B with
    |nil=>
     refine go x A [] (hA x qg) qg qg (by simp at hn⊢;omega) (fun y hy=>hA y (by simp[hy])) qg qg ?_
     unfold Hst
     rw[xh]
     simp[ym,w1,hlt,hlt',Qr]
    |cons y B=>
     simp only[zmu]at hn
     by_cases hxy:x<y
     ·refine go x A (y::B) (hA x qg) qg qi qi (fun z hz=>hA z (by simp[hz])) hB (by rw[vz,if_pos hxy]) ?_
      unfold Hst
      rw[xh]
      have q:¬(y<x):=qe
      have q':¬((y:Int)<(x:Int)):=qe
      simp[ym,w1,hlt,hlt',Qr,q,q']
     ·by_cases hyx:y<x
      ·refine go y (x::A) B (hB y qg) qi qg qi hA (fun z hz=>hB z (by simp[hz])) (by rw[vz,if_neg hxy,if_pos hyx]) ?_
       unfold Hst
       rw[xh]
       have q':(y:Int)<(x:Int):=qe
       simp[ym,w1,hlt,hlt',Qr,qd0,hyx,q']
      ·have exy:x=y:=qe
       refine go x A B (hA x qg) qg (by simp[exy]) qe (fun z hz=>hA z (by simp[hz])) (fun z hz=>hB z (by simp[hz])) (by rw[vz,if_neg hxy,if_neg hyx]) ?_
       unfold Hst
       rw[xh]
       have q':¬((y:Int)<(x:Int)):=qe
       simp[ym,w1,hlt,hlt',Qr,hyx,q']
end
theorem Jk(x:Nat)(a b:List Nat):x∈vX a b↔x∈a\/x∈b:=by
 have h:=xt (x:Int) (nz a) (nz b)
 rw[<-WE _ a b (zmx _)]at h
 have q:∀l:List Nat,(x:Int)∈nz l↔x∈l:=by
  intro l
  unfold nz
  rw[zns]
  exact⟨fun⟨y,h1,h2⟩=>by rw[<-Int.ofNat_inj.mp h2];exact h1,fun h=>⟨x,h,rfl⟩⟩
 rw[q,q,q]at h
 exact h
theorem qgp(l:List Nat):yo (nz l)↔qM l:=by
 rw[xa]
 unfold nz yo
 rw[List.pairwise_map]
 constructor
 ·intro h;exact h.imp (fun h=>qe)
 ·intro h;exact h.imp (fun h=>qe)
theorem QM{a b:List Nat}(ha:qM a)(hb:qM b):qM (vX a b):=by
 rw[<-qgp,WE _ a b (zmx _)]
 exact xn _ _ ((qgp a).mpr ha) ((qgp b).mpr hb)
theorem qhs{a:List Nat}(ha:qM a)(K:Nat):qM (a.take K):=by
 rw[xa]at ha⊢
 exact ha.sublist (zqq _ _)
theorem qp3{l:List Nat}(h64:∀x∈l,x<18446744073709551616):By (zh l):=by
 have p:=(QK (xu h64)).1
 exact By.app (By.app (By.app (By.uv _) (By.cons qe By.nil)) (By.uv _)) (By.pk _)
theorem qil(hp:Hp)(rb sb wb k1 k2 K:Nat)(a b:List Nat)(hK:K<=1024)(ha:qM a)(hb:qM b)(a64:∀x∈a,x<18446744073709551616)(b64:∀x∈b,x<18446744073709551616)(al:a.length<=1024)(bl:b.length<=1024)
 (h:RW3 hp rb sb wb k1 k2 (uv K++zh a) (uv K++zh b) 0 0 []):
 ∃hp',run cxX 50 [.ptr wb 0 0,.ptr rb 0 0,.ptr sb 0 0] hp=some (.sc (.int .i64 0),hp')/\
  RW3 hp' rb sb wb k1 k2 (uv K++zh a) (uv K++zh b) (uv K++zh a).length (uv K++zh b).length (uv K++zh ((vX a b).take K)):=by
 have m64:∀x∈(vX a b).take K,x<18446744073709551616:=fun x hx=>((Jk x a b).mp (zof hx)).elim (a64 x) (b64 x)
 have mr:=qhs (QM ha hb) K
 have ml:((vX a b).take K).length<=1024:=by rw[zny];omega
 have hu:=qE (n:=K) qe
 have la:=kf (l:=a) qe a64
 have lb:=kf (l:=b) qe b64
 have lm:=kf (l:=(vX a b).take K) ml m64
 have L1:(uv K++zh a).length<=1000000000:=by rw[zmt];omega
 have L2:(uv K++zh b).length<=1000000000:=by rw[zmt];omega
 have B1:By (uv K++zh a):=(By.uv K).app (qp3 a64)
 have B2:By (uv K++zh b):=(By.uv K).app (qp3 b64)
 have t1:=zd rb k1 (uv K++zh a) L1 B1 (p:=0) (m:=K) (most:=1024) (r:=zh a) rfl qe qh hp (znl _) h.r
 rw[zm4]at t1
 have h1:=h.setR (uv K).length
 generalize hp.put rb 0 (Rc k1 (uv K++zh a) (uv K).length 0)=H1 at*
 have t2:=zd sb k2 (uv K++zh b) L2 B2 (p:=0) (m:=K) (most:=1024) (r:=zh b) rfl qe qh H1 (znl _) h1.s
 rw[zm4]at t2
 have h2:=h1.setS (uv K).length
 generalize H1.put sb 0 (Rc k2 (uv K++zh b) (uv K).length 0)=H2 at*
 obtain⟨H3,o1,o2,o3,o4,o5⟩:=qkh rb k1 (uv K++zh a) L1 B1 a qe a64 (uv K).length [] qg H2 qg h2.lr h2.r
 have e1:(uv K).length+(zh a).length=(uv K++zh a).length:=by rw[zmt]
 rw[e1]at o3
 have h3:RW3 H3 rb sb wb k1 k2 (uv K++zh a) (uv K++zh b) (uv K++zh a).length (uv K).length []:=
  h2.fr qe o3 (by rw[xo (o5 sb h2.ls (fun e=>h2.rs e.symm))];exact h2.s) (by rw[xo (o5 wb h2.lw (fun e=>h2.rw e.symm))];exact h2.w)
 obtain⟨H4,q1,q2,q3,q4,q5⟩:=qkh sb k2 (uv K++zh b) L2 B2 b qe b64 (uv K).length [] qg H3 qg h3.ls h3.s
 have e2:(uv K).length+(zh b).length=(uv K++zh b).length:=by rw[zmt]
 rw[e2]at q3
 have h4:RW3 H4 rb sb wb k1 k2 (uv K++zh a) (uv K++zh b) (uv K++zh a).length (uv K++zh b).length []:=
  h3.fr qe (by rw[xo (q5 rb h3.lr h3.rs)];exact h3.r) q3 (by rw[xo (q5 wb h3.lw (fun e=>h3.sw e.symm))];exact h3.w)
 have c1:=o2.fr (hp':=H4) (q5 _ qe (by have:=h2.ls;omega)) (q5 _ qe (by have:=h2.ls;omega))
 have er1:=qV rb k1 _ _ _ H4 h4.r
 have er2:=qV sb k2 _ _ _ H4 h4.s
 have f2:=ya
 obtain⟨H5,n1,n2,n3,n4⟩:=Xo qe a64 ha c1
 have c2:=q2.fr (hp':=H5) (n4 _ qe qe) (n4 _ qe qe)
 obtain⟨H6,m1,m2,m3,m4⟩:=Xo qe b64 hb c2
 have c3:=n2.fr (hp':=H6) (m4 _ qe qe) (m4 _ qe qe)
 obtain⟨H7,u1,u2,u3⟩:=qt4 wb H2.next (H2.next+1) H3.next (H3.next+1) K a b hK qe qe ha hb a64 b64 qe qe qe qe _ a b [] H6 (zmx _) (znl _) a64 b64 c3 m2
 have g7:∀x,x<H2.next->H7.get x=H4.get x:=fun x hx=>by
  rw[u3 x qe qe qe qe,m4 x qe qe,n4 x qe qe]
 have h7:RW3 H7 rb sb wb k1 k2 (uv K++zh a) (uv K++zh b) (uv K++zh a).length (uv K++zh b).length []:=
  h4.fr qe (by rw[xo (g7 rb h2.lr)];exact h4.r) (by rw[xo (g7 sb h2.ls)];exact h4.s) (by rw[xo (g7 wb h2.lw)];exact h4.w)
 rw[znn]at u1
 generalize(vX a b).take K=M at*
 have wu:=zY wb K [] qe qi H7 h7.w
 rw[znn]at wu
 have h8:=h7.setW (uv K)
 generalize H7.put wb 0 (Wc (uv K))=H8 at*
 obtain⟨t,hpz,z1,_⟩:=qyc M 3 ml m64 mr hp0
 have wp:=wV wb (uv K) (zh M) (rk t) qe H8 h8.w
 refine⟨H8.put wb 0 (Wc (uv K++zh M)),?_,h8.setW _⟩
 rw[E50]
 unfold Hst at u1
 have e0:S 2 1 []=S 2 1 (LI .u64 (nz [])):=rfl
 have b20:B50_20 (.ptr wb 0 0) (.int .u64 (K:Int)) (S 2 1 (LI .u64 (nz M))) H7=some (.sc (.int .i64 0),H8.put wb 0 (Wc (uv K++zh M))):=by
  rw[qvp]
  generalize uv K++zh M=Q at*
  simp[wu,z1,wp]
 rw[b20,<-e0]at u1
 generalize uv K++zh M=Q at*
 generalize uv K++zh a=Qa at*
 generalize uv K++zh b=Qb at*
 simp at t1 t2 er1 er2 o1 q1 n1 m1 u1
 simp[t1,t2,o1,q1,er1,er2,f2,n1,m1,u1]
def Yv(a b:List Nat):List Nat:=List.zipWith max a b
theorem qz6:∀(a b:List Nat),a.length=b.length->nz (Yv a b)=vD (nz a) (nz b)
 |[],_,_=>rfl
 |x::a,[],h=>by simp at h
 |x::a,y::b,h=>by
  show((max x y:Nat):Int)::nz (Yv a b)=max (x:Int) (y:Int)::vD (nz a) (nz b)
  rw[qz6 a b (by simpa using h)]
  congr 1
  omega
def DSt(hp:Hp)(d m cb b k:Nat)(pre C:List Int)(r:List Nat):Prop:=
 ∃s cs code,okM cs/\Zy s s.width/\16777216<=s.width/\s.width<4294967296/\qO C=eV (enc cs s r)/\C.length=eK (enc cs s r)+4/\qO (C.take (eK s+4))=eV s+code/\
  hp.rd d 0=some (DC m b code s.width)/\hp.rd b 0=some (Rp k pre C (eK s+4))/\MW hp m cb cs
theorem DSt.fr{hp hp':Hp}{d m cb b k:Nat}{pre C:List Int}{r:List Nat}(h:DSt hp d m cb b k pre C r)(hn:hp.next<=hp'.next)(e:∀a,a=d\/a=m\/a=cb\/a=b->hp'.get a=hp.get a):DSt hp' d m cb b k pre C r:=by
 obtain⟨s,cs,code,h1,h2,h3,h4,h5,h6,h7,h8,h9,m1,m2,m3,m4,m5⟩:=h
 exact⟨s,cs,code,h1,h2,h3,h4,h5,h6,h7,by rw[xo (e d (.inl rfl))];exact h8,by rw[xo (e b (.inr (.inr (.inr rfl))))];exact h9,znc m1 hn,znc m2 hn,m3,by rw[xo (e cb (.inr (.inr (.inl rfl))))];exact m4,by rw[xo (e m (.inr (.inl rfl)))];exact m5⟩
theorem qq8{hp:Hp}{d m cb b k x:Nat}{pre C:List Int}{r:List Nat}(hpre:pre.length<=1000)(hC:By C)(hCl:C.length<=1000000)(hx:x<64)(hr:∀y∈r,y<64)(n1:d≠b)(n2:d≠m)(n3:d≠cb)(n4:b≠m)(n5:b≠cb)(h:DSt hp d m cb b k pre C (x::r)):
 ∃hp',run cxX 109 [.ptr d 0 0] hp=some (.sc (.int .i64 (x:Int)),hp')/\DSt hp' d m cb b k pre C r/\hp'.next=hp.next/\∀c,c≠d->c≠b->c≠m->c≠cb->hp'.get c=hp.get c:=by
 obtain⟨s,cs,code,hm,ho,w1,w2,h1,h2,hcode,hd,hb,hM⟩:=h
 obtain⟨hp1,code1,a1,a2,a3,a4,a5,a6,a7⟩:=qch d b m cb k x pre C hpre hC hCl hx cs hm n1 n2 n3 n4 n5 s r code hp hr ho ⟨w1,w2⟩ h1 h2 hcode hd hb hM
 obtain⟨dd,b1,b2,b3,b4,b5,b6,b7⟩:=Za s cs x hm hx ho ⟨w1,zpy w2⟩
 have hlt2:(zE 4 (xC s cs x)).width<4294967296:=by
  apply Vt
  show s.width/cs.sum*cs.getD x 0<_
  have ht:=qP cs x (by have:=hm.1;omega)
  have hta:=qQ cs (x+1)
  have hmul:s.width/cs.sum*cs.sum<=s.width:=zn9 _ _
  have hle:s.width/cs.sum*cs.getD x 0<=s.width/cs.sum*cs.sum:=zn4 _ qe
  omega
 exact⟨hp1,a1,⟨zE 4 (xC s cs x),Yu cs x,code1,Qy hm hx,b4,b5,hlt2,h1,h2,a2,a3,a4,a5⟩,a6,a7⟩
theorem zbn{hp:Hp}{d m cb b k:Nat}{pre C:List Int}(h:DSt hp d m cb b k pre C []):hp.rd b 0=some (Rp k pre C C.length):=by
 obtain⟨s,cs,code,hm,ho,w1,w2,h1,h2,hcode,hd,hb,hM⟩:=h
 rw[h2]
 exact hb
def ESt(hp:Hp)(e m cb n:Nat)(L r:List Nat):Prop:=
 ∃s cs,okM cs/\Zy s s.width/\16777216<=s.width/\s.width<4294967296/\eK s<=4*n/\enc cs s r=enc cs0 en0 L/\EW hp e m cb s cs 2 n
theorem ESt.fr{hp hp':Hp}{e m cb n:Nat}{L r:List Nat}(h:ESt hp e m cb n L r)(hn:hp.next<=hp'.next)(g:∀a,a=e\/a=m\/a=cb->hp'.get a=hp.get a):ESt hp' e m cb n L r:=by
 obtain⟨s,cs,h1,h2,h3,h4,h5,h6,w1,w2,⟨m1,m2,m3,m4,m5⟩,w4,w5⟩:=h
 exact⟨s,cs,h1,h2,h3,h4,h5,h6,znc w1 hn,by rw[xo (g e (.inl rfl))];exact w2,⟨znc m1 hn,znc m2 hn,m3,by rw[xo (g cb (.inr (.inr rfl)))];exact m4,by rw[xo (g m (.inr (.inl rfl)))];exact m5⟩,w4,w5⟩
theorem zjk{hp:Hp}{e m cb n x:Nat}{L r:List Nat}(hx:x<64)(hn:n<=1000)(h:ESt hp e m cb n L (x::r)):
 ∃hp',run cxX 108 [.ptr e 0 0,.sc (.int .i64 (x:Int))] hp=some (.sc (.bool true),hp')/\ESt hp' e m cb (n+1) L r/\F3 e m cb hp hp':=by
 obtain⟨s,cs,hm,ho,w1,w2,hK,he,hE⟩:=h
 obtain⟨d,b1,b2,b3,b4,b5,b6,b7⟩:=Za s cs x hm hx ho ⟨w1,zpy w2⟩
 have hd:d<=4:=qy8 b7 (by rw[<-b2];exact b6)
 have hlt2:(zE 4 (xC s cs x)).width<4294967296:=by
  apply Vt
  show s.width/cs.sum*cs.getD x 0<_
  have ht:=qP cs x (by have:=hm.1;omega)
  have hta:=qQ cs (x+1)
  have hmul:s.width/cs.sum*cs.sum<=s.width:=zn9 _ _
  have hle:s.width/cs.sum*cs.getD x 0<=s.width/cs.sum*cs.sum:=zn4 _ qe
  omega
 obtain⟨hp1,c1,c2,c3⟩:=qio e m cb 2 (.inr rfl) x hx cs hm n qe s hp hE ho ⟨w1,w2⟩ qe
 exact⟨hp1,c1,⟨zE 4 (xC s cs x),Yu cs x,Qy hm hx,b4,b5,hlt2,qe,he,c2⟩,c3⟩
theorem zbk{hp:Hp}{e m cb n:Nat}{L:List Nat}(hn:n<=1000)(h:ESt hp e m cb n L []):
 ∃hp',run cxX 111 [.ptr e 0 0] hp=some (S 1 1 (LI .u8 (jh L)),hp')/\Fm [] hp hp':=by
 obtain⟨s,cs,hm,ho,w1,w2,hK,he,hE⟩:=h
 have he':s=enc cs0 en0 L:=he
 subst he'
 exact Wf e m n 2 (enc cs0 en0 L) hp hE.1 (JZ ho qe qe) qe hE.2.1
structure RegG (n0 n1 n2 rb sb d1 m1 q1 d2 m2 q2 e m3 q3 : Nat) : Prop where
 a:rb<n0/\sb<n0/\rb≠sb
 b:n0<=d1/\n0<=m1/\n0<=q1/\d1<n1/\m1<n1/\q1<n1/\d1≠m1/\d1≠q1
 c:n1<=d2/\n1<=m2/\n1<=q2/\d2<n2/\m2<n2/\q2<n2/\d2≠m2/\d2≠q2
 d:n2<=e/\n2<=m3/\n2<=q3
 m:n0<=n1/\n1<=n2
section
variable {n0 n1 n2 rb sb d1 m1 q1 d2 m2 q2 e m3 q3:Nat}(g:RegG n0 n1 n2 rb sb d1 m1 q1 d2 m2 q2 e m3 q3)(X0:AV)(v7:Value)(k1 k2 N:Nat)(pre Ca Cb:List Int)(hpre:pre.length<=1000)(hCa:By Ca)(hla:Ca.length<=1000000)(hCb:By Cb)(hlb:Cb.length<=1000000)(L:List Nat)(hN:N<=1000)
include g hpre hCa hla hCb hlb hN
theorem qy3:∀(ra sa:List Nat) (i:Nat) (hp:Hp),ra.length=sa.length->i+ra.length=N->(∀y∈ra,y<64)->(∀y∈sa,y<64)->DSt hp d1 m1 q1 rb k1 pre Ca ra->DSt hp d2 m2 q2 sb k2 pre Cb sa->ESt hp e m3 q3 i L (Yv ra sa)->
 ∃hp',B51_10 X0 (.ptr rb 0 0) (.ptr sb 0 0) v7 (.ptr d1 0 0) (.ptr d2 0 0) (.ptr e 0 0) (.int .i64 (N:Int)) (.int .i64 (i:Int)) hp=B51_10 X0 (.ptr rb 0 0) (.ptr sb 0 0) v7 (.ptr d1 0 0) (.ptr d2 0 0) (.ptr e 0 0) (.int .i64 (N:Int)) (.int .i64 (N:Int)) hp'/\
  hp'.rd rb 0=some (Rp k1 pre Ca Ca.length)/\hp'.rd sb 0=some (Rp k2 pre Cb Cb.length)/\ESt hp' e m3 q3 N L []/\hp'.next=hp.next/\∀a,a<n0->a≠rb->a≠sb->hp'.get a=hp.get a:=by
 obtain⟨ga,gb,gc,gd,gm⟩:=g
 intro ra
 induction ra with
 |nil=>
  intro sa i hp hl hi h64 h64' hA hB hE
  have e1:sa=[]:=zm9.mp (by simpa using hl.symm)
  subst e1
  have e2:i=N:=by simpa using hi
  subst e2
  exact⟨hp,rfl,zbn hA,zbn hB,hE,rfl,fun _ _ _ _=>rfl⟩
 |cons x ra ih=>
  intro sa i hp hl hi h64 h64' hA hB hE
  cases sa with
  |nil=>simp at hl
  |cons y sa=>
   simp only[zmu]at hl hi
   have hx:=h64 x qg
   have hy:=h64' y qg
   obtain⟨H1,a1,a2,a3,a4⟩:=qq8 hpre hCa hla hx (fun z hz=>h64 z (by simp[hz])) qe qe qe qe qe hA
   have hB1:=hB.fr (hp':=H1) qe (fun a h=>a4 a qe qe qe qe)
   have hE1:=hE.fr (hp':=H1) qe (fun a h=>a4 a qe qe qe qe)
   obtain⟨H2,b1,b2,b3,b4⟩:=qq8 hpre hCb hlb hy (fun z hz=>h64' z (by simp[hz])) qe qe qe qe qe hB1
   have hA2:=a2.fr (hp':=H2) qe (fun a h=>b4 a qe qe qe qe)
   have hE2:=hE1.fr (hp':=H2) qe (fun a h=>b4 a qe qe qe qe)
   have em:Yv (x::ra) (y::sa)=max x y::Yv ra sa:=rfl
   rw[em]at hE2
   obtain⟨H3,c1,c2,c3,c4⟩:=zjk qe qe hE2
   have hA3:=hA2.fr (hp':=H3) qe (fun a h=>c4 a qe qe qe)
   have hB3:=b2.fr (hp':=H3) qe (fun a h=>c4 a qe qe qe)
   obtain⟨H4,s1,s2,s3,s4,s5,s6⟩:=ih sa (i+1) H3 qe qe (fun z hz=>h64 z (by simp[hz])) (fun z hz=>h64' z (by simp[hz])) hA3 hB3 c2
   refine⟨H4,?_,s2,s3,s4,qe,fun a h1 h2 h3=>by rw[s6 a h1 h2 h3,c4 a qe qe qe,b4 a qe qe qe qe,a4 a qe qe qe qe]⟩
   have hlt:(i:Int)<(N:Int):=qe
   have hlt':i<N:=qe
   have ex:max (x:Int) (y:Int)=((max x y:Nat):Int):=qe
   have w2:IntKind.i64.wrap ((i:Int)+1)=((i+1:Nat):Int):=qj
   rw[<-s1,qdz]
   generalize((i+1:Nat):Int)=I at*
   generalize((max x y:Nat):Int)=M at*
   simp[hlt,hlt',a1,b1,ex,c1,w2]
end
theorem qsi(hp:Hp)(rb sb wb k1 k2 P:Nat)(a b:List Nat)(hP:4<=P/\P<=8)(a64:∀x∈a,x<64)(b64:∀x∈b,x<64)(al:a.length=2^P)(bl:b.length=2^P)
 (h:RW3 hp rb sb wb k1 k2 ((P:Int)::jh a) ((P:Int)::jh b) 0 0 []):
 ∃hp',run cxX 51 [.ptr wb 0 0,.ptr rb 0 0,.ptr sb 0 0] hp=some (.sc (.int .i64 0),hp')/\
  RW3 hp' rb sb wb k1 k2 ((P:Int)::jh a) ((P:Int)::jh b) ((P:Int)::jh a).length ((P:Int)::jh b).length ((P:Int)::jh (Yv a b)):=by
 have hN:2^P<=256:=znv qh hP.2
 have m64:∀x∈Yv a b,x<64:=by
  intro x hx
  unfold Yv at hx
  obtain⟨i,hi,e⟩:=zpf hx
  rw[List.getElem_zipWith]at e
  have h1:=a64 _ (znb (by simp at hi;omega:i<a.length))
  have h2:=b64 _ (znb (by simp at hi;omega:i<b.length))
  omega
 have ml:(Yv a b).length=2^P:=by unfold Yv;rw[List.length_zipWith,al,bl,Nat.min_self]
 obtain⟨a4,la⟩:=qac (l:=a) qe a64
 obtain⟨b4,lb⟩:=qac (l:=b) qe b64
 have lm:=QU (l:=Yv a b) qe m64
 obtain⟨va1,va2⟩:=Jv a a64
 obtain⟨vb1,vb2⟩:=Jv b b64
 have Ba:=qha a
 have Bb:=qha b
 have t1:=zn rb k1 ((P:Int)::jh a) (by rw[zmu];omega) (p:=0) (c:=(P:Int)) (r:=jh a) rfl hp (znl _) h.r
 have h1:=h.setR 1
 rw[zm4]at t1
 generalize hp.put rb 0 (Rc k1 ((P:Int)::jh a) 1 0)=H1 at*
 have t2:=zn sb k2 ((P:Int)::jh b) (by rw[zmu];omega) (p:=0) (c:=(P:Int)) (r:=jh b) rfl H1 (znl _) h1.s
 have h2:=h1.setS 1
 rw[zm4]at t2
 generalize H1.put sb 0 (Rc k2 ((P:Int)::jh b) 1 0)=H2 at*
 have er1:=qV rb k1 _ _ _ H2 h2.r
 have er2:=qV sb k2 _ _ _ H2 h2.s
 have f2:=ya
 obtain⟨H3,d1,m1,q1,x1,x2,x3,x4,x5,x6,x7,x8,x9,x10,x11,x12,x13,x14,x15⟩:=JV rb k1 [(P:Int)] (jh a) qg Ba la a4 H2 h2.lr h2.r
 have s3:H3.rd sb 0=some (Rp k2 [(P:Int)] (jh b) 0):=by rw[xo (x15 sb h2.ls (fun e=>h2.rs e.symm))];exact h2.s
 obtain⟨H4,d2,m2,q2,y1,y2,y3,y4,y5,y6,y7,y8,y9,y10,y11,y12,y13,y14,y15⟩:=JV sb k2 [(P:Int)] (jh b) qg Bb lb b4 H3 (by have:=h2.ls;omega) s3
 obtain⟨H5,e,m3,q3,z1,z2,z3,z4,z5,z6,z7⟩:=Wa H4
 have l3:=x4.1
 have l3':=x4.2.1
 have l4:=y4.1
 have l4':=y4.2.1
 have hlr:=h2.lr
 have hls:=h2.ls
 have hlw:=h2.lw
 have hrs:=h2.rs
 have hrw:=h2.rw
 have hsw:=h2.sw
 have G:RegG H2.next H3.next H4.next rb sb d1 m1 q1 d2 m2 q2 e m3 q3:=⟨⟨hlr,hls,hrs⟩,⟨x11,x12,x13,x10,l3,l3',x6,x7⟩,⟨y11,y12,y13,y10,l4,l4',y6,y7⟩,⟨z3,z4,z5⟩,⟨x14,y14⟩⟩
 have D1:DSt H3 d1 m1 q1 rb k1 [(P:Int)] (jh a) a:=⟨en0,cs0,qO ((jh a).take 4),qji,qjj,qh,qh,va1,va2,by
  show qO ((jh a).take (0+4))=0+_
  rw[zm4,zm4],x2,x3,x4⟩
 have D2:DSt H4 d2 m2 q2 sb k2 [(P:Int)] (jh b) b:=⟨en0,cs0,qO ((jh b).take 4),qji,qjj,qh,qh,vb1,vb2,by
  show qO ((jh b).take (0+4))=0+_
  rw[zm4,zm4],y2,y3,y4⟩
 have D1':=(D1.fr (hp':=H4) qe (fun c hc=>y15 c qe qe)).fr (hp':=H5) qe (fun c hc=>z7 c qe)
 have D2':=D2.fr (hp':=H5) qe (fun c hc=>z7 c qe)
 have E0:ESt H5 e m3 q3 0 (Yv a b) (Yv a b):=⟨en0,cs0,qji,qjj,qh,qh,qh,rfl,z2⟩
 obtain⟨H6,s1,s2,s3',s4,s5,s6⟩:=qy3 G (.ptr wb 0 0) (.int .u8 (P:Int)) k1 k2 (2^P) [(P:Int)] (jh a) (jh b) qg Ba la Bb lb (Yv a b) qe a b 0 H5 qe qe a64 b64 D1' D2' E0
 have w6:H6.rd wb 0=some (Wc []):=by rw[xo (s6 wb hlw hrw.symm hsw.symm),xo (z7 wb qe),xo (y15 wb qe hsw.symm),xo (x15 wb qe hrw.symm)];exact h2.w
 have eq1:1+(jh a).length=((P:Int)::jh a).length:=by rw[zmu];omega
 have eq2:1+(jh b).length=((P:Int)::jh b).length:=by rw[zmu];omega
 have s2':H6.rd rb 0=some (Rc k1 ((P:Int)::jh a) ((P:Int)::jh a).length 0):=by rw[<-eq1];exact s2
 have s3'':H6.rd sb 0=some (Rc k2 ((P:Int)::jh b) ((P:Int)::jh b).length 0):=by rw[<-eq2];exact s3'
 have h6:RW3 H6 rb sb wb k1 k2 ((P:Int)::jh a) ((P:Int)::jh b) ((P:Int)::jh a).length ((P:Int)::jh b).length []:=
  h2.fr qe s2' s3'' w6
 have wy:run cxX 110 [.ptr wb 0 0,.sc (.int .u8 (P:Int))] H6=some (.tup [],H6.put wb 0 (Wc [(P:Int)])):=jr wb [] P qg H6 h6.w
 have h7:=h6.setW [(P:Int)]
 have E7:=s4.fr (hp':=H6.put wb 0 (Wc [(P:Int)])) (zmx _) (fun c hc=>by
  have:c≠wb:=qe
  simp[Hp.put,this])
 have n7:(H6.put wb 0 (Wc [(P:Int)])).next=H6.next:=rfl
 generalize H6.put wb 0 (Wc [(P:Int)])=H7 at*
 obtain⟨H8,u1,u2⟩:=zbk qe E7
 have g8:∀c,c<H2.next->H8.get c=H7.get c:=fun c hc=>u2.2 c qe qg
 have h8:RW3 H8 rb sb wb k1 k2 ((P:Int)::jh a) ((P:Int)::jh b) ((P:Int)::jh a).length ((P:Int)::jh b).length [(P:Int)]:=
  h7.fr u2.1 (by rw[xo (g8 rb hlr)];exact h7.r) (by rw[xo (g8 sb hls)];exact h7.s) (by rw[xo (g8 wb hlw)];exact h7.w)
 have wp:=wV wb [(P:Int)] (jh (Yv a b)) 0 qi H8 h8.w
 refine⟨H8.put wb 0 (Wc ((P:Int)::jh (Yv a b))),?_,h8.setW _⟩
 have wp:run cxX 105 [.ptr wb 0 0,S 0 1 (LI .u8 (jh (Yv a b)))] H8=some (.tup [],H8.put wb 0 (Wc ((P:Int)::jh (Yv a b)))):=wp
 have b10:B51_10 (.ptr wb 0 0) (.ptr rb 0 0) (.ptr sb 0 0) (.int .u8 (P:Int)) (.ptr d1 0 0) (.ptr d2 0 0) (.ptr e 0 0) (.int .i64 ((2^P:Nat):Int)) (.int .i64 ((2^P:Nat):Int)) H6=some (.sc (.int .i64 0),H8.put wb 0 (Wc ((P:Int)::jh (Yv a b)))):=by
  rw[qdz]
  generalize(((2:Nat)^P:Nat):Int)=Q at*
  generalize jh (Yv a b)=M at*
  simp[wy,u1,wp]
 rw[b10]at s1
 have s1:B51_10 (.ptr wb 0 0) (.ptr rb 0 0) (.ptr sb 0 0) (.int .u8 (P:Int)) (.ptr d1 0 0) (.ptr d2 0 0) (.ptr e 0 0) (.int .i64 ((2^P:Nat):Int)) (.int .i64 0) H5=some (.sc (.int .i64 0),H8.put wb 0 (Wc ((P:Int)::jh (Yv a b)))):=s1
 have sh:∀t o o',qx Tryz.prog .shl t o o' (.int .i64 1) (.int .u8 (P:Int))=some (.int .i64 ((2^P:Nat):Int)):=by
  intro t o o'
  have:P=4\/P=5\/P=6\/P=7\/P=8:=qe
  rcases this with e|e|e|e|e<;>subst e<;>rfl
 have p1:¬((P:Int)<4):=qe
 have p1':¬(P<4):=qe
 have p2:¬((8:Int)<(P:Int)):=qe
 have p2':¬(8<P):=qe
 rw[E51]
 generalize(P:Int)::jh (Yv a b)=M at*
 generalize(P:Int)::jh a=Ca at*
 generalize(P:Int)::jh b=Cb at*
 generalize(((2:Nat)^P:Nat):Int)=Q at*
 simp[t1,t2,er1,er2,f2,p1,p1',p2,p2',zcy,x1,y1,z1,sh,s1]
def FCu(hp:Hp)(c b1 b2:Nat)(r:List Nat):Prop:=
 ∃n last kk t1 t2 T1 T2 A B p q1 q2 i,kk<=32/\n<=4096/\last<4294967296/\last/2^kk<=8192/\A.length<=100000000/\B.length<=100000000/\By A/\By B/\c≠b1/\c≠b2/\b1≠b2/\
  i+r.length=n/\zO (p::r)/\(∀x∈r,x<=last)/\hp.rd c 0=some (Fu n last kk T1 T2 b1 b2 i (p/2^kk))/\hp.rd b1 0=some (Rb t1 A q1 false)/\hp.rd b2 0=some (Rb t2 B q2 false)/\At A q1 (qN kk r)/\At B q2 (qG kk (p/2^kk) r)
theorem FCu.fr{hp hp':Hp}{c b1 b2:Nat}{r:List Nat}(h:FCu hp c b1 b2 r)(g:∀a,a=c\/a=b1\/a=b2->hp'.get a=hp.get a):FCu hp' c b1 b2 r:=by
 obtain⟨n,last,kk,t1,t2,T1,T2,A,B,p,q1,q2,i,h1,h2,h3,h4,h5,h6,h7,h8,h9,h10,h11,h12,h13,h14,h15,h16,h17,h18,h19⟩:=h
 exact⟨n,last,kk,t1,t2,T1,T2,A,B,p,q1,q2,i,h1,h2,h3,h4,h5,h6,h7,h8,h9,h10,h11,h12,h13,h14,by rw[xo (g c (.inl rfl))];exact h15,by rw[xo (g b1 (.inr (.inl rfl)))];exact h16,by rw[xo (g b2 (.inr (.inr rfl)))];exact h17,h18,h19⟩
theorem Xk{hp:Hp}{c b1 b2:Nat}{r:List Nat}(h:FCu hp c b1 b2 r):
 ∃hp',run cxX 113 [.ptr c 0 0] hp=some (.tup [.sc (.int .u32 (r.headD 0:Nat)),.sc (.bool (!r.isEmpty))],hp')/\FCu hp' c b1 b2 r.tail/\hp'.next=hp.next/\∀a,a≠c->a≠b1->a≠b2->hp'.get a=hp.get a:=by
 have h0:=h
 obtain⟨n,last,kk,t1,t2,T1,T2,A,B,p,q1,q2,i,hkk,hn,hlast,hq,hA,hB,A8,B8,n1,n2,n12,hi,hf,hx,hc,r1,r2,a1,a2⟩:=h
 cases r with
 |nil=>
  have e:i=n:=hi
  subst e
  exact⟨hp,qce i last kk T1 T2 c b1 b2 _ hp hc,h0,rfl,fun _ _ _ _=>rfl⟩
 |cons x r=>
  simp only[zmu]at hi
  have el:qN kk (x::r)=xW x kk++qN kk r:=rfl
  have eh:qG kk (p/2^kk) (x::r)=una (x/2^kk-p/2^kk)++qG kk (x/2^kk) r:=rfl
  rw[el]at a1
  rw[eh]at a2
  obtain⟨a1a,a1b⟩:=a1.app
  obtain⟨a2a,a2b⟩:=a2.app
  obtain⟨hp1,f1,f2,f3,f4,f5,f6⟩:=qcf n last kk t1 t2 T1 T2 A B c b1 b2 hkk hn hlast hq hA hB A8 B8 n1 n2 n12 i (p/2^kk) x q1 q2 qe (hx x qg) (zo9 hf.1) hp hc r1 r2 a1a a2a
  exact⟨hp1,f1,⟨n,last,kk,t1,t2,T1,T2,A,B,x,_,_,i+1,hkk,hn,hlast,hq,hA,hB,A8,B8,n1,n2,n12,by rw[zps];omega,hf.2,fun y hy=>hx y (by rw[zps]at hy;simp[hy]),f2,f3,f4,a1b,a2b⟩,f5,f6⟩
theorem qq5(l:List Nat)(hl:l.length<=4096)(h32:∀x∈l,x<4294967296)(hr:zO l)(t1 t2:Nat)(hp:Hp):∃hp',run cxX 112 [vT l t1 t2] hp=some (.ptr (hp.next+2) 0 0,hp')/\FCu hp' (hp.next+2) hp.next (hp.next+1) l/\hp'.next=hp.next+3/\∀c,c<hp.next->hp'.get c=hp.get c:=by
 have hb:qA l<=32/\qI l<4294967296/\qI l/2^qA l<=8192/\(qG (qA l) 0 l).length<=3*4096:=by
  by_cases hne:l=[]
  ·subst hne;exact⟨qh,qh,qh,qh⟩
  ·obtain⟨k1,k2,k3⟩:=xL l hl h32 hr hne
   have h2:qI l/2^qA l<2*l.length:=ZG (zoe.mpr hne) k2
   exact⟨k1,k2,qe,k3⟩
 obtain⟨k1,k2,k3,k4⟩:=hb
 have cu:=qim l.length (qI l) (qA l) t1 t2 (pk (qN (qA l) l)) (pk (qG (qA l) 0 l)) hp
 have lA:(pk (qN (qA l) l)).length<=100000000:=by
  rw[zZ,Qe]
  have:l.length*qA l<=4096*32:=zno hl k1
  omega
 have lB:(pk (qG (qA l) 0 l)).length<=100000000:=by rw[zZ];omega
 have z0:(0:Nat)/2^qA l=0:=zqn _
 have rc:=qR ((hp.new (Rb (rk t1) (pk (qN (qA l) l)) 0 false)).new (Rb (rk t2) (pk (qG (qA l) 0 l)) 0 false)) (Fu l.length (qI l) (qA l) (S (rk t1) 1 (LI .u8 (pk (qN (qA l) l)))) (S (rk t2) 1 (LI .u8 (pk (qG (qA l) 0 l)))) hp.next (hp.next+1) 0 0)
 have r1:(((hp.new (Rb (rk t1) (pk (qN (qA l) l)) 0 false)).new (Rb (rk t2) (pk (qG (qA l) 0 l)) 0 false)).new (Fu l.length (qI l) (qA l) (S (rk t1) 1 (LI .u8 (pk (qN (qA l) l)))) (S (rk t2) 1 (LI .u8 (pk (qG (qA l) 0 l)))) hp.next (hp.next+1) 0 0)).rd hp.next 0=some (Rb (rk t1) (pk (qN (qA l) l)) 0 false):=by
  rw[zF _ _ (show hp.next≠hp.next+1+1 by omega),zF _ _ (show hp.next≠hp.next+1 by omega)]
  exact qR hp _
 have r2:(((hp.new (Rb (rk t1) (pk (qN (qA l) l)) 0 false)).new (Rb (rk t2) (pk (qG (qA l) 0 l)) 0 false)).new (Fu l.length (qI l) (qA l) (S (rk t1) 1 (LI .u8 (pk (qN (qA l) l)))) (S (rk t2) 1 (LI .u8 (pk (qG (qA l) 0 l)))) hp.next (hp.next+1) 0 0)).rd (hp.next+1) 0=some (Rb (rk t2) (pk (qG (qA l) 0 l)) 0 false):=by
  rw[zF _ _ (show hp.next+1≠hp.next+1+1 by omega)]
  exact qR (hp.new _) _
 have q1:=At.pk (qN (qA l) l)
 have q2:=At.pk (qG (qA l) 0 l)
 have e3:∀c,c<hp.next->(((hp.new (Rb (rk t1) (pk (qN (qA l) l)) 0 false)).new (Rb (rk t2) (pk (qG (qA l) 0 l)) 0 false)).new (Fu l.length (qI l) (qA l) (S (rk t1) 1 (LI .u8 (pk (qN (qA l) l)))) (S (rk t2) 1 (LI .u8 (pk (qG (qA l) 0 l)))) hp.next (hp.next+1) 0 0)).get c=hp.get c:=by
  intro c hc
  have e1:c≠hp.next:=qe
  have e2:c≠hp.next+1:=qe
  have e3:c≠hp.next+1+1:=qe
  simp[Hp.new,e1,e2,e3]
 have e4:(((hp.new (Rb (rk t1) (pk (qN (qA l) l)) 0 false)).new (Rb (rk t2) (pk (qG (qA l) 0 l)) 0 false)).new (Fu l.length (qI l) (qA l) (S (rk t1) 1 (LI .u8 (pk (qN (qA l) l)))) (S (rk t2) 1 (LI .u8 (pk (qG (qA l) 0 l)))) hp.next (hp.next+1) 0 0)).next=hp.next+3:=rfl
 have rc':=rc
 have nn:((hp.new (Rb (rk t1) (pk (qN (qA l) l)) 0 false)).new (Rb (rk t2) (pk (qG (qA l) 0 l)) 0 false)).next=hp.next+2:=rfl
 rw[nn]at rc'
 generalize((hp.new (Rb (rk t1) (pk (qN (qA l) l)) 0 false)).new (Rb (rk t2) (pk (qG (qA l) 0 l)) 0 false)).new (Fu l.length (qI l) (qA l) (S (rk t1) 1 (LI .u8 (pk (qN (qA l) l)))) (S (rk t2) 1 (LI .u8 (pk (qG (qA l) 0 l)))) hp.next (hp.next+1) 0 0)=H at*
 refine⟨H,cu,⟨l.length,qI l,qA l,rk t1,rk t2,S (rk t1) 1 (LI .u8 (pk (qN (qA l) l))),S (rk t2) 1 (LI .u8 (pk (qG (qA l) 0 l))),pk (qN (qA l) l),pk (qG (qA l) 0 l),0,0,0,0,k1,hl,k2,k3,lA,lB,By.pk _,By.pk _,qe,qe,qe,qe,jE hr,XW l hr,?_,r1,r2,q1,?_⟩,e4,e3⟩
 ·rw[z0];exact rc'
 ·rw[z0];exact q2
section
variable (X0:AV)(v7 v9:Value)(c1 p1 q1 c2 p2 q2:Nat)(n1:c1≠c2/\c1≠p2/\c1≠q2)(n2:p1≠c2/\p1≠p2/\p1≠q2)(n3:q1≠c2/\q1≠p2/\q1≠q2)
noncomputable def Fst(out A B:List Nat)(hp:Hp):Option (AV×Hp):=B52_12 X0 v7 v9 (.ptr c1 0 0) (.ptr c2 0 0) (S 2 1 (LI .u32 (nz out))) (.int .u32 (A.headD 0:Nat)) (.bool (!A.isEmpty)) (.int .u32 (B.headD 0:Nat)) (.bool (!B.isEmpty)) hp
include n1 n2 n3
theorem zbe:∀(n:Nat) (A B out:List Nat) (hp:Hp),A.length+B.length<=n->out.length+n<=100000->FCu hp c1 p1 q1 A.tail->FCu hp c2 p2 q2 B.tail->
 ∃hp',Fst X0 v7 v9 c1 c2 out A B hp=B52_22 X0 v7 v9 (S 2 1 (LI .u32 (nz (out++vX A B)))) hp'/\hp'.next=hp.next/\∀a,a≠c1->a≠p1->a≠q1->a≠c2->a≠p2->a≠q2->hp'.get a=hp.get a:=by
 intro n
 induction n with
 |zero=>
  intro A B out hp hn ho h1 h2
  have e1:A=[]:=zm9.mp qe
  have e2:B=[]:=zm9.mp qe
  subst e1;subst e2
  refine⟨hp,?_,rfl,fun _ _ _ _ _ _ _=>rfl⟩
  rw[xJ,znj]
  unfold Fst
  rw[xU]
  simp
 |succ n ih=>
  intro A B out hp hn ho h1 h2
  obtain⟨H1,s1,s2,s3,s4⟩:=Xk h1
  have h2':=h2.fr (hp':=H1) (fun a h=>s4 a qe qe qe)
  obtain⟨H2,t1,t2,t3,t4⟩:=Xk h2'
  have s2':=s2.fr (hp':=H2) (fun a h=>t4 a qe qe qe)
  obtain⟨H3,u1,u2,u3,u4⟩:=Xk h2
  have h1':=h1.fr (hp':=H3) (fun a h=>u4 a qe qe qe)
  have ap:=fun(v:Nat)=>QZ .u32 (nz out) 2 (.inr rfl) 4 qh (v:Int) qi
  have es:∀v:Nat,nz out++[(v:Int)]=nz (out++[v]):=fun v=>by rw[yO]
  simp only[es]at ap
  --the three ways on
  have w14:∀(x:Nat) (v17 v18:Value),B52_14 X0 v7 v9 (.ptr c1 0 0) (.ptr c2 0 0) (S 2 1 (LI .u32 (nz out))) (.int .u32 (x:Int)) v17 v18 hp=B52_12 X0 v7 v9 (.ptr c1 0 0) (.ptr c2 0 0) (S 2 1 (LI .u32 (nz (out++[x])))) (.int .u32 (A.tail.headD 0:Nat)) (.bool (!A.tail.isEmpty)) v17 v18 H1:=by
   intro x v17 v18
   rw[qvo]
   generalize A.tail=T at*
   simp[yF,ap,s1]
  have w17:∀(y:Nat) (v15 v16:Value),B52_17 X0 v7 v9 (.ptr c1 0 0) (.ptr c2 0 0) (S 2 1 (LI .u32 (nz out))) v15 v16 (.int .u32 (y:Int)) hp=B52_12 X0 v7 v9 (.ptr c1 0 0) (.ptr c2 0 0) (S 2 1 (LI .u32 (nz (out++[y])))) v15 v16 (.int .u32 (B.tail.headD 0:Nat)) (.bool (!B.tail.isEmpty)) H3:=by
   intro y v15 v16
   rw[qvn]
   generalize B.tail=T at*
   simp[yF,ap,u1]
  have w19:∀(x:Nat),B52_19 X0 v7 v9 (.ptr c1 0 0) (.ptr c2 0 0) (S 2 1 (LI .u32 (nz out))) (.int .u32 (x:Int)) hp=B52_12 X0 v7 v9 (.ptr c1 0 0) (.ptr c2 0 0) (S 2 1 (LI .u32 (nz (out++[x])))) (.int .u32 (A.tail.headD 0:Nat)) (.bool (!A.tail.isEmpty)) (.int .u32 (B.tail.headD 0:Nat)) (.bool (!B.tail.isEmpty)) H2:=by
   intro x
   rw[qvm]
   generalize A.tail=T at*
   generalize B.tail=T' at*
   simp[yF,ap,s1,t1]
  cases A with
  |nil=>
   cases B with
   |nil=>
    refine⟨hp,?_,rfl,fun _ _ _ _ _ _ _=>rfl⟩
    rw[xJ,znj]
    unfold Fst
    rw[xU]
    simp
   |cons y B=>
    simp only[zmu,znd]at hn
    obtain⟨H4,r1,r2,r3⟩:=ih [] B (out++[y]) H3 (by simp only[znd];omega) qi h1' u2
    refine⟨H4,?_,qe,fun a e1 e2 e3 e4 e5 e6=>by rw[r3 a e1 e2 e3 e4 e5 e6,u4 a e4 e5 e6]⟩
    rw[xJ]at r1⊢
    rw[<-List.append_cons]at r1
    rw[<-r1]
    unfold Fst
    rw[xU]
    simp only[zps]at w17
    simp[Qq,Kw,w17]
  |cons x A=>
   cases B with
   |nil=>
    simp only[zmu,znd]at hn
    obtain⟨H4,r1,r2,r3⟩:=ih A [] (out++[x]) H1 (by simp only[znd];omega) qi s2 h2'
    refine⟨H4,?_,qe,fun a e1 e2 e3 e4 e5 e6=>by rw[r3 a e1 e2 e3 e4 e5 e6,s4 a e1 e2 e3]⟩
    rw[qcz]at r1⊢
    rw[<-List.append_cons]at r1
    rw[<-r1]
    unfold Fst
    rw[xU]
    simp only[zps]at w14
    simp[Qq,w14]
   |cons y B=>
    simp only[zmu]at hn
    by_cases hxy:x<y
    ·obtain⟨H4,r1,r2,r3⟩:=ih A (y::B) (out++[x]) H1 (by simp only[zmu];omega) qi s2 h2'
     refine⟨H4,?_,qe,fun a e1 e2 e3 e4 e5 e6=>by rw[r3 a e1 e2 e3 e4 e5 e6,s4 a e1 e2 e3]⟩
     have q:(x:Int)<(y:Int):=qe
     rw[vz,if_pos hxy]
     rw[<-List.append_cons]at r1
     rw[<-r1]
     unfold Fst
     rw[xU]
     simp only[zps]at w14
     simp[Qq,w14,hxy,q]
    ·have q:¬((x:Int)<(y:Int)):=qe
     by_cases hyx:y<x
     ·obtain⟨H4,r1,r2,r3⟩:=ih (x::A) B (out++[y]) H3 (by simp only[zmu];omega) qi h1' u2
      refine⟨H4,?_,qe,fun a e1 e2 e3 e4 e5 e6=>by rw[r3 a e1 e2 e3 e4 e5 e6,u4 a e4 e5 e6]⟩
      have q':(y:Int)<(x:Int):=qe
      rw[vz,if_neg hxy,if_pos hyx]
      rw[<-List.append_cons]at r1
      rw[<-r1]
      unfold Fst
      rw[xU]
      simp only[zps]at w17
      simp[Qq,Kw,w17,hxy,q,hyx,q']
     ·obtain⟨H4,r1,r2,r3⟩:=ih A B (out++[x]) H2 qe qi s2' t2
      refine⟨H4,?_,qe,fun a e1 e2 e3 e4 e5 e6=>by rw[r3 a e1 e2 e3 e4 e5 e6,t4 a e4 e5 e6,s4 a e1 e2 e3]⟩
      have q':¬((y:Int)<(x:Int)):=qe
      rw[vz,if_neg hxy,if_neg hyx]
      rw[<-List.append_cons]at r1
      rw[<-r1]
      unfold Fst
      rw[xU]
      simp only[zps]at w19
      simp[Qq,Kw,w19,hxy,q,hyx,q']
end
theorem qq6(l:List Nat):By (zB l):=By.app (By.app (By.app (By.app (By.uv _) (By.uv _)) (By.pk _)) (By.uv _)) (By.pk _)
theorem zec(l:List Nat)(t1 t2:Nat):ro (vT l t1 t2)=vT l (rk t1) (rk t2):=by simp[vT]
theorem qnt(l:List Nat)(t1 t2:Nat):Zh (vT l t1 t2)=some ():=rfl
theorem qyt(hp:Hp)(rb sb wb k1 k2 B H:Nat)(a b:List Nat)(hB:B<=4096)(hH:H<=8)(ha:qM a)(hb:qM b)(a32:∀x∈a,x<4294967296)(b32:∀x∈b,x<4294967296)(al:a.length<=4096)(bl:b.length<=4096)(ml:(vX a b).length<=4096)
 (h:RW3 hp rb sb wb k1 k2 (uv B++[(H:Int)]++zB a) (uv B++[(H:Int)]++zB b) 0 0 []):
 ∃hp',run cxX 52 [.ptr wb 0 0,.ptr rb 0 0,.ptr sb 0 0] hp=some (.sc (.int .i64 0),hp')/\
  RW3 hp' rb sb wb k1 k2 (uv B++[(H:Int)]++zB a) (uv B++[(H:Int)]++zB b) (uv B++[(H:Int)]++zB a).length (uv B++[(H:Int)]++zB b).length (uv B++[(H:Int)]++zB (vX a b)):=by
 have m32:∀x∈vX a b,x<4294967296:=fun x hx=>((Jk x a b).mp hx).elim (a32 x) (b32 x)
 have mr:=jc (QM ha hb)
 have hu:=qE (n:=B) qe
 have la:=kp (l:=a) al a32 (jc ha)
 have lb:=kp (l:=b) bl b32 (jc hb)
 have lm:=kp (l:=vX a b) ml m32 mr
 have L1:(uv B++[(H:Int)]++zB a).length<=1000000000:=by simp only[zmt,zm5];omega
 have L2:(uv B++[(H:Int)]++zB b).length<=1000000000:=by simp only[zmt,zm5];omega
 have B1:By (uv B++[(H:Int)]++zB a):=By.app (By.app (By.uv _) (By.cons qe By.nil)) (qq6 _)
 have B2:By (uv B++[(H:Int)]++zB b):=By.app (By.app (By.uv _) (By.cons qe By.nil)) (qq6 _)
 have D1:(uv B++[(H:Int)]++zB a).drop (uv B).length=(H:Int)::zB a:=by rw[znf,zp0];rfl
 have D2:(uv B++[(H:Int)]++zB b).drop (uv B).length=(H:Int)::zB b:=by rw[znf,zp0];rfl
 have D1':(uv B++[(H:Int)]++zB a).drop ((uv B).length+1)=zB a++[]:=by
  have:(uv B).length+1=(uv B++[(H:Int)]).length:=qg
  rw[this,zp0,znj]
 have D2':(uv B++[(H:Int)]++zB b).drop ((uv B).length+1)=zB b++[]:=by
  have:(uv B).length+1=(uv B++[(H:Int)]).length:=qg
  rw[this,zp0,znj]
 have e1:(uv B).length+1+(zB a).length=(uv B++[(H:Int)]++zB a).length:=qi
 have e2:(uv B).length+1+(zB b).length=(uv B++[(H:Int)]++zB b).length:=qi
 have t1:=zd rb k1 (uv B++[(H:Int)]++zB a) L1 B1 (p:=0) (m:=B) (most:=4096) (r:=(H:Int)::zB a) (by rw[znf];rfl) qe qh hp (znl _) h.r
 rw[zm4]at t1
 have h1:=h.setR (uv B).length
 have t2':=fun H1=>zd sb k2 (uv B++[(H:Int)]++zB b) L2 B2 (p:=0) (m:=B) (most:=4096) (r:=(H:Int)::zB b) (by rw[znf];rfl) qe qh H1 (znl _)
 generalize uv B++[(H:Int)]++zB a=QA at*
 generalize uv B++[(H:Int)]++zB b=QB at*
 generalize hp.put rb 0 (Rc k1 QA (uv B).length 0)=H1 at*
 have t2:=t2' H1 h1.s
 rw[zm4]at t2
 have h2:=h1.setS (uv B).length
 generalize H1.put sb 0 (Rc k2 QB (uv B).length 0)=H2 at*
 have t3:=zn rb k1 QA L1 D1 H2 qe h2.r
 have h3:=h2.setR ((uv B).length+1)
 generalize H2.put rb 0 (Rc k1 QA ((uv B).length+1) 0)=H3 at*
 have t4:=zn sb k2 QB L2 D2 H3 qe h3.s
 have h4:=h3.setS ((uv B).length+1)
 generalize H3.put sb 0 (Rc k2 QB ((uv B).length+1) 0)=H4 at*
 obtain⟨z1,z2,t5⟩:=XP a al a32 (jc ha) rb k1 QA L1 B1 _ [] D1' H4 qe h4.r
 have h5:=h4.setR ((uv B).length+1+(zB a).length)
 generalize H4.put rb 0 (Rc k1 QA ((uv B).length+1+(zB a).length) 0)=H5 at*
 obtain⟨H6,t6,f6,n6,g6⟩:=qq5 a al a32 (jc ha) (rk z1) (rk z2) H5
 have h6:RW3 H6 rb sb wb k1 k2 QA QB ((uv B).length+1+(zB a).length) ((uv B).length+1) []:=
  h5.fr qe (by rw[xo (g6 rb h5.lr)];exact h5.r) (by rw[xo (g6 sb h5.ls)];exact h5.s) (by rw[xo (g6 wb h5.lw)];exact h5.w)
 obtain⟨z3,z4,t7⟩:=XP b bl b32 (jc hb) sb k2 QB L2 B2 _ [] D2' H6 qe h6.s
 have h7:=h6.setS ((uv B).length+1+(zB b).length)
 have hsb:=h5.ls
 have f7:=f6.fr (hp':=H6.put sb 0 (Rc k2 QB ((uv B).length+1+(zB b).length) 0)) (fun x hx=>by
  have:x≠sb:=qe
  simp[Hp.put,this])
 have n7:(H6.put sb 0 (Rc k2 QB ((uv B).length+1+(zB b).length) 0)).next=H6.next:=rfl
 generalize H6.put sb 0 (Rc k2 QB ((uv B).length+1+(zB b).length) 0)=H7 at*
 obtain⟨H8,t8,f8,n8,g8⟩:=qq5 b bl b32 (jc hb) (rk z3) (rk z4) H7
 have f7':=f7.fr (hp':=H8) (fun x hx=>g8 x qe)
 rw[e1,e2]at h7
 have h8:RW3 H8 rb sb wb k1 k2 QA QB QA.length QB.length []:=
  h7.fr qe (by rw[xo (g8 rb h7.lr)];exact h7.r) (by rw[xo (g8 sb h7.ls)];exact h7.s) (by rw[xo (g8 wb h7.lw)];exact h7.w)
 have er1:=qV rb k1 _ _ _ H8 h8.r
 have er2:=qV sb k2 _ _ _ H8 h8.s
 have fi:=ya
 obtain⟨H9,s1,s2,s3,s4⟩:=Xk f7'
 have f9:=f8.fr (hp':=H9) (fun x hx=>s4 x qe qe qe)
 obtain⟨H10,u1,u2,u3,u4⟩:=Xk f9
 have s2':=s2.fr (hp':=H10) (fun x hx=>u4 x qe qe qe)
 obtain⟨H11,v1,v2,v3⟩:=zbe (.ptr wb 0 0) (.int .u64 (B:Int)) (.int .u8 (H:Int)) (H5.next+2) H5.next (H5.next+1) (H7.next+2) H7.next (H7.next+1) qe qe qe _ a b [] H10 (zmx _) qi s2' u2
 have hlr:=h5.lr
 have hlw:=h5.lw
 have g11:∀x,x<H5.next->H11.get x=H8.get x:=fun x hx=>by
  rw[v3 x qe qe qe qe qe qe,u4 x qe qe qe,s4 x qe qe qe]
 have h11:RW3 H11 rb sb wb k1 k2 QA QB QA.length QB.length []:=
  h8.fr qe (by rw[xo (g11 rb hlr)];exact h8.r) (by rw[xo (g11 sb hsb)];exact h8.s) (by rw[xo (g11 wb hlw)];exact h8.w)
 rw[znn]at v1
 generalize vX a b=M at*
 have wu:=zY wb B [] qe qi H11 h11.w
 rw[znn]at wu
 have h12:=h11.setW (uv B)
 generalize H11.put wb 0 (Wc (uv B))=H12 at*
 have wy:=jr wb (uv B) H qe H12 h12.w
 have h13:=h12.setW (uv B++[(H:Int)])
 generalize H12.put wb 0 (Wc (uv B++[(H:Int)]))=H13 at*
 obtain⟨t,t',hpz,x1,_⟩:=qp1 M 3 ml m32 mr hp0
 have wf:=fun t t'=>qyo M ml m32 mr wb t t' (uv B++[(H:Int)]) (by simp only[zmt,zm5];omega) H13 h13.w
 refine⟨H13.put wb 0 (Wc (uv B++[(H:Int)]++zB M)),?_,h13.setW _⟩
 have b22:B52_22 (.ptr wb 0 0) (.int .u64 (B:Int)) (.int .u8 (H:Int)) (S 2 1 (LI .u32 (nz M))) H11=some (.sc (.int .i64 0),H13.put wb 0 (Wc (uv B++[(H:Int)]++zB M))):=by
  rw[qvl]
  unfold vT at x1 wf
  generalize uv B++[(H:Int)]++zB M=Q at*
  generalize pk (qN (qA M) M)=P1 at*
  generalize pk (qG (qA M) 0 M)=P2 at*
  generalize((qI M:Nat):Int)=La at*
  generalize((qA M:Nat):Int)=Lk at*
  simp[wu,wy,x1,wf,qr,qo]
 rw[b22]at v1
 have e0:S 2 1 []=S 2 1 (LI .u32 (nz [])):=rfl
 unfold Fst at v1
 rw[<-e0]at v1
 rw[E52]
 generalize uv B++[(H:Int)]++zB M=Q at*
 simp at t1 t2 er1 er2 s1 u1 v1
 simp[qnt,zec,t1,t2,t3,t4,t5,t6,t7,t8,er1,er2,fi,zcx,s1,u1,v1]
def lst(C i:Nat)(l:Int):Int:=if(i:Int)%max (C:Int) 1=0 then 0 else l
theorem qcv(C i:Nat)(x:Int)(r:List Int)(l:Int):zU (C:Int) (x::r) i l=uv (zz (x-lst C i l))++zU (C:Int) r (i+1) x:=rfl
theorem Jm{C row col:Nat}(h:col<C)(l:Int):lst C (row*C+col) l=if col=0 then 0 else l:=by
 have e1:max (C:Int) 1=(C:Int):=qe
 have e2:((row*C+col:Nat):Int)%(C:Int)=((col:Nat):Int):=by
  rw[<-Int.natCast_emod,zqm,Nat.add_mul_mod_self_right,zoa h]
 unfold lst
 rw[e1,e2]
 by_cases h0:col=0
 ·rw[if_pos h0,if_pos qe]
 ·rw[if_neg h0,if_neg qe]
theorem qzb(x y:Int)(hx:0<=x/\x<4294967296)(hy:0<=y/\y<4294967296):0<=zI x y/\zI x y<4294967296:=by
 unfold zI
 split<;>omega
section
variable (rb sb wb k1 k2 R C:Nat)(hR:1<=R/\R<=8)(hC:1<=C/\C<=256)(L1 L2:List Int)(hl1:L1.length<=1000000000)(hl2:L2.length<=1000000000)(B1:By L1)(B2:By L2)
include hR hC hl1 hl2 B1 B2
theorem zbt:∀(ra sa:List Int) (i row col:Nat) (la lb lm:Int) (p1 p2:Nat) (Z:List Int) (hp:Hp),ra≠[]->ra.length=sa.length->i=row*C+col->col<C->row<R->i+ra.length=R*C->kY ra->kY sa->(0<=la/\la<4294967296)->(0<=lb/\lb<4294967296)->(0<=lm/\lm<4294967296)->
 L1.drop p1=zU (C:Int) ra i la->L2.drop p2=zU (C:Int) sa i lb->p1<=L1.length->p2<=L2.length->Z.length<=10*i+20->i<=2048->RW3 hp rb sb wb k1 k2 L1 L2 p1 p2 Z->
 ∃hp',B53_14 (.ptr wb 0 0) (.ptr rb 0 0) (.ptr sb 0 0) (.int .u64 (C:Int)) (.int .i64 (lst C i la)) (.int .i64 (lst C i lb)) (.int .i64 (lst C i lm)) (.int .i64 (R:Int)) (.int .i64 (row:Int)) (.int .i64 (C:Int)) (.int .i64 (col:Int)) hp=some (.sc (.int .i64 0),hp')/\
  RW3 hp' rb sb wb k1 k2 L1 L2 L1.length L2.length (Z++zU (C:Int) (kQ ra sa) i lm):=by
 intro ra
 induction ra with
 |nil=>intro _ _ _ _ _ _ _ _ _ _ _ h;exact absurd rfl h
 |cons x ra ih=>
  intro sa i row col la lb lm p1 p2 Z hp _ hlen hi hcol JD hsum ua ub hla hlb hlm d1 d2 q1 q2 hZ hi2 h
  cases sa with
  |nil=>simp at hlen
  |cons y sa=>
   have hx:=ua x qg
   have hy:=ub y qg
   have ua':kY ra:=fun n hn=>ua n (by simp[hn])
   have ub':kY sa:=fun n hn=>ub n (by simp[hn])
   simp only[zmu]at hlen hsum
   have bA:0<=lst C i la/\lst C i la<4294967296:=by unfold lst;split<;>omega
   have bB:0<=lst C i lb/\lst C i lb<4294967296:=by unfold lst;split<;>omega
   have bM:0<=lst C i lm/\lst C i lm<4294967296:=by unfold lst;split<;>omega
   have em:kQ (x::ra) (y::sa)=zI x y::kQ ra sa:=rfl
   rw[em,qcv,<-List.append_assoc]
   rw[qcv]at d1 d2
   have hm:=qzb x y hx hy
   have t1:=VQ rb k1 L1 hl1 B1 d1 qe qe hp q1 h.r
   have d1':=qL d1
   have q1':=qW q1 d1
   have h1:=h.setR (p1+(uv (zz (x-lst C i la))).length)
   generalize hp.put rb 0 (Rc k1 L1 (p1+(uv (zz (x-lst C i la))).length) 0)=H1 at*
   have t2:=VQ sb k2 L2 hl2 B2 d2 qe qe H1 q2 h1.s
   have d2':=qL d2
   have q2':=qW q2 d2
   have h2:=h1.setS (p2+(uv (zz (y-lst C i lb))).length)
   generalize H1.put sb 0 (Rc k2 L2 (p2+(uv (zz (y-lst C i lb))).length) 0)=H2 at*
   have er1:=qV rb k1 _ _ _ H2 h2.r
   have er2:=qV sb k2 _ _ _ H2 h2.s
   have fi:=ya
   have pl:=yL x y hx hy
   have wl:(uv (zz (zI x y-lst C i lm))).length<=10:=qE (qbt qe qe)
   have wi:=qx6 wb (zI x y-lst C i lm) Z qe qe H2 h2.w
   have h3:=h2.setW (Z++uv (zz (zI x y-lst C i lm)))
   have hZ':(Z++uv (zz (zI x y-lst C i lm))).length<=10*(i+1)+20:=by rw[zmt];omega
   generalize H2.put wb 0 (Wc (Z++uv (zz (zI x y-lst C i lm))))=H3 at*
   generalize Z++uv (zz (zI x y-lst C i lm))=Z' at*
   have w1:IntKind.i64.wrap (lst C i la+(x-lst C i la))=x:=qj
   have w2:IntKind.i64.wrap (lst C i lb+(y-lst C i lb))=y:=qj
   have w3:IntKind.u32.wrap x=x:=qJ hx.1 hx.2
   have w4:IntKind.u32.wrap y=y:=qJ hy.1 hy.2
   have w5:IntKind.i64.wrap (zI x y)=zI x y:=qm qe qe
   have w6:IntKind.i64.wrap (zI x y-lst C i lm)=zI x y-lst C i lm:=qm qe qe
   have w7:IntKind.i64.wrap ((col:Int)+1)=((col+1:Nat):Int):=qj
   have w8:IntKind.i64.wrap ((row:Int)+1)=((row+1:Nat):Int):=qj
   have hcl:(col:Int)<(C:Int):=qe
   have one:B53_14 (.ptr wb 0 0) (.ptr rb 0 0) (.ptr sb 0 0) (.int .u64 (C:Int)) (.int .i64 (lst C i la)) (.int .i64 (lst C i lb)) (.int .i64 (lst C i lm)) (.int .i64 (R:Int)) (.int .i64 (row:Int)) (.int .i64 (C:Int)) (.int .i64 (col:Int)) hp=
    B53_14 (.ptr wb 0 0) (.ptr rb 0 0) (.ptr sb 0 0) (.int .u64 (C:Int)) (.int .i64 x) (.int .i64 y) (.int .i64 (zI x y)) (.int .i64 (R:Int)) (.int .i64 (row:Int)) (.int .i64 (C:Int)) (.int .i64 ((col+1:Nat):Int)) H3:=by
    clear ih d1 d1' d2 d2' hsum hZ hZ' wl
    rw[qdy]
    generalize((col+1:Nat):Int)=I at*
    generalize lst C i la=A at*
    generalize lst C i lb=B at*
    generalize lst C i lm=M at*
    generalize zI x y=P at*
    generalize x-A=XA at*
    generalize y-B=YB at*
    simp[hcl,hcol,t1,t2,w1,w2,er1,er2,fi,qrb,w3,w4,pl,zga,w5,w6,wi,w7]
   rw[one]
   by_cases hlast:col+1<C
   ·have ei:i+1=row*C+(col+1):=qe
    have hne:ra≠[]:=by
     intro e
     rw[e]at hsum
     simp only[znd,zm4]at hsum
     have:(row+1)*C<=R*C:=zng _ qe
     rw[Nat.succ_mul]at this
     omega
    have hRC:R*C<=2048:=zno hR.2 hC.2
    obtain⟨hp',z1,z2⟩:=ih sa (i+1) row (col+1) x y (zI x y) _ _ Z' H3 hne qe ei hlast JD qe ua' ub' hx hy hm d1' d2' q1' q2' hZ' qe h3
    refine⟨hp',?_,z2⟩
    rw[ei,Jm hlast,Jm hlast,Jm hlast,if_neg qe,if_neg qe,if_neg qe]at z1
    exact z1
   ·have ec:col+1=C:=qe
    have ei:i+1=(row+1)*C:=by rw[Nat.succ_mul];omega
    have hCn:¬((C:Int)<(C:Int)):=qe
    have wC:IntKind.i64.wrap (C:Int)=(C:Int):=qm qe qe
    rw[ec]
    have two:∀v12 v13 v14,B53_14 (.ptr wb 0 0) (.ptr rb 0 0) (.ptr sb 0 0) (.int .u64 (C:Int)) v12 v13 v14 (.int .i64 (R:Int)) (.int .i64 (row:Int)) (.int .i64 (C:Int)) (.int .i64 (C:Int)) H3=
     B53_11 (.ptr wb 0 0) (.ptr rb 0 0) (.ptr sb 0 0) (.int .u64 (C:Int)) (.int .i64 (R:Int)) (.int .i64 ((row+1:Nat):Int)) H3:=by
     intro v12 v13 v14
     rw[qdy]
     generalize((row+1:Nat):Int)=I at*
     simp[w8]
    rw[two]
    by_cases hr:row+1<R
    ·have hRC:R*C<=2048:=zno hR.2 hC.2
     have hne:ra≠[]:=by
      intro e
      rw[e]at hsum
      simp only[znd,zm4]at hsum
      have:(row+1+1)*C<=R*C:=zng _ qe
      rw[Nat.succ_mul]at this
      omega
     have ei':i+1=(row+1)*C+0:=qe
     obtain⟨hp',z1,z2⟩:=ih sa (i+1) (row+1) 0 x y (zI x y) _ _ Z' H3 hne qe ei' qe hr qe ua' ub' hx hy hm d1' d2' q1' q2' hZ' qe h3
     refine⟨hp',?_,z2⟩
     rw[ei',Jm qe,Jm qe,Jm qe,if_pos rfl,if_pos rfl,if_pos rfl]at z1
     have hrl:((row+1:Nat):Int)<(R:Int):=qe
     rw[Ku]
     generalize((row+1:Nat):Int)=I at*
     simp[hrl,xw,wC]
     exact z1
    ·have er:row+1=R:=qe
     have hRC:(row+1)*C=R*C:=by rw[er]
     rw[<-hRC,<-ei]at hsum
     have e0:ra=[]:=zm9.mp qe
     have e0':sa=[]:=zm9.mp qe
     subst e0;subst e0'
     refine⟨H3,?_,?_⟩
     ·rw[er,Ku]
      simp
     ·have s1:L1.drop (p1+(uv (zz (x-lst C i la))).length)=[]:=d1'
      have s2:L2.drop (p2+(uv (zz (y-lst C i lb))).length)=[]:=d2'
      have g1:=qK s1
      have g2:=qK s2
      have e1:p1+(uv (zz (x-lst C i la))).length=L1.length:=qe
      have e2:p2+(uv (zz (y-lst C i lb))).length=L2.length:=qe
      rw[e1,e2]at h3
      show RW3 H3 rb sb wb k1 k2 L1 L2 L1.length L2.length (Z'++[])
      rw[znj]
      exact h3
end
theorem qyu(hp:Hp)(rb sb wb k1 k2 R C:Nat)(a b:List Int)(hR:1<=R/\R<=8)(hC:1<=C/\C<=256)(ua:kY a)(ub:kY b)(al:a.length=R*C)(bl:b.length=R*C)
 (h:RW3 hp rb sb wb k1 k2 ([(R:Int)]++uv C++zU (C:Int) a 0 0) ([(R:Int)]++uv C++zU (C:Int) b 0 0) 0 0 []):
 ∃hp',run cxX 53 [.ptr wb 0 0,.ptr rb 0 0,.ptr sb 0 0] hp=some (.sc (.int .i64 0),hp')/\
  RW3 hp' rb sb wb k1 k2 ([(R:Int)]++uv C++zU (C:Int) a 0 0) ([(R:Int)]++uv C++zU (C:Int) b 0 0) ([(R:Int)]++uv C++zU (C:Int) a 0 0).length ([(R:Int)]++uv C++zU (C:Int) b 0 0).length ([(R:Int)]++uv C++zU (C:Int) (kQ a b) 0 0):=by
 have hRC:R*C<=8*256:=zno hR.2 hC.2
 have hRC1:1*1<=R*C:=zno hR.1 hC.1
 have hu:=qE (n:=C) qe
 have la:=vu (C:Int) a ua a 0 0 ua qe
 have lb:=vu (C:Int) b ub b 0 0 ub qe
 have L1:([(R:Int)]++uv C++zU (C:Int) a 0 0).length<=1000000000:=by simp only[zmt,zm5];omega
 have L2:([(R:Int)]++uv C++zU (C:Int) b 0 0).length<=1000000000:=by simp only[zmt,zm5];omega
 have B1:By ([(R:Int)]++uv C++zU (C:Int) a 0 0):=By.app (By.app (By.cons qe By.nil) (By.uv _)) (qgg _ _ _ _)
 have B2:By ([(R:Int)]++uv C++zU (C:Int) b 0 0):=By.app (By.app (By.cons qe By.nil) (By.uv _)) (qgg _ _ _ _)
 have D1:([(R:Int)]++uv C++zU (C:Int) a 0 0).drop 1=uv C++zU (C:Int) a 0 0:=rfl
 have D2:([(R:Int)]++uv C++zU (C:Int) b 0 0).drop 1=uv C++zU (C:Int) b 0 0:=rfl
 have D1':=qL D1
 have D2':=qL D2
 have t1:=zn rb k1 ([(R:Int)]++uv C++zU (C:Int) a 0 0) L1 (p:=0) (c:=(R:Int)) (r:=uv C++zU (C:Int) a 0 0) rfl hp (znl _) h.r
 have t2':=fun H1=>zn sb k2 ([(R:Int)]++uv C++zU (C:Int) b 0 0) L2 (p:=0) (c:=(R:Int)) (r:=uv C++zU (C:Int) b 0 0) rfl H1 (znl _)
 have l1:1+(uv C).length<=([(R:Int)]++uv C++zU (C:Int) a 0 0).length:=by simp only[zmt,zm5];omega
 have l2:1+(uv C).length<=([(R:Int)]++uv C++zU (C:Int) b 0 0).length:=by simp only[zmt,zm5];omega
 rw[zm4]at t1
 have h1:=h.setR 1
 generalize [(R:Int)]++uv C++zU (C:Int) a 0 0=QA at*
 generalize [(R:Int)]++uv C++zU (C:Int) b 0 0=QB at*
 generalize hp.put rb 0 (Rc k1 QA 1 0)=H1 at*
 have t2:=t2' H1 h1.s
 rw[zm4]at t2
 have h2:=h1.setS 1
 generalize H1.put sb 0 (Rc k2 QB 1 0)=H2 at*
 have t3:=zd rb k1 QA L1 B1 (most:=256) D1 qe qh H2 qe h2.r
 have h3:=h2.setR (1+(uv C).length)
 generalize H2.put rb 0 (Rc k1 QA (1+(uv C).length) 0)=H3 at*
 have t4:=zd sb k2 QB L2 B2 (most:=256) D2 qe qh H3 qe h3.s
 have h4:=h3.setS (1+(uv C).length)
 generalize H3.put sb 0 (Rc k2 QB (1+(uv C).length) 0)=H4 at*
 have er1:=qV rb k1 _ _ _ H4 h4.r
 have er2:=qV sb k2 _ _ _ H4 h4.s
 have fi:=ya
 have wy:run cxX 110 [.ptr wb 0 0,.sc (.int .u8 (R:Int))] H4=some (.tup [],H4.put wb 0 (Wc [(R:Int)])):=jr wb [] R qg H4 h4.w
 have h5:=h4.setW [(R:Int)]
 generalize H4.put wb 0 (Wc [(R:Int)])=H5 at*
 have wu:=zY wb C [(R:Int)] qe qi H5 h5.w
 have h6:=h5.setW ([(R:Int)]++uv C)
 generalize H5.put wb 0 (Wc ([(R:Int)]++uv C))=H6 at*
 obtain⟨H7,z1,z2⟩:=zbt rb sb wb k1 k2 R C hR hC QA QB L1 L2 B1 B2 a b 0 0 0 0 0 0 _ _ ([(R:Int)]++uv C) H6 (by intro e;rw[e]at al;simp at al;omega) qe qg qe qe qe ua ub qe qe qe D1' D2' qe qe qi qe h6
 refine⟨H7,?_,z2⟩
 have l0:lst C 0 0=0:=by unfold lst;split<;>rfl
 rw[l0]at z1
 have wC:IntKind.i64.wrap (C:Int)=(C:Int):=qm qe qe
 have wR:IntKind.i64.wrap (R:Int)=(R:Int):=qm qe qe
 have b11:B53_11 (.ptr wb 0 0) (.ptr rb 0 0) (.ptr sb 0 0) (.int .u64 (C:Int)) (.int .i64 (R:Int)) (.int .i64 0) H6=some (.sc (.int .i64 0),H7):=by
  have hr:(0:Int)<(R:Int):=qe
  have hr':0<R:=qe
  rw[Ku]
  simp at z1
  simp[hr,hr',xw,wC,z1]
 rw[E53]
 simp at t3 t4
 simp[t1,t2,t3,t4,er1,er2,fi,zcw,wy,wu,jT,wR,b11]
theorem qoo(b k:Nat)(l:List Int)(hl:l.length<=1000000000)(h8:By l)(n:Nat)(hn:n<=255)(rest:List Int):∀(r acc:List Nat) (pr p:Nat) (hp:Hp),acc.length+r.length=n->zO (pr::r)->(∀x∈r,x<18446744073709551616)->l.drop p=jL pr r++rest->p<=l.length->hp.rd b 0=some (Rc k l p 0)->
 ∃hp',B118_4 (.ptr b 0 0) (S 2 1 (LI .u64 (nz acc))) (.int .u64 (pr:Int)) (.int .i64 (n:Int)) (.int .i64 (acc.length:Int)) hp=some (S 2 1 (LI .u64 (nz (acc++r))),hp')/\hp'.rd b 0=some (Rc k l (p+(jL pr r).length) 0)/\hp'.next=hp.next/\∀a,a≠b->hp'.get a=hp.get a:=by
 intro r
 induction r with
 |nil=>
  intro acc pr p hp ha hf h64 hd hpl hr
  have e:acc.length=n:=ha
  refine⟨hp,?_,hr,rfl,fun _ _=>rfl⟩
  have hlt:¬((acc.length:Int)<(n:Int)):=qe
  have hlt':¬(acc.length<n):=qe
  rw[znj,qfh]
  generalize nz acc=L0
  simp[hlt,hlt']
 |cons x r ih=>
  intro acc pr p hp ha hf h64 hd hpl hr
  simp only[zmu]at ha
  have hx:=h64 x qg
  have hle:pr<=x:=hf.1
  have eg:jL pr (x::r)=uv (x-pr)++jL x r:=rfl
  rw[eg,znf]at hd
  have t1:=zd b k l hl h8 (most:=18446744073709551615) hd qe qh hp hpl hr
  have d2:=qL hd
  have q2:=qW hpl hd
  have r1:=qp hp b (Rc k l (p+(uv (x-pr)).length) 0)
  have er:=qV b k l _ 0 _ r1
  obtain⟨hp',a1,a2,a3,a4⟩:=ih (acc++[x]) x _ (hp.put b 0 (Rc k l (p+(uv (x-pr)).length) 0)) qi hf.2 (fun y hy=>h64 y (by simp[hy])) d2 q2 r1
  refine⟨hp',?_,by rw[a2,eg,zmt,zoj],a3,fun a h=>by rw[a4 a h];simp[Hp.put,h]⟩
  have ap:=QZ .u64 (nz acc) 2 (.inr rfl) 8 qh (x:Int) qi
  rw[<-yO]at ap
  have w1:IntKind.u64.wrap ((pr:Int)+((x-pr:Nat):Int))=(x:Int):=by rw[qu]<;>omega
  have w2:IntKind.i64.wrap ((acc.length:Int)+1)=(((acc++[x]).length:Nat):Int):=by
   have e:(acc++[x]).length=acc.length+1:=qg
   rw[e,qm]<;>omega
  have hlt:(acc.length:Int)<(n:Int):=qe
  have hlt':acc.length<n:=qe
  have ea:acc++x::r=acc++[x]++r:=qg
  rw[ea,<-a1,qfh]
  generalize hp.put b 0 (Rc k l (p+(uv (x-pr)).length) 0)=H1 at*
  generalize(((acc++[x]).length:Nat):Int)=N1 at*
  generalize nz (acc++[x])=L1 at*
  generalize nz acc=L0 at*
  generalize((x-pr:Nat):Int)=G at*
  simp at t1
  simp[hlt,hlt',t1,w1,er,yF,ap,w2]
theorem qcg(b k:Nat)(l:List Int)(hl:l.length<=1000000000)(h8:By l)(L:List Nat)(hL:L.length<=255)(hf:zO L)(h64:∀x∈L,x<18446744073709551616)(p:Nat)(rest:List Int)(hd:l.drop p=(L.length:Int)::(jL 0 L++rest))(hp:Hp)(hpl:p<=l.length)(hr:hp.rd b 0=some (Rc k l p 0)):
 ∃hp',run cxX 118 [.ptr b 0 0] hp=some (S 2 1 (LI .u64 (nz L)),hp')/\hp'.rd b 0=some (Rc k l (p+1+(jL 0 L).length) 0)/\hp'.next=hp.next/\∀a,a≠b->hp'.get a=hp.get a:=by
 have t1:=zn b k l hl hd hp hpl hr
 have d2:l.drop (p+1)=jL 0 L++rest:=by rw[<-List.drop_drop,hd];rfl
 have q2:p+1<=l.length:=by
  have:(l.drop p).length=l.length-p:=zor
  rw[hd]at this
  simp only[zmu]at this
  omega
 obtain⟨hp',a1,a2,a3,a4⟩:=qoo b k l hl h8 L.length hL rest L [] 0 (p+1) (hp.put b 0 (Rc k l (p+1) 0)) qg (jE hf) h64 d2 q2 (qp _ _ _)
 refine⟨hp',?_,a2,a3,fun a h=>by rw[a4 a h];simp[Hp.put,h]⟩
 have a1:B118_4 (.ptr b 0 0) (S 2 1 []) (.int .u64 0) (.int .i64 (L.length:Int)) (.int .i64 0) (hp.put b 0 (Rc k l (p+1) 0))=some (S 2 1 (LI .u64 (nz L)),hp'):=a1
 have w:IntKind.i64.wrap (L.length:Int)=(L.length:Int):=qm qe qe
 rw[E118]
 generalize nz L=L0 at*
 simp[t1,jT,w,a1]
def Zp:List Int->List Int
 |[]=>[]
 |x::r=>uv x.toNat++Zp r
theorem qxo:∀l,By (Zp l)
 |[]=>By.nil
 |_::r=>By.app (By.uv _) (qxo r)
section
variable (rb sb wb k1 k2:Nat)(L1 L2:List Int)(hl1:L1.length<=1000000000)(hl2:L2.length<=1000000000)(B1:By L1)(B2:By L2)(v7:Value)
include hl1 hl2 B1 B2
theorem qru(s1 s2:List Int):∀(ra sa:List Int) (i p1 p2:Nat) (Z:List Int) (hp:Hp),ra.length=sa.length->i+ra.length=7->kY ra->kY sa->L1.drop p1=Zp ra++s1->L2.drop p2=Zp sa++s2->p1<=L1.length->p2<=L2.length->Z.length<=1000+10*i->RW3 hp rb sb wb k1 k2 L1 L2 p1 p2 Z->
 ∃hp',B54_9 (.ptr wb 0 0) (.ptr rb 0 0) (.ptr sb 0 0) v7 (.int .i64 (i:Int)) hp=B54_9 (.ptr wb 0 0) (.ptr rb 0 0) (.ptr sb 0 0) v7 (.int .i64 7) hp'/\
  RW3 hp' rb sb wb k1 k2 L1 L2 (p1+(Zp ra).length) (p2+(Zp sa).length) (Z++Zp (kQ ra sa))/\(Z++Zp (kQ ra sa)).length<=1070:=by
 intro ra
 induction ra with
 |nil=>
  intro sa i p1 p2 Z hp hlen hi ua ub d1 d2 q1 q2 hZ h
  have e1:sa=[]:=zm9.mp (by simpa using hlen.symm)
  subst e1
  have e2:i=7:=hi
  subst e2
  refine⟨hp,rfl,?_,?_⟩
  ·show RW3 hp rb sb wb k1 k2 L1 L2 p1 p2 (Z++[])
   rw[znj]
   exact h
  ·show(Z++[]).length<=1070
   rw[znj]
   omega
 |cons x ra ih=>
  intro sa i p1 p2 Z hp hlen hi ua ub d1 d2 q1 q2 hZ h
  cases sa with
  |nil=>simp at hlen
  |cons y sa=>
   have hx:=ua x qg
   have hy:=ub y qg
   have hm:=yb hx hy
   unfold zw at hm
   simp only[zmu]at hlen hi
   have d1:L1.drop p1=uv x.toNat++(Zp ra++s1):=by rw[d1,<-List.append_assoc];rfl
   have d2:L2.drop p2=uv y.toNat++(Zp sa++s2):=by rw[d2,<-List.append_assoc];rfl
   have t1:=zd rb k1 L1 hl1 B1 (most:=18446744073709551615) d1 qe qh hp q1 h.r
   have h1:=h.setR (p1+(uv x.toNat).length)
   have d1':=qL d1
   have q1':=qW q1 d1
   generalize hp.put rb 0 (Rc k1 L1 (p1+(uv x.toNat).length) 0)=H1 at*
   have t2:=zd sb k2 L2 hl2 B2 (most:=18446744073709551615) d2 qe qh H1 q2 h1.s
   have h2:=h1.setS (p2+(uv y.toNat).length)
   have d2':=qL d2
   have q2':=qW q2 d2
   generalize H1.put sb 0 (Rc k2 L2 (p2+(uv y.toNat).length) 0)=H2 at*
   have wl:(uv (zI x y).toNat).length<=10:=qE qe
   have wu:=zY wb (zI x y).toNat Z qe qe H2 h2.w
   have h3:=h2.setW (Z++uv (zI x y).toNat)
   generalize H2.put wb 0 (Wc (Z++uv (zI x y).toNat))=H3 at*
   obtain⟨H4,z1,z2,z3⟩:=ih sa (i+1) _ _ (Z++uv (zI x y).toNat) H3 qe qe (fun n hn=>ua n (by simp[hn])) (fun n hn=>ub n (by simp[hn])) d1' d2' q1' q2' (by rw[zmt];omega) h3
   have e1:Zp (x::ra)=uv x.toNat++Zp ra:=rfl
   have e2:Zp (y::sa)=uv y.toNat++Zp sa:=rfl
   have e3:Zp (kQ (x::ra) (y::sa))=uv (zI x y).toNat++Zp (kQ ra sa):=rfl
   have m1:p1+(uv x.toNat++Zp ra).length=p1+(uv x.toNat).length+(Zp ra).length:=by rw[zmt,zoj]
   have m2:p2+(uv y.toNat++Zp sa).length=p2+(uv y.toNat).length+(Zp sa).length:=by rw[zmt,zoj]
   rw[e1,e2,e3,m1,m2,<-List.append_assoc]
   refine⟨H4,?_,z2,z3⟩
   have pl:=yL x y hx hy
   have w1:IntKind.u32.wrap x=x:=qJ hx.1 hx.2
   have w2:IntKind.u32.wrap y=y:=qJ hy.1 hy.2
   have w3:IntKind.u64.wrap (zI x y)=zI x y:=qu qe qe
   have w4:IntKind.i64.wrap ((i:Int)+1)=((i+1:Nat):Int):=qj
   have i7:(i:Int)<7:=qe
   have i7':i<7:=qe
   have t1':run cxX 60 [.ptr rb 0 0,.sc (.int .u64 18446744073709551615)] hp=some (.sc (.int .u64 x),H1):=by rw[zoh hx.1]at t1;exact t1
   have t2':run cxX 60 [.ptr sb 0 0,.sc (.int .u64 18446744073709551615)] H1=some (.sc (.int .u64 y),H2):=by rw[zoh hy.1]at t2;exact t2
   rw[zoh hm.1]at wu
   clear t1 t2 z2 z3 h h1 h2 h3 ih d1 d2 d1' d2' wl hZ e1 e2 e3
   rw[<-z1,qly]
   generalize((i+1:Nat):Int)=I at*
   generalize zI x y=P at*
   simp[i7,i7',t1',t2',jG,w1,w2,pl,yw,w3,wu,w4]
end
section
variable (X0 X1 X2:AV)(K:Nat)(hK:K<=255)(hp:Hp)
include hK
theorem zfu:∀(n:Nat) (A B out:List Nat) (ka kb:Nat),A.length+B.length<=n->n<=100000->out.length<=K->
 B54_16 X0 X1 X2 (.int .u8 (K:Int)) (S ka 1 (LI .u64 (nz A))) (S kb 1 (LI .u64 (nz B))) (S 2 1 (LI .u64 (nz out))) hp=B54_20 X0 X1 X2 (S 2 1 (LI .u64 (nz ((out++mk A B).take K)))) hp:=by
 have wK:IntKind.i64.wrap (K:Int)=(K:Int):=qm qe qe
 intro n
 induction n with
 |zero=>
  intro A B out ka kb hn hn2 ho
  have e1:A=[]:=zm9.mp qe
  have e2:B=[]:=zm9.mp qe
  subst e1;subst e2
  rw[ZC,znj,znr ho,Ks]
  have w0:IntKind.i64.wrap 0=0:=qh
  by_cases hlt:out.length<K
  ·have hlt':(out.length:Int)<(K:Int):=qe
   simp[jT,wK,hlt,hlt',nz,LI,w0]
  ·have hlt':¬((out.length:Int)<(K:Int)):=qe
   simp[jT,wK,hlt,hlt',nz,LI]
 |succ n ih=>
  intro A B out ka kb hn hn2 ho
  by_cases hlt:out.length<K
  ·have hlt':(out.length:Int)<(K:Int):=qe
   have ap:=fun(v:Nat)=>QZ .u64 (nz out) 2 (.inr rfl) 8 qh (v:Int) qi
   have es:∀v:Nat,nz out++[(v:Int)]=nz (out++[v]):=fun v=>by rw[yO]
   simp only[es]at ap
   have gs0:∀(v:Value),ql [.sc v] 0=some v:=fun _=>rfl
   have hsum:IntKind.i64.wrap ((A.length:Int)+(B.length:Int))=((A.length+B.length:Nat):Int):=qj
   have nzl:∀l:List Nat,(LI .u64 (nz l)).length=l.length:=fun l=>qg
   have ix:∀(k x:Nat) (r:List Nat),jA 1 (S k 1 (LI .u64 (nz (x::r)))) (.int .i64 0)=some [.sc (.int .u64 (x:Int))]:=fun k x r=>by simp[nz,LI]
   have sl:∀(k x:Nat) (r:List Nat),∃t,yq 1 (S k 1 (LI .u64 (nz (x::r)))) (some (.int .i64 1)) none none=some (S t 1 (LI .u64 (nz r))):=fun k x r=>
    ⟨_,vi k (LI .u64 (nz (x::r))) .i64 1 qh (by rw[nzl,zmu];omega)⟩
   --one more of the first,of the second
   have g18:∀(x:Nat) (A':List Nat),A=x::A'->∃t,B54_18 X0 X1 X2 (.int .u8 (K:Int)) (S ka 1 (LI .u64 (nz A))) (S kb 1 (LI .u64 (nz B))) (S 2 1 (LI .u64 (nz out))) hp=B54_16 X0 X1 X2 (.int .u8 (K:Int)) (S t 1 (LI .u64 (nz A'))) (S kb 1 (LI .u64 (nz B))) (S 2 1 (LI .u64 (nz (out++[x])))) hp:=by
    intro x A' e
    subst e
    obtain⟨t,et⟩:=sl (rk ka) x A'
    have ex:=ix (rk ka) x A'
    refine⟨t,?_⟩
    rw[qvk]
    generalize nz (x::A')=O3 at*
    simp[-XZ,ex,gs0,yF,ap,et]
   have g19:∀(x:Nat) (B':List Nat),B=x::B'->∃t,B54_19 X0 X1 X2 (.int .u8 (K:Int)) (S ka 1 (LI .u64 (nz A))) (S kb 1 (LI .u64 (nz B))) (S 2 1 (LI .u64 (nz out))) hp=B54_16 X0 X1 X2 (.int .u8 (K:Int)) (S ka 1 (LI .u64 (nz A))) (S t 1 (LI .u64 (nz B'))) (S 2 1 (LI .u64 (nz (out++[x])))) hp:=by
    intro x B' e
    subst e
    obtain⟨t,et⟩:=sl (rk kb) x B'
    have ex:=ix (rk kb) x B'
    refine⟨t,?_⟩
    rw[qvj]
    generalize nz (x::B')=O3 at*
    simp[-XZ,ex,gs0,yF,ap,et]
   have g16:A.length+B.length≠0->B54_16 X0 X1 X2 (.int .u8 (K:Int)) (S ka 1 (LI .u64 (nz A))) (S kb 1 (LI .u64 (nz B))) (S 2 1 (LI .u64 (nz out))) hp=B54_17 X0 X1 X2 (.int .u8 (K:Int)) (S ka 1 (LI .u64 (nz A))) (S kb 1 (LI .u64 (nz B))) (S 2 1 (LI .u64 (nz out))) hp:=by
    intro h0
    have hs:(0:Int)<((A.length+B.length:Nat):Int):=qe
    rw[Ks]
    generalize((A.length+B.length:Nat):Int)=Q at*
    simp[jT,wK,hlt,hlt',hsum,hs]
   cases A with
   |nil=>
    cases B with
    |nil=>exact(by
     have:=ih [] [] out ka kb qg qe ho
     exact this)
    |cons y B=>
     simp only[zmu,znd]at hn
     obtain⟨t,e19⟩:=g19 y B rfl
     rw[g16 qg,ZC,zqy]
     have z:=ih [] B (out++[y]) ka t (by simp only[znd];omega) qe qi
     rw[ZC]at z
     rw[<-z,<-e19,Jy]
     have b1:¬(((B.length+1:Nat):Int)=0):=qe
     have b2:(LI IntKind.u64 (nz (y::B))).length=B.length+1:=qg
     have b3:(LI IntKind.u64 (nz [])).length=0:=rfl
     generalize LI IntKind.u64 (nz (y::B))=Y at*
     generalize LI IntKind.u64 (nz [])=X at*
     simp[b2,b3,b1]
   |cons x A=>
    cases B with
    |nil=>
     simp only[zmu,znd]at hn
     obtain⟨t,e18⟩:=g18 x A rfl
     rw[g16 qg,ZB,zqy]
     have z:=ih A [] (out++[x]) t kb (by simp only[znd];omega) qe qi
     rw[ZB]at z
     rw[<-z,<-e18,Jy]
     have b3:(LI IntKind.u64 (nz [])).length=0:=rfl
     generalize LI IntKind.u64 (nz (x::A))=Y at*
     generalize LI IntKind.u64 (nz [])=X at*
     simp[b3]
    |cons y B=>
     simp only[zmu]at hn
     have b1:¬(((B.length+1:Nat):Int)=0):=qe
     have b2:(LI IntKind.u64 (nz (y::B))).length=B.length+1:=qg
     have b3:(LI IntKind.u64 (nz (x::A))).length=A.length+1:=qg
     have b4:(0:Int)<((A.length+1:Nat):Int):=qe
     have ex:=ix (rk ka) x A
     have ey:=ix (rk kb) y B
     by_cases hyx:y<x
     ·obtain⟨t,e19⟩:=g19 y B rfl
      rw[g16 qg,xr,if_pos hyx,zqy]
      have z:=ih (x::A) B (out++[y]) ka t (by simp only[zmu];omega) qe qi
      rw[<-z,<-e19,Jy]
      have q1:¬(x<=y):=qe
      have q2:¬((x:Int)<=(y:Int)):=qe
      clear z e19 g16 g18 g19 ih
      generalize LI IntKind.u64 (nz (y::B))=Y at*
      generalize LI IntKind.u64 (nz (x::A))=X at*
      generalize((B.length+1:Nat):Int)=N1 at*
      generalize((A.length+1:Nat):Int)=N2 at*
      simp[-XZ,b2,b3,b1,b4,ex,ey,gs0,q1,q2]
     ·obtain⟨t,e18⟩:=g18 x A rfl
      rw[g16 qg,xr,if_neg hyx,zqy]
      have z:=ih A (y::B) (out++[x]) t kb (by simp only[zmu];omega) qe qi
      rw[<-z,<-e18,Jy]
      have q1:x<=y:=qe
      have q2:(x:Int)<=(y:Int):=qe
      clear z e18 g16 g18 g19 ih
      generalize LI IntKind.u64 (nz (y::B))=Y at*
      generalize LI IntKind.u64 (nz (x::A))=X at*
      generalize((B.length+1:Nat):Int)=N1 at*
      generalize((A.length+1:Nat):Int)=N2 at*
      simp[-XZ,b2,b3,b1,b4,ex,ey,gs0,q1,q2]
  ·have hlt':¬((out.length:Int)<(K:Int)):=qe
   have ex:(out++mk A B).take K=out:=by
    have:K=out.length:=qe
    rw[this,zra]
   rw[ex,Ks]
   simp[jT,wK,hlt,hlt']
end
theorem WR:∀(l:List Nat) (p:Nat),(∀x∈l,x<18446744073709551616)->(jL p l).length<=10*l.length
 |[],_,_=>by simp[jL]
 |x::r,p,h=>by
  have ih:=WR r x (fun y hy=>h y (by simp[hy]))
  have hx:=h x qg
  have hu:=qE (n:=x-p) qe
  show(uv (x-p)++jL x r).length<=_
  rw[zmt,zmu]
  omega
theorem qt5(rb sb wb k1 k2 k:Nat)(L1 L2:List Int)(p1 p2:Nat)(L:List Nat)(hL:L.length<=255)(h64:∀x∈L,x<18446744073709551616)(hf:zO L):∀(r:List Nat) (i pr:Nat) (Z:List Int) (hp:Hp),L.drop i=r->i+r.length=L.length->zO (pr::r)->Z.length<=2000+10*i->RW3 hp rb sb wb k1 k2 L1 L2 p1 p2 Z->
 ∃hp',B54_23 (.ptr wb 0 0) (.ptr rb 0 0) (.ptr sb 0 0) (.int .u64 (pr:Int)) (S k 1 (LI .u64 (nz L))) (.int .i64 (L.length:Int)) (.int .i64 (i:Int)) hp=some (.sc (.int .i64 0),hp')/\RW3 hp' rb sb wb k1 k2 L1 L2 p1 p2 (Z++jL pr r):=by
 intro r
 induction r with
 |nil=>
  intro i pr Z hp h hil hn hZ hR
  have e:i=L.length:=by simpa using hil
  subst e
  refine⟨hp,?_,by rw[show jL pr []=[]from rfl,znj];exact hR⟩
  have er1:=qV rb k1 _ _ _ hp hR.r
  have er2:=qV sb k2 _ _ _ hp hR.s
  have fi:=ya
  rw[qdx]
  simp[er1,er2,fi]
 |cons x r ih=>
  intro i pr Z hp h hil hn hZ hR
  obtain⟨e1,e2,hi,e3⟩:=qt h
  simp only[zmu]at hil
  have hx:x<18446744073709551616:=h64 x (by rw[<-e3];exact znb _)
  have hle:pr<=x:=hn.1
  have hu:=qE (n:=x-pr) qe
  have wu:=zY wb (x-pr) Z qe qe hp hR.w
  have h1:=hR.setW (Z++uv (x-pr))
  generalize hp.put wb 0 (Wc (Z++uv (x-pr)))=H1 at*
  obtain⟨H2,a1,a2⟩:=ih (i+1) x (Z++uv (x-pr)) H1 e2 qe hn.2 (by rw[zmt];omega) h1
  have eg:jL pr (x::r)=uv (x-pr)++jL x r:=rfl
  refine⟨H2,?_,by rw[eg,<-List.append_assoc];exact a2⟩
  have gs0:∀(v:Value),ql [.sc v] 0=some v:=fun _=>rfl
  have en:∀h,(nz L)[i]'h=(x:Int):=fun h=>by simp[nz,e3]
  have hi':(i:Int)<(L.length:Int):=qe
  have w1:IntKind.u64.wrap ((x:Int)-(pr:Int))=((x-pr:Nat):Int):=by rw[qu]<;>omega
  have w2:IntKind.i64.wrap ((i:Int)+1)=((i+1:Nat):Int):=qj
  rw[<-a1,qdx]
  generalize((i+1:Nat):Int)=I at*
  generalize((x-pr:Nat):Int)=G at*
  simp[hi,hi',gs0,en,w1,wu,w2]
def gSu(g:GN):List Int:=[g.M,g.e0,g.e1,g.e2,g.e3,g.e4,g.e5]
theorem Jr(K:Int)(g:GN):yy K g=K::(Zp (gSu g)++(uv g.lo++(uv g.hi++((g.L.length:Int)::(jL 0 g.L++[]))))):=by
 unfold yy
 simp[Zp,gSu]
structure GFi (g : GN) : Prop where
 u:kY (gSu g)
 lo:g.lo<18446744073709551616
 hi:g.hi<18446744073709551616
 l:g.L.length<=16
 n:zO g.L
 b:∀x∈g.L,x<18446744073709551616
theorem qys(hp:Hp)(rb sb wb k1 k2 K:Nat)(g o:GN)(hK:K<=16)(hg:GFi g)(ho:GFi o)(hm:GFi (kE (K:Int) g o))
 (h:RW3 hp rb sb wb k1 k2 (yy (K:Int) g) (yy (K:Int) o) 0 0 []):
 ∃hp',run cxX 54 [.ptr wb 0 0,.ptr rb 0 0,.ptr sb 0 0] hp=some (.sc (.int .i64 0),hp')/\
  RW3 hp' rb sb wb k1 k2 (yy (K:Int) g) (yy (K:Int) o) (yy (K:Int) g).length (yy (K:Int) o).length (yy (K:Int) (kE (K:Int) g o)):=by
 have us:∀l:List Int,kY l->(Zp l).length<=10*l.length:=by
  intro l
  induction l with
  |nil=>intro _;simp[Zp]
  |cons x r ih=>
   intro hu
   have hx:=hu x qg
   have hw:=qE (n:=x.toNat) qe
   have:=ih (fun n hn=>hu n (by simp[hn]))
   show(uv x.toNat++Zp r).length<=_
   rw[zmt,zmu]
   omega
 have len:∀q:GN,GFi q->(yy (K:Int) q).length<=1000:=by
  intro q hq
  have a1:=us _ hq.u
  have a2:=qE (n:=q.lo) hq.lo
  have a3:=qE (n:=q.hi) hq.hi
  have a4:=WR q.L 0 hq.b
  have a5:=hq.l
  have a6:(gSu q).length=7:=rfl
  rw[Jr]
  simp only[zmu,zmt,znd]
  omega
 have lg:=len g hg
 have lo:=len o ho
 have byq:∀q:GN,GFi q->By (yy (K:Int) q):=by
  intro q hq
  have:=hq.l
  rw[Jr]
  exact By.cons qe (By.app (qxo _) (By.app (By.uv _) (By.app (By.uv _) (By.cons qe (By.app (qqz _ _) By.nil)))))
 have B1:=byq g hg
 have B2:=byq o ho
 have d1:=Jr (K:Int) g
 have d2:=Jr (K:Int) o
 generalize yy (K:Int) g=QA at*
 generalize yy (K:Int) o=QB at*
 have c1:QA.drop 0=(K:Int)::(Zp (gSu g)++(uv g.lo++(uv g.hi++((g.L.length:Int)::(jL 0 g.L++[]))))):=d1
 have c2:QB.drop 0=(K:Int)::(Zp (gSu o)++(uv o.lo++(uv o.hi++((o.L.length:Int)::(jL 0 o.L++[]))))):=d2
 have t1:=zn rb k1 QA qe c1 hp (znl _) h.r
 rw[zm4]at t1
 have h1:=h.setR 1
 generalize hp.put rb 0 (Rc k1 QA 1 0)=H1 at*
 have t2:=zn sb k2 QB qe c2 H1 (znl _) h1.s
 rw[zm4]at t2
 have h2:=h1.setS 1
 generalize H1.put sb 0 (Rc k2 QB 1 0)=H2 at*
 have er1:=qV rb k1 _ _ _ H2 h2.r
 have er2:=qV sb k2 _ _ _ H2 h2.s
 have fi:=ya
 have wy:run cxX 110 [.ptr wb 0 0,.sc (.int .u8 (K:Int))] H2=some (.tup [],H2.put wb 0 (Wc [(K:Int)])):=jr wb [] K qg H2 h2.w
 have h3:=h2.setW [(K:Int)]
 generalize H2.put wb 0 (Wc [(K:Int)])=H3 at*
 have f1:QA.drop 1=Zp (gSu g)++(uv g.lo++(uv g.hi++((g.L.length:Int)::(jL 0 g.L++[])))):=by rw[d1];rfl
 have f2:QB.drop 1=Zp (gSu o)++(uv o.lo++(uv o.hi++((o.L.length:Int)::(jL 0 o.L++[])))):=by rw[d2];rfl
 have l1:1<=QA.length:=by rw[d1];simp
 have l2:1<=QB.length:=by rw[d2];simp
 obtain⟨H4,s1,s2,s3⟩:=qru rb sb wb k1 k2 QA QB qe qe B1 B2 (.int .u8 (K:Int)) _ _ (gSu g) (gSu o) 0 1 1 [(K:Int)] H3 rfl rfl hg.u ho.u f1 f2 l1 l2 qg h3
 have em:kQ (gSu g) (gSu o)=gSu (kE (K:Int) g o):=rfl
 rw[em]at s2 s3
 have n1:=qL f1
 have m1:=qW l1 f1
 have n2:=qL f2
 have m2:=qW l2 f2
 generalize 1+(Zp (gSu g)).length=p1 at*
 generalize 1+(Zp (gSu o)).length=p2 at*
 generalize hZ1:[(K:Int)]++Zp (gSu (kE (K:Int) g o))=Z1 at*
 have hlo:=hg.lo
 have hlo':=ho.lo
 have hhi:=hg.hi
 have hhi':=ho.hi
 --the least
 have t3:=zd rb k1 QA qe B1 (most:=18446744073709551615) n1 qe qh H4 m1 s2.r
 have h5:=s2.setR (p1+(uv g.lo).length)
 have n3:=qL n1
 have m3:=qW m1 n1
 generalize H4.put rb 0 (Rc k1 QA (p1+(uv g.lo).length) 0)=H5 at*
 have t4:=zd sb k2 QB qe B2 (most:=18446744073709551615) n2 qe qh H5 m2 h5.s
 have h6:=h5.setS (p2+(uv o.lo).length)
 have n4:=qL n2
 have m4:=qW m2 n2
 generalize H5.put sb 0 (Rc k2 QB (p2+(uv o.lo).length) 0)=H6 at*
 have u1:=qE (n:=min g.lo o.lo) qe
 have t5:=zY wb (min g.lo o.lo) Z1 qe qe H6 h6.w
 have h7:=h6.setW (Z1++uv (min g.lo o.lo))
 generalize H6.put wb 0 (Wc (Z1++uv (min g.lo o.lo)))=H7 at*
 --the greatest
 have t6:=zd rb k1 QA qe B1 (most:=18446744073709551615) n3 qe qh H7 m3 h7.r
 have h8:=h7.setR (p1+(uv g.lo).length+(uv g.hi).length)
 have n5:=qL n3
 have m5:=qW m3 n3
 generalize H7.put rb 0 (Rc k1 QA (p1+(uv g.lo).length+(uv g.hi).length) 0)=H8 at*
 have t7:=zd sb k2 QB qe B2 (most:=18446744073709551615) n4 qe qh H8 m4 h8.s
 have h9:=h8.setS (p2+(uv o.lo).length+(uv o.hi).length)
 have n6:=qL n4
 have m6:=qW m4 n4
 generalize H8.put sb 0 (Rc k2 QB (p2+(uv o.lo).length+(uv o.hi).length) 0)=H9 at*
 have u2:=qE (n:=max g.hi o.hi) qe
 have t8:=zY wb (max g.hi o.hi) (Z1++uv (min g.lo o.lo)) qe (by rw[zmt];omega) H9 h9.w
 have h10:=h9.setW (Z1++uv (min g.lo o.lo)++uv (max g.hi o.hi))
 generalize H9.put wb 0 (Wc (Z1++uv (min g.lo o.lo)++uv (max g.hi o.hi)))=H10 at*
 generalize p1+(uv g.lo).length+(uv g.hi).length=p3 at*
 generalize p2+(uv o.lo).length+(uv o.hi).length=p4 at*
 have x1:p3+1+(jL 0 g.L).length=QA.length:=by
  have:(QA.drop p3).length=QA.length-p3:=zor
  rw[n5]at this
  simp only[zmu,zmt,znd]at this
  omega
 have x2:p4+1+(jL 0 o.L).length=QB.length:=by
  have:(QB.drop p4).length=QB.length-p4:=zor
  rw[n6]at this
  simp only[zmu,zmt,znd]at this
  omega
 obtain⟨H11,k1a,k1b,k1c,k1d⟩:=qcg rb k1 QA qe B1 g.L (by have:=hg.l;omega) hg.n hg.b p3 [] n5 H10 m5 h10.r
 rw[x1]at k1b
 have h11:RW3 H11 rb sb wb k1 k2 QA QB QA.length p4 (Z1++uv (min g.lo o.lo)++uv (max g.hi o.hi)):=
  h10.fr qe k1b (by rw[xo (k1d sb (fun e=>h10.rs e.symm))];exact h10.s) (by rw[xo (k1d wb (fun e=>h10.rw e.symm))];exact h10.w)
 obtain⟨H12,k2a,k2b,k2c,k2d⟩:=qcg sb k2 QB qe B2 o.L (by have:=ho.l;omega) ho.n ho.b p4 [] n6 H11 m6 h11.s
 rw[x2]at k2b
 have h12:RW3 H12 rb sb wb k1 k2 QA QB QA.length QB.length (Z1++uv (min g.lo o.lo)++uv (max g.hi o.hi)):=
  h11.fr qe (by rw[xo (k2d rb h11.rs)];exact h11.r) k2b (by rw[xo (k2d wb (fun e=>h11.sw e.symm))];exact h11.w)
 have gk:=fun ka kb=>zfu (.ptr wb 0 0) (.ptr rb 0 0) (.ptr sb 0 0) K qe H12 (g.L.length+o.L.length) g.L o.L [] ka kb (zmx _) (by have:=hg.l;have:=ho.l;omega) (znl _)
 have eM:(kE (K:Int) g o).L=([]++mk g.L o.L).take K:=by
  show(mk g.L o.L).take ((K:Int)).toNat=_
  rw[zm3,znn]
 rw[<-eM]at gk
 have hz:(Z1++uv (min g.lo o.lo)++uv (max g.hi o.hi)).length<=1100:=by simp only[zmt];omega
 have eY:=Jr (K:Int) (kE (K:Int) g o)
 have eY':yy (K:Int) (kE (K:Int) g o)=Z1++uv (min g.lo o.lo)++uv (max g.hi o.hi)++[((kE (K:Int) g o).L.length:Int)]++jL 0 (kE (K:Int) g o).L:=by
  rw[eY,<-hZ1]
  have a1:(kE (K:Int) g o).lo=min g.lo o.lo:=rfl
  have a2:(kE (K:Int) g o).hi=max g.hi o.hi:=rfl
  rw[a1,a2]
  simp
 rw[eY']
 have hml:=hm.l
 have hmn:=hm.n
 have hmb:=hm.b
 clear eY eY' eM hm em
 generalize(kE (K:Int) g o).L=M at*
 generalize Z1++uv (min g.lo o.lo)++uv (max g.hi o.hi)=Z3 at*
 have wl:=jr wb Z3 (M.length:Int) qe H12 h12.w
 have h13:=h12.setW (Z3++[(M.length:Int)])
 generalize H12.put wb 0 (Wc (Z3++[(M.length:Int)]))=H13 at*
 obtain⟨H14,v1,v2⟩:=qt5 rb sb wb k1 k2 3 QA QB QA.length QB.length M qe hmb hmn M 0 0 (Z3++[(M.length:Int)]) H13 rfl qg (jE hmn) qi h13
 refine⟨H14,?_,v2⟩
 have wM:IntKind.u8.wrap (M.length:Int)=(M.length:Int):=zy qe qe
 have b20:B54_20 (.ptr wb 0 0) (.ptr rb 0 0) (.ptr sb 0 0) (S 2 1 (LI .u64 (nz M))) H12=some (.sc (.int .i64 0),H14):=by
  have v1:B54_23 (.ptr wb 0 0) (.ptr rb 0 0) (.ptr sb 0 0) (.int .u64 0) (S 3 1 (LI .u64 (nz M))) (.int .i64 (M.length:Int)) (.int .i64 0) H13=some (.sc (.int .i64 0),H14):=v1
  rw[qvi]
  simp[yi,wM,wl,v1]
 rw[b20]at gk
 have em1:min (g.lo:Int) (o.lo:Int)=((min g.lo o.lo:Nat):Int):=qe
 have em2:max (g.hi:Int) (o.hi:Int)=((max g.hi o.hi:Nat):Int):=qe
 have b9:B54_9 (.ptr wb 0 0) (.ptr rb 0 0) (.ptr sb 0 0) (.int .u8 (K:Int)) (.int .i64 7) H4=some (.sc (.int .i64 0),H14):=by
  have t3:run cxX 60 [.ptr rb 0 0,.sc (.int .u64 18446744073709551615)] H4=some (.sc (.int .u64 (g.lo:Int)),H5):=t3
  have t4:run cxX 60 [.ptr sb 0 0,.sc (.int .u64 18446744073709551615)] H5=some (.sc (.int .u64 (o.lo:Int)),H6):=t4
  have t6:run cxX 60 [.ptr rb 0 0,.sc (.int .u64 18446744073709551615)] H7=some (.sc (.int .u64 (g.hi:Int)),H8):=t6
  have t7:run cxX 60 [.ptr sb 0 0,.sc (.int .u64 18446744073709551615)] H8=some (.sc (.int .u64 (o.hi:Int)),H9):=t7
  have gk:∀ka kb,B54_16 (.ptr wb 0 0) (.ptr rb 0 0) (.ptr sb 0 0) (.int .u8 (K:Int)) (S ka 1 (LI .u64 (nz g.L))) (S kb 1 (LI .u64 (nz o.L))) (S 2 1 []) H12=some (.sc (.int .i64 0),H14):=gk
  rw[qly]
  clear s2 s3 h h1 h2 h3 h5 h6 h7 h8 h9 h10 h11 h12 h13 n1 n2 n3 n4 n5 n6 f1 f2 c1 c2 d1 d2 B1 B2 byq len us
  generalize((min g.lo o.lo:Nat):Int)=A1 at*
  generalize((max g.hi o.hi:Nat):Int)=A2 at*
  simp[t3,t4,em1,t5,t6,t7,em2,t8,k1a,k2a,gk]
 rw[b9]at s1
 rw[E54]
 simp[t1,t2,er1,er2,fi,wy]
 exact s1
theorem qmy(n:Int)(h:0<=n)(hp:Hp):run cxX 15 [.sc (.int .i64 n)] hp=some (.ptr hp.next 0 0,hp.new [.sc (.int .i64 0),.sc (.int .i64 n)]):=by
 have m1:max n 0=n:=qe
 rw[E15]
 simp[m1]
theorem qig(c:Nat)(u n:Int)(hp:Hp)(h:hp.rd c 0=some [.sc (.int .i64 u),.sc (.int .i64 n)]):run cxX 17 [.ptr c 0 0] hp=some (.sc (.int .i64 u),hp):=by
 rw[E17]
 simp[h,ql]
theorem Zf{x:SkN}{v:AV}(hv:jU x v)(f:Fine x)(h64:Vg x)(k:Nat)(M:AV)(hro:AI.ro M=M)(hp hp1:Hp)(mt:run cxX 30 [M,.sc (.int .i64 (64*((qy x).length:Int)+16384))] hp=some (.sc (.int .i64 14),hp1)):
 run cxX 21 [.sc (.int .u8 x.kind),S k 1 (LI .u8 (qy x)),M] hp=some (.tup [.agg xZ,.sc (.int .i64 14)],hp1):=by
 have nn:=Zu hv f h64
 have hk:=f.w.kind
 have kd:=(qZ.mp f.c).1
 have rm:=YF (qy x).length qe hp0
 have dlen:decide ((1048576:Int)<((qy x).length:Int))=false:=decide_eq_false qe
 have dk:decide ((6:Int)<=x.kind)=false:=decide_eq_false qe
 rw[E21]
 generalize qy x=Y at*
 simp[dk,dlen,rm,hro,mt]
 rfl
end Go.Proofs.YtmajcennjgjlnaaGreat.AI
