/- Texts that the proof of FuseSees rests on, part 10. -/
import Derived.Test.YtmajcennjgjlnaaGreatQFuseSees9
import Derived.DataElems
namespace Go.Proofs.YtmajcennjgjlnaaGreat.AI
open Go
set_option linter.unusedVariables false
set_option linter.unusedSimpArgs false
set_option maxRecDepth 100000
set_option maxHeartbeats 0
theorem qow(b k:Nat)(l:List Int)(hl:l.length<=1000000000)(h8:By l)(n:Nat)(hn:n<=255)(rest:List Int):∀(r acc:List Nat) (pr p:Nat) (hp:Hp),acc.length+r.length=n->zO (pr::r)->(∀x∈r,x<18446744073709551616)->l.drop p=jO pr r++rest->p<=l.length->hp.rd b 0=some (Rc k l p 0)->
 ∃hp',B118_4 (.ptr b 0 0) (S 2 1 (LI .u64 (nz acc))) (.int .u64 (pr:Int)) (.int .i64 (n:Int)) (.int .i64 (acc.length:Int)) hp=some (S 2 1 (LI .u64 (nz (acc++r))),hp')/\hp'.rd b 0=some (Rc k l (p+(jO pr r).length) 0)/\hp'.next=hp.next/\∀a,a≠b->hp'.get a=hp.get a:=by
 intro r
 induction r with
 |nil=>
  intro acc pr p hp ha hf h64 hd hpl hr
  have e:acc.length=n:=ha
  refine⟨hp,?_,hr,rfl,fun _ _=>rfl⟩
  have hlt:¬((acc.length:Int)<(n:Int)):=qe
  have hlt':¬(acc.length<n):=qe
  rw[znz,qfp]
  generalize nz acc=L0
  simp[hlt,hlt']
 |cons x r ih=>
  intro acc pr p hp ha hf h64 hd hpl hr
  simp only[zna]at ha
  have hx:=h64 x qg
  have hle:pr<=x:=hf.1
  have eg:jO pr (x::r)=uv (x-pr)++jO x r:=rfl
  rw[eg,znv]at hd
  have t1:=zd b k l hl h8 (most:=18446744073709551615) hd qe qh hp hpl hr
  have d2:=qM hd
  have q2:=qX hpl hd
  have r1:=qr hp b (Rc k l (p+(uv (x-pr)).length) 0)
  have er:=qW b k l _ 0 _ r1
  obtain⟨hp',a1,a2,a3,a4⟩:=ih (acc++[x]) x _ (hp.put b 0 (Rc k l (p+(uv (x-pr)).length) 0)) qi hf.2 (fun y hy=>h64 y (by simp[hy])) d2 q2 r1
  refine⟨hp',?_,by rw[a2,eg,zm9,zoz],a3,fun a h=>by rw[a4 a h];simp[Hp.put,h]⟩
  have ap:=Qz .u64 (nz acc) 2 (.inr rfl) 8 qh (x:Int) qi
  rw[<-yW]at ap
  have w1:IntKind.u64.wrap ((pr:Int)+((x-pr:Nat):Int))=(x:Int):=by rw[qu]<;>omega
  have w2:IntKind.i64.wrap ((acc.length:Int)+1)=(((acc++[x]).length:Nat):Int):=by
   have e:(acc++[x]).length=acc.length+1:=qg
   rw[e,qm]<;>omega
  have hlt:(acc.length:Int)<(n:Int):=qe
  have hlt':acc.length<n:=qe
  have ea:acc++x::r=acc++[x]++r:=qg
  rw[ea,<-a1,qfp]
  generalize hp.put b 0 (Rc k l (p+(uv (x-pr)).length) 0)=H1 at*
  generalize(((acc++[x]).length:Nat):Int)=N1 at*
  generalize nz (acc++[x])=L1 at*
  generalize nz acc=L0 at*
  generalize((x-pr:Nat):Int)=G at*
  simp at t1
  simp[hlt,hlt',t1,w1,er,yC,ap,w2]
theorem qcn(b k:Nat)(l:List Int)(hl:l.length<=1000000000)(h8:By l)(L:List Nat)(hL:L.length<=255)(hf:zO L)(h64:∀x∈L,x<18446744073709551616)(p:Nat)(rest:List Int)(hd:l.drop p=(L.length:Int)::(jO 0 L++rest))(hp:Hp)(hpl:p<=l.length)(hr:hp.rd b 0=some (Rc k l p 0)):
 ∃hp',run cxX 118 [.ptr b 0 0] hp=some (S 2 1 (LI .u64 (nz L)),hp')/\hp'.rd b 0=some (Rc k l (p+1+(jO 0 L).length) 0)/\hp'.next=hp.next/\∀a,a≠b->hp'.get a=hp.get a:=by
 have t1:=zm b k l hl hd hp hpl hr
 have d2:l.drop (p+1)=jO 0 L++rest:=by rw[<-List.drop_drop,hd];rfl
 have q2:p+1<=l.length:=by
  have:(l.drop p).length=l.length-p:=zo7
  rw[hd]at this
  simp only[zna]at this
  omega
 obtain⟨hp',a1,a2,a3,a4⟩:=qow b k l hl h8 L.length hL rest L [] 0 (p+1) (hp.put b 0 (Rc k l (p+1) 0)) qg (jI hf) h64 d2 q2 (qr _ _ _)
 refine⟨hp',?_,a2,a3,fun a h=>by rw[a4 a h];simp[Hp.put,h]⟩
 have a1:B118_4 (.ptr b 0 0) (S 2 1 []) (.int .u64 0) (.int .i64 (L.length:Int)) (.int .i64 0) (hp.put b 0 (Rc k l (p+1) 0))=some (S 2 1 (LI .u64 (nz L)),hp'):=a1
 have w:IntKind.i64.wrap (L.length:Int)=(L.length:Int):=qm qe qe
 rw[E118]
 generalize nz L=L0 at*
 simp[t1,jW,w,a1]
def ZC:List Int->List Int
 |[]=>[]
 |x::r=>uv x.toNat++ZC r
theorem qx1:∀l,By (ZC l)
 |[]=>By.nil
 |_::r=>By.app (By.uv _) (qx1 r)
section
variable (rb sb wb k1 k2:Nat)(L1 L2:List Int)(hl1:L1.length<=1000000000)(hl2:L2.length<=1000000000)(B1:By L1)(B2:By L2)(v7:Value)
include hl1 hl2 B1 B2
theorem qr5(s1 s2:List Int):∀(ra sa:List Int) (i p1 p2:Nat) (Z:List Int) (hp:Hp),ra.length=sa.length->i+ra.length=7->kr ra->kr sa->L1.drop p1=ZC ra++s1->L2.drop p2=ZC sa++s2->p1<=L1.length->p2<=L2.length->Z.length<=1000+10*i->RW3 hp rb sb wb k1 k2 L1 L2 p1 p2 Z->
 ∃hp',B54_9 (.ptr wb 0 0) (.ptr rb 0 0) (.ptr sb 0 0) v7 (.int .i64 (i:Int)) hp=B54_9 (.ptr wb 0 0) (.ptr rb 0 0) (.ptr sb 0 0) v7 (.int .i64 7) hp'/\
  RW3 hp' rb sb wb k1 k2 L1 L2 (p1+(ZC ra).length) (p2+(ZC sa).length) (Z++ZC (jY ra sa))/\(Z++ZC (jY ra sa)).length<=1070:=by
 intro ra
 induction ra with
 |nil=>
  intro sa i p1 p2 Z hp hlen hi ua ub d1 d2 q1 q2 hZ h
  have e1:sa=[]:=znp.mp (by simpa using hlen.symm)
  subst e1
  have e2:i=7:=hi
  subst e2
  refine⟨hp,rfl,?_,?_⟩
  ·show RW3 hp rb sb wb k1 k2 L1 L2 p1 p2 (Z++[])
   rw[znz]
   exact h
  ·show(Z++[]).length<=1070
   rw[znz]
   omega
 |cons x ra ih=>
  intro sa i p1 p2 Z hp hlen hi ua ub d1 d2 q1 q2 hZ h
  cases sa with
  |nil=>simp at hlen
  |cons y sa=>
   have hx:=ua x qg
   have hy:=ub y qg
   have hm:=yd hx hy
   unfold zy at hm
   simp only[zna]at hlen hi
   have d1:L1.drop p1=uv x.toNat++(ZC ra++s1):=by rw[d1,<-List.append_assoc];rfl
   have d2:L2.drop p2=uv y.toNat++(ZC sa++s2):=by rw[d2,<-List.append_assoc];rfl
   have t1:=zd rb k1 L1 hl1 B1 (most:=18446744073709551615) d1 qe qh hp q1 h.r
   have h1:=h.setR (p1+(uv x.toNat).length)
   have d1':=qM d1
   have q1':=qX q1 d1
   generalize hp.put rb 0 (Rc k1 L1 (p1+(uv x.toNat).length) 0)=H1 at*
   have t2:=zd sb k2 L2 hl2 B2 (most:=18446744073709551615) d2 qe qh H1 q2 h1.s
   have h2:=h1.setS (p2+(uv y.toNat).length)
   have d2':=qM d2
   have q2':=qX q2 d2
   generalize H1.put sb 0 (Rc k2 L2 (p2+(uv y.toNat).length) 0)=H2 at*
   have wl:(uv (zi x y).toNat).length<=10:=qD qe
   have wu:=zY wb (zi x y).toNat Z qe qe H2 h2.w
   have h3:=h2.setW (Z++uv (zi x y).toNat)
   generalize H2.put wb 0 (Wc (Z++uv (zi x y).toNat))=H3 at*
   obtain⟨H4,z1,z2,z3⟩:=ih sa (i+1) _ _ (Z++uv (zi x y).toNat) H3 qe qe (fun n hn=>ua n (by simp[hn])) (fun n hn=>ub n (by simp[hn])) d1' d2' q1' q2' (by rw[zm9];omega) h3
   have e1:ZC (x::ra)=uv x.toNat++ZC ra:=rfl
   have e2:ZC (y::sa)=uv y.toNat++ZC sa:=rfl
   have e3:ZC (jY (x::ra) (y::sa))=uv (zi x y).toNat++ZC (jY ra sa):=rfl
   have m1:p1+(uv x.toNat++ZC ra).length=p1+(uv x.toNat).length+(ZC ra).length:=by rw[zm9,zoz]
   have m2:p2+(uv y.toNat++ZC sa).length=p2+(uv y.toNat).length+(ZC sa).length:=by rw[zm9,zoz]
   rw[e1,e2,e3,m1,m2,<-List.append_assoc]
   refine⟨H4,?_,z2,z3⟩
   have pl:=yP x y hx hy
   have w1:IntKind.u32.wrap x=x:=qK hx.1 hx.2
   have w2:IntKind.u32.wrap y=y:=qK hy.1 hy.2
   have w3:IntKind.u64.wrap (zi x y)=zi x y:=qu qe qe
   have w4:IntKind.i64.wrap ((i:Int)+1)=((i+1:Nat):Int):=qj
   have i7:(i:Int)<7:=qe
   have i7':i<7:=qe
   have t1':run cxX 60 [.ptr rb 0 0,.sc (.int .u64 18446744073709551615)] hp=some (.sc (.int .u64 x),H1):=by rw[zox hx.1]at t1;exact t1
   have t2':run cxX 60 [.ptr sb 0 0,.sc (.int .u64 18446744073709551615)] H1=some (.sc (.int .u64 y),H2):=by rw[zox hy.1]at t2;exact t2
   rw[zox hm.1]at wu
   clear t1 t2 z2 z3 h h1 h2 h3 ih d1 d2 d1' d2' wl hZ e1 e2 e3
   rw[<-z1,ql9]
   generalize((i+1:Nat):Int)=I at*
   generalize zi x y=P at*
   simp[i7,i7',t1',t2',jK,w1,w2,pl,yz,w3,wu,w4]
end
section
variable (X0 X1 X2:AV)(K:Nat)(hK:K<=255)(hp:Hp)
include hK
theorem zgb:∀(n:Nat) (A B out:List Nat) (ka kb:Nat),A.length+B.length<=n->n<=100000->out.length<=K->
 B54_16 X0 X1 X2 (.int .u8 (K:Int)) (S ka 1 (LI .u64 (nz A))) (S kb 1 (LI .u64 (nz B))) (S 2 1 (LI .u64 (nz out))) hp=B54_20 X0 X1 X2 (S 2 1 (LI .u64 (nz ((out++mk A B).take K)))) hp:=by
 have wK:IntKind.i64.wrap (K:Int)=(K:Int):=qm qe qe
 intro n
 induction n with
 |zero=>
  intro A B out ka kb hn hn2 ho
  have e1:A=[]:=znp.mp qe
  have e2:B=[]:=znp.mp qe
  subst e1;subst e2
  rw[ZQ,znz,zn2 ho,KG]
  have w0:IntKind.i64.wrap 0=0:=qh
  by_cases hlt:out.length<K
  ·have hlt':(out.length:Int)<(K:Int):=qe
   simp[jW,wK,hlt,hlt',nz,LI,w0]
  ·have hlt':¬((out.length:Int)<(K:Int)):=qe
   simp[jW,wK,hlt,hlt',nz,LI]
 |succ n ih=>
  intro A B out ka kb hn hn2 ho
  by_cases hlt:out.length<K
  ·have hlt':(out.length:Int)<(K:Int):=qe
   have ap:=fun(v:Nat)=>Qz .u64 (nz out) 2 (.inr rfl) 8 qh (v:Int) qi
   have es:∀v:Nat,nz out++[(v:Int)]=nz (out++[v]):=fun v=>by rw[yW]
   simp only[es]at ap
   have gs0:∀(v:Value),ql [.sc v] 0=some v:=fun _=>rfl
   have hsum:IntKind.i64.wrap ((A.length:Int)+(B.length:Int))=((A.length+B.length:Nat):Int):=qj
   have nzl:∀l:List Nat,(LI .u64 (nz l)).length=l.length:=fun l=>qg
   have ix:∀(k x:Nat) (r:List Nat),jE 1 (S k 1 (LI .u64 (nz (x::r)))) (.int .i64 0)=some [.sc (.int .u64 (x:Int))]:=fun k x r=>by simp[nz,LI]
   have sl:∀(k x:Nat) (r:List Nat),∃t,yb 1 (S k 1 (LI .u64 (nz (x::r)))) (some (.int .i64 1)) none none=some (S t 1 (LI .u64 (nz r))):=fun k x r=>
    ⟨_,xa k (LI .u64 (nz (x::r))) .i64 1 qh (by rw[nzl,zna];omega)⟩
   --one more of the first,of the second
   have g18:∀(x:Nat) (A':List Nat),A=x::A'->∃t,B54_18 X0 X1 X2 (.int .u8 (K:Int)) (S ka 1 (LI .u64 (nz A))) (S kb 1 (LI .u64 (nz B))) (S 2 1 (LI .u64 (nz out))) hp=B54_16 X0 X1 X2 (.int .u8 (K:Int)) (S t 1 (LI .u64 (nz A'))) (S kb 1 (LI .u64 (nz B))) (S 2 1 (LI .u64 (nz (out++[x])))) hp:=by
    intro x A' e
    subst e
    obtain⟨t,et⟩:=sl (rk ka) x A'
    have ex:=ix (rk ka) x A'
    refine⟨t,?_⟩
    rw[qvv]
    generalize nz (x::A')=O3 at*
    simp[-Kl,ex,gs0,yC,ap,et]
   have g19:∀(x:Nat) (B':List Nat),B=x::B'->∃t,B54_19 X0 X1 X2 (.int .u8 (K:Int)) (S ka 1 (LI .u64 (nz A))) (S kb 1 (LI .u64 (nz B))) (S 2 1 (LI .u64 (nz out))) hp=B54_16 X0 X1 X2 (.int .u8 (K:Int)) (S ka 1 (LI .u64 (nz A))) (S t 1 (LI .u64 (nz B'))) (S 2 1 (LI .u64 (nz (out++[x])))) hp:=by
    intro x B' e
    subst e
    obtain⟨t,et⟩:=sl (rk kb) x B'
    have ex:=ix (rk kb) x B'
    refine⟨t,?_⟩
    rw[qvu]
    generalize nz (x::B')=O3 at*
    simp[-Kl,ex,gs0,yC,ap,et]
   have g16:A.length+B.length≠0->B54_16 X0 X1 X2 (.int .u8 (K:Int)) (S ka 1 (LI .u64 (nz A))) (S kb 1 (LI .u64 (nz B))) (S 2 1 (LI .u64 (nz out))) hp=B54_17 X0 X1 X2 (.int .u8 (K:Int)) (S ka 1 (LI .u64 (nz A))) (S kb 1 (LI .u64 (nz B))) (S 2 1 (LI .u64 (nz out))) hp:=by
    intro h0
    have hs:(0:Int)<((A.length+B.length:Nat):Int):=qe
    rw[KG]
    generalize((A.length+B.length:Nat):Int)=Q at*
    simp[jW,wK,hlt,hlt',hsum,hs]
   cases A with
   |nil=>
    cases B with
    |nil=>exact(by
     have:=ih [] [] out ka kb qg qe ho
     exact this)
    |cons y B=>
     simp only[zna,zns]at hn
     obtain⟨t,e19⟩:=g19 y B rfl
     rw[g16 qg,ZQ,zre]
     have z:=ih [] B (out++[y]) ka t (by simp only[zns];omega) qe qi
     rw[ZQ]at z
     rw[<-z,<-e19,JP]
     have b1:¬(((B.length+1:Nat):Int)=0):=qe
     have b2:(LI IntKind.u64 (nz (y::B))).length=B.length+1:=qg
     have b3:(LI IntKind.u64 (nz [])).length=0:=rfl
     generalize LI IntKind.u64 (nz (y::B))=Y at*
     generalize LI IntKind.u64 (nz [])=X at*
     simp[b2,b3,b1]
   |cons x A=>
    cases B with
    |nil=>
     simp only[zna,zns]at hn
     obtain⟨t,e18⟩:=g18 x A rfl
     rw[g16 qg,Qo,zre]
     have z:=ih A [] (out++[x]) t kb (by simp only[zns];omega) qe qi
     rw[Qo]at z
     rw[<-z,<-e18,JP]
     have b3:(LI IntKind.u64 (nz [])).length=0:=rfl
     generalize LI IntKind.u64 (nz (x::A))=Y at*
     generalize LI IntKind.u64 (nz [])=X at*
     simp[b3]
    |cons y B=>
     simp only[zna]at hn
     have b1:¬(((B.length+1:Nat):Int)=0):=qe
     have b2:(LI IntKind.u64 (nz (y::B))).length=B.length+1:=qg
     have b3:(LI IntKind.u64 (nz (x::A))).length=A.length+1:=qg
     have b4:(0:Int)<((A.length+1:Nat):Int):=qe
     have ex:=ix (rk ka) x A
     have ey:=ix (rk kb) y B
     by_cases hyx:y<x
     ·obtain⟨t,e19⟩:=g19 y B rfl
      rw[g16 qg,xE,if_pos hyx,zre]
      have z:=ih (x::A) B (out++[y]) ka t (by simp only[zna];omega) qe qi
      rw[<-z,<-e19,JP]
      have q1:¬(x<=y):=qe
      have q2:¬((x:Int)<=(y:Int)):=qe
      clear z e19 g16 g18 g19 ih
      generalize LI IntKind.u64 (nz (y::B))=Y at*
      generalize LI IntKind.u64 (nz (x::A))=X at*
      generalize((B.length+1:Nat):Int)=N1 at*
      generalize((A.length+1:Nat):Int)=N2 at*
      simp[-Kl,b2,b3,b1,b4,ex,ey,gs0,q1,q2]
     ·obtain⟨t,e18⟩:=g18 x A rfl
      rw[g16 qg,xE,if_neg hyx,zre]
      have z:=ih A (y::B) (out++[x]) t kb (by simp only[zna];omega) qe qi
      rw[<-z,<-e18,JP]
      have q1:x<=y:=qe
      have q2:(x:Int)<=(y:Int):=qe
      clear z e18 g16 g18 g19 ih
      generalize LI IntKind.u64 (nz (y::B))=Y at*
      generalize LI IntKind.u64 (nz (x::A))=X at*
      generalize((B.length+1:Nat):Int)=N1 at*
      generalize((A.length+1:Nat):Int)=N2 at*
      simp[-Kl,b2,b3,b1,b4,ex,ey,gs0,q1,q2]
  ·have hlt':¬((out.length:Int)<(K:Int)):=qe
   have ex:(out++mk A B).take K=out:=by
    have:K=out.length:=qe
    rw[this,zrq]
   rw[ex,KG]
   simp[jW,wK,hlt,hlt']
end
theorem WZ:∀(l:List Nat) (p:Nat),(∀x∈l,x<18446744073709551616)->(jO p l).length<=10*l.length
 |[],_,_=>by simp[jO]
 |x::r,p,h=>by
  have ih:=WZ r x (fun y hy=>h y (by simp[hy]))
  have hx:=h x qg
  have hu:=qD (n:=x-p) qe
  show(uv (x-p)++jO x r).length<=_
  rw[zm9,zna]
  omega
theorem qug(rb sb wb k1 k2 k:Nat)(L1 L2:List Int)(p1 p2:Nat)(L:List Nat)(hL:L.length<=255)(h64:∀x∈L,x<18446744073709551616)(hf:zO L):∀(r:List Nat) (i pr:Nat) (Z:List Int) (hp:Hp),L.drop i=r->i+r.length=L.length->zO (pr::r)->Z.length<=2000+10*i->RW3 hp rb sb wb k1 k2 L1 L2 p1 p2 Z->
 ∃hp',B54_23 (.ptr wb 0 0) (.ptr rb 0 0) (.ptr sb 0 0) (.int .u64 (pr:Int)) (S k 1 (LI .u64 (nz L))) (.int .i64 (L.length:Int)) (.int .i64 (i:Int)) hp=some (.sc (.int .i64 0),hp')/\RW3 hp' rb sb wb k1 k2 L1 L2 p1 p2 (Z++jO pr r):=by
 intro r
 induction r with
 |nil=>
  intro i pr Z hp h hil hn hZ hR
  have e:i=L.length:=by simpa using hil
  subst e
  refine⟨hp,?_,by rw[show jO pr []=[]from rfl,znz];exact hR⟩
  have er1:=qW rb k1 _ _ _ hp hR.r
  have er2:=qW sb k2 _ _ _ hp hR.s
  have fi:=yc
  rw[qd5]
  simp[er1,er2,fi]
 |cons x r ih=>
  intro i pr Z hp h hil hn hZ hR
  obtain⟨e1,e2,hi,e3⟩:=qt h
  simp only[zna]at hil
  have hx:x<18446744073709551616:=h64 x (by rw[<-e3];exact znr _)
  have hle:pr<=x:=hn.1
  have hu:=qD (n:=x-pr) qe
  have wu:=zY wb (x-pr) Z qe qe hp hR.w
  have h1:=hR.setW (Z++uv (x-pr))
  generalize hp.put wb 0 (Wc (Z++uv (x-pr)))=H1 at*
  obtain⟨H2,a1,a2⟩:=ih (i+1) x (Z++uv (x-pr)) H1 e2 qe hn.2 (by rw[zm9];omega) h1
  have eg:jO pr (x::r)=uv (x-pr)++jO x r:=rfl
  refine⟨H2,?_,by rw[eg,<-List.append_assoc];exact a2⟩
  have gs0:∀(v:Value),ql [.sc v] 0=some v:=fun _=>rfl
  have en:∀h,(nz L)[i]'h=(x:Int):=fun h=>by simp[nz,e3]
  have hi':(i:Int)<(L.length:Int):=qe
  have w1:IntKind.u64.wrap ((x:Int)-(pr:Int))=((x-pr:Nat):Int):=by rw[qu]<;>omega
  have w2:IntKind.i64.wrap ((i:Int)+1)=((i+1:Nat):Int):=qj
  rw[<-a1,qd5]
  generalize((i+1:Nat):Int)=I at*
  generalize((x-pr:Nat):Int)=G at*
  simp[hi,hi',gs0,en,w1,wu,w2]
def gSu(g:GN):List Int:=[g.M,g.e0,g.e1,g.e2,g.e3,g.e4,g.e5]
theorem JI(K:Int)(g:GN):yE K g=K::(ZC (gSu g)++(uv g.lo++(uv g.hi++((g.L.length:Int)::(jO 0 g.L++[]))))):=by
 unfold yE
 simp[ZC,gSu]
structure GFi (g : GN) : Prop where
 u:kr (gSu g)
 lo:g.lo<18446744073709551616
 hi:g.hi<18446744073709551616
 l:g.L.length<=16
 n:zO g.L
 b:∀x∈g.L,x<18446744073709551616
theorem qy5(hp:Hp)(rb sb wb k1 k2 K:Nat)(g o:GN)(hK:K<=16)(hg:GFi g)(ho:GFi o)(hm:GFi (kG (K:Int) g o))
 (h:RW3 hp rb sb wb k1 k2 (yE (K:Int) g) (yE (K:Int) o) 0 0 []):
 ∃hp',run cxX 54 [.ptr wb 0 0,.ptr rb 0 0,.ptr sb 0 0] hp=some (.sc (.int .i64 0),hp')/\
  RW3 hp' rb sb wb k1 k2 (yE (K:Int) g) (yE (K:Int) o) (yE (K:Int) g).length (yE (K:Int) o).length (yE (K:Int) (kG (K:Int) g o)):=by
 have us:∀l:List Int,kr l->(ZC l).length<=10*l.length:=by
  intro l
  induction l with
  |nil=>intro _;simp[ZC]
  |cons x r ih=>
   intro hu
   have hx:=hu x qg
   have hw:=qD (n:=x.toNat) qe
   have:=ih (fun n hn=>hu n (by simp[hn]))
   show(uv x.toNat++ZC r).length<=_
   rw[zm9,zna]
   omega
 have len:∀q:GN,GFi q->(yE (K:Int) q).length<=1000:=by
  intro q hq
  have a1:=us _ hq.u
  have a2:=qD (n:=q.lo) hq.lo
  have a3:=qD (n:=q.hi) hq.hi
  have a4:=WZ q.L 0 hq.b
  have a5:=hq.l
  have a6:(gSu q).length=7:=rfl
  rw[JI]
  simp only[zna,zm9,zns]
  omega
 have lg:=len g hg
 have lo:=len o ho
 have byq:∀q:GN,GFi q->By (yE (K:Int) q):=by
  intro q hq
  have:=hq.l
  rw[JI]
  exact By.cons qe (By.app (qx1 _) (By.app (By.uv _) (By.app (By.uv _) (By.cons qe (By.app (qra _ _) By.nil)))))
 have B1:=byq g hg
 have B2:=byq o ho
 have d1:=JI (K:Int) g
 have d2:=JI (K:Int) o
 generalize yE (K:Int) g=QA at*
 generalize yE (K:Int) o=QB at*
 have c1:QA.drop 0=(K:Int)::(ZC (gSu g)++(uv g.lo++(uv g.hi++((g.L.length:Int)::(jO 0 g.L++[]))))):=d1
 have c2:QB.drop 0=(K:Int)::(ZC (gSu o)++(uv o.lo++(uv o.hi++((o.L.length:Int)::(jO 0 o.L++[]))))):=d2
 have t1:=zm rb k1 QA qe c1 hp (zn1 _) h.r
 rw[znk]at t1
 have h1:=h.setR 1
 generalize hp.put rb 0 (Rc k1 QA 1 0)=H1 at*
 have t2:=zm sb k2 QB qe c2 H1 (zn1 _) h1.s
 rw[znk]at t2
 have h2:=h1.setS 1
 generalize H1.put sb 0 (Rc k2 QB 1 0)=H2 at*
 have er1:=qW rb k1 _ _ _ H2 h2.r
 have er2:=qW sb k2 _ _ _ H2 h2.s
 have fi:=yc
 have wy:run cxX 110 [.ptr wb 0 0,.sc (.int .u8 (K:Int))] H2=some (.tup [],H2.put wb 0 (Wc [(K:Int)])):=ju wb [] K qg H2 h2.w
 have h3:=h2.setW [(K:Int)]
 generalize H2.put wb 0 (Wc [(K:Int)])=H3 at*
 have f1:QA.drop 1=ZC (gSu g)++(uv g.lo++(uv g.hi++((g.L.length:Int)::(jO 0 g.L++[])))):=by rw[d1];rfl
 have f2:QB.drop 1=ZC (gSu o)++(uv o.lo++(uv o.hi++((o.L.length:Int)::(jO 0 o.L++[])))):=by rw[d2];rfl
 have l1:1<=QA.length:=by rw[d1];simp
 have l2:1<=QB.length:=by rw[d2];simp
 obtain⟨H4,s1,s2,s3⟩:=qr5 rb sb wb k1 k2 QA QB qe qe B1 B2 (.int .u8 (K:Int)) _ _ (gSu g) (gSu o) 0 1 1 [(K:Int)] H3 rfl rfl hg.u ho.u f1 f2 l1 l2 qg h3
 have em:jY (gSu g) (gSu o)=gSu (kG (K:Int) g o):=rfl
 rw[em]at s2 s3
 have n1:=qM f1
 have m1:=qX l1 f1
 have n2:=qM f2
 have m2:=qX l2 f2
 generalize 1+(ZC (gSu g)).length=p1 at*
 generalize 1+(ZC (gSu o)).length=p2 at*
 generalize hZ1:[(K:Int)]++ZC (gSu (kG (K:Int) g o))=Z1 at*
 have hlo:=hg.lo
 have hlo':=ho.lo
 have hhi:=hg.hi
 have hhi':=ho.hi
 --the least
 have t3:=zd rb k1 QA qe B1 (most:=18446744073709551615) n1 qe qh H4 m1 s2.r
 have h5:=s2.setR (p1+(uv g.lo).length)
 have n3:=qM n1
 have m3:=qX m1 n1
 generalize H4.put rb 0 (Rc k1 QA (p1+(uv g.lo).length) 0)=H5 at*
 have t4:=zd sb k2 QB qe B2 (most:=18446744073709551615) n2 qe qh H5 m2 h5.s
 have h6:=h5.setS (p2+(uv o.lo).length)
 have n4:=qM n2
 have m4:=qX m2 n2
 generalize H5.put sb 0 (Rc k2 QB (p2+(uv o.lo).length) 0)=H6 at*
 have u1:=qD (n:=min g.lo o.lo) qe
 have t5:=zY wb (min g.lo o.lo) Z1 qe qe H6 h6.w
 have h7:=h6.setW (Z1++uv (min g.lo o.lo))
 generalize H6.put wb 0 (Wc (Z1++uv (min g.lo o.lo)))=H7 at*
 --the greatest
 have t6:=zd rb k1 QA qe B1 (most:=18446744073709551615) n3 qe qh H7 m3 h7.r
 have h8:=h7.setR (p1+(uv g.lo).length+(uv g.hi).length)
 have n5:=qM n3
 have m5:=qX m3 n3
 generalize H7.put rb 0 (Rc k1 QA (p1+(uv g.lo).length+(uv g.hi).length) 0)=H8 at*
 have t7:=zd sb k2 QB qe B2 (most:=18446744073709551615) n4 qe qh H8 m4 h8.s
 have h9:=h8.setS (p2+(uv o.lo).length+(uv o.hi).length)
 have n6:=qM n4
 have m6:=qX m4 n4
 generalize H8.put sb 0 (Rc k2 QB (p2+(uv o.lo).length+(uv o.hi).length) 0)=H9 at*
 have u2:=qD (n:=max g.hi o.hi) qe
 have t8:=zY wb (max g.hi o.hi) (Z1++uv (min g.lo o.lo)) qe (by rw[zm9];omega) H9 h9.w
 have h10:=h9.setW (Z1++uv (min g.lo o.lo)++uv (max g.hi o.hi))
 generalize H9.put wb 0 (Wc (Z1++uv (min g.lo o.lo)++uv (max g.hi o.hi)))=H10 at*
 generalize p1+(uv g.lo).length+(uv g.hi).length=p3 at*
 generalize p2+(uv o.lo).length+(uv o.hi).length=p4 at*
 have x1:p3+1+(jO 0 g.L).length=QA.length:=by
  have:(QA.drop p3).length=QA.length-p3:=zo7
  rw[n5]at this
  simp only[zna,zm9,zns]at this
  omega
 have x2:p4+1+(jO 0 o.L).length=QB.length:=by
  have:(QB.drop p4).length=QB.length-p4:=zo7
  rw[n6]at this
  simp only[zna,zm9,zns]at this
  omega
 obtain⟨H11,k1a,k1b,k1c,k1d⟩:=qcn rb k1 QA qe B1 g.L (by have:=hg.l;omega) hg.n hg.b p3 [] n5 H10 m5 h10.r
 rw[x1]at k1b
 have h11:RW3 H11 rb sb wb k1 k2 QA QB QA.length p4 (Z1++uv (min g.lo o.lo)++uv (max g.hi o.hi)):=
  h10.fr qe k1b (by rw[xO (k1d sb (fun e=>h10.rs e.symm))];exact h10.s) (by rw[xO (k1d wb (fun e=>h10.rw e.symm))];exact h10.w)
 obtain⟨H12,k2a,k2b,k2c,k2d⟩:=qcn sb k2 QB qe B2 o.L (by have:=ho.l;omega) ho.n ho.b p4 [] n6 H11 m6 h11.s
 rw[x2]at k2b
 have h12:RW3 H12 rb sb wb k1 k2 QA QB QA.length QB.length (Z1++uv (min g.lo o.lo)++uv (max g.hi o.hi)):=
  h11.fr qe (by rw[xO (k2d rb h11.rs)];exact h11.r) k2b (by rw[xO (k2d wb (fun e=>h11.sw e.symm))];exact h11.w)
 have gk:=fun ka kb=>zgb (.ptr wb 0 0) (.ptr rb 0 0) (.ptr sb 0 0) K qe H12 (g.L.length+o.L.length) g.L o.L [] ka kb (znd _) (by have:=hg.l;have:=ho.l;omega) (zn1 _)
 have eM:(kG (K:Int) g o).L=([]++mk g.L o.L).take K:=by
  show(mk g.L o.L).take ((K:Int)).toNat=_
  rw[znj,zn4]
 rw[<-eM]at gk
 have hz:(Z1++uv (min g.lo o.lo)++uv (max g.hi o.hi)).length<=1100:=by simp only[zm9];omega
 have eY:=JI (K:Int) (kG (K:Int) g o)
 have eY':yE (K:Int) (kG (K:Int) g o)=Z1++uv (min g.lo o.lo)++uv (max g.hi o.hi)++[((kG (K:Int) g o).L.length:Int)]++jO 0 (kG (K:Int) g o).L:=by
  rw[eY,<-hZ1]
  have a1:(kG (K:Int) g o).lo=min g.lo o.lo:=rfl
  have a2:(kG (K:Int) g o).hi=max g.hi o.hi:=rfl
  rw[a1,a2]
  simp
 rw[eY']
 have hml:=hm.l
 have hmn:=hm.n
 have hmb:=hm.b
 clear eY eY' eM hm em
 generalize(kG (K:Int) g o).L=M at*
 generalize Z1++uv (min g.lo o.lo)++uv (max g.hi o.hi)=Z3 at*
 have wl:=ju wb Z3 (M.length:Int) qe H12 h12.w
 have h13:=h12.setW (Z3++[(M.length:Int)])
 generalize H12.put wb 0 (Wc (Z3++[(M.length:Int)]))=H13 at*
 obtain⟨H14,v1,v2⟩:=qug rb sb wb k1 k2 3 QA QB QA.length QB.length M qe hmb hmn M 0 0 (Z3++[(M.length:Int)]) H13 rfl qg (jI hmn) qi h13
 refine⟨H14,?_,v2⟩
 have wM:IntKind.u8.wrap (M.length:Int)=(M.length:Int):=zB qe qe
 have b20:B54_20 (.ptr wb 0 0) (.ptr rb 0 0) (.ptr sb 0 0) (S 2 1 (LI .u64 (nz M))) H12=some (.sc (.int .i64 0),H14):=by
  have v1:B54_23 (.ptr wb 0 0) (.ptr rb 0 0) (.ptr sb 0 0) (.int .u64 0) (S 3 1 (LI .u64 (nz M))) (.int .i64 (M.length:Int)) (.int .i64 0) H13=some (.sc (.int .i64 0),H14):=v1
  rw[qvt]
  simp[ym,wM,wl,v1]
 rw[b20]at gk
 have em1:min (g.lo:Int) (o.lo:Int)=((min g.lo o.lo:Nat):Int):=qe
 have em2:max (g.hi:Int) (o.hi:Int)=((max g.hi o.hi:Nat):Int):=qe
 have b9:B54_9 (.ptr wb 0 0) (.ptr rb 0 0) (.ptr sb 0 0) (.int .u8 (K:Int)) (.int .i64 7) H4=some (.sc (.int .i64 0),H14):=by
  have t3:run cxX 60 [.ptr rb 0 0,.sc (.int .u64 18446744073709551615)] H4=some (.sc (.int .u64 (g.lo:Int)),H5):=t3
  have t4:run cxX 60 [.ptr sb 0 0,.sc (.int .u64 18446744073709551615)] H5=some (.sc (.int .u64 (o.lo:Int)),H6):=t4
  have t6:run cxX 60 [.ptr rb 0 0,.sc (.int .u64 18446744073709551615)] H7=some (.sc (.int .u64 (g.hi:Int)),H8):=t6
  have t7:run cxX 60 [.ptr sb 0 0,.sc (.int .u64 18446744073709551615)] H8=some (.sc (.int .u64 (o.hi:Int)),H9):=t7
  have gk:∀ka kb,B54_16 (.ptr wb 0 0) (.ptr rb 0 0) (.ptr sb 0 0) (.int .u8 (K:Int)) (S ka 1 (LI .u64 (nz g.L))) (S kb 1 (LI .u64 (nz o.L))) (S 2 1 []) H12=some (.sc (.int .i64 0),H14):=gk
  rw[ql9]
  clear s2 s3 h h1 h2 h3 h5 h6 h7 h8 h9 h10 h11 h12 h13 n1 n2 n3 n4 n5 n6 f1 f2 c1 c2 d1 d2 B1 B2 byq len us
  generalize((min g.lo o.lo:Nat):Int)=A1 at*
  generalize((max g.hi o.hi:Nat):Int)=A2 at*
  simp[t3,t4,em1,t5,t6,t7,em2,t8,k1a,k2a,gk]
 rw[b9]at s1
 rw[E54]
 simp[t1,t2,er1,er2,fi,wy]
 exact s1
theorem Kq{hp:Hp}{rb sb wb k1 k2:Nat}{L1 L2 Z:List Int}(hl1:L1.length<=1000000000)(hl2:L2.length<=1000000000)(hz:Z.length<=1000000)(h:RW3 hp rb sb wb k1 k2 L1 L2 L1.length L2.length Z):
 B20_18 (.ptr rb 0 0) (.ptr sb 0 0) (.ptr wb 0 0) (.int .i64 0) hp=some (.tup [S 1 1 (LI .u8 Z),.sc (.int .i64 0)],hp):=by
 have e1:=Wh rb k1 L1 _ _ hp hl1 (znd _) h.r
 have e2:=Wh sb k2 L2 _ _ hp hl2 (znd _) h.s
 have c1:¬((0:Int)=0/\L1.length<L1.length):=qe
 have c2:¬((0:Int)=0/\L2.length<L2.length):=qe
 rw[if_neg c1]at e1
 rw[if_neg c2]at e2
 have fi:=yc
 have wb':=Wf wb Z hz hp h.w
 rw[qeb]
 simp[e1,e2,fi,qea,wb']
theorem zju(x8 x9 x10:AV)(e:Int)(he:e≠0)(hp:Hp):B20_18 x8 x9 x10 (.int .i64 e) hp=some (.tup [S 2 1 [],.sc (.int .i64 e)],hp):=by
 rw[qeb]
 simp[he,qea]
def H3(hp:Hp)(k1 k2:Nat)(L1 L2:List Int):Hp:=((hp.new (Rc (rk k1) L1 0 0)).new (Rc (rk k2) L2 0 0)).new (Wc [])
theorem Jq(hp:Hp)(k1 k2:Nat)(L1 L2:List Int):RW3 (H3 hp k1 k2 L1 L2) hp.next (hp.next+1) (hp.next+2) (rk k1) (rk k2) L1 L2 0 0 [] where
 r:=by
  unfold H3
  rw[zH _ _ (show hp.next≠hp.next+1+1 by omega),zH _ _ (show hp.next≠hp.next+1 by omega)]
  exact qT hp _
 s:=by
  unfold H3
  rw[zH _ _ (show hp.next+1≠hp.next+1+1 by omega)]
  exact qT (hp.new _) _
 w:=qT ((hp.new _).new _) _
 lr:=by show hp.next<hp.next+1+1+1;omega
 ls:=by show hp.next+1<hp.next+1+1+1;omega
 lw:=by show hp.next+2<hp.next+1+1+1;omega
 rs:=qe
 rw:=qe
 sw:=qe
theorem JK(kd:Nat)(f:Nat)(hkd:kd<=5)(hp H:Hp)(k1 k2:Nat)(L1 L2:List Int)(e:Int)
 (hf:run cxX (if kd=0 then 49 else if kd=1 then 50 else if kd=2 then 51 else if kd=3 then 52 else if kd=4 then 53 else 54) [.ptr (hp.next+2) 0 0,.ptr hp.next 0 0,.ptr (hp.next+1) 0 0] (H3 hp k1 k2 L1 L2)=some (.sc (.int .i64 e),H)):
 run cxX 20 [.sc (.int .u8 (kd:Int)),S k1 1 (LI .u8 L1),S k2 1 (LI .u8 L2)] hp=B20_18 (.ptr hp.next 0 0) (.ptr (hp.next+1) 0 0) (.ptr (hp.next+2) 0 0) (.int .i64 e) H:=by
 have r1:=Jr (rk k1) L1 hp
 have r2:=Jr (rk k2) L2 (hp.new (Rc (rk k1) L1 0 0))
 simp only[Wx]at r1 r2
 have nn:(hp.new (Rc (rk k1) L1 0 0)).next=hp.next+1:=rfl
 have n2:((hp.new (Rc (rk k1) L1 0 0)).new (Rc (rk k2) L2 0 0)).next=hp.next+2:=rfl
 have e3:((hp.new (Rc (rk k1) L1 0 0)).new (Rc (rk k2) L2 0 0)).new [S 2 1 []]=H3 hp k1 k2 L1 L2:=rfl
 rw[nn]at r2
 have:kd=0\/kd=1\/kd=2\/kd=3\/kd=4\/kd=5:=qe
 rw[E20]
 rcases this with q|q|q|q|q|q<;>subst q<;>simp at hf<;>simp[r1,r2,n2,e3,hf]
theorem qp2(l:List Nat):tn (nz l)=l:=by
 unfold tn nz
 rw[zrh]
 exact(zro (fun x _=>znj x)).trans (List.map_id l)
theorem zi5{a b:List Nat}(h:a.length=b.length)(a64:∀x∈a,x<64)(b64:∀x∈b,x<64):∀z∈YK a b,z<64:=by
 intro x hx
 unfold YK at hx
 obtain⟨i,hi,e⟩:=zpv hx
 rw[List.getElem_zipWith]at e
 have h1:=a64 _ (znr (by simp at hi;omega:i<a.length))
 have h2:=b64 _ (znr (by simp at hi;omega:i<b.length))
 omega
section
variable {x y:SkN}(fx:Fine x)(fy:Fine y)(k1 k2:Nat)(hp:Hp)
include fx fy
theorem zjq(kx:x.kind=0)(ky:y.kind=0):∃t hp',run cxX 20 [.sc (.int .u8 0),S k1 1 (LI .u8 (qE x)),S k2 1 (LI .u8 (qE y))] hp=
 some (.tup [S t 1 (LI .u8 (if 4096<(mrg x.set y.set).length then []else qE (qx x y))),.sc (.int .i64 (if 4096<(mrg x.set y.set).length then 7 else 0))],hp'):=by
 obtain⟨s1,s2,s3,s4⟩:=Qh fx kx
 obtain⟨u1,u2,u3,u4⟩:=Qh fy ky
 have em:mrg x.set y.set=nz (wt (tn x.set) (tn y.set)):=by rw[WL _ _ _ (znd _),s4,u4]
 have eY:qE (qx x y)=jX (jR (wt (tn x.set) (tn y.set))):=by
  unfold qx qE
  rw[if_pos kx]
  simp only[kx,if_true]
  rw[em,qp2]
 have e1:qE x=jX (jR (tn x.set)):=by unfold qE;rw[if_pos kx]
 have e2:qE y=jX (jR (tn y.set)):=by unfold qE;rw[if_pos ky]
 have hl:(mrg x.set y.set).length=(wt (tn x.set) (tn y.set)).length:=by rw[em,WM]
 rw[eY,e1,e2,hl]
 have la:=Ql (l:=tn x.set) (by simp;exact s1) s3
 have lb:=Ql (l:=tn y.set) (by simp;exact u1) u3
 obtain⟨H,f1,f2⟩:=qsu (H3 hp k1 k2 (jX (jR (tn x.set))) (jX (jR (tn y.set)))) hp.next (hp.next+1) (hp.next+2) (rk k1) (rk k2) (tn x.set) (tn y.set) (wt (tn x.set) (tn y.set)) s2 u2 (Zb s2 u2) s3 u3 (by simp;exact s1) (by simp;exact u1) (fun z=>JA z _ _) (Jq hp k1 k2 _ _)
 have fb:=JK 0 0 qh hp H k1 k2 _ _ _ f1
 by_cases hm:4096<(wt (tn x.set) (tn y.set)).length
 ·rw[if_pos hm]at fb
  rw[if_pos hm,if_pos hm]
  exact⟨2,H,fb.trans (zju _ _ _ 7 qh H)⟩
 ·rw[if_neg hm]at fb
  rw[if_neg hm,if_neg hm]
  have lm:=Ql (l:=wt (tn x.set) (tn y.set)) qe (fun z hz=>((JA z _ _).mp hz).elim (s3 z) (u3 z))
  exact⟨1,H,fb.trans (Kq qe qe qe (f2 qe))⟩
theorem zjr(kx:x.kind=1)(ky:y.kind=1)(hx:H64 x)(hy:H64 y)(hK:y.K=x.K):∃t hp',run cxX 20 [.sc (.int .u8 1),S k1 1 (LI .u8 (qE x)),S k2 1 (LI .u8 (qE y))] hp=
 some (.tup [S t 1 (LI .u8 (qE (qx x y))),.sc (.int .i64 0)],hp'):=by
 obtain⟨s0,s1,s2,s3,s4⟩:=vp fx kx hx
 obtain⟨u0,u1,u2,u3,u4⟩:=vp fy ky hy
 have em:mrg x.hs y.hs=nz (wt (tn x.hs) (tn y.hs)):=by rw[WL _ _ _ (znd _),s4,u4]
 have et:tn ((mrg x.hs y.hs).take x.K.toNat)=(wt (tn x.hs) (tn y.hs)).take x.K.toNat:=by
  rw[em]
  unfold nz
  rw[<-List.map_take]
  exact qp2 _
 have eY:qE (qx x y)=uv x.K.toNat++zh ((wt (tn x.hs) (tn y.hs)).take x.K.toNat):=by
  have em0:qx x y={skZ with kind:=1,K:=x.K,hs:=(mrg x.hs y.hs).take x.K.toNat}:=by
   unfold qx
   rw[if_neg qe,if_pos kx,kx]
  rw[em0]
  unfold qE
  rw[if_neg (show ¬((1:Int)=0) by decide),if_pos rfl,et]
 have e1:qE x=uv x.K.toNat++zh (tn x.hs):=by unfold qE;rw[if_neg qe,if_pos kx]
 have e2:qE y=uv x.K.toNat++zh (tn y.hs):=by unfold qE;rw[if_neg qe,if_pos ky,hK]
 rw[eY,e1,e2]
 have hu:=qD (n:=x.K.toNat) qe
 have la:=kC (l:=tn x.hs) (by simp;exact s1) s3
 have lb:=kC (l:=tn y.hs) (by simp;exact u1) u3
 have lm:=kC (l:=(wt (tn x.hs) (tn y.hs)).take x.K.toNat) (by rw[zn8];omega) (fun z hz=>((JA z _ _).mp (zov hz)).elim (s3 z) (u3 z))
 obtain⟨H,f1,f2⟩:=qiw (H3 hp k1 k2 (uv x.K.toNat++zh (tn x.hs)) (uv x.K.toNat++zh (tn y.hs))) hp.next (hp.next+1) (hp.next+2) (rk k1) (rk k2) x.K.toNat (tn x.hs) (tn y.hs) qe s2 u2 s3 u3 (by simp;exact s1) (by simp;exact u1) (Jq hp k1 k2 _ _)
 have fb:=JK 1 0 qh hp H k1 k2 _ _ _ f1
 exact⟨1,H,fb.trans (Kq (by rw[zm9];omega) (by rw[zm9];omega) (by rw[zm9];omega) f2)⟩
theorem zjs(kx:x.kind=2)(ky:y.kind=2)(hP:y.P=x.P):∃t hp',run cxX 20 [.sc (.int .u8 2),S k1 1 (LI .u8 (qE x)),S k2 1 (LI .u8 (qE y))] hp=
 some (.tup [S t 1 (LI .u8 (qE (qx x y))),.sc (.int .i64 0)],hp'):=by
 obtain⟨s0,s1,s2,s3,s4⟩:=vq fx kx
 obtain⟨u0,u1,u2,u3,u4⟩:=vq fy ky
 obtain⟨P,hp0⟩:∃P:Nat,x.P=P:=⟨x.P.toNat,qe⟩
 have ha:(tn x.rg).length=2^P:=by rw[Yf,s1,hp0];rfl
 have hb:(tn y.rg).length=2^P:=by rw[Yf,u1,hP,hp0];rfl
 have em:yD x.rg y.rg=nz (YK (tn x.rg) (tn y.rg)):=by rw[zak _ _ qe,s4,u4]
 have eY:qE (qx x y)=(P:Int)::jk (YK (tn x.rg) (tn y.rg)):=by
  have em0:qx x y={skZ with kind:=2,P:=x.P,rg:=yD x.rg y.rg}:=by
   unfold qx
   rw[if_neg qe,if_neg qe,if_pos kx,kx]
  rw[em0]
  unfold qE
  rw[if_neg (show ¬((2:Int)=0) by decide),if_neg (show ¬((2:Int)=1) by decide),if_pos rfl]
  simp only[em,qp2,hp0]
 have e1:qE x=(P:Int)::jk (tn x.rg):=by unfold qE;rw[if_neg qe,if_neg qe,if_pos kx,hp0]
 have e2:qE y=(P:Int)::jk (tn y.rg):=by unfold qE;rw[if_neg qe,if_neg qe,if_pos ky,hP,hp0]
 rw[eY,e1,e2]
 have hN:2^P<=2^8:=zoc qh (show P<=8 by omega)
 have hN':(2:Nat)^8=256:=qh
 have la:=Zh (l:=tn x.rg) qe s3
 have lb:=Zh (l:=tn y.rg) qe u3
 have ml:(YK (tn x.rg) (tn y.rg)).length=2^P:=by unfold YK;rw[List.length_zipWith,ha,hb,Nat.min_self]
 have m64:∀z∈YK (tn x.rg) (tn y.rg),z<64:=zi5 qe s3 u3
 have lm:=Zh (l:=YK (tn x.rg) (tn y.rg)) qe m64
 obtain⟨H,f1,f2⟩:=qsv (H3 hp k1 k2 ((P:Int)::jk (tn x.rg)) ((P:Int)::jk (tn y.rg))) hp.next (hp.next+1) (hp.next+2) (rk k1) (rk k2) P (tn x.rg) (tn y.rg) qe s3 u3 ha hb (Jq hp k1 k2 _ _)
 have fb:=JK 2 0 qh hp H k1 k2 _ _ _ f1
 exact⟨1,H,fb.trans (Kq (by rw[zna];omega) (by rw[zna];omega) (by rw[zna];omega) f2)⟩
omit fy in
theorem qk1(k:x.kind=3):qN (tn x.bs):=by
 have h:=(qJ.mp fx.c).2.2
 rw[if_neg qe,if_neg qe,if_neg qe,if_pos k]at h
 have s:=yT h fx.w.bs
 exact Vx (fun n hn=>(fx.w.bs n hn).1) s.2.2.1
theorem zjw(kx:x.kind=3)(ky:y.kind=3)(hB:y.B=x.B)(hH:y.H=x.H)(hl:jT x y=true):∃t hp',run cxX 20 [.sc (.int .u8 3),S k1 1 (LI .u8 (qE x)),S k2 1 (LI .u8 (qE y))] hp=
 some (.tup [S t 1 (LI .u8 (qE (qx x y))),.sc (.int .i64 0)],hp'):=by
 obtain⟨s0,s1,s2,s3,s4,s5⟩:=xZ fx kx
 obtain⟨u0,u1,u2,u3,u4,u5⟩:=xZ fy ky
 have rx:=qk1 fx kx
 have ry:=qk1 fy ky
 obtain⟨B,eB⟩:∃B:Nat,x.B=B:=⟨x.B.toNat,qe⟩
 obtain⟨H,eH⟩:∃H:Nat,x.H=H:=⟨x.H.toNat,qe⟩
 have em:mrg x.bs y.bs=nz (wt (tn x.bs) (tn y.bs)):=by rw[WL _ _ _ (znd _),s5,u5]
 have em0:qx x y={skZ with kind:=3,B:=x.B,H:=x.H,bs:=mrg x.bs y.bs}:=by
  unfold qx
  rw[if_neg qe,if_neg qe,if_neg qe,if_pos kx,kx]
 have fm:=WP fx fy hl qe
 have fmb:=xZ fm (by rw[em0])
 have ml:(wt (tn x.bs) (tn y.bs)).length<=4096:=by
  have:=fmb.2.2.1
  rw[em0]at this
  have e2:(mrg x.bs y.bs).length=(wt (tn x.bs) (tn y.bs)).length:=by rw[em,WM]
  rw[<-e2]
  exact this
 have eY:qE (qx x y)=uv B++[(H:Int)]++zE (wt (tn x.bs) (tn y.bs)):=by
  rw[em0]
  unfold qE
  rw[if_neg (show ¬((3:Int)=0) by decide),if_neg (show ¬((3:Int)=1) by decide),if_neg (show ¬((3:Int)=2) by decide),if_pos rfl]
  simp only[em,qp2,eB,eH,znj]
 have e1:qE x=uv B++[(H:Int)]++zE (tn x.bs):=by unfold qE;rw[if_neg qe,if_neg qe,if_neg qe,if_pos kx,eB,eH,znj]
 have e2:qE y=uv B++[(H:Int)]++zE (tn y.bs):=by unfold qE;rw[if_neg qe,if_neg qe,if_neg qe,if_pos ky,hB,hH,eB,eH,znj]
 rw[eY,e1,e2]
 have hu:=qD (n:=B) qe
 have la:=kL (l:=tn x.bs) (by simp;exact s2) s4 s3
 have lb:=kL (l:=tn y.bs) (by simp;exact u2) u4 u3
 have lm:=kL (l:=wt (tn x.bs) (tn y.bs)) ml (fun z hz=>((JA z _ _).mp hz).elim (s4 z) (u4 z)) (jc (Zb rx ry))
 obtain⟨H',f1,f2⟩:=qy6 (H3 hp k1 k2 (uv B++[(H:Int)]++zE (tn x.bs)) (uv B++[(H:Int)]++zE (tn y.bs))) hp.next (hp.next+1) (hp.next+2) (rk k1) (rk k2) B H (tn x.bs) (tn y.bs) qe qe rx ry s4 u4 (by simp;exact s2) (by simp;exact u2) ml (Jq hp k1 k2 _ _)
 have fb:=JK 3 0 qh hp H' k1 k2 _ _ _ f1
 exact⟨1,H',fb.trans (Kq (by simp only[zm9,znl];omega) (by simp only[zm9,znl];omega) (by simp only[zm9,znl];omega) f2)⟩
theorem zjv(kx:x.kind=4)(ky:y.kind=4)(hR:y.R=x.R)(hC:y.C=x.C):∃t hp',run cxX 20 [.sc (.int .u8 4),S k1 1 (LI .u8 (qE x)),S k2 1 (LI .u8 (qE y))] hp=
 some (.tup [S t 1 (LI .u8 (qE (qx x y))),.sc (.int .i64 0)],hp'):=by
 obtain⟨s0,s1,s2,s3⟩:=vr fx kx
 obtain⟨u0,u1,u2,u3⟩:=vr fy ky
 obtain⟨R,eR⟩:∃R:Nat,x.R=R:=⟨x.R.toNat,qe⟩
 obtain⟨C,eC⟩:∃C:Nat,x.C=C:=⟨x.C.toNat,qe⟩
 have em0:qx x y={skZ with kind:=4,R:=x.R,C:=x.C,cs:=jY x.cs y.cs}:=by
  unfold qx
  rw[if_neg qe,if_neg qe,if_neg qe,if_neg qe,if_pos kx,kx]
 have eY:qE (qx x y)=[(R:Int)]++uv C++zV (C:Int) (jY x.cs y.cs) 0 0:=by
  rw[em0]
  unfold qE
  rw[if_neg (show ¬((4:Int)=0) by decide),if_neg (show ¬((4:Int)=1) by decide),if_neg (show ¬((4:Int)=2) by decide),if_neg (show ¬((4:Int)=3) by decide),if_pos rfl]
  simp only[eR,eC,znj]
 have e1:qE x=[(R:Int)]++uv C++zV (C:Int) x.cs 0 0:=by unfold qE;rw[if_neg qe,if_neg qe,if_neg qe,if_neg qe,if_pos kx,eR,eC,znj]
 have e2:qE y=[(R:Int)]++uv C++zV (C:Int) y.cs 0 0:=by unfold qE;rw[if_neg qe,if_neg qe,if_neg qe,if_neg qe,if_pos ky,hR,hC,eR,eC,znj]
 rw[eY,e1,e2]
 have hu:=qD (n:=C) qe
 have um:=qal fx.w.cs fy.w.cs
 have cl:=Jb x.cs y.cs
 have la:=vE (C:Int) x.cs fx.w.cs x.cs 0 0 fx.w.cs qe
 have lb:=vE (C:Int) y.cs fy.w.cs y.cs 0 0 fy.w.cs qe
 have lm:=vE (C:Int) _ um (jY x.cs y.cs) 0 0 um qe
 have al:x.cs.length=R*C:=by rw[eR,eC,<-Int.natCast_mul]at s2;omega
 have bl:y.cs.length=R*C:=by rw[hR,hC,eR,eC,<-Int.natCast_mul]at u2;omega
 obtain⟨H',f1,f2⟩:=qy7 (H3 hp k1 k2 ([(R:Int)]++uv C++zV (C:Int) x.cs 0 0) ([(R:Int)]++uv C++zV (C:Int) y.cs 0 0)) hp.next (hp.next+1) (hp.next+2) (rk k1) (rk k2) R C x.cs y.cs qe qe fx.w.cs fy.w.cs al bl (Jq hp k1 k2 _ _)
 have fb:=JK 4 0 qh hp H' k1 k2 _ _ _ f1
 exact⟨1,H',fb.trans (Kq (by simp only[zm9,znl];omega) (by simp only[zm9,znl];omega) (by simp only[zm9,znl];omega) f2)⟩
omit fx fy in
theorem qoq{g:Gs}(w:g.W)(ho:JS g.nf.L=0)(hl:g.nf.L.length<=16):GFi g.nf where
 u:=by
  intro n hn
  simp only[gSu,Gs.nf,zne,zrb,or_false]at hn
  have a0:=w.M;have a1:=w.e0;have a2:=w.e1;have a3:=w.e2;have a4:=w.e3;have a5:=w.e4;have a6:=w.e5
  unfold zy at*
  rcases hn with e|e|e|e|e|e|e<;>subst e<;>assumption
 lo:=Qq _ w.lo
 hi:=Qq _ w.hi
 l:=hl
 n:=ZM ho
 b:=by
  intro k hk
  obtain⟨q,hq,rfl⟩:=zn9.mp hk
  exact Qq _ (w.L q hq)
omit fx fy in
theorem qab{K:Int}{g:GN}(h:GFi g):(yE K g).length<=1000:=by
 have us:∀l:List Int,kr l->(ZC l).length<=10*l.length:=by
  intro l
  induction l with
  |nil=>intro _;simp[ZC]
  |cons x r ih=>
   intro hu
   have hx:=hu x qg
   have hw:=qD (n:=x.toNat) qe
   have:=ih (fun n hn=>hu n (by simp[hn]))
   show(uv x.toNat++ZC r).length<=_
   rw[zm9,zna]
   omega
 have a1:=us _ h.u
 have a2:=qD (n:=g.lo) h.lo
 have a3:=qD (n:=g.hi) h.hi
 have a4:=WZ g.L 0 h.b
 have a5:=h.l
 have a6:(gSu g).length=7:=rfl
 rw[JI]
 simp only[zna,zm9,zns]
 omega
theorem zjt{v u:AV}(hv:yu x v)(hu:yu y u)(kx:x.kind=5)(ky:y.kind=5)(hK:y.gK=x.gK)(hl:jT x y=true):∃t hp',run cxX 20 [.sc (.int .u8 5),S k1 1 (LI .u8 (qE x)),S k2 1 (LI .u8 (qE y))] hp=
 some (.tup [S t 1 (LI .u8 (qE (qx x y))),.sc (.int .i64 0)],hp'):=by
 obtain⟨s0,s1,s2⟩:=xV fx kx
 obtain⟨u0,u1,u2⟩:=xV fy ky
 obtain⟨K,eK⟩:∃K:Nat,x.gK=K:=⟨x.gK.toNat,qe⟩
 have em0:qx x y={skZ with kind:=5,gK:=x.gK,g:=kG x.gK x.g y.g}:=by
  unfold qx
  rw[if_neg qe,if_neg qe,if_neg qe,if_neg qe,if_neg qe,if_pos kx,kx]
 have fm:=xV (WP fx fy hl qe) (by rw[em0])
 rw[em0]at fm
 obtain⟨g,a,b,c,d,e,t,gw,gn,rfl⟩:=hv
 obtain⟨g',a',b',c',d',e',t',gw',gn',rfl⟩:=hu
 have nm:=zbe (K:Int) g g'
 rw[gn,gn']at nm
 rw[eK]at fm
 have G1:GFi x.g:=by rw[<-gn]at s1 s2⊢;exact qoq gw s1 s2
 have G2:GFi y.g:=by rw[<-gn']at u1 u2⊢;exact qoq gw' u1 u2
 have G3:GFi (kG (K:Int) x.g y.g):=by
  have f1:JS (kG (K:Int) x.g y.g).L=0:=fm.2.1
  have f2:(kG (K:Int) x.g y.g).L.length<=16:=fm.2.2
  rw[<-nm]at f1 f2⊢
  exact qoq (zhp qe gw gw') f1 f2
 have eY:qE (qx x y)=yE (K:Int) (kG (K:Int) x.g y.g):=by
  rw[em0]
  unfold qE
  rw[if_neg (show ¬((5:Int)=0) by decide),if_neg (show ¬((5:Int)=1) by decide),if_neg (show ¬((5:Int)=2) by decide),if_neg (show ¬((5:Int)=3) by decide),if_neg (show ¬((5:Int)=4) by decide)]
  simp only[eK]
 have e1:qE x=yE (K:Int) x.g:=by unfold qE;rw[if_neg qe,if_neg qe,if_neg qe,if_neg qe,if_neg qe,eK]
 have e2:qE y=yE (K:Int) y.g:=by unfold qE;rw[if_neg qe,if_neg qe,if_neg qe,if_neg qe,if_neg qe,hK,eK]
 rw[eY,e1,e2]
 have l1:=qab (K:=(K:Int)) G1
 have l2:=qab (K:=(K:Int)) G2
 have l3:=qab (K:=(K:Int)) G3
 obtain⟨H',f1,f2⟩:=qy5 (H3 hp k1 k2 (yE (K:Int) x.g) (yE (K:Int) y.g)) hp.next (hp.next+1) (hp.next+2) (rk k1) (rk k2) K x.g y.g qe G1 G2 G3 (Jq hp k1 k2 _ _)
 have fb:=JK 5 0 qh hp H' k1 k2 _ _ _ f1
 exact⟨1,H',fb.trans (Kq qe qe qe f2)⟩
def byM(x y:SkN):List Int:=if(yl x y).2=0 then qE (yl x y).1 else []
theorem qnh{v u:AV}(hv:yu x v)(hu:yu y u)(hx:H64 x)(hy:H64 y)(hl:jT x y=true):∃t hp',run cxX 20 [.sc (.int .u8 x.kind),S k1 1 (LI .u8 (qE x)),S k2 1 (LI .u8 (qE y))] hp=
 some (.tup [S t 1 (LI .u8 (byM x y)),.sc (.int .i64 (yl x y).2)],hp'):=by
 have hk:=JE hl
 obtain⟨l1,l2,l3,l4,l5⟩:=qha hl
 have me:=qc6 fx fy
 rw[if_neg (by simp[hl])]at me
 have no:∀(n:x.kind≠0),byM x y=qE (qx x y)/\(yl x y).2=0:=by
  intro n
  rw[if_neg (fun h=>n h.1)]at me
  unfold byM
  rw[me]
  exact⟨if_pos rfl,rfl⟩
 rcases six fx.w (qJ.mp fx.c).1 with k|k|k|k|k|k
 ·obtain⟨t,hp',h⟩:=zjq fx fy k1 k2 hp k qe
  have e1:byM x y=if 4096<(mrg x.set y.set).length then []else qE (qx x y):=by
   unfold byM
   rw[me]
   by_cases q:4096<(mrg x.set y.set).length
   ·have e:(if x.kind=0/\4096<(mrg x.set y.set).length then(skZ,(7:Int))else(qx x y,0))=(skZ,7):=if_pos ⟨k,q⟩
    rw[e,if_pos q];exact if_neg qh
   ·have e:(if x.kind=0/\4096<(mrg x.set y.set).length then(skZ,(7:Int))else(qx x y,0))=(qx x y,0):=if_neg (fun h=>q h.2)
    rw[e,if_neg q];exact if_pos rfl
  have e2:(yl x y).2=if 4096<(mrg x.set y.set).length then 7 else 0:=by
   rw[me]
   by_cases q:4096<(mrg x.set y.set).length
   ·rw[if_pos (show x.kind=0/\4096<(mrg x.set y.set).length from⟨k,q⟩),if_pos q]
   ·rw[if_neg (show ¬(x.kind=0/\4096<(mrg x.set y.set).length)from fun h=>q h.2),if_neg q]
  rw[e1,e2,k]
  exact⟨t,hp',h⟩
 ·rw[(no qe).1,(no qe).2,k]
  exact zjr fx fy k1 k2 hp k qe hx hy (l1 k).symm
 ·rw[(no qe).1,(no qe).2,k]
  exact zjs fx fy k1 k2 hp k qe (l2 k).symm
 ·rw[(no qe).1,(no qe).2,k]
  exact zjw fx fy k1 k2 hp k qe (l3 k).1.symm (l3 k).2.symm hl
 ·rw[(no qe).1,(no qe).2,k]
  exact zjv fx fy k1 k2 hp k qe (l4 k).1.symm (l4 k).2.symm
 ·rw[(no qe).1,(no qe).2,k]
  exact zjt fx fy k1 k2 hp hv hu k qe (l5 k).symm hl
end
theorem Va{x:SkN}(hx:Fine x):yl x x=(qx x x,0):=by
 rw[qc6 hx hx,qdc]
 simp only[Bool.true_eq_false,if_false]
 rw[if_neg]
 rintro⟨k,h⟩
 obtain⟨kd,on,sp⟩:=qJ.mp hx.c
 rw[if_pos k]at sp
 obtain⟨a,b⟩:=xy.mp sp
 rw[Xe b]at h
 omega
theorem yL(K:IntKind)(l:List Int)(k:Nat)(hk:k=1\/k=2)(b:Nat)(hb:0<b/\b<=1000)(k':Nat)(m:List Int)(h:l.length+m.length<=100000000):jp b 1 (S k 1 (LI K l)) (S k' 1 (LI K m))=some (S k 1 (LI K (l++m))):=by
 rw[YG b 1 k _ _ k' hk (qad _ _) (.inr (yZ hb.1 ?_))]
 ·simp[LI]
 ·simp only[kR]
  have:(l.length+m.length)*b<=100000000*1000:=zn5 h hb.2
  omega
theorem qlb(K:IntKind)(l:List Int)(k:Nat)(hk:k=1\/k=2)(b:Nat)(hb:0<b/\b<=1000)(n:Int)(h:l.length<100000000):jp b 1 (S k 1 (LI K l)) (S 1 1 [.sc (.int K n)])=some (S k 1 (LI K (l++[n]))):=
 yL K l k hk b hb 1 [n] qi
theorem qta:∀(n:Nat) (l:List Int) (hp:Hp),n<18446744073709551616->l.length+(uv n).length<=1000->
 B70_2 (.int .u64 (n:Int)) (S 2 1 (LI .u8 l)) hp=some (S 2 1 (LI .u8 (l++uv n)),hp):=by
 intro n
 induction n using Nat.strongRecOn with
 |_ n ih=>
  intro l hp hn hl
  rw[zc4]
  by_cases h1:n<128
  ·rw[KR h1]at hl⊢
   have hge:¬((128:Int)<=(n:Int)):=qe
   have w:IntKind.u8.wrap (n:Int)=(n:Int):=zB qe qe
   have ap:=Qz .u8 l 2 (.inr rfl) 1 qh n (by simp at hl;omega)
   simp[hge,w,ap]
  ·rw[VR h1]at hl⊢
   have hge:(128:Int)<=(n:Int):=qe
   have r:=Vy n 128 qh
   have q:=Xa n 128 qh hn
   have w0:IntKind.u64.wrap (((n%128:Nat):Int)+128)=((n%128+128:Nat):Int):=by rw[qu]<;>omega
   have w:IntKind.u8.wrap ((n%128+128:Nat):Int)=((n%128+128:Nat):Int):=zB qe qe
   have ap:=Qz .u8 l 2 (.inr rfl) 1 qh ((n%128+128:Nat):Int) (by simp at hl;omega)
   have ih':=ih (n/128) qe (l++[((n%128+128:Nat):Int)]) hp qe (by simp at hl⊢;omega)
   generalize((n%128+128:Nat):Int)=c at*
   generalize((n/128:Nat):Int)=d at*
   generalize((n%128:Nat):Int)=e at*
   simp only[zp2]at r q
   simp[hge,r,q,w0,w,ap,ih']
theorem jw(n:Nat)(hn:n<18446744073709551616)(hp:Hp):run cxX 70 [.sc (.int .u64 (n:Int))] hp=some (S 2 1 (LI .u8 (uv n)),hp):=by
 have h:=qta n [] hp hn (by have:=qD hn;simp;omega)
 rw[E70]
 simpa using h
theorem qyt(n:Int)(hn:-9223372036854775808<=n/\n<9223372036854775808)(hp:Hp):run cxX 74 [.sc (.int .i64 n)] hp=some (S 2 1 (LI .u8 (uv (zz n))),hp):=by
 have u:=jw (zz n) (qb0 hn.1 hn.2) hp0
 rw[E74]
 by_cases h0:n<0
 ·have w1:IntKind.i64.wrap (n+1)=n+1:=qm qe qe
  have w2:IntKind.i64.wrap (0-(n+1))=0-(n+1):=qm qe qe
  have w3:IntKind.u64.wrap (0-(n+1))=0-(n+1):=qu qe qe
  have w4:IntKind.u64.wrap ((0-(n+1))*2)=(0-(n+1))*2:=qu qe qe
  have w5:IntKind.u64.wrap ((0-(n+1))*2+1)=((zz n:Nat):Int):=by rw[qu qe qe];unfold zz;rw[if_pos h0];omega
  have un:=qp0 Tryz.prog (n+1)
  rw[w2]at un
  generalize 0-(n+1)=y at*
  generalize zz n=z at*
  simp[h0,w1,un,w3,w4,w5,u]
 ·have w3:IntKind.u64.wrap n=n:=qu qe qe
  have w4:IntKind.u64.wrap (n*2)=((zz n:Nat):Int):=by rw[qu qe qe];unfold zz;rw[if_neg h0];omega
  generalize zz n=z at*
  simp[h0,w3,w4,u]
def ub(l:List Bool):List Int:=l.map fun b=>cond b 1 0
@[simp] theorem zh4(l:List Bool):(ub l).length=l.length:=by simp[ub]
@[simp] theorem qf0(l m:List Bool):ub (l++m)=ub l++ub m:=by simp[ub]
theorem qno(n:Nat)(hn:n<=1000000)(hp:Hp):∀(f i:Nat),i+f=n->
 B140_3 (.int .i64 (n:Int)) (S 2 1 (LI .u8 (List.replicate i 1))) (.int .i64 (i:Int)) hp=some (S 2 1 (LI .u8 (ub (una n))),hp):=by
 intro f
 induction f with
 |zero=>
  intro i h
  have e:i=n:=qe
  subst e
  have ap:=qlb .u8 (List.replicate i 1) 2 (.inr rfl) 1 qh 0 qi
  have e2:ub (una i)=List.replicate i 1++[0]:=by simp[ub,una]
  rw[qe8,e2]
  generalize List.replicate i (1:Int)=l at*
  simp[ap]
 |succ f ih=>
  intro i h
  have hlt:(i:Int)<(n:Int):=qe
  have ap:=qlb .u8 (List.replicate i 1) 2 (.inr rfl) 1 qh 1 qi
  have w1:IntKind.i64.wrap ((i:Int)+1)=((i+1:Nat):Int):=qj
  have ih':=ih (i+1) qe
  rw[zpo]at ih'
  rw[qe8]
  generalize List.replicate i (1:Int)=l at*
  generalize((i+1:Nat):Int)=j at*
  simp[hlt,ap,w1,ih']
theorem qcf(n:Nat)(hn:n<=1000000)(hp:Hp):run cxX 140 [.sc (.int .i64 (n:Int))] hp=some (S 2 1 (LI .u8 (ub (una n))),hp):=by
 have h:=qno n hn hp n 0 qe
 rw[E140]
 simpa using h
theorem zg4(n j:Nat):((n/2^j%2:Nat):Int)=cond (n.testBit j) 1 0:=by
 rw[zpd]
 have:n/2^j%2=0\/n/2^j%2=1:=qe
 rcases this with h|h<;>rw[h]<;>rfl
theorem qtg(n b:Nat)(hn:n<18446744073709551616)(k:Nat)(hk:k<=64):∀(f j:Nat) (hp:Hp),j+f=k->hp.rd b 0=some (LI .u8 (List.replicate f 0++ub (ko n j)))->
 ∃hp',B141_7 (.int .u64 ((n/2^j:Nat):Int)) (.ms b 0 0 k 1) (.int .i64 ((f:Int)-1)) hp=some (S 0 1 (LI .u8 (ub (ko n k))),hp'):=by
 intro f
 induction f with
 |zero=>
  intro j hp h hb
  have e:j=k:=qe
  subst e
  have hge:¬((0:Int)<=((0:Nat):Int)-1):=qe
  have fz:=Zg .u8 (ub (ko n j)) hp b (by simpa using hb)
  rw[zh4,qg1]at fz
  rw[qe7]
  exact⟨hp.del b,by simp[fz]⟩
 |succ f ih=>
  intro j hp h hb
  have hge:(0:Int)<=((f+1:Nat):Int)-1:=qe
  have e1:((f+1:Nat):Int)-1=(f:Int):=qe
  have r:=Vy (n/2^j) 2 qh
  have q:=Xa (n/2^j) 2 qh (zow (zpl _ _) hn)
  have e2:n/2^j/2=n/2^(j+1):=by rw[zpg,<-Nat.pow_succ]
  rw[zg4]at r
  rw[e2]at q
  have ix:idx k (.int .i64 (f:Int))=some f:=zr .i64 qe
  have pn:=xC .u8 (List.replicate (f+1) 0++ub (ko n j)) f (cond (n.testBit j) 1 0) qi
  have e3:(List.replicate (f+1) (0:Int)++ub (ko n j)).set f (cond (n.testBit j) 1 0)=List.replicate f 0++ub (ko n (j+1)):=by
   rw[zpo,znv,zqp _ _ qg]
   simp[ko,ub]
  rw[e3]at pn
  have w1:IntKind.i64.wrap ((f:Int)-1)=(f:Int)-1:=qm qe qe
  have w2:IntKind.u8.wrap (cond (n.testBit j) 1 0)=cond (n.testBit j) 1 0:=by cases n.testBit j<;>rfl
  obtain⟨hp',ih'⟩:=ih (j+1) (hp.put b 0 (LI .u8 (List.replicate f 0++ub (ko n (j+1))))) qe (qr _ _ _)
  refine⟨hp',?_⟩
  rw[qe7,e1]
  simp only[zp2]at r q
  generalize((n/2^j:Nat):Int)=u at*
  generalize((n/2^(j+1):Nat):Int)=u' at*
  generalize(cond (n.testBit j) 1 0:Int)=c at*
  generalize LI .u8 (List.replicate f 0++ub (ko n (j+1)))=L' at*
  generalize LI .u8 (List.replicate (f+1) 0++ub (ko n j))=L at*
  simp[r,q,w2,ix,hb,pn,w1,ih']
theorem qil(n k:Nat)(hn:n<18446744073709551616)(hk:k<=64)(hp:Hp):∃hp',run cxX 141 [.sc (.int .u64 (n:Int)),.sc (.int .i64 (k:Int))] hp=some (S 0 1 (LI .u8 (ub (ko n k))),hp'):=by
 have mk:xd 1 1 (k:Int) (k:Int)=some ():=Jy qe qe qh qh
 have z:=Jm .u8 k
 obtain⟨hp',h⟩:=qtg n hp.next hn k hk k 0 (hp.new (LI .u8 (List.replicate k 0))) qe (by rw[qT];simp[ko,ub])
 have h1:¬((64:Int)<(k:Int)):=qe
 have h2:¬((k:Int)<0):=qe
 have w1:IntKind.i64.wrap ((k:Int)-1)=(k:Int)-1:=qm qe qe
 refine⟨hp',?_⟩
 rw[E141]
 simp only[Nat.pow_zero,Nat.div_one]at h
 have h3:=qw4 (v0:=.int .u64 (n:Int)) (v1:=.int .i64 (k:Int)) (hp:=hp)
 have h5:=qw3 (v0:=.int .u64 (n:Int)) (v1:=.int .i64 (k:Int)) (hp:=hp)
 generalize LI .u8 (List.replicate k 0)=Z at*
 simp[h1,h3,h2,h5,mk,z,w1,h]
theorem Ko(l:List Bool)(i j:Nat):(l.take i).getD j false=(decide (j<i)&&l.getD j false):=by
 rw[znb,zno]
 by_cases h:j<i
 ·simp[h]
 ·simp[h]
theorem qas(l:List Bool)(i:Nat)(hi:i<l.length)(q:Nat):by8 (l.take (i+1)) (8*q)=if q=i/8 then by8 (l.take i) (8*q)+(l.getD i false).toNat*2^(7-i%8)else by8 (l.take i) (8*q):=by
 have key:∀j,(l.take (i+1)).getD j false=if j=i then l.getD i false else(l.take i).getD j false:=by
  intro j
  rw[Ko,Ko]
  by_cases h1:j=i
  ·subst h1;simp
  ·have:(j<i+1)=(j<i):=by apply propext;omega
   simp[h1,this]
 have kz:(l.take i).getD i false=false:=by rw[Ko];simp
 unfold by8
 simp only[key]
 by_cases hq:q=i/8
 ·rw[if_pos hq]
  have hc:i%8=0\/i%8=1\/i%8=2\/i%8=3\/i%8=4\/i%8=5\/i%8=6\/i%8=7:=qe
  rcases hc with h|h|h|h|h|h|h|h
  all_goals
   have e:i=8*q+i%8:=qe
   rw[h]at e
   generalize hg:l.getD i false=c at*
   subst e
   simp at kz
   simp[kz]
   try omega
 ·rw[if_neg hq]
  have h0:∀k,k<8->8*q+k≠i:=qe
  have:=h0 0 qe;have:=h0 1 qe;have:=h0 2 qe;have:=h0 3 qe;have:=h0 4 qe;have:=h0 5 qe;have:=h0 6 qe;have:=h0 7 qe
  simp only[zoy]at*
  simp[*]
def pkt(l:List Bool)(i:Nat):List Int:=(List.range ((l.length+7)/8)).map fun q=>(by8 (l.take i) (8*q):Int)
theorem zfa(l:List Bool)(i:Nat):(pkt l i).length=(l.length+7)/8:=by simp[pkt]
theorem zfb(l:List Bool):pkt l l.length=pk l:=by simp[pkt,pk]
theorem qzr(l:List Bool):pkt l 0=List.replicate ((l.length+7)/8) 0:=by
 unfold pkt
 rw[List.eq_replicate_iff]
 refine⟨qg,fun x hx=>?_⟩
 obtain⟨q,_,rfl⟩:=zn9.mp hx
 simp[by8]
theorem qzs(l:List Bool)(i:Nat)(hi:i<l.length):pkt l (i+1)=(pkt l i).set (i/8) ((by8 (l.take i) (8*(i/8))+(l.getD i false).toNat*2^(7-i%8):Nat):Int):=by
 unfold pkt
 apply zph
 intro q
 rw[zqn,znt,znt]
 by_cases hq:i/8=q
 ·subst hq
  have hl:i/8<(l.length+7)/8:=qe
  rw[zpw hl]
  simp[qas l i hi,hl]
 ·rw[if_neg hq]
  by_cases hl:q<(l.length+7)/8
  ·rw[zpw hl]
   have hq':¬(q=i/8):=fun e=>hq e.symm
   simp[qas l i hi,hq']
  ·rw[zn7 qi]
   rfl
theorem qnq(l:List Bool)(k b:Nat)(hl:l.length<100000000):∀(f i:Nat) (hp:Hp),i+f=l.length->hp.rd b 0=some (LI .u8 (pkt l i))->
 ∃hp',B142_3 (S k 1 (LI .u8 (ub l))) (.ms b 0 0 ((l.length+7)/8) 1) (.int .i64 (i:Int)) hp=some (S 0 1 (LI .u8 (pk l)),hp'):=by
 intro f
 induction f with
 |zero=>
  intro i hp h hb
  have e:i=l.length:=qe
  subst e
  have hlt:¬((l.length:Int)<(l.length:Int)):=qe
  have fz:=Zg .u8 (pk l) hp b (by rw[zfb]at hb;exact hb)
  rw[zZ]at fz
  rw[qe6]
  exact⟨hp.del b,by simp[fz]⟩
 |succ f ih=>
  intro i hp h hb
  have hi:i<l.length:=qe
  have hlt:(i:Int)<(l.length:Int):=qe
  have r8:=qgl i
  have q8:=qgn i qe
  have ix:idx ((l.length+7)/8) (.int .i64 ((i/8:Nat):Int))=some (i/8):=zr .i64 qe
  have gx:ql (LI .u8 (pkt l i)) (i/8)=some (.int .u8 (by8 (l.take i) (8*(i/8)):Nat)):=by
   have:(pkt l i)[i/8]?=some (by8 (l.take i) (8*(i/8)):Int):=by
    unfold pkt
    rw[znt,zpw qe]
    rfl
   unfold ql
   rw[qbu?,this]
   rfl
  have pn:=xC .u8 (pkt l i) (i/8) ((by8 (l.take i) (8*(i/8))+(l.getD i false).toNat*2^(7-i%8):Nat):Int) (by rw[zfa];omega)
  rw[<-qzs l i hi]at pn
  have bit:∀h,(ub l)[i]'h=cond (l.getD i false) 1 0:=by
   intro h
   simp[ub,znb,zng hi]
  have sh:∀t o o',qy Tryz.prog .shl t o o' (.int .u8 (cond (l.getD i false) 1 0)) (.int .i64 (7-((i%8:Nat):Int)))=some (.int .u8 (((l.getD i false).toNat*2^(7-i%8):Nat):Int)):=by
   intro t o o'
   have hc:i%8=0\/i%8=1\/i%8=2\/i%8=3\/i%8=4\/i%8=5\/i%8=6\/i%8=7:=qe
   rw[zW _ _ _ _ _ _ _ _ qe]
   rcases hc with h|h|h|h|h|h|h|h<;>rw[h]<;>cases l.getD i false<;>rfl
  have hsum:by8 (l.take i) (8*(i/8))+(l.getD i false).toNat*2^(7-i%8)<256:=by
   have:=qas l i hi (i/8)
   rw[if_pos rfl]at this
   rw[<-this];exact qo5 _ _
  have w0:IntKind.i64.wrap (7-((i%8:Nat):Int))=7-((i%8:Nat):Int):=qm qe qe
  have w1:IntKind.u8.wrap (((by8 (l.take i) (8*(i/8)):Nat):Int)+(((l.getD i false).toNat*2^(7-i%8):Nat):Int))=((by8 (l.take i) (8*(i/8))+(l.getD i false).toNat*2^(7-i%8):Nat):Int):=by
   rw[zB]<;>omega
  have w2:IntKind.i64.wrap ((i:Int)+1)=((i+1:Nat):Int):=qj
  obtain⟨hp',ih'⟩:=ih (i+1) (hp.put b 0 (LI .u8 (pkt l (i+1)))) qe (qr _ _ _)
  refine⟨hp',?_⟩
  rw[qe6]
  generalize((by8 (l.take i) (8*(i/8))+(l.getD i false).toNat*2^(7-i%8):Nat):Int)=A at*
  generalize(((l.getD i false).toNat*2^(7-i%8):Nat):Int)=D at*
  generalize((by8 (l.take i) (8*(i/8)):Nat):Int)=E at*
  generalize(cond (l.getD i false) 1 0:Int)=c at*
  generalize((i%8:Nat):Int)=m8 at*
  generalize LI .u8 (pkt l (i+1))=L' at*
  generalize LI .u8 (pkt l i)=L at*
  generalize((i+1:Nat):Int)=i' at*
  generalize hQ:i/8=Q at*
  generalize(l.length+7)/8=T at*
  simp[hi,r8,q8,ix,hb,gx,bit,w0,sh,w1,pn,w2,ih',zt]
theorem XV(l:List Bool)(k:Nat)(hl:l.length<100000000)(hp:Hp):∃hp',run cxX 142 [S k 1 (LI .u8 (ub l))] hp=some (S 0 1 (LI .u8 (pk l)),hp'):=by
 have mk:xd 1 1 (((l.length+7)/8:Nat):Int) (((l.length+7)/8:Nat):Int)=some ():=Jy qe qe qh qh
 have z:=Jm .u8 ((l.length+7)/8)
 rw[<-qzr]at z
 obtain⟨hp',h⟩:=qnq l k hp.next hl l.length 0 (hp.new (LI .u8 (pkt l 0))) qe (qT _ _)
 have w1:IntKind.i64.wrap ((l.length:Int)+7)=((l.length+7:Nat):Int):=qj
 have q8:=qgn (l.length+7) qe
 refine⟨hp',?_⟩
 rw[E142]
 generalize LI .u8 (pkt l 0)=Z at*
 generalize((l.length+7:Nat):Int)=T1 at*
 generalize(l.length+7)/8=T at*
 simp[w1,q8,mk,z]
 simpa using h
theorem Zf{l:List Nat}{i:Nat}{x:Nat}{r:List Nat}(h:l.drop i=x::r):l.getD i 0=x:=by
 rw[znb,(qt h).1];rfl
theorem zi4(l m:List Nat):nz (l++m)=nz l++nz m:=by simp[nz]
section
variable (l:List Nat)(k:Nat)(hl:l.length<=1024)(h64:∀x∈l,x<18446744073709551616)(hr:qN l)
include hl h64 hr
theorem qtd(hp:Hp):∀(r:List Nat) (i:Nat),(qw l).drop i=r->i+r.length=l.length->
 B139_3 (S k 1 (LI .u64 (nz l))) (S 2 1 (LI .u64 (nz ((qw l).take i)))) (.int .i64 (i:Int)) hp=some (S 2 1 (LI .u64 (nz (qw l))),hp):=by
 intro r
 induction r with
 |nil=>
  intro i h hil
  simp at hil
  have e:(qw l).take i=qw l:=zn2 qi
  have hlt:¬(i<l.length):=qe
  rw[qe9,e]
  simp[hlt]
 |cons g r ih=>
  intro i h hil
  obtain⟨e1,e2,hi,e3⟩:=qt h
  simp only[zna]at hil
  have hi':i<l.length:=qe
  have et:(qw l).take (i+1)=(qw l).take i++[g]:=by rw[zpi,e1];rfl
  have w5:IntKind.i64.wrap ((i:Int)+1)=((i+1:Nat):Int):=qj
  have ap:=qlb .u64 (nz ((qw l).take i)) 2 (.inr rfl) 8 qh (g:Int) qi
  have en:nz ((qw l).take i)++[(g:Int)]=nz ((qw l).take (i+1)):=by rw[et,zi4];rfl
  rw[en]at ap
  have i1:=ih (i+1) e2 qe
  have c4:B139_4 (S k 1 (LI .u64 (nz l))) (S 2 1 (LI .u64 (nz ((qw l).take (i+1))))) (.int .i64 (i:Int)) hp=some (S 2 1 (LI .u64 (nz (qw l))),hp):=by
   rw[qw5]
   generalize((i+1:Nat):Int)=J at*
   simp[w5,i1]
  have gg:=Xp l i hi'
  rw[e1]at gg
  injection gg with gg
  have ai:=xP .u64 l i hi'
  rw[qe9]
  by_cases h0:i=0
  ·subst h0
   rw[if_pos rfl]at gg
   have en2:∀h,(nz l)[0]'h=(l.getD 0 0:Nat):=fun h=>by simp[nz,znb,hi']
   rw[gg]at ap
   generalize l.getD 0 0=v at*
   simp only[List.take_zero]at ap
   simp only[znk,zp2]at c4 ap
   simp[hi',ai,zt,ap,c4,en2]
  ·rw[if_neg h0]at gg
   have aj:=xP .u64 l (i-1) qe
   have hlt:=vA l hr (i-1) qe
   have e:i-1+1=i:=qe
   rw[e]at hlt
   have hv:l.getD i 0<18446744073709551616:=by
    rw[znb,zng hi']
    exact h64 _ (znr _)
   have w1:IntKind.i64.wrap ((i:Int)-1)=((i-1:Nat):Int):=qj
   have h0':¬((i:Int)=0):=qe
   have g0:(0:Int)<=((i-1:Nat):Int):=qe
   have en2:∀h,(nz l)[i]'h=(l.getD i 0:Nat):=fun h=>by simp[nz,znb,hi']
   generalize l.getD i 0=u at*
   generalize l.getD (i-1) 0=v at*
   have w2:IntKind.u64.wrap ((u:Int)-(v:Int))=(u:Int)-(v:Int):=qu qe qe
   have w3:IntKind.u64.wrap ((u:Int)-(v:Int)-1)=(g:Int):=by rw[qu]<;>omega
   have aj':(LI .u64 (nz l))[(((i-1:Nat):Int)).toNat]?=some (.sc (.int .u64 (v:Int))):=by rw[znj];exact aj
   generalize((i-1:Nat):Int)=j at*
   simp[hi',h0,ai,aj',zt,w1,g0,w2,w3,ap,c4,en2]
theorem qii(hp:Hp):run cxX 139 [S k 1 (LI .u64 (nz l))] hp=some (S 2 1 (LI .u64 (nz (qw l))),hp):=by
 have h:=qtd l k hl h64 hr hp (qw l) 0 rfl qg
 rw[E139]
 simpa[nz]using h
def rcG(k:Nat):List Nat->Nat->Bool->Nat×Bool
 |[],n,ok=>(n,ok)
 |g::r,n,ok=>if 4096<g/2^k then rcG k r (n+1+k) false else rcG k r (n+g/2^k+1+k) ok
omit hl h64 hr in
theorem zix(k:Nat):∀(r:List Nat) (n:Nat),(rcG k r n false).2=false:=by
 intro r
 induction r with
 |nil=>intro n;rfl
 |cons g r ih=>intro n;unfold rcG;split<;>exact ih _
omit hl h64 hr in
theorem ziw(k:Nat):∀(r:List Nat) (n:Nat),(rcG k r n true).2=(xp k r n).2/\((xp k r n).2=true->(rcG k r n true).1=(xp k r n).1):=by
 intro r
 induction r with
 |nil=>intro n;exact⟨rfl,fun _=>rfl⟩
 |cons g r ih=>
  intro n
  unfold rcG xp
  by_cases h:4096<g/2^k
  ·rw[if_pos h,if_pos h]
   exact⟨zix k r _,fun c=>by cases c⟩
  ·rw[if_neg h,if_neg h]
   have:=ih (n+(g/2^k+1+k))
   have e:n+g/2^k+1+k=n+(g/2^k+1+k):=qe
   rw[e]
   exact this
omit hl h64 hr in
theorem qtf(gs:List Nat)(j:Nat)(hj:j<=63)(hg:gs.length<=1024)(v3 v4:Value)(hp:Hp):∀(r:List Nat) (i n:Nat) (ok:Bool),gs.drop i=r->i+r.length=gs.length->n+r.length*4160<4611686018427387904->
 B138_9 v3 v4 (S 2 1 (LI .u64 (nz gs))) (.int .i64 (j:Int)) (.int .i64 (n:Int)) (.bool ok) (.int .i64 (i:Int)) hp=
  B138_9 v3 v4 (S 2 1 (LI .u64 (nz gs))) (.int .i64 (j:Int)) (.int .i64 ((rcG j r n ok).1:Nat)) (.bool (rcG j r n ok).2) (.int .i64 (gs.length:Int)) hp:=by
 intro r
 induction r with
 |nil=>
  intro i n ok h hil hn
  simp at hil
  rw[hil];rfl
 |cons g r ih=>
  intro i n ok h hil hn
  obtain⟨e1,e2,hi,e3⟩:=qt h
  simp only[zna]at hil hn
  have ai:=xP .u64 gs i hi
  rw[Zf h]at ai
  have en:∀h,(nz gs)[i]'h=(g:Int):=fun h=>by simp[nz,e3]
  have sh:=fun t o o'=>xh .u64 g j (by show j<=64;omega) t o o' .i64
  have w5:IntKind.i64.wrap ((i:Int)+1)=((i+1:Nat):Int):=qj
  have step:∀(q:Nat) (b:Bool),q<=4096->B138_15 v3 v4 (S 2 1 (LI .u64 (nz gs))) (.int .i64 (j:Int)) (.int .i64 (n:Int)) (.bool b) (.int .i64 (i:Int)) (.int .u64 (q:Int)) hp=
   B138_9 v3 v4 (S 2 1 (LI .u64 (nz gs))) (.int .i64 (j:Int)) (.int .i64 ((n+q+1+j:Nat):Int)) (.bool b) (.int .i64 ((i+1:Nat):Int)) hp:=by
   intro q b hq
   have w1:IntKind.i64.wrap (q:Int)=(q:Int):=qm qe qe
   have w2:IntKind.i64.wrap ((n:Int)+(q:Int))=(n:Int)+(q:Int):=qm qe qe
   have w3:IntKind.i64.wrap ((n:Int)+(q:Int)+1)=(n:Int)+(q:Int)+1:=qm qe qe
   have w4:IntKind.i64.wrap ((n:Int)+(q:Int)+1+(j:Int))=((n+q+1+j:Nat):Int):=qj
   rw[qpp]
   generalize((n+q+1+j:Nat):Int)=N at*
   generalize((i+1:Nat):Int)=I at*
   simp[w1,w2,w3,w4,w5]
  rw[qfa]
  unfold rcG
  generalize hq:g/2^j=q at*
  by_cases hc:4096<q
  ·have hgt:(4096:Int)<(q:Int):=qe
   have hs:=step 0 false qe
   have hi2:=ih (i+1) (n+1+j) false e2 qe qe
   rw[if_pos hc,<-hi2]
   simp only[zoy]at hs
   generalize((n+1+j:Nat):Int)=N at*
   generalize((i+1:Nat):Int)=I at*
   simp at hs
   simp[hi,ai,zt,sh,hgt,hs,en]
  ·have hgt:¬((4096:Int)<(q:Int)):=qe
   have hs:=step q ok qe
   have hi2:=ih (i+1) (n+q+1+j) ok e2 qe qe
   rw[if_neg hc,<-hi2]
   generalize((n+q+1+j:Nat):Int)=N at*
   generalize((i+1:Nat):Int)=I at*
   simp[hi,ai,zt,sh,hgt,hs,en]
omit h64 hr in
theorem qtc(hp:Hp):∀(f j b:Nat) (m:Int),j+f=64->b<=63->
 B138_4 (.int .i64 (b:Int)) (.int .i64 m) (S 2 1 (LI .u64 (nz (qw l)))) (.int .i64 (j:Int)) hp=some (.sc (.int .i64 (Vp (qw l) f j b m:Nat)),hp):=by
 intro f
 induction f with
 |zero=>
  intro j b m hj hb
  have hlt:¬((j:Int)<64):=qe
  rw[qfb]
  simp[hlt,Vp]
 |succ f ih=>
  intro j b m hj hb
  have hlt:(j:Int)<64:=qe
  have c:=qtf (qw l) j qe qi (.int .i64 (b:Int)) (.int .i64 m) hp (qw l) 0 0 true rfl qg qi
  obtain⟨c1,c2⟩:=ziw j (qw l) 0
  have w5:IntKind.i64.wrap ((j:Int)+1)=((j+1:Nat):Int):=qj
  have i1:=ih (j+1) j (xp j (qw l) 0).1 qe qe
  have i2:=ih (j+1) b m qe hb
  have c8:∀v3 v4,B138_5 v3 v4 (S 2 1 (LI .u64 (nz (qw l)))) (.int .i64 (j:Int)) hp=B138_4 v3 v4 (S 2 1 (LI .u64 (nz (qw l)))) (.int .i64 ((j+1:Nat):Int)) hp:=by
   intro v3 v4
   rw[qw6]
   generalize((j+1:Nat):Int)=J at*
   simp[w5]
  have gl:(qw l).length=l.length:=kK l
  rw[qfb]
  unfold Vp
  rw[c1]at c
  generalize(rcG j (qw l) 0 true).1=N at*
  generalize xp j (qw l) 0=C at*
  obtain⟨d1,d2⟩:=C
  simp only[zrl,zrm]at i1 i2 c8
  simp at c
  generalize qw l=G at*
  have hlt':j<64:=qe
  have e9:∀(M:Int),B138_9 (.int .i64 (b:Int)) (.int .i64 m) (S 2 1 (LI .u64 (nz G))) (.int .i64 (j:Int)) (.int .i64 M) (.bool d2) (.int .i64 (l.length:Int)) hp=
   cond d2 (cond (decide (m<0)||decide (M<m)) (B138_4 (.int .i64 (j:Int)) (.int .i64 M) (S 2 1 (LI .u64 (nz G))) (.int .i64 ((j:Int)+1)) hp) (B138_4 (.int .i64 (b:Int)) (.int .i64 m) (S 2 1 (LI .u64 (nz G))) (.int .i64 ((j:Int)+1)) hp)) (B138_4 (.int .i64 (b:Int)) (.int .i64 m) (S 2 1 (LI .u64 (nz G))) (.int .i64 ((j:Int)+1)) hp):=by
   intro M
   rw[qfa]
   cases d2
   ·simp[gl,c8]
   ·by_cases h1:m<0
    ·simp[gl,h1,qbg,c8]
    ·by_cases h2:M<m
     ·simp[gl,h1,h2,qbg,c8]
     ·simp[gl,h1,h2,c8]
  cases d2
  ·simp[hlt,c,e9,i2]
  ·have c2:N=d1:=c2 rfl
   subst c2
   by_cases h1:m<0
   ·simp[hlt,c,e9,h1,i1]
   ·by_cases h2:(N:Int)<m
    ·simp[hlt,c,e9,h1,h2,i1]
    ·simp[hlt,c,e9,h1,h2,i2]
theorem qys(hp:Hp):run cxX 138 [S k 1 (LI .u64 (nz l))] hp=some (.sc (.int .i64 (jd (qw l):Nat)),hp):=by
 have h:=qtc l hl hp 64 0 63 (-1) rfl qe
 have g:=qii l (rk k) hl h64 hr hp0
 rw[E138]
 simp at h
 simp[g,h,jd]
omit hr in
theorem qtb(kk:Nat)(hkk:kk<=63)(hg:∀g∈qw l,g/2^kk<=4096)(hp:Hp):∀(r:List Nat) (i:Nat) (bs:List Bool),(qw l).drop i=r->i+r.length=l.length->bs.length+r.length*4160<90000000->
 B71_5 (S k 1 (LI .u64 (nz l))) (.int .i64 (kk:Int)) (S 2 1 (LI .u8 (ub bs))) (S 2 1 (LI .u64 (nz (qw l)))) (.int .i64 (i:Int)) hp=
  B71_5 (S k 1 (LI .u64 (nz l))) (.int .i64 (kk:Int)) (S 2 1 (LI .u8 (ub (bs++jb kk r)))) (S 2 1 (LI .u64 (nz (qw l)))) (.int .i64 (l.length:Int)) hp:=by
 intro r
 induction r with
 |nil=>
  intro i bs h hil hb
  simp at hil
  rw[hil,jb,znz]
 |cons g r ih=>
  intro i bs h hil hb
  obtain⟨e1,e2,hi,e3⟩:=qt h
  simp only[zna]at hil hb
  have ai:=xP .u64 (qw l) i hi
  rw[Zf h]at ai
  have en:∀h,(nz (qw l))[i]'h=(g:Int):=fun h=>by simp[nz,e3]
  have hgm:g∈qw l:=by rw[<-e3];exact znr _
  have hq:=hg g hgm
  have g64:=xG h64 g hgm
  have sh:=fun t o o'=>xh .u64 g kk (by show kk<=64;omega) t o o' .i64
  have w5:IntKind.i64.wrap ((i:Int)+1)=((i+1:Nat):Int):=qj
  have w1:IntKind.i64.wrap ((g/2^kk:Nat):Int)=((g/2^kk:Nat):Int):=qm (by have:=zru (g/2^kk);omega) qe
  have u1:=qcf (g/2^kk) qe hp0
  obtain⟨hq1,u2⟩:=qil g kk g64 qe hp0
  have a1:=yL .u8 (ub bs) 2 (.inr rfl) 1 qh 2 (ub (una (g/2^kk))) qi
  have a2:=yL .u8 (ub (bs++una (g/2^kk))) 2 (.inr rfl) 1 qh 0 (ub (ko g kk)) qi
  rw[<-qf0]at a1 a2
  have i1:=ih (i+1) (bs++una (g/2^kk)++ko g kk) e2 qe qi
  have e:bs++jb kk (g::r)=bs++una (g/2^kk)++ko g kk++jb kk r:=by simp[jb]
  rw[e,<-i1,qlz]
  have hi':i<(qw l).length:=hi
  generalize((g/2^kk:Nat):Int)=q at*
  generalize((i+1:Nat):Int)=I at*
  generalize una (g/2^kk)=U at*
  generalize ko g kk=W at*
  generalize qw l=G at*
  simp only[qf0,znv]at a1 a2
  simp[hi',ai,zt,en,sh,w1,u1,a1,u2,a2,w5]
theorem qih(hp:Hp):run cxX 71 [S k 1 (LI .u64 (nz l))] hp=some (S 2 1 (LI .u8 (zh l)),hp):=by
 obtain⟨k63,hq⟩:=QZ (xG h64)
 have hbl:=Qn (jd (qw l)) k63 (qw l) hq
 rw[kK]at hbl
 have p:=qys l (rk k) hl h64 hr hp0
 have g:=qii l (rk k) hl h64 hr hp0
 have lp:=qtb l k hl h64 (jd (qw l)) k63 hq hp (qw l) 0 [] rfl qg qi
 obtain⟨hq1,by1⟩:=XV (jb (jd (qw l)) (qw l)) 3 qe hp0
 have u1:=jw l.length qe hp0
 have lb:(pk (jb (jd (qw l)) (qw l))).length<1000000:=by rw[zZ];omega
 have u2:=jw (pk (jb (jd (qw l)) (qw l))).length qe hp0
 have q1:=qD (n:=l.length) qe
 have q2:=qD (n:=(pk (jb (jd (qw l)) (qw l))).length) qe
 have w1:IntKind.u64.wrap (l.length:Int)=(l.length:Int):=qu qe qe
 have w2:IntKind.u8.wrap ((jd (qw l):Nat):Int)=((jd (qw l):Nat):Int):=zB qe qe
 have w3:IntKind.u64.wrap ((pk (jb (jd (qw l)) (qw l))).length:Int)=((pk (jb (jd (qw l)) (qw l))).length:Int):=qu qe qe
 have a1:=qlb .u8 (uv l.length) 2 (.inr rfl) 1 qh ((jd (qw l):Nat):Int) qe
 have a2:=yL .u8 (uv l.length++[((jd (qw l):Nat):Int)]) 2 (.inr rfl) 1 qh 2 (uv (pk (jb (jd (qw l)) (qw l))).length) (by simp only[zm9,znl];omega)
 have a3:=yL .u8 (uv l.length++[((jd (qw l):Nat):Int)]++uv (pk (jb (jd (qw l)) (qw l))).length) 2 (.inr rfl) 1 qh 0 (pk (jb (jd (qw l)) (qw l))) (by simp only[zm9,znl];omega)
 have gl:(qw l).length=l.length:=kK l
 rw[E71]
 unfold zh jf
 simp only[zn4]at lp
 have e0:ub []=[]:=rfl
 rw[e0]at lp
 simp at lp
 generalize jd (qw l)=pr at*
 generalize hX:jb pr (qw l)=X at*
 have e1:∀G:List Nat,G.length=l.length->B71_5 (S k 1 (LI .u64 (nz l))) (.int .i64 (pr:Int)) (S 2 1 (LI .u8 (ub X))) (S 2 1 (LI .u64 (nz G))) (.int .i64 (l.length:Int)) hp=some (S 2 1 (LI .u8 (uv l.length++[(pr:Int)]++uv (pk X).length++pk X)),hp):=by
  intro G hG
  clear lp hX hq
  rw[qlz]
  generalize hB:pk X=Bx at*
  generalize uv Bx.length=U2 at*
  generalize uv l.length=U1 at*
  simp only[znv,zo1,zn4]at a1 a2 a3⊢
  simp[hG,by1,w1,u1,w2,a1,w3,u2,a2,a3]
 rw[e1 _ gl]at lp
 simp[p,g,lp]
end
section
variable (l:List Nat)(k:Nat)(hl:l.length<=65536)(h32:∀x∈l,x<4294967296)(hr:zO l)
include hl h32
omit h32 in
theorem qzg(last:Nat)(hla:last<4294967296)(hp:Hp):∀(f j:Nat),j+f=33->j<=32->
 B73_6 (S k 1 (LI .u32 (nz l))) (.int .i64 (l.length:Int)) (.int .u32 (last:Int)) (.int .i64 (j:Int)) hp=
  B73_8 (S k 1 (LI .u32 (nz l))) (.int .i64 (l.length:Int)) (.int .u32 (last:Int)) (.int .i64 (Vq l.length last f j:Nat)) hp:=by
 intro f
 induction f with
 |zero=>intro j h h2;omega
 |succ f ih=>
  intro j h h2
  have w1:IntKind.i64.wrap (last:Int)=(last:Int):=qm qe qe
  have w2:IntKind.i64.wrap ((j:Int)+1)=((j+1:Nat):Int):=qj
  have q2:∀t o o',qy Tryz.prog .quo t o o' (.int .i64 (last:Int)) (.int .i64 2)=some (.int .i64 ((last/2:Nat):Int)):=by
   intro t o o'
   rw[yB _ _ _ _ _ _ _ qe,zoi qe,qm qe qe]
   rfl
  have sh:=fun t o o'=>xh .i64 (last/2) j (by show j<=64;omega) t o o' .i64
  have e2:last/2/2^j=last/2^(j+1):=by rw[zpg,zo4,zof]
  rw[e2]at sh
  rw[zc2]
  unfold Vq
  by_cases h0:0<l.length
  ·have h0':(0:Int)<(l.length:Int):=qe
   by_cases h1:l.length<=last/2^(j+1)
   ·by_cases hk:j=32
    ·subst hk
     have:last/2^33=0:=zqh (znu hla qh)
     have e:(32:Nat)+1=33:=rfl
     rw[e,this]at h1
     omega
    ·have hi:=ih (j+1) qe qe
     have h1':(l.length:Int)<=((last/2^(j+1):Nat):Int):=qe
     rw[if_pos ⟨h0,h1⟩]
     generalize((last/2^(j+1):Nat):Int)=q at*
     generalize((last/2:Nat):Int)=q1 at*
     generalize((j+1:Nat):Int)=k1 at*
     simp[h0,xJ,w1,w2,sh,q2,h1',zc1,hi]
   ·have h1':¬((l.length:Int)<=((last/2^(j+1):Nat):Int)):=qe
    rw[if_neg (fun c=>h1 c.2)]
    generalize((last/2^(j+1):Nat):Int)=q at*
    generalize((last/2:Nat):Int)=q1 at*
    simp[h0,xJ,w1,sh,q2,h1']
  ·rw[if_neg (fun c=>h0 c.1)]
   have h0':¬((0:Int)<(l.length:Int)):=qe
   simp only[iC,Qx,znc,jN,kI,zpe,gt_iff_lt,zp2,h0',decide_false,cond_false]
theorem qte(kk:Nat)(hkk:kk<=32)(v4:Value)(hp:Hp):∀(r:List Nat) (i p:Nat) (b1 b2:List Bool),l.drop i=r->i+r.length=l.length->zO (p::r)->b1.length+r.length*32<90000000->b2.length+(qG kk (p/2^kk) r).length<90000000->(qG kk (p/2^kk) r).length<900000->
 ∃v,B73_11 (S k 1 (LI .u32 (nz l))) (.int .i64 (l.length:Int)) v4 (.int .i64 (kk:Int)) (S 2 1 (LI .u8 (ub b1))) (S 2 1 (LI .u8 (ub b2))) (.int .u32 ((p/2^kk:Nat):Int)) (.int .i64 (i:Int)) hp=
  B73_11 (S k 1 (LI .u32 (nz l))) (.int .i64 (l.length:Int)) v4 (.int .i64 (kk:Int)) (S 2 1 (LI .u8 (ub (b1++qO kk r)))) (S 2 1 (LI .u8 (ub (b2++qG kk (p/2^kk) r)))) v (.int .i64 (l.length:Int)) hp:=by
 intro r
 induction r with
 |nil=>
  intro i p b1 b2 h hil hpr hb1 hb2 hb3
  simp at hil
  exact⟨_,by rw[hil,qO,qG,znz,znz]⟩
 |cons x r ih=>
  intro i p b1 b2 h hil hpr hb1 hb2 hb3
  obtain⟨e1,e2,hi,e3⟩:=qt h
  simp only[zna]at hil hb1
  have ai:=xP .u32 l i hi
  rw[Zf h]at ai
  have en:∀h,(nz l)[i]'h=(x:Int):=fun h=>by simp[nz,e3]
  have hx:x<4294967296:=by rw[<-e3];exact h32 _ (znr _)
  have hd:p/2^kk<=x/2^kk:=zpp hpr.1
  have hxq:x/2^kk<=x:=zpl _ _
  have sh:=fun t o o'=>xh .u32 x kk (by show kk<=32;omega) t o o' .i64
  have hh:(qG kk (p/2^kk) (x::r)).length=(x/2^kk-p/2^kk)+1+(qG kk (x/2^kk) r).length:=by simp[qG]
  rw[hh]at hb2 hb3
  have w1':IntKind.u64.wrap (x:Int)=(x:Int):=qu qe qe
  have w2':IntKind.u32.wrap (((x/2^kk:Nat):Int)-((p/2^kk:Nat):Int))=((x/2^kk-p/2^kk:Nat):Int):=by rw[qK]<;>omega
  have w3':IntKind.i64.wrap ((x/2^kk-p/2^kk:Nat):Int)=((x/2^kk-p/2^kk:Nat):Int):=qm qe qe
  have w5:IntKind.i64.wrap ((i:Int)+1)=((i+1:Nat):Int):=qj
  obtain⟨hq1,u2⟩:=qil x kk qe qe hp0
  have u1:=qcf (x/2^kk-p/2^kk) qe hp0
  have a1:=yL .u8 (ub b1) 2 (.inr rfl) 1 qh 0 (ub (ko x kk)) qi
  have a2:=yL .u8 (ub b2) 2 (.inr rfl) 1 qh 2 (ub (una (x/2^kk-p/2^kk))) qi
  rw[<-qf0]at a1 a2
  obtain⟨v,i1⟩:=ih (i+1) x (b1++ko x kk) (b2++una (x/2^kk-p/2^kk)) e2 qe hpr.2 qi qi qe
  have q1:b1++qO kk (x::r)=b1++ko x kk++qO kk r:=by simp[qO]
  have q2:b2++qG kk (p/2^kk) (x::r)=b2++una (x/2^kk-p/2^kk)++qG kk (x/2^kk) r:=by simp[qG]
  refine⟨v,?_⟩
  rw[q1,q2,<-i1,qd1]
  generalize una (x/2^kk-p/2^kk)=U at*
  generalize((x/2^kk-p/2^kk:Nat):Int)=d at*
  generalize((p/2^kk:Nat):Int)=P at*
  generalize((x/2^kk:Nat):Int)=X at*
  generalize((i+1:Nat):Int)=I at*
  generalize ko x kk=W at*
  simp only[qf0]at a1 a2
  simp[hi,ai,zt,en,yz,xJ,w1',u2,a1,sh,w2',w3',u1,a2,w5]
include hr
theorem qij(hp:Hp):run cxX 73 [S k 1 (LI .u32 (nz l))] hp=some (S 2 1 (LI .u8 (zE l)),hp):=by
 have hla:qI l<4294967296:=by
  unfold qI
  by_cases h:l=[]
  ·rw[h];decide
  ·have:l.length-1<l.length:=by have:=zou.mpr h;omega
   rw[znb,zng this]
   exact h32 _ (znr _)
 have hk32:qA l<=32:=qqv _ _ hla
 have hh:=WU (qA l) l hr
 have h2:qI l/2^qA l<=2*l.length:=by
  by_cases h:l=[]
  ·subst h;exact Nat.le_of_eq (zq3 _)
  ·exact zqe (ZU (zou.mpr h) hla)
 obtain⟨v,lp⟩:=qte l k hl h32 (qA l) hk32 (.int .u32 (qI l:Int)) hp l 0 0 [] [] rfl qg (jI hr) qi qi qi
 have lw:=qzg l k hl (qI l) hla hp 33 0 rfl qe
 have ef:Vq l.length (qI l) 33 0=qA l:=rfl
 rw[ef]at lw
 have lb:=Qp (qA l) l
 have lb2:l.length*qA l<=65536*32:=zn5 hl hk32
 obtain⟨hq1,by1⟩:=XV (qO (qA l) l) 3 qe hp0
 obtain⟨hq2,by2⟩:=XV (qG (qA l) 0 l) 3 qe hp0
 have l1:(pk (qO (qA l) l)).length<1000000:=by rw[zZ];omega
 have l2:(pk (qG (qA l) 0 l)).length<1000000:=by rw[zZ];omega
 have u1:=jw l.length qe hp0
 have u2:=jw (qI l) qe hp0
 have u3:=jw (pk (qG (qA l) 0 l)).length qe hp0
 have q1:=qD (n:=l.length) qe
 have q2:=qD (n:=qI l) qe
 have q3:=qD (n:=(pk (qG (qA l) 0 l)).length) qe
 have w1:IntKind.u64.wrap (l.length:Int)=(l.length:Int):=qu qe qe
 have w2:IntKind.u64.wrap ((qI l:Nat):Int)=((qI l:Nat):Int):=qu qe qe
 have w3:IntKind.u64.wrap ((pk (qG (qA l) 0 l)).length:Int)=((pk (qG (qA l) 0 l)).length:Int):=qu qe qe
 have h8:B73_5 (S k 1 (LI .u32 (nz l))) (.int .i64 (l.length:Int)) (.int .u32 (qI l:Int)) hp=some (S 2 1 (LI .u8 (zE l)),hp):=by
  rw[zc3]
  simp at lw lp
  unfold zE
  have a1:=yL .u8 (uv l.length) 2 (.inr rfl) 1 qh 2 (uv (qI l)) qe
  have a2:=yL .u8 (uv l.length++uv (qI l)) 2 (.inr rfl) 1 qh 0 (pk (qO (qA l) l)) (by simp only[zm9];omega)
  have a3:=yL .u8 (uv l.length++uv (qI l)++pk (qO (qA l) l)) 2 (.inr rfl) 1 qh 2 (uv (pk (qG (qA l) 0 l)).length) (by simp only[zm9];omega)
  have a4:=yL .u8 (uv l.length++uv (qI l)++pk (qO (qA l) l)++uv (pk (qG (qA l) 0 l)).length) 2 (.inr rfl) 1 qh 0 (pk (qG (qA l) 0 l)) (by simp only[zm9];omega)
  generalize qA l=fk at*
  generalize qG fk 0 l=H at*
  generalize qO fk l=Lo at*
  generalize qI l=la at*
  have e1:B73_11 (S k 1 (LI .u32 (nz l))) (.int .i64 (l.length:Int)) (.int .u32 (la:Int)) (.int .i64 (fk:Int)) (S 2 1 (LI .u8 (ub Lo))) (S 2 1 (LI .u8 (ub H))) v (.int .i64 (l.length:Int)) hp=some (S 2 1 (LI .u8 (uv l.length++uv la++pk Lo++uv (pk H).length++pk H)),hp):=by
   rw[qd1]
   generalize pk Lo=PL at*
   generalize hB:pk H=PH at*
   generalize uv PH.length=U2 at*
   generalize uv l.length=U1 at*
   generalize uv la=U3 at*
   simp only[znv]at a1 a2 a3 a4⊢
   simp[yz,w1,u1,w2,u2,a1,by1,a2,by2,w3,u3,a3,a4]
  have e0:ub []=[]:=rfl
  rw[e1]at lp
  simp[lw,zc0]
  simpa[e0]using lp
 rw[E73]
 by_cases h:0<l.length
 ·have aj:=xP .u32 l (l.length-1) qe
  have el:l.getD (l.length-1) 0=qI l:=rfl
  have w9:IntKind.i64.wrap ((l.length:Int)-1)=((l.length-1:Nat):Int):=qj
  have h':(0:Int)<(l.length:Int):=qe
  rw[el]at aj
  have aj':(nz l)[(((l.length-1:Nat):Int)).toNat]?=some (qI l:Int):=by rw[znj];simpa[LI]using aj
  have g0:(0:Int)<=((l.length-1:Nat):Int):=qe
  generalize((l.length-1:Nat):Int)=j at*
  generalize qI l=la at*
  simp[h,w9,aj',g0,zt,h8]
 ·have e:l=[]:=znp.mp qe
  subst e
  have e:qI []=0:=rfl
  rw[e]at h8
  simpa using h8
end
theorem zcc(L:List Int)(j:Nat)(v:Int)(hj:j<L.length):qP (L.set j v)+(L.getD j 0).toNat*256^(L.length-1-j)=qP L+v.toNat*256^(L.length-1-j):=by
 have e:L=L.take j++([L.getD j 0]++L.drop (j+1)):=by
  rw[znb,zng hj,Option.getD_some,List.singleton_append,<-List.drop_eq_getElem_cons hj,zrf]
 have e2:L.set j v=L.take j++([v]++L.drop (j+1)):=by
  rw[List.set_eq_take_append_cons_drop,if_pos hj];rfl
 have one:∀z:Int,qP [z]=z.toNat:=fun z=>by simp[qP]
 have ld:(L.drop (j+1)).length=L.length-1-j:=by rw[zo7];omega
 have b1:qP L=qP (L.take j++([L.getD j 0]++L.drop (j+1))):=by rw[<-e]
 rw[e2,b1,kM,kM,kM,kM,one,one,ld]
 simp only[zm9,znl,ld]
 omega
theorem qrq:∀(a b:List Int),(∀x∈a,0<=x/\x<256)->(∀x∈b,0<=x/\x<256)->a.length=b.length->qP a=qP b->a=b
 |[],[],_,_,_,_=>rfl
 |[],_::_,_,_,h,_=>by cases h
 |_::_,[],_,_,h,_=>by cases h
 |x::a,y::b,ha,hb,hl,h=>by
  have hl':a.length=b.length:=by simpa using hl
  have one:∀z:Int,qP [z]=z.toNat:=fun z=>by simp[qP]
  have s1:qP (x::a)=x.toNat*256^a.length+qP a:=by rw[<-one,<-kM];rfl
  have s2:qP (y::b)=y.toNat*256^a.length+qP b:=by rw[<-one,hl',<-kM];rfl
  have l1:=VK a fun z hz=>ha z (by simp[hz])
  have l2:=VK b fun z hz=>hb z (by simp[hz])
  rw[<-hl']at l2
  rw[s1,s2]at h
  generalize 256^a.length=P at*
  have hq:x.toNat=y.toNat:=by
   have d1:(x.toNat*P+qP a)/P=x.toNat:=by rw[zof,Nat.mul_add_div qe,zqh l1];omega
   have d2:(y.toNat*P+qP b)/P=y.toNat:=by rw[zof,Nat.mul_add_div qe,zqh l2];omega
   rw[<-d1,<-d2,h]
  have hx:=ha x qg;have hy:=hb y qg
  have hxy:x=y:=qe
  rw[hq]at h
  have ih:=qrq a b (fun z hz=>ha z (by simp[hz])) (fun z hz=>hb z (by simp[hz])) hl' qe
  rw[hxy,ih]
def MR(hp:Hp)(b:Nat)(cs:List Nat):Prop:=b<hp.next/\hp.rd b 0=some (LI .i64 (nz cs))
theorem MR.fr{hp hp':Hp}{b:Nat}{cs:List Nat}{X:List Nat}(h:MR hp b cs)(f:Fm X hp hp')(h1:b∉X):MR hp' b cs:=
 ⟨znu h.1 f.1,by rw[f.rd h.1 h1];exact h.2⟩
theorem gC0(x:AV)(l:List AV):qs (x::l) 0=some x:=rfl
theorem gN1(x:AV):qp [x] 0 1=some [x]:=rfl
theorem pN1(x y:AV):qo [x] 0 [y]=some [y]:=rfl
theorem qn5:∀(f i b:Nat) (hp:Hp),i+f=64->1<=i->MR hp b (List.replicate i 1)->
 ∃hp' b',B143_3 (.int .i64 64) (.int .i64 (i:Int)) [S 2 1 []] [.ms b 0 0 i 1] hp=some (.agg [.ms b' 0 0 64 1],hp')/\MR hp' b' cs0:=by
 intro f
 induction f with
 |zero=>
  intro i b hp h h1 hm
  have e:i=64:=qe
  subst e
  refine⟨hp,b,?_,hm⟩
  rw[KP]
  simp[gN1,pN1]
 |succ f ih=>
  intro i b hp h h1 hm
  have hlt:(i:Int)<64:=qe
  have w1:IntKind.i64.wrap ((i:Int)+1)=((i+1:Nat):Int):=qj
  have hl:(nz (List.replicate i 1)).length=i:=qg
  have ap:=Jh .i64 (nz (List.replicate i 1)) 1 8 b qh (by rw[hl];omega) (by intro e;rw[e]at hl;simp at hl;omega) hp hm.2
  rw[hl]at ap
  have e1:nz (List.replicate i 1)++[1]=nz (List.replicate (i+1) 1):=by rw[zpo,yW];rfl
  rw[e1]at ap
  obtain⟨hp',b',a1,a2⟩:=ih (i+1) hp.next ((hp.del b).new (LI .i64 (nz (List.replicate (i+1) 1)))) qe qe ⟨by simp[Hp.del],qT (hp.del b) _⟩
  refine⟨hp',b',?_,a2⟩
  rw[KP]
  generalize nz (List.replicate (i+1) 1)=L at*
  generalize((i+1:Nat):Int)=I at*
  simp[hlt,gC0,ap,pN1,w1,a1]
theorem qsm(hp:Hp):∃hp' b,run cxX 143 [.sc (.int .i64 64)] hp=some (.agg [.ms b 0 0 64 1],hp')/\MR hp' b cs0:=by
 have ap:=Zl .i64 1 8 qh hp
 obtain⟨hp',b',a1,a2⟩:=qn5 63 1 hp.next (hp.new (LI .i64 [1])) rfl qe ⟨qg,qT _ _⟩
 refine⟨hp',b',?_,a2⟩
 rw[E143]
 have h3:B143_3 (.int .i64 64) (.int .i64 0) [S 2 1 []] [S 2 1 []] hp=some (.agg [.ms b' 0 0 64 1],hp'):=by
  rw[KP]
  generalize LI .i64 [1]=L at*
  simp[gC0,ap,pN1]
  simpa using a1
 simp[h3]
section
variable (hp:Hp)(b:Nat)(cs:List Nat)(h:MR hp b cs)(hl:cs.length=64)(hs:cs.sum<=1000000)
include h hl hs
theorem qn6:∀(f i:Nat),i+f=64->
 B144_3 (.int .i64 ((cs.take i).sum:Nat)) (.int .i64 (i:Int)) [.ms b 0 0 64 1] hp=some (.sc (.int .i64 (cs.sum:Nat)),hp):=by
 intro f
 induction f with
 |zero=>
  intro i e
  have e:i=64:=qe
  subst e
  have et:cs.take 64=cs:=by rw[<-hl,zpm]
  rw[qe5,et]
  simp[gC0]
 |succ f ih=>
  intro i e
  have hn:=ih (i+1) qe
  have ix:idx 64 (.int .i64 (i:Int))=some i:=zr .i64 qe
  have g:=jQ .i64 (nz cs) i qi
  rw[yX cs i qe]at g
  have st:=qQ cs i qe
  have sl:=qR cs (i+1)
  have w1:IntKind.i64.wrap ((((cs.take i).sum:Nat):Int)+((cs.getD i 0:Nat):Int))=(((cs.take (i+1)).sum:Nat):Int):=qj
  have w2:IntKind.i64.wrap ((i:Int)+1)=((i+1:Nat):Int):=qj
  have hlt:(i:Int)<64:=qe
  rw[<-hn,qe5]
  have h2:=h.2
  generalize(((cs.take i).sum:Nat):Int)=A at*
  generalize(((cs.take (i+1)).sum:Nat):Int)=A1 at*
  generalize((cs.getD i 0:Nat):Int)=B at*
  generalize((i+1:Nat):Int)=I at*
  have hlt':i<64:=qe
  simp[gC0,hlt',ix,h2,g,w1,w2]
theorem qci:run cxX 144 [.agg [.ms b 0 0 64 1]] hp=some (.sc (.int .i64 (cs.sum:Nat)),hp):=by
 have lp:=qn6 hp b cs h hl hs 64 0 rfl
 rw[E144]
 simp at lp
 simp[lp]
theorem qg2(x:Nat)(hx:x<64):∀(f i:Nat),i+f=x->
 B146_3 (.int .i64 (x:Int)) (.int .i64 ((cs.take i).sum:Nat)) (.int .i64 (i:Int)) [.ms b 0 0 64 1] hp=some (.sc (.int .i64 ((cs.take x).sum:Nat)),hp):=by
 intro f
 induction f with
 |zero=>
  intro i e
  have e:i=x:=qe
  subst e
  rw[qe2]
  simp
 |succ f ih=>
  intro i e
  have hn:=ih (i+1) qe
  have ix:idx 64 (.int .i64 (i:Int))=some i:=zr .i64 qe
  have g:=jQ .i64 (nz cs) i qi
  rw[yX cs i qe]at g
  have st:=qQ cs i qe
  have sl:=qR cs (i+1)
  have w1:IntKind.i64.wrap ((((cs.take i).sum:Nat):Int)+((cs.getD i 0:Nat):Int))=(((cs.take (i+1)).sum:Nat):Int):=qj
  have w2:IntKind.i64.wrap ((i:Int)+1)=((i+1:Nat):Int):=qj
  have hlt:(i:Int)<(x:Int):=qe
  rw[<-hn,qe2]
  have h2:=h.2
  generalize(((cs.take i).sum:Nat):Int)=A at*
  generalize(((cs.take (i+1)).sum:Nat):Int)=A1 at*
  generalize((cs.getD i 0:Nat):Int)=B at*
  generalize((i+1:Nat):Int)=I at*
  simp[gC0,hlt,ix,h2,g,w1,w2]
theorem qip(x:Nat)(hx:x<64):run cxX 146 [.agg [.ms b 0 0 64 1],.sc (.int .i64 (x:Int))] hp=some (.sc (.int .i64 ((cs.take x).sum:Nat)),hp):=by
 have lp:=qg2 hp b cs h hl hs x hx x 0 qe
 rw[E146]
 simp at lp
 simp[lp]
end
theorem qn4(d:List Nat)(hd:d.length=64)(hs:d.sum<=1000000)(b:Nat):∀(f i:Nat) (hp:Hp),i+f=64->b<hp.next->hp.rd b 0=some (LI .i64 (nz (hf d i)))->
 ∃hp',B147_5 (.int .i64 (i:Int)) [S 2 1 []] [.ms b 0 0 64 1] hp=some (.agg [.ms b 0 0 64 1],hp')/\MR hp' b (d.map fun n=>(n+1)/2)/\hp'.next=hp.next/\∀c,c≠b->hp'.get c=hp.get c:=by
 intro f
 induction f with
 |zero=>
  intro i hp hi h1 h2
  have e:i=64:=qe
  subst e
  have ef:hf d 64=d.map fun n=>(n+1)/2:=by rw[<-hd,zbb]
  rw[ef]at h2
  refine⟨hp,?_,⟨h1,h2⟩,rfl,fun _ _=>rfl⟩
  rw[qe1]
  simp[gC0,qe0,gN1,pN1]
 |succ f ih=>
  intro i hp hi h1 h2
  have hid:i<d.length:=qe
  have hlt:(i:Int)<64:=qe
  have ix:idx 64 (.int .i64 (i:Int))=some i:=zr .i64 qe
  have g:=jQ .i64 (nz (hf d i)) i qi
  rw[yX _ i qi,zba d i hid]at g
  have hx:d.getD i 0<=1000000:=by
   have:=qQ d i hid
   have:=qR d (i+1)
   omega
  have p:=xC .i64 (nz (hf d i)) i (((d.getD i 0+1)/2:Nat):Int) qi
  have es:(nz (hf d i)).set i (((d.getD i 0+1)/2:Nat):Int)=nz (hf d (i+1)):=by
   rw[qhe d i hid];unfold nz;rw[zrz]
  rw[es]at p
  have w1:IntKind.i64.wrap (((d.getD i 0:Nat):Int)+1)=((d.getD i 0+1:Nat):Int):=qj
  have q2:∀t o o',qy Tryz.prog .quo t o o' (.int .i64 ((d.getD i 0+1:Nat):Int)) (.int .i64 2)=some (.int .i64 (((d.getD i 0+1)/2:Nat):Int)):=by
   intro t o o'
   rw[yB _ _ _ _ _ _ _ qe,zoi qe,qm qe qe]
   rfl
  have w4:IntKind.i64.wrap ((i:Int)+1)=((i+1:Nat):Int):=qj
  obtain⟨hp2,a1,a2,a3,a4⟩:=ih (i+1) (hp.put b 0 (LI .i64 (nz (hf d (i+1))))) qe h1 (qr _ _ _)
  refine⟨hp2,?_,a2,by rw[a3];rfl,fun c c1=>by rw[a4 c c1];simp[Hp.put,c1]⟩
  rw[<-a1,qe1]
  generalize nz (hf d (i+1))=L1 at*
  generalize nz (hf d i)=L0 at*
  generalize(((d.getD i 0+1)/2:Nat):Int)=y2 at*
  generalize((d.getD i 0+1:Nat):Int)=y1 at*
  generalize((d.getD i 0:Nat):Int)=y0 at*
  generalize((i+1:Nat):Int)=I at*
  have hlt':i<64:=qe
  simp[gC0,hlt',ix,h2,g,w1,q2,p,w4]
theorem qva(K:IntKind)(l:List Int)(b:Nat)(hb:0<b/\b<=1000)(x:Nat)(hl:l.length<=1000000)(hne:l≠[])(hp:Hp)(hx:hp.rd x 0=some (LI K l)):
 jZ b 1 (S 1 1 []) (.ms x 0 0 l.length 1) hp=some (.ms hp.next 0 0 l.length 1,hp.new (LI K l)):=by
 have e:=YO K l hp x 0 l.length hx qe
 rw[zpa,zpm,<-Yg hp 1 1 (LI K l)]at e
 have h:=we K l 1 b hb hl hne hp
 unfold jZ at h⊢
 rw[e]
 exact h
theorem qsl(hp:Hp)(b x:Nat)(cs:List Nat)(h:MR hp b cs)(hm:okM cs)(hx:x<64):
 ∃hp' b',run cxX 147 [.agg [.ms b 0 0 64 1],.sc (.int .i64 (x:Int))] hp=some (.agg [.ms b' 0 0 64 1],hp')/\MR hp' b' (YJ cs x)/\hp.next<=b'/\Fm [] hp hp':=by
 obtain⟨m1,m2,m3⟩:=hm
 have hnl:(nz cs).length=64:=by simp[m1]
 have ap:=qva .i64 (nz cs) 8 qh b qe (by intro e;rw[e]at hnl;cases hnl) hp h.2
 rw[hnl]at ap
 have ix:idx 64 (.int .i64 (x:Int))=some x:=zr .i64 qe
 have g:=jQ .i64 (nz cs) x qi
 rw[yX cs x qe]at g
 have st:=qQ cs x qe
 have sl:=qR cs (x+1)
 have ss:=qf4 cs x (cs.getD x 0+24) qe
 have w1:IntKind.i64.wrap (((cs.getD x 0:Nat):Int)+24)=((cs.getD x 0+24:Nat):Int):=qj
 have p:=xC .i64 (nz cs) x ((cs.getD x 0+24:Nat):Int) qi
 have es:(nz cs).set x ((cs.getD x 0+24:Nat):Int)=nz (cs.set x (cs.getD x 0+24)):=by unfold nz;rw[zrz]
 rw[es]at p
 have dl:(cs.set x (cs.getD x 0+24)).length=64:=by simp[m1]
 have rn:=qT hp (LI .i64 (nz cs))
 have f0:Fm [] hp ((hp.new (LI .i64 (nz cs))).put hp.next 0 (LI .i64 (nz (cs.set x (cs.getD x 0+24))))):=by
  refine⟨Nat.le_succ _,fun c hc _=>?_⟩
  have:c≠hp.next:=qe
  simp[Hp.put,Hp.new,this]
 have rm:MR ((hp.new (LI .i64 (nz cs))).put hp.next 0 (LI .i64 (nz (cs.set x (cs.getD x 0+24))))) hp.next (cs.set x (cs.getD x 0+24)):=⟨zqt _,qr _ _ _⟩
 have al:=qci _ hp.next (cs.set x (cs.getD x 0+24)) rm dl qe
 unfold YJ
 generalize hd:cs.set x (cs.getD x 0+24)=d at*
 generalize hq:(hp.new (LI .i64 (nz cs))).put hp.next 0 (LI .i64 (nz d))=hq1 at*
 by_cases hle:d.sum<=4096
 ·rw[if_pos hle]
  refine⟨hq1,hp.next,?_,rm,znd _,f0⟩
  have hle':¬((4096:Int)<((d.sum:Nat):Int)):=qe
  rw[E147]
  generalize((d.sum:Nat):Int)=D at*
  generalize((cs.getD x 0+24:Nat):Int)=y1 at*
  generalize((cs.getD x 0:Nat):Int)=y0 at*
  simp[gC0,ap,pN1,ix,rn,g,w1,p,hq,gN1,al,hle',qe0]
 ·rw[if_neg hle]
  have e0:hf d 0=d:=by unfold hf;simp
  obtain⟨hp2,a1,a2,a3,a4⟩:=qn4 d dl qe hp.next 64 0 hq1 rfl rm.1 (by rw[e0];exact rm.2)
  refine⟨hp2,hp.next,?_,a2,znd _,by rw[a3];exact f0.1,fun c hc hn=>by rw[a4 c qe,f0.2 c hc hn]⟩
  have hle':(4096:Int)<((d.sum:Nat):Int):=qe
  rw[E147]
  generalize((d.sum:Nat):Int)=D at*
  generalize((cs.getD x 0+24:Nat):Int)=y1 at*
  generalize((cs.getD x 0:Nat):Int)=y0 at*
  simp at a1
  simp[gC0,ap,pN1,ix,rn,g,w1,p,hq,gN1,al,hle',a1]
def LR(hp:Hp)(b:Nat)(L:List Int):Prop:=b<hp.next/\hp.rd b 0=some (LI .u8 L)/\∀x∈L,0<=x/\x<256
theorem qti(b n T:Nat)(hn:n<=1000000)(hT:T<256^n):∀(i c:Nat) (L:List Int) (hp:Hp),L.length=n->i<=n->c<18446744073709551616->LR hp b L->qP L+c*256^(n-i)=T->
 ∃hp' L',B145_3 (.ms b 0 0 n 1) (.int .u64 (c:Int)) (.int .i64 ((i:Int)-1)) hp=some (.ms b 0 0 n 1,hp')/\LR hp' b L'/\L'.length=n/\qP L'=T/\hp'.next=hp.next/\∀z,z≠b->hp'.get z=hp.get z:=by
 intro i
 induction i with
 |zero=>
  intro c L hp hl hi hc hL hb
  have c0:c=0:=by
   rcases zqd c with e|e
   ·exact e
   ·have:1*256^(n-0)<=c*256^(n-0):=znw _ e
    rw[zry]at this hb
    omega
  subst c0
  refine⟨hp,L,?_,hL,hl,by simpa using hb,rfl,fun _ _=>rfl⟩
  rw[qe4]
  simp[qe3]
 |succ i ih=>
  intro c L hp hl hi hc hL hb
  have e1:((i+1:Nat):Int)-1=(i:Int):=qe
  rw[qe4,e1]
  by_cases hc0:0<c
  ·obtain⟨L1,L2,L3⟩:=hL
   have hi':i<L.length:=qe
   have ix:idx n (.int .i64 (i:Int))=some i:=zr .i64 qe
   have g:=jQ .u8 L i qe
   have hx:0<=L.getD i 0/\L.getD i 0<256:=by
    rw[znb,zng hi']
    exact L3 _ (znr _)
   obtain⟨y,hy⟩:∃y:Nat,L.getD i 0=(y:Int):=⟨(L.getD i 0).toNat,qe⟩
   rw[hy]at g hx
   have r1:=Vy c 256 qh
   have r2:=Vy (y+c%256) 256 qh
   have q1:=Xa c 256 qh hc
   have q2:=Xa (y+c%256) 256 qh qe
   have w0:IntKind.u64.wrap (y:Int)=(y:Int):=qu qe qe
   have w1:IntKind.u64.wrap ((y:Int)+((c%256:Nat):Int))=((y+c%256:Nat):Int):=by rw[qu]<;>omega
   have w2:IntKind.u8.wrap (((y+c%256)%256:Nat):Int)=(((y+c%256)%256:Nat):Int):=zB qe qe
   have w3:IntKind.u64.wrap (((c/256:Nat):Int)+(((y+c%256)/256:Nat):Int))=((c/256+(y+c%256)/256:Nat):Int):=by rw[qu]<;>omega
   have w4:IntKind.i64.wrap ((i:Int)-1)=(i:Int)-1:=qm qe qe
   have p:=xC .u8 L i (((y+c%256)%256:Nat):Int) qe
   have bs:=zcc L i (((y+c%256)%256:Nat):Int) hi'
   rw[hy,znj,znj,hl]at bs
   have en:n-1-i=n-(i+1):=qe
   have en2:n-i=n-(i+1)+1:=qe
   have hb':qP (L.set i (((y+c%256)%256:Nat):Int))+(c/256+(y+c%256)/256)*256^(n-i)=T:=by
    rw[en]at bs
    rw[en2,zo4]
    have k1:c=c/256*256+c%256:=qe
    have k2:y+c%256=(y+c%256)/256*256+(y+c%256)%256:=qe
    generalize 256^(n-(i+1))=P at*
    generalize(y+c%256)/256=u at*
    generalize(y+c%256)%256=v at*
    generalize c/256=c1 at*
    generalize c%256=c2 at*
    have e3:(c1+u)*(P*256)=c1*256*P+u*256*P:=by rw[zof P 256,<-Nat.mul_assoc,zpy,zpy]
    have e4:y*P+c2*P=u*256*P+v*P:=by rw[<-Nat.add_mul,<-Nat.add_mul,k2]
    have e5:c*P=c1*256*P+c2*P:=by rw[<-Nat.add_mul,<-k1]
    omega
   have hL':LR (hp.put b 0 (LI .u8 (L.set i (((y+c%256)%256:Nat):Int)))) b (L.set i (((y+c%256)%256:Nat):Int)):=by
    refine⟨L1,qr _ _ _,fun x hx'=>?_⟩
    rcases zp3 hx' with h|h
    ·exact L3 x h
    ·rw[h];omega
   obtain⟨hp',L',a1,a2,a3,a4,a5,a6⟩:=ih (c/256+(y+c%256)/256) _ _ (by simp[hl]) qe qe hL' hb'
   refine⟨hp',L',?_,a2,a3,a4,by rw[a5];rfl,fun z hz=>by rw[a6 z hz];simp[Hp.put,hz]⟩
   rw[<-a1]
   have hc0':(0:Int)<(c:Int):=qe
   simp only[zp2]at r1 r2 q1 q2
   have h5:B145_5 (.ms b 0 0 n 1) (.int .u64 (c:Int)) (.int .i64 (i:Int)) hp=B145_3 (.ms b 0 0 n 1) (.int .u64 ((c/256+(y+c%256)/256:Nat):Int)) (.int .i64 ((i:Int)-1)) (hp.put b 0 (LI .u8 (L.set i (((y+c%256)%256:Nat):Int)))):=by
    rw[qw2]
    clear a1 hL' hb' bs ih
    generalize((c/256+(y+c%256)/256:Nat):Int)=C3 at*
    generalize(((y+c%256)%256:Nat):Int)=v at*
    generalize(((y+c%256)/256:Nat):Int)=u at*
    generalize((y+c%256:Nat):Int)=s at*
    generalize((c/256:Nat):Int)=c1 at*
    generalize((c%256:Nat):Int)=c2 at*
    simp[ix,L2,g,w0,r1,w1,r2,w2,p,q1,q2,w3,w4]
   clear a1 hL' hb' bs ih p w2 w3 a5 a6
   generalize((c/256+(y+c%256)/256:Nat):Int)=C3 at*
   generalize(((y+c%256)%256:Nat):Int)=v at*
   simp[hc0,h5]
  ·have c0:c=0:=qe
   subst c0
   refine⟨hp,L,?_,hL,hl,by simpa using hb,rfl,fun _ _=>rfl⟩
   simp[qe3]
theorem qsk(b c:Nat)(L:List Int)(hp:Hp)(hl:L.length<=1000000)(hc:c<18446744073709551616)(hL:LR hp b L)(hT:qP L+c<256^L.length):
 ∃hp' L',run cxX 145 [.ms b 0 0 L.length 1,.sc (.int .u64 (c:Int))] hp=some (.ms b 0 0 L.length 1,hp')/\LR hp' b L'/\L'.length=L.length/\qP L'=qP L+c/\hp'.next=hp.next/\∀z,z≠b->hp'.get z=hp.get z:=by
 obtain⟨hp',L',a1,a2⟩:=qti b L.length (qP L+c) hl hT L.length c L hp rfl (znd _) hc hL qg
 refine⟨hp',L',?_,a2⟩
 have w1:IntKind.i64.wrap ((L.length:Int)-1)=(L.length:Int)-1:=qm qe qe
 rw[E145]
 simp[w1,a1]
theorem LR.fr{hp hp':Hp}{b:Nat}{L:List Int}{X:List Nat}(h:LR hp b L)(f:Fm X hp hp')(h1:b∉X):LR hp' b L:=
 ⟨znu h.1 f.1,by rw[f.rd h.1 h1];exact h.2.1,h.2.2⟩
structure CQ (hp : Hp) (lo mb : Nat) (L : List Int) (cs : List Nat) (s : En) : Prop where
 lr:LR hp lo L
 mr:MR hp mb cs
 ne:lo≠mb
 v:qP L=eV s
 k:L.length=eK s+4
 up:eV s+s.width<=256^L.length
theorem quz(X:AV)(v8 v9:Value)(b5:List AV)(w:Int)(hp:Hp)(hw:w<16777216)(W:Int)(w1:IntKind.u64.wrap (w*256)=W)(lo n:Nat)(Y:AV)(hp':Hp)(ap:jZ 1 1 (.ms lo 0 0 n 1) (S 1 1 [.sc (.int .u8 0)]) hp=some (Y,hp')):
 B72_11 X (.ms lo 0 0 n 1) (.int .u64 w) v8 v9 b5 hp=B72_11 X Y (.int .u64 W) v8 v9 b5 hp':=by
 rw[qd2]
 simp[hw,w1,ap]
theorem qu0(X x6:AV)(i:Int)(v9:Value)(w:Int)(hp:Hp)(hw:¬(w<16777216))(i':Int)(w1:IntKind.i64.wrap (i+1)=i')(mb mb':Nat)(hp':Hp)(d1:run cxX 147 [.agg [.ms mb 0 0 64 1],.sc v9] hp=some (.agg [.ms mb' 0 0 64 1],hp')):
 B72_11 X x6 (.int .u64 w) (.int .i64 i) v9 [.ms mb 0 0 64 1] hp=B72_5 X x6 (.int .u64 w) (.int .i64 i') [.ms mb' 0 0 64 1] hp':=by
 rw[qd2]
 simp[hw,gN1,pN1,d1,w1]
theorem qux(k mb:Nat)(X:AV)(v8 v9:Value)(cs:List Nat):∀(f:Nat) (s:En) (lo:Nat) (L:List Int) (hp:Hp),CQ hp lo mb L cs s->ZN s s.width->s.width<=4294967296->L.length+f<=900000->
 ∃hp' lo' L',B72_11 X (.ms lo 0 0 L.length 1) (.int .u64 (s.width:Int)) v8 v9 [.ms mb 0 0 64 1] hp=B72_11 X (.ms lo' 0 0 L'.length 1) (.int .u64 ((zG f s).width:Nat)) v8 v9 [.ms mb 0 0 64 1] hp'/\
  CQ hp' lo' mb L' cs (zG f s)/\L'.length<=L.length+f:=by
 intro f
 induction f with
 |zero=>intro s lo L hp h ho hw hl;exact⟨hp,lo,L,rfl,h,znd _⟩
 |succ f ih=>
  intro s lo L hp h ho hw hl
  unfold zG
  by_cases hlt:s.width<16777216
  ·rw[if_pos hlt]
   have ho':ZN (XM s (s.width*256)) s.width:=ho
   obtain⟨a1,a2,a3,a4⟩:=YP (XM s (s.width*256)) s.width ho' qe
   have a4:(sh (XM s (s.width*256))).width=s.width*256:=a4
   rw[(Kr s _).1]at a2
   rw[(Kr s _).2]at a3
   have hne:L≠[]:=by intro e;have:=h.k;rw[e]at this;simp at this
   have ap:=Jh .u8 L 0 1 lo qh qe hne hp h.lr.2.1
   have fm:Fm [lo] hp ((hp.del lo).new (LI .u8 (L++[0]))):=Fm.delNew hp lo _ qg
   have cq:CQ ((hp.del lo).new (LI .u8 (L++[0]))) hp.next mb (L++[0]) cs (sh (XM s (s.width*256))):=by
    refine⟨⟨by simp[Hp.del],qT (hp.del lo) _,fun x hx=>?_⟩,h.mr.fr fm (by simp;exact fun e=>h.ne e.symm),by have:=h.mr.1;omega,?_,?_,?_⟩
    ·rcases zoj.mp hx with q|q
     ·exact h.lr.2.2 x q
     ·simp at q;omega
    ·have e0:(0:Int).toNat=0:=rfl
     rw[yk,h.v,a2,e0,zoy]
    ·have q:=h.k
     rw[a3,zm9,znl];omega
    ·rw[a2,a4,zm9,znl,zo4,<-Nat.add_mul]
     exact znw _ h.up
   obtain⟨hp',lo',L',b1,b2,b3⟩:=ih (sh (XM s (s.width*256))) hp.next (L++[0]) _ cq (by rw[a4];exact a1) (by rw[a4];omega) qi
   refine⟨hp',lo',L',?_,b2,by simp at b3;omega⟩
   have w1:IntKind.u64.wrap ((s.width:Int)*256)=((s.width*256:Nat):Int):=by rw[qu]<;>omega
   rw[<-b1,a4,zm9,znl]
   exact quz X v8 v9 _ _ hp qe _ w1 _ _ _ _ ap
  ·rw[if_neg hlt]
   exact⟨hp,lo,L,rfl,h,Nat.le_add_right _ _⟩
theorem quy(l:List Nat)(k:Nat)(h64:∀x∈l,x<64)(hl:l.length<=100000):∀(r:List Nat) (i:Nat) (cs:List Nat) (s:En) (lo mb:Nat) (L:List Int) (hp:Hp),l.drop i=r->i+r.length=l.length->CQ hp lo mb L cs s->okM cs->ZN s s.width->
 16777216<=s.width/\s.width<=4294967296->L.length+4*r.length<=900000->
 ∃hp' L',B72_5 (S k 1 (LI .u8 (nz l))) (.ms lo 0 0 L.length 1) (.int .u64 (s.width:Int)) (.int .i64 (i:Int)) [.ms mb 0 0 64 1] hp=some (S 0 1 (LI .u8 L'),hp')/\
  qP L'=eV (enc cs s r)/\L'.length=eK (enc cs s r)+4/\∀x∈L',0<=x/\x<256:=by
 intro r
 induction r with
 |nil=>
  intro i cs s lo mb L hp h hil hq hm ho hw hb
  simp at hil
  have fz:=Zg .u8 L hp lo hq.lr.2.1
  refine⟨hp.del lo,L,?_,hq.v,hq.k,hq.lr.2.2⟩
  rw[qly]
  simp[hil,fz]
 |cons x r ih=>
  intro i cs s lo mb L hp h hil hq hm ho hw hb
  obtain⟨e1,e2,hi,e3⟩:=qt h
  simp only[zna]at hil hb
  have hx:x<64:=by rw[<-e3];exact h64 _ (znr _)
  obtain⟨m1,m2,m3⟩:=hm
  have al:=qci hp mb cs hq.mr m1 qe
  have stt:=qip hp mb cs hq.mr m1 qe x hx
  have ht:=qQ cs x qe
  have hta:=qR cs (x+1)
  have hn:1<=cs.getD x 0:=by
   rw[znb,zng qe]
   exact m3 _ (znr _)
  have hmul:s.width/cs.sum*cs.sum<=s.width:=zop _ _
  have hsum:s.width/cs.sum*(cs.take x).sum+s.width/cs.sum*cs.getD x 0<=s.width:=by
   rw[<-Nat.mul_add,<-ht]
   exact zon (zok _ hta) hmul
  obtain⟨d,b1,b2,b3,b4,b5,b6,b7⟩:=Zm s cs x ⟨m1,m2,m3⟩ hx ho hw
  have up:=hq.up
  have vv:=hq.v
  obtain⟨h4,L4,p1,p2,p3,p4,p5,p6⟩:=qsk lo (s.width/cs.sum*(cs.take x).sum) L hp qe qe hq.lr (by rw[vv];omega)
  have mr4:MR h4 mb cs:=⟨by rw[p5];exact hq.mr.1,by rw[xO (p6 mb (fun e=>hq.ne e.symm))];exact hq.mr.2⟩
  have okn:ZN (xL s cs x) (xL s cs x).width:=by
   obtain⟨h1,h2,h3,h4⟩:=ho
   refine⟨?_,h2,b7,fun q=>?_⟩
   ·show s.low+s.width/cs.sum*(cs.take x).sum+s.width/cs.sum*cs.getD x 0<=_;omega
   ·have:=h4 q
    show s.low+s.width/cs.sum*(cs.take x).sum+s.width/cs.sum*cs.getD x 0<=_;omega
  have ev:eV (xL s cs x)=eV s+s.width/cs.sum*(cs.take x).sum:=by
   show qP (bl s)*4294967296+(s.low+_)=qP (bl s)*4294967296+s.low+_
   omega
  have cq4:CQ h4 lo mb L4 cs (xL s cs x):=⟨p2,mr4,hq.ne,by rw[p4,vv,ev],by rw[p3];exact hq.k,by rw[ev,p3];show _+s.width/cs.sum*cs.getD x 0<=_;omega⟩
  obtain⟨h5,lo5,L5,c1,c2,c3⟩:=qux k mb (S k 1 (LI .u8 (nz l))) (.int .i64 (i:Int)) (.int .i64 (x:Int)) cs 4 (xL s cs x) lo L4 h4 cq4 okn (by show s.width/cs.sum*cs.getD x 0<=_;omega) qe
  obtain⟨h6,mb6,d1,d2,d3,d4⟩:=qsl h5 mb x cs c2.mr ⟨m1,m2,m3⟩ hx
  have cq6:CQ h6 lo5 mb6 L5 (YJ cs x) (zG 4 (xL s cs x)):=⟨c2.lr.fr d4 qg,d2,by have:=c2.lr.1;omega,c2.v,c2.k,c2.up⟩
  obtain⟨hp',L',f1,f2⟩:=ih (i+1) (YJ cs x) (zG 4 (xL s cs x)) lo5 mb6 L5 h6 e2 qe cq6 (QO ⟨m1,m2,m3⟩ hx) b4 ⟨b5,b6⟩ qe
  refine⟨hp',L',?_,f2⟩
  rw[<-f1,qly]
  have c11:B72_11 (S k 1 (LI .u8 (nz l))) (.ms lo5 0 0 L5.length 1) (.int .u64 ((zG 4 (xL s cs x)).width:Nat)) (.int .i64 (i:Int)) (.int .i64 (x:Int)) [.ms mb 0 0 64 1] h5=
   B72_5 (S k 1 (LI .u8 (nz l))) (.ms lo5 0 0 L5.length 1) (.int .u64 ((zG 4 (xL s cs x)).width:Nat)) (.int .i64 ((i+1:Nat):Int)) [.ms mb6 0 0 64 1] h6:=by
   have w1:IntKind.i64.wrap ((i:Int)+1)=((i+1:Nat):Int):=qj
   exact qu0 _ _ _ _ _ h5 qe _ w1 mb mb6 h6 d1
  rw[c11]at c1
  rw[<-c1]
  have ai:=xP .u8 l i hi
  rw[show l.getD i 0=x by rw[znb,e1];rfl]at ai
  have en:∀h,(nz l)[i]'h=(x:Int):=fun h=>by simp[nz,e3]
  have w0:IntKind.i64.wrap (x:Int)=(x:Int):=qm qe qe
  have w2:IntKind.u64.wrap ((cs.sum:Nat):Int)=((cs.sum:Nat):Int):=qu qe qe
  have q1:=Xa s.width cs.sum qe qe
  have w3:IntKind.u64.wrap (((cs.take x).sum:Nat):Int)=(((cs.take x).sum:Nat):Int):=qu qe qe
  have w4:IntKind.u64.wrap (((s.width/cs.sum:Nat):Int)*(((cs.take x).sum:Nat):Int))=((s.width/cs.sum*(cs.take x).sum:Nat):Int):=by rw[<-Int.natCast_mul,qu]<;>omega
  have w5:IntKind.u64.wrap ((cs.getD x 0:Nat):Int)=((cs.getD x 0:Nat):Int):=qu qe qe
  have w6:IntKind.u64.wrap (((s.width/cs.sum:Nat):Int)*((cs.getD x 0:Nat):Int))=((s.width/cs.sum*cs.getD x 0:Nat):Int):=by rw[<-Int.natCast_mul,qu]<;>omega
  have ix:idx 64 (.int .i64 (x:Int))=some x:=zr .i64 qe
  have g:=jQ .i64 (nz cs) x qi
  rw[yX cs x qe]at g
  have m4:=mr4.2
  have ew:(xL s cs x).width=s.width/cs.sum*cs.getD x 0:=rfl
  rw[ew,p3]
  clear c1 c11 f1 f2 cq6 d1 d2 d4 c2 c3 cq4 ev okn mr4 b1 b2 b3 b4 ho hq ih
  generalize((s.width/cs.sum*cs.getD x 0:Nat):Int)=W2 at*
  generalize((s.width/cs.sum*(cs.take x).sum:Nat):Int)=W1 at*
  generalize((s.width/cs.sum:Nat):Int)=part at*
  generalize((cs.getD x 0:Nat):Int)=Vr at*
  generalize(((cs.take x).sum:Nat):Int)=start at*
  generalize((cs.sum:Nat):Int)=sm at*
  simp[hi,ai,en,zt,w0,gN1,al,w2,q1,stt,w3,w4,p1,gC0,ix,m4,g,w5,w6]
theorem XS(s:En)(h:∀x∈s.out,0<=x/\x<256):∀x∈(sh s).out,0<=x/\x<256:=by
 unfold sh
 split
 ·intro x hx
  simp only[zoj,List.mem_replicate]at hx
  rcases hx with(q|q)|q
  ·exact h x q
  ·split at q
   ·simp at q;omega
   ·simp at q
  ·omega
 ·exact h
theorem zal:∀(f:Nat) (s:En),(∀x∈s.out,0<=x/\x<256)->∀x∈(zG f s).out,0<=x/\x<256:=by
 intro f
 induction f with
 |zero=>intro s h;exact h
 |succ f ih=>
  intro s h
  unfold zG
  split
  ·exact ih _ (XS _ h)
  ·exact h
theorem zgi:∀(l cs:List Nat) (s:En),(∀x∈s.out,0<=x/\x<256)->∀x∈(enc cs s l).out,0<=x/\x<256:=by
 intro l
 induction l with
 |nil=>intro cs s h;exact h
 |cons y r ih=>intro cs s h;exact ih _ _ (zal 4 _ h)
theorem zgw(l:List Nat):∀x∈jk l,0<=x/\x<256:=
 XS _ (XS _ (XS _ (XS _ (XS _ (zgi l cs0 en0 (fun x hx=>by cases hx))))))
theorem qik(l:List Nat)(k:Nat)(hl:l.length<=100000)(h64:∀x∈l,x<64)(hp:Hp):∃hp',run cxX 72 [.sc (.int .i64 64),S k 1 (LI .u8 (nz l))] hp=some (S 0 1 (LI .u8 (jk l)),hp'):=by
 obtain⟨h1,mb,a1,a2⟩:=qsm hp
 have z:=Jm .u8 4
 have mk:xd 1 1 (4:Int) 4=some ():=qh
 have cq:CQ (h1.new (LI .u8 (List.replicate 4 0))) h1.next mb (List.replicate 4 0) cs0 en0:=by
  refine⟨⟨qg,qT _ _,fun x hx=>by rw[zo9 hx];decide⟩,a2.fr (Fm.new [] _ _) qg,by have:=a2.1;omega,qh,qh,qh⟩
 obtain⟨hp',L',b1,b2,b3,b4⟩:=quy l k h64 hl l 0 cs0 en0 h1.next mb (List.replicate 4 0) _ rfl qg cq qju qjv ⟨qh,qh⟩ qi
 obtain⟨n1,n2⟩:=JM l h64
 have e:L'=jk l:=qrq L' (jk l) b4 (zgw l) qe qe
 refine⟨hp',?_⟩
 rw[E72,<-e]
 have ew:en0.width=4294967295:=rfl
 rw[ew]at b1
 simp only[zrg]at b1
 generalize LI .u8 (List.replicate 4 0)=Z at*
 have z':xR 4 [.int .u8 0]=Z:=z
 simp at b1
 simp[a1,pN1,mk,z',b1]
theorem Jo(K:IntKind)(hp:Hp)(k:Nat)(m:List Int):JQ hp 1 (S k 1 (LI K m))=some (LI K m):=Yg hp k 1 _
theorem vt(K:IntKind)(l m:List Int)(k b:Nat)(hk:k=1\/k=2)(hb:0<b/\b<=1000)(s:AV)(hp:Hp)(hl:l≠[])(hm:m≠[])(h:l.length+m.length<=1000000)(hs:JQ hp 1 s=some (LI K m)):
 jZ b 1 (S k 1 (LI K l)) s hp=some (S k 1 (LI K (l++m)),hp):=by
 have ap:=YG b 1 k (LI K l) (LI K m) 1 hk (qad K m) (.inr (yZ hb.1 (by
  simp only[kR]
  have:(l.length+m.length)*b<=1000000*1000:=zn5 h hb.2
  omega)))
 unfold jp at ap
 rw[qx9]at ap
 simp only[znc]at ap
 have e:LI K l++LI K m=LI K (l++m):=by simp[LI]
 rw[e]at ap
 have hv:(LI K m).all vl=true:=vlI K m
 unfold jZ
 rw[hs]
 cases l with
 |nil=>exact absurd rfl hl
 |cons x l=>
  cases m with
  |nil=>exact absurd rfl hm
  |cons y m=>
   have e1:LI K (x::l)= .sc (.int K x)::LI K l:=rfl
   have e2:LI K (y::m)= .sc (.int K y)::LI K m:=rfl
   rw[e1,e2]at ap
   rw[e2]at hv
   have es:S k 1 (LI K (x::l))= .us 1 (.sc (.int K x)::LI K l):=by rcases hk with rfl|rfl<;>rfl
   rw[es,e2]
   rw[<-e1,es]at ap
   show(yC (.sc (.int K y)::LI K m)).bind (fun _=>(qla b 1 (.us 1 (.sc (.int K x)::LI K l)) (.sc (.int K y)::LI K m)).bind fun r=>some (r,hp))=_
   rw[ap,zaf,Zi hv]
   rfl
theorem zg6(K:IntKind)(m:List Int)(b:Nat)(hb:0<b/\b<=1000)(hp:Hp)(hm:m≠[])(h:m.length<=1000000):jZ b 1 (S 2 1 []) (S 1 1 (LI K m)) hp=some (.ms hp.next 0 0 m.length 1,hp.new (LI K m)):=by
 unfold jZ
 rw[Jo]
 cases m with
 |nil=>exact absurd rfl hm
 |cons y m=>
  have hf:xN b 1 (LI K (y::m)).length=true:=yZ hb.1 (by
   rw[kR]
   have:(y::m).length*b<=1000000*1000:=zn5 h hb.2
   omega)
  have e2:LI K (y::m)= .sc (.int K y)::LI K m:=rfl
  rw[e2]at hf⊢
  show(Jc (Zt nil0=true/\xN b 1 (AV.sc (Value.int K y)::LI K m).length=true)).bind _=_
  rw[Zi ⟨rfl,hf⟩]
  simp[kR]
theorem qu9(K:IntKind)(l m:List Int)(b x:Nat)(hb:0<b/\b<=1000)(hl:l≠[])(hm:m≠[])(h:l.length+m.length<=1000000)(hp:Hp)(hx:hp.rd x 0=some (LI K l)):
 jZ b 1 (.ms x 0 0 l.length 1) (S 1 1 (LI K m)) hp=some (.ms hp.next 0 0 (l.length+m.length) 1,(hp.del x).new (LI K (l++m))):=by
 have hpos:0<l.length:=zou.mpr hl
 unfold jZ
 rw[Jo]
 cases m with
 |nil=>exact absurd rfl hm
 |cons y m=>
  have hf:xN b 1 (l.length*1+(LI K (y::m)).length)=true:=yZ hb.1 (by
   rw[kR]
   have:(l.length*1+(y::m).length)*b<=1000000*1000:=zn5 qe hb.2
   omega)
  have e2:LI K (y::m)= .sc (.int K y)::LI K m:=rfl
  rw[e2]at hf⊢
  show(Jc (1=1/\0=0/\0<l.length)).bind (fun _=>(hp.rd x 0).bind fun cs=>(Jc (l.length*1<=cs.length/\xN b 1 (l.length*1+(AV.sc (Value.int K y)::LI K m).length)=true)).bind fun _=>some (AV.ms hp.next 0 0 (l.length+zU 1 (AV.sc (Value.int K y)::LI K m)) 1,(hp.del x).new ((cs.take (l.length*1)).map ro1++AV.sc (Value.int K y)::LI K m)))=_
  rw[Zi ⟨rfl,rfl,hpos⟩]
  simp only[znc,hx]
  rw[Zi ⟨by rw[kR];omega,hf⟩]
  simp only[znc]
  congr 2
  ·rw[WQ];simp
  ·congr 1
   rw[zo2,zn2 qg,qad]
   simp[LI]
theorem ziu(m:Nat):∀f i,∀x∈kQ m f i,0<=x/\x<256:=by
 intro f
 induction f with
 |zero=>intro i x h;simp[kQ]at h
 |succ f ih=>
  intro i x h
  unfold kQ at h
  by_cases h256:256<=i
  ·rw[if_pos h256]at h;simp at h
  ·rw[if_neg h256]at h
   have:=(wE m (255-i) i).2.1
   split at h
   ·rcases zne.mp h with e|h
    ·omega
    ·rcases zne.mp h with e|h
     ·omega
     ·exact ih _ x h
   ·exact ih _ x h
theorem zao(L:List Nat)(x:Nat):zL (L++[x])=zL L|||2^x:=by
 apply zol
 intro j
 have h1:=Za j (L++[x])
 have h2:=Za j L
 rw[zoa,zom,Bool.eq_iff_iff]
 simp only[zqk,decide_eq_true_eq,h1,h2,zoj,zp1]
 constructor
 ·rintro(h|h)
  ·exact .inl h
  ·exact .inr h.symm
 ·rintro(h|h)
  ·exact .inl h
  ·exact .inr h.symm
def nxt(e:Nat)(L:List Nat):Nat:=if L=[]then e else L.getD (L.length-1) 0+1
theorem Wy(x:Nat):∀(L:List Nat) (a:List Int) (e:Nat),kV a e (L++[x])=if x=nxt e L then qat (kV a e L)else kV a e L++[(x:Int),0]
 |[],a,e=>rfl
 |y::L,a,e=>by
  have en:∀e',nxt e' (y::L)=nxt (y+1) L:=by
   intro e'
   unfold nxt
   cases L with
   |nil=>rfl
   |cons z r=>rfl
  rw[en]
  simp only[zo1,kV]
  split
  ·exact Wy x L _ _
  ·exact Wy x L _ _
def CSt(hp:Hp)(bb rb:Nat)(m:Nat)(A:List Int):Prop:=
 bb<hp.next/\hp.rd bb 0=some (LI .u8 (yH m 32 0))/\(A≠[]->rb<hp.next/\rb≠bb/\hp.rd rb 0=some (LI .u8 A))
def RVl(rb:Nat)(A:List Int):AV:=if A=[]then S 2 1 []else .ms rb 0 0 A.length 1
section
variable (L:List Nat)(hL:∀x∈L,x<256)(hp2:L.Pairwise (·<·))(hne:L≠[])(k key:Nat)(hkey:key<4294967296)
include hL hp2
theorem zhz:L.length<=256:=by
 have h:=qhr (zL L) 256 0 L (fun j _ _=>Za j L) (fun x hx=>⟨zn1 _,by have:=hL x hx;omega⟩) hp2
 have h2:=congrArg List.length h
 have h3:=qk9 (zL L) 256 0
 have h4:zx (zL L) 256<=256:=by
  have:∀n,zx (zL L) n<=n:=by
   intro n
   induction n with
   |zero=>exact znd _
   |succ n ih=>
    have:((zL L).testBit n).toNat<=1:=b2n _
    show zx (zL L) n+_<=_;omega
  exact this 256
 rw[WM]at h2
 have h5:zx (zL L) 0=0:=rfl
 rw[h5]at h3
 simp only[znk,zoy]at h3
 omega
theorem zcp:yJ (zL L) 256 0=nz L/\zx (zL L) 256=L.length:=by
 have h:=qhr (zL L) 256 0 L (fun j _ _=>Za j L) (fun x hx=>⟨zn1 _,by have:=hL x hx;omega⟩) hp2
 exact⟨h,by rw[<-KE,h,WM]⟩
theorem qli:kV [] 300 L=kQ (zL L) 256 0:=by
 have h:=zey (zL L) 256 0 300 [] L (fun j _ _=>Za j L) (fun x hx=>⟨zn1 _,hL x hx⟩) hp2 (fun q=>by have:=hL _ q;omega) qe
 simpa using h
omit hL hp2 in
theorem qpf(hL:∀x∈L,x<256)(hp2:L.Pairwise (·<·))(i:Nat):(∀x∈L.take i,x<256)/\(L.take i).Pairwise (·<·):=
 ⟨fun x hx=>hL x (zov hx),hp2.sublist (zq6 i L)⟩
include hne hkey
theorem qu2(hp:Hp)(bb rb:Nat)(h:CSt hp bb rb (zL L) (kV [] 300 L)):
 ∃hp',B137_7 (S k 1 (LI .i64 (nz L))) (S 2 1 (LI .u8 (uv key))) (RVl rb (kV [] 300 L)) (.int .i64 (jD (zL L) 256:Nat)) (.ms bb 0 0 32 1) (S 2 1 (LI .u8 (nz L))) (.int .i64 (L.length:Int)) hp=some (S 2 1 (LI .u8 (yG (key,zL L))),hp'):=by
 have ll:=zhz L hL hp2
 obtain⟨ea,ep⟩:=zcp L hL hp2
 have er:=qli L hL hp2
 have hl0:0<L.length:=zou.mpr hne
 have hrp:0<jD (zL L) 256:=Vz (by rw[ep];exact hl0)
 have hrl:=Yn (zL L) 256
 have hrn:=vz (zL L)
 rw[er]at h⊢
 obtain⟨h1,h2,h3⟩:=h
 have hk:=Xg (zL L)
 have ul:=qD (n:=key) qe
 have une:=zlp key
 have rne:kQ (zL L) 256 0≠[]:=by intro e;rw[e]at hrn;simp at hrn;omega
 obtain⟨r1,r2,r3⟩:=h3 rne
 have w1:IntKind.i64.wrap (1+(L.length:Int))=1+(L.length:Int):=qm qe qe
 have w2:IntKind.i64.wrap (2*((jD (zL L) 256:Nat):Int))=2*((jD (zL L) 256:Nat):Int):=qm qe qe
 have w3:IntKind.i64.wrap (1+2*((jD (zL L) 256:Nat):Int))=1+2*((jD (zL L) 256:Nat):Int):=qm qe qe
 have w4:IntKind.i64.wrap ((L.length:Int)-1)=(L.length:Int)-1:=qm qe qe
 have w5:IntKind.i64.wrap (((jD (zL L) 256:Nat):Int)-1)=((jD (zL L) 256:Nat):Int)-1:=qm qe qe
 have c17:L.length+1<=32->L.length+1<=2*jD (zL L) 256+1->∃hp',B137_17 (S k 1 (LI .i64 (nz L))) (S 2 1 (LI .u8 (uv key))) (S 2 1 (LI .u8 (nz L))) hp=some (S 2 1 (LI .u8 (yG (key,zL L))),hp'):=by
  intro a1 a2
  have kd:kind (zL L)=0:=by unfold kind;rw[ep,if_pos ⟨a1,a2⟩]
  have eY:yG (key,zL L)=uv key++[(0:Int),((L.length-1:Nat):Int)]++nz L:=by
   unfold yG Zk
   rw[kd,if_pos rfl,ep,ea];simp
  have w6:IntKind.u8.wrap ((L.length:Int)-1)=((L.length-1:Nat):Int):=by rw[zB]<;>omega
  have a1:=vt .u8 (uv key) [0,((L.length-1:Nat):Int)] 2 1 (.inr rfl) qh (S 1 1 (LI .u8 [0,((L.length-1:Nat):Int)])) hp une qg qi (Jo _ _ _ _)
  have a2:=vt .u8 (uv key++[(0:Int),((L.length-1:Nat):Int)]) (nz L) 2 1 (.inr rfl) qh (S 3 1 (LI .u8 (nz L))) hp qg (by intro e;have:=congrArg List.length e;rw[WM]at this;simp only[zns]at this;omega) qi (Jo _ _ _ _)
  refine⟨hp,?_⟩
  rw[qpq,eY]
  have e1:LI .u8 [0,((L.length-1:Nat):Int)]=[.sc (.int .u8 0),.sc (.int .u8 ((L.length-1:Nat):Int))]:=rfl
  rw[e1]at a1
  generalize((L.length-1:Nat):Int)=n1 at*
  generalize uv key=U at*
  generalize LI .u8 (U++[0,n1]++nz L)=R1 at*
  generalize LI .u8 (U++[0,n1])=R2 at*
  simp[w4,w6,a1,a2]
 have c18:¬(L.length+1<=32/\L.length+1<=2*jD (zL L) 256+1)->∃hp',B137_18 (S 2 1 (LI .u8 (uv key))) (RVl rb (kQ (zL L) 256 0)) (.int .i64 (jD (zL L) 256:Nat)) (.ms bb 0 0 32 1) (.int .i64 (1+2*((jD (zL L) 256:Nat):Int))) hp=some (S 2 1 (LI .u8 (yG (key,zL L))),hp'):=by
  intro hn
  by_cases h32:32<=2*jD (zL L) 256+1
  ·have kd:kind (zL L)=1:=by unfold kind;rw[ep,if_neg hn,if_pos h32]
   have eY:yG (key,zL L)=uv key++[(1:Int)]++yH (zL L) 32 0:=by
    unfold yG Zk
    rw[kd];simp
   have bl:=JO (zL L) 32 0
   have sm:=YO .u8 (yH (zL L) 32 0) hp bb 0 32 h2 qe
   rw[zpa,zn2 qe]at sm
   have a1:=vt .u8 (uv key) [1] 2 1 (.inr rfl) qh (S 1 1 (LI .u8 [1])) hp une qg qi (Jo _ _ _ _)
   have a2:=vt .u8 (uv key++[(1:Int)]) (yH (zL L) 32 0) 2 1 (.inr rfl) qh (.ms bb 0 0 32 1) hp qg (by intro e;have:=congrArg List.length e;rw[bl]at this;cases this) qi sm
   have e1:LI .u8 [1]=[.sc (.int .u8 1)]:=rfl
   have h32':(32:Int)<=1+2*((jD (zL L) 256:Nat):Int):=qe
   rw[e1]at a1
   refine⟨hp,?_⟩
   rw[qbh,eY]
   generalize((jD (zL L) 256:Nat):Int)=rc at*
   generalize uv key=U at*
   generalize LI .u8 (U++[1]++yH (zL L) 32 0)=R1 at*
   generalize LI .u8 (U++[1])=R2 at*
   simp[h32',a1,a2]
  ·have kd:kind (zL L)=2:=by unfold kind;rw[ep,if_neg hn,if_neg h32]
   have eY:yG (key,zL L)=uv key++[(2:Int),((jD (zL L) 256-1:Nat):Int)]++kQ (zL L) 256 0:=by
    unfold yG Zk
    rw[kd];simp
   have w6:IntKind.u8.wrap (((jD (zL L) 256:Nat):Int)-1)=((jD (zL L) 256-1:Nat):Int):=by rw[zB]<;>omega
   have sm:=YO .u8 (kQ (zL L) 256 0) hp rb 0 (kQ (zL L) 256 0).length r3 qe
   rw[zpa,zpm]at sm
   have a1:=vt .u8 (uv key) [2,((jD (zL L) 256-1:Nat):Int)] 2 1 (.inr rfl) qh (S 1 1 (LI .u8 [2,((jD (zL L) 256-1:Nat):Int)])) hp une qg qi (Jo _ _ _ _)
   have a2:=vt .u8 (uv key++[(2:Int),((jD (zL L) 256-1:Nat):Int)]) (kQ (zL L) 256 0) 2 1 (.inr rfl) qh (.ms rb 0 0 (kQ (zL L) 256 0).length 1) hp qg rne qi sm
   have e1:LI .u8 [2,((jD (zL L) 256-1:Nat):Int)]=[.sc (.int .u8 2),.sc (.int .u8 ((jD (zL L) 256-1:Nat):Int))]:=rfl
   have h32':¬((32:Int)<=1+2*((jD (zL L) 256:Nat):Int)):=qe
   rw[e1]at a1
   refine⟨hp,?_⟩
   have erv:RVl rb (kQ (zL L) 256 0)= .ms rb 0 0 (kQ (zL L) 256 0).length 1:=if_neg rne
   rw[qbh,eY,erv]
   generalize((jD (zL L) 256-1:Nat):Int)=rc1 at*
   generalize((jD (zL L) 256:Nat):Int)=rc at*
   generalize uv key=U at*
   generalize LI .u8 (U++[2,rc1]++kQ (zL L) 256 0)=R1 at*
   generalize LI .u8 (U++[2,rc1])=R2 at*
   simp[h32',w5,w6,a1,a2]
 rw[qfc]
 by_cases a1:L.length+1<=32
 ·by_cases a2:L.length+1<=2*jD (zL L) 256+1
  ·obtain⟨hp',e⟩:=c17 a1 a2
   have a1':1+(L.length:Int)<=32:=qe
   have a2':1+(L.length:Int)<=1+2*((jD (zL L) 256:Nat):Int):=qe
   refine⟨hp',?_⟩
   clear c17 c18
   generalize((jD (zL L) 256:Nat):Int)=rc at*
   simp[w1,w2,w3,a1',a2',e]
  ·obtain⟨hp',e⟩:=c18 (fun q=>a2 q.2)
   have a1':1+(L.length:Int)<=32:=qe
   have a2':¬(1+(L.length:Int)<=1+2*((jD (zL L) 256:Nat):Int)):=qe
   refine⟨hp',?_⟩
   clear c17 c18
   generalize((jD (zL L) 256:Nat):Int)=rc at*
   simp[w1,w2,w3,a1',a2',e]
 ·obtain⟨hp',e⟩:=c18 (fun q=>a1 q.1)
  have a1':¬(1+(L.length:Int)<=32):=qe
  refine⟨hp',?_⟩
  clear c17 c18
  generalize((jD (zL L) 256:Nat):Int)=rc at*
  simp[w1,w2,w3,a1',e]
omit hL hp2 hne hkey in
theorem qhu{rb:Nat}{A:List Int}(h:A≠[]):RVl rb A= .ms rb 0 0 A.length 1:=if_neg h
omit hkey hne in
theorem qo2:∀(f i rb zU:Nat) (bb:Nat) (hp:Hp),i+f=L.length->CSt hp bb rb (zL (L.take i)) (kV [] 300 (L.take i))->(kV [] 300 (L.take i)).length=2*zU->
 ∃hp' rb',B137_7 (S k 1 (LI .i64 (nz L))) (S 2 1 (LI .u8 (uv key))) (RVl rb (kV [] 300 (L.take i))) (.int .i64 (zU:Int)) (.ms bb 0 0 32 1) (S 2 1 (LI .u8 (nz (L.take i)))) (.int .i64 (i:Int)) hp=
  B137_7 (S k 1 (LI .i64 (nz L))) (S 2 1 (LI .u8 (uv key))) (RVl rb' (kV [] 300 L)) (.int .i64 (jD (zL L) 256:Nat)) (.ms bb 0 0 32 1) (S 2 1 (LI .u8 (nz L))) (.int .i64 (L.length:Int)) hp'/\CSt hp' bb rb' (zL L) (kV [] 300 L):=by
 have ll:=zhz L hL hp2
 intro f
 induction f with
 |zero=>
  intro i rb zU bb hp h hc hm
  have e:i=L.length:=qe
  subst e
  rw[zpm]at hc hm⊢
  have e2:zU=jD (zL L) 256:=by
   rw[qli L hL hp2,vz]at hm;omega
  rw[e2]
  exact⟨hp,rb,rfl,hc⟩
 |succ f ih=>
  intro i rb zU bb hp h hc hm
  have hi:i<L.length:=qe
  have ex:L.drop i=L[i]::L.drop (i+1):=zn6 hi
  obtain⟨x,hx⟩:∃x,L[i]=x:=⟨_,rfl⟩
  have hx256:x<256:=by rw[<-hx];exact hL _ (znr _)
  have et:L.take (i+1)=L.take i++[x]:=by rw[zpi,zng hi,hx];rfl
  have hxn:x∉L.take i:=by
   intro q
   obtain⟨j,hj,e⟩:=zpv q
   have hj':j<i:=by simp at hj;omega
   rw[List.getElem_take]at e
   have:=List.pairwise_iff_getElem.mp hp2 j i qe hi hj'
   omega
  have hbit:(zL (L.take i)).testBit x=false:=by
   cases hb:(zL (L.take i)).testBit x
   ·rfl
   ·exact absurd ((Za x _).mp hb) hxn
  obtain⟨h1,h2,h3⟩:=hc
  have ai:=xP .i64 L i hi
  rw[show L.getD i 0=x by rw[znb,zng hi,hx];rfl]at ai
  have en:∀h,(nz L)[i]'h=(x:Int):=fun h=>by simp[nz,hx]
  have st:=zcd (zL (L.take i)) x hx256 hbit
  have bl:=JO (zL (L.take i)) 32 0
  have bg:=VL (zL (L.take i)) 32 0 (x/8) qe
  rw[znk]at bg
  have by0:=qrp (zL (L.take i)) x (x/8) hbit
  rw[if_pos rfl]at by0
  have hsum:zL (L.take i)/2^(8*(x/8))%256+2^(x%8)<256:=by rw[<-by0];exact zqa _ qh
  have g:ql (LI .u8 (yH (zL (L.take i)) 32 0)) (x/8)=some (.int .u8 ((zL (L.take i)/2^(8*(x/8))%256:Nat):Int)):=by
   unfold ql
   rw[qbu?,bg];rfl
  have pn:=xC .u8 (yH (zL (L.take i)) 32 0) (x/8) ((zL (L.take i)/2^(8*(x/8))%256+2^(x%8):Nat):Int) qe
  rw[<-st,<-zao,<-et]at pn
  have q8:=qgn x qe
  have r8:=qgl x
  have ix:idx 32 (.int .i64 ((x/8:Nat):Int))=some (x/8):=zr .i64 qe
  have sh:∀t o o',qy Tryz.prog .shl t o o' (.int .u8 1) (.int .i64 ((x%8:Nat):Int))=some (.int .u8 ((2^(x%8):Nat):Int)):=by
   intro t o o'
   have hc:x%8=0\/x%8=1\/x%8=2\/x%8=3\/x%8=4\/x%8=5\/x%8=6\/x%8=7:=qe
   rw[zW _ _ _ _ _ _ _ _ qe]
   rcases hc with h|h|h|h|h|h|h|h<;>rw[h]<;>rfl
  have w1:IntKind.u8.wrap (((zL (L.take i)/2^(8*(x/8))%256:Nat):Int)+((2^(x%8):Nat):Int))=((zL (L.take i)/2^(8*(x/8))%256+2^(x%8):Nat):Int):=by
   rw[<-Int.natCast_add,zB]<;>omega
  have w0:IntKind.u8.wrap (x:Int)=(x:Int):=zB qe qe
  have ap:=qlb .u8 (nz (L.take i)) 2 (.inr rfl) 1 qh (x:Int) qi
  rw[<-yW,<-et]at ap
  have wi:IntKind.i64.wrap ((i:Int)+1)=((i+1:Nat):Int):=qj
  obtain⟨hp1,e1⟩:∃hp1,hp1=hp.put bb 0 (LI .u8 (yH (zL (L.take (i+1))) 32 0)):=⟨_,rfl⟩
  have c1:hp1.next=hp.next:=by rw[e1];rfl
  have c2:hp1.rd bb 0=some (LI .u8 (yH (zL (L.take (i+1))) 32 0)):=by rw[e1];exact qr _ _ _
  have c3:kV [] 300 (L.take i)≠[]->rb<hp1.next/\rb≠bb/\hp1.rd rb 0=some (LI .u8 (kV [] 300 (L.take i))):=fun q=>by
   obtain⟨d1,d2,d3⟩:=h3 q
   exact⟨by rw[c1];exact d1,d2,by rw[e1,qB _ _ d2];exact d3⟩
  have b8:∀(x6:AV) (mn:Int) (hq:Hp),B137_8 (S k 1 (LI .i64 (nz L))) (S 2 1 (LI .u8 (uv key))) x6 (.int .i64 mn) (.ms bb 0 0 32 1) (S 2 1 (LI .u8 (nz (L.take (i+1))))) (.int .i64 (i:Int)) hq=
   B137_7 (S k 1 (LI .i64 (nz L))) (S 2 1 (LI .u8 (uv key))) x6 (.int .i64 mn) (.ms bb 0 0 32 1) (S 2 1 (LI .u8 (nz (L.take (i+1))))) (.int .i64 ((i+1:Nat):Int)) hq:=by
   intro x6 mn hq
   rw[qw7]
   generalize((i+1:Nat):Int)=I at*
   simp[wi]
  obtain⟨t1,t2⟩:=qpf L hL hp2 (i+1)
  have rl:=qli (L.take (i+1)) t1 t2
  have rr:=ziu (zL (L.take (i+1))) 256 0
  rw[<-rl]at rr
  have alen:(kV [] 300 (L.take i)).length<=600:=by
   obtain⟨t1,t2⟩:=qpf L hL hp2 i
   rw[qli (L.take i) t1 t2,vz]
   have:=Yn (zL (L.take i)) 256
   have e:=(zcp (L.take i) t1 t2).2
   have:(L.take i).length<=256:=qi
   omega
  have sn:=Wy x (L.take i) [] 300
  rw[<-et]at sn
  --one more run
  have no:x≠nxt 300 (L.take i)->∃hp' rb',B137_13 (S k 1 (LI .i64 (nz L))) (S 2 1 (LI .u8 (uv key))) (RVl rb (kV [] 300 (L.take i))) (.int .i64 (zU:Int)) (.ms bb 0 0 32 1) (S 2 1 (LI .u8 (nz (L.take (i+1))))) (.int .i64 (i:Int)) hp1=
   B137_7 (S k 1 (LI .i64 (nz L))) (S 2 1 (LI .u8 (uv key))) (RVl rb' (kV [] 300 L)) (.int .i64 (jD (zL L) 256:Nat)) (.ms bb 0 0 32 1) (S 2 1 (LI .u8 (nz L))) (.int .i64 (L.length:Int)) hp'/\CSt hp' bb rb' (zL L) (kV [] 300 L):=by
   intro hno
   rw[if_neg hno]at sn
   have wm:IntKind.i64.wrap ((zU:Int)+1)=((zU+1:Nat):Int):=qj
   obtain⟨hq,am,q1,q2,q3⟩:∃hq,jZ 1 1 (RVl rb (kV [] 300 (L.take i))) (S 1 1 (LI .u8 [(x:Int),0])) hp1=some (.ms hp1.next 0 0 (kV [] 300 (L.take (i+1))).length 1,hq)/\hq.next=hp1.next+1/\hq.rd hp1.next 0=some (LI .u8 (kV [] 300 (L.take (i+1))))/\hq.rd bb 0=hp1.rd bb 0:=by
    by_cases hA:kV [] 300 (L.take i)=[]
    ·have a:=zg6 .u8 [(x:Int),0] 1 qh hp1 qg qg
     rw[sn,hA]
     exact⟨_,a,rfl,qT _ _,zH _ _ qe⟩
    ·obtain⟨d1,d2,d3⟩:=c3 hA
     have a:=qu9 .u8 (kV [] 300 (L.take i)) [(x:Int),0] 1 rb qh hA qg qi hp1 d3
     rw[qhu hA,sn,zm9]
     refine⟨_,a,rfl,qT (hp1.del rb) _,?_⟩
     exact(Fm.delNew (X:=[rb]) hp1 rb _ qg).rd qe (by simp;exact fun e=>d2 e.symm)
   have hA1:kV [] 300 (L.take (i+1))≠[]:=by rw[sn];simp
   obtain⟨hp',rb',z1,z2⟩:=ih (i+1) hp1.next (zU+1) bb hq qe ⟨qe,by rw[q3];exact c2,fun _=>⟨qe,qe,q2⟩⟩ (by rw[sn,zm9,hm];simp only[zna,zns];omega)
   refine⟨hp',rb',?_,z2⟩
   rw[<-z1,qhu hA1,<-b8,qpr]
   have el:LI .u8 [(x:Int),0]=[.sc (.int .u8 (x:Int)),.sc (.int .u8 0)]:=rfl
   rw[el]at am
   have rro:ro (RVl rb (kV [] 300 (L.take i)))=RVl rb (kV [] 300 (L.take i)):=by unfold RVl;split<;>rfl
   clear z1 b8 c3 sh
   generalize((zU+1:Nat):Int)=M at*
   generalize RVl rb (kV [] 300 (L.take i))=V at*
   simp[hi,ai,en,zt,w0,rro,am,wm]
  --the same run
  have yes:x=nxt 300 (L.take i)->kV [] 300 (L.take i)≠[]->∃hp' rb',B137_12 (S k 1 (LI .i64 (nz L))) (S 2 1 (LI .u8 (uv key))) (RVl rb (kV [] 300 (L.take i))) (.int .i64 (zU:Int)) (.ms bb 0 0 32 1) (S 2 1 (LI .u8 (nz (L.take (i+1))))) (.int .i64 (i:Int)) hp1=
   B137_7 (S k 1 (LI .i64 (nz L))) (S 2 1 (LI .u8 (uv key))) (RVl rb' (kV [] 300 L)) (.int .i64 (jD (zL L) 256:Nat)) (.ms bb 0 0 32 1) (S 2 1 (LI .u8 (nz L))) (.int .i64 (L.length:Int)) hp'/\CSt hp' bb rb' (zL L) (kV [] 300 L):=by
   intro hyes hA
   rw[if_pos hyes]at sn
   obtain⟨d1,d2,d3⟩:=c3 hA
   have hpos:0<(kV [] 300 (L.take i)).length:=zou.mpr hA
   generalize hAA:kV [] 300 (L.take i)=A at*
   have lb:(qat A).length=A.length:=by simp[qat]
   have hmem:A.getD (A.length-1) 0+1∈qat A:=by
    unfold qat
    have:A.length-1<(A.set (A.length-1) (A.getD (A.length-1) 0+1)).length:=qi
    have e:=znr this
    rw[List.getElem_set_self]at e
    exact e
   rw[sn]at rr
   have hv:=rr _ hmem
   have gs:=jQ .u8 A (A.length-1) qe
   have pn2:=xC .u8 A (A.length-1) (A.getD (A.length-1) 0+1) qe
   have eb:A.set (A.length-1) (A.getD (A.length-1) 0+1)=qat A:=rfl
   rw[eb]at pn2
   have wb:IntKind.u8.wrap (A.getD (A.length-1) 0+1)=A.getD (A.length-1) 0+1:=zB hv.1 hv.2
   have wl:IntKind.i64.wrap ((A.length:Int)-1)=((A.length-1:Nat):Int):=qj
   have ix2:idx A.length (.int .i64 ((A.length-1:Nat):Int))=some (A.length-1):=zr .i64 qe
   have hA1:qat A≠[]:=by intro e;rw[e]at lb;simp at lb;omega
   obtain⟨hp',rb',z1,z2⟩:=ih (i+1) rb zU bb (hp1.put rb 0 (LI .u8 (qat A))) qe ⟨by rw[qjw];omega,by rw[qB _ _ (fun e=>d2 e.symm)];exact c2,fun _=>⟨d1,d2,by rw[sn];exact qr _ _ _⟩⟩ (by rw[sn,lb];exact hm)
   refine⟨hp',rb',?_,z2⟩
   rw[sn,qhu hA1,lb]at z1
   rw[<-z1,qhu hA,<-b8,qps]
   clear z1 b8 c3 sh no
   generalize A.getD (A.length-1) 0=y0 at*
   generalize hN:((A.length-1:Nat):Int)=N at*
   simp[wl,ix2,d3,gs,wb,pn2]
  --joined
  have fin:∃hp' rb',cond (decide (0<i)) (cond (decide (x=L.getD (i-1) 0+1)) (B137_12 (S k 1 (LI .i64 (nz L))) (S 2 1 (LI .u8 (uv key))) (RVl rb (kV [] 300 (L.take i))) (.int .i64 (zU:Int)) (.ms bb 0 0 32 1) (S 2 1 (LI .u8 (nz (L.take (i+1))))) (.int .i64 (i:Int)) hp1)
   (B137_13 (S k 1 (LI .i64 (nz L))) (S 2 1 (LI .u8 (uv key))) (RVl rb (kV [] 300 (L.take i))) (.int .i64 (zU:Int)) (.ms bb 0 0 32 1) (S 2 1 (LI .u8 (nz (L.take (i+1))))) (.int .i64 (i:Int)) hp1))
   (B137_13 (S k 1 (LI .i64 (nz L))) (S 2 1 (LI .u8 (uv key))) (RVl rb (kV [] 300 (L.take i))) (.int .i64 (zU:Int)) (.ms bb 0 0 32 1) (S 2 1 (LI .u8 (nz (L.take (i+1))))) (.int .i64 (i:Int)) hp1)=
   B137_7 (S k 1 (LI .i64 (nz L))) (S 2 1 (LI .u8 (uv key))) (RVl rb' (kV [] 300 L)) (.int .i64 (jD (zL L) 256:Nat)) (.ms bb 0 0 32 1) (S 2 1 (LI .u8 (nz L))) (.int .i64 (L.length:Int)) hp'/\CSt hp' bb rb' (zL L) (kV [] 300 L):=by
   have nx:nxt 300 (L.take i)=if i=0 then 300 else L.getD (i-1) 0+1:=by
    unfold nxt
    by_cases h0:i=0
    ·subst h0;simp
    ·have:L.take i≠[]:=by intro e;have:=congrArg List.length e;rw[zn8,zns]at this;omega
     rw[if_neg this,if_neg h0,zn8,zp5 qe,znb,zno,if_pos qe,znb]
   by_cases h0:0<i
   ·rw[if_neg qe]at nx
    rw[decide_eq_true h0,cond_true]
    by_cases hq:x=L.getD (i-1) 0+1
    ·rw[decide_eq_true hq,cond_true]
     refine yes (by rw[nx];exact hq) ?_
     intro e
     obtain⟨t1,t2⟩:=qpf L hL hp2 i
     rw[qli (L.take i) t1 t2]at e
     have hl:=vz (zL (L.take i))
     rw[e]at hl
     have hp0:0<jD (zL (L.take i)) 256:=Vz (by rw[(zcp (L.take i) t1 t2).2,zn8];omega)
     simp at hl;omega
    ·rw[decide_eq_false hq,cond_false]
     exact no (by rw[nx];exact hq)
   ·rw[decide_eq_false h0,cond_false]
    have hz:i=0:=qe
    rw[if_pos hz]at nx
    exact no (by rw[nx];omega)
  obtain⟨hp',rb',z1,z2⟩:=fin
  refine⟨hp',rb',?_,z2⟩
  rw[<-z1,qfc]
  clear z1 b8 no yes c3 ih sn rr rl
  have e1':hp.put bb 0 (LI .u8 (yH (zL (L.take (i+1))) 32 0))=hp1:=e1.symm
  clear e1 c2 st
  generalize((zL (L.take i)/2^(8*(x/8))%256+2^(x%8):Nat):Int)=y1 at*
  generalize((zL (L.take i)/2^(8*(x/8))%256:Nat):Int)=y0 at*
  generalize((2^(x%8):Nat):Int)=y2 at*
  generalize((x%8:Nat):Int)=m8 at*
  generalize LI .u8 (yH (zL (L.take (i+1))) 32 0)=B1 at*
  generalize LI .u8 (yH (zL (L.take i)) 32 0)=B0 at*
  generalize hQ:x/8=Q at*
  generalize RVl rb (kV [] 300 (L.take i))=V at*
  by_cases h0:0<i
  ·have aj:=xP .i64 L (i-1) qe
   have w9:IntKind.i64.wrap ((i:Int)-1)=((i-1:Nat):Int):=qj
   have g0:(0:Int)<=((i-1:Nat):Int):=qe
   have hy:L.getD (i-1) 0<256:=by
    rw[znb,zng qe]
    exact hL _ (znr _)
   have en2:(nz L)[(((i-1:Nat):Int)).toNat]?=some (L.getD (i-1) 0:Nat):=by rw[znj];simpa[LI]using aj
   generalize L.getD (i-1) 0=y at*
   have w7:IntKind.i64.wrap ((y:Int)+1)=((y+1:Nat):Int):=qj
   generalize((i-1:Nat):Int)=j at*
   have dq:(decide ((x:Int)=((y+1:Nat):Int)))=decide (x=y+1):=by apply decide_eq_decide.mpr;omega
   generalize hY:((y+1:Nat):Int)=Y at*
   simp[hi,ai,en,zt,w0,ap,q8,ix,h2,g,r8,sh,w1,pn,h0,w9,g0,en2,w7,dq,e1']
  ·simp[hi,ai,en,zt,w0,ap,q8,ix,h2,g,r8,sh,w1,pn,h0,e1']
theorem qge(hp:Hp):∃hp',run cxX 137 [.sc (.int .u32 (key:Int)),S k 1 (LI .i64 (nz L))] hp=some (S 2 1 (LI .u8 (yG (key,zL L))),hp'):=by
 have u:=jw key qe hp0
 have z:=Jm .u8 32
 have mk:xd 1 1 (32:Int) 32=some ():=qh
 obtain⟨hp1,rb1,a1,a2⟩:=qo2 L hL hp2 k key L.length 0 0 0 hp.next (hp.new (LI .u8 (List.replicate 32 0))) qe ⟨qg,by rw[qT,<-qkz 32 0];rfl,fun h=>absurd rfl h⟩ rfl
 obtain⟨hp',b1⟩:=qu2 L hL hp2 hne k key hkey hp1 hp.next rb1 a2
 rw[b1]at a1
 have w1:IntKind.u64.wrap (key:Int)=(key:Int):=qu qe qe
 have e0:RVl 0 (kV [] 300 (L.take 0))=S 2 1 []:=rfl
 have e1:LI .u8 (nz (L.take 0))=[]:=rfl
 rw[e0,e1]at a1
 refine⟨hp',?_⟩
 rw[E137]
 have z':xR 32 [.int .u8 0]=LI .u8 (List.replicate 32 0):=z
 generalize LI .u8 (List.replicate 32 0)=Z at*
 generalize LI .u8 (yG (key,zL L))=R at*
 simp at a1
 simp[w1,u,mk,z',a1]
end
section
variable (l:List Nat)(h32:∀x∈l,x<4294967296)(hr:qN l)(hl:l.length<=65536)(k:Nat)
include h32 hl
theorem zes(key:Nat)(hkey:key<16777216)(x3:AV)(v4:Value)(hp:Hp):∀(a:List Nat) (i:Nat) (b:List Nat) (acc:List Nat),l.drop i=a++b->(∀x∈a,x/256=key)->(∀x∈b.head?,x/256≠key)->acc.length+a.length<=65536->
 B69_7 (S k 1 (LI .u32 (nz l))) x3 v4 (.int .i64 (i:Int)) (.int .u32 (key:Int)) (S 2 1 (LI .i64 (nz acc))) hp=
  B69_10 (S k 1 (LI .u32 (nz l))) x3 v4 (.int .i64 ((i+a.length:Nat):Int)) (.int .u32 (key:Int)) (S 2 1 (LI .i64 (nz (acc++a.map (·%256))))) hp:=by
 have quo256:∀(x:Nat),x<4294967296->∀t o o',qy Tryz.prog .quo t o o' (.int .u32 (x:Int)) (.int .u32 256)=some (.int .u32 ((x/256:Nat):Int)):=by
  intro x hx t o o'
  rw[yB _ _ _ _ _ _ _ qe,zoi qe,qK qe qe]
  rfl
 intro a
 induction a with
 |nil=>
  intro i b acc h ha hb hacc
  rw[ql0]
  simp only[zn4,zns,zoy,zp4,znz]at h⊢
  cases b with
  |nil=>
   have h1:=qL h
   have hlt:¬(i<l.length):=qe
   simp[hlt]
  |cons y s=>
   obtain⟨e1,e2,hi,e3⟩:=qt h
   have hy:=hb y qg
   have hy32:y<4294967296:=by rw[<-e3];exact h32 _ (znr _)
   have ai:=xP .u32 l i hi
   rw[show l.getD i 0=y by rw[znb,e1];rfl]at ai
   have en:∀h,(nz l)[i]'h=(y:Int):=fun h=>by simp[nz,e3]
   have q:=quo256 y hy32
   have hne:¬(((y/256:Nat):Int)=(key:Int)):=qe
   generalize((y/256:Nat):Int)=Q at*
   simp[hi,ai,en,zt,q,hne]
 |cons x a ih=>
  intro i b acc h ha hb hacc
  simp only[zna]at hacc
  obtain⟨e1,e2,hi,e3⟩:=qt (show l.drop i=x::(a++b)from h)
  have hx:=ha x qg
  have hx32:x<4294967296:=by rw[<-e3];exact h32 _ (znr _)
  have ai:=xP .u32 l i hi
  rw[show l.getD i 0=x by rw[znb,e1];rfl]at ai
  have en:∀h,(nz l)[i]'h=(x:Int):=fun h=>by simp[nz,e3]
  have q:=quo256 x hx32
  rw[hx]at q
  have rm:∀t o o',qy Tryz.prog .rem t o o' (.int .u32 (x:Int)) (.int .u32 256)=some (.int .u32 ((x%256:Nat):Int)):=by
   intro t o o'
   rw[zp _ _ _ _ _ _ _ qe,zn qe]
   rfl
  have w1:IntKind.i64.wrap ((x%256:Nat):Int)=((x%256:Nat):Int):=qm qe qe
  have w2:IntKind.i64.wrap ((i:Int)+1)=((i+1:Nat):Int):=qj
  have ap:=qlb .i64 (nz acc) 2 (.inr rfl) 8 qh ((x%256:Nat):Int) qi
  rw[<-yW]at ap
  have i1:=ih (i+1) b (acc++[x%256]) e2 (fun y hy=>ha y (by simp[hy])) hb qi
  have e4:i+1+a.length=i+(x::a).length:=qi
  have e5:acc++[x%256]++a.map (·%256)=acc++(x::a).map (·%256):=qg
  rw[e4,e5]at i1
  rw[ql0,<-i1]
  have b8:B69_8 (S k 1 (LI .u32 (nz l))) x3 v4 (.int .i64 (i:Int)) (.int .u32 (key:Int)) (S 2 1 (LI .i64 (nz acc))) hp=
   B69_7 (S k 1 (LI .u32 (nz l))) x3 v4 (.int .i64 ((i+1:Nat):Int)) (.int .u32 (key:Int)) (S 2 1 (LI .i64 (nz (acc++[x%256])))) hp:=by
   rw[zc6]
   clear i1 e5
   generalize((i+1:Nat):Int)=I at*
   generalize nz (acc++[x%256])=A1 at*
   generalize((x%256:Nat):Int)=m at*
   simp[hi,ai,en,zt,rm,xJ,w1,ap,w2]
  simp[hi,ai,en,zt,q,b8]
theorem qzd:∀(n:Nat) (r:List Nat) (i c:Nat) (Z:List Int) (hp:Hp),r.length<=n->l.drop i=r->qN r->c+r.length<=65536->Z.length+60*r.length<=50000000->
 B69_4 (S k 1 (LI .u32 (nz l))) (S 2 1 (LI .u8 Z)) (.int .i64 (c:Int)) (.int .i64 (i:Int)) hp=some (S 2 1 (LI .u8 (uv (c+(jR r).length)++(Z++wW (jR r)))),hp):=by
 intro n
 induction n with
 |zero=>
  intro r i c Z hp hn h hrr hc hZ
  have e:r=[]:=znp.mp qe
  subst e
  have h1:=qL h
  have hlt:¬(i<l.length):=qe
  have u:=jw c (by simp at hc;omega) hp0
  have ul:=qD (n:=c) (by simp at hc;omega)
  have ap:=yL .u8 (uv c) 2 (.inr rfl) 1 qh 3 Z (by simp at hZ;omega)
  have w1:IntKind.u64.wrap (c:Int)=(c:Int):=qu qe (by simp at hc;omega)
  rw[ql1]
  simp[hlt,w1,u,ap,jR,wW]
 |succ n ih=>
  intro r i c Z hp hn h hrr hc hZ
  by_cases hr0:r=[]
  ·exact ih r i c Z hp (by rw[hr0];exact zn1 _) h hrr hc hZ
  ·obtain⟨x,s,rfl⟩:∃x s,r=x::s:=by cases r with
    |nil=>exact absurd rfl hr0
    |cons x s=>exact⟨x,s,rfl⟩
   obtain⟨e1,e2,hi,e3⟩:=qt h
   have hx32:x<4294967296:=by rw[<-e3];exact h32 _ (znr _)
   obtain⟨a,b,eab,ha,hak,hbk,hch,hpw⟩:=qan (x::s) (x/256) hrr qg hr0
   have hlen:a.length+b.length=(x::s).length:=by rw[eab];simp
   have hapos:0<a.length:=zou.mpr ha
   have ri:=zes l h32 hl k (x/256) qe (S 2 1 (LI .u8 Z)) (.int .i64 (c:Int)) hp a i b [] (by rw[h,eab]) hak hbk (by have:=hlen;simp only[zna,zns]at this hc⊢;omega)
   have hm256:∀y∈a.map (·%256),y<256:=by
    intro y hy
    obtain⟨z,_,rfl⟩:=zn9.mp hy
    exact zqa _ qh
   obtain⟨hq,rc⟩:=qge (a.map (·%256)) hm256 hpw (by simpa using ha) 3 (x/256) qe hp0
   have hrise_b:qN b:=by
    rw[xk]at hrr⊢
    rw[eab]at hrr
    exact(zpc.mp hrr).2.1
   have hok:Xc (x/256,zL (a.map (·%256))):=by
    have:(x/256,zL (a.map (·%256)))∈jR (x::s):=by rw[hch];exact zqj ..
    exact Qc (fun y hy=>by rw[<-h]at hy;exact h32 y (zqs hy)) _ this
   have cl:=qao hok
   have ap:=yL .u8 Z 2 (.inr rfl) 1 qh 2 (yG (x/256,zL (a.map (·%256)))) qe
   have hdb:l.drop (i+a.length)=b:=by
    rw[<-List.drop_drop,h,eab,zqg]
   have i1:=ih b (i+a.length) (c+1) (Z++yG (x/256,zL (a.map (·%256)))) hp qe hdb hrise_b qe qi
   have ai:=xP .u32 l i hi
   rw[show l.getD i 0=x by rw[znb,e1];rfl]at ai
   have en:∀h,(nz l)[i]'h=(x:Int):=fun h=>by simp[nz,e3]
   have q:∀t o o',qy Tryz.prog .quo t o o' (.int .u32 (x:Int)) (.int .u32 256)=some (.int .u32 ((x/256:Nat):Int)):=by
    intro t o o'
    rw[yB _ _ _ _ _ _ _ qe,zoi qe,qK qe qe]
    rfl
   have w1:IntKind.i64.wrap ((c:Int)+1)=((c+1:Nat):Int):=qj
   rw[hch]
   have eR:uv (c+1+(jR b).length)++(Z++yG (x/256,zL (a.map (·%256)))++wW (jR b))=uv (c+((x/256,zL (a.map (·%256)))::jR b).length)++(Z++wW ((x/256,zL (a.map (·%256)))::jR b)):=by
    simp only[zna,wW,znv]
    congr 2;omega
   rw[<-eR,<-i1,ql1]
   have e0:LI .i64 (nz [])=[]:=rfl
   rw[e0]at ri
   simp only[zn4]at ri
   clear eR i1 hch ih
   generalize nz (a.map (·%256))=A1 at*
   generalize yG (x/256,zL (a.map (·%256)))=Y at*
   generalize((i+a.length:Nat):Int)=I at*
   generalize((x/256:Nat):Int)=Q at*
   generalize((c+1:Nat):Int)=C1 at*
   have b10:B69_10 (S k 1 (LI .u32 (nz l))) (S 2 1 (LI .u8 Z)) (.int .i64 (c:Int)) (.int .i64 I) (.int .u32 Q) (S 2 1 (LI .i64 A1)) hp=B69_4 (S k 1 (LI .u32 (nz l))) (S 2 1 (LI .u8 (Z++Y))) (.int .i64 C1) (.int .i64 I) hp:=by
    rw[qvi]
    simp[rc,ap,w1]
   simp[hi,ai,en,zt,q]
   rw[ri,b10]
include hr
theorem qig(hp:Hp):run cxX 69 [S k 1 (LI .u32 (nz l))] hp=some (S 2 1 (LI .u8 (jX (jR l))),hp):=by
 have h:=qzd l h32 hl k l.length l 0 0 [] hp (znd _) rfl hr qe qi
 rw[E69]
 simp at h
 simp[h,jX]
end
theorem Yk(w:Nat)(h:w<18446744073709551616)(hp:Hp):run cxX 75 [fl w] hp=some (.sc (.int .u64 (kw w:Int)),hp):=by
 rw[E75]
 unfold kw
 by_cases hn:yR w
 ·simp[jA,hn]
 ·by_cases hl:w<9223372036854775808
  ·have h1:¬((9223372036854775808:Int)<=(w:Int)):=qe
   have w1:IntKind.u64.wrap ((w:Int)+9223372036854775808)=((w+9223372036854775808:Nat):Int):=by rw[qu]<;>omega
   rw[if_neg hn,if_pos hl]
   generalize((w+9223372036854775808:Nat):Int)=W at*
   simp[jA,hn,XO,h1,w1]
  ·have h1:(9223372036854775808:Int)<=(w:Int):=qe
   have w1:IntKind.u64.wrap (18446744073709551615-(w:Int))=((18446744073709551615-w:Nat):Int):=by rw[qu]<;>omega
   rw[if_neg hn,if_neg hl]
   generalize((18446744073709551615-w:Nat):Int)=W at*
   simp[jA,hn,XO,h1,w1]
theorem qjb(c:Int)(hc:1<=c/\c<=256)(l:List Int)(hl:l.length<=4096)(h32:kr l)(k:Nat)(hp:Hp):∀(r:List Int) (i:Nat) (last:Int) (acc:List Int),l.drop i=r->acc.length<=10*i+20->i<=l.length->(0<=last/\last<4294967296)->(0<i->last=l.getD (i-1) 0)->
 B28_3 (.int .i64 c) (S k 1 (LI .u32 l)) (S 1 1 (LI .u8 acc)) (.int .i64 (i:Int)) hp=some (S 1 1 (LI .u8 (acc++zV c r i last)),hp):=by
 intro r
 induction r with
 |nil=>
  intro i last acc h ha hil hla hl2
  have:=qL h
  have hlt:¬(i<l.length):=qe
  rw[qmk]
  simp[zV,hlt]
 |cons x r ih=>
  intro i last acc h ha hil hla hl2
  obtain⟨e1,e2,hi,e3⟩:=qt h
  have hx:=h32 x (znm e1)
  have rm:∀t o o',qy Tryz.prog .rem t o o' (.int .i64 (i:Int)) (.int .i64 c)=some (.int .i64 ((i:Int)%c)):=by
   intro t o o'
   rw[zp _ _ _ _ _ _ _ qe,zn qe]
  have mc:max c 1=c:=qe
  have hm0:=Int.emod_nonneg (i:Int) (show c≠0 by omega)
  obtain⟨lst,hlst⟩:∃lst:Int,lst=if(i:Int)%max c 1=0 then 0 else last:=⟨_,rfl⟩
  have hb:0<=lst/\lst<4294967296:=by rw[hlst];split<;>omega
  have le:=qpy hx hb
  have ri:=qyt (x-lst) qe hp0
  have ws:IntKind.i64.wrap x=x:=qm qe qe
  have wd:IntKind.i64.wrap (x-lst)=x-lst:=qm qe qe
  have hw:IntKind.i64.wrap ((i:Int)+1)=((i+1:Nat):Int):=qj
  have ap:=yL .u8 acc 1 (.inl rfl) 1 qh 2 (uv (zz (x-lst))) qe
  have hh:=ih (i+1) x (acc++uv (zz (x-lst))) e2 qi qe hx (fun _=>by simp[znb,e1])
  have ec:acc++zV c (x::r) i last=acc++uv (zz (x-lst))++zV c r (i+1) x:=by
   rw[hlst,znv];rfl
  rw[ec,<-hh]
  have b8:B28_8 (.int .i64 c) (S k 1 (LI .u32 l)) (S 1 1 (LI .u8 acc)) (.int .i64 (i:Int)) (.int .i64 lst) hp=B28_3 (.int .i64 c) (S k 1 (LI .u32 l)) (S 1 1 (LI .u8 (acc++uv (zz (x-lst))))) (.int .i64 ((i+1:Nat):Int)) hp:=by
   rw[zdv]
   clear hh ec
   generalize((i+1:Nat):Int)=I at*
   generalize uv (zz (x-lst))=u at*
   simp[hi,e3,zt,ws,wd,ri,ap,hw]
  rw[qmk,<-b8]
  by_cases h0:(i:Int)%c=0
  ·have el:lst=0:=by rw[hlst,mc,if_pos h0]
   rw[el]
   simp[hi,rm,h0]
  ·have el:lst=last:=by rw[hlst,mc,if_neg h0]
   have hpos:0<(i:Int)%c:=qe
   have hi0:0<i:=by
    rcases zqd i with e|e
    ·rw[e]at h0;simp at h0
    ·exact e
   have hl3:=hl2 hi0
   have w9:IntKind.i64.wrap ((i:Int)-1)=((i-1:Nat):Int):=qj
   have g0:(0:Int)<=((i-1:Nat):Int):=qe
   have en:l[(((i-1:Nat):Int)).toNat]?=some last:=by
    rw[znj,hl3,znb,zng qe];rfl
   have wl:IntKind.i64.wrap last=last:=qm qe qe
   rw[el]
   generalize((i-1:Nat):Int)=j at*
   simp[hi,rm,hpos,w9,g0,en,zt,wl]
theorem qm5(R c:Int)(hR:0<=R/\R<256)(hc:1<=c/\c<=256)(l:List Int)(hl:l.length<=4096)(h32:kr l)(k:Nat)(hp:Hp):
 run cxX 28 [.sc (.int .i64 R),.sc (.int .i64 c),S k 1 (LI .u32 l)] hp=some (S 1 1 (LI .u8 ([R]++uv c.toNat++zV c l 0 0)),hp):=by
 have hu:=qD (n:=c.toNat) qe
 have u:=jw c.toNat qe hp0
 rw[zox qe]at u
 have h:=qjb c hc l hl h32 k hp l 0 0 ([R]++uv c.toNat) rfl qi qe qe (fun h=>qe)
 have wR:IntKind.u8.wrap R=R:=zB hR.1 hR.2
 have wc:IntKind.u64.wrap c=c:=qu qe qe
 have ap:=yL .u8 [R] 1 (.inl rfl) 1 qh 2 (uv c.toNat) qi
 have e1:LI .u8 [R]=[.sc (.int .u8 R)]:=rfl
 rw[e1]at ap
 rw[E28]
 generalize [R]++uv c.toNat=U at*
 simp at h
 simp[wR,wc,u,ap,h]
theorem qja(L:List Nat)(hL:Ws L)(hlen:L.length<=1000)(k:Nat)(hp:Hp):∀(r:List Nat) (i p:Nat) (Z:List Int),L.drop i=r->zO (p::r.map kw)->p<18446744073709551616->Z.length<=1000+10*i->
 B29_11 (S k 1 (LF L)) (S 1 1 (LI .u8 Z)) (.int .u64 (p:Int)) (.int .i64 (i:Int)) hp=some (S 1 1 (LI .u8 (Z++jO p (r.map kw))),hp):=by
 intro r
 induction r with
 |nil=>
  intro i p Z h hn hp' hZ
  have h1:=qL h
  have ll:(LF L).length=L.length:=by simp[LF]
  have hlt:¬(i<L.length):=qe
  rw[qd9]
  simp[hlt,jO,ll]
 |cons x r ih=>
  intro i p Z h hn hp' hZ
  obtain⟨e1,e2,hi,e3⟩:=qt h
  have hx:x<18446744073709551616:=hL x (by rw[<-e3];exact znr _)
  have ky:=Yk x hx hp0
  have kl:=Qq x hx
  have hpk:p<=kw x:=hn.1
  have hu:=qD (n:=kw x-p) qe
  have wu:=jw (kw x-p) qe hp0
  have ap:=yL .u8 Z 1 (.inl rfl) 1 qh 2 (uv (kw x-p)) qe
  have hi2:=ih (i+1) (kw x) (Z++uv (kw x-p)) e2 hn.2 kl qi
  have w1:IntKind.u64.wrap ((kw x:Int)-(p:Int))=((kw x-p:Nat):Int):=by rw[qu]<;>omega
  have w2:IntKind.i64.wrap ((i:Int)+1)=((i+1:Nat):Int):=qj
  have e:Z++jO p ((x::r).map kw)=Z++uv (kw x-p)++jO (kw x) (r.map kw):=by rw[znv];rfl
  have al:(LF L)[i]?=some (fl x):=by
   unfold LF
   rw[znt,e1];rfl
  have ll:(LF L).length=L.length:=by simp[LF]
  have hlt:(i:Int)<(L.length:Int):=qe
  rw[e,<-hi2,qd9]
  obtain⟨F,hF⟩:∃F,fl x= .sc F:=⟨_,rfl⟩
  rw[hF]at ky al
  generalize((kw x-p:Nat):Int)=D at*
  generalize((i+1:Nat):Int)=I at*
  have g1:(0:Int)<=(i:Int):=qe
  have ix:∀k,jE 1 (S k 1 (LF L)) (.int .i64 (i:Int))=some [.sc F]:=by
   intro k
   rw[Kl,if_pos g1,znj,al];rfl
  generalize LF L=LL at*
  generalize uv (kw x-p)=U at*
  simp[ll,hi,ix,zt,ky,w1,wu,ap,w2]
theorem ZJ(n:Int)(hn:zy n)(Z:List Int)(hZ:Z.length<=1000):run cxX 70 [.sc (.int .u64 n)] hp0=some (S 2 1 (LI .u8 (uv n.toNat)),hp0)/\(uv n.toNat).length<=10/\jp 1 1 (S 1 1 (LI .u8 Z)) (S 2 1 (LI .u8 (uv n.toNat)))=some (S 1 1 (LI .u8 (Z++uv n.toNat)))/\IntKind.u64.wrap n=n:=by
 have h1:n.toNat<18446744073709551616:=by have:=hn.2;omega
 have hu:=qD h1
 have:=jw n.toNat h1 hp0
 rw[zox hn.1]at this
 exact⟨this,hu,yL .u8 Z 1 (.inl rfl) 1 qh 2 _ qe,qu hn.1 (by have:=hn.2;omega)⟩
theorem qnp(k:Nat)(L:AV)(lo hi:Value)(E:List Int)(hE:∀n∈E,zy n)(h6:E.length=6)(hp:Hp):∀(f i:Nat) (Z:List Int),i+f=6->Z.length<=100+10*i->
 B29_3 lo hi L (S 1 1 (LI .u8 Z)) (.int .i64 (i:Int)) (LI .u32 E) hp=B29_3 lo hi L (S 1 1 (LI .u8 (Z++((E.drop i).map fun n=>uv n.toNat).flatten))) (.int .i64 6) (LI .u32 E) hp:=by
 intro f
 induction f with
 |zero=>
  intro i Z h hZ
  have e:i=6:=qe
  subst e
  rw[zoh qe]
  simp
 |succ f ih=>
  intro i Z h hZ
  have hi':i<E.length:=qe
  obtain⟨n,hn⟩:∃n,E[i]=n:=⟨_,rfl⟩
  have ed:E.drop i=n::E.drop (i+1):=by rw[zn6 hi',hn]
  obtain⟨u1,u2,u3,u4⟩:=ZJ n (hE n (by rw[<-hn];exact znr _)) Z qe
  have ix:idx 6 (.int .i64 (i:Int))=some i:=zr .i64 qe
  have g:=jQ .u32 E i hi'
  rw[show E.getD i 0=n by rw[znb,zng hi',hn];rfl]at g
  have hlt:i<6:=qe
  have w2:IntKind.i64.wrap ((i:Int)+1)=((i+1:Nat):Int):=qj
  have i1:=ih (i+1) (Z++uv n.toNat) qe qi
  have e:Z++((E.drop i).map fun n=>uv n.toNat).flatten=Z++uv n.toNat++((E.drop (i+1)).map fun n=>uv n.toNat).flatten:=by rw[ed];simp
  rw[e,<-i1,qmj]
  clear i1 e
  generalize((i+1:Nat):Int)=I at*
  generalize uv n.toNat=U at*
  generalize LI .u32 E=EE at*
  have gz:∀n,Nat.add 0 n=n:=fun n=>znk n
  have hlt2:(i:Int)<6:=qe
  simp[hlt,hlt2,ix,g,u4,u1,u3,w2]
theorem qgd(K:Int)(g:Gs)(k:Nat)(hK:0<=K/\K<256)(gw:g.W)(hn:JS g.nf.L=0)(hlen:g.L.length<=200)(hp:Hp):
 run cxX 29 [.sc (.int .i64 K),.sc (.int .u32 g.M),.agg [.sc (.int .u32 g.e0),.sc (.int .u32 g.e1),.sc (.int .u32 g.e2),.sc (.int .u32 g.e3),.sc (.int .u32 g.e4),.sc (.int .u32 g.e5)],fl g.lo,fl g.hi,S k 1 (LF g.L)] hp=
  some (S 1 1 (LI .u8 (yE K g.nf)),hp):=by
 have p:=gw.pos
 obtain⟨m1,m2,m3,m4⟩:=ZJ g.M p.1 [K] qg
 have hE:∀n∈[g.e0,g.e1,g.e2,g.e3,g.e4,g.e5],zy n:=by
  intro n hn
  simp only[zne,zrb,or_false]at hn
  rcases hn with e|e|e|e|e|e<;>rw[e]
  ·exact p.2.1
  ·exact p.2.2.1
  ·exact p.2.2.2.1
  ·exact p.2.2.2.2.1
  ·exact p.2.2.2.2.2.1
  ·exact p.2.2.2.2.2.2
 have u2:=(ZJ g.e0 p.2.1 [] qg).2.1
 have u3:=(ZJ g.e1 p.2.2.1 [] qg).2.1
 have u4:=(ZJ g.e2 p.2.2.2.1 [] qg).2.1
 have u5:=(ZJ g.e3 p.2.2.2.2.1 [] qg).2.1
 have u6:=(ZJ g.e4 p.2.2.2.2.2.1 [] qg).2.1
 have u7:=(ZJ g.e5 p.2.2.2.2.2.2 [] qg).2.1
 have ed:=qnp k (S k 1 (LF g.L)) (.float .f64 g.lo) (.float .f64 g.hi) [g.e0,g.e1,g.e2,g.e3,g.e4,g.e5] hE rfl hp 6 0 ([K]++uv g.M.toNat) rfl qi
 have klo:=Yk g.lo gw.lo hp0
 have khi:=Yk g.hi gw.hi hp0
 have llo:=Qq g.lo gw.lo
 have lhi:=Qq g.hi gw.hi
 have ulo:=jw (kw g.lo) llo hp0
 have uhi:=jw (kw g.hi) lhi hp0
 have nlo:=qD llo
 have nhi:=qD lhi
 have wK:IntKind.u8.wrap K=K:=zB hK.1 hK.2
 have e0:LI .u8 [K]=[.sc (.int .u8 K)]:=rfl
 have wl:IntKind.u8.wrap (g.L.length:Int)=(g.L.length:Int):=zB qe qe
 have el:[g.e0,g.e1,g.e2,g.e3,g.e4,g.e5].drop 0=[g.e0,g.e1,g.e2,g.e3,g.e4,g.e5]:=rfl
 rw[el]at ed
 simp only[zog,zp4,zq5,List.flatten_nil,znz]at ed
 have e1:yE K g.nf=[K]++uv g.M.toNat++(uv g.e0.toNat++(uv g.e1.toNat++(uv g.e2.toNat++(uv g.e3.toNat++(uv g.e4.toNat++uv g.e5.toNat)))))++uv (kw g.lo)++uv (kw g.hi)++[(g.L.length:Int)]++jO 0 (g.L.map kw):=by
  unfold yE Gs.nf
  simp
 have lE:([K]++uv g.M.toNat++(uv g.e0.toNat++(uv g.e1.toNat++(uv g.e2.toNat++(uv g.e3.toNat++(uv g.e4.toNat++uv g.e5.toNat)))))).length<=71:=qi
 rw[e1]
 generalize [K]++uv g.M.toNat++(uv g.e0.toNat++(uv g.e1.toNat++(uv g.e2.toNat++(uv g.e3.toNat++(uv g.e4.toNat++uv g.e5.toNat)))))=Z at*
 have a1:=yL .u8 Z 1 (.inl rfl) 1 qh 2 (uv (kw g.lo)) qe
 have a2:=yL .u8 (Z++uv (kw g.lo)) 1 (.inl rfl) 1 qh 2 (uv (kw g.hi)) qi
 have a3:=qlb .u8 (Z++uv (kw g.lo)++uv (kw g.hi)) 1 (.inl rfl) 1 qh (g.L.length:Int) qi
 have nf:zO (0::g.L.map kw):=jI (ZM hn)
 have lp:=qja g.L gw.L qe k hp g.L 0 0 (Z++uv (kw g.lo)++uv (kw g.hi)++[(g.L.length:Int)]) rfl nf qh qi
 have ll:(LF g.L).length=g.L.length:=by simp[LF]
 have b3:B29_3 (.float .f64 g.lo) (.float .f64 g.hi) (S k 1 (LF g.L)) (S 1 1 (LI .u8 Z)) (.int .i64 6) (LI .u32 [g.e0,g.e1,g.e2,g.e3,g.e4,g.e5]) hp=some (S 1 1 (LI .u8 (Z++uv (kw g.lo)++uv (kw g.hi)++[(g.L.length:Int)]++jO 0 (g.L.map kw))),hp):=by
  rw[<-lp,qmj]
  clear ed lp e1
  generalize LF g.L=LL at*
  generalize uv (kw g.lo)=U1 at*
  generalize uv (kw g.hi)=U2 at*
  simp only[znv]at a1 a2 a3⊢
  simp[klo,ulo,a1,khi,uhi,a2,ll,wl,a3]
 rw[b3]at ed
 have es:LI .u32 [g.e0,g.e1,g.e2,g.e3,g.e4,g.e5]=[.sc (.int .u32 g.e0),.sc (.int .u32 g.e1),.sc (.int .u32 g.e2),.sc (.int .u32 g.e3),.sc (.int .u32 g.e4),.sc (.int .u32 g.e5)]:=rfl
 rw[es]at ed
 rw[e0]at m3
 rw[E29]
 generalize [K]++uv g.M.toNat=Z0 at*
 generalize LF g.L=LL at*
 generalize Z++uv (kw g.lo)++uv (kw g.hi)++[(g.L.length:Int)]++jO 0 (g.L.map kw)=ZZ at*
 simp at ed
 simp[wK,m4,m1,m3,ed]
theorem QR{x:SkN}{v:AV}(hv:yu x v)(f:Fine x)(h64:H64 x)(hp:Hp):∃t,run cxX 12 [v] hp=some (S t 1 (LI .u8 (qE x)),hp)/\(t=1\/t=2):=by
 obtain⟨g,a,b,c,d,e,t,gw,gn,rfl⟩:=hv
 have kd:=(qJ.mp f.c).1
 have hk:=f.w.kind
 have six:x.kind=0\/x.kind=1\/x.kind=2\/x.kind=3\/x.kind=4\/x.kind=5:=qe
 unfold qE
 rw[E12]
 rcases six with k|k|k|k|k|k
 ·rw[if_pos k]
  obtain⟨s1,s2,s3,s4⟩:=Qh f k
  have r1:=fun q=>qig (tn x.set) s3 s2 qi q hp0
  rw[s4]at r1
  have r2:∀q,run cxX 24 [S q 1 (LI .u32 x.set)] hp0=some (S 2 1 (LI .u8 (jX (jR (tn x.set)))),hp0):=by
   intro q;rw[E24];simp[r1]
  refine⟨2,?_,.inr rfl⟩
  generalize jX (jR (tn x.set))=Y at*
  simp[wA,k,ql,qs,r2]
 ·rw[if_neg qe,if_pos k]
  obtain⟨s0,s1,s2,s3,s4⟩:=vp f k h64
  have r1:=fun q=>qih (tn x.hs) q (by simp;exact s1) s3 s2 hp0
  rw[s4]at r1
  have hu:=qD (n:=x.K.toNat) qe
  have u:=jw x.K.toNat qe hp0
  rw[zox qe]at u
  have hl:=kC (l:=tn x.hs) (by simp;exact s1) s3
  have ap:=yL .u8 (uv x.K.toNat) 2 (.inr rfl) 1 qh 2 (zh (tn x.hs)) qe
  have wK:IntKind.u64.wrap x.K=x.K:=qu qe qe
  have r2:∀q,run cxX 25 [.sc (.int .i64 x.K),S q 1 (LI .u64 x.hs)] hp0=some (S 2 1 (LI .u8 (uv x.K.toNat++zh (tn x.hs))),hp0):=by
   intro q
   rw[E25]
   generalize uv x.K.toNat=U at*
   generalize zh (tn x.hs)=Y at*
   simp[wK,u,r1,ap]
  refine⟨2,?_,.inr rfl⟩
  generalize uv x.K.toNat++zh (tn x.hs)=Y at*
  simp[wA,k,ql,qs,r2]
 ·rw[if_neg qe,if_neg qe,if_pos k]
  obtain⟨s0,s1,s2,s3,s4⟩:=vq f k
  have r1:=fun q=>qik (tn x.rg) q qi s3 hp0
  rw[s4]at r1
  have hl:=Zh (l:=tn x.rg) qi s3
  have ap:=yL .u8 [x.P] 1 (.inl rfl) 1 qh 0 (jk (tn x.rg)) qi
  have wK:IntKind.u8.wrap x.P=x.P:=zB qe qe
  have e1:LI .u8 [x.P]=[.sc (.int .u8 x.P)]:=rfl
  have e2:[x.P]++jk (tn x.rg)=x.P::jk (tn x.rg):=rfl
  rw[e1,e2]at ap
  have r2:∀q,run cxX 26 [.sc (.int .i64 x.P),S q 1 (LI .u8 x.rg)] hp0=some (S 1 1 (LI .u8 (x.P::jk (tn x.rg))),hp0):=by
   intro q
   obtain⟨hq,r1⟩:=r1 (rk q)
   rw[E26]
   generalize LI .u8 (x.P::jk (tn x.rg))=Y2 at*
   generalize jk (tn x.rg)=Y at*
   simp[wK,r1,ap]
  refine⟨1,?_,.inl rfl⟩
  generalize x.P::jk (tn x.rg)=Y at*
  simp[wA,k,ql,qs,r2]
 ·rw[if_neg qe,if_neg qe,if_neg qe,if_pos k]
  obtain⟨s0,s9,s1,s2,s3,s4⟩:=xZ f k
  have r1:=fun q=>qij (tn x.bs) q qi s3 s2 hp0
  rw[s4]at r1
  have hu:=qD (n:=x.B.toNat) qe
  have u:=jw x.B.toNat qe hp0
  rw[zox qe]at u
  have hl:=kL (l:=tn x.bs) (by simp;exact s1) s3 s2
  have a1:=qlb .u8 (uv x.B.toNat) 2 (.inr rfl) 1 qh x.H qe
  have a2:=yL .u8 (uv x.B.toNat++[x.H]) 2 (.inr rfl) 1 qh 2 (zE (tn x.bs)) qi
  have wB:IntKind.u64.wrap x.B=x.B:=qu qe qe
  have wH:IntKind.u8.wrap x.H=x.H:=zB qe qe
  have r2:∀q,run cxX 27 [.sc (.int .i64 x.B),.sc (.int .i64 x.H),S q 1 (LI .u32 x.bs)] hp0=some (S 2 1 (LI .u8 (uv x.B.toNat++[x.H]++zE (tn x.bs))),hp0):=by
   intro q
   rw[E27]
   generalize LI .u8 (uv x.B.toNat++[x.H]++zE (tn x.bs))=Y3 at*
   generalize LI .u8 (uv x.B.toNat++[x.H])=Y2 at*
   generalize uv x.B.toNat=U at*
   generalize zE (tn x.bs)=Y at*
   simp[wB,u,wH,a1,r1,a2]
  refine⟨2,?_,.inr rfl⟩
  generalize uv x.B.toNat++[x.H]++zE (tn x.bs)=Y at*
  simp[wA,k,ql,qs,r2]
 ·rw[if_neg qe,if_neg qe,if_neg qe,if_neg qe,if_pos k]
  obtain⟨s0,s1,s2,s3⟩:=vr f k
  have r2:=fun q=>qm5 x.R x.C qe s1 x.cs qe f.w.cs q hp0
  refine⟨1,?_,.inl rfl⟩
  generalize [x.R]++uv x.C.toNat++zV x.C x.cs 0 0=Y at*
  simp[wA,k,ql,qs,r2]
 ·rw[if_neg qe,if_neg qe,if_neg qe,if_neg qe,if_neg qe]
  obtain⟨s0,s1,s2⟩:=xV f k
  have hl:g.L.length<=16:=by rw[<-gn]at s2;simpa[Gs.nf]using s2
  have r2:=fun q=>qgd x.gK g q ⟨qe,qe⟩ gw (by rw[gn];exact s1) qe hp0
  rw[gn]at r2
  refine⟨1,?_,.inl rfl⟩
  generalize yE x.gK x.g=Y at*
  simp[wA,k,ql,qs,qp,qo,r2]
theorem zgf{x y:SkN}{r r':AV}(hv:yu x r)(hu:yu y r')(fx:Fine x)(fy:Fine y)(hx:H64 x)(hy:H64 y)(hl:jT x y=true)(k1 k2:Nat)(M:AV)(hro:AI.ro M=M)(hp H1 H2 H3:Hp)(e3:Int)
 (t1:run cxX 21 [.sc (.int .u8 x.kind),S (rk k1) 1 (LI .u8 (qE x)),M] hp=some (.tup [r,.sc (.int .i64 0)],H1))
 (t2:run cxX 21 [.sc (.int .u8 x.kind),S (rk k2) 1 (LI .u8 (qE y)),M] H1=some (.tup [r',.sc (.int .i64 0)],H2))
 (mt:run cxX 30 [M,.sc (.int .i64 ((byM x y).length:Int))] H2=some (.sc (.int .i64 e3),H3)):
 ∃t,run cxX 13 [.sc (.int .u8 x.kind),S k1 1 (LI .u8 (qE x)),S k2 1 (LI .u8 (qE y)),M] hp=
  if(yl x y).2=0/\e3=0 then some (.tup [S t 1 (LI .u8 (byM x y)),.sc (.int .i64 0)],H3)
  else if(yl x y).2=0 then some (.tup [S 2 1 [],.sc (.int .i64 e3)],H3)else some (.tup [S 2 1 [],.sc (.int .i64 (yl x y).2)],H2):=by
 obtain⟨L,rfl,l1,l2,lc⟩:=hv.cl
 obtain⟨L',rfl,m1,m2,mc⟩:=hu.cl
 have li:=qm3 lc.sk mc.sk hp0
 rw[hl]at li
 obtain⟨t,hb,fb⟩:=qnh fx fy (rk k1) (rk k2) hp0 lc.sk mc.sk hx hy hl
 have g23:∀(l:List AV),l.length=23->qp l 0 23=some l:=fun l hl=>Km l 23 hl
 have lv:=lc.vl;have lr:=lc.ro;have mv:=mc.vl;have mr:=mc.ro
 have ln:=lc.len;have mn:=mc.len
 refine⟨rk (rk t),?_⟩
 rw[E13]
 generalize qE x=Y1 at*
 generalize qE y=Y2 at*
 generalize(yl x y).2=er at*
 generalize byM x y=Z at*
 by_cases he:er=0
 ·by_cases h3:e3=0
  ·simp[-List.map_map,-List.all_map,-List.all_eq_true,hro,t1,t2,l1,l2,m1,m2,Jw,g23,lr,mr,lv,mv,ln,mn,li,fb,he,h3,mt]
  ·simp[-List.map_map,-List.all_map,-List.all_eq_true,hro,t1,t2,l1,l2,m1,m2,Jw,g23,lr,mr,lv,mv,ln,mn,li,fb,he,h3,mt]
 ·simp[-List.map_map,-List.all_map,-List.all_eq_true,hro,t1,t2,l1,l2,m1,m2,Jw,g23,lr,mr,lv,mv,ln,mn,li,fb,he,mt]
theorem qy3{x y:SkN}{v u:AV}(hv:yu x v)(hu:yu y u)(fx:Fine x)(fy:Fine y)(hx:H64 x)(hy:H64 y)(hl:jT x y=true)(k1 k2:Nat)(hp:Hp):
 ∃t hp',run cxX 13 [.sc (.int .u8 x.kind),S k1 1 (LI .u8 (qE x)),S k2 1 (LI .u8 (qE y)),.sc (.pointer none)] hp=some (.tup [S t 1 (LI .u8 (byM x y)),.sc (.int .i64 (yl x y).2)],hp')/\∀a,a<hp.next->hp'.get a=hp.get a:=by
 obtain⟨r,H1,i1,t1,n1,g1⟩:=qcb hv fx hx (rk k1) (.sc (.pointer none)) rfl hp hp (wV _ hp)
 obtain⟨r',H2,i2,t2,n2,g2⟩:=qcb hu fy hy (rk k2) (.sc (.pointer none)) rfl H1 H1 (wV _ H1)
 have fr:∀a,a<hp.next->H2.get a=hp.get a:=fun a ha=>by rw[g2 a (znu ha n1),g1 a ha]
 rw[<-JE hl]at t2
 obtain⟨t,fm⟩:=zgf i1 i2 fx fy hx hy hl k1 k2 (.sc (.pointer none)) rfl hp H1 H2 H2 0 t1 t2 (wV _ H2)
 by_cases h:(yl x y).2=0
 ·rw[if_pos ⟨h,rfl⟩]at fm
  rw[h]
  exact⟨t,H2,fm,fr⟩
 ·rw[if_neg (fun q=>h q.1),if_neg h]at fm
  have e:byM x y=[]:=if_neg h
  rw[e]
  exact⟨2,H2,fm,fr⟩
theorem qqb{x y:SkN}{v u:AV}(hv:yu x v)(hu:yu y u)(fx:Fine x)(fy:Fine y)(hx:H64 x)(hy:H64 y)(hl:jT x y=true)(k1 k2:Nat)(hp:Hp):
 ∃t hp',run cxX 13 [.sc (.int .u8 x.kind),S k1 1 (LI .u8 (qE x)),S k2 1 (LI .u8 (qE y)),.sc (.pointer none)] hp=some (.tup [S t 1 (LI .u8 (byM x y)),.sc (.int .i64 (yl x y).2)],hp'):=by
 obtain⟨t,hp',h,_⟩:=qy3 hv hu fx fy hx hy hl k1 k2 hp
 exact⟨t,hp',h⟩
theorem qkc:H64 skZ:=by intro n hn;cases hn
theorem qcy:qE skZ=[0]:=by
 have e:qE skZ=uv 0++[]:=rfl
 rw[e,uv]
 rfl
theorem qi4(hp:Hp):∃hp',run cxX 9 [] hp=some (.sc (.bool true),hp'):=by
 obtain⟨t,hp',fm⟩:=qqb JG JG ZE ZE qkc qkc (qdc _) 0 0 hp
 have e:byM skZ skZ=[0]:=by
  unfold byM
  rw[Va ZE,if_pos rfl,qn8 ZE qh qh,qcy]
 have e2:(yl skZ skZ).2=0:=by rw[Va ZE]
 rw[e,e2,qcy]at fm
 refine⟨hp',?_⟩
 have k0:skZ.kind=0:=rfl
 rw[k0]at fm
 have f':run cxX 13 [.sc (.int .u8 0),S 0 1 [.sc (.int .u8 0)],S 0 1 [.sc (.int .u8 0)],.sc (.pointer none)] hp=some (.tup [S t 1 (LI .u8 [0]),.sc (.int .i64 0)],hp'):=fm
 rw[E9]
 simp[f']
 rfl
theorem qj8:∀(a b:List Int) (i:Nat) (v:Int),a.length=b.length->yD a (b.set i (max (b.getD i 0) v))=(yD a b).set i (max ((yD a b).getD i 0) v)
 |[],[],i,v,_=>by simp[yD]
 |x::a,y::b,0,v,_=>by
  show max x (max y v)::yD a b=max (max x y) v::yD a b
  rw[Int.max_assoc]
 |x::a,y::b,i+1,v,h=>by
  have ih:=qj8 a b i v (by simpa using h)
  show max x y::yD a (b.set i (max (b.getD i 0) v))=max x y::(yD a b).set i (max ((yD a b).getD i 0) v)
  rw[ih]
theorem qkv:∀(a b:List Int) (i:Nat) (n:Int),a.length=b.length->kr a->kr b->0<=n->jY a (b.set i (zi (b.getD i 0) n))=(jY a b).set i (zi ((jY a b).getD i 0) n)
 |[],[],i,n,_,_,_,_=>by simp[jY]
 |x::a,y::b,0,n,_,ha,hb,hn=>by
  show zi x (zi y n)::jY a b=zi (zi x y) n::jY a b
  rw[qji (ha x qg).1 (hb y qg).1 hn]
 |x::a,y::b,i+1,n,h,ha,hb,hn=>by
  have ih:=qkv a b i n (by simpa using h) (fun m hm=>ha m (by simp[hm])) (fun m hm=>hb m (by simp[hm])) hn
  show zi x y::jY a (b.set i (zi (b.getD i 0) n))=zi x y::(jY a b).set i (zi ((jY a b).getD i 0) n)
  rw[ih]
theorem qam(C h:Int)(a:List Int)(ua:kr a):∀(rs:List Nat) (b:List Int),a.length=b.length->kr b->jY a (Qw C h 1 b rs)=Qw C h 1 (jY a b) rs
 |[],_,_,_=>rfl
 |r::rs,b,hl,ub=>by
  have ih:=qam C h a ua rs (Zw C h 1 b r) (by rw[KC];exact hl) (KB ub qe)
  show jY a (Qw C h 1 (Zw C h 1 b r) rs)=Qw C h 1 (Zw C h 1 (jY a b) r) rs
  rw[ih]
  unfold Zw
  rw[qkv a b _ 1 hl ua ub qe]
theorem qjx:∀(r a b:List Int),jP a->jP b->mrg a (Ji b r)=Ji (mrg a b) r
 |[],_,_,_,_=>rfl
 |n::r,a,b,ha,hb=>by
  have h1:jP [n]:=List.pairwise_singleton _ _
  have ih:=qjx r a (mrg b [n]) ha (jl _ _ hb h1)
  show mrg a (Ji (mrg b [n]) r)=Ji (mrg (mrg a b) [n]) r
  rw[ih,Ki ha hb h1]
theorem qmx(x y:SkN)(h:Int):jT x (je y h)=jT x y:=by
 unfold je
 repeat' split
 all_goals rfl
theorem qp6{x:SkN}{h:Int}(hx:H64 x)(hh:0<=h/\h<18446744073709551616):H64 (je x h):=by
 intro n hn
 unfold je at hn
 by_cases k0:x.kind=0
 ·rw[if_pos k0]at hn;exact hx n hn
 ·by_cases k:x.kind=1
  ·rw[if_neg k0,if_pos k]at hn
   rcases(ye n _ _).mp (zov hn)with q|q
   ·exact hx n q
   ·rw[zp1.mp q];exact hh
  ·rw[if_neg k0,if_neg k]at hn
   repeat' split at hn
   all_goals exact hx n hn
theorem qsb{x y:SkN}(hx:Fine x)(hy:Fine y)(hl:jT x y=true)(h:Int):qx x (je y h)=je (qx x y) h:=by
 obtain⟨kd,on,sp⟩:=qJ.mp hx.c
 obtain⟨kd',on',sp'⟩:=qJ.mp hy.c
 have hk:=JE hl
 obtain⟨l1,l2,l3,l4,l5⟩:=qha hl
 rw[<-hk]at sp'
 have one:∀n:Int,jP [n]:=fun n=>List.pairwise_singleton _ _
 rcases six hx.w kd with k|k|k|k|k|k
 ·have ky:y.kind=0:=qe
  simp[k]at sp sp'
  simp[je,qx,k,ky]
  exact(Ki (xy.mp sp).2 (xy.mp sp').2 (one _)).symm
 ·have ky:y.kind=1:=qe
  simp[k]at sp sp'
  simp[je,qx,k,ky]
  have r1:=(yY.mp sp).2.2
  have r2:=(yY.mp sp').2.2
  rw[VU,Ki r1 r2 (one h),<-l1 k]
  have t:=qh4 x.hs (mrg y.hs [h]) x.K.toNat (max x.K.toNat x.hs.length) x.K.toNat qe qe
  rw[zn2 (by omega:x.hs.length<=max x.K.toNat x.hs.length)]at t
  exact t
 ·have ky:y.kind=2:=qe
  simp[k]at sp sp'
  simp[je,qx,k,ky]
  have a:=(xF.mp sp).2.1
  have b:=(xF.mp sp').2.1
  rw[<-l2 k]at b
  rw[<-l2 k]
  have hlen:x.rg.length=y.rg.length:=qe
  unfold kS
  rw[Xi,<-hlen]
  by_cases q:yS x.P h<x.rg.length
  ·rw[if_pos q,if_pos q,qj8 _ _ _ _ hlen]
  ·rw[if_neg q,if_neg q]
 ·have ky:y.kind=3:=qe
  simp[k]at sp sp'
  simp[je,qx,k,ky]
  rw[<-(l3 k).1,<-(l3 k).2]
  exact qjx _ _ _ (yT sp hx.w.bs).2.2.1 (yT sp' hy.w.bs).2.2.1
 ·have ky:y.kind=4:=qe
  simp[k]at sp sp'
  simp[je,qx,k,ky]
  obtain⟨e1,e2⟩:=l4 k
  rw[<-e1,<-e2]at sp'⊢
  have a:=(kq.mp sp)
  have b:=(kq.mp sp')
  have hm:JX x.R x.C (jY x.cs y.cs)=0:=kq.mpr ⟨a.1,a.2.1,by rw[Jb];exact a.2.2⟩
  unfold vg
  rw[if_pos sp',if_pos hm]
  exact qam _ _ _ hx.w.cs _ _ (by have:=a.2.2;have:=b.2.2;omega) hy.w.cs
 ·have ky:y.kind=5:=qe
  simp[je,qx,k,ky]
end Go.Proofs.YtmajcennjgjlnaaGreat.AI
namespace Go.Proofs.YtmajcennjgjlnaaGreat.AI
open Go Go.RowKit Go.ChangeShapes Go.WideShapes Go.ChangeAt
set_option linter.unusedVariables false
set_option linter.unusedSimpArgs false
theorem vlP:∀(l:List (Int×Int)) (x:AV),x∈LP l->vl x=true
 |[],x,h=>by cases h
 |p::l,x,h=>by
  simp only[LP,zne]at h
  rcases h with rfl|rfl|h
  ·rfl
  ·rfl
  ·exact vlP l x h
def VP:List (Int×Int)->List Value
 |[]=>[]
 |p::l=>.int .u64 p.1::.int .u8 p.2::VP l
theorem zhm:∀l,(VP l).length=2*l.length
 |[]=>rfl
 |p::l=>by simp only[VP,zna,zhm l];omega
theorem zhq:∀(l:List (Int×Int)) (i:Nat) (v:Value),(VP l)[i]?=some v->∃p,l[i/2]?=some p/\v=if i%2=0 then .int .u64 p.1 else .int .u8 p.2
 |[],i,v,h=>by simp[VP]at h
 |p::l,0,v,h=>by
  simp only[VP,zp7,zq7]at h
  exact⟨p,rfl,by simp[h]⟩
 |p::l,1,v,h=>by
  simp only[VP,zpq,zp7,zq7]at h
  exact⟨p,rfl,by simp[h]⟩
 |p::l,i+2,v,h=>by
  simp only[VP,zpq]at h
  obtain⟨q,h1,h2⟩:=zhq l i v h
  refine⟨q,?_,?_⟩
  ·rw[show(i+2)/2=i/2+1 by omega,zpq];exact h1
  ·rw[show(i+2)%2=i%2 by omega];exact h2
theorem zhf:∀(l:List (Int×Int)) (i:Nat) (x:AV) (v:Value),(LP l)[i]?=some x->(VP l)[i]?=some v->x= .sc v/\v.oneCell'=true
 |[],i,x,v,h,_=>by simp[LP]at h
 |p::l,0,x,v,h,h'=>by
  simp only[LP,VP,zp7,zq7]at h h'
  subst h h'
  exact⟨rfl,rfl⟩
 |p::l,1,x,v,h,h'=>by
  simp only[LP,VP,zpq,zp7,zq7]at h h'
  subst h h'
  exact⟨rfl,rfl⟩
 |p::l,i+2,x,v,h,h'=>by
  simp only[LP,VP,zpq]at h h'
  exact zhf l i x v h h'
section
variable {H:Type}{enc:TypeId×Value->H}{P:Program}{W:World}{fuel:Nat}{t e tu t8:TypeId}{cs:List Value}{y:DataW H×List MemPlace}{fs:Array Field}
theorem rd_pairs{f0 f1:Field}(ht:P.underlying t=some (.slice e))(he:P.underlying e=some (.struct #[f0,f1])) (h0:P.underlying f0.type=some (.int .u64)) (h1:P.underlying f1.type=some (.int .u8))
 (o0:f0.offset=0) (o1:f1.offset=1) (hc:P.cellsOf e=2) (c0:P.cellsOf f0.type=1) (c1:P.cellsOf f1.type=1) (h:DataW.trod enc P W 0 (fun _=>true) true fuel t cs=some y):
 ∃k l v,cs=[v]/\RelR (VI W) W (S k 2 (LP l)) v/\∀p∈l,InI p:=by
 rcases DataW.trod_slice ht h with⟨hcs,_⟩|⟨a,len,cap,elems,rest,n,_,hcs,_,_,hl,_,hlen,hel,_,_⟩
 ·exact⟨2,[],_,hcs,.sc nil0 rfl,qg⟩
 ·have each:∀i,i<len->∃p:Int×Int,InI p/\W.cell? (a.add (i*2))=some (.int .u64 p.1)/\W.cell? (a.add (i*2+1))=some (.int .u8 p.2):=by
   intro i hi
   have hb:=hel i hi
   rw[zng qe,hc,Option.bind_eq_some_iff]at hb
   obtain⟨cs',hcs',hy'⟩:=hb
   obtain⟨xs,m,_,_,hcl,hxl,hf⟩:=DataW.trod_struct he hy'
   have g0:=hf 0 f0 rfl
   have g1:=hf 1 f1 rfl
   rw[o0,c0]at g0
   rw[o1,c1]at g1
   rw[hc]at hcl
   obtain⟨y0,hy0⟩:∃y,xs[0]?=some y:=⟨_,zng (by rw[hxl];simp)⟩
   obtain⟨y1,hy1⟩:∃y,xs[1]?=some y:=⟨_,zng (by rw[hxl];simp)⟩
   rw[hy0]at g0
   rw[hy1]at g1
   obtain⟨n0,q0,w0⟩:=rd_int h0 g0
   obtain⟨n1,q1,w1⟩:=rd_int h1 g1
   have z0:=cell_at q0
   have z1:=cell_at q1
   have hc3:=(World.cells?_some hcs').2.2
   refine⟨(n0,n1),⟨w0.u64,w1.u8⟩,?_,?_⟩
   ·have:=hc3 0 qe
    rw[Addr.add_add,zoy]at this
    rw[this];exact z0
   ·have:=hc3 1 qe
    rw[Addr.add_add]at this
    rw[this];exact z1
  have ch:∃f:Nat->Int×Int,∀i,i<len->InI (f i)/\W.cell? (a.add (i*2))=some (.int .u64 (f i).1)/\W.cell? (a.add (i*2+1))=some (.int .u8 (f i).2):=by
   refine⟨fun i=>if hi:i<len then(each i hi).choose else(0,0),fun i hi=>?_⟩
   simp only[dif_pos hi]
   exact(each i hi).choose_spec
  obtain⟨f,hf⟩:=ch
  have hg:∀(i:Nat) (p:Int×Int),((List.range len).map f)[i]?=some p->i<len/\p=f i:=by
   intro i p hp
   rw[znt,zql]at hp
   obtain⟨j,hj,rfl⟩:=hp
   obtain⟨h1,h2⟩:=zni.mp hj
   simp at h1 h2
   subst h2
   exact⟨h1,rfl⟩
  refine⟨0,(List.range len).map f,_,hcs,?_,?_⟩
  ·have:=zci (W:=W) (a:=a) (n:=len) (cap:=cap) (sz:=2) (cs:=LP ((List.range len).map f)) (vs:=VP ((List.range len).map f)) qe (by rw[qj3];simp;omega) (by rw[qj3,zhm]) hl
    (fun i v hv=>by
     obtain⟨p,hp,rfl⟩:=zhq _ i v hv
     obtain⟨hi,rfl⟩:=hg _ _ hp
     obtain⟨_,q0,q1⟩:=hf _ hi
     by_cases hm:i%2=0
     ·rw[if_pos hm,<-q0]
      congr 2
      omega
     ·rw[if_neg hm,<-q1]
      congr 2
      omega)
    (fun x hx=>vlP _ x hx)
    (fun i x v hx hv=>by
     obtain⟨rfl,ho⟩:=zhf _ i x v hx hv
     exact .sc _ ho)
   exact this (fun _=>.fr)
  ·intro p hp
   obtain⟨i,hi,rfl⟩:=zn9.mp hp
   exact(hf i (by simpa using hi)).1
end
end Go.Proofs.YtmajcennjgjlnaaGreat.AI
namespace Go.Proofs.YtmajcennjgjlnaaGreat.AI
open Go
set_option linter.unusedVariables false
set_option linter.unusedSimpArgs false
set_option maxRecDepth 100000
set_option maxHeartbeats 0
theorem zhs(a b c d e f g:AV):qp [a,b,c,d,e,f,g] 0 7=some [a,b,c,d,e,f,g]:=rfl
theorem zbl{o:SkN}{M:List AV}(fo:Fine o)(ho:H64 o)(mc:Cl o M)(t:Nat)(hp:Hp):B6_12 (S t 1 (LI .u8 (qE o))) (.int .i64 0) M hp=some (.sc (.bool true),hp):=by
 obtain⟨t3,b3,_⟩:=QR mc.sk fo ho hp0
 have g23:∀(l:List AV),l.length=23->qp l 0 23=some l:=fun l hl=>Km l 23 hl
 have mvl:=mc.vl;have mro:=mc.ro;have mln:=mc.len
 rw[zc5]
 generalize qE o=Z at*
 simp[-List.map_map,-List.all_map,-List.all_eq_true,mvl,mro,mln,g23,b3]
theorem qgf(s:Sm)(k1 k2:Nat)(oks:s.Ok)(h:Int)(hh:0<=h/\h<18446744073709551616)(hp:Hp):∃hp',run cxX 6 [smA s k1 k2,.sc (.int .u64 h)] hp=some (.sc (.bool true),hp'):=by
 have li:=fun k k' hp=>qso s k k' hp
 obtain⟨ha,aw⟩:=qi4 hp0
 rw[E6]
 by_cases hs:s.hs.length<=40/\s.fl.length<=40
 ·simp only[eq_true hs,decide_true]at li
  have fx:=QM s oks hs.1 hs.2
  have hx:=KV s oks
  have sl:=KU s oks hs.1
  have fn:=QM s.none oks.none (by simp[Sm.none]) (by simp[Sm.none])
  have hn:=KV s.none oks.none
  have sn:=KU s.none oks.none (by simp[Sm.none])
  have lan:jT (zq s) (zq s.none)=true:=qga s s.none oks oks.none rfl rfl rfl rfl
  have mn:=qn9 s oks hs.1 hs.2
  obtain⟨r0,hr0,e0⟩:=Wg s.none 2 2 oks.none (by simp[Sm.none]) (by simp[Sm.none]) hp0
  obtain⟨r,hr,e⟩:=Wg s (rk k1) (rk k2) oks hs.1 hs.2 hp0
  have nP:S 2 2 (LP [])=S 2 1 []:=rfl
  unfold smA at e0 e
  simp[Sm.none,nP]at e0
  generalize zq s=x at*
  generalize zq s.none=n at*
  obtain⟨A,rfl,la,va,ca⟩:=hr.cl
  obtain⟨N0,rfl,ln0,vn0,cn0⟩:=hr0.cl
  have s1:=qp7 fn hh (fun _=>qe)
  have s2:=qp7 fx hh (fun _=>qe)
  have f1:=We fn hh (fun _=>qe)
  have f2:=We fx hh (fun _=>qe)
  have h1:=qp6 hn hh
  have h2:=qp6 hx hh
  obtain⟨q1,g1,i1,z1⟩:=qcc cn0.sk fn.W2 h hh hp0
  obtain⟨q2,g2,i2,z2⟩:=qcc ca.sk fx.W2 h hh hp0
  rw[s1]at i1 z1
  rw[s2]at i2 z2
  have lo:jT x (je n h)=true:=by rw[qmx];exact lan
  have em:=qsb fx fn lan h
  rw[mn]at em
  obtain⟨M1,rfl,ml1,mv1,mc1⟩:=i1.cl
  obtain⟨M2,rfl,ml2,mv2,mc2⟩:=i2.cl
  have mxn':yl x (je n h)=(je x h,0):=by
   unfold yl okN
   rw[if_neg (by simpa using fx.c),if_neg (by simpa using f1.c),if_neg (by simp[lo]),em,if_pos f2.c]
  have bxn:byM x (je n h)=qE (je x h):=by unfold byM;rw[mxn'];exact if_pos rfl
  obtain⟨t1,b1,_⟩:=QR ca.sk fx hx hp0
  obtain⟨t2,b2,_⟩:=QR mc1.sk f1 h1 hp0
  obtain⟨u1,hp1,m1⟩:=qqb ca.sk mc1.sk fx f1 hx h1 lo (rk t1) (rk t2) hp
  rw[bxn,mxn']at m1
  have fin:=fun t=>zbl f2 h2 mc2 t hp1
  refine⟨hp1,?_⟩
  have g23:∀(l:List AV),l.length=23->qp l 0 23=some l:=fun l hl=>Km l 23 hl
  have k0:ql A 0=some (.int .u8 x.kind):=(quh A 0).symm.trans ca.k0
  have k0':=ca.k0
  have avl:=ca.vl;have aro:=ca.ro;have aln:=ca.len
  have nvl:=cn0.vl;have nro:=cn0.ro;have nln:=cn0.len
  have mvl:=mc1.vl;have mro:=mc1.ro;have mln:=mc1.len
  have mvl2:=mc2.vl;have mro2:=mc2.ro;have mln2:=mc2.len
  have p5:∀(a b c d e f g x:AV),qo [a,b,c,d,e,f,g] 5 [x]=some [a,b,c,d,e,x,g]:=fun _ _ _ _ _ _ _ _=>rfl
  have p6:∀(a b c d e f g x:AV),qo [a,b,c,d,e,f,g] 6 [x]=some [a,b,c,d,e,f,x]:=fun _ _ _ _ _ _ _ _=>rfl
  generalize qE (je x h)=Z at*
  generalize qE (je n h)=Y2 at*
  generalize qE x=Y1 at*
  simp[-List.map_map,-List.all_map,-List.all_eq_true,li,aw,zhs,p5,p6,e0,e,la,va,ln0,vn0,avl,aro,aln,nvl,nro,nln,mvl,mro,mln,ml1,mv1,ml2,mv2,mvl2,mro2,mln2,Jw,g23,k0,k0',z1,z2,b1,b2,m1,fin]
 ·simp only[eq_false hs,decide_false]at li
  exact⟨hp,by simp[li,aw,zhs]⟩
theorem law_FuseSees(a:Int)(wa:InK .u8 a)(b:Int)(wb:InK .u8 b)(c:Int)(wc:InK .u8 c)(d:Int)(wd:InK .u16 d)(f:Bool)(k:Nat)(l:List Int)(wl:∀n∈l,InK .u64 n)(k':Nat)(m:List (Int×Int))(wm:∀p∈m,InI p)(h:Int)(wh:InK .u64 h)(hp:Hp):
 ∃hp',run cxX 6 [.agg [.sc (.int .u8 a),.sc (.int .u8 b),.sc (.int .u8 c),.sc (.int .u16 d),.sc (.bool f),S k 1 (LI .u64 l),S k' 2 (LP m)],.sc (.int .u64 h)] hp=some (.sc (.bool true),hp'):=
 qgf ⟨a,b,c,d,f,l,m⟩ k k' ⟨wa.u8,wb.u8,wc.u8,wd.u16,fun n hn=>(wl n hn).u64,wm⟩ h wh.u64 hp
end Go.Proofs.YtmajcennjgjlnaaGreat.AI
