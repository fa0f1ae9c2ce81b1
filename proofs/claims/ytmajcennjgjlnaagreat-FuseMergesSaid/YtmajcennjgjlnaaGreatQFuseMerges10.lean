/- Texts that the proof of FuseMerges rests on, part 10. -/
import Derived.Test.YtmajcennjgjlnaaGreatQFuseMerges9
import Derived.DataElems
namespace Go.Proofs.YtmajcennjgjlnaaGreat.AI
open Go
set_option linter.unusedVariables false
set_option linter.unusedSimpArgs false
set_option maxRecDepth 100000
set_option maxHeartbeats 0
theorem qou(b k:Nat)(l:List Int)(hl:l.length<=1000000000)(h8:By l)(n:Nat)(hn:n<=255)(rest:List Int):∀(r acc:List Nat) (pr p:Nat) (hp:Hp),acc.length+r.length=n->zO (pr::r)->(∀x∈r,x<18446744073709551616)->l.drop p=jN pr r++rest->p<=l.length->hp.rd b 0=some (Rc k l p 0)->
 ∃hp',B118_4 (.ptr b 0 0) (S 2 1 (LI .u64 (nz acc))) (.int .u64 (pr:Int)) (.int .i64 (n:Int)) (.int .i64 (acc.length:Int)) hp=some (S 2 1 (LI .u64 (nz (acc++r))),hp')/\hp'.rd b 0=some (Rc k l (p+(jN pr r).length) 0)/\hp'.next=hp.next/\∀a,a≠b->hp'.get a=hp.get a:=by
 intro r
 induction r with
 |nil=>
  intro acc pr p hp ha hf h64 hd hpl hr
  have e:acc.length=n:=ha
  refine⟨hp,?_,hr,rfl,fun _ _=>rfl⟩
  have hlt:¬((acc.length:Int)<(n:Int)):=qe
  have hlt':¬(acc.length<n):=qe
  rw[zns,qfm]
  generalize nz acc=L0
  simp[hlt,hlt']
 |cons x r ih=>
  intro acc pr p hp ha hf h64 hd hpl hr
  simp only[zm5]at ha
  have hx:=h64 x qg
  have hle:pr<=x:=hf.1
  have eg:jN pr (x::r)=uv (x-pr)++jN x r:=rfl
  rw[eg,znq]at hd
  have t1:=zd b k l hl h8 (most:=18446744073709551615) hd qe qh hp hpl hr
  have d2:=qL hd
  have q2:=qW hpl hd
  have r1:=qr hp b (Rc k l (p+(uv (x-pr)).length) 0)
  have er:=qV b k l _ 0 _ r1
  obtain⟨hp',a1,a2,a3,a4⟩:=ih (acc++[x]) x _ (hp.put b 0 (Rc k l (p+(uv (x-pr)).length) 0)) qi hf.2 (fun y hy=>h64 y (by simp[hy])) d2 q2 r1
  refine⟨hp',?_,by rw[a2,eg,zm4,zov],a3,fun a h=>by rw[a4 a h];simp[Hp.put,h]⟩
  have ap:=Qu .u64 (nz acc) 2 (.inr rfl) 8 qh (x:Int) qi
  rw[<-yS]at ap
  have w1:IntKind.u64.wrap ((pr:Int)+((x-pr:Nat):Int))=(x:Int):=by rw[qu]<;>omega
  have w2:IntKind.i64.wrap ((acc.length:Int)+1)=(((acc++[x]).length:Nat):Int):=by
   have e:(acc++[x]).length=acc.length+1:=qg
   rw[e,qm]<;>omega
  have hlt:(acc.length:Int)<(n:Int):=qe
  have hlt':acc.length<n:=qe
  have ea:acc++x::r=acc++[x]++r:=qg
  rw[ea,<-a1,qfm]
  generalize hp.put b 0 (Rc k l (p+(uv (x-pr)).length) 0)=H1 at*
  generalize(((acc++[x]).length:Nat):Int)=N1 at*
  generalize nz (acc++[x])=L1 at*
  generalize nz acc=L0 at*
  generalize((x-pr:Nat):Int)=G at*
  simp at t1
  simp[hlt,hlt',t1,w1,er,yC,ap,w2]
theorem qcj(b k:Nat)(l:List Int)(hl:l.length<=1000000000)(h8:By l)(L:List Nat)(hL:L.length<=255)(hf:zO L)(h64:∀x∈L,x<18446744073709551616)(p:Nat)(rest:List Int)(hd:l.drop p=(L.length:Int)::(jN 0 L++rest))(hp:Hp)(hpl:p<=l.length)(hr:hp.rd b 0=some (Rc k l p 0)):
 ∃hp',run cxX 118 [.ptr b 0 0] hp=some (S 2 1 (LI .u64 (nz L)),hp')/\hp'.rd b 0=some (Rc k l (p+1+(jN 0 L).length) 0)/\hp'.next=hp.next/\∀a,a≠b->hp'.get a=hp.get a:=by
 have t1:=zn b k l hl hd hp hpl hr
 have d2:l.drop (p+1)=jN 0 L++rest:=by rw[<-List.drop_drop,hd];rfl
 have q2:p+1<=l.length:=by
  have:(l.drop p).length=l.length-p:=zo4
  rw[hd]at this
  simp only[zm5]at this
  omega
 obtain⟨hp',a1,a2,a3,a4⟩:=qou b k l hl h8 L.length hL rest L [] 0 (p+1) (hp.put b 0 (Rc k l (p+1) 0)) qg (jI hf) h64 d2 q2 (qr _ _ _)
 refine⟨hp',?_,a2,a3,fun a h=>by rw[a4 a h];simp[Hp.put,h]⟩
 have a1:B118_4 (.ptr b 0 0) (S 2 1 []) (.int .u64 0) (.int .i64 (L.length:Int)) (.int .i64 0) (hp.put b 0 (Rc k l (p+1) 0))=some (S 2 1 (LI .u64 (nz L)),hp'):=a1
 have w:IntKind.i64.wrap (L.length:Int)=(L.length:Int):=qm qe qe
 rw[E118]
 generalize nz L=L0 at*
 simp[t1,jV,w,a1]
def Zu:List Int->List Int
 |[]=>[]
 |x::r=>uv x.toNat++Zu r
theorem qxu:∀l,By (Zu l)
 |[]=>By.nil
 |_::r=>By.app (By.uv _) (qxu r)
section
variable (rb sb wb k1 k2:Nat)(L1 L2:List Int)(hl1:L1.length<=1000000000)(hl2:L2.length<=1000000000)(B1:By L1)(B2:By L2)(v7:Value)
include hl1 hl2 B1 B2
theorem qr1(s1 s2:List Int):∀(ra sa:List Int) (i p1 p2:Nat) (Z:List Int) (hp:Hp),ra.length=sa.length->i+ra.length=7->kL ra->kL sa->L1.drop p1=Zu ra++s1->L2.drop p2=Zu sa++s2->p1<=L1.length->p2<=L2.length->Z.length<=1000+10*i->RW3 hp rb sb wb k1 k2 L1 L2 p1 p2 Z->
 ∃hp',B54_9 (.ptr wb 0 0) (.ptr rb 0 0) (.ptr sb 0 0) v7 (.int .i64 (i:Int)) hp=B54_9 (.ptr wb 0 0) (.ptr rb 0 0) (.ptr sb 0 0) v7 (.int .i64 7) hp'/\
  RW3 hp' rb sb wb k1 k2 L1 L2 (p1+(Zu ra).length) (p2+(Zu sa).length) (Z++Zu (xf ra sa))/\(Z++Zu (xf ra sa)).length<=1070:=by
 intro ra
 induction ra with
 |nil=>
  intro sa i p1 p2 Z hp hlen hi ua ub d1 d2 q1 q2 hZ h
  have e1:sa=[]:=znk.mp (by simpa using hlen.symm)
  subst e1
  have e2:i=7:=hi
  subst e2
  refine⟨hp,rfl,?_,?_⟩
  ·show RW3 hp rb sb wb k1 k2 L1 L2 p1 p2 (Z++[])
   rw[zns]
   exact h
  ·show(Z++[]).length<=1070
   rw[zns]
   omega
 |cons x ra ih=>
  intro sa i p1 p2 Z hp hlen hi ua ub d1 d2 q1 q2 hZ h
  cases sa with
  |nil=>simp at hlen
  |cons y sa=>
   have hx:=ua x qg
   have hy:=ub y qg
   have hm:=yc hx hy
   unfold zx at hm
   simp only[zm5]at hlen hi
   have d1:L1.drop p1=uv x.toNat++(Zu ra++s1):=by rw[d1,<-List.append_assoc];rfl
   have d2:L2.drop p2=uv y.toNat++(Zu sa++s2):=by rw[d2,<-List.append_assoc];rfl
   have t1:=zd rb k1 L1 hl1 B1 (most:=18446744073709551615) d1 qe qh hp q1 h.r
   have h1:=h.setR (p1+(uv x.toNat).length)
   have d1':=qL d1
   have q1':=qW q1 d1
   generalize hp.put rb 0 (Rc k1 L1 (p1+(uv x.toNat).length) 0)=H1 at*
   have t2:=zd sb k2 L2 hl2 B2 (most:=18446744073709551615) d2 qe qh H1 q2 h1.s
   have h2:=h1.setS (p2+(uv y.toNat).length)
   have d2':=qL d2
   have q2':=qW q2 d2
   generalize H1.put sb 0 (Rc k2 L2 (p2+(uv y.toNat).length) 0)=H2 at*
   have wl:(uv (zB x y).toNat).length<=10:=qD qe
   have wu:=zY wb (zB x y).toNat Z qe qe H2 h2.w
   have h3:=h2.setW (Z++uv (zB x y).toNat)
   generalize H2.put wb 0 (Wc (Z++uv (zB x y).toNat))=H3 at*
   obtain⟨H4,z1,z2,z3⟩:=ih sa (i+1) _ _ (Z++uv (zB x y).toNat) H3 qe qe (fun n hn=>ua n (by simp[hn])) (fun n hn=>ub n (by simp[hn])) d1' d2' q1' q2' (by rw[zm4];omega) h3
   have e1:Zu (x::ra)=uv x.toNat++Zu ra:=rfl
   have e2:Zu (y::sa)=uv y.toNat++Zu sa:=rfl
   have e3:Zu (xf (x::ra) (y::sa))=uv (zB x y).toNat++Zu (xf ra sa):=rfl
   have m1:p1+(uv x.toNat++Zu ra).length=p1+(uv x.toNat).length+(Zu ra).length:=by rw[zm4,zov]
   have m2:p2+(uv y.toNat++Zu sa).length=p2+(uv y.toNat).length+(Zu sa).length:=by rw[zm4,zov]
   rw[e1,e2,e3,m1,m2,<-List.append_assoc]
   refine⟨H4,?_,z2,z3⟩
   have pl:=yu x y hx hy
   have w1:IntKind.u32.wrap x=x:=qK hx.1 hx.2
   have w2:IntKind.u32.wrap y=y:=qK hy.1 hy.2
   have w3:IntKind.u64.wrap (zB x y)=zB x y:=qu qe qe
   have w4:IntKind.i64.wrap ((i:Int)+1)=((i+1:Nat):Int):=qj
   have i7:(i:Int)<7:=qe
   have i7':i<7:=qe
   have t1':run cxX 60 [.ptr rb 0 0,.sc (.int .u64 18446744073709551615)] hp=some (.sc (.int .u64 x),H1):=by rw[zos hx.1]at t1;exact t1
   have t2':run cxX 60 [.ptr sb 0 0,.sc (.int .u64 18446744073709551615)] H1=some (.sc (.int .u64 y),H2):=by rw[zos hy.1]at t2;exact t2
   rw[zos hm.1]at wu
   clear t1 t2 z2 z3 h h1 h2 h3 ih d1 d2 d1' d2' wl hZ e1 e2 e3
   rw[<-z1,ql7]
   generalize((i+1:Nat):Int)=I at*
   generalize zB x y=P at*
   simp[i7,i7',t1',t2',jK,w1,w2,pl,yz,w3,wu,w4]
end
section
variable (X0 X1 X2:AV)(K:Nat)(hK:K<=255)(hp:Hp)
include hK
theorem zf7:∀(n:Nat) (A B out:List Nat) (ka kb:Nat),A.length+B.length<=n->n<=100000->out.length<=K->
 B54_16 X0 X1 X2 (.int .u8 (K:Int)) (S ka 1 (LI .u64 (nz A))) (S kb 1 (LI .u64 (nz B))) (S 2 1 (LI .u64 (nz out))) hp=B54_20 X0 X1 X2 (S 2 1 (LI .u64 (nz ((out++mk A B).take K)))) hp:=by
 have wK:IntKind.i64.wrap (K:Int)=(K:Int):=qm qe qe
 intro n
 induction n with
 |zero=>
  intro A B out ka kb hn hn2 ho
  have e1:A=[]:=znk.mp qe
  have e2:B=[]:=znk.mp qe
  subst e1;subst e2
  rw[ZG,zns,zn2 ho,Kr]
  have w0:IntKind.i64.wrap 0=0:=qh
  by_cases hlt:out.length<K
  ·have hlt':(out.length:Int)<(K:Int):=qe
   simp[jV,wK,hlt,hlt',nz,LI,w0]
  ·have hlt':¬((out.length:Int)<(K:Int)):=qe
   simp[jV,wK,hlt,hlt',nz,LI]
 |succ n ih=>
  intro A B out ka kb hn hn2 ho
  by_cases hlt:out.length<K
  ·have hlt':(out.length:Int)<(K:Int):=qe
   have ap:=fun(v:Nat)=>Qu .u64 (nz out) 2 (.inr rfl) 8 qh (v:Int) qi
   have es:∀v:Nat,nz out++[(v:Int)]=nz (out++[v]):=fun v=>by rw[yS]
   simp only[es]at ap
   have gs0:∀(v:Value),ql [.sc v] 0=some v:=fun _=>rfl
   have hsum:IntKind.i64.wrap ((A.length:Int)+(B.length:Int))=((A.length+B.length:Nat):Int):=qj
   have nzl:∀l:List Nat,(LI .u64 (nz l)).length=l.length:=fun l=>qg
   have ix:∀(k x:Nat) (r:List Nat),jE 1 (S k 1 (LI .u64 (nz (x::r)))) (.int .i64 0)=some [.sc (.int .u64 (x:Int))]:=fun k x r=>by simp[nz,LI]
   have sl:∀(k x:Nat) (r:List Nat),∃t,jZ 1 (S k 1 (LI .u64 (nz (x::r)))) (some (.int .i64 1)) none none=some (S t 1 (LI .u64 (nz r))):=fun k x r=>
    ⟨_,yW k (LI .u64 (nz (x::r))) .i64 1 qh (by rw[nzl,zm5];omega)⟩
   --one more of the first,of the second
   have g18:∀(x:Nat) (A':List Nat),A=x::A'->∃t,B54_18 X0 X1 X2 (.int .u8 (K:Int)) (S ka 1 (LI .u64 (nz A))) (S kb 1 (LI .u64 (nz B))) (S 2 1 (LI .u64 (nz out))) hp=B54_16 X0 X1 X2 (.int .u8 (K:Int)) (S t 1 (LI .u64 (nz A'))) (S kb 1 (LI .u64 (nz B))) (S 2 1 (LI .u64 (nz (out++[x])))) hp:=by
    intro x A' e
    subst e
    obtain⟨t,et⟩:=sl (rk ka) x A'
    have ex:=ix (rk ka) x A'
    refine⟨t,?_⟩
    rw[qvp]
    generalize nz (x::A')=O3 at*
    simp[-ZM,ex,gs0,yC,ap,et]
   have g19:∀(x:Nat) (B':List Nat),B=x::B'->∃t,B54_19 X0 X1 X2 (.int .u8 (K:Int)) (S ka 1 (LI .u64 (nz A))) (S kb 1 (LI .u64 (nz B))) (S 2 1 (LI .u64 (nz out))) hp=B54_16 X0 X1 X2 (.int .u8 (K:Int)) (S ka 1 (LI .u64 (nz A))) (S t 1 (LI .u64 (nz B'))) (S 2 1 (LI .u64 (nz (out++[x])))) hp:=by
    intro x B' e
    subst e
    obtain⟨t,et⟩:=sl (rk kb) x B'
    have ex:=ix (rk kb) x B'
    refine⟨t,?_⟩
    rw[qvo]
    generalize nz (x::B')=O3 at*
    simp[-ZM,ex,gs0,yC,ap,et]
   have g16:A.length+B.length≠0->B54_16 X0 X1 X2 (.int .u8 (K:Int)) (S ka 1 (LI .u64 (nz A))) (S kb 1 (LI .u64 (nz B))) (S 2 1 (LI .u64 (nz out))) hp=B54_17 X0 X1 X2 (.int .u8 (K:Int)) (S ka 1 (LI .u64 (nz A))) (S kb 1 (LI .u64 (nz B))) (S 2 1 (LI .u64 (nz out))) hp:=by
    intro h0
    have hs:(0:Int)<((A.length+B.length:Nat):Int):=qe
    rw[Kr]
    generalize((A.length+B.length:Nat):Int)=Q at*
    simp[jV,wK,hlt,hlt',hsum,hs]
   cases A with
   |nil=>
    cases B with
    |nil=>exact(by
     have:=ih [] [] out ka kb qg qe ho
     exact this)
    |cons y B=>
     simp only[zm5,znn]at hn
     obtain⟨t,e19⟩:=g19 y B rfl
     rw[g16 qg,ZG,zra]
     have z:=ih [] B (out++[y]) ka t (by simp only[znn];omega) qe qi
     rw[ZG]at z
     rw[<-z,<-e19,JD]
     have b1:¬(((B.length+1:Nat):Int)=0):=qe
     have b2:(LI IntKind.u64 (nz (y::B))).length=B.length+1:=qg
     have b3:(LI IntKind.u64 (nz [])).length=0:=rfl
     generalize LI IntKind.u64 (nz (y::B))=Y at*
     generalize LI IntKind.u64 (nz [])=X at*
     simp[b2,b3,b1]
   |cons x A=>
    cases B with
    |nil=>
     simp only[zm5,znn]at hn
     obtain⟨t,e18⟩:=g18 x A rfl
     rw[g16 qg,ZF,zra]
     have z:=ih A [] (out++[x]) t kb (by simp only[znn];omega) qe qi
     rw[ZF]at z
     rw[<-z,<-e18,JD]
     have b3:(LI IntKind.u64 (nz [])).length=0:=rfl
     generalize LI IntKind.u64 (nz (x::A))=Y at*
     generalize LI IntKind.u64 (nz [])=X at*
     simp[b3]
    |cons y B=>
     simp only[zm5]at hn
     have b1:¬(((B.length+1:Nat):Int)=0):=qe
     have b2:(LI IntKind.u64 (nz (y::B))).length=B.length+1:=qg
     have b3:(LI IntKind.u64 (nz (x::A))).length=A.length+1:=qg
     have b4:(0:Int)<((A.length+1:Nat):Int):=qe
     have ex:=ix (rk ka) x A
     have ey:=ix (rk kb) y B
     by_cases hyx:y<x
     ·obtain⟨t,e19⟩:=g19 y B rfl
      rw[g16 qg,xw,if_pos hyx,zra]
      have z:=ih (x::A) B (out++[y]) ka t (by simp only[zm5];omega) qe qi
      rw[<-z,<-e19,JD]
      have q1:¬(x<=y):=qe
      have q2:¬((x:Int)<=(y:Int)):=qe
      clear z e19 g16 g18 g19 ih
      generalize LI IntKind.u64 (nz (y::B))=Y at*
      generalize LI IntKind.u64 (nz (x::A))=X at*
      generalize((B.length+1:Nat):Int)=N1 at*
      generalize((A.length+1:Nat):Int)=N2 at*
      simp[-ZM,b2,b3,b1,b4,ex,ey,gs0,q1,q2]
     ·obtain⟨t,e18⟩:=g18 x A rfl
      rw[g16 qg,xw,if_neg hyx,zra]
      have z:=ih A (y::B) (out++[x]) t kb (by simp only[zm5];omega) qe qi
      rw[<-z,<-e18,JD]
      have q1:x<=y:=qe
      have q2:(x:Int)<=(y:Int):=qe
      clear z e18 g16 g18 g19 ih
      generalize LI IntKind.u64 (nz (y::B))=Y at*
      generalize LI IntKind.u64 (nz (x::A))=X at*
      generalize((B.length+1:Nat):Int)=N1 at*
      generalize((A.length+1:Nat):Int)=N2 at*
      simp[-ZM,b2,b3,b1,b4,ex,ey,gs0,q1,q2]
  ·have hlt':¬((out.length:Int)<(K:Int)):=qe
   have ex:(out++mk A B).take K=out:=by
    have:K=out.length:=qe
    rw[this,zrm]
   rw[ex,Kr]
   simp[jV,wK,hlt,hlt']
end
theorem WR:∀(l:List Nat) (p:Nat),(∀x∈l,x<18446744073709551616)->(jN p l).length<=10*l.length
 |[],_,_=>by simp[jN]
 |x::r,p,h=>by
  have ih:=WR r x (fun y hy=>h y (by simp[hy]))
  have hx:=h x qg
  have hu:=qD (n:=x-p) qe
  show(uv (x-p)++jN x r).length<=_
  rw[zm4,zm5]
  omega
theorem qua(rb sb wb k1 k2 k:Nat)(L1 L2:List Int)(p1 p2:Nat)(L:List Nat)(hL:L.length<=255)(h64:∀x∈L,x<18446744073709551616)(hf:zO L):∀(r:List Nat) (i pr:Nat) (Z:List Int) (hp:Hp),L.drop i=r->i+r.length=L.length->zO (pr::r)->Z.length<=2000+10*i->RW3 hp rb sb wb k1 k2 L1 L2 p1 p2 Z->
 ∃hp',B54_23 (.ptr wb 0 0) (.ptr rb 0 0) (.ptr sb 0 0) (.int .u64 (pr:Int)) (S k 1 (LI .u64 (nz L))) (.int .i64 (L.length:Int)) (.int .i64 (i:Int)) hp=some (.sc (.int .i64 0),hp')/\RW3 hp' rb sb wb k1 k2 L1 L2 p1 p2 (Z++jN pr r):=by
 intro r
 induction r with
 |nil=>
  intro i pr Z hp h hil hn hZ hR
  have e:i=L.length:=by simpa using hil
  subst e
  refine⟨hp,?_,by rw[show jN pr []=[]from rfl,zns];exact hR⟩
  have er1:=qV rb k1 _ _ _ hp hR.r
  have er2:=qV sb k2 _ _ _ hp hR.s
  have fi:=yb
  rw[qd2]
  simp[er1,er2,fi]
 |cons x r ih=>
  intro i pr Z hp h hil hn hZ hR
  obtain⟨e1,e2,hi,e3⟩:=qt h
  simp only[zm5]at hil
  have hx:x<18446744073709551616:=h64 x (by rw[<-e3];exact znm _)
  have hle:pr<=x:=hn.1
  have hu:=qD (n:=x-pr) qe
  have wu:=zY wb (x-pr) Z qe qe hp hR.w
  have h1:=hR.setW (Z++uv (x-pr))
  generalize hp.put wb 0 (Wc (Z++uv (x-pr)))=H1 at*
  obtain⟨H2,a1,a2⟩:=ih (i+1) x (Z++uv (x-pr)) H1 e2 qe hn.2 (by rw[zm4];omega) h1
  have eg:jN pr (x::r)=uv (x-pr)++jN x r:=rfl
  refine⟨H2,?_,by rw[eg,<-List.append_assoc];exact a2⟩
  have gs0:∀(v:Value),ql [.sc v] 0=some v:=fun _=>rfl
  have en:∀h,(nz L)[i]'h=(x:Int):=fun h=>by simp[nz,e3]
  have hi':(i:Int)<(L.length:Int):=qe
  have w1:IntKind.u64.wrap ((x:Int)-(pr:Int))=((x-pr:Nat):Int):=by rw[qu]<;>omega
  have w2:IntKind.i64.wrap ((i:Int)+1)=((i+1:Nat):Int):=qj
  rw[<-a1,qd2]
  generalize((i+1:Nat):Int)=I at*
  generalize((x-pr:Nat):Int)=G at*
  simp[hi,hi',gs0,en,w1,wu,w2]
def gSu(g:GN):List Int:=[g.M,g.e0,g.e1,g.e2,g.e3,g.e4,g.e5]
theorem Jw(K:Int)(g:GN):yD K g=K::(Zu (gSu g)++(uv g.lo++(uv g.hi++((g.L.length:Int)::(jN 0 g.L++[]))))):=by
 unfold yD
 simp[Zu,gSu]
structure GFi (g : GN) : Prop where
 u:kL (gSu g)
 lo:g.lo<18446744073709551616
 hi:g.hi<18446744073709551616
 l:g.L.length<=16
 n:zO g.L
 b:∀x∈g.L,x<18446744073709551616
theorem qyz(hp:Hp)(rb sb wb k1 k2 K:Nat)(g o:GN)(hK:K<=16)(hg:GFi g)(ho:GFi o)(hm:GFi (kZ (K:Int) g o))
 (h:RW3 hp rb sb wb k1 k2 (yD (K:Int) g) (yD (K:Int) o) 0 0 []):
 ∃hp',run cxX 54 [.ptr wb 0 0,.ptr rb 0 0,.ptr sb 0 0] hp=some (.sc (.int .i64 0),hp')/\
  RW3 hp' rb sb wb k1 k2 (yD (K:Int) g) (yD (K:Int) o) (yD (K:Int) g).length (yD (K:Int) o).length (yD (K:Int) (kZ (K:Int) g o)):=by
 have us:∀l:List Int,kL l->(Zu l).length<=10*l.length:=by
  intro l
  induction l with
  |nil=>intro _;simp[Zu]
  |cons x r ih=>
   intro hu
   have hx:=hu x qg
   have hw:=qD (n:=x.toNat) qe
   have:=ih (fun n hn=>hu n (by simp[hn]))
   show(uv x.toNat++Zu r).length<=_
   rw[zm4,zm5]
   omega
 have len:∀q:GN,GFi q->(yD (K:Int) q).length<=1000:=by
  intro q hq
  have a1:=us _ hq.u
  have a2:=qD (n:=q.lo) hq.lo
  have a3:=qD (n:=q.hi) hq.hi
  have a4:=WR q.L 0 hq.b
  have a5:=hq.l
  have a6:(gSu q).length=7:=rfl
  rw[Jw]
  simp only[zm5,zm4,znn]
  omega
 have lg:=len g hg
 have lo:=len o ho
 have byq:∀q:GN,GFi q->By (yD (K:Int) q):=by
  intro q hq
  have:=hq.l
  rw[Jw]
  exact By.cons qe (By.app (qxu _) (By.app (By.uv _) (By.app (By.uv _) (By.cons qe (By.app (qq6 _ _) By.nil)))))
 have B1:=byq g hg
 have B2:=byq o ho
 have d1:=Jw (K:Int) g
 have d2:=Jw (K:Int) o
 generalize yD (K:Int) g=QA at*
 generalize yD (K:Int) o=QB at*
 have c1:QA.drop 0=(K:Int)::(Zu (gSu g)++(uv g.lo++(uv g.hi++((g.L.length:Int)::(jN 0 g.L++[]))))):=d1
 have c2:QB.drop 0=(K:Int)::(Zu (gSu o)++(uv o.lo++(uv o.hi++((o.L.length:Int)::(jN 0 o.L++[]))))):=d2
 have t1:=zn rb k1 QA qe c1 hp (znw _) h.r
 rw[znf]at t1
 have h1:=h.setR 1
 generalize hp.put rb 0 (Rc k1 QA 1 0)=H1 at*
 have t2:=zn sb k2 QB qe c2 H1 (znw _) h1.s
 rw[znf]at t2
 have h2:=h1.setS 1
 generalize H1.put sb 0 (Rc k2 QB 1 0)=H2 at*
 have er1:=qV rb k1 _ _ _ H2 h2.r
 have er2:=qV sb k2 _ _ _ H2 h2.s
 have fi:=yb
 have wy:run cxX 110 [.ptr wb 0 0,.sc (.int .u8 (K:Int))] H2=some (.tup [],H2.put wb 0 (Wc [(K:Int)])):=jt wb [] K qg H2 h2.w
 have h3:=h2.setW [(K:Int)]
 generalize H2.put wb 0 (Wc [(K:Int)])=H3 at*
 have f1:QA.drop 1=Zu (gSu g)++(uv g.lo++(uv g.hi++((g.L.length:Int)::(jN 0 g.L++[])))):=by rw[d1];rfl
 have f2:QB.drop 1=Zu (gSu o)++(uv o.lo++(uv o.hi++((o.L.length:Int)::(jN 0 o.L++[])))):=by rw[d2];rfl
 have l1:1<=QA.length:=by rw[d1];simp
 have l2:1<=QB.length:=by rw[d2];simp
 obtain⟨H4,s1,s2,s3⟩:=qr1 rb sb wb k1 k2 QA QB qe qe B1 B2 (.int .u8 (K:Int)) _ _ (gSu g) (gSu o) 0 1 1 [(K:Int)] H3 rfl rfl hg.u ho.u f1 f2 l1 l2 qg h3
 have em:xf (gSu g) (gSu o)=gSu (kZ (K:Int) g o):=rfl
 rw[em]at s2 s3
 have n1:=qL f1
 have m1:=qW l1 f1
 have n2:=qL f2
 have m2:=qW l2 f2
 generalize 1+(Zu (gSu g)).length=p1 at*
 generalize 1+(Zu (gSu o)).length=p2 at*
 generalize hZ1:[(K:Int)]++Zu (gSu (kZ (K:Int) g o))=Z1 at*
 have hlo:=hg.lo
 have hlo':=ho.lo
 have hhi:=hg.hi
 have hhi':=ho.hi
 --the least
 have t3:=zd rb k1 QA qe B1 (most:=18446744073709551615) n1 qe qh H4 m1 s2.r
 have h5:=s2.setR (p1+(uv g.lo).length)
 have n3:=qL n1
 have m3:=qW m1 n1
 generalize H4.put rb 0 (Rc k1 QA (p1+(uv g.lo).length) 0)=H5 at*
 have t4:=zd sb k2 QB qe B2 (most:=18446744073709551615) n2 qe qh H5 m2 h5.s
 have h6:=h5.setS (p2+(uv o.lo).length)
 have n4:=qL n2
 have m4:=qW m2 n2
 generalize H5.put sb 0 (Rc k2 QB (p2+(uv o.lo).length) 0)=H6 at*
 have u1:=qD (n:=min g.lo o.lo) qe
 have t5:=zY wb (min g.lo o.lo) Z1 qe qe H6 h6.w
 have h7:=h6.setW (Z1++uv (min g.lo o.lo))
 generalize H6.put wb 0 (Wc (Z1++uv (min g.lo o.lo)))=H7 at*
 --the greatest
 have t6:=zd rb k1 QA qe B1 (most:=18446744073709551615) n3 qe qh H7 m3 h7.r
 have h8:=h7.setR (p1+(uv g.lo).length+(uv g.hi).length)
 have n5:=qL n3
 have m5:=qW m3 n3
 generalize H7.put rb 0 (Rc k1 QA (p1+(uv g.lo).length+(uv g.hi).length) 0)=H8 at*
 have t7:=zd sb k2 QB qe B2 (most:=18446744073709551615) n4 qe qh H8 m4 h8.s
 have h9:=h8.setS (p2+(uv o.lo).length+(uv o.hi).length)
 have n6:=qL n4
 have m6:=qW m4 n4
 generalize H8.put sb 0 (Rc k2 QB (p2+(uv o.lo).length+(uv o.hi).length) 0)=H9 at*
 have u2:=qD (n:=max g.hi o.hi) qe
 have t8:=zY wb (max g.hi o.hi) (Z1++uv (min g.lo o.lo)) qe (by rw[zm4];omega) H9 h9.w
 have h10:=h9.setW (Z1++uv (min g.lo o.lo)++uv (max g.hi o.hi))
 generalize H9.put wb 0 (Wc (Z1++uv (min g.lo o.lo)++uv (max g.hi o.hi)))=H10 at*
 generalize p1+(uv g.lo).length+(uv g.hi).length=p3 at*
 generalize p2+(uv o.lo).length+(uv o.hi).length=p4 at*
 have x1:p3+1+(jN 0 g.L).length=QA.length:=by
  have:(QA.drop p3).length=QA.length-p3:=zo4
  rw[n5]at this
  simp only[zm5,zm4,znn]at this
  omega
 have x2:p4+1+(jN 0 o.L).length=QB.length:=by
  have:(QB.drop p4).length=QB.length-p4:=zo4
  rw[n6]at this
  simp only[zm5,zm4,znn]at this
  omega
 obtain⟨H11,k1a,k1b,k1c,k1d⟩:=qcj rb k1 QA qe B1 g.L (by have:=hg.l;omega) hg.n hg.b p3 [] n5 H10 m5 h10.r
 rw[x1]at k1b
 have h11:RW3 H11 rb sb wb k1 k2 QA QB QA.length p4 (Z1++uv (min g.lo o.lo)++uv (max g.hi o.hi)):=
  h10.fr qe k1b (by rw[xN (k1d sb (fun e=>h10.rs e.symm))];exact h10.s) (by rw[xN (k1d wb (fun e=>h10.rw e.symm))];exact h10.w)
 obtain⟨H12,k2a,k2b,k2c,k2d⟩:=qcj sb k2 QB qe B2 o.L (by have:=ho.l;omega) ho.n ho.b p4 [] n6 H11 m6 h11.s
 rw[x2]at k2b
 have h12:RW3 H12 rb sb wb k1 k2 QA QB QA.length QB.length (Z1++uv (min g.lo o.lo)++uv (max g.hi o.hi)):=
  h11.fr qe (by rw[xN (k2d rb h11.rs)];exact h11.r) k2b (by rw[xN (k2d wb (fun e=>h11.sw e.symm))];exact h11.w)
 have gk:=fun ka kb=>zf7 (.ptr wb 0 0) (.ptr rb 0 0) (.ptr sb 0 0) K qe H12 (g.L.length+o.L.length) g.L o.L [] ka kb (zm8 _) (by have:=hg.l;have:=ho.l;omega) (znw _)
 have eM:(kZ (K:Int) g o).L=([]++mk g.L o.L).take K:=by
  show(mk g.L o.L).take ((K:Int)).toNat=_
  rw[znc,zny]
 rw[<-eM]at gk
 have hz:(Z1++uv (min g.lo o.lo)++uv (max g.hi o.hi)).length<=1100:=by simp only[zm4];omega
 have eY:=Jw (K:Int) (kZ (K:Int) g o)
 have eY':yD (K:Int) (kZ (K:Int) g o)=Z1++uv (min g.lo o.lo)++uv (max g.hi o.hi)++[((kZ (K:Int) g o).L.length:Int)]++jN 0 (kZ (K:Int) g o).L:=by
  rw[eY,<-hZ1]
  have a1:(kZ (K:Int) g o).lo=min g.lo o.lo:=rfl
  have a2:(kZ (K:Int) g o).hi=max g.hi o.hi:=rfl
  rw[a1,a2]
  simp
 rw[eY']
 have hml:=hm.l
 have hmn:=hm.n
 have hmb:=hm.b
 clear eY eY' eM hm em
 generalize(kZ (K:Int) g o).L=M at*
 generalize Z1++uv (min g.lo o.lo)++uv (max g.hi o.hi)=Z3 at*
 have wl:=jt wb Z3 (M.length:Int) qe H12 h12.w
 have h13:=h12.setW (Z3++[(M.length:Int)])
 generalize H12.put wb 0 (Wc (Z3++[(M.length:Int)]))=H13 at*
 obtain⟨H14,v1,v2⟩:=qua rb sb wb k1 k2 3 QA QB QA.length QB.length M qe hmb hmn M 0 0 (Z3++[(M.length:Int)]) H13 rfl qg (jI hmn) qi h13
 refine⟨H14,?_,v2⟩
 have wM:IntKind.u8.wrap (M.length:Int)=(M.length:Int):=zA qe qe
 have b20:B54_20 (.ptr wb 0 0) (.ptr rb 0 0) (.ptr sb 0 0) (S 2 1 (LI .u64 (nz M))) H12=some (.sc (.int .i64 0),H14):=by
  have v1:B54_23 (.ptr wb 0 0) (.ptr rb 0 0) (.ptr sb 0 0) (.int .u64 0) (S 3 1 (LI .u64 (nz M))) (.int .i64 (M.length:Int)) (.int .i64 0) H13=some (.sc (.int .i64 0),H14):=v1
  rw[qvn]
  simp[yk,wM,wl,v1]
 rw[b20]at gk
 have em1:min (g.lo:Int) (o.lo:Int)=((min g.lo o.lo:Nat):Int):=qe
 have em2:max (g.hi:Int) (o.hi:Int)=((max g.hi o.hi:Nat):Int):=qe
 have b9:B54_9 (.ptr wb 0 0) (.ptr rb 0 0) (.ptr sb 0 0) (.int .u8 (K:Int)) (.int .i64 7) H4=some (.sc (.int .i64 0),H14):=by
  have t3:run cxX 60 [.ptr rb 0 0,.sc (.int .u64 18446744073709551615)] H4=some (.sc (.int .u64 (g.lo:Int)),H5):=t3
  have t4:run cxX 60 [.ptr sb 0 0,.sc (.int .u64 18446744073709551615)] H5=some (.sc (.int .u64 (o.lo:Int)),H6):=t4
  have t6:run cxX 60 [.ptr rb 0 0,.sc (.int .u64 18446744073709551615)] H7=some (.sc (.int .u64 (g.hi:Int)),H8):=t6
  have t7:run cxX 60 [.ptr sb 0 0,.sc (.int .u64 18446744073709551615)] H8=some (.sc (.int .u64 (o.hi:Int)),H9):=t7
  have gk:∀ka kb,B54_16 (.ptr wb 0 0) (.ptr rb 0 0) (.ptr sb 0 0) (.int .u8 (K:Int)) (S ka 1 (LI .u64 (nz g.L))) (S kb 1 (LI .u64 (nz o.L))) (S 2 1 []) H12=some (.sc (.int .i64 0),H14):=gk
  rw[ql7]
  clear s2 s3 h h1 h2 h3 h5 h6 h7 h8 h9 h10 h11 h12 h13 n1 n2 n3 n4 n5 n6 f1 f2 c1 c2 d1 d2 B1 B2 byq len us
  generalize((min g.lo o.lo:Nat):Int)=A1 at*
  generalize((max g.hi o.hi:Nat):Int)=A2 at*
  simp[t3,t4,em1,t5,t6,t7,em2,t8,k1a,k2a,gk]
 rw[b9]at s1
 rw[E54]
 simp[t1,t2,er1,er2,fi,wy]
 exact s1
theorem Ke{hp:Hp}{rb sb wb k1 k2:Nat}{L1 L2 Z:List Int}(hl1:L1.length<=1000000000)(hl2:L2.length<=1000000000)(hz:Z.length<=1000000)(h:RW3 hp rb sb wb k1 k2 L1 L2 L1.length L2.length Z):
 B20_18 (.ptr rb 0 0) (.ptr sb 0 0) (.ptr wb 0 0) (.int .i64 0) hp=some (.tup [S 1 1 (LI .u8 Z),.sc (.int .i64 0)],hp):=by
 have e1:=VU rb k1 L1 _ _ hp hl1 (zm8 _) h.r
 have e2:=VU sb k2 L2 _ _ hp hl2 (zm8 _) h.s
 have c1:¬((0:Int)=0/\L1.length<L1.length):=qe
 have c2:¬((0:Int)=0/\L2.length<L2.length):=qe
 rw[if_neg c1]at e1
 rw[if_neg c2]at e2
 have fi:=yb
 have wb':=VS wb Z hz hp h.w
 rw[qd8]
 simp[e1,e2,fi,qd7,wb']
theorem zjr(x8 x9 x10:AV)(e:Int)(he:e≠0)(hp:Hp):B20_18 x8 x9 x10 (.int .i64 e) hp=some (.tup [S 2 1 [],.sc (.int .i64 e)],hp):=by
 rw[qd8]
 simp[he,qd7]
def H3(hp:Hp)(k1 k2:Nat)(L1 L2:List Int):Hp:=((hp.new (Rc (rk k1) L1 0 0)).new (Rc (rk k2) L2 0 0)).new (Wc [])
theorem Jf(hp:Hp)(k1 k2:Nat)(L1 L2:List Int):RW3 (H3 hp k1 k2 L1 L2) hp.next (hp.next+1) (hp.next+2) (rk k1) (rk k2) L1 L2 0 0 [] where
 r:=by
  unfold H3
  rw[zH _ _ (show hp.next≠hp.next+1+1 by omega),zH _ _ (show hp.next≠hp.next+1 by omega)]
  exact qQ hp _
 s:=by
  unfold H3
  rw[zH _ _ (show hp.next+1≠hp.next+1+1 by omega)]
  exact qQ (hp.new _) _
 w:=qQ ((hp.new _).new _) _
 lr:=by show hp.next<hp.next+1+1+1;omega
 ls:=by show hp.next+1<hp.next+1+1+1;omega
 lw:=by show hp.next+2<hp.next+1+1+1;omega
 rs:=qe
 rw:=qe
 sw:=qe
theorem Jy(kd:Nat)(f:Nat)(hkd:kd<=5)(hp H:Hp)(k1 k2:Nat)(L1 L2:List Int)(e:Int)
 (hf:run cxX (if kd=0 then 49 else if kd=1 then 50 else if kd=2 then 51 else if kd=3 then 52 else if kd=4 then 53 else 54) [.ptr (hp.next+2) 0 0,.ptr hp.next 0 0,.ptr (hp.next+1) 0 0] (H3 hp k1 k2 L1 L2)=some (.sc (.int .i64 e),H)):
 run cxX 20 [.sc (.int .u8 (kd:Int)),S k1 1 (LI .u8 L1),S k2 1 (LI .u8 L2)] hp=B20_18 (.ptr hp.next 0 0) (.ptr (hp.next+1) 0 0) (.ptr (hp.next+2) 0 0) (.int .i64 e) H:=by
 have r1:=Jg (rk k1) L1 hp
 have r2:=Jg (rk k2) L2 (hp.new (Rc (rk k1) L1 0 0))
 simp only[Wn]at r1 r2
 have nn:(hp.new (Rc (rk k1) L1 0 0)).next=hp.next+1:=rfl
 have n2:((hp.new (Rc (rk k1) L1 0 0)).new (Rc (rk k2) L2 0 0)).next=hp.next+2:=rfl
 have e3:((hp.new (Rc (rk k1) L1 0 0)).new (Rc (rk k2) L2 0 0)).new [S 2 1 []]=H3 hp k1 k2 L1 L2:=rfl
 rw[nn]at r2
 have:kd=0\/kd=1\/kd=2\/kd=3\/kd=4\/kd=5:=qe
 rw[E20]
 rcases this with q|q|q|q|q|q<;>subst q<;>simp at hf<;>simp[r1,r2,n2,e3,hf]
theorem qp0(l:List Nat):tn (nz l)=l:=by
 unfold tn nz
 rw[zrd]
 exact(zrk (fun x _=>znc x)).trans (List.map_id l)
theorem zi2{a b:List Nat}(h:a.length=b.length)(a64:∀x∈a,x<64)(b64:∀x∈b,x<64):∀z∈Yz a b,z<64:=by
 intro x hx
 unfold Yz at hx
 obtain⟨i,hi,e⟩:=zpr hx
 rw[List.getElem_zipWith]at e
 have h1:=a64 _ (znm (by simp at hi;omega:i<a.length))
 have h2:=b64 _ (znm (by simp at hi;omega:i<b.length))
 omega
section
variable {x y:SkN}(fx:Fine x)(fy:Fine y)(k1 k2:Nat)(hp:Hp)
include fx fy
theorem zjn(kx:x.kind=0)(ky:y.kind=0):∃t hp',run cxX 20 [.sc (.int .u8 0),S k1 1 (LI .u8 (qE x)),S k2 1 (LI .u8 (qE y))] hp=
 some (.tup [S t 1 (LI .u8 (if 4096<(mrg x.set y.set).length then []else qE (qC x y))),.sc (.int .i64 (if 4096<(mrg x.set y.set).length then 7 else 0))],hp'):=by
 obtain⟨s1,s2,s3,s4⟩:=Qe fx kx
 obtain⟨u1,u2,u3,u4⟩:=Qe fy ky
 have em:mrg x.set y.set=nz (wn (tn x.set) (tn y.set)):=by rw[WC _ _ _ (zm8 _),s4,u4]
 have eY:qE (qC x y)=jW (jR (wn (tn x.set) (tn y.set))):=by
  unfold qC qE
  rw[if_pos kx]
  simp only[kx,if_true]
  rw[em,qp0]
 have e1:qE x=jW (jR (tn x.set)):=by unfold qE;rw[if_pos kx]
 have e2:qE y=jW (jR (tn y.set)):=by unfold qE;rw[if_pos ky]
 have hl:(mrg x.set y.set).length=(wn (tn x.set) (tn y.set)).length:=by rw[em,WD]
 rw[eY,e1,e2,hl]
 have la:=Qi (l:=tn x.set) (by simp;exact s1) s3
 have lb:=Qi (l:=tn y.set) (by simp;exact u1) u3
 obtain⟨H,f1,f2⟩:=qso (H3 hp k1 k2 (jW (jR (tn x.set))) (jW (jR (tn y.set)))) hp.next (hp.next+1) (hp.next+2) (rk k1) (rk k2) (tn x.set) (tn y.set) (wn (tn x.set) (tn y.set)) s2 u2 (QT s2 u2) s3 u3 (by simp;exact s1) (by simp;exact u1) (fun z=>Jp z _ _) (Jf hp k1 k2 _ _)
 have fb:=Jy 0 0 qh hp H k1 k2 _ _ _ f1
 by_cases hm:4096<(wn (tn x.set) (tn y.set)).length
 ·rw[if_pos hm]at fb
  rw[if_pos hm,if_pos hm]
  exact⟨2,H,fb.trans (zjr _ _ _ 7 qh H)⟩
 ·rw[if_neg hm]at fb
  rw[if_neg hm,if_neg hm]
  have lm:=Qi (l:=wn (tn x.set) (tn y.set)) qe (fun z hz=>((Jp z _ _).mp hz).elim (s3 z) (u3 z))
  exact⟨1,H,fb.trans (Ke qe qe qe (f2 qe))⟩
theorem zjo(kx:x.kind=1)(ky:y.kind=1)(hx:H64 x)(hy:H64 y)(hK:y.K=x.K):∃t hp',run cxX 20 [.sc (.int .u8 1),S k1 1 (LI .u8 (qE x)),S k2 1 (LI .u8 (qE y))] hp=
 some (.tup [S t 1 (LI .u8 (qE (qC x y))),.sc (.int .i64 0)],hp'):=by
 obtain⟨s0,s1,s2,s3,s4⟩:=vn fx kx hx
 obtain⟨u0,u1,u2,u3,u4⟩:=vn fy ky hy
 have em:mrg x.hs y.hs=nz (wn (tn x.hs) (tn y.hs)):=by rw[WC _ _ _ (zm8 _),s4,u4]
 have et:tn ((mrg x.hs y.hs).take x.K.toNat)=(wn (tn x.hs) (tn y.hs)).take x.K.toNat:=by
  rw[em]
  unfold nz
  rw[<-List.map_take]
  exact qp0 _
 have eY:qE (qC x y)=uv x.K.toNat++zi ((wn (tn x.hs) (tn y.hs)).take x.K.toNat):=by
  have em0:qC x y={skZ with kind:=1,K:=x.K,hs:=(mrg x.hs y.hs).take x.K.toNat}:=by
   unfold qC
   rw[if_neg qe,if_pos kx,kx]
  rw[em0]
  unfold qE
  rw[if_neg (show ¬((1:Int)=0) by decide),if_pos rfl,et]
 have e1:qE x=uv x.K.toNat++zi (tn x.hs):=by unfold qE;rw[if_neg qe,if_pos kx]
 have e2:qE y=uv x.K.toNat++zi (tn y.hs):=by unfold qE;rw[if_neg qe,if_pos ky,hK]
 rw[eY,e1,e2]
 have hu:=qD (n:=x.K.toNat) qe
 have la:=kA (l:=tn x.hs) (by simp;exact s1) s3
 have lb:=kA (l:=tn y.hs) (by simp;exact u1) u3
 have lm:=kA (l:=(wn (tn x.hs) (tn y.hs)).take x.K.toNat) (by rw[zn9];omega) (fun z hz=>((Jp z _ _).mp (zoq hz)).elim (s3 z) (u3 z))
 obtain⟨H,f1,f2⟩:=qip (H3 hp k1 k2 (uv x.K.toNat++zi (tn x.hs)) (uv x.K.toNat++zi (tn y.hs))) hp.next (hp.next+1) (hp.next+2) (rk k1) (rk k2) x.K.toNat (tn x.hs) (tn y.hs) qe s2 u2 s3 u3 (by simp;exact s1) (by simp;exact u1) (Jf hp k1 k2 _ _)
 have fb:=Jy 1 0 qh hp H k1 k2 _ _ _ f1
 exact⟨1,H,fb.trans (Ke (by rw[zm4];omega) (by rw[zm4];omega) (by rw[zm4];omega) f2)⟩
theorem zjp(kx:x.kind=2)(ky:y.kind=2)(hP:y.P=x.P):∃t hp',run cxX 20 [.sc (.int .u8 2),S k1 1 (LI .u8 (qE x)),S k2 1 (LI .u8 (qE y))] hp=
 some (.tup [S t 1 (LI .u8 (qE (qC x y))),.sc (.int .i64 0)],hp'):=by
 obtain⟨s0,s1,s2,s3,s4⟩:=vq fx kx
 obtain⟨u0,u1,u2,u3,u4⟩:=vq fy ky
 obtain⟨P,hp0⟩:∃P:Nat,x.P=P:=⟨x.P.toNat,qe⟩
 have ha:(tn x.rg).length=2^P:=by rw[JT,s1,hp0];rfl
 have hb:(tn y.rg).length=2^P:=by rw[JT,u1,hP,hp0];rfl
 have em:xq x.rg y.rg=nz (Yz (tn x.rg) (tn y.rg)):=by rw[zad _ _ qe,s4,u4]
 have eY:qE (qC x y)=(P:Int)::jh (Yz (tn x.rg) (tn y.rg)):=by
  have em0:qC x y={skZ with kind:=2,P:=x.P,rg:=xq x.rg y.rg}:=by
   unfold qC
   rw[if_neg qe,if_neg qe,if_pos kx,kx]
  rw[em0]
  unfold qE
  rw[if_neg (show ¬((2:Int)=0) by decide),if_neg (show ¬((2:Int)=1) by decide),if_pos rfl]
  simp only[em,qp0,hp0]
 have e1:qE x=(P:Int)::jh (tn x.rg):=by unfold qE;rw[if_neg qe,if_neg qe,if_pos kx,hp0]
 have e2:qE y=(P:Int)::jh (tn y.rg):=by unfold qE;rw[if_neg qe,if_neg qe,if_pos ky,hP,hp0]
 rw[eY,e1,e2]
 have hN:2^P<=2^8:=zn6 qh (show P<=8 by omega)
 have hN':(2:Nat)^8=256:=qh
 have la:=Za (l:=tn x.rg) qe s3
 have lb:=Za (l:=tn y.rg) qe u3
 have ml:(Yz (tn x.rg) (tn y.rg)).length=2^P:=by unfold Yz;rw[List.length_zipWith,ha,hb,Nat.min_self]
 have m64:∀z∈Yz (tn x.rg) (tn y.rg),z<64:=zi2 qe s3 u3
 have lm:=Za (l:=Yz (tn x.rg) (tn y.rg)) qe m64
 obtain⟨H,f1,f2⟩:=qsp (H3 hp k1 k2 ((P:Int)::jh (tn x.rg)) ((P:Int)::jh (tn y.rg))) hp.next (hp.next+1) (hp.next+2) (rk k1) (rk k2) P (tn x.rg) (tn y.rg) qe s3 u3 ha hb (Jf hp k1 k2 _ _)
 have fb:=Jy 2 0 qh hp H k1 k2 _ _ _ f1
 exact⟨1,H,fb.trans (Ke (by rw[zm5];omega) (by rw[zm5];omega) (by rw[zm5];omega) f2)⟩
omit fy in
theorem qky(k:x.kind=3):qM (tn x.bs):=by
 have h:=(zh.mp fx.c).2.2
 rw[if_neg qe,if_neg qe,if_neg qe,if_pos k]at h
 have s:=Qn h fx.w.bs
 exact Vm (fun n hn=>(fx.w.bs n hn).1) s.2.2.1
theorem zjt(kx:x.kind=3)(ky:y.kind=3)(hB:y.B=x.B)(hH:y.H=x.H)(hl:jT x y=true):∃t hp',run cxX 20 [.sc (.int .u8 3),S k1 1 (LI .u8 (qE x)),S k2 1 (LI .u8 (qE y))] hp=
 some (.tup [S t 1 (LI .u8 (qE (qC x y))),.sc (.int .i64 0)],hp'):=by
 obtain⟨s0,s1,s2,s3,s4,s5⟩:=ke fx kx
 obtain⟨u0,u1,u2,u3,u4,u5⟩:=ke fy ky
 have rx:=qky fx kx
 have ry:=qky fy ky
 obtain⟨B,eB⟩:∃B:Nat,x.B=B:=⟨x.B.toNat,qe⟩
 obtain⟨H,eH⟩:∃H:Nat,x.H=H:=⟨x.H.toNat,qe⟩
 have em:mrg x.bs y.bs=nz (wn (tn x.bs) (tn y.bs)):=by rw[WC _ _ _ (zm8 _),s5,u5]
 have em0:qC x y={skZ with kind:=3,B:=x.B,H:=x.H,bs:=mrg x.bs y.bs}:=by
  unfold qC
  rw[if_neg qe,if_neg qe,if_neg qe,if_pos kx,kx]
 have fm:=QU fx fy hl qe
 have fmb:=ke fm (by rw[em0])
 have ml:(wn (tn x.bs) (tn y.bs)).length<=4096:=by
  have:=fmb.2.2.1
  rw[em0]at this
  have e2:(mrg x.bs y.bs).length=(wn (tn x.bs) (tn y.bs)).length:=by rw[em,WD]
  rw[<-e2]
  exact this
 have eY:qE (qC x y)=uv B++[(H:Int)]++zE (wn (tn x.bs) (tn y.bs)):=by
  rw[em0]
  unfold qE
  rw[if_neg (show ¬((3:Int)=0) by decide),if_neg (show ¬((3:Int)=1) by decide),if_neg (show ¬((3:Int)=2) by decide),if_pos rfl]
  simp only[em,qp0,eB,eH,znc]
 have e1:qE x=uv B++[(H:Int)]++zE (tn x.bs):=by unfold qE;rw[if_neg qe,if_neg qe,if_neg qe,if_pos kx,eB,eH,znc]
 have e2:qE y=uv B++[(H:Int)]++zE (tn y.bs):=by unfold qE;rw[if_neg qe,if_neg qe,if_neg qe,if_pos ky,hB,hH,eB,eH,znc]
 rw[eY,e1,e2]
 have hu:=qD (n:=B) qe
 have la:=kJ (l:=tn x.bs) (by simp;exact s2) s4 s3
 have lb:=kJ (l:=tn y.bs) (by simp;exact u2) u4 u3
 have lm:=kJ (l:=wn (tn x.bs) (tn y.bs)) ml (fun z hz=>((Jp z _ _).mp hz).elim (s4 z) (u4 z)) (jc (QT rx ry))
 obtain⟨H',f1,f2⟩:=qy0 (H3 hp k1 k2 (uv B++[(H:Int)]++zE (tn x.bs)) (uv B++[(H:Int)]++zE (tn y.bs))) hp.next (hp.next+1) (hp.next+2) (rk k1) (rk k2) B H (tn x.bs) (tn y.bs) qe qe rx ry s4 u4 (by simp;exact s2) (by simp;exact u2) ml (Jf hp k1 k2 _ _)
 have fb:=Jy 3 0 qh hp H' k1 k2 _ _ _ f1
 exact⟨1,H',fb.trans (Ke (by simp only[zm4,zng];omega) (by simp only[zm4,zng];omega) (by simp only[zm4,zng];omega) f2)⟩
theorem zjs(kx:x.kind=4)(ky:y.kind=4)(hR:y.R=x.R)(hC:y.C=x.C):∃t hp',run cxX 20 [.sc (.int .u8 4),S k1 1 (LI .u8 (qE x)),S k2 1 (LI .u8 (qE y))] hp=
 some (.tup [S t 1 (LI .u8 (qE (qC x y))),.sc (.int .i64 0)],hp'):=by
 obtain⟨s0,s1,s2,s3⟩:=vr fx kx
 obtain⟨u0,u1,u2,u3⟩:=vr fy ky
 obtain⟨R,eR⟩:∃R:Nat,x.R=R:=⟨x.R.toNat,qe⟩
 obtain⟨C,eC⟩:∃C:Nat,x.C=C:=⟨x.C.toNat,qe⟩
 have em0:qC x y={skZ with kind:=4,R:=x.R,C:=x.C,cs:=xf x.cs y.cs}:=by
  unfold qC
  rw[if_neg qe,if_neg qe,if_neg qe,if_neg qe,if_pos kx,kx]
 have eY:qE (qC x y)=[(R:Int)]++uv C++zV (C:Int) (xf x.cs y.cs) 0 0:=by
  rw[em0]
  unfold qE
  rw[if_neg (show ¬((4:Int)=0) by decide),if_neg (show ¬((4:Int)=1) by decide),if_neg (show ¬((4:Int)=2) by decide),if_neg (show ¬((4:Int)=3) by decide),if_pos rfl]
  simp only[eR,eC,znc]
 have e1:qE x=[(R:Int)]++uv C++zV (C:Int) x.cs 0 0:=by unfold qE;rw[if_neg qe,if_neg qe,if_neg qe,if_neg qe,if_pos kx,eR,eC,znc]
 have e2:qE y=[(R:Int)]++uv C++zV (C:Int) y.cs 0 0:=by unfold qE;rw[if_neg qe,if_neg qe,if_neg qe,if_neg qe,if_pos ky,hR,hC,eR,eC,znc]
 rw[eY,e1,e2]
 have hu:=qD (n:=C) qe
 have um:=qad fx.w.cs fy.w.cs
 have cl:=Xr x.cs y.cs
 have la:=vF (C:Int) x.cs fx.w.cs x.cs 0 0 fx.w.cs qe
 have lb:=vF (C:Int) y.cs fy.w.cs y.cs 0 0 fy.w.cs qe
 have lm:=vF (C:Int) _ um (xf x.cs y.cs) 0 0 um qe
 have al:x.cs.length=R*C:=by rw[eR,eC,<-Int.natCast_mul]at s2;omega
 have bl:y.cs.length=R*C:=by rw[hR,hC,eR,eC,<-Int.natCast_mul]at u2;omega
 obtain⟨H',f1,f2⟩:=qy1 (H3 hp k1 k2 ([(R:Int)]++uv C++zV (C:Int) x.cs 0 0) ([(R:Int)]++uv C++zV (C:Int) y.cs 0 0)) hp.next (hp.next+1) (hp.next+2) (rk k1) (rk k2) R C x.cs y.cs qe qe fx.w.cs fy.w.cs al bl (Jf hp k1 k2 _ _)
 have fb:=Jy 4 0 qh hp H' k1 k2 _ _ _ f1
 exact⟨1,H',fb.trans (Ke (by simp only[zm4,zng];omega) (by simp only[zm4,zng];omega) (by simp only[zm4,zng];omega) f2)⟩
omit fx fy in
theorem qoo{g:Gs}(w:g.W)(ho:JG g.nf.L=0)(hl:g.nf.L.length<=16):GFi g.nf where
 u:=by
  intro n hn
  simp only[gSu,Gs.nf,zm9,zq7,or_false]at hn
  have a0:=w.M;have a1:=w.e0;have a2:=w.e1;have a3:=w.e2;have a4:=w.e3;have a5:=w.e4;have a6:=w.e5
  unfold zx at*
  rcases hn with e|e|e|e|e|e|e<;>subst e<;>assumption
 lo:=Qm _ w.lo
 hi:=Qm _ w.hi
 l:=hl
 n:=ZB ho
 b:=by
  intro k hk
  obtain⟨q,hq,rfl⟩:=zn3.mp hk
  exact Qm _ (w.L q hq)
omit fx fy in
theorem WT{K:Int}{g:GN}(h:GFi g):(yD K g).length<=1000:=by
 have us:∀l:List Int,kL l->(Zu l).length<=10*l.length:=by
  intro l
  induction l with
  |nil=>intro _;simp[Zu]
  |cons x r ih=>
   intro hu
   have hx:=hu x qg
   have hw:=qD (n:=x.toNat) qe
   have:=ih (fun n hn=>hu n (by simp[hn]))
   show(uv x.toNat++Zu r).length<=_
   rw[zm4,zm5]
   omega
 have a1:=us _ h.u
 have a2:=qD (n:=g.lo) h.lo
 have a3:=qD (n:=g.hi) h.hi
 have a4:=WR g.L 0 h.b
 have a5:=h.l
 have a6:(gSu g).length=7:=rfl
 rw[Jw]
 simp only[zm5,zm4,znn]
 omega
theorem zjq{v u:AV}(hv:yf x v)(hu:yf y u)(kx:x.kind=5)(ky:y.kind=5)(hK:y.gK=x.gK)(hl:jT x y=true):∃t hp',run cxX 20 [.sc (.int .u8 5),S k1 1 (LI .u8 (qE x)),S k2 1 (LI .u8 (qE y))] hp=
 some (.tup [S t 1 (LI .u8 (qE (qC x y))),.sc (.int .i64 0)],hp'):=by
 obtain⟨s0,s1,s2⟩:=xV fx kx
 obtain⟨u0,u1,u2⟩:=xV fy ky
 obtain⟨K,eK⟩:∃K:Nat,x.gK=K:=⟨x.gK.toNat,qe⟩
 have em0:qC x y={skZ with kind:=5,gK:=x.gK,g:=kZ x.gK x.g y.g}:=by
  unfold qC
  rw[if_neg qe,if_neg qe,if_neg qe,if_neg qe,if_neg qe,if_pos kx,kx]
 have fm:=xV (QU fx fy hl qe) (by rw[em0])
 rw[em0]at fm
 obtain⟨g,a,b,c,d,e,t,gw,gn,rfl⟩:=hv
 obtain⟨g',a',b',c',d',e',t',gw',gn',rfl⟩:=hu
 have nm:=qon (K:Int) g g'
 rw[gn,gn']at nm
 rw[eK]at fm
 have G1:GFi x.g:=by rw[<-gn]at s1 s2⊢;exact qoo gw s1 s2
 have G2:GFi y.g:=by rw[<-gn']at u1 u2⊢;exact qoo gw' u1 u2
 have G3:GFi (kZ (K:Int) x.g y.g):=by
  have f1:JG (kZ (K:Int) x.g y.g).L=0:=fm.2.1
  have f2:(kZ (K:Int) x.g y.g).L.length<=16:=fm.2.2
  rw[<-nm]at f1 f2⊢
  exact qoo (za8 qe gw gw') f1 f2
 have eY:qE (qC x y)=yD (K:Int) (kZ (K:Int) x.g y.g):=by
  rw[em0]
  unfold qE
  rw[if_neg (show ¬((5:Int)=0) by decide),if_neg (show ¬((5:Int)=1) by decide),if_neg (show ¬((5:Int)=2) by decide),if_neg (show ¬((5:Int)=3) by decide),if_neg (show ¬((5:Int)=4) by decide)]
  simp only[eK]
 have e1:qE x=yD (K:Int) x.g:=by unfold qE;rw[if_neg qe,if_neg qe,if_neg qe,if_neg qe,if_neg qe,eK]
 have e2:qE y=yD (K:Int) y.g:=by unfold qE;rw[if_neg qe,if_neg qe,if_neg qe,if_neg qe,if_neg qe,hK,eK]
 rw[eY,e1,e2]
 have l1:=WT (K:=(K:Int)) G1
 have l2:=WT (K:=(K:Int)) G2
 have l3:=WT (K:=(K:Int)) G3
 obtain⟨H',f1,f2⟩:=qyz (H3 hp k1 k2 (yD (K:Int) x.g) (yD (K:Int) y.g)) hp.next (hp.next+1) (hp.next+2) (rk k1) (rk k2) K x.g y.g qe G1 G2 G3 (Jf hp k1 k2 _ _)
 have fb:=Jy 5 0 qh hp H' k1 k2 _ _ _ f1
 exact⟨1,H',fb.trans (Ke qe qe qe f2)⟩
def byM(x y:SkN):List Int:=if(zM x y).2=0 then qE (zM x y).1 else []
theorem Wa{v u:AV}(hv:yf x v)(hu:yf y u)(hx:H64 x)(hy:H64 y)(hl:jT x y=true):∃t hp',run cxX 20 [.sc (.int .u8 x.kind),S k1 1 (LI .u8 (qE x)),S k2 1 (LI .u8 (qE y))] hp=
 some (.tup [S t 1 (LI .u8 (byM x y)),.sc (.int .i64 (zM x y).2)],hp'):=by
 have hk:=Jt hl
 obtain⟨l1,l2,l3,l4,l5⟩:=qqu hl
 have me:=Jo fx fy
 rw[if_neg (by simp[hl])]at me
 have no:∀(n:x.kind≠0),byM x y=qE (qC x y)/\(zM x y).2=0:=by
  intro n
  rw[if_neg (fun h=>n h.1)]at me
  unfold byM
  rw[me]
  exact⟨if_pos rfl,rfl⟩
 rcases six fx.w (zh.mp fx.c).1 with k|k|k|k|k|k
 ·obtain⟨t,hp',h⟩:=zjn fx fy k1 k2 hp k qe
  have e1:byM x y=if 4096<(mrg x.set y.set).length then []else qE (qC x y):=by
   unfold byM
   rw[me]
   by_cases q:4096<(mrg x.set y.set).length
   ·have e:(if x.kind=0/\4096<(mrg x.set y.set).length then(skZ,(7:Int))else(qC x y,0))=(skZ,7):=if_pos ⟨k,q⟩
    rw[e,if_pos q];exact if_neg qh
   ·have e:(if x.kind=0/\4096<(mrg x.set y.set).length then(skZ,(7:Int))else(qC x y,0))=(qC x y,0):=if_neg (fun h=>q h.2)
    rw[e,if_neg q];exact if_pos rfl
  have e2:(zM x y).2=if 4096<(mrg x.set y.set).length then 7 else 0:=by
   rw[me]
   by_cases q:4096<(mrg x.set y.set).length
   ·rw[if_pos (show x.kind=0/\4096<(mrg x.set y.set).length from⟨k,q⟩),if_pos q]
   ·rw[if_neg (show ¬(x.kind=0/\4096<(mrg x.set y.set).length)from fun h=>q h.2),if_neg q]
  rw[e1,e2,k]
  exact⟨t,hp',h⟩
 ·rw[(no qe).1,(no qe).2,k]
  exact zjo fx fy k1 k2 hp k qe hx hy (l1 k).symm
 ·rw[(no qe).1,(no qe).2,k]
  exact zjp fx fy k1 k2 hp k qe (l2 k).symm
 ·rw[(no qe).1,(no qe).2,k]
  exact zjt fx fy k1 k2 hp k qe (l3 k).1.symm (l3 k).2.symm hl
 ·rw[(no qe).1,(no qe).2,k]
  exact zjs fx fy k1 k2 hp k qe (l4 k).1.symm (l4 k).2.symm
 ·rw[(no qe).1,(no qe).2,k]
  exact zjq fx fy k1 k2 hp hv hu k qe (l5 k).symm hl
end
theorem qjq{x y:SkN}(hx:Fine x)(hy:Fine y):Fine (zM x y).1:=by
 rw[Jo hx hy]
 by_cases hl:jT x y=false
 ·rw[if_pos hl];exact vx
 ·rw[if_neg hl]
  by_cases h:x.kind=0/\4096<(mrg x.set y.set).length
  ·rw[if_pos h];exact vx
  ·rw[if_neg h];exact QU hx hy (by simpa using hl) h
theorem KN{x:SkN}(hx:Fine x):zM x x=(qC x x,0):=by
 rw[Jo hx hx,qda]
 simp only[Bool.true_eq_false,if_false]
 rw[if_neg]
 rintro⟨k,h⟩
 obtain⟨kd,on,sp⟩:=zh.mp hx.c
 rw[if_pos k]at sp
 obtain⟨a,b⟩:=QH.mp sp
 rw[YX b]at h
 omega
theorem qn7{x y:SkN}(hx:Fine x)(hy:Fine y)(hl:jT x y=true)(e:(zM x y).2=0):zM x y=(qC x y,0)/\Fine (qC x y):=by
 have m:=Jo hx hy
 rw[if_neg (by simp[hl])]at m
 by_cases h:x.kind=0/\4096<(mrg x.set y.set).length
 ·rw[if_pos h]at m
  rw[m]at e
  cases e
 ·rw[if_neg h]at m
  exact⟨m,QU hx hy hl h⟩
theorem qtu{x y:SkN}(hx:H64 x)(hy:H64 y):H64 (qC x y):=by
 intro n hn
 unfold qC at hn
 by_cases k:x.kind=1
 ·rw[if_neg qe,if_pos k]at hn
  exact((xx n _ _).mp (zoq hn)).elim (hx n) (hy n)
 ·by_cases k0:x.kind=0
  ·rw[if_pos k0]at hn;cases hn
  ·rw[if_neg k0,if_neg k]at hn
   repeat' split at hn
   all_goals cases hn
theorem qn8{x y:SkN}(fx:Fine x)(fy:Fine y)(hl:jT x y=true)(hx:H64 x)(hy:H64 y)(e:(zM x y).2=0):H64 (zM x y).1:=by
 rw[(qn7 fx fy hl e).1]
 exact qtu hx hy
theorem yK(K:IntKind)(l:List Int)(k:Nat)(hk:k=1\/k=2)(b:Nat)(hb:0<b/\b<=1000)(k':Nat)(m:List Int)(h:l.length+m.length<=100000000):jn b 1 (S k 1 (LI K l)) (S k' 1 (LI K m))=some (S k 1 (LI K (l++m))):=by
 rw[Yv b 1 k _ _ k' hk (WV _ _) (.inr (yV hb.1 ?_))]
 ·simp[LI]
 ·simp only[kQ]
  have:(l.length+m.length)*b<=100000000*1000:=znz h hb.2
  omega
theorem qk8(K:IntKind)(l:List Int)(k:Nat)(hk:k=1\/k=2)(b:Nat)(hb:0<b/\b<=1000)(n:Int)(h:l.length<100000000):jn b 1 (S k 1 (LI K l)) (S 1 1 [.sc (.int K n)])=some (S k 1 (LI K (l++[n]))):=
 yK K l k hk b hb 1 [n] qi
theorem qs5:∀(n:Nat) (l:List Int) (hp:Hp),n<18446744073709551616->l.length+(uv n).length<=1000->
 B70_2 (.int .u64 (n:Int)) (S 2 1 (LI .u8 l)) hp=some (S 2 1 (LI .u8 (l++uv n)),hp):=by
 intro n
 induction n using Nat.strongRecOn with
 |_ n ih=>
  intro l hp hn hl
  rw[zcy]
  by_cases h1:n<128
  ·rw[KD h1]at hl⊢
   have hge:¬((128:Int)<=(n:Int)):=qe
   have w:IntKind.u8.wrap (n:Int)=(n:Int):=zA qe qe
   have ap:=Qu .u8 l 2 (.inr rfl) 1 qh n (by simp at hl;omega)
   simp[hge,w,ap]
  ·rw[VH h1]at hl⊢
   have hge:(128:Int)<=(n:Int):=qe
   have r:=Vn n 128 qh
   have q:=YT n 128 qh hn
   have w0:IntKind.u64.wrap (((n%128:Nat):Int)+128)=((n%128+128:Nat):Int):=by rw[qu]<;>omega
   have w:IntKind.u8.wrap ((n%128+128:Nat):Int)=((n%128+128:Nat):Int):=zA qe qe
   have ap:=Qu .u8 l 2 (.inr rfl) 1 qh ((n%128+128:Nat):Int) (by simp at hl;omega)
   have ih':=ih (n/128) qe (l++[((n%128+128:Nat):Int)]) hp qe (by simp at hl⊢;omega)
   generalize((n%128+128:Nat):Int)=c at*
   generalize((n/128:Nat):Int)=d at*
   generalize((n%128:Nat):Int)=e at*
   simp only[zpy]at r q
   simp[hge,r,q,w0,w,ap,ih']
theorem jx(n:Nat)(hn:n<18446744073709551616)(hp:Hp):run cxX 70 [.sc (.int .u64 (n:Int))] hp=some (S 2 1 (LI .u8 (uv n)),hp):=by
 have h:=qs5 n [] hp hn (by have:=qD hn;simp;omega)
 rw[E70]
 simpa using h
theorem qym(n:Int)(hn:-9223372036854775808<=n/\n<9223372036854775808)(hp:Hp):run cxX 74 [.sc (.int .i64 n)] hp=some (S 2 1 (LI .u8 (uv (zz n))),hp):=by
 have u:=jx (zz n) (qbv hn.1 hn.2) hp0
 rw[E74]
 by_cases h0:n<0
 ·have w1:IntKind.i64.wrap (n+1)=n+1:=qm qe qe
  have w2:IntKind.i64.wrap (0-(n+1))=0-(n+1):=qm qe qe
  have w3:IntKind.u64.wrap (0-(n+1))=0-(n+1):=qu qe qe
  have w4:IntKind.u64.wrap ((0-(n+1))*2)=(0-(n+1))*2:=qu qe qe
  have w5:IntKind.u64.wrap ((0-(n+1))*2+1)=((zz n:Nat):Int):=by rw[qu qe qe];unfold zz;rw[if_pos h0];omega
  have un:=qpy Tryz.prog (n+1)
  rw[w2]at un
  generalize 0-(n+1)=y at*
  generalize zz n=z at*
  simp[h0,w1,un,w3,w4,w5,u]
 ·have w3:IntKind.u64.wrap n=n:=qu qe qe
  have w4:IntKind.u64.wrap (n*2)=((zz n:Nat):Int):=by rw[qu qe qe];unfold zz;rw[if_neg h0];omega
  generalize zz n=z at*
  simp[h0,w3,w4,u]
def ub(l:List Bool):List Int:=l.map fun b=>cond b 1 0
@[simp] theorem zh2(l:List Bool):(ub l).length=l.length:=by simp[ub]
@[simp] theorem qfx(l m:List Bool):ub (l++m)=ub l++ub m:=by simp[ub]
theorem qnl(n:Nat)(hn:n<=1000000)(hp:Hp):∀(f i:Nat),i+f=n->
 B140_3 (.int .i64 (n:Int)) (S 2 1 (LI .u8 (List.replicate i 1))) (.int .i64 (i:Int)) hp=some (S 2 1 (LI .u8 (ub (una n))),hp):=by
 intro f
 induction f with
 |zero=>
  intro i h
  have e:i=n:=qe
  subst e
  have ap:=qk8 .u8 (List.replicate i 1) 2 (.inr rfl) 1 qh 0 qi
  have e2:ub (una i)=List.replicate i 1++[0]:=by simp[ub,una]
  rw[qe5,e2]
  generalize List.replicate i (1:Int)=l at*
  simp[ap]
 |succ f ih=>
  intro i h
  have hlt:(i:Int)<(n:Int):=qe
  have ap:=qk8 .u8 (List.replicate i 1) 2 (.inr rfl) 1 qh 1 qi
  have w1:IntKind.i64.wrap ((i:Int)+1)=((i+1:Nat):Int):=qj
  have ih':=ih (i+1) qe
  rw[zpm]at ih'
  rw[qe5]
  generalize List.replicate i (1:Int)=l at*
  generalize((i+1:Nat):Int)=j at*
  simp[hlt,ap,w1,ih']
theorem qb9(n:Nat)(hn:n<=1000000)(hp:Hp):run cxX 140 [.sc (.int .i64 (n:Int))] hp=some (S 2 1 (LI .u8 (ub (una n))),hp):=by
 have h:=qnl n hn hp n 0 qe
 rw[E140]
 simpa using h
theorem zg0(n j:Nat):((n/2^j%2:Nat):Int)=cond (n.testBit j) 1 0:=by
 rw[zpc]
 have:n/2^j%2=0\/n/2^j%2=1:=qe
 rcases this with h|h<;>rw[h]<;>rfl
theorem qtb(n b:Nat)(hn:n<18446744073709551616)(k:Nat)(hk:k<=64):∀(f j:Nat) (hp:Hp),j+f=k->hp.rd b 0=some (LI .u8 (List.replicate f 0++ub (kp n j)))->
 ∃hp',B141_7 (.int .u64 ((n/2^j:Nat):Int)) (.ms b 0 0 k 1) (.int .i64 ((f:Int)-1)) hp=some (S 0 1 (LI .u8 (ub (kp n k))),hp'):=by
 intro f
 induction f with
 |zero=>
  intro j hp h hb
  have e:j=k:=qe
  subst e
  have hge:¬((0:Int)<=((0:Nat):Int)-1):=qe
  have fz:=vS .u8 (ub (kp n j)) hp b (by simpa using hb)
  rw[zh2,qgw]at fz
  rw[qe4]
  exact⟨hp.del b,by simp[fz]⟩
 |succ f ih=>
  intro j hp h hb
  have hge:(0:Int)<=((f+1:Nat):Int)-1:=qe
  have e1:((f+1:Nat):Int)-1=(f:Int):=qe
  have r:=Vn (n/2^j) 2 qh
  have q:=YT (n/2^j) 2 qh (zor (zpj _ _) hn)
  have e2:n/2^j/2=n/2^(j+1):=by rw[zpe,<-Nat.pow_succ]
  rw[zg0]at r
  rw[e2]at q
  have ix:idx k (.int .i64 (f:Int))=some f:=zj .i64 qe
  have pn:=yL .u8 (List.replicate (f+1) 0++ub (kp n j)) f (cond (n.testBit j) 1 0) qi
  have e3:(List.replicate (f+1) (0:Int)++ub (kp n j)).set f (cond (n.testBit j) 1 0)=List.replicate f 0++ub (kp n (j+1)):=by
   rw[zpm,znq,zqm _ _ qg]
   simp[kp,ub]
  rw[e3]at pn
  have w1:IntKind.i64.wrap ((f:Int)-1)=(f:Int)-1:=qm qe qe
  have w2:IntKind.u8.wrap (cond (n.testBit j) 1 0)=cond (n.testBit j) 1 0:=by cases n.testBit j<;>rfl
  obtain⟨hp',ih'⟩:=ih (j+1) (hp.put b 0 (LI .u8 (List.replicate f 0++ub (kp n (j+1))))) qe (qr _ _ _)
  refine⟨hp',?_⟩
  rw[qe4,e1]
  simp only[zpy]at r q
  generalize((n/2^j:Nat):Int)=u at*
  generalize((n/2^(j+1):Nat):Int)=u' at*
  generalize(cond (n.testBit j) 1 0:Int)=c at*
  generalize LI .u8 (List.replicate f 0++ub (kp n (j+1)))=L' at*
  generalize LI .u8 (List.replicate (f+1) 0++ub (kp n j))=L at*
  simp[r,q,w2,ix,hb,pn,w1,ih']
theorem qig(n k:Nat)(hn:n<18446744073709551616)(hk:k<=64)(hp:Hp):∃hp',run cxX 141 [.sc (.int .u64 (n:Int)),.sc (.int .i64 (k:Int))] hp=some (S 0 1 (LI .u8 (ub (kp n k))),hp'):=by
 have mk:yY 1 1 (k:Int) (k:Int)=some ():=Jm qe qe qh qh
 have z:=Jb .u8 k
 obtain⟨hp',h⟩:=qtb n hp.next hn k hk k 0 (hp.new (LI .u8 (List.replicate k 0))) qe (by rw[qQ];simp[kp,ub])
 have h1:¬((64:Int)<(k:Int)):=qe
 have h2:¬((k:Int)<0):=qe
 have w1:IntKind.i64.wrap ((k:Int)-1)=(k:Int)-1:=qm qe qe
 refine⟨hp',?_⟩
 rw[E141]
 simp only[Nat.pow_zero,Nat.div_one]at h
 have h3:=qwy (v0:=.int .u64 (n:Int)) (v1:=.int .i64 (k:Int)) (hp:=hp)
 have h5:=qwx (v0:=.int .u64 (n:Int)) (v1:=.int .i64 (k:Int)) (hp:=hp)
 generalize LI .u8 (List.replicate k 0)=Z at*
 simp[h1,h3,h2,h5,mk,z,w1,h]
theorem Kc(l:List Bool)(i j:Nat):(l.take i).getD j false=(decide (j<i)&&l.getD j false):=by
 rw[zm6,znj]
 by_cases h:j<i
 ·simp[h]
 ·simp[h]
theorem qam(l:List Bool)(i:Nat)(hi:i<l.length)(q:Nat):by8 (l.take (i+1)) (8*q)=if q=i/8 then by8 (l.take i) (8*q)+(l.getD i false).toNat*2^(7-i%8)else by8 (l.take i) (8*q):=by
 have key:∀j,(l.take (i+1)).getD j false=if j=i then l.getD i false else(l.take i).getD j false:=by
  intro j
  rw[Kc,Kc]
  by_cases h1:j=i
  ·subst h1;simp
  ·have:(j<i+1)=(j<i):=by apply propext;omega
   simp[h1,this]
 have kz:(l.take i).getD i false=false:=by rw[Kc];simp
 unfold by8
 simp only[key]
 by_cases hq:q=i/8
 ·rw[if_pos hq]
  have hc:i%8=0\/i%8=1\/i%8=2\/i%8=3\/i%8=4\/i%8=5\/i%8=6\/i%8=7:=qe
  rcases hc with h|h|h|h|h|h|h|h
  all_goals
   have e:i=8*q+i%8:=qe
   rw[h]at e
   generalize hg:l.getD i false=c at*
   subst e
   simp at kz
   simp[kz]
   try omega
 ·rw[if_neg hq]
  have h0:∀k,k<8->8*q+k≠i:=qe
  have:=h0 0 qe;have:=h0 1 qe;have:=h0 2 qe;have:=h0 3 qe;have:=h0 4 qe;have:=h0 5 qe;have:=h0 6 qe;have:=h0 7 qe
  simp only[zot]at*
  simp[*]
def pkt(l:List Bool)(i:Nat):List Int:=(List.range ((l.length+7)/8)).map fun q=>(by8 (l.take i) (8*q):Int)
theorem ze5(l:List Bool)(i:Nat):(pkt l i).length=(l.length+7)/8:=by simp[pkt]
theorem ze6(l:List Bool):pkt l l.length=pk l:=by simp[pkt,pk]
theorem qzm(l:List Bool):pkt l 0=List.replicate ((l.length+7)/8) 0:=by
 unfold pkt
 rw[List.eq_replicate_iff]
 refine⟨qg,fun x hx=>?_⟩
 obtain⟨q,_,rfl⟩:=zn3.mp hx
 simp[by8]
theorem qzn(l:List Bool)(i:Nat)(hi:i<l.length):pkt l (i+1)=(pkt l i).set (i/8) ((by8 (l.take i) (8*(i/8))+(l.getD i false).toNat*2^(7-i%8):Nat):Int):=by
 unfold pkt
 apply zpf
 intro q
 rw[zqk,zno,zno]
 by_cases hq:i/8=q
 ·subst hq
  have hl:i/8<(l.length+7)/8:=qe
  rw[zps hl]
  simp[qam l i hi,hl]
 ·rw[if_neg hq]
  by_cases hl:q<(l.length+7)/8
  ·rw[zps hl]
   have hq':¬(q=i/8):=fun e=>hq e.symm
   simp[qam l i hi,hq']
  ·rw[zn1 qi]
   rfl
theorem qnn(l:List Bool)(k b:Nat)(hl:l.length<100000000):∀(f i:Nat) (hp:Hp),i+f=l.length->hp.rd b 0=some (LI .u8 (pkt l i))->
 ∃hp',B142_3 (S k 1 (LI .u8 (ub l))) (.ms b 0 0 ((l.length+7)/8) 1) (.int .i64 (i:Int)) hp=some (S 0 1 (LI .u8 (pk l)),hp'):=by
 intro f
 induction f with
 |zero=>
  intro i hp h hb
  have e:i=l.length:=qe
  subst e
  have hlt:¬((l.length:Int)<(l.length:Int)):=qe
  have fz:=vS .u8 (pk l) hp b (by rw[ze6]at hb;exact hb)
  rw[zZ]at fz
  rw[qe3]
  exact⟨hp.del b,by simp[fz]⟩
 |succ f ih=>
  intro i hp h hb
  have hi:i<l.length:=qe
  have hlt:(i:Int)<(l.length:Int):=qe
  have r8:=qgg i
  have q8:=qgi i qe
  have ix:idx ((l.length+7)/8) (.int .i64 ((i/8:Nat):Int))=some (i/8):=zj .i64 qe
  have gx:ql (LI .u8 (pkt l i)) (i/8)=some (.int .u8 (by8 (l.take i) (8*(i/8)):Nat)):=by
   have:(pkt l i)[i/8]?=some (by8 (l.take i) (8*(i/8)):Int):=by
    unfold pkt
    rw[zno,zps qe]
    rfl
   unfold ql
   rw[Vg?,this]
   rfl
  have pn:=yL .u8 (pkt l i) (i/8) ((by8 (l.take i) (8*(i/8))+(l.getD i false).toNat*2^(7-i%8):Nat):Int) (by rw[ze5];omega)
  rw[<-qzn l i hi]at pn
  have bit:∀h,(ub l)[i]'h=cond (l.getD i false) 1 0:=by
   intro h
   simp[ub,zm6,znb hi]
  have sh:∀t o o',qx Tryz.prog .shl t o o' (.int .u8 (cond (l.getD i false) 1 0)) (.int .i64 (7-((i%8:Nat):Int)))=some (.int .u8 (((l.getD i false).toNat*2^(7-i%8):Nat):Int)):=by
   intro t o o'
   have hc:i%8=0\/i%8=1\/i%8=2\/i%8=3\/i%8=4\/i%8=5\/i%8=6\/i%8=7:=qe
   rw[zW _ _ _ _ _ _ _ _ qe]
   rcases hc with h|h|h|h|h|h|h|h<;>rw[h]<;>cases l.getD i false<;>rfl
  have hsum:by8 (l.take i) (8*(i/8))+(l.getD i false).toNat*2^(7-i%8)<256:=by
   have:=qam l i hi (i/8)
   rw[if_pos rfl]at this
   rw[<-this];exact qo3 _ _
  have w0:IntKind.i64.wrap (7-((i%8:Nat):Int))=7-((i%8:Nat):Int):=qm qe qe
  have w1:IntKind.u8.wrap (((by8 (l.take i) (8*(i/8)):Nat):Int)+(((l.getD i false).toNat*2^(7-i%8):Nat):Int))=((by8 (l.take i) (8*(i/8))+(l.getD i false).toNat*2^(7-i%8):Nat):Int):=by
   rw[zA]<;>omega
  have w2:IntKind.i64.wrap ((i:Int)+1)=((i+1:Nat):Int):=qj
  obtain⟨hp',ih'⟩:=ih (i+1) (hp.put b 0 (LI .u8 (pkt l (i+1)))) qe (qr _ _ _)
  refine⟨hp',?_⟩
  rw[qe3]
  generalize((by8 (l.take i) (8*(i/8))+(l.getD i false).toNat*2^(7-i%8):Nat):Int)=A at*
  generalize(((l.getD i false).toNat*2^(7-i%8):Nat):Int)=D at*
  generalize((by8 (l.take i) (8*(i/8)):Nat):Int)=E at*
  generalize(cond (l.getD i false) 1 0:Int)=c at*
  generalize((i%8:Nat):Int)=m8 at*
  generalize LI .u8 (pkt l (i+1))=L' at*
  generalize LI .u8 (pkt l i)=L at*
  generalize((i+1:Nat):Int)=i' at*
  generalize hQ:i/8=Q at*
  generalize(l.length+7)/8=T at*
  simp[hi,r8,q8,ix,hb,gx,bit,w0,sh,w1,pn,w2,ih',zr]
theorem XN(l:List Bool)(k:Nat)(hl:l.length<100000000)(hp:Hp):∃hp',run cxX 142 [S k 1 (LI .u8 (ub l))] hp=some (S 0 1 (LI .u8 (pk l)),hp'):=by
 have mk:yY 1 1 (((l.length+7)/8:Nat):Int) (((l.length+7)/8:Nat):Int)=some ():=Jm qe qe qh qh
 have z:=Jb .u8 ((l.length+7)/8)
 rw[<-qzm]at z
 obtain⟨hp',h⟩:=qnn l k hp.next hl l.length 0 (hp.new (LI .u8 (pkt l 0))) qe (qQ _ _)
 have w1:IntKind.i64.wrap ((l.length:Int)+7)=((l.length+7:Nat):Int):=qj
 have q8:=qgi (l.length+7) qe
 refine⟨hp',?_⟩
 rw[E142]
 generalize LI .u8 (pkt l 0)=Z at*
 generalize((l.length+7:Nat):Int)=T1 at*
 generalize(l.length+7)/8=T at*
 simp[w1,q8,mk,z]
 simpa using h
theorem QZ{l:List Nat}{i:Nat}{x:Nat}{r:List Nat}(h:l.drop i=x::r):l.getD i 0=x:=by
 rw[zm6,(qt h).1];rfl
theorem zi1(l m:List Nat):nz (l++m)=nz l++nz m:=by simp[nz]
section
variable (l:List Nat)(k:Nat)(hl:l.length<=1024)(h64:∀x∈l,x<18446744073709551616)(hr:qM l)
include hl h64 hr
theorem qs8(hp:Hp):∀(r:List Nat) (i:Nat),(qw l).drop i=r->i+r.length=l.length->
 B139_3 (S k 1 (LI .u64 (nz l))) (S 2 1 (LI .u64 (nz ((qw l).take i)))) (.int .i64 (i:Int)) hp=some (S 2 1 (LI .u64 (nz (qw l))),hp):=by
 intro r
 induction r with
 |nil=>
  intro i h hil
  simp at hil
  have e:(qw l).take i=qw l:=zn2 qi
  have hlt:¬(i<l.length):=qe
  rw[qe6,e]
  simp[hlt]
 |cons g r ih=>
  intro i h hil
  obtain⟨e1,e2,hi,e3⟩:=qt h
  simp only[zm5]at hil
  have hi':i<l.length:=qe
  have et:(qw l).take (i+1)=(qw l).take i++[g]:=by rw[zpg,e1];rfl
  have w5:IntKind.i64.wrap ((i:Int)+1)=((i+1:Nat):Int):=qj
  have ap:=qk8 .u64 (nz ((qw l).take i)) 2 (.inr rfl) 8 qh (g:Int) qi
  have en:nz ((qw l).take i)++[(g:Int)]=nz ((qw l).take (i+1)):=by rw[et,zi1];rfl
  rw[en]at ap
  have i1:=ih (i+1) e2 qe
  have c4:B139_4 (S k 1 (LI .u64 (nz l))) (S 2 1 (LI .u64 (nz ((qw l).take (i+1))))) (.int .i64 (i:Int)) hp=some (S 2 1 (LI .u64 (nz (qw l))),hp):=by
   rw[qwz]
   generalize((i+1:Nat):Int)=J at*
   simp[w5,i1]
  have gg:=Xj l i hi'
  rw[e1]at gg
  injection gg with gg
  have ai:=xO .u64 l i hi'
  rw[qe6]
  by_cases h0:i=0
  ·subst h0
   rw[if_pos rfl]at gg
   have en2:∀h,(nz l)[0]'h=(l.getD 0 0:Nat):=fun h=>by simp[nz,zm6,hi']
   rw[gg]at ap
   generalize l.getD 0 0=v at*
   simp only[List.take_zero]at ap
   simp only[znf,zpy]at c4 ap
   simp[hi',ai,zr,ap,c4,en2]
  ·rw[if_neg h0]at gg
   have aj:=xO .u64 l (i-1) qe
   have hlt:=vB l hr (i-1) qe
   have e:i-1+1=i:=qe
   rw[e]at hlt
   have hv:l.getD i 0<18446744073709551616:=by
    rw[zm6,znb hi']
    exact h64 _ (znm _)
   have w1:IntKind.i64.wrap ((i:Int)-1)=((i-1:Nat):Int):=qj
   have h0':¬((i:Int)=0):=qe
   have g0:(0:Int)<=((i-1:Nat):Int):=qe
   have en2:∀h,(nz l)[i]'h=(l.getD i 0:Nat):=fun h=>by simp[nz,zm6,hi']
   generalize l.getD i 0=u at*
   generalize l.getD (i-1) 0=v at*
   have w2:IntKind.u64.wrap ((u:Int)-(v:Int))=(u:Int)-(v:Int):=qu qe qe
   have w3:IntKind.u64.wrap ((u:Int)-(v:Int)-1)=(g:Int):=by rw[qu]<;>omega
   have aj':(LI .u64 (nz l))[(((i-1:Nat):Int)).toNat]?=some (.sc (.int .u64 (v:Int))):=by rw[znc];exact aj
   generalize((i-1:Nat):Int)=j at*
   simp[hi',h0,ai,aj',zr,w1,g0,w2,w3,ap,c4,en2]
theorem qid(hp:Hp):run cxX 139 [S k 1 (LI .u64 (nz l))] hp=some (S 2 1 (LI .u64 (nz (qw l))),hp):=by
 have h:=qs8 l k hl h64 hr hp (qw l) 0 rfl qg
 rw[E139]
 simpa[nz]using h
def rcG(k:Nat):List Nat->Nat->Bool->Nat×Bool
 |[],n,ok=>(n,ok)
 |g::r,n,ok=>if 4096<g/2^k then rcG k r (n+1+k) false else rcG k r (n+g/2^k+1+k) ok
omit hl h64 hr in
theorem ziu(k:Nat):∀(r:List Nat) (n:Nat),(rcG k r n false).2=false:=by
 intro r
 induction r with
 |nil=>intro n;rfl
 |cons g r ih=>intro n;unfold rcG;split<;>exact ih _
omit hl h64 hr in
theorem zit(k:Nat):∀(r:List Nat) (n:Nat),(rcG k r n true).2=(xo k r n).2/\((xo k r n).2=true->(rcG k r n true).1=(xo k r n).1):=by
 intro r
 induction r with
 |nil=>intro n;exact⟨rfl,fun _=>rfl⟩
 |cons g r ih=>
  intro n
  unfold rcG xo
  by_cases h:4096<g/2^k
  ·rw[if_pos h,if_pos h]
   exact⟨ziu k r _,fun c=>by cases c⟩
  ·rw[if_neg h,if_neg h]
   have:=ih (n+(g/2^k+1+k))
   have e:n+g/2^k+1+k=n+(g/2^k+1+k):=qe
   rw[e]
   exact this
omit hl h64 hr in
theorem qta(gs:List Nat)(j:Nat)(hj:j<=63)(hg:gs.length<=1024)(v3 v4:Value)(hp:Hp):∀(r:List Nat) (i n:Nat) (ok:Bool),gs.drop i=r->i+r.length=gs.length->n+r.length*4160<4611686018427387904->
 B138_9 v3 v4 (S 2 1 (LI .u64 (nz gs))) (.int .i64 (j:Int)) (.int .i64 (n:Int)) (.bool ok) (.int .i64 (i:Int)) hp=
  B138_9 v3 v4 (S 2 1 (LI .u64 (nz gs))) (.int .i64 (j:Int)) (.int .i64 ((rcG j r n ok).1:Nat)) (.bool (rcG j r n ok).2) (.int .i64 (gs.length:Int)) hp:=by
 intro r
 induction r with
 |nil=>
  intro i n ok h hil hn
  simp at hil
  rw[hil];rfl
 |cons g r ih=>
  intro i n ok h hil hn
  obtain⟨e1,e2,hi,e3⟩:=qt h
  simp only[zm5]at hil hn
  have ai:=xO .u64 gs i hi
  rw[QZ h]at ai
  have en:∀h,(nz gs)[i]'h=(g:Int):=fun h=>by simp[nz,e3]
  have sh:=fun t o o'=>xh .u64 g j (by show j<=64;omega) t o o' .i64
  have w5:IntKind.i64.wrap ((i:Int)+1)=((i+1:Nat):Int):=qj
  have step:∀(q:Nat) (b:Bool),q<=4096->B138_15 v3 v4 (S 2 1 (LI .u64 (nz gs))) (.int .i64 (j:Int)) (.int .i64 (n:Int)) (.bool b) (.int .i64 (i:Int)) (.int .u64 (q:Int)) hp=
   B138_9 v3 v4 (S 2 1 (LI .u64 (nz gs))) (.int .i64 (j:Int)) (.int .i64 ((n+q+1+j:Nat):Int)) (.bool b) (.int .i64 ((i+1:Nat):Int)) hp:=by
   intro q b hq
   have w1:IntKind.i64.wrap (q:Int)=(q:Int):=qm qe qe
   have w2:IntKind.i64.wrap ((n:Int)+(q:Int))=(n:Int)+(q:Int):=qm qe qe
   have w3:IntKind.i64.wrap ((n:Int)+(q:Int)+1)=(n:Int)+(q:Int)+1:=qm qe qe
   have w4:IntKind.i64.wrap ((n:Int)+(q:Int)+1+(j:Int))=((n+q+1+j:Nat):Int):=qj
   rw[qpn]
   generalize((n+q+1+j:Nat):Int)=N at*
   generalize((i+1:Nat):Int)=I at*
   simp[w1,w2,w3,w4,w5]
  rw[qe7]
  unfold rcG
  generalize hq:g/2^j=q at*
  by_cases hc:4096<q
  ·have hgt:(4096:Int)<(q:Int):=qe
   have hs:=step 0 false qe
   have hi2:=ih (i+1) (n+1+j) false e2 qe qe
   rw[if_pos hc,<-hi2]
   simp only[zot]at hs
   generalize((n+1+j:Nat):Int)=N at*
   generalize((i+1:Nat):Int)=I at*
   simp at hs
   simp[hi,ai,zr,sh,hgt,hs,en]
  ·have hgt:¬((4096:Int)<(q:Int)):=qe
   have hs:=step q ok qe
   have hi2:=ih (i+1) (n+q+1+j) ok e2 qe qe
   rw[if_neg hc,<-hi2]
   generalize((n+q+1+j:Nat):Int)=N at*
   generalize((i+1:Nat):Int)=I at*
   simp[hi,ai,zr,sh,hgt,hs,en]
omit h64 hr in
theorem qs7(hp:Hp):∀(f j b:Nat) (m:Int),j+f=64->b<=63->
 B138_4 (.int .i64 (b:Int)) (.int .i64 m) (S 2 1 (LI .u64 (nz (qw l)))) (.int .i64 (j:Int)) hp=some (.sc (.int .i64 (Ve (qw l) f j b m:Nat)),hp):=by
 intro f
 induction f with
 |zero=>
  intro j b m hj hb
  have hlt:¬((j:Int)<64):=qe
  rw[qe8]
  simp[hlt,Ve]
 |succ f ih=>
  intro j b m hj hb
  have hlt:(j:Int)<64:=qe
  have c:=qta (qw l) j qe qi (.int .i64 (b:Int)) (.int .i64 m) hp (qw l) 0 0 true rfl qg qi
  obtain⟨c1,c2⟩:=zit j (qw l) 0
  have w5:IntKind.i64.wrap ((j:Int)+1)=((j+1:Nat):Int):=qj
  have i1:=ih (j+1) j (xo j (qw l) 0).1 qe qe
  have i2:=ih (j+1) b m qe hb
  have c8:∀v3 v4,B138_5 v3 v4 (S 2 1 (LI .u64 (nz (qw l)))) (.int .i64 (j:Int)) hp=B138_4 v3 v4 (S 2 1 (LI .u64 (nz (qw l)))) (.int .i64 ((j+1:Nat):Int)) hp:=by
   intro v3 v4
   rw[qw0]
   generalize((j+1:Nat):Int)=J at*
   simp[w5]
  have gl:(qw l).length=l.length:=kG l
  rw[qe8]
  unfold Ve
  rw[c1]at c
  generalize(rcG j (qw l) 0 true).1=N at*
  generalize xo j (qw l) 0=C at*
  obtain⟨d1,d2⟩:=C
  simp only[zrh,zri]at i1 i2 c8
  simp at c
  generalize qw l=G at*
  have hlt':j<64:=qe
  have e9:∀(M:Int),B138_9 (.int .i64 (b:Int)) (.int .i64 m) (S 2 1 (LI .u64 (nz G))) (.int .i64 (j:Int)) (.int .i64 M) (.bool d2) (.int .i64 (l.length:Int)) hp=
   cond d2 (cond (decide (m<0)||decide (M<m)) (B138_4 (.int .i64 (j:Int)) (.int .i64 M) (S 2 1 (LI .u64 (nz G))) (.int .i64 ((j:Int)+1)) hp) (B138_4 (.int .i64 (b:Int)) (.int .i64 m) (S 2 1 (LI .u64 (nz G))) (.int .i64 ((j:Int)+1)) hp)) (B138_4 (.int .i64 (b:Int)) (.int .i64 m) (S 2 1 (LI .u64 (nz G))) (.int .i64 ((j:Int)+1)) hp):=by
   intro M
   rw[qe7]
   cases d2
   ·simp[gl,c8]
   ·by_cases h1:m<0
    ·simp[gl,h1,qbb,c8]
    ·by_cases h2:M<m
     ·simp[gl,h1,h2,qbb,c8]
     ·simp[gl,h1,h2,c8]
  cases d2
  ·simp[hlt,c,e9,i2]
  ·have c2:N=d1:=c2 rfl
   subst c2
   by_cases h1:m<0
   ·simp[hlt,c,e9,h1,i1]
   ·by_cases h2:(N:Int)<m
    ·simp[hlt,c,e9,h1,h2,i1]
    ·simp[hlt,c,e9,h1,h2,i2]
theorem qyl(hp:Hp):run cxX 138 [S k 1 (LI .u64 (nz l))] hp=some (.sc (.int .i64 (jd (qw l):Nat)),hp):=by
 have h:=qs7 l hl hp 64 0 63 (-1) rfl qe
 have g:=qid l (rk k) hl h64 hr hp0
 rw[E138]
 simp at h
 simp[g,h,jd]
omit hr in
theorem qs6(kk:Nat)(hkk:kk<=63)(hg:∀g∈qw l,g/2^kk<=4096)(hp:Hp):∀(r:List Nat) (i:Nat) (bs:List Bool),(qw l).drop i=r->i+r.length=l.length->bs.length+r.length*4160<90000000->
 B71_5 (S k 1 (LI .u64 (nz l))) (.int .i64 (kk:Int)) (S 2 1 (LI .u8 (ub bs))) (S 2 1 (LI .u64 (nz (qw l)))) (.int .i64 (i:Int)) hp=
  B71_5 (S k 1 (LI .u64 (nz l))) (.int .i64 (kk:Int)) (S 2 1 (LI .u8 (ub (bs++jb kk r)))) (S 2 1 (LI .u64 (nz (qw l)))) (.int .i64 (l.length:Int)) hp:=by
 intro r
 induction r with
 |nil=>
  intro i bs h hil hb
  simp at hil
  rw[hil,jb,zns]
 |cons g r ih=>
  intro i bs h hil hb
  obtain⟨e1,e2,hi,e3⟩:=qt h
  simp only[zm5]at hil hb
  have ai:=xO .u64 (qw l) i hi
  rw[QZ h]at ai
  have en:∀h,(nz (qw l))[i]'h=(g:Int):=fun h=>by simp[nz,e3]
  have hgm:g∈qw l:=by rw[<-e3];exact znm _
  have hq:=hg g hgm
  have g64:=xC h64 g hgm
  have sh:=fun t o o'=>xh .u64 g kk (by show kk<=64;omega) t o o' .i64
  have w5:IntKind.i64.wrap ((i:Int)+1)=((i+1:Nat):Int):=qj
  have w1:IntKind.i64.wrap ((g/2^kk:Nat):Int)=((g/2^kk:Nat):Int):=qm (by have:=zqh (g/2^kk);omega) qe
  have u1:=qb9 (g/2^kk) qe hp0
  obtain⟨hq1,u2⟩:=qig g kk g64 qe hp0
  have a1:=yK .u8 (ub bs) 2 (.inr rfl) 1 qh 2 (ub (una (g/2^kk))) qi
  have a2:=yK .u8 (ub (bs++una (g/2^kk))) 2 (.inr rfl) 1 qh 0 (ub (kp g kk)) qi
  rw[<-qfx]at a1 a2
  have i1:=ih (i+1) (bs++una (g/2^kk)++kp g kk) e2 qe qi
  have e:bs++jb kk (g::r)=bs++una (g/2^kk)++kp g kk++jb kk r:=by simp[jb]
  rw[e,<-i1,qlx]
  have hi':i<(qw l).length:=hi
  generalize((g/2^kk:Nat):Int)=q at*
  generalize((i+1:Nat):Int)=I at*
  generalize una (g/2^kk)=U at*
  generalize kp g kk=W at*
  generalize qw l=G at*
  simp only[qfx,znq]at a1 a2
  simp[hi',ai,zr,en,sh,w1,u1,a1,u2,a2,w5]
theorem qic(hp:Hp):run cxX 71 [S k 1 (LI .u64 (nz l))] hp=some (S 2 1 (LI .u8 (zi l)),hp):=by
 obtain⟨k63,hq⟩:=QR (xC h64)
 have hbl:=Qk (jd (qw l)) k63 (qw l) hq
 rw[kG]at hbl
 have p:=qyl l (rk k) hl h64 hr hp0
 have g:=qid l (rk k) hl h64 hr hp0
 have lp:=qs6 l k hl h64 (jd (qw l)) k63 hq hp (qw l) 0 [] rfl qg qi
 obtain⟨hq1,by1⟩:=XN (jb (jd (qw l)) (qw l)) 3 qe hp0
 have u1:=jx l.length qe hp0
 have lb:(pk (jb (jd (qw l)) (qw l))).length<1000000:=by rw[zZ];omega
 have u2:=jx (pk (jb (jd (qw l)) (qw l))).length qe hp0
 have q1:=qD (n:=l.length) qe
 have q2:=qD (n:=(pk (jb (jd (qw l)) (qw l))).length) qe
 have w1:IntKind.u64.wrap (l.length:Int)=(l.length:Int):=qu qe qe
 have w2:IntKind.u8.wrap ((jd (qw l):Nat):Int)=((jd (qw l):Nat):Int):=zA qe qe
 have w3:IntKind.u64.wrap ((pk (jb (jd (qw l)) (qw l))).length:Int)=((pk (jb (jd (qw l)) (qw l))).length:Int):=qu qe qe
 have a1:=qk8 .u8 (uv l.length) 2 (.inr rfl) 1 qh ((jd (qw l):Nat):Int) qe
 have a2:=yK .u8 (uv l.length++[((jd (qw l):Nat):Int)]) 2 (.inr rfl) 1 qh 2 (uv (pk (jb (jd (qw l)) (qw l))).length) (by simp only[zm4,zng];omega)
 have a3:=yK .u8 (uv l.length++[((jd (qw l):Nat):Int)]++uv (pk (jb (jd (qw l)) (qw l))).length) 2 (.inr rfl) 1 qh 0 (pk (jb (jd (qw l)) (qw l))) (by simp only[zm4,zng];omega)
 have gl:(qw l).length=l.length:=kG l
 rw[E71]
 unfold zi je
 simp only[zny]at lp
 have e0:ub []=[]:=rfl
 rw[e0]at lp
 simp at lp
 generalize jd (qw l)=pr at*
 generalize hX:jb pr (qw l)=X at*
 have e1:∀G:List Nat,G.length=l.length->B71_5 (S k 1 (LI .u64 (nz l))) (.int .i64 (pr:Int)) (S 2 1 (LI .u8 (ub X))) (S 2 1 (LI .u64 (nz G))) (.int .i64 (l.length:Int)) hp=some (S 2 1 (LI .u8 (uv l.length++[(pr:Int)]++uv (pk X).length++pk X)),hp):=by
  intro G hG
  clear lp hX hq
  rw[qlx]
  generalize hB:pk X=Bx at*
  generalize uv Bx.length=U2 at*
  generalize uv l.length=U1 at*
  simp only[znq,zox,zny]at a1 a2 a3⊢
  simp[hG,by1,w1,u1,w2,a1,w3,u2,a2,a3]
 rw[e1 _ gl]at lp
 simp[p,g,lp]
end
section
variable (l:List Nat)(k:Nat)(hl:l.length<=65536)(h32:∀x∈l,x<4294967296)(hr:zO l)
include hl h32
omit h32 in
theorem qzb(last:Nat)(hla:last<4294967296)(hp:Hp):∀(f j:Nat),j+f=33->j<=32->
 B73_6 (S k 1 (LI .u32 (nz l))) (.int .i64 (l.length:Int)) (.int .u32 (last:Int)) (.int .i64 (j:Int)) hp=
  B73_8 (S k 1 (LI .u32 (nz l))) (.int .i64 (l.length:Int)) (.int .u32 (last:Int)) (.int .i64 (Vf l.length last f j:Nat)) hp:=by
 intro f
 induction f with
 |zero=>intro j h h2;omega
 |succ f ih=>
  intro j h h2
  have w1:IntKind.i64.wrap (last:Int)=(last:Int):=qm qe qe
  have w2:IntKind.i64.wrap ((j:Int)+1)=((j+1:Nat):Int):=qj
  have q2:∀t o o',qx Tryz.prog .quo t o o' (.int .i64 (last:Int)) (.int .i64 2)=some (.int .i64 ((last/2:Nat):Int)):=by
   intro t o o'
   rw[yB _ _ _ _ _ _ _ qe,zod qe,qm qe qe]
   rfl
  have sh:=fun t o o'=>xh .i64 (last/2) j (by show j<=64;omega) t o o' .i64
  have e2:last/2/2^j=last/2^(j+1):=by rw[zpe,zo1,zob]
  rw[e2]at sh
  rw[zcw]
  unfold Vf
  by_cases h0:0<l.length
  ·have h0':(0:Int)<(l.length:Int):=qe
   by_cases h1:l.length<=last/2^(j+1)
   ·by_cases hk:j=32
    ·subst hk
     have:last/2^33=0:=zqd (znp hla qh)
     have e:(32:Nat)+1=33:=rfl
     rw[e,this]at h1
     omega
    ·have hi:=ih (j+1) qe qe
     have h1':(l.length:Int)<=((last/2^(j+1):Nat):Int):=qe
     rw[if_pos ⟨h0,h1⟩]
     generalize((last/2^(j+1):Nat):Int)=q at*
     generalize((last/2:Nat):Int)=q1 at*
     generalize((j+1:Nat):Int)=k1 at*
     simp[h0,xF,w1,w2,sh,q2,h1',zcv,hi]
   ·have h1':¬((l.length:Int)<=((last/2^(j+1):Nat):Int)):=qe
    rw[if_neg (fun c=>h1 c.2)]
    generalize((last/2^(j+1):Nat):Int)=q at*
    generalize((last/2:Nat):Int)=q1 at*
    simp[h0,xF,w1,sh,q2,h1']
  ·rw[if_neg (fun c=>h0 c.1)]
   have h0':¬((0:Int)<(l.length:Int)):=qe
   simp only[iC,Qs,zm7,jm,kI,zou,gt_iff_lt,zpy,h0',decide_false,cond_false]
theorem qs9(kk:Nat)(hkk:kk<=32)(v4:Value)(hp:Hp):∀(r:List Nat) (i p:Nat) (b1 b2:List Bool),l.drop i=r->i+r.length=l.length->zO (p::r)->b1.length+r.length*32<90000000->b2.length+(qG kk (p/2^kk) r).length<90000000->(qG kk (p/2^kk) r).length<900000->
 ∃v,B73_11 (S k 1 (LI .u32 (nz l))) (.int .i64 (l.length:Int)) v4 (.int .i64 (kk:Int)) (S 2 1 (LI .u8 (ub b1))) (S 2 1 (LI .u8 (ub b2))) (.int .u32 ((p/2^kk:Nat):Int)) (.int .i64 (i:Int)) hp=
  B73_11 (S k 1 (LI .u32 (nz l))) (.int .i64 (l.length:Int)) v4 (.int .i64 (kk:Int)) (S 2 1 (LI .u8 (ub (b1++qN kk r)))) (S 2 1 (LI .u8 (ub (b2++qG kk (p/2^kk) r)))) v (.int .i64 (l.length:Int)) hp:=by
 intro r
 induction r with
 |nil=>
  intro i p b1 b2 h hil hpr hb1 hb2 hb3
  simp at hil
  exact⟨_,by rw[hil,qN,qG,zns,zns]⟩
 |cons x r ih=>
  intro i p b1 b2 h hil hpr hb1 hb2 hb3
  obtain⟨e1,e2,hi,e3⟩:=qt h
  simp only[zm5]at hil hb1
  have ai:=xO .u32 l i hi
  rw[QZ h]at ai
  have en:∀h,(nz l)[i]'h=(x:Int):=fun h=>by simp[nz,e3]
  have hx:x<4294967296:=by rw[<-e3];exact h32 _ (znm _)
  have hd:p/2^kk<=x/2^kk:=zpn hpr.1
  have hxq:x/2^kk<=x:=zpj _ _
  have sh:=fun t o o'=>xh .u32 x kk (by show kk<=32;omega) t o o' .i64
  have hh:(qG kk (p/2^kk) (x::r)).length=(x/2^kk-p/2^kk)+1+(qG kk (x/2^kk) r).length:=by simp[qG]
  rw[hh]at hb2 hb3
  have w1':IntKind.u64.wrap (x:Int)=(x:Int):=qu qe qe
  have w2':IntKind.u32.wrap (((x/2^kk:Nat):Int)-((p/2^kk:Nat):Int))=((x/2^kk-p/2^kk:Nat):Int):=by rw[qK]<;>omega
  have w3':IntKind.i64.wrap ((x/2^kk-p/2^kk:Nat):Int)=((x/2^kk-p/2^kk:Nat):Int):=qm qe qe
  have w5:IntKind.i64.wrap ((i:Int)+1)=((i+1:Nat):Int):=qj
  obtain⟨hq1,u2⟩:=qig x kk qe qe hp0
  have u1:=qb9 (x/2^kk-p/2^kk) qe hp0
  have a1:=yK .u8 (ub b1) 2 (.inr rfl) 1 qh 0 (ub (kp x kk)) qi
  have a2:=yK .u8 (ub b2) 2 (.inr rfl) 1 qh 2 (ub (una (x/2^kk-p/2^kk))) qi
  rw[<-qfx]at a1 a2
  obtain⟨v,i1⟩:=ih (i+1) x (b1++kp x kk) (b2++una (x/2^kk-p/2^kk)) e2 qe hpr.2 qi qi qe
  have q1:b1++qN kk (x::r)=b1++kp x kk++qN kk r:=by simp[qN]
  have q2:b2++qG kk (p/2^kk) (x::r)=b2++una (x/2^kk-p/2^kk)++qG kk (x/2^kk) r:=by simp[qG]
  refine⟨v,?_⟩
  rw[q1,q2,<-i1,qdy]
  generalize una (x/2^kk-p/2^kk)=U at*
  generalize((x/2^kk-p/2^kk:Nat):Int)=d at*
  generalize((p/2^kk:Nat):Int)=P at*
  generalize((x/2^kk:Nat):Int)=X at*
  generalize((i+1:Nat):Int)=I at*
  generalize kp x kk=W at*
  simp only[qfx]at a1 a2
  simp[hi,ai,zr,en,yz,xF,w1',u2,a1,sh,w2',w3',u1,a2,w5]
include hr
theorem qie(hp:Hp):run cxX 73 [S k 1 (LI .u32 (nz l))] hp=some (S 2 1 (LI .u8 (zE l)),hp):=by
 have hla:qI l<4294967296:=by
  unfold qI
  by_cases h:l=[]
  ·rw[h];decide
  ·have:l.length-1<l.length:=by have:=zop.mpr h;omega
   rw[zm6,znb this]
   exact h32 _ (znm _)
 have hk32:qz l<=32:=qqr _ _ hla
 have hh:=WL (qz l) l hr
 have h2:qI l/2^qz l<=2*l.length:=by
  by_cases h:l=[]
  ·subst h;exact Nat.le_of_eq (zqz _)
  ·exact zp9 (ZK (zop.mpr h) hla)
 obtain⟨v,lp⟩:=qs9 l k hl h32 (qz l) hk32 (.int .u32 (qI l:Int)) hp l 0 0 [] [] rfl qg (jI hr) qi qi qi
 have lw:=qzb l k hl (qI l) hla hp 33 0 rfl qe
 have ef:Vf l.length (qI l) 33 0=qz l:=rfl
 rw[ef]at lw
 have lb:=Ql (qz l) l
 have lb2:l.length*qz l<=65536*32:=znz hl hk32
 obtain⟨hq1,by1⟩:=XN (qN (qz l) l) 3 qe hp0
 obtain⟨hq2,by2⟩:=XN (qG (qz l) 0 l) 3 qe hp0
 have l1:(pk (qN (qz l) l)).length<1000000:=by rw[zZ];omega
 have l2:(pk (qG (qz l) 0 l)).length<1000000:=by rw[zZ];omega
 have u1:=jx l.length qe hp0
 have u2:=jx (qI l) qe hp0
 have u3:=jx (pk (qG (qz l) 0 l)).length qe hp0
 have q1:=qD (n:=l.length) qe
 have q2:=qD (n:=qI l) qe
 have q3:=qD (n:=(pk (qG (qz l) 0 l)).length) qe
 have w1:IntKind.u64.wrap (l.length:Int)=(l.length:Int):=qu qe qe
 have w2:IntKind.u64.wrap ((qI l:Nat):Int)=((qI l:Nat):Int):=qu qe qe
 have w3:IntKind.u64.wrap ((pk (qG (qz l) 0 l)).length:Int)=((pk (qG (qz l) 0 l)).length:Int):=qu qe qe
 have h8:B73_5 (S k 1 (LI .u32 (nz l))) (.int .i64 (l.length:Int)) (.int .u32 (qI l:Int)) hp=some (S 2 1 (LI .u8 (zE l)),hp):=by
  rw[zcx]
  simp at lw lp
  unfold zE
  have a1:=yK .u8 (uv l.length) 2 (.inr rfl) 1 qh 2 (uv (qI l)) qe
  have a2:=yK .u8 (uv l.length++uv (qI l)) 2 (.inr rfl) 1 qh 0 (pk (qN (qz l) l)) (by simp only[zm4];omega)
  have a3:=yK .u8 (uv l.length++uv (qI l)++pk (qN (qz l) l)) 2 (.inr rfl) 1 qh 2 (uv (pk (qG (qz l) 0 l)).length) (by simp only[zm4];omega)
  have a4:=yK .u8 (uv l.length++uv (qI l)++pk (qN (qz l) l)++uv (pk (qG (qz l) 0 l)).length) 2 (.inr rfl) 1 qh 0 (pk (qG (qz l) 0 l)) (by simp only[zm4];omega)
  generalize qz l=fk at*
  generalize qG fk 0 l=H at*
  generalize qN fk l=Lo at*
  generalize qI l=la at*
  have e1:B73_11 (S k 1 (LI .u32 (nz l))) (.int .i64 (l.length:Int)) (.int .u32 (la:Int)) (.int .i64 (fk:Int)) (S 2 1 (LI .u8 (ub Lo))) (S 2 1 (LI .u8 (ub H))) v (.int .i64 (l.length:Int)) hp=some (S 2 1 (LI .u8 (uv l.length++uv la++pk Lo++uv (pk H).length++pk H)),hp):=by
   rw[qdy]
   generalize pk Lo=PL at*
   generalize hB:pk H=PH at*
   generalize uv PH.length=U2 at*
   generalize uv l.length=U1 at*
   generalize uv la=U3 at*
   simp only[znq]at a1 a2 a3 a4⊢
   simp[yz,w1,u1,w2,u2,a1,by1,a2,by2,w3,u3,a3,a4]
  have e0:ub []=[]:=rfl
  rw[e1]at lp
  simp[lw,zcu]
  simpa[e0]using lp
 rw[E73]
 by_cases h:0<l.length
 ·have aj:=xO .u32 l (l.length-1) qe
  have el:l.getD (l.length-1) 0=qI l:=rfl
  have w9:IntKind.i64.wrap ((l.length:Int)-1)=((l.length-1:Nat):Int):=qj
  have h':(0:Int)<(l.length:Int):=qe
  rw[el]at aj
  have aj':(nz l)[(((l.length-1:Nat):Int)).toNat]?=some (qI l:Int):=by rw[znc];simpa[LI]using aj
  have g0:(0:Int)<=((l.length-1:Nat):Int):=qe
  generalize((l.length-1:Nat):Int)=j at*
  generalize qI l=la at*
  simp[h,w9,aj',g0,zr,h8]
 ·have e:l=[]:=znk.mp qe
  subst e
  have e:qI []=0:=rfl
  rw[e]at h8
  simpa using h8
end
theorem zb4(L:List Int)(j:Nat)(v:Int)(hj:j<L.length):qO (L.set j v)+(L.getD j 0).toNat*256^(L.length-1-j)=qO L+v.toNat*256^(L.length-1-j):=by
 have e:L=L.take j++([L.getD j 0]++L.drop (j+1)):=by
  rw[zm6,znb hj,Option.getD_some,List.singleton_append,<-List.drop_eq_getElem_cons hj,zrb]
 have e2:L.set j v=L.take j++([v]++L.drop (j+1)):=by
  rw[List.set_eq_take_append_cons_drop,if_pos hj];rfl
 have one:∀z:Int,qO [z]=z.toNat:=fun z=>by simp[qO]
 have ld:(L.drop (j+1)).length=L.length-1-j:=by rw[zo4];omega
 have b1:qO L=qO (L.take j++([L.getD j 0]++L.drop (j+1))):=by rw[<-e]
 rw[e2,b1,kK,kK,kK,kK,one,one,ld]
 simp only[zm4,zng,ld]
 omega
theorem qrm:∀(a b:List Int),(∀x∈a,0<=x/\x<256)->(∀x∈b,0<=x/\x<256)->a.length=b.length->qO a=qO b->a=b
 |[],[],_,_,_,_=>rfl
 |[],_::_,_,_,h,_=>by cases h
 |_::_,[],_,_,h,_=>by cases h
 |x::a,y::b,ha,hb,hl,h=>by
  have hl':a.length=b.length:=by simpa using hl
  have one:∀z:Int,qO [z]=z.toNat:=fun z=>by simp[qO]
  have s1:qO (x::a)=x.toNat*256^a.length+qO a:=by rw[<-one,<-kK];rfl
  have s2:qO (y::b)=y.toNat*256^a.length+qO b:=by rw[<-one,hl',<-kK];rfl
  have l1:=VB a fun z hz=>ha z (by simp[hz])
  have l2:=VB b fun z hz=>hb z (by simp[hz])
  rw[<-hl']at l2
  rw[s1,s2]at h
  generalize 256^a.length=P at*
  have hq:x.toNat=y.toNat:=by
   have d1:(x.toNat*P+qO a)/P=x.toNat:=by rw[zob,Nat.mul_add_div qe,zqd l1];omega
   have d2:(y.toNat*P+qO b)/P=y.toNat:=by rw[zob,Nat.mul_add_div qe,zqd l2];omega
   rw[<-d1,<-d2,h]
  have hx:=ha x qg;have hy:=hb y qg
  have hxy:x=y:=qe
  rw[hq]at h
  have ih:=qrm a b (fun z hz=>ha z (by simp[hz])) (fun z hz=>hb z (by simp[hz])) hl' qe
  rw[hxy,ih]
def MR(hp:Hp)(b:Nat)(cs:List Nat):Prop:=b<hp.next/\hp.rd b 0=some (LI .i64 (nz cs))
theorem MR.fr{hp hp':Hp}{b:Nat}{cs:List Nat}{X:List Nat}(h:MR hp b cs)(f:Fm X hp hp')(h1:b∉X):MR hp' b cs:=
 ⟨znp h.1 f.1,by rw[f.rd h.1 h1];exact h.2⟩
theorem gC0(x:AV)(l:List AV):qs (x::l) 0=some x:=rfl
theorem gN1(x:AV):qp [x] 0 1=some [x]:=rfl
theorem pN1(x y:AV):qo [x] 0 [y]=some [y]:=rfl
theorem qn2:∀(f i b:Nat) (hp:Hp),i+f=64->1<=i->MR hp b (List.replicate i 1)->
 ∃hp' b',B143_3 (.int .i64 64) (.int .i64 (i:Int)) [S 2 1 []] [.ms b 0 0 i 1] hp=some (.agg [.ms b' 0 0 64 1],hp')/\MR hp' b' cs0:=by
 intro f
 induction f with
 |zero=>
  intro i b hp h h1 hm
  have e:i=64:=qe
  subst e
  refine⟨hp,b,?_,hm⟩
  rw[KB]
  simp[gN1,pN1]
 |succ f ih=>
  intro i b hp h h1 hm
  have hlt:(i:Int)<64:=qe
  have w1:IntKind.i64.wrap ((i:Int)+1)=((i+1:Nat):Int):=qj
  have hl:(nz (List.replicate i 1)).length=i:=qg
  have ap:=ZV .i64 (nz (List.replicate i 1)) 1 8 b qh (by rw[hl];omega) (by intro e;rw[e]at hl;simp at hl;omega) hp hm.2
  rw[hl]at ap
  have e1:nz (List.replicate i 1)++[1]=nz (List.replicate (i+1) 1):=by rw[zpm,yS];rfl
  rw[e1]at ap
  obtain⟨hp',b',a1,a2⟩:=ih (i+1) hp.next ((hp.del b).new (LI .i64 (nz (List.replicate (i+1) 1)))) qe qe ⟨by simp[Hp.del],qQ (hp.del b) _⟩
  refine⟨hp',b',?_,a2⟩
  rw[KB]
  generalize nz (List.replicate (i+1) 1)=L at*
  generalize((i+1:Nat):Int)=I at*
  simp[hlt,gC0,ap,pN1,w1,a1]
theorem qsi(hp:Hp):∃hp' b,run cxX 143 [.sc (.int .i64 64)] hp=some (.agg [.ms b 0 0 64 1],hp')/\MR hp' b cs0:=by
 have ap:=Ze .i64 1 8 qh hp
 obtain⟨hp',b',a1,a2⟩:=qn2 63 1 hp.next (hp.new (LI .i64 [1])) rfl qe ⟨qg,qQ _ _⟩
 refine⟨hp',b',?_,a2⟩
 rw[E143]
 have h3:B143_3 (.int .i64 64) (.int .i64 0) [S 2 1 []] [S 2 1 []] hp=some (.agg [.ms b' 0 0 64 1],hp'):=by
  rw[KB]
  generalize LI .i64 [1]=L at*
  simp[gC0,ap,pN1]
  simpa using a1
 simp[h3]
section
variable (hp:Hp)(b:Nat)(cs:List Nat)(h:MR hp b cs)(hl:cs.length=64)(hs:cs.sum<=1000000)
include h hl hs
theorem qn3:∀(f i:Nat),i+f=64->
 B144_3 (.int .i64 ((cs.take i).sum:Nat)) (.int .i64 (i:Int)) [.ms b 0 0 64 1] hp=some (.sc (.int .i64 (cs.sum:Nat)),hp):=by
 intro f
 induction f with
 |zero=>
  intro i e
  have e:i=64:=qe
  subst e
  have et:cs.take 64=cs:=by rw[<-hl,zpk]
  rw[qe2,et]
  simp[gC0]
 |succ f ih=>
  intro i e
  have hn:=ih (i+1) qe
  have ix:idx 64 (.int .i64 (i:Int))=some i:=zj .i64 qe
  have g:=jQ .i64 (nz cs) i qi
  rw[yT cs i qe]at g
  have st:=qP cs i qe
  have sl:=qR cs (i+1)
  have w1:IntKind.i64.wrap ((((cs.take i).sum:Nat):Int)+((cs.getD i 0:Nat):Int))=(((cs.take (i+1)).sum:Nat):Int):=qj
  have w2:IntKind.i64.wrap ((i:Int)+1)=((i+1:Nat):Int):=qj
  have hlt:(i:Int)<64:=qe
  rw[<-hn,qe2]
  have h2:=h.2
  generalize(((cs.take i).sum:Nat):Int)=A at*
  generalize(((cs.take (i+1)).sum:Nat):Int)=A1 at*
  generalize((cs.getD i 0:Nat):Int)=B at*
  generalize((i+1:Nat):Int)=I at*
  have hlt':i<64:=qe
  simp[gC0,hlt',ix,h2,g,w1,w2]
theorem qcc:run cxX 144 [.agg [.ms b 0 0 64 1]] hp=some (.sc (.int .i64 (cs.sum:Nat)),hp):=by
 have lp:=qn3 hp b cs h hl hs 64 0 rfl
 rw[E144]
 simp at lp
 simp[lp]
theorem qgx(x:Nat)(hx:x<64):∀(f i:Nat),i+f=x->
 B146_3 (.int .i64 (x:Int)) (.int .i64 ((cs.take i).sum:Nat)) (.int .i64 (i:Int)) [.ms b 0 0 64 1] hp=some (.sc (.int .i64 ((cs.take x).sum:Nat)),hp):=by
 intro f
 induction f with
 |zero=>
  intro i e
  have e:i=x:=qe
  subst e
  rw[qez]
  simp
 |succ f ih=>
  intro i e
  have hn:=ih (i+1) qe
  have ix:idx 64 (.int .i64 (i:Int))=some i:=zj .i64 qe
  have g:=jQ .i64 (nz cs) i qi
  rw[yT cs i qe]at g
  have st:=qP cs i qe
  have sl:=qR cs (i+1)
  have w1:IntKind.i64.wrap ((((cs.take i).sum:Nat):Int)+((cs.getD i 0:Nat):Int))=(((cs.take (i+1)).sum:Nat):Int):=qj
  have w2:IntKind.i64.wrap ((i:Int)+1)=((i+1:Nat):Int):=qj
  have hlt:(i:Int)<(x:Int):=qe
  rw[<-hn,qez]
  have h2:=h.2
  generalize(((cs.take i).sum:Nat):Int)=A at*
  generalize(((cs.take (i+1)).sum:Nat):Int)=A1 at*
  generalize((cs.getD i 0:Nat):Int)=B at*
  generalize((i+1:Nat):Int)=I at*
  simp[gC0,hlt,ix,h2,g,w1,w2]
theorem qik(x:Nat)(hx:x<64):run cxX 146 [.agg [.ms b 0 0 64 1],.sc (.int .i64 (x:Int))] hp=some (.sc (.int .i64 ((cs.take x).sum:Nat)),hp):=by
 have lp:=qgx hp b cs h hl hs x hx x 0 qe
 rw[E146]
 simp at lp
 simp[lp]
end
theorem qn1(d:List Nat)(hd:d.length=64)(hs:d.sum<=1000000)(b:Nat):∀(f i:Nat) (hp:Hp),i+f=64->b<hp.next->hp.rd b 0=some (LI .i64 (nz (hf d i)))->
 ∃hp',B147_5 (.int .i64 (i:Int)) [S 2 1 []] [.ms b 0 0 64 1] hp=some (.agg [.ms b 0 0 64 1],hp')/\MR hp' b (d.map fun n=>(n+1)/2)/\hp'.next=hp.next/\∀c,c≠b->hp'.get c=hp.get c:=by
 intro f
 induction f with
 |zero=>
  intro i hp hi h1 h2
  have e:i=64:=qe
  subst e
  have ef:hf d 64=d.map fun n=>(n+1)/2:=by rw[<-hd,za4]
  rw[ef]at h2
  refine⟨hp,?_,⟨h1,h2⟩,rfl,fun _ _=>rfl⟩
  rw[qey]
  simp[gC0,qex,gN1,pN1]
 |succ f ih=>
  intro i hp hi h1 h2
  have hid:i<d.length:=qe
  have hlt:(i:Int)<64:=qe
  have ix:idx 64 (.int .i64 (i:Int))=some i:=zj .i64 qe
  have g:=jQ .i64 (nz (hf d i)) i qi
  rw[yT _ i qi,za3 d i hid]at g
  have hx:d.getD i 0<=1000000:=by
   have:=qP d i hid
   have:=qR d (i+1)
   omega
  have p:=yL .i64 (nz (hf d i)) i (((d.getD i 0+1)/2:Nat):Int) qi
  have es:(nz (hf d i)).set i (((d.getD i 0+1)/2:Nat):Int)=nz (hf d (i+1)):=by
   rw[qg9 d i hid];unfold nz;rw[zru]
  rw[es]at p
  have w1:IntKind.i64.wrap (((d.getD i 0:Nat):Int)+1)=((d.getD i 0+1:Nat):Int):=qj
  have q2:∀t o o',qx Tryz.prog .quo t o o' (.int .i64 ((d.getD i 0+1:Nat):Int)) (.int .i64 2)=some (.int .i64 (((d.getD i 0+1)/2:Nat):Int)):=by
   intro t o o'
   rw[yB _ _ _ _ _ _ _ qe,zod qe,qm qe qe]
   rfl
  have w4:IntKind.i64.wrap ((i:Int)+1)=((i+1:Nat):Int):=qj
  obtain⟨hp2,a1,a2,a3,a4⟩:=ih (i+1) (hp.put b 0 (LI .i64 (nz (hf d (i+1))))) qe h1 (qr _ _ _)
  refine⟨hp2,?_,a2,by rw[a3];rfl,fun c c1=>by rw[a4 c c1];simp[Hp.put,c1]⟩
  rw[<-a1,qey]
  generalize nz (hf d (i+1))=L1 at*
  generalize nz (hf d i)=L0 at*
  generalize(((d.getD i 0+1)/2:Nat):Int)=y2 at*
  generalize((d.getD i 0+1:Nat):Int)=y1 at*
  generalize((d.getD i 0:Nat):Int)=y0 at*
  generalize((i+1:Nat):Int)=I at*
  have hlt':i<64:=qe
  simp[gC0,hlt',ix,h2,g,w1,q2,p,w4]
theorem qu4(K:IntKind)(l:List Int)(b:Nat)(hb:0<b/\b<=1000)(x:Nat)(hl:l.length<=1000000)(hne:l≠[])(hp:Hp)(hx:hp.rd x 0=some (LI K l)):
 jP b 1 (S 1 1 []) (.ms x 0 0 l.length 1) hp=some (.ms hp.next 0 0 l.length 1,hp.new (LI K l)):=by
 have e:=YE K l hp x 0 l.length hx qe
 rw[zo7,zpk,<-JU hp 1 1 (LI K l)]at e
 have h:=xg K l 1 b hb hl hne hp
 unfold jP at h⊢
 rw[e]
 exact h
theorem qsh(hp:Hp)(b x:Nat)(cs:List Nat)(h:MR hp b cs)(hm:okM cs)(hx:x<64):
 ∃hp' b',run cxX 147 [.agg [.ms b 0 0 64 1],.sc (.int .i64 (x:Int))] hp=some (.agg [.ms b' 0 0 64 1],hp')/\MR hp' b' (Yy cs x)/\hp.next<=b'/\Fm [] hp hp':=by
 obtain⟨m1,m2,m3⟩:=hm
 have hnl:(nz cs).length=64:=by simp[m1]
 have ap:=qu4 .i64 (nz cs) 8 qh b qe (by intro e;rw[e]at hnl;cases hnl) hp h.2
 rw[hnl]at ap
 have ix:idx 64 (.int .i64 (x:Int))=some x:=zj .i64 qe
 have g:=jQ .i64 (nz cs) x qi
 rw[yT cs x qe]at g
 have st:=qP cs x qe
 have sl:=qR cs (x+1)
 have ss:=qf1 cs x (cs.getD x 0+24) qe
 have w1:IntKind.i64.wrap (((cs.getD x 0:Nat):Int)+24)=((cs.getD x 0+24:Nat):Int):=qj
 have p:=yL .i64 (nz cs) x ((cs.getD x 0+24:Nat):Int) qi
 have es:(nz cs).set x ((cs.getD x 0+24:Nat):Int)=nz (cs.set x (cs.getD x 0+24)):=by unfold nz;rw[zru]
 rw[es]at p
 have dl:(cs.set x (cs.getD x 0+24)).length=64:=by simp[m1]
 have rn:=qQ hp (LI .i64 (nz cs))
 have f0:Fm [] hp ((hp.new (LI .i64 (nz cs))).put hp.next 0 (LI .i64 (nz (cs.set x (cs.getD x 0+24))))):=by
  refine⟨Nat.le_succ _,fun c hc _=>?_⟩
  have:c≠hp.next:=qe
  simp[Hp.put,Hp.new,this]
 have rm:MR ((hp.new (LI .i64 (nz cs))).put hp.next 0 (LI .i64 (nz (cs.set x (cs.getD x 0+24))))) hp.next (cs.set x (cs.getD x 0+24)):=⟨zqq _,qr _ _ _⟩
 have al:=qcc _ hp.next (cs.set x (cs.getD x 0+24)) rm dl qe
 unfold Yy
 generalize hd:cs.set x (cs.getD x 0+24)=d at*
 generalize hq:(hp.new (LI .i64 (nz cs))).put hp.next 0 (LI .i64 (nz d))=hq1 at*
 by_cases hle:d.sum<=4096
 ·rw[if_pos hle]
  refine⟨hq1,hp.next,?_,rm,zm8 _,f0⟩
  have hle':¬((4096:Int)<((d.sum:Nat):Int)):=qe
  rw[E147]
  generalize((d.sum:Nat):Int)=D at*
  generalize((cs.getD x 0+24:Nat):Int)=y1 at*
  generalize((cs.getD x 0:Nat):Int)=y0 at*
  simp[gC0,ap,pN1,ix,rn,g,w1,p,hq,gN1,al,hle',qex]
 ·rw[if_neg hle]
  have e0:hf d 0=d:=by unfold hf;simp
  obtain⟨hp2,a1,a2,a3,a4⟩:=qn1 d dl qe hp.next 64 0 hq1 rfl rm.1 (by rw[e0];exact rm.2)
  refine⟨hp2,hp.next,?_,a2,zm8 _,by rw[a3];exact f0.1,fun c hc hn=>by rw[a4 c qe,f0.2 c hc hn]⟩
  have hle':(4096:Int)<((d.sum:Nat):Int):=qe
  rw[E147]
  generalize((d.sum:Nat):Int)=D at*
  generalize((cs.getD x 0+24:Nat):Int)=y1 at*
  generalize((cs.getD x 0:Nat):Int)=y0 at*
  simp at a1
  simp[gC0,ap,pN1,ix,rn,g,w1,p,hq,gN1,al,hle',a1]
def LR(hp:Hp)(b:Nat)(L:List Int):Prop:=b<hp.next/\hp.rd b 0=some (LI .u8 L)/\∀x∈L,0<=x/\x<256
theorem qtd(b n T:Nat)(hn:n<=1000000)(hT:T<256^n):∀(i c:Nat) (L:List Int) (hp:Hp),L.length=n->i<=n->c<18446744073709551616->LR hp b L->qO L+c*256^(n-i)=T->
 ∃hp' L',B145_3 (.ms b 0 0 n 1) (.int .u64 (c:Int)) (.int .i64 ((i:Int)-1)) hp=some (.ms b 0 0 n 1,hp')/\LR hp' b L'/\L'.length=n/\qO L'=T/\hp'.next=hp.next/\∀z,z≠b->hp'.get z=hp.get z:=by
 intro i
 induction i with
 |zero=>
  intro c L hp hl hi hc hL hb
  have c0:c=0:=by
   rcases zp7 c with e|e
   ·exact e
   ·have:1*256^(n-0)<=c*256^(n-0):=znr _ e
    rw[zrt]at this hb
    omega
  subst c0
  refine⟨hp,L,?_,hL,hl,by simpa using hb,rfl,fun _ _=>rfl⟩
  rw[qe1]
  simp[qe0]
 |succ i ih=>
  intro c L hp hl hi hc hL hb
  have e1:((i+1:Nat):Int)-1=(i:Int):=qe
  rw[qe1,e1]
  by_cases hc0:0<c
  ·obtain⟨L1,L2,L3⟩:=hL
   have hi':i<L.length:=qe
   have ix:idx n (.int .i64 (i:Int))=some i:=zj .i64 qe
   have g:=jQ .u8 L i qe
   have hx:0<=L.getD i 0/\L.getD i 0<256:=by
    rw[zm6,znb hi']
    exact L3 _ (znm _)
   obtain⟨y,hy⟩:∃y:Nat,L.getD i 0=(y:Int):=⟨(L.getD i 0).toNat,qe⟩
   rw[hy]at g hx
   have r1:=Vn c 256 qh
   have r2:=Vn (y+c%256) 256 qh
   have q1:=YT c 256 qh hc
   have q2:=YT (y+c%256) 256 qh qe
   have w0:IntKind.u64.wrap (y:Int)=(y:Int):=qu qe qe
   have w1:IntKind.u64.wrap ((y:Int)+((c%256:Nat):Int))=((y+c%256:Nat):Int):=by rw[qu]<;>omega
   have w2:IntKind.u8.wrap (((y+c%256)%256:Nat):Int)=(((y+c%256)%256:Nat):Int):=zA qe qe
   have w3:IntKind.u64.wrap (((c/256:Nat):Int)+(((y+c%256)/256:Nat):Int))=((c/256+(y+c%256)/256:Nat):Int):=by rw[qu]<;>omega
   have w4:IntKind.i64.wrap ((i:Int)-1)=(i:Int)-1:=qm qe qe
   have p:=yL .u8 L i (((y+c%256)%256:Nat):Int) qe
   have bs:=zb4 L i (((y+c%256)%256:Nat):Int) hi'
   rw[hy,znc,znc,hl]at bs
   have en:n-1-i=n-(i+1):=qe
   have en2:n-i=n-(i+1)+1:=qe
   have hb':qO (L.set i (((y+c%256)%256:Nat):Int))+(c/256+(y+c%256)/256)*256^(n-i)=T:=by
    rw[en]at bs
    rw[en2,zo1]
    have k1:c=c/256*256+c%256:=qe
    have k2:y+c%256=(y+c%256)/256*256+(y+c%256)%256:=qe
    generalize 256^(n-(i+1))=P at*
    generalize(y+c%256)/256=u at*
    generalize(y+c%256)%256=v at*
    generalize c/256=c1 at*
    generalize c%256=c2 at*
    have e3:(c1+u)*(P*256)=c1*256*P+u*256*P:=by rw[zob P 256,<-Nat.mul_assoc,zpv,zpv]
    have e4:y*P+c2*P=u*256*P+v*P:=by rw[<-Nat.add_mul,<-Nat.add_mul,k2]
    have e5:c*P=c1*256*P+c2*P:=by rw[<-Nat.add_mul,<-k1]
    omega
   have hL':LR (hp.put b 0 (LI .u8 (L.set i (((y+c%256)%256:Nat):Int)))) b (L.set i (((y+c%256)%256:Nat):Int)):=by
    refine⟨L1,qr _ _ _,fun x hx'=>?_⟩
    rcases zpz hx' with h|h
    ·exact L3 x h
    ·rw[h];omega
   obtain⟨hp',L',a1,a2,a3,a4,a5,a6⟩:=ih (c/256+(y+c%256)/256) _ _ (by simp[hl]) qe qe hL' hb'
   refine⟨hp',L',?_,a2,a3,a4,by rw[a5];rfl,fun z hz=>by rw[a6 z hz];simp[Hp.put,hz]⟩
   rw[<-a1]
   have hc0':(0:Int)<(c:Int):=qe
   simp only[zpy]at r1 r2 q1 q2
   have h5:B145_5 (.ms b 0 0 n 1) (.int .u64 (c:Int)) (.int .i64 (i:Int)) hp=B145_3 (.ms b 0 0 n 1) (.int .u64 ((c/256+(y+c%256)/256:Nat):Int)) (.int .i64 ((i:Int)-1)) (hp.put b 0 (LI .u8 (L.set i (((y+c%256)%256:Nat):Int)))):=by
    rw[qww]
    clear a1 hL' hb' bs ih
    generalize((c/256+(y+c%256)/256:Nat):Int)=C3 at*
    generalize(((y+c%256)%256:Nat):Int)=v at*
    generalize(((y+c%256)/256:Nat):Int)=u at*
    generalize((y+c%256:Nat):Int)=s at*
    generalize((c/256:Nat):Int)=c1 at*
    generalize((c%256:Nat):Int)=c2 at*
    simp[ix,L2,g,w0,r1,w1,r2,w2,p,q1,q2,w3,w4]
   clear a1 hL' hb' bs ih p w2 w3 a5 a6
   generalize((c/256+(y+c%256)/256:Nat):Int)=C3 at*
   generalize(((y+c%256)%256:Nat):Int)=v at*
   simp[hc0,h5]
  ·have c0:c=0:=qe
   subst c0
   refine⟨hp,L,?_,hL,hl,by simpa using hb,rfl,fun _ _=>rfl⟩
   simp[qe0]
theorem qsg(b c:Nat)(L:List Int)(hp:Hp)(hl:L.length<=1000000)(hc:c<18446744073709551616)(hL:LR hp b L)(hT:qO L+c<256^L.length):
 ∃hp' L',run cxX 145 [.ms b 0 0 L.length 1,.sc (.int .u64 (c:Int))] hp=some (.ms b 0 0 L.length 1,hp')/\LR hp' b L'/\L'.length=L.length/\qO L'=qO L+c/\hp'.next=hp.next/\∀z,z≠b->hp'.get z=hp.get z:=by
 obtain⟨hp',L',a1,a2⟩:=qtd b L.length (qO L+c) hl hT L.length c L hp rfl (zm8 _) hc hL qg
 refine⟨hp',L',?_,a2⟩
 have w1:IntKind.i64.wrap ((L.length:Int)-1)=(L.length:Int)-1:=qm qe qe
 rw[E145]
 simp[w1,a1]
theorem LR.fr{hp hp':Hp}{b:Nat}{L:List Int}{X:List Nat}(h:LR hp b L)(f:Fm X hp hp')(h1:b∉X):LR hp' b L:=
 ⟨znp h.1 f.1,by rw[f.rd h.1 h1];exact h.2.1,h.2.2⟩
structure CQ (hp : Hp) (lo mb : Nat) (L : List Int) (cs : List Nat) (s : En) : Prop where
 lr:LR hp lo L
 mr:MR hp mb cs
 ne:lo≠mb
 v:qO L=eV s
 k:L.length=eK s+4
 up:eV s+s.width<=256^L.length
theorem qut(X:AV)(v8 v9:Value)(b5:List AV)(w:Int)(hp:Hp)(hw:w<16777216)(W:Int)(w1:IntKind.u64.wrap (w*256)=W)(lo n:Nat)(Y:AV)(hp':Hp)(ap:jP 1 1 (.ms lo 0 0 n 1) (S 1 1 [.sc (.int .u8 0)]) hp=some (Y,hp')):
 B72_11 X (.ms lo 0 0 n 1) (.int .u64 w) v8 v9 b5 hp=B72_11 X Y (.int .u64 W) v8 v9 b5 hp':=by
 rw[qdz]
 simp[hw,w1,ap]
theorem quu(X x6:AV)(i:Int)(v9:Value)(w:Int)(hp:Hp)(hw:¬(w<16777216))(i':Int)(w1:IntKind.i64.wrap (i+1)=i')(mb mb':Nat)(hp':Hp)(d1:run cxX 147 [.agg [.ms mb 0 0 64 1],.sc v9] hp=some (.agg [.ms mb' 0 0 64 1],hp')):
 B72_11 X x6 (.int .u64 w) (.int .i64 i) v9 [.ms mb 0 0 64 1] hp=B72_5 X x6 (.int .u64 w) (.int .i64 i') [.ms mb' 0 0 64 1] hp':=by
 rw[qdz]
 simp[hw,gN1,pN1,d1,w1]
theorem qur(k mb:Nat)(X:AV)(v8 v9:Value)(cs:List Nat):∀(f:Nat) (s:En) (lo:Nat) (L:List Int) (hp:Hp),CQ hp lo mb L cs s->ZC s s.width->s.width<=4294967296->L.length+f<=900000->
 ∃hp' lo' L',B72_11 X (.ms lo 0 0 L.length 1) (.int .u64 (s.width:Int)) v8 v9 [.ms mb 0 0 64 1] hp=B72_11 X (.ms lo' 0 0 L'.length 1) (.int .u64 ((zG f s).width:Nat)) v8 v9 [.ms mb 0 0 64 1] hp'/\
  CQ hp' lo' mb L' cs (zG f s)/\L'.length<=L.length+f:=by
 intro f
 induction f with
 |zero=>intro s lo L hp h ho hw hl;exact⟨hp,lo,L,rfl,h,zm8 _⟩
 |succ f ih=>
  intro s lo L hp h ho hw hl
  unfold zG
  by_cases hlt:s.width<16777216
  ·rw[if_pos hlt]
   have ho':ZC (XG s (s.width*256)) s.width:=ho
   obtain⟨a1,a2,a3,a4⟩:=YH (XG s (s.width*256)) s.width ho' qe
   have a4:(sh (XG s (s.width*256))).width=s.width*256:=a4
   rw[(Kf s _).1]at a2
   rw[(Kf s _).2]at a3
   have hne:L≠[]:=by intro e;have:=h.k;rw[e]at this;simp at this
   have ap:=ZV .u8 L 0 1 lo qh qe hne hp h.lr.2.1
   have fm:Fm [lo] hp ((hp.del lo).new (LI .u8 (L++[0]))):=Fm.delNew hp lo _ qg
   have cq:CQ ((hp.del lo).new (LI .u8 (L++[0]))) hp.next mb (L++[0]) cs (sh (XG s (s.width*256))):=by
    refine⟨⟨by simp[Hp.del],qQ (hp.del lo) _,fun x hx=>?_⟩,h.mr.fr fm (by simp;exact fun e=>h.ne e.symm),by have:=h.mr.1;omega,?_,?_,?_⟩
    ·rcases zoe.mp hx with q|q
     ·exact h.lr.2.2 x q
     ·simp at q;omega
    ·have e0:(0:Int).toNat=0:=rfl
     rw[yi,h.v,a2,e0,zot]
    ·have q:=h.k
     rw[a3,zm4,zng];omega
    ·rw[a2,a4,zm4,zng,zo1,<-Nat.add_mul]
     exact znr _ h.up
   obtain⟨hp',lo',L',b1,b2,b3⟩:=ih (sh (XG s (s.width*256))) hp.next (L++[0]) _ cq (by rw[a4];exact a1) (by rw[a4];omega) qi
   refine⟨hp',lo',L',?_,b2,by simp at b3;omega⟩
   have w1:IntKind.u64.wrap ((s.width:Int)*256)=((s.width*256:Nat):Int):=by rw[qu]<;>omega
   rw[<-b1,a4,zm4,zng]
   exact qut X v8 v9 _ _ hp qe _ w1 _ _ _ _ ap
  ·rw[if_neg hlt]
   exact⟨hp,lo,L,rfl,h,Nat.le_add_right _ _⟩
theorem qus(l:List Nat)(k:Nat)(h64:∀x∈l,x<64)(hl:l.length<=100000):∀(r:List Nat) (i:Nat) (cs:List Nat) (s:En) (lo mb:Nat) (L:List Int) (hp:Hp),l.drop i=r->i+r.length=l.length->CQ hp lo mb L cs s->okM cs->ZC s s.width->
 16777216<=s.width/\s.width<=4294967296->L.length+4*r.length<=900000->
 ∃hp' L',B72_5 (S k 1 (LI .u8 (nz l))) (.ms lo 0 0 L.length 1) (.int .u64 (s.width:Int)) (.int .i64 (i:Int)) [.ms mb 0 0 64 1] hp=some (S 0 1 (LI .u8 L'),hp')/\
  qO L'=eV (enc cs s r)/\L'.length=eK (enc cs s r)+4/\∀x∈L',0<=x/\x<256:=by
 intro r
 induction r with
 |nil=>
  intro i cs s lo mb L hp h hil hq hm ho hw hb
  simp at hil
  have fz:=vS .u8 L hp lo hq.lr.2.1
  refine⟨hp.del lo,L,?_,hq.v,hq.k,hq.lr.2.2⟩
  rw[qlw]
  simp[hil,fz]
 |cons x r ih=>
  intro i cs s lo mb L hp h hil hq hm ho hw hb
  obtain⟨e1,e2,hi,e3⟩:=qt h
  simp only[zm5]at hil hb
  have hx:x<64:=by rw[<-e3];exact h64 _ (znm _)
  obtain⟨m1,m2,m3⟩:=hm
  have al:=qcc hp mb cs hq.mr m1 qe
  have stt:=qik hp mb cs hq.mr m1 qe x hx
  have ht:=qP cs x qe
  have hta:=qR cs (x+1)
  have hn:1<=cs.getD x 0:=by
   rw[zm6,znb qe]
   exact m3 _ (znm _)
  have hmul:s.width/cs.sum*cs.sum<=s.width:=zok _ _
  have hsum:s.width/cs.sum*(cs.take x).sum+s.width/cs.sum*cs.getD x 0<=s.width:=by
   rw[<-Nat.mul_add,<-ht]
   exact zoi (zof _ hta) hmul
  obtain⟨d,b1,b2,b3,b4,b5,b6,b7⟩:=Zf s cs x ⟨m1,m2,m3⟩ hx ho hw
  have up:=hq.up
  have vv:=hq.v
  obtain⟨h4,L4,p1,p2,p3,p4,p5,p6⟩:=qsg lo (s.width/cs.sum*(cs.take x).sum) L hp qe qe hq.lr (by rw[vv];omega)
  have mr4:MR h4 mb cs:=⟨by rw[p5];exact hq.mr.1,by rw[xN (p6 mb (fun e=>hq.ne e.symm))];exact hq.mr.2⟩
  have okn:ZC (xK s cs x) (xK s cs x).width:=by
   obtain⟨h1,h2,h3,h4⟩:=ho
   refine⟨?_,h2,b7,fun q=>?_⟩
   ·show s.low+s.width/cs.sum*(cs.take x).sum+s.width/cs.sum*cs.getD x 0<=_;omega
   ·have:=h4 q
    show s.low+s.width/cs.sum*(cs.take x).sum+s.width/cs.sum*cs.getD x 0<=_;omega
  have ev:eV (xK s cs x)=eV s+s.width/cs.sum*(cs.take x).sum:=by
   show qO (bl s)*4294967296+(s.low+_)=qO (bl s)*4294967296+s.low+_
   omega
  have cq4:CQ h4 lo mb L4 cs (xK s cs x):=⟨p2,mr4,hq.ne,by rw[p4,vv,ev],by rw[p3];exact hq.k,by rw[ev,p3];show _+s.width/cs.sum*cs.getD x 0<=_;omega⟩
  obtain⟨h5,lo5,L5,c1,c2,c3⟩:=qur k mb (S k 1 (LI .u8 (nz l))) (.int .i64 (i:Int)) (.int .i64 (x:Int)) cs 4 (xK s cs x) lo L4 h4 cq4 okn (by show s.width/cs.sum*cs.getD x 0<=_;omega) qe
  obtain⟨h6,mb6,d1,d2,d3,d4⟩:=qsh h5 mb x cs c2.mr ⟨m1,m2,m3⟩ hx
  have cq6:CQ h6 lo5 mb6 L5 (Yy cs x) (zG 4 (xK s cs x)):=⟨c2.lr.fr d4 qg,d2,by have:=c2.lr.1;omega,c2.v,c2.k,c2.up⟩
  obtain⟨hp',L',f1,f2⟩:=ih (i+1) (Yy cs x) (zG 4 (xK s cs x)) lo5 mb6 L5 h6 e2 qe cq6 (QG ⟨m1,m2,m3⟩ hx) b4 ⟨b5,b6⟩ qe
  refine⟨hp',L',?_,f2⟩
  rw[<-f1,qlw]
  have c11:B72_11 (S k 1 (LI .u8 (nz l))) (.ms lo5 0 0 L5.length 1) (.int .u64 ((zG 4 (xK s cs x)).width:Nat)) (.int .i64 (i:Int)) (.int .i64 (x:Int)) [.ms mb 0 0 64 1] h5=
   B72_5 (S k 1 (LI .u8 (nz l))) (.ms lo5 0 0 L5.length 1) (.int .u64 ((zG 4 (xK s cs x)).width:Nat)) (.int .i64 ((i+1:Nat):Int)) [.ms mb6 0 0 64 1] h6:=by
   have w1:IntKind.i64.wrap ((i:Int)+1)=((i+1:Nat):Int):=qj
   exact quu _ _ _ _ _ h5 qe _ w1 mb mb6 h6 d1
  rw[c11]at c1
  rw[<-c1]
  have ai:=xO .u8 l i hi
  rw[show l.getD i 0=x by rw[zm6,e1];rfl]at ai
  have en:∀h,(nz l)[i]'h=(x:Int):=fun h=>by simp[nz,e3]
  have w0:IntKind.i64.wrap (x:Int)=(x:Int):=qm qe qe
  have w2:IntKind.u64.wrap ((cs.sum:Nat):Int)=((cs.sum:Nat):Int):=qu qe qe
  have q1:=YT s.width cs.sum qe qe
  have w3:IntKind.u64.wrap (((cs.take x).sum:Nat):Int)=(((cs.take x).sum:Nat):Int):=qu qe qe
  have w4:IntKind.u64.wrap (((s.width/cs.sum:Nat):Int)*(((cs.take x).sum:Nat):Int))=((s.width/cs.sum*(cs.take x).sum:Nat):Int):=by rw[<-Int.natCast_mul,qu]<;>omega
  have w5:IntKind.u64.wrap ((cs.getD x 0:Nat):Int)=((cs.getD x 0:Nat):Int):=qu qe qe
  have w6:IntKind.u64.wrap (((s.width/cs.sum:Nat):Int)*((cs.getD x 0:Nat):Int))=((s.width/cs.sum*cs.getD x 0:Nat):Int):=by rw[<-Int.natCast_mul,qu]<;>omega
  have ix:idx 64 (.int .i64 (x:Int))=some x:=zj .i64 qe
  have g:=jQ .i64 (nz cs) x qi
  rw[yT cs x qe]at g
  have m4:=mr4.2
  have ew:(xK s cs x).width=s.width/cs.sum*cs.getD x 0:=rfl
  rw[ew,p3]
  clear c1 c11 f1 f2 cq6 d1 d2 d4 c2 c3 cq4 ev okn mr4 b1 b2 b3 b4 ho hq ih
  generalize((s.width/cs.sum*cs.getD x 0:Nat):Int)=W2 at*
  generalize((s.width/cs.sum*(cs.take x).sum:Nat):Int)=W1 at*
  generalize((s.width/cs.sum:Nat):Int)=part at*
  generalize((cs.getD x 0:Nat):Int)=Vh at*
  generalize(((cs.take x).sum:Nat):Int)=start at*
  generalize((cs.sum:Nat):Int)=sm at*
  simp[hi,ai,en,zr,w0,gN1,al,w2,q1,stt,w3,w4,p1,gC0,ix,m4,g,w5,w6]
theorem XK(s:En)(h:∀x∈s.out,0<=x/\x<256):∀x∈(sh s).out,0<=x/\x<256:=by
 unfold sh
 split
 ·intro x hx
  simp only[zoe,List.mem_replicate]at hx
  rcases hx with(q|q)|q
  ·exact h x q
  ·split at q
   ·simp at q;omega
   ·simp at q
  ·omega
 ·exact h
theorem zae:∀(f:Nat) (s:En),(∀x∈s.out,0<=x/\x<256)->∀x∈(zG f s).out,0<=x/\x<256:=by
 intro f
 induction f with
 |zero=>intro s h;exact h
 |succ f ih=>
  intro s h
  unfold zG
  split
  ·exact ih _ (XK _ h)
  ·exact h
theorem zge:∀(l cs:List Nat) (s:En),(∀x∈s.out,0<=x/\x<256)->∀x∈(enc cs s l).out,0<=x/\x<256:=by
 intro l
 induction l with
 |nil=>intro cs s h;exact h
 |cons y r ih=>intro cs s h;exact ih _ _ (zae 4 _ h)
theorem zgs(l:List Nat):∀x∈jh l,0<=x/\x<256:=
 XK _ (XK _ (XK _ (XK _ (XK _ (zge l cs0 en0 (fun x hx=>by cases hx))))))
theorem qif(l:List Nat)(k:Nat)(hl:l.length<=100000)(h64:∀x∈l,x<64)(hp:Hp):∃hp',run cxX 72 [.sc (.int .i64 64),S k 1 (LI .u8 (nz l))] hp=some (S 0 1 (LI .u8 (jh l)),hp'):=by
 obtain⟨h1,mb,a1,a2⟩:=qsi hp
 have z:=Jb .u8 4
 have mk:yY 1 1 (4:Int) 4=some ():=qh
 have cq:CQ (h1.new (LI .u8 (List.replicate 4 0))) h1.next mb (List.replicate 4 0) cs0 en0:=by
  refine⟨⟨qg,qQ _ _,fun x hx=>by rw[zo6 hx];decide⟩,a2.fr (Fm.new [] _ _) qg,by have:=a2.1;omega,qh,qh,qh⟩
 obtain⟨hp',L',b1,b2,b3,b4⟩:=qus l k h64 hl l 0 cs0 en0 h1.next mb (List.replicate 4 0) _ rfl qg cq qjn qjo ⟨qh,qh⟩ qi
 obtain⟨n1,n2⟩:=JA l h64
 have e:L'=jh l:=qrm L' (jh l) b4 (zgs l) qe qe
 refine⟨hp',?_⟩
 rw[E72,<-e]
 have ew:en0.width=4294967295:=rfl
 rw[ew]at b1
 simp only[zrc]at b1
 generalize LI .u8 (List.replicate 4 0)=Z at*
 have z':xQ 4 [.int .u8 0]=Z:=z
 simp at b1
 simp[a1,pN1,mk,z',b1]
theorem Jd(K:IntKind)(hp:Hp)(k:Nat)(m:List Int):JE hp 1 (S k 1 (LI K m))=some (LI K m):=JU hp k 1 _
theorem vt(K:IntKind)(l m:List Int)(k b:Nat)(hk:k=1\/k=2)(hb:0<b/\b<=1000)(s:AV)(hp:Hp)(hl:l≠[])(hm:m≠[])(h:l.length+m.length<=1000000)(hs:JE hp 1 s=some (LI K m)):
 jP b 1 (S k 1 (LI K l)) s hp=some (S k 1 (LI K (l++m)),hp):=by
 have ap:=Yv b 1 k (LI K l) (LI K m) 1 hk (WV K m) (.inr (yV hb.1 (by
  simp only[kQ]
  have:(l.length+m.length)*b<=1000000*1000:=znz h hb.2
  omega)))
 unfold jn at ap
 rw[qx3]at ap
 simp only[zm7]at ap
 have e:LI K l++LI K m=LI K (l++m):=by simp[LI]
 rw[e]at ap
 have hv:(LI K m).all vl=true:=vlI K m
 unfold jP
 rw[hs]
 cases l with
 |nil=>exact absurd rfl hl
 |cons x l=>
  cases m with
  |nil=>exact absurd rfl hm
  |cons y m=>
   have e1:LI K (x::l)= .sc (.int K x)::LI K l:=rfl
   have e2:LI K (y::m)= .sc (.int K y)::LI K m:=rfl
   rw[e1,e2]at ap
   rw[e2]at hv
   have es:S k 1 (LI K (x::l))= .us 1 (.sc (.int K x)::LI K l):=by rcases hk with rfl|rfl<;>rfl
   rw[es,e2]
   rw[<-e1,es]at ap
   show(yC (.sc (.int K y)::LI K m)).bind (fun _=>(qk7 b 1 (.us 1 (.sc (.int K x)::LI K l)) (.sc (.int K y)::LI K m)).bind fun r=>some (r,hp))=_
   rw[ap,qz9,Zb hv]
   rfl
theorem zg2(K:IntKind)(m:List Int)(b:Nat)(hb:0<b/\b<=1000)(hp:Hp)(hm:m≠[])(h:m.length<=1000000):jP b 1 (S 2 1 []) (S 1 1 (LI K m)) hp=some (.ms hp.next 0 0 m.length 1,hp.new (LI K m)):=by
 unfold jP
 rw[Jd]
 cases m with
 |nil=>exact absurd rfl hm
 |cons y m=>
  have hf:xM b 1 (LI K (y::m)).length=true:=yV hb.1 (by
   rw[kQ]
   have:(y::m).length*b<=1000000*1000:=znz h hb.2
   omega)
  have e2:LI K (y::m)= .sc (.int K y)::LI K m:=rfl
  rw[e2]at hf⊢
  show(ZS (Zm nil0=true/\xM b 1 (AV.sc (Value.int K y)::LI K m).length=true)).bind _=_
  rw[Zb ⟨rfl,hf⟩]
  simp[kQ]
theorem qu3(K:IntKind)(l m:List Int)(b x:Nat)(hb:0<b/\b<=1000)(hl:l≠[])(hm:m≠[])(h:l.length+m.length<=1000000)(hp:Hp)(hx:hp.rd x 0=some (LI K l)):
 jP b 1 (.ms x 0 0 l.length 1) (S 1 1 (LI K m)) hp=some (.ms hp.next 0 0 (l.length+m.length) 1,(hp.del x).new (LI K (l++m))):=by
 have hpos:0<l.length:=zop.mpr hl
 unfold jP
 rw[Jd]
 cases m with
 |nil=>exact absurd rfl hm
 |cons y m=>
  have hf:xM b 1 (l.length*1+(LI K (y::m)).length)=true:=yV hb.1 (by
   rw[kQ]
   have:(l.length*1+(y::m).length)*b<=1000000*1000:=znz qe hb.2
   omega)
  have e2:LI K (y::m)= .sc (.int K y)::LI K m:=rfl
  rw[e2]at hf⊢
  show(ZS (1=1/\0=0/\0<l.length)).bind (fun _=>(hp.rd x 0).bind fun cs=>(ZS (l.length*1<=cs.length/\xM b 1 (l.length*1+(AV.sc (Value.int K y)::LI K m).length)=true)).bind fun _=>some (AV.ms hp.next 0 0 (l.length+zU 1 (AV.sc (Value.int K y)::LI K m)) 1,(hp.del x).new ((cs.take (l.length*1)).map ro1++AV.sc (Value.int K y)::LI K m)))=_
  rw[Zb ⟨rfl,rfl,hpos⟩]
  simp only[zm7,hx]
  rw[Zb ⟨by rw[kQ];omega,hf⟩]
  simp only[zm7]
  congr 2
  ·rw[WF];simp
  ·congr 1
   rw[zoy,zn2 qg,WV]
   simp[LI]
theorem zir(m:Nat):∀f i,∀x∈kP m f i,0<=x/\x<256:=by
 intro f
 induction f with
 |zero=>intro i x h;simp[kP]at h
 |succ f ih=>
  intro i x h
  unfold kP at h
  by_cases h256:256<=i
  ·rw[if_pos h256]at h;simp at h
  ·rw[if_neg h256]at h
   have:=(wD m (255-i) i).2.1
   split at h
   ·rcases zm9.mp h with e|h
    ·omega
    ·rcases zm9.mp h with e|h
     ·omega
     ·exact ih _ x h
   ·exact ih _ x h
theorem zah(L:List Nat)(x:Nat):zL (L++[x])=zL L|||2^x:=by
 apply zog
 intro j
 have h1:=QS j (L++[x])
 have h2:=QS j L
 rw[zn4,zoh,Bool.eq_iff_iff]
 simp only[zqg,decide_eq_true_eq,h1,h2,zoe,zp8]
 constructor
 ·rintro(h|h)
  ·exact .inl h
  ·exact .inr h.symm
 ·rintro(h|h)
  ·exact .inl h
  ·exact .inr h.symm
def nxt(e:Nat)(L:List Nat):Nat:=if L=[]then e else L.getD (L.length-1) 0+1
theorem Wo(x:Nat):∀(L:List Nat) (a:List Int) (e:Nat),kT a e (L++[x])=if x=nxt e L then qan (kT a e L)else kT a e L++[(x:Int),0]
 |[],a,e=>rfl
 |y::L,a,e=>by
  have en:∀e',nxt e' (y::L)=nxt (y+1) L:=by
   intro e'
   unfold nxt
   cases L with
   |nil=>rfl
   |cons z r=>rfl
  rw[en]
  simp only[zox,kT]
  split
  ·exact Wo x L _ _
  ·exact Wo x L _ _
def CSt(hp:Hp)(bb rb:Nat)(m:Nat)(A:List Int):Prop:=
 bb<hp.next/\hp.rd bb 0=some (LI .u8 (yG m 32 0))/\(A≠[]->rb<hp.next/\rb≠bb/\hp.rd rb 0=some (LI .u8 A))
def RVl(rb:Nat)(A:List Int):AV:=if A=[]then S 2 1 []else .ms rb 0 0 A.length 1
section
variable (L:List Nat)(hL:∀x∈L,x<256)(hp2:L.Pairwise (·<·))(hne:L≠[])(k key:Nat)(hkey:key<4294967296)
include hL hp2
theorem zhx:L.length<=256:=by
 have h:=qhl (zL L) 256 0 L (fun j _ _=>QS j L) (fun x hx=>⟨znw _,by have:=hL x hx;omega⟩) hp2
 have h2:=congrArg List.length h
 have h3:=qk6 (zL L) 256 0
 have h4:zw (zL L) 256<=256:=by
  have:∀n,zw (zL L) n<=n:=by
   intro n
   induction n with
   |zero=>exact zm8 _
   |succ n ih=>
    have:((zL L).testBit n).toNat<=1:=b2n _
    show zw (zL L) n+_<=_;omega
  exact this 256
 rw[WD]at h2
 have h5:zw (zL L) 0=0:=rfl
 rw[h5]at h3
 simp only[znf,zot]at h3
 omega
theorem zcj:yI (zL L) 256 0=nz L/\zw (zL L) 256=L.length:=by
 have h:=qhl (zL L) 256 0 L (fun j _ _=>QS j L) (fun x hx=>⟨znw _,by have:=hL x hx;omega⟩) hp2
 exact⟨h,by rw[<-Ko,h,WD]⟩
theorem qlg:kT [] 300 L=kP (zL L) 256 0:=by
 have h:=zet (zL L) 256 0 300 [] L (fun j _ _=>QS j L) (fun x hx=>⟨znw _,hL x hx⟩) hp2 (fun q=>by have:=hL _ q;omega) qe
 simpa using h
omit hL hp2 in
theorem qpd(hL:∀x∈L,x<256)(hp2:L.Pairwise (·<·))(i:Nat):(∀x∈L.take i,x<256)/\(L.take i).Pairwise (·<·):=
 ⟨fun x hx=>hL x (zoq hx),hp2.sublist (zq2 i L)⟩
include hne hkey
theorem quw(hp:Hp)(bb rb:Nat)(h:CSt hp bb rb (zL L) (kT [] 300 L)):
 ∃hp',B137_7 (S k 1 (LI .i64 (nz L))) (S 2 1 (LI .u8 (uv key))) (RVl rb (kT [] 300 L)) (.int .i64 (jD (zL L) 256:Nat)) (.ms bb 0 0 32 1) (S 2 1 (LI .u8 (nz L))) (.int .i64 (L.length:Int)) hp=some (S 2 1 (LI .u8 (yF (key,zL L))),hp'):=by
 have ll:=zhx L hL hp2
 obtain⟨ea,ep⟩:=zcj L hL hp2
 have er:=qlg L hL hp2
 have hl0:0<L.length:=zop.mpr hne
 have hrp:0<jD (zL L) 256:=Vo (by rw[ep];exact hl0)
 have hrl:=Yc (zL L) 256
 have hrn:=vA (zL L)
 rw[er]at h⊢
 obtain⟨h1,h2,h3⟩:=h
 have hk:=Xa (zL L)
 have ul:=qD (n:=key) qe
 have une:=zlm key
 have rne:kP (zL L) 256 0≠[]:=by intro e;rw[e]at hrn;simp at hrn;omega
 obtain⟨r1,r2,r3⟩:=h3 rne
 have w1:IntKind.i64.wrap (1+(L.length:Int))=1+(L.length:Int):=qm qe qe
 have w2:IntKind.i64.wrap (2*((jD (zL L) 256:Nat):Int))=2*((jD (zL L) 256:Nat):Int):=qm qe qe
 have w3:IntKind.i64.wrap (1+2*((jD (zL L) 256:Nat):Int))=1+2*((jD (zL L) 256:Nat):Int):=qm qe qe
 have w4:IntKind.i64.wrap ((L.length:Int)-1)=(L.length:Int)-1:=qm qe qe
 have w5:IntKind.i64.wrap (((jD (zL L) 256:Nat):Int)-1)=((jD (zL L) 256:Nat):Int)-1:=qm qe qe
 have c17:L.length+1<=32->L.length+1<=2*jD (zL L) 256+1->∃hp',B137_17 (S k 1 (LI .i64 (nz L))) (S 2 1 (LI .u8 (uv key))) (S 2 1 (LI .u8 (nz L))) hp=some (S 2 1 (LI .u8 (yF (key,zL L))),hp'):=by
  intro a1 a2
  have kd:kind (zL L)=0:=by unfold kind;rw[ep,if_pos ⟨a1,a2⟩]
  have eY:yF (key,zL L)=uv key++[(0:Int),((L.length-1:Nat):Int)]++nz L:=by
   unfold yF Zd
   rw[kd,if_pos rfl,ep,ea];simp
  have w6:IntKind.u8.wrap ((L.length:Int)-1)=((L.length-1:Nat):Int):=by rw[zA]<;>omega
  have a1:=vt .u8 (uv key) [0,((L.length-1:Nat):Int)] 2 1 (.inr rfl) qh (S 1 1 (LI .u8 [0,((L.length-1:Nat):Int)])) hp une qg qi (Jd _ _ _ _)
  have a2:=vt .u8 (uv key++[(0:Int),((L.length-1:Nat):Int)]) (nz L) 2 1 (.inr rfl) qh (S 3 1 (LI .u8 (nz L))) hp qg (by intro e;have:=congrArg List.length e;rw[WD]at this;simp only[znn]at this;omega) qi (Jd _ _ _ _)
  refine⟨hp,?_⟩
  rw[qpo,eY]
  have e1:LI .u8 [0,((L.length-1:Nat):Int)]=[.sc (.int .u8 0),.sc (.int .u8 ((L.length-1:Nat):Int))]:=rfl
  rw[e1]at a1
  generalize((L.length-1:Nat):Int)=n1 at*
  generalize uv key=U at*
  generalize LI .u8 (U++[0,n1]++nz L)=R1 at*
  generalize LI .u8 (U++[0,n1])=R2 at*
  simp[w4,w6,a1,a2]
 have c18:¬(L.length+1<=32/\L.length+1<=2*jD (zL L) 256+1)->∃hp',B137_18 (S 2 1 (LI .u8 (uv key))) (RVl rb (kP (zL L) 256 0)) (.int .i64 (jD (zL L) 256:Nat)) (.ms bb 0 0 32 1) (.int .i64 (1+2*((jD (zL L) 256:Nat):Int))) hp=some (S 2 1 (LI .u8 (yF (key,zL L))),hp'):=by
  intro hn
  by_cases h32:32<=2*jD (zL L) 256+1
  ·have kd:kind (zL L)=1:=by unfold kind;rw[ep,if_neg hn,if_pos h32]
   have eY:yF (key,zL L)=uv key++[(1:Int)]++yG (zL L) 32 0:=by
    unfold yF Zd
    rw[kd];simp
   have bl:=JC (zL L) 32 0
   have sm:=YE .u8 (yG (zL L) 32 0) hp bb 0 32 h2 qe
   rw[zo7,zn2 qe]at sm
   have a1:=vt .u8 (uv key) [1] 2 1 (.inr rfl) qh (S 1 1 (LI .u8 [1])) hp une qg qi (Jd _ _ _ _)
   have a2:=vt .u8 (uv key++[(1:Int)]) (yG (zL L) 32 0) 2 1 (.inr rfl) qh (.ms bb 0 0 32 1) hp qg (by intro e;have:=congrArg List.length e;rw[bl]at this;cases this) qi sm
   have e1:LI .u8 [1]=[.sc (.int .u8 1)]:=rfl
   have h32':(32:Int)<=1+2*((jD (zL L) 256:Nat):Int):=qe
   rw[e1]at a1
   refine⟨hp,?_⟩
   rw[qbc,eY]
   generalize((jD (zL L) 256:Nat):Int)=rc at*
   generalize uv key=U at*
   generalize LI .u8 (U++[1]++yG (zL L) 32 0)=R1 at*
   generalize LI .u8 (U++[1])=R2 at*
   simp[h32',a1,a2]
  ·have kd:kind (zL L)=2:=by unfold kind;rw[ep,if_neg hn,if_neg h32]
   have eY:yF (key,zL L)=uv key++[(2:Int),((jD (zL L) 256-1:Nat):Int)]++kP (zL L) 256 0:=by
    unfold yF Zd
    rw[kd];simp
   have w6:IntKind.u8.wrap (((jD (zL L) 256:Nat):Int)-1)=((jD (zL L) 256-1:Nat):Int):=by rw[zA]<;>omega
   have sm:=YE .u8 (kP (zL L) 256 0) hp rb 0 (kP (zL L) 256 0).length r3 qe
   rw[zo7,zpk]at sm
   have a1:=vt .u8 (uv key) [2,((jD (zL L) 256-1:Nat):Int)] 2 1 (.inr rfl) qh (S 1 1 (LI .u8 [2,((jD (zL L) 256-1:Nat):Int)])) hp une qg qi (Jd _ _ _ _)
   have a2:=vt .u8 (uv key++[(2:Int),((jD (zL L) 256-1:Nat):Int)]) (kP (zL L) 256 0) 2 1 (.inr rfl) qh (.ms rb 0 0 (kP (zL L) 256 0).length 1) hp qg rne qi sm
   have e1:LI .u8 [2,((jD (zL L) 256-1:Nat):Int)]=[.sc (.int .u8 2),.sc (.int .u8 ((jD (zL L) 256-1:Nat):Int))]:=rfl
   have h32':¬((32:Int)<=1+2*((jD (zL L) 256:Nat):Int)):=qe
   rw[e1]at a1
   refine⟨hp,?_⟩
   have erv:RVl rb (kP (zL L) 256 0)= .ms rb 0 0 (kP (zL L) 256 0).length 1:=if_neg rne
   rw[qbc,eY,erv]
   generalize((jD (zL L) 256-1:Nat):Int)=rc1 at*
   generalize((jD (zL L) 256:Nat):Int)=rc at*
   generalize uv key=U at*
   generalize LI .u8 (U++[2,rc1]++kP (zL L) 256 0)=R1 at*
   generalize LI .u8 (U++[2,rc1])=R2 at*
   simp[h32',w5,w6,a1,a2]
 rw[qe9]
 by_cases a1:L.length+1<=32
 ·by_cases a2:L.length+1<=2*jD (zL L) 256+1
  ·obtain⟨hp',e⟩:=c17 a1 a2
   have a1':1+(L.length:Int)<=32:=qe
   have a2':1+(L.length:Int)<=1+2*((jD (zL L) 256:Nat):Int):=qe
   refine⟨hp',?_⟩
   clear c17 c18
   generalize((jD (zL L) 256:Nat):Int)=rc at*
   simp[w1,w2,w3,a1',a2',e]
  ·obtain⟨hp',e⟩:=c18 (fun q=>a2 q.2)
   have a1':1+(L.length:Int)<=32:=qe
   have a2':¬(1+(L.length:Int)<=1+2*((jD (zL L) 256:Nat):Int)):=qe
   refine⟨hp',?_⟩
   clear c17 c18
   generalize((jD (zL L) 256:Nat):Int)=rc at*
   simp[w1,w2,w3,a1',a2',e]
 ·obtain⟨hp',e⟩:=c18 (fun q=>a1 q.1)
  have a1':¬(1+(L.length:Int)<=32):=qe
  refine⟨hp',?_⟩
  clear c17 c18
  generalize((jD (zL L) 256:Nat):Int)=rc at*
  simp[w1,w2,w3,a1',e]
omit hL hp2 hne hkey in
theorem qho{rb:Nat}{A:List Int}(h:A≠[]):RVl rb A= .ms rb 0 0 A.length 1:=if_neg h
omit hkey hne in
theorem qo0:∀(f i rb zU:Nat) (bb:Nat) (hp:Hp),i+f=L.length->CSt hp bb rb (zL (L.take i)) (kT [] 300 (L.take i))->(kT [] 300 (L.take i)).length=2*zU->
 ∃hp' rb',B137_7 (S k 1 (LI .i64 (nz L))) (S 2 1 (LI .u8 (uv key))) (RVl rb (kT [] 300 (L.take i))) (.int .i64 (zU:Int)) (.ms bb 0 0 32 1) (S 2 1 (LI .u8 (nz (L.take i)))) (.int .i64 (i:Int)) hp=
  B137_7 (S k 1 (LI .i64 (nz L))) (S 2 1 (LI .u8 (uv key))) (RVl rb' (kT [] 300 L)) (.int .i64 (jD (zL L) 256:Nat)) (.ms bb 0 0 32 1) (S 2 1 (LI .u8 (nz L))) (.int .i64 (L.length:Int)) hp'/\CSt hp' bb rb' (zL L) (kT [] 300 L):=by
 have ll:=zhx L hL hp2
 intro f
 induction f with
 |zero=>
  intro i rb zU bb hp h hc hm
  have e:i=L.length:=qe
  subst e
  rw[zpk]at hc hm⊢
  have e2:zU=jD (zL L) 256:=by
   rw[qlg L hL hp2,vA]at hm;omega
  rw[e2]
  exact⟨hp,rb,rfl,hc⟩
 |succ f ih=>
  intro i rb zU bb hp h hc hm
  have hi:i<L.length:=qe
  have ex:L.drop i=L[i]::L.drop (i+1):=zn0 hi
  obtain⟨x,hx⟩:∃x,L[i]=x:=⟨_,rfl⟩
  have hx256:x<256:=by rw[<-hx];exact hL _ (znm _)
  have et:L.take (i+1)=L.take i++[x]:=by rw[zpg,znb hi,hx];rfl
  have hxn:x∉L.take i:=by
   intro q
   obtain⟨j,hj,e⟩:=zpr q
   have hj':j<i:=by simp at hj;omega
   rw[List.getElem_take]at e
   have:=List.pairwise_iff_getElem.mp hp2 j i qe hi hj'
   omega
  have hbit:(zL (L.take i)).testBit x=false:=by
   cases hb:(zL (L.take i)).testBit x
   ·rfl
   ·exact absurd ((QS x _).mp hb) hxn
  obtain⟨h1,h2,h3⟩:=hc
  have ai:=xO .i64 L i hi
  rw[show L.getD i 0=x by rw[zm6,znb hi,hx];rfl]at ai
  have en:∀h,(nz L)[i]'h=(x:Int):=fun h=>by simp[nz,hx]
  have st:=zb5 (zL (L.take i)) x hx256 hbit
  have bl:=JC (zL (L.take i)) 32 0
  have bg:=VC (zL (L.take i)) 32 0 (x/8) qe
  rw[znf]at bg
  have by0:=qrl (zL (L.take i)) x (x/8) hbit
  rw[if_pos rfl]at by0
  have hsum:zL (L.take i)/2^(8*(x/8))%256+2^(x%8)<256:=by rw[<-by0];exact zp4 _ qh
  have g:ql (LI .u8 (yG (zL (L.take i)) 32 0)) (x/8)=some (.int .u8 ((zL (L.take i)/2^(8*(x/8))%256:Nat):Int)):=by
   unfold ql
   rw[Vg?,bg];rfl
  have pn:=yL .u8 (yG (zL (L.take i)) 32 0) (x/8) ((zL (L.take i)/2^(8*(x/8))%256+2^(x%8):Nat):Int) qe
  rw[<-st,<-zah,<-et]at pn
  have q8:=qgi x qe
  have r8:=qgg x
  have ix:idx 32 (.int .i64 ((x/8:Nat):Int))=some (x/8):=zj .i64 qe
  have sh:∀t o o',qx Tryz.prog .shl t o o' (.int .u8 1) (.int .i64 ((x%8:Nat):Int))=some (.int .u8 ((2^(x%8):Nat):Int)):=by
   intro t o o'
   have hc:x%8=0\/x%8=1\/x%8=2\/x%8=3\/x%8=4\/x%8=5\/x%8=6\/x%8=7:=qe
   rw[zW _ _ _ _ _ _ _ _ qe]
   rcases hc with h|h|h|h|h|h|h|h<;>rw[h]<;>rfl
  have w1:IntKind.u8.wrap (((zL (L.take i)/2^(8*(x/8))%256:Nat):Int)+((2^(x%8):Nat):Int))=((zL (L.take i)/2^(8*(x/8))%256+2^(x%8):Nat):Int):=by
   rw[<-Int.natCast_add,zA]<;>omega
  have w0:IntKind.u8.wrap (x:Int)=(x:Int):=zA qe qe
  have ap:=qk8 .u8 (nz (L.take i)) 2 (.inr rfl) 1 qh (x:Int) qi
  rw[<-yS,<-et]at ap
  have wi:IntKind.i64.wrap ((i:Int)+1)=((i+1:Nat):Int):=qj
  obtain⟨hp1,e1⟩:∃hp1,hp1=hp.put bb 0 (LI .u8 (yG (zL (L.take (i+1))) 32 0)):=⟨_,rfl⟩
  have c1:hp1.next=hp.next:=by rw[e1];rfl
  have c2:hp1.rd bb 0=some (LI .u8 (yG (zL (L.take (i+1))) 32 0)):=by rw[e1];exact qr _ _ _
  have c3:kT [] 300 (L.take i)≠[]->rb<hp1.next/\rb≠bb/\hp1.rd rb 0=some (LI .u8 (kT [] 300 (L.take i))):=fun q=>by
   obtain⟨d1,d2,d3⟩:=h3 q
   exact⟨by rw[c1];exact d1,d2,by rw[e1,qA _ _ d2];exact d3⟩
  have b8:∀(x6:AV) (mn:Int) (hq:Hp),B137_8 (S k 1 (LI .i64 (nz L))) (S 2 1 (LI .u8 (uv key))) x6 (.int .i64 mn) (.ms bb 0 0 32 1) (S 2 1 (LI .u8 (nz (L.take (i+1))))) (.int .i64 (i:Int)) hq=
   B137_7 (S k 1 (LI .i64 (nz L))) (S 2 1 (LI .u8 (uv key))) x6 (.int .i64 mn) (.ms bb 0 0 32 1) (S 2 1 (LI .u8 (nz (L.take (i+1))))) (.int .i64 ((i+1:Nat):Int)) hq:=by
   intro x6 mn hq
   rw[qw1]
   generalize((i+1:Nat):Int)=I at*
   simp[wi]
  obtain⟨t1,t2⟩:=qpd L hL hp2 (i+1)
  have rl:=qlg (L.take (i+1)) t1 t2
  have rr:=zir (zL (L.take (i+1))) 256 0
  rw[<-rl]at rr
  have alen:(kT [] 300 (L.take i)).length<=600:=by
   obtain⟨t1,t2⟩:=qpd L hL hp2 i
   rw[qlg (L.take i) t1 t2,vA]
   have:=Yc (zL (L.take i)) 256
   have e:=(zcj (L.take i) t1 t2).2
   have:(L.take i).length<=256:=qi
   omega
  have sn:=Wo x (L.take i) [] 300
  rw[<-et]at sn
  --one more run
  have no:x≠nxt 300 (L.take i)->∃hp' rb',B137_13 (S k 1 (LI .i64 (nz L))) (S 2 1 (LI .u8 (uv key))) (RVl rb (kT [] 300 (L.take i))) (.int .i64 (zU:Int)) (.ms bb 0 0 32 1) (S 2 1 (LI .u8 (nz (L.take (i+1))))) (.int .i64 (i:Int)) hp1=
   B137_7 (S k 1 (LI .i64 (nz L))) (S 2 1 (LI .u8 (uv key))) (RVl rb' (kT [] 300 L)) (.int .i64 (jD (zL L) 256:Nat)) (.ms bb 0 0 32 1) (S 2 1 (LI .u8 (nz L))) (.int .i64 (L.length:Int)) hp'/\CSt hp' bb rb' (zL L) (kT [] 300 L):=by
   intro hno
   rw[if_neg hno]at sn
   have wm:IntKind.i64.wrap ((zU:Int)+1)=((zU+1:Nat):Int):=qj
   obtain⟨hq,am,q1,q2,q3⟩:∃hq,jP 1 1 (RVl rb (kT [] 300 (L.take i))) (S 1 1 (LI .u8 [(x:Int),0])) hp1=some (.ms hp1.next 0 0 (kT [] 300 (L.take (i+1))).length 1,hq)/\hq.next=hp1.next+1/\hq.rd hp1.next 0=some (LI .u8 (kT [] 300 (L.take (i+1))))/\hq.rd bb 0=hp1.rd bb 0:=by
    by_cases hA:kT [] 300 (L.take i)=[]
    ·have a:=zg2 .u8 [(x:Int),0] 1 qh hp1 qg qg
     rw[sn,hA]
     exact⟨_,a,rfl,qQ _ _,zH _ _ qe⟩
    ·obtain⟨d1,d2,d3⟩:=c3 hA
     have a:=qu3 .u8 (kT [] 300 (L.take i)) [(x:Int),0] 1 rb qh hA qg qi hp1 d3
     rw[qho hA,sn,zm4]
     refine⟨_,a,rfl,qQ (hp1.del rb) _,?_⟩
     exact(Fm.delNew (X:=[rb]) hp1 rb _ qg).rd qe (by simp;exact fun e=>d2 e.symm)
   have hA1:kT [] 300 (L.take (i+1))≠[]:=by rw[sn];simp
   obtain⟨hp',rb',z1,z2⟩:=ih (i+1) hp1.next (zU+1) bb hq qe ⟨qe,by rw[q3];exact c2,fun _=>⟨qe,qe,q2⟩⟩ (by rw[sn,zm4,hm];simp only[zm5,znn];omega)
   refine⟨hp',rb',?_,z2⟩
   rw[<-z1,qho hA1,<-b8,qpp]
   have el:LI .u8 [(x:Int),0]=[.sc (.int .u8 (x:Int)),.sc (.int .u8 0)]:=rfl
   rw[el]at am
   have rro:ro (RVl rb (kT [] 300 (L.take i)))=RVl rb (kT [] 300 (L.take i)):=by unfold RVl;split<;>rfl
   clear z1 b8 c3 sh
   generalize((zU+1:Nat):Int)=M at*
   generalize RVl rb (kT [] 300 (L.take i))=V at*
   simp[hi,ai,en,zr,w0,rro,am,wm]
  --the same run
  have yes:x=nxt 300 (L.take i)->kT [] 300 (L.take i)≠[]->∃hp' rb',B137_12 (S k 1 (LI .i64 (nz L))) (S 2 1 (LI .u8 (uv key))) (RVl rb (kT [] 300 (L.take i))) (.int .i64 (zU:Int)) (.ms bb 0 0 32 1) (S 2 1 (LI .u8 (nz (L.take (i+1))))) (.int .i64 (i:Int)) hp1=
   B137_7 (S k 1 (LI .i64 (nz L))) (S 2 1 (LI .u8 (uv key))) (RVl rb' (kT [] 300 L)) (.int .i64 (jD (zL L) 256:Nat)) (.ms bb 0 0 32 1) (S 2 1 (LI .u8 (nz L))) (.int .i64 (L.length:Int)) hp'/\CSt hp' bb rb' (zL L) (kT [] 300 L):=by
   intro hyes hA
   rw[if_pos hyes]at sn
   obtain⟨d1,d2,d3⟩:=c3 hA
   have hpos:0<(kT [] 300 (L.take i)).length:=zop.mpr hA
   generalize hAA:kT [] 300 (L.take i)=A at*
   have lb:(qan A).length=A.length:=by simp[qan]
   have hmem:A.getD (A.length-1) 0+1∈qan A:=by
    unfold qan
    have:A.length-1<(A.set (A.length-1) (A.getD (A.length-1) 0+1)).length:=qi
    have e:=znm this
    rw[List.getElem_set_self]at e
    exact e
   rw[sn]at rr
   have hv:=rr _ hmem
   have gs:=jQ .u8 A (A.length-1) qe
   have pn2:=yL .u8 A (A.length-1) (A.getD (A.length-1) 0+1) qe
   have eb:A.set (A.length-1) (A.getD (A.length-1) 0+1)=qan A:=rfl
   rw[eb]at pn2
   have wb:IntKind.u8.wrap (A.getD (A.length-1) 0+1)=A.getD (A.length-1) 0+1:=zA hv.1 hv.2
   have wl:IntKind.i64.wrap ((A.length:Int)-1)=((A.length-1:Nat):Int):=qj
   have ix2:idx A.length (.int .i64 ((A.length-1:Nat):Int))=some (A.length-1):=zj .i64 qe
   have hA1:qan A≠[]:=by intro e;rw[e]at lb;simp at lb;omega
   obtain⟨hp',rb',z1,z2⟩:=ih (i+1) rb zU bb (hp1.put rb 0 (LI .u8 (qan A))) qe ⟨by rw[qjp];omega,by rw[qA _ _ (fun e=>d2 e.symm)];exact c2,fun _=>⟨d1,d2,by rw[sn];exact qr _ _ _⟩⟩ (by rw[sn,lb];exact hm)
   refine⟨hp',rb',?_,z2⟩
   rw[sn,qho hA1,lb]at z1
   rw[<-z1,qho hA,<-b8,qpq]
   clear z1 b8 c3 sh no
   generalize A.getD (A.length-1) 0=y0 at*
   generalize hN:((A.length-1:Nat):Int)=N at*
   simp[wl,ix2,d3,gs,wb,pn2]
  --joined
  have fin:∃hp' rb',cond (decide (0<i)) (cond (decide (x=L.getD (i-1) 0+1)) (B137_12 (S k 1 (LI .i64 (nz L))) (S 2 1 (LI .u8 (uv key))) (RVl rb (kT [] 300 (L.take i))) (.int .i64 (zU:Int)) (.ms bb 0 0 32 1) (S 2 1 (LI .u8 (nz (L.take (i+1))))) (.int .i64 (i:Int)) hp1)
   (B137_13 (S k 1 (LI .i64 (nz L))) (S 2 1 (LI .u8 (uv key))) (RVl rb (kT [] 300 (L.take i))) (.int .i64 (zU:Int)) (.ms bb 0 0 32 1) (S 2 1 (LI .u8 (nz (L.take (i+1))))) (.int .i64 (i:Int)) hp1))
   (B137_13 (S k 1 (LI .i64 (nz L))) (S 2 1 (LI .u8 (uv key))) (RVl rb (kT [] 300 (L.take i))) (.int .i64 (zU:Int)) (.ms bb 0 0 32 1) (S 2 1 (LI .u8 (nz (L.take (i+1))))) (.int .i64 (i:Int)) hp1)=
   B137_7 (S k 1 (LI .i64 (nz L))) (S 2 1 (LI .u8 (uv key))) (RVl rb' (kT [] 300 L)) (.int .i64 (jD (zL L) 256:Nat)) (.ms bb 0 0 32 1) (S 2 1 (LI .u8 (nz L))) (.int .i64 (L.length:Int)) hp'/\CSt hp' bb rb' (zL L) (kT [] 300 L):=by
   have nx:nxt 300 (L.take i)=if i=0 then 300 else L.getD (i-1) 0+1:=by
    unfold nxt
    by_cases h0:i=0
    ·subst h0;simp
    ·have:L.take i≠[]:=by intro e;have:=congrArg List.length e;rw[zn9,znn]at this;omega
     rw[if_neg this,if_neg h0,zn9,zp0 qe,zm6,znj,if_pos qe,zm6]
   by_cases h0:0<i
   ·rw[if_neg qe]at nx
    rw[decide_eq_true h0,cond_true]
    by_cases hq:x=L.getD (i-1) 0+1
    ·rw[decide_eq_true hq,cond_true]
     refine yes (by rw[nx];exact hq) ?_
     intro e
     obtain⟨t1,t2⟩:=qpd L hL hp2 i
     rw[qlg (L.take i) t1 t2]at e
     have hl:=vA (zL (L.take i))
     rw[e]at hl
     have hp0:0<jD (zL (L.take i)) 256:=Vo (by rw[(zcj (L.take i) t1 t2).2,zn9];omega)
     simp at hl;omega
    ·rw[decide_eq_false hq,cond_false]
     exact no (by rw[nx];exact hq)
   ·rw[decide_eq_false h0,cond_false]
    have hz:i=0:=qe
    rw[if_pos hz]at nx
    exact no (by rw[nx];omega)
  obtain⟨hp',rb',z1,z2⟩:=fin
  refine⟨hp',rb',?_,z2⟩
  rw[<-z1,qe9]
  clear z1 b8 no yes c3 ih sn rr rl
  have e1':hp.put bb 0 (LI .u8 (yG (zL (L.take (i+1))) 32 0))=hp1:=e1.symm
  clear e1 c2 st
  generalize((zL (L.take i)/2^(8*(x/8))%256+2^(x%8):Nat):Int)=y1 at*
  generalize((zL (L.take i)/2^(8*(x/8))%256:Nat):Int)=y0 at*
  generalize((2^(x%8):Nat):Int)=y2 at*
  generalize((x%8:Nat):Int)=m8 at*
  generalize LI .u8 (yG (zL (L.take (i+1))) 32 0)=B1 at*
  generalize LI .u8 (yG (zL (L.take i)) 32 0)=B0 at*
  generalize hQ:x/8=Q at*
  generalize RVl rb (kT [] 300 (L.take i))=V at*
  by_cases h0:0<i
  ·have aj:=xO .i64 L (i-1) qe
   have w9:IntKind.i64.wrap ((i:Int)-1)=((i-1:Nat):Int):=qj
   have g0:(0:Int)<=((i-1:Nat):Int):=qe
   have hy:L.getD (i-1) 0<256:=by
    rw[zm6,znb qe]
    exact hL _ (znm _)
   have en2:(nz L)[(((i-1:Nat):Int)).toNat]?=some (L.getD (i-1) 0:Nat):=by rw[znc];simpa[LI]using aj
   generalize L.getD (i-1) 0=y at*
   have w7:IntKind.i64.wrap ((y:Int)+1)=((y+1:Nat):Int):=qj
   generalize((i-1:Nat):Int)=j at*
   have dq:(decide ((x:Int)=((y+1:Nat):Int)))=decide (x=y+1):=by apply decide_eq_decide.mpr;omega
   generalize hY:((y+1:Nat):Int)=Y at*
   simp[hi,ai,en,zr,w0,ap,q8,ix,h2,g,r8,sh,w1,pn,h0,w9,g0,en2,w7,dq,e1']
  ·simp[hi,ai,en,zr,w0,ap,q8,ix,h2,g,r8,sh,w1,pn,h0,e1']
theorem qga(hp:Hp):∃hp',run cxX 137 [.sc (.int .u32 (key:Int)),S k 1 (LI .i64 (nz L))] hp=some (S 2 1 (LI .u8 (yF (key,zL L))),hp'):=by
 have u:=jx key qe hp0
 have z:=Jb .u8 32
 have mk:yY 1 1 (32:Int) 32=some ():=qh
 obtain⟨hp1,rb1,a1,a2⟩:=qo0 L hL hp2 k key L.length 0 0 0 hp.next (hp.new (LI .u8 (List.replicate 32 0))) qe ⟨qg,by rw[qQ,<-qkw 32 0];rfl,fun h=>absurd rfl h⟩ rfl
 obtain⟨hp',b1⟩:=quw L hL hp2 hne k key hkey hp1 hp.next rb1 a2
 rw[b1]at a1
 have w1:IntKind.u64.wrap (key:Int)=(key:Int):=qu qe qe
 have e0:RVl 0 (kT [] 300 (L.take 0))=S 2 1 []:=rfl
 have e1:LI .u8 (nz (L.take 0))=[]:=rfl
 rw[e0,e1]at a1
 refine⟨hp',?_⟩
 rw[E137]
 have z':xQ 32 [.int .u8 0]=LI .u8 (List.replicate 32 0):=z
 generalize LI .u8 (List.replicate 32 0)=Z at*
 generalize LI .u8 (yF (key,zL L))=R at*
 simp at a1
 simp[w1,u,mk,z',a1]
end
section
variable (l:List Nat)(h32:∀x∈l,x<4294967296)(hr:qM l)(hl:l.length<=65536)(k:Nat)
include h32 hl
theorem zen(key:Nat)(hkey:key<16777216)(x3:AV)(v4:Value)(hp:Hp):∀(a:List Nat) (i:Nat) (b:List Nat) (acc:List Nat),l.drop i=a++b->(∀x∈a,x/256=key)->(∀x∈b.head?,x/256≠key)->acc.length+a.length<=65536->
 B69_7 (S k 1 (LI .u32 (nz l))) x3 v4 (.int .i64 (i:Int)) (.int .u32 (key:Int)) (S 2 1 (LI .i64 (nz acc))) hp=
  B69_10 (S k 1 (LI .u32 (nz l))) x3 v4 (.int .i64 ((i+a.length:Nat):Int)) (.int .u32 (key:Int)) (S 2 1 (LI .i64 (nz (acc++a.map (·%256))))) hp:=by
 have quo256:∀(x:Nat),x<4294967296->∀t o o',qx Tryz.prog .quo t o o' (.int .u32 (x:Int)) (.int .u32 256)=some (.int .u32 ((x/256:Nat):Int)):=by
  intro x hx t o o'
  rw[yB _ _ _ _ _ _ _ qe,zod qe,qK qe qe]
  rfl
 intro a
 induction a with
 |nil=>
  intro i b acc h ha hb hacc
  rw[qly]
  simp only[zny,znn,zot,zpu,zns]at h⊢
  cases b with
  |nil=>
   have h1:=qJ h
   have hlt:¬(i<l.length):=qe
   simp[hlt]
  |cons y s=>
   obtain⟨e1,e2,hi,e3⟩:=qt h
   have hy:=hb y qg
   have hy32:y<4294967296:=by rw[<-e3];exact h32 _ (znm _)
   have ai:=xO .u32 l i hi
   rw[show l.getD i 0=y by rw[zm6,e1];rfl]at ai
   have en:∀h,(nz l)[i]'h=(y:Int):=fun h=>by simp[nz,e3]
   have q:=quo256 y hy32
   have hne:¬(((y/256:Nat):Int)=(key:Int)):=qe
   generalize((y/256:Nat):Int)=Q at*
   simp[hi,ai,en,zr,q,hne]
 |cons x a ih=>
  intro i b acc h ha hb hacc
  simp only[zm5]at hacc
  obtain⟨e1,e2,hi,e3⟩:=qt (show l.drop i=x::(a++b)from h)
  have hx:=ha x qg
  have hx32:x<4294967296:=by rw[<-e3];exact h32 _ (znm _)
  have ai:=xO .u32 l i hi
  rw[show l.getD i 0=x by rw[zm6,e1];rfl]at ai
  have en:∀h,(nz l)[i]'h=(x:Int):=fun h=>by simp[nz,e3]
  have q:=quo256 x hx32
  rw[hx]at q
  have rm:∀t o o',qx Tryz.prog .rem t o o' (.int .u32 (x:Int)) (.int .u32 256)=some (.int .u32 ((x%256:Nat):Int)):=by
   intro t o o'
   rw[zq _ _ _ _ _ _ _ qe,zo qe]
   rfl
  have w1:IntKind.i64.wrap ((x%256:Nat):Int)=((x%256:Nat):Int):=qm qe qe
  have w2:IntKind.i64.wrap ((i:Int)+1)=((i+1:Nat):Int):=qj
  have ap:=qk8 .i64 (nz acc) 2 (.inr rfl) 8 qh ((x%256:Nat):Int) qi
  rw[<-yS]at ap
  have i1:=ih (i+1) b (acc++[x%256]) e2 (fun y hy=>ha y (by simp[hy])) hb qi
  have e4:i+1+a.length=i+(x::a).length:=qi
  have e5:acc++[x%256]++a.map (·%256)=acc++(x::a).map (·%256):=qg
  rw[e4,e5]at i1
  rw[qly,<-i1]
  have b8:B69_8 (S k 1 (LI .u32 (nz l))) x3 v4 (.int .i64 (i:Int)) (.int .u32 (key:Int)) (S 2 1 (LI .i64 (nz acc))) hp=
   B69_7 (S k 1 (LI .u32 (nz l))) x3 v4 (.int .i64 ((i+1:Nat):Int)) (.int .u32 (key:Int)) (S 2 1 (LI .i64 (nz (acc++[x%256])))) hp:=by
   rw[zcz]
   clear i1 e5
   generalize((i+1:Nat):Int)=I at*
   generalize nz (acc++[x%256])=A1 at*
   generalize((x%256:Nat):Int)=m at*
   simp[hi,ai,en,zr,rm,xF,w1,ap,w2]
  simp[hi,ai,en,zr,q,b8]
theorem qy8:∀(n:Nat) (r:List Nat) (i c:Nat) (Z:List Int) (hp:Hp),r.length<=n->l.drop i=r->qM r->c+r.length<=65536->Z.length+60*r.length<=50000000->
 B69_4 (S k 1 (LI .u32 (nz l))) (S 2 1 (LI .u8 Z)) (.int .i64 (c:Int)) (.int .i64 (i:Int)) hp=some (S 2 1 (LI .u8 (uv (c+(jR r).length)++(Z++wU (jR r)))),hp):=by
 intro n
 induction n with
 |zero=>
  intro r i c Z hp hn h hrr hc hZ
  have e:r=[]:=znk.mp qe
  subst e
  have h1:=qJ h
  have hlt:¬(i<l.length):=qe
  have u:=jx c (by simp at hc;omega) hp0
  have ul:=qD (n:=c) (by simp at hc;omega)
  have ap:=yK .u8 (uv c) 2 (.inr rfl) 1 qh 3 Z (by simp at hZ;omega)
  have w1:IntKind.u64.wrap (c:Int)=(c:Int):=qu qe (by simp at hc;omega)
  rw[qlz]
  simp[hlt,w1,u,ap,jR,wU]
 |succ n ih=>
  intro r i c Z hp hn h hrr hc hZ
  by_cases hr0:r=[]
  ·exact ih r i c Z hp (by rw[hr0];exact znw _) h hrr hc hZ
  ·obtain⟨x,s,rfl⟩:∃x s,r=x::s:=by cases r with
    |nil=>exact absurd rfl hr0
    |cons x s=>exact⟨x,s,rfl⟩
   obtain⟨e1,e2,hi,e3⟩:=qt h
   have hx32:x<4294967296:=by rw[<-e3];exact h32 _ (znm _)
   obtain⟨a,b,eab,ha,hak,hbk,hch,hpw⟩:=qae (x::s) (x/256) hrr qg hr0
   have hlen:a.length+b.length=(x::s).length:=by rw[eab];simp
   have hapos:0<a.length:=zop.mpr ha
   have ri:=zen l h32 hl k (x/256) qe (S 2 1 (LI .u8 Z)) (.int .i64 (c:Int)) hp a i b [] (by rw[h,eab]) hak hbk (by have:=hlen;simp only[zm5,znn]at this hc⊢;omega)
   have hm256:∀y∈a.map (·%256),y<256:=by
    intro y hy
    obtain⟨z,_,rfl⟩:=zn3.mp hy
    exact zp4 _ qh
   obtain⟨hq,rc⟩:=qga (a.map (·%256)) hm256 hpw (by simpa using ha) 3 (x/256) qe hp0
   have hrise_b:qM b:=by
    rw[xk]at hrr⊢
    rw[eab]at hrr
    exact(zpb.mp hrr).2.1
   have hok:YV (x/256,zL (a.map (·%256))):=by
    have:(x/256,zL (a.map (·%256)))∈jR (x::s):=by rw[hch];exact zqf ..
    exact wY (fun y hy=>by rw[<-h]at hy;exact h32 y (zqp hy)) _ this
   have cl:=qag hok
   have ap:=yK .u8 Z 2 (.inr rfl) 1 qh 2 (yF (x/256,zL (a.map (·%256)))) qe
   have hdb:l.drop (i+a.length)=b:=by
    rw[<-List.drop_drop,h,eab,zqc]
   have i1:=ih b (i+a.length) (c+1) (Z++yF (x/256,zL (a.map (·%256)))) hp qe hdb hrise_b qe qi
   have ai:=xO .u32 l i hi
   rw[show l.getD i 0=x by rw[zm6,e1];rfl]at ai
   have en:∀h,(nz l)[i]'h=(x:Int):=fun h=>by simp[nz,e3]
   have q:∀t o o',qx Tryz.prog .quo t o o' (.int .u32 (x:Int)) (.int .u32 256)=some (.int .u32 ((x/256:Nat):Int)):=by
    intro t o o'
    rw[yB _ _ _ _ _ _ _ qe,zod qe,qK qe qe]
    rfl
   have w1:IntKind.i64.wrap ((c:Int)+1)=((c+1:Nat):Int):=qj
   rw[hch]
   have eR:uv (c+1+(jR b).length)++(Z++yF (x/256,zL (a.map (·%256)))++wU (jR b))=uv (c+((x/256,zL (a.map (·%256)))::jR b).length)++(Z++wU ((x/256,zL (a.map (·%256)))::jR b)):=by
    simp only[zm5,wU,znq]
    congr 2;omega
   rw[<-eR,<-i1,qlz]
   have e0:LI .i64 (nz [])=[]:=rfl
   rw[e0]at ri
   simp only[zny]at ri
   clear eR i1 hch ih
   generalize nz (a.map (·%256))=A1 at*
   generalize yF (x/256,zL (a.map (·%256)))=Y at*
   generalize((i+a.length:Nat):Int)=I at*
   generalize((x/256:Nat):Int)=Q at*
   generalize((c+1:Nat):Int)=C1 at*
   have b10:B69_10 (S k 1 (LI .u32 (nz l))) (S 2 1 (LI .u8 Z)) (.int .i64 (c:Int)) (.int .i64 I) (.int .u32 Q) (S 2 1 (LI .i64 A1)) hp=B69_4 (S k 1 (LI .u32 (nz l))) (S 2 1 (LI .u8 (Z++Y))) (.int .i64 C1) (.int .i64 I) hp:=by
    rw[qvc]
    simp[rc,ap,w1]
   simp[hi,ai,en,zr,q]
   rw[ri,b10]
include hr
theorem qib(hp:Hp):run cxX 69 [S k 1 (LI .u32 (nz l))] hp=some (S 2 1 (LI .u8 (jW (jR l))),hp):=by
 have h:=qy8 l h32 hl k l.length l 0 0 [] hp (zm8 _) rfl hr qe qi
 rw[E69]
 simp at h
 simp[h,jW]
end
theorem JZ(w:Nat)(h:w<18446744073709551616)(hp:Hp):run cxX 75 [fl w] hp=some (.sc (.int .u64 (kw w:Int)),hp):=by
 rw[E75]
 unfold kw
 by_cases hn:yU w
 ·simp[jA,hn]
 ·by_cases hl:w<9223372036854775808
  ·have h1:¬((9223372036854775808:Int)<=(w:Int)):=qe
   have w1:IntKind.u64.wrap ((w:Int)+9223372036854775808)=((w+9223372036854775808:Nat):Int):=by rw[qu]<;>omega
   rw[if_neg hn,if_pos hl]
   generalize((w+9223372036854775808:Nat):Int)=W at*
   simp[jA,hn,XH,h1,w1]
  ·have h1:(9223372036854775808:Int)<=(w:Int):=qe
   have w1:IntKind.u64.wrap (18446744073709551615-(w:Int))=((18446744073709551615-w:Nat):Int):=by rw[qu]<;>omega
   rw[if_neg hn,if_neg hl]
   generalize((18446744073709551615-w:Nat):Int)=W at*
   simp[jA,hn,XH,h1,w1]
theorem qi4(c:Int)(hc:1<=c/\c<=256)(l:List Int)(hl:l.length<=4096)(h32:kL l)(k:Nat)(hp:Hp):∀(r:List Int) (i:Nat) (last:Int) (acc:List Int),l.drop i=r->acc.length<=10*i+20->i<=l.length->(0<=last/\last<4294967296)->(0<i->last=l.getD (i-1) 0)->
 B28_3 (.int .i64 c) (S k 1 (LI .u32 l)) (S 1 1 (LI .u8 acc)) (.int .i64 (i:Int)) hp=some (S 1 1 (LI .u8 (acc++zV c r i last)),hp):=by
 intro r
 induction r with
 |nil=>
  intro i last acc h ha hil hla hl2
  have:=qJ h
  have hlt:¬(i<l.length):=qe
  rw[qmi]
  simp[zV,hlt]
 |cons x r ih=>
  intro i last acc h ha hil hla hl2
  obtain⟨e1,e2,hi,e3⟩:=qt h
  have hx:=h32 x (znh e1)
  have rm:∀t o o',qx Tryz.prog .rem t o o' (.int .i64 (i:Int)) (.int .i64 c)=some (.int .i64 ((i:Int)%c)):=by
   intro t o o'
   rw[zq _ _ _ _ _ _ _ qe,zo qe]
  have mc:max c 1=c:=qe
  have hm0:=Int.emod_nonneg (i:Int) (show c≠0 by omega)
  obtain⟨lst,hlst⟩:∃lst:Int,lst=if(i:Int)%max c 1=0 then 0 else last:=⟨_,rfl⟩
  have hb:0<=lst/\lst<4294967296:=by rw[hlst];split<;>omega
  have le:=qpw hx hb
  have ri:=qym (x-lst) qe hp0
  have ws:IntKind.i64.wrap x=x:=qm qe qe
  have wd:IntKind.i64.wrap (x-lst)=x-lst:=qm qe qe
  have hw:IntKind.i64.wrap ((i:Int)+1)=((i+1:Nat):Int):=qj
  have ap:=yK .u8 acc 1 (.inl rfl) 1 qh 2 (uv (zz (x-lst))) qe
  have hh:=ih (i+1) x (acc++uv (zz (x-lst))) e2 qi qe hx (fun _=>by simp[zm6,e1])
  have ec:acc++zV c (x::r) i last=acc++uv (zz (x-lst))++zV c r (i+1) x:=by
   rw[hlst,znq];rfl
  rw[ec,<-hh]
  have b8:B28_8 (.int .i64 c) (S k 1 (LI .u32 l)) (S 1 1 (LI .u8 acc)) (.int .i64 (i:Int)) (.int .i64 lst) hp=B28_3 (.int .i64 c) (S k 1 (LI .u32 l)) (S 1 1 (LI .u8 (acc++uv (zz (x-lst))))) (.int .i64 ((i+1:Nat):Int)) hp:=by
   rw[zdo]
   clear hh ec
   generalize((i+1:Nat):Int)=I at*
   generalize uv (zz (x-lst))=u at*
   simp[hi,e3,zr,ws,wd,ri,ap,hw]
  rw[qmi,<-b8]
  by_cases h0:(i:Int)%c=0
  ·have el:lst=0:=by rw[hlst,mc,if_pos h0]
   rw[el]
   simp[hi,rm,h0]
  ·have el:lst=last:=by rw[hlst,mc,if_neg h0]
   have hpos:0<(i:Int)%c:=qe
   have hi0:0<i:=by
    rcases zp7 i with e|e
    ·rw[e]at h0;simp at h0
    ·exact e
   have hl3:=hl2 hi0
   have w9:IntKind.i64.wrap ((i:Int)-1)=((i-1:Nat):Int):=qj
   have g0:(0:Int)<=((i-1:Nat):Int):=qe
   have en:l[(((i-1:Nat):Int)).toNat]?=some last:=by
    rw[znc,hl3,zm6,znb qe];rfl
   have wl:IntKind.i64.wrap last=last:=qm qe qe
   rw[el]
   generalize((i-1:Nat):Int)=j at*
   simp[hi,rm,hpos,w9,g0,en,zr,wl]
theorem qm2(R c:Int)(hR:0<=R/\R<256)(hc:1<=c/\c<=256)(l:List Int)(hl:l.length<=4096)(h32:kL l)(k:Nat)(hp:Hp):
 run cxX 28 [.sc (.int .i64 R),.sc (.int .i64 c),S k 1 (LI .u32 l)] hp=some (S 1 1 (LI .u8 ([R]++uv c.toNat++zV c l 0 0)),hp):=by
 have hu:=qD (n:=c.toNat) qe
 have u:=jx c.toNat qe hp0
 rw[zos qe]at u
 have h:=qi4 c hc l hl h32 k hp l 0 0 ([R]++uv c.toNat) rfl qi qe qe (fun h=>qe)
 have wR:IntKind.u8.wrap R=R:=zA hR.1 hR.2
 have wc:IntKind.u64.wrap c=c:=qu qe qe
 have ap:=yK .u8 [R] 1 (.inl rfl) 1 qh 2 (uv c.toNat) qi
 have e1:LI .u8 [R]=[.sc (.int .u8 R)]:=rfl
 rw[e1]at ap
 rw[E28]
 generalize [R]++uv c.toNat=U at*
 simp at h
 simp[wR,wc,u,ap,h]
theorem qi3(L:List Nat)(hL:Ws L)(hlen:L.length<=1000)(k:Nat)(hp:Hp):∀(r:List Nat) (i p:Nat) (Z:List Int),L.drop i=r->zO (p::r.map kw)->p<18446744073709551616->Z.length<=1000+10*i->
 B29_11 (S k 1 (LF L)) (S 1 1 (LI .u8 Z)) (.int .u64 (p:Int)) (.int .i64 (i:Int)) hp=some (S 1 1 (LI .u8 (Z++jN p (r.map kw))),hp):=by
 intro r
 induction r with
 |nil=>
  intro i p Z h hn hp' hZ
  have h1:=qJ h
  have ll:(LF L).length=L.length:=by simp[LF]
  have hlt:¬(i<L.length):=qe
  rw[qd6]
  simp[hlt,jN,ll]
 |cons x r ih=>
  intro i p Z h hn hp' hZ
  obtain⟨e1,e2,hi,e3⟩:=qt h
  have hx:x<18446744073709551616:=hL x (by rw[<-e3];exact znm _)
  have ky:=JZ x hx hp0
  have kl:=Qm x hx
  have hpk:p<=kw x:=hn.1
  have hu:=qD (n:=kw x-p) qe
  have wu:=jx (kw x-p) qe hp0
  have ap:=yK .u8 Z 1 (.inl rfl) 1 qh 2 (uv (kw x-p)) qe
  have hi2:=ih (i+1) (kw x) (Z++uv (kw x-p)) e2 hn.2 kl qi
  have w1:IntKind.u64.wrap ((kw x:Int)-(p:Int))=((kw x-p:Nat):Int):=by rw[qu]<;>omega
  have w2:IntKind.i64.wrap ((i:Int)+1)=((i+1:Nat):Int):=qj
  have e:Z++jN p ((x::r).map kw)=Z++uv (kw x-p)++jN (kw x) (r.map kw):=by rw[znq];rfl
  have al:(LF L)[i]?=some (fl x):=by
   unfold LF
   rw[zno,e1];rfl
  have ll:(LF L).length=L.length:=by simp[LF]
  have hlt:(i:Int)<(L.length:Int):=qe
  rw[e,<-hi2,qd6]
  obtain⟨F,hF⟩:∃F,fl x= .sc F:=⟨_,rfl⟩
  rw[hF]at ky al
  generalize((kw x-p:Nat):Int)=D at*
  generalize((i+1:Nat):Int)=I at*
  have g1:(0:Int)<=(i:Int):=qe
  have ix:∀k,jE 1 (S k 1 (LF L)) (.int .i64 (i:Int))=some [.sc F]:=by
   intro k
   rw[ZM,if_pos g1,znc,al];rfl
  generalize LF L=LL at*
  generalize uv (kw x-p)=U at*
  simp[ll,hi,ix,zr,ky,w1,wu,ap,w2]
theorem Zy(n:Int)(hn:zx n)(Z:List Int)(hZ:Z.length<=1000):run cxX 70 [.sc (.int .u64 n)] hp0=some (S 2 1 (LI .u8 (uv n.toNat)),hp0)/\(uv n.toNat).length<=10/\jn 1 1 (S 1 1 (LI .u8 Z)) (S 2 1 (LI .u8 (uv n.toNat)))=some (S 1 1 (LI .u8 (Z++uv n.toNat)))/\IntKind.u64.wrap n=n:=by
 have h1:n.toNat<18446744073709551616:=by have:=hn.2;omega
 have hu:=qD h1
 have:=jx n.toNat h1 hp0
 rw[zos hn.1]at this
 exact⟨this,hu,yK .u8 Z 1 (.inl rfl) 1 qh 2 _ qe,qu hn.1 (by have:=hn.2;omega)⟩
theorem qnm(k:Nat)(L:AV)(lo hi:Value)(E:List Int)(hE:∀n∈E,zx n)(h6:E.length=6)(hp:Hp):∀(f i:Nat) (Z:List Int),i+f=6->Z.length<=100+10*i->
 B29_3 lo hi L (S 1 1 (LI .u8 Z)) (.int .i64 (i:Int)) (LI .u32 E) hp=B29_3 lo hi L (S 1 1 (LI .u8 (Z++((E.drop i).map fun n=>uv n.toNat).flatten))) (.int .i64 6) (LI .u32 E) hp:=by
 intro f
 induction f with
 |zero=>
  intro i Z h hZ
  have e:i=6:=qe
  subst e
  rw[zoc qe]
  simp
 |succ f ih=>
  intro i Z h hZ
  have hi':i<E.length:=qe
  obtain⟨n,hn⟩:∃n,E[i]=n:=⟨_,rfl⟩
  have ed:E.drop i=n::E.drop (i+1):=by rw[zn0 hi',hn]
  obtain⟨u1,u2,u3,u4⟩:=Zy n (hE n (by rw[<-hn];exact znm _)) Z qe
  have ix:idx 6 (.int .i64 (i:Int))=some i:=zj .i64 qe
  have g:=jQ .u32 E i hi'
  rw[show E.getD i 0=n by rw[zm6,znb hi',hn];rfl]at g
  have hlt:i<6:=qe
  have w2:IntKind.i64.wrap ((i:Int)+1)=((i+1:Nat):Int):=qj
  have i1:=ih (i+1) (Z++uv n.toNat) qe qi
  have e:Z++((E.drop i).map fun n=>uv n.toNat).flatten=Z++uv n.toNat++((E.drop (i+1)).map fun n=>uv n.toNat).flatten:=by rw[ed];simp
  rw[e,<-i1,qmh]
  clear i1 e
  generalize((i+1:Nat):Int)=I at*
  generalize uv n.toNat=U at*
  generalize LI .u32 E=EE at*
  have gz:∀n,Nat.add 0 n=n:=fun n=>znf n
  have hlt2:(i:Int)<6:=qe
  simp[hlt,hlt2,ix,g,u4,u1,u3,w2]
theorem qf9(K:Int)(g:Gs)(k:Nat)(hK:0<=K/\K<256)(gw:g.W)(hn:JG g.nf.L=0)(hlen:g.L.length<=200)(hp:Hp):
 run cxX 29 [.sc (.int .i64 K),.sc (.int .u32 g.M),.agg [.sc (.int .u32 g.e0),.sc (.int .u32 g.e1),.sc (.int .u32 g.e2),.sc (.int .u32 g.e3),.sc (.int .u32 g.e4),.sc (.int .u32 g.e5)],fl g.lo,fl g.hi,S k 1 (LF g.L)] hp=
  some (S 1 1 (LI .u8 (yD K g.nf)),hp):=by
 have p:=gw.pos
 obtain⟨m1,m2,m3,m4⟩:=Zy g.M p.1 [K] qg
 have hE:∀n∈[g.e0,g.e1,g.e2,g.e3,g.e4,g.e5],zx n:=by
  intro n hn
  simp only[zm9,zq7,or_false]at hn
  rcases hn with e|e|e|e|e|e<;>rw[e]
  ·exact p.2.1
  ·exact p.2.2.1
  ·exact p.2.2.2.1
  ·exact p.2.2.2.2.1
  ·exact p.2.2.2.2.2.1
  ·exact p.2.2.2.2.2.2
 have u2:=(Zy g.e0 p.2.1 [] qg).2.1
 have u3:=(Zy g.e1 p.2.2.1 [] qg).2.1
 have u4:=(Zy g.e2 p.2.2.2.1 [] qg).2.1
 have u5:=(Zy g.e3 p.2.2.2.2.1 [] qg).2.1
 have u6:=(Zy g.e4 p.2.2.2.2.2.1 [] qg).2.1
 have u7:=(Zy g.e5 p.2.2.2.2.2.2 [] qg).2.1
 have ed:=qnm k (S k 1 (LF g.L)) (.float .f64 g.lo) (.float .f64 g.hi) [g.e0,g.e1,g.e2,g.e3,g.e4,g.e5] hE rfl hp 6 0 ([K]++uv g.M.toNat) rfl qi
 have klo:=JZ g.lo gw.lo hp0
 have khi:=JZ g.hi gw.hi hp0
 have llo:=Qm g.lo gw.lo
 have lhi:=Qm g.hi gw.hi
 have ulo:=jx (kw g.lo) llo hp0
 have uhi:=jx (kw g.hi) lhi hp0
 have nlo:=qD llo
 have nhi:=qD lhi
 have wK:IntKind.u8.wrap K=K:=zA hK.1 hK.2
 have e0:LI .u8 [K]=[.sc (.int .u8 K)]:=rfl
 have wl:IntKind.u8.wrap (g.L.length:Int)=(g.L.length:Int):=zA qe qe
 have el:[g.e0,g.e1,g.e2,g.e3,g.e4,g.e5].drop 0=[g.e0,g.e1,g.e2,g.e3,g.e4,g.e5]:=rfl
 rw[el]at ed
 simp only[zoa,zpu,zq1,List.flatten_nil,zns]at ed
 have e1:yD K g.nf=[K]++uv g.M.toNat++(uv g.e0.toNat++(uv g.e1.toNat++(uv g.e2.toNat++(uv g.e3.toNat++(uv g.e4.toNat++uv g.e5.toNat)))))++uv (kw g.lo)++uv (kw g.hi)++[(g.L.length:Int)]++jN 0 (g.L.map kw):=by
  unfold yD Gs.nf
  simp
 have lE:([K]++uv g.M.toNat++(uv g.e0.toNat++(uv g.e1.toNat++(uv g.e2.toNat++(uv g.e3.toNat++(uv g.e4.toNat++uv g.e5.toNat)))))).length<=71:=qi
 rw[e1]
 generalize [K]++uv g.M.toNat++(uv g.e0.toNat++(uv g.e1.toNat++(uv g.e2.toNat++(uv g.e3.toNat++(uv g.e4.toNat++uv g.e5.toNat)))))=Z at*
 have a1:=yK .u8 Z 1 (.inl rfl) 1 qh 2 (uv (kw g.lo)) qe
 have a2:=yK .u8 (Z++uv (kw g.lo)) 1 (.inl rfl) 1 qh 2 (uv (kw g.hi)) qi
 have a3:=qk8 .u8 (Z++uv (kw g.lo)++uv (kw g.hi)) 1 (.inl rfl) 1 qh (g.L.length:Int) qi
 have nf:zO (0::g.L.map kw):=jI (ZB hn)
 have lp:=qi3 g.L gw.L qe k hp g.L 0 0 (Z++uv (kw g.lo)++uv (kw g.hi)++[(g.L.length:Int)]) rfl nf qh qi
 have ll:(LF g.L).length=g.L.length:=by simp[LF]
 have b3:B29_3 (.float .f64 g.lo) (.float .f64 g.hi) (S k 1 (LF g.L)) (S 1 1 (LI .u8 Z)) (.int .i64 6) (LI .u32 [g.e0,g.e1,g.e2,g.e3,g.e4,g.e5]) hp=some (S 1 1 (LI .u8 (Z++uv (kw g.lo)++uv (kw g.hi)++[(g.L.length:Int)]++jN 0 (g.L.map kw))),hp):=by
  rw[<-lp,qmh]
  clear ed lp e1
  generalize LF g.L=LL at*
  generalize uv (kw g.lo)=U1 at*
  generalize uv (kw g.hi)=U2 at*
  simp only[znq]at a1 a2 a3⊢
  simp[klo,ulo,a1,khi,uhi,a2,ll,wl,a3]
 rw[b3]at ed
 have es:LI .u32 [g.e0,g.e1,g.e2,g.e3,g.e4,g.e5]=[.sc (.int .u32 g.e0),.sc (.int .u32 g.e1),.sc (.int .u32 g.e2),.sc (.int .u32 g.e3),.sc (.int .u32 g.e4),.sc (.int .u32 g.e5)]:=rfl
 rw[es]at ed
 rw[e0]at m3
 rw[E29]
 generalize [K]++uv g.M.toNat=Z0 at*
 generalize LF g.L=LL at*
 generalize Z++uv (kw g.lo)++uv (kw g.hi)++[(g.L.length:Int)]++jN 0 (g.L.map kw)=ZZ at*
 simp at ed
 simp[wK,m4,m1,m3,ed]
theorem QJ{x:SkN}{v:AV}(hv:yf x v)(f:Fine x)(h64:H64 x)(hp:Hp):∃t,run cxX 12 [v] hp=some (S t 1 (LI .u8 (qE x)),hp)/\(t=1\/t=2):=by
 obtain⟨g,a,b,c,d,e,t,gw,gn,rfl⟩:=hv
 have kd:=(zh.mp f.c).1
 have hk:=f.w.kind
 have six:x.kind=0\/x.kind=1\/x.kind=2\/x.kind=3\/x.kind=4\/x.kind=5:=qe
 unfold qE
 rw[E12]
 rcases six with k|k|k|k|k|k
 ·rw[if_pos k]
  obtain⟨s1,s2,s3,s4⟩:=Qe f k
  have r1:=fun q=>qib (tn x.set) s3 s2 qi q hp0
  rw[s4]at r1
  have r2:∀q,run cxX 24 [S q 1 (LI .u32 x.set)] hp0=some (S 2 1 (LI .u8 (jW (jR (tn x.set)))),hp0):=by
   intro q;rw[E24];simp[r1]
  refine⟨2,?_,.inr rfl⟩
  generalize jW (jR (tn x.set))=Y at*
  simp[wo,k,ql,qs,r2]
 ·rw[if_neg qe,if_pos k]
  obtain⟨s0,s1,s2,s3,s4⟩:=vn f k h64
  have r1:=fun q=>qic (tn x.hs) q (by simp;exact s1) s3 s2 hp0
  rw[s4]at r1
  have hu:=qD (n:=x.K.toNat) qe
  have u:=jx x.K.toNat qe hp0
  rw[zos qe]at u
  have hl:=kA (l:=tn x.hs) (by simp;exact s1) s3
  have ap:=yK .u8 (uv x.K.toNat) 2 (.inr rfl) 1 qh 2 (zi (tn x.hs)) qe
  have wK:IntKind.u64.wrap x.K=x.K:=qu qe qe
  have r2:∀q,run cxX 25 [.sc (.int .i64 x.K),S q 1 (LI .u64 x.hs)] hp0=some (S 2 1 (LI .u8 (uv x.K.toNat++zi (tn x.hs))),hp0):=by
   intro q
   rw[E25]
   generalize uv x.K.toNat=U at*
   generalize zi (tn x.hs)=Y at*
   simp[wK,u,r1,ap]
  refine⟨2,?_,.inr rfl⟩
  generalize uv x.K.toNat++zi (tn x.hs)=Y at*
  simp[wo,k,ql,qs,r2]
 ·rw[if_neg qe,if_neg qe,if_pos k]
  obtain⟨s0,s1,s2,s3,s4⟩:=vq f k
  have r1:=fun q=>qif (tn x.rg) q qi s3 hp0
  rw[s4]at r1
  have hl:=Za (l:=tn x.rg) qi s3
  have ap:=yK .u8 [x.P] 1 (.inl rfl) 1 qh 0 (jh (tn x.rg)) qi
  have wK:IntKind.u8.wrap x.P=x.P:=zA qe qe
  have e1:LI .u8 [x.P]=[.sc (.int .u8 x.P)]:=rfl
  have e2:[x.P]++jh (tn x.rg)=x.P::jh (tn x.rg):=rfl
  rw[e1,e2]at ap
  have r2:∀q,run cxX 26 [.sc (.int .i64 x.P),S q 1 (LI .u8 x.rg)] hp0=some (S 1 1 (LI .u8 (x.P::jh (tn x.rg))),hp0):=by
   intro q
   obtain⟨hq,r1⟩:=r1 (rk q)
   rw[E26]
   generalize LI .u8 (x.P::jh (tn x.rg))=Y2 at*
   generalize jh (tn x.rg)=Y at*
   simp[wK,r1,ap]
  refine⟨1,?_,.inl rfl⟩
  generalize x.P::jh (tn x.rg)=Y at*
  simp[wo,k,ql,qs,r2]
 ·rw[if_neg qe,if_neg qe,if_neg qe,if_pos k]
  obtain⟨s0,s9,s1,s2,s3,s4⟩:=ke f k
  have r1:=fun q=>qie (tn x.bs) q qi s3 s2 hp0
  rw[s4]at r1
  have hu:=qD (n:=x.B.toNat) qe
  have u:=jx x.B.toNat qe hp0
  rw[zos qe]at u
  have hl:=kJ (l:=tn x.bs) (by simp;exact s1) s3 s2
  have a1:=qk8 .u8 (uv x.B.toNat) 2 (.inr rfl) 1 qh x.H qe
  have a2:=yK .u8 (uv x.B.toNat++[x.H]) 2 (.inr rfl) 1 qh 2 (zE (tn x.bs)) qi
  have wB:IntKind.u64.wrap x.B=x.B:=qu qe qe
  have wH:IntKind.u8.wrap x.H=x.H:=zA qe qe
  have r2:∀q,run cxX 27 [.sc (.int .i64 x.B),.sc (.int .i64 x.H),S q 1 (LI .u32 x.bs)] hp0=some (S 2 1 (LI .u8 (uv x.B.toNat++[x.H]++zE (tn x.bs))),hp0):=by
   intro q
   rw[E27]
   generalize LI .u8 (uv x.B.toNat++[x.H]++zE (tn x.bs))=Y3 at*
   generalize LI .u8 (uv x.B.toNat++[x.H])=Y2 at*
   generalize uv x.B.toNat=U at*
   generalize zE (tn x.bs)=Y at*
   simp[wB,u,wH,a1,r1,a2]
  refine⟨2,?_,.inr rfl⟩
  generalize uv x.B.toNat++[x.H]++zE (tn x.bs)=Y at*
  simp[wo,k,ql,qs,r2]
 ·rw[if_neg qe,if_neg qe,if_neg qe,if_neg qe,if_pos k]
  obtain⟨s0,s1,s2,s3⟩:=vr f k
  have r2:=fun q=>qm2 x.R x.C qe s1 x.cs qe f.w.cs q hp0
  refine⟨1,?_,.inl rfl⟩
  generalize [x.R]++uv x.C.toNat++zV x.C x.cs 0 0=Y at*
  simp[wo,k,ql,qs,r2]
 ·rw[if_neg qe,if_neg qe,if_neg qe,if_neg qe,if_neg qe]
  obtain⟨s0,s1,s2⟩:=xV f k
  have hl:g.L.length<=16:=by rw[<-gn]at s2;simpa[Gs.nf]using s2
  have r2:=fun q=>qf9 x.gK g q ⟨qe,qe⟩ gw (by rw[gn];exact s1) qe hp0
  rw[gn]at r2
  refine⟨1,?_,.inl rfl⟩
  generalize yD x.gK x.g=Y at*
  simp[wo,k,ql,qs,qp,qo,r2]
theorem zgb{x y:SkN}{r r':AV}(hv:yf x r)(hu:yf y r')(fx:Fine x)(fy:Fine y)(hx:H64 x)(hy:H64 y)(hl:jT x y=true)(k1 k2:Nat)(M:AV)(hro:AI.ro M=M)(hp H1 H2 H3:Hp)(e3:Int)
 (t1:run cxX 21 [.sc (.int .u8 x.kind),S (rk k1) 1 (LI .u8 (qE x)),M] hp=some (.tup [r,.sc (.int .i64 0)],H1))
 (t2:run cxX 21 [.sc (.int .u8 x.kind),S (rk k2) 1 (LI .u8 (qE y)),M] H1=some (.tup [r',.sc (.int .i64 0)],H2))
 (mt:run cxX 30 [M,.sc (.int .i64 ((byM x y).length:Int))] H2=some (.sc (.int .i64 e3),H3)):
 ∃t,run cxX 13 [.sc (.int .u8 x.kind),S k1 1 (LI .u8 (qE x)),S k2 1 (LI .u8 (qE y)),M] hp=
  if(zM x y).2=0/\e3=0 then some (.tup [S t 1 (LI .u8 (byM x y)),.sc (.int .i64 0)],H3)
  else if(zM x y).2=0 then some (.tup [S 2 1 [],.sc (.int .i64 e3)],H3)else some (.tup [S 2 1 [],.sc (.int .i64 (zM x y).2)],H2):=by
 obtain⟨L,rfl,l1,l2,lc⟩:=hv.cl
 obtain⟨L',rfl,m1,m2,mc⟩:=hu.cl
 have li:=JY lc.sk mc.sk hp0
 rw[hl]at li
 obtain⟨t,hb,fb⟩:=Wa fx fy (rk k1) (rk k2) hp0 lc.sk mc.sk hx hy hl
 have g23:∀(l:List AV),l.length=23->qp l 0 23=some l:=fun l hl=>XZ l 23 hl
 have lv:=lc.vl;have lr:=lc.ro;have mv:=mc.vl;have mr:=mc.ro
 have ln:=lc.len;have mn:=mc.len
 refine⟨rk (rk t),?_⟩
 rw[E13]
 generalize qE x=Y1 at*
 generalize qE y=Y2 at*
 generalize(zM x y).2=er at*
 generalize byM x y=Z at*
 by_cases he:er=0
 ·by_cases h3:e3=0
  ·simp[-List.map_map,-List.all_map,-List.all_eq_true,hro,t1,t2,l1,l2,m1,m2,vm,g23,lr,mr,lv,mv,ln,mn,li,fb,he,h3,mt]
  ·simp[-List.map_map,-List.all_map,-List.all_eq_true,hro,t1,t2,l1,l2,m1,m2,vm,g23,lr,mr,lv,mv,ln,mn,li,fb,he,h3,mt]
 ·simp[-List.map_map,-List.all_map,-List.all_eq_true,hro,t1,t2,l1,l2,m1,m2,vm,g23,lr,mr,lv,mv,ln,mn,li,fb,he,mt]
theorem qp8{x y:SkN}{v u:AV}(hv:yf x v)(hu:yf y u)(fx:Fine x)(fy:Fine y)(hx:H64 x)(hy:H64 y)(hl:jT x y=true)(k1 k2:Nat)(hp:Hp):
 ∃t hp',run cxX 13 [.sc (.int .u8 x.kind),S k1 1 (LI .u8 (qE x)),S k2 1 (LI .u8 (qE y)),.sc (.pointer none)] hp=some (.tup [S t 1 (LI .u8 (byM x y)),.sc (.int .i64 (zM x y).2)],hp'):=by
 obtain⟨r,H1,i1,t1,_⟩:=qh5 hv fx hx (rk k1) (.sc (.pointer none)) rfl hp hp (wT _ hp)
 obtain⟨r',H2,i2,t2,_⟩:=qh5 hu fy hy (rk k2) (.sc (.pointer none)) rfl H1 H1 (wT _ H1)
 rw[<-Jt hl]at t2
 obtain⟨t,fm⟩:=zgb i1 i2 fx fy hx hy hl k1 k2 (.sc (.pointer none)) rfl hp H1 H2 H2 0 t1 t2 (wT _ H2)
 by_cases h:(zM x y).2=0
 ·rw[if_pos ⟨h,rfl⟩]at fm
  rw[h]
  exact⟨t,H2,fm⟩
 ·rw[if_neg (fun q=>h q.1),if_neg h]at fm
  have e:byM x y=[]:=if_neg h
  rw[e]
  exact⟨2,H2,fm⟩
theorem qj7:H64 skZ:=by intro n hn;cases hn
theorem qcv:qE skZ=[0]:=by
 have e:qE skZ=uv 0++[]:=rfl
 rw[e,uv]
 rfl
theorem qix(hp:Hp):∃hp',run cxX 9 [] hp=some (.sc (.bool true),hp'):=by
 obtain⟨t,hp',fm⟩:=qp8 vp vp vx vx qj7 qj7 (qda _) 0 0 hp
 have e:byM skZ skZ=[0]:=by
  unfold byM
  rw[KN vx,if_pos rfl,qn5 vx qh qh,qcv]
 have e2:(zM skZ skZ).2=0:=by rw[KN vx]
 rw[e,e2,qcv]at fm
 refine⟨hp',?_⟩
 have k0:skZ.kind=0:=rfl
 rw[k0]at fm
 have f':run cxX 13 [.sc (.int .u8 0),S 0 1 [.sc (.int .u8 0)],S 0 1 [.sc (.int .u8 0)],.sc (.pointer none)] hp=some (.tup [S t 1 (LI .u8 [0]),.sc (.int .i64 0)],hp'):=fm
 rw[E9]
 simp[f']
 rfl
theorem qsw(s t:Sm)(k1 k2 k3 k4:Nat)(oks:s.Ok)(okt:t.Ok)(hs:s.hs.length<=40/\s.fl.length<=40)(ht:t.hs.length<=40/\t.fl.length<=40)(hp:Hp):
 ∃A B,(A.length=23/\A.all vl=true/\Cl (ya s) (A.map ro1))/\(B.length=23/\B.all vl=true/\Cl (ya {t with kind:=s.kind,A:=s.A,B:=s.B,wide:=s.wide}) (B.map ro1))/\run cxX 11 [smA s k1 k2,smA t k3 k4] hp=some (.tup [.agg A,.agg B],hp):=by
 have okt2:Sm.Ok {t with kind:=s.kind,A:=s.A,B:=s.B,wide:=s.wide}:=⟨oks.kind,oks.A,oks.B,oks.wide,okt.hs,okt.fl⟩
 obtain⟨r,hr,e⟩:=VT s (rk k1) (rk k2) oks hs.1 hs.2 hp0
 obtain⟨r',hr',e'⟩:=VT {t with kind:=s.kind,A:=s.A,B:=s.B,wide:=s.wide} (rk k3) (rk k4) okt2 ht.1 ht.2 hp0
 obtain⟨A,rfl,la,va,ca⟩:=hr.cl
 obtain⟨B,rfl,lb,vb,cb⟩:=hr'.cl
 refine⟨A,B,⟨la,va,ca⟩,⟨lb,vb,cb⟩,?_⟩
 rw[E11]
 have gS7:∀(a b c d e f g:AV),qp [a,b,c,d,e,f,g] 0 7=some [a,b,c,d,e,f,g]:=fun _ _ _ _ _ _ _=>rfl
 have p0:∀(a b c d e f g x:AV),qo [a,b,c,d,e,f,g] 0 [x]=some [x,b,c,d,e,f,g]:=fun _ _ _ _ _ _ _ _=>rfl
 have p1:∀(a b c d e f g x:AV),qo [a,b,c,d,e,f,g] 1 [x]=some [a,x,c,d,e,f,g]:=fun _ _ _ _ _ _ _ _=>rfl
 have p2:∀(a b c d e f g x:AV),qo [a,b,c,d,e,f,g] 2 [x]=some [a,b,x,d,e,f,g]:=fun _ _ _ _ _ _ _ _=>rfl
 have p3:∀(a b c d e f g x:AV),qo [a,b,c,d,e,f,g] 3 [x]=some [a,b,c,x,e,f,g]:=fun _ _ _ _ _ _ _ _=>rfl
 have g23:∀(l:List AV),l.length=23->qp l 0 23=some l:=fun l hl=>XZ l 23 hl
 simp[-List.map_map,-List.all_map,-List.all_eq_true,ql,p0,p1,p2,p3,gS7,e,e',g23,vm,la,lb,va,vb,ca.vl,ca.ro,cb.vl,cb.ro,ca.len,cb.len]
end Go.Proofs.YtmajcennjgjlnaaGreat.AI
namespace Go.Proofs.YtmajcennjgjlnaaGreat.AI
open Go Go.RowKit Go.ChangeShapes Go.WideShapes Go.ChangeAt
set_option linter.unusedVariables false
set_option linter.unusedSimpArgs false
theorem vlP:∀(l:List (Int×Int)) (x:AV),x∈LP l->vl x=true
 |[],x,h=>by cases h
 |p::l,x,h=>by
  simp only[LP,zm9]at h
  rcases h with rfl|rfl|h
  ·rfl
  ·rfl
  ·exact vlP l x h
def VP:List (Int×Int)->List Value
 |[]=>[]
 |p::l=>.int .u64 p.1::.int .u8 p.2::VP l
theorem zhm:∀l,(VP l).length=2*l.length
 |[]=>rfl
 |p::l=>by simp only[VP,zm5,zhm l];omega
theorem zhp:∀(l:List (Int×Int)) (i:Nat) (v:Value),(VP l)[i]?=some v->∃p,l[i/2]?=some p/\v=if i%2=0 then .int .u64 p.1 else .int .u8 p.2
 |[],i,v,h=>by simp[VP]at h
 |p::l,0,v,h=>by
  simp only[VP,zpa,zq3]at h
  exact⟨p,rfl,by simp[h]⟩
 |p::l,1,v,h=>by
  simp only[VP,zoz,zpa,zq3]at h
  exact⟨p,rfl,by simp[h]⟩
 |p::l,i+2,v,h=>by
  simp only[VP,zoz]at h
  obtain⟨q,h1,h2⟩:=zhp l i v h
  refine⟨q,?_,?_⟩
  ·rw[show(i+2)/2=i/2+1 by omega,zoz];exact h1
  ·rw[show(i+2)%2=i%2 by omega];exact h2
theorem zhf:∀(l:List (Int×Int)) (i:Nat) (x:AV) (v:Value),(LP l)[i]?=some x->(VP l)[i]?=some v->x= .sc v/\v.oneCell'=true
 |[],i,x,v,h,_=>by simp[LP]at h
 |p::l,0,x,v,h,h'=>by
  simp only[LP,VP,zpa,zq3]at h h'
  subst h h'
  exact⟨rfl,rfl⟩
 |p::l,1,x,v,h,h'=>by
  simp only[LP,VP,zoz,zpa,zq3]at h h'
  subst h h'
  exact⟨rfl,rfl⟩
 |p::l,i+2,x,v,h,h'=>by
  simp only[LP,VP,zoz]at h h'
  exact zhf l i x v h h'
section
variable {H:Type}{enc:TypeId×Value->H}{P:Program}{W:World}{fuel:Nat}{t e tu t8:TypeId}{cs:List Value}{y:DataW H×List MemPlace}{fs:Array Field}
theorem rd_pairs{f0 f1:Field}(ht:P.underlying t=some (.slice e))(he:P.underlying e=some (.struct #[f0,f1])) (h0:P.underlying f0.type=some (.int .u64)) (h1:P.underlying f1.type=some (.int .u8))
 (o0:f0.offset=0) (o1:f1.offset=1) (hc:P.cellsOf e=2) (c0:P.cellsOf f0.type=1) (c1:P.cellsOf f1.type=1) (h:DataW.trod enc P W 0 (fun _=>true) true fuel t cs=some y):
 ∃k l v,cs=[v]/\RelR (WN W) W (S k 2 (LP l)) v/\∀p∈l,InI p:=by
 rcases DataW.trod_slice ht h with⟨hcs,_⟩|⟨a,len,cap,elems,rest,n,_,hcs,_,_,hl,_,hlen,hel,_,_⟩
 ·exact⟨2,[],_,hcs,.sc nil0 rfl,qg⟩
 ·have each:∀i,i<len->∃p:Int×Int,InI p/\W.cell? (a.add (i*2))=some (.int .u64 p.1)/\W.cell? (a.add (i*2+1))=some (.int .u8 p.2):=by
   intro i hi
   have hb:=hel i hi
   rw[znb qe,hc,Option.bind_eq_some_iff]at hb
   obtain⟨cs',hcs',hy'⟩:=hb
   obtain⟨xs,m,_,_,hcl,hxl,hf⟩:=DataW.trod_struct he hy'
   have g0:=hf 0 f0 rfl
   have g1:=hf 1 f1 rfl
   rw[o0,c0]at g0
   rw[o1,c1]at g1
   rw[hc]at hcl
   obtain⟨y0,hy0⟩:∃y,xs[0]?=some y:=⟨_,znb (by rw[hxl];simp)⟩
   obtain⟨y1,hy1⟩:∃y,xs[1]?=some y:=⟨_,znb (by rw[hxl];simp)⟩
   rw[hy0]at g0
   rw[hy1]at g1
   obtain⟨n0,q0,w0⟩:=rd_int h0 g0
   obtain⟨n1,q1,w1⟩:=rd_int h1 g1
   have z0:=cell_at q0
   have z1:=cell_at q1
   have hc3:=(World.cells?_some hcs').2.2
   refine⟨(n0,n1),⟨w0.u64,w1.u8⟩,?_,?_⟩
   ·have:=hc3 0 qe
    rw[Addr.add_add,zot]at this
    rw[this];exact z0
   ·have:=hc3 1 qe
    rw[Addr.add_add]at this
    rw[this];exact z1
  have ch:∃f:Nat->Int×Int,∀i,i<len->InI (f i)/\W.cell? (a.add (i*2))=some (.int .u64 (f i).1)/\W.cell? (a.add (i*2+1))=some (.int .u8 (f i).2):=by
   refine⟨fun i=>if hi:i<len then(each i hi).choose else(0,0),fun i hi=>?_⟩
   simp only[dif_pos hi]
   exact(each i hi).choose_spec
  obtain⟨f,hf⟩:=ch
  have hg:∀(i:Nat) (p:Int×Int),((List.range len).map f)[i]?=some p->i<len/\p=f i:=by
   intro i p hp
   rw[zno,zqi]at hp
   obtain⟨j,hj,rfl⟩:=hp
   obtain⟨h1,h2⟩:=zne.mp hj
   simp at h1 h2
   subst h2
   exact⟨h1,rfl⟩
  refine⟨0,(List.range len).map f,_,hcs,?_,?_⟩
  ·have:=zcb (W:=W) (a:=a) (n:=len) (cap:=cap) (sz:=2) (cs:=LP ((List.range len).map f)) (vs:=VP ((List.range len).map f)) qe (by rw[qjx];simp;omega) (by rw[qjx,zhm]) hl
    (fun i v hv=>by
     obtain⟨p,hp,rfl⟩:=zhp _ i v hv
     obtain⟨hi,rfl⟩:=hg _ _ hp
     obtain⟨_,q0,q1⟩:=hf _ hi
     by_cases hm:i%2=0
     ·rw[if_pos hm,<-q0]
      congr 2
      omega
     ·rw[if_neg hm,<-q1]
      congr 2
      omega)
    (fun x hx=>vlP _ x hx)
    (fun i x v hx hv=>by
     obtain⟨rfl,ho⟩:=zhf _ i x v hx hv
     exact .sc _ ho)
   exact this (fun _=>.fr)
  ·intro p hp
   obtain⟨i,hi,rfl⟩:=zn3.mp hp
   exact(hf i (by simpa using hi)).1
end
end Go.Proofs.YtmajcennjgjlnaaGreat.AI
namespace Go.Proofs.YtmajcennjgjlnaaGreat.AI
open Go
set_option linter.unusedVariables false
set_option linter.unusedSimpArgs false
set_option maxRecDepth 100000
set_option maxHeartbeats 0
theorem qkf(a b c d e f g:AV):qp [a,b,c,d,e,f,g] 0 7=some [a,b,c,d,e,f,g]:=rfl
theorem VZ(s t:Sm)(k1 k2 k3 k4:Nat)(oks:s.Ok)(okt:t.Ok)(hp:Hp):∃hp',run cxX 7 [smA s k1 k2,smA t k3 k4] hp=some (.sc (.bool true),hp'):=by
 have li:=fun k k' hp=>qcf s k k' hp
 have li':=fun k k' hp=>qcf t k k' hp
 obtain⟨ha,aw⟩:=qix hp0
 have b4:B7_4 hp=some (.sc (.bool true),hp):=zg6 hp
 rw[E7]
 by_cases hs:s.hs.length<=40/\s.fl.length<=40
 ·simp only[eq_true hs,decide_true]at li
  by_cases ht:t.hs.length<=40/\t.fl.length<=40
  ·simp only[eq_true ht,decide_true]at li'
   have okt2:Sm.Ok {t with kind:=s.kind,A:=s.A,B:=s.B,wide:=s.wide}:=⟨oks.kind,oks.A,oks.B,oks.wide,okt.hs,okt.fl⟩
   have fx:=YG s oks hs.1 hs.2
   have fy:=YG _ okt2 ht.1 ht.2
   have hx:=KH s oks
   have hy:=KH _ okt2
   have lab:=qf6 s _ oks okt2 rfl rfl rfl rfl
   obtain⟨A,B,⟨la,va,ca⟩,⟨lb,vb,cb⟩,al⟩:=qsw s t (rk k1) (rk k2) (rk k3) (rk k4) oks okt hs ht hp0
   generalize ya s=x at*
   generalize ya {t with kind:=s.kind,A:=s.A,B:=s.B,wide:=s.wide}=y at*
   have hk:=Jt lab
   obtain⟨r,hr,em⟩:=qh6 ca.sk cb.sk fx.W2 fy.W2 hp0
   obtain⟨M,rfl,ml,mv,mc⟩:=hr.cl
   obtain⟨t1,b1,_⟩:=QJ ca.sk fx hx hp0
   obtain⟨t2,b2,_⟩:=QJ cb.sk fy hy hp0
   obtain⟨u1,h1,m1⟩:=qp8 ca.sk cb.sk fx fy hx hy lab (rk t1) (rk t2) hp
   obtain⟨u2,h2,m2⟩:=Wa fx fy (rk t1) (rk t2) hp0 ca.sk cb.sk hx hy lab
   refine⟨h1,?_⟩
   have g23:∀(l:List AV),l.length=23->qp l 0 23=some l:=fun l hl=>XZ l 23 hl
   have k0:ql A 0=some (.int .u8 x.kind):=(qub A 0).symm.trans ca.k0
   have k0':=ca.k0
   have avl:=ca.vl;have aro:=ca.ro;have bvl:=cb.vl;have bro:=cb.ro;have aln:=ca.len;have bln:=cb.len
   have mvl:=mc.vl;have mro:=mc.ro;have mln:=mc.len
   have b5:B7_5 [.sc (.int .u8 s.kind),.sc (.int .u8 s.A),.sc (.int .u8 s.B),.sc (.int .u16 s.wide),.sc (.bool s.few),S (rk k1) 1 (LI .u64 s.hs),S (rk k2) 2 (LP s.fl)] [.sc (.int .u8 t.kind),.sc (.int .u8 t.A),.sc (.int .u8 t.B),.sc (.int .u16 t.wide),.sc (.bool t.few),S (rk k3) 1 (LI .u64 t.hs),S (rk k4) 2 (LP t.fl)] hp=some (.sc (.bool true),h1):=by
    rw[zg5]
    unfold smA at al
    by_cases e0:(zM x y).2=0
    ·have fm:=qjq fx fy
     have hm:=qn8 fx fy lab hx hy e0
     obtain⟨t3,b3,_⟩:=QJ mc.sk fm hm hp0
     have eb:byM x y=qE (zM x y).1:=if_pos e0
     rw[eb]at m1 m2
     rw[e0]at m1 m2 em
     generalize qE (zM x y).1=Z at*
     generalize qE x=Y1 at*
     generalize qE y=Y2 at*
     simp[-List.map_map,-List.all_map,-List.all_eq_true,qkf,al,la,lb,va,vb,avl,aro,bvl,bro,aln,bln,vm,g23,k0,k0',em,ml,mv,mvl,mro,mln,b1,b2,b3,m1,m2]
    ·have eb:byM x y=[]:=if_neg e0
     rw[eb]at m1 m2
     generalize(zM x y).2=er at*
     generalize qE x=Y1 at*
     generalize qE y=Y2 at*
     simp[-List.map_map,-List.all_map,-List.all_eq_true,qkf,al,la,lb,va,vb,avl,aro,bvl,bro,aln,bln,vm,g23,k0,k0',em,ml,mv,mvl,mro,mln,b1,b2,m1,m2,e0]
   simp[li,li',aw,qkf,b5]
  ·simp only[eq_false ht,decide_false]at li'
   exact⟨hp,by simp[li,li',aw,qkf,b4]⟩
 ·simp only[eq_false hs,decide_false]at li
  exact⟨hp,by simp[li,aw,qkf,b4]⟩
theorem law_FuseMerges(a:Int)(wa:Vk .u8 a)(b:Int)(wb:Vk .u8 b)(c:Int)(wc:Vk .u8 c)(d:Int)(wd:Vk .u16 d)(f:Bool)(k:Nat)(l:List Int)(wl:∀n∈l,Vk .u64 n)(k':Nat)(m:List (Int×Int))(wm:∀p∈m,InI p)
 (a2:Int) (wa2:Vk .u8 a2) (b2:Int) (wb2:Vk .u8 b2) (c2:Int) (wc2:Vk .u8 c2) (d2:Int) (wd2:Vk .u16 d2) (f2:Bool) (k2:Nat) (l2:List Int) (wl2:∀n∈l2,Vk .u64 n) (k2':Nat) (m2:List (Int×Int)) (wm2:∀p∈m2,InI p) (hp:Hp):
 ∃hp',run cxX 7 [.agg [.sc (.int .u8 a),.sc (.int .u8 b),.sc (.int .u8 c),.sc (.int .u16 d),.sc (.bool f),S k 1 (LI .u64 l),S k' 2 (LP m)],.agg [.sc (.int .u8 a2),.sc (.int .u8 b2),.sc (.int .u8 c2),.sc (.int .u16 d2),.sc (.bool f2),S k2 1 (LI .u64 l2),S k2' 2 (LP m2)]] hp=some (.sc (.bool true),hp'):=
 VZ ⟨a,b,c,d,f,l,m⟩ ⟨a2,b2,c2,d2,f2,l2,m2⟩ k k' k2 k2' ⟨wa.u8,wb.u8,wc.u8,wd.u16,fun n hn=>(wl n hn).u64,wm⟩ ⟨wa2.u8,wb2.u8,wc2.u8,wd2.u16,fun n hn=>(wl2 n hn).u64,wm2⟩ hp
end Go.Proofs.YtmajcennjgjlnaaGreat.AI
