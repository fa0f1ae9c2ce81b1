/- Texts that the proof of BoxClose rests on, part 6. -/
import Derived.Test.YtklejdfghnnafaaGreatQBoxClose4
import Derived.Test.YtklejdfghnnafaaGreatQBoxClose5
import Derived.DataElems
namespace Go.Proofs.YtklejdfghnnafaaGreat.AI
open Go
set_option linter.unusedVariables false
set_option linter.unusedSimpArgs false
set_option maxRecDepth 100000
set_option maxHeartbeats 0
@[simp] theorem qhi(b g o:Nat):vg (.ptr b g o)=some false:=rfl
@[simp] theorem qhj:vg (.sc (.pointer none))=some true:=rfl
@[simp] theorem qi0(b g o:Nat):QB (.ptr b g o)=some ():=rfl
@[simp] theorem qfg(b g o:Nat):qT (.ptr b g o)=some (b,g,o):=rfl
@[simp] theorem ro_ptr(b g o:Nat):ro (.ptr b g o)= .ptr b g o:=rfl
@[simp] theorem qiy(b g o:Nat):ro1 (.ptr b g o)= .ptr b g o:=rfl
@[simp] theorem qgf(b g o:Nat):yn (.ptr b g o)=some ():=rfl
theorem zr(hp:Hp)(b:Nat)(x y:List AV):(hp.put b 0 x).put b 0 y=hp.put b 0 y:=by
 unfold Hp.put
 congr 1
 funext z
 by_cases e:z=b
 ·simp[e]
 ·simp[e]
theorem kD{hp:Hp}{b:Nat}{x:List AV}(h:hp.rd b 0=some x):hp.put b 0 x=hp:=by
 have hg:hp.get b=some (0,x):=by
  unfold Hp.rd at h
  obtain⟨p,hp1,h⟩:=bsm h
  split at h
  ·rename_i e
   cases h
   rw[hp1]
   obtain⟨p1,p2⟩:=p
   have:p1=0:=e.1
   subst this;rfl
  ·cases h
 obtain⟨n,g⟩:=hp
 unfold Hp.put
 congr 1
 funext z
 by_cases e:z=b
 ·subst e;simp only[if_true];exact hg.symm
 ·simp[e]
theorem Vl(hp:Hp){b c:Nat}(x:List AV)(h:c≠b):(hp.put b 0 x).rd c 0=hp.rd c 0:=by
 simp[Hp.rd,Hp.put,h]
theorem Vm(hp:Hp){c:Nat}(x:List AV)(h:c≠hp.next):(hp.new x).rd c 0=hp.rd c 0:=by
 simp[Hp.rd,Hp.new,h]
@[simp] theorem qhk(hp:Hp)(b:Nat)(x:List AV):(hp.put b 0 x).next=hp.next:=rfl
@[simp] theorem qhl(hp:Hp)(x:List AV):(hp.new x).next=hp.next+1:=rfl
abbrev Wc(l:List Int):List AV:=[S 2 1 (LI .u8 l)]
theorem Wy{x:Int}:IntKind.u8.wrap x=x%256:=by rw[IntKind.wrap_u8]
theorem yk(b:Nat)(l:List Int)(c:Int)(hl:l.length<=1000000)(hp:Hp)(h:hp.rd b 0=some (Wc l)):
 run cxX 34 [.ptr b 0 0,.sc (.int .u8 c)] hp=some (.tup [],hp.put b 0 (Wc (l++[c]))):=by
 have ap:=appI .u8 l 2 (.inr rfl) 1 qf c hl
 rw[E34]
 simp[h,zH,ap,qF,qC,zr]
theorem jC(b:Nat)(l m:List Int)(k:Nat)(hl:l.length+m.length<=1000000)(hp:Hp)(h:hp.rd b 0=some (Wc l)):
 run cxX 15 [.ptr b 0 0,S k 1 (LI .u8 m)] hp=some (.tup [],hp.put b 0 (Wc (l++m))):=by
 have ap:=fun k=>Zq .u8 l 2 (.inr rfl) 1 qf k m hl
 rw[E15]
 simp[h,zH,ap,qF,qC,zr]
theorem yz(b:Nat)(l:List Int)(hl:l.length<=1000000)(hp:Hp)(h:hp.rd b 0=some (Wc l)):
 run cxX 21 [.ptr b 0 0] hp=some (S 1 1 (LI .u8 l),hp):=by
 have ap:=fun k=>Zq .u8 [] 1 (.inl rfl) 1 qf k l (by simpa using hl)
 simp at ap
 rw[E21]
 simp[h,zH,ap]
theorem qag:∀x:BitVec 8,(x|||128#8).toNat=x.toNat%128+128:=qf
theorem qhb(n:Nat)(t:TypeId)(x y:Operand):qq Tryz.prog .or t x y (.int .u8 ((n:Int)%256)) (.int .u8 128)=some (.int .u8 ((n%128+128:Nat):Int)):=by
 rw[yc]
 have e1:(BitVec.ofInt 8 ((n:Int)%256)).toNat=n%256:=by
  rw[qkq]
  omega
 have e2:(BitVec.ofInt IntKind.u8.bits ((n:Int)%256)|||BitVec.ofInt IntKind.u8.bits 128).toNat=n%128+128:=by
  show(BitVec.ofInt 8 ((n:Int)%256)|||128#8).toNat=_
  rw[qag,e1]
  omega
 rw[e2,kS qc qc]
theorem shr7(n:Nat)(t:TypeId)(x y:Operand):qq Tryz.prog .shr t x y (.int .u64 (n:Int)) (.int .u64 7)=some (.int .u64 ((n/128:Nat):Int)):=by
 rw[YA _ _ _ _ _ _ _ _ qc]
 congr 2
 rw[Int.fdiv_eq_ediv_of_nonneg _ qf]
 show(n:Int)/128=_
 omega
theorem Xc(b:Nat):∀(n:Nat) (l:List Int) (hp:Hp),n<18446744073709551616->l.length+(uv n).length<=1000000->hp.rd b 0=some (Wc l)->
 B36_0 (.ptr b 0 0) (.int .u64 (n:Int)) hp=some (.tup [],hp.put b 0 (Wc (l++uv n))):=by
 intro n
 induction n using Nat.strongRecOn with
 |_ n ih=>
  intro l hp hn hl h
  rw[qca]
  by_cases h1:n<128
  ·rw[JC h1]at hl⊢
   have hge:¬((n:Int)>=128):=qc
   have hge':¬((128:Int)<=(n:Int)):=qc
   have w:IntKind.u8.wrap (n:Int)=(n:Int):=kS qc qc
   have wb:=yk b l n (by simp at hl;omega) hp h
   simp[hge',w,wb]
  ·rw[Kk h1]at hl⊢
   have hge:(128:Int)<=(n:Int):=qc
   have w:IntKind.u8.wrap (n:Int)=(n:Int)%256:=by rw[Wy]
   have wb:=yk b l ((n%128+128:Nat):Int) (by simp at hl;omega) hp h
   have o:=qhb n
   have s:=shr7 n
   have ih':=ih (n/128) qc (l++[((n%128+128:Nat):Int)]) (hp.put b 0 (Wc (l++[((n%128+128:Nat):Int)]))) qc (by simp at hl⊢;omega) (qF _ _ _)
   rw[zr]at ih'
   generalize((n%128+128:Nat):Int)=c at*
   generalize((n/128:Nat):Int)=d at*
   simp[hge,w,wb,o,s,ih',-yc]
theorem kZ(b n:Nat)(l:List Int)(hn:n<18446744073709551616)(hl:l.length+(uv n).length<=1000000)(hp:Hp)(h:hp.rd b 0=some (Wc l)):
 run cxX 36 [.ptr b 0 0,.sc (.int .u64 (n:Int))] hp=some (.tup [],hp.put b 0 (Wc (l++uv n))):=by
 rw[E36]
 simp[Xc b n l hp hn hl h]
abbrev Rc(k:Nat)(l:List Int)(p:Nat)(e:Int):List AV:=[S k 1 (LI .u8 l),.sc (.int .i64 (p:Int)),.sc (.int .i64 e)]
def rE(e f:Int):Int:=if e=0 then f else e
def rL(l:List Int)(p:Nat)(e:Int):Nat:=if e=0 then l.length-p else 0
theorem QL(k:Nat)(l:List Int)(hp:Hp):run cxX 30 [S k 1 (LI .u8 l)] hp=some (.ptr hp.next 0 0,hp.new (Rc (rk k) l 0 0)):=by
 rw[E30]
 simp[qC]
 rfl
theorem qck(k:Nat)(cs:List AV)(i h:Nat)(hih:i<=h)(hh:h<=cs.length)(hne:cs≠[]):
 zE 1 (S k 1 cs) (some (.int .i64 (i:Int))) (some (.int .i64 (h:Int))) (some (.int .i64 (h:Int)))=some (S 0 1 ((cs.drop i).take (h-i))):=by
 have b1:qx 0 (cs.length:Int) (some (.int .i64 (h:Int))) cs.length=some h:=vt .i64 hh
 have b2:qx 0 (h:Int) (some (.int .i64 (h:Int))) cs.length=some h:=vt .i64 (qji h)
 have b3:qx 0 (h:Int) (some (.int .i64 (i:Int))) 0=some i:=vt .i64 hih
 rcases zi k 1 cs with e|e|⟨e,e'⟩
 ·rw[e]
  simp only[cmb,zE,if_true,b1,b2,b3,qjc,qkf]
  rfl
 ·rw[e]
  simp only[cmb,zE,if_true,b1,b2,b3,qjc,qkf]
  rfl
 ·exact absurd e' hne
section
variable (b k:Nat)(l:List Int)(p:Nat)(e:Int)(hp:Hp)
theorem wv(h:hp.rd b 0=some (Rc k l p e)):run cxX 43 [.ptr b 0 0] hp=some (.sc (.int .i64 e),hp):=by
 rw[E43]
 simp[h,qm]
theorem xv(f:Int)(h:hp.rd b 0=some (Rc k l p e)):run cxX 69 [.ptr b 0 0,.sc (.int .i64 f)] hp=some (.tup [],hp.put b 0 (Rc k l p (rE e f))):=by
 rw[E69]
 unfold rE
 by_cases h0:e=0
 ·subst h0
  simp[h,qm,qby,qC]
 ·simp[h,qm,h0,kD h]
theorem QN(hl:l.length<=1000000000)(hp':p<=l.length)(h:hp.rd b 0=some (Rc k l p e)):run cxX 68 [.ptr b 0 0] hp=some (.sc (.int .i64 (rL l p e:Nat)),hp):=by
 rw[E68]
 unfold rL
 by_cases h0:e=0
 ·subst h0
  have w:IntKind.i64.wrap ((l.length:Int)-(p:Int))=((l.length-p:Nat):Int):=qh
  simp[h,qm,zH,qbz,w]
 ·simp[h,qm,h0,qb0]
def rB(l:List Int)(p:Nat)(e:Int):Int×Nat×Int:=if rL l p e=0 then(0,p,rE e 3)else(l.getD p 0,p+1,e)
theorem va(hl:l.length<=1000000000)(hp':p<=l.length)(h:hp.rd b 0=some (Rc k l p e)):
 run cxX 41 [.ptr b 0 0] hp=some (.sc (.int .u8 (rB l p e).1),hp.put b 0 (Rc k l (rB l p e).2.1 (rB l p e).2.2)):=by
 have lf:=QN b k l p e hp hl hp' h
 rw[E41]
 unfold rB
 by_cases h0:rL l p e=0
 ·have fl:=xv b k l p e hp 3 h
  simp[lf,h0,fl]
 ·have he:e=0:=by
   unfold rL at h0
   by_cases he:e=0
   ·exact he
   ·simp[he]at h0
  subst he
  have hlt:p<l.length:=by unfold rL at h0;simp at h0;omega
  have w:IntKind.i64.wrap ((p:Int)+1)=((p+1:Nat):Int):=qh
  have w2:IntKind.i64.wrap (((p+1:Nat):Int)-1)=(p:Int):=qh
  have w3:IntKind.i64.wrap (p:Int)=(p:Int):=qP qc qc
  simp only[Int.natCast_add,Int.natCast_one]at w w2
  simp[lf,h0,h,qm,zH,w,qC,qF,w2,w3,hlt,Rc]
theorem Xm(n:Nat)(hl:l.length<=1000000000)(hn:n<=1000000000)(hp':p<=l.length)(h:hp.rd b 0=some (Rc k l p e)):
 ∃t,run cxX 40 [.ptr b 0 0,.sc (.int .i64 (n:Int))] hp=
  if rL l p e<n then some (S 2 1 [],hp.put b 0 (Rc k l p (rE e 3)))else if n=0 then some (S 2 1 [],hp)else some (S t 1 (LI .u8 ((l.drop p).take n)),hp.put b 0 (Rc k l (p+n) e)):=by
 have lf:=QN b k l p e hp hl hp' h
 have fl:=xv b k l p e hp 3 h
 have h00:¬((n:Int)<0):=qc
 rw[E40]
 by_cases h0:rL l p e<n
 ·refine⟨0,?_⟩
  simp[h00,lf,h0,qb5,fl]
 ·by_cases h1:n=0
  ·subst h1
   refine⟨0,?_⟩
   have hz:¬((rL l p e:Int)<0):=qc
   simp[lf,hz,YU]
  ·have he:e=0:=by
    unfold rL at h0
    by_cases he:e=0
    ·exact he
    ·simp[he]at h0;omega
   subst he
   have hlt:p+n<=l.length:=by unfold rL at h0;simp at h0;omega
   have w:IntKind.i64.wrap ((p:Int)+(n:Int))=((p+n:Nat):Int):=qh
   have w2:IntKind.i64.wrap (((p+n:Nat):Int)-(n:Int))=(p:Int):=qh
   have sl:=fun k=>qck k (LI .u8 l) p (p+n) qc (by simpa using hlt) (by intro hn0;have:=congrArg List.length hn0;simp at this;subst this;simp at hlt;omega)
   have e1:p+n-p=n:=qc
   simp only[e1,qh1,qg9]at sl
   refine⟨0,?_⟩
   have hz:¬((rL l p 0:Int)<(n:Int)):=qc
   have pn:∀x:AV,qC (Rc k l p 0) 1 [x]=some [S k 1 (LI .u8 l),x,.sc (.int .i64 0)]:=fun x=>rfl
   have hn1:¬((n:Int)=0):=qc
   generalize hq:((p+n:Nat):Int)=q at*
   simp[h00,lf,h0,hz,YU,h1,hn1,h,qm,zH,w,pn,qF,w2,sl,Rc,hq]
theorem WW(hl:l.length<=1000000000)(hp':p<=l.length)(h:hp.rd b 0=some (Rc k l p e)):
 run cxX 55 [.ptr b 0 0] hp=some (.sc (.int .i64 (if e=0/\p<l.length then 15 else e)),hp):=by
 have er:=wv b k l p e hp h
 rw[E55]
 by_cases h0:e=0
 ·subst h0
  by_cases h1:p<l.length
  ·simp[h,qm,zH,h1,qb3]
  ·simp[h,qm,zH,h1,YS,er]
 ·simp[h,qm,h0,YS,er]
end
theorem Wb:∀x:BitVec 8,(x&&&127#8).toNat=x.toNat%128:=qf
theorem qf3(c:Nat)(hc:c<256)(t:TypeId)(x y:Operand):qq Tryz.prog .and t x y (.int .u8 (c:Int)) (.int .u8 127)=some (.int .u8 ((c%128:Nat):Int)):=by
 rw[jS]
 have e1:(BitVec.ofInt 8 (c:Int)).toNat=c:=by
  rw[qkq];omega
 have e2:(BitVec.ofInt IntKind.u8.bits (c:Int)&&&BitVec.ofInt IntKind.u8.bits 127).toNat=c%128:=by
  show(BitVec.ofInt 8 (c:Int)&&&127#8).toNat=_
  rw[Wb,e1]
 rw[e2,kS qc qc]
theorem qe6(n x s:Nat)(hn:n<2^s)(h:n+x*2^s<18446744073709551616)(t:TypeId)(a b:Operand):
 qq Tryz.prog .or t a b (.int .u64 (n:Int)) (.int .u64 ((x*2^s:Nat):Int))=some (.int .u64 ((n+x*2^s:Nat):Int)):=by
 rw[yc]
 generalize hy:x*2^s=y at*
 have e:(BitVec.ofInt IntKind.u64.bits (n:Int)|||BitVec.ofInt IntKind.u64.bits (y:Int)).toNat=n+y:=by
  show(BitVec.ofInt 64 (n:Int)|||BitVec.ofInt 64 (y:Int)).toNat=_
  rw[BitVec.toNat_or,qkq,qkq]
  have e1:((n:Int)%((2^64:Nat):Int)).toNat=n:=qc
  have e2:((y:Int)%((2^64:Nat):Int)).toNat=y:=qc
  rw[e1,e2]
  have:=Nat.two_pow_add_eq_or_of_lt hn x
  rw[qki]at this
  rw[hy]at this
  rw[Nat.or_comm,<-this,Nat.add_comm]
 rw[e,xr qc qc]
def rU(l:List Int)(p:Nat)(e:Int)(most:Nat):Nat×Nat×Int:=
 if e≠0 then(0,p,e)
 else if(gU (l.drop p) 0 0 0).2.2≠0 then(0,p+(gU (l.drop p) 0 0 0).2.1,(gU (l.drop p) 0 0 0).2.2)
 else if most<(gU (l.drop p) 0 0 0).1 then(0,p+(gU (l.drop p) 0 0 0).2.1,7)
 else((gU (l.drop p) 0 0 0).1,p+(gU (l.drop p) 0 0 0).2.1,0)
section
variable (b k:Nat)(l:List Int)(most:Nat)
theorem vb(p:Nat)(e:Int)(he:e≠0)(hp:Hp)(h:hp.rd b 0=some (Rc k l p e))(v:Value)(n s:Int)(c:Int):
 B48_7 (.ptr b 0 0) v (.int .u64 n) (.int .i64 s) (.int .u8 c) hp=some (.sc (.int .u64 0),hp):=by
 have er:=wv b k l p e hp h
 rw[YT]
 simp[er,he]
theorem wA(p:Nat)(e:Int)(hp:Hp)(h:hp.rd b 0=some (Rc k l p e))(v:Value)(n s:Int)(c:Int):
 B48_6 (.ptr b 0 0) v (.int .u64 n) (.int .i64 s) (.int .u8 c) hp=some (.sc (.int .u64 0),hp.put b 0 (Rc k l p (rE e 4))):=by
 have fl:=xv b k l p e hp 4 h
 have e7:=vb b k l p (rE e 4) (by unfold rE;split<;>simp_all) (hp.put b 0 (Rc k l p (rE e 4))) (qF _ _ _) v n s c
 rw[qb4]
 simp[fl,e7]
def uF(most:Nat)(g:Nat×Nat×Int):Nat×Int:=if g.2.2≠0 then(0,g.2.2)else if most<g.1 then(0,7)else(g.1,0)
theorem qct(hm:most<18446744073709551616)(q s n c:Nat)(hp:Hp)(hc:c<256)(hs:s<=63)(hn:n<2^s)(hfit:n+c%128*2^s<18446744073709551616)(h:hp.rd b 0=some (Rc k l q 0)):
 B48_7 (.ptr b 0 0) (.int .u64 most) (.int .u64 n) (.int .i64 s) (.int .u8 c) hp=
  if c<128 then(if most<n+c*2^s then some (.sc (.int .u64 0),hp.put b 0 (Rc k l q 7))else some (.sc (.int .u64 ((n+c*2^s:Nat):Int)),hp))
  else B48_4 (.ptr b 0 0) (.int .u64 most) (.int .u64 ((n+(c-128)*2^s:Nat):Int)) (.int .i64 ((s+7:Nat):Int)) hp:=by
 have er:=wv b k l q 0 hp h
 have fl:=xv b k l q 0 hp 7 h
 have an:=qf3 c hc
 have w:IntKind.u64.wrap ((c%128:Nat):Int)=((c%128:Nat):Int):=xr qc qc
 have sh:∀t x y,qq Tryz.prog .shl t x y (.int .u64 ((c%128:Nat):Int)) (.int .i64 (s:Int))=some (.int .u64 ((c%128*2^s:Nat):Int)):=by
  intro t x y
  rw[YC _ _ _ _ _ _ _ _ qc]
  have e:min (s:Int).toNat IntKind.u64.bits=s:=by
   have:IntKind.u64.bits=64:=rfl
   omega
  rw[e]
  have e2:((c%128:Nat):Int)*2^s=((c%128*2^s:Nat):Int):=qe
  rw[e2,xr qc qc]
 have oo:=qe6 n (c%128) s hn hfit
 have w7:IntKind.i64.wrap ((s:Int)+7)=((s+7:Nat):Int):=qh
 rw[YT]
 by_cases h1:c<128
 ·have e1:c%128=c:=qc
  rw[e1]at an w sh oo
  have hlt:((c:Int)<128):=qc
  rw[if_pos h1]
  by_cases h2:most<n+c*2^s
  ·rw[if_pos h2]
   generalize c*2^s=y at*
   generalize hz:n+y=z at*
   have hlt2:(most:Int)<(z:Int):=qc
   simp[er,an,w,sh,oo,hlt,hlt2,fl,rE,-jS,-yc]
  ·rw[if_neg h2]
   generalize c*2^s=y at*
   generalize hz:n+y=z at*
   have hlt2:¬((most:Int)<(z:Int)):=qc
   simp[er,an,w,sh,oo,hlt,hlt2,-jS,-yc]
 ·have e1:c%128=c-128:=qc
  rw[e1]at an w sh oo
  have hlt:¬((c:Int)<128):=qc
  rw[if_neg h1]
  generalize(c-128)*2^s=y at*
  generalize hz:n+y=z at*
  generalize((c-128:Nat):Int)=c' at*
  generalize((s+7:Nat):Int)=s' at*
  simp[er,an,w,sh,oo,hlt,w7,-jS,-yc]
end
section
variable (b k:Nat)(l:List Int)(most:Nat)
theorem Xq(hm:most<18446744073709551616)(hl:l.length<=1000000000)(h8:∀c∈l,0<=c/\c<256)(p:Nat):∀(r:List Int) (u s n i:Nat) (hp:Hp),l.drop (p+u)=r->p+u<=l.length->s=7*i->i<=9->n<2^s->hp.rd b 0=some (Rc k l (p+u) 0)->
 B48_4 (.ptr b 0 0) (.int .u64 most) (.int .u64 n) (.int .i64 s) hp=some (.sc (.int .u64 ((uF most (gU r s n u)).1:Nat)),hp.put b 0 (Rc k l (p+(gU r s n u).2.1) (uF most (gU r s n u)).2)):=by
 intro r
 induction r with
 |nil=>
  intro u s n i hp hr hpu hs hi hn h
  have hle:=yp hr
  have hb:rB l (p+u) 0=(0,p+u,3):=by
   unfold rB rL rE
   rw[if_pos qg]
   simp
  have rb:=va b k l (p+u) 0 hp hl hpu h
  rw[hb]at rb
  have g:gU [] s n u=(0,u,3):=rfl
  have f:uF most (0,u,3)=(0,3):=rfl
  rw[g,f]
  have e6:=wA b k l (p+u) 3 (hp.put b 0 (Rc k l (p+u) 3)) (qF _ _ _) (.int .u64 most) n s 0
  have e7:=vb b k l (p+u) 3 qf (hp.put b 0 (Rc k l (p+u) 3)) (qF _ _ _) (.int .u64 most) n s 0
  have r34:rE 3 4=3:=rfl
  rw[zr,r34]at e6
  rw[kQ]
  by_cases h63:s=63
  ·subst h63
   simp at e6
   simp[rb,e6]
  ·have hc:¬((s:Int)=63):=qc
   by_cases h0:s=0
   ·subst h0
    simp at e7
    simp[rb,e7]
   ·have hp0:0<s:=qc
    simp[rb,hc,hp0,e6]
 |cons c r ih=>
  intro u s n i hp hr hpu hs hi hn h
  obtain⟨e1,e2,hlt,e3⟩:=jB hr
  have hc8:=h8 c (qjj e1)
  obtain⟨cn,rfl⟩:∃cn:Nat,c=cn:=⟨c.toNat,qc⟩
  have hb:rB l (p+u) 0=((cn:Int),p+u+1,0):=by
   unfold rB rL
   rw[if_neg qg]
   simp[hlt,e3]
  have rb:=va b k l (p+u) 0 hp hl hpu h
  rw[hb]at rb
  have e6:=wA b k l (p+u+1) 0 (hp.put b 0 (Rc k l (p+u+1) 0)) (qF _ _ _) (.int .u64 most) n s cn
  have r34:rE 0 4=4:=rfl
  rw[zr,r34]at e6
  have hs63:s<=63:=qc
  by_cases bad:(s=63/\1<(cn:Int))\/(0<s/\(cn:Int)=0)
  ·have g:gU ((cn:Int)::r) s n u=(0,u+1,4):=by unfold gU;rw[if_pos bad]
   have f:uF most (0,u+1,4)=(0,4):=rfl
   rw[g,f,kQ]
   have hpu1:p+(u+1)=p+u+1:=qc
   rw[hpu1]
   by_cases h63:s=63
   ·subst h63
    by_cases h1:1<cn
    ·have h1':1<(cn:Int):=qc
     simp at e6
     simp[rb,h1',e6]
    ·have hc0:cn=0:=by
      rcases bad with⟨_,h2⟩|⟨_,h2⟩<;>omega
     subst hc0
     simp at e6
     simp[rb,e6]
   ·have hc:¬((s:Int)=63):=qc
    have hz:0<s/\cn=0:=by
     rcases bad with⟨h2,_⟩|⟨h2,h3⟩
     ·exact absurd h2 h63
     ·exact⟨h2,qc⟩
    obtain⟨hz1,hz2⟩:=hz
    subst hz2
    simp at e6
    simp[rb,hc,hz1,e6]
  ·have hfit:n+cn%128*2^s<18446744073709551616:=by
    by_cases h63:s=63
    ·subst h63
     have hc1:¬(1<(cn:Int)):=fun h2=>bad (.inl ⟨rfl,h2⟩)
     have e:(2:Nat)^63=9223372036854775808:=rfl
     rw[e]at hn⊢
     have:cn%128<=1:=qc
     omega
    ·have hs56:s<=56:=qc
     have h7:2^s<=2^56:=Nat.pow_le_pow_right qf hs56
     have e:(2:Nat)^56=72057594037927936:=rfl
     rw[e]at h7
     have:cn%128*2^s<=127*72057594037927936:=qkt qc h7
     omega
   have b7:=qct b k l most hm (p+u+1) s n cn (hp.put b 0 (Rc k l (p+u+1) 0)) qc hs63 hn hfit (qF _ _ _)
   have hpu1:p+(u+1)=p+u+1:=qc
   have step:B48_4 (.ptr b 0 0) (.int .u64 most) (.int .u64 n) (.int .i64 s) hp=B48_7 (.ptr b 0 0) (.int .u64 most) (.int .u64 n) (.int .i64 s) (.int .u8 cn) (hp.put b 0 (Rc k l (p+u+1) 0)):=by
    rw[kQ]
    by_cases h63:s=63
    ·subst h63
     have h1:¬(1<cn):=fun h2=>bad (.inl ⟨rfl,qc⟩)
     have h2:¬(cn=0):=fun h2=>bad (.inr ⟨qc,qc⟩)
     have h1':¬(1<(cn:Int)):=qc
     simp[rb,h1',h2]
    ·have hc:¬((s:Int)=63):=qc
     by_cases h0:s=0
     ·subst h0
      simp[rb]
     ·have hp0:0<s:=qc
      have h2:¬(cn=0):=fun h2=>bad (.inr ⟨qc,qc⟩)
      simp[rb,hc,hp0,h2]
   rw[step,b7]
   by_cases h1:cn<128
   ·have g:gU ((cn:Int)::r) s n u=(n+cn*2^s,u+1,0):=by
     unfold gU;rw[if_neg bad,if_pos qc,qjv]
    rw[if_pos h1,g,zr]
    by_cases h2:most<n+cn*2^s
    ·have f:uF most (n+cn*2^s,u+1,0)=(0,7):=by unfold uF;simp[h2]
     rw[if_pos h2,f]
     simp only[hpu1];rfl
    ·have f:uF most (n+cn*2^s,u+1,0)=(n+cn*2^s,0):=by unfold uF;simp[h2]
     rw[if_neg h2,f]
     simp only[hpu1]
   ·have g:gU ((cn:Int)::r) s n u=gU r (s+7) (n+(cn-128)*2^s) (u+1):=by
     conv=>lhs;unfold gU
     rw[if_neg bad,if_neg qc,qjv]
    have hi9:i+1<=9:=by
     by_cases h63:s=63
     ·exact absurd (.inl ⟨h63,qc⟩) bad
     ·omega
    have hn7:n+(cn-128)*2^s<2^(s+7):=by
     have e:2^(s+7)=128*2^s:=by rw[qli];omega
     rw[e]
     have:(cn-128)*2^s<=127*2^s:=qjr _ qc
     omega
    rw[if_neg h1,g]
    have hh:=ih (u+1) (s+7) (n+(cn-128)*2^s) (i+1) (hp.put b 0 (Rc k l (p+u+1) 0)) (by rw[hpu1];exact e2) qc qc hi9 hn7 (by rw[hpu1];exact qF _ _ _)
    rw[zr]at hh
    exact hh
theorem Va(p:Nat)(e:Int)(hm:most<18446744073709551616)(hl:l.length<=1000000000)(h8:∀c∈l,0<=c/\c<256)(hpl:p<=l.length)(hp:Hp)(h:hp.rd b 0=some (Rc k l p e)):
 run cxX 48 [.ptr b 0 0,.sc (.int .u64 (most:Int))] hp=some (.sc (.int .u64 ((rU l p e most).1:Nat)),hp.put b 0 (Rc k l (rU l p e most).2.1 (rU l p e most).2.2)):=by
 rw[E48]
 by_cases he:e=0
 ·subst he
  have hh:=Xq b k l most hm hl h8 p (l.drop p) 0 0 0 0 hp rfl qc rfl qc qf h
  have er:rU l p 0 most=((uF most (gU (l.drop p) 0 0 0)).1,p+(gU (l.drop p) 0 0 0).2.1,(uF most (gU (l.drop p) 0 0 0)).2):=by
   unfold rU uF
   rw[if_neg qe]
   split
   ·rfl
   ·split<;>rfl
  rw[er]
  simpa using hh
 ·have er:rU l p e most=(0,p,e):=by unfold rU;rw[if_pos he]
  rw[er]
  have hb:rB l p e=(0,p,e):=by
   unfold rB rL rE
   simp[he]
  have rb:=va b k l p e hp hl hpl h
  rw[hb,kD h]at rb
  have e7:=vb b k l p e he hp h (.int .u64 most) 0 0 0
  rw[kD h]
  simp[kQ,rb,e7]
end
def Fm(X:List Nat)(hp hp':Hp):Prop:=hp.next<=hp'.next/\∀c,c<hp.next->c∉X->hp'.get c=hp.get c
theorem Fm.refl(X:List Nat)(hp:Hp):Fm X hp hp:=⟨qji _,fun _ _ _=>rfl⟩
theorem Fm.trans{X:List Nat}{a b c:Hp}(h:Fm X a b)(g:Fm X b c):Fm X a c:=
 ⟨qk2 h.1 g.1,fun x hx hn=>by rw[g.2 x (qjz hx h.1) hn,h.2 x hx hn]⟩
theorem Fm.mono{X Y:List Nat}{a b:Hp}(h:Fm X a b)(hs:∀c,c∈X->c<a.next->c∈Y):Fm Y a b:=
 ⟨h.1,fun c hc hn=>h.2 c hc (fun hx=>hn (hs c hx hc))⟩
theorem rdg{a b:Hp}{c:Nat}(h:b.get c=a.get c):b.rd c 0=a.rd c 0:=by unfold Hp.rd;rw[h]
theorem Fm.rd{X:List Nat}{a b:Hp}(h:Fm X a b){c:Nat}(hc:c<a.next)(hn:c∉X):b.rd c 0=a.rd c 0:=rdg (h.2 c hc hn)
theorem Fm.put{X:List Nat}(hp:Hp)(b:Nat)(x:List AV)(hb:b∈X):Fm X hp (hp.put b 0 x):=
 ⟨qji _,fun c _ hn=>by
  have:c≠b:=fun e=>hn (e▸hb)
  simp[Hp.put,this]⟩
theorem Fm.new(X:List Nat)(hp:Hp)(x:List AV):Fm X hp (hp.new x):=
 ⟨Nat.le_succ _,fun c hc _=>by
  have:c≠hp.next:=qc
  simp[Hp.new,this]⟩
def Bs(nb:Nat)(bs:List Bool):AV:=if bs=[]then S 2 1 []else .ms nb 0 0 (pk bs).length 1
def BW(hp:Hp)(w nb:Nat)(bs:List Bool):Prop:=
 w<hp.next/\(bs=[]->nb=w)/\(bs≠[]->nb<hp.next/\nb≠w/\hp.rd nb 0=some (LI .u8 (pk bs)))/\hp.rd w 0=some [Bs nb bs,.sc (.int .i64 (bs.length:Int))]
theorem BW.new(hp:Hp):BW (hp.new [S 2 1 [],.sc (.int .i64 0)]) hp.next hp.next []:=
 ⟨Nat.lt_succ_self _,fun _=>rfl,fun h=>absurd rfl h,by rw[yG];rfl⟩
theorem BW.fr{hp hp':Hp}{w nb:Nat}{bs:List Bool}{X:List Nat}(h:BW hp w nb bs)(f:Fm X hp hp')(h1:w∉X)(h2:nb∉X):BW hp' w nb bs:=
 ⟨qjz h.1 f.1,h.2.1,fun hb=>⟨qjz (h.2.2.1 hb).1 f.1,(h.2.2.1 hb).2.1,by rw[f.rd (h.2.2.1 hb).1 h2];exact(h.2.2.1 hb).2.2⟩,
  by rw[f.rd h.1 h1];exact h.2.2.2⟩
def BS(hp:Hp)(w nb:Nat)(hp':Hp)(nb':Nat)(l:List Bool):Prop:=BW hp' w nb' l/\Fm [w,nb] hp hp'/\(nb'=nb\/hp.next<=nb')
theorem BS.trans{a b c:Hp}{w n1 n2 n3:Nat}{l m:List Bool}(hw:w<a.next)(h:BS a w n1 b n2 l)(g:BS b w n2 c n3 m):BS a w n1 c n3 m:=by
 refine⟨g.1,⟨qk2 h.2.1.1 g.2.1.1,fun x hx hn=>?_⟩,?_⟩
 ·have hx':=qjz hx h.2.1.1
  simp at hn
  rw[g.2.1.2 x hx' (by simp;refine⟨hn.1,?_⟩;rcases h.2.2 with e|e
                       ·rw[e];exact hn.2
                       ·omega),h.2.1.2 x hx (by simp;exact hn)]
 ·have:=h.2.1.1
  rcases h.2.2 with e|e
  ·rcases g.2.2 with e'|e'
   ·exact .inl (by rw[e',e])
   ·exact .inr qc
  ·rcases g.2.2 with e'|e'
   ·exact .inr qc
   ·exact .inr qc
section
variable (w nb n:Nat)(v1:Value)(i:Nat)(bs:List Bool)(hp:Hp)
theorem qdh(K:IntKind)(l:List Int)(i:Nat)(h:i<l.length):qm (LI K l) i=some (.int K (l.getD i 0)):=by
 unfold qm LI
 rw[qjo,qjt,qjk h]
 rfl
end
def jo(i:Nat):List Int:=(List.range i).map (fun j=>(vo j:Int))++List.replicate (256-i) 0
theorem JD{i:Nat}(h:i<=256):(jo i).length=256:=by
 unfold jo
 simp
 omega
theorem WH{i:Nat}(h:i<256):(jo i).set i (vo i:Int)=jo (i+1):=by
 unfold jo
 have e:256-i=(256-(i+1))+1:=qc
 rw[List.set_append_right _ _ qe,e,qlh,List.range_succ,List.map_append]
 simp
theorem WI{j:Nat}(h:j<256):(jo 256).getD j 0=(vo j:Int):=by
 unfold jo
 simp[qjt,h]
theorem Vd(hp:Hp):run cxX 67 [] hp=B67_3 (.ptr hp.next 0 0) (.int .i64 0) (hp.new (LI .u32 (jo 0))):=(E67 hp).trans qd
theorem cand(t:TypeId)(x y:Operand):qq Tryz.prog .and t x y (.int .u32 2197175160) (.int .u32 0)=some (.int .u32 0)/\qq Tryz.prog .and t x y (.int .u32 2197175160) (.int .u32 4294967295)=some (.int .u32 2197175160):=by
 have e1:2197175160&&&0=0:=qf
 have e2:2197175160&&&4294967295=2197175160:=qf
 have a1:=Jn Tryz.prog t x y 2197175160 0 qf qf
 have a2:=Jn Tryz.prog t x y 2197175160 4294967295 qf qf
 rw[e1]at a1
 rw[e2]at a2
 exact⟨a1,a2⟩
theorem cneg:WE Tryz.prog .neg (.int .u32 0)=some (.int .u32 0)/\WE Tryz.prog .neg (.int .u32 1)=some (.int .u32 4294967295):=⟨qd,qd⟩
theorem qds(x1:AV)(v2 v6:Value)(hp:Hp):∀(m j n:Nat),j+m=8->n<4294967296->B67_7 x1 v2 (.int .u32 (n:Int)) v6 (.int .i64 (j:Int)) hp=B67_7 x1 v2 (.int .u32 ((Qe m n:Nat):Int)) v6 (.int .i64 8) hp:=by
 intro m
 induction m with
 |zero=>intro j n hj hn;have:j=8:=qc
        subst this;rfl
 |succ m ih=>
  intro j n hj hn
  have hlt:(j:Int)<8:=qc
  have w:IntKind.i64.wrap ((j:Int)+1)=((j+1:Nat):Int):=qh
  have s1:=fun t x y=>ZF Tryz.prog t x y n 1 qf .u64
  have s2:=fun t x y=>Jn Tryz.prog t x y n 1 hn qf
  rw[Nat.and_one_is_mod]at s2
  have hs:=Yx hn
  have z:=ih (j+1) (Zo n) qc hs
  have e0:Qe (m+1) n=Qe m (Zo n):=rfl
  rw[e0,<-z,YQ]
  have s1':∀t x y,qq Tryz.prog .shr t x y (.int .u32 (n:Int)) (.int .u64 1)=some (.int .u32 ((n/2:Nat):Int)):=s1
  have s2':∀t x y,qq Tryz.prog .and t x y (.int .u32 (n:Int)) (.int .u32 1)=some (.int .u32 ((n%2:Nat):Int)):=s2
  unfold Zo at*
  rcases Nat.mod_two_eq_zero_or_one n with q|q
  ·have x3:=fun t x y=>Zw Tryz.prog t x y (n/2) 0 qc qf
   rw[q]at s2'
   have s2'':∀t x y,qq Tryz.prog .and t x y (.int .u32 (n:Int)) (.int .u32 1)=some (.int .u32 0):=s2'
   have x3':∀t x y,qq Tryz.prog .xor t x y (.int .u32 ((n/2:Nat):Int)) (.int .u32 0)=some (.int .u32 ((n/2^^^0:Nat):Int)):=x3
   rw[if_neg qc]
   clear z ih s1 s2 s2' x3
   generalize((n/2:Nat):Int)=A at*
   generalize((n/2^^^0:Nat):Int)=C at*
   generalize((j+1:Nat):Int)=J at*
   simp[-jS,-xm,hlt,s1',s2'',cneg,cand,x3',w]
  ·have x3:=fun t x y=>Zw Tryz.prog t x y (n/2) 2197175160 qc qf
   rw[q]at s2'
   have s2'':∀t x y,qq Tryz.prog .and t x y (.int .u32 (n:Int)) (.int .u32 1)=some (.int .u32 1):=s2'
   have x3':∀t x y,qq Tryz.prog .xor t x y (.int .u32 ((n/2:Nat):Int)) (.int .u32 2197175160)=some (.int .u32 ((n/2^^^2197175160:Nat):Int)):=x3
   rw[if_pos q]
   clear z ih s1 s2 s2' x3
   generalize((n/2:Nat):Int)=A at*
   generalize((n/2^^^2197175160:Nat):Int)=C at*
   generalize((j+1:Nat):Int)=J at*
   simp[-jS,-xm,hlt,s1',s2'',cneg,cand,x3',w]
theorem VS(b:Nat):∀(m i:Nat) (hp:Hp),i+m=256->hp.rd b 0=some (LI .u32 (jo i))->B67_3 (.ptr b 0 0) (.int .i64 (i:Int)) hp=some (.ptr b 0 0,hp.put b 0 (LI .u32 (jo 256))):=by
 intro m
 induction m with
 |zero=>
  intro i hp hi h
  have:i=256:=qc
  subst this
  rw[YR,kD h]
  simp
 |succ m ih=>
  intro i hp hi h
  have hlt:(i:Int)<256:=qc
  have w1:IntKind.u32.wrap (i:Int)=(i:Int):=zq qc qc
  have w2:IntKind.i64.wrap ((i:Int)+1)=((i+1:Nat):Int):=qh
  have inn:=qds (.ptr b 0 0) (.int .i64 (i:Int)) (.int .i64 (i:Int)) hp 8 0 i rfl qc
  have ix:idx 256 (.int .i64 (i:Int))=some i:=Jb .i64 qc
  have pn:=qe4 .u32 (jo i) i (vo i:Int) (by rw[JD qc];omega)
  rw[WH qc]at pn
  have z:=ih (i+1) (hp.put b 0 (LI .u32 (jo (i+1)))) qc (qF _ _ _)
  rw[zr]at z
  have en:B67_7 (.ptr b 0 0) (.int .i64 (i:Int)) (.int .u32 ((vo i:Nat):Int)) (.int .i64 (i:Int)) (.int .i64 8) hp=some (.ptr b 0 0,hp.put b 0 (LI .u32 (jo 256))):=by
   rw[<-z,YQ]
   generalize LI .u32 (jo (i+1))=T at*
   generalize LI .u32 (jo i)=T0 at*
   generalize((vo i:Nat):Int)=C at*
   generalize((i+1:Nat):Int)=J at*
   simp[ix,h,pn,w2]
  have e0:vo i=Qe 8 i:=rfl
  rw[e0]at en
  rw[<-en,<-inn,YR]
  simp[hlt,Jh,w1]
theorem WX(hp:Hp):run cxX 67 [] hp=some (.ptr hp.next 0 0,(hp.new (LI .u32 (jo 0))).put hp.next 0 (LI .u32 (jo 256))):=by
 rw[Vd]
 exact VS hp.next 256 0 _ rfl (yG _ _)
theorem qek(n:Nat)(h:n<4294967296):WE Tryz.prog .xor (.int .u32 (n:Int))=some (.int .u32 ((4294967295-n:Nat):Int)):=by
 show some (Value.int .u32 (IntKind.u32.wrap ((BitVec.ofInt 32 4294967295^^^BitVec.ofInt 32 (n:Int)).toNat:Nat)))=_
 have e:BitVec.ofInt 32 4294967295=BitVec.allOnes 32:=qf
 rw[e,BitVec.allOnes_xor,BitVec.toNat_not,yK 32 n h,zq qc qc]
section
variable (b k:Nat)(l:List Int)(hl:l.length<=1000000000)(h8:∀n∈l,0<=n/\n<256)(hp:Hp)(h:hp.rd b 0=some (LI .u32 (jo 256)))
include hl h8 h
theorem WJ:∀(r:List Int) (i n:Nat),l.drop i=r->i<=l.length->n<4294967296->B37_4 (.ptr b 0 0) (.int .u32 (n:Int)) (S k 1 (LI .u8 l)) (.int .i64 (l.length:Int)) (.int .i64 (i:Int)) hp=some (.sc (.int .u32 ((4294967295-qbm r n:Nat):Int)),hp):=by
 intro r
 induction r with
 |nil=>
  intro i n hr hi hn
  have:=yp hr
  have hlt:¬((i:Int)<(l.length:Int)):=qc
  have un:=qek n hn
  have e0:qbm [] n=n:=rfl
  rw[e0,YV]
  generalize((4294967295-n:Nat):Int)=R at*
  simp[hlt,un]
 |cons c r ih=>
  intro i n hr hi hn
  obtain⟨e1,e2,hi',e3⟩:=jB hr
  have hc:=h8 c (qjj e1)
  obtain⟨d,hd⟩:∃d:Nat,c=(d:Int):=⟨c.toNat,qc⟩
  have hlt:(i:Int)<(l.length:Int):=qc
  have hf:=qdt hn hc
  have z:=ih (i+1) (XP n c) e2 qc hf
  have e0:qbm (c::r) n=qbm r (XP n c):=rfl
  have s1:∀t x y,qq Tryz.prog .shr t x y (.int .u32 (n:Int)) (.int .u64 8)=some (.int .u32 ((n/256:Nat):Int)):=fun t x y=>ZF Tryz.prog t x y n 8 qf .u64
  have w1:IntKind.u8.wrap (n:Int)=((n%256:Nat):Int):=by rw[IntKind.wrap_u8];omega
  have x1:=fun t x y=>qef Tryz.prog t x y (n%256) d qc qc
  have hj:n%256^^^d<256:=qeg qc qc
  have ix:idx 256 (.int .u8 ((n%256^^^d:Nat):Int))=some (n%256^^^d):=Jb .u8 hj
  have gs:=qdh .u32 (jo 256) (n%256^^^d) (by rw[JD (qji _)];exact hj)
  rw[WI hj]at gs
  have ht:vo (n%256^^^d)<4294967296:=Qd 8 qc
  have x2:=fun t x y=>Zw Tryz.prog t x y (n/256) (vo (n%256^^^d)) qc ht
  have ef:XP n c=n/256^^^vo (n%256^^^d):=by unfold XP;rw[hd,qjv]
  have w2:IntKind.i64.wrap ((i:Int)+1)=((i+1:Nat):Int):=qh
  have gs0:∀(v:Value),qm [.sc v] 0=some v:=fun _=>rfl
  have en:∀h,l[i]'h=(d:Int):=fun h=>by rw[<-hd];exact e3
  rw[e0,<-z,ef,YV]
  clear z ih
  generalize LI .u32 (jo 256)=T at*
  generalize((n/256^^^vo (n%256^^^d):Nat):Int)=F at*
  generalize vo (n%256^^^d)=C at*
  generalize n%256^^^d=D at*
  generalize((n%256:Nat):Int)=M at*
  generalize((n/256:Nat):Int)=Q at*
  generalize((i+1:Nat):Int)=J at*
  simp[-xm,hlt,hi',gs0,en,s1,yJ,w1,x1,ix,h,gs,x2,w2]
end
theorem Ko(k:Nat)(l:List Int)(hl:l.length<=1000000000)(h8:∀n∈l,0<=n/\n<256)(hp:Hp):∃hp',run cxX 37 [S k 1 (LI .u8 l)] hp=some (.sc (.int .u32 (qK l:Int)),hp'):=by
 have o:=WX hp
 refine⟨(hp.new (LI .u32 (jo 0))).put hp.next 0 (LI .u32 (jo 256)),?_⟩
 generalize hH:(hp.new (LI .u32 (jo 0))).put hp.next 0 (LI .u32 (jo 256))=H at*
 have hr:H.rd hp.next 0=some (LI .u32 (jo 256)):=by rw[<-hH];exact qF _ _ _
 have s:=WJ hp.next (rk k) l hl h8 H hr l 0 4294967295 rfl (qj4 _) qf
 have s':B37_4 (.ptr hp.next 0 0) (.int .u32 4294967295) (S (rk k) 1 (LI .u8 l)) (.int .i64 (l.length:Int)) (.int .i64 0) H=some (.sc (.int .u32 (qK l:Int)),H):=s
 rw[E37]
 simp[o,s']
def jr(n:Nat):List Int:=[((n%256:Nat):Int),((n/256%256:Nat):Int),((n/65536%256:Nat):Int),((n/16777216%256:Nat):Int)]
def qN(l:List Int):List Int:=l++jr (qK l)
theorem zC(n:Nat):(jr n).length=4:=rfl
theorem yj(l:List Int):(qN l).length=l.length+4:=by simp[qN,jr]
theorem kh{n:Nat}:∀x∈jr n,0<=x/\x<256:=by
 intro x hx
 simp only[jr,qjf,List.not_mem_nil,or_false]at hx
 omega
theorem Wz(n k m:Nat)(hk:k<=32)(hm:m=2^k)(hn:n<4294967296)(t:TypeId)(x y:Operand):qq Tryz.prog .shr t x y (.int .u32 (n:Int)) (.int .u64 (k:Int))=some (.int .u32 ((n/m:Nat):Int)):=by
 subst hm
 exact ZF Tryz.prog t x y n k hk .u64
theorem Wq(n:Nat):IntKind.u8.wrap (n:Int)=((n%256:Nat):Int):=by rw[IntKind.wrap_u8];omega
theorem Xd(n:Nat)(hn:n<4294967296)(t:TypeId)(x y:Operand):qq Tryz.prog .shr t x y (.int .u32 (n:Int)) (.int .u64 8)=some (.int .u32 ((n/256:Nat):Int))/\
 qq Tryz.prog .shr t x y (.int .u32 (n:Int)) (.int .u64 16)=some (.int .u32 ((n/65536:Nat):Int))/\qq Tryz.prog .shr t x y (.int .u32 (n:Int)) (.int .u64 24)=some (.int .u32 ((n/16777216:Nat):Int)):=
 ⟨Wz n 8 256 qf qf hn t x y,Wz n 16 65536 qf qf hn t x y,Wz n 24 16777216 qf qf hn t x y⟩
theorem yA(k:Nat)(l:List Int)(hl:l.length<=900000)(h8:∀n∈l,0<=n/\n<256)(hp:Hp):run cxX 20 [S k 1 (LI .u8 l)] hp=some (S 1 1 (LI .u8 (qN l)),hp):=by
 obtain⟨hp',sm⟩:=Ko (rk k) l qc h8 hp0
 have hc:=KL l
 have wp:=Xd (qK l) hc
 have ap:=fun k=>Zq .u8 [] 1 (.inl rfl) 1 qf k l (by simpa using(by omega:l.length<=1000000))
 have ap2:=Zq .u8 l 1 (.inl rfl) 1 qf 1 (jr (qK l)) (by rw[zC];omega)
 have w0:=Wq (qK l)
 have w1:=Wq (qK l/256)
 have w2:=Wq (qK l/65536)
 have w3:=Wq (qK l/16777216)
 have e1:LI .u8 (jr (qK l))=[.sc (.int .u8 ((qK l%256:Nat):Int)),.sc (.int .u8 ((qK l/256%256:Nat):Int)),.sc (.int .u8 ((qK l/65536%256:Nat):Int)),.sc (.int .u8 ((qK l/16777216%256:Nat):Int))]:=rfl
 rw[e1]at ap2
 have e2:LI .u8 (l++jr (qK l))=LI .u8 (qN l):=rfl
 rw[e2]at ap2
 rw[E20]
 simp at ap
 generalize LI .u8 (qN l)=Z at*
 generalize((qK l%256:Nat):Int)=A0 at*
 generalize((qK l/256%256:Nat):Int)=A1 at*
 generalize((qK l/65536%256:Nat):Int)=A2 at*
 generalize((qK l/16777216%256:Nat):Int)=A3 at*
 generalize((qK l/256:Nat):Int)=B1 at*
 generalize((qK l/65536:Nat):Int)=B2 at*
 generalize((qK l/16777216:Nat):Int)=B3 at*
 simp[sm,yJ,w0,w1,w2,w3,wp,ap,ap2]
theorem kY(b n:Nat)(l:List Int)(hl:l.length+4<=1000000)(hn:n<4294967296)(hp:Hp)(h:hp.rd b 0=some (Wc l)):run cxX 19 [.ptr b 0 0,.sc (.int .u32 (n:Int))] hp=some (.tup [],hp.put b 0 (Wc (l++jr n))):=by
 have wp:=Xd n hn
 have pw:=jC b l (jr n) 0 (by rw[zC];exact hl) hp h
 have w0:=Wq n
 have w1:=Wq (n/256)
 have w2:=Wq (n/65536)
 have w3:=Wq (n/16777216)
 have e1:LI .u8 (jr n)=[.sc (.int .u8 ((n%256:Nat):Int)),.sc (.int .u8 ((n/256%256:Nat):Int)),.sc (.int .u8 ((n/65536%256:Nat):Int)),.sc (.int .u8 ((n/16777216%256:Nat):Int))]:=rfl
 rw[e1]at pw
 rw[E19]
 generalize hp.put b 0 (Wc (l++jr n))=H at*
 generalize((n%256:Nat):Int)=A0 at*
 generalize((n/256%256:Nat):Int)=A1 at*
 generalize((n/65536%256:Nat):Int)=A2 at*
 generalize((n/16777216%256:Nat):Int)=A3 at*
 generalize((n/256:Nat):Int)=B1 at*
 generalize((n/65536:Nat):Int)=B2 at*
 generalize((n/16777216:Nat):Int)=B3 at*
 simp[yJ,w0,w1,w2,w3,wp,pw]
theorem wt(b:Nat)(l:List Int)(hp:Hp)(h:hp.rd b 0=some (Wc l)):run cxX 17 [.ptr b 0 0] hp=some (.sc (.int .i64 (l.length:Int)),hp):=by
 rw[E17]
 simp[h,zH]
structure Frm where
 nm:List Int
 kd:Int
 pl:List Int
structure Frm.Ok (f : Frm) : Prop where
 n1:1<=f.nm.length/\f.nm.length<=255
 nb:Bt f.nm
 kd:0<=f.kd/\f.kd<6
 pl:f.pl.length<=800000
 pb:Bt f.pl
def YZ(f:Frm)(k:Nat):List AV:=[.sc (st f.nm),.sc (.int .u8 f.kd),S k 1 (LI .u8 f.pl)]
def VM(f:Frm):List Int:=[(f.nm.length:Int)]++f.nm++[f.kd]++jr f.pl.length
def jN(f:Frm):List Int:=qN (VM f)++qN f.pl
theorem vX(f:Frm):(VM f).length=f.nm.length+6:=by simp[VM,jr]
theorem Jd(f:Frm):(jN f).length=f.nm.length+10+f.pl.length+4:=by
 unfold jN
 rw[qje,yj,yj,vX]
 omega
theorem qdl{f:Frm}(h:f.Ok):∀x∈VM f,0<=x/\x<256:=by
 intro x hx
 have h1:=h.n1;have h2:=h.kd
 unfold VM at hx
 rcases qjp.mp hx with q|q
 ·rcases qjp.mp q with q|q
  ·rcases qjp.mp q with q|q
   ·rw[qke.mp q];omega
   ·exact h.nb x q
  ·rw[qke.mp q];omega
 ·exact kh x q
theorem Xo(f:Frm)(k:Nat)(h:f.Ok)(hp:Hp):run cxX 33 [.agg (YZ f k)] hp=some (.sc (.int .i64 0),hp):=by
 have h1:=h.n1;have h2:=h.kd;have h3:=h.pl
 have sl:=kX f.nm
 have c1:¬((f.nm.length:Int)<1):=qc
 have c2:¬((255:Int)<(f.nm.length:Int)):=qc
 have c3:¬((6:Int)<=f.kd):=qc
 have c4:¬((1048576:Int)<(f.pl.length:Int)):=qc
 unfold YZ
 rw[E33]
 generalize st f.nm=N at*
 simp[qm,zH,sl,c1,c2,c3,c4,qcb]
theorem Vc(f:Frm)(k:Nat)(h:f.Ok)(hp:Hp):∃hp',run cxX 16 [.agg (YZ f k)] hp=some (.tup [S 1 1 (LI .u8 (jN f)),.sc (.int .i64 0)],hp'):=by
 have h1:=h.n1;have h2:=h.kd;have h3:=h.pl
 have ck:=Xo f (rk k) h hp0
 have sl:=kX f.nm
 have sb:=wm h.nb
 have sb':List.map (fun x:UInt8=>AV.sc (.int .u8 ((x.toNat:Nat):Int))) (jm f.nm)=LI .u8 f.nm:=sb
 have w1:IntKind.u8.wrap (f.nm.length:Int)=(f.nm.length:Int):=kS qc qc
 have w2:IntKind.u32.wrap (f.pl.length:Int)=(f.pl.length:Int):=zq qc qc
 have wc0:(hp.new [S 2 1 []]).rd hp.next 0=some (Wc []):=yG hp _
 have b1:=yk hp.next [] (f.nm.length:Int) qe (hp.new [S 2 1 []]) wc0
 have b2:=fun k=>jC hp.next [(f.nm.length:Int)] f.nm k qg ((hp.new [S 2 1 []]).put hp.next 0 (Wc [(f.nm.length:Int)])) (qF _ _ _)
 have b3:=yk hp.next ([(f.nm.length:Int)]++f.nm) f.kd qg ((hp.new [S 2 1 []]).put hp.next 0 (Wc ([(f.nm.length:Int)]++f.nm))) (qF _ _ _)
 have b4:=kY hp.next f.pl.length ([(f.nm.length:Int)]++f.nm++[f.kd]) qg qc ((hp.new [S 2 1 []]).put hp.next 0 (Wc ([(f.nm.length:Int)]++f.nm++[f.kd]))) (qF _ _ _)
 have b5:=yz hp.next (VM f) (by rw[vX];omega) ((hp.new [S 2 1 []]).put hp.next 0 (Wc (VM f))) (qF _ _ _)
 have c1:=yA 0 (VM f) (by rw[vX];omega) (qdl h) hp0
 have c2:=yA (rk k) f.pl qc h.pb hp0
 have ap:=Zq .u8 (qN (VM f)) 1 (.inl rfl) 1 qf 1 (qN f.pl) (by rw[yj,yj,vX];omega)
 have eY:qN (VM f)++qN f.pl=jN f:=rfl
 have eH:[(f.nm.length:Int)]++f.nm++[f.kd]++jr f.pl.length=VM f:=rfl
 rw[eY]at ap
 rw[zr]at b2 b3 b4
 rw[eH]at b4
 have b1:run cxX 34 [.ptr hp.next 0 0,.sc (.int .u8 (f.nm.length:Int))] (hp.new [S 2 1 []])=some (.tup [],(hp.new [S 2 1 []]).put hp.next 0 (Wc [(f.nm.length:Int)])):=b1
 refine⟨(hp.new [S 2 1 []]).put hp.next 0 (Wc (VM f)),?_⟩
 unfold YZ at ck⊢
 rw[E16]
 have ass:Qk (st f.nm)=some ⟨(jm f.nm).toArray⟩:=rfl
 generalize(hp.new [S 2 1 []]).put hp.next 0 (Wc ([(f.nm.length:Int)]++f.nm++[f.kd]))=H3 at*
 generalize(hp.new [S 2 1 []]).put hp.next 0 (Wc ([(f.nm.length:Int)]++f.nm))=H2 at*
 generalize(hp.new [S 2 1 []]).put hp.next 0 (Wc [(f.nm.length:Int)])=H1 at*
 generalize st f.nm=N at*
 generalize LI .u8 f.nm=NB at*
 generalize LI .u8 (jN f)=YB at*
 generalize VM f=HB at*
 generalize qN f.pl=PB at*
 simp[-List.map_map,qJ,qm,zH,ck,sl,qbl,w1,b1,ass,sb,sb',b2,b3,Jh,w2,b4,b5,c1,c2,ap]
theorem JG(nm pl:List Int)(kd:Int)(k1 k2:Nat)(hk:0<=kd/\kd<256)(hn:nm.length<=200)(hp:Hp):∃t,run cxX 5 [.agg [S k1 1 (LI .u8 nm),.sc (.int .u8 kd),S k2 1 (LI .u8 pl)]] hp=some (.agg (YZ ⟨110::nm,kd%6,pl⟩ t),hp):=by
 have bu:=Jk nm
 have ad:=fun t x y=>qev Tryz.prog t x y [110] nm qg
 have r6:∀t a b,qq Tryz.prog .rem t a b (.int .u8 kd) (.int .u8 6)=some (.int .u8 (kd%6)):=by
  intro t a b;rw[qbr _ _ _ _ _ _ _ qc,WF hk.1]
 have sl:=kX (110::nm)
 have sl:yv Tryz.prog .len #[9] 3 [st (110::nm)]=some (.int .i64 ((nm.length:Int)+1)):=by rw[sl,qju];rfl
 have c1:¬((255:Int)<(nm.length:Int)+1):=qc
 have e1:[110]++nm=110::nm:=rfl
 rw[e1]at ad
 have ad:∀t x y,qq Tryz.prog .add t x y (Value.string (ByteArray.mk (Array.mk [110]))) (Value.string (ByteArray.mk (Array.mk (jm nm))))=some (st (110::nm)):=ad
 refine⟨rk (rk k2),?_⟩
 unfold YZ
 rw[E5]
 generalize st (110::nm)=N at*
 simp[qm,zH,qJ,qC,bu,ad,r6,sl,c1,qd1]
theorem ZD(k:Nat)(cs:List AV)(h:Nat)(hh:h<=cs.length)(hne:cs≠[]):zE 1 (S k 1 cs) none (some (.int .i64 (h:Int))) none=some (S 0 1 (cs.take h)):=by
 have b1:qx 0 ((cs.length:Nat):Int) none cs.length=some cs.length:=rfl
 have b2:qx 0 ((cs.length:Nat):Int) (some (.int .i64 (h:Int))) cs.length=some h:=by
  have:(0:Int)<=(h:Int)/\(h:Int)<=((cs.length:Nat):Int):=⟨qkp h,qc⟩
  simp only[qx,Zp,qjc,this,and_self,if_true,qjv]
 have key:(qx 0 ((cs.length:Nat):Int) none cs.length).bind (fun m=>(qx 0 (m:Int) (some (.int .i64 (h:Int))) cs.length).bind fun u=>(qx 0 (u:Int) none 0).bind fun l=>some (AV.sl 1 ((cs.drop (l*1)).take ((u-l)*1))))=some (AV.sl 1 (cs.take h)):=by
  rw[b1,qjc,b2,qjc]
  show some (AV.sl 1 ((cs.drop (0*1)).take ((h-0)*1)))=_
  rw[qkl,List.drop_zero,Nat.sub_zero,qkf]
 rcases zi k 1 cs with e|e|⟨e,e'⟩
 ·rw[e];simp only[zE,if_true];exact key
 ·rw[e];simp only[zE,if_true];exact key
 ·exact absurd e' hne
theorem ZI(k:Nat)(m:List Int)(a b c d:Int)(hl:m.length<=900000)(h8:∀n∈m,0<=n/\n<256)(hp:Hp):run cxX 29 [S k 1 (LI .u8 (m++[a,b,c,d]))] hp=some (.sc (.bool (decide ([a,b,c,d]=jr (qK m)))),hp):=by
 obtain⟨hp',sm⟩:=Ko 0 m qc h8 hp0
 have hc:=KL m
 have wp:=Xd (qK m) hc
 have w0:=Wq (qK m)
 have w1:=Wq (qK m/256)
 have w2:=Wq (qK m/65536)
 have w3:=Wq (qK m/16777216)
 have eL:LI .u8 (m++[a,b,c,d])=LI .u8 m++[.sc (.int .u8 a),.sc (.int .u8 b),.sc (.int .u8 c),.sc (.int .u8 d)]:=by simp[LI]
 have ml:(LI .u8 m).length=m.length:=qe
 have len:(LI .u8 m++[AV.sc (.int .u8 a),.sc (.int .u8 b),.sc (.int .u8 c),.sc (.int .u8 d)]).length=m.length+4:=qe
 have sl:=ZD (rk k) (LI .u8 m++[.sc (.int .u8 a),.sc (.int .u8 b),.sc (.int .u8 c),.sc (.int .u8 d)]) m.length (by rw[len];omega) qe
 rw[<-ml,List.take_left,ml]at sl
 have z4:IntKind.i64.wrap ((m.length:Int)+4-4)=(m.length:Int):=qh
 have z0:IntKind.i64.wrap (m.length:Int)=(m.length:Int):=qh
 have z1:IntKind.i64.wrap ((m.length:Int)+1)=((m.length+1:Nat):Int):=qh
 have z2:IntKind.i64.wrap ((m.length:Int)+2)=((m.length+2:Nat):Int):=qh
 have z3:IntKind.i64.wrap ((m.length:Int)+3)=((m.length+3:Nat):Int):=qh
 have gg:∀j,(LI .u8 m++[AV.sc (.int .u8 a),.sc (.int .u8 b),.sc (.int .u8 c),.sc (.int .u8 d)])[m.length+j]?=[AV.sc (.int .u8 a),.sc (.int .u8 b),.sc (.int .u8 c),.sc (.int .u8 d)][j]?:=by
  intro j
  rw[qjl (by rw[ml];omega),ml]
  congr 1
  omega
 have ix:∀j x,[AV.sc (.int .u8 a),.sc (.int .u8 b),.sc (.int .u8 c),.sc (.int .u8 d)][j]?=some x->zN 1 (S (rk k) 1 (LI .u8 m++[AV.sc (.int .u8 a),.sc (.int .u8 b),.sc (.int .u8 c),.sc (.int .u8 d)])) (.int .i64 ((m.length+j:Nat):Int))=some [x]:=by
  intro j x hx
  rw[wN,if_pos qc,qjv,gg,hx]
  rfl
 have i0:zN 1 (S (rk k) 1 (LI .u8 m++[AV.sc (.int .u8 a),.sc (.int .u8 b),.sc (.int .u8 c),.sc (.int .u8 d)])) (.int .i64 (m.length:Int))=some [.sc (.int .u8 a)]:=ix 0 _ rfl
 have i1:=ix 1 _ rfl
 have i2:=ix 2 _ rfl
 have i3:=ix 3 _ rfl
 have gs0:∀(v:Value),qm [.sc v] 0=some v:=fun _=>rfl
 have hlt:¬((m.length:Int)+4<4):=qc
 have ew:([a,b,c,d]=jr (qK m))↔(a=((qK m%256:Nat):Int)/\b=((qK m/256%256:Nat):Int)/\c=((qK m/65536%256:Nat):Int)/\d=((qK m/16777216%256:Nat):Int)):=by simp[jr]
 have ed:decide ([a,b,c,d]=jr (qK m))=decide (a=((qK m%256:Nat):Int)/\b=((qK m/256%256:Nat):Int)/\c=((qK m/65536%256:Nat):Int)/\d=((qK m/16777216%256:Nat):Int)):=decide_eq_decide.mpr ew
 have XH:∀k,jq (S k 1 (LI .u8 m++[AV.sc (.int .u8 a),.sc (.int .u8 b),.sc (.int .u8 c),.sc (.int .u8 d)]))=some (m.length+4):=fun k=>by rw[zg,len]
 have c4:((m.length+4:Nat):Int)=(m.length:Int)+4:=qc
 rw[ed,eL,E29]
 clear gg ix ew ed
 generalize((m.length+1:Nat):Int)=J1 at*
 generalize((m.length+2:Nat):Int)=J2 at*
 generalize((m.length+3:Nat):Int)=J3 at*
 generalize LI .u8 m++[AV.sc (.int .u8 a),.sc (.int .u8 b),.sc (.int .u8 c),.sc (.int .u8 d)]=Z at*
 generalize((qK m%256:Nat):Int)=A0 at*
 generalize((qK m/256%256:Nat):Int)=A1 at*
 generalize((qK m/65536%256:Nat):Int)=A2 at*
 generalize((qK m/16777216%256:Nat):Int)=A3 at*
 generalize((qK m/256:Nat):Int)=B1 at*
 generalize((qK m/65536:Nat):Int)=B2 at*
 generalize((qK m/16777216:Nat):Int)=B3 at*
 by_cases q0:a=A0
 ·by_cases q1:b=A1
  ·by_cases q2:c=A2
   ·simp[-wN,-zg,XH,hlt,z0,z4,sl,sm,i0,i1,i2,i3,gs0,yJ,w0,w1,w2,w3,wp,z1,z2,z3,q0,q1,q2]
   ·simp[-wN,-zg,XH,hlt,z0,z4,sl,sm,i0,i1,i2,i3,gs0,yJ,w0,w1,w2,w3,wp,z1,z2,z3,q0,q1,q2]
  ·simp[-wN,-zg,XH,hlt,z0,z4,sl,sm,i0,i1,i2,i3,gs0,yJ,w0,w1,w2,w3,wp,z1,z2,z3,q0,q1]
 ·simp[-wN,-zg,XH,hlt,z0,z4,sl,sm,i0,i1,i2,i3,gs0,yJ,w0,w1,w2,w3,wp,z1,z2,z3,q0]
theorem Xu(P:Program)(t:TypeId)(x y:Operand)(a b:Nat)(ha:a<4294967296)(hb:b<4294967296):qq P .or t x y (.int .u32 (a:Int)) (.int .u32 (b:Int))=some (.int .u32 ((a|||b:Nat):Int)):=by
 have:=Nat.or_lt_two_pow (n:=32) ha hb
 rw[yc]
 show some (Value.int .u32 (IntKind.u32.wrap ((BitVec.ofInt 32 (a:Int)|||BitVec.ofInt 32 (b:Int)).toNat:Nat)))=_
 rw[BitVec.toNat_or,yK 32 a ha,yK 32 b hb,zq qc qc]
theorem ZG(P:Program)(t:TypeId)(x y:Operand)(a k m:Nat)(hk:k<=32)(hm:m=2^k)(h:a*m<4294967296):qq P .shl t x y (.int .u32 (a:Int)) (.int .u64 (k:Int))=some (.int .u32 ((a*m:Nat):Int)):=by
 subst hm
 rw[YC P t x y _ _ _ _ qc]
 have e:min (k:Int).toNat IntKind.u32.bits=k:=by
  show min (k:Int).toNat 32=k
  omega
 have e2:(2:Int)^k=((2^k:Nat):Int):=by rw[Int.natCast_pow];rfl
 rw[e,e2,<-Int.natCast_mul,zq qc qc]
theorem qaf(n:Nat)(hn:n<4294967296):(n%256|||(n/256%256)*256)=n%65536/\(n%65536|||(n/65536%256)*65536)=n%16777216/\(n%16777216|||(n/16777216%256)*16777216)=n:=by
 have key:∀i b a,a<2^i->a|||b*2^i=b*2^i+a:=by
  intro i b a h
  rw[Nat.or_comm,qki b,Nat.two_pow_add_eq_or_of_lt h]
 have k1:=key 8 (n/256%256) (n%256) (by show n%256<256;omega)
 have k2:=key 16 (n/65536%256) (n%65536) (by show n%65536<65536;omega)
 have k3:=key 24 (n/16777216%256) (n%16777216) (by show n%16777216<16777216;omega)
 refine⟨k1.trans ?_,k2.trans ?_,k3.trans ?_⟩
 ·show n/256%256*256+n%256=_;omega
 ·show n/65536%256*65536+n%65536=_;omega
 ·show n/16777216%256*16777216+n%16777216=_;omega
theorem QM(b k:Nat)(l:List Int)(hl:l.length<=1000000000)(n:Nat)(hn:n<4294967296)(p:Nat)(rest:List Int)(hd:l.drop p=jr n++rest)(hp:Hp)(hpl:p<=l.length)(hr:hp.rd b 0=some (Rc k l p 0)):
 run cxX 31 [.ptr b 0 0] hp=some (.sc (.int .u32 (n:Int)),hp.put b 0 (Rc k l (p+4) 0)):=by
 obtain⟨t,rb⟩:=Xm b k l p 0 hp 4 hl qf hpl hr
 have hlen:(l.drop p).length=l.length-p:=qku
 rw[hd,qje,zC]at hlen
 have hL:¬(rL l p 0<4):=by unfold rL;rw[if_pos rfl];omega
 rw[if_neg hL,if_neg qf,hd,<-zC n,List.take_left,zC]at rb
 have rb:run cxX 40 [.ptr b 0 0,.sc (.int .i64 4)] hp=some (S t 1 (LI .u8 (jr n)),hp.put b 0 (Rc k l (p+4) 0)):=rb
 obtain⟨o1,o2,o3⟩:=qaf n hn
 obtain⟨a0,h0⟩:∃a,a=n%256:=⟨_,rfl⟩
 obtain⟨a1,h1⟩:∃a,a=n/256%256:=⟨_,rfl⟩
 obtain⟨a2,h2⟩:∃a,a=n/65536%256:=⟨_,rfl⟩
 obtain⟨a3,h3⟩:∃a,a=n/16777216%256:=⟨_,rfl⟩
 obtain⟨c1,k1⟩:∃a,a=n/256%256*256:=⟨_,rfl⟩
 obtain⟨c2,k2⟩:∃a,a=n/65536%256*65536:=⟨_,rfl⟩
 obtain⟨c3,k3⟩:∃a,a=n/16777216%256*16777216:=⟨_,rfl⟩
 obtain⟨d1,j1⟩:∃a,a=n%65536:=⟨_,rfl⟩
 obtain⟨d2,j2⟩:∃a,a=n%16777216:=⟨_,rfl⟩
 rw[<-h0,<-k1,<-j1]at o1
 rw[<-j1,<-k2,<-j2]at o2
 rw[<-j2,<-k3]at o3
 have e1:LI .u8 (jr n)=[.sc (.int .u8 (a0:Int)),.sc (.int .u8 (a1:Int)),.sc (.int .u8 (a2:Int)),.sc (.int .u8 (a3:Int))]:=by rw[h0,h1,h2,h3];rfl
 rw[e1]at rb
 have w0:IntKind.u32.wrap (a0:Int)=(a0:Int):=zq qc qc
 have w1:IntKind.u32.wrap (a1:Int)=(a1:Int):=zq qc qc
 have w2:IntKind.u32.wrap (a2:Int)=(a2:Int):=zq qc qc
 have w3:IntKind.u32.wrap (a3:Int)=(a3:Int):=zq qc qc
 have s1:∀t x y,qq Tryz.prog .shl t x y (.int .u32 (a1:Int)) (.int .u64 8)=some (.int .u32 (c1:Int)):=fun t x y=>by rw[k1,<-h1];exact ZG Tryz.prog t x y a1 8 256 qf qf qc
 have s2:∀t x y,qq Tryz.prog .shl t x y (.int .u32 (a2:Int)) (.int .u64 16)=some (.int .u32 (c2:Int)):=fun t x y=>by rw[k2,<-h2];exact ZG Tryz.prog t x y a2 16 65536 qf qf qc
 have s3:∀t x y,qq Tryz.prog .shl t x y (.int .u32 (a3:Int)) (.int .u64 24)=some (.int .u32 (c3:Int)):=fun t x y=>by rw[k3,<-h3];exact ZG Tryz.prog t x y a3 24 16777216 qf qf qc
 have r1:=fun t x y=>Xu Tryz.prog t x y a0 c1 qc qc
 have r2:=fun t x y=>Xu Tryz.prog t x y d1 c2 qc qc
 have r3:=fun t x y=>Xu Tryz.prog t x y d2 c3 qc qc
 rw[o1]at r1
 rw[o2]at r2
 rw[o3]at r3
 rw[E31]
 clear e1 o1 o2 o3 hd h0 h1 h2 h3 k1 k2 k3 j1 j2
 generalize hp.put b 0 (Rc k l (p+4) 0)=H at*
 simp[-yc,rb,qm,qdq,w0,w1,w2,w3,s1,s2,s3,r1,r2,r3]
section
variable {α:Type}(C:α->List AV)(n:Nat)
def qr(l:List α):List AV:=l.flatMap C
structure El (x : α) : Prop where
 len:(C x).length=n
 ro:(C x).map ro1=C x
 vl:(C x).all vl=true
theorem vc(x:α)(r:List α):qr C (x::r)=C x++qr C r:=rfl
theorem WZ(a b:List α):qr C (a++b)=qr C a++qr C b:=by simp[qr]
theorem WY(x:α):qr C [x]=C x:=by simp[qr]
theorem ym:∀{l:List α},(∀x∈l,El C n x)->(qr C l).length=n*l.length
 |[],_=>by simp[qr]
 |x::r,h=>by
  have ih:=ym (l:=r) (fun y hy=>h y (by simp[hy]))
  rw[vc,qje,ih,(h x qe).len,qju,Nat.mul_succ]
  omega
theorem JO:∀{l:List α} {i:Nat} {x:α},(∀x∈l,El C n x)->l[i]?=some x->((qr C l).drop (i*n)).take n=C x
 |[],i,x,_,h=>by cases h
 |y::r,0,x,hl,h=>by
  have:y=x:=by simpa using h
  subst this
  have e:=(hl y qe).len
  rw[vc,qkl,List.drop_zero,<-e,List.take_left]
 |y::r,i+1,x,hl,h=>by
  have ih:=JO (l:=r) (i:=i) (fun z hz=>hl z (by simp[hz])) (by simpa using h)
  have e:=(hl y qe).len
  have e2:(i+1)*n=(C y).length+i*n:=by rw[e,Nat.succ_mul];omega
  rw[vc,e2,<-List.drop_drop,List.drop_left]
  exact ih
variable (hn:0<n)
include hn
theorem JN{l:List α}(hl:∀x∈l,El C n x)(h:qr C l=[]):l=[]:=by
 have h1:=congrArg List.length h
 rw[ym C n hl]at h1
 cases l with
 |nil=>rfl
 |cons x r=>
  rw[qju,Nat.mul_succ]at h1
  simp at h1
  omega
theorem ZZ(k:Nat){l:List α}(hl:∀x∈l,El C n x):jq (S k n (qr C l))=some l.length:=by
 have e0:(if n=1 then(qr C l).length else(qr C l).length/n)=l.length:=by
  rw[ym C n hl]
  split
  ·rename_i h;rw[h,Nat.one_mul]
  ·exact Nat.mul_div_cancel_left _ hn
 rcases zi k n (qr C l)with e|e|⟨e,e'⟩
 ·rw[e,<-e0]
  unfold jq
  first|rfl|(split<;>simp_all)
 ·rw[e,<-e0]
  unfold jq
  first|rfl|(split<;>simp_all)
 ·rw[e,JN C n hn hl e'];rfl
theorem xe(k:Nat){l:List α}{i:Nat}{x:α}(hl:∀x∈l,El C n x)(h:l[i]?=some x):zN n (S k n (qr C l)) (.int .i64 (i:Int))=some (C x):=by
 have hi:=(qjd.mp h).1
 have e0:(if n=1 then(qr C l).length else(qr C l).length/n)=l.length:=by
  rw[ym C n hl]
  split
  ·rename_i h;rw[h,Nat.one_mul]
  ·exact Nat.mul_div_cancel_left _ hn
 have key:(idx (if n=1 then(qr C l).length else(qr C l).length/n) (.int .i64 (i:Int))).bind (fun i=>qJ (qr C l) (i*n) n)=some (C x):=by
  rw[e0,Jb .i64 hi,qjc]
  have hle:i*n+n<=(qr C l).length:=by
   rw[ym C n hl,qki n]
   have:=qjr n (show i+1<=l.length from hi)
   rw[Nat.succ_mul]at this
   exact this
  unfold qJ
  rw[if_pos hle,JO C n hl h]
 rcases zi k n (qr C l)with e|e|⟨e,e'⟩
 ·rw[e];exact(if_pos rfl).trans key
 ·rw[e];exact(if_pos rfl).trans key
 ·rw[JN C n hn hl e']at h;cases h
omit hn in
theorem qbt(b k:Nat)(hb:0<b)(hk:k=1\/k=2){l:List α}{x:α}(hl:∀x∈l,El C n x)(hx:El C n x)(hf:(l.length+1)*b<=140737488355328):yg b n (S k n (qr C l)) (S 1 n (C x))=some (S k n (qr C (l++[x]))):=by
 rw[WZ,WY]
 refine Kb b n k _ _ 1 hk hx.ro (.inr (Je hb ?_))
 rw[ym C n hl,hx.len]
 have e:(n*l.length+n)*b=((l.length+1)*b)*n:=by rw[<-Nat.mul_succ,qki n,qk8,qki n b,<-Nat.mul_assoc]
 rw[e]
 exact qjr n hf
end
structure Ie where
 nm:List Int
 po:Int
 sz:Int
def jl(e:Ie):List AV:=[.sc (st e.nm),.sc (.int .i64 e.po),.sc (.int .i64 e.sz)]
theorem xd(e:Ie):El jl 3 e:=⟨rfl,rfl,rfl⟩
def Yq(a b:List Int):Bool:=!(slt a b||decide (a=b))
def xV:List Int->List (List Int)->Bool
 |_,[]=>true
 |p,a::r=>Yq a p&&xV a r
def jp:List (List Int)->Bool
 |[]=>true
 |a::r=>xV a r
structure Xok (l : List Ie) : Prop where
 nl:∀e∈l,1<=e.nm.length/\e.nm.length<=255
 nb:∀e∈l,Bt e.nm
 po:∀e∈l,0<=e.po/\e.po<=1048576
 sz:∀e∈l,1<=e.sz/\e.sz<=1048576
 cs:∀(i:Nat) (e e':Ie),l[i]?=some e->l[i+1]?=some e'->e'.po=e.po+e.sz
 len:l.length<=1000
section
variable (l:List Ie)(h:Xok l)(k k':Nat)(hp:Hp)
include h
theorem qcf(i:Nat)(e:Ie)(he:l[i]?=some e) (hi0:i=0):
 B35_4 (S k 3 (qr jl l)) (S k' 3 (qr jl l)) (.int .i64 (l.length:Int)) (.int .i64 (i:Int)) hp=B35_4 (S k 3 (qr jl l)) (S k' 3 (qr jl l)) (.int .i64 (l.length:Int)) (.int .i64 ((i+1:Nat):Int)) hp:=by
 have hi:=(qjd.mp he).1
 have hm:=qjj he
 have h1:=h.nl e hm;have h3:=h.po e hm;have h4:=h.sz e hm;have h5:=h.len
 have ix:=xe jl 3 qf k' (fun x _=>xd x) he
 have hlt:(i:Int)<(l.length:Int):=qc
 have sl:=kX e.nm
 have w:IntKind.i64.wrap ((i:Int)+1)=((i+1:Nat):Int):=qh
 have c1:¬((e.nm.length:Int)<1):=qc
 have c2:¬((255:Int)<(e.nm.length:Int)):=qc
 have c3:¬(e.po<0):=qc
 have c4:¬((1048576:Int)<e.po):=qc
 have c5:¬(e.sz<1):=qc
 have c6:¬((1048576:Int)<e.sz):=qc
 have c7:¬(0<i):=qc
 conv=>lhs;rw[kR]
 generalize((i+1:Nat):Int)=J at*
 generalize qr jl l=R at*
 unfold jl at ix
 generalize st e.nm=N at*
 simp[hi,hlt,ix,qm,qJ,qC,sl,c1,c2,c3,c4,c5,c6,c7,w,Qq,vu,Zv,Zu]
theorem qce(i:Nat)(e p:Ie)(he:l[i+1]?=some e) (hq:l[i]?=some p):
 B35_4 (S k 3 (qr jl l)) (S k' 3 (qr jl l)) (.int .i64 (l.length:Int)) (.int .i64 ((i+1:Nat):Int)) hp=if Yq e.nm p.nm=true then B35_4 (S k 3 (qr jl l)) (S k' 3 (qr jl l)) (.int .i64 (l.length:Int)) (.int .i64 ((i+2:Nat):Int)) hp else some (.sc (.int .i64 8),hp):=by
 have hi:=(qjd.mp he).1
 have hm:=qjj he
 have hm':=qjj hq
 have h1:=h.nl e hm;have h3:=h.po e hm;have h4:=h.sz e hm;have h5:=h.len
 have h6:=h.po p hm';have h7:=h.sz p hm'
 have cs:=h.cs i p e hq he
 have ix:=xe jl 3 qf k' (fun x _=>xd x) he
 have iy:=xe jl 3 qf (rk k) (fun x _=>xd x) hq
 have hlt:((i+1:Nat):Int)<(l.length:Int):=qc
 have sl:=kX e.nm
 have w:IntKind.i64.wrap (((i+1:Nat):Int)+1)=((i+2:Nat):Int):=qh
 have w1:IntKind.i64.wrap (((i+1:Nat):Int)-1)=(i:Int):=qh
 have w2:IntKind.i64.wrap (p.po+p.sz)=p.po+p.sz:=qP qc qc
 have lq:=fun t x y=>qet Tryz.prog t x y e.nm p.nm (h.nb e hm) (h.nb p hm')
 have c1:¬((e.nm.length:Int)<1):=qc
 have c2:¬((255:Int)<(e.nm.length:Int)):=qc
 have c3:¬(e.po<0):=qc
 have c4:¬((1048576:Int)<e.po):=qc
 have c5:¬(e.sz<1):=qc
 have c6:¬((1048576:Int)<e.sz):=qc
 have c7:(0:Int)<((i+1:Nat):Int):=qc
 have c3':¬(p.po+p.sz<0):=qc
 have c4':¬((1048576:Int)<p.po+p.sz):=qc
 have eg:(slt e.nm p.nm||decide (e.nm=p.nm))=!Yq e.nm p.nm:=by unfold Yq;simp
 rw[eg]at lq
 conv=>lhs;rw[kR]
 generalize((i+2:Nat):Int)=J at*
 generalize((i+1:Nat):Int)=I at*
 generalize qr jl l=R at*
 unfold jl at ix iy
 generalize Yq e.nm p.nm=G at*
 generalize st e.nm=N at*
 generalize st p.nm=M at*
 cases G
 ·simp at lq
  simp[hi,hlt,ix,iy,qm,qJ,qC,sl,c1,c2,c3,c4,c5,c6,c7,w,w1,lq,Qq,vu,Wj]
 ·simp at lq
  simp[hi,hlt,ix,iy,qm,qJ,qC,sl,c1,c2,c3,c4,c5,c6,c7,w,w1,w2,lq,cs,c3',c4',Qq,vu,Zv,Zu]
theorem Ww:∀(r:List Ie) (i:Nat) (p:Ie),l.drop (i+1)=r->l[i]?=some p->B35_4 (S k 3 (qr jl l)) (S k' 3 (qr jl l)) (.int .i64 (l.length:Int)) (.int .i64 ((i+1:Nat):Int)) hp=some (.sc (.int .i64 (if xV p.nm (r.map Ie.nm)=true then 0 else 8)),hp):=by
 intro r
 induction r with
 |nil=>
  intro i p hr hq
  have h1:=yp hr
  have hlt:¬(((i+1:Nat):Int)<(l.length:Int)):=qc
  rw[kR]
  generalize((i+1:Nat):Int)=I at*
  simp[hlt,xV]
 |cons e r ih=>
  intro i p hr hq
  obtain⟨e1,e2,hi,e3⟩:=jB hr
  have z:=ih (i+1) e e2 e1
  rw[qce l h k k' hp i e p e1 hq]
  by_cases hg:Yq e.nm p.nm=true
  ·rw[if_pos hg,z]
   have er:xV p.nm ((e::r).map Ie.nm)=xV e.nm (r.map Ie.nm):=by
    show(Yq e.nm p.nm&&xV e.nm (r.map Ie.nm))=_
    rw[hg,Bool.true_and]
   rw[er]
  ·rw[if_neg hg]
   have er:xV p.nm ((e::r).map Ie.nm)=false:=by
    show(Yq e.nm p.nm&&xV e.nm (r.map Ie.nm))=_
    have:Yq e.nm p.nm=false:=by simpa using hg
    rw[this,Bool.false_and]
   rw[er]
   rfl
theorem wq:run cxX 35 [S k 3 (qr jl l)] hp=some (.sc (.int .i64 (if jp (l.map Ie.nm)=true then 0 else 8)),hp):=by
 have h5:=h.len
 have ln:=fun k=>ZZ jl 3 qf k (l:=l) (fun x _=>xd x)
 have c1:¬((1000:Int)<(l.length:Int)):=qc
 have b4:B35_4 (S k 3 (qr jl l)) (S (rk k) 3 (qr jl l)) (.int .i64 (l.length:Int)) (.int .i64 0) hp=some (.sc (.int .i64 (if jp (l.map Ie.nm)=true then 0 else 8)),hp):=by
  cases hl:l with
  |nil=>
   rw[kR]
   simp[jp]
  |cons e r=>
   have e0:l[0]?=some e:=by rw[hl];rfl
   have o:=qcf l h k (rk k) hp 0 e e0 rfl
   have z:=Ww l h k (rk k) hp r 0 e (by rw[hl];rfl) e0
   rw[<-hl]
   have o':B35_4 (S k 3 (qr jl l)) (S (rk k) 3 (qr jl l)) (.int .i64 (l.length:Int)) (.int .i64 0) hp=_:=o.trans z
   rw[o',hl]
   rfl
 rw[E35]
 generalize(if jp (l.map Ie.nm)=true then(0:Int)else 8)=A at*
 generalize qr jl l=R at*
 simp[ln,c1,b4]
end
def xB(i:Nat)(e:Ie):List Int:=(if i=0 then uv e.po.toNat else [])++([(e.nm.length:Int)]++e.nm++uv e.sz.toNat)
def xR:List Ie->Nat->List Int
 |[],_=>[]
 |e::r,i=>xB i e++xR r (i+1)
def xH(l:List Ie):List Int:=uv l.length++xR l 0
def xY(l:List Ie):List Int:=qN (xH l)
theorem Wx{i:Nat}{e:Ie}(h1:e.nm.length<=255)(h2:e.po<=1048576)(h3:e.sz<=1048576):(xB i e).length<=276:=by
 have u1:=yi (n:=e.po.toNat) qc
 have u2:=yi (n:=e.sz.toNat) qc
 unfold xB
 simp only[qje,qla]
 split
 ·omega
 ·simp only[qk0];omega
theorem Xg(n:Nat):∀x∈uv n,0<=x/\x<256:=by
 intro x hx
 exact qd4 n x hx
section
variable (l:List Ie)(h:Xok l)(k b:Nat)
include h
theorem Kj(i:Nat)(e:Ie)(he:l[i]?=some e) (Z:List Int) (hZ:Z.length<=600000) (hp:Hp) (hw:hp.rd b 0=some (Wc Z)) (x20:AV) (v21:Value):
 B18_11 (.ptr b 0 0) x20 v21 (.int .i64 (i:Int)) (jl e) hp=B18_7 (.ptr b 0 0) x20 v21 (.int .i64 ((i+1:Nat):Int)) (hp.put b 0 (Wc (Z++([(e.nm.length:Int)]++e.nm++uv e.sz.toNat)))):=by
 have hi:=(qjd.mp he).1
 have hm:=qjj he
 have h1:=h.nl e hm;have h4:=h.sz e hm;have h5:=h.len
 have sl:=kX e.nm
 have sb:=wm (h.nb e hm)
 have sb':List.map (fun x:UInt8=>AV.sc (.int .u8 ((x.toNat:Nat):Int))) (jm e.nm)=LI .u8 e.nm:=sb
 have ass:Qk (st e.nm)=some ⟨(jm e.nm).toArray⟩:=rfl
 have w1:IntKind.u8.wrap (e.nm.length:Int)=(e.nm.length:Int):=kS qc qc
 have w2:IntKind.u64.wrap e.sz=((e.sz.toNat:Nat):Int):=by rw[xr]<;>omega
 have w3:IntKind.i64.wrap ((i:Int)+1)=((i+1:Nat):Int):=qh
 have u2:=yi (n:=e.sz.toNat) qc
 have b1:=yk b Z (e.nm.length:Int) qc hp hw
 have b2:=fun k=>jC b (Z++[(e.nm.length:Int)]) e.nm k qg (hp.put b 0 (Wc (Z++[(e.nm.length:Int)]))) (qF _ _ _)
 have b3:=kZ b e.sz.toNat (Z++[(e.nm.length:Int)]++e.nm) qc qg (hp.put b 0 (Wc (Z++[(e.nm.length:Int)]++e.nm))) (qF _ _ _)
 rw[zr]at b2 b3
 have ea:Z++[(e.nm.length:Int)]++e.nm++uv e.sz.toNat=Z++([(e.nm.length:Int)]++e.nm++uv e.sz.toNat):=qe
 rw[ea]at b3
 rw[Wn]
 unfold jl
 generalize hp.put b 0 (Wc (Z++([(e.nm.length:Int)]++e.nm++uv e.sz.toNat)))=H3 at*
 generalize hp.put b 0 (Wc (Z++[(e.nm.length:Int)]++e.nm))=H2 at*
 generalize hp.put b 0 (Wc (Z++[(e.nm.length:Int)]))=H1 at*
 generalize((i+1:Nat):Int)=J at*
 generalize((e.sz.toNat:Nat):Int)=Q at*
 generalize st e.nm=N at*
 generalize LI .u8 e.nm=NB at*
 simp[-List.map_map,qm,sl,qbl,w1,b1,ass,sb,sb',b2,wX,w2,b3,w3]
theorem KV:∀(r:List Ie) (i:Nat) (Z:List Int) (hp:Hp),l.drop i=r->i<=l.length->Z.length<=30+276*i->(∀n∈Z,0<=n/\n<256)->hp.rd b 0=some (Wc Z)->
 ∃hp',B18_7 (.ptr b 0 0) (S k 3 (qr jl l)) (.int .i64 (l.length:Int)) (.int .i64 (i:Int)) hp=some (.tup [S 1 1 (LI .u8 (qN (Z++xR r i))),.sc (.int .i64 0)],hp'):=by
 have h5:=h.len
 intro r
 induction r with
 |nil=>
  intro i Z hp hr hi hZ h8 hw
  have h1:=yp hr
  have hlt:¬((i:Int)<(l.length:Int)):=qc
  have wb:=yz b Z qc hp hw
  have cp:=yA 0 Z qc h8 hp0
  refine⟨hp,?_⟩
  rw[Qr]
  simp[hlt,wb,cp,xR]
 |cons e r ih=>
  intro i Z hp hr hi hZ h8 hw
  obtain⟨e1,e2,hi',e3⟩:=jB hr
  have hm:=qjj e1
  have n1:=h.nl e hm;have n2:=h.po e hm;have n3:=h.sz e hm;have n4:=h.nb e hm
  have xl:=Wx (i:=i) n1.2 n2.2 n3.2
  have hlt:(i:Int)<(l.length:Int):=qc
  have ix:=xe jl 3 qf k (fun x _=>xd x) e1
  have u1:=yi (n:=e.po.toNat) qc
  have r8:∀n∈Z++xB i e,0<=n/\n<256:=by
   intro n hn
   rcases qjp.mp hn with q|q
   ·exact h8 n q
   ·unfold xB at q
    rcases qjp.mp q with q|q
    ·split at q
     ·exact Xg _ n q
     ·cases q
    ·rcases qjp.mp q with q|q
     ·rcases qjp.mp q with q|q
      ·rw[qke.mp q];omega
      ·exact n4 n q
     ·exact Xg _ n q
  have er:xR (e::r) i=xB i e++xR r (i+1):=rfl
  have b7:B18_7 (.ptr b 0 0) (S k 3 (qr jl l)) (.int .i64 (l.length:Int)) (.int .i64 (i:Int)) hp=B18_7 (.ptr b 0 0) (S k 3 (qr jl l)) (.int .i64 (l.length:Int)) (.int .i64 ((i+1:Nat):Int)) (hp.put b 0 (Wc (Z++xB i e))):=by
   by_cases h0:i=0
   ·subst h0
    have h0:(0:Nat)=0:=rfl
    have hpos:0<l.length:=hi'
    have ix0:zN 3 (S k 3 (qr jl l)) (.int .i64 0)=some (jl e):=ix
    have w2:IntKind.u64.wrap e.po=((e.po.toNat:Nat):Int):=by rw[xr]<;>omega
    have wu:=kZ b e.po.toNat Z qc qc hp hw
    have b11:=Kj l h b 0 e e1 (Z++uv e.po.toNat) (by rw[qje];omega) (hp.put b 0 (Wc (Z++uv e.po.toNat))) (qF _ _ _) (S k 3 (qr jl l)) (.int .i64 (l.length:Int))
    rw[zr]at b11
    have ex:Z++uv e.po.toNat++([(e.nm.length:Int)]++e.nm++uv e.sz.toNat)=Z++xB 0 e:=by unfold xB;rw[if_pos h0,qkk]
    rw[ex]at b11
    rw[<-b11]
    conv=>lhs;rw[Qr]
    generalize hp.put b 0 (Wc (Z++uv e.po.toNat))=H1 at*
    generalize((e.po.toNat:Nat):Int)=Q at*
    clear b11
    generalize qr jl l=R at*
    unfold jl at ix0⊢
    generalize st e.nm=N at*
    simp[hpos,ix0,qm,qJ,qC,wX,w2,wu]
   ·have b11:=Kj l h b i e e1 Z qc hp hw (S k 3 (qr jl l)) (.int .i64 (l.length:Int))
    have ex:Z++([(e.nm.length:Int)]++e.nm++uv e.sz.toNat)=Z++xB i e:=by unfold xB;rw[if_neg h0,qj3]
    rw[ex]at b11
    have hz:¬((i:Int)=0):=qc
    rw[<-b11]
    conv=>lhs;rw[Qr]
    clear b11
    generalize qr jl l=R at*
    unfold jl at ix⊢
    generalize st e.nm=N at*
    simp[hi',hlt,ix,qm,qJ,qC,h0,hz]
  obtain⟨hp',z⟩:=ih (i+1) (Z++xB i e) (hp.put b 0 (Wc (Z++xB i e))) e2 qc (by rw[qje];omega) r8 (qF _ _ _)
  refine⟨hp',?_⟩
  rw[b7,z,er,qkk]
end
theorem WV(l:List Ie)(h:Xok l)(k:Nat)(hp:Hp):∃hp',run cxX 18 [S k 3 (qr jl l)] hp=some (if jp (l.map Ie.nm)=true then .tup [S 1 1 (LI .u8 (xY l)),.sc (.int .i64 0)]else .tup [S 2 1 [],.sc (.int .i64 8)],hp'):=by
 have h5:=h.len
 have ck:=wq l h (rk k) hp0
 have ln:=fun k=>ZZ jl 3 qf k (l:=l) (fun x _=>xd x)
 have u1:=yi (n:=l.length) qc
 have w1:IntKind.u64.wrap (l.length:Int)=(l.length:Int):=by rw[xr]<;>omega
 have wc0:(hp.new [S 2 1 []]).rd hp.next 0=some (Wc []):=yG hp _
 have wu:=kZ hp.next l.length [] qc qg (hp.new [S 2 1 []]) wc0
 rw[qj3]at wu
 by_cases hr:jp (l.map Ie.nm)=true
 ·rw[if_pos hr]at ck⊢
  obtain⟨hp',z⟩:=KV l h (rk k) hp.next l 0 (uv l.length) ((hp.new [S 2 1 []]).put hp.next 0 (Wc (uv l.length))) rfl (qj4 _) qc (Xg _) (qF _ _ _)
  have z:B18_7 (.ptr hp.next 0 0) (S (rk k) 3 (qr jl l)) (.int .i64 (l.length:Int)) (.int .i64 0) ((hp.new [S 2 1 []]).put hp.next 0 (Wc (uv l.length)))=some (.tup [S 1 1 (LI .u8 (xY l)),.sc (.int .i64 0)],hp'):=z
  refine⟨hp',?_⟩
  rw[E18]
  generalize(hp.new [S 2 1 []]).put hp.next 0 (Wc (uv l.length))=H1 at*
  generalize qr jl l=R at*
  generalize LI .u8 (xY l)=Y at*
  simp[ck,ln,wX,w1,wu,z]
 ·rw[if_neg hr]at ck⊢
  refine⟨hp,?_⟩
  rw[E18]
  generalize qr jl l=R at*
  simp[ck]
def vk(p:Frm×Nat):List AV:=YZ p.1 (rk p.2)
theorem vj(p:Frm×Nat):El vk 3 p:=⟨rfl,by simp[vk,YZ],by simp[vk,YZ]⟩
def hdB:List Int:=[72,69,82,66,49,10]
def zY:List (Frm×Nat)->Nat->List Ie
 |[],_=>[]
 |f::r,a=>⟨f.1.nm,a,(jN f.1).length⟩::zY r (a+(jN f.1).length)
def wS:List (Frm×Nat)->List Int
 |[]=>[]
 |f::r=>jN f.1++wS r
def zV(a n:Nat):List Int:=qN (jr a++jr n)
theorem vW(a n:Nat):(zV a n).length=12:=by unfold zV;rw[yj,qje,zC,zC]
theorem KK:∀(l:List (Frm×Nat)) (a:Nat),(zY l a).map Ie.nm=l.map (fun p=>p.1.nm)
 |[],_=>rfl
 |f::r,a=>by
  show f.1.nm::(zY r _).map Ie.nm=_
  rw[KK r]
  rfl
theorem xk:∀(l:List (Frm×Nat)) (a:Nat),(zY l a).length=l.length
 |[],_=>rfl
 |f::r,a=>by
  show(zY r _).length+1=_
  rw[xk r]
  rfl
section
variable (nE nB b:Nat)
theorem VW(es:List Ie)(hx:Xok es)(Z:List Int)(x29:AV)(i:Nat)(hp:Hp)(hb:b<hp.next)(hw:hp.rd b 0=some (Wc Z))(hs:Z.length+(xY es).length+12<=900000)(hs2:Z.length+(xY es).length+12<=nB):
 ∃hp',B6_8 (.ptr b 0 0) (S 2 3 (qr jl es)) x29 (.int .i64 (i:Int)) (.int .i64 (i:Int)) [.sc (.int .i64 (nE:Int)),.sc (.int .i64 (nB:Int))] hp=
  some (if jp (es.map Ie.nm)=true then .tup [S 1 1 (LI .u8 (Z++xY es++zV Z.length (xY es).length)),.sc (.int .i64 0)]else .tup [S 2 1 [],.sc (.int .i64 8)],hp'):=by
 have wl:=wt b Z hp hw
 obtain⟨g,xp⟩:=WV es hx 3 hp0
 by_cases hr:jp (es.map Ie.nm)=true
 ·rw[if_pos hr]at xp⊢
  have p1:=fun k=>jC b Z (xY es) k qc hp hw
  obtain⟨H1,hH1⟩:∃H1,H1=hp.put b 0 (Wc (Z++xY es)):=⟨_,rfl⟩
  have r1:H1.rd b 0=some (Wc (Z++xY es)):=by rw[hH1];exact qF _ _ _
  have n1:b≠H1.next:=by have:H1.next=hp.next:=by rw[hH1];rfl
                        omega
  obtain⟨H2,hH2⟩:∃H2,H2=H1.new [S 2 1 []]:=⟨_,rfl⟩
  have c0:H2.rd H1.next 0=some (Wc []):=by rw[hH2];exact yG H1 _
  have w1:IntKind.u32.wrap (Z.length:Int)=(Z.length:Int):=zq qc qc
  have w2:IntKind.u32.wrap ((xY es).length:Int)=((xY es).length:Int):=zq qc qc
  have f1:=kY H1.next Z.length [] qe qc H2 c0
  rw[qj3]at f1
  have f2:=kY H1.next (xY es).length (jr Z.length) (by rw[zC];decide) qc (H2.put H1.next 0 (Wc (jr Z.length))) (qF _ _ _)
  rw[zr]at f2
  have f3:=yz H1.next (jr Z.length++jr (xY es).length) (by rw[qje,zC,zC];decide) (H2.put H1.next 0 (Wc (jr Z.length++jr (xY es).length))) (qF _ _ _)
  have f4:=yA 0 (jr Z.length++jr (xY es).length) (by rw[qje,zC,zC];decide) (fun x hx=>(qjp.mp hx).elim (kh x) (kh x)) hp0
  have eF:qN (jr Z.length++jr (xY es).length)=zV Z.length (xY es).length:=rfl
  rw[eF]at f4
  have fl:=vW Z.length (xY es).length
  obtain⟨H3,hH3⟩:∃H3,H3=H2.put H1.next 0 (Wc (jr Z.length++jr (xY es).length)):=⟨_,rfl⟩
  rw[<-hH3]at f2 f3
  have r3:H3.rd b 0=some (Wc (Z++xY es)):=by
   rw[hH3,Vl _ _ n1,hH2,Vm _ _ n1]
   exact r1
  have p2:=fun k=>jC b (Z++xY es) (zV Z.length (xY es).length) k (by rw[qje,fl];omega) H3 r3
  obtain⟨H4,hH4⟩:∃H4,H4=H3.put b 0 (Wc (Z++xY es++zV Z.length (xY es).length)):=⟨_,rfl⟩
  rw[<-hH4]at p2
  have r4:H4.rd b 0=some (Wc (Z++xY es++zV Z.length (xY es).length)):=by rw[hH4];exact qF _ _ _
  have wl2:=wt b _ H4 r4
  have wb:=yz b _ (by rw[qje,qje,fl];omega) H4 r4
  have ll:((Z++xY es++zV Z.length (xY es).length).length:Int)=((Z.length+(xY es).length+12:Nat):Int):=by rw[qje,qje,fl]
  rw[ll]at wl2
  have c1:¬((nB:Int)<((Z.length+(xY es).length+12:Nat):Int)):=qc
  rw[<-hH1]at p1
  refine⟨H4,?_⟩
  rw[Jq]
  clear hH3 hH4 eF
  generalize H2.put H1.next 0 (Wc (jr Z.length))=H5 at*
  generalize LI .u8 (Z++xY es++zV Z.length (xY es).length)=Y at*
  generalize LI .u8 (zV Z.length (xY es).length)=F at*
  generalize LI .u8 (jr Z.length++jr (xY es).length)=W at*
  generalize((Z.length+(xY es).length+12:Nat):Int)=N at*
  generalize qr jl es=R at*
  have lx:∀k,jq (S k 1 (LI .u8 (xY es)))=some (xY es).length:=fun k=>by rw[zg];simp
  generalize(xY es).length=M at*
  generalize LI .u8 (xY es)=X at*
  subst hH2
  simp[-zg,wl,xp,p1,Jh,w1,f1,lx,w2,f2,f3,f4,p2,wl2,qm,c1,wb]
 ·rw[if_neg hr]at xp⊢
  refine⟨hp,?_⟩
  rw[Jq]
  generalize qr jl es=R at*
  simp[wl,xp]
theorem XT(l:List (Frm×Nat))(k:Nat)(hl:∀p∈l,p.1.Ok)(hn:l.length<=1000):∀(r:List (Frm×Nat)) (i:Nat) (es:List Ie) (Z:List Int) (hp:Hp),l.drop i=r->i<=l.length->Xok (es++zY r Z.length)->es.length<=1000->b<hp.next->hp.rd b 0=some (Wc Z)->
 (Z++wS r).length+(xY (es++zY r Z.length)).length+12<=900000->(Z++wS r).length+(xY (es++zY r Z.length)).length+12<=nB->
 ∃hp',B6_8 (.ptr b 0 0) (S 2 3 (qr jl es)) (S k 3 (qr vk l)) (.int .i64 (l.length:Int)) (.int .i64 (i:Int)) [.sc (.int .i64 (nE:Int)),.sc (.int .i64 (nB:Int))] hp=
  some (if jp ((es++zY r Z.length).map Ie.nm)=true then .tup [S 1 1 (LI .u8 (Z++wS r++xY (es++zY r Z.length)++zV (Z++wS r).length (xY (es++zY r Z.length)).length)),.sc (.int .i64 0)]else .tup [S 2 1 [],.sc (.int .i64 8)],hp'):=by
 intro r
 induction r with
 |nil=>
  intro i es Z hp hr hi hx he hb hw hs hs2
  have h1:=yp hr
  have e1:zY [] Z.length=[]:=rfl
  have e2:Z++wS []=Z:=qko Z
  rw[e1,qko]at hx
  rw[e1,e2,qko]at hs hs2⊢
  have e3:i=l.length:=qc
  subst e3
  exact VW nE nB b es hx Z _ l.length hp hb hw hs hs2
 |cons f r ih=>
  intro i es Z hp hr hi hx he hb hw hs hs2
  obtain⟨e1,e2,hi',e3⟩:=jB hr
  have hf:=hl f (qjj e1)
  have hlt:(i:Int)<(l.length:Int):=qc
  have ix:=xe vk 3 qf k (fun x _=>vj x) e1
  obtain⟨g,fp⟩:=Vc f.1 (rk f.2) hf hp0
  have wl:=wt b Z hp hw
  have yl:=Jd f.1
  have el:(Z++wS (f::r)).length=Z.length+(jN f.1).length+(wS r).length:=by
   show(Z++(jN f.1++wS r)).length=_
   simp only[qje];omega
  rw[el]at hs hs2
  have p1:=fun k=>jC b Z (jN f.1) k qc hp hw
  have ap:=qbt jl 3 32 2 qf (.inr rfl) (l:=es) (x:=⟨f.1.nm,Z.length,(jN f.1).length⟩) (fun x _=>xd x) (xd _) qc
  have hn1:((hp.put b 0 (Wc (Z++jN f.1)))).next=hp.next:=rfl
  have ee:es++zY (f::r) Z.length=(es++[⟨f.1.nm,Z.length,(jN f.1).length⟩])++zY r (Z++jN f.1).length:=by
   show es++(_::zY r (Z.length+(jN f.1).length))=_
   rw[qje,qkk]
   rfl
  have ez:Z++wS (f::r)=Z++jN f.1++wS r:=by rw[qkk];rfl
  have h32:es.length+1<=1000:=by
   have:=hx.len
   rw[ee]at this
   simp only[qje,qla]at this
   omega
  rw[ee]at hx hs hs2⊢
  rw[ez]
  have ez2:(Z++jN f.1++wS r).length=Z.length+(jN f.1).length+(wS r).length:=by simp only[qje]
  obtain⟨hp',z⟩:=ih (i+1) (es++[⟨f.1.nm,Z.length,(jN f.1).length⟩]) (Z++jN f.1) (hp.put b 0 (Wc (Z++jN f.1))) e2 qc hx qg (by rw[hn1];exact hb) (qF _ _ _) (by rw[ez2];exact hs) (by rw[ez2];exact hs2)
  refine⟨hp',?_⟩
  rw[<-z]
  have w1:IntKind.i64.wrap ((Z.length:Int)+((jN f.1).length:Int))=((Z.length+(jN f.1).length:Nat):Int):=qh
  have w2:IntKind.i64.wrap ((i:Int)+1)=((i+1:Nat):Int):=qh
  have c1:¬((nB:Int)<((Z.length+(jN f.1).length:Nat):Int)):=qc
  have lx:∀k,jq (S k 1 (LI .u8 (jN f.1)))=some (jN f.1).length:=fun k=>by rw[zg];simp
  clear z ih hx hs hs2 ee ez ez2 el yl hn1
  conv=>lhs;rw[Jq]
  generalize hp.put b 0 (Wc (Z++jN f.1))=H1 at*
  generalize((i+1:Nat):Int)=J at*
  generalize((Z.length+(jN f.1).length:Nat):Int)=Q at*
  generalize qr jl (es++[⟨f.1.nm,Z.length,(jN f.1).length⟩])=R2 at*
  generalize qr jl es=R at*
  generalize qr vk l=RF at*
  generalize(jN f.1).length=M at*
  generalize LI .u8 (jN f.1)=Y at*
  unfold vk YZ at ix
  unfold YZ at fp
  unfold jl at ap
  generalize st f.1.nm=N at*
  generalize LI .u8 f.1.pl=PL at*
  generalize Z.length=ZL at*
  simp[-zg,hi',hlt,ix,qJ,qm,qC,fp,wl,lx,w1,c1,ap,p1,w2]
end
theorem Ys(f:Frm×Nat)(r:List (Frm×Nat)):wS (f::r)=jN f.1++wS r:=rfl
theorem Jg:∀(l:List (Frm×Nat)) (a:Nat),(∀p∈l,p.1.Ok)->a+(wS l).length<=900000->l.length<=1000->Xok (zY l a)
 |[],a,_,_,_=>by
  exact⟨(fun e he=>nomatch he),(fun e he=>nomatch he),(fun e he=>nomatch he),(fun e he=>nomatch he),(fun i e e' h=>by cases h),qj4 _⟩
 |f::r,a,hl,hs,hn=>by
  have hf:=hl f qe
  have yl:=Jd f.1
  have h1:=hf.n1
  rw[Ys,qje]at hs
  simp only[qju]at hn
  have ih:=Jg r (a+(jN f.1).length) (fun p hp=>hl p (by simp[hp])) qc qc
  have ec:zY (f::r) a=⟨f.1.nm,a,(jN f.1).length⟩::zY r (a+(jN f.1).length):=rfl
  rw[ec]
  refine⟨fun e he=>?_,fun e he=>?_,fun e he=>?_,fun e he=>?_,fun i e e' h h'=>?_,by rw[qju,xk];omega⟩
  ·rcases qjf.mp he with q|q
   ·rw[q];exact h1
   ·exact ih.nl e q
  ·rcases qjf.mp he with q|q
   ·rw[q];exact hf.nb
   ·exact ih.nb e q
  ·rcases qjf.mp he with q|q
   ·rw[q];show 0<=(a:Int)/\(a:Int)<=1048576;omega
   ·exact ih.po e q
  ·rcases qjf.mp he with q|q
   ·rw[q];show 1<=((jN f.1).length:Int)/\((jN f.1).length:Int)<=1048576;omega
   ·exact ih.sz e q
  ·cases i with
   |zero=>
    have q0:(⟨f.1.nm,a,(jN f.1).length⟩:Ie)=e:=qjm h
    have h':(zY r (a+(jN f.1).length))[0]?=some e':=by simpa using h'
    cases r with
    |nil=>cases h'
    |cons g r=>
     have h2:(zY (g::r) (a+(jN f.1).length))[0]?=some ⟨g.1.nm,((a+(jN f.1).length:Nat):Int),(jN g.1).length⟩:=rfl
     have h3:(⟨g.1.nm,((a+(jN f.1).length:Nat):Int),(jN g.1).length⟩:Ie)=e':=qjm (h2.symm.trans h')
     rw[<-h3,<-q0]
     show((a+(jN f.1).length:Nat):Int)=(a:Int)+((jN f.1).length:Int)
     omega
   |succ i=>exact ih.cs i e e' (by simpa using h) (by simpa using h')
def arY(l:List (Frm×Nat)):List Int:=hdB++wS l++xY (zY l 6)++zV (hdB++wS l).length (xY (zY l 6)).length
theorem xU(en bn:Int)(hp:Hp):run cxX 14 [.agg [.sc (.int .i64 en),.sc (.int .i64 bn)]] hp=some (.agg [.sc (.int .i64 (min (max en 0) 1000)),.sc (.int .i64 (min (max bn 0) 1048576))],hp):=by
 rw[E14]
 simp[qm]
theorem QO(l:List (Frm×Nat))(k:Nat)(hl:∀p∈l,p.1.Ok)(hn:l.length<=1000)(hs:(hdB++wS l).length+(xY (zY l 6)).length+12<=900000)(hp:Hp):
 ∃hp',run cxX 6 [S k 3 (qr vk l),.agg [.sc (.int .i64 1000),.sc (.int .i64 1048576)]] hp=some (if jp (l.map (fun p=>p.1.nm))=true then .tup [S 1 1 (LI .u8 (arY l)),.sc (.int .i64 0)]else .tup [S 2 1 [],.sc (.int .i64 8)],hp'):=by
 have wi:=xU 1000 1048576 hp0
 have m1:min (max (1000:Int) 0) 1000=1000:=qf
 have m2:min (max (1048576:Int) 0) 1048576=1048576:=qf
 rw[m1,m2]at wi
 have ln:=fun k=>ZZ vk 3 qf k (l:=l) (fun x _=>vj x)
 have c1:¬((1000:Int)<(l.length:Int)):=qc
 have wc0:(hp.new [S 2 1 []]).rd hp.next 0=some (Wc []):=yG hp _
 have p1:=jC hp.next [] hdB 0 qf (hp.new [S 2 1 []]) wc0
 rw[qj3]at p1
 have e1:LI .u8 hdB=[.sc (.int .u8 72),.sc (.int .u8 69),.sc (.int .u8 82),.sc (.int .u8 66),.sc (.int .u8 49),.sc (.int .u8 10)]:=rfl
 rw[e1]at p1
 have h6:hdB.length=6:=rfl
 have ls:(hdB++wS l).length=6+(wS l).length:=by rw[qje,h6]
 have xo:=Jg l 6 hl qc hn
 obtain⟨hp',z⟩:=XT 1000 1048576 hp.next l (rk k) hl hn l 0 [] hdB ((hp.new [S 2 1 []]).put hp.next 0 (Wc hdB)) rfl (qj4 _) (by rw[qj3,h6];exact xo) qe (by show hp.next<hp.next+1;omega) (qF _ _ _)
  (by rw[qj3,h6];exact hs) (by rw[qj3,h6];omega)
 rw[qj3,h6,KK]at z
 have z:B6_8 (.ptr hp.next 0 0) (S 2 1 []) (S (rk k) 3 (qr vk l)) (.int .i64 (l.length:Int)) (.int .i64 0) [.sc (.int .i64 1000),.sc (.int .i64 1048576)] ((hp.new [S 2 1 []]).put hp.next 0 (Wc hdB))=some (if jp (l.map (fun p=>p.1.nm))=true then .tup [S 1 1 (LI .u8 (arY l)),.sc (.int .i64 0)]else .tup [S 2 1 [],.sc (.int .i64 8)],hp'):=z
 refine⟨hp',?_⟩
 rw[<-z,E6]
 generalize(hp.new [S 2 1 []]).put hp.next 0 (Wc hdB)=H1 at*
 generalize qr vk l=R at*
 simp[wi,ln,c1,p1,qC,qJ,qm]
@[simp] theorem ro_fn(f:FuncId)(c:List AV):ro (.fn f c)= .fn f c:=rfl
def Vq:List Int->Int
 |[]=>0
 |[_]=>0
 |x::y::r=>if y<=x then 8 else Vq (y::r)
def qdc(K:Int)(l:List Int):Int:=if K<1\/1024<K then 2 else if K<(l.length:Int)then 7 else Vq l
theorem BW.lt{hp:Hp}{w nb:Nat}{bs:List Bool}(h:BW hp w nb bs):nb<hp.next:=by
 by_cases hb:bs=[]
 ·rw[h.2.1 hb];exact h.1
 ·exact(h.2.2.1 hb).1
def W2(h0:Nat)(hp:Hp)(w1 n1:Nat)(b1:List Bool)(w2 n2:Nat)(b2:List Bool):Prop:=
 BW hp w1 n1 b1/\BW hp w2 n2 b2/\w1≠w2/\n1≠w2/\n1≠n2/\w1≠n2/\h0<=w1/\h0<=w2/\h0<=n1/\h0<=n2
theorem W2.one{h0:Nat}{hp hp':Hp}{w1 n1 n1' w2 n2:Nat}{b1 b2 b1':List Bool}(h:W2 h0 hp w1 n1 b1 w2 n2 b2)(s:BS hp w1 n1 hp' n1' b1'):W2 h0 hp' w1 n1' b1' w2 n2 b2/\∀c,c<h0->hp'.get c=hp.get c:=by
 obtain⟨a1,a2,d1,d2,d3,d4,e1,e2,e3,e4⟩:=h
 obtain⟨s1,s2,s3⟩:=s
 have l1:=a1.lt
 have l2:=a2.lt
 have l3:=a2.1
 have l4:=a1.1
 refine⟨⟨s1,a2.fr s2 qg qg,d1,qc,qc,d4,e1,e2,qc,e4⟩,fun c hc=>s2.2 c qc qg⟩
section
variable (l:List Nat)(k k':Nat)(hl:l.length<=4096)(h32:∀x∈l,x<4294967296)(hr:XB l)
include hl h32 hr
end
section
variable (l:List Nat)(k:Nat)(hl:l.length<=4096)(h32:∀x∈l,x<4294967296)(hr:XB l)
include hl h32 hr
end
def wrd(m j:Nat):Nat:=m/2^(64*j)%18446744073709551616
abbrev Cc(c:Nat×Nat):List AV:=[.sc (.int .u32 (c.1:Int)),.sc (.int .u64 (wrd c.2 0:Nat)),.sc (.int .u64 (wrd c.2 1:Nat)),.sc (.int .u64 (wrd c.2 2:Nat)),.sc (.int .u64 (wrd c.2 3:Nat))]
def csL(cs:List (Nat×Nat)):List AV:=cs.flatMap Cc
@[simp] theorem qi6 (cs : List (Nat × Nat)) : (csL cs).length = 5 * cs.length := by
 induction cs with
 |nil=>rfl
 |cons c r ih=>
  have e:csL (c::r)=Cc c++csL r:=rfl
  rw[e,qje,ih,qju]
  show 5+5*r.length=5*(r.length+1)
  omega
section
variable (l:List Nat)(k k':Nat)(hl:l.length<=4096)(h32:∀x∈l,x<4294967296)(hr:Xr l)
include hl h32 hr
end
def MW(hp:Hp)(m cb:Nat)(cs:List Nat):Prop:=
 m<hp.next/\cb<hp.next/\cb≠m/\hp.rd cb 0=some (LI .i64 (nz cs))/\hp.rd m 0=some [.ms cb 0 0 cs.length 1,.sc (.int .i64 (cs.sum:Nat))]
theorem MW.fr{hp hp':Hp}{m cb:Nat}{cs:List Nat}{X:List Nat}(h:MW hp m cb cs)(f:Fm X hp hp')(h1:m∉X)(h2:cb∉X):MW hp' m cb cs:=
 ⟨qjz h.1 f.1,qjz h.2.1 f.1,h.2.2.1,by rw[f.rd h.2.1 h2];exact h.2.2.2.1,by rw[f.rd h.1 h1];exact h.2.2.2.2⟩
section
variable (hp:Hp)(m cb:Nat)(cs:List Nat)(h:MW hp m cb cs)(hs:cs.sum<=1000000)(hcl:cs.length=64)
include h
include hs hcl
end
def hf(d:List Nat)(i:Nat):List Nat:=(d.take i).map (fun n=>(n+1)/2)++d.drop i
@[simp] theorem hf_len(d:List Nat)(i:Nat):(hf d i).length=d.length:=by unfold hf;simp;omega
abbrev EC(m:Nat)(s:En)(k:Nat)(n:Nat):List AV:=[.ptr m 0 0,.sc (.int .u64 (s.low:Int)),.sc (.int .u32 (s.width:Int)),.sc (.int .i64 (s.held:Int)),.sc (.int .u8 (s.last:Int)),.sc (.bool s.begun),S k 1 (LI .u8 s.out),.sc (.int .i64 (n:Int))]
section
variable (e m k n:Nat)(hk:k=1\/k=2)
include hk
end
def EW(hp:Hp)(e m cb:Nat)(s:En)(cs:List Nat)(k n:Nat):Prop:=e<hp.next/\hp.rd e 0=some (EC m s k n)/\MW hp m cb cs/\e≠m/\e≠cb
def F3(e m cb:Nat)(hp hp':Hp):Prop:=hp'.next=hp.next/\∀c,c≠e->c≠m->c≠cb->hp'.get c=hp.get c
theorem F3.trans{e m cb:Nat}{a b c:Hp}(h:F3 e m cb a b)(g:F3 e m cb b c):F3 e m cb a c:=
 ⟨by rw[g.1,h.1],fun x h1 h2 h3=>by rw[g.2 x h1 h2 h3,h.2 x h1 h2 h3]⟩
theorem EW.put{hp:Hp}{e m cb:Nat}{s s':En}{cs:List Nat}{k n k' n':Nat}(h:EW hp e m cb s cs k n):EW (hp.put e 0 (EC m s' k' n')) e m cb s' cs k' n'/\F3 e m cb hp (hp.put e 0 (EC m s' k' n')):=by
 obtain⟨h1,h2,h3,h4,h5⟩:=h
 refine⟨⟨h1,qF _ _ _,h3.fr (Fm.put (X:=[e]) hp e _ qe) (by simp;exact fun q=>h4 q.symm) (by simp;exact fun q=>h5 q.symm),h4,h5⟩,rfl,fun c c1 c2 c3=>by simp[Hp.put,c1]⟩
section
variable (e m cb k:Nat)(hk:k=1\/k=2)
include hk
end
def Vp:List Int->Int
 |[]=>0
 |[_]=>0
 |x::y::r=>if y<=x then 8 else Vp (y::r)
def qcq(l:List Int):Int:=if 4096<l.length then 7 else Vp l
theorem QX:∀{l:List Int},xn l->Vp l=0
 |[],_=>rfl
 |[_],_=>rfl
 |x::y::r,h=>by
  have h':=qjh.mp h
  have hxy:=h'.1 y qe
  show(if y<=x then 8 else Vp (y::r))=0
  rw[if_neg qc]
  exact QX h'.2
theorem QP:∀{l:List Int},Vp l=0->xn l
 |[],_=>List.Pairwise.nil
 |[_],_=>by simp
 |x::y::r,h=>by
  have h:(if y<=x then 8 else Vp (y::r))=0:=h
  split at h
  ·cases h
  ·rename_i hxy
   have ih:=QP h
   have ih':=qjh.mp ih
   refine qjh.mpr ⟨fun n hn=>?_,ih⟩
   rcases qjf.mp hn with rfl|hn
   ·omega
   ·have:=ih'.1 n hn;omega
def MsR(hp:Hp)(x:AV)(l:List Int):Prop:=(l=[]/\x=S 2 1 [])\/(l≠[]/\∃b,x= .ms b 0 0 l.length 1/\hp.rd b 0=some (LI .u32 l))
theorem MsR.len{hp:Hp}{x:AV}{l:List Int}(h:MsR hp x l):jq (ro x)=some l.length:=by
 rcases h with⟨rfl,rfl⟩|⟨_,b,rfl,_⟩
 ·simp
 ·simp
def blen(x:Nat):Nat:=if x=0 then 0 else Nat.log2 x+1
def qde(P:Int):Nat:=2^P.toNat
def qfd(P h:Int):Nat:=(h/2^(64-P).toNat).toNat
def hrow(P h:Int):Int:=min ((64-blen ((h*2^P.toNat)%18446744073709551616).toNat:Nat):Int) (64-P)+1
def qhs(P:Int)(l:List Int):Int:=if(∃n∈l,65-P<n)then 2 else 0
def hchk(P:Int)(l:List Int):Int:=if P<4\/8<P then 2 else if l.length≠qde P then 6 else qhs P l
def b8(l:List Int):List UInt8:=l.map fun n=>UInt8.ofNat n.toNat
@[simp] theorem qdx : ∀ l : List Int, zb (LI .u8 l) = some (b8 l)
 |[]=>rfl
 |x::l=>by
  have:=qdx l
  show(zb (LI .u8 l)).map _=_
  rw[this];rfl
def hmax:List Int->List Int->List Int
 |[],_=>[]
 |x::a,[]=>x::a
 |x::a,y::b=>max x y::hmax a b
@[simp] theorem qfe : ∀ a, hmax a [] = a
 |[]=>rfl
 |_::_=>rfl
def qdf(P:Int)(l:List Int)(h:Int):List Int:=if qfd P h<l.length then l.set (qfd P h) (max (l.getD (qfd P h) 0) (hrow P h))else l
def qbo(B:Int):Option Int->List Int->Int
 |_,[]=>0
 |p,n::r=>if n>=B then 2 else match p with
  |none=>qbo B (some n) r
  |some q=>if n<=q then 8 else qbo B (some n) r
def qdy(B H:Int)(l:List Int):Int:=if B<1\/B>4096\/H<1\/H>8 then 2 else qbo B none l
def Qo(B:Int)(l:List Int):Prop:=xn l/\∀n∈l,0<=n/\n<B
theorem Qo.nil(B:Int):Qo B []:=⟨List.Pairwise.nil,qe⟩
theorem Qo.mrg{B:Int}{a b:List Int}(ha:Qo B a)(hb:Qo B b):Qo B (mrg a b):=
 ⟨qaa a b ha.1 hb.1,fun n hn=>((vR n a b).mp hn).elim (ha.2 n) (hb.2 n)⟩
theorem Qo.one{B n:Int}(h:0<=n/\n<B):Qo B [n]:=⟨qe,by simpa using h⟩
theorem JQ{B:Int}:∀{l:List Int} {a:Int},xn l->(∀n∈l,a<=n/\n<B)->(l.length:Int)<=B-a\/l=[]
 |[],_,_,_=>.inr rfl
 |x::l,a,h,hb=>by
  have h':=qjh.mp h
  have hx:=hb x qe
  rcases JQ (a:=x+1) h'.2 (fun n hn=>⟨by have:=h'.1 n hn;omega,(hb n (by simp[hn])).2⟩)with h2|h2
  ·left;simp;omega
  ·left;subst h2;simp;omega
theorem Qo.len{B:Int}{l:List Int}(h:Qo B l)(hB:B<=4096):l.length<=4096:=by
 rcases JQ (a:=0) h.1 h.2 with h'|h'
 ·omega
 ·simp[h']
abbrev fl(w:Nat):AV:=.sc (.float .f64 w)
theorem qfz(x y:Operand):qq Tryz.prog .eql 4 x y (.bool true) (.bool true)=some (.bool true):=qd
theorem qf0(x y:Operand):qq Tryz.prog .eql 4 x y (.bool true) (.bool false)=some (.bool false):=qd
theorem qf1(x y:Operand):qq Tryz.prog .eql 4 x y (.bool false) (.bool true)=some (.bool false):=qd
theorem qf2(x y:Operand):qq Tryz.prog .eql 4 x y (.bool false) (.bool false)=some (.bool true):=qd
@[simp] theorem beq_bb (x y : Operand) (a b : Bool) : qq Tryz.prog .eql 4 x y (.bool a) (.bool b) = some (.bool (decide (a = b))) := by
 cases a<;>cases b
 ·exact qf2 x y
 ·exact qf1 x y
 ·exact qf0 x y
 ·exact qfz x y
def edge(w:Nat):Int:=if kg w then 1 else if w=18442240474082181120 then 2 else if w=9218868437227405312 then 3 else if w=9223372036854775808 then 4 else if w=0 then 5 else 0
def LF(l:List Nat):List AV:=l.map fun n=>.sc (.float .f64 n)
section
variable (l:List Nat)
@[simp] theorem lenF:(LF l).length=l.length:=by simp[LF]
@[simp] theorem getF?(i:Nat):(LF l)[i]?=(l[i]?).map fun n=>.sc (.float .f64 n):=by simp[LF]
@[simp] theorem getF(i:Nat)(h:i<(LF l).length):(LF l)[i]= .sc (.float .f64 (l[i]'(by simpa using h))):=by simp[LF]
@[simp] theorem dropF(i:Nat):(LF l).drop i=LF (l.drop i):=by simp[LF]
@[simp] theorem tailF:(LF l).tail=LF l.tail:=by simp[LF]
@[simp] theorem nilF:LF []=[]:=rfl
end
abbrev Ga(K M e0 e1 e2 e3 e4 e5:Int)(lo hi:Nat)(x:AV):AV:=
 .agg [.sc (.int .i64 K),.sc (.int .u32 M),.sc (.int .u32 e0),.sc (.int .u32 e1),.sc (.int .u32 e2),.sc (.int .u32 e3),.sc (.int .u32 e4),.sc (.int .u32 e5),fl lo,fl hi,x]
def plus(a b:Int):Int:=if a+b<4294967296 then a+b else 4294967295
def Ws(l:List Nat):Prop:=∀w∈l,w<18446744073709551616
def ye(n:Int):Prop:=0<=n/\n<4294967296
structure Gs where
 M:Int
 e0:Int
 e1:Int
 e2:Int
 e3:Int
 e4:Int
 e5:Int
 lo:Nat
 hi:Nat
 L:List Nat
abbrev Gs.av(g:Gs)(K:Int)(k:Nat):AV:=Ga K g.M g.e0 g.e1 g.e2 g.e3 g.e4 g.e5 g.lo g.hi (S k 1 (LF g.L))
def cnt(i:Int):List Nat->Nat
 |[]=>0
 |f::F=>(if edge f=i then 1 else 0)+cnt i F
theorem yu(i:Int){a b:List Nat}(h:a.Perm b):cnt i a=cnt i b:=by
 induction h with
 |nil=>rfl
 |cons x _ ih=>simp only[cnt,ih]
 |swap x y l=>simp only[cnt];omega
 |trans _ _ h1 h2=>rw[h1,h2]
structure GR (K : Int) (F : List Nat) (g : Gs) : Prop where
 M:g.M=F.length
 e0:g.e0=cnt 0 F
 e1:g.e1=cnt 1 F
 e2:g.e2=cnt 2 F
 e3:g.e3=cnt 3 F
 e4:g.e4=cnt 4 F
 e5:g.e5=cnt 5 F
 lo:g.lo<18446744073709551616
 hi:g.hi<18446744073709551616
 klo:kw g.lo=XF F
 khi:kw g.hi=wO F
 ws:Ws g.L
 keys:g.L.map kw=(sk (F.map kw)).take K.toNat
theorem GR.len{K:Int}{F:List Nat}{g:Gs}(h:GR K F g):g.L.length=min K.toNat F.length:=by
 have:=congrArg List.length h.keys
 rw[qkg,qkb,qez,qkg]at this
 exact this
def qir(K K':Int)(g o:Gs):Prop:=K=K'/\g.M=o.M/\(g.e0=o.e0/\g.e1=o.e1/\g.e2=o.e2/\g.e3=o.e3/\g.e4=o.e4/\g.e5=o.e5)/\kw g.lo=kw o.lo/\kw g.hi=kw o.hi/\g.L.map kw=o.L.map kw
def InI(p:Int×Int):Prop:=(0<=p.1/\p.1<18446744073709551616)/\(0<=p.2/\p.2<256)
theorem GR.same{K:Int}{F H:List Nat}{g o:Gs}(hg:GR K F g)(ho:GR K H o)(h:F.Perm H):qir K K g o:=by
 refine⟨rfl,?_,⟨?_,?_,?_,?_,?_,?_⟩,?_,?_,?_⟩
 ·rw[hg.M,ho.M,h.length_eq]
 ·rw[hg.e0,ho.e0,yu 0 h]
 ·rw[hg.e1,ho.e1,yu 1 h]
 ·rw[hg.e2,ho.e2,yu 2 h]
 ·rw[hg.e3,ho.e3,yu 3 h]
 ·rw[hg.e4,ho.e4,yu 4 h]
 ·rw[hg.e5,ho.e5,yu 5 h]
 ·rw[hg.klo,ho.klo,VD h]
 ·rw[hg.khi,ho.khi,XK h]
 ·rw[hg.keys,ho.keys,Xj (h.map kw)]
def cchk(R C:Int)(l:List Int):Int:=if R<1\/8<R\/C<1\/256<C then 2 else if(l.length:Int)≠R*C then 6 else 0
def cmrg:List Int->List Int->List Int
 |[],_=>[]
 |x::a,[]=>x::a
 |x::a,y::b=>plus x y::cmrg a b
@[simp] theorem qfq : ∀ a, cmrg a [] = a
 |[]=>rfl
 |_::_=>rfl
abbrev U32(l:List Int):Prop:=∀n∈l,0<=n/\n<4294967296
structure GN where
 M:Int
 e0:Int
 e1:Int
 e2:Int
 e3:Int
 e4:Int
 e5:Int
 lo:Nat
 hi:Nat
 L:List Nat
deriving DecidableEq
def Gs.nf(g:Gs):GN:=⟨g.M,g.e0,g.e1,g.e2,g.e3,g.e4,g.e5,kw g.lo,kw g.hi,g.L.map kw⟩
structure Gs.W (g : Gs) : Prop where
 M:ye g.M
 e0:ye g.e0
 e1:ye g.e1
 e2:ye g.e2
 e3:ye g.e3
 e4:ye g.e4
 e5:ye g.e5
 lo:g.lo<18446744073709551616
 hi:g.hi<18446744073709551616
 L:Ws g.L
 len:g.L.length<=100000
def Vr:List Nat->Int
 |[]=>0
 |[_]=>0
 |x::y::r=>if y<x then 8 else Vr (y::r)
def nanK:Nat:=18444492273895866369
def qec(g:GN):Int:=if g.lo=nanK\/g.hi=nanK then 4 else 0
def qdj(K:Int)(g:GN):Int:=if K<1\/16<K\/K<(g.L.length:Int)then 2 else if Vr g.L=0 then qec g else 8
theorem Kl:∀{l:List Nat},Up l->Vr l=0
 |[],_=>rfl
 |[_],_=>rfl
 |x::y::r,h=>by
  have h':=qjh.mp h
  have hxy:=h'.1 y qe
  show(if y<x then(8:Int)else Vr (y::r))=0
  rw[if_neg qc]
  exact Kl h'.2
theorem Kr:∀{l:List Nat},Vr l=0->Up l
 |[],_=>List.Pairwise.nil
 |[_],_=>by simp
 |x::y::r,h=>by
  have h:(if y<x then(8:Int)else Vr (y::r))=0:=h
  split at h
  ·cases h
  ·rename_i hxy
   have ih:=Kr h
   have ih':=qjh.mp ih
   refine qjh.mpr ⟨fun n hn=>?_,ih⟩
   rcases qjf.mp hn with rfl|hn
   ·omega
   ·have:=ih'.1 n hn;omega
theorem qdi{K:Int}{g:GN}:qdj K g=0↔(1<=K/\K<=16)/\(g.L.length:Int)<=K/\Up g.L/\g.lo≠nanK/\g.hi≠nanK:=by
 unfold qdj qec
 constructor
 ·intro h
  split at h
  ·cases h
  ·split at h
   ·split at h
    ·cases h
    ·rename_i h1 h2 h3
     exact⟨qc,qc,Kr h2,fun e=>h3 (.inl e),fun e=>h3 (.inr e)⟩
   ·cases h
 ·rintro⟨h1,h2,h3,h4,h5⟩
  rw[if_neg qc,if_pos (Kl h3),if_neg (fun e=>e.elim h4 h5)]
def GN.Pos(g:GN):Prop:=ye g.M/\ye g.e0/\ye g.e1/\ye g.e2/\ye g.e3/\ye g.e4/\ye g.e5
theorem Gs.W.pos{g:Gs}(h:g.W):g.nf.Pos:=⟨h.M,h.e0,h.e1,h.e2,h.e3,h.e4,h.e5⟩
structure SkN where
 kind:Int
 set:List Int
 K:Int
 hs:List Int
 P:Int
 rg:List Int
 B:Int
 H:Int
 bs:List Int
 R:Int
 C:Int
 cs:List Int
 gK:Int
 g:GN
deriving DecidableEq
def gz:Gs:=⟨0,0,0,0,0,0,0,0,0,[]⟩
def skZ:SkN:=⟨0,[],0,[],0,[],0,0,[],0,0,[],0,gz.nf⟩
def skA(x:SkN)(g:Gs)(a b c d e f:Nat):AV:=.agg [.sc (.int .u8 x.kind),S a 1 (LI .u32 x.set),.sc (.int .i64 x.K),S b 1 (LI .u64 x.hs),.sc (.int .i64 x.P),S c 1 (LI .u8 x.rg),.sc (.int .i64 x.B),.sc (.int .i64 x.H),S d 1 (LI .u32 x.bs),.sc (.int .i64 x.R),.sc (.int .i64 x.C),S e 1 (LI .u32 x.cs),
 .sc (.int .i64 x.gK),.sc (.int .u32 g.M),.sc (.int .u32 g.e0),.sc (.int .u32 g.e1),.sc (.int .u32 g.e2),.sc (.int .u32 g.e3),.sc (.int .u32 g.e4),.sc (.int .u32 g.e5),fl g.lo,fl g.hi,S f 1 (LF g.L)]
def YP(x:SkN)(v:AV):Prop:=∃g a b c d e f,g.W/\g.nf=x.g/\v=skA x g a b c d e f
structure SkN.W (x : SkN) : Prop where
 kind:0<=x.kind/\x.kind<256
 set:U32 x.set
 setL:x.set.length<=100000
 hsL:x.hs.length<=100000
 rg:∀n∈x.rg,0<=n/\n<256
 rgL:x.rg.length<=100000
 bs:U32 x.bs
 bsL:x.bs.length<=100000
 cs:U32 x.cs
 csL:x.cs.length<=100000
def skEq(x y:SkN):Prop:=x.kind=y.kind/\x.set=y.set/\(x.K=y.K/\x.hs=y.hs)/\(x.P=y.P/\x.rg=y.rg)/\(x.B=y.B/\x.H=y.H/\x.bs=y.bs)/\(x.R=y.R/\x.C=y.C/\x.cs=y.cs)/\x.gK=y.gK/\x.g=y.g
instance (x y : SkN) : Decidable (skEq x y) := by unfold skEq; infer_instance
def Yh(x:SkN):SkN:=
 if x.kind=0 then{skZ with kind:=x.kind,set:=x.set}
 else if x.kind=1 then{skZ with kind:=x.kind,K:=x.K,hs:=x.hs}
 else if x.kind=2 then{skZ with kind:=x.kind,P:=x.P,rg:=x.rg}
 else if x.kind=3 then{skZ with kind:=x.kind,B:=x.B,H:=x.H,bs:=x.bs}
 else if x.kind=4 then{skZ with kind:=x.kind,R:=x.R,C:=x.C,cs:=x.cs}
 else if x.kind=5 then{skZ with kind:=x.kind,gK:=x.gK,g:=x.g}
 else{skZ with kind:=x.kind}
def XW(x:SkN):Int:=
 if 6<=x.kind then 5 else if x≠Yh x then 4
 else if x.kind=0 then qcq x.set else if x.kind=1 then qdc x.K x.hs else if x.kind=2 then hchk x.P x.rg else if x.kind=3 then qdy x.B x.H x.bs else if x.kind=4 then cchk x.R x.C x.cs else qdj x.gK x.g
theorem YP.vl{x:SkN}{v:AV}(h:YP x v):vlF v=true/\vlV v=true:=by
 obtain⟨g,a,b,c,d,e,f,gw,gn,rfl⟩:=h
 unfold skA
 constructor<;>simp
theorem YP.ro{x:SkN}{v:AV}(h:YP x v):YP x (ro v):=by
 obtain⟨g,a,b,c,d,e,f,gw,gn,rfl⟩:=h
 refine⟨g,rk a,rk b,rk c,rk d,rk e,rk f,gw,gn,?_⟩
 simp[skA]
theorem vq{B:Int}:∀(l:List Int) (p:Option Int),qbo B p l=0->(match p with|none=>xn l|some q=>xn (q::l))/\∀n∈l,n<B
 |[],none,_=>⟨List.Pairwise.nil,qe⟩
 |[],some q,_=>⟨qe,qe⟩
 |x::l,p,h=>by
  unfold qbo at h
  split at h
  ·cases h
  ·rename_i h1
   split at h
   ·have ih:=vq l (some x) h
    refine⟨ih.1,fun n hn=>?_⟩
    rcases qjf.mp hn with rfl|hn
    ·omega
    ·exact ih.2 n hn
   ·split at h
    ·cases h
    ·rename_i q h2
     have ih:=vq l (some x) h
     refine⟨?_,fun n hn=>?_⟩
     ·have hr:xn (x::l):=ih.1
      refine qjh.mpr ⟨fun n hn=>?_,hr⟩
      rcases qjf.mp hn with rfl|hn
      ·omega
      ·have:=(qjh.mp hr).1 n hn;omega
     ·rcases qjf.mp hn with rfl|hn
      ·omega
      ·exact ih.2 n hn
theorem qa9{B H:Int}{l:List Int}(h:qdy B H l=0)(hl:U32 l):(1<=B/\B<=4096)/\(1<=H/\H<=8)/\Qo B l:=by
 unfold qdy at h
 split at h
 ·cases h
 ·have c:=vq l none h
  exact⟨qc,qc,c.1,fun n hn=>⟨(hl n hn).1,c.2 n hn⟩⟩
theorem qcp{l:List Int}:qcq l=0↔l.length<=4096/\xn l:=by
 unfold qcq
 constructor
 ·intro h
  split at h
  ·cases h
  ·exact⟨qc,QP h⟩
 ·rintro⟨h1,h2⟩
  rw[if_neg qc];exact QX h2
theorem QY:∀{l:List Int},xn l->Vq l=0
 |[],_=>rfl
 |[_],_=>rfl
 |x::y::r,h=>by
  have h':=qjh.mp h
  have hxy:=h'.1 y qe
  show(if y<=x then 8 else Vq (y::r))=0
  rw[if_neg qc]
  exact QY h'.2
theorem QQ:∀{l:List Int},Vq l=0->xn l
 |[],_=>List.Pairwise.nil
 |[_],_=>by simp
 |x::y::r,h=>by
  have h:(if y<=x then 8 else Vq (y::r))=0:=h
  split at h
  ·cases h
  ·rename_i hxy
   have ih:=QQ h
   have ih':=qjh.mp ih
   refine qjh.mpr ⟨fun n hn=>?_,ih⟩
   rcases qjf.mp hn with rfl|hn
   ·omega
   ·have:=ih'.1 n hn;omega
theorem qdb{K:Int}{l:List Int}:qdc K l=0↔(1<=K/\K<=1024)/\(l.length:Int)<=K/\xn l:=by
 unfold qdc
 constructor
 ·intro h
  split at h
  ·cases h
  ·split at h
   ·cases h
   ·exact⟨qc,qc,QQ h⟩
 ·rintro⟨h1,h2,h3⟩
  rw[if_neg qc,if_neg qc];exact QY h3
theorem VX{x:SkN}:XW x=0↔x.kind<6/\x=Yh x/\(if x.kind=0 then qcq x.set else if x.kind=1 then qdc x.K x.hs else if x.kind=2 then hchk x.P x.rg else if x.kind=3 then qdy x.B x.H x.bs else if x.kind=4 then cchk x.R x.C x.cs else qdj x.gK x.g)=0:=by
 unfold XW
 constructor
 ·intro h
  split at h
  ·cases h
  ·split at h
   ·cases h
   ·rename_i h1 h2
    exact⟨qc,by simpa using h2,h⟩
 ·rintro⟨h1,h2,h3⟩
  rw[if_neg qc,if_neg (by simpa using h2)];exact h3
structure SkN.W2 (x : SkN) : Prop extends x.W where
 set2:x.set.length<=50000
 hs2:x.hs.length<=50000
 bs2:x.bs.length<=50000
 gK2:x.kind=5->x.gK<=100000
structure Fine (x : SkN) : Prop where
 w:x.W
 c:XW x=0
 pos:x.g.Pos
theorem Fine.W2{x:SkN}(h:Fine x):x.W2:=by
 obtain⟨kd,on,sp⟩:=VX.mp h.c
 have w:=h.w
 refine⟨w,?_,?_,?_,?_⟩
 ·rw[on];unfold Yh
  by_cases k0:x.kind=0
  ·rw[if_pos k0]at sp⊢
   have:=(qcp.mp sp).1
   show x.set.length<=_;omega
  ·rw[if_neg k0]
   repeat' split
   all_goals exact qj4 _
 ·rw[on];unfold Yh
  by_cases k0:x.kind=0
  ·rw[if_pos k0];exact qj4 _
  ·rw[if_neg k0]at sp⊢
   by_cases k1:x.kind=1
   ·rw[if_pos k1]at sp⊢
    have:=qdb.mp sp
    show x.hs.length<=_;omega
   ·rw[if_neg k1]
    repeat' split
    all_goals exact qj4 _
 ·rw[on];unfold Yh
  by_cases k3:x.kind=3
  ·have n0:¬(x.kind=0):=qc
   have n1:¬(x.kind=1):=qc
   have n2:¬(x.kind=2):=qc
   rw[if_neg n0,if_neg n1,if_neg n2,if_pos k3]at sp⊢
   obtain⟨hB,hH,hg⟩:=qa9 sp w.bs
   have:=hg.len hB.2
   show x.bs.length<=_;omega
  ·repeat' split
   all_goals first|exact qj4 _|(exfalso;omega)
 ·intro k5
  have n0:¬(x.kind=0):=qc
  have n1:¬(x.kind=1):=qc
  have n2:¬(x.kind=2):=qc
  have n3:¬(x.kind=3):=qc
  have n4:¬(x.kind=4):=qc
  rw[if_neg n0,if_neg n1,if_neg n2,if_neg n3,if_neg n4]at sp
  have:=qdi.mp sp
  omega
def tn(l:List Int):List Nat:=l.map Int.toNat
@[simp] theorem tn_len(l:List Int):(tn l).length=l.length:=by simp[tn]
structure Sm where
 kind:Int
 A:Int
 B:Int
 wide:Int
 few:Bool
 hs:List Int
 fl:List (Int×Int)
structure Sm.Ok (s : Sm) : Prop where
 kind:0<=s.kind/\s.kind<256
 A:0<=s.A/\s.A<256
 B:0<=s.B/\s.B<256
 wide:0<=s.wide/\s.wide<65536
 hs:∀n∈s.hs,0<=n/\n<18446744073709551616
 fl:∀p∈s.fl,InI p
def row(n:Int)(m:Nat):List Int:=(List.range m).map fun(k:Nat)=>n+(k:Int)
def Sm.none(s:Sm):Sm:={s with hs:=[],fl:=[]}
theorem Sm.Ok.none{s:Sm}(h:s.Ok):s.none.Ok:=⟨h.kind,h.A,h.B,h.wide,by simp[Sm.none],by simp[Sm.none]⟩
structure Cl (x : SkN) (L : List AV) : Prop where
 sk:YP x (.agg L)
 len:L.length=23
 vl:L.all vl=true
 ro:L.map ro1=L
 k0:qm L 0=some (.int .u8 x.kind)
theorem YP.cl{x:SkN}{r:AV}(h:YP x r):∃L,r= .agg L/\L.length=23/\L.all AI.vl=true/\Cl x (L.map ro1):=by
 obtain⟨g,a,b,c,d,e,f,gw,gn,rfl⟩:=h
 refine⟨_,rfl,rfl,qe,⟨⟨g,rk a,rk b,rk c,rk d,rk e,rk f,gw,gn,by simp[skA]⟩,qe,qe,qe,by simp[qm]⟩⟩
def By(l:List Int):Prop:=∀x∈l,0<=x/\x<256
theorem By.app{a b:List Int}(h:By a)(g:By b):By (a++b):=fun x hx=>(qjp.mp hx).elim (h x) (g x)
theorem By.cons{a:Int}{b:List Int}(h:0<=a/\a<256)(g:By b):By (a::b):=fun x hx=>(qjf.mp hx).elim (fun e=>by rw[e];exact h) (g x)
theorem By.nil:By []:=fun x hx=>by cases hx
theorem By.uv(n:Nat):By (uv n):=qd4 n
theorem By.pk(l:List Bool):By (pk l):=fun x hx=>qe5 hx
def rb(l:List Int)(p:Nat)(s:Bool):Bool×Nat×Bool:=if s=true\/8*l.length<=p then(false,p,true)else(Qh l p,p+1,false)
section
variable (b k:Nat)(l:List Int)(p:Nat)(s:Bool)(hp:Hp)(hl:l.length<=100000000)
include hl
end
theorem qha{l r:List Int}{p m most:Nat}(h:l.drop p=uv m++r)(hm:m<=most)(hm2:m<18446744073709551616):rU l p 0 most=(m,p+(uv m).length,0):=by
 have g:=qhy 0 m r 0 0 0 rfl qc (by simpa using hm2) qc
 simp only[Nat.pow_zero,qkf,qj5]at g
 unfold rU
 rw[h,g]
 have h1:¬(most<m):=qc
 simp[h1]
section
variable (b k:Nat)(l:List Int)(hl:l.length<=1000000000)(h8:By l)
include hl h8
theorem qch{p m most:Nat}{r:List Int}(h:l.drop p=uv m++r)(hm:m<=most)(hm2:most<18446744073709551616)(hp:Hp)(hpl:p<=l.length)(hr:hp.rd b 0=some (Rc k l p 0)):
 run cxX 48 [.ptr b 0 0,.sc (.int .u64 (most:Int))] hp=some (.sc (.int .u64 (m:Int)),hp.put b 0 (Rc k l (p+(uv m).length) 0)):=by
 have a:=Va b k l most p 0 hm2 hl h8 hpl hp hr
 rw[qha h hm qc]at a
 exact a
end
section
variable (b k:Nat)(l:List Int)(hl:l.length<=1000000000)(h8:By l)
include hl h8
end
section
variable (b k:Nat)(l:List Int)(hl:l.length<=1000000000)(h8:By l)
include hl h8
end
def At(l:List Int)(p:Nat)(bs:List Bool):Prop:=p+bs.length<=8*l.length/\∀i,i<bs.length->Qh l (p+i)=bs.getD i false
theorem At.pk(bs:List Bool):At (pk bs) 0 bs:=⟨by rw[qae];omega,fun i hi=>by rw[qj5];exact Yz bs i hi⟩
theorem At.app{l:List Int}{p:Nat}{a c:List Bool}(h:At l p (a++c)):At l p a/\At l (p+a.length) c:=by
 obtain⟨h1,h2⟩:=h
 simp only[qje]at h1 h2
 refine⟨⟨qc,fun i hi=>?_⟩,⟨qc,fun i hi=>?_⟩⟩
 ·rw[h2 i qc,qjt,qjt,qjn hi]
 ·rw[qkj,h2 (a.length+i) qc,qjt,qjt,qjl qc]
  congr 2
  omega
theorem At.cons{l:List Int}{p:Nat}{a:Bool}{c:List Bool}(h:At l p (a::c)):rb l p false=(a,p+1,false)/\At l (p+1) c:=by
 have h':At l p ([a]++c):=h
 have g:=h'.app
 refine⟨?_,by simpa using g.2⟩
 have h1:=h.1
 simp only[qju]at h1
 have h2:=h.2 0 qe
 unfold rb
 rw[if_neg qg]
 simp at h2
 rw[h2]
section
variable (c br kk vI:Nat)(t:Nat)(bl:List Int)(hkk:kk<=63)(hm:vI<=100000)(hbl:bl.length<=100000000)(h8:By bl)(hne:c≠br)
include hkk hm hbl h8 hne
end
section
variable (b c br kk t:Nat)(bl:List Int)(hs:List Nat)(hkk:kk<=63)(hm:hs.length<=4096)(hbl:bl.length<=100000000)(h8:By bl)(hne:c≠br)(h64:∀x∈hs,x<18446744073709551616)(hr:Xr hs)(hq:∀g∈qfh hs,g/2^kk<=4096)
include hkk hm hbl h8 hne h64 hr hq
end
theorem JJ(hp:Hp):run cxX 7 [] hp=some (.agg [.sc (.int .i64 1000),.sc (.int .i64 1048576)],hp):=by
 rw[E7]
 simp
theorem uv0:uv 0=[0]:=by rw[uv];rfl
theorem xY0:xY []=qN [0]:=by
 have e:xY []=qN (uv 0++[]):=rfl
 rw[e,uv0]
 rfl
theorem KZ(g:AV)(hp:Hp):run cxX 26 [S 2 1 [],g] hp=some (.tup [],hp):=by
 have ins:∀g hp,run cxX 94 [S 2 1 [],.sc (.int .i64 0),.sc (.int .i64 0),g] hp=some (.tup [],hp):=by
  intro g hp
  have b1:∀g,B94_1 (S 2 1 []) (.int .i64 0) (.int .i64 0) g (.int .i64 1) hp=some (.tup [],hp):=by
   intro g
   rw[qbx]
   simp
  rw[E94]
  simp
  exact b1 _
 have b7:∀g hp,B57_7 (S 2 1 []) (.int .i64 0) g (.int .i64 20) hp=some (.tup [],hp):=by
  intro g hp
  rw[qb1]
  simp
 have b2:∀g hp,B57_2 (S 2 1 []) (.int .i64 0) g (.int .i64 20) (.int .i64 0) (.int .i64 20) hp=some (.tup [],hp):=by
  intro g hp
  rw[qb2]
  simp[ins,b7]
 have st:∀g hp,run cxX 57 [S 2 1 [],.sc (.int .i64 0),g] hp=some (.tup [],hp):=by
  intro g hp
  rw[E57]
  simp[b2]
 rw[E26]
 simp[st]
theorem Xp(hp:Hp):∃hp',run cxX 12 [S 2 1 [],.agg [.sc (.int .i64 1000),.sc (.int .i64 1048576)]] hp=some (.tup [S 1 1 (LI .u8 (arY [])),.sc (.int .i64 0)],hp'):=by
 have wi:=xU 1000 1048576 hp0
 have m1:min (max (1000:Int) 0) 1000=1000:=qf
 have m2:min (max (1048576:Int) 0) 1048576=1048576:=qf
 rw[m1,m2]at wi
 obtain⟨g,cl⟩:=QO [] 2 (fun p hp=>nomatch hp) qf (by rw[show xY (zY [] 6)=qN [0]from xY0];decide) hp0
 have cl:run cxX 6 [S 2 1 [],.agg [.sc (.int .i64 1000),.sc (.int .i64 1048576)]] hp0=some (.tup [S 1 1 (LI .u8 (arY [])),.sc (.int .i64 0)],g):=cl
 have cn:∀hp,run cxX 25 [S 2 1 []] hp=some (S 2 1 [],hp):=by
  intro hp
  have n0:VA (S 2 1 [])=some true:=rfl
  rw[E25]
  simp[n0]
 refine⟨hp,?_⟩
 rw[E12]
 generalize LI .u8 (arY [])=Y at*
 simp[wi,qC,qJ,qm,cn,KZ,qcc,cl]
theorem qcj(k:Nat)(cs:List AV)(i h:Nat)(hi:i<=h)(hh:h<=cs.length)(hne:cs≠[]):zE 1 (S k 1 cs) (some (.int .i64 (i:Int))) (some (.int .i64 (h:Int))) none=some (S 0 1 ((cs.drop i).take (h-i))):=by
 have b1:qx 0 ((cs.length:Nat):Int) none cs.length=some cs.length:=rfl
 have b2:qx 0 ((cs.length:Nat):Int) (some (.int .i64 (h:Int))) cs.length=some h:=by
  have:(0:Int)<=(h:Int)/\(h:Int)<=((cs.length:Nat):Int):=⟨qkp h,qc⟩
  simp only[qx,Zp,qjc,this,and_self,if_true,qjv]
 have b3:qx 0 ((h:Nat):Int) (some (.int .i64 (i:Int))) 0=some i:=by
  have:(0:Int)<=(i:Int)/\(i:Int)<=((h:Nat):Int):=⟨qkp i,qc⟩
  simp only[qx,Zp,qjc,this,and_self,if_true,qjv]
 have key:(qx 0 ((cs.length:Nat):Int) none cs.length).bind (fun m=>(qx 0 (m:Int) (some (.int .i64 (h:Int))) cs.length).bind fun u=>(qx 0 (u:Int) (some (.int .i64 (i:Int))) 0).bind fun l=>some (AV.sl 1 ((cs.drop (l*1)).take ((u-l)*1))))=some (AV.sl 1 ((cs.drop i).take (h-i))):=by
  rw[b1,qjc,b2,qjc,b3,qjc,qkf,qkf]
 rcases zi k 1 cs with e|e|⟨e,e'⟩
 ·rw[e];simp only[zE,if_true];exact key
 ·rw[e];simp only[zE,if_true];exact key
 ·exact absurd e' hne
theorem QS(k:Nat)(m:List Int)(hl:m.length<=900000)(h8:∀n∈m,0<=n/\n<256)(hp:Hp):run cxX 29 [S k 1 (LI .u8 (qN m))] hp=some (.sc (.bool true),hp):=by
 have r:=ZI k m ((qK m%256:Nat):Int) ((qK m/256%256:Nat):Int) ((qK m/65536%256:Nat):Int) ((qK m/16777216%256:Nat):Int) hl h8 hp
 have e:[((qK m%256:Nat):Int),((qK m/256%256:Nat):Int),((qK m/65536%256:Nat):Int),((qK m/16777216%256:Nat):Int)]=jr (qK m):=rfl
 rw[e,decide_eq_true rfl]at r
 exact r
theorem Xl(k:Nat)(hp:Hp):∃hp',run cxX 32 [S k 1 (LI .u8 (qN [0]))] hp=some (.tup [S 2 1 [],.sc (.int .i64 0)],hp'):=by
 have rs:=QS (rk k) [0] qf qf hp0
 have ln:(LI .u8 (qN [0])).length=5:=rfl
 have lk:∀k,jq (S k 1 (LI .u8 (qN [0])))=some 5:=fun k=>by rw[zg,ln]
 have sl:=ZD (rk k) (LI .u8 (qN [0])) 1 qf (fun h=>nomatch h)
 have e1:(LI .u8 (qN [0])).take 1=LI .u8 [0]:=rfl
 rw[e1]at sl
 have wr:=QL 0 [0] hp
 have r0:rk 0=0:=rfl
 rw[r0]at wr
 have tu:=qch hp.next 0 [0] qf (fun x hx=>by rw[qke.mp hx];decide) (most:=1000) (p:=0) (m:=0) (r:=[]) (by rw[uv0];rfl) qf qf (hp.new (Rc 0 [0] 0 0)) (qj4 _) (yG _ _)
 rw[uv0]at tu
 have tu:run cxX 48 [.ptr hp.next 0 0,.sc (.int .u64 1000)] (hp.new (Rc 0 [0] 0 0))=some (.sc (.int .u64 0),(hp.new (Rc 0 [0] 0 0)).put hp.next 0 (Rc 0 [0] 1 0)):=tu
 have en:=WW hp.next 0 [0] 1 0 ((hp.new (Rc 0 [0] 0 0)).put hp.next 0 (Rc 0 [0] 1 0)) qf qf (qF _ _ _)
 rw[if_neg qf]at en
 have ck:=wq [] ⟨(fun e he=>nomatch he),(fun e he=>nomatch he),(fun e he=>nomatch he),(fun e he=>nomatch he),(fun i e e' h=>by cases h),qj4 _⟩ 2 hp0
 have ck:run cxX 35 [S 2 1 []] hp0=some (.sc (.int .i64 0),hp0):=ck
 refine⟨(hp.new (Rc 0 [0] 0 0)).put hp.next 0 (Rc 0 [0] 1 0),?_⟩
 have b17:B32_17 (.ptr hp.next 0 0) (S 2 1 []) ((hp.new (Rc 0 [0] 0 0)).put hp.next 0 (Rc 0 [0] 1 0))=some (.tup [S 2 1 [],.sc (.int .i64 0)],(hp.new (Rc 0 [0] 0 0)).put hp.next 0 (Rc 0 [0] 1 0)):=by
  rw[Wk]
  generalize(hp.new (Rc 0 [0] 0 0)).put hp.next 0 (Rc 0 [0] 1 0)=H at*
  simp[en,ck]
 have b12:B32_12 (.ptr hp.next 0 0) (S 2 1 []) (.int .u64 0) (.int .i64 0) (.int .u64 0) ((hp.new (Rc 0 [0] 0 0)).put hp.next 0 (Rc 0 [0] 1 0))=some (.tup [S 2 1 [],.sc (.int .i64 0)],(hp.new (Rc 0 [0] 0 0)).put hp.next 0 (Rc 0 [0] 1 0)):=by
  rw[Wl]
  simp[b17]
 have b11:B32_11 (.ptr hp.next 0 0) (S 2 1 []) (.int .u64 0) (.int .i64 0) ((hp.new (Rc 0 [0] 0 0)).put hp.next 0 (Rc 0 [0] 1 0))=some (.tup [S 2 1 [],.sc (.int .i64 0)],(hp.new (Rc 0 [0] 0 0)).put hp.next 0 (Rc 0 [0] 1 0)):=by
  rw[Wm]
  exact b12
 have w5:IntKind.i64.wrap (5-4)=1:=qf
 have z1:IntKind.i64.wrap 1=1:=qf
 have sl:zE 1 (S (rk k) 1 (LI .u8 (qN [0]))) none (some (.int .i64 1)) none=some (S 0 1 (LI .u8 [0])):=sl
 rw[E32]
 generalize LI .u8 (qN [0])=Y at*
 generalize LI .u8 [0]=Z at*
 generalize(hp.new (Rc 0 [0] 0 0)).put hp.next 0 (Rc 0 [0] 1 0)=H at*
 generalize hp.new (Rc 0 [0] 0 0)=H0 at*
 simp[-zg,lk,rs,w5,z1,sl,wr,tu,b11]
theorem arY0:arY []=hdB++qN [0]++zV 6 5:=by
 show hdB++[]++xY []++zV (hdB++[]).length (xY []).length=_
 rw[xY0]
 rfl
theorem Vb(k:Nat)(hp:Hp):∃a t hp',run cxX 13 [S k 1 (LI .u8 (arY [])),.agg [.sc (.int .i64 1000),.sc (.int .i64 1048576)]] hp=some (.tup [.ptr a 0 0,.sc (.int .i64 0)],hp')/\hp'.rd a 0=some [t,S 2 1 []]:=by
 have wi:=xU 1000 1048576 hp0
 have m1:min (max (1000:Int) 0) 1000=1000:=qf
 have m2:min (max (1048576:Int) 0) 1048576=1048576:=qf
 rw[m1,m2]at wi
 rw[arY0]
 have ln:(LI .u8 (hdB++qN [0]++zV 6 5)).length=23:=rfl
 have lk:∀k,jq (S k 1 (LI .u8 (hdB++qN [0]++zV 6 5)))=some 23:=fun k=>by rw[zg,ln]
 have s1:=ZD (rk k) (LI .u8 (hdB++qN [0]++zV 6 5)) 6 (by rw[ln];decide) (fun h=>nomatch h)
 have e1:(LI .u8 (hdB++qN [0]++zV 6 5)).take 6=LI .u8 hdB:=rfl
 rw[e1]at s1
 have s1:zE 1 (S (rk k) 1 (LI .u8 (hdB++qN [0]++zV 6 5))) none (some (.int .i64 6)) none=some (S 0 1 (LI .u8 hdB)):=s1
 have bu:=Jk hdB
 have s2:=qey (rk k) (LI .u8 (hdB++qN [0]++zV 6 5)) .i64 11 qf (by rw[ln];decide)
 have e2:(LI .u8 (hdB++qN [0]++zV 6 5)).drop (11:Int).toNat=LI .u8 (zV 6 5):=rfl
 rw[e2]at s2
 have s3:=qcj (rk k) (LI .u8 (hdB++qN [0]++zV 6 5)) 6 11 qf (by rw[ln];decide) (fun h=>nomatch h)
 have e3:((LI .u8 (hdB++qN [0]++zV 6 5)).drop 6).take (11-6)=LI .u8 (qN [0]):=rfl
 rw[e3]at s3
 have s3:zE 1 (S (rk k) 1 (LI .u8 (hdB++qN [0]++zV 6 5))) (some (.int .i64 6)) (some (.int .i64 11)) none=some (S 0 1 (LI .u8 (qN [0]))):=s3
 generalize tg (rk k) (LI .u8 (hdB++qN [0]++zV 6 5))=t2 at s2
 have cr:=QS (rk t2) (jr 6++jr 5) qf (fun x hx=>(qjp.mp hx).elim (kh x) (kh x)) hp0
 have cr:run cxX 29 [S (rk t2) 1 (LI .u8 (zV 6 5))] hp0=some (.sc (.bool true),hp0):=cr
 have wr:=QL (rk t2) (zV 6 5) hp
 have w1:=QM hp.next (rk (rk t2)) (zV 6 5) (by rw[vW];decide) 6 qf 0 (jr 5++jr (qK (jr 6++jr 5))) rfl (hp.new (Rc (rk (rk t2)) (zV 6 5) 0 0)) (qj4 _) (yG _ _)
 have w2:=QM hp.next (rk (rk t2)) (zV 6 5) (by rw[vW];decide) 5 qf 4 (jr (qK (jr 6++jr 5))) rfl ((hp.new (Rc (rk (rk t2)) (zV 6 5) 0 0)).put hp.next 0 (Rc (rk (rk t2)) (zV 6 5) (0+4) 0)) (by rw[vW];decide) (qF _ _ _)
 rw[zr]at w2
 obtain⟨g,xt⟩:=Xl 0 hp0
 have z1:IntKind.i64.wrap (23-12)=11:=qf
 have z2:IntKind.i64.wrap 6=6:=qf
 have z3:IntKind.i64.wrap 5=5:=qf
 have z4:IntKind.i64.wrap (6+5)=11:=qf
 have z5:IntKind.i64.wrap (11+12)=23:=qf
 have z6:IntKind.i64.wrap 11=11:=qf
 have z7:IntKind.i64.wrap 23=23:=qf
 have w1:run cxX 31 [.ptr hp.next 0 0] (hp.new (Rc (rk (rk t2)) (zV 6 5) 0 0))=some (.sc (.int .u32 6),(hp.new (Rc (rk (rk t2)) (zV 6 5) 0 0)).put hp.next 0 (Rc (rk (rk t2)) (zV 6 5) (0+4) 0)):=w1
 have w2:run cxX 31 [.ptr hp.next 0 0] ((hp.new (Rc (rk (rk t2)) (zV 6 5) 0 0)).put hp.next 0 (Rc (rk (rk t2)) (zV 6 5) (0+4) 0))=some (.sc (.int .u32 5),(hp.new (Rc (rk (rk t2)) (zV 6 5) 0 0)).put hp.next 0 (Rc (rk (rk t2)) (zV 6 5) (4+4) 0)):=w2
 have ap:=fun k=>Zq .u8 [] 1 (.inl rfl) 1 qf k (hdB++qN [0]++zV 6 5) qf
 have ex:[]++(hdB++qN [0]++zV 6 5)=hdB++qN [0]++zV 6 5:=rfl
 rw[ex]at ap
 have ap:∀k,yg 1 1 (S 1 1 []) (S k 1 (LI .u8 (hdB++qN [0]++zV 6 5)))=some (S 1 1 (LI .u8 (hdB++qN [0]++zV 6 5))):=ap
 obtain⟨H1,hH1⟩:∃H1,H1=(hp.new (Rc (rk (rk t2)) (zV 6 5) 0 0)).put hp.next 0 (Rc (rk (rk t2)) (zV 6 5) (4+4) 0):=⟨_,rfl⟩
 rw[<-hH1]at w2
 obtain⟨t,hb⟩:∃t,B13_21 (S k 1 (LI .u8 (hdB++qN [0]++zV 6 5))) (.int .i64 6) (S 2 1 []) (.int .i64 6) (S 2 1 []) (.int .i64 0) (.int .i64 0) H1=some (.tup [.ptr H1.next 0 0,.sc (.int .i64 0)],H1.new [t,S 2 1 []]):=by
  refine⟨ro1 (ro1 (S 1 1 (LI .u8 (hdB++qN [0]++zV 6 5)))),?_⟩
  rw[Wo]
  generalize LI .u8 (hdB++qN [0]++zV 6 5)=Y at*
  simp[ap,qC]
 refine⟨H1.next,t,H1.new [t,S 2 1 []],?_,yG _ _⟩
 have b14:B13_14 (S k 1 (LI .u8 (hdB++qN [0]++zV 6 5))) (.int .i64 6) (.int .i64 5) [.sc (.int .i64 1000),.sc (.int .i64 1048576)] H1=some (.tup [.ptr H1.next 0 0,.sc (.int .i64 0)],H1.new [t,S 2 1 []]):=by
  rw[<-hb,Wp]
  generalize LI .u8 (hdB++qN [0]++zV 6 5)=Y at*
  generalize LI .u8 (qN [0])=X at*
  simp[-zg,z4,z6,s3,xt,qm,zg]
 rw[<-b14,E13]
 clear b14 hb ap
 have hU:jm hdB=[72,69,82,66,49,10]:=qf
 generalize LI .u8 hdB=HB at*
 generalize LI .u8 (hdB++qN [0]++zV 6 5)=Y at*
 generalize LI .u8 (zV 6 5)=F at*
 generalize LI .u8 (qN [0])=X at*
 generalize(hp.new (Rc (rk (rk t2)) (zV 6 5) 0 0)).put hp.next 0 (Rc (rk (rk t2)) (zV 6 5) (0+4) 0)=H2 at*
 generalize hp.new (Rc (rk (rk t2)) (zV 6 5) 0 0)=H0 at*
 simp[-zg,wi,qC,qJ,qm,lk,s1,bu,hU,z1,s2,cr,wr,w1,w2,qdr,z2,z3,z4,z5,z6,z7,hH1]
end Go.Proofs.YtklejdfghnnafaaGreat.AI
namespace Go.Proofs.YtklejdfghnnafaaGreat.AI
open Go Go.RowKit Go.ChangeShapes Go.WideShapes Go.ChangeAt
set_option linter.unusedVariables false
set_option linter.unusedSimpArgs false
theorem vZ{β γ:Type}(D:β->List γ)(n:Nat)(hn:0<n):∀(L:List β) (i:Nat),(∀p∈L,(D p).length=n)->(L.flatMap D)[i]?=(L[i/n]?).bind fun p=>(D p)[i%n]?
 |[],i,_=>by simp
 |p::r,i,h=>by
  have hp:=h p qe
  have e:(p::r).flatMap D=D p++r.flatMap D:=rfl
  rw[e]
  by_cases hi:i<n
  ·rw[qjn qc,Nat.div_eq_of_lt hi,qkd hi]
   rfl
  ·have ih:=vZ D n hn r (i-n) (fun q hq=>h q (by simp[hq]))
   have e1:i/n=(i-n)/n+1:=by rw[Nat.div_eq_sub_div hn qc]
   have e2:i%n=(i-n)%n:=Nat.mod_eq_sub_mod qc
   rw[qjl qc,hp,ih,e1,e2]
   rfl
theorem vY{β γ:Type}(D:β->List γ)(n:Nat):∀(L:List β),(∀p∈L,(D p).length=n)->(L.flatMap D).length=L.length*n
 |[],_=>by simp
 |p::r,h=>by
  have e:(p::r).flatMap D=D p++r.flatMap D:=rfl
  rw[e,qje,vY D n r (fun q hq=>h q (by simp[hq])),h p qe,qju,Nat.succ_mul]
  omega
section
variable {H:Type}{enc:TypeId×Value->H}{P:Program}{W:World}{fuel:Nat}{t e:TypeId}{cs:List Value}{y:DataW H×List MemPlace}
theorem qad{α:Type}[Inhabited α](C:α->List AV)(n:Nat)(hn:0<n)(Ok:α->Prop)(ht:P.underlying t=some (.slice e))(hc:P.cellsOf e=n)
 (each:∀(m:Nat) (cs':List Value) (y':DataW H×List MemPlace),DataW.trod enc P W 0 (fun _=>true) true m e cs'=some y'->cs'.length=n->
  ∃x:α,Ok x/\(C x).length=n/\(∀a∈C x,vl a=true)/\∀(i:Nat) (a:AV) (v:Value),(C x)[i]?=some a->cs'[i]?=some v->RelR (vV W) W a v)
 (h:DataW.trod enc P W 0 (fun _=>true) true fuel t cs=some y):∃k l v,cs=[v]/\RelR (vV W) W (S k n (qr C l)) v/\∀x∈l,Ok x:=by
 rcases DataW.trod_slice ht h with⟨hcs,_⟩|⟨a,len,cap,elems,rest,m,_,hcs,_,_,hl,_,hlen,hel,_,_⟩
 ·exact⟨2,[],_,hcs,.sc nil0 rfl,qe⟩
 ·have each2:∀i,i<len->∃p:α×List Value,(Ok p.1/\(C p.1).length=n/\(∀a∈C p.1,vl a=true)/\∀(i:Nat) (a:AV) (v:Value),(C p.1)[i]?=some a->p.2[i]?=some v->RelR (vV W) W a v)/\p.2.length=n/\∀j,j<n->W.cell? (a.add (i*n+j))=p.2[j]?:=by
   intro i hi
   have hb:=hel i hi
   rw[qjk qc,hc,Option.bind_eq_some_iff]at hb
   obtain⟨cs',hcs',hy'⟩:=hb
   obtain⟨_,hc2,hc3⟩:=World.cells?_some hcs'
   obtain⟨x,hx⟩:=each _ _ _ hy' hc2
   refine⟨(x,cs'),hx,hc2,fun j hj=>?_⟩
   rw[<-hc3 j hj,Addr.add_add]
  have ch:∃f:Nat->α×List Value,∀i,i<len->(Ok (f i).1/\(C (f i).1).length=n/\(∀a∈C (f i).1,vl a=true)/\∀(j:Nat) (a:AV) (v:Value),(C (f i).1)[j]?=some a->(f i).2[j]?=some v->RelR (vV W) W a v)/\(f i).2.length=n/\∀j,j<n->W.cell? (a.add (i*n+j))=(f i).2[j]?:=by
   refine⟨fun i=>if hi:i<len then(each2 i hi).choose else(default,[]),fun i hi=>?_⟩
   simp only[dif_pos hi]
   exact(each2 i hi).choose_spec
  obtain⟨f,hf⟩:=ch
  have hm:∀p∈(List.range len).map f,∃i,i<len/\p=f i:=by
   intro p hp
   obtain⟨i,hi,rfl⟩:=qj6.mp hp
   exact⟨i,by simpa using hi,rfl⟩
  have l1:∀p∈(List.range len).map f,(C p.1).length=n:=fun p hp=>by obtain⟨i,hi,rfl⟩:=hm p hp;exact(hf i hi).1.2.1
  have l2:∀p∈(List.range len).map f,p.2.length=n:=fun p hp=>by obtain⟨i,hi,rfl⟩:=hm p hp;exact(hf i hi).2.1
  have er:qr C (((List.range len).map f).map (·.1))=((List.range len).map f).flatMap (fun p=>C p.1):=by
   unfold qr
   rw[List.flatMap_map]
  have hg:∀(i:Nat),((List.range len).map f)[i]?=if i<len then some (f i)else none:=by
   intro i
   rw[qjo]
   by_cases h:i<len
   ·rw[if_pos h,qky h];rfl
   ·rw[if_neg h,qj0 (by simpa using h)];rfl
  have ll:((List.range len).map f).length=len:=qe
  refine⟨0,((List.range len).map f).map (·.1),_,hcs,?_,?_⟩
  ·have:=qbs (W:=W) (a:=a) (n:=len) (cap:=cap) (sz:=n) (cs:=qr C (((List.range len).map f).map (·.1))) (vs:=((List.range len).map f).flatMap (fun p:α×List Value=>p.2)) hn
    (by rw[er,vY _ n _ l1,ll]) (by rw[er,vY _ n _ l1,vY _ n _ l2]) hl
    (fun i v hv=>by
     have hv:=(vZ (fun p:α×List Value=>p.2) n hn _ i l2).symm.trans hv
     rw[hg]at hv
     by_cases hi:i/n<len
     ·rw[if_pos hi]at hv
      have q:=(hf _ hi).2.2 (i%n) (Nat.mod_lt _ hn)
      have e:i/n*n+i%n=i:=Nat.div_add_mod' i n
      rw[e]at q
      exact q.trans hv
     ·rw[if_neg hi]at hv;cases hv)
    (fun x hx=>by
     rw[er]at hx
     obtain⟨p,hp,hx⟩:=List.mem_flatMap.mp hx
     obtain⟨i,hi,rfl⟩:=hm p hp
     exact(hf i hi).1.2.2.1 x hx)
    (fun i x v hx hv=>by
     rw[er]at hx
     have hx:=(vZ (fun p:α×List Value=>C p.1) n hn _ i l1).symm.trans hx
     have hv:=(vZ (fun p:α×List Value=>p.2) n hn _ i l2).symm.trans hv
     rw[hg]at hx hv
     by_cases hi:i/n<len
     ·rw[if_pos hi]at hv hx
      exact(hf _ hi).1.2.2.2 _ x v hx hv
     ·rw[if_neg hi]at hv;cases hv)
   exact this (fun _=>.fr)
  ·intro x hx
   obtain⟨p,hp,rfl⟩:=qj6.mp hx
   obtain⟨i,hi,rfl⟩:=hm p hp
   exact(hf i hi).1.1
end
structure S20 where
 nm:List Int
 k:Nat
 kd:Int
 pl:List Int
 k':Nat
deriving Inhabited
def wc(x:S20):List AV:=[S x.k 1 (LI .u8 x.nm),.sc (.int .u8 x.kd),S x.k' 1 (LI .u8 x.pl)]
structure S20.Ok (x : S20) : Prop where
 k:x.k=0\/(x.k=2/\x.nm=[])
 k':x.k'=0\/(x.k'=2/\x.pl=[])
 nm:∀n∈x.nm,0<=n/\n<256
 kd:0<=x.kd/\x.kd<256
 pl:∀n∈x.pl,0<=n/\n<256
theorem xw{k:Nat}{l:List Int}(h:k=0\/(k=2/\l=[])):ro1 (S k 1 (LI .u8 l))=S k 1 (LI .u8 l):=by
 rcases h with rfl|⟨rfl,rfl⟩
 ·simp
 ·rfl
theorem xu{k:Nat}{l:List Int}:vl (S k 1 (LI .u8 l))=true:=qe
theorem Ki{x:S20}(h:x.Ok):El wc 3 x:=⟨rfl,by unfold wc;simp only[qkh,qk3,xw h.k,xw h.k',qe2],by unfold wc;simp⟩
section
variable {H:Type}{enc:TypeId×Value->H}{P:Program}{W:World}{fuel:Nat}{t e:TypeId}{cs:List Value}{y:DataW H×List MemPlace}
theorem rd_sm20{f0 f1 f2:Field}{e0 e2:TypeId}(ht:P.underlying t=some (.slice e))(he:P.underlying e=some (.struct #[f0,f1,f2])) (h0:P.underlying f0.type=some (.slice e0)) (h0e:P.underlying e0=some (.int .u8)) (h1:P.underlying f1.type=some (.int .u8)) (h2:P.underlying f2.type=some (.slice e2)) (h2e:P.underlying e2=some (.int .u8))
 (o0:f0.offset=0) (o1:f1.offset=1) (o2:f2.offset=2) (hc:P.cellsOf e=3) (c0:P.cellsOf f0.type=1) (c1:P.cellsOf f1.type=1) (c2:P.cellsOf f2.type=1) (ce0:P.cellsOf e0=1) (ce2:P.cellsOf e2=1) (h:DataW.trod enc P W 0 (fun _=>true) true fuel t cs=some y):
 ∃k l v,cs=[v]/\RelR (vV W) W (S k 3 (qr wc l)) v/\∀x∈l,x.Ok:=by
 refine qad wc 3 qf S20.Ok ht hc (fun m cs' y' hy' hl'=>?_) h
 obtain⟨xs,m',_,_,hcl,hxl,hf⟩:=DataW.trod_struct he hy'
 have g0:=hf 0 f0 rfl
 have g1:=hf 1 f1 rfl
 have g2:=hf 2 f2 rfl
 rw[o0,c0]at g0
 rw[o1,c1]at g1
 rw[o2,c2]at g2
 obtain⟨y0,hy0⟩:∃y,xs[0]?=some y:=⟨_,qjk (by rw[hxl];simp)⟩
 obtain⟨y1,hy1⟩:∃y,xs[1]?=some y:=⟨_,qjk (by rw[hxl];simp)⟩
 obtain⟨y2,hy2⟩:∃y,xs[2]?=some y:=⟨_,qjk (by rw[hxl];simp)⟩
 rw[hy0]at g0
 rw[hy1]at g1
 rw[hy2]at g2
 obtain⟨k0,l0,v0,q0,r0,t0,w0⟩:=Kp h0 h0e ce0 g0
 obtain⟨n1,q1,w1⟩:=qe3 h1 g1
 obtain⟨k2,l2,v2,q2,r2,t2,w2⟩:=Kp h2 h2e ce2 g2
 have z0:=Jj q0
 have z1:=Jj q1
 have z2:=Jj q2
 refine⟨⟨l0,k0,n1,l2,k2⟩,⟨t0,t2,fun n hn=>(w0 n hn).u8,w1.u8,fun n hn=>(w2 n hn).u8⟩,rfl,?_,?_⟩
 ·intro a ha
  unfold wc at ha
  simp only[qjf,List.not_mem_nil,or_false]at ha
  rcases ha with rfl|rfl|rfl
  ·exact xu
  ·rfl
  ·exact xu
 ·intro i a v ha hv
  unfold wc at ha
  match i,ha,hv with
  |0,ha,hv=>
   simp at ha
   rw[z0]at hv
   cases hv
   subst ha
   exact r0
  |1,ha,hv=>
   simp at ha
   rw[z1]at hv
   cases hv
   subst ha
   exact .sc _ rfl
  |2,ha,hv=>
   simp at ha
   rw[z2]at hv
   cases hv
   subst ha
   exact r2
  |i+3,ha,hv=>simp at ha
end
end Go.Proofs.YtklejdfghnnafaaGreat.AI
namespace Go.Proofs.YtklejdfghnnafaaGreat.AI
open Go
set_option linter.unusedVariables false
set_option linter.unusedSimpArgs false
set_option maxRecDepth 100000
set_option maxHeartbeats 0
theorem Xn(a:Nat)(t:AV)(hp:Hp)(h:hp.rd a 0=some [t,S 2 1 []]):run cxX 11 [.ptr a 0 0] hp=some (S 2 1 [],hp):=by
 have b4:B11_4 (S 2 1 []) (S 2 1 []) (.int .i64 0) (.int .i64 0) hp=some (S 2 1 [],hp):=by
  rw[qcd]
  simp[YW]
 rw[E11]
 simp[h,zH,b4]
theorem JM(hp:Hp):∃hp',run cxX 4 [] hp=some (.sc (.bool true),hp'):=by
 have mo:=JJ hp0
 obtain⟨h1,bu⟩:=Xp hp
 obtain⟨a,t,h2,op,rd⟩:=Vb 0 h1
 have na:=Xn a t h2 rd
 have ln:(LI .u8 (arY [])).length=23:=by rw[arY0];rfl
 have lk:∀k,jq (S k 1 (LI .u8 (arY [])))=some 23:=fun k=>by rw[zg,ln]
 refine⟨h2,?_⟩
 rw[E4]
 generalize LI .u8 (arY [])=Y at*
 simp[-zg,mo,bu,op,lk,na]
 simp[na]
theorem QR:∀(L:List (List Int)) (q p a:List Int),xV q (L++[p,a])=(xV q (L++[p])&&Yq a p)
 |[],q,p,a=>by simp[xV]
 |b::L,q,p,a=>by
  have ih:=QR L b p a
  show(Yq b q&&xV b (L++[p,a]))=((Yq b q&&xV b (L++[p]))&&Yq a p)
  rw[ih,Bool.and_assoc]
theorem Vf:∀(L:List (List Int)) (p a:List Int),jp (L++[p,a])=(jp (L++[p])&&Yq a p)
 |[],p,a=>by simp[jp,xV]
 |b::L,p,a=>QR L b p a
def zW(x:S20):Frm:=⟨110::x.nm,x.kd%6,x.pl⟩
theorem KI{x:S20}(h:x.Ok)(h1:x.nm.length<=50)(h2:x.pl.length<=50):(zW x).Ok:=by
 have hk:=h.kd
 refine⟨by show 1<=(110::x.nm).length/\(110::x.nm).length<=255;simp;omega,?_,by show 0<=x.kd%6/\x.kd%6<6;omega,by show x.pl.length<=800000;omega,h.pl⟩
 intro n hn
 rcases qjf.mp hn with q|q
 ·rw[q];decide
 ·exact h.nm n q
theorem Zh:∀{fs:List (Frm×Nat)},(∀p∈fs,p.1.nm.length<=51/\p.1.pl.length<=50)->(wS fs).length<=115*fs.length
 |[],_=>qj4 _
 |f::r,h=>by
  have ih:=Zh (fs:=r) (fun p hp=>h p (by simp[hp]))
  have hf:=h f qe
  have yl:=Jd f.1
  rw[Ys,qje,qju]
  omega
theorem Ju:∀{l:List Ie} (i:Nat),(∀e∈l,e.nm.length<=255/\e.po<=1048576/\e.sz<=1048576)->(xR l i).length<=276*l.length
 |[],_,_=>qj4 _
 |e::r,i,h=>by
  have ih:=Ju (l:=r) (i+1) (fun p hp=>h p (by simp[hp]))
  have he:=h e qe
  have xl:=Wx (i:=i) he.1 he.2.1 he.2.2
  show(xB i e++xR r (i+1)).length<=_
  rw[qje,qju]
  omega
theorem qbp(x y:Operand)(a b:Bool):qq Tryz.prog .neq 4 x y (.bool a) (.bool b)=some (.bool (!decide (a=b))):=by
 cases a<;>cases b<;>kernel_rfl
theorem VZ(v:Value)(hp:Hp):B3_18 v hp=some (.sc (.bool true),hp):=by
 have fr:∀v hp,∃r,run cxX 8 [.sc (.pointer none),.sc v] hp=some (.tup [.agg r,.sc (.int .i64 1)],hp)/\r.length=3/\r.all vl=true/\r.map ro1=r:=by
  intro v hp
  rw[E8]
  simp
 obtain⟨r,f1,f2,f3,f4⟩:=fr v hp
 have gt:∃r,run cxX 9 [.sc (.pointer none),.sc v,.sc (.pointer none)] hp=some (.tup [.agg r,.sc (.int .i64 1)],hp)/\r.length=23:=by
  rw[E9]
  simp[f1,f2,f4,qC]
 obtain⟨g,g1,g2⟩:=gt
 have al:run cxX 10 [.sc (.pointer none),.sc (.pointer none)] hp=some (.tup [S 2 1 [],.sc (.int .i64 1)],hp):=by
  rw[E10]
  simp
 have nm:run cxX 11 [.sc (.pointer none)] hp=some (S 2 1 [],hp):=by
  rw[E11]
  simp[YW]
 rw[qb6]
 simp[f1,f2,f4,g1,g2,al,nm,qC]
theorem XS{fs:List (Frm×Nat)}(hn:fs.length<=10)(ho:∀p∈fs,p.1.Ok/\p.1.nm.length<=51/\p.1.pl.length<=50):(hdB++wS fs).length+(xY (zY fs 6)).length+12<=900000:=by
 have fsm:=Zh (fs:=fs) (fun p hp=>(ho p hp).2)
 have h6:hdB.length=6:=rfl
 have eo:=Jg fs 6 (fun p hp=>(ho p hp).1) qc qc
 have xs:=Ju (l:=zY fs 6) 0 (fun e he=>⟨(eo.nl e he).2,(eo.po e he).2,(eo.sz e he).2⟩)
 have u:=yi (n:=(zY fs 6).length) (by rw[xk];omega)
 rw[xk]at xs u
 unfold xY xH
 rw[yj,qje,qje,h6,xk]
 omega
theorem XY(v:Value)(k:Nat)(L:List AV)(n:Nat)(fs:List (Frm×Nat))(hn:fs.length<=10)(ho:∀p∈fs,p.1.Ok/\p.1.nm.length<=51/\p.1.pl.length<=50)(hp:Hp):
 B3_8 v (S 2 3 (qr vk fs)) (.bool (jp (fs.map fun p=>p.1.nm))) (S k 3 L) (.int .i64 (n:Int)) (.int .i64 (n:Int)) hp=some (.sc (.bool true),hp):=by
 have mo:=JJ hp0
 obtain⟨g,cl⟩:=QO fs 3 (fun p hp=>(ho p hp).1) qc (XS hn ho) hp0
 have b18:=VZ v hp
 rw[KQ]
 generalize qr vk fs=R at*
 generalize LI .u8 (arY fs)=Y at*
 cases hr:jp (fs.map fun p=>p.1.nm)with
 |true=>
  rw[if_pos hr]at cl
  simp[mo,cl,qbp,b18]
 |false=>
  rw[if_neg (by rw[hr];decide)]at cl
  simp[mo,cl,qbp,b18]
theorem Wa(v:Value)(k:Nat)(L:List AV)(n:Nat)(x:S20)(hx:x.Ok)(h1:x.nm.length<=50)(h2:x.pl.length<=50)(fs:List (Frm×Nat))(hn:fs.length<=10)(ho:∀p∈fs,p.1.Ok/\p.1.nm.length<=51/\p.1.pl.length<=50)(hp:Hp):
 ∃t,B3_12 v (S 2 3 (qr vk fs)) (.bool (jp (fs.map fun p=>p.1.nm))) (.int .i64 (fs.length:Int)) (S k 3 L) (.int .i64 (n:Int)) (.int .i64 (fs.length:Int)) (wc x) hp=B3_8 v (S 2 3 (qr vk (fs++[(zW x,t)]))) (.bool (jp ((fs++[(zW x,t)]).map fun p=>p.1.nm))) (S k 3 L) (.int .i64 (n:Int)) (.int .i64 ((fs.length+1:Nat):Int)) hp:=by
 obtain⟨t,sm⟩:=JG x.nm x.pl x.kd x.k x.k' hx.kd qc hp0
 have sm:run cxX 5 [.agg (wc x)] hp0=some (.agg (YZ (zW x) t),hp0):=sm
 have ap:=qbt vk 3 48 2 qf (.inr rfl) (l:=fs) (x:=(zW x,t)) (fun x _=>vj x) (vj _) qc
 have w1:IntKind.i64.wrap ((fs.length:Int)+1)=((fs.length+1:Nat):Int):=qh
 refine⟨t,?_⟩
 have hok:=KI hx h1 h2
 have b14:∀b R,B3_14 v R b (S k 3 L) (.int .i64 (n:Int)) (.int .i64 (fs.length:Int)) hp=B3_8 v R b (S k 3 L) (.int .i64 (n:Int)) (.int .i64 ((fs.length+1:Nat):Int)) hp:=by
  intro b R
  rw[qb7]
  simp[w1]
 have rA:=xw (l:=x.nm) hx.k
 have rB:=xw (l:=x.pl) hx.k'
 have vA:=xu (k:=x.k) (l:=x.nm)
 have vB:=xu (k:=x.k') (l:=x.pl)
 have rP:ro1 (S t 1 (LI .u8 (zW x).pl))=S (rk t) 1 (LI .u8 (zW x).pl):=qe
 have vP:=xu (k:=t) (l:=(zW x).pl)
 have vP':=xu (k:=rk t) (l:=(zW x).pl)
 have hb:∀p∈fs,Bt p.1.nm:=fun p hp=>(ho p hp).1.nb
 have hnm:=hok.nb
 rw[qb8]
 rcases List.eq_nil_or_concat fs with e|⟨gs,g,e⟩
 ·subst e
  have r0:jp (([]:List (Frm×Nat)).map fun p:Frm×Nat=>p.1.nm)=true:=rfl
  rw[r0]
  have rs:jp (([]++[(zW x,t)]).map fun p:Frm×Nat=>p.1.nm)=true:=rfl
  rw[rs]
  generalize qr vk ([]++[(zW x,t)])=R at*
  generalize qr vk []=R0 at*
  unfold vk YZ at ap
  unfold YZ at sm
  unfold wc at sm⊢
  generalize S x.k 1 (LI .u8 x.nm)=A at*
  generalize S x.k' 1 (LI .u8 x.pl)=B at*
  generalize S t 1 (LI .u8 (zW x).pl)=Q at*
  generalize S (rk t) 1 (LI .u8 (zW x).pl)=Q' at*
  generalize st (zW x).nm=N at*
  have b14:∀b R,B3_14 v R b (S k 3 L) (.int .i64 (n:Int)) (.int .i64 0) hp=B3_8 v R b (S k 3 L) (.int .i64 (n:Int)) (.int .i64 1) hp:=b14
  simp[qJ,qC,rA,rB,vA,vB,rP,vP,vP',sm,ap,b14]
 ·have e:fs=gs++[g]:=by rw[e,List.concat_eq_append]
  have hi:fs.length=gs.length+1:=by rw[e,qje,qla]
  have rs:jp ((fs++[(zW x,t)]).map fun p=>p.1.nm)=(jp (fs.map fun p=>p.1.nm)&&Yq (zW x).nm g.1.nm):=by
   rw[e,List.map_append,List.map_append,qkk]
   exact Vf _ _ _
  have i1:=xe vk 3 qf 3 (l:=fs++[(zW x,t)]) (i:=fs.length) (x:=(zW x,t)) (fun x _=>vj x) qe
  have i2:=xe vk 3 qf 3 (l:=fs++[(zW x,t)]) (i:=gs.length) (x:=g) (fun x _=>vj x) (by rw[e];simp)
  have sg:∀t' x' y',qq Tryz.prog .gtr t' x' y' (st (zW x).nm) (st g.1.nm)=some (.bool (Yq (zW x).nm g.1.nm)):=fun t' x' y'=>qeu Tryz.prog t' x' y' (zW x).nm g.1.nm hnm (hb g (by rw[e];simp))
  have w2:IntKind.i64.wrap ((fs.length:Int)-1)=(gs.length:Int):=qh
  have c0:¬((fs.length:Int)=0):=qc
  rw[rs]
  generalize(gs.length:Int)=J at*
  generalize(fs.length:Int)=I at*
  generalize qr vk (fs++[(zW x,t)])=R at*
  generalize qr vk fs=R0 at*
  unfold vk YZ at ap i1 i2
  unfold YZ at sm
  unfold wc at sm⊢
  generalize S x.k 1 (LI .u8 x.nm)=A at*
  generalize S x.k' 1 (LI .u8 x.pl)=B at*
  generalize S t 1 (LI .u8 (zW x).pl)=Q at*
  generalize S (rk t) 1 (LI .u8 (zW x).pl)=Q' at*
  generalize Yq (zW x).nm g.1.nm=G at*
  generalize st (zW x).nm=N at*
  generalize st g.1.nm=N2 at*
  cases jp (fs.map fun p=>p.1.nm)with
  |true=>simp[qJ,qC,qm,rA,rB,vA,vB,rP,vP,vP',sm,ap,b14,i1,i2,w2,c0,sg]
  |false=>simp[qJ,qC,qm,rA,rB,vA,vB,rP,vP,vP',sm,ap,b14]
theorem YD(v:Value)(l:List S20)(wl:∀x∈l,x.Ok)(hn:l.length<=10)(k:Nat):∀(r:List S20) (i:Nat) (fs:List (Frm×Nat)) (hp:Hp),l.drop i=r->i<=l.length->fs.length=i->(∀p∈fs,p.1.Ok/\p.1.nm.length<=51/\p.1.pl.length<=50)->
 B3_8 v (S 2 3 (qr vk fs)) (.bool (jp (fs.map fun p=>p.1.nm))) (S k 3 (qr wc l)) (.int .i64 (l.length:Int)) (.int .i64 (i:Int)) hp=some (.sc (.bool true),hp):=by
 intro r
 induction r with
 |nil=>
  intro i fs hp hr hi hf ho
  have h1:=yp hr
  have e3:i=l.length:=qc
  subst e3
  exact XY v k _ _ fs qc ho hp
 |cons x r ih=>
  intro i fs hp hr hi hf ho
  obtain⟨e1,e2,hi',e3⟩:=jB hr
  have hx:=wl x (qjj e1)
  have hlt:(i:Int)<(l.length:Int):=qc
  have ix:=xe wc 3 qf k (fun x hx=>Ki (wl x hx)) e1
  have b11:B3_11 hp=some (.sc (.bool true),hp):=by rw[qb9]
  have ln1:jq (S x.k 1 (LI .u8 x.nm))=some x.nm.length:=by rw[zg];simp
  have ln2:jq (S x.k' 1 (LI .u8 x.pl))=some x.pl.length:=by rw[zg];simp
  have hro:=(Ki hx).ro
  unfold wc at hro
  have key:x.nm.length<=50->x.pl.length<=50->B3_12 v (S 2 3 (qr vk fs)) (.bool (jp (fs.map fun p=>p.1.nm))) (.int .i64 (i:Int)) (S k 3 (qr wc l)) (.int .i64 (l.length:Int)) (.int .i64 (i:Int)) (wc x) hp=some (.sc (.bool true),hp):=by
   intro h1 h2
   subst hf
   obtain⟨t,z⟩:=Wa v k (qr wc l) l.length x hx h1 h2 fs qc ho hp
   rw[z]
   refine ih (fs.length+1) (fs++[(zW x,t)]) hp e2 qc qe (fun p hp=>?_)
   rcases qjp.mp hp with q|q
   ·exact ho p q
   ·rw[qke.mp q]
    exact⟨KI hx h1 h2,by show(110::x.nm).length<=51;simp;omega,h2⟩
  rw[KQ]
  generalize qr wc l=R at*
  generalize qr vk fs=F at*
  unfold wc at ix key
  have rA:=xw (l:=x.nm) hx.k
  have rB:=xw (l:=x.pl) hx.k'
  generalize S x.k 1 (LI .u8 x.nm)=A at*
  generalize S x.k' 1 (LI .u8 x.pl)=B at*
  by_cases h1:x.nm.length<=50
  ·by_cases h2:x.pl.length<=50
   ·have c1:¬((50:Int)<(x.nm.length:Int)):=qc
    have c2:¬((50:Int)<(x.pl.length:Int)):=qc
    simp[hi',hlt,ix,qJ,zH,qC,ln1,ln2,rA,rB,c1,c2,key h1 h2]
    done
   ·have c1:¬((50:Int)<(x.nm.length:Int)):=qc
    have c2:(50:Int)<(x.pl.length:Int):=qc
    simp[hi',hlt,ix,qJ,zH,qC,ln1,ln2,rA,rB,c1,c2,b11]
    done
  ·have c1:(50:Int)<(x.nm.length:Int):=qc
   simp[hi',hlt,ix,qJ,zH,qC,ln1,ln2,rA,rB,c1,b11]
   done
theorem law_BoxClose(k:Nat)(l:List S20)(wl:∀x∈l,x.Ok)(b:ByteArray)(hp:Hp):∃hp',run cxX 3 [S k 3 (qr wc l),.sc (.string b)] hp=some (.sc (.bool true),hp'):=by
 obtain⟨g,aw⟩:=JM hp0
 have ln:=fun k=>ZZ wc 3 qf k (fun x hx=>Ki (wl x hx))
 refine⟨hp,?_⟩
 rw[E3]
 by_cases hn:l.length<=10
 ·have c:¬((10:Int)<(l.length:Int)):=qc
  have lp:=YD (.string b) l wl hn (rk k) l 0 [] hp rfl (qj4 _) rfl (fun p hp=>nomatch hp)
  have lp:B3_8 (.string b) (S 2 1 []) (.bool true) (S (rk k) 3 (qr wc l)) (.int .i64 (l.length:Int)) (.int .i64 0) hp=some (.sc (.bool true),hp):=lp
  generalize qr wc l=R at*
  simp[aw,ln,c,lp]
 ·have c:(10:Int)<(l.length:Int):=qc
  generalize qr wc l=R at*
  simp[aw,ln,c]
end Go.Proofs.YtklejdfghnnafaaGreat.AI
