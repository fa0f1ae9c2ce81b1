/- Texts that the proof of FuseSees rests on, part 4. -/
import Derived.Test.YtmajcennjgjlnaaGreatQFuseSees3
import Derived.Below
import Derived.ProofKit
import Derived.RowKit
import Derived.OpenShut
import Derived.ChangeOld
import Derived.SizedLaws
import Derived.Carry
import GoSem.Core.Float
import GoSem.Core.View
namespace Go.Proofs.YtmajcennjgjlnaaGreat.AI
open Go Go.RowKit
set_option linter.unusedVariables false
set_option linter.unusedSimpArgs false
def VI(W:World):Gh where
 Om b:=if b<W.heap.size then .oth else .fr
 I b:=match W.heap[b]? with
  |some (.cells arr _ _)=>arr.size
  |_=>0
 mu _ _:=none
 la _ _:=none
theorem hpI0(W:World):HpI (VI W) W hp0 where
 heap b g cs h:=by cases h
 next b g _:=rfl
 hlt b g cs h:=by cases h
 new b hb:=⟨by simp[VI];omega,by simp[VI,zq9 hb]⟩
 vars b hb:=by
  exfalso
  rcases hb with⟨k,g,h⟩|⟨k,g,h⟩<;>simp only[VI]at h<;>split at h<;>cases h
theorem zbn{W W':World}{G':Gh}(h:Fr (VI W) W G' W'):Below W.heap.size W W':=
 ⟨h.rest.1,h.rest.2.1,h.rest.2.2,h.size,fun k hk=>(h.same k hk (.inr (by simp[VI,hk]))).1⟩
theorem arg_sc(W:World)(v:Value)(h:v.oneCell'=true):Vu (VI W) W (.sc v) v:=fun _=>RelR.sc v h
theorem zgy{W:World}{b i:Nat}{c:Value}(h:W.cell? ⟨b,i,none⟩=some c):i<(VI W).I b:=by
 simp only[World.cell?]at h
 simp only[VI]
 split at h
 ·rename_i arr t fz e
  rw[e]
  exact(zp0.mp (by simpa using h)).1
 ·cases h
theorem zci{W:World}{a:Addr}{n cap sz:Nat}{cs:List AV}{vs:List Value}(hsz:0<sz)(hcs:cs.length=n*sz)(hlen:vs.length=cs.length)(hcap:n<=cap)
 (hcell:∀(i:Nat) (v:Value),vs[i]?=some v->W.cell? (a.add i)=some v) (hvl:∀x∈cs,vl x=true) (hrel:∀(i:Nat) (x:AV) (v:Value),cs[i]?=some x->vs[i]?=some v->RelR (VI W) W x v):
 Vu (VI W) W (.sl sz cs) (.slice (some a) n cap):=by
 intro p
 have key:RelR (VI W) W (.sl sz cs) (.slice (some a) n cap):=by
  by_cases hn:n=0
  ·subst hn
   have:cs=[]:=znp.mp (by simpa using hcs)
   subst this
   exact .sl0 sz a cap hsz
  ·obtain⟨b,o,sp⟩:=a
   have hpos:0<vs.length:=by rw[hlen,hcs];exact zrr (zrt hn) hsz
   have hsp:sp=none:=by
    have h0:=hcell 0 vs[0] (zng hpos)
    have e:(⟨b,o,sp⟩:Addr).add 0=⟨b,o,sp⟩:=rfl
    rw[e]at h0
    simp only[World.cell?]at h0
    split at h0
    ·cases sp with
     |none=>rfl
     |some q=>simp at h0
    ·cases h0
   subst hsp
   have hc':∀k c,vs[k]?=some c->W.cell? ⟨b,o+k,none⟩=some c:=fun k c hk=>by rw[<-zF];exact hcell k c hk
   refine .sl sz cs n cap b o vs hsz (zrt hn) hcs hcap ?_ hlen hc' hvl hrel
   have hl:vs.length-1<vs.length:=qe
   have:=zgy (hc' (vs.length-1) _ (zng hl))
   omega
 exact(key.c (p 0)).v
theorem zay{c:Cx}(hc:Ok c/\qa4 c){f:FuncId}{xs:List AV}{vs:List Value}{v:Value}{hp':Hp}{W:World}(h:run c f xs hp0=some (.sc v,hp'))(hl:xs.length=vs.length)
 (ha:∀(i:Nat) (x:AV) (u:Value),xs[i]?=some x->vs[i]?=some u->Vu (VI W) W x u):Calls c.P f vs.toArray W fun e W'=>e= .returned v/\Below W.heap.size W W':=by
 refine(qsg hc.1 hc.2 h (hpI0 W) hl ha).mono fun e W' hg=>?_
 obtain⟨u,G',rfl,hf,_,hr⟩:=hg
 have hr':RelR G' W' (.sc v) u:=hr
 cases hr' with
 |sc _ _=>exact⟨rfl,zbn hf⟩
end Go.Proofs.YtmajcennjgjlnaaGreat.AI
namespace Go.Proofs.YtmajcennjgjlnaaGreat.AI
open Go
set_option linter.unusedVariables false
set_option linter.unusedSimpArgs false
set_option maxRecDepth 100000
set_option maxHeartbeats 0
section
variable (P:Program)(t:TypeId)(x y:Operand)(k k':IntKind)(a b:Int)
theorem Ja(op:BinOp):eqGuard op t x y (.int k a) (.int k' b)=pure ():=by
 cases op<;>rfl
theorem jC(op:BinOp)(h:op≠ .shl)(h':op≠ .shr):qy P op t x y (.int k a) (.int k b)=one (zA P (match op with
 | .add| .sub| .mul=>Op.intArith op k a b
 | .quo| .rem=>Op.intDiv op k a b
 | .and| .or| .xor| .andNot=>Op.intBits op k a b
 |_=>Op.intCmp op a b)):=by
 unfold qy
 rw[Ja]
 cases op<;>simp[Go.binOp]<;>first|rfl|exact absurd rfl h|exact absurd rfl h'
@[simp] theorem yi:qy P .add t x y (.int k a) (.int k b)=some (.int k (k.wrap (a+b))):=by rw[jC P t x y k a b .add qh qh];rfl
@[simp] theorem vZ:qy P .sub t x y (.int k a) (.int k b)=some (.int k (k.wrap (a-b))):=by rw[jC P t x y k a b .sub qh qh];rfl
@[simp] theorem XC:qy P .mul t x y (.int k a) (.int k b)=some (.int k (k.wrap (a*b))):=by rw[jC P t x y k a b .mul qh qh];rfl
@[simp] theorem qax:qy P .eql t x y (.int k a) (.int k b)=some (.bool (decide (a=b))):=by rw[jC P t x y k a b .eql qh qh];show some (Value.bool (a==b))=_;congr 2
@[simp] theorem zmu:qy P .neq t x y (.int k a) (.int k b)=some (.bool (!decide (a=b))):=by rw[jC P t x y k a b .neq qh qh];show some (Value.bool (a !=b))=_;rfl
@[simp] theorem Jf:qy P .lss t x y (.int k a) (.int k b)=some (.bool (decide (a<b))):=by rw[jC P t x y k a b .lss qh qh];rfl
@[simp] theorem zmv:qy P .leq t x y (.int k a) (.int k b)=some (.bool (decide (a<=b))):=by rw[jC P t x y k a b .leq qh qh];rfl
@[simp] theorem Qx:qy P .gtr t x y (.int k a) (.int k b)=some (.bool (decide (a>b))):=by rw[jC P t x y k a b .gtr qh qh];rfl
@[simp] theorem Jg:qy P .geq t x y (.int k a) (.int k b)=some (.bool (decide (a>=b))):=by rw[jC P t x y k a b .geq qh qh];rfl
theorem yB(h:b≠0):qy P .quo t x y (.int k a) (.int k b)=some (.int k (k.wrap (a.tdiv b))):=by
 rw[jC P t x y k a b .quo qh qh];simp only[Op.intDiv,h,if_false];rfl
theorem zp(h:b≠0):qy P .rem t x y (.int k a) (.int k b)=some (.int k (a.tmod b)):=by
 rw[jC P t x y k a b .rem qh qh];simp only[Op.intDiv,h,if_false];rfl
@[simp] theorem zk:qy P .and t x y (.int k a) (.int k b)=some (.int k (k.wrap (BitVec.ofInt k.bits a&&&BitVec.ofInt k.bits b).toNat)):=by rw[jC P t x y k a b .and qh qh];rfl
@[simp] theorem zS:qy P .or t x y (.int k a) (.int k b)=some (.int k (k.wrap (BitVec.ofInt k.bits a|||BitVec.ofInt k.bits b).toNat)):=by rw[jC P t x y k a b .or qh qh];rfl
@[simp] theorem xK:qy P .xor t x y (.int k a) (.int k b)=some (.int k (k.wrap (BitVec.ofInt k.bits a^^^BitVec.ofInt k.bits b).toNat)):=by rw[jC P t x y k a b .xor qh qh];rfl
@[simp] theorem zm1(c:Bool):unV P .not (.bool c)=some (.bool !c):=rfl
@[simp] theorem jN(c:Bool):asB (.bool c)=some c:=rfl
@[simp] theorem zm8:Vm (.int k a)=some a:=rfl
@[simp] theorem vi(v:Value):Qy (.sc v)=some v:=rfl
end
theorem za{α β:Type}(P:Program)(s:Sem α)(f:α->Sem β):zA P (s>>=f)=(zA P s).bind fun a=>zA P (f a):=by
 show zA P (Sem.bind s f)=_
 induction s with
 |pure a=>rfl
 |program k ih=>simp only[Sem.bind,zA];exact ih P
 |mark x k ih=>simp only[Sem.bind,zA];exact ih
 |_=>rfl
@[simp] theorem zhh{α:Type}(P:Program)(a:α):zA P (pure a:Sem α)=some a:=rfl
theorem Vi(P:Program)(t:TypeId)(x y:Operand)(op:BinOp)(a b:ByteArray):eqGuard op t x y (.string a) (.string b)=pure ():=by
 cases op<;>rfl
theorem zhw(a b:ByteArray):(a.toList==b.toList)=decide (a.data.toList=b.data.toList):=by
 rw[ByteArray.toList_eq,ByteArray.toList_eq]
 by_cases h:a.data.toList=b.data.toList
 ·rw[h];simp
 ·rw[decide_eq_false h];exact beq_eq_false_iff_ne.mpr h
@[simp] theorem zk8 (P : Program) (t : TypeId) (x y : Operand) (a b : ByteArray) : qy P .eql t x y (.string a) (.string b) = some (.bool (decide (a.data.toList = b.data.toList))) := by
 unfold qy
 rw[Vi P]
 show some (Value.bool (a.toList==b.toList))=_
 rw[zhw]
@[simp] theorem zk7 (P : Program) (t : TypeId) (x y : Operand) (a b : ByteArray) : qy P .neq t x y (.string a) (.string b) = some (.bool (!decide (a.data.toList = b.data.toList))) := by
 unfold qy
 rw[Vi P]
 show some (Value.bool (!(a.toList==b.toList)))=_
 rw[zhw]
def Rd(sz:Nat)(x:AV)(cs:List AV):Prop:=x= .sl sz cs\/x= .us sz cs\/(x= .sc nil0/\cs=[])
section
variable {sz:Nat}{x:AV}{cs:List AV}
theorem Rd.ro(h:Rd sz x cs):Rd sz (AI.ro x) cs:=by
 rcases h with rfl|rfl|⟨rfl,rfl⟩
 ·exact .inl rfl
 ·exact .inl rfl
 ·exact .inr (.inr ⟨rfl,rfl⟩)
theorem Rd.ro1(h:Rd sz x cs):Rd sz (AI.ro1 x) cs:=by
 rcases h with rfl|rfl|⟨rfl,rfl⟩
 ·exact .inl rfl
 ·exact .inl rfl
 ·exact .inr (.inr ⟨rfl,rfl⟩)
theorem Rd.len(h:Rd 1 x cs):xU x=some cs.length:=by
 rcases h with rfl|rfl|⟨rfl,rfl⟩<;>rfl
theorem Rd.idx(h:Rd 1 x cs){k:IntKind}{z:Int}{i:Nat}{y:AV}(hz:z=(i:Int))(hy:cs[i]?=some y):jE 1 x (.int k z)=some [y]:=by
 subst hz
 have hlt:=(zni.mp hy).1
 have key:((AI.idx (if 1=1 then cs.length else cs.length/1) (.int k (i:Int))).bind fun i=>qp cs (i*1) 1)=some [y]:=by
  have hc:(0:Int)<=(i:Int)/\(i:Int)<(cs.length:Int):=⟨zru i,qe⟩
  simp only[if_true,AI.idx,Vm,znc,hc,and_self,znj,zo2]
  unfold qp
  rw[if_pos qe]
  congr 1
  obtain⟨h1,h2⟩:=zni.mp hy
  rw[zn6 h1,h2]
  rfl
 rcases h with rfl|rfl|⟨rfl,rfl⟩
 ·simp only[jE,if_true];simpa using key
 ·simp only[jE,if_true];simpa using key
 ·simp at hy
end
def Wd(sz:Nat)(x:AV)(cs:List AV):Prop:=x= .us sz cs\/(x= .sc nil0/\cs=[])
theorem Wd.rd{sz:Nat}{x:AV}{cs:List AV}(h:Wd sz x cs):Rd sz x cs:=by
 rcases h with rfl|⟨rfl,rfl⟩
 ·exact .inr (.inl rfl)
 ·exact .inr (.inr ⟨rfl,rfl⟩)
def qlk(ys:List AV):Prop:=ys.map ro1=ys
theorem Wd.app{bytes sz:Nat}{d s:AV}{cs ys:List AV}(hd:Wd sz d cs)(hs:Rd sz s ys)(hf:qlk ys)(hfit:ys≠[]->xN bytes sz (cs.length+ys.length)=true):
 ∃z,jp bytes sz d s=some z/\Wd sz z (cs++ys):=by
 have hsrc:xr sz s=some ys:=by
  rcases hs with rfl|rfl|⟨rfl,rfl⟩
  ·simp[xr]
  ·simp[xr]
  ·rfl
 unfold jp qla
 rw[hsrc]
 simp only[znc]
 cases ys with
 |nil=>
  rw[znz]
  rcases hd with rfl|⟨rfl,rfl⟩
  ·exact⟨.us sz cs,qg,.inl rfl⟩
  ·exact⟨.sc nil0,rfl,.inr ⟨rfl,rfl⟩⟩
 |cons y ys=>
  have hfit:=hfit qg
  rcases hd with rfl|⟨rfl,rfl⟩
  ·refine⟨.us sz (cs++(y::ys)),?_,.inl rfl⟩
   have hf':(y::ys).map ro1=y::ys:=hf
   have hfit2:xN bytes sz (cs.length+(ys.length+1))=true:=by simpa using hfit
   have hm:ro1 y::List.map ro1 ys=y::ys:=hf'
   simp[hfit2,hm]
  ·refine⟨.us sz (y::ys),?_,.inl rfl⟩
   have hf':(y::ys).map ro1=y::ys:=hf
   have hfit':xN bytes sz (y::ys).length=true:=by simpa using hfit
   have hn:Zt nil0=true:=rfl
   simp only[hn,zqy,hfit',if_true,hf',zn4]
theorem qm{z:Int}(h1:-9223372036854775808<=z)(h2:z<9223372036854775808):IntKind.i64.wrap z=z:=by
 rw[IntKind.wrap_i64];omega
theorem qj{p:Prop}(h:p:=by rw[qm]<;>omega):p:=h
@[simp] theorem zln:IntKind.i64.wrap 0=0:=rfl
@[simp] theorem zlm:IntKind.i64.wrap 1=1:=rfl
@[simp] theorem zll:IntKind.i64.wrap 2=2:=rfl
@[simp] theorem zlk:IntKind.i64.wrap 3=3:=rfl
@[simp] theorem zlj:IntKind.i64.wrap 4=4:=rfl
@[simp] theorem zli:IntKind.i64.wrap 5=5:=rfl
@[simp] theorem zlh:IntKind.i64.wrap 6=6:=rfl
@[simp] theorem zlg:IntKind.i64.wrap 7=7:=rfl
@[simp] theorem zlf:IntKind.i64.wrap 8=8:=rfl
@[simp] theorem zle:IntKind.i64.wrap 9=9:=rfl
@[simp] theorem zk1:IntKind.i64.wrap 10=10:=rfl
@[simp] theorem zk0:IntKind.i64.wrap 11=11:=rfl
@[simp] theorem zkz:IntKind.i64.wrap 12=12:=rfl
@[simp] theorem zky:IntKind.i64.wrap 13=13:=rfl
@[simp] theorem zkx:IntKind.i64.wrap 14=14:=rfl
@[simp] theorem zkw:IntKind.i64.wrap 15=15:=rfl
@[simp] theorem zkv:IntKind.i64.wrap 16=16:=rfl
def S(k sz:Nat)(cs:List AV):AV:=
 match k with
 |0=>.sl sz cs
 |1=>.us sz cs
 |2=>match cs with
  |[]=>.sc nil0
  |_=>.us sz cs
 |_=>match cs with
  |[]=>.sc nil0
  |_=>.sl sz cs
def rk:Nat->Nat
 |0=>0
 |1=>0
 |_=>3
def tg(k:Nat)(cs:List AV):Nat:=
 match cs with
 |[]=>rk k
 |_=>0
@[simp] theorem Wx (k : Nat) : rk (rk k) = rk k := by
 match k with
 |0=>rfl
 |1=>rfl
 |n+2=>rfl
@[simp] theorem rk0:rk 0=0:=rfl
@[simp] theorem rk1:rk 1=0:=rfl
@[simp] theorem rk2:rk 2=3:=rfl
@[simp] theorem rk3:rk 3=3:=rfl
section
variable (k sz:Nat)(cs:List AV)
theorem jq:S k sz cs= .sl sz cs\/S k sz cs= .us sz cs\/(S k sz cs= .sc nil0/\cs=[]):=by
 unfold S
 match k,cs with
 |0,_=>exact .inl rfl
 |1,_=>exact .inr (.inl rfl)
 |2,[]=>exact .inr (.inr ⟨rfl,rfl⟩)
 |2,_::_=>exact .inr (.inl rfl)
 |n+3,[]=>exact .inr (.inr ⟨rfl,rfl⟩)
 |n+3,_::_=>exact .inl rfl
@[simp] theorem ro1_S : ro1 (S k sz cs) = S (rk k) sz cs := by
 match k,cs with
 |0,_=>rfl
 |1,_=>rfl
 |2,[]=>rfl
 |2,_::_=>rfl
 |n+3,[]=>rfl
 |n+3,_::_=>rfl
@[simp] theorem ro_S : ro (S k sz cs) = S (rk k) sz cs := by
 match k,cs with
 |0,_=>rfl
 |1,_=>rfl
 |2,[]=>rfl
 |2,_::_=>rfl
 |n+3,[]=>rfl
 |n+3,_::_=>rfl
theorem rd_S:Rd sz (S k sz cs) cs:=jq k sz cs
@[simp] theorem lenA_S:xU (S k 1 cs)=some cs.length:=(rd_S k 1 cs).len
@[simp] theorem Kl (K : IntKind) (z : Int) : jE 1 (S k 1 cs) (.int K z) = if 0 ≤ z then (cs[z.toNat]?).map fun c => [c] else none := by
 by_cases hz:0<=z
 ·rw[if_pos hz]
  cases h:cs[z.toNat]? with
  |some y=>exact(rd_S k 1 cs).idx qe h
  |none=>
   have hl:cs.length<=z.toNat:=by simpa using h
   have hn:¬(z<(cs.length:Int)):=qe
   rcases jq k 1 cs with e|e|⟨e,e'⟩
   ·rw[e];simp[jE,idx,Vm,hn]
   ·rw[e];simp[jE,idx,Vm,hn]
   ·rw[e];rfl
 ·rw[if_neg hz]
  rcases jq k 1 cs with e|e|⟨e,e'⟩
  ·rw[e];simp[jE,idx,Vm,hz]
  ·rw[e];simp[jE,idx,Vm,hz]
  ·rw[e];rfl
@[simp] theorem zmp : qn 1 (S k sz cs) = some [S k sz cs] := by
 rcases jq k sz cs with e|e|⟨e,e'⟩<;>rw[e]<;>rfl
@[simp] theorem zm3 : Zs (S k sz cs) = some () := by
 rcases jq k sz cs with e|e|⟨e,e'⟩<;>rw[e]<;>rfl
@[simp] theorem qx9 : xr sz (S k sz cs) = some cs := by
 rcases jq k sz cs with e|e|⟨e,e'⟩
 ·rw[e];simp[xr]
 ·rw[e];simp[xr]
 ·rw[e,e'];rfl
@[simp] theorem us_S:AV.us sz cs=S 1 sz cs:=rfl
@[simp] theorem sl_S:AV.sl sz cs=S 0 sz cs:=rfl
end
@[simp] theorem nil_S1:AV.sc (Value.slice none 0 0)=S 2 1 []:=rfl
@[simp] theorem S3_nil(sz:Nat):S 3 sz []=S 2 sz []:=rfl
theorem xa(k:Nat)(cs:List AV)(K:IntKind)(z:Int)(h:0<=z)(h':z<=cs.length):yb 1 (S k 1 cs) (some (.int K z)) none none=some (S (tg k cs) 1 (cs.drop z.toNat)):=by
 obtain⟨i,rfl⟩:∃i:Nat,z=i:=⟨z.toNat,qe⟩
 have hi:i<=cs.length:=qe
 have hb:∀n:Nat,i<=n->zo 0 (n:Int) (some (.int K (i:Int))) 0=some i:=by
  intro n hn
  have:(0:Int)<=(i:Int)/\(i:Int)<=(n:Int):=⟨zru i,qe⟩
  simp only[zo,Vm,znc,this,and_self,if_true,znj]
 have key:(cs.drop (i*1)).take ((cs.length-i)*1)=cs.drop i:=by
  rw[zo2,zo2]
  exact zn2 qg
 have this:=hb cs.length hi
 simp only[zo]at this
 have a:yb 1 (.sl 1 cs) (some (.int K i)) none none=some (.sl 1 (cs.drop i)):=by
  simp only[yb,if_true]
  show(zo 0 _ none _).bind _=_
  simp only[zo,znc]
  rw[this]
  simp only[znc,key]
 have b:yb 1 (.us 1 cs) (some (.int K i)) none none=some (.sl 1 (cs.drop i)):=by
  simp only[yb,if_true]
  show(zo 0 _ none _).bind _=_
  simp only[zo,znc]
  rw[this]
  simp only[znc,key]
 rw[znj]
 match k,cs with
 |0,[]=>exact a
 |0,_::_=>exact a
 |1,[]=>exact b
 |1,_::_=>exact b
 |2,[]=>obtain rfl:i=0:=by simpa using hi
        rfl
 |2,_::_=>exact b
 |n+3,[]=>obtain rfl:i=0:=by simpa using hi
          rfl
 |n+3,_::_=>exact a
theorem YG(b sz k:Nat)(cs ys:List AV)(k':Nat)(hk:k=1\/k=2)(hf:qlk ys)(hfit:ys=[]\/xN b sz (cs.length+ys.length)=true):
 jp b sz (S k sz cs) (S k' sz ys)=some (S k sz (cs++ys)):=by
 unfold jp qla
 rw[qx9]
 simp only[znc]
 have hf':ys.map ro1=ys:=hf
 match ys,hf',hfit with
 |[],_,_=>
  rw[znz]
  rcases hk with rfl|rfl
  ·show(if sz=sz then some (AV.us sz cs)else none)=_
   rw[if_pos rfl];rfl
  ·cases cs with
   |nil=>rfl
   |cons c cs=>exact if_pos rfl
 |y::ys,hf',hfit=>
  have hfit:xN b sz (cs.length+(y::ys).length)=true:=hfit.resolve_left qg
  rcases hk with rfl|rfl
  ·simp only[S,hf',hfit,Bool.and_true,decide_true,if_true]
  ·cases cs with
   |nil=>
    have h0:xN b sz (y::ys).length=true:=by simpa using hfit
    simp only[S,hf',h0,Zt,nil0,Bool.and_true,if_true,zn4]
   |cons c cs=>simp only[S,hf',hfit,Bool.and_true,decide_true,if_true,zo1]
theorem yZ{b sz n:Nat}(hb:0<b)(h:n*b<=140737488355328*sz):xN b sz n=true:=by
 simp[xN,h,hb]
@[simp] theorem qkl(v:Value):qlk [.sc v]:=rfl
theorem zbq{α:Type}(f:α->Value)(l:List α):qlk (l.map fun x=>.sc (f x)):=by
 unfold qlk;rw[zrh];rfl
@[simp] theorem zis(v:Value):ro1 (.sc v)= .sc v:=rfl
@[simp] theorem zlu(v:Value):ro (.sc v)= .sc v:=rfl
@[simp] theorem zir(l:List AV):ro (.agg l)= .agg (l.map ro1):=rfl
@[simp] theorem zl3(v:Value):Zs (.sc v)=some ():=rfl
@[simp] theorem zk3(l:List AV):Zs (.agg l)=some ():=rfl
@[simp] theorem vl_S (k sz : Nat) (cs : List AV) : vl (S k sz cs) = true := by
 rcases jq k sz cs with e|e|⟨e,e'⟩<;>rw[e]<;>rfl
@[simp] theorem vlF_S (k sz : Nat) (cs : List AV) : vlF (S k sz cs) = true := by
 rcases jq k sz cs with e|e|⟨e,e'⟩<;>rw[e]<;>rfl
@[simp] theorem vlV_S (k sz : Nat) (cs : List AV) : vlV (S k sz cs) = true := by
 rcases jq k sz cs with e|e|⟨e,e'⟩<;>rw[e]<;>rfl
@[simp] theorem vl_sc(v:Value):vl (.sc v)=true:=rfl
@[simp] theorem vlF_sc(v:Value):vlF (.sc v)=true:=rfl
@[simp] theorem vlV_sc(v:Value):vlV (.sc v)=true:=rfl
@[simp] theorem zm0(l:List AV):vlF (.agg l)=l.all vl:=rfl
@[simp] theorem zmz(l:List AV):vlV (.agg l)=l.all vl:=rfl
@[simp] theorem zmy(l:List AV):vlV (.tup l)=l.all vlF:=rfl
@[simp] theorem vl_fn(f:FuncId):vl (.fn f [])=true:=rfl
@[simp] theorem vlF_fn(f:FuncId):vlF (.fn f [])=true:=rfl
@[simp] theorem qtv(xs caps:List AV):xD xs caps=Jc (xs.all vlF=true/\caps.all vl=true):=rfl
@[simp] theorem Zj(a b:Nat):jL a b=Jc (a=b):=rfl
@[simp] theorem zm7(b:Bool):qo3 b=Jc (b=true):=rfl
@[simp] theorem zaf(cs:List AV):yC cs=Jc (cs.all vl=true):=rfl
@[simp] theorem tN_eq(n:Int):tN n=n.toNat:=rfl
theorem Jy{b z:Nat}{n:Int}(h0:0<=n)(hf:n.toNat*b<=140737488355328)(hb:0<b)(hz:0<z):xd b z n n=some ():=
 if_pos ⟨rfl,h0,by simp[xN];omega,hz⟩
@[simp] theorem zah(y:AV):wI y=Jc (vlV y=true):=rfl
theorem Zi{p:Prop}[Decidable p](h:p):Jc p=some ():=if_pos h
@[simp] theorem vW:Jc True=some ():=rfl
@[simp] theorem YF{α:Type}[DecidableEq α](a:α):Jc (a=a)=some ():=if_pos rfl
@[simp] theorem zmx(l:List AV):zg8 (.agg l)=some l:=rfl
@[simp] theorem zj8(n:Nat)(l:List AV):Qd n (.tup l)=if l.length=n then some ()else none:=rfl
@[simp] theorem zl2(l:List AV)(i:Nat):xu (.tup l) i=l.getD i (.tup []):=rfl
theorem zag(v:Value):wI (.sc v)=some ():=by rw[zah];exact if_pos qg
@[simp] theorem zmo:Jc (True/\True)=some ():=rfl
@[simp] theorem zj9(n:Nat)(l:List AV):qn n (.agg l)=if l.length=n then some l else none:=rfl
@[simp] theorem zmw:Qy (.sc nil0)=some nil0:=rfl
theorem qt{α:Type}{l:List α}{i:Nat}{x:α}{r:List α}(h:l.drop i=x::r):l[i]?=some x/\l.drop (i+1)=r/\∃h:i<l.length,l[i]=x:=by
 have hi:i<l.length:=by
  by_cases hi:i<l.length
  ·exact hi
  ·rw[zoh qe]at h;cases h
 rw[zn6 hi]at h
 injection h with h1 h2
 exact⟨by rw[zng hi,h1],h2,hi,h1⟩
theorem qL{α:Type}{l:List α}{i:Nat}(h:l.drop i=[]):l.length<=i:=by simpa using h
def LI(K:IntKind)(l:List Int):List AV:=l.map fun n=>.sc (.int K n)
section
variable (K:IntKind)(l:List Int)
theorem qad:qlk (LI K l):=zbq _ l
@[simp] theorem vlI:(LI K l).all vl=true:=by simp[LI,List.all_map]
@[simp] theorem kR:(LI K l).length=l.length:=by simp[LI]
@[simp] theorem qbu?(i:Nat):(LI K l)[i]?=(l[i]?).map fun n=>.sc (.int K n):=by simp[LI]
@[simp] theorem qbu(i:Nat)(h:i<(LI K l).length):(LI K l)[i]= .sc (.int K (l[i]'(by simpa using h))):=by simp[LI]
@[simp] theorem zmn(i:Nat):(LI K l).drop i=LI K (l.drop i):=by simp[LI]
@[simp] theorem tailI:(LI K l).tail=LI K l.tail:=by simp[LI]
@[simp] theorem nilI:LI K []=[]:=rfl
theorem Qz(k:Nat)(hk:k=1\/k=2)(b:Nat)(hb:0<b/\b<=1000)(n:Int)(h:l.length<=1000000):jp b 1 (S k 1 (LI K l)) (S 1 1 [.sc (.int K n)])=some (S k 1 (LI K (l++[n]))):=by
 rw[YG b 1 k _ _ 1 hk (qkl _) (.inr (yZ hb.1 ?_))]
 ·simp[LI]
 ·simp only[kR,zna,zns]
  have:(l.length+(0+1))*b<=1000001*1000:=zn5 qe hb.2
  omega
theorem zcj(k:Nat)(hk:k=1\/k=2)(b:Nat)(hb:0<b/\b<=1000)(k':Nat)(m:List Int)(h:l.length+m.length<=1000000):jp b 1 (S k 1 (LI K l)) (S k' 1 (LI K m))=some (S k 1 (LI K (l++m))):=by
 rw[YG b 1 k _ _ k' hk (qad _ _) (.inr (yZ hb.1 ?_))]
 ·simp[LI]
 ·simp only[kR]
  have:(l.length+m.length)*b<=1000000*1000:=zn5 qe hb.2
  omega
end
section
variable (P:Program)(t:TypeId)(x y:Operand)(k k':IntKind)(a b:Int)
theorem jM(h:0<=b):qy P .shr t x y (.int k a) (.int k' b)=some (.int k (a.fdiv (2^(min b.toNat k.bits)))):=by
 unfold qy
 rw[Ja]
 simp only[Go.binOp,Op.shift]
 rw[if_neg qe]
 rfl
theorem zW(h:0<=b):qy P .shl t x y (.int k a) (.int k' b)=some (.int k (k.wrap (a*2^(min b.toNat k.bits)))):=by
 unfold qy
 rw[Ja]
 simp only[Go.binOp,Op.shift]
 rw[if_neg qe]
 rfl
end
theorem zB{z:Int}(h1:0<=z)(h2:z<256):IntKind.u8.wrap z=z:=by rw[IntKind.wrap_u8];omega
theorem qK{z:Int}(h1:0<=z)(h2:z<4294967296):IntKind.u32.wrap z=z:=by rw[IntKind.wrap_u32];omega
theorem qu{z:Int}(h1:0<=z)(h2:z<18446744073709551616):IntKind.u64.wrap z=z:=by rw[IntKind.wrap_u64];omega
theorem zn{a b:Int}(h:0<=a):a.tmod b=a%b:=Int.tmod_eq_emod_of_nonneg h
@[simp] theorem zmt (P : Program) (ts : Array TypeId) (t : TypeId) (k k' : IntKind) (a b : Int) : vh P .max ts t [.int k a, .int k' b] = some (.int k (max a b)) := by
 show some (Value.int k (if b>a then b else a))=_
 congr 2
 split<;>omega
@[simp] theorem zms (P : Program) (ts : Array TypeId) (t : TypeId) (k k' : IntKind) (a b : Int) : vh P .min ts t [.int k a, .int k' b] = some (.int k (min a b)) := by
 show some (Value.int k (if b<a then b else a))=_
 congr 2
 split<;>omega
@[simp] theorem vQ(b g o n z:Nat):zg (.ms b g o n z)=some (b,g,o,n,z):=rfl
@[simp] theorem qcu(b g o n z:Nat):ro (.ms b g o n z)= .ms b g o n z:=rfl
@[simp] theorem zit(b g o n z:Nat):ro1 (.ms b g o n z)= .ms b g o n z:=rfl
@[simp] theorem zm4(b g o n z:Nat):xU (.ms b g o n z)=some n:=rfl
@[simp] theorem zk6(b g o n z:Nat):qn 1 (.ms b g o n z)=some [.ms b g o n z]:=rfl
@[simp] theorem zl4(b g o n z:Nat):Zs (.ms b g o n z)=some ():=rfl
theorem zr{n i:Nat}(K:IntKind)(h:i<n):idx n (.int K (i:Int))=some i:=by
 have h1:(i:Int)<(n:Int):=qe
 simp[idx,h1]
theorem qT(hp:Hp)(cs:List AV):(hp.new cs).rd hp.next 0=some cs:=by simp[Hp.rd,Hp.new]
theorem qr(hp:Hp)(b:Nat)(cs:List AV):(hp.put b 0 cs).rd b 0=some cs:=by simp[Hp.rd,Hp.put]
theorem xC(K:IntKind)(l:List Int)(i:Nat)(n:Int)(h:i<l.length):qo (LI K l) i [.sc (.int K n)]=some (LI K (l.set i n)):=by
 unfold qo
 rw[if_pos qi]
 congr 1
 apply zph
 intro j
 simp only[zna,zns,LI,znt,List.getElem?_append,zm9,zn8,zpb,zno,zoo,zqn,zna,zns]
 by_cases h1:j<i
 ·have e1:j<min i l.length+(0+1):=qe
  have e2:j<min i l.length:=qe
  have e3:¬(i=j):=qe
  simp[e1,e2,e3,h1]
 ·by_cases h2:j=i
  ·subst h2
   have e2:¬(j<min j l.length):=qe
   have e3:j-min j l.length=0:=qe
   have e4:min j l.length=j:=qe
   simp[e2,e3,e4,h]
  ·have e1:¬(j<min i l.length+(0+1)):=qe
   have e2:¬(i=j):=qe
   have e3:i+(0+1)+(j-(min i l.length+(0+1)))=j:=qe
   have e4:¬(j<min i l.length):=qe
   simp only[e1,e2,e3,if_false]
theorem qkg(cs:List AV):qp cs 0 cs.length=some cs:=by simp[qp]
theorem zgd(hp:Hp)(b:Nat)(cs:List AV)(hb:hp.rd b 0=some cs)(hv:cs.all vl=true):wZ hp (.ms b 0 0 cs.length 1)=some (.sl 1 (cs.map ro1),hp.del b):=by
 have e:qp cs 0 (cs.length*1)=some cs:=by rw[zo2];exact qkg cs
 simp only[wZ,hb,znc,e,hv,Jc]
 rfl
theorem Zg(K:IntKind)(l:List Int)(hp:Hp)(b:Nat)(hb:hp.rd b 0=some (LI K l)):wZ hp (.ms b 0 0 l.length 1)=some (S 0 1 (LI K l),hp.del b):=by
 have h:=zgd hp b (LI K l) hb (vlI K l)
 rw[kR]at h
 rw[h,qad K l]
 rfl
@[simp] theorem frz1_S (k sz : Nat) (cs : List AV) (hp : Hp) : wZ hp (S k sz cs) = some (S k sz cs, hp) := by
 rcases jq k sz cs with e|e|⟨e,e'⟩<;>rw[e]<;>rfl
@[simp] theorem zm5(v:Value)(hp:Hp):wZ hp (.sc v)=some (.sc v,hp):=rfl
@[simp] theorem zmi(hp:Hp):Xq hp []=some ([],hp):=rfl
@[simp] theorem zk5(hp:Hp)(x:AV)(r:List AV):Xq hp (x::r)=(wZ hp x).bind fun p=>(Xq p.2 r).bind fun q=>some (p.1::q.1,q.2):=rfl
@[simp] theorem WQ(cs:List AV):zU 1 cs=cs.length:=rfl
theorem Yg(hp:Hp)(k sz:Nat)(cs:List AV):JQ hp sz (S k sz cs)=some cs:=by
 unfold JQ
 rcases jq k sz cs with e|e|⟨e,e'⟩<;>rw[e]
 ·simp[zg,xr]
 ·simp[zg,xr]
 ·simp[zg,xr,e',nil0]
theorem we(K:IntKind)(l:List Int)(k:Nat)(b:Nat)(hb:0<b/\b<=1000)(hl:l.length<=1000000)(hne:l≠[])(hp:Hp):jZ b 1 (S 1 1 []) (S k 1 (LI K l)) hp=some (.ms hp.next 0 0 l.length 1,hp.new (LI K l)):=by
 unfold jZ
 rw[Yg]
 simp only[znc]
 cases l with
 |nil=>exact absurd rfl hne
 |cons x l=>
  have hf:xN b 1 (LI K (x::l)).length=true:=yZ hb.1 (by
   rw[kR]
   have:(x::l).length*b<=1000000*1000:=zn5 hl hb.2
   omega)
  have e:LI K (x::l)= .sc (.int K x)::LI K l:=rfl
  rw[e]at hf⊢
  show(Jc (1=1/\xN b 1 (AV.sc (Value.int K x)::LI K l).length=true)).bind _=_
  rw[Zi ⟨rfl,hf⟩]
  simp[kR]
theorem qa0(b:Nat)(k:Nat)(hp:Hp):jZ b 1 (S 1 1 []) (S k 1 []) hp=some (S 1 1 [],hp):=by
 unfold jZ
 rw[Yg]
 rfl
theorem Jh(K:IntKind)(l:List Int)(n:Int)(b x:Nat)(hb:0<b/\b<=1000)(hl:l.length<=1000000)(hne:l≠[])(hp:Hp)(hx:hp.rd x 0=some (LI K l)):
 jZ b 1 (.ms x 0 0 l.length 1) (S 1 1 [.sc (.int K n)]) hp=some (.ms hp.next 0 0 (l.length+1) 1,(hp.del x).new (LI K (l++[n]))):=by
 have hpos:0<l.length:=zou.mpr hne
 have hf:xN b 1 (l.length*1+1)=true:=yZ hb.1 (by
  have:(l.length*1+1)*b<=1000001*1000:=zn5 qe hb.2
  omega)
 unfold jZ
 rw[Yg]
 simp only[znc,hx,zna,zns,WQ]
 rw[Zi (by simp[hpos])]
 simp only[znc]
 rw[Zi ⟨by rw[kR];omega,hf⟩]
 have e:((LI K l).take (l.length*1)).map ro1++[AV.sc (.int K n)]=LI K (l++[n]):=by
  rw[zo2,zn2 qg,qad]
  simp[LI]
 simp only[znc,e]
theorem Zl(K:IntKind)(n:Int)(b:Nat)(hb:0<b/\b<=1000)(hp:Hp):jZ b 1 (S 2 1 []) (S 1 1 [.sc (.int K n)]) hp=some (.ms hp.next 0 0 1 1,hp.new (LI K [n])):=by
 have hf:xN b 1 1=true:=yZ hb.1 qe
 unfold jZ
 rw[Yg]
 show(Jc (Zt nil0=true/\xN b 1 1=true)).bind _=_
 rw[Zi ⟨rfl,hf⟩]
 rfl
theorem Jm(K:IntKind)(n:Nat):xR (n:Int) [.int K 0]=LI K (List.replicate n 0):=by
 unfold xR LI
 rw[znj]
 induction n with
 |zero=>rfl
 |succ n ih=>
  rw[zpj,zpj,zq5,ih]
  rfl
@[simp] theorem qau(lo hi:Int)(d:Nat):zo lo hi none d=some d:=rfl
theorem xY{hi d n:Nat}(K:IntKind)(h:n<=hi):zo 0 (hi:Int) (some (.int K (n:Int))) d=some n:=by
 have h1:(n:Int)<=(hi:Int):=qe
 simp[zo,h1]
theorem zjm(K:IntKind)(l:List Int)(i n:Nat)(h:i+n<=l.length):qp (LI K l) i n=some (LI K ((l.drop i).take n)):=by
 unfold qp
 rw[if_pos (by simpa using h)]
 simp[LI,List.map_drop,zqx]
theorem ze4(K:IntKind)(l m:List Int)(i:Nat)(h:i+m.length<=l.length):qo (LI K l) i (LI K m)=some (LI K (l.take i++m++l.drop (i+m.length))):=by
 unfold qo
 rw[if_pos (by simpa using h)]
 simp[LI,List.map_drop,zqx]
theorem zhb(K:IntKind)(l:List Int)(n:Nat):(LI K l).take n=LI K (l.take n):=by simp[LI,zqx]
theorem YO(K:IntKind)(l:List Int)(hp:Hp)(b o n:Nat)(hb:hp.rd b 0=some (LI K l))(h:o+n<=l.length):JQ hp 1 (.ms b 0 o n 1)=some (LI K ((l.drop o).take n)):=by
 unfold JQ
 have e:=zjm K l o n h
 have e1:Jc (1=1/\0<1)=some ():=Zi ⟨rfl,qh⟩
 show(Jc (1=1/\0<1)).bind _=_
 rw[e1]
 simp only[znc,hb,zo2,e]
 rw[qad]
theorem ZF{q:AV×Nat}{g g':Nat->Option (Nat×List AV)}(h:yO q g=yO q g'):xz q g g'=some ():=by
 unfold xz
 exact if_pos h
@[simp] theorem zil(q:AV×Nat)(g:Nat->Option (Nat×List AV)):xz q g g=some ():=ZF rfl
theorem Vn(K:IntKind)(l:List Int)(x:AV)(b:Nat)(hb:0<b/\b<=1000)(hl:l.length<=1000000)(hne:l≠[])(hp:Hp)(hx:JQ hp 1 x=some (LI K l)):jZ b 1 (S 1 1 []) x hp=some (.ms hp.next 0 0 l.length 1,hp.new (LI K l)):=by
 have h:=we K l 0 b hb hl hne hp
 unfold jZ at h⊢
 rw[Yg]at h
 rw[hx]
 exact h
theorem qh6(K:IntKind)(l:List Int)(hp:Hp)(b:Nat)(hb:hp.rd b 0=some (LI K l)):JQ hp 1 (.ms b 0 0 l.length 1)=some (LI K l):=by
 have h:=YO K l hp b 0 l.length hb qe
 rwa [zpa,zn2 (znd _)]at h
end Go.Proofs.YtmajcennjgjlnaaGreat.AI
namespace Go.Proofs.YtmajcennjgjlnaaGreat.AI
open Go Go.RowKit Go.ChangeShapes Go.WideShapes Go.ChangeAt
set_option linter.unusedVariables false
set_option linter.unusedSimpArgs false
def InK(k:IntKind)(n:Int):Prop:=(Lit.int k n).wf=true
theorem InK.le{k:IntKind}{n:Int}(h:InK k n):k.min<=n/\n<=k.max:=by
 simpa[InK,Lit.wf]using h
theorem InK.u8{n:Int}(h:InK .u8 n):0<=n/\n<256:=by
 have:=h.le;simp[IntKind.min,IntKind.max,IntKind.signed,IntKind.bits]at this;omega
theorem InK.u16{n:Int}(h:InK .u16 n):0<=n/\n<65536:=by
 have:=h.le;simp[IntKind.min,IntKind.max,IntKind.signed,IntKind.bits]at this;omega
theorem InK.u32{n:Int}(h:InK .u32 n):0<=n/\n<4294967296:=by
 have:=h.le;simp[IntKind.min,IntKind.max,IntKind.signed,IntKind.bits]at this;omega
theorem InK.u64{n:Int}(h:InK .u64 n):0<=n/\n<18446744073709551616:=by
 have:=h.le;simp[IntKind.min,IntKind.max,IntKind.signed,IntKind.bits]at this;omega
theorem InK.i64{n:Int}(h:InK .i64 n):-9223372036854775808<=n/\n<9223372036854775808:=by
 have:=h.le;simp[IntKind.min,IntKind.max,IntKind.signed,IntKind.bits]at this;omega
def ArgsR(W:World)(xs:List AV)(vs:List Value):Prop:=xs.length=vs.length/\∀(i:Nat) (x:AV) (u:Value),xs[i]?=some x->vs[i]?=some u->Vu (VI W) W x u
theorem ArgsR.nil(W:World):ArgsR W [] []:=⟨rfl,qg⟩
theorem ArgsR.cons{W:World}{x:AV}{v:Value}{xs:List AV}{vs:List Value}(h:Vu (VI W) W x v)(t:ArgsR W xs vs):ArgsR W (x::xs) (v::vs):=by
 refine⟨by simp[t.1],fun i y u hx hu=>?_⟩
 cases i with
 |zero=>
  simp at hx hu
  subst hx hu
  exact h
 |succ i=>exact t.2 i y u (by simpa using hx) (by simpa using hu)
theorem law_args{c:Cx}(hc:Ok c/\qa4 c){f:FuncId}{xs:List AV}{vs:List Value}{v:Value}{hp':Hp}{W:World}(ha:ArgsR W xs vs)(h:run c f xs hp0=some (.sc v,hp')):Calls c.P f vs.toArray W fun e W'=>e= .returned v/\Below W.heap.size W W':=
 zay hc h ha.1 ha.2
section
variable {H:Type}{enc:TypeId×Value->H}{P:Program}{W:World}{fuel:Nat}{t e:TypeId}{cs:List Value}{y:DataW H×List MemPlace}{K:IntKind}
theorem rd_int(ht:P.underlying t=some (.int K))(h:DataW.trod enc P W 0 (fun _=>true) true fuel t cs=some y):∃n,cs=[.int K n]/\InK K n:=by
 obtain⟨n,h1,h2,h3⟩:=DataW.trod_int ht h
 exact⟨n,h1,h3⟩
theorem rd_bool(ht:P.underlying t=some .bool)(h:DataW.trod enc P W 0 (fun _=>true) true fuel t cs=some y):∃b:Bool,cs=[.bool b]:=by
 obtain⟨n,h1,h2⟩:=DataW.trod_bool ht h
 exact⟨n,h1⟩
theorem qs8{a:Addr}{len cap:Nat}{zs:List Int}(hl:len<=cap)(hz:zs.length=cap)(hcell:∀i,i<zs.length->W.cell? (a.add i)=some (.int K (zs.getD i 0))):
 RelR (VI W) W (S 0 1 (LI K (zs.take len))) (.slice (some a) len cap):=by
 have hg:∀i,i<zs.length->zs.getD i 0=zs[i]?.getD 0:=fun i _=>qg
 have:=zci (W:=W) (a:=a) (n:=len) (cap:=cap) (sz:=1) (cs:=LI K (zs.take len)) (vs:=(zs.take len).map fun n=>.int K n) qe qi qg hl
  (fun i v hv=>by
   simp only[znt,zql]at hv
   obtain⟨n,hn,rfl⟩:=hv
   have hi:i<(zs.take len).length:=(zni.mp hn).1
   simp at hi
   rw[hcell i qe]
   rw[List.getElem?_take_of_lt qe]at hn
   simp[hn])
  (fun x hx=>by
   obtain⟨n,_,rfl⟩:=zn9.mp hx
   rfl)
  (fun i x v hx hv=>by
   simp only[LI,znt,zql]at hx hv
   obtain⟨n,hn,rfl⟩:=hx
   obtain⟨m,hm,rfl⟩:=hv
   rw[hn]at hm
   cases hm
   exact .sc _ rfl)
 exact this (fun _=>.fr)
theorem rd_ints(ht:P.underlying t=some (.slice e))(he:P.underlying e=some (.int K))(hc:P.cellsOf e=1)(h:DataW.trod enc P W 0 (fun _=>true) true fuel t cs=some y):
 ∃k l v,cs=[v]/\RelR (VI W) W (S k 1 (LI K l)) v/\(k=0\/(k=2/\l=[]))/\∀n∈l,InK K n:=by
 rcases open_ints ht he hc h with⟨hcs,_⟩|⟨a,len,cap,zs,hcs,_,hl,hm,hz,_,hcell,hwz⟩
 ·exact⟨2,[],_,hcs,.sc nil0 rfl,.inr ⟨rfl,rfl⟩,qg⟩
 ·exact⟨0,zs.take len,_,hcs,qs8 hl (by simpa using hz) hcell,.inl rfl,fun n hn=>hwz n (zov hn)⟩
theorem arg_agg{xs:List AV}{vs:List Value}(hl:xs.length=vs.length)(h:∀(i:Nat) (x:AV) (v:Value),xs[i]?=some x->vs[i]?=some v->RelR (VI W) W x v):Vu (VI W) W (.agg xs) (.agg vs.toArray):=
 fun p=>⟨vs,rfl,hl,fun i x v hx hv=>(h i x v hx hv).c (p i)⟩
theorem cells_nil:∀(i:Nat) (x:AV) (v:Value),([]:List AV)[i]?=some x->([]:List Value)[i]?=some v->RelR (VI W) W x v:=qg
theorem cells_cons{x:AV}{v:Value}{xs:List AV}{vs:List Value}(h:RelR (VI W) W x v)(t:∀(i:Nat) (x:AV) (v:Value),xs[i]?=some x->vs[i]?=some v->RelR (VI W) W x v):
 ∀(i:Nat) (y:AV) (u:Value),(x::xs)[i]?=some y->(v::vs)[i]?=some u->RelR (VI W) W y u:=by
 intro i y u hx hu
 cases i with
 |zero=>
  simp at hx hu
  subst hx hu
  exact h
 |succ i=>exact t i y u (by simpa using hx) (by simpa using hu)
end
theorem cell_at{l:List Value}{o n:Nat}{a:Value}(h:(l.drop o).take n=[a]):l[o]?=some a:=by
 have h0:((l.drop o).take n)[0]?=some a:=by rw[h];rfl
 have hn:0<n:=by
  cases n with
  |zero=>simp at h
  |succ n=>omega
 rw[List.getElem?_take_of_lt hn]at h0
 simpa using h0
theorem list_eq7{l:List Value}{a0 a1 a2 a3 a4 a5 a6:Value}(h:l.length=7)(h0:l[0]?=some a0) (h1:l[1]?=some a1) (h2:l[2]?=some a2) (h3:l[3]?=some a3) (h4:l[4]?=some a4) (h5:l[5]?=some a5) (h6:l[6]?=some a6):l=[a0,a1,a2,a3,a4,a5,a6]:=by
 apply zph
 intro i
 match i with
 |0=>rw[h0];rfl
 |1=>rw[h1];rfl
 |2=>rw[h2];rfl
 |3=>rw[h3];rfl
 |4=>rw[h4];rfl
 |5=>rw[h5];rfl
 |6=>rw[h6];rfl
 |i+7=>rw[zn7 qe,zn7 qg]
end Go.Proofs.YtmajcennjgjlnaaGreat.AI
namespace Go.Proofs.YtmajcennjgjlnaaGreat.AI
open Go
set_option linter.unusedVariables false
set_option linter.unusedSimpArgs false
set_option maxRecDepth 100000
set_option maxHeartbeats 0
def ko(n:Nat):Nat->List Bool
 |0=>[]
 |k+1=>n.testBit k::ko n k
def una(n:Nat):List Bool:=List.replicate n true++[false]
def by8(l:List Bool)(s:Nat):Nat:=
 (l.getD s false).toNat*128+(l.getD (s+1) false).toNat*64+(l.getD (s+2) false).toNat*32+(l.getD (s+3) false).toNat*16
  +(l.getD (s+4) false).toNat*8+(l.getD (s+5) false).toNat*4+(l.getD (s+6) false).toNat*2+(l.getD (s+7) false).toNat
def pk(l:List Bool):List Int:=(List.range ((l.length+7)/8)).map fun i=>(by8 l (8*i):Int)
def yr(b:List Int)(i:Nat):Bool:=(b.getD (i/8) 0).toNat.testBit (7-i%8)
@[simp] theorem qg1 (n k : Nat) : (ko n k).length = k := by
 induction k with
 |zero=>rfl
 |succ k ih=>simp[ko,ih]
@[simp] theorem YL(n:Nat):(una n).length=n+1:=by simp[una]
@[simp] theorem zZ(l:List Bool):(pk l).length=(l.length+7)/8:=by simp[pk]
theorem qzt:pk []=[]:=rfl
theorem b2n(b:Bool):b.toNat<=1:=by cases b<;>decide
theorem qo5(l:List Bool)(s:Nat):by8 l s<256:=by
 unfold by8
 have:=b2n (l.getD s false);have:=b2n (l.getD (s+1) false);have:=b2n (l.getD (s+2) false);have:=b2n (l.getD (s+3) false)
 have:=b2n (l.getD (s+4) false);have:=b2n (l.getD (s+5) false);have:=b2n (l.getD (s+6) false);have:=b2n (l.getD (s+7) false)
 omega
theorem qgp(l:List Bool)(i:Nat)(h:i<(l.length+7)/8):(pk l).getD i 0=(by8 l (8*i):Int):=by
 unfold pk
 rw[znb,znt,zpw h]
 rfl
theorem WE{l:List Bool}{x:Int}(h:x∈pk l):0<=x/\x<256:=by
 unfold pk at h
 obtain⟨i,_,rfl⟩:=zn9.mp h
 have:=qo5 l (8*i)
 omega
theorem qkx(a b c d e f g h:Bool)(k:Nat)(hk:k<8):
 (a.toNat*128+b.toNat*64+c.toNat*32+d.toNat*16+e.toNat*8+f.toNat*4+g.toNat*2+h.toNat).testBit (7-k)=[a,b,c,d,e,f,g,h].getD k false:=by
 have:k=0\/k=1\/k=2\/k=3\/k=4\/k=5\/k=6\/k=7:=qe
 rcases this with r|r|r|r|r|r|r|r<;>subst r<;>revert a b c d e f g h<;>decide
theorem qk4(l:List Bool)(i:Nat)(h:i<l.length):yr (pk l) i=l.getD i false:=by
 unfold yr
 rw[qgp l (i/8) qe,znj]
 unfold by8
 rw[qkx _ _ _ _ _ _ _ _ _ qe]
 have hi:i=8*(i/8)+i%8:=qe
 generalize hq:8*(i/8)=q at*
 have:i%8=0\/i%8=1\/i%8=2\/i%8=3\/i%8=4\/i%8=5\/i%8=6\/i%8=7:=qe
 rcases this with r|r|r|r|r|r|r|r<;>(rw[r]at hi⊢;rw[hi];rfl)
theorem XB(l:List Bool)(i:Nat)(h:l.length<=i):yr (pk l) i=false:=by
 unfold yr
 by_cases h1:i/8<(l.length+7)/8
 ·rw[qgp l (i/8) h1,znj]
  unfold by8
  rw[qkx _ _ _ _ _ _ _ _ _ qe]
  have hi:i=8*(i/8)+i%8:=qe
  have hz:∀j,l.length<=j->l.getD j false=false:=fun j hj=>by
   rw[znb,zn7 hj];rfl
  generalize hq:8*(i/8)=q at*
  have:i%8=0\/i%8=1\/i%8=2\/i%8=3\/i%8=4\/i%8=5\/i%8=6\/i%8=7:=qe
  rcases this with r|r|r|r|r|r|r|r<;>(rw[r]at hi⊢;rw[hi]at h;first|exact hz _ h|exact hz _ qe)
 ·rw[znb,zn7 (by rw[zZ];omega)]
  exact Nat.zero_testBit _
theorem JH(l:List Bool)(b:Bool)(j:Nat):(l++[b]).getD j false=if j<l.length then l.getD j false else if j=l.length then b else false:=by
 rw[znb,znb]
 by_cases h:j<l.length
 ·rw[if_pos h,zn3 h]
 ·rw[if_neg h,zny qe]
  by_cases h1:j=l.length
  ·simp[h1]
  ·rw[if_neg h1,zn7 qi];rfl
theorem qjk(l:List Bool):pk (l++[false])=if l.length%8=0 then pk l++[0]else pk l:=by
 have hb:∀s,by8 (l++[false]) s=by8 l s:=by
  intro s
  have hg:∀j,(l++[false]).getD j false=l.getD j false:=by
   intro j
   rw[JH]
   by_cases h:j<l.length
   ·rw[if_pos h]
   ·rw[if_neg h]
    have:l.getD j false=false:=by rw[znb,zn7 qe];rfl
    rw[this];simp
  unfold by8
  simp only[hg]
 unfold pk
 simp only[hb,zm9,znl]
 by_cases h:l.length%8=0
 ·rw[if_pos h]
  have e:(l.length+1+7)/8=(l.length+7)/8+1:=qe
  have e2:8*((l.length+7)/8)=l.length:=qe
  rw[e,List.range_succ,List.map_append]
  congr 1
  simp only[zog,zp4,e2]
  have hz:∀j,l.getD (l.length+j) false=false:=fun j=>by
   rw[znb,zn7 qe];rfl
  have hz0:=hz 0
  rw[zoy]at hz0
  unfold by8
  simp only[hz,hz0]
  rfl
 ·rw[if_neg h]
  have e:(l.length+1+7)/8=(l.length+7)/8:=qe
  rw[e]
theorem zfc(l:List Bool):pk (l++[true])=(pk (l++[false])).set (l.length/8) (by8 (l++[true]) (8*(l.length/8)):Int):=by
 apply zph
 intro i
 rw[zqn]
 by_cases hi:i<(l.length+1+7)/8
 ·have e:∀b,(pk (l++[b]))[i]?=some (by8 (l++[b]) (8*i):Int):=by
   intro b
   unfold pk
   rw[znt,zpw (by simpa using hi)]
   rfl
  rw[e,e,zZ,zm9,znl]
  by_cases h1:l.length/8=i
  ·rw[if_pos h1,if_pos qe,h1]
  ·rw[if_neg h1]
   have hg:∀j,j<8->(l++[true]).getD (8*i+j) false=(l++[false]).getD (8*i+j) false:=by
    intro j hj
    rw[JH,JH]
    have:8*i+j≠l.length:=qe
    simp[this]
   have h0:=hg 0 qe
   rw[zoy]at h0
   unfold by8
   rw[h0,hg 1 qe,hg 2 qe,hg 3 qe,hg 4 qe,hg 5 qe,hg 6 qe,hg 7 qe]
 ·have e:∀b,(pk (l++[b]))[i]?=none:=by
   intro b
   rw[zn7]
   rw[zZ,zm9,znl]
   omega
  rw[e,e,zZ,zm9,znl]
  by_cases h1:l.length/8=i
  ·omega
  ·rw[if_neg h1]
theorem zkb(l:List Bool):(BitVec.ofNat 8 (by8 (l++[false]) (8*(l.length/8)))|||BitVec.ofNat 8 (2^(7-l.length%8))).toNat=by8 (l++[true]) (8*(l.length/8)):=by
 have hi:l.length=8*(l.length/8)+l.length%8:=qe
 unfold by8
 simp only[JH]
 generalize hq:8*(l.length/8)=q at*
 have hr:l.length%8=0\/l.length%8=1\/l.length%8=2\/l.length%8=3\/l.length%8=4\/l.length%8=5\/l.length%8=6\/l.length%8=7:=qe
 generalize l.getD q false=a0
 generalize l.getD (q+1) false=a1
 generalize l.getD (q+2) false=a2
 generalize l.getD (q+3) false=a3
 generalize l.getD (q+4) false=a4
 generalize l.getD (q+5) false=a5
 generalize l.getD (q+6) false=a6
 generalize l.getD (q+7) false=a7
 generalize l.length%8=r at*
 rw[hi]
 rcases hr with e|e|e|e|e|e|e|e<;>subst e<;>simp[show∀j,¬(q+j<q)from fun j=>qe]
 ·cases a0<;>rfl
 ·cases a0<;>cases a1<;>rfl
 ·cases a0<;>cases a1<;>cases a2<;>rfl
 ·cases a0<;>cases a1<;>cases a2<;>cases a3<;>rfl
 ·cases a0<;>cases a1<;>cases a2<;>cases a3<;>cases a4<;>rfl
 ·cases a0<;>cases a1<;>cases a2<;>cases a3<;>cases a4<;>cases a5<;>rfl
 ·cases a0<;>cases a1<;>cases a2<;>cases a3<;>cases a4<;>cases a5<;>cases a6<;>rfl
end Go.Proofs.YtmajcennjgjlnaaGreat.AI
namespace Go.Proofs.YtmajcennjgjlnaaGreat.AI
set_option linter.unusedVariables false
set_option linter.unusedSimpArgs false
def mrg:List Int->List Int->List Int
 |[],b=>b
 |a,[]=>a
 |x::a,y::b=>if x<y then x::mrg a (y::b)else if y<x then y::mrg (x::a) b else x::mrg a b
termination_by a b=>a.length+b.length
@[simp] theorem Jz(b:List Int):mrg [] b=b:=by unfold mrg;rfl
@[simp] theorem Kh(a:List Int):mrg a []=a:=by cases a<;>(unfold mrg;rfl)
theorem zP(x:Int)(a:List Int)(y:Int)(b:List Int):mrg (x::a) (y::b)=if x<y then x::mrg a (y::b)else if y<x then y::mrg (x::a) b else x::mrg a b:=by
 rw[mrg]
theorem VC{motive:List Int->List Int->Prop}(h1:∀b,motive [] b)(h2:∀a,motive a [])(h3:∀x a y b,x<y->motive a (y::b)->motive (x::a) (y::b))
 (h4:∀x a y b,y<x->motive (x::a) b->motive (x::a) (y::b)) (h5:∀x a b,motive a b->motive (x::a) (x::b)):∀a b,motive a b:=by
 intro a b
 generalize hn:a.length+b.length=n
 induction n using Nat.strongRecOn generalizing a b with
 |_ n ih=>
  cases a with
  |nil=>exact h1 b
  |cons x a=>
   cases b with
   |nil=>exact h2 _
   |cons y b=>
    by_cases hxy:x<y
    ·exact h3 x a y b hxy (ih (a.length+(y::b).length) (by simp at hn⊢;omega) _ _ rfl)
    ·by_cases hyx:y<x
     ·exact h4 x a y b hyx (ih ((x::a).length+b.length) (by simp at hn⊢;omega) _ _ rfl)
     ·have:x=y:=qe
      subst this
      exact h5 x a b (ih (a.length+b.length) (by simp at hn⊢;omega) _ _ rfl)
theorem ye(n:Int):∀a b,n∈mrg a b↔n∈a\/n∈b:=by
 apply VC
 ·intro b;simp
 ·intro a;simp
 ·intro x a y b h ih
  rw[zP,if_pos h,zne,ih,zne,zne]
  constructor
  ·rintro(h|h|h|h)
   ·exact .inl (.inl h)
   ·exact .inl (.inr h)
   ·exact .inr (.inl h)
   ·exact .inr (.inr h)
  ·rintro((h|h)|(h|h))
   ·exact .inl h
   ·exact .inr (.inl h)
   ·exact .inr (.inr (.inl h))
   ·exact .inr (.inr (.inr h))
 ·intro x a y b h ih
  rw[zP,if_neg qe,if_pos h,zne,ih,zne,zne]
  constructor
  ·rintro(h|(h|h)|h)
   ·exact .inr (.inl h)
   ·exact .inl (.inl h)
   ·exact .inl (.inr h)
   ·exact .inr (.inr h)
  ·rintro((h|h)|(h|h))
   ·exact .inr (.inl (.inl h))
   ·exact .inr (.inl (.inr h))
   ·exact .inl h
   ·exact .inr (.inr h)
 ·intro x a b ih
  rw[zP,if_neg qe,if_neg qe,zne,ih,zne,zne]
  constructor
  ·rintro(h|h|h)
   ·exact .inl (.inl h)
   ·exact .inl (.inr h)
   ·exact .inr (.inr h)
  ·rintro((h|h)|(h|h))
   ·exact .inl h
   ·exact .inr (.inl h)
   ·exact .inl h
   ·exact .inr (.inr h)
abbrev jP(l:List Int):Prop:=l.Pairwise (·<·)
theorem jl:∀a b,jP a->jP b->jP (mrg a b):=by
 apply VC (motive:=fun a b=>jP a->jP b->jP (mrg a b))
 ·intro b _ h;simpa using h
 ·intro a h _;simpa using h
 ·intro x a y b h ih ha hb
  rw[zP,if_pos h]
  have ha:=znh.mp ha
  refine znh.mpr ⟨fun n hn=>?_,ih ha.2 hb⟩
  rcases(ye n a (y::b)).mp hn with h'|h'
  ·exact ha.1 n h'
  ·rcases zne.mp h' with rfl|h'
   ·exact h
   ·have:=(znh.mp hb).1 n h';omega
 ·intro x a y b h ih ha hb
  rw[zP,if_neg qe,if_pos h]
  have hb':=znh.mp hb
  refine znh.mpr ⟨fun n hn=>?_,ih ha hb'.2⟩
  rcases(ye n (x::a) b).mp hn with h'|h'
  ·rcases zne.mp h' with rfl|h'
   ·exact h
   ·have:=(znh.mp ha).1 n h';omega
  ·exact hb'.1 n h'
 ·intro x a b ih ha hb
  rw[zP,if_neg qe,if_neg qe]
  have ha':=znh.mp ha
  have hb':=znh.mp hb
  refine znh.mpr ⟨fun n hn=>?_,ih ha'.2 hb'.2⟩
  rcases(ye n a b).mp hn with h'|h'
  ·exact ha'.1 n h'
  ·exact hb'.1 n h'
theorem vb:∀a b,(mrg a b).length<=a.length+b.length:=by
 apply VC (motive:=fun a b=>(mrg a b).length<=a.length+b.length)
 ·intro b;simp
 ·intro a;simp
 ·intro x a y b h ih
  rw[zP,if_pos h];simp at ih⊢;omega
 ·intro x a y b h ih
  rw[zP,if_neg qe,if_pos h];simp at ih⊢;omega
 ·intro x a b ih
  rw[zP,if_neg qe,if_neg qe];simp at ih⊢;omega
theorem ZI:∀{a b:List Int},jP a->jP b->(∀n,n∈a↔n∈b)->a=b
 |[],[],_,_,_=>rfl
 |[],y::b,_,_,h=>absurd ((h y).mpr qg) qg
 |x::a,[],_,_,h=>absurd ((h x).mp qg) qg
 |x::a,y::b,ha,hb,h=>by
  have ha':=znh.mp ha
  have hb':=znh.mp hb
  have hxy:x=y:=by
   have h1:=zne.mp ((h x).mp qg)
   have h2:=zne.mp ((h y).mpr qg)
   rcases h1 with h1|h1
   ·exact h1
   ·rcases h2 with h2|h2
    ·exact h2.symm
    ·have:=ha'.1 y h2
     have:=hb'.1 x h1
     omega
  subst hxy
  congr 1
  refine ZI ha'.2 hb'.2 fun n=>?_
  have:=h n
  constructor
  ·intro hn
   have hlt:=ha'.1 n hn
   rcases zne.mp (this.mp (zpn _ hn))with rfl|h'
   ·omega
   ·exact h'
  ·intro hn
   have hlt:=hb'.1 n hn
   rcases zne.mp (this.mpr (zpn _ hn))with rfl|h'
   ·omega
   ·exact h'
theorem Ki{a b c:List Int}(ha:jP a)(hb:jP b)(hc:jP c):mrg (mrg a b) c=mrg a (mrg b c):=
 ZI (jl _ _ (jl a b ha hb) hc) (jl _ _ ha (jl b c hb hc)) fun n=>by rw[ye,ye,ye,ye];exact or_assoc
theorem Xe{a:List Int}(ha:jP a):mrg a a=a:=
 ZI (jl _ _ ha ha) ha fun n=>by rw[ye];exact or_self_iff
theorem zfy{a b:List Int}(ha:jP a)(hb:jP b)(h:∀n∈b,n∈a):mrg a b=a:=
 ZI (jl _ _ ha hb) ha fun n=>by rw[ye];exact⟨fun h'=>h'.elim id (h n),.inl⟩
end Go.Proofs.YtmajcennjgjlnaaGreat.AI
namespace Go.Proofs.YtmajcennjgjlnaaGreat.AI
set_option linter.unusedVariables false
set_option linter.unusedSimpArgs false
theorem qh4:∀(A B:List Int) (k m n:Nat),k<=m->k<=n->(mrg (A.take m) (B.take n)).take k=(mrg A B).take k:=by
 apply VC (motive:=fun A B=>∀(k m n:Nat),k<=m->k<=n->(mrg (A.take m) (B.take n)).take k=(mrg A B).take k)
 ·intro b k m n hm hn
  rw[zra,Jz,Jz,zrp,zp5 hn]
 ·intro a k m n hm hn
  rw[zra,Kh,Kh,zrp,zp5 hm]
 ·intro x a y b h ih k m n hm hn
  match k,m,n,hm,hn with
  |0,_,_,_,_=>simp
  |k+1,m+1,n+1,hm,hn=>
   have:=ih k m (n+1) qe qe
   rw[znq]at this
   rw[znq,znq,zP,zP,if_pos h,if_pos h,znq,znq,this]
 ·intro x a y b h ih k m n hm hn
  match k,m,n,hm,hn with
  |0,_,_,_,_=>simp
  |k+1,m+1,n+1,hm,hn=>
   have n1:¬x<y:=qe
   have:=ih k (m+1) n qe qe
   rw[znq]at this
   rw[znq,znq,zP,zP,if_neg n1,if_pos h,if_neg n1,if_pos h,znq,znq,this]
 ·intro x a b ih k m n hm hn
  match k,m,n,hm,hn with
  |0,_,_,_,_=>simp
  |k+1,m+1,n+1,hm,hn=>
   have n1:¬x<x:=qe
   have:=ih k m n qe qe
   rw[znq,znq,zP,zP,if_neg n1,if_neg n1,if_neg n1,if_neg n1,znq,znq,this]
theorem VU(A B:List Int)(k:Nat):(mrg (A.take k) B).take k=(mrg A B).take k:=by
 have h:=qh4 A B k k (k+B.length) qe qe
 rwa [zn2 (by omega:B.length<=k+B.length)]at h
theorem Kb{l:List Int}(k:Nat)(h:jP l):jP (l.take k):=List.Pairwise.sublist (zq6 k l) h
def XN(acc:List Int):List Int->List Int
 |[]=>acc
 |n::r=>XN (mrg acc [n]) r
theorem VY:∀(r:List Int) {acc:List Int},jP acc->jP (XN acc r)
 |[],_,h=>h
 |n::r,_,h=>VY r (jl _ _ h qg)
theorem qg6(x:Int):∀(r acc:List Int),x∈XN acc r↔x∈acc\/x∈r
 |[],acc=>by simp[XN]
 |n::r,acc=>by
  rw[XN,qg6 x r,ye]
  simp[or_assoc]
def Zx(K:Nat)(acc:List Int):List Int->List Int
 |[]=>acc
 |n::r=>Zx K ((mrg acc [n]).take K) r
theorem qj5(K:Nat):∀(r acc:List Int),Zx K (acc.take K) r=(XN acc r).take K
 |[],acc=>rfl
 |n::r,acc=>by
  rw[Zx,VU,qj5 K r,XN]
theorem qhb(K:Nat)(r:List Int):Zx K [] r=(XN [] r).take K:=by
 simpa using qj5 K r []
theorem qua(K:Nat)(a:List Int):jP (Zx K [] a):=by rw[qhb];exact Kb K (VY a List.Pairwise.nil)
theorem zaz(K:Nat)(a:List Int):(Zx K [] a).length<=K:=by rw[qhb,zn8];omega
theorem zaq{K:Nat}{a:List Int}{x:Int}(h:x∈Zx K [] a):x∈a:=by
 rw[qhb]at h
 have:=(qg6 x a []).mp (zov h)
 simpa using this
end Go.Proofs.YtmajcennjgjlnaaGreat.AI
namespace Go.Proofs.YtmajcennjgjlnaaGreat.AI
open Ieee
set_option linter.unusedVariables false
set_option linter.unusedSimpArgs false
def yR(x:Nat):Prop:=9218868437227405312<x%9223372036854775808
instance (x : Nat) : Decidable (yR x) := by unfold yR; infer_instance
def jo(x:Nat):Int:=if x/9223372036854775808%2=1 then -((x%9223372036854775808:Nat):Int)else((x%9223372036854775808:Nat):Int)
def yQ(r:Nat):Nat:=if r<4503599627370496 then r else(4503599627370496+r%4503599627370496)*2^(r/4503599627370496-1)
theorem VF{a b:Nat}(h:a<b):yQ a<yQ b:=by
 unfold yQ
 by_cases ha:a<4503599627370496
 ·rw[if_pos ha]
  by_cases hb:b<4503599627370496
  ·rw[if_pos hb];exact h
  ·rw[if_neg hb]
   have h1:1<=2^(b/4503599627370496-1):=Nat.one_le_two_pow
   have h2:=zn5 (znd (4503599627370496+b%4503599627370496)) h1
   omega
 ·have hb:¬b<4503599627370496:=qe
  rw[if_neg ha,if_neg hb]
  by_cases hq:a/4503599627370496=b/4503599627370496
  ·rw[hq]
   have hr:a%4503599627370496<b%4503599627370496:=qe
   exact zqq qe (zpk _)
  ·have hq':a/4503599627370496<b/4503599627370496:=qe
   have h1:(4503599627370496+a%4503599627370496)*2^(a/4503599627370496-1)<(2*4503599627370496)*2^(a/4503599627370496-1):=by
    have:a%4503599627370496<4503599627370496:=zqa _ qe
    exact zqq qe (zpk _)
   have h2:2^(a/4503599627370496-1)*2=2^(a/4503599627370496):=by
    rw[<-Nat.pow_succ]
    congr 1
    omega
   have h3:2^(a/4503599627370496)<=2^(b/4503599627370496-1):=zoc qe qe
   have h4:4503599627370496*2^(b/4503599627370496-1)<=(4503599627370496+b%4503599627370496)*2^(b/4503599627370496-1):=zn5 qe (znd _)
   have h5:(2*4503599627370496)*2^(a/4503599627370496-1)=4503599627370496*2^(a/4503599627370496):=by
    rw[<-h2];generalize 2^(a/4503599627370496-1)=z;omega
   have h6:=zn5 (znd 4503599627370496) h3
   omega
theorem WR{a b:Nat}(h:yQ a=yQ b):a=b:=by
 rcases Nat.lt_trichotomy a b with h'|h'|h'
 ·have:=VF h';omega
 ·exact h'
 ·have:=VF h';omega
theorem qg7:yQ 0=0:=rfl
theorem ve(a b:Int):compare a b=if a<b then .lt else if a=b then .eq else .gt:=rfl
theorem qu1(a b:Int){c:Int}(hc:0<c):compare a b=compare (a*c) (b*c):=by
 rw[ve,ve]
 have h1:a*c<b*c↔a<b:=Int.mul_lt_mul_right hc
 have h2:a*c=b*c↔a=b:=⟨fun h=>Int.eq_of_mul_eq_mul_right qe h,fun h=>by rw[h]⟩
 simp only[h1,h2]
theorem YZ{x:Nat}(h:x%9223372036854775808<9218868437227405312):∃(m i:Nat),double.read x= .number (x/9223372036854775808%2==1) m (-1074+i)/\m*2^i=yQ (x%9223372036854775808):=by
 have e1:double.signWeight=9223372036854775808:=qh
 have e2:double.binade=4503599627370496:=qh
 have e3:double.infRung=9218868437227405312:=qh
 have e4:double.leastPlace=-1074:=qh
 unfold Format.read
 simp only[e1,e2,e3,e4]
 unfold yQ
 by_cases hb:x%9223372036854775808<4503599627370496
 ·rw[if_pos hb,if_pos hb]
  exact⟨_,0,rfl,qg⟩
 ·rw[if_neg hb,if_neg hb,if_pos h]
  exact⟨_,_,rfl,rfl⟩
theorem YY{x:Nat}(h:x%9223372036854775808=9218868437227405312):double.read x= .infinity (x/9223372036854775808%2==1):=by
 have e1:double.signWeight=9223372036854775808:=qh
 have e2:double.binade=4503599627370496:=qh
 have e3:double.infRung=9218868437227405312:=qh
 unfold Format.read
 simp only[e1,e2,e3]
 rw[if_neg qe,if_neg qe,if_pos h]
theorem qjc{x:Nat}(h:yR x):∃s t,double.read x= .nan s t:=by
 unfold yR at h
 have e1:double.signWeight=9223372036854775808:=qh
 have e2:double.binade=4503599627370496:=qh
 have e3:double.infRung=9218868437227405312:=qh
 unfold Format.read
 simp only[e1,e2,e3]
 rw[if_neg qe,if_neg qe,if_neg qe]
 exact⟨_,_,rfl⟩
theorem ZL{x y:Nat}(h:yR x):double.order x y=none:=by
 obtain⟨s,t,e⟩:=qjc h
 unfold Format.order
 rw[e]
 rfl
theorem ZK{x y:Nat}(h:yR y):double.order x y=none:=by
 obtain⟨s,t,e⟩:=qjc h
 unfold Format.order
 rw[e]
 cases double.read x<;>rfl
def sg(s:Bool)(m:Int):Int:=if s then -m else m
theorem zj6(s t:Bool)(a b:Nat):compare (sg s (yQ a)) (sg t (yQ b))=compare (sg s (a:Int)) (sg t (b:Int)):=by
 have h1:yQ a<yQ b↔a<b:=by
  constructor
  ·intro h
   rcases Nat.lt_trichotomy a b with h'|h'|h'
   ·exact h'
   ·subst h';omega
   ·have:=VF h';omega
  ·exact VF
 have h2:yQ a=yQ b↔a=b:=⟨WR,fun h=>by rw[h]⟩
 have h3:yQ a=0↔a=0:=⟨fun h=>WR (b:=0) (by rw[h,qg7]),fun h=>by rw[h,qg7]⟩
 have h4:yQ b=0↔b=0:=⟨fun h=>WR (b:=0) (by rw[h,qg7]),fun h=>by rw[h,qg7]⟩
 rw[ve,ve]
 cases s<;>cases t<;>simp only[sg,if_true,if_false,zor]
 ·have c1:((yQ a:Nat):Int)<(yQ b:Nat)↔(a:Int)<b:=qe
  have c2:((yQ a:Nat):Int)=(yQ b:Nat)↔(a:Int)=b:=qe
  simp only[c1,c2]
 ·have c1:((yQ a:Nat):Int)< -(yQ b:Nat)↔(a:Int)< -(b:Int):=qe
  have c2:((yQ a:Nat):Int)=-(yQ b:Nat)↔(a:Int)=-(b:Int):=qe
  simp only[c1,c2]
 ·have c1:-((yQ a:Nat):Int)<(yQ b:Nat)↔-(a:Int)<(b:Int):=qe
  have c2:-((yQ a:Nat):Int)=(yQ b:Nat)↔-(a:Int)=(b:Int):=qe
  simp only[c1,c2]
 ·have c1:-((yQ a:Nat):Int)< -(yQ b:Nat)↔-(a:Int)< -(b:Int):=qe
  have c2:-((yQ a:Nat):Int)=-(yQ b:Nat)↔-(a:Int)=-(b:Int):=qe
  simp only[c1,c2]
theorem wP(x:Nat):jo x=sg (x/9223372036854775808%2==1) ((x%9223372036854775808:Nat):Int):=by
 unfold jo sg
 by_cases h:x/9223372036854775808%2=1<;>simp[h]
theorem qb7(s:Bool)(m k:Nat):Ieee.signed s m k=sg s ((m*2^k:Nat):Int):=by
 unfold Ieee.signed sg
 rw[Nat.shiftLeft_eq]
 try (cases s<;>rfl)
theorem qtl{x y:Nat}(hx:x%9223372036854775808<9218868437227405312)(hy:y%9223372036854775808<9218868437227405312):double.order x y=some (compare (jo x) (jo y)):=by
 obtain⟨m,i,e1,e2⟩:=YZ hx
 obtain⟨n,j,f1,f2⟩:=YZ hy
 unfold Format.order
 rw[e1,f1]
 simp only[Datum.order]
 rw[wP,wP,<-zj6,<-e2,<-f2,qb7,qb7]
 congr 1
 have hc:(0:Int)<((2^(min i j):Nat):Int):=by have:=zpk (min i j);omega
 rw[qu1 _ _ hc]
 have p1:(-1074+(i:Int)-min (-1074+(i:Int)) (-1074+(j:Int))).toNat+min i j=i:=qe
 have p2:(-1074+(j:Int)-min (-1074+(i:Int)) (-1074+(j:Int))).toNat+min i j=j:=qe
 have q:∀(s:Bool) (m k c:Nat),sg s ((m*2^k:Nat):Int)*((2^c:Nat):Int)=sg s ((m*2^(k+c):Nat):Int):=by
  intro s m k c
  rw[zpz,<-Nat.mul_assoc]
  cases s
  ·simp only[sg,zor,if_false];rw[<-Int.natCast_mul]
  ·simp only[sg,if_true];rw[Int.neg_mul,<-Int.natCast_mul]
 rw[q,q,p1,p2]
theorem Ke{x y:Nat}(hx:¬yR x)(hy:¬yR y):double.order x y=some (compare (jo x) (jo y)):=by
 unfold yR at hx hy
 by_cases ix:x%9223372036854775808=9218868437227405312
 ·by_cases iy:y%9223372036854775808=9218868437227405312
  ·unfold Format.order
   rw[YY ix,YY iy]
   simp only[Datum.order]
   rw[wP,wP,ix,iy]
   cases(x/9223372036854775808%2==1)<;>cases(y/9223372036854775808%2==1)<;>decide
  ·obtain⟨n,j,f1,f2⟩:=YZ (x:=y) qe
   unfold Format.order
   rw[YY ix,f1]
   simp only[Datum.order]
   rw[wP,wP,ix,ve]
   generalize y%9223372036854775808=r at*
   cases(x/9223372036854775808%2==1)<;>cases(y/9223372036854775808%2==1)<;>simp only[sg,if_true,if_false,zor]
   ·rw[if_neg qe,if_neg qe]
   ·rw[if_neg qe,if_neg qe]
   ·rw[if_pos qe]
   ·rw[if_pos qe]
 ·by_cases iy:y%9223372036854775808=9218868437227405312
  ·obtain⟨n,j,f1,f2⟩:=YZ (x:=x) qe
   unfold Format.order
   rw[YY iy,f1]
   simp only[Datum.order]
   rw[wP,wP,iy,ve]
   generalize x%9223372036854775808=r at*
   cases(x/9223372036854775808%2==1)<;>cases(y/9223372036854775808%2==1)<;>simp only[sg,if_true,if_false,zor]
   ·rw[if_pos qe]
   ·rw[if_neg qe,if_neg qe]
   ·rw[if_pos qe]
   ·rw[if_neg qe,if_neg qe]
  ·exact qtl qe qe
theorem zjx(x y:Nat):(double.order x y==some .eq)=decide (¬yR x/\¬yR y/\jo x=jo y):=by
 by_cases hx:yR x
 ·rw[ZL hx];simp[hx]
 ·by_cases hy:yR y
  ·rw[ZK hy];simp[hy]
  ·rw[Ke hx hy,ve]
   rcases zrw (jo x) (jo y)with h|h|h
   ·have:¬(jo x=jo y):=qe
    simp[hx,hy,h,this]
   ·have:¬(jo x<jo y):=qe
    simp[hx,hy,h]
   ·have h1:¬(jo x<jo y):=qe
    have h2:¬(jo x=jo y):=qe
    simp[hx,hy,h1,h2]
theorem f_lt(x y:Nat):(double.order x y==some .lt)=decide (¬yR x/\¬yR y/\jo x<jo y):=by
 by_cases hx:yR x
 ·rw[ZL hx];simp[hx]
 ·by_cases hy:yR y
  ·rw[ZK hy];simp[hy]
  ·rw[Ke hx hy,ve]
   rcases zrw (jo x) (jo y)with h|h|h
   ·simp[hx,hy,h]
   ·have:¬(jo x<jo y):=qe
    simp[hx,hy,h]
   ·have h1:¬(jo x<jo y):=qe
    have h2:¬(jo x=jo y):=qe
    simp[hx,hy,h1,h2]
theorem f_gt(x y:Nat):(double.order x y==some .gt)=decide (¬yR x/\¬yR y/\jo y<jo x):=by
 by_cases hx:yR x
 ·rw[ZL hx];simp[hx]
 ·by_cases hy:yR y
  ·rw[ZK hy];simp[hy]
  ·rw[Ke hx hy,ve]
   rcases zrw (jo x) (jo y)with h|h|h
   ·have h1:¬(jo y<jo x):=qe
    simp[hx,hy,h,h1]
   ·have:¬(jo y<jo x):=qe
    simp[hx,hy,h]
   ·have h1:¬(jo x<jo y):=qe
    have h2:¬(jo x=jo y):=qe
    simp[hx,hy,h1,h2,h]
end Go.Proofs.YtmajcennjgjlnaaGreat.AI
namespace Go.Proofs.YtmajcennjgjlnaaGreat.AI
open Go
set_option linter.unusedVariables false
set_option linter.unusedSimpArgs false
set_option maxRecDepth 100000
set_option maxHeartbeats 0
theorem qu3(n:Nat)(h:n<9223372036854775808):(BitVec.ofInt 64 (n:Int)|||BitVec.ofInt 64 9223372036854775808).toNat=n+9223372036854775808:=by
 rw[zpt,znx,znx]
 have e1:(((n:Int)%((2^64:Nat):Int)).toNat)=n:=qe
 have e2:(((9223372036854775808:Int)%((2^64:Nat):Int)).toNat)=2^63*1:=qh
 rw[e1,e2,Nat.or_comm,<-Nat.two_pow_add_eq_or_of_lt (by simpa using h)]
 omega
theorem qbw(n:Nat)(h:n<9223372036854775808):(BitVec.ofInt 64 (n:Int)&&&BitVec.ofInt 64 9223372036854775808).toNat=0:=by
 rw[zp8,znx,znx]
 have e1:(((n:Int)%((2^64:Nat):Int)).toNat)=n:=qe
 have e2:(((9223372036854775808:Int)%((2^64:Nat):Int)).toNat)=2^63:=qh
 rw[e1,e2]
 apply zol
 intro i
 rw[zq1,zom,Nat.zero_testBit]
 by_cases hi:63=i
 ·subst hi
  rw[zqm (by simpa using h)]
  rfl
 ·simp[hi]
theorem qbx(n:Nat)(h:9223372036854775808<=n)(h':n<18446744073709551616):(BitVec.ofInt 64 (n:Int)&&&BitVec.ofInt 64 9223372036854775808).toNat=9223372036854775808:=by
 rw[zp8,znx,znx]
 have e1:(((n:Int)%((2^64:Nat):Int)).toNat)=n:=qe
 have e2:(((9223372036854775808:Int)%((2^64:Nat):Int)).toNat)=2^63:=qh
 have e3:(9223372036854775808:Nat)=2^63:=qh
 rw[e1,e2]
 conv=>rhs;rw[e3]
 obtain⟨m,rfl⟩:∃m,n=2^63*1+m:=⟨n-2^63,qe⟩
 rw[zpu qe]
 apply zol
 intro i
 rw[zq1,zoa,zo2,zom]
 by_cases hi:63=i
 ·subst hi;simp
 ·simp[hi]
theorem qho(n:Nat)(h':n<18446744073709551616):(BitVec.ofInt 64 (n:Int)&&&~~~(BitVec.ofInt 64 9223372036854775808)).toNat=n%9223372036854775808:=by
 have e2:(~~~(BitVec.ofInt 64 9223372036854775808)).toNat=2^63-1:=qh
 rw[zp8,znx,e2,zp6]
 have e1:(((n:Int)%((2^64:Nat):Int)).toNat)=n:=qe
 rw[e1]
def kw(w:Nat):Nat:=if yR w then 18444492273895866369 else if w<9223372036854775808 then w+9223372036854775808 else 18446744073709551615-w
def wk(k:Nat):Nat:=if k<9223372036854775808 then 18446744073709551615-k else k-9223372036854775808
def zaj(k:Nat):Bool:=decide (kw (wk k)=k)
theorem Qq(w:Nat)(h:w<18446744073709551616):kw w<18446744073709551616:=by
 unfold kw;repeat' split
 all_goals omega
theorem qb2(k:Nat)(h:k<18446744073709551616):wk k<18446744073709551616:=by
 unfold wk;split<;>omega
theorem zlo{w:Nat}(h:w<18446744073709551616)(hn:¬yR w):wk (kw w)=w:=by
 unfold kw
 rw[if_neg hn]
 unfold wk
 repeat' split
 all_goals omega
theorem qj4(w:Nat)(h:w<18446744073709551616):kw (wk (kw w))=kw w:=by
 by_cases hn:yR w
 ·unfold kw
  rw[if_pos hn]
  decide
 ·rw[zlo h hn]
def wG(w:Nat):Int:=if yR w then 6 else if w=9218868437227405312 then 5 else if w=18442240474082181120 then 0 else if w=9223372036854775808 then 2 else if w=0 then 3 else if w<9223372036854775808 then 4 else 1
def Vg(a b:Nat):Bool:=decide (¬yR a/\¬yR b/\jo a<jo b)
end Go.Proofs.YtmajcennjgjlnaaGreat.AI
namespace Go.Proofs.YtmajcennjgjlnaaGreat.AI
set_option linter.unusedVariables false
set_option linter.unusedSimpArgs false
def Bl(x n:Nat):Prop:=x<2^n/\(n=0\/2^(n-1)<=x)
theorem Bl.up{x k n:Nat}(h:Bl (x/2^k) n)(hx:2^k<=x):Bl x (n+k):=by
 obtain⟨h1,h2⟩:=h
 have hp:=zpk k
 have hn:n≠0:=by
  intro e
  subst e
  have:1<=x/2^k:=(Nat.one_le_div_iff hp).mpr hx
  simp at h1
  omega
 refine⟨?_,.inr ?_⟩
 ·rw[zpz]
  exact(Nat.div_lt_iff_lt_mul hp).mp h1
 ·have h3:=h2.resolve_left hn
  rw[show n+k-1=(n-1)+k by omega,zpz]
  exact(zqf hp).mp h3
end Go.Proofs.YtmajcennjgjlnaaGreat.AI
namespace Go.Proofs.YtmajcennjgjlnaaGreat.AI
set_option linter.unusedVariables false
set_option linter.unusedSimpArgs false
def uv(n:Nat):List Int:=if h:n<128 then [(n:Int)]else((n%128+128:Nat):Int)::uv (n/128)
termination_by n
decreasing_by omega
theorem KR{n:Nat}(h:n<128):uv n=[(n:Int)]:=by rw[uv];simp[h]
theorem VR{n:Nat}(h:¬(n<128)):uv n=((n%128+128:Nat):Int)::uv (n/128):=by rw[uv];simp[h]
theorem zlp(n:Nat):uv n≠[]:=by
 by_cases h:n<128
 ·rw[KR h];simp
 ·rw[VR h];simp
theorem zlq:∀(n:Nat) (x:Int),x∈uv n->0<=x/\x<256:=by
 intro n
 induction n using Nat.strongRecOn with
 |_ n ih=>
  intro x hx
  by_cases h:n<128
  ·rw[KR h]at hx;simp at hx;omega
  ·rw[VR h]at hx
   rcases zne.mp hx with rfl|hx
   ·omega
   ·exact ih (n/128) qe x hx
theorem zh3:∀(k n:Nat),n<128^(k+1)->(uv n).length<=k+1:=by
 intro k
 induction k with
 |zero=>intro n h;rw[KR qe];simp
 |succ k ih=>
  intro n h
  by_cases h1:n<128
  ·rw[KR h1];simp
  ·rw[VR h1]
   have:n/128<128^(k+1):=Nat.div_lt_of_lt_mul (by rw[zo4]at h;omega)
   have:=ih _ this
   simp only[zna];omega
theorem qD{n:Nat}(h:n<18446744073709551616):(uv n).length<=10:=zh3 9 n (znu h qh)
def gU:List Int->Nat->Nat->Nat->Nat×Nat×Int
 |[],_,_,u=>(0,u,3)
 |c::r,s,n,u=>
  if(s=63/\1<c)\/(0<s/\c=0)then(0,u+1,4)
  else if c<128 then(n+c.toNat*2^s,u+1,0)
  else gU r (s+7) (n+(c.toNat-128)*2^s) (u+1)
theorem zmd:∀(k m:Nat) (rest:List Int) (s n u:Nat),s=7*k->k<=9->m*2^s<18446744073709551616->(0<s->m≠0)->
 gU (uv m++rest) s n u=(n+m*2^s,u+(uv m).length,0):=by
 intro k m
 induction m using Nat.strongRecOn generalizing k with
 |_ m ih=>
  intro rest s n u hs hk hm hz
  have h63:s=63->m<2:=by
   intro e;rw[e]at hm
   have:(2:Nat)^63=9223372036854775808:=rfl
   rw[this]at hm;omega
  by_cases h:m<128
  ·rw[KR h]
   simp only[zo1,zn4]
   unfold gU
   rw[if_neg (by
    rintro(⟨h1,h2⟩|⟨h1,h2⟩)
    ·have:=h63 h1;omega
    ·have:=hz h1;omega),if_pos qe]
   simp
  ·rw[VR h]
   have hk9:k<9:=by
    rcases zqc k 9 with h1|h1
    ·exact h1
    ·have:=h63 qe;omega
   simp only[zo1]
   unfold gU
   rw[if_neg (by
    rintro(⟨h1,h2⟩|⟨h1,h2⟩)
    ·omega
    ·omega),if_neg qe]
   have jU:2^(s+7)=128*2^s:=by rw[zpz];omega
   have hle:m/128*2^(s+7)<=m*2^s:=by
    rw[jU,<-Nat.mul_assoc]
    exact znw _ qe
   rw[ih (m/128) qe (k+1) rest (s+7) _ _ qe qe qe (by intro _;omega)]
   have e1:(((m%128+128:Nat):Int).toNat-128)=m%128:=qe
   rw[e1,jU]
   have e2:n+m%128*2^s+m/128*(128*2^s)=n+m*2^s:=by
    have:m/128*(128*2^s)=(128*(m/128))*2^s:=by rw[zof 128 (m/128),zo8]
    rw[this,zoz,<-Nat.add_mul]
    have:m%128+128*(m/128)=m:=qe
    rw[this]
   rw[e2]
   simp only[zna]
   have e3:u+1+(uv (m/128)).length=u+((uv (m/128)).length+1):=qe
   rw[e3]
theorem zme:∀(r:List Int) (k s n u:Nat),(∀c∈r,0<=c/\c<256)->s=7*k->k<=9->(gU r s n u).2.2=0->
 ∃m,(gU r s n u).1=n+m*2^s/\(gU r s n u).2.1=u+(uv m).length/\r=uv m++r.drop (uv m).length/\(0<s->m≠0)/\m*2^s<18446744073709551616:=by
 intro r
 induction r with
 |nil=>intro k s n u hr hs hk h;simp[gU]at h
 |cons c r ih=>
  intro k s n u hr hs hk h
  have hc:=hr c qg
  unfold gU at h⊢
  split at h
  ·simp at h
  ·rename_i h1
   rw[if_neg h1]
   split at h
   ·rename_i h2
    rw[if_pos h2]
    have hu:uv c.toNat=[c]:=by
     rw[KR qe]
     have:((c.toNat:Nat):Int)=c:=qe
     rw[this]
    refine⟨c.toNat,rfl,by rw[hu];rfl,by rw[hu];rfl,fun h3 h4=>h1 (.inr ⟨h3,qe⟩),?_⟩
    by_cases h63:s=63
    ·have:¬(1<c):=fun h3=>h1 (.inl ⟨h63,h3⟩)
     have e:(2:Nat)^63=9223372036854775808:=rfl
     rw[h63,e];omega
    ·have hs56:s<=56:=qe
     have:2^s<=2^56:=zoc qh hs56
     have e:(2:Nat)^56=72057594037927936:=rfl
     rw[e]at this
     have:c.toNat*2^s<=127*72057594037927936:=zn5 qe this
     omega
   ·rename_i h2
    rw[if_neg h2]
    have hk9:k<9:=by
     rcases zqc k 9 with h3|h3
     ·exact h3
     ·exact absurd (.inl ⟨qe,qe⟩) h1
    obtain⟨m,m1,m2,m3,m4,m5⟩:=ih (k+1) (s+7) (n+(c.toNat-128)*2^s) (u+1) (fun x hx=>hr x (by simp[hx])) qe qe h
    have hm0:=m4 qe
    have hq:(c.toNat-128+128*m)/128=m:=qe
    have hrm:(c.toNat-128+128*m)%128=c.toNat-128:=qe
    have hu:uv (c.toNat-128+128*m)=c::uv m:=by
     rw[VR qe,hq,hrm]
     have:((c.toNat-128+128:Nat):Int)=c:=qe
     rw[this]
    have jU:2^(s+7)=128*2^s:=by rw[zpz];omega
    have e2:(c.toNat-128)*2^s+m*(128*2^s)=(c.toNat-128+128*m)*2^s:=by
     have:m*(128*2^s)=(128*m)*2^s:=by rw[zof 128 m,zo8]
     rw[this,<-Nat.add_mul]
    refine⟨c.toNat-128+128*m,?_,?_,?_,fun _ h4=>qe,?_⟩
    ·rw[m1,jU,zoz,e2]
    ·rw[m2,hu];simp only[zna];omega
    ·rw[hu];simp only[zna,zpx,zo1]
     congr 1
    ·by_cases h56:s<=49
     ·rw[<-e2,<-jU]
      have h7:2^s<=2^49:=zoc qh h56
      have e:(2:Nat)^49=562949953421312:=rfl
      rw[e]at h7
      have:(c.toNat-128)*2^s<=127*562949953421312:=zn5 qe h7
      have hd:m*2^(s+7)+2^(s+7)<=18446744073709551616:=by
       have hdv:2^(s+7)∣18446744073709551616:=by
        have:(18446744073709551616:Nat)=2^64:=rfl
        rw[this];exact Nat.pow_dvd_pow 2 qe
       obtain⟨q,hq'⟩:=hdv
       have hlt:m<q:=by
        have:m*2^(s+7)<q*2^(s+7):=by rw[zof q,<-hq'];exact m5
        exact zqz this
       have:(m+1)*2^(s+7)<=q*2^(s+7):=znw _ hlt
       rw[zpy,Nat.one_mul,zof q,<-hq']at this
       exact this
      have hlt7:(c.toNat-128)*2^s<2^(s+7):=by
       rw[jU]
       exact zqq qe (zpk s)
      omega
     ·have hs56:s=56:=qe
      rw[hs56]at m5⊢
      have e:(2:Nat)^(56+7)=9223372036854775808:=rfl
      have e':(2:Nat)^56=72057594037927936:=rfl
      rw[e]at m5
      rw[e']
      have hm1:m=1:=qe
      have hb:c.toNat-128+128*m<=255:=by rw[hm1];omega
      exact zow (znw _ hb) qh
def zz(n:Int):Nat:=if n<0 then((-(n+1))*2+1).toNat else(n*2).toNat
def qmq(u:Nat):Int:=if u%2=0 then(u/2:Nat)else -((u/2:Nat):Int)-1
theorem zd1(n:Int):qmq (zz n)=n:=by
 unfold zz qmq
 by_cases h:n<0
 ·rw[if_pos h]
  have:((-(n+1))*2+1).toNat%2=1:=qe
  rw[if_neg qe]
  omega
 ·rw[if_neg h]
  rw[if_pos qe]
  omega
theorem qb0{n:Int}(h1:-9223372036854775808<=n)(h2:n<9223372036854775808):zz n<18446744073709551616:=by
 unfold zz;split<;>omega
end Go.Proofs.YtmajcennjgjlnaaGreat.AI
namespace Go.Proofs.YtmajcennjgjlnaaGreat.AI
open Go
set_option linter.unusedVariables false
set_option linter.unusedSimpArgs false
set_option maxRecDepth 100000
set_option maxHeartbeats 0
def nz(l:List Nat):List Int:=l.map fun(n:Nat)=>(n:Int)
@[simp] theorem WM(l:List Nat):(nz l).length=l.length:=by simp[nz]
def qac(p:Nat):List Nat->List Nat
 |[]=>[]
 |x::r=>(x-p-1)::qac x r
def qw:List Nat->List Nat
 |[]=>[]
 |x::r=>x::qac x r
def qN:List Nat->Prop
 |[]=>True
 |[_]=>True
 |x::y::r=>x<y/\qN (y::r)
def xp(k:Nat):List Nat->Nat->Nat×Bool
 |[],n=>(n,true)
 |g::r,n=>if 4096<g/2^k then(0,false)else xp k r (n+(g/2^k+1+k))
def Vp(gs:List Nat):Nat->Nat->Nat->Int->Nat
 |0,_,b,_=>b
 |f+1,k,b,m=>if(xp k gs 0).2=true/\(m<0\/((xp k gs 0).1:Int)<m)then Vp gs f (k+1) k (xp k gs 0).1 else Vp gs f (k+1) b m
def jd(gs:List Nat):Nat:=Vp gs 64 0 63 (-1)
def jb(k:Nat):List Nat->List Bool
 |[]=>[]
 |g::r=>una (g/2^k)++ko g k++jb k r
def jf(gs:List Nat):List Bool:=jb (jd gs) gs
def zh(l:List Nat):List Int:=uv l.length++[(jd (qw l):Int)]++uv (pk (jf (qw l))).length++pk (jf (qw l))
@[simp] theorem zk4 (p : Nat) (l : List Nat) : (qac p l).length = l.length := by
 induction l generalizing p with
 |nil=>rfl
 |cons x r ih=>simp[qac,ih]
@[simp] theorem kK(l:List Nat):(qw l).length=l.length:=by cases l<;>simp[qw]
theorem zbk(l:List Nat)(p B:Nat)(h:∀x∈l,x<B):∀g∈qac p l,g<B:=by
 induction l generalizing p with
 |nil=>intro g hg;cases hg
 |cons x r ih=>
  intro g hg
  rcases zne.mp hg with e|e
  ·have:=h x qg;omega
  ·exact ih x (fun y hy=>h y (by simp[hy])) g e
theorem xG{l:List Nat}{B:Nat}(h:∀x∈l,x<B):∀g∈qw l,g<B:=by
 cases l with
 |nil=>intro g hg;cases hg
 |cons x r=>
  intro g hg
  rcases zne.mp hg with e|e
  ·rw[e];exact h x qg
  ·exact zbk r x B (fun y hy=>h y (by simp[hy])) g e
theorem quj:∀(l:List Nat) (p i:Nat),i<l.length->(qac p l)[i]?=some (l.getD i 0-(p::l).getD i 0-1):=by
 intro l
 induction l with
 |nil=>intro p i h;cases h
 |cons x r ih=>
  intro p i h
  cases i with
  |zero=>rfl
  |succ i=>
   have:=ih x i (by simpa using h)
   simpa[qac]using this
theorem Xp(l:List Nat)(i:Nat)(h:i<l.length):(qw l)[i]?=some (if i=0 then l.getD 0 0 else l.getD i 0-l.getD (i-1) 0-1):=by
 cases l with
 |nil=>cases h
 |cons x r=>
  cases i with
  |zero=>rfl
  |succ i=>
   have:=quj r x i (by simpa using h)
   simpa[qw]using this
theorem vA:∀(l:List Nat),qN l->∀i,i+1<l.length->l.getD i 0<l.getD (i+1) 0:=by
 intro l
 induction l with
 |nil=>intro _ i h;simp at h
 |cons x r ih=>
  intro hr i h
  cases r with
  |nil=>simp at h
  |cons y r=>
   cases i with
   |zero=>exact hr.1
   |succ i=>exact ih hr.2 i (by simpa using h)
theorem zb6(k:Nat):∀(gs:List Nat) (n:Nat),(xp k gs n).2=true->∀g∈gs,g/2^k<=4096:=by
 intro gs
 induction gs with
 |nil=>intro n _ g hg;cases hg
 |cons x r ih=>
  intro n h g hg
  unfold xp at h
  split at h
  ·cases h
  ·rcases zne.mp hg with e|e
   ·subst e;omega
   ·exact ih _ h g e
theorem zfe(gs:List Nat):∀(f k b:Nat) (m:Int),k+f=64->b<=63->(∀g∈gs,g/2^b<=4096)->Vp gs f k b m<=63/\∀g∈gs,g/2^(Vp gs f k b m)<=4096:=by
 intro f
 induction f with
 |zero=>intro k b m _ h1 h2;exact⟨h1,h2⟩
 |succ f ih=>
  intro k b m hk h1 h2
  unfold Vp
  split
  ·rename_i h
   exact ih (k+1) k _ qe qe (zb6 k gs 0 h.1)
  ·exact ih (k+1) b m qe h1 h2
theorem QZ{gs:List Nat}(h:∀g∈gs,g<18446744073709551616):jd gs<=63/\∀g∈gs,g/2^jd gs<=4096:=by
 refine zfe gs 64 0 63 (-1) rfl (znd _) (fun g hg=>?_)
 have:=h g hg
 have e:(2:Nat)^63=9223372036854775808:=qh
 rw[e]
 omega
theorem Qn(k:Nat)(hk:k<=63):∀(gs:List Nat),(∀g∈gs,g/2^k<=4096)->(jb k gs).length<=gs.length*4160:=by
 intro gs
 induction gs with
 |nil=>intro _;exact zn1 _
 |cons x r ih=>
  intro h
  have h1:=ih (fun g hg=>h g (by simp[hg]))
  have h2:=h x qg
  simp[jb]
  omega
theorem zhi(l:List Bool)(i:Nat):yr (pk l) i=l.getD i false:=by
 by_cases h:i<l.length
 ·exact qk4 l i h
 ·rw[XB l i qe,znb,zn7 qe]
  rfl
def Ss(l m:List Bool):Prop:=∀i,l.getD i false=m.getD i false
theorem Ss.pk{l m:List Bool}(h:pk l=pk m):Ss l m:=fun i=>by rw[<-zhi,<-zhi,h]
theorem Ss.tail{a b:Bool}{l m:List Bool}(h:Ss (a::l) (b::m)):a=b/\Ss l m:=⟨h 0,fun i=>h (i+1)⟩
theorem Ss.una:∀(q q':Nat) (l m:List Bool),Ss (una q++l) (una q'++m)->q=q'/\Ss l m:=by
 intro q
 induction q with
 |zero=>
  intro q' l m h
  cases q' with
  |zero=>exact⟨rfl,(Ss.tail h).2⟩
  |succ q'=>exact absurd (Ss.tail h).1 qh
 |succ q ih=>
  intro q' l m h
  cases q' with
  |zero=>exact absurd (Ss.tail h).1 qh
  |succ q'=>
   have:=ih q' l m (Ss.tail h).2
   exact⟨qe,this.2⟩
theorem Ss.app:∀(a b l m:List Bool),a.length=b.length->Ss (a++l) (b++m)->a=b/\Ss l m:=by
 intro a
 induction a with
 |nil=>
  intro b l m e h
  cases b with
  |nil=>exact⟨rfl,h⟩
  |cons y s=>cases e
 |cons x r ih=>
  intro b l m e h
  cases b with
  |nil=>cases e
  |cons y s=>
   have t:=Ss.tail h
   have i:=ih s l m (by simpa using e) t.2
   exact⟨by rw[t.1,i.1],i.2⟩
def YJ(cs:List Nat)(x:Nat):List Nat:=if(cs.set x (cs.getD x 0+24)).sum<=4096 then cs.set x (cs.getD x 0+24)else(cs.set x (cs.getD x 0+24)).map fun n=>(n+1)/2
def okM(cs:List Nat):Prop:=cs.length=64/\cs.sum<=4096/\∀n∈cs,1<=n
theorem qf4:∀(cs:List Nat) (x v:Nat),x<cs.length->(cs.set x v).sum+cs.getD x 0=cs.sum+v:=by
 intro cs
 induction cs with
 |nil=>intro x v h;cases h
 |cons c r ih=>
  intro x v h
  cases x with
  |zero=>simp;omega
  |succ x=>
   have:=ih x v (by simpa using h)
   simp only[List.set_cons_succ,zrv,List.getD_cons_succ]
   omega
theorem qh5:∀(cs:List Nat),2*(cs.map fun n=>(n+1)/2).sum<=cs.sum+cs.length:=by
 intro cs
 induction cs with
 |nil=>exact znd _
 |cons c r ih=>simp only[zog,zrv,zna];omega
theorem QO{cs:List Nat}{x:Nat}(h:okM cs)(hx:x<64):okM (YJ cs x):=by
 obtain⟨h1,h2,h3⟩:=h
 have hs:=qf4 cs x (cs.getD x 0+24) qe
 have hpos:∀n∈cs.set x (cs.getD x 0+24),1<=n:=by
  intro n hn
  rcases zp3 hn with e|e
  ·exact h3 n e
  ·omega
 unfold YJ
 split
 ·rename_i hle
  exact⟨by simp[h1],hle,hpos⟩
 ·have hh:=qh5 (cs.set x (cs.getD x 0+24))
  rw[List.length_set,h1]at hh
  refine⟨by simp[h1],qe,fun n hn=>?_⟩
  obtain⟨m,hm,rfl⟩:=zn9.mp hn
  have:=hpos m hm
  omega
theorem qQ:∀(cs:List Nat) (x:Nat),x<cs.length->(cs.take (x+1)).sum=(cs.take x).sum+cs.getD x 0:=by
 intro cs
 induction cs with
 |nil=>intro x h;cases h
 |cons c r ih=>
  intro x h
  cases x with
  |zero=>simp
  |succ x=>
   have:=ih x (by simpa using h)
   simp only[znq,zrv,List.getD_cons_succ]
   omega
theorem KS:∀(cs:List Nat) (x y:Nat),x<=y->(cs.take x).sum<=(cs.take y).sum:=by
 intro cs
 induction cs with
 |nil=>intro x y _;simp
 |cons c r ih=>
  intro x y h
  cases x with
  |zero=>simp
  |succ x=>
   cases y with
   |zero=>omega
   |succ y=>
    have:=ih x y qe
    simp only[znq,zrv]
    omega
theorem qR(cs:List Nat)(x:Nat):(cs.take x).sum<=cs.sum:=by
 by_cases h:x<=cs.length
 ·have:=KS cs x cs.length h
  rwa [zpm]at this
 ·rw[zn2 qe];exact znd _
structure En where
 low:Nat
 width:Nat
 held:Nat
 last:Nat
 begun:Bool
 out:List Int
def sh(s:En):En:=
 if s.low<4278190080\/4294967296<=s.low then
  ⟨s.low%16777216*256,s.width,0,s.low/16777216%256,true,s.out++(if s.begun then [(((s.last+s.low/4294967296%256)%256:Nat):Int)]else [])++List.replicate s.held (((255+s.low/4294967296%256)%256:Nat):Int)⟩
 else⟨s.low%16777216*256,s.width,s.held+1,s.last,s.begun,s.out⟩
def XM(s:En)(w:Nat):En:=⟨s.low,w,s.held,s.last,s.begun,s.out⟩
def zG:Nat->En->En
 |0,s=>s
 |f+1,s=>if s.width<16777216 then zG f (sh (XM s (s.width*256)))else s
def xL(s:En)(cs:List Nat)(x:Nat):En:=⟨s.low+s.width/cs.sum*(cs.take x).sum,s.width/cs.sum*cs.getD x 0,s.held,s.last,s.begun,s.out⟩
def enc:List Nat->En->List Nat->En
 |_,s,[]=>s
 |cs,s,x::r=>enc (YJ cs x) (zG 4 (xL s cs x)) r
def en0:En:=⟨0,4294967295,0,0,false,[]⟩
def cs0:List Nat:=List.replicate 64 1
def jk(l:List Nat):List Int:=(sh (sh (sh (sh (sh (enc cs0 en0 l)))))).out
def qP(l:List Int):Nat:=l.foldl (fun a b=>a*256+b.toNat) 0
theorem yk(l:List Int)(b:Int):qP (l++[b])=qP l*256+b.toNat:=by simp[qP,List.foldl_append]
theorem qo6(l:List Int):∀h,qP (l++List.replicate h 0)=qP l*256^h:=by
 intro h
 induction h with
 |zero=>simp
 |succ h ih=>
  rw[zpo,<-List.append_assoc,yk,ih,zo4,zo8]
  simp
theorem qu6(l:List Int):∀h,qP (l++List.replicate h 255)+1=(qP l+1)*256^h:=by
 intro h
 induction h with
 |zero=>simp
 |succ h ih=>
  rw[zpo,<-List.append_assoc,yk,zo4,<-Nat.mul_assoc,<-ih]
  have e:(255:Int).toNat=255:=rfl
  rw[e]
  omega
def bl(s:En):List Int:=s.out++(if s.begun then [(s.last:Int)]else [])++List.replicate s.held 255
def eV(s:En):Nat:=qP (bl s)*4294967296+s.low
def eK(s:En):Nat:=s.out.length+s.begun.toNat+s.held
theorem zcf(s:En):(bl s).length=eK s:=by
 unfold bl eK
 cases s.begun<;>simp<;>omega
def ZN(s:En)(w:Nat):Prop:=s.low+w<=8589934592/\s.last<256/\0<w/\((s.begun=false\/s.last=255)->s.low+w<=4294967296)
theorem Yq{s:En}{w v:Nat}(h:ZN s w)(h1:v<=w)(h2:0<v):ZN s v:=
 ⟨by have:=h.1;omega,h.2.1,h2,fun q=>by have:=h.2.2.2 q;omega⟩
theorem YP(s:En)(w:Nat)(h:ZN s w)(hw:w<=16777216):ZN (sh s) (w*256)/\eV (sh s)=eV s*256/\eK (sh s)=eK s+1/\(sh s).width=s.width:=by
 obtain⟨h1,h2,h3,h4⟩:=h
 by_cases hA:s.low<4278190080
 ·have e:sh s=⟨s.low%16777216*256,s.width,0,s.low/16777216%256,true,bl s⟩:=by
   unfold sh
   rw[if_pos (.inl hA)]
   have c0:s.low/4294967296%256=0:=qe
   have c1:(s.last+0)%256=s.last:=qe
   unfold bl
   rw[c0,c1]
   rfl
  rw[e]
  refine⟨⟨by show s.low%16777216*256+w*256<=_;omega,by show s.low/16777216%256<_;omega,qe,fun q=>?_⟩,?_,?_,rfl⟩
  ·rcases q with q|q
   ·cases q
   ·have q:s.low/16777216%256=255:=q
    omega
  ·show qP (bl s++[((s.low/16777216%256:Nat):Int)]++[])*4294967296+s.low%16777216*256=(qP (bl s)*4294967296+s.low)*256
   rw[znz,yk,znj]
   omega
  ·show(bl s).length+1+0=eK s+1
   rw[zcf]
 ·by_cases hB:4294967296<=s.low
  ·have hb:s.begun=true:=by
    cases hq:s.begun
    ·have:=h4 (.inl hq);omega
    ·rfl
   have hl:s.last<=254:=by
    by_cases q:s.last=255
    ·have:=h4 (.inr q);omega
    ·omega
   have e:sh s=⟨s.low%16777216*256,s.width,0,s.low/16777216%256,true,s.out++[((s.last+1:Nat):Int)]++List.replicate s.held 0⟩:=by
    unfold sh
    rw[if_pos (.inr hB),hb,if_pos rfl]
    have c0:s.low/4294967296%256=1:=qe
    have c1:(s.last+1)%256=s.last+1:=qe
    rw[c0,c1]
    rfl
   have eb:bl s=s.out++[(s.last:Int)]++List.replicate s.held 255:=by unfold bl;rw[hb,if_pos rfl]
   have n1:qP (s.out++[((s.last+1:Nat):Int)]++List.replicate s.held 0)=qP (bl s)+1:=by
    have f:=qu6 (s.out++[(s.last:Int)]) s.held
    rw[eb,f,qo6,yk,yk,znj,znj,zoz]
   rw[e]
   refine⟨⟨by show s.low%16777216*256+w*256<=_;omega,by show s.low/16777216%256<_;omega,qe,fun q=>?_⟩,?_,?_,rfl⟩
   ·rcases q with q|q
    ·cases q
    ·have q:s.low/16777216%256=255:=q
     show s.low%16777216*256+w*256<=_
     omega
   ·show qP (s.out++[((s.last+1:Nat):Int)]++List.replicate s.held 0++[((s.low/16777216%256:Nat):Int)]++[])*4294967296+s.low%16777216*256=(qP (bl s)*4294967296+s.low)*256
    rw[znz,yk,znj,n1]
    omega
   ·show(s.out++[((s.last+1:Nat):Int)]++List.replicate s.held 0).length+1+0=eK s+1
    unfold eK
    rw[hb]
    simp
    omega
  ·have e:sh s=⟨s.low%16777216*256,s.width,s.held+1,s.last,s.begun,s.out⟩:=by
    unfold sh
    rw[if_neg qe]
   rw[e]
   refine⟨⟨by show s.low%16777216*256+w*256<=_;omega,h2,qe,fun q=>?_⟩,?_,?_,rfl⟩
   ·have:=h4 q
    show s.low%16777216*256+w*256<=_
    omega
   ·show qP (s.out++(if s.begun then [(s.last:Int)]else [])++List.replicate (s.held+1) 255)*4294967296+s.low%16777216*256=(qP (bl s)*4294967296+s.low)*256
    have n1:qP (s.out++(if s.begun then [(s.last:Int)]else [])++List.replicate (s.held+1) 255)=qP (bl s)*256+255:=by
     rw[zpo,<-List.append_assoc,yk]
     rfl
    rw[n1]
    omega
   ·show s.out.length+s.begun.toNat+(s.held+1)=eK s+1
    unfold eK
    omega
theorem Kr(s:En)(w:Nat):eV (XM s w)=eV s/\eK (XM s w)=eK s:=⟨rfl,rfl⟩
theorem qql:∀(f:Nat) (s:En),ZN s s.width->s.width<=4294967296->4294967296<=s.width*256^f*256->∃d,eV (zG f s)=eV s*256^d/\(zG f s).width=s.width*256^d/\eK (zG f s)=eK s+d/\ZN (zG f s) (zG f s).width/\
 16777216<=(zG f s).width/\(zG f s).width<=4294967296:=by
 intro f
 induction f with
 |zero=>
  intro s h hw hf
  exact⟨0,by simp[zG],by simp[zG],rfl,h,by show 16777216<=s.width;simp at hf;omega,hw⟩
 |succ f ih=>
  intro s h hw hf
  unfold zG
  by_cases hl:s.width<16777216
  ·rw[if_pos hl]
   have h':ZN (XM s (s.width*256)) s.width:=h
   obtain⟨a1,a2,a3,a4⟩:=YP (XM s (s.width*256)) s.width h' qe
   have a4:(sh (XM s (s.width*256))).width=s.width*256:=a4
   have hf2:4294967296<=s.width*256*256^f*256:=by
    rw[zo4]at hf
    have e:s.width*(256^f*256)*256=s.width*256*256^f*256:=by
     rw[zo8 s.width 256,zof 256 (256^f)]
    rwa [e]at hf
   obtain⟨d,b1,b2,b3,b4,b5,b6⟩:=ih (sh (XM s (s.width*256))) (by rw[a4];exact a1) (by rw[a4];omega) (by rw[a4];exact hf2)
   refine⟨d+1,?_,?_,?_,b4,b5,b6⟩
   ·rw[b1,a2,(Kr s _).1,zo4,zo8,zof 256]
   ·rw[b2,a4,zo4,zo8,zof 256]
   ·rw[b3,a3,(Kr s _).2];omega
  ·rw[if_neg hl]
   exact⟨0,qg,qg,rfl,h,qe,hw⟩
theorem Zm(s:En)(cs:List Nat)(x:Nat)(hm:okM cs)(hx:x<64)(h:ZN s s.width)(hw:16777216<=s.width/\s.width<=4294967296):
 ∃d,eV (zG 4 (xL s cs x))=(eV s+s.width/cs.sum*(cs.take x).sum)*256^d/\(zG 4 (xL s cs x)).width=s.width/cs.sum*cs.getD x 0*256^d/\eK (zG 4 (xL s cs x))=eK s+d/\
  ZN (zG 4 (xL s cs x)) (zG 4 (xL s cs x)).width/\16777216<=(zG 4 (xL s cs x)).width/\(zG 4 (xL s cs x)).width<=4294967296/\0<s.width/cs.sum*cs.getD x 0:=by
 obtain⟨m1,m2,m3⟩:=hm
 have hn:1<=cs.getD x 0:=by
  rw[znb,zng qe]
  exact m3 _ (znr _)
 have ht:=qQ cs x qe
 have hta:=qR cs (x+1)
 have hpart:4096<=s.width/cs.sum:=by
  rw[zqf qe]
  have:4096*cs.sum<=4096*4096:=zok _ m2
  omega
 have hmul:s.width/cs.sum*cs.sum<=s.width:=zop _ _
 have hsum:s.width/cs.sum*(cs.take x).sum+s.width/cs.sum*cs.getD x 0<=s.width:=by
  rw[<-Nat.mul_add,<-ht]
  exact zon (zok _ hta) hmul
 have hge:s.width/cs.sum*1<=s.width/cs.sum*cs.getD x 0:=zok _ hn
 obtain⟨h1,h2,h3,h4⟩:=h
 have ok:ZN (xL s cs x) (xL s cs x).width:=by
  refine⟨?_,h2,?_,fun q=>?_⟩
  ·show s.low+s.width/cs.sum*(cs.take x).sum+s.width/cs.sum*cs.getD x 0<=_;omega
  ·show 0<s.width/cs.sum*cs.getD x 0;omega
  ·have:=h4 q
   show s.low+s.width/cs.sum*(cs.take x).sum+s.width/cs.sum*cs.getD x 0<=_;omega
 obtain⟨d,b1,b2,b3,b4,b5,b6⟩:=qql 4 (xL s cs x) ok (by show s.width/cs.sum*cs.getD x 0<=_;omega) (by
  show 4294967296<=s.width/cs.sum*cs.getD x 0*256^4*256
  have e:(256:Nat)^4=4294967296:=qh
  rw[e]
  omega)
 have ev:eV (xL s cs x)=eV s+s.width/cs.sum*(cs.take x).sum:=by
  show qP (bl s)*4294967296+(s.low+_)=qP (bl s)*4294967296+s.low+_
  omega
 exact⟨d,by rw[b1,ev],b2,b3,b4,b5,b6,qe⟩
theorem qox:∀(l cs:List Nat) (s:En),okM cs->(∀x∈l,x<64)->ZN s s.width->16777216<=s.width/\s.width<=4294967296->
 ∃d,eK (enc cs s l)=eK s+d/\eV s*256^d<=eV (enc cs s l)/\eV (enc cs s l)+(enc cs s l).width<=(eV s+s.width)*256^d/\ZN (enc cs s l) (enc cs s l).width/\0<(enc cs s l).width:=by
 intro l
 induction l with
 |nil=>intro cs s hm hl h hw;exact⟨0,rfl,by simp[enc],by simp[enc],h,by show 0<s.width;omega⟩
 |cons x r ih=>
  intro cs s hm hl h hw
  obtain⟨d,a1,a2,a3,a4,a5,a6,a7⟩:=Zm s cs x hm (hl x qg) h hw
  obtain⟨d2,b1,b2,b3,b4,b5⟩:=ih (YJ cs x) (zG 4 (xL s cs x)) (QO hm (hl x qg)) (fun y hy=>hl y (by simp[hy])) a4 ⟨a5,a6⟩
  have e:enc cs s (x::r)=enc (YJ cs x) (zG 4 (xL s cs x)) r:=rfl
  rw[e]
  refine⟨d+d2,by rw[b1,a3];omega,?_,?_,b4,b5⟩
  ·refine zon ?_ b2
   rw[a1,zpz,<-Nat.mul_assoc]
   exact znw _ (znw _ (Nat.le_add_right _ _))
  ·refine zon b3 ?_
   rw[a1,a2,<-Nat.add_mul,zpz,<-Nat.mul_assoc]
   refine znw _ (znw _ ?_)
   have ht:=qQ cs x (by have:=hm.1;have:=hl x qg;omega)
   have hta:=qR cs (x+1)
   have hmul:s.width/cs.sum*cs.sum<=s.width:=zop _ _
   have hsum:s.width/cs.sum*(cs.take x).sum+s.width/cs.sum*cs.getD x 0<=s.width:=by
    rw[<-Nat.mul_add,<-ht]
    exact zon (zok _ hta) hmul
   omega
theorem qju:okM cs0:=⟨qh,qh,fun n hn=>by rw[zo9 hn];exact znd _⟩
theorem qjv:ZN en0 en0.width:=⟨qh,qh,qh,fun _=>qh⟩
theorem JM(l:List Nat)(hl:∀x∈l,x<64):qP (jk l)=eV (enc cs0 en0 l)/\(jk l).length=eK (enc cs0 en0 l)+4:=by
 obtain⟨d,_,_,_,h,hw⟩:=qox l cs0 en0 qju hl qjv ⟨qh,qh⟩
 unfold jk
 generalize enc cs0 en0 l=s at*
 have s1:=YP s 1 (Yq h hw qe) qe
 have s2:=YP (sh s) 1 (Yq s1.1 qe qe) qe
 have s3:=YP (sh (sh s)) 1 (Yq s2.1 qe qe) qe
 have s4:=YP (sh (sh (sh s))) 1 (Yq s3.1 qe qe) qe
 have lw:∀s:En,(sh s).low=s.low%16777216*256:=fun s=>by unfold sh;split<;>rfl
 have z:(sh (sh (sh (sh s)))).low=0:=by rw[lw,lw,lw,lw];omega
 have e:(sh (sh (sh (sh (sh s))))).out=bl (sh (sh (sh (sh s)))):=by
  have h2:=s4.1.2.1
  generalize sh (sh (sh (sh s)))=t at*
  unfold sh
  rw[if_pos (.inl qe),z]
  have c1:(t.last+0/4294967296%256)%256=t.last:=qe
  unfold bl
  rw[c1]
  rfl
 rw[e,zcf,s4.2.2.1,s3.2.2.1,s2.2.2.1,s1.2.2.1]
 refine⟨?_,qe⟩
 have v:eV (sh (sh (sh (sh s))))=qP (bl (sh (sh (sh (sh s)))))*4294967296+0:=by rw[<-z];rfl
 rw[s4.2.1,s3.2.1,s2.2.1,s1.2.1]at v
 omega
def zx(m:Nat):Nat->Nat
 |0=>0
 |n+1=>zx m n+(m.testBit n).toNat
theorem Jx(m a:Nat):∀b,zx m (a+b)=zx m a+zx (m/2^a) b:=by
 intro b
 induction b with
 |zero=>rfl
 |succ b ih=>
  show zx m (a+b)+(m.testBit (a+b)).toNat=zx m a+(zx (m/2^a) b+((m/2^a).testBit b).toNat)
  rw[ih,zob,zq2 b a]
  omega
theorem vF(m:Nat):∀n,zx m n<=n:=by
 intro n
 induction n with
 |zero=>exact znd _
 |succ n ih=>
  show zx m n+_<=n+1
  have:=b2n (m.testBit n)
  omega
theorem qqh(m k:Nat):∀n,n<=k->zx (m%2^k) n=zx m n:=by
 intro n
 induction n with
 |zero=>intro _;rfl
 |succ n ih=>
  intro h
  show zx (m%2^k) n+_=zx m n+_
  rw[ih qe,znn]
  simp[show n<k by omega]
def mkB(c:Nat):Nat->Nat
 |0=>0
 |k+1=>mkB c k*256+c
theorem QC(a b c d:Nat)(hb:b<256)(hd:d<256):(a*256+b)&&&(c*256+d)=(a&&&c)*256+(b&&&d):=by
 have hbd:b&&&d<256:=zow Nat.and_le_left hb
 apply zol
 intro i
 have e1:=zqr a (i:=8) hb i
 have e2:=zqr c (i:=8) hd i
 have e3:=zqr (a&&&c) (i:=8) hbd i
 have q:∀x y,2^8*x+y=x*256+y:=fun x y=>qe
 rw[q]at e1 e2 e3
 rw[zq1,e1,e2,e3]
 by_cases h:i<8
 ·rw[if_pos h,if_pos h,if_pos h,zq1]
 ·rw[if_neg h,if_neg h,if_neg h,zq1]
def f1(k x:Nat):Nat:=((x/2)&&&mkB 85 k)+(x&&&mkB 85 k)
def f2(k x:Nat):Nat:=((x/4)&&&mkB 51 k)+(x&&&mkB 51 k)
def f3(k x:Nat):Nat:=(x/16+x)&&&mkB 15 k
theorem zmr:∀b,b<256->∀t,t<2->(t*128+b/2)&&&85=(b/2)&&&85:=qh
theorem zmq:∀b,b<256->∀t,t<4->(t*64+b/4)&&&51=(b/4)&&&51:=qh
theorem zby(k a b:Nat)(hb:b<256):f1 (k+1) (a*256+b)=f1 k a*256+f1 1 b:=by
 unfold f1
 have e:(a*256+b)/2=a/2*256+(a%2*128+b/2):=qe
 have m:mkB 85 (k+1)=mkB 85 k*256+85:=rfl
 have m1:mkB 85 1=85:=rfl
 rw[e,m,m1,QC _ _ _ _ qe qe,QC _ _ _ _ hb qe,zmr b hb _ qe]
 omega
theorem zbx(k a b:Nat)(hb:b<256):f2 (k+1) (a*256+b)=f2 k a*256+f2 1 b:=by
 unfold f2
 have e:(a*256+b)/4=a/4*256+(a%4*64+b/4):=qe
 have m:mkB 51 (k+1)=mkB 51 k*256+51:=rfl
 have m1:mkB 51 1=51:=rfl
 rw[e,m,m1,QC _ _ _ _ qe qe,QC _ _ _ _ hb qe,zmq b hb _ qe]
 omega
theorem zgg:∀b,b<256->f1 1 b<256:=qh
theorem qri:∀b,b<256->f2 1 (f1 1 b)<256/\f2 1 (f1 1 b)%16<=4/\f2 1 (f1 1 b)/16<=4/\f3 1 (f2 1 (f1 1 b))=zx b 8:=qh
def f12(k x:Nat):Nat:=f2 k (f1 k x)
theorem qdk(k a b:Nat)(hb:b<256):f12 (k+1) (a*256+b)=f12 k a*256+f12 1 b:=by
 unfold f12
 rw[zby k a b hb,zbx k _ _ (zgg b hb)]
theorem zgh(k x:Nat)(h:x<256^k):f12 k x%16<=4:=by
 cases k with
 |zero=>
  have:x=0:=qe
  subst this
  decide
 |succ k=>
  have e:x=x/256*256+x%256:=qe
  rw[e,qdk k _ _ qe]
  have:=(qri (x%256) qe).2.1
  unfold f12 at*
  omega
theorem zbw(k a b:Nat)(ha:a<256^k)(hb:b<256):f3 (k+1) (f12 (k+1) (a*256+b))=f3 k (f12 k a)*256+zx b 8:=by
 rw[qdk k a b hb]
 have hl:=zgh k a ha
 have hB:=qri b hb
 have e12:f12 1 b=f2 1 (f1 1 b):=rfl
 rw[<-hB.2.2.2,e12]
 generalize f2 1 (f1 1 b)=B at*
 generalize f12 k a=A at*
 obtain⟨h1,h2,h3,_⟩:=hB
 unfold f3
 have e:(A*256+B)/16+(A*256+B)=(A/16+A)*256+(A%16*16+B/16+B):=qe
 have m:mkB 15 (k+1)=mkB 15 k*256+15:=rfl
 have m1:mkB 15 1=15:=rfl
 rw[e,m,m1,QC _ _ _ _ qe qe]
 congr 1
 have q:∀x,x&&&15=x%16:=fun x=>zp6 x 4
 rw[q,q]
 omega
def cB(x:Nat):Nat->Nat
 |0=>0
 |k+1=>cB (x/256) k*256+zx (x%256) 8
theorem zjy:∀(k x:Nat),x<256^k->f3 k (f12 k x)=cB x k:=by
 intro k
 induction k with
 |zero=>
  intro x h
  have:x=0:=qe
  subst this
  decide
 |succ k ih=>
  intro x h
  have e:x=x/256*256+x%256:=qe
  have h2:x/256<256^k:=by rw[zo4]at h;omega
  have:=zbw k (x/256) (x%256) h2 qe
  rw[<-e,ih _ h2]at this
  exact this
theorem qtj(x:Nat):zx x 64=zx (x%256) 8+(zx (x/256%256) 8+(zx (x/256/256%256) 8+(zx (x/256/256/256%256) 8+(zx (x/256/256/256/256%256) 8+
 (zx (x/256/256/256/256/256%256) 8+(zx (x/256/256/256/256/256/256%256) 8+zx (x/256/256/256/256/256/256/256%256) 8)))))):=by
 have s:∀y n,zx y (8+n)=zx (y%256) 8+zx (y/256) n:=fun y n=>by
  rw[Jx y 8 n]
  have:=qqh y 8 8 (znd _)
  rw[<-this]
 have e64:(64:Nat)=8+(8+(8+(8+(8+(8+(8+(8+0))))))):=rfl
 rw[e64]
 simp only[s]
 rfl
theorem qzn(c:Nat)(c0 c1 c2 c3 c4 c5 c6 c7:Nat)(h0:c0<=8)(h1:c1<=8)(h2:c2<=8)(h3:c3<=8)(h4:c4<=8)(h5:c5<=8)(h6:c6<=8)(h7:c7<=8)
 (h:c=((((((c7*256+c6)*256+c5)*256+c4)*256+c3)*256+c2)*256+c1)*256+c0):
 c<651061555542690057/\∃d,d=c+c/256/\∃e,e=d+d/65536/\e+e/4294967296<9223372036854775808/\(e+e/4294967296)%128=c0+(c1+(c2+(c3+(c4+(c5+(c6+c7)))))):=by
 obtain⟨A7,hA7⟩:∃A,A=c7:=⟨_,rfl⟩
 obtain⟨A6,hA6⟩:∃A,A=A7*256+c6:=⟨_,rfl⟩
 obtain⟨A5,hA5⟩:∃A,A=A6*256+c5:=⟨_,rfl⟩
 obtain⟨A4,hA4⟩:∃A,A=A5*256+c4:=⟨_,rfl⟩
 obtain⟨A3,hA3⟩:∃A,A=A4*256+c3:=⟨_,rfl⟩
 obtain⟨A2,hA2⟩:∃A,A=A3*256+c2:=⟨_,rfl⟩
 obtain⟨A1,hA1⟩:∃A,A=A2*256+c1:=⟨_,rfl⟩
 rw[<-hA7,<-hA6,<-hA5,<-hA4,<-hA3,<-hA2,<-hA1]at h
 have dv:∀a b:Nat,b<256->(a*256+b)/256=a:=fun a b hb=>qe
 have b7:A7<=8:=qe
 have b6:A6<=2056:=qe
 have b5:A5<=526344:=qe
 have b4:A4<=134744072:=qe
 have b3:A3<=34494482440:=qe
 have b2:A2<=8830587504648:=qe
 have b1:A1<=2260630401189896:=qe
 have b0:c<=578721382704613384:=qe
 have e0:c/256=A1:=by rw[h];exact dv A1 c0 qe
 --the first sum
 have s7:A7=0*256+c7:=qe
 have s6:A6+A7=A7*256+(c6+c7):=qe
 have s5:A5+A6=(A6+A7)*256+(c5+c6):=qe
 have s4:A4+A5=(A5+A6)*256+(c4+c5):=qe
 have s3:A3+A4=(A4+A5)*256+(c3+c4):=qe
 have s2:A2+A3=(A3+A4)*256+(c2+c3):=qe
 have s1:A1+A2=(A2+A3)*256+(c1+c2):=qe
 have s0:c+A1=(A1+A2)*256+(c0+c1):=qe
 refine⟨qe,_,rfl,_,rfl,?_⟩
 rw[e0]
 generalize hd:c+A1=d at*
 generalize hB1:A1+A2=B1 at*
 generalize hB2:A2+A3=B2 at*
 generalize hB3:A3+A4=B3 at*
 generalize hB4:A4+A5=B4 at*
 generalize hB5:A5+A6=B5 at*
 generalize hB6:A6+A7=B6 at*
 have e1:d/65536=B2:=by
  have:d/65536=d/256/256:=by rw[zpg]
  rw[this,s0,dv _ _ qe,s1,dv _ _ qe]
 have t6:B6=A7*256+(c6+c7):=s6
 have t4:B4+B6=(B5+A7)*256+(c4+c5+(c6+c7)):=qe
 have t3:B3+B5=(B4+B6)*256+(c3+c4+(c5+c6)):=qe
 have t2:B2+B4=(B3+B5)*256+(c2+c3+(c4+c5)):=qe
 have t1:B1+B3=(B2+B4)*256+(c1+c2+(c3+c4)):=qe
 have t0:d+B2=(B1+B3)*256+(c0+c1+(c2+c3)):=qe
 rw[e1]
 have hde:d+B2<=600000000000000000:=qe
 generalize hE0:d+B2=E0 at*
 generalize hE1:B1+B3=E1 at*
 generalize hE2:B2+B4=E2 at*
 generalize hE3:B3+B5=E3 at*
 generalize hE4:B4+B6=E4 at*
 have e2:E0/4294967296=E4:=by
  have:E0/4294967296=E0/256/256/256/256:=by rw[zpg,zpg,zpg]
  rw[this,t0,dv _ _ qe,t1,dv _ _ qe,t2,dv _ _ qe,t3,dv _ _ qe]
 rw[e2]
 have hE4b:E4<=1000000000000:=qe
 clear hd hB1 hB2 hB3 hB4 hB5 hB6 s0 s1 s2 s3 s4 s5 s6 s7 h hA1 hA2 hA3 hA4 hA5 hA6 hA7 e0 e1 t1 t2 t3 t6 hE0 hE1 hE2 hE3 hE4 e2
 refine⟨qe,?_⟩
 have m:∀a b s t:Nat,(a*256+s+(b*256+t))%128=(s+t)%128:=fun a b s t=>qe
 rw[t0,t4,m]
 omega
def jD(m:Nat):Nat->Nat
 |0=>0
 |n+1=>jD m n+(m.testBit n&&!(decide (0<n)&&m.testBit (n-1))).toNat
def yJ(m:Nat):Nat->Nat->List Int
 |0,_=>[]
 |f+1,i=>if m.testBit i then(i:Int)::yJ m f (i+1)else yJ m f (i+1)
def yH(m:Nat):Nat->Nat->List Int
 |0,_=>[]
 |f+1,i=>((m/2^(8*i)%256:Nat):Int)::yH m f (i+1)
def yx(m:Nat):Nat->Nat->Nat
 |0,i=>i
 |f+1,i=>if m.testBit (i+1)then yx m f (i+1)else i
def kQ(m:Nat):Nat->Nat->List Int
 |0,_=>[]
 |f+1,i=>if 256<=i then []else if m.testBit i then(i:Int)::((yx m (255-i) i-i:Nat):Int)::kQ m f (yx m (255-i) i+1)else kQ m f (i+1)
def kind(m:Nat):Nat:=if zx m 256+1<=32/\zx m 256+1<=2*jD m 256+1 then 0 else if 32<=2*jD m 256+1 then 1 else 2
def Zk(m:Nat):List Int:=if kind m=0 then((zx m 256-1:Nat):Int)::yJ m 256 0 else if kind m=1 then yH m 32 0 else((jD m 256-1:Nat):Int)::kQ m 256 0
def yG(c:Nat×Nat):List Int:=uv c.1++((kind c.2:Nat):Int)::Zk c.2
def wW:List (Nat×Nat)->List Int
 |[]=>[]
 |c::r=>yG c++wW r
def jX(cs:List (Nat×Nat)):List Int:=uv cs.length++wW cs
def Yo(x:Nat):List (Nat×Nat)->List (Nat×Nat)
 |[]=>[(x/256,2^(x%256))]
 |c::r=>if c.1=x/256 then(c.1,c.2|||2^(x%256))::r else(x/256,2^(x%256))::c::r
def jR:List Nat->List (Nat×Nat)
 |[]=>[]
 |x::r=>Yo x (jR r)
theorem Yn(m:Nat):∀n,jD m n<=zx m n:=by
 intro n
 induction n with
 |zero=>exact znd _
 |succ n ih=>
  show jD m n+_<=zx m n+_
  cases m.testBit n
  ·simpa using ih
  ·have:=b2n (true&&!(decide (0<n)&&m.testBit (n-1)))
   have e:true.toNat=1:=rfl
   omega
theorem qk9(m:Nat):∀f i,(yJ m f i).length+zx m i=zx m (i+f):=by
 intro f
 induction f with
 |zero=>intro i;simp[yJ]
 |succ f ih=>
  intro i
  have h:=ih (i+1)
  have e:i+1+f=i+(f+1):=qe
  rw[e]at h
  have e2:zx m (i+1)=zx m i+(m.testBit i).toNat:=rfl
  rw[e2]at h
  unfold yJ
  cases hb:m.testBit i
  ·rw[hb]at h;simpa using h
  ·rw[hb]at h
   have e3:true.toNat=1:=rfl
   simp only[if_true,zna]
   omega
@[simp] theorem qk0 (m : Nat) : ∀ f i, (yH m f i).length = f := by
 intro f
 induction f with
 |zero=>intro i;rfl
 |succ f ih=>intro i;simp[yH,ih]
theorem qar(m i j:Nat)(hj:j<8):(m/2^(8*i)%256).testBit j=m.testBit (8*i+j):=by
 have e:(256:Nat)=2^8:=rfl
 rw[e,znn,zob]
 simp[hj,zq2]
theorem wE(m:Nat):∀f i,i<=yx m f i/\yx m f i<=i+f/\(∀j,i<j->j<=yx m f i->m.testBit j=true)/\(yx m f i<i+f->m.testBit (yx m f i+1)=false):=by
 intro f
 induction f with
 |zero=>intro i;exact⟨znd _,znd _,fun j h1 h2=>by have h2:j<=i:=h2;omega,fun h=>by have h:i<i+0:=h;omega⟩
 |succ f ih=>
  intro i
  unfold yx
  by_cases hb:m.testBit (i+1)=true
  ·rw[if_pos hb]
   obtain⟨h1,h2,h3,h4⟩:=ih (i+1)
   refine⟨qe,qe,fun j a b=>?_,fun h=>h4 qe⟩
   by_cases e:j=i+1
   ·subst e;exact hb
   ·exact h3 j qe b
  ·rw[if_neg hb]
   exact⟨znd _,qe,fun j a b=>qe,fun _=>by simpa using hb⟩
def inR(j:Nat):List Int->Prop
 |a::b::r=>(a<=(j:Int)/\(j:Int)<=a+b)\/inR j r
 |_=>False
theorem ziv(m:Nat):∀f i,256<=i+f->∀j,inR j (kQ m f i)↔(i<=j/\j<256/\m.testBit j=true):=by
 intro f
 induction f with
 |zero=>intro i h j;show False↔_;constructor
        ·intro h;cases h
        ·intro h;omega
 |succ f ih=>
  intro i h j
  unfold kQ
  by_cases h1:256<=i
  ·rw[if_pos h1]
   show False↔_
   constructor
   ·intro h;cases h
   ·intro h;omega
  ·rw[if_neg h1]
   by_cases hb:m.testBit i=true
   ·rw[if_pos hb]
    obtain⟨r1,r2,r3,r4⟩:=wE m (255-i) i
    have hi:=ih (yx m (255-i) i+1) qe j
    generalize yx m (255-i) i=e at*
    show(((i:Int)<=(j:Int)/\(j:Int)<=(i:Int)+((e-i:Nat):Int))\/inR j _)↔_
    rw[hi]
    constructor
    ·rintro(q|q)
     ·refine⟨qe,qe,?_⟩
      by_cases ej:j=i
      ·subst ej;exact hb
      ·exact r3 j qe qe
     ·exact⟨qe,q.2.1,q.2.2⟩
    ·intro q
     by_cases q1:j<=e
     ·exact .inl ⟨qe,qe⟩
     ·exact .inr ⟨qe,q.2.1,q.2.2⟩
   ·rw[if_neg hb,ih (i+1) qe j]
    constructor
    ·intro q;exact⟨qe,q.2.1,q.2.2⟩
    ·intro q
     by_cases ej:j=i
     ·subst ej;exact absurd q.2.2 hb
     ·exact⟨qe,q.2.1,q.2.2⟩
theorem zew(m:Nat):∀f i,256<=i+f->i<=256->(i=0\/i=256\/m.testBit (i-1)=false\/m.testBit i=false)->(kQ m f i).length+2*jD m i=2*jD m 256:=by
 intro f
 induction f with
 |zero=>intro i h hi _;have:i=256:=qe
        subst this;simp[kQ]
 |succ f ih=>
  intro i h hi hs
  unfold kQ
  by_cases h1:256<=i
  ·rw[if_pos h1]
   have:i=256:=qe
   subst this;simp
  ·rw[if_neg h1]
   have e1:jD m (i+1)=jD m i+(m.testBit i&&!(decide (0<i)&&m.testBit (i-1))).toNat:=rfl
   by_cases hb:m.testBit i=true
   ·rw[if_pos hb]
    obtain⟨r1,r2,r3,r4⟩:=wE m (255-i) i
    have e2:jD m (i+1)=jD m i+1:=by
     rw[e1,hb]
     have:(decide (0<i)&&m.testBit (i-1))=false:=by
      rcases hs with q|q|q|q
      ·simp[q]
      ·omega
      ·simp[q]
      ·rw[hb]at q;cases q
     rw[this];rfl
    have e3:∀d,i+1+d<=yx m (255-i) i+1->jD m (i+1+d)=jD m (i+1):=by
     intro d
     induction d with
     |zero=>intro _;rfl
     |succ d ihd=>
      intro hd
      have:=ihd qe
      have e4:jD m (i+1+(d+1))=jD m (i+1+d)+(m.testBit (i+1+d)&&!(decide (0<i+1+d)&&m.testBit (i+1+d-1))).toNat:=rfl
      have e5:m.testBit (i+1+d-1)=true:=by
       by_cases q:d=0
       ·subst q;exact hb
       ·exact r3 _ qe qe
      have e8:(decide (0<i+1+d))=true:=qi
      rw[e4,this,e5,e8]
      simp
    have e6:=e3 (yx m (255-i) i-i) qe
    have e7:i+1+(yx m (255-i) i-i)=yx m (255-i) i+1:=qe
    rw[e7,e2]at e6
    have hi2:=ih (yx m (255-i) i+1) qe qe (by
     by_cases q:yx m (255-i) i<i+(255-i)
     ·exact .inr (.inr (.inr (r4 q)))
     ·exact .inr (.inl qe))
    simp only[zna]
    omega
   ·rw[if_neg hb]
    have hb':m.testBit i=false:=by simpa using hb
    have e2:jD m (i+1)=jD m i:=by rw[e1,hb'];rfl
    have:=ih (i+1) qe qe (.inr (.inr (.inl (by simpa using hb'))))
    omega
theorem vz(m:Nat):(kQ m 256 0).length=2*jD m 256:=by
 have h:=zew m 256 0 qe qe (.inl rfl)
 have e:jD m 0=0:=rfl
 omega
theorem KE(m:Nat):(yJ m 256 0).length=zx m 256:=by
 have h:=qk9 m 256 0
 have e:zx m 0=0:=rfl
 have e2:0+256=256:=rfl
 rw[e2]at h
 omega
theorem Xb:∀(n m:Nat),0<zx m n->∃j,j<n/\m.testBit j=true:=by
 intro n
 induction n with
 |zero=>intro m h;cases h
 |succ n ih=>
  intro m h
  cases hb:m.testBit n
  ·have e:zx m (n+1)=zx m n+(m.testBit n).toNat:=rfl
   rw[e,hb]at h
   obtain⟨j,h1,h2⟩:=ih m h
   exact⟨j,qe,h2⟩
  ·exact⟨n,qe,hb⟩
theorem qqf:∀(n m j:Nat),j<n->m.testBit j=true->0<zx m n:=by
 intro n
 induction n with
 |zero=>intro m j h;omega
 |succ n ih=>
  intro m j h hb
  have e:zx m (n+1)=zx m n+(m.testBit n).toNat:=rfl
  rw[e]
  by_cases hj:j=n
  ·subst hj;rw[hb];exact Nat.succ_pos _
  ·have:=ih m j qe hb;omega
theorem Vz{m:Nat}(h:0<zx m 256):0<jD m 256:=by
 obtain⟨j,h1,h2⟩:=Xb 256 m h
 by_cases hr:jD m 256=0
 ·have h3:=vz m
  rw[hr]at h3
  have h4:kQ m 256 0=[]:=znp.mp h3
  have h5:=(ziv m 256 0 qe j).mpr ⟨qe,h1,h2⟩
  rw[h4]at h5
  cases h5
 ·omega
def Xc(c:Nat×Nat):Prop:=c.1<16777216/\c.2<2^256/\0<zx c.2 256
theorem js(i j:Nat):(2^i).testBit j=decide (i=j):=zom
theorem zlx{m x:Nat}(hm:m<2^256):m|||2^(x%256)<2^256:=zrx hm (zqu qh qe)
theorem ze8(x:Nat):2^(x%256)<2^256:=zqu qh qe
theorem xl(x:Nat)(c:Nat×Nat)(r:List (Nat×Nat)):Yo x (c::r)=if c.1=x/256 then(c.1,c.2|||2^(x%256))::r else(x/256,2^(x%256))::c::r:=rfl
theorem ze7{x:Nat}(hx:x<4294967296):∀{cs:List (Nat×Nat)},(∀c∈cs,Xc c)->∀c∈Yo x cs,Xc c:=by
 intro cs h c hc
 have new:Xc (x/256,2^(x%256)):=⟨by show x/256<_;omega,ze8 x,qqf 256 _ (x%256) qe (by rw[js];simp)⟩
 cases cs with
 |nil=>
  have e:c=(x/256,2^(x%256)):=by simpa[Yo]using hc
  rw[e];exact new
 |cons d r=>
  have hd:=h d qg
  rw[xl]at hc
  split at hc
  ·rcases zne.mp hc with e|e
   ·rw[e]
    refine⟨hd.1,zlx hd.2.1,qqf 256 _ (x%256) qe ?_⟩
    show(d.2|||2^(x%256)).testBit _=_
    rw[zoa,js];simp
   ·exact h c (by simp[e])
  ·rcases zne.mp hc with e|e
   ·rw[e];exact new
   ·exact h c e
theorem Qc:∀{l:List Nat},(∀x∈l,x<4294967296)->∀c∈jR l,Xc c:=by
 intro l
 induction l with
 |nil=>intro _ c hc;cases hc
 |cons x r ih=>intro h;exact ze7 (h x qg) (ih fun y hy=>h y (by simp[hy]))
theorem qhm:∀(l:List Nat),qN l->((∀c∈jR l,∀x∈l.head?,x/256<=c.1)/\∀y,y∈l↔∃c∈jR l,c.1=y/256/\c.2.testBit (y%256)=true):=by
 intro l
 induction l with
 |nil=>intro _;exact⟨fun c hc=>(by cases hc),fun y=>by simp[jR]⟩
 |cons x r ih=>
  intro hr
  have hr2:qN r:=by cases r with
   |nil=>trivial
   |cons z s=>exact hr.2
  obtain⟨i1,i2⟩:=ih hr2
  have hge:∀c∈jR r,x/256<=c.1:=by
   intro c hc
   cases r with
   |nil=>cases hc
   |cons z s=>
    have h1:=i1 c hc z qg
    have h2:=hr.1
    have:x/256<=z/256:=zpp (zqe h2)
    omega
  have e:jR (x::r)=Yo x (jR r):=rfl
  rw[e]
  constructor
  ·intro c hc z hz
   have hz:x=z:=by simpa using hz
   subst hz
   cases hq:jR r with
   |nil=>
    rw[hq]at hc
    have:c=(x/256,2^(x%256)):=by simpa[Yo]using hc
    rw[this];exact znd _
   |cons d s=>
    rw[hq]at hc hge
    rw[xl]at hc
    split at hc
    ·rcases zne.mp hc with e|e
     ·rw[e];exact hge d qg
     ·exact hge c (by simp[e])
    ·rcases zne.mp hc with e|e
     ·rw[e];exact znd _
     ·exact hge c e
  ·intro y
   rw[zne,i2]
   cases hq:jR r with
   |nil=>
    simp only[Yo,zp1,exists_eq_left,zrb,false_and,exists_false,or_false,js,decide_eq_true_eq]
    constructor
    ·intro h;subst h;exact⟨rfl,rfl⟩
    ·intro h;omega
   |cons d s=>
    rw[xl]
    split
    ·rename_i hd
     constructor
     ·rintro(h|⟨c,hc,h1,h2⟩)
      ·subst h
       exact⟨_,zqj,hd,by show(d.2|||_).testBit _=true;rw[zoa,js];simp⟩
      ·rcases zne.mp hc with e|e
       ·subst e
        exact⟨_,zqj,h1,by show(c.2|||_).testBit _=true;rw[zoa,h2];rfl⟩
       ·exact⟨c,by simp[e],h1,h2⟩
     ·rintro⟨c,hc,h1,h2⟩
      rcases zne.mp hc with e|e
      ·subst e
       rw[zoa,js]at h2
       by_cases hy:x%256=y%256
       ·left
        have h1:d.1=y/256:=h1
        omega
       ·right
        exact⟨d,qg,h1,by simpa[hy]using h2⟩
      ·exact .inr ⟨c,by simp[e],h1,h2⟩
    ·rename_i hd
     constructor
     ·rintro(h|⟨c,hc,h1,h2⟩)
      ·subst h
       exact⟨_,zqj,rfl,by show(2^_).testBit _=true;rw[js];simp⟩
      ·exact⟨c,zpn _ hc,h1,h2⟩
     ·rintro⟨c,hc,h1,h2⟩
      rcases zne.mp hc with e|e
      ·subst e
       rw[js]at h2
       have h1:x/256=y/256:=h1
       have h2:x%256=y%256:=by simpa using h2
       left;omega
      ·exact .inr ⟨c,e,h1,h2⟩
theorem Qm:∀(l:List Nat) (x:Nat),qN (x::l)->∀y∈l,x<y:=by
 intro l
 induction l with
 |nil=>intro x _ y h;cases h
 |cons z s ih=>
  intro x h y hy
  rcases zne.mp hy with e|e
  ·rw[e];exact h.1
  ·have:=ih z h.2 y e;have:=h.1;omega
theorem kA{x:Nat}{l:List Nat}(h:qN (x::l)):qN l:=by
 cases l with
 |nil=>trivial
 |cons z s=>exact h.2
theorem qnm:∀(l m:List Nat),qN l->qN m->(∀y,y∈l↔y∈m)->l=m:=by
 intro l
 induction l with
 |nil=>
  intro m _ _ h
  cases m with
  |nil=>rfl
  |cons y s=>exact absurd ((h y).mpr qg) qg
 |cons x r ih=>
  intro m h1 h2 h
  cases m with
  |nil=>exact absurd ((h x).mp qg) qg
  |cons y s=>
   have l1:=Qm r x h1
   have l2:=Qm s y h2
   have e:x=y:=by
    rcases zne.mp ((h x).mp qg)with e|e
    ·exact e
    ·rcases zne.mp ((h y).mpr qg)with e'|e'
     ·exact e'.symm
     ·have:=l1 y e';have:=l2 x e;omega
   subst e
   rw[ih s (kA h1) (kA h2) fun y=>?_]
   have hy:=h y
   constructor
   ·intro q
    rcases zne.mp (hy.mp (by simp[q]))with e|e
    ·have:=l1 y q;omega
    ·exact e
   ·intro q
    rcases zne.mp (hy.mpr (by simp[q]))with e|e
    ·have:=l2 y q;omega
    ·exact e
def zO:List Nat->Prop
 |[]=>True
 |[_]=>True
 |x::y::r=>x<=y/\zO (y::r)
def Vq(n last:Nat):Nat->Nat->Nat
 |0,k=>k
 |f+1,k=>if 0<n/\n<=last/2^(k+1)then Vq n last f (k+1)else k
def WS(n last:Nat):Nat:=Vq n last 33 0
def qO(k:Nat):List Nat->List Bool
 |[]=>[]
 |x::r=>ko x k++qO k r
def qG(k w:Nat):List Nat->List Bool
 |[]=>[]
 |x::r=>una (x/2^k-w)++qG k (x/2^k) r
def qI(l:List Nat):Nat:=l.getD (l.length-1) 0
def qA(l:List Nat):Nat:=WS l.length (qI l)
def zE(l:List Nat):List Int:=uv l.length++uv (qI l)++pk (qO (qA l) l)++uv (pk (qG (qA l) 0 l)).length++pk (qG (qA l) 0 l)
@[simp] theorem Qp (k : Nat) (l : List Nat) : (qO k l).length = l.length * k := by
 induction l with
 |nil=>simp[qO]
 |cons x r ih=>simp[qO,ih,zpy];omega
theorem zf3(n last:Nat)(hn:0<n)(hl:last<4294967296):∀(f k:Nat),k+f=33->Vq n last f k<=33/\last/2^(Vq n last f k+1)<n:=by
 intro f
 induction f with
 |zero=>
  intro k h
  have e:k=33:=qe
  subst e
  refine⟨znd _,?_⟩
  show last/2^34<n
  have:last/2^34=0:=zqh (znu hl qh)
  omega
 |succ f ih=>
  intro k h
  unfold Vq
  split
  ·exact ih (k+1) qe
  ·rename_i h1
   refine⟨qe,?_⟩
   by_cases h2:n<=last/2^(k+1)
   ·exact absurd ⟨hn,h2⟩ h1
   ·omega
theorem zf4(n last:Nat)(hl:last<4294967296):∀(f k:Nat),k<=32->Vq n last f k<=32:=by
 intro f
 induction f with
 |zero=>intro k h;exact h
 |succ f ih=>
  intro k h
  unfold Vq
  split
  ·rename_i h1
   apply ih
   by_cases h2:k=32
   ·subst h2
    have:last/2^33=0:=zqh (znu hl qh)
    have h3:=h1.2
    have e:(32:Nat)+1=33:=rfl
    rw[e,this]at h3
    omega
   ·omega
  ·exact h
theorem qqv(n last:Nat)(hl:last<4294967296):WS n last<=32:=zf4 n last hl 33 0 qe
theorem ZU{n last:Nat}(hn:0<n)(hl:last<4294967296):last/2^WS n last<2*n:=by
 have h:=(zf3 n last hn hl 33 0 rfl).2
 have e:last/2^(WS n last+1)=last/2^WS n last/2:=by rw[zo4,zpg]
 have h':last/2^(WS n last+1)<n:=h
 omega
theorem Yu(x y:Nat)(r:List Nat):qI (x::y::r)=qI (y::r):=rfl
theorem qud(k:Nat):∀(l:List Nat) (p:Nat),zO (p::l)->(qG k (p/2^k) l).length+p/2^k=l.length+qI (p::l)/2^k:=by
 intro l
 induction l with
 |nil=>intro p _;simp[qG,qI]
 |cons x r ih=>
  intro p h
  have hi:=ih x h.2
  have hd:p/2^k<=x/2^k:=zpp h.1
  rw[Yu]
  simp only[qG,zm9,YL,zna]
  omega
theorem jI:∀{l:List Nat},zO l->zO (0::l):=by
 intro l h
 cases l with
 |nil=>trivial
 |cons x r=>exact⟨zn1 _,h⟩
theorem WU(k:Nat)(l:List Nat)(h:zO l):(qG k 0 l).length=l.length+qI l/2^k:=by
 have h1:=qud k l 0 (jI h)
 rw[zq3,zoy]at h1
 rw[h1]
 cases l with
 |nil=>rfl
 |cons x r=>rw[Yu]
def fEq(a b:Nat):Bool:=decide (¬yR a/\¬yR b/\jo a=jo b)
theorem jA(a:Nat):fEq a a=decide (¬yR a):=by unfold fEq;congr 1;apply propext;constructor<;>intro h<;>simp_all
section
variable (P:Program)(t:TypeId)(x y:Operand)(a b:Nat)
theorem yU(op:BinOp):eqGuard op t x y (.float .f64 a) (.float .f64 b)=pure ():=by
 cases op<;>rfl
@[simp] theorem zla : qy P .lss t x y (.float .f64 a) (.float .f64 b) = some (.bool (Vg a b)) := by
 unfold qy
 rw[yU]
 show one (some (Value.bool (Ieee.double.order a b==some .lt)))=_
 rw[f_lt];rfl
@[simp] theorem zlc : qy P .gtr t x y (.float .f64 a) (.float .f64 b) = some (.bool (Vg b a)) := by
 unfold qy
 rw[yU]
 show one (some (Value.bool (Ieee.double.order a b==some .gt)))=_
 rw[f_gt]
 unfold Vg
 show some (Value.bool _)=_
 congr 2
 apply decide_eq_decide.mpr
 constructor<;>(rintro⟨h1,h2,h3⟩;exact⟨h2,h1,h3⟩)
@[simp] theorem zld : qy P .eql t x y (.float .f64 a) (.float .f64 b) = some (.bool (fEq a b)) := by
 unfold qy
 rw[yU]
 show one (some (Value.bool (Ieee.double.order a b==some .eq)))=_
 rw[zjx];rfl
@[simp] theorem zk9 : qy P .neq t x y (.float .f64 a) (.float .f64 b) = some (.bool (!fEq a b)) := by
 unfold qy
 rw[yU]
 show one (some (Value.bool (!(Ieee.double.order a b==some .eq))))=_
 rw[zjx];rfl
@[simp] theorem zlb : qy P .leq t x y (.float .f64 a) (.float .f64 b) = some (.bool (Vg a b || fEq a b)) := by
 unfold qy
 rw[yU]
 show one (some (Value.bool (Ieee.double.order a b==some .lt||Ieee.double.order a b==some .eq)))=_
 rw[zjx,f_lt];rfl
end
section
variable (P:Program)(t:TypeId)(x y:Operand)
theorem ZA(n:Nat)(h:n<18446744073709551616):IntKind.u64.wrap (n:Int)=n:=qu qe qe
theorem qk5(n:Nat)(h:n<9223372036854775808):qy P .or t x y (.int .u64 (n:Int)) (.int .u64 9223372036854775808)=some (.int .u64 ((n+9223372036854775808:Nat):Int)):=by
 rw[zS]
 show some (Value.int .u64 (IntKind.u64.wrap ((BitVec.ofInt 64 (n:Int)|||BitVec.ofInt 64 9223372036854775808).toNat:Nat)))=_
 rw[qu3 n h,ZA _ qe]
theorem Vk(n:Nat)(h:n<9223372036854775808):qy P .and t x y (.int .u64 (n:Int)) (.int .u64 9223372036854775808)=some (.int .u64 0):=by
 rw[zk]
 show some (Value.int .u64 (IntKind.u64.wrap ((BitVec.ofInt 64 (n:Int)&&&BitVec.ofInt 64 9223372036854775808).toNat:Nat)))=_
 rw[qbw n h]
 rfl
theorem Vl(n:Nat)(h:9223372036854775808<=n)(h':n<18446744073709551616):qy P .and t x y (.int .u64 (n:Int)) (.int .u64 9223372036854775808)=some (.int .u64 9223372036854775808):=by
 rw[zk]
 show some (Value.int .u64 (IntKind.u64.wrap ((BitVec.ofInt 64 (n:Int)&&&BitVec.ofInt 64 9223372036854775808).toNat:Nat)))=_
 rw[qbx n h h']
 rfl
theorem qo8(n:Nat)(h:n<18446744073709551616):qy P .andNot t x y (.int .u64 (n:Int)) (.int .u64 9223372036854775808)=some (.int .u64 ((n%9223372036854775808:Nat):Int)):=by
 rw[jC P t x y .u64 (n:Int) 9223372036854775808 .andNot qh qh]
 show some (Value.int .u64 (IntKind.u64.wrap ((BitVec.ofInt 64 (n:Int)&&&~~~(BitVec.ofInt 64 9223372036854775808)).toNat:Nat)))=_
 rw[qho n h,ZA _ qe]
theorem zkc(n:Nat)(h:n<18446744073709551616):(BitVec.ofInt 64 18446744073709551615^^^BitVec.ofInt 64 (n:Int)).toNat=18446744073709551615-n:=by
 have e:BitVec.ofInt 64 18446744073709551615=BitVec.allOnes 64:=qh
 rw[e,BitVec.allOnes_xor,BitVec.toNat_not,znx]
 have e1:(((n:Int)%((2^64:Nat):Int)).toNat)=n:=qe
 rw[e1]
theorem qb5(n:Nat)(h:n<18446744073709551616):unV P .xor (.int .u64 (n:Int))=some (.int .u64 ((18446744073709551615-n:Nat):Int)):=by
 show some (Value.int .u64 (IntKind.u64.wrap ((BitVec.ofInt 64 18446744073709551615^^^BitVec.ofInt 64 (n:Int)).toNat:Nat)))=_
 rw[zkc n h,ZA _ qe]
def nw(w:Nat):Nat:=if w<9223372036854775808 then w+9223372036854775808 else w-9223372036854775808
theorem zdx(w:Nat)(h:w<18446744073709551616):w^^^2^63=nw w:=by
 unfold nw
 by_cases h1:w<9223372036854775808
 ·rw[if_pos h1]
  have e:w+9223372036854775808=2^63*1+w:=qe
  rw[e,zpu qe]
  apply zol
  intro i
  rw[Nat.testBit_xor,zoa,zo2,zom]
  by_cases hi:63=i
  ·subst hi
   rw[zqm qe]
   rfl
  ·simp[hi]
 ·rw[if_neg h1]
  obtain⟨m,rfl⟩:∃m,w=2^63*1+m:=⟨w-2^63,qe⟩
  have e:2^63*1+m-9223372036854775808=m:=qe
  rw[e,zpu qe]
  apply zol
  intro i
  rw[Nat.testBit_xor,zoa,zo2,zom]
  by_cases hi:63=i
  ·subst hi
   rw[zqm (show m<2^63 by omega)]
   rfl
  ·simp[hi]
theorem qx2(w:Nat)(h:w<18446744073709551616):unV P .neg (.float .f64 w)=some (.float .f64 (nw w)):=by
 rw[<-zdx w h];rfl
end
theorem WN(n:Int):FloatKind.f64.nearest n<18446744073709551616:=by
 have e1:Ieee.double.signWeight=9223372036854775808:=qh
 have e3:Ieee.double.infRung=9218868437227405312:=qh
 have hw:∀(s:Bool) (r:Nat),r<=9218868437227405312->Ieee.double.word s r<18446744073709551616:=by
  intro s r hr
  unfold Ieee.Format.word
  rw[e1]
  split<;>omega
 have key:∀(s:Bool) (m:Nat) (p:Int),Ieee.double.nearest s m p<18446744073709551616:=by
  intro s m p
  unfold Ieee.Format.nearest
  split
  ·exact hw _ _ qe
  ·rw[e3]
   exact hw _ _ (Nat.min_le_right _ _)
 exact key (decide (n<0)) n.natAbs 0
def mk:List Nat->List Nat->List Nat
 |[],b=>b
 |a,[]=>a
 |x::a,y::b=>if y<x then y::mk (x::a) b else x::mk a (y::b)
termination_by a b=>a.length+b.length
@[simp] theorem ZQ(b:List Nat):mk [] b=b:=by unfold mk;rfl
@[simp] theorem Qo(a:List Nat):mk a []=a:=by cases a<;>(unfold mk;rfl)
theorem xE(x:Nat)(a:List Nat)(y:Nat)(b:List Nat):mk (x::a) (y::b)=if y<x then y::mk (x::a) b else x::mk a (y::b):=by
 rw[mk]
theorem qn7{motive:List Nat->List Nat->Prop}(h1:∀b,motive [] b)(h2:∀a,motive a [])(h3:∀x a y b,y<x->motive (x::a) b->motive (x::a) (y::b))
 (h4:∀x a y b,¬y<x->motive a (y::b)->motive (x::a) (y::b)):∀a b,motive a b:=by
 intro a b
 generalize hn:a.length+b.length=n
 induction n using Nat.strongRecOn generalizing a b with
 |_ n ih=>
  cases a with
  |nil=>exact h1 b
  |cons x a=>
   cases b with
   |nil=>exact h2 _
   |cons y b=>
    by_cases hyx:y<x
    ·exact h3 x a y b hyx (ih ((x::a).length+b.length) (by simp at hn⊢;omega) _ _ rfl)
    ·exact h4 x a y b hyx (ih (a.length+(y::b).length) (by simp at hn⊢;omega) _ _ rfl)
theorem VD:∀a b,(mk a b).Perm (a++b):=by
 apply qn7 (motive:=fun a b=>(mk a b).Perm (a++b))
 ·intro b;simp
 ·intro a;simp
 ·intro x a y b h ih
  rw[xE,if_pos h]
  exact(List.Perm.cons y ih).trans List.perm_middle.symm
 ·intro x a y b h ih
  rw[xE,if_neg h]
  exact List.Perm.cons x ih
abbrev Up(l:List Nat):Prop:=l.Pairwise (·<=·)
theorem zap:∀a b,Up a->Up b->Up (mk a b):=by
 apply qn7 (motive:=fun a b=>Up a->Up b->Up (mk a b))
 ·intro b _ h;simpa using h
 ·intro a h _;simpa using h
 ·intro x a y b h ih ha hb
  rw[xE,if_pos h]
  have hb':=znh.mp hb
  have ha':=znh.mp ha
  refine znh.mpr ⟨fun n hn=>?_,ih ha hb'.2⟩
  rcases zoj.mp ((VD _ _).mem_iff.mp hn)with h'|h'
  ·rcases zne.mp h' with rfl|h'
   ·omega
   ·have:=ha'.1 n h';omega
  ·exact hb'.1 n h'
 ·intro x a y b h ih ha hb
  rw[xE,if_neg h]
  have hb':=znh.mp hb
  have ha':=znh.mp ha
  refine znh.mpr ⟨fun n hn=>?_,ih ha'.2 hb⟩
  rcases zoj.mp ((VD _ _).mem_iff.mp hn)with h'|h'
  ·exact ha'.1 n h'
  ·rcases zne.mp h' with rfl|h'
   ·omega
   ·have:=hb'.1 n h';omega
theorem qmp:∀{a b:List Nat},Up a->Up b->a.Perm b->a=b
 |[],b,_,_,h=>(List.Perm.nil_eq h)
 |x::a,[],_,_,h=>absurd h.length_eq qg
 |x::a,y::b,ha,hb,h=>by
  have ha':=znh.mp ha
  have hb':=znh.mp hb
  have hxy:x=y:=by
   have h1:=zne.mp (h.mem_iff.mp (by simp:x∈x::a))
   have h2:=zne.mp (h.mem_iff.mpr (by simp:y∈y::b))
   rcases h1 with h1|h1
   ·exact h1
   ·rcases h2 with h2|h2
    ·exact h2.symm
    ·have:=ha'.1 y h2
     have:=hb'.1 x h1
     omega
  subst hxy
  rw[qmp ha'.2 hb'.2 (List.Perm.cons_inv h)]
theorem zd6:∀(A B:List Nat) (k m n:Nat),k<=m->k<=n->(mk (A.take m) (B.take n)).take k=(mk A B).take k:=by
 apply qn7 (motive:=fun A B=>∀(k m n:Nat),k<=m->k<=n->(mk (A.take m) (B.take n)).take k=(mk A B).take k)
 ·intro b k m n hm hn
  rw[zra,ZQ,ZQ,zrp,zp5 hn]
 ·intro a k m n hm hn
  rw[zra,Qo,Qo,zrp,zp5 hm]
 ·intro x a y b h ih k m n hm hn
  match k,m,n,hm,hn with
  |0,_,_,_,_=>simp
  |k+1,m+1,n+1,hm,hn=>
   have:=ih k (m+1) n qe qe
   rw[znq]at this
   rw[znq,znq,xE,xE,if_pos h,if_pos h,znq,znq,this]
 ·intro x a y b h ih k m n hm hn
  match k,m,n,hm,hn with
  |0,_,_,_,_=>simp
  |k+1,m+1,n+1,hm,hn=>
   have:=ih k m (n+1) qe qe
   rw[znq]at this
   rw[znq,znq,xE,xE,if_neg h,if_neg h,znq,znq,this]
def sk:List Nat->List Nat
 |[]=>[]
 |x::l=>mk [x] (sk l)
theorem qb6:∀l,Up (sk l)
 |[]=>List.Pairwise.nil
 |x::l=>zap _ _ qg (qb6 l)
theorem QN:∀l,(sk l).Perm l
 |[]=>List.Perm.refl _
 |x::l=>(VD [x] (sk l)).trans (List.Perm.cons x (QN l))
theorem qr8(a b:List Nat):sk (a++b)=mk (sk a) (sk b):=
 qmp (qb6 _) (zap _ _ (qb6 a) (qb6 b)) ((QN _).trans (((QN a).symm.append (QN b).symm).trans (VD _ _).symm))
theorem qmw{a b:List Nat}(h:a.Perm b):sk a=sk b:=qmp (qb6 _) (qb6 _) ((QN a).trans (h.trans (QN b).symm))
theorem zii(l:List Nat):(sk l).length=l.length:=(QN l).length_eq
def gm:List Nat->List Nat->List Nat
 |[],b=>b
 |a,[]=>a
 |x::a,y::b=>if kw y<kw x then y::gm (x::a) b else x::gm a (y::b)
termination_by a b=>a.length+b.length
@[simp] theorem zmc(b:List Nat):gm [] b=b:=by unfold gm;rfl
@[simp] theorem zmb(a:List Nat):gm a []=a:=by cases a<;>(unfold gm;rfl)
theorem qhh(x:Nat)(a:List Nat)(y:Nat)(b:List Nat):gm (x::a) (y::b)=if kw y<kw x then y::gm (x::a) b else x::gm a (y::b):=by
 rw[gm]
theorem qq8:∀(n:Nat) (a b:List Nat),a.length+b.length=n->(gm a b).map kw=mk (a.map kw) (b.map kw):=by
 intro n
 induction n using Nat.strongRecOn with
 |_ n ih=>
  intro a b hn
  match a,b with
  |[],b=>simp
  |x::a,[]=>simp
  |x::a,y::b=>
   rw[qhh,zog,zog,xE]
   by_cases h:kw y<kw x
   ·rw[if_pos h,if_pos h,zog,ih ((x::a).length+b.length) (by simp at hn⊢;omega) (x::a) b rfl,zog]
   ·rw[if_neg h,if_neg h,zog,ih (a.length+(y::b).length) (by simp at hn⊢;omega) a (y::b) rfl,zog]
theorem zar(w:Nat):∀(n:Nat) (a b:List Nat),a.length+b.length=n->w∈gm a b->w∈a\/w∈b:=by
 intro n
 induction n using Nat.strongRecOn with
 |_ n ih=>
  intro a b hn hw
  match a,b with
  |[],b=>right;simpa using hw
  |x::a,[]=>left;simpa using hw
  |x::a,y::b=>
   rw[qhh]at hw
   by_cases h:kw y<kw x
   ·rw[if_pos h]at hw
    rcases zne.mp hw with rfl|hw
    ·right;simp
    ·rcases ih ((x::a).length+b.length) (by simp at hn⊢;omega) (x::a) b rfl hw with h'|h'
     ·exact .inl h'
     ·exact .inr (zpn _ h')
   ·rw[if_neg h]at hw
    rcases zne.mp hw with rfl|hw
    ·left;simp
    ·rcases ih (a.length+(y::b).length) (by simp at hn⊢;omega) a (y::b) rfl hw with h'|h'
     ·exact .inl (zpn _ h')
     ·exact .inr h'
def Ys:List Nat->Nat
 |[]=>18442240474082181120
 |f::F=>if yR f then Ys F else min (kw f) (Ys F)
def vL:List Nat->Nat
 |[]=>4503599627370495
 |f::F=>if yR f then vL F else max (kw f) (vL F)
theorem qqu:∀F,Ys F<=18442240474082181120
 |[]=>znd _
 |f::F=>by
  have:=qqu F
  unfold Ys
  split<;>omega
theorem qj9:∀F,4503599627370495<=vL F
 |[]=>znd _
 |f::F=>by
  have:=qj9 F
  unfold vL
  split<;>omega
theorem Ve:∀a b,Ys (a++b)=min (Ys a) (Ys b)
 |[],b=>by have:=qqu b;simp only[zn4,Ys];omega
 |f::a,b=>by
  have:=Ve a b
  simp only[zo1,Ys]
  split<;>omega
theorem Xj:∀a b,vL (a++b)=max (vL a) (vL b)
 |[],b=>by have:=qj9 b;simp only[zn4,vL];omega
 |f::a,b=>by
  have:=Xj a b
  simp only[zo1,vL]
  split<;>omega
theorem qt3{a b:List Nat}(h:a.Perm b):Ys a=Ys b:=by
 induction h with
 |nil=>rfl
 |cons x _ ih=>unfold Ys;rw[ih]
 |swap x y l=>simp only[Ys];repeat' split
              all_goals omega
 |trans _ _ h1 h2=>rw[h1,h2]
theorem qon{a b:List Nat}(h:a.Perm b):vL a=vL b:=by
 induction h with
 |nil=>rfl
 |cons x _ ih=>unfold vL;rw[ih]
 |swap x y l=>simp only[vL];repeat' split
              all_goals omega
 |trans _ _ h1 h2=>rw[h1,h2]
def LQ(K K':IntKind):List (Int×Int)->List AV
 |[]=>[]
 |p::l=>.sc (.int K p.1)::.sc (.int K' p.2)::LQ K K' l
section
variable (K K':IntKind)
theorem qoh:∀l,(LQ K K' l).length=2*l.length
 |[]=>rfl
 |p::l=>by simp only[LQ,zna,qoh l];omega
theorem zhu:∀(i:Nat) (l:List (Int×Int)),(LQ K K' l).drop (i*2)=LQ K K' (l.drop i)
 |0,l=>by simp
 |i+1,[]=>by simp[LQ]
 |i+1,p::l=>by
  have h:(i+1)*2=i*2+1+1:=qe
  rw[h,LQ,zpx,zpx,zhu i l,zpx]
theorem appQ:∀a b,LQ K K' (a++b)=LQ K K' a++LQ K K' b
 |[],b=>rfl
 |p::a,b=>by simp only[zo1,LQ,appQ a b]
theorem zi8(k:Nat)(l:List (Int×Int)):xU (S k 2 (LQ K K' l))=some l.length:=by
 have h:(if(2:Nat)=1 then(LQ K K' l).length else(LQ K K' l).length/2)=l.length:=by rw[if_neg qe,qoh];omega
 rcases jq k 2 (LQ K K' l)with e|e|⟨e,e'⟩
 ·rw[e];simp only[xU,h]
 ·rw[e];simp only[xU,h]
 ·rw[e]
  have:l.length=0:=by have:=qoh K K' l;rw[e']at this;simp at this;omega
  rw[this];rfl
theorem za7(k:Nat){l:List (Int×Int)}{i:Nat}{p:Int×Int}(h:l[i]?=some p):jE 2 (S k 2 (LQ K K' l)) (.int .i64 (i:Int))=some [.sc (.int K p.1),.sc (.int K' p.2)]:=by
 obtain⟨hi,hp⟩:=zni.mp h
 have hl:(if(2:Nat)=1 then(LQ K K' l).length else(LQ K K' l).length/2)=l.length:=by rw[if_neg qe,qoh];omega
 have hx:idx l.length (.int .i64 (i:Int))=some i:=zr .i64 hi
 have hg:qp (LQ K K' l) (i*2) 2=some [.sc (.int K p.1),.sc (.int K' p.2)]:=by
  unfold qp
  rw[if_pos (by rw[qoh];omega),zhu,zn6 hi,hp]
  rfl
 rcases jq k 2 (LQ K K' l)with e|e|⟨e,e'⟩
 ·rw[e];simp only[jE,if_true,hl,hx,znc,hg]
 ·rw[e];simp only[jE,if_true,hl,hx,znc,hg]
 ·exfalso
  have:=qoh K K' l
  rw[e']at this
  simp at this
  omega
theorem zkn(k:Nat)(hk:k=1\/k=2)(l:List (Int×Int))(a b:Int)(h:l.length<=1000000):jp 16 2 (S k 2 (LQ K K' l)) (S 1 2 [.sc (.int K a),.sc (.int K' b)])=some (S k 2 (LQ K K' (l++[(a,b)]))):=by
 rw[YG 16 2 k _ _ 1 hk (show qlk [AV.sc (.int K a),AV.sc (.int K' b)]from rfl) (.inr (yZ qh ?_)),appQ]
 ·rfl
 ·rw[qoh];simp;omega
end
def wo:List (Nat×Nat)->Nat
 |[]=>0
 |c::r=>zx c.2 256+wo r
theorem qp1(a b:List (Nat×Nat)):wo (a++b)=wo a+wo b:=by
 induction a with
 |nil=>simp[wo]
 |cons c a ih=>simp[wo,ih];omega
def Vd(key m:Nat):Nat->Nat->List Nat
 |0,_=>[]
 |f+1,i=>if m.testBit i then(key*256+i)::Vd key m f (i+1)else Vd key m f (i+1)
def lsC:List (Nat×Nat)->List Nat
 |[]=>[]
 |c::r=>Vd c.1 c.2 256 0++lsC r
theorem qqq(key m:Nat):∀f i,(Vd key m f i).length+zx m i=zx m (i+f):=by
 intro f
 induction f with
 |zero=>intro i;simp[Vd]
 |succ f ih=>
  intro i
  have h:=ih (i+1)
  have e:i+1+f=i+(f+1):=qe
  rw[e]at h
  have e2:zx m (i+1)=zx m i+(m.testBit i).toNat:=rfl
  rw[e2]at h
  unfold Vd
  cases hb:m.testBit i
  ·rw[hb]at h;simpa using h
  ·rw[hb]at h
   have e3:true.toNat=1:=rfl
   simp only[if_true,zna]
   omega
theorem qg8(key m:Nat):∀f i y,y∈Vd key m f i↔∃j,i<=j/\j<i+f/\m.testBit j=true/\y=key*256+j:=by
 intro f
 induction f with
 |zero=>intro i y;simp[Vd];omega
 |succ f ih=>
  intro i y
  unfold Vd
  by_cases hb:m.testBit i=true
  ·rw[if_pos hb,zne,ih]
   constructor
   ·rintro(h|⟨j,h1,h2,h3,h4⟩)
    ·exact⟨i,znd _,qe,hb,h⟩
    ·exact⟨j,qe,qe,h3,h4⟩
   ·rintro⟨j,h1,h2,h3,h4⟩
    by_cases e:j=i
    ·subst e;exact .inl h4
    ·exact .inr ⟨j,qe,qe,h3,h4⟩
  ·rw[if_neg hb,ih]
   constructor
   ·rintro⟨j,h1,h2,h3,h4⟩;exact⟨j,qe,qe,h3,h4⟩
   ·rintro⟨j,h1,h2,h3,h4⟩
    by_cases e:j=i
    ·subst e;exact absurd h3 hb
    ·exact⟨j,qe,qe,h3,h4⟩
theorem xk:∀l:List Nat,qN l↔l.Pairwise (·<·):=by
 intro l
 induction l with
 |nil=>simp[qN]
 |cons x r ih=>
  rw[znh,<-ih]
  constructor
  ·intro h;exact⟨Qm r x h,kA h⟩
  ·rintro⟨h1,h2⟩
   cases r with
   |nil=>exact trivial
   |cons y r=>exact⟨h1 y qg,h2⟩
theorem zi7(key m:Nat):∀f i,(Vd key m f i).Pairwise (·<·):=by
 intro f
 induction f with
 |zero=>intro i;exact List.Pairwise.nil
 |succ f ih=>
  intro i
  unfold Vd
  split
  ·refine List.Pairwise.cons (fun y hy=>?_) (ih _)
   obtain⟨j,h1,_,_,h4⟩:=(qg8 key m f (i+1) y).mp hy
   omega
  ·exact ih _
theorem qqr:∀(cs:List (Nat×Nat)) (y:Nat),y∈lsC cs↔∃c∈cs,c.1=y/256/\c.2.testBit (y%256)=true:=by
 intro cs
 induction cs with
 |nil=>intro y;simp[lsC]
 |cons c r ih=>
  intro y
  show y∈Vd c.1 c.2 256 0++lsC r↔_
  rw[zoj,qg8,ih]
  constructor
  ·rintro(⟨j,h1,h2,h3,h4⟩|⟨d,h1,h2⟩)
   ·have e1:y/256=c.1:=qe
    have e2:y%256=j:=qe
    exact⟨c,qg,e1.symm,by rw[e2];exact h3⟩
   ·exact⟨d,by simp[h1],h2⟩
  ·rintro⟨d,h1,h2,h3⟩
   rcases zne.mp h1 with e|h1
   ·subst e;exact .inl ⟨y%256,qe,qe,h3,qe⟩
   ·exact .inr ⟨d,h1,h2,h3⟩
theorem qoe:∀(cs:List (Nat×Nat)),qN (cs.map (·.1))->(lsC cs).Pairwise (·<·):=by
 intro cs
 induction cs with
 |nil=>intro _;exact List.Pairwise.nil
 |cons c r ih=>
  intro h
  show(Vd c.1 c.2 256 0++lsC r).Pairwise (·<·)
  rw[zpc]
  refine⟨zi7 _ _ _ _,ih (kA h),fun x hx y hy=>?_⟩
  obtain⟨j,_,h2,_,h4⟩:=(qg8 _ _ _ _ x).mp hx
  obtain⟨d,d1,d2,_⟩:=(qqr r y).mp hy
  have:c.1<d.1:=Qm _ _ h d.1 (zn9.mpr ⟨d,d1,rfl⟩)
  omega
theorem vV:∀l:List Nat,qN l->qN ((jR l).map (·.1)):=by
 intro l
 induction l with
 |nil=>intro _;exact trivial
 |cons x r ih=>
  intro h
  have i:=ih (kA h)
  have hm:=(qhm (x::r) h).1
  have e:jR (x::r)=Yo x (jR r):=rfl
  rw[e]at hm⊢
  generalize hc:jR r=cs at*
  cases cs with
  |nil=>exact trivial
  |cons c cs=>
   rw[xl]at hm⊢
   by_cases hk:c.1=x/256
   ·rw[if_pos hk]at hm⊢
    exact i
   ·rw[if_neg hk]at hm⊢
    have:=hm c qg x qg
    exact⟨by show x/256<c.1;omega,i⟩
theorem qqs(l:List Nat)(h:qN l):lsC (jR l)=l:=
 qnm _ _ ((xk _).mpr (qoe _ (vV l h))) h (fun y=>by rw[qqr,(qhm l h).2])
theorem qzv(m i:Nat):∀n,zx (m|||2^i) n<=zx m n+(decide (i<n)).toNat:=by
 intro n
 induction n with
 |zero=>exact zn1 _
 |succ n ih=>
  show zx (m|||2^i) n+((m|||2^i).testBit n).toNat<=zx m n+(m.testBit n).toNat+_
  rw[zoa,zom]
  by_cases e:i=n
  ·subst e
   have h1:decide (i<i)=false:=qg
   have h2:decide (i<i+1)=true:=qg
   rw[h1]at ih
   rw[h2]
   have:=b2n (m.testBit i||decide (i=i))
   have e1:true.toNat=1:=rfl
   have e0:false.toNat=0:=rfl
   omega
  ·have h2:decide (i<n+1)=decide (i<n):=by
    by_cases h:i<n
    ·have:i<n+1:=qe
     simp[h,this]
    ·have:¬(i<n+1):=qe
     simp[h,this]
   have h3:decide (i=n)=false:=by simp[e]
   rw[h2,h3,Bool.or_false]
   omega
theorem qzu:∀n,zx 0 n=0:=by
 intro n
 induction n with
 |zero=>rfl
 |succ n ih=>show zx 0 n+_=0;rw[ih,Nat.zero_testBit];rfl
theorem zd3(x:Nat)(cs:List (Nat×Nat)):wo (Yo x cs)<=wo cs+1:=by
 have hp:zx (2^(x%256)) 256<=1:=by
  have:=qzv 0 (x%256) 256
  rw[Nat.zero_or,qzu]at this
  have:=b2n (decide (x%256<256))
  omega
 cases cs with
 |nil=>show zx (2^(x%256)) 256+0<=0+1;omega
 |cons c r=>
  rw[xl]
  split
  ·show zx (c.2|||2^(x%256)) 256+wo r<=zx c.2 256+wo r+1
   have:=qzv c.2 (x%256) 256
   have:=b2n (decide (x%256<256))
   omega
  ·show zx (2^(x%256)) 256+(zx c.2 256+wo r)<=zx c.2 256+wo r+1
   omega
theorem zd4:∀l,wo (jR l)<=l.length:=by
 intro l
 induction l with
 |nil=>exact znd _
 |cons x r ih=>
  have:=zd3 x (jR r)
  show wo (Yo x (jR r))<=r.length+1
  omega
def Zz:List (Nat×Nat)->List (Nat×Nat)->List (Nat×Nat)
 |[],b=>b
 |a,[]=>a
 |c::a,d::b=>if c.1<d.1 then c::Zz a (d::b)else if d.1<c.1 then d::Zz (c::a) b else(c.1,c.2|||d.2)::Zz a b
termination_by a b=>a.length+b.length
@[simp] theorem qtn(b:List (Nat×Nat)):Zz [] b=b:=by unfold Zz;rfl
@[simp] theorem qtm(a:List (Nat×Nat)):Zz a []=a:=by cases a<;>(unfold Zz;rfl)
theorem jS(c:Nat×Nat)(a:List (Nat×Nat))(d:Nat×Nat)(b:List (Nat×Nat)):Zz (c::a) (d::b)=if c.1<d.1 then c::Zz a (d::b)else if d.1<c.1 then d::Zz (c::a) b else(c.1,c.2|||d.2)::Zz a b:=by
 rw[Zz]
theorem VA{motive:List (Nat×Nat)->List (Nat×Nat)->Prop}(h1:∀b,motive [] b)(h2:∀a,motive a [])(h3:∀c a d b,c.1<d.1->motive a (d::b)->motive (c::a) (d::b))
 (h4:∀c a d b,d.1<c.1->motive (c::a) b->motive (c::a) (d::b)) (h5:∀c a d b,c.1=d.1->motive a b->motive (c::a) (d::b)):∀a b,motive a b:=by
 intro a b
 generalize hn:a.length+b.length=n
 induction n using Nat.strongRecOn generalizing a b with
 |_ n ih=>
  cases a with
  |nil=>exact h1 b
  |cons c a=>
   cases b with
   |nil=>exact h2 _
   |cons d b=>
    simp only[zna]at hn
    by_cases l1:c.1<d.1
    ·exact h3 c a d b l1 (ih (a.length+(d::b).length) (by simp only[zna];omega) _ _ rfl)
    ·by_cases l2:d.1<c.1
     ·exact h4 c a d b l2 (ih ((c::a).length+b.length) (by simp only[zna];omega) _ _ rfl)
     ·exact h5 c a d b qe (ih (a.length+b.length) qe _ _ rfl)
def JV(cs:List (Nat×Nat))(k j:Nat):Prop:=∃c∈cs,c.1=k/\c.2.testBit j=true
theorem ja(c:Nat×Nat)(r:List (Nat×Nat))(k j:Nat):JV (c::r) k j↔(c.1=k/\c.2.testBit j=true)\/JV r k j:=by
 unfold JV
 constructor
 ·rintro⟨d,h1,h2⟩
  rcases zne.mp h1 with e|h1
  ·subst e;exact .inl h2
  ·exact .inr ⟨d,h1,h2⟩
 ·rintro(h|⟨d,h1,h2⟩)
  ·exact⟨c,qg,h⟩
  ·exact⟨d,by simp[h1],h2⟩
theorem Xk(k j:Nat):¬JV [] k j:=by rintro⟨c,h,_⟩;cases h
theorem zfh(k j:Nat):∀a b,JV (Zz a b) k j↔JV a k j\/JV b k j:=by
 apply VA (motive:=fun a b=>JV (Zz a b) k j↔JV a k j\/JV b k j)
 ·intro b;simp[Xk]
 ·intro a;simp[Xk]
 ·intro c a d b h ih
  rw[jS,if_pos h,ja,ih,ja c a,or_assoc]
 ·intro c a d b h ih
  rw[jS,if_neg qe,if_pos h,ja,ih,ja d b]
  constructor
  ·rintro(q|q|q)
   ·exact .inr (.inl q)
   ·exact .inl q
   ·exact .inr (.inr q)
  ·rintro(q|q|q)
   ·exact .inr (.inl q)
   ·exact .inl q
   ·exact .inr (.inr q)
 ·intro c a d b h ih
  rw[jS,if_neg qe,if_neg qe,ja,ih,ja c a,ja d b,<-h]
  simp only[zoa,zqk]
  constructor
  ·rintro(⟨q,r|r⟩|q|q)
   ·exact .inl (.inl ⟨q,r⟩)
   ·exact .inr (.inl ⟨q,r⟩)
   ·exact .inl (.inr q)
   ·exact .inr (.inr q)
  ·rintro((⟨q,r⟩|q)|(⟨q,r⟩|q))
   ·exact .inl ⟨q,.inl r⟩
   ·exact .inr (.inl q)
   ·exact .inl ⟨q,.inr r⟩
   ·exact .inr (.inr q)
theorem qgr(m n:Nat):∀k,zx m k<=zx (m|||n) k
 |0=>znd _
 |k+1=>by
  have ih:=qgr m n k
  show zx m k+(m.testBit k).toNat<=zx (m|||n) k+((m|||n).testBit k).toNat
  rw[zoa]
  cases m.testBit k<;>cases n.testBit k<;>simp<;>omega
theorem qgt(P:Nat->Prop):∀a b,(∀c∈a,P c.1)->(∀c∈b,P c.1)->∀c∈Zz a b,P c.1:=by
 apply VA (motive:=fun a b=>(∀c∈a,P c.1)->(∀c∈b,P c.1)->∀c∈Zz a b,P c.1)
 ·intro b _ h;simpa using h
 ·intro a h _;simpa using h
 ·intro c a d b h ih ha hb x hx
  rw[jS,if_pos h]at hx
  rcases zne.mp hx with e|hx
  ·rw[e];exact ha c qg
  ·exact ih (fun y hy=>ha y (by simp[hy])) hb x hx
 ·intro c a d b h ih ha hb x hx
  rw[jS,if_neg qe,if_pos h]at hx
  rcases zne.mp hx with e|hx
  ·rw[e];exact hb d qg
  ·exact ih ha (fun y hy=>hb y (by simp[hy])) x hx
 ·intro c a d b h ih ha hb x hx
  rw[jS,if_neg qe,if_neg qe]at hx
  rcases zne.mp hx with e|hx
  ·rw[e];exact ha c qg
  ·exact ih (fun y hy=>ha y (by simp[hy])) (fun y hy=>hb y (by simp[hy])) x hx
theorem ziz:∀a b,(∀c∈a,Xc c)->(∀c∈b,Xc c)->∀c∈Zz a b,Xc c:=by
 apply VA (motive:=fun a b=>(∀c∈a,Xc c)->(∀c∈b,Xc c)->∀c∈Zz a b,Xc c)
 ·intro b _ h;simpa using h
 ·intro a h _;simpa using h
 ·intro c a d b h ih ha hb x hx
  rw[jS,if_pos h]at hx
  rcases zne.mp hx with e|hx
  ·rw[e];exact ha c qg
  ·exact ih (fun y hy=>ha y (by simp[hy])) hb x hx
 ·intro c a d b h ih ha hb x hx
  rw[jS,if_neg qe,if_pos h]at hx
  rcases zne.mp hx with e|hx
  ·rw[e];exact hb d qg
  ·exact ih ha (fun y hy=>hb y (by simp[hy])) x hx
 ·intro c a d b h ih ha hb x hx
  rw[jS,if_neg qe,if_neg qe]at hx
  rcases zne.mp hx with e|hx
  ·have h1:=ha c qg;have h2:=hb d qg
   have:=qgr c.2 d.2 256
   rw[e]
   exact⟨h1.1,zrx h1.2.1 h2.2.1,by have:=h1.2.2;show 0<zx (c.2|||d.2) 256;omega⟩
  ·exact ih (fun y hy=>ha y (by simp[hy])) (fun y hy=>hb y (by simp[hy])) x hx
abbrev Jj(cs:List (Nat×Nat)):Prop:=(cs.map (·.1)).Pairwise (·<·)
theorem jx{c:Nat×Nat}{r:List (Nat×Nat)}:Jj (c::r)↔(∀d∈r,c.1<d.1)/\Jj r:=by
 unfold Jj
 rw[zog,znh]
 constructor
 ·rintro⟨h,g⟩;exact⟨fun d hd=>h _ (zn9.mpr ⟨d,hd,rfl⟩),g⟩
 ·rintro⟨h,g⟩
  refine⟨fun k hk=>?_,g⟩
  obtain⟨d,hd,rfl⟩:=zn9.mp hk
  exact h d hd
theorem qzy:∀a b,Jj a->Jj b->Jj (Zz a b):=by
 apply VA (motive:=fun a b=>Jj a->Jj b->Jj (Zz a b))
 ·intro b _ h;simpa using h
 ·intro a h _;simpa using h
 ·intro c a d b h ih ha hb
  obtain⟨h1,h2⟩:=jx.mp ha
  rw[jS,if_pos h]
  refine jx.mpr ⟨qgt (fun k=>c.1<k) _ _ h1 (fun x hx=>?_),ih h2 hb⟩
  rcases zne.mp hx with e|hx
  ·rw[e];exact h
  ·have:=(jx.mp hb).1 x hx;omega
 ·intro c a d b h ih ha hb
  obtain⟨h1,h2⟩:=jx.mp hb
  rw[jS,if_neg qe,if_pos h]
  refine jx.mpr ⟨qgt (fun k=>d.1<k) _ _ (fun x hx=>?_) h1,ih ha h2⟩
  rcases zne.mp hx with e|hx
  ·rw[e];exact h
  ·have:=(jx.mp ha).1 x hx;omega
 ·intro c a d b h ih ha hb
  obtain⟨h1,h2⟩:=jx.mp ha
  obtain⟨h3,h4⟩:=jx.mp hb
  rw[jS,if_neg qe,if_neg qe]
  exact jx.mpr ⟨qgt (fun k=>c.1<k) _ _ h1 (fun x hx=>by have:=h3 x hx;omega),ih h2 h4⟩
theorem zca:∀(cs ds:List (Nat×Nat)),(∀c∈cs,Xc c)->(∀d∈ds,Xc d)->Jj cs->Jj ds->(∀k j,JV cs k j↔JV ds k j)->cs=ds
 |[],[],_,_,_,_,_=>rfl
 |[],d::ds,_,hd,_,_,h=>by
  obtain⟨j,_,hj⟩:=Xb 256 d.2 (hd d qg).2.2
  exact absurd ((h d.1 j).mpr ((ja d ds _ _).mpr (.inl ⟨rfl,hj⟩))) (Xk _ _)
 |c::cs,[],hc,_,_,_,h=>by
  obtain⟨j,_,hj⟩:=Xb 256 c.2 (hc c qg).2.2
  exact absurd ((h c.1 j).mp ((ja c cs _ _).mpr (.inl ⟨rfl,hj⟩))) (Xk _ _)
 |c::cs,d::ds,hc,hd,kc,kd,h=>by
  obtain⟨c1,c2⟩:=jx.mp kc
  obtain⟨d1,d2⟩:=jx.mp kd
  obtain⟨j,_,hj⟩:=Xb 256 c.2 (hc c qg).2.2
  obtain⟨i,_,hi⟩:=Xb 256 d.2 (hd d qg).2.2
  have ek:c.1=d.1:=by
   have l1:d.1<=c.1:=by
    obtain⟨x,hx,hk,_⟩:=(h c.1 j).mp ((ja c cs _ _).mpr (.inl ⟨rfl,hj⟩))
    rcases zne.mp hx with e|hx
    ·rw[<-hk,e];exact znd _
    ·have:=d1 x hx;omega
   have l2:c.1<=d.1:=by
    obtain⟨x,hx,hk,_⟩:=(h d.1 i).mpr ((ja d ds _ _).mpr (.inl ⟨rfl,hi⟩))
    rcases zne.mp hx with e|hx
    ·rw[<-hk,e];exact znd _
    ·have:=c1 x hx;omega
   omega
  have nc:∀j,¬JV cs c.1 j:=by rintro j ⟨x,hx,hk,_⟩;have:=c1 x hx;omega
  have nd:∀j,¬JV ds c.1 j:=by rintro j ⟨x,hx,hk,_⟩;have:=d1 x hx;omega
  have em:c.2=d.2:=by
   apply zol
   intro j
   have:=h c.1 j
   rw[ja,ja,<-ek]at this
   simp only[true_and,nc j,nd j,or_false]at this
   exact Bool.eq_iff_iff.mpr this
  have et:=zca cs ds (fun x hx=>hc x (by simp[hx])) (fun x hx=>hd x (by simp[hx])) c2 d2 (fun k j=>by
   have:=h k j
   rw[ja,ja,<-ek,<-em]at this
   by_cases e:c.1=k
   ·subst e
    simp only[nc j,nd j]
   ·simpa only[e,false_and,false_or]using this)
  rw[et,show c=d from Prod.ext ek em]
theorem qhn(l:List Nat)(h:qN l)(k j:Nat)(hj:j<256):JV (jR l) k j↔k*256+j∈l:=by
 rw[(qhm l h).2 (k*256+j)]
 have e1:(k*256+j)/256=k:=qe
 have e2:(k*256+j)%256=j:=qe
 rw[e1,e2];rfl
theorem zj7(a b m:List Nat)(ha:qN a)(hb:qN b)(hm:qN m)(a32:∀x∈a,x<4294967296)(b32:∀x∈b,x<4294967296)(h:∀x,x∈m↔x∈a\/x∈b):Zz (jR a) (jR b)=jR m:=by
 have ka:=(xk _).mp (vV a ha)
 have kb:=(xk _).mp (vV b hb)
 have km:=(xk _).mp (vV m hm)
 have oa:=Qc a32
 have ob:=Qc b32
 have om:∀c∈jR m,Xc c:=Qc fun x hx=>((h x).mp hx).elim (a32 x) (b32 x)
 have oo:=ziz _ _ oa ob
 refine zca _ _ oo om (qzy _ _ ka kb) km fun k j=>?_
 by_cases hj:j<256
 ·rw[zfh,qhn a ha k j hj,qhn b hb k j hj,qhn m hm k j hj,h]
 ·have big:∀cs:List (Nat×Nat),(∀c∈cs,Xc c)->¬JV cs k j:=by
   rintro cs hc ⟨c,h1,_,h3⟩
   have:=zqm (znu (hc c h1).2.1 (zoc qh (show 256<=j by omega)))
   rw[this]at h3;cases h3
  simp only[big _ oo,big _ om]
theorem kM:∀(b a:List Int),qP (a++b)=qP a*256^b.length+qP b:=by
 intro b
 induction b with
 |nil=>intro a;simp[qP]
 |cons c b ih=>
  intro a
  have e1:a++c::b=(a++[c])++b:=qg
  have e2:c::b=[c]++b:=rfl
  have e3:qP [c]=c.toNat:=by simp[qP]
  rw[e1,ih,yk,e2,ih [c],e3,zm9,zpz,zpy,zo8]
  have e4:256^[c].length=256:=rfl
  rw[e4]
  omega
theorem VK:∀(l:List Int),(∀x∈l,0<=x/\x<256)->qP l<256^l.length:=by
 intro l
 induction l with
 |nil=>intro _;decide
 |cons c b ih=>
  intro h
  have hc:=h c qg
  have i:=ih fun x hx=>h x (by simp[hx])
  have e2:c::b=[c]++b:=rfl
  have e3:qP [c]=c.toNat:=by simp[qP]
  have hm:c.toNat*256^b.length<=255*256^b.length:=znw _ qe
  rw[e2,kM,e3,zm9,zpz]
  have e4:256^[c].length=256:=rfl
  rw[e4]
  omega
theorem Je(C:List Int)(j:Nat)(h:j<C.length):qP (C.take (j+1))=qP (C.take j)*256+(C.getD j 0).toNat:=by
 have e:C.take (j+1)=C.take j++[C.getD j 0]:=by
  rw[zpi,znb,zng h];rfl
 rw[e,yk]
theorem qky(C:List Int)(h:∀x∈C,0<=x/\x<256)(j D a b:Nat)(hj:C.length=j+D)(h1:a*256^D<=qP C)(h2:qP C<b*256^D):a<=qP (C.take j)/\qP (C.take j)<b:=by
 have e:qP C=qP (C.take j)*256^D+qP (C.drop j):=by
  have:=kM (C.drop j) (C.take j)
  rw[zrf,zo7]at this
  rw[this]
  congr 3
  omega
 have hl:qP (C.drop j)<256^D:=by
  have:=VK (C.drop j) fun x hx=>h x (zqs hx)
  rw[zo7]at this
  have e2:C.length-j=D:=qe
  rwa [e2]at this
 generalize qP (C.take j)=q at*
 generalize 256^D=P at*
 have hp:0<P:=qe
 constructor
 ·have:a*P<(q+1)*P:=by rw[zpy];omega
  have:=zqz this
  omega
 ·have:q*P<b*P:=qe
  exact zqz this
section
variable (C:List Int)(hC:∀x∈C,0<=x/\x<256)
include hC
theorem zgn(s:En)(cs:List Nat)(l:List Nat)(hm:okM cs)(hl:∀x∈l,x<64)(ho:ZN s s.width)(hw:16777216<=s.width/\s.width<=4294967296)(h1:qP C=eV (enc cs s l))(h2:C.length=eK (enc cs s l)+4):
 eK s+4<=C.length/\eV s<=qP (C.take (eK s+4))/\qP (C.take (eK s+4))<eV s+s.width:=by
 obtain⟨d,a1,a2,a3,_,a5⟩:=qox l cs s hm hl ho hw
 have w:=qky C hC (eK s+4) d (eV s) (eV s+s.width) qe (by rw[h1];exact a2) (by rw[h1];omega)
 exact⟨qe,w.1,w.2⟩
theorem zgo(s:En)(cs:List Nat)(x:Nat)(l:List Nat)(hm:okM cs)(hx:x<64)(hl:∀x∈l,x<64)(ho:ZN s s.width)(hw:16777216<=s.width/\s.width<=4294967296)(h1:qP C=eV (enc (YJ cs x) (zG 4 (xL s cs x)) l))(h2:C.length=eK (enc (YJ cs x) (zG 4 (xL s cs x)) l)+4):
 eV s+s.width/cs.sum*(cs.take x).sum<=qP (C.take (eK s+4))/\qP (C.take (eK s+4))<eV s+s.width/cs.sum*(cs.take x).sum+s.width/cs.sum*cs.getD x 0:=by
 obtain⟨d,b1,b2,b3,b4,b5,b6,b7⟩:=Zm s cs x hm hx ho hw
 obtain⟨d1,a1,a2,a3,_,a5⟩:=qox l (YJ cs x) (zG 4 (xL s cs x)) (QO hm hx) hl b4 ⟨b5,b6⟩
 rw[b1]at a2
 rw[b1,b2,<-Nat.add_mul]at a3
 refine qky C hC (eK s+4) (d+d1) _ _ qe ?_ ?_
 ·rw[h1,zpz,<-Nat.mul_assoc];exact a2
 ·rw[h1,zpz,<-Nat.mul_assoc];omega
end
def zL:List Nat->Nat
 |[]=>0
 |x::r=>zL r|||2^x
theorem Za(j:Nat):∀L:List Nat,(zL L).testBit j=true↔j∈L
 |[]=>by simp[zL]
 |x::r=>by
  have ih:=Za j r
  simp only[zL,zoa,zom,zqk,decide_eq_true_eq,ih,zne]
  constructor
  ·rintro(h|h)
   ·exact .inr h
   ·exact .inl h.symm
  ·rintro(h|h)
   ·exact .inr h.symm
   ·exact .inl h
theorem qhr(m:Nat):∀(f i:Nat) (L:List Nat),(∀j,i<=j->j<i+f->(m.testBit j=true↔j∈L))->(∀x∈L,i<=x/\x<i+f)->L.Pairwise (·<·)->yJ m f i=nz L
 |0,i,L,_,h,_=>by
  cases L with
  |nil=>rfl
  |cons x r=>have:=h x qg;omega
 |f+1,i,L,hb,hr,hp=>by
  unfold yJ
  by_cases hi:m.testBit i=true
  ·rw[if_pos hi]
   have hm:=(hb i (znd _) qe).mp hi
   cases L with
   |nil=>cases hm
   |cons x r=>
    obtain⟨h1,h2⟩:=znh.mp hp
    have hx:x=i:=by
     rcases zne.mp hm with e|e
     ·exact e.symm
     ·have:=h1 i e;have:=hr x qg;omega
    subst hx
    have ih:=qhr m f (x+1) r (fun j hj hj2=>by
     rw[hb j qe qe,zne]
     exact⟨fun q=>q.resolve_left qe,.inr⟩) (fun y hy=>by have:=h1 y hy;have:=hr y (by simp[hy]);omega) h2
    rw[ih];rfl
  ·rw[if_neg hi]
   have hn:i∉L:=fun q=>hi ((hb i (znd _) qe).mpr q)
   exact qhr m f (i+1) L (fun j hj hj2=>hb j qe qe) (fun y hy=>by
    have:=hr y hy
    have:y≠i:=fun e=>hn (e▸hy)
    omega) hp
def qat(a:List Int):List Int:=a.set (a.length-1) (a.getD (a.length-1) 0+1)
def kV:List Int->Nat->List Nat->List Int
 |a,_,[]=>a
 |a,e,x::r=>if x=e then kV (qat a) (x+1) r else kV (a++[(x:Int),0]) (x+1) r
theorem zg0(a:List Int)(s n:Int):qat (a++[s,n])=a++[s,n+1]:=by
 have e1:(a++[s,n]).length-1=a.length+1:=qg
 unfold qat
 rw[e1,zqp _ _ qe,znb,zny qe]
 have e2:a.length+1-a.length=1:=qe
 rw[e2];rfl
theorem zex(m:Nat)(A:List Int)(s:Int):∀(g k:Nat) (c:Int) (L:List Nat),(∀j,k+1<=j->j<256->(m.testBit j=true↔j∈L))->(∀x∈L,k+1<=x/\x<256)->L.Pairwise (·<·)->k+g=255->
 ∃L2,kV (A++[s,c]) (k+1) L=kV (A++[s,c+((yx m g k-k:Nat):Int)]) (yx m g k+1) L2/\(∀j,yx m g k+1<=j->j<256->(m.testBit j=true↔j∈L2))/\(∀x∈L2,yx m g k+1<x/\x<256)/\L2.Pairwise (·<·):=by
 intro g
 induction g with
 |zero=>
  intro k c L hb hr hp hk
  have e:L=[]:=by
   cases L with
   |nil=>rfl
   |cons x r=>have:=hr x qg;omega
  subst e
  refine⟨[],?_,by simpa[yx]using hb,qg,List.Pairwise.nil⟩
  simp[kV,yx]
 |succ g ih=>
  intro k c L hb hr hp hk
  unfold yx
  by_cases hi:m.testBit (k+1)=true
  ·rw[if_pos hi]
   have hm:=(hb (k+1) (znd _) qe).mp hi
   cases L with
   |nil=>cases hm
   |cons x r=>
    obtain⟨h1,h2⟩:=znh.mp hp
    have hx:x=k+1:=by
     rcases zne.mp hm with e|e
     ·exact e.symm
     ·have:=h1 _ e;have:=hr x qg;omega
    subst hx
    obtain⟨L2,a1,a2,a3,a4⟩:=ih (k+1) (c+1) r (fun j hj hj2=>by
     rw[hb j qe qe,zne]
     exact⟨fun q=>q.resolve_left qe,.inr⟩) (fun y hy=>by have:=h1 y hy;have:=hr y (by simp[hy]);omega) h2 qe
    have hge:=(wE m g (k+1)).1
    refine⟨L2,?_,a2,a3,a4⟩
    rw[kV,if_pos rfl,zg0,a1]
    congr 3
    have:c+1+((yx m g (k+1)-(k+1):Nat):Int)=c+((yx m g (k+1)-k:Nat):Int):=qe
    rw[this]
  ·rw[if_neg hi]
   refine⟨L,?_,hb,fun x hx=>?_,hp⟩
   ·simp
   ·have:=hr x hx
    have:x≠k+1:=fun e=>hi ((hb _ (znd _) qe).mpr (e▸hx))
    omega
theorem zey(m:Nat):∀(f i e:Nat) (A:List Int) (L:List Nat),(∀j,i<=j->j<256->(m.testBit j=true↔j∈L))->(∀x∈L,i<=x/\x<256)->L.Pairwise (·<·)->e∉L->256<=i+f->
 kV A e L=A++kQ m f i:=by
 intro f
 induction f with
 |zero=>
  intro i e A L hb hr hp he hf
  cases L with
  |nil=>simp[kV,kQ]
  |cons x r=>have:=hr x qg;omega
 |succ f ih=>
  intro i e A L hb hr hp he hf
  unfold kQ
  by_cases h256:256<=i
  ·rw[if_pos h256]
   cases L with
   |nil=>simp[kV]
   |cons x r=>have:=hr x qg;omega
  ·rw[if_neg h256]
   by_cases hi:m.testBit i=true
   ·rw[if_pos hi]
    have hm:=(hb i (znd _) qe).mp hi
    cases L with
    |nil=>cases hm
    |cons x r=>
     obtain⟨h1,h2⟩:=znh.mp hp
     have hx:x=i:=by
      rcases zne.mp hm with q|q
      ·exact q.symm
      ·have:=h1 _ q;have:=hr x qg;omega
     subst hx
     obtain⟨L2,a1,a2,a3,a4⟩:=zex m A x (255-x) x 0 r (fun j hj hj2=>by
      rw[hb j qe qe,zne]
      exact⟨fun q=>q.resolve_left qe,.inr⟩) (fun y hy=>by have:=h1 y hy;have:=hr y (by simp[hy]);omega) h2 qe
     have hge:=(wE m (255-x) x).1
     have hne:¬(x=e):=fun q=>he (by simp[q])
     rw[kV,if_neg hne,a1,ih (yx m (255-x) x+1) _ _ L2 a2 (fun y hy=>by have:=a3 y hy;omega) a4 (fun q=>by have:=a3 _ q;omega) qe]
     simp
   ·rw[if_neg hi]
    have hn:i∉L:=fun q=>hi ((hb i (znd _) qe).mpr q)
    exact ih (i+1) e A L (fun j hj hj2=>hb j qe qe) (fun y hy=>by
     have:=hr y hy
     have:y≠i:=fun q=>hn (q▸hy)
     omega) hp he qe
theorem JO(m:Nat):∀f i,(yH m f i).length=f
 |0,_=>rfl
 |f+1,i=>by simp[yH,JO m f (i+1)]
theorem VL(m:Nat):∀f i q,q<f->(yH m f i)[q]?=some ((m/2^(8*(i+q))%256:Nat):Int)
 |0,_,_,h=>by omega
 |f+1,i,0,_=>rfl
 |f+1,i,q+1,h=>by
  have ih:=VL m f (i+1) q qe
  have e:i+1+q=i+(q+1):=qe
  rw[e]at ih
  exact ih
theorem qkz:∀f i,yH 0 f i=List.replicate f 0
 |0,_=>rfl
 |f+1,i=>by
  rw[zpj,<-qkz f (i+1)]
  simp[yH]
theorem zly:(∀y:BitVec 8,y.getLsbD 0=false->(y|||1#8).toNat=y.toNat+1)/\(∀y:BitVec 8,y.getLsbD 1=false->(y|||2#8).toNat=y.toNat+2)/\(∀y:BitVec 8,y.getLsbD 2=false->(y|||4#8).toNat=y.toNat+4)/\
 (∀y:BitVec 8,y.getLsbD 3=false->(y|||8#8).toNat=y.toNat+8)/\(∀y:BitVec 8,y.getLsbD 4=false->(y|||16#8).toNat=y.toNat+16)/\(∀y:BitVec 8,y.getLsbD 5=false->(y|||32#8).toNat=y.toNat+32)/\
 (∀y:BitVec 8,y.getLsbD 6=false->(y|||64#8).toNat=y.toNat+64)/\(∀y:BitVec 8,y.getLsbD 7=false->(y|||128#8).toNat=y.toNat+128):=by
 refine⟨?_,?_,?_,?_,?_,?_,?_,?_⟩<;>decide
theorem zfg(y k:Nat)(hy:y<256)(hk:k<8)(hb:y.testBit k=false):y|||2^k=y+2^k:=by
 have key:∀c:Nat,c<256->(BitVec.ofNat 8 y|||BitVec.ofNat 8 c).toNat=y|||c:=by
  intro c hc
  rw[zpt,zo5,zo5,zoq (show y<2^8 from hy),zoq (show c<2^8 from hc)]
 have hb':(BitVec.ofNat 8 y).getLsbD k=false:=by rw[BitVec.getLsbD_ofNat,hb];simp
 have ht:(BitVec.ofNat 8 y).toNat=y:=by rw[zo5];exact zoq hy
 obtain⟨b0,b1,b2,b3,b4,b5,b6,b7⟩:=zly
 have hc:k=0\/k=1\/k=2\/k=3\/k=4\/k=5\/k=6\/k=7:=qe
 rcases hc with e|e|e|e|e|e|e|e<;>subst e
 ·have:=b0 _ hb';rw[ht]at this;rw[<-key 1 qh];exact this
 ·have:=b1 _ hb';rw[ht]at this;rw[<-key 2 qh];exact this
 ·have:=b2 _ hb';rw[ht]at this;rw[<-key 4 qh];exact this
 ·have:=b3 _ hb';rw[ht]at this;rw[<-key 8 qh];exact this
 ·have:=b4 _ hb';rw[ht]at this;rw[<-key 16 qh];exact this
 ·have:=b5 _ hb';rw[ht]at this;rw[<-key 32 qh];exact this
 ·have:=b6 _ hb';rw[ht]at this;rw[<-key 64 qh];exact this
 ·have:=b7 _ hb';rw[ht]at this;rw[<-key 128 qh];exact this
theorem qrp(m x q:Nat)(hb:m.testBit x=false):(m|||2^x)/2^(8*q)%256=if x/8=q then m/2^(8*q)%256+2^(x%8)else m/2^(8*q)%256:=by
 by_cases h:x/8=q
 ·rw[if_pos h]
  have hbb:(m/2^(8*q)%256).testBit (x%8)=false:=by
   rw[qar m q (x%8) qe,show 8*q+x%8=x by omega];exact hb
  rw[<-zfg _ (x%8) (zqa _ qh) qe hbb]
  have e256:(256:Nat)=2^8:=qh
  apply zol
  intro j
  by_cases hj:j<8
  ·rw[qar _ q j hj,zoa,zoa,qar m q j hj,zom,zom]
   congr 1
   apply decide_eq_decide.mpr;omega
  ·have h1:((m|||2^x)/2^(8*q)%256).testBit j=false:=by rw[e256,znn];simp[hj]
   have h2:(m/2^(8*q)%256).testBit j=false:=by rw[e256,znn];simp[hj]
   have h3:(2^(x%8)).testBit j=false:=by rw[zom];simp;omega
   rw[zoa,h1,h2,h3];rfl
 ·rw[if_neg h]
  apply zol
  intro j
  have e256:(256:Nat)=2^8:=qh
  rw[e256,znn,znn,zob,zob,zoa,zom]
  by_cases hj:j<8
  ·have:¬(x=j+8*q):=qe
   simp[hj,this]
  ·simp[hj]
theorem zcd(m x:Nat)(hx:x<256)(hb:m.testBit x=false):yH (m|||2^x) 32 0=(yH m 32 0).set (x/8) ((m/2^(8*(x/8))%256+2^(x%8):Nat):Int):=by
 apply zph
 intro q
 rw[zqn,JO]
 by_cases hq:q<32
 ·rw[VL _ 32 0 q hq,VL _ 32 0 q hq,znk,qrp m x q hb]
  by_cases h:x/8=q
  ·subst h
   simp;omega
  ·simp[h]
 ·have e1:(yH (m|||2^x) 32 0)[q]?=none:=zn7 (by rw[JO];omega)
  have e2:(yH m 32 0)[q]?=none:=zn7 (by rw[JO];omega)
  rw[e1,e2]
  have:¬(x/8=q):=qe
  simp[this]
theorem qan:∀(l:List Nat) (key:Nat),qN l->(∀x∈l.head?,x/256=key)->l≠[]->
 ∃a b,l=a++b/\a≠[]/\(∀x∈a,x/256=key)/\(∀x∈b.head?,x/256≠key)/\jR l=(key,zL (a.map (·%256)))::jR b/\(a.map (·%256)).Pairwise (·<·)
 |[],_,_,_,h=>absurd rfl h
 |x::r,key,hr,hk,_=>by
  have hx:x/256=key:=hk x qg
  cases r with
  |nil=>
   refine⟨[x],[],rfl,qg,by simpa using hx,qg,?_,qg⟩
   simp[jR,Yo,zL,hx]
  |cons y s=>
   have hxy:x<y:=hr.1
   by_cases hy:y/256=key
   ·obtain⟨a,b,e,ha,h1,h2,h3,h4⟩:=qan (y::s) key hr.2 (by simpa using hy) qg
    refine⟨x::a,b,by rw[e];rfl,qg,?_,h2,?_,?_⟩
    ·intro z hz
     rcases zne.mp hz with q|q
     ·rw[q];exact hx
     ·exact h1 z q
    ·show Yo x (jR (y::s))=_
     rw[h3,xl,if_pos hx.symm]
     rfl
    ·rw[zog,znh]
     refine⟨fun z hz=>?_,h4⟩
     obtain⟨w,hw,rfl⟩:=zn9.mp hz
     have hw2:=Qm (y::s) x hr w (by rw[e];exact List.mem_append_left _ hw)
     have:=h1 w hw
     omega
   ·refine⟨[x],y::s,rfl,qg,by simpa using hx,by simpa using hy,?_,qg⟩
    show Yo x (jR (y::s))=_
    obtain⟨a,b,e,ha,h1,h2,h3,h4⟩:=qan (y::s) (y/256) hr.2 qg qg
    rw[h3,xl,if_neg (by rw[hx];exact hy)]
    simp[zL,hx]
end Go.Proofs.YtmajcennjgjlnaaGreat.AI
