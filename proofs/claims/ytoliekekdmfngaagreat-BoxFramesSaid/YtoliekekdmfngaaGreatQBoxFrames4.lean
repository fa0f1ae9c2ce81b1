/- Texts that the proof of BoxFrames rests on, part 4. -/
import Derived.Test.YtoliekekdmfngaaGreatQBoxFrames3
import Derived.Below
import Derived.ProofKit
import Derived.RowKit
import Derived.OpenShut
import Derived.ChangeOld
import Derived.SizedLaws
import Derived.Carry
import GoSem.Core.Float
import GoSem.Core.View
namespace Go.Proofs.YtoliekekdmfngaaGreat.AI
open Go Go.RowKit
set_option linter.unusedVariables false
set_option linter.unusedSimpArgs false
def Xw(W:World):Gh where
 Om b:=if b<W.heap.size then .oth else .fr
 I b:=match W.heap[b]? with
  |some (.cells arr _ _)=>arr.size
  |_=>0
 mu _ _:=none
 la _ _:=none
theorem hpI0(W:World):HpI (Xw W) W hp0 where
 heap b g cs h:=by cases h
 next b g _:=rfl
 hlt b g cs h:=by cases h
 new b hb:=⟨by simp[Xw];omega,by simp[Xw,zlz hb]⟩
 vars b hb:=by
  exfalso
  rcases hb with⟨k,g,h⟩|⟨k,g,h⟩<;>simp only[Xw]at h<;>split at h<;>cases h
theorem qv5{W W':World}{G':Gh}(h:Fr (Xw W) W G' W'):Below W.heap.size W W':=
 ⟨h.rest.1,h.rest.2.1,h.rest.2.2,h.size,fun k hk=>(h.same k hk (.inr (by simp[Xw,hk]))).1⟩
theorem arg_sc(W:World)(v:Value)(h:v.oneCell'=true):XD (Xw W) W (.sc v) v:=fun _=>RelR.sc v h
theorem za6{W:World}{b i:Nat}{c:Value}(h:W.cell? ⟨b,i,none⟩=some c):i<(Xw W).I b:=by
 simp only[World.cell?]at h
 simp only[Xw]
 split at h
 ·rename_i arr t fz e
  rw[e]
  exact(zj7.mp (by simpa using h)).1
 ·cases h
theorem qlx{W:World}{a:Addr}{n cap sz:Nat}{cs:List AV}{vs:List Value}(hsz:0<sz)(hcs:cs.length=n*sz)(hlen:vs.length=cs.length)(hcap:n<=cap)
 (hcell:∀(i:Nat) (v:Value),vs[i]?=some v->W.cell? (a.add i)=some v) (hvl:∀x∈cs,vl x=true) (hrel:∀(i:Nat) (x:AV) (v:Value),cs[i]?=some x->vs[i]?=some v->RelR (Xw W) W x v):
 XD (Xw W) W (.sl sz cs) (.slice (some a) n cap):=by
 intro p
 have key:RelR (Xw W) W (.sl sz cs) (.slice (some a) n cap):=by
  by_cases hn:n=0
  ·subst hn
   have:cs=[]:=zi9.mp (by simpa using hcs)
   subst this
   exact .sl0 sz a cap hsz
  ·obtain⟨b,o,sp⟩:=a
   have hpos:0<vs.length:=by rw[hlen,hcs];exact zly (zmg hn) hsz
   have hsp:sp=none:=by
    have h0:=hcell 0 vs[0] (zic hpos)
    have e:(⟨b,o,sp⟩:Addr).add 0=⟨b,o,sp⟩:=rfl
    rw[e]at h0
    simp only[World.cell?]at h0
    split at h0
    ·cases sp with
     |none=>rfl
     |some q=>simp at h0
    ·cases h0
   subst hsp
   have hc':∀k c,vs[k]?=some c->W.cell? ⟨b,o+k,none⟩=some c:=fun k c hk=>by rw[<-qS];exact hcell k c hk
   refine .sl sz cs n cap b o vs hsz (zmg hn) hcs hcap ?_ hlen hc' hvl hrel
   have hl:vs.length-1<vs.length:=qc
   have:=za6 (hc' (vs.length-1) _ (zic hl))
   omega
 exact(key.c (p 0)).v
theorem qvh{c:Cx}(hc:Ok c/\Wb c){f:FuncId}{xs:List AV}{vs:List Value}{v:Value}{hp':Hp}{W:World}(h:run c f xs hp0=some (.sc v,hp'))(hl:xs.length=vs.length)
 (ha:∀(i:Nat) (x:AV) (u:Value),xs[i]?=some x->vs[i]?=some u->XD (Xw W) W x u):Calls c.P f vs.toArray W fun e W'=>e= .returned v/\Below W.heap.size W W':=by
 refine(qon hc.1 hc.2 h (hpI0 W) hl ha).mono fun e W' hg=>?_
 obtain⟨u,G',rfl,hf,_,hr⟩:=hg
 have hr':RelR G' W' (.sc v) u:=hr
 cases hr' with
 |sc _ _=>exact⟨rfl,qv5 hf⟩
end Go.Proofs.YtoliekekdmfngaaGreat.AI
namespace Go.Proofs.YtoliekekdmfngaaGreat.AI
open Go
set_option linter.unusedVariables false
set_option linter.unusedSimpArgs false
set_option maxRecDepth 100000
set_option maxHeartbeats 0
section
variable (P:Program)(t:TypeId)(x y:Operand)(k k':IntKind)(a b:Int)
theorem Qu(op:BinOp):eqGuard op t x y (.int k a) (.int k' b)=pure ():=by
 cases op<;>rfl
theorem zR(op:BinOp)(h:op≠ .shl)(h':op≠ .shr):qs P op t x y (.int k a) (.int k b)=one (zO P (match op with
 | .add| .sub| .mul=>Op.intArith op k a b
 | .quo| .rem=>Op.intDiv op k a b
 | .and| .or| .xor| .andNot=>Op.intBits op k a b
 |_=>Op.intCmp op a b)):=by
 unfold qs
 rw[Qu]
 cases op<;>simp[Go.binOp]<;>first|rfl|exact absurd rfl h|exact absurd rfl h'
@[simp] theorem Qv:qs P .add t x y (.int k a) (.int k b)=some (.int k (k.wrap (a+b))):=by rw[zR P t x y k a b .add qf qf];rfl
@[simp] theorem kX:qs P .sub t x y (.int k a) (.int k b)=some (.int k (k.wrap (a-b))):=by rw[zR P t x y k a b .sub qf qf];rfl
@[simp] theorem VO:qs P .mul t x y (.int k a) (.int k b)=some (.int k (k.wrap (a*b))):=by rw[zR P t x y k a b .mul qf qf];rfl
@[simp] theorem VQ:qs P .eql t x y (.int k a) (.int k b)=some (.bool (decide (a=b))):=by rw[zR P t x y k a b .eql qf qf];show some (Value.bool (a==b))=_;congr 2
@[simp] theorem zhn:qs P .neq t x y (.int k a) (.int k b)=some (.bool (!decide (a=b))):=by rw[zR P t x y k a b .neq qf qf];show some (Value.bool (a !=b))=_;rfl
@[simp] theorem qil:qs P .lss t x y (.int k a) (.int k b)=some (.bool (decide (a<b))):=by rw[zR P t x y k a b .lss qf qf];rfl
@[simp] theorem zho:qs P .leq t x y (.int k a) (.int k b)=some (.bool (decide (a<=b))):=by rw[zR P t x y k a b .leq qf qf];rfl
@[simp] theorem vQ:qs P .gtr t x y (.int k a) (.int k b)=some (.bool (decide (a>b))):=by rw[zR P t x y k a b .gtr qf qf];rfl
@[simp] theorem JH:qs P .geq t x y (.int k a) (.int k b)=some (.bool (decide (a>=b))):=by rw[zR P t x y k a b .geq qf qf];rfl
theorem xx(h:b≠0):qs P .quo t x y (.int k a) (.int k b)=some (.int k (k.wrap (a.tdiv b))):=by
 rw[zR P t x y k a b .quo qf qf];simp only[Op.intDiv,h,if_false];rfl
theorem qP(h:b≠0):qs P .rem t x y (.int k a) (.int k b)=some (.int k (a.tmod b)):=by
 rw[zR P t x y k a b .rem qf qf];simp only[Op.intDiv,h,if_false];rfl
@[simp] theorem ja:qs P .and t x y (.int k a) (.int k b)=some (.int k (k.wrap (BitVec.ofInt k.bits a&&&BitVec.ofInt k.bits b).toNat)):=by rw[zR P t x y k a b .and qf qf];rfl
@[simp] theorem yE:qs P .or t x y (.int k a) (.int k b)=some (.int k (k.wrap (BitVec.ofInt k.bits a|||BitVec.ofInt k.bits b).toNat)):=by rw[zR P t x y k a b .or qf qf];rfl
@[simp] theorem yD:qs P .xor t x y (.int k a) (.int k b)=some (.int k (k.wrap (BitVec.ofInt k.bits a^^^BitVec.ofInt k.bits b).toNat)):=by rw[zR P t x y k a b .xor qf qf];rfl
@[simp] theorem zhv(c:Bool):unV P .not (.bool c)=some (.bool !c):=rfl
@[simp] theorem jZ(c:Bool):asB (.bool c)=some c:=rfl
@[simp] theorem zh7:ZK (.int k a)=some a:=rfl
@[simp] theorem wL(v:Value):vy (.sc v)=some v:=rfl
end
@[simp] theorem zby{α:Type}(P:Program)(a:α):zO P (pure a:Sem α)=some a:=rfl
theorem yr(P:Program)(t:TypeId)(x y:Operand)(op:BinOp)(a b:ByteArray):eqGuard op t x y (.string a) (.string b)=pure ():=by
 cases op<;>rfl
theorem zca(a b:ByteArray):(a.toList==b.toList)=decide (a.data.toList=b.data.toList):=by
 rw[ByteArray.toList_eq,ByteArray.toList_eq]
 by_cases h:a.data.toList=b.data.toList
 ·rw[h];simp
 ·rw[decide_eq_false h];exact beq_eq_false_iff_ne.mpr h
@[simp] theorem qq1 (P : Program) (t : TypeId) (x y : Operand) (a b : ByteArray) : qs P .eql t x y (.string a) (.string b) = some (.bool (decide (a.data.toList = b.data.toList))) := by
 unfold qs
 rw[yr P]
 show some (Value.bool (a.toList==b.toList))=_
 rw[zca]
@[simp] theorem qq0 (P : Program) (t : TypeId) (x y : Operand) (a b : ByteArray) : qs P .neq t x y (.string a) (.string b) = some (.bool (!decide (a.data.toList = b.data.toList))) := by
 unfold qs
 rw[yr P]
 show some (Value.bool (!(a.toList==b.toList)))=_
 rw[zca]
def Rd(sz:Nat)(x:AV)(cs:List AV):Prop:=x= .sl sz cs\/x= .us sz cs\/(x= .sc nil0/\cs=[])
section
variable {sz:Nat}{x:AV}{cs:List AV}
theorem Rd.ro(h:Rd sz x cs):Rd sz (AI.ro x) cs:=by
 rcases h with rfl|rfl|⟨rfl,rfl⟩
 ·exact .inl rfl
 ·exact .inl rfl
 ·exact .inr (.inr ⟨rfl,rfl⟩)
theorem Rd.ro1(h:Rd sz x cs):Rd sz (AI.ro1 x) cs:=by
 rcases h with rfl|rfl|⟨rfl,rfl⟩
 ·exact .inl rfl
 ·exact .inl rfl
 ·exact .inr (.inr ⟨rfl,rfl⟩)
theorem Rd.len(h:Rd 1 x cs):zd x=some cs.length:=by
 rcases h with rfl|rfl|⟨rfl,rfl⟩<;>rfl
theorem Rd.idx(h:Rd 1 x cs){k:IntKind}{z:Int}{i:Nat}{y:AV}(hz:z=(i:Int))(hy:cs[i]?=some y):zL 1 x (.int k z)=some [y]:=by
 subst hz
 have hlt:=(zih.mp hy).1
 have key:((AI.idx (if 1=1 then cs.length else cs.length/1) (.int k (i:Int))).bind fun i=>qo cs (i*1) 1)=some [y]:=by
  have hc:(0:Int)<=(i:Int)/\(i:Int)<(cs.length:Int):=⟨zjy i,qc⟩
  simp only[if_true,AI.idx,ZK,zib,hc,and_self,zik,zi7]
  unfold qo
  rw[if_pos qc]
  congr 1
  obtain⟨h1,h2⟩:=zih.mp hy
  rw[zi2 h1,h2]
  rfl
 rcases h with rfl|rfl|⟨rfl,rfl⟩
 ·simp only[zL,if_true];simpa using key
 ·simp only[zL,if_true];simpa using key
 ·simp at hy
end
def Wd(sz:Nat)(x:AV)(cs:List AV):Prop:=x= .us sz cs\/(x= .sc nil0/\cs=[])
theorem Wd.rd{sz:Nat}{x:AV}{cs:List AV}(h:Wd sz x cs):Rd sz x cs:=by
 rcases h with rfl|⟨rfl,rfl⟩
 ·exact .inr (.inl rfl)
 ·exact .inr (.inr ⟨rfl,rfl⟩)
def ql5(ys:List AV):Prop:=ys.map ro1=ys
theorem Wd.app{bytes sz:Nat}{d s:AV}{cs ys:List AV}(hd:Wd sz d cs)(hs:Rd sz s ys)(hf:ql5 ys)(hfit:ys≠[]->js bytes sz (cs.length+ys.length)=true):
 ∃z,zh bytes sz d s=some z/\Wd sz z (cs++ys):=by
 have hsrc:yG sz s=some ys:=by
  rcases hs with rfl|rfl|⟨rfl,rfl⟩
  ·simp[yG]
  ·simp[yG]
  ·rfl
 unfold zh WS
 rw[hsrc]
 simp only[zib]
 cases ys with
 |nil=>
  rw[zi4]
  rcases hd with rfl|⟨rfl,rfl⟩
  ·exact⟨.us sz cs,qe,.inl rfl⟩
  ·exact⟨.sc nil0,rfl,.inr ⟨rfl,rfl⟩⟩
 |cons y ys=>
  have hfit:=hfit qe
  rcases hd with rfl|⟨rfl,rfl⟩
  ·refine⟨.us sz (cs++(y::ys)),?_,.inl rfl⟩
   have hf':(y::ys).map ro1=y::ys:=hf
   have hfit2:js bytes sz (cs.length+(ys.length+1))=true:=by simpa using hfit
   have hm:ro1 y::List.map ro1 ys=y::ys:=hf'
   simp[hfit2,hm]
  ·refine⟨.us sz (y::ys),?_,.inl rfl⟩
   have hf':(y::ys).map ro1=y::ys:=hf
   have hfit':js bytes sz (y::ys).length=true:=by simpa using hfit
   have hn:kE nil0=true:=rfl
   simp only[hn,Bool.true_and,hfit',if_true,hf',zi5]
theorem qj{z:Int}(h1:-9223372036854775808<=z)(h2:z<9223372036854775808):IntKind.i64.wrap z=z:=by
 rw[IntKind.wrap_i64];omega
theorem qh{p:Prop}(h:p:=by rw[qj]<;>omega):p:=h
@[simp] theorem zgb:IntKind.i64.wrap 0=0:=rfl
@[simp] theorem zga:IntKind.i64.wrap 1=1:=rfl
@[simp] theorem zf9:IntKind.i64.wrap 2=2:=rfl
@[simp] theorem zf8:IntKind.i64.wrap 3=3:=rfl
@[simp] theorem zf7:IntKind.i64.wrap 4=4:=rfl
@[simp] theorem zf6:IntKind.i64.wrap 5=5:=rfl
@[simp] theorem zf5:IntKind.i64.wrap 6=6:=rfl
@[simp] theorem zf4:IntKind.i64.wrap 7=7:=rfl
@[simp] theorem zf3:IntKind.i64.wrap 8=8:=rfl
@[simp] theorem zf2:IntKind.i64.wrap 9=9:=rfl
@[simp] theorem zfq:IntKind.i64.wrap 10=10:=rfl
@[simp] theorem zfp:IntKind.i64.wrap 11=11:=rfl
@[simp] theorem zfo:IntKind.i64.wrap 12=12:=rfl
@[simp] theorem zfn:IntKind.i64.wrap 13=13:=rfl
@[simp] theorem zfm:IntKind.i64.wrap 14=14:=rfl
@[simp] theorem zfl:IntKind.i64.wrap 15=15:=rfl
@[simp] theorem zfk:IntKind.i64.wrap 16=16:=rfl
def S(k sz:Nat)(cs:List AV):AV:=
 match k with
 |0=>.sl sz cs
 |1=>.us sz cs
 |2=>match cs with
  |[]=>.sc nil0
  |_=>.us sz cs
 |_=>match cs with
  |[]=>.sc nil0
  |_=>.sl sz cs
def rk:Nat->Nat
 |0=>0
 |1=>0
 |_=>3
def tg(k:Nat)(cs:List AV):Nat:=
 match cs with
 |[]=>rk k
 |_=>0
@[simp] theorem rk_rk (k : Nat) : rk (rk k) = rk k := by
 match k with
 |0=>rfl
 |1=>rfl
 |n+2=>rfl
@[simp] theorem rk0:rk 0=0:=rfl
@[simp] theorem rk1:rk 1=0:=rfl
@[simp] theorem rk2:rk 2=3:=rfl
@[simp] theorem rk3:rk 3=3:=rfl
section
variable (k sz:Nat)(cs:List AV)
theorem zg:S k sz cs= .sl sz cs\/S k sz cs= .us sz cs\/(S k sz cs= .sc nil0/\cs=[]):=by
 unfold S
 match k,cs with
 |0,_=>exact .inl rfl
 |1,_=>exact .inr (.inl rfl)
 |2,[]=>exact .inr (.inr ⟨rfl,rfl⟩)
 |2,_::_=>exact .inr (.inl rfl)
 |n+3,[]=>exact .inr (.inr ⟨rfl,rfl⟩)
 |n+3,_::_=>exact .inl rfl
@[simp] theorem ro1_S : ro1 (S k sz cs) = S (rk k) sz cs := by
 match k,cs with
 |0,_=>rfl
 |1,_=>rfl
 |2,[]=>rfl
 |2,_::_=>rfl
 |n+3,[]=>rfl
 |n+3,_::_=>rfl
@[simp] theorem ro_S : ro (S k sz cs) = S (rk k) sz cs := by
 match k,cs with
 |0,_=>rfl
 |1,_=>rfl
 |2,[]=>rfl
 |2,_::_=>rfl
 |n+3,[]=>rfl
 |n+3,_::_=>rfl
theorem rd_S:Rd sz (S k sz cs) cs:=zg k sz cs
@[simp] theorem qI:zd (S k 1 cs)=some cs.length:=(rd_S k 1 cs).len
@[simp] theorem Qo (K : IntKind) (z : Int) : zL 1 (S k 1 cs) (.int K z) = if 0 ≤ z then (cs[z.toNat]?).map fun c => [c] else none := by
 by_cases hz:0<=z
 ·rw[if_pos hz]
  cases h:cs[z.toNat]? with
  |some y=>exact(rd_S k 1 cs).idx qc h
  |none=>
   have hl:cs.length<=z.toNat:=by simpa using h
   have hn:¬(z<(cs.length:Int)):=qc
   rcases zg k 1 cs with e|e|⟨e,e'⟩
   ·rw[e];simp[zL,idx,ZK,hn]
   ·rw[e];simp[zL,idx,ZK,hn]
   ·rw[e];rfl
 ·rw[if_neg hz]
  rcases zg k 1 cs with e|e|⟨e,e'⟩
  ·rw[e];simp[zL,idx,ZK,hz]
  ·rw[e];simp[zL,idx,ZK,hz]
  ·rw[e];rfl
@[simp] theorem zhk : qk 1 (S k sz cs) = some [S k sz cs] := by
 rcases zg k sz cs with e|e|⟨e,e'⟩<;>rw[e]<;>rfl
@[simp] theorem zhz : yn (S k sz cs) = some () := by
 rcases zg k sz cs with e|e|⟨e,e'⟩<;>rw[e]<;>rfl
@[simp] theorem qs5 : yG sz (S k sz cs) = some cs := by
 rcases zg k sz cs with e|e|⟨e,e'⟩
 ·rw[e];simp[yG]
 ·rw[e];simp[yG]
 ·rw[e,e'];rfl
@[simp] theorem us_S:AV.us sz cs=S 1 sz cs:=rfl
@[simp] theorem sl_S:AV.sl sz cs=S 0 sz cs:=rfl
end
@[simp] theorem nil_S1:AV.sc (Value.slice none 0 0)=S 2 1 []:=rfl
@[simp] theorem S3_nil(sz:Nat):S 3 sz []=S 2 sz []:=rfl
theorem yP(k:Nat)(cs:List AV)(K:IntKind)(z:Int)(h:0<=z)(h':z<=cs.length):zS 1 (S k 1 cs) (some (.int K z)) none none=some (S (tg k cs) 1 (cs.drop z.toNat)):=by
 obtain⟨i,rfl⟩:∃i:Nat,z=i:=⟨z.toNat,qc⟩
 have hi:i<=cs.length:=qc
 have hb:∀n:Nat,i<=n->qH 0 (n:Int) (some (.int K (i:Int))) 0=some i:=by
  intro n hn
  have:(0:Int)<=(i:Int)/\(i:Int)<=(n:Int):=⟨zjy i,qc⟩
  simp only[qH,ZK,zib,this,and_self,if_true,zik]
 have key:(cs.drop (i*1)).take ((cs.length-i)*1)=cs.drop i:=by
  rw[zi7,zi7]
  exact zix qe
 have this:=hb cs.length hi
 simp only[qH]at this
 have a:zS 1 (.sl 1 cs) (some (.int K i)) none none=some (.sl 1 (cs.drop i)):=by
  simp only[zS,if_true]
  show(qH 0 _ none _).bind _=_
  simp only[qH,zib]
  rw[this]
  simp only[zib,key]
 have b:zS 1 (.us 1 cs) (some (.int K i)) none none=some (.sl 1 (cs.drop i)):=by
  simp only[zS,if_true]
  show(qH 0 _ none _).bind _=_
  simp only[qH,zib]
  rw[this]
  simp only[zib,key]
 rw[zik]
 match k,cs with
 |0,[]=>exact a
 |0,_::_=>exact a
 |1,[]=>exact b
 |1,_::_=>exact b
 |2,[]=>obtain rfl:i=0:=by simpa using hi
        rfl
 |2,_::_=>exact b
 |n+3,[]=>obtain rfl:i=0:=by simpa using hi
          rfl
 |n+3,_::_=>exact a
theorem ZN(b sz k:Nat)(cs ys:List AV)(k':Nat)(hk:k=1\/k=2)(hf:ql5 ys)(hfit:ys=[]\/js b sz (cs.length+ys.length)=true):
 zh b sz (S k sz cs) (S k' sz ys)=some (S k sz (cs++ys)):=by
 unfold zh WS
 rw[qs5]
 simp only[zib]
 have hf':ys.map ro1=ys:=hf
 match ys,hf',hfit with
 |[],_,_=>
  rw[zi4]
  rcases hk with rfl|rfl
  ·show(if sz=sz then some (AV.us sz cs)else none)=_
   rw[if_pos rfl];rfl
  ·cases cs with
   |nil=>rfl
   |cons c cs=>exact if_pos rfl
 |y::ys,hf',hfit=>
  have hfit:js b sz (cs.length+(y::ys).length)=true:=hfit.resolve_left qe
  rcases hk with rfl|rfl
  ·simp only[S,hf',hfit,zmi,decide_true,if_true]
  ·cases cs with
   |nil=>
    have h0:js b sz (y::ys).length=true:=by simpa using hfit
    simp only[S,hf',h0,kE,nil0,zmi,if_true,zi5]
   |cons c cs=>simp only[S,hf',hfit,zmi,decide_true,if_true,zj0]
theorem jr{b sz n:Nat}(hb:0<b)(h:n*b<=140737488355328*sz):js b sz n=true:=by
 simp[js,h,hb]
@[simp] theorem qhx(v:Value):ql5 [.sc v]:=rfl
theorem qv7{α:Type}(f:α->Value)(l:List α):ql5 (l.map fun x=>.sc (f x)):=by
 unfold ql5;rw[zli];rfl
@[simp] theorem qty(v:Value):ro1 (.sc v)= .sc v:=rfl
@[simp] theorem zgk(v:Value):ro (.sc v)= .sc v:=rfl
@[simp] theorem zdg(l:List AV):ro (.agg l)= .agg (l.map ro1):=rfl
@[simp] theorem zgw(v:Value):yn (.sc v)=some ():=rfl
@[simp] theorem zfs(l:List AV):yn (.agg l)=some ():=rfl
@[simp] theorem Xq (k sz : Nat) (cs : List AV) : vl (S k sz cs) = true := by
 rcases zg k sz cs with e|e|⟨e,e'⟩<;>rw[e]<;>rfl
@[simp] theorem vlF_S (k sz : Nat) (cs : List AV) : vlF (S k sz cs) = true := by
 rcases zg k sz cs with e|e|⟨e,e'⟩<;>rw[e]<;>rfl
@[simp] theorem vlV_S (k sz : Nat) (cs : List AV) : vlV (S k sz cs) = true := by
 rcases zg k sz cs with e|e|⟨e,e'⟩<;>rw[e]<;>rfl
@[simp] theorem vl_sc(v:Value):vl (.sc v)=true:=rfl
@[simp] theorem vlF_sc(v:Value):vlF (.sc v)=true:=rfl
@[simp] theorem vlV_sc(v:Value):vlV (.sc v)=true:=rfl
@[simp] theorem zhu(l:List AV):vlF (.agg l)=l.all vl:=rfl
@[simp] theorem zht(l:List AV):vlV (.agg l)=l.all vl:=rfl
@[simp] theorem zhs(l:List AV):vlV (.tup l)=l.all vlF:=rfl
@[simp] theorem vl_fn(f:FuncId):vl (.fn f [])=true:=rfl
@[simp] theorem vlF_fn(f:FuncId):vlF (.fn f [])=true:=rfl
@[simp] theorem qpx(xs caps:List AV):jN xs caps=yk (xs.all vlF=true/\caps.all vl=true):=rfl
@[simp] theorem wI(a b:Nat):jf a b=yk (a=b):=rfl
@[simp] theorem zh6(b:Bool):VB b=yk (b=true):=rfl
@[simp] theorem quw(cs:List AV):vh cs=yk (cs.all vl=true):=rfl
@[simp] theorem tN_eq(n:Int):tN n=n.toNat:=rfl
theorem QG{b z:Nat}{n:Int}(h0:0<=n)(hf:n.toNat*b<=140737488355328)(hb:0<b)(hz:0<z):yc b z n n=some ():=
 if_pos ⟨rfl,h0,by simp[js];omega,hz⟩
@[simp] theorem quy(y:AV):xk y=yk (vlV y=true):=rfl
theorem zT{p:Prop}[Decidable p](h:p):yk p=some ():=if_pos h
@[simp] theorem kR:yk True=some ():=rfl
@[simp] theorem ZG{α:Type}[DecidableEq α](a:α):yk (a=a)=some ():=if_pos rfl
@[simp] theorem zhq(l:List AV):zbi (.agg l)=some l:=rfl
@[simp] theorem ze0(n:Nat)(l:List AV):yV n (.tup l)=if l.length=n then some ()else none:=rfl
@[simp] theorem zgv(l:List AV)(i:Nat):jd (.tup l) i=l.getD i (.tup []):=rfl
theorem qux(v:Value):xk (.sc v)=some ():=by rw[quy];exact if_pos qe
@[simp] theorem zhj:yk (True/\True)=some ():=rfl
@[simp] theorem ze1(n:Nat)(l:List AV):qk n (.agg l)=if l.length=n then some l else none:=rfl
@[simp] theorem zhp:vy (.sc nil0)=some nil0:=rfl
theorem qv{α:Type}{l:List α}{i:Nat}{x:α}{r:List α}(h:l.drop i=x::r):l[i]?=some x/\l.drop (i+1)=r/\∃h:i<l.length,l[i]=x:=by
 have hi:i<l.length:=by
  by_cases hi:i<l.length
  ·exact hi
  ·rw[zj8 qc]at h;cases h
 rw[zi2 hi]at h
 injection h with h1 h2
 exact⟨by rw[zic hi,h1],h2,hi,h1⟩
theorem qC{α:Type}{l:List α}{i:Nat}(h:l.drop i=[]):l.length<=i:=by simpa using h
def LI(K:IntKind)(l:List Int):List AV:=l.map fun n=>.sc (.int K n)
section
variable (K:IntKind)(l:List Int)
theorem Xi:ql5 (LI K l):=qv7 _ l
@[simp] theorem vlI:(LI K l).all vl=true:=by simp[LI,List.all_map]
@[simp] theorem yI:(LI K l).length=l.length:=by simp[LI]
@[simp] theorem Zy?(i:Nat):(LI K l)[i]?=(l[i]?).map fun n=>.sc (.int K n):=by simp[LI]
@[simp] theorem Zy(i:Nat)(h:i<(LI K l).length):(LI K l)[i]= .sc (.int K (l[i]'(by simpa using h))):=by simp[LI]
@[simp] theorem zhf(i:Nat):(LI K l).drop i=LI K (l.drop i):=by simp[LI]
@[simp] theorem tailI:(LI K l).tail=LI K l.tail:=by simp[LI]
@[simp] theorem nilI:LI K []=[]:=rfl
theorem qe1(k:Nat)(hk:k=1\/k=2)(b:Nat)(hb:0<b/\b<=1000)(n:Int)(h:l.length<=1000000):zh b 1 (S k 1 (LI K l)) (S 1 1 [.sc (.int K n)])=some (S k 1 (LI K (l++[n]))):=by
 rw[ZN b 1 k _ _ 1 hk (qhx _) (.inr (jr hb.1 ?_))]
 ·simp[LI]
 ·simp only[yI,zid,zi1]
  have:(l.length+(0+1))*b<=1000001*1000:=zjn qc hb.2
  omega
theorem qbu(k:Nat)(hk:k=1\/k=2)(b:Nat)(hb:0<b/\b<=1000)(k':Nat)(m:List Int)(h:l.length+m.length<=1000000):zh b 1 (S k 1 (LI K l)) (S k' 1 (LI K m))=some (S k 1 (LI K (l++m))):=by
 rw[ZN b 1 k _ _ k' hk (Xi _ _) (.inr (jr hb.1 ?_))]
 ·simp[LI]
 ·simp only[yI]
  have:(l.length+m.length)*b<=1000000*1000:=zjn qc hb.2
  omega
end
section
variable (P:Program)(t:TypeId)(x y:Operand)(k k':IntKind)(a b:Int)
theorem jF(h:0<=b):qs P .shr t x y (.int k a) (.int k' b)=some (.int k (a.fdiv (2^(min b.toNat k.bits)))):=by
 unfold qs
 rw[Qu]
 simp only[Go.binOp,Op.shift]
 rw[if_neg qc]
 rfl
theorem xw(h:0<=b):qs P .shl t x y (.int k a) (.int k' b)=some (.int k (k.wrap (a*2^(min b.toNat k.bits)))):=by
 unfold qs
 rw[Qu]
 simp only[Go.binOp,Op.shift]
 rw[if_neg qc]
 rfl
end
theorem zE{z:Int}(h1:0<=z)(h2:z<256):IntKind.u8.wrap z=z:=by rw[IntKind.wrap_u8];omega
theorem qT{z:Int}(h1:0<=z)(h2:z<4294967296):IntKind.u32.wrap z=z:=by rw[IntKind.wrap_u32];omega
theorem qx{z:Int}(h1:0<=z)(h2:z<18446744073709551616):IntKind.u64.wrap z=z:=by rw[IntKind.wrap_u64];omega
theorem qO{a b:Int}(h:0<=a):a.tmod b=a%b:=Int.tmod_eq_emod_of_nonneg h
@[simp] theorem zhm (P : Program) (ts : Array TypeId) (t : TypeId) (k k' : IntKind) (a b : Int) : yK P .max ts t [.int k a, .int k' b] = some (.int k (max a b)) := by
 show some (Value.int k (if b>a then b else a))=_
 congr 2
 split<;>omega
@[simp] theorem zhl (P : Program) (ts : Array TypeId) (t : TypeId) (k k' : IntKind) (a b : Int) : yK P .min ts t [.int k a, .int k' b] = some (.int k (min a b)) := by
 show some (Value.int k (if b<a then b else a))=_
 congr 2
 split<;>omega
@[simp] theorem kL(b g o n z:Nat):qN (.ms b g o n z)=some (b,g,o,n,z):=rfl
@[simp] theorem qan(b g o n z:Nat):ro (.ms b g o n z)= .ms b g o n z:=rfl
@[simp] theorem zdh(b g o n z:Nat):ro1 (.ms b g o n z)= .ms b g o n z:=rfl
@[simp] theorem zh1(b g o n z:Nat):zd (.ms b g o n z)=some n:=rfl
@[simp] theorem zfw(b g o n z:Nat):qk 1 (.ms b g o n z)=some [.ms b g o n z]:=rfl
@[simp] theorem zgx(b g o n z:Nat):yn (.ms b g o n z)=some ():=rfl
theorem za{n i:Nat}(K:IntKind)(h:i<n):idx n (.int K (i:Int))=some i:=by
 have h1:(i:Int)<(n:Int):=qc
 simp[idx,h1]
theorem qF(hp:Hp)(cs:List AV):(hp.new cs).rd hp.next 0=some cs:=by simp[Hp.rd,Hp.new]
theorem qw(hp:Hp)(b:Nat)(cs:List AV):(hp.put b 0 cs).rd b 0=some cs:=by simp[Hp.rd,Hp.put]
theorem yU(K:IntKind)(l:List Int)(i:Nat)(n:Int)(h:i<l.length):qm (LI K l) i [.sc (.int K n)]=some (LI K (l.set i n)):=by
 unfold qm
 rw[if_pos qg]
 congr 1
 apply zkv
 intro j
 simp only[zid,zi1,LI,zir,List.getElem?_append,zh8,ziy,zjg,zij,zi0,zmk,zid,zi1]
 by_cases h1:j<i
 ·have e1:j<min i l.length+(0+1):=qc
  have e2:j<min i l.length:=qc
  have e3:¬(i=j):=qc
  simp[e1,e2,e3,h1]
 ·by_cases h2:j=i
  ·subst h2
   have e2:¬(j<min j l.length):=qc
   have e3:j-min j l.length=0:=qc
   have e4:min j l.length=j:=qc
   simp[e2,e3,e4,h]
  ·have e1:¬(j<min i l.length+(0+1)):=qc
   have e2:¬(i=j):=qc
   have e3:i+(0+1)+(j-(min i l.length+(0+1)))=j:=qc
   have e4:¬(j<min i l.length):=qc
   simp only[e1,e2,e3,if_false]
theorem qv0(cs:List AV):qo cs 0 cs.length=some cs:=by simp[qo]
theorem zap(hp:Hp)(b:Nat)(cs:List AV)(hb:hp.rd b 0=some cs)(hv:cs.all vl=true):kO hp (.ms b 0 0 cs.length 1)=some (.sl 1 (cs.map ro1),hp.del b):=by
 have e:qo cs 0 (cs.length*1)=some cs:=by rw[zi7];exact qv0 cs
 simp only[kO,hb,zib,e,hv,yk]
 rfl
theorem ZA(K:IntKind)(l:List Int)(hp:Hp)(b:Nat)(hb:hp.rd b 0=some (LI K l)):kO hp (.ms b 0 0 l.length 1)=some (S 0 1 (LI K l),hp.del b):=by
 have h:=zap hp b (LI K l) hb (vlI K l)
 rw[yI]at h
 rw[h,Xi K l]
 rfl
@[simp] theorem frz1_S (k sz : Nat) (cs : List AV) (hp : Hp) : kO hp (S k sz cs) = some (S k sz cs, hp) := by
 rcases zg k sz cs with e|e|⟨e,e'⟩<;>rw[e]<;>rfl
@[simp] theorem zh2(v:Value)(hp:Hp):kO hp (.sc v)=some (.sc v,hp):=rfl
@[simp] theorem zhc(hp:Hp):Xx hp []=some ([],hp):=rfl
@[simp] theorem zfu(hp:Hp)(x:AV)(r:List AV):Xx hp (x::r)=(kO hp x).bind fun p=>(Xx p.2 r).bind fun q=>some (p.1::q.1,q.2):=rfl
@[simp] theorem Vd(cs:List AV):jV 1 cs=cs.length:=rfl
theorem vW(hp:Hp)(k sz:Nat)(cs:List AV):xg hp sz (S k sz cs)=some cs:=by
 unfold xg
 rcases zg k sz cs with e|e|⟨e,e'⟩<;>rw[e]
 ·simp[qN,yG]
 ·simp[qN,yG]
 ·simp[qN,yG,e',nil0]
theorem kY(K:IntKind)(l:List Int)(k:Nat)(b:Nat)(hb:0<b/\b<=1000)(hl:l.length<=1000000)(hne:l≠[])(hp:Hp):zF b 1 (S 1 1 []) (S k 1 (LI K l)) hp=some (.ms hp.next 0 0 l.length 1,hp.new (LI K l)):=by
 unfold zF
 rw[vW]
 simp only[zib]
 cases l with
 |nil=>exact absurd rfl hne
 |cons x l=>
  have hf:js b 1 (LI K (x::l)).length=true:=jr hb.1 (by
   rw[yI]
   have:(x::l).length*b<=1000000*1000:=zjn hl hb.2
   omega)
  have e:LI K (x::l)= .sc (.int K x)::LI K l:=rfl
  rw[e]at hf⊢
  show(yk (1=1/\js b 1 (AV.sc (Value.int K x)::LI K l).length=true)).bind _=_
  rw[zT ⟨rfl,hf⟩]
  simp[yI]
theorem qit(b:Nat)(k:Nat)(hp:Hp):zF b 1 (S 1 1 []) (S k 1 []) hp=some (S 1 1 [],hp):=by
 unfold zF
 rw[vW]
 rfl
theorem JM(K:IntKind)(l:List Int)(n:Int)(b x:Nat)(hb:0<b/\b<=1000)(hl:l.length<=1000000)(hne:l≠[])(hp:Hp)(hx:hp.rd x 0=some (LI K l)):
 zF b 1 (.ms x 0 0 l.length 1) (S 1 1 [.sc (.int K n)]) hp=some (.ms hp.next 0 0 (l.length+1) 1,(hp.del x).new (LI K (l++[n]))):=by
 have hpos:0<l.length:=zjj.mpr hne
 have hf:js b 1 (l.length*1+1)=true:=jr hb.1 (by
  have:(l.length*1+1)*b<=1000001*1000:=zjn qc hb.2
  omega)
 unfold zF
 rw[vW]
 simp only[zib,hx,zid,zi1,Vd]
 rw[zT (by simp[hpos])]
 simp only[zib]
 rw[zT ⟨by rw[yI];omega,hf⟩]
 have e:((LI K l).take (l.length*1)).map ro1++[AV.sc (.int K n)]=LI K (l++[n]):=by
  rw[zi7,zix qe,Xi]
  simp[LI]
 simp only[zib,e]
theorem ZM(K:IntKind)(n:Int)(b:Nat)(hb:0<b/\b<=1000)(hp:Hp):zF b 1 (S 2 1 []) (S 1 1 [.sc (.int K n)]) hp=some (.ms hp.next 0 0 1 1,hp.new (LI K [n])):=by
 have hf:js b 1 1=true:=jr hb.1 qc
 unfold zF
 rw[vW]
 show(yk (kE nil0=true/\js b 1 1=true)).bind _=_
 rw[zT ⟨rfl,hf⟩]
 rfl
theorem Qy(K:IntKind)(n:Nat):yM (n:Int) [.int K 0]=LI K (List.replicate n 0):=by
 unfold yM LI
 rw[zik]
 induction n with
 |zero=>rfl
 |succ n ih=>
  rw[zkz,zkz,zlv,ih]
  rfl
@[simp] theorem qlq(lo hi:Int)(d:Nat):qH lo hi none d=some d:=rfl
theorem vP{hi d n:Nat}(K:IntKind)(h:n<=hi):qH 0 (hi:Int) (some (.int K (n:Int))) d=some n:=by
 have h1:(n:Int)<=(hi:Int):=qc
 simp[qH,h1]
theorem zej(K:IntKind)(l:List Int)(i n:Nat)(h:i+n<=l.length):qo (LI K l) i n=some (LI K ((l.drop i).take n)):=by
 unfold qo
 rw[if_pos (by simpa using h)]
 simp[LI,List.map_drop,zlo]
theorem qy8(K:IntKind)(l m:List Int)(i:Nat)(h:i+m.length<=l.length):qm (LI K l) i (LI K m)=some (LI K (l.take i++m++l.drop (i+m.length))):=by
 unfold qm
 rw[if_pos (by simpa using h)]
 simp[LI,List.map_drop,zlo]
theorem zbt(K:IntKind)(l:List Int)(n:Nat):(LI K l).take n=LI K (l.take n):=by simp[LI,zlo]
theorem ZV(K:IntKind)(l:List Int)(hp:Hp)(b o n:Nat)(hb:hp.rd b 0=some (LI K l))(h:o+n<=l.length):xg hp 1 (.ms b 0 o n 1)=some (LI K ((l.drop o).take n)):=by
 unfold xg
 have e:=zej K l o n h
 have e1:yk (1=1/\0<1)=some ():=zT ⟨rfl,qf⟩
 show(yk (1=1/\0<1)).bind _=_
 rw[e1]
 simp only[zib,hb,zi7,e]
 rw[Xi]
theorem qtb{q:AV×Nat}{g g':Nat->Option (Nat×List AV)}(h:yH q g=yH q g'):YZ q g g'=some ():=by
 unfold YZ
 exact if_pos h
@[simp] theorem zda(q:AV×Nat)(g:Nat->Option (Nat×List AV)):YZ q g g=some ():=qtb rfl
theorem qiu(K:IntKind)(l:List Int)(x:AV)(b:Nat)(hb:0<b/\b<=1000)(hl:l.length<=1000000)(hne:l≠[])(hp:Hp)(hx:xg hp 1 x=some (LI K l)):zF b 1 (S 1 1 []) x hp=some (.ms hp.next 0 0 l.length 1,hp.new (LI K l)):=by
 have h:=kY K l 0 b hb hl hne hp
 unfold zF at h⊢
 rw[vW]at h
 rw[hx]
 exact h
theorem qs4(K:IntKind)(l:List Int)(hp:Hp)(b:Nat)(hb:hp.rd b 0=some (LI K l)):xg hp 1 (.ms b 0 0 l.length 1)=some (LI K l):=by
 have h:=ZV K l hp b 0 l.length hb qc
 rwa [zj2,zix (zif _)]at h
end Go.Proofs.YtoliekekdmfngaaGreat.AI
namespace Go.Proofs.YtoliekekdmfngaaGreat.AI
open Go Go.RowKit Go.ChangeShapes Go.WideShapes Go.ChangeAt
set_option linter.unusedVariables false
set_option linter.unusedSimpArgs false
def InK(k:IntKind)(n:Int):Prop:=(Lit.int k n).wf=true
theorem InK.le{k:IntKind}{n:Int}(h:InK k n):k.min<=n/\n<=k.max:=by
 simpa[InK,Lit.wf]using h
theorem InK.u8{n:Int}(h:InK .u8 n):0<=n/\n<256:=by
 have:=h.le;simp[IntKind.min,IntKind.max,IntKind.signed,IntKind.bits]at this;omega
theorem InK.u16{n:Int}(h:InK .u16 n):0<=n/\n<65536:=by
 have:=h.le;simp[IntKind.min,IntKind.max,IntKind.signed,IntKind.bits]at this;omega
theorem InK.u32{n:Int}(h:InK .u32 n):0<=n/\n<4294967296:=by
 have:=h.le;simp[IntKind.min,IntKind.max,IntKind.signed,IntKind.bits]at this;omega
theorem InK.u64{n:Int}(h:InK .u64 n):0<=n/\n<18446744073709551616:=by
 have:=h.le;simp[IntKind.min,IntKind.max,IntKind.signed,IntKind.bits]at this;omega
theorem InK.i64{n:Int}(h:InK .i64 n):-9223372036854775808<=n/\n<9223372036854775808:=by
 have:=h.le;simp[IntKind.min,IntKind.max,IntKind.signed,IntKind.bits]at this;omega
def ArgsR(W:World)(xs:List AV)(vs:List Value):Prop:=xs.length=vs.length/\∀(i:Nat) (x:AV) (u:Value),xs[i]?=some x->vs[i]?=some u->XD (Xw W) W x u
theorem ArgsR.nil(W:World):ArgsR W [] []:=⟨rfl,qe⟩
theorem ArgsR.cons{W:World}{x:AV}{v:Value}{xs:List AV}{vs:List Value}(h:XD (Xw W) W x v)(t:ArgsR W xs vs):ArgsR W (x::xs) (v::vs):=by
 refine⟨by simp[t.1],fun i y u hx hu=>?_⟩
 cases i with
 |zero=>
  simp at hx hu
  subst hx hu
  exact h
 |succ i=>exact t.2 i y u (by simpa using hx) (by simpa using hu)
theorem law_args{c:Cx}(hc:Ok c/\Wb c){f:FuncId}{xs:List AV}{vs:List Value}{v:Value}{hp':Hp}{W:World}(ha:ArgsR W xs vs)(h:run c f xs hp0=some (.sc v,hp')):Calls c.P f vs.toArray W fun e W'=>e= .returned v/\Below W.heap.size W W':=
 qvh hc h ha.1 ha.2
section
variable {H:Type}{enc:TypeId×Value->H}{P:Program}{W:World}{fuel:Nat}{t e:TypeId}{cs:List Value}{y:DataW H×List MemPlace}{K:IntKind}
theorem Yp(ht:P.underlying t=some (.int K))(h:DataW.trod enc P W 0 (fun _=>true) true fuel t cs=some y):∃n,cs=[.int K n]/\InK K n:=by
 obtain⟨n,h1,h2,h3⟩:=DataW.trod_int ht h
 exact⟨n,h1,h3⟩
theorem qy3(ht:P.underlying t=some .bool)(h:DataW.trod enc P W 0 (fun _=>true) true fuel t cs=some y):∃b:Bool,cs=[.bool b]:=by
 obtain⟨n,h1,h2⟩:=DataW.trod_bool ht h
 exact⟨n,h1⟩
theorem qpd{a:Addr}{len cap:Nat}{zs:List Int}(hl:len<=cap)(hz:zs.length=cap)(hcell:∀i,i<zs.length->W.cell? (a.add i)=some (.int K (zs.getD i 0))):
 RelR (Xw W) W (S 0 1 (LI K (zs.take len))) (.slice (some a) len cap):=by
 have hg:∀i,i<zs.length->zs.getD i 0=zs[i]?.getD 0:=fun i _=>qe
 have:=qlx (W:=W) (a:=a) (n:=len) (cap:=cap) (sz:=1) (cs:=LI K (zs.take len)) (vs:=(zs.take len).map fun n=>.int K n) qc qg qe hl
  (fun i v hv=>by
   simp only[zir,zkp]at hv
   obtain⟨n,hn,rfl⟩:=hv
   have hi:i<(zs.take len).length:=(zih.mp hn).1
   simp at hi
   rw[hcell i qc]
   rw[zlb qc]at hn
   simp[hn])
  (fun x hx=>by
   obtain⟨n,_,rfl⟩:=ziu.mp hx
   rfl)
  (fun i x v hx hv=>by
   simp only[LI,zir,zkp]at hx hv
   obtain⟨n,hn,rfl⟩:=hx
   obtain⟨m,hm,rfl⟩:=hv
   rw[hn]at hm
   cases hm
   exact .sc _ rfl)
 exact this (fun _=>.fr)
theorem qmw(ht:P.underlying t=some (.slice e))(he:P.underlying e=some (.int K))(hc:P.cellsOf e=1)(h:DataW.trod enc P W 0 (fun _=>true) true fuel t cs=some y):
 ∃k l v,cs=[v]/\RelR (Xw W) W (S k 1 (LI K l)) v/\(k=0\/(k=2/\l=[]))/\∀n∈l,InK K n:=by
 rcases open_ints ht he hc h with⟨hcs,_⟩|⟨a,len,cap,zs,hcs,_,hl,hm,hz,_,hcell,hwz⟩
 ·exact⟨2,[],_,hcs,.sc nil0 rfl,.inr ⟨rfl,rfl⟩,qe⟩
 ·exact⟨0,zs.take len,_,hcs,qpd hl (by simpa using hz) hcell,.inl rfl,fun n hn=>hwz n (zjs hn)⟩
theorem arg_R{x:AV}{v:Value}(h:RelR (Xw W) W x v):XD (Xw W) W x v:=fun p=>(h.c (p 0)).v
end
theorem xe{l:List Value}{o n:Nat}{a:Value}(h:(l.drop o).take n=[a]):l[o]?=some a:=by
 have h0:((l.drop o).take n)[0]?=some a:=by rw[h];rfl
 have hn:0<n:=by
  cases n with
  |zero=>simp at h
  |succ n=>omega
 rw[zlb hn]at h0
 simpa using h0
end Go.Proofs.YtoliekekdmfngaaGreat.AI
namespace Go.Proofs.YtoliekekdmfngaaGreat.AI
open Go
set_option linter.unusedVariables false
set_option linter.unusedSimpArgs false
set_option maxRecDepth 100000
set_option maxHeartbeats 0
def Xu(n:Nat):Nat->List Bool
 |0=>[]
 |k+1=>n.testBit k::Xu n k
def una(n:Nat):List Bool:=List.replicate n true++[false]
def WN(l:List Bool)(s:Nat):Nat:=
 (l.getD s false).toNat*128+(l.getD (s+1) false).toNat*64+(l.getD (s+2) false).toNat*32+(l.getD (s+3) false).toNat*16
  +(l.getD (s+4) false).toNat*8+(l.getD (s+5) false).toNat*4+(l.getD (s+6) false).toNat*2+(l.getD (s+7) false).toNat
def pk(l:List Bool):List Int:=(List.range ((l.length+7)/8)).map fun i=>(WN l (8*i):Int)
def VM(b:List Int)(i:Nat):Bool:=(b.getD (i/8) 0).toNat.testBit (7-i%8)
@[simp] theorem qzz (n k : Nat) : (Xu n k).length = k := by
 induction k with
 |zero=>rfl
 |succ k ih=>simp[Xu,ih]
@[simp] theorem qx0(n:Nat):(una n).length=n+1:=by simp[una]
@[simp] theorem vu(l:List Bool):(pk l).length=(l.length+7)/8:=by simp[pk]
theorem b2n(b:Bool):b.toNat<=1:=by cases b<;>decide
theorem qwo(l:List Bool)(s:Nat):WN l s<256:=by
 unfold WN
 have:=b2n (l.getD s false);have:=b2n (l.getD (s+1) false);have:=b2n (l.getD (s+2) false);have:=b2n (l.getD (s+3) false)
 have:=b2n (l.getD (s+4) false);have:=b2n (l.getD (s+5) false);have:=b2n (l.getD (s+6) false);have:=b2n (l.getD (s+7) false)
 omega
theorem qm2(l:List Bool)(i:Nat)(h:i<(l.length+7)/8):(pk l).getD i 0=(WN l (8*i):Int):=by
 unfold pk
 rw[zia,zir,zko h]
 rfl
theorem zdo{l:List Bool}{x:Int}(h:x∈pk l):0<=x/\x<256:=by
 unfold pk at h
 obtain⟨i,_,rfl⟩:=ziu.mp h
 have:=qwo l (8*i)
 omega
theorem qie(a b c d e f g h:Bool)(k:Nat)(hk:k<8):
 (a.toNat*128+b.toNat*64+c.toNat*32+d.toNat*16+e.toNat*8+f.toNat*4+g.toNat*2+h.toNat).testBit (7-k)=[a,b,c,d,e,f,g,h].getD k false:=by
 have:k=0\/k=1\/k=2\/k=3\/k=4\/k=5\/k=6\/k=7:=qc
 rcases this with r|r|r|r|r|r|r|r<;>subst r<;>revert a b c d e f g h<;>decide
theorem qij(l:List Bool)(i:Nat)(h:i<l.length):VM (pk l) i=l.getD i false:=by
 unfold VM
 rw[qm2 l (i/8) qc,zik]
 unfold WN
 rw[qie _ _ _ _ _ _ _ _ _ qc]
 have hi:i=8*(i/8)+i%8:=qc
 generalize hq:8*(i/8)=q at*
 have:i%8=0\/i%8=1\/i%8=2\/i%8=3\/i%8=4\/i%8=5\/i%8=6\/i%8=7:=qc
 rcases this with r|r|r|r|r|r|r|r<;>(rw[r]at hi⊢;rw[hi];rfl)
theorem qex(l:List Bool)(i:Nat)(h:l.length<=i):VM (pk l) i=false:=by
 unfold VM
 by_cases h1:i/8<(l.length+7)/8
 ·rw[qm2 l (i/8) h1,zik]
  unfold WN
  rw[qie _ _ _ _ _ _ _ _ _ qc]
  have hi:i=8*(i/8)+i%8:=qc
  have hz:∀j,l.length<=j->l.getD j false=false:=fun j hj=>by
   rw[zia,zjd hj];rfl
  generalize hq:8*(i/8)=q at*
  have:i%8=0\/i%8=1\/i%8=2\/i%8=3\/i%8=4\/i%8=5\/i%8=6\/i%8=7:=qc
  rcases this with r|r|r|r|r|r|r|r<;>(rw[r]at hi⊢;rw[hi]at h;first|exact hz _ h|exact hz _ qc)
 ·rw[zia,zjd (by rw[vu];omega)]
  exact Nat.zero_testBit _
end Go.Proofs.YtoliekekdmfngaaGreat.AI
namespace Go.Proofs.YtoliekekdmfngaaGreat.AI
set_option linter.unusedVariables false
set_option linter.unusedSimpArgs false
def mrg:List Int->List Int->List Int
 |[],b=>b
 |a,[]=>a
 |x::a,y::b=>if x<y then x::mrg a (y::b)else if y<x then y::mrg (x::a) b else x::mrg a b
termination_by a b=>a.length+b.length
@[simp] theorem qaz(b:List Int):mrg [] b=b:=by unfold mrg;rfl
@[simp] theorem qay(a:List Int):mrg a []=a:=by cases a<;>(unfold mrg;rfl)
theorem zB(x:Int)(a:List Int)(y:Int)(b:List Int):mrg (x::a) (y::b)=if x<y then x::mrg a (y::b)else if y<x then y::mrg (x::a) b else x::mrg a b:=by
 rw[mrg]
theorem XR{motive:List Int->List Int->Prop}(h1:∀b,motive [] b)(h2:∀a,motive a [])(h3:∀x a y b,x<y->motive a (y::b)->motive (x::a) (y::b))
 (h4:∀x a y b,y<x->motive (x::a) b->motive (x::a) (y::b)) (h5:∀x a b,motive a b->motive (x::a) (x::b)):∀a b,motive a b:=by
 intro a b
 generalize hn:a.length+b.length=n
 induction n using Nat.strongRecOn generalizing a b with
 |_ n ih=>
  cases a with
  |nil=>exact h1 b
  |cons x a=>
   cases b with
   |nil=>exact h2 _
   |cons y b=>
    by_cases hxy:x<y
    ·exact h3 x a y b hxy (ih (a.length+(y::b).length) (by simp at hn⊢;omega) _ _ rfl)
    ·by_cases hyx:y<x
     ·exact h4 x a y b hyx (ih ((x::a).length+b.length) (by simp at hn⊢;omega) _ _ rfl)
     ·have:x=y:=qc
      subst this
      exact h5 x a b (ih (a.length+b.length) (by simp at hn⊢;omega) _ _ rfl)
theorem wy(n:Int):∀a b,n∈mrg a b↔n∈a\/n∈b:=by
 apply XR
 ·intro b;simp
 ·intro a;simp
 ·intro x a y b h ih
  rw[zB,if_pos h,zie,ih,zie,zie]
  constructor
  ·rintro(h|h|h|h)
   ·exact .inl (.inl h)
   ·exact .inl (.inr h)
   ·exact .inr (.inl h)
   ·exact .inr (.inr h)
  ·rintro((h|h)|(h|h))
   ·exact .inl h
   ·exact .inr (.inl h)
   ·exact .inr (.inr (.inl h))
   ·exact .inr (.inr (.inr h))
 ·intro x a y b h ih
  rw[zB,if_neg qc,if_pos h,zie,ih,zie,zie]
  constructor
  ·rintro(h|(h|h)|h)
   ·exact .inr (.inl h)
   ·exact .inl (.inl h)
   ·exact .inl (.inr h)
   ·exact .inr (.inr h)
  ·rintro((h|h)|(h|h))
   ·exact .inr (.inl (.inl h))
   ·exact .inr (.inl (.inr h))
   ·exact .inl h
   ·exact .inr (.inr h)
 ·intro x a b ih
  rw[zB,if_neg qc,if_neg qc,zie,ih,zie,zie]
  constructor
  ·rintro(h|h|h)
   ·exact .inl (.inl h)
   ·exact .inl (.inr h)
   ·exact .inr (.inr h)
  ·rintro((h|h)|(h|h))
   ·exact .inl h
   ·exact .inr (.inl h)
   ·exact .inl h
   ·exact .inr (.inr h)
abbrev jS(l:List Int):Prop:=l.Pairwise (·<·)
theorem Qf:∀a b,jS a->jS b->jS (mrg a b):=by
 apply XR (motive:=fun a b=>jS a->jS b->jS (mrg a b))
 ·intro b _ h;simpa using h
 ·intro a h _;simpa using h
 ·intro x a y b h ih ha hb
  rw[zB,if_pos h]
  have ha:=zii.mp ha
  refine zii.mpr ⟨fun n hn=>?_,ih ha.2 hb⟩
  rcases(wy n a (y::b)).mp hn with h'|h'
  ·exact ha.1 n h'
  ·rcases zie.mp h' with rfl|h'
   ·exact h
   ·have:=(zii.mp hb).1 n h';omega
 ·intro x a y b h ih ha hb
  rw[zB,if_neg qc,if_pos h]
  have hb':=zii.mp hb
  refine zii.mpr ⟨fun n hn=>?_,ih ha hb'.2⟩
  rcases(wy n (x::a) b).mp hn with h'|h'
  ·rcases zie.mp h' with rfl|h'
   ·exact h
   ·have:=(zii.mp ha).1 n h';omega
  ·exact hb'.1 n h'
 ·intro x a b ih ha hb
  rw[zB,if_neg qc,if_neg qc]
  have ha':=zii.mp ha
  have hb':=zii.mp hb
  refine zii.mpr ⟨fun n hn=>?_,ih ha'.2 hb'.2⟩
  rcases(wy n a b).mp hn with h'|h'
  ·exact ha'.1 n h'
  ·exact hb'.1 n h'
theorem qnh:∀a b,(mrg a b).length<=a.length+b.length:=by
 apply XR (motive:=fun a b=>(mrg a b).length<=a.length+b.length)
 ·intro b;simp
 ·intro a;simp
 ·intro x a y b h ih
  rw[zB,if_pos h];simp at ih⊢;omega
 ·intro x a y b h ih
  rw[zB,if_neg qc,if_pos h];simp at ih⊢;omega
 ·intro x a b ih
  rw[zB,if_neg qc,if_neg qc];simp at ih⊢;omega
theorem KN:∀{a b:List Int},jS a->jS b->(∀n,n∈a↔n∈b)->a=b
 |[],[],_,_,_=>rfl
 |[],y::b,_,_,h=>absurd ((h y).mpr qe) qe
 |x::a,[],_,_,h=>absurd ((h x).mp qe) qe
 |x::a,y::b,ha,hb,h=>by
  have ha':=zii.mp ha
  have hb':=zii.mp hb
  have hxy:x=y:=by
   have h1:=zie.mp ((h x).mp qe)
   have h2:=zie.mp ((h y).mpr qe)
   rcases h1 with h1|h1
   ·exact h1
   ·rcases h2 with h2|h2
    ·exact h2.symm
    ·have:=ha'.1 y h2
     have:=hb'.1 x h1
     omega
  subst hxy
  congr 1
  refine KN ha'.2 hb'.2 fun n=>?_
  have:=h n
  constructor
  ·intro hn
   have hlt:=ha'.1 n hn
   rcases zie.mp (this.mp (zkg _ hn))with rfl|h'
   ·omega
   ·exact h'
  ·intro hn
   have hlt:=hb'.1 n hn
   rcases zie.mp (this.mpr (zkg _ hn))with rfl|h'
   ·omega
   ·exact h'
theorem qz2{a b:List Int}(ha:jS a)(hb:jS b)(h:∀n∈b,n∈a):mrg a b=a:=
 KN (Qf _ _ ha hb) ha fun n=>by rw[wy];exact⟨fun h'=>h'.elim id (h n),.inl⟩
end Go.Proofs.YtoliekekdmfngaaGreat.AI
namespace Go.Proofs.YtoliekekdmfngaaGreat.AI
set_option linter.unusedVariables false
set_option linter.unusedSimpArgs false
theorem qsu:∀(A B:List Int) (k m n:Nat),k<=m->k<=n->(mrg (A.take m) (B.take n)).take k=(mrg A B).take k:=by
 apply XR (motive:=fun A B=>∀(k m n:Nat),k<=m->k<=n->(mrg (A.take m) (B.take n)).take k=(mrg A B).take k)
 ·intro b k m n hm hn
  rw[zl1,qaz,qaz,zmd,zkt hn]
 ·intro a k m n hm hn
  rw[zl1,qay,qay,zmd,zkt hm]
 ·intro x a y b h ih k m n hm hn
  match k,m,n,hm,hn with
  |0,_,_,_,_=>simp
  |k+1,m+1,n+1,hm,hn=>
   have:=ih k m (n+1) qc qc
   rw[zim]at this
   rw[zim,zim,zB,zB,if_pos h,if_pos h,zim,zim,this]
 ·intro x a y b h ih k m n hm hn
  match k,m,n,hm,hn with
  |0,_,_,_,_=>simp
  |k+1,m+1,n+1,hm,hn=>
   have n1:¬x<y:=qc
   have:=ih k (m+1) n qc qc
   rw[zim]at this
   rw[zim,zim,zB,zB,if_neg n1,if_pos h,if_neg n1,if_pos h,zim,zim,this]
 ·intro x a b ih k m n hm hn
  match k,m,n,hm,hn with
  |0,_,_,_,_=>simp
  |k+1,m+1,n+1,hm,hn=>
   have n1:¬x<x:=qc
   have:=ih k m n qc qc
   rw[zim,zim,zB,zB,if_neg n1,if_neg n1,if_neg n1,if_neg n1,zim,zim,this]
theorem qjp(A B:List Int)(k:Nat):(mrg (A.take k) B).take k=(mrg A B).take k:=by
 have h:=qsu A B k k (k+B.length) qc qc
 rwa [zix (by omega:B.length<=k+B.length)]at h
theorem qo9{l:List Int}(k:Nat)(h:jS l):jS (l.take k):=List.Pairwise.sublist (zml k l) h
def srt(acc:List Int):List Int->List Int
 |[]=>acc
 |n::r=>srt (mrg acc [n]) r
theorem Kr:∀(r:List Int) {acc:List Int},jS acc->jS (srt acc r)
 |[],_,h=>h
 |n::r,_,h=>Kr r (Qf _ _ h qe)
theorem qed(x:Int):∀(r acc:List Int),x∈srt acc r↔x∈acc\/x∈r
 |[],acc=>by simp[srt]
 |n::r,acc=>by
  rw[srt,qed x r,wy]
  simp[or_assoc]
def Qn(K:Nat)(acc:List Int):List Int->List Int
 |[]=>acc
 |n::r=>Qn K ((mrg acc [n]).take K) r
theorem qhd(K:Nat):∀(r acc:List Int),Qn K (acc.take K) r=(srt acc r).take K
 |[],acc=>rfl
 |n::r,acc=>by
  rw[Qn,qjp,qhd K r,srt]
theorem qeg(K:Nat)(r:List Int):Qn K [] r=(srt [] r).take K:=by
 simpa using qhd K r []
theorem qp7(K:Nat)(a:List Int):jS (Qn K [] a):=by rw[qeg];exact qo9 K (Kr a List.Pairwise.nil)
theorem qvk(K:Nat)(a:List Int):(Qn K [] a).length<=K:=by rw[qeg,ziy];omega
theorem qu6{K:Nat}{a:List Int}{x:Int}(h:x∈Qn K [] a):x∈a:=by
 rw[qeg]at h
 have:=(qed x a []).mp (zjs h)
 simpa using this
end Go.Proofs.YtoliekekdmfngaaGreat.AI
namespace Go.Proofs.YtoliekekdmfngaaGreat.AI
open Ieee
set_option linter.unusedVariables false
set_option linter.unusedSimpArgs false
def yp(x:Nat):Prop:=9218868437227405312<x%9223372036854775808
instance (x : Nat) : Decidable (yp x) := by unfold yp; infer_instance
def zI(x:Nat):Int:=if x/9223372036854775808%2=1 then -((x%9223372036854775808:Nat):Int)else((x%9223372036854775808:Nat):Int)
def jW(r:Nat):Nat:=if r<4503599627370496 then r else(4503599627370496+r%4503599627370496)*2^(r/4503599627370496-1)
theorem XU{a b:Nat}(h:a<b):jW a<jW b:=by
 unfold jW
 by_cases ha:a<4503599627370496
 ·rw[if_pos ha]
  by_cases hb:b<4503599627370496
  ·rw[if_pos hb];exact h
  ·rw[if_neg hb]
   have h1:1<=2^(b/4503599627370496-1):=Nat.one_le_two_pow
   have h2:=zjn (zif (4503599627370496+b%4503599627370496)) h1
   omega
 ·have hb:¬b<4503599627370496:=qc
  rw[if_neg ha,if_neg hb]
  by_cases hq:a/4503599627370496=b/4503599627370496
  ·rw[hq]
   have hr:a%4503599627370496<b%4503599627370496:=qc
   exact Nat.mul_lt_mul_of_pos_right qc (zk3 _)
  ·have hq':a/4503599627370496<b/4503599627370496:=qc
   have h1:(4503599627370496+a%4503599627370496)*2^(a/4503599627370496-1)<(2*4503599627370496)*2^(a/4503599627370496-1):=by
    have:a%4503599627370496<4503599627370496:=zl6 _ qc
    exact Nat.mul_lt_mul_of_pos_right qc (zk3 _)
   have h2:2^(a/4503599627370496-1)*2=2^(a/4503599627370496):=by
    rw[<-Nat.pow_succ]
    congr 1
    omega
   have h3:2^(a/4503599627370496)<=2^(b/4503599627370496-1):=zjz qc qc
   have h4:4503599627370496*2^(b/4503599627370496-1)<=(4503599627370496+b%4503599627370496)*2^(b/4503599627370496-1):=zjn qc (zif _)
   have h5:(2*4503599627370496)*2^(a/4503599627370496-1)=4503599627370496*2^(a/4503599627370496):=by
    rw[<-h2];generalize 2^(a/4503599627370496-1)=z;omega
   have h6:=zjn (zif 4503599627370496) h3
   omega
theorem Ve{a b:Nat}(h:jW a=jW b):a=b:=by
 rcases zmm a b with h'|h'|h'
 ·have:=XU h';omega
 ·exact h'
 ·have:=XU h';omega
theorem qee:jW 0=0:=rfl
theorem xV(a b:Int):compare a b=if a<b then .lt else if a=b then .eq else .gt:=rfl
theorem qqs(a b:Int){c:Int}(hc:0<c):compare a b=compare (a*c) (b*c):=by
 rw[xV,xV]
 have h1:a*c<b*c↔a<b:=Int.mul_lt_mul_right hc
 have h2:a*c=b*c↔a=b:=⟨fun h=>Int.eq_of_mul_eq_mul_right qc h,fun h=>by rw[h]⟩
 simp only[h1,h2]
theorem Jo{x:Nat}(h:x%9223372036854775808<9218868437227405312):∃(m i:Nat),double.read x= .number (x/9223372036854775808%2==1) m (-1074+i)/\m*2^i=jW (x%9223372036854775808):=by
 have e1:double.signWeight=9223372036854775808:=qf
 have e2:double.binade=4503599627370496:=qf
 have e3:double.infRung=9218868437227405312:=qf
 have e4:double.leastPlace=-1074:=qf
 unfold Format.read
 simp only[e1,e2,e3,e4]
 unfold jW
 by_cases hb:x%9223372036854775808<4503599627370496
 ·rw[if_pos hb,if_pos hb]
  exact⟨_,0,rfl,qe⟩
 ·rw[if_neg hb,if_neg hb,if_pos h]
  exact⟨_,_,rfl,rfl⟩
theorem Jn{x:Nat}(h:x%9223372036854775808=9218868437227405312):double.read x= .infinity (x/9223372036854775808%2==1):=by
 have e1:double.signWeight=9223372036854775808:=qf
 have e2:double.binade=4503599627370496:=qf
 have e3:double.infRung=9218868437227405312:=qf
 unfold Format.read
 simp only[e1,e2,e3]
 rw[if_neg qc,if_neg qc,if_pos h]
theorem qgq{x:Nat}(h:yp x):∃s t,double.read x= .nan s t:=by
 unfold yp at h
 have e1:double.signWeight=9223372036854775808:=qf
 have e2:double.binade=4503599627370496:=qf
 have e3:double.infRung=9218868437227405312:=qf
 unfold Format.read
 simp only[e1,e2,e3]
 rw[if_neg qc,if_neg qc,if_neg qc]
 exact⟨_,_,rfl⟩
theorem Qi{x y:Nat}(h:yp x):double.order x y=none:=by
 obtain⟨s,t,e⟩:=qgq h
 unfold Format.order
 rw[e]
 rfl
theorem Qh{x y:Nat}(h:yp y):double.order x y=none:=by
 obtain⟨s,t,e⟩:=qgq h
 unfold Format.order
 rw[e]
 cases double.read x<;>rfl
def sg(s:Bool)(m:Int):Int:=if s then -m else m
theorem zez(s t:Bool)(a b:Nat):compare (sg s (jW a)) (sg t (jW b))=compare (sg s (a:Int)) (sg t (b:Int)):=by
 have h1:jW a<jW b↔a<b:=by
  constructor
  ·intro h
   rcases zmm a b with h'|h'|h'
   ·exact h'
   ·subst h';omega
   ·have:=XU h';omega
  ·exact XU
 have h2:jW a=jW b↔a=b:=⟨Ve,fun h=>by rw[h]⟩
 have h3:jW a=0↔a=0:=⟨fun h=>Ve (b:=0) (by rw[h,qee]),fun h=>by rw[h,qee]⟩
 have h4:jW b=0↔b=0:=⟨fun h=>Ve (b:=0) (by rw[h,qee]),fun h=>by rw[h,qee]⟩
 rw[xV,xV]
 cases s<;>cases t<;>simp only[sg,if_true,if_false,zjl]
 ·have c1:((jW a:Nat):Int)<(jW b:Nat)↔(a:Int)<b:=qc
  have c2:((jW a:Nat):Int)=(jW b:Nat)↔(a:Int)=b:=qc
  simp only[c1,c2]
 ·have c1:((jW a:Nat):Int)< -(jW b:Nat)↔(a:Int)< -(b:Int):=qc
  have c2:((jW a:Nat):Int)=-(jW b:Nat)↔(a:Int)=-(b:Int):=qc
  simp only[c1,c2]
 ·have c1:-((jW a:Nat):Int)<(jW b:Nat)↔-(a:Int)<(b:Int):=qc
  have c2:-((jW a:Nat):Int)=(jW b:Nat)↔-(a:Int)=(b:Int):=qc
  simp only[c1,c2]
 ·have c1:-((jW a:Nat):Int)< -(jW b:Nat)↔-(a:Int)< -(b:Int):=qc
  have c2:-((jW a:Nat):Int)=-(jW b:Nat)↔-(a:Int)=-(b:Int):=qc
  simp only[c1,c2]
theorem vj(x:Nat):zI x=sg (x/9223372036854775808%2==1) ((x%9223372036854775808:Nat):Int):=by
 unfold zI sg
 by_cases h:x/9223372036854775808%2=1<;>simp[h]
theorem qab(s:Bool)(m k:Nat):Ieee.signed s m k=sg s ((m*2^k:Nat):Int):=by
 unfold Ieee.signed sg
 rw[Nat.shiftLeft_eq]
 try (cases s<;>rfl)
theorem qpn{x y:Nat}(hx:x%9223372036854775808<9218868437227405312)(hy:y%9223372036854775808<9218868437227405312):double.order x y=some (compare (zI x) (zI y)):=by
 obtain⟨m,i,e1,e2⟩:=Jo hx
 obtain⟨n,j,f1,f2⟩:=Jo hy
 unfold Format.order
 rw[e1,f1]
 simp only[Datum.order]
 rw[vj,vj,<-zez,<-e2,<-f2,qab,qab]
 congr 1
 have hc:(0:Int)<((2^(min i j):Nat):Int):=by have:=zk3 (min i j);omega
 rw[qqs _ _ hc]
 have p1:(-1074+(i:Int)-min (-1074+(i:Int)) (-1074+(j:Int))).toNat+min i j=i:=qc
 have p2:(-1074+(j:Int)-min (-1074+(i:Int)) (-1074+(j:Int))).toNat+min i j=j:=qc
 have q:∀(s:Bool) (m k c:Nat),sg s ((m*2^k:Nat):Int)*((2^c:Nat):Int)=sg s ((m*2^(k+c):Nat):Int):=by
  intro s m k c
  rw[zk7,<-Nat.mul_assoc]
  cases s
  ·simp only[sg,zjl,if_false];rw[<-Int.natCast_mul]
  ·simp only[sg,if_true];rw[Int.neg_mul,<-Int.natCast_mul]
 rw[q,q,p1,p2]
theorem Yt{x y:Nat}(hx:¬yp x)(hy:¬yp y):double.order x y=some (compare (zI x) (zI y)):=by
 unfold yp at hx hy
 by_cases ix:x%9223372036854775808=9218868437227405312
 ·by_cases iy:y%9223372036854775808=9218868437227405312
  ·unfold Format.order
   rw[Jn ix,Jn iy]
   simp only[Datum.order]
   rw[vj,vj,ix,iy]
   cases(x/9223372036854775808%2==1)<;>cases(y/9223372036854775808%2==1)<;>decide
  ·obtain⟨n,j,f1,f2⟩:=Jo (x:=y) qc
   unfold Format.order
   rw[Jn ix,f1]
   simp only[Datum.order]
   rw[vj,vj,ix,xV]
   generalize y%9223372036854775808=r at*
   cases(x/9223372036854775808%2==1)<;>cases(y/9223372036854775808%2==1)<;>simp only[sg,if_true,if_false,zjl]
   ·rw[if_neg qc,if_neg qc]
   ·rw[if_neg qc,if_neg qc]
   ·rw[if_pos qc]
   ·rw[if_pos qc]
 ·by_cases iy:y%9223372036854775808=9218868437227405312
  ·obtain⟨n,j,f1,f2⟩:=Jo (x:=x) qc
   unfold Format.order
   rw[Jn iy,f1]
   simp only[Datum.order]
   rw[vj,vj,iy,xV]
   generalize x%9223372036854775808=r at*
   cases(x/9223372036854775808%2==1)<;>cases(y/9223372036854775808%2==1)<;>simp only[sg,if_true,if_false,zjl]
   ·rw[if_pos qc]
   ·rw[if_neg qc,if_neg qc]
   ·rw[if_pos qc]
   ·rw[if_neg qc,if_neg qc]
  ·exact qpn qc qc
theorem zeq(x y:Nat):(double.order x y==some .eq)=decide (¬yp x/\¬yp y/\zI x=zI y):=by
 by_cases hx:yp x
 ·rw[Qi hx];simp[hx]
 ·by_cases hy:yp y
  ·rw[Qh hy];simp[hy]
  ·rw[Yt hx hy,xV]
   rcases zmn (zI x) (zI y)with h|h|h
   ·have:¬(zI x=zI y):=qc
    simp[hx,hy,h,this]
   ·have:¬(zI x<zI y):=qc
    simp[hx,hy,h]
   ·have h1:¬(zI x<zI y):=qc
    have h2:¬(zI x=zI y):=qc
    simp[hx,hy,h1,h2]
theorem f_lt(x y:Nat):(double.order x y==some .lt)=decide (¬yp x/\¬yp y/\zI x<zI y):=by
 by_cases hx:yp x
 ·rw[Qi hx];simp[hx]
 ·by_cases hy:yp y
  ·rw[Qh hy];simp[hy]
  ·rw[Yt hx hy,xV]
   rcases zmn (zI x) (zI y)with h|h|h
   ·simp[hx,hy,h]
   ·have:¬(zI x<zI y):=qc
    simp[hx,hy,h]
   ·have h1:¬(zI x<zI y):=qc
    have h2:¬(zI x=zI y):=qc
    simp[hx,hy,h1,h2]
theorem f_gt(x y:Nat):(double.order x y==some .gt)=decide (¬yp x/\¬yp y/\zI y<zI x):=by
 by_cases hx:yp x
 ·rw[Qi hx];simp[hx]
 ·by_cases hy:yp y
  ·rw[Qh hy];simp[hy]
  ·rw[Yt hx hy,xV]
   rcases zmn (zI x) (zI y)with h|h|h
   ·have h1:¬(zI y<zI x):=qc
    simp[hx,hy,h,h1]
   ·have:¬(zI y<zI x):=qc
    simp[hx,hy,h]
   ·have h1:¬(zI x<zI y):=qc
    have h2:¬(zI x=zI y):=qc
    simp[hx,hy,h1,h2,h]
end Go.Proofs.YtoliekekdmfngaaGreat.AI
namespace Go.Proofs.YtoliekekdmfngaaGreat.AI
open Go
set_option linter.unusedVariables false
set_option linter.unusedSimpArgs false
set_option maxRecDepth 100000
set_option maxHeartbeats 0
theorem qqw(n:Nat)(h:n<9223372036854775808):(BitVec.ofInt 64 (n:Int)|||BitVec.ofInt 64 9223372036854775808).toNat=n+9223372036854775808:=by
 rw[zl9,zji,zji]
 have e1:(((n:Int)%((2^64:Nat):Int)).toNat)=n:=qc
 have e2:(((9223372036854775808:Int)%((2^64:Nat):Int)).toNat)=2^63*1:=qf
 rw[e1,e2,Nat.or_comm,<-Nat.two_pow_add_eq_or_of_lt (by simpa using h)]
 omega
theorem WO(n:Nat)(h:n<9223372036854775808):(BitVec.ofInt 64 (n:Int)&&&BitVec.ofInt 64 9223372036854775808).toNat=0:=by
 rw[zl3,zji,zji]
 have e1:(((n:Int)%((2^64:Nat):Int)).toNat)=n:=qc
 have e2:(((9223372036854775808:Int)%((2^64:Nat):Int)).toNat)=2^63:=qf
 rw[e1,e2]
 apply zj5
 intro i
 rw[Nat.testBit_and,zjq,Nat.zero_testBit]
 by_cases hi:63=i
 ·subst hi
  rw[zlh (by simpa using h)]
  rfl
 ·simp[hi]
theorem WP(n:Nat)(h:9223372036854775808<=n)(h':n<18446744073709551616):(BitVec.ofInt 64 (n:Int)&&&BitVec.ofInt 64 9223372036854775808).toNat=9223372036854775808:=by
 rw[zl3,zji,zji]
 have e1:(((n:Int)%((2^64:Nat):Int)).toNat)=n:=qc
 have e2:(((9223372036854775808:Int)%((2^64:Nat):Int)).toNat)=2^63:=qf
 have e3:(9223372036854775808:Nat)=2^63:=qf
 rw[e1,e2]
 conv=>rhs;rw[e3]
 obtain⟨m,rfl⟩:∃m,n=2^63*1+m:=⟨n-2^63,qc⟩
 rw[zkn qc]
 apply zj5
 intro i
 rw[Nat.testBit_and,zki,zi7,zjq]
 by_cases hi:63=i
 ·subst hi;simp
 ·simp[hi]
theorem qet(n:Nat)(h':n<18446744073709551616):(BitVec.ofInt 64 (n:Int)&&&~~~(BitVec.ofInt 64 9223372036854775808)).toNat=n%9223372036854775808:=by
 have e2:(~~~(BitVec.ofInt 64 9223372036854775808)).toNat=2^63-1:=qf
 rw[zl3,zji,e2,Nat.and_two_pow_sub_one_eq_mod]
 have e1:(((n:Int)%((2^64:Nat):Int)).toNat)=n:=qc
 rw[e1]
def kw(w:Nat):Nat:=if yp w then 18444492273895866369 else if w<9223372036854775808 then w+9223372036854775808 else 18446744073709551615-w
def wk(k:Nat):Nat:=if k<9223372036854775808 then 18446744073709551615-k else k-9223372036854775808
def qzv(k:Nat):Bool:=decide (kw (wk k)=k)
theorem wU(w:Nat)(h:w<18446744073709551616):kw w<18446744073709551616:=by
 unfold kw;repeat' split
 all_goals omega
theorem qsm(k:Nat)(h:k<18446744073709551616):wk k<18446744073709551616:=by
 unfold wk;split<;>omega
theorem zgc{w:Nat}(h:w<18446744073709551616)(hn:¬yp w):wk (kw w)=w:=by
 unfold kw
 rw[if_neg hn]
 unfold wk
 repeat' split
 all_goals omega
theorem qvi(w:Nat)(h:w<18446744073709551616):kw (wk (kw w))=kw w:=by
 by_cases hn:yp w
 ·unfold kw
  rw[if_pos hn]
  decide
 ·rw[zgc h hn]
def vg(w:Nat):Int:=if yp w then 6 else if w=9218868437227405312 then 5 else if w=18442240474082181120 then 0 else if w=9223372036854775808 then 2 else if w=0 then 3 else if w<9223372036854775808 then 4 else 1
def Xj(a b:Nat):Bool:=decide (¬yp a/\¬yp b/\zI a<zI b)
end Go.Proofs.YtoliekekdmfngaaGreat.AI
namespace Go.Proofs.YtoliekekdmfngaaGreat.AI
set_option linter.unusedVariables false
set_option linter.unusedSimpArgs false
def Bl(x n:Nat):Prop:=x<2^n/\(n=0\/2^(n-1)<=x)
theorem Bl.up{x k n:Nat}(h:Bl (x/2^k) n)(hx:2^k<=x):Bl x (n+k):=by
 obtain⟨h1,h2⟩:=h
 have hp:=zk3 k
 have hn:n≠0:=by
  intro e
  subst e
  have:1<=x/2^k:=(Nat.one_le_div_iff hp).mpr hx
  simp at h1
  omega
 refine⟨?_,.inr ?_⟩
 ·rw[zk7]
  exact(Nat.div_lt_iff_lt_mul hp).mp h1
 ·have h3:=h2.resolve_left hn
  rw[show n+k-1=(n-1)+k by omega,zk7]
  exact(Nat.le_div_iff_mul_le hp).mp h3
end Go.Proofs.YtoliekekdmfngaaGreat.AI
namespace Go.Proofs.YtoliekekdmfngaaGreat.AI
set_option linter.unusedVariables false
set_option linter.unusedSimpArgs false
def uv(n:Nat):List Int:=if h:n<128 then [(n:Int)]else((n%128+128:Nat):Int)::uv (n/128)
termination_by n
decreasing_by omega
theorem Kl{n:Nat}(h:n<128):uv n=[(n:Int)]:=by rw[uv];simp[h]
theorem WX{n:Nat}(h:¬(n<128)):uv n=((n%128+128:Nat):Int)::uv (n/128):=by rw[uv];simp[h]
theorem zgd(n:Nat):uv n≠[]:=by
 by_cases h:n<128
 ·rw[Kl h];simp
 ·rw[WX h];simp
theorem zbr:∀(n:Nat) (x:Int),x∈uv n->0<=x/\x<256:=by
 intro n
 induction n using Nat.strongRecOn with
 |_ n ih=>
  intro x hx
  by_cases h:n<128
  ·rw[Kl h]at hx;simp at hx;omega
  ·rw[WX h]at hx
   rcases zie.mp hx with rfl|hx
   ·omega
   ·exact ih (n/128) qc x hx
theorem zch:∀(k n:Nat),n<128^(k+1)->(uv n).length<=k+1:=by
 intro k
 induction k with
 |zero=>intro n h;rw[Kl qc];simp
 |succ k ih=>
  intro n h
  by_cases h1:n<128
  ·rw[Kl h1];simp
  ·rw[WX h1]
   have:n/128<128^(k+1):=Nat.div_lt_of_lt_mul (by rw[zj3]at h;omega)
   have:=ih _ this
   simp only[zid];omega
theorem qu{n:Nat}(h:n<18446744073709551616):(uv n).length<=10:=zch 9 n (zi8 h qf)
def gU:List Int->Nat->Nat->Nat->Nat×Nat×Int
 |[],_,_,u=>(0,u,3)
 |c::r,s,n,u=>
  if(s=63/\1<c)\/(0<s/\c=0)then(0,u+1,4)
  else if c<128 then(n+c.toNat*2^s,u+1,0)
  else gU r (s+7) (n+(c.toNat-128)*2^s) (u+1)
theorem zg9:∀(k m:Nat) (rest:List Int) (s n u:Nat),s=7*k->k<=9->m*2^s<18446744073709551616->(0<s->m≠0)->
 gU (uv m++rest) s n u=(n+m*2^s,u+(uv m).length,0):=by
 intro k m
 induction m using Nat.strongRecOn generalizing k with
 |_ m ih=>
  intro rest s n u hs hk hm hz
  have h63:s=63->m<2:=by
   intro e;rw[e]at hm
   have:(2:Nat)^63=9223372036854775808:=rfl
   rw[this]at hm;omega
  by_cases h:m<128
  ·rw[Kl h]
   simp only[zj0,zi5]
   unfold gU
   rw[if_neg (by
    rintro(⟨h1,h2⟩|⟨h1,h2⟩)
    ·have:=h63 h1;omega
    ·have:=hz h1;omega),if_pos qc]
   simp
  ·rw[WX h]
   have hk9:k<9:=by
    rcases zk9 k 9 with h1|h1
    ·exact h1
    ·have:=h63 qc;omega
   simp only[zj0]
   unfold gU
   rw[if_neg (by
    rintro(⟨h1,h2⟩|⟨h1,h2⟩)
    ·omega
    ·omega),if_neg qc]
   have yu:2^(s+7)=128*2^s:=by rw[zk7];omega
   have hle:m/128*2^(s+7)<=m*2^s:=by
    rw[yu,<-Nat.mul_assoc]
    exact ziq _ qc
   rw[ih (m/128) qc (k+1) rest (s+7) _ _ qc qc qc (by intro _;omega)]
   have e1:(((m%128+128:Nat):Int).toNat-128)=m%128:=qc
   rw[e1,yu]
   have e2:n+m%128*2^s+m/128*(128*2^s)=n+m*2^s:=by
    have:m/128*(128*2^s)=(128*(m/128))*2^s:=by rw[zi3 128 (m/128),zj1]
    rw[this,zkq,<-Nat.add_mul]
    have:m%128+128*(m/128)=m:=qc
    rw[this]
   rw[e2]
   simp only[zid]
   have e3:u+1+(uv (m/128)).length=u+((uv (m/128)).length+1):=qc
   rw[e3]
def zz(n:Int):Nat:=if n<0 then((-(n+1))*2+1).toNat else(n*2).toNat
theorem zbm{n:Int}(h1:-9223372036854775808<=n)(h2:n<9223372036854775808):zz n<18446744073709551616:=by
 unfold zz;split<;>omega
end Go.Proofs.YtoliekekdmfngaaGreat.AI
namespace Go.Proofs.YtoliekekdmfngaaGreat.AI
open Go
set_option linter.unusedVariables false
set_option linter.unusedSimpArgs false
set_option maxRecDepth 100000
set_option maxHeartbeats 0
def nz(l:List Nat):List Int:=l.map fun(n:Nat)=>(n:Int)
@[simp] theorem qkr(l:List Nat):(nz l).length=l.length:=by simp[nz]
def Vn(p:Nat):List Nat->List Nat
 |[]=>[]
 |x::r=>(x-p-1)::Vn x r
def qK:List Nat->List Nat
 |[]=>[]
 |x::r=>x::Vn x r
def jp:List Nat->Prop
 |[]=>True
 |[_]=>True
 |x::y::r=>x<y/\jp (y::r)
def wW(k:Nat):List Nat->Nat->Nat×Bool
 |[],n=>(n,true)
 |g::r,n=>if 4096<g/2^k then(0,false)else wW k r (n+(g/2^k+1+k))
def qd0(gs:List Nat):Nat->Nat->Nat->Int->Nat
 |0,_,b,_=>b
 |f+1,k,b,m=>if(wW k gs 0).2=true/\(m<0\/((wW k gs 0).1:Int)<m)then qd0 gs f (k+1) k (wW k gs 0).1 else qd0 gs f (k+1) b m
def xG(gs:List Nat):Nat:=qd0 gs 64 0 63 (-1)
def yz(k:Nat):List Nat->List Bool
 |[]=>[]
 |g::r=>una (g/2^k)++Xu g k++yz k r
def qdw(gs:List Nat):List Bool:=yz (xG gs) gs
def KO(l:List Nat):List Int:=uv l.length++[(xG (qK l):Int)]++uv (pk (qdw (qK l))).length++pk (qdw (qK l))
@[simp] theorem zft (p : Nat) (l : List Nat) : (Vn p l).length = l.length := by
 induction l generalizing p with
 |nil=>rfl
 |cons x r ih=>simp[Vn,ih]
@[simp] theorem Qq(l:List Nat):(qK l).length=l.length:=by cases l<;>simp[qK]
theorem qv3(l:List Nat)(p B:Nat)(h:∀x∈l,x<B):∀g∈Vn p l,g<B:=by
 induction l generalizing p with
 |nil=>intro g hg;cases hg
 |cons x r ih=>
  intro g hg
  rcases zie.mp hg with e|e
  ·have:=h x qe;omega
  ·exact ih x (fun y hy=>h y (by simp[hy])) g e
theorem JA{l:List Nat}{B:Nat}(h:∀x∈l,x<B):∀g∈qK l,g<B:=by
 cases l with
 |nil=>intro g hg;cases hg
 |cons x r=>
  intro g hg
  rcases zie.mp hg with e|e
  ·rw[e];exact h x qe
  ·exact qv3 r x B (fun y hy=>h y (by simp[hy])) g e
theorem qqd:∀(l:List Nat) (p i:Nat),i<l.length->(Vn p l)[i]?=some (l.getD i 0-(p::l).getD i 0-1):=by
 intro l
 induction l with
 |nil=>intro p i h;cases h
 |cons x r ih=>
  intro p i h
  cases i with
  |zero=>rfl
  |succ i=>
   have:=ih x i (by simpa using h)
   simpa[Vn]using this
theorem qv2(l:List Nat)(i:Nat)(h:i<l.length):(qK l)[i]?=some (if i=0 then l.getD 0 0 else l.getD i 0-l.getD (i-1) 0-1):=by
 cases l with
 |nil=>cases h
 |cons x r=>
  cases i with
  |zero=>rfl
  |succ i=>
   have:=qqd r x i (by simpa using h)
   simpa[qK]using this
theorem qke:∀(l:List Nat),jp l->∀i,i+1<l.length->l.getD i 0<l.getD (i+1) 0:=by
 intro l
 induction l with
 |nil=>intro _ i h;simp at h
 |cons x r ih=>
  intro hr i h
  cases r with
  |nil=>simp at h
  |cons y r=>
   cases i with
   |zero=>exact hr.1
   |succ i=>exact ih hr.2 i (by simpa using h)
theorem qwl(k:Nat):∀(gs:List Nat) (n:Nat),(wW k gs n).2=true->∀g∈gs,g/2^k<=4096:=by
 intro gs
 induction gs with
 |nil=>intro n _ g hg;cases hg
 |cons x r ih=>
  intro n h g hg
  unfold wW at h
  split at h
  ·cases h
  ·rcases zie.mp hg with e|e
   ·subst e;omega
   ·exact ih _ h g e
theorem qzi(gs:List Nat):∀(f k b:Nat) (m:Int),k+f=64->b<=63->(∀g∈gs,g/2^b<=4096)->qd0 gs f k b m<=63/\∀g∈gs,g/2^(qd0 gs f k b m)<=4096:=by
 intro f
 induction f with
 |zero=>intro k b m _ h1 h2;exact⟨h1,h2⟩
 |succ f ih=>
  intro k b m hk h1 h2
  unfold qd0
  split
  ·rename_i h
   exact ih (k+1) k _ qc qc (qwl k gs 0 h.1)
  ·exact ih (k+1) b m qc h1 h2
theorem XP{gs:List Nat}(h:∀g∈gs,g<18446744073709551616):xG gs<=63/\∀g∈gs,g/2^xG gs<=4096:=by
 refine qzi gs 64 0 63 (-1) rfl (zif _) (fun g hg=>?_)
 have:=h g hg
 have e:(2:Nat)^63=9223372036854775808:=qf
 rw[e]
 omega
theorem Yq(k:Nat)(hk:k<=63):∀(gs:List Nat),(∀g∈gs,g/2^k<=4096)->(yz k gs).length<=gs.length*4160:=by
 intro gs
 induction gs with
 |nil=>intro _;exact ziv _
 |cons x r ih=>
  intro h
  have h1:=ih (fun g hg=>h g (by simp[hg]))
  have h2:=h x qe
  simp[yz]
  omega
theorem zbz(l:List Bool)(i:Nat):VM (pk l) i=l.getD i false:=by
 by_cases h:i<l.length
 ·exact qij l i h
 ·rw[qex l i qc,zia,zjd qc]
  rfl
def Ss(l m:List Bool):Prop:=∀i,l.getD i false=m.getD i false
theorem Ss.pk{l m:List Bool}(h:pk l=pk m):Ss l m:=fun i=>by rw[<-zbz,<-zbz,h]
theorem Ss.tail{a b:Bool}{l m:List Bool}(h:Ss (a::l) (b::m)):a=b/\Ss l m:=⟨h 0,fun i=>h (i+1)⟩
theorem Ss.una:∀(q q':Nat) (l m:List Bool),Ss (una q++l) (una q'++m)->q=q'/\Ss l m:=by
 intro q
 induction q with
 |zero=>
  intro q' l m h
  cases q' with
  |zero=>exact⟨rfl,(Ss.tail h).2⟩
  |succ q'=>exact absurd (Ss.tail h).1 qf
 |succ q ih=>
  intro q' l m h
  cases q' with
  |zero=>exact absurd (Ss.tail h).1 qf
  |succ q'=>
   have:=ih q' l m (Ss.tail h).2
   exact⟨qc,this.2⟩
theorem Ss.app:∀(a b l m:List Bool),a.length=b.length->Ss (a++l) (b++m)->a=b/\Ss l m:=by
 intro a
 induction a with
 |nil=>
  intro b l m e h
  cases b with
  |nil=>exact⟨rfl,h⟩
  |cons y s=>cases e
 |cons x r ih=>
  intro b l m e h
  cases b with
  |nil=>cases e
  |cons y s=>
   have t:=Ss.tail h
   have i:=ih s l m (by simpa using e) t.2
   exact⟨by rw[t.1,i.1],i.2⟩
def see(cs:List Nat)(x:Nat):List Nat:=if(cs.set x (cs.getD x 0+24)).sum<=4096 then cs.set x (cs.getD x 0+24)else(cs.set x (cs.getD x 0+24)).map fun n=>(n+1)/2
def okM(cs:List Nat):Prop:=cs.length=64/\cs.sum<=4096/\∀n∈cs,1<=n
theorem qmn:∀(cs:List Nat) (x v:Nat),x<cs.length->(cs.set x v).sum+cs.getD x 0=cs.sum+v:=by
 intro cs
 induction cs with
 |nil=>intro x v h;cases h
 |cons c r ih=>
  intro x v h
  cases x with
  |zero=>simp;omega
  |succ x=>
   have:=ih x v (by simpa using h)
   simp only[List.set_cons_succ,zmj,List.getD_cons_succ]
   omega
theorem qsz:∀(cs:List Nat),2*(cs.map fun n=>(n+1)/2).sum<=cs.sum+cs.length:=by
 intro cs
 induction cs with
 |nil=>exact zif _
 |cons c r ih=>simp only[zjc,zmj,zid];omega
theorem qjv{cs:List Nat}{x:Nat}(h:okM cs)(hx:x<64):okM (see cs x):=by
 obtain⟨h1,h2,h3⟩:=h
 have hs:=qmn cs x (cs.getD x 0+24) qc
 have hpos:∀n∈cs.set x (cs.getD x 0+24),1<=n:=by
  intro n hn
  rcases zka hn with e|e
  ·exact h3 n e
  ·omega
 unfold see
 split
 ·rename_i hle
  exact⟨by simp[h1],hle,hpos⟩
 ·have hh:=qsz (cs.set x (cs.getD x 0+24))
  rw[List.length_set,h1]at hh
  refine⟨by simp[h1],qc,fun n hn=>?_⟩
  obtain⟨m,hm,rfl⟩:=ziu.mp hn
  have:=hpos m hm
  omega
theorem jc:∀(cs:List Nat) (x:Nat),x<cs.length->(cs.take (x+1)).sum=(cs.take x).sum+cs.getD x 0:=by
 intro cs
 induction cs with
 |nil=>intro x h;cases h
 |cons c r ih=>
  intro x h
  cases x with
  |zero=>simp
  |succ x=>
   have:=ih x (by simpa using h)
   simp only[zim,zmj,List.getD_cons_succ]
   omega
theorem qff:∀(cs:List Nat) (x y:Nat),x<=y->(cs.take x).sum<=(cs.take y).sum:=by
 intro cs
 induction cs with
 |nil=>intro x y _;simp
 |cons c r ih=>
  intro x y h
  cases x with
  |zero=>simp
  |succ x=>
   cases y with
   |zero=>omega
   |succ y=>
    have:=ih x y qc
    simp only[zim,zmj]
    omega
theorem jo(cs:List Nat)(x:Nat):(cs.take x).sum<=cs.sum:=by
 by_cases h:x<=cs.length
 ·have:=qff cs x cs.length h
  rwa [zlc]at this
 ·rw[zix qc];exact zif _
structure En where
 low:Nat
 width:Nat
 held:Nat
 last:Nat
 begun:Bool
 out:List Int
def sh(s:En):En:=
 if s.low<4278190080\/4294967296<=s.low then
  ⟨s.low%16777216*256,s.width,0,s.low/16777216%256,true,s.out++(if s.begun then [(((s.last+s.low/4294967296%256)%256:Nat):Int)]else [])++List.replicate s.held (((255+s.low/4294967296%256)%256:Nat):Int)⟩
 else⟨s.low%16777216*256,s.width,s.held+1,s.last,s.begun,s.out⟩
def wid(s:En)(w:Nat):En:=⟨s.low,w,s.held,s.last,s.begun,s.out⟩
def jI:Nat->En->En
 |0,s=>s
 |f+1,s=>if s.width<16777216 then jI f (sh (wid s (s.width*256)))else s
def Xc(s:En)(cs:List Nat)(x:Nat):En:=⟨s.low+s.width/cs.sum*(cs.take x).sum,s.width/cs.sum*cs.getD x 0,s.held,s.last,s.begun,s.out⟩
def enc:List Nat->En->List Nat->En
 |_,s,[]=>s
 |cs,s,x::r=>enc (see cs x) (jI 4 (Xc s cs x)) r
def en0:En:=⟨0,4294967295,0,0,false,[]⟩
def cs0:List Nat:=List.replicate 64 1
def cod(l:List Nat):List Int:=(sh (sh (sh (sh (sh (enc cs0 en0 l)))))).out
def zr(l:List Int):Nat:=l.foldl (fun a b=>a*256+b.toNat) 0
theorem jK(l:List Int)(b:Int):zr (l++[b])=zr l*256+b.toNat:=by simp[zr,List.foldl_append]
theorem qlr(l:List Int):∀h,zr (l++List.replicate h 0)=zr l*256^h:=by
 intro h
 induction h with
 |zero=>simp
 |succ h ih=>
  rw[zku,<-List.append_assoc,jK,ih,zj3,zj1]
  simp
theorem qqy(l:List Int):∀h,zr (l++List.replicate h 255)+1=(zr l+1)*256^h:=by
 intro h
 induction h with
 |zero=>simp
 |succ h ih=>
  rw[zku,<-List.append_assoc,jK,zj3,<-Nat.mul_assoc,<-ih]
  have e:(255:Int).toNat=255:=rfl
  rw[e]
  omega
def bl(s:En):List Int:=s.out++(if s.begun then [(s.last:Int)]else [])++List.replicate s.held 255
def eV(s:En):Nat:=zr (bl s)*4294967296+s.low
def eK(s:En):Nat:=s.out.length+s.begun.toNat+s.held
theorem qwu(s:En):(bl s).length=eK s:=by
 unfold bl eK
 cases s.begun<;>simp<;>omega
def okE(s:En)(w:Nat):Prop:=s.low+w<=8589934592/\s.last<256/\0<w/\((s.begun=false\/s.last=255)->s.low+w<=4294967296)
theorem qd9{s:En}{w v:Nat}(h:okE s w)(h1:v<=w)(h2:0<v):okE s v:=
 ⟨by have:=h.1;omega,h.2.1,h2,fun q=>by have:=h.2.2.2 q;omega⟩
theorem qac(s:En)(w:Nat)(h:okE s w)(hw:w<=16777216):okE (sh s) (w*256)/\eV (sh s)=eV s*256/\eK (sh s)=eK s+1/\(sh s).width=s.width:=by
 obtain⟨h1,h2,h3,h4⟩:=h
 by_cases hA:s.low<4278190080
 ·have e:sh s=⟨s.low%16777216*256,s.width,0,s.low/16777216%256,true,bl s⟩:=by
   unfold sh
   rw[if_pos (.inl hA)]
   have c0:s.low/4294967296%256=0:=qc
   have c1:(s.last+0)%256=s.last:=qc
   unfold bl
   rw[c0,c1]
   rfl
  rw[e]
  refine⟨⟨by show s.low%16777216*256+w*256<=_;omega,by show s.low/16777216%256<_;omega,qc,fun q=>?_⟩,?_,?_,rfl⟩
  ·rcases q with q|q
   ·cases q
   ·have q:s.low/16777216%256=255:=q
    omega
  ·show zr (bl s++[((s.low/16777216%256:Nat):Int)]++[])*4294967296+s.low%16777216*256=(zr (bl s)*4294967296+s.low)*256
   rw[zi4,jK,zik]
   omega
  ·show(bl s).length+1+0=eK s+1
   rw[qwu]
 ·by_cases hB:4294967296<=s.low
  ·have hb:s.begun=true:=by
    cases hq:s.begun
    ·have:=h4 (.inl hq);omega
    ·rfl
   have hl:s.last<=254:=by
    by_cases q:s.last=255
    ·have:=h4 (.inr q);omega
    ·omega
   have e:sh s=⟨s.low%16777216*256,s.width,0,s.low/16777216%256,true,s.out++[((s.last+1:Nat):Int)]++List.replicate s.held 0⟩:=by
    unfold sh
    rw[if_pos (.inr hB),hb,if_pos rfl]
    have c0:s.low/4294967296%256=1:=qc
    have c1:(s.last+1)%256=s.last+1:=qc
    rw[c0,c1]
    rfl
   have eb:bl s=s.out++[(s.last:Int)]++List.replicate s.held 255:=by unfold bl;rw[hb,if_pos rfl]
   have n1:zr (s.out++[((s.last+1:Nat):Int)]++List.replicate s.held 0)=zr (bl s)+1:=by
    have f:=qqy (s.out++[(s.last:Int)]) s.held
    rw[eb,f,qlr,jK,jK,zik,zik,zkq]
   rw[e]
   refine⟨⟨by show s.low%16777216*256+w*256<=_;omega,by show s.low/16777216%256<_;omega,qc,fun q=>?_⟩,?_,?_,rfl⟩
   ·rcases q with q|q
    ·cases q
    ·have q:s.low/16777216%256=255:=q
     show s.low%16777216*256+w*256<=_
     omega
   ·show zr (s.out++[((s.last+1:Nat):Int)]++List.replicate s.held 0++[((s.low/16777216%256:Nat):Int)]++[])*4294967296+s.low%16777216*256=(zr (bl s)*4294967296+s.low)*256
    rw[zi4,jK,zik,n1]
    omega
   ·show(s.out++[((s.last+1:Nat):Int)]++List.replicate s.held 0).length+1+0=eK s+1
    unfold eK
    rw[hb]
    simp
    omega
  ·have e:sh s=⟨s.low%16777216*256,s.width,s.held+1,s.last,s.begun,s.out⟩:=by
    unfold sh
    rw[if_neg qc]
   rw[e]
   refine⟨⟨by show s.low%16777216*256+w*256<=_;omega,h2,qc,fun q=>?_⟩,?_,?_,rfl⟩
   ·have:=h4 q
    show s.low%16777216*256+w*256<=_
    omega
   ·show zr (s.out++(if s.begun then [(s.last:Int)]else [])++List.replicate (s.held+1) 255)*4294967296+s.low%16777216*256=(zr (bl s)*4294967296+s.low)*256
    have n1:zr (s.out++(if s.begun then [(s.last:Int)]else [])++List.replicate (s.held+1) 255)=zr (bl s)*256+255:=by
     rw[zku,<-List.append_assoc,jK]
     rfl
    rw[n1]
    omega
   ·show s.out.length+s.begun.toNat+(s.held+1)=eK s+1
    unfold eK
    omega
theorem qeq(s:En)(w:Nat):eV (wid s w)=eV s/\eK (wid s w)=eK s:=⟨rfl,rfl⟩
theorem qzx:∀(f:Nat) (s:En),okE s s.width->s.width<=4294967296->4294967296<=s.width*256^f*256->∃d,eV (jI f s)=eV s*256^d/\(jI f s).width=s.width*256^d/\eK (jI f s)=eK s+d/\okE (jI f s) (jI f s).width/\
 16777216<=(jI f s).width/\(jI f s).width<=4294967296:=by
 intro f
 induction f with
 |zero=>
  intro s h hw hf
  exact⟨0,by simp[jI],by simp[jI],rfl,h,by show 16777216<=s.width;simp at hf;omega,hw⟩
 |succ f ih=>
  intro s h hw hf
  unfold jI
  by_cases hl:s.width<16777216
  ·rw[if_pos hl]
   have h':okE (wid s (s.width*256)) s.width:=h
   obtain⟨a1,a2,a3,a4⟩:=qac (wid s (s.width*256)) s.width h' qc
   have a4:(sh (wid s (s.width*256))).width=s.width*256:=a4
   have hf2:4294967296<=s.width*256*256^f*256:=by
    rw[zj3]at hf
    have e:s.width*(256^f*256)*256=s.width*256*256^f*256:=by
     rw[zj1 s.width 256,zi3 256 (256^f)]
    rwa [e]at hf
   obtain⟨d,b1,b2,b3,b4,b5,b6⟩:=ih (sh (wid s (s.width*256))) (by rw[a4];exact a1) (by rw[a4];omega) (by rw[a4];exact hf2)
   refine⟨d+1,?_,?_,?_,b4,b5,b6⟩
   ·rw[b1,a2,(qeq s _).1,zj3,zj1,zi3 256]
   ·rw[b2,a4,zj3,zj1,zi3 256]
   ·rw[b3,a3,(qeq s _).2];omega
  ·rw[if_neg hl]
   exact⟨0,qe,qe,rfl,h,qc,hw⟩
theorem ql0(s:En)(cs:List Nat)(x:Nat)(hm:okM cs)(hx:x<64)(h:okE s s.width)(hw:16777216<=s.width/\s.width<=4294967296):
 ∃d,eV (jI 4 (Xc s cs x))=(eV s+s.width/cs.sum*(cs.take x).sum)*256^d/\(jI 4 (Xc s cs x)).width=s.width/cs.sum*cs.getD x 0*256^d/\eK (jI 4 (Xc s cs x))=eK s+d/\
  okE (jI 4 (Xc s cs x)) (jI 4 (Xc s cs x)).width/\16777216<=(jI 4 (Xc s cs x)).width/\(jI 4 (Xc s cs x)).width<=4294967296/\0<s.width/cs.sum*cs.getD x 0:=by
 obtain⟨m1,m2,m3⟩:=hm
 have hn:1<=cs.getD x 0:=by
  rw[zia,zic qc]
  exact m3 _ (zi6 _)
 have ht:=jc cs x qc
 have hta:=jo cs (x+1)
 have hpart:4096<=s.width/cs.sum:=by
  rw[Nat.le_div_iff_mul_le qc]
  have:4096*cs.sum<=4096*4096:=zk0 _ m2
  omega
 have hmul:s.width/cs.sum*cs.sum<=s.width:=zmc _ _
 have hsum:s.width/cs.sum*(cs.take x).sum+s.width/cs.sum*cs.getD x 0<=s.width:=by
  rw[<-Nat.mul_add,<-ht]
  exact zjw (zk0 _ hta) hmul
 have hge:s.width/cs.sum*1<=s.width/cs.sum*cs.getD x 0:=zk0 _ hn
 obtain⟨h1,h2,h3,h4⟩:=h
 have ok:okE (Xc s cs x) (Xc s cs x).width:=by
  refine⟨?_,h2,?_,fun q=>?_⟩
  ·show s.low+s.width/cs.sum*(cs.take x).sum+s.width/cs.sum*cs.getD x 0<=_;omega
  ·show 0<s.width/cs.sum*cs.getD x 0;omega
  ·have:=h4 q
   show s.low+s.width/cs.sum*(cs.take x).sum+s.width/cs.sum*cs.getD x 0<=_;omega
 obtain⟨d,b1,b2,b3,b4,b5,b6⟩:=qzx 4 (Xc s cs x) ok (by show s.width/cs.sum*cs.getD x 0<=_;omega) (by
  show 4294967296<=s.width/cs.sum*cs.getD x 0*256^4*256
  have e:(256:Nat)^4=4294967296:=qf
  rw[e]
  omega)
 have ev:eV (Xc s cs x)=eV s+s.width/cs.sum*(cs.take x).sum:=by
  show zr (bl s)*4294967296+(s.low+_)=zr (bl s)*4294967296+s.low+_
  omega
 exact⟨d,by rw[b1,ev],b2,b3,b4,b5,b6,qc⟩
theorem zes:∀(l cs:List Nat) (s:En),okM cs->(∀x∈l,x<64)->okE s s.width->16777216<=s.width/\s.width<=4294967296->
 ∃d,eK (enc cs s l)=eK s+d/\eV s*256^d<=eV (enc cs s l)/\eV (enc cs s l)+(enc cs s l).width<=(eV s+s.width)*256^d/\okE (enc cs s l) (enc cs s l).width/\0<(enc cs s l).width:=by
 intro l
 induction l with
 |nil=>intro cs s hm hl h hw;exact⟨0,rfl,by simp[enc],by simp[enc],h,by show 0<s.width;omega⟩
 |cons x r ih=>
  intro cs s hm hl h hw
  obtain⟨d,a1,a2,a3,a4,a5,a6,a7⟩:=ql0 s cs x hm (hl x qe) h hw
  obtain⟨d2,b1,b2,b3,b4,b5⟩:=ih (see cs x) (jI 4 (Xc s cs x)) (qjv hm (hl x qe)) (fun y hy=>hl y (by simp[hy])) a4 ⟨a5,a6⟩
  have e:enc cs s (x::r)=enc (see cs x) (jI 4 (Xc s cs x)) r:=rfl
  rw[e]
  refine⟨d+d2,by rw[b1,a3];omega,?_,?_,b4,b5⟩
  ·refine zjw ?_ b2
   rw[a1,zk7,<-Nat.mul_assoc]
   exact ziq _ (ziq _ (Nat.le_add_right _ _))
  ·refine zjw b3 ?_
   rw[a1,a2,<-Nat.add_mul,zk7,<-Nat.mul_assoc]
   refine ziq _ (ziq _ ?_)
   have ht:=jc cs x (by have:=hm.1;have:=hl x qe;omega)
   have hta:=jo cs (x+1)
   have hmul:s.width/cs.sum*cs.sum<=s.width:=zmc _ _
   have hsum:s.width/cs.sum*(cs.take x).sum+s.width/cs.sum*cs.getD x 0<=s.width:=by
    rw[<-Nat.mul_add,<-ht]
    exact zjw (zk0 _ hta) hmul
   omega
theorem zdw:okM cs0:=⟨qf,qf,fun n hn=>by rw[zje hn];exact zif _⟩
theorem zdx:okE en0 en0.width:=⟨qf,qf,qf,fun _=>qf⟩
theorem qnw(l:List Nat)(hl:∀x∈l,x<64):zr (cod l)=eV (enc cs0 en0 l)/\(cod l).length=eK (enc cs0 en0 l)+4:=by
 obtain⟨d,_,_,_,h,hw⟩:=zes l cs0 en0 zdw hl zdx ⟨qf,qf⟩
 unfold cod
 generalize enc cs0 en0 l=s at*
 have s1:=qac s 1 (qd9 h hw qc) qc
 have s2:=qac (sh s) 1 (qd9 s1.1 qc qc) qc
 have s3:=qac (sh (sh s)) 1 (qd9 s2.1 qc qc) qc
 have s4:=qac (sh (sh (sh s))) 1 (qd9 s3.1 qc qc) qc
 have lw:∀s:En,(sh s).low=s.low%16777216*256:=fun s=>by unfold sh;split<;>rfl
 have z:(sh (sh (sh (sh s)))).low=0:=by rw[lw,lw,lw,lw];omega
 have e:(sh (sh (sh (sh (sh s))))).out=bl (sh (sh (sh (sh s)))):=by
  have h2:=s4.1.2.1
  generalize sh (sh (sh (sh s)))=t at*
  unfold sh
  rw[if_pos (.inl qc),z]
  have c1:(t.last+0/4294967296%256)%256=t.last:=qc
  unfold bl
  rw[c1]
  rfl
 rw[e,qwu,s4.2.2.1,s3.2.2.1,s2.2.2.1,s1.2.2.1]
 refine⟨?_,qc⟩
 have v:eV (sh (sh (sh (sh s))))=zr (bl (sh (sh (sh (sh s)))))*4294967296+0:=by rw[<-z];rfl
 rw[s4.2.1,s3.2.1,s2.2.1,s1.2.1]at v
 omega
def Jq(m:Nat):Nat->Nat
 |0=>0
 |n+1=>Jq m n+(m.testBit n).toNat
theorem zdp(m:Nat):∀n,Jq m n<=n:=by
 intro n
 induction n with
 |zero=>exact zif _
 |succ n ih=>
  show Jq m n+_<=n+1
  have:=b2n (m.testBit n)
  omega
def mkB(c:Nat):Nat->Nat
 |0=>0
 |k+1=>mkB c k*256+c
def f1(k x:Nat):Nat:=((x/2)&&&mkB 85 k)+(x&&&mkB 85 k)
def f2(k x:Nat):Nat:=((x/4)&&&mkB 51 k)+(x&&&mkB 51 k)
def f3(k x:Nat):Nat:=(x/16+x)&&&mkB 15 k
def cB(x:Nat):Nat->Nat
 |0=>0
 |k+1=>cB (x/256) k*256+Jq (x%256) 8
def yv(m:Nat):Nat->Nat
 |0=>0
 |n+1=>yv m n+(m.testBit n&&!(decide (0<n)&&m.testBit (n-1))).toNat
def XA(m:Nat):Nat->Nat->List Int
 |0,_=>[]
 |f+1,i=>if m.testBit i then(i:Int)::XA m f (i+1)else XA m f (i+1)
def xv(m:Nat):Nat->Nat->List Int
 |0,_=>[]
 |f+1,i=>((m/2^(8*i)%256:Nat):Int)::xv m f (i+1)
def yS(m:Nat):Nat->Nat->Nat
 |0,i=>i
 |f+1,i=>if m.testBit (i+1)then yS m f (i+1)else i
def Jk(m:Nat):Nat->Nat->List Int
 |0,_=>[]
 |f+1,i=>if 256<=i then []else if m.testBit i then(i:Int)::((yS m (255-i) i-i:Nat):Int)::Jk m f (yS m (255-i) i+1)else Jk m f (i+1)
def kind(m:Nat):Nat:=if Jq m 256+1<=32/\Jq m 256+1<=2*yv m 256+1 then 0 else if 32<=2*yv m 256+1 then 1 else 2
def qqx(m:Nat):List Int:=if kind m=0 then((Jq m 256-1:Nat):Int)::XA m 256 0 else if kind m=1 then xv m 32 0 else((yv m 256-1:Nat):Int)::Jk m 256 0
def wZ(c:Nat×Nat):List Int:=uv c.1++((kind c.2:Nat):Int)::qqx c.2
def Xs:List (Nat×Nat)->List Int
 |[]=>[]
 |c::r=>wZ c++Xs r
def WA(cs:List (Nat×Nat)):List Int:=uv cs.length++Xs cs
def qdz(x:Nat):List (Nat×Nat)->List (Nat×Nat)
 |[]=>[(x/256,2^(x%256))]
 |c::r=>if c.1=x/256 then(c.1,c.2|||2^(x%256))::r else(x/256,2^(x%256))::c::r
def JV:List Nat->List (Nat×Nat)
 |[]=>[]
 |x::r=>qdz x (JV r)
theorem qki(m:Nat):∀n,yv m n<=Jq m n:=by
 intro n
 induction n with
 |zero=>exact zif _
 |succ n ih=>
  show yv m n+_<=Jq m n+_
  cases m.testBit n
  ·simpa using ih
  ·have:=b2n (true&&!(decide (0<n)&&m.testBit (n-1)))
   have e:true.toNat=1:=rfl
   omega
theorem qiq(m:Nat):∀f i,(XA m f i).length+Jq m i=Jq m (i+f):=by
 intro f
 induction f with
 |zero=>intro i;simp[XA]
 |succ f ih=>
  intro i
  have h:=ih (i+1)
  have e:i+1+f=i+(f+1):=qc
  rw[e]at h
  have e2:Jq m (i+1)=Jq m i+(m.testBit i).toNat:=rfl
  rw[e2]at h
  unfold XA
  cases hb:m.testBit i
  ·rw[hb]at h;simpa using h
  ·rw[hb]at h
   have e3:true.toNat=1:=rfl
   simp only[if_true,zid]
   omega
@[simp] theorem qws (m : Nat) : ∀ f i, (xv m f i).length = f := by
 intro f
 induction f with
 |zero=>intro i;rfl
 |succ f ih=>intro i;simp[xv,ih]
theorem VH(m i j:Nat)(hj:j<8):(m/2^(8*i)%256).testBit j=m.testBit (8*i+j):=by
 have e:(256:Nat)=2^8:=rfl
 rw[e,zkk,zle]
 simp[hj,zmo]
theorem QE(m:Nat):∀f i,i<=yS m f i/\yS m f i<=i+f/\(∀j,i<j->j<=yS m f i->m.testBit j=true)/\(yS m f i<i+f->m.testBit (yS m f i+1)=false):=by
 intro f
 induction f with
 |zero=>intro i;exact⟨zif _,zif _,fun j h1 h2=>by have h2:j<=i:=h2;omega,fun h=>by have h:i<i+0:=h;omega⟩
 |succ f ih=>
  intro i
  unfold yS
  by_cases hb:m.testBit (i+1)=true
  ·rw[if_pos hb]
   obtain⟨h1,h2,h3,h4⟩:=ih (i+1)
   refine⟨qc,qc,fun j a b=>?_,fun h=>h4 qc⟩
   by_cases e:j=i+1
   ·subst e;exact hb
   ·exact h3 j qc b
  ·rw[if_neg hb]
   exact⟨zif _,qc,fun j a b=>qc,fun _=>by simpa using hb⟩
def inR(j:Nat):List Int->Prop
 |a::b::r=>(a<=(j:Int)/\(j:Int)<=a+b)\/inR j r
 |_=>False
theorem zdj(m:Nat):∀f i,256<=i+f->∀j,inR j (Jk m f i)↔(i<=j/\j<256/\m.testBit j=true):=by
 intro f
 induction f with
 |zero=>intro i h j;show False↔_;constructor
        ·intro h;cases h
        ·intro h;omega
 |succ f ih=>
  intro i h j
  unfold Jk
  by_cases h1:256<=i
  ·rw[if_pos h1]
   show False↔_
   constructor
   ·intro h;cases h
   ·intro h;omega
  ·rw[if_neg h1]
   by_cases hb:m.testBit i=true
   ·rw[if_pos hb]
    obtain⟨r1,r2,r3,r4⟩:=QE m (255-i) i
    have hi:=ih (yS m (255-i) i+1) qc j
    generalize yS m (255-i) i=e at*
    show(((i:Int)<=(j:Int)/\(j:Int)<=(i:Int)+((e-i:Nat):Int))\/inR j _)↔_
    rw[hi]
    constructor
    ·rintro(q|q)
     ·refine⟨qc,qc,?_⟩
      by_cases ej:j=i
      ·subst ej;exact hb
      ·exact r3 j qc qc
     ·exact⟨qc,q.2.1,q.2.2⟩
    ·intro q
     by_cases q1:j<=e
     ·exact .inl ⟨qc,qc⟩
     ·exact .inr ⟨qc,q.2.1,q.2.2⟩
   ·rw[if_neg hb,ih (i+1) qc j]
    constructor
    ·intro q;exact⟨qc,q.2.1,q.2.2⟩
    ·intro q
     by_cases ej:j=i
     ·subst ej;exact absurd q.2.2 hb
     ·exact⟨qc,q.2.1,q.2.2⟩
theorem qyz(m:Nat):∀f i,256<=i+f->i<=256->(i=0\/i=256\/m.testBit (i-1)=false\/m.testBit i=false)->(Jk m f i).length+2*yv m i=2*yv m 256:=by
 intro f
 induction f with
 |zero=>intro i h hi _;have:i=256:=qc
        subst this;simp[Jk]
 |succ f ih=>
  intro i h hi hs
  unfold Jk
  by_cases h1:256<=i
  ·rw[if_pos h1]
   have:i=256:=qc
   subst this;simp
  ·rw[if_neg h1]
   have e1:yv m (i+1)=yv m i+(m.testBit i&&!(decide (0<i)&&m.testBit (i-1))).toNat:=rfl
   by_cases hb:m.testBit i=true
   ·rw[if_pos hb]
    obtain⟨r1,r2,r3,r4⟩:=QE m (255-i) i
    have e2:yv m (i+1)=yv m i+1:=by
     rw[e1,hb]
     have:(decide (0<i)&&m.testBit (i-1))=false:=by
      rcases hs with q|q|q|q
      ·simp[q]
      ·omega
      ·simp[q]
      ·rw[hb]at q;cases q
     rw[this];rfl
    have e3:∀d,i+1+d<=yS m (255-i) i+1->yv m (i+1+d)=yv m (i+1):=by
     intro d
     induction d with
     |zero=>intro _;rfl
     |succ d ihd=>
      intro hd
      have:=ihd qc
      have e4:yv m (i+1+(d+1))=yv m (i+1+d)+(m.testBit (i+1+d)&&!(decide (0<i+1+d)&&m.testBit (i+1+d-1))).toNat:=rfl
      have e5:m.testBit (i+1+d-1)=true:=by
       by_cases q:d=0
       ·subst q;exact hb
       ·exact r3 _ qc qc
      have e8:(decide (0<i+1+d))=true:=qg
      rw[e4,this,e5,e8]
      simp
    have e6:=e3 (yS m (255-i) i-i) qc
    have e7:i+1+(yS m (255-i) i-i)=yS m (255-i) i+1:=qc
    rw[e7,e2]at e6
    have hi2:=ih (yS m (255-i) i+1) qc qc (by
     by_cases q:yS m (255-i) i<i+(255-i)
     ·exact .inr (.inr (.inr (r4 q)))
     ·exact .inr (.inl qc))
    simp only[zid]
    omega
   ·rw[if_neg hb]
    have hb':m.testBit i=false:=by simpa using hb
    have e2:yv m (i+1)=yv m i:=by rw[e1,hb'];rfl
    have:=ih (i+1) qc qc (.inr (.inr (.inl (by simpa using hb'))))
    omega
theorem vE(m:Nat):(Jk m 256 0).length=2*yv m 256:=by
 have h:=qyz m 256 0 qc qc (.inl rfl)
 have e:yv m 0=0:=rfl
 omega
theorem qbt(m:Nat):(XA m 256 0).length=Jq m 256:=by
 have h:=qiq m 256 0
 have e:Jq m 0=0:=rfl
 have e2:0+256=256:=rfl
 rw[e2]at h
 omega
theorem qzh:∀(n m:Nat),0<Jq m n->∃j,j<n/\m.testBit j=true:=by
 intro n
 induction n with
 |zero=>intro m h;cases h
 |succ n ih=>
  intro m h
  cases hb:m.testBit n
  ·have e:Jq m (n+1)=Jq m n+(m.testBit n).toNat:=rfl
   rw[e,hb]at h
   obtain⟨j,h1,h2⟩:=ih m h
   exact⟨j,qc,h2⟩
  ·exact⟨n,qc,hb⟩
theorem qm0:∀(n m j:Nat),j<n->m.testBit j=true->0<Jq m n:=by
 intro n
 induction n with
 |zero=>intro m j h;omega
 |succ n ih=>
  intro m j h hb
  have e:Jq m (n+1)=Jq m n+(m.testBit n).toNat:=rfl
  rw[e]
  by_cases hj:j=n
  ·subst hj;rw[hb];exact Nat.succ_pos _
  ·have:=ih m j qc hb;omega
theorem qmy{m:Nat}(h:0<Jq m 256):0<yv m 256:=by
 obtain⟨j,h1,h2⟩:=qzh 256 m h
 by_cases hr:yv m 256=0
 ·have h3:=vE m
  rw[hr]at h3
  have h4:Jk m 256 0=[]:=zi9.mp h3
  have h5:=(zdj m 256 0 qc j).mpr ⟨qc,h1,h2⟩
  rw[h4]at h5
  cases h5
 ·omega
def okC(c:Nat×Nat):Prop:=c.1<16777216/\c.2<2^256/\0<Jq c.2 256
theorem YV(i j:Nat):(2^i).testBit j=decide (i=j):=zjq
theorem zgo{m x:Nat}(hm:m<2^256):m|||2^(x%256)<2^256:=Nat.or_lt_two_pow hm (Nat.pow_lt_pow_right qf qc)
theorem qzb(x:Nat):2^(x%256)<2^256:=Nat.pow_lt_pow_right qf qc
theorem QF(x:Nat)(c:Nat×Nat)(r:List (Nat×Nat)):qdz x (c::r)=if c.1=x/256 then(c.1,c.2|||2^(x%256))::r else(x/256,2^(x%256))::c::r:=rfl
theorem qy9{x:Nat}(hx:x<4294967296):∀{cs:List (Nat×Nat)},(∀c∈cs,okC c)->∀c∈qdz x cs,okC c:=by
 intro cs h c hc
 have new:okC (x/256,2^(x%256)):=⟨by show x/256<_;omega,qzb x,qm0 256 _ (x%256) qc (by rw[YV];simp)⟩
 cases cs with
 |nil=>
  have e:c=(x/256,2^(x%256)):=by simpa[qdz]using hc
  rw[e];exact new
 |cons d r=>
  have hd:=h d qe
  rw[QF]at hc
  split at hc
  ·rcases zie.mp hc with e|e
   ·rw[e]
    refine⟨hd.1,zgo hd.2.1,qm0 256 _ (x%256) qc ?_⟩
    show(d.2|||2^(x%256)).testBit _=_
    rw[zki,YV];simp
   ·exact h c (by simp[e])
  ·rcases zie.mp hc with e|e
   ·rw[e];exact new
   ·exact h c e
theorem qln:∀{l:List Nat},(∀x∈l,x<4294967296)->∀c∈JV l,okC c:=by
 intro l
 induction l with
 |nil=>intro _ c hc;cases hc
 |cons x r ih=>intro h;exact qy9 (h x qe) (ih fun y hy=>h y (by simp[hy]))
theorem qao:∀(l:List Nat) (x:Nat),jp (x::l)->∀y∈l,x<y:=by
 intro l
 induction l with
 |nil=>intro x _ y h;cases h
 |cons z s ih=>
  intro x h y hy
  rcases zie.mp hy with e|e
  ·rw[e];exact h.1
  ·have:=ih z h.2 y e;have:=h.1;omega
theorem qgh{x:Nat}{l:List Nat}(h:jp (x::l)):jp l:=by
 cases l with
 |nil=>trivial
 |cons z s=>exact h.2
def yd:List Nat->Prop
 |[]=>True
 |[_]=>True
 |x::y::r=>x<=y/\yd (y::r)
def WI(n last:Nat):Nat->Nat->Nat
 |0,k=>k
 |f+1,k=>if 0<n/\n<=last/2^(k+1)then WI n last f (k+1)else k
def qk1(n last:Nat):Nat:=WI n last 33 0
def xM(k:Nat):List Nat->List Bool
 |[]=>[]
 |x::r=>Xu x k++xM k r
def zZ(k w:Nat):List Nat->List Bool
 |[]=>[]
 |x::r=>una (x/2^k-w)++zZ k (x/2^k) r
def zK(l:List Nat):Nat:=l.getD (l.length-1) 0
def yi(l:List Nat):Nat:=qk1 l.length (zK l)
def Xy(l:List Nat):List Int:=uv l.length++uv (zK l)++pk (xM (yi l) l)++uv (pk (zZ (yi l) 0 l)).length++pk (zZ (yi l) 0 l)
@[simp] theorem qa2 (k : Nat) (l : List Nat) : (xM k l).length = l.length * k := by
 induction l with
 |nil=>simp[xM]
 |cons x r ih=>simp[xM,ih,zk6];omega
theorem qz6(n last:Nat)(hn:0<n)(hl:last<4294967296):∀(f k:Nat),k+f=33->WI n last f k<=33/\last/2^(WI n last f k+1)<n:=by
 intro f
 induction f with
 |zero=>
  intro k h
  have e:k=33:=qc
  subst e
  refine⟨zif _,?_⟩
  show last/2^34<n
  have:last/2^34=0:=zld (zi8 hl qf)
  omega
 |succ f ih=>
  intro k h
  unfold WI
  split
  ·exact ih (k+1) qc
  ·rename_i h1
   refine⟨qc,?_⟩
   by_cases h2:n<=last/2^(k+1)
   ·exact absurd ⟨hn,h2⟩ h1
   ·omega
theorem qz7(n last:Nat)(hl:last<4294967296):∀(f k:Nat),k<=32->WI n last f k<=32:=by
 intro f
 induction f with
 |zero=>intro k h;exact h
 |succ f ih=>
  intro k h
  unfold WI
  split
  ·rename_i h1
   apply ih
   by_cases h2:k=32
   ·subst h2
    have:last/2^33=0:=zld (zi8 hl qf)
    have h3:=h1.2
    have e:(32:Nat)+1=33:=rfl
    rw[e,this]at h3
    omega
   ·omega
  ·exact h
theorem qne(n last:Nat)(hl:last<4294967296):qk1 n last<=32:=qz7 n last hl 33 0 qc
theorem qha{n last:Nat}(hn:0<n)(hl:last<4294967296):last/2^qk1 n last<2*n:=by
 have h:=(qz6 n last hn hl 33 0 rfl).2
 have e:last/2^(qk1 n last+1)=last/2^qk1 n last/2:=by rw[zj3,zl0]
 have h':last/2^(qk1 n last+1)<n:=h
 omega
theorem Vf(x y:Nat)(r:List Nat):zK (x::y::r)=zK (y::r):=rfl
theorem qqa(k:Nat):∀(l:List Nat) (p:Nat),yd (p::l)->(zZ k (p/2^k) l).length+p/2^k=l.length+zK (p::l)/2^k:=by
 intro l
 induction l with
 |nil=>intro p _;simp[zZ,zK]
 |cons x r ih=>
  intro p h
  have hi:=ih x h.2
  have hd:p/2^k<=x/2^k:=Nat.div_le_div_right h.1
  rw[Vf]
  simp only[zZ,zh8,qx0,zid]
  omega
theorem Qj:∀{l:List Nat},yd l->yd (0::l):=by
 intro l h
 cases l with
 |nil=>trivial
 |cons x r=>exact⟨ziv _,h⟩
theorem Vi(k:Nat)(l:List Nat)(h:yd l):(zZ k 0 l).length=l.length+zK l/2^k:=by
 have h1:=qqa k l 0 (Qj h)
 rw[Nat.zero_div,zjo]at h1
 rw[h1]
 cases l with
 |nil=>rfl
 |cons x r=>rw[Vf]
def fEq(a b:Nat):Bool:=decide (¬yp a/\¬yp b/\zI a=zI b)
theorem jw(a:Nat):fEq a a=decide (¬yp a):=by unfold fEq;congr 1;apply propext;constructor<;>intro h<;>simp_all
section
variable (P:Program)(t:TypeId)(x y:Operand)(a b:Nat)
theorem jY(op:BinOp):eqGuard op t x y (.float .f64 a) (.float .f64 b)=pure ():=by
 cases op<;>rfl
@[simp] theorem zfy : qs P .lss t x y (.float .f64 a) (.float .f64 b) = some (.bool (Xj a b)) := by
 unfold qs
 rw[jY]
 show one (some (Value.bool (Ieee.double.order a b==some .lt)))=_
 rw[f_lt];rfl
@[simp] theorem zf0 : qs P .gtr t x y (.float .f64 a) (.float .f64 b) = some (.bool (Xj b a)) := by
 unfold qs
 rw[jY]
 show one (some (Value.bool (Ieee.double.order a b==some .gt)))=_
 rw[f_gt]
 unfold Xj
 show some (Value.bool _)=_
 congr 2
 apply decide_eq_decide.mpr
 constructor<;>(rintro⟨h1,h2,h3⟩;exact⟨h2,h1,h3⟩)
@[simp] theorem zf1 : qs P .eql t x y (.float .f64 a) (.float .f64 b) = some (.bool (fEq a b)) := by
 unfold qs
 rw[jY]
 show one (some (Value.bool (Ieee.double.order a b==some .eq)))=_
 rw[zeq];rfl
@[simp] theorem zfx : qs P .neq t x y (.float .f64 a) (.float .f64 b) = some (.bool (!fEq a b)) := by
 unfold qs
 rw[jY]
 show one (some (Value.bool (!(Ieee.double.order a b==some .eq))))=_
 rw[zeq];rfl
@[simp] theorem zfz : qs P .leq t x y (.float .f64 a) (.float .f64 b) = some (.bool (Xj a b || fEq a b)) := by
 unfold qs
 rw[jY]
 show one (some (Value.bool (Ieee.double.order a b==some .lt||Ieee.double.order a b==some .eq)))=_
 rw[zeq,f_lt];rfl
end
section
variable (P:Program)(t:TypeId)(x y:Operand)
theorem Qb(n:Nat)(h:n<18446744073709551616):IntKind.u64.wrap (n:Int)=n:=qx qc qc
theorem qik(n:Nat)(h:n<9223372036854775808):qs P .or t x y (.int .u64 (n:Int)) (.int .u64 9223372036854775808)=some (.int .u64 ((n+9223372036854775808:Nat):Int)):=by
 rw[yE]
 show some (Value.int .u64 (IntKind.u64.wrap ((BitVec.ofInt 64 (n:Int)|||BitVec.ofInt 64 9223372036854775808).toNat:Nat)))=_
 rw[qqw n h,Qb _ qc]
theorem Xn(n:Nat)(h:n<9223372036854775808):qs P .and t x y (.int .u64 (n:Int)) (.int .u64 9223372036854775808)=some (.int .u64 0):=by
 rw[ja]
 show some (Value.int .u64 (IntKind.u64.wrap ((BitVec.ofInt 64 (n:Int)&&&BitVec.ofInt 64 9223372036854775808).toNat:Nat)))=_
 rw[WO n h]
 rfl
theorem Xo(n:Nat)(h:9223372036854775808<=n)(h':n<18446744073709551616):qs P .and t x y (.int .u64 (n:Int)) (.int .u64 9223372036854775808)=some (.int .u64 9223372036854775808):=by
 rw[ja]
 show some (Value.int .u64 (IntKind.u64.wrap ((BitVec.ofInt 64 (n:Int)&&&BitVec.ofInt 64 9223372036854775808).toNat:Nat)))=_
 rw[WP n h h']
 rfl
theorem qlt(n:Nat)(h:n<18446744073709551616):qs P .andNot t x y (.int .u64 (n:Int)) (.int .u64 9223372036854775808)=some (.int .u64 ((n%9223372036854775808:Nat):Int)):=by
 rw[zR P t x y .u64 (n:Int) 9223372036854775808 .andNot qf qf]
 show some (Value.int .u64 (IntKind.u64.wrap ((BitVec.ofInt 64 (n:Int)&&&~~~(BitVec.ofInt 64 9223372036854775808)).toNat:Nat)))=_
 rw[qet n h,Qb _ qc]
theorem ze3(n:Nat)(h:n<18446744073709551616):(BitVec.ofInt 64 18446744073709551615^^^BitVec.ofInt 64 (n:Int)).toNat=18446744073709551615-n:=by
 have e:BitVec.ofInt 64 18446744073709551615=BitVec.allOnes 64:=qf
 rw[e,BitVec.allOnes_xor,BitVec.toNat_not,zji]
 have e1:(((n:Int)%((2^64:Nat):Int)).toNat)=n:=qc
 rw[e1]
theorem WY(n:Nat)(h:n<18446744073709551616):unV P .xor (.int .u64 (n:Int))=some (.int .u64 ((18446744073709551615-n:Nat):Int)):=by
 show some (Value.int .u64 (IntKind.u64.wrap ((BitVec.ofInt 64 18446744073709551615^^^BitVec.ofInt 64 (n:Int)).toNat:Nat)))=_
 rw[ze3 n h,Qb _ qc]
def nw(w:Nat):Nat:=if w<9223372036854775808 then w+9223372036854775808 else w-9223372036854775808
theorem qxs(w:Nat)(h:w<18446744073709551616):w^^^2^63=nw w:=by
 unfold nw
 by_cases h1:w<9223372036854775808
 ·rw[if_pos h1]
  have e:w+9223372036854775808=2^63*1+w:=qc
  rw[e,zkn qc]
  apply zj5
  intro i
  rw[zlg,zki,zi7,zjq]
  by_cases hi:63=i
  ·subst hi
   rw[zlh qc]
   rfl
  ·simp[hi]
 ·rw[if_neg h1]
  obtain⟨m,rfl⟩:∃m,w=2^63*1+m:=⟨w-2^63,qc⟩
  have e:2^63*1+m-9223372036854775808=m:=qc
  rw[e,zkn qc]
  apply zj5
  intro i
  rw[zlg,zki,zi7,zjq]
  by_cases hi:63=i
  ·subst hi
   rw[zlh (show m<2^63 by omega)]
   rfl
  ·simp[hi]
theorem qst(w:Nat)(h:w<18446744073709551616):unV P .neg (.float .f64 w)=some (.float .f64 (nw w)):=by
 rw[<-qxs w h];rfl
end
theorem Vb(n:Int):FloatKind.f64.nearest n<18446744073709551616:=by
 have e1:Ieee.double.signWeight=9223372036854775808:=qf
 have e3:Ieee.double.infRung=9218868437227405312:=qf
 have hw:∀(s:Bool) (r:Nat),r<=9218868437227405312->Ieee.double.word s r<18446744073709551616:=by
  intro s r hr
  unfold Ieee.Format.word
  rw[e1]
  split<;>omega
 have key:∀(s:Bool) (m:Nat) (p:Int),Ieee.double.nearest s m p<18446744073709551616:=by
  intro s m p
  unfold Ieee.Format.nearest
  split
  ·exact hw _ _ qc
  ·rw[e3]
   exact hw _ _ (Nat.min_le_right _ _)
 exact key (decide (n<0)) n.natAbs 0
def mk:List Nat->List Nat->List Nat
 |[],b=>b
 |a,[]=>a
 |x::a,y::b=>if y<x then y::mk (x::a) b else x::mk a (y::b)
termination_by a b=>a.length+b.length
@[simp] theorem qg6(b:List Nat):mk [] b=b:=by unfold mk;rfl
@[simp] theorem Vc(a:List Nat):mk a []=a:=by cases a<;>(unfold mk;rfl)
theorem xP(x:Nat)(a:List Nat)(y:Nat)(b:List Nat):mk (x::a) (y::b)=if y<x then y::mk (x::a) b else x::mk a (y::b):=by
 rw[mk]
theorem qkw{motive:List Nat->List Nat->Prop}(h1:∀b,motive [] b)(h2:∀a,motive a [])(h3:∀x a y b,y<x->motive (x::a) b->motive (x::a) (y::b))
 (h4:∀x a y b,¬y<x->motive a (y::b)->motive (x::a) (y::b)):∀a b,motive a b:=by
 intro a b
 generalize hn:a.length+b.length=n
 induction n using Nat.strongRecOn generalizing a b with
 |_ n ih=>
  cases a with
  |nil=>exact h1 b
  |cons x a=>
   cases b with
   |nil=>exact h2 _
   |cons y b=>
    by_cases hyx:y<x
    ·exact h3 x a y b hyx (ih ((x::a).length+b.length) (by simp at hn⊢;omega) _ _ rfl)
    ·exact h4 x a y b hyx (ih (a.length+(y::b).length) (by simp at hn⊢;omega) _ _ rfl)
theorem XS:∀a b,(mk a b).Perm (a++b):=by
 apply qkw (motive:=fun a b=>(mk a b).Perm (a++b))
 ·intro b;simp
 ·intro a;simp
 ·intro x a y b h ih
  rw[xP,if_pos h]
  exact(List.Perm.cons y ih).trans zlm.symm
 ·intro x a y b h ih
  rw[xP,if_neg h]
  exact List.Perm.cons x ih
abbrev Up(l:List Nat):Prop:=l.Pairwise (·<=·)
theorem qu5:∀a b,Up a->Up b->Up (mk a b):=by
 apply qkw (motive:=fun a b=>Up a->Up b->Up (mk a b))
 ·intro b _ h;simpa using h
 ·intro a h _;simpa using h
 ·intro x a y b h ih ha hb
  rw[xP,if_pos h]
  have hb':=zii.mp hb
  have ha':=zii.mp ha
  refine zii.mpr ⟨fun n hn=>?_,ih ha hb'.2⟩
  rcases zip.mp ((XS _ _).mem_iff.mp hn)with h'|h'
  ·rcases zie.mp h' with rfl|h'
   ·omega
   ·have:=ha'.1 n h';omega
  ·exact hb'.1 n h'
 ·intro x a y b h ih ha hb
  rw[xP,if_neg h]
  have hb':=zii.mp hb
  have ha':=zii.mp ha
  refine zii.mpr ⟨fun n hn=>?_,ih ha'.2 hb⟩
  rcases zip.mp ((XS _ _).mem_iff.mp hn)with h'|h'
  ·exact ha'.1 n h'
  ·rcases zie.mp h' with rfl|h'
   ·omega
   ·have:=hb'.1 n h';omega
theorem qjo:∀{a b:List Nat},Up a->Up b->a.Perm b->a=b
 |[],b,_,_,h=>(List.Perm.nil_eq h)
 |x::a,[],_,_,h=>absurd h.length_eq qe
 |x::a,y::b,ha,hb,h=>by
  have ha':=zii.mp ha
  have hb':=zii.mp hb
  have hxy:x=y:=by
   have h1:=zie.mp (h.mem_iff.mp (by simp:x∈x::a))
   have h2:=zie.mp (h.mem_iff.mpr (by simp:y∈y::b))
   rcases h1 with h1|h1
   ·exact h1
   ·rcases h2 with h2|h2
    ·exact h2.symm
    ·have:=ha'.1 y h2
     have:=hb'.1 x h1
     omega
  subst hxy
  rw[qjo ha'.2 hb'.2 (List.Perm.cons_inv h)]
theorem qx4:∀(A B:List Nat) (k m n:Nat),k<=m->k<=n->(mk (A.take m) (B.take n)).take k=(mk A B).take k:=by
 apply qkw (motive:=fun A B=>∀(k m n:Nat),k<=m->k<=n->(mk (A.take m) (B.take n)).take k=(mk A B).take k)
 ·intro b k m n hm hn
  rw[zl1,qg6,qg6,zmd,zkt hn]
 ·intro a k m n hm hn
  rw[zl1,Vc,Vc,zmd,zkt hm]
 ·intro x a y b h ih k m n hm hn
  match k,m,n,hm,hn with
  |0,_,_,_,_=>simp
  |k+1,m+1,n+1,hm,hn=>
   have:=ih k (m+1) n qc qc
   rw[zim]at this
   rw[zim,zim,xP,xP,if_pos h,if_pos h,zim,zim,this]
 ·intro x a y b h ih k m n hm hn
  match k,m,n,hm,hn with
  |0,_,_,_,_=>simp
  |k+1,m+1,n+1,hm,hn=>
   have:=ih k m (n+1) qc qc
   rw[zim]at this
   rw[zim,zim,xP,xP,if_neg h,if_neg h,zim,zim,this]
def sk:List Nat->List Nat
 |[]=>[]
 |x::l=>mk [x] (sk l)
theorem qaa:∀l,Up (sk l)
 |[]=>List.Pairwise.nil
 |x::l=>qu5 _ _ qe (qaa l)
theorem vY:∀l,(sk l).Perm l
 |[]=>List.Perm.refl _
 |x::l=>(XS [x] (sk l)).trans (List.Perm.cons x (vY l))
theorem qoj(a b:List Nat):sk (a++b)=mk (sk a) (sk b):=
 qjo (qaa _) (qu5 _ _ (qaa a) (qaa b)) ((vY _).trans (((vY a).symm.append (vY b).symm).trans (XS _ _).symm))
theorem qjt{a b:List Nat}(h:a.Perm b):sk a=sk b:=qjo (qaa _) (qaa _) ((vY a).trans (h.trans (vY b).symm))
theorem zc7(l:List Nat):(sk l).length=l.length:=(vY l).length_eq
def gm:List Nat->List Nat->List Nat
 |[],b=>b
 |a,[]=>a
 |x::a,y::b=>if kw y<kw x then y::gm (x::a) b else x::gm a (y::b)
termination_by a b=>a.length+b.length
@[simp] theorem zg8(b:List Nat):gm [] b=b:=by unfold gm;rfl
@[simp] theorem zg7(a:List Nat):gm a []=a:=by cases a<;>(unfold gm;rfl)
theorem qen(x:Nat)(a:List Nat)(y:Nat)(b:List Nat):gm (x::a) (y::b)=if kw y<kw x then y::gm (x::a) b else x::gm a (y::b):=by
 rw[gm]
theorem qnp:∀(n:Nat) (a b:List Nat),a.length+b.length=n->(gm a b).map kw=mk (a.map kw) (b.map kw):=by
 intro n
 induction n using Nat.strongRecOn with
 |_ n ih=>
  intro a b hn
  match a,b with
  |[],b=>simp
  |x::a,[]=>simp
  |x::a,y::b=>
   rw[qen,zjc,zjc,xP]
   by_cases h:kw y<kw x
   ·rw[if_pos h,if_pos h,zjc,ih ((x::a).length+b.length) (by simp at hn⊢;omega) (x::a) b rfl,zjc]
   ·rw[if_neg h,if_neg h,zjc,ih (a.length+(y::b).length) (by simp at hn⊢;omega) a (y::b) rfl,zjc]
theorem qu7(w:Nat):∀(n:Nat) (a b:List Nat),a.length+b.length=n->w∈gm a b->w∈a\/w∈b:=by
 intro n
 induction n using Nat.strongRecOn with
 |_ n ih=>
  intro a b hn hw
  match a,b with
  |[],b=>right;simpa using hw
  |x::a,[]=>left;simpa using hw
  |x::a,y::b=>
   rw[qen]at hw
   by_cases h:kw y<kw x
   ·rw[if_pos h]at hw
    rcases zie.mp hw with rfl|hw
    ·right;simp
    ·rcases ih ((x::a).length+b.length) (by simp at hn⊢;omega) (x::a) b rfl hw with h'|h'
     ·exact .inl h'
     ·exact .inr (zkg _ h')
   ·rw[if_neg h]at hw
    rcases zie.mp hw with rfl|hw
    ·left;simp
    ·rcases ih (a.length+(y::b).length) (by simp at hn⊢;omega) a (y::b) rfl hw with h'|h'
     ·exact .inl (zkg _ h')
     ·exact .inr h'
def Zt:List Nat->Nat
 |[]=>18442240474082181120
 |f::F=>if yp f then Zt F else min (kw f) (Zt F)
def kG:List Nat->Nat
 |[]=>4503599627370495
 |f::F=>if yp f then kG F else max (kw f) (kG F)
theorem qnd:∀F,Zt F<=18442240474082181120
 |[]=>zif _
 |f::F=>by
  have:=qnd F
  unfold Zt
  split<;>omega
theorem qhk:∀F,4503599627370495<=kG F
 |[]=>zif _
 |f::F=>by
  have:=qhk F
  unfold kG
  split<;>omega
theorem Xg:∀a b,Zt (a++b)=min (Zt a) (Zt b)
 |[],b=>by have:=qnd b;simp only[zi5,Zt];omega
 |f::a,b=>by
  have:=Xg a b
  simp only[zj0,Zt]
  split<;>omega
theorem Jw:∀a b,kG (a++b)=max (kG a) (kG b)
 |[],b=>by have:=qhk b;simp only[zi5,kG];omega
 |f::a,b=>by
  have:=Jw a b
  simp only[zj0,kG]
  split<;>omega
theorem qp1{a b:List Nat}(h:a.Perm b):Zt a=Zt b:=by
 induction h with
 |nil=>rfl
 |cons x _ ih=>unfold Zt;rw[ih]
 |swap x y l=>simp only[Zt];repeat' split
              all_goals omega
 |trans _ _ h1 h2=>rw[h1,h2]
theorem qk9{a b:List Nat}(h:a.Perm b):kG a=kG b:=by
 induction h with
 |nil=>rfl
 |cons x _ ih=>unfold kG;rw[ih]
 |swap x y l=>simp only[kG];repeat' split
              all_goals omega
 |trans _ _ h1 h2=>rw[h1,h2]
def LQ(K K':IntKind):List (Int×Int)->List AV
 |[]=>[]
 |p::l=>.sc (.int K p.1)::.sc (.int K' p.2)::LQ K K' l
section
variable (K K':IntKind)
theorem qk4:∀l,(LQ K K' l).length=2*l.length
 |[]=>rfl
 |p::l=>by simp only[LQ,zid,qk4 l];omega
theorem zb8:∀(i:Nat) (l:List (Int×Int)),(LQ K K' l).drop (i*2)=LQ K K' (l.drop i)
 |0,l=>by simp
 |i+1,[]=>by simp[LQ]
 |i+1,p::l=>by
  have h:(i+1)*2=i*2+1+1:=qc
  rw[h,LQ,zk1,zk1,zb8 i l,zk1]
theorem appQ:∀a b,LQ K K' (a++b)=LQ K K' a++LQ K K' b
 |[],b=>rfl
 |p::a,b=>by simp only[zj0,LQ,appQ a b]
theorem zd1(k:Nat)(l:List (Int×Int)):zd (S k 2 (LQ K K' l))=some l.length:=by
 have h:(if(2:Nat)=1 then(LQ K K' l).length else(LQ K K' l).length/2)=l.length:=by rw[if_neg qc,qk4];omega
 rcases zg k 2 (LQ K K' l)with e|e|⟨e,e'⟩
 ·rw[e];simp only[zd,h]
 ·rw[e];simp only[zd,h]
 ·rw[e]
  have:l.length=0:=by have:=qk4 K K' l;rw[e']at this;simp at this;omega
  rw[this];rfl
theorem qvv(k:Nat){l:List (Int×Int)}{i:Nat}{p:Int×Int}(h:l[i]?=some p):zL 2 (S k 2 (LQ K K' l)) (.int .i64 (i:Int))=some [.sc (.int K p.1),.sc (.int K' p.2)]:=by
 obtain⟨hi,hp⟩:=zih.mp h
 have hl:(if(2:Nat)=1 then(LQ K K' l).length else(LQ K K' l).length/2)=l.length:=by rw[if_neg qc,qk4];omega
 have hx:idx l.length (.int .i64 (i:Int))=some i:=za .i64 hi
 have hg:qo (LQ K K' l) (i*2) 2=some [.sc (.int K p.1),.sc (.int K' p.2)]:=by
  unfold qo
  rw[if_pos (by rw[qk4];omega),zb8,zi2 hi,hp]
  rfl
 rcases zg k 2 (LQ K K' l)with e|e|⟨e,e'⟩
 ·rw[e];simp only[zL,if_true,hl,hx,zib,hg]
 ·rw[e];simp only[zL,if_true,hl,hx,zib,hg]
 ·exfalso
  have:=qk4 K K' l
  rw[e']at this
  simp at this
  omega
theorem zff(k:Nat)(hk:k=1\/k=2)(l:List (Int×Int))(a b:Int)(h:l.length<=1000000):zh 16 2 (S k 2 (LQ K K' l)) (S 1 2 [.sc (.int K a),.sc (.int K' b)])=some (S k 2 (LQ K K' (l++[(a,b)]))):=by
 rw[ZN 16 2 k _ _ 1 hk (show ql5 [AV.sc (.int K a),AV.sc (.int K' b)]from rfl) (.inr (jr qf ?_)),appQ]
 ·rfl
 ·rw[qk4];simp;omega
end
def jM(n:Nat):Nat:=n/2^^^(if n%2=1 then 2197175160 else 0)
def jn:Nat->Nat->Nat
 |0,n=>n
 |k+1,n=>jn k (jM n)
def JE(i:Nat):Nat:=jn 8 i
def WM(n:Nat)(c:Int):Nat:=n/256^^^JE (n%256^^^c.toNat)
def qia(l:List Int)(n:Nat):Nat:=l.foldl WM n
def qQ(l:List Int):Nat:=4294967295-qia l 4294967295
theorem qid{n:Nat}(h:n<4294967296):jM n<4294967296:=by
 unfold jM
 exact Nat.xor_lt_two_pow (n:=32) (by show n/2<4294967296;omega) (by show(if n%2=1 then 2197175160 else 0)<4294967296;split<;>omega)
theorem VG:∀(k:Nat) {n:Nat},n<4294967296->jn k n<4294967296
 |0,_,h=>h
 |k+1,_,h=>VG k (qid h)
theorem zcd{a b:Nat}(ha:a<256)(hb:b<256):a^^^b<256:=Nat.xor_lt_two_pow (n:=8) ha hb
theorem zbn{a b:Nat}(ha:a<4294967296)(hb:b<4294967296):a^^^b<4294967296:=Nat.xor_lt_two_pow (n:=32) ha hb
theorem za1{n:Nat}(h:n<4294967296){c:Int}(hc:0<=c/\c<256):WM n c<4294967296:=by
 unfold WM
 refine zbn qc (VG 8 ?_)
 have:=zcd (a:=n%256) (b:=c.toNat) qc qc
 omega
theorem Ke(l:List Int):qQ l<4294967296:=by unfold qQ;omega
theorem wJ(w a:Nat)(h:a<2^w):(BitVec.ofInt w (a:Int)).toNat=a:=by
 rw[zji]
 have e:(a:Int)%((2^w:Nat):Int)=((a%2^w:Nat):Int):=(Int.natCast_emod a (2^w)).symm
 rw[e,zju h,zik]
section
variable (P:Program)(t:TypeId)(x y:Operand)(a b:Nat)
theorem qc7(ha:a<4294967296)(hb:b<4294967296):qs P .xor t x y (.int .u32 (a:Int)) (.int .u32 (b:Int))=some (.int .u32 ((a^^^b:Nat):Int)):=by
 have:=zbn ha hb
 rw[yD]
 show some (Value.int .u32 (IntKind.u32.wrap ((BitVec.ofInt 32 (a:Int)^^^BitVec.ofInt 32 (b:Int)).toNat:Nat)))=_
 rw[BitVec.toNat_xor,wJ 32 a ha,wJ 32 b hb,qT qc qc]
theorem qe3(ha:a<4294967296)(hb:b<4294967296):qs P .and t x y (.int .u32 (a:Int)) (.int .u32 (b:Int))=some (.int .u32 ((a&&&b:Nat):Int)):=by
 have:a&&&b<=a:=Nat.and_le_left
 rw[ja]
 show some (Value.int .u32 (IntKind.u32.wrap ((BitVec.ofInt 32 (a:Int)&&&BitVec.ofInt 32 (b:Int)).toNat:Nat)))=_
 rw[zl3,wJ 32 a ha,wJ 32 b hb,qT qc qc]
theorem zcc(ha:a<256)(hb:b<256):qs P .xor t x y (.int .u8 (a:Int)) (.int .u8 (b:Int))=some (.int .u8 ((a^^^b:Nat):Int)):=by
 have:=zcd ha hb
 rw[yD]
 show some (Value.int .u8 (IntKind.u8.wrap ((BitVec.ofInt 8 (a:Int)^^^BitVec.ofInt 8 (b:Int)).toNat:Nat)))=_
 rw[BitVec.toNat_xor,wJ 8 a ha,wJ 8 b hb,zE qc qc]
theorem qdj(k:Nat)(hk:k<=32)(K:IntKind):qs P .shr t x y (.int .u32 (a:Int)) (.int K (k:Int))=some (.int .u32 ((a/2^k:Nat):Int)):=by
 rw[jF P t x y _ _ _ _ qc]
 have e:min (k:Int).toNat IntKind.u32.bits=k:=by
  show min (k:Int).toNat 32=k
  omega
 rw[e,zjv _ (by have:=zk3 k;exact Int.le_of_lt (Int.pow_pos qf))]
 congr 2
end
def Bt(l:List Int):Prop:=∀n∈l,0<=n/\n<256
def jg(l:List Int):List UInt8:=l.map fun n=>UInt8.ofNat n.toNat
@[simp] theorem zhw(l:List Int):(jg l).length=l.length:=by simp[jg]
def st(l:List Int):Value:=.string ⟨(jg l).toArray⟩
def vT:List Int->List Int->Bool
 |_,[]=>false
 |[],_::_=>true
 |a::x,b::y=>decide (a<b)||(decide (a=b)&&vT x y)
theorem zge{a b:Int}(ha:0<=a/\a<256)(hb:0<=b/\b<256):decide (UInt8.ofNat a.toNat<UInt8.ofNat b.toNat)=decide (a<b):=by
 apply decide_eq_decide.mpr
 rw[UInt8.lt_iff_toNat_lt,UInt8.toNat_ofNat',UInt8.toNat_ofNat',zju qc,zju qc]
 omega
theorem zbs{a b:Int}(ha:0<=a/\a<256)(hb:0<=b/\b<256):(UInt8.ofNat a.toNat==UInt8.ofNat b.toNat)=decide (a=b):=by
 by_cases h:a=b
 ·subst h;simp
 ·have h2:UInt8.ofNat a.toNat≠UInt8.ofNat b.toNat:=by
   intro e
   have e:=congrArg UInt8.toNat e
   rw[UInt8.toNat_ofNat',UInt8.toNat_ofNat',zju qc,zju qc]at e
   omega
  simp[h,h2]
theorem Ju:∀(a b:List Int),Bt a->Bt b->Go.Op.bytesLess (jg a) (jg b)=vT a b
 |a,[],_,_=>by cases a<;>rfl
 |[],b::y,_,_=>rfl
 |a::x,b::y,ha,hb=>by
  have ih:=Ju x y (fun n hn=>ha n (by simp[hn])) (fun n hn=>hb n (by simp[hn]))
  show(decide (UInt8.ofNat a.toNat<UInt8.ofNat b.toNat)||((UInt8.ofNat a.toNat==UInt8.ofNat b.toNat)&&Go.Op.bytesLess (jg x) (jg y)))=_
  rw[ih,zge (ha a qe) (hb b qe),zbs (ha a qe) (hb b qe)]
  rfl
theorem ZR:∀{a b:List Int},Bt a->Bt b->(jg a=jg b↔a=b)
 |[],[],_,_=>by simp
 |[],b::y,_,_=>by simp[jg]
 |a::x,[],_,_=>by simp[jg]
 |a::x,b::y,ha,hb=>by
  have ih:=ZR (a:=x) (b:=y) (fun n hn=>ha n (by simp[hn])) (fun n hn=>hb n (by simp[hn]))
  have e:=zbs (ha a qe) (hb b qe)
  constructor
  ·intro h
   have h:UInt8.ofNat a.toNat::jg x=UInt8.ofNat b.toNat::jg y:=h
   injection h with h1 h2
   rw[h1]at e
   simp at e
   rw[e,ih.mp h2]
  ·intro h;rw[h]
theorem WZ(l:List Int):(⟨(jg l).toArray⟩:ByteArray).toList=jg l:=by rw[ByteArray.toList_eq]
section
variable (P:Program)(t:TypeId)(x y:Operand)(a b:List Int)(ha:Bt a)(hb:Bt b)
include ha hb
theorem zc1:(jg a==jg b)=decide (a=b):=by
 by_cases h:a=b
 ·subst h;simp
 ·have h2:jg a≠jg b:=fun e=>h ((ZR ha hb).mp e)
  simp[h,h2]
theorem zcy:qs P .lss t x y (st a) (st b)=some (.bool (vT a b)):=by
 unfold qs st
 rw[yr P]
 show one (some (Value.bool (Go.Op.bytesLess (⟨(jg a).toArray⟩:ByteArray).toList (⟨(jg b).toArray⟩:ByteArray).toList)))=_
 rw[WZ,WZ,Ju a b ha hb]
 rfl
theorem zcz:qs P .leq t x y (st a) (st b)=some (.bool (vT a b||decide (a=b))):=by
 unfold qs st
 rw[yr P]
 show one (some (Value.bool (Go.Op.bytesLess (⟨(jg a).toArray⟩:ByteArray).toList (⟨(jg b).toArray⟩:ByteArray).toList||(⟨(jg a).toArray⟩:ByteArray).toList==(⟨(jg b).toArray⟩:ByteArray).toList)))=_
 rw[WZ,WZ,Ju a b ha hb,zc1 a b ha hb]
 rfl
theorem zc0:qs P .geq t x y (st a) (st b)=some (.bool (!vT a b)):=by
 unfold qs st
 rw[yr P]
 show one (some (Value.bool (!Go.Op.bytesLess (⟨(jg a).toArray⟩:ByteArray).toList (⟨(jg b).toArray⟩:ByteArray).toList)))=_
 rw[WZ,WZ,Ju a b ha hb]
 rfl
theorem zgi:qs P .eql t x y (st a) (st b)=some (.bool (decide (a=b))):=by
 unfold st
 rw[qq1]
 show some (Value.bool (decide (jg a=jg b)))=_
 have e:decide (jg a=jg b)=decide (a=b):=decide_eq_decide.mpr (ZR ha hb)
 rw[e]
theorem qmo:qs P .neq t x y (st a) (st b)=some (.bool (!decide (a=b))):=by
 unfold st
 rw[qq0]
 show some (Value.bool (!decide (jg a=jg b)))=_
 have e:decide (jg a=jg b)=decide (a=b):=decide_eq_decide.mpr (ZR ha hb)
 rw[e]
omit ha hb in
theorem zc2(h:a.length+b.length<1000000000):qs P .add t x y (st a) (st b)=some (st (a++b)):=by
 unfold qs st
 rw[yr P]
 show one (zO P (Go.Op.stringOp .add ⟨(jg a).toArray⟩ ⟨(jg b).toArray⟩))=_
 unfold Go.Op.stringOp
 have h1:¬(((⟨(jg a).toArray⟩:ByteArray).size+(⟨(jg b).toArray⟩:ByteArray).size:Nat):Int)>IntKind.i64.max:=by
  have e1:(⟨(jg a).toArray⟩:ByteArray).size=a.length:=by show(jg a).toArray.size=_;simp
  have e2:(⟨(jg b).toArray⟩:ByteArray).size=b.length:=by show(jg b).toArray.size=_;simp
  rw[e1,e2]
  show ¬(_>(9223372036854775807:Int))
  omega
 simp only
 rw[if_neg h1]
 have e:(⟨(jg a).toArray⟩:ByteArray)++⟨(jg b).toArray⟩=⟨(jg (a++b)).toArray⟩:=by
  apply ByteArray.ext
  rw[ByteArray.data_append]
  simp[jg]
 rw[e]
 rfl
end
theorem xW:∀l:List Int,zp (LI .u8 l)=some (jg l)
 |[]=>rfl
 |x::l=>by
  have:=xW l
  show(zp (LI .u8 l)).map _=_
  rw[this];rfl
theorem zbv(l:List Int):Value.string (ByteArray.mk (Array.mk (jg l)))=st l:=rfl
theorem ZU:∀{l:List Int},Bt l->List.map (fun x:UInt8=>AV.sc (.int .u8 ((x.toBitVec.toFin.val:Nat):Int))) (jg l)=LI .u8 l
 |[],_=>rfl
 |x::l,h=>by
  have ih:=ZU (l:=l) (fun n hn=>h n (by simp[hn]))
  have hx:=h x qe
  show AV.sc (.int .u8 (((UInt8.ofNat x.toNat).toNat:Nat):Int))::List.map _ (jg l)= .sc (.int .u8 x)::LI .u8 l
  rw[ih,UInt8.toNat_ofNat',zju qc]
  have e:((x.toNat:Nat):Int)=x:=qc
  rw[e]
theorem Yb(l:List Int):yK Tryz.prog .len #[9] 3 [st l]=some (.int .i64 (l.length:Int)):=by
 have e:(⟨(jg l).toArray⟩:ByteArray).size=l.length:=by show(jg l).toArray.size=_;simp
 have e0:yK Tryz.prog .len #[9] 3 [st l]=some (.int .i64 ((⟨(jg l).toArray⟩:ByteArray).size:Int)):=qd
 rw[e0,e]
def ME(K:IntKind)(l:List Int):List AV:=l.map fun n=>.tup [.sc (.int K n),.sc (.bool true)]
def zad(l:List Int)(n:Int):List Int:=if n∈l then l else l++[n]
@[simp] theorem qa7 (K : IntKind) (a b : Int) : vH (.int K a) (.int K b) = some (decide (a = b)) := by
 simp[vH]
 rfl
@[simp] theorem len_ME(K:IntKind)(l:List Int):(ME K l).length=l.length:=by simp[ME]
@[simp] theorem qwb (K : IntKind) (n : Int) : ∀ l : List Int, Zj (.int K n) (ME K l) = some (if n ∈ l then some (.sc (.bool true)) else none)
 |[]=>rfl
 |x::l=>by
  have h:=qwb K n l
  show((vH (.int K n) (.int K x)).bind fun t=>cond t (some (some (AV.sc (.bool true)))) (Zj (.int K n) (ME K l)))=_
  rw[qa7,h]
  by_cases e:n=x
  ·simp[e]
  ·simp[e]
@[simp] theorem qza (K : IntKind) (n : Int) : ∀ l : List Int, KT (.int K n) (.sc (.bool true)) (ME K l) = some (ME K (zad l n))
 |[]=>rfl
 |x::l=>by
  have h:=qza K n l
  show((vH (.int K n) (.int K x)).bind fun t=>cond t (some (AV.tup [.sc (.int K x),.sc (.bool true)]::ME K l)) ((KT (.int K n) (.sc (.bool true)) (ME K l)).map fun r=>AV.tup [.sc (.int K x),.sc (.bool true)]::r))=_
  rw[qa7,h]
  by_cases e:n=x
  ·simp[e,zad,ME]
  ·by_cases hm:n∈l
   ·simp[e,zad,hm,ME]
   ·simp[e,zad,hm,ME]
@[simp] theorem zek(b:Nat):wF (.map b)=some b:=rfl
@[simp] theorem ro_map(b:Nat):ro (.map b)= .map b:=rfl
@[simp] theorem zhy(b:Nat):ro1 (.map b)= .map b:=rfl
theorem qmx(hp:Hp)(b:Nat)(es:List AV):(hp.put b 1 es).rdM b=some es:=by simp[Hp.rdM,Hp.put]
theorem qy4(hp:Hp):hp.newM.rdM hp.next=some []:=by simp[Hp.rdM,Hp.newM]
@[simp] theorem zg3(s b:Nat)(n:Int):qei (TI.mk TK.sc s b [.int .u64 0]) (.int .u64 n)=true:=rfl
@[simp] theorem zg4(s b:Nat)(n:Int):qei (TI.mk TK.sc s b [.int .u32 0]) (.int .u32 n)=true:=rfl
@[simp] theorem zgq(x y:AV):orA (some x) y=x:=rfl
@[simp] theorem zgr(y:AV):orA none y=y:=rfl
theorem qm8{a b:Nat}(h0:a%2=b%2)(h1:a/2=b/2):a=b:=qc
theorem Ki(a b:Nat):(a^^^b)%2=(a+b)%2:=by
 have h:=@Nat.xor_mod_two_eq_one a b
 have:=Nat.mod_two_eq_zero_or_one a
 have:=Nat.mod_two_eq_zero_or_one b
 have:=Nat.mod_two_eq_zero_or_one (a^^^b)
 by_cases q:(a^^^b)%2=1
 ·have:=h.mp q
  omega
 ·have:¬¬((a%2=1)↔(b%2=1)):=fun z=>q (h.mpr z)
  have:=Classical.not_not.mp this
  omega
theorem qxt(x a b:Nat)(hx:x<2):(x+2*a)^^^(2*b)=x+2*(a^^^b):=by
 refine qm8 ?_ ?_
 ·rw[Ki];omega
 ·rw[Nat.xor_div_two,show(x+2*a)/2=a by omega,show 2*b/2=b by omega];omega
theorem qqv(a b:Nat):jM (a^^^b)=jM a^^^jM b:=by
 unfold jM
 rw[Nat.xor_div_two,Ki]
 have ha:=Nat.mod_two_eq_zero_or_one a
 have hb:=Nat.mod_two_eq_zero_or_one b
 rcases ha with ha|ha<;>rcases hb with hb|hb
 ·rw[if_neg qc,if_neg qc,if_neg qc];simp
 ·rw[if_pos qc,if_neg qc,if_pos hb];simp[Nat.xor_assoc]
 ·rw[if_pos qc,if_pos ha,if_neg qc]
  rw[Nat.xor_zero,Nat.xor_assoc,Nat.xor_assoc,Nat.xor_comm (b/2)]
 ·rw[if_neg qc,if_pos ha,if_pos hb,Nat.xor_zero]
  rw[Nat.xor_assoc,<-Nat.xor_assoc 2197175160,Nat.xor_comm 2197175160,Nat.xor_assoc (b/2),Nat.xor_self,Nat.xor_zero]
theorem qbq:∀(k a b:Nat),jn k (a^^^b)=jn k a^^^jn k b
 |0,_,_=>rfl
 |k+1,a,b=>by
  show jn k (jM (a^^^b))=jn k (jM a)^^^jn k (jM b)
  rw[qqv,qbq k]
theorem qbr:∀(k z:Nat),jn k (2^k*z)=z
 |0,z=>by show 2^0*z=z;simp
 |k+1,z=>by
  have e:jM (2^(k+1)*z)=2^k*z:=by
   unfold jM
   have:2^(k+1)*z=2*(2^k*z):=by rw[zj3,zi3 (2^k) 2,zj1]
   rw[this,if_neg qc]
   simp
  show jn k (jM (2^(k+1)*z))=z
  rw[e,qbr k]
theorem qbs:∀(a b n:Nat),jn (a+b) n=jn b (jn a n)
 |0,b,n=>by rw[ziw];rfl
 |a+1,b,n=>by
  rw[show a+1+b=(a+b)+1 by omega]
  show jn (a+b) (jM n)=jn b (jn a (jM n))
  exact qbs a b (jM n)
def dN:List Int->Nat
 |[]=>0
 |c::r=>c.toNat+256*dN r
theorem qxu(c d n:Nat)(hc:c<256):(c+256*d)^^^n=(c^^^n%256)^^^(2^8*(d^^^n/256)):=by
 apply zj5
 intro i
 rw[zlg,zlg,zlg]
 have e1:(c+256*d).testBit i=if i<8 then c.testBit i else d.testBit (i-8):=by
  rw[zmo,show 256=2^8 from rfl,Nat.testBit_two_pow_mul_add d (i:=8) hc]
 have e2:(2^8*(d^^^n/256)).testBit i=(decide (8<=i)&&(d^^^n/256).testBit (i-8)):=by rw[Nat.testBit_two_pow_mul]
 have e3:(n%256).testBit i=(decide (i<8)&&n.testBit i):=by rw[show 256=2^8 from rfl,zkk]
 have e4:(n/256).testBit (i-8)=n.testBit (i-8+8):=by rw[show 256=2^8 from rfl,zle]
 rw[e1,e2,e3,zlg,e4]
 by_cases h:i<8
 ·simp[h,show ¬(8<=i) by omega]
 ·have h1:c.testBit i=false:=zlh (zi8 hc (by
   have:2^8<=2^i:=zjz qf qc
   exact this))
  simp[h,show 8<=i by omega,h1,show i-8+8=i by omega]
theorem qh9:∀(l:List Int) (n:Nat),(∀c∈l,0<=c/\c<256)->jn (8*l.length) (dN l^^^n)=qia l n
 |[],n,_=>by simp[dN,jn,qia]
 |c::r,n,h=>by
  have hc:=h c qe
  have ih:=qh9 r (WM n c) (fun d hd=>h d (by simp[hd]))
  have e:8*(c::r).length=8+8*r.length:=by rw[zid];omega
  show jn (8*(c::r).length) ((c.toNat+256*dN r)^^^n)=qia r (WM n c)
  rw[e,qbs,qxu _ _ _ qc,qbq,qbr,<-ih]
  congr 1
  unfold WM JE
  rw[Nat.xor_comm c.toNat,Nat.xor_comm (dN r) (n/256),<-Nat.xor_assoc,Nat.xor_comm (jn 8 _) (n/256)]
  rw[Nat.xor_comm (dN r)]
def Wq(l:List Int):Prop:=∀n∈l,n=0\/n=1
def vU:List Int->Nat
 |[]=>0
 |x::r=>x.toNat+2*vU r
theorem Wq.set{l:List Int}(h:Wq l)(j:Nat):Wq (l.set j (1-l.getD j 0)):=by
 intro n hn
 rcases zka hn with q|q
 ·exact h n q
 ·have:l.getD j 0=0\/l.getD j 0=1:=by
   by_cases hj:j<l.length
   ·rw[zia,zic hj]
    exact h _ (zi6 hj)
   ·rw[zia,zjd qc]
    exact .inl rfl
  omega
theorem qn1:∀{l:List Int} (j:Nat),Wq l->j<l.length->vU (l.set j (1-l.getD j 0))=vU l^^^2^j
 |[],j,_,h=>by simp at h
 |x::r,0,hb,_=>by
  show(1-x).toNat+2*vU r=(x.toNat+2*vU r)^^^1
  have hx:=hb x qe
  refine qm8 ?_ ?_
  ·rw[Ki]
   rcases hx with q|q<;>subst q<;>simp<;>omega
  ·rw[Nat.xor_div_two,show 1/2=0 from rfl,Nat.xor_zero]
   rcases hx with q|q<;>subst q<;>simp<;>omega
 |x::r,j+1,hb,h=>by
  have ih:=qn1 (l:=r) j (fun n hn=>hb n (by simp[hn])) (by simpa using h)
  have hx:=hb x qe
  have e:((x::r).set (j+1) (1-(x::r).getD (j+1) 0))=x::r.set j (1-r.getD j 0):=rfl
  rw[e]
  show x.toNat+2*vU (r.set j (1-r.getD j 0))=(x.toNat+2*vU r)^^^2^(j+1)
  rw[ih,zj3,zi3 (2^j),qxt _ _ _ qc]
theorem qeu:∀(a b:List Int),vU (a++b)=vU a+2^a.length*vU b
 |[],b=>by simp[vU]
 |x::a,b=>by
  have ih:=qeu a b
  show x.toNat+2*vU (a++b)=x.toNat+2*vU a+2^(a.length+1)*vU b
  rw[ih,zj3,Nat.mul_add,zi3 (2^a.length) 2,zj1]
  omega
theorem qwp(n:Nat):vU (List.replicate n 0)=0:=by
 induction n with
 |zero=>rfl
 |succ n ih=>
  show(0:Int).toNat+2*vU (List.replicate n 0)=0
  rw[ih];rfl
def bo8(c:Int):List Int:=(List.range 8).map fun k=>((c.toNat/2^k%2:Nat):Int)
theorem za8:∀n:Nat,n<256->vU ((List.range 8).map fun k=>((n/2^k%2:Nat):Int))=n:=by decide +kernel
theorem ze4{c:Int}(hc:0<=c/\c<256):vU (bo8 c)=c.toNat:=za8 c.toNat qc
theorem zfd(c:Int):Wq (bo8 c):=by
 intro n hn
 obtain⟨k,_,rfl⟩:=ziu.mp hn
 omega
def ZJ(l:List Int):List Int:=l.flatMap bo8
theorem qn2:∀{l:List Int},(∀c∈l,0<=c/\c<256)->vU (ZJ l)=dN l
 |[],_=>rfl
 |c::r,h=>by
  have ih:=qn2 (l:=r) (fun d hd=>h d (by simp[hd]))
  show vU (bo8 c++ZJ r)=c.toNat+256*dN r
  have e:(bo8 c).length=8:=by simp[bo8]
  rw[qeu,ze4 (h c qe),ih,e]
theorem zbd(l:List Int):Wq (ZJ l):=by
 intro n hn
 obtain⟨c,_,hc⟩:=zl2.mp hn
 exact zfd c n hc
theorem qn7(l:List Int):(ZJ l).length=8*l.length:=by
 induction l with
 |nil=>rfl
 |cons c r ih=>
  show(bo8 c++ZJ r).length=_
  rw[zh8,ih,zid]
  show 8+_=_
  omega
theorem kT:∀(b a:List Int),zr (a++b)=zr a*256^b.length+zr b:=by
 intro b
 induction b with
 |nil=>intro a;simp[zr]
 |cons c b ih=>
  intro a
  have e1:a++c::b=(a++[c])++b:=qe
  have e2:c::b=[c]++b:=rfl
  have e3:zr [c]=c.toNat:=by simp[zr]
  rw[e1,ih,jK,e2,ih [c],e3,zh8,zk7,zk6,zj1]
  have e4:256^[c].length=256:=rfl
  rw[e4]
  omega
theorem qn3:∀(l:List Int),(∀x∈l,0<=x/\x<256)->zr l<256^l.length:=by
 intro l
 induction l with
 |nil=>intro _;decide
 |cons c b ih=>
  intro h
  have hc:=h c qe
  have i:=ih fun x hx=>h x (by simp[hx])
  have e2:c::b=[c]++b:=rfl
  have e3:zr [c]=c.toNat:=by simp[zr]
  have hm:c.toNat*256^b.length<=255*256^b.length:=ziq _ qc
  rw[e2,kT,e3,zh8,zk7]
  have e4:256^[c].length=256:=rfl
  rw[e4]
  omega
section
variable (C:List Int)(hC:∀x∈C,0<=x/\x<256)
include hC
end
def tot:List (Nat×Nat)->Nat
 |[]=>0
 |c::r=>Jq c.2 256+tot r
theorem qo8:∀l:List Nat,jp l↔l.Pairwise (·<·):=by
 intro l
 induction l with
 |nil=>simp[jp]
 |cons x r ih=>
  rw[zii,<-ih]
  constructor
  ·intro h;exact⟨qao r x h,qgh h⟩
  ·rintro⟨h1,h2⟩
   cases r with
   |nil=>exact trivial
   |cons y r=>exact⟨h1 y qe,h2⟩
def zj:List Nat->Nat
 |[]=>0
 |x::r=>zj r|||2^x
theorem wx(j:Nat):∀L:List Nat,(zj L).testBit j=true↔j∈L
 |[]=>by simp[zj]
 |x::r=>by
  have ih:=wx j r
  simp only[zj,zki,zjq,zlf,decide_eq_true_eq,ih,zie]
  constructor
  ·rintro(h|h)
   ·exact .inr h
   ·exact .inl h.symm
  ·rintro(h|h)
   ·exact .inr h.symm
   ·exact .inl h
theorem qez(m:Nat):∀(f i:Nat) (L:List Nat),(∀j,i<=j->j<i+f->(m.testBit j=true↔j∈L))->(∀x∈L,i<=x/\x<i+f)->L.Pairwise (·<·)->XA m f i=nz L
 |0,i,L,_,h,_=>by
  cases L with
  |nil=>rfl
  |cons x r=>have:=h x qe;omega
 |f+1,i,L,hb,hr,hp=>by
  unfold XA
  by_cases hi:m.testBit i=true
  ·rw[if_pos hi]
   have hm:=(hb i (zif _) qc).mp hi
   cases L with
   |nil=>cases hm
   |cons x r=>
    obtain⟨h1,h2⟩:=zii.mp hp
    have hx:x=i:=by
     rcases zie.mp hm with e|e
     ·exact e.symm
     ·have:=h1 i e;have:=hr x qe;omega
    subst hx
    have ih:=qez m f (x+1) r (fun j hj hj2=>by
     rw[hb j qc qc,zie]
     exact⟨fun q=>q.resolve_left qc,.inr⟩) (fun y hy=>by have:=h1 y hy;have:=hr y (by simp[hy]);omega) h2
    rw[ih];rfl
  ·rw[if_neg hi]
   have hn:i∉L:=fun q=>hi ((hb i (zif _) qc).mpr q)
   exact qez m f (i+1) L (fun j hj hj2=>hb j qc qc) (fun y hy=>by
    have:=hr y hy
    have:y≠i:=fun e=>hn (e▸hy)
    omega) hp
def VJ(a:List Int):List Int:=a.set (a.length-1) (a.getD (a.length-1) 0+1)
def xL:List Int->Nat->List Nat->List Int
 |a,_,[]=>a
 |a,e,x::r=>if x=e then xL (VJ a) (x+1) r else xL (a++[(x:Int),0]) (x+1) r
theorem za9(a:List Int)(s n:Int):VJ (a++[s,n])=a++[s,n+1]:=by
 have e1:(a++[s,n]).length-1=a.length+1:=qe
 unfold VJ
 rw[e1,zlk _ _ qc,zia,zil qc]
 have e2:a.length+1-a.length=1:=qc
 rw[e2];rfl
theorem qy0(m:Nat)(A:List Int)(s:Int):∀(g k:Nat) (c:Int) (L:List Nat),(∀j,k+1<=j->j<256->(m.testBit j=true↔j∈L))->(∀x∈L,k+1<=x/\x<256)->L.Pairwise (·<·)->k+g=255->
 ∃L2,xL (A++[s,c]) (k+1) L=xL (A++[s,c+((yS m g k-k:Nat):Int)]) (yS m g k+1) L2/\(∀j,yS m g k+1<=j->j<256->(m.testBit j=true↔j∈L2))/\(∀x∈L2,yS m g k+1<x/\x<256)/\L2.Pairwise (·<·):=by
 intro g
 induction g with
 |zero=>
  intro k c L hb hr hp hk
  have e:L=[]:=by
   cases L with
   |nil=>rfl
   |cons x r=>have:=hr x qe;omega
  subst e
  refine⟨[],?_,by simpa[yS]using hb,qe,List.Pairwise.nil⟩
  simp[xL,yS]
 |succ g ih=>
  intro k c L hb hr hp hk
  unfold yS
  by_cases hi:m.testBit (k+1)=true
  ·rw[if_pos hi]
   have hm:=(hb (k+1) (zif _) qc).mp hi
   cases L with
   |nil=>cases hm
   |cons x r=>
    obtain⟨h1,h2⟩:=zii.mp hp
    have hx:x=k+1:=by
     rcases zie.mp hm with e|e
     ·exact e.symm
     ·have:=h1 _ e;have:=hr x qe;omega
    subst hx
    obtain⟨L2,a1,a2,a3,a4⟩:=ih (k+1) (c+1) r (fun j hj hj2=>by
     rw[hb j qc qc,zie]
     exact⟨fun q=>q.resolve_left qc,.inr⟩) (fun y hy=>by have:=h1 y hy;have:=hr y (by simp[hy]);omega) h2 qc
    have hge:=(QE m g (k+1)).1
    refine⟨L2,?_,a2,a3,a4⟩
    rw[xL,if_pos rfl,za9,a1]
    congr 3
    have:c+1+((yS m g (k+1)-(k+1):Nat):Int)=c+((yS m g (k+1)-k:Nat):Int):=qc
    rw[this]
  ·rw[if_neg hi]
   refine⟨L,?_,hb,fun x hx=>?_,hp⟩
   ·simp
   ·have:=hr x hx
    have:x≠k+1:=fun e=>hi ((hb _ (zif _) qc).mpr (e▸hx))
    omega
theorem qy1(m:Nat):∀(f i e:Nat) (A:List Int) (L:List Nat),(∀j,i<=j->j<256->(m.testBit j=true↔j∈L))->(∀x∈L,i<=x/\x<256)->L.Pairwise (·<·)->e∉L->256<=i+f->
 xL A e L=A++Jk m f i:=by
 intro f
 induction f with
 |zero=>
  intro i e A L hb hr hp he hf
  cases L with
  |nil=>simp[xL,Jk]
  |cons x r=>have:=hr x qe;omega
 |succ f ih=>
  intro i e A L hb hr hp he hf
  unfold Jk
  by_cases h256:256<=i
  ·rw[if_pos h256]
   cases L with
   |nil=>simp[xL]
   |cons x r=>have:=hr x qe;omega
  ·rw[if_neg h256]
   by_cases hi:m.testBit i=true
   ·rw[if_pos hi]
    have hm:=(hb i (zif _) qc).mp hi
    cases L with
    |nil=>cases hm
    |cons x r=>
     obtain⟨h1,h2⟩:=zii.mp hp
     have hx:x=i:=by
      rcases zie.mp hm with q|q
      ·exact q.symm
      ·have:=h1 _ q;have:=hr x qe;omega
     subst hx
     obtain⟨L2,a1,a2,a3,a4⟩:=qy0 m A x (255-x) x 0 r (fun j hj hj2=>by
      rw[hb j qc qc,zie]
      exact⟨fun q=>q.resolve_left qc,.inr⟩) (fun y hy=>by have:=h1 y hy;have:=hr y (by simp[hy]);omega) h2 qc
     have hge:=(QE m (255-x) x).1
     have hne:¬(x=e):=fun q=>he (by simp[q])
     rw[xL,if_neg hne,a1,ih (yS m (255-x) x+1) _ _ L2 a2 (fun y hy=>by have:=a3 y hy;omega) a4 (fun q=>by have:=a3 _ q;omega) qc]
     simp
   ·rw[if_neg hi]
    have hn:i∉L:=fun q=>hi ((hb i (zif _) qc).mpr q)
    exact ih (i+1) e A L (fun j hj hj2=>hb j qc qc) (fun y hy=>by
     have:=hr y hy
     have:y≠i:=fun q=>hn (q▸hy)
     omega) hp he qc
theorem QU(m:Nat):∀f i,(xv m f i).length=f
 |0,_=>rfl
 |f+1,i=>by simp[xv,QU m f (i+1)]
theorem Kf(m:Nat):∀f i q,q<f->(xv m f i)[q]?=some ((m/2^(8*(i+q))%256:Nat):Int)
 |0,_,_,h=>by omega
 |f+1,i,0,_=>rfl
 |f+1,i,q+1,h=>by
  have ih:=Kf m f (i+1) q qc
  have e:i+1+q=i+(q+1):=qc
  rw[e]at ih
  exact ih
theorem qig:∀f i,xv 0 f i=List.replicate f 0
 |0,_=>rfl
 |f+1,i=>by
  rw[zkz,<-qig f (i+1)]
  simp[xv]
theorem zgp:(∀y:BitVec 8,y.getLsbD 0=false->(y|||1#8).toNat=y.toNat+1)/\(∀y:BitVec 8,y.getLsbD 1=false->(y|||2#8).toNat=y.toNat+2)/\(∀y:BitVec 8,y.getLsbD 2=false->(y|||4#8).toNat=y.toNat+4)/\
 (∀y:BitVec 8,y.getLsbD 3=false->(y|||8#8).toNat=y.toNat+8)/\(∀y:BitVec 8,y.getLsbD 4=false->(y|||16#8).toNat=y.toNat+16)/\(∀y:BitVec 8,y.getLsbD 5=false->(y|||32#8).toNat=y.toNat+32)/\
 (∀y:BitVec 8,y.getLsbD 6=false->(y|||64#8).toNat=y.toNat+64)/\(∀y:BitVec 8,y.getLsbD 7=false->(y|||128#8).toNat=y.toNat+128):=by
 refine⟨?_,?_,?_,?_,?_,?_,?_,?_⟩<;>decide
theorem qzj(y k:Nat)(hy:y<256)(hk:k<8)(hb:y.testBit k=false):y|||2^k=y+2^k:=by
 have key:∀c:Nat,c<256->(BitVec.ofNat 8 y|||BitVec.ofNat 8 c).toNat=y|||c:=by
  intro c hc
  rw[zl9,zmh,zmh,zju (show y<2^8 from hy),zju (show c<2^8 from hc)]
 have hb':(BitVec.ofNat 8 y).getLsbD k=false:=by rw[BitVec.getLsbD_ofNat,hb];simp
 have ht:(BitVec.ofNat 8 y).toNat=y:=by rw[zmh];exact zju hy
 obtain⟨b0,b1,b2,b3,b4,b5,b6,b7⟩:=zgp
 have hc:k=0\/k=1\/k=2\/k=3\/k=4\/k=5\/k=6\/k=7:=qc
 rcases hc with e|e|e|e|e|e|e|e<;>subst e
 ·have:=b0 _ hb';rw[ht]at this;rw[<-key 1 qf];exact this
 ·have:=b1 _ hb';rw[ht]at this;rw[<-key 2 qf];exact this
 ·have:=b2 _ hb';rw[ht]at this;rw[<-key 4 qf];exact this
 ·have:=b3 _ hb';rw[ht]at this;rw[<-key 8 qf];exact this
 ·have:=b4 _ hb';rw[ht]at this;rw[<-key 16 qf];exact this
 ·have:=b5 _ hb';rw[ht]at this;rw[<-key 32 qf];exact this
 ·have:=b6 _ hb';rw[ht]at this;rw[<-key 64 qf];exact this
 ·have:=b7 _ hb';rw[ht]at this;rw[<-key 128 qf];exact this
theorem qn0(m x q:Nat)(hb:m.testBit x=false):(m|||2^x)/2^(8*q)%256=if x/8=q then m/2^(8*q)%256+2^(x%8)else m/2^(8*q)%256:=by
 by_cases h:x/8=q
 ·rw[if_pos h]
  have hbb:(m/2^(8*q)%256).testBit (x%8)=false:=by
   rw[VH m q (x%8) qc,show 8*q+x%8=x by omega];exact hb
  rw[<-qzj _ (x%8) (zl6 _ qf) qc hbb]
  have e256:(256:Nat)=2^8:=qf
  apply zj5
  intro j
  by_cases hj:j<8
  ·rw[VH _ q j hj,zki,zki,VH m q j hj,zjq,zjq]
   congr 1
   apply decide_eq_decide.mpr;omega
  ·have h1:((m|||2^x)/2^(8*q)%256).testBit j=false:=by rw[e256,zkk];simp[hj]
   have h2:(m/2^(8*q)%256).testBit j=false:=by rw[e256,zkk];simp[hj]
   have h3:(2^(x%8)).testBit j=false:=by rw[zjq];simp;omega
   rw[zki,h1,h2,h3];rfl
 ·rw[if_neg h]
  apply zj5
  intro j
  have e256:(256:Nat)=2^8:=qf
  rw[e256,zkk,zkk,zle,zle,zki,zjq]
  by_cases hj:j<8
  ·have:¬(x=j+8*q):=qc
   simp[hj,this]
  ·simp[hj]
theorem qwr(m x:Nat)(hx:x<256)(hb:m.testBit x=false):xv (m|||2^x) 32 0=(xv m 32 0).set (x/8) ((m/2^(8*(x/8))%256+2^(x%8):Nat):Int):=by
 apply zkv
 intro q
 rw[zmk,QU]
 by_cases hq:q<32
 ·rw[Kf _ 32 0 q hq,Kf _ 32 0 q hq,ziw,qn0 m x q hb]
  by_cases h:x/8=q
  ·subst h
   simp;omega
  ·simp[h]
 ·have e1:(xv (m|||2^x) 32 0)[q]?=none:=zjd (by rw[QU];omega)
  have e2:(xv m 32 0)[q]?=none:=zjd (by rw[QU];omega)
  rw[e1,e2]
  have:¬(x/8=q):=qc
  simp[this]
theorem Vz:∀(l:List Nat) (key:Nat),jp l->(∀x∈l.head?,x/256=key)->l≠[]->
 ∃a b,l=a++b/\a≠[]/\(∀x∈a,x/256=key)/\(∀x∈b.head?,x/256≠key)/\JV l=(key,zj (a.map (·%256)))::JV b/\(a.map (·%256)).Pairwise (·<·)
 |[],_,_,_,h=>absurd rfl h
 |x::r,key,hr,hk,_=>by
  have hx:x/256=key:=hk x qe
  cases r with
  |nil=>
   refine⟨[x],[],rfl,qe,by simpa using hx,qe,?_,qe⟩
   simp[JV,qdz,zj,hx]
  |cons y s=>
   have hxy:x<y:=hr.1
   by_cases hy:y/256=key
   ·obtain⟨a,b,e,ha,h1,h2,h3,h4⟩:=Vz (y::s) key hr.2 (by simpa using hy) qe
    refine⟨x::a,b,by rw[e];rfl,qe,?_,h2,?_,?_⟩
    ·intro z hz
     rcases zie.mp hz with q|q
     ·rw[q];exact hx
     ·exact h1 z q
    ·show qdz x (JV (y::s))=_
     rw[h3,QF,if_pos hx.symm]
     rfl
    ·rw[zjc,zii]
     refine⟨fun z hz=>?_,h4⟩
     obtain⟨w,hw,rfl⟩:=ziu.mp hz
     have hw2:=qao (y::s) x hr w (by rw[e];exact List.mem_append_left _ hw)
     have:=h1 w hw
     omega
   ·refine⟨[x],y::s,rfl,qe,by simpa using hx,by simpa using hy,?_,qe⟩
    show qdz x (JV (y::s))=_
    obtain⟨a,b,e,ha,h1,h2,h3,h4⟩:=Vz (y::s) (y/256) hr.2 qe qe
    rw[h3,QF,if_neg (by rw[hx];exact hy)]
    simp[zj,hx]
end Go.Proofs.YtoliekekdmfngaaGreat.AI
