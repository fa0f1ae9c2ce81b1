/- Texts that the proof of BoxOrders rests on, part 4. -/
import Derived.Test.YtoliekekdmfngaaGreatQBoxOrders3
import Derived.Below
import Derived.ProofKit
import Derived.RowKit
import Derived.OpenShut
import Derived.ChangeOld
import Derived.SizedLaws
import Derived.Carry
import GoSem.Core.Float
import GoSem.Core.View
namespace Go.Proofs.YtoliekekdmfngaaGreat.AI
open Go Go.RowKit
set_option linter.unusedVariables false
set_option linter.unusedSimpArgs false
def YN(W:World):Gh where
 Om b:=if b<W.heap.size then .oth else .fr
 I b:=match W.heap[b]? with
  |some (.cells arr _ _)=>arr.size
  |_=>0
 mu _ _:=none
 la _ _:=none
theorem hpI0(W:World):HpI (YN W) W hp0 where
 heap b g cs h:=by cases h
 next b g _:=rfl
 hlt b g cs h:=by cases h
 new b hb:=⟨by simp[YN];omega,by simp[YN,zj2 hb]⟩
 vars b hb:=by
  exfalso
  rcases hb with⟨k,g,h⟩|⟨k,g,h⟩<;>simp only[YN]at h<;>split at h<;>cases h
theorem quu{W W':World}{G':Gh}(h:Fr (YN W) W G' W'):Below W.heap.size W W':=
 ⟨h.rest.1,h.rest.2.1,h.rest.2.2,h.size,fun k hk=>(h.same k hk (.inr (by simp[YN,hk]))).1⟩
theorem arg_sc(W:World)(v:Value)(h:v.oneCell'=true):YS (YN W) W (.sc v) v:=fun _=>RelR.sc v h
theorem qzp{W:World}{b i:Nat}{c:Value}(h:W.cell? ⟨b,i,none⟩=some c):i<(YN W).I b:=by
 simp only[World.cell?]at h
 simp only[YN]
 split at h
 ·rename_i arr t fz e
  rw[e]
  exact(zh4.mp (by simpa using h)).1
 ·cases h
theorem qj5{W:World}{a:Addr}{n cap sz:Nat}{cs:List AV}{vs:List Value}(hsz:0<sz)(hcs:cs.length=n*sz)(hlen:vs.length=cs.length)(hcap:n<=cap)
 (hcell:∀(i:Nat) (v:Value),vs[i]?=some v->W.cell? (a.add i)=some v) (hvl:∀x∈cs,vl x=true) (hrel:∀(i:Nat) (x:AV) (v:Value),cs[i]?=some x->vs[i]?=some v->RelR (YN W) W x v):
 YS (YN W) W (.sl sz cs) (.slice (some a) n cap):=by
 intro p
 have key:RelR (YN W) W (.sl sz cs) (.slice (some a) n cap):=by
  by_cases hn:n=0
  ·subst hn
   have:cs=[]:=zhk.mp (by simpa using hcs)
   subst this
   exact .sl0 sz a cap hsz
  ·obtain⟨b,o,sp⟩:=a
   have hpos:0<vs.length:=by rw[hlen,hcs];exact zj1 (zkm hn) hsz
   have hsp:sp=none:=by
    have h0:=hcell 0 vs[0] (zgl hpos)
    have e:(⟨b,o,sp⟩:Addr).add 0=⟨b,o,sp⟩:=rfl
    rw[e]at h0
    simp only[World.cell?]at h0
    split at h0
    ·cases sp with
     |none=>rfl
     |some q=>simp at h0
    ·cases h0
   subst hsp
   have hc':∀k c,vs[k]?=some c->W.cell? ⟨b,o+k,none⟩=some c:=fun k c hk=>by rw[<-qT];exact hcell k c hk
   refine .sl sz cs n cap b o vs hsz (zkm hn) hcs hcap ?_ hlen hc' hvl hrel
   have hl:vs.length-1<vs.length:=qc
   have:=qzp (hc' (vs.length-1) _ (zgl hl))
   omega
 exact(key.c (p 0)).v
theorem qt6{c:Cx}(hc:Ok c/\Vh c){f:FuncId}{xs:List AV}{vs:List Value}{v:Value}{hp':Hp}{W:World}(h:run c f xs hp0=some (.sc v,hp'))(hl:xs.length=vs.length)
 (ha:∀(i:Nat) (x:AV) (u:Value),xs[i]?=some x->vs[i]?=some u->YS (YN W) W x u):Calls c.P f vs.toArray W fun e W'=>e= .returned v/\Below W.heap.size W W':=by
 refine(qmt hc.1 hc.2 h (hpI0 W) hl ha).mono fun e W' hg=>?_
 obtain⟨u,G',rfl,hf,_,hr⟩:=hg
 have hr':RelR G' W' (.sc v) u:=hr
 cases hr' with
 |sc _ _=>exact⟨rfl,quu hf⟩
end Go.Proofs.YtoliekekdmfngaaGreat.AI
namespace Go.Proofs.YtoliekekdmfngaaGreat.AI
open Go
set_option linter.unusedVariables false
set_option linter.unusedSimpArgs false
set_option maxRecDepth 100000
set_option maxHeartbeats 0
section
variable (P:Program)(t:TypeId)(x y:Operand)(k k':IntKind)(a b:Int)
theorem wT(op:BinOp):eqGuard op t x y (.int k a) (.int k' b)=pure ():=by
 cases op<;>rfl
theorem zM(op:BinOp)(h:op≠ .shl)(h':op≠ .shr):qt P op t x y (.int k a) (.int k b)=one (qP P (match op with
 | .add| .sub| .mul=>Op.intArith op k a b
 | .quo| .rem=>Op.intDiv op k a b
 | .and| .or| .xor| .andNot=>Op.intBits op k a b
 |_=>Op.intCmp op a b)):=by
 unfold qt
 rw[wT]
 cases op<;>simp[Go.binOp]<;>first|rfl|exact absurd rfl h|exact absurd rfl h'
@[simp] theorem jC:qt P .add t x y (.int k a) (.int k b)=some (.int k (k.wrap (a+b))):=by rw[zM P t x y k a b .add qg qg];rfl
@[simp] theorem ko:qt P .sub t x y (.int k a) (.int k b)=some (.int k (k.wrap (a-b))):=by rw[zM P t x y k a b .sub qg qg];rfl
@[simp] theorem KU:qt P .mul t x y (.int k a) (.int k b)=some (.int k (k.wrap (a*b))):=by rw[zM P t x y k a b .mul qg qg];rfl
@[simp] theorem KV:qt P .eql t x y (.int k a) (.int k b)=some (.bool (decide (a=b))):=by rw[zM P t x y k a b .eql qg qg];show some (Value.bool (a==b))=_;congr 2
@[simp] theorem zfy:qt P .neq t x y (.int k a) (.int k b)=some (.bool (!decide (a=b))):=by rw[zM P t x y k a b .neq qg qg];show some (Value.bool (a !=b))=_;rfl
@[simp] theorem Ji:qt P .lss t x y (.int k a) (.int k b)=some (.bool (decide (a<b))):=by rw[zM P t x y k a b .lss qg qg];rfl
@[simp] theorem zfz:qt P .leq t x y (.int k a) (.int k b)=some (.bool (decide (a<=b))):=by rw[zM P t x y k a b .leq qg qg];rfl
@[simp] theorem wW:qt P .gtr t x y (.int k a) (.int k b)=some (.bool (decide (a>b))):=by rw[zM P t x y k a b .gtr qg qg];rfl
@[simp] theorem wX:qt P .geq t x y (.int k a) (.int k b)=some (.bool (decide (a>=b))):=by rw[zM P t x y k a b .geq qg qg];rfl
theorem Jh(h:b≠0):qt P .quo t x y (.int k a) (.int k b)=some (.int k (k.wrap (a.tdiv b))):=by
 rw[zM P t x y k a b .quo qg qg];simp only[Op.intDiv,h,if_false];rfl
theorem qS(h:b≠0):qt P .rem t x y (.int k a) (.int k b)=some (.int k (a.tmod b)):=by
 rw[zM P t x y k a b .rem qg qg];simp only[Op.intDiv,h,if_false];rfl
@[simp] theorem qO:qt P .and t x y (.int k a) (.int k b)=some (.int k (k.wrap (BitVec.ofInt k.bits a&&&BitVec.ofInt k.bits b).toNat)):=by rw[zM P t x y k a b .and qg qg];rfl
@[simp] theorem jk:qt P .or t x y (.int k a) (.int k b)=some (.int k (k.wrap (BitVec.ofInt k.bits a|||BitVec.ofInt k.bits b).toNat)):=by rw[zM P t x y k a b .or qg qg];rfl
@[simp] theorem jp:qt P .xor t x y (.int k a) (.int k b)=some (.int k (k.wrap (BitVec.ofInt k.bits a^^^BitVec.ofInt k.bits b).toNat)):=by rw[zM P t x y k a b .xor qg qg];rfl
@[simp] theorem zf5(c:Bool):unV P .not (.bool c)=some (.bool !c):=rfl
@[simp] theorem jr(c:Bool):asB (.bool c)=some c:=rfl
@[simp] theorem zgg:YP (.int k a)=some a:=rfl
@[simp] theorem xy(v:Value):vb (.sc v)=some v:=rfl
end
theorem qJ{α β:Type}(P:Program)(s:Sem α)(f:α->Sem β):qP P (s>>=f)=(qP P s).bind fun a=>qP P (f a):=by
 show qP P (Sem.bind s f)=_
 induction s with
 |pure a=>rfl
 |program k ih=>simp only[Sem.bind,qP];exact ih P
 |mark x k ih=>simp only[Sem.bind,qP];exact ih
 |_=>rfl
@[simp] theorem zab{α:Type}(P:Program)(a:α):qP P (pure a:Sem α)=some a:=rfl
theorem wS(P:Program)(t:TypeId)(x y:Operand)(op:BinOp)(a b:ByteArray):eqGuard op t x y (.string a) (.string b)=pure ():=by
 cases op<;>rfl
theorem zao(a b:ByteArray):(a.toList==b.toList)=decide (a.data.toList=b.data.toList):=by
 rw[ByteArray.toList_eq,ByteArray.toList_eq]
 by_cases h:a.data.toList=b.data.toList
 ·rw[h];simp
 ·rw[decide_eq_false h];exact beq_eq_false_iff_ne.mpr h
@[simp] theorem qo4 (P : Program) (t : TypeId) (x y : Operand) (a b : ByteArray) : qt P .eql t x y (.string a) (.string b) = some (.bool (decide (a.data.toList = b.data.toList))) := by
 unfold qt
 rw[wS P]
 show some (Value.bool (a.toList==b.toList))=_
 rw[zao]
@[simp] theorem zd2 (P : Program) (t : TypeId) (x y : Operand) (a b : ByteArray) : qt P .neq t x y (.string a) (.string b) = some (.bool (!decide (a.data.toList = b.data.toList))) := by
 unfold qt
 rw[wS P]
 show some (Value.bool (!(a.toList==b.toList)))=_
 rw[zao]
def Rd(sz:Nat)(x:AV)(cs:List AV):Prop:=x= .sl sz cs\/x= .us sz cs\/(x= .sc nil0/\cs=[])
section
variable {sz:Nat}{x:AV}{cs:List AV}
theorem Rd.ro(h:Rd sz x cs):Rd sz (AI.ro x) cs:=by
 rcases h with rfl|rfl|⟨rfl,rfl⟩
 ·exact .inl rfl
 ·exact .inl rfl
 ·exact .inr (.inr ⟨rfl,rfl⟩)
theorem Rd.ro1(h:Rd sz x cs):Rd sz (AI.ro1 x) cs:=by
 rcases h with rfl|rfl|⟨rfl,rfl⟩
 ·exact .inl rfl
 ·exact .inl rfl
 ·exact .inr (.inr ⟨rfl,rfl⟩)
theorem Rd.len(h:Rd 1 x cs):zA x=some cs.length:=by
 rcases h with rfl|rfl|⟨rfl,rfl⟩<;>rfl
theorem Rd.idx(h:Rd 1 x cs){k:IntKind}{z:Int}{i:Nat}{y:AV}(hz:z=(i:Int))(hy:cs[i]?=some y):jc 1 x (.int k z)=some [y]:=by
 subst hz
 have hlt:=(zgq.mp hy).1
 have key:((AI.idx (if 1=1 then cs.length else cs.length/1) (.int k (i:Int))).bind fun i=>qn cs (i*1) 1)=some [y]:=by
  have hc:(0:Int)<=(i:Int)/\(i:Int)<(cs.length:Int):=⟨zja i,qc⟩
  simp only[if_true,AI.idx,YP,zgh,hc,and_self,zgu,zhu]
  unfold qn
  rw[if_pos qc]
  congr 1
  obtain⟨h1,h2⟩:=zgq.mp hy
  rw[zhp h1,h2]
  rfl
 rcases h with rfl|rfl|⟨rfl,rfl⟩
 ·simp only[jc,if_true];simpa using key
 ·simp only[jc,if_true];simpa using key
 ·simp at hy
end
def Wd(sz:Nat)(x:AV)(cs:List AV):Prop:=x= .us sz cs\/(x= .sc nil0/\cs=[])
theorem Wd.rd{sz:Nat}{x:AV}{cs:List AV}(h:Wd sz x cs):Rd sz x cs:=by
 rcases h with rfl|⟨rfl,rfl⟩
 ·exact .inr (.inl rfl)
 ·exact .inr (.inr ⟨rfl,rfl⟩)
def qkc(ys:List AV):Prop:=ys.map ro1=ys
theorem Wd.app{bytes sz:Nat}{d s:AV}{cs ys:List AV}(hd:Wd sz d cs)(hs:Rd sz s ys)(hf:qkc ys)(hfit:ys≠[]->jP bytes sz (cs.length+ys.length)=true):
 ∃z,yB bytes sz d s=some z/\Wd sz z (cs++ys):=by
 have hsrc:yT sz s=some ys:=by
  rcases hs with rfl|rfl|⟨rfl,rfl⟩
  ·simp[yT]
  ·simp[yT]
  ·rfl
 unfold yB qdc
 rw[hsrc]
 simp only[zgh]
 cases ys with
 |nil=>
  rw[zhd]
  rcases hd with rfl|⟨rfl,rfl⟩
  ·exact⟨.us sz cs,qf,.inl rfl⟩
  ·exact⟨.sc nil0,rfl,.inr ⟨rfl,rfl⟩⟩
 |cons y ys=>
  have hfit:=hfit qf
  rcases hd with rfl|⟨rfl,rfl⟩
  ·refine⟨.us sz (cs++(y::ys)),?_,.inl rfl⟩
   have hf':(y::ys).map ro1=y::ys:=hf
   have hfit2:jP bytes sz (cs.length+(ys.length+1))=true:=by simpa using hfit
   have hm:ro1 y::List.map ro1 ys=y::ys:=hf'
   simp[hfit2,hm]
  ·refine⟨.us sz (y::ys),?_,.inl rfl⟩
   have hf':(y::ys).map ro1=y::ys:=hf
   have hfit':jP bytes sz (y::ys).length=true:=by simpa using hfit
   have hn:kL nil0=true:=rfl
   simp only[hn,zjo,hfit',if_true,hf',zg2]
theorem qk{z:Int}(h1:-9223372036854775808<=z)(h2:z<9223372036854775808):IntKind.i64.wrap z=z:=by
 rw[IntKind.wrap_i64];omega
theorem qi{p:Prop}(h:p:=by rw[qk]<;>omega):p:=h
@[simp] theorem zei:IntKind.i64.wrap 0=0:=rfl
@[simp] theorem zeh:IntKind.i64.wrap 1=1:=rfl
@[simp] theorem zeg:IntKind.i64.wrap 2=2:=rfl
@[simp] theorem zef:IntKind.i64.wrap 3=3:=rfl
@[simp] theorem zee:IntKind.i64.wrap 4=4:=rfl
@[simp] theorem zed:IntKind.i64.wrap 5=5:=rfl
@[simp] theorem zec:IntKind.i64.wrap 6=6:=rfl
@[simp] theorem zeb:IntKind.i64.wrap 7=7:=rfl
@[simp] theorem zea:IntKind.i64.wrap 8=8:=rfl
@[simp] theorem zd9:IntKind.i64.wrap 9=9:=rfl
@[simp] theorem zdv:IntKind.i64.wrap 10=10:=rfl
@[simp] theorem zdu:IntKind.i64.wrap 11=11:=rfl
@[simp] theorem zdt:IntKind.i64.wrap 12=12:=rfl
@[simp] theorem zds:IntKind.i64.wrap 13=13:=rfl
@[simp] theorem zdr:IntKind.i64.wrap 14=14:=rfl
@[simp] theorem zdq:IntKind.i64.wrap 15=15:=rfl
@[simp] theorem zdp:IntKind.i64.wrap 16=16:=rfl
def S(k sz:Nat)(cs:List AV):AV:=
 match k with
 |0=>.sl sz cs
 |1=>.us sz cs
 |2=>match cs with
  |[]=>.sc nil0
  |_=>.us sz cs
 |_=>match cs with
  |[]=>.sc nil0
  |_=>.sl sz cs
def rk:Nat->Nat
 |0=>0
 |1=>0
 |_=>3
def tg(k:Nat)(cs:List AV):Nat:=
 match cs with
 |[]=>rk k
 |_=>0
@[simp] theorem rk_rk (k : Nat) : rk (rk k) = rk k := by
 match k with
 |0=>rfl
 |1=>rfl
 |n+2=>rfl
@[simp] theorem rk0:rk 0=0:=rfl
@[simp] theorem rk1:rk 1=0:=rfl
@[simp] theorem rk2:rk 2=3:=rfl
@[simp] theorem rk3:rk 3=3:=rfl
section
variable (k sz:Nat)(cs:List AV)
theorem zi:S k sz cs= .sl sz cs\/S k sz cs= .us sz cs\/(S k sz cs= .sc nil0/\cs=[]):=by
 unfold S
 match k,cs with
 |0,_=>exact .inl rfl
 |1,_=>exact .inr (.inl rfl)
 |2,[]=>exact .inr (.inr ⟨rfl,rfl⟩)
 |2,_::_=>exact .inr (.inl rfl)
 |n+3,[]=>exact .inr (.inr ⟨rfl,rfl⟩)
 |n+3,_::_=>exact .inl rfl
@[simp] theorem ro1_S : ro1 (S k sz cs) = S (rk k) sz cs := by
 match k,cs with
 |0,_=>rfl
 |1,_=>rfl
 |2,[]=>rfl
 |2,_::_=>rfl
 |n+3,[]=>rfl
 |n+3,_::_=>rfl
@[simp] theorem ro_S : ro (S k sz cs) = S (rk k) sz cs := by
 match k,cs with
 |0,_=>rfl
 |1,_=>rfl
 |2,[]=>rfl
 |2,_::_=>rfl
 |n+3,[]=>rfl
 |n+3,_::_=>rfl
theorem rd_S:Rd sz (S k sz cs) cs:=zi k sz cs
@[simp] theorem zG:zA (S k 1 cs)=some cs.length:=(rd_S k 1 cs).len
@[simp] theorem JQ (K : IntKind) (z : Int) : jc 1 (S k 1 cs) (.int K z) = if 0 ≤ z then (cs[z.toNat]?).map fun c => [c] else none := by
 by_cases hz:0<=z
 ·rw[if_pos hz]
  cases h:cs[z.toNat]? with
  |some y=>exact(rd_S k 1 cs).idx qc h
  |none=>
   have hl:cs.length<=z.toNat:=by simpa using h
   have hn:¬(z<(cs.length:Int)):=qc
   rcases zi k 1 cs with e|e|⟨e,e'⟩
   ·rw[e];simp[jc,idx,YP,hn]
   ·rw[e];simp[jc,idx,YP,hn]
   ·rw[e];rfl
 ·rw[if_neg hz]
  rcases zi k 1 cs with e|e|⟨e,e'⟩
  ·rw[e];simp[jc,idx,YP,hz]
  ·rw[e];simp[jc,idx,YP,hz]
  ·rw[e];rfl
@[simp] theorem zft : ql 1 (S k sz cs) = some [S k sz cs] := by
 rcases zi k sz cs with e|e|⟨e,e'⟩<;>rw[e]<;>rfl
@[simp] theorem zf9 : yr (S k sz cs) = some () := by
 rcases zi k sz cs with e|e|⟨e,e'⟩<;>rw[e]<;>rfl
@[simp] theorem zbc : yT sz (S k sz cs) = some cs := by
 rcases zi k sz cs with e|e|⟨e,e'⟩
 ·rw[e];simp[yT]
 ·rw[e];simp[yT]
 ·rw[e,e'];rfl
@[simp] theorem us_S:AV.us sz cs=S 1 sz cs:=rfl
@[simp] theorem sl_S:AV.sl sz cs=S 0 sz cs:=rfl
end
@[simp] theorem nil_S1:AV.sc (Value.slice none 0 0)=S 2 1 []:=rfl
@[simp] theorem S3_nil(sz:Nat):S 3 sz []=S 2 sz []:=rfl
theorem xM(k:Nat)(cs:List AV)(K:IntKind)(z:Int)(h:0<=z)(h':z<=cs.length):jb 1 (S k 1 cs) (some (.int K z)) none none=some (S (tg k cs) 1 (cs.drop z.toNat)):=by
 obtain⟨i,rfl⟩:∃i:Nat,z=i:=⟨z.toNat,qc⟩
 have hi:i<=cs.length:=qc
 have hb:∀n:Nat,i<=n->qC 0 (n:Int) (some (.int K (i:Int))) 0=some i:=by
  intro n hn
  have:(0:Int)<=(i:Int)/\(i:Int)<=(n:Int):=⟨zja i,qc⟩
  simp only[qC,YP,zgh,this,and_self,if_true,zgu]
 have key:(cs.drop (i*1)).take ((cs.length-i)*1)=cs.drop i:=by
  rw[zhu,zhu]
  exact zg4 qf
 have this:=hb cs.length hi
 simp only[qC]at this
 have a:jb 1 (.sl 1 cs) (some (.int K i)) none none=some (.sl 1 (cs.drop i)):=by
  simp only[jb,if_true]
  show(qC 0 _ none _).bind _=_
  simp only[qC,zgh]
  rw[this]
  simp only[zgh,key]
 have b:jb 1 (.us 1 cs) (some (.int K i)) none none=some (.sl 1 (cs.drop i)):=by
  simp only[jb,if_true]
  show(qC 0 _ none _).bind _=_
  simp only[qC,zgh]
  rw[this]
  simp only[zgh,key]
 rw[zgu]
 match k,cs with
 |0,[]=>exact a
 |0,_::_=>exact a
 |1,[]=>exact b
 |1,_::_=>exact b
 |2,[]=>obtain rfl:i=0:=by simpa using hi
        rfl
 |2,_::_=>exact b
 |n+3,[]=>obtain rfl:i=0:=by simpa using hi
          rfl
 |n+3,_::_=>exact a
theorem Vd(b sz k:Nat)(cs ys:List AV)(k':Nat)(hk:k=1\/k=2)(hf:qkc ys)(hfit:ys=[]\/jP b sz (cs.length+ys.length)=true):
 yB b sz (S k sz cs) (S k' sz ys)=some (S k sz (cs++ys)):=by
 unfold yB qdc
 rw[zbc]
 simp only[zgh]
 have hf':ys.map ro1=ys:=hf
 match ys,hf',hfit with
 |[],_,_=>
  rw[zhd]
  rcases hk with rfl|rfl
  ·show(if sz=sz then some (AV.us sz cs)else none)=_
   rw[if_pos rfl];rfl
  ·cases cs with
   |nil=>rfl
   |cons c cs=>exact if_pos rfl
 |y::ys,hf',hfit=>
  have hfit:jP b sz (cs.length+(y::ys).length)=true:=hfit.resolve_left qf
  rcases hk with rfl|rfl
  ·simp only[S,hf',hfit,Bool.and_true,decide_true,if_true]
  ·cases cs with
   |nil=>
    have h0:jP b sz (y::ys).length=true:=by simpa using hfit
    simp only[S,hf',h0,kL,nil0,Bool.and_true,if_true,zg2]
   |cons c cs=>simp only[S,hf',hfit,Bool.and_true,decide_true,if_true,zib]
theorem xw{b sz n:Nat}(hb:0<b)(h:n*b<=140737488355328*sz):jP b sz n=true:=by
 simp[jP,h,hb]
@[simp] theorem qf3(v:Value):qkc [.sc v]:=rfl
theorem qux{α:Type}(f:α->Value)(l:List α):qkc (l.map fun x=>.sc (f x)):=by
 unfold qkc;rw[zkt];rfl
@[simp] theorem qsr(v:Value):ro1 (.sc v)= .sc v:=rfl
@[simp] theorem zeo(v:Value):ro (.sc v)= .sc v:=rfl
@[simp] theorem zbp(l:List AV):ro (.agg l)= .agg (l.map ro1):=rfl
@[simp] theorem zey(v:Value):yr (.sc v)=some ():=rfl
@[simp] theorem zdx(l:List AV):yr (.agg l)=some ():=rfl
@[simp] theorem YH (k sz : Nat) (cs : List AV) : vl (S k sz cs) = true := by
 rcases zi k sz cs with e|e|⟨e,e'⟩<;>rw[e]<;>rfl
@[simp] theorem vlF_S (k sz : Nat) (cs : List AV) : vlF (S k sz cs) = true := by
 rcases zi k sz cs with e|e|⟨e,e'⟩<;>rw[e]<;>rfl
@[simp] theorem vlV_S (k sz : Nat) (cs : List AV) : vlV (S k sz cs) = true := by
 rcases zi k sz cs with e|e|⟨e,e'⟩<;>rw[e]<;>rfl
@[simp] theorem vl_sc(v:Value):vl (.sc v)=true:=rfl
@[simp] theorem vlF_sc(v:Value):vlF (.sc v)=true:=rfl
@[simp] theorem vlV_sc(v:Value):vlV (.sc v)=true:=rfl
@[simp] theorem zf4(l:List AV):vlF (.agg l)=l.all vl:=rfl
@[simp] theorem zf3(l:List AV):vlV (.agg l)=l.all vl:=rfl
@[simp] theorem zf2(l:List AV):vlV (.tup l)=l.all vlF:=rfl
@[simp] theorem vl_fn(f:FuncId):vl (.fn f [])=true:=rfl
@[simp] theorem vlF_fn(f:FuncId):vlF (.fn f [])=true:=rfl
@[simp] theorem qn0(xs caps:List AV):jf xs caps=va (xs.all vlF=true/\caps.all vl=true):=rfl
@[simp] theorem vM(a b:Nat):jo a b=va (a=b):=rfl
@[simp] theorem zgf(b:Bool):qc7 b=va (b=true):=rfl
@[simp] theorem zby(cs:List AV):kC cs=va (cs.all vl=true):=rfl
@[simp] theorem tN_eq(n:Int):tN n=n.toNat:=rfl
theorem Wz{b z:Nat}{n:Int}(h0:0<=n)(hf:n.toNat*b<=140737488355328)(hb:0<b)(hz:0<z):QQ b z n n=some ():=
 if_pos ⟨rfl,h0,by simp[jP];omega,hz⟩
@[simp] theorem qtr(y:AV):yp y=va (vlV y=true):=rfl
theorem yy{p:Prop}[Decidable p](h:p):va p=some ():=if_pos h
@[simp] theorem kh:va True=some ():=rfl
@[simp] theorem Zh{α:Type}[DecidableEq α](a:α):va (a=a)=some ():=if_pos rfl
@[simp] theorem zf1(l:List AV):qzx (.agg l)=some l:=rfl
@[simp] theorem zc3(n:Nat)(l:List AV):kZ n (.tup l)=if l.length=n then some ()else none:=rfl
@[simp] theorem zex(l:List AV)(i:Nat):js (.tup l) i=l.getD i (.tup []):=rfl
theorem qtq(v:Value):yp (.sc v)=some ():=by rw[qtr];exact if_pos qf
@[simp] theorem zfs:va (True/\True)=some ():=rfl
@[simp] theorem zc4(n:Nat)(l:List AV):ql n (.agg l)=if l.length=n then some l else none:=rfl
@[simp] theorem zf0:vb (.sc nil0)=some nil0:=rfl
theorem qu{α:Type}{l:List α}{i:Nat}{x:α}{r:List α}(h:l.drop i=x::r):l[i]?=some x/\l.drop (i+1)=r/\∃h:i<l.length,l[i]=x:=by
 have hi:i<l.length:=by
  by_cases hi:i<l.length
  ·exact hi
  ·rw[zhi qc]at h;cases h
 rw[zhp hi]at h
 injection h with h1 h2
 exact⟨by rw[zgl hi,h1],h2,hi,h1⟩
theorem qA{α:Type}{l:List α}{i:Nat}(h:l.drop i=[]):l.length<=i:=by simpa using h
def LI(K:IntKind)(l:List Int):List AV:=l.map fun n=>.sc (.int K n)
section
variable (K:IntKind)(l:List Int)
theorem ql2:qkc (LI K l):=qux _ l
@[simp] theorem vlI:(LI K l).all vl=true:=by simp[LI,List.all_map]
@[simp] theorem vf:(LI K l).length=l.length:=by simp[LI]
@[simp] theorem qjk?(i:Nat):(LI K l)[i]?=(l[i]?).map fun n=>.sc (.int K n):=by simp[LI]
@[simp] theorem qjk(i:Nat)(h:i<(LI K l).length):(LI K l)[i]= .sc (.int K (l[i]'(by simpa using h))):=by simp[LI]
@[simp] theorem zfm(i:Nat):(LI K l).drop i=LI K (l.drop i):=by simp[LI]
@[simp] theorem tailI:(LI K l).tail=LI K l.tail:=by simp[LI]
@[simp] theorem nilI:LI K []=[]:=rfl
theorem qdf(k:Nat)(hk:k=1\/k=2)(b:Nat)(hb:0<b/\b<=1000)(n:Int)(h:l.length<=1000000):yB b 1 (S k 1 (LI K l)) (S 1 1 [.sc (.int K n)])=some (S k 1 (LI K (l++[n]))):=by
 rw[Vd b 1 k _ _ 1 hk (qf3 _) (.inr (xw hb.1 ?_))]
 ·simp[LI]
 ·simp only[vf,zgk,zhh]
  have:(l.length+(0+1))*b<=1000001*1000:=zh0 qc hb.2
  omega
theorem Va(k:Nat)(hk:k=1\/k=2)(b:Nat)(hb:0<b/\b<=1000)(k':Nat)(m:List Int)(h:l.length+m.length<=1000000):yB b 1 (S k 1 (LI K l)) (S k' 1 (LI K m))=some (S k 1 (LI K (l++m))):=by
 rw[Vd b 1 k _ _ k' hk (ql2 _ _) (.inr (xw hb.1 ?_))]
 ·simp[LI]
 ·simp only[vf]
  have:(l.length+m.length)*b<=1000000*1000:=zh0 qc hb.2
  omega
end
section
variable (P:Program)(t:TypeId)(x y:Operand)(k k':IntKind)(a b:Int)
theorem zZ(h:0<=b):qt P .shr t x y (.int k a) (.int k' b)=some (.int k (a.fdiv (2^(min b.toNat k.bits)))):=by
 unfold qt
 rw[wT]
 simp only[Go.binOp,Op.shift]
 rw[if_neg qc]
 rfl
theorem jq(h:0<=b):qt P .shl t x y (.int k a) (.int k' b)=some (.int k (k.wrap (a*2^(min b.toNat k.bits)))):=by
 unfold qt
 rw[wT]
 simp only[Go.binOp,Op.shift]
 rw[if_neg qc]
 rfl
end
theorem zJ{z:Int}(h1:0<=z)(h2:z<256):IntKind.u8.wrap z=z:=by rw[IntKind.wrap_u8];omega
theorem qV{z:Int}(h1:0<=z)(h2:z<4294967296):IntKind.u32.wrap z=z:=by rw[IntKind.wrap_u32];omega
theorem qz{z:Int}(h1:0<=z)(h2:z<18446744073709551616):IntKind.u64.wrap z=z:=by rw[IntKind.wrap_u64];omega
theorem qQ{a b:Int}(h:0<=a):a.tmod b=a%b:=Int.tmod_eq_emod_of_nonneg h
@[simp] theorem zfx (P : Program) (ts : Array TypeId) (t : TypeId) (k k' : IntKind) (a b : Int) : yE P .max ts t [.int k a, .int k' b] = some (.int k (max a b)) := by
 show some (Value.int k (if b>a then b else a))=_
 congr 2
 split<;>omega
@[simp] theorem zfw (P : Program) (ts : Array TypeId) (t : TypeId) (k k' : IntKind) (a b : Int) : yE P .min ts t [.int k a, .int k' b] = some (.int k (min a b)) := by
 show some (Value.int k (if b<a then b else a))=_
 congr 2
 split<;>omega
@[simp] theorem kb(b g o n z:Nat):qK (.ms b g o n z)=some (b,g,o,n,z):=rfl
@[simp] theorem Wl(b g o n z:Nat):ro (.ms b g o n z)= .ms b g o n z:=rfl
@[simp] theorem zbq(b g o n z:Nat):ro1 (.ms b g o n z)= .ms b g o n z:=rfl
@[simp] theorem zgb(b g o n z:Nat):zA (.ms b g o n z)=some n:=rfl
@[simp] theorem zd1(b g o n z:Nat):ql 1 (.ms b g o n z)=some [.ms b g o n z]:=rfl
@[simp] theorem zez(b g o n z:Nat):yr (.ms b g o n z)=some ():=rfl
theorem zd{n i:Nat}(K:IntKind)(h:i<n):idx n (.int K (i:Int))=some i:=by
 have h1:(i:Int)<(n:Int):=qc
 simp[idx,h1]
theorem qB(hp:Hp)(cs:List AV):(hp.new cs).rd hp.next 0=some cs:=by simp[Hp.rd,Hp.new]
theorem qr(hp:Hp)(b:Nat)(cs:List AV):(hp.put b 0 cs).rd b 0=some cs:=by simp[Hp.rd,Hp.put]
theorem QM(K:IntKind)(l:List Int)(i:Nat)(n:Int)(h:i<l.length):qm (LI K l) i [.sc (.int K n)]=some (LI K (l.set i n)):=by
 unfold qm
 rw[if_pos qh]
 congr 1
 apply ziz
 intro j
 simp only[zgk,zhh,LI,zgx,List.getElem?_append,zgi,zhj,zhv,zgt,zhb,zkq,zgk,zhh]
 by_cases h1:j<i
 ·have e1:j<min i l.length+(0+1):=qc
  have e2:j<min i l.length:=qc
  have e3:¬(i=j):=qc
  simp[e1,e2,e3,h1]
 ·by_cases h2:j=i
  ·subst h2
   have e2:¬(j<min j l.length):=qc
   have e3:j-min j l.length=0:=qc
   have e4:min j l.length=j:=qc
   simp[e2,e3,e4,h]
  ·have e1:¬(j<min i l.length+(0+1)):=qc
   have e2:¬(i=j):=qc
   have e3:i+(0+1)+(j-(min i l.length+(0+1)))=j:=qc
   have e4:¬(j<min i l.length):=qc
   simp only[e1,e2,e3,if_false]
theorem qun(cs:List AV):qn cs 0 cs.length=some cs:=by simp[qn]
theorem qy6(hp:Hp)(b:Nat)(cs:List AV)(hb:hp.rd b 0=some cs)(hv:cs.all vl=true):we hp (.ms b 0 0 cs.length 1)=some (.sl 1 (cs.map ro1),hp.del b):=by
 have e:qn cs 0 (cs.length*1)=some cs:=by rw[zhu];exact qun cs
 simp only[we,hb,zgh,e,hv,va]
 rfl
theorem Kz(K:IntKind)(l:List Int)(hp:Hp)(b:Nat)(hb:hp.rd b 0=some (LI K l)):we hp (.ms b 0 0 l.length 1)=some (S 0 1 (LI K l),hp.del b):=by
 have h:=qy6 hp b (LI K l) hb (vlI K l)
 rw[vf]at h
 rw[h,ql2 K l]
 rfl
@[simp] theorem frz1_S (k sz : Nat) (cs : List AV) (hp : Hp) : we hp (S k sz cs) = some (S k sz cs, hp) := by
 rcases zi k sz cs with e|e|⟨e,e'⟩<;>rw[e]<;>rfl
@[simp] theorem zgc(v:Value)(hp:Hp):we hp (.sc v)=some (.sc v,hp):=rfl
@[simp] theorem zfg(hp:Hp):YO hp []=some ([],hp):=rfl
@[simp] theorem zdz(hp:Hp)(x:AV)(r:List AV):YO hp (x::r)=(we hp x).bind fun p=>(YO p.2 r).bind fun q=>some (p.1::q.1,q.2):=rfl
@[simp] theorem qe9(cs:List AV):wa 1 cs=cs.length:=rfl
theorem wA(hp:Hp)(k sz:Nat)(cs:List AV):xm hp sz (S k sz cs)=some cs:=by
 unfold xm
 rcases zi k sz cs with e|e|⟨e,e'⟩<;>rw[e]
 ·simp[qK,yT]
 ·simp[qK,yT]
 ·simp[qK,yT,e',nil0]
theorem vP(K:IntKind)(l:List Int)(k:Nat)(b:Nat)(hb:0<b/\b<=1000)(hl:l.length<=1000000)(hne:l≠[])(hp:Hp):zV b 1 (S 1 1 []) (S k 1 (LI K l)) hp=some (.ms hp.next 0 0 l.length 1,hp.new (LI K l)):=by
 unfold zV
 rw[wA]
 simp only[zgh]
 cases l with
 |nil=>exact absurd rfl hne
 |cons x l=>
  have hf:jP b 1 (LI K (x::l)).length=true:=xw hb.1 (by
   rw[vf]
   have:(x::l).length*b<=1000000*1000:=zh0 hl hb.2
   omega)
  have e:LI K (x::l)= .sc (.int K x)::LI K l:=rfl
  rw[e]at hf⊢
  show(va (1=1/\jP b 1 (AV.sc (Value.int K x)::LI K l).length=true)).bind _=_
  rw[yy ⟨rfl,hf⟩]
  simp[vf]
theorem Vc(b:Nat)(k:Nat)(hp:Hp):zV b 1 (S 1 1 []) (S k 1 []) hp=some (S 1 1 [],hp):=by
 unfold zV
 rw[wA]
 rfl
theorem Vb(K:IntKind)(l:List Int)(n:Int)(b x:Nat)(hb:0<b/\b<=1000)(hl:l.length<=1000000)(hne:l≠[])(hp:Hp)(hx:hp.rd x 0=some (LI K l)):
 zV b 1 (.ms x 0 0 l.length 1) (S 1 1 [.sc (.int K n)]) hp=some (.ms hp.next 0 0 (l.length+1) 1,(hp.del x).new (LI K (l++[n]))):=by
 have hpos:0<l.length:=zh5.mpr hne
 have hf:jP b 1 (l.length*1+1)=true:=xw hb.1 (by
  have:(l.length*1+1)*b<=1000001*1000:=zh0 qc hb.2
  omega)
 unfold zV
 rw[wA]
 simp only[zgh,hx,zgk,zhh,qe9]
 rw[yy (by simp[hpos])]
 simp only[zgh]
 rw[yy ⟨by rw[vf];omega,hf⟩]
 have e:((LI K l).take (l.length*1)).map ro1++[AV.sc (.int K n)]=LI K (l++[n]):=by
  rw[zhu,zg4 qf,ql2]
  simp[LI]
 simp only[zgh,e]
theorem Zk(K:IntKind)(n:Int)(b:Nat)(hb:0<b/\b<=1000)(hp:Hp):zV b 1 (S 2 1 []) (S 1 1 [.sc (.int K n)]) hp=some (.ms hp.next 0 0 1 1,hp.new (LI K [n])):=by
 have hf:jP b 1 1=true:=xw hb.1 qc
 unfold zV
 rw[wA]
 show(va (kL nil0=true/\jP b 1 1=true)).bind _=_
 rw[yy ⟨rfl,hf⟩]
 rfl
theorem qko(K:IntKind)(n:Nat):QF (n:Int) [.int K 0]=LI K (List.replicate n 0):=by
 unfold QF LI
 rw[zgu]
 induction n with
 |zero=>rfl
 |succ n ih=>
  rw[zil,zil,zkp,ih]
  rfl
@[simp] theorem qjz(lo hi:Int)(d:Nat):qC lo hi none d=some d:=rfl
theorem yf{hi d n:Nat}(K:IntKind)(h:n<=hi):qC 0 (hi:Int) (some (.int K (n:Int))) d=some n:=by
 have h1:(n:Int)<=(hi:Int):=qc
 simp[qC,h1]
theorem zcn(K:IntKind)(l:List Int)(i n:Nat)(h:i+n<=l.length):qn (LI K l) i n=some (LI K ((l.drop i).take n)):=by
 unfold qn
 rw[if_pos (by simpa using h)]
 simp[LI,List.map_drop,zjn]
theorem qxu(K:IntKind)(l m:List Int)(i:Nat)(h:i+m.length<=l.length):qm (LI K l) i (LI K m)=some (LI K (l.take i++m++l.drop (i+m.length))):=by
 unfold qm
 rw[if_pos (by simpa using h)]
 simp[LI,List.map_drop,zjn]
theorem qz5(K:IntKind)(l:List Int)(n:Nat):(LI K l).take n=LI K (l.take n):=by simp[LI,zjn]
theorem qkv(K:IntKind)(l:List Int)(hp:Hp)(b o n:Nat)(hb:hp.rd b 0=some (LI K l))(h:o+n<=l.length):xm hp 1 (.ms b 0 o n 1)=some (LI K ((l.drop o).take n)):=by
 unfold xm
 have e:=zcn K l o n h
 have e1:va (1=1/\0<1)=some ():=yy ⟨rfl,qg⟩
 show(va (1=1/\0<1)).bind _=_
 rw[e1]
 simp only[zgh,hb,zhu,e]
 rw[ql2]
theorem qd2{q:AV×Nat}{g g':Nat->Option (Nat×List AV)}(h:ym q g=ym q g'):wB q g g'=some ():=by
 unfold wB
 exact if_pos h
@[simp] theorem zbi(q:AV×Nat)(g:Nat->Option (Nat×List AV)):wB q g g=some ():=qd2 rfl
theorem YG(K:IntKind)(l:List Int)(x:AV)(b:Nat)(hb:0<b/\b<=1000)(hl:l.length<=1000000)(hne:l≠[])(hp:Hp)(hx:xm hp 1 x=some (LI K l)):zV b 1 (S 1 1 []) x hp=some (.ms hp.next 0 0 l.length 1,hp.new (LI K l)):=by
 have h:=vP K l 0 b hb hl hne hp
 unfold zV at h⊢
 rw[wA]at h
 rw[hx]
 exact h
theorem qdv(K:IntKind)(l:List Int)(hp:Hp)(b:Nat)(hb:hp.rd b 0=some (LI K l)):xm hp 1 (.ms b 0 0 l.length 1)=some (LI K l):=by
 have h:=qkv K l hp b 0 l.length hb qc
 rwa [zjh,zg4 (zgm _)]at h
end Go.Proofs.YtoliekekdmfngaaGreat.AI
namespace Go.Proofs.YtoliekekdmfngaaGreat.AI
open Go Go.RowKit Go.ChangeShapes Go.WideShapes Go.ChangeAt
set_option linter.unusedVariables false
set_option linter.unusedSimpArgs false
def InK(k:IntKind)(n:Int):Prop:=(Lit.int k n).wf=true
theorem InK.le{k:IntKind}{n:Int}(h:InK k n):k.min<=n/\n<=k.max:=by
 simpa[InK,Lit.wf]using h
theorem InK.u8{n:Int}(h:InK .u8 n):0<=n/\n<256:=by
 have:=h.le;simp[IntKind.min,IntKind.max,IntKind.signed,IntKind.bits]at this;omega
theorem InK.u16{n:Int}(h:InK .u16 n):0<=n/\n<65536:=by
 have:=h.le;simp[IntKind.min,IntKind.max,IntKind.signed,IntKind.bits]at this;omega
theorem InK.u32{n:Int}(h:InK .u32 n):0<=n/\n<4294967296:=by
 have:=h.le;simp[IntKind.min,IntKind.max,IntKind.signed,IntKind.bits]at this;omega
theorem InK.u64{n:Int}(h:InK .u64 n):0<=n/\n<18446744073709551616:=by
 have:=h.le;simp[IntKind.min,IntKind.max,IntKind.signed,IntKind.bits]at this;omega
theorem InK.i64{n:Int}(h:InK .i64 n):-9223372036854775808<=n/\n<9223372036854775808:=by
 have:=h.le;simp[IntKind.min,IntKind.max,IntKind.signed,IntKind.bits]at this;omega
def ArgsR(W:World)(xs:List AV)(vs:List Value):Prop:=xs.length=vs.length/\∀(i:Nat) (x:AV) (u:Value),xs[i]?=some x->vs[i]?=some u->YS (YN W) W x u
theorem ArgsR.nil(W:World):ArgsR W [] []:=⟨rfl,qf⟩
theorem ArgsR.cons{W:World}{x:AV}{v:Value}{xs:List AV}{vs:List Value}(h:YS (YN W) W x v)(t:ArgsR W xs vs):ArgsR W (x::xs) (v::vs):=by
 refine⟨by simp[t.1],fun i y u hx hu=>?_⟩
 cases i with
 |zero=>
  simp at hx hu
  subst hx hu
  exact h
 |succ i=>exact t.2 i y u (by simpa using hx) (by simpa using hu)
theorem law_args{c:Cx}(hc:Ok c/\Vh c){f:FuncId}{xs:List AV}{vs:List Value}{v:Value}{hp':Hp}{W:World}(ha:ArgsR W xs vs)(h:run c f xs hp0=some (.sc v,hp')):Calls c.P f vs.toArray W fun e W'=>e= .returned v/\Below W.heap.size W W':=
 qt6 hc h ha.1 ha.2
section
variable {H:Type}{enc:TypeId×Value->H}{P:Program}{W:World}{fuel:Nat}{t e:TypeId}{cs:List Value}{y:DataW H×List MemPlace}{K:IntKind}
theorem JI(ht:P.underlying t=some (.int K))(h:DataW.trod enc P W 0 (fun _=>true) true fuel t cs=some y):∃n,cs=[.int K n]/\InK K n:=by
 obtain⟨n,h1,h2,h3⟩:=DataW.trod_int ht h
 exact⟨n,h1,h3⟩
theorem qxp(ht:P.underlying t=some .bool)(h:DataW.trod enc P W 0 (fun _=>true) true fuel t cs=some y):∃b:Bool,cs=[.bool b]:=by
 obtain⟨n,h1,h2⟩:=DataW.trod_bool ht h
 exact⟨n,h1⟩
theorem qnn{a:Addr}{len cap:Nat}{zs:List Int}(hl:len<=cap)(hz:zs.length=cap)(hcell:∀i,i<zs.length->W.cell? (a.add i)=some (.int K (zs.getD i 0))):
 RelR (YN W) W (S 0 1 (LI K (zs.take len))) (.slice (some a) len cap):=by
 have hg:∀i,i<zs.length->zs.getD i 0=zs[i]?.getD 0:=fun i _=>qf
 have:=qj5 (W:=W) (a:=a) (n:=len) (cap:=cap) (sz:=1) (cs:=LI K (zs.take len)) (vs:=(zs.take len).map fun n=>.int K n) qc qh qf hl
  (fun i v hv=>by
   simp only[zgx,zjf]at hv
   obtain⟨n,hn,rfl⟩:=hv
   have hi:i<(zs.take len).length:=(zgq.mp hn).1
   simp at hi
   rw[hcell i qc]
   rw[zju qc]at hn
   simp[hn])
  (fun x hx=>by
   obtain⟨n,_,rfl⟩:=zg6.mp hx
   rfl)
  (fun i x v hx hv=>by
   simp only[LI,zgx,zjf]at hx hv
   obtain⟨n,hn,rfl⟩:=hx
   obtain⟨m,hm,rfl⟩:=hv
   rw[hn]at hm
   cases hm
   exact .sc _ rfl)
 exact this (fun _=>.fr)
theorem qk4(ht:P.underlying t=some (.slice e))(he:P.underlying e=some (.int K))(hc:P.cellsOf e=1)(h:DataW.trod enc P W 0 (fun _=>true) true fuel t cs=some y):
 ∃k l v,cs=[v]/\RelR (YN W) W (S k 1 (LI K l)) v/\(k=0\/(k=2/\l=[]))/\∀n∈l,InK K n:=by
 rcases open_ints ht he hc h with⟨hcs,_⟩|⟨a,len,cap,zs,hcs,_,hl,hm,hz,_,hcell,hwz⟩
 ·exact⟨2,[],_,hcs,.sc nil0 rfl,.inr ⟨rfl,rfl⟩,qf⟩
 ·exact⟨0,zs.take len,_,hcs,qnn hl (by simpa using hz) hcell,.inl rfl,fun n hn=>hwz n (zhl hn)⟩
theorem arg_R{x:AV}{v:Value}(h:RelR (YN W) W x v):YS (YN W) W x v:=fun p=>(h.c (p 0)).v
end
theorem yQ{l:List Value}{o n:Nat}{a:Value}(h:(l.drop o).take n=[a]):l[o]?=some a:=by
 have h0:((l.drop o).take n)[0]?=some a:=by rw[h];rfl
 have hn:0<n:=by
  cases n with
  |zero=>simp at h
  |succ n=>omega
 rw[zju hn]at h0
 simpa using h0
end Go.Proofs.YtoliekekdmfngaaGreat.AI
namespace Go.Proofs.YtoliekekdmfngaaGreat.AI
open Go
set_option linter.unusedVariables false
set_option linter.unusedSimpArgs false
set_option maxRecDepth 100000
set_option maxHeartbeats 0
def nbs(n:Nat):Nat->List Bool
 |0=>[]
 |k+1=>n.testBit k::nbs n k
def una(n:Nat):List Bool:=List.replicate n true++[false]
def KP(l:List Bool)(s:Nat):Nat:=
 (l.getD s false).toNat*128+(l.getD (s+1) false).toNat*64+(l.getD (s+2) false).toNat*32+(l.getD (s+3) false).toNat*16
  +(l.getD (s+4) false).toNat*8+(l.getD (s+5) false).toNat*4+(l.getD (s+6) false).toNat*2+(l.getD (s+7) false).toNat
def pk(l:List Bool):List Int:=(List.range ((l.length+7)/8)).map fun i=>(KP l (8*i):Int)
def KS(b:List Int)(i:Nat):Bool:=(b.getD (i/8) 0).toNat.testBit (7-i%8)
@[simp] theorem zga (n k : Nat) : (nbs n k).length = k := by
 induction k with
 |zero=>rfl
 |succ k ih=>simp[nbs,ih]
@[simp] theorem qwp(n:Nat):(una n).length=n+1:=by simp[una]
@[simp] theorem yo(l:List Bool):(pk l).length=(l.length+7)/8:=by simp[pk]
theorem qs9:pk []=[]:=rfl
theorem b2n(b:Bool):b.toNat<=1:=by cases b<;>decide
theorem qvk(l:List Bool)(s:Nat):KP l s<256:=by
 unfold KP
 have:=b2n (l.getD s false);have:=b2n (l.getD (s+1) false);have:=b2n (l.getD (s+2) false);have:=b2n (l.getD (s+3) false)
 have:=b2n (l.getD (s+4) false);have:=b2n (l.getD (s+5) false);have:=b2n (l.getD (s+6) false);have:=b2n (l.getD (s+7) false)
 omega
theorem qcf(l:List Bool)(i:Nat)(h:i<(l.length+7)/8):(pk l).getD i 0=(KP l (8*i):Int):=by
 unfold pk
 rw[zgp,zgx,zi6 h]
 rfl
theorem zbs{l:List Bool}{x:Int}(h:x∈pk l):0<=x/\x<256:=by
 unfold pk at h
 obtain⟨i,_,rfl⟩:=zg6.mp h
 have:=qvk l (8*i)
 omega
theorem qgg(a b c d e f g h:Bool)(k:Nat)(hk:k<8):
 (a.toNat*128+b.toNat*64+c.toNat*32+d.toNat*16+e.toNat*8+f.toNat*4+g.toNat*2+h.toNat).testBit (7-k)=[a,b,c,d,e,f,g,h].getD k false:=by
 have:k=0\/k=1\/k=2\/k=3\/k=4\/k=5\/k=6\/k=7:=qc
 rcases this with r|r|r|r|r|r|r|r<;>subst r<;>revert a b c d e f g h<;>decide
theorem qgj(l:List Bool)(i:Nat)(h:i<l.length):KS (pk l) i=l.getD i false:=by
 unfold KS
 rw[qcf l (i/8) qc,zgu]
 unfold KP
 rw[qgg _ _ _ _ _ _ _ _ _ qc]
 have hi:i=8*(i/8)+i%8:=qc
 generalize hq:8*(i/8)=q at*
 have:i%8=0\/i%8=1\/i%8=2\/i%8=3\/i%8=4\/i%8=5\/i%8=6\/i%8=7:=qc
 rcases this with r|r|r|r|r|r|r|r<;>(rw[r]at hi⊢;rw[hi];rfl)
theorem qda(l:List Bool)(i:Nat)(h:l.length<=i):KS (pk l) i=false:=by
 unfold KS
 by_cases h1:i/8<(l.length+7)/8
 ·rw[qcf l (i/8) h1,zgu]
  unfold KP
  rw[qgg _ _ _ _ _ _ _ _ _ qc]
  have hi:i=8*(i/8)+i%8:=qc
  have hz:∀j,l.length<=j->l.getD j false=false:=fun j hj=>by
   rw[zgp,zhg hj];rfl
  generalize hq:8*(i/8)=q at*
  have:i%8=0\/i%8=1\/i%8=2\/i%8=3\/i%8=4\/i%8=5\/i%8=6\/i%8=7:=qc
  rcases this with r|r|r|r|r|r|r|r<;>(rw[r]at hi⊢;rw[hi]at h;first|exact hz _ h|exact hz _ qc)
 ·rw[zgp,zhg (by rw[yo];omega)]
  exact Nat.zero_testBit _
theorem Qk(l:List Bool)(b:Bool)(j:Nat):(l++[b]).getD j false=if j<l.length then l.getD j false else if j=l.length then b else false:=by
 rw[zgp,zgp]
 by_cases h:j<l.length
 ·rw[if_pos h,zg0 h]
 ·rw[if_neg h,zgv qc]
  by_cases h1:j=l.length
  ·simp[h1]
  ·rw[if_neg h1,zhg qh];rfl
theorem qev(l:List Bool):pk (l++[false])=if l.length%8=0 then pk l++[0]else pk l:=by
 have hb:∀s,KP (l++[false]) s=KP l s:=by
  intro s
  have hg:∀j,(l++[false]).getD j false=l.getD j false:=by
   intro j
   rw[Qk]
   by_cases h:j<l.length
   ·rw[if_pos h]
   ·rw[if_neg h]
    have:l.getD j false=false:=by rw[zgp,zhg qc];rfl
    rw[this];simp
  unfold KP
  simp only[hg]
 unfold pk
 simp only[hb,zgi,zg3]
 by_cases h:l.length%8=0
 ·rw[if_pos h]
  have e:(l.length+1+7)/8=(l.length+7)/8+1:=qc
  have e2:8*((l.length+7)/8)=l.length:=qc
  rw[e,List.range_succ,zin]
  congr 1
  simp only[zhc,ziv,e2]
  have hz:∀j,l.getD (l.length+j) false=false:=fun j=>by
   rw[zgp,zhg qc];rfl
  have hz0:=hz 0
  rw[zim]at hz0
  unfold KP
  simp only[hz,hz0]
  rfl
 ·rw[if_neg h]
  have e:(l.length+1+7)/8=(l.length+7)/8:=qc
  rw[e]
theorem qx0(l:List Bool):pk (l++[true])=(pk (l++[false])).set (l.length/8) (KP (l++[true]) (8*(l.length/8)):Int):=by
 apply ziz
 intro i
 rw[zkq]
 by_cases hi:i<(l.length+1+7)/8
 ·have e:∀b,(pk (l++[b]))[i]?=some (KP (l++[b]) (8*i):Int):=by
   intro b
   unfold pk
   rw[zgx,zi6 (by simpa using hi)]
   rfl
  rw[e,e,yo,zgi,zg3]
  by_cases h1:l.length/8=i
  ·rw[if_pos h1,if_pos qc,h1]
  ·rw[if_neg h1]
   have hg:∀j,j<8->(l++[true]).getD (8*i+j) false=(l++[false]).getD (8*i+j) false:=by
    intro j hj
    rw[Qk,Qk]
    have:8*i+j≠l.length:=qc
    simp[this]
   have h0:=hg 0 qc
   rw[zim]at h0
   unfold KP
   rw[h0,hg 1 qc,hg 2 qc,hg 3 qc,hg 4 qc,hg 5 qc,hg 6 qc,hg 7 qc]
 ·have e:∀b,(pk (l++[b]))[i]?=none:=by
   intro b
   rw[zhg]
   rw[yo,zgi,zg3]
   omega
  rw[e,e,yo,zgi,zg3]
  by_cases h1:l.length/8=i
  ·omega
  ·rw[if_neg h1]
theorem zc6(l:List Bool):(BitVec.ofNat 8 (KP (l++[false]) (8*(l.length/8)))|||BitVec.ofNat 8 (2^(7-l.length%8))).toNat=KP (l++[true]) (8*(l.length/8)):=by
 have hi:l.length=8*(l.length/8)+l.length%8:=qc
 unfold KP
 simp only[Qk]
 generalize hq:8*(l.length/8)=q at*
 have hr:l.length%8=0\/l.length%8=1\/l.length%8=2\/l.length%8=3\/l.length%8=4\/l.length%8=5\/l.length%8=6\/l.length%8=7:=qc
 generalize l.getD q false=a0
 generalize l.getD (q+1) false=a1
 generalize l.getD (q+2) false=a2
 generalize l.getD (q+3) false=a3
 generalize l.getD (q+4) false=a4
 generalize l.getD (q+5) false=a5
 generalize l.getD (q+6) false=a6
 generalize l.getD (q+7) false=a7
 generalize l.length%8=r at*
 rw[hi]
 rcases hr with e|e|e|e|e|e|e|e<;>subst e<;>simp[show∀j,¬(q+j<q)from fun j=>qc]
 ·cases a0<;>rfl
 ·cases a0<;>cases a1<;>rfl
 ·cases a0<;>cases a1<;>cases a2<;>rfl
 ·cases a0<;>cases a1<;>cases a2<;>cases a3<;>rfl
 ·cases a0<;>cases a1<;>cases a2<;>cases a3<;>cases a4<;>rfl
 ·cases a0<;>cases a1<;>cases a2<;>cases a3<;>cases a4<;>cases a5<;>rfl
 ·cases a0<;>cases a1<;>cases a2<;>cases a3<;>cases a4<;>cases a5<;>cases a6<;>rfl
end Go.Proofs.YtoliekekdmfngaaGreat.AI
namespace Go.Proofs.YtoliekekdmfngaaGreat.AI
set_option linter.unusedVariables false
set_option linter.unusedSimpArgs false
def mrg:List Int->List Int->List Int
 |[],b=>b
 |a,[]=>a
 |x::a,y::b=>if x<y then x::mrg a (y::b)else if y<x then y::mrg (x::a) b else x::mrg a b
termination_by a b=>a.length+b.length
@[simp] theorem WD(b:List Int):mrg [] b=b:=by unfold mrg;rfl
@[simp] theorem WC(a:List Int):mrg a []=a:=by cases a<;>(unfold mrg;rfl)
theorem zt(x:Int)(a:List Int)(y:Int)(b:List Int):mrg (x::a) (y::b)=if x<y then x::mrg a (y::b)else if y<x then y::mrg (x::a) b else x::mrg a b:=by
 rw[mrg]
theorem Xa{motive:List Int->List Int->Prop}(h1:∀b,motive [] b)(h2:∀a,motive a [])(h3:∀x a y b,x<y->motive a (y::b)->motive (x::a) (y::b))
 (h4:∀x a y b,y<x->motive (x::a) b->motive (x::a) (y::b)) (h5:∀x a b,motive a b->motive (x::a) (x::b)):∀a b,motive a b:=by
 intro a b
 generalize hn:a.length+b.length=n
 induction n using Nat.strongRecOn generalizing a b with
 |_ n ih=>
  cases a with
  |nil=>exact h1 b
  |cons x a=>
   cases b with
   |nil=>exact h2 _
   |cons y b=>
    by_cases hxy:x<y
    ·exact h3 x a y b hxy (ih (a.length+(y::b).length) (by simp at hn⊢;omega) _ _ rfl)
    ·by_cases hyx:y<x
     ·exact h4 x a y b hyx (ih ((x::a).length+b.length) (by simp at hn⊢;omega) _ _ rfl)
     ·have:x=y:=qc
      subst this
      exact h5 x a b (ih (a.length+b.length) (by simp at hn⊢;omega) _ _ rfl)
theorem vG(n:Int):∀a b,n∈mrg a b↔n∈a\/n∈b:=by
 apply Xa
 ·intro b;simp
 ·intro a;simp
 ·intro x a y b h ih
  rw[zt,if_pos h,zgn,ih,zgn,zgn]
  constructor
  ·rintro(h|h|h|h)
   ·exact .inl (.inl h)
   ·exact .inl (.inr h)
   ·exact .inr (.inl h)
   ·exact .inr (.inr h)
  ·rintro((h|h)|(h|h))
   ·exact .inl h
   ·exact .inr (.inl h)
   ·exact .inr (.inr (.inl h))
   ·exact .inr (.inr (.inr h))
 ·intro x a y b h ih
  rw[zt,if_neg qc,if_pos h,zgn,ih,zgn,zgn]
  constructor
  ·rintro(h|(h|h)|h)
   ·exact .inr (.inl h)
   ·exact .inl (.inl h)
   ·exact .inl (.inr h)
   ·exact .inr (.inr h)
  ·rintro((h|h)|(h|h))
   ·exact .inr (.inl (.inl h))
   ·exact .inr (.inl (.inr h))
   ·exact .inl h
   ·exact .inr (.inr h)
 ·intro x a b ih
  rw[zt,if_neg qc,if_neg qc,zgn,ih,zgn,zgn]
  constructor
  ·rintro(h|h|h)
   ·exact .inl (.inl h)
   ·exact .inl (.inr h)
   ·exact .inr (.inr h)
  ·rintro((h|h)|(h|h))
   ·exact .inl h
   ·exact .inr (.inl h)
   ·exact .inl h
   ·exact .inr (.inr h)
abbrev jM(l:List Int):Prop:=l.Pairwise (·<·)
theorem wC:∀a b,jM a->jM b->jM (mrg a b):=by
 apply Xa (motive:=fun a b=>jM a->jM b->jM (mrg a b))
 ·intro b _ h;simpa using h
 ·intro a h _;simpa using h
 ·intro x a y b h ih ha hb
  rw[zt,if_pos h]
  have ha:=zgr.mp ha
  refine zgr.mpr ⟨fun n hn=>?_,ih ha.2 hb⟩
  rcases(vG n a (y::b)).mp hn with h'|h'
  ·exact ha.1 n h'
  ·rcases zgn.mp h' with rfl|h'
   ·exact h
   ·have:=(zgr.mp hb).1 n h';omega
 ·intro x a y b h ih ha hb
  rw[zt,if_neg qc,if_pos h]
  have hb':=zgr.mp hb
  refine zgr.mpr ⟨fun n hn=>?_,ih ha hb'.2⟩
  rcases(vG n (x::a) b).mp hn with h'|h'
  ·rcases zgn.mp h' with rfl|h'
   ·exact h
   ·have:=(zgr.mp ha).1 n h';omega
  ·exact hb'.1 n h'
 ·intro x a b ih ha hb
  rw[zt,if_neg qc,if_neg qc]
  have ha':=zgr.mp ha
  have hb':=zgr.mp hb
  refine zgr.mpr ⟨fun n hn=>?_,ih ha'.2 hb'.2⟩
  rcases(vG n a b).mp hn with h'|h'
  ·exact ha'.1 n h'
  ·exact hb'.1 n h'
theorem qll:∀a b,(mrg a b).length<=a.length+b.length:=by
 apply Xa (motive:=fun a b=>(mrg a b).length<=a.length+b.length)
 ·intro b;simp
 ·intro a;simp
 ·intro x a y b h ih
  rw[zt,if_pos h];simp at ih⊢;omega
 ·intro x a y b h ih
  rw[zt,if_neg qc,if_pos h];simp at ih⊢;omega
 ·intro x a b ih
  rw[zt,if_neg qc,if_neg qc];simp at ih⊢;omega
theorem XT:∀{a b:List Int},jM a->jM b->(∀n,n∈a↔n∈b)->a=b
 |[],[],_,_,_=>rfl
 |[],y::b,_,_,h=>absurd ((h y).mpr qf) qf
 |x::a,[],_,_,h=>absurd ((h x).mp qf) qf
 |x::a,y::b,ha,hb,h=>by
  have ha':=zgr.mp ha
  have hb':=zgr.mp hb
  have hxy:x=y:=by
   have h1:=zgn.mp ((h x).mp qf)
   have h2:=zgn.mp ((h y).mpr qf)
   rcases h1 with h1|h1
   ·exact h1
   ·rcases h2 with h2|h2
    ·exact h2.symm
    ·have:=ha'.1 y h2
     have:=hb'.1 x h1
     omega
  subst hxy
  congr 1
  refine XT ha'.2 hb'.2 fun n=>?_
  have:=h n
  constructor
  ·intro hn
   have hlt:=ha'.1 n hn
   rcases zgn.mp (this.mp (zid _ hn))with rfl|h'
   ·omega
   ·exact h'
  ·intro hn
   have hlt:=hb'.1 n hn
   rcases zgn.mp (this.mpr (zid _ hn))with rfl|h'
   ·omega
   ·exact h'
theorem qyn{a b:List Int}(ha:jM a)(hb:jM b)(h:∀n∈b,n∈a):mrg a b=a:=
 XT (wC _ _ ha hb) ha fun n=>by rw[vG];exact⟨fun h'=>h'.elim id (h n),.inl⟩
end Go.Proofs.YtoliekekdmfngaaGreat.AI
namespace Go.Proofs.YtoliekekdmfngaaGreat.AI
set_option linter.unusedVariables false
set_option linter.unusedSimpArgs false
theorem qre:∀(A B:List Int) (k m n:Nat),k<=m->k<=n->(mrg (A.take m) (B.take n)).take k=(mrg A B).take k:=by
 apply Xa (motive:=fun A B=>∀(k m n:Nat),k<=m->k<=n->(mrg (A.take m) (B.take n)).take k=(mrg A B).take k)
 ·intro b k m n hm hn
  rw[zj4,WD,WD,zkj,zio hn]
 ·intro a k m n hm hn
  rw[zj4,WC,WC,zkj,zio hm]
 ·intro x a y b h ih k m n hm hn
  match k,m,n,hm,hn with
  |0,_,_,_,_=>simp
  |k+1,m+1,n+1,hm,hn=>
   have:=ih k m (n+1) qc qc
   rw[zgs]at this
   rw[zgs,zgs,zt,zt,if_pos h,if_pos h,zgs,zgs,this]
 ·intro x a y b h ih k m n hm hn
  match k,m,n,hm,hn with
  |0,_,_,_,_=>simp
  |k+1,m+1,n+1,hm,hn=>
   have n1:¬x<y:=qc
   have:=ih k (m+1) n qc qc
   rw[zgs]at this
   rw[zgs,zgs,zt,zt,if_neg n1,if_pos h,if_neg n1,if_pos h,zgs,zgs,this]
 ·intro x a b ih k m n hm hn
  match k,m,n,hm,hn with
  |0,_,_,_,_=>simp
  |k+1,m+1,n+1,hm,hn=>
   have n1:¬x<x:=qc
   have:=ih k m n qc qc
   rw[zgs,zgs,zt,zt,if_neg n1,if_neg n1,if_neg n1,if_neg n1,zgs,zgs,this]
theorem qhy(A B:List Int)(k:Nat):(mrg (A.take k) B).take k=(mrg A B).take k:=by
 have h:=qre A B k k (k+B.length) qc qc
 rwa [zg4 (by omega:B.length<=k+B.length)]at h
theorem qni{l:List Int}(k:Nat)(h:jM l):jM (l.take k):=List.Pairwise.sublist (List.take_sublist k l) h
def Jx(acc:List Int):List Int->List Int
 |[]=>acc
 |n::r=>Jx (mrg acc [n]) r
theorem Xy:∀(r:List Int) {acc:List Int},jM acc->jM (Jx acc r)
 |[],_,h=>h
 |n::r,_,h=>Xy r (wC _ _ h qf)
theorem qcp(x:Int):∀(r acc:List Int),x∈Jx acc r↔x∈acc\/x∈r
 |[],acc=>by simp[Jx]
 |n::r,acc=>by
  rw[Jx,qcp x r,vG]
  simp[or_assoc]
def wL(K:Nat)(acc:List Int):List Int->List Int
 |[]=>acc
 |n::r=>wL K ((mrg acc [n]).take K) r
theorem qfh(K:Nat):∀(r acc:List Int),wL K (acc.take K) r=(Jx acc r).take K
 |[],acc=>rfl
 |n::r,acc=>by
  rw[wL,qhy,qfh K r,Jx]
theorem qcu(K:Nat)(r:List Int):wL K [] r=(Jx [] r).take K:=by
 simpa using qfh K r []
theorem qod(K:Nat)(a:List Int):jM (wL K [] a):=by rw[qcu];exact qni K (Xy a List.Pairwise.nil)
theorem qt8(K:Nat)(a:List Int):(wL K [] a).length<=K:=by rw[qcu,zhj];omega
theorem qtw{K:Nat}{a:List Int}{x:Int}(h:x∈wL K [] a):x∈a:=by
 rw[qcu]at h
 have:=(qcp x a []).mp (zhl h)
 simpa using this
end Go.Proofs.YtoliekekdmfngaaGreat.AI
namespace Go.Proofs.YtoliekekdmfngaaGreat.AI
open Ieee
set_option linter.unusedVariables false
set_option linter.unusedSimpArgs false
def jT(x:Nat):Prop:=9218868437227405312<x%9223372036854775808
instance (x : Nat) : Decidable (jT x) := by unfold jT; infer_instance
def zE(x:Nat):Int:=if x/9223372036854775808%2=1 then -((x%9223372036854775808:Nat):Int)else((x%9223372036854775808:Nat):Int)
def jN(r:Nat):Nat:=if r<4503599627370496 then r else(4503599627370496+r%4503599627370496)*2^(r/4503599627370496-1)
theorem Xd{a b:Nat}(h:a<b):jN a<jN b:=by
 unfold jN
 by_cases ha:a<4503599627370496
 ·rw[if_pos ha]
  by_cases hb:b<4503599627370496
  ·rw[if_pos hb];exact h
  ·rw[if_neg hb]
   have h1:1<=2^(b/4503599627370496-1):=Nat.one_le_two_pow
   have h2:=zh0 (zgm (4503599627370496+b%4503599627370496)) h1
   omega
 ·have hb:¬b<4503599627370496:=qc
  rw[if_neg ha,if_neg hb]
  by_cases hq:a/4503599627370496=b/4503599627370496
  ·rw[hq]
   have hr:a%4503599627370496<b%4503599627370496:=qc
   exact Nat.mul_lt_mul_of_pos_right qc (zjb _)
  ·have hq':a/4503599627370496<b/4503599627370496:=qc
   have h1:(4503599627370496+a%4503599627370496)*2^(a/4503599627370496-1)<(2*4503599627370496)*2^(a/4503599627370496-1):=by
    have:a%4503599627370496<4503599627370496:=zkd _ qc
    exact Nat.mul_lt_mul_of_pos_right qc (zjb _)
   have h2:2^(a/4503599627370496-1)*2=2^(a/4503599627370496):=by
    rw[<-Nat.pow_succ]
    congr 1
    omega
   have h3:2^(a/4503599627370496)<=2^(b/4503599627370496-1):=zie qc qc
   have h4:4503599627370496*2^(b/4503599627370496-1)<=(4503599627370496+b%4503599627370496)*2^(b/4503599627370496-1):=zh0 qc (zgm _)
   have h5:(2*4503599627370496)*2^(a/4503599627370496-1)=4503599627370496*2^(a/4503599627370496):=by
    rw[<-h2];generalize 2^(a/4503599627370496-1)=z;omega
   have h6:=zh0 (zgm 4503599627370496) h3
   omega
theorem Kk{a b:Nat}(h:jN a=jN b):a=b:=by
 rcases Nat.lt_trichotomy a b with h'|h'|h'
 ·have:=Xd h';omega
 ·exact h'
 ·have:=Xd h';omega
theorem qcq:jN 0=0:=rfl
theorem xx(a b:Int):compare a b=if a<b then .lt else if a=b then .eq else .gt:=rfl
theorem qox(a b:Int){c:Int}(hc:0<c):compare a b=compare (a*c) (b*c):=by
 rw[xx,xx]
 have h1:a*c<b*c↔a<b:=Int.mul_lt_mul_right hc
 have h2:a*c=b*c↔a=b:=⟨fun h=>Int.eq_of_mul_eq_mul_right qc h,fun h=>by rw[h]⟩
 simp only[h1,h2]
theorem ZN{x:Nat}(h:x%9223372036854775808<9218868437227405312):∃(m i:Nat),double.read x= .number (x/9223372036854775808%2==1) m (-1074+i)/\m*2^i=jN (x%9223372036854775808):=by
 have e1:double.signWeight=9223372036854775808:=qg
 have e2:double.binade=4503599627370496:=qg
 have e3:double.infRung=9218868437227405312:=qg
 have e4:double.leastPlace=-1074:=qg
 unfold Format.read
 simp only[e1,e2,e3,e4]
 unfold jN
 by_cases hb:x%9223372036854775808<4503599627370496
 ·rw[if_pos hb,if_pos hb]
  exact⟨_,0,rfl,qf⟩
 ·rw[if_neg hb,if_neg hb,if_pos h]
  exact⟨_,_,rfl,rfl⟩
theorem ZM{x:Nat}(h:x%9223372036854775808=9218868437227405312):double.read x= .infinity (x/9223372036854775808%2==1):=by
 have e1:double.signWeight=9223372036854775808:=qg
 have e2:double.binade=4503599627370496:=qg
 have e3:double.infRung=9218868437227405312:=qg
 unfold Format.read
 simp only[e1,e2,e3]
 rw[if_neg qc,if_neg qc,if_pos h]
theorem qeq{x:Nat}(h:jT x):∃s t,double.read x= .nan s t:=by
 unfold jT at h
 have e1:double.signWeight=9223372036854775808:=qg
 have e2:double.binade=4503599627370496:=qg
 have e3:double.infRung=9218868437227405312:=qg
 unfold Format.read
 simp only[e1,e2,e3]
 rw[if_neg qc,if_neg qc,if_neg qc]
 exact⟨_,_,rfl⟩
theorem wE{x y:Nat}(h:jT x):double.order x y=none:=by
 obtain⟨s,t,e⟩:=qeq h
 unfold Format.order
 rw[e]
 rfl
theorem wD{x y:Nat}(h:jT y):double.order x y=none:=by
 obtain⟨s,t,e⟩:=qeq h
 unfold Format.order
 rw[e]
 cases double.read x<;>rfl
def sg(s:Bool)(m:Int):Int:=if s then -m else m
theorem zc2(s t:Bool)(a b:Nat):compare (sg s (jN a)) (sg t (jN b))=compare (sg s (a:Int)) (sg t (b:Int)):=by
 have h1:jN a<jN b↔a<b:=by
  constructor
  ·intro h
   rcases Nat.lt_trichotomy a b with h'|h'|h'
   ·exact h'
   ·subst h';omega
   ·have:=Xd h';omega
  ·exact Xd
 have h2:jN a=jN b↔a=b:=⟨Kk,fun h=>by rw[h]⟩
 have h3:jN a=0↔a=0:=⟨fun h=>Kk (b:=0) (by rw[h,qcq]),fun h=>by rw[h,qcq]⟩
 have h4:jN b=0↔b=0:=⟨fun h=>Kk (b:=0) (by rw[h,qcq]),fun h=>by rw[h,qcq]⟩
 rw[xx,xx]
 cases s<;>cases t<;>simp only[sg,if_true,if_false,zhm]
 ·have c1:((jN a:Nat):Int)<(jN b:Nat)↔(a:Int)<b:=qc
  have c2:((jN a:Nat):Int)=(jN b:Nat)↔(a:Int)=b:=qc
  simp only[c1,c2]
 ·have c1:((jN a:Nat):Int)< -(jN b:Nat)↔(a:Int)< -(b:Int):=qc
  have c2:((jN a:Nat):Int)=-(jN b:Nat)↔(a:Int)=-(b:Int):=qc
  simp only[c1,c2]
 ·have c1:-((jN a:Nat):Int)<(jN b:Nat)↔-(a:Int)<(b:Int):=qc
  have c2:-((jN a:Nat):Int)=(jN b:Nat)↔-(a:Int)=(b:Int):=qc
  simp only[c1,c2]
 ·have c1:-((jN a:Nat):Int)< -(jN b:Nat)↔-(a:Int)< -(b:Int):=qc
  have c2:-((jN a:Nat):Int)=-(jN b:Nat)↔-(a:Int)=-(b:Int):=qc
  simp only[c1,c2]
theorem kM(x:Nat):zE x=sg (x/9223372036854775808%2==1) ((x%9223372036854775808:Nat):Int):=by
 unfold zE sg
 by_cases h:x/9223372036854775808%2=1<;>simp[h]
theorem VW(s:Bool)(m k:Nat):Ieee.signed s m k=sg s ((m*2^k:Nat):Int):=by
 unfold Ieee.signed sg
 rw[Nat.shiftLeft_eq]
 try (cases s<;>rfl)
theorem qns{x y:Nat}(hx:x%9223372036854775808<9218868437227405312)(hy:y%9223372036854775808<9218868437227405312):double.order x y=some (compare (zE x) (zE y)):=by
 obtain⟨m,i,e1,e2⟩:=ZN hx
 obtain⟨n,j,f1,f2⟩:=ZN hy
 unfold Format.order
 rw[e1,f1]
 simp only[Datum.order]
 rw[kM,kM,<-zc2,<-e2,<-f2,VW,VW]
 congr 1
 have hc:(0:Int)<((2^(min i j):Nat):Int):=by have:=zjb (min i j);omega
 rw[qox _ _ hc]
 have p1:(-1074+(i:Int)-min (-1074+(i:Int)) (-1074+(j:Int))).toNat+min i j=i:=qc
 have p2:(-1074+(j:Int)-min (-1074+(i:Int)) (-1074+(j:Int))).toNat+min i j=j:=qc
 have q:∀(s:Bool) (m k c:Nat),sg s ((m*2^k:Nat):Int)*((2^c:Nat):Int)=sg s ((m*2^(k+c):Nat):Int):=by
  intro s m k c
  rw[zjp,<-Nat.mul_assoc]
  cases s
  ·simp only[sg,zhm,if_false];rw[<-Int.natCast_mul]
  ·simp only[sg,if_true];rw[Int.neg_mul,<-Int.natCast_mul]
 rw[q,q,p1,p2]
theorem JL{x y:Nat}(hx:¬jT x)(hy:¬jT y):double.order x y=some (compare (zE x) (zE y)):=by
 unfold jT at hx hy
 by_cases ix:x%9223372036854775808=9218868437227405312
 ·by_cases iy:y%9223372036854775808=9218868437227405312
  ·unfold Format.order
   rw[ZM ix,ZM iy]
   simp only[Datum.order]
   rw[kM,kM,ix,iy]
   cases(x/9223372036854775808%2==1)<;>cases(y/9223372036854775808%2==1)<;>decide
  ·obtain⟨n,j,f1,f2⟩:=ZN (x:=y) qc
   unfold Format.order
   rw[ZM ix,f1]
   simp only[Datum.order]
   rw[kM,kM,ix,xx]
   generalize y%9223372036854775808=r at*
   cases(x/9223372036854775808%2==1)<;>cases(y/9223372036854775808%2==1)<;>simp only[sg,if_true,if_false,zhm]
   ·rw[if_neg qc,if_neg qc]
   ·rw[if_neg qc,if_neg qc]
   ·rw[if_pos qc]
   ·rw[if_pos qc]
 ·by_cases iy:y%9223372036854775808=9218868437227405312
  ·obtain⟨n,j,f1,f2⟩:=ZN (x:=x) qc
   unfold Format.order
   rw[ZM iy,f1]
   simp only[Datum.order]
   rw[kM,kM,iy,xx]
   generalize x%9223372036854775808=r at*
   cases(x/9223372036854775808%2==1)<;>cases(y/9223372036854775808%2==1)<;>simp only[sg,if_true,if_false,zhm]
   ·rw[if_pos qc]
   ·rw[if_neg qc,if_neg qc]
   ·rw[if_pos qc]
   ·rw[if_neg qc,if_neg qc]
  ·exact qns qc qc
theorem zcr(x y:Nat):(double.order x y==some .eq)=decide (¬jT x/\¬jT y/\zE x=zE y):=by
 by_cases hx:jT x
 ·rw[wE hx];simp[hx]
 ·by_cases hy:jT y
  ·rw[wD hy];simp[hy]
  ·rw[JL hx hy,xx]
   rcases zkr (zE x) (zE y)with h|h|h
   ·have:¬(zE x=zE y):=qc
    simp[hx,hy,h,this]
   ·have:¬(zE x<zE y):=qc
    simp[hx,hy,h]
   ·have h1:¬(zE x<zE y):=qc
    have h2:¬(zE x=zE y):=qc
    simp[hx,hy,h1,h2]
theorem f_lt(x y:Nat):(double.order x y==some .lt)=decide (¬jT x/\¬jT y/\zE x<zE y):=by
 by_cases hx:jT x
 ·rw[wE hx];simp[hx]
 ·by_cases hy:jT y
  ·rw[wD hy];simp[hy]
  ·rw[JL hx hy,xx]
   rcases zkr (zE x) (zE y)with h|h|h
   ·simp[hx,hy,h]
   ·have:¬(zE x<zE y):=qc
    simp[hx,hy,h]
   ·have h1:¬(zE x<zE y):=qc
    have h2:¬(zE x=zE y):=qc
    simp[hx,hy,h1,h2]
theorem f_gt(x y:Nat):(double.order x y==some .gt)=decide (¬jT x/\¬jT y/\zE y<zE x):=by
 by_cases hx:jT x
 ·rw[wE hx];simp[hx]
 ·by_cases hy:jT y
  ·rw[wD hy];simp[hy]
  ·rw[JL hx hy,xx]
   rcases zkr (zE x) (zE y)with h|h|h
   ·have h1:¬(zE y<zE x):=qc
    simp[hx,hy,h,h1]
   ·have:¬(zE y<zE x):=qc
    simp[hx,hy,h]
   ·have h1:¬(zE x<zE y):=qc
    have h2:¬(zE x=zE y):=qc
    simp[hx,hy,h1,h2,h]
end Go.Proofs.YtoliekekdmfngaaGreat.AI
namespace Go.Proofs.YtoliekekdmfngaaGreat.AI
open Go
set_option linter.unusedVariables false
set_option linter.unusedSimpArgs false
set_option maxRecDepth 100000
set_option maxHeartbeats 0
theorem qoz(n:Nat)(h:n<9223372036854775808):(BitVec.ofInt 64 (n:Int)|||BitVec.ofInt 64 9223372036854775808).toNat=n+9223372036854775808:=by
 rw[zkg,zg8,zg8]
 have e1:(((n:Int)%((2^64:Nat):Int)).toNat)=n:=qc
 have e2:(((9223372036854775808:Int)%((2^64:Nat):Int)).toNat)=2^63*1:=qg
 rw[e1,e2,zkl,<-Nat.two_pow_add_eq_or_of_lt (by simpa using h)]
 omega
theorem VM(n:Nat)(h:n<9223372036854775808):(BitVec.ofInt 64 (n:Int)&&&BitVec.ofInt 64 9223372036854775808).toNat=0:=by
 rw[zit,zg8,zg8]
 have e1:(((n:Int)%((2^64:Nat):Int)).toNat)=n:=qc
 have e2:(((9223372036854775808:Int)%((2^64:Nat):Int)).toNat)=2^63:=qg
 rw[e1,e2]
 apply zif
 intro i
 rw[zjt,zi7,Nat.zero_testBit]
 by_cases hi:63=i
 ·subst hi
  rw[zj3 (by simpa using h)]
  rfl
 ·simp[hi]
theorem VN(n:Nat)(h:9223372036854775808<=n)(h':n<18446744073709551616):(BitVec.ofInt 64 (n:Int)&&&BitVec.ofInt 64 9223372036854775808).toNat=9223372036854775808:=by
 rw[zit,zg8,zg8]
 have e1:(((n:Int)%((2^64:Nat):Int)).toNat)=n:=qc
 have e2:(((9223372036854775808:Int)%((2^64:Nat):Int)).toNat)=2^63:=qg
 have e3:(9223372036854775808:Nat)=2^63:=qg
 rw[e1,e2]
 conv=>rhs;rw[e3]
 obtain⟨m,rfl⟩:∃m,n=2^63*1+m:=⟨n-2^63,qc⟩
 rw[zik qc]
 apply zif
 intro i
 rw[zjt,zi2,zhu,zi7]
 by_cases hi:63=i
 ·subst hi;simp
 ·simp[hi]
theorem qc8(n:Nat)(h':n<18446744073709551616):(BitVec.ofInt 64 (n:Int)&&&~~~(BitVec.ofInt 64 9223372036854775808)).toNat=n%9223372036854775808:=by
 have e2:(~~~(BitVec.ofInt 64 9223372036854775808)).toNat=2^63-1:=qg
 rw[zit,zg8,e2,zip]
 have e1:(((n:Int)%((2^64:Nat):Int)).toNat)=n:=qc
 rw[e1]
def kw(w:Nat):Nat:=if jT w then 18444492273895866369 else if w<9223372036854775808 then w+9223372036854775808 else 18446744073709551615-w
def wk(k:Nat):Nat:=if k<9223372036854775808 then 18446744073709551615-k else k-9223372036854775808
def qye(k:Nat):Bool:=decide (kw (wk k)=k)
theorem vW(w:Nat)(h:w<18446744073709551616):kw w<18446744073709551616:=by
 unfold kw;repeat' split
 all_goals omega
theorem qq6(k:Nat)(h:k<18446744073709551616):wk k<18446744073709551616:=by
 unfold wk;split<;>omega
theorem zej{w:Nat}(h:w<18446744073709551616)(hn:¬jT w):wk (kw w)=w:=by
 unfold kw
 rw[if_neg hn]
 unfold wk
 repeat' split
 all_goals omega
theorem qt7(w:Nat)(h:w<18446744073709551616):kw (wk (kw w))=kw w:=by
 by_cases hn:jT w
 ·unfold kw
  rw[if_pos hn]
  decide
 ·rw[zej h hn]
def kJ(w:Nat):Int:=if jT w then 6 else if w=9218868437227405312 then 5 else if w=18442240474082181120 then 0 else if w=9223372036854775808 then 2 else if w=0 then 3 else if w<9223372036854775808 then 4 else 1
def YA(a b:Nat):Bool:=decide (¬jT a/\¬jT b/\zE a<zE b)
end Go.Proofs.YtoliekekdmfngaaGreat.AI
namespace Go.Proofs.YtoliekekdmfngaaGreat.AI
set_option linter.unusedVariables false
set_option linter.unusedSimpArgs false
def Bl(x n:Nat):Prop:=x<2^n/\(n=0\/2^(n-1)<=x)
theorem Bl.up{x k n:Nat}(h:Bl (x/2^k) n)(hx:2^k<=x):Bl x (n+k):=by
 obtain⟨h1,h2⟩:=h
 have hp:=zjb k
 have hn:n≠0:=by
  intro e
  subst e
  have:1<=x/2^k:=(Nat.one_le_div_iff hp).mpr hx
  simp at h1
  omega
 refine⟨?_,.inr ?_⟩
 ·rw[zjp]
  exact(Nat.div_lt_iff_lt_mul hp).mp h1
 ·have h3:=h2.resolve_left hn
  rw[show n+k-1=(n-1)+k by omega,zjp]
  exact(zka hp).mp h3
end Go.Proofs.YtoliekekdmfngaaGreat.AI
namespace Go.Proofs.YtoliekekdmfngaaGreat.AI
set_option linter.unusedVariables false
set_option linter.unusedSimpArgs false
def uv(n:Nat):List Int:=if h:n<128 then [(n:Int)]else((n%128+128:Nat):Int)::uv (n/128)
termination_by n
decreasing_by omega
theorem Yn{n:Nat}(h:n<128):uv n=[(n:Int)]:=by rw[uv];simp[h]
theorem qkr{n:Nat}(h:¬(n<128)):uv n=((n%128+128:Nat):Int)::uv (n/128):=by rw[uv];simp[h]
theorem qz2:∀(n:Nat) (x:Int),x∈uv n->0<=x/\x<256:=by
 intro n
 induction n using Nat.strongRecOn with
 |_ n ih=>
  intro x hx
  by_cases h:n<128
  ·rw[Yn h]at hx;simp at hx;omega
  ·rw[qkr h]at hx
   rcases zgn.mp hx with rfl|hx
   ·omega
   ·exact ih (n/128) qc x hx
theorem zax:∀(k n:Nat),n<128^(k+1)->(uv n).length<=k+1:=by
 intro k
 induction k with
 |zero=>intro n h;rw[Yn qc];simp
 |succ k ih=>
  intro n h
  by_cases h1:n<128
  ·rw[Yn h1];simp
  ·rw[qkr h1]
   have:n/128<128^(k+1):=Nat.div_lt_of_lt_mul (by rw[ziw]at h;omega)
   have:=ih _ this
   simp only[zgk];omega
theorem qy{n:Nat}(h:n<18446744073709551616):(uv n).length<=10:=zax 9 n (zg5 h qg)
def gU:List Int->Nat->Nat->Nat->Nat×Nat×Int
 |[],_,_,u=>(0,u,3)
 |c::r,s,n,u=>
  if(s=63/\1<c)\/(0<s/\c=0)then(0,u+1,4)
  else if c<128 then(n+c.toNat*2^s,u+1,0)
  else gU r (s+7) (n+(c.toNat-128)*2^s) (u+1)
theorem zfd:∀(k m:Nat) (rest:List Int) (s n u:Nat),s=7*k->k<=9->m*2^s<18446744073709551616->(0<s->m≠0)->
 gU (uv m++rest) s n u=(n+m*2^s,u+(uv m).length,0):=by
 intro k m
 induction m using Nat.strongRecOn generalizing k with
 |_ m ih=>
  intro rest s n u hs hk hm hz
  have h63:s=63->m<2:=by
   intro e;rw[e]at hm
   have:(2:Nat)^63=9223372036854775808:=rfl
   rw[this]at hm;omega
  by_cases h:m<128
  ·rw[Yn h]
   simp only[zib,zg2]
   unfold gU
   rw[if_neg (by
    rintro(⟨h1,h2⟩|⟨h1,h2⟩)
    ·have:=h63 h1;omega
    ·have:=hz h1;omega),if_pos qc]
   simp
  ·rw[qkr h]
   have hk9:k<9:=by
    rcases zi3 k 9 with h1|h1
    ·exact h1
    ·have:=h63 qc;omega
   simp only[zib]
   unfold gU
   rw[if_neg (by
    rintro(⟨h1,h2⟩|⟨h1,h2⟩)
    ·omega
    ·omega),if_neg qc]
   have jO:2^(s+7)=128*2^s:=by rw[zjp];omega
   have hle:m/128*2^(s+7)<=m*2^s:=by
    rw[jO,<-Nat.mul_assoc]
    exact zgz _ qc
   rw[ih (m/128) qc (k+1) rest (s+7) _ _ qc qc qc (by intro _;omega)]
   have e1:(((m%128+128:Nat):Int).toNat-128)=m%128:=qc
   rw[e1,jO]
   have e2:n+m%128*2^s+m/128*(128*2^s)=n+m*2^s:=by
    have:m/128*(128*2^s)=(128*(m/128))*2^s:=by rw[zhe 128 (m/128),zic]
    rw[this,ziq,<-Nat.add_mul]
    have:m%128+128*(m/128)=m:=qc
    rw[this]
   rw[e2]
   simp only[zgk]
   have e3:u+1+(uv (m/128)).length=u+((uv (m/128)).length+1):=qc
   rw[e3]
def zz(n:Int):Nat:=if n<0 then((-(n+1))*2+1).toNat else(n*2).toNat
theorem qqy{n:Int}(h1:-9223372036854775808<=n)(h2:n<9223372036854775808):zz n<18446744073709551616:=by
 unfold zz;split<;>omega
end Go.Proofs.YtoliekekdmfngaaGreat.AI
namespace Go.Proofs.YtoliekekdmfngaaGreat.AI
open Go
set_option linter.unusedVariables false
set_option linter.unusedSimpArgs false
set_option maxRecDepth 100000
set_option maxHeartbeats 0
def Bt(l:List Int):Prop:=∀n∈l,0<=n/\n<256
def yg(l:List Int):List UInt8:=l.map fun n=>UInt8.ofNat n.toNat
@[simp] theorem zf6(l:List Int):(yg l).length=l.length:=by simp[yg]
def st(l:List Int):Value:=.string ⟨(yg l).toArray⟩
def Zr:List Int->List Int->Bool
 |_,[]=>false
 |[],_::_=>true
 |a::x,b::y=>decide (a<b)||(decide (a=b)&&Zr x y)
theorem qrd{a b:Int}(ha:0<=a/\a<256)(hb:0<=b/\b<256):decide (UInt8.ofNat a.toNat<UInt8.ofNat b.toNat)=decide (a<b):=by
 apply decide_eq_decide.mpr
 rw[UInt8.lt_iff_toNat_lt,UInt8.toNat_ofNat',UInt8.toNat_ofNat',zhq qc,zhq qc]
 omega
theorem qz3{a b:Int}(ha:0<=a/\a<256)(hb:0<=b/\b<256):(UInt8.ofNat a.toNat==UInt8.ofNat b.toNat)=decide (a=b):=by
 by_cases h:a=b
 ·subst h;simp
 ·have h2:UInt8.ofNat a.toNat≠UInt8.ofNat b.toNat:=by
   intro e
   have e:=congrArg UInt8.toNat e
   rw[UInt8.toNat_ofNat',UInt8.toNat_ofNat',zhq qc,zhq qc]at e
   omega
  simp[h,h2]
theorem qff:∀(a b:List Int),Bt a->Bt b->Go.Op.bytesLess (yg a) (yg b)=Zr a b
 |a,[],_,_=>by cases a<;>rfl
 |[],b::y,_,_=>rfl
 |a::x,b::y,ha,hb=>by
  have ih:=qff x y (fun n hn=>ha n (by simp[hn])) (fun n hn=>hb n (by simp[hn]))
  show(decide (UInt8.ofNat a.toNat<UInt8.ofNat b.toNat)||((UInt8.ofNat a.toNat==UInt8.ofNat b.toNat)&&Go.Op.bytesLess (yg x) (yg y)))=_
  rw[ih,qrd (ha a qf) (hb b qf),qz3 (ha a qf) (hb b qf)]
  rfl
theorem YU:∀{a b:List Int},Bt a->Bt b->(yg a=yg b↔a=b)
 |[],[],_,_=>by simp
 |[],b::y,_,_=>by simp[yg]
 |a::x,[],_,_=>by simp[yg]
 |a::x,b::y,ha,hb=>by
  have ih:=YU (a:=x) (b:=y) (fun n hn=>ha n (by simp[hn])) (fun n hn=>hb n (by simp[hn]))
  have e:=qz3 (ha a qf) (hb b qf)
  constructor
  ·intro h
   have h:UInt8.ofNat a.toNat::yg x=UInt8.ofNat b.toNat::yg y:=h
   injection h with h1 h2
   rw[h1]at e
   simp at e
   rw[e,ih.mp h2]
  ·intro h;rw[h]
theorem qz4(l:List Int):(⟨(yg l).toArray⟩:ByteArray).toList=yg l:=by rw[ByteArray.toList_eq]
section
variable (P:Program)(t:TypeId)(x y:Operand)(a b:List Int)(ha:Bt a)(hb:Bt b)
include ha hb
theorem zba:(yg a==yg b)=decide (a=b):=by
 by_cases h:a=b
 ·subst h;simp
 ·have h2:yg a≠yg b:=fun e=>h ((YU ha hb).mp e)
  simp[h,h2]
theorem za9:qt P .leq t x y (st a) (st b)=some (.bool (Zr a b||decide (a=b))):=by
 unfold qt st
 rw[wS P]
 show one (some (Value.bool (Go.Op.bytesLess (⟨(yg a).toArray⟩:ByteArray).toList (⟨(yg b).toArray⟩:ByteArray).toList||(⟨(yg a).toArray⟩:ByteArray).toList==(⟨(yg b).toArray⟩:ByteArray).toList)))=_
 rw[qz4,qz4,qff a b ha hb,zba a b ha hb]
 rfl
theorem zem:qt P .eql t x y (st a) (st b)=some (.bool (decide (a=b))):=by
 unfold st
 rw[qo4]
 show some (Value.bool (decide (yg a=yg b)))=_
 have e:decide (yg a=yg b)=decide (a=b):=decide_eq_decide.mpr (YU ha hb)
 rw[e]
end
theorem Jg:∀l:List Int,zw (LI .u8 l)=some (yg l)
 |[]=>rfl
 |x::l=>by
  have:=Jg l
  show(zw (LI .u8 l)).map _=_
  rw[this];rfl
theorem qz7(l:List Int):Value.string (ByteArray.mk (Array.mk (yg l)))=st l:=rfl
theorem Xx:∀{l:List Int},Bt l->List.map (fun x:UInt8=>AV.sc (.int .u8 ((x.toBitVec.toFin.val:Nat):Int))) (yg l)=LI .u8 l
 |[],_=>rfl
 |x::l,h=>by
  have ih:=Xx (l:=l) (fun n hn=>h n (by simp[hn]))
  have hx:=h x qf
  show AV.sc (.int .u8 (((UInt8.ofNat x.toNat).toNat:Nat):Int))::List.map _ (yg l)= .sc (.int .u8 x)::LI .u8 l
  rw[ih,UInt8.toNat_ofNat',zhq qc]
  have e:((x.toNat:Nat):Int)=x:=qc
  rw[e]
theorem Xw(l:List Int):yE Tryz.prog .len #[9] 3 [st l]=some (.int .i64 (l.length:Int)):=by
 have e:(⟨(yg l).toArray⟩:ByteArray).size=l.length:=by show(yg l).toArray.size=_;simp
 have e0:yE Tryz.prog .len #[9] 3 [st l]=some (.int .i64 ((⟨(yg l).toArray⟩:ByteArray).size:Int)):=qe
 rw[e0,e]
def fEq(a b:Nat):Bool:=decide (¬jT a/\¬jT b/\zE a=zE b)
theorem jn(a:Nat):fEq a a=decide (¬jT a):=by unfold fEq;congr 1;apply propext;constructor<;>intro h<;>simp_all
section
variable (P:Program)(t:TypeId)(x y:Operand)(a b:Nat)
theorem jQ(op:BinOp):eqGuard op t x y (.float .f64 a) (.float .f64 b)=pure ():=by
 cases op<;>rfl
@[simp] theorem zd4 : qt P .lss t x y (.float .f64 a) (.float .f64 b) = some (.bool (YA a b)) := by
 unfold qt
 rw[jQ]
 show one (some (Value.bool (Ieee.double.order a b==some .lt)))=_
 rw[f_lt];rfl
@[simp] theorem zd6 : qt P .gtr t x y (.float .f64 a) (.float .f64 b) = some (.bool (YA b a)) := by
 unfold qt
 rw[jQ]
 show one (some (Value.bool (Ieee.double.order a b==some .gt)))=_
 rw[f_gt]
 unfold YA
 show some (Value.bool _)=_
 congr 2
 apply decide_eq_decide.mpr
 constructor<;>(rintro⟨h1,h2,h3⟩;exact⟨h2,h1,h3⟩)
@[simp] theorem zd7 : qt P .eql t x y (.float .f64 a) (.float .f64 b) = some (.bool (fEq a b)) := by
 unfold qt
 rw[jQ]
 show one (some (Value.bool (Ieee.double.order a b==some .eq)))=_
 rw[zcr];rfl
@[simp] theorem zd3 : qt P .neq t x y (.float .f64 a) (.float .f64 b) = some (.bool (!fEq a b)) := by
 unfold qt
 rw[jQ]
 show one (some (Value.bool (!(Ieee.double.order a b==some .eq))))=_
 rw[zcr];rfl
@[simp] theorem zd5 : qt P .leq t x y (.float .f64 a) (.float .f64 b) = some (.bool (YA a b || fEq a b)) := by
 unfold qt
 rw[jQ]
 show one (some (Value.bool (Ieee.double.order a b==some .lt||Ieee.double.order a b==some .eq)))=_
 rw[zcr,f_lt];rfl
end
section
variable (P:Program)(t:TypeId)(x y:Operand)
theorem wq(n:Nat)(h:n<18446744073709551616):IntKind.u64.wrap (n:Int)=n:=qz qc qc
theorem qgk(n:Nat)(h:n<9223372036854775808):qt P .or t x y (.int .u64 (n:Int)) (.int .u64 9223372036854775808)=some (.int .u64 ((n+9223372036854775808:Nat):Int)):=by
 rw[jk]
 show some (Value.int .u64 (IntKind.u64.wrap ((BitVec.ofInt 64 (n:Int)|||BitVec.ofInt 64 9223372036854775808).toNat:Nat)))=_
 rw[qoz n h,wq _ qc]
theorem YE(n:Nat)(h:n<9223372036854775808):qt P .and t x y (.int .u64 (n:Int)) (.int .u64 9223372036854775808)=some (.int .u64 0):=by
 rw[qO]
 show some (Value.int .u64 (IntKind.u64.wrap ((BitVec.ofInt 64 (n:Int)&&&BitVec.ofInt 64 9223372036854775808).toNat:Nat)))=_
 rw[VM n h]
 rfl
theorem YF(n:Nat)(h:9223372036854775808<=n)(h':n<18446744073709551616):qt P .and t x y (.int .u64 (n:Int)) (.int .u64 9223372036854775808)=some (.int .u64 9223372036854775808):=by
 rw[qO]
 show some (Value.int .u64 (IntKind.u64.wrap ((BitVec.ofInt 64 (n:Int)&&&BitVec.ofInt 64 9223372036854775808).toNat:Nat)))=_
 rw[VN n h h']
 rfl
theorem qj2(n:Nat)(h:n<18446744073709551616):qt P .andNot t x y (.int .u64 (n:Int)) (.int .u64 9223372036854775808)=some (.int .u64 ((n%9223372036854775808:Nat):Int)):=by
 rw[zM P t x y .u64 (n:Int) 9223372036854775808 .andNot qg qg]
 show some (Value.int .u64 (IntKind.u64.wrap ((BitVec.ofInt 64 (n:Int)&&&~~~(BitVec.ofInt 64 9223372036854775808)).toNat:Nat)))=_
 rw[qc8 n h,wq _ qc]
theorem zc7(n:Nat)(h:n<18446744073709551616):(BitVec.ofInt 64 18446744073709551615^^^BitVec.ofInt 64 (n:Int)).toNat=18446744073709551615-n:=by
 have e:BitVec.ofInt 64 18446744073709551615=BitVec.allOnes 64:=qg
 rw[e,BitVec.allOnes_xor,BitVec.toNat_not,zg8]
 have e1:(((n:Int)%((2^64:Nat):Int)).toNat)=n:=qc
 rw[e1]
theorem VU(n:Nat)(h:n<18446744073709551616):unV P .xor (.int .u64 (n:Int))=some (.int .u64 ((18446744073709551615-n:Nat):Int)):=by
 show some (Value.int .u64 (IntKind.u64.wrap ((BitVec.ofInt 64 18446744073709551615^^^BitVec.ofInt 64 (n:Int)).toNat:Nat)))=_
 rw[zc7 n h,wq _ qc]
def nw(w:Nat):Nat:=if w<9223372036854775808 then w+9223372036854775808 else w-9223372036854775808
theorem qwk(w:Nat)(h:w<18446744073709551616):w^^^2^63=nw w:=by
 unfold nw
 by_cases h1:w<9223372036854775808
 ·rw[if_pos h1]
  have e:w+9223372036854775808=2^63*1+w:=qc
  rw[e,zik qc]
  apply zif
  intro i
  rw[Nat.testBit_xor,zi2,zhu,zi7]
  by_cases hi:63=i
  ·subst hi
   rw[zj3 qc]
   rfl
  ·simp[hi]
 ·rw[if_neg h1]
  obtain⟨m,rfl⟩:∃m,w=2^63*1+m:=⟨w-2^63,qc⟩
  have e:2^63*1+m-9223372036854775808=m:=qc
  rw[e,zik qc]
  apply zif
  intro i
  rw[Nat.testBit_xor,zi2,zhu,zi7]
  by_cases hi:63=i
  ·subst hi
   rw[zj3 (show m<2^63 by omega)]
   rfl
  ·simp[hi]
theorem qrc(w:Nat)(h:w<18446744073709551616):unV P .neg (.float .f64 w)=some (.float .f64 (nw w)):=by
 rw[<-qwk w h];rfl
end
theorem Kh(n:Int):FloatKind.f64.nearest n<18446744073709551616:=by
 have e1:Ieee.double.signWeight=9223372036854775808:=qg
 have e3:Ieee.double.infRung=9218868437227405312:=qg
 have hw:∀(s:Bool) (r:Nat),r<=9218868437227405312->Ieee.double.word s r<18446744073709551616:=by
  intro s r hr
  unfold Ieee.Format.word
  rw[e1]
  split<;>omega
 have key:∀(s:Bool) (m:Nat) (p:Int),Ieee.double.nearest s m p<18446744073709551616:=by
  intro s m p
  unfold Ieee.Format.nearest
  split
  ·exact hw _ _ qc
  ·rw[e3]
   exact hw _ _ (Nat.min_le_right _ _)
 exact key (decide (n<0)) n.natAbs 0
def mk:List Nat->List Nat->List Nat
 |[],b=>b
 |a,[]=>a
 |x::a,y::b=>if y<x then y::mk (x::a) b else x::mk a (y::b)
termination_by a b=>a.length+b.length
@[simp] theorem qe7(b:List Nat):mk [] b=b:=by unfold mk;rfl
@[simp] theorem Ki(a:List Nat):mk a []=a:=by cases a<;>(unfold mk;rfl)
theorem xr(x:Nat)(a:List Nat)(y:Nat)(b:List Nat):mk (x::a) (y::b)=if y<x then y::mk (x::a) b else x::mk a (y::b):=by
 rw[mk]
theorem qi4{motive:List Nat->List Nat->Prop}(h1:∀b,motive [] b)(h2:∀a,motive a [])(h3:∀x a y b,y<x->motive (x::a) b->motive (x::a) (y::b))
 (h4:∀x a y b,¬y<x->motive a (y::b)->motive (x::a) (y::b)):∀a b,motive a b:=by
 intro a b
 generalize hn:a.length+b.length=n
 induction n using Nat.strongRecOn generalizing a b with
 |_ n ih=>
  cases a with
  |nil=>exact h1 b
  |cons x a=>
   cases b with
   |nil=>exact h2 _
   |cons y b=>
    by_cases hyx:y<x
    ·exact h3 x a y b hyx (ih ((x::a).length+b.length) (by simp at hn⊢;omega) _ _ rfl)
    ·exact h4 x a y b hyx (ih (a.length+(y::b).length) (by simp at hn⊢;omega) _ _ rfl)
theorem Xb:∀a b,(mk a b).Perm (a++b):=by
 apply qi4 (motive:=fun a b=>(mk a b).Perm (a++b))
 ·intro b;simp
 ·intro a;simp
 ·intro x a y b h ih
  rw[xr,if_pos h]
  exact(List.Perm.cons y ih).trans zi5.symm
 ·intro x a y b h ih
  rw[xr,if_neg h]
  exact List.Perm.cons x ih
abbrev Up(l:List Nat):Prop:=l.Pairwise (·<=·)
theorem qtv:∀a b,Up a->Up b->Up (mk a b):=by
 apply qi4 (motive:=fun a b=>Up a->Up b->Up (mk a b))
 ·intro b _ h;simpa using h
 ·intro a h _;simpa using h
 ·intro x a y b h ih ha hb
  rw[xr,if_pos h]
  have hb':=zgr.mp hb
  have ha':=zgr.mp ha
  refine zgr.mpr ⟨fun n hn=>?_,ih ha hb'.2⟩
  rcases zg1.mp ((Xb _ _).mem_iff.mp hn)with h'|h'
  ·rcases zgn.mp h' with rfl|h'
   ·omega
   ·have:=ha'.1 n h';omega
  ·exact hb'.1 n h'
 ·intro x a y b h ih ha hb
  rw[xr,if_neg h]
  have hb':=zgr.mp hb
  have ha':=zgr.mp ha
  refine zgr.mpr ⟨fun n hn=>?_,ih ha'.2 hb⟩
  rcases zg1.mp ((Xb _ _).mem_iff.mp hn)with h'|h'
  ·exact ha'.1 n h'
  ·rcases zgn.mp h' with rfl|h'
   ·omega
   ·have:=hb'.1 n h';omega
theorem qhw:∀{a b:List Nat},Up a->Up b->a.Perm b->a=b
 |[],b,_,_,h=>(List.Perm.nil_eq h)
 |x::a,[],_,_,h=>absurd h.length_eq qf
 |x::a,y::b,ha,hb,h=>by
  have ha':=zgr.mp ha
  have hb':=zgr.mp hb
  have hxy:x=y:=by
   have h1:=zgn.mp (h.mem_iff.mp (by simp:x∈x::a))
   have h2:=zgn.mp (h.mem_iff.mpr (by simp:y∈y::b))
   rcases h1 with h1|h1
   ·exact h1
   ·rcases h2 with h2|h2
    ·exact h2.symm
    ·have:=ha'.1 y h2
     have:=hb'.1 x h1
     omega
  subst hxy
  rw[qhw ha'.2 hb'.2 (List.Perm.cons_inv h)]
theorem qws:∀(A B:List Nat) (k m n:Nat),k<=m->k<=n->(mk (A.take m) (B.take n)).take k=(mk A B).take k:=by
 apply qi4 (motive:=fun A B=>∀(k m n:Nat),k<=m->k<=n->(mk (A.take m) (B.take n)).take k=(mk A B).take k)
 ·intro b k m n hm hn
  rw[zj4,qe7,qe7,zkj,zio hn]
 ·intro a k m n hm hn
  rw[zj4,Ki,Ki,zkj,zio hm]
 ·intro x a y b h ih k m n hm hn
  match k,m,n,hm,hn with
  |0,_,_,_,_=>simp
  |k+1,m+1,n+1,hm,hn=>
   have:=ih k (m+1) n qc qc
   rw[zgs]at this
   rw[zgs,zgs,xr,xr,if_pos h,if_pos h,zgs,zgs,this]
 ·intro x a y b h ih k m n hm hn
  match k,m,n,hm,hn with
  |0,_,_,_,_=>simp
  |k+1,m+1,n+1,hm,hn=>
   have:=ih k m (n+1) qc qc
   rw[zgs]at this
   rw[zgs,zgs,xr,xr,if_neg h,if_neg h,zgs,zgs,this]
def sk:List Nat->List Nat
 |[]=>[]
 |x::l=>mk [x] (sk l)
theorem VV:∀l,Up (sk l)
 |[]=>List.Pairwise.nil
 |x::l=>qtv _ _ qf (VV l)
theorem vt:∀l,(sk l).Perm l
 |[]=>List.Perm.refl _
 |x::l=>(Xb [x] (sk l)).trans (List.Perm.cons x (vt l))
theorem qmm(a b:List Nat):sk (a++b)=mk (sk a) (sk b):=
 qhw (VV _) (qtv _ _ (VV a) (VV b)) ((vt _).trans (((vt a).symm.append (vt b).symm).trans (Xb _ _).symm))
theorem qh2{a b:List Nat}(h:a.Perm b):sk a=sk b:=qhw (VV _) (VV _) ((vt a).trans (h.trans (vt b).symm))
theorem zbf(l:List Nat):(sk l).length=l.length:=(vt l).length_eq
def gm:List Nat->List Nat->List Nat
 |[],b=>b
 |a,[]=>a
 |x::a,y::b=>if kw y<kw x then y::gm (x::a) b else x::gm a (y::b)
termination_by a b=>a.length+b.length
@[simp] theorem zfb(b:List Nat):gm [] b=b:=by unfold gm;rfl
@[simp] theorem zfa(a:List Nat):gm a []=a:=by cases a<;>(unfold gm;rfl)
theorem qc1(x:Nat)(a:List Nat)(y:Nat)(b:List Nat):gm (x::a) (y::b)=if kw y<kw x then y::gm (x::a) b else x::gm a (y::b):=by
 rw[gm]
theorem qlu:∀(n:Nat) (a b:List Nat),a.length+b.length=n->(gm a b).map kw=mk (a.map kw) (b.map kw):=by
 intro n
 induction n using Nat.strongRecOn with
 |_ n ih=>
  intro a b hn
  match a,b with
  |[],b=>simp
  |x::a,[]=>simp
  |x::a,y::b=>
   rw[qc1,zhc,zhc,xr]
   by_cases h:kw y<kw x
   ·rw[if_pos h,if_pos h,zhc,ih ((x::a).length+b.length) (by simp at hn⊢;omega) (x::a) b rfl,zhc]
   ·rw[if_neg h,if_neg h,zhc,ih (a.length+(y::b).length) (by simp at hn⊢;omega) a (y::b) rfl,zhc]
theorem qtx(w:Nat):∀(n:Nat) (a b:List Nat),a.length+b.length=n->w∈gm a b->w∈a\/w∈b:=by
 intro n
 induction n using Nat.strongRecOn with
 |_ n ih=>
  intro a b hn hw
  match a,b with
  |[],b=>right;simpa using hw
  |x::a,[]=>left;simpa using hw
  |x::a,y::b=>
   rw[qc1]at hw
   by_cases h:kw y<kw x
   ·rw[if_pos h]at hw
    rcases zgn.mp hw with rfl|hw
    ·right;simp
    ·rcases ih ((x::a).length+b.length) (by simp at hn⊢;omega) (x::a) b rfl hw with h'|h'
     ·exact .inl h'
     ·exact .inr (zid _ h')
   ·rw[if_neg h]at hw
    rcases zgn.mp hw with rfl|hw
    ·left;simp
    ·rcases ih (a.length+(y::b).length) (by simp at hn⊢;omega) a (y::b) rfl hw with h'|h'
     ·exact .inl (zid _ h')
     ·exact .inr h'
def QT:List Nat->Nat
 |[]=>18442240474082181120
 |f::F=>if jT f then QT F else min (kw f) (QT F)
def xX:List Nat->Nat
 |[]=>4503599627370495
 |f::F=>if jT f then xX F else max (kw f) (xX F)
theorem qli:∀F,QT F<=18442240474082181120
 |[]=>zgm _
 |f::F=>by
  have:=qli F
  unfold QT
  split<;>omega
theorem qfo:∀F,4503599627370495<=xX F
 |[]=>zgm _
 |f::F=>by
  have:=qfo F
  unfold xX
  split<;>omega
theorem Yx:∀a b,QT (a++b)=min (QT a) (QT b)
 |[],b=>by have:=qli b;simp only[zg2,QT];omega
 |f::a,b=>by
  have:=Yx a b
  simp only[zib,QT]
  split<;>omega
theorem ZT:∀a b,xX (a++b)=max (xX a) (xX b)
 |[],b=>by have:=qfo b;simp only[zg2,xX];omega
 |f::a,b=>by
  have:=ZT a b
  simp only[zib,xX]
  split<;>omega
theorem qn6{a b:List Nat}(h:a.Perm b):QT a=QT b:=by
 induction h with
 |nil=>rfl
 |cons x _ ih=>unfold QT;rw[ih]
 |swap x y l=>simp only[QT];repeat' split
              all_goals omega
 |trans _ _ h1 h2=>rw[h1,h2]
theorem qjh{a b:List Nat}(h:a.Perm b):xX a=xX b:=by
 induction h with
 |nil=>rfl
 |cons x _ ih=>unfold xX;rw[ih]
 |swap x y l=>simp only[xX];repeat' split
              all_goals omega
 |trans _ _ h1 h2=>rw[h1,h2]
def LQ(K K':IntKind):List (Int×Int)->List AV
 |[]=>[]
 |p::l=>.sc (.int K p.1)::.sc (.int K' p.2)::LQ K K' l
section
variable (K K':IntKind)
theorem qjc:∀l,(LQ K K' l).length=2*l.length
 |[]=>rfl
 |p::l=>by simp only[LQ,zgk,qjc l];omega
theorem zam:∀(i:Nat) (l:List (Int×Int)),(LQ K K' l).drop (i*2)=LQ K K' (l.drop i)
 |0,l=>by simp
 |i+1,[]=>by simp[LQ]
 |i+1,p::l=>by
  have h:(i+1)*2=i*2+1+1:=qc
  rw[h,LQ,zis,zis,zam i l,zis]
theorem appQ:∀a b,LQ K K' (a++b)=LQ K K' a++LQ K K' b
 |[],b=>rfl
 |p::a,b=>by simp only[zib,LQ,appQ a b]
theorem zb3(k:Nat)(l:List (Int×Int)):zA (S k 2 (LQ K K' l))=some l.length:=by
 have h:(if(2:Nat)=1 then(LQ K K' l).length else(LQ K K' l).length/2)=l.length:=by rw[if_neg qc,qjc];omega
 rcases zi k 2 (LQ K K' l)with e|e|⟨e,e'⟩
 ·rw[e];simp only[zA,h]
 ·rw[e];simp only[zA,h]
 ·rw[e]
  have:l.length=0:=by have:=qjc K K' l;rw[e']at this;simp at this;omega
  rw[this];rfl
theorem qui(k:Nat){l:List (Int×Int)}{i:Nat}{p:Int×Int}(h:l[i]?=some p):jc 2 (S k 2 (LQ K K' l)) (.int .i64 (i:Int))=some [.sc (.int K p.1),.sc (.int K' p.2)]:=by
 obtain⟨hi,hp⟩:=zgq.mp h
 have hl:(if(2:Nat)=1 then(LQ K K' l).length else(LQ K K' l).length/2)=l.length:=by rw[if_neg qc,qjc];omega
 have hx:idx l.length (.int .i64 (i:Int))=some i:=zd .i64 hi
 have hg:qn (LQ K K' l) (i*2) 2=some [.sc (.int K p.1),.sc (.int K' p.2)]:=by
  unfold qn
  rw[if_pos (by rw[qjc];omega),zam,zhp hi,hp]
  rfl
 rcases zi k 2 (LQ K K' l)with e|e|⟨e,e'⟩
 ·rw[e];simp only[jc,if_true,hl,hx,zgh,hg]
 ·rw[e];simp only[jc,if_true,hl,hx,zgh,hg]
 ·exfalso
  have:=qjc K K' l
  rw[e']at this
  simp at this
  omega
theorem zdk(k:Nat)(hk:k=1\/k=2)(l:List (Int×Int))(a b:Int)(h:l.length<=1000000):yB 16 2 (S k 2 (LQ K K' l)) (S 1 2 [.sc (.int K a),.sc (.int K' b)])=some (S k 2 (LQ K K' (l++[(a,b)]))):=by
 rw[Vd 16 2 k _ _ 1 hk (show qkc [AV.sc (.int K a),AV.sc (.int K' b)]from rfl) (.inr (xw qg ?_)),appQ]
 ·rfl
 ·rw[qjc];simp;omega
end
def qaf(n:Nat):Nat:=n/2^^^(if n%2=1 then 2197175160 else 0)
def KO:Nat->Nat->Nat
 |0,n=>n
 |k+1,n=>KO k (qaf n)
def JU(i:Nat):Nat:=KO 8 i
def qjr(n:Nat)(c:Int):Nat:=n/256^^^JU (n%256^^^c.toNat)
def qvc(l:List Int)(n:Nat):Nat:=l.foldl qjr n
def zm(l:List Int):Nat:=4294967295-qvc l 4294967295
theorem qgf{n:Nat}(h:n<4294967296):qaf n<4294967296:=by
 unfold qaf
 exact Nat.xor_lt_two_pow (n:=32) (by show n/2<4294967296;omega) (by show(if n%2=1 then 2197175160 else 0)<4294967296;split<;>omega)
theorem KN:∀(k:Nat) {n:Nat},n<4294967296->KO k n<4294967296
 |0,_,h=>h
 |k+1,_,h=>KN k (qgf h)
theorem zas{a b:Nat}(ha:a<256)(hb:b<256):a^^^b<256:=Nat.xor_lt_two_pow (n:=8) ha hb
theorem qzz{a b:Nat}(ha:a<4294967296)(hb:b<4294967296):a^^^b<4294967296:=Nat.xor_lt_two_pow (n:=32) ha hb
theorem qzk{n:Nat}(h:n<4294967296){c:Int}(hc:0<=c/\c<256):qjr n c<4294967296:=by
 unfold qjr
 refine qzz qc (KN 8 ?_)
 have:=zas (a:=n%256) (b:=c.toNat) qc qc
 omega
theorem ql6(l:List Int):zm l<4294967296:=by unfold zm;omega
theorem vN(w a:Nat)(h:a<2^w):(BitVec.ofInt w (a:Int)).toNat=a:=by
 rw[zg8]
 have e:(a:Int)%((2^w:Nat):Int)=((a%2^w:Nat):Int):=(Int.natCast_emod a (2^w)).symm
 rw[e,zhq h,zgu]
section
variable (P:Program)(t:TypeId)(x y:Operand)(a b:Nat)
theorem qbq(ha:a<4294967296)(hb:b<4294967296):qt P .xor t x y (.int .u32 (a:Int)) (.int .u32 (b:Int))=some (.int .u32 ((a^^^b:Nat):Int)):=by
 have:=qzz ha hb
 rw[jp]
 show some (Value.int .u32 (IntKind.u32.wrap ((BitVec.ofInt 32 (a:Int)^^^BitVec.ofInt 32 (b:Int)).toNat:Nat)))=_
 rw[BitVec.toNat_xor,vN 32 a ha,vN 32 b hb,qV qc qc]
theorem qdg(ha:a<4294967296)(hb:b<4294967296):qt P .and t x y (.int .u32 (a:Int)) (.int .u32 (b:Int))=some (.int .u32 ((a&&&b:Nat):Int)):=by
 have:a&&&b<=a:=Nat.and_le_left
 rw[qO]
 show some (Value.int .u32 (IntKind.u32.wrap ((BitVec.ofInt 32 (a:Int)&&&BitVec.ofInt 32 (b:Int)).toNat:Nat)))=_
 rw[zit,vN 32 a ha,vN 32 b hb,qV qc qc]
theorem zar(ha:a<256)(hb:b<256):qt P .xor t x y (.int .u8 (a:Int)) (.int .u8 (b:Int))=some (.int .u8 ((a^^^b:Nat):Int)):=by
 have:=zas ha hb
 rw[jp]
 show some (Value.int .u8 (IntKind.u8.wrap ((BitVec.ofInt 8 (a:Int)^^^BitVec.ofInt 8 (b:Int)).toNat:Nat)))=_
 rw[BitVec.toNat_xor,vN 8 a ha,vN 8 b hb,zJ qc qc]
theorem qb3(k:Nat)(hk:k<=32)(K:IntKind):qt P .shr t x y (.int .u32 (a:Int)) (.int K (k:Int))=some (.int .u32 ((a/2^k:Nat):Int)):=by
 rw[zZ P t x y _ _ _ _ qc]
 have e:min (k:Int).toNat IntKind.u32.bits=k:=by
  show min (k:Int).toNat 32=k
  omega
 rw[e,zhr _ (by have:=zjb k;exact Int.le_of_lt (Int.pow_pos qg))]
 congr 2
end
def nz(l:List Nat):List Int:=l.map fun(n:Nat)=>(n:Int)
@[simp] theorem nz_len(l:List Nat):(nz l).length=l.length:=by simp[nz]
def Ky(p:Nat):List Nat->List Nat
 |[]=>[]
 |x::r=>(x-p-1)::Ky x r
def ze:List Nat->List Nat
 |[]=>[]
 |x::r=>x::Ky x r
def xP:List Nat->Prop
 |[]=>True
 |[_]=>True
 |x::y::r=>x<y/\xP (y::r)
def kP(k:Nat):List Nat->Nat->Nat×Bool
 |[],n=>(n,true)
 |g::r,n=>if 4096<g/2^k then(0,false)else kP k r (n+(g/2^k+1+k))
def qcg(gs:List Nat):Nat->Nat->Nat->Int->Nat
 |0,_,b,_=>b
 |f+1,k,b,m=>if(kP k gs 0).2=true/\(m<0\/((kP k gs 0).1:Int)<m)then qcg gs f (k+1) k (kP k gs 0).1 else qcg gs f (k+1) b m
def kX(gs:List Nat):Nat:=qcg gs 64 0 63 (-1)
def ZO(k:Nat):List Nat->List Bool
 |[]=>[]
 |g::r=>una (g/2^k)++nbs g k++ZO k r
def yn(gs:List Nat):List Bool:=ZO (kX gs) gs
def vZ(l:List Nat):List Int:=uv l.length++[(kX (ze l):Int)]++uv (pk (yn (ze l))).length++pk (yn (ze l))
@[simp] theorem zdy (p : Nat) (l : List Nat) : (Ky p l).length = l.length := by
 induction l generalizing p with
 |nil=>rfl
 |cons x r ih=>simp[Ky,ih]
@[simp] theorem ZY(l:List Nat):(ze l).length=l.length:=by cases l<;>simp[ze]
theorem qus(l:List Nat)(p B:Nat)(h:∀x∈l,x<B):∀g∈Ky p l,g<B:=by
 induction l generalizing p with
 |nil=>intro g hg;cases hg
 |cons x r ih=>
  intro g hg
  rcases zgn.mp hg with e|e
  ·have:=h x qf;omega
  ·exact ih x (fun y hy=>h y (by simp[hy])) g e
theorem ZX{l:List Nat}{B:Nat}(h:∀x∈l,x<B):∀g∈ze l,g<B:=by
 cases l with
 |nil=>intro g hg;cases hg
 |cons x r=>
  intro g hg
  rcases zgn.mp hg with e|e
  ·rw[e];exact h x qf
  ·exact qus r x B (fun y hy=>h y (by simp[hy])) g e
theorem qoj:∀(l:List Nat) (p i:Nat),i<l.length->(Ky p l)[i]?=some (l.getD i 0-(p::l).getD i 0-1):=by
 intro l
 induction l with
 |nil=>intro p i h;cases h
 |cons x r ih=>
  intro p i h
  cases i with
  |zero=>rfl
  |succ i=>
   have:=ih x i (by simpa using h)
   simpa[Ky]using this
theorem qur(l:List Nat)(i:Nat)(h:i<l.length):(ze l)[i]?=some (if i=0 then l.getD 0 0 else l.getD i 0-l.getD (i-1) 0-1):=by
 cases l with
 |nil=>cases h
 |cons x r=>
  cases i with
  |zero=>rfl
  |succ i=>
   have:=qoj r x i (by simpa using h)
   simpa[ze]using this
theorem XS:∀(l:List Nat),xP l->∀i,i+1<l.length->l.getD i 0<l.getD (i+1) 0:=by
 intro l
 induction l with
 |nil=>intro _ i h;simp at h
 |cons x r ih=>
  intro hr i h
  cases r with
  |nil=>simp at h
  |cons y r=>
   cases i with
   |zero=>exact hr.1
   |succ i=>exact ih hr.2 i (by simpa using h)
theorem qvg(k:Nat):∀(gs:List Nat) (n:Nat),(kP k gs n).2=true->∀g∈gs,g/2^k<=4096:=by
 intro gs
 induction gs with
 |nil=>intro n _ g hg;cases hg
 |cons x r ih=>
  intro n h g hg
  unfold kP at h
  split at h
  ·cases h
  ·rcases zgn.mp hg with e|e
   ·subst e;omega
   ·exact ih _ h g e
theorem qx4(gs:List Nat):∀(f k b:Nat) (m:Int),k+f=64->b<=63->(∀g∈gs,g/2^b<=4096)->qcg gs f k b m<=63/\∀g∈gs,g/2^(qcg gs f k b m)<=4096:=by
 intro f
 induction f with
 |zero=>intro k b m _ h1 h2;exact⟨h1,h2⟩
 |succ f ih=>
  intro k b m hk h1 h2
  unfold qcg
  split
  ·rename_i h
   exact ih (k+1) k _ qc qc (qvg k gs 0 h.1)
  ·exact ih (k+1) b m qc h1 h2
theorem YY{gs:List Nat}(h:∀g∈gs,g<18446744073709551616):kX gs<=63/\∀g∈gs,g/2^kX gs<=4096:=by
 refine qx4 gs 64 0 63 (-1) rfl (zgm _) (fun g hg=>?_)
 have:=h g hg
 have e:(2:Nat)^63=9223372036854775808:=qg
 rw[e]
 omega
theorem JJ(k:Nat)(hk:k<=63):∀(gs:List Nat),(∀g∈gs,g/2^k<=4096)->(ZO k gs).length<=gs.length*4160:=by
 intro gs
 induction gs with
 |nil=>intro _;exact zhf _
 |cons x r ih=>
  intro h
  have h1:=ih (fun g hg=>h g (by simp[hg]))
  have h2:=h x qf
  simp[ZO]
  omega
theorem zad(l:List Bool)(i:Nat):KS (pk l) i=l.getD i false:=by
 by_cases h:i<l.length
 ·exact qgj l i h
 ·rw[qda l i qc,zgp,zhg qc]
  rfl
def Ss(l m:List Bool):Prop:=∀i,l.getD i false=m.getD i false
theorem Ss.pk{l m:List Bool}(h:pk l=pk m):Ss l m:=fun i=>by rw[<-zad,<-zad,h]
theorem Ss.tail{a b:Bool}{l m:List Bool}(h:Ss (a::l) (b::m)):a=b/\Ss l m:=⟨h 0,fun i=>h (i+1)⟩
theorem Ss.una:∀(q q':Nat) (l m:List Bool),Ss (una q++l) (una q'++m)->q=q'/\Ss l m:=by
 intro q
 induction q with
 |zero=>
  intro q' l m h
  cases q' with
  |zero=>exact⟨rfl,(Ss.tail h).2⟩
  |succ q'=>exact absurd (Ss.tail h).1 qg
 |succ q ih=>
  intro q' l m h
  cases q' with
  |zero=>exact absurd (Ss.tail h).1 qg
  |succ q'=>
   have:=ih q' l m (Ss.tail h).2
   exact⟨qc,this.2⟩
theorem Ss.app:∀(a b l m:List Bool),a.length=b.length->Ss (a++l) (b++m)->a=b/\Ss l m:=by
 intro a
 induction a with
 |nil=>
  intro b l m e h
  cases b with
  |nil=>exact⟨rfl,h⟩
  |cons y s=>cases e
 |cons x r ih=>
  intro b l m e h
  cases b with
  |nil=>cases e
  |cons y s=>
   have t:=Ss.tail h
   have i:=ih s l m (by simpa using e) t.2
   exact⟨by rw[t.1,i.1],i.2⟩
def see(cs:List Nat)(x:Nat):List Nat:=if(cs.set x (cs.getD x 0+24)).sum<=4096 then cs.set x (cs.getD x 0+24)else(cs.set x (cs.getD x 0+24)).map fun n=>(n+1)/2
def okM(cs:List Nat):Prop:=cs.length=64/\cs.sum<=4096/\∀n∈cs,1<=n
theorem qkt:∀(cs:List Nat) (x v:Nat),x<cs.length->(cs.set x v).sum+cs.getD x 0=cs.sum+v:=by
 intro cs
 induction cs with
 |nil=>intro x v h;cases h
 |cons c r ih=>
  intro x v h
  cases x with
  |zero=>simp;omega
  |succ x=>
   have:=ih x v (by simpa using h)
   simp only[List.set_cons_succ,zj5,List.getD_cons_succ]
   omega
theorem qdu:∀(cs:List Nat),2*(cs.map fun n=>(n+1)/2).sum<=cs.sum+cs.length:=by
 intro cs
 induction cs with
 |nil=>exact zgm _
 |cons c r ih=>simp only[zhc,zj5,zgk];omega
theorem qh4{cs:List Nat}{x:Nat}(h:okM cs)(hx:x<64):okM (see cs x):=by
 obtain⟨h1,h2,h3⟩:=h
 have hs:=qkt cs x (cs.getD x 0+24) qc
 have hpos:∀n∈cs.set x (cs.getD x 0+24),1<=n:=by
  intro n hn
  rcases zi1 hn with e|e
  ·exact h3 n e
  ·omega
 unfold see
 split
 ·rename_i hle
  exact⟨by simp[h1],hle,hpos⟩
 ·have hh:=qdu (cs.set x (cs.getD x 0+24))
  rw[List.length_set,h1]at hh
  refine⟨by simp[h1],qc,fun n hn=>?_⟩
  obtain⟨m,hm,rfl⟩:=zg6.mp hn
  have:=hpos m hm
  omega
theorem zU:∀(cs:List Nat) (x:Nat),x<cs.length->(cs.take (x+1)).sum=(cs.take x).sum+cs.getD x 0:=by
 intro cs
 induction cs with
 |nil=>intro x h;cases h
 |cons c r ih=>
  intro x h
  cases x with
  |zero=>simp
  |succ x=>
   have:=ih x (by simpa using h)
   simp only[zgs,zj5,List.getD_cons_succ]
   omega
theorem qdt:∀(cs:List Nat) (x y:Nat),x<=y->(cs.take x).sum<=(cs.take y).sum:=by
 intro cs
 induction cs with
 |nil=>intro x y _;simp
 |cons c r ih=>
  intro x y h
  cases x with
  |zero=>simp
  |succ x=>
   cases y with
   |zero=>omega
   |succ y=>
    have:=ih x y qc
    simp only[zgs,zj5]
    omega
theorem zP(cs:List Nat)(x:Nat):(cs.take x).sum<=cs.sum:=by
 by_cases h:x<=cs.length
 ·have:=qdt cs x cs.length h
  rwa [List.take_length]at this
 ·rw[zg4 qc];exact zgm _
structure En where
 low:Nat
 width:Nat
 held:Nat
 last:Nat
 begun:Bool
 out:List Int
def sh(s:En):En:=
 if s.low<4278190080\/4294967296<=s.low then
  ⟨s.low%16777216*256,s.width,0,s.low/16777216%256,true,s.out++(if s.begun then [(((s.last+s.low/4294967296%256)%256:Nat):Int)]else [])++List.replicate s.held (((255+s.low/4294967296%256)%256:Nat):Int)⟩
 else⟨s.low%16777216*256,s.width,s.held+1,s.last,s.begun,s.out⟩
def wid(s:En)(w:Nat):En:=⟨s.low,w,s.held,s.last,s.begun,s.out⟩
def jz:Nat->En->En
 |0,s=>s
 |f+1,s=>if s.width<16777216 then jz f (sh (wid s (s.width*256)))else s
def YK(s:En)(cs:List Nat)(x:Nat):En:=⟨s.low+s.width/cs.sum*(cs.take x).sum,s.width/cs.sum*cs.getD x 0,s.held,s.last,s.begun,s.out⟩
def enc:List Nat->En->List Nat->En
 |_,s,[]=>s
 |cs,s,x::r=>enc (see cs x) (jz 4 (YK s cs x)) r
def en0:En:=⟨0,4294967295,0,0,false,[]⟩
def cs0:List Nat:=List.replicate 64 1
def cod(l:List Nat):List Int:=(sh (sh (sh (sh (sh (enc cs0 en0 l)))))).out
def kD(l:List Int):Nat:=l.foldl (fun a b=>a*256+b.toNat) 0
theorem yI(l:List Int)(b:Int):kD (l++[b])=kD l*256+b.toNat:=by simp[kD,List.foldl_append]
theorem qj0(l:List Int):∀h,kD (l++List.replicate h 0)=kD l*256^h:=by
 intro h
 induction h with
 |zero=>simp
 |succ h ih=>
  rw[zjk,<-List.append_assoc,yI,ih,ziw,zic]
  simp
theorem qo2(l:List Int):∀h,kD (l++List.replicate h 255)+1=(kD l+1)*256^h:=by
 intro h
 induction h with
 |zero=>simp
 |succ h ih=>
  rw[zjk,<-List.append_assoc,yI,ziw,<-Nat.mul_assoc,<-ih]
  have e:(255:Int).toNat=255:=rfl
  rw[e]
  omega
def bl(s:En):List Int:=s.out++(if s.begun then [(s.last:Int)]else [])++List.replicate s.held 255
def eV(s:En):Nat:=kD (bl s)*4294967296+s.low
def eK(s:En):Nat:=s.out.length+s.begun.toNat+s.held
theorem qvp(s:En):(bl s).length=eK s:=by
 unfold bl eK
 cases s.begun<;>simp<;>omega
def Vu(s:En)(w:Nat):Prop:=s.low+w<=8589934592/\s.last<256/\0<w/\((s.begun=false\/s.last=255)->s.low+w<=4294967296)
theorem JM{s:En}{w v:Nat}(h:Vu s w)(h1:v<=w)(h2:0<v):Vu s v:=
 ⟨by have:=h.1;omega,h.2.1,h2,fun q=>by have:=h.2.2.2 q;omega⟩
theorem XB(s:En)(w:Nat)(h:Vu s w)(hw:w<=16777216):Vu (sh s) (w*256)/\eV (sh s)=eV s*256/\eK (sh s)=eK s+1/\(sh s).width=s.width:=by
 obtain⟨h1,h2,h3,h4⟩:=h
 by_cases hA:s.low<4278190080
 ·have e:sh s=⟨s.low%16777216*256,s.width,0,s.low/16777216%256,true,bl s⟩:=by
   unfold sh
   rw[if_pos (.inl hA)]
   have c0:s.low/4294967296%256=0:=qc
   have c1:(s.last+0)%256=s.last:=qc
   unfold bl
   rw[c0,c1]
   rfl
  rw[e]
  refine⟨⟨by show s.low%16777216*256+w*256<=_;omega,by show s.low/16777216%256<_;omega,qc,fun q=>?_⟩,?_,?_,rfl⟩
  ·rcases q with q|q
   ·cases q
   ·have q:s.low/16777216%256=255:=q
    omega
  ·show kD (bl s++[((s.low/16777216%256:Nat):Int)]++[])*4294967296+s.low%16777216*256=(kD (bl s)*4294967296+s.low)*256
   rw[zhd,yI,zgu]
   omega
  ·show(bl s).length+1+0=eK s+1
   rw[qvp]
 ·by_cases hB:4294967296<=s.low
  ·have hb:s.begun=true:=by
    cases hq:s.begun
    ·have:=h4 (.inl hq);omega
    ·rfl
   have hl:s.last<=254:=by
    by_cases q:s.last=255
    ·have:=h4 (.inr q);omega
    ·omega
   have e:sh s=⟨s.low%16777216*256,s.width,0,s.low/16777216%256,true,s.out++[((s.last+1:Nat):Int)]++List.replicate s.held 0⟩:=by
    unfold sh
    rw[if_pos (.inr hB),hb,if_pos rfl]
    have c0:s.low/4294967296%256=1:=qc
    have c1:(s.last+1)%256=s.last+1:=qc
    rw[c0,c1]
    rfl
   have eb:bl s=s.out++[(s.last:Int)]++List.replicate s.held 255:=by unfold bl;rw[hb,if_pos rfl]
   have n1:kD (s.out++[((s.last+1:Nat):Int)]++List.replicate s.held 0)=kD (bl s)+1:=by
    have f:=qo2 (s.out++[(s.last:Int)]) s.held
    rw[eb,f,qj0,yI,yI,zgu,zgu,ziq]
   rw[e]
   refine⟨⟨by show s.low%16777216*256+w*256<=_;omega,by show s.low/16777216%256<_;omega,qc,fun q=>?_⟩,?_,?_,rfl⟩
   ·rcases q with q|q
    ·cases q
    ·have q:s.low/16777216%256=255:=q
     show s.low%16777216*256+w*256<=_
     omega
   ·show kD (s.out++[((s.last+1:Nat):Int)]++List.replicate s.held 0++[((s.low/16777216%256:Nat):Int)]++[])*4294967296+s.low%16777216*256=(kD (bl s)*4294967296+s.low)*256
    rw[zhd,yI,zgu,n1]
    omega
   ·show(s.out++[((s.last+1:Nat):Int)]++List.replicate s.held 0).length+1+0=eK s+1
    unfold eK
    rw[hb]
    simp
    omega
  ·have e:sh s=⟨s.low%16777216*256,s.width,s.held+1,s.last,s.begun,s.out⟩:=by
    unfold sh
    rw[if_neg qc]
   rw[e]
   refine⟨⟨by show s.low%16777216*256+w*256<=_;omega,h2,qc,fun q=>?_⟩,?_,?_,rfl⟩
   ·have:=h4 q
    show s.low%16777216*256+w*256<=_
    omega
   ·show kD (s.out++(if s.begun then [(s.last:Int)]else [])++List.replicate (s.held+1) 255)*4294967296+s.low%16777216*256=(kD (bl s)*4294967296+s.low)*256
    have n1:kD (s.out++(if s.begun then [(s.last:Int)]else [])++List.replicate (s.held+1) 255)=kD (bl s)*256+255:=by
     rw[zjk,<-List.append_assoc,yI]
     rfl
    rw[n1]
    omega
   ·show s.out.length+s.begun.toNat+(s.held+1)=eK s+1
    unfold eK
    omega
theorem qu9(s:En)(w:Nat):eV (wid s w)=eV s/\eK (wid s w)=eK s:=⟨rfl,rfl⟩
theorem qyh:∀(f:Nat) (s:En),Vu s s.width->s.width<=4294967296->4294967296<=s.width*256^f*256->∃d,eV (jz f s)=eV s*256^d/\(jz f s).width=s.width*256^d/\eK (jz f s)=eK s+d/\Vu (jz f s) (jz f s).width/\
 16777216<=(jz f s).width/\(jz f s).width<=4294967296:=by
 intro f
 induction f with
 |zero=>
  intro s h hw hf
  exact⟨0,by simp[jz],by simp[jz],rfl,h,by show 16777216<=s.width;simp at hf;omega,hw⟩
 |succ f ih=>
  intro s h hw hf
  unfold jz
  by_cases hl:s.width<16777216
  ·rw[if_pos hl]
   have h':Vu (wid s (s.width*256)) s.width:=h
   obtain⟨a1,a2,a3,a4⟩:=XB (wid s (s.width*256)) s.width h' qc
   have a4:(sh (wid s (s.width*256))).width=s.width*256:=a4
   have hf2:4294967296<=s.width*256*256^f*256:=by
    rw[ziw]at hf
    have e:s.width*(256^f*256)*256=s.width*256*256^f*256:=by
     rw[zic s.width 256,zhe 256 (256^f)]
    rwa [e]at hf
   obtain⟨d,b1,b2,b3,b4,b5,b6⟩:=ih (sh (wid s (s.width*256))) (by rw[a4];exact a1) (by rw[a4];omega) (by rw[a4];exact hf2)
   refine⟨d+1,?_,?_,?_,b4,b5,b6⟩
   ·rw[b1,a2,(qu9 s _).1,ziw,zic,zhe 256]
   ·rw[b2,a4,ziw,zic,zhe 256]
   ·rw[b3,a3,(qu9 s _).2];omega
  ·rw[if_neg hl]
   exact⟨0,qf,qf,rfl,h,qc,hw⟩
theorem qj8(s:En)(cs:List Nat)(x:Nat)(hm:okM cs)(hx:x<64)(h:Vu s s.width)(hw:16777216<=s.width/\s.width<=4294967296):
 ∃d,eV (jz 4 (YK s cs x))=(eV s+s.width/cs.sum*(cs.take x).sum)*256^d/\(jz 4 (YK s cs x)).width=s.width/cs.sum*cs.getD x 0*256^d/\eK (jz 4 (YK s cs x))=eK s+d/\
  Vu (jz 4 (YK s cs x)) (jz 4 (YK s cs x)).width/\16777216<=(jz 4 (YK s cs x)).width/\(jz 4 (YK s cs x)).width<=4294967296/\0<s.width/cs.sum*cs.getD x 0:=by
 obtain⟨m1,m2,m3⟩:=hm
 have hn:1<=cs.getD x 0:=by
  rw[zgp,zgl qc]
  exact m3 _ (zhx _)
 have ht:=zU cs x qc
 have hta:=zP cs (x+1)
 have hpart:4096<=s.width/cs.sum:=by
  rw[zka qc]
  have:4096*cs.sum<=4096*4096:=zhz _ m2
  omega
 have hmul:s.width/cs.sum*cs.sum<=s.width:=zjr _ _
 have hsum:s.width/cs.sum*(cs.take x).sum+s.width/cs.sum*cs.getD x 0<=s.width:=by
  rw[<-Nat.mul_add,<-ht]
  exact zhw (zhz _ hta) hmul
 have hge:s.width/cs.sum*1<=s.width/cs.sum*cs.getD x 0:=zhz _ hn
 obtain⟨h1,h2,h3,h4⟩:=h
 have ok:Vu (YK s cs x) (YK s cs x).width:=by
  refine⟨?_,h2,?_,fun q=>?_⟩
  ·show s.low+s.width/cs.sum*(cs.take x).sum+s.width/cs.sum*cs.getD x 0<=_;omega
  ·show 0<s.width/cs.sum*cs.getD x 0;omega
  ·have:=h4 q
   show s.low+s.width/cs.sum*(cs.take x).sum+s.width/cs.sum*cs.getD x 0<=_;omega
 obtain⟨d,b1,b2,b3,b4,b5,b6⟩:=qyh 4 (YK s cs x) ok (by show s.width/cs.sum*cs.getD x 0<=_;omega) (by
  show 4294967296<=s.width/cs.sum*cs.getD x 0*256^4*256
  have e:(256:Nat)^4=4294967296:=qg
  rw[e]
  omega)
 have ev:eV (YK s cs x)=eV s+s.width/cs.sum*(cs.take x).sum:=by
  show kD (bl s)*4294967296+(s.low+_)=kD (bl s)*4294967296+s.low+_
  omega
 exact⟨d,by rw[b1,ev],b2,b3,b4,b5,b6,qc⟩
theorem zcu:∀(l cs:List Nat) (s:En),okM cs->(∀x∈l,x<64)->Vu s s.width->16777216<=s.width/\s.width<=4294967296->
 ∃d,eK (enc cs s l)=eK s+d/\eV s*256^d<=eV (enc cs s l)/\eV (enc cs s l)+(enc cs s l).width<=(eV s+s.width)*256^d/\Vu (enc cs s l) (enc cs s l).width/\0<(enc cs s l).width:=by
 intro l
 induction l with
 |nil=>intro cs s hm hl h hw;exact⟨0,rfl,by simp[enc],by simp[enc],h,by show 0<s.width;omega⟩
 |cons x r ih=>
  intro cs s hm hl h hw
  obtain⟨d,a1,a2,a3,a4,a5,a6,a7⟩:=qj8 s cs x hm (hl x qf) h hw
  obtain⟨d2,b1,b2,b3,b4,b5⟩:=ih (see cs x) (jz 4 (YK s cs x)) (qh4 hm (hl x qf)) (fun y hy=>hl y (by simp[hy])) a4 ⟨a5,a6⟩
  have e:enc cs s (x::r)=enc (see cs x) (jz 4 (YK s cs x)) r:=rfl
  rw[e]
  refine⟨d+d2,by rw[b1,a3];omega,?_,?_,b4,b5⟩
  ·refine zhw ?_ b2
   rw[a1,zjp,<-Nat.mul_assoc]
   exact zgz _ (zgz _ (Nat.le_add_right _ _))
  ·refine zhw b3 ?_
   rw[a1,a2,<-Nat.add_mul,zjp,<-Nat.mul_assoc]
   refine zgz _ (zgz _ ?_)
   have ht:=zU cs x (by have:=hm.1;have:=hl x qf;omega)
   have hta:=zP cs (x+1)
   have hmul:s.width/cs.sum*cs.sum<=s.width:=zjr _ _
   have hsum:s.width/cs.sum*(cs.take x).sum+s.width/cs.sum*cs.getD x 0<=s.width:=by
    rw[<-Nat.mul_add,<-ht]
    exact zhw (zhz _ hta) hmul
   omega
theorem zbz:okM cs0:=⟨qg,qg,fun n hn=>by rw[zia hn];exact zgm _⟩
theorem zb0:Vu en0 en0.width:=⟨qg,qg,qg,fun _=>qg⟩
theorem qzn(l:List Nat)(hl:∀x∈l,x<64):kD (cod l)=eV (enc cs0 en0 l)/\(cod l).length=eK (enc cs0 en0 l)+4:=by
 obtain⟨d,_,_,_,h,hw⟩:=zcu l cs0 en0 zbz hl zb0 ⟨qg,qg⟩
 unfold cod
 generalize enc cs0 en0 l=s at*
 have s1:=XB s 1 (JM h hw qc) qc
 have s2:=XB (sh s) 1 (JM s1.1 qc qc) qc
 have s3:=XB (sh (sh s)) 1 (JM s2.1 qc qc) qc
 have s4:=XB (sh (sh (sh s))) 1 (JM s3.1 qc qc) qc
 have lw:∀s:En,(sh s).low=s.low%16777216*256:=fun s=>by unfold sh;split<;>rfl
 have z:(sh (sh (sh (sh s)))).low=0:=by rw[lw,lw,lw,lw];omega
 have e:(sh (sh (sh (sh (sh s))))).out=bl (sh (sh (sh (sh s)))):=by
  have h2:=s4.1.2.1
  generalize sh (sh (sh (sh s)))=t at*
  unfold sh
  rw[if_pos (.inl qc),z]
  have c1:(t.last+0/4294967296%256)%256=t.last:=qc
  unfold bl
  rw[c1]
  rfl
 rw[e,qvp,s4.2.2.1,s3.2.2.1,s2.2.2.1,s1.2.2.1]
 refine⟨?_,qc⟩
 have v:eV (sh (sh (sh (sh s))))=kD (bl (sh (sh (sh (sh s)))))*4294967296+0:=by rw[<-z];rfl
 rw[s4.2.1,s3.2.1,s2.2.1,s1.2.1]at v
 omega
def ja(m:Nat):Nat->Nat
 |0=>0
 |n+1=>ja m n+(m.testBit n).toNat
theorem Qd(m a:Nat):∀b,ja m (a+b)=ja m a+ja (m/2^a) b:=by
 intro b
 induction b with
 |zero=>rfl
 |succ b ih=>
  show ja m (a+b)+(m.testBit (a+b)).toNat=ja m a+(ja (m/2^a) b+((m/2^a).testBit b).toNat)
  rw[ih,zhs,Nat.add_comm b a]
  omega
theorem vF(m:Nat):∀n,ja m n<=n:=by
 intro n
 induction n with
 |zero=>exact zgm _
 |succ n ih=>
  show ja m n+_<=n+1
  have:=b2n (m.testBit n)
  omega
theorem qk9(m k:Nat):∀n,n<=k->ja (m%2^k) n=ja m n:=by
 intro n
 induction n with
 |zero=>intro _;rfl
 |succ n ih=>
  intro h
  show ja (m%2^k) n+_=ja m n+_
  rw[ih qc,zht]
  simp[show n<k by omega]
def WE(c:Nat):Nat->Nat
 |0=>0
 |k+1=>WE c k*256+c
theorem vm(a b c d:Nat)(hb:b<256)(hd:d<256):(a*256+b)&&&(c*256+d)=(a&&&c)*256+(b&&&d):=by
 have hbd:b&&&d<256:=zjc Nat.and_le_left hb
 apply zif
 intro i
 have e1:=zjj a (i:=8) hb i
 have e2:=zjj c (i:=8) hd i
 have e3:=zjj (a&&&c) (i:=8) hbd i
 have q:∀x y,2^8*x+y=x*256+y:=fun x y=>qc
 rw[q]at e1 e2 e3
 rw[zjt,e1,e2,e3]
 by_cases h:i<8
 ·rw[if_pos h,if_pos h,if_pos h,zjt]
 ·rw[if_neg h,if_neg h,if_neg h,zjt]
def f1(k x:Nat):Nat:=((x/2)&&&WE 85 k)+(x&&&WE 85 k)
def f2(k x:Nat):Nat:=((x/4)&&&WE 51 k)+(x&&&WE 51 k)
def f3(k x:Nat):Nat:=(x/16+x)&&&WE 15 k
theorem zfv:∀b,b<256->∀t,t<2->(t*128+b/2)&&&85=(b/2)&&&85:=qg
theorem zfu:∀b,b<256->∀t,t<4->(t*64+b/4)&&&51=(b/4)&&&51:=qg
theorem qu6(k a b:Nat)(hb:b<256):f1 (k+1) (a*256+b)=f1 k a*256+f1 1 b:=by
 unfold f1
 have e:(a*256+b)/2=a/2*256+(a%2*128+b/2):=qc
 have m:WE 85 (k+1)=WE 85 k*256+85:=rfl
 have m1:WE 85 1=85:=rfl
 rw[e,m,m1,vm _ _ _ _ qc qc,vm _ _ _ _ hb qc,zfv b hb _ qc]
 omega
theorem qu5(k a b:Nat)(hb:b<256):f2 (k+1) (a*256+b)=f2 k a*256+f2 1 b:=by
 unfold f2
 have e:(a*256+b)/4=a/4*256+(a%4*64+b/4):=qc
 have m:WE 51 (k+1)=WE 51 k*256+51:=rfl
 have m1:WE 51 1=51:=rfl
 rw[e,m,m1,vm _ _ _ _ qc qc,vm _ _ _ _ hb qc,zfu b hb _ qc]
 omega
theorem qy9:∀b,b<256->f1 1 b<256:=qg
theorem ql3:∀b,b<256->f2 1 (f1 1 b)<256/\f2 1 (f1 1 b)%16<=4/\f2 1 (f1 1 b)/16<=4/\f3 1 (f2 1 (f1 1 b))=ja b 8:=qg
def f12(k x:Nat):Nat:=f2 k (f1 k x)
theorem WS(k a b:Nat)(hb:b<256):f12 (k+1) (a*256+b)=f12 k a*256+f12 1 b:=by
 unfold f12
 rw[qu6 k a b hb,qu5 k _ _ (qy9 b hb)]
theorem qza(k x:Nat)(h:x<256^k):f12 k x%16<=4:=by
 cases k with
 |zero=>
  have:x=0:=qc
  subst this
  decide
 |succ k=>
  have e:x=x/256*256+x%256:=qc
  rw[e,WS k _ _ qc]
  have:=(ql3 (x%256) qc).2.1
  unfold f12 at*
  omega
theorem qu4(k a b:Nat)(ha:a<256^k)(hb:b<256):f3 (k+1) (f12 (k+1) (a*256+b))=f3 k (f12 k a)*256+ja b 8:=by
 rw[WS k a b hb]
 have hl:=qza k a ha
 have hB:=ql3 b hb
 have e12:f12 1 b=f2 1 (f1 1 b):=rfl
 rw[<-hB.2.2.2,e12]
 generalize f2 1 (f1 1 b)=B at*
 generalize f12 k a=A at*
 obtain⟨h1,h2,h3,_⟩:=hB
 unfold f3
 have e:(A*256+B)/16+(A*256+B)=(A/16+A)*256+(A%16*16+B/16+B):=qc
 have m:WE 15 (k+1)=WE 15 k*256+15:=rfl
 have m1:WE 15 1=15:=rfl
 rw[e,m,m1,vm _ _ _ _ qc qc]
 congr 1
 have q:∀x,x&&&15=x%16:=fun x=>zip x 4
 rw[q,q]
 omega
def cB(x:Nat):Nat->Nat
 |0=>0
 |k+1=>cB (x/256) k*256+ja (x%256) 8
theorem zcs:∀(k x:Nat),x<256^k->f3 k (f12 k x)=cB x k:=by
 intro k
 induction k with
 |zero=>
  intro x h
  have:x=0:=qc
  subst this
  decide
 |succ k ih=>
  intro x h
  have e:x=x/256*256+x%256:=qc
  have h2:x/256<256^k:=by rw[ziw]at h;omega
  have:=qu4 k (x/256) (x%256) h2 qc
  rw[<-e,ih _ h2]at this
  exact this
theorem qnq(x:Nat):ja x 64=ja (x%256) 8+(ja (x/256%256) 8+(ja (x/256/256%256) 8+(ja (x/256/256/256%256) 8+(ja (x/256/256/256/256%256) 8+
 (ja (x/256/256/256/256/256%256) 8+(ja (x/256/256/256/256/256/256%256) 8+ja (x/256/256/256/256/256/256/256%256) 8)))))):=by
 have s:∀y n,ja y (8+n)=ja (y%256) 8+ja (y/256) n:=fun y n=>by
  rw[Qd y 8 n]
  have:=qk9 y 8 8 (zgm _)
  rw[<-this]
 have e64:(64:Nat)=8+(8+(8+(8+(8+(8+(8+(8+0))))))):=rfl
 rw[e64]
 simp only[s]
 rfl
theorem qs5(c:Nat)(c0 c1 c2 c3 c4 c5 c6 c7:Nat)(h0:c0<=8)(h1:c1<=8)(h2:c2<=8)(h3:c3<=8)(h4:c4<=8)(h5:c5<=8)(h6:c6<=8)(h7:c7<=8)
 (h:c=((((((c7*256+c6)*256+c5)*256+c4)*256+c3)*256+c2)*256+c1)*256+c0):
 c<651061555542690057/\∃d,d=c+c/256/\∃e,e=d+d/65536/\e+e/4294967296<9223372036854775808/\(e+e/4294967296)%128=c0+(c1+(c2+(c3+(c4+(c5+(c6+c7)))))):=by
 obtain⟨A7,hA7⟩:∃A,A=c7:=⟨_,rfl⟩
 obtain⟨A6,hA6⟩:∃A,A=A7*256+c6:=⟨_,rfl⟩
 obtain⟨A5,hA5⟩:∃A,A=A6*256+c5:=⟨_,rfl⟩
 obtain⟨A4,hA4⟩:∃A,A=A5*256+c4:=⟨_,rfl⟩
 obtain⟨A3,hA3⟩:∃A,A=A4*256+c3:=⟨_,rfl⟩
 obtain⟨A2,hA2⟩:∃A,A=A3*256+c2:=⟨_,rfl⟩
 obtain⟨A1,hA1⟩:∃A,A=A2*256+c1:=⟨_,rfl⟩
 rw[<-hA7,<-hA6,<-hA5,<-hA4,<-hA3,<-hA2,<-hA1]at h
 have dv:∀a b:Nat,b<256->(a*256+b)/256=a:=fun a b hb=>qc
 have b7:A7<=8:=qc
 have b6:A6<=2056:=qc
 have b5:A5<=526344:=qc
 have b4:A4<=134744072:=qc
 have b3:A3<=34494482440:=qc
 have b2:A2<=8830587504648:=qc
 have b1:A1<=2260630401189896:=qc
 have b0:c<=578721382704613384:=qc
 have e0:c/256=A1:=by rw[h];exact dv A1 c0 qc
 --the first sum
 have s7:A7=0*256+c7:=qc
 have s6:A6+A7=A7*256+(c6+c7):=qc
 have s5:A5+A6=(A6+A7)*256+(c5+c6):=qc
 have s4:A4+A5=(A5+A6)*256+(c4+c5):=qc
 have s3:A3+A4=(A4+A5)*256+(c3+c4):=qc
 have s2:A2+A3=(A3+A4)*256+(c2+c3):=qc
 have s1:A1+A2=(A2+A3)*256+(c1+c2):=qc
 have s0:c+A1=(A1+A2)*256+(c0+c1):=qc
 refine⟨qc,_,rfl,_,rfl,?_⟩
 rw[e0]
 generalize hd:c+A1=d at*
 generalize hB1:A1+A2=B1 at*
 generalize hB2:A2+A3=B2 at*
 generalize hB3:A3+A4=B3 at*
 generalize hB4:A4+A5=B4 at*
 generalize hB5:A5+A6=B5 at*
 generalize hB6:A6+A7=B6 at*
 have e1:d/65536=B2:=by
  have:d/65536=d/256/256:=by rw[ziu]
  rw[this,s0,dv _ _ qc,s1,dv _ _ qc]
 have t6:B6=A7*256+(c6+c7):=s6
 have t4:B4+B6=(B5+A7)*256+(c4+c5+(c6+c7)):=qc
 have t3:B3+B5=(B4+B6)*256+(c3+c4+(c5+c6)):=qc
 have t2:B2+B4=(B3+B5)*256+(c2+c3+(c4+c5)):=qc
 have t1:B1+B3=(B2+B4)*256+(c1+c2+(c3+c4)):=qc
 have t0:d+B2=(B1+B3)*256+(c0+c1+(c2+c3)):=qc
 rw[e1]
 have hde:d+B2<=600000000000000000:=qc
 generalize hE0:d+B2=E0 at*
 generalize hE1:B1+B3=E1 at*
 generalize hE2:B2+B4=E2 at*
 generalize hE3:B3+B5=E3 at*
 generalize hE4:B4+B6=E4 at*
 have e2:E0/4294967296=E4:=by
  have:E0/4294967296=E0/256/256/256/256:=by rw[ziu,ziu,ziu]
  rw[this,t0,dv _ _ qc,t1,dv _ _ qc,t2,dv _ _ qc,t3,dv _ _ qc]
 rw[e2]
 have hE4b:E4<=1000000000000:=qc
 clear hd hB1 hB2 hB3 hB4 hB5 hB6 s0 s1 s2 s3 s4 s5 s6 s7 h hA1 hA2 hA3 hA4 hA5 hA6 hA7 e0 e1 t1 t2 t3 t6 hE0 hE1 hE2 hE3 hE4 e2
 refine⟨qc,?_⟩
 have m:∀a b s t:Nat,(a*256+s+(b*256+t))%128=(s+t)%128:=fun a b s t=>qc
 rw[t0,t4,m]
 omega
def kA(m:Nat):Nat->Nat
 |0=>0
 |n+1=>kA m n+(m.testBit n&&!(decide (0<n)&&m.testBit (n-1))).toNat
def wm(m:Nat):Nat->Nat->List Int
 |0,_=>[]
 |f+1,i=>if m.testBit i then(i:Int)::wm m f (i+1)else wm m f (i+1)
def qc9(m:Nat):Nat->Nat->List Int
 |0,_=>[]
 |f+1,i=>((m/2^(8*i)%256:Nat):Int)::qc9 m f (i+1)
def kz(m:Nat):Nat->Nat->Nat
 |0,i=>i
 |f+1,i=>if m.testBit (i+1)then kz m f (i+1)else i
def rnF(m:Nat):Nat->Nat->List Int
 |0,_=>[]
 |f+1,i=>if 256<=i then []else if m.testBit i then(i:Int)::((kz m (255-i) i-i:Nat):Int)::rnF m f (kz m (255-i) i+1)else rnF m f (i+1)
def kind(m:Nat):Nat:=if ja m 256+1<=32/\ja m 256+1<=2*kA m 256+1 then 0 else if 32<=2*kA m 256+1 then 1 else 2
def qvm(m:Nat):List Int:=if kind m=0 then((ja m 256-1:Nat):Int)::wm m 256 0 else if kind m=1 then qc9 m 32 0 else((kA m 256-1:Nat):Int)::rnF m 256 0
def qc6(c:Nat×Nat):List Int:=uv c.1++((kind c.2:Nat):Int)::qvm c.2
def XN:List (Nat×Nat)->List Int
 |[]=>[]
 |c::r=>qc6 c++XN r
def YJ(cs:List (Nat×Nat)):List Int:=uv cs.length++XN cs
def QN(x:Nat):List (Nat×Nat)->List (Nat×Nat)
 |[]=>[(x/256,2^(x%256))]
 |c::r=>if c.1=x/256 then(c.1,c.2|||2^(x%256))::r else(x/256,2^(x%256))::c::r
def kQ:List Nat->List (Nat×Nat)
 |[]=>[]
 |x::r=>QN x (kQ r)
theorem qce(m:Nat):∀n,kA m n<=ja m n:=by
 intro n
 induction n with
 |zero=>exact zgm _
 |succ n ih=>
  show kA m n+_<=ja m n+_
  cases m.testBit n
  ·simpa using ih
  ·have:=b2n (true&&!(decide (0<n)&&m.testBit (n-1)))
   have e:true.toNat=1:=rfl
   omega
theorem qvt(m:Nat):∀f i,(wm m f i).length+ja m i=ja m (i+f):=by
 intro f
 induction f with
 |zero=>intro i;simp[wm]
 |succ f ih=>
  intro i
  have h:=ih (i+1)
  have e:i+1+f=i+(f+1):=qc
  rw[e]at h
  have e2:ja m (i+1)=ja m i+(m.testBit i).toNat:=rfl
  rw[e2]at h
  unfold wm
  cases hb:m.testBit i
  ·rw[hb]at h;simpa using h
  ·rw[hb]at h
   have e3:true.toNat=1:=rfl
   simp only[if_true,zgk]
   omega
@[simp] theorem qvn (m : Nat) : ∀ f i, (qc9 m f i).length = f := by
 intro f
 induction f with
 |zero=>intro i;rfl
 |succ f ih=>intro i;simp[qc9,ih]
theorem YX(m:Nat):∀f i,i<=kz m f i/\kz m f i<=i+f/\(∀j,i<j->j<=kz m f i->m.testBit j=true)/\(kz m f i<i+f->m.testBit (kz m f i+1)=false):=by
 intro f
 induction f with
 |zero=>intro i;exact⟨zgm _,zgm _,fun j h1 h2=>by have h2:j<=i:=h2;omega,fun h=>by have h:i<i+0:=h;omega⟩
 |succ f ih=>
  intro i
  unfold kz
  by_cases hb:m.testBit (i+1)=true
  ·rw[if_pos hb]
   obtain⟨h1,h2,h3,h4⟩:=ih (i+1)
   refine⟨qc,qc,fun j a b=>?_,fun h=>h4 qc⟩
   by_cases e:j=i+1
   ·subst e;exact hb
   ·exact h3 j qc b
  ·rw[if_neg hb]
   exact⟨zgm _,qc,fun j a b=>qc,fun _=>by simpa using hb⟩
def inR(j:Nat):List Int->Prop
 |a::b::r=>(a<=(j:Int)/\(j:Int)<=a+b)\/inR j r
 |_=>False
theorem zbr(m:Nat):∀f i,256<=i+f->∀j,inR j (rnF m f i)↔(i<=j/\j<256/\m.testBit j=true):=by
 intro f
 induction f with
 |zero=>intro i h j;show False↔_;constructor
        ·intro h;cases h
        ·intro h;omega
 |succ f ih=>
  intro i h j
  unfold rnF
  by_cases h1:256<=i
  ·rw[if_pos h1]
   show False↔_
   constructor
   ·intro h;cases h
   ·intro h;omega
  ·rw[if_neg h1]
   by_cases hb:m.testBit i=true
   ·rw[if_pos hb]
    obtain⟨r1,r2,r3,r4⟩:=YX m (255-i) i
    have hi:=ih (kz m (255-i) i+1) qc j
    generalize kz m (255-i) i=e at*
    show(((i:Int)<=(j:Int)/\(j:Int)<=(i:Int)+((e-i:Nat):Int))\/inR j _)↔_
    rw[hi]
    constructor
    ·rintro(q|q)
     ·refine⟨qc,qc,?_⟩
      by_cases ej:j=i
      ·subst ej;exact hb
      ·exact r3 j qc qc
     ·exact⟨qc,q.2.1,q.2.2⟩
    ·intro q
     by_cases q1:j<=e
     ·exact .inl ⟨qc,qc⟩
     ·exact .inr ⟨qc,q.2.1,q.2.2⟩
   ·rw[if_neg hb,ih (i+1) qc j]
    constructor
    ·intro q;exact⟨qc,q.2.1,q.2.2⟩
    ·intro q
     by_cases ej:j=i
     ·subst ej;exact absurd q.2.2 hb
     ·exact⟨qc,q.2.1,q.2.2⟩
theorem qxl(m:Nat):∀f i,256<=i+f->i<=256->(i=0\/i=256\/m.testBit (i-1)=false\/m.testBit i=false)->(rnF m f i).length+2*kA m i=2*kA m 256:=by
 intro f
 induction f with
 |zero=>intro i h hi _;have:i=256:=qc
        subst this;simp[rnF]
 |succ f ih=>
  intro i h hi hs
  unfold rnF
  by_cases h1:256<=i
  ·rw[if_pos h1]
   have:i=256:=qc
   subst this;simp
  ·rw[if_neg h1]
   have e1:kA m (i+1)=kA m i+(m.testBit i&&!(decide (0<i)&&m.testBit (i-1))).toNat:=rfl
   by_cases hb:m.testBit i=true
   ·rw[if_pos hb]
    obtain⟨r1,r2,r3,r4⟩:=YX m (255-i) i
    have e2:kA m (i+1)=kA m i+1:=by
     rw[e1,hb]
     have:(decide (0<i)&&m.testBit (i-1))=false:=by
      rcases hs with q|q|q|q
      ·simp[q]
      ·omega
      ·simp[q]
      ·rw[hb]at q;cases q
     rw[this];rfl
    have e3:∀d,i+1+d<=kz m (255-i) i+1->kA m (i+1+d)=kA m (i+1):=by
     intro d
     induction d with
     |zero=>intro _;rfl
     |succ d ihd=>
      intro hd
      have:=ihd qc
      have e4:kA m (i+1+(d+1))=kA m (i+1+d)+(m.testBit (i+1+d)&&!(decide (0<i+1+d)&&m.testBit (i+1+d-1))).toNat:=rfl
      have e5:m.testBit (i+1+d-1)=true:=by
       by_cases q:d=0
       ·subst q;exact hb
       ·exact r3 _ qc qc
      have e8:(decide (0<i+1+d))=true:=qh
      rw[e4,this,e5,e8]
      simp
    have e6:=e3 (kz m (255-i) i-i) qc
    have e7:i+1+(kz m (255-i) i-i)=kz m (255-i) i+1:=qc
    rw[e7,e2]at e6
    have hi2:=ih (kz m (255-i) i+1) qc qc (by
     by_cases q:kz m (255-i) i<i+(255-i)
     ·exact .inr (.inr (.inr (r4 q)))
     ·exact .inr (.inl qc))
    simp only[zgk]
    omega
   ·rw[if_neg hb]
    have hb':m.testBit i=false:=by simpa using hb
    have e2:kA m (i+1)=kA m i:=by rw[e1,hb'];rfl
    have:=ih (i+1) qc qc (.inr (.inr (.inl (by simpa using hb'))))
    omega
theorem qej(m:Nat):(rnF m 256 0).length=2*kA m 256:=by
 have h:=qxl m 256 0 qc qc (.inl rfl)
 have e:kA m 0=0:=rfl
 omega
theorem qo5(m:Nat):(wm m 256 0).length=ja m 256:=by
 have h:=qvt m 256 0
 have e:ja m 0=0:=rfl
 have e2:0+256=256:=rfl
 rw[e2]at h
 omega
theorem qx3:∀(n m:Nat),0<ja m n->∃j,j<n/\m.testBit j=true:=by
 intro n
 induction n with
 |zero=>intro m h;cases h
 |succ n ih=>
  intro m h
  cases hb:m.testBit n
  ·have e:ja m (n+1)=ja m n+(m.testBit n).toNat:=rfl
   rw[e,hb]at h
   obtain⟨j,h1,h2⟩:=ih m h
   exact⟨j,qc,h2⟩
  ·exact⟨n,qc,hb⟩
theorem qk7:∀(n m j:Nat),j<n->m.testBit j=true->0<ja m n:=by
 intro n
 induction n with
 |zero=>intro m j h;omega
 |succ n ih=>
  intro m j h hb
  have e:ja m (n+1)=ja m n+(m.testBit n).toNat:=rfl
  rw[e]
  by_cases hj:j=n
  ·subst hj;rw[hb];exact Nat.succ_pos _
  ·have:=ih m j qc hb;omega
theorem qxs{m:Nat}(h:0<ja m 256):0<kA m 256:=by
 obtain⟨j,h1,h2⟩:=qx3 256 m h
 by_cases hr:kA m 256=0
 ·have h3:=qej m
  rw[hr]at h3
  have h4:rnF m 256 0=[]:=zhk.mp h3
  have h5:=(zbr m 256 0 qc j).mpr ⟨qc,h1,h2⟩
  rw[h4]at h5
  cases h5
 ·omega
def okC(c:Nat×Nat):Prop:=c.1<16777216/\c.2<2^256/\0<ja c.2 256
theorem yR(i j:Nat):(2^i).testBit j=decide (i=j):=zi7
theorem zer{m x:Nat}(hm:m<2^256):m|||2^(x%256)<2^256:=zks hm (zjl qg qc)
theorem qxy(x:Nat):2^(x%256)<2^256:=zjl qg qc
theorem ya(x:Nat)(c:Nat×Nat)(r:List (Nat×Nat)):QN x (c::r)=if c.1=x/256 then(c.1,c.2|||2^(x%256))::r else(x/256,2^(x%256))::c::r:=rfl
theorem qxw{x:Nat}(hx:x<4294967296):∀{cs:List (Nat×Nat)},(∀c∈cs,okC c)->∀c∈QN x cs,okC c:=by
 intro cs h c hc
 have new:okC (x/256,2^(x%256)):=⟨by show x/256<_;omega,qxy x,qk7 256 _ (x%256) qc (by rw[yR];simp)⟩
 cases cs with
 |nil=>
  have e:c=(x/256,2^(x%256)):=by simpa[QN]using hc
  rw[e];exact new
 |cons d r=>
  have hd:=h d qf
  rw[ya]at hc
  split at hc
  ·rcases zgn.mp hc with e|e
   ·rw[e]
    refine⟨hd.1,zer hd.2.1,qk7 256 _ (x%256) qc ?_⟩
    show(d.2|||2^(x%256)).testBit _=_
    rw[zi2,yR];simp
   ·exact h c (by simp[e])
  ·rcases zgn.mp hc with e|e
   ·rw[e];exact new
   ·exact h c e
theorem qjw:∀{l:List Nat},(∀x∈l,x<4294967296)->∀c∈kQ l,okC c:=by
 intro l
 induction l with
 |nil=>intro _ c hc;cases hc
 |cons x r ih=>intro h;exact qxw (h x qf) (ih fun y hy=>h y (by simp[hy]))
def yq:List Nat->Prop
 |[]=>True
 |[_]=>True
 |x::y::r=>x<=y/\yq (y::r)
def qcr(n last:Nat):Nat->Nat->Nat
 |0,k=>k
 |f+1,k=>if 0<n/\n<=last/2^(k+1)then qcr n last f (k+1)else k
def VH(n last:Nat):Nat:=qcr n last 33 0
def yW(k:Nat):List Nat->List Bool
 |[]=>[]
 |x::r=>nbs x k++yW k r
def jd(k w:Nat):List Nat->List Bool
 |[]=>[]
 |x::r=>una (x/2^k-w)++jd k (x/2^k) r
def zn(l:List Nat):Nat:=l.getD (l.length-1) 0
def yv(l:List Nat):Nat:=VH l.length (zn l)
def VK(l:List Nat):List Int:=uv l.length++uv (zn l)++pk (yW (yv l) l)++uv (pk (jd (yv l) 0 l)).length++pk (jd (yv l) 0 l)
@[simp] theorem qn5 (k : Nat) (l : List Nat) : (yW k l).length = l.length * k := by
 induction l with
 |nil=>simp[yW]
 |cons x r ih=>simp[yW,ih,zj0];omega
theorem qyr(n last:Nat)(hn:0<n)(hl:last<4294967296):∀(f k:Nat),k+f=33->qcr n last f k<=33/\last/2^(qcr n last f k+1)<n:=by
 intro f
 induction f with
 |zero=>
  intro k h
  have e:k=33:=qc
  subst e
  refine⟨zgm _,?_⟩
  show last/2^34<n
  have:last/2^34=0:=zj6 (zg5 hl qg)
  omega
 |succ f ih=>
  intro k h
  unfold qcr
  split
  ·exact ih (k+1) qc
  ·rename_i h1
   refine⟨qc,?_⟩
   by_cases h2:n<=last/2^(k+1)
   ·exact absurd ⟨hn,h2⟩ h1
   ·omega
theorem qys(n last:Nat)(hl:last<4294967296):∀(f k:Nat),k<=32->qcr n last f k<=32:=by
 intro f
 induction f with
 |zero=>intro k h;exact h
 |succ f ih=>
  intro k h
  unfold qcr
  split
  ·rename_i h1
   apply ih
   by_cases h2:k=32
   ·subst h2
    have:last/2^33=0:=zj6 (zg5 hl qg)
    have h3:=h1.2
    have e:(32:Nat)+1=33:=rfl
    rw[e,this]at h3
    omega
   ·omega
  ·exact h
theorem qyt(n last:Nat)(hl:last<4294967296):VH n last<=32:=qys n last hl 33 0 qc
theorem qfc{n last:Nat}(hn:0<n)(hl:last<4294967296):last/2^VH n last<2*n:=by
 have h:=(qyr n last hn hl 33 0 rfl).2
 have e:last/2^(VH n last+1)=last/2^VH n last/2:=by rw[ziw,ziu]
 have h':last/2^(VH n last+1)<n:=h
 omega
theorem Km(x y:Nat)(r:List Nat):zn (x::y::r)=zn (y::r):=rfl
theorem qoh(k:Nat):∀(l:List Nat) (p:Nat),yq (p::l)->(jd k (p/2^k) l).length+p/2^k=l.length+zn (p::l)/2^k:=by
 intro l
 induction l with
 |nil=>intro p _;simp[jd,zn]
 |cons x r ih=>
  intro p h
  have hi:=ih x h.2
  have hd:p/2^k<=x/2^k:=Nat.div_le_div_right h.1
  rw[Km]
  simp only[jd,zgi,qwp,zgk]
  omega
theorem wF:∀{l:List Nat},yq l->yq (0::l):=by
 intro l h
 cases l with
 |nil=>trivial
 |cons x r=>exact⟨zhf _,h⟩
theorem qji(k:Nat)(l:List Nat)(h:yq l):(jd k 0 l).length=l.length+zn l/2^k:=by
 have h1:=qoh k l 0 (wF h)
 rw[Nat.zero_div,zim]at h1
 rw[h1]
 cases l with
 |nil=>rfl
 |cons x r=>rw[Km]
def ME(K:IntKind)(l:List Int):List AV:=l.map fun n=>.tup [.sc (.int K n),.sc (.bool true)]
def qyx(l:List Int)(n:Int):List Int:=if n∈l then l else l++[n]
@[simp] theorem WL (K : IntKind) (a b : Int) : vg (.int K a) (.int K b) = some (decide (a = b)) := by
 simp[vg]
 rfl
@[simp] theorem len_ME(K:IntKind)(l:List Int):(ME K l).length=l.length:=by simp[ME]
@[simp] theorem qu1 (K : IntKind) (n : Int) : ∀ l : List Int, QB (.int K n) (ME K l) = some (if n ∈ l then some (.sc (.bool true)) else none)
 |[]=>rfl
 |x::l=>by
  have h:=qu1 K n l
  show((vg (.int K n) (.int K x)).bind fun t=>cond t (some (some (AV.sc (.bool true)))) (QB (.int K n) (ME K l)))=_
  rw[WL,h]
  by_cases e:n=x
  ·simp[e]
  ·simp[e]
@[simp] theorem qxx (K : IntKind) (n : Int) : ∀ l : List Int, XY (.int K n) (.sc (.bool true)) (ME K l) = some (ME K (qyx l n))
 |[]=>rfl
 |x::l=>by
  have h:=qxx K n l
  show((vg (.int K n) (.int K x)).bind fun t=>cond t (some (AV.tup [.sc (.int K x),.sc (.bool true)]::ME K l)) ((XY (.int K n) (.sc (.bool true)) (ME K l)).map fun r=>AV.tup [.sc (.int K x),.sc (.bool true)]::r))=_
  rw[WL,h]
  by_cases e:n=x
  ·simp[e,qyx,ME]
  ·by_cases hm:n∈l
   ·simp[e,qyx,hm,ME]
   ·simp[e,qyx,hm,ME]
@[simp] theorem zco(b:Nat):vL (.map b)=some b:=rfl
@[simp] theorem ro_map(b:Nat):ro (.map b)= .map b:=rfl
@[simp] theorem zf8(b:Nat):ro1 (.map b)= .map b:=rfl
theorem qk5(hp:Hp)(b:Nat)(es:List AV):(hp.put b 1 es).rdM b=some es:=by simp[Hp.rdM,Hp.put]
theorem qxq(hp:Hp):hp.newM.rdM hp.next=some []:=by simp[Hp.rdM,Hp.newM]
@[simp] theorem ze6(s b:Nat)(n:Int):qcw (TI.mk TK.sc s b [.int .u64 0]) (.int .u64 n)=true:=rfl
@[simp] theorem ze7(s b:Nat)(n:Int):qcw (TI.mk TK.sc s b [.int .u32 0]) (.int .u32 n)=true:=rfl
@[simp] theorem zes(x y:AV):orA (some x) y=x:=rfl
@[simp] theorem zet(y:AV):orA none y=y:=rfl
end Go.Proofs.YtoliekekdmfngaaGreat.AI
