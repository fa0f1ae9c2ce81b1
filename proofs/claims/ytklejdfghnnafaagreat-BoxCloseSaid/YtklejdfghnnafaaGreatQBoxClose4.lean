/- Texts that the proof of BoxClose rests on, part 4. -/
import Derived.Test.YtklejdfghnnafaaGreatQBoxClose3
import Derived.Below
import Derived.ProofKit
import Derived.RowKit
import Derived.OpenShut
import Derived.ChangeOld
import Derived.SizedLaws
import Derived.Carry
import GoSem.Core.Float
import GoSem.Core.View
namespace Go.Proofs.YtklejdfghnnafaaGreat.AI
open Go Go.RowKit
set_option linter.unusedVariables false
set_option linter.unusedSimpArgs false
def vV(W:World):Gh where
 Om b:=if b<W.heap.size then .oth else .fr
 I b:=match W.heap[b]? with
  |some (.cells arr _ _)=>arr.size
  |_=>0
 mu _ _:=none
 la _ _:=none
theorem hpI0(W:World):HpI (vV W) W hp0 where
 heap b g cs h:=by cases h
 next b g _:=rfl
 hlt b g cs h:=by cases h
 new b hb:=⟨by simp[vV];omega,by simp[vV,qk6 hb]⟩
 vars b hb:=by
  exfalso
  rcases hb with⟨k,g,h⟩|⟨k,g,h⟩<;>simp only[vV]at h<;>split at h<;>cases h
theorem qbd{W W':World}{G':Gh}(h:Fr (vV W) W G' W'):Below W.heap.size W W':=
 ⟨h.rest.1,h.rest.2.1,h.rest.2.2,h.size,fun k hk=>(h.same k hk (.inr (by simp[vV,hk]))).1⟩
theorem arg_sc(W:World)(v:Value)(h:v.oneCell'=true):vL (vV W) W (.sc v) v:=fun _=>RelR.sc v h
theorem qdw{W:World}{b i:Nat}{c:Value}(h:W.cell? ⟨b,i,none⟩=some c):i<(vV W).I b:=by
 simp only[World.cell?]at h
 simp only[vV]
 split at h
 ·rename_i arr t fz e
  rw[e]
  exact(qj7.mp (by simpa using h)).1
 ·cases h
theorem qbs{W:World}{a:Addr}{n cap sz:Nat}{cs:List AV}{vs:List Value}(hsz:0<sz)(hcs:cs.length=n*sz)(hlen:vs.length=cs.length)(hcap:n<=cap)
 (hcell:∀(i:Nat) (v:Value),vs[i]?=some v->W.cell? (a.add i)=some v) (hvl:∀x∈cs,vl x=true) (hrel:∀(i:Nat) (x:AV) (v:Value),cs[i]?=some x->vs[i]?=some v->RelR (vV W) W x v):
 vL (vV W) W (.sl sz cs) (.slice (some a) n cap):=by
 intro p
 have key:RelR (vV W) W (.sl sz cs) (.slice (some a) n cap):=by
  by_cases hn:n=0
  ·subst hn
   have:cs=[]:=qj1.mp (by simpa using hcs)
   subst this
   exact .sl0 sz a cap hsz
  ·obtain⟨b,o,sp⟩:=a
   have hpos:0<vs.length:=by rw[hlen,hcs];exact Nat.mul_pos (qlj hn) hsz
   have hsp:sp=none:=by
    have h0:=hcell 0 vs[0] (qjk hpos)
    have e:(⟨b,o,sp⟩:Addr).add 0=⟨b,o,sp⟩:=rfl
    rw[e]at h0
    simp only[World.cell?]at h0
    split at h0
    ·cases sp with
     |none=>rfl
     |some q=>simp at h0
    ·cases h0
   subst hsp
   have hc':∀k c,vs[k]?=some c->W.cell? ⟨b,o+k,none⟩=some c:=fun k c hk=>by rw[<-qA];exact hcell k c hk
   refine .sl sz cs n cap b o vs hsz (qlj hn) hcs hcap ?_ hlen hc' hvl hrel
   have hl:vs.length-1<vs.length:=qc
   have:=qdw (hc' (vs.length-1) _ (qjk hl))
   omega
 exact(key.c (p 0)).v
theorem qa2{c:Cx}(hc:Ok c/\Qp c){f:FuncId}{xs:List AV}{vs:List Value}{v:Value}{hp':Hp}{W:World}(h:run c f xs hp0=some (.sc v,hp'))(hl:xs.length=vs.length)
 (ha:∀(i:Nat) (x:AV) (u:Value),xs[i]?=some x->vs[i]?=some u->vL (vV W) W x u):Calls c.P f vs.toArray W fun e W'=>e= .returned v/\Below W.heap.size W W':=by
 refine(KY hc.1 hc.2 h (hpI0 W) hl ha).mono fun e W' hg=>?_
 obtain⟨u,G',rfl,hf,_,hr⟩:=hg
 have hr':RelR G' W' (.sc v) u:=hr
 cases hr' with
 |sc _ _=>exact⟨rfl,qbd hf⟩
end Go.Proofs.YtklejdfghnnafaaGreat.AI
namespace Go.Proofs.YtklejdfghnnafaaGreat.AI
open Go
set_option linter.unusedVariables false
set_option linter.unusedSimpArgs false
set_option maxRecDepth 100000
set_option maxHeartbeats 0
section
variable (P:Program)(t:TypeId)(x y:Operand)(k k':IntKind)(a b:Int)
theorem xj(op:BinOp):eqGuard op t x y (.int k a) (.int k' b)=pure ():=by
 cases op<;>rfl
theorem zc(op:BinOp)(h:op≠ .shl)(h':op≠ .shr):qq P op t x y (.int k a) (.int k b)=one (ze P (match op with
 | .add| .sub| .mul=>Op.intArith op k a b
 | .quo| .rem=>Op.intDiv op k a b
 | .and| .or| .xor| .andNot=>Op.intBits op k a b
 |_=>Op.intCmp op a b)):=by
 unfold qq
 rw[xj]
 cases op<;>simp[Go.binOp]<;>first|rfl|exact absurd rfl h|exact absurd rfl h'
@[simp] theorem qin:qq P .add t x y (.int k a) (.int k b)=some (.int k (k.wrap (a+b))):=by rw[zc P t x y k a b .add qf qf];rfl
@[simp] theorem qif:qq P .sub t x y (.int k a) (.int k b)=some (.int k (k.wrap (a-b))):=by rw[zc P t x y k a b .sub qf qf];rfl
@[simp] theorem qih:qq P .mul t x y (.int k a) (.int k b)=some (.int k (k.wrap (a*b))):=by rw[zc P t x y k a b .mul qf qf];rfl
@[simp] theorem qim:qq P .eql t x y (.int k a) (.int k b)=some (.bool (decide (a=b))):=by rw[zc P t x y k a b .eql qf qf];show some (Value.bool (a==b))=_;congr 2
@[simp] theorem qig:qq P .neq t x y (.int k a) (.int k b)=some (.bool (!decide (a=b))):=by rw[zc P t x y k a b .neq qf qf];show some (Value.bool (a !=b))=_;rfl
@[simp] theorem qii:qq P .lss t x y (.int k a) (.int k b)=some (.bool (decide (a<b))):=by rw[zc P t x y k a b .lss qf qf];rfl
@[simp] theorem qij:qq P .leq t x y (.int k a) (.int k b)=some (.bool (decide (a<=b))):=by rw[zc P t x y k a b .leq qf qf];rfl
@[simp] theorem qik:qq P .gtr t x y (.int k a) (.int k b)=some (.bool (decide (a>b))):=by rw[zc P t x y k a b .gtr qf qf];rfl
@[simp] theorem qil:qq P .geq t x y (.int k a) (.int k b)=some (.bool (decide (a>=b))):=by rw[zc P t x y k a b .geq qf qf];rfl
theorem qbr(h:b≠0):qq P .rem t x y (.int k a) (.int k b)=some (.int k (a.tmod b)):=by
 rw[zc P t x y k a b .rem qf qf];simp only[Op.intDiv,h,if_false];rfl
@[simp] theorem jS:qq P .and t x y (.int k a) (.int k b)=some (.int k (k.wrap (BitVec.ofInt k.bits a&&&BitVec.ofInt k.bits b).toNat)):=by rw[zc P t x y k a b .and qf qf];rfl
@[simp] theorem yc:qq P .or t x y (.int k a) (.int k b)=some (.int k (k.wrap (BitVec.ofInt k.bits a|||BitVec.ofInt k.bits b).toNat)):=by rw[zc P t x y k a b .or qf qf];rfl
@[simp] theorem xm:qq P .xor t x y (.int k a) (.int k b)=some (.int k (k.wrap (BitVec.ofInt k.bits a^^^BitVec.ofInt k.bits b).toNat)):=by rw[zc P t x y k a b .xor qf qf];rfl
@[simp] theorem qiw(c:Bool):WE P .not (.bool c)=some (.bool !c):=rfl
@[simp] theorem qip(c:Bool):YH (.bool c)=some c:=rfl
@[simp] theorem qja:Zp (.int k a)=some a:=rfl
@[simp] theorem qi9(v:Value):yw (.sc v)=some v:=rfl
end
@[simp] theorem qd7{α:Type}(P:Program)(a:α):ze P (pure a:Sem α)=some a:=rfl
theorem jk(P:Program)(t:TypeId)(x y:Operand)(op:BinOp)(a b:ByteArray):eqGuard op t x y (.string a) (.string b)=pure ():=by
 cases op<;>rfl
theorem qee(a b:ByteArray):(a.toList==b.toList)=decide (a.data.toList=b.data.toList):=by
 rw[ByteArray.toList_eq,ByteArray.toList_eq]
 by_cases h:a.data.toList=b.data.toList
 ·rw[h];simp
 ·rw[decide_eq_false h];exact beq_eq_false_iff_ne.mpr h
@[simp] theorem qgq (P : Program) (t : TypeId) (x y : Operand) (a b : ByteArray) : qq P .eql t x y (.string a) (.string b) = some (.bool (decide (a.data.toList = b.data.toList))) := by
 unfold qq
 rw[jk P]
 show some (Value.bool (a.toList==b.toList))=_
 rw[qee]
@[simp] theorem qgp (P : Program) (t : TypeId) (x y : Operand) (a b : ByteArray) : qq P .neq t x y (.string a) (.string b) = some (.bool (!decide (a.data.toList = b.data.toList))) := by
 unfold qq
 rw[jk P]
 show some (Value.bool (!(a.toList==b.toList)))=_
 rw[qee]
def Rd(sz:Nat)(x:AV)(cs:List AV):Prop:=x= .sl sz cs\/x= .us sz cs\/(x= .sc nil0/\cs=[])
section
variable {sz:Nat}{x:AV}{cs:List AV}
theorem Rd.ro(h:Rd sz x cs):Rd sz (AI.ro x) cs:=by
 rcases h with rfl|rfl|⟨rfl,rfl⟩
 ·exact .inl rfl
 ·exact .inl rfl
 ·exact .inr (.inr ⟨rfl,rfl⟩)
theorem Rd.ro1(h:Rd sz x cs):Rd sz (AI.ro1 x) cs:=by
 rcases h with rfl|rfl|⟨rfl,rfl⟩
 ·exact .inl rfl
 ·exact .inl rfl
 ·exact .inr (.inr ⟨rfl,rfl⟩)
theorem Rd.len(h:Rd 1 x cs):jq x=some cs.length:=by
 rcases h with rfl|rfl|⟨rfl,rfl⟩<;>rfl
theorem Rd.idx(h:Rd 1 x cs){k:IntKind}{z:Int}{i:Nat}{y:AV}(hz:z=(i:Int))(hy:cs[i]?=some y):zN 1 x (.int k z)=some [y]:=by
 subst hz
 have hlt:=(qjd.mp hy).1
 have key:((AI.idx (if 1=1 then cs.length else cs.length/1) (.int k (i:Int))).bind fun i=>qJ cs (i*1) 1)=some [y]:=by
  have hc:(0:Int)<=(i:Int)/\(i:Int)<(cs.length:Int):=⟨qkp i,qc⟩
  simp only[if_true,AI.idx,Zp,qjc,hc,and_self,qjv,qkf]
  unfold qJ
  rw[if_pos qc]
  congr 1
  obtain⟨h1,h2⟩:=qjd.mp hy
  rw[qj8 h1,h2]
  rfl
 rcases h with rfl|rfl|⟨rfl,rfl⟩
 ·simp only[zN,if_true];simpa using key
 ·simp only[zN,if_true];simpa using key
 ·simp at hy
end
def Wd(sz:Nat)(x:AV)(cs:List AV):Prop:=x= .us sz cs\/(x= .sc nil0/\cs=[])
theorem Wd.rd{sz:Nat}{x:AV}{cs:List AV}(h:Wd sz x cs):Rd sz x cs:=by
 rcases h with rfl|⟨rfl,rfl⟩
 ·exact .inr (.inl rfl)
 ·exact .inr (.inr ⟨rfl,rfl⟩)
def Wi(ys:List AV):Prop:=ys.map ro1=ys
theorem Wd.app{bytes sz:Nat}{d s:AV}{cs ys:List AV}(hd:Wd sz d cs)(hs:Rd sz s ys)(hf:Wi ys)(hfit:ys≠[]->yS bytes sz (cs.length+ys.length)=true):
 ∃z,yg bytes sz d s=some z/\Wd sz z (cs++ys):=by
 have hsrc:yR sz s=some ys:=by
  rcases hs with rfl|rfl|⟨rfl,rfl⟩
  ·simp[yR]
  ·simp[yR]
  ·rfl
 unfold yg Ka
 rw[hsrc]
 simp only[qjc]
 cases ys with
 |nil=>
  rw[qko]
  rcases hd with rfl|⟨rfl,rfl⟩
  ·exact⟨.us sz cs,qe,.inl rfl⟩
  ·exact⟨.sc nil0,rfl,.inr ⟨rfl,rfl⟩⟩
 |cons y ys=>
  have hfit:=hfit qe
  rcases hd with rfl|⟨rfl,rfl⟩
  ·refine⟨.us sz (cs++(y::ys)),?_,.inl rfl⟩
   have hf':(y::ys).map ro1=y::ys:=hf
   have hfit2:yS bytes sz (cs.length+(ys.length+1))=true:=by simpa using hfit
   have hm:ro1 y::List.map ro1 ys=y::ys:=hf'
   simp[hfit2,hm]
  ·refine⟨.us sz (y::ys),?_,.inl rfl⟩
   have hf':(y::ys).map ro1=y::ys:=hf
   have hfit':yS bytes sz (y::ys).length=true:=by simpa using hfit
   have hn:xM nil0=true:=rfl
   simp only[hn,Bool.true_and,hfit',if_true,hf',qj3]
theorem qP{z:Int}(h1:-9223372036854775808<=z)(h2:z<9223372036854775808):IntKind.i64.wrap z=z:=by
 rw[IntKind.wrap_i64];omega
theorem qh{p:Prop}(h:p:=by rw[qP]<;>omega):p:=h
@[simp] theorem qg5:IntKind.i64.wrap 0=0:=rfl
@[simp] theorem qg4:IntKind.i64.wrap 1=1:=rfl
@[simp] theorem qg3:IntKind.i64.wrap 2=2:=rfl
@[simp] theorem qg2:IntKind.i64.wrap 3=3:=rfl
@[simp] theorem qg1:IntKind.i64.wrap 4=4:=rfl
@[simp] theorem qg0:IntKind.i64.wrap 5=5:=rfl
@[simp] theorem qgz:IntKind.i64.wrap 6=6:=rfl
@[simp] theorem qgy:IntKind.i64.wrap 7=7:=rfl
@[simp] theorem qgx:IntKind.i64.wrap 8=8:=rfl
@[simp] theorem qgw:IntKind.i64.wrap 9=9:=rfl
@[simp] theorem qgd:IntKind.i64.wrap 10=10:=rfl
@[simp] theorem qgc:IntKind.i64.wrap 11=11:=rfl
@[simp] theorem qgb:IntKind.i64.wrap 12=12:=rfl
@[simp] theorem qga:IntKind.i64.wrap 13=13:=rfl
@[simp] theorem qf9:IntKind.i64.wrap 14=14:=rfl
@[simp] theorem qf8:IntKind.i64.wrap 15=15:=rfl
@[simp] theorem qf7:IntKind.i64.wrap 16=16:=rfl
def S(k sz:Nat)(cs:List AV):AV:=
 match k with
 |0=>.sl sz cs
 |1=>.us sz cs
 |2=>match cs with
  |[]=>.sc nil0
  |_=>.us sz cs
 |_=>match cs with
  |[]=>.sc nil0
  |_=>.sl sz cs
def rk:Nat->Nat
 |0=>0
 |1=>0
 |_=>3
def tg(k:Nat)(cs:List AV):Nat:=
 match cs with
 |[]=>rk k
 |_=>0
@[simp] theorem rk_rk (k : Nat) : rk (rk k) = rk k := by
 match k with
 |0=>rfl
 |1=>rfl
 |n+2=>rfl
@[simp] theorem rk0:rk 0=0:=rfl
@[simp] theorem rk1:rk 1=0:=rfl
@[simp] theorem rk2:rk 2=3:=rfl
@[simp] theorem rk3:rk 3=3:=rfl
section
variable (k sz:Nat)(cs:List AV)
theorem zi:S k sz cs= .sl sz cs\/S k sz cs= .us sz cs\/(S k sz cs= .sc nil0/\cs=[]):=by
 unfold S
 match k,cs with
 |0,_=>exact .inl rfl
 |1,_=>exact .inr (.inl rfl)
 |2,[]=>exact .inr (.inr ⟨rfl,rfl⟩)
 |2,_::_=>exact .inr (.inl rfl)
 |n+3,[]=>exact .inr (.inr ⟨rfl,rfl⟩)
 |n+3,_::_=>exact .inl rfl
@[simp] theorem ro1_S : ro1 (S k sz cs) = S (rk k) sz cs := by
 match k,cs with
 |0,_=>rfl
 |1,_=>rfl
 |2,[]=>rfl
 |2,_::_=>rfl
 |n+3,[]=>rfl
 |n+3,_::_=>rfl
@[simp] theorem ro_S : ro (S k sz cs) = S (rk k) sz cs := by
 match k,cs with
 |0,_=>rfl
 |1,_=>rfl
 |2,[]=>rfl
 |2,_::_=>rfl
 |n+3,[]=>rfl
 |n+3,_::_=>rfl
theorem rd_S:Rd sz (S k sz cs) cs:=zi k sz cs
@[simp] theorem zg:jq (S k 1 cs)=some cs.length:=(rd_S k 1 cs).len
@[simp] theorem wN (K : IntKind) (z : Int) : zN 1 (S k 1 cs) (.int K z) = if 0 ≤ z then (cs[z.toNat]?).map fun c => [c] else none := by
 by_cases hz:0<=z
 ·rw[if_pos hz]
  cases h:cs[z.toNat]? with
  |some y=>exact(rd_S k 1 cs).idx qc h
  |none=>
   have hl:cs.length<=z.toNat:=by simpa using h
   have hn:¬(z<(cs.length:Int)):=qc
   rcases zi k 1 cs with e|e|⟨e,e'⟩
   ·rw[e];simp[zN,idx,Zp,hn]
   ·rw[e];simp[zN,idx,Zp,hn]
   ·rw[e];rfl
 ·rw[if_neg hz]
  rcases zi k 1 cs with e|e|⟨e,e'⟩
  ·rw[e];simp[zN,idx,Zp,hz]
  ·rw[e];simp[zN,idx,Zp,hz]
  ·rw[e];rfl
@[simp] theorem qib : qu 1 (S k sz cs) = some [S k sz cs] := by
 rcases zi k sz cs with e|e|⟨e,e'⟩<;>rw[e]<;>rfl
@[simp] theorem qiz : yn (S k sz cs) = some () := by
 rcases zi k sz cs with e|e|⟨e,e'⟩<;>rw[e]<;>rfl
@[simp] theorem qex : yR sz (S k sz cs) = some cs := by
 rcases zi k sz cs with e|e|⟨e,e'⟩
 ·rw[e];simp[yR]
 ·rw[e];simp[yR]
 ·rw[e,e'];rfl
@[simp] theorem us_S:AV.us sz cs=S 1 sz cs:=rfl
@[simp] theorem sl_S:AV.sl sz cs=S 0 sz cs:=rfl
end
@[simp] theorem nil_S1:AV.sc (Value.slice none 0 0)=S 2 1 []:=rfl
@[simp] theorem S3_nil(sz:Nat):S 3 sz []=S 2 sz []:=rfl
theorem qey(k:Nat)(cs:List AV)(K:IntKind)(z:Int)(h:0<=z)(h':z<=cs.length):zE 1 (S k 1 cs) (some (.int K z)) none none=some (S (tg k cs) 1 (cs.drop z.toNat)):=by
 obtain⟨i,rfl⟩:∃i:Nat,z=i:=⟨z.toNat,qc⟩
 have hi:i<=cs.length:=qc
 have hb:∀n:Nat,i<=n->qx 0 (n:Int) (some (.int K (i:Int))) 0=some i:=by
  intro n hn
  have:(0:Int)<=(i:Int)/\(i:Int)<=(n:Int):=⟨qkp i,qc⟩
  simp only[qx,Zp,qjc,this,and_self,if_true,qjv]
 have key:(cs.drop (i*1)).take ((cs.length-i)*1)=cs.drop i:=by
  rw[qkf,qkf]
  exact List.take_of_length_le qe
 have this:=hb cs.length hi
 simp only[qx]at this
 have a:zE 1 (.sl 1 cs) (some (.int K i)) none none=some (.sl 1 (cs.drop i)):=by
  simp only[zE,if_true]
  show(qx 0 _ none _).bind _=_
  simp only[qx,qjc]
  rw[this]
  simp only[qjc,key]
 have b:zE 1 (.us 1 cs) (some (.int K i)) none none=some (.sl 1 (cs.drop i)):=by
  simp only[zE,if_true]
  show(qx 0 _ none _).bind _=_
  simp only[qx,qjc]
  rw[this]
  simp only[qjc,key]
 rw[qjv]
 match k,cs with
 |0,[]=>exact a
 |0,_::_=>exact a
 |1,[]=>exact b
 |1,_::_=>exact b
 |2,[]=>obtain rfl:i=0:=by simpa using hi
        rfl
 |2,_::_=>exact b
 |n+3,[]=>obtain rfl:i=0:=by simpa using hi
          rfl
 |n+3,_::_=>exact a
theorem Kb(b sz k:Nat)(cs ys:List AV)(k':Nat)(hk:k=1\/k=2)(hf:Wi ys)(hfit:ys=[]\/yS b sz (cs.length+ys.length)=true):
 yg b sz (S k sz cs) (S k' sz ys)=some (S k sz (cs++ys)):=by
 unfold yg Ka
 rw[qex]
 simp only[qjc]
 have hf':ys.map ro1=ys:=hf
 match ys,hf',hfit with
 |[],_,_=>
  rw[qko]
  rcases hk with rfl|rfl
  ·show(if sz=sz then some (AV.us sz cs)else none)=_
   rw[if_pos rfl];rfl
  ·cases cs with
   |nil=>rfl
   |cons c cs=>exact if_pos rfl
 |y::ys,hf',hfit=>
  have hfit:yS b sz (cs.length+(y::ys).length)=true:=hfit.resolve_left qe
  rcases hk with rfl|rfl
  ·simp only[S,hf',hfit,Bool.and_true,decide_true,if_true]
  ·cases cs with
   |nil=>
    have h0:yS b sz (y::ys).length=true:=by simpa using hfit
    simp only[S,hf',h0,xM,nil0,Bool.and_true,if_true,qj3]
   |cons c cs=>simp only[S,hf',hfit,Bool.and_true,decide_true,if_true,qkv]
theorem Je{b sz n:Nat}(hb:0<b)(h:n*b<=140737488355328*sz):yS b sz n=true:=by
 simp[yS,h,hb]
@[simp] theorem qbf(v:Value):Wi [.sc v]:=rfl
theorem qbg{α:Type}(f:α->Value)(l:List α):Wi (l.map fun x=>.sc (f x)):=by
 unfold Wi;rw[List.map_map];rfl
@[simp] theorem qe2(v:Value):ro1 (.sc v)= .sc v:=rfl
@[simp] theorem ro_sc(v:Value):ro (.sc v)= .sc v:=rfl
@[simp] theorem ro_agg(l:List AV):ro (.agg l)= .agg (l.map ro1):=rfl
@[simp] theorem qhg(v:Value):yn (.sc v)=some ():=rfl
@[simp] theorem qgg(l:List AV):yn (.agg l)=some ():=rfl
@[simp] theorem vl_S (k sz : Nat) (cs : List AV) : vl (S k sz cs) = true := by
 rcases zi k sz cs with e|e|⟨e,e'⟩<;>rw[e]<;>rfl
@[simp] theorem vlF_S (k sz : Nat) (cs : List AV) : vlF (S k sz cs) = true := by
 rcases zi k sz cs with e|e|⟨e,e'⟩<;>rw[e]<;>rfl
@[simp] theorem vlV_S (k sz : Nat) (cs : List AV) : vlV (S k sz cs) = true := by
 rcases zi k sz cs with e|e|⟨e,e'⟩<;>rw[e]<;>rfl
@[simp] theorem vl_sc(v:Value):vl (.sc v)=true:=rfl
@[simp] theorem vlF_sc(v:Value):vlF (.sc v)=true:=rfl
@[simp] theorem vlV_sc(v:Value):vlV (.sc v)=true:=rfl
@[simp] theorem qiu(l:List AV):vlF (.agg l)=l.all vl:=rfl
@[simp] theorem qit(l:List AV):vlV (.agg l)=l.all vl:=rfl
@[simp] theorem qis(l:List AV):vlV (.tup l)=l.all vlF:=rfl
@[simp] theorem vl_fn(f:FuncId):vl (.fn f [])=true:=rfl
@[simp] theorem vlF_fn(f:FuncId):vlF (.fn f [])=true:=rfl
@[simp] theorem qge(xs caps:List AV):zQ xs caps=vG (xs.all vlF=true/\caps.all vl=true):=rfl
@[simp] theorem qi7(a b:Nat):XU a b=vG (a=b):=rfl
@[simp] theorem qi8(b:Bool):XV b=vG (b=true):=rfl
@[simp] theorem okV_eq(cs:List AV):YY cs=vG (cs.all vl=true):=rfl
@[simp] theorem tN_eq(n:Int):tN n=n.toNat:=rfl
@[simp] theorem qhe(y:AV):jX y=vG (vlV y=true):=rfl
@[simp] theorem qh9:vG True=some ():=rfl
@[simp] theorem chk_eq{α:Type}[DecidableEq α](a:α):vG (a=a)=some ():=if_pos rfl
@[simp] theorem qiq(l:List AV):qd0 (.agg l)=some l:=rfl
@[simp] theorem qfs(n:Nat)(l:List AV):yf n (.tup l)=if l.length=n then some ()else none:=rfl
@[simp] theorem qhf(l:List AV)(i:Nat):zM (.tup l) i=l.getD i (.tup []):=rfl
@[simp] theorem qia:vG (True/\True)=some ():=rfl
@[simp] theorem qft(n:Nat)(l:List AV):qu n (.agg l)=if l.length=n then some l else none:=rfl
@[simp] theorem qio:yw (.sc nil0)=some nil0:=rfl
theorem jB{α:Type}{l:List α}{i:Nat}{x:α}{r:List α}(h:l.drop i=x::r):l[i]?=some x/\l.drop (i+1)=r/\∃h:i<l.length,l[i]=x:=by
 have hi:i<l.length:=by
  by_cases hi:i<l.length
  ·exact hi
  ·rw[List.drop_eq_nil_of_le qc]at h;cases h
 rw[qj8 hi]at h
 injection h with h1 h2
 exact⟨by rw[qjk hi,h1],h2,hi,h1⟩
theorem yp{α:Type}{l:List α}{i:Nat}(h:l.drop i=[]):l.length<=i:=by simpa using h
def LI(K:IntKind)(l:List Int):List AV:=l.map fun n=>.sc (.int K n)
section
variable (K:IntKind)(l:List Int)
theorem qh0:Wi (LI K l):=qbg _ l
@[simp] theorem vlI:(LI K l).all vl=true:=by simp[LI,List.all_map]
@[simp] theorem XH:(LI K l).length=l.length:=by simp[LI]
@[simp] theorem getI?(i:Nat):(LI K l)[i]?=(l[i]?).map fun n=>.sc (.int K n):=by simp[LI]
@[simp] theorem getI(i:Nat)(h:i<(LI K l).length):(LI K l)[i]= .sc (.int K (l[i]'(by simpa using h))):=by simp[LI]
@[simp] theorem qh1(i:Nat):(LI K l).drop i=LI K (l.drop i):=by simp[LI]
@[simp] theorem tailI:(LI K l).tail=LI K l.tail:=by simp[LI]
@[simp] theorem nilI:LI K []=[]:=rfl
theorem appI(k:Nat)(hk:k=1\/k=2)(b:Nat)(hb:0<b/\b<=1000)(n:Int)(h:l.length<=1000000):yg b 1 (S k 1 (LI K l)) (S 1 1 [.sc (.int K n)])=some (S k 1 (LI K (l++[n]))):=by
 rw[Kb b 1 k _ _ 1 hk (qbf _) (.inr (Je hb.1 ?_))]
 ·simp[LI]
 ·simp only[XH,qju,qk0]
  have:(l.length+(0+1))*b<=1000001*1000:=qkt qc hb.2
  omega
theorem Zq(k:Nat)(hk:k=1\/k=2)(b:Nat)(hb:0<b/\b<=1000)(k':Nat)(m:List Int)(h:l.length+m.length<=1000000):yg b 1 (S k 1 (LI K l)) (S k' 1 (LI K m))=some (S k 1 (LI K (l++m))):=by
 rw[Kb b 1 k _ _ k' hk (qh0 _ _) (.inr (Je hb.1 ?_))]
 ·simp[LI]
 ·simp only[XH]
  have:(l.length+m.length)*b<=1000000*1000:=qkt qc hb.2
  omega
end
section
variable (P:Program)(t:TypeId)(x y:Operand)(k k':IntKind)(a b:Int)
theorem YA(h:0<=b):qq P .shr t x y (.int k a) (.int k' b)=some (.int k (a.fdiv (2^(min b.toNat k.bits)))):=by
 unfold qq
 rw[xj]
 simp only[Go.binOp,Op.shift]
 rw[if_neg qc]
 rfl
theorem YC(h:0<=b):qq P .shl t x y (.int k a) (.int k' b)=some (.int k (k.wrap (a*2^(min b.toNat k.bits)))):=by
 unfold qq
 rw[xj]
 simp only[Go.binOp,Op.shift]
 rw[if_neg qc]
 rfl
end
theorem kS{z:Int}(h1:0<=z)(h2:z<256):IntKind.u8.wrap z=z:=by rw[IntKind.wrap_u8];omega
theorem zq{z:Int}(h1:0<=z)(h2:z<4294967296):IntKind.u32.wrap z=z:=by rw[IntKind.wrap_u32];omega
theorem xr{z:Int}(h1:0<=z)(h2:z<18446744073709551616):IntKind.u64.wrap z=z:=by rw[IntKind.wrap_u64];omega
theorem WF{a b:Int}(h:0<=a):a.tmod b=a%b:=Int.tmod_eq_emod_of_nonneg h
@[simp] theorem qie (P : Program) (ts : Array TypeId) (t : TypeId) (k k' : IntKind) (a b : Int) : yv P .max ts t [.int k a, .int k' b] = some (.int k (max a b)) := by
 show some (Value.int k (if b>a then b else a))=_
 congr 2
 split<;>omega
@[simp] theorem qid (P : Program) (ts : Array TypeId) (t : TypeId) (k k' : IntKind) (a b : Int) : yv P .min ts t [.int k a, .int k' b] = some (.int k (min a b)) := by
 show some (Value.int k (if b<a then b else a))=_
 congr 2
 split<;>omega
@[simp] theorem qhw(b g o n z:Nat):xN (.ms b g o n z)=some (b,g,o,n,z):=rfl
@[simp] theorem ro_ms(b g o n z:Nat):ro (.ms b g o n z)= .ms b g o n z:=rfl
@[simp] theorem ro1_ms(b g o n z:Nat):ro1 (.ms b g o n z)= .ms b g o n z:=rfl
@[simp] theorem qi2(b g o n z:Nat):jq (.ms b g o n z)=some n:=rfl
@[simp] theorem qgo(b g o n z:Nat):qu 1 (.ms b g o n z)=some [.ms b g o n z]:=rfl
@[simp] theorem qhh(b g o n z:Nat):yn (.ms b g o n z)=some ():=rfl
theorem Jb{n i:Nat}(K:IntKind)(h:i<n):idx n (.int K (i:Int))=some i:=by
 have h1:(i:Int)<(n:Int):=qc
 simp[idx,h1]
theorem yG(hp:Hp)(cs:List AV):(hp.new cs).rd hp.next 0=some cs:=by simp[Hp.rd,Hp.new]
theorem qF(hp:Hp)(b:Nat)(cs:List AV):(hp.put b 0 cs).rd b 0=some cs:=by simp[Hp.rd,Hp.put]
theorem qe4(K:IntKind)(l:List Int)(i:Nat)(n:Int)(h:i<l.length):qC (LI K l) i [.sc (.int K n)]=some (LI K (l.set i n)):=by
 unfold qC
 rw[if_pos qg]
 congr 1
 apply qkr
 intro j
 simp only[qju,qk0,LI,qjo,List.getElem?_append,qje,qkb,qkg,qjg,qjw,List.getElem?_set,qju,qk0]
 by_cases h1:j<i
 ·have e1:j<min i l.length+(0+1):=qc
  have e2:j<min i l.length:=qc
  have e3:¬(i=j):=qc
  simp[e1,e2,e3,h1]
 ·by_cases h2:j=i
  ·subst h2
   have e2:¬(j<min j l.length):=qc
   have e3:j-min j l.length=0:=qc
   have e4:min j l.length=j:=qc
   simp[e2,e3,e4,h]
  ·have e1:¬(j<min i l.length+(0+1)):=qc
   have e2:¬(i=j):=qc
   have e3:i+(0+1)+(j-(min i l.length+(0+1)))=j:=qc
   have e4:¬(j<min i l.length):=qc
   simp only[e1,e2,e3,if_false]
@[simp] theorem frz1_S (k sz : Nat) (cs : List AV) (hp : Hp) : QD hp (S k sz cs) = some (S k sz cs, hp) := by
 rcases zi k sz cs with e|e|⟨e,e'⟩<;>rw[e]<;>rfl
@[simp] theorem qi3(v:Value)(hp:Hp):QD hp (.sc v)=some (.sc v,hp):=rfl
@[simp] theorem qhz(hp:Hp):Jc hp []=some ([],hp):=rfl
@[simp] theorem qgl(hp:Hp)(x:AV)(r:List AV):Jc hp (x::r)=(QD hp x).bind fun p=>(Jc p.2 r).bind fun q=>some (p.1::q.1,q.2):=rfl
@[simp] theorem qhp(cs:List AV):vI 1 cs=cs.length:=rfl
@[simp] theorem qfx(lo hi:Int)(d:Nat):qx lo hi none d=some d:=rfl
theorem vt{hi d n:Nat}(K:IntKind)(h:n<=hi):qx 0 (hi:Int) (some (.int K (n:Int))) d=some n:=by
 have h1:(n:Int)<=(hi:Int):=qc
 simp[qx,h1]
theorem qg9(K:IntKind)(l:List Int)(n:Nat):(LI K l).take n=LI K (l.take n):=by simp[LI,List.map_take]
theorem WU{q:AV×Nat}{g g':Nat->Option (Nat×List AV)}(h:zT q g=zT q g'):vx q g g'=some ():=by
 unfold vx
 exact if_pos h
@[simp] theorem qe0(q:AV×Nat)(g:Nat->Option (Nat×List AV)):vx q g g=some ():=WU rfl
end Go.Proofs.YtklejdfghnnafaaGreat.AI
namespace Go.Proofs.YtklejdfghnnafaaGreat.AI
open Go Go.RowKit Go.ChangeShapes Go.WideShapes Go.ChangeAt
set_option linter.unusedVariables false
set_option linter.unusedSimpArgs false
def Kh(k:IntKind)(n:Int):Prop:=(Lit.int k n).wf=true
theorem Kh.le{k:IntKind}{n:Int}(h:Kh k n):k.min<=n/\n<=k.max:=by
 simpa[Kh,Lit.wf]using h
theorem Kh.u8{n:Int}(h:Kh .u8 n):0<=n/\n<256:=by
 have:=h.le;simp[IntKind.min,IntKind.max,IntKind.signed,IntKind.bits]at this;omega
theorem Kh.u16{n:Int}(h:Kh .u16 n):0<=n/\n<65536:=by
 have:=h.le;simp[IntKind.min,IntKind.max,IntKind.signed,IntKind.bits]at this;omega
theorem Kh.u32{n:Int}(h:Kh .u32 n):0<=n/\n<4294967296:=by
 have:=h.le;simp[IntKind.min,IntKind.max,IntKind.signed,IntKind.bits]at this;omega
theorem Kh.u64{n:Int}(h:Kh .u64 n):0<=n/\n<18446744073709551616:=by
 have:=h.le;simp[IntKind.min,IntKind.max,IntKind.signed,IntKind.bits]at this;omega
theorem Kh.i64{n:Int}(h:Kh .i64 n):-9223372036854775808<=n/\n<9223372036854775808:=by
 have:=h.le;simp[IntKind.min,IntKind.max,IntKind.signed,IntKind.bits]at this;omega
def ArgsR(W:World)(xs:List AV)(vs:List Value):Prop:=xs.length=vs.length/\∀(i:Nat) (x:AV) (u:Value),xs[i]?=some x->vs[i]?=some u->vL (vV W) W x u
theorem ArgsR.nil(W:World):ArgsR W [] []:=⟨rfl,qe⟩
theorem ArgsR.cons{W:World}{x:AV}{v:Value}{xs:List AV}{vs:List Value}(h:vL (vV W) W x v)(t:ArgsR W xs vs):ArgsR W (x::xs) (v::vs):=by
 refine⟨by simp[t.1],fun i y u hx hu=>?_⟩
 cases i with
 |zero=>
  simp at hx hu
  subst hx hu
  exact h
 |succ i=>exact t.2 i y u (by simpa using hx) (by simpa using hu)
theorem law_args{c:Cx}(hc:Ok c/\Qp c){f:FuncId}{xs:List AV}{vs:List Value}{v:Value}{hp':Hp}{W:World}(ha:ArgsR W xs vs)(h:run c f xs hp0=some (.sc v,hp')):Calls c.P f vs.toArray W fun e W'=>e= .returned v/\Below W.heap.size W W':=
 qa2 hc h ha.1 ha.2
section
variable {H:Type}{enc:TypeId×Value->H}{P:Program}{W:World}{fuel:Nat}{t e:TypeId}{cs:List Value}{y:DataW H×List MemPlace}{K:IntKind}
theorem qe3(ht:P.underlying t=some (.int K))(h:DataW.trod enc P W 0 (fun _=>true) true fuel t cs=some y):∃n,cs=[.int K n]/\Kh K n:=by
 obtain⟨n,h1,h2,h3⟩:=DataW.trod_int ht h
 exact⟨n,h1,h3⟩
theorem Vj{a:Addr}{len cap:Nat}{zs:List Int}(hl:len<=cap)(hz:zs.length=cap)(hcell:∀i,i<zs.length->W.cell? (a.add i)=some (.int K (zs.getD i 0))):
 RelR (vV W) W (S 0 1 (LI K (zs.take len))) (.slice (some a) len cap):=by
 have hg:∀i,i<zs.length->zs.getD i 0=zs[i]?.getD 0:=fun i _=>qe
 have:=qbs (W:=W) (a:=a) (n:=len) (cap:=cap) (sz:=1) (cs:=LI K (zs.take len)) (vs:=(zs.take len).map fun n=>.int K n) qc qg qe hl
  (fun i v hv=>by
   simp only[qjo,qk7]at hv
   obtain⟨n,hn,rfl⟩:=hv
   have hi:i<(zs.take len).length:=(qjd.mp hn).1
   simp at hi
   rw[hcell i qc]
   rw[List.getElem?_take_of_lt qc]at hn
   simp[hn])
  (fun x hx=>by
   obtain⟨n,_,rfl⟩:=qj6.mp hx
   rfl)
  (fun i x v hx hv=>by
   simp only[LI,qjo,qk7]at hx hv
   obtain⟨n,hn,rfl⟩:=hx
   obtain⟨m,hm,rfl⟩:=hv
   rw[hn]at hm
   cases hm
   exact .sc _ rfl)
 exact this (fun _=>.fr)
theorem Kp(ht:P.underlying t=some (.slice e))(he:P.underlying e=some (.int K))(hc:P.cellsOf e=1)(h:DataW.trod enc P W 0 (fun _=>true) true fuel t cs=some y):
 ∃k l v,cs=[v]/\RelR (vV W) W (S k 1 (LI K l)) v/\(k=0\/(k=2/\l=[]))/\∀n∈l,Kh K n:=by
 rcases open_ints ht he hc h with⟨hcs,_⟩|⟨a,len,cap,zs,hcs,_,hl,hm,hz,_,hcell,hwz⟩
 ·exact⟨2,[],_,hcs,.sc nil0 rfl,.inr ⟨rfl,rfl⟩,qe⟩
 ·exact⟨0,zs.take len,_,hcs,Vj hl (by simpa using hz) hcell,.inl rfl,fun n hn=>hwz n (qlb hn)⟩
theorem arg_R{x:AV}{v:Value}(h:RelR (vV W) W x v):vL (vV W) W x v:=fun p=>(h.c (p 0)).v
end
theorem Jj{l:List Value}{o n:Nat}{a:Value}(h:(l.drop o).take n=[a]):l[o]?=some a:=by
 have h0:((l.drop o).take n)[0]?=some a:=by rw[h];rfl
 have hn:0<n:=by
  cases n with
  |zero=>simp at h
  |succ n=>omega
 rw[List.getElem?_take_of_lt hn]at h0
 simpa using h0
end Go.Proofs.YtklejdfghnnafaaGreat.AI
namespace Go.Proofs.YtklejdfghnnafaaGreat.AI
open Go
set_option linter.unusedVariables false
set_option linter.unusedSimpArgs false
set_option maxRecDepth 100000
set_option maxHeartbeats 0
def Zo(n:Nat):Nat:=n/2^^^(if n%2=1 then 2197175160 else 0)
def Qe:Nat->Nat->Nat
 |0,n=>n
 |k+1,n=>Qe k (Zo n)
def vo(i:Nat):Nat:=Qe 8 i
def XP(n:Nat)(c:Int):Nat:=n/256^^^vo (n%256^^^c.toNat)
def qbm(l:List Int)(n:Nat):Nat:=l.foldl XP n
def qK(l:List Int):Nat:=4294967295-qbm l 4294967295
theorem Yx{n:Nat}(h:n<4294967296):Zo n<4294967296:=by
 unfold Zo
 exact Nat.xor_lt_two_pow (n:=32) (by show n/2<4294967296;omega) (by show(if n%2=1 then 2197175160 else 0)<4294967296;split<;>omega)
theorem Qd:∀(k:Nat) {n:Nat},n<4294967296->Qe k n<4294967296
 |0,_,h=>h
 |k+1,_,h=>Qd k (Yx h)
theorem qeg{a b:Nat}(ha:a<256)(hb:b<256):a^^^b<256:=Nat.xor_lt_two_pow (n:=8) ha hb
theorem qd2{a b:Nat}(ha:a<4294967296)(hb:b<4294967296):a^^^b<4294967296:=Nat.xor_lt_two_pow (n:=32) ha hb
theorem qdt{n:Nat}(h:n<4294967296){c:Int}(hc:0<=c/\c<256):XP n c<4294967296:=by
 unfold XP
 refine qd2 qc (Qd 8 ?_)
 have:=qeg (a:=n%256) (b:=c.toNat) qc qc
 omega
theorem KL(l:List Int):qK l<4294967296:=by unfold qK;omega
theorem yK(w a:Nat)(h:a<2^w):(BitVec.ofInt w (a:Int)).toNat=a:=by
 rw[qkq]
 have e:(a:Int)%((2^w:Nat):Int)=((a%2^w:Nat):Int):=(Int.natCast_emod a (2^w)).symm
 rw[e,qkd h,qjv]
section
variable (P:Program)(t:TypeId)(x y:Operand)(a b:Nat)
theorem Zw(ha:a<4294967296)(hb:b<4294967296):qq P .xor t x y (.int .u32 (a:Int)) (.int .u32 (b:Int))=some (.int .u32 ((a^^^b:Nat):Int)):=by
 have:=qd2 ha hb
 rw[xm]
 show some (Value.int .u32 (IntKind.u32.wrap ((BitVec.ofInt 32 (a:Int)^^^BitVec.ofInt 32 (b:Int)).toNat:Nat)))=_
 rw[BitVec.toNat_xor,yK 32 a ha,yK 32 b hb,zq qc qc]
theorem Jn(ha:a<4294967296)(hb:b<4294967296):qq P .and t x y (.int .u32 (a:Int)) (.int .u32 (b:Int))=some (.int .u32 ((a&&&b:Nat):Int)):=by
 have:a&&&b<=a:=Nat.and_le_left
 rw[jS]
 show some (Value.int .u32 (IntKind.u32.wrap ((BitVec.ofInt 32 (a:Int)&&&BitVec.ofInt 32 (b:Int)).toNat:Nat)))=_
 rw[BitVec.toNat_and,yK 32 a ha,yK 32 b hb,zq qc qc]
theorem qef(ha:a<256)(hb:b<256):qq P .xor t x y (.int .u8 (a:Int)) (.int .u8 (b:Int))=some (.int .u8 ((a^^^b:Nat):Int)):=by
 have:=qeg ha hb
 rw[xm]
 show some (Value.int .u8 (IntKind.u8.wrap ((BitVec.ofInt 8 (a:Int)^^^BitVec.ofInt 8 (b:Int)).toNat:Nat)))=_
 rw[BitVec.toNat_xor,yK 8 a ha,yK 8 b hb,kS qc qc]
theorem ZF(k:Nat)(hk:k<=32)(K:IntKind):qq P .shr t x y (.int .u32 (a:Int)) (.int K (k:Int))=some (.int .u32 ((a/2^k:Nat):Int)):=by
 rw[YA P t x y _ _ _ _ qc]
 have e:min (k:Int).toNat IntKind.u32.bits=k:=by
  show min (k:Int).toNat 32=k
  omega
 rw[e,Int.fdiv_eq_ediv_of_nonneg _ (by have:=qk1 k;exact Int.le_of_lt (Int.pow_pos qf))]
 congr 2
end
end Go.Proofs.YtklejdfghnnafaaGreat.AI
namespace Go.Proofs.YtklejdfghnnafaaGreat.AI
set_option linter.unusedVariables false
set_option linter.unusedSimpArgs false
def mrg:List Int->List Int->List Int
 |[],b=>b
 |a,[]=>a
 |x::a,y::b=>if x<y then x::mrg a (y::b)else if y<x then y::mrg (x::a) b else x::mrg a b
termination_by a b=>a.length+b.length
@[simp] theorem qgi(b:List Int):mrg [] b=b:=by unfold mrg;rfl
@[simp] theorem qgh(a:List Int):mrg a []=a:=by cases a<;>(unfold mrg;rfl)
theorem yo(x:Int)(a:List Int)(y:Int)(b:List Int):mrg (x::a) (y::b)=if x<y then x::mrg a (y::b)else if y<x then y::mrg (x::a) b else x::mrg a b:=by
 rw[mrg]
theorem Kx{motive:List Int->List Int->Prop}(h1:∀b,motive [] b)(h2:∀a,motive a [])(h3:∀x a y b,x<y->motive a (y::b)->motive (x::a) (y::b))
 (h4:∀x a y b,y<x->motive (x::a) b->motive (x::a) (y::b)) (h5:∀x a b,motive a b->motive (x::a) (x::b)):∀a b,motive a b:=by
 intro a b
 generalize hn:a.length+b.length=n
 induction n using Nat.strongRecOn generalizing a b with
 |_ n ih=>
  cases a with
  |nil=>exact h1 b
  |cons x a=>
   cases b with
   |nil=>exact h2 _
   |cons y b=>
    by_cases hxy:x<y
    ·exact h3 x a y b hxy (ih (a.length+(y::b).length) (by simp at hn⊢;omega) _ _ rfl)
    ·by_cases hyx:y<x
     ·exact h4 x a y b hyx (ih ((x::a).length+b.length) (by simp at hn⊢;omega) _ _ rfl)
     ·have:x=y:=qc
      subst this
      exact h5 x a b (ih (a.length+b.length) (by simp at hn⊢;omega) _ _ rfl)
theorem vR(n:Int):∀a b,n∈mrg a b↔n∈a\/n∈b:=by
 apply Kx
 ·intro b;simp
 ·intro a;simp
 ·intro x a y b h ih
  rw[yo,if_pos h,qjf,ih,qjf,qjf]
  constructor
  ·rintro(h|h|h|h)
   ·exact .inl (.inl h)
   ·exact .inl (.inr h)
   ·exact .inr (.inl h)
   ·exact .inr (.inr h)
  ·rintro((h|h)|(h|h))
   ·exact .inl h
   ·exact .inr (.inl h)
   ·exact .inr (.inr (.inl h))
   ·exact .inr (.inr (.inr h))
 ·intro x a y b h ih
  rw[yo,if_neg qc,if_pos h,qjf,ih,qjf,qjf]
  constructor
  ·rintro(h|(h|h)|h)
   ·exact .inr (.inl h)
   ·exact .inl (.inl h)
   ·exact .inl (.inr h)
   ·exact .inr (.inr h)
  ·rintro((h|h)|(h|h))
   ·exact .inr (.inl (.inl h))
   ·exact .inr (.inl (.inr h))
   ·exact .inl h
   ·exact .inr (.inr h)
 ·intro x a b ih
  rw[yo,if_neg qc,if_neg qc,qjf,ih,qjf,qjf]
  constructor
  ·rintro(h|h|h)
   ·exact .inl (.inl h)
   ·exact .inl (.inr h)
   ·exact .inr (.inr h)
  ·rintro((h|h)|(h|h))
   ·exact .inl h
   ·exact .inr (.inl h)
   ·exact .inl h
   ·exact .inr (.inr h)
abbrev xn(l:List Int):Prop:=l.Pairwise (·<·)
theorem qaa:∀a b,xn a->xn b->xn (mrg a b):=by
 apply Kx (motive:=fun a b=>xn a->xn b->xn (mrg a b))
 ·intro b _ h;simpa using h
 ·intro a h _;simpa using h
 ·intro x a y b h ih ha hb
  rw[yo,if_pos h]
  have ha:=qjh.mp ha
  refine qjh.mpr ⟨fun n hn=>?_,ih ha.2 hb⟩
  rcases(vR n a (y::b)).mp hn with h'|h'
  ·exact ha.1 n h'
  ·rcases qjf.mp h' with rfl|h'
   ·exact h
   ·have:=(qjh.mp hb).1 n h';omega
 ·intro x a y b h ih ha hb
  rw[yo,if_neg qc,if_pos h]
  have hb':=qjh.mp hb
  refine qjh.mpr ⟨fun n hn=>?_,ih ha hb'.2⟩
  rcases(vR n (x::a) b).mp hn with h'|h'
  ·rcases qjf.mp h' with rfl|h'
   ·exact h
   ·have:=(qjh.mp ha).1 n h';omega
  ·exact hb'.1 n h'
 ·intro x a b ih ha hb
  rw[yo,if_neg qc,if_neg qc]
  have ha':=qjh.mp ha
  have hb':=qjh.mp hb
  refine qjh.mpr ⟨fun n hn=>?_,ih ha'.2 hb'.2⟩
  rcases(vR n a b).mp hn with h'|h'
  ·exact ha'.1 n h'
  ·exact hb'.1 n h'
end Go.Proofs.YtklejdfghnnafaaGreat.AI
namespace Go.Proofs.YtklejdfghnnafaaGreat.AI
set_option linter.unusedVariables false
set_option linter.unusedSimpArgs false
end Go.Proofs.YtklejdfghnnafaaGreat.AI
namespace Go.Proofs.YtklejdfghnnafaaGreat.AI
open Ieee
set_option linter.unusedVariables false
set_option linter.unusedSimpArgs false
def kg(x:Nat):Prop:=9218868437227405312<x%9223372036854775808
instance (x : Nat) : Decidable (kg x) := by unfold kg; infer_instance
def qZ(x:Nat):Int:=if x/9223372036854775808%2=1 then -((x%9223372036854775808:Nat):Int)else((x%9223372036854775808:Nat):Int)
def zA(r:Nat):Nat:=if r<4503599627370496 then r else(4503599627370496+r%4503599627370496)*2^(r/4503599627370496-1)
theorem vT{a b:Nat}(h:a<b):zA a<zA b:=by
 unfold zA
 by_cases ha:a<4503599627370496
 ·rw[if_pos ha]
  by_cases hb:b<4503599627370496
  ·rw[if_pos hb];exact h
  ·rw[if_neg hb]
   have h1:1<=2^(b/4503599627370496-1):=Nat.one_le_two_pow
   have h2:=qkt (qji (4503599627370496+b%4503599627370496)) h1
   omega
 ·have hb:¬b<4503599627370496:=qc
  rw[if_neg ha,if_neg hb]
  by_cases hq:a/4503599627370496=b/4503599627370496
  ·rw[hq]
   have hr:a%4503599627370496<b%4503599627370496:=qc
   exact Nat.mul_lt_mul_of_pos_right qc (qk1 _)
  ·have hq':a/4503599627370496<b/4503599627370496:=qc
   have h1:(4503599627370496+a%4503599627370496)*2^(a/4503599627370496-1)<(2*4503599627370496)*2^(a/4503599627370496-1):=by
    have:a%4503599627370496<4503599627370496:=Nat.mod_lt _ qc
    exact Nat.mul_lt_mul_of_pos_right qc (qk1 _)
   have h2:2^(a/4503599627370496-1)*2=2^(a/4503599627370496):=by
    rw[<-Nat.pow_succ]
    congr 1
    omega
   have h3:2^(a/4503599627370496)<=2^(b/4503599627370496-1):=Nat.pow_le_pow_right qc qc
   have h4:4503599627370496*2^(b/4503599627370496-1)<=(4503599627370496+b%4503599627370496)*2^(b/4503599627370496-1):=qkt qc (qji _)
   have h5:(2*4503599627370496)*2^(a/4503599627370496-1)=4503599627370496*2^(a/4503599627370496):=by
    rw[<-h2];generalize 2^(a/4503599627370496-1)=z;omega
   have h6:=qkt (qji 4503599627370496) h3
   omega
theorem wL{a b:Nat}(h:zA a=zA b):a=b:=by
 rcases Nat.lt_trichotomy a b with h'|h'|h'
 ·have:=vT h';omega
 ·exact h'
 ·have:=vT h';omega
theorem ZX:zA 0=0:=rfl
theorem jw(a b:Int):compare a b=if a<b then .lt else if a=b then .eq else .gt:=rfl
theorem VV(a b:Int){c:Int}(hc:0<c):compare a b=compare (a*c) (b*c):=by
 rw[jw,jw]
 have h1:a*c<b*c↔a<b:=Int.mul_lt_mul_right hc
 have h2:a*c=b*c↔a=b:=⟨fun h=>Int.eq_of_mul_eq_mul_right qc h,fun h=>by rw[h]⟩
 simp only[h1,h2]
theorem kC{x:Nat}(h:x%9223372036854775808<9218868437227405312):∃(m i:Nat),double.read x= .number (x/9223372036854775808%2==1) m (-1074+i)/\m*2^i=zA (x%9223372036854775808):=by
 have e1:double.signWeight=9223372036854775808:=qf
 have e2:double.binade=4503599627370496:=qf
 have e3:double.infRung=9218868437227405312:=qf
 have e4:double.leastPlace=-1074:=qf
 unfold Format.read
 simp only[e1,e2,e3,e4]
 unfold zA
 by_cases hb:x%9223372036854775808<4503599627370496
 ·rw[if_pos hb,if_pos hb]
  exact⟨_,0,rfl,qe⟩
 ·rw[if_neg hb,if_neg hb,if_pos h]
  exact⟨_,_,rfl,rfl⟩
theorem kA{x:Nat}(h:x%9223372036854775808=9218868437227405312):double.read x= .infinity (x/9223372036854775808%2==1):=by
 have e1:double.signWeight=9223372036854775808:=qf
 have e2:double.binade=4503599627370496:=qf
 have e3:double.infRung=9218868437227405312:=qf
 unfold Format.read
 simp only[e1,e2,e3]
 rw[if_neg qc,if_neg qc,if_pos h]
theorem JU{x:Nat}(h:kg x):∃s t,double.read x= .nan s t:=by
 unfold kg at h
 have e1:double.signWeight=9223372036854775808:=qf
 have e2:double.binade=4503599627370496:=qf
 have e3:double.infRung=9218868437227405312:=qf
 unfold Format.read
 simp only[e1,e2,e3]
 rw[if_neg qc,if_neg qc,if_neg qc]
 exact⟨_,_,rfl⟩
theorem yX{x y:Nat}(h:kg x):double.order x y=none:=by
 obtain⟨s,t,e⟩:=JU h
 unfold Format.order
 rw[e]
 rfl
theorem yW{x y:Nat}(h:kg y):double.order x y=none:=by
 obtain⟨s,t,e⟩:=JU h
 unfold Format.order
 rw[e]
 cases double.read x<;>rfl
def sg(s:Bool)(m:Int):Int:=if s then -m else m
theorem qfr(s t:Bool)(a b:Nat):compare (sg s (zA a)) (sg t (zA b))=compare (sg s (a:Int)) (sg t (b:Int)):=by
 have h1:zA a<zA b↔a<b:=by
  constructor
  ·intro h
   rcases Nat.lt_trichotomy a b with h'|h'|h'
   ·exact h'
   ·subst h';omega
   ·have:=vT h';omega
  ·exact vT
 have h2:zA a=zA b↔a=b:=⟨wL,fun h=>by rw[h]⟩
 have h3:zA a=0↔a=0:=⟨fun h=>wL (b:=0) (by rw[h,ZX]),fun h=>by rw[h,ZX]⟩
 have h4:zA b=0↔b=0:=⟨fun h=>wL (b:=0) (by rw[h,ZX]),fun h=>by rw[h,ZX]⟩
 rw[jw,jw]
 cases s<;>cases t<;>simp only[sg,if_true,if_false,qjx]
 ·have c1:((zA a:Nat):Int)<(zA b:Nat)↔(a:Int)<b:=qc
  have c2:((zA a:Nat):Int)=(zA b:Nat)↔(a:Int)=b:=qc
  simp only[c1,c2]
 ·have c1:((zA a:Nat):Int)< -(zA b:Nat)↔(a:Int)< -(b:Int):=qc
  have c2:((zA a:Nat):Int)=-(zA b:Nat)↔(a:Int)=-(b:Int):=qc
  simp only[c1,c2]
 ·have c1:-((zA a:Nat):Int)<(zA b:Nat)↔-(a:Int)<(b:Int):=qc
  have c2:-((zA a:Nat):Int)=(zA b:Nat)↔-(a:Int)=(b:Int):=qc
  simp only[c1,c2]
 ·have c1:-((zA a:Nat):Int)< -(zA b:Nat)↔-(a:Int)< -(b:Int):=qc
  have c2:-((zA a:Nat):Int)=-(zA b:Nat)↔-(a:Int)=-(b:Int):=qc
  simp only[c1,c2]
theorem jZ(x:Nat):qZ x=sg (x/9223372036854775808%2==1) ((x%9223372036854775808:Nat):Int):=by
 unfold qZ sg
 by_cases h:x/9223372036854775808%2=1<;>simp[h]
theorem QJ(s:Bool)(m k:Nat):Ieee.signed s m k=sg s ((m*2^k:Nat):Int):=by
 unfold Ieee.signed sg
 rw[Nat.shiftLeft_eq]
 try (cases s<;>rfl)
theorem Vo{x y:Nat}(hx:x%9223372036854775808<9218868437227405312)(hy:y%9223372036854775808<9218868437227405312):double.order x y=some (compare (qZ x) (qZ y)):=by
 obtain⟨m,i,e1,e2⟩:=kC hx
 obtain⟨n,j,f1,f2⟩:=kC hy
 unfold Format.order
 rw[e1,f1]
 simp only[Datum.order]
 rw[jZ,jZ,<-qfr,<-e2,<-f2,QJ,QJ]
 congr 1
 have hc:(0:Int)<((2^(min i j):Nat):Int):=by have:=qk1 (min i j);omega
 rw[VV _ _ hc]
 have p1:(-1074+(i:Int)-min (-1074+(i:Int)) (-1074+(j:Int))).toNat+min i j=i:=qc
 have p2:(-1074+(j:Int)-min (-1074+(i:Int)) (-1074+(j:Int))).toNat+min i j=j:=qc
 have q:∀(s:Bool) (m k c:Nat),sg s ((m*2^k:Nat):Int)*((2^c:Nat):Int)=sg s ((m*2^(k+c):Nat):Int):=by
  intro s m k c
  rw[qli,<-Nat.mul_assoc]
  cases s
  ·simp only[sg,qjx,if_false];rw[<-Int.natCast_mul]
  ·simp only[sg,if_true];rw[Int.neg_mul,<-Int.natCast_mul]
 rw[q,q,p1,p2]
theorem vf{x y:Nat}(hx:¬kg x)(hy:¬kg y):double.order x y=some (compare (qZ x) (qZ y)):=by
 unfold kg at hx hy
 by_cases ix:x%9223372036854775808=9218868437227405312
 ·by_cases iy:y%9223372036854775808=9218868437227405312
  ·unfold Format.order
   rw[kA ix,kA iy]
   simp only[Datum.order]
   rw[jZ,jZ,ix,iy]
   cases(x/9223372036854775808%2==1)<;>cases(y/9223372036854775808%2==1)<;>decide
  ·obtain⟨n,j,f1,f2⟩:=kC (x:=y) qc
   unfold Format.order
   rw[kA ix,f1]
   simp only[Datum.order]
   rw[jZ,jZ,ix,jw]
   generalize y%9223372036854775808=r at*
   cases(x/9223372036854775808%2==1)<;>cases(y/9223372036854775808%2==1)<;>simp only[sg,if_true,if_false,qjx]
   ·rw[if_neg qc,if_neg qc]
   ·rw[if_neg qc,if_neg qc]
   ·rw[if_pos qc]
   ·rw[if_pos qc]
 ·by_cases iy:y%9223372036854775808=9218868437227405312
  ·obtain⟨n,j,f1,f2⟩:=kC (x:=x) qc
   unfold Format.order
   rw[kA iy,f1]
   simp only[Datum.order]
   rw[jZ,jZ,iy,jw]
   generalize x%9223372036854775808=r at*
   cases(x/9223372036854775808%2==1)<;>cases(y/9223372036854775808%2==1)<;>simp only[sg,if_true,if_false,qjx]
   ·rw[if_pos qc]
   ·rw[if_neg qc,if_neg qc]
   ·rw[if_pos qc]
   ·rw[if_neg qc,if_neg qc]
  ·exact Vo qc qc
theorem qfk(x y:Nat):(double.order x y==some .eq)=decide (¬kg x/\¬kg y/\qZ x=qZ y):=by
 by_cases hx:kg x
 ·rw[yX hx];simp[hx]
 ·by_cases hy:kg y
  ·rw[yW hy];simp[hy]
  ·rw[vf hx hy,jw]
   rcases qlk (qZ x) (qZ y)with h|h|h
   ·have:¬(qZ x=qZ y):=qc
    simp[hx,hy,h,this]
   ·have:¬(qZ x<qZ y):=qc
    simp[hx,hy,h]
   ·have h1:¬(qZ x<qZ y):=qc
    have h2:¬(qZ x=qZ y):=qc
    simp[hx,hy,h1,h2]
theorem f_lt(x y:Nat):(double.order x y==some .lt)=decide (¬kg x/\¬kg y/\qZ x<qZ y):=by
 by_cases hx:kg x
 ·rw[yX hx];simp[hx]
 ·by_cases hy:kg y
  ·rw[yW hy];simp[hy]
  ·rw[vf hx hy,jw]
   rcases qlk (qZ x) (qZ y)with h|h|h
   ·simp[hx,hy,h]
   ·have:¬(qZ x<qZ y):=qc
    simp[hx,hy,h]
   ·have h1:¬(qZ x<qZ y):=qc
    have h2:¬(qZ x=qZ y):=qc
    simp[hx,hy,h1,h2]
theorem f_gt(x y:Nat):(double.order x y==some .gt)=decide (¬kg x/\¬kg y/\qZ y<qZ x):=by
 by_cases hx:kg x
 ·rw[yX hx];simp[hx]
 ·by_cases hy:kg y
  ·rw[yW hy];simp[hy]
  ·rw[vf hx hy,jw]
   rcases qlk (qZ x) (qZ y)with h|h|h
   ·have h1:¬(qZ y<qZ x):=qc
    simp[hx,hy,h,h1]
   ·have:¬(qZ y<qZ x):=qc
    simp[hx,hy,h]
   ·have h1:¬(qZ x<qZ y):=qc
    have h2:¬(qZ x=qZ y):=qc
    simp[hx,hy,h1,h2,h]
end Go.Proofs.YtklejdfghnnafaaGreat.AI
namespace Go.Proofs.YtklejdfghnnafaaGreat.AI
open Go
set_option linter.unusedVariables false
set_option linter.unusedSimpArgs false
set_option maxRecDepth 100000
set_option maxHeartbeats 0
def kw(w:Nat):Nat:=if kg w then 18444492273895866369 else if w<9223372036854775808 then w+9223372036854775808 else 18446744073709551615-w
def jW(w:Nat):Int:=if kg w then 6 else if w=9218868437227405312 then 5 else if w=18442240474082181120 then 0 else if w=9223372036854775808 then 2 else if w=0 then 3 else if w<9223372036854775808 then 4 else 1
def KJ(a b:Nat):Bool:=decide (¬kg a/\¬kg b/\qZ a<qZ b)
end Go.Proofs.YtklejdfghnnafaaGreat.AI
namespace Go.Proofs.YtklejdfghnnafaaGreat.AI
set_option linter.unusedVariables false
set_option linter.unusedSimpArgs false
def Bl(x n:Nat):Prop:=x<2^n/\(n=0\/2^(n-1)<=x)
theorem Bl.up{x k n:Nat}(h:Bl (x/2^k) n)(hx:2^k<=x):Bl x (n+k):=by
 obtain⟨h1,h2⟩:=h
 have hp:=qk1 k
 have hn:n≠0:=by
  intro e
  subst e
  have:1<=x/2^k:=(Nat.one_le_div_iff hp).mpr hx
  simp at h1
  omega
 refine⟨?_,.inr ?_⟩
 ·rw[qli]
  exact(Nat.div_lt_iff_lt_mul hp).mp h1
 ·have h3:=h2.resolve_left hn
  rw[show n+k-1=(n-1)+k by omega,qli]
  exact(Nat.le_div_iff_mul_le hp).mp h3
end Go.Proofs.YtklejdfghnnafaaGreat.AI
namespace Go.Proofs.YtklejdfghnnafaaGreat.AI
set_option linter.unusedVariables false
set_option linter.unusedSimpArgs false
def uv(n:Nat):List Int:=if h:n<128 then [(n:Int)]else((n%128+128:Nat):Int)::uv (n/128)
termination_by n
decreasing_by omega
theorem JC{n:Nat}(h:n<128):uv n=[(n:Int)]:=by rw[uv];simp[h]
theorem Kk{n:Nat}(h:¬(n<128)):uv n=((n%128+128:Nat):Int)::uv (n/128):=by rw[uv];simp[h]
theorem qd4:∀(n:Nat) (x:Int),x∈uv n->0<=x/\x<256:=by
 intro n
 induction n using Nat.strongRecOn with
 |_ n ih=>
  intro x hx
  by_cases h:n<128
  ·rw[JC h]at hx;simp at hx;omega
  ·rw[Kk h]at hx
   rcases qjf.mp hx with rfl|hx
   ·omega
   ·exact ih (n/128) qc x hx
theorem qej:∀(k n:Nat),n<128^(k+1)->(uv n).length<=k+1:=by
 intro k
 induction k with
 |zero=>intro n h;rw[JC qc];simp
 |succ k ih=>
  intro n h
  by_cases h1:n<128
  ·rw[JC h1];simp
  ·rw[Kk h1]
   have:n/128<128^(k+1):=Nat.div_lt_of_lt_mul (by rw[Nat.pow_succ]at h;omega)
   have:=ih _ this
   simp only[qju];omega
theorem yi{n:Nat}(h:n<18446744073709551616):(uv n).length<=10:=qej 9 n (qjz h qf)
def gU:List Int->Nat->Nat->Nat->Nat×Nat×Int
 |[],_,_,u=>(0,u,3)
 |c::r,s,n,u=>
  if(s=63/\1<c)\/(0<s/\c=0)then(0,u+1,4)
  else if c<128 then(n+c.toNat*2^s,u+1,0)
  else gU r (s+7) (n+(c.toNat-128)*2^s) (u+1)
theorem qhy:∀(k m:Nat) (rest:List Int) (s n u:Nat),s=7*k->k<=9->m*2^s<18446744073709551616->(0<s->m≠0)->
 gU (uv m++rest) s n u=(n+m*2^s,u+(uv m).length,0):=by
 intro k m
 induction m using Nat.strongRecOn generalizing k with
 |_ m ih=>
  intro rest s n u hs hk hm hz
  have h63:s=63->m<2:=by
   intro e;rw[e]at hm
   have:(2:Nat)^63=9223372036854775808:=rfl
   rw[this]at hm;omega
  by_cases h:m<128
  ·rw[JC h]
   simp only[qkv,qj3]
   unfold gU
   rw[if_neg (by
    rintro(⟨h1,h2⟩|⟨h1,h2⟩)
    ·have:=h63 h1;omega
    ·have:=hz h1;omega),if_pos qc]
   simp
  ·rw[Kk h]
   have hk9:k<9:=by
    rcases qkm k 9 with h1|h1
    ·exact h1
    ·have:=h63 qc;omega
   simp only[qkv]
   unfold gU
   rw[if_neg (by
    rintro(⟨h1,h2⟩|⟨h1,h2⟩)
    ·omega
    ·omega),if_neg qc]
   have qde:2^(s+7)=128*2^s:=by rw[qli];omega
   have hle:m/128*2^(s+7)<=m*2^s:=by
    rw[qde,<-Nat.mul_assoc]
    exact qjr _ qc
   rw[ih (m/128) qc (k+1) rest (s+7) _ _ qc qc qc (by intro _;omega)]
   have e1:(((m%128+128:Nat):Int).toNat-128)=m%128:=qc
   rw[e1,qde]
   have e2:n+m%128*2^s+m/128*(128*2^s)=n+m*2^s:=by
    have:m/128*(128*2^s)=(128*(m/128))*2^s:=by rw[qki 128 (m/128),qk8]
    rw[this,qkj,<-Nat.add_mul]
    have:m%128+128*(m/128)=m:=qc
    rw[this]
   rw[e2]
   simp only[qju]
   have e3:u+1+(uv (m/128)).length=u+((uv (m/128)).length+1):=qc
   rw[e3]
end Go.Proofs.YtklejdfghnnafaaGreat.AI
namespace Go.Proofs.YtklejdfghnnafaaGreat.AI
open Go
set_option linter.unusedVariables false
set_option linter.unusedSimpArgs false
set_option maxRecDepth 100000
set_option maxHeartbeats 0
def nbs(n:Nat):Nat->List Bool
 |0=>[]
 |k+1=>n.testBit k::nbs n k
def una(n:Nat):List Bool:=List.replicate n true++[false]
def by8(l:List Bool)(s:Nat):Nat:=
 (l.getD s false).toNat*128+(l.getD (s+1) false).toNat*64+(l.getD (s+2) false).toNat*32+(l.getD (s+3) false).toNat*16
  +(l.getD (s+4) false).toNat*8+(l.getD (s+5) false).toNat*4+(l.getD (s+6) false).toNat*2+(l.getD (s+7) false).toNat
def pk(l:List Bool):List Int:=(List.range ((l.length+7)/8)).map fun i=>(by8 l (8*i):Int)
def Qh(b:List Int)(i:Nat):Bool:=(b.getD (i/8) 0).toNat.testBit (7-i%8)
@[simp] theorem qi1 (n k : Nat) : (nbs n k).length = k := by
 induction k with
 |zero=>rfl
 |succ k ih=>simp[nbs,ih]
@[simp] theorem qiv(n:Nat):(una n).length=n+1:=by simp[una]
@[simp] theorem qae(l:List Bool):(pk l).length=(l.length+7)/8:=by simp[pk]
theorem b2n(b:Bool):b.toNat<=1:=by cases b<;>decide
theorem qfv(l:List Bool)(s:Nat):by8 l s<256:=by
 unfold by8
 have:=b2n (l.getD s false);have:=b2n (l.getD (s+1) false);have:=b2n (l.getD (s+2) false);have:=b2n (l.getD (s+3) false)
 have:=b2n (l.getD (s+4) false);have:=b2n (l.getD (s+5) false);have:=b2n (l.getD (s+6) false);have:=b2n (l.getD (s+7) false)
 omega
theorem Kq(l:List Bool)(i:Nat)(h:i<(l.length+7)/8):(pk l).getD i 0=(by8 l (8*i):Int):=by
 unfold pk
 rw[qjt,qjo,qky h]
 rfl
theorem qe5{l:List Bool}{x:Int}(h:x∈pk l):0<=x/\x<256:=by
 unfold pk at h
 obtain⟨i,_,rfl⟩:=qj6.mp h
 have:=qfv l (8*i)
 omega
theorem Yy(a b c d e f g h:Bool)(k:Nat)(hk:k<8):
 (a.toNat*128+b.toNat*64+c.toNat*32+d.toNat*16+e.toNat*8+f.toNat*4+g.toNat*2+h.toNat).testBit (7-k)=[a,b,c,d,e,f,g,h].getD k false:=by
 have:k=0\/k=1\/k=2\/k=3\/k=4\/k=5\/k=6\/k=7:=qc
 rcases this with r|r|r|r|r|r|r|r<;>subst r<;>revert a b c d e f g h<;>decide
theorem Yz(l:List Bool)(i:Nat)(h:i<l.length):Qh (pk l) i=l.getD i false:=by
 unfold Qh
 rw[Kq l (i/8) qc,qjv]
 unfold by8
 rw[Yy _ _ _ _ _ _ _ _ _ qc]
 have hi:i=8*(i/8)+i%8:=qc
 generalize hq:8*(i/8)=q at*
 have:i%8=0\/i%8=1\/i%8=2\/i%8=3\/i%8=4\/i%8=5\/i%8=6\/i%8=7:=qc
 rcases this with r|r|r|r|r|r|r|r<;>(rw[r]at hi⊢;rw[hi];rfl)
theorem Jl(l:List Bool)(i:Nat)(h:l.length<=i):Qh (pk l) i=false:=by
 unfold Qh
 by_cases h1:i/8<(l.length+7)/8
 ·rw[Kq l (i/8) h1,qjv]
  unfold by8
  rw[Yy _ _ _ _ _ _ _ _ _ qc]
  have hi:i=8*(i/8)+i%8:=qc
  have hz:∀j,l.length<=j->l.getD j false=false:=fun j hj=>by
   rw[qjt,qj0 hj];rfl
  generalize hq:8*(i/8)=q at*
  have:i%8=0\/i%8=1\/i%8=2\/i%8=3\/i%8=4\/i%8=5\/i%8=6\/i%8=7:=qc
  rcases this with r|r|r|r|r|r|r|r<;>(rw[r]at hi⊢;rw[hi]at h;first|exact hz _ h|exact hz _ qc)
 ·rw[qjt,qj0 (by rw[qae];omega)]
  exact Nat.zero_testBit _
def Bt(l:List Int):Prop:=∀n∈l,0<=n/\n<256
def jm(l:List Int):List UInt8:=l.map fun n=>UInt8.ofNat n.toNat
@[simp] theorem qix(l:List Int):(jm l).length=l.length:=by simp[jm]
def st(l:List Int):Value:=.string ⟨(jm l).toArray⟩
def slt:List Int->List Int->Bool
 |_,[]=>false
 |[],_::_=>true
 |a::x,b::y=>decide (a<b)||(decide (a=b)&&slt x y)
theorem qg6{a b:Int}(ha:0<=a/\a<256)(hb:0<=b/\b<256):decide (UInt8.ofNat a.toNat<UInt8.ofNat b.toNat)=decide (a<b):=by
 apply decide_eq_decide.mpr
 rw[UInt8.lt_iff_toNat_lt,UInt8.toNat_ofNat',UInt8.toNat_ofNat',qkd qc,qkd qc]
 omega
theorem qd5{a b:Int}(ha:0<=a/\a<256)(hb:0<=b/\b<256):(UInt8.ofNat a.toNat==UInt8.ofNat b.toNat)=decide (a=b):=by
 by_cases h:a=b
 ·subst h;simp
 ·have h2:UInt8.ofNat a.toNat≠UInt8.ofNat b.toNat:=by
   intro e
   have e:=congrArg UInt8.toNat e
   rw[UInt8.toNat_ofNat',UInt8.toNat_ofNat',qkd qc,qkd qc]at e
   omega
  simp[h,h2]
theorem wM:∀(a b:List Int),Bt a->Bt b->Go.Op.bytesLess (jm a) (jm b)=slt a b
 |a,[],_,_=>by cases a<;>rfl
 |[],b::y,_,_=>rfl
 |a::x,b::y,ha,hb=>by
  have ih:=wM x y (fun n hn=>ha n (by simp[hn])) (fun n hn=>hb n (by simp[hn]))
  show(decide (UInt8.ofNat a.toNat<UInt8.ofNat b.toNat)||((UInt8.ofNat a.toNat==UInt8.ofNat b.toNat)&&Go.Op.bytesLess (jm x) (jm y)))=_
  rw[ih,qg6 (ha a qe) (hb b qe),qd5 (ha a qe) (hb b qe)]
  rfl
theorem Km:∀{a b:List Int},Bt a->Bt b->(jm a=jm b↔a=b)
 |[],[],_,_=>by simp
 |[],b::y,_,_=>by simp[jm]
 |a::x,[],_,_=>by simp[jm]
 |a::x,b::y,ha,hb=>by
  have ih:=Km (a:=x) (b:=y) (fun n hn=>ha n (by simp[hn])) (fun n hn=>hb n (by simp[hn]))
  have e:=qd5 (ha a qe) (hb b qe)
  constructor
  ·intro h
   have h:UInt8.ofNat a.toNat::jm x=UInt8.ofNat b.toNat::jm y:=h
   injection h with h1 h2
   rw[h1]at e
   simp at e
   rw[e,ih.mp h2]
  ·intro h;rw[h]
theorem Kn(l:List Int):(⟨(jm l).toArray⟩:ByteArray).toList=jm l:=by rw[ByteArray.toList_eq]
section
variable (P:Program)(t:TypeId)(x y:Operand)(a b:List Int)(ha:Bt a)(hb:Bt b)
include ha hb
theorem WM:(jm a==jm b)=decide (a=b):=by
 by_cases h:a=b
 ·subst h;simp
 ·have h2:jm a≠jm b:=fun e=>h ((Km ha hb).mp e)
  simp[h,h2]
theorem qet:qq P .leq t x y (st a) (st b)=some (.bool (slt a b||decide (a=b))):=by
 unfold qq st
 rw[jk P]
 show one (some (Value.bool (Go.Op.bytesLess (⟨(jm a).toArray⟩:ByteArray).toList (⟨(jm b).toArray⟩:ByteArray).toList||(⟨(jm a).toArray⟩:ByteArray).toList==(⟨(jm b).toArray⟩:ByteArray).toList)))=_
 rw[Kn,Kn,wM a b ha hb,WM a b ha hb]
 rfl
theorem qeu:qq P .gtr t x y (st a) (st b)=some (.bool (!(slt a b||decide (a=b)))):=by
 unfold qq st
 rw[jk P]
 show one (some (Value.bool (!(Go.Op.bytesLess (⟨(jm a).toArray⟩:ByteArray).toList (⟨(jm b).toArray⟩:ByteArray).toList||(⟨(jm a).toArray⟩:ByteArray).toList==(⟨(jm b).toArray⟩:ByteArray).toList))))=_
 rw[Kn,Kn,wM a b ha hb,WM a b ha hb]
 rfl
omit ha hb in
theorem qev(h:a.length+b.length<1000000000):qq P .add t x y (st a) (st b)=some (st (a++b)):=by
 unfold qq st
 rw[jk P]
 show one (ze P (Go.Op.stringOp .add ⟨(jm a).toArray⟩ ⟨(jm b).toArray⟩))=_
 unfold Go.Op.stringOp
 have h1:¬(((⟨(jm a).toArray⟩:ByteArray).size+(⟨(jm b).toArray⟩:ByteArray).size:Nat):Int)>IntKind.i64.max:=by
  have e1:(⟨(jm a).toArray⟩:ByteArray).size=a.length:=by show(jm a).toArray.size=_;simp
  have e2:(⟨(jm b).toArray⟩:ByteArray).size=b.length:=by show(jm b).toArray.size=_;simp
  rw[e1,e2]
  show ¬(_>(9223372036854775807:Int))
  omega
 simp only
 rw[if_neg h1]
 have e:(⟨(jm a).toArray⟩:ByteArray)++⟨(jm b).toArray⟩=⟨(jm (a++b)).toArray⟩:=by
  apply ByteArray.ext
  rw[ByteArray.data_append]
  simp[jm]
 rw[e]
 rfl
end
theorem Jk:∀l:List Int,zb (LI .u8 l)=some (jm l)
 |[]=>rfl
 |x::l=>by
  have:=Jk l
  show(zb (LI .u8 l)).map _=_
  rw[this];rfl
theorem wm:∀{l:List Int},Bt l->List.map (fun x:UInt8=>AV.sc (.int .u8 ((x.toBitVec.toFin.val:Nat):Int))) (jm l)=LI .u8 l
 |[],_=>rfl
 |x::l,h=>by
  have ih:=wm (l:=l) (fun n hn=>h n (by simp[hn]))
  have hx:=h x qe
  show AV.sc (.int .u8 (((UInt8.ofNat x.toNat).toNat:Nat):Int))::List.map _ (jm l)= .sc (.int .u8 x)::LI .u8 l
  rw[ih,UInt8.toNat_ofNat',qkd qc]
  have e:((x.toNat:Nat):Int)=x:=qc
  rw[e]
theorem kX(l:List Int):yv Tryz.prog .len #[9] 3 [st l]=some (.int .i64 (l.length:Int)):=by
 have e:(⟨(jm l).toArray⟩:ByteArray).size=l.length:=by show(jm l).toArray.size=_;simp
 have e0:yv Tryz.prog .len #[9] 3 [st l]=some (.int .i64 ((⟨(jm l).toArray⟩:ByteArray).size:Int)):=qd
 rw[e0,e]
def nz(l:List Nat):List Int:=l.map fun(n:Nat)=>(n:Int)
@[simp] theorem nz_len(l:List Nat):(nz l).length=l.length:=by simp[nz]
def KF(p:Nat):List Nat->List Nat
 |[]=>[]
 |x::r=>(x-p-1)::KF x r
def qfh:List Nat->List Nat
 |[]=>[]
 |x::r=>x::KF x r
def Xr:List Nat->Prop
 |[]=>True
 |[_]=>True
 |x::y::r=>x<y/\Xr (y::r)
@[simp] theorem qgk (p : Nat) (l : List Nat) : (KF p l).length = l.length := by
 induction l generalizing p with
 |nil=>rfl
 |cons x r ih=>simp[KF,ih]
@[simp] theorem qhx(l:List Nat):(qfh l).length=l.length:=by cases l<;>simp[qfh]
theorem qd8(l:List Bool)(i:Nat):Qh (pk l) i=l.getD i false:=by
 by_cases h:i<l.length
 ·exact Yz l i h
 ·rw[Jl l i qc,qjt,qj0 qc]
  rfl
def Ss(l m:List Bool):Prop:=∀i,l.getD i false=m.getD i false
theorem Ss.pk{l m:List Bool}(h:pk l=pk m):Ss l m:=fun i=>by rw[<-qd8,<-qd8,h]
theorem Ss.tail{a b:Bool}{l m:List Bool}(h:Ss (a::l) (b::m)):a=b/\Ss l m:=⟨h 0,fun i=>h (i+1)⟩
theorem Ss.una:∀(q q':Nat) (l m:List Bool),Ss (una q++l) (una q'++m)->q=q'/\Ss l m:=by
 intro q
 induction q with
 |zero=>
  intro q' l m h
  cases q' with
  |zero=>exact⟨rfl,(Ss.tail h).2⟩
  |succ q'=>exact absurd (Ss.tail h).1 qf
 |succ q ih=>
  intro q' l m h
  cases q' with
  |zero=>exact absurd (Ss.tail h).1 qf
  |succ q'=>
   have:=ih q' l m (Ss.tail h).2
   exact⟨qc,this.2⟩
theorem Ss.app:∀(a b l m:List Bool),a.length=b.length->Ss (a++l) (b++m)->a=b/\Ss l m:=by
 intro a
 induction a with
 |nil=>
  intro b l m e h
  cases b with
  |nil=>exact⟨rfl,h⟩
  |cons y s=>cases e
 |cons x r ih=>
  intro b l m e h
  cases b with
  |nil=>cases e
  |cons y s=>
   have t:=Ss.tail h
   have i:=ih s l m (by simpa using e) t.2
   exact⟨by rw[t.1,i.1],i.2⟩
def see(cs:List Nat)(x:Nat):List Nat:=if(cs.set x (cs.getD x 0+24)).sum<=4096 then cs.set x (cs.getD x 0+24)else(cs.set x (cs.getD x 0+24)).map fun n=>(n+1)/2
structure En where
 low:Nat
 width:Nat
 held:Nat
 last:Nat
 begun:Bool
 out:List Int
def sh(s:En):En:=
 if s.low<4278190080\/4294967296<=s.low then
  ⟨s.low%16777216*256,s.width,0,s.low/16777216%256,true,s.out++(if s.begun then [(((s.last+s.low/4294967296%256)%256:Nat):Int)]else [])++List.replicate s.held (((255+s.low/4294967296%256)%256:Nat):Int)⟩
 else⟨s.low%16777216*256,s.width,s.held+1,s.last,s.begun,s.out⟩
def wid(s:En)(w:Nat):En:=⟨s.low,w,s.held,s.last,s.begun,s.out⟩
def norm:Nat->En->En
 |0,s=>s
 |f+1,s=>if s.width<16777216 then norm f (sh (wid s (s.width*256)))else s
def nar(s:En)(cs:List Nat)(x:Nat):En:=⟨s.low+s.width/cs.sum*(cs.take x).sum,s.width/cs.sum*cs.getD x 0,s.held,s.last,s.begun,s.out⟩
def enc:List Nat->En->List Nat->En
 |_,s,[]=>s
 |cs,s,x::r=>enc (see cs x) (norm 4 (nar s cs x)) r
def bl(s:En):List Int:=s.out++(if s.begun then [(s.last:Int)]else [])++List.replicate s.held 255
def pcn(m:Nat):Nat->Nat
 |0=>0
 |n+1=>pcn m n+(m.testBit n).toNat
def mkB(c:Nat):Nat->Nat
 |0=>0
 |k+1=>mkB c k*256+c
def f1(k x:Nat):Nat:=((x/2)&&&mkB 85 k)+(x&&&mkB 85 k)
def f2(k x:Nat):Nat:=((x/4)&&&mkB 51 k)+(x&&&mkB 51 k)
def f3(k x:Nat):Nat:=(x/16+x)&&&mkB 15 k
def rcn(m:Nat):Nat->Nat
 |0=>0
 |n+1=>rcn m n+(m.testBit n&&!(decide (0<n)&&m.testBit (n-1))).toNat
def qfy(m:Nat):Nat->Nat->List Int
 |0,_=>[]
 |f+1,i=>((m/2^(8*i)%256:Nat):Int)::qfy m f (i+1)
def kind(m:Nat):Nat:=if pcn m 256+1<=32/\pcn m 256+1<=2*rcn m 256+1 then 0 else if 32<=2*rcn m 256+1 then 1 else 2
@[simp] theorem qic (m : Nat) : ∀ f i, (qfy m f i).length = f := by
 intro f
 induction f with
 |zero=>intro i;rfl
 |succ f ih=>intro i;simp[qfy,ih]
def XB:List Nat->Prop
 |[]=>True
 |[_]=>True
 |x::y::r=>x<=y/\XB (y::r)
def Ky(k:Nat):List Nat->List Bool
 |[]=>[]
 |x::r=>nbs x k++Ky k r
@[simp] theorem qgj (k : Nat) (l : List Nat) : (Ky k l).length = l.length * k := by
 induction l with
 |nil=>simp[Ky]
 |cons x r ih=>simp[Ky,ih,Nat.add_mul];omega
def fEq(a b:Nat):Bool:=decide (¬kg a/\¬kg b/\qZ a=qZ b)
section
variable (P:Program)(t:TypeId)(x y:Operand)(a b:Nat)
theorem zB(op:BinOp):eqGuard op t x y (.float .f64 a) (.float .f64 b)=pure ():=by
 cases op<;>rfl
@[simp] theorem qgs : qq P .lss t x y (.float .f64 a) (.float .f64 b) = some (.bool (KJ a b)) := by
 unfold qq
 rw[zB]
 show one (some (Value.bool (Ieee.double.order a b==some .lt)))=_
 rw[f_lt];rfl
@[simp] theorem qgu : qq P .gtr t x y (.float .f64 a) (.float .f64 b) = some (.bool (KJ b a)) := by
 unfold qq
 rw[zB]
 show one (some (Value.bool (Ieee.double.order a b==some .gt)))=_
 rw[f_gt]
 unfold KJ
 show some (Value.bool _)=_
 congr 2
 apply decide_eq_decide.mpr
 constructor<;>(rintro⟨h1,h2,h3⟩;exact⟨h2,h1,h3⟩)
@[simp] theorem qgv : qq P .eql t x y (.float .f64 a) (.float .f64 b) = some (.bool (fEq a b)) := by
 unfold qq
 rw[zB]
 show one (some (Value.bool (Ieee.double.order a b==some .eq)))=_
 rw[qfk];rfl
@[simp] theorem qgr : qq P .neq t x y (.float .f64 a) (.float .f64 b) = some (.bool (!fEq a b)) := by
 unfold qq
 rw[zB]
 show one (some (Value.bool (!(Ieee.double.order a b==some .eq))))=_
 rw[qfk];rfl
@[simp] theorem qgt : qq P .leq t x y (.float .f64 a) (.float .f64 b) = some (.bool (KJ a b || fEq a b)) := by
 unfold qq
 rw[zB]
 show one (some (Value.bool (Ieee.double.order a b==some .lt||Ieee.double.order a b==some .eq)))=_
 rw[qfk,f_lt];rfl
end
section
variable (P:Program)(t:TypeId)(x y:Operand)
def nw(w:Nat):Nat:=if w<9223372036854775808 then w+9223372036854775808 else w-9223372036854775808
end
def mk:List Nat->List Nat->List Nat
 |[],b=>b
 |a,[]=>a
 |x::a,y::b=>if y<x then y::mk (x::a) b else x::mk a (y::b)
termination_by a b=>a.length+b.length
@[simp] theorem qho(b:List Nat):mk [] b=b:=by unfold mk;rfl
@[simp] theorem qhn(a:List Nat):mk a []=a:=by cases a<;>(unfold mk;rfl)
theorem vQ(x:Nat)(a:List Nat)(y:Nat)(b:List Nat):mk (x::a) (y::b)=if y<x then y::mk (x::a) b else x::mk a (y::b):=by
 rw[mk]
theorem qaw{motive:List Nat->List Nat->Prop}(h1:∀b,motive [] b)(h2:∀a,motive a [])(h3:∀x a y b,y<x->motive (x::a) b->motive (x::a) (y::b))
 (h4:∀x a y b,¬y<x->motive a (y::b)->motive (x::a) (y::b)):∀a b,motive a b:=by
 intro a b
 generalize hn:a.length+b.length=n
 induction n using Nat.strongRecOn generalizing a b with
 |_ n ih=>
  cases a with
  |nil=>exact h1 b
  |cons x a=>
   cases b with
   |nil=>exact h2 _
   |cons y b=>
    by_cases hyx:y<x
    ·exact h3 x a y b hyx (ih ((x::a).length+b.length) (by simp at hn⊢;omega) _ _ rfl)
    ·exact h4 x a y b hyx (ih (a.length+(y::b).length) (by simp at hn⊢;omega) _ _ rfl)
theorem ZW:∀a b,(mk a b).Perm (a++b):=by
 apply qaw (motive:=fun a b=>(mk a b).Perm (a++b))
 ·intro b;simp
 ·intro a;simp
 ·intro x a y b h ih
  rw[vQ,if_pos h]
  exact(List.Perm.cons y ih).trans List.perm_middle.symm
 ·intro x a y b h ih
  rw[vQ,if_neg h]
  exact List.Perm.cons x ih
abbrev Up(l:List Nat):Prop:=l.Pairwise (·<=·)
theorem qhm:∀a b,Up a->Up b->Up (mk a b):=by
 apply qaw (motive:=fun a b=>Up a->Up b->Up (mk a b))
 ·intro b _ h;simpa using h
 ·intro a h _;simpa using h
 ·intro x a y b h ih ha hb
  rw[vQ,if_pos h]
  have hb':=qjh.mp hb
  have ha':=qjh.mp ha
  refine qjh.mpr ⟨fun n hn=>?_,ih ha hb'.2⟩
  rcases qjp.mp ((ZW _ _).mem_iff.mp hn)with h'|h'
  ·rcases qjf.mp h' with rfl|h'
   ·omega
   ·have:=ha'.1 n h';omega
  ·exact hb'.1 n h'
 ·intro x a y b h ih ha hb
  rw[vQ,if_neg h]
  have hb':=qjh.mp hb
  have ha':=qjh.mp ha
  refine qjh.mpr ⟨fun n hn=>?_,ih ha'.2 hb⟩
  rcases qjp.mp ((ZW _ _).mem_iff.mp hn)with h'|h'
  ·exact ha'.1 n h'
  ·rcases qjf.mp h' with rfl|h'
   ·omega
   ·have:=hb'.1 n h';omega
theorem WD:∀{a b:List Nat},Up a->Up b->a.Perm b->a=b
 |[],b,_,_,h=>(List.Perm.nil_eq h)
 |x::a,[],_,_,h=>absurd h.length_eq qe
 |x::a,y::b,ha,hb,h=>by
  have ha':=qjh.mp ha
  have hb':=qjh.mp hb
  have hxy:x=y:=by
   have h1:=qjf.mp (h.mem_iff.mp (by simp:x∈x::a))
   have h2:=qjf.mp (h.mem_iff.mpr (by simp:y∈y::b))
   rcases h1 with h1|h1
   ·exact h1
   ·rcases h2 with h2|h2
    ·exact h2.symm
    ·have:=ha'.1 y h2
     have:=hb'.1 x h1
     omega
  subst hxy
  rw[WD ha'.2 hb'.2 (List.Perm.cons_inv h)]
def sk:List Nat->List Nat
 |[]=>[]
 |x::l=>mk [x] (sk l)
theorem WS:∀l,Up (sk l)
 |[]=>List.Pairwise.nil
 |x::l=>qhm _ _ qe (WS l)
theorem vN:∀l,(sk l).Perm l
 |[]=>List.Perm.refl _
 |x::l=>(ZW [x] (sk l)).trans (List.Perm.cons x (vN l))
theorem Xj{a b:List Nat}(h:a.Perm b):sk a=sk b:=WD (WS _) (WS _) ((vN a).trans (h.trans (vN b).symm))
theorem qez(l:List Nat):(sk l).length=l.length:=(vN l).length_eq
def gm:List Nat->List Nat->List Nat
 |[],b=>b
 |a,[]=>a
 |x::a,y::b=>if kw y<kw x then y::gm (x::a) b else x::gm a (y::b)
termination_by a b=>a.length+b.length
@[simp] theorem qhv(b:List Nat):gm [] b=b:=by unfold gm;rfl
@[simp] theorem qhu(a:List Nat):gm a []=a:=by cases a<;>(unfold gm;rfl)
def XF:List Nat->Nat
 |[]=>18442240474082181120
 |f::F=>if kg f then XF F else min (kw f) (XF F)
def wO:List Nat->Nat
 |[]=>4503599627370495
 |f::F=>if kg f then wO F else max (kw f) (wO F)
theorem VD{a b:List Nat}(h:a.Perm b):XF a=XF b:=by
 induction h with
 |nil=>rfl
 |cons x _ ih=>unfold XF;rw[ih]
 |swap x y l=>simp only[XF];repeat' split
              all_goals omega
 |trans _ _ h1 h2=>rw[h1,h2]
theorem XK{a b:List Nat}(h:a.Perm b):wO a=wO b:=by
 induction h with
 |nil=>rfl
 |cons x _ ih=>unfold wO;rw[ih]
 |swap x y l=>simp only[wO];repeat' split
              all_goals omega
 |trans _ _ h1 h2=>rw[h1,h2]
end Go.Proofs.YtklejdfghnnafaaGreat.AI
