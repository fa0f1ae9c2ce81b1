/- Texts that the proof of FuseBudget rests on, part 4. -/
import Derived.Test.YtmajcennjgjlnaaGreatQFuseBudget3
import Derived.Below
import Derived.ProofKit
import Derived.RowKit
import Derived.OpenShut
import Derived.ChangeOld
import Derived.SizedLaws
import Derived.Carry
import GoSem.Core.Float
import GoSem.Core.View
namespace Go.Proofs.YtmajcennjgjlnaaGreat.AI
open Go Go.RowKit
set_option linter.unusedVariables false
set_option linter.unusedSimpArgs false
def VB(W:World):Gh where
 Om b:=if b<W.heap.size then .oth else .fr
 I b:=match W.heap[b]? with
  |some (.cells arr _ _)=>arr.size
  |_=>0
 mu _ _:=none
 la _ _:=none
theorem hpI0(W:World):HpI (VB W) W hp0 where
 heap b g cs h:=by cases h
 next b g _:=rfl
 hlt b g cs h:=by cases h
 new b hb:=⟨by simp[VB];omega,by simp[VB,zqt hb]⟩
 vars b hb:=by
  exfalso
  rcases hb with⟨k,g,h⟩|⟨k,g,h⟩<;>simp only[VB]at h<;>split at h<;>cases h
theorem za8{W W':World}{G':Gh}(h:Fr (VB W) W G' W'):Below W.heap.size W W':=
 ⟨h.rest.1,h.rest.2.1,h.rest.2.2,h.size,fun k hk=>(h.same k hk (.inr (by simp[VB,hk]))).1⟩
theorem arg_sc(W:World)(v:Value)(h:v.oneCell'=true):Vn (VB W) W (.sc v) v:=fun _=>RelR.sc v h
theorem zgi{W:World}{b i:Nat}{c:Value}(h:W.cell? ⟨b,i,none⟩=some c):i<(VB W).I b:=by
 simp only[World.cell?]at h
 simp only[VB]
 split at h
 ·rename_i arr t fz e
  rw[e]
  exact(zpk.mp (by simpa using h)).1
 ·cases h
theorem zb3{W:World}{a:Addr}{n cap sz:Nat}{cs:List AV}{vs:List Value}(hsz:0<sz)(hcs:cs.length=n*sz)(hlen:vs.length=cs.length)(hcap:n<=cap)
 (hcell:∀(i:Nat) (v:Value),vs[i]?=some v->W.cell? (a.add i)=some v) (hvl:∀x∈cs,vl x=true) (hrel:∀(i:Nat) (x:AV) (v:Value),cs[i]?=some x->vs[i]?=some v->RelR (VB W) W x v):
 Vn (VB W) W (.sl sz cs) (.slice (some a) n cap):=by
 intro p
 have key:RelR (VB W) W (.sl sz cs) (.slice (some a) n cap):=by
  by_cases hn:n=0
  ·subst hn
   have:cs=[]:=zm9.mp (by simpa using hcs)
   subst this
   exact .sl0 sz a cap hsz
  ·obtain⟨b,o,sp⟩:=a
   have hpos:0<vs.length:=by rw[hlen,hcs];exact zrb (zrd hn) hsz
   have hsp:sp=none:=by
    have h0:=hcell 0 vs[0] (zm0 hpos)
    have e:(⟨b,o,sp⟩:Addr).add 0=⟨b,o,sp⟩:=rfl
    rw[e]at h0
    simp only[World.cell?]at h0
    split at h0
    ·cases sp with
     |none=>rfl
     |some q=>simp at h0
    ·cases h0
   subst hsp
   have hc':∀k c,vs[k]?=some c->W.cell? ⟨b,o+k,none⟩=some c:=fun k c hk=>by rw[<-zC];exact hcell k c hk
   refine .sl sz cs n cap b o vs hsz (zrd hn) hcs hcap ?_ hlen hc' hvl hrel
   have hl:vs.length-1<vs.length:=qe
   have:=zgi (hc' (vs.length-1) _ (zm0 hl))
   omega
 exact(key.c (p 0)).v
theorem zak{c:Cx}(hc:Ok c/\qay c){f:FuncId}{xs:List AV}{vs:List Value}{v:Value}{hp':Hp}{W:World}(h:run c f xs hp0=some (.sc v,hp'))(hl:xs.length=vs.length)
 (ha:∀(i:Nat) (x:AV) (u:Value),xs[i]?=some x->vs[i]?=some u->Vn (VB W) W x u):Calls c.P f vs.toArray W fun e W'=>e= .returned v/\Below W.heap.size W W':=by
 refine(qr4 hc.1 hc.2 h (hpI0 W) hl ha).mono fun e W' hg=>?_
 obtain⟨u,G',rfl,hf,_,hr⟩:=hg
 have hr':RelR G' W' (.sc v) u:=hr
 cases hr' with
 |sc _ _=>exact⟨rfl,za8 hf⟩
end Go.Proofs.YtmajcennjgjlnaaGreat.AI
namespace Go.Proofs.YtmajcennjgjlnaaGreat.AI
open Go
set_option linter.unusedVariables false
set_option linter.unusedSimpArgs false
set_option maxRecDepth 100000
set_option maxHeartbeats 0
section
variable (P:Program)(t:TypeId)(x y:Operand)(k k':IntKind)(a b:Int)
theorem ZM(op:BinOp):eqGuard op t x y (.int k a) (.int k' b)=pure ():=by
 cases op<;>rfl
theorem jy(op:BinOp)(h:op≠ .shl)(h':op≠ .shr):qx P op t x y (.int k a) (.int k b)=one (zx P (match op with
 | .add| .sub| .mul=>Op.intArith op k a b
 | .quo| .rem=>Op.intDiv op k a b
 | .and| .or| .xor| .andNot=>Op.intBits op k a b
 |_=>Op.intCmp op a b)):=by
 unfold qx
 rw[ZM]
 cases op<;>simp[Go.binOp]<;>first|rfl|exact absurd rfl h|exact absurd rfl h'
@[simp] theorem yg:qx P .add t x y (.int k a) (.int k b)=some (.int k (k.wrap (a+b))):=by rw[jy P t x y k a b .add qh qh];rfl
@[simp] theorem vR:qx P .sub t x y (.int k a) (.int k b)=some (.int k (k.wrap (a-b))):=by rw[jy P t x y k a b .sub qh qh];rfl
@[simp] theorem Xu:qx P .mul t x y (.int k a) (.int k b)=some (.int k (k.wrap (a*b))):=by rw[jy P t x y k a b .mul qh qh];rfl
@[simp] theorem qar:qx P .eql t x y (.int k a) (.int k b)=some (.bool (decide (a=b))):=by rw[jy P t x y k a b .eql qh qh];show some (Value.bool (a==b))=_;congr 2
@[simp] theorem zme:qx P .neq t x y (.int k a) (.int k b)=some (.bool (!decide (a=b))):=by rw[jy P t x y k a b .neq qh qh];show some (Value.bool (a !=b))=_;rfl
@[simp] theorem ZP:qx P .lss t x y (.int k a) (.int k b)=some (.bool (decide (a<b))):=by rw[jy P t x y k a b .lss qh qh];rfl
@[simp] theorem zmf:qx P .leq t x y (.int k a) (.int k b)=some (.bool (decide (a<=b))):=by rw[jy P t x y k a b .leq qh qh];rfl
@[simp] theorem Qn:qx P .gtr t x y (.int k a) (.int k b)=some (.bool (decide (a>b))):=by rw[jy P t x y k a b .gtr qh qh];rfl
@[simp] theorem ZQ:qx P .geq t x y (.int k a) (.int k b)=some (.bool (decide (a>=b))):=by rw[jy P t x y k a b .geq qh qh];rfl
theorem yx(h:b≠0):qx P .quo t x y (.int k a) (.int k b)=some (.int k (k.wrap (a.tdiv b))):=by
 rw[jy P t x y k a b .quo qh qh];simp only[Op.intDiv,h,if_false];rfl
theorem zk(h:b≠0):qx P .rem t x y (.int k a) (.int k b)=some (.int k (a.tmod b)):=by
 rw[jy P t x y k a b .rem qh qh];simp only[Op.intDiv,h,if_false];rfl
@[simp] theorem zm:qx P .and t x y (.int k a) (.int k b)=some (.int k (k.wrap (BitVec.ofInt k.bits a&&&BitVec.ofInt k.bits b).toNat)):=by rw[jy P t x y k a b .and qh qh];rfl
@[simp] theorem zR:qx P .or t x y (.int k a) (.int k b)=some (.int k (k.wrap (BitVec.ofInt k.bits a|||BitVec.ofInt k.bits b).toNat)):=by rw[jy P t x y k a b .or qh qh];rfl
@[simp] theorem xz:qx P .xor t x y (.int k a) (.int k b)=some (.int k (k.wrap (BitVec.ofInt k.bits a^^^BitVec.ofInt k.bits b).toNat)):=by rw[jy P t x y k a b .xor qh qh];rfl
@[simp] theorem zml(c:Bool):unV P .not (.bool c)=some (.bool !c):=rfl
@[simp] theorem jJ(c:Bool):asB (.bool c)=some c:=rfl
@[simp] theorem zms:Vd (.int k a)=some a:=rfl
@[simp] theorem kT(v:Value):Qo (.sc v)=some v:=rfl
end
theorem za{α β:Type}(P:Program)(s:Sem α)(f:α->Sem β):zx P (s>>=f)=(zx P s).bind fun a=>zx P (f a):=by
 show zx P (Sem.bind s f)=_
 induction s with
 |pure a=>rfl
 |program k ih=>simp only[Sem.bind,zx];exact ih P
 |mark x k ih=>simp only[Sem.bind,zx];exact ih
 |_=>rfl
@[simp] theorem zg4{α:Type}(P:Program)(a:α):zx P (pure a:Sem α)=some a:=rfl
theorem KY(P:Program)(t:TypeId)(x y:Operand)(op:BinOp)(a b:ByteArray):eqGuard op t x y (.string a) (.string b)=pure ():=by
 cases op<;>rfl
theorem zhh(a b:ByteArray):(a.toList==b.toList)=decide (a.data.toList=b.data.toList):=by
 rw[ByteArray.toList_eq,ByteArray.toList_eq]
 by_cases h:a.data.toList=b.data.toList
 ·rw[h];simp
 ·rw[decide_eq_false h];exact beq_eq_false_iff_ne.mpr h
@[simp] theorem zks (P : Program) (t : TypeId) (x y : Operand) (a b : ByteArray) : qx P .eql t x y (.string a) (.string b) = some (.bool (decide (a.data.toList = b.data.toList))) := by
 unfold qx
 rw[KY P]
 show some (Value.bool (a.toList==b.toList))=_
 rw[zhh]
@[simp] theorem zkr (P : Program) (t : TypeId) (x y : Operand) (a b : ByteArray) : qx P .neq t x y (.string a) (.string b) = some (.bool (!decide (a.data.toList = b.data.toList))) := by
 unfold qx
 rw[KY P]
 show some (Value.bool (!(a.toList==b.toList)))=_
 rw[zhh]
def Rd(sz:Nat)(x:AV)(cs:List AV):Prop:=x= .sl sz cs\/x= .us sz cs\/(x= .sc nil0/\cs=[])
section
variable {sz:Nat}{x:AV}{cs:List AV}
theorem Rd.ro(h:Rd sz x cs):Rd sz (AI.ro x) cs:=by
 rcases h with rfl|rfl|⟨rfl,rfl⟩
 ·exact .inl rfl
 ·exact .inl rfl
 ·exact .inr (.inr ⟨rfl,rfl⟩)
theorem Rd.ro1(h:Rd sz x cs):Rd sz (AI.ro1 x) cs:=by
 rcases h with rfl|rfl|⟨rfl,rfl⟩
 ·exact .inl rfl
 ·exact .inl rfl
 ·exact .inr (.inr ⟨rfl,rfl⟩)
theorem Rd.len(h:Rd 1 x cs):xK x=some cs.length:=by
 rcases h with rfl|rfl|⟨rfl,rfl⟩<;>rfl
theorem Rd.idx(h:Rd 1 x cs){k:IntKind}{z:Int}{i:Nat}{y:AV}(hz:z=(i:Int))(hy:cs[i]?=some y):jA 1 x (.int k z)=some [y]:=by
 subst hz
 have hlt:=(zm2.mp hy).1
 have key:((AI.idx (if 1=1 then cs.length else cs.length/1) (.int k (i:Int))).bind fun i=>qr cs (i*1) 1)=some [y]:=by
  have hc:(0:Int)<=(i:Int)/\(i:Int)<(cs.length:Int):=⟨zre i,qe⟩
  simp only[if_true,AI.idx,Vd,zmw,hc,and_self,zm3,zom]
  unfold qr
  rw[if_pos qe]
  congr 1
  obtain⟨h1,h2⟩:=zm2.mp hy
  rw[znp h1,h2]
  rfl
 rcases h with rfl|rfl|⟨rfl,rfl⟩
 ·simp only[jA,if_true];simpa using key
 ·simp only[jA,if_true];simpa using key
 ·simp at hy
end
def Wd(sz:Nat)(x:AV)(cs:List AV):Prop:=x= .us sz cs\/(x= .sc nil0/\cs=[])
theorem Wd.rd{sz:Nat}{x:AV}{cs:List AV}(h:Wd sz x cs):Rd sz x cs:=by
 rcases h with rfl|⟨rfl,rfl⟩
 ·exact .inr (.inl rfl)
 ·exact .inr (.inr ⟨rfl,rfl⟩)
def qk9(ys:List AV):Prop:=ys.map ro1=ys
theorem Wd.app{bytes sz:Nat}{d s:AV}{cs ys:List AV}(hd:Wd sz d cs)(hs:Rd sz s ys)(hf:qk9 ys)(hfit:ys≠[]->xE bytes sz (cs.length+ys.length)=true):
 ∃z,jm bytes sz d s=some z/\Wd sz z (cs++ys):=by
 have hsrc:xj sz s=some ys:=by
  rcases hs with rfl|rfl|⟨rfl,rfl⟩
  ·simp[xj]
  ·simp[xj]
  ·rfl
 unfold jm qky
 rw[hsrc]
 simp only[zmw]
 cases ys with
 |nil=>
  rw[znj]
  rcases hd with rfl|⟨rfl,rfl⟩
  ·exact⟨.us sz cs,qg,.inl rfl⟩
  ·exact⟨.sc nil0,rfl,.inr ⟨rfl,rfl⟩⟩
 |cons y ys=>
  have hfit:=hfit qg
  rcases hd with rfl|⟨rfl,rfl⟩
  ·refine⟨.us sz (cs++(y::ys)),?_,.inl rfl⟩
   have hf':(y::ys).map ro1=y::ys:=hf
   have hfit2:xE bytes sz (cs.length+(ys.length+1))=true:=by simpa using hfit
   have hm:ro1 y::List.map ro1 ys=y::ys:=hf'
   simp[hfit2,hm]
  ·refine⟨.us sz (y::ys),?_,.inl rfl⟩
   have hf':(y::ys).map ro1=y::ys:=hf
   have hfit':xE bytes sz (y::ys).length=true:=by simpa using hfit
   have hn:Zi nil0=true:=rfl
   simp only[hn,zqi,hfit',if_true,hf',znn]
theorem qm{z:Int}(h1:-9223372036854775808<=z)(h2:z<9223372036854775808):IntKind.i64.wrap z=z:=by
 rw[IntKind.wrap_i64];omega
theorem qj{p:Prop}(h:p:=by rw[qm]<;>omega):p:=h
@[simp] theorem zk7:IntKind.i64.wrap 0=0:=rfl
@[simp] theorem zk6:IntKind.i64.wrap 1=1:=rfl
@[simp] theorem zk5:IntKind.i64.wrap 2=2:=rfl
@[simp] theorem zk4:IntKind.i64.wrap 3=3:=rfl
@[simp] theorem zk3:IntKind.i64.wrap 4=4:=rfl
@[simp] theorem zk2:IntKind.i64.wrap 5=5:=rfl
@[simp] theorem zk1:IntKind.i64.wrap 6=6:=rfl
@[simp] theorem zk0:IntKind.i64.wrap 7=7:=rfl
@[simp] theorem zkz:IntKind.i64.wrap 8=8:=rfl
@[simp] theorem zky:IntKind.i64.wrap 9=9:=rfl
@[simp] theorem zkl:IntKind.i64.wrap 10=10:=rfl
@[simp] theorem zkk:IntKind.i64.wrap 11=11:=rfl
@[simp] theorem zkj:IntKind.i64.wrap 12=12:=rfl
@[simp] theorem zki:IntKind.i64.wrap 13=13:=rfl
@[simp] theorem zkh:IntKind.i64.wrap 14=14:=rfl
@[simp] theorem zkg:IntKind.i64.wrap 15=15:=rfl
@[simp] theorem zkf:IntKind.i64.wrap 16=16:=rfl
def S(k sz:Nat)(cs:List AV):AV:=
 match k with
 |0=>.sl sz cs
 |1=>.us sz cs
 |2=>match cs with
  |[]=>.sc nil0
  |_=>.us sz cs
 |_=>match cs with
  |[]=>.sc nil0
  |_=>.sl sz cs
def rk:Nat->Nat
 |0=>0
 |1=>0
 |_=>3
def tg(k:Nat)(cs:List AV):Nat:=
 match cs with
 |[]=>rk k
 |_=>0
@[simp] theorem Wp (k : Nat) : rk (rk k) = rk k := by
 match k with
 |0=>rfl
 |1=>rfl
 |n+2=>rfl
@[simp] theorem rk0:rk 0=0:=rfl
@[simp] theorem rk1:rk 1=0:=rfl
@[simp] theorem rk2:rk 2=3:=rfl
@[simp] theorem rk3:rk 3=3:=rfl
section
variable (k sz:Nat)(cs:List AV)
theorem jn:S k sz cs= .sl sz cs\/S k sz cs= .us sz cs\/(S k sz cs= .sc nil0/\cs=[]):=by
 unfold S
 match k,cs with
 |0,_=>exact .inl rfl
 |1,_=>exact .inr (.inl rfl)
 |2,[]=>exact .inr (.inr ⟨rfl,rfl⟩)
 |2,_::_=>exact .inr (.inl rfl)
 |n+3,[]=>exact .inr (.inr ⟨rfl,rfl⟩)
 |n+3,_::_=>exact .inl rfl
@[simp] theorem ro1_S : ro1 (S k sz cs) = S (rk k) sz cs := by
 match k,cs with
 |0,_=>rfl
 |1,_=>rfl
 |2,[]=>rfl
 |2,_::_=>rfl
 |n+3,[]=>rfl
 |n+3,_::_=>rfl
@[simp] theorem ro_S : ro (S k sz cs) = S (rk k) sz cs := by
 match k,cs with
 |0,_=>rfl
 |1,_=>rfl
 |2,[]=>rfl
 |2,_::_=>rfl
 |n+3,[]=>rfl
 |n+3,_::_=>rfl
theorem rd_S:Rd sz (S k sz cs) cs:=jn k sz cs
@[simp] theorem lenA_S:xK (S k 1 cs)=some cs.length:=(rd_S k 1 cs).len
@[simp] theorem XZ (K : IntKind) (z : Int) : jA 1 (S k 1 cs) (.int K z) = if 0 ≤ z then (cs[z.toNat]?).map fun c => [c] else none := by
 by_cases hz:0<=z
 ·rw[if_pos hz]
  cases h:cs[z.toNat]? with
  |some y=>exact(rd_S k 1 cs).idx qe h
  |none=>
   have hl:cs.length<=z.toNat:=by simpa using h
   have hn:¬(z<(cs.length:Int)):=qe
   rcases jn k 1 cs with e|e|⟨e,e'⟩
   ·rw[e];simp[jA,idx,Vd,hn]
   ·rw[e];simp[jA,idx,Vd,hn]
   ·rw[e];rfl
 ·rw[if_neg hz]
  rcases jn k 1 cs with e|e|⟨e,e'⟩
  ·rw[e];simp[jA,idx,Vd,hz]
  ·rw[e];simp[jA,idx,Vd,hz]
  ·rw[e];rfl
@[simp] theorem zl9 : qn 1 (S k sz cs) = some [S k sz cs] := by
 rcases jn k sz cs with e|e|⟨e,e'⟩<;>rw[e]<;>rfl
@[simp] theorem zmn : Zh (S k sz cs) = some () := by
 rcases jn k sz cs with e|e|⟨e,e'⟩<;>rw[e]<;>rfl
@[simp] theorem qxx : xj sz (S k sz cs) = some cs := by
 rcases jn k sz cs with e|e|⟨e,e'⟩
 ·rw[e];simp[xj]
 ·rw[e];simp[xj]
 ·rw[e,e'];rfl
@[simp] theorem us_S:AV.us sz cs=S 1 sz cs:=rfl
@[simp] theorem sl_S:AV.sl sz cs=S 0 sz cs:=rfl
end
@[simp] theorem nil_S1:AV.sc (Value.slice none 0 0)=S 2 1 []:=rfl
@[simp] theorem S3_nil(sz:Nat):S 3 sz []=S 2 sz []:=rfl
theorem vi(k:Nat)(cs:List AV)(K:IntKind)(z:Int)(h:0<=z)(h':z<=cs.length):yq 1 (S k 1 cs) (some (.int K z)) none none=some (S (tg k cs) 1 (cs.drop z.toNat)):=by
 obtain⟨i,rfl⟩:∃i:Nat,z=i:=⟨z.toNat,qe⟩
 have hi:i<=cs.length:=qe
 have hb:∀n:Nat,i<=n->zo 0 (n:Int) (some (.int K (i:Int))) 0=some i:=by
  intro n hn
  have:(0:Int)<=(i:Int)/\(i:Int)<=(n:Int):=⟨zre i,qe⟩
  simp only[zo,Vd,zmw,this,and_self,if_true,zm3]
 have key:(cs.drop (i*1)).take ((cs.length-i)*1)=cs.drop i:=by
  rw[zom,zom]
  exact znr qg
 have this:=hb cs.length hi
 simp only[zo]at this
 have a:yq 1 (.sl 1 cs) (some (.int K i)) none none=some (.sl 1 (cs.drop i)):=by
  simp only[yq,if_true]
  show(zo 0 _ none _).bind _=_
  simp only[zo,zmw]
  rw[this]
  simp only[zmw,key]
 have b:yq 1 (.us 1 cs) (some (.int K i)) none none=some (.sl 1 (cs.drop i)):=by
  simp only[yq,if_true]
  show(zo 0 _ none _).bind _=_
  simp only[zo,zmw]
  rw[this]
  simp only[zmw,key]
 rw[zm3]
 match k,cs with
 |0,[]=>exact a
 |0,_::_=>exact a
 |1,[]=>exact b
 |1,_::_=>exact b
 |2,[]=>obtain rfl:i=0:=by simpa using hi
        rfl
 |2,_::_=>exact b
 |n+3,[]=>obtain rfl:i=0:=by simpa using hi
          rfl
 |n+3,_::_=>exact a
theorem Yr(b sz k:Nat)(cs ys:List AV)(k':Nat)(hk:k=1\/k=2)(hf:qk9 ys)(hfit:ys=[]\/xE b sz (cs.length+ys.length)=true):
 jm b sz (S k sz cs) (S k' sz ys)=some (S k sz (cs++ys)):=by
 unfold jm qky
 rw[qxx]
 simp only[zmw]
 have hf':ys.map ro1=ys:=hf
 match ys,hf',hfit with
 |[],_,_=>
  rw[znj]
  rcases hk with rfl|rfl
  ·show(if sz=sz then some (AV.us sz cs)else none)=_
   rw[if_pos rfl];rfl
  ·cases cs with
   |nil=>rfl
   |cons c cs=>exact if_pos rfl
 |y::ys,hf',hfit=>
  have hfit:xE b sz (cs.length+(y::ys).length)=true:=hfit.resolve_left qg
  rcases hk with rfl|rfl
  ·simp only[S,hf',hfit,Bool.and_true,decide_true,if_true]
  ·cases cs with
   |nil=>
    have h0:xE b sz (y::ys).length=true:=by simpa using hfit
    simp only[S,hf',h0,Zi,nil0,Bool.and_true,if_true,znn]
   |cons c cs=>simp only[S,hf',hfit,Bool.and_true,decide_true,if_true,zol]
theorem yR{b sz n:Nat}(hb:0<b)(h:n*b<=140737488355328*sz):xE b sz n=true:=by
 simp[xE,h,hb]
@[simp] theorem qka(v:Value):qk9 [.sc v]:=rfl
theorem zbb{α:Type}(f:α->Value)(l:List α):qk9 (l.map fun x=>.sc (f x)):=by
 unfold qk9;rw[zq1];rfl
@[simp] theorem zic(v:Value):ro1 (.sc v)= .sc v:=rfl
@[simp] theorem zle(v:Value):ro (.sc v)= .sc v:=rfl
@[simp] theorem zib(l:List AV):ro (.agg l)= .agg (l.map ro1):=rfl
@[simp] theorem zln(v:Value):Zh (.sc v)=some ():=rfl
@[simp] theorem zkn(l:List AV):Zh (.agg l)=some ():=rfl
@[simp] theorem vl_S (k sz : Nat) (cs : List AV) : vl (S k sz cs) = true := by
 rcases jn k sz cs with e|e|⟨e,e'⟩<;>rw[e]<;>rfl
@[simp] theorem vlF_S (k sz : Nat) (cs : List AV) : vlF (S k sz cs) = true := by
 rcases jn k sz cs with e|e|⟨e,e'⟩<;>rw[e]<;>rfl
@[simp] theorem vlV_S (k sz : Nat) (cs : List AV) : vlV (S k sz cs) = true := by
 rcases jn k sz cs with e|e|⟨e,e'⟩<;>rw[e]<;>rfl
@[simp] theorem vl_sc(v:Value):vl (.sc v)=true:=rfl
@[simp] theorem vlF_sc(v:Value):vlF (.sc v)=true:=rfl
@[simp] theorem vlV_sc(v:Value):vlV (.sc v)=true:=rfl
@[simp] theorem zmk(l:List AV):vlF (.agg l)=l.all vl:=rfl
@[simp] theorem zmj(l:List AV):vlV (.agg l)=l.all vl:=rfl
@[simp] theorem zmi(l:List AV):vlV (.tup l)=l.all vlF:=rfl
@[simp] theorem vl_fn(f:FuncId):vl (.fn f [])=true:=rfl
@[simp] theorem vlF_fn(f:FuncId):vlF (.fn f [])=true:=rfl
@[simp] theorem qtj(xs caps:List AV):xq xs caps=ZN (xs.all vlF=true/\caps.all vl=true):=rfl
@[simp] theorem QW(a b:Nat):jH a b=ZN (a=b):=rfl
@[simp] theorem zmr(b:Bool):qov b=ZN (b=true):=rfl
@[simp] theorem qz1(cs:List AV):yF cs=ZN (cs.all vl=true):=rfl
@[simp] theorem tN_eq(n:Int):tN n=n.toNat:=rfl
theorem Ji{b z:Nat}{n:Int}(h0:0<=n)(hf:n.toNat*b<=140737488355328)(hb:0<b)(hz:0<z):yT b z n n=some ():=
 if_pos ⟨rfl,h0,by simp[xE];omega,hz⟩
@[simp] theorem qz3(y:AV):wo y=ZN (vlV y=true):=rfl
theorem QV{p:Prop}[Decidable p](h:p):ZN p=some ():=if_pos h
@[simp] theorem vO:ZN True=some ():=rfl
@[simp] theorem Yp{α:Type}[DecidableEq α](a:α):ZN (a=a)=some ():=if_pos rfl
@[simp] theorem zmh(l:List AV):zgs (.agg l)=some l:=rfl
@[simp] theorem zjs(n:Nat)(l:List AV):wQ n (.tup l)=if l.length=n then some ()else none:=rfl
@[simp] theorem zlm(l:List AV)(i:Nat):yH (.tup l) i=l.getD i (.tup []):=rfl
theorem qz2(v:Value):wo (.sc v)=some ():=by rw[qz3];exact if_pos qg
@[simp] theorem zl8:ZN (True/\True)=some ():=rfl
@[simp] theorem zjt(n:Nat)(l:List AV):qn n (.agg l)=if l.length=n then some l else none:=rfl
@[simp] theorem zmg:Qo (.sc nil0)=some nil0:=rfl
theorem qt{α:Type}{l:List α}{i:Nat}{x:α}{r:List α}(h:l.drop i=x::r):l[i]?=some x/\l.drop (i+1)=r/\∃h:i<l.length,l[i]=x:=by
 have hi:i<l.length:=by
  by_cases hi:i<l.length
  ·exact hi
  ·rw[zn1 qe]at h;cases h
 rw[znp hi]at h
 injection h with h1 h2
 exact⟨by rw[zm0 hi,h1],h2,hi,h1⟩
theorem qK{α:Type}{l:List α}{i:Nat}(h:l.drop i=[]):l.length<=i:=by simpa using h
def LI(K:IntKind)(l:List Int):List AV:=l.map fun n=>.sc (.int K n)
section
variable (K:IntKind)(l:List Int)
theorem WV:qk9 (LI K l):=zbb _ l
@[simp] theorem vlI:(LI K l).all vl=true:=by simp[LI,List.all_map]
@[simp] theorem wI:(LI K l).length=l.length:=by simp[LI]
@[simp] theorem qbn?(i:Nat):(LI K l)[i]?=(l[i]?).map fun n=>.sc (.int K n):=by simp[LI]
@[simp] theorem qbn(i:Nat)(h:i<(LI K l).length):(LI K l)[i]= .sc (.int K (l[i]'(by simpa using h))):=by simp[LI]
@[simp] theorem zl7(i:Nat):(LI K l).drop i=LI K (l.drop i):=by simp[LI]
@[simp] theorem tailI:(LI K l).tail=LI K l.tail:=by simp[LI]
@[simp] theorem nilI:LI K []=[]:=rfl
theorem QZ(k:Nat)(hk:k=1\/k=2)(b:Nat)(hb:0<b/\b<=1000)(n:Int)(h:l.length<=1000000):jm b 1 (S k 1 (LI K l)) (S 1 1 [.sc (.int K n)])=some (S k 1 (LI K (l++[n]))):=by
 rw[Yr b 1 k _ _ 1 hk (qka _) (.inr (yR hb.1 ?_))]
 ·simp[LI]
 ·simp only[wI,zmu,znd]
  have:(l.length+(0+1))*b<=1000001*1000:=zno qe hb.2
  omega
theorem zb4(k:Nat)(hk:k=1\/k=2)(b:Nat)(hb:0<b/\b<=1000)(k':Nat)(m:List Int)(h:l.length+m.length<=1000000):jm b 1 (S k 1 (LI K l)) (S k' 1 (LI K m))=some (S k 1 (LI K (l++m))):=by
 rw[Yr b 1 k _ _ k' hk (WV _ _) (.inr (yR hb.1 ?_))]
 ·simp[LI]
 ·simp only[wI]
  have:(l.length+m.length)*b<=1000000*1000:=zno qe hb.2
  omega
end
section
variable (P:Program)(t:TypeId)(x y:Operand)(k k':IntKind)(a b:Int)
theorem jI(h:0<=b):qx P .shr t x y (.int k a) (.int k' b)=some (.int k (a.fdiv (2^(min b.toNat k.bits)))):=by
 unfold qx
 rw[ZM]
 simp only[Go.binOp,Op.shift]
 rw[if_neg qe]
 rfl
theorem zW(h:0<=b):qx P .shl t x y (.int k a) (.int k' b)=some (.int k (k.wrap (a*2^(min b.toNat k.bits)))):=by
 unfold qx
 rw[ZM]
 simp only[Go.binOp,Op.shift]
 rw[if_neg qe]
 rfl
end
theorem zy{z:Int}(h1:0<=z)(h2:z<256):IntKind.u8.wrap z=z:=by rw[IntKind.wrap_u8];omega
theorem qJ{z:Int}(h1:0<=z)(h2:z<4294967296):IntKind.u32.wrap z=z:=by rw[IntKind.wrap_u32];omega
theorem qu{z:Int}(h1:0<=z)(h2:z<18446744073709551616):IntKind.u64.wrap z=z:=by rw[IntKind.wrap_u64];omega
theorem zj{a b:Int}(h:0<=a):a.tmod b=a%b:=Int.tmod_eq_emod_of_nonneg h
@[simp] theorem zmd (P : Program) (ts : Array TypeId) (t : TypeId) (k k' : IntKind) (a b : Int) : kF P .max ts t [.int k a, .int k' b] = some (.int k (max a b)) := by
 show some (Value.int k (if b>a then b else a))=_
 congr 2
 split<;>omega
@[simp] theorem zmc (P : Program) (ts : Array TypeId) (t : TypeId) (k k' : IntKind) (a b : Int) : kF P .min ts t [.int k a, .int k' b] = some (.int k (min a b)) := by
 show some (Value.int k (if b<a then b else a))=_
 congr 2
 split<;>omega
@[simp] theorem vI(b g o n z:Nat):zg (.ms b g o n z)=some (b,g,o,n,z):=rfl
@[simp] theorem qcn(b g o n z:Nat):ro (.ms b g o n z)= .ms b g o n z:=rfl
@[simp] theorem zid(b g o n z:Nat):ro1 (.ms b g o n z)= .ms b g o n z:=rfl
@[simp] theorem zmo(b g o n z:Nat):xK (.ms b g o n z)=some n:=rfl
@[simp] theorem zkq(b g o n z:Nat):qn 1 (.ms b g o n z)=some [.ms b g o n z]:=rfl
@[simp] theorem zlo(b g o n z:Nat):Zh (.ms b g o n z)=some ():=rfl
theorem zp{n i:Nat}(K:IntKind)(h:i<n):idx n (.int K (i:Int))=some i:=by
 have h1:(i:Int)<(n:Int):=qe
 simp[idx,h1]
theorem qR(hp:Hp)(cs:List AV):(hp.new cs).rd hp.next 0=some cs:=by simp[Hp.rd,Hp.new]
theorem qp(hp:Hp)(b:Nat)(cs:List AV):(hp.put b 0 cs).rd b 0=some cs:=by simp[Hp.rd,Hp.put]
theorem xp(K:IntKind)(l:List Int)(i:Nat)(n:Int)(h:i<l.length):qo (LI K l) i [.sc (.int K n)]=some (LI K (l.set i n)):=by
 unfold qo
 rw[if_pos qi]
 congr 1
 apply zo1
 intro j
 simp only[zmu,znd,LI,zne,List.getElem?_append,zmt,zny,zov,zm8,zn8,zp7,zmu,znd]
 by_cases h1:j<i
 ·have e1:j<min i l.length+(0+1):=qe
  have e2:j<min i l.length:=qe
  have e3:¬(i=j):=qe
  simp[e1,e2,e3,h1]
 ·by_cases h2:j=i
  ·subst h2
   have e2:¬(j<min j l.length):=qe
   have e3:j-min j l.length=0:=qe
   have e4:min j l.length=j:=qe
   simp[e2,e3,e4,h]
  ·have e1:¬(j<min i l.length+(0+1)):=qe
   have e2:¬(i=j):=qe
   have e3:i+(0+1)+(j-(min i l.length+(0+1)))=j:=qe
   have e4:¬(j<min i l.length):=qe
   simp only[e1,e2,e3,if_false]
theorem qj5(cs:List AV):qr cs 0 cs.length=some cs:=by simp[qr]
theorem zfw(hp:Hp)(b:Nat)(cs:List AV)(hb:hp.rd b 0=some cs)(hv:cs.all vl=true):wO hp (.ms b 0 0 cs.length 1)=some (.sl 1 (cs.map ro1),hp.del b):=by
 have e:qr cs 0 (cs.length*1)=some cs:=by rw[zom];exact qj5 cs
 simp only[wO,hb,zmw,e,hv,ZN]
 rfl
theorem QT(K:IntKind)(l:List Int)(hp:Hp)(b:Nat)(hb:hp.rd b 0=some (LI K l)):wO hp (.ms b 0 0 l.length 1)=some (S 0 1 (LI K l),hp.del b):=by
 have h:=zfw hp b (LI K l) hb (vlI K l)
 rw[wI]at h
 rw[h,WV K l]
 rfl
@[simp] theorem frz1_S (k sz : Nat) (cs : List AV) (hp : Hp) : wO hp (S k sz cs) = some (S k sz cs, hp) := by
 rcases jn k sz cs with e|e|⟨e,e'⟩<;>rw[e]<;>rfl
@[simp] theorem zmp(v:Value)(hp:Hp):wO hp (.sc v)=some (.sc v,hp):=rfl
@[simp] theorem zl2(hp:Hp):Xh hp []=some ([],hp):=rfl
@[simp] theorem zkp(hp:Hp)(x:AV)(r:List AV):Xh hp (x::r)=(wO hp x).bind fun p=>(Xh p.2 r).bind fun q=>some (p.1::q.1,q.2):=rfl
@[simp] theorem WH(cs:List AV):zT 1 cs=cs.length:=rfl
theorem JP(hp:Hp)(k sz:Nat)(cs:List AV):Jz hp sz (S k sz cs)=some cs:=by
 unfold Jz
 rcases jn k sz cs with e|e|⟨e,e'⟩<;>rw[e]
 ·simp[zg,xj]
 ·simp[zg,xj]
 ·simp[zg,xj,e',nil0]
theorem vS(K:IntKind)(l:List Int)(k:Nat)(b:Nat)(hb:0<b/\b<=1000)(hl:l.length<=1000000)(hne:l≠[])(hp:Hp):jX b 1 (S 1 1 []) (S k 1 (LI K l)) hp=some (.ms hp.next 0 0 l.length 1,hp.new (LI K l)):=by
 unfold jX
 rw[JP]
 simp only[zmw]
 cases l with
 |nil=>exact absurd rfl hne
 |cons x l=>
  have hf:xE b 1 (LI K (x::l)).length=true:=yR hb.1 (by
   rw[wI]
   have:(x::l).length*b<=1000000*1000:=zno hl hb.2
   omega)
  have e:LI K (x::l)= .sc (.int K x)::LI K l:=rfl
  rw[e]at hf⊢
  show(ZN (1=1/\xE b 1 (AV.sc (Value.int K x)::LI K l).length=true)).bind _=_
  rw[QV ⟨rfl,hf⟩]
  simp[wI]
theorem qau(b:Nat)(k:Nat)(hp:Hp):jX b 1 (S 1 1 []) (S k 1 []) hp=some (S 1 1 [],hp):=by
 unfold jX
 rw[JP]
 rfl
theorem ZR(K:IntKind)(l:List Int)(n:Int)(b x:Nat)(hb:0<b/\b<=1000)(hl:l.length<=1000000)(hne:l≠[])(hp:Hp)(hx:hp.rd x 0=some (LI K l)):
 jX b 1 (.ms x 0 0 l.length 1) (S 1 1 [.sc (.int K n)]) hp=some (.ms hp.next 0 0 (l.length+1) 1,(hp.del x).new (LI K (l++[n]))):=by
 have hpos:0<l.length:=zoe.mpr hne
 have hf:xE b 1 (l.length*1+1)=true:=yR hb.1 (by
  have:(l.length*1+1)*b<=1000001*1000:=zno qe hb.2
  omega)
 unfold jX
 rw[JP]
 simp only[zmw,hx,zmu,znd,WH]
 rw[QV (by simp[hpos])]
 simp only[zmw]
 rw[QV ⟨by rw[wI];omega,hf⟩]
 have e:((LI K l).take (l.length*1)).map ro1++[AV.sc (.int K n)]=LI K (l++[n]):=by
  rw[zom,znr qg,WV]
  simp[LI]
 simp only[zmw,e]
theorem QY(K:IntKind)(n:Int)(b:Nat)(hb:0<b/\b<=1000)(hp:Hp):jX b 1 (S 2 1 []) (S 1 1 [.sc (.int K n)]) hp=some (.ms hp.next 0 0 1 1,hp.new (LI K [n])):=by
 have hf:xE b 1 1=true:=yR hb.1 qe
 unfold jX
 rw[JP]
 show(ZN (Zi nil0=true/\xE b 1 1=true)).bind _=_
 rw[QV ⟨rfl,hf⟩]
 rfl
theorem ZV(K:IntKind)(n:Nat):xH (n:Int) [.int K 0]=LI K (List.replicate n 0):=by
 unfold xH LI
 rw[zm3]
 induction n with
 |zero=>rfl
 |succ n ih=>
  rw[zo3,zo3,zqp,ih]
  rfl
@[simp] theorem qao(lo hi:Int)(d:Nat):zo lo hi none d=some d:=rfl
theorem xO{hi d n:Nat}(K:IntKind)(h:n<=hi):zo 0 (hi:Int) (some (.int K (n:Int))) d=some n:=by
 have h1:(n:Int)<=(hi:Int):=qe
 simp[zo,h1]
theorem zi6(K:IntKind)(l:List Int)(i n:Nat)(h:i+n<=l.length):qr (LI K l) i n=some (LI K ((l.drop i).take n)):=by
 unfold qr
 rw[if_pos (by simpa using h)]
 simp[LI,List.map_drop,zqh]
theorem zen(K:IntKind)(l m:List Int)(i:Nat)(h:i+m.length<=l.length):qo (LI K l) i (LI K m)=some (LI K (l.take i++m++l.drop (i+m.length))):=by
 unfold qo
 rw[if_pos (by simpa using h)]
 simp[LI,List.map_drop,zqh]
theorem zgy(K:IntKind)(l:List Int)(n:Nat):(LI K l).take n=LI K (l.take n):=by simp[LI,zqh]
theorem Yz(K:IntKind)(l:List Int)(hp:Hp)(b o n:Nat)(hb:hp.rd b 0=some (LI K l))(h:o+n<=l.length):Jz hp 1 (.ms b 0 o n 1)=some (LI K ((l.drop o).take n)):=by
 unfold Jz
 have e:=zi6 K l o n h
 have e1:ZN (1=1/\0<1)=some ():=QV ⟨rfl,qh⟩
 show(ZN (1=1/\0<1)).bind _=_
 rw[e1]
 simp only[zmw,hb,zom,e]
 rw[WV]
theorem Zr{q:AV×Nat}{g g':Nat->Option (Nat×List AV)}(h:yK q g=yK q g'):xm q g g'=some ():=by
 unfold xm
 exact if_pos h
@[simp] theorem zh6(q:AV×Nat)(g:Nat->Option (Nat×List AV)):xm q g g=some ():=Zr rfl
theorem Ve(K:IntKind)(l:List Int)(x:AV)(b:Nat)(hb:0<b/\b<=1000)(hl:l.length<=1000000)(hne:l≠[])(hp:Hp)(hx:Jz hp 1 x=some (LI K l)):jX b 1 (S 1 1 []) x hp=some (.ms hp.next 0 0 l.length 1,hp.new (LI K l)):=by
 have h:=vS K l 0 b hb hl hne hp
 unfold jX at h⊢
 rw[JP]at h
 rw[hx]
 exact h
theorem qhu(K:IntKind)(l:List Int)(hp:Hp)(b:Nat)(hb:hp.rd b 0=some (LI K l)):Jz hp 1 (.ms b 0 0 l.length 1)=some (LI K l):=by
 have h:=Yz K l hp b 0 l.length hb qe
 rwa [zou,znr (zmx _)]at h
end Go.Proofs.YtmajcennjgjlnaaGreat.AI
namespace Go.Proofs.YtmajcennjgjlnaaGreat.AI
open Go Go.RowKit Go.ChangeShapes Go.WideShapes Go.ChangeAt
set_option linter.unusedVariables false
set_option linter.unusedSimpArgs false
def Vf(k:IntKind)(n:Int):Prop:=(Lit.int k n).wf=true
theorem Vf.le{k:IntKind}{n:Int}(h:Vf k n):k.min<=n/\n<=k.max:=by
 simpa[Vf,Lit.wf]using h
theorem Vf.u8{n:Int}(h:Vf .u8 n):0<=n/\n<256:=by
 have:=h.le;simp[IntKind.min,IntKind.max,IntKind.signed,IntKind.bits]at this;omega
theorem Vf.u16{n:Int}(h:Vf .u16 n):0<=n/\n<65536:=by
 have:=h.le;simp[IntKind.min,IntKind.max,IntKind.signed,IntKind.bits]at this;omega
theorem Vf.u32{n:Int}(h:Vf .u32 n):0<=n/\n<4294967296:=by
 have:=h.le;simp[IntKind.min,IntKind.max,IntKind.signed,IntKind.bits]at this;omega
theorem Vf.u64{n:Int}(h:Vf .u64 n):0<=n/\n<18446744073709551616:=by
 have:=h.le;simp[IntKind.min,IntKind.max,IntKind.signed,IntKind.bits]at this;omega
theorem Vf.i64{n:Int}(h:Vf .i64 n):-9223372036854775808<=n/\n<9223372036854775808:=by
 have:=h.le;simp[IntKind.min,IntKind.max,IntKind.signed,IntKind.bits]at this;omega
def ArgsR(W:World)(xs:List AV)(vs:List Value):Prop:=xs.length=vs.length/\∀(i:Nat) (x:AV) (u:Value),xs[i]?=some x->vs[i]?=some u->Vn (VB W) W x u
theorem ArgsR.nil(W:World):ArgsR W [] []:=⟨rfl,qg⟩
theorem ArgsR.cons{W:World}{x:AV}{v:Value}{xs:List AV}{vs:List Value}(h:Vn (VB W) W x v)(t:ArgsR W xs vs):ArgsR W (x::xs) (v::vs):=by
 refine⟨by simp[t.1],fun i y u hx hu=>?_⟩
 cases i with
 |zero=>
  simp at hx hu
  subst hx hu
  exact h
 |succ i=>exact t.2 i y u (by simpa using hx) (by simpa using hu)
theorem law_args{c:Cx}(hc:Ok c/\qay c){f:FuncId}{xs:List AV}{vs:List Value}{v:Value}{hp':Hp}{W:World}(ha:ArgsR W xs vs)(h:run c f xs hp0=some (.sc v,hp')):Calls c.P f vs.toArray W fun e W'=>e= .returned v/\Below W.heap.size W W':=
 zak hc h ha.1 ha.2
section
variable {H:Type}{enc:TypeId×Value->H}{P:Program}{W:World}{fuel:Nat}{t e:TypeId}{cs:List Value}{y:DataW H×List MemPlace}{K:IntKind}
theorem rd_int(ht:P.underlying t=some (.int K))(h:DataW.trod enc P W 0 (fun _=>true) true fuel t cs=some y):∃n,cs=[.int K n]/\Vf K n:=by
 obtain⟨n,h1,h2,h3⟩:=DataW.trod_int ht h
 exact⟨n,h1,h3⟩
theorem rd_bool(ht:P.underlying t=some .bool)(h:DataW.trod enc P W 0 (fun _=>true) true fuel t cs=some y):∃b:Bool,cs=[.bool b]:=by
 obtain⟨n,h1,h2⟩:=DataW.trod_bool ht h
 exact⟨n,h1⟩
theorem qsw{a:Addr}{len cap:Nat}{zs:List Int}(hl:len<=cap)(hz:zs.length=cap)(hcell:∀i,i<zs.length->W.cell? (a.add i)=some (.int K (zs.getD i 0))):
 RelR (VB W) W (S 0 1 (LI K (zs.take len))) (.slice (some a) len cap):=by
 have hg:∀i,i<zs.length->zs.getD i 0=zs[i]?.getD 0:=fun i _=>qg
 have:=zb3 (W:=W) (a:=a) (n:=len) (cap:=cap) (sz:=1) (cs:=LI K (zs.take len)) (vs:=(zs.take len).map fun n=>.int K n) qe qi qg hl
  (fun i v hv=>by
   simp only[zne,zp5]at hv
   obtain⟨n,hn,rfl⟩:=hv
   have hi:i<(zs.take len).length:=(zm2.mp hn).1
   simp at hi
   rw[hcell i qe]
   rw[List.getElem?_take_of_lt qe]at hn
   simp[hn])
  (fun x hx=>by
   obtain⟨n,_,rfl⟩:=zns.mp hx
   rfl)
  (fun i x v hx hv=>by
   simp only[LI,zne,zp5]at hx hv
   obtain⟨n,hn,rfl⟩:=hx
   obtain⟨m,hm,rfl⟩:=hv
   rw[hn]at hm
   cases hm
   exact .sc _ rfl)
 exact this (fun _=>.fr)
theorem rd_ints(ht:P.underlying t=some (.slice e))(he:P.underlying e=some (.int K))(hc:P.cellsOf e=1)(h:DataW.trod enc P W 0 (fun _=>true) true fuel t cs=some y):
 ∃k l v,cs=[v]/\RelR (VB W) W (S k 1 (LI K l)) v/\(k=0\/(k=2/\l=[]))/\∀n∈l,Vf K n:=by
 rcases open_ints ht he hc h with⟨hcs,_⟩|⟨a,len,cap,zs,hcs,_,hl,hm,hz,_,hcell,hwz⟩
 ·exact⟨2,[],_,hcs,.sc nil0 rfl,.inr ⟨rfl,rfl⟩,qg⟩
 ·exact⟨0,zs.take len,_,hcs,qsw hl (by simpa using hz) hcell,.inl rfl,fun n hn=>hwz n (zof hn)⟩
theorem arg_agg{xs:List AV}{vs:List Value}(hl:xs.length=vs.length)(h:∀(i:Nat) (x:AV) (v:Value),xs[i]?=some x->vs[i]?=some v->RelR (VB W) W x v):Vn (VB W) W (.agg xs) (.agg vs.toArray):=
 fun p=>⟨vs,rfl,hl,fun i x v hx hv=>(h i x v hx hv).c (p i)⟩
theorem cells_nil:∀(i:Nat) (x:AV) (v:Value),([]:List AV)[i]?=some x->([]:List Value)[i]?=some v->RelR (VB W) W x v:=qg
theorem cells_cons{x:AV}{v:Value}{xs:List AV}{vs:List Value}(h:RelR (VB W) W x v)(t:∀(i:Nat) (x:AV) (v:Value),xs[i]?=some x->vs[i]?=some v->RelR (VB W) W x v):
 ∀(i:Nat) (y:AV) (u:Value),(x::xs)[i]?=some y->(v::vs)[i]?=some u->RelR (VB W) W y u:=by
 intro i y u hx hu
 cases i with
 |zero=>
  simp at hx hu
  subst hx hu
  exact h
 |succ i=>exact t i y u (by simpa using hx) (by simpa using hu)
end
theorem cell_at{l:List Value}{o n:Nat}{a:Value}(h:(l.drop o).take n=[a]):l[o]?=some a:=by
 have h0:((l.drop o).take n)[0]?=some a:=by rw[h];rfl
 have hn:0<n:=by
  cases n with
  |zero=>simp at h
  |succ n=>omega
 rw[List.getElem?_take_of_lt hn]at h0
 simpa using h0
theorem list_eq7{l:List Value}{a0 a1 a2 a3 a4 a5 a6:Value}(h:l.length=7)(h0:l[0]?=some a0) (h1:l[1]?=some a1) (h2:l[2]?=some a2) (h3:l[3]?=some a3) (h4:l[4]?=some a4) (h5:l[5]?=some a5) (h6:l[6]?=some a6):l=[a0,a1,a2,a3,a4,a5,a6]:=by
 apply zo1
 intro i
 match i with
 |0=>rw[h0];rfl
 |1=>rw[h1];rfl
 |2=>rw[h2];rfl
 |3=>rw[h3];rfl
 |4=>rw[h4];rfl
 |5=>rw[h5];rfl
 |6=>rw[h6];rfl
 |i+7=>rw[znq qe,znq qg]
end Go.Proofs.YtmajcennjgjlnaaGreat.AI
namespace Go.Proofs.YtmajcennjgjlnaaGreat.AI
open Go
set_option linter.unusedVariables false
set_option linter.unusedSimpArgs false
set_option maxRecDepth 100000
set_option maxHeartbeats 0
def xW(n:Nat):Nat->List Bool
 |0=>[]
 |k+1=>n.testBit k::xW n k
def una(n:Nat):List Bool:=List.replicate n true++[false]
def by8(l:List Bool)(s:Nat):Nat:=
 (l.getD s false).toNat*128+(l.getD (s+1) false).toNat*64+(l.getD (s+2) false).toNat*32+(l.getD (s+3) false).toNat*16
  +(l.getD (s+4) false).toNat*8+(l.getD (s+5) false).toNat*4+(l.getD (s+6) false).toNat*2+(l.getD (s+7) false).toNat
def pk(l:List Bool):List Int:=(List.range ((l.length+7)/8)).map fun i=>(by8 l (8*i):Int)
def yn(b:List Int)(i:Nat):Bool:=(b.getD (i/8) 0).toNat.testBit (7-i%8)
@[simp] theorem qgr (n k : Nat) : (xW n k).length = k := by
 induction k with
 |zero=>rfl
 |succ k ih=>simp[xW,ih]
@[simp] theorem Yw(n:Nat):(una n).length=n+1:=by simp[una]
@[simp] theorem zZ(l:List Bool):(pk l).length=(l.length+7)/8:=by simp[pk]
theorem qzg:pk []=[]:=rfl
theorem b2n(b:Bool):b.toNat<=1:=by cases b<;>decide
theorem qox(l:List Bool)(s:Nat):by8 l s<256:=by
 unfold by8
 have:=b2n (l.getD s false);have:=b2n (l.getD (s+1) false);have:=b2n (l.getD (s+2) false);have:=b2n (l.getD (s+3) false)
 have:=b2n (l.getD (s+4) false);have:=b2n (l.getD (s+5) false);have:=b2n (l.getD (s+6) false);have:=b2n (l.getD (s+7) false)
 omega
theorem qgf(l:List Bool)(i:Nat)(h:i<(l.length+7)/8):(pk l).getD i 0=(by8 l (8*i):Int):=by
 unfold pk
 rw[zmv,zne,zpg h]
 rfl
theorem Wx{l:List Bool}{x:Int}(h:x∈pk l):0<=x/\x<256:=by
 unfold pk at h
 obtain⟨i,_,rfl⟩:=zns.mp h
 have:=qox l (8*i)
 omega
theorem qkl(a b c d e f g h:Bool)(k:Nat)(hk:k<8):
 (a.toNat*128+b.toNat*64+c.toNat*32+d.toNat*16+e.toNat*8+f.toNat*4+g.toNat*2+h.toNat).testBit (7-k)=[a,b,c,d,e,f,g,h].getD k false:=by
 have:k=0\/k=1\/k=2\/k=3\/k=4\/k=5\/k=6\/k=7:=qe
 rcases this with r|r|r|r|r|r|r|r<;>subst r<;>revert a b c d e f g h<;>decide
theorem qks(l:List Bool)(i:Nat)(h:i<l.length):yn (pk l) i=l.getD i false:=by
 unfold yn
 rw[qgf l (i/8) qe,zm3]
 unfold by8
 rw[qkl _ _ _ _ _ _ _ _ _ qe]
 have hi:i=8*(i/8)+i%8:=qe
 generalize hq:8*(i/8)=q at*
 have:i%8=0\/i%8=1\/i%8=2\/i%8=3\/i%8=4\/i%8=5\/i%8=6\/i%8=7:=qe
 rcases this with r|r|r|r|r|r|r|r<;>(rw[r]at hi⊢;rw[hi];rfl)
theorem Xt(l:List Bool)(i:Nat)(h:l.length<=i):yn (pk l) i=false:=by
 unfold yn
 by_cases h1:i/8<(l.length+7)/8
 ·rw[qgf l (i/8) h1,zm3]
  unfold by8
  rw[qkl _ _ _ _ _ _ _ _ _ qe]
  have hi:i=8*(i/8)+i%8:=qe
  have hz:∀j,l.length<=j->l.getD j false=false:=fun j hj=>by
   rw[zmv,znq hj];rfl
  generalize hq:8*(i/8)=q at*
  have:i%8=0\/i%8=1\/i%8=2\/i%8=3\/i%8=4\/i%8=5\/i%8=6\/i%8=7:=qe
  rcases this with r|r|r|r|r|r|r|r<;>(rw[r]at hi⊢;rw[hi]at h;first|exact hz _ h|exact hz _ qe)
 ·rw[zmv,znq (by rw[zZ];omega)]
  exact Nat.zero_testBit _
theorem Jq(l:List Bool)(b:Bool)(j:Nat):(l++[b]).getD j false=if j<l.length then l.getD j false else if j=l.length then b else false:=by
 rw[zmv,zmv]
 by_cases h:j<l.length
 ·rw[if_pos h,znm h]
 ·rw[if_neg h,zni qe]
  by_cases h1:j=l.length
  ·simp[h1]
  ·rw[if_neg h1,znq qi];rfl
theorem qi8(l:List Bool):pk (l++[false])=if l.length%8=0 then pk l++[0]else pk l:=by
 have hb:∀s,by8 (l++[false]) s=by8 l s:=by
  intro s
  have hg:∀j,(l++[false]).getD j false=l.getD j false:=by
   intro j
   rw[Jq]
   by_cases h:j<l.length
   ·rw[if_pos h]
   ·rw[if_neg h]
    have:l.getD j false=false:=by rw[zmv,znq qe];rfl
    rw[this];simp
  unfold by8
  simp only[hg]
 unfold pk
 simp only[hb,zmt,zm5]
 by_cases h:l.length%8=0
 ·rw[if_pos h]
  have e:(l.length+1+7)/8=(l.length+7)/8+1:=qe
  have e2:8*((l.length+7)/8)=l.length:=qe
  rw[e,List.range_succ,List.map_append]
  congr 1
  simp only[zn0,zpn,e2]
  have hz:∀j,l.getD (l.length+j) false=false:=fun j=>by
   rw[zmv,znq qe];rfl
  have hz0:=hz 0
  rw[zoi]at hz0
  unfold by8
  simp only[hz,hz0]
  rfl
 ·rw[if_neg h]
  have e:(l.length+1+7)/8=(l.length+7)/8:=qe
  rw[e]
theorem zev(l:List Bool):pk (l++[true])=(pk (l++[false])).set (l.length/8) (by8 (l++[true]) (8*(l.length/8)):Int):=by
 apply zo1
 intro i
 rw[zp7]
 by_cases hi:i<(l.length+1+7)/8
 ·have e:∀b,(pk (l++[b]))[i]?=some (by8 (l++[b]) (8*i):Int):=by
   intro b
   unfold pk
   rw[zne,zpg (by simpa using hi)]
   rfl
  rw[e,e,zZ,zmt,zm5]
  by_cases h1:l.length/8=i
  ·rw[if_pos h1,if_pos qe,h1]
  ·rw[if_neg h1]
   have hg:∀j,j<8->(l++[true]).getD (8*i+j) false=(l++[false]).getD (8*i+j) false:=by
    intro j hj
    rw[Jq,Jq]
    have:8*i+j≠l.length:=qe
    simp[this]
   have h0:=hg 0 qe
   rw[zoi]at h0
   unfold by8
   rw[h0,hg 1 qe,hg 2 qe,hg 3 qe,hg 4 qe,hg 5 qe,hg 6 qe,hg 7 qe]
 ·have e:∀b,(pk (l++[b]))[i]?=none:=by
   intro b
   rw[znq]
   rw[zZ,zmt,zm5]
   omega
  rw[e,e,zZ,zmt,zm5]
  by_cases h1:l.length/8=i
  ·omega
  ·rw[if_neg h1]
theorem zjv(l:List Bool):(BitVec.ofNat 8 (by8 (l++[false]) (8*(l.length/8)))|||BitVec.ofNat 8 (2^(7-l.length%8))).toNat=by8 (l++[true]) (8*(l.length/8)):=by
 have hi:l.length=8*(l.length/8)+l.length%8:=qe
 unfold by8
 simp only[Jq]
 generalize hq:8*(l.length/8)=q at*
 have hr:l.length%8=0\/l.length%8=1\/l.length%8=2\/l.length%8=3\/l.length%8=4\/l.length%8=5\/l.length%8=6\/l.length%8=7:=qe
 generalize l.getD q false=a0
 generalize l.getD (q+1) false=a1
 generalize l.getD (q+2) false=a2
 generalize l.getD (q+3) false=a3
 generalize l.getD (q+4) false=a4
 generalize l.getD (q+5) false=a5
 generalize l.getD (q+6) false=a6
 generalize l.getD (q+7) false=a7
 generalize l.length%8=r at*
 rw[hi]
 rcases hr with e|e|e|e|e|e|e|e<;>subst e<;>simp[show∀j,¬(q+j<q)from fun j=>qe]
 ·cases a0<;>rfl
 ·cases a0<;>cases a1<;>rfl
 ·cases a0<;>cases a1<;>cases a2<;>rfl
 ·cases a0<;>cases a1<;>cases a2<;>cases a3<;>rfl
 ·cases a0<;>cases a1<;>cases a2<;>cases a3<;>cases a4<;>rfl
 ·cases a0<;>cases a1<;>cases a2<;>cases a3<;>cases a4<;>cases a5<;>rfl
 ·cases a0<;>cases a1<;>cases a2<;>cases a3<;>cases a4<;>cases a5<;>cases a6<;>rfl
end Go.Proofs.YtmajcennjgjlnaaGreat.AI
namespace Go.Proofs.YtmajcennjgjlnaaGreat.AI
set_option linter.unusedVariables false
set_option linter.unusedSimpArgs false
def mrg:List Int->List Int->List Int
 |[],b=>b
 |a,[]=>a
 |x::a,y::b=>if x<y then x::mrg a (y::b)else if y<x then y::mrg (x::a) b else x::mrg a b
termination_by a b=>a.length+b.length
@[simp] theorem Jj(b:List Int):mrg [] b=b:=by unfold mrg;rfl
@[simp] theorem XX(a:List Int):mrg a []=a:=by cases a<;>(unfold mrg;rfl)
theorem zV(x:Int)(a:List Int)(y:Int)(b:List Int):mrg (x::a) (y::b)=if x<y then x::mrg a (y::b)else if y<x then y::mrg (x::a) b else x::mrg a b:=by
 rw[mrg]
theorem Vu{motive:List Int->List Int->Prop}(h1:∀b,motive [] b)(h2:∀a,motive a [])(h3:∀x a y b,x<y->motive a (y::b)->motive (x::a) (y::b))
 (h4:∀x a y b,y<x->motive (x::a) b->motive (x::a) (y::b)) (h5:∀x a b,motive a b->motive (x::a) (x::b)):∀a b,motive a b:=by
 intro a b
 generalize hn:a.length+b.length=n
 induction n using Nat.strongRecOn generalizing a b with
 |_ n ih=>
  cases a with
  |nil=>exact h1 b
  |cons x a=>
   cases b with
   |nil=>exact h2 _
   |cons y b=>
    by_cases hxy:x<y
    ·exact h3 x a y b hxy (ih (a.length+(y::b).length) (by simp at hn⊢;omega) _ _ rfl)
    ·by_cases hyx:y<x
     ·exact h4 x a y b hyx (ih ((x::a).length+b.length) (by simp at hn⊢;omega) _ _ rfl)
     ·have:x=y:=qe
      subst this
      exact h5 x a b (ih (a.length+b.length) (by simp at hn⊢;omega) _ _ rfl)
theorem xt(n:Int):∀a b,n∈mrg a b↔n∈a\/n∈b:=by
 apply Vu
 ·intro b;simp
 ·intro a;simp
 ·intro x a y b h ih
  rw[zV,if_pos h,zmy,ih,zmy,zmy]
  constructor
  ·rintro(h|h|h|h)
   ·exact .inl (.inl h)
   ·exact .inl (.inr h)
   ·exact .inr (.inl h)
   ·exact .inr (.inr h)
  ·rintro((h|h)|(h|h))
   ·exact .inl h
   ·exact .inr (.inl h)
   ·exact .inr (.inr (.inl h))
   ·exact .inr (.inr (.inr h))
 ·intro x a y b h ih
  rw[zV,if_neg qe,if_pos h,zmy,ih,zmy,zmy]
  constructor
  ·rintro(h|(h|h)|h)
   ·exact .inr (.inl h)
   ·exact .inl (.inl h)
   ·exact .inl (.inr h)
   ·exact .inr (.inr h)
  ·rintro((h|h)|(h|h))
   ·exact .inr (.inl (.inl h))
   ·exact .inr (.inl (.inr h))
   ·exact .inl h
   ·exact .inr (.inr h)
 ·intro x a b ih
  rw[zV,if_neg qe,if_neg qe,zmy,ih,zmy,zmy]
  constructor
  ·rintro(h|h|h)
   ·exact .inl (.inl h)
   ·exact .inl (.inr h)
   ·exact .inr (.inr h)
  ·rintro((h|h)|(h|h))
   ·exact .inl h
   ·exact .inr (.inl h)
   ·exact .inl h
   ·exact .inr (.inr h)
abbrev yo(l:List Int):Prop:=l.Pairwise (·<·)
theorem xn:∀a b,yo a->yo b->yo (mrg a b):=by
 apply Vu (motive:=fun a b=>yo a->yo b->yo (mrg a b))
 ·intro b _ h;simpa using h
 ·intro a h _;simpa using h
 ·intro x a y b h ih ha hb
  rw[zV,if_pos h]
  have ha:=zm1.mp ha
  refine zm1.mpr ⟨fun n hn=>?_,ih ha.2 hb⟩
  rcases(xt n a (y::b)).mp hn with h'|h'
  ·exact ha.1 n h'
  ·rcases zmy.mp h' with rfl|h'
   ·exact h
   ·have:=(zm1.mp hb).1 n h';omega
 ·intro x a y b h ih ha hb
  rw[zV,if_neg qe,if_pos h]
  have hb':=zm1.mp hb
  refine zm1.mpr ⟨fun n hn=>?_,ih ha hb'.2⟩
  rcases(xt n (x::a) b).mp hn with h'|h'
  ·rcases zmy.mp h' with rfl|h'
   ·exact h
   ·have:=(zm1.mp ha).1 n h';omega
  ·exact hb'.1 n h'
 ·intro x a b ih ha hb
  rw[zV,if_neg qe,if_neg qe]
  have ha':=zm1.mp ha
  have hb':=zm1.mp hb
  refine zm1.mpr ⟨fun n hn=>?_,ih ha'.2 hb'.2⟩
  rcases(xt n a b).mp hn with h'|h'
  ·exact ha'.1 n h'
  ·exact hb'.1 n h'
theorem YX:∀a b,(mrg a b).length<=a.length+b.length:=by
 apply Vu (motive:=fun a b=>(mrg a b).length<=a.length+b.length)
 ·intro b;simp
 ·intro a;simp
 ·intro x a y b h ih
  rw[zV,if_pos h];simp at ih⊢;omega
 ·intro x a y b h ih
  rw[zV,if_neg qe,if_pos h];simp at ih⊢;omega
 ·intro x a b ih
  rw[zV,if_neg qe,if_neg qe];simp at ih⊢;omega
theorem YM:∀{a b:List Int},yo a->yo b->(∀n,n∈a↔n∈b)->a=b
 |[],[],_,_,_=>rfl
 |[],y::b,_,_,h=>absurd ((h y).mpr qg) qg
 |x::a,[],_,_,h=>absurd ((h x).mp qg) qg
 |x::a,y::b,ha,hb,h=>by
  have ha':=zm1.mp ha
  have hb':=zm1.mp hb
  have hxy:x=y:=by
   have h1:=zmy.mp ((h x).mp qg)
   have h2:=zmy.mp ((h y).mpr qg)
   rcases h1 with h1|h1
   ·exact h1
   ·rcases h2 with h2|h2
    ·exact h2.symm
    ·have:=ha'.1 y h2
     have:=hb'.1 x h1
     omega
  subst hxy
  congr 1
  refine YM ha'.2 hb'.2 fun n=>?_
  have:=h n
  constructor
  ·intro hn
   have hlt:=ha'.1 n hn
   rcases zmy.mp (this.mp (zo7 _ hn))with rfl|h'
   ·omega
   ·exact h'
  ·intro hn
   have hlt:=hb'.1 n hn
   rcases zmy.mp (this.mpr (zo7 _ hn))with rfl|h'
   ·omega
   ·exact h'
theorem YV{a:List Int}(ha:yo a):mrg a a=a:=
 YM (xn _ _ ha ha) ha fun n=>by rw[xt];exact or_self_iff
theorem zfg{a b:List Int}(ha:yo a)(hb:yo b)(h:∀n∈b,n∈a):mrg a b=a:=
 YM (xn _ _ ha hb) ha fun n=>by rw[xt];exact⟨fun h'=>h'.elim id (h n),.inl⟩
end Go.Proofs.YtmajcennjgjlnaaGreat.AI
namespace Go.Proofs.YtmajcennjgjlnaaGreat.AI
set_option linter.unusedVariables false
set_option linter.unusedSimpArgs false
theorem qxs:∀(A B:List Int) (k m n:Nat),k<=m->k<=n->(mrg (A.take m) (B.take n)).take k=(mrg A B).take k:=by
 apply Vu (motive:=fun A B=>∀(k m n:Nat),k<=m->k<=n->(mrg (A.take m) (B.take n)).take k=(mrg A B).take k)
 ·intro b k m n hm hn
  rw[zqu,Jj,Jj,zq9,zpo hn]
 ·intro a k m n hm hn
  rw[zqu,XX,XX,zq9,zpo hm]
 ·intro x a y b h ih k m n hm hn
  match k,m,n,hm,hn with
  |0,_,_,_,_=>simp
  |k+1,m+1,n+1,hm,hn=>
   have:=ih k m (n+1) qe qe
   rw[zna]at this
   rw[zna,zna,zV,zV,if_pos h,if_pos h,zna,zna,this]
 ·intro x a y b h ih k m n hm hn
  match k,m,n,hm,hn with
  |0,_,_,_,_=>simp
  |k+1,m+1,n+1,hm,hn=>
   have n1:¬x<y:=qe
   have:=ih k (m+1) n qe qe
   rw[zna]at this
   rw[zna,zna,zV,zV,if_neg n1,if_pos h,if_neg n1,if_pos h,zna,zna,this]
 ·intro x a b ih k m n hm hn
  match k,m,n,hm,hn with
  |0,_,_,_,_=>simp
  |k+1,m+1,n+1,hm,hn=>
   have n1:¬x<x:=qe
   have:=ih k m n qe qe
   rw[zna,zna,zV,zV,if_neg n1,if_neg n1,if_neg n1,if_neg n1,zna,zna,this]
theorem qmi(A B:List Int)(k:Nat):(mrg (A.take k) B).take k=(mrg A B).take k:=by
 have h:=qxs A B k k (k+B.length) qe qe
 rwa [znr (by omega:B.length<=k+B.length)]at h
theorem qco{l:List Int}(k:Nat)(h:yo l):yo (l.take k):=List.Pairwise.sublist (zqq k l) h
def KH(acc:List Int):List Int->List Int
 |[]=>acc
 |n::r=>KH (mrg acc [n]) r
theorem VT:∀(r:List Int) {acc:List Int},yo acc->yo (KH acc r)
 |[],_,h=>h
 |n::r,_,h=>VT r (xn _ _ h qg)
theorem qgw(x:Int):∀(r acc:List Int),x∈KH acc r↔x∈acc\/x∈r
 |[],acc=>by simp[KH]
 |n::r,acc=>by
  rw[KH,qgw x r,xt]
  simp[or_assoc]
def ZH(K:Nat)(acc:List Int):List Int->List Int
 |[]=>acc
 |n::r=>ZH K ((mrg acc [n]).take K) r
theorem qjt(K:Nat):∀(r acc:List Int),ZH K (acc.take K) r=(KH acc r).take K
 |[],acc=>rfl
 |n::r,acc=>by
  rw[ZH,qmi,qjt K r,KH]
theorem qg1(K:Nat)(r:List Int):ZH K [] r=(KH [] r).take K:=by
 simpa using qjt K r []
theorem qtz(K:Nat)(a:List Int):yo (ZH K [] a):=by rw[qg1];exact qco K (VT a List.Pairwise.nil)
theorem zal(K:Nat)(a:List Int):(ZH K [] a).length<=K:=by rw[qg1,zny];omega
theorem zac{K:Nat}{a:List Int}{x:Int}(h:x∈ZH K [] a):x∈a:=by
 rw[qg1]at h
 have:=(qgw x a []).mp (zof h)
 simpa using this
end Go.Proofs.YtmajcennjgjlnaaGreat.AI
namespace Go.Proofs.YtmajcennjgjlnaaGreat.AI
open Ieee
set_option linter.unusedVariables false
set_option linter.unusedSimpArgs false
def yQ(x:Nat):Prop:=9218868437227405312<x%9223372036854775808
instance (x : Nat) : Decidable (yQ x) := by unfold yQ; infer_instance
def jl(x:Nat):Int:=if x/9223372036854775808%2=1 then -((x%9223372036854775808:Nat):Int)else((x%9223372036854775808:Nat):Int)
def yM(r:Nat):Nat:=if r<4503599627370496 then r else(4503599627370496+r%4503599627370496)*2^(r/4503599627370496-1)
theorem Vy{a b:Nat}(h:a<b):yM a<yM b:=by
 unfold yM
 by_cases ha:a<4503599627370496
 ·rw[if_pos ha]
  by_cases hb:b<4503599627370496
  ·rw[if_pos hb];exact h
  ·rw[if_neg hb]
   have h1:1<=2^(b/4503599627370496-1):=Nat.one_le_two_pow
   have h2:=zno (zmx (4503599627370496+b%4503599627370496)) h1
   omega
 ·have hb:¬b<4503599627370496:=qe
  rw[if_neg ha,if_neg hb]
  by_cases hq:a/4503599627370496=b/4503599627370496
  ·rw[hq]
   have hr:a%4503599627370496<b%4503599627370496:=qe
   exact zqa qe (zo4 _)
  ·have hq':a/4503599627370496<b/4503599627370496:=qe
   have h1:(4503599627370496+a%4503599627370496)*2^(a/4503599627370496-1)<(2*4503599627370496)*2^(a/4503599627370496-1):=by
    have:a%4503599627370496<4503599627370496:=zpt _ qe
    exact zqa qe (zo4 _)
   have h2:2^(a/4503599627370496-1)*2=2^(a/4503599627370496):=by
    rw[<-Nat.pow_succ]
    congr 1
    omega
   have h3:2^(a/4503599627370496)<=2^(b/4503599627370496-1):=znv qe qe
   have h4:4503599627370496*2^(b/4503599627370496-1)<=(4503599627370496+b%4503599627370496)*2^(b/4503599627370496-1):=zno qe (zmx _)
   have h5:(2*4503599627370496)*2^(a/4503599627370496-1)=4503599627370496*2^(a/4503599627370496):=by
    rw[<-h2];generalize 2^(a/4503599627370496-1)=z;omega
   have h6:=zno (zmx 4503599627370496) h3
   omega
theorem WI{a b:Nat}(h:yM a=yM b):a=b:=by
 rcases Nat.lt_trichotomy a b with h'|h'|h'
 ·have:=Vy h';omega
 ·exact h'
 ·have:=Vy h';omega
theorem qgx:yM 0=0:=rfl
theorem kR(a b:Int):compare a b=if a<b then .lt else if a=b then .eq else .gt:=rfl
theorem quq(a b:Int){c:Int}(hc:0<c):compare a b=compare (a*c) (b*c):=by
 rw[kR,kR]
 have h1:a*c<b*c↔a<b:=Int.mul_lt_mul_right hc
 have h2:a*c=b*c↔a=b:=⟨fun h=>Int.eq_of_mul_eq_mul_right qe h,fun h=>by rw[h]⟩
 simp only[h1,h2]
theorem YQ{x:Nat}(h:x%9223372036854775808<9218868437227405312):∃(m i:Nat),double.read x= .number (x/9223372036854775808%2==1) m (-1074+i)/\m*2^i=yM (x%9223372036854775808):=by
 have e1:double.signWeight=9223372036854775808:=qh
 have e2:double.binade=4503599627370496:=qh
 have e3:double.infRung=9218868437227405312:=qh
 have e4:double.leastPlace=-1074:=qh
 unfold Format.read
 simp only[e1,e2,e3,e4]
 unfold yM
 by_cases hb:x%9223372036854775808<4503599627370496
 ·rw[if_pos hb,if_pos hb]
  exact⟨_,0,rfl,qg⟩
 ·rw[if_neg hb,if_neg hb,if_pos h]
  exact⟨_,_,rfl,rfl⟩
theorem YP{x:Nat}(h:x%9223372036854775808=9218868437227405312):double.read x= .infinity (x/9223372036854775808%2==1):=by
 have e1:double.signWeight=9223372036854775808:=qh
 have e2:double.binade=4503599627370496:=qh
 have e3:double.infRung=9218868437227405312:=qh
 unfold Format.read
 simp only[e1,e2,e3]
 rw[if_neg qe,if_neg qe,if_pos h]
theorem qi1{x:Nat}(h:yQ x):∃s t,double.read x= .nan s t:=by
 unfold yQ at h
 have e1:double.signWeight=9223372036854775808:=qh
 have e2:double.binade=4503599627370496:=qh
 have e3:double.infRung=9218868437227405312:=qh
 unfold Format.read
 simp only[e1,e2,e3]
 rw[if_neg qe,if_neg qe,if_neg qe]
 exact⟨_,_,rfl⟩
theorem Zw{x y:Nat}(h:yQ x):double.order x y=none:=by
 obtain⟨s,t,e⟩:=qi1 h
 unfold Format.order
 rw[e]
 rfl
theorem Zv{x y:Nat}(h:yQ y):double.order x y=none:=by
 obtain⟨s,t,e⟩:=qi1 h
 unfold Format.order
 rw[e]
 cases double.read x<;>rfl
def sg(s:Bool)(m:Int):Int:=if s then -m else m
theorem zjq(s t:Bool)(a b:Nat):compare (sg s (yM a)) (sg t (yM b))=compare (sg s (a:Int)) (sg t (b:Int)):=by
 have h1:yM a<yM b↔a<b:=by
  constructor
  ·intro h
   rcases Nat.lt_trichotomy a b with h'|h'|h'
   ·exact h'
   ·subst h';omega
   ·have:=Vy h';omega
  ·exact Vy
 have h2:yM a=yM b↔a=b:=⟨WI,fun h=>by rw[h]⟩
 have h3:yM a=0↔a=0:=⟨fun h=>WI (b:=0) (by rw[h,qgx]),fun h=>by rw[h,qgx]⟩
 have h4:yM b=0↔b=0:=⟨fun h=>WI (b:=0) (by rw[h,qgx]),fun h=>by rw[h,qgx]⟩
 rw[kR,kR]
 cases s<;>cases t<;>simp only[sg,if_true,if_false,zob]
 ·have c1:((yM a:Nat):Int)<(yM b:Nat)↔(a:Int)<b:=qe
  have c2:((yM a:Nat):Int)=(yM b:Nat)↔(a:Int)=b:=qe
  simp only[c1,c2]
 ·have c1:((yM a:Nat):Int)< -(yM b:Nat)↔(a:Int)< -(b:Int):=qe
  have c2:((yM a:Nat):Int)=-(yM b:Nat)↔(a:Int)=-(b:Int):=qe
  simp only[c1,c2]
 ·have c1:-((yM a:Nat):Int)<(yM b:Nat)↔-(a:Int)<(b:Int):=qe
  have c2:-((yM a:Nat):Int)=(yM b:Nat)↔-(a:Int)=(b:Int):=qe
  simp only[c1,c2]
 ·have c1:-((yM a:Nat):Int)< -(yM b:Nat)↔-(a:Int)< -(b:Int):=qe
  have c2:-((yM a:Nat):Int)=-(yM b:Nat)↔-(a:Int)=-(b:Int):=qe
  simp only[c1,c2]
theorem wv(x:Nat):jl x=sg (x/9223372036854775808%2==1) ((x%9223372036854775808:Nat):Int):=by
 unfold jl sg
 by_cases h:x/9223372036854775808%2=1<;>simp[h]
theorem qb1(s:Bool)(m k:Nat):Ieee.signed s m k=sg s ((m*2^k:Nat):Int):=by
 unfold Ieee.signed sg
 rw[Nat.shiftLeft_eq]
 try (cases s<;>rfl)
theorem qs9{x y:Nat}(hx:x%9223372036854775808<9218868437227405312)(hy:y%9223372036854775808<9218868437227405312):double.order x y=some (compare (jl x) (jl y)):=by
 obtain⟨m,i,e1,e2⟩:=YQ hx
 obtain⟨n,j,f1,f2⟩:=YQ hy
 unfold Format.order
 rw[e1,f1]
 simp only[Datum.order]
 rw[wv,wv,<-zjq,<-e2,<-f2,qb1,qb1]
 congr 1
 have hc:(0:Int)<((2^(min i j):Nat):Int):=by have:=zo4 (min i j);omega
 rw[quq _ _ hc]
 have p1:(-1074+(i:Int)-min (-1074+(i:Int)) (-1074+(j:Int))).toNat+min i j=i:=qe
 have p2:(-1074+(j:Int)-min (-1074+(i:Int)) (-1074+(j:Int))).toNat+min i j=j:=qe
 have q:∀(s:Bool) (m k c:Nat),sg s ((m*2^k:Nat):Int)*((2^c:Nat):Int)=sg s ((m*2^(k+c):Nat):Int):=by
  intro s m k c
  rw[zpj,<-Nat.mul_assoc]
  cases s
  ·simp only[sg,zob,if_false];rw[<-Int.natCast_mul]
  ·simp only[sg,if_true];rw[Int.neg_mul,<-Int.natCast_mul]
 rw[q,q,p1,p2]
theorem XU{x y:Nat}(hx:¬yQ x)(hy:¬yQ y):double.order x y=some (compare (jl x) (jl y)):=by
 unfold yQ at hx hy
 by_cases ix:x%9223372036854775808=9218868437227405312
 ·by_cases iy:y%9223372036854775808=9218868437227405312
  ·unfold Format.order
   rw[YP ix,YP iy]
   simp only[Datum.order]
   rw[wv,wv,ix,iy]
   cases(x/9223372036854775808%2==1)<;>cases(y/9223372036854775808%2==1)<;>decide
  ·obtain⟨n,j,f1,f2⟩:=YQ (x:=y) qe
   unfold Format.order
   rw[YP ix,f1]
   simp only[Datum.order]
   rw[wv,wv,ix,kR]
   generalize y%9223372036854775808=r at*
   cases(x/9223372036854775808%2==1)<;>cases(y/9223372036854775808%2==1)<;>simp only[sg,if_true,if_false,zob]
   ·rw[if_neg qe,if_neg qe]
   ·rw[if_neg qe,if_neg qe]
   ·rw[if_pos qe]
   ·rw[if_pos qe]
 ·by_cases iy:y%9223372036854775808=9218868437227405312
  ·obtain⟨n,j,f1,f2⟩:=YQ (x:=x) qe
   unfold Format.order
   rw[YP iy,f1]
   simp only[Datum.order]
   rw[wv,wv,iy,kR]
   generalize x%9223372036854775808=r at*
   cases(x/9223372036854775808%2==1)<;>cases(y/9223372036854775808%2==1)<;>simp only[sg,if_true,if_false,zob]
   ·rw[if_pos qe]
   ·rw[if_neg qe,if_neg qe]
   ·rw[if_pos qe]
   ·rw[if_neg qe,if_neg qe]
  ·exact qs9 qe qe
theorem zjh(x y:Nat):(double.order x y==some .eq)=decide (¬yQ x/\¬yQ y/\jl x=jl y):=by
 by_cases hx:yQ x
 ·rw[Zw hx];simp[hx]
 ·by_cases hy:yQ y
  ·rw[Zv hy];simp[hy]
  ·rw[XU hx hy,kR]
   rcases zrg (jl x) (jl y)with h|h|h
   ·have:¬(jl x=jl y):=qe
    simp[hx,hy,h,this]
   ·have:¬(jl x<jl y):=qe
    simp[hx,hy,h]
   ·have h1:¬(jl x<jl y):=qe
    have h2:¬(jl x=jl y):=qe
    simp[hx,hy,h1,h2]
theorem f_lt(x y:Nat):(double.order x y==some .lt)=decide (¬yQ x/\¬yQ y/\jl x<jl y):=by
 by_cases hx:yQ x
 ·rw[Zw hx];simp[hx]
 ·by_cases hy:yQ y
  ·rw[Zv hy];simp[hy]
  ·rw[XU hx hy,kR]
   rcases zrg (jl x) (jl y)with h|h|h
   ·simp[hx,hy,h]
   ·have:¬(jl x<jl y):=qe
    simp[hx,hy,h]
   ·have h1:¬(jl x<jl y):=qe
    have h2:¬(jl x=jl y):=qe
    simp[hx,hy,h1,h2]
theorem f_gt(x y:Nat):(double.order x y==some .gt)=decide (¬yQ x/\¬yQ y/\jl y<jl x):=by
 by_cases hx:yQ x
 ·rw[Zw hx];simp[hx]
 ·by_cases hy:yQ y
  ·rw[Zv hy];simp[hy]
  ·rw[XU hx hy,kR]
   rcases zrg (jl x) (jl y)with h|h|h
   ·have h1:¬(jl y<jl x):=qe
    simp[hx,hy,h,h1]
   ·have:¬(jl y<jl x):=qe
    simp[hx,hy,h]
   ·have h1:¬(jl x<jl y):=qe
    have h2:¬(jl x=jl y):=qe
    simp[hx,hy,h1,h2,h]
end Go.Proofs.YtmajcennjgjlnaaGreat.AI
namespace Go.Proofs.YtmajcennjgjlnaaGreat.AI
open Go
set_option linter.unusedVariables false
set_option linter.unusedSimpArgs false
set_option maxRecDepth 100000
set_option maxHeartbeats 0
theorem qus(n:Nat)(h:n<9223372036854775808):(BitVec.ofInt 64 (n:Int)|||BitVec.ofInt 64 9223372036854775808).toNat=n+9223372036854775808:=by
 rw[zpd,znh,znh]
 have e1:(((n:Int)%((2^64:Nat):Int)).toNat)=n:=qe
 have e2:(((9223372036854775808:Int)%((2^64:Nat):Int)).toNat)=2^63*1:=qh
 rw[e1,e2,Nat.or_comm,<-Nat.two_pow_add_eq_or_of_lt (by simpa using h)]
 omega
theorem qbp(n:Nat)(h:n<9223372036854775808):(BitVec.ofInt 64 (n:Int)&&&BitVec.ofInt 64 9223372036854775808).toNat=0:=by
 rw[zpr,znh,znh]
 have e1:(((n:Int)%((2^64:Nat):Int)).toNat)=n:=qe
 have e2:(((9223372036854775808:Int)%((2^64:Nat):Int)).toNat)=2^63:=qh
 rw[e1,e2]
 apply zn5
 intro i
 rw[zql,zn6,Nat.zero_testBit]
 by_cases hi:63=i
 ·subst hi
  rw[zp6 (by simpa using h)]
  rfl
 ·simp[hi]
theorem qbq(n:Nat)(h:9223372036854775808<=n)(h':n<18446744073709551616):(BitVec.ofInt 64 (n:Int)&&&BitVec.ofInt 64 9223372036854775808).toNat=9223372036854775808:=by
 rw[zpr,znh,znh]
 have e1:(((n:Int)%((2^64:Nat):Int)).toNat)=n:=qe
 have e2:(((9223372036854775808:Int)%((2^64:Nat):Int)).toNat)=2^63:=qh
 have e3:(9223372036854775808:Nat)=2^63:=qh
 rw[e1,e2]
 conv=>rhs;rw[e3]
 obtain⟨m,rfl⟩:∃m,n=2^63*1+m:=⟨n-2^63,qe⟩
 rw[zpe qe]
 apply zn5
 intro i
 rw[zql,znt,zom,zn6]
 by_cases hi:63=i
 ·subst hi;simp
 ·simp[hi]
theorem qhd(n:Nat)(h':n<18446744073709551616):(BitVec.ofInt 64 (n:Int)&&&~~~(BitVec.ofInt 64 9223372036854775808)).toNat=n%9223372036854775808:=by
 have e2:(~~~(BitVec.ofInt 64 9223372036854775808)).toNat=2^63-1:=qh
 rw[zpr,znh,e2,zpp]
 have e1:(((n:Int)%((2^64:Nat):Int)).toNat)=n:=qe
 rw[e1]
def kw(w:Nat):Nat:=if yQ w then 18444492273895866369 else if w<9223372036854775808 then w+9223372036854775808 else 18446744073709551615-w
def wk(k:Nat):Nat:=if k<9223372036854775808 then 18446744073709551615-k else k-9223372036854775808
def qz5(k:Nat):Bool:=decide (kw (wk k)=k)
theorem Qg(w:Nat)(h:w<18446744073709551616):kw w<18446744073709551616:=by
 unfold kw;repeat' split
 all_goals omega
theorem qbv(k:Nat)(h:k<18446744073709551616):wk k<18446744073709551616:=by
 unfold wk;split<;>omega
theorem zk8{w:Nat}(h:w<18446744073709551616)(hn:¬yQ w):wk (kw w)=w:=by
 unfold kw
 rw[if_neg hn]
 unfold wk
 repeat' split
 all_goals omega
theorem qjs(w:Nat)(h:w<18446744073709551616):kw (wk (kw w))=kw w:=by
 by_cases hn:yQ w
 ·unfold kw
  rw[if_pos hn]
  decide
 ·rw[zk8 h hn]
def wj(w:Nat):Int:=if yQ w then 6 else if w=9218868437227405312 then 5 else if w=18442240474082181120 then 0 else if w=9223372036854775808 then 2 else if w=0 then 3 else if w<9223372036854775808 then 4 else 1
def KW(a b:Nat):Bool:=decide (¬yQ a/\¬yQ b/\jl a<jl b)
end Go.Proofs.YtmajcennjgjlnaaGreat.AI
namespace Go.Proofs.YtmajcennjgjlnaaGreat.AI
set_option linter.unusedVariables false
set_option linter.unusedSimpArgs false
def Bl(x n:Nat):Prop:=x<2^n/\(n=0\/2^(n-1)<=x)
theorem Bl.up{x k n:Nat}(h:Bl (x/2^k) n)(hx:2^k<=x):Bl x (n+k):=by
 obtain⟨h1,h2⟩:=h
 have hp:=zo4 k
 have hn:n≠0:=by
  intro e
  subst e
  have:1<=x/2^k:=(Nat.one_le_div_iff hp).mpr hx
  simp at h1
  omega
 refine⟨?_,.inr ?_⟩
 ·rw[zpj]
  exact(Nat.div_lt_iff_lt_mul hp).mp h1
 ·have h3:=h2.resolve_left hn
  rw[show n+k-1=(n-1)+k by omega,zpj]
  exact(zpz hp).mp h3
end Go.Proofs.YtmajcennjgjlnaaGreat.AI
namespace Go.Proofs.YtmajcennjgjlnaaGreat.AI
set_option linter.unusedVariables false
set_option linter.unusedSimpArgs false
def uv(n:Nat):List Int:=if h:n<128 then [(n:Int)]else((n%128+128:Nat):Int)::uv (n/128)
termination_by n
decreasing_by omega
theorem KE{n:Nat}(h:n<128):uv n=[(n:Int)]:=by rw[uv];simp[h]
theorem VM{n:Nat}(h:¬(n<128)):uv n=((n%128+128:Nat):Int)::uv (n/128):=by rw[uv];simp[h]
theorem zk9(n:Nat):uv n≠[]:=by
 by_cases h:n<128
 ·rw[KE h];simp
 ·rw[VM h];simp
theorem zla:∀(n:Nat) (x:Int),x∈uv n->0<=x/\x<256:=by
 intro n
 induction n using Nat.strongRecOn with
 |_ n ih=>
  intro x hx
  by_cases h:n<128
  ·rw[KE h]at hx;simp at hx;omega
  ·rw[VM h]at hx
   rcases zmy.mp hx with rfl|hx
   ·omega
   ·exact ih (n/128) qe x hx
theorem zho:∀(k n:Nat),n<128^(k+1)->(uv n).length<=k+1:=by
 intro k
 induction k with
 |zero=>intro n h;rw[KE qe];simp
 |succ k ih=>
  intro n h
  by_cases h1:n<128
  ·rw[KE h1];simp
  ·rw[VM h1]
   have:n/128<128^(k+1):=Nat.div_lt_of_lt_mul (by rw[zoo]at h;omega)
   have:=ih _ this
   simp only[zmu];omega
theorem qE{n:Nat}(h:n<18446744073709551616):(uv n).length<=10:=zho 9 n (znc h qh)
def gU:List Int->Nat->Nat->Nat->Nat×Nat×Int
 |[],_,_,u=>(0,u,3)
 |c::r,s,n,u=>
  if(s=63/\1<c)\/(0<s/\c=0)then(0,u+1,4)
  else if c<128 then(n+c.toNat*2^s,u+1,0)
  else gU r (s+7) (n+(c.toNat-128)*2^s) (u+1)
theorem zlx:∀(k m:Nat) (rest:List Int) (s n u:Nat),s=7*k->k<=9->m*2^s<18446744073709551616->(0<s->m≠0)->
 gU (uv m++rest) s n u=(n+m*2^s,u+(uv m).length,0):=by
 intro k m
 induction m using Nat.strongRecOn generalizing k with
 |_ m ih=>
  intro rest s n u hs hk hm hz
  have h63:s=63->m<2:=by
   intro e;rw[e]at hm
   have:(2:Nat)^63=9223372036854775808:=rfl
   rw[this]at hm;omega
  by_cases h:m<128
  ·rw[KE h]
   simp only[zol,znn]
   unfold gU
   rw[if_neg (by
    rintro(⟨h1,h2⟩|⟨h1,h2⟩)
    ·have:=h63 h1;omega
    ·have:=hz h1;omega),if_pos qe]
   simp
  ·rw[VM h]
   have hk9:k<9:=by
    rcases zpv k 9 with h1|h1
    ·exact h1
    ·have:=h63 qe;omega
   simp only[zol]
   unfold gU
   rw[if_neg (by
    rintro(⟨h1,h2⟩|⟨h1,h2⟩)
    ·omega
    ·omega),if_neg qe]
   have jW:2^(s+7)=128*2^s:=by rw[zpj];omega
   have hle:m/128*2^(s+7)<=m*2^s:=by
    rw[jW,<-Nat.mul_assoc]
    exact zng _ qe
   rw[ih (m/128) qe (k+1) rest (s+7) _ _ qe qe qe (by intro _;omega)]
   have e1:(((m%128+128:Nat):Int).toNat-128)=m%128:=qe
   rw[e1,jW]
   have e2:n+m%128*2^s+m/128*(128*2^s)=n+m*2^s:=by
    have:m/128*(128*2^s)=(128*(m/128))*2^s:=by rw[znz 128 (m/128),zos]
    rw[this,zoj,<-Nat.add_mul]
    have:m%128+128*(m/128)=m:=qe
    rw[this]
   rw[e2]
   simp only[zmu]
   have e3:u+1+(uv (m/128)).length=u+((uv (m/128)).length+1):=qe
   rw[e3]
theorem zly:∀(r:List Int) (k s n u:Nat),(∀c∈r,0<=c/\c<256)->s=7*k->k<=9->(gU r s n u).2.2=0->
 ∃m,(gU r s n u).1=n+m*2^s/\(gU r s n u).2.1=u+(uv m).length/\r=uv m++r.drop (uv m).length/\(0<s->m≠0)/\m*2^s<18446744073709551616:=by
 intro r
 induction r with
 |nil=>intro k s n u hr hs hk h;simp[gU]at h
 |cons c r ih=>
  intro k s n u hr hs hk h
  have hc:=hr c qg
  unfold gU at h⊢
  split at h
  ·simp at h
  ·rename_i h1
   rw[if_neg h1]
   split at h
   ·rename_i h2
    rw[if_pos h2]
    have hu:uv c.toNat=[c]:=by
     rw[KE qe]
     have:((c.toNat:Nat):Int)=c:=qe
     rw[this]
    refine⟨c.toNat,rfl,by rw[hu];rfl,by rw[hu];rfl,fun h3 h4=>h1 (.inr ⟨h3,qe⟩),?_⟩
    by_cases h63:s=63
    ·have:¬(1<c):=fun h3=>h1 (.inl ⟨h63,h3⟩)
     have e:(2:Nat)^63=9223372036854775808:=rfl
     rw[h63,e];omega
    ·have hs56:s<=56:=qe
     have:2^s<=2^56:=znv qh hs56
     have e:(2:Nat)^56=72057594037927936:=rfl
     rw[e]at this
     have:c.toNat*2^s<=127*72057594037927936:=zno qe this
     omega
   ·rename_i h2
    rw[if_neg h2]
    have hk9:k<9:=by
     rcases zpv k 9 with h3|h3
     ·exact h3
     ·exact absurd (.inl ⟨qe,qe⟩) h1
    obtain⟨m,m1,m2,m3,m4,m5⟩:=ih (k+1) (s+7) (n+(c.toNat-128)*2^s) (u+1) (fun x hx=>hr x (by simp[hx])) qe qe h
    have hm0:=m4 qe
    have hq:(c.toNat-128+128*m)/128=m:=qe
    have hrm:(c.toNat-128+128*m)%128=c.toNat-128:=qe
    have hu:uv (c.toNat-128+128*m)=c::uv m:=by
     rw[VM qe,hq,hrm]
     have:((c.toNat-128+128:Nat):Int)=c:=qe
     rw[this]
    have jW:2^(s+7)=128*2^s:=by rw[zpj];omega
    have e2:(c.toNat-128)*2^s+m*(128*2^s)=(c.toNat-128+128*m)*2^s:=by
     have:m*(128*2^s)=(128*m)*2^s:=by rw[znz 128 m,zos]
     rw[this,<-Nat.add_mul]
    refine⟨c.toNat-128+128*m,?_,?_,?_,fun _ h4=>qe,?_⟩
    ·rw[m1,jW,zoj,e2]
    ·rw[m2,hu];simp only[zmu];omega
    ·rw[hu];simp only[zmu,zph,zol]
     congr 1
    ·by_cases h56:s<=49
     ·rw[<-e2,<-jW]
      have h7:2^s<=2^49:=znv qh h56
      have e:(2:Nat)^49=562949953421312:=rfl
      rw[e]at h7
      have:(c.toNat-128)*2^s<=127*562949953421312:=zno qe h7
      have hd:m*2^(s+7)+2^(s+7)<=18446744073709551616:=by
       have hdv:2^(s+7)∣18446744073709551616:=by
        have:(18446744073709551616:Nat)=2^64:=rfl
        rw[this];exact Nat.pow_dvd_pow 2 qe
       obtain⟨q,hq'⟩:=hdv
       have hlt:m<q:=by
        have:m*2^(s+7)<q*2^(s+7):=by rw[znz q,<-hq'];exact m5
        exact zqj this
       have:(m+1)*2^(s+7)<=q*2^(s+7):=zng _ hlt
       rw[zpi,Nat.one_mul,znz q,<-hq']at this
       exact this
      have hlt7:(c.toNat-128)*2^s<2^(s+7):=by
       rw[jW]
       exact zqa qe (zo4 s)
      omega
     ·have hs56:s=56:=qe
      rw[hs56]at m5⊢
      have e:(2:Nat)^(56+7)=9223372036854775808:=rfl
      have e':(2:Nat)^56=72057594037927936:=rfl
      rw[e]at m5
      rw[e']
      have hm1:m=1:=qe
      have hb:c.toNat-128+128*m<=255:=by rw[hm1];omega
      exact zog (zng _ hb) qh
def zz(n:Int):Nat:=if n<0 then((-(n+1))*2+1).toNat else(n*2).toNat
def qmf(u:Nat):Int:=if u%2=0 then(u/2:Nat)else -((u/2:Nat):Int)-1
theorem zdh(n:Int):qmf (zz n)=n:=by
 unfold zz qmf
 by_cases h:n<0
 ·rw[if_pos h]
  have:((-(n+1))*2+1).toNat%2=1:=qe
  rw[if_neg qe]
  omega
 ·rw[if_neg h]
  rw[if_pos qe]
  omega
theorem qbt{n:Int}(h1:-9223372036854775808<=n)(h2:n<9223372036854775808):zz n<18446744073709551616:=by
 unfold zz;split<;>omega
end Go.Proofs.YtmajcennjgjlnaaGreat.AI
namespace Go.Proofs.YtmajcennjgjlnaaGreat.AI
open Go
set_option linter.unusedVariables false
set_option linter.unusedSimpArgs false
set_option maxRecDepth 100000
set_option maxHeartbeats 0
def nz(l:List Nat):List Int:=l.map fun(n:Nat)=>(n:Int)
@[simp] theorem WF(l:List Nat):(nz l).length=l.length:=by simp[nz]
def WU(p:Nat):List Nat->List Nat
 |[]=>[]
 |x::r=>(x-p-1)::WU x r
def qw:List Nat->List Nat
 |[]=>[]
 |x::r=>x::WU x r
def qM:List Nat->Prop
 |[]=>True
 |[_]=>True
 |x::y::r=>x<y/\qM (y::r)
def xg(k:Nat):List Nat->Nat->Nat×Bool
 |[],n=>(n,true)
 |g::r,n=>if 4096<g/2^k then(0,false)else xg k r (n+(g/2^k+1+k))
def Vi(gs:List Nat):Nat->Nat->Nat->Int->Nat
 |0,_,b,_=>b
 |f+1,k,b,m=>if(xg k gs 0).2=true/\(m<0\/((xg k gs 0).1:Int)<m)then Vi gs f (k+1) k (xg k gs 0).1 else Vi gs f (k+1) b m
def jd(gs:List Nat):Nat:=Vi gs 64 0 63 (-1)
def jb(k:Nat):List Nat->List Bool
 |[]=>[]
 |g::r=>una (g/2^k)++xW g k++jb k r
def je(gs:List Nat):List Bool:=jb (jd gs) gs
def zh(l:List Nat):List Int:=uv l.length++[(jd (qw l):Int)]++uv (pk (je (qw l))).length++pk (je (qw l))
@[simp] theorem zko (p : Nat) (l : List Nat) : (WU p l).length = l.length := by
 induction l generalizing p with
 |nil=>rfl
 |cons x r ih=>simp[WU,ih]
@[simp] theorem ko(l:List Nat):(qw l).length=l.length:=by cases l<;>simp[qw]
theorem za6(l:List Nat)(p B:Nat)(h:∀x∈l,x<B):∀g∈WU p l,g<B:=by
 induction l generalizing p with
 |nil=>intro g hg;cases hg
 |cons x r ih=>
  intro g hg
  rcases zmy.mp hg with e|e
  ·have:=h x qg;omega
  ·exact ih x (fun y hy=>h y (by simp[hy])) g e
theorem xu{l:List Nat}{B:Nat}(h:∀x∈l,x<B):∀g∈qw l,g<B:=by
 cases l with
 |nil=>intro g hg;cases hg
 |cons x r=>
  intro g hg
  rcases zmy.mp hg with e|e
  ·rw[e];exact h x qg
  ·exact za6 r x B (fun y hy=>h y (by simp[hy])) g e
theorem qt8:∀(l:List Nat) (p i:Nat),i<l.length->(WU p l)[i]?=some (l.getD i 0-(p::l).getD i 0-1):=by
 intro l
 induction l with
 |nil=>intro p i h;cases h
 |cons x r ih=>
  intro p i h
  cases i with
  |zero=>rfl
  |succ i=>
   have:=ih x i (by simpa using h)
   simpa[WU]using this
theorem Xg(l:List Nat)(i:Nat)(h:i<l.length):(qw l)[i]?=some (if i=0 then l.getD 0 0 else l.getD i 0-l.getD (i-1) 0-1):=by
 cases l with
 |nil=>cases h
 |cons x r=>
  cases i with
  |zero=>rfl
  |succ i=>
   have:=qt8 r x i (by simpa using h)
   simpa[qw]using this
theorem vp:∀(l:List Nat),qM l->∀i,i+1<l.length->l.getD i 0<l.getD (i+1) 0:=by
 intro l
 induction l with
 |nil=>intro _ i h;simp at h
 |cons x r ih=>
  intro hr i h
  cases r with
  |nil=>simp at h
  |cons y r=>
   cases i with
   |zero=>exact hr.1
   |succ i=>exact ih hr.2 i (by simpa using h)
theorem zbr(k:Nat):∀(gs:List Nat) (n:Nat),(xg k gs n).2=true->∀g∈gs,g/2^k<=4096:=by
 intro gs
 induction gs with
 |nil=>intro n _ g hg;cases hg
 |cons x r ih=>
  intro n h g hg
  unfold xg at h
  split at h
  ·cases h
  ·rcases zmy.mp hg with e|e
   ·subst e;omega
   ·exact ih _ h g e
theorem zex(gs:List Nat):∀(f k b:Nat) (m:Int),k+f=64->b<=63->(∀g∈gs,g/2^b<=4096)->Vi gs f k b m<=63/\∀g∈gs,g/2^(Vi gs f k b m)<=4096:=by
 intro f
 induction f with
 |zero=>intro k b m _ h1 h2;exact⟨h1,h2⟩
 |succ f ih=>
  intro k b m hk h1 h2
  unfold Vi
  split
  ·rename_i h
   exact ih (k+1) k _ qe qe (zbr k gs 0 h.1)
  ·exact ih (k+1) b m qe h1 h2
theorem QK{gs:List Nat}(h:∀g∈gs,g<18446744073709551616):jd gs<=63/\∀g∈gs,g/2^jd gs<=4096:=by
 refine zex gs 64 0 63 (-1) rfl (zmx _) (fun g hg=>?_)
 have:=h g hg
 have e:(2:Nat)^63=9223372036854775808:=qh
 rw[e]
 omega
theorem Qc(k:Nat)(hk:k<=63):∀(gs:List Nat),(∀g∈gs,g/2^k<=4096)->(jb k gs).length<=gs.length*4160:=by
 intro gs
 induction gs with
 |nil=>intro _;exact znl _
 |cons x r ih=>
  intro h
  have h1:=ih (fun g hg=>h g (by simp[hg]))
  have h2:=h x qg
  simp[jb]
  omega
theorem zg5(l:List Bool)(i:Nat):yn (pk l) i=l.getD i false:=by
 by_cases h:i<l.length
 ·exact qks l i h
 ·rw[Xt l i qe,zmv,znq qe]
  rfl
def Ss(l m:List Bool):Prop:=∀i,l.getD i false=m.getD i false
theorem Ss.pk{l m:List Bool}(h:pk l=pk m):Ss l m:=fun i=>by rw[<-zg5,<-zg5,h]
theorem Ss.tail{a b:Bool}{l m:List Bool}(h:Ss (a::l) (b::m)):a=b/\Ss l m:=⟨h 0,fun i=>h (i+1)⟩
theorem Ss.una:∀(q q':Nat) (l m:List Bool),Ss (una q++l) (una q'++m)->q=q'/\Ss l m:=by
 intro q
 induction q with
 |zero=>
  intro q' l m h
  cases q' with
  |zero=>exact⟨rfl,(Ss.tail h).2⟩
  |succ q'=>exact absurd (Ss.tail h).1 qh
 |succ q ih=>
  intro q' l m h
  cases q' with
  |zero=>exact absurd (Ss.tail h).1 qh
  |succ q'=>
   have:=ih q' l m (Ss.tail h).2
   exact⟨qe,this.2⟩
theorem Ss.app:∀(a b l m:List Bool),a.length=b.length->Ss (a++l) (b++m)->a=b/\Ss l m:=by
 intro a
 induction a with
 |nil=>
  intro b l m e h
  cases b with
  |nil=>exact⟨rfl,h⟩
  |cons y s=>cases e
 |cons x r ih=>
  intro b l m e h
  cases b with
  |nil=>cases e
  |cons y s=>
   have t:=Ss.tail h
   have i:=ih s l m (by simpa using e) t.2
   exact⟨by rw[t.1,i.1],i.2⟩
def Yu(cs:List Nat)(x:Nat):List Nat:=if(cs.set x (cs.getD x 0+24)).sum<=4096 then cs.set x (cs.getD x 0+24)else(cs.set x (cs.getD x 0+24)).map fun n=>(n+1)/2
def okM(cs:List Nat):Prop:=cs.length=64/\cs.sum<=4096/\∀n∈cs,1<=n
theorem qfw:∀(cs:List Nat) (x v:Nat),x<cs.length->(cs.set x v).sum+cs.getD x 0=cs.sum+v:=by
 intro cs
 induction cs with
 |nil=>intro x v h;cases h
 |cons c r ih=>
  intro x v h
  cases x with
  |zero=>simp;omega
  |succ x=>
   have:=ih x v (by simpa using h)
   simp only[List.set_cons_succ,zrf,List.getD_cons_succ]
   omega
theorem qht:∀(cs:List Nat),2*(cs.map fun n=>(n+1)/2).sum<=cs.sum+cs.length:=by
 intro cs
 induction cs with
 |nil=>exact zmx _
 |cons c r ih=>simp only[zn0,zrf,zmu];omega
theorem Qy{cs:List Nat}{x:Nat}(h:okM cs)(hx:x<64):okM (Yu cs x):=by
 obtain⟨h1,h2,h3⟩:=h
 have hs:=qfw cs x (cs.getD x 0+24) qe
 have hpos:∀n∈cs.set x (cs.getD x 0+24),1<=n:=by
  intro n hn
  rcases zpm hn with e|e
  ·exact h3 n e
  ·omega
 unfold Yu
 split
 ·rename_i hle
  exact⟨by simp[h1],hle,hpos⟩
 ·have hh:=qht (cs.set x (cs.getD x 0+24))
  rw[List.length_set,h1]at hh
  refine⟨by simp[h1],qe,fun n hn=>?_⟩
  obtain⟨m,hm,rfl⟩:=zns.mp hn
  have:=hpos m hm
  omega
theorem qP:∀(cs:List Nat) (x:Nat),x<cs.length->(cs.take (x+1)).sum=(cs.take x).sum+cs.getD x 0:=by
 intro cs
 induction cs with
 |nil=>intro x h;cases h
 |cons c r ih=>
  intro x h
  cases x with
  |zero=>simp
  |succ x=>
   have:=ih x (by simpa using h)
   simp only[zna,zrf,List.getD_cons_succ]
   omega
theorem KF:∀(cs:List Nat) (x y:Nat),x<=y->(cs.take x).sum<=(cs.take y).sum:=by
 intro cs
 induction cs with
 |nil=>intro x y _;simp
 |cons c r ih=>
  intro x y h
  cases x with
  |zero=>simp
  |succ x=>
   cases y with
   |zero=>omega
   |succ y=>
    have:=ih x y qe
    simp only[zna,zrf]
    omega
theorem qQ(cs:List Nat)(x:Nat):(cs.take x).sum<=cs.sum:=by
 by_cases h:x<=cs.length
 ·have:=KF cs x cs.length h
  rwa [zo6]at this
 ·rw[znr qe];exact zmx _
structure En where
 low:Nat
 width:Nat
 held:Nat
 last:Nat
 begun:Bool
 out:List Int
def sh(s:En):En:=
 if s.low<4278190080\/4294967296<=s.low then
  ⟨s.low%16777216*256,s.width,0,s.low/16777216%256,true,s.out++(if s.begun then [(((s.last+s.low/4294967296%256)%256:Nat):Int)]else [])++List.replicate s.held (((255+s.low/4294967296%256)%256:Nat):Int)⟩
 else⟨s.low%16777216*256,s.width,s.held+1,s.last,s.begun,s.out⟩
def XF(s:En)(w:Nat):En:=⟨s.low,w,s.held,s.last,s.begun,s.out⟩
def zE:Nat->En->En
 |0,s=>s
 |f+1,s=>if s.width<16777216 then zE f (sh (XF s (s.width*256)))else s
def xC(s:En)(cs:List Nat)(x:Nat):En:=⟨s.low+s.width/cs.sum*(cs.take x).sum,s.width/cs.sum*cs.getD x 0,s.held,s.last,s.begun,s.out⟩
def enc:List Nat->En->List Nat->En
 |_,s,[]=>s
 |cs,s,x::r=>enc (Yu cs x) (zE 4 (xC s cs x)) r
def en0:En:=⟨0,4294967295,0,0,false,[]⟩
def cs0:List Nat:=List.replicate 64 1
def jh(l:List Nat):List Int:=(sh (sh (sh (sh (sh (enc cs0 en0 l)))))).out
def qO(l:List Int):Nat:=l.foldl (fun a b=>a*256+b.toNat) 0
theorem yh(l:List Int)(b:Int):qO (l++[b])=qO l*256+b.toNat:=by simp[qO,List.foldl_append]
theorem qoy(l:List Int):∀h,qO (l++List.replicate h 0)=qO l*256^h:=by
 intro h
 induction h with
 |zero=>simp
 |succ h ih=>
  rw[zo8,<-List.append_assoc,yh,ih,zoo,zos]
  simp
theorem quv(l:List Int):∀h,qO (l++List.replicate h 255)+1=(qO l+1)*256^h:=by
 intro h
 induction h with
 |zero=>simp
 |succ h ih=>
  rw[zo8,<-List.append_assoc,yh,zoo,<-Nat.mul_assoc,<-ih]
  have e:(255:Int).toNat=255:=rfl
  rw[e]
  omega
def bl(s:En):List Int:=s.out++(if s.begun then [(s.last:Int)]else [])++List.replicate s.held 255
def eV(s:En):Nat:=qO (bl s)*4294967296+s.low
def eK(s:En):Nat:=s.out.length+s.begun.toNat+s.held
theorem zb0(s:En):(bl s).length=eK s:=by
 unfold bl eK
 cases s.begun<;>simp<;>omega
def Zy(s:En)(w:Nat):Prop:=s.low+w<=8589934592/\s.last<256/\0<w/\((s.begun=false\/s.last=255)->s.low+w<=4294967296)
theorem JZ{s:En}{w v:Nat}(h:Zy s w)(h1:v<=w)(h2:0<v):Zy s v:=
 ⟨by have:=h.1;omega,h.2.1,h2,fun q=>by have:=h.2.2.2 q;omega⟩
theorem YD(s:En)(w:Nat)(h:Zy s w)(hw:w<=16777216):Zy (sh s) (w*256)/\eV (sh s)=eV s*256/\eK (sh s)=eK s+1/\(sh s).width=s.width:=by
 obtain⟨h1,h2,h3,h4⟩:=h
 by_cases hA:s.low<4278190080
 ·have e:sh s=⟨s.low%16777216*256,s.width,0,s.low/16777216%256,true,bl s⟩:=by
   unfold sh
   rw[if_pos (.inl hA)]
   have c0:s.low/4294967296%256=0:=qe
   have c1:(s.last+0)%256=s.last:=qe
   unfold bl
   rw[c0,c1]
   rfl
  rw[e]
  refine⟨⟨by show s.low%16777216*256+w*256<=_;omega,by show s.low/16777216%256<_;omega,qe,fun q=>?_⟩,?_,?_,rfl⟩
  ·rcases q with q|q
   ·cases q
   ·have q:s.low/16777216%256=255:=q
    omega
  ·show qO (bl s++[((s.low/16777216%256:Nat):Int)]++[])*4294967296+s.low%16777216*256=(qO (bl s)*4294967296+s.low)*256
   rw[znj,yh,zm3]
   omega
  ·show(bl s).length+1+0=eK s+1
   rw[zb0]
 ·by_cases hB:4294967296<=s.low
  ·have hb:s.begun=true:=by
    cases hq:s.begun
    ·have:=h4 (.inl hq);omega
    ·rfl
   have hl:s.last<=254:=by
    by_cases q:s.last=255
    ·have:=h4 (.inr q);omega
    ·omega
   have e:sh s=⟨s.low%16777216*256,s.width,0,s.low/16777216%256,true,s.out++[((s.last+1:Nat):Int)]++List.replicate s.held 0⟩:=by
    unfold sh
    rw[if_pos (.inr hB),hb,if_pos rfl]
    have c0:s.low/4294967296%256=1:=qe
    have c1:(s.last+1)%256=s.last+1:=qe
    rw[c0,c1]
    rfl
   have eb:bl s=s.out++[(s.last:Int)]++List.replicate s.held 255:=by unfold bl;rw[hb,if_pos rfl]
   have n1:qO (s.out++[((s.last+1:Nat):Int)]++List.replicate s.held 0)=qO (bl s)+1:=by
    have f:=quv (s.out++[(s.last:Int)]) s.held
    rw[eb,f,qoy,yh,yh,zm3,zm3,zoj]
   rw[e]
   refine⟨⟨by show s.low%16777216*256+w*256<=_;omega,by show s.low/16777216%256<_;omega,qe,fun q=>?_⟩,?_,?_,rfl⟩
   ·rcases q with q|q
    ·cases q
    ·have q:s.low/16777216%256=255:=q
     show s.low%16777216*256+w*256<=_
     omega
   ·show qO (s.out++[((s.last+1:Nat):Int)]++List.replicate s.held 0++[((s.low/16777216%256:Nat):Int)]++[])*4294967296+s.low%16777216*256=(qO (bl s)*4294967296+s.low)*256
    rw[znj,yh,zm3,n1]
    omega
   ·show(s.out++[((s.last+1:Nat):Int)]++List.replicate s.held 0).length+1+0=eK s+1
    unfold eK
    rw[hb]
    simp
    omega
  ·have e:sh s=⟨s.low%16777216*256,s.width,s.held+1,s.last,s.begun,s.out⟩:=by
    unfold sh
    rw[if_neg qe]
   rw[e]
   refine⟨⟨by show s.low%16777216*256+w*256<=_;omega,h2,qe,fun q=>?_⟩,?_,?_,rfl⟩
   ·have:=h4 q
    show s.low%16777216*256+w*256<=_
    omega
   ·show qO (s.out++(if s.begun then [(s.last:Int)]else [])++List.replicate (s.held+1) 255)*4294967296+s.low%16777216*256=(qO (bl s)*4294967296+s.low)*256
    have n1:qO (s.out++(if s.begun then [(s.last:Int)]else [])++List.replicate (s.held+1) 255)=qO (bl s)*256+255:=by
     rw[zo8,<-List.append_assoc,yh]
     rfl
    rw[n1]
    omega
   ·show s.out.length+s.begun.toNat+(s.held+1)=eK s+1
    unfold eK
    omega
theorem Kg(s:En)(w:Nat):eV (XF s w)=eV s/\eK (XF s w)=eK s:=⟨rfl,rfl⟩
theorem qqa:∀(f:Nat) (s:En),Zy s s.width->s.width<=4294967296->4294967296<=s.width*256^f*256->∃d,eV (zE f s)=eV s*256^d/\(zE f s).width=s.width*256^d/\eK (zE f s)=eK s+d/\Zy (zE f s) (zE f s).width/\
 16777216<=(zE f s).width/\(zE f s).width<=4294967296:=by
 intro f
 induction f with
 |zero=>
  intro s h hw hf
  exact⟨0,by simp[zE],by simp[zE],rfl,h,by show 16777216<=s.width;simp at hf;omega,hw⟩
 |succ f ih=>
  intro s h hw hf
  unfold zE
  by_cases hl:s.width<16777216
  ·rw[if_pos hl]
   have h':Zy (XF s (s.width*256)) s.width:=h
   obtain⟨a1,a2,a3,a4⟩:=YD (XF s (s.width*256)) s.width h' qe
   have a4:(sh (XF s (s.width*256))).width=s.width*256:=a4
   have hf2:4294967296<=s.width*256*256^f*256:=by
    rw[zoo]at hf
    have e:s.width*(256^f*256)*256=s.width*256*256^f*256:=by
     rw[zos s.width 256,znz 256 (256^f)]
    rwa [e]at hf
   obtain⟨d,b1,b2,b3,b4,b5,b6⟩:=ih (sh (XF s (s.width*256))) (by rw[a4];exact a1) (by rw[a4];omega) (by rw[a4];exact hf2)
   refine⟨d+1,?_,?_,?_,b4,b5,b6⟩
   ·rw[b1,a2,(Kg s _).1,zoo,zos,znz 256]
   ·rw[b2,a4,zoo,zos,znz 256]
   ·rw[b3,a3,(Kg s _).2];omega
  ·rw[if_neg hl]
   exact⟨0,qg,qg,rfl,h,qe,hw⟩
theorem Za(s:En)(cs:List Nat)(x:Nat)(hm:okM cs)(hx:x<64)(h:Zy s s.width)(hw:16777216<=s.width/\s.width<=4294967296):
 ∃d,eV (zE 4 (xC s cs x))=(eV s+s.width/cs.sum*(cs.take x).sum)*256^d/\(zE 4 (xC s cs x)).width=s.width/cs.sum*cs.getD x 0*256^d/\eK (zE 4 (xC s cs x))=eK s+d/\
  Zy (zE 4 (xC s cs x)) (zE 4 (xC s cs x)).width/\16777216<=(zE 4 (xC s cs x)).width/\(zE 4 (xC s cs x)).width<=4294967296/\0<s.width/cs.sum*cs.getD x 0:=by
 obtain⟨m1,m2,m3⟩:=hm
 have hn:1<=cs.getD x 0:=by
  rw[zmv,zm0 qe]
  exact m3 _ (znb _)
 have ht:=qP cs x qe
 have hta:=qQ cs (x+1)
 have hpart:4096<=s.width/cs.sum:=by
  rw[zpz qe]
  have:4096*cs.sum<=4096*4096:=zn4 _ m2
  omega
 have hmul:s.width/cs.sum*cs.sum<=s.width:=zn9 _ _
 have hsum:s.width/cs.sum*(cs.take x).sum+s.width/cs.sum*cs.getD x 0<=s.width:=by
  rw[<-Nat.mul_add,<-ht]
  exact zn7 (zn4 _ hta) hmul
 have hge:s.width/cs.sum*1<=s.width/cs.sum*cs.getD x 0:=zn4 _ hn
 obtain⟨h1,h2,h3,h4⟩:=h
 have ok:Zy (xC s cs x) (xC s cs x).width:=by
  refine⟨?_,h2,?_,fun q=>?_⟩
  ·show s.low+s.width/cs.sum*(cs.take x).sum+s.width/cs.sum*cs.getD x 0<=_;omega
  ·show 0<s.width/cs.sum*cs.getD x 0;omega
  ·have:=h4 q
   show s.low+s.width/cs.sum*(cs.take x).sum+s.width/cs.sum*cs.getD x 0<=_;omega
 obtain⟨d,b1,b2,b3,b4,b5,b6⟩:=qqa 4 (xC s cs x) ok (by show s.width/cs.sum*cs.getD x 0<=_;omega) (by
  show 4294967296<=s.width/cs.sum*cs.getD x 0*256^4*256
  have e:(256:Nat)^4=4294967296:=qh
  rw[e]
  omega)
 have ev:eV (xC s cs x)=eV s+s.width/cs.sum*(cs.take x).sum:=by
  show qO (bl s)*4294967296+(s.low+_)=qO (bl s)*4294967296+s.low+_
  omega
 exact⟨d,by rw[b1,ev],b2,b3,b4,b5,b6,qe⟩
theorem qop:∀(l cs:List Nat) (s:En),okM cs->(∀x∈l,x<64)->Zy s s.width->16777216<=s.width/\s.width<=4294967296->
 ∃d,eK (enc cs s l)=eK s+d/\eV s*256^d<=eV (enc cs s l)/\eV (enc cs s l)+(enc cs s l).width<=(eV s+s.width)*256^d/\Zy (enc cs s l) (enc cs s l).width/\0<(enc cs s l).width:=by
 intro l
 induction l with
 |nil=>intro cs s hm hl h hw;exact⟨0,rfl,by simp[enc],by simp[enc],h,by show 0<s.width;omega⟩
 |cons x r ih=>
  intro cs s hm hl h hw
  obtain⟨d,a1,a2,a3,a4,a5,a6,a7⟩:=Za s cs x hm (hl x qg) h hw
  obtain⟨d2,b1,b2,b3,b4,b5⟩:=ih (Yu cs x) (zE 4 (xC s cs x)) (Qy hm (hl x qg)) (fun y hy=>hl y (by simp[hy])) a4 ⟨a5,a6⟩
  have e:enc cs s (x::r)=enc (Yu cs x) (zE 4 (xC s cs x)) r:=rfl
  rw[e]
  refine⟨d+d2,by rw[b1,a3];omega,?_,?_,b4,b5⟩
  ·refine zn7 ?_ b2
   rw[a1,zpj,<-Nat.mul_assoc]
   exact zng _ (zng _ (Nat.le_add_right _ _))
  ·refine zn7 b3 ?_
   rw[a1,a2,<-Nat.add_mul,zpj,<-Nat.mul_assoc]
   refine zng _ (zng _ ?_)
   have ht:=qP cs x (by have:=hm.1;have:=hl x qg;omega)
   have hta:=qQ cs (x+1)
   have hmul:s.width/cs.sum*cs.sum<=s.width:=zn9 _ _
   have hsum:s.width/cs.sum*(cs.take x).sum+s.width/cs.sum*cs.getD x 0<=s.width:=by
    rw[<-Nat.mul_add,<-ht]
    exact zn7 (zn4 _ hta) hmul
   omega
theorem qji:okM cs0:=⟨qh,qh,fun n hn=>by rw[zot hn];exact zmx _⟩
theorem qjj:Zy en0 en0.width:=⟨qh,qh,qh,fun _=>qh⟩
theorem Jv(l:List Nat)(hl:∀x∈l,x<64):qO (jh l)=eV (enc cs0 en0 l)/\(jh l).length=eK (enc cs0 en0 l)+4:=by
 obtain⟨d,_,_,_,h,hw⟩:=qop l cs0 en0 qji hl qjj ⟨qh,qh⟩
 unfold jh
 generalize enc cs0 en0 l=s at*
 have s1:=YD s 1 (JZ h hw qe) qe
 have s2:=YD (sh s) 1 (JZ s1.1 qe qe) qe
 have s3:=YD (sh (sh s)) 1 (JZ s2.1 qe qe) qe
 have s4:=YD (sh (sh (sh s))) 1 (JZ s3.1 qe qe) qe
 have lw:∀s:En,(sh s).low=s.low%16777216*256:=fun s=>by unfold sh;split<;>rfl
 have z:(sh (sh (sh (sh s)))).low=0:=by rw[lw,lw,lw,lw];omega
 have e:(sh (sh (sh (sh (sh s))))).out=bl (sh (sh (sh (sh s)))):=by
  have h2:=s4.1.2.1
  generalize sh (sh (sh (sh s)))=t at*
  unfold sh
  rw[if_pos (.inl qe),z]
  have c1:(t.last+0/4294967296%256)%256=t.last:=qe
  unfold bl
  rw[c1]
  rfl
 rw[e,zb0,s4.2.2.1,s3.2.2.1,s2.2.2.1,s1.2.2.1]
 refine⟨?_,qe⟩
 have v:eV (sh (sh (sh (sh s))))=qO (bl (sh (sh (sh (sh s)))))*4294967296+0:=by rw[<-z];rfl
 rw[s4.2.1,s3.2.1,s2.2.1,s1.2.1]at v
 omega
def zt(m:Nat):Nat->Nat
 |0=>0
 |n+1=>zt m n+(m.testBit n).toNat
theorem Jh(m a:Nat):∀b,zt m (a+b)=zt m a+zt (m/2^a) b:=by
 intro b
 induction b with
 |zero=>rfl
 |succ b ih=>
  show zt m (a+b)+(m.testBit (a+b)).toNat=zt m a+(zt (m/2^a) b+((m/2^a).testBit b).toNat)
  rw[ih,znu,zqm b a]
  omega
theorem vx(m:Nat):∀n,zt m n<=n:=by
 intro n
 induction n with
 |zero=>exact zmx _
 |succ n ih=>
  show zt m n+_<=n+1
  have:=b2n (m.testBit n)
  omega
theorem qp6(m k:Nat):∀n,n<=k->zt (m%2^k) n=zt m n:=by
 intro n
 induction n with
 |zero=>intro _;rfl
 |succ n ih=>
  intro h
  show zt (m%2^k) n+_=zt m n+_
  rw[ih qe,zm7]
  simp[show n<k by omega]
def mkB(c:Nat):Nat->Nat
 |0=>0
 |k+1=>mkB c k*256+c
theorem Qp(a b c d:Nat)(hb:b<256)(hd:d<256):(a*256+b)&&&(c*256+d)=(a&&&c)*256+(b&&&d):=by
 have hbd:b&&&d<256:=zog Nat.and_le_left hb
 apply zn5
 intro i
 have e1:=zqb a (i:=8) hb i
 have e2:=zqb c (i:=8) hd i
 have e3:=zqb (a&&&c) (i:=8) hbd i
 have q:∀x y,2^8*x+y=x*256+y:=fun x y=>qe
 rw[q]at e1 e2 e3
 rw[zql,e1,e2,e3]
 by_cases h:i<8
 ·rw[if_pos h,if_pos h,if_pos h,zql]
 ·rw[if_neg h,if_neg h,if_neg h,zql]
def f1(k x:Nat):Nat:=((x/2)&&&mkB 85 k)+(x&&&mkB 85 k)
def f2(k x:Nat):Nat:=((x/4)&&&mkB 51 k)+(x&&&mkB 51 k)
def f3(k x:Nat):Nat:=(x/16+x)&&&mkB 15 k
theorem zmb:∀b,b<256->∀t,t<2->(t*128+b/2)&&&85=(b/2)&&&85:=qh
theorem zma:∀b,b<256->∀t,t<4->(t*64+b/4)&&&51=(b/4)&&&51:=qh
theorem zbj(k a b:Nat)(hb:b<256):f1 (k+1) (a*256+b)=f1 k a*256+f1 1 b:=by
 unfold f1
 have e:(a*256+b)/2=a/2*256+(a%2*128+b/2):=qe
 have m:mkB 85 (k+1)=mkB 85 k*256+85:=rfl
 have m1:mkB 85 1=85:=rfl
 rw[e,m,m1,Qp _ _ _ _ qe qe,Qp _ _ _ _ hb qe,zmb b hb _ qe]
 omega
theorem zbi(k a b:Nat)(hb:b<256):f2 (k+1) (a*256+b)=f2 k a*256+f2 1 b:=by
 unfold f2
 have e:(a*256+b)/4=a/4*256+(a%4*64+b/4):=qe
 have m:mkB 51 (k+1)=mkB 51 k*256+51:=rfl
 have m1:mkB 51 1=51:=rfl
 rw[e,m,m1,Qp _ _ _ _ qe qe,Qp _ _ _ _ hb qe,zma b hb _ qe]
 omega
theorem zf0:∀b,b<256->f1 1 b<256:=qh
theorem qq7:∀b,b<256->f2 1 (f1 1 b)<256/\f2 1 (f1 1 b)%16<=4/\f2 1 (f1 1 b)/16<=4/\f3 1 (f2 1 (f1 1 b))=zt b 8:=qh
def f12(k x:Nat):Nat:=f2 k (f1 k x)
theorem qdb(k a b:Nat)(hb:b<256):f12 (k+1) (a*256+b)=f12 k a*256+f12 1 b:=by
 unfold f12
 rw[zbj k a b hb,zbi k _ _ (zf0 b hb)]
theorem zf1(k x:Nat)(h:x<256^k):f12 k x%16<=4:=by
 cases k with
 |zero=>
  have:x=0:=qe
  subst this
  decide
 |succ k=>
  have e:x=x/256*256+x%256:=qe
  rw[e,qdb k _ _ qe]
  have:=(qq7 (x%256) qe).2.1
  unfold f12 at*
  omega
theorem zbh(k a b:Nat)(ha:a<256^k)(hb:b<256):f3 (k+1) (f12 (k+1) (a*256+b))=f3 k (f12 k a)*256+zt b 8:=by
 rw[qdb k a b hb]
 have hl:=zf1 k a ha
 have hB:=qq7 b hb
 have e12:f12 1 b=f2 1 (f1 1 b):=rfl
 rw[<-hB.2.2.2,e12]
 generalize f2 1 (f1 1 b)=B at*
 generalize f12 k a=A at*
 obtain⟨h1,h2,h3,_⟩:=hB
 unfold f3
 have e:(A*256+B)/16+(A*256+B)=(A/16+A)*256+(A%16*16+B/16+B):=qe
 have m:mkB 15 (k+1)=mkB 15 k*256+15:=rfl
 have m1:mkB 15 1=15:=rfl
 rw[e,m,m1,Qp _ _ _ _ qe qe]
 congr 1
 have q:∀x,x&&&15=x%16:=fun x=>zpp x 4
 rw[q,q]
 omega
def cB(x:Nat):Nat->Nat
 |0=>0
 |k+1=>cB (x/256) k*256+zt (x%256) 8
theorem zji:∀(k x:Nat),x<256^k->f3 k (f12 k x)=cB x k:=by
 intro k
 induction k with
 |zero=>
  intro x h
  have:x=0:=qe
  subst this
  decide
 |succ k ih=>
  intro x h
  have e:x=x/256*256+x%256:=qe
  have h2:x/256<256^k:=by rw[zoo]at h;omega
  have:=zbh k (x/256) (x%256) h2 qe
  rw[<-e,ih _ h2]at this
  exact this
theorem qs7(x:Nat):zt x 64=zt (x%256) 8+(zt (x/256%256) 8+(zt (x/256/256%256) 8+(zt (x/256/256/256%256) 8+(zt (x/256/256/256/256%256) 8+
 (zt (x/256/256/256/256/256%256) 8+(zt (x/256/256/256/256/256/256%256) 8+zt (x/256/256/256/256/256/256/256%256) 8)))))):=by
 have s:∀y n,zt y (8+n)=zt (y%256) 8+zt (y/256) n:=fun y n=>by
  rw[Jh y 8 n]
  have:=qp6 y 8 8 (zmx _)
  rw[<-this]
 have e64:(64:Nat)=8+(8+(8+(8+(8+(8+(8+(8+0))))))):=rfl
 rw[e64]
 simp only[s]
 rfl
theorem qza(c:Nat)(c0 c1 c2 c3 c4 c5 c6 c7:Nat)(h0:c0<=8)(h1:c1<=8)(h2:c2<=8)(h3:c3<=8)(h4:c4<=8)(h5:c5<=8)(h6:c6<=8)(h7:c7<=8)
 (h:c=((((((c7*256+c6)*256+c5)*256+c4)*256+c3)*256+c2)*256+c1)*256+c0):
 c<651061555542690057/\∃d,d=c+c/256/\∃e,e=d+d/65536/\e+e/4294967296<9223372036854775808/\(e+e/4294967296)%128=c0+(c1+(c2+(c3+(c4+(c5+(c6+c7)))))):=by
 obtain⟨A7,hA7⟩:∃A,A=c7:=⟨_,rfl⟩
 obtain⟨A6,hA6⟩:∃A,A=A7*256+c6:=⟨_,rfl⟩
 obtain⟨A5,hA5⟩:∃A,A=A6*256+c5:=⟨_,rfl⟩
 obtain⟨A4,hA4⟩:∃A,A=A5*256+c4:=⟨_,rfl⟩
 obtain⟨A3,hA3⟩:∃A,A=A4*256+c3:=⟨_,rfl⟩
 obtain⟨A2,hA2⟩:∃A,A=A3*256+c2:=⟨_,rfl⟩
 obtain⟨A1,hA1⟩:∃A,A=A2*256+c1:=⟨_,rfl⟩
 rw[<-hA7,<-hA6,<-hA5,<-hA4,<-hA3,<-hA2,<-hA1]at h
 have dv:∀a b:Nat,b<256->(a*256+b)/256=a:=fun a b hb=>qe
 have b7:A7<=8:=qe
 have b6:A6<=2056:=qe
 have b5:A5<=526344:=qe
 have b4:A4<=134744072:=qe
 have b3:A3<=34494482440:=qe
 have b2:A2<=8830587504648:=qe
 have b1:A1<=2260630401189896:=qe
 have b0:c<=578721382704613384:=qe
 have e0:c/256=A1:=by rw[h];exact dv A1 c0 qe
 --the first sum
 have s7:A7=0*256+c7:=qe
 have s6:A6+A7=A7*256+(c6+c7):=qe
 have s5:A5+A6=(A6+A7)*256+(c5+c6):=qe
 have s4:A4+A5=(A5+A6)*256+(c4+c5):=qe
 have s3:A3+A4=(A4+A5)*256+(c3+c4):=qe
 have s2:A2+A3=(A3+A4)*256+(c2+c3):=qe
 have s1:A1+A2=(A2+A3)*256+(c1+c2):=qe
 have s0:c+A1=(A1+A2)*256+(c0+c1):=qe
 refine⟨qe,_,rfl,_,rfl,?_⟩
 rw[e0]
 generalize hd:c+A1=d at*
 generalize hB1:A1+A2=B1 at*
 generalize hB2:A2+A3=B2 at*
 generalize hB3:A3+A4=B3 at*
 generalize hB4:A4+A5=B4 at*
 generalize hB5:A5+A6=B5 at*
 generalize hB6:A6+A7=B6 at*
 have e1:d/65536=B2:=by
  have:d/65536=d/256/256:=by rw[zo0]
  rw[this,s0,dv _ _ qe,s1,dv _ _ qe]
 have t6:B6=A7*256+(c6+c7):=s6
 have t4:B4+B6=(B5+A7)*256+(c4+c5+(c6+c7)):=qe
 have t3:B3+B5=(B4+B6)*256+(c3+c4+(c5+c6)):=qe
 have t2:B2+B4=(B3+B5)*256+(c2+c3+(c4+c5)):=qe
 have t1:B1+B3=(B2+B4)*256+(c1+c2+(c3+c4)):=qe
 have t0:d+B2=(B1+B3)*256+(c0+c1+(c2+c3)):=qe
 rw[e1]
 have hde:d+B2<=600000000000000000:=qe
 generalize hE0:d+B2=E0 at*
 generalize hE1:B1+B3=E1 at*
 generalize hE2:B2+B4=E2 at*
 generalize hE3:B3+B5=E3 at*
 generalize hE4:B4+B6=E4 at*
 have e2:E0/4294967296=E4:=by
  have:E0/4294967296=E0/256/256/256/256:=by rw[zo0,zo0,zo0]
  rw[this,t0,dv _ _ qe,t1,dv _ _ qe,t2,dv _ _ qe,t3,dv _ _ qe]
 rw[e2]
 have hE4b:E4<=1000000000000:=qe
 clear hd hB1 hB2 hB3 hB4 hB5 hB6 s0 s1 s2 s3 s4 s5 s6 s7 h hA1 hA2 hA3 hA4 hA5 hA6 hA7 e0 e1 t1 t2 t3 t6 hE0 hE1 hE2 hE3 hE4 e2
 refine⟨qe,?_⟩
 have m:∀a b s t:Nat,(a*256+s+(b*256+t))%128=(s+t)%128:=fun a b s t=>qe
 rw[t0,t4,m]
 omega
def jz(m:Nat):Nat->Nat
 |0=>0
 |n+1=>jz m n+(m.testBit n&&!(decide (0<n)&&m.testBit (n-1))).toNat
def yD(m:Nat):Nat->Nat->List Int
 |0,_=>[]
 |f+1,i=>if m.testBit i then(i:Int)::yD m f (i+1)else yD m f (i+1)
def yB(m:Nat):Nat->Nat->List Int
 |0,_=>[]
 |f+1,i=>((m/2^(8*i)%256:Nat):Int)::yB m f (i+1)
def yu(m:Nat):Nat->Nat->Nat
 |0,i=>i
 |f+1,i=>if m.testBit (i+1)then yu m f (i+1)else i
def kC(m:Nat):Nat->Nat->List Int
 |0,_=>[]
 |f+1,i=>if 256<=i then []else if m.testBit i then(i:Int)::((yu m (255-i) i-i:Nat):Int)::kC m f (yu m (255-i) i+1)else kC m f (i+1)
def kind(m:Nat):Nat:=if zt m 256+1<=32/\zt m 256+1<=2*jz m 256+1 then 0 else if 32<=2*jz m 256+1 then 1 else 2
def QX(m:Nat):List Int:=if kind m=0 then((zt m 256-1:Nat):Int)::yD m 256 0 else if kind m=1 then yB m 32 0 else((jz m 256-1:Nat):Int)::kC m 256 0
def yA(c:Nat×Nat):List Int:=uv c.1++((kind c.2:Nat):Int)::QX c.2
def wG:List (Nat×Nat)->List Int
 |[]=>[]
 |c::r=>yA c++wG r
def jV(cs:List (Nat×Nat)):List Int:=uv cs.length++wG cs
def JX(x:Nat):List (Nat×Nat)->List (Nat×Nat)
 |[]=>[(x/256,2^(x%256))]
 |c::r=>if c.1=x/256 then(c.1,c.2|||2^(x%256))::r else(x/256,2^(x%256))::c::r
def jO:List Nat->List (Nat×Nat)
 |[]=>[]
 |x::r=>JX x (jO r)
theorem JW(m:Nat):∀n,jz m n<=zt m n:=by
 intro n
 induction n with
 |zero=>exact zmx _
 |succ n ih=>
  show jz m n+_<=zt m n+_
  cases m.testBit n
  ·simpa using ih
  ·have:=b2n (true&&!(decide (0<n)&&m.testBit (n-1)))
   have e:true.toNat=1:=rfl
   omega
theorem qkx(m:Nat):∀f i,(yD m f i).length+zt m i=zt m (i+f):=by
 intro f
 induction f with
 |zero=>intro i;simp[yD]
 |succ f ih=>
  intro i
  have h:=ih (i+1)
  have e:i+1+f=i+(f+1):=qe
  rw[e]at h
  have e2:zt m (i+1)=zt m i+(m.testBit i).toNat:=rfl
  rw[e2]at h
  unfold yD
  cases hb:m.testBit i
  ·rw[hb]at h;simpa using h
  ·rw[hb]at h
   have e3:true.toNat=1:=rfl
   simp only[if_true,zmu]
   omega
@[simp] theorem qko (m : Nat) : ∀ f i, (yB m f i).length = f := by
 intro f
 induction f with
 |zero=>intro i;rfl
 |succ f ih=>intro i;simp[yB,ih]
theorem qal(m i j:Nat)(hj:j<8):(m/2^(8*i)%256).testBit j=m.testBit (8*i+j):=by
 have e:(256:Nat)=2^8:=rfl
 rw[e,zm7,znu]
 simp[hj,zqm]
theorem wg(m:Nat):∀f i,i<=yu m f i/\yu m f i<=i+f/\(∀j,i<j->j<=yu m f i->m.testBit j=true)/\(yu m f i<i+f->m.testBit (yu m f i+1)=false):=by
 intro f
 induction f with
 |zero=>intro i;exact⟨zmx _,zmx _,fun j h1 h2=>by have h2:j<=i:=h2;omega,fun h=>by have h:i<i+0:=h;omega⟩
 |succ f ih=>
  intro i
  unfold yu
  by_cases hb:m.testBit (i+1)=true
  ·rw[if_pos hb]
   obtain⟨h1,h2,h3,h4⟩:=ih (i+1)
   refine⟨qe,qe,fun j a b=>?_,fun h=>h4 qe⟩
   by_cases e:j=i+1
   ·subst e;exact hb
   ·exact h3 j qe b
  ·rw[if_neg hb]
   exact⟨zmx _,qe,fun j a b=>qe,fun _=>by simpa using hb⟩
def inR(j:Nat):List Int->Prop
 |a::b::r=>(a<=(j:Int)/\(j:Int)<=a+b)\/inR j r
 |_=>False
theorem zif(m:Nat):∀f i,256<=i+f->∀j,inR j (kC m f i)↔(i<=j/\j<256/\m.testBit j=true):=by
 intro f
 induction f with
 |zero=>intro i h j;show False↔_;constructor
        ·intro h;cases h
        ·intro h;omega
 |succ f ih=>
  intro i h j
  unfold kC
  by_cases h1:256<=i
  ·rw[if_pos h1]
   show False↔_
   constructor
   ·intro h;cases h
   ·intro h;omega
  ·rw[if_neg h1]
   by_cases hb:m.testBit i=true
   ·rw[if_pos hb]
    obtain⟨r1,r2,r3,r4⟩:=wg m (255-i) i
    have hi:=ih (yu m (255-i) i+1) qe j
    generalize yu m (255-i) i=e at*
    show(((i:Int)<=(j:Int)/\(j:Int)<=(i:Int)+((e-i:Nat):Int))\/inR j _)↔_
    rw[hi]
    constructor
    ·rintro(q|q)
     ·refine⟨qe,qe,?_⟩
      by_cases ej:j=i
      ·subst ej;exact hb
      ·exact r3 j qe qe
     ·exact⟨qe,q.2.1,q.2.2⟩
    ·intro q
     by_cases q1:j<=e
     ·exact .inl ⟨qe,qe⟩
     ·exact .inr ⟨qe,q.2.1,q.2.2⟩
   ·rw[if_neg hb,ih (i+1) qe j]
    constructor
    ·intro q;exact⟨qe,q.2.1,q.2.2⟩
    ·intro q
     by_cases ej:j=i
     ·subst ej;exact absurd q.2.2 hb
     ·exact⟨qe,q.2.1,q.2.2⟩
theorem zef(m:Nat):∀f i,256<=i+f->i<=256->(i=0\/i=256\/m.testBit (i-1)=false\/m.testBit i=false)->(kC m f i).length+2*jz m i=2*jz m 256:=by
 intro f
 induction f with
 |zero=>intro i h hi _;have:i=256:=qe
        subst this;simp[kC]
 |succ f ih=>
  intro i h hi hs
  unfold kC
  by_cases h1:256<=i
  ·rw[if_pos h1]
   have:i=256:=qe
   subst this;simp
  ·rw[if_neg h1]
   have e1:jz m (i+1)=jz m i+(m.testBit i&&!(decide (0<i)&&m.testBit (i-1))).toNat:=rfl
   by_cases hb:m.testBit i=true
   ·rw[if_pos hb]
    obtain⟨r1,r2,r3,r4⟩:=wg m (255-i) i
    have e2:jz m (i+1)=jz m i+1:=by
     rw[e1,hb]
     have:(decide (0<i)&&m.testBit (i-1))=false:=by
      rcases hs with q|q|q|q
      ·simp[q]
      ·omega
      ·simp[q]
      ·rw[hb]at q;cases q
     rw[this];rfl
    have e3:∀d,i+1+d<=yu m (255-i) i+1->jz m (i+1+d)=jz m (i+1):=by
     intro d
     induction d with
     |zero=>intro _;rfl
     |succ d ihd=>
      intro hd
      have:=ihd qe
      have e4:jz m (i+1+(d+1))=jz m (i+1+d)+(m.testBit (i+1+d)&&!(decide (0<i+1+d)&&m.testBit (i+1+d-1))).toNat:=rfl
      have e5:m.testBit (i+1+d-1)=true:=by
       by_cases q:d=0
       ·subst q;exact hb
       ·exact r3 _ qe qe
      have e8:(decide (0<i+1+d))=true:=qi
      rw[e4,this,e5,e8]
      simp
    have e6:=e3 (yu m (255-i) i-i) qe
    have e7:i+1+(yu m (255-i) i-i)=yu m (255-i) i+1:=qe
    rw[e7,e2]at e6
    have hi2:=ih (yu m (255-i) i+1) qe qe (by
     by_cases q:yu m (255-i) i<i+(255-i)
     ·exact .inr (.inr (.inr (r4 q)))
     ·exact .inr (.inl qe))
    simp only[zmu]
    omega
   ·rw[if_neg hb]
    have hb':m.testBit i=false:=by simpa using hb
    have e2:jz m (i+1)=jz m i:=by rw[e1,hb'];rfl
    have:=ih (i+1) qe qe (.inr (.inr (.inl (by simpa using hb'))))
    omega
theorem vn(m:Nat):(kC m 256 0).length=2*jz m 256:=by
 have h:=zef m 256 0 qe qe (.inl rfl)
 have e:jz m 0=0:=rfl
 omega
theorem Kp(m:Nat):(yD m 256 0).length=zt m 256:=by
 have h:=qkx m 256 0
 have e:zt m 0=0:=rfl
 have e2:0+256=256:=rfl
 rw[e2]at h
 omega
theorem YS:∀(n m:Nat),0<zt m n->∃j,j<n/\m.testBit j=true:=by
 intro n
 induction n with
 |zero=>intro m h;cases h
 |succ n ih=>
  intro m h
  cases hb:m.testBit n
  ·have e:zt m (n+1)=zt m n+(m.testBit n).toNat:=rfl
   rw[e,hb]at h
   obtain⟨j,h1,h2⟩:=ih m h
   exact⟨j,qe,h2⟩
  ·exact⟨n,qe,hb⟩
theorem qp4:∀(n m j:Nat),j<n->m.testBit j=true->0<zt m n:=by
 intro n
 induction n with
 |zero=>intro m j h;omega
 |succ n ih=>
  intro m j h hb
  have e:zt m (n+1)=zt m n+(m.testBit n).toNat:=rfl
  rw[e]
  by_cases hj:j=n
  ·subst hj;rw[hb];exact Nat.succ_pos _
  ·have:=ih m j qe hb;omega
theorem Vr{m:Nat}(h:0<zt m 256):0<jz m 256:=by
 obtain⟨j,h1,h2⟩:=YS 256 m h
 by_cases hr:jz m 256=0
 ·have h3:=vn m
  rw[hr]at h3
  have h4:kC m 256 0=[]:=zm9.mp h3
  have h5:=(zif m 256 0 qe j).mpr ⟨qe,h1,h2⟩
  rw[h4]at h5
  cases h5
 ·omega
def YT(c:Nat×Nat):Prop:=c.1<16777216/\c.2<2^256/\0<zt c.2 256
theorem jp(i j:Nat):(2^i).testBit j=decide (i=j):=zn6
theorem zlh{m x:Nat}(hm:m<2^256):m|||2^(x%256)<2^256:=zrh hm (zqe qh qe)
theorem zer(x:Nat):2^(x%256)<2^256:=zqe qh qe
theorem xc(x:Nat)(c:Nat×Nat)(r:List (Nat×Nat)):JX x (c::r)=if c.1=x/256 then(c.1,c.2|||2^(x%256))::r else(x/256,2^(x%256))::c::r:=rfl
theorem zeq{x:Nat}(hx:x<4294967296):∀{cs:List (Nat×Nat)},(∀c∈cs,YT c)->∀c∈JX x cs,YT c:=by
 intro cs h c hc
 have new:YT (x/256,2^(x%256)):=⟨by show x/256<_;omega,zer x,qp4 256 _ (x%256) qe (by rw[jp];simp)⟩
 cases cs with
 |nil=>
  have e:c=(x/256,2^(x%256)):=by simpa[JX]using hc
  rw[e];exact new
 |cons d r=>
  have hd:=h d qg
  rw[xc]at hc
  split at hc
  ·rcases zmy.mp hc with e|e
   ·rw[e]
    refine⟨hd.1,zlh hd.2.1,qp4 256 _ (x%256) qe ?_⟩
    show(d.2|||2^(x%256)).testBit _=_
    rw[znt,jp];simp
   ·exact h c (by simp[e])
  ·rcases zmy.mp hc with e|e
   ·rw[e];exact new
   ·exact h c e
theorem wP:∀{l:List Nat},(∀x∈l,x<4294967296)->∀c∈jO l,YT c:=by
 intro l
 induction l with
 |nil=>intro _ c hc;cases hc
 |cons x r ih=>intro h;exact zeq (h x qg) (ih fun y hy=>h y (by simp[hy]))
theorem qhb:∀(l:List Nat),qM l->((∀c∈jO l,∀x∈l.head?,x/256<=c.1)/\∀y,y∈l↔∃c∈jO l,c.1=y/256/\c.2.testBit (y%256)=true):=by
 intro l
 induction l with
 |nil=>intro _;exact⟨fun c hc=>(by cases hc),fun y=>by simp[jO]⟩
 |cons x r ih=>
  intro hr
  have hr2:qM r:=by cases r with
   |nil=>trivial
   |cons z s=>exact hr.2
  obtain⟨i1,i2⟩:=ih hr2
  have hge:∀c∈jO r,x/256<=c.1:=by
   intro c hc
   cases r with
   |nil=>cases hc
   |cons z s=>
    have h1:=i1 c hc z qg
    have h2:=hr.1
    have:x/256<=z/256:=zo9 (zpy h2)
    omega
  have e:jO (x::r)=JX x (jO r):=rfl
  rw[e]
  constructor
  ·intro c hc z hz
   have hz:x=z:=by simpa using hz
   subst hz
   cases hq:jO r with
   |nil=>
    rw[hq]at hc
    have:c=(x/256,2^(x%256)):=by simpa[JX]using hc
    rw[this];exact zmx _
   |cons d s=>
    rw[hq]at hc hge
    rw[xc]at hc
    split at hc
    ·rcases zmy.mp hc with e|e
     ·rw[e];exact hge d qg
     ·exact hge c (by simp[e])
    ·rcases zmy.mp hc with e|e
     ·rw[e];exact zmx _
     ·exact hge c e
  ·intro y
   rw[zmy,i2]
   cases hq:jO r with
   |nil=>
    simp only[JX,zpx,exists_eq_left,zqv,false_and,exists_false,or_false,jp,decide_eq_true_eq]
    constructor
    ·intro h;subst h;exact⟨rfl,rfl⟩
    ·intro h;omega
   |cons d s=>
    rw[xc]
    split
    ·rename_i hd
     constructor
     ·rintro(h|⟨c,hc,h1,h2⟩)
      ·subst h
       exact⟨_,zp3,hd,by show(d.2|||_).testBit _=true;rw[znt,jp];simp⟩
      ·rcases zmy.mp hc with e|e
       ·subst e
        exact⟨_,zp3,h1,by show(c.2|||_).testBit _=true;rw[znt,h2];rfl⟩
       ·exact⟨c,by simp[e],h1,h2⟩
     ·rintro⟨c,hc,h1,h2⟩
      rcases zmy.mp hc with e|e
      ·subst e
       rw[znt,jp]at h2
       by_cases hy:x%256=y%256
       ·left
        have h1:d.1=y/256:=h1
        omega
       ·right
        exact⟨d,qg,h1,by simpa[hy]using h2⟩
      ·exact .inr ⟨c,by simp[e],h1,h2⟩
    ·rename_i hd
     constructor
     ·rintro(h|⟨c,hc,h1,h2⟩)
      ·subst h
       exact⟨_,zp3,rfl,by show(2^_).testBit _=true;rw[jp];simp⟩
      ·exact⟨c,zo7 _ hc,h1,h2⟩
     ·rintro⟨c,hc,h1,h2⟩
      rcases zmy.mp hc with e|e
      ·subst e
       rw[jp]at h2
       have h1:x/256=y/256:=h1
       have h2:x%256=y%256:=by simpa using h2
       left;omega
      ·exact .inr ⟨c,e,h1,h2⟩
theorem wZ:∀(l:List Nat) (x:Nat),qM (x::l)->∀y∈l,x<y:=by
 intro l
 induction l with
 |nil=>intro x _ y h;cases h
 |cons z s ih=>
  intro x h y hy
  rcases zmy.mp hy with e|e
  ·rw[e];exact h.1
  ·have:=ih z h.2 y e;have:=h.1;omega
theorem ke{x:Nat}{l:List Nat}(h:qM (x::l)):qM l:=by
 cases l with
 |nil=>trivial
 |cons z s=>exact h.2
theorem qnc:∀(l m:List Nat),qM l->qM m->(∀y,y∈l↔y∈m)->l=m:=by
 intro l
 induction l with
 |nil=>
  intro m _ _ h
  cases m with
  |nil=>rfl
  |cons y s=>exact absurd ((h y).mpr qg) qg
 |cons x r ih=>
  intro m h1 h2 h
  cases m with
  |nil=>exact absurd ((h x).mp qg) qg
  |cons y s=>
   have l1:=wZ r x h1
   have l2:=wZ s y h2
   have e:x=y:=by
    rcases zmy.mp ((h x).mp qg)with e|e
    ·exact e
    ·rcases zmy.mp ((h y).mpr qg)with e'|e'
     ·exact e'.symm
     ·have:=l1 y e';have:=l2 x e;omega
   subst e
   rw[ih s (ke h1) (ke h2) fun y=>?_]
   have hy:=h y
   constructor
   ·intro q
    rcases zmy.mp (hy.mp (by simp[q]))with e|e
    ·have:=l1 y q;omega
    ·exact e
   ·intro q
    rcases zmy.mp (hy.mpr (by simp[q]))with e|e
    ·have:=l2 y q;omega
    ·exact e
def zO:List Nat->Prop
 |[]=>True
 |[_]=>True
 |x::y::r=>x<=y/\zO (y::r)
def Vj(n last:Nat):Nat->Nat->Nat
 |0,k=>k
 |f+1,k=>if 0<n/\n<=last/2^(k+1)then Vj n last f (k+1)else k
def WJ(n last:Nat):Nat:=Vj n last 33 0
def qN(k:Nat):List Nat->List Bool
 |[]=>[]
 |x::r=>xW x k++qN k r
def qG(k w:Nat):List Nat->List Bool
 |[]=>[]
 |x::r=>una (x/2^k-w)++qG k (x/2^k) r
def qI(l:List Nat):Nat:=l.getD (l.length-1) 0
def qA(l:List Nat):Nat:=WJ l.length (qI l)
def zB(l:List Nat):List Int:=uv l.length++uv (qI l)++pk (qN (qA l) l)++uv (pk (qG (qA l) 0 l)).length++pk (qG (qA l) 0 l)
@[simp] theorem Qe (k : Nat) (l : List Nat) : (qN k l).length = l.length * k := by
 induction l with
 |nil=>simp[qN]
 |cons x r ih=>simp[qN,ih,zpi];omega
theorem zfl(n last:Nat)(hn:0<n)(hl:last<4294967296):∀(f k:Nat),k+f=33->Vj n last f k<=33/\last/2^(Vj n last f k+1)<n:=by
 intro f
 induction f with
 |zero=>
  intro k h
  have e:k=33:=qe
  subst e
  refine⟨zmx _,?_⟩
  show last/2^34<n
  have:last/2^34=0:=zp1 (znc hl qh)
  omega
 |succ f ih=>
  intro k h
  unfold Vj
  split
  ·exact ih (k+1) qe
  ·rename_i h1
   refine⟨qe,?_⟩
   by_cases h2:n<=last/2^(k+1)
   ·exact absurd ⟨hn,h2⟩ h1
   ·omega
theorem zfm(n last:Nat)(hl:last<4294967296):∀(f k:Nat),k<=32->Vj n last f k<=32:=by
 intro f
 induction f with
 |zero=>intro k h;exact h
 |succ f ih=>
  intro k h
  unfold Vj
  split
  ·rename_i h1
   apply ih
   by_cases h2:k=32
   ·subst h2
    have:last/2^33=0:=zp1 (znc hl qh)
    have h3:=h1.2
    have e:(32:Nat)+1=33:=rfl
    rw[e,this]at h3
    omega
   ·omega
  ·exact h
theorem qqk(n last:Nat)(hl:last<4294967296):WJ n last<=32:=zfm n last hl 33 0 qe
theorem ZG{n last:Nat}(hn:0<n)(hl:last<4294967296):last/2^WJ n last<2*n:=by
 have h:=(zfl n last hn hl 33 0 rfl).2
 have e:last/2^(WJ n last+1)=last/2^WJ n last/2:=by rw[zoo,zo0]
 have h':last/2^(WJ n last+1)<n:=h
 omega
theorem Yd(x y:Nat)(r:List Nat):qI (x::y::r)=qI (y::r):=rfl
theorem qt2(k:Nat):∀(l:List Nat) (p:Nat),zO (p::l)->(qG k (p/2^k) l).length+p/2^k=l.length+qI (p::l)/2^k:=by
 intro l
 induction l with
 |nil=>intro p _;simp[qG,qI]
 |cons x r ih=>
  intro p h
  have hi:=ih x h.2
  have hd:p/2^k<=x/2^k:=zo9 h.1
  rw[Yd]
  simp only[qG,zmt,Yw,zmu]
  omega
theorem jE:∀{l:List Nat},zO l->zO (0::l):=by
 intro l h
 cases l with
 |nil=>trivial
 |cons x r=>exact⟨znl _,h⟩
theorem WM(k:Nat)(l:List Nat)(h:zO l):(qG k 0 l).length=l.length+qI l/2^k:=by
 have h1:=qt2 k l 0 (jE h)
 rw[zqn,zoi]at h1
 rw[h1]
 cases l with
 |nil=>rfl
 |cons x r=>rw[Yd]
def fEq(a b:Nat):Bool:=decide (¬yQ a/\¬yQ b/\jl a=jl b)
theorem jw(a:Nat):fEq a a=decide (¬yQ a):=by unfold fEq;congr 1;apply propext;constructor<;>intro h<;>simp_all
section
variable (P:Program)(t:TypeId)(x y:Operand)(a b:Nat)
theorem yN(op:BinOp):eqGuard op t x y (.float .f64 a) (.float .f64 b)=pure ():=by
 cases op<;>rfl
@[simp] theorem zku : qx P .lss t x y (.float .f64 a) (.float .f64 b) = some (.bool (KW a b)) := by
 unfold qx
 rw[yN]
 show one (some (Value.bool (Ieee.double.order a b==some .lt)))=_
 rw[f_lt];rfl
@[simp] theorem zkw : qx P .gtr t x y (.float .f64 a) (.float .f64 b) = some (.bool (KW b a)) := by
 unfold qx
 rw[yN]
 show one (some (Value.bool (Ieee.double.order a b==some .gt)))=_
 rw[f_gt]
 unfold KW
 show some (Value.bool _)=_
 congr 2
 apply decide_eq_decide.mpr
 constructor<;>(rintro⟨h1,h2,h3⟩;exact⟨h2,h1,h3⟩)
@[simp] theorem zkx : qx P .eql t x y (.float .f64 a) (.float .f64 b) = some (.bool (fEq a b)) := by
 unfold qx
 rw[yN]
 show one (some (Value.bool (Ieee.double.order a b==some .eq)))=_
 rw[zjh];rfl
@[simp] theorem zkt : qx P .neq t x y (.float .f64 a) (.float .f64 b) = some (.bool (!fEq a b)) := by
 unfold qx
 rw[yN]
 show one (some (Value.bool (!(Ieee.double.order a b==some .eq))))=_
 rw[zjh];rfl
@[simp] theorem zkv : qx P .leq t x y (.float .f64 a) (.float .f64 b) = some (.bool (KW a b || fEq a b)) := by
 unfold qx
 rw[yN]
 show one (some (Value.bool (Ieee.double.order a b==some .lt||Ieee.double.order a b==some .eq)))=_
 rw[zjh,f_lt];rfl
end
section
variable (P:Program)(t:TypeId)(x y:Operand)
theorem Zn(n:Nat)(h:n<18446744073709551616):IntKind.u64.wrap (n:Int)=n:=qu qe qe
theorem qkt(n:Nat)(h:n<9223372036854775808):qx P .or t x y (.int .u64 (n:Int)) (.int .u64 9223372036854775808)=some (.int .u64 ((n+9223372036854775808:Nat):Int)):=by
 rw[zR]
 show some (Value.int .u64 (IntKind.u64.wrap ((BitVec.ofInt 64 (n:Int)|||BitVec.ofInt 64 9223372036854775808).toNat:Nat)))=_
 rw[qus n h,Zn _ qe]
theorem Vb(n:Nat)(h:n<9223372036854775808):qx P .and t x y (.int .u64 (n:Int)) (.int .u64 9223372036854775808)=some (.int .u64 0):=by
 rw[zm]
 show some (Value.int .u64 (IntKind.u64.wrap ((BitVec.ofInt 64 (n:Int)&&&BitVec.ofInt 64 9223372036854775808).toNat:Nat)))=_
 rw[qbp n h]
 rfl
theorem Vc(n:Nat)(h:9223372036854775808<=n)(h':n<18446744073709551616):qx P .and t x y (.int .u64 (n:Int)) (.int .u64 9223372036854775808)=some (.int .u64 9223372036854775808):=by
 rw[zm]
 show some (Value.int .u64 (IntKind.u64.wrap ((BitVec.ofInt 64 (n:Int)&&&BitVec.ofInt 64 9223372036854775808).toNat:Nat)))=_
 rw[qbq n h h']
 rfl
theorem qo0(n:Nat)(h:n<18446744073709551616):qx P .andNot t x y (.int .u64 (n:Int)) (.int .u64 9223372036854775808)=some (.int .u64 ((n%9223372036854775808:Nat):Int)):=by
 rw[jy P t x y .u64 (n:Int) 9223372036854775808 .andNot qh qh]
 show some (Value.int .u64 (IntKind.u64.wrap ((BitVec.ofInt 64 (n:Int)&&&~~~(BitVec.ofInt 64 9223372036854775808)).toNat:Nat)))=_
 rw[qhd n h,Zn _ qe]
theorem zjw(n:Nat)(h:n<18446744073709551616):(BitVec.ofInt 64 18446744073709551615^^^BitVec.ofInt 64 (n:Int)).toNat=18446744073709551615-n:=by
 have e:BitVec.ofInt 64 18446744073709551615=BitVec.allOnes 64:=qh
 rw[e,BitVec.allOnes_xor,BitVec.toNat_not,znh]
 have e1:(((n:Int)%((2^64:Nat):Int)).toNat)=n:=qe
 rw[e1]
theorem qby(n:Nat)(h:n<18446744073709551616):unV P .xor (.int .u64 (n:Int))=some (.int .u64 ((18446744073709551615-n:Nat):Int)):=by
 show some (Value.int .u64 (IntKind.u64.wrap ((BitVec.ofInt 64 18446744073709551615^^^BitVec.ofInt 64 (n:Int)).toNat:Nat)))=_
 rw[zjw n h,Zn _ qe]
def nw(w:Nat):Nat:=if w<9223372036854775808 then w+9223372036854775808 else w-9223372036854775808
theorem zdd(w:Nat)(h:w<18446744073709551616):w^^^2^63=nw w:=by
 unfold nw
 by_cases h1:w<9223372036854775808
 ·rw[if_pos h1]
  have e:w+9223372036854775808=2^63*1+w:=qe
  rw[e,zpe qe]
  apply zn5
  intro i
  rw[Nat.testBit_xor,znt,zom,zn6]
  by_cases hi:63=i
  ·subst hi
   rw[zp6 qe]
   rfl
  ·simp[hi]
 ·rw[if_neg h1]
  obtain⟨m,rfl⟩:∃m,w=2^63*1+m:=⟨w-2^63,qe⟩
  have e:2^63*1+m-9223372036854775808=m:=qe
  rw[e,zpe qe]
  apply zn5
  intro i
  rw[Nat.testBit_xor,znt,zom,zn6]
  by_cases hi:63=i
  ·subst hi
   rw[zp6 (show m<2^63 by omega)]
   rfl
  ·simp[hi]
theorem qxp(w:Nat)(h:w<18446744073709551616):unV P .neg (.float .f64 w)=some (.float .f64 (nw w)):=by
 rw[<-zdd w h];rfl
end
theorem WG(n:Int):FloatKind.f64.nearest n<18446744073709551616:=by
 have e1:Ieee.double.signWeight=9223372036854775808:=qh
 have e3:Ieee.double.infRung=9218868437227405312:=qh
 have hw:∀(s:Bool) (r:Nat),r<=9218868437227405312->Ieee.double.word s r<18446744073709551616:=by
  intro s r hr
  unfold Ieee.Format.word
  rw[e1]
  split<;>omega
 have key:∀(s:Bool) (m:Nat) (p:Int),Ieee.double.nearest s m p<18446744073709551616:=by
  intro s m p
  unfold Ieee.Format.nearest
  split
  ·exact hw _ _ qe
  ·rw[e3]
   exact hw _ _ (Nat.min_le_right _ _)
 exact key (decide (n<0)) n.natAbs 0
def mk:List Nat->List Nat->List Nat
 |[],b=>b
 |a,[]=>a
 |x::a,y::b=>if y<x then y::mk (x::a) b else x::mk a (y::b)
termination_by a b=>a.length+b.length
@[simp] theorem ZC(b:List Nat):mk [] b=b:=by unfold mk;rfl
@[simp] theorem ZB(a:List Nat):mk a []=a:=by cases a<;>(unfold mk;rfl)
theorem xr(x:Nat)(a:List Nat)(y:Nat)(b:List Nat):mk (x::a) (y::b)=if y<x then y::mk (x::a) b else x::mk a (y::b):=by
 rw[mk]
theorem qnx{motive:List Nat->List Nat->Prop}(h1:∀b,motive [] b)(h2:∀a,motive a [])(h3:∀x a y b,y<x->motive (x::a) b->motive (x::a) (y::b))
 (h4:∀x a y b,¬y<x->motive a (y::b)->motive (x::a) (y::b)):∀a b,motive a b:=by
 intro a b
 generalize hn:a.length+b.length=n
 induction n using Nat.strongRecOn generalizing a b with
 |_ n ih=>
  cases a with
  |nil=>exact h1 b
  |cons x a=>
   cases b with
   |nil=>exact h2 _
   |cons y b=>
    by_cases hyx:y<x
    ·exact h3 x a y b hyx (ih ((x::a).length+b.length) (by simp at hn⊢;omega) _ _ rfl)
    ·exact h4 x a y b hyx (ih (a.length+(y::b).length) (by simp at hn⊢;omega) _ _ rfl)
theorem Vv:∀a b,(mk a b).Perm (a++b):=by
 apply qnx (motive:=fun a b=>(mk a b).Perm (a++b))
 ·intro b;simp
 ·intro a;simp
 ·intro x a y b h ih
  rw[xr,if_pos h]
  exact(List.Perm.cons y ih).trans List.perm_middle.symm
 ·intro x a y b h ih
  rw[xr,if_neg h]
  exact List.Perm.cons x ih
abbrev Up(l:List Nat):Prop:=l.Pairwise (·<=·)
theorem zab:∀a b,Up a->Up b->Up (mk a b):=by
 apply qnx (motive:=fun a b=>Up a->Up b->Up (mk a b))
 ·intro b _ h;simpa using h
 ·intro a h _;simpa using h
 ·intro x a y b h ih ha hb
  rw[xr,if_pos h]
  have hb':=zm1.mp hb
  have ha':=zm1.mp ha
  refine zm1.mpr ⟨fun n hn=>?_,ih ha hb'.2⟩
  rcases zn3.mp ((Vv _ _).mem_iff.mp hn)with h'|h'
  ·rcases zmy.mp h' with rfl|h'
   ·omega
   ·have:=ha'.1 n h';omega
  ·exact hb'.1 n h'
 ·intro x a y b h ih ha hb
  rw[xr,if_neg h]
  have hb':=zm1.mp hb
  have ha':=zm1.mp ha
  refine zm1.mpr ⟨fun n hn=>?_,ih ha'.2 hb⟩
  rcases zn3.mp ((Vv _ _).mem_iff.mp hn)with h'|h'
  ·exact ha'.1 n h'
  ·rcases zmy.mp h' with rfl|h'
   ·omega
   ·have:=hb'.1 n h';omega
theorem qme:∀{a b:List Nat},Up a->Up b->a.Perm b->a=b
 |[],b,_,_,h=>(List.Perm.nil_eq h)
 |x::a,[],_,_,h=>absurd h.length_eq qg
 |x::a,y::b,ha,hb,h=>by
  have ha':=zm1.mp ha
  have hb':=zm1.mp hb
  have hxy:x=y:=by
   have h1:=zmy.mp (h.mem_iff.mp (by simp:x∈x::a))
   have h2:=zmy.mp (h.mem_iff.mpr (by simp:y∈y::b))
   rcases h1 with h1|h1
   ·exact h1
   ·rcases h2 with h2|h2
    ·exact h2.symm
    ·have:=ha'.1 y h2
     have:=hb'.1 x h1
     omega
  subst hxy
  rw[qme ha'.2 hb'.2 (List.Perm.cons_inv h)]
theorem zdm:∀(A B:List Nat) (k m n:Nat),k<=m->k<=n->(mk (A.take m) (B.take n)).take k=(mk A B).take k:=by
 apply qnx (motive:=fun A B=>∀(k m n:Nat),k<=m->k<=n->(mk (A.take m) (B.take n)).take k=(mk A B).take k)
 ·intro b k m n hm hn
  rw[zqu,ZC,ZC,zq9,zpo hn]
 ·intro a k m n hm hn
  rw[zqu,ZB,ZB,zq9,zpo hm]
 ·intro x a y b h ih k m n hm hn
  match k,m,n,hm,hn with
  |0,_,_,_,_=>simp
  |k+1,m+1,n+1,hm,hn=>
   have:=ih k (m+1) n qe qe
   rw[zna]at this
   rw[zna,zna,xr,xr,if_pos h,if_pos h,zna,zna,this]
 ·intro x a y b h ih k m n hm hn
  match k,m,n,hm,hn with
  |0,_,_,_,_=>simp
  |k+1,m+1,n+1,hm,hn=>
   have:=ih k m (n+1) qe qe
   rw[zna]at this
   rw[zna,zna,xr,xr,if_neg h,if_neg h,zna,zna,this]
def sk:List Nat->List Nat
 |[]=>[]
 |x::l=>mk [x] (sk l)
theorem qb0:∀l,Up (sk l)
 |[]=>List.Pairwise.nil
 |x::l=>zab _ _ qg (qb0 l)
theorem Qw:∀l,(sk l).Perm l
 |[]=>List.Perm.refl _
 |x::l=>(Vv [x] (sk l)).trans (List.Perm.cons x (Qw l))
theorem qrx(a b:List Nat):sk (a++b)=mk (sk a) (sk b):=
 qme (qb0 _) (zab _ _ (qb0 a) (qb0 b)) ((Qw _).trans (((Qw a).symm.append (Qw b).symm).trans (Vv _ _).symm))
theorem qmm{a b:List Nat}(h:a.Perm b):sk a=sk b:=qme (qb0 _) (qb0 _) ((Qw a).trans (h.trans (Qw b).symm))
theorem zh3(l:List Nat):(sk l).length=l.length:=(Qw l).length_eq
def gm:List Nat->List Nat->List Nat
 |[],b=>b
 |a,[]=>a
 |x::a,y::b=>if kw y<kw x then y::gm (x::a) b else x::gm a (y::b)
termination_by a b=>a.length+b.length
@[simp] theorem zlw(b:List Nat):gm [] b=b:=by unfold gm;rfl
@[simp] theorem zlv(a:List Nat):gm a []=a:=by cases a<;>(unfold gm;rfl)
theorem qg6(x:Nat)(a:List Nat)(y:Nat)(b:List Nat):gm (x::a) (y::b)=if kw y<kw x then y::gm (x::a) b else x::gm a (y::b):=by
 rw[gm]
theorem qqx:∀(n:Nat) (a b:List Nat),a.length+b.length=n->(gm a b).map kw=mk (a.map kw) (b.map kw):=by
 intro n
 induction n using Nat.strongRecOn with
 |_ n ih=>
  intro a b hn
  match a,b with
  |[],b=>simp
  |x::a,[]=>simp
  |x::a,y::b=>
   rw[qg6,zn0,zn0,xr]
   by_cases h:kw y<kw x
   ·rw[if_pos h,if_pos h,zn0,ih ((x::a).length+b.length) (by simp at hn⊢;omega) (x::a) b rfl,zn0]
   ·rw[if_neg h,if_neg h,zn0,ih (a.length+(y::b).length) (by simp at hn⊢;omega) a (y::b) rfl,zn0]
theorem zad(w:Nat):∀(n:Nat) (a b:List Nat),a.length+b.length=n->w∈gm a b->w∈a\/w∈b:=by
 intro n
 induction n using Nat.strongRecOn with
 |_ n ih=>
  intro a b hn hw
  match a,b with
  |[],b=>right;simpa using hw
  |x::a,[]=>left;simpa using hw
  |x::a,y::b=>
   rw[qg6]at hw
   by_cases h:kw y<kw x
   ·rw[if_pos h]at hw
    rcases zmy.mp hw with rfl|hw
    ·right;simp
    ·rcases ih ((x::a).length+b.length) (by simp at hn⊢;omega) (x::a) b rfl hw with h'|h'
     ·exact .inl h'
     ·exact .inr (zo7 _ h')
   ·rw[if_neg h]at hw
    rcases zmy.mp hw with rfl|hw
    ·left;simp
    ·rcases ih (a.length+(y::b).length) (by simp at hn⊢;omega) a (y::b) rfl hw with h'|h'
     ·exact .inl (zo7 _ h')
     ·exact .inr h'
def Yb:List Nat->Nat
 |[]=>18442240474082181120
 |f::F=>if yQ f then Yb F else min (kw f) (Yb F)
def vE:List Nat->Nat
 |[]=>4503599627370495
 |f::F=>if yQ f then vE F else max (kw f) (vE F)
theorem qqj:∀F,Yb F<=18442240474082181120
 |[]=>zmx _
 |f::F=>by
  have:=qqj F
  unfold Yb
  split<;>omega
theorem qjw:∀F,4503599627370495<=vE F
 |[]=>zmx _
 |f::F=>by
  have:=qjw F
  unfold vE
  split<;>omega
theorem KT:∀a b,Yb (a++b)=min (Yb a) (Yb b)
 |[],b=>by have:=qqj b;simp only[znn,Yb];omega
 |f::a,b=>by
  have:=KT a b
  simp only[zol,Yb]
  split<;>omega
theorem Xa:∀a b,vE (a++b)=max (vE a) (vE b)
 |[],b=>by have:=qjw b;simp only[znn,vE];omega
 |f::a,b=>by
  have:=Xa a b
  simp only[zol,vE]
  split<;>omega
theorem qts{a b:List Nat}(h:a.Perm b):Yb a=Yb b:=by
 induction h with
 |nil=>rfl
 |cons x _ ih=>unfold Yb;rw[ih]
 |swap x y l=>simp only[Yb];repeat' split
              all_goals omega
 |trans _ _ h1 h2=>rw[h1,h2]
theorem qof{a b:List Nat}(h:a.Perm b):vE a=vE b:=by
 induction h with
 |nil=>rfl
 |cons x _ ih=>unfold vE;rw[ih]
 |swap x y l=>simp only[vE];repeat' split
              all_goals omega
 |trans _ _ h1 h2=>rw[h1,h2]
def LQ(K K':IntKind):List (Int×Int)->List AV
 |[]=>[]
 |p::l=>.sc (.int K p.1)::.sc (.int K' p.2)::LQ K K' l
section
variable (K K':IntKind)
theorem qn8:∀l,(LQ K K' l).length=2*l.length
 |[]=>rfl
 |p::l=>by simp only[LQ,zmu,qn8 l];omega
theorem zhf:∀(i:Nat) (l:List (Int×Int)),(LQ K K' l).drop (i*2)=LQ K K' (l.drop i)
 |0,l=>by simp
 |i+1,[]=>by simp[LQ]
 |i+1,p::l=>by
  have h:(i+1)*2=i*2+1+1:=qe
  rw[h,LQ,zph,zph,zhf i l,zph]
theorem appQ:∀a b,LQ K K' (a++b)=LQ K K' a++LQ K K' b
 |[],b=>rfl
 |p::a,b=>by simp only[zol,LQ,appQ a b]
theorem zis(k:Nat)(l:List (Int×Int)):xK (S k 2 (LQ K K' l))=some l.length:=by
 have h:(if(2:Nat)=1 then(LQ K K' l).length else(LQ K K' l).length/2)=l.length:=by rw[if_neg qe,qn8];omega
 rcases jn k 2 (LQ K K' l)with e|e|⟨e,e'⟩
 ·rw[e];simp only[xK,h]
 ·rw[e];simp only[xK,h]
 ·rw[e]
  have:l.length=0:=by have:=qn8 K K' l;rw[e']at this;simp at this;omega
  rw[this];rfl
theorem zat(k:Nat){l:List (Int×Int)}{i:Nat}{p:Int×Int}(h:l[i]?=some p):jA 2 (S k 2 (LQ K K' l)) (.int .i64 (i:Int))=some [.sc (.int K p.1),.sc (.int K' p.2)]:=by
 obtain⟨hi,hp⟩:=zm2.mp h
 have hl:(if(2:Nat)=1 then(LQ K K' l).length else(LQ K K' l).length/2)=l.length:=by rw[if_neg qe,qn8];omega
 have hx:idx l.length (.int .i64 (i:Int))=some i:=zp .i64 hi
 have hg:qr (LQ K K' l) (i*2) 2=some [.sc (.int K p.1),.sc (.int K' p.2)]:=by
  unfold qr
  rw[if_pos (by rw[qn8];omega),zhf,znp hi,hp]
  rfl
 rcases jn k 2 (LQ K K' l)with e|e|⟨e,e'⟩
 ·rw[e];simp only[jA,if_true,hl,hx,zmw,hg]
 ·rw[e];simp only[jA,if_true,hl,hx,zmw,hg]
 ·exfalso
  have:=qn8 K K' l
  rw[e']at this
  simp at this
  omega
theorem zj7(k:Nat)(hk:k=1\/k=2)(l:List (Int×Int))(a b:Int)(h:l.length<=1000000):jm 16 2 (S k 2 (LQ K K' l)) (S 1 2 [.sc (.int K a),.sc (.int K' b)])=some (S k 2 (LQ K K' (l++[(a,b)]))):=by
 rw[Yr 16 2 k _ _ 1 hk (show qk9 [AV.sc (.int K a),AV.sc (.int K' b)]from rfl) (.inr (yR qh ?_)),appQ]
 ·rfl
 ·rw[qn8];simp;omega
end
def vW:List (Nat×Nat)->Nat
 |[]=>0
 |c::r=>zt c.2 256+vW r
theorem qpt(a b:List (Nat×Nat)):vW (a++b)=vW a+vW b:=by
 induction a with
 |nil=>simp[vW]
 |cons c a ih=>simp[vW,ih];omega
def KS(key m:Nat):Nat->Nat->List Nat
 |0,_=>[]
 |f+1,i=>if m.testBit i then(key*256+i)::KS key m f (i+1)else KS key m f (i+1)
def lsC:List (Nat×Nat)->List Nat
 |[]=>[]
 |c::r=>KS c.1 c.2 256 0++lsC r
theorem qqf(key m:Nat):∀f i,(KS key m f i).length+zt m i=zt m (i+f):=by
 intro f
 induction f with
 |zero=>intro i;simp[KS]
 |succ f ih=>
  intro i
  have h:=ih (i+1)
  have e:i+1+f=i+(f+1):=qe
  rw[e]at h
  have e2:zt m (i+1)=zt m i+(m.testBit i).toNat:=rfl
  rw[e2]at h
  unfold KS
  cases hb:m.testBit i
  ·rw[hb]at h;simpa using h
  ·rw[hb]at h
   have e3:true.toNat=1:=rfl
   simp only[if_true,zmu]
   omega
theorem qgy(key m:Nat):∀f i y,y∈KS key m f i↔∃j,i<=j/\j<i+f/\m.testBit j=true/\y=key*256+j:=by
 intro f
 induction f with
 |zero=>intro i y;simp[KS];omega
 |succ f ih=>
  intro i y
  unfold KS
  by_cases hb:m.testBit i=true
  ·rw[if_pos hb,zmy,ih]
   constructor
   ·rintro(h|⟨j,h1,h2,h3,h4⟩)
    ·exact⟨i,zmx _,qe,hb,h⟩
    ·exact⟨j,qe,qe,h3,h4⟩
   ·rintro⟨j,h1,h2,h3,h4⟩
    by_cases e:j=i
    ·subst e;exact .inl h4
    ·exact .inr ⟨j,qe,qe,h3,h4⟩
  ·rw[if_neg hb,ih]
   constructor
   ·rintro⟨j,h1,h2,h3,h4⟩;exact⟨j,qe,qe,h3,h4⟩
   ·rintro⟨j,h1,h2,h3,h4⟩
    by_cases e:j=i
    ·subst e;exact absurd h3 hb
    ·exact⟨j,qe,qe,h3,h4⟩
theorem xa:∀l:List Nat,qM l↔l.Pairwise (·<·):=by
 intro l
 induction l with
 |nil=>simp[qM]
 |cons x r ih=>
  rw[zm1,<-ih]
  constructor
  ·intro h;exact⟨wZ r x h,ke h⟩
  ·rintro⟨h1,h2⟩
   cases r with
   |nil=>exact trivial
   |cons y r=>exact⟨h1 y qg,h2⟩
theorem zir(key m:Nat):∀f i,(KS key m f i).Pairwise (·<·):=by
 intro f
 induction f with
 |zero=>intro i;exact List.Pairwise.nil
 |succ f ih=>
  intro i
  unfold KS
  split
  ·refine List.Pairwise.cons (fun y hy=>?_) (ih _)
   obtain⟨j,h1,_,_,h4⟩:=(qgy key m f (i+1) y).mp hy
   omega
  ·exact ih _
theorem qqg:∀(cs:List (Nat×Nat)) (y:Nat),y∈lsC cs↔∃c∈cs,c.1=y/256/\c.2.testBit (y%256)=true:=by
 intro cs
 induction cs with
 |nil=>intro y;simp[lsC]
 |cons c r ih=>
  intro y
  show y∈KS c.1 c.2 256 0++lsC r↔_
  rw[zn3,qgy,ih]
  constructor
  ·rintro(⟨j,h1,h2,h3,h4⟩|⟨d,h1,h2⟩)
   ·have e1:y/256=c.1:=qe
    have e2:y%256=j:=qe
    exact⟨c,qg,e1.symm,by rw[e2];exact h3⟩
   ·exact⟨d,by simp[h1],h2⟩
  ·rintro⟨d,h1,h2,h3⟩
   rcases zmy.mp h1 with e|h1
   ·subst e;exact .inl ⟨y%256,qe,qe,h3,qe⟩
   ·exact .inr ⟨d,h1,h2,h3⟩
theorem qn5:∀(cs:List (Nat×Nat)),qM (cs.map (·.1))->(lsC cs).Pairwise (·<·):=by
 intro cs
 induction cs with
 |nil=>intro _;exact List.Pairwise.nil
 |cons c r ih=>
  intro h
  show(KS c.1 c.2 256 0++lsC r).Pairwise (·<·)
  rw[zow]
  refine⟨zir _ _ _ _,ih (ke h),fun x hx y hy=>?_⟩
  obtain⟨j,_,h2,_,h4⟩:=(qgy _ _ _ _ x).mp hx
  obtain⟨d,d1,d2,_⟩:=(qqg r y).mp hy
  have:c.1<d.1:=wZ _ _ h d.1 (zns.mpr ⟨d,d1,rfl⟩)
  omega
theorem vN:∀l:List Nat,qM l->qM ((jO l).map (·.1)):=by
 intro l
 induction l with
 |nil=>intro _;exact trivial
 |cons x r ih=>
  intro h
  have i:=ih (ke h)
  have hm:=(qhb (x::r) h).1
  have e:jO (x::r)=JX x (jO r):=rfl
  rw[e]at hm⊢
  generalize hc:jO r=cs at*
  cases cs with
  |nil=>exact trivial
  |cons c cs=>
   rw[xc]at hm⊢
   by_cases hk:c.1=x/256
   ·rw[if_pos hk]at hm⊢
    exact i
   ·rw[if_neg hk]at hm⊢
    have:=hm c qg x qg
    exact⟨by show x/256<c.1;omega,i⟩
theorem qqh(l:List Nat)(h:qM l):lsC (jO l)=l:=
 qnc _ _ ((xa _).mpr (qn5 _ (vN l h))) h (fun y=>by rw[qqg,(qhb l h).2])
theorem qzi(m i:Nat):∀n,zt (m|||2^i) n<=zt m n+(decide (i<n)).toNat:=by
 intro n
 induction n with
 |zero=>exact znl _
 |succ n ih=>
  show zt (m|||2^i) n+((m|||2^i).testBit n).toNat<=zt m n+(m.testBit n).toNat+_
  rw[znt,zn6]
  by_cases e:i=n
  ·subst e
   have h1:decide (i<i)=false:=qg
   have h2:decide (i<i+1)=true:=qg
   rw[h1]at ih
   rw[h2]
   have:=b2n (m.testBit i||decide (i=i))
   have e1:true.toNat=1:=rfl
   have e0:false.toNat=0:=rfl
   omega
  ·have h2:decide (i<n+1)=decide (i<n):=by
    by_cases h:i<n
    ·have:i<n+1:=qe
     simp[h,this]
    ·have:¬(i<n+1):=qe
     simp[h,this]
   have h3:decide (i=n)=false:=by simp[e]
   rw[h2,h3,Bool.or_false]
   omega
theorem qzh:∀n,zt 0 n=0:=by
 intro n
 induction n with
 |zero=>rfl
 |succ n ih=>show zt 0 n+_=0;rw[ih,Nat.zero_testBit];rfl
theorem zdj(x:Nat)(cs:List (Nat×Nat)):vW (JX x cs)<=vW cs+1:=by
 have hp:zt (2^(x%256)) 256<=1:=by
  have:=qzi 0 (x%256) 256
  rw[Nat.zero_or,qzh]at this
  have:=b2n (decide (x%256<256))
  omega
 cases cs with
 |nil=>show zt (2^(x%256)) 256+0<=0+1;omega
 |cons c r=>
  rw[xc]
  split
  ·show zt (c.2|||2^(x%256)) 256+vW r<=zt c.2 256+vW r+1
   have:=qzi c.2 (x%256) 256
   have:=b2n (decide (x%256<256))
   omega
  ·show zt (2^(x%256)) 256+(zt c.2 256+vW r)<=zt c.2 256+vW r+1
   omega
theorem zdk:∀l,vW (jO l)<=l.length:=by
 intro l
 induction l with
 |nil=>exact zmx _
 |cons x r ih=>
  have:=zdj x (jO r)
  show vW (JX x (jO r))<=r.length+1
  omega
def Zm:List (Nat×Nat)->List (Nat×Nat)->List (Nat×Nat)
 |[],b=>b
 |a,[]=>a
 |c::a,d::b=>if c.1<d.1 then c::Zm a (d::b)else if d.1<c.1 then d::Zm (c::a) b else(c.1,c.2|||d.2)::Zm a b
termination_by a b=>a.length+b.length
@[simp] theorem qtb(b:List (Nat×Nat)):Zm [] b=b:=by unfold Zm;rfl
@[simp] theorem qta(a:List (Nat×Nat)):Zm a []=a:=by cases a<;>(unfold Zm;rfl)
theorem jQ(c:Nat×Nat)(a:List (Nat×Nat))(d:Nat×Nat)(b:List (Nat×Nat)):Zm (c::a) (d::b)=if c.1<d.1 then c::Zm a (d::b)else if d.1<c.1 then d::Zm (c::a) b else(c.1,c.2|||d.2)::Zm a b:=by
 rw[Zm]
theorem Vs{motive:List (Nat×Nat)->List (Nat×Nat)->Prop}(h1:∀b,motive [] b)(h2:∀a,motive a [])(h3:∀c a d b,c.1<d.1->motive a (d::b)->motive (c::a) (d::b))
 (h4:∀c a d b,d.1<c.1->motive (c::a) b->motive (c::a) (d::b)) (h5:∀c a d b,c.1=d.1->motive a b->motive (c::a) (d::b)):∀a b,motive a b:=by
 intro a b
 generalize hn:a.length+b.length=n
 induction n using Nat.strongRecOn generalizing a b with
 |_ n ih=>
  cases a with
  |nil=>exact h1 b
  |cons c a=>
   cases b with
   |nil=>exact h2 _
   |cons d b=>
    simp only[zmu]at hn
    by_cases l1:c.1<d.1
    ·exact h3 c a d b l1 (ih (a.length+(d::b).length) (by simp only[zmu];omega) _ _ rfl)
    ·by_cases l2:d.1<c.1
     ·exact h4 c a d b l2 (ih ((c::a).length+b.length) (by simp only[zmu];omega) _ _ rfl)
     ·exact h5 c a d b qe (ih (a.length+b.length) qe _ _ rfl)
def JE(cs:List (Nat×Nat))(k j:Nat):Prop:=∃c∈cs,c.1=k/\c.2.testBit j=true
theorem ja(c:Nat×Nat)(r:List (Nat×Nat))(k j:Nat):JE (c::r) k j↔(c.1=k/\c.2.testBit j=true)\/JE r k j:=by
 unfold JE
 constructor
 ·rintro⟨d,h1,h2⟩
  rcases zmy.mp h1 with e|h1
  ·subst e;exact .inl h2
  ·exact .inr ⟨d,h1,h2⟩
 ·rintro(h|⟨d,h1,h2⟩)
  ·exact⟨c,qg,h⟩
  ·exact⟨d,by simp[h1],h2⟩
theorem Xc(k j:Nat):¬JE [] k j:=by rintro⟨c,h,_⟩;cases h
theorem zez(k j:Nat):∀a b,JE (Zm a b) k j↔JE a k j\/JE b k j:=by
 apply Vs (motive:=fun a b=>JE (Zm a b) k j↔JE a k j\/JE b k j)
 ·intro b;simp[Xc]
 ·intro a;simp[Xc]
 ·intro c a d b h ih
  rw[jQ,if_pos h,ja,ih,ja c a,or_assoc]
 ·intro c a d b h ih
  rw[jQ,if_neg qe,if_pos h,ja,ih,ja d b]
  constructor
  ·rintro(q|q|q)
   ·exact .inr (.inl q)
   ·exact .inl q
   ·exact .inr (.inr q)
  ·rintro(q|q|q)
   ·exact .inr (.inl q)
   ·exact .inl q
   ·exact .inr (.inr q)
 ·intro c a d b h ih
  rw[jQ,if_neg qe,if_neg qe,ja,ih,ja c a,ja d b,<-h]
  simp only[znt,zp4]
  constructor
  ·rintro(⟨q,r|r⟩|q|q)
   ·exact .inl (.inl ⟨q,r⟩)
   ·exact .inr (.inl ⟨q,r⟩)
   ·exact .inl (.inr q)
   ·exact .inr (.inr q)
  ·rintro((⟨q,r⟩|q)|(⟨q,r⟩|q))
   ·exact .inl ⟨q,.inl r⟩
   ·exact .inr (.inl q)
   ·exact .inl ⟨q,.inr r⟩
   ·exact .inr (.inr q)
theorem qgh(m n:Nat):∀k,zt m k<=zt (m|||n) k
 |0=>zmx _
 |k+1=>by
  have ih:=qgh m n k
  show zt m k+(m.testBit k).toNat<=zt (m|||n) k+((m|||n).testBit k).toNat
  rw[znt]
  cases m.testBit k<;>cases n.testBit k<;>simp<;>omega
theorem qgj(P:Nat->Prop):∀a b,(∀c∈a,P c.1)->(∀c∈b,P c.1)->∀c∈Zm a b,P c.1:=by
 apply Vs (motive:=fun a b=>(∀c∈a,P c.1)->(∀c∈b,P c.1)->∀c∈Zm a b,P c.1)
 ·intro b _ h;simpa using h
 ·intro a h _;simpa using h
 ·intro c a d b h ih ha hb x hx
  rw[jQ,if_pos h]at hx
  rcases zmy.mp hx with e|hx
  ·rw[e];exact ha c qg
  ·exact ih (fun y hy=>ha y (by simp[hy])) hb x hx
 ·intro c a d b h ih ha hb x hx
  rw[jQ,if_neg qe,if_pos h]at hx
  rcases zmy.mp hx with e|hx
  ·rw[e];exact hb d qg
  ·exact ih ha (fun y hy=>hb y (by simp[hy])) x hx
 ·intro c a d b h ih ha hb x hx
  rw[jQ,if_neg qe,if_neg qe]at hx
  rcases zmy.mp hx with e|hx
  ·rw[e];exact ha c qg
  ·exact ih (fun y hy=>ha y (by simp[hy])) (fun y hy=>hb y (by simp[hy])) x hx
theorem zij:∀a b,(∀c∈a,YT c)->(∀c∈b,YT c)->∀c∈Zm a b,YT c:=by
 apply Vs (motive:=fun a b=>(∀c∈a,YT c)->(∀c∈b,YT c)->∀c∈Zm a b,YT c)
 ·intro b _ h;simpa using h
 ·intro a h _;simpa using h
 ·intro c a d b h ih ha hb x hx
  rw[jQ,if_pos h]at hx
  rcases zmy.mp hx with e|hx
  ·rw[e];exact ha c qg
  ·exact ih (fun y hy=>ha y (by simp[hy])) hb x hx
 ·intro c a d b h ih ha hb x hx
  rw[jQ,if_neg qe,if_pos h]at hx
  rcases zmy.mp hx with e|hx
  ·rw[e];exact hb d qg
  ·exact ih ha (fun y hy=>hb y (by simp[hy])) x hx
 ·intro c a d b h ih ha hb x hx
  rw[jQ,if_neg qe,if_neg qe]at hx
  rcases zmy.mp hx with e|hx
  ·have h1:=ha c qg;have h2:=hb d qg
   have:=qgh c.2 d.2 256
   rw[e]
   exact⟨h1.1,zrh h1.2.1 h2.2.1,by have:=h1.2.2;show 0<zt (c.2|||d.2) 256;omega⟩
  ·exact ih (fun y hy=>ha y (by simp[hy])) (fun y hy=>hb y (by simp[hy])) x hx
abbrev ZS(cs:List (Nat×Nat)):Prop:=(cs.map (·.1)).Pairwise (·<·)
theorem ju{c:Nat×Nat}{r:List (Nat×Nat)}:ZS (c::r)↔(∀d∈r,c.1<d.1)/\ZS r:=by
 unfold ZS
 rw[zn0,zm1]
 constructor
 ·rintro⟨h,g⟩;exact⟨fun d hd=>h _ (zns.mpr ⟨d,hd,rfl⟩),g⟩
 ·rintro⟨h,g⟩
  refine⟨fun k hk=>?_,g⟩
  obtain⟨d,hd,rfl⟩:=zns.mp hk
  exact h d hd
theorem qzl:∀a b,ZS a->ZS b->ZS (Zm a b):=by
 apply Vs (motive:=fun a b=>ZS a->ZS b->ZS (Zm a b))
 ·intro b _ h;simpa using h
 ·intro a h _;simpa using h
 ·intro c a d b h ih ha hb
  obtain⟨h1,h2⟩:=ju.mp ha
  rw[jQ,if_pos h]
  refine ju.mpr ⟨qgj (fun k=>c.1<k) _ _ h1 (fun x hx=>?_),ih h2 hb⟩
  rcases zmy.mp hx with e|hx
  ·rw[e];exact h
  ·have:=(ju.mp hb).1 x hx;omega
 ·intro c a d b h ih ha hb
  obtain⟨h1,h2⟩:=ju.mp hb
  rw[jQ,if_neg qe,if_pos h]
  refine ju.mpr ⟨qgj (fun k=>d.1<k) _ _ (fun x hx=>?_) h1,ih ha h2⟩
  rcases zmy.mp hx with e|hx
  ·rw[e];exact h
  ·have:=(ju.mp ha).1 x hx;omega
 ·intro c a d b h ih ha hb
  obtain⟨h1,h2⟩:=ju.mp ha
  obtain⟨h3,h4⟩:=ju.mp hb
  rw[jQ,if_neg qe,if_neg qe]
  exact ju.mpr ⟨qgj (fun k=>c.1<k) _ _ h1 (fun x hx=>by have:=h3 x hx;omega),ih h2 h4⟩
theorem zbv:∀(cs ds:List (Nat×Nat)),(∀c∈cs,YT c)->(∀d∈ds,YT d)->ZS cs->ZS ds->(∀k j,JE cs k j↔JE ds k j)->cs=ds
 |[],[],_,_,_,_,_=>rfl
 |[],d::ds,_,hd,_,_,h=>by
  obtain⟨j,_,hj⟩:=YS 256 d.2 (hd d qg).2.2
  exact absurd ((h d.1 j).mpr ((ja d ds _ _).mpr (.inl ⟨rfl,hj⟩))) (Xc _ _)
 |c::cs,[],hc,_,_,_,h=>by
  obtain⟨j,_,hj⟩:=YS 256 c.2 (hc c qg).2.2
  exact absurd ((h c.1 j).mp ((ja c cs _ _).mpr (.inl ⟨rfl,hj⟩))) (Xc _ _)
 |c::cs,d::ds,hc,hd,kc,kd,h=>by
  obtain⟨c1,c2⟩:=ju.mp kc
  obtain⟨d1,d2⟩:=ju.mp kd
  obtain⟨j,_,hj⟩:=YS 256 c.2 (hc c qg).2.2
  obtain⟨i,_,hi⟩:=YS 256 d.2 (hd d qg).2.2
  have ek:c.1=d.1:=by
   have l1:d.1<=c.1:=by
    obtain⟨x,hx,hk,_⟩:=(h c.1 j).mp ((ja c cs _ _).mpr (.inl ⟨rfl,hj⟩))
    rcases zmy.mp hx with e|hx
    ·rw[<-hk,e];exact zmx _
    ·have:=d1 x hx;omega
   have l2:c.1<=d.1:=by
    obtain⟨x,hx,hk,_⟩:=(h d.1 i).mpr ((ja d ds _ _).mpr (.inl ⟨rfl,hi⟩))
    rcases zmy.mp hx with e|hx
    ·rw[<-hk,e];exact zmx _
    ·have:=c1 x hx;omega
   omega
  have nc:∀j,¬JE cs c.1 j:=by rintro j ⟨x,hx,hk,_⟩;have:=c1 x hx;omega
  have nd:∀j,¬JE ds c.1 j:=by rintro j ⟨x,hx,hk,_⟩;have:=d1 x hx;omega
  have em:c.2=d.2:=by
   apply zn5
   intro j
   have:=h c.1 j
   rw[ja,ja,<-ek]at this
   simp only[true_and,nc j,nd j,or_false]at this
   exact Bool.eq_iff_iff.mpr this
  have et:=zbv cs ds (fun x hx=>hc x (by simp[hx])) (fun x hx=>hd x (by simp[hx])) c2 d2 (fun k j=>by
   have:=h k j
   rw[ja,ja,<-ek,<-em]at this
   by_cases e:c.1=k
   ·subst e
    simp only[nc j,nd j]
   ·simpa only[e,false_and,false_or]using this)
  rw[et,show c=d from Prod.ext ek em]
theorem qhc(l:List Nat)(h:qM l)(k j:Nat)(hj:j<256):JE (jO l) k j↔k*256+j∈l:=by
 rw[(qhb l h).2 (k*256+j)]
 have e1:(k*256+j)/256=k:=qe
 have e2:(k*256+j)%256=j:=qe
 rw[e1,e2];rfl
theorem zjr(a b m:List Nat)(ha:qM a)(hb:qM b)(hm:qM m)(a32:∀x∈a,x<4294967296)(b32:∀x∈b,x<4294967296)(h:∀x,x∈m↔x∈a\/x∈b):Zm (jO a) (jO b)=jO m:=by
 have ka:=(xa _).mp (vN a ha)
 have kb:=(xa _).mp (vN b hb)
 have km:=(xa _).mp (vN m hm)
 have oa:=wP a32
 have ob:=wP b32
 have om:∀c∈jO m,YT c:=wP fun x hx=>((h x).mp hx).elim (a32 x) (b32 x)
 have oo:=zij _ _ oa ob
 refine zbv _ _ oo om (qzl _ _ ka kb) km fun k j=>?_
 by_cases hj:j<256
 ·rw[zez,qhc a ha k j hj,qhc b hb k j hj,qhc m hm k j hj,h]
 ·have big:∀cs:List (Nat×Nat),(∀c∈cs,YT c)->¬JE cs k j:=by
   rintro cs hc ⟨c,h1,_,h3⟩
   have:=zp6 (znc (hc c h1).2.1 (znv qh (show 256<=j by omega)))
   rw[this]at h3;cases h3
  simp only[big _ oo,big _ om]
theorem kq:∀(b a:List Int),qO (a++b)=qO a*256^b.length+qO b:=by
 intro b
 induction b with
 |nil=>intro a;simp[qO]
 |cons c b ih=>
  intro a
  have e1:a++c::b=(a++[c])++b:=qg
  have e2:c::b=[c]++b:=rfl
  have e3:qO [c]=c.toNat:=by simp[qO]
  rw[e1,ih,yh,e2,ih [c],e3,zmt,zpj,zpi,zos]
  have e4:256^[c].length=256:=rfl
  rw[e4]
  omega
theorem VG:∀(l:List Int),(∀x∈l,0<=x/\x<256)->qO l<256^l.length:=by
 intro l
 induction l with
 |nil=>intro _;decide
 |cons c b ih=>
  intro h
  have hc:=h c qg
  have i:=ih fun x hx=>h x (by simp[hx])
  have e2:c::b=[c]++b:=rfl
  have e3:qO [c]=c.toNat:=by simp[qO]
  have hm:c.toNat*256^b.length<=255*256^b.length:=zng _ qe
  rw[e2,kq,e3,zmt,zpj]
  have e4:256^[c].length=256:=rfl
  rw[e4]
  omega
theorem ZO(C:List Int)(j:Nat)(h:j<C.length):qO (C.take (j+1))=qO (C.take j)*256+(C.getD j 0).toNat:=by
 have e:C.take (j+1)=C.take j++[C.getD j 0]:=by
  rw[zo2,zmv,zm0 h];rfl
 rw[e,yh]
theorem qkm(C:List Int)(h:∀x∈C,0<=x/\x<256)(j D a b:Nat)(hj:C.length=j+D)(h1:a*256^D<=qO C)(h2:qO C<b*256^D):a<=qO (C.take j)/\qO (C.take j)<b:=by
 have e:qO C=qO (C.take j)*256^D+qO (C.drop j):=by
  have:=kq (C.drop j) (C.take j)
  rw[zqz,zor]at this
  rw[this]
  congr 3
  omega
 have hl:qO (C.drop j)<256^D:=by
  have:=VG (C.drop j) fun x hx=>h x (zqc hx)
  rw[zor]at this
  have e2:C.length-j=D:=qe
  rwa [e2]at this
 generalize qO (C.take j)=q at*
 generalize 256^D=P at*
 have hp:0<P:=qe
 constructor
 ·have:a*P<(q+1)*P:=by rw[zpi];omega
  have:=zqj this
  omega
 ·have:q*P<b*P:=qe
  exact zqj this
section
variable (C:List Int)(hC:∀x∈C,0<=x/\x<256)
include hC
theorem zf7(s:En)(cs:List Nat)(l:List Nat)(hm:okM cs)(hl:∀x∈l,x<64)(ho:Zy s s.width)(hw:16777216<=s.width/\s.width<=4294967296)(h1:qO C=eV (enc cs s l))(h2:C.length=eK (enc cs s l)+4):
 eK s+4<=C.length/\eV s<=qO (C.take (eK s+4))/\qO (C.take (eK s+4))<eV s+s.width:=by
 obtain⟨d,a1,a2,a3,_,a5⟩:=qop l cs s hm hl ho hw
 have w:=qkm C hC (eK s+4) d (eV s) (eV s+s.width) qe (by rw[h1];exact a2) (by rw[h1];omega)
 exact⟨qe,w.1,w.2⟩
theorem zf8(s:En)(cs:List Nat)(x:Nat)(l:List Nat)(hm:okM cs)(hx:x<64)(hl:∀x∈l,x<64)(ho:Zy s s.width)(hw:16777216<=s.width/\s.width<=4294967296)(h1:qO C=eV (enc (Yu cs x) (zE 4 (xC s cs x)) l))(h2:C.length=eK (enc (Yu cs x) (zE 4 (xC s cs x)) l)+4):
 eV s+s.width/cs.sum*(cs.take x).sum<=qO (C.take (eK s+4))/\qO (C.take (eK s+4))<eV s+s.width/cs.sum*(cs.take x).sum+s.width/cs.sum*cs.getD x 0:=by
 obtain⟨d,b1,b2,b3,b4,b5,b6,b7⟩:=Za s cs x hm hx ho hw
 obtain⟨d1,a1,a2,a3,_,a5⟩:=qop l (Yu cs x) (zE 4 (xC s cs x)) (Qy hm hx) hl b4 ⟨b5,b6⟩
 rw[b1]at a2
 rw[b1,b2,<-Nat.add_mul]at a3
 refine qkm C hC (eK s+4) (d+d1) _ _ qe ?_ ?_
 ·rw[h1,zpj,<-Nat.mul_assoc];exact a2
 ·rw[h1,zpj,<-Nat.mul_assoc];omega
end
def zK:List Nat->Nat
 |[]=>0
 |x::r=>zK r|||2^x
theorem QL(j:Nat):∀L:List Nat,(zK L).testBit j=true↔j∈L
 |[]=>by simp[zK]
 |x::r=>by
  have ih:=QL j r
  simp only[zK,znt,zn6,zp4,decide_eq_true_eq,ih,zmy]
  constructor
  ·rintro(h|h)
   ·exact .inr h
   ·exact .inl h.symm
  ·rintro(h|h)
   ·exact .inr h.symm
   ·exact .inl h
theorem qhg(m:Nat):∀(f i:Nat) (L:List Nat),(∀j,i<=j->j<i+f->(m.testBit j=true↔j∈L))->(∀x∈L,i<=x/\x<i+f)->L.Pairwise (·<·)->yD m f i=nz L
 |0,i,L,_,h,_=>by
  cases L with
  |nil=>rfl
  |cons x r=>have:=h x qg;omega
 |f+1,i,L,hb,hr,hp=>by
  unfold yD
  by_cases hi:m.testBit i=true
  ·rw[if_pos hi]
   have hm:=(hb i (zmx _) qe).mp hi
   cases L with
   |nil=>cases hm
   |cons x r=>
    obtain⟨h1,h2⟩:=zm1.mp hp
    have hx:x=i:=by
     rcases zmy.mp hm with e|e
     ·exact e.symm
     ·have:=h1 i e;have:=hr x qg;omega
    subst hx
    have ih:=qhg m f (x+1) r (fun j hj hj2=>by
     rw[hb j qe qe,zmy]
     exact⟨fun q=>q.resolve_left qe,.inr⟩) (fun y hy=>by have:=h1 y hy;have:=hr y (by simp[hy]);omega) h2
    rw[ih];rfl
  ·rw[if_neg hi]
   have hn:i∉L:=fun q=>hi ((hb i (zmx _) qe).mpr q)
   exact qhg m f (i+1) L (fun j hj hj2=>hb j qe qe) (fun y hy=>by
    have:=hr y hy
    have:y≠i:=fun e=>hn (e▸hy)
    omega) hp
def qan(a:List Int):List Int:=a.set (a.length-1) (a.getD (a.length-1) 0+1)
def kJ:List Int->Nat->List Nat->List Int
 |a,_,[]=>a
 |a,e,x::r=>if x=e then kJ (qan a) (x+1) r else kJ (a++[(x:Int),0]) (x+1) r
theorem zgk(a:List Int)(s n:Int):qan (a++[s,n])=a++[s,n+1]:=by
 have e1:(a++[s,n]).length-1=a.length+1:=qg
 unfold qan
 rw[e1,zp9 _ _ qe,zmv,zni qe]
 have e2:a.length+1-a.length=1:=qe
 rw[e2];rfl
theorem zeg(m:Nat)(A:List Int)(s:Int):∀(g k:Nat) (c:Int) (L:List Nat),(∀j,k+1<=j->j<256->(m.testBit j=true↔j∈L))->(∀x∈L,k+1<=x/\x<256)->L.Pairwise (·<·)->k+g=255->
 ∃L2,kJ (A++[s,c]) (k+1) L=kJ (A++[s,c+((yu m g k-k:Nat):Int)]) (yu m g k+1) L2/\(∀j,yu m g k+1<=j->j<256->(m.testBit j=true↔j∈L2))/\(∀x∈L2,yu m g k+1<x/\x<256)/\L2.Pairwise (·<·):=by
 intro g
 induction g with
 |zero=>
  intro k c L hb hr hp hk
  have e:L=[]:=by
   cases L with
   |nil=>rfl
   |cons x r=>have:=hr x qg;omega
  subst e
  refine⟨[],?_,by simpa[yu]using hb,qg,List.Pairwise.nil⟩
  simp[kJ,yu]
 |succ g ih=>
  intro k c L hb hr hp hk
  unfold yu
  by_cases hi:m.testBit (k+1)=true
  ·rw[if_pos hi]
   have hm:=(hb (k+1) (zmx _) qe).mp hi
   cases L with
   |nil=>cases hm
   |cons x r=>
    obtain⟨h1,h2⟩:=zm1.mp hp
    have hx:x=k+1:=by
     rcases zmy.mp hm with e|e
     ·exact e.symm
     ·have:=h1 _ e;have:=hr x qg;omega
    subst hx
    obtain⟨L2,a1,a2,a3,a4⟩:=ih (k+1) (c+1) r (fun j hj hj2=>by
     rw[hb j qe qe,zmy]
     exact⟨fun q=>q.resolve_left qe,.inr⟩) (fun y hy=>by have:=h1 y hy;have:=hr y (by simp[hy]);omega) h2 qe
    have hge:=(wg m g (k+1)).1
    refine⟨L2,?_,a2,a3,a4⟩
    rw[kJ,if_pos rfl,zgk,a1]
    congr 3
    have:c+1+((yu m g (k+1)-(k+1):Nat):Int)=c+((yu m g (k+1)-k:Nat):Int):=qe
    rw[this]
  ·rw[if_neg hi]
   refine⟨L,?_,hb,fun x hx=>?_,hp⟩
   ·simp
   ·have:=hr x hx
    have:x≠k+1:=fun e=>hi ((hb _ (zmx _) qe).mpr (e▸hx))
    omega
theorem zeh(m:Nat):∀(f i e:Nat) (A:List Int) (L:List Nat),(∀j,i<=j->j<256->(m.testBit j=true↔j∈L))->(∀x∈L,i<=x/\x<256)->L.Pairwise (·<·)->e∉L->256<=i+f->
 kJ A e L=A++kC m f i:=by
 intro f
 induction f with
 |zero=>
  intro i e A L hb hr hp he hf
  cases L with
  |nil=>simp[kJ,kC]
  |cons x r=>have:=hr x qg;omega
 |succ f ih=>
  intro i e A L hb hr hp he hf
  unfold kC
  by_cases h256:256<=i
  ·rw[if_pos h256]
   cases L with
   |nil=>simp[kJ]
   |cons x r=>have:=hr x qg;omega
  ·rw[if_neg h256]
   by_cases hi:m.testBit i=true
   ·rw[if_pos hi]
    have hm:=(hb i (zmx _) qe).mp hi
    cases L with
    |nil=>cases hm
    |cons x r=>
     obtain⟨h1,h2⟩:=zm1.mp hp
     have hx:x=i:=by
      rcases zmy.mp hm with q|q
      ·exact q.symm
      ·have:=h1 _ q;have:=hr x qg;omega
     subst hx
     obtain⟨L2,a1,a2,a3,a4⟩:=zeg m A x (255-x) x 0 r (fun j hj hj2=>by
      rw[hb j qe qe,zmy]
      exact⟨fun q=>q.resolve_left qe,.inr⟩) (fun y hy=>by have:=h1 y hy;have:=hr y (by simp[hy]);omega) h2 qe
     have hge:=(wg m (255-x) x).1
     have hne:¬(x=e):=fun q=>he (by simp[q])
     rw[kJ,if_neg hne,a1,ih (yu m (255-x) x+1) _ _ L2 a2 (fun y hy=>by have:=a3 y hy;omega) a4 (fun q=>by have:=a3 _ q;omega) qe]
     simp
   ·rw[if_neg hi]
    have hn:i∉L:=fun q=>hi ((hb i (zmx _) qe).mpr q)
    exact ih (i+1) e A L (fun j hj hj2=>hb j qe qe) (fun y hy=>by
     have:=hr y hy
     have:y≠i:=fun q=>hn (q▸hy)
     omega) hp he qe
theorem Jx(m:Nat):∀f i,(yB m f i).length=f
 |0,_=>rfl
 |f+1,i=>by simp[yB,Jx m f (i+1)]
theorem VH(m:Nat):∀f i q,q<f->(yB m f i)[q]?=some ((m/2^(8*(i+q))%256:Nat):Int)
 |0,_,_,h=>by omega
 |f+1,i,0,_=>rfl
 |f+1,i,q+1,h=>by
  have ih:=VH m f (i+1) q qe
  have e:i+1+q=i+(q+1):=qe
  rw[e]at ih
  exact ih
theorem qkn:∀f i,yB 0 f i=List.replicate f 0
 |0,_=>rfl
 |f+1,i=>by
  rw[zo3,<-qkn f (i+1)]
  simp[yB]
theorem zli:(∀y:BitVec 8,y.getLsbD 0=false->(y|||1#8).toNat=y.toNat+1)/\(∀y:BitVec 8,y.getLsbD 1=false->(y|||2#8).toNat=y.toNat+2)/\(∀y:BitVec 8,y.getLsbD 2=false->(y|||4#8).toNat=y.toNat+4)/\
 (∀y:BitVec 8,y.getLsbD 3=false->(y|||8#8).toNat=y.toNat+8)/\(∀y:BitVec 8,y.getLsbD 4=false->(y|||16#8).toNat=y.toNat+16)/\(∀y:BitVec 8,y.getLsbD 5=false->(y|||32#8).toNat=y.toNat+32)/\
 (∀y:BitVec 8,y.getLsbD 6=false->(y|||64#8).toNat=y.toNat+64)/\(∀y:BitVec 8,y.getLsbD 7=false->(y|||128#8).toNat=y.toNat+128):=by
 refine⟨?_,?_,?_,?_,?_,?_,?_,?_⟩<;>decide
theorem zey(y k:Nat)(hy:y<256)(hk:k<8)(hb:y.testBit k=false):y|||2^k=y+2^k:=by
 have key:∀c:Nat,c<256->(BitVec.ofNat 8 y|||BitVec.ofNat 8 c).toNat=y|||c:=by
  intro c hc
  rw[zpd,zop,zop,zoa (show y<2^8 from hy),zoa (show c<2^8 from hc)]
 have hb':(BitVec.ofNat 8 y).getLsbD k=false:=by rw[BitVec.getLsbD_ofNat,hb];simp
 have ht:(BitVec.ofNat 8 y).toNat=y:=by rw[zop];exact zoa hy
 obtain⟨b0,b1,b2,b3,b4,b5,b6,b7⟩:=zli
 have hc:k=0\/k=1\/k=2\/k=3\/k=4\/k=5\/k=6\/k=7:=qe
 rcases hc with e|e|e|e|e|e|e|e<;>subst e
 ·have:=b0 _ hb';rw[ht]at this;rw[<-key 1 qh];exact this
 ·have:=b1 _ hb';rw[ht]at this;rw[<-key 2 qh];exact this
 ·have:=b2 _ hb';rw[ht]at this;rw[<-key 4 qh];exact this
 ·have:=b3 _ hb';rw[ht]at this;rw[<-key 8 qh];exact this
 ·have:=b4 _ hb';rw[ht]at this;rw[<-key 16 qh];exact this
 ·have:=b5 _ hb';rw[ht]at this;rw[<-key 32 qh];exact this
 ·have:=b6 _ hb';rw[ht]at this;rw[<-key 64 qh];exact this
 ·have:=b7 _ hb';rw[ht]at this;rw[<-key 128 qh];exact this
theorem qre(m x q:Nat)(hb:m.testBit x=false):(m|||2^x)/2^(8*q)%256=if x/8=q then m/2^(8*q)%256+2^(x%8)else m/2^(8*q)%256:=by
 by_cases h:x/8=q
 ·rw[if_pos h]
  have hbb:(m/2^(8*q)%256).testBit (x%8)=false:=by
   rw[qal m q (x%8) qe,show 8*q+x%8=x by omega];exact hb
  rw[<-zey _ (x%8) (zpt _ qh) qe hbb]
  have e256:(256:Nat)=2^8:=qh
  apply zn5
  intro j
  by_cases hj:j<8
  ·rw[qal _ q j hj,znt,znt,qal m q j hj,zn6,zn6]
   congr 1
   apply decide_eq_decide.mpr;omega
  ·have h1:((m|||2^x)/2^(8*q)%256).testBit j=false:=by rw[e256,zm7];simp[hj]
   have h2:(m/2^(8*q)%256).testBit j=false:=by rw[e256,zm7];simp[hj]
   have h3:(2^(x%8)).testBit j=false:=by rw[zn6];simp;omega
   rw[znt,h1,h2,h3];rfl
 ·rw[if_neg h]
  apply zn5
  intro j
  have e256:(256:Nat)=2^8:=qh
  rw[e256,zm7,zm7,znu,znu,znt,zn6]
  by_cases hj:j<8
  ·have:¬(x=j+8*q):=qe
   simp[hj,this]
  ·simp[hj]
theorem zby(m x:Nat)(hx:x<256)(hb:m.testBit x=false):yB (m|||2^x) 32 0=(yB m 32 0).set (x/8) ((m/2^(8*(x/8))%256+2^(x%8):Nat):Int):=by
 apply zo1
 intro q
 rw[zp7,Jx]
 by_cases hq:q<32
 ·rw[VH _ 32 0 q hq,VH _ 32 0 q hq,zm4,qre m x q hb]
  by_cases h:x/8=q
  ·subst h
   simp;omega
  ·simp[h]
 ·have e1:(yB (m|||2^x) 32 0)[q]?=none:=znq (by rw[Jx];omega)
  have e2:(yB m 32 0)[q]?=none:=znq (by rw[Jx];omega)
  rw[e1,e2]
  have:¬(x/8=q):=qe
  simp[this]
theorem qae:∀(l:List Nat) (key:Nat),qM l->(∀x∈l.head?,x/256=key)->l≠[]->
 ∃a b,l=a++b/\a≠[]/\(∀x∈a,x/256=key)/\(∀x∈b.head?,x/256≠key)/\jO l=(key,zK (a.map (·%256)))::jO b/\(a.map (·%256)).Pairwise (·<·)
 |[],_,_,_,h=>absurd rfl h
 |x::r,key,hr,hk,_=>by
  have hx:x/256=key:=hk x qg
  cases r with
  |nil=>
   refine⟨[x],[],rfl,qg,by simpa using hx,qg,?_,qg⟩
   simp[jO,JX,zK,hx]
  |cons y s=>
   have hxy:x<y:=hr.1
   by_cases hy:y/256=key
   ·obtain⟨a,b,e,ha,h1,h2,h3,h4⟩:=qae (y::s) key hr.2 (by simpa using hy) qg
    refine⟨x::a,b,by rw[e];rfl,qg,?_,h2,?_,?_⟩
    ·intro z hz
     rcases zmy.mp hz with q|q
     ·rw[q];exact hx
     ·exact h1 z q
    ·show JX x (jO (y::s))=_
     rw[h3,xc,if_pos hx.symm]
     rfl
    ·rw[zn0,zm1]
     refine⟨fun z hz=>?_,h4⟩
     obtain⟨w,hw,rfl⟩:=zns.mp hz
     have hw2:=wZ (y::s) x hr w (by rw[e];exact List.mem_append_left _ hw)
     have:=h1 w hw
     omega
   ·refine⟨[x],y::s,rfl,qg,by simpa using hx,by simpa using hy,?_,qg⟩
    show JX x (jO (y::s))=_
    obtain⟨a,b,e,ha,h1,h2,h3,h4⟩:=qae (y::s) (y/256) hr.2 qg qg
    rw[h3,xc,if_neg (by rw[hx];exact hy)]
    simp[zK,hx]
end Go.Proofs.YtmajcennjgjlnaaGreat.AI
