/- Texts that the proof of TotalEdges rests on, part 4. -/
import Derived.Test.YtehljndbfjfbfaaQTotalEdges3
import Derived.Below
import Derived.ProofKit
import Derived.RowKit
import Derived.OpenShut
import Derived.ChangeOld
import Derived.SizedLaws
import Derived.Carry
import GoSem.Core.Float
import GoSem.Core.View
namespace Go.Proofs.Ytehljndbfjfbfaa.AI
open Go Go.RowKit
set_option linter.unusedVariables false
set_option linter.unusedSimpArgs false
def Kh(W:World):Gh where
 Om b:=if b<W.heap.size then .oth else .fr
 I b:=match W.heap[b]? with
  |some (.cells arr _ _)=>arr.size
  |_=>0
 mu _ _:=none
 la _ _:=none
theorem hpI0(W:World):HpI (Kh W) W hp0 where
 heap b g cs h:=by cases h
 next b g _:=rfl
 hlt b g cs h:=by cases h
 new b hb:=⟨by simp[Kh];omega,by simp[Kh,qc7 hb]⟩
 vars b hb:=by
  exfalso
  rcases hb with⟨k,g,h⟩|⟨k,g,h⟩<;>simp only[Kh]at h<;>split at h<;>cases h
theorem XJ{W W':World}{G':Gh}(h:Fr (Kh W) W G' W'):Below W.heap.size W W':=
 ⟨h.rest.1,h.rest.2.1,h.rest.2.2,h.size,fun k hk=>(h.same k hk (.inr (by simp[Kh,hk]))).1⟩
theorem arg_sc(W:World)(v:Value)(h:v.oneCell'=true):vJ (Kh W) W (.sc v) v:=fun _=>RelR.sc v h
theorem Xz{c:Cx}(hc:Ok c/\vm c){f:FuncId}{xs:List AV}{vs:List Value}{v:Value}{hp':Hp}{W:World}(h:run c f xs hp0=some (.sc v,hp'))(hl:xs.length=vs.length)
 (ha:∀(i:Nat) (x:AV) (u:Value),xs[i]?=some x->vs[i]?=some u->vJ (Kh W) W x u):Calls c.P f vs.toArray W fun e W'=>e= .returned v/\Below W.heap.size W W':=by
 refine(JJ hc.1 hc.2 h (hpI0 W) hl ha).mono fun e W' hg=>?_
 obtain⟨u,G',rfl,hf,_,hr⟩:=hg
 have hr':RelR G' W' (.sc v) u:=hr
 cases hr' with
 |sc _ _=>exact⟨rfl,XJ hf⟩
end Go.Proofs.Ytehljndbfjfbfaa.AI
namespace Go.Proofs.Ytehljndbfjfbfaa.AI
open Go
set_option linter.unusedVariables false
set_option linter.unusedSimpArgs false
set_option maxRecDepth 100000
set_option maxHeartbeats 0
section
variable (P:Program)(t:TypeId)(x y:Operand)(k k':IntKind)(a b:Int)
theorem QU(op:BinOp):eqGuard op t x y (.int k a) (.int k' b)=pure ():=by
 cases op<;>rfl
theorem qU(op:BinOp)(h:op≠ .shl)(h':op≠ .shr):qD P op t x y (.int k a) (.int k b)=one (qO P (match op with
 | .add| .sub| .mul=>Op.intArith op k a b
 | .quo| .rem=>Op.intDiv op k a b
 | .and| .or| .xor| .andNot=>Op.intBits op k a b
 |_=>Op.intCmp op a b)):=by
 unfold qD
 rw[QU]
 cases op<;>simp[Go.binOp]<;>first|rfl|exact absurd rfl h|exact absurd rfl h'
@[simp] theorem qa6:qD P .add t x y (.int k a) (.int k b)=some (.int k (k.wrap (a+b))):=by rw[qU P t x y k a b .add qf qf];rfl
@[simp] theorem qay:qD P .sub t x y (.int k a) (.int k b)=some (.int k (k.wrap (a-b))):=by rw[qU P t x y k a b .sub qf qf];rfl
@[simp] theorem qa0:qD P .mul t x y (.int k a) (.int k b)=some (.int k (k.wrap (a*b))):=by rw[qU P t x y k a b .mul qf qf];rfl
@[simp] theorem qa5:qD P .eql t x y (.int k a) (.int k b)=some (.bool (decide (a=b))):=by rw[qU P t x y k a b .eql qf qf];show some (Value.bool (a==b))=_;congr 2
@[simp] theorem qaz:qD P .neq t x y (.int k a) (.int k b)=some (.bool (!decide (a=b))):=by rw[qU P t x y k a b .neq qf qf];show some (Value.bool (a !=b))=_;rfl
@[simp] theorem qa1:qD P .lss t x y (.int k a) (.int k b)=some (.bool (decide (a<b))):=by rw[qU P t x y k a b .lss qf qf];rfl
@[simp] theorem qa2:qD P .leq t x y (.int k a) (.int k b)=some (.bool (decide (a<=b))):=by rw[qU P t x y k a b .leq qf qf];rfl
@[simp] theorem qa3:qD P .gtr t x y (.int k a) (.int k b)=some (.bool (decide (a>b))):=by rw[qU P t x y k a b .gtr qf qf];rfl
@[simp] theorem qa4:qD P .geq t x y (.int k a) (.int k b)=some (.bool (decide (a>=b))):=by rw[qU P t x y k a b .geq qf qf];rfl
theorem vg(h:b≠0):qD P .rem t x y (.int k a) (.int k b)=some (.int k (a.tmod b)):=by
 rw[qU P t x y k a b .rem qf qf];simp only[Op.intDiv,h,if_false];rfl
@[simp] theorem Zb:qD P .and t x y (.int k a) (.int k b)=some (.int k (k.wrap (BitVec.ofInt k.bits a&&&BitVec.ofInt k.bits b).toNat)):=by rw[qU P t x y k a b .and qf qf];rfl
@[simp] theorem Vf:qD P .or t x y (.int k a) (.int k b)=some (.int k (k.wrap (BitVec.ofInt k.bits a|||BitVec.ofInt k.bits b).toNat)):=by rw[qU P t x y k a b .or qf qf];rfl
@[simp] theorem qax:qD P .xor t x y (.int k a) (.int k b)=some (.int k (k.wrap (BitVec.ofInt k.bits a^^^BitVec.ofInt k.bits b).toNat)):=by rw[qU P t x y k a b .xor qf qf];rfl
@[simp] theorem qbd(c:Bool):Kn P .not (.bool c)=some (.bool !c):=rfl
@[simp] theorem qa8(c:Bool):YE (.bool c)=some c:=rfl
@[simp] theorem qbk:Zq (.int k a)=some a:=rfl
@[simp] theorem qbj(v:Value):yw (.sc v)=some v:=rfl
end
@[simp] theorem Vn{α:Type}(P:Program)(a:α):qO P (pure a:Sem α)=some a:=rfl
theorem xR(P:Program)(t:TypeId)(x y:Operand)(op:BinOp)(a b:ByteArray):eqGuard op t x y (.string a) (.string b)=pure ():=by
 cases op<;>rfl
theorem Vu(a b:ByteArray):(a.toList==b.toList)=decide (a.data.toList=b.data.toList):=by
 rw[ByteArray.toList_eq,ByteArray.toList_eq]
 by_cases h:a.data.toList=b.data.toList
 ·rw[h];simp
 ·rw[decide_eq_false h];exact beq_eq_false_iff_ne.mpr h
@[simp] theorem WJ (P : Program) (t : TypeId) (x y : Operand) (a b : ByteArray) : qD P .eql t x y (.string a) (.string b) = some (.bool (decide (a.data.toList = b.data.toList))) := by
 unfold qD
 rw[xR P]
 show some (Value.bool (a.toList==b.toList))=_
 rw[Vu]
@[simp] theorem WI (P : Program) (t : TypeId) (x y : Operand) (a b : ByteArray) : qD P .neq t x y (.string a) (.string b) = some (.bool (!decide (a.data.toList = b.data.toList))) := by
 unfold qD
 rw[xR P]
 show some (Value.bool (!(a.toList==b.toList)))=_
 rw[Vu]
def Rd(sz:Nat)(x:AV)(cs:List AV):Prop:=x= .sl sz cs\/x= .us sz cs\/(x= .sc nil0/\cs=[])
section
variable {sz:Nat}{x:AV}{cs:List AV}
theorem Rd.ro(h:Rd sz x cs):Rd sz (AI.ro x) cs:=by
 rcases h with rfl|rfl|⟨rfl,rfl⟩
 ·exact .inl rfl
 ·exact .inl rfl
 ·exact .inr (.inr ⟨rfl,rfl⟩)
theorem Rd.ro1(h:Rd sz x cs):Rd sz (AI.ro1 x) cs:=by
 rcases h with rfl|rfl|⟨rfl,rfl⟩
 ·exact .inl rfl
 ·exact .inl rfl
 ·exact .inr (.inr ⟨rfl,rfl⟩)
theorem Rd.len(h:Rd 1 x cs):xV x=some cs.length:=by
 rcases h with rfl|rfl|⟨rfl,rfl⟩<;>rfl
theorem Rd.idx(h:Rd 1 x cs){k:IntKind}{z:Int}{i:Nat}{y:AV}(hz:z=(i:Int))(hy:cs[i]?=some y):yr 1 x (.int k z)=some [y]:=by
 subst hz
 have hlt:=(qbm.mp hy).1
 have key:((AI.idx (if 1=1 then cs.length else cs.length/1) (.int k (i:Int))).bind fun i=>jN cs (i*1) 1)=some [y]:=by
  have hc:(0:Int)<=(i:Int)/\(i:Int)<(cs.length:Int):=⟨Int.natCast_nonneg i,qc⟩
  simp only[if_true,AI.idx,Zq,qbp,hc,and_self,qdl,qcn]
  unfold jN
  rw[if_pos qc]
  congr 1
  obtain⟨h1,h2⟩:=qbm.mp hy
  rw[qcd h1,h2]
  rfl
 rcases h with rfl|rfl|⟨rfl,rfl⟩
 ·simp only[yr,if_true];simpa using key
 ·simp only[yr,if_true];simpa using key
 ·simp at hy
end
def Wd(sz:Nat)(x:AV)(cs:List AV):Prop:=x= .us sz cs\/(x= .sc nil0/\cs=[])
theorem Wd.rd{sz:Nat}{x:AV}{cs:List AV}(h:Wd sz x cs):Rd sz x cs:=by
 rcases h with rfl|⟨rfl,rfl⟩
 ·exact .inr (.inl rfl)
 ·exact .inr (.inr ⟨rfl,rfl⟩)
def Flat(ys:List AV):Prop:=ys.map ro1=ys
theorem xj{z:Int}(h1:-9223372036854775808<=z)(h2:z<9223372036854775808):IntKind.i64.wrap z=z:=by
 rw[IntKind.wrap_i64];omega
theorem qh{p:Prop}(h:p:=by rw[xj]<;>omega):p:=h
@[simp] theorem qaa:IntKind.i64.wrap 0=0:=rfl
@[simp] theorem WZ:IntKind.i64.wrap 1=1:=rfl
@[simp] theorem WY:IntKind.i64.wrap 2=2:=rfl
@[simp] theorem WX:IntKind.i64.wrap 3=3:=rfl
@[simp] theorem WW:IntKind.i64.wrap 4=4:=rfl
@[simp] theorem WV:IntKind.i64.wrap 5=5:=rfl
@[simp] theorem WU:IntKind.i64.wrap 6=6:=rfl
@[simp] theorem WT:IntKind.i64.wrap 7=7:=rfl
@[simp] theorem WS:IntKind.i64.wrap 8=8:=rfl
@[simp] theorem WR:IntKind.i64.wrap 9=9:=rfl
@[simp] theorem WB:IntKind.i64.wrap 10=10:=rfl
@[simp] theorem WA:IntKind.i64.wrap 11=11:=rfl
@[simp] theorem Wz:IntKind.i64.wrap 12=12:=rfl
@[simp] theorem Wy:IntKind.i64.wrap 13=13:=rfl
@[simp] theorem Wx:IntKind.i64.wrap 14=14:=rfl
@[simp] theorem Ww:IntKind.i64.wrap 15=15:=rfl
@[simp] theorem Wv:IntKind.i64.wrap 16=16:=rfl
def S(k sz:Nat)(cs:List AV):AV:=
 match k with
 |0=>.sl sz cs
 |1=>.us sz cs
 |2=>match cs with
  |[]=>.sc nil0
  |_=>.us sz cs
 |_=>match cs with
  |[]=>.sc nil0
  |_=>.sl sz cs
def rk:Nat->Nat
 |0=>0
 |1=>0
 |_=>3
@[simp] theorem rk_rk (k : Nat) : rk (rk k) = rk k := by
 match k with
 |0=>rfl
 |1=>rfl
 |n+2=>rfl
@[simp] theorem rk0:rk 0=0:=rfl
@[simp] theorem rk1:rk 1=0:=rfl
@[simp] theorem rk2:rk 2=3:=rfl
@[simp] theorem rk3:rk 3=3:=rfl
section
variable (k sz:Nat)(cs:List AV)
theorem zL:S k sz cs= .sl sz cs\/S k sz cs= .us sz cs\/(S k sz cs= .sc nil0/\cs=[]):=by
 unfold S
 match k,cs with
 |0,_=>exact .inl rfl
 |1,_=>exact .inr (.inl rfl)
 |2,[]=>exact .inr (.inr ⟨rfl,rfl⟩)
 |2,_::_=>exact .inr (.inl rfl)
 |n+3,[]=>exact .inr (.inr ⟨rfl,rfl⟩)
 |n+3,_::_=>exact .inl rfl
@[simp] theorem ro1_S : ro1 (S k sz cs) = S (rk k) sz cs := by
 match k,cs with
 |0,_=>rfl
 |1,_=>rfl
 |2,[]=>rfl
 |2,_::_=>rfl
 |n+3,[]=>rfl
 |n+3,_::_=>rfl
@[simp] theorem ro_S : ro (S k sz cs) = S (rk k) sz cs := by
 match k,cs with
 |0,_=>rfl
 |1,_=>rfl
 |2,[]=>rfl
 |2,_::_=>rfl
 |n+3,[]=>rfl
 |n+3,_::_=>rfl
theorem rd_S:Rd sz (S k sz cs) cs:=zL k sz cs
@[simp] theorem lenA_S:xV (S k 1 cs)=some cs.length:=(rd_S k 1 cs).len
@[simp] theorem wQ (K : IntKind) (z : Int) : yr 1 (S k 1 cs) (.int K z) = if 0 ≤ z then (cs[z.toNat]?).map fun c => [c] else none := by
 by_cases hz:0<=z
 ·rw[if_pos hz]
  cases h:cs[z.toNat]? with
  |some y=>exact(rd_S k 1 cs).idx qc h
  |none=>
   have hl:cs.length<=z.toNat:=by simpa using h
   have hn:¬(z<(cs.length:Int)):=qc
   rcases zL k 1 cs with e|e|⟨e,e'⟩
   ·rw[e];simp[yr,idx,Zq,hn]
   ·rw[e];simp[yr,idx,Zq,hn]
   ·rw[e];rfl
 ·rw[if_neg hz]
  rcases zL k 1 cs with e|e|⟨e,e'⟩
  ·rw[e];simp[yr,idx,Zq,hz]
  ·rw[e];simp[yr,idx,Zq,hz]
  ·rw[e];rfl
@[simp] theorem qau : jO 1 (S k sz cs) = some [S k sz cs] := by
 rcases zL k sz cs with e|e|⟨e,e'⟩<;>rw[e]<;>rfl
@[simp] theorem qbe : kN (S k sz cs) = some () := by
 rcases zL k sz cs with e|e|⟨e,e'⟩<;>rw[e]<;>rfl
@[simp] theorem srcA_S : xm sz (S k sz cs) = some cs := by
 rcases zL k sz cs with e|e|⟨e,e'⟩
 ·rw[e];simp[xm]
 ·rw[e];simp[xm]
 ·rw[e,e'];rfl
@[simp] theorem us_S:AV.us sz cs=S 1 sz cs:=rfl
@[simp] theorem sl_S:AV.sl sz cs=S 0 sz cs:=rfl
end
@[simp] theorem nil_S1:AV.sc (Value.slice none 0 0)=S 2 1 []:=rfl
@[simp] theorem S3_nil(sz:Nat):S 3 sz []=S 2 sz []:=rfl
@[simp] theorem qar(v:Value):Flat [.sc v]:=rfl
@[simp] theorem ro1_sc(v:Value):ro1 (.sc v)= .sc v:=rfl
@[simp] theorem ro_sc(v:Value):ro (.sc v)= .sc v:=rfl
@[simp] theorem ro_agg(l:List AV):ro (.agg l)= .agg (l.map ro1):=rfl
@[simp] theorem qah(v:Value):kN (.sc v)=some ():=rfl
@[simp] theorem WD(l:List AV):kN (.agg l)=some ():=rfl
@[simp] theorem vl_S (k sz : Nat) (cs : List AV) : vl (S k sz cs) = true := by
 rcases zL k sz cs with e|e|⟨e,e'⟩<;>rw[e]<;>rfl
@[simp] theorem vlF_S (k sz : Nat) (cs : List AV) : vlF (S k sz cs) = true := by
 rcases zL k sz cs with e|e|⟨e,e'⟩<;>rw[e]<;>rfl
@[simp] theorem vlV_S (k sz : Nat) (cs : List AV) : Vx (S k sz cs) = true := by
 rcases zL k sz cs with e|e|⟨e,e'⟩<;>rw[e]<;>rfl
@[simp] theorem vl_sc(v:Value):vl (.sc v)=true:=rfl
@[simp] theorem vlF_sc(v:Value):vlF (.sc v)=true:=rfl
@[simp] theorem vlV_sc(v:Value):Vx (.sc v)=true:=rfl
@[simp] theorem qbc(l:List AV):vlF (.agg l)=l.all vl:=rfl
@[simp] theorem qbb(l:List AV):Vx (.agg l)=l.all vl:=rfl
@[simp] theorem qba(l:List AV):Vx (.tup l)=l.all vlF:=rfl
@[simp] theorem vl_fn(f:FuncId):vl (.fn f [])=true:=rfl
@[simp] theorem vlF_fn(f:FuncId):vlF (.fn f [])=true:=rfl
@[simp] theorem WC(xs caps:List AV):jZ xs caps=xT (xs.all vlF=true/\caps.all vl=true):=rfl
@[simp] theorem qbh(a b:Nat):XW a b=xT (a=b):=rfl
@[simp] theorem qbi(b:Bool):ZW b=xT (b=true):=rfl
@[simp] theorem okV_eq(cs:List AV):VP cs=xT (cs.all vl=true):=rfl
@[simp] theorem tN_eq(n:Int):tN n=n.toNat:=rfl
@[simp] theorem qaf(y:AV):xJ y=xT (Vx y=true):=rfl
@[simp] theorem qas:xT True=some ():=rfl
@[simp] theorem chk_eq{α:Type}[DecidableEq α](a:α):xT (a=a)=some ():=if_pos rfl
@[simp] theorem qa9(l:List AV):Vh (.agg l)=some l:=rfl
@[simp] theorem Wf(n:Nat)(l:List AV):yM n (.tup l)=if l.length=n then some ()else none:=rfl
@[simp] theorem qag(l:List AV)(i:Nat):ZG (.tup l) i=l.getD i (.tup []):=rfl
@[simp] theorem qat:xT (True/\True)=some ():=rfl
@[simp] theorem Wg(n:Nat)(l:List AV):jO n (.agg l)=if l.length=n then some l else none:=rfl
@[simp] theorem qa7:yw (.sc nil0)=some nil0:=rfl
def LI(K:IntKind)(l:List Int):List AV:=l.map fun n=>.sc (.int K n)
section
variable (K:IntKind)(l:List Int)
@[simp] theorem vlI:(LI K l).all vl=true:=by simp[LI,List.all_map]
@[simp] theorem lenI:(LI K l).length=l.length:=by simp[LI]
@[simp] theorem getI?(i:Nat):(LI K l)[i]?=(l[i]?).map fun n=>.sc (.int K n):=by simp[LI]
@[simp] theorem getI(i:Nat)(h:i<(LI K l).length):(LI K l)[i]= .sc (.int K (l[i]'(by simpa using h))):=by simp[LI]
@[simp] theorem dropI(i:Nat):(LI K l).drop i=LI K (l.drop i):=by simp[LI]
@[simp] theorem tailI:(LI K l).tail=LI K l.tail:=by simp[LI]
@[simp] theorem nilI:LI K []=[]:=rfl
end
theorem Km{z:Int}(h1:0<=z)(h2:z<18446744073709551616):IntKind.u64.wrap z=z:=by rw[IntKind.wrap_u64];omega
theorem kh{a b:Int}(h:0<=a):a.tmod b=a%b:=Int.tmod_eq_emod_of_nonneg h
@[simp] theorem qaw (P : Program) (ts : Array TypeId) (t : TypeId) (k k' : IntKind) (a b : Int) : Yt P .max ts t [.int k a, .int k' b] = some (.int k (max a b)) := by
 show some (Value.int k (if b>a then b else a))=_
 congr 2
 split<;>omega
@[simp] theorem qav (P : Program) (ts : Array TypeId) (t : TypeId) (k k' : IntKind) (a b : Int) : Yt P .min ts t [.int k a, .int k' b] = some (.int k (min a b)) := by
 show some (Value.int k (if b<a then b else a))=_
 congr 2
 split<;>omega
@[simp] theorem qan(b g o n z:Nat):xP (.ms b g o n z)=some (b,g,o,n,z):=rfl
@[simp] theorem ro_ms(b g o n z:Nat):ro (.ms b g o n z)= .ms b g o n z:=rfl
@[simp] theorem ro1_ms(b g o n z:Nat):ro1 (.ms b g o n z)= .ms b g o n z:=rfl
@[simp] theorem qbf(b g o n z:Nat):xV (.ms b g o n z)=some n:=rfl
@[simp] theorem WH(b g o n z:Nat):jO 1 (.ms b g o n z)=some [.ms b g o n z]:=rfl
@[simp] theorem qai(b g o n z:Nat):kN (.ms b g o n z)=some ():=rfl
@[simp] theorem frz1_S (k sz : Nat) (cs : List AV) (hp : Hp) : vB hp (S k sz cs) = some (S k sz cs, hp) := by
 rcases zL k sz cs with e|e|⟨e,e'⟩<;>rw[e]<;>rfl
@[simp] theorem qbg(v:Value)(hp:Hp):vB hp (.sc v)=some (.sc v,hp):=rfl
@[simp] theorem qaq(hp:Hp):wR hp []=some ([],hp):=rfl
@[simp] theorem WG(hp:Hp)(x:AV)(r:List AV):wR hp (x::r)=(vB hp x).bind fun p=>(wR p.2 r).bind fun q=>some (p.1::q.1,q.2):=rfl
@[simp] theorem qaj(cs:List AV):vz 1 cs=cs.length:=rfl
@[simp] theorem Wk(lo hi:Int)(d:Nat):qX lo hi none d=some d:=rfl
theorem YV{q:AV×Nat}{g g':Nat->Option (Nat×List AV)}(h:zz q g=zz q g'):xG q g g'=some ():=by
 unfold xG
 exact if_pos h
@[simp] theorem VI(q:AV×Nat)(g:Nat->Option (Nat×List AV)):xG q g g=some ():=YV rfl
end Go.Proofs.Ytehljndbfjfbfaa.AI
namespace Go.Proofs.Ytehljndbfjfbfaa.AI
open Go Go.RowKit Go.ChangeShapes Go.WideShapes Go.ChangeAt
set_option linter.unusedVariables false
set_option linter.unusedSimpArgs false
def Je(k:IntKind)(n:Int):Prop:=(Lit.int k n).wf=true
theorem Je.le{k:IntKind}{n:Int}(h:Je k n):k.min<=n/\n<=k.max:=by
 simpa[Je,Lit.wf]using h
theorem Je.u8{n:Int}(h:Je .u8 n):0<=n/\n<256:=by
 have:=h.le;simp[IntKind.min,IntKind.max,IntKind.signed,IntKind.bits]at this;omega
theorem Je.u16{n:Int}(h:Je .u16 n):0<=n/\n<65536:=by
 have:=h.le;simp[IntKind.min,IntKind.max,IntKind.signed,IntKind.bits]at this;omega
theorem Je.u32{n:Int}(h:Je .u32 n):0<=n/\n<4294967296:=by
 have:=h.le;simp[IntKind.min,IntKind.max,IntKind.signed,IntKind.bits]at this;omega
theorem Je.u64{n:Int}(h:Je .u64 n):0<=n/\n<18446744073709551616:=by
 have:=h.le;simp[IntKind.min,IntKind.max,IntKind.signed,IntKind.bits]at this;omega
theorem Je.i64{n:Int}(h:Je .i64 n):-9223372036854775808<=n/\n<9223372036854775808:=by
 have:=h.le;simp[IntKind.min,IntKind.max,IntKind.signed,IntKind.bits]at this;omega
def ArgsR(W:World)(xs:List AV)(vs:List Value):Prop:=xs.length=vs.length/\∀(i:Nat) (x:AV) (u:Value),xs[i]?=some x->vs[i]?=some u->vJ (Kh W) W x u
theorem ArgsR.nil(W:World):ArgsR W [] []:=⟨rfl,qe⟩
theorem ArgsR.cons{W:World}{x:AV}{v:Value}{xs:List AV}{vs:List Value}(h:vJ (Kh W) W x v)(t:ArgsR W xs vs):ArgsR W (x::xs) (v::vs):=by
 refine⟨by simp[t.1],fun i y u hx hu=>?_⟩
 cases i with
 |zero=>
  simp at hx hu
  subst hx hu
  exact h
 |succ i=>exact t.2 i y u (by simpa using hx) (by simpa using hu)
theorem law_args{c:Cx}(hc:Ok c/\vm c){f:FuncId}{xs:List AV}{vs:List Value}{v:Value}{hp':Hp}{W:World}(ha:ArgsR W xs vs)(h:run c f xs hp0=some (.sc v,hp')):Calls c.P f vs.toArray W fun e W'=>e= .returned v/\Below W.heap.size W W':=
 Xz hc h ha.1 ha.2
end Go.Proofs.Ytehljndbfjfbfaa.AI
namespace Go.Proofs.Ytehljndbfjfbfaa.AI
set_option linter.unusedVariables false
set_option linter.unusedSimpArgs false
def VQ:List Int->List Int->List Int
 |[],b=>b
 |a,[]=>a
 |x::a,y::b=>if x<y then x::VQ a (y::b)else if y<x then y::VQ (x::a) b else x::VQ a b
termination_by a b=>a.length+b.length
@[simp] theorem WF(b:List Int):VQ [] b=b:=by unfold VQ;rfl
@[simp] theorem WE(a:List Int):VQ a []=a:=by cases a<;>(unfold VQ;rfl)
end Go.Proofs.Ytehljndbfjfbfaa.AI
namespace Go.Proofs.Ytehljndbfjfbfaa.AI
set_option linter.unusedVariables false
set_option linter.unusedSimpArgs false
end Go.Proofs.Ytehljndbfjfbfaa.AI
namespace Go.Proofs.Ytehljndbfjfbfaa.AI
open Ieee
set_option linter.unusedVariables false
set_option linter.unusedSimpArgs false
def zx(x:Nat):Prop:=9218868437227405312<x%9223372036854775808
instance (x : Nat) : Decidable (zx x) := by unfold zx; infer_instance
def qq(x:Nat):Int:=if x/9223372036854775808%2=1 then -((x%9223372036854775808:Nat):Int)else((x%9223372036854775808:Nat):Int)
def qK(r:Nat):Nat:=if r<4503599627370496 then r else(4503599627370496+r%4503599627370496)*2^(r/4503599627370496-1)
theorem yX{a b:Nat}(h:a<b):qK a<qK b:=by
 unfold qK
 by_cases ha:a<4503599627370496
 ·rw[if_pos ha]
  by_cases hb:b<4503599627370496
  ·rw[if_pos hb];exact h
  ·rw[if_neg hb]
   have h1:1<=2^(b/4503599627370496-1):=Nat.one_le_two_pow
   have h2:=Nat.mul_le_mul (qbo (4503599627370496+b%4503599627370496)) h1
   omega
 ·have hb:¬b<4503599627370496:=qc
  rw[if_neg ha,if_neg hb]
  by_cases hq:a/4503599627370496=b/4503599627370496
  ·rw[hq]
   have hr:a%4503599627370496<b%4503599627370496:=qc
   exact qcj qc (qb2 _)
  ·have hq':a/4503599627370496<b/4503599627370496:=qc
   have h1:(4503599627370496+a%4503599627370496)*2^(a/4503599627370496-1)<(2*4503599627370496)*2^(a/4503599627370496-1):=by
    have:a%4503599627370496<4503599627370496:=Nat.mod_lt _ qc
    exact qcj qc (qb2 _)
   have h2:2^(a/4503599627370496-1)*2=2^(a/4503599627370496):=by
    rw[<-Nat.pow_succ]
    congr 1
    omega
   have h3:2^(a/4503599627370496)<=2^(b/4503599627370496-1):=qcw qc qc
   have h4:4503599627370496*2^(b/4503599627370496-1)<=(4503599627370496+b%4503599627370496)*2^(b/4503599627370496-1):=Nat.mul_le_mul qc (qbo _)
   have h5:(2*4503599627370496)*2^(a/4503599627370496-1)=4503599627370496*2^(a/4503599627370496):=by
    rw[<-h2];generalize 2^(a/4503599627370496-1)=z;omega
   have h6:=Nat.mul_le_mul (qbo 4503599627370496) h3
   omega
theorem kP{a b:Nat}(h:qK a=qK b):a=b:=by
 rcases Nat.lt_trichotomy a b with h'|h'|h'
 ·have:=yX h';omega
 ·exact h'
 ·have:=yX h';omega
theorem xr:qK 0=0:=rfl
theorem zK(a b:Int):compare a b=if a<b then .lt else if a=b then .eq else .gt:=rfl
theorem Yr(a b:Int){c:Int}(hc:0<c):compare a b=compare (a*c) (b*c):=by
 rw[zK,zK]
 have h1:a*c<b*c↔a<b:=Int.mul_lt_mul_right hc
 have h2:a*c=b*c↔a=b:=⟨fun h=>Int.eq_of_mul_eq_mul_right qc h,fun h=>by rw[h]⟩
 simp only[h1,h2]
theorem je{x:Nat}(h:x%9223372036854775808<9218868437227405312):∃(m i:Nat),double.read x= .number (x/9223372036854775808%2==1) m (-1074+i)/\m*2^i=qK (x%9223372036854775808):=by
 have e1:double.signWeight=9223372036854775808:=qf
 have e2:double.binade=4503599627370496:=qf
 have e3:double.infRung=9218868437227405312:=qf
 have e4:double.leastPlace=-1074:=qf
 unfold Format.read
 simp only[e1,e2,e3,e4]
 unfold qK
 by_cases hb:x%9223372036854775808<4503599627370496
 ·rw[if_pos hb,if_pos hb]
  exact⟨_,0,rfl,qe⟩
 ·rw[if_neg hb,if_neg hb,if_pos h]
  exact⟨_,_,rfl,rfl⟩
theorem yU{x:Nat}(h:x%9223372036854775808=9218868437227405312):double.read x= .infinity (x/9223372036854775808%2==1):=by
 have e1:double.signWeight=9223372036854775808:=qf
 have e2:double.binade=4503599627370496:=qf
 have e3:double.infRung=9218868437227405312:=qf
 unfold Format.read
 simp only[e1,e2,e3]
 rw[if_neg qc,if_neg qc,if_pos h]
theorem Qx{x:Nat}(h:zx x):∃s t,double.read x= .nan s t:=by
 unfold zx at h
 have e1:double.signWeight=9223372036854775808:=qf
 have e2:double.binade=4503599627370496:=qf
 have e3:double.infRung=9218868437227405312:=qf
 unfold Format.read
 simp only[e1,e2,e3]
 rw[if_neg qc,if_neg qc,if_neg qc]
 exact⟨_,_,rfl⟩
theorem jY{x y:Nat}(h:zx x):double.order x y=none:=by
 obtain⟨s,t,e⟩:=Qx h
 unfold Format.order
 rw[e]
 rfl
theorem jX{x y:Nat}(h:zx y):double.order x y=none:=by
 obtain⟨s,t,e⟩:=Qx h
 unfold Format.order
 rw[e]
 cases double.read x<;>rfl
def sg(s:Bool)(m:Int):Int:=if s then -m else m
theorem XU(s t:Bool)(a b:Nat):compare (sg s (qK a)) (sg t (qK b))=compare (sg s (a:Int)) (sg t (b:Int)):=by
 have h1:qK a<qK b↔a<b:=by
  constructor
  ·intro h
   rcases Nat.lt_trichotomy a b with h'|h'|h'
   ·exact h'
   ·subst h';omega
   ·have:=yX h';omega
  ·exact yX
 have h2:qK a=qK b↔a=b:=⟨kP,fun h=>by rw[h]⟩
 have h3:qK a=0↔a=0:=⟨fun h=>kP (b:=0) (by rw[h,xr]),fun h=>by rw[h,xr]⟩
 have h4:qK b=0↔b=0:=⟨fun h=>kP (b:=0) (by rw[h,xr]),fun h=>by rw[h,xr]⟩
 rw[zK,zK]
 cases s<;>cases t<;>simp only[sg,if_true,if_false,qbz]
 ·have c1:((qK a:Nat):Int)<(qK b:Nat)↔(a:Int)<b:=qc
  have c2:((qK a:Nat):Int)=(qK b:Nat)↔(a:Int)=b:=qc
  simp only[c1,c2]
 ·have c1:((qK a:Nat):Int)< -(qK b:Nat)↔(a:Int)< -(b:Int):=qc
  have c2:((qK a:Nat):Int)=-(qK b:Nat)↔(a:Int)=-(b:Int):=qc
  simp only[c1,c2]
 ·have c1:-((qK a:Nat):Int)<(qK b:Nat)↔-(a:Int)<(b:Int):=qc
  have c2:-((qK a:Nat):Int)=(qK b:Nat)↔-(a:Int)=(b:Int):=qc
  simp only[c1,c2]
 ·have c1:-((qK a:Nat):Int)< -(qK b:Nat)↔-(a:Int)< -(b:Int):=qc
  have c2:-((qK a:Nat):Int)=-(qK b:Nat)↔-(a:Int)=-(b:Int):=qc
  simp only[c1,c2]
theorem zJ(x:Nat):qq x=sg (x/9223372036854775808%2==1) ((x%9223372036854775808:Nat):Int):=by
 unfold qq sg
 by_cases h:x/9223372036854775808%2=1<;>simp[h]
theorem jB(s:Bool)(m k:Nat):Ieee.signed s m k=sg s ((m*2^k:Nat):Int):=by
 unfold Ieee.signed sg
 rw[qcx]
 try (cases s<;>rfl)
theorem JT{x y:Nat}(hx:x%9223372036854775808<9218868437227405312)(hy:y%9223372036854775808<9218868437227405312):double.order x y=some (compare (qq x) (qq y)):=by
 obtain⟨m,i,e1,e2⟩:=je hx
 obtain⟨n,j,f1,f2⟩:=je hy
 unfold Format.order
 rw[e1,f1]
 simp only[Datum.order]
 rw[zJ,zJ,<-XU,<-e2,<-f2,jB,jB]
 congr 1
 have hc:(0:Int)<((2^(min i j):Nat):Int):=by have:=qb2 (min i j);omega
 rw[Yr _ _ hc]
 have p1:(-1074+(i:Int)-min (-1074+(i:Int)) (-1074+(j:Int))).toNat+min i j=i:=qc
 have p2:(-1074+(j:Int)-min (-1074+(i:Int)) (-1074+(j:Int))).toNat+min i j=j:=qc
 have q:∀(s:Bool) (m k c:Nat),sg s ((m*2^k:Nat):Int)*((2^c:Nat):Int)=sg s ((m*2^(k+c):Nat):Int):=by
  intro s m k c
  rw[qdi,<-Nat.mul_assoc]
  cases s
  ·simp only[sg,qbz,if_false];rw[<-Int.natCast_mul]
  ·simp only[sg,if_true];rw[qdj,<-Int.natCast_mul]
 rw[q,q,p1,p2]
theorem xq{x y:Nat}(hx:¬zx x)(hy:¬zx y):double.order x y=some (compare (qq x) (qq y)):=by
 unfold zx at hx hy
 by_cases ix:x%9223372036854775808=9218868437227405312
 ·by_cases iy:y%9223372036854775808=9218868437227405312
  ·unfold Format.order
   rw[yU ix,yU iy]
   simp only[Datum.order]
   rw[zJ,zJ,ix,iy]
   cases(x/9223372036854775808%2==1)<;>cases(y/9223372036854775808%2==1)<;>decide
  ·obtain⟨n,j,f1,f2⟩:=je (x:=y) qc
   unfold Format.order
   rw[yU ix,f1]
   simp only[Datum.order]
   rw[zJ,zJ,ix,zK]
   generalize y%9223372036854775808=r at*
   cases(x/9223372036854775808%2==1)<;>cases(y/9223372036854775808%2==1)<;>simp only[sg,if_true,if_false,qbz]
   ·rw[if_neg qc,if_neg qc]
   ·rw[if_neg qc,if_neg qc]
   ·rw[if_pos qc]
   ·rw[if_pos qc]
 ·by_cases iy:y%9223372036854775808=9218868437227405312
  ·obtain⟨n,j,f1,f2⟩:=je (x:=x) qc
   unfold Format.order
   rw[yU iy,f1]
   simp only[Datum.order]
   rw[zJ,zJ,iy,zK]
   generalize x%9223372036854775808=r at*
   cases(x/9223372036854775808%2==1)<;>cases(y/9223372036854775808%2==1)<;>simp only[sg,if_true,if_false,qbz]
   ·rw[if_pos qc]
   ·rw[if_neg qc,if_neg qc]
   ·rw[if_pos qc]
   ·rw[if_neg qc,if_neg qc]
  ·exact JT qc qc
theorem KY(x y:Nat):(double.order x y==some .eq)=decide (¬zx x/\¬zx y/\qq x=qq y):=by
 by_cases hx:zx x
 ·rw[jY hx];simp[hx]
 ·by_cases hy:zx y
  ·rw[jX hy];simp[hy]
  ·rw[xq hx hy,zK]
   rcases qcs (qq x) (qq y)with h|h|h
   ·have:¬(qq x=qq y):=qc
    simp[hx,hy,h,this]
   ·have:¬(qq x<qq y):=qc
    simp[hx,hy,h]
   ·have h1:¬(qq x<qq y):=qc
    have h2:¬(qq x=qq y):=qc
    simp[hx,hy,h1,h2]
theorem f_lt(x y:Nat):(double.order x y==some .lt)=decide (¬zx x/\¬zx y/\qq x<qq y):=by
 by_cases hx:zx x
 ·rw[jY hx];simp[hx]
 ·by_cases hy:zx y
  ·rw[jX hy];simp[hy]
  ·rw[xq hx hy,zK]
   rcases qcs (qq x) (qq y)with h|h|h
   ·simp[hx,hy,h]
   ·have:¬(qq x<qq y):=qc
    simp[hx,hy,h]
   ·have h1:¬(qq x<qq y):=qc
    have h2:¬(qq x=qq y):=qc
    simp[hx,hy,h1,h2]
theorem f_gt(x y:Nat):(double.order x y==some .gt)=decide (¬zx x/\¬zx y/\qq y<qq x):=by
 by_cases hx:zx x
 ·rw[jY hx];simp[hx]
 ·by_cases hy:zx y
  ·rw[jX hy];simp[hy]
  ·rw[xq hx hy,zK]
   rcases qcs (qq x) (qq y)with h|h|h
   ·have h1:¬(qq y<qq x):=qc
    simp[hx,hy,h,h1]
   ·have:¬(qq y<qq x):=qc
    simp[hx,hy,h]
   ·have h1:¬(qq x<qq y):=qc
    have h2:¬(qq x=qq y):=qc
    simp[hx,hy,h1,h2,h]
end Go.Proofs.Ytehljndbfjfbfaa.AI
namespace Go.Proofs.Ytehljndbfjfbfaa.AI
open Go
set_option linter.unusedVariables false
set_option linter.unusedSimpArgs false
set_option maxRecDepth 100000
set_option maxHeartbeats 0
theorem Ys(n:Nat)(h:n<9223372036854775808):(BitVec.ofInt 64 (n:Int)|||BitVec.ofInt 64 9223372036854775808).toNat=n+9223372036854775808:=by
 rw[BitVec.toNat_or,qcc,qcc]
 have e1:(((n:Int)%((2^64:Nat):Int)).toNat)=n:=qc
 have e2:(((9223372036854775808:Int)%((2^64:Nat):Int)).toNat)=2^63*1:=qf
 rw[e1,e2,Nat.or_comm,<-Nat.two_pow_add_eq_or_of_lt (by simpa using h)]
 omega
theorem vE(n:Nat)(h:n<9223372036854775808):(BitVec.ofInt 64 (n:Int)&&&BitVec.ofInt 64 9223372036854775808).toNat=0:=by
 rw[BitVec.toNat_and,qcc,qcc]
 have e1:(((n:Int)%((2^64:Nat):Int)).toNat)=n:=qc
 have e2:(((9223372036854775808:Int)%((2^64:Nat):Int)).toNat)=2^63:=qf
 rw[e1,e2]
 apply qcy
 intro i
 rw[Nat.testBit_and,qc2,Nat.zero_testBit]
 by_cases hi:63=i
 ·subst hi
  rw[qc8 (by simpa using h)]
  rfl
 ·simp[hi]
theorem vF(n:Nat)(h:9223372036854775808<=n)(h':n<18446744073709551616):(BitVec.ofInt 64 (n:Int)&&&BitVec.ofInt 64 9223372036854775808).toNat=9223372036854775808:=by
 rw[BitVec.toNat_and,qcc,qcc]
 have e1:(((n:Int)%((2^64:Nat):Int)).toNat)=n:=qc
 have e2:(((9223372036854775808:Int)%((2^64:Nat):Int)).toNat)=2^63:=qf
 have e3:(9223372036854775808:Nat)=2^63:=qf
 rw[e1,e2]
 conv=>rhs;rw[e3]
 obtain⟨m,rfl⟩:∃m,n=2^63*1+m:=⟨n-2^63,qc⟩
 rw[qcv qc]
 apply qcy
 intro i
 rw[Nat.testBit_and,Nat.testBit_or,qcn,qc2]
 by_cases hi:63=i
 ·subst hi;simp
 ·simp[hi]
def kw(w:Nat):Nat:=if zx w then 18444492273895866369 else if w<9223372036854775808 then w+9223372036854775808 else 18446744073709551615-w
def zq(w:Nat):Int:=if zx w then 6 else if w=9218868437227405312 then 5 else if w=18442240474082181120 then 0 else if w=9223372036854775808 then 2 else if w=0 then 3 else if w<9223372036854775808 then 4 else 1
def qV(a b:Nat):Bool:=decide (¬zx a/\¬zx b/\qq a<qq b)
end Go.Proofs.Ytehljndbfjfbfaa.AI
namespace Go.Proofs.Ytehljndbfjfbfaa.AI
set_option linter.unusedVariables false
set_option linter.unusedSimpArgs false
def Bl(x n:Nat):Prop:=x<2^n/\(n=0\/2^(n-1)<=x)
theorem Bl.up{x k n:Nat}(h:Bl (x/2^k) n)(hx:2^k<=x):Bl x (n+k):=by
 obtain⟨h1,h2⟩:=h
 have hp:=qb2 k
 have hn:n≠0:=by
  intro e
  subst e
  have:1<=x/2^k:=(Nat.one_le_div_iff hp).mpr hx
  simp at h1
  omega
 refine⟨?_,.inr ?_⟩
 ·rw[qdi]
  exact(Nat.div_lt_iff_lt_mul hp).mp h1
 ·have h3:=h2.resolve_left hn
  rw[show n+k-1=(n-1)+k by omega,qdi]
  exact(Nat.le_div_iff_mul_le hp).mp h3
end Go.Proofs.Ytehljndbfjfbfaa.AI
namespace Go.Proofs.Ytehljndbfjfbfaa.AI
set_option linter.unusedVariables false
set_option linter.unusedSimpArgs false
end Go.Proofs.Ytehljndbfjfbfaa.AI
namespace Go.Proofs.Ytehljndbfjfbfaa.AI
open Go
set_option linter.unusedVariables false
set_option linter.unusedSimpArgs false
set_option maxRecDepth 100000
set_option maxHeartbeats 0
def Zo(a b:Nat):Bool:=decide (¬zx a/\¬zx b/\qq a=qq b)
theorem qw(a:Nat):Zo a a=decide (¬zx a):=by unfold Zo;congr 1;apply propext;constructor<;>intro h<;>simp_all
section
variable (P:Program)(t:TypeId)(x y:Operand)(a b:Nat)
theorem qS(op:BinOp):eqGuard op t x y (.float .f64 a) (.float .f64 b)=pure ():=by
 cases op<;>rfl
@[simp] theorem WL : qD P .lss t x y (.float .f64 a) (.float .f64 b) = some (.bool (qV a b)) := by
 unfold qD
 rw[qS]
 show one (some (Value.bool (Ieee.double.order a b==some .lt)))=_
 rw[f_lt];rfl
@[simp] theorem WN : qD P .gtr t x y (.float .f64 a) (.float .f64 b) = some (.bool (qV b a)) := by
 unfold qD
 rw[qS]
 show one (some (Value.bool (Ieee.double.order a b==some .gt)))=_
 rw[f_gt]
 unfold qV
 show some (Value.bool _)=_
 congr 2
 apply decide_eq_decide.mpr
 constructor<;>(rintro⟨h1,h2,h3⟩;exact⟨h2,h1,h3⟩)
@[simp] theorem WP : qD P .eql t x y (.float .f64 a) (.float .f64 b) = some (.bool (Zo a b)) := by
 unfold qD
 rw[qS]
 show one (some (Value.bool (Ieee.double.order a b==some .eq)))=_
 rw[KY];rfl
@[simp] theorem WK : qD P .neq t x y (.float .f64 a) (.float .f64 b) = some (.bool (!Zo a b)) := by
 unfold qD
 rw[qS]
 show one (some (Value.bool (!(Ieee.double.order a b==some .eq))))=_
 rw[KY];rfl
@[simp] theorem WM : qD P .leq t x y (.float .f64 a) (.float .f64 b) = some (.bool (qV a b || Zo a b)) := by
 unfold qD
 rw[qS]
 show one (some (Value.bool (Ieee.double.order a b==some .lt||Ieee.double.order a b==some .eq)))=_
 rw[KY,f_lt];rfl
end
section
variable (P:Program)(t:TypeId)(x y:Operand)
theorem xE(n:Nat)(h:n<18446744073709551616):IntKind.u64.wrap (n:Int)=n:=Km qc qc
theorem QY(n:Nat)(h:n<9223372036854775808):qD P .or t x y (.int .u64 (n:Int)) (.int .u64 9223372036854775808)=some (.int .u64 ((n+9223372036854775808:Nat):Int)):=by
 rw[Vf]
 show some (Value.int .u64 (IntKind.u64.wrap ((BitVec.ofInt 64 (n:Int)|||BitVec.ofInt 64 9223372036854775808).toNat:Nat)))=_
 rw[Ys n h,xE _ qc]
theorem QZ(n:Nat)(h:n<9223372036854775808):qD P .and t x y (.int .u64 (n:Int)) (.int .u64 9223372036854775808)=some (.int .u64 0):=by
 rw[Zb]
 show some (Value.int .u64 (IntKind.u64.wrap ((BitVec.ofInt 64 (n:Int)&&&BitVec.ofInt 64 9223372036854775808).toNat:Nat)))=_
 rw[vE n h]
 rfl
theorem Za(n:Nat)(h:9223372036854775808<=n)(h':n<18446744073709551616):qD P .and t x y (.int .u64 (n:Int)) (.int .u64 9223372036854775808)=some (.int .u64 9223372036854775808):=by
 rw[Zb]
 show some (Value.int .u64 (IntKind.u64.wrap ((BitVec.ofInt 64 (n:Int)&&&BitVec.ofInt 64 9223372036854775808).toNat:Nat)))=_
 rw[vF n h h']
 rfl
theorem Wi(n:Nat)(h:n<18446744073709551616):(BitVec.ofInt 64 18446744073709551615^^^BitVec.ofInt 64 (n:Int)).toNat=18446744073709551615-n:=by
 have e:BitVec.ofInt 64 18446744073709551615=BitVec.allOnes 64:=qf
 rw[e,BitVec.allOnes_xor,BitVec.toNat_not,qcc]
 have e1:(((n:Int)%((2^64:Nat):Int)).toNat)=n:=qc
 rw[e1]
theorem JF(n:Nat)(h:n<18446744073709551616):Kn P .xor (.int .u64 (n:Int))=some (.int .u64 ((18446744073709551615-n:Nat):Int)):=by
 show some (Value.int .u64 (IntKind.u64.wrap ((BitVec.ofInt 64 18446744073709551615^^^BitVec.ofInt 64 (n:Int)).toNat:Nat)))=_
 rw[Wi n h,xE _ qc]
def nw(w:Nat):Nat:=if w<9223372036854775808 then w+9223372036854775808 else w-9223372036854775808
theorem Kk(w:Nat)(h:w<18446744073709551616):w^^^2^63=nw w:=by
 unfold nw
 by_cases h1:w<9223372036854775808
 ·rw[if_pos h1]
  have e:w+9223372036854775808=2^63*1+w:=qc
  rw[e,qcv qc]
  apply qcy
  intro i
  rw[Nat.testBit_xor,Nat.testBit_or,qcn,qc2]
  by_cases hi:63=i
  ·subst hi
   rw[qc8 qc]
   rfl
  ·simp[hi]
 ·rw[if_neg h1]
  obtain⟨m,rfl⟩:∃m,w=2^63*1+m:=⟨w-2^63,qc⟩
  have e:2^63*1+m-9223372036854775808=m:=qc
  rw[e,qcv qc]
  apply qcy
  intro i
  rw[Nat.testBit_xor,Nat.testBit_or,qcn,qc2]
  by_cases hi:63=i
  ·subst hi
   rw[qc8 (show m<2^63 by omega)]
   rfl
  ·simp[hi]
theorem YK(w:Nat)(h:w<18446744073709551616):Kn P .neg (.float .f64 w)=some (.float .f64 (nw w)):=by
 rw[<-Kk w h];rfl
end
theorem kO(n:Int):FloatKind.f64.nearest n<18446744073709551616:=by
 have e1:Ieee.double.signWeight=9223372036854775808:=qf
 have e3:Ieee.double.infRung=9218868437227405312:=qf
 have hw:∀(s:Bool) (r:Nat),r<=9218868437227405312->Ieee.double.word s r<18446744073709551616:=by
  intro s r hr
  unfold Ieee.Format.word
  rw[e1]
  split<;>omega
 have key:∀(s:Bool) (m:Nat) (p:Int),Ieee.double.nearest s m p<18446744073709551616:=by
  intro s m p
  unfold Ieee.Format.nearest
  split
  ·exact hw _ _ qc
  ·rw[e3]
   exact hw _ _ (Nat.min_le_right _ _)
 exact key (decide (n<0)) n.natAbs 0
end Go.Proofs.Ytehljndbfjfbfaa.AI
namespace Go.Proofs.Ytehljndbfjfbfaa.AI
open Ieee
set_option linter.unusedVariables false
set_option linter.unusedSimpArgs false
def YD(U:Nat):Prop:=U=2^1074
theorem YD.eq{U:Nat}(h:YD U):U=2^1074:=h
theorem YD.pos{U:Nat}(h:YD U):0<U:=Eq.mpr (congrArg (0<·) h.eq) (qb2 1074)
def fV(x:Nat):Int:=sg (x/9223372036854775808%2==1) ((qK (x%9223372036854775808):Nat):Int)
theorem XV(a b:Int):compare a b= .lt↔a<b:=by
 rw[zK]
 by_cases h:a<b
 ·simp[h]
 ·by_cases h':a=b<;>simp[h,h']
theorem Vt(x y:Nat):fV x<fV y↔qq x<qq y:=by
 rw[<-XV,<-XV,zJ,zJ]
 unfold fV
 rw[XU]
theorem kb(s:Bool)(r:Nat)(h:r<9218868437227405312):fV (double.word s r)=sg s ((qK r:Nat):Int)/\(double.word s r)%9223372036854775808=r/\((double.word s r)/9223372036854775808%2==1)=s:=by
 have e1:double.signWeight=9223372036854775808:=qf
 unfold fV Format.word
 rw[e1]
 cases s
 ·have a1:r%9223372036854775808=r:=qc
  have a2:r/9223372036854775808%2=0:=qc
  simp[a1,a2]
 ·have a1:(9223372036854775808+r)%9223372036854775808=r:=qc
  have a2:r/9223372036854775808=0:=qc
  simp[a1,a2]
theorem Xv(m q:Nat)(h:0<m):(m*2^q).log2=m.log2+q:=by
 have h0:m*2^q≠0:=by have:=Nat.mul_pos h (qb2 q);omega
 have a1:=Nat.log2_self_le (n:=m) qc
 have a2:=Nat.lt_log2_self (n:=m)
 have b1:m.log2+q<=(m*2^q).log2:=(Nat.le_log2 h0).mpr (by rw[qdi];exact qbx _ a1)
 have b2:(m*2^q).log2<m.log2+q+1:=(Nat.log2_lt h0).mpr (by rw[show m.log2+q+1=(m.log2+1)+q by omega,qdi];exact qcj a2 (qb2 q))
 omega
theorem VK(a b c:Nat)(h:a+b=c):2^a*2^b=2^c:=by rw[<-Nat.pow_add,h]
theorem pw2(a b c d:Nat)(h:a+b=c+d):2^a*2^b=2^c*2^d:=by rw[<-Nat.pow_add,<-Nat.pow_add,h]
theorem kT(n d:Nat):n/(1<<<min d (n.log2+2))=n/2^d/\n%(1<<<min d (n.log2+2))=n%2^d:=by
 rw[qcx,Nat.one_mul]
 by_cases h:d<=n.log2+2
 ·rw[Nat.min_eq_left h];exact⟨rfl,rfl⟩
 ·have a2:=Nat.lt_log2_self (n:=n)
  have h1:n<2^(n.log2+2):=qcb a2 (qcw qf qc)
  have h2:n<2^d:=qcb h1 (qcw qf qc)
  rw[Nat.min_eq_right qc,Nat.div_eq_of_lt h1,Nat.div_eq_of_lt h2,Nat.mod_eq_of_lt h1,Nat.mod_eq_of_lt h2]
  exact⟨rfl,rfl⟩
theorem XS(s:Bool)(n d:Nat):Toward.down.cut s n d=n/2^d+(s&&n%2^d !=0).toNat:=by
 unfold Toward.cut
 simp only[(kT n d).1,(kT n d).2]
theorem XQ(s:Bool)(n d:Nat):Toward.zero.cut s n d=n/2^d:=by
 unfold Toward.cut
 simp only[(kT n d).1,Bool.toNat_false,qch]
theorem XR(s:Bool)(k d:Nat):Toward.even.cut s (k*2^d) d=k:=by
 unfold Toward.cut
 have hp:=qb2 d
 simp only[(kT (k*2^d) d).1,(kT (k*2^d) d).2]
 rw[qcq _ hp,Nat.mul_mod_left]
 have e:(1<<<min d ((k*2^d).log2+2)<2*0)=False:=qe
 have e2:((1<<<min d ((k*2^d).log2+2))==2*0)=false:=by
  rw[qcx,Nat.one_mul]
  have:=qb2 (min d ((k*2^d).log2+2))
  first|(simp;done)|(simp;omega)
 simp only[e,e2,decide_false,Bool.false_and,Bool.or_false,Bool.toNat_false,qch]
theorem yy(s:Bool)(m q U:Nat)(hU:YD U)(h:0<m)(hm:m<=9007199254740992):∃r,double.nearest s (m*2^q) (-(q:Int))=double.word s r/\r<9218868437227405312/\qK r=m*U:=by
 have e2:double.binade=4503599627370496:=qf
 have e3:double.infRung=9218868437227405312:=qf
 have e4:double.leastPlace=-1074:=qf
 have e5:double.fractionBits=52:=qf
 have lg:=Xv m q h
 have a1:=Nat.log2_self_le (n:=m) qc
 have a2:=Nat.lt_log2_self (n:=m)
 obtain⟨L,hL⟩:∃L,L=m.log2:=⟨_,rfl⟩
 rw[<-hL]at a1 a2 lg
 have hL53:L<=53:=by
  rcases qci 53 L with c|c
  ·have:2^54<=2^L:=qcw qf c
   have t:(2:Nat)^54=18014398509481984:=qf
   omega
  ·exact c
 --the digits that are kept
 obtain⟨K,hK1,hK2,hK3⟩:∃K,(∀a d,q+a+L=52+d->m*2^q*2^a=K*2^d)/\(4503599627370496<=K/\K<9007199254740992)/\K*2^(L+1022)=m*U:=by
  by_cases c:L<=52
  ·refine⟨m*2^(52-L),fun a d hd=>?_,⟨?_,?_⟩,?_⟩
   ·rw[qcg,<-Nat.pow_add,qcg,<-Nat.pow_add]
    congr 2
    omega
   ·have t:2^L*2^(52-L)=4503599627370496:=by rw[<-Nat.pow_add,show L+(52-L)=52 by omega]
    have:=qbx (2^(52-L)) a1
    omega
   ·have t:2^(L+1)*2^(52-L)=9007199254740992:=by rw[<-Nat.pow_add,show L+1+(52-L)=53 by omega]
    have:=qcj a2 (qb2 (52-L))
    omega
   ·rw[hU.eq,qcg,VK _ _ _ (show 52-L+(L+1022)=1074 by omega)]
  ·have c':L=53:=qc
   have t:(2:Nat)^53=9007199254740992:=qf
   have t':(2:Nat)^52=4503599627370496:=qf
   have hm':m=2^53:=by
    rw[c',t]at a1
    omega
   refine⟨4503599627370496,fun a d hd=>?_,⟨qc,qc⟩,?_⟩
   ·rw[hm',<-t',<-Nat.pow_add,<-Nat.pow_add,<-Nat.pow_add]
    congr 1
    omega
   ·rw[hm',hU.eq,<-t']
    exact pw2 52 (L+1022) 53 1074 (by rw[c'])
 refine⟨(L+1022)*4503599627370496+K,?_,qc,?_⟩
 ·unfold Format.nearest
  have h0:m*2^q≠0:=by have:=Nat.mul_pos h (qb2 q);omega
  rw[if_neg h0]
  simp only[lg,e2,e3,e4,e5]
  have el:max (-(q:Int)+((L+q:Nat):Int)-((52:Nat):Int)) (-1074)=(L:Int)-52:=qc
  rw[el]
  obtain⟨a,ha⟩:∃a,a=(-(q:Int)-((L:Int)-52)).toNat:=⟨_,rfl⟩
  obtain⟨d,hd⟩:∃d,d=((L:Int)-52- -(q:Int)).toNat:=⟨_,rfl⟩
  rw[<-ha,<-hd,qcx,hK1 a d qc,XR]
  have e6:((L:Int)-52- -1074).toNat=L+1022:=qc
  rw[e6,Nat.min_eq_left qc]
 ·unfold qK
  rw[if_neg qc]
  have d1:((L+1022)*4503599627370496+K)/4503599627370496=L+1023:=qc
  have d2:((L+1022)*4503599627370496+K)%4503599627370496=K-4503599627370496:=qc
  rw[d1,d2,<-hK3,show 4503599627370496+(K-4503599627370496)=K by omega,show L+1023-1=L+1022 by omega]
theorem yV(s:Bool)(p:Int):double.nearest s 0 p=double.word s 0:=if_pos rfl
theorem Jt(U:Nat)(hU:YD U)(s:Bool)(t:Int)(q:Nat)(n:Int)(ht:t=n*((2^q:Nat):Int))(hn:-9007199254740992<=n/\n<=9007199254740992)(hs:t≠0->s=decide (t<0)):
 ¬zx (double.nearest s t.natAbs (-(q:Int)))/\fV (double.nearest s t.natAbs (-(q:Int)))=n*U/\(double.nearest s t.natAbs (-(q:Int)))%9223372036854775808<9218868437227405312/\(n≠0->((double.nearest s t.natAbs (-(q:Int)))/9223372036854775808%2==1)=decide (n<0)):=by
 have hq:(0:Int)<((2^q:Nat):Int):=by have:=qb2 q;omega
 by_cases h0:n=0
 ·have t0:t=0:=by rw[ht,h0,Int.zero_mul]
  rw[t0,Int.natAbs_zero,yV]
  obtain⟨w1,w2,w3⟩:=kb s 0 qf
  refine⟨?_,?_,by rw[w2];decide,fun h=>absurd h0 h⟩
  ·unfold zx;rw[w2];decide
  ·rw[w1,h0,xr,Int.zero_mul];cases s<;>rfl
 ·have tn:t.natAbs=n.natAbs*2^q:=by rw[ht,Int.natAbs_mul];rfl
  have tne:t≠0:=by rw[ht];exact Int.mul_ne_zero h0 qc
  have ts:decide (t<0)=decide (n<0):=by
   apply decide_eq_decide.mpr
   rw[ht]
   constructor
   ·intro h
    rcases qcs n 0 with c|c|c
    ·exact c
    ·exact absurd c h0
    ·have:=Int.mul_pos c hq;omega
   ·intro h
    have:=Int.mul_neg_of_neg_of_pos h hq
    omega
  obtain⟨r,e1,e2,e3⟩:=yy s n.natAbs q U hU qc qc
  rw[tn,e1]
  obtain⟨w1,w2,w3⟩:=kb s r e2
  refine⟨?_,?_,by rw[w2];exact e2,fun _=>by rw[w3,hs tne,ts]⟩
  ·unfold zx;rw[w2];omega
  ·rw[w1,e3,hs tne,ts,qdf]
   unfold sg
   by_cases c:n<0
   ·rw[decide_eq_true c,if_pos rfl,<-Int.neg_mul]
    congr 1
    omega
   ·rw[decide_eq_false c,if_neg qf]
    congr 1
    omega
def Vs(s:Bool)(M U:Nat):Nat:=M/U+(s&&M%U !=0).toNat
theorem yI(x U:Nat)(hU:YD U)(hx:x%9223372036854775808<9218868437227405312):
 (double.read x).integral .down= .number (x/9223372036854775808%2==1) (Vs (x/9223372036854775808%2==1) (qK (x%9223372036854775808)) U) 0/\
 (double.read x).toInt .zero=some (sg (x/9223372036854775808%2==1) ((qK (x%9223372036854775808)/U:Nat):Int)):=by
 obtain⟨m,i,e1,e2⟩:=je hx
 have key:(m<<<(-1074+(i:Int)).toNat)/2^(-(-1074+(i:Int))).toNat=qK (x%9223372036854775808)/U/\((m<<<(-1074+(i:Int)).toNat)%2^(-(-1074+(i:Int))).toNat !=0)=(qK (x%9223372036854775808)%U !=0):=by
  rw[<-e2,qcx]
  by_cases c:1074<=i
  ·have a1:(-1074+(i:Int)).toNat=i-1074:=qc
   have a2:(-(-1074+(i:Int))).toNat=0:=qc
   have a3:m*2^i=m*2^(i-1074)*U:=by rw[hU.eq,qcg,VK _ _ _ (show i-1074+1074=i by omega)]
   have hp:0<U:=hU.pos
   rw[a1,a2,a3,qcq _ hp,Nat.mul_mod_left,qdg,Nat.div_one,Nat.mod_one]
   exact⟨rfl,rfl⟩
  ·have a1:(-1074+(i:Int)).toNat=0:=qc
   have a2:(-(-1074+(i:Int))).toNat=1074-i:=qc
   have a3:U=2^(1074-i)*2^i:=by rw[hU.eq,VK _ _ _ (show 1074-i+i=1074 by omega)]
   have hp:0<2^i:=qb2 _
   rw[a1,a2,a3,qdg,qcn,Nat.mul_div_mul_right _ _ hp,Nat.mul_mod_mul_right]
   refine⟨rfl,?_⟩
   have:m%2^(1074-i)*2^i=0↔m%2^(1074-i)=0:=by
    rw[Nat.mul_eq_zero]
    constructor
    ·rintro(h|h)
     ·exact h
     ·omega
    ·exact .inl
   cases hb:(m%2^(1074-i)!=0)with
   |true=>simp only[bne_iff_ne,ne_eq]at hb;symm;simp only[bne_iff_ne,ne_eq];exact fun h=>hb (this.mp h)
   |false=>simp only[bne_eq_false_iff_eq]at hb;symm;simp only[bne_eq_false_iff_eq];exact this.mpr hb
 refine⟨?_,?_⟩
 ·rw[e1]
  simp only[Datum.integral,XS]
  rw[key.1,key.2]
  rfl
 ·rw[e1]
  simp only[Datum.toInt,Datum.integral,XQ]
  rw[key.1,jB,qdg,qcn]
def wh(s:Bool)(M U:Nat):Int:=sg s ((Vs s M U:Nat):Int)
theorem JE(s:Bool)(M U:Nat)(hU:0<U):wh s M U*U<=sg s (M:Int)/\sg s (M:Int)<(wh s M U+1)*U:=by
 obtain⟨k,hk⟩:∃k,k=M/U:=⟨_,rfl⟩
 obtain⟨r,hr⟩:∃r,r=M%U:=⟨_,rfl⟩
 have e:M=U*k+r:=by rw[hk,hr];exact(Nat.div_add_mod M U).symm
 have hlt:r<U:=by rw[hr];exact Nat.mod_lt _ hU
 have e':(M:Int)=(k:Int)*(U:Int)+r:=by rw[e,Int.natCast_add,qdf,Int.mul_comm]
 unfold wh Vs
 rw[<-hk,<-hr,e']
 cases s
 ·have z:(false&&r !=0).toNat=0:=rfl
  rw[z,qch]
  show(k:Int)*U<=(k:Int)*U+r/\(k:Int)*U+r<((k:Int)+1)*U
  rw[Int.add_mul,Int.one_mul]
  generalize(k:Int)*U=z at*
  omega
 ·by_cases h0:r=0
  ·have z:(true&&r !=0).toNat=0:=by rw[h0];rfl
   rw[z,qch]
   show -(k:Int)*U<=-((k:Int)*U+r)/\-((k:Int)*U+r)<(-(k:Int)+1)*U
   rw[Int.add_mul,Int.one_mul,qdj]
   generalize(k:Int)*U=z at*
   omega
  ·have z:(true&&r !=0).toNat=1:=by simp[h0]
   rw[z]
   show -((k+1:Nat):Int)*U<=-((k:Int)*U+r)/\-((k:Int)*U+r)<(-((k+1:Nat):Int)+1)*U
   have z2:-((k+1:Nat):Int)+1=-(k:Int):=qc
   have z3:((k+1:Nat):Int)=(k:Int)+1:=qc
   rw[z2,z3,qdj,qdj,Int.add_mul,Int.one_mul]
   generalize(k:Int)*U=z at*
   omega
theorem YH(s:Bool)(M U:Nat)(hU:0<U)(h:M<9007199254740992*U):Vs s M U<=9007199254740992/\-9007199254740992<=wh s M U/\wh s M U<9007199254740992:=by
 have hk:M/U<9007199254740992:=(Nat.div_lt_iff_lt_mul hU).mpr h
 unfold wh Vs
 cases s
 ·have z:(false&&M%U !=0).toNat=0:=rfl
  rw[z]
  show _/\-9007199254740992<=((M/U+0:Nat):Int)/\((M/U+0:Nat):Int)<9007199254740992
  generalize M/U=k at*
  omega
 ·have z:(true&&M%U !=0).toNat<=1:=by cases(M%U !=0)<;>decide
  generalize(true&&M%U !=0).toNat=t at*
  show _/\-9007199254740992<=-((M/U+t:Nat):Int)/\-((M/U+t:Nat):Int)<9007199254740992
  generalize M/U=k at*
  omega
theorem Xr(U:Nat)(hU:YD U):qK 4607182418800017408=U:=by
 have d1:4607182418800017408/4503599627370496-1=1022:=qf
 have d2:4503599627370496+4607182418800017408%4503599627370496=4503599627370496:=qf
 have t':(2:Nat)^52=4503599627370496:=qf
 unfold qK
 rw[if_neg qf,d1,d2,hU.eq,<-t']
 exact VK 52 1022 1074 rfl
theorem Js{x:Nat}(h:x%9223372036854775808<9218868437227405312):∃(m i:Nat),double.read x= .number (x/9223372036854775808%2==1) m (-1074+i)/\fV x=sg (x/9223372036854775808%2==1) ((m*2^i:Nat):Int):=by
 obtain⟨m,i,e1,e2⟩:=je h
 exact⟨m,i,e1,by unfold fV;rw[e2]⟩
theorem YU(s:Bool)(a c:Nat):sg s ((a*c:Nat):Int)=sg s (a:Int)*(c:Int):=by
 cases s
 ·exact qdf a c
 ·show -((a*c:Nat):Int)=-(a:Int)*c
  rw[qdf,qdj]
theorem Yx(U:Nat)(hU:YD U)(a:Nat)(ha:a%9223372036854775808<9218868437227405312)(n:Int)(hn:-9007199254740992<=n+1/\n+1<=9007199254740992)(hv:fV a=n*U):
 ∃r,double.add a 4607182418800017408=some r/\¬zx r/\fV r=(n+1)*U:=by
 obtain⟨m,i,e1,e2⟩:=Js ha
 obtain⟨m1,i1,f1,f2⟩:=Js (x:=4607182418800017408) qf
 have s1:(4607182418800017408/9223372036854775808%2==1)=false:=qf
 rw[s1]at f1 f2
 have v1:fV 4607182418800017408=(U:Int):=by
  unfold fV
  have r1:4607182418800017408%9223372036854775808=4607182418800017408:=qf
  rw[s1,r1,Xr U hU]
  rfl
 have g2:m1*2^i1=U:=by
  have:(U:Int)=((m1*2^i1:Nat):Int):=v1.symm.trans f2
  omega
 have hi1:i1<=1074:=by
  have hm1:0<m1:=by
   rcases qcr m1 with c|c
   ·rw[c,qct]at g2;have:=hU.pos;omega
   ·exact c
  have h1:2^i1<=U:=by
   rw[<-g2]
   exact Nat.le_mul_of_pos_left _ hm1
  rcases qci 1074 i1 with c|c
  ·have h2:=Nat.pow_lt_pow_right (a:=2) qf c
   rw[<-hU.eq]at h2
   exact absurd h2 (Nat.not_lt.mpr h1)
  ·exact c
 obtain⟨b,hb⟩:∃b,b=min i i1:=⟨_,rfl⟩
 obtain⟨q,hq⟩:∃q,q=1074-b:=⟨_,rfl⟩
 obtain⟨T,hT⟩:∃T:Int,T=sg (a/9223372036854775808%2==1) ((m*2^(i-b):Nat):Int)+sg false ((m1*2^(i1-b):Nat):Int):=⟨_,rfl⟩
 have hT2:T=(n+1)*((2^q:Nat):Int):=by
  have hp:(0:Int)<((2^b:Nat):Int):=by have:=qb2 b;omega
  refine Int.eq_of_mul_eq_mul_right (a:=((2^b:Nat):Int)) qc ?_
  have w1:m*2^(i-b)*2^b=m*2^i:=by rw[qcg,VK _ _ _ (show i-b+b=i by omega)]
  have w2:m1*2^(i1-b)*2^b=m1*2^i1:=by rw[qcg,VK _ _ _ (show i1-b+b=i1 by omega)]
  have w3:2^q*2^b=U:=by rw[hU.eq];exact VK q b 1074 (by rw[hq];omega)
  rw[hT,Int.add_mul,<-YU,<-YU,w1,w2,<-e2,<-f2,hv,v1,Int.mul_assoc,<-Int.natCast_mul,w3,Int.add_mul,Int.one_mul]
 have hadd:∃s,double.add a 4607182418800017408=some (double.nearest s T.natAbs (-(q:Int)))/\(T≠0->s=decide (T<0)):=by
  unfold Format.add
  rw[e1,f1]
  simp only[Datum.sum,qdc]
  have p1:(-1074+(i:Int)-min (-1074+(i:Int)) (-1074+(i1:Int))).toNat=i-b:=qc
  have p2:(-1074+(i1:Int)-min (-1074+(i:Int)) (-1074+(i1:Int))).toNat=i1-b:=qc
  have p3:min (-1074+(i:Int)) (-1074+(i1:Int))=-(q:Int):=qc
  rw[p1,p2,p3,jB,jB,<-hT]
  refine⟨_,rfl,fun h=>?_⟩
  rw[if_neg h]
 obtain⟨s,h1,h2⟩:=hadd
 obtain⟨c1,c2,_⟩:=Jt U hU s T q (n+1) hT2 hn h2
 exact⟨_,h1,c1,c2⟩
theorem JD(U x:Nat)(hU:YD U)(hx:x%9223372036854775808<9218868437227405312)(hM:qK (x%9223372036854775808)<9007199254740992*U)(s:Bool)(hs:s=(x/9223372036854775808%2==1))(M:Nat)(hMe:M=qK (x%9223372036854775808))(W:Int)(hW:W=wh s M U):
 (double.read (double.nearest s (Vs s M U) 0)).toInt .zero=some W/\(-9007199254740992<=W/\W<9007199254740992)/\
 (¬zx (double.nearest (decide (W<0)) W.natAbs 0)/\¬(qq x<qq (double.nearest (decide (W<0)) W.natAbs 0)))/\
 ∃r,double.add (double.nearest (decide (W<0)) W.natAbs 0) 4607182418800017408=some r/\¬zx r/\qq x<qq r:=by
 have hV:fV x=sg s (M:Int):=by rw[hs,hMe];rfl
 rw[<-hMe]at hM
 obtain⟨b1,b2⟩:=JE s M U hU.pos
 obtain⟨r1,r2,r3⟩:=YH s M U hU.pos hM
 rw[<-hW]at b1 b2 r2 r3
 have z0:-((0:Nat):Int)=0:=rfl
 refine⟨?_,⟨r2,r3⟩,?_⟩
 ·by_cases h0:Vs s M U=0
  ·rw[h0,yV]
   obtain⟨w1,w2,w3⟩:=kb s 0 qf
   rw[(yI (double.word s 0) U hU (by rw[w2];decide)).2,w2,w3,xr,Nat.zero_div,hW]
   unfold wh
   rw[h0]
  ·obtain⟨r,e1,e2,e3⟩:=yy s (Vs s M U) 0 U hU qc r1
   rw[qdg,qcn,z0]at e1
   obtain⟨w1,w2,w3⟩:=kb s r e2
   rw[e1,(yI (double.word s r) U hU (by rw[w2];exact e2)).2,w2,w3,e3,qcq _ hU.pos,hW]
   rfl
 ·have nr:=Jt U hU (decide (W<0)) W 0 W (by rw[qdg];show W=W*1;omega) ⟨r2,qc⟩ (fun _=>rfl)
  rw[z0]at nr
  obtain⟨n1,n2,n3,_⟩:=nr
  refine⟨⟨n1,?_⟩,?_⟩
  ·rw[<-Vt,n2,hV]
   exact Int.not_lt.mpr b1
  ·obtain⟨r,a1,a2,a3⟩:=Yx U hU _ n3 W ⟨qc,qc⟩ n2
   exact⟨r,a1,a2,by rw[<-Vt,a3,hV];exact b2⟩
end Go.Proofs.Ytehljndbfjfbfaa.AI
