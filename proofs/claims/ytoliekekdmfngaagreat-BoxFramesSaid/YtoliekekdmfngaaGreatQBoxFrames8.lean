/- Texts that the proof of BoxFrames rests on, part 8. -/
import Derived.Test.YtoliekekdmfngaaGreatQBoxFrames4
import Derived.Test.YtoliekekdmfngaaGreatQBoxFrames5
import Derived.Test.YtoliekekdmfngaaGreatQBoxFrames6
import Derived.Test.YtoliekekdmfngaaGreatQBoxFrames7
import Derived.Lib.Bytealg
import Derived.DataElems
namespace Go.Proofs.YtoliekekdmfngaaGreat.AI
open Go
set_option linter.unusedVariables false
set_option linter.unusedSimpArgs false
set_option maxRecDepth 100000
set_option maxHeartbeats 0
noncomputable def zcu:Value:=.string ⟨#[0,1,2,2,3,3,3,3,4,4,4,4,4,4,4,4,5,5,5,5,5,5,5,5,5,5,5,5,5,5,5,5,6,6,6,6,6,6,6,6,6,6,6,6,6,6,6,6,6,6,6,6,6,6,6,6,6,6,6,6,6,6,6,6,7,7,7,7,7,7,7,7,7,7,7,7,7,7,7,7,7,7,7,7,7,7,7,7,7,7,7,7,7,7,7,7,7,7,7,7,7,7,7,7,7,7,7,7,7,7,7,7,7,7,7,7,7,7,7,7,7,7,7,7,7,7,7,7,8,8,8,8,8,8,8,8,8,8,8,8,8,8,8,8,8,8,8,8,8,8,8,8,8,8,8,8,8,8,8,8,8,8,8,8,8,8,8,8,8,8,8,8,8,8,8,8,8,8,8,8,8,8,8,8,8,8,8,8,8,8,8,8,8,8,8,8,8,8,8,8,8,8,8,8,8,8,8,8,8,8,8,8,8,8,8,8,8,8,8,8,8,8,8,8,8,8,8,8,8,8,8,8,8,8,8,8,8,8,8,8,8,8,8,8,8,8,8,8,8,8,8,8,8,8,8,8]⟩
theorem qxn(v0 v2:Value)(hp:Hp):B165_10 v0 v2 hp=(Zc Tryz.prog 125 5 v0).bind fun y12=>(ixV Tryz.prog 9 zcu y12).bind fun y13=>(Zc Tryz.prog 5 3 y13).bind fun y14=>(qs Tryz.prog .add 3 (.tmp 19) (.tmp 23) v2 y14).bind fun y15=>some (.sc y15,hp):=
 (qmh _ _ _).trans qd
noncomputable def zbu(x:Nat):Bool:=
 match ixV Tryz.prog 9 zcu (.int .u8 (x:Int))with
 |some (.int .u8 (.ofNat n))=>decide (n<=8)&&decide (x<2^n)&&(decide (n=0)||decide (2^(n-1)<=x))
 |_=>false
theorem qx5:(List.range 256).all zbu=true:=qd
theorem zct(x:Nat)(h:x<256):∃n:Nat,n<=8/\Bl x n/\ixV Tryz.prog 9 zcu (.int .u8 (x:Int))=some (.int .u8 (n:Int)):=by
 have hx:=zja.mp qx5 x (zls.mpr h)
 unfold zbu at hx
 split at hx
 ·rename_i n e
  simp only[zke,zlf,decide_eq_true_eq]at hx
  exact⟨n,hx.1.1,⟨hx.1.2,hx.2⟩,e⟩
 ·cases hx
theorem cv8(n:Int):Zc Tryz.prog 5 3 (.int .u8 n)=some (.int .i64 (IntKind.i64.wrap n)):=Vt n
theorem qxz(n:Nat)(h:n<1000000):IntKind.i64.wrap (n:Int)=n:=qj qc qc
theorem zb3(x v:Nat)(h:x<256)(hv:v<=100):∃n,n<=8/\Bl x n/\∀hp,B165_10 (.int .u64 (x:Int)) (.int .i64 (v:Int)) hp=some (.sc (.int .i64 ((n+v:Nat):Int)),hp):=by
 obtain⟨n,h1,h2,h3⟩:=zct x h
 refine⟨n,h1,h2,fun hp=>?_⟩
 have w:IntKind.u8.wrap (x:Int)=x:=zE qc qc
 have w2:IntKind.i64.wrap (n:Int)=n:=qxz n qc
 have w3:IntKind.i64.wrap ((v:Int)+(n:Int))=((n+v:Nat):Int):=qh
 rw[qxn]
 simp[qwk,w,h3,cv8,w2,w3]
theorem qdk(x k:Nat)(hk:k<=64)(o o':Operand)(K:IntKind):qs Tryz.prog .shr 125 o o' (.int .u64 (x:Int)) (.int K (k:Int))=some (.int .u64 ((x/2^k:Nat):Int)):=by
 rw[jF _ _ _ _ _ _ _ _ qc]
 have e:min ((k:Int)).toNat IntKind.u64.bits=k:=by
  have:IntKind.u64.bits=64:=rfl
  rw[this];omega
 rw[e,zjv _ (by exact_mod_cast ziv (2^k))]
 congr 2
theorem len7(x v:Nat)(h:x<65536)(hv:v<=90):∃n,n<=16/\Bl x n/\∀hp,B165_7 (.int .u64 (x:Int)) (.int .i64 (v:Int)) hp=some (.sc (.int .i64 ((n+v:Nat):Int)),hp):=by
 by_cases hx:256<=x
 ·obtain⟨n,h1,h2,h3⟩:=zb3 (x/2^8) (v+8) qc qc
  refine⟨n+8,qc,h2.up qc,fun hp=>?_⟩
  have s:=qdk x 8 qc (.tmp 15) (.const (.int .u64 8)) .u64
  have c:(256:Int)<=(x:Int):=qc
  have w:IntKind.i64.wrap ((v:Int)+8)=((v+8:Nat):Int):=qh
  have e:n+(v+8)=n+8+v:=qc
  rw[e]at h3
  rw[qcv]
  simp at s w h3
  simp[c,s,w,h3]
 ·obtain⟨n,h1,h2,h3⟩:=zb3 x v qc qc
  refine⟨n,qc,h2,fun hp=>?_⟩
  have c:¬((256:Int)<=(x:Int)):=qc
  rw[qcv]
  simp at h3
  simp[c,h3]
theorem len4(x v:Nat)(h:x<4294967296)(hv:v<=70):∃n,n<=32/\Bl x n/\∀hp,B165_4 (.int .u64 (x:Int)) (.int .i64 (v:Int)) hp=some (.sc (.int .i64 ((n+v:Nat):Int)),hp):=by
 by_cases hx:65536<=x
 ·obtain⟨n,h1,h2,h3⟩:=len7 (x/2^16) (v+16) qc qc
  refine⟨n+16,qc,h2.up qc,fun hp=>?_⟩
  have s:=qdk x 16 qc (.tmp 9) (.const (.int .u64 16)) .u64
  have c:(65536:Int)<=(x:Int):=qc
  have w:IntKind.i64.wrap ((v:Int)+16)=((v+16:Nat):Int):=qh
  have e:n+(v+16)=n+16+v:=qc
  rw[e]at h3
  rw[qcw]
  simp at s w h3
  simp[c,s,w,h3]
 ·obtain⟨n,h1,h2,h3⟩:=len7 x v qc qc
  refine⟨n,qc,h2,fun hp=>?_⟩
  have c:¬((65536:Int)<=(x:Int)):=qc
  rw[qcw]
  simp at h3
  simp[c,h3]
theorem qaj(x:Nat)(h:x<18446744073709551616):∃n,n<=64/\Bl x n/\∀hp,run cxX 165 [.sc (.int .u64 (x:Int))] hp=some (.sc (.int .i64 (n:Int)),hp):=by
 by_cases hx:4294967296<=x
 ·obtain⟨n,h1,h2,h3⟩:=len4 (x/2^32) 32 qc qc
  refine⟨n+32,qc,h2.up qc,fun hp=>?_⟩
  have s:=qdk x 32 qc (.tmp 5) (.const (.int .u64 32)) .u64
  have c:(4294967296:Int)<=(x:Int):=qc
  rw[E165]
  simp at s h3
  simp[c,s,h3]
 ·obtain⟨n,h1,h2,h3⟩:=len4 x 0 qc qc
  refine⟨n,qc,h2,fun hp=>?_⟩
  have c:¬((4294967296:Int)<=(x:Int)):=qc
  rw[E165]
  simp at h3
  simp[c,h3]
theorem wnat(n:Nat)(h:n<18446744073709551616):IntKind.u64.wrap (n:Int)=n:=qx qc qc
theorem Jp(x y:Nat)(hy:0<y)(h:x<18446744073709551616)(o o':Operand):qs Tryz.prog .quo 125 o o' (.int .u64 (x:Int)) (.int .u64 (y:Int))=some (.int .u64 ((x/y:Nat):Int)):=by
 rw[xx _ _ _ _ _ _ _ qc,zjr qc,<-Int.natCast_ediv]
 rw[wnat _ (zlr (zma x y) h)]
theorem XO(x y:Nat)(hy:0<y)(o o':Operand):qs Tryz.prog .rem 125 o o' (.int .u64 (x:Int)) (.int .u64 (y:Int))=some (.int .u64 ((x%y:Nat):Int)):=by
 rw[qP _ _ _ _ _ _ _ qc,qO qc,<-Int.natCast_emod]
section
variable {B:Nat}(hB:B=4294967296)
include hB
end
@[simp] theorem zgy(b g o:Nat):Yu (.ptr b g o)=some false:=rfl
@[simp] theorem zgz:Yu (.sc (.pointer none))=some true:=rfl
@[simp] theorem zh0(b g o:Nat):WH (.ptr b g o)=some ():=rfl
@[simp] theorem zei(b g o:Nat):zP (.ptr b g o)=some (b,g,o):=rfl
@[simp] theorem ro_ptr(b g o:Nat):ro (.ptr b g o)= .ptr b g o:=rfl
@[simp] theorem zhx(b g o:Nat):ro1 (.ptr b g o)= .ptr b g o:=rfl
@[simp] theorem zfr(b g o:Nat):yn (.ptr b g o)=some ():=rfl
theorem zo(hp:Hp)(b:Nat)(x y:List AV):(hp.put b 0 x).put b 0 y=hp.put b 0 y:=by
 unfold Hp.put
 congr 1
 funext z
 by_cases e:z=b
 ·simp[e]
 ·simp[e]
theorem xj{hp:Hp}{b:Nat}{x:List AV}(h:hp.rd b 0=some x):hp.put b 0 x=hp:=by
 have hg:hp.get b=some (0,x):=by
  unfold Hp.rd at h
  obtain⟨p,hp1,h⟩:=bsm h
  split at h
  ·rename_i e
   cases h
   rw[hp1]
   obtain⟨p1,p2⟩:=p
   have:p1=0:=e.1
   subst this;rfl
  ·cases h
 obtain⟨n,g⟩:=hp
 unfold Hp.put
 congr 1
 funext z
 by_cases e:z=b
 ·subst e;simp only[if_true];exact hg.symm
 ·simp[e]
theorem yT(hp:Hp){b c:Nat}(x:List AV)(h:c≠b):(hp.put b 0 x).rd c 0=hp.rd c 0:=by
 simp[Hp.rd,Hp.put,h]
theorem jH(hp:Hp){c:Nat}(x:List AV)(h:c≠hp.next):(hp.new x).rd c 0=hp.rd c 0:=by
 simp[Hp.rd,Hp.new,h]
@[simp] theorem qu3(hp:Hp)(b:Nat)(x:List AV):(hp.put b 0 x).next=hp.next:=rfl
@[simp] theorem zg0(hp:Hp)(x:List AV):(hp.new x).next=hp.next+1:=rfl
abbrev Wc(l:List Int):List AV:=[S 2 1 (LI .u8 l)]
theorem qsl{x:Int}:IntKind.u8.wrap x=x%256:=by rw[IntKind.wrap_u8]
theorem vC(b:Nat)(l:List Int)(c:Int)(hl:l.length<=1000000)(hp:Hp)(h:hp.rd b 0=some (Wc l)):
 run cxX 73 [.ptr b 0 0,.sc (.int .u8 c)] hp=some (.tup [],hp.put b 0 (Wc (l++[c]))):=by
 have ap:=qe1 .u8 l 2 (.inr rfl) 1 qf c hl
 rw[E73]
 simp[h,qt,ap,qw,qm,zo]
theorem kj(b:Nat)(l m:List Int)(k:Nat)(hl:l.length+m.length<=1000000)(hp:Hp)(h:hp.rd b 0=some (Wc l)):
 run cxX 72 [.ptr b 0 0,S k 1 (LI .u8 m)] hp=some (.tup [],hp.put b 0 (Wc (l++m))):=by
 have ap:=fun k=>qbu .u8 l 2 (.inr rfl) 1 qf k m hl
 rw[E72]
 simp[h,qt,ap,qw,qm,zo]
theorem wa(b:Nat)(l:List Int)(hl:l.length<=1000000)(hp:Hp)(h:hp.rd b 0=some (Wc l)):
 run cxX 79 [.ptr b 0 0] hp=some (S 1 1 (LI .u8 l),hp):=by
 have ap:=fun k=>qbu .u8 [] 1 (.inl rfl) 1 qf k l (by simpa using hl)
 simp at ap
 rw[E79]
 simp[h,qt,ap]
theorem qui:∀x:BitVec 8,(x|||128#8).toNat=x.toNat%128+128:=qf
theorem zgs(n:Nat)(t:TypeId)(x y:Operand):qs Tryz.prog .or t x y (.int .u8 ((n:Int)%256)) (.int .u8 128)=some (.int .u8 ((n%128+128:Nat):Int)):=by
 rw[yE]
 have e1:(BitVec.ofInt 8 ((n:Int)%256)).toNat=n%256:=by
  rw[zji]
  omega
 have e2:(BitVec.ofInt IntKind.u8.bits ((n:Int)%256)|||BitVec.ofInt IntKind.u8.bits 128).toNat=n%128+128:=by
  show(BitVec.ofInt 8 ((n:Int)%256)|||128#8).toNat=_
  rw[qui,e1]
  omega
 rw[e2,zE qc qc]
theorem shr7(n:Nat)(t:TypeId)(x y:Operand):qs Tryz.prog .shr t x y (.int .u64 (n:Int)) (.int .u64 7)=some (.int .u64 ((n/128:Nat):Int)):=by
 rw[jF _ _ _ _ _ _ _ _ qc]
 congr 2
 rw[zjv _ qf]
 show(n:Int)/128=_
 omega
theorem qjj(b:Nat):∀(n:Nat) (l:List Int) (hp:Hp),n<18446744073709551616->l.length+(uv n).length<=1000000->hp.rd b 0=some (Wc l)->
 B70_0 (.ptr b 0 0) (.int .u64 (n:Int)) hp=some (.tup [],hp.put b 0 (Wc (l++uv n))):=by
 intro n
 induction n using Nat.strongRecOn with
 |_ n ih=>
  intro l hp hn hl h
  rw[qw9]
  by_cases h1:n<128
  ·rw[Kl h1]at hl⊢
   have hge:¬((n:Int)>=128):=qc
   have hge':¬((128:Int)<=(n:Int)):=qc
   have w:IntKind.u8.wrap (n:Int)=(n:Int):=zE qc qc
   have wb:=vC b l n (by simp at hl;omega) hp h
   simp[hge',w,wb]
  ·rw[WX h1]at hl⊢
   have hge:(128:Int)<=(n:Int):=qc
   have w:IntKind.u8.wrap (n:Int)=(n:Int)%256:=by rw[qsl]
   have wb:=vC b l ((n%128+128:Nat):Int) (by simp at hl;omega) hp h
   have o:=zgs n
   have s:=shr7 n
   have ih':=ih (n/128) qc (l++[((n%128+128:Nat):Int)]) (hp.put b 0 (Wc (l++[((n%128+128:Nat):Int)]))) qc (by simp at hl⊢;omega) (qw _ _ _)
   rw[zo]at ih'
   generalize((n%128+128:Nat):Int)=c at*
   generalize((n/128:Nat):Int)=d at*
   simp[hge,w,wb,o,s,ih',-yE]
theorem Yh(b n:Nat)(l:List Int)(hn:n<18446744073709551616)(hl:l.length+(uv n).length<=1000000)(hp:Hp)(h:hp.rd b 0=some (Wc l)):
 run cxX 70 [.ptr b 0 0,.sc (.int .u64 (n:Int))] hp=some (.tup [],hp.put b 0 (Wc (l++uv n))):=by
 rw[E70]
 simp[qjj b n l hp hn hl h]
theorem xor_zero(x:Nat)(h:x<18446744073709551616)(t:TypeId)(a b:Operand):qs Tryz.prog .xor t a b (.int .u64 (x:Int)) (.int .u64 0)=some (.int .u64 (x:Int)):=by
 rw[yD]
 have e:(BitVec.ofInt IntKind.u64.bits (x:Int)^^^BitVec.ofInt IntKind.u64.bits 0).toNat=x:=by
  show(BitVec.ofInt 64 (x:Int)^^^0#64).toNat=x
  rw[BitVec.xor_zero,zji]
  omega
 rw[e,qx qc qc]
abbrev Rc(k:Nat)(l:List Int)(p:Nat)(e:Int):List AV:=[S k 1 (LI .u8 l),.sc (.int .i64 (p:Int)),.sc (.int .i64 e)]
def rE(e f:Int):Int:=if e=0 then f else e
def rL(l:List Int)(p:Nat)(e:Int):Nat:=if e=0 then l.length-p else 0
theorem vB(k:Nat)(l:List Int)(hp:Hp):run cxX 42 [S k 1 (LI .u8 l)] hp=some (.ptr hp.next 0 0,hp.new (Rc (rk k) l 0 0)):=by
 rw[E42]
 simp[qm]
 rfl
theorem qyb(k:Nat)(cs:List AV)(i h:Nat)(hih:i<=h)(hh:h<=cs.length)(hne:cs≠[]):
 zS 1 (S k 1 cs) (some (.int .i64 (i:Int))) (some (.int .i64 (h:Int))) (some (.int .i64 (h:Int)))=some (S 0 1 ((cs.drop i).take (h-i))):=by
 have b1:qH 0 (cs.length:Int) (some (.int .i64 (h:Int))) cs.length=some h:=vP .i64 hh
 have b2:qH 0 (h:Int) (some (.int .i64 (h:Int))) cs.length=some h:=vP .i64 (zif h)
 have b3:qH 0 (h:Int) (some (.int .i64 (i:Int))) 0=some i:=vP .i64 hih
 rcases zg k 1 cs with e|e|⟨e,e'⟩
 ·rw[e]
  simp only[cmb,zS,if_true,b1,b2,b3,zib,zi7]
  rfl
 ·rw[e]
  simp only[cmb,zS,if_true,b1,b2,b3,zib,zi7]
  rfl
 ·exact absurd e' hne
section
variable (b k:Nat)(l:List Int)(p:Nat)(e:Int)(hp:Hp)
theorem Qe(h:hp.rd b 0=some (Rc k l p e)):run cxX 89 [.ptr b 0 0] hp=some (.sc (.int .i64 e),hp):=by
 rw[E89]
 simp[h,qi]
theorem QC(f:Int)(h:hp.rd b 0=some (Rc k l p e)):run cxX 154 [.ptr b 0 0,.sc (.int .i64 f)] hp=some (.tup [],hp.put b 0 (Rc k l p (rE e f))):=by
 rw[E154]
 unfold rE
 by_cases h0:e=0
 ·subst h0
  simp[h,qi,qr7,qm]
 ·simp[h,qi,h0,xj h]
theorem qag(hl:l.length<=1000000000)(hp':p<=l.length)(h:hp.rd b 0=some (Rc k l p e)):run cxX 153 [.ptr b 0 0] hp=some (.sc (.int .i64 (rL l p e:Nat)),hp):=by
 rw[E153]
 unfold rL
 by_cases h0:e=0
 ·subst h0
  have w:IntKind.i64.wrap ((l.length:Int)-(p:Int))=((l.length-p:Nat):Int):=qh
  simp[h,qi,qt,qr8,w]
 ·simp[h,qi,h0,qr9]
def rB(l:List Int)(p:Nat)(e:Int):Int×Nat×Int:=if rL l p e=0 then(0,p,rE e 3)else(l.getD p 0,p+1,e)
theorem QD(hl:l.length<=1000000000)(hp':p<=l.length)(h:hp.rd b 0=some (Rc k l p e)):
 run cxX 90 [.ptr b 0 0] hp=some (.sc (.int .u8 (rB l p e).1),hp.put b 0 (Rc k l (rB l p e).2.1 (rB l p e).2.2)):=by
 have lf:=qag b k l p e hp hl hp' h
 rw[E90]
 unfold rB
 by_cases h0:rL l p e=0
 ·have fl:=QC b k l p e hp 3 h
  simp[lf,h0,fl]
 ·have he:e=0:=by
   unfold rL at h0
   by_cases he:e=0
   ·exact he
   ·simp[he]at h0
  subst he
  have hlt:p<l.length:=by unfold rL at h0;simp at h0;omega
  have w:IntKind.i64.wrap ((p:Int)+1)=((p+1:Nat):Int):=qh
  have w2:IntKind.i64.wrap (((p+1:Nat):Int)-1)=(p:Int):=qh
  have w3:IntKind.i64.wrap (p:Int)=(p:Int):=qj qc qc
  simp only[Int.natCast_add,Int.natCast_one]at w w2
  simp[lf,h0,h,qi,qt,w,qm,qw,w2,w3,hlt,Rc]
theorem KB(n:Nat)(hl:l.length<=1000000000)(hn:n<=1000000000)(hp':p<=l.length)(h:hp.rd b 0=some (Rc k l p e)):
 ∃t,run cxX 87 [.ptr b 0 0,.sc (.int .i64 (n:Int))] hp=
  if rL l p e<n then some (S 2 1 [],hp.put b 0 (Rc k l p (rE e 3)))else if n=0 then some (S 2 1 [],hp)else some (S t 1 (LI .u8 ((l.drop p).take n)),hp.put b 0 (Rc k l (p+n) e)):=by
 have lf:=qag b k l p e hp hl hp' h
 have fl:=QC b k l p e hp 3 h
 have h00:¬((n:Int)<0):=qc
 rw[E87]
 by_cases h0:rL l p e<n
 ·refine⟨0,?_⟩
  simp[h00,lf,h0,qw7,fl]
 ·by_cases h1:n=0
  ·subst h1
   refine⟨0,?_⟩
   have hz:¬((rL l p e:Int)<0):=qc
   simp[lf,hz,qi3]
  ·have he:e=0:=by
    unfold rL at h0
    by_cases he:e=0
    ·exact he
    ·simp[he]at h0;omega
   subst he
   have hlt:p+n<=l.length:=by unfold rL at h0;simp at h0;omega
   have w:IntKind.i64.wrap ((p:Int)+(n:Int))=((p+n:Nat):Int):=qh
   have w2:IntKind.i64.wrap (((p+n:Nat):Int)-(n:Int))=(p:Int):=qh
   have sl:=fun k=>qyb k (LI .u8 l) p (p+n) qc (by simpa using hlt) (by intro hn0;have:=congrArg List.length hn0;simp at this;subst this;simp at hlt;omega)
   have e1:p+n-p=n:=qc
   simp only[e1,zhf,zbt]at sl
   refine⟨0,?_⟩
   have hz:¬((rL l p 0:Int)<(n:Int)):=qc
   have pn:∀x:AV,qm (Rc k l p 0) 1 [x]=some [S k 1 (LI .u8 l),x,.sc (.int .i64 0)]:=fun x=>rfl
   have hn1:¬((n:Int)=0):=qc
   generalize hq:((p+n:Nat):Int)=q at*
   simp[h00,lf,h0,hz,qi3,h1,hn1,h,qi,qt,w,pn,qw,w2,sl,Rc,hq]
theorem qfr(hl:l.length<=1000000000)(hp':p<=l.length)(h:hp.rd b 0=some (Rc k l p e)):
 run cxX 91 [.ptr b 0 0] hp=some (.sc (.int .i64 (if e=0/\p<l.length then 15 else e)),hp):=by
 have er:=Qe b k l p e hp h
 rw[E91]
 by_cases h0:e=0
 ·subst h0
  by_cases h1:p<l.length
  ·simp[h,qi,qt,h1,qw5]
  ·simp[h,qi,qt,h1,qi1,er]
 ·simp[h,qi,h0,qi1,er]
end
theorem qq4:∀x:BitVec 8,(x&&&127#8).toNat=x.toNat%128:=qf
theorem zfg(c:Nat)(hc:c<256)(t:TypeId)(x y:Operand):qs Tryz.prog .and t x y (.int .u8 (c:Int)) (.int .u8 127)=some (.int .u8 ((c%128:Nat):Int)):=by
 rw[ja]
 have e1:(BitVec.ofInt 8 (c:Int)).toNat=c:=by
  rw[zji];omega
 have e2:(BitVec.ofInt IntKind.u8.bits (c:Int)&&&BitVec.ofInt IntKind.u8.bits 127).toNat=c%128:=by
  show(BitVec.ofInt 8 (c:Int)&&&127#8).toNat=_
  rw[qq4,e1]
 rw[e2,zE qc qc]
theorem zdq(n x s:Nat)(hn:n<2^s)(h:n+x*2^s<18446744073709551616)(t:TypeId)(a b:Operand):
 qs Tryz.prog .or t a b (.int .u64 (n:Int)) (.int .u64 ((x*2^s:Nat):Int))=some (.int .u64 ((n+x*2^s:Nat):Int)):=by
 rw[yE]
 generalize hy:x*2^s=y at*
 have e:(BitVec.ofInt IntKind.u64.bits (n:Int)|||BitVec.ofInt IntKind.u64.bits (y:Int)).toNat=n+y:=by
  show(BitVec.ofInt 64 (n:Int)|||BitVec.ofInt 64 (y:Int)).toNat=_
  rw[zl9,zji,zji]
  have e1:((n:Int)%((2^64:Nat):Int)).toNat=n:=qc
  have e2:((y:Int)%((2^64:Nat):Int)).toNat=y:=qc
  rw[e1,e2]
  have:=zkn hn x
  rw[zi3]at this
  rw[hy]at this
  rw[Nat.or_comm,<-this,zmo]
 rw[e,qx qc qc]
def rU(l:List Int)(p:Nat)(e:Int)(most:Nat):Nat×Nat×Int:=
 if e≠0 then(0,p,e)
 else if(gU (l.drop p) 0 0 0).2.2≠0 then(0,p+(gU (l.drop p) 0 0 0).2.1,(gU (l.drop p) 0 0 0).2.2)
 else if most<(gU (l.drop p) 0 0 0).1 then(0,p+(gU (l.drop p) 0 0 0).2.1,7)
 else((gU (l.drop p) 0 0 0).1,p+(gU (l.drop p) 0 0 0).2.1,0)
section
variable (b k:Nat)(l:List Int)(most:Nat)
theorem Ym(p:Nat)(e:Int)(he:e≠0)(hp:Hp)(h:hp.rd b 0=some (Rc k l p e))(v:Value)(n s:Int)(c:Int):
 B88_7 (.ptr b 0 0) v (.int .u64 n) (.int .i64 s) (.int .u8 c) hp=some (.sc (.int .u64 0),hp):=by
 have er:=Qe b k l p e hp h
 rw[qi2]
 simp[er,he]
theorem KJ(p:Nat)(e:Int)(hp:Hp)(h:hp.rd b 0=some (Rc k l p e))(v:Value)(n s:Int)(c:Int):
 B88_6 (.ptr b 0 0) v (.int .u64 n) (.int .i64 s) (.int .u8 c) hp=some (.sc (.int .u64 0),hp.put b 0 (Rc k l p (rE e 4))):=by
 have fl:=QC b k l p e hp 4 h
 have e7:=Ym b k l p (rE e 4) (by unfold rE;split<;>simp_all) (hp.put b 0 (Rc k l p (rE e 4))) (qw _ _ _) v n s c
 rw[qw6]
 simp[fl,e7]
def uF(most:Nat)(g:Nat×Nat×Int):Nat×Int:=if g.2.2≠0 then(0,g.2.2)else if most<g.1 then(0,7)else(g.1,0)
theorem qyt(hm:most<18446744073709551616)(q s n c:Nat)(hp:Hp)(hc:c<256)(hs:s<=63)(hn:n<2^s)(hfit:n+c%128*2^s<18446744073709551616)(h:hp.rd b 0=some (Rc k l q 0)):
 B88_7 (.ptr b 0 0) (.int .u64 most) (.int .u64 n) (.int .i64 s) (.int .u8 c) hp=
  if c<128 then(if most<n+c*2^s then some (.sc (.int .u64 0),hp.put b 0 (Rc k l q 7))else some (.sc (.int .u64 ((n+c*2^s:Nat):Int)),hp))
  else B88_4 (.ptr b 0 0) (.int .u64 most) (.int .u64 ((n+(c-128)*2^s:Nat):Int)) (.int .i64 ((s+7:Nat):Int)) hp:=by
 have er:=Qe b k l q 0 hp h
 have fl:=QC b k l q 0 hp 7 h
 have an:=zfg c hc
 have w:IntKind.u64.wrap ((c%128:Nat):Int)=((c%128:Nat):Int):=qx qc qc
 have sh:∀t x y,qs Tryz.prog .shl t x y (.int .u64 ((c%128:Nat):Int)) (.int .i64 (s:Int))=some (.int .u64 ((c%128*2^s:Nat):Int)):=by
  intro t x y
  rw[xw _ _ _ _ _ _ _ _ qc]
  have e:min (s:Int).toNat IntKind.u64.bits=s:=by
   have:IntKind.u64.bits=64:=rfl
   omega
  rw[e]
  have e2:((c%128:Nat):Int)*2^s=((c%128*2^s:Nat):Int):=qe
  rw[e2,qx qc qc]
 have oo:=zdq n (c%128) s hn hfit
 have w7:IntKind.i64.wrap ((s:Int)+7)=((s+7:Nat):Int):=qh
 rw[qi2]
 by_cases h1:c<128
 ·have e1:c%128=c:=qc
  rw[e1]at an w sh oo
  have hlt:((c:Int)<128):=qc
  rw[if_pos h1]
  by_cases h2:most<n+c*2^s
  ·rw[if_pos h2]
   generalize c*2^s=y at*
   generalize hz:n+y=z at*
   have hlt2:(most:Int)<(z:Int):=qc
   simp[er,an,w,sh,oo,hlt,hlt2,fl,rE,-ja,-yE]
  ·rw[if_neg h2]
   generalize c*2^s=y at*
   generalize hz:n+y=z at*
   have hlt2:¬((most:Int)<(z:Int)):=qc
   simp[er,an,w,sh,oo,hlt,hlt2,-ja,-yE]
 ·have e1:c%128=c-128:=qc
  rw[e1]at an w sh oo
  have hlt:¬((c:Int)<128):=qc
  rw[if_neg h1]
  generalize(c-128)*2^s=y at*
  generalize hz:n+y=z at*
  generalize((c-128:Nat):Int)=c' at*
  generalize((s+7:Nat):Int)=s' at*
  simp[er,an,w,sh,oo,hlt,w7,-ja,-yE]
end
section
variable (b k:Nat)(l:List Int)(most:Nat)
theorem qkd(hm:most<18446744073709551616)(hl:l.length<=1000000000)(h8:∀c∈l,0<=c/\c<256)(p:Nat):∀(r:List Int) (u s n i:Nat) (hp:Hp),l.drop (p+u)=r->p+u<=l.length->s=7*i->i<=9->n<2^s->hp.rd b 0=some (Rc k l (p+u) 0)->
 B88_4 (.ptr b 0 0) (.int .u64 most) (.int .u64 n) (.int .i64 s) hp=some (.sc (.int .u64 ((uF most (gU r s n u)).1:Nat)),hp.put b 0 (Rc k l (p+(gU r s n u).2.1) (uF most (gU r s n u)).2)):=by
 intro r
 induction r with
 |nil=>
  intro u s n i hp hr hpu hs hi hn h
  have hle:=qC hr
  have hb:rB l (p+u) 0=(0,p+u,3):=by
   unfold rB rL rE
   rw[if_pos qg]
   simp
  have rb:=QD b k l (p+u) 0 hp hl hpu h
  rw[hb]at rb
  have g:gU [] s n u=(0,u,3):=rfl
  have f:uF most (0,u,3)=(0,3):=rfl
  rw[g,f]
  have e6:=KJ b k l (p+u) 3 (hp.put b 0 (Rc k l (p+u) 3)) (qw _ _ _) (.int .u64 most) n s 0
  have e7:=Ym b k l (p+u) 3 qf (hp.put b 0 (Rc k l (p+u) 3)) (qw _ _ _) (.int .u64 most) n s 0
  have r34:rE 3 4=3:=rfl
  rw[zo,r34]at e6
  rw[JP]
  by_cases h63:s=63
  ·subst h63
   simp at e6
   simp[rb,e6]
  ·have hc:¬((s:Int)=63):=qc
   by_cases h0:s=0
   ·subst h0
    simp at e7
    simp[rb,e7]
   ·have hp0:0<s:=qc
    simp[rb,hc,hp0,e6]
 |cons c r ih=>
  intro u s n i hp hr hpu hs hi hn h
  obtain⟨e1,e2,hlt,e3⟩:=qv hr
  have hc8:=h8 c (zig e1)
  obtain⟨cn,rfl⟩:∃cn:Nat,c=cn:=⟨c.toNat,qc⟩
  have hb:rB l (p+u) 0=((cn:Int),p+u+1,0):=by
   unfold rB rL
   rw[if_neg qg]
   simp[hlt,e3]
  have rb:=QD b k l (p+u) 0 hp hl hpu h
  rw[hb]at rb
  have e6:=KJ b k l (p+u+1) 0 (hp.put b 0 (Rc k l (p+u+1) 0)) (qw _ _ _) (.int .u64 most) n s cn
  have r34:rE 0 4=4:=rfl
  rw[zo,r34]at e6
  have hs63:s<=63:=qc
  by_cases bad:(s=63/\1<(cn:Int))\/(0<s/\(cn:Int)=0)
  ·have g:gU ((cn:Int)::r) s n u=(0,u+1,4):=by unfold gU;rw[if_pos bad]
   have f:uF most (0,u+1,4)=(0,4):=rfl
   rw[g,f,JP]
   have hpu1:p+(u+1)=p+u+1:=qc
   rw[hpu1]
   by_cases h63:s=63
   ·subst h63
    by_cases h1:1<cn
    ·have h1':1<(cn:Int):=qc
     simp at e6
     simp[rb,h1',e6]
    ·have hc0:cn=0:=by
      rcases bad with⟨_,h2⟩|⟨_,h2⟩<;>omega
     subst hc0
     simp at e6
     simp[rb,e6]
   ·have hc:¬((s:Int)=63):=qc
    have hz:0<s/\cn=0:=by
     rcases bad with⟨h2,_⟩|⟨h2,h3⟩
     ·exact absurd h2 h63
     ·exact⟨h2,qc⟩
    obtain⟨hz1,hz2⟩:=hz
    subst hz2
    simp at e6
    simp[rb,hc,hz1,e6]
  ·have hfit:n+cn%128*2^s<18446744073709551616:=by
    by_cases h63:s=63
    ·subst h63
     have hc1:¬(1<(cn:Int)):=fun h2=>bad (.inl ⟨rfl,h2⟩)
     have e:(2:Nat)^63=9223372036854775808:=rfl
     rw[e]at hn⊢
     have:cn%128<=1:=qc
     omega
    ·have hs56:s<=56:=qc
     have h7:2^s<=2^56:=zjz qf hs56
     have e:(2:Nat)^56=72057594037927936:=rfl
     rw[e]at h7
     have:cn%128*2^s<=127*72057594037927936:=zjn qc h7
     omega
   have b7:=qyt b k l most hm (p+u+1) s n cn (hp.put b 0 (Rc k l (p+u+1) 0)) qc hs63 hn hfit (qw _ _ _)
   have hpu1:p+(u+1)=p+u+1:=qc
   have step:B88_4 (.ptr b 0 0) (.int .u64 most) (.int .u64 n) (.int .i64 s) hp=B88_7 (.ptr b 0 0) (.int .u64 most) (.int .u64 n) (.int .i64 s) (.int .u8 cn) (hp.put b 0 (Rc k l (p+u+1) 0)):=by
    rw[JP]
    by_cases h63:s=63
    ·subst h63
     have h1:¬(1<cn):=fun h2=>bad (.inl ⟨rfl,qc⟩)
     have h2:¬(cn=0):=fun h2=>bad (.inr ⟨qc,qc⟩)
     have h1':¬(1<(cn:Int)):=qc
     simp[rb,h1',h2]
    ·have hc:¬((s:Int)=63):=qc
     by_cases h0:s=0
     ·subst h0
      simp[rb]
     ·have hp0:0<s:=qc
      have h2:¬(cn=0):=fun h2=>bad (.inr ⟨qc,qc⟩)
      simp[rb,hc,hp0,h2]
   rw[step,b7]
   by_cases h1:cn<128
   ·have g:gU ((cn:Int)::r) s n u=(n+cn*2^s,u+1,0):=by
     unfold gU;rw[if_neg bad,if_pos qc,zik]
    rw[if_pos h1,g,zo]
    by_cases h2:most<n+cn*2^s
    ·have f:uF most (n+cn*2^s,u+1,0)=(0,7):=by unfold uF;simp[h2]
     rw[if_pos h2,f]
     simp only[hpu1];rfl
    ·have f:uF most (n+cn*2^s,u+1,0)=(n+cn*2^s,0):=by unfold uF;simp[h2]
     rw[if_neg h2,f]
     simp only[hpu1]
   ·have g:gU ((cn:Int)::r) s n u=gU r (s+7) (n+(cn-128)*2^s) (u+1):=by
     conv=>lhs;unfold gU
     rw[if_neg bad,if_neg qc,zik]
    have hi9:i+1<=9:=by
     by_cases h63:s=63
     ·exact absurd (.inl ⟨h63,qc⟩) bad
     ·omega
    have hn7:n+(cn-128)*2^s<2^(s+7):=by
     have e:2^(s+7)=128*2^s:=by rw[zk7];omega
     rw[e]
     have:(cn-128)*2^s<=127*2^s:=ziq _ qc
     omega
    rw[if_neg h1,g]
    have hh:=ih (u+1) (s+7) (n+(cn-128)*2^s) (i+1) (hp.put b 0 (Rc k l (p+u+1) 0)) (by rw[hpu1];exact e2) qc qc hi9 hn7 (by rw[hpu1];exact qw _ _ _)
    rw[zo]at hh
    exact hh
theorem qop(p:Nat)(e:Int)(hm:most<18446744073709551616)(hl:l.length<=1000000000)(h8:∀c∈l,0<=c/\c<256)(hpl:p<=l.length)(hp:Hp)(h:hp.rd b 0=some (Rc k l p e)):
 run cxX 88 [.ptr b 0 0,.sc (.int .u64 (most:Int))] hp=some (.sc (.int .u64 ((rU l p e most).1:Nat)),hp.put b 0 (Rc k l (rU l p e most).2.1 (rU l p e most).2.2)):=by
 rw[E88]
 by_cases he:e=0
 ·subst he
  have hh:=qkd b k l most hm hl h8 p (l.drop p) 0 0 0 0 hp rfl qc rfl qc qf h
  have er:rU l p 0 most=((uF most (gU (l.drop p) 0 0 0)).1,p+(gU (l.drop p) 0 0 0).2.1,(uF most (gU (l.drop p) 0 0 0)).2):=by
   unfold rU uF
   rw[if_neg qe]
   split
   ·rfl
   ·split<;>rfl
  rw[er]
  simpa using hh
 ·have er:rU l p e most=(0,p,e):=by unfold rU;rw[if_pos he]
  rw[er]
  have hb:rB l p e=(0,p,e):=by
   unfold rB rL rE
   simp[he]
  have rb:=QD b k l p e hp hl hpl h
  rw[hb,xj h]at rb
  have e7:=Ym b k l p e he hp h (.int .u64 most) 0 0 0
  rw[xj h]
  simp[JP,rb,e7]
end
theorem qx1(P:Program)(a:Int):unV P .neg (.int .i64 a)=some (.int .i64 (IntKind.i64.wrap (0-a))):=rfl
def Fm(X:List Nat)(hp hp':Hp):Prop:=hp.next<=hp'.next/\∀c,c<hp.next->c∉X->hp'.get c=hp.get c
theorem Fm.refl(X:List Nat)(hp:Hp):Fm X hp hp:=⟨zif _,fun _ _ _=>rfl⟩
theorem Fm.trans{X:List Nat}{a b c:Hp}(h:Fm X a b)(g:Fm X b c):Fm X a c:=
 ⟨zjw h.1 g.1,fun x hx hn=>by rw[g.2 x (zi8 hx h.1) hn,h.2 x hx hn]⟩
theorem Fm.mono{X Y:List Nat}{a b:Hp}(h:Fm X a b)(hs:∀c,c∈X->c<a.next->c∈Y):Fm Y a b:=
 ⟨h.1,fun c hc hn=>h.2 c hc (fun hx=>hn (hs c hx hc))⟩
theorem rdg{a b:Hp}{c:Nat}(h:b.get c=a.get c):b.rd c 0=a.rd c 0:=by unfold Hp.rd;rw[h]
theorem Fm.rd{X:List Nat}{a b:Hp}(h:Fm X a b){c:Nat}(hc:c<a.next)(hn:c∉X):b.rd c 0=a.rd c 0:=rdg (h.2 c hc hn)
theorem Fm.put{X:List Nat}(hp:Hp)(b:Nat)(x:List AV)(hb:b∈X):Fm X hp (hp.put b 0 x):=
 ⟨zif _,fun c _ hn=>by
  have:c≠b:=fun e=>hn (e▸hb)
  simp[Hp.put,this]⟩
theorem Fm.new(X:List Nat)(hp:Hp)(x:List AV):Fm X hp (hp.new x):=
 ⟨zme _,fun c hc _=>by
  have:c≠hp.next:=qc
  simp[Hp.new,this]⟩
theorem Fm.delNew{X:List Nat}(hp:Hp)(b:Nat)(x:List AV)(hb:b∈X):Fm X hp ((hp.del b).new x):=
 ⟨zme _,fun c hc hn=>by
  have h1:c≠hp.next:=qc
  have h2:c≠b:=fun e=>hn (e▸hb)
  have h3:c≠(hp.del b).next:=h1
  show(if c=(hp.del b).next then _ else(hp.del b).get c)=_
  rw[if_neg h3]
  show(if c=b then none else hp.get c)=_
  rw[if_neg h2]⟩
def Bs(nb:Nat)(bs:List Bool):AV:=if bs=[]then S 2 1 []else .ms nb 0 0 (pk bs).length 1
def BW(hp:Hp)(w nb:Nat)(bs:List Bool):Prop:=
 w<hp.next/\(bs=[]->nb=w)/\(bs≠[]->nb<hp.next/\nb≠w/\hp.rd nb 0=some (LI .u8 (pk bs)))/\hp.rd w 0=some [Bs nb bs,.sc (.int .i64 (bs.length:Int))]
theorem BW.new(hp:Hp):BW (hp.new [S 2 1 [],.sc (.int .i64 0)]) hp.next hp.next []:=
 ⟨zj4 _,fun _=>rfl,fun h=>absurd rfl h,by rw[qF];rfl⟩
theorem BW.fr{hp hp':Hp}{w nb:Nat}{bs:List Bool}{X:List Nat}(h:BW hp w nb bs)(f:Fm X hp hp')(h1:w∉X)(h2:nb∉X):BW hp' w nb bs:=
 ⟨zi8 h.1 f.1,h.2.1,fun hb=>⟨zi8 (h.2.2.1 hb).1 f.1,(h.2.2.1 hb).2.1,by rw[f.rd (h.2.2.1 hb).1 h2];exact(h.2.2.1 hb).2.2⟩,
  by rw[f.rd h.1 h1];exact h.2.2.2⟩
def BS(hp:Hp)(w nb:Nat)(hp':Hp)(nb':Nat)(l:List Bool):Prop:=BW hp' w nb' l/\Fm [w,nb] hp hp'/\(nb'=nb\/hp.next<=nb')
theorem BS.trans{a b c:Hp}{w n1 n2 n3:Nat}{l m:List Bool}(hw:w<a.next)(h:BS a w n1 b n2 l)(g:BS b w n2 c n3 m):BS a w n1 c n3 m:=by
 refine⟨g.1,⟨zjw h.2.1.1 g.2.1.1,fun x hx hn=>?_⟩,?_⟩
 ·have hx':=zi8 hx h.2.1.1
  simp at hn
  rw[g.2.1.2 x hx' (by simp;refine⟨hn.1,?_⟩;rcases h.2.2 with e|e
                       ·rw[e];exact hn.2
                       ·omega),h.2.1.2 x hx (by simp;exact hn)]
 ·have:=h.2.1.1
  rcases h.2.2 with e|e
  ·rcases g.2.2 with e'|e'
   ·exact .inl (by rw[e',e])
   ·exact .inr qc
  ·rcases g.2.2 with e'|e'
   ·exact .inr qc
   ·exact .inr qc
theorem rem8(m:Nat)(t:TypeId)(x y:Operand):qs Tryz.prog .rem t x y (.int .i64 (m:Int)) (.int .i64 8)=some (.int .i64 ((m%8:Nat):Int)):=by
 rw[qP _ _ _ _ _ _ _ qc,qO qc]
 rfl
theorem zdn(m:Nat)(hm:m<1000000000)(t:TypeId)(x y:Operand):qs Tryz.prog .quo t x y (.int .i64 (m:Int)) (.int .i64 8)=some (.int .i64 ((m/8:Nat):Int)):=by
 rw[xx _ _ _ _ _ _ _ qc,zjr qc,qj qc qc]
 rfl
section
variable (w nb n:Nat)(v1:Value)(i:Nat)(bs:List Bool)(hp:Hp)
theorem xS(K:IntKind)(l:List Int)(i:Nat)(h:i<l.length):qi (LI K l) i=some (.int K (l.getD i 0)):=by
 unfold qi LI
 rw[zir,zia,zic h]
 rfl
end
abbrev Kv(K:Int)(x:AV):AV:=.agg [.sc (.int .i64 K),x]
theorem qhe(K:Int)(q0 q1 p1:AV)(hp:Hp):∀(n:Nat) (a b acc:List Int) (k k':Nat),a.length+b.length=n->acc.length+n<=1000000->
 B194_3 (S k 1 (LI .u64 a)) (S k' 1 (LI .u64 b)) [.sc (.int .i64 K),p1] [q0,q1] [.sc (.int .i64 K),S 2 1 (LI .u64 acc)] hp=some (Kv K (S 2 1 (LI .u64 (acc++(mrg a b).take (K.toNat-acc.length)))),hp):=by
 intro n
 induction n using Nat.strongRecOn with
 |_ n ih=>
 intro a b acc k k' hn hlen
 have ap:∀x:Int,zh 8 1 (S 2 1 (LI .u64 acc)) (S 1 1 [.sc (.int .u64 x)])=some (S 2 1 (LI .u64 (acc++[x]))):=fun x=>qe1 .u64 acc 2 (.inr rfl) 8 qf x qc
 have fin:B194_9 [q0,q1] [.sc (.int .i64 K),S 2 1 (LI .u64 acc)] hp=some (Kv K (S 2 1 (LI .u64 acc)),hp):=by
  rw[qru]
  simp[qo,qm]
 rw[qry]
 by_cases hK:(acc.length:Int)<K
 ·have hs:K.toNat-acc.length=(K.toNat-(acc.length+1))+1:=qc
  have goA:∀(x:Int) (r:List Int),r.length+1+b.length<=n->B194_6 (S k 1 (LI .u64 (x::r))) (S k' 1 (LI .u64 b)) [.sc (.int .i64 K),p1] [q0,q1] [.sc (.int .i64 K),S 2 1 (LI .u64 acc)] hp=some (Kv K (S 2 1 (LI .u64 (acc++(x::mrg r b).take (K.toNat-acc.length)))),hp):=by
   intro x r hle
   rw[qrw]
   have e:=yP (rk k) (LI .u64 (x::r)) .i64 1 qc (by simp only[yI,zid];omega)
   have i:=fun k=>ih (r.length+b.length) qc r b (acc++[x]) k k' rfl (by simp only[zh8,zid,zi1];omega)
   simp at i
   rw[hs,zim]
   simp[qt,qi,ap,e,qm,i]
  have goB:∀(y:Int) (r:List Int),a.length+(r.length+1)<=n->B194_8 (S k 1 (LI .u64 a)) (S k' 1 (LI .u64 (y::r))) [.sc (.int .i64 K),p1] [q0,q1] [.sc (.int .i64 K),S 2 1 (LI .u64 acc)] hp=some (Kv K (S 2 1 (LI .u64 (acc++(y::mrg a r).take (K.toNat-acc.length)))),hp):=by
   intro x r hle
   rw[qrv]
   have e:=yP (rk k') (LI .u64 (x::r)) .i64 1 qc (by simp only[yI,zid];omega)
   have i:=fun k'=>ih (a.length+r.length) qc a r (acc++[x]) k k' rfl (by simp only[zh8,zid,zi1];omega)
   simp at i
   rw[hs,zim]
   simp[qt,qi,ap,e,qm,i]
  have wE:∀(x y:Int) (r s:List Int),r.length+s.length+2<=n->B194_4 (S k 1 (LI .u64 (x::r))) (S k' 1 (LI .u64 (y::s))) [.sc (.int .i64 K),p1] [q0,q1] [.sc (.int .i64 K),S 2 1 (LI .u64 acc)] hp=some (Kv K (S 2 1 (LI .u64 (acc++(x::mrg r s).take (K.toNat-acc.length)))),hp):=by
   intro x y r s hle
   rw[qrx]
   have e:=yP (rk k) (LI .u64 (x::r)) .i64 1 qc (by simp only[yI,zid];omega)
   have e':=yP (rk k') (LI .u64 (y::s)) .i64 1 qc (by simp only[yI,zid];omega)
   have i:=fun k k'=>ih (r.length+s.length) qc r s (acc++[x]) k k' rfl (by simp only[zh8,zid,zi1];omega)
   simp at i
   rw[hs,zim]
   simp[qt,qi,ap,e,e',qm,i]
  match a,b with
  |[],[]=>simp[qt,qi,hK,fin]
  |[],y::s=>
   have h:=goB y s (by simp at hn⊢;omega)
   simp at h
   have hw':IntKind.i64.wrap ((s.length:Int)+1)=(s.length:Int)+1:=qj qc (by simp at hn;omega)
   have p:(0:Int)<(s.length:Int)+1:=qc
   have z:¬((s.length:Int)+1=0):=qc
   simp[qt,qi,hK,hw',p,z,vS,YP,h]
  |x::r,[]=>
   have h:=goA x r (by simp at hn⊢;omega)
   simp at h
   have hw':IntKind.i64.wrap ((r.length:Int)+1)=(r.length:Int)+1:=qj qc (by simp at hn;omega)
   have p:(0:Int)<(r.length:Int)+1:=qc
   simp[qt,qi,hK,hw',p,vS,h]
  |x::r,y::s=>
   have h1:=goA x r (by simp at hn⊢;omega)
   have h2:=goB y s (by simp at hn⊢;omega)
   have h3:=wE x y r s (by simp at hn⊢;omega)
   have hw':IntKind.i64.wrap ((r.length:Int)+1+((s.length:Int)+1))=(r.length:Int)+1+((s.length:Int)+1):=qj qc (by simp at hn;omega)
   have p:(0:Int)<(r.length:Int)+1+((s.length:Int)+1):=qc
   have p':(0:Int)<(r.length:Int)+1:=qc
   have z:¬((s.length:Int)+1=0):=qc
   have z':¬((r.length:Int)+1=0):=qc
   rw[zB]
   by_cases hxy:x<y
   ·simp[qt,qi,hK,hw',p,p',z,z',hxy,h1,vS]
   ·by_cases hyx:y<x
    ·simp[qt,qi,hK,hw',p,p',z,z',hxy,hyx,h2,vS,YP]
    ·simp[qt,qi,hK,hw',p,p',z,z',hxy,hyx,h3,vS,YP]
 ·have hs:K.toNat-acc.length=0:=qc
  simp[qt,qi,hK,fin,hs]
theorem qj7(K:Int)(B':AV)(a b:List Int)(k k':Nat)(hp:Hp)(hlen:a.length+b.length<=1000000):
 run cxX 194 [Kv K (S k 1 (LI .u64 a)),.agg [B',S k' 1 (LI .u64 b)]] hp=some (Kv K (S 2 1 (LI .u64 ((mrg a b).take K.toNat))),hp):=by
 rw[E194]
 have:=qhe K (.sc (.int .i64 0)) (S 2 1 []) (S (rk k) 1 (LI .u64 a)) hp (a.length+b.length) a b [] (rk k) (rk k') rfl (by simpa using hlen)
 simp at this
 simp[qi,qt]
 exact this
theorem qti(K:Int)(a:List Int)(n:Int)(k:Nat)(hp:Hp)(hlen:a.length+1<=1000000):
 run cxX 126 [Kv K (S k 1 (LI .u64 a)),.sc (.int .u64 n)] hp=some (Kv K (S 2 1 (LI .u64 ((mrg a [n]).take K.toNat))),hp):=by
 rw[E126]
 have m:=fun k k' hp=>qj7 K (.sc (.int .i64 K)) a [n] k k' hp (by simpa using hlen)
 simp[LI]at m
 simp[qi,qo,qm,LI,m]
def cut(few:Bool)(n:Int):Int:=if few then n%30 else n
theorem qvl(K:Int)(few:Bool)(q0 q1:AV)(k:Nat)(l:List Int)(hK:K<=1000)(hl:l.length<=1000)(hpos:∀n∈l,0<=n)(hp:Hp):∀(r:List Int) (i:Nat) (acc:List Int) (k':Nat),l.drop i=r->acc.length<=1000->
 B61_3 (.bool few) (S k 1 (LI .u64 l)) (.int .i64 l.length) (.int .i64 i) [q0,q1] [.sc (.int .i64 K),S 2 1 (LI .u64 acc)] hp=some (Kv K (S 2 1 (LI .u64 (Qn K.toNat acc (r.map (cut few))))),hp):=by
 intro r
 induction r with
 |nil=>
  intro i acc k' hr ha
  have:=qC hr
  have hlt:¬((i:Int)<(l.length:Int)):=qc
  rw[qja]
  simp[hlt,qo,qm,Qn]
 |cons x r ih=>
  intro i acc k' hr ha
  obtain⟨e1,e2,hi,e3⟩:=qv hr
  have hx:=hpos x (zig e1)
  have hw:IntKind.i64.wrap ((i:Int)+1)=((i+1:Nat):Int):=qh
  have h:=ih (i+1) ((mrg acc [cut few x]).take K.toNat) k' e2 (by rw[ziy];omega)
  have d:=fun hp=>qti K acc (cut few x) 3 hp qc
  have e7:B61_7 (.bool few) (.int .u64 (cut few x)) (S k 1 (LI .u64 l)) (.int .i64 l.length) (.int .i64 i) [q0,q1] [.sc (.int .i64 K),S 2 1 (LI .u64 acc)] hp=some (Kv K (S 2 1 (LI .u64 (Qn K.toNat acc ((x::r).map (cut few))))),hp):=by
   rw[qxf]
   simp at h hw
   simp[qo,qm,d,hw,h,Qn]
  rw[qja]
  have hm:∀a b,qs Tryz.prog .rem 125 a b (.int .u64 x) (.int .u64 30)=some (.int .u64 (x%30)):=by
   intro a b;rw[qP _ _ _ _ _ _ _ qc,qO hx]
  cases few with
  |true=>
   simp[cut]at e7
   simp[hi,e3,qi,hm,e7,cut]
  |false=>
   simp[cut]at e7
   simp[hi,e3,qi,e7,cut]
theorem qyn(c:Int)(few:Bool)(l:List Int)(k:Nat)(hc:0<=c/\c<256)(hl:l.length<=1000)(hpos:∀n∈l,0<=n)(hp:Hp):
 run cxX 61 [.sc (.int .u8 c),S k 1 (LI .u64 l),.sc (.bool few)] hp=some (Kv (1+c%20) (S 2 1 (LI .u64 (Qn (1+c%20).toNat [] (l.map (cut few))))),hp):=by
 rw[E61]
 have h1:∀x y,qs Tryz.prog .rem 5 x y (.int .u8 c) (.int .u8 20)=some (.int .u8 (c%20)):=by
  intro x y;rw[qP _ _ _ _ _ _ _ qc,qO hc.1]
 have w1:IntKind.i64.wrap (c%20)=c%20:=qj qc qc
 have w2:IntKind.i64.wrap (1+c%20)=1+c%20:=qj qc qc
 have hq:=qvl (1+c%20) few (.sc (.int .i64 0)) (S 2 1 []) (rk k) l qc hl hpos hp l 0 [] 2 rfl qe
 simp at hq
 simp[h1,Vt,w1,w2,hq]
@[simp] theorem ro_fn(f:FuncId)(c:List AV):ro (.fn f c)= .fn f c:=rfl
def qpp:List Int->Int
 |[]=>0
 |[_]=>0
 |x::y::r=>if y<=x then 8 else qpp (y::r)
def zaa(K:Int)(l:List Int):Int:=if K<1\/1024<K then 2 else if K<(l.length:Int)then 7 else qpp l
theorem wT(K:IntKind)(l:List Nat)(i:Nat)(h:i<l.length):(LI K (nz l))[i]?=some (.sc (.int K (l.getD i 0:Nat))):=by
 unfold LI nz
 rw[zir,zir,zia,zic h]
 rfl
section
variable (l:List Nat)(k:Nat)(hl:l.length<=1000000)(h64:∀x∈l,x<18446744073709551616)(hr:jp l)
include hl h64 hr
end
theorem qfl(K:IntKind)(x k:Nat)(hk:k<=K.bits)(t:TypeId)(o o':Operand)(K':IntKind):qs Tryz.prog .shr t o o' (.int K (x:Int)) (.int K' (k:Int))=some (.int K ((x/2^k:Nat):Int)):=by
 rw[jF _ _ _ _ _ _ _ _ qc,zik,zkt hk,zjv _ (Int.le_of_lt (Int.pow_pos qc))]
 simp
theorem BW.lt{hp:Hp}{w nb:Nat}{bs:List Bool}(h:BW hp w nb bs):nb<hp.next:=by
 by_cases hb:bs=[]
 ·rw[h.2.1 hb];exact h.1
 ·exact(h.2.2.1 hb).1
def W2(h0:Nat)(hp:Hp)(w1 n1:Nat)(b1:List Bool)(w2 n2:Nat)(b2:List Bool):Prop:=
 BW hp w1 n1 b1/\BW hp w2 n2 b2/\w1≠w2/\n1≠w2/\n1≠n2/\w1≠n2/\h0<=w1/\h0<=w2/\h0<=n1/\h0<=n2
theorem W2.one{h0:Nat}{hp hp':Hp}{w1 n1 n1' w2 n2:Nat}{b1 b2 b1':List Bool}(h:W2 h0 hp w1 n1 b1 w2 n2 b2)(s:BS hp w1 n1 hp' n1' b1'):W2 h0 hp' w1 n1' b1' w2 n2 b2/\∀c,c<h0->hp'.get c=hp.get c:=by
 obtain⟨a1,a2,d1,d2,d3,d4,e1,e2,e3,e4⟩:=h
 obtain⟨s1,s2,s3⟩:=s
 have l1:=a1.lt
 have l2:=a2.lt
 have l3:=a2.1
 have l4:=a1.1
 refine⟨⟨s1,a2.fr s2 qg qg,d1,qc,qc,d4,e1,e2,qc,e4⟩,fun c hc=>s2.2 c qc qg⟩
theorem zam{l:List Nat}(h32:∀x∈l,x<4294967296)(i:Nat)(hi:i<l.length):l.getD i 0<4294967296:=by
 rw[zia,zic hi]
 exact h32 _ (zi6 _)
section
variable (l:List Nat)(k k':Nat)(hl:l.length<=4096)(h32:∀x∈l,x<4294967296)(hr:yd l)
include hl h32 hr
end
section
variable (l:List Nat)(k:Nat)(hl:l.length<=4096)(h32:∀x∈l,x<4294967296)(hr:yd l)
include hl h32 hr
theorem qlg(hne:l≠[]):yi l<=32/\zK l<4294967296/\(zZ (yi l) 0 l).length<=3*4096:=by
 have hpos:=zjj.mpr hne
 have hlast:zK l<4294967296:=zam h32 _ qc
 have h1:=qne l.length (zK l) hlast
 have h2:=qha hpos hlast
 have h3:=Vi (yi l) l hr
 have h4:yi l=qk1 l.length (zK l):=rfl
 rw[h4]at h3⊢
 exact⟨h1,hlast,qc⟩
end
def wrd(m j:Nat):Nat:=m/2^(64*j)%18446744073709551616
abbrev Cc(c:Nat×Nat):List AV:=[.sc (.int .u32 (c.1:Int)),.sc (.int .u64 (wrd c.2 0:Nat)),.sc (.int .u64 (wrd c.2 1:Nat)),.sc (.int .u64 (wrd c.2 2:Nat)),.sc (.int .u64 (wrd c.2 3:Nat))]
theorem qeh(m:Nat):kind m<=2:=by
 unfold kind
 split
 ·omega
 ·split<;>omega
def csL(cs:List (Nat×Nat)):List AV:=cs.flatMap Cc
@[simp] theorem zh5 (cs : List (Nat × Nat)) : (csL cs).length = 5 * cs.length := by
 induction cs with
 |nil=>rfl
 |cons c r ih=>
  have e:csL (c::r)=Cc c++csL r:=rfl
  rw[e,zh8,ih,zid]
  show 5+5*r.length=5*(r.length+1)
  omega
theorem VA{c:Nat×Nat}(hc:okC c):(wZ c).length<=60:=by
 have h1:=qu (n:=c.1) (by have:=hc.1;omega)
 unfold wZ qqx
 have a:=qbt c.2
 have b:=vE c.2
 have k3:=qeh c.2
 rw[zh8,zid]
 by_cases k0:kind c.2=0
 ·rw[if_pos k0,zid,a]
  unfold kind at k0
  split at k0
  ·rename_i h;omega
  ·split at k0<;>omega
 ·rw[if_neg k0]
  by_cases k1:kind c.2=1
  ·rw[if_pos k1,qws];omega
  ·rw[if_neg k1,zid,b]
   unfold kind at k0 k1
   split at k0
   ·omega
   ·rename_i h
    rw[if_neg h]at k1
    split at k1
    ·omega
    ·omega
theorem qny:∀l,(JV l).length<=l.length:=by
 intro l
 induction l with
 |nil=>exact zif _
 |cons x r ih=>
  show(qdz x (JV r)).length<=_
  cases hq:JV r with
  |nil=>simp[qdz]
  |cons c s=>
   rw[hq]at ih
   rw[QF]
   split<;>simp at ih⊢<;>omega
section
variable (l:List Nat)(k k':Nat)(hl:l.length<=4096)(h32:∀x∈l,x<4294967296)(hr:jp l)
include hl h32 hr
end
def MW(hp:Hp)(m cb:Nat)(cs:List Nat):Prop:=
 m<hp.next/\cb<hp.next/\cb≠m/\hp.rd cb 0=some (LI .i64 (nz cs))/\hp.rd m 0=some [.ms cb 0 0 cs.length 1,.sc (.int .i64 (cs.sum:Nat))]
theorem MW.fr{hp hp':Hp}{m cb:Nat}{cs:List Nat}{X:List Nat}(h:MW hp m cb cs)(f:Fm X hp hp')(h1:m∉X)(h2:cb∉X):MW hp' m cb cs:=
 ⟨zi8 h.1 f.1,zi8 h.2.1 f.1,h.2.2.1,by rw[f.rd h.2.1 h2];exact h.2.2.2.1,by rw[f.rd h.1 h1];exact h.2.2.2.2⟩
theorem qea(l:List Nat)(x:Nat):nz (l++[x])=nz l++[(x:Int)]:=by simp[nz]
theorem Jr(l:List Nat)(i:Nat)(h:i<l.length):(nz l).getD i 0=((l.getD i 0:Nat):Int):=by
 unfold nz
 rw[zia,zia,zir,zic h]
 rfl
section
variable (hp:Hp)(m cb:Nat)(cs:List Nat)(h:MW hp m cb cs)(hs:cs.sum<=1000000)(hcl:cs.length=64)
include h
include hs hcl
end
def hf(d:List Nat)(i:Nat):List Nat:=(d.take i).map (fun n=>(n+1)/2)++d.drop i
@[simp] theorem hf_len(d:List Nat)(i:Nat):(hf d i).length=d.length:=by unfold hf;simp;omega
theorem zed(d:List Nat)(i:Nat)(hi:i<d.length):(hf d i).getD i 0=d.getD i 0:=by
 unfold hf
 rw[zia,zil qg,zia]
 simp
 congr 2
 omega
theorem zaf(d:List Nat)(i:Nat)(hi:i<d.length):hf d (i+1)=(hf d i).set i ((d.getD i 0+1)/2):=by
 have e1:d.getD i 0=d[i]:=by rw[zia,zic hi];rfl
 have e2:d.take (i+1)=d.take i++[d[i]]:=by rw[zk4,zic hi];rfl
 have e3:d.drop i=d[i]::d.drop (i+1):=zi2 hi
 unfold hf
 rw[e1,e2,e3,zjp,zio,zlk _ _ qg]
 have e4:i-((d.take i).map fun n=>(n+1)/2).length=0:=qg
 rw[e4]
 rfl
theorem zee(d:List Nat):hf d d.length=d.map fun n=>(n+1)/2:=by unfold hf;simp
abbrev EC(m:Nat)(s:En)(k:Nat)(n:Nat):List AV:=[.ptr m 0 0,.sc (.int .u64 (s.low:Int)),.sc (.int .u32 (s.width:Int)),.sc (.int .i64 (s.held:Int)),.sc (.int .u8 (s.last:Int)),.sc (.bool s.begun),S k 1 (LI .u8 s.out),.sc (.int .i64 (n:Int))]
section
variable (e m k n:Nat)(hk:k=1\/k=2)
include hk
end
def EW(hp:Hp)(e m cb:Nat)(s:En)(cs:List Nat)(k n:Nat):Prop:=e<hp.next/\hp.rd e 0=some (EC m s k n)/\MW hp m cb cs/\e≠m/\e≠cb
def F3(e m cb:Nat)(hp hp':Hp):Prop:=hp'.next=hp.next/\∀c,c≠e->c≠m->c≠cb->hp'.get c=hp.get c
theorem F3.trans{e m cb:Nat}{a b c:Hp}(h:F3 e m cb a b)(g:F3 e m cb b c):F3 e m cb a c:=
 ⟨by rw[g.1,h.1],fun x h1 h2 h3=>by rw[g.2 x h1 h2 h3,h.2 x h1 h2 h3]⟩
theorem EW.put{hp:Hp}{e m cb:Nat}{s s':En}{cs:List Nat}{k n k' n':Nat}(h:EW hp e m cb s cs k n):EW (hp.put e 0 (EC m s' k' n')) e m cb s' cs k' n'/\F3 e m cb hp (hp.put e 0 (EC m s' k' n')):=by
 obtain⟨h1,h2,h3,h4,h5⟩:=h
 refine⟨⟨h1,qw _ _ _,h3.fr (Fm.put (X:=[e]) hp e _ qe) (by simp;exact fun q=>h4 q.symm) (by simp;exact fun q=>h5 q.symm),h4,h5⟩,rfl,fun c c1 c2 c3=>by simp[Hp.put,c1]⟩
section
variable (e m cb k:Nat)(hk:k=1\/k=2)
include hk
end
theorem zgn{B d:Nat}(h1:1<=B)(h2:B*256^d<=4294967296):d<=4:=by
 by_cases h:d<=4
 ·exact h
 ·have h3:(256:Nat)^5<=256^d:=zjz qf qc
  have h4:1*256^d<=B*256^d:=ziq _ h1
  have h5:(256:Nat)^5=1099511627776:=qf
  omega
def qpo:List Int->Int
 |[]=>0
 |[_]=>0
 |x::y::r=>if y<=x then 8 else qpo (y::r)
def qyi(l:List Int):Int:=if 4096<l.length then 7 else qpo l
theorem qav:∀{l:List Int},jS l->qpo l=0
 |[],_=>rfl
 |[_],_=>rfl
 |x::y::r,h=>by
  have h':=zii.mp h
  have hxy:=h'.1 y qe
  show(if y<=x then 8 else qpo (y::r))=0
  rw[if_neg qc]
  exact qav h'.2
theorem qap:∀{l:List Int},qpo l=0->jS l
 |[],_=>List.Pairwise.nil
 |[_],_=>by simp
 |x::y::r,h=>by
  have h:(if y<=x then 8 else qpo (y::r))=0:=h
  split at h
  ·cases h
  ·rename_i hxy
   have ih:=qap h
   have ih':=zii.mp ih
   refine zii.mpr ⟨fun n hn=>?_,ih⟩
   rcases zie.mp hn with rfl|hn
   ·omega
   ·have:=ih'.1 n hn;omega
def MsR(hp:Hp)(x:AV)(l:List Int):Prop:=(l=[]/\x=S 2 1 [])\/(l≠[]/\∃b,x= .ms b 0 0 l.length 1/\hp.rd b 0=some (LI .u32 l))
theorem MsR.len{hp:Hp}{x:AV}{l:List Int}(h:MsR hp x l):zd (ro x)=some l.length:=by
 rcases h with⟨rfl,rfl⟩|⟨_,b,rfl,_⟩
 ·simp
 ·simp
theorem qnb{a b:List Int}{n:Int}(h:jS (a++b))(ha:∀x∈a,x<n)(hb:∀x∈b,n<x):mrg (a++b) [n]=a++n::b:=by
 have h':=zjx.mp h
 refine KN (Qf _ _ h qe) ?_ (fun x=>?_)
 ·refine zjx.mpr ⟨h'.1,zii.mpr ⟨fun x hx=>hb x hx,h'.2.1⟩,fun x hx y hy=>?_⟩
  rcases zie.mp hy with rfl|hy
  ·exact ha x hx
  ·exact h'.2.2 x hx y hy
 ·rw[wy];simp
  constructor
  ·rintro((h|h)|h)<;>simp[h]
  ·rintro(h|h|h)<;>simp[h]
theorem quz(a b:List Int)(n:Int)(x x8:AV)(v9 v10:Value)(hp:Hp)(hx:MsR hp x (a++b))(hl:(a++b).length<4096):
 ∃x' hp',MsR hp' x' (a++n::b)/\B125_9 x (.int .u32 n) (.int .i64 a.length) x8 v9 v10 hp=B125_14 x' x8 v9 v10 hp':=by
 have hne:¬(((a++b).length:Int)=4096):=qc
 --the append
 obtain⟨c,hp1,hc,ap⟩:∃c hp1,hp1.rd c 0=some (LI .u32 (a++b++[0]))/\zF 4 1 (ro x) (S 1 1 [.sc (.int .u32 0)]) hp=some (.ms c 0 0 ((a++b).length+1) 1,hp1):=by
  rcases hx with⟨e,rfl⟩|⟨e,c,rfl,hc⟩
  ·refine⟨hp.next,hp.new (LI .u32 [0]),?_,?_⟩
   ·rw[e];exact qF _ _
   ·rw[e];exact ZM .u32 0 4 qf hp
  ·exact⟨hp.next,(hp.del c).new (LI .u32 (a++b++[0])),qF (hp.del c) _,JM .u32 (a++b) 0 4 c qf qc e hp hc⟩
 have e0:(a++b++[0]).length=(a++b).length+1:=qg
 have e1:(a++b).length=a.length+b.length:=qe
 have lx:=hx.len
 --the copy
 have sm:=ZV .u32 (a++b++[0]) hp1 c a.length ((a++b).length+1-a.length) hc qc
 have sm2:((a++b++[0]).drop a.length).take ((a++b).length+1-a.length)=b++[0]:=by
  rw[zio,zk8]
  exact zix qg
 rw[sm2]at sm
 have cp:(JF 1 ((a++b).length+1-(a.length+1)) (LI .u32 (b++[0]))).2=LI .u32 b:=by
  unfold JF
  simp only[Vd,yI,zi7]
  have e:min (b++[0]).length ((a++b).length+1-(a.length+1))=b.length:=qe
  rw[e,zbt,zk2]
 have p1:=qy8 .u32 (a++b++[0]) b (a.length+1) qc
 have p1':(a++b++[0]).take (a.length+1)++b++(a++b++[0]).drop (a.length+1+b.length)=a++((b++[0]).take 1++b):=by
  have d:(a++b++[0]).drop (a.length+1+b.length)=[]:=zj8 qc
  rw[d,zi4,zio a b,List.take_append]
  have e:a.length+1-a.length=1:=qc
  rw[e,zix (by omega:a.length<=a.length+1),zio]
 rw[p1']at p1
 obtain⟨z,hz⟩:∃z,(b++[0]).take 1=[z]:=by
  cases b with
  |nil=>exact⟨0,rfl⟩
  |cons y b=>exact⟨y,rfl⟩
 rw[hz]at p1
 have hlen2:(a++([z]++b)).length=(a++b).length+1:=qg
 have p2:=yU .u32 (a++([z]++b)) a.length n qe
 have p2':(a++([z]++b)).set a.length n=a++n::b:=qe
 rw[p2']at p2
 have hlen3:(a++n::b).length=(a++b).length+1:=qg
 have w1:IntKind.i64.wrap ((a.length:Int)+((1:Nat):Int))=((a.length+1:Nat):Int):=qh
 have bd1:=vP (hi:=(a++b).length+1) (d:=0) (n:=a.length+1) .i64 qc
 have bd2:=vP (hi:=(a++b).length+1) (d:=0) (n:=a.length) .i64 qc
 have ix:=za (n:=(a++b).length+1) (i:=a.length) .i64 qc
 refine⟨.ms c 0 0 (a++n::b).length 1,((hp1.put c 0 (LI .u32 (a++([z]++b)))).put c 0 (LI .u32 (a++n::b))),.inr ⟨qe,c,rfl,qw _ _ _⟩,?_⟩
 rw[hlen3,qsg]
 have hz0:(((a++b).length:Nat):Int)=((4096:Nat):Int)↔False:=⟨fun h=>hne qc,False.elim⟩
 have uS:AV.us 1 [ro1 (AV.sc (.int .u32 (0:Int)))]=S 1 1 [.sc (.int .u32 0)]:=rfl
 have ov:vh [AV.sc (Value.int IntKind.u32 (0:Int))]=some ():=by rw[quw];exact if_pos qe
 generalize(a++b).length=m at*
 have z0:((0:Nat):Int)=0:=rfl
 simp only[cmb,lx,zib,zj6,VQ,hz0,z0,kR,decide_false,jZ,cond_false,ov,uS,us_S,ap,Qv,w1,qan,kL,qlq,bd1,bd2,wI,ZG,sm,hc,zlt,ziw,Nat.sub_eq,cp,p1,ix,qw,p2]
theorem qzt(n:Int)(x8:AV)(v9 v10:Value):∀(m:Nat) (a b:List Int) (x:AV) (hp:Hp),a.length=m->MsR hp x (a++b)->jS (a++b)->(∀y∈b,n<y)->(a++b).length<4096->
 ∃x' hp',MsR hp' x' (mrg (a++b) [n])/\B125_6 x (.int .u32 n) (.int .i64 a.length) x8 v9 v10 hp=B125_14 x' x8 v9 v10 hp':=by
 intro m
 induction m with
 |zero=>
  intro a b x hp hm hx hr hb hl
  have:a=[]:=zi9.mp hm
  subst this
  obtain⟨x',hp',h1,h2⟩:=quz [] b n x x8 v9 v10 hp hx hl
  refine⟨x',hp',?_,?_⟩
  ·rw[qnb hr qe hb];exact h1
  ·rw[qc4]
   simpa using h2
 |succ m ih=>
  intro a b x hp hm hx hr hb hl
  obtain⟨a',y,rfl⟩:∃a' y,a=a'++[y]:=⟨a.dropLast,a.getLast (by intro e;subst e;simp at hm),(List.dropLast_concat_getLast _).symm⟩
  have hm':a'.length=m:=by simpa using hm
  have hne:a'++[y]++b≠[]:=qe
  obtain⟨c,rfl,hc⟩:∃c,x= .ms c 0 0 (a'++[y]++b).length 1/\hp.rd c 0=some (LI .u32 (a'++[y]++b)):=by
   rcases hx with⟨e,_⟩|⟨_,c,h1,h2⟩
   ·exact absurd e hne
   ·exact⟨c,h1,h2⟩
  have hpos:(0:Int)<((a'++[y]).length:Int):=qc
  have hm4:m<4096:=by simp at hl;omega
  have w1:IntKind.i64.wrap (((a'++[y]).length:Int)-1)=(a'.length:Int):=by rw[hm,qj]<;>omega
  have ix:=za (n:=(a'++[y]++b).length) (i:=a'.length) .i64 qe
  have gs:(a'++[y]++b)[a'.length]?=some y:=qe
  have hr':=zjx.mp hr
  have hra:=zjx.mp hr'.1
  rw[qc4]
  have hpos':(((a'++[y]).length:Nat):Int)>((0:Nat):Int)↔True:=⟨fun _=>trivial,fun _=>hpos⟩
  have w1':IntKind.i64.wrap ((((a'++[y]).length:Nat):Int)-((1:Nat):Int))=(a'.length:Int):=w1
  by_cases hy:n<=y
  ·have hge:(y>=n)↔True:=⟨fun _=>trivial,fun _=>hy⟩
   by_cases he:y=n
   ·--it is there
    subst he
    refine⟨.ms c 0 0 (a'++[y]++b).length 1,hp,?_,?_⟩
    ·rw[qz2 hr qe qe]
     exact .inr ⟨hne,c,rfl,hc⟩
    ·generalize hN:(a'++[y]++b).length=N at*
     simp only[cmb,zj6,vQ,hpos',decide_true,jZ,zib,cond_true,kX,w1',qan,kL,ix,wI,ZG,kR,hc,zlt,ziw,qi,Zy?,gs,zkm,wL,JH,hge]
     rw[qc3]
     simp only[cmb,zj6,vQ,hpos',decide_true,jZ,zib,cond_true,kX,w1',qan,kL,ix,wI,ZG,kR,hc,zlt,ziw,qi,Zy?,gs,zkm,wL,VQ]
   ·have e2:a'++[y]++b=a'++(y::b):=qe
    obtain⟨x',hp',h1,h2⟩:=ih a' (y::b) (.ms c 0 0 (a'++[y]++b).length 1) hp hm' (by rw[<-e2];exact .inr ⟨hne,c,rfl,hc⟩) (by rw[<-e2];exact hr) (fun z hz=>by
     rcases zie.mp hz with rfl|hz
     ·omega
     ·exact hb z hz) (by rw[<-e2];exact hl)
    refine⟨x',hp',by rw[e2];exact h1,?_⟩
    have hne2:(y=n)↔False:=⟨fun h=>he h,False.elim⟩
    generalize hN:(a'++[y]++b).length=N at*
    simp only[cmb,zj6,vQ,hpos',decide_true,jZ,zib,cond_true,kX,w1',qan,kL,ix,wI,ZG,kR,hc,zlt,ziw,qi,Zy?,gs,zkm,wL,JH,hge]
    rw[qc3]
    simp only[cmb,zj6,vQ,hpos',decide_true,jZ,zib,cond_true,cond_false,decide_false,kX,w1',qan,kL,ix,wI,ZG,kR,hc,zlt,ziw,qi,Zy?,gs,zkm,wL,VQ,hne2]
    exact h2
  ·have hge:(y>=n)↔False:=⟨fun h=>hy h,False.elim⟩
   obtain⟨x',hp',h1,h2⟩:=quz (a'++[y]) b n (.ms c 0 0 (a'++[y]++b).length 1) x8 v9 v10 hp (.inr ⟨hne,c,rfl,hc⟩) hl
   refine⟨x',hp',?_,?_⟩
   ·rw[qnb hr (fun z hz=>?_) hb]
    ·exact h1
    ·rcases zip.mp hz with hz|hz
     ·have:=hra.2.2 z hz y qe;omega
     ·simp at hz;omega
   ·generalize hN:(a'++[y]++b).length=N at*
    simp only[cmb,zj6,vQ,hpos',decide_true,decide_false,jZ,zib,cond_true,cond_false,kX,w1',qan,kL,ix,wI,ZG,kR,hc,zlt,ziw,qi,Zy?,gs,zkm,wL,JH,hge]
    exact h2
theorem qzu(l:List Int)(k:Nat)(hl:l.length<=4096):∀(r:List Int) (i:Nat) (s:List Int) (x:AV) (hp:Hp),l.drop i=r->jS s->s.length<=i->i<=l.length->MsR hp x s->
 ∃t hp',B125_3 x (S k 1 (LI .u32 l)) (.int .i64 l.length) (.int .i64 i) hp=some (.tup [S t 1 (LI .u32 (srt s r)),.sc (.int .i64 0)],hp'):=by
 intro r
 induction r with
 |nil=>
  intro i s x hp hr hs hsl hil hx
  have:=qC hr
  have hlt:¬((i:Int)<(l.length:Int)):=qc
  rcases hx with⟨rfl,rfl⟩|⟨_,b,rfl,hb⟩
  ·refine⟨2,hp,?_⟩
   rw[YU]
   simp[hlt,srt]
  ·have f:=ZA .u32 s hp b hb
   refine⟨0,hp.del b,?_⟩
   rw[YU]
   simp[hlt,srt,f]
 |cons y r ih=>
  intro i s x hp hr hs hsl hil hx
  obtain⟨e1,e2,hi,e3⟩:=qv hr
  have hw:IntKind.i64.wrap ((i:Int)+1)=((i+1:Nat):Int):=qh
  obtain⟨x',hp1,h1,h2⟩:=qzt y (S k 1 (LI .u32 l)) (.int .i64 l.length) (.int .i64 i) s.length s [] x hp rfl (by simpa using hx) (by simpa using hs) qe qg
  rw[zi4]at h1
  have hl1:(mrg s [y]).length<=s.length+1:=by simpa using qnh s [y]
  obtain⟨t,hp',h⟩:=ih (i+1) (mrg s [y]) x' hp1 e2 (Qf _ _ hs qe) qc qc h1
  refine⟨t,hp',?_⟩
  have lx:=hx.len
  rw[YU]
  have h14:B125_14 x' (S k 1 (LI .u32 l)) (.int .i64 l.length) (.int .i64 i) hp1=B125_3 x' (S k 1 (LI .u32 l)) (.int .i64 l.length) (.int .i64 ((i+1:Nat):Int)) hp1:=by
   rw[qmi]
   simp at hw
   simp[hw]
  rw[h14]at h2
  simp at h2 h
  simp[hi,e3,qi,lx,h2,h,srt]
theorem qj3(l:List Int)(k:Nat)(hl:l.length<=4096)(hp:Hp):∃t hp',run cxX 125 [S k 1 (LI .u32 l)] hp=some (.tup [S t 1 (LI .u32 (srt [] l)),.sc (.int .i64 0)],hp'):=by
 obtain⟨t,hp',h⟩:=qzu l (rk k) hl l 0 [] (S 2 1 []) hp rfl List.Pairwise.nil qe qe (.inl ⟨rfl,rfl⟩)
 refine⟨t,hp',?_⟩
 rw[E125]
 simpa using h
theorem qk5(l:List Int)(k:Nat)(hl:l.length<=4096)(hp:Hp):∀(r:List Int) (i:Nat) (a:List Int),l.drop i=r->a.length<=i->i<=l.length->
 ∃t,B60_3 (.bool false) (S 2 1 (LI .u32 a)) (S k 1 (LI .u32 l)) (.int .i64 l.length) (.int .i64 i) hp=some (.tup [S t 1 (LI .u32 (srt [] (a++r))),.sc (.int .i64 0)],hp):=by
 intro r
 induction r with
 |nil=>
  intro i a hr ha hil
  have:=qC hr
  have hlt:¬((i:Int)<(l.length:Int)):=qc
  obtain⟨t,hp',h⟩:=qj3 a 3 qc hp0
  refine⟨t,?_⟩
  rw[qjb]
  simp[hlt,h]
 |cons y r ih=>
  intro i a hr ha hil
  obtain⟨e1,e2,hi,e3⟩:=qv hr
  have hw:IntKind.i64.wrap ((i:Int)+1)=((i+1:Nat):Int):=qh
  have ap:=qe1 .u32 a 2 (.inr rfl) 4 qf y qc
  obtain⟨t,h⟩:=ih (i+1) (a++[y]) e2 qg qc
  refine⟨t,?_⟩
  rw[qjb]
  simp at h hw ap
  simp[hi,e3,qi,qxg,ap,hw,h]
theorem qth(l:List Int)(k:Nat)(hl:l.length<=4096)(hp:Hp):∃t,run cxX 60 [S k 1 (LI .u32 l),.sc (.bool false)] hp=some (.tup [S t 1 (LI .u32 (srt [] l)),.sc (.int .i64 0)],hp):=by
 obtain⟨t,h⟩:=qk5 l (rk k) hl hp l 0 [] rfl qe qe
 refine⟨t,?_⟩
 rw[E60]
 simp at h
 simp[h]
def qii(x:Nat):Nat:=if x=0 then 0 else Nat.log2 x+1
theorem zba{x n:Nat}(h:Bl x n):n=qii x:=by
 unfold qii
 by_cases hx:x=0
 ·rw[if_pos hx]
  subst hx
  rcases h.2 with h2|h2
  ·exact h2
  ·have:=zk3 (n-1);omega
 ·rw[if_neg hx]
  have hn:n≠0:=by
   intro e;subst e
   have:=h.1
   simp at this
   exact hx this
  have h2:=h.2.resolve_left hn
  have a1:=Nat.log2_self_le hx
  have a2:x<2^(Nat.log2 x+1):=Nat.lt_log2_self
  have b1:n-1<Nat.log2 x+1:=(Nat.pow_lt_pow_iff_right (by decide:1<2)).mp (zlr h2 a2)
  have b2:Nat.log2 x<n:=(Nat.pow_lt_pow_iff_right (by decide:1<2)).mp (zlr a1 h.1)
  omega
theorem qym(x:Nat)(h:x<18446744073709551616)(hp:Hp):run cxX 244 [.sc (.int .u64 (x:Int))] hp=some (.sc (.int .i64 ((64-qii x:Nat):Int)),hp):=by
 obtain⟨n,h1,h2,h3⟩:=qaj x h
 rw[zba h2]at h1 h3
 have w:IntKind.i64.wrap (64-(qii x:Int))=((64-qii x:Nat):Int):=qh
 rw[E244]
 simp[h3,w]
abbrev Hv(P:Int)(x:AV):AV:=.agg [.sc (.int .i64 P),x]
def yu(P:Int):Nat:=2^P.toNat
def yf(P h:Int):Nat:=(h/2^(64-P).toNat).toNat
def wD(P h:Int):Int:=min ((64-qii ((h*2^P.toNat)%18446744073709551616).toNat:Nat):Int) (64-P)+1
theorem qel{P h:Int}(hP:4<=P/\P<=8):1<=wD P h/\wD P h<=65-P:=by
 unfold wD;omega
theorem zae{P h:Int}(hP:4<=P/\P<=8)(hh:0<=h/\h<18446744073709551616):yf P h<yu P:=by
 unfold yf yu
 obtain⟨p,rfl⟩:∃p:Nat,P=p:=⟨P.toNat,qc⟩
 obtain⟨x,rfl⟩:∃x:Nat,h=x:=⟨h.toNat,qc⟩
 have e:(64-(p:Int)).toNat=64-p:=qc
 rw[e,zik]
 have e2:((x:Int)/2^(64-p))=((x/2^(64-p):Nat):Int):=qe
 rw[e2,zik]
 apply Nat.div_lt_of_lt_mul
 rw[<-Nat.pow_add]
 have e3:64-p+p=64:=qc
 rw[e3]
 omega
theorem qj8(P h:Int)(x:AV)(hP:4<=P/\P<=8)(hh:0<=h/\h<18446744073709551616)(hp:Hp):
 run cxX 195 [Hv P x,.sc (.int .u64 h)] hp=some (.tup [.sc (.int .i64 (yf P h:Int)),.sc (.int .u8 (wD P h))],hp):=by
 rw[E195]
 have m1:max P 4=P:=qc
 have m2:min P 8=P:=qc
 have w1:IntKind.i64.wrap (64-P)=64-P:=qj qc qc
 have s1:∀t x y,qs Tryz.prog .shr t x y (.int .u64 h) (.int .i64 (64-P))=some (.int .u64 (yf P h:Int)):=by
  intro t x y
  rw[jF _ _ _ _ _ _ _ _ qc]
  have e:min (64-P).toNat IntKind.u64.bits=(64-P).toNat:=by
   have:IntKind.u64.bits=64:=rfl
   omega
  rw[e,zjv _ (by exact_mod_cast ziv _)]
  unfold yf
  have:0<=h/2^(64-P).toNat:=Int.ediv_nonneg hh.1 (by exact_mod_cast ziv _)
  rw[zj9 this]
 have hlt:=zae hP hh
 have h256:yu P<=256:=by
  unfold yu
  have:P.toNat<=8:=qc
  calc 2^P.toNat<=2^8:=zjz qf this
   _=256:=rfl
 have w2:IntKind.i64.wrap (yf P h:Int)=(yf P h:Int):=qj qc qc
 obtain⟨y,hy⟩:∃y:Nat,y=((h*2^P.toNat)%18446744073709551616).toNat:=⟨_,rfl⟩
 have hy64:y<18446744073709551616:=qc
 have s2:∀t a b,qs Tryz.prog .shl t a b (.int .u64 h) (.int .i64 P)=some (.int .u64 (y:Int)):=by
  intro t a b
  rw[xw _ _ _ _ _ _ _ _ qc]
  have e:min P.toNat IntKind.u64.bits=P.toNat:=by
   have:IntKind.u64.bits=64:=rfl
   omega
  rw[e,IntKind.wrap_u64,hy]
  congr 2
  omega
 have lz:=fun hp=>qym y hy64 hp
 have hr:=qel (h:=h) hP
 have hre:wD P h=min ((64-qii y:Nat):Int) (64-P)+1:=by unfold wD;rw[hy]
 have w3:IntKind.i64.wrap (min ((64-qii y:Nat):Int) (64-P)+1)=wD P h:=by rw[<-hre];exact qj qc qc
 have w4:IntKind.u8.wrap (wD P h)=wD P h:=zE qc qc
 simp[qi,m1,m2,w1,s1,s2,w2,lz,w3,w4]
theorem qyd(P:Int)(hP:0<=P/\P<=8)(t:TypeId)(x y:Operand):qs Tryz.prog .shl t x y (.int .i64 1) (.int .i64 P)=some (.int .i64 (yu P:Int)):=by
 rw[xw _ _ _ _ _ _ _ _ qc]
 have e:min P.toNat IntKind.i64.bits=P.toNat:=by
  have:IntKind.i64.bits=64:=rfl
  omega
 have h256:yu P<=256:=by
  unfold yu
  have:P.toNat<=8:=qc
  calc 2^P.toNat<=2^8:=zjz qf this
   _=256:=rfl
 rw[e]
 have e2:(1*2^P.toNat:Int)=(yu P:Int):=by unfold yu;simp
 rw[e2,qj qc qc]
theorem qem{P:Int}(hP:P<=8):yu P<=256:=by
 unfold yu
 have:P.toNat<=8:=qc
 calc 2^P.toNat<=2^8:=zjz qf this
  _=256:=rfl
def zb4(P:Int)(l:List Int):Int:=if(∃n∈l,65-P<n)then 2 else 0
def zag(P:Int)(l:List Int):Int:=if P<4\/8<P then 2 else if l.length≠yu P then 6 else zb4 P l
def b8(l:List Int):List UInt8:=l.map fun n=>UInt8.ofNat n.toNat
@[simp] theorem za7 : ∀ l : List Int, zp (LI .u8 l) = some (b8 l)
 |[]=>rfl
 |x::l=>by
  have:=za7 l
  show(zp (LI .u8 l)).map _=_
  rw[this];rfl
theorem qtl(P:Int)(hP:4<=P/\P<=8)(hp:Hp):run cxX 127 [.sc (.int .i64 P)] hp=some (.tup [Hv P (S 0 1 (LI .u8 (List.replicate (yu P) 0))),.sc (.bool true)],hp):=by
 rw[E127]
 have h1:¬(P<4):=qc
 have h2:¬(8<P):=qc
 have s:=fun t x y=>qyd P qc t x y
 have hple:=qem (P:=P) qc
 have mk:yc 1 1 (yu P:Int) (yu P:Int)=some ():=QG qc qc qf qf
 simp[h1,h2,qsf,s,mk,Qy,qo,qm]
def hmax:List Int->List Int->List Int
 |[],_=>[]
 |x::a,[]=>x::a
 |x::a,y::b=>max x y::hmax a b
@[simp] theorem zec : ∀ a, hmax a [] = a
 |[]=>rfl
 |_::_=>rfl
def vx(P:Int)(l:List Int)(h:Int):List Int:=if yf P h<l.length then l.set (yf P h) (max (l.getD (yf P h) 0) (wD P h))else l
theorem qtm(P:Int)(l:List Int)(k:Nat)(h:Int)(hP:4<=P/\P<=8)(hh:0<=h/\h<18446744073709551616)(hl:l.length<=1000000)(hp:Hp):
 ∃t hp',run cxX 128 [Hv P (S k 1 (LI .u8 l)),.sc (.int .u64 h)] hp=some (Hv P (S t 1 (LI .u8 (vx P l h))),hp'):=by
 rw[E128]
 have pl:=fun x hp=>qj8 P h x hP hh hp
 by_cases hne:l=[]
 ·subst hne
  have n1:=fun k hp=>qit 1 k hp
  have e:¬((yf P h:Int)<0):=qc
  refine⟨0,hp,?_⟩
  simp[qi,qt,n1,qm,qo,pl,vx,e,qc2]
 ·have n1:=fun k hp=>kY .u8 l k 1 qf hl hne hp
  have f5:∀(l:List Int) (b:Nat) (hp:Hp) (q0 q1:AV),hp.rd b 0=some (LI .u8 l)->B128_5 [q0,q1] [.sc (.int .i64 P),.ms b 0 0 l.length 1] hp=some (Hv P (S 0 1 (LI .u8 l)),hp.del b):=by
   intro l b hp q0 q1 hb
   have f:=ZA .u8 l hp b hb
   rw[qc2]
   simp[qo,qm,f]
  by_cases hi:yf P h<l.length
  ·have hi':(yf P h:Int)<(l.length:Int):=qc
   have ix:=za .i64 hi
   have gs:l[yf P h]?=some (l.getD (yf P h) 0):=by simp[hi]
   have pt:=yU .u8 l (yf P h) (max (l.getD (yf P h) 0) (wD P h)) hi
   have f:=f5 (l.set (yf P h) (max (l.getD (yf P h) 0) (wD P h))) hp.next ((hp.new (LI .u8 l)).put hp.next 0 (LI .u8 (l.set (yf P h) (max (l.getD (yf P h) 0) (wD P h))))) (.sc (.int .i64 0)) (S 2 1 []) (qw _ _ _)
   rw[List.length_set]at f
   have r0:=qF hp (LI .u8 l)
   refine⟨0,((hp.new (LI .u8 l)).put hp.next 0 (LI .u8 (l.set (yf P h) (max (l.getD (yf P h) 0) (wD P h))))).del hp.next,?_⟩
   simp only[vx,if_pos hi]
   generalize l.getD (yf P h) 0=g at gs pt f⊢
   simp[qi,qt,n1,qm,qo,pl,hi',ix,r0,gs]at pt⊢
   simp[pt]
   exact f
  ·have hi':¬((yf P h:Int)<(l.length:Int)):=qc
   have f:=f5 l hp.next (hp.new (LI .u8 l)) (.sc (.int .i64 0)) (S 2 1 []) (qF _ _)
   refine⟨0,(hp.new (LI .u8 l)).del hp.next,?_⟩
   simp only[vx,if_neg hi]
   simp[qi,qt,n1,qm,qo,pl,hi']
   exact f
theorem qal(h:Int)(hh:0<=h/\h<18446744073709551616):∃v:Int,(0<=v/\v<18446744073709551616)/\∀hp,run cxX 129 [.sc (.int .u64 h)] hp=some (.sc (.int .u64 v),hp):=by
 have r3:∀t x y,qs Tryz.prog .rem t x y (.int .u64 h) (.int .u64 3)=some (.int .u64 (h%3)):=by
  intro t x y;rw[qP _ _ _ _ _ _ _ qc,qO hh.1]
 by_cases e:h%3=0
 ·obtain⟨z1,s1⟩:∃z:Int,∀t x y,qs Tryz.prog .shr t x y (.int .u64 h) (.int .u64 56)=some (.int .u64 z):=⟨_,fun t x y=>jF _ _ _ _ _ _ _ _ qc⟩
  obtain⟨z2,s2⟩:∃z:Int,∀t x y,qs Tryz.prog .shl t x y (.int .u64 z1) (.int .u64 56)=some (.int .u64 z):=⟨_,fun t x y=>xw _ _ _ _ _ _ _ _ qc⟩
  have q4:∀t x y,qs Tryz.prog .quo t x y (.int .u64 h) (.int .u64 4)=some (.int .u64 (h/4)):=by
   intro t x y;rw[xx _ _ _ _ _ _ _ qc,zjr hh.1,qx qc qc]
  have r56:∀t x y,qs Tryz.prog .rem t x y (.int .u64 (h/4)) (.int .u64 56)=some (.int .u64 (h/4%56)):=by
   intro t x y;rw[qP _ _ _ _ _ _ _ qc,qO qc]
  obtain⟨z3,s3⟩:∃z:Int,∀t x y,qs Tryz.prog .shl t x y (.int .u64 1) (.int .u64 (h/4%56))=some (.int .u64 z):=⟨_,fun t x y=>xw _ _ _ _ _ _ _ _ qc⟩
  obtain⟨z4,s4⟩:∃z:Int,∀t x y,qs Tryz.prog .sub t x y (.int .u64 z3) (.int .u64 1)=some (.int .u64 z):=⟨_,fun t x y=>kX _ _ _ _ _ _ _⟩
  obtain⟨z5,s5⟩:∃z:Int,∀t x y,qs Tryz.prog .and t x y (.int .u64 h) (.int .u64 z4)=some (.int .u64 z):=⟨_,fun t x y=>ja _ _ _ _ _ _ _⟩
  obtain⟨z6,b6,s6⟩:∃z:Int,(0<=z/\z<18446744073709551616)/\∀t x y,qs Tryz.prog .or t x y (.int .u64 z2) (.int .u64 z5)=some (.int .u64 z):=⟨_,by rw[IntKind.wrap_u64];omega,fun t x y=>yE _ _ _ _ _ _ _⟩
  refine⟨z6,b6,fun hp=>?_⟩
  rw[E129]
  simp[r3,e,s1,s2,q4,r56,s3,s4,s5,s6,-kX,-ja,-yE]
 ·refine⟨h,hh,fun hp=>?_⟩
  rw[E129]
  simp[r3,e]
noncomputable def hsh(h:Int):Int:=if hh:0<=h/\h<18446744073709551616 then(qal h hh).choose else 0
theorem zeb{h:Int}(hh:0<=h/\h<18446744073709551616):(0<=hsh h/\hsh h<18446744073709551616)/\∀hp,run cxX 129 [.sc (.int .u64 h)] hp=some (.sc (.int .u64 (hsh h)),hp):=by
 unfold hsh
 rw[dif_pos hh]
 exact(qal h hh).choose_spec
noncomputable def hfold(P:Int)(a l:List Int):List Int:=l.foldl (fun a h=>vx P a (hsh h)) a
theorem qhm(P:Int)(l:List Int)(h:Int):(vx P l h).length=l.length:=by
 unfold vx;split<;>simp
theorem qba(P:Int):∀(l a:List Int),(hfold P a l).length=a.length
 |[],a=>rfl
 |h::l,a=>by
  show(hfold P (vx P a (hsh h)) l).length=_
  rw[qba P l,qhm]
theorem qvw(P:Int)(q0 q1:AV)(l:List Int)(k:Nat)(hP:4<=P/\P<=8)(hl:l.length<=1000000)(h64:∀n∈l,0<=n/\n<18446744073709551616)(hp:Hp):∀(r:List Int) (i t:Nat) (a:List Int),l.drop i=r->a.length<=1000000->
 ∃t',B62_3 (S k 1 (LI .u64 l)) (.int .i64 l.length) (.int .i64 i) [q0,q1] [.sc (.int .i64 P),S t 1 (LI .u8 a)] hp=some (Hv P (S t' 1 (LI .u8 (hfold P a r))),hp):=by
 intro r
 induction r with
 |nil=>
  intro i t a hr ha
  have:=qC hr
  have hlt:¬((i:Int)<(l.length:Int)):=qc
  refine⟨t,?_⟩
  rw[qi9]
  simp[hlt,qo,qm,hfold]
 |cons x r ih=>
  intro i t a hr ha
  obtain⟨e1,e2,hi,e3⟩:=qv hr
  have hx:=h64 x (zig e1)
  obtain⟨hb,hs⟩:=zeb hx
  have hw:IntKind.i64.wrap ((i:Int)+1)=((i+1:Nat):Int):=qh
  obtain⟨t1,hp1,ha1⟩:=qtm P a (rk t) (hsh x) hP hb ha hp0
  obtain⟨t',h⟩:=ih (i+1) t1 (vx P a (hsh x)) e2 (by rw[qhm];exact ha)
  refine⟨t',?_⟩
  rw[qi9]
  simp at h hw
  have ef:hfold P a (x::r)=hfold P (vx P a (hsh x)) r:=rfl
  simp[hi,e3,qi,hs,qo,qm,ha1,hw,h,ef]
theorem qyo(p:Int)(l:List Int)(k:Nat)(hp8:0<=p/\p<256)(hl:l.length<=1000000)(h64:∀n∈l,0<=n/\n<18446744073709551616)(hp:Hp):
 ∃t,run cxX 62 [.sc (.int .u8 p),S k 1 (LI .u64 l)] hp=some (Hv (4+p%5) (S t 1 (LI .u8 (hfold (4+p%5) (List.replicate (yu (4+p%5)) 0) l))),hp):=by
 have h1:∀t x y,qs Tryz.prog .rem t x y (.int .u8 p) (.int .u8 5)=some (.int .u8 (p%5)):=by
  intro t x y;rw[qP _ _ _ _ _ _ _ qc,qO hp8.1]
 have w1:IntKind.i64.wrap (p%5)=p%5:=qj qc qc
 have w2:IntKind.i64.wrap (4+p%5)=4+p%5:=qj qc qc
 have nw:=fun hp=>qtl (4+p%5) qc hp
 have hple:=qem (P:=4+p%5) qc
 obtain⟨t,h⟩:=qvw (4+p%5) (.sc (.int .i64 0)) (S 2 1 []) l (rk k) qc hl h64 hp l 0 0 (List.replicate (yu (4+p%5)) 0) rfl qg
 refine⟨t,?_⟩
 rw[E62]
 simp at h
 simp[h1,w1,w2,nw,qm,h]
abbrev Bv(bits hashes:Value)(S:AV):AV:=.agg [.sc bits,.sc hashes,S]
theorem qkx(B H:Value)(q0 q1 q2:AV)(hp:Hp):∀(n:Nat) (a b acc:List Int) (k k':Nat),a.length+b.length=n->acc.length+n<=1000000->
 B197_3 (S k 1 (LI .u32 a)) (S k' 1 (LI .u32 b)) [q0,q1,q2] [.sc B,.sc H,S 2 1 (LI .u32 acc)] hp=some (Bv B H (S 2 1 (LI .u32 (acc++mrg a b))),hp):=by
 intro n
 induction n using Nat.strongRecOn with
 |_ n ih=>
 intro a b acc k k' hn hlen
 have hw:IntKind.i64.wrap ((a.length:Int)+(b.length:Int))=((a.length+b.length:Nat):Int):=by
  rw[qj]<;>omega
 have ap:∀x:Int,zh 4 1 (S 2 1 (LI .u32 acc)) (S 1 1 [.sc (.int .u32 x)])=some (S 2 1 (LI .u32 (acc++[x]))):=fun x=>qe1 .u32 acc 2 (.inr rfl) 4 qf x qc
 have goA:∀(x:Int) (r:List Int),r.length+1+b.length<=n->B197_6 (S k 1 (LI .u32 (x::r))) (S k' 1 (LI .u32 b)) [q0,q1,q2] [.sc B,.sc H,S 2 1 (LI .u32 acc)] hp=some (Bv B H (S 2 1 (LI .u32 (acc++x::mrg r b))),hp):=by
  intro x r hle
  rw[qrr]
  have e:=yP (rk k) (LI .u32 (x::r)) .i64 1 qc (by simp only[yI,zid];omega)
  simp[qt,qi,ap,e,qm,ih (r.length+b.length) qc r b (acc++[x]) _ k' rfl (by simp only[zh8,zid,zi1];omega)]
 have goB:∀(y:Int) (r:List Int),a.length+(r.length+1)<=n->B197_8 (S k 1 (LI .u32 a)) (S k' 1 (LI .u32 (y::r))) [q0,q1,q2] [.sc B,.sc H,S 2 1 (LI .u32 acc)] hp=some (Bv B H (S 2 1 (LI .u32 (acc++y::mrg a r))),hp):=by
  intro x r hle
  rw[qrq]
  have e:=yP (rk k') (LI .u32 (x::r)) .i64 1 qc (by simp only[yI,zid];omega)
  simp[qt,qi,ap,e,qm,ih (a.length+r.length) qc a r (acc++[x]) k _ rfl (by simp only[zh8,zid,zi1];omega)]
 have wE:∀(x y:Int) (r s:List Int),r.length+s.length+2<=n->B197_4 (S k 1 (LI .u32 (x::r))) (S k' 1 (LI .u32 (y::s))) [q0,q1,q2] [.sc B,.sc H,S 2 1 (LI .u32 acc)] hp=some (Bv B H (S 2 1 (LI .u32 (acc++x::mrg r s))),hp):=by
  intro x y r s hle
  rw[qrs]
  have e:=yP (rk k) (LI .u32 (x::r)) .i64 1 qc (by simp only[yI,zid];omega)
  have e':=yP (rk k') (LI .u32 (y::s)) .i64 1 qc (by simp only[yI,zid];omega)
  simp[qt,qi,ap,e,e',qm,ih (r.length+s.length) qc r s (acc++[x]) _ _ rfl (by simp only[zh8,zid,zi1];omega)]
 rw[qrt]
 match a,b with
 |[],[]=>simp[qo,qm,Bv]
 |[],y::s=>
  have h:=goB y s (by simp at hn⊢;omega)
  simp at h
  have hw':IntKind.i64.wrap ((s.length:Int)+1)=(s.length:Int)+1:=qj qc (by simp at hn;omega)
  have p:(0:Int)<(s.length:Int)+1:=qc
  have z:¬((s.length:Int)+1=0):=qc
  simp[hw',p,z,YO,h]
 |x::r,[]=>
  have h:=goA x r (by simp at hn⊢;omega)
  simp at h
  have hw':IntKind.i64.wrap ((r.length:Int)+1)=(r.length:Int)+1:=qj qc (by simp at hn;omega)
  have p:(0:Int)<(r.length:Int)+1:=qc
  simp[hw',p,h]
 |x::r,y::s=>
  have h1:=goA x r (by simp at hn⊢;omega)
  have h2:=goB y s (by simp at hn⊢;omega)
  have h3:=wE x y r s (by simp at hn⊢;omega)
  have hw':IntKind.i64.wrap ((r.length:Int)+1+((s.length:Int)+1))=(r.length:Int)+1+((s.length:Int)+1):=qj qc (by simp at hn;omega)
  have p:(0:Int)<(r.length:Int)+1+((s.length:Int)+1):=qc
  have p':(0:Int)<(r.length:Int)+1:=qc
  have z:¬((s.length:Int)+1=0):=qc
  have z':¬((r.length:Int)+1=0):=qc
  rw[zB]
  by_cases hxy:x<y
  ·simp[hw',p,p',z,z',qi,hxy,h1]
  ·by_cases hyx:y<x
   ·simp[hw',p,p',z,z',qi,hxy,hyx,h2,YO]
   ·simp[hw',p,p',z,z',qi,hxy,hyx,h3,YO]
theorem qov(B H B' H':Value)(a b:List Int)(k k':Nat)(hp:Hp)(hlen:a.length+b.length<=1000000):
 run cxX 197 [Bv B H (S k 1 (LI .u32 a)),Bv B' H' (S k' 1 (LI .u32 b))] hp=some (Bv B H (S 2 1 (LI .u32 (mrg a b))),hp):=by
 rw[E197]
 have:=qkx B H (.sc (.int .i64 0)) (.sc (.int .i64 0)) (S 2 1 []) hp (a.length+b.length) a b [] (rk k) (rk k') rfl (by simpa using hlen)
 simp at this
 simp[Bv,qi,qt]
 exact this
def YF(B:Int):Option Int->List Int->Int
 |_,[]=>0
 |p,n::r=>if n>=B then 2 else match p with
  |none=>YF B (some n) r
  |some q=>if n<=q then 8 else YF B (some n) r
def VS(B H:Int)(l:List Int):Int:=if B<1\/B>4096\/H<1\/H>8 then 2 else YF B none l
def zbj(l:List Int):Prop:=∀n∈l,0<=n/\n<4294967296
theorem qlo(B:Int)(H:AV)(l:List Int)(k k':Nat)(hl:l.length<=1000000)(h32:zbj l)(hp:Hp):∀(r:List Int) (i:Nat) (p:Option Int),l.drop i=r->
 (match p with|none=>i=0|some q=>∃j,i=j+1/\l[j]?=some q)->
 B57_4 (S k 1 (LI .u32 l)) (.int .i64 l.length) (.int .i64 i) [.sc (.int .i64 B),H,S k' 1 (LI .u32 l)] hp=some (.sc (.int .i64 (YF B p r)),hp):=by
 intro r
 induction r with
 |nil=>
  intro i p hr hp'
  have:=qC hr
  have hlt:¬((i:Int)<(l.length:Int)):=qc
  rw[qjd]
  simp[hlt,YF]
 |cons n r ih=>
  intro i p hr hp'
  obtain⟨e1,e2,hi,e3⟩:=qv hr
  have h:=ih (i+1) (some n) e2 ⟨i,rfl,e1⟩
  have hw:IntKind.i64.wrap ((i:Int)+1)=((i+1:Nat):Int):=qh
  have hn:=h32 n (zig e1)
  have hwn:IntKind.i64.wrap n=n:=qj qc qc
  rw[qjd]
  by_cases hB:B<=n
  ·simp[hi,e1,e3,qi,yb,hwn,hB,YF]
  ·cases p with
   |none=>
    obtain rfl:i=0:=hp'
    simp at h e1 hw
    simp[hi,e1,e3,qi,yb,hwn,hB,YF,qb6,hw,h]
   |some q=>
    obtain⟨j,rfl,ej⟩:=hp'
    have hw2:IntKind.i64.wrap (((j+1:Nat):Int)-1)=(j:Int):=qh
    have hpos:(0:Int)<(j:Int)+1:=qc
    have hi2:(j:Int)+1<(l.length:Int):=qc
    have hge:(0:Int)<=(j:Int)+1:=qc
    have htn:((j:Int)+1).toNat=j+1:=qc
    simp at h hw hw2
    by_cases hq:n<=q
    ·simp[hi2,hge,htn,e1,e3,ej,qi,qt,yb,hwn,hB,YF,hpos,hw2,hq,qxh]
    ·simp[hi2,hge,htn,e1,e3,ej,qi,qt,yb,hwn,hB,YF,hpos,hw2,hq,qb6,hw,h]
theorem qo2(B H:Int)(l:List Int)(k:Nat)(hl:l.length<=1000000)(h32:zbj l)(hp:Hp):
 run cxX 57 [Bv (.int .i64 B) (.int .i64 H) (S k 1 (LI .u32 l))] hp=some (.sc (.int .i64 (VS B H l)),hp):=by
 rw[E57]
 have h:=qlo B (.sc (.int .i64 H)) l (rk k) (rk k) hl h32 hp l 0 none rfl rfl
 simp at h
 unfold VS
 by_cases h1:B<1
 ·simp[qi,h1,JT]
 ·by_cases h2:4096<B
  ·simp[qi,h1,h2,JT]
  ·by_cases h3:H<1
   ·simp[qi,h1,h2,h3,JT]
   ·by_cases h4:8<H
    ·simp[qi,h1,h2,h3,h4,JT]
    ·simp[qi,qt,h1,h2,h3,h4,qxi,h]
def at0(h:Int):Int:=IntKind.u32.wrap h
def stp(h:Int):Int:=IntKind.u32.wrap (BitVec.ofInt 32 (IntKind.u32.wrap (h.fdiv (2^32)))|||BitVec.ofInt 32 1).toNat
def plc(B st:Int):Nat->Int->List Int
 |0,_=>[]
 |n+1,a=>a%B::plc B st n (IntKind.u32.wrap (a+st))
theorem qm1(B st:Int):∀(n:Nat) (a:Int),(plc B st n a).length=n
 |0,_=>rfl
 |n+1,a=>by simp[plc,qm1 B st n]
theorem qud(B st:Int)(hB:0<B):∀(n:Nat) (a x:Int),x∈plc B st n a->0<=x/\x<B
 |0,_,x,h=>by simp[plc]at h
 |n+1,a,x,h=>by
  rcases zie.mp h with rfl|h
  ·exact⟨Int.emod_nonneg _ qc,Int.emod_lt_of_pos _ hB⟩
  ·exact qud B st hB n _ x h
theorem WU(z:Int):0<=IntKind.u32.wrap z/\IntKind.u32.wrap z<4294967296:=by
 rw[IntKind.wrap_u32];omega
theorem qgu(B H st:Int)(H':AV)(q:AV)(hB:1<=B/\B<=4096)(hH:H<=8)(hp:Hp):∀(n i:Nat) (a:Int) (acc:List Int),H=(i+n:Nat)->0<=a->acc.length<=i->
 B196_6 (S 2 1 (LI .u32 acc)) (.int .u32 a) (.int .u32 st) (.int .i64 H) (.int .i64 i) [.sc (.int .i64 B),H',q] hp=some (S 2 1 (LI .u32 (acc++plc B st n a)),hp):=by
 intro n
 induction n with
 |zero=>
  intro i a acc hi ha hc
  rw[qcp]
  have hlt:¬((i:Int)<H):=qc
  simp[hlt,plc]
 |succ n ih=>
  intro i a acc hi ha hc
  rw[qcp]
  have hlt:(i:Int)<H:=qc
  have hw:IntKind.i64.wrap ((i:Int)+1)=((i+1:Nat):Int):=qh
  have hwB:IntKind.u32.wrap B=B:=qT qc qc
  have h:=ih (i+1) (IntKind.u32.wrap (a+st)) (acc++[a%B]) qc (WU _).1 qg
  have ap:=qe1 .u32 acc 2 (.inr rfl) 4 qf (a%B) qc
  have hr:∀x y,qs Tryz.prog .rem 40 x y (.int .u32 a) (.int .u32 B)=some (.int .u32 (a%B)):=by
   intro x y
   rw[qP _ _ _ _ _ _ _ qc,qO ha]
  simp at h hw
  simp[hlt,qi,QR,hwB,hr,ap,hw,h,plc]
def pls(B H:Int)(l:List Int)(h:Int):List Int:=if VS B H l=0 then plc B (stp h) H.toNat (at0 h)else []
theorem qj2(B H:Int)(l:List Int)(k:Nat)(h:Int)(hl:l.length<=1000000)(h32:zbj l)(hp:Hp):
 run cxX 196 [Bv (.int .i64 B) (.int .i64 H) (S k 1 (LI .u32 l)),.sc (.int .u64 h)] hp=some (S 2 1 (LI .u32 (pls B H l h)),hp):=by
 rw[E196]
 have hc:=qo2 B H l (rk k) hl h32 hp0
 unfold pls
 by_cases h0:VS B H l=0
 ·have hr:¬(B<1\/B>4096\/H<1\/H>8):=by
   intro h'
   rw[VS,if_pos h']at h0
   cases h0
  have hh:=qgu B H (stp h) (.sc (.int .i64 H)) (S (rk k) 1 (LI .u32 l)) qc qc hp H.toNat 0 (at0 h) [] qc (WU _).1 qe
  simp at hh
  have hs:∀x y,qs Tryz.prog .shr 125 x y (.int .u64 h) (.int .u64 32)=some (.int .u64 (h.fdiv (2^32))):=by
   intro x y
   rw[jF _ _ _ _ _ _ _ _ qc]
   rfl
  simp[qo,hc,h0,qqk,hs,qi]
  exact hh
 ·simp[qo,hc,h0]
def xz(B:Int)(l:List Int):Prop:=jS l/\∀n∈l,0<=n/\n<B
theorem xz.in32{B:Int}{l:List Int}(h:xz B l)(hB:B<=4096):zbj l:=fun n hn=>by have:=h.2 n hn;omega
theorem xz.nil(B:Int):xz B []:=⟨List.Pairwise.nil,qe⟩
theorem xz.mrg{B:Int}{a b:List Int}(ha:xz B a)(hb:xz B b):xz B (mrg a b):=
 ⟨Qf a b ha.1 hb.1,fun n hn=>((wy n a b).mp hn).elim (ha.2 n) (hb.2 n)⟩
theorem xz.one{B n:Int}(h:0<=n/\n<B):xz B [n]:=⟨qe,by simpa using h⟩
theorem qgi{B:Int}:∀{l:List Int} {a:Int},jS l->(∀n∈l,a<=n/\n<B)->(l.length:Int)<=B-a\/l=[]
 |[],_,_,_=>.inr rfl
 |x::l,a,h,hb=>by
  have h':=zii.mp h
  have hx:=hb x qe
  rcases qgi (a:=x+1) h'.2 (fun n hn=>⟨by have:=h'.1 n hn;omega,(hb n (by simp[hn])).2⟩)with h2|h2
  ·left;simp;omega
  ·left;subst h2;simp;omega
theorem xz.len{B:Int}{l:List Int}(h:xz B l)(hB:B<=4096):l.length<=4096:=by
 rcases qgi (a:=0) h.1 h.2 with h'|h'
 ·omega
 ·simp[h']
theorem YE{B:Int}:∀(l:List Int) (p:Option Int),(∀n∈l,0<=n/\n<B)->(match p with|none=>jS l|some q=>jS (q::l))->YF B p l=0
 |[],_,_,_=>rfl
 |n::l,p,h,hp=>by
  have hn:=h n qe
  have h0:¬(n>=B):=qc
  simp only[YF,h0,if_false]
  cases p with
  |none=>exact YE l (some n) (fun m hm=>h m (by simp[hm])) hp
  |some q=>
   have hp:jS (q::n::l):=hp
   have h1:=(zii.mp hp).1 n qe
   have h2:¬(n<=q):=qc
   simp only[h2,if_false]
   exact YE l (some n) (fun m hm=>h m (by simp[hm])) (zii.mp hp).2
theorem qib{B H:Int}{l:List Int}(hB:1<=B/\B<=4096)(hH:1<=H/\H<=8)(h:xz B l):VS B H l=0:=by
 unfold VS
 rw[if_neg qc]
 exact YE l none h.2 h.1
def plg(B H h:Int):List Int:=plc B (stp h) H.toNat (at0 h)
theorem quc{B H:Int}{l:List Int}(hB:1<=B/\B<=4096)(hH:1<=H/\H<=8)(h:xz B l)(x:Int):pls B H l x=plg B H x:=by
 unfold pls
 rw[if_pos (qib hB hH h)];rfl
theorem qkk{B H h:Int}(hB:1<=B):∀n∈plg B H h,0<=n/\n<B:=fun n hn=>qud B _ qc _ _ n hn
theorem qzc(B H h:Int):(plg B H h).length=H.toNat:=qm1 _ _ _ _
def qiy(l:List Int):List Int->List Int
 |[]=>l
 |n::r=>qiy (mrg l [n]) r
theorem YI{B:Int}:∀{r l:List Int},xz B l->(∀n∈r,0<=n/\n<B)->xz B (qiy l r)
 |[],_,h,_=>h
 |n::r,l,h,hr=>YI (r:=r) (h.mrg (xz.one (hr n qe))) fun m hm=>hr m (by simp[hm])
theorem qw1(B H:Int)(q0 q1 q2 q:AV)(k':Nat)(ps:List Int)(hB:1<=B/\B<=4096)(hps:ps.length<=8)(hin:∀n∈ps,0<=n/\n<B)(hp:Hp):∀(r:List Int) (i:Nat) (l:List Int) (k:Nat),ps.drop i=r->xz B l->
 B130_3 (S k' 1 (LI .u32 ps)) (.int .i64 ps.length) (.int .i64 i) [.sc (.int .i64 B),.sc (.int .i64 H),q] [q0,q1,q2] [.sc (.int .i64 B),.sc (.int .i64 H),S k 1 (LI .u32 l)] hp=some (Bv (.int .i64 B) (.int .i64 H) (S (if r=[]then k else 2) 1 (LI .u32 (qiy l r))),hp):=by
 intro r
 induction r with
 |nil=>
  intro i l k hr hg
  have:=qC hr
  have hlt:¬((i:Int)<(ps.length:Int)):=qc
  rw[qc1]
  simp[hlt,qo,qm,qiy]
 |cons x r ih=>
  intro i l k hr hg
  obtain⟨e1,e2,hi,e3⟩:=qv hr
  have hx:=hin x (zig e1)
  have h:=ih (i+1) (mrg l [x]) 2 e2 (hg.mrg (xz.one hx))
  have hw:IntKind.i64.wrap ((i:Int)+1)=((i+1:Nat):Int):=qh
  have hlen:=hg.len hB.2
  have hm:=fun hp=>qov (.int .i64 B) (.int .i64 H) (.int .i64 B) (.int .i64 H) l [x] (rk k) 0 hp qg
  rw[qc1]
  simp[LI]at h hw hm
  simp[hi,e3,qi,qt,qo,qm,qiy,LI,hm,hw,h]
theorem qyr(B H:Int)(l:List Int)(k:Nat)(h:Int)(hB:1<=B/\B<=4096)(hH:1<=H/\H<=8)(hg:xz B l)(hp:Hp):
 run cxX 130 [Bv (.int .i64 B) (.int .i64 H) (S k 1 (LI .u32 l)),.sc (.int .u64 h)] hp=some (Bv (.int .i64 B) (.int .i64 H) (S 2 1 (LI .u32 (qiy l (plg B H h)))),hp):=by
 rw[E130]
 have hlen:=hg.len hB.2
 have h1:=fun hp=>qj2 B H l (rk k) h qc (hg.in32 hB.2) hp
 have hl:=qzc B H h
 have hne:plg B H h≠[]:=by
  intro e
  rw[e]at hl
  simp at hl
  omega
 have h2:=qw1 B H (.sc (.int .i64 0)) (.sc (.int .i64 0)) (S 2 1 []) (S (rk k) 1 (LI .u32 l)) 2 (plg B H h) hB qc (qkk hB.1) hp _ 0 l (rk k) rfl hg
 rw[quc hB hH hg h]at h1
 simp[hne]at h2
 simp[qo,qm,h1,h2]
def blm(B H:Int):List Int->List Int->List Int
 |acc,[]=>acc
 |acc,h::r=>blm B H (qiy acc (plg B H h)) r
theorem qih{B H:Int}(hB:1<=B):∀{r acc:List Int},xz B acc->xz B (blm B H acc r)
 |[],_,h=>h
 |x::r,acc,h=>qih hB (r:=r) (YI h (qkk hB))
theorem qls(B H:Int)(q0 q1 q2:AV)(k:Nat)(hs:List Int)(hB:1<=B/\B<=4096)(hH:1<=H/\H<=8)(hl:hs.length<=1000000)(hp:Hp):∀(r:List Int) (i:Nat) (l:List Int),hs.drop i=r->xz B l->
 B63_3 (S k 1 (LI .u64 hs)) (.int .i64 hs.length) (.int .i64 i) [q0,q1,q2] [.sc (.int .i64 B),.sc (.int .i64 H),S 2 1 (LI .u32 l)] hp=some (Bv (.int .i64 B) (.int .i64 H) (S 2 1 (LI .u32 (blm B H l r))),hp):=by
 intro r
 induction r with
 |nil=>
  intro i l hr hg
  have:=qC hr
  have hlt:¬((i:Int)<(hs.length:Int)):=qc
  rw[qi8]
  simp[hlt,qo,qm,blm]
 |cons x r ih=>
  intro i l hr hg
  obtain⟨e1,e2,hi,e3⟩:=qv hr
  have h:=ih (i+1) (qiy l (plg B H x)) e2 (YI hg (qkk hB.1))
  have hw:IntKind.i64.wrap ((i:Int)+1)=((i+1:Nat):Int):=qh
  have ha:=fun hp=>qyr B H l 3 x hB hH hg hp
  rw[qi8]
  simp at h hw
  simp[hi,e3,qi,qo,qm,blm,ha,hw,h]
theorem qo3(b h:Int)(k:Nat)(hs:List Int)(hb:0<=b/\b<65536)(hh:0<=h/\h<256)(hl:hs.length<=1000000)(hp:Hp):
 run cxX 63 [.sc (.int .u16 b),.sc (.int .u8 h),S k 1 (LI .u64 hs)] hp=some (Bv (.int .i64 (1+b%300)) (.int .i64 (1+h%8)) (S 2 1 (LI .u32 (blm (1+b%300) (1+h%8) [] hs))),hp):=by
 rw[E63]
 have h1:∀x y,qs Tryz.prog .rem 82 x y (.int .u16 b) (.int .u16 300)=some (.int .u16 (b%300)):=by
  intro x y;rw[qP _ _ _ _ _ _ _ qc,qO hb.1]
 have h2:∀x y,qs Tryz.prog .rem 5 x y (.int .u8 h) (.int .u8 8)=some (.int .u8 (h%8)):=by
  intro x y;rw[qP _ _ _ _ _ _ _ qc,qO hh.1]
 have w1:IntKind.i64.wrap (b%300)=b%300:=qj qc qc
 have w2:IntKind.i64.wrap (h%8)=h%8:=qj qc qc
 have w3:IntKind.i64.wrap (1+b%300)=1+b%300:=qj qc qc
 have w4:IntKind.i64.wrap (1+h%8)=1+h%8:=qj qc qc
 have hq:=qls (1+b%300) (1+h%8) (.sc (.int .i64 0)) (.sc (.int .i64 0)) (S 2 1 []) (rk k) hs qc qc hl hp hs 0 [] rfl (xz.nil _)
 simp at hq
 simp[h1,h2,zay,Vt,w1,w2,w3,w4,hq]
abbrev fl(w:Nat):AV:=.sc (.float .f64 w)
theorem JW(w:Nat):one (ZB Tryz.prog 214 [.float .f64 w])=some (.int .u64 (w:Int)):=qd
theorem qc8(n:Int):one (ZB Tryz.prog 245 [.int .u64 n])=some (.float .f64 n.toNat):=qd
theorem ze8(x y:Operand):qs Tryz.prog .eql 4 x y (.bool true) (.bool true)=some (.bool true):=qd
theorem ze9(x y:Operand):qs Tryz.prog .eql 4 x y (.bool true) (.bool false)=some (.bool false):=qd
theorem zfa(x y:Operand):qs Tryz.prog .eql 4 x y (.bool false) (.bool true)=some (.bool false):=qd
theorem zfb(x y:Operand):qs Tryz.prog .eql 4 x y (.bool false) (.bool false)=some (.bool true):=qd
@[simp] theorem beq_bb (x y : Operand) (a b : Bool) : qs Tryz.prog .eql 4 x y (.bool a) (.bool b) = some (.bool (decide (a = b))) := by
 cases a<;>cases b
 ·exact zfb x y
 ·exact zfa x y
 ·exact ze9 x y
 ·exact ze8 x y
theorem Yl(w:Nat)(hp:Hp):run cxX 215 [fl w] hp=some (.sc (.bool (decide (yp w))),hp):=by
 rw[E215]
 simp[jw]
theorem XK(w:Nat)(h:w<18446744073709551616)(hp:Hp):run cxX 151 [fl w] hp=some (.sc (.int .u64 (kw w:Int)),hp):=by
 rw[E151]
 unfold kw
 by_cases hn:yp w
 ·simp[JW,Yl,hn,YT]
 ·by_cases hl:w<9223372036854775808
  ·have e:=qik Tryz.prog 125 (Go.Operand.tmp 6) (Go.Operand.const (.int .u64 (Int.ofNat 9223372036854775808))) w hl
   have e':=Xn Tryz.prog 125 (Go.Operand.tmp 12) (Go.Operand.const (.int .u64 (Int.ofNat 9223372036854775808))) w hl
   simp at e e'
   simp[JW,Yl,hn,hl,e,e',YT]
  ·have e':=Xo Tryz.prog 125 (Go.Operand.tmp 12) (Go.Operand.const (.int .u64 (Int.ofNat 9223372036854775808))) w qc h
   have e:=WY Tryz.prog w h
   simp at e e'
   simp[JW,Yl,hn,hl,e,e',YT]
theorem zdb(k:Nat)(h:k<18446744073709551616)(hp:Hp):run cxX 243 [.sc (.int .u64 (k:Int))] hp=some (.tup [fl (wk k),.sc (.bool (qzv k))],hp):=by
 have e4:∀hp,B243_4 (.int .u64 (k:Int)) (.int .u64 (wk k:Int)) hp=some (.tup [fl (wk k),.sc (.bool (qzv k))],hp):=by
  intro hp
  rw[qrg]
  have hk:=fun hp=>XK (wk k) (qsm k h) hp
  have hd:decide ((kw (wk k):Int)=(k:Int))=qzv k:=by
   unfold qzv
   apply decide_eq_decide.mpr
   omega
  simp[qc8,hk,hd]
 rw[E243]
 have c:=qlt Tryz.prog 125 (Go.Operand.tmp 6) (Go.Operand.const (.int .u64 (Int.ofNat 9223372036854775808))) k h
 have n:=WY Tryz.prog k h
 by_cases hl:k<9223372036854775808
 ·have e':=Xn Tryz.prog 125 (Go.Operand.tmp 8) (Go.Operand.const (.int .u64 (Int.ofNat 9223372036854775808))) k hl
  have w:wk k=18446744073709551615-k:=by unfold wk;rw[if_pos hl]
  rw[w]at e4
  rw[<-w]at e4
  rw[<-w]at n
  simp at c n e'
  simp[c,n,e',e4]
 ·have e':=Xo Tryz.prog 125 (Go.Operand.tmp 8) (Go.Operand.const (.int .u64 (Int.ofNat 9223372036854775808))) k qc h
  have w:wk k=k%9223372036854775808:=by unfold wk;rw[if_neg hl];omega
  rw[<-w]at c
  simp at c e'
  simp[c,e',e4]
theorem KC(a b:Nat)(ha:a<18446744073709551616)(hb:b<18446744073709551616)(hp:Hp):run cxX 124 [fl a,fl b] hp=some (.sc (.bool (decide (kw a<kw b))),hp):=by
 rw[E124]
 simp[XK a ha,XK b hb]
def qhv(a b:Nat):Nat:=if kw b<kw a then b else a
def qhw(a b:Nat):Nat:=if kw a<kw b then b else a
theorem qns{a b:Nat}(ha:a<18446744073709551616)(hb:b<18446744073709551616):qhv a b<18446744073709551616:=by unfold qhv;split<;>assumption
theorem qnt{a b:Nat}(ha:a<18446744073709551616)(hb:b<18446744073709551616):qhw a b<18446744073709551616:=by unfold qhw;split<;>assumption
theorem qtp(a b:Nat)(ha:a<18446744073709551616)(hb:b<18446744073709551616)(hp:Hp):run cxX 246 [fl a,fl b] hp=some (fl (qhv a b),hp):=by
 rw[E246]
 unfold qhv
 by_cases h:kw b<kw a<;>simp[KC b a hb ha,h]
theorem qtq(a b:Nat)(ha:a<18446744073709551616)(hb:b<18446744073709551616)(hp:Hp):run cxX 247 [fl a,fl b] hp=some (fl (qhw a b),hp):=by
 rw[E247]
 unfold qhw
 by_cases h:kw a<kw b<;>simp[KC a b ha hb,h]
theorem qyl(hp:Hp):run cxX 249 [] hp=some (fl 9221120237041090561,hp):=by
 rw[E249]
 simp[qc8]
theorem Je(s:Int)(hp:Hp):run cxX 200 [.sc (.int .i64 s)] hp=some (fl (if 0<=s then 9218868437227405312 else 18442240474082181120),hp):=by
 rw[E200]
 by_cases h:0<=s<;>simp[h,qrp,qc8]
theorem Ww(hp:Hp):run cxX 250 [fl 0,fl 13826050856027422720] hp=some (fl 9223372036854775808,hp):=(E250 _ _ _).trans qd
theorem qdt(hp:Hp):run cxX 250 [fl 0,fl 4602678819172646912] hp=some (fl 0,hp):=(E250 _ _ _).trans qd
theorem zhb(x y:Operand):qs Tryz.prog .sub 42 x y (.float .f64 (FloatKind.f64.nearest 0)) (.float .f64 4602678819172646912)=some (.float .f64 13826050856027422720):=qd
theorem zha(x y:Operand):qs Tryz.prog .sub 42 x y (.float .f64 (FloatKind.f64.nearest 1)) (.float .f64 4602678819172646912)=some (.float .f64 4602678819172646912):=qd
theorem qoz(n e:Int)(hn:0<=n/\n<18446744073709551616)(he:0<=e/\e<256):∃w,w<18446744073709551616/\∀hp,run cxX 203 [.sc (.int .u64 n),.sc (.int .u8 e)] hp=some (fl w,hp):=by
 have m8:∀x y,qs Tryz.prog .rem 5 x y (.int .u8 e) (.int .u8 8)=some (.int .u8 (e%8)):=by
  intro x y;rw[qP _ _ _ _ _ _ _ qc,qO he.1]
 have m2:∀x y,qs Tryz.prog .rem 125 x y (.int .u64 n) (.int .u64 2)=some (.int .u64 (n%2)):=by
  intro x y;rw[qP _ _ _ _ _ _ _ qc,qO hn.1]
 have m3:∀x y,qs Tryz.prog .rem 125 x y (.int .u64 n) (.int .u64 2001)=some (.int .u64 (n%2001)):=by
  intro x y;rw[qP _ _ _ _ _ _ _ qc,qO hn.1]
 have w2:IntKind.i64.wrap (n%2)=n%2:=qj qc qc
 have w3:IntKind.i64.wrap (n%2001)=n%2001:=qj qc qc
 have w4:IntKind.i64.wrap (n%2001-1000)=n%2001-1000:=qj qc qc
 have w5:IntKind.i64.wrap (2*(n%2))=2*(n%2):=qj qc qc
 have w5':IntKind.i64.wrap (n%2*2)=n%2*2:=qj qc qc
 have w6:IntKind.i64.wrap (n%2*2-1)=n%2*2-1:=qj qc qc
 have b10:∀hp,B203_10 (.int .u64 n) hp=some (fl (FloatKind.f64.nearest (n%2001-1000)),hp):=by
  intro hp
  rw[qmc]
  simp[m3,qh8,w3,w4,zaz]
 have b11:∀hp,B203_11 (.int .u64 n) hp=some (fl n.toNat,hp):=by
  intro hp
  rw[qmb]
  simp[qc8]
 by_cases h0:e%8=0
 ·refine⟨9221120237041090561,qf,fun hp=>?_⟩
  rw[ql6]
  simp[m8,h0,qyl]
 ·by_cases h1:e%8=1
  ·refine⟨if 0<=n%2*2-1 then 9218868437227405312 else 18442240474082181120,by split<;>decide,fun hp=>?_⟩
   rw[ql6]
   simp[m8,h1,m2,Vv,w2,w5',w6,Je]
  ·by_cases h2:e%8=2
   ·rcases Int.emod_two_eq n with q|q
    ·refine⟨9223372036854775808,qf,fun hp=>?_⟩
     rw[ql6]
     simp[m8,h2,m2,q,qbf,zhb,Ww]
    ·refine⟨0,qf,fun hp=>?_⟩
     rw[ql6]
     simp[m8,h2,m2,q,qbf,zha,qdt]
   ·by_cases h3:e%8=3
    ·refine⟨_,Vb (n%2001-1000),fun hp=>?_⟩
     rw[ql6]
     simp[m8,h3,b10]
    ·by_cases h4:e%8=4
     ·refine⟨_,Vb (n%2001-1000),fun hp=>?_⟩
      rw[ql6]
      simp[m8,h4,b10]
     ·refine⟨n.toNat,qc,fun hp=>?_⟩
      rw[ql6]
      simp[m8,h0,h1,h2,h3,h4,b11]
theorem zd3{w:Nat}(h:w<18446744073709551616):yp (nw w)↔yp w:=by
 unfold yp nw
 split<;>omega
theorem qp6{w:Nat}(h:w<18446744073709551616)(hn:¬yp w):kw w<18444492273895866369:=by
 unfold kw
 rw[if_neg hn]
 unfold yp at hn
 split<;>omega
theorem zd2{w:Nat}(hn:yp w):kw w=18444492273895866369:=by
 unfold kw
 rw[if_pos hn]
theorem qf6(w:Nat)(h:w<18446744073709551616)(hn:¬yp w)(hp:Hp):run cxX 258 [fl w,.sc (.int .i64 (-1))] hp=some (.sc (.bool (decide (w=18442240474082181120))),hp):=by
 have e:=qst Tryz.prog w h
 have c:Xj 9218868437227405311 (nw w)=decide (w=18442240474082181120):=by
  unfold Xj
  have v1:zI 9218868437227405311=9218868437227405311:=qf
  rw[v1]
  have hn':¬yp (nw w):=fun e=>hn ((zd3 h).mp e)
  have hn2:=hn
  unfold yp at hn2
  apply decide_eq_decide.mpr
  constructor
  ·rintro⟨_,_,h3⟩
   unfold zI nw at h3
   repeat' split at h3
   all_goals omega
  ·intro h3
   subst h3
   exact⟨qf,qf,qf⟩
 rw[E258]
 simp[e,qcb,c]
theorem qf5(w:Nat)(h:w<18446744073709551616)(hn:¬yp w)(hp:Hp):run cxX 258 [fl w,.sc (.int .i64 1)] hp=some (.sc (.bool (decide (w=9218868437227405312))),hp):=by
 have c:Xj 9218868437227405311 w=decide (w=9218868437227405312):=by
  unfold Xj
  have v1:zI 9218868437227405311=9218868437227405311:=qf
  rw[v1]
  have hn2:=hn
  unfold yp at hn2
  apply decide_eq_decide.mpr
  constructor
  ·rintro⟨_,_,h3⟩
   unfold zI at h3
   split at h3<;>omega
  ·intro h3
   subst h3
   exact⟨qf,qf,qf⟩
 rw[E258]
 simp[qcb,c]
theorem qfp(w:Nat)(h:w<18446744073709551616)(hp:Hp):run cxX 259 [fl w] hp=some (.sc (.bool (decide (9223372036854775808<=w))),hp):=by
 have c:decide (IntKind.i64.wrap (w:Int)<0)=decide (9223372036854775808<=w):=by
  apply decide_eq_decide.mpr
  rw[IntKind.wrap_i64]
  omega
 rw[E259]
 simp[JW,qh8]
 rw[IntKind.wrap_i64]
 omega
def wY(w:Nat):Int:=if yp w then 1 else if w=18442240474082181120 then 2 else if w=9218868437227405312 then 3 else if w=9223372036854775808 then 4 else if w=0 then 5 else 0
theorem qwc{w:Nat}(h:w<18446744073709551616)(hn:¬yp w):fEq w 0=decide (w=0\/w=9223372036854775808):=by
 unfold fEq
 have v3:zI 0=0:=qf
 rw[v3]
 apply decide_eq_decide.mpr
 constructor
 ·rintro⟨_,_,h3⟩
  unfold zI at h3
  split at h3<;>omega
 ·intro h3
  rcases h3 with rfl|rfl
  ·exact⟨qf,qf,qf⟩
  ·exact⟨qf,qf,qf⟩
theorem qtr(w:Nat)(h:w<18446744073709551616)(hp:Hp):run cxX 248 [fl w] hp=some (.sc (.int .u8 (wY w)),hp):=by
 rw[E248]
 unfold wY
 by_cases hn:yp w
 ·simp[jw,hn]
 ·have i1:=fun hp=>qf6 w h hn hp
  have i2:=fun hp=>qf5 w h hn hp
  have z:=qwc h hn
  have s:=fun hp=>qfp w h hp
  have b9:∀hp,B248_9 (.float .f64 w) hp=some (.sc (.int .u8 (if w=0\/w=9223372036854775808 then 5 else 0)),hp):=by
   intro hp
   rw[qre]
   by_cases h0:w=0\/w=9223372036854775808<;>simp[z,h0]
  by_cases h1:w=18442240474082181120
  ·subst h1
   simp at i1
   simp[jw,hn,i1]
  ·by_cases h2:w=9218868437227405312
   ·subst h2
    simp at i1 i2
    simp[jw,hn,i1,i2]
   ·simp only[h1,h2,decide_false]at i1 i2
    by_cases h3:w=9223372036854775808
    ·subst h3
     simp at s z
     simp[jw,hn,i1,i2,z,s,qrf]
    ·by_cases h4:w=0
     ·subst h4
      simp at s z b9
      simp[jw,hn,i1,i2,z,s,b9]
     ·simp[h3,h4]at z b9
      simp[jw,hn,i1,i2,z,b9,h1,h2,h3,h4]
theorem qni(a b:Nat):kw (qhv a b)=min (kw a) (kw b):=by unfold qhv;split<;>omega
theorem qnj(a b:Nat):kw (qhw a b)=max (kw a) (kw b):=by unfold qhw;split<;>omega
def LF(l:List Nat):List AV:=l.map fun n=>.sc (.float .f64 n)
section
variable (l:List Nat)
@[simp] theorem lenF:(LF l).length=l.length:=by simp[LF]
@[simp] theorem getF?(i:Nat):(LF l)[i]?=(l[i]?).map fun n=>.sc (.float .f64 n):=by simp[LF]
@[simp] theorem getF(i:Nat)(h:i<(LF l).length):(LF l)[i]= .sc (.float .f64 (l[i]'(by simpa using h))):=by simp[LF]
@[simp] theorem dropF(i:Nat):(LF l).drop i=LF (l.drop i):=by simp[LF]
@[simp] theorem tailF:(LF l).tail=LF l.tail:=by simp[LF]
@[simp] theorem nilF:LF []=[]:=rfl
theorem appF(n:Nat)(h:l.length<=1000000):zh 8 1 (S 2 1 (LF l)) (S 1 1 [.sc (.float .f64 n)])=some (S 2 1 (LF (l++[n]))):=by
 rw[ZN 8 1 2 _ _ 1 (.inr rfl) (qhx _) (.inr (jr qc qg))]
 simp[LF]
end
abbrev Ga(K M e0 e1 e2 e3 e4 e5:Int)(lo hi:Nat)(x:AV):AV:=
 .agg [.sc (.int .i64 K),.sc (.int .u32 M),.sc (.int .u32 e0),.sc (.int .u32 e1),.sc (.int .u32 e2),.sc (.int .u32 e3),.sc (.int .u32 e4),.sc (.int .u32 e5),fl lo,fl hi,x]
def jB(a b:Int):Int:=if a+b<4294967296 then a+b else 4294967295
theorem xh(a b:Int)(ha:0<=a/\a<4294967296)(hb:0<=b/\b<4294967296)(hp:Hp):run cxX 199 [.sc (.int .u32 a),.sc (.int .u32 b)] hp=some (.sc (.int .u32 (jB a b)),hp):=by
 rw[E199]
 unfold jB
 by_cases h:a+b<4294967296
 ·have w:IntKind.u32.wrap (a+b)=a+b:=qT qc h
  have h1:decide (a+b>=a)=true:=qg
  simp only[cmb,wL,zib,Qv,JH,jZ,w,h,h1,cond_true,if_true]
 ·have w:IntKind.u32.wrap (a+b)=a+b-4294967296:=by rw[IntKind.wrap_u32];omega
  have h1:¬(a<=a+b-4294967296):=qc
  simp[w,h,h1]
def Ws(l:List Nat):Prop:=∀w∈l,w<18446744073709551616
theorem qhq(K:Int)(q c1 c2 c3 c4 c5 c6 c7 c8 c9:AV)(b4 b2r:List AV)(hq:b4.length=11)(hp:Hp):∀(n:Nat) (a b acc:List Nat) (k k':Nat),a.length+b.length=n->acc.length+n<=1000000->Ws a->Ws b->
 B201_8 (S k 1 (LF a)) (S k' 1 (LF b)) (.sc (.int .i64 K)::b2r) b4 [q,c1,c2,c3,c4,c5,c6,c7,c8,c9,S 2 1 (LF acc)] hp=some (.agg [q,c1,c2,c3,c4,c5,c6,c7,c8,c9,S 2 1 (LF (acc++(gm a b).take (K.toNat-acc.length)))],hp):=by
 intro n
 induction n using Nat.strongRecOn with
 |_ n ih=>
 intro a b acc k k' hn hlen ha hb
 have ap:∀x:Nat,zh 8 1 (S 2 1 (LF acc)) (S 1 1 [.sc (.float .f64 x)])=some (S 2 1 (LF (acc++[x]))):=fun x=>appF acc x qc
 have fin:B201_12 b4 [q,c1,c2,c3,c4,c5,c6,c7,c8,c9,S 2 1 (LF acc)] hp=some (.agg [q,c1,c2,c3,c4,c5,c6,c7,c8,c9,S 2 1 (LF acc)],hp):=by
  rw[qmd]
  obtain⟨d0,d1,d2,d3,d4,d5,d6,d7,d8,d9,d10,rfl⟩:∃d0 d1 d2 d3 d4 d5 d6 d7 d8 d9 d10,b4=[d0,d1,d2,d3,d4,d5,d6,d7,d8,d9,d10]:=by
   match b4,hq with
   |[d0,d1,d2,d3,d4,d5,d6,d7,d8,d9,d10],_=>exact⟨d0,d1,d2,d3,d4,d5,d6,d7,d8,d9,d10,rfl⟩
  simp[qo,qm]
 rw[qro]
 by_cases hK:(acc.length:Int)<K
 ·have hs:K.toNat-acc.length=(K.toNat-(acc.length+1))+1:=qc
  have goA:∀(x:Nat) (r:List Nat),r.length+1+b.length<=n->Ws r->B201_10 (S k 1 (LF (x::r))) (S k' 1 (LF b)) (.sc (.int .i64 K)::b2r) b4 [q,c1,c2,c3,c4,c5,c6,c7,c8,c9,S 2 1 (LF acc)] hp=some (.agg [q,c1,c2,c3,c4,c5,c6,c7,c8,c9,S 2 1 (LF (acc++(x::gm r b).take (K.toNat-acc.length)))],hp):=by
   intro x r hle hr
   rw[qmf]
   have e:=yP (rk k) (LF (x::r)) .i64 1 qc (by simp only[lenF,zid];omega)
   have i:=fun k=>ih (r.length+b.length) qc r b (acc++[x]) k k' rfl (by simp only[zh8,zid,zi1];omega) hr hb
   simp at i
   rw[hs,zim]
   simp[qt,qi,ap,e,qm,i]
  have goB:∀(y:Nat) (r:List Nat),a.length+(r.length+1)<=n->Ws r->B201_11 (S k 1 (LF a)) (S k' 1 (LF (y::r))) (.sc (.int .i64 K)::b2r) b4 [q,c1,c2,c3,c4,c5,c6,c7,c8,c9,S 2 1 (LF acc)] hp=some (.agg [q,c1,c2,c3,c4,c5,c6,c7,c8,c9,S 2 1 (LF (acc++(y::gm a r).take (K.toNat-acc.length)))],hp):=by
   intro x r hle hr
   rw[qme]
   have e:=yP (rk k') (LF (x::r)) .i64 1 qc (by simp only[lenF,zid];omega)
   have i:=fun k'=>ih (a.length+r.length) qc a r (acc++[x]) k k' rfl (by simp only[zh8,zid,zi1];omega) ha hr
   simp at i
   rw[hs,zim]
   simp[qt,qi,ap,e,qm,i]
  match a,b with
  |[],[]=>simp[qt,qi,hK,fin]
  |[],y::s=>
   have h:=goB y s (by simp at hn⊢;omega) (fun w hw=>hb w (by simp[hw]))
   simp at h
   have hw':IntKind.i64.wrap ((s.length:Int)+1)=(s.length:Int)+1:=qj qc (by simp at hn;omega)
   have p:(0:Int)<(s.length:Int)+1:=qc
   have z:¬((s.length:Int)+1=0):=qc
   simp[qt,qi,hK,hw',p,z,QX,h]
  |x::r,[]=>
   have h:=goA x r (by simp at hn⊢;omega) (fun w hw=>ha w (by simp[hw]))
   simp at h
   have hw':IntKind.i64.wrap ((r.length:Int)+1)=(r.length:Int)+1:=qj qc (by simp at hn;omega)
   have p:(0:Int)<(r.length:Int)+1:=qc
   simp[qt,qi,hK,hw',p,QX,h]
  |x::r,y::s=>
   have h1:=goA x r (by simp at hn⊢;omega) (fun w hw=>ha w (by simp[hw]))
   have h2:=goB y s (by simp at hn⊢;omega) (fun w hw=>hb w (by simp[hw]))
   have hw':IntKind.i64.wrap ((r.length:Int)+1+((s.length:Int)+1))=(r.length:Int)+1+((s.length:Int)+1):=qj qc (by simp at hn;omega)
   have p:(0:Int)<(r.length:Int)+1+((s.length:Int)+1):=qc
   have p':(0:Int)<(r.length:Int)+1:=qc
   have z:¬((s.length:Int)+1=0):=qc
   have l:=fun hp=>KC y x (hb y qe) (ha x qe) hp
   rw[qen]
   by_cases hyx:kw y<kw x
   ·simp only[hyx,decide_true]at l
    simp[qt,qi,hK,hw',p,p',z,hyx,l,h2,QX]
   ·simp only[hyx,decide_false]at l
    simp[qt,qi,hK,hw',p,p',z,hyx,l,h1,QX]
 ·have hs:K.toNat-acc.length=0:=qc
  simp[qt,qi,hK,fin,hs]
theorem zea:idx 6 (.int .i64 0)=some 0:=qd
theorem zd9:idx 6 (.int .i64 1)=some 1:=qd
theorem zd8:idx 6 (.int .i64 2)=some 2:=qd
theorem zd7:idx 6 (.int .i64 3)=some 3:=qd
theorem zd6:idx 6 (.int .i64 4)=some 4:=qd
theorem zd5:idx 6 (.int .i64 5)=some 5:=qd
def qW(n:Int):Prop:=0<=n/\n<4294967296
theorem qj9(K K' M M' e0 e1 e2 e3 e4 e5 f0 f1 f2 f3 f4 f5:Int)(lo hi lo' hi':Nat)(a b:List Nat)(k k':Nat)(hM:qW M/\qW M')(h0:qW e0/\qW f0)(h1:qW e1/\qW f1)(h2:qW e2/\qW f2)(h3:qW e3/\qW f3)
 (h4:qW e4/\qW f4) (h5:qW e5/\qW f5) (hlo:lo<18446744073709551616/\lo'<18446744073709551616) (hhi:hi<18446744073709551616/\hi'<18446744073709551616) (ha:Ws a) (hb:Ws b) (hlen:a.length+b.length<=1000000) (hp:Hp):
 run cxX 201 [Ga K M e0 e1 e2 e3 e4 e5 lo hi (S k 1 (LF a)),Ga K' M' f0 f1 f2 f3 f4 f5 lo' hi' (S k' 1 (LF b))] hp=
  some (Ga K (jB M M') (jB e0 f0) (jB e1 f1) (jB e2 f2) (jB e3 f3) (jB e4 f4) (jB e5 f5) (qhv lo lo') (qhw hi hi') (S 2 1 (LF ((gm a b).take K.toNat))),hp):=by
 have pM:=fun hp=>xh M M' hM.1 hM.2 hp
 have p0:=fun hp=>xh e0 f0 h0.1 h0.2 hp
 have p1:=fun hp=>xh e1 f1 h1.1 h1.2 hp
 have p2:=fun hp=>xh e2 f2 h2.1 h2.2 hp
 have p3:=fun hp=>xh e3 f3 h3.1 h3.2 hp
 have p4:=fun hp=>xh e4 f4 h4.1 h4.2 hp
 have p5:=fun hp=>xh e5 f5 h5.1 h5.2 hp
 have mn:=fun hp=>qtp lo lo' hlo.1 hlo.2 hp
 have mx:=fun hp=>qtq hi hi' hhi.1 hhi.2 hp
 have w2:IntKind.i64.wrap 2=2:=rfl
 have w3:IntKind.i64.wrap 3=3:=rfl
 have w4:IntKind.i64.wrap 4=4:=rfl
 have w5:IntKind.i64.wrap 5=5:=rfl
 have w6:IntKind.i64.wrap 6=6:=rfl
 have g:=fun(c1 c2 c3 c4 c5 c6 c7 c8 c9:AV) (b4 b2r:List AV) (hq:b4.length=11)=>qhq K (.sc (.int .i64 K)) c1 c2 c3 c4 c5 c6 c7 c8 c9 b4 b2r hq hp (a.length+b.length) a b [] (rk k) (rk k') rfl (by simpa using hlen) ha hb
 simp at g
 rw[E201]
 simp[qi,pM,mn,mx]
 rw[yZ]
 simp[qi,zea,p0,qm]
 rw[yZ]
 simp[qi,zd9,p1,qm]
 rw[yZ]
 simp[qi,zd8,p2,qm,w2]
 rw[yZ]
 simp[qi,zd7,p3,qm,w3]
 rw[yZ]
 simp[qi,zd6,p4,qm,w4]
 rw[yZ]
 simp[qi,zd5,p5,qm,w5]
 rw[yZ]
 simp[qt,w6]
 exact g _ _ _ _ _ _ _ _ _ _ _ rfl
structure Gs where
 M:Int
 e0:Int
 e1:Int
 e2:Int
 e3:Int
 e4:Int
 e5:Int
 lo:Nat
 hi:Nat
 L:List Nat
abbrev Gs.av(g:Gs)(K:Int)(k:Nat):AV:=Ga K g.M g.e0 g.e1 g.e2 g.e3 g.e4 g.e5 g.lo g.hi (S k 1 (LF g.L))
def gmg(K:Int)(g o:Gs):Gs:=⟨jB g.M o.M,jB g.e0 o.e0,jB g.e1 o.e1,jB g.e2 o.e2,jB g.e3 o.e3,jB g.e4 o.e4,jB g.e5 o.e5,qhv g.lo o.lo,qhw g.hi o.hi,(gm g.L o.L).take K.toNat⟩
def xJ(w:Nat):Gs:=⟨1,if wY w=0 then 1 else 0,if wY w=1 then 1 else 0,if wY w=2 then 1 else 0,if wY w=3 then 1 else 0,if wY w=4 then 1 else 0,if wY w=5 then 1 else 0,
 if yp w then 9218868437227405312 else w,if yp w then 18442240474082181120 else w,[wk (kw w)]⟩
def gnew:Gs:=⟨0,0,0,0,0,0,0,9218868437227405312,18442240474082181120,[]⟩
def Xz(i:Int):List Nat->Nat
 |[]=>0
 |f::F=>(if wY f=i then 1 else 0)+Xz i F
theorem yj(i:Int):∀a b,Xz i (a++b)=Xz i a+Xz i b
 |[],b=>by simp[Xz]
 |f::a,b=>by simp only[zj0,Xz,yj i a b];omega
theorem jt(i:Int):∀a,Xz i a<=a.length
 |[]=>zif _
 |f::a=>by have:=jt i a;simp only[Xz,zid];split<;>omega
theorem vN(i:Int){a b:List Nat}(h:a.Perm b):Xz i a=Xz i b:=by
 induction h with
 |nil=>rfl
 |cons x _ ih=>simp only[Xz,ih]
 |swap x y l=>simp only[Xz];omega
 |trans _ _ h1 h2=>rw[h1,h2]
theorem zau(w:Nat):0<=wY w/\wY w<=5:=by
 unfold wY
 repeat' split
 all_goals omega
structure GR (K : Int) (F : List Nat) (g : Gs) : Prop where
 M:g.M=F.length
 e0:g.e0=Xz 0 F
 e1:g.e1=Xz 1 F
 e2:g.e2=Xz 2 F
 e3:g.e3=Xz 3 F
 e4:g.e4=Xz 4 F
 e5:g.e5=Xz 5 F
 lo:g.lo<18446744073709551616
 hi:g.hi<18446744073709551616
 klo:kw g.lo=Zt F
 khi:kw g.hi=kG F
 ws:Ws g.L
 keys:g.L.map kw=(sk (F.map kw)).take K.toNat
theorem GR.len{K:Int}{F:List Nat}{g:Gs}(h:GR K F g):g.L.length=min K.toNat F.length:=by
 have:=congrArg List.length h.keys
 rw[zjg,ziy,zc7,zjg]at this
 exact this
theorem kC{a b:Nat}(h:a+b<4294967296):jB (a:Int) (b:Int)=((a+b:Nat):Int):=by
 unfold jB
 rw[if_pos qc]
 omega
theorem GR.merge{K:Int}{F H:List Nat}{g o:Gs}(hg:GR K F g)(ho:GR K H o)(hl:F.length+H.length<=1000):GR K (F++H) (gmg K g o) where
 M:=by simp only[gmg];rw[hg.M,ho.M,kC qc,zh8]
 e0:=by have:=jt 0 F;have:=jt 0 H;simp only[gmg];rw[hg.e0,ho.e0,kC qc,yj]
 e1:=by have:=jt 1 F;have:=jt 1 H;simp only[gmg];rw[hg.e1,ho.e1,kC qc,yj]
 e2:=by have:=jt 2 F;have:=jt 2 H;simp only[gmg];rw[hg.e2,ho.e2,kC qc,yj]
 e3:=by have:=jt 3 F;have:=jt 3 H;simp only[gmg];rw[hg.e3,ho.e3,kC qc,yj]
 e4:=by have:=jt 4 F;have:=jt 4 H;simp only[gmg];rw[hg.e4,ho.e4,kC qc,yj]
 e5:=by have:=jt 5 F;have:=jt 5 H;simp only[gmg];rw[hg.e5,ho.e5,kC qc,yj]
 lo:=qns hg.lo ho.lo
 hi:=qnt hg.hi ho.hi
 klo:=by simp only[gmg];rw[qni,hg.klo,ho.klo,Xg]
 khi:=by simp only[gmg];rw[qnj,hg.khi,ho.khi,Jw]
 ws:=fun w hw=>(qu7 w _ _ _ rfl (zjs hw)).elim (hg.ws w) (ho.ws w)
 keys:=by
  simp only[gmg]
  rw[zlo,qnp _ _ _ rfl,hg.keys,ho.keys,qx4 _ _ _ _ _ (zif _) (zif _),zjp,qoj]
theorem zak(K:Int):GR K [] gnew:=⟨rfl,rfl,rfl,rfl,rfl,rfl,rfl,qf,qf,qf,qf,by simp[gnew,Ws],by simp[gnew,sk]⟩
theorem qnn{K:Int}(hK:1<=K){w:Nat}(hw:w<18446744073709551616):GR K [w] (xJ w) where
 M:=rfl
 e0:=by simp only[xJ,Xz];split<;>rfl
 e1:=by simp only[xJ,Xz];split<;>rfl
 e2:=by simp only[xJ,Xz];split<;>rfl
 e3:=by simp only[xJ,Xz];split<;>rfl
 e4:=by simp only[xJ,Xz];split<;>rfl
 e5:=by simp only[xJ,Xz];split<;>rfl
 lo:=by simp only[xJ];split<;>omega
 hi:=by simp only[xJ];split<;>omega
 klo:=by
  simp only[xJ,Zt]
  have h0:kw 9218868437227405312=18442240474082181120:=qf
  by_cases hn:yp w
  ·rw[if_pos hn,if_pos hn,h0]
  ·rw[if_neg hn,if_neg hn]
   have hn2:=hn
   unfold yp at hn2
   unfold kw
   rw[if_neg hn]
   split<;>omega
 khi:=by
  simp only[xJ,kG]
  have h0:kw 18442240474082181120=4503599627370495:=qf
  by_cases hn:yp w
  ·rw[if_pos hn,if_pos hn,h0]
  ·rw[if_neg hn,if_neg hn]
   have hn2:=hn
   unfold yp at hn2
   unfold kw
   rw[if_neg hn]
   split<;>omega
 ws:=by simp only[xJ,Ws,zjh];rintro x rfl;exact qsm _ (wU w hw)
 keys:=by
  have hk:K.toNat=(K.toNat-1)+1:=qc
  simp only[xJ,zjc,zkc,sk,Vc]
  rw[qvi w hw,hk,zim,zl1]
theorem GR.in32{K:Int}{F:List Nat}{g:Gs}(h:GR K F g)(hl:F.length<=1000):qW g.M/\qW g.e0/\qW g.e1/\qW g.e2/\qW g.e3/\qW g.e4/\qW g.e5:=by
 have a0:=jt 0 F
 have a1:=jt 1 F
 have a2:=jt 2 F
 have a3:=jt 3 F
 have a4:=jt 4 F
 have a5:=jt 5 F
 rw[h.M,h.e0,h.e1,h.e2,h.e3,h.e4,h.e5]
 unfold qW
 refine⟨?_,?_,?_,?_,?_,?_,?_⟩<;>omega
theorem zdc(K K':Int){F H:List Nat}{g o:Gs}(k k':Nat)(hg:GR K F g)(ho:GR K' H o)(hl:F.length+H.length<=1000)(hp:Hp):
 run cxX 201 [g.av K k,o.av K' k'] hp=some ((gmg K g o).av K 2,hp):=by
 obtain⟨m,x0,x1,x2,x3,x4,x5⟩:=hg.in32 qc
 obtain⟨m',y0,y1,y2,y3,y4,y5⟩:=ho.in32 qc
 have l1:=hg.len
 have l2:=ho.len
 exact qj9 K K' g.M o.M g.e0 g.e1 g.e2 g.e3 g.e4 g.e5 o.e0 o.e1 o.e2 o.e3 o.e4 o.e5 g.lo g.hi o.lo o.hi g.L o.L k k' ⟨m,m'⟩ ⟨x0,y0⟩ ⟨x1,y1⟩ ⟨x2,y2⟩ ⟨x3,y3⟩ ⟨x4,y4⟩ ⟨x5,y5⟩ ⟨hg.lo,ho.lo⟩ ⟨hg.hi,ho.hi⟩ hg.ws ho.ws qc hp
theorem qyk(K:Int)(w:Nat)(hw:w<18446744073709551616)(hp:Hp):run cxX 202 [.sc (.int .i64 K),fl w] hp=some ((xJ w).av K 1,hp):=by
 have i1:=fun hp=>Je 1 hp
 have i2:=fun hp=>Je (-1) hp
 have ed:=fun hp=>qtr w hw hp
 have k:=fun hp=>XK w hw hp
 have o:=fun hp=>zdb (kw w) (wU w hw) hp
 simp at i1 i2
 have b5:∀(x0 x1 x2 x3 x4 x5 x6 x7 x8 x9 x10:AV) (q0 q1 q2 q3 q4 q5 q6 q7 q8 q9 q10:AV) (hp:Hp),B202_5 (.float .f64 w) [q0,q1,q2,q3,q4,q5,q6,q7,q8,q9,q10] [x0,x1,x2,x3,x4,x5,x6,x7,x8,x9,x10] hp=some (.agg [x0,x1,x2,x3,x4,x5,x6,x7,x8,x9,S 1 1 [fl (wk (kw w))]],hp):=by
  intros
  rw[qrn]
  simp[k,o,qm,qo]
 rw[E202]
 have he:=zau w
 have hc:wY w=0\/wY w=1\/wY w=2\/wY w=3\/wY w=4\/wY w=5:=qc
 have u0:idx 6 (.int .u8 0)=some 0:=qd
 have u1:idx 6 (.int .u8 1)=some 1:=qd
 have u2:idx 6 (.int .u8 2)=some 2:=qd
 have u3:idx 6 (.int .u8 3)=some 3:=qd
 have u4:idx 6 (.int .u8 4)=some 4:=qd
 have u5:idx 6 (.int .u8 5)=some 5:=qd
 unfold xJ
 by_cases hn:yp w
 ·rcases hc with e|e|e|e|e|e<;>rw[e]at ed<;>simp[i1,i2,ed,u0,u1,u2,u3,u4,u5,qm,jw,hn,b5,e,LF]
 ·rcases hc with e|e|e|e|e|e<;>rw[e]at ed<;>simp[i1,i2,ed,u0,u1,u2,u3,u4,u5,qm,jw,hn,b5,e,LF]
theorem qtn(K:Int)(hK:1<=K/\K<=16)(hp:Hp):run cxX 133 [.sc (.int .i64 K)] hp=some (.tup [gnew.av K 2,.sc (.bool true)],hp):=by
 have i1:=fun hp=>Je 1 hp
 have i2:=fun hp=>Je (-1) hp
 simp at i1 i2
 have h1:¬(K<1):=qc
 have h2:¬(16<K):=qc
 rw[E133]
 simp[h1,h2]
 rw[qsb]
 simp[i1,i2,qm,qo,gnew]
theorem qto(K:Int){F:List Nat}{g:Gs}(k w:Nat)(hK:1<=K)(hg:GR K F g)(hl:F.length+1<=1000)(hw:w<18446744073709551616)(hp:Hp):
 run cxX 134 [g.av K k,fl w] hp=some ((gmg K g (xJ w)).av K 2,hp):=by
 have o:=fun hp=>qyk K w hw hp
 have m:=fun k k' hp=>zdc K K k k' hg (qnn hK hw) (by simpa using hl) hp
 rw[E134]
 simp[qo,qi,o,m,qm]
def zhr(K K':Int)(g o:Gs):Prop:=K=K'/\g.M=o.M/\(g.e0=o.e0/\g.e1=o.e1/\g.e2=o.e2/\g.e3=o.e3/\g.e4=o.e4/\g.e5=o.e5)/\kw g.lo=kw o.lo/\kw g.hi=kw o.hi/\g.L.map kw=o.L.map kw
open Classical in
noncomputable def wd(p:Int×Int):Nat:=if h:∃w,w<18446744073709551616/\∀hp,run cxX 203 [.sc (.int .u64 p.1),.sc (.int .u8 p.2)] hp=some (fl w,hp)then h.choose else 0
def InI(p:Int×Int):Prop:=(0<=p.1/\p.1<18446744073709551616)/\(0<=p.2/\p.2<256)
theorem qsn{p:Int×Int}(h:InI p):wd p<18446744073709551616/\∀hp,run cxX 203 [.sc (.int .u64 p.1),.sc (.int .u8 p.2)] hp=some (fl (wd p),hp):=by
 have he:=qoz p.1 p.2 h.1 h.2
 unfold wd
 rw[dif_pos he]
 exact he.choose_spec
theorem qtj(p:Int×Int)(h:InI p)(hp:Hp):run cxX 135 [.agg [.sc (.int .u64 p.1),.sc (.int .u8 p.2)]] hp=some (fl (wd p),hp):=by
 rw[E135]
 simp[qi,(qsn h).2]
def LP:List (Int×Int)->List AV
 |[]=>[]
 |p::l=>.sc (.int .u64 p.1)::.sc (.int .u8 p.2)::LP l
theorem qhc:∀l,(LP l).length=2*l.length
 |[]=>rfl
 |p::l=>by simp only[LP,zid,qhc l];omega
theorem zb9:∀(i:Nat) (l:List (Int×Int)),(LP l).drop (i*2)=LP (l.drop i)
 |0,l=>by simp
 |i+1,[]=>by simp[LP]
 |i+1,p::l=>by
  have h:(i+1)*2=i*2+1+1:=qc
  rw[h,LP,zk1,zk1,zb9 i l,zk1]
theorem qvf(k:Nat)(l:List (Int×Int)):zd (S k 2 (LP l))=some l.length:=by
 have h:(if(2:Nat)=1 then(LP l).length else(LP l).length/2)=l.length:=by rw[if_neg qc,qhc];omega
 rcases zg k 2 (LP l)with e|e|⟨e,e'⟩
 ·rw[e];simp only[zd,h]
 ·rw[e];simp only[zd,h]
 ·rw[e]
  have:l.length=0:=by have:=qhc l;rw[e']at this;simp at this;omega
  rw[this];rfl
theorem zd4(k:Nat){l:List (Int×Int)}{i:Nat}{p:Int×Int}(h:l[i]?=some p):zL 2 (S k 2 (LP l)) (.int .i64 (i:Int))=some [.sc (.int .u64 p.1),.sc (.int .u8 p.2)]:=by
 obtain⟨hi,hp⟩:=zih.mp h
 have hl:(if(2:Nat)=1 then(LP l).length else(LP l).length/2)=l.length:=by rw[if_neg qc,qhc];omega
 have hx:idx l.length (.int .i64 (i:Int))=some i:=by
  have hc:(0:Int)<=(i:Int)/\(i:Int)<(l.length:Int):=⟨qc,qc⟩
  simp only[cmb,idx,ZK,zib,hc,and_self,if_true,zik]
 have hg:qo (LP l) (i*2) 2=some [.sc (.int .u64 p.1),.sc (.int .u8 p.2)]:=by
  unfold qo
  rw[if_pos (by rw[qhc];omega),zb9,zi2 hi,hp]
  rfl
 rcases zg k 2 (LP l)with e|e|⟨e,e'⟩
 ·rw[e];simp only[cmb,zL,if_true,hl,hx,zib,hg]
 ·rw[e];simp only[cmb,zL,if_true,hl,hx,zib,hg]
 ·exfalso
  have:=qhc l
  rw[e']at this
  simp at this
  omega
def Qp(K:Int)(g:Gs):List Nat->Gs
 |[]=>g
 |w::r=>Qp K (gmg K g (xJ w)) r
theorem qld(K:Int)(k:Nat)(l:List (Int×Int))(z0 z1 z2 z3 z4 z5 z6 z7 z8 z9 z10:AV)(hK:1<=K)(hl:l.length<=900)(hI:∀p∈l,InI p)(hp:Hp):∀(r:List (Int×Int)) (i:Nat) (F:List Nat) (g:Gs),l.drop i=r->F.length=i->GR K F g->
 B65_3 (S k 2 (LP l)) (.int .i64 l.length) (.int .i64 i) [z0,z1,z2,z3,z4,z5,z6,z7,z8,z9,z10] [.sc (.int .i64 K),.sc (.int .u32 g.M),.sc (.int .u32 g.e0),.sc (.int .u32 g.e1),.sc (.int .u32 g.e2),.sc (.int .u32 g.e3),.sc (.int .u32 g.e4),.sc (.int .u32 g.e5),fl g.lo,fl g.hi,S 2 1 (LF g.L)] hp=
  some ((Qp K g (r.map wd)).av K 2,hp):=by
 intro r
 induction r with
 |nil=>
  intro i F g hr hF hg
  have:=qC hr
  have hlt:¬((i:Int)<(l.length:Int)):=qc
  rw[qi7]
  simp[hlt,qo,qm,Qp]
 |cons p r ih=>
  intro i F g hr hF hg
  obtain⟨e1,e2,hi,e3⟩:=qv hr
  have hpI:=hI p (zig e1)
  have hw:=(qsn hpI).1
  have ix:=zd4 k e1
  have it:=fun hp=>qtj p hpI hp
  have ad:=fun k hp=>qto K k (wd p) hK hg qc hw hp
  have h:=ih (i+1) (F++[wd p]) (gmg K g (xJ (wd p))) e2 (by simp[hF]) (hg.merge (qnn hK hw) qg)
  have hwi:IntKind.i64.wrap ((i:Int)+1)=((i+1:Nat):Int):=qh
  rw[qi7]
  simp at h hwi
  simp[hi,ix,qo,qm,it,ad,hwi,h,Qp]
theorem qoy(c:Int)(k:Nat)(l:List (Int×Int))(hc:0<=c/\c<256)(hl:l.length<=900)(hI:∀p∈l,InI p)(hp:Hp):
 run cxX 65 [.sc (.int .u8 c),S k 2 (LP l)] hp=some ((Qp (1+c%16) gnew (l.map wd)).av (1+c%16) 2,hp):=by
 have m:∀x y,qs Tryz.prog .rem 5 x y (.int .u8 c) (.int .u8 16)=some (.int .u8 (c%16)):=by
  intro x y;rw[qP _ _ _ _ _ _ _ qc,qO hc.1]
 have w1:IntKind.i64.wrap (c%16)=c%16:=qj qc qc
 have w2:IntKind.i64.wrap (1+c%16)=1+c%16:=qj qc qc
 have cv:∀n:Int,Zc Tryz.prog 5 3 (.int .u8 n)=some (.int .i64 (IntKind.i64.wrap n)):=fun n=>qd
 have nw:=fun hp=>qtn (1+c%16) qc hp
 have lp:=fun z0 z1 z2 z3 z4 z5 z6 z7 z8 z9 z10=>qld (1+c%16) (rk k) l z0 z1 z2 z3 z4 z5 z6 z7 z8 z9 z10 qc hl hI hp l 0 [] gnew rfl rfl (zak _)
 simp at lp
 rw[E65]
 simp[m,cv,w1,w2,nw,qm,qvf]
 exact lp _ _ _ _ _ _ _ _ _ _ _
theorem GR.same{K:Int}{F H:List Nat}{g o:Gs}(hg:GR K F g)(ho:GR K H o)(h:F.Perm H):zhr K K g o:=by
 refine⟨rfl,?_,⟨?_,?_,?_,?_,?_,?_⟩,?_,?_,?_⟩
 ·rw[hg.M,ho.M,h.length_eq]
 ·rw[hg.e0,ho.e0,vN 0 h]
 ·rw[hg.e1,ho.e1,vN 1 h]
 ·rw[hg.e2,ho.e2,vN 2 h]
 ·rw[hg.e3,ho.e3,vN 3 h]
 ·rw[hg.e4,ho.e4,vN 4 h]
 ·rw[hg.e5,ho.e5,vN 5 h]
 ·rw[hg.klo,ho.klo,qp1 h]
 ·rw[hg.khi,ho.khi,qk9 h]
 ·rw[hg.keys,ho.keys,qjt (h.map kw)]
theorem zbp{l:List (Int×Int)}(h:∀p∈l,InI p):Ws (l.map wd):=by
 intro w hw
 obtain⟨p,hp,rfl⟩:=ziu.mp hw
 exact(qsn (h p hp)).1
abbrev Cv(R C:Int)(x:AV):AV:=.agg [.sc (.int .i64 R),.sc (.int .i64 C),x]
def ZH(R C:Int)(l:List Int):Int:=if R<1\/8<R\/C<1\/256<C then 2 else if(l.length:Int)≠R*C then 6 else 0
theorem qlk{R C:Int}(hR:1<=R/\R<=8)(hC:1<=C/\C<=256):0<=R*C/\R*C<=2048:=by
 obtain⟨r,rfl⟩:∃r:Nat,R=r:=⟨R.toNat,qc⟩
 obtain⟨c,rfl⟩:∃c:Nat,C=c:=⟨C.toNat,qc⟩
 have h:r*c<=8*256:=zjn qc qc
 have e:(r:Int)*(c:Int)=((r*c:Nat):Int):=qe
 rw[e];omega
theorem qkb(R C:Int)(l:List Int)(k:Nat)(hl:l.length<=1000000)(hp:Hp):run cxX 58 [Cv R C (S k 1 (LI .u32 l))] hp=some (.sc (.int .i64 (ZH R C l)),hp):=by
 rw[E58]
 unfold ZH
 have b2:B58_2 hp=some (.sc (.int .i64 2),hp):=by rw[qjc];simp
 by_cases h1:R<1
 ·simp[qi,h1,b2]
 ·by_cases h2:8<R
  ·simp[qi,h1,h2,b2]
  ·by_cases h3:C<1
   ·simp[qi,h1,h2,h3,b2]
   ·by_cases h4:256<C
    ·simp[qi,h1,h2,h3,h4,b2]
    ·have m:=qlk (R:=R) (C:=C) qc qc
     have w:IntKind.i64.wrap (R*C)=R*C:=qj qc qc
     by_cases h5:(l.length:Int)=R*C
     ·simp[qi,qt,h1,h2,h3,h4,w,h5,JS]
     ·simp[qi,qt,h1,h2,h3,h4,w,h5,JS]
theorem Wy(R C:Int)(l:List Int)(b:Nat)(hl:l.length<=1000000)(hp:Hp):run cxX 58 [Cv R C (.ms b 0 0 l.length 1)] hp=some (.sc (.int .i64 (ZH R C l)),hp):=by
 rw[E58]
 unfold ZH
 have b2:B58_2 hp=some (.sc (.int .i64 2),hp):=by rw[qjc];simp
 by_cases h1:R<1
 ·simp[qi,h1,b2]
 ·by_cases h2:8<R
  ·simp[qi,h1,h2,b2]
  ·by_cases h3:C<1
   ·simp[qi,h1,h2,h3,b2]
   ·by_cases h4:256<C
    ·simp[qi,h1,h2,h3,h4,b2]
    ·have m:=qlk (R:=R) (C:=C) qc qc
     have w:IntKind.i64.wrap (R*C)=R*C:=qj qc qc
     by_cases h5:(l.length:Int)=R*C
     ·simp[qi,qt,h1,h2,h3,h4,w,h5,JS]
     ·simp[qi,qt,h1,h2,h3,h4,w,h5,JS]
theorem qtt(R C:Int)(hR:1<=R/\R<=8)(hC:1<=C/\C<=256)(hp:Hp):run cxX 131 [.sc (.int .i64 R),.sc (.int .i64 C)] hp=
 some (.tup [Cv R C (.ms hp.next 0 0 (R*C).toNat 1),.sc (.bool true)],hp.new (LI .u32 (List.replicate (R*C).toNat 0))):=by
 rw[E131]
 have h1:¬(R<1):=qc
 have h2:¬(8<R):=qc
 have h3:¬(C<1):=qc
 have h4:¬(256<C):=qc
 have m:=qlk hR hC
 have w:IntKind.i64.wrap (R*C)=R*C:=qj qc qc
 have mk:yc 4 1 (R*C) (R*C)=some ():=QG qc qc qf qf
 have z:=Qy .u32 (R*C).toNat
 rw[zj9 m.1]at z
 simp[h1,h2,h3,h4,qsc,w,mk,z,qo,qm]
theorem Xa(C h r:Int)(hC:1<=C/\C<=256)(hr:0<=r/\r<=8):∃v:Nat,(v:Int)<C/\∀(R x:AV) hp,run cxX 198 [.agg [R,.sc (.int .i64 C),x],.sc (.int .u64 h),.sc (.int .i64 r)] hp=some (.sc (.int .i64 (v:Int)),hp):=by
 obtain⟨z1,s1⟩:∃z:Int,∀t x y,qs Tryz.prog .shr t x y (.int .u64 h) (.int .u64 32)=some (.int .u64 z):=⟨_,fun t x y=>jF _ _ _ _ _ _ _ _ qc⟩
 have w1:IntKind.i64.wrap (2*r)=2*r:=qj qc qc
 have w2:IntKind.i64.wrap (2*r+1)=2*r+1:=qj qc qc
 have w3:IntKind.u64.wrap (2*r+1)=2*r+1:=qx qc qc
 obtain⟨z2,s2⟩:∃z:Int,∀t x y,qs Tryz.prog .mul t x y (.int .u64 z1) (.int .u64 (2*r+1))=some (.int .u64 z):=⟨_,fun t x y=>VO _ _ _ _ _ _ _⟩
 obtain⟨z3,s3⟩:∃z:Int,∀t x y,qs Tryz.prog .and t x y (.int .u64 h) (.int .u64 4294967295)=some (.int .u64 z):=⟨_,fun t x y=>ja _ _ _ _ _ _ _⟩
 obtain⟨z4,s4⟩:∃z:Int,∀t x y,qs Tryz.prog .add t x y (.int .u64 z2) (.int .u64 z3)=some (.int .u64 z):=⟨_,fun t x y=>Qv _ _ _ _ _ _ _⟩
 obtain⟨z5,s5⟩:∃z:Int,∀t x y,qs Tryz.prog .shr t x y (.int .u64 z4) (.int .u64 17)=some (.int .u64 z):=⟨_,fun t x y=>jF _ _ _ _ _ _ _ _ qc⟩
 obtain⟨z6,b6,s6⟩:∃z:Int,(0<=z/\z<18446744073709551616)/\∀t x y,qs Tryz.prog .xor t x y (.int .u64 z4) (.int .u64 z5)=some (.int .u64 z):=⟨_,by rw[IntKind.wrap_u64];omega,fun t x y=>yD _ _ _ _ _ _ _⟩
 have m1:max C 1=C:=qc
 have w4:IntKind.u64.wrap C=C:=qx qc qc
 have hm:0<=z6%C/\z6%C<C:=⟨Int.emod_nonneg _ qc,Int.emod_lt_of_pos _ qc⟩
 have s7:∀t x y,qs Tryz.prog .rem t x y (.int .u64 z6) (.int .u64 C)=some (.int .u64 (z6%C)):=by
  intro t x y;rw[qP _ _ _ _ _ _ _ qc,qO b6.1]
 have w5:IntKind.i64.wrap (z6%C)=z6%C:=qj qc qc
 refine⟨(z6%C).toNat,qc,fun R x hp=>?_⟩
 rw[zj9 hm.1,E198]
 generalize z6%C=z7 at*
 simp[qi,s1,w1,w2,w3,s2,s3,s4,s5,s6,m1,w4,s7,w5,-VO,-ja,-Qv,-yD]
 simp[w1,w2,w3,s2,s3,s4,s5,s6,w4,s7,w5,-ja,-yD]
noncomputable def ZF(C h r:Int):Nat:=if hh:(1<=C/\C<=256)/\0<=r/\r<=8 then(Xa C h r hh.1 hh.2).choose else 0
theorem za2{C h r:Int}(hC:1<=C/\C<=256)(hr:0<=r/\r<=8):(ZF C h r:Int)<C/\∀(R x:AV) hp,run cxX 198 [.agg [R,.sc (.int .i64 C),x],.sc (.int .u64 h),.sc (.int .i64 r)] hp=some (.sc (.int .i64 (ZF C h r:Int)),hp):=by
 unfold ZF
 rw[dif_pos ⟨hC,hr⟩]
 exact(Xa C h r hC hr).choose_spec
def cmrg:List Int->List Int->List Int
 |[],_=>[]
 |x::a,[]=>x::a
 |x::a,y::b=>jB x y::cmrg a b
@[simp] theorem zey : ∀ a, cmrg a [] = a
 |[]=>rfl
 |_::_=>rfl
abbrev JO(l:List Int):Prop:=∀n∈l,0<=n/\n<4294967296
theorem qub{a b:Int}(ha:0<=a/\a<4294967296)(hb:0<=b/\b<4294967296):0<=jB a b/\jB a b<4294967296:=by
 unfold jB;split<;>omega
noncomputable def Xm(C h n:Int)(l:List Int)(r:Nat):List Int:=l.set (r*C.toNat+ZF C h r) (jB (l.getD (r*C.toNat+ZF C h r) 0) n)
noncomputable def JG(C h n:Int)(l:List Int)(rs:List Nat):List Int:=rs.foldl (Xm C h n) l
noncomputable def Qa(R C h n:Int)(l:List Int):List Int:=if ZH R C l=0 then JG C h n l (List.range' 0 R.toNat)else l
theorem qbp(C h n:Int)(l:List Int)(r:Nat):(Xm C h n l r).length=l.length:=by simp[Xm]
theorem qbn(C h n:Int):∀(rs:List Nat) (l:List Int),(JG C h n l rs).length=l.length
 |[],_=>rfl
 |r::rs,l=>by
  show(JG C h n (Xm C h n l r) rs).length=_
  rw[qbn C h n rs,qbp]
theorem VF(R C h n:Int)(l:List Int):(Qa R C h n l).length=l.length:=by
 unfold Qa;split
 ·exact qbn _ _ _ _ _
 ·rfl
theorem qhs{l:List Int}(h:JO l)(i:Nat):0<=l.getD i 0/\l.getD i 0<4294967296:=by
 by_cases hi:i<l.length
 ·have:=h l[i] (zi6 hi)
  simpa[hi]using this
 ·simp[hi]
theorem qbo{C h n:Int}{l:List Int}{r:Nat}(hl:JO l)(hn:0<=n/\n<4294967296):JO (Xm C h n l r):=by
 intro x hx
 rcases zka hx with hx|rfl
 ·exact hl x hx
 ·exact qub (qhs hl _) hn
theorem qbm{C h n:Int}(hn:0<=n/\n<4294967296):∀(rs:List Nat) {l:List Int},JO l->JO (JG C h n l rs)
 |[],_,hl=>hl
 |r::rs,l,hl=>qbm hn rs (qbo hl hn)
theorem VE{R C h n:Int}{l:List Int}(hn:0<=n/\n<4294967296)(hl:JO l):JO (Qa R C h n l):=by
 unfold Qa;split
 ·exact qbm hn _ hl
 ·exact hl
theorem qic(R C:Int)(q0 q1 q2:AV)(b:Nat)(d:List Int)(hp:Hp)(hb:hp.rd b 0=some (LI .u32 d)):
 B132_9 [q0,q1,q2] [.sc (.int .i64 R),.sc (.int .i64 C),.ms b 0 0 d.length 1] hp=some (Cv R C (S 0 1 (LI .u32 d)),hp.del b):=by
 have f:=ZA .u32 d hp b hb
 rw[qcz]
 simp[qo,qm,f]
theorem qbl(R C h n:Int)(q0 q1 q2:AV)(x:AV)(b:Nat)(hR:1<=R/\R<=8)(hC:1<=C/\C<=256)(hn:0<=n/\n<4294967296):∀(m i:Nat) (l:List Int) (hp:Hp),R=(i+m:Nat)->(l.length:Int)=R*C->JO l->hp.rd b 0=some (LI .u32 l)->
 ∃hp',B132_4 (.int .u64 h) (.int .u32 n) (.int .i64 R) (.int .i64 i) [.sc (.int .i64 R),.sc (.int .i64 C),x] [q0,q1,q2] [.sc (.int .i64 R),.sc (.int .i64 C),.ms b 0 0 l.length 1] hp=some (Cv R C (S 0 1 (LI .u32 (JG C h n l (List.range' i m)))),hp'):=by
 intro m
 induction m with
 |zero=>
  intro i l hp hi hlen hl hb
  have hlt:¬((i:Int)<R):=qc
  refine⟨hp.del b,?_⟩
  rw[qc0]
  simp only[cmb,qil,hlt,decide_false,jZ,zib,cond_false]
  exact qic R C q0 q1 q2 b l hp hb
 |succ m ih=>
  intro i l hp hi hlen hl hb
  have hlt:(i:Int)<R:=qc
  obtain⟨c,rfl⟩:∃c:Nat,C=c:=⟨C.toNat,qc⟩
  obtain⟨pb,pc⟩:=za2 (h:=h) (r:=(i:Int)) hC qc
  have hRc:(R*(c:Int))=(((i+(m+1))*c:Nat):Int):=by rw[hi];simp
  have hj:i*c+ZF c h i<l.length:=by
   have e1:(i+(m+1))*c=i*c+c+m*c:=by rw[zk6,zk6];omega
   have e2:l.length=(i+(m+1))*c:=qc
   have e3:ZF c h i<c:=qc
   omega
  have hl2:l.length<=2048:=by have:=qlk hR hC;omega
  have w1:IntKind.i64.wrap ((i:Int)*(c:Int))=((i*c:Nat):Int):=by
   have e:(i:Int)*(c:Int)=((i*c:Nat):Int):=qe
   rw[e,qj qc qc]
  have w2:IntKind.i64.wrap (((i*c:Nat):Int)+(ZF c h i:Int))=((i*c+ZF c h i:Nat):Int):=by rw[qj qc qc];omega
  have w3:IntKind.i64.wrap ((i:Int)+((1:Nat):Int))=((i+1:Nat):Int):=qh
  have ed:Xm c h n l i=l.set (i*c+ZF c h i) (jB (l.getD (i*c+ZF c h i) 0) n):=by unfold Xm;rw[zik]
  have ef:JG c h n l (List.range' i (m+1))=JG c h n (Xm c h n l i) (List.range' (i+1) m):=by rw[List.range'_succ];rfl
  have gs':l[i*c+ZF c h i]?=some (l.getD (i*c+ZF c h i) 0):=by simp[hj]
  have hgd:=qhs hl (i*c+ZF c h i)
  have hu:=qbo (C:=c) (h:=h) (n:=n) (r:=i) hl hn
  have hcl:=qbp c h n l i
  rw[ed]at hu hcl ef
  rw[ef]
  generalize i*c+ZF c h i=j at*
  generalize l.getD j 0=g at*
  have pl:=fun hp=>xh g n hgd hn hp
  have ix:=za .i64 hj
  have pt:=yU .u32 l j (jB g n) hj
  obtain⟨hp',hh⟩:=ih (i+1) (l.set j (jB g n)) (hp.put b 0 (LI .u32 (l.set j (jB g n)))) qc (by rw[hcl];exact hlen) hu (qw _ _ _)
  refine⟨hp',?_⟩
  rw[hcl]at hh
  have oa:∀v w,jN [AV.sc v,AV.sc w] []=some ():=fun v w=>by rw[qpx];exact if_pos ⟨qe,qe⟩
  have gn:qo [AV.sc (.int .i64 R),AV.sc (.int .i64 (c:Int)),x] 0 3=some [AV.sc (.int .i64 R),AV.sc (.int .i64 (c:Int)),x]:=rfl
  rw[qc0]
  simp only[cmb,qil,hlt,decide_true,jZ,zib,cond_true,qi,zkl,zkx,wL,VO,w1,gn,zjc,zkc,qty,zdg,zgk,pc,qux,Qv,w2,qt,zdh,kL,ix,wI,ZG,kR,hb,zlt,ziw,Zy?,gs',zkm,oa,pl,pt,zj6,w3]
  exact hh
theorem qtu(R C h n:Int)(l:List Int)(k:Nat)(hn:0<=n/\n<4294967296)(hl:l.length<=1000000)(h32:JO l)(hp:Hp):
 ∃t hp',run cxX 132 [Cv R C (S k 1 (LI .u32 l)),.sc (.int .u64 h),.sc (.int .u32 n)] hp=some (Cv R C (S t 1 (LI .u32 (Qa R C h n l))),hp'):=by
 rw[E132]
 have ck:=fun hp=>qkb R C l (rk k) hl hp
 by_cases hc:ZH R C l=0
 ·have hc':=hc
  unfold ZH at hc'
  split at hc'
  ·cases hc'
  ·split at hc'
   ·cases hc'
   ·rename_i h1 h2
    have hlen:(l.length:Int)=R*C:=qc
    have hne:l≠[]:=by
     intro e
     subst e
     obtain⟨r,rfl⟩:∃r:Nat,R=r:=⟨R.toNat,qc⟩
     obtain⟨c,rfl⟩:∃c:Nat,C=c:=⟨C.toNat,qc⟩
     have e:(r:Int)*(c:Int)=((r*c:Nat):Int):=qe
     rw[e]at hlen
     have:0<r*c:=zly qc qc
     simp at hlen
     omega
    have n1:=fun k hp=>kY .u32 l k 4 qf hl hne hp
    obtain⟨hp',hh⟩:=qbl R C h n (.sc (.int .i64 0)) (.sc (.int .i64 0)) (S 2 1 []) (S (rk k) 1 (LI .u32 l)) hp.next qc qc hn R.toNat 0 l (hp.new (LI .u32 l)) qc hlen h32 (qF _ _)
    refine⟨0,hp',?_⟩
    have e:Qa R C h n l=JG C h n l (List.range' 0 R.toNat):=by unfold Qa;rw[if_pos hc]
    simp at hh
    simp[qi,qt,qo,n1,qm,ck,hc,e,hh]
 ·have e:Qa R C h n l=l:=by unfold Qa;rw[if_neg hc]
  by_cases hne:l=[]
  ·subst hne
   have n1:=fun k hp=>qit 4 k hp
   refine⟨0,hp,?_⟩
   have e9:∀(q0 q1 q2:AV),B132_9 [q0,q1,q2] [.sc (.int .i64 R),.sc (.int .i64 C),S 0 1 []] hp=some (Cv R C (S 0 1 []),hp):=by
    intro q0 q1 q2
    rw[qcz]
    simp[qo,qm]
   simp at ck
   simp[qi,qt,qo,n1,qm,ck,hc,e,e9]
  ·have n1:=fun k hp=>kY .u32 l k 4 qf hl hne hp
   have f:=qic R C (.sc (.int .i64 0)) (.sc (.int .i64 0)) (S 2 1 []) hp.next l (hp.new (LI .u32 l)) (qF _ _)
   refine⟨0,(hp.new (LI .u32 l)).del hp.next,?_⟩
   simp[qi,qt,qo,n1,qm,ck,hc,e,f]
theorem qga(R C h n:Int)(l:List Int)(b:Nat)(hn:0<=n/\n<4294967296)(hl:l.length<=1000000)(h32:JO l)(hc:ZH R C l=0)(hp:Hp)(hb:hp.rd b 0=some (LI .u32 l)):
 ∃t hp',run cxX 132 [Cv R C (.ms b 0 0 l.length 1),.sc (.int .u64 h),.sc (.int .u32 n)] hp=some (Cv R C (S t 1 (LI .u32 (Qa R C h n l))),hp'):=by
 rw[E132]
 have ck:=fun hp=>Wy R C l b hl hp
 have hc':=hc
 unfold ZH at hc'
 split at hc'
 ·cases hc'
 ·split at hc'
  ·cases hc'
  ·rename_i h1 h2
   have hlen:(l.length:Int)=R*C:=qc
   have hne:l≠[]:=by
    intro e
    subst e
    obtain⟨r,rfl⟩:∃r:Nat,R=r:=⟨R.toNat,qc⟩
    obtain⟨c,rfl⟩:∃c:Nat,C=c:=⟨C.toNat,qc⟩
    have e:(r:Int)*(c:Int)=((r*c:Nat):Int):=qe
    rw[e]at hlen
    have:0<r*c:=zly qc qc
    simp at hlen
    omega
   have n1:=qiu .u32 l (.ms b 0 0 l.length 1) 4 qf hl hne hp (qs4 .u32 l hp b hb)
   obtain⟨hp',hh⟩:=qbl R C h n (.sc (.int .i64 0)) (.sc (.int .i64 0)) (S 2 1 []) (.ms b 0 0 l.length 1) hp.next qc qc hn R.toNat 0 l (hp.new (LI .u32 l)) qc hlen h32 (qF _ _)
   refine⟨0,hp',?_⟩
   have e:Qa R C h n l=JG C h n l (List.range' 0 R.toNat):=by unfold Qa;rw[if_pos hc]
   simp at hh
   simp[qi,qt,qo,n1,qm,ck,hc,e,hh]
noncomputable def yB(R C:Int)(a:List Int)(l:List (Int×Int)):List Int:=l.foldl (fun a p=>Qa R C p.1 p.2 a) a
theorem qbj(R C:Int):∀(l:List (Int×Int)) (a:List Int),(yB R C a l).length=a.length
 |[],_=>rfl
 |p::l,a=>by
  show(yB R C (Qa R C p.1 p.2 a) l).length=_
  rw[qbj R C l,VF]
theorem qbi(R C:Int):∀{l:List (Int×Int)} {a:List Int},JO a->(∀p∈l,0<=p.2/\p.2<4294967296)->JO (yB R C a l)
 |[],_,h,_=>h
 |p::l,a,h,hl=>qbi R C (l:=l) (VE (hl p qe) h) (fun q hq=>hl q (by simp[hq]))
theorem qwn(R C:Int)(q0 q1 q2:AV)(l:List (Int×Int))(k:Nat)(hl:l.length<=1000000)(h32:∀p∈l,0<=p.2/\p.2<4294967296):∀(r:List (Int×Int)) (i t:Nat) (a:List Int) (hp:Hp),l.drop i=r->a.length<=1000000->JO a->
 ∃t' hp',B64_3 (S k 2 (LQ .u64 .u32 l)) (.int .i64 l.length) (.int .i64 i) [q0,q1,q2] [.sc (.int .i64 R),.sc (.int .i64 C),S t 1 (LI .u32 a)] hp=some (Cv R C (S t' 1 (LI .u32 (yB R C a r))),hp'):=by
 intro r
 induction r with
 |nil=>
  intro i t a hp hr ha hu
  have:=qC hr
  have hlt:¬((i:Int)<(l.length:Int)):=qc
  refine⟨rk t,hp,?_⟩
  rw[JR]
  simp[hlt,qo,qm,yB]
 |cons x r ih=>
  intro i t a hp hr ha hu
  obtain⟨e1,e2,hi,e3⟩:=qv hr
  have hx:=h32 x (zig e1)
  have hw:IntKind.i64.wrap ((i:Int)+1)=((i+1:Nat):Int):=qh
  obtain⟨t1,hp1,ha1⟩:=qtu R C x.1 x.2 a (rk t) hx ha hu hp
  obtain⟨t',hp',h⟩:=ih (i+1) t1 (Qa R C x.1 x.2 a) hp1 e2 (by rw[VF];exact ha) (VE hx hu)
  refine⟨t',hp',?_⟩
  have ix:=qvv .u64 .u32 k e1
  rw[JR]
  simp at h hw
  have ef:yB R C a (x::r)=yB R C (Qa R C x.1 x.2 a) r:=rfl
  simp[hi,ix,qi,qo,qm,ha1,hw,h,ef]
theorem qyp(a b:Int)(l:List (Int×Int))(k:Nat)(ha:0<=a/\a<256)(hb:0<=b/\b<256)(hl:l.length<=1000000)(h32:∀p∈l,0<=p.2/\p.2<4294967296)(hp:Hp):
 ∃t hp',run cxX 64 [.sc (.int .u8 a),.sc (.int .u8 b),S k 2 (LQ .u64 .u32 l)] hp=some (Cv (1+a%8) (1+b%40) (S t 1 (LI .u32 (yB (1+a%8) (1+b%40) (List.replicate ((1+a%8)*(1+b%40)).toNat 0) l))),hp'):=by
 have h1:∀t x y,qs Tryz.prog .rem t x y (.int .u8 a) (.int .u8 8)=some (.int .u8 (a%8)):=by
  intro t x y;rw[qP _ _ _ _ _ _ _ qc,qO ha.1]
 have h2:∀t x y,qs Tryz.prog .rem t x y (.int .u8 b) (.int .u8 40)=some (.int .u8 (b%40)):=by
  intro t x y;rw[qP _ _ _ _ _ _ _ qc,qO hb.1]
 have w1:IntKind.i64.wrap (a%8)=a%8:=qj qc qc
 have w2:IntKind.i64.wrap (1+a%8)=1+a%8:=qj qc qc
 have w3:IntKind.i64.wrap (b%40)=b%40:=qj qc qc
 have w4:IntKind.i64.wrap (1+b%40)=1+b%40:=qj qc qc
 have nw:=fun hp=>qtt (1+a%8) (1+b%40) qc qc hp
 have m:=qlk (R:=1+a%8) (C:=1+b%40) qc qc
 obtain⟨R,hR⟩:∃R,R=1+a%8:=⟨_,rfl⟩
 obtain⟨C,hC⟩:∃C,C=1+b%40:=⟨_,rfl⟩
 rw[<-hR]at nw m w2⊢
 rw[<-hC]at nw m w4⊢
 obtain⟨z,hz⟩:∃z,z=List.replicate (R*C).toNat (0:Int):=⟨_,rfl⟩
 have zl:z.length=(R*C).toNat:=by rw[hz];simp
 have zu:JO z:=fun n hn=>by rw[hz]at hn;have:=zje hn;omega
 have zc:ZH R C z=0:=by unfold ZH;rw[if_neg qc,if_neg (by rw[zl];omega)]
 rw[<-hz]at nw⊢
 rw[<-zl]at nw
 have ln:=zd1 .u64 .u32
 have key:∃t hp',B64_3 (S (rk k) 2 (LQ .u64 .u32 l)) (.int .i64 l.length) (.int .i64 (0:Nat)) [.sc (.int .i64 0),.sc (.int .i64 0),S 2 1 []] [.sc (.int .i64 R),.sc (.int .i64 C),.ms hp.next 0 0 z.length 1] (hp.new (LI .u32 z))=some (Cv R C (S t 1 (LI .u32 (yB R C z l))),hp'):=by
  cases l with
  |nil=>
   have f:=ZA .u32 z (hp.new (LI .u32 z)) hp.next (qF _ _)
   refine⟨0,(hp.new (LI .u32 z)).del hp.next,?_⟩
   rw[JR]
   simp[qm,qo,f,yB]
  |cons x r=>
   have hx:=h32 x qe
   have ix:=qvv (l:=x::r) (i:=0) (p:=x) .u64 .u32 (rk k) rfl
   obtain⟨t1,hp1,ha1⟩:=qga R C x.1 x.2 z hp.next hx (by rw[zl];omega) zu zc (hp.new (LI .u32 z)) (qF _ _)
   obtain⟨t,hp2,h⟩:=qwn R C (.sc (.int .i64 0)) (.sc (.int .i64 0)) (S 2 1 []) (x::r) (rk k) hl h32 r 1 t1 (Qa R C x.1 x.2 z) hp1 rfl (by rw[VF,zl];omega) (VE hx zu)
   refine⟨t,hp2,?_⟩
   have hw:IntKind.i64.wrap (((0:Nat):Int)+1)=((1:Nat):Int):=rfl
   have hlt:((0:Nat):Int)<((x::r).length:Int):=qe
   have ef:yB R C z (x::r)=yB R C (Qa R C x.1 x.2 z) r:=rfl
   have gn:qo [AV.sc (.int .i64 R),AV.sc (.int .i64 C),.ms hp.next 0 0 z.length 1] 0 3=some [AV.sc (.int .i64 R),AV.sc (.int .i64 C),.ms hp.next 0 0 z.length 1]:=rfl
   generalize(x::r).length=n at*
   generalize LQ .u64 .u32 (x::r)=q at*
   have hn:0<n:=by simpa using hlt
   rw[JR]
   simp at ix h
   simp[hn,ix,qi,qo,qm,ha1,ef,h]
 obtain⟨t,hp',h⟩:=key
 refine⟨t,hp',?_⟩
 rw[E64]
 simp at h
 simp[h1,h2,w1,w2,w3,w4,<-hR,<-hC,nw,qm,ln,h]
structure GN where
 M:Int
 e0:Int
 e1:Int
 e2:Int
 e3:Int
 e4:Int
 e5:Int
 lo:Nat
 hi:Nat
 L:List Nat
deriving DecidableEq
def Gs.nf(g:Gs):GN:=⟨g.M,g.e0,g.e1,g.e2,g.e3,g.e4,g.e5,kw g.lo,kw g.hi,g.L.map kw⟩
structure Gs.W (g : Gs) : Prop where
 M:qW g.M
 e0:qW g.e0
 e1:qW g.e1
 e2:qW g.e2
 e3:qW g.e3
 e4:qW g.e4
 e5:qW g.e5
 lo:g.lo<18446744073709551616
 hi:g.hi<18446744073709551616
 L:Ws g.L
 len:g.L.length<=100000
def WE:List Nat->Int
 |[]=>0
 |[_]=>0
 |x::y::r=>if y<x then 8 else WE (y::r)
def nanK:Nat:=18444492273895866369
def zb7(g:GN):Int:=if g.lo=nanK\/g.hi=nanK then 4 else 0
def Yx(K:Int)(g:GN):Int:=if K<1\/16<K\/K<(g.L.length:Int)then 2 else if WE g.L=0 then zb7 g else 8
theorem qmm:∀{l:List Nat},Up l->WE l=0
 |[],_=>rfl
 |[_],_=>rfl
 |x::y::r,h=>by
  have h':=zii.mp h
  have hxy:=h'.1 y qe
  show(if y<x then(8:Int)else WE (y::r))=0
  rw[if_neg qc]
  exact qmm h'.2
theorem qm3:∀{l:List Nat},WE l=0->Up l
 |[],_=>List.Pairwise.nil
 |[_],_=>by simp
 |x::y::r,h=>by
  have h:(if y<x then(8:Int)else WE (y::r))=0:=h
  split at h
  ·cases h
  ·rename_i hxy
   have ih:=qm3 h
   have ih':=zii.mp ih
   refine zii.mpr ⟨fun n hn=>?_,ih⟩
   rcases zie.mp hn with rfl|hn
   ·omega
   ·have:=ih'.1 n hn;omega
theorem qvj{w:Nat}(h:w<18446744073709551616):yp w↔kw w=nanK:=by
 constructor
 ·intro hn;exact zd2 hn
 ·intro he
  by_cases hn:yp w
  ·exact hn
  ·have:=qp6 h hn
   rw[he]at this
   exact absurd this qf
def zal(K:Int)(g o:GN):GN:=⟨jB g.M o.M,jB g.e0 o.e0,jB g.e1 o.e1,jB g.e2 o.e2,jB g.e3 o.e3,jB g.e4 o.e4,jB g.e5 o.e5,min g.lo o.lo,max g.hi o.hi,(mk g.L o.L).take K.toNat⟩
theorem wv{a b:Int}(ha:qW a)(hb:qW b):qW (jB a b):=by
 unfold qW at *;unfold jB;split<;>omega
theorem zeh(K:Int)(g o:Gs):(gmg K g o).nf=zal K g.nf o.nf:=by
 simp only[Gs.nf,gmg,zal,qni,qnj,<-qnp _ _ _ rfl,zlo]
theorem zg6{K:Int}{g o:Gs}(hK:K<=100000)(hg:g.W)(ho:o.W):(gmg K g o).W where
 M:=wv hg.M ho.M
 e0:=wv hg.e0 ho.e0
 e1:=wv hg.e1 ho.e1
 e2:=wv hg.e2 ho.e2
 e3:=wv hg.e3 ho.e3
 e4:=wv hg.e4 ho.e4
 e5:=wv hg.e5 ho.e5
 lo:=qns hg.lo ho.lo
 hi:=qnt hg.hi ho.hi
 L:=fun w hw=>by
  rcases qu7 w _ _ _ rfl (zjs hw)with h|h
  ·exact hg.L w h
  ·exact ho.L w h
 len:=by
  show((gm g.L o.L).take K.toNat).length<=100000
  rw[ziy];omega
theorem XY{K:Int}{g:GN}:Yx K g=0↔(1<=K/\K<=16)/\(g.L.length:Int)<=K/\Up g.L/\g.lo≠nanK/\g.hi≠nanK:=by
 unfold Yx zb7
 constructor
 ·intro h
  split at h
  ·cases h
  ·split at h
   ·split at h
    ·cases h
    ·rename_i h1 h2 h3
     exact⟨qc,qc,qm3 h2,fun e=>h3 (.inl e),fun e=>h3 (.inr e)⟩
   ·cases h
 ·rintro⟨h1,h2,h3,h4,h5⟩
  rw[if_neg qc,if_pos (qmm h3),if_neg (fun e=>e.elim h4 h5)]
theorem qlc{K:Int}{g o:GN}(hg:Yx K g=0)(ho:Yx K o=0):Yx K (zal K g o)=0:=by
 rw[XY]at*
 obtain⟨h1,h2,h3,h4,h5⟩:=hg
 obtain⟨f1,f2,f3,f4,f5⟩:=ho
 refine⟨h1,?_,?_,?_,?_⟩
 ·simp only[zal,ziy];omega
 ·exact List.Pairwise.sublist (zml _ _) (qu5 _ _ h3 f3)
 ·show min g.lo o.lo≠nanK;omega
 ·show max g.hi o.hi≠nanK;omega
def GN.Pos(g:GN):Prop:=qW g.M/\qW g.e0/\qW g.e1/\qW g.e2/\qW g.e3/\qW g.e4/\qW g.e5
theorem Gs.W.pos{g:Gs}(h:g.W):g.nf.Pos:=⟨h.M,h.e0,h.e1,h.e2,h.e3,h.e4,h.e5⟩
theorem in0:qW 0:=⟨qf,qf⟩
theorem qvy:gnew.W:=⟨in0,in0,in0,in0,in0,in0,in0,qf,qf,by simp[gnew,Ws],qf⟩
structure SkN where
 kind:Int
 set:List Int
 K:Int
 hs:List Int
 P:Int
 rg:List Int
 B:Int
 H:Int
 bs:List Int
 R:Int
 C:Int
 cs:List Int
 gK:Int
 g:GN
deriving DecidableEq
def gz:Gs:=⟨0,0,0,0,0,0,0,0,0,[]⟩
theorem qqb:gz.W:=⟨in0,in0,in0,in0,in0,in0,in0,qf,qf,by simp[gz,Ws],qf⟩
def kZ:SkN:=⟨0,[],0,[],0,[],0,0,[],0,0,[],0,gz.nf⟩
def skA(x:SkN)(g:Gs)(a b c d e f:Nat):AV:=.agg [.sc (.int .u8 x.kind),S a 1 (LI .u32 x.set),.sc (.int .i64 x.K),S b 1 (LI .u64 x.hs),.sc (.int .i64 x.P),S c 1 (LI .u8 x.rg),.sc (.int .i64 x.B),.sc (.int .i64 x.H),S d 1 (LI .u32 x.bs),.sc (.int .i64 x.R),.sc (.int .i64 x.C),S e 1 (LI .u32 x.cs),
 .sc (.int .i64 x.gK),.sc (.int .u32 g.M),.sc (.int .u32 g.e0),.sc (.int .u32 g.e1),.sc (.int .u32 g.e2),.sc (.int .u32 g.e3),.sc (.int .u32 g.e4),.sc (.int .u32 g.e5),fl g.lo,fl g.hi,S f 1 (LF g.L)]
def ZQ(x:SkN)(v:AV):Prop:=∃g a b c d e f,g.W/\g.nf=x.g/\v=skA x g a b c d e f
structure SkN.W (x : SkN) : Prop where
 kind:0<=x.kind/\x.kind<256
 set:JO x.set
 setL:x.set.length<=100000
 hsL:x.hs.length<=100000
 rg:∀n∈x.rg,0<=n/\n<256
 rgL:x.rg.length<=100000
 bs:JO x.bs
 bsL:x.bs.length<=100000
 cs:JO x.cs
 csL:x.cs.length<=100000
theorem zgj:kZ.W:=⟨qf,by simp[kZ,JO],qf,qf,by simp[kZ],qf,by simp[kZ,JO],qf,by simp[kZ,JO],qf⟩
def skEq(x y:SkN):Prop:=x.kind=y.kind/\x.set=y.set/\(x.K=y.K/\x.hs=y.hs)/\(x.P=y.P/\x.rg=y.rg)/\(x.B=y.B/\x.H=y.H/\x.bs=y.bs)/\(x.R=y.R/\x.C=y.C/\x.cs=y.cs)/\x.gK=y.gK/\x.g=y.g
instance (x y : SkN) : Decidable (skEq x y) := by unfold skEq; infer_instance
def qg4(x:SkN):SkN:=
 if x.kind=0 then{kZ with kind:=x.kind,set:=x.set}
 else if x.kind=1 then{kZ with kind:=x.kind,K:=x.K,hs:=x.hs}
 else if x.kind=2 then{kZ with kind:=x.kind,P:=x.P,rg:=x.rg}
 else if x.kind=3 then{kZ with kind:=x.kind,B:=x.B,H:=x.H,bs:=x.bs}
 else if x.kind=4 then{kZ with kind:=x.kind,R:=x.R,C:=x.C,cs:=x.cs}
 else if x.kind=5 then{kZ with kind:=x.kind,gK:=x.gK,g:=x.g}
 else{kZ with kind:=x.kind}
def qlp(x:SkN):Int:=
 if 6<=x.kind then 5 else if x≠qg4 x then 4
 else if x.kind=0 then qyi x.set else if x.kind=1 then zaa x.K x.hs else if x.kind=2 then zag x.P x.rg else if x.kind=3 then VS x.B x.H x.bs else if x.kind=4 then ZH x.R x.C x.cs else Yx x.gK x.g
theorem kc{x:SkN}{g:Gs}(gw:g.W)(gn:g.nf=x.g)(a b c d e f:Nat):ZQ x (skA x g a b c d e f):=⟨g,a,b,c,d,e,f,gw,gn,rfl⟩
theorem ZQ.vl{x:SkN}{v:AV}(h:ZQ x v):vlF v=true/\vlV v=true:=by
 obtain⟨g,a,b,c,d,e,f,gw,gn,rfl⟩:=h
 unfold skA
 constructor<;>simp
theorem ZQ.ro{x:SkN}{v:AV}(h:ZQ x v):ZQ x (ro v):=by
 obtain⟨g,a,b,c,d,e,f,gw,gn,rfl⟩:=h
 refine⟨g,rk a,rk b,rk c,rk d,rk e,rk f,gw,gn,?_⟩
 simp[skA]
theorem YD{B:Int}:∀(l:List Int) (p:Option Int),YF B p l=0->(match p with|none=>jS l|some q=>jS (q::l))/\∀n∈l,n<B
 |[],none,_=>⟨List.Pairwise.nil,qe⟩
 |[],some q,_=>⟨qe,qe⟩
 |x::l,p,h=>by
  unfold YF at h
  split at h
  ·cases h
  ·rename_i h1
   split at h
   ·have ih:=YD l (some x) h
    refine⟨ih.1,fun n hn=>?_⟩
    rcases zie.mp hn with rfl|hn
    ·omega
    ·exact ih.2 n hn
   ·split at h
    ·cases h
    ·rename_i q h2
     have ih:=YD l (some x) h
     refine⟨?_,fun n hn=>?_⟩
     ·have hr:jS (x::l):=ih.1
      refine zii.mpr ⟨fun n hn=>?_,hr⟩
      rcases zie.mp hn with rfl|hn
      ·omega
      ·have:=(zii.mp hr).1 n hn;omega
     ·rcases zie.mp hn with rfl|hn
      ·omega
      ·exact ih.2 n hn
theorem qho{B H:Int}{l:List Int}(h:VS B H l=0)(hl:JO l):(1<=B/\B<=4096)/\(1<=H/\H<=8)/\xz B l:=by
 unfold VS at h
 split at h
 ·cases h
 ·have c:=YD l none h
  exact⟨qc,qc,c.1,fun n hn=>⟨(hl n hn).1,c.2 n hn⟩⟩
theorem qdn{l:List Int}:qyi l=0↔l.length<=4096/\jS l:=by
 unfold qyi
 constructor
 ·intro h
  split at h
  ·cases h
  ·exact⟨qc,qap h⟩
 ·rintro⟨h1,h2⟩
  rw[if_neg qc];exact qav h2
theorem qaw:∀{l:List Int},jS l->qpp l=0
 |[],_=>rfl
 |[_],_=>rfl
 |x::y::r,h=>by
  have h':=zii.mp h
  have hxy:=h'.1 y qe
  show(if y<=x then 8 else qpp (y::r))=0
  rw[if_neg qc]
  exact qaw h'.2
theorem qaq:∀{l:List Int},qpp l=0->jS l
 |[],_=>List.Pairwise.nil
 |[_],_=>by simp
 |x::y::r,h=>by
  have h:(if y<=x then 8 else qpp (y::r))=0:=h
  split at h
  ·cases h
  ·rename_i hxy
   have ih:=qaq h
   have ih':=zii.mp ih
   refine zii.mpr ⟨fun n hn=>?_,ih⟩
   rcases zie.mp hn with rfl|hn
   ·omega
   ·have:=ih'.1 n hn;omega
theorem XV{K:Int}{l:List Int}:zaa K l=0↔(1<=K/\K<=1024)/\(l.length:Int)<=K/\jS l:=by
 unfold zaa
 constructor
 ·intro h
  split at h
  ·cases h
  ·split at h
   ·cases h
   ·exact⟨qc,qc,qaq h⟩
 ·rintro⟨h1,h2,h3⟩
  rw[if_neg qc,if_neg qc];exact qaw h3
theorem qnm{P:Int}{l:List Int}:zag P l=0↔(4<=P/\P<=8)/\l.length=yu P/\∀n∈l,n<=65-P:=by
 unfold zag zb4
 constructor
 ·intro h
  split at h
  ·cases h
  ·split at h
   ·cases h
   ·split at h
    ·cases h
    ·rename_i h1 h2 h3
     exact⟨qc,by simpa using h2,fun n hn=>by
      by_cases hlt:65-P<n
      ·exact absurd ⟨n,hn,hlt⟩ h3
      ·omega⟩
 ·rintro⟨h1,h2,h3⟩
  rw[if_neg qc,if_neg (by simpa using h2),if_neg]
  rintro⟨n,hn,hlt⟩
  have:=h3 n hn
  omega
theorem qnz{R C:Int}{l:List Int}:ZH R C l=0↔(1<=R/\R<=8)/\(1<=C/\C<=256)/\(l.length:Int)=R*C:=by
 unfold ZH
 constructor
 ·intro h
  split at h
  ·cases h
  ·split at h
   ·cases h
   ·rename_i h1 h2
    exact⟨qc,qc,by simpa using h2⟩
 ·rintro⟨h1,h2,h3⟩
  rw[if_neg qc,if_neg (by simpa using h3)]
theorem qY{x:SkN}:qlp x=0↔x.kind<6/\x=qg4 x/\(if x.kind=0 then qyi x.set else if x.kind=1 then zaa x.K x.hs else if x.kind=2 then zag x.P x.rg else if x.kind=3 then VS x.B x.H x.bs else if x.kind=4 then ZH x.R x.C x.cs else Yx x.gK x.g)=0:=by
 unfold qlp
 constructor
 ·intro h
  split at h
  ·cases h
  ·split at h
   ·cases h
   ·rename_i h1 h2
    exact⟨qc,by simpa using h2,h⟩
 ·rintro⟨h1,h2,h3⟩
  rw[if_neg qc,if_neg (by simpa using h2)];exact h3
structure SkN.W2 (x : SkN) : Prop extends x.W where
 set2:x.set.length<=50000
 hs2:x.hs.length<=50000
 bs2:x.bs.length<=50000
 gK2:x.kind=5->x.gK<=100000
def skL(x:SkN)(g:Gs)(a b c d e f:Nat):List AV:=[.sc (.int .u8 x.kind),S a 1 (LI .u32 x.set),.sc (.int .i64 x.K),S b 1 (LI .u64 x.hs),.sc (.int .i64 x.P),S c 1 (LI .u8 x.rg),.sc (.int .i64 x.B),.sc (.int .i64 x.H),S d 1 (LI .u32 x.bs),.sc (.int .i64 x.R),.sc (.int .i64 x.C),S e 1 (LI .u32 x.cs),
 .sc (.int .i64 x.gK),.sc (.int .u32 g.M),.sc (.int .u32 g.e0),.sc (.int .u32 g.e1),.sc (.int .u32 g.e2),.sc (.int .u32 g.e3),.sc (.int .u32 g.e4),.sc (.int .u32 g.e5),fl g.lo,fl g.hi,S f 1 (LF g.L)]
def skZL:List AV:=[.sc (.int .u8 0),.sc (.slice none 0 0),.sc (.int .i64 0),.sc (.slice none 0 0),.sc (.int .i64 0),.sc (.slice none 0 0),.sc (.int .i64 0),.sc (.int .i64 0),.sc (.slice none 0 0),.sc (.int .i64 0),.sc (.int .i64 0),.sc (.slice none 0 0),.sc (.int .i64 0),.sc (.int .u32 0),.sc (.int .u32 0),.sc (.int .u32 0),.sc (.int .u32 0),.sc (.int .u32 0),.sc (.int .u32 0),.sc (.int .u32 0),fl 0,fl 0,.sc (.slice none 0 0)]
theorem zah{P:Int}{l:List Int}{h:Int}(hP:4<=P/\P<=8)(hl:∀n∈l,0<=n/\n<256):∀n∈vx P l h,0<=n/\n<256:=by
 unfold vx
 split
 ·rename_i hi
  intro n hn
  rcases zka hn with hn|rfl
  ·exact hl n hn
  ·have h1:=qel (h:=h) hP
   have h2:=hl l[yf P h] (zi6 hi)
   have e:l.getD (yf P h) 0=l[yf P h]:=by simp[hi]
   rw[e];omega
 ·exact hl
structure Fine (x : SkN) : Prop where
 w:x.W
 c:qlp x=0
 pos:x.g.Pos
theorem Vj:gz.nf.Pos:=qqb.pos
theorem Fine.W2{x:SkN}(h:Fine x):x.W2:=by
 obtain⟨kd,on,sp⟩:=qY.mp h.c
 have w:=h.w
 refine⟨w,?_,?_,?_,?_⟩
 ·rw[on];unfold qg4
  by_cases k0:x.kind=0
  ·rw[if_pos k0]at sp⊢
   have:=(qdn.mp sp).1
   show x.set.length<=_;omega
  ·rw[if_neg k0]
   repeat' split
   all_goals exact ziv _
 ·rw[on];unfold qg4
  by_cases k0:x.kind=0
  ·rw[if_pos k0];exact ziv _
  ·rw[if_neg k0]at sp⊢
   by_cases k1:x.kind=1
   ·rw[if_pos k1]at sp⊢
    have:=XV.mp sp
    show x.hs.length<=_;omega
   ·rw[if_neg k1]
    repeat' split
    all_goals exact ziv _
 ·rw[on];unfold qg4
  by_cases k3:x.kind=3
  ·have n0:¬(x.kind=0):=qc
   have n1:¬(x.kind=1):=qc
   have n2:¬(x.kind=2):=qc
   rw[if_neg n0,if_neg n1,if_neg n2,if_pos k3]at sp⊢
   obtain⟨hB,hH,hg⟩:=qho sp w.bs
   have:=hg.len hB.2
   show x.bs.length<=_;omega
  ·repeat' split
   all_goals first|exact ziv _|(exfalso;omega)
 ·intro k5
  have n0:¬(x.kind=0):=qc
  have n1:¬(x.kind=1):=qc
  have n2:¬(x.kind=2):=qc
  have n3:¬(x.kind=3):=qc
  have n4:¬(x.kind=4):=qc
  rw[if_neg n0,if_neg n1,if_neg n2,if_neg n3,if_neg n4]at sp
  have:=XY.mp sp
  omega
theorem six{x:SkN}(h:x.W)(hk:x.kind<6):x.kind=0\/x.kind=1\/x.kind=2\/x.kind=3\/x.kind=4\/x.kind=5:=by
 have:=h.kind;omega
def tn(l:List Int):List Nat:=l.map Int.toNat
@[simp] theorem tn_len(l:List Int):(tn l).length=l.length:=by simp[tn]
theorem qm6:∀{l:List Int},(∀n∈l,0<=n)->nz (tn l)=l:=by
 intro l
 induction l with
 |nil=>intro _;rfl
 |cons x r ih=>
  intro h
  have hx:=h x qe
  have e:nz (tn (x::r))=(x.toNat:Int)::nz (tn r):=rfl
  rw[e,ih (fun n hn=>h n (by simp[hn])),zj9 hx]
theorem qde{l:List Int}{B:Nat}(h:∀n∈l,0<=n/\n<(B:Int)):∀x∈tn l,x<B:=by
 intro x hx
 obtain⟨n,hn,rfl⟩:=ziu.mp hx
 have:=h n hn
 omega
theorem qdv:∀{l:List Int},(∀n∈l,0<=n)->jS l->jp (tn l):=by
 intro l
 induction l with
 |nil=>intro _ _;trivial
 |cons x r ih=>
  intro h hr
  cases r with
  |nil=>trivial
  |cons y s=>
   have hx:=h x qe
   have hy:=h y qe
   have h1:=(zii.mp hr).1 y qe
   exact⟨qc,ih (fun n hn=>h n (by simp[hn])) (zii.mp hr).2⟩
theorem WB:∀{l:List Nat},jp l->yd l:=by
 intro l
 induction l with
 |nil=>intro _;trivial
 |cons x r ih=>
  intro h
  cases r with
  |nil=>trivial
  |cons y s=>exact⟨Nat.le_of_lt h.1,ih h.2⟩
def Xt(c:Int):List Int->Nat->Int->List Int
 |[],_,_=>[]
 |n::r,i,last=>uv (zz (n-if(i:Int)%max c 1=0 then 0 else last))++Xt c r (i+1) n
theorem qml{n m:Int}(hn:0<=n/\n<4294967296)(hm:0<=m/\m<4294967296):(uv (zz (n-m))).length<=10:=qu (zbm qc qc)
section
variable (c:Int)(l:List Int)(hl:l.length<=4096)(h32:JO l)
theorem KW(h32:JO l):∀(r:List Int) (i:Nat) (last:Int),(∀n∈r,0<=n/\n<4294967296)->(0<=last/\last<4294967296)->(Xt c r i last).length<=10*r.length
 |[],_,_,_,_=>by simp[Xt]
 |x::r,i,last,h,hla=>by
  have ih:=KW h32 r (i+1) x (fun n hn=>h n (by simp[hn])) (h x qe)
  have le:(uv (zz (x-if(i:Int)%max c 1=0 then 0 else last))).length<=10:=qml (h x qe) (by split<;>omega)
  simp only[Xt,zh8,zid]
  omega
end
def Jz(p:Nat):List Nat->List Int
 |[]=>[]
 |k::r=>uv (k-p)++Jz k r
def qht(K:Int)(g:GN):List Int:=
 [K]++uv g.M.toNat++uv g.e0.toNat++uv g.e1.toNat++uv g.e2.toNat++uv g.e3.toNat++uv g.e4.toNat++uv g.e5.toNat++uv g.lo++uv g.hi++[(g.L.length:Int)]++Jz 0 g.L
theorem qgv:∀{l:List Nat},WE l=0->yd l:=by
 intro l
 induction l with
 |nil=>intro _;trivial
 |cons x r ih=>
  intro h
  cases r with
  |nil=>trivial
  |cons y s=>
   have h':(if y<x then 8 else WE (y::s))=0:=h
   by_cases c:y<x
   ·rw[if_pos c]at h';cases h'
   ·rw[if_neg c]at h'
    exact⟨qc,ih h'⟩
def ku(x:SkN):List Int:=
 if x.kind=0 then WA (JV (tn x.set))
 else if x.kind=1 then uv x.K.toNat++KO (tn x.hs)
 else if x.kind=2 then x.P::cod (tn x.rg)
 else if x.kind=3 then uv x.B.toNat++[x.H]++Xy (tn x.bs)
 else if x.kind=4 then [x.R]++uv x.C.toNat++Xt x.C x.cs 0 0
 else qht x.gK x.g
def H64(x:SkN):Prop:=∀n∈x.hs,0<=n/\n<18446744073709551616
theorem qgk{l:List Nat}(hl:l.length<=1024)(h64:∀x∈l,x<18446744073709551616):(KO l).length<=700100:=by
 obtain⟨k63,hq⟩:=XP (JA h64)
 have hbl:=Yq (xG (qK l)) k63 (qK l) hq
 rw[Qq]at hbl
 have hlY:(pk (qdw (qK l))).length<700000:=by rw[vu];unfold qdw;omega
 have h1:=qu (n:=l.length) qc
 have h2:=qu (n:=(pk (qdw (qK l))).length) qc
 unfold KO
 simp only[zh8,ziz]
 omega
theorem Vp{l:List Nat}(hl:l.length<=4096)(h32:∀x∈l,x<4294967296)(hr:yd l):(Xy l).length<=100000:=by
 by_cases hne:l=[]
 ·subst hne
  have e:Xy []=uv 0++uv 0++[]++uv 0++[]:=rfl
  have h:=qu (n:=0) qc
  rw[e]
  simp only[zh8,zi1]
  omega
 ·obtain⟨a,b,c⟩:=qlg l hl h32 hr hne
  have h1:=qu (n:=l.length) qc
  have h2:=qu (n:=zK l) qc
  have hm:l.length*yi l<=4096*32:=zjn hl a
  have h3:=qu (n:=(pk (zZ (yi l) 0 l)).length) (by rw[vu];omega)
  unfold Xy
  simp only[zh8,vu,qa2]at*
  omega
theorem qes{l:List Nat}(hl:l.length<=1000)(h64:∀x∈l,x<64):(cod l).length<=100000:=by
 rw[(qnw l h64).2]
 have key:∀(l cs:List Nat) (s:En),okM cs->(∀x∈l,x<64)->okE s s.width->16777216<=s.width/\s.width<=4294967296->eK (enc cs s l)<=eK s+4*l.length:=by
  intro l
  induction l with
  |nil=>intro cs s _ _ _ _;exact zif _
  |cons x r ih=>
   intro cs s hm hl h hw
   obtain⟨d,b1,b2,b3,b4,b5,b6,b7⟩:=ql0 s cs x hm (hl x qe) h hw
   have hd:d<=4:=zgn b7 (by rw[<-b2];exact b6)
   have:=ih (see cs x) (jI 4 (Xc s cs x)) (qjv hm (hl x qe)) (fun y hy=>hl y (by simp[hy])) b4 ⟨b5,b6⟩
   have e:enc cs s (x::r)=enc (see cs x) (jI 4 (Xc s cs x)) r:=rfl
   rw[e,zid]
   omega
 have:=key l cs0 en0 zdw h64 zdx ⟨qf,qf⟩
 have e0:eK en0=0:=rfl
 omega
theorem qtw{l:List Nat}(hl:l.length<=4096)(h32:∀x∈l,x<4294967296):(WA (JV l)).length<=900000:=by
 have hc:=qny l
 have h1:=qu (n:=(JV l).length) qc
 have key:∀cs:List (Nat×Nat),(∀c∈cs,okC c)->(Xs cs).length<=60*cs.length:=by
  intro cs
  induction cs with
  |nil=>intro _;exact zif _
  |cons c r ih=>
   intro h
   have:=ih (fun d hd=>h d (by simp[hd]))
   have:=VA (h c qe)
   simp only[Xs,zh8,zid]
   omega
 have:=key (JV l) (qln h32)
 unfold WA
 simp only[zh8]
 omega
theorem Ye{x:SkN}(f:Fine x)(k:x.kind=0):x.set.length<=4096/\jp (tn x.set)/\(∀n∈tn x.set,n<4294967296)/\nz (tn x.set)=x.set:=by
 have h:=(qY.mp f.c).2.2
 rw[if_pos k]at h
 have s:=qdn.mp h
 have n0:∀n∈x.set,0<=n:=fun n hn=>(f.w.set n hn).1
 exact⟨s.1,qdv n0 s.2,qde (B:=4294967296) f.w.set,qm6 n0⟩
theorem QI{x:SkN}(f:Fine x)(k:x.kind=1)(h64:H64 x):(1<=x.K/\x.K<=1024)/\x.hs.length<=1024/\jp (tn x.hs)/\(∀n∈tn x.hs,n<18446744073709551616)/\nz (tn x.hs)=x.hs:=by
 have h:=(qY.mp f.c).2.2
 rw[if_neg qc,if_pos k]at h
 have s:=XV.mp h
 have n0:∀n∈x.hs,0<=n:=fun n hn=>(h64 n hn).1
 exact⟨s.1,qc,qdv n0 s.2.2,qde (B:=18446744073709551616) h64,qm6 n0⟩
theorem QL{x:SkN}(f:Fine x)(k:x.kind=2):(4<=x.P/\x.P<=8)/\x.rg.length=yu x.P/\x.rg.length<=256/\(∀n∈tn x.rg,n<64)/\nz (tn x.rg)=x.rg:=by
 have h:=(qY.mp f.c).2.2
 rw[if_neg qc,if_neg qc,if_pos k]at h
 have s:=qnm.mp h
 have n0:∀n∈x.rg,0<=n:=fun n hn=>(f.w.rg n hn).1
 have hp:yu x.P<=256:=by
  unfold yu
  exact zjw (zjz qf (show x.P.toNat<=8 by omega)) qf
 exact⟨s.1,s.2.1,qc,qde (B:=64) (fun n hn=>⟨n0 n hn,by have:=s.2.2 n hn;omega⟩),qm6 n0⟩
theorem QV{x:SkN}(f:Fine x)(k:x.kind=3):(1<=x.B/\x.B<=4096)/\(1<=x.H/\x.H<=8)/\x.bs.length<=4096/\yd (tn x.bs)/\(∀n∈tn x.bs,n<4294967296)/\nz (tn x.bs)=x.bs:=by
 have h:=(qY.mp f.c).2.2
 rw[if_neg qc,if_neg qc,if_neg qc,if_pos k]at h
 have s:=qho h f.w.bs
 have n0:∀n∈x.bs,0<=n:=fun n hn=>(f.w.bs n hn).1
 exact⟨s.1,s.2.1,s.2.2.len s.1.2,WB (qdv n0 s.2.2.1),qde (B:=4294967296) f.w.bs,qm6 n0⟩
theorem QT{x:SkN}(f:Fine x)(k:x.kind=4):(1<=x.R/\x.R<=8)/\(1<=x.C/\x.C<=256)/\(x.cs.length:Int)=x.R*x.C/\x.cs.length<=2048:=by
 have h:=(qY.mp f.c).2.2
 rw[if_neg qc,if_neg qc,if_neg qc,if_neg qc,if_pos k]at h
 have s:=qnz.mp h
 have:=qlk s.1 s.2.1
 exact⟨s.1,s.2.1,s.2.2,qc⟩
theorem QM{x:SkN}(f:Fine x)(k:x.kind=5):(1<=x.gK/\x.gK<=16)/\WE x.g.L=0/\x.g.L.length<=16:=by
 have h:=(qY.mp f.c).2.2
 rw[if_neg qc,if_neg qc,if_neg qc,if_neg qc,if_neg qc]at h
 unfold Yx at h
 split at h
 ·cases h
 ·rename_i h1
  split at h
  ·rename_i h2
   exact⟨qc,h2,qc⟩
  ·cases h
theorem qt9{x:SkN}{v:AV}(hv:ZQ x v)(f:Fine x)(h64:H64 x):(ku x).length<=1000000:=by
 obtain⟨g,a,b,c,d,e,t,gw,gn,rfl⟩:=hv
 have hk:=f.w.kind
 have kd:=(qY.mp f.c).1
 have six:x.kind=0\/x.kind=1\/x.kind=2\/x.kind=3\/x.kind=4\/x.kind=5:=qc
 unfold ku
 rcases six with k|k|k|k|k|k
 ·rw[if_pos k]
  have s:=Ye f k
  have:=qtw (l:=tn x.set) (by simp;exact s.1) s.2.2.1
  omega
 ·have s:=QI f k h64
  have:=qgk (l:=tn x.hs) (by simp;exact s.2.1) s.2.2.2.1
  have hu:=qu (n:=x.K.toNat) qc
  rw[if_neg qc,if_pos k,zh8]
  omega
 ·have s:=QL f k
  have:=qes (l:=tn x.rg) qg s.2.2.2.1
  rw[if_neg qc,if_neg qc,if_pos k,zid]
  omega
 ·have s:=QV f k
  have:=Vp (l:=tn x.bs) (by simp;exact s.2.2.1) s.2.2.2.2.1 s.2.2.2.1
  have hu:=qu (n:=x.B.toNat) qc
  rw[if_neg qc,if_neg qc,if_neg qc,if_pos k]
  simp only[zh8,ziz]
  omega
 ·have s:=QT f k
  have:=KW x.C x.cs f.w.cs x.cs 0 0 f.w.cs qc
  have hu:=qu (n:=x.C.toNat) qc
  rw[if_neg qc,if_neg qc,if_neg qc,if_neg qc,if_pos k]
  simp only[zh8,ziz]
  omega
 ·have s:=QM f k
  have hd:∀(L:List Nat) (p:Nat),(∀k∈L,k<18446744073709551616)->(Jz p L).length<=10*L.length:=by
   intro L
   induction L with
   |nil=>intro p _;exact zif _
   |cons k r ih=>
    intro p h
    have:=ih k (fun y hy=>h y (by simp[hy]))
    have hu:=qu (n:=k-p) (by have:=h k qe;omega)
    simp only[Jz,zh8,zid]
    omega
  have hL:∀k∈x.g.L,k<18446744073709551616:=by
   rw[<-gn]
   intro k hk
   obtain⟨w,hw,rfl⟩:=ziu.mp hk
   exact wU w (gw.L w hw)
  have h0:=hd x.g.L 0 hL
  have u:∀n:Int,qW n->(uv n.toNat).length<=10:=fun n hn=>qu (by have:=hn.2;omega)
  have p:=f.pos
  have u1:=u _ p.1
  have u2:=u _ p.2.1
  have u3:=u _ p.2.2.1
  have u4:=u _ p.2.2.2.1
  have u5:=u _ p.2.2.2.2.1
  have u6:=u _ p.2.2.2.2.2.1
  have u7:=u _ p.2.2.2.2.2.2
  have u8:=qu (n:=x.g.lo) (by rw[<-gn];exact wU _ gw.lo)
  have u9:=qu (n:=x.g.hi) (by rw[<-gn];exact wU _ gw.hi)
  rw[if_neg qc,if_neg qc,if_neg qc,if_neg qc,if_neg qc]
  unfold qht
  simp only[zh8,ziz]
  omega
structure Sm where
 kind:Int
 A:Int
 B:Int
 wide:Int
 few:Bool
 hs:List Int
 fl:List (Int×Int)
structure Sm.Ok (s : Sm) : Prop where
 kind:0<=s.kind/\s.kind<256
 A:0<=s.A/\s.A<256
 B:0<=s.B/\s.B<256
 wide:0<=s.wide/\s.wide<65536
 hs:∀n∈s.hs,0<=n/\n<18446744073709551616
 fl:∀p∈s.fl,InI p
abbrev smA(s:Sm)(k k':Nat):AV:=.agg [.sc (.int .u8 s.kind),.sc (.int .u8 s.A),.sc (.int .u8 s.B),.sc (.int .u16 s.wide),.sc (.bool s.few),S k 1 (LI .u64 s.hs),S k' 2 (LP s.fl)]
def row(n:Int)(m:Nat):List Int:=(List.range m).map fun(k:Nat)=>n+(k:Int)
def xF(few:Bool)(h:Int):List Int:=h%4294967296::(if few then row (h%9000) (h%40).toNat else [])
def yL(few:Bool)(hs:List Int):List Int:=hs.flatMap (xF few)
def smc:Nat->List Int->List (Int×Int)
 |_,[]=>[]
 |i,h::r=>(h,if i%5=4 then h/4294967296 else h%9)::smc (i+1) r
noncomputable def zW(s:Sm):SkN:=
 if s.kind%6=0 then{kZ with kind:=0,set:=srt [] (yL s.few s.hs)}
 else if s.kind%6=1 then{kZ with kind:=1,K:=1+s.A%20,hs:=Qn (1+s.A%20).toNat [] (s.hs.map (cut s.few))}
 else if s.kind%6=2 then{kZ with kind:=2,P:=4+s.A%5,rg:=hfold (4+s.A%5) (List.replicate (yu (4+s.A%5)) 0) s.hs}
 else if s.kind%6=3 then{kZ with kind:=3,B:=1+s.wide%300,H:=1+s.A%8,bs:=blm (1+s.wide%300) (1+s.A%8) [] s.hs}
 else if s.kind%6=4 then{kZ with kind:=4,R:=1+s.A%8,C:=1+s.B%40,cs:=yB (1+s.A%8) (1+s.B%40) (List.replicate ((1+s.A%8)*(1+s.B%40)).toNat 0) (smc 0 s.hs)}
 else{kZ with kind:=5,gK:=1+s.A%16,g:=(Qp (1+s.A%16) gnew (s.fl.map wd)).nf}
theorem qow(s:Sm)(k k':Nat)(hp:Hp):run cxX 29 [smA s k k'] hp=some (.sc (.bool (decide (s.hs.length<=40/\s.fl.length<=40))),hp):=by
 rw[E29]
 by_cases h:s.hs.length<=40
 ·have h':(s.hs.length:Int)<=40:=qc
  have e:decide ((s.fl.length:Int)<=40)=decide (s.fl.length<=40):=decide_eq_decide.mpr qc
  simp[qt,h,h',qvf,e]
 ·have h':¬((s.hs.length:Int)<=40):=qc
  simp[qt,h,h']
theorem zdf{n:Int}{m:Nat}(hn:0<=n/\n<9000)(hm:m<=40):JO (row n m):=by
 intro x hx
 simp only[row,ziu,zls]at hx
 obtain⟨k,hk,rfl⟩:=hx
 omega
theorem qoi{few:Bool}{h:Int}(hh:0<=h):JO (xF few h):=by
 intro x hx
 rcases zie.mp hx with rfl|hx
 ·omega
 ·cases few with
  |false=>simp at hx
  |true=>exact zdf qc qc x hx
theorem qs7{few:Bool}{hs:List Int}(h:∀n∈hs,0<=n/\n<18446744073709551616):JO (yL few hs):=by
 intro x hx
 obtain⟨y,hy,hx⟩:=zl2.mp hx
 exact qoi (h y hy).1 x hx
theorem Ku(few:Bool){h:Int}(hh:0<=h):(xF few h).length<=40:=by
 unfold xF
 cases few with
 |false=>simp
 |true=>
  simp only[if_true,zid,row,zjg,List.length_range]
  omega
theorem Yc(few:Bool):∀{hs:List Int},(∀n∈hs,0<=n/\n<18446744073709551616)->(yL few hs).length<=40*hs.length
 |[],_=>by simp[yL]
 |x::hs,h=>by
  have ih:=Yc few (hs:=hs) (fun n hn=>h n (by simp[hn]))
  have l1:=Ku few (h x qe).1
  show((x::hs).flatMap (xF few)).length<=_
  rw[List.flatMap_cons,zh8]
  simp only[zid]
  have:(List.flatMap (xF few) hs).length<=40*hs.length:=ih
  omega
section
variable (b1 b2 b3:List AV)(s:Sm)(k k':Nat)(hp:Hp)
theorem zc6(h:Int)(x27:AV)(v28 v29:Value)(hh:0<=h/\h<18446744073709551616)(m:Nat)(hm:m<=40):∀(j:Nat) (l:List Int) (i:Nat),i+j=m->l.length+j<=1000000->
 B30_12 (S 2 1 (LI .u32 l)) (.int .u64 h) x27 v28 v29 (.int .u32 m) (.int .u32 i) b1 b2 b3 hp=B30_16 (S 2 1 (LI .u32 (l++(List.range' i j).map fun(k:Nat)=>h%9000+(k:Int)))) x27 v28 v29 b1 b2 b3 hp:=by
 intro j
 induction j with
 |zero=>
  intro l i hi hl
  have hlt:¬((i:Int)<(m:Int)):=qc
  rw[qca]
  simp[hlt]
 |succ j ih=>
  intro l i hi hl
  have hlt:i<m:=qc
  have r:∀t x y,qs Tryz.prog .rem t x y (.int .u64 h) (.int .u64 9000)=some (.int .u64 (h%9000)):=by
   intro t x y;rw[qP _ _ _ _ _ _ _ qc,qO hh.1]
  have w1:IntKind.u32.wrap (h%9000)=h%9000:=qT qc qc
  have w2:IntKind.u32.wrap (h%9000+(i:Int))=h%9000+(i:Int):=qT qc qc
  have w3:IntKind.u32.wrap ((i:Int)+1)=((i+1:Nat):Int):=by rw[qT]<;>omega
  have ap:=qe1 .u32 l 2 (.inr rfl) 4 qf (h%9000+(i:Int)) qc
  have g:=ih (l++[h%9000+(i:Int)]) (i+1) qc qg
  rw[qca,List.range'_succ]
  simp at g w3
  simp[hlt,r,w1,w2,ap,w3,g]
theorem zc5(hs:∀n∈s.hs,0<=n/\n<18446744073709551616)(hl:s.hs.length<=40):∀(r:List Int) (i:Nat) (l:List Int),s.hs.drop i=r->l.length<=40*i->i<=s.hs.length->
 ∃t,∀b3',qm b3 1 [S t 1 (LI .u32 (srt [] (l++yL s.few r)))]=some b3'->B30_7 (S 2 1 (LI .u32 l)) (S k 1 (LI .u64 s.hs)) (.int .i64 s.hs.length) (.int .i64 i) [.sc (.int .u8 s.kind),.sc (.int .u8 s.A),.sc (.int .u8 s.B),.sc (.int .u16 s.wide),.sc (.bool s.few),S k 1 (LI .u64 s.hs),S k' 2 (LP s.fl)] b2 b3 hp=
  B30_35 b2 b3' hp:=by
 intro r
 induction r with
 |nil=>
  intro i l hr hll hil
  have:=qC hr
  have hlt:¬((i:Int)<(s.hs.length:Int)):=qc
  obtain⟨t,o⟩:=qth l 3 qc hp0
  refine⟨rk t,fun b3' hb=>?_⟩
  rw[qje]
  simp[yL]at hb
  simp[hlt,o,hb]
 |cons x r ih=>
  intro i l hr hll hil
  obtain⟨e1,e2,hi,e3⟩:=qv hr
  have hx:=hs x (zig e1)
  have hw:IntKind.i64.wrap ((i:Int)+1)=((i+1:Nat):Int):=qh
  have w1:IntKind.u32.wrap x=x%4294967296:=by rw[IntKind.wrap_u32]
  have ap:=qe1 .u32 l 2 (.inr rfl) 4 qf (x%4294967296) qc
  have l1:=Ku s.few hx.1
  obtain⟨t,g⟩:=ih (i+1) (l++xF s.few x) e2 (by rw[zh8];omega) qc
  refine⟨t,fun b3' hb=>?_⟩
  have es:yL s.few (x::r)=xF s.few x++yL s.few r:=rfl
  rw[es,<-List.append_assoc]at hb
  have g:=g b3' hb
  have g16:B30_16 (S 2 1 (LI .u32 (l++xF s.few x))) (S k 1 (LI .u64 s.hs)) (.int .i64 s.hs.length) (.int .i64 i) [.sc (.int .u8 s.kind),.sc (.int .u8 s.A),.sc (.int .u8 s.B),.sc (.int .u16 s.wide),.sc (.bool s.few),S k 1 (LI .u64 s.hs),S k' 2 (LP s.fl)] b2 b3 hp=B30_35 b2 b3' hp:=by
   rw[qrd]
   simp at hw g
   simp[hw,g]
  rw[qje]
  cases hf:s.few with
  |false=>
   rw[hf]at g16
   simp[xF]at g16
   simp[hi,e3,qi,w1,ap,g16]
  |true=>
   rw[hf]at g16
   have r40:∀t a b,qs Tryz.prog .rem t a b (.int .u64 x) (.int .u64 40)=some (.int .u64 (x%40)):=by
    intro t a b;rw[qP _ _ _ _ _ _ _ qc,qO hx.1]
   have w2:IntKind.u32.wrap (x%40)=x%40:=qT qc qc
   have rw1:=zc6 [.sc (.int .u8 s.kind),.sc (.int .u8 s.A),.sc (.int .u8 s.B),.sc (.int .u16 s.wide),.sc (.bool true),S k 1 (LI .u64 s.hs),S k' 2 (LP s.fl)] b2 b3 hp x (S k 1 (LI .u64 s.hs)) (.int .i64 s.hs.length) (.int .i64 i) hx (x%40).toNat qc (x%40).toNat (l++[x%4294967296]) 0 qc qg
   have e40:(((x%40).toNat:Nat):Int)=x%40:=qc
   rw[e40]at rw1
   have er:(l++[x%4294967296])++(List.range' 0 (x%40).toNat).map (fun(k:Nat)=>x%9000+(k:Int))=l++xF true x:=by
    simp[xF,row,List.range_eq_range']
   rw[er,g16]at rw1
   simp at rw1
   simp[hi,e3,qi,w1,ap,r40,w2,rw1]
theorem zc8(hs:∀n∈s.hs,0<=n/\n<18446744073709551616)(hA:0<=s.A/\s.A<256)(hB:0<=s.B/\s.B<256)(hl:s.hs.length<=40):∀(r:List Int) (i:Nat) (l:List (Int×Int)),s.hs.drop i=r->l.length<=i->i<=s.hs.length->(∀p∈l,0<=p.2/\p.2<4294967296)->
 ∃t,∀b3',qm b3 9 [.sc (.int .i64 (1+s.A%8)),.sc (.int .i64 (1+s.B%40)),S t 1 (LI .u32 (yB (1+s.A%8) (1+s.B%40) (List.replicate ((1+s.A%8)*(1+s.B%40)).toNat 0) (l++smc i r)))]=some b3'->
  B30_27 (S 2 2 (LQ .u64 .u32 l)) (S k 1 (LI .u64 s.hs)) (.int .i64 s.hs.length) (.int .i64 i) [.sc (.int .u8 s.kind),.sc (.int .u8 s.A),.sc (.int .u8 s.B),.sc (.int .u16 s.wide),.sc (.bool s.few),S k 1 (LI .u64 s.hs),S k' 2 (LP s.fl)] b2 b3 hp=B30_35 b2 b3' hp:=by
 intro r
 induction r with
 |nil=>
  intro i l hr hll hil hp2
  have:=qC hr
  have hlt:¬((i:Int)<(s.hs.length:Int)):=qc
  obtain⟨t,hpc,o⟩:=qyp s.A s.B l 3 hA hB qc hp2 hp0
  refine⟨t,fun b3' hb=>?_⟩
  rw[YM]
  simp[smc]at hb
  simp[hlt,qi,o,hb]
 |cons x r ih=>
  intro i l hr hll hil hp2
  obtain⟨e1,e2,hi,e3⟩:=qv hr
  have hx:=hs x (zig e1)
  have hw:IntKind.i64.wrap ((i:Int)+1)=((i+1:Nat):Int):=qh
  have r9:∀t a b,qs Tryz.prog .rem t a b (.int .u64 x) (.int .u64 9)=some (.int .u64 (x%9)):=by
   intro t a b;rw[qP _ _ _ _ _ _ _ qc,qO hx.1]
  have r5:∀t a b,qs Tryz.prog .rem t a b (.int .i64 (i:Int)) (.int .i64 5)=some (.int .i64 ((i:Int)%5)):=by
   intro t a b;rw[qP _ _ _ _ _ _ _ qc,qO qc]
  have w9:IntKind.u32.wrap (x%9)=x%9:=qT qc qc
  have s32:∀t a b,qs Tryz.prog .shr t a b (.int .u64 x) (.int .u64 32)=some (.int .u64 (x/4294967296)):=by
   intro t a b
   rw[jF _ _ _ _ _ _ _ _ qc]
   have e:(2:Int)^(min (32:Int).toNat IntKind.u64.bits)=4294967296:=qf
   rw[e,zjv _ qf]
  have w32:IntKind.u32.wrap (x/4294967296)=x/4294967296:=qT qc qc
  have ex:smc i (x::r)=(x,if i%5=4 then x/4294967296 else x%9)::smc (i+1) r:=rfl
  have ap:=fun n=>zff .u64 .u32 2 (.inr rfl) l x n qc
  by_cases h4:i%5=4
  ·have h4':(i:Int)%5=4:=qc
   rw[if_pos h4]at ex
   obtain⟨t,g⟩:=ih (i+1) (l++[(x,x/4294967296)]) e2 qg qc (fun p hp=>by
    rcases zip.mp hp with hp|hp
    ·exact hp2 p hp
    ·simp at hp;subst hp;dsimp;omega)
   refine⟨t,fun b3' hb=>?_⟩
   rw[ex]at hb
   have g:=g b3' (by simpa using hb)
   rw[YM]
   simp at g hw
   simp[hi,e3,qi,r9,w9,r5,h4',s32,w32,qb9,ap,hw,g]
  ·have h4':¬((i:Int)%5=4):=qc
   rw[if_neg h4]at ex
   obtain⟨t,g⟩:=ih (i+1) (l++[(x,x%9)]) e2 qg qc (fun p hp=>by
    rcases zip.mp hp with hp|hp
    ·exact hp2 p hp
    ·simp at hp;subst hp;dsimp;omega)
   refine⟨t,fun b3' hb=>?_⟩
   rw[ex]at hb
   have g:=g b3' (by simpa using hb)
   rw[YM]
   simp at g hw
   simp[hi,e3,qi,r9,w9,r5,h4',qb9,ap,hw,g]
end
theorem zef{w:Nat}(hw:w<18446744073709551616):(xJ w).W:=by
 have i01:∀(p:Prop) [Decidable p],qW (if p then 1 else 0):=by intro p _;split<;>exact⟨qf,qf⟩
 refine⟨⟨show(0:Int)<=1 by decide,show(1:Int)<4294967296 by decide⟩,i01 _,i01 _,i01 _,i01 _,i01 _,i01 _,?_,?_,?_,?_⟩
 ·show(if yp w then 9218868437227405312 else w)<18446744073709551616
  split<;>omega
 ·show(if yp w then 18442240474082181120 else w)<18446744073709551616
  split<;>omega
 ·intro x hx
  have:x=wk (kw w):=by simpa[xJ]using hx
  subst this
  exact qsm _ (wU w hw)
 ·simp[xJ]
theorem qvx{w:Nat}{K:Int}(hw:w<18446744073709551616)(hK:1<=K/\K<=16):Yx K (xJ w).nf=0:=by
 rw[XY]
 refine⟨hK,?_,?_,?_,?_⟩
 ·simp[Gs.nf,xJ];omega
 ·simp[Gs.nf,xJ]
 ·show kw (if yp w then 9218868437227405312 else w)≠nanK
  split
  ·decide
  ·rename_i h;exact fun e=>h ((qvj hw).mpr e)
 ·show kw (if yp w then 18442240474082181120 else w)≠nanK
  split
  ·decide
  ·rename_i h;exact fun e=>h ((qvj hw).mpr e)
theorem qhp{K:Int}(hK:1<=K/\K<=16):Yx K gnew.nf=0:=by
 rw[XY]
 exact⟨hK,by simp[Gs.nf,gnew];omega,by simp[Gs.nf,gnew],qf,qf⟩
theorem Zw{K:Int}(hK:1<=K/\K<=16):∀{r:List Nat} {g:Gs},Ws r->g.W->Yx K g.nf=0->(Qp K g r).W/\Yx K (Qp K g r).nf=0
 |[],g,_,hg,hc=>⟨hg,hc⟩
 |w::r,g,hr,hg,hc=>by
  have hw:=hr w qe
  have h1:=zg6 (K:=K) qc hg (zef hw)
  have h2:Yx K (gmg K g (xJ w)).nf=0:=by rw[zeh];exact qlc hc (qvx hw hK)
  exact Zw hK (r:=r) (fun x hx=>hr x (by simp[hx])) h1 h2
theorem qjz(s:Sm)(k k':Nat)(ok:s.Ok)(hl:s.hs.length<=40)(hf:s.fl.length<=40)(hp:Hp):∃r,ZQ (zW s) r/\run cxX 30 [smA s k k'] hp=some (r,hp):=by
 have hk:=ok.kind
 have hA:=ok.A
 have hB:=ok.B
 have r6:∀t a b,qs Tryz.prog .rem t a b (.int .u8 s.kind) (.int .u8 6)=some (.int .u8 (s.kind%6)):=by
  intro t a b;rw[qP _ _ _ _ _ _ _ qc,qO hk.1]
 have fin:∀(x:SkN) (g:Gs) (a b c d e f:Nat),B30_35 skZL (skL x g a b c d e f) hp=some (skA x g a b c d e f,hp):=by
  intro x g a b c d e f
  rw[qrc]
  unfold skL skZL skA
  simp[qo,qm]
 rw[E30]
 unfold zW
 by_cases h0:s.kind%6=0
 ·rw[if_pos h0]
  obtain⟨t,q⟩:=zc5 skZL skZL s (rk k) (rk k') hp ok.hs hl s.hs 0 [] rfl qe qe
  refine⟨_,kc (x:={kZ with kind:=0,set:=srt [] (yL s.few s.hs)}) qqb rfl t 2 2 2 2 2,?_⟩
  have f:=fin {kZ with kind:=0,set:=srt [] (yL s.few s.hs)} gz t 2 2 2 2 2
  have q:=q (skL {kZ with kind:=0,set:=srt [] (yL s.few s.hs)} gz t 2 2 2 2 2) (by unfold skZL skL;simp[qm,kZ,gz,LF])
  unfold skL skZL at q f
  unfold skA at f⊢
  simp[kZ,gz,LF]at q f
  simp[qi,qt,r6,h0,q,f,kZ,gz,LF]
 ·rw[if_neg h0]
  by_cases h1:s.kind%6=1
  ·rw[if_pos h1]
   have q:=fun k hp=>qyn s.A s.few s.hs k hA qc (fun n hn=>(ok.hs n hn).1) hp
   refine⟨_,kc (x:={kZ with kind:=1,K:=1+s.A%20,hs:=Qn (1+s.A%20).toNat [] (s.hs.map (cut s.few))}) qqb rfl 2 2 2 2 2 2,?_⟩
   have f:=fin {kZ with kind:=1,K:=1+s.A%20,hs:=Qn (1+s.A%20).toNat [] (s.hs.map (cut s.few))} gz 2 2 2 2 2 2
   unfold skL skZL at f
   unfold skA at f⊢
   simp[kZ,gz,LF]at f
   simp[qi,qt,qm,r6,h1,q,f,kZ,gz,LF]
  ·rw[if_neg h1]
   by_cases h2:s.kind%6=2
   ·rw[if_pos h2]
    obtain⟨t,q⟩:=qyo s.A s.hs (rk k) hA qc ok.hs hp0
    refine⟨_,kc (x:={kZ with kind:=2,P:=4+s.A%5,rg:=hfold (4+s.A%5) (List.replicate (yu (4+s.A%5)) 0) s.hs}) qqb rfl 2 2 t 2 2 2,?_⟩
    have f:=fin {kZ with kind:=2,P:=4+s.A%5,rg:=hfold (4+s.A%5) (List.replicate (yu (4+s.A%5)) 0) s.hs} gz 2 2 t 2 2 2
    unfold skL skZL at f
    unfold skA at f⊢
    simp[kZ,gz,LF]at f
    simp[qi,qt,qm,r6,h2,q,f,kZ,gz,LF]
   ·rw[if_neg h2]
    by_cases h3:s.kind%6=3
    ·rw[if_pos h3]
     have q:=fun k hp=>qo3 s.wide s.A k s.hs ok.wide hA qc hp
     refine⟨_,kc (x:={kZ with kind:=3,B:=1+s.wide%300,H:=1+s.A%8,bs:=blm (1+s.wide%300) (1+s.A%8) [] s.hs}) qqb rfl 2 2 2 2 2 2,?_⟩
     have f:=fin {kZ with kind:=3,B:=1+s.wide%300,H:=1+s.A%8,bs:=blm (1+s.wide%300) (1+s.A%8) [] s.hs} gz 2 2 2 2 2 2
     unfold skL skZL at f
     unfold skA at f⊢
     simp[kZ,gz,LF]at f
     simp[qi,qt,qm,r6,h3,q,f,kZ,gz,LF]
    ·rw[if_neg h3]
     by_cases h4:s.kind%6=4
     ·rw[if_pos h4]
      obtain⟨t,q⟩:=zc8 skZL ((AV.sc (.int .u8 4))::skZL.tail) s (rk k) (rk k') hp ok.hs hA hB hl s.hs 0 [] rfl qe qe qe
      refine⟨_,kc (x:={kZ with kind:=4,R:=1+s.A%8,C:=1+s.B%40,cs:=yB (1+s.A%8) (1+s.B%40) (List.replicate ((1+s.A%8)*(1+s.B%40)).toNat 0) (smc 0 s.hs)}) qqb rfl 2 2 2 2 t 2,?_⟩
      have f:=fin {kZ with kind:=4,R:=1+s.A%8,C:=1+s.B%40,cs:=yB (1+s.A%8) (1+s.B%40) (List.replicate ((1+s.A%8)*(1+s.B%40)).toNat 0) (smc 0 s.hs)} gz 2 2 2 2 t 2
      have q:=q (skL {kZ with kind:=4,R:=1+s.A%8,C:=1+s.B%40,cs:=yB (1+s.A%8) (1+s.B%40) (List.replicate ((1+s.A%8)*(1+s.B%40)).toNat 0) (smc 0 s.hs)} gz 2 2 2 2 t 2) (by unfold skZL skL;simp[qm,kZ,gz,LF])
      unfold skL skZL at q f
      unfold skA at f⊢
      have nq:S 2 2 (LQ .u64 .u32 [])=S 2 1 []:=rfl
      rw[nq]at q
      simp[kZ,gz,LF]at q f
      simp[qi,qt,r6,h4,q,f,kZ,gz,LF]
     ·rw[if_neg h4]
      have h5:s.kind%6=5:=qc
      obtain⟨gw,gc⟩:=Zw (K:=1+s.A%16) qc (zbp ok.fl) qvy (qhp qc)
      have q:=fun k hp=>qoy s.A k s.fl hA qc ok.fl hp
      refine⟨_,kc (x:={kZ with kind:=5,gK:=1+s.A%16,g:=(Qp (1+s.A%16) gnew (s.fl.map wd)).nf}) gw rfl 2 2 2 2 2 2,?_⟩
      have f:=fin {kZ with kind:=5,gK:=1+s.A%16,g:=(Qp (1+s.A%16) gnew (s.fl.map wd)).nf} (Qp (1+s.A%16) gnew (s.fl.map wd)) 2 2 2 2 2 2
      unfold skL skZL at f
      unfold skA at f⊢
      simp[kZ]at f
      simp[qi,qt,qm,r6,h5,q,f,kZ]
theorem qdg:∀(r acc:List Int),(srt acc r).length<=acc.length+r.length
 |[],acc=>by simp[srt]
 |x::r,acc=>by
  have h:=qdg r (mrg acc [x])
  have l:=qnh acc [x]
  show(srt (mrg acc [x]) r).length<=_
  simp at l⊢
  omega
theorem zai{P h:Int}{l:List Int}(hP:4<=P/\P<=8)(hl:∀n∈l,n<=65-P):∀n∈vx P l h,n<=65-P:=by
 unfold vx
 split
 ·rename_i hi
  intro n hn
  rcases zka hn with hn|rfl
  ·exact hl n hn
  ·have h1:=qel (h:=h) hP
   have h2:=hl l[yf P h] (zi6 hi)
   have e:l.getD (yf P h) 0=l[yf P h]:=by simp[hi]
   rw[e];omega
 ·exact hl
theorem qhl{P:Int}(hP:4<=P/\P<=8):∀{l a:List Int},(∀n∈a,0<=n/\n<=65-P)->∀n∈hfold P a l,0<=n/\n<=65-P
 |[],a,h=>h
 |x::l,a,h=>by
  have h1:∀n∈vx P a (hsh x),0<=n/\n<=65-P:=fun n hn=>⟨(zah hP (fun m hm=>by have:=h m hm;omega) n hn).1,zai hP (fun m hm=>(h m hm).2) n hn⟩
  exact qhl hP (l:=l) h1
theorem Jc(s:Sm)(ok:s.Ok)(hl:s.hs.length<=40)(hf:s.fl.length<=40):Fine (zW s):=by
 have z:=zgj
 have hA:=ok.A
 have hB:=ok.B
 have hw:=ok.wide
 have hk:=ok.kind
 unfold zW
 by_cases h0:s.kind%6=0
 ·rw[if_pos h0]
  have r:=Kr (yL s.few s.hs) (acc:=[]) List.Pairwise.nil
  have l:=qdg (yL s.few s.hs) []
  have l2:=Yc s.few ok.hs
  simp at l
  have u:JO (srt [] (yL s.few s.hs)):=fun n hn=>by
   have:=(qed n _ _).mp hn
   simp at this
   exact qs7 ok.hs n this
  refine⟨⟨by show(0:Int)<=0/\(0:Int)<256;omega,u,by show(srt [] (yL s.few s.hs)).length<=_;omega,z.hsL,z.rg,z.rgL,z.bs,z.bsL,z.cs,z.csL⟩,?_,Vj⟩
  rw[qY]
  exact⟨by show(0:Int)<6;omega,rfl,qdn.mpr ⟨by show(srt [] (yL s.few s.hs)).length<=_;omega,r⟩⟩
 ·rw[if_neg h0]
  by_cases h1:s.kind%6=1
  ·rw[if_pos h1]
   have l:=qvk (1+s.A%20).toNat (s.hs.map (cut s.few))
   refine⟨⟨by show(0:Int)<=1/\(1:Int)<256;omega,z.set,z.setL,by show(Qn (1+s.A%20).toNat [] (s.hs.map (cut s.few))).length<=_;omega,z.rg,z.rgL,z.bs,z.bsL,z.cs,z.csL⟩,?_,Vj⟩
   rw[qY]
   exact⟨by show(1:Int)<6;omega,rfl,XV.mpr ⟨by show 1<=1+s.A%20/\1+s.A%20<=1024;omega,by show((Qn (1+s.A%20).toNat [] (s.hs.map (cut s.few))).length:Int)<=1+s.A%20;omega,qp7 _ _⟩⟩
  ·rw[if_neg h1]
   by_cases h2:s.kind%6=2
   ·rw[if_pos h2]
    have hP:4<=4+s.A%5/\4+s.A%5<=8:=qc
    have o:=qhl hP (l:=s.hs) (a:=List.replicate (yu (4+s.A%5)) 0) (fun n hn=>by have:=zje hn;omega)
    have l:=qba (4+s.A%5) s.hs (List.replicate (yu (4+s.A%5)) 0)
    rw[zjm]at l
    have hple:=qem hP.2
    refine⟨⟨by show(0:Int)<=2/\(2:Int)<256;omega,z.set,z.setL,z.hsL,fun n hn=>by have:=o n hn;omega,by show(hfold (4+s.A%5) (List.replicate (yu (4+s.A%5)) 0) s.hs).length<=_;omega,z.bs,z.bsL,z.cs,z.csL⟩,?_,Vj⟩
    rw[qY]
    exact⟨by show(2:Int)<6;omega,rfl,qnm.mpr ⟨hP,l,fun n hn=>(o n hn).2⟩⟩
   ·rw[if_neg h2]
    by_cases h3:s.kind%6=3
    ·rw[if_pos h3]
     have hB':1<=1+s.wide%300/\1+s.wide%300<=4096:=qc
     have g:=qih (B:=1+s.wide%300) (H:=1+s.A%8) hB'.1 (r:=s.hs) (xz.nil _)
     have l:=g.len hB'.2
     refine⟨⟨by show(0:Int)<=3/\(3:Int)<256;omega,z.set,z.setL,z.hsL,z.rg,z.rgL,g.in32 hB'.2,by show(blm (1+s.wide%300) (1+s.A%8) [] s.hs).length<=_;omega,z.cs,z.csL⟩,?_,Vj⟩
     rw[qY]
     exact⟨by show(3:Int)<6;omega,rfl,qib hB' (by show 1<=1+s.A%8/\1+s.A%8<=8;omega) g⟩
    ·rw[if_neg h3]
     by_cases h4:s.kind%6=4
     ·rw[if_pos h4]
      have hR:1<=1+s.A%8/\1+s.A%8<=8:=qc
      have hC:1<=1+s.B%40/\1+s.B%40<=256:=qc
      have m:=qlk hR hC
      have l:=qbj (1+s.A%8) (1+s.B%40) (smc 0 s.hs) (List.replicate ((1+s.A%8)*(1+s.B%40)).toNat 0)
      rw[zjm]at l
      have p2:∀(r:List Int) (i:Nat),(∀n∈r,0<=n/\n<18446744073709551616)->∀p∈smc i r,0<=p.2/\p.2<4294967296:=by
       intro r
       induction r with
       |nil=>intro i _ p hp;simp[smc]at hp
       |cons x r ih=>
        intro i hr p hp
        have hx:=hr x qe
        rcases zie.mp hp with rfl|hp
        ·dsimp
         split<;>omega
        ·exact ih (i+1) (fun n hn=>hr n (by simp[hn])) p hp
      have u:=qbi (1+s.A%8) (1+s.B%40) (l:=smc 0 s.hs) (a:=List.replicate ((1+s.A%8)*(1+s.B%40)).toNat 0) (fun n hn=>by have:=zje hn;omega) (p2 s.hs 0 ok.hs)
      refine⟨⟨by show(0:Int)<=4/\(4:Int)<256;omega,z.set,z.setL,z.hsL,z.rg,z.rgL,z.bs,z.bsL,u,by show(yB (1+s.A%8) (1+s.B%40) (List.replicate ((1+s.A%8)*(1+s.B%40)).toNat 0) (smc 0 s.hs)).length<=_;omega⟩,?_,Vj⟩
      rw[qY]
      exact⟨by show(4:Int)<6;omega,rfl,qnz.mpr ⟨hR,hC,by show((yB (1+s.A%8) (1+s.B%40) (List.replicate ((1+s.A%8)*(1+s.B%40)).toNat 0) (smc 0 s.hs)).length:Int)=(1+s.A%8)*(1+s.B%40);omega⟩⟩
     ·rw[if_neg h4]
      obtain⟨gw,gc⟩:=Zw (K:=1+s.A%16) qc (zbp ok.fl) qvy (qhp qc)
      refine⟨⟨by show(0:Int)<=5/\(5:Int)<256;omega,z.set,z.setL,z.hsL,z.rg,z.rgL,z.bs,z.bsL,z.cs,z.csL⟩,?_,gw.pos⟩
      rw[qY]
      exact⟨by show(5:Int)<6;omega,rfl,gc⟩
theorem Jb(s:Sm)(ok:s.Ok):(zW s).kind=s.kind%6:=by
 have hk:=ok.kind
 unfold zW
 repeat' split
 all_goals first|(simp;omega)|rfl
def Sm.none(s:Sm):Sm:={s with hs:=[],fl:=[]}
theorem Sm.Ok.none{s:Sm}(h:s.Ok):s.none.Ok:=⟨h.kind,h.A,h.B,h.wide,by simp[Sm.none],by simp[Sm.none]⟩
theorem Yr(Z L:List AV)(h:Z.length=L.length):qm Z 0 L=some L:=by
 unfold qm
 rw[if_pos qc]
 simp[h]
structure Cl (x : SkN) (L : List AV) : Prop where
 sk:ZQ x (.agg L)
 len:L.length=23
 vl:L.all vl=true
 ro:L.map ro1=L
 k0:qi L 0=some (.int .u8 x.kind)
theorem ZQ.cl{x:SkN}{r:AV}(h:ZQ x r):∃L,r= .agg L/\L.length=23/\L.all AI.vl=true/\Cl x (L.map ro1):=by
 obtain⟨g,a,b,c,d,e,f,gw,gn,rfl⟩:=h
 refine⟨_,rfl,rfl,qe,⟨⟨g,rk a,rk b,rk c,rk d,rk e,rk f,gw,gn,by simp[skA]⟩,qe,qe,qe,by simp[qi]⟩⟩
theorem qfj(s:Sm)(ok:s.Ok)(hl:s.hs.length<=40):(zW s).set.length<=1600:=by
 have l:=qdg (yL s.few s.hs) []
 have l2:=Yc s.few ok.hs
 simp at l
 unfold zW
 repeat' split
 ·show(srt [] (yL s.few s.hs)).length<=_;omega
 all_goals exact ziv _
def By(l:List Int):Prop:=∀x∈l,0<=x/\x<256
theorem By.app{a b:List Int}(h:By a)(g:By b):By (a++b):=fun x hx=>(zip.mp hx).elim (h x) (g x)
theorem By.cons{a:Int}{b:List Int}(h:0<=a/\a<256)(g:By b):By (a::b):=fun x hx=>(zie.mp hx).elim (fun e=>by rw[e];exact h) (g x)
theorem By.nil:By []:=fun x hx=>by cases hx
theorem By.uv(n:Nat):By (uv n):=zbr n
theorem By.pk(l:List Bool):By (pk l):=fun x hx=>zdo hx
theorem qad{s:En}(h:By s.out):By (sh s).out:=by
 unfold sh
 split
 ·refine By.app (By.app h ?_) fun x hx=>?_
  ·split
   ·exact By.cons qc By.nil
   ·exact By.nil
  ·rw[zje hx];omega
 ·exact h
theorem qzy:∀(f:Nat) {s:En},By s.out->By (jI f s).out:=by
 intro f
 induction f with
 |zero=>intro s h;exact h
 |succ f ih=>
  intro s h
  unfold jI
  split
  ·exact ih (qad h)
  ·exact h
theorem zet:∀(l cs:List Nat) {s:En},By s.out->By (enc cs s l).out:=by
 intro l
 induction l with
 |nil=>intro cs s h;exact h
 |cons x r ih=>intro cs s h;exact ih _ (qzy 4 h)
theorem zex(l:List Nat):By (cod l):=qad (qad (qad (qad (qad (zet l cs0 By.nil)))))
theorem zfe(m:Nat):∀f i,i+f<=256->By (XA m f i):=by
 intro f
 induction f with
 |zero=>intro i _;exact By.nil
 |succ f ih=>
  intro i h
  unfold XA
  split
  ·exact By.cons qc (ih _ qc)
  ·exact ih _ qc
theorem ze6(m:Nat):∀f i,By (xv m f i):=by
 intro f
 induction f with
 |zero=>intro i;exact By.nil
 |succ f ih=>intro i;exact By.cons qc (ih _)
theorem zgl(m:Nat):∀f i,By (Jk m f i):=by
 intro f
 induction f with
 |zero=>intro i;exact By.nil
 |succ f ih=>
  intro i
  unfold Jk
  split
  ·exact By.nil
  ·split
   ·have:=QE m (255-i) i
    exact By.cons qc (By.cons qc (ih _))
   ·exact ih _
theorem qyv{cs:List (Nat×Nat)}:By (WA cs):=by
 have h:∀cs:List (Nat×Nat),By (Xs cs):=by
  intro cs
  induction cs with
  |nil=>exact By.nil
  |cons c r ih=>
   have k:=qeh c.2
   have a:=zdp c.2 256
   have b:=qki c.2 256
   refine By.app (By.app (By.uv _) (By.cons qc ?_)) ih
   unfold qqx
   split
   ·exact By.cons qc (zfe _ _ _ qc)
   ·split
    ·exact ze6 _ _ _
    ·exact By.cons qc (zgl _ _ _)
 exact By.app (By.uv _) (h cs)
theorem qzg(c:Int):∀(l:List Int) (i:Nat) (last:Int),By (Xt c l i last):=by
 intro l
 induction l with
 |nil=>intro i last;exact By.nil
 |cons x r ih=>intro i last;exact By.app (By.uv _) (ih _ _)
theorem zan:∀(l:List Nat) (p:Nat),By (Jz p l):=by
 intro l
 induction l with
 |nil=>intro p;exact By.nil
 |cons x r ih=>intro p;exact By.app (By.uv _) (ih _)
theorem qy7{x:SkN}(f:Fine x)(h64:H64 x):By (ku x):=by
 have hk:=f.w.kind
 have kd:=(qY.mp f.c).1
 have six:x.kind=0\/x.kind=1\/x.kind=2\/x.kind=3\/x.kind=4\/x.kind=5:=qc
 unfold ku
 rcases six with k|k|k|k|k|k
 ·rw[if_pos k];exact qyv
 ·rw[if_neg qc,if_pos k]
  obtain⟨s0,s1,s2,s3,s4⟩:=QI f k h64
  have p:=(XP (JA s3)).1
  exact By.app (By.uv _) (By.app (By.app (By.app (By.uv _) (By.cons qc By.nil)) (By.uv _)) (By.pk _))
 ·rw[if_neg qc,if_neg qc,if_pos k]
  have s:=QL f k
  exact By.cons qc (zex _)
 ·rw[if_neg qc,if_neg qc,if_neg qc,if_pos k]
  have s:=QV f k
  exact By.app (By.app (By.uv _) (By.cons qc By.nil)) (By.app (By.app (By.app (By.app (By.uv _) (By.uv _)) (By.pk _)) (By.uv _)) (By.pk _))
 ·rw[if_neg qc,if_neg qc,if_neg qc,if_neg qc,if_pos k]
  have s:=QT f k
  exact By.app (By.app (By.cons qc By.nil) (By.uv _)) (qzg _ _ _ _)
 ·rw[if_neg qc,if_neg qc,if_neg qc,if_neg qc,if_neg qc]
  have s:=QM f k
  unfold qht
  exact By.app (By.app (By.app (By.app (By.app (By.app (By.app (By.app (By.app (By.app (By.app (By.cons qc By.nil) (By.uv _)) (By.uv _)) (By.uv _)) (By.uv _)) (By.uv _)) (By.uv _)) (By.uv _)) (By.uv _)) (By.uv _)) (By.cons qc By.nil)) (zan _ _)
theorem YX(s:Sm)(ok:s.Ok):H64 (zW s):=by
 intro n hn
 unfold zW at hn
 by_cases h0:s.kind%6=0
 ·rw[if_pos h0]at hn;cases hn
 ·rw[if_neg h0]at hn
  by_cases h1:s.kind%6=1
  ·rw[if_pos h1]at hn
   obtain⟨m,hm,rfl⟩:=ziu.mp (qu6 hn)
   have:=ok.hs m hm
   unfold cut
   split<;>omega
  ·rw[if_neg h1]at hn
   split at hn
   ·cases hn
   ·split at hn
    ·cases hn
    ·split at hn<;>cases hn
def rb(l:List Int)(p:Nat)(s:Bool):Bool×Nat×Bool:=if s=true\/8*l.length<=p then(false,p,true)else(VM l p,p+1,false)
def ru(l:List Int)(most:Nat):Nat->Nat->Nat->Bool->Nat×Nat×Bool
 |0,n,p,s=>(0,p,true)
 |f+1,n,p,s=>if(rb l p s).1 then ru l most f (n+1) (rb l p s).2.1 ((rb l p s).2.2||decide (most<n+1))else(if(rb l p s).2.2 then 0 else n,(rb l p s).2.1,(rb l p s).2.2)
section
variable (b k:Nat)(l:List Int)(p:Nat)(s:Bool)(hp:Hp)(hl:l.length<=100000000)
include hl
end
theorem vK{l a r:List Int}{p:Nat}(h:l.drop p=a++r):l.drop (p+a.length)=r:=by
 rw[<-List.drop_drop,h,zk8]
theorem QP{l a r:List Int}{p:Nat}(hp:p<=l.length)(h:l.drop p=a++r):p+a.length<=l.length:=by
 have:=congrArg List.length h
 simp at this
 omega
theorem zgm{l r:List Int}{p m most:Nat}(h:l.drop p=uv m++r)(hm:m<=most)(hm2:m<18446744073709551616):rU l p 0 most=(m,p+(uv m).length,0):=by
 have g:=zg9 0 m r 0 0 0 rfl qc (by simpa using hm2) qc
 simp only[Nat.pow_zero,zi7,ziw]at g
 unfold rU
 rw[h,g]
 have h1:¬(most<m):=qc
 simp[h1]
theorem qy6{l r:List Int}{p:Nat}{c:Int}(h:l.drop p=c::r):rB l p 0=(c,p+1,0):=by
 obtain⟨e1,e2,hi,e3⟩:=qv h
 unfold rB rL
 have h1:¬(l.length-p=0):=qc
 have h2:l.getD p 0=c:=by rw[zia,e1];rfl
 have h3:(if(0:Int)=0 then l.length-p else 0)=l.length-p:=if_pos rfl
 rw[h3,if_neg h1,h2]
section
variable (b k:Nat)(l:List Int)(hl:l.length<=1000000000)(h8:By l)
include hl h8
theorem XG{p m most:Nat}{r:List Int}(h:l.drop p=uv m++r)(hm:m<=most)(hm2:most<18446744073709551616)(hp:Hp)(hpl:p<=l.length)(hr:hp.rd b 0=some (Rc k l p 0)):
 run cxX 88 [.ptr b 0 0,.sc (.int .u64 (most:Int))] hp=some (.sc (.int .u64 (m:Int)),hp.put b 0 (Rc k l (p+(uv m).length) 0)):=by
 have a:=qop b k l most p 0 hm2 hl h8 hpl hp hr
 rw[zgm h hm qc]at a
 exact a
omit h8 in
theorem Ya{p:Nat}{c:Int}{r:List Int}(h:l.drop p=c::r)(hp:Hp)(hpl:p<=l.length)(hr:hp.rd b 0=some (Rc k l p 0)):
 run cxX 90 [.ptr b 0 0] hp=some (.sc (.int .u8 c),hp.put b 0 (Rc k l (p+1) 0)):=by
 have a:=QD b k l p 0 hp hl hpl hr
 rw[qy6 h]at a
 exact a
end
section
variable (b k:Nat)(l:List Int)(hl:l.length<=1000000000)(h8:By l)
include hl h8
end
section
variable (b k:Nat)(l:List Int)(hl:l.length<=1000000000)(h8:By l)
include hl h8
end
def At(l:List Int)(p:Nat)(bs:List Bool):Prop:=p+bs.length<=8*l.length/\∀i,i<bs.length->VM l (p+i)=bs.getD i false
theorem At.pk(bs:List Bool):At (pk bs) 0 bs:=⟨by rw[vu];omega,fun i hi=>by rw[ziw];exact qij bs i hi⟩
theorem At.app{l:List Int}{p:Nat}{a c:List Bool}(h:At l p (a++c)):At l p a/\At l (p+a.length) c:=by
 obtain⟨h1,h2⟩:=h
 simp only[zh8]at h1 h2
 refine⟨⟨qc,fun i hi=>?_⟩,⟨qc,fun i hi=>?_⟩⟩
 ·rw[h2 i qc,zia,zia,zin hi]
 ·rw[zkq,h2 (a.length+i) qc,zia,zia,zil qc]
  congr 2
  omega
theorem At.cons{l:List Int}{p:Nat}{a:Bool}{c:List Bool}(h:At l p (a::c)):rb l p false=(a,p+1,false)/\At l (p+1) c:=by
 have h':At l p ([a]++c):=h
 have g:=h'.app
 refine⟨?_,by simpa using g.2⟩
 have h1:=h.1
 simp only[zid]at h1
 have h2:=h.2 0 qe
 unfold rb
 rw[if_neg qg]
 simp at h2
 rw[h2]
section
variable (c br kk jV:Nat)(t:Nat)(bl:List Int)(hkk:kk<=63)(hm:jV<=100000)(hbl:bl.length<=100000000)(h8:By bl)(hne:c≠br)
include hkk hm hbl h8 hne
end
section
variable (b c br kk t:Nat)(bl:List Int)(hs:List Nat)(hkk:kk<=63)(hm:hs.length<=4096)(hbl:bl.length<=100000000)(h8:By bl)(hne:c≠br)(h64:∀x∈hs,x<18446744073709551616)(hr:jp hs)(hq:∀g∈qK hs,g/2^kk<=4096)
include hkk hm hbl h8 hne h64 hr hq
end
theorem Kn(b k:Nat)(l:List Int)(hl:l.length<=1000000000){p:Nat}{a r:List Int}(h:l.drop p=a++r)(hp:Hp)(hpl:p<=l.length)(hr:hp.rd b 0=some (Rc k l p 0)):
 ∃t,run cxX 87 [.ptr b 0 0,.sc (.int .i64 (a.length:Int))] hp=some (S t 1 (LI .u8 a),hp.put b 0 (Rc k l (p+a.length) 0)):=by
 have q:=QP hpl h
 obtain⟨t,e⟩:=KB b k l p 0 hp a.length hl qc hpl hr
 have hL:¬(rL l p 0<a.length):=by unfold rL;rw[if_pos rfl];omega
 have ht:(l.drop p).take a.length=a:=by rw[h,zk2]
 rw[if_neg hL]at e
 by_cases h0:a.length=0
 ·have ha:a=[]:=zi9.mp h0
  subst ha
  rw[if_pos (show([]:List Int).length=0 from rfl)]at e
  have hps:=xj hr
  simp only[zi1,zjo]
  rw[hps]
  exact⟨2,e⟩
 ·rw[if_neg h0,ht]at e
  exact⟨t,e⟩
def xD(i:Nat):List Int:=(List.range i).map (fun j=>(JE j:Int))++List.replicate (256-i) 0
theorem qfe{i:Nat}(h:i<=256):(xD i).length=256:=by
 unfold xD
 simp
 omega
theorem qsv{i:Nat}(h:i<256):(xD i).set i (JE i:Int)=xD (i+1):=by
 unfold xD
 have e:256-i=(256-(i+1))+1:=qc
 rw[zlk _ _ qe,e,zkz,List.range_succ,zjp]
 simp
theorem qsw{j:Nat}(h:j<256):(xD 256).getD j 0=(JE j:Int):=by
 unfold xD
 simp[zia,h]
theorem qo0(hp:Hp):run cxX 152 [] hp=B152_3 (.ptr hp.next 0 0) (.int .i64 0) (hp.new (LI .u32 (xD 0))):=(E152 hp).trans qd
theorem cand(t:TypeId)(x y:Operand):qs Tryz.prog .and t x y (.int .u32 2197175160) (.int .u32 0)=some (.int .u32 0)/\qs Tryz.prog .and t x y (.int .u32 2197175160) (.int .u32 4294967295)=some (.int .u32 2197175160):=by
 have e1:2197175160&&&0=0:=qf
 have e2:2197175160&&&4294967295=2197175160:=qf
 have a1:=qe3 Tryz.prog t x y 2197175160 0 qf qf
 have a2:=qe3 Tryz.prog t x y 2197175160 4294967295 qf qf
 rw[e1]at a1
 rw[e2]at a2
 exact⟨a1,a2⟩
theorem cneg:unV Tryz.prog .neg (.int .u32 0)=some (.int .u32 0)/\unV Tryz.prog .neg (.int .u32 1)=some (.int .u32 4294967295):=⟨qd,qd⟩
theorem za0(x1:AV)(v2 v6:Value)(hp:Hp):∀(m j n:Nat),j+m=8->n<4294967296->B152_7 x1 v2 (.int .u32 (n:Int)) v6 (.int .i64 (j:Int)) hp=B152_7 x1 v2 (.int .u32 ((jn m n:Nat):Int)) v6 (.int .i64 8) hp:=by
 intro m
 induction m with
 |zero=>intro j n hj hn;have:j=8:=qc
        subst this;rfl
 |succ m ih=>
  intro j n hj hn
  have hlt:(j:Int)<8:=qc
  have w:IntKind.i64.wrap ((j:Int)+1)=((j+1:Nat):Int):=qh
  have s1:=fun t x y=>qdj Tryz.prog t x y n 1 qf .u64
  have s2:=fun t x y=>qe3 Tryz.prog t x y n 1 hn qf
  rw[Nat.and_one_is_mod]at s2
  have hs:=qid hn
  have z:=ih (j+1) (jM n) qc hs
  have e0:jn (m+1) n=jn m (jM n):=rfl
  rw[e0,<-z,qcx]
  have s1':∀t x y,qs Tryz.prog .shr t x y (.int .u32 (n:Int)) (.int .u64 1)=some (.int .u32 ((n/2:Nat):Int)):=s1
  have s2':∀t x y,qs Tryz.prog .and t x y (.int .u32 (n:Int)) (.int .u32 1)=some (.int .u32 ((n%2:Nat):Int)):=s2
  unfold jM at*
  rcases Nat.mod_two_eq_zero_or_one n with q|q
  ·have x3:=fun t x y=>qc7 Tryz.prog t x y (n/2) 0 qc qf
   rw[q]at s2'
   have s2'':∀t x y,qs Tryz.prog .and t x y (.int .u32 (n:Int)) (.int .u32 1)=some (.int .u32 0):=s2'
   have x3':∀t x y,qs Tryz.prog .xor t x y (.int .u32 ((n/2:Nat):Int)) (.int .u32 0)=some (.int .u32 ((n/2^^^0:Nat):Int)):=x3
   rw[if_neg qc]
   clear z ih s1 s2 s2' x3
   generalize((n/2:Nat):Int)=A at*
   generalize((n/2^^^0:Nat):Int)=C at*
   generalize((j+1:Nat):Int)=J at*
   simp[-ja,-yD,hlt,s1',s2'',cneg,cand,x3',w]
  ·have x3:=fun t x y=>qc7 Tryz.prog t x y (n/2) 2197175160 qc qf
   rw[q]at s2'
   have s2'':∀t x y,qs Tryz.prog .and t x y (.int .u32 (n:Int)) (.int .u32 1)=some (.int .u32 1):=s2'
   have x3':∀t x y,qs Tryz.prog .xor t x y (.int .u32 ((n/2:Nat):Int)) (.int .u32 2197175160)=some (.int .u32 ((n/2^^^2197175160:Nat):Int)):=x3
   rw[if_pos q]
   clear z ih s1 s2 s2' x3
   generalize((n/2:Nat):Int)=A at*
   generalize((n/2^^^2197175160:Nat):Int)=C at*
   generalize((j+1:Nat):Int)=J at*
   simp[-ja,-yD,hlt,s1',s2'',cneg,cand,x3',w]
theorem qql(b:Nat):∀(m i:Nat) (hp:Hp),i+m=256->hp.rd b 0=some (LI .u32 (xD i))->B152_3 (.ptr b 0 0) (.int .i64 (i:Int)) hp=some (.ptr b 0 0,hp.put b 0 (LI .u32 (xD 256))):=by
 intro m
 induction m with
 |zero=>
  intro i hp hi h
  have:i=256:=qc
  subst this
  rw[qcy,xj h]
  simp
 |succ m ih=>
  intro i hp hi h
  have hlt:(i:Int)<256:=qc
  have w1:IntKind.u32.wrap (i:Int)=(i:Int):=qT qc qc
  have w2:IntKind.i64.wrap ((i:Int)+1)=((i+1:Nat):Int):=qh
  have inn:=za0 (.ptr b 0 0) (.int .i64 (i:Int)) (.int .i64 (i:Int)) hp 8 0 i rfl qc
  have ix:idx 256 (.int .i64 (i:Int))=some i:=za .i64 qc
  have pn:=yU .u32 (xD i) i (JE i:Int) (by rw[qfe qc];omega)
  rw[qsv qc]at pn
  have z:=ih (i+1) (hp.put b 0 (LI .u32 (xD (i+1)))) qc (qw _ _ _)
  rw[zo]at z
  have en:B152_7 (.ptr b 0 0) (.int .i64 (i:Int)) (.int .u32 ((JE i:Nat):Int)) (.int .i64 (i:Int)) (.int .i64 8) hp=some (.ptr b 0 0,hp.put b 0 (LI .u32 (xD 256))):=by
   rw[<-z,qcx]
   generalize LI .u32 (xD (i+1))=T at*
   generalize LI .u32 (xD i)=T0 at*
   generalize((JE i:Nat):Int)=C at*
   generalize((i+1:Nat):Int)=J at*
   simp[ix,h,pn,w2]
  have e0:JE i=jn 8 i:=rfl
  rw[e0]at en
  rw[<-en,<-inn,qcy]
  simp[hlt,QR,w1]
theorem qts(hp:Hp):run cxX 152 [] hp=some (.ptr hp.next 0 0,(hp.new (LI .u32 (xD 0))).put hp.next 0 (LI .u32 (xD 256))):=by
 rw[qo0]
 exact qql hp.next 256 0 _ rfl (qF _ _)
theorem zci(n:Nat)(h:n<4294967296):unV Tryz.prog .xor (.int .u32 (n:Int))=some (.int .u32 ((4294967295-n:Nat):Int)):=by
 show some (Value.int .u32 (IntKind.u32.wrap ((BitVec.ofInt 32 4294967295^^^BitVec.ofInt 32 (n:Int)).toNat:Nat)))=_
 have e:BitVec.ofInt 32 4294967295=BitVec.allOnes 32:=qf
 rw[e,BitVec.allOnes_xor,BitVec.toNat_not,wJ 32 n h,qT qc qc]
section
variable (b k:Nat)(l:List Int)(hl:l.length<=1000000000)(h8:∀n∈l,0<=n/\n<256)(hp:Hp)(h:hp.rd b 0=some (LI .u32 (xD 256)))
include hl h8 h
theorem qsy:∀(r:List Int) (i n:Nat),l.drop i=r->i<=l.length->n<4294967296->B86_4 (.ptr b 0 0) (.int .u32 (n:Int)) (S k 1 (LI .u8 l)) (.int .i64 (l.length:Int)) (.int .i64 (i:Int)) hp=some (.sc (.int .u32 ((4294967295-qia r n:Nat):Int)),hp):=by
 intro r
 induction r with
 |nil=>
  intro i n hr hi hn
  have:=qC hr
  have hlt:¬((i:Int)<(l.length:Int)):=qc
  have un:=zci n hn
  have e0:qia [] n=n:=rfl
  rw[e0,qi4]
  generalize((4294967295-n:Nat):Int)=R at*
  simp[hlt,un]
 |cons c r ih=>
  intro i n hr hi hn
  obtain⟨e1,e2,hi',e3⟩:=qv hr
  have hc:=h8 c (zig e1)
  obtain⟨d,hd⟩:∃d:Nat,c=(d:Int):=⟨c.toNat,qc⟩
  have hlt:(i:Int)<(l.length:Int):=qc
  have hf:=za1 hn hc
  have z:=ih (i+1) (WM n c) e2 qc hf
  have e0:qia (c::r) n=qia r (WM n c):=rfl
  have s1:∀t x y,qs Tryz.prog .shr t x y (.int .u32 (n:Int)) (.int .u64 8)=some (.int .u32 ((n/256:Nat):Int)):=fun t x y=>qdj Tryz.prog t x y n 8 qf .u64
  have w1:IntKind.u8.wrap (n:Int)=((n%256:Nat):Int):=by rw[IntKind.wrap_u8];omega
  have x1:=fun t x y=>zcc Tryz.prog t x y (n%256) d qc qc
  have hj:n%256^^^d<256:=zcd qc qc
  have ix:idx 256 (.int .u8 ((n%256^^^d:Nat):Int))=some (n%256^^^d):=za .u8 hj
  have gs:=xS .u32 (xD 256) (n%256^^^d) (by rw[qfe (zif _)];exact hj)
  rw[qsw hj]at gs
  have ht:JE (n%256^^^d)<4294967296:=VG 8 qc
  have x2:=fun t x y=>qc7 Tryz.prog t x y (n/256) (JE (n%256^^^d)) qc ht
  have ef:WM n c=n/256^^^JE (n%256^^^d):=by unfold WM;rw[hd,zik]
  have w2:IntKind.i64.wrap ((i:Int)+1)=((i+1:Nat):Int):=qh
  have gs0:∀(v:Value),qi [.sc v] 0=some v:=fun _=>rfl
  have en:∀h,l[i]'h=(d:Int):=fun h=>by rw[<-hd];exact e3
  rw[e0,<-z,ef,qi4]
  clear z ih
  generalize LI .u32 (xD 256)=T at*
  generalize((n/256^^^JE (n%256^^^d):Nat):Int)=F at*
  generalize JE (n%256^^^d)=C at*
  generalize n%256^^^d=D at*
  generalize((n%256:Nat):Int)=M at*
  generalize((n/256:Nat):Int)=Q at*
  generalize((i+1:Nat):Int)=J at*
  simp[-yD,hlt,hi',gs0,en,s1,vo,w1,x1,ix,h,gs,x2,w2]
end
theorem qmr(k:Nat)(l:List Int)(hl:l.length<=1000000000)(h8:∀n∈l,0<=n/\n<256)(hp:Hp):∃hp',run cxX 86 [S k 1 (LI .u8 l)] hp=some (.sc (.int .u32 (qQ l:Int)),hp'):=by
 have o:=qts hp
 refine⟨(hp.new (LI .u32 (xD 0))).put hp.next 0 (LI .u32 (xD 256)),?_⟩
 generalize hH:(hp.new (LI .u32 (xD 0))).put hp.next 0 (LI .u32 (xD 256))=H at*
 have hr:H.rd hp.next 0=some (LI .u32 (xD 256)):=by rw[<-hH];exact qw _ _ _
 have s:=qsy hp.next (rk k) l hl h8 H hr l 0 4294967295 rfl (ziv _) qf
 have s':B86_4 (.ptr hp.next 0 0) (.int .u32 4294967295) (S (rk k) 1 (LI .u8 l)) (.int .i64 (l.length:Int)) (.int .i64 0) H=some (.sc (.int .u32 (qQ l:Int)),H):=s
 rw[E86]
 simp[o,s']
def je(n:Nat):List Int:=[((n%256:Nat):Int),((n/256%256:Nat):Int),((n/65536%256:Nat):Int),((n/16777216%256:Nat):Int)]
def qV(l:List Int):List Int:=l++je (qQ l)
theorem zx(n:Nat):(je n).length=4:=rfl
theorem jT(l:List Int):(qV l).length=l.length+4:=by simp[qV,je]
theorem yw{n:Nat}:∀x∈je n,0<=x/\x<256:=by
 intro x hx
 simp only[je,zie,zla,or_false]at hx
 omega
theorem Ko{l:List Int}(h:∀n∈l,0<=n/\n<256):∀x∈qV l,0<=x/\x<256:=by
 intro x hx
 rcases zip.mp hx with q|q
 ·exact h x q
 ·exact yw x q
theorem qso(n k m:Nat)(hk:k<=32)(hm:m=2^k)(hn:n<4294967296)(t:TypeId)(x y:Operand):qs Tryz.prog .shr t x y (.int .u32 (n:Int)) (.int .u64 (k:Int))=some (.int .u32 ((n/m:Nat):Int)):=by
 subst hm
 exact qdj Tryz.prog t x y n k hk .u64
theorem wr8(n:Nat):IntKind.u8.wrap (n:Int)=((n%256:Nat):Int):=by rw[IntKind.wrap_u8];omega
theorem qjk(n:Nat)(hn:n<4294967296)(t:TypeId)(x y:Operand):qs Tryz.prog .shr t x y (.int .u32 (n:Int)) (.int .u64 8)=some (.int .u32 ((n/256:Nat):Int))/\
 qs Tryz.prog .shr t x y (.int .u32 (n:Int)) (.int .u64 16)=some (.int .u32 ((n/65536:Nat):Int))/\qs Tryz.prog .shr t x y (.int .u32 (n:Int)) (.int .u64 24)=some (.int .u32 ((n/16777216:Nat):Int)):=
 ⟨qso n 8 256 qf qf hn t x y,qso n 16 65536 qf qf hn t x y,qso n 24 16777216 qf qf hn t x y⟩
theorem wg(k:Nat)(l:List Int)(hl:l.length<=900000)(h8:∀n∈l,0<=n/\n<256)(hp:Hp):run cxX 82 [S k 1 (LI .u8 l)] hp=some (S 1 1 (LI .u8 (qV l)),hp):=by
 obtain⟨hp',sm⟩:=qmr (rk k) l qc h8 hp0
 have hc:=Ke l
 have wp:=qjk (qQ l) hc
 have ap:=fun k=>qbu .u8 [] 1 (.inl rfl) 1 qf k l (by simpa using(by omega:l.length<=1000000))
 have ap2:=qbu .u8 l 1 (.inl rfl) 1 qf 1 (je (qQ l)) (by rw[zx];omega)
 have w0:=wr8 (qQ l)
 have w1:=wr8 (qQ l/256)
 have w2:=wr8 (qQ l/65536)
 have w3:=wr8 (qQ l/16777216)
 have e1:LI .u8 (je (qQ l))=[.sc (.int .u8 ((qQ l%256:Nat):Int)),.sc (.int .u8 ((qQ l/256%256:Nat):Int)),.sc (.int .u8 ((qQ l/65536%256:Nat):Int)),.sc (.int .u8 ((qQ l/16777216%256:Nat):Int))]:=rfl
 rw[e1]at ap2
 have e2:LI .u8 (l++je (qQ l))=LI .u8 (qV l):=rfl
 rw[e2]at ap2
 rw[E82]
 simp at ap
 generalize LI .u8 (qV l)=Z at*
 generalize((qQ l%256:Nat):Int)=A0 at*
 generalize((qQ l/256%256:Nat):Int)=A1 at*
 generalize((qQ l/65536%256:Nat):Int)=A2 at*
 generalize((qQ l/16777216%256:Nat):Int)=A3 at*
 generalize((qQ l/256:Nat):Int)=B1 at*
 generalize((qQ l/65536:Nat):Int)=B2 at*
 generalize((qQ l/16777216:Nat):Int)=B3 at*
 simp[sm,vo,w0,w1,w2,w3,wp,ap,ap2]
theorem Yg(b n:Nat)(l:List Int)(hl:l.length+4<=1000000)(hn:n<4294967296)(hp:Hp)(h:hp.rd b 0=some (Wc l)):run cxX 81 [.ptr b 0 0,.sc (.int .u32 (n:Int))] hp=some (.tup [],hp.put b 0 (Wc (l++je n))):=by
 have wp:=qjk n hn
 have pw:=kj b l (je n) 0 (by rw[zx];exact hl) hp h
 have w0:=wr8 n
 have w1:=wr8 (n/256)
 have w2:=wr8 (n/65536)
 have w3:=wr8 (n/16777216)
 have e1:LI .u8 (je n)=[.sc (.int .u8 ((n%256:Nat):Int)),.sc (.int .u8 ((n/256%256:Nat):Int)),.sc (.int .u8 ((n/65536%256:Nat):Int)),.sc (.int .u8 ((n/16777216%256:Nat):Int))]:=rfl
 rw[e1]at pw
 rw[E81]
 generalize hp.put b 0 (Wc (l++je n))=H at*
 generalize((n%256:Nat):Int)=A0 at*
 generalize((n/256%256:Nat):Int)=A1 at*
 generalize((n/65536%256:Nat):Int)=A2 at*
 generalize((n/16777216%256:Nat):Int)=A3 at*
 generalize((n/256:Nat):Int)=B1 at*
 generalize((n/65536:Nat):Int)=B2 at*
 generalize((n/16777216:Nat):Int)=B3 at*
 simp[vo,w0,w1,w2,w3,wp,pw]
theorem KA(b:Nat)(l:List Int)(hp:Hp)(h:hp.rd b 0=some (Wc l)):run cxX 80 [.ptr b 0 0] hp=some (.sc (.int .i64 (l.length:Int)),hp):=by
 rw[E80]
 simp[h,qt]
structure Frm where
 nm:List Int
 kd:Int
 pl:List Int
structure Frm.Ok (f : Frm) : Prop where
 n1:1<=f.nm.length/\f.nm.length<=255
 nb:Bt f.nm
 kd:0<=f.kd/\f.kd<6
 pl:f.pl.length<=800000
 pb:Bt f.pl
def WK(f:Frm)(k:Nat):List AV:=[.sc (st f.nm),.sc (.int .u8 f.kd),S k 1 (LI .u8 f.pl)]
def Kb(f:Frm):List Int:=[(f.nm.length:Int)]++f.nm++[f.kd]++je f.pl.length
def jb(f:Frm):List Int:=qV (Kb f)++qV f.pl
theorem JB(f:Frm):(Kb f).length=f.nm.length+6:=by simp[Kb,je]
theorem Ka(f:Frm):(jb f).length=f.nm.length+10+f.pl.length+4:=by
 unfold jb
 rw[zh8,jT,jT,JB]
 omega
theorem qeo{f:Frm}(h:f.Ok):∀x∈Kb f,0<=x/\x<256:=by
 intro x hx
 have h1:=h.n1;have h2:=h.kd
 unfold Kb at hx
 rcases zip.mp hx with q|q
 ·rcases zip.mp q with q|q
  ·rcases zip.mp q with q|q
   ·rw[zjh.mp q];omega
   ·exact h.nb x q
  ·rw[zjh.mp q];omega
 ·exact yw x q
theorem KE(f:Frm)(k:Nat)(h:f.Ok)(hp:Hp):run cxX 83 [.agg (WK f k)] hp=some (.sc (.int .i64 0),hp):=by
 have h1:=h.n1;have h2:=h.kd;have h3:=h.pl
 have sl:=Yb f.nm
 have c1:¬((f.nm.length:Int)<1):=qc
 have c2:¬((255:Int)<(f.nm.length:Int)):=qc
 have c3:¬((6:Int)<=f.kd):=qc
 have c4:¬((1048576:Int)<(f.pl.length:Int)):=qc
 unfold WK
 rw[E83]
 generalize st f.nm=N at*
 simp[qi,qt,sl,c1,c2,c3,c4,qw8]
theorem qam(f:Frm)(k:Nat)(h:f.Ok)(hp:Hp):∃hp',run cxX 37 [.agg (WK f k)] hp=some (.tup [S 1 1 (LI .u8 (jb f)),.sc (.int .i64 0)],hp'):=by
 have h1:=h.n1;have h2:=h.kd;have h3:=h.pl
 have ck:=KE f (rk k) h hp0
 have sl:=Yb f.nm
 have sb:=ZU h.nb
 have sb':List.map (fun x:UInt8=>AV.sc (.int .u8 ((x.toNat:Nat):Int))) (jg f.nm)=LI .u8 f.nm:=sb
 have w1:IntKind.u8.wrap (f.nm.length:Int)=(f.nm.length:Int):=zE qc qc
 have w2:IntKind.u32.wrap (f.pl.length:Int)=(f.pl.length:Int):=qT qc qc
 have wc0:(hp.new [S 2 1 []]).rd hp.next 0=some (Wc []):=qF hp _
 have b1:=vC hp.next [] (f.nm.length:Int) qe (hp.new [S 2 1 []]) wc0
 have b2:=fun k=>kj hp.next [(f.nm.length:Int)] f.nm k qg ((hp.new [S 2 1 []]).put hp.next 0 (Wc [(f.nm.length:Int)])) (qw _ _ _)
 have b3:=vC hp.next ([(f.nm.length:Int)]++f.nm) f.kd qg ((hp.new [S 2 1 []]).put hp.next 0 (Wc ([(f.nm.length:Int)]++f.nm))) (qw _ _ _)
 have b4:=Yg hp.next f.pl.length ([(f.nm.length:Int)]++f.nm++[f.kd]) qg qc ((hp.new [S 2 1 []]).put hp.next 0 (Wc ([(f.nm.length:Int)]++f.nm++[f.kd]))) (qw _ _ _)
 have b5:=wa hp.next (Kb f) (by rw[JB];omega) ((hp.new [S 2 1 []]).put hp.next 0 (Wc (Kb f))) (qw _ _ _)
 have c1:=wg 0 (Kb f) (by rw[JB];omega) (qeo h) hp0
 have c2:=wg (rk k) f.pl qc h.pb hp0
 have ap:=qbu .u8 (qV (Kb f)) 1 (.inl rfl) 1 qf 1 (qV f.pl) (by rw[jT,jT,JB];omega)
 have eY:qV (Kb f)++qV f.pl=jb f:=rfl
 have eH:[(f.nm.length:Int)]++f.nm++[f.kd]++je f.pl.length=Kb f:=rfl
 rw[eY]at ap
 rw[zo]at b2 b3 b4
 rw[eH]at b4
 have b1:run cxX 73 [.ptr hp.next 0 0,.sc (.int .u8 (f.nm.length:Int))] (hp.new [S 2 1 []])=some (.tup [],(hp.new [S 2 1 []]).put hp.next 0 (Wc [(f.nm.length:Int)])):=b1
 refine⟨(hp.new [S 2 1 []]).put hp.next 0 (Wc (Kb f)),?_⟩
 unfold WK at ck⊢
 rw[E37]
 have ass:Qw (st f.nm)=some ⟨(jg f.nm).toArray⟩:=rfl
 generalize(hp.new [S 2 1 []]).put hp.next 0 (Wc ([(f.nm.length:Int)]++f.nm++[f.kd]))=H3 at*
 generalize(hp.new [S 2 1 []]).put hp.next 0 (Wc ([(f.nm.length:Int)]++f.nm))=H2 at*
 generalize(hp.new [S 2 1 []]).put hp.next 0 (Wc [(f.nm.length:Int)])=H1 at*
 generalize st f.nm=N at*
 generalize LI .u8 f.nm=NB at*
 generalize LI .u8 (jb f)=YB at*
 generalize Kb f=HB at*
 generalize qV f.pl=PB at*
 simp[-List.map_map,qo,qi,qt,ck,sl,qwi,w1,b1,ass,sb,sb',b2,b3,QR,w2,b4,b5,c1,c2,ap]
theorem QB(k:Nat)(cs:List AV)(h:Nat)(hh:h<=cs.length)(hne:cs≠[]):zS 1 (S k 1 cs) none (some (.int .i64 (h:Int))) none=some (S 0 1 (cs.take h)):=by
 have b1:qH 0 ((cs.length:Nat):Int) none cs.length=some cs.length:=rfl
 have b2:qH 0 ((cs.length:Nat):Int) (some (.int .i64 (h:Int))) cs.length=some h:=by
  have:(0:Int)<=(h:Int)/\(h:Int)<=((cs.length:Nat):Int):=⟨zjy h,qc⟩
  simp only[qH,ZK,zib,this,and_self,if_true,zik]
 have key:(qH 0 ((cs.length:Nat):Int) none cs.length).bind (fun m=>(qH 0 (m:Int) (some (.int .i64 (h:Int))) cs.length).bind fun u=>(qH 0 (u:Int) none 0).bind fun l=>some (AV.sl 1 ((cs.drop (l*1)).take ((u-l)*1))))=some (AV.sl 1 (cs.take h)):=by
  rw[b1,zib,b2,zib]
  show some (AV.sl 1 ((cs.drop (0*1)).take ((h-0)*1)))=_
  rw[zkb,zj2,zmp,zi7]
 rcases zg k 1 cs with e|e|⟨e,e'⟩
 ·rw[e];simp only[zS,if_true];exact key
 ·rw[e];simp only[zS,if_true];exact key
 ·exact absurd e' hne
theorem Jg(k:Nat)(m:List Int)(a b c d:Int)(hl:m.length<=900000)(h8:∀n∈m,0<=n/\n<256)(hp:Hp):run cxX 41 [S k 1 (LI .u8 (m++[a,b,c,d]))] hp=some (.sc (.bool (decide ([a,b,c,d]=je (qQ m)))),hp):=by
 obtain⟨hp',sm⟩:=qmr 0 m qc h8 hp0
 have hc:=Ke m
 have wp:=qjk (qQ m) hc
 have w0:=wr8 (qQ m)
 have w1:=wr8 (qQ m/256)
 have w2:=wr8 (qQ m/65536)
 have w3:=wr8 (qQ m/16777216)
 have eL:LI .u8 (m++[a,b,c,d])=LI .u8 m++[.sc (.int .u8 a),.sc (.int .u8 b),.sc (.int .u8 c),.sc (.int .u8 d)]:=by simp[LI]
 have ml:(LI .u8 m).length=m.length:=qe
 have len:(LI .u8 m++[AV.sc (.int .u8 a),.sc (.int .u8 b),.sc (.int .u8 c),.sc (.int .u8 d)]).length=m.length+4:=qe
 have sl:=QB (rk k) (LI .u8 m++[.sc (.int .u8 a),.sc (.int .u8 b),.sc (.int .u8 c),.sc (.int .u8 d)]) m.length (by rw[len];omega) qe
 rw[<-ml,zk2,ml]at sl
 have z4:IntKind.i64.wrap ((m.length:Int)+4-4)=(m.length:Int):=qh
 have z0:IntKind.i64.wrap (m.length:Int)=(m.length:Int):=qh
 have z1:IntKind.i64.wrap ((m.length:Int)+1)=((m.length+1:Nat):Int):=qh
 have z2:IntKind.i64.wrap ((m.length:Int)+2)=((m.length+2:Nat):Int):=qh
 have z3:IntKind.i64.wrap ((m.length:Int)+3)=((m.length+3:Nat):Int):=qh
 have gg:∀j,(LI .u8 m++[AV.sc (.int .u8 a),.sc (.int .u8 b),.sc (.int .u8 c),.sc (.int .u8 d)])[m.length+j]?=[AV.sc (.int .u8 a),.sc (.int .u8 b),.sc (.int .u8 c),.sc (.int .u8 d)][j]?:=by
  intro j
  rw[zil (by rw[ml];omega),ml]
  congr 1
  omega
 have ix:∀j x,[AV.sc (.int .u8 a),.sc (.int .u8 b),.sc (.int .u8 c),.sc (.int .u8 d)][j]?=some x->zL 1 (S (rk k) 1 (LI .u8 m++[AV.sc (.int .u8 a),.sc (.int .u8 b),.sc (.int .u8 c),.sc (.int .u8 d)])) (.int .i64 ((m.length+j:Nat):Int))=some [x]:=by
  intro j x hx
  rw[Qo,if_pos qc,zik,gg,hx]
  rfl
 have i0:zL 1 (S (rk k) 1 (LI .u8 m++[AV.sc (.int .u8 a),.sc (.int .u8 b),.sc (.int .u8 c),.sc (.int .u8 d)])) (.int .i64 (m.length:Int))=some [.sc (.int .u8 a)]:=ix 0 _ rfl
 have i1:=ix 1 _ rfl
 have i2:=ix 2 _ rfl
 have i3:=ix 3 _ rfl
 have gs0:∀(v:Value),qi [.sc v] 0=some v:=fun _=>rfl
 have hlt:¬((m.length:Int)+4<4):=qc
 have ew:([a,b,c,d]=je (qQ m))↔(a=((qQ m%256:Nat):Int)/\b=((qQ m/256%256:Nat):Int)/\c=((qQ m/65536%256:Nat):Int)/\d=((qQ m/16777216%256:Nat):Int)):=by simp[je]
 have ed:decide ([a,b,c,d]=je (qQ m))=decide (a=((qQ m%256:Nat):Int)/\b=((qQ m/256%256:Nat):Int)/\c=((qQ m/65536%256:Nat):Int)/\d=((qQ m/16777216%256:Nat):Int)):=decide_eq_decide.mpr ew
 have yI:∀k,zd (S k 1 (LI .u8 m++[AV.sc (.int .u8 a),.sc (.int .u8 b),.sc (.int .u8 c),.sc (.int .u8 d)]))=some (m.length+4):=fun k=>by rw[qI,len]
 have c4:((m.length+4:Nat):Int)=(m.length:Int)+4:=qc
 rw[ed,eL,E41]
 clear gg ix ew ed
 generalize((m.length+1:Nat):Int)=J1 at*
 generalize((m.length+2:Nat):Int)=J2 at*
 generalize((m.length+3:Nat):Int)=J3 at*
 generalize LI .u8 m++[AV.sc (.int .u8 a),.sc (.int .u8 b),.sc (.int .u8 c),.sc (.int .u8 d)]=Z at*
 generalize((qQ m%256:Nat):Int)=A0 at*
 generalize((qQ m/256%256:Nat):Int)=A1 at*
 generalize((qQ m/65536%256:Nat):Int)=A2 at*
 generalize((qQ m/16777216%256:Nat):Int)=A3 at*
 generalize((qQ m/256:Nat):Int)=B1 at*
 generalize((qQ m/65536:Nat):Int)=B2 at*
 generalize((qQ m/16777216:Nat):Int)=B3 at*
 by_cases q0:a=A0
 ·by_cases q1:b=A1
  ·by_cases q2:c=A2
   ·simp[-Qo,-qI,yI,hlt,z0,z4,sl,sm,i0,i1,i2,i3,gs0,vo,w0,w1,w2,w3,wp,z1,z2,z3,q0,q1,q2]
   ·simp[-Qo,-qI,yI,hlt,z0,z4,sl,sm,i0,i1,i2,i3,gs0,vo,w0,w1,w2,w3,wp,z1,z2,z3,q0,q1,q2]
  ·simp[-Qo,-qI,yI,hlt,z0,z4,sl,sm,i0,i1,i2,i3,gs0,vo,w0,w1,w2,w3,wp,z1,z2,z3,q0,q1]
 ·simp[-Qo,-qI,yI,hlt,z0,z4,sl,sm,i0,i1,i2,i3,gs0,vo,w0,w1,w2,w3,wp,z1,z2,z3,q0]
theorem qkl(P:Program)(t:TypeId)(x y:Operand)(a b:Nat)(ha:a<4294967296)(hb:b<4294967296):qs P .or t x y (.int .u32 (a:Int)) (.int .u32 (b:Int))=some (.int .u32 ((a|||b:Nat):Int)):=by
 have:=Nat.or_lt_two_pow (n:=32) ha hb
 rw[yE]
 show some (Value.int .u32 (IntKind.u32.wrap ((BitVec.ofInt 32 (a:Int)|||BitVec.ofInt 32 (b:Int)).toNat:Nat)))=_
 rw[zl9,wJ 32 a ha,wJ 32 b hb,qT qc qc]
theorem qdl(P:Program)(t:TypeId)(x y:Operand)(a k m:Nat)(hk:k<=32)(hm:m=2^k)(h:a*m<4294967296):qs P .shl t x y (.int .u32 (a:Int)) (.int .u64 (k:Int))=some (.int .u32 ((a*m:Nat):Int)):=by
 subst hm
 rw[xw P t x y _ _ _ _ qc]
 have e:min (k:Int).toNat IntKind.u32.bits=k:=by
  show min (k:Int).toNat 32=k
  omega
 have e2:(2:Int)^k=((2^k:Nat):Int):=by rw[Int.natCast_pow];rfl
 rw[e,e2,<-Int.natCast_mul,qT qc qc]
theorem quh(n:Nat)(hn:n<4294967296):(n%256|||(n/256%256)*256)=n%65536/\(n%65536|||(n/65536%256)*65536)=n%16777216/\(n%16777216|||(n/16777216%256)*16777216)=n:=by
 have key:∀i b a,a<2^i->a|||b*2^i=b*2^i+a:=by
  intro i b a h
  rw[Nat.or_comm,zi3 b,zkn h]
 have k1:=key 8 (n/256%256) (n%256) (by show n%256<256;omega)
 have k2:=key 16 (n/65536%256) (n%65536) (by show n%65536<65536;omega)
 have k3:=key 24 (n/16777216%256) (n%16777216) (by show n%16777216<16777216;omega)
 refine⟨k1.trans ?_,k2.trans ?_,k3.trans ?_⟩
 ·show n/256%256*256+n%256=_;omega
 ·show n/65536%256*65536+n%65536=_;omega
 ·show n/16777216%256*16777216+n%16777216=_;omega
theorem xX(b k:Nat)(l:List Int)(hl:l.length<=1000000000)(n:Nat)(hn:n<4294967296)(p:Nat)(rest:List Int)(hd:l.drop p=je n++rest)(hp:Hp)(hpl:p<=l.length)(hr:hp.rd b 0=some (Rc k l p 0)):
 run cxX 43 [.ptr b 0 0] hp=some (.sc (.int .u32 (n:Int)),hp.put b 0 (Rc k l (p+4) 0)):=by
 obtain⟨t,rb⟩:=KB b k l p 0 hp 4 hl qf hpl hr
 have hlen:(l.drop p).length=l.length-p:=zjt
 rw[hd,zh8,zx]at hlen
 have hL:¬(rL l p 0<4):=by unfold rL;rw[if_pos rfl];omega
 rw[if_neg hL,if_neg qf,hd,<-zx n,zk2,zx]at rb
 have rb:run cxX 87 [.ptr b 0 0,.sc (.int .i64 4)] hp=some (S t 1 (LI .u8 (je n)),hp.put b 0 (Rc k l (p+4) 0)):=rb
 obtain⟨o1,o2,o3⟩:=quh n hn
 obtain⟨a0,h0⟩:∃a,a=n%256:=⟨_,rfl⟩
 obtain⟨a1,h1⟩:∃a,a=n/256%256:=⟨_,rfl⟩
 obtain⟨a2,h2⟩:∃a,a=n/65536%256:=⟨_,rfl⟩
 obtain⟨a3,h3⟩:∃a,a=n/16777216%256:=⟨_,rfl⟩
 obtain⟨c1,k1⟩:∃a,a=n/256%256*256:=⟨_,rfl⟩
 obtain⟨c2,k2⟩:∃a,a=n/65536%256*65536:=⟨_,rfl⟩
 obtain⟨c3,k3⟩:∃a,a=n/16777216%256*16777216:=⟨_,rfl⟩
 obtain⟨d1,j1⟩:∃a,a=n%65536:=⟨_,rfl⟩
 obtain⟨d2,j2⟩:∃a,a=n%16777216:=⟨_,rfl⟩
 rw[<-h0,<-k1,<-j1]at o1
 rw[<-j1,<-k2,<-j2]at o2
 rw[<-j2,<-k3]at o3
 have e1:LI .u8 (je n)=[.sc (.int .u8 (a0:Int)),.sc (.int .u8 (a1:Int)),.sc (.int .u8 (a2:Int)),.sc (.int .u8 (a3:Int))]:=by rw[h0,h1,h2,h3];rfl
 rw[e1]at rb
 have w0:IntKind.u32.wrap (a0:Int)=(a0:Int):=qT qc qc
 have w1:IntKind.u32.wrap (a1:Int)=(a1:Int):=qT qc qc
 have w2:IntKind.u32.wrap (a2:Int)=(a2:Int):=qT qc qc
 have w3:IntKind.u32.wrap (a3:Int)=(a3:Int):=qT qc qc
 have s1:∀t x y,qs Tryz.prog .shl t x y (.int .u32 (a1:Int)) (.int .u64 8)=some (.int .u32 (c1:Int)):=fun t x y=>by rw[k1,<-h1];exact qdl Tryz.prog t x y a1 8 256 qf qf qc
 have s2:∀t x y,qs Tryz.prog .shl t x y (.int .u32 (a2:Int)) (.int .u64 16)=some (.int .u32 (c2:Int)):=fun t x y=>by rw[k2,<-h2];exact qdl Tryz.prog t x y a2 16 65536 qf qf qc
 have s3:∀t x y,qs Tryz.prog .shl t x y (.int .u32 (a3:Int)) (.int .u64 24)=some (.int .u32 (c3:Int)):=fun t x y=>by rw[k3,<-h3];exact qdl Tryz.prog t x y a3 24 16777216 qf qf qc
 have r1:=fun t x y=>qkl Tryz.prog t x y a0 c1 qc qc
 have r2:=fun t x y=>qkl Tryz.prog t x y d1 c2 qc qc
 have r3:=fun t x y=>qkl Tryz.prog t x y d2 c3 qc qc
 rw[o1]at r1
 rw[o2]at r2
 rw[o3]at r3
 rw[E43]
 clear e1 o1 o2 o3 hd h0 h1 h2 h3 k1 k2 k3 j1 j2
 generalize hp.put b 0 (Rc k l (p+4) 0)=H at*
 simp[-yE,rb,qi,qnv,w0,w1,w2,w3,s1,s2,s3,r1,r2,r3]
section
variable {α:Type}(C:α->List AV)(n:Nat)
def ql(l:List α):List AV:=l.flatMap C
structure El (x : α) : Prop where
 len:(C x).length=n
 ro:(C x).map ro1=C x
 vl:(C x).all vl=true
theorem yR(x:α)(r:List α):ql C (x::r)=C x++ql C r:=rfl
theorem vD(a b:List α):ql C (a++b)=ql C a++ql C b:=by simp[ql]
theorem qgf(x:α):ql C [x]=C x:=by simp[ql]
theorem zG:∀{l:List α},(∀x∈l,El C n x)->(ql C l).length=n*l.length
 |[],_=>by simp[ql]
 |x::r,h=>by
  have ih:=zG (l:=r) (fun y hy=>h y (by simp[hy]))
  rw[yR,zh8,ih,(h x qe).len,zid,Nat.mul_succ]
  omega
theorem XN:∀{l:List α},(∀x∈l,El C n x)->(ql C l).map ro1=ql C l
 |[],_=>rfl
 |x::r,h=>by
  rw[yR,zjp,XN (fun y hy=>h y (by simp[hy])),(h x qe).ro]
theorem qmt:∀{l:List α},(∀x∈l,El C n x)->(ql C l).all vl=true
 |[],_=>rfl
 |x::r,h=>by
  rw[yR,List.all_append,qmt (fun y hy=>h y (by simp[hy])),(h x qe).vl]
  rfl
theorem KL:∀{l:List α} {i:Nat} {x:α},(∀x∈l,El C n x)->l[i]?=some x->((ql C l).drop (i*n)).take n=C x
 |[],i,x,_,h=>by cases h
 |y::r,0,x,hl,h=>by
  have:y=x:=by simpa using h
  subst this
  have e:=(hl y qe).len
  rw[yR,zkb,zj2,<-e,zk2]
 |y::r,i+1,x,hl,h=>by
  have ih:=KL (l:=r) (i:=i) (fun z hz=>hl z (by simp[hz])) (by simpa using h)
  have e:=(hl y qe).len
  have e2:(i+1)*n=(C y).length+i*n:=by rw[e,Nat.succ_mul];omega
  rw[yR,e2,<-List.drop_drop,zk8]
  exact ih
variable (hn:0<n)
include hn
theorem KK{l:List α}(hl:∀x∈l,El C n x)(h:ql C l=[]):l=[]:=by
 have h1:=congrArg List.length h
 rw[zG C n hl]at h1
 cases l with
 |nil=>rfl
 |cons x r=>
  rw[zid,Nat.mul_succ]at h1
  simp at h1
  omega
theorem kD(k:Nat){l:List α}(hl:∀x∈l,El C n x):zd (S k n (ql C l))=some l.length:=by
 have e0:(if n=1 then(ql C l).length else(ql C l).length/n)=l.length:=by
  rw[zG C n hl]
  split
  ·rename_i h;rw[h,Nat.one_mul]
  ·exact Nat.mul_div_cancel_left _ hn
 rcases zg k n (ql C l)with e|e|⟨e,e'⟩
 ·rw[e,<-e0]
  unfold zd
  first|rfl|(split<;>simp_all)
 ·rw[e,<-e0]
  unfold zd
  first|rfl|(split<;>simp_all)
 ·rw[e,KK C n hn hl e'];rfl
theorem xI(k:Nat){l:List α}{i:Nat}{x:α}(hl:∀x∈l,El C n x)(h:l[i]?=some x):zL n (S k n (ql C l)) (.int .i64 (i:Int))=some (C x):=by
 have hi:=(zih.mp h).1
 have e0:(if n=1 then(ql C l).length else(ql C l).length/n)=l.length:=by
  rw[zG C n hl]
  split
  ·rename_i h;rw[h,Nat.one_mul]
  ·exact Nat.mul_div_cancel_left _ hn
 have key:(idx (if n=1 then(ql C l).length else(ql C l).length/n) (.int .i64 (i:Int))).bind (fun i=>qo (ql C l) (i*n) n)=some (C x):=by
  rw[e0,za .i64 hi,zib]
  have hle:i*n+n<=(ql C l).length:=by
   rw[zG C n hl,zi3 n]
   have:=ziq n (show i+1<=l.length from hi)
   rw[Nat.succ_mul]at this
   exact this
  unfold qo
  rw[if_pos hle,KL C n hl h]
 rcases zg k n (ql C l)with e|e|⟨e,e'⟩
 ·rw[e];exact(if_pos rfl).trans key
 ·rw[e];exact(if_pos rfl).trans key
 ·rw[KK C n hn hl e']at h;cases h
omit hn in
theorem qe2(b k:Nat)(hb:0<b)(hk:k=1\/k=2){l:List α}{x:α}(hl:∀x∈l,El C n x)(hx:El C n x)(hf:(l.length+1)*b<=140737488355328):zh b n (S k n (ql C l)) (S 1 n (C x))=some (S k n (ql C (l++[x]))):=by
 rw[vD,qgf]
 refine ZN b n k _ _ 1 hk hx.ro (.inr (jr hb ?_))
 rw[zG C n hl,hx.len]
 have e:(n*l.length+n)*b=((l.length+1)*b)*n:=by rw[<-Nat.mul_succ,zi3 n,zj1,zi3 n b,<-Nat.mul_assoc]
 rw[e]
 exact ziq n hf
end
structure Ie where
 nm:List Int
 po:Int
 sz:Int
def zm(e:Ie):List AV:=[.sc (st e.nm),.sc (.int .i64 e.po),.sc (.int .i64 e.sz)]
theorem jP(e:Ie):El zm 3 e:=⟨rfl,rfl,rfl⟩
def gtN(a b:List Int):Bool:=!(vT a b||decide (a=b))
def Yn:List Int->List (List Int)->Bool
 |_,[]=>true
 |p,a::r=>gtN a p&&Yn a r
def wj:List (List Int)->Bool
 |[]=>true
 |a::r=>Yn a r
structure Xok (l : List Ie) : Prop where
 nl:∀e∈l,1<=e.nm.length/\e.nm.length<=255
 nb:∀e∈l,Bt e.nm
 po:∀e∈l,0<=e.po/\e.po<=1048576
 sz:∀e∈l,1<=e.sz/\e.sz<=1048576
 cs:∀(i:Nat) (e e':Ie),l[i]?=some e->l[i+1]?=some e'->e'.po=e.po+e.sz
 len:l.length<=1000
section
variable (l:List Ie)(h:Xok l)(k k':Nat)(hp:Hp)
include h
theorem qxx(i:Nat)(e:Ie)(he:l[i]?=some e) (hi0:i=0):
 B84_4 (S k 3 (ql zm l)) (S k' 3 (ql zm l)) (.int .i64 (l.length:Int)) (.int .i64 (i:Int)) hp=B84_4 (S k 3 (ql zm l)) (S k' 3 (ql zm l)) (.int .i64 (l.length:Int)) (.int .i64 ((i+1:Nat):Int)) hp:=by
 have hi:=(zih.mp he).1
 have hm:=zig he
 have h1:=h.nl e hm;have h3:=h.po e hm;have h4:=h.sz e hm;have h5:=h.len
 have ix:=xI zm 3 qf k' (fun x _=>jP x) he
 have hlt:(i:Int)<(l.length:Int):=qc
 have sl:=Yb e.nm
 have w:IntKind.i64.wrap ((i:Int)+1)=((i+1:Nat):Int):=qh
 have c1:¬((e.nm.length:Int)<1):=qc
 have c2:¬((255:Int)<(e.nm.length:Int)):=qc
 have c3:¬(e.po<0):=qc
 have c4:¬((1048576:Int)<e.po):=qc
 have c5:¬(e.sz<1):=qc
 have c6:¬((1048576:Int)<e.sz):=qc
 have c7:¬(0<i):=qc
 conv=>lhs;rw[JQ]
 generalize((i+1:Nat):Int)=J at*
 generalize ql zm l=R at*
 unfold zm at ix
 generalize st e.nm=N at*
 simp[hi,hlt,ix,qi,qo,qm,sl,c1,c2,c3,c4,c5,c6,c7,w,We,YK,qb5,qb4]
theorem qxw(i:Nat)(e p:Ie)(he:l[i+1]?=some e) (hq:l[i]?=some p):
 B84_4 (S k 3 (ql zm l)) (S k' 3 (ql zm l)) (.int .i64 (l.length:Int)) (.int .i64 ((i+1:Nat):Int)) hp=if gtN e.nm p.nm=true then B84_4 (S k 3 (ql zm l)) (S k' 3 (ql zm l)) (.int .i64 (l.length:Int)) (.int .i64 ((i+2:Nat):Int)) hp else some (.sc (.int .i64 8),hp):=by
 have hi:=(zih.mp he).1
 have hm:=zig he
 have hm':=zig hq
 have h1:=h.nl e hm;have h3:=h.po e hm;have h4:=h.sz e hm;have h5:=h.len
 have h6:=h.po p hm';have h7:=h.sz p hm'
 have cs:=h.cs i p e hq he
 have ix:=xI zm 3 qf k' (fun x _=>jP x) he
 have iy:=xI zm 3 qf (rk k) (fun x _=>jP x) hq
 have hlt:((i+1:Nat):Int)<(l.length:Int):=qc
 have sl:=Yb e.nm
 have w:IntKind.i64.wrap (((i+1:Nat):Int)+1)=((i+2:Nat):Int):=qh
 have w1:IntKind.i64.wrap (((i+1:Nat):Int)-1)=(i:Int):=qh
 have w2:IntKind.i64.wrap (p.po+p.sz)=p.po+p.sz:=qj qc qc
 have lq:=fun t x y=>zcz Tryz.prog t x y e.nm p.nm (h.nb e hm) (h.nb p hm')
 have c1:¬((e.nm.length:Int)<1):=qc
 have c2:¬((255:Int)<(e.nm.length:Int)):=qc
 have c3:¬(e.po<0):=qc
 have c4:¬((1048576:Int)<e.po):=qc
 have c5:¬(e.sz<1):=qc
 have c6:¬((1048576:Int)<e.sz):=qc
 have c7:(0:Int)<((i+1:Nat):Int):=qc
 have c3':¬(p.po+p.sz<0):=qc
 have c4':¬((1048576:Int)<p.po+p.sz):=qc
 have eg:(vT e.nm p.nm||decide (e.nm=p.nm))=!gtN e.nm p.nm:=by unfold gtN;simp
 rw[eg]at lq
 conv=>lhs;rw[JQ]
 generalize((i+2:Nat):Int)=J at*
 generalize((i+1:Nat):Int)=I at*
 generalize ql zm l=R at*
 unfold zm at ix iy
 generalize gtN e.nm p.nm=G at*
 generalize st e.nm=N at*
 generalize st p.nm=M at*
 cases G
 ·simp at lq
  simp[hi,hlt,ix,iy,qi,qo,qm,sl,c1,c2,c3,c4,c5,c6,c7,w,w1,lq,We,YK,qq9]
 ·simp at lq
  simp[hi,hlt,ix,iy,qi,qo,qm,sl,c1,c2,c3,c4,c5,c6,c7,w,w1,w2,lq,cs,c3',c4',We,YK,qb5,qb4]
theorem qsj:∀(r:List Ie) (i:Nat) (p:Ie),l.drop (i+1)=r->l[i]?=some p->B84_4 (S k 3 (ql zm l)) (S k' 3 (ql zm l)) (.int .i64 (l.length:Int)) (.int .i64 ((i+1:Nat):Int)) hp=some (.sc (.int .i64 (if Yn p.nm (r.map Ie.nm)=true then 0 else 8)),hp):=by
 intro r
 induction r with
 |nil=>
  intro i p hr hq
  have h1:=qC hr
  have hlt:¬(((i+1:Nat):Int)<(l.length:Int)):=qc
  rw[JQ]
  generalize((i+1:Nat):Int)=I at*
  simp[hlt,Yn]
 |cons e r ih=>
  intro i p hr hq
  obtain⟨e1,e2,hi,e3⟩:=qv hr
  have z:=ih (i+1) e e2 e1
  rw[qxw l h k k' hp i e p e1 hq]
  by_cases hg:gtN e.nm p.nm=true
  ·rw[if_pos hg,z]
   have er:Yn p.nm ((e::r).map Ie.nm)=Yn e.nm (r.map Ie.nm):=by
    show(gtN e.nm p.nm&&Yn e.nm (r.map Ie.nm))=_
    rw[hg,Bool.true_and]
   rw[er]
  ·rw[if_neg hg]
   have er:Yn p.nm ((e::r).map Ie.nm)=false:=by
    show(gtN e.nm p.nm&&Yn e.nm (r.map Ie.nm))=_
    have:gtN e.nm p.nm=false:=by simpa using hg
    rw[this,Bool.false_and]
   rw[er]
   rfl
theorem Zq:run cxX 84 [S k 3 (ql zm l)] hp=some (.sc (.int .i64 (if wj (l.map Ie.nm)=true then 0 else 8)),hp):=by
 have h5:=h.len
 have ln:=fun k=>kD zm 3 qf k (l:=l) (fun x _=>jP x)
 have c1:¬((1000:Int)<(l.length:Int)):=qc
 have b4:B84_4 (S k 3 (ql zm l)) (S (rk k) 3 (ql zm l)) (.int .i64 (l.length:Int)) (.int .i64 0) hp=some (.sc (.int .i64 (if wj (l.map Ie.nm)=true then 0 else 8)),hp):=by
  cases hl:l with
  |nil=>
   rw[JQ]
   simp[wj]
  |cons e r=>
   have e0:l[0]?=some e:=by rw[hl];rfl
   have o:=qxx l h k (rk k) hp 0 e e0 rfl
   have z:=qsj l h k (rk k) hp r 0 e (by rw[hl];rfl) e0
   rw[<-hl]
   have o':B84_4 (S k 3 (ql zm l)) (S (rk k) 3 (ql zm l)) (.int .i64 (l.length:Int)) (.int .i64 0) hp=_:=o.trans z
   rw[o',hl]
   rfl
 rw[E84]
 generalize(if wj (l.map Ie.nm)=true then(0:Int)else 8)=A at*
 generalize ql zm l=R at*
 simp[ln,c1,b4]
end
def xB(i:Nat)(e:Ie):List Int:=(if i=0 then uv e.po.toNat else [])++([(e.nm.length:Int)]++e.nm++uv e.sz.toNat)
def xR:List Ie->Nat->List Int
 |[],_=>[]
 |e::r,i=>xB i e++xR r (i+1)
def xH(l:List Ie):List Int:=uv l.length++xR l 0
def xY(l:List Ie):List Int:=qV (xH l)
theorem qsk{i:Nat}{e:Ie}(h1:e.nm.length<=255)(h2:e.po<=1048576)(h3:e.sz<=1048576):(xB i e).length<=276:=by
 have u1:=qu (n:=e.po.toNat) qc
 have u2:=qu (n:=e.sz.toNat) qc
 unfold xB
 simp only[zh8,ziz]
 split
 ·omega
 ·simp only[zi1];omega
theorem qjn(n:Nat):∀x∈uv n,0<=x/\x<256:=by
 intro x hx
 exact zbr n x hx
section
variable (l:List Ie)(h:Xok l)(k b:Nat)
include h
theorem qmk(i:Nat)(e:Ie)(he:l[i]?=some e) (Z:List Int) (hZ:Z.length<=600000) (hp:Hp) (hw:hp.rd b 0=some (Wc Z)) (x20:AV) (v21:Value):
 B38_11 (.ptr b 0 0) x20 v21 (.int .i64 (i:Int)) (zm e) hp=B38_7 (.ptr b 0 0) x20 v21 (.int .i64 ((i+1:Nat):Int)) (hp.put b 0 (Wc (Z++([(e.nm.length:Int)]++e.nm++uv e.sz.toNat)))):=by
 have hi:=(zih.mp he).1
 have hm:=zig he
 have h1:=h.nl e hm;have h4:=h.sz e hm;have h5:=h.len
 have sl:=Yb e.nm
 have sb:=ZU (h.nb e hm)
 have sb':List.map (fun x:UInt8=>AV.sc (.int .u8 ((x.toNat:Nat):Int))) (jg e.nm)=LI .u8 e.nm:=sb
 have ass:Qw (st e.nm)=some ⟨(jg e.nm).toArray⟩:=rfl
 have w1:IntKind.u8.wrap (e.nm.length:Int)=(e.nm.length:Int):=zE qc qc
 have w2:IntKind.u64.wrap e.sz=((e.sz.toNat:Nat):Int):=by rw[qx]<;>omega
 have w3:IntKind.i64.wrap ((i:Int)+1)=((i+1:Nat):Int):=qh
 have u2:=qu (n:=e.sz.toNat) qc
 have b1:=vC b Z (e.nm.length:Int) qc hp hw
 have b2:=fun k=>kj b (Z++[(e.nm.length:Int)]) e.nm k qg (hp.put b 0 (Wc (Z++[(e.nm.length:Int)]))) (qw _ _ _)
 have b3:=Yh b e.sz.toNat (Z++[(e.nm.length:Int)]++e.nm) qc qg (hp.put b 0 (Wc (Z++[(e.nm.length:Int)]++e.nm))) (qw _ _ _)
 rw[zo]at b2 b3
 have ea:Z++[(e.nm.length:Int)]++e.nm++uv e.sz.toNat=Z++([(e.nm.length:Int)]++e.nm++uv e.sz.toNat):=qe
 rw[ea]at b3
 rw[qrb]
 unfold zm
 generalize hp.put b 0 (Wc (Z++([(e.nm.length:Int)]++e.nm++uv e.sz.toNat)))=H3 at*
 generalize hp.put b 0 (Wc (Z++[(e.nm.length:Int)]++e.nm))=H2 at*
 generalize hp.put b 0 (Wc (Z++[(e.nm.length:Int)]))=H1 at*
 generalize((i+1:Nat):Int)=J at*
 generalize((e.sz.toNat:Nat):Int)=Q at*
 generalize st e.nm=N at*
 generalize LI .u8 e.nm=NB at*
 simp[-List.map_map,qi,sl,qwi,w1,b1,ass,sb,sb',b2,Vu,w2,b3,w3]
theorem qoe:∀(r:List Ie) (i:Nat) (Z:List Int) (hp:Hp),l.drop i=r->i<=l.length->Z.length<=30+276*i->(∀n∈Z,0<=n/\n<256)->hp.rd b 0=some (Wc Z)->
 ∃hp',B38_7 (.ptr b 0 0) (S k 3 (ql zm l)) (.int .i64 (l.length:Int)) (.int .i64 (i:Int)) hp=some (.tup [S 1 1 (LI .u8 (qV (Z++xR r i))),.sc (.int .i64 0)],hp'):=by
 have h5:=h.len
 intro r
 induction r with
 |nil=>
  intro i Z hp hr hi hZ h8 hw
  have h1:=qC hr
  have hlt:¬((i:Int)<(l.length:Int)):=qc
  have wb:=wa b Z qc hp hw
  have cp:=wg 0 Z qc h8 hp0
  refine⟨hp,?_⟩
  rw[Wg]
  simp[hlt,wb,cp,xR]
 |cons e r ih=>
  intro i Z hp hr hi hZ h8 hw
  obtain⟨e1,e2,hi',e3⟩:=qv hr
  have hm:=zig e1
  have n1:=h.nl e hm;have n2:=h.po e hm;have n3:=h.sz e hm;have n4:=h.nb e hm
  have xl:=qsk (i:=i) n1.2 n2.2 n3.2
  have hlt:(i:Int)<(l.length:Int):=qc
  have ix:=xI zm 3 qf k (fun x _=>jP x) e1
  have u1:=qu (n:=e.po.toNat) qc
  have r8:∀n∈Z++xB i e,0<=n/\n<256:=by
   intro n hn
   rcases zip.mp hn with q|q
   ·exact h8 n q
   ·unfold xB at q
    rcases zip.mp q with q|q
    ·split at q
     ·exact qjn _ n q
     ·cases q
    ·rcases zip.mp q with q|q
     ·rcases zip.mp q with q|q
      ·rw[zjh.mp q];omega
      ·exact n4 n q
     ·exact qjn _ n q
  have er:xR (e::r) i=xB i e++xR r (i+1):=rfl
  have b7:B38_7 (.ptr b 0 0) (S k 3 (ql zm l)) (.int .i64 (l.length:Int)) (.int .i64 (i:Int)) hp=B38_7 (.ptr b 0 0) (S k 3 (ql zm l)) (.int .i64 (l.length:Int)) (.int .i64 ((i+1:Nat):Int)) (hp.put b 0 (Wc (Z++xB i e))):=by
   by_cases h0:i=0
   ·subst h0
    have h0:(0:Nat)=0:=rfl
    have hpos:0<l.length:=hi'
    have ix0:zL 3 (S k 3 (ql zm l)) (.int .i64 0)=some (zm e):=ix
    have w2:IntKind.u64.wrap e.po=((e.po.toNat:Nat):Int):=by rw[qx]<;>omega
    have wu:=Yh b e.po.toNat Z qc qc hp hw
    have b11:=qmk l h b 0 e e1 (Z++uv e.po.toNat) (by rw[zh8];omega) (hp.put b 0 (Wc (Z++uv e.po.toNat))) (qw _ _ _) (S k 3 (ql zm l)) (.int .i64 (l.length:Int))
    rw[zo]at b11
    have ex:Z++uv e.po.toNat++([(e.nm.length:Int)]++e.nm++uv e.sz.toNat)=Z++xB 0 e:=by unfold xB;rw[if_pos h0,zio]
    rw[ex]at b11
    rw[<-b11]
    conv=>lhs;rw[Wg]
    generalize hp.put b 0 (Wc (Z++uv e.po.toNat))=H1 at*
    generalize((e.po.toNat:Nat):Int)=Q at*
    clear b11
    generalize ql zm l=R at*
    unfold zm at ix0⊢
    generalize st e.nm=N at*
    simp[hpos,ix0,qi,qo,qm,Vu,w2,wu]
   ·have b11:=qmk l h b i e e1 Z qc hp hw (S k 3 (ql zm l)) (.int .i64 (l.length:Int))
    have ex:Z++([(e.nm.length:Int)]++e.nm++uv e.sz.toNat)=Z++xB i e:=by unfold xB;rw[if_neg h0,zi5]
    rw[ex]at b11
    have hz:¬((i:Int)=0):=qc
    rw[<-b11]
    conv=>lhs;rw[Wg]
    clear b11
    generalize ql zm l=R at*
    unfold zm at ix⊢
    generalize st e.nm=N at*
    simp[hi',hlt,ix,qi,qo,qm,h0,hz]
  obtain⟨hp',z⟩:=ih (i+1) (Z++xB i e) (hp.put b 0 (Wc (Z++xB i e))) e2 qc (by rw[zh8];omega) r8 (qw _ _ _)
  refine⟨hp',?_⟩
  rw[b7,z,er,zio]
end
theorem qfo(l:List Ie)(h:Xok l)(k:Nat)(hp:Hp):∃hp',run cxX 38 [S k 3 (ql zm l)] hp=some (if wj (l.map Ie.nm)=true then .tup [S 1 1 (LI .u8 (xY l)),.sc (.int .i64 0)]else .tup [S 2 1 [],.sc (.int .i64 8)],hp'):=by
 have h5:=h.len
 have ck:=Zq l h (rk k) hp0
 have ln:=fun k=>kD zm 3 qf k (l:=l) (fun x _=>jP x)
 have u1:=qu (n:=l.length) qc
 have w1:IntKind.u64.wrap (l.length:Int)=(l.length:Int):=by rw[qx]<;>omega
 have wc0:(hp.new [S 2 1 []]).rd hp.next 0=some (Wc []):=qF hp _
 have wu:=Yh hp.next l.length [] qc qg (hp.new [S 2 1 []]) wc0
 rw[zi5]at wu
 by_cases hr:wj (l.map Ie.nm)=true
 ·rw[if_pos hr]at ck⊢
  obtain⟨hp',z⟩:=qoe l h (rk k) hp.next l 0 (uv l.length) ((hp.new [S 2 1 []]).put hp.next 0 (Wc (uv l.length))) rfl (ziv _) qc (qjn _) (qw _ _ _)
  have z:B38_7 (.ptr hp.next 0 0) (S (rk k) 3 (ql zm l)) (.int .i64 (l.length:Int)) (.int .i64 0) ((hp.new [S 2 1 []]).put hp.next 0 (Wc (uv l.length)))=some (.tup [S 1 1 (LI .u8 (xY l)),.sc (.int .i64 0)],hp'):=z
  refine⟨hp',?_⟩
  rw[E38]
  generalize(hp.new [S 2 1 []]).put hp.next 0 (Wc (uv l.length))=H1 at*
  generalize ql zm l=R at*
  generalize LI .u8 (xY l)=Y at*
  simp[ck,ln,Vu,w1,wu,z]
 ·rw[if_neg hr]at ck⊢
  refine⟨hp,?_⟩
  rw[E38]
  generalize ql zm l=R at*
  simp[ck]
def va(p:Frm×Nat):List AV:=WK p.1 (rk p.2)
theorem Qr(p:Frm×Nat):El va 3 p:=⟨rfl,by simp[va,WK],by simp[va,WK]⟩
def hdB:List Int:=[72,69,82,66,49,10]
def qJ:List (Frm×Nat)->Nat->List Ie
 |[],_=>[]
 |f::r,a=>⟨f.1.nm,a,(jb f.1).length⟩::qJ r (a+(jb f.1).length)
def jX:List (Frm×Nat)->List Int
 |[]=>[]
 |f::r=>jb f.1++jX r
def jQ(a n:Nat):List Int:=qV (je a++je n)
theorem vk(a n:Nat):(jQ a n).length=12:=by unfold jQ;rw[jT,zh8,zx,zx]
theorem QO:∀(l:List (Frm×Nat)) (a:Nat),(qJ l a).map Ie.nm=l.map (fun p=>p.1.nm)
 |[],_=>rfl
 |f::r,a=>by
  show f.1.nm::(qJ r _).map Ie.nm=_
  rw[QO r]
  rfl
theorem vI:∀(l:List (Frm×Nat)) (a:Nat),(qJ l a).length=l.length
 |[],_=>rfl
 |f::r,a=>by
  show(qJ r _).length+1=_
  rw[vI r]
  rfl
theorem zaq{f:Frm}(h:f.Ok):∀x∈jb f,0<=x/\x<256:=by
 intro x hx
 unfold jb at hx
 rcases zip.mp hx with q|q
 ·exact Ko (qeo h) x q
 ·exact Ko h.pb x q
section
variable (nE nB b:Nat)
theorem qqt(es:List Ie)(hx:Xok es)(Z:List Int)(x29:AV)(i:Nat)(hp:Hp)(hb:b<hp.next)(hw:hp.rd b 0=some (Wc Z))(hs:Z.length+(xY es).length+12<=900000)(hs2:Z.length+(xY es).length+12<=nB):
 ∃hp',B36_8 (.ptr b 0 0) (S 2 3 (ql zm es)) x29 (.int .i64 (i:Int)) (.int .i64 (i:Int)) [.sc (.int .i64 (nE:Int)),.sc (.int .i64 (nB:Int))] hp=
  some (if wj (es.map Ie.nm)=true then .tup [S 1 1 (LI .u8 (Z++xY es++jQ Z.length (xY es).length)),.sc (.int .i64 0)]else .tup [S 2 1 [],.sc (.int .i64 8)],hp'):=by
 have wl:=KA b Z hp hw
 obtain⟨g,xp⟩:=qfo es hx 3 hp0
 by_cases hr:wj (es.map Ie.nm)=true
 ·rw[if_pos hr]at xp⊢
  have p1:=fun k=>kj b Z (xY es) k qc hp hw
  obtain⟨H1,hH1⟩:∃H1,H1=hp.put b 0 (Wc (Z++xY es)):=⟨_,rfl⟩
  have r1:H1.rd b 0=some (Wc (Z++xY es)):=by rw[hH1];exact qw _ _ _
  have n1:b≠H1.next:=by have:H1.next=hp.next:=by rw[hH1];rfl
                        omega
  obtain⟨H2,hH2⟩:∃H2,H2=H1.new [S 2 1 []]:=⟨_,rfl⟩
  have c0:H2.rd H1.next 0=some (Wc []):=by rw[hH2];exact qF H1 _
  have w1:IntKind.u32.wrap (Z.length:Int)=(Z.length:Int):=qT qc qc
  have w2:IntKind.u32.wrap ((xY es).length:Int)=((xY es).length:Int):=qT qc qc
  have f1:=Yg H1.next Z.length [] qe qc H2 c0
  rw[zi5]at f1
  have f2:=Yg H1.next (xY es).length (je Z.length) (by rw[zx];decide) qc (H2.put H1.next 0 (Wc (je Z.length))) (qw _ _ _)
  rw[zo]at f2
  have f3:=wa H1.next (je Z.length++je (xY es).length) (by rw[zh8,zx,zx];decide) (H2.put H1.next 0 (Wc (je Z.length++je (xY es).length))) (qw _ _ _)
  have f4:=wg 0 (je Z.length++je (xY es).length) (by rw[zh8,zx,zx];decide) (fun x hx=>(zip.mp hx).elim (yw x) (yw x)) hp0
  have eF:qV (je Z.length++je (xY es).length)=jQ Z.length (xY es).length:=rfl
  rw[eF]at f4
  have fl:=vk Z.length (xY es).length
  obtain⟨H3,hH3⟩:∃H3,H3=H2.put H1.next 0 (Wc (je Z.length++je (xY es).length)):=⟨_,rfl⟩
  rw[<-hH3]at f2 f3
  have r3:H3.rd b 0=some (Wc (Z++xY es)):=by
   rw[hH3,yT _ _ n1,hH2,jH _ _ n1]
   exact r1
  have p2:=fun k=>kj b (Z++xY es) (jQ Z.length (xY es).length) k (by rw[zh8,fl];omega) H3 r3
  obtain⟨H4,hH4⟩:∃H4,H4=H3.put b 0 (Wc (Z++xY es++jQ Z.length (xY es).length)):=⟨_,rfl⟩
  rw[<-hH4]at p2
  have r4:H4.rd b 0=some (Wc (Z++xY es++jQ Z.length (xY es).length)):=by rw[hH4];exact qw _ _ _
  have wl2:=KA b _ H4 r4
  have wb:=wa b _ (by rw[zh8,zh8,fl];omega) H4 r4
  have ll:((Z++xY es++jQ Z.length (xY es).length).length:Int)=((Z.length+(xY es).length+12:Nat):Int):=by rw[zh8,zh8,fl]
  rw[ll]at wl2
  have c1:¬((nB:Int)<((Z.length+(xY es).length+12:Nat):Int)):=qc
  rw[<-hH1]at p1
  refine⟨H4,?_⟩
  rw[Wh]
  clear hH3 hH4 eF
  generalize H2.put H1.next 0 (Wc (je Z.length))=H5 at*
  generalize LI .u8 (Z++xY es++jQ Z.length (xY es).length)=Y at*
  generalize LI .u8 (jQ Z.length (xY es).length)=F at*
  generalize LI .u8 (je Z.length++je (xY es).length)=W at*
  generalize((Z.length+(xY es).length+12:Nat):Int)=N at*
  generalize ql zm es=R at*
  have lx:∀k,zd (S k 1 (LI .u8 (xY es)))=some (xY es).length:=fun k=>by rw[qI];simp
  generalize(xY es).length=M at*
  generalize LI .u8 (xY es)=X at*
  subst hH2
  simp[-qI,wl,xp,p1,QR,w1,f1,lx,w2,f2,f3,f4,p2,wl2,qi,c1,wb]
 ·rw[if_neg hr]at xp⊢
  refine⟨hp,?_⟩
  rw[Wh]
  generalize ql zm es=R at*
  simp[wl,xp]
theorem qll(l:List (Frm×Nat))(k:Nat)(hl:∀p∈l,p.1.Ok)(hn:l.length<=1000):∀(r:List (Frm×Nat)) (i:Nat) (es:List Ie) (Z:List Int) (hp:Hp),l.drop i=r->i<=l.length->Xok (es++qJ r Z.length)->es.length<=1000->b<hp.next->hp.rd b 0=some (Wc Z)->
 (Z++jX r).length+(xY (es++qJ r Z.length)).length+12<=900000->(Z++jX r).length+(xY (es++qJ r Z.length)).length+12<=nB->
 ∃hp',B36_8 (.ptr b 0 0) (S 2 3 (ql zm es)) (S k 3 (ql va l)) (.int .i64 (l.length:Int)) (.int .i64 (i:Int)) [.sc (.int .i64 (nE:Int)),.sc (.int .i64 (nB:Int))] hp=
  some (if wj ((es++qJ r Z.length).map Ie.nm)=true then .tup [S 1 1 (LI .u8 (Z++jX r++xY (es++qJ r Z.length)++jQ (Z++jX r).length (xY (es++qJ r Z.length)).length)),.sc (.int .i64 0)]else .tup [S 2 1 [],.sc (.int .i64 8)],hp'):=by
 intro r
 induction r with
 |nil=>
  intro i es Z hp hr hi hx he hb hw hs hs2
  have h1:=qC hr
  have e1:qJ [] Z.length=[]:=rfl
  have e2:Z++jX []=Z:=zi4 Z
  rw[e1,zi4]at hx
  rw[e1,e2,zi4]at hs hs2⊢
  have e3:i=l.length:=qc
  subst e3
  exact qqt nE nB b es hx Z _ l.length hp hb hw hs hs2
 |cons f r ih=>
  intro i es Z hp hr hi hx he hb hw hs hs2
  obtain⟨e1,e2,hi',e3⟩:=qv hr
  have hf:=hl f (zig e1)
  have hlt:(i:Int)<(l.length:Int):=qc
  have ix:=xI va 3 qf k (fun x _=>Qr x) e1
  obtain⟨g,fp⟩:=qam f.1 (rk f.2) hf hp0
  have wl:=KA b Z hp hw
  have yl:=Ka f.1
  have el:(Z++jX (f::r)).length=Z.length+(jb f.1).length+(jX r).length:=by
   show(Z++(jb f.1++jX r)).length=_
   simp only[zh8];omega
  rw[el]at hs hs2
  have p1:=fun k=>kj b Z (jb f.1) k qc hp hw
  have ap:=qe2 zm 3 32 2 qf (.inr rfl) (l:=es) (x:=⟨f.1.nm,Z.length,(jb f.1).length⟩) (fun x _=>jP x) (jP _) qc
  have hn1:((hp.put b 0 (Wc (Z++jb f.1)))).next=hp.next:=rfl
  have ee:es++qJ (f::r) Z.length=(es++[⟨f.1.nm,Z.length,(jb f.1).length⟩])++qJ r (Z++jb f.1).length:=by
   show es++(_::qJ r (Z.length+(jb f.1).length))=_
   rw[zh8,zio]
   rfl
  have ez:Z++jX (f::r)=Z++jb f.1++jX r:=by rw[zio];rfl
  have h32:es.length+1<=1000:=by
   have:=hx.len
   rw[ee]at this
   simp only[zh8,ziz]at this
   omega
  rw[ee]at hx hs hs2⊢
  rw[ez]
  have ez2:(Z++jb f.1++jX r).length=Z.length+(jb f.1).length+(jX r).length:=by simp only[zh8]
  obtain⟨hp',z⟩:=ih (i+1) (es++[⟨f.1.nm,Z.length,(jb f.1).length⟩]) (Z++jb f.1) (hp.put b 0 (Wc (Z++jb f.1))) e2 qc hx qg (by rw[hn1];exact hb) (qw _ _ _) (by rw[ez2];exact hs) (by rw[ez2];exact hs2)
  refine⟨hp',?_⟩
  rw[<-z]
  have w1:IntKind.i64.wrap ((Z.length:Int)+((jb f.1).length:Int))=((Z.length+(jb f.1).length:Nat):Int):=qh
  have w2:IntKind.i64.wrap ((i:Int)+1)=((i+1:Nat):Int):=qh
  have c1:¬((nB:Int)<((Z.length+(jb f.1).length:Nat):Int)):=qc
  have lx:∀k,zd (S k 1 (LI .u8 (jb f.1)))=some (jb f.1).length:=fun k=>by rw[qI];simp
  clear z ih hx hs hs2 ee ez ez2 el yl hn1
  conv=>lhs;rw[Wh]
  generalize hp.put b 0 (Wc (Z++jb f.1))=H1 at*
  generalize((i+1:Nat):Int)=J at*
  generalize((Z.length+(jb f.1).length:Nat):Int)=Q at*
  generalize ql zm (es++[⟨f.1.nm,Z.length,(jb f.1).length⟩])=R2 at*
  generalize ql zm es=R at*
  generalize ql va l=RF at*
  generalize(jb f.1).length=M at*
  generalize LI .u8 (jb f.1)=Y at*
  unfold va WK at ix
  unfold WK at fp
  unfold zm at ap
  generalize st f.1.nm=N at*
  generalize LI .u8 f.1.pl=PL at*
  generalize Z.length=ZL at*
  simp[-qI,hi',hlt,ix,qo,qi,qm,fp,wl,lx,w1,c1,ap,p1,w2]
end
theorem qhu(f:Frm×Nat)(r:List (Frm×Nat)):jX (f::r)=jb f.1++jX r:=rfl
theorem QN:∀(l:List (Frm×Nat)) (a:Nat),(∀p∈l,p.1.Ok)->a+(jX l).length<=900000->l.length<=1000->Xok (qJ l a)
 |[],a,_,_,_=>by
  exact⟨(fun e he=>nomatch he),(fun e he=>nomatch he),(fun e he=>nomatch he),(fun e he=>nomatch he),(fun i e e' h=>by cases h),ziv _⟩
 |f::r,a,hl,hs,hn=>by
  have hf:=hl f qe
  have yl:=Ka f.1
  have h1:=hf.n1
  rw[qhu,zh8]at hs
  simp only[zid]at hn
  have ih:=QN r (a+(jb f.1).length) (fun p hp=>hl p (by simp[hp])) qc qc
  have ec:qJ (f::r) a=⟨f.1.nm,a,(jb f.1).length⟩::qJ r (a+(jb f.1).length):=rfl
  rw[ec]
  refine⟨fun e he=>?_,fun e he=>?_,fun e he=>?_,fun e he=>?_,fun i e e' h h'=>?_,by rw[zid,vI];omega⟩
  ·rcases zie.mp he with q|q
   ·rw[q];exact h1
   ·exact ih.nl e q
  ·rcases zie.mp he with q|q
   ·rw[q];exact hf.nb
   ·exact ih.nb e q
  ·rcases zie.mp he with q|q
   ·rw[q];show 0<=(a:Int)/\(a:Int)<=1048576;omega
   ·exact ih.po e q
  ·rcases zie.mp he with q|q
   ·rw[q];show 1<=((jb f.1).length:Int)/\((jb f.1).length:Int)<=1048576;omega
   ·exact ih.sz e q
  ·cases i with
   |zero=>
    have q0:(⟨f.1.nm,a,(jb f.1).length⟩:Ie)=e:=zit h
    have h':(qJ r (a+(jb f.1).length))[0]?=some e':=by simpa using h'
    cases r with
    |nil=>cases h'
    |cons g r=>
     have h2:(qJ (g::r) (a+(jb f.1).length))[0]?=some ⟨g.1.nm,((a+(jb f.1).length:Nat):Int),(jb g.1).length⟩:=rfl
     have h3:(⟨g.1.nm,((a+(jb f.1).length:Nat):Int),(jb g.1).length⟩:Ie)=e':=zit (h2.symm.trans h')
     rw[<-h3,<-q0]
     show((a+(jb f.1).length:Nat):Int)=(a:Int)+((jb f.1).length:Int)
     omega
   |succ i=>exact ih.cs i e e' (by simpa using h) (by simpa using h')
def Kg(l:List (Frm×Nat)):List Int:=hdB++jX l++xY (qJ l 6)++jQ (hdB++jX l).length (xY (qJ l 6)).length
theorem vZ(en bn:Int)(hp:Hp):run cxX 31 [.agg [.sc (.int .i64 en),.sc (.int .i64 bn)]] hp=some (.agg [.sc (.int .i64 (min (max en 0) 1000)),.sc (.int .i64 (min (max bn 0) 1048576))],hp):=by
 rw[E31]
 simp[qi]
theorem qo1(l:List (Frm×Nat))(k:Nat)(hl:∀p∈l,p.1.Ok)(hn:l.length<=1000)(hs:(hdB++jX l).length+(xY (qJ l 6)).length+12<=900000)(hp:Hp):
 ∃hp',run cxX 36 [S k 3 (ql va l),.agg [.sc (.int .i64 1000),.sc (.int .i64 1048576)]] hp=some (if wj (l.map (fun p=>p.1.nm))=true then .tup [S 1 1 (LI .u8 (Kg l)),.sc (.int .i64 0)]else .tup [S 2 1 [],.sc (.int .i64 8)],hp'):=by
 have wi:=vZ 1000 1048576 hp0
 have m1:min (max (1000:Int) 0) 1000=1000:=qf
 have m2:min (max (1048576:Int) 0) 1048576=1048576:=qf
 rw[m1,m2]at wi
 have ln:=fun k=>kD va 3 qf k (l:=l) (fun x _=>Qr x)
 have c1:¬((1000:Int)<(l.length:Int)):=qc
 have wc0:(hp.new [S 2 1 []]).rd hp.next 0=some (Wc []):=qF hp _
 have p1:=kj hp.next [] hdB 0 qf (hp.new [S 2 1 []]) wc0
 rw[zi5]at p1
 have e1:LI .u8 hdB=[.sc (.int .u8 72),.sc (.int .u8 69),.sc (.int .u8 82),.sc (.int .u8 66),.sc (.int .u8 49),.sc (.int .u8 10)]:=rfl
 rw[e1]at p1
 have h6:hdB.length=6:=rfl
 have ls:(hdB++jX l).length=6+(jX l).length:=by rw[zh8,h6]
 have xo:=QN l 6 hl qc hn
 obtain⟨hp',z⟩:=qll 1000 1048576 hp.next l (rk k) hl hn l 0 [] hdB ((hp.new [S 2 1 []]).put hp.next 0 (Wc hdB)) rfl (ziv _) (by rw[zi5,h6];exact xo) qe (by show hp.next<hp.next+1;omega) (qw _ _ _)
  (by rw[zi5,h6];exact hs) (by rw[zi5,h6];omega)
 rw[zi5,h6,QO]at z
 have z:B36_8 (.ptr hp.next 0 0) (S 2 1 []) (S (rk k) 3 (ql va l)) (.int .i64 (l.length:Int)) (.int .i64 0) [.sc (.int .i64 1000),.sc (.int .i64 1048576)] ((hp.new [S 2 1 []]).put hp.next 0 (Wc hdB))=some (if wj (l.map (fun p=>p.1.nm))=true then .tup [S 1 1 (LI .u8 (Kg l)),.sc (.int .i64 0)]else .tup [S 2 1 [],.sc (.int .i64 8)],hp'):=z
 refine⟨hp',?_⟩
 rw[<-z,E36]
 generalize(hp.new [S 2 1 []]).put hp.next 0 (Wc hdB)=H1 at*
 generalize ql va l=R at*
 simp[wi,ln,c1,p1,qm,qo,qi]
theorem qf1(hp:Hp):run cxX 14 [] hp=some (.agg [.sc (.int .i64 1000),.sc (.int .i64 1048576)],hp):=by
 rw[E14]
 simp
theorem uv0:uv 0=[0]:=by rw[uv];rfl
theorem xY0:xY []=qV [0]:=by
 have e:xY []=qV (uv 0++[]):=rfl
 rw[e,uv0]
 rfl
theorem qoo(X:AV)(hl:zd X=some 0)(hr:ro X=X)(g:AV)(hp:Hp):run cxX 33 [X,g] hp=some (.tup [],hp):=by
 have ins:∀g hp,run cxX 136 [X,.sc (.int .i64 0),.sc (.int .i64 0),g] hp=some (.tup [],hp):=by
  intro g hp
  have b1:∀g,B136_1 X (.int .i64 0) (.int .i64 0) g (.int .i64 1) hp=some (.tup [],hp):=by
   intro g
   rw[qsa]
   simp
  rw[E136]
  simp[hr]
  exact b1 _
 have b7:∀g hp,B66_7 X (.int .i64 0) g (.int .i64 20) hp=some (.tup [],hp):=by
  intro g hp
  rw[qxd]
  simp
 have b2:∀g hp,B66_2 X (.int .i64 0) g (.int .i64 20) (.int .i64 0) (.int .i64 20) hp=some (.tup [],hp):=by
  intro g hp
  rw[qxe]
  simp[ins,b7,hr]
 have st:∀g hp,run cxX 66 [X,.sc (.int .i64 0),g] hp=some (.tup [],hp):=by
  intro g hp
  rw[E66]
  simp[b2,hr]
 rw[E33]
 simp[st,hl,hr]
theorem qgb(X X1 X2:AV)(hr:ro X=X)(hl:zd X=some 0)(ht:yn X1=some ())(h2:ro X1=X2)(h3:zd X2=some 0)(h4:ro X2=X2)(h5:yn X2=some ())(hp:Hp)(cn:run cxX 32 [X] hp=some (X1,hp)):run cxX 13 [X,.agg [.sc (.int .i64 1000),.sc (.int .i64 1048576)]] hp=some (.tup [S 1 1 (LI .u8 (Kg [])),.sc (.int .i64 0)],hp):=by
 have wi:=vZ 1000 1048576 hp0
 have m1:min (max (1000:Int) 0) 1000=1000:=qf
 have m2:min (max (1048576:Int) 0) 1048576=1048576:=qf
 rw[m1,m2]at wi
 obtain⟨g,cl⟩:=qo1 [] 2 (fun p hp=>nomatch hp) qf (by rw[show xY (qJ [] 6)=qV [0]from xY0];decide) hp0
 have cl:run cxX 36 [S 2 1 [],.agg [.sc (.int .i64 1000),.sc (.int .i64 1048576)]] hp0=some (.tup [S 1 1 (LI .u8 (Kg [])),.sc (.int .i64 0)],g):=cl
 have so:=fun g hp=>qoo X2 h3 h4 g hp
 rw[E13]
 generalize LI .u8 (Kg [])=Y at*
 simp[wi,qm,qo,qi,hr,hl,ht,h2,h3,h4,h5,cn,so,qxo,cl]
theorem qkc(hp:Hp):run cxX 13 [S 2 1 [],.agg [.sc (.int .i64 1000),.sc (.int .i64 1048576)]] hp=some (.tup [S 1 1 (LI .u8 (Kg [])),.sc (.int .i64 0)],hp):=by
 refine qgb (S 2 1 []) (S 2 1 []) (S 2 1 []) qe qe rfl qe qe qe rfl hp ?_
 have n0:qpy (S 2 1 [])=some true:=rfl
 rw[E32]
 simp[n0]
theorem XH(k:Nat)(cs:List AV)(i h:Nat)(hi:i<=h)(hh:h<=cs.length)(hne:cs≠[]):zS 1 (S k 1 cs) (some (.int .i64 (i:Int))) (some (.int .i64 (h:Int))) none=some (S 0 1 ((cs.drop i).take (h-i))):=by
 have b1:qH 0 ((cs.length:Nat):Int) none cs.length=some cs.length:=rfl
 have b2:qH 0 ((cs.length:Nat):Int) (some (.int .i64 (h:Int))) cs.length=some h:=by
  have:(0:Int)<=(h:Int)/\(h:Int)<=((cs.length:Nat):Int):=⟨zjy h,qc⟩
  simp only[qH,ZK,zib,this,and_self,if_true,zik]
 have b3:qH 0 ((h:Nat):Int) (some (.int .i64 (i:Int))) 0=some i:=by
  have:(0:Int)<=(i:Int)/\(i:Int)<=((h:Nat):Int):=⟨zjy i,qc⟩
  simp only[qH,ZK,zib,this,and_self,if_true,zik]
 have key:(qH 0 ((cs.length:Nat):Int) none cs.length).bind (fun m=>(qH 0 (m:Int) (some (.int .i64 (h:Int))) cs.length).bind fun u=>(qH 0 (u:Int) (some (.int .i64 (i:Int))) 0).bind fun l=>some (AV.sl 1 ((cs.drop (l*1)).take ((u-l)*1))))=some (AV.sl 1 ((cs.drop i).take (h-i))):=by
  rw[b1,zib,b2,zib,b3,zib,zi7,zi7]
 rcases zg k 1 cs with e|e|⟨e,e'⟩
 ·rw[e];simp only[zS,if_true];exact key
 ·rw[e];simp only[zS,if_true];exact key
 ·exact absurd e' hne
theorem vF(k:Nat)(m:List Int)(hl:m.length<=900000)(h8:∀n∈m,0<=n/\n<256)(hp:Hp):run cxX 41 [S k 1 (LI .u8 (qV m))] hp=some (.sc (.bool true),hp):=by
 have r:=Jg k m ((qQ m%256:Nat):Int) ((qQ m/256%256:Nat):Int) ((qQ m/65536%256:Nat):Int) ((qQ m/16777216%256:Nat):Int) hl h8 hp
 have e:[((qQ m%256:Nat):Int),((qQ m/256%256:Nat):Int),((qQ m/65536%256:Nat):Int),((qQ m/16777216%256:Nat):Int)]=je (qQ m):=rfl
 rw[e,decide_eq_true rfl]at r
 exact r
theorem Kz(k:Nat)(hp:Hp):∃hp',run cxX 44 [S k 1 (LI .u8 (qV [0]))] hp=some (.tup [S 2 1 [],.sc (.int .i64 0)],hp'):=by
 have rs:=vF (rk k) [0] qf qf hp0
 have ln:(LI .u8 (qV [0])).length=5:=rfl
 have lk:∀k,zd (S k 1 (LI .u8 (qV [0])))=some 5:=fun k=>by rw[qI,ln]
 have sl:=QB (rk k) (LI .u8 (qV [0])) 1 qf (fun h=>nomatch h)
 have e1:(LI .u8 (qV [0])).take 1=LI .u8 [0]:=rfl
 rw[e1]at sl
 have wr:=vB 0 [0] hp
 have r0:rk 0=0:=rfl
 rw[r0]at wr
 have tu:=XG hp.next 0 [0] qf (fun x hx=>by rw[zjh.mp hx];decide) (most:=1000) (p:=0) (m:=0) (r:=[]) (by rw[uv0];rfl) qf qf (hp.new (Rc 0 [0] 0 0)) (ziv _) (qF _ _)
 rw[uv0]at tu
 have tu:run cxX 88 [.ptr hp.next 0 0,.sc (.int .u64 1000)] (hp.new (Rc 0 [0] 0 0))=some (.sc (.int .u64 0),(hp.new (Rc 0 [0] 0 0)).put hp.next 0 (Rc 0 [0] 1 0)):=tu
 have en:=qfr hp.next 0 [0] 1 0 ((hp.new (Rc 0 [0] 0 0)).put hp.next 0 (Rc 0 [0] 1 0)) qf qf (qw _ _ _)
 rw[if_neg qf]at en
 have ck:=Zq [] ⟨(fun e he=>nomatch he),(fun e he=>nomatch he),(fun e he=>nomatch he),(fun e he=>nomatch he),(fun i e e' h=>by cases h),ziv _⟩ 2 hp0
 have ck:run cxX 84 [S 2 1 []] hp0=some (.sc (.int .i64 0),hp0):=ck
 refine⟨(hp.new (Rc 0 [0] 0 0)).put hp.next 0 (Rc 0 [0] 1 0),?_⟩
 have b17:B44_17 (.ptr hp.next 0 0) (S 2 1 []) ((hp.new (Rc 0 [0] 0 0)).put hp.next 0 (Rc 0 [0] 1 0))=some (.tup [S 2 1 [],.sc (.int .i64 0)],(hp.new (Rc 0 [0] 0 0)).put hp.next 0 (Rc 0 [0] 1 0)):=by
  rw[qb7]
  generalize(hp.new (Rc 0 [0] 0 0)).put hp.next 0 (Rc 0 [0] 1 0)=H at*
  simp[en,ck]
 have b12:B44_12 (.ptr hp.next 0 0) (S 2 1 []) (.int .u64 0) (.int .i64 0) (.int .u64 0) ((hp.new (Rc 0 [0] 0 0)).put hp.next 0 (Rc 0 [0] 1 0))=some (.tup [S 2 1 [],.sc (.int .i64 0)],(hp.new (Rc 0 [0] 0 0)).put hp.next 0 (Rc 0 [0] 1 0)):=by
  rw[YL]
  simp[b17]
 have b11:B44_11 (.ptr hp.next 0 0) (S 2 1 []) (.int .u64 0) (.int .i64 0) ((hp.new (Rc 0 [0] 0 0)).put hp.next 0 (Rc 0 [0] 1 0))=some (.tup [S 2 1 [],.sc (.int .i64 0)],(hp.new (Rc 0 [0] 0 0)).put hp.next 0 (Rc 0 [0] 1 0)):=by
  rw[qb8]
  exact b12
 have w5:IntKind.i64.wrap (5-4)=1:=qf
 have z1:IntKind.i64.wrap 1=1:=qf
 have sl:zS 1 (S (rk k) 1 (LI .u8 (qV [0]))) none (some (.int .i64 1)) none=some (S 0 1 (LI .u8 [0])):=sl
 rw[E44]
 generalize LI .u8 (qV [0])=Y at*
 generalize LI .u8 [0]=Z at*
 generalize(hp.new (Rc 0 [0] 0 0)).put hp.next 0 (Rc 0 [0] 1 0)=H at*
 generalize hp.new (Rc 0 [0] 0 0)=H0 at*
 simp[-qI,lk,rs,w5,z1,sl,wr,tu,b11]
theorem arY0:Kg []=hdB++qV [0]++jQ 6 5:=by
 show hdB++[]++xY []++jQ (hdB++[]).length (xY []).length=_
 rw[xY0]
 rfl
theorem qos(k:Nat)(hp:Hp):∃a t hp',run cxX 16 [S k 1 (LI .u8 (Kg [])),.agg [.sc (.int .i64 1000),.sc (.int .i64 1048576)]] hp=some (.tup [.ptr a 0 0,.sc (.int .i64 0)],hp')/\hp'.rd a 0=some [t,S 2 1 []]:=by
 have wi:=vZ 1000 1048576 hp0
 have m1:min (max (1000:Int) 0) 1000=1000:=qf
 have m2:min (max (1048576:Int) 0) 1048576=1048576:=qf
 rw[m1,m2]at wi
 rw[arY0]
 have ln:(LI .u8 (hdB++qV [0]++jQ 6 5)).length=23:=rfl
 have lk:∀k,zd (S k 1 (LI .u8 (hdB++qV [0]++jQ 6 5)))=some 23:=fun k=>by rw[qI,ln]
 have s1:=QB (rk k) (LI .u8 (hdB++qV [0]++jQ 6 5)) 6 (by rw[ln];decide) (fun h=>nomatch h)
 have e1:(LI .u8 (hdB++qV [0]++jQ 6 5)).take 6=LI .u8 hdB:=rfl
 rw[e1]at s1
 have s1:zS 1 (S (rk k) 1 (LI .u8 (hdB++qV [0]++jQ 6 5))) none (some (.int .i64 6)) none=some (S 0 1 (LI .u8 hdB)):=s1
 have bu:=xW hdB
 have s2:=yP (rk k) (LI .u8 (hdB++qV [0]++jQ 6 5)) .i64 11 qf (by rw[ln];decide)
 have e2:(LI .u8 (hdB++qV [0]++jQ 6 5)).drop (11:Int).toNat=LI .u8 (jQ 6 5):=rfl
 rw[e2]at s2
 have s3:=XH (rk k) (LI .u8 (hdB++qV [0]++jQ 6 5)) 6 11 qf (by rw[ln];decide) (fun h=>nomatch h)
 have e3:((LI .u8 (hdB++qV [0]++jQ 6 5)).drop 6).take (11-6)=LI .u8 (qV [0]):=rfl
 rw[e3]at s3
 have s3:zS 1 (S (rk k) 1 (LI .u8 (hdB++qV [0]++jQ 6 5))) (some (.int .i64 6)) (some (.int .i64 11)) none=some (S 0 1 (LI .u8 (qV [0]))):=s3
 generalize tg (rk k) (LI .u8 (hdB++qV [0]++jQ 6 5))=t2 at s2
 have cr:=vF (rk t2) (je 6++je 5) qf (fun x hx=>(zip.mp hx).elim (yw x) (yw x)) hp0
 have cr:run cxX 41 [S (rk t2) 1 (LI .u8 (jQ 6 5))] hp0=some (.sc (.bool true),hp0):=cr
 have wr:=vB (rk t2) (jQ 6 5) hp
 have w1:=xX hp.next (rk (rk t2)) (jQ 6 5) (by rw[vk];decide) 6 qf 0 (je 5++je (qQ (je 6++je 5))) rfl (hp.new (Rc (rk (rk t2)) (jQ 6 5) 0 0)) (ziv _) (qF _ _)
 have w2:=xX hp.next (rk (rk t2)) (jQ 6 5) (by rw[vk];decide) 5 qf 4 (je (qQ (je 6++je 5))) rfl ((hp.new (Rc (rk (rk t2)) (jQ 6 5) 0 0)).put hp.next 0 (Rc (rk (rk t2)) (jQ 6 5) (0+4) 0)) (by rw[vk];decide) (qw _ _ _)
 rw[zo]at w2
 obtain⟨g,xt⟩:=Kz 0 hp0
 have z1:IntKind.i64.wrap (23-12)=11:=qf
 have z2:IntKind.i64.wrap 6=6:=qf
 have z3:IntKind.i64.wrap 5=5:=qf
 have z4:IntKind.i64.wrap (6+5)=11:=qf
 have z5:IntKind.i64.wrap (11+12)=23:=qf
 have z6:IntKind.i64.wrap 11=11:=qf
 have z7:IntKind.i64.wrap 23=23:=qf
 have w1:run cxX 43 [.ptr hp.next 0 0] (hp.new (Rc (rk (rk t2)) (jQ 6 5) 0 0))=some (.sc (.int .u32 6),(hp.new (Rc (rk (rk t2)) (jQ 6 5) 0 0)).put hp.next 0 (Rc (rk (rk t2)) (jQ 6 5) (0+4) 0)):=w1
 have w2:run cxX 43 [.ptr hp.next 0 0] ((hp.new (Rc (rk (rk t2)) (jQ 6 5) 0 0)).put hp.next 0 (Rc (rk (rk t2)) (jQ 6 5) (0+4) 0))=some (.sc (.int .u32 5),(hp.new (Rc (rk (rk t2)) (jQ 6 5) 0 0)).put hp.next 0 (Rc (rk (rk t2)) (jQ 6 5) (4+4) 0)):=w2
 have ap:=fun k=>qbu .u8 [] 1 (.inl rfl) 1 qf k (hdB++qV [0]++jQ 6 5) qf
 have ex:[]++(hdB++qV [0]++jQ 6 5)=hdB++qV [0]++jQ 6 5:=rfl
 rw[ex]at ap
 have ap:∀k,zh 1 1 (S 1 1 []) (S k 1 (LI .u8 (hdB++qV [0]++jQ 6 5)))=some (S 1 1 (LI .u8 (hdB++qV [0]++jQ 6 5))):=ap
 obtain⟨H1,hH1⟩:∃H1,H1=(hp.new (Rc (rk (rk t2)) (jQ 6 5) 0 0)).put hp.next 0 (Rc (rk (rk t2)) (jQ 6 5) (4+4) 0):=⟨_,rfl⟩
 rw[<-hH1]at w2
 obtain⟨t,hb⟩:∃t,B16_21 (S k 1 (LI .u8 (hdB++qV [0]++jQ 6 5))) (.int .i64 6) (S 2 1 []) (.int .i64 6) (S 2 1 []) (.int .i64 0) (.int .i64 0) H1=some (.tup [.ptr H1.next 0 0,.sc (.int .i64 0)],H1.new [t,S 2 1 []]):=by
  refine⟨ro1 (ro1 (S 1 1 (LI .u8 (hdB++qV [0]++jQ 6 5)))),?_⟩
  rw[YQ]
  generalize LI .u8 (hdB++qV [0]++jQ 6 5)=Y at*
  simp[ap,qm]
 refine⟨H1.next,t,H1.new [t,S 2 1 []],?_,qF _ _⟩
 have b14:B16_14 (S k 1 (LI .u8 (hdB++qV [0]++jQ 6 5))) (.int .i64 6) (.int .i64 5) [.sc (.int .i64 1000),.sc (.int .i64 1048576)] H1=some (.tup [.ptr H1.next 0 0,.sc (.int .i64 0)],H1.new [t,S 2 1 []]):=by
  rw[<-hb,YR]
  generalize LI .u8 (hdB++qV [0]++jQ 6 5)=Y at*
  generalize LI .u8 (qV [0])=X at*
  simp[-qI,z4,z6,s3,xt,qi,qI]
 rw[<-b14,E16]
 clear b14 hb ap
 have hU:jg hdB=[72,69,82,66,49,10]:=qf
 generalize LI .u8 hdB=HB at*
 generalize LI .u8 (hdB++qV [0]++jQ 6 5)=Y at*
 generalize LI .u8 (jQ 6 5)=F at*
 generalize LI .u8 (qV [0])=X at*
 generalize(hp.new (Rc (rk (rk t2)) (jQ 6 5) 0 0)).put hp.next 0 (Rc (rk (rk t2)) (jQ 6 5) (0+4) 0)=H2 at*
 generalize hp.new (Rc (rk (rk t2)) (jQ 6 5) 0 0)=H0 at*
 simp[-qI,wi,qm,qo,qi,lk,s1,bu,hU,z1,s2,cr,wr,w1,w2,yb,z2,z3,z4,z5,z6,z7,hH1]
theorem ZW:∀a:List Int,vT a a=false
 |[]=>rfl
 |a::x=>by
  have ih:=ZW x
  show(decide (a<a)||(decide (a=a)&&vT x x))=false
  rw[ih];simp
theorem Kw(a b:Int)(x y:List Int):vT (a::x) (b::y)=true↔a<b\/(a=b/\vT x y=true):=by
 show(decide (a<b)||(decide (a=b)&&vT x y))=true↔_
 simp
theorem qmq(a:List Int):vT a []=false:=by cases a<;>rfl
theorem QA:∀{a b c:List Int},vT a b=true->vT b c=true->vT a c=true
 |a,b,[],_,h=>by rw[qmq]at h;cases h
 |a,[],_::_,h,_=>by rw[qmq]at h;cases h
 |[],_::_,_::_,_,_=>rfl
 |a::x,b::y,c::z,h1,h2=>by
  rw[Kw]at h1 h2⊢
  rcases h1 with h1|⟨e1,h1⟩<;>rcases h2 with h2|⟨e2,h2⟩
  ·exact .inl qc
  ·exact .inl qc
  ·exact .inl qc
  ·exact .inr ⟨qc,QA h1 h2⟩
theorem qmp:∀{a b:List Int},vT a b=false->a≠b->vT b a=true
 |[],[],_,h=>absurd rfl h
 |[],_::_,h,_=>by cases h
 |_::_,[],_,_=>rfl
 |a::x,b::y,h,hn=>by
  have h':¬(a<b\/(a=b/\vT x y=true)):=by
   rw[<-Kw,h];simp
  rw[Kw]
  by_cases e:a=b
  ·subst e
   refine .inr ⟨rfl,qmp ?_ (fun q=>hn (by rw[q]))⟩
   cases q:vT x y with
   |false=>rfl
   |true=>exact absurd (.inr ⟨rfl,q⟩) h'
  ·exact .inl qc
theorem qfh{a b:List Int}(h:vT a b=true):vT b a=false:=by
 cases q:vT b a with
 |false=>rfl
 |true=>
  have:=QA h q
  rw[ZW]at this
  cases this
structure Be where
 nm:List Int
 x:SkN
 cs:List AV
structure Be.Ok (e : Be) : Prop where
 n1:1<=e.nm.length/\e.nm.length<=60
 nb:Bt e.nm
 cl:Cl e.x e.cs
def zC(e:Be):List AV:=.sc (st e.nm)::e.cs
theorem ym{e:Be}(h:e.Ok):El zC 24 e:=by
 refine⟨by show e.cs.length+1=24;rw[h.cl.len],?_,?_⟩
 ·show ro1 (.sc (st e.nm))::e.cs.map ro1=_
  rw[h.cl.ro];rfl
 ·show(true&&e.cs.all vl)=true
  rw[h.cl.vl];rfl
def Zu:List Be->Be->List Be->List Be
 |[],x,B=>x::B
 |p::r,x,B=>if vT x.nm p.nm then Zu r x (p::B)else(p::r).reverse++x::B
def Xv(A:List Be)(x:Be):List Be:=Zu A.reverse x []
def jh(A:List Be)(R:List Be):List Be:=R.foldl Xv A
theorem qhj:∀(r:List Be) (x:Be) (B C:List Be),Zu r x (B++C)=Zu r x B++C
 |[],x,B,C=>rfl
 |p::r,x,B,C=>by
  unfold Zu
  split
  ·exact qhj r x (p::B) C
  ·simp
theorem qa9:∀(r:List Be) (x:Be) (B:List Be),(Zu r x B).Perm (x::(r++B))
 |[],x,B=>List.Perm.refl _
 |p::r,x,B=>by
  unfold Zu
  split
  ·refine(qa9 r x (p::B)).trans (List.Perm.cons x ?_)
   exact zlm
  ·refine zlm.trans (List.Perm.cons x ?_)
   exact(List.reverse_perm (p::r)).append_right B
theorem QK(A:List Be)(x:Be):(Xv A x).Perm (x::A):=by
 refine(qa9 A.reverse x []).trans ?_
 rw[zi4]
 exact List.Perm.cons x (List.reverse_perm A)
theorem yN:∀(R A:List Be),(jh A R).Perm (A++R)
 |[],A=>by rw[zi4];exact List.Perm.refl _
 |x::R,A=>by
  refine(yN R (Xv A x)).trans ?_
  refine((QK A x).append_right R).trans ?_
  exact zlm.symm
theorem Vh(A:List Be)(x:Be):(Xv A x).length=A.length+1:=(QK A x).length_eq
def Srt(l:List Be):Prop:=l.Pairwise fun a b=>vT a.nm b.nm=true
theorem qhi:∀(r:List Be) (x:Be) (B:List Be),Srt (r.reverse++B)->(∀b∈B,vT x.nm b.nm=true)->(∀b∈r,b.nm≠x.nm)->Srt (Zu r x B)
 |[],x,B,h,hB,_=>List.Pairwise.cons hB h
 |p::r,x,B,h,hB,hr=>by
  have h:Srt (r.reverse++(p::B)):=by
   rw[List.reverse_cons,zio]at h
   exact h
  unfold Zu
  split
  ·rename_i q
   refine qhi r x (p::B) h (fun b hb=>?_) (fun b hb=>hr b (by simp[hb]))
   rcases zie.mp hb with e|hb
   ·rw[e];exact q
   ·exact hB b hb
  ·rename_i q
   have hp:vT p.nm x.nm=true:=qmp (by simpa using q) (fun e=>hr p qe e.symm)
   rw[List.reverse_cons,zio]
   obtain⟨h1,h2,h3⟩:=zjx.mp h
   refine zjx.mpr ⟨h1,?_,?_⟩
   ·obtain⟨h4,h5⟩:=zii.mp h2
    refine List.Pairwise.cons (fun b hb=>?_) (List.Pairwise.cons hB h5)
    rcases zie.mp hb with e|hb
    ·rw[e];exact hp
    ·exact h4 b hb
   ·intro a ha b hb
    rcases zie.mp hb with e|hb
    ·rw[e];exact h3 a ha p qe
    ·rcases zie.mp hb with e|hb
     ·rw[e];exact QA (h3 a ha p qe) hp
     ·exact h3 a ha b (by simp[hb])
theorem qvt{A:List Be}{x:Be}(h:Srt A)(hr:∀b∈A,b.nm≠x.nm):Srt (Xv A x):=
 qhi A.reverse x [] (by simpa using h) qe (fun b hb=>hr b (by simpa using hb))
theorem Ks:∀(R A:List Be),Srt A->((A++R).map Be.nm).Nodup->Srt (jh A R)
 |[],A,h,_=>h
 |x::R,A,h,hn=>by
  have e:((Xv A x++R).map Be.nm).Perm ((A++x::R).map Be.nm):=by
   refine List.Perm.map _ ?_
   exact((QK A x).append_right R).trans zlm.symm
  refine Ks R (Xv A x) (qvt h (fun b hb q=>?_)) (e.nodup_iff.mpr hn)
  rw[zjp,zjc]at hn
  have:=(List.nodup_append.mp hn).2.2 b.nm (ziu.mpr ⟨b,hb,rfl⟩) x.nm qe
  exact this q
theorem ch24(y:Nat):Nat.add (Nat.add (Nat.add (Nat.add (Nat.add (Nat.add (Nat.add (Nat.add (Nat.add (Nat.add (Nat.add (Nat.add (Nat.add (Nat.add (Nat.add (Nat.add (Nat.add (Nat.add (Nat.add (Nat.add (Nat.add (Nat.add (Nat.add (Nat.add 0 y) y) y) y) y) y) y) y) y) y) y) y) y) y) y) y) y) y) y) y) y) y) y) y=y*24:=rfl
theorem XM{L:List Be}(hL:∀e∈L,e.Ok){i:Nat}{x:Be}(h:L[i]?=some x):qo (ql zC L) (i*24) 24=some (zC x):=by
 have hi:=(zih.mp h).1
 have hl:=zG zC 24 (fun e he=>ym (hL e he))
 unfold qo
 rw[if_pos (by rw[hl];omega),KL zC 24 (fun e he=>ym (hL e he)) h]
theorem qms{A B:List Be}{x y:Be}(hL:∀e∈A++x::B,e.Ok)(hy:y.Ok):qm (ql zC (A++x::B)) (A.length*24) (zC y)=some (ql zC (A++y::B)):=by
 have hA:(ql zC A).length=A.length*24:=by rw[zG zC 24 (fun e he=>ym (hL e (by simp[he]))),zi3]
 have hx:=(ym (hL x qe)).len
 have hl:=(ym hy).len
 have e1:ql zC (A++x::B)=ql zC A++(zC x++ql zC B):=by rw[vD,yR]
 unfold qm
 rw[e1,if_pos (by simp only[zh8,hA,hl,hx];omega),<-hA,zk2,List.drop_append,hl]
 have e2:(ql zC A).drop ((ql zC A).length+24)=[]:=zj8 qc
 have e3:(ql zC A).length+24-(ql zC A).length=(zC x).length:=qc
 rw[e2,e3,zk8,zi5,vD,yR,zio]
section
variable {α:Type}(C:α->List AV)(n:Nat)
theorem qo6{l:List α}(hl:∀x∈l,El C n x)(i:Nat):(ql C l).drop (i*n)=ql C (l.drop i):=by
 by_cases hi:i<=l.length
 ·have e:ql C l=ql C (l.take i)++ql C (l.drop i):=by rw[<-vD,zlj]
  have h1:(ql C (l.take i)).length=i*n:=by
   rw[zG C n (fun x hx=>hl x (zjs hx)),ziy,zkt hi,zi3]
  rw[e,<-h1,zk8]
 ·have h1:l.drop i=[]:=zj8 qc
  rw[h1,zj8]
  ·rfl
  ·rw[zG C n hl,zi3]
   exact ziq n qc
theorem qo5{l:List α}(hl:∀x∈l,El C n x){i:Nat}(hi:i<=l.length):(ql C l).take (i*n)=ql C (l.take i):=by
 have e:ql C l=ql C (l.take i)++ql C (l.drop i):=by rw[<-vD,zlj]
 have h1:(ql C (l.take i)).length=i*n:=by
  rw[zG C n (fun x hx=>hl x (zjs hx)),ziy,zkt hi,zi3]
 rw[e,<-h1,zk2]
theorem qvz{l:List α}(hl:∀x∈l,El C n x){i k:Nat}(h:i+k<=l.length):qo (ql C l) (i*n) (k*n)=some (ql C ((l.drop i).take k)):=by
 have h1:i*n+k*n<=(ql C l).length:=by
  rw[zG C n hl,<-Nat.add_mul,zi3]
  exact zk0 n h
 unfold qo
 rw[if_pos h1,qo6 C n hl,qo5 C n (fun x hx=>hl x (zkh hx)) (by rw[zjt];omega)]
variable (hn:0<n)
include hn
theorem qu8{l:List α}(hl:∀x∈l,El C n x):jV n (ql C l)=l.length:=Jt hn (by rw[zG C n hl,zi3])
theorem zc3{l:List α}(hl:∀x∈l,El C n x){hp:Hp}{b i k:Nat}(hb:hp.rd b 0=some (ql C l))(h:i+k<=l.length):xg hp n (.ms b 0 (i*n) k n)=some (ql C ((l.drop i).take k)):=by
 have g:=qvz C n hl h
 have e:=XN C n (l:=(l.drop i).take k) (fun x hx=>hl x (zkh (zjs hx)))
 unfold xg
 show(yk (n=n/\0<n)).bind _=_
 rw[zT ⟨rfl,hn⟩]
 show(hp.rd b 0).bind _=_
 rw[hb]
 show(qo (ql C l) (i*n) (k*n)).bind _=_
 rw[g]
 show some (List.map ro1 _)=_
 rw[e]
theorem qx9{l:List α}(hl:∀x∈l,El C n x){hp:Hp}{b:Nat}(hb:hp.rd b 0=some (ql C l)):xg hp n (.ms b 0 0 l.length n)=some (ql C l):=by
 have h:=zc3 C n hn hl (i:=0) (k:=l.length) hb qc
 rwa [zkb,zj2,zix (zif _)]at h
omit hn in
theorem qwa(B:Nat)(hB:0<B/\B<=1000){l:List α}(hl:∀x∈l,El C n x)(k:Nat)(h:k+l.length<=1000000):js B n (k*n+(ql C l).length)=true:=by
 refine jr hB.1 ?_
 rw[zG C n hl]
 have e:(k*n+n*l.length)*B=((k+l.length)*B)*n:=by rw[zi3 n,<-Nat.add_mul,zj1,zi3 n B,<-Nat.mul_assoc]
 rw[e]
 exact ziq n (zjw (zjn h hB.2) qf)
theorem qmu{l:List α}(hl:∀x∈l,El C n x)(h:l≠[]):∃y ys,ql C l=y::ys:=by
 cases e:ql C l with
 |nil=>exact absurd (KK C n hn hl e) h
 |cons y ys=>exact⟨y,ys,rfl⟩
theorem qn9(B:Nat)(hB:0<B/\B<=1000){m:List α}(hm:∀x∈m,El C n x)(hne:m≠[])(hl:m.length<=1000000)(k:Nat)(hk:k=1\/k=2)(s:AV)(hp:Hp)(hs:xg hp n s=some (ql C m)):
 zF B n (S k n []) s hp=some (.ms hp.next 0 0 m.length n,hp.new (ql C m)):=by
 have hf:=qwa C n B hB hm 0 qc
 have hm':=qu8 C n hn hm
 obtain⟨y,ys,e⟩:=qmu C n hn hm hne
 rw[e]at hs hf hm'⊢
 rw[zkb,ziw]at hf
 rw[<-hm']
 unfold zF
 rw[hs]
 rcases hk with rfl|rfl
 ·show(yk (n=n/\js B n (y::ys).length=true)).bind _=_
  rw[zT ⟨rfl,hf⟩]
  rfl
 ·show(yk (kE nil0=true/\js B n (y::ys).length=true)).bind _=_
  rw[zT ⟨rfl,hf⟩]
  rfl
omit hn in
theorem zbg(B:Nat)(k:Nat)(hk:k=1\/k=2)(s:AV)(hp:Hp)(hs:xg hp n s=some []):zF B n (S k n []) s hp=some (S k n [],hp):=by
 unfold zF
 rw[hs]
 rcases hk with rfl|rfl
 ·have e:WS B n (.us n []) []=some (.us n []):=if_pos rfl
  show(WS B n (.us n []) []).bind (fun y=>some (y,hp))=_
  rw[e]
  rfl
 ·rfl
theorem zbf(B:Nat)(hB:0<B/\B<=1000){l m:List α}(hl:∀x∈l,El C n x)(hm:∀x∈m,El C n x)(h1:l≠[])(h2:m≠[])(h:l.length+m.length<=1000000)(s:AV)(hp:Hp)(b:Nat)(hb:hp.rd b 0=some (ql C l))(hs:xg hp n s=some (ql C m)):
 zF B n (.ms b 0 0 l.length n) s hp=some (.ms hp.next 0 0 (l.length+m.length) n,(hp.del b).new (ql C (l++m))):=by
 have hf:=qwa C n B hB hm l.length h
 have hm':=qu8 C n hn hm
 have hpos:0<l.length:=zjj.mpr h1
 have hll:l.length*n<=(ql C l).length:=by rw[zG C n hl,zi3];exact zif _
 have et:(ql C l).take (l.length*n)=ql C l:=zix (by rw[zG C n hl,zi3];exact zif _)
 have er:=XN C n hl
 rw[vD]
 obtain⟨y,ys,e⟩:=qmu C n hn hm h2
 rw[e]at hs hf hm'⊢
 unfold zF
 rw[hs]
 show(yk (n=n/\0=0/\0<l.length)).bind _=_
 rw[zT ⟨rfl,rfl,hpos⟩,zib,hb,zib]
 show(yk (l.length*n<=(ql C l).length/\js B n (l.length*n+(y::ys).length)=true)).bind _=_
 rw[zT ⟨hll,hf⟩,zib]
 show some (AV.ms hp.next 0 0 (l.length+jV n (y::ys)) n,(hp.del b).new (((ql C l).take (l.length*n)).map ro1++(y::ys)))=_
 rw[et,er,hm']
end
def xK(t n b:Nat){α:Type}(l:List α):AV:=if l=[]then S t n []else .ms b 0 0 l.length n
theorem Zp(t n b:Nat){α:Type}{l:List α}(h:l≠[]):xK t n b l= .ms b 0 0 l.length n:=if_neg h
theorem qz8(t n b:Nat){α:Type}(l:List α):zd (xK t n b l)=some l.length:=by
 unfold xK
 split
 ·rename_i h
  subst h
  rcases zg t n []with e|e|⟨e,_⟩<;>rw[e]<;>simp[zd,nil0,kE]
 ·rfl
structure Be.Fin (e : Be) : Prop where
 ok:e.Ok
 fine:Fine e.x
 h64:H64 e.x
 few:(ku e.x).length<=100100
 kd:0<=e.x.kind/\e.x.kind<6
def beF(e:Be):Frm×Nat:=(⟨e.nm,e.x.kind,ku e.x⟩,0)
def JI(l:List Be):List (Frm×Nat):=l.map beF
theorem zfc{e:Be}(h:e.Fin):(beF e).1.Ok:=by
 have:=h.ok.n1;have:=h.few
 exact⟨by show 1<=e.nm.length/\e.nm.length<=255;omega,h.ok.nb,h.kd,by show(ku e.x).length<=800000;omega,qy7 h.fine h.h64⟩
theorem qlv{l:List Be}(h:∀e∈l,e.Fin):∀p∈JI l,p.1.Ok:=by
 intro p hp
 obtain⟨e,he,rfl⟩:=ziu.mp hp
 exact zfc (h e he)
theorem qn6:∀{l:List Be},(∀e∈l,e.Fin)->(jX (JI l)).length<=100174*l.length
 |[],_=>ziv _
 |e::r,h=>by
  have ih:=qn6 (l:=r) (fun p hp=>h p (by simp[hp]))
  have he:=h e qe
  have h1:=he.ok.n1;have h2:=he.few
  have yl:=Ka (beF e).1
  have e1:(beF e).1.nm.length=e.nm.length:=rfl
  have e2:(beF e).1.pl.length=(ku e.x).length:=rfl
  show(jb (beF e).1++jX (JI r)).length<=_
  rw[zh8,zid]
  omega
theorem qji:∀{l:List Ie} (i:Nat),(∀e∈l,e.nm.length<=255/\e.po<=1048576/\e.sz<=1048576)->(xR l i).length<=276*l.length
 |[],_,_=>ziv _
 |e::r,i,h=>by
  have ih:=qji (l:=r) (i+1) (fun p hp=>h p (by simp[hp]))
  have he:=h e qe
  have xl:=qsk (i:=i) he.1 he.2.1 he.2.2
  show(xB i e++xR r (i+1)).length<=_
  rw[zh8,zid]
  omega
theorem qim{l:List Be}(hn:l.length<=8)(h:∀e∈l,e.Fin):(hdB++jX (JI l)).length+(xY (qJ (JI l) 6)).length+12<=900000:=by
 have fsm:=qn6 h
 have h6:hdB.length=6:=rfl
 have bl:(JI l).length=l.length:=by simp[JI]
 have eo:=QN (JI l) 6 (qlv h) qc qc
 have xs:=qji (l:=qJ (JI l) 6) 0 (fun e he=>⟨(eo.nl e he).2,(eo.po e he).2,(eo.sz e he).2⟩)
 have u:=qu (n:=(qJ (JI l) 6).length) (by rw[vI];omega)
 rw[vI]at xs u
 unfold xY xH
 rw[jT,zh8,zh8,h6,vI]
 omega
theorem qgj:∀(l:List Be) (p:Be),(∀e∈p::l,e.Ok)->Srt (p::l)->Yn p.nm (l.map Be.nm)=true
 |[],_,_,_=>rfl
 |a::l,p,ho,h=>by
  obtain⟨h1,h2⟩:=zii.mp h
  have ih:=qgj l a (fun e he=>ho e (by simp[he])) h2
  have ha:=h1 a qe
  show(gtN a.nm p.nm&&Yn a.nm (l.map Be.nm))=true
  rw[ih]
  unfold gtN
  rw[qfh ha]
  have:a.nm≠p.nm:=fun q=>by rw[q,ZW]at ha;cases ha
  simp[this]
theorem qtz(l:List Be)(ho:∀e∈l,e.Ok)(h:Srt l):wj (l.map Be.nm)=true:=by
 cases l with
 |nil=>rfl
 |cons p l=>exact qgj l p ho h
theorem zde{L:List Be}(hL:∀e∈L,e.Ok){i:Nat}{x:Be}(h:L[i]?=some x):qi (ql zC L) (i*24)=some (st x.nm):=by
 have g:=XM hL h
 unfold qo at g
 split at g
 ·have g:=zit g
  have e:(ql zC L)[i*24]?=(zC x)[0]?:=by
   rw[<-g,zlb qf,zi0]
   rfl
  unfold qi
  rw[e]
  rfl
 ·cases g
end Go.Proofs.YtoliekekdmfngaaGreat.AI
namespace Go.Proofs.YtoliekekdmfngaaGreat.AI
open Go Go.RowKit Go.ChangeShapes Go.WideShapes Go.ChangeAt
set_option linter.unusedVariables false
set_option linter.unusedSimpArgs false
theorem Kd{β γ:Type}(D:β->List γ)(n:Nat)(hn:0<n):∀(L:List β) (i:Nat),(∀p∈L,(D p).length=n)->(L.flatMap D)[i]?=(L[i/n]?).bind fun p=>(D p)[i%n]?
 |[],i,_=>by simp
 |p::r,i,h=>by
  have hp:=h p qe
  have e:(p::r).flatMap D=D p++r.flatMap D:=rfl
  rw[e]
  by_cases hi:i<n
  ·rw[zin qc,zld hi,zju hi]
   rfl
  ·have ih:=Kd D n hn r (i-n) (fun q hq=>h q (by simp[hq]))
   have e1:i/n=(i-n)/n+1:=by rw[Nat.div_eq_sub_div hn qc]
   have e2:i%n=(i-n)%n:=Nat.mod_eq_sub_mod qc
   rw[zil qc,hp,ih,e1,e2]
   rfl
theorem Kc{β γ:Type}(D:β->List γ)(n:Nat):∀(L:List β),(∀p∈L,(D p).length=n)->(L.flatMap D).length=L.length*n
 |[],_=>by simp
 |p::r,h=>by
  have e:(p::r).flatMap D=D p++r.flatMap D:=rfl
  rw[e,zh8,Kc D n r (fun q hq=>h q (by simp[hq])),h p qe,zid,Nat.succ_mul]
  omega
section
variable {H:Type}{enc:TypeId×Value->H}{P:Program}{W:World}{fuel:Nat}{t e:TypeId}{cs:List Value}{y:DataW H×List MemPlace}
theorem qt6{α:Type}[Inhabited α](C:α->List AV)(n:Nat)(hn:0<n)(Ok:α->Prop)(ht:P.underlying t=some (.slice e))(hc:P.cellsOf e=n)
 (each:∀(m:Nat) (cs':List Value) (y':DataW H×List MemPlace),DataW.trod enc P W 0 (fun _=>true) true m e cs'=some y'->cs'.length=n->
  ∃x:α,Ok x/\(C x).length=n/\(∀a∈C x,vl a=true)/\∀(i:Nat) (a:AV) (v:Value),(C x)[i]?=some a->cs'[i]?=some v->RelR (Xw W) W a v)
 (h:DataW.trod enc P W 0 (fun _=>true) true fuel t cs=some y):∃k l v,cs=[v]/\RelR (Xw W) W (S k n (ql C l)) v/\(∀x∈l,Ok x)/\l.length<9223372036854775808:=by
 rcases DataW.trod_slice ht h with⟨hcs,_⟩|⟨a,len,cap,elems,rest,m,_,hcs,_,_,hl,hcap,hlen,hel,_,_⟩
 ·exact⟨2,[],_,hcs,.sc nil0 rfl,qe,qe⟩
 ·have each2:∀i,i<len->∃p:α×List Value,(Ok p.1/\(C p.1).length=n/\(∀a∈C p.1,vl a=true)/\∀(i:Nat) (a:AV) (v:Value),(C p.1)[i]?=some a->p.2[i]?=some v->RelR (Xw W) W a v)/\p.2.length=n/\∀j,j<n->W.cell? (a.add (i*n+j))=p.2[j]?:=by
   intro i hi
   have hb:=hel i hi
   rw[zic qc,hc,Option.bind_eq_some_iff]at hb
   obtain⟨cs',hcs',hy'⟩:=hb
   obtain⟨_,hc2,hc3⟩:=World.cells?_some hcs'
   obtain⟨x,hx⟩:=each _ _ _ hy' hc2
   refine⟨(x,cs'),hx,hc2,fun j hj=>?_⟩
   rw[<-hc3 j hj,Addr.add_add]
  have ch:∃f:Nat->α×List Value,∀i,i<len->(Ok (f i).1/\(C (f i).1).length=n/\(∀a∈C (f i).1,vl a=true)/\∀(j:Nat) (a:AV) (v:Value),(C (f i).1)[j]?=some a->(f i).2[j]?=some v->RelR (Xw W) W a v)/\(f i).2.length=n/\∀j,j<n->W.cell? (a.add (i*n+j))=(f i).2[j]?:=by
   refine⟨fun i=>if hi:i<len then(each2 i hi).choose else(default,[]),fun i hi=>?_⟩
   simp only[dif_pos hi]
   exact(each2 i hi).choose_spec
  obtain⟨f,hf⟩:=ch
  have hm:∀p∈(List.range len).map f,∃i,i<len/\p=f i:=by
   intro p hp
   obtain⟨i,hi,rfl⟩:=ziu.mp hp
   exact⟨i,by simpa using hi,rfl⟩
  have l1:∀p∈(List.range len).map f,(C p.1).length=n:=fun p hp=>by obtain⟨i,hi,rfl⟩:=hm p hp;exact(hf i hi).1.2.1
  have l2:∀p∈(List.range len).map f,p.2.length=n:=fun p hp=>by obtain⟨i,hi,rfl⟩:=hm p hp;exact(hf i hi).2.1
  have er:ql C (((List.range len).map f).map (·.1))=((List.range len).map f).flatMap (fun p=>C p.1):=by
   unfold ql
   rw[List.flatMap_map]
  have hg:∀(i:Nat),((List.range len).map f)[i]?=if i<len then some (f i)else none:=by
   intro i
   rw[zir]
   by_cases h:i<len
   ·rw[if_pos h,zko h];rfl
   ·rw[if_neg h,zjd (by simpa using h)];rfl
  have ll:((List.range len).map f).length=len:=qe
  refine⟨0,((List.range len).map f).map (·.1),_,hcs,?_,?_,by rw[zjg,ll];unfold maxLen at hcap;omega⟩
  ·have:=qlx (W:=W) (a:=a) (n:=len) (cap:=cap) (sz:=n) (cs:=ql C (((List.range len).map f).map (·.1))) (vs:=((List.range len).map f).flatMap (fun p:α×List Value=>p.2)) hn
    (by rw[er,Kc _ n _ l1,ll]) (by rw[er,Kc _ n _ l1,Kc _ n _ l2]) hl
    (fun i v hv=>by
     have hv:=(Kd (fun p:α×List Value=>p.2) n hn _ i l2).symm.trans hv
     rw[hg]at hv
     by_cases hi:i/n<len
     ·rw[if_pos hi]at hv
      have q:=(hf _ hi).2.2 (i%n) (zl6 _ hn)
      have e:i/n*n+i%n=i:=Nat.div_add_mod' i n
      rw[e]at q
      exact q.trans hv
     ·rw[if_neg hi]at hv;cases hv)
    (fun x hx=>by
     rw[er]at hx
     obtain⟨p,hp,hx⟩:=zl2.mp hx
     obtain⟨i,hi,rfl⟩:=hm p hp
     exact(hf i hi).1.2.2.1 x hx)
    (fun i x v hx hv=>by
     rw[er]at hx
     have hx:=(Kd (fun p:α×List Value=>C p.1) n hn _ i l1).symm.trans hx
     have hv:=(Kd (fun p:α×List Value=>p.2) n hn _ i l2).symm.trans hv
     rw[hg]at hx hv
     by_cases hi:i/n<len
     ·rw[if_pos hi]at hv hx
      exact(hf _ hi).1.2.2.2 _ x v hx hv
     ·rw[if_neg hi]at hv;cases hv)
   exact this (fun _=>.fr)
  ·intro x hx
   obtain⟨p,hp,rfl⟩:=ziu.mp hx
   obtain⟨i,hi,rfl⟩:=hm p hp
   exact(hf i hi).1.1
end
structure S20 where
 nm:List Int
 k:Nat
 kd:Int
 pl:List Int
 k':Nat
deriving Inhabited
structure S20.Ok (x : S20) : Prop where
 k:x.k=0\/(x.k=2/\x.nm=[])
 k':x.k'=0\/(x.k'=2/\x.pl=[])
 nm:∀n∈x.nm,0<=n/\n<256
 kd:0<=x.kd/\x.kd<256
 pl:∀n∈x.pl,0<=n/\n<256
end Go.Proofs.YtoliekekdmfngaaGreat.AI
namespace Go.Proofs.YtoliekekdmfngaaGreat.AI
open Go Go.RowKit Go.ChangeShapes Go.WideShapes Go.ChangeAt
set_option linter.unusedVariables false
set_option linter.unusedSimpArgs false
theorem vlP:∀(l:List (Int×Int)) (x:AV),x∈LP l->vl x=true
 |[],x,h=>by cases h
 |p::l,x,h=>by
  simp only[LP,zie]at h
  rcases h with rfl|rfl|h
  ·rfl
  ·rfl
  ·exact vlP l x h
def VP:List (Int×Int)->List Value
 |[]=>[]
 |p::l=>.int .u64 p.1::.int .u8 p.2::VP l
theorem zb2:∀l,(VP l).length=2*l.length
 |[]=>rfl
 |p::l=>by simp only[VP,zid,zb2 l];omega
theorem zb6:∀(l:List (Int×Int)) (i:Nat) (v:Value),(VP l)[i]?=some v->∃p,l[i/2]?=some p/\v=if i%2=0 then .int .u64 p.1 else .int .u8 p.2
 |[],i,v,h=>by simp[VP]at h
 |p::l,0,v,h=>by
  simp only[VP,zkx,zlw]at h
  exact⟨p,rfl,by simp[h]⟩
 |p::l,1,v,h=>by
  simp only[VP,zkl,zkx,zlw]at h
  exact⟨p,rfl,by simp[h]⟩
 |p::l,i+2,v,h=>by
  simp only[VP,zkl]at h
  obtain⟨q,h1,h2⟩:=zb6 l i v h
  refine⟨q,?_,?_⟩
  ·rw[show(i+2)/2=i/2+1 by omega,zkl];exact h1
  ·rw[show(i+2)%2=i%2 by omega];exact h2
theorem zbx:∀(l:List (Int×Int)) (i:Nat) (x:AV) (v:Value),(LP l)[i]?=some x->(VP l)[i]?=some v->x= .sc v/\v.oneCell'=true
 |[],i,x,v,h,_=>by simp[LP]at h
 |p::l,0,x,v,h,h'=>by
  simp only[LP,VP,zkx,zlw]at h h'
  subst h h'
  exact⟨rfl,rfl⟩
 |p::l,1,x,v,h,h'=>by
  simp only[LP,VP,zkl,zkx,zlw]at h h'
  subst h h'
  exact⟨rfl,rfl⟩
 |p::l,i+2,x,v,h,h'=>by
  simp only[LP,VP,zkl]at h h'
  exact zbx l i x v h h'
section
variable {H:Type}{enc:TypeId×Value->H}{P:Program}{W:World}{fuel:Nat}{t e tu t8:TypeId}{cs:List Value}{y:DataW H×List MemPlace}{fs:Array Field}
theorem qt4{f0 f1:Field}(ht:P.underlying t=some (.slice e))(he:P.underlying e=some (.struct #[f0,f1])) (h0:P.underlying f0.type=some (.int .u64)) (h1:P.underlying f1.type=some (.int .u8))
 (o0:f0.offset=0) (o1:f1.offset=1) (hc:P.cellsOf e=2) (c0:P.cellsOf f0.type=1) (c1:P.cellsOf f1.type=1) (h:DataW.trod enc P W 0 (fun _=>true) true fuel t cs=some y):
 ∃k l v,cs=[v]/\RelR (Xw W) W (S k 2 (LP l)) v/\∀p∈l,InI p:=by
 rcases DataW.trod_slice ht h with⟨hcs,_⟩|⟨a,len,cap,elems,rest,n,_,hcs,_,_,hl,_,hlen,hel,_,_⟩
 ·exact⟨2,[],_,hcs,.sc nil0 rfl,qe⟩
 ·have each:∀i,i<len->∃p:Int×Int,InI p/\W.cell? (a.add (i*2))=some (.int .u64 p.1)/\W.cell? (a.add (i*2+1))=some (.int .u8 p.2):=by
   intro i hi
   have hb:=hel i hi
   rw[zic qc,hc,Option.bind_eq_some_iff]at hb
   obtain⟨cs',hcs',hy'⟩:=hb
   obtain⟨xs,m,_,_,hcl,hxl,hf⟩:=DataW.trod_struct he hy'
   have g0:=hf 0 f0 rfl
   have g1:=hf 1 f1 rfl
   rw[o0,c0]at g0
   rw[o1,c1]at g1
   rw[hc]at hcl
   obtain⟨y0,hy0⟩:∃y,xs[0]?=some y:=⟨_,zic (by rw[hxl];simp)⟩
   obtain⟨y1,hy1⟩:∃y,xs[1]?=some y:=⟨_,zic (by rw[hxl];simp)⟩
   rw[hy0]at g0
   rw[hy1]at g1
   obtain⟨n0,q0,w0⟩:=Yp h0 g0
   obtain⟨n1,q1,w1⟩:=Yp h1 g1
   have z0:=xe q0
   have z1:=xe q1
   have hc3:=(World.cells?_some hcs').2.2
   refine⟨(n0,n1),⟨w0.u64,w1.u8⟩,?_,?_⟩
   ·have:=hc3 0 qc
    rw[Addr.add_add,zjo]at this
    rw[this];exact z0
   ·have:=hc3 1 qc
    rw[Addr.add_add]at this
    rw[this];exact z1
  have ch:∃f:Nat->Int×Int,∀i,i<len->InI (f i)/\W.cell? (a.add (i*2))=some (.int .u64 (f i).1)/\W.cell? (a.add (i*2+1))=some (.int .u8 (f i).2):=by
   refine⟨fun i=>if hi:i<len then(each i hi).choose else(0,0),fun i hi=>?_⟩
   simp only[dif_pos hi]
   exact(each i hi).choose_spec
  obtain⟨f,hf⟩:=ch
  have hg:∀(i:Nat) (p:Int×Int),((List.range len).map f)[i]?=some p->i<len/\p=f i:=by
   intro i p hp
   rw[zir,zkp]at hp
   obtain⟨j,hj,rfl⟩:=hp
   obtain⟨h1,h2⟩:=zih.mp hj
   simp at h1 h2
   subst h2
   exact⟨h1,rfl⟩
  refine⟨0,(List.range len).map f,_,hcs,?_,?_⟩
  ·have:=qlx (W:=W) (a:=a) (n:=len) (cap:=cap) (sz:=2) (cs:=LP ((List.range len).map f)) (vs:=VP ((List.range len).map f)) qc (by rw[qhc];simp;omega) (by rw[qhc,zb2]) hl
    (fun i v hv=>by
     obtain⟨p,hp,rfl⟩:=zb6 _ i v hv
     obtain⟨hi,rfl⟩:=hg _ _ hp
     obtain⟨_,q0,q1⟩:=hf _ hi
     by_cases hm:i%2=0
     ·rw[if_pos hm,<-q0]
      congr 2
      omega
     ·rw[if_neg hm,<-q1]
      congr 2
      omega)
    (fun x hx=>vlP _ x hx)
    (fun i x v hx hv=>by
     obtain⟨rfl,ho⟩:=zbx _ i x v hx hv
     exact .sc _ ho)
   exact this (fun _=>.fr)
  ·intro p hp
   obtain⟨i,hi,rfl⟩:=ziu.mp hp
   exact(hf i (by simpa using hi)).1
end
end Go.Proofs.YtoliekekdmfngaaGreat.AI
namespace Go.Proofs.YtoliekekdmfngaaGreat.AI
open Go Go.RowKit Go.ChangeShapes Go.WideShapes Go.ChangeAt
set_option linter.unusedVariables false
set_option linter.unusedSimpArgs false
structure Itm where
 nm:List Int
 k:Nat
 s:Sm
 k1:Nat
 k2:Nat
instance : Inhabited Itm := ⟨⟨[], 0, ⟨0, 0, 0, 0, false, [], []⟩, 0, 0⟩⟩
def vb(x:Itm):List AV:=[S x.k 1 (LI .u8 x.nm),.sc (.int .u8 x.s.kind),.sc (.int .u8 x.s.A),.sc (.int .u8 x.s.B),.sc (.int .u16 x.s.wide),.sc (.bool x.s.few),S x.k1 1 (LI .u64 x.s.hs),S x.k2 2 (LP x.s.fl)]
structure Itm.Ok (x : Itm) : Prop where
 r0:ro1 (S x.k 1 (LI .u8 x.nm))=S x.k 1 (LI .u8 x.nm)
 r1:ro1 (S x.k1 1 (LI .u64 x.s.hs))=S x.k1 1 (LI .u64 x.s.hs)
 r2:ro1 (S x.k2 2 (LP x.s.fl))=S x.k2 2 (LP x.s.fl)
 nm:Bt x.nm
 s:x.s.Ok
theorem Vg{x:Itm}(h:x.Ok):El vb 8 x:=by
 refine⟨rfl,?_,?_⟩
 ·unfold vb
  simp only[zjc,zkc,h.r0,h.r1,h.r2,qty]
 ·unfold vb
  simp only[List.all_cons,List.all_nil,Xq]
  rfl
theorem qdy{G:Gh}{W:World}{x:AV}{v:Value}(h:RelR G W x v):ro1 x=x:=by
 cases h<;>rfl
theorem VT{cs:List Value}{a n j:Nat}{v:Value}(h:((cs.drop a).take n)[j]?=some v):cs[a+j]?=some v:=by
 rw[zij]at h
 split at h
 ·rw[zi0]at h;exact h
 ·cases h
section
variable {H:Type}{enc:TypeId×Value->H}{P:Program}{W:World}{fuel:Nat}{t e:TypeId}{cs:List Value}{y:DataW H×List MemPlace}
theorem rd_items{f0 f1 g0 g1 g2 g3 g4 g5 g6 p0 p1:Field}{e0 e5 e6:TypeId}(ht:P.underlying t=some (.slice e))(he:P.underlying e=some (.struct #[f0,f1])) (h0:P.underlying f0.type=some (.slice e0)) (h0e:P.underlying e0=some (.int .u8))
 (h1:P.underlying f1.type=some (.struct #[g0,g1,g2,g3,g4,g5,g6])) (u0:P.underlying g0.type=some (.int .u8)) (u1:P.underlying g1.type=some (.int .u8)) (u2:P.underlying g2.type=some (.int .u8)) (u3:P.underlying g3.type=some (.int .u16)) (u4:P.underlying g4.type=some .bool)
 (u5:P.underlying g5.type=some (.slice e5)) (u5e:P.underlying e5=some (.int .u64)) (u6:P.underlying g6.type=some (.slice e6)) (u6e:P.underlying e6=some (.struct #[p0,p1])) (u60:P.underlying p0.type=some (.int .u64)) (u61:P.underlying p1.type=some (.int .u8))
 (o:f0.offset=0/\f1.offset=1/\g0.offset=0/\g1.offset=1/\g2.offset=2/\g3.offset=3/\g4.offset=4/\g5.offset=5/\g6.offset=6/\p0.offset=0/\p1.offset=1)
 (c:P.cellsOf e=8/\P.cellsOf f0.type=1/\P.cellsOf f1.type=7/\P.cellsOf g0.type=1/\P.cellsOf g1.type=1/\P.cellsOf g2.type=1/\P.cellsOf g3.type=1/\P.cellsOf g4.type=1/\P.cellsOf g5.type=1/\P.cellsOf g6.type=1/\P.cellsOf e0=1/\P.cellsOf e5=1/\P.cellsOf e6=2/\P.cellsOf p0.type=1/\P.cellsOf p1.type=1)
 (h:DataW.trod enc P W 0 (fun _=>true) true fuel t cs=some y):
 ∃k l v,cs=[v]/\RelR (Xw W) W (S k 8 (ql vb l)) v/\(∀x∈l,x.Ok)/\l.length<9223372036854775808:=by
 obtain⟨of0,of1,og0,og1,og2,og3,og4,og5,og6,op0,op1⟩:=o
 obtain⟨ce,cf0,cf1,cg0,cg1,cg2,cg3,cg4,cg5,cg6,ce0,ce5,ce6,cp0,cp1⟩:=c
 refine qt6 vb 8 qf Itm.Ok ht ce (fun m cs' y' hy' hl'=>?_) h
 obtain⟨xs,m',_,_,hcl,hxl,hf⟩:=DataW.trod_struct he hy'
 have a0:=hf 0 f0 rfl
 have a1:=hf 1 f1 rfl
 rw[of0,cf0]at a0
 rw[of1,cf1]at a1
 obtain⟨y0,hy0⟩:∃y,xs[0]?=some y:=⟨_,zic (by rw[hxl];simp)⟩
 obtain⟨y1,hy1⟩:∃y,xs[1]?=some y:=⟨_,zic (by rw[hxl];simp)⟩
 rw[hy0]at a0
 rw[hy1]at a1
 obtain⟨k0,l0,v0,q0,r0,t0,w0⟩:=qmw h0 h0e ce0 a0
 obtain⟨zs,m2,_,_,hcl2,hzl,hg⟩:=DataW.trod_struct h1 a1
 have b0:=hg 0 g0 rfl
 have b1:=hg 1 g1 rfl
 have b2:=hg 2 g2 rfl
 have b3:=hg 3 g3 rfl
 have b4:=hg 4 g4 rfl
 have b5:=hg 5 g5 rfl
 have b6:=hg 6 g6 rfl
 rw[og0,cg0]at b0
 rw[og1,cg1]at b1
 rw[og2,cg2]at b2
 rw[og3,cg3]at b3
 rw[og4,cg4]at b4
 rw[og5,cg5]at b5
 rw[og6,cg6]at b6
 obtain⟨z0,hz0⟩:∃y,zs[0]?=some y:=⟨_,zic (by rw[hzl];simp)⟩
 obtain⟨z1,hz1⟩:∃y,zs[1]?=some y:=⟨_,zic (by rw[hzl];simp)⟩
 obtain⟨z2,hz2⟩:∃y,zs[2]?=some y:=⟨_,zic (by rw[hzl];simp)⟩
 obtain⟨z3,hz3⟩:∃y,zs[3]?=some y:=⟨_,zic (by rw[hzl];simp)⟩
 obtain⟨z4,hz4⟩:∃y,zs[4]?=some y:=⟨_,zic (by rw[hzl];simp)⟩
 obtain⟨z5,hz5⟩:∃y,zs[5]?=some y:=⟨_,zic (by rw[hzl];simp)⟩
 obtain⟨z6,hz6⟩:∃y,zs[6]?=some y:=⟨_,zic (by rw[hzl];simp)⟩
 rw[hz0]at b0
 rw[hz1]at b1
 rw[hz2]at b2
 rw[hz3]at b3
 rw[hz4]at b4
 rw[hz5]at b5
 rw[hz6]at b6
 obtain⟨n0,c0,w1⟩:=Yp u0 b0
 obtain⟨n1,c1,w2⟩:=Yp u1 b1
 obtain⟨n2,c2,w3⟩:=Yp u2 b2
 obtain⟨n3,c3,w4⟩:=Yp u3 b3
 obtain⟨n4,c4⟩:=qy3 u4 b4
 obtain⟨k5,l5,v5,c5,r5,t5,w5⟩:=qmw u5 u5e ce5 b5
 obtain⟨k6,l6,v6,c6,r6,w6⟩:=qt4 u6 u6e u60 u61 op0 op1 ce6 cp0 cp1 b6
 have d0:=xe q0
 have d1:=VT (xe c0)
 have d2:=VT (xe c1)
 have d3:=VT (xe c2)
 have d4:=VT (xe c3)
 have d5:=VT (xe c4)
 have d6:=VT (xe c5)
 have d7:=VT (xe c6)
 refine⟨⟨l0,k0,⟨n0,n1,n2,n3,n4,l5,l6⟩,k5,k6⟩,⟨qdy r0,qdy r5,qdy r6,fun n hn=>(w0 n hn).u8,w1.u8,w2.u8,w3.u8,w4.u16,fun n hn=>(w5 n hn).u64,w6⟩,rfl,?_,?_⟩
 ·intro a ha
  unfold vb at ha
  simp only[zie,zla,or_false]at ha
  rcases ha with rfl|rfl|rfl|rfl|rfl|rfl|rfl|rfl
  ·exact Xq _ _ _
  ·rfl
  ·rfl
  ·rfl
  ·rfl
  ·rfl
  ·exact Xq _ _ _
  ·exact Xq _ _ _
 ·intro i a v ha hv
  unfold vb at ha
  match i,ha,hv with
  |0,ha,hv=>simp at ha;rw[d0]at hv;cases hv;subst ha;exact r0
  |1,ha,hv=>simp at ha;rw[d1]at hv;cases hv;subst ha;exact .sc _ rfl
  |2,ha,hv=>simp at ha;rw[d2]at hv;cases hv;subst ha;exact .sc _ rfl
  |3,ha,hv=>simp at ha;rw[d3]at hv;cases hv;subst ha;exact .sc _ rfl
  |4,ha,hv=>simp at ha;rw[d4]at hv;cases hv;subst ha;exact .sc _ rfl
  |5,ha,hv=>simp at ha;rw[d5]at hv;cases hv;subst ha;exact .sc _ rfl
  |6,ha,hv=>simp at ha;rw[d6]at hv;cases hv;subst ha;exact r5
  |7,ha,hv=>simp at ha;rw[d7]at hv;cases hv;subst ha;exact r6
  |i+8,ha,hv=>simp at ha
end
end Go.Proofs.YtoliekekdmfngaaGreat.AI
namespace Go.Proofs.YtoliekekdmfngaaGreat.AI
open Go
set_option linter.unusedVariables false
set_option linter.unusedSimpArgs false
set_option maxRecDepth 100000
set_option maxHeartbeats 0
theorem qt0{l:List Nat}(hl:l.length<=20)(h64:∀x∈l,x<18446744073709551616):(KO l).length<=11000:=by
 obtain⟨k63,hq⟩:=XP (JA h64)
 have hbl:=Yq (xG (qK l)) k63 (qK l) hq
 rw[Qq]at hbl
 have hlY:(pk (qdw (qK l))).length<10900:=by rw[vu];unfold qdw;omega
 have h1:=qu (n:=l.length) qc
 have h2:=qu (n:=(pk (qdw (qK l))).length) qc
 unfold KO
 simp only[zh8,ziz]
 omega
theorem qtx{l:List Nat}(hl:l.length<=1600)(h32:∀x∈l,x<4294967296):(WA (JV l)).length<=96010:=by
 have hc:=qny l
 have h1:=qu (n:=(JV l).length) qc
 have key:∀cs:List (Nat×Nat),(∀c∈cs,okC c)->(Xs cs).length<=60*cs.length:=by
  intro cs
  induction cs with
  |nil=>intro _;exact zif _
  |cons c r ih=>
   intro h
   have:=ih (fun d hd=>h d (by simp[hd]))
   have:=VA (h c qe)
   simp only[Xs,zh8,zid]
   omega
 have:=key (JV l) (qln h32)
 unfold WA
 simp only[zh8]
 omega
theorem qua{x:SkN}{v:AV}(hv:ZQ x v)(f:Fine x)(h64:H64 x)(few:x.kind=0->x.set.length<=1600)(few':x.kind=1->x.hs.length<=20):(ku x).length<=100100:=by
 obtain⟨g,a,b,c,d,e,t,gw,gn,rfl⟩:=hv
 have hk:=f.w.kind
 have kd:=(qY.mp f.c).1
 have six:x.kind=0\/x.kind=1\/x.kind=2\/x.kind=3\/x.kind=4\/x.kind=5:=qc
 unfold ku
 rcases six with k|k|k|k|k|k
 ·rw[if_pos k]
  have s:=Ye f k
  have:=qtx (l:=tn x.set) (by simp;exact few k) s.2.2.1
  omega
 ·have s:=QI f k h64
  have:=qt0 (l:=tn x.hs) (by simp;exact few' k) s.2.2.2.1
  have hu:=qu (n:=x.K.toNat) qc
  rw[if_neg qc,if_pos k,zh8]
  omega
 ·have s:=QL f k
  have:=qes (l:=tn x.rg) qg s.2.2.2.1
  rw[if_neg qc,if_neg qc,if_pos k,zid]
  omega
 ·have s:=QV f k
  have:=Vp (l:=tn x.bs) (by simp;exact s.2.2.1) s.2.2.2.2.1 s.2.2.2.1
  have hu:=qu (n:=x.B.toNat) qc
  rw[if_neg qc,if_neg qc,if_neg qc,if_pos k]
  simp only[zh8,ziz]
  omega
 ·have s:=QT f k
  have:=KW x.C x.cs f.w.cs x.cs 0 0 f.w.cs qc
  have hu:=qu (n:=x.C.toNat) qc
  rw[if_neg qc,if_neg qc,if_neg qc,if_neg qc,if_pos k]
  simp only[zh8,ziz]
  omega
 ·have s:=QM f k
  have hd:∀(L:List Nat) (p:Nat),(∀k∈L,k<18446744073709551616)->(Jz p L).length<=10*L.length:=by
   intro L
   induction L with
   |nil=>intro p _;exact zif _
   |cons k r ih=>
    intro p h
    have:=ih k (fun y hy=>h y (by simp[hy]))
    have hu:=qu (n:=k-p) (by have:=h k qe;omega)
    simp only[Jz,zh8,zid]
    omega
  have hL:∀k∈x.g.L,k<18446744073709551616:=by
   rw[<-gn]
   intro k hk
   obtain⟨w,hw,rfl⟩:=ziu.mp hk
   exact wU w (gw.L w hw)
  have h0:=hd x.g.L 0 hL
  have u:∀n:Int,qW n->(uv n.toNat).length<=10:=fun n hn=>qu (by have:=hn.2;omega)
  have p:=f.pos
  have u1:=u _ p.1
  have u2:=u _ p.2.1
  have u3:=u _ p.2.2.1
  have u4:=u _ p.2.2.2.1
  have u5:=u _ p.2.2.2.2.1
  have u6:=u _ p.2.2.2.2.2.1
  have u7:=u _ p.2.2.2.2.2.2
  have u8:=qu (n:=x.g.lo) (by rw[<-gn];exact wU _ gw.lo)
  have u9:=qu (n:=x.g.hi) (by rw[<-gn];exact wU _ gw.hi)
  rw[if_neg qc,if_neg qc,if_neg qc,if_neg qc,if_neg qc]
  unfold qht
  simp only[zh8,ziz]
  omega
theorem qfk(s:Sm)(ok:s.Ok)(hl:s.hs.length<=40)(hf:s.fl.length<=40){v:AV}(hv:ZQ (zW s) v):(ku (zW s)).length<=100100:=by
 have f:=Jc s ok hl hf
 refine qua hv f (YX s ok) (fun _=>qfj s ok hl) (fun k=>?_)
 have h:=(qY.mp f.c).2.2
 rw[if_neg qc,if_pos k]at h
 have q:=XV.mp h
 have hK:(zW s).K<=20:=by
  have hA:=ok.A
  rw[Jb s ok]at k
  unfold zW
  rw[if_neg qc,if_pos k]
  show 1+s.A%20<=20
  omega
 have:=q.2.1
 omega
def MS(l:List (List Int)):List AV:=l.map fun n=>.tup [.sc (st n),.sc (.bool true)]
theorem qz9(s b:Nat)(e:ByteArray)(n:List Int):qei (TI.mk TK.sc s b [.string e]) (st n)=true:=rfl
theorem qhf{a b:List Int}(ha:Bt a)(hb:Bt b):vH (st a) (st b)=some (decide (a=b)):=by
 have h:=ZR ha hb
 show some ((⟨(jg a).toArray⟩:ByteArray)==⟨(jg b).toArray⟩)=_
 have e:((⟨(jg a).toArray⟩:ByteArray)==⟨(jg b).toArray⟩)=((jg a).toArray==(jg b).toArray):=rfl
 rw[e]
 congr 1
 by_cases e:a=b
 ·subst e
  simp
 ·have:¬(jg a=jg b):=fun q=>e (h.mp q)
  simp[e,this]
theorem qh0{n:List Int}(hn:Bt n):∀l:List (List Int),(∀x∈l,Bt x)->Zj (st n) (MS l)=some (if n∈l then some (.sc (.bool true))else none)
 |[],_=>rfl
 |x::l,hl=>by
  have h:=qh0 hn l (fun y hy=>hl y (by simp[hy]))
  show((vH (st n) (st x)).bind fun t=>cond t (some (some (AV.sc (.bool true)))) (Zj (st n) (MS l)))=_
  rw[qhf hn (hl x qe),h]
  by_cases e:n=x
  ·simp[e]
  ·simp[e]
theorem qmz{n:List Int}(hn:Bt n):∀l:List (List Int),(∀x∈l,Bt x)->n∉l->KT (st n) (.sc (.bool true)) (MS l)=some (MS (l++[n]))
 |[],_,_=>rfl
 |x::l,hl,hnl=>by
  have h:=qmz hn l (fun y hy=>hl y (by simp[hy])) (fun q=>hnl (by simp[q]))
  have e:¬(n=x):=fun q=>hnl (by simp[q])
  show((vH (st n) (st x)).bind fun t=>cond t (some (AV.tup [.sc (st x),.sc (.bool true)]::MS l)) ((KT (st n) (.sc (.bool true)) (MS l)).map fun r=>AV.tup [.sc (st x),.sc (.bool true)]::r))=_
  rw[qhf hn (hl x qe),h]
  simp[e,MS]
def Lt(x:Itm):Prop:=x.s.hs.length<=40/\x.s.fl.length<=40/\x.nm.length<=60
theorem qk3(k' k:Nat)(l:List Itm)(wl:∀x∈l,x.Ok)(hl:l.length<9223372036854775808)(hp:Hp):∀(r:List Itm) (i:Nat),l.drop i=r->i<=l.length->
 ∃b,B11_2 (S k' 8 (ql vb l)) (S k 8 (ql vb l)) (.int .i64 (l.length:Int)) (.int .i64 (i:Int)) hp=some (.sc (.bool b),hp)/\(b=true->l.length<=30/\∀x∈r,Lt x):=by
 intro r
 induction r with
 |nil=>
  intro i hr hi
  have h1:=qC hr
  have ln:=fun k=>kD vb 8 qf k (fun x hx=>Vg (wl x hx))
  have hlt:¬((i:Int)<(l.length:Int)):=qc
  refine⟨decide (l.length<=30),?_,fun h=>⟨by simpa using h,qe⟩⟩
  rw[JU]
  have e:decide ((l.length:Int)<=30)=decide (l.length<=30):=decide_eq_decide.mpr qc
  generalize ql vb l=R at*
  simp[hlt,ln,e]
 |cons x r ih=>
  intro i hr hi
  obtain⟨e1,e2,hi',e3⟩:=qv hr
  have hx:=wl x (zig e1)
  have hlt:(i:Int)<(l.length:Int):=qc
  have ix:=fun k=>xI vb 8 qf k (fun x hx=>Vg (wl x hx)) e1
  have sm:=qow x.s x.k1 x.k2 hp0
  have ln:zd (S x.k 1 (LI .u8 x.nm))=some x.nm.length:=by rw[qI];simp
  have b5:B11_5 hp=some (.sc (.bool false),hp):=by rw[qxq]
  have w1:IntKind.i64.wrap ((i:Int)+1)=((i+1:Nat):Int):=qh
  have r0:=hx.r0
  have r1:=hx.r1
  have r2:=hx.r2
  have v0:=Xq x.k 1 (LI .u8 x.nm)
  have v1:=Xq x.k1 1 (LI .u64 x.s.hs)
  have v2:=Xq x.k2 2 (LP x.s.fl)
  by_cases c1:x.s.hs.length<=40/\x.s.fl.length<=40
  ·rw[decide_eq_true c1]at sm
   by_cases c2:x.nm.length<=60
   ·obtain⟨b,z,hb⟩:=ih (i+1) e2 qc
    refine⟨b,?_,fun h=>⟨(hb h).1,fun y hy=>?_⟩⟩
    ·have c2':¬((60:Int)<(x.nm.length:Int)):=qc
     have b6:B11_6 (S k' 8 (ql vb l)) (S k 8 (ql vb l)) (.int .i64 (l.length:Int)) (.int .i64 (i:Int)) hp=some (.sc (.bool b),hp):=by
      rw[qxp,<-z]
      simp[w1]
     rw[JU]
     generalize ql vb l=R at*
     unfold vb at ix
     unfold smA at sm
     generalize S x.k 1 (LI .u8 x.nm)=A0 at*
     generalize S x.k1 1 (LI .u64 x.s.hs)=A1 at*
     generalize S x.k2 2 (LP x.s.fl)=A2 at*
     simp[hlt,ix,qo,qt,qm,r0,r1,r2,v0,v1,v2,sm,ln,c2',b6]
    ·rcases zie.mp hy with q|q
     ·rw[q];exact⟨c1.1,c1.2,c2⟩
     ·exact(hb h).2 y q
   ·refine⟨false,?_,fun h=>by cases h⟩
    have c2':(60:Int)<(x.nm.length:Int):=qc
    rw[JU]
    generalize ql vb l=R at*
    unfold vb at ix
    unfold smA at sm
    generalize S x.k 1 (LI .u8 x.nm)=A0 at*
    generalize S x.k1 1 (LI .u64 x.s.hs)=A1 at*
    generalize S x.k2 2 (LP x.s.fl)=A2 at*
    simp[hlt,ix,qo,qt,qm,r0,r1,r2,v0,v1,v2,sm,ln,c2',b5]
  ·rw[decide_eq_false c1]at sm
   refine⟨false,?_,fun h=>by cases h⟩
   rw[JU]
   generalize ql vb l=R at*
   unfold vb at ix
   unfold smA at sm
   generalize S x.k 1 (LI .u8 x.nm)=A0 at*
   generalize S x.k1 1 (LI .u64 x.s.hs)=A1 at*
   generalize S x.k2 2 (LP x.s.fl)=A2 at*
   simp[hlt,ix,qo,qt,qm,r0,r1,r2,v0,v1,v2,sm,ln,b5]
theorem qf4(k:Nat)(l:List Itm)(wl:∀x∈l,x.Ok)(hl:l.length<9223372036854775808)(hp:Hp):∃b,run cxX 11 [S k 8 (ql vb l)] hp=some (.sc (.bool b),hp)/\(b=true->l.length<=30/\∀x∈l,Lt x):=by
 have ln:=fun k=>kD vb 8 qf k (fun x hx=>Vg (wl x hx))
 obtain⟨b,z,hb⟩:=qk3 k (rk k) l wl hl hp l 0 rfl (ziv _)
 refine⟨b,?_,hb⟩
 rw[E11]
 generalize ql vb l=R at*
 simp[ln]
 exact z
def nmOf(x:Itm):List Int:=if x.nm=[]then [101]else x.nm
noncomputable def kb(x:Itm):Be:=⟨nmOf x,zW x.s,match run cxX 30 [smA x.s x.k1 x.k2] hp0 with
 |some (.agg L,_)=>L.map ro1
 |_=>[]⟩
theorem XQ{x:Itm}(h:x.Ok)(l:Lt x):(1<=(nmOf x).length/\(nmOf x).length<=60)/\Bt (nmOf x):=by
 have:=l.2.2
 unfold nmOf
 split
 ·exact⟨qf,fun n hn=>by rw[zjh.mp hn];decide⟩
 ·rename_i q
  exact⟨⟨zjj.mpr q,this⟩,h.nm⟩
theorem qej{x:Itm}(h:x.Ok)(l:Lt x):∃L,run cxX 30 [smA x.s x.k1 x.k2] hp0=some (.agg L,hp0)/\L.length=23/\L.all vl=true/\L.map ro1=(kb x).cs/\(kb x).Fin:=by
 obtain⟨r,hr,rn⟩:=qjz x.s x.k1 x.k2 h.s l.1 l.2.1 hp0
 obtain⟨L,rfl,h1,h2,h3⟩:=hr.cl
 have e:(kb x).cs=L.map ro1:=by
  unfold kb
  rw[rn]
 have f:=Jc x.s h.s l.1 l.2.1
 refine⟨L,rn,h1,h2,e.symm,⟨(XQ h l).1,(XQ h l).2,by rw[e];exact h3⟩,f,YX x.s h.s,qfk x.s h.s l.1 l.2.1 hr,?_⟩
 show 0<=(zW x.s).kind/\(zW x.s).kind<6
 rw[Jb x.s h.s]
 have:=h.s.kind
 omega
def Yf(acc:List Itm)(x:Itm):List Itm:=if nmOf x∉acc.map nmOf/\acc.length<8 then acc++[x]else acc
def XJ(acc r:List Itm):List Itm:=r.foldl Yf acc
theorem qt7{a b:Hp}{c:Nat}(h:b.get c=a.get c):b.rdM c=a.rdM c:=by unfold Hp.rdM;rw[h]
theorem yg(hp:Hp){b c:Nat}(g:Nat)(x:List AV)(h:c≠b):(hp.put b g x).get c=hp.get c:=if_neg h
theorem jE(hp:Hp){c:Nat}(x:List AV)(h:c≠hp.next):(hp.new x).get c=hp.get c:=if_neg h
theorem Zx(hp:Hp){b c:Nat}(h:c≠b):(hp.del b).get c=hp.get c:=if_neg h
structure EntS (hp : Hp) (m b n0 : Nat) (acc : List Itm) : Prop where
 ok:∀y∈acc,y.Ok/\Lt y
 len:acc.length<=8
 map:hp.rdM m=some (MS (acc.map nmOf))
 row:acc≠[]->hp.rd b 0=some (ql zC (acc.map kb))/\b≠m/\b<hp.next/\n0<=b
 m:m<hp.next/\n0<=m
theorem zhe(X9:AV)(v10 v11:Value)(acc:List Itm)(x:Itm)(hx:x.Ok)(lx:Lt x)(m b n0:Nat)(hp:Hp)(h:EntS hp m b n0 acc):
 ∃b' hp',B12_9 (xK 2 24 b (acc.map kb)) (.map m) (st (nmOf x)) X9 v10 v11 (vb x) hp=B12_12 (xK 2 24 b' ((Yf acc x).map kb)) (.map m) X9 v10 v11 hp'/\EntS hp' m b' n0 (Yf acc x)/\hp.next<=hp'.next/\∀c,c<n0->hp'.get c=hp.get c:=by
 obtain⟨ha,hl,hm,hb,hmn,hn0⟩:=h
 have hN:=(XQ hx lx).2
 have hNs:∀n∈acc.map nmOf,Bt n:=by
  intro n hn
  obtain⟨y,hy,rfl⟩:=ziu.mp hn
  exact(XQ (ha y hy).1 (ha y hy).2).2
 have fa:=qh0 hN (acc.map nmOf) hNs
 have kt:=fun s b e=>qz9 s b e (nmOf x)
 have gn:∀H:Hp,H.next=hp.next->∀X c,c≠hp.next->(H.new X).get c=H.get c:=fun H e X c q=>jE H X (by rw[e];exact q)
 have ln:zd (ro (xK 2 24 b (acc.map kb)))=some acc.length:=by
  rw[show acc.length=(acc.map kb).length by simp]
  unfold xK
  split
  ·rename_i q;rw[q];rfl
  ·rfl
 by_cases c1:nmOf x∈acc.map nmOf
 ·have e:Yf acc x=acc:=if_neg (fun q=>q.1 c1)
  rw[e]
  refine⟨b,hp,?_,⟨ha,hl,hm,hb,hmn,hn0⟩,zif _,fun _ _=>rfl⟩
  rw[if_pos c1]at fa
  rw[Wm]
  generalize xK 2 24 b (acc.map kb)=V at*
  generalize st (nmOf x)=N at*
  generalize MS (acc.map nmOf)=M at*
  simp[hm,kt,fa]
 ·rw[if_neg c1]at fa
  by_cases c2:acc.length<8
  ·have e:Yf acc x=acc++[x]:=if_pos ⟨c1,c2⟩
   rw[e]
   obtain⟨L,sk,s1,s2,s3,s4⟩:=qej hx lx
   have pa:=qmz hN (acc.map nmOf) hNs c1
   have hel:El zC 24 (kb x):=ym s4.ok
   have hacc:∀y∈acc.map kb,El zC 24 y:=by
    intro y hy
    obtain⟨z,hz,rfl⟩:=ziu.mp hy
    obtain⟨_,_,_,_,_,f⟩:=qej (ha z hz).1 (ha z hz).2
    exact ym f.ok
   have h1:∀y∈[kb x],El zC 24 y:=fun y hy=>by rw[zjh.mp hy];exact hel
   have e1:ql zC [kb x]=zC (kb x):=qgf _ _
   have e2:ql zC ((acc++[x]).map kb)=ql zC (acc.map kb++[kb x]):=qe
   have e3:MS ((acc++[x]).map nmOf)=MS (acc.map nmOf++[nmOf x]):=qe
   have ss:=vW (hp.put m 1 (MS (acc.map nmOf++[nmOf x]))) 1 24 (zC (kb x))
   rw[<-e1]at ss
   have bx:zC (kb x)= .sc (st (nmOf x))::(kb x).cs:=rfl
   have c2':(acc.length:Int)<8:=qc
   --the step,from what is appended
   have key:∀V' hp',zF 272 24 (ro (xK 2 24 b (acc.map kb))) (S 1 24 (zC (kb x))) (hp.put m 1 (MS (acc.map nmOf++[nmOf x])))=some (V',hp')->
    B12_9 (xK 2 24 b (acc.map kb)) (.map m) (st (nmOf x)) X9 v10 v11 (vb x) hp=B12_12 V' (.map m) X9 v10 v11 hp':=by
    intro V' hp' ap
    have v1:=hel.vl
    rw[bx]at ap v1
    rw[<-s3]at ap v1
    have b10:B12_10 (xK 2 24 b (acc.map kb)) (.map m) (st (nmOf x)) X9 v10 v11 (vb x) hp=B12_12 V' (.map m) X9 v10 v11 hp':=by
     have r1:=hx.r1
     have r2:=hx.r2
     have u1:=Xq x.k1 1 (LI .u64 x.s.hs)
     have u2:=Xq x.k2 2 (LP x.s.fl)
     have rr:(L.map ro1).map ro1=L.map ro1:=by rw[s3];exact s4.ok.cl.ro
     rw[qse]
     unfold vb
     unfold smA at sk
     clear ln hb fa ss e1 e2 e3 h1 hacc hel bx s3 s4
     generalize xK 2 24 b (acc.map kb)=V at*
     generalize S x.k 1 (LI .u8 x.nm)=A0 at*
     generalize S x.k1 1 (LI .u64 x.s.hs)=A1 at*
     generalize S x.k2 2 (LP x.s.fl)=A2 at*
     generalize st (nmOf x)=N at*
     generalize MS (acc.map nmOf)=M at*
     generalize MS (acc.map nmOf++[nmOf x])=M2 at*
     simp[-List.map_map,-List.all_map,-List.all_eq_true,hm,kt,pa,qo,r1,r2,u1,u2,sk,qm,s1,s2,v1,rr,ap]
     done
    rw[<-b10,Wm]
    clear b10 ap
    generalize xK 2 24 b (acc.map kb)=V at*
    generalize st (nmOf x)=N at*
    generalize MS (acc.map nmOf)=M at*
    simp[hm,kt,fa,ln,c2']
   by_cases c3:acc=[]
   ·subst c3
    have ap:=qn9 zC 24 qf 272 qf h1 qe qe 2 (.inr rfl) _ _ ss
    rw[e1]at ap
    refine⟨hp.next,(hp.put m 1 (MS [nmOf x])).new (zC (kb x)),key _ _ ap,⟨fun y hy=>?_,qe,?_,fun _=>⟨?_,?_,?_,?_⟩,?_,hn0⟩,zme _,fun c hc=>?_⟩
    ·rw[zjh.mp hy];exact⟨hx,lx⟩
    ·rw[qt7 (gn (hp.put m 1 _) rfl _ m qc)]
     exact qmx _ _ _
    ·have q:=qF (hp.put m 1 (MS [nmOf x])) (zC (kb x))
     rw[<-e1]at q⊢
     exact q
    ·omega
    ·exact zj4 _
    ·omega
    ·show m<hp.next+1;omega
    ·rw[gn (hp.put m 1 _) rfl _ c qc,yg _ _ _ (show c≠m by omega)]
   ·obtain⟨hb1,hb2,hb3,hb4⟩:=hb c3
    have hne:acc.map kb≠[]:=by simpa using c3
    have hb':(hp.put m 1 (MS (acc.map nmOf++[nmOf x]))).rd b 0=some (ql zC (acc.map kb)):=by rw[rdg (yg _ _ _ hb2)];exact hb1
    have ap:=zbf zC 24 qf 272 qf hacc h1 hne qe qg _ _ b hb' ss
    have ev:ro (xK 2 24 b (acc.map kb))= .ms b 0 0 (acc.map kb).length 24:=by rw[Zp _ _ _ hne];rfl
    rw[e1,<-ev]at ap
    have eo:xK 2 24 hp.next ((acc++[x]).map kb)= .ms hp.next 0 0 ((acc.map kb).length+1) 24:=by rw[Zp _ _ _ qe];simp
    refine⟨hp.next,_,by rw[eo];exact key _ _ ap,⟨fun y hy=>?_,qg,?_,fun _=>⟨?_,?_,?_,?_⟩,?_,hn0⟩,zme _,fun c hc=>?_⟩
    ·rcases zip.mp hy with q|q
     ·exact ha y q
     ·rw[zjh.mp q];exact⟨hx,lx⟩
    ·rw[e3,qt7 (gn ((hp.put m 1 _).del b) rfl _ m qc),qt7 (Zx _ (Ne.symm hb2))]
     exact qmx _ _ _
    ·rw[e2]
     exact qF _ _
    ·omega
    ·exact zj4 _
    ·omega
    ·show m<hp.next+1;omega
    ·rw[gn ((hp.put m 1 _).del b) rfl _ c qc,Zx _ (show c≠b by omega),yg _ _ _ (show c≠m by omega)]
  ·have e:Yf acc x=acc:=if_neg (fun q=>c2 q.2)
   rw[e]
   refine⟨b,hp,?_,⟨ha,hl,hm,hb,hmn,hn0⟩,zif _,fun _ _=>rfl⟩
   have c2':¬((acc.length:Int)<8):=qc
   rw[Wm]
   generalize xK 2 24 b (acc.map kb)=V at*
   generalize st (nmOf x)=N at*
   generalize MS (acc.map nmOf)=M at*
   simp[hm,kt,fa,ln,c2']
theorem qwf(k:Nat)(l:List Itm)(wl:∀x∈l,x.Ok)(lt:∀x∈l,Lt x)(hn:l.length<=30)(m n0:Nat):∀(r:List Itm) (i:Nat) (acc:List Itm) (b:Nat) (hp:Hp),l.drop i=r->i<=l.length->EntS hp m b n0 acc->
 ∃b' hp',B12_4 (xK 2 24 b (acc.map kb)) (.map m) (S k 8 (ql vb l)) (.int .i64 (l.length:Int)) (.int .i64 (i:Int)) hp=some (xK 2 24 b' ((XJ acc r).map kb),hp')/\EntS hp' m b' n0 (XJ acc r)/\hp.next<=hp'.next/\∀c,c<n0->hp'.get c=hp.get c:=by
 intro r
 induction r with
 |nil=>
  intro i acc b hp hr hi h
  have h1:=qC hr
  have hlt:¬((i:Int)<(l.length:Int)):=qc
  refine⟨b,hp,?_,h,zif _,fun _ _=>rfl⟩
  show _=some (xK 2 24 b (acc.map kb),hp)
  rw[qjh]
  generalize xK 2 24 b (acc.map kb)=V at*
  simp[hlt]
 |cons x r ih=>
  intro i acc b hp hr hi h
  obtain⟨e1,e2,hi',e3⟩:=qv hr
  have hx:=wl x (zig e1)
  have lx:=lt x (zig e1)
  have hlt:(i:Int)<(l.length:Int):=qc
  have ix:=fun k=>xI vb 8 qf k (fun x hx=>Vg (wl x hx)) e1
  obtain⟨b1,hp1,z1,hs1,f1,f2⟩:=zhe (S k 8 (ql vb l)) (.int .i64 (l.length:Int)) (.int .i64 (i:Int)) acc x hx lx m b n0 hp h
  obtain⟨b2,hp2,z2,hs2,g1,g2⟩:=ih (i+1) (Yf acc x) b1 hp1 e2 qc hs1
  refine⟨b2,hp2,?_,hs2,zjw f1 g1,fun c hc=>by rw[g2 c hc,f2 c hc]⟩
  have w1:IntKind.i64.wrap ((i:Int)+1)=((i+1:Nat):Int):=qh
  have z2:B12_12 (xK 2 24 b1 ((Yf acc x).map kb)) (.map m) (S k 8 (ql vb l)) (.int .i64 (l.length:Int)) (.int .i64 (i:Int)) hp1=some (xK 2 24 b2 ((XJ acc (x::r)).map kb),hp2):=by
   rw[qsd]
   have e:XJ acc (x::r)=XJ (Yf acc x) r:=rfl
   rw[e,<-z2]
   generalize xK 2 24 b1 ((Yf acc x).map kb)=V at*
   generalize ql vb l=R at*
   simp[w1]
  rw[z2]at z1
  rw[<-z1,qjh]
  clear z1 z2 hs1 hs2 ih
  have bu:=xW x.nm
  have r0:=hx.r0
  have r1:=hx.r1
  have r2:=hx.r2
  have u0:=Xq x.k 1 (LI .u8 x.nm)
  have u1:=Xq x.k1 1 (LI .u64 x.s.hs)
  have u2:=Xq x.k2 2 (LP x.s.fl)
  have sr:yG 1 (S x.k 1 (LI .u8 x.nm))=some (LI .u8 x.nm):=qe
  have nm0:x.nm≠[]->nmOf x=x.nm:=fun q=>if_neg q
  have nm1:x.nm=[]->nmOf x=[101]:=fun q=>if_pos q
  generalize xK 2 24 b (acc.map kb)=V at*
  generalize ql vb l=R at*
  unfold vb at ix⊢
  by_cases q:x.nm=[]
  ·rw[nm1 q]
   have e8:jg x.nm=[]:=by rw[q];rfl
   generalize S x.k 1 (LI .u8 x.nm)=A0 at*
   generalize S x.k1 1 (LI .u64 x.s.hs)=A1 at*
   generalize S x.k2 2 (LP x.s.fl)=A2 at*
   generalize LI .u8 x.nm=Y at*
   simp[hlt,ix,qo,qt,qm,r0,r1,r2,u0,u1,u2,sr,bu,zbv,e8]
   rfl
  ·rw[nm0 q]
   have e8:¬(jg x.nm=[]):=fun e=>q (List.map_eq_nil_iff.mp e)
   generalize S x.k 1 (LI .u8 x.nm)=A0 at*
   generalize S x.k1 1 (LI .u64 x.s.hs)=A1 at*
   generalize S x.k2 2 (LP x.s.fl)=A2 at*
   generalize LI .u8 x.nm=Y at*
   simp[hlt,ix,qo,qt,qm,r0,r1,r2,u0,u1,u2,sr,bu,zbv,e8]
theorem qf9(k:Nat)(l:List Itm)(wl:∀x∈l,x.Ok)(lt:∀x∈l,Lt x)(hn:l.length<=30)(hp:Hp):
 ∃b hp',run cxX 12 [S k 8 (ql vb l)] hp=some (xK 2 24 b ((XJ [] l).map kb),hp')/\EntS hp' hp.next b hp.next (XJ [] l)/\hp.next<=hp'.next/\∀c,c<hp.next->hp'.get c=hp.get c:=by
 have ln:=fun k=>kD vb 8 qf k (fun x hx=>Vg (wl x hx))
 obtain⟨b,hp',z,h1,h2,h3⟩:=qwf (rk k) l wl lt hn hp.next hp.next l 0 [] 0 hp.newM rfl (ziv _) ⟨(fun y hy=>by cases hy),ziv _,qy4 _,fun q=>absurd rfl q,zj4 _,zif _⟩
 have h2:hp.next+1<=hp'.next:=h2
 refine⟨b,hp',?_,h1,qc,fun c hc=>by rw[h3 c hc];exact if_neg qc⟩
 have z:B12_4 (S 2 1 []) (.map hp.next) (S (rk k) 8 (ql vb l)) (.int .i64 (l.length:Int)) (.int .i64 0) hp.newM=some (xK 2 24 b ((XJ [] l).map kb),hp'):=z
 rw[E12]
 generalize xK 2 24 b ((XJ [] l).map kb)=V at*
 generalize ql vb l=R at*
 simp[ln,z]
theorem qju{acc:List Itm}{x:Itm}(h:(acc.map nmOf).Nodup):((Yf acc x).map nmOf).Nodup:=by
 unfold Yf
 split
 ·rename_i q
  rw[zjp]
  refine List.nodup_append.mpr ⟨h,qe,fun a ha b hb e=>?_⟩
  rw[List.map_singleton,zjh]at hb
  rw[e,hb]at ha
  exact q.1 ha
 ·exact h
theorem qae:∀(r acc:List Itm),(acc.map nmOf).Nodup->((XJ acc r).map nmOf).Nodup
 |[],_,h=>h
 |x::r,acc,h=>qae r (Yf acc x) (qju h)
noncomputable def zk(l:List Itm):List Be:=(XJ [] l).map kb
theorem qh2(l:List Itm):((zk l).map Be.nm).Nodup:=by
 have e:(zk l).map Be.nm=(XJ [] l).map nmOf:=by unfold zk;rw[zli];rfl
 rw[e]
 exact qae l [] List.nodup_nil
theorem EntS.fin{hp:Hp}{m b n0:Nat}{l:List Itm}(h:EntS hp m b n0 (XJ [] l)):(∀e∈zk l,e.Fin)/\(zk l).length<=8/\(zk l≠[]->hp.rd b 0=some (ql zC (zk l))/\b<hp.next/\n0<=b):=by
 refine⟨fun e he=>?_,by unfold zk;rw[zjg];exact h.len,fun q=>?_⟩
 ·obtain⟨y,hy,rfl⟩:=ziu.mp he
  obtain⟨_,_,_,_,_,f⟩:=qej (h.ok y hy).1 (h.ok y hy).2
  exact f
 ·have:=h.row (fun e=>q (by unfold zk;rw[e];rfl))
  exact⟨this.1,this.2.2.1,this.2.2.2⟩
end Go.Proofs.YtoliekekdmfngaaGreat.AI
