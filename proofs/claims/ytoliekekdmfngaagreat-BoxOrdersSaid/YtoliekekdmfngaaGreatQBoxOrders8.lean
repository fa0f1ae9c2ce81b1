/- Texts that the proof of BoxOrders rests on, part 8. -/
import Derived.Test.YtoliekekdmfngaaGreatQBoxOrders4
import Derived.Test.YtoliekekdmfngaaGreatQBoxOrders5
import Derived.Test.YtoliekekdmfngaaGreatQBoxOrders6
import Derived.Test.YtoliekekdmfngaaGreatQBoxOrders7
import Derived.Lib.Bytealg
namespace Go.Proofs.YtoliekekdmfngaaGreat.AI
open Go
set_option linter.unusedVariables false
set_option linter.unusedSimpArgs false
set_option maxRecDepth 100000
set_option maxHeartbeats 0
noncomputable def za8:Value:=.string ⟨#[0,1,2,2,3,3,3,3,4,4,4,4,4,4,4,4,5,5,5,5,5,5,5,5,5,5,5,5,5,5,5,5,6,6,6,6,6,6,6,6,6,6,6,6,6,6,6,6,6,6,6,6,6,6,6,6,6,6,6,6,6,6,6,6,7,7,7,7,7,7,7,7,7,7,7,7,7,7,7,7,7,7,7,7,7,7,7,7,7,7,7,7,7,7,7,7,7,7,7,7,7,7,7,7,7,7,7,7,7,7,7,7,7,7,7,7,7,7,7,7,7,7,7,7,7,7,7,7,8,8,8,8,8,8,8,8,8,8,8,8,8,8,8,8,8,8,8,8,8,8,8,8,8,8,8,8,8,8,8,8,8,8,8,8,8,8,8,8,8,8,8,8,8,8,8,8,8,8,8,8,8,8,8,8,8,8,8,8,8,8,8,8,8,8,8,8,8,8,8,8,8,8,8,8,8,8,8,8,8,8,8,8,8,8,8,8,8,8,8,8,8,8,8,8,8,8,8,8,8,8,8,8,8,8,8,8,8,8,8,8,8,8,8,8,8,8,8,8,8,8,8,8,8,8,8,8]⟩
theorem qwh(v0 v2:Value)(hp:Hp):B165_10 v0 v2 hp=(QD Tryz.prog 125 5 v0).bind fun y12=>(ixV Tryz.prog 9 za8 y12).bind fun y13=>(QD Tryz.prog 5 3 y13).bind fun y14=>(qt Tryz.prog .add 3 (.tmp 19) (.tmp 23) v2 y14).bind fun y15=>some (.sc y15,hp):=
 (qkj _ _ _).trans qe
noncomputable def qz6(x:Nat):Bool:=
 match ixV Tryz.prog 9 za8 (.int .u8 (x:Int))with
 |some (.int .u8 (.ofNat n))=>decide (n<=8)&&decide (x<2^n)&&(decide (n=0)||decide (2^(n-1)<=x))
 |_=>false
theorem qwt:(List.range 256).all qz6=true:=qe
theorem za7(x:Nat)(h:x<256):∃n:Nat,n<=8/\Bl x n/\ixV Tryz.prog 9 za8 (.int .u8 (x:Int))=some (.int .u8 (n:Int)):=by
 have hx:=zg9.mp qwt x (zjv.mpr h)
 unfold qz6 at hx
 split at hx
 ·rename_i n e
  simp only[zh9,Bool.or_eq_true,decide_eq_true_eq]at hx
  exact⟨n,hx.1.1,⟨hx.1.2,hx.2⟩,e⟩
 ·cases hx
theorem cv8(n:Int):QD Tryz.prog 5 3 (.int .u8 n)=some (.int .i64 (IntKind.i64.wrap n)):=KE n
theorem qwo(n:Nat)(h:n<1000000):IntKind.i64.wrap (n:Int)=n:=qk qc qc
theorem zaj(x v:Nat)(h:x<256)(hv:v<=100):∃n,n<=8/\Bl x n/\∀hp,B165_10 (.int .u64 (x:Int)) (.int .i64 (v:Int)) hp=some (.sc (.int .i64 ((n+v:Nat):Int)),hp):=by
 obtain⟨n,h1,h2,h3⟩:=za7 x h
 refine⟨n,h1,h2,fun hp=>?_⟩
 have w:IntKind.u8.wrap (x:Int)=x:=zJ qc qc
 have w2:IntKind.i64.wrap (n:Int)=n:=qwo n qc
 have w3:IntKind.i64.wrap ((v:Int)+(n:Int))=((n+v:Nat):Int):=qi
 rw[qwh]
 simp[wU,w,h3,cv8,w2,w3]
theorem Qa(x k:Nat)(hk:k<=64)(o o':Operand)(K:IntKind):qt Tryz.prog .shr 125 o o' (.int .u64 (x:Int)) (.int K (k:Int))=some (.int .u64 ((x/2^k:Nat):Int)):=by
 rw[zZ _ _ _ _ _ _ _ _ qc]
 have e:min ((k:Int)).toNat IntKind.u64.bits=k:=by
  have:IntKind.u64.bits=64:=rfl
  rw[this];omega
 rw[e,zhr _ (by exact_mod_cast zhf (2^k))]
 congr 2
theorem len7(x v:Nat)(h:x<65536)(hv:v<=90):∃n,n<=16/\Bl x n/\∀hp,B165_7 (.int .u64 (x:Int)) (.int .i64 (v:Int)) hp=some (.sc (.int .i64 ((n+v:Nat):Int)),hp):=by
 by_cases hx:256<=x
 ·obtain⟨n,h1,h2,h3⟩:=zaj (x/2^8) (v+8) qc qc
  refine⟨n+8,qc,h2.up qc,fun hp=>?_⟩
  have s:=Qa x 8 qc (.tmp 15) (.const (.int .u64 8)) .u64
  have c:(256:Int)<=(x:Int):=qc
  have w:IntKind.i64.wrap ((v:Int)+8)=((v+8:Nat):Int):=qi
  have e:n+(v+8)=n+8+v:=qc
  rw[e]at h3
  rw[qa2]
  simp at s w h3
  simp[c,s,w,h3]
 ·obtain⟨n,h1,h2,h3⟩:=zaj x v qc qc
  refine⟨n,qc,h2,fun hp=>?_⟩
  have c:¬((256:Int)<=(x:Int)):=qc
  rw[qa2]
  simp at h3
  simp[c,h3]
theorem len4(x v:Nat)(h:x<4294967296)(hv:v<=70):∃n,n<=32/\Bl x n/\∀hp,B165_4 (.int .u64 (x:Int)) (.int .i64 (v:Int)) hp=some (.sc (.int .i64 ((n+v:Nat):Int)),hp):=by
 by_cases hx:65536<=x
 ·obtain⟨n,h1,h2,h3⟩:=len7 (x/2^16) (v+16) qc qc
  refine⟨n+16,qc,h2.up qc,fun hp=>?_⟩
  have s:=Qa x 16 qc (.tmp 9) (.const (.int .u64 16)) .u64
  have c:(65536:Int)<=(x:Int):=qc
  have w:IntKind.i64.wrap ((v:Int)+16)=((v+16:Nat):Int):=qi
  have e:n+(v+16)=n+16+v:=qc
  rw[e]at h3
  rw[qa3]
  simp at s w h3
  simp[c,s,w,h3]
 ·obtain⟨n,h1,h2,h3⟩:=len7 x v qc qc
  refine⟨n,qc,h2,fun hp=>?_⟩
  have c:¬((65536:Int)<=(x:Int)):=qc
  rw[qa3]
  simp at h3
  simp[c,h3]
theorem qm2(x:Nat)(h:x<18446744073709551616):∃n,n<=64/\Bl x n/\∀hp,run cxX 165 [.sc (.int .u64 (x:Int))] hp=some (.sc (.int .i64 (n:Int)),hp):=by
 by_cases hx:4294967296<=x
 ·obtain⟨n,h1,h2,h3⟩:=len4 (x/2^32) 32 qc qc
  refine⟨n+32,qc,h2.up qc,fun hp=>?_⟩
  have s:=Qa x 32 qc (.tmp 5) (.const (.int .u64 32)) .u64
  have c:(4294967296:Int)<=(x:Int):=qc
  rw[E165]
  simp at s h3
  simp[c,s,h3]
 ·obtain⟨n,h1,h2,h3⟩:=len4 x 0 qc qc
  refine⟨n,qc,h2,fun hp=>?_⟩
  have c:¬((4294967296:Int)<=(x:Int)):=qc
  rw[E165]
  simp at h3
  simp[c,h3]
section
variable {B:Nat}(hB:B=4294967296)
include hB
end
@[simp] theorem ze0(b g o:Nat):JN (.ptr b g o)=some false:=rfl
@[simp] theorem ze1:JN (.sc (.pointer none))=some true:=rfl
@[simp] theorem qyk(b g o:Nat):QS (.ptr b g o)=some ():=rfl
@[simp] theorem Kw(b g o:Nat):qW (.ptr b g o)=some (b,g,o):=rfl
@[simp] theorem zbo(b g o:Nat):ro (.ptr b g o)= .ptr b g o:=rfl
@[simp] theorem zf7(b g o:Nat):ro1 (.ptr b g o)= .ptr b g o:=rfl
@[simp] theorem zdw(b g o:Nat):yr (.ptr b g o)=some ():=rfl
theorem qx(hp:Hp)(b:Nat)(x y:List AV):(hp.put b 0 x).put b 0 y=hp.put b 0 y:=by
 unfold Hp.put
 congr 1
 funext z
 by_cases e:z=b
 ·simp[e]
 ·simp[e]
theorem zW(hp:Hp)(x y:List AV):(hp.new x).put hp.next 0 y=hp.new y:=by
 unfold Hp.put Hp.new
 congr 1
 funext z
 by_cases e:z=hp.next
 ·simp[e]
 ·simp[e]
theorem zR{hp:Hp}{b:Nat}{x:List AV}(h:hp.rd b 0=some x):hp.put b 0 x=hp:=by
 have hg:hp.get b=some (0,x):=by
  unfold Hp.rd at h
  obtain⟨p,hp1,h⟩:=bsm h
  split at h
  ·rename_i e
   cases h
   rw[hp1]
   obtain⟨p1,p2⟩:=p
   have:p1=0:=e.1
   subst this;rfl
  ·cases h
 obtain⟨n,g⟩:=hp
 unfold Hp.put
 congr 1
 funext z
 by_cases e:z=b
 ·subst e;simp only[if_true];exact hg.symm
 ·simp[e]
theorem zN(hp:Hp){b c:Nat}(x:List AV)(h:c≠b):(hp.put b 0 x).rd c 0=hp.rd c 0:=by
 simp[Hp.rd,Hp.put,h]
theorem jE(hp:Hp){c:Nat}(x:List AV)(h:c≠hp.next):(hp.new x).rd c 0=hp.rd c 0:=by
 simp[Hp.rd,Hp.new,h]
@[simp] theorem ze2(hp:Hp)(b:Nat)(x:List AV):(hp.put b 0 x).next=hp.next:=rfl
@[simp] theorem ze3(hp:Hp)(x:List AV):(hp.new x).next=hp.next+1:=rfl
abbrev Wc(l:List Int):List AV:=[S 2 1 (LI .u8 l)]
theorem xJ{x:Int}:IntKind.u8.wrap x=x%256:=by rw[IntKind.wrap_u8]
theorem zk(b:Nat)(l:List Int)(c:Int)(hl:l.length<=1000000)(hp:Hp)(h:hp.rd b 0=some (Wc l)):
 run cxX 73 [.ptr b 0 0,.sc (.int .u8 c)] hp=some (.tup [],hp.put b 0 (Wc (l++[c]))):=by
 have ap:=qdf .u8 l 2 (.inr rfl) 1 qg c hl
 rw[E73]
 simp[h,qo,ap,qr,qm,qx]
theorem zX(b:Nat)(l m:List Int)(k:Nat)(hl:l.length+m.length<=1000000)(hp:Hp)(h:hp.rd b 0=some (Wc l)):
 run cxX 72 [.ptr b 0 0,S k 1 (LI .u8 m)] hp=some (.tup [],hp.put b 0 (Wc (l++m))):=by
 have ap:=fun k=>Va .u8 l 2 (.inr rfl) 1 qg k m hl
 rw[E72]
 simp[h,qo,ap,qr,qm,qx]
theorem yG(b:Nat)(l:List Int)(hl:l.length<=1000000)(hp:Hp)(h:hp.rd b 0=some (Wc l)):
 run cxX 79 [.ptr b 0 0] hp=some (S 1 1 (LI .u8 l),hp):=by
 have ap:=fun k=>Va .u8 [] 1 (.inl rfl) 1 qg k l (by simpa using hl)
 simp at ap
 rw[E79]
 simp[h,qo,ap]
theorem qtc:∀x:BitVec 8,(x|||128#8).toNat=x.toNat%128+128:=qg
theorem zeu(n:Nat)(t:TypeId)(x y:Operand):qt Tryz.prog .or t x y (.int .u8 ((n:Int)%256)) (.int .u8 128)=some (.int .u8 ((n%128+128:Nat):Int)):=by
 rw[jk]
 have e1:(BitVec.ofInt 8 ((n:Int)%256)).toNat=n%256:=by
  rw[zg8]
  omega
 have e2:(BitVec.ofInt IntKind.u8.bits ((n:Int)%256)|||BitVec.ofInt IntKind.u8.bits 128).toNat=n%128+128:=by
  show(BitVec.ofInt 8 ((n:Int)%256)|||128#8).toNat=_
  rw[qtc,e1]
  omega
 rw[e2,zJ qc qc]
theorem shr7(n:Nat)(t:TypeId)(x y:Operand):qt Tryz.prog .shr t x y (.int .u64 (n:Int)) (.int .u64 7)=some (.int .u64 ((n/128:Nat):Int)):=by
 rw[zZ _ _ _ _ _ _ _ _ qc]
 congr 2
 rw[zhr _ qg]
 show(n:Int)/128=_
 omega
theorem qhq(b:Nat):∀(n:Nat) (l:List Int) (hp:Hp),n<18446744073709551616->l.length+(uv n).length<=1000000->hp.rd b 0=some (Wc l)->
 B70_0 (.ptr b 0 0) (.int .u64 (n:Int)) hp=some (.tup [],hp.put b 0 (Wc (l++uv n))):=by
 intro n
 induction n using Nat.strongRecOn with
 |_ n ih=>
  intro l hp hn hl h
  rw[qv7]
  by_cases h1:n<128
  ·rw[Yn h1]at hl⊢
   have hge:¬((n:Int)>=128):=qc
   have hge':¬((128:Int)<=(n:Int)):=qc
   have w:IntKind.u8.wrap (n:Int)=(n:Int):=zJ qc qc
   have wb:=zk b l n (by simp at hl;omega) hp h
   simp[hge',w,wb]
  ·rw[qkr h1]at hl⊢
   have hge:(128:Int)<=(n:Int):=qc
   have w:IntKind.u8.wrap (n:Int)=(n:Int)%256:=by rw[xJ]
   have wb:=zk b l ((n%128+128:Nat):Int) (by simp at hl;omega) hp h
   have o:=zeu n
   have s:=shr7 n
   have ih':=ih (n/128) qc (l++[((n%128+128:Nat):Int)]) (hp.put b 0 (Wc (l++[((n%128+128:Nat):Int)]))) qc (by simp at hl⊢;omega) (qr _ _ _)
   rw[qx]at ih'
   generalize((n%128+128:Nat):Int)=c at*
   generalize((n/128:Nat):Int)=d at*
   simp[hge,w,wb,o,s,ih',-jk]
theorem qY(b n:Nat)(l:List Int)(hn:n<18446744073709551616)(hl:l.length+(uv n).length<=1000000)(hp:Hp)(h:hp.rd b 0=some (Wc l)):
 run cxX 70 [.ptr b 0 0,.sc (.int .u64 (n:Int))] hp=some (.tup [],hp.put b 0 (Wc (l++uv n))):=by
 rw[E70]
 simp[qhq b n l hp hn hl h]
theorem xor_zero(x:Nat)(h:x<18446744073709551616)(t:TypeId)(a b:Operand):qt Tryz.prog .xor t a b (.int .u64 (x:Int)) (.int .u64 0)=some (.int .u64 (x:Int)):=by
 rw[jp]
 have e:(BitVec.ofInt IntKind.u64.bits (x:Int)^^^BitVec.ofInt IntKind.u64.bits 0).toNat=x:=by
  show(BitVec.ofInt 64 (x:Int)^^^0#64).toNat=x
  rw[BitVec.xor_zero,zg8]
  omega
 rw[e,qz qc qc]
theorem qq0(x:Nat)(h:x<18446744073709551616)(t:TypeId)(a b:Operand):qt Tryz.prog .xor t a b (.int .u64 (x:Int)) (.int .u64 18446744073709551615)=some (.int .u64 ((18446744073709551615-x:Nat):Int)):=by
 rw[jp]
 have e:(BitVec.ofInt IntKind.u64.bits (x:Int)^^^BitVec.ofInt IntKind.u64.bits 18446744073709551615).toNat=18446744073709551615-x:=by
  have e1:BitVec.ofInt 64 18446744073709551615=BitVec.allOnes 64:=qg
  show(BitVec.ofInt 64 (x:Int)^^^BitVec.ofInt 64 18446744073709551615).toNat=_
  rw[e1,BitVec.xor_allOnes,BitVec.toNat_not,zg8]
  omega
 rw[e,qz qc qc]
theorem qrw(b:Nat)(n:Int)(l:List Int)(hn:-9223372036854775808<=n/\n<9223372036854775808)(hl:l.length+(uv (zz n)).length<=1000000)(hp:Hp)(h:hp.rd b 0=some (Wc l)):
 run cxX 150 [.ptr b 0 0,.sc (.int .i64 n)] hp=some (.tup [],hp.put b 0 (Wc (l++uv (zz n)))):=by
 have wu:=qY b (zz n) l (qqy hn.1 hn.2) hl hp h
 rw[E150]
 by_cases h0:n<0
 ·have z:zz n=18446744073709551615-(2*n+18446744073709551616).toNat:=by unfold zz;rw[if_pos h0];omega
  have w1:IntKind.u64.wrap n=n+18446744073709551616:=by rw[IntKind.wrap_u64];omega
  have s1:∀t x y,qt Tryz.prog .shl t x y (.int .u64 (n+18446744073709551616)) (.int .u64 1)=some (.int .u64 (((2*n+18446744073709551616).toNat:Nat):Int)):=by
   intro t x y
   rw[jq _ _ _ _ _ _ _ _ qc]
   have e:(2:Int)^min (1:Int).toNat IntKind.u64.bits=2:=rfl
   rw[e,IntKind.wrap_u64]
   congr 2
   omega
  have s2:∀t x y,qt Tryz.prog .shr t x y (.int .i64 n) (.int .u64 63)=some (.int .i64 (-1)):=by
   intro t x y
   rw[zZ _ _ _ _ _ _ _ _ qc]
   have e:(2:Int)^min (63:Int).toNat IntKind.i64.bits=9223372036854775808:=rfl
   rw[e,zhr _ qc]
   congr 2
   omega
  have w2:IntKind.u64.wrap (-1)=18446744073709551615:=by rw[IntKind.wrap_u64];rfl
  have x1:=qq0 (2*n+18446744073709551616).toNat qc
  rw[<-z]at x1
  generalize(2*n+18446744073709551616).toNat=X at*
  simp[w1,s1,s2,w2,x1,wu,-jp]
 ·have z:zz n=(2*n).toNat:=by unfold zz;rw[if_neg h0];omega
  have w1:IntKind.u64.wrap n=n:=qz qc qc
  have s1:∀t x y,qt Tryz.prog .shl t x y (.int .u64 n) (.int .u64 1)=some (.int .u64 ((zz n:Nat):Int)):=by
   intro t x y
   rw[jq _ _ _ _ _ _ _ _ qc]
   have e:(2:Int)^min (1:Int).toNat IntKind.u64.bits=2:=rfl
   rw[e,IntKind.wrap_u64,z]
   congr 2
   omega
  have s2:∀t x y,qt Tryz.prog .shr t x y (.int .i64 n) (.int .u64 63)=some (.int .i64 0):=by
   intro t x y
   rw[zZ _ _ _ _ _ _ _ _ qc]
   have e:(2:Int)^min (63:Int).toNat IntKind.i64.bits=9223372036854775808:=rfl
   rw[e,zhr _ qc]
   congr 2
   omega
  have w2:IntKind.u64.wrap 0=0:=rfl
  have x1:=xor_zero (zz n) (qqy hn.1 hn.2)
  simp[w1,s1,s2,w2,x1,wu,-jp]
abbrev Rc(k:Nat)(l:List Int)(p:Nat)(e:Int):List AV:=[S k 1 (LI .u8 l),.sc (.int .i64 (p:Int)),.sc (.int .i64 e)]
def rE(e f:Int):Int:=if e=0 then f else e
def rL(l:List Int)(p:Nat)(e:Int):Nat:=if e=0 then l.length-p else 0
theorem Wa(k:Nat)(l:List Int)(hp:Hp):run cxX 42 [S k 1 (LI .u8 l)] hp=some (.ptr hp.next 0 0,hp.new (Rc (rk k) l 0 0)):=by
 rw[E42]
 simp[qm]
 rfl
theorem qwx(k:Nat)(cs:List AV)(i h:Nat)(hih:i<=h)(hh:h<=cs.length)(hne:cs≠[]):
 jb 1 (S k 1 cs) (some (.int .i64 (i:Int))) (some (.int .i64 (h:Int))) (some (.int .i64 (h:Int)))=some (S 0 1 ((cs.drop i).take (h-i))):=by
 have b1:qC 0 (cs.length:Int) (some (.int .i64 (h:Int))) cs.length=some h:=yf .i64 hh
 have b2:qC 0 (h:Int) (some (.int .i64 (h:Int))) cs.length=some h:=yf .i64 (zgm h)
 have b3:qC 0 (h:Int) (some (.int .i64 (i:Int))) 0=some i:=yf .i64 hih
 rcases zi k 1 cs with e|e|⟨e,e'⟩
 ·rw[e]
  simp only[wV,jb,if_true,b1,b2,b3,zgh,zhu]
  rfl
 ·rw[e]
  simp only[wV,jb,if_true,b1,b2,b3,zgh,zhu]
  rfl
 ·exact absurd e' hne
section
variable (b k:Nat)(l:List Int)(p:Nat)(e:Int)(hp:Hp)
theorem XH(h:hp.rd b 0=some (Rc k l p e)):run cxX 89 [.ptr b 0 0] hp=some (.sc (.int .i64 e),hp):=by
 rw[E89]
 simp[h,qj]
theorem Qb(f:Int)(h:hp.rd b 0=some (Rc k l p e)):run cxX 154 [.ptr b 0 0,.sc (.int .i64 f)] hp=some (.tup [],hp.put b 0 (Rc k l p (rE e f))):=by
 rw[E154]
 unfold rE
 by_cases h0:e=0
 ·subst h0
  simp[h,qj,qqa,qm]
 ·simp[h,qj,h0,zR h]
theorem Wg(hl:l.length<=1000000000)(hp':p<=l.length)(h:hp.rd b 0=some (Rc k l p e)):run cxX 153 [.ptr b 0 0] hp=some (.sc (.int .i64 (rL l p e:Nat)),hp):=by
 rw[E153]
 unfold rL
 by_cases h0:e=0
 ·subst h0
  have w:IntKind.i64.wrap ((l.length:Int)-(p:Int))=((l.length-p:Nat):Int):=qi
  simp[h,qj,qo,qqb,w]
 ·simp[h,qj,h0,qqc]
def rB(l:List Int)(p:Nat)(e:Int):Int×Nat×Int:=if rL l p e=0 then(0,p,rE e 3)else(l.getD p 0,p+1,e)
theorem JD(hl:l.length<=1000000000)(hp':p<=l.length)(h:hp.rd b 0=some (Rc k l p e)):
 run cxX 90 [.ptr b 0 0] hp=some (.sc (.int .u8 (rB l p e).1),hp.put b 0 (Rc k l (rB l p e).2.1 (rB l p e).2.2)):=by
 have lf:=Wg b k l p e hp hl hp' h
 rw[E90]
 unfold rB
 by_cases h0:rL l p e=0
 ·have fl:=Qb b k l p e hp 3 h
  simp[lf,h0,fl]
 ·have he:e=0:=by
   unfold rL at h0
   by_cases he:e=0
   ·exact he
   ·simp[he]at h0
  subst he
  have hlt:p<l.length:=by unfold rL at h0;simp at h0;omega
  have w:IntKind.i64.wrap ((p:Int)+1)=((p+1:Nat):Int):=qi
  have w2:IntKind.i64.wrap (((p+1:Nat):Int)-1)=(p:Int):=qi
  have w3:IntKind.i64.wrap (p:Int)=(p:Int):=qk qc qc
  simp only[zjd,zje]at w w2
  simp[lf,h0,h,qj,qo,w,qm,qr,w2,w3,hlt,Rc]
theorem qib(n:Nat)(hl:l.length<=1000000000)(hn:n<=1000000000)(hp':p<=l.length)(h:hp.rd b 0=some (Rc k l p e)):
 ∃t,run cxX 87 [.ptr b 0 0,.sc (.int .i64 (n:Int))] hp=
  if rL l p e<n then some (S 2 1 [],hp.put b 0 (Rc k l p (rE e 3)))else if n=0 then some (S 2 1 [],hp)else some (S t 1 (LI .u8 ((l.drop p).take n)),hp.put b 0 (Rc k l (p+n) e)):=by
 have lf:=Wg b k l p e hp hl hp' h
 have fl:=Qb b k l p e hp 3 h
 have h00:¬((n:Int)<0):=qc
 rw[E87]
 by_cases h0:rL l p e<n
 ·refine⟨0,?_⟩
  simp[h00,lf,h0,qv3,fl]
 ·by_cases h1:n=0
  ·subst h1
   refine⟨0,?_⟩
   have hz:¬((rL l p e:Int)<0):=qc
   simp[lf,hz,qg1]
  ·have he:e=0:=by
    unfold rL at h0
    by_cases he:e=0
    ·exact he
    ·simp[he]at h0;omega
   subst he
   have hlt:p+n<=l.length:=by unfold rL at h0;simp at h0;omega
   have w:IntKind.i64.wrap ((p:Int)+(n:Int))=((p+n:Nat):Int):=qi
   have w2:IntKind.i64.wrap (((p+n:Nat):Int)-(n:Int))=(p:Int):=qi
   have sl:=fun k=>qwx k (LI .u8 l) p (p+n) qc (by simpa using hlt) (by intro hn0;have:=congrArg List.length hn0;simp at this;subst this;simp at hlt;omega)
   have e1:p+n-p=n:=qc
   simp only[e1,zfm,qz5]at sl
   refine⟨0,?_⟩
   have hz:¬((rL l p 0:Int)<(n:Int)):=qc
   have pn:∀x:AV,qm (Rc k l p 0) 1 [x]=some [S k 1 (LI .u8 l),x,.sc (.int .i64 0)]:=fun x=>rfl
   have hn1:¬((n:Int)=0):=qc
   generalize hq:((p+n:Nat):Int)=q at*
   simp[h00,lf,h0,hz,qg1,h1,hn1,h,qj,qo,w,pn,qr,w2,sl,Rc,hq]
theorem qr0(hl:l.length<=1000000000)(hp':p<=l.length)(h:hp.rd b 0=some (Rc k l p e)):
 run cxX 91 [.ptr b 0 0] hp=some (.sc (.int .i64 (if e=0/\p<l.length then 15 else e)),hp):=by
 have er:=XH b k l p e hp h
 rw[E91]
 by_cases h0:e=0
 ·subst h0
  by_cases h1:p<l.length
  ·simp[h,qj,qo,h1,qv1]
  ·simp[h,qj,qo,h1,qgz,er]
 ·simp[h,qj,h0,qgz,er]
end
theorem qo6:∀x:BitVec 8,(x&&&127#8).toNat=x.toNat%128:=qg
theorem zdl(c:Nat)(hc:c<256)(t:TypeId)(x y:Operand):qt Tryz.prog .and t x y (.int .u8 (c:Int)) (.int .u8 127)=some (.int .u8 ((c%128:Nat):Int)):=by
 rw[qO]
 have e1:(BitVec.ofInt 8 (c:Int)).toNat=c:=by
  rw[zg8];omega
 have e2:(BitVec.ofInt IntKind.u8.bits (c:Int)&&&BitVec.ofInt IntKind.u8.bits 127).toNat=c%128:=by
  show(BitVec.ofInt 8 (c:Int)&&&127#8).toNat=_
  rw[qo6,e1]
 rw[e2,zJ qc qc]
theorem zbt(n x s:Nat)(hn:n<2^s)(h:n+x*2^s<18446744073709551616)(t:TypeId)(a b:Operand):
 qt Tryz.prog .or t a b (.int .u64 (n:Int)) (.int .u64 ((x*2^s:Nat):Int))=some (.int .u64 ((n+x*2^s:Nat):Int)):=by
 rw[jk]
 generalize hy:x*2^s=y at*
 have e:(BitVec.ofInt IntKind.u64.bits (n:Int)|||BitVec.ofInt IntKind.u64.bits (y:Int)).toNat=n+y:=by
  show(BitVec.ofInt 64 (n:Int)|||BitVec.ofInt 64 (y:Int)).toNat=_
  rw[zkg,zg8,zg8]
  have e1:((n:Int)%((2^64:Nat):Int)).toNat=n:=qc
  have e2:((y:Int)%((2^64:Nat):Int)).toNat=y:=qc
  rw[e1,e2]
  have:=zik hn x
  rw[zhe]at this
  rw[hy]at this
  rw[zkl,<-this,Nat.add_comm]
 rw[e,qz qc qc]
def rU(l:List Int)(p:Nat)(e:Int)(most:Nat):Nat×Nat×Int:=
 if e≠0 then(0,p,e)
 else if(gU (l.drop p) 0 0 0).2.2≠0 then(0,p+(gU (l.drop p) 0 0 0).2.1,(gU (l.drop p) 0 0 0).2.2)
 else if most<(gU (l.drop p) 0 0 0).1 then(0,p+(gU (l.drop p) 0 0 0).2.1,7)
 else((gU (l.drop p) 0 0 0).1,p+(gU (l.drop p) 0 0 0).2.1,0)
section
variable (b k:Nat)(l:List Int)(most:Nat)
theorem JF(p:Nat)(e:Int)(he:e≠0)(hp:Hp)(h:hp.rd b 0=some (Rc k l p e))(v:Value)(n s:Int)(c:Int):
 B88_7 (.ptr b 0 0) v (.int .u64 n) (.int .i64 s) (.int .u8 c) hp=some (.sc (.int .u64 0),hp):=by
 have er:=XH b k l p e hp h
 rw[qg0]
 simp[er,he]
theorem XM(p:Nat)(e:Int)(hp:Hp)(h:hp.rd b 0=some (Rc k l p e))(v:Value)(n s:Int)(c:Int):
 B88_6 (.ptr b 0 0) v (.int .u64 n) (.int .i64 s) (.int .u8 c) hp=some (.sc (.int .u64 0),hp.put b 0 (Rc k l p (rE e 4))):=by
 have fl:=Qb b k l p e hp 4 h
 have e7:=JF b k l p (rE e 4) (by unfold rE;split<;>simp_all) (hp.put b 0 (Rc k l p (rE e 4))) (qr _ _ _) v n s c
 rw[qv2]
 simp[fl,e7]
def uF(most:Nat)(g:Nat×Nat×Int):Nat×Int:=if g.2.2≠0 then(0,g.2.2)else if most<g.1 then(0,7)else(g.1,0)
theorem qxh(hm:most<18446744073709551616)(q s n c:Nat)(hp:Hp)(hc:c<256)(hs:s<=63)(hn:n<2^s)(hfit:n+c%128*2^s<18446744073709551616)(h:hp.rd b 0=some (Rc k l q 0)):
 B88_7 (.ptr b 0 0) (.int .u64 most) (.int .u64 n) (.int .i64 s) (.int .u8 c) hp=
  if c<128 then(if most<n+c*2^s then some (.sc (.int .u64 0),hp.put b 0 (Rc k l q 7))else some (.sc (.int .u64 ((n+c*2^s:Nat):Int)),hp))
  else B88_4 (.ptr b 0 0) (.int .u64 most) (.int .u64 ((n+(c-128)*2^s:Nat):Int)) (.int .i64 ((s+7:Nat):Int)) hp:=by
 have er:=XH b k l q 0 hp h
 have fl:=Qb b k l q 0 hp 7 h
 have an:=zdl c hc
 have w:IntKind.u64.wrap ((c%128:Nat):Int)=((c%128:Nat):Int):=qz qc qc
 have sh:∀t x y,qt Tryz.prog .shl t x y (.int .u64 ((c%128:Nat):Int)) (.int .i64 (s:Int))=some (.int .u64 ((c%128*2^s:Nat):Int)):=by
  intro t x y
  rw[jq _ _ _ _ _ _ _ _ qc]
  have e:min (s:Int).toNat IntKind.u64.bits=s:=by
   have:IntKind.u64.bits=64:=rfl
   omega
  rw[e]
  have e2:((c%128:Nat):Int)*2^s=((c%128*2^s:Nat):Int):=qf
  rw[e2,qz qc qc]
 have oo:=zbt n (c%128) s hn hfit
 have w7:IntKind.i64.wrap ((s:Int)+7)=((s+7:Nat):Int):=qi
 rw[qg0]
 by_cases h1:c<128
 ·have e1:c%128=c:=qc
  rw[e1]at an w sh oo
  have hlt:((c:Int)<128):=qc
  rw[if_pos h1]
  by_cases h2:most<n+c*2^s
  ·rw[if_pos h2]
   generalize c*2^s=y at*
   generalize hz:n+y=z at*
   have hlt2:(most:Int)<(z:Int):=qc
   simp[er,an,w,sh,oo,hlt,hlt2,fl,rE,-qO,-jk]
  ·rw[if_neg h2]
   generalize c*2^s=y at*
   generalize hz:n+y=z at*
   have hlt2:¬((most:Int)<(z:Int)):=qc
   simp[er,an,w,sh,oo,hlt,hlt2,-qO,-jk]
 ·have e1:c%128=c-128:=qc
  rw[e1]at an w sh oo
  have hlt:¬((c:Int)<128):=qc
  rw[if_neg h1]
  generalize(c-128)*2^s=y at*
  generalize hz:n+y=z at*
  generalize((c-128:Nat):Int)=c' at*
  generalize((s+7:Nat):Int)=s' at*
  simp[er,an,w,sh,oo,hlt,w7,-qO,-jk]
end
section
variable (b k:Nat)(l:List Int)(most:Nat)
theorem qiq(hm:most<18446744073709551616)(hl:l.length<=1000000000)(h8:∀c∈l,0<=c/\c<256)(p:Nat):∀(r:List Int) (u s n i:Nat) (hp:Hp),l.drop (p+u)=r->p+u<=l.length->s=7*i->i<=9->n<2^s->hp.rd b 0=some (Rc k l (p+u) 0)->
 B88_4 (.ptr b 0 0) (.int .u64 most) (.int .u64 n) (.int .i64 s) hp=some (.sc (.int .u64 ((uF most (gU r s n u)).1:Nat)),hp.put b 0 (Rc k l (p+(gU r s n u).2.1) (uF most (gU r s n u)).2)):=by
 intro r
 induction r with
 |nil=>
  intro u s n i hp hr hpu hs hi hn h
  have hle:=qA hr
  have hb:rB l (p+u) 0=(0,p+u,3):=by
   unfold rB rL rE
   rw[if_pos qh]
   simp
  have rb:=JD b k l (p+u) 0 hp hl hpu h
  rw[hb]at rb
  have g:gU [] s n u=(0,u,3):=rfl
  have f:uF most (0,u,3)=(0,3):=rfl
  rw[g,f]
  have e6:=XM b k l (p+u) 3 (hp.put b 0 (Rc k l (p+u) 3)) (qr _ _ _) (.int .u64 most) n s 0
  have e7:=JF b k l (p+u) 3 qg (hp.put b 0 (Rc k l (p+u) 3)) (qr _ _ _) (.int .u64 most) n s 0
  have r34:rE 3 4=3:=rfl
  rw[qx,r34]at e6
  rw[Jo]
  by_cases h63:s=63
  ·subst h63
   simp at e6
   simp[rb,e6]
  ·have hc:¬((s:Int)=63):=qc
   by_cases h0:s=0
   ·subst h0
    simp at e7
    simp[rb,e7]
   ·have hp0:0<s:=qc
    simp[rb,hc,hp0,e6]
 |cons c r ih=>
  intro u s n i hp hr hpu hs hi hn h
  obtain⟨e1,e2,hlt,e3⟩:=qu hr
  have hc8:=h8 c (zgo e1)
  obtain⟨cn,rfl⟩:∃cn:Nat,c=cn:=⟨c.toNat,qc⟩
  have hb:rB l (p+u) 0=((cn:Int),p+u+1,0):=by
   unfold rB rL
   rw[if_neg qh]
   simp[hlt,e3]
  have rb:=JD b k l (p+u) 0 hp hl hpu h
  rw[hb]at rb
  have e6:=XM b k l (p+u+1) 0 (hp.put b 0 (Rc k l (p+u+1) 0)) (qr _ _ _) (.int .u64 most) n s cn
  have r34:rE 0 4=4:=rfl
  rw[qx,r34]at e6
  have hs63:s<=63:=qc
  by_cases bad:(s=63/\1<(cn:Int))\/(0<s/\(cn:Int)=0)
  ·have g:gU ((cn:Int)::r) s n u=(0,u+1,4):=by unfold gU;rw[if_pos bad]
   have f:uF most (0,u+1,4)=(0,4):=rfl
   rw[g,f,Jo]
   have hpu1:p+(u+1)=p+u+1:=qc
   rw[hpu1]
   by_cases h63:s=63
   ·subst h63
    by_cases h1:1<cn
    ·have h1':1<(cn:Int):=qc
     simp at e6
     simp[rb,h1',e6]
    ·have hc0:cn=0:=by
      rcases bad with⟨_,h2⟩|⟨_,h2⟩<;>omega
     subst hc0
     simp at e6
     simp[rb,e6]
   ·have hc:¬((s:Int)=63):=qc
    have hz:0<s/\cn=0:=by
     rcases bad with⟨h2,_⟩|⟨h2,h3⟩
     ·exact absurd h2 h63
     ·exact⟨h2,qc⟩
    obtain⟨hz1,hz2⟩:=hz
    subst hz2
    simp at e6
    simp[rb,hc,hz1,e6]
  ·have hfit:n+cn%128*2^s<18446744073709551616:=by
    by_cases h63:s=63
    ·subst h63
     have hc1:¬(1<(cn:Int)):=fun h2=>bad (.inl ⟨rfl,h2⟩)
     have e:(2:Nat)^63=9223372036854775808:=rfl
     rw[e]at hn⊢
     have:cn%128<=1:=qc
     omega
    ·have hs56:s<=56:=qc
     have h7:2^s<=2^56:=zie qg hs56
     have e:(2:Nat)^56=72057594037927936:=rfl
     rw[e]at h7
     have:cn%128*2^s<=127*72057594037927936:=zh0 qc h7
     omega
   have b7:=qxh b k l most hm (p+u+1) s n cn (hp.put b 0 (Rc k l (p+u+1) 0)) qc hs63 hn hfit (qr _ _ _)
   have hpu1:p+(u+1)=p+u+1:=qc
   have step:B88_4 (.ptr b 0 0) (.int .u64 most) (.int .u64 n) (.int .i64 s) hp=B88_7 (.ptr b 0 0) (.int .u64 most) (.int .u64 n) (.int .i64 s) (.int .u8 cn) (hp.put b 0 (Rc k l (p+u+1) 0)):=by
    rw[Jo]
    by_cases h63:s=63
    ·subst h63
     have h1:¬(1<cn):=fun h2=>bad (.inl ⟨rfl,qc⟩)
     have h2:¬(cn=0):=fun h2=>bad (.inr ⟨qc,qc⟩)
     have h1':¬(1<(cn:Int)):=qc
     simp[rb,h1',h2]
    ·have hc:¬((s:Int)=63):=qc
     by_cases h0:s=0
     ·subst h0
      simp[rb]
     ·have hp0:0<s:=qc
      have h2:¬(cn=0):=fun h2=>bad (.inr ⟨qc,qc⟩)
      simp[rb,hc,hp0,h2]
   rw[step,b7]
   by_cases h1:cn<128
   ·have g:gU ((cn:Int)::r) s n u=(n+cn*2^s,u+1,0):=by
     unfold gU;rw[if_neg bad,if_pos qc,zgu]
    rw[if_pos h1,g,qx]
    by_cases h2:most<n+cn*2^s
    ·have f:uF most (n+cn*2^s,u+1,0)=(0,7):=by unfold uF;simp[h2]
     rw[if_pos h2,f]
     simp only[hpu1];rfl
    ·have f:uF most (n+cn*2^s,u+1,0)=(n+cn*2^s,0):=by unfold uF;simp[h2]
     rw[if_neg h2,f]
     simp only[hpu1]
   ·have g:gU ((cn:Int)::r) s n u=gU r (s+7) (n+(cn-128)*2^s) (u+1):=by
     conv=>lhs;unfold gU
     rw[if_neg bad,if_neg qc,zgu]
    have hi9:i+1<=9:=by
     by_cases h63:s=63
     ·exact absurd (.inl ⟨h63,qc⟩) bad
     ·omega
    have hn7:n+(cn-128)*2^s<2^(s+7):=by
     have e:2^(s+7)=128*2^s:=by rw[zjp];omega
     rw[e]
     have:(cn-128)*2^s<=127*2^s:=zgz _ qc
     omega
    rw[if_neg h1,g]
    have hh:=ih (u+1) (s+7) (n+(cn-128)*2^s) (i+1) (hp.put b 0 (Rc k l (p+u+1) 0)) (by rw[hpu1];exact e2) qc qc hi9 hn7 (by rw[hpu1];exact qr _ _ _)
    rw[qx]at hh
    exact hh
theorem qmw(p:Nat)(e:Int)(hm:most<18446744073709551616)(hl:l.length<=1000000000)(h8:∀c∈l,0<=c/\c<256)(hpl:p<=l.length)(hp:Hp)(h:hp.rd b 0=some (Rc k l p e)):
 run cxX 88 [.ptr b 0 0,.sc (.int .u64 (most:Int))] hp=some (.sc (.int .u64 ((rU l p e most).1:Nat)),hp.put b 0 (Rc k l (rU l p e most).2.1 (rU l p e most).2.2)):=by
 rw[E88]
 by_cases he:e=0
 ·subst he
  have hh:=qiq b k l most hm hl h8 p (l.drop p) 0 0 0 0 hp rfl qc rfl qc qg h
  have er:rU l p 0 most=((uF most (gU (l.drop p) 0 0 0)).1,p+(gU (l.drop p) 0 0 0).2.1,(uF most (gU (l.drop p) 0 0 0)).2):=by
   unfold rU uF
   rw[if_neg qf]
   split
   ·rfl
   ·split<;>rfl
  rw[er]
  simpa using hh
 ·have er:rU l p e most=(0,p,e):=by unfold rU;rw[if_pos he]
  rw[er]
  have hb:rB l p e=(0,p,e):=by
   unfold rB rL rE
   simp[he]
  have rb:=JD b k l p e hp hl hpl h
  rw[hb,zR h]at rb
  have e7:=JF b k l p e he hp h (.int .u64 most) 0 0 0
  rw[zR h]
  simp[Jo,rb,e7]
end
theorem and1(n:Nat)(hn:n<18446744073709551616)(t:TypeId)(x y:Operand):qt Tryz.prog .and t x y (.int .u64 (n:Int)) (.int .u64 1)=some (.int .u64 ((n%2:Nat):Int)):=by
 rw[qO]
 have e2:(BitVec.ofInt IntKind.u64.bits (n:Int)&&&BitVec.ofInt IntKind.u64.bits 1).toNat=n%2:=by
  show(BitVec.ofInt 64 (n:Int)&&&1#64).toNat=_
  rw[zit,zg8]
  have e1:((n:Int)%((2^64:Nat):Int)).toNat=n:=qc
  rw[e1]
  exact Nat.and_one_is_mod n
 rw[e2,qz qc qc]
def Fm(X:List Nat)(hp hp':Hp):Prop:=hp.next<=hp'.next/\∀c,c<hp.next->c∉X->hp'.get c=hp.get c
theorem Fm.refl(X:List Nat)(hp:Hp):Fm X hp hp:=⟨zgm _,fun _ _ _=>rfl⟩
theorem Fm.trans{X:List Nat}{a b c:Hp}(h:Fm X a b)(g:Fm X b c):Fm X a c:=
 ⟨zhw h.1 g.1,fun x hx hn=>by rw[g.2 x (zg5 hx h.1) hn,h.2 x hx hn]⟩
theorem Fm.mono{X Y:List Nat}{a b:Hp}(h:Fm X a b)(hs:∀c,c∈X->c<a.next->c∈Y):Fm Y a b:=
 ⟨h.1,fun c hc hn=>h.2 c hc (fun hx=>hn (hs c hx hc))⟩
theorem rdg{a b:Hp}{c:Nat}(h:b.get c=a.get c):b.rd c 0=a.rd c 0:=by unfold Hp.rd;rw[h]
theorem Fm.rd{X:List Nat}{a b:Hp}(h:Fm X a b){c:Nat}(hc:c<a.next)(hn:c∉X):b.rd c 0=a.rd c 0:=rdg (h.2 c hc hn)
theorem Fm.put{X:List Nat}(hp:Hp)(b:Nat)(x:List AV)(hb:b∈X):Fm X hp (hp.put b 0 x):=
 ⟨zgm _,fun c _ hn=>by
  have:c≠b:=fun e=>hn (e▸hb)
  simp[Hp.put,this]⟩
theorem Fm.new(X:List Nat)(hp:Hp)(x:List AV):Fm X hp (hp.new x):=
 ⟨Nat.le_succ _,fun c hc _=>by
  have:c≠hp.next:=qc
  simp[Hp.new,this]⟩
theorem Fm.delNew{X:List Nat}(hp:Hp)(b:Nat)(x:List AV)(hb:b∈X):Fm X hp ((hp.del b).new x):=
 ⟨Nat.le_succ _,fun c hc hn=>by
  have h1:c≠hp.next:=qc
  have h2:c≠b:=fun e=>hn (e▸hb)
  have h3:c≠(hp.del b).next:=h1
  show(if c=(hp.del b).next then _ else(hp.del b).get c)=_
  rw[if_neg h3]
  show(if c=b then none else hp.get c)=_
  rw[if_neg h2]⟩
def Bs(nb:Nat)(bs:List Bool):AV:=if bs=[]then S 2 1 []else .ms nb 0 0 (pk bs).length 1
def BW(hp:Hp)(w nb:Nat)(bs:List Bool):Prop:=
 w<hp.next/\(bs=[]->nb=w)/\(bs≠[]->nb<hp.next/\nb≠w/\hp.rd nb 0=some (LI .u8 (pk bs)))/\hp.rd w 0=some [Bs nb bs,.sc (.int .i64 (bs.length:Int))]
def RW(hp:Hp)(w nb:Nat)(l:List Bool)(m:Nat):Prop:=
 w<hp.next/\nb<hp.next/\nb≠w/\hp.rd nb 0=some (LI .u8 (pk l))/\hp.rd w 0=some [.ms nb 0 0 (pk l).length 1,.sc (.int .i64 (m:Int))]
theorem BW.new(hp:Hp):BW (hp.new [S 2 1 [],.sc (.int .i64 0)]) hp.next hp.next []:=
 ⟨zh1 _,fun _=>rfl,fun h=>absurd rfl h,by rw[qB];rfl⟩
theorem BW.fr{hp hp':Hp}{w nb:Nat}{bs:List Bool}{X:List Nat}(h:BW hp w nb bs)(f:Fm X hp hp')(h1:w∉X)(h2:nb∉X):BW hp' w nb bs:=
 ⟨zg5 h.1 f.1,h.2.1,fun hb=>⟨zg5 (h.2.2.1 hb).1 f.1,(h.2.2.1 hb).2.1,by rw[f.rd (h.2.2.1 hb).1 h2];exact(h.2.2.1 hb).2.2⟩,
  by rw[f.rd h.1 h1];exact h.2.2.2⟩
def BS(hp:Hp)(w nb:Nat)(hp':Hp)(nb':Nat)(l:List Bool):Prop:=BW hp' w nb' l/\Fm [w,nb] hp hp'/\(nb'=nb\/hp.next<=nb')
theorem BS.trans{a b c:Hp}{w n1 n2 n3:Nat}{l m:List Bool}(hw:w<a.next)(h:BS a w n1 b n2 l)(g:BS b w n2 c n3 m):BS a w n1 c n3 m:=by
 refine⟨g.1,⟨zhw h.2.1.1 g.2.1.1,fun x hx hn=>?_⟩,?_⟩
 ·have hx':=zg5 hx h.2.1.1
  simp at hn
  rw[g.2.1.2 x hx' (by simp;refine⟨hn.1,?_⟩;rcases h.2.2 with e|e
                       ·rw[e];exact hn.2
                       ·omega),h.2.1.2 x hx (by simp;exact hn)]
 ·have:=h.2.1.1
  rcases h.2.2 with e|e
  ·rcases g.2.2 with e'|e'
   ·exact .inl (by rw[e',e])
   ·exact .inr qc
  ·rcases g.2.2 with e'|e'
   ·exact .inr qc
   ·exact .inr qc
theorem qxn(m:Nat)(t:TypeId)(x y:Operand):qt Tryz.prog .rem t x y (.int .i64 (m:Int)) (.int .i64 8)=some (.int .i64 ((m%8:Nat):Int)):=by
 rw[qS _ _ _ _ _ _ _ qc,qQ qc]
 rfl
theorem quo8(m:Nat)(hm:m<1000000000)(t:TypeId)(x y:Operand):qt Tryz.prog .quo t x y (.int .i64 (m:Int)) (.int .i64 8)=some (.int .i64 ((m/8:Nat):Int)):=by
 rw[Jh _ _ _ _ _ _ _ qc,ziy qc,qk qc qc]
 rfl
theorem pkne{l:List Bool}(h:l≠[]):pk l≠[]:=by
 intro e
 have:=congrArg List.length e
 have h1:=zh5.mpr h
 simp at this
 omega
section
variable (w nb n:Nat)(v1:Value)(i:Nat)(bs:List Bool)(hp:Hp)
theorem zdb(hm:bs.length<7900000)(h:BW hp w nb bs):∃hp' nb',B144_2 (.ptr w 0 0) v1 (.int .i64 (i:Int)) hp=B144_6 (.ptr w 0 0) v1 (.int .i64 (i:Int)) hp'/\
 RW hp' w nb' (bs++[false]) bs.length/\Fm [w,nb] hp hp'/\(nb'=nb\/hp.next<=nb'):=by
 obtain⟨h1,h2,h3,h4⟩:=h
 have hi:(0:Int)<=(i:Int):=qc
 have r8:=qxn bs.length
 rw[qa8]
 by_cases hz:bs.length%8=0
 ·have pf:=qev bs
  rw[if_pos hz]at pf
  rw[hz]at r8
  by_cases hb:bs=[]
  ·subst hb
   have e:Bs nb []=S 2 1 []:=rfl
   have r80:∀t x y,qt Tryz.prog .rem t x y (.int .i64 0) (.int .i64 8)=some (.int .i64 0):=fun t x y=>qxn 0 t x y
   rw[e]at h4
   have a:=Zk .u8 0 1 qg hp
   have hne:w≠hp.next:=qc
   have r1:=jE hp (LI .u8 [0]) hne
   rw[h4]at r1
   refine⟨(hp.new (LI .u8 [0])).put w 0 [.ms hp.next 0 0 1 1,.sc (.int .i64 0)],hp.next,?_,?_,?_,.inr (zgm _)⟩
   ·simp[hi,h4,qj,qo,r80,kC,a,r1,qm]
   ·refine⟨qh,qf,fun e=>hne e.symm,?_,?_⟩
    ·rw[zN _ _ (fun e=>hne e.symm),qB];rfl
    ·rw[qr];rfl
   ·exact(Fm.new _ hp _).trans (Fm.put _ _ _ qf)
  ·obtain⟨n1,n2,n3⟩:=h3 hb
   have e:Bs nb bs= .ms nb 0 0 (pk bs).length 1:=if_neg hb
   rw[e]at h4
   have a:=Vb .u8 (pk bs) 0 1 nb qg (by rw[yo];omega) (pkne hb) hp n3
   have hne:w≠hp.next:=qc
   have r1:((hp.del nb).new (LI .u8 (pk bs++[0]))).rd w 0=hp.rd w 0:=(Fm.delNew (X:=[nb]) hp nb _ qf).rd h1 (by simp;exact fun e=>n2 e.symm)
   rw[h4]at r1
   refine⟨((hp.del nb).new (LI .u8 (pk bs++[0]))).put w 0 [.ms hp.next 0 0 ((pk bs).length+1) 1,.sc (.int .i64 bs.length)],hp.next,?_,?_,?_,.inr (zgm _)⟩
   ·generalize pk bs=pb at*
    simp[hi,h4,qj,qo,r8,kC,a,r1,qm]
   ·refine⟨by simp[Hp.del];omega,by simp[Hp.del],fun e=>hne e.symm,?_,?_⟩
    ·rw[zN _ _ (fun e=>hne e.symm),pf];exact qB (hp.del nb) _
    ·rw[qr,pf,zgi];rfl
   ·exact(Fm.delNew hp nb _ qf).trans (Fm.put _ _ _ qf)
 ·have hb:bs≠[]:=fun e=>hz (by rw[e];rfl)
  obtain⟨n1,n2,n3⟩:=h3 hb
  have e:Bs nb bs= .ms nb 0 0 (pk bs).length 1:=if_neg hb
  rw[e]at h4
  have pf:=qev bs
  rw[if_neg hz]at pf
  refine⟨hp,nb,?_,⟨h1,n1,n2,by rw[pf];exact n3,by rw[pf];exact h4⟩,Fm.refl _ _,.inl rfl⟩
  have hz':¬(((bs.length%8:Nat):Int)=0):=qc
  generalize((bs.length%8:Nat):Int)=z at*
  simp[hi,h4,qj,r8,hz']
theorem zbh(m:Nat)(t:TypeId)(x y:Operand):qt Tryz.prog .shr t x y (.int .u8 128) (.int .i64 ((m%8:Nat):Int))=some (.int .u8 ((2^(7-m%8):Nat):Int)):=by
 rw[zZ _ _ _ _ _ _ _ _ qc,zgu]
 have h:m%8<8:=zkd _ qg
 generalize m%8=r at*
 have:r=0\/r=1\/r=2\/r=3\/r=4\/r=5\/r=6\/r=7:=qc
 rcases this with e|e|e|e|e|e|e|e<;>subst e<;>rfl
theorem or8(bs:List Bool)(t:TypeId)(x y:Operand):qt Tryz.prog .or t x y (.int .u8 (KP (bs++[false]) (8*(bs.length/8)):Nat)) (.int .u8 ((2^(7-bs.length%8):Nat):Int))=
 some (.int .u8 (KP (bs++[true]) (8*(bs.length/8)):Nat)):=by
 rw[jk]
 have e:(BitVec.ofInt IntKind.u8.bits (KP (bs++[false]) (8*(bs.length/8)):Nat)|||BitVec.ofInt IntKind.u8.bits ((2^(7-bs.length%8):Nat):Int)).toNat=KP (bs++[true]) (8*(bs.length/8)):=by
  rw[<-zc6,zh3,zh3]
  rfl
 have:=qvk (bs++[true]) (8*(bs.length/8))
 rw[e,zJ qc qc]
theorem vK(K:IntKind)(l:List Int)(i:Nat)(h:i<l.length):qj (LI K l) i=some (.int K (l.getD i 0)):=by
 unfold qj LI
 rw[zgx,zgp,zgl h]
 rfl
theorem zda(hn:n<18446744073709551616)(hi:i<64)(hm:bs.length<7900000)(h:RW hp w nb (bs++[false]) bs.length):
 ∃hp',B144_6 (.ptr w 0 0) (.int .u64 (n:Int)) (.int .i64 (i:Int)) hp=B144_8 (.ptr w 0 0) (.int .u64 (n:Int)) (.int .i64 (i:Int)) hp'/\
  RW hp' w nb (bs++[n.testBit i]) bs.length/\Fm [w,nb] hp hp':=by
 obtain⟨h1,h2,h3,h4,h5⟩:=h
 have s1:=fun o o'=>Qa n i qc o o' .i64
 have s2':=and1 (n/2^i) (zjc (zkh _ _) hn)
 have tb:n.testBit i=decide (n/2^i%2=1):=zj7
 rw[qqh]
 by_cases hb:n/2^i%2=1
 ·have s2:∀t x y,qt Tryz.prog .and t x y (.int .u64 ((n/2^i:Nat):Int)) (.int .u64 1)=some (.int .u64 1):=fun t x y=>by rw[s2',hb];rfl
  rw[tb,decide_eq_true hb]
  have q:=quo8 bs.length qc
  have r:=qxn bs.length
  have s3:=zbh bs.length
  have o8:=or8 bs
  have il:bs.length/8<(pk (bs++[false])).length:=by rw[yo];simp;omega
  have ix:=zd .i64 il
  have g1:=vK .u8 (pk (bs++[false])) _ il
  rw[qcf _ _ qh]at g1
  have p1:=QM .u8 (pk (bs++[false])) (bs.length/8) (KP (bs++[true]) (8*(bs.length/8)):Nat) il
  rw[<-qx0]at p1
  have e:=yo (bs++[true])
  have e2:(pk (bs++[true])).length=(pk (bs++[false])).length:=qf
  refine⟨hp.put nb 0 (LI .u8 (pk (bs++[true]))),?_,⟨h1,h2,h3,by rw[qr],by rw[zN _ _ (fun e=>h3 e.symm),h5,e2]⟩,Fm.put _ _ _ qf⟩
  generalize(KP (bs++[false]) (8*(bs.length/8)):Nat)=x at*
  generalize(KP (bs++[true]) (8*(bs.length/8)):Nat)=y at*
  generalize pk (bs++[false])=pf at*
  generalize pk (bs++[true])=pt at*
  generalize((2^(7-bs.length%8):Nat):Int)=zz at*
  generalize n/2^i=nn at*
  generalize bs.length/8=jj at*
  generalize bs.length%8=kk at*
  simp only[wV,s1,zgh]
  have gs:∀(x:AV) (v:Value),qj [x,.sc v] 1=some v:=fun _ _=>rfl
  simp[s2,h5,qo,gs,q,ix,h4,g1,r,s3,o8,p1,-jk,-qO]
 ·have hz:n/2^i%2=0:=qc
  have s2:∀t x y,qt Tryz.prog .and t x y (.int .u64 ((n/2^i:Nat):Int)) (.int .u64 1)=some (.int .u64 0):=fun t x y=>by rw[s2',hz];rfl
  rw[tb,decide_eq_false hb]
  refine⟨hp,?_,⟨h1,h2,h3,h4,h5⟩,Fm.refl _ _⟩
  generalize n/2^i=nn at*
  simp only[wV,s1,zgh]
  simp[s2,-qO]
theorem zc9(hm:bs.length<7900000)(b:Bool)(hi:i<64)(h:RW hp w nb (bs++[b]) bs.length):
 ∃hp',B144_8 (.ptr w 0 0) v1 (.int .i64 (i:Int)) hp=B144_2 (.ptr w 0 0) v1 (.int .i64 ((i:Int)-1)) hp'/\BW hp' w nb (bs++[b])/\Fm [w,nb] hp hp':=by
 obtain⟨h1,h2,h3,h4,h5⟩:=h
 have w1:IntKind.i64.wrap ((bs.length:Int)+1)=((bs.length:Int)+1):=qi
 have w2:IntKind.i64.wrap ((i:Int)-1)=((i:Int)-1):=qi
 have hne:bs++[b]≠[]:=qf
 refine⟨hp.put w 0 [.ms nb 0 0 (pk (bs++[b])).length 1,.sc (.int .i64 ((bs++[b]).length:Int))],?_,⟨h1,fun e=>absurd e hne,fun _=>⟨h2,h3,by rw[zN _ _ h3];exact h4⟩,?_⟩,Fm.put _ _ _ qf⟩
 ·rw[qqg]
  generalize pk (bs++[b])=pb at*
  simp[h5,qj,w1,w2,qm]
 ·rw[qr]
  unfold Bs
  rw[if_neg hne]
theorem qo0(w n:Nat)(hn:n<18446744073709551616):∀(k nb:Nat) (bs:List Bool) (hp:Hp),k<=64->bs.length+k<7900000->BW hp w nb bs->
 ∃hp' nb',B144_2 (.ptr w 0 0) (.int .u64 (n:Int)) (.int .i64 ((k:Int)-1)) hp=some (.tup [],hp')/\BS hp w nb hp' nb' (bs++nbs n k):=by
 intro k
 induction k with
 |zero=>
  intro nb bs hp hk hl h
  refine⟨hp,nb,?_,by simpa[nbs]using h,Fm.refl _ _,.inl rfl⟩
  rw[qa8]
  simp
 |succ k ih=>
  intro nb bs hp hk hl h
  obtain⟨hp1,nb1,a1,a2,a3,a4⟩:=zdb w nb (.int .u64 (n:Int)) k bs hp qc h
  obtain⟨hp2,b1,b2,b3⟩:=zda w nb1 n k bs hp1 hn qc qc a2
  obtain⟨hp3,c1,c2,c3⟩:=zc9 w nb1 (.int .u64 (n:Int)) k bs hp2 qc _ qc b2
  obtain⟨hp4,nb4,d1,d2⟩:=ih nb1 (bs++[n.testBit k]) hp3 qc qh c2
  have e:((k+1:Nat):Int)-1=(k:Int):=qc
  have e2:bs++nbs n (k+1)=bs++[n.testBit k]++nbs n k:=by simp[nbs]
  refine⟨hp4,nb4,by rw[e,a1,b1,c1,d1],?_⟩
  rw[e2]
  refine BS.trans h.1 (n2:=nb1) (b:=hp3) (l:=bs++[n.testBit k]) ⟨c2,?_,a4⟩ d2
  refine⟨zhw a3.1 (zhw b3.1 c3.1),fun c hc hn=>?_⟩
  have hc1:=zg5 hc a3.1
  have hc2:=zg5 hc1 b3.1
  have hn':c∉[w,nb1]:=by
   simp at hn⊢
   refine⟨hn.1,?_⟩
   rcases a4 with e|e
   ·rw[e];exact hn.2
   ·omega
  rw[c3.2 c hc2 hn',b3.2 c hc1 hn',a3.2 c hc hn]
theorem ZE(w nb n k:Nat)(bs:List Bool)(hp:Hp)(hn:n<18446744073709551616)(hk:k<=64)(hl:bs.length+k<7900000)(h:BW hp w nb bs):
 ∃hp' nb',run cxX 144 [.ptr w 0 0,.sc (.int .u64 (n:Int)),.sc (.int .i64 (k:Int))] hp=some (.tup [],hp')/\BS hp w nb hp' nb' (bs++nbs n k):=by
 obtain⟨hp',nb',h1,h2⟩:=qo0 w n hn k nb bs hp hk hl h
 refine⟨hp',nb',?_,h2⟩
 have m1:max (k:Int) 0=(k:Int):=qc
 have m2:min (k:Int) 64=(k:Int):=qc
 have w1:IntKind.i64.wrap ((k:Int)-1)=(k:Int)-1:=qi
 rw[E144]
 simp[m1,m2,w1,h1]
theorem qhx(w:Nat):∀(k nb:Nat) (bs:List Bool) (hp:Hp),bs.length+k<7800000->BW hp w nb bs->
 ∃hp' nb',B143_0 (.ptr w 0 0) (.int .i64 (k:Int)) hp=some (.tup [],hp')/\BS hp w nb hp' nb' (bs++una k):=by
 intro k
 induction k with
 |zero=>
  intro nb bs hp hl h
  obtain⟨hp1,nb1,a1,a2⟩:=ZE w nb 0 1 bs hp qc qc qc h
  refine⟨hp1,nb1,?_,a2⟩
  rw[qa9]
  simp at a1
  simp[a1]
 |succ k ih=>
  intro nb bs hp hl h
  obtain⟨hp1,nb1,a1,a2⟩:=ZE w nb 1 1 bs hp qc qc qc h
  obtain⟨hp2,nb2,b1,b2⟩:=ih nb1 (bs++nbs 1 1) hp1 qh a2.1
  have w2:IntKind.i64.wrap (((k+1:Nat):Int)-1)=(k:Int):=qi
  have hpos:((k+1:Nat):Int)>0:=qc
  have e:bs++una (k+1)=bs++nbs 1 1++una k:=by simp[una,nbs,zil]
  refine⟨hp2,nb2,?_,by rw[e];exact a2.trans h.1 b2⟩
  rw[qa9]
  generalize((k+1:Nat):Int)=z at*
  simp at a1
  simp[a1,hpos,w2,b1]
theorem Wb(w nb k:Nat)(bs:List Bool)(hp:Hp)(hl:bs.length+k<7800000)(h:BW hp w nb bs):
 ∃hp' nb',run cxX 143 [.ptr w 0 0,.sc (.int .i64 (k:Int))] hp=some (.tup [],hp')/\BS hp w nb hp' nb' (bs++una k):=by
 obtain⟨hp',nb',h1,h2⟩:=qhx w k nb bs hp hl h
 refine⟨hp',nb',?_,h2⟩
 rw[E143]
 simp[h1]
theorem vx(w nb:Nat)(bs:List Bool)(hp:Hp)(hl:bs.length<7900000)(h:BW hp w nb bs):
 ∃t hp',run cxX 145 [.ptr w 0 0] hp=some (S t 1 (LI .u8 (pk bs)),hp')/\Fm [] hp hp':=by
 obtain⟨h1,h2,h3,h4⟩:=h
 rw[E145]
 by_cases hb:bs=[]
 ·subst hb
  have e:Bs nb []=S 2 1 []:=rfl
  rw[e]at h4
  refine⟨1,hp,?_,Fm.refl _ _⟩
  have a:=Vc 1 2 hp
  simp[h4,qo,kC,a,qs9]
 ·obtain⟨n1,n2,n3⟩:=h3 hb
  have e:Bs nb bs= .ms nb 0 0 (pk bs).length 1:=if_neg hb
  rw[e]at h4
  have s:=qdv .u8 (pk bs) hp nb n3
  have a:=YG .u8 (pk bs) (.ms nb 0 0 (pk bs).length 1) 1 qg (by rw[yo];omega) (pkne hb) hp s
  have f:=Kz .u8 (pk bs) (hp.new (LI .u8 (pk bs))) hp.next (qB _ _)
  refine⟨0,(hp.new (LI .u8 (pk bs))).del hp.next,?_,⟨by simp[Hp.del],fun c hc _=>?_⟩⟩
  ·generalize pk bs=pb at*
   simp[h4,qo,kC,a,f]
  ·have:c≠hp.next:=qc
   simp[Hp.del,Hp.new,this]
end
section
variable {α:Type}(C:α->List AV)(n:Nat)
def qp(l:List α):List AV:=l.flatMap C
structure El (x : α) : Prop where
 len:(C x).length=n
 ro:(C x).map ro1=C x
 vl:(C x).all vl=true
theorem xF(x:α)(r:List α):qp C (x::r)=C x++qp C r:=rfl
theorem ve(a b:List α):qp C (a++b)=qp C a++qp C b:=by simp[qp]
theorem XO(x:α):qp C [x]=C x:=by simp[qp]
theorem zC:∀{l:List α},(∀x∈l,El C n x)->(qp C l).length=n*l.length
 |[],_=>by simp[qp]
 |x::r,h=>by
  have ih:=zC (l:=r) (fun y hy=>h y (by simp[hy]))
  rw[xF,zgi,ih,(h x qf).len,zgk,Nat.mul_succ]
  omega
theorem qca:∀{l:List α},(∀x∈l,El C n x)->(qp C l).map ro1=qp C l
 |[],_=>rfl
 |x::r,h=>by
  rw[xF,zin,qca (fun y hy=>h y (by simp[hy])),(h x qf).ro]
theorem XQ:∀{l:List α} {i:Nat} {x:α},(∀x∈l,El C n x)->l[i]?=some x->((qp C l).drop (i*n)).take n=C x
 |[],i,x,_,h=>by cases h
 |y::r,0,x,hl,h=>by
  have:y=x:=by simpa using h
  subst this
  have e:=(hl y qf).len
  rw[xF,zh7,zjh,<-e,zji]
 |y::r,i+1,x,hl,h=>by
  have ih:=XQ (l:=r) (i:=i) (fun z hz=>hl z (by simp[hz])) (by simpa using h)
  have e:=(hl y qf).len
  have e2:(i+1)*n=(C y).length+i*n:=by rw[e,Nat.succ_mul];omega
  rw[xF,e2,<-List.drop_drop,zkk]
  exact ih
variable (hn:0<n)
include hn
theorem XP{l:List α}(hl:∀x∈l,El C n x)(h:qp C l=[]):l=[]:=by
 have h1:=congrArg List.length h
 rw[zC C n hl]at h1
 cases l with
 |nil=>rfl
 |cons x r=>
  rw[zgk,Nat.mul_succ]at h1
  simp at h1
  omega
theorem JP(k:Nat){l:List α}(hl:∀x∈l,El C n x):zA (S k n (qp C l))=some l.length:=by
 have e0:(if n=1 then(qp C l).length else(qp C l).length/n)=l.length:=by
  rw[zC C n hl]
  split
  ·rename_i h;rw[h,Nat.one_mul]
  ·exact Nat.mul_div_cancel_left _ hn
 rcases zi k n (qp C l)with e|e|⟨e,e'⟩
 ·rw[e,<-e0]
  unfold zA
  first|rfl|(split<;>simp_all)
 ·rw[e,<-e0]
  unfold zA
  first|rfl|(split<;>simp_all)
 ·rw[e,XP C n hn hl e'];rfl
theorem QW(k:Nat){l:List α}{i:Nat}{x:α}(hl:∀x∈l,El C n x)(h:l[i]?=some x):jc n (S k n (qp C l)) (.int .i64 (i:Int))=some (C x):=by
 have hi:=(zgq.mp h).1
 have e0:(if n=1 then(qp C l).length else(qp C l).length/n)=l.length:=by
  rw[zC C n hl]
  split
  ·rename_i h;rw[h,Nat.one_mul]
  ·exact Nat.mul_div_cancel_left _ hn
 have key:(idx (if n=1 then(qp C l).length else(qp C l).length/n) (.int .i64 (i:Int))).bind (fun i=>qn (qp C l) (i*n) n)=some (C x):=by
  rw[e0,zd .i64 hi,zgh]
  have hle:i*n+n<=(qp C l).length:=by
   rw[zC C n hl,zhe n]
   have:=zgz n (show i+1<=l.length from hi)
   rw[Nat.succ_mul]at this
   exact this
  unfold qn
  rw[if_pos hle,XQ C n hl h]
 rcases zi k n (qp C l)with e|e|⟨e,e'⟩
 ·rw[e];exact(if_pos rfl).trans key
 ·rw[e];exact(if_pos rfl).trans key
 ·rw[XP C n hn hl e']at h;cases h
omit hn in
theorem qvv(b k:Nat)(hb:0<b)(hk:k=1\/k=2){l:List α}{x:α}(hl:∀x∈l,El C n x)(hx:El C n x)(hf:(l.length+1)*b<=140737488355328):yB b n (S k n (qp C l)) (S 1 n (C x))=some (S k n (qp C (l++[x]))):=by
 rw[ve,XO]
 refine Vd b n k _ _ 1 hk hx.ro (.inr (xw hb ?_))
 rw[zC C n hl,hx.len]
 have e:(n*l.length+n)*b=((l.length+1)*b)*n:=by rw[<-Nat.mul_succ,zhe n,zic,zhe n b,<-Nat.mul_assoc]
 rw[e]
 exact zgz n hf
end
theorem qh0(a b:List Int)(k k':Nat)(hab:a.length=b.length)(hl:a.length<=1000000)(hp:Hp):∀(r s:List Int) (i:Nat),a.drop i=r->b.drop i=s->
 B113_4 (S k 1 (LI .u32 a)) (S k' 1 (LI .u32 b)) (.int .i64 a.length) (.int .i64 i) hp=some (.sc (.bool (decide (r=s))),hp):=by
 intro r
 induction r with
 |nil=>
  intro s i hr hs
  have h1:=qA hr
  have h2:s=[]:=by rw[<-hs];exact zhi qc
  have hlt:¬((i:Int)<(a.length:Int)):=qc
  rw[qbp]
  simp[hlt,h2]
 |cons x r ih=>
  intro s i hr hs
  obtain⟨e1,e2,hi,e3⟩:=qu hr
  rw[qbp]
  have hw:IntKind.i64.wrap ((i:Int)+1)=((i+1:Nat):Int):=qi
  cases s with
  |nil=>have:=qA hs;omega
  |cons y s=>
   obtain⟨f1,f2,hj,f3⟩:=qu hs
   have h:=ih s (i+1) e2 f2
   simp at h hw
   by_cases e:x=y
   ·simp[hi,hj,qj,e3,f3,e,hw,h]
   ·simp[hi,hj,qj,e3,f3,e]
theorem qms(a b:List Int)(k k':Nat)(hp:Hp)(ha:a.length<=1000000):
 run cxX 113 [S k 1 (LI .u32 a),S k' 1 (LI .u32 b)] hp=some (.sc (.bool (decide (a=b))),hp):=by
 rw[E113]
 by_cases h3:a.length=b.length
 ·have h:=qh0 a b k k' h3 ha hp a b 0 rfl rfl
  simp at h
  rw[h3]at h
  simp[h3,h]
 ·have h4:¬(a=b):=fun e=>h3 (by rw[e])
  have h5:¬((a.length:Int)=(b.length:Int)):=qc
  simp[h4,h5]
def Kc:List Int->Int
 |[]=>0
 |[_]=>0
 |x::y::r=>if y<=x then 8 else Kc (y::r)
def qmp(l:List Int):Int:=if 4096<l.length then 7 else Kc l
theorem Ww:∀{l:List Int},jM l->Kc l=0
 |[],_=>rfl
 |[_],_=>rfl
 |x::y::r,h=>by
  have h':=zgr.mp h
  have hxy:=h'.1 y qf
  show(if y<=x then 8 else Kc (y::r))=0
  rw[if_neg qc]
  exact Ww h'.2
theorem Wm:∀{l:List Int},Kc l=0->jM l
 |[],_=>List.Pairwise.nil
 |[_],_=>by simp
 |x::y::r,h=>by
  have h:(if y<=x then 8 else Kc (y::r))=0:=h
  split at h
  ·cases h
  ·rename_i hxy
   have ih:=Wm h
   have ih':=zgr.mp ih
   refine zgr.mpr ⟨fun n hn=>?_,ih⟩
   rcases zgn.mp hn with rfl|hn
   ·omega
   ·have:=ih'.1 n hn;omega
theorem qd0(l:List Int)(k:Nat)(hl:l.length<=4096)(hp:Hp):∀(r:List Int) (x:Int) (j:Nat),l.drop j=x::r->
 B54_4 (S k 1 (LI .u32 l)) (.int .i64 ((j+1:Nat):Int)) hp=some (.sc (.int .i64 (Kc (x::r))),hp):=by
 intro r
 induction r with
 |nil=>
  intro x j hr
  obtain⟨e1,e2,hi,e3⟩:=qu hr
  have:=qA e2
  have hlt:¬((j:Int)+1<(l.length:Int)):=qc
  rw[Vl]
  simp[hlt,Kc]
 |cons y r ih=>
  intro x j hr
  obtain⟨e1,e2,hi,e3⟩:=qu hr
  obtain⟨f1,f2,hj,f3⟩:=qu e2
  have hlt:(j:Int)+1<(l.length:Int):=qc
  have hw:IntKind.i64.wrap ((j:Int)+1-1)=(j:Int):=qi
  have hw2:IntKind.i64.wrap ((j:Int)+1+1)=((j+1+1:Nat):Int):=qi
  have hz:(0:Int)<=(j:Int)+1:=qc
  have hn:((j:Int)+1).toNat=j+1:=qc
  have h:=ih y (j+1) e2
  rw[Vl]
  simp at h hw hw2
  by_cases hxy:y<=x
  ·simp[hlt,hw,hz,hn,hi,hj,qj,e3,f3,hxy,Kc]
  ·simp[hlt,hw,hw2,hz,hn,hi,hj,qj,e3,f3,hxy,Kc,h]
theorem qia(l:List Int)(k:Nat)(hp:Hp):run cxX 54 [S k 1 (LI .u32 l)] hp=some (.sc (.int .i64 (qmp l)),hp):=by
 rw[E54]
 unfold qmp
 by_cases hl:4096<l.length
 ·have:(4096:Int)<(l.length:Int):=qc
  simp[hl,this]
 ·have:¬((4096:Int)<(l.length:Int)):=qc
  cases l with
  |nil=>
   have h0:B54_4 (S k 1 []) (.int .i64 1) hp=some (.sc (.int .i64 0),hp):=by
    rw[Vl]
    simp
   simp[h0,Kc]
  |cons x r=>
   have h:=qd0 (x::r) k qc hp r x 0 rfl
   simp at h hl this
   have h1:¬(4096<r.length+1):=qc
   have h2:¬((4096:Int)<(r.length:Int)+1):=qc
   simp[h,h1,h2]
def MsR(hp:Hp)(x:AV)(l:List Int):Prop:=(l=[]/\x=S 2 1 [])\/(l≠[]/\∃b,x= .ms b 0 0 l.length 1/\hp.rd b 0=some (LI .u32 l))
theorem MsR.len{hp:Hp}{x:AV}{l:List Int}(h:MsR hp x l):zA (ro x)=some l.length:=by
 rcases h with⟨rfl,rfl⟩|⟨_,b,rfl,_⟩
 ·simp
 ·simp
theorem qlg{a b:List Int}{n:Int}(h:jM (a++b))(ha:∀x∈a,x<n)(hb:∀x∈b,n<x):mrg (a++b) [n]=a++n::b:=by
 have h':=zh2.mp h
 refine XT (wC _ _ h qf) ?_ (fun x=>?_)
 ·refine zh2.mpr ⟨h'.1,zgr.mpr ⟨fun x hx=>hb x hx,h'.2.1⟩,fun x hx y hy=>?_⟩
  rcases zgn.mp hy with rfl|hy
  ·exact ha x hx
  ·exact h'.2.2 x hx y hy
 ·rw[vG];simp
  constructor
  ·rintro((h|h)|h)<;>simp[h]
  ·rintro(h|h|h)<;>simp[h]
theorem qts(a b:List Int)(n:Int)(x x8:AV)(v9 v10:Value)(hp:Hp)(hx:MsR hp x (a++b))(hl:(a++b).length<4096):
 ∃x' hp',MsR hp' x' (a++n::b)/\B125_9 x (.int .u32 n) (.int .i64 a.length) x8 v9 v10 hp=B125_14 x' x8 v9 v10 hp':=by
 have hne:¬(((a++b).length:Int)=4096):=qc
 --the append
 obtain⟨c,hp1,hc,ap⟩:∃c hp1,hp1.rd c 0=some (LI .u32 (a++b++[0]))/\zV 4 1 (ro x) (S 1 1 [.sc (.int .u32 0)]) hp=some (.ms c 0 0 ((a++b).length+1) 1,hp1):=by
  rcases hx with⟨e,rfl⟩|⟨e,c,rfl,hc⟩
  ·refine⟨hp.next,hp.new (LI .u32 [0]),?_,?_⟩
   ·rw[e];exact qB _ _
   ·rw[e];exact Zk .u32 0 4 qg hp
  ·exact⟨hp.next,(hp.del c).new (LI .u32 (a++b++[0])),qB (hp.del c) _,Vb .u32 (a++b) 0 4 c qg qc e hp hc⟩
 have e0:(a++b++[0]).length=(a++b).length+1:=qh
 have e1:(a++b).length=a.length+b.length:=qf
 have lx:=hx.len
 --the copy
 have sm:=qkv .u32 (a++b++[0]) hp1 c a.length ((a++b).length+1-a.length) hc qc
 have sm2:((a++b++[0]).drop a.length).take ((a++b).length+1-a.length)=b++[0]:=by
  rw[zgw,zkk]
  exact zg4 qh
 rw[sm2]at sm
 have cp:(Je 1 ((a++b).length+1-(a.length+1)) (LI .u32 (b++[0]))).2=LI .u32 b:=by
  unfold Je
  simp only[qe9,vf,zhu]
  have e:min (b++[0]).length ((a++b).length+1-(a.length+1))=b.length:=qf
  rw[e,qz5,zji]
 have p1:=qxu .u32 (a++b++[0]) b (a.length+1) qc
 have p1':(a++b++[0]).take (a.length+1)++b++(a++b++[0]).drop (a.length+1+b.length)=a++((b++[0]).take 1++b):=by
  have d:(a++b++[0]).drop (a.length+1+b.length)=[]:=zhi qc
  rw[d,zhd,zgw a b,List.take_append]
  have e:a.length+1-a.length=1:=qc
  rw[e,zg4 (by omega:a.length<=a.length+1),zgw]
 rw[p1']at p1
 obtain⟨z,hz⟩:∃z,(b++[0]).take 1=[z]:=by
  cases b with
  |nil=>exact⟨0,rfl⟩
  |cons y b=>exact⟨y,rfl⟩
 rw[hz]at p1
 have hlen2:(a++([z]++b)).length=(a++b).length+1:=qh
 have p2:=QM .u32 (a++([z]++b)) a.length n qf
 have p2':(a++([z]++b)).set a.length n=a++n::b:=qf
 rw[p2']at p2
 have hlen3:(a++n::b).length=(a++b).length+1:=qh
 have w1:IntKind.i64.wrap ((a.length:Int)+((1:Nat):Int))=((a.length+1:Nat):Int):=qi
 have bd1:=yf (hi:=(a++b).length+1) (d:=0) (n:=a.length+1) .i64 qc
 have bd2:=yf (hi:=(a++b).length+1) (d:=0) (n:=a.length) .i64 qc
 have ix:=zd (n:=(a++b).length+1) (i:=a.length) .i64 qc
 refine⟨.ms c 0 0 (a++n::b).length 1,((hp1.put c 0 (LI .u32 (a++([z]++b)))).put c 0 (LI .u32 (a++n::b))),.inr ⟨qf,c,rfl,qr _ _ _⟩,?_⟩
 rw[hlen3,qqs]
 have hz0:(((a++b).length:Nat):Int)=((4096:Nat):Int)↔False:=⟨fun h=>hne qc,False.elim⟩
 have uS:AV.us 1 [ro1 (AV.sc (.int .u32 (0:Int)))]=S 1 1 [.sc (.int .u32 0)]:=rfl
 have ov:kC [AV.sc (Value.int IntKind.u32 (0:Int))]=some ():=by rw[zby];exact if_pos qf
 generalize(a++b).length=m at*
 have z0:((0:Nat):Int)=0:=rfl
 simp only[wV,lx,zgh,zig,KV,hz0,z0,kh,decide_false,jr,cond_false,ov,uS,us_S,ap,jC,w1,Wl,kb,qjz,bd1,bd2,vM,Zh,sm,hc,zjw,zha,Nat.sub_eq,cp,p1,ix,qr,p2]
theorem qyc(n:Int)(x8:AV)(v9 v10:Value):∀(m:Nat) (a b:List Int) (x:AV) (hp:Hp),a.length=m->MsR hp x (a++b)->jM (a++b)->(∀y∈b,n<y)->(a++b).length<4096->
 ∃x' hp',MsR hp' x' (mrg (a++b) [n])/\B125_6 x (.int .u32 n) (.int .i64 a.length) x8 v9 v10 hp=B125_14 x' x8 v9 v10 hp':=by
 intro m
 induction m with
 |zero=>
  intro a b x hp hm hx hr hb hl
  have:a=[]:=zhk.mp hm
  subst this
  obtain⟨x',hp',h1,h2⟩:=qts [] b n x x8 v9 v10 hp hx hl
  refine⟨x',hp',?_,?_⟩
  ·rw[qlg hr qf hb];exact h1
  ·rw[qbi]
   simpa using h2
 |succ m ih=>
  intro a b x hp hm hx hr hb hl
  obtain⟨a',y,rfl⟩:∃a' y,a=a'++[y]:=⟨a.dropLast,a.getLast (by intro e;subst e;simp at hm),(List.dropLast_concat_getLast _).symm⟩
  have hm':a'.length=m:=by simpa using hm
  have hne:a'++[y]++b≠[]:=qf
  obtain⟨c,rfl,hc⟩:∃c,x= .ms c 0 0 (a'++[y]++b).length 1/\hp.rd c 0=some (LI .u32 (a'++[y]++b)):=by
   rcases hx with⟨e,_⟩|⟨_,c,h1,h2⟩
   ·exact absurd e hne
   ·exact⟨c,h1,h2⟩
  have hpos:(0:Int)<((a'++[y]).length:Int):=qc
  have hm4:m<4096:=by simp at hl;omega
  have w1:IntKind.i64.wrap (((a'++[y]).length:Int)-1)=(a'.length:Int):=by rw[hm,qk]<;>omega
  have ix:=zd (n:=(a'++[y]++b).length) (i:=a'.length) .i64 qf
  have gs:(a'++[y]++b)[a'.length]?=some y:=qf
  have hr':=zh2.mp hr
  have hra:=zh2.mp hr'.1
  rw[qbi]
  have hpos':(((a'++[y]).length:Nat):Int)>((0:Nat):Int)↔True:=⟨fun _=>trivial,fun _=>hpos⟩
  have w1':IntKind.i64.wrap ((((a'++[y]).length:Nat):Int)-((1:Nat):Int))=(a'.length:Int):=w1
  by_cases hy:n<=y
  ·have hge:(y>=n)↔True:=⟨fun _=>trivial,fun _=>hy⟩
   by_cases he:y=n
   ·--it is there
    subst he
    refine⟨.ms c 0 0 (a'++[y]++b).length 1,hp,?_,?_⟩
    ·rw[qyn hr qf qf]
     exact .inr ⟨hne,c,rfl,hc⟩
    ·generalize hN:(a'++[y]++b).length=N at*
     simp only[wV,zig,wW,hpos',decide_true,jr,zgh,cond_true,ko,w1',Wl,kb,ix,vM,Zh,kh,hc,zjw,zha,qj,qjk?,gs,zij,xy,wX,hge]
     rw[qbh]
     simp only[wV,zig,wW,hpos',decide_true,jr,zgh,cond_true,ko,w1',Wl,kb,ix,vM,Zh,kh,hc,zjw,zha,qj,qjk?,gs,zij,xy,KV]
   ·have e2:a'++[y]++b=a'++(y::b):=qf
    obtain⟨x',hp',h1,h2⟩:=ih a' (y::b) (.ms c 0 0 (a'++[y]++b).length 1) hp hm' (by rw[<-e2];exact .inr ⟨hne,c,rfl,hc⟩) (by rw[<-e2];exact hr) (fun z hz=>by
     rcases zgn.mp hz with rfl|hz
     ·omega
     ·exact hb z hz) (by rw[<-e2];exact hl)
    refine⟨x',hp',by rw[e2];exact h1,?_⟩
    have hne2:(y=n)↔False:=⟨fun h=>he h,False.elim⟩
    generalize hN:(a'++[y]++b).length=N at*
    simp only[wV,zig,wW,hpos',decide_true,jr,zgh,cond_true,ko,w1',Wl,kb,ix,vM,Zh,kh,hc,zjw,zha,qj,qjk?,gs,zij,xy,wX,hge]
    rw[qbh]
    simp only[wV,zig,wW,hpos',decide_true,jr,zgh,cond_true,cond_false,decide_false,ko,w1',Wl,kb,ix,vM,Zh,kh,hc,zjw,zha,qj,qjk?,gs,zij,xy,KV,hne2]
    exact h2
  ·have hge:(y>=n)↔False:=⟨fun h=>hy h,False.elim⟩
   obtain⟨x',hp',h1,h2⟩:=qts (a'++[y]) b n (.ms c 0 0 (a'++[y]++b).length 1) x8 v9 v10 hp (.inr ⟨hne,c,rfl,hc⟩) hl
   refine⟨x',hp',?_,?_⟩
   ·rw[qlg hr (fun z hz=>?_) hb]
    ·exact h1
    ·rcases zg1.mp hz with hz|hz
     ·have:=hra.2.2 z hz y qf;omega
     ·simp at hz;omega
   ·generalize hN:(a'++[y]++b).length=N at*
    simp only[wV,zig,wW,hpos',decide_true,decide_false,jr,zgh,cond_true,cond_false,ko,w1',Wl,kb,ix,vM,Zh,kh,hc,zjw,zha,qj,qjk?,gs,zij,xy,wX,hge]
    exact h2
theorem qyd(l:List Int)(k:Nat)(hl:l.length<=4096):∀(r:List Int) (i:Nat) (s:List Int) (x:AV) (hp:Hp),l.drop i=r->jM s->s.length<=i->i<=l.length->MsR hp x s->
 ∃t hp',B125_3 x (S k 1 (LI .u32 l)) (.int .i64 l.length) (.int .i64 i) hp=some (.tup [S t 1 (LI .u32 (Jx s r)),.sc (.int .i64 0)],hp'):=by
 intro r
 induction r with
 |nil=>
  intro i s x hp hr hs hsl hil hx
  have:=qA hr
  have hlt:¬((i:Int)<(l.length:Int)):=qc
  rcases hx with⟨rfl,rfl⟩|⟨_,b,rfl,hb⟩
  ·refine⟨2,hp,?_⟩
   rw[Yk]
   simp[hlt,Jx]
  ·have f:=Kz .u32 s hp b hb
   refine⟨0,hp.del b,?_⟩
   rw[Yk]
   simp[hlt,Jx,f]
 |cons y r ih=>
  intro i s x hp hr hs hsl hil hx
  obtain⟨e1,e2,hi,e3⟩:=qu hr
  have hw:IntKind.i64.wrap ((i:Int)+1)=((i+1:Nat):Int):=qi
  obtain⟨x',hp1,h1,h2⟩:=qyc y (S k 1 (LI .u32 l)) (.int .i64 l.length) (.int .i64 i) s.length s [] x hp rfl (by simpa using hx) (by simpa using hs) qf qh
  rw[zhd]at h1
  have hl1:(mrg s [y]).length<=s.length+1:=by simpa using qll s [y]
  obtain⟨t,hp',h⟩:=ih (i+1) (mrg s [y]) x' hp1 e2 (wC _ _ hs qf) qc qc h1
  refine⟨t,hp',?_⟩
  have lx:=hx.len
  rw[Yk]
  have h14:B125_14 x' (S k 1 (LI .u32 l)) (.int .i64 l.length) (.int .i64 i) hp1=B125_3 x' (S k 1 (LI .u32 l)) (.int .i64 l.length) (.int .i64 ((i+1:Nat):Int)) hp1:=by
   rw[qkn]
   simp at hw
   simp[hw]
  rw[h14]at h2
  simp at h2 h
  simp[hi,e3,qj,lx,h2,h,Jx]
theorem qid(l:List Int)(k:Nat)(hl:l.length<=4096)(hp:Hp):∃t hp',run cxX 125 [S k 1 (LI .u32 l)] hp=some (.tup [S t 1 (LI .u32 (Jx [] l)),.sc (.int .i64 0)],hp'):=by
 obtain⟨t,hp',h⟩:=qyd l (rk k) hl l 0 [] (S 2 1 []) hp rfl List.Pairwise.nil qf qf (.inl ⟨rfl,rfl⟩)
 refine⟨t,hp',?_⟩
 rw[E125]
 simpa using h
theorem qjd(l:List Int)(k:Nat)(hl:l.length<=4096)(hp:Hp):∀(r:List Int) (i:Nat) (a:List Int),l.drop i=r->a.length<=i->i<=l.length->
 ∃t,B60_3 (.bool false) (S 2 1 (LI .u32 a)) (S k 1 (LI .u32 l)) (.int .i64 l.length) (.int .i64 i) hp=some (.tup [S t 1 (LI .u32 (Jx [] (a++r))),.sc (.int .i64 0)],hp):=by
 intro r
 induction r with
 |nil=>
  intro i a hr ha hil
  have:=qA hr
  have hlt:¬((i:Int)<(l.length:Int)):=qc
  obtain⟨t,hp',h⟩:=qid a 3 qc hp0
  refine⟨t,?_⟩
  rw[qhd]
  simp[hlt,h]
 |cons y r ih=>
  intro i a hr ha hil
  obtain⟨e1,e2,hi,e3⟩:=qu hr
  have hw:IntKind.i64.wrap ((i:Int)+1)=((i+1:Nat):Int):=qi
  have ap:=qdf .u32 a 2 (.inr rfl) 4 qg y qc
  obtain⟨t,h⟩:=ih (i+1) (a++[y]) e2 qh qc
  refine⟨t,?_⟩
  rw[qhd]
  simp at h hw ap
  simp[hi,e3,qj,qv9,ap,hw,h]
theorem qr3(l:List Int)(k:Nat)(hl:l.length<=4096)(hp:Hp):∃t,run cxX 60 [S k 1 (LI .u32 l),.sc (.bool false)] hp=some (.tup [S t 1 (LI .u32 (Jx [] l)),.sc (.int .i64 0)],hp):=by
 obtain⟨t,h⟩:=qjd l (rk k) hl hp l 0 [] rfl qf qf
 refine⟨t,?_⟩
 rw[E60]
 simp at h
 simp[h]
abbrev Kv(K:Int)(x:AV):AV:=.agg [.sc (.int .i64 K),x]
theorem qfi(K:Int)(q0 q1 p1:AV)(hp:Hp):∀(n:Nat) (a b acc:List Int) (k k':Nat),a.length+b.length=n->acc.length+n<=1000000->
 B194_3 (S k 1 (LI .u64 a)) (S k' 1 (LI .u64 b)) [.sc (.int .i64 K),p1] [q0,q1] [.sc (.int .i64 K),S 2 1 (LI .u64 acc)] hp=some (Kv K (S 2 1 (LI .u64 (acc++(mrg a b).take (K.toNat-acc.length)))),hp):=by
 intro n
 induction n using Nat.strongRecOn with
 |_ n ih=>
 intro a b acc k k' hn hlen
 have ap:∀x:Int,yB 8 1 (S 2 1 (LI .u64 acc)) (S 1 1 [.sc (.int .u64 x)])=some (S 2 1 (LI .u64 (acc++[x]))):=fun x=>qdf .u64 acc 2 (.inr rfl) 8 qg x qc
 have fin:B194_9 [q0,q1] [.sc (.int .i64 K),S 2 1 (LI .u64 acc)] hp=some (Kv K (S 2 1 (LI .u64 acc)),hp):=by
  rw[qp3]
  simp[qn,qm]
 rw[qp7]
 by_cases hK:(acc.length:Int)<K
 ·have hs:K.toNat-acc.length=(K.toNat-(acc.length+1))+1:=qc
  have goA:∀(x:Int) (r:List Int),r.length+1+b.length<=n->B194_6 (S k 1 (LI .u64 (x::r))) (S k' 1 (LI .u64 b)) [.sc (.int .i64 K),p1] [q0,q1] [.sc (.int .i64 K),S 2 1 (LI .u64 acc)] hp=some (Kv K (S 2 1 (LI .u64 (acc++(x::mrg r b).take (K.toNat-acc.length)))),hp):=by
   intro x r hle
   rw[qp5]
   have e:=xM (rk k) (LI .u64 (x::r)) .i64 1 qc (by simp only[vf,zgk];omega)
   have i:=fun k=>ih (r.length+b.length) qc r b (acc++[x]) k k' rfl (by simp only[zgi,zgk,zhh];omega)
   simp at i
   rw[hs,zgs]
   simp[qo,qj,ap,e,qm,i]
  have goB:∀(y:Int) (r:List Int),a.length+(r.length+1)<=n->B194_8 (S k 1 (LI .u64 a)) (S k' 1 (LI .u64 (y::r))) [.sc (.int .i64 K),p1] [q0,q1] [.sc (.int .i64 K),S 2 1 (LI .u64 acc)] hp=some (Kv K (S 2 1 (LI .u64 (acc++(y::mrg a r).take (K.toNat-acc.length)))),hp):=by
   intro x r hle
   rw[qp4]
   have e:=xM (rk k') (LI .u64 (x::r)) .i64 1 qc (by simp only[vf,zgk];omega)
   have i:=fun k'=>ih (a.length+r.length) qc a r (acc++[x]) k k' rfl (by simp only[zgi,zgk,zhh];omega)
   simp at i
   rw[hs,zgs]
   simp[qo,qj,ap,e,qm,i]
  have vJ:∀(x y:Int) (r s:List Int),r.length+s.length+2<=n->B194_4 (S k 1 (LI .u64 (x::r))) (S k' 1 (LI .u64 (y::s))) [.sc (.int .i64 K),p1] [q0,q1] [.sc (.int .i64 K),S 2 1 (LI .u64 acc)] hp=some (Kv K (S 2 1 (LI .u64 (acc++(x::mrg r s).take (K.toNat-acc.length)))),hp):=by
   intro x y r s hle
   rw[qp6]
   have e:=xM (rk k) (LI .u64 (x::r)) .i64 1 qc (by simp only[vf,zgk];omega)
   have e':=xM (rk k') (LI .u64 (y::s)) .i64 1 qc (by simp only[vf,zgk];omega)
   have i:=fun k k'=>ih (r.length+s.length) qc r s (acc++[x]) k k' rfl (by simp only[zgi,zgk,zhh];omega)
   simp at i
   rw[hs,zgs]
   simp[qo,qj,ap,e,e',qm,i]
  match a,b with
  |[],[]=>simp[qo,qj,hK,fin]
  |[],y::s=>
   have h:=goB y s (by simp at hn⊢;omega)
   simp at h
   have hw':IntKind.i64.wrap ((s.length:Int)+1)=(s.length:Int)+1:=qk qc (by simp at hn;omega)
   have p:(0:Int)<(s.length:Int)+1:=qc
   have z:¬((s.length:Int)+1=0):=qc
   simp[qo,qj,hK,hw',p,z,vn,Yg,h]
  |x::r,[]=>
   have h:=goA x r (by simp at hn⊢;omega)
   simp at h
   have hw':IntKind.i64.wrap ((r.length:Int)+1)=(r.length:Int)+1:=qk qc (by simp at hn;omega)
   have p:(0:Int)<(r.length:Int)+1:=qc
   simp[qo,qj,hK,hw',p,vn,h]
  |x::r,y::s=>
   have h1:=goA x r (by simp at hn⊢;omega)
   have h2:=goB y s (by simp at hn⊢;omega)
   have h3:=vJ x y r s (by simp at hn⊢;omega)
   have hw':IntKind.i64.wrap ((r.length:Int)+1+((s.length:Int)+1))=(r.length:Int)+1+((s.length:Int)+1):=qk qc (by simp at hn;omega)
   have p:(0:Int)<(r.length:Int)+1+((s.length:Int)+1):=qc
   have p':(0:Int)<(r.length:Int)+1:=qc
   have z:¬((s.length:Int)+1=0):=qc
   have z':¬((r.length:Int)+1=0):=qc
   rw[zt]
   by_cases hxy:x<y
   ·simp[qo,qj,hK,hw',p,p',z,z',hxy,h1,vn]
   ·by_cases hyx:y<x
    ·simp[qo,qj,hK,hw',p,p',z,z',hxy,hyx,h2,vn,Yg]
    ·simp[qo,qj,hK,hw',p,p',z,z',hxy,hyx,h3,vn,Yg]
 ·have hs:K.toNat-acc.length=0:=qc
  simp[qo,qj,hK,fin,hs]
theorem qig(K:Int)(B':AV)(a b:List Int)(k k':Nat)(hp:Hp)(hlen:a.length+b.length<=1000000):
 run cxX 194 [Kv K (S k 1 (LI .u64 a)),.agg [B',S k' 1 (LI .u64 b)]] hp=some (Kv K (S 2 1 (LI .u64 ((mrg a b).take K.toNat))),hp):=by
 rw[E194]
 have:=qfi K (.sc (.int .i64 0)) (S 2 1 []) (S (rk k) 1 (LI .u64 a)) hp (a.length+b.length) a b [] (rk k) (rk k') rfl (by simpa using hlen)
 simp at this
 simp[qj,qo]
 exact this
theorem qr6(K:Int)(a:List Int)(n:Int)(k:Nat)(hp:Hp)(hlen:a.length+1<=1000000):
 run cxX 126 [Kv K (S k 1 (LI .u64 a)),.sc (.int .u64 n)] hp=some (Kv K (S 2 1 (LI .u64 ((mrg a [n]).take K.toNat))),hp):=by
 rw[E126]
 have m:=fun k k' hp=>qig K (.sc (.int .i64 K)) a [n] k k' hp (by simpa using hlen)
 simp[LI]at m
 simp[qj,qn,qm,LI,m]
theorem qje(B B':AV)(a b:List Int)(k k':Nat)(hab:a.length=b.length)(hl:a.length<=1000000)(hp:Hp):∀(r s:List Int) (i:Nat),a.drop i=r->b.drop i=s->
 B114_4 (.int .i64 a.length) (.int .i64 i) [B,S k 1 (LI .u64 a)] [B',S k' 1 (LI .u64 b)] hp=some (.sc (.bool (decide (r=s))),hp):=by
 intro r
 induction r with
 |nil=>
  intro s i hr hs
  have h1:=qA hr
  have h2:s=[]:=by rw[<-hs];exact zhi qc
  have hlt:¬((i:Int)<(a.length:Int)):=qc
  rw[qbn]
  simp[hlt,h2]
 |cons x r ih=>
  intro s i hr hs
  obtain⟨e1,e2,hi,e3⟩:=qu hr
  rw[qbn]
  have hw:IntKind.i64.wrap ((i:Int)+1)=((i+1:Nat):Int):=qi
  cases s with
  |nil=>have:=qA hs;omega
  |cons y s=>
   obtain⟨f1,f2,hj,f3⟩:=qu hs
   have h:=ih s (i+1) e2 f2
   simp at h hw
   by_cases e:x=y
   ·simp[hi,hj,qo,qj,e3,f3,e,hw,h]
   ·simp[hi,hj,qo,qj,e3,f3,e]
theorem qm3(B B':Int)(a b:List Int)(k k':Nat)(hp:Hp)(ha:a.length<=1000000)(hb:b.length<=1000000):
 run cxX 114 [Kv B (S k 1 (LI .u64 a)),Kv B' (S k' 1 (LI .u64 b))] hp=some (.sc (.bool (decide (B=B'/\a=b))),hp):=by
 rw[E114]
 by_cases h1:B=B'
 ·by_cases h3:a.length=b.length
  ·have h:=qje (.sc (.int .i64 B)) (.sc (.int .i64 B')) a b (rk k) (rk k') h3 ha hp a b 0 rfl rfl
   simp at h
   subst h1
   rw[h3]at h
   simp[qj,qo,h3,qqx,h]
  ·have h4:¬(a=b):=fun e=>h3 (by rw[e])
   have h5:¬((a.length:Int)=(b.length:Int)):=qc
   simp[qj,qo,h1,h4,h5,qbo]
 ·simp[qj,qo,h1,qbo]
def cut(few:Bool)(n:Int):Int:=if few then n%30 else n
theorem qt9(K:Int)(few:Bool)(q0 q1:AV)(k:Nat)(l:List Int)(hK:K<=1000)(hl:l.length<=1000)(hpos:∀n∈l,0<=n)(hp:Hp):∀(r:List Int) (i:Nat) (acc:List Int) (k':Nat),l.drop i=r->acc.length<=1000->
 B61_3 (.bool few) (S k 1 (LI .u64 l)) (.int .i64 l.length) (.int .i64 i) [q0,q1] [.sc (.int .i64 K),S 2 1 (LI .u64 acc)] hp=some (Kv K (S 2 1 (LI .u64 (wL K.toNat acc (r.map (cut few))))),hp):=by
 intro r
 induction r with
 |nil=>
  intro i acc k' hr ha
  have:=qA hr
  have hlt:¬((i:Int)<(l.length:Int)):=qc
  rw[qhc]
  simp[hlt,qn,qm,wL]
 |cons x r ih=>
  intro i acc k' hr ha
  obtain⟨e1,e2,hi,e3⟩:=qu hr
  have hx:=hpos x (zgo e1)
  have hw:IntKind.i64.wrap ((i:Int)+1)=((i+1:Nat):Int):=qi
  have h:=ih (i+1) ((mrg acc [cut few x]).take K.toNat) k' e2 (by rw[zhj];omega)
  have d:=fun hp=>qr6 K acc (cut few x) 3 hp qc
  have e7:B61_7 (.bool few) (.int .u64 (cut few x)) (S k 1 (LI .u64 l)) (.int .i64 l.length) (.int .i64 i) [q0,q1] [.sc (.int .i64 K),S 2 1 (LI .u64 acc)] hp=some (Kv K (S 2 1 (LI .u64 (wL K.toNat acc ((x::r).map (cut few))))),hp):=by
   rw[qv8]
   simp at h hw
   simp[qn,qm,d,hw,h,wL]
  rw[qhc]
  have hm:∀a b,qt Tryz.prog .rem 125 a b (.int .u64 x) (.int .u64 30)=some (.int .u64 (x%30)):=by
   intro a b;rw[qS _ _ _ _ _ _ _ qc,qQ hx]
  cases few with
  |true=>
   simp[cut]at e7
   simp[hi,e3,qj,hm,e7,cut]
  |false=>
   simp[cut]at e7
   simp[hi,e3,qj,e7,cut]
theorem qxa(c:Int)(few:Bool)(l:List Int)(k:Nat)(hc:0<=c/\c<256)(hl:l.length<=1000)(hpos:∀n∈l,0<=n)(hp:Hp):
 run cxX 61 [.sc (.int .u8 c),S k 1 (LI .u64 l),.sc (.bool few)] hp=some (Kv (1+c%20) (S 2 1 (LI .u64 (wL (1+c%20).toNat [] (l.map (cut few))))),hp):=by
 rw[E61]
 have h1:∀x y,qt Tryz.prog .rem 5 x y (.int .u8 c) (.int .u8 20)=some (.int .u8 (c%20)):=by
  intro x y;rw[qS _ _ _ _ _ _ _ qc,qQ hc.1]
 have w1:IntKind.i64.wrap (c%20)=c%20:=qk qc qc
 have w2:IntKind.i64.wrap (1+c%20)=1+c%20:=qk qc qc
 have hq:=qt9 (1+c%20) few (.sc (.int .i64 0)) (S 2 1 []) (rk k) l qc hl hpos hp l 0 [] 2 rfl qf
 simp at hq
 simp[h1,KE,w1,w2,hq]
@[simp] theorem ro_fn(f:FuncId)(c:List AV):ro (.fn f c)= .fn f c:=rfl
def QP:List Int->Int
 |[]=>0
 |[_]=>0
 |x::y::r=>if y<=x then 8 else QP (y::r)
def qoe(K:Int)(l:List Int):Int:=if K<1\/1024<K then 2 else if K<(l.length:Int)then 7 else QP l
theorem qnj(l:List Int)(k:Nat)(hl:l.length<=4096)(hp:Hp):∀(r:List Int) (x:Int) (j:Nat),l.drop j=x::r->
 B122_4 (S k 1 (LI .u64 l)) (.int .i64 ((j+1:Nat):Int)) hp=some (.sc (.int .i64 (QP (x::r))),hp):=by
 intro r
 induction r with
 |nil=>
  intro x j hr
  obtain⟨e1,e2,hi,e3⟩:=qu hr
  have:=qA e2
  have hlt:¬((j:Int)+1<(l.length:Int)):=qc
  rw[Yl]
  simp[hlt,QP]
 |cons y r ih=>
  intro x j hr
  obtain⟨e1,e2,hi,e3⟩:=qu hr
  obtain⟨f1,f2,hj,f3⟩:=qu e2
  have hlt:(j:Int)+1<(l.length:Int):=qc
  have hw:IntKind.i64.wrap ((j:Int)+1+1)=(j:Int)+1+1:=qk qc qc
  have hw2:IntKind.i64.wrap ((j:Int)+1-1)=(j:Int):=qi
  have hge:(0:Int)<=(j:Int)+1:=qc
  have htn:((j:Int)+1).toNat=j+1:=qc
  have g:=ih y (j+1) e2
  rw[Yl]
  simp at g hw2
  by_cases hq:y<=x
  ·simp[hlt,hge,htn,qj,f1,e1,hw2,hq,QP]
  ·simp[hlt,hge,htn,qj,f1,e1,hw2,hq,QP,hw,g]
theorem qd5(l:List Int)(k:Nat)(hl:l.length<=4096)(hp:Hp):run cxX 122 [S k 1 (LI .u64 l)] hp=some (.sc (.int .i64 (QP l)),hp):=by
 rw[E122]
 have h1:¬((4096:Int)<(l.length:Int)):=qc
 cases l with
 |nil=>
  rw[Yl]
  simp[QP]
 |cons x r=>
  have g:=qnj (x::r) k hl hp r x 0 rfl
  have h1:¬((4096:Int)<(r.length:Int)+1):=by simp at hl;omega
  simp at g
  simp[h1,g]
theorem qih(K:Int)(l:List Int)(k:Nat)(hl:l.length<=1000000)(hp:Hp):run cxX 55 [Kv K (S k 1 (LI .u64 l))] hp=some (.sc (.int .i64 (qoe K l)),hp):=by
 rw[E55]
 unfold qoe
 by_cases h1:K<1
 ·simp[qj,h1,qhm]
 ·by_cases h2:1024<K
  ·simp[qj,h1,h2,qhm]
  ·by_cases h3:K<(l.length:Int)
   ·simp[qj,qo,h1,h2,h3,qhl]
   ·simp[qj,qo,h1,h2,h3,qhl,qd5 l _ (show l.length<=4096 by omega)]
def qgi(x:Nat):Nat:=if x=0 then 0 else Nat.log2 x+1
theorem qzs{x n:Nat}(h:Bl x n):n=qgi x:=by
 unfold qgi
 by_cases hx:x=0
 ·rw[if_pos hx]
  subst hx
  rcases h.2 with h2|h2
  ·exact h2
  ·have:=zjb (n-1);omega
 ·rw[if_neg hx]
  have hn:n≠0:=by
   intro e;subst e
   have:=h.1
   simp at this
   exact hx this
  have h2:=h.2.resolve_left hn
  have a1:=Nat.log2_self_le hx
  have a2:x<2^(Nat.log2 x+1):=Nat.lt_log2_self
  have b1:n-1<Nat.log2 x+1:=(Nat.pow_lt_pow_iff_right (by decide:1<2)).mp (zjc h2 a2)
  have b2:Nat.log2 x<n:=(Nat.pow_lt_pow_iff_right (by decide:1<2)).mp (zjc a1 h.1)
  omega
theorem qw9(x:Nat)(h:x<18446744073709551616)(hp:Hp):run cxX 244 [.sc (.int .u64 (x:Int))] hp=some (.sc (.int .i64 ((64-qgi x:Nat):Int)),hp):=by
 obtain⟨n,h1,h2,h3⟩:=qm2 x h
 rw[qzs h2]at h1 h3
 have w:IntKind.i64.wrap (64-(qgi x:Int))=((64-qgi x:Nat):Int):=qi
 rw[E244]
 simp[h3,w]
abbrev Hv(P:Int)(x:AV):AV:=.agg [.sc (.int .i64 P),x]
def jO(P:Int):Nat:=2^P.toNat
def jV(P h:Int):Nat:=(h/2^(64-P).toNat).toNat
def Qv(P h:Int):Int:=min ((64-qgi ((h*2^P.toNat)%18446744073709551616).toNat:Nat):Int) (64-P)+1
theorem qcz{P h:Int}(hP:4<=P/\P<=8):1<=Qv P h/\Qv P h<=65-P:=by
 unfold Qv;omega
theorem qyy{P h:Int}(hP:4<=P/\P<=8)(hh:0<=h/\h<18446744073709551616):jV P h<jO P:=by
 unfold jV jO
 obtain⟨p,rfl⟩:∃p:Nat,P=p:=⟨P.toNat,qc⟩
 obtain⟨x,rfl⟩:∃x:Nat,h=x:=⟨h.toNat,qc⟩
 have e:(64-(p:Int)).toNat=64-p:=qc
 rw[e,zgu]
 have e2:((x:Int)/2^(64-p))=((x/2^(64-p):Nat):Int):=qf
 rw[e2,zgu]
 apply Nat.div_lt_of_lt_mul
 rw[<-Nat.pow_add]
 have e3:64-p+p=64:=qc
 rw[e3]
 omega
theorem qii(P h:Int)(x:AV)(hP:4<=P/\P<=8)(hh:0<=h/\h<18446744073709551616)(hp:Hp):
 run cxX 195 [Hv P x,.sc (.int .u64 h)] hp=some (.tup [.sc (.int .i64 (jV P h:Int)),.sc (.int .u8 (Qv P h))],hp):=by
 rw[E195]
 have m1:max P 4=P:=qc
 have m2:min P 8=P:=qc
 have w1:IntKind.i64.wrap (64-P)=64-P:=qk qc qc
 have s1:∀t x y,qt Tryz.prog .shr t x y (.int .u64 h) (.int .i64 (64-P))=some (.int .u64 (jV P h:Int)):=by
  intro t x y
  rw[zZ _ _ _ _ _ _ _ _ qc]
  have e:min (64-P).toNat IntKind.u64.bits=(64-P).toNat:=by
   have:IntKind.u64.bits=64:=rfl
   omega
  rw[e,zhr _ (by exact_mod_cast zhf _)]
  unfold jV
  have:0<=h/2^(64-P).toNat:=Int.ediv_nonneg hh.1 (by exact_mod_cast zhf _)
  rw[zh6 this]
 have hlt:=qyy hP hh
 have h256:jO P<=256:=by
  unfold jO
  have:P.toNat<=8:=qc
  calc 2^P.toNat<=2^8:=zie qg this
   _=256:=rfl
 have w2:IntKind.i64.wrap (jV P h:Int)=(jV P h:Int):=qk qc qc
 obtain⟨y,hy⟩:∃y:Nat,y=((h*2^P.toNat)%18446744073709551616).toNat:=⟨_,rfl⟩
 have hy64:y<18446744073709551616:=qc
 have s2:∀t a b,qt Tryz.prog .shl t a b (.int .u64 h) (.int .i64 P)=some (.int .u64 (y:Int)):=by
  intro t a b
  rw[jq _ _ _ _ _ _ _ _ qc]
  have e:min P.toNat IntKind.u64.bits=P.toNat:=by
   have:IntKind.u64.bits=64:=rfl
   omega
  rw[e,IntKind.wrap_u64,hy]
  congr 2
  omega
 have lz:=fun hp=>qw9 y hy64 hp
 have hr:=qcz (h:=h) hP
 have hre:Qv P h=min ((64-qgi y:Nat):Int) (64-P)+1:=by unfold Qv;rw[hy]
 have w3:IntKind.i64.wrap (min ((64-qgi y:Nat):Int) (64-P)+1)=Qv P h:=by rw[<-hre];exact qk qc qc
 have w4:IntKind.u8.wrap (Qv P h)=Qv P h:=zJ qc qc
 simp[qj,m1,m2,w1,s1,s2,w2,lz,w3,w4]
theorem qky(P:Int)(hP:0<=P/\P<=8)(t:TypeId)(x y:Operand):qt Tryz.prog .shl t x y (.int .i64 1) (.int .i64 P)=some (.int .i64 (jO P:Int)):=by
 rw[jq _ _ _ _ _ _ _ _ qc]
 have e:min P.toNat IntKind.i64.bits=P.toNat:=by
  have:IntKind.i64.bits=64:=rfl
  omega
 have h256:jO P<=256:=by
  unfold jO
  have:P.toNat<=8:=qc
  calc 2^P.toNat<=2^8:=zie qg this
   _=256:=rfl
 rw[e]
 have e2:(1*2^P.toNat:Int)=(jO P:Int):=by unfold jO;simp
 rw[e2,qk qc qc]
theorem Xg{P:Int}(hP:P<=8):jO P<=256:=by
 unfold jO
 have:P.toNat<=8:=qc
 calc 2^P.toNat<=2^8:=zie qg this
  _=256:=rfl
theorem qr8(P:Int)(x:AV)(hP:0<=P/\P<=64)(hp:Hp):run cxX 123 [Hv P x] hp=some (.sc (.int .i64 (65-P)),hp):=by
 rw[E123]
 have w:IntKind.i64.wrap (65-P)=65-P:=qk qc qc
 simp[qj,w]
def Yy(P:Int)(l:List Int):Int:=if(∃n∈l,65-P<n)then 2 else 0
def qoi(P:Int)(l:List Int):Int:=if P<4\/8<P then 2 else if l.length≠jO P then 6 else Yy P l
theorem qfq(P:Int)(l:List Int)(k:Nat)(hP:4<=P/\P<=8)(hl:l.length<=1000)(h8:∀n∈l,0<=n/\n<256)(hp:Hp):∀(r:List Int) (i:Nat),l.drop i=r->
 B56_6 (S k 1 (LI .u8 l)) (.int .i64 l.length) (.int .i64 i) [.sc (.int .i64 P),S k 1 (LI .u8 l)] hp=some (.sc (.int .i64 (Yy P r)),hp):=by
 intro r
 induction r with
 |nil=>
  intro i hr
  have:=qA hr
  have hlt:¬((i:Int)<(l.length:Int)):=qc
  rw[qhi]
  simp[hlt,Yy]
 |cons x r ih=>
  intro i hr
  obtain⟨e1,e2,hi,e3⟩:=qu hr
  have hx:=h8 x (zgo e1)
  have hw:IntKind.i64.wrap ((i:Int)+1)=((i+1:Nat):Int):=qi
  have w8:IntKind.i64.wrap x=x:=qk qc qc
  have tp:=fun y hp=>qr8 P y qc hp
  have h:=ih (i+1) e2
  rw[qhi]
  simp at h hw
  by_cases e:65-P<x
  ·simp[hi,e3,qj,qn,w8,tp,e,Yy]
  ·have e':Yy P (x::r)=Yy P r:=by
    unfold Yy
    simp[e]
   simp[hi,e3,qj,qn,w8,tp,e,hw,h,e']
theorem qij(P:Int)(l:List Int)(k:Nat)(hl:l.length<=1000000)(h8:∀n∈l,0<=n/\n<256)(hp:Hp):run cxX 56 [Hv P (S k 1 (LI .u8 l))] hp=some (.sc (.int .i64 (qoi P l)),hp):=by
 rw[E56]
 unfold qoi
 by_cases h1:P<4
 ·simp[qj,h1,qhk]
 ·by_cases h2:8<P
  ·simp[qj,h1,h2,qhk]
  ·have s:=fun t x y=>qky P qc t x y
   have hple:=Xg (P:=P) qc
   by_cases h3:l.length=jO P
   ·have hh:=qfq P l (rk k) qc qc h8 hp l 0 rfl
    simp at hh
    simp[qj,qo,h1,h2,s,h3,qhj]
    rw[<-h3];exact hh
   ·have h4:¬((l.length:Int)=(jO P:Int)):=qc
    simp[qj,qo,h1,h2,s,h3,h4,qhj]
def b8(l:List Int):List UInt8:=l.map fun n=>UInt8.ofNat n.toNat
@[simp] theorem qzq : ∀ l : List Int, zw (LI .u8 l) = some (b8 l)
 |[]=>rfl
 |x::l=>by
  have:=qzq l
  show(zw (LI .u8 l)).map _=_
  rw[this];rfl
theorem qvs:∀{a b:List Int},(∀n∈a,0<=n/\n<256)->(∀n∈b,0<=n/\n<256)->(b8 a=b8 b↔a=b)
 |[],[],_,_=>by simp
 |[],y::b,_,_=>by simp[b8]
 |x::a,[],_,_=>by simp[b8]
 |x::a,y::b,ha,hb=>by
  have ih:=qvs (a:=a) (b:=b) (fun n hn=>ha n (by simp[hn])) (fun n hn=>hb n (by simp[hn]))
  have hx:=ha x qf
  have hy:=hb y qf
  have e:UInt8.ofNat x.toNat=UInt8.ofNat y.toNat↔x=y:=by
   constructor
   ·intro h
    have:=congrArg UInt8.toNat h
    simp at this
    omega
   ·rintro rfl;rfl
  simp only[b8,zhc,List.cons.injEq]at ih⊢
  rw[e,ih]
theorem qm4(P P':Int)(a b:List Int)(k k':Nat)(ha:∀n∈a,0<=n/\n<256)(hb:∀n∈b,0<=n/\n<256)(hp:Hp):
 run cxX 115 [Hv P (S k 1 (LI .u8 a)),Hv P' (S k' 1 (LI .u8 b))] hp=some (.sc (.bool (decide (P=P'/\a=b))),hp):=by
 rw[E115]
 by_cases h:P=P'
 ·have e:decide (b8 a=b8 b)=decide (a=b):=decide_eq_decide.mpr (qvs ha hb)
  simp[qj,qo,h,e]
 ·simp[qj,h]
theorem qr9(P:Int)(hP:4<=P/\P<=8)(hp:Hp):run cxX 127 [.sc (.int .i64 P)] hp=some (.tup [Hv P (S 0 1 (LI .u8 (List.replicate (jO P) 0))),.sc (.bool true)],hp):=by
 rw[E127]
 have h1:¬(P<4):=qc
 have h2:¬(8<P):=qc
 have s:=fun t x y=>qky P qc t x y
 have hple:=Xg (P:=P) qc
 have mk:QQ 1 1 (jO P:Int) (jO P:Int)=some ():=Wz qc qc qg qg
 simp[h1,h2,qqr,s,mk,qko,qn,qm]
def hmax:List Int->List Int->List Int
 |[],_=>[]
 |x::a,[]=>x::a
 |x::a,y::b=>max x y::hmax a b
@[simp] theorem zcg : ∀ a, hmax a [] = a
 |[]=>rfl
 |_::_=>rfl
def vI(P:Int)(l:List Int)(h:Int):List Int:=if jV P h<l.length then l.set (jV P h) (max (l.getD (jV P h) 0) (Qv P h))else l
theorem qsa(P:Int)(l:List Int)(k:Nat)(h:Int)(hP:4<=P/\P<=8)(hh:0<=h/\h<18446744073709551616)(hl:l.length<=1000000)(hp:Hp):
 ∃t hp',run cxX 128 [Hv P (S k 1 (LI .u8 l)),.sc (.int .u64 h)] hp=some (Hv P (S t 1 (LI .u8 (vI P l h))),hp'):=by
 rw[E128]
 have pl:=fun x hp=>qii P h x hP hh hp
 by_cases hne:l=[]
 ·subst hne
  have n1:=fun k hp=>Vc 1 k hp
  have e:¬((jV P h:Int)<0):=qc
  refine⟨0,hp,?_⟩
  simp[qj,qo,n1,qm,qn,pl,vI,e,qbg]
 ·have n1:=fun k hp=>vP .u8 l k 1 qg hl hne hp
  have f5:∀(l:List Int) (b:Nat) (hp:Hp) (q0 q1:AV),hp.rd b 0=some (LI .u8 l)->B128_5 [q0,q1] [.sc (.int .i64 P),.ms b 0 0 l.length 1] hp=some (Hv P (S 0 1 (LI .u8 l)),hp.del b):=by
   intro l b hp q0 q1 hb
   have f:=Kz .u8 l hp b hb
   rw[qbg]
   simp[qn,qm,f]
  by_cases hi:jV P h<l.length
  ·have hi':(jV P h:Int)<(l.length:Int):=qc
   have ix:=zd .i64 hi
   have gs:l[jV P h]?=some (l.getD (jV P h) 0):=by simp[hi]
   have pt:=QM .u8 l (jV P h) (max (l.getD (jV P h) 0) (Qv P h)) hi
   have f:=f5 (l.set (jV P h) (max (l.getD (jV P h) 0) (Qv P h))) hp.next ((hp.new (LI .u8 l)).put hp.next 0 (LI .u8 (l.set (jV P h) (max (l.getD (jV P h) 0) (Qv P h))))) (.sc (.int .i64 0)) (S 2 1 []) (qr _ _ _)
   rw[List.length_set]at f
   have r0:=qB hp (LI .u8 l)
   refine⟨0,((hp.new (LI .u8 l)).put hp.next 0 (LI .u8 (l.set (jV P h) (max (l.getD (jV P h) 0) (Qv P h))))).del hp.next,?_⟩
   simp only[vI,if_pos hi]
   generalize l.getD (jV P h) 0=g at gs pt f⊢
   simp[qj,qo,n1,qm,qn,pl,hi',ix,r0,gs]at pt⊢
   simp[pt]
   exact f
  ·have hi':¬((jV P h:Int)<(l.length:Int)):=qc
   have f:=f5 l hp.next (hp.new (LI .u8 l)) (.sc (.int .i64 0)) (S 2 1 []) (qB _ _)
   refine⟨0,(hp.new (LI .u8 l)).del hp.next,?_⟩
   simp only[vI,if_neg hi]
   simp[qj,qo,n1,qm,qn,pl,hi']
   exact f
theorem Wi(h:Int)(hh:0<=h/\h<18446744073709551616):∃v:Int,(0<=v/\v<18446744073709551616)/\∀hp,run cxX 129 [.sc (.int .u64 h)] hp=some (.sc (.int .u64 v),hp):=by
 have r3:∀t x y,qt Tryz.prog .rem t x y (.int .u64 h) (.int .u64 3)=some (.int .u64 (h%3)):=by
  intro t x y;rw[qS _ _ _ _ _ _ _ qc,qQ hh.1]
 by_cases e:h%3=0
 ·obtain⟨z1,s1⟩:∃z:Int,∀t x y,qt Tryz.prog .shr t x y (.int .u64 h) (.int .u64 56)=some (.int .u64 z):=⟨_,fun t x y=>zZ _ _ _ _ _ _ _ _ qc⟩
  obtain⟨z2,s2⟩:∃z:Int,∀t x y,qt Tryz.prog .shl t x y (.int .u64 z1) (.int .u64 56)=some (.int .u64 z):=⟨_,fun t x y=>jq _ _ _ _ _ _ _ _ qc⟩
  have q4:∀t x y,qt Tryz.prog .quo t x y (.int .u64 h) (.int .u64 4)=some (.int .u64 (h/4)):=by
   intro t x y;rw[Jh _ _ _ _ _ _ _ qc,ziy hh.1,qz qc qc]
  have r56:∀t x y,qt Tryz.prog .rem t x y (.int .u64 (h/4)) (.int .u64 56)=some (.int .u64 (h/4%56)):=by
   intro t x y;rw[qS _ _ _ _ _ _ _ qc,qQ qc]
  obtain⟨z3,s3⟩:∃z:Int,∀t x y,qt Tryz.prog .shl t x y (.int .u64 1) (.int .u64 (h/4%56))=some (.int .u64 z):=⟨_,fun t x y=>jq _ _ _ _ _ _ _ _ qc⟩
  obtain⟨z4,s4⟩:∃z:Int,∀t x y,qt Tryz.prog .sub t x y (.int .u64 z3) (.int .u64 1)=some (.int .u64 z):=⟨_,fun t x y=>ko _ _ _ _ _ _ _⟩
  obtain⟨z5,s5⟩:∃z:Int,∀t x y,qt Tryz.prog .and t x y (.int .u64 h) (.int .u64 z4)=some (.int .u64 z):=⟨_,fun t x y=>qO _ _ _ _ _ _ _⟩
  obtain⟨z6,b6,s6⟩:∃z:Int,(0<=z/\z<18446744073709551616)/\∀t x y,qt Tryz.prog .or t x y (.int .u64 z2) (.int .u64 z5)=some (.int .u64 z):=⟨_,by rw[IntKind.wrap_u64];omega,fun t x y=>jk _ _ _ _ _ _ _⟩
  refine⟨z6,b6,fun hp=>?_⟩
  rw[E129]
  simp[r3,e,s1,s2,q4,r56,s3,s4,s5,s6,-ko,-qO,-jk]
 ·refine⟨h,hh,fun hp=>?_⟩
  rw[E129]
  simp[r3,e]
noncomputable def hsh(h:Int):Int:=if hh:0<=h/\h<18446744073709551616 then(Wi h hh).choose else 0
theorem zcf{h:Int}(hh:0<=h/\h<18446744073709551616):(0<=hsh h/\hsh h<18446744073709551616)/\∀hp,run cxX 129 [.sc (.int .u64 h)] hp=some (.sc (.int .u64 (hsh h)),hp):=by
 unfold hsh
 rw[dif_pos hh]
 exact(Wi h hh).choose_spec
noncomputable def hfold(P:Int)(a l:List Int):List Int:=l.foldl (fun a h=>vI P a (hsh h)) a
theorem qfr(P:Int)(l:List Int)(h:Int):(vI P l h).length=l.length:=by
 unfold vI;split<;>simp
theorem WO(P:Int):∀(l a:List Int),(hfold P a l).length=a.length
 |[],a=>rfl
 |h::l,a=>by
  show(hfold P (vI P a (hsh h)) l).length=_
  rw[WO P l,qfr]
theorem quk(P:Int)(q0 q1:AV)(l:List Int)(k:Nat)(hP:4<=P/\P<=8)(hl:l.length<=1000000)(h64:∀n∈l,0<=n/\n<18446744073709551616)(hp:Hp):∀(r:List Int) (i t:Nat) (a:List Int),l.drop i=r->a.length<=1000000->
 ∃t',B62_3 (S k 1 (LI .u64 l)) (.int .i64 l.length) (.int .i64 i) [q0,q1] [.sc (.int .i64 P),S t 1 (LI .u8 a)] hp=some (Hv P (S t' 1 (LI .u8 (hfold P a r))),hp):=by
 intro r
 induction r with
 |nil=>
  intro i t a hr ha
  have:=qA hr
  have hlt:¬((i:Int)<(l.length:Int)):=qc
  refine⟨t,?_⟩
  rw[qhb]
  simp[hlt,qn,qm,hfold]
 |cons x r ih=>
  intro i t a hr ha
  obtain⟨e1,e2,hi,e3⟩:=qu hr
  have hx:=h64 x (zgo e1)
  obtain⟨hb,hs⟩:=zcf hx
  have hw:IntKind.i64.wrap ((i:Int)+1)=((i+1:Nat):Int):=qi
  obtain⟨t1,hp1,ha1⟩:=qsa P a (rk t) (hsh x) hP hb ha hp0
  obtain⟨t',h⟩:=ih (i+1) t1 (vI P a (hsh x)) e2 (by rw[qfr];exact ha)
  refine⟨t',?_⟩
  rw[qhb]
  simp at h hw
  have ef:hfold P a (x::r)=hfold P (vI P a (hsh x)) r:=rfl
  simp[hi,e3,qj,hs,qn,qm,ha1,hw,h,ef]
theorem qxb(p:Int)(l:List Int)(k:Nat)(hp8:0<=p/\p<256)(hl:l.length<=1000000)(h64:∀n∈l,0<=n/\n<18446744073709551616)(hp:Hp):
 ∃t,run cxX 62 [.sc (.int .u8 p),S k 1 (LI .u64 l)] hp=some (Hv (4+p%5) (S t 1 (LI .u8 (hfold (4+p%5) (List.replicate (jO (4+p%5)) 0) l))),hp):=by
 have h1:∀t x y,qt Tryz.prog .rem t x y (.int .u8 p) (.int .u8 5)=some (.int .u8 (p%5)):=by
  intro t x y;rw[qS _ _ _ _ _ _ _ qc,qQ hp8.1]
 have w1:IntKind.i64.wrap (p%5)=p%5:=qk qc qc
 have w2:IntKind.i64.wrap (4+p%5)=4+p%5:=qk qc qc
 have nw:=fun hp=>qr9 (4+p%5) qc hp
 have hple:=Xg (P:=4+p%5) qc
 obtain⟨t,h⟩:=quk (4+p%5) (.sc (.int .i64 0)) (S 2 1 []) l (rk k) qc hl h64 hp l 0 0 (List.replicate (jO (4+p%5)) 0) rfl qh
 refine⟨t,?_⟩
 rw[E62]
 simp at h
 simp[h1,w1,w2,nw,qm,h]
abbrev Bv(bits hashes:Value)(S:AV):AV:=.agg [.sc bits,.sc hashes,S]
theorem qi5(B H:Value)(q0 q1 q2:AV)(hp:Hp):∀(n:Nat) (a b acc:List Int) (k k':Nat),a.length+b.length=n->acc.length+n<=1000000->
 B197_3 (S k 1 (LI .u32 a)) (S k' 1 (LI .u32 b)) [q0,q1,q2] [.sc B,.sc H,S 2 1 (LI .u32 acc)] hp=some (Bv B H (S 2 1 (LI .u32 (acc++mrg a b))),hp):=by
 intro n
 induction n using Nat.strongRecOn with
 |_ n ih=>
 intro a b acc k k' hn hlen
 have hw:IntKind.i64.wrap ((a.length:Int)+(b.length:Int))=((a.length+b.length:Nat):Int):=by
  rw[qk]<;>omega
 have ap:∀x:Int,yB 4 1 (S 2 1 (LI .u32 acc)) (S 1 1 [.sc (.int .u32 x)])=some (S 2 1 (LI .u32 (acc++[x]))):=fun x=>qdf .u32 acc 2 (.inr rfl) 4 qg x qc
 have goA:∀(x:Int) (r:List Int),r.length+1+b.length<=n->B197_6 (S k 1 (LI .u32 (x::r))) (S k' 1 (LI .u32 b)) [q0,q1,q2] [.sc B,.sc H,S 2 1 (LI .u32 acc)] hp=some (Bv B H (S 2 1 (LI .u32 (acc++x::mrg r b))),hp):=by
  intro x r hle
  rw[qp0]
  have e:=xM (rk k) (LI .u32 (x::r)) .i64 1 qc (by simp only[vf,zgk];omega)
  simp[qo,qj,ap,e,qm,ih (r.length+b.length) qc r b (acc++[x]) _ k' rfl (by simp only[zgi,zgk,zhh];omega)]
 have goB:∀(y:Int) (r:List Int),a.length+(r.length+1)<=n->B197_8 (S k 1 (LI .u32 a)) (S k' 1 (LI .u32 (y::r))) [q0,q1,q2] [.sc B,.sc H,S 2 1 (LI .u32 acc)] hp=some (Bv B H (S 2 1 (LI .u32 (acc++y::mrg a r))),hp):=by
  intro x r hle
  rw[qpz]
  have e:=xM (rk k') (LI .u32 (x::r)) .i64 1 qc (by simp only[vf,zgk];omega)
  simp[qo,qj,ap,e,qm,ih (a.length+r.length) qc a r (acc++[x]) k _ rfl (by simp only[zgi,zgk,zhh];omega)]
 have vJ:∀(x y:Int) (r s:List Int),r.length+s.length+2<=n->B197_4 (S k 1 (LI .u32 (x::r))) (S k' 1 (LI .u32 (y::s))) [q0,q1,q2] [.sc B,.sc H,S 2 1 (LI .u32 acc)] hp=some (Bv B H (S 2 1 (LI .u32 (acc++x::mrg r s))),hp):=by
  intro x y r s hle
  rw[qp1]
  have e:=xM (rk k) (LI .u32 (x::r)) .i64 1 qc (by simp only[vf,zgk];omega)
  have e':=xM (rk k') (LI .u32 (y::s)) .i64 1 qc (by simp only[vf,zgk];omega)
  simp[qo,qj,ap,e,e',qm,ih (r.length+s.length) qc r s (acc++[x]) _ _ rfl (by simp only[zgi,zgk,zhh];omega)]
 rw[qp2]
 match a,b with
 |[],[]=>simp[qn,qm,Bv]
 |[],y::s=>
  have h:=goB y s (by simp at hn⊢;omega)
  simp at h
  have hw':IntKind.i64.wrap ((s.length:Int)+1)=(s.length:Int)+1:=qk qc (by simp at hn;omega)
  have p:(0:Int)<(s.length:Int)+1:=qc
  have z:¬((s.length:Int)+1=0):=qc
  simp[hw',p,z,Yf,h]
 |x::r,[]=>
  have h:=goA x r (by simp at hn⊢;omega)
  simp at h
  have hw':IntKind.i64.wrap ((r.length:Int)+1)=(r.length:Int)+1:=qk qc (by simp at hn;omega)
  have p:(0:Int)<(r.length:Int)+1:=qc
  simp[hw',p,h]
 |x::r,y::s=>
  have h1:=goA x r (by simp at hn⊢;omega)
  have h2:=goB y s (by simp at hn⊢;omega)
  have h3:=vJ x y r s (by simp at hn⊢;omega)
  have hw':IntKind.i64.wrap ((r.length:Int)+1+((s.length:Int)+1))=(r.length:Int)+1+((s.length:Int)+1):=qk qc (by simp at hn;omega)
  have p:(0:Int)<(r.length:Int)+1+((s.length:Int)+1):=qc
  have p':(0:Int)<(r.length:Int)+1:=qc
  have z:¬((s.length:Int)+1=0):=qc
  have z':¬((r.length:Int)+1=0):=qc
  rw[zt]
  by_cases hxy:x<y
  ·simp[hw',p,p',z,z',qj,hxy,h1]
  ·by_cases hyx:y<x
   ·simp[hw',p,p',z,z',qj,hxy,hyx,h2,Yf]
   ·simp[hw',p,p',z,z',qj,hxy,hyx,h3,Yf]
theorem qmz(B H B' H':Value)(a b:List Int)(k k':Nat)(hp:Hp)(hlen:a.length+b.length<=1000000):
 run cxX 197 [Bv B H (S k 1 (LI .u32 a)),Bv B' H' (S k' 1 (LI .u32 b))] hp=some (Bv B H (S 2 1 (LI .u32 (mrg a b))),hp):=by
 rw[E197]
 have:=qi5 B H (.sc (.int .i64 0)) (.sc (.int .i64 0)) (S 2 1 []) hp (a.length+b.length) a b [] (rk k) (rk k') rfl (by simpa using hlen)
 simp at this
 simp[Bv,qj,qo]
 exact this
theorem qmq(B H B' H':AV)(a b:List Int)(k k':Nat)(hab:a.length=b.length)(hl:a.length<=1000000)(hp:Hp):∀(r s:List Int) (i:Nat),a.drop i=r->b.drop i=s->
 B116_4 (.int .i64 a.length) (.int .i64 i) [B,H,S k 1 (LI .u32 a)] [B',H',S k' 1 (LI .u32 b)] hp=some (.sc (.bool (decide (r=s))),hp):=by
 intro r
 induction r with
 |nil=>
  intro s i hr hs
  have h1:=qA hr
  have h2:s=[]:=by rw[<-hs];exact zhi qc
  have hlt:¬((i:Int)<(a.length:Int)):=qc
  rw[qbm]
  simp[hlt,h2]
 |cons x r ih=>
  intro s i hr hs
  obtain⟨e1,e2,hi,e3⟩:=qu hr
  rw[qbm]
  have hw:IntKind.i64.wrap ((i:Int)+1)=((i+1:Nat):Int):=qi
  cases s with
  |nil=>have:=qA hs;omega
  |cons y s=>
   obtain⟨f1,f2,hj,f3⟩:=qu hs
   have h:=ih s (i+1) e2 f2
   simp at h hw
   by_cases e:x=y
   ·simp[hi,hj,qo,qj,e3,f3,e,hw,h]
   ·simp[hi,hj,qo,qj,e3,f3,e]
theorem qry(B H:Int)(B' H':Int)(a b:List Int)(k k':Nat)(hp:Hp)(ha:a.length<=1000000)(hb:b.length<=1000000):
 run cxX 116 [Bv (.int .i64 B) (.int .i64 H) (S k 1 (LI .u32 a)),Bv (.int .i64 B') (.int .i64 H') (S k' 1 (LI .u32 b))] hp=some (.sc (.bool (decide (B=B'/\H=H'/\a=b))),hp):=by
 rw[E116]
 by_cases h1:B=B'
 ·by_cases h2:H=H'
  ·by_cases h3:a.length=b.length
   ·have h:=qmq (.sc (.int .i64 B)) (.sc (.int .i64 H)) (.sc (.int .i64 B')) (.sc (.int .i64 H')) a b (rk k) (rk k') h3 ha hp a b 0 rfl rfl
    simp at h
    subst h1 h2
    rw[h3]at h
    simp[qj,qo,h3,qqw,h]
   ·have h4:¬(a=b):=fun e=>h3 (by rw[e])
    have h5:¬((a.length:Int)=(b.length:Int)):=qc
    simp[qj,qo,h1,h2,h4,h5,Ym]
  ·simp[qj,qo,h1,h2,Ym]
 ·simp[qj,qo,h1,Ym]
def JY(B:Int):Option Int->List Int->Int
 |_,[]=>0
 |p,n::r=>if n>=B then 2 else match p with
  |none=>JY B (some n) r
  |some q=>if n<=q then 8 else JY B (some n) r
def KX(B H:Int)(l:List Int):Int:=if B<1\/B>4096\/H<1\/H>8 then 2 else JY B none l
def qzy(l:List Int):Prop:=∀n∈l,0<=n/\n<4294967296
theorem qjx(B:Int)(H:AV)(l:List Int)(k k':Nat)(hl:l.length<=1000000)(h32:qzy l)(hp:Hp):∀(r:List Int) (i:Nat) (p:Option Int),l.drop i=r->
 (match p with|none=>i=0|some q=>∃j,i=j+1/\l[j]?=some q)->
 B57_4 (S k 1 (LI .u32 l)) (.int .i64 l.length) (.int .i64 i) [.sc (.int .i64 B),H,S k' 1 (LI .u32 l)] hp=some (.sc (.int .i64 (JY B p r)),hp):=by
 intro r
 induction r with
 |nil=>
  intro i p hr hp'
  have:=qA hr
  have hlt:¬((i:Int)<(l.length:Int)):=qc
  rw[qhh]
  simp[hlt,JY]
 |cons n r ih=>
  intro i p hr hp'
  obtain⟨e1,e2,hi,e3⟩:=qu hr
  have h:=ih (i+1) (some n) e2 ⟨i,rfl,e1⟩
  have hw:IntKind.i64.wrap ((i:Int)+1)=((i+1:Nat):Int):=qi
  have hn:=h32 n (zgo e1)
  have hwn:IntKind.i64.wrap n=n:=qk qc qc
  rw[qhh]
  by_cases hB:B<=n
  ·simp[hi,e1,e3,qj,Qn,hwn,hB,JY]
  ·cases p with
   |none=>
    obtain rfl:i=0:=hp'
    simp at h e1 hw
    simp[hi,e1,e3,qj,Qn,hwn,hB,JY,qaq,hw,h]
   |some q=>
    obtain⟨j,rfl,ej⟩:=hp'
    have hw2:IntKind.i64.wrap (((j+1:Nat):Int)-1)=(j:Int):=qi
    have hpos:(0:Int)<(j:Int)+1:=qc
    have hi2:(j:Int)+1<(l.length:Int):=qc
    have hge:(0:Int)<=(j:Int)+1:=qc
    have htn:((j:Int)+1).toNat=j+1:=qc
    simp at h hw hw2
    by_cases hq:n<=q
    ·simp[hi2,hge,htn,e1,e3,ej,qj,qo,Qn,hwn,hB,JY,hpos,hw2,hq,qwd]
    ·simp[hi2,hge,htn,e1,e3,ej,qj,qo,Qn,hwn,hB,JY,hpos,hw2,hq,qaq,hw,h]
theorem Wk(B H:Int)(l:List Int)(k:Nat)(hl:l.length<=1000000)(h32:qzy l)(hp:Hp):
 run cxX 57 [Bv (.int .i64 B) (.int .i64 H) (S k 1 (LI .u32 l))] hp=some (.sc (.int .i64 (KX B H l)),hp):=by
 rw[E57]
 have h:=qjx B (.sc (.int .i64 H)) l (rk k) (rk k) hl h32 hp l 0 none rfl rfl
 simp at h
 unfold KX
 by_cases h1:B<1
 ·simp[qj,h1,Js]
 ·by_cases h2:4096<B
  ·simp[qj,h1,h2,Js]
  ·by_cases h3:H<1
   ·simp[qj,h1,h2,h3,Js]
   ·by_cases h4:8<H
    ·simp[qj,h1,h2,h3,h4,Js]
    ·simp[qj,qo,h1,h2,h3,h4,qwe,h]
def at0(h:Int):Int:=IntKind.u32.wrap h
def stp(h:Int):Int:=IntKind.u32.wrap (BitVec.ofInt 32 (IntKind.u32.wrap (h.fdiv (2^32)))|||BitVec.ofInt 32 1).toNat
def plc(B st:Int):Nat->Int->List Int
 |0,_=>[]
 |n+1,a=>a%B::plc B st n (IntKind.u32.wrap (a+st))
theorem qk8(B st:Int):∀(n:Nat) (a:Int),(plc B st n a).length=n
 |0,_=>rfl
 |n+1,a=>by simp[plc,qk8 B st n]
theorem qs8(B st:Int)(hB:0<B):∀(n:Nat) (a x:Int),x∈plc B st n a->0<=x/\x<B
 |0,_,x,h=>by simp[plc]at h
 |n+1,a,x,h=>by
  rcases zgn.mp h with rfl|h
  ·exact⟨Int.emod_nonneg _ qc,zkn _ hB⟩
  ·exact qs8 B st hB n _ x h
theorem VR(z:Int):0<=IntKind.u32.wrap z/\IntKind.u32.wrap z<4294967296:=by
 rw[IntKind.wrap_u32];omega
theorem qeu(B H st:Int)(H':AV)(q:AV)(hB:1<=B/\B<=4096)(hH:H<=8)(hp:Hp):∀(n i:Nat) (a:Int) (acc:List Int),H=(i+n:Nat)->0<=a->acc.length<=i->
 B196_6 (S 2 1 (LI .u32 acc)) (.int .u32 a) (.int .u32 st) (.int .i64 H) (.int .i64 i) [.sc (.int .i64 B),H',q] hp=some (S 2 1 (LI .u32 (acc++plc B st n a)),hp):=by
 intro n
 induction n with
 |zero=>
  intro i a acc hi ha hc
  rw[qa1]
  have hlt:¬((i:Int)<H):=qc
  simp[hlt,plc]
 |succ n ih=>
  intro i a acc hi ha hc
  rw[qa1]
  have hlt:(i:Int)<H:=qc
  have hw:IntKind.i64.wrap ((i:Int)+1)=((i+1:Nat):Int):=qi
  have hwB:IntKind.u32.wrap B=B:=qV qc qc
  have h:=ih (i+1) (IntKind.u32.wrap (a+st)) (acc++[a%B]) qc (VR _).1 qh
  have ap:=qdf .u32 acc 2 (.inr rfl) 4 qg (a%B) qc
  have hr:∀x y,qt Tryz.prog .rem 40 x y (.int .u32 a) (.int .u32 B)=some (.int .u32 (a%B)):=by
   intro x y
   rw[qS _ _ _ _ _ _ _ qc,qQ ha]
  simp at h hw
  simp[hlt,qj,Jc,hwB,hr,ap,hw,h,plc]
def pls(B H:Int)(l:List Int)(h:Int):List Int:=if KX B H l=0 then plc B (stp h) H.toNat (at0 h)else []
theorem qic(B H:Int)(l:List Int)(k:Nat)(h:Int)(hl:l.length<=1000000)(h32:qzy l)(hp:Hp):
 run cxX 196 [Bv (.int .i64 B) (.int .i64 H) (S k 1 (LI .u32 l)),.sc (.int .u64 h)] hp=some (S 2 1 (LI .u32 (pls B H l h)),hp):=by
 rw[E196]
 have hc:=Wk B H l (rk k) hl h32 hp0
 unfold pls
 by_cases h0:KX B H l=0
 ·have hr:¬(B<1\/B>4096\/H<1\/H>8):=by
   intro h'
   rw[KX,if_pos h']at h0
   cases h0
  have hh:=qeu B H (stp h) (.sc (.int .i64 H)) (S (rk k) 1 (LI .u32 l)) qc qc hp H.toNat 0 (at0 h) [] qc (VR _).1 qf
  simp at hh
  have hs:∀x y,qt Tryz.prog .shr 125 x y (.int .u64 h) (.int .u64 32)=some (.int .u64 (h.fdiv (2^32))):=by
   intro x y
   rw[zZ _ _ _ _ _ _ _ _ qc]
   rfl
  simp[qn,hc,h0,qoq,hs,qj]
  exact hh
 ·simp[qn,hc,h0]
def xa(B:Int)(l:List Int):Prop:=jM l/\∀n∈l,0<=n/\n<B
theorem xa.in32{B:Int}{l:List Int}(h:xa B l)(hB:B<=4096):qzy l:=fun n hn=>by have:=h.2 n hn;omega
theorem xa.nil(B:Int):xa B []:=⟨List.Pairwise.nil,qf⟩
theorem xa.mrg{B:Int}{a b:List Int}(ha:xa B a)(hb:xa B b):xa B (mrg a b):=
 ⟨wC a b ha.1 hb.1,fun n hn=>((vG n a b).mp hn).elim (ha.2 n) (hb.2 n)⟩
theorem xa.one{B n:Int}(h:0<=n/\n<B):xa B [n]:=⟨qf,by simpa using h⟩
theorem qek{B:Int}:∀{l:List Int} {a:Int},jM l->(∀n∈l,a<=n/\n<B)->(l.length:Int)<=B-a\/l=[]
 |[],_,_,_=>.inr rfl
 |x::l,a,h,hb=>by
  have h':=zgr.mp h
  have hx:=hb x qf
  rcases qek (a:=x+1) h'.2 (fun n hn=>⟨by have:=h'.1 n hn;omega,(hb n (by simp[hn])).2⟩)with h2|h2
  ·left;simp;omega
  ·left;subst h2;simp;omega
theorem xa.len{B:Int}{l:List Int}(h:xa B l)(hB:B<=4096):l.length<=4096:=by
 rcases qek (a:=0) h.1 h.2 with h'|h'
 ·omega
 ·simp[h']
theorem JX{B:Int}:∀(l:List Int) (p:Option Int),(∀n∈l,0<=n/\n<B)->(match p with|none=>jM l|some q=>jM (q::l))->JY B p l=0
 |[],_,_,_=>rfl
 |n::l,p,h,hp=>by
  have hn:=h n qf
  have h0:¬(n>=B):=qc
  simp only[JY,h0,if_false]
  cases p with
  |none=>exact JX l (some n) (fun m hm=>h m (by simp[hm])) hp
  |some q=>
   have hp:jM (q::n::l):=hp
   have h1:=(zgr.mp hp).1 n qf
   have h2:¬(n<=q):=qc
   simp only[h2,if_false]
   exact JX l (some n) (fun m hm=>h m (by simp[hm])) (zgr.mp hp).2
theorem qgd{B H:Int}{l:List Int}(hB:1<=B/\B<=4096)(hH:1<=H/\H<=8)(h:xa B l):KX B H l=0:=by
 unfold KX
 rw[if_neg qc]
 exact JX l none h.2 h.1
def plg(B H h:Int):List Int:=plc B (stp h) H.toNat (at0 h)
theorem qs7{B H:Int}{l:List Int}(hB:1<=B/\B<=4096)(hH:1<=H/\H<=8)(h:xa B l)(x:Int):pls B H l x=plg B H x:=by
 unfold pls
 rw[if_pos (qgd hB hH h)];rfl
theorem qit{B H h:Int}(hB:1<=B):∀n∈plg B H h,0<=n/\n<B:=fun n hn=>qs8 B _ qc _ _ n hn
theorem qxz(B H h:Int):(plg B H h).length=H.toNat:=qk8 _ _ _ _
def qgv(l:List Int):List Int->List Int
 |[]=>l
 |n::r=>qgv (mrg l [n]) r
theorem Ya{B:Int}:∀{r l:List Int},xa B l->(∀n∈r,0<=n/\n<B)->xa B (qgv l r)
 |[],_,h,_=>h
 |n::r,l,h,hr=>Ya (r:=r) (h.mrg (xa.one (hr n qf))) fun m hm=>hr m (by simp[hm])
theorem qvz(B H:Int)(q0 q1 q2 q:AV)(k':Nat)(ps:List Int)(hB:1<=B/\B<=4096)(hps:ps.length<=8)(hin:∀n∈ps,0<=n/\n<B)(hp:Hp):∀(r:List Int) (i:Nat) (l:List Int) (k:Nat),ps.drop i=r->xa B l->
 B130_3 (S k' 1 (LI .u32 ps)) (.int .i64 ps.length) (.int .i64 i) [.sc (.int .i64 B),.sc (.int .i64 H),q] [q0,q1,q2] [.sc (.int .i64 B),.sc (.int .i64 H),S k 1 (LI .u32 l)] hp=some (Bv (.int .i64 B) (.int .i64 H) (S (if r=[]then k else 2) 1 (LI .u32 (qgv l r))),hp):=by
 intro r
 induction r with
 |nil=>
  intro i l k hr hg
  have:=qA hr
  have hlt:¬((i:Int)<(ps.length:Int)):=qc
  rw[qbf]
  simp[hlt,qn,qm,qgv]
 |cons x r ih=>
  intro i l k hr hg
  obtain⟨e1,e2,hi,e3⟩:=qu hr
  have hx:=hin x (zgo e1)
  have h:=ih (i+1) (mrg l [x]) 2 e2 (hg.mrg (xa.one hx))
  have hw:IntKind.i64.wrap ((i:Int)+1)=((i+1:Nat):Int):=qi
  have hlen:=hg.len hB.2
  have hm:=fun hp=>qmz (.int .i64 B) (.int .i64 H) (.int .i64 B) (.int .i64 H) l [x] (rk k) 0 hp qh
  rw[qbf]
  simp[LI]at h hw hm
  simp[hi,e3,qj,qo,qn,qm,qgv,LI,hm,hw,h]
theorem qxf(B H:Int)(l:List Int)(k:Nat)(h:Int)(hB:1<=B/\B<=4096)(hH:1<=H/\H<=8)(hg:xa B l)(hp:Hp):
 run cxX 130 [Bv (.int .i64 B) (.int .i64 H) (S k 1 (LI .u32 l)),.sc (.int .u64 h)] hp=some (Bv (.int .i64 B) (.int .i64 H) (S 2 1 (LI .u32 (qgv l (plg B H h)))),hp):=by
 rw[E130]
 have hlen:=hg.len hB.2
 have h1:=fun hp=>qic B H l (rk k) h qc (hg.in32 hB.2) hp
 have hl:=qxz B H h
 have hne:plg B H h≠[]:=by
  intro e
  rw[e]at hl
  simp at hl
  omega
 have h2:=qvz B H (.sc (.int .i64 0)) (.sc (.int .i64 0)) (S 2 1 []) (S (rk k) 1 (LI .u32 l)) 2 (plg B H h) hB qc (qit hB.1) hp _ 0 l (rk k) rfl hg
 rw[qs7 hB hH hg h]at h1
 simp[hne]at h2
 simp[qn,qm,h1,h2]
def blm(B H:Int):List Int->List Int->List Int
 |acc,[]=>acc
 |acc,h::r=>blm B H (qgv acc (plg B H h)) r
theorem qgh{B H:Int}(hB:1<=B):∀{r acc:List Int},xa B acc->xa B (blm B H acc r)
 |[],_,h=>h
 |x::r,acc,h=>qgh hB (r:=r) (Ya h (qit hB))
theorem qj1(B H:Int)(q0 q1 q2:AV)(k:Nat)(hs:List Int)(hB:1<=B/\B<=4096)(hH:1<=H/\H<=8)(hl:hs.length<=1000000)(hp:Hp):∀(r:List Int) (i:Nat) (l:List Int),hs.drop i=r->xa B l->
 B63_3 (S k 1 (LI .u64 hs)) (.int .i64 hs.length) (.int .i64 i) [q0,q1,q2] [.sc (.int .i64 B),.sc (.int .i64 H),S 2 1 (LI .u32 l)] hp=some (Bv (.int .i64 B) (.int .i64 H) (S 2 1 (LI .u32 (blm B H l r))),hp):=by
 intro r
 induction r with
 |nil=>
  intro i l hr hg
  have:=qA hr
  have hlt:¬((i:Int)<(hs.length:Int)):=qc
  rw[qha]
  simp[hlt,qn,qm,blm]
 |cons x r ih=>
  intro i l hr hg
  obtain⟨e1,e2,hi,e3⟩:=qu hr
  have h:=ih (i+1) (qgv l (plg B H x)) e2 (Ya hg (qit hB.1))
  have hw:IntKind.i64.wrap ((i:Int)+1)=((i+1:Nat):Int):=qi
  have ha:=fun hp=>qxf B H l 3 x hB hH hg hp
  rw[qha]
  simp at h hw
  simp[hi,e3,qj,qn,qm,blm,ha,hw,h]
theorem qnd(b h:Int)(k:Nat)(hs:List Int)(hb:0<=b/\b<65536)(hh:0<=h/\h<256)(hl:hs.length<=1000000)(hp:Hp):
 run cxX 63 [.sc (.int .u16 b),.sc (.int .u8 h),S k 1 (LI .u64 hs)] hp=some (Bv (.int .i64 (1+b%300)) (.int .i64 (1+h%8)) (S 2 1 (LI .u32 (blm (1+b%300) (1+h%8) [] hs))),hp):=by
 rw[E63]
 have h1:∀x y,qt Tryz.prog .rem 82 x y (.int .u16 b) (.int .u16 300)=some (.int .u16 (b%300)):=by
  intro x y;rw[qS _ _ _ _ _ _ _ qc,qQ hb.1]
 have h2:∀x y,qt Tryz.prog .rem 5 x y (.int .u8 h) (.int .u8 8)=some (.int .u8 (h%8)):=by
  intro x y;rw[qS _ _ _ _ _ _ _ qc,qQ hh.1]
 have w1:IntKind.i64.wrap (b%300)=b%300:=qk qc qc
 have w2:IntKind.i64.wrap (h%8)=h%8:=qk qc qc
 have w3:IntKind.i64.wrap (1+b%300)=1+b%300:=qk qc qc
 have w4:IntKind.i64.wrap (1+h%8)=1+h%8:=qk qc qc
 have hq:=qj1 (1+b%300) (1+h%8) (.sc (.int .i64 0)) (.sc (.int .i64 0)) (S 2 1 []) (rk k) hs qc qc hl hp hs 0 [] rfl (xa.nil _)
 simp at hq
 simp[h1,h2,qzf,KE,w1,w2,w3,w4,hq]
abbrev fl(w:Nat):AV:=.sc (.float .f64 w)
theorem qbs(w:Nat):one (wR Tryz.prog 214 [.float .f64 w])=some (.int .u64 (w:Int)):=qe
theorem qbr(n:Int):one (wR Tryz.prog 245 [.int .u64 n])=some (.float .f64 n.toNat):=qe
theorem zdd(x y:Operand):qt Tryz.prog .eql 4 x y (.bool true) (.bool true)=some (.bool true):=qe
theorem zde(x y:Operand):qt Tryz.prog .eql 4 x y (.bool true) (.bool false)=some (.bool false):=qe
theorem zdf(x y:Operand):qt Tryz.prog .eql 4 x y (.bool false) (.bool true)=some (.bool false):=qe
theorem zdg(x y:Operand):qt Tryz.prog .eql 4 x y (.bool false) (.bool false)=some (.bool true):=qe
@[simp] theorem beq_bb (x y : Operand) (a b : Bool) : qt Tryz.prog .eql 4 x y (.bool a) (.bool b) = some (.bool (decide (a = b))) := by
 cases a<;>cases b
 ·exact zdg x y
 ·exact zdf x y
 ·exact zde x y
 ·exact zdd x y
theorem JE(w:Nat)(hp:Hp):run cxX 215 [fl w] hp=some (.sc (.bool (decide (jT w))),hp):=by
 rw[E215]
 simp[jn]
theorem xn(w:Nat)(h:w<18446744073709551616)(hp:Hp):run cxX 151 [fl w] hp=some (.sc (.int .u64 (kw w:Int)),hp):=by
 rw[E151]
 unfold kw
 by_cases hn:jT w
 ·simp[qbs,JE,hn,Yh]
 ·by_cases hl:w<9223372036854775808
  ·have e:=qgk Tryz.prog 125 (Go.Operand.tmp 6) (Go.Operand.const (.int .u64 (Int.ofNat 9223372036854775808))) w hl
   have e':=YE Tryz.prog 125 (Go.Operand.tmp 12) (Go.Operand.const (.int .u64 (Int.ofNat 9223372036854775808))) w hl
   simp at e e'
   simp[qbs,JE,hn,hl,e,e',Yh]
  ·have e':=YF Tryz.prog 125 (Go.Operand.tmp 12) (Go.Operand.const (.int .u64 (Int.ofNat 9223372036854775808))) w qc h
   have e:=VU Tryz.prog w h
   simp at e e'
   simp[qbs,JE,hn,hl,e,e',Yh]
theorem zbj(k:Nat)(h:k<18446744073709551616)(hp:Hp):run cxX 243 [.sc (.int .u64 (k:Int))] hp=some (.tup [fl (wk k),.sc (.bool (qye k))],hp):=by
 have e4:∀hp,B243_4 (.int .u64 (k:Int)) (.int .u64 (wk k:Int)) hp=some (.tup [fl (wk k),.sc (.bool (qye k))],hp):=by
  intro hp
  rw[qpo]
  have hk:=fun hp=>xn (wk k) (qq6 k h) hp
  have hd:decide ((kw (wk k):Int)=(k:Int))=qye k:=by
   unfold qye
   apply decide_eq_decide.mpr
   omega
  simp[qbr,hk,hd]
 rw[E243]
 have c:=qj2 Tryz.prog 125 (Go.Operand.tmp 6) (Go.Operand.const (.int .u64 (Int.ofNat 9223372036854775808))) k h
 have n:=VU Tryz.prog k h
 by_cases hl:k<9223372036854775808
 ·have e':=YE Tryz.prog 125 (Go.Operand.tmp 8) (Go.Operand.const (.int .u64 (Int.ofNat 9223372036854775808))) k hl
  have w:wk k=18446744073709551615-k:=by unfold wk;rw[if_pos hl]
  rw[w]at e4
  rw[<-w]at e4
  rw[<-w]at n
  simp at c n e'
  simp[c,n,e',e4]
 ·have e':=YF Tryz.prog 125 (Go.Operand.tmp 8) (Go.Operand.const (.int .u64 (Int.ofNat 9223372036854775808))) k qc h
  have w:wk k=k%9223372036854775808:=by unfold wk;rw[if_neg hl];omega
  rw[<-w]at c
  simp at c e'
  simp[c,e',e4]
theorem Zy(a b:Nat)(ha:a<18446744073709551616)(hb:b<18446744073709551616)(hp:Hp):run cxX 124 [fl a,fl b] hp=some (.sc (.bool (decide (kw a<kw b))),hp):=by
 rw[E124]
 simp[xn a ha,xn b hb]
theorem vd(a b:Nat)(ha:a<18446744073709551616)(hb:b<18446744073709551616)(hp:Hp):run cxX 193 [fl a,fl b] hp=some (.sc (.bool (decide (kw a=kw b))),hp):=by
 rw[E193]
 simp[xn a ha,xn b hb]
 omega
def qf1(a b:Nat):Nat:=if kw b<kw a then b else a
def qf2(a b:Nat):Nat:=if kw a<kw b then b else a
theorem qlz{a b:Nat}(ha:a<18446744073709551616)(hb:b<18446744073709551616):qf1 a b<18446744073709551616:=by unfold qf1;split<;>assumption
theorem ql0{a b:Nat}(ha:a<18446744073709551616)(hb:b<18446744073709551616):qf2 a b<18446744073709551616:=by unfold qf2;split<;>assumption
theorem qse(a b:Nat)(ha:a<18446744073709551616)(hb:b<18446744073709551616)(hp:Hp):run cxX 246 [fl a,fl b] hp=some (fl (qf1 a b),hp):=by
 rw[E246]
 unfold qf1
 by_cases h:kw b<kw a<;>simp[Zy b a hb ha,h]
theorem qsf(a b:Nat)(ha:a<18446744073709551616)(hb:b<18446744073709551616)(hp:Hp):run cxX 247 [fl a,fl b] hp=some (fl (qf2 a b),hp):=by
 rw[E247]
 unfold qf2
 by_cases h:kw a<kw b<;>simp[Zy a b ha hb,h]
theorem qw8(hp:Hp):run cxX 249 [] hp=some (fl 9221120237041090561,hp):=by
 rw[E249]
 simp[qbr]
theorem Zz(s:Int)(hp:Hp):run cxX 200 [.sc (.int .i64 s)] hp=some (fl (if 0<=s then 9218868437227405312 else 18442240474082181120),hp):=by
 rw[E200]
 by_cases h:0<=s<;>simp[h,qpy,qbr]
theorem Vy(hp:Hp):run cxX 250 [fl 0,fl 13826050856027422720] hp=some (fl 9223372036854775808,hp):=(E250 _ _ _).trans qe
theorem qb7(hp:Hp):run cxX 250 [fl 0,fl 4602678819172646912] hp=some (fl 0,hp):=(E250 _ _ _).trans qe
theorem zff(x y:Operand):qt Tryz.prog .sub 42 x y (.float .f64 (FloatKind.f64.nearest 0)) (.float .f64 4602678819172646912)=some (.float .f64 13826050856027422720):=qe
theorem zfe(x y:Operand):qt Tryz.prog .sub 42 x y (.float .f64 (FloatKind.f64.nearest 1)) (.float .f64 4602678819172646912)=some (.float .f64 4602678819172646912):=qe
theorem qm8(n e:Int)(hn:0<=n/\n<18446744073709551616)(he:0<=e/\e<256):∃w,w<18446744073709551616/\∀hp,run cxX 203 [.sc (.int .u64 n),.sc (.int .u8 e)] hp=some (fl w,hp):=by
 have m8:∀x y,qt Tryz.prog .rem 5 x y (.int .u8 e) (.int .u8 8)=some (.int .u8 (e%8)):=by
  intro x y;rw[qS _ _ _ _ _ _ _ qc,qQ he.1]
 have m2:∀x y,qt Tryz.prog .rem 125 x y (.int .u64 n) (.int .u64 2)=some (.int .u64 (n%2)):=by
  intro x y;rw[qS _ _ _ _ _ _ _ qc,qQ hn.1]
 have m3:∀x y,qt Tryz.prog .rem 125 x y (.int .u64 n) (.int .u64 2001)=some (.int .u64 (n%2001)):=by
  intro x y;rw[qS _ _ _ _ _ _ _ qc,qQ hn.1]
 have w2:IntKind.i64.wrap (n%2)=n%2:=qk qc qc
 have w3:IntKind.i64.wrap (n%2001)=n%2001:=qk qc qc
 have w4:IntKind.i64.wrap (n%2001-1000)=n%2001-1000:=qk qc qc
 have w5:IntKind.i64.wrap (2*(n%2))=2*(n%2):=qk qc qc
 have w5':IntKind.i64.wrap (n%2*2)=n%2*2:=qk qc qc
 have w6:IntKind.i64.wrap (n%2*2-1)=n%2*2-1:=qk qc qc
 have b10:∀hp,B203_10 (.int .u64 n) hp=some (fl (FloatKind.f64.nearest (n%2001-1000)),hp):=by
  intro hp
  rw[qkf]
  simp[m3,qgb,w3,w4,qzh]
 have b11:∀hp,B203_11 (.int .u64 n) hp=some (fl n.toNat,hp):=by
  intro hp
  rw[qke]
  simp[qbr]
 by_cases h0:e%8=0
 ·refine⟨9221120237041090561,qg,fun hp=>?_⟩
  rw[qkd]
  simp[m8,h0,qw8]
 ·by_cases h1:e%8=1
  ·refine⟨if 0<=n%2*2-1 then 9218868437227405312 else 18442240474082181120,by split<;>decide,fun hp=>?_⟩
   rw[qkd]
   simp[m8,h1,m2,Jd,w2,w5',w6,Zz]
  ·by_cases h2:e%8=2
   ·rcases Int.emod_two_eq n with q|q
    ·refine⟨9223372036854775808,qg,fun hp=>?_⟩
     rw[qkd]
     simp[m8,h2,m2,q,WU,zff,Vy]
    ·refine⟨0,qg,fun hp=>?_⟩
     rw[qkd]
     simp[m8,h2,m2,q,WU,zfe,qb7]
   ·by_cases h3:e%8=3
    ·refine⟨_,Kh (n%2001-1000),fun hp=>?_⟩
     rw[qkd]
     simp[m8,h3,b10]
    ·by_cases h4:e%8=4
     ·refine⟨_,Kh (n%2001-1000),fun hp=>?_⟩
      rw[qkd]
      simp[m8,h4,b10]
     ·refine⟨n.toNat,qc,fun hp=>?_⟩
      rw[qkd]
      simp[m8,h0,h1,h2,h3,h4,b11]
theorem zb6{w:Nat}(h:w<18446744073709551616):jT (nw w)↔jT w:=by
 unfold jT nw
 split<;>omega
theorem qoc{w:Nat}(h:w<18446744073709551616)(hn:¬jT w):kw w<18444492273895866369:=by
 unfold kw
 rw[if_neg hn]
 unfold jT at hn
 split<;>omega
theorem zb5{w:Nat}(hn:jT w):kw w=18444492273895866369:=by
 unfold kw
 rw[if_pos hn]
theorem qeb(w:Nat)(h:w<18446744073709551616)(hn:¬jT w)(hp:Hp):run cxX 258 [fl w,.sc (.int .i64 (-1))] hp=some (.sc (.bool (decide (w=18442240474082181120))),hp):=by
 have e:=qrc Tryz.prog w h
 have c:YA 9218868437227405311 (nw w)=decide (w=18442240474082181120):=by
  unfold YA
  have v1:zE 9218868437227405311=9218868437227405311:=qg
  rw[v1]
  have hn':¬jT (nw w):=fun e=>hn ((zb6 h).mp e)
  have hn2:=hn
  unfold jT at hn2
  apply decide_eq_decide.mpr
  constructor
  ·rintro⟨_,_,h3⟩
   unfold zE nw at h3
   repeat' split at h3
   all_goals omega
  ·intro h3
   subst h3
   exact⟨qg,qg,qg⟩
 rw[E258]
 simp[e,qat,c]
theorem qea(w:Nat)(h:w<18446744073709551616)(hn:¬jT w)(hp:Hp):run cxX 258 [fl w,.sc (.int .i64 1)] hp=some (.sc (.bool (decide (w=9218868437227405312))),hp):=by
 have c:YA 9218868437227405311 w=decide (w=9218868437227405312):=by
  unfold YA
  have v1:zE 9218868437227405311=9218868437227405311:=qg
  rw[v1]
  have hn2:=hn
  unfold jT at hn2
  apply decide_eq_decide.mpr
  constructor
  ·rintro⟨_,_,h3⟩
   unfold zE at h3
   split at h3<;>omega
  ·intro h3
   subst h3
   exact⟨qg,qg,qg⟩
 rw[E258]
 simp[qat,c]
theorem qd3(w:Nat)(h:w<18446744073709551616)(hp:Hp):run cxX 259 [fl w] hp=some (.sc (.bool (decide (9223372036854775808<=w))),hp):=by
 have c:decide (IntKind.i64.wrap (w:Int)<0)=decide (9223372036854775808<=w):=by
  apply decide_eq_decide.mpr
  rw[IntKind.wrap_i64]
  omega
 rw[E259]
 simp[qbs,qgb]
 rw[IntKind.wrap_i64]
 omega
def wg(w:Nat):Int:=if jT w then 1 else if w=18442240474082181120 then 2 else if w=9218868437227405312 then 3 else if w=9223372036854775808 then 4 else if w=0 then 5 else 0
theorem qu3{w:Nat}(h:w<18446744073709551616)(hn:¬jT w):fEq w 0=decide (w=0\/w=9223372036854775808):=by
 unfold fEq
 have v3:zE 0=0:=qg
 rw[v3]
 apply decide_eq_decide.mpr
 constructor
 ·rintro⟨_,_,h3⟩
  unfold zE at h3
  split at h3<;>omega
 ·intro h3
  rcases h3 with rfl|rfl
  ·exact⟨qg,qg,qg⟩
  ·exact⟨qg,qg,qg⟩
theorem qsh(w:Nat)(h:w<18446744073709551616)(hp:Hp):run cxX 248 [fl w] hp=some (.sc (.int .u8 (wg w)),hp):=by
 rw[E248]
 unfold wg
 by_cases hn:jT w
 ·simp[jn,hn]
 ·have i1:=fun hp=>qeb w h hn hp
  have i2:=fun hp=>qea w h hn hp
  have z:=qu3 h hn
  have s:=fun hp=>qd3 w h hp
  have b9:∀hp,B248_9 (.float .f64 w) hp=some (.sc (.int .u8 (if w=0\/w=9223372036854775808 then 5 else 0)),hp):=by
   intro hp
   rw[qpm]
   by_cases h0:w=0\/w=9223372036854775808<;>simp[z,h0]
  by_cases h1:w=18442240474082181120
  ·subst h1
   simp at i1
   simp[jn,hn,i1]
  ·by_cases h2:w=9218868437227405312
   ·subst h2
    simp at i1 i2
    simp[jn,hn,i1,i2]
   ·simp only[h1,h2,decide_false]at i1 i2
    by_cases h3:w=9223372036854775808
    ·subst h3
     simp at s z
     simp[jn,hn,i1,i2,z,s,qpn]
    ·by_cases h4:w=0
     ·subst h4
      simp at s z b9
      simp[jn,hn,i1,i2,z,s,b9]
     ·simp[h3,h4]at z b9
      simp[jn,hn,i1,i2,z,b9,h1,h2,h3,h4]
theorem qlm(a b:Nat):kw (qf1 a b)=min (kw a) (kw b):=by unfold qf1;split<;>omega
theorem qln(a b:Nat):kw (qf2 a b)=max (kw a) (kw b):=by unfold qf2;split<;>omega
def LF(l:List Nat):List AV:=l.map fun n=>.sc (.float .f64 n)
section
variable (l:List Nat)
@[simp] theorem lenF:(LF l).length=l.length:=by simp[LF]
@[simp] theorem getF?(i:Nat):(LF l)[i]?=(l[i]?).map fun n=>.sc (.float .f64 n):=by simp[LF]
@[simp] theorem getF(i:Nat)(h:i<(LF l).length):(LF l)[i]= .sc (.float .f64 (l[i]'(by simpa using h))):=by simp[LF]
@[simp] theorem dropF(i:Nat):(LF l).drop i=LF (l.drop i):=by simp[LF]
@[simp] theorem tailF:(LF l).tail=LF l.tail:=by simp[LF]
@[simp] theorem nilF:LF []=[]:=rfl
theorem appF(n:Nat)(h:l.length<=1000000):yB 8 1 (S 2 1 (LF l)) (S 1 1 [.sc (.float .f64 n)])=some (S 2 1 (LF (l++[n]))):=by
 rw[Vd 8 1 2 _ _ 1 (.inr rfl) (qf3 _) (.inr (xw qc qh))]
 simp[LF]
end
abbrev Ga(K M e0 e1 e2 e3 e4 e5:Int)(lo hi:Nat)(x:AV):AV:=
 .agg [.sc (.int .i64 K),.sc (.int .u32 M),.sc (.int .u32 e0),.sc (.int .u32 e1),.sc (.int .u32 e2),.sc (.int .u32 e3),.sc (.int .u32 e4),.sc (.int .u32 e5),fl lo,fl hi,x]
def jw(a b:Int):Int:=if a+b<4294967296 then a+b else 4294967295
theorem yU(a b:Int)(ha:0<=a/\a<4294967296)(hb:0<=b/\b<4294967296)(hp:Hp):run cxX 199 [.sc (.int .u32 a),.sc (.int .u32 b)] hp=some (.sc (.int .u32 (jw a b)),hp):=by
 rw[E199]
 unfold jw
 by_cases h:a+b<4294967296
 ·have w:IntKind.u32.wrap (a+b)=a+b:=qV qc h
  have h1:decide (a+b>=a)=true:=qh
  simp only[wV,xy,zgh,jC,wX,jr,w,h,h1,cond_true,if_true]
 ·have w:IntKind.u32.wrap (a+b)=a+b-4294967296:=by rw[IntKind.wrap_u32];omega
  have h1:¬(a<=a+b-4294967296):=qc
  simp[w,h,h1]
def Ws(l:List Nat):Prop:=∀w∈l,w<18446744073709551616
theorem qfw(K:Int)(q c1 c2 c3 c4 c5 c6 c7 c8 c9:AV)(b4 b2r:List AV)(hq:b4.length=11)(hp:Hp):∀(n:Nat) (a b acc:List Nat) (k k':Nat),a.length+b.length=n->acc.length+n<=1000000->Ws a->Ws b->
 B201_8 (S k 1 (LF a)) (S k' 1 (LF b)) (.sc (.int .i64 K)::b2r) b4 [q,c1,c2,c3,c4,c5,c6,c7,c8,c9,S 2 1 (LF acc)] hp=some (.agg [q,c1,c2,c3,c4,c5,c6,c7,c8,c9,S 2 1 (LF (acc++(gm a b).take (K.toNat-acc.length)))],hp):=by
 intro n
 induction n using Nat.strongRecOn with
 |_ n ih=>
 intro a b acc k k' hn hlen ha hb
 have ap:∀x:Nat,yB 8 1 (S 2 1 (LF acc)) (S 1 1 [.sc (.float .f64 x)])=some (S 2 1 (LF (acc++[x]))):=fun x=>appF acc x qc
 have fin:B201_12 b4 [q,c1,c2,c3,c4,c5,c6,c7,c8,c9,S 2 1 (LF acc)] hp=some (.agg [q,c1,c2,c3,c4,c5,c6,c7,c8,c9,S 2 1 (LF acc)],hp):=by
  rw[qkg]
  obtain⟨d0,d1,d2,d3,d4,d5,d6,d7,d8,d9,d10,rfl⟩:∃d0 d1 d2 d3 d4 d5 d6 d7 d8 d9 d10,b4=[d0,d1,d2,d3,d4,d5,d6,d7,d8,d9,d10]:=by
   match b4,hq with
   |[d0,d1,d2,d3,d4,d5,d6,d7,d8,d9,d10],_=>exact⟨d0,d1,d2,d3,d4,d5,d6,d7,d8,d9,d10,rfl⟩
  simp[qn,qm]
 rw[qpx]
 by_cases hK:(acc.length:Int)<K
 ·have hs:K.toNat-acc.length=(K.toNat-(acc.length+1))+1:=qc
  have goA:∀(x:Nat) (r:List Nat),r.length+1+b.length<=n->Ws r->B201_10 (S k 1 (LF (x::r))) (S k' 1 (LF b)) (.sc (.int .i64 K)::b2r) b4 [q,c1,c2,c3,c4,c5,c6,c7,c8,c9,S 2 1 (LF acc)] hp=some (.agg [q,c1,c2,c3,c4,c5,c6,c7,c8,c9,S 2 1 (LF (acc++(x::gm r b).take (K.toNat-acc.length)))],hp):=by
   intro x r hle hr
   rw[qki]
   have e:=xM (rk k) (LF (x::r)) .i64 1 qc (by simp only[lenF,zgk];omega)
   have i:=fun k=>ih (r.length+b.length) qc r b (acc++[x]) k k' rfl (by simp only[zgi,zgk,zhh];omega) hr hb
   simp at i
   rw[hs,zgs]
   simp[qo,qj,ap,e,qm,i]
  have goB:∀(y:Nat) (r:List Nat),a.length+(r.length+1)<=n->Ws r->B201_11 (S k 1 (LF a)) (S k' 1 (LF (y::r))) (.sc (.int .i64 K)::b2r) b4 [q,c1,c2,c3,c4,c5,c6,c7,c8,c9,S 2 1 (LF acc)] hp=some (.agg [q,c1,c2,c3,c4,c5,c6,c7,c8,c9,S 2 1 (LF (acc++(y::gm a r).take (K.toNat-acc.length)))],hp):=by
   intro x r hle hr
   rw[qkh]
   have e:=xM (rk k') (LF (x::r)) .i64 1 qc (by simp only[lenF,zgk];omega)
   have i:=fun k'=>ih (a.length+r.length) qc a r (acc++[x]) k k' rfl (by simp only[zgi,zgk,zhh];omega) ha hr
   simp at i
   rw[hs,zgs]
   simp[qo,qj,ap,e,qm,i]
  match a,b with
  |[],[]=>simp[qo,qj,hK,fin]
  |[],y::s=>
   have h:=goB y s (by simp at hn⊢;omega) (fun w hw=>hb w (by simp[hw]))
   simp at h
   have hw':IntKind.i64.wrap ((s.length:Int)+1)=(s.length:Int)+1:=qk qc (by simp at hn;omega)
   have p:(0:Int)<(s.length:Int)+1:=qc
   have z:¬((s.length:Int)+1=0):=qc
   simp[qo,qj,hK,hw',p,z,Qs,h]
  |x::r,[]=>
   have h:=goA x r (by simp at hn⊢;omega) (fun w hw=>ha w (by simp[hw]))
   simp at h
   have hw':IntKind.i64.wrap ((r.length:Int)+1)=(r.length:Int)+1:=qk qc (by simp at hn;omega)
   have p:(0:Int)<(r.length:Int)+1:=qc
   simp[qo,qj,hK,hw',p,Qs,h]
  |x::r,y::s=>
   have h1:=goA x r (by simp at hn⊢;omega) (fun w hw=>ha w (by simp[hw]))
   have h2:=goB y s (by simp at hn⊢;omega) (fun w hw=>hb w (by simp[hw]))
   have hw':IntKind.i64.wrap ((r.length:Int)+1+((s.length:Int)+1))=(r.length:Int)+1+((s.length:Int)+1):=qk qc (by simp at hn;omega)
   have p:(0:Int)<(r.length:Int)+1+((s.length:Int)+1):=qc
   have p':(0:Int)<(r.length:Int)+1:=qc
   have z:¬((s.length:Int)+1=0):=qc
   have l:=fun hp=>Zy y x (hb y qf) (ha x qf) hp
   rw[qc1]
   by_cases hyx:kw y<kw x
   ·simp only[hyx,decide_true]at l
    simp[qo,qj,hK,hw',p,p',z,hyx,l,h2,Qs]
   ·simp only[hyx,decide_false]at l
    simp[qo,qj,hK,hw',p,p',z,hyx,l,h1,Qs]
 ·have hs:K.toNat-acc.length=0:=qc
  simp[qo,qj,hK,fin,hs]
theorem zce:idx 6 (.int .i64 0)=some 0:=qe
theorem zcd:idx 6 (.int .i64 1)=some 1:=qe
theorem zcc:idx 6 (.int .i64 2)=some 2:=qe
theorem zcb:idx 6 (.int .i64 3)=some 3:=qe
theorem zca:idx 6 (.int .i64 4)=some 4:=qe
theorem zb9:idx 6 (.int .i64 5)=some 5:=qe
def qU(n:Int):Prop:=0<=n/\n<4294967296
theorem qil(K K' M M' e0 e1 e2 e3 e4 e5 f0 f1 f2 f3 f4 f5:Int)(lo hi lo' hi':Nat)(a b:List Nat)(k k':Nat)(hM:qU M/\qU M')(h0:qU e0/\qU f0)(h1:qU e1/\qU f1)(h2:qU e2/\qU f2)(h3:qU e3/\qU f3)
 (h4:qU e4/\qU f4) (h5:qU e5/\qU f5) (hlo:lo<18446744073709551616/\lo'<18446744073709551616) (hhi:hi<18446744073709551616/\hi'<18446744073709551616) (ha:Ws a) (hb:Ws b) (hlen:a.length+b.length<=1000000) (hp:Hp):
 run cxX 201 [Ga K M e0 e1 e2 e3 e4 e5 lo hi (S k 1 (LF a)),Ga K' M' f0 f1 f2 f3 f4 f5 lo' hi' (S k' 1 (LF b))] hp=
  some (Ga K (jw M M') (jw e0 f0) (jw e1 f1) (jw e2 f2) (jw e3 f3) (jw e4 f4) (jw e5 f5) (qf1 lo lo') (qf2 hi hi') (S 2 1 (LF ((gm a b).take K.toNat))),hp):=by
 have pM:=fun hp=>yU M M' hM.1 hM.2 hp
 have p0:=fun hp=>yU e0 f0 h0.1 h0.2 hp
 have p1:=fun hp=>yU e1 f1 h1.1 h1.2 hp
 have p2:=fun hp=>yU e2 f2 h2.1 h2.2 hp
 have p3:=fun hp=>yU e3 f3 h3.1 h3.2 hp
 have p4:=fun hp=>yU e4 f4 h4.1 h4.2 hp
 have p5:=fun hp=>yU e5 f5 h5.1 h5.2 hp
 have mn:=fun hp=>qse lo lo' hlo.1 hlo.2 hp
 have mx:=fun hp=>qsf hi hi' hhi.1 hhi.2 hp
 have w2:IntKind.i64.wrap 2=2:=rfl
 have w3:IntKind.i64.wrap 3=3:=rfl
 have w4:IntKind.i64.wrap 4=4:=rfl
 have w5:IntKind.i64.wrap 5=5:=rfl
 have w6:IntKind.i64.wrap 6=6:=rfl
 have g:=fun(c1 c2 c3 c4 c5 c6 c7 c8 c9:AV) (b4 b2r:List AV) (hq:b4.length=11)=>qfw K (.sc (.int .i64 K)) c1 c2 c3 c4 c5 c6 c7 c8 c9 b4 b2r hq hp (a.length+b.length) a b [] (rk k) (rk k') rfl (by simpa using hlen) ha hb
 simp at g
 rw[E201]
 simp[qj,pM,mn,mx]
 rw[yN]
 simp[qj,zce,p0,qm]
 rw[yN]
 simp[qj,zcd,p1,qm]
 rw[yN]
 simp[qj,zcc,p2,qm,w2]
 rw[yN]
 simp[qj,zcb,p3,qm,w3]
 rw[yN]
 simp[qj,zca,p4,qm,w4]
 rw[yN]
 simp[qj,zb9,p5,qm,w5]
 rw[yN]
 simp[qo,w6]
 exact g _ _ _ _ _ _ _ _ _ _ _ rfl
structure Gs where
 M:Int
 e0:Int
 e1:Int
 e2:Int
 e3:Int
 e4:Int
 e5:Int
 lo:Nat
 hi:Nat
 L:List Nat
abbrev Gs.av(g:Gs)(K:Int)(k:Nat):AV:=Ga K g.M g.e0 g.e1 g.e2 g.e3 g.e4 g.e5 g.lo g.hi (S k 1 (LF g.L))
def gmg(K:Int)(g o:Gs):Gs:=⟨jw g.M o.M,jw g.e0 o.e0,jw g.e1 o.e1,jw g.e2 o.e2,jw g.e3 o.e3,jw g.e4 o.e4,jw g.e5 o.e5,qf1 g.lo o.lo,qf2 g.hi o.hi,(gm g.L o.L).take K.toNat⟩
def xh(w:Nat):Gs:=⟨1,if wg w=0 then 1 else 0,if wg w=1 then 1 else 0,if wg w=2 then 1 else 0,if wg w=3 then 1 else 0,if wg w=4 then 1 else 0,if wg w=5 then 1 else 0,
 if jT w then 9218868437227405312 else w,if jT w then 18442240474082181120 else w,[wk (kw w)]⟩
def gnew:Gs:=⟨0,0,0,0,0,0,0,9218868437227405312,18442240474082181120,[]⟩
def Xo(i:Int):List Nat->Nat
 |[]=>0
 |f::F=>(if wg f=i then 1 else 0)+Xo i F
theorem jY(i:Int):∀a b,Xo i (a++b)=Xo i a+Xo i b
 |[],b=>by simp[Xo]
 |f::a,b=>by simp only[zib,Xo,jY i a b];omega
theorem jh(i:Int):∀a,Xo i a<=a.length
 |[]=>zgm _
 |f::a=>by have:=jh i a;simp only[Xo,zgk];split<;>omega
theorem vk(i:Int){a b:List Nat}(h:a.Perm b):Xo i a=Xo i b:=by
 induction h with
 |nil=>rfl
 |cons x _ ih=>simp only[Xo,ih]
 |swap x y l=>simp only[Xo];omega
 |trans _ _ h1 h2=>rw[h1,h2]
theorem qzb(w:Nat):0<=wg w/\wg w<=5:=by
 unfold wg
 repeat' split
 all_goals omega
structure GR (K : Int) (F : List Nat) (g : Gs) : Prop where
 M:g.M=F.length
 e0:g.e0=Xo 0 F
 e1:g.e1=Xo 1 F
 e2:g.e2=Xo 2 F
 e3:g.e3=Xo 3 F
 e4:g.e4=Xo 4 F
 e5:g.e5=Xo 5 F
 lo:g.lo<18446744073709551616
 hi:g.hi<18446744073709551616
 klo:kw g.lo=QT F
 khi:kw g.hi=xX F
 ws:Ws g.L
 keys:g.L.map kw=(sk (F.map kw)).take K.toNat
theorem GR.len{K:Int}{F:List Nat}{g:Gs}(h:GR K F g):g.L.length=min K.toNat F.length:=by
 have:=congrArg List.length h.keys
 rw[zhv,zhj,zbf,zhv]at this
 exact this
theorem xT{a b:Nat}(h:a+b<4294967296):jw (a:Int) (b:Int)=((a+b:Nat):Int):=by
 unfold jw
 rw[if_pos qc]
 omega
theorem GR.merge{K:Int}{F H:List Nat}{g o:Gs}(hg:GR K F g)(ho:GR K H o)(hl:F.length+H.length<=1000):GR K (F++H) (gmg K g o) where
 M:=by simp only[gmg];rw[hg.M,ho.M,xT qc,zgi]
 e0:=by have:=jh 0 F;have:=jh 0 H;simp only[gmg];rw[hg.e0,ho.e0,xT qc,jY]
 e1:=by have:=jh 1 F;have:=jh 1 H;simp only[gmg];rw[hg.e1,ho.e1,xT qc,jY]
 e2:=by have:=jh 2 F;have:=jh 2 H;simp only[gmg];rw[hg.e2,ho.e2,xT qc,jY]
 e3:=by have:=jh 3 F;have:=jh 3 H;simp only[gmg];rw[hg.e3,ho.e3,xT qc,jY]
 e4:=by have:=jh 4 F;have:=jh 4 H;simp only[gmg];rw[hg.e4,ho.e4,xT qc,jY]
 e5:=by have:=jh 5 F;have:=jh 5 H;simp only[gmg];rw[hg.e5,ho.e5,xT qc,jY]
 lo:=qlz hg.lo ho.lo
 hi:=ql0 hg.hi ho.hi
 klo:=by simp only[gmg];rw[qlm,hg.klo,ho.klo,Yx]
 khi:=by simp only[gmg];rw[qln,hg.khi,ho.khi,ZT]
 ws:=fun w hw=>(qtx w _ _ _ rfl (zhl hw)).elim (hg.ws w) (ho.ws w)
 keys:=by
  simp only[gmg]
  rw[zjn,qlu _ _ _ rfl,hg.keys,ho.keys,qws _ _ _ _ _ (zgm _) (zgm _),zin,qmm]
theorem qy2(K:Int):GR K [] gnew:=⟨rfl,rfl,rfl,rfl,rfl,rfl,rfl,qg,qg,qg,qg,by simp[gnew,Ws],by simp[gnew,sk]⟩
theorem qls{K:Int}(hK:1<=K){w:Nat}(hw:w<18446744073709551616):GR K [w] (xh w) where
 M:=rfl
 e0:=by simp only[xh,Xo];split<;>rfl
 e1:=by simp only[xh,Xo];split<;>rfl
 e2:=by simp only[xh,Xo];split<;>rfl
 e3:=by simp only[xh,Xo];split<;>rfl
 e4:=by simp only[xh,Xo];split<;>rfl
 e5:=by simp only[xh,Xo];split<;>rfl
 lo:=by simp only[xh];split<;>omega
 hi:=by simp only[xh];split<;>omega
 klo:=by
  simp only[xh,QT]
  have h0:kw 9218868437227405312=18442240474082181120:=qg
  by_cases hn:jT w
  ·rw[if_pos hn,if_pos hn,h0]
  ·rw[if_neg hn,if_neg hn]
   have hn2:=hn
   unfold jT at hn2
   unfold kw
   rw[if_neg hn]
   split<;>omega
 khi:=by
  simp only[xh,xX]
  have h0:kw 18442240474082181120=4503599627370495:=qg
  by_cases hn:jT w
  ·rw[if_pos hn,if_pos hn,h0]
  ·rw[if_neg hn,if_neg hn]
   have hn2:=hn
   unfold jT at hn2
   unfold kw
   rw[if_neg hn]
   split<;>omega
 ws:=by simp only[xh,Ws,zhn];rintro x rfl;exact qq6 _ (vW w hw)
 keys:=by
  have hk:K.toNat=(K.toNat-1)+1:=qc
  simp only[xh,zhc,ziv,sk,Ki]
  rw[qt7 w hw,hk,zgs,zj4]
theorem GR.in32{K:Int}{F:List Nat}{g:Gs}(h:GR K F g)(hl:F.length<=1000):qU g.M/\qU g.e0/\qU g.e1/\qU g.e2/\qU g.e3/\qU g.e4/\qU g.e5:=by
 have a0:=jh 0 F
 have a1:=jh 1 F
 have a2:=jh 2 F
 have a3:=jh 3 F
 have a4:=jh 4 F
 have a5:=jh 5 F
 rw[h.M,h.e0,h.e1,h.e2,h.e3,h.e4,h.e5]
 unfold qU
 refine⟨?_,?_,?_,?_,?_,?_,?_⟩<;>omega
theorem zbk(K K':Int){F H:List Nat}{g o:Gs}(k k':Nat)(hg:GR K F g)(ho:GR K' H o)(hl:F.length+H.length<=1000)(hp:Hp):
 run cxX 201 [g.av K k,o.av K' k'] hp=some ((gmg K g o).av K 2,hp):=by
 obtain⟨m,x0,x1,x2,x3,x4,x5⟩:=hg.in32 qc
 obtain⟨m',y0,y1,y2,y3,y4,y5⟩:=ho.in32 qc
 have l1:=hg.len
 have l2:=ho.len
 exact qil K K' g.M o.M g.e0 g.e1 g.e2 g.e3 g.e4 g.e5 o.e0 o.e1 o.e2 o.e3 o.e4 o.e5 g.lo g.hi o.lo o.hi g.L o.L k k' ⟨m,m'⟩ ⟨x0,y0⟩ ⟨x1,y1⟩ ⟨x2,y2⟩ ⟨x3,y3⟩ ⟨x4,y4⟩ ⟨x5,y5⟩ ⟨hg.lo,ho.lo⟩ ⟨hg.hi,ho.hi⟩ hg.ws ho.ws qc hp
theorem qw7(K:Int)(w:Nat)(hw:w<18446744073709551616)(hp:Hp):run cxX 202 [.sc (.int .i64 K),fl w] hp=some ((xh w).av K 1,hp):=by
 have i1:=fun hp=>Zz 1 hp
 have i2:=fun hp=>Zz (-1) hp
 have ed:=fun hp=>qsh w hw hp
 have k:=fun hp=>xn w hw hp
 have o:=fun hp=>zbj (kw w) (vW w hw) hp
 simp at i1 i2
 have b5:∀(x0 x1 x2 x3 x4 x5 x6 x7 x8 x9 x10:AV) (q0 q1 q2 q3 q4 q5 q6 q7 q8 q9 q10:AV) (hp:Hp),B202_5 (.float .f64 w) [q0,q1,q2,q3,q4,q5,q6,q7,q8,q9,q10] [x0,x1,x2,x3,x4,x5,x6,x7,x8,x9,x10] hp=some (.agg [x0,x1,x2,x3,x4,x5,x6,x7,x8,x9,S 1 1 [fl (wk (kw w))]],hp):=by
  intros
  rw[qpw]
  simp[k,o,qm,qn]
 rw[E202]
 have he:=qzb w
 have hc:wg w=0\/wg w=1\/wg w=2\/wg w=3\/wg w=4\/wg w=5:=qc
 have u0:idx 6 (.int .u8 0)=some 0:=qe
 have u1:idx 6 (.int .u8 1)=some 1:=qe
 have u2:idx 6 (.int .u8 2)=some 2:=qe
 have u3:idx 6 (.int .u8 3)=some 3:=qe
 have u4:idx 6 (.int .u8 4)=some 4:=qe
 have u5:idx 6 (.int .u8 5)=some 5:=qe
 unfold xh
 by_cases hn:jT w
 ·rcases hc with e|e|e|e|e|e<;>rw[e]at ed<;>simp[i1,i2,ed,u0,u1,u2,u3,u4,u5,qm,jn,hn,b5,e,LF]
 ·rcases hc with e|e|e|e|e|e<;>rw[e]at ed<;>simp[i1,i2,ed,u0,u1,u2,u3,u4,u5,qm,jn,hn,b5,e,LF]
theorem qsb(K:Int)(hK:1<=K/\K<=16)(hp:Hp):run cxX 133 [.sc (.int .i64 K)] hp=some (.tup [gnew.av K 2,.sc (.bool true)],hp):=by
 have i1:=fun hp=>Zz 1 hp
 have i2:=fun hp=>Zz (-1) hp
 simp at i1 i2
 have h1:¬(K<1):=qc
 have h2:¬(16<K):=qc
 rw[E133]
 simp[h1,h2]
 rw[qqn]
 simp[i1,i2,qm,qn,gnew]
theorem qsc(K:Int){F:List Nat}{g:Gs}(k w:Nat)(hK:1<=K)(hg:GR K F g)(hl:F.length+1<=1000)(hw:w<18446744073709551616)(hp:Hp):
 run cxX 134 [g.av K k,fl w] hp=some ((gmg K g (xh w)).av K 2,hp):=by
 have o:=fun hp=>qw7 K w hw hp
 have m:=fun k k' hp=>zbk K K k k' hg (qls hK hw) (by simpa using hl) hp
 rw[E134]
 simp[qn,qj,o,m,qm]
theorem zfj(d:Nat)(a b:Int):qP Tryz.prog (Op.equalIn (d+1) 40 (.int .u32 a) (.int .u32 b))=some (a==b):=by
 unfold Op.equalIn
 rw[qJ]
 have:qP Tryz.prog (underlying 40)=some (.int .u32):=qe
 rw[this]
 rfl
theorem zfk(e0 e1 e2 e3 e4 e5 f0 f1 f2 f3 f4 f5:Int):qP Tryz.prog (Op.equal 41 (.agg #[.int .u32 e0,.int .u32 e1,.int .u32 e2,.int .u32 e3,.int .u32 e4,.int .u32 e5]) (.agg #[.int .u32 f0,.int .u32 f1,.int .u32 f2,.int .u32 f3,.int .u32 f4,.int .u32 f5]))=
 some (decide (e0=f0/\e1=f1/\e2=f2/\e3=f3/\e4=f4/\e5=f5)):=by
 unfold Op.equal Op.maxDepth
 unfold Op.equalIn
 rw[qJ]
 have:qP Tryz.prog (underlying 41)=some (.array 6 40):=qe
 rw[this]
 simp only[wV,zgh]
 rw[qJ]
 have hs:qP Tryz.prog (sizeOf 40)=some 1:=qe
 rw[hs]
 simp only[wV,zgh]
 have hp:∀(x0 x1 x2 x3 x4 x5:Value),qP Tryz.prog (part 40 #[x0,x1,x2,x3,x4,x5] 0)=some x0/\qP Tryz.prog (part 40 #[x0,x1,x2,x3,x4,x5] 1)=some x1/\qP Tryz.prog (part 40 #[x0,x1,x2,x3,x4,x5] 2)=some x2/\
  qP Tryz.prog (part 40 #[x0,x1,x2,x3,x4,x5] 3)=some x3/\qP Tryz.prog (part 40 #[x0,x1,x2,x3,x4,x5] 4)=some x4/\qP Tryz.prog (part 40 #[x0,x1,x2,x3,x4,x5] 5)=some x5:=by
  intro x0 x1 x2 x3 x4 x5
  refine⟨?_,?_,?_,?_,?_,?_⟩<;>kernel_rfl
 have he:=zfj 9998
 obtain⟨a0,a1,a2,a3,a4,a5⟩:=hp (.int .u32 e0) (.int .u32 e1) (.int .u32 e2) (.int .u32 e3) (.int .u32 e4) (.int .u32 e5)
 obtain⟨b0,b1,b2,b3,b4,b5⟩:=hp (.int .u32 f0) (.int .u32 f1) (.int .u32 f2) (.int .u32 f3) (.int .u32 f4) (.int .u32 f5)
 rw[Std.Legacy.Range.forIn_eq_forIn_range']
 simp[Std.Legacy.Range.size,List.range'_succ,qJ,a0,b0,he]
 by_cases h0:e0=f0
 ·subst h0
  simp[qJ,a1,b1,he]
  by_cases h1:e1=f1
  ·subst h1
   simp[qJ,a2,b2,he]
   by_cases h2:e2=f2
   ·subst h2
    simp[qJ,a3,b3,he]
    by_cases h3:e3=f3
    ·subst h3
     simp[qJ,a4,b4,he]
     by_cases h4:e4=f4
     ·subst h4
      simp[qJ,a5,b5,he]
      by_cases h5:e5=f5
      ·subst h5
       simp[qJ]
      ·simp[h5,qJ]
     ·simp[h4,qJ]
    ·simp[h3,qJ]
   ·simp[h2,qJ]
  ·simp[h1,qJ]
 ·simp[h0,qJ]
theorem zaf(x y:Operand)(e0 e1 e2 e3 e4 e5 f0 f1 f2 f3 f4 f5:Int):qt Tryz.prog .neq 41 x y (.agg #[.int .u32 e0,.int .u32 e1,.int .u32 e2,.int .u32 e3,.int .u32 e4,.int .u32 e5]) (.agg #[.int .u32 f0,.int .u32 f1,.int .u32 f2,.int .u32 f3,.int .u32 f4,.int .u32 f5])=
 some (.bool (!decide (e0=f0/\e1=f1/\e2=f2/\e3=f3/\e4=f4/\e5=f5))):=by
 unfold qt
 rw[qJ]
 have hg:qP Tryz.prog (eqGuard .neq 41 x y (.agg #[.int .u32 e0,.int .u32 e1,.int .u32 e2,.int .u32 e3,.int .u32 e4,.int .u32 e5]) (.agg #[.int .u32 f0,.int .u32 f1,.int .u32 f2,.int .u32 f3,.int .u32 f4,.int .u32 f5]))=some ():=qe
 rw[hg]
 simp only[wV,zgh,Go.binOp]
 rw[qJ,zfk]
 rfl
theorem Kr(r0 r1 r2 r3 r4 r5 r6 r7 r8 r9 s0 s1 s2 s3 s4 s5 s6 s7 s8 s9:AV)(a b:List Nat)(k k':Nat)(hab:a.length=b.length)(hl:a.length<=1000000)(ha:Ws a)(hb:Ws b)(hp:Hp):∀(r s:List Nat) (i:Nat),a.drop i=r->b.drop i=s->
 B118_4 (.int .i64 a.length) (.int .i64 i) [r0,r1,r2,r3,r4,r5,r6,r7,r8,r9,S k 1 (LF a)] [s0,s1,s2,s3,s4,s5,s6,s7,s8,s9,S k' 1 (LF b)] hp=some (.sc (.bool (decide (r.map kw=s.map kw))),hp):=by
 intro r
 induction r with
 |nil=>
  intro s i hr hs
  have h1:=qA hr
  have h2:s=[]:=by rw[<-hs];exact zhi qc
  have hlt:¬((i:Int)<(a.length:Int)):=qc
  rw[qbj]
  simp[hlt,h2]
 |cons x r ih=>
  intro s i hr hs
  obtain⟨e1,e2,hi,e3⟩:=qu hr
  rw[qbj]
  have hw:IntKind.i64.wrap ((i:Int)+1)=((i+1:Nat):Int):=qi
  cases s with
  |nil=>have:=qA hs;omega
  |cons y s=>
   obtain⟨f1,f2,hj,f3⟩:=qu hs
   have h:=ih s (i+1) e2 f2
   have q:=fun hp=>vd x y (ha x (zgo e1)) (hb y (zgo f1)) hp
   simp at h hw
   by_cases e:kw x=kw y
   ·simp only[e,decide_true]at q
    simp[hi,hj,qo,qj,e3,f3,e,hw,h,q]
   ·simp only[e,decide_false]at q
    simp[hi,hj,qo,qj,e3,f3,e,q]
def qgx(K K':Int)(g o:Gs):Prop:=K=K'/\g.M=o.M/\(g.e0=o.e0/\g.e1=o.e1/\g.e2=o.e2/\g.e3=o.e3/\g.e4=o.e4/\g.e5=o.e5)/\kw g.lo=kw o.lo/\kw g.hi=kw o.hi/\g.L.map kw=o.L.map kw
theorem qm5(K K':Int)(g o:Gs)(k k':Nat)(hs:qgx K K' g o)(h1:g.lo<18446744073709551616/\o.lo<18446744073709551616)(h2:g.hi<18446744073709551616/\o.hi<18446744073709551616)(h3:Ws g.L/\Ws o.L)(hl:g.L.length<=1000000)(hp:Hp):
 run cxX 118 [g.av K k,o.av K' k'] hp=some (.sc (.bool true),hp):=by
 obtain⟨q1,q2,q3,q4,q5,q6⟩:=hs
 have len:g.L.length=o.L.length:=by simpa using congrArg List.length q6
 have l:=Kr (.sc (.int .i64 K)) (.sc (.int .u32 g.M)) (.sc (.int .u32 g.e0)) (.sc (.int .u32 g.e1)) (.sc (.int .u32 g.e2)) (.sc (.int .u32 g.e3)) (.sc (.int .u32 g.e4)) (.sc (.int .u32 g.e5)) (fl g.lo) (fl g.hi)
  (.sc (.int .i64 K')) (.sc (.int .u32 o.M)) (.sc (.int .u32 o.e0)) (.sc (.int .u32 o.e1)) (.sc (.int .u32 o.e2)) (.sc (.int .u32 o.e3)) (.sc (.int .u32 o.e4)) (.sc (.int .u32 o.e5)) (fl o.lo) (fl o.hi) g.L o.L (rk k) (rk k') len hl h3.1 h3.2 hp g.L o.L 0 rfl rfl
 have r1:=fun hp=>vd g.lo o.lo h1.1 h1.2 hp
 have r2:=fun hp=>vd g.hi o.hi h2.1 h2.2 hp
 have a:=zaf (.tmp 20) (.tmp 22) g.e0 g.e1 g.e2 g.e3 g.e4 g.e5 o.e0 o.e1 o.e2 o.e3 o.e4 o.e5
 simp only[eq_true q3,eq_true q4,eq_true q5,eq_true q6,decide_true,Bool.not_true]at a r1 r2 l
 subst q1
 rw[E118]
 simp at l
 rw[len]at l
 rw[q2]at l
 simp[qj,qo,qn,ye,kT,q2,a,r1,r2,len,qbk]
 exact l
open Classical in
noncomputable def wd(p:Int×Int):Nat:=if h:∃w,w<18446744073709551616/\∀hp,run cxX 203 [.sc (.int .u64 p.1),.sc (.int .u8 p.2)] hp=some (fl w,hp)then h.choose else 0
def InI(p:Int×Int):Prop:=(0<=p.1/\p.1<18446744073709551616)/\(0<=p.2/\p.2<256)
theorem qq7{p:Int×Int}(h:InI p):wd p<18446744073709551616/\∀hp,run cxX 203 [.sc (.int .u64 p.1),.sc (.int .u8 p.2)] hp=some (fl (wd p),hp):=by
 have he:=qm8 p.1 p.2 h.1 h.2
 unfold wd
 rw[dif_pos he]
 exact he.choose_spec
theorem qr7(p:Int×Int)(h:InI p)(hp:Hp):run cxX 135 [.agg [.sc (.int .u64 p.1),.sc (.int .u8 p.2)]] hp=some (fl (wd p),hp):=by
 rw[E135]
 simp[qj,(qq7 h).2]
def LP:List (Int×Int)->List AV
 |[]=>[]
 |p::l=>.sc (.int .u64 p.1)::.sc (.int .u8 p.2)::LP l
theorem qfg:∀l,(LP l).length=2*l.length
 |[]=>rfl
 |p::l=>by simp only[LP,zgk,qfg l];omega
theorem zan:∀(i:Nat) (l:List (Int×Int)),(LP l).drop (i*2)=LP (l.drop i)
 |0,l=>by simp
 |i+1,[]=>by simp[LP]
 |i+1,p::l=>by
  have h:(i+1)*2=i*2+1+1:=qc
  rw[h,LP,zis,zis,zan i l,zis]
theorem qt5(k:Nat)(l:List (Int×Int)):zA (S k 2 (LP l))=some l.length:=by
 have h:(if(2:Nat)=1 then(LP l).length else(LP l).length/2)=l.length:=by rw[if_neg qc,qfg];omega
 rcases zi k 2 (LP l)with e|e|⟨e,e'⟩
 ·rw[e];simp only[zA,h]
 ·rw[e];simp only[zA,h]
 ·rw[e]
  have:l.length=0:=by have:=qfg l;rw[e']at this;simp at this;omega
  rw[this];rfl
theorem zb7(k:Nat){l:List (Int×Int)}{i:Nat}{p:Int×Int}(h:l[i]?=some p):jc 2 (S k 2 (LP l)) (.int .i64 (i:Int))=some [.sc (.int .u64 p.1),.sc (.int .u8 p.2)]:=by
 obtain⟨hi,hp⟩:=zgq.mp h
 have hl:(if(2:Nat)=1 then(LP l).length else(LP l).length/2)=l.length:=by rw[if_neg qc,qfg];omega
 have hx:idx l.length (.int .i64 (i:Int))=some i:=by
  have hc:(0:Int)<=(i:Int)/\(i:Int)<(l.length:Int):=⟨qc,qc⟩
  simp only[wV,idx,YP,zgh,hc,and_self,if_true,zgu]
 have hg:qn (LP l) (i*2) 2=some [.sc (.int .u64 p.1),.sc (.int .u8 p.2)]:=by
  unfold qn
  rw[if_pos (by rw[qfg];omega),zan,zhp hi,hp]
  rfl
 rcases zi k 2 (LP l)with e|e|⟨e,e'⟩
 ·rw[e];simp only[wV,jc,if_true,hl,hx,zgh,hg]
 ·rw[e];simp only[wV,jc,if_true,hl,hx,zgh,hg]
 ·exfalso
  have:=qfg l
  rw[e']at this
  simp at this
  omega
def wP(K:Int)(g:Gs):List Nat->Gs
 |[]=>g
 |w::r=>wP K (gmg K g (xh w)) r
theorem qjo(K:Int)(k:Nat)(l:List (Int×Int))(z0 z1 z2 z3 z4 z5 z6 z7 z8 z9 z10:AV)(hK:1<=K)(hl:l.length<=900)(hI:∀p∈l,InI p)(hp:Hp):∀(r:List (Int×Int)) (i:Nat) (F:List Nat) (g:Gs),l.drop i=r->F.length=i->GR K F g->
 B65_3 (S k 2 (LP l)) (.int .i64 l.length) (.int .i64 i) [z0,z1,z2,z3,z4,z5,z6,z7,z8,z9,z10] [.sc (.int .i64 K),.sc (.int .u32 g.M),.sc (.int .u32 g.e0),.sc (.int .u32 g.e1),.sc (.int .u32 g.e2),.sc (.int .u32 g.e3),.sc (.int .u32 g.e4),.sc (.int .u32 g.e5),fl g.lo,fl g.hi,S 2 1 (LF g.L)] hp=
  some ((wP K g (r.map wd)).av K 2,hp):=by
 intro r
 induction r with
 |nil=>
  intro i F g hr hF hg
  have:=qA hr
  have hlt:¬((i:Int)<(l.length:Int)):=qc
  rw[qg9]
  simp[hlt,qn,qm,wP]
 |cons p r ih=>
  intro i F g hr hF hg
  obtain⟨e1,e2,hi,e3⟩:=qu hr
  have hpI:=hI p (zgo e1)
  have hw:=(qq7 hpI).1
  have ix:=zb7 k e1
  have it:=fun hp=>qr7 p hpI hp
  have ad:=fun k hp=>qsc K k (wd p) hK hg qc hw hp
  have h:=ih (i+1) (F++[wd p]) (gmg K g (xh (wd p))) e2 (by simp[hF]) (hg.merge (qls hK hw) qh)
  have hwi:IntKind.i64.wrap ((i:Int)+1)=((i+1:Nat):Int):=qi
  rw[qg9]
  simp at h hwi
  simp[hi,ix,qn,qm,it,ad,hwi,h,wP]
theorem qm6(c:Int)(k:Nat)(l:List (Int×Int))(hc:0<=c/\c<256)(hl:l.length<=900)(hI:∀p∈l,InI p)(hp:Hp):
 run cxX 65 [.sc (.int .u8 c),S k 2 (LP l)] hp=some ((wP (1+c%16) gnew (l.map wd)).av (1+c%16) 2,hp):=by
 have m:∀x y,qt Tryz.prog .rem 5 x y (.int .u8 c) (.int .u8 16)=some (.int .u8 (c%16)):=by
  intro x y;rw[qS _ _ _ _ _ _ _ qc,qQ hc.1]
 have w1:IntKind.i64.wrap (c%16)=c%16:=qk qc qc
 have w2:IntKind.i64.wrap (1+c%16)=1+c%16:=qk qc qc
 have cv:∀n:Int,QD Tryz.prog 5 3 (.int .u8 n)=some (.int .i64 (IntKind.i64.wrap n)):=fun n=>qe
 have nw:=fun hp=>qsb (1+c%16) qc hp
 have lp:=fun z0 z1 z2 z3 z4 z5 z6 z7 z8 z9 z10=>qjo (1+c%16) (rk k) l z0 z1 z2 z3 z4 z5 z6 z7 z8 z9 z10 qc hl hI hp l 0 [] gnew rfl rfl (qy2 _)
 simp at lp
 rw[E65]
 simp[m,cv,w1,w2,nw,qm,qt5]
 exact lp _ _ _ _ _ _ _ _ _ _ _
theorem GR.same{K:Int}{F H:List Nat}{g o:Gs}(hg:GR K F g)(ho:GR K H o)(h:F.Perm H):qgx K K g o:=by
 refine⟨rfl,?_,⟨?_,?_,?_,?_,?_,?_⟩,?_,?_,?_⟩
 ·rw[hg.M,ho.M,h.length_eq]
 ·rw[hg.e0,ho.e0,vk 0 h]
 ·rw[hg.e1,ho.e1,vk 1 h]
 ·rw[hg.e2,ho.e2,vk 2 h]
 ·rw[hg.e3,ho.e3,vk 3 h]
 ·rw[hg.e4,ho.e4,vk 4 h]
 ·rw[hg.e5,ho.e5,vk 5 h]
 ·rw[hg.klo,ho.klo,qn6 h]
 ·rw[hg.khi,ho.khi,qjh h]
 ·rw[hg.keys,ho.keys,qh2 (h.map kw)]
theorem qz0{l:List (Int×Int)}(h:∀p∈l,InI p):Ws (l.map wd):=by
 intro w hw
 obtain⟨p,hp,rfl⟩:=zg6.mp hw
 exact(qq7 (h p hp)).1
abbrev Cv(R C:Int)(x:AV):AV:=.agg [.sc (.int .i64 R),.sc (.int .i64 C),x]
def Zi(R C:Int)(l:List Int):Int:=if R<1\/8<R\/C<1\/256<C then 2 else if(l.length:Int)≠R*C then 6 else 0
theorem qju{R C:Int}(hR:1<=R/\R<=8)(hC:1<=C/\C<=256):0<=R*C/\R*C<=2048:=by
 obtain⟨r,rfl⟩:∃r:Nat,R=r:=⟨R.toNat,qc⟩
 obtain⟨c,rfl⟩:∃c:Nat,C=c:=⟨C.toNat,qc⟩
 have h:r*c<=8*256:=zh0 qc qc
 have e:(r:Int)*(c:Int)=((r*c:Nat):Int):=qf
 rw[e];omega
theorem XJ(R C:Int)(l:List Int)(k:Nat)(hl:l.length<=1000000)(hp:Hp):run cxX 58 [Cv R C (S k 1 (LI .u32 l))] hp=some (.sc (.int .i64 (Zi R C l)),hp):=by
 rw[E58]
 unfold Zi
 have b2:B58_2 hp=some (.sc (.int .i64 2),hp):=by rw[qhg];simp
 by_cases h1:R<1
 ·simp[qj,h1,b2]
 ·by_cases h2:8<R
  ·simp[qj,h1,h2,b2]
  ·by_cases h3:C<1
   ·simp[qj,h1,h2,h3,b2]
   ·by_cases h4:256<C
    ·simp[qj,h1,h2,h3,h4,b2]
    ·have m:=qju (R:=R) (C:=C) qc qc
     have w:IntKind.i64.wrap (R*C)=R*C:=qk qc qc
     by_cases h5:(l.length:Int)=R*C
     ·simp[qj,qo,h1,h2,h3,h4,w,h5,Jr]
     ·simp[qj,qo,h1,h2,h3,h4,w,h5,Jr]
theorem VA(R C:Int)(l:List Int)(b:Nat)(hl:l.length<=1000000)(hp:Hp):run cxX 58 [Cv R C (.ms b 0 0 l.length 1)] hp=some (.sc (.int .i64 (Zi R C l)),hp):=by
 rw[E58]
 unfold Zi
 have b2:B58_2 hp=some (.sc (.int .i64 2),hp):=by rw[qhg];simp
 by_cases h1:R<1
 ·simp[qj,h1,b2]
 ·by_cases h2:8<R
  ·simp[qj,h1,h2,b2]
  ·by_cases h3:C<1
   ·simp[qj,h1,h2,h3,b2]
   ·by_cases h4:256<C
    ·simp[qj,h1,h2,h3,h4,b2]
    ·have m:=qju (R:=R) (C:=C) qc qc
     have w:IntKind.i64.wrap (R*C)=R*C:=qk qc qc
     by_cases h5:(l.length:Int)=R*C
     ·simp[qj,qo,h1,h2,h3,h4,w,h5,Jr]
     ·simp[qj,qo,h1,h2,h3,h4,w,h5,Jr]
theorem qjq(B B1 B' B1':AV)(a b:List Int)(k k':Nat)(hab:a.length=b.length)(hl:a.length<=1000000)(hp:Hp):∀(r s:List Int) (i:Nat),a.drop i=r->b.drop i=s->
 B117_4 (.int .i64 a.length) (.int .i64 i) [B,B1,S k 1 (LI .u32 a)] [B',B1',S k' 1 (LI .u32 b)] hp=some (.sc (.bool (decide (r=s))),hp):=by
 intro r
 induction r with
 |nil=>
  intro s i hr hs
  have h1:=qA hr
  have h2:s=[]:=by rw[<-hs];exact zhi qc
  have hlt:¬((i:Int)<(a.length:Int)):=qc
  rw[qbl]
  simp[hlt,h2]
 |cons x r ih=>
  intro s i hr hs
  obtain⟨e1,e2,hi,e3⟩:=qu hr
  rw[qbl]
  have hw:IntKind.i64.wrap ((i:Int)+1)=((i+1:Nat):Int):=qi
  cases s with
  |nil=>have:=qA hs;omega
  |cons y s=>
   obtain⟨f1,f2,hj,f3⟩:=qu hs
   have h:=ih s (i+1) e2 f2
   simp at h hw
   by_cases e:x=y
   ·simp[hi,hj,qo,qj,e3,f3,e,hw,h]
   ·simp[hi,hj,qo,qj,e3,f3,e]
theorem qna(R C R' C':Int)(a b:List Int)(k k':Nat)(hp:Hp)(ha:a.length<=1000000):
 run cxX 117 [Cv R C (S k 1 (LI .u32 a)),Cv R' C' (S k' 1 (LI .u32 b))] hp=some (.sc (.bool (decide (R=R'/\C=C'/\a=b))),hp):=by
 rw[E117]
 have b2:B117_2 hp=some (.sc (.bool false),hp):=by rw[qqv]
 by_cases h1:R=R'
 ·by_cases h2:C=C'
  ·by_cases h3:a.length=b.length
   ·have h:=qjq (.sc (.int .i64 R)) (.sc (.int .i64 C)) (.sc (.int .i64 R')) (.sc (.int .i64 C')) a b (rk k) (rk k') h3 ha hp a b 0 rfl rfl
    simp at h
    subst h1 h2
    rw[h3]at h
    simp[qj,qo,h3,qqu,h]
   ·have h4:¬(a=b):=fun e=>h3 (by rw[e])
    have h5:¬((a.length:Int)=(b.length:Int)):=qc
    simp[qj,qo,h1,h2,h4,h5,b2]
  ·simp[qj,h1,h2,b2]
 ·simp[qj,h1,b2]
theorem qsl(R C:Int)(hR:1<=R/\R<=8)(hC:1<=C/\C<=256)(hp:Hp):run cxX 131 [.sc (.int .i64 R),.sc (.int .i64 C)] hp=
 some (.tup [Cv R C (.ms hp.next 0 0 (R*C).toNat 1),.sc (.bool true)],hp.new (LI .u32 (List.replicate (R*C).toNat 0))):=by
 rw[E131]
 have h1:¬(R<1):=qc
 have h2:¬(8<R):=qc
 have h3:¬(C<1):=qc
 have h4:¬(256<C):=qc
 have m:=qju hR hC
 have w:IntKind.i64.wrap (R*C)=R*C:=qk qc qc
 have mk:QQ 4 1 (R*C) (R*C)=some ():=Wz qc qc qg qg
 have z:=qko .u32 (R*C).toNat
 rw[zh6 m.1]at z
 simp[h1,h2,h3,h4,qqo,w,mk,z,qn,qm]
theorem Yr(C h r:Int)(hC:1<=C/\C<=256)(hr:0<=r/\r<=8):∃v:Nat,(v:Int)<C/\∀(R x:AV) hp,run cxX 198 [.agg [R,.sc (.int .i64 C),x],.sc (.int .u64 h),.sc (.int .i64 r)] hp=some (.sc (.int .i64 (v:Int)),hp):=by
 obtain⟨z1,s1⟩:∃z:Int,∀t x y,qt Tryz.prog .shr t x y (.int .u64 h) (.int .u64 32)=some (.int .u64 z):=⟨_,fun t x y=>zZ _ _ _ _ _ _ _ _ qc⟩
 have w1:IntKind.i64.wrap (2*r)=2*r:=qk qc qc
 have w2:IntKind.i64.wrap (2*r+1)=2*r+1:=qk qc qc
 have w3:IntKind.u64.wrap (2*r+1)=2*r+1:=qz qc qc
 obtain⟨z2,s2⟩:∃z:Int,∀t x y,qt Tryz.prog .mul t x y (.int .u64 z1) (.int .u64 (2*r+1))=some (.int .u64 z):=⟨_,fun t x y=>KU _ _ _ _ _ _ _⟩
 obtain⟨z3,s3⟩:∃z:Int,∀t x y,qt Tryz.prog .and t x y (.int .u64 h) (.int .u64 4294967295)=some (.int .u64 z):=⟨_,fun t x y=>qO _ _ _ _ _ _ _⟩
 obtain⟨z4,s4⟩:∃z:Int,∀t x y,qt Tryz.prog .add t x y (.int .u64 z2) (.int .u64 z3)=some (.int .u64 z):=⟨_,fun t x y=>jC _ _ _ _ _ _ _⟩
 obtain⟨z5,s5⟩:∃z:Int,∀t x y,qt Tryz.prog .shr t x y (.int .u64 z4) (.int .u64 17)=some (.int .u64 z):=⟨_,fun t x y=>zZ _ _ _ _ _ _ _ _ qc⟩
 obtain⟨z6,b6,s6⟩:∃z:Int,(0<=z/\z<18446744073709551616)/\∀t x y,qt Tryz.prog .xor t x y (.int .u64 z4) (.int .u64 z5)=some (.int .u64 z):=⟨_,by rw[IntKind.wrap_u64];omega,fun t x y=>jp _ _ _ _ _ _ _⟩
 have m1:max C 1=C:=qc
 have w4:IntKind.u64.wrap C=C:=qz qc qc
 have hm:0<=z6%C/\z6%C<C:=⟨Int.emod_nonneg _ qc,zkn _ qc⟩
 have s7:∀t x y,qt Tryz.prog .rem t x y (.int .u64 z6) (.int .u64 C)=some (.int .u64 (z6%C)):=by
  intro t x y;rw[qS _ _ _ _ _ _ _ qc,qQ b6.1]
 have w5:IntKind.i64.wrap (z6%C)=z6%C:=qk qc qc
 refine⟨(z6%C).toNat,qc,fun R x hp=>?_⟩
 rw[zh6 hm.1,E198]
 generalize z6%C=z7 at*
 simp[qj,s1,w1,w2,w3,s2,s3,s4,s5,s6,m1,w4,s7,w5,-KU,-qO,-jC,-jp]
 simp[w1,w2,w3,s2,s3,s4,s5,s6,w4,s7,w5,-qO,-jp]
noncomputable def Zg(C h r:Int):Nat:=if hh:(1<=C/\C<=256)/\0<=r/\r<=8 then(Yr C h r hh.1 hh.2).choose else 0
theorem qzl{C h r:Int}(hC:1<=C/\C<=256)(hr:0<=r/\r<=8):(Zg C h r:Int)<C/\∀(R x:AV) hp,run cxX 198 [.agg [R,.sc (.int .i64 C),x],.sc (.int .u64 h),.sc (.int .i64 r)] hp=some (.sc (.int .i64 (Zg C h r:Int)),hp):=by
 unfold Zg
 rw[dif_pos ⟨hC,hr⟩]
 exact(Yr C h r hC hr).choose_spec
def cmrg:List Int->List Int->List Int
 |[],_=>[]
 |x::a,[]=>x::a
 |x::a,y::b=>jw x y::cmrg a b
@[simp] theorem zc1 : ∀ a, cmrg a [] = a
 |[]=>rfl
 |_::_=>rfl
abbrev Yb(l:List Int):Prop:=∀n∈l,0<=n/\n<4294967296
theorem qs6{a b:Int}(ha:0<=a/\a<4294967296)(hb:0<=b/\b<4294967296):0<=jw a b/\jw a b<4294967296:=by
 unfold jw;split<;>omega
noncomputable def YD(C h n:Int)(l:List Int)(r:Nat):List Int:=l.set (r*C.toNat+Zg C h r) (jw (l.getD (r*C.toNat+Zg C h r) 0) n)
noncomputable def Jf(C h n:Int)(l:List Int)(rs:List Nat):List Int:=rs.foldl (YD C h n) l
noncomputable def wj(R C h n:Int)(l:List Int):List Int:=if Zi R C l=0 then Jf C h n l (List.range' 0 R.toNat)else l
theorem qae(C h n:Int)(l:List Int)(r:Nat):(YD C h n l r).length=l.length:=by simp[YD]
theorem qac(C h n:Int):∀(rs:List Nat) (l:List Int),(Jf C h n l rs).length=l.length
 |[],_=>rfl
 |r::rs,l=>by
  show(Jf C h n (YD C h n l r) rs).length=_
  rw[qac C h n rs,qae]
theorem KM(R C h n:Int)(l:List Int):(wj R C h n l).length=l.length:=by
 unfold wj;split
 ·exact qac _ _ _ _ _
 ·rfl
theorem qfy{l:List Int}(h:Yb l)(i:Nat):0<=l.getD i 0/\l.getD i 0<4294967296:=by
 by_cases hi:i<l.length
 ·have:=h l[i] (zhx hi)
  simpa[hi]using this
 ·simp[hi]
theorem qad{C h n:Int}{l:List Int}{r:Nat}(hl:Yb l)(hn:0<=n/\n<4294967296):Yb (YD C h n l r):=by
 intro x hx
 rcases zi1 hx with hx|rfl
 ·exact hl x hx
 ·exact qs6 (qfy hl _) hn
theorem qab{C h n:Int}(hn:0<=n/\n<4294967296):∀(rs:List Nat) {l:List Int},Yb l->Yb (Jf C h n l rs)
 |[],_,hl=>hl
 |r::rs,l,hl=>qab hn rs (qad hl hn)
theorem KL{R C h n:Int}{l:List Int}(hn:0<=n/\n<4294967296)(hl:Yb l):Yb (wj R C h n l):=by
 unfold wj;split
 ·exact qab hn _ hl
 ·exact hl
theorem qge(R C:Int)(q0 q1 q2:AV)(b:Nat)(d:List Int)(hp:Hp)(hb:hp.rd b 0=some (LI .u32 d)):
 B132_9 [q0,q1,q2] [.sc (.int .i64 R),.sc (.int .i64 C),.ms b 0 0 d.length 1] hp=some (Cv R C (S 0 1 (LI .u32 d)),hp.del b):=by
 have f:=Kz .u32 d hp b hb
 rw[qbd]
 simp[qn,qm,f]
theorem qaa(R C h n:Int)(q0 q1 q2:AV)(x:AV)(b:Nat)(hR:1<=R/\R<=8)(hC:1<=C/\C<=256)(hn:0<=n/\n<4294967296):∀(m i:Nat) (l:List Int) (hp:Hp),R=(i+m:Nat)->(l.length:Int)=R*C->Yb l->hp.rd b 0=some (LI .u32 l)->
 ∃hp',B132_4 (.int .u64 h) (.int .u32 n) (.int .i64 R) (.int .i64 i) [.sc (.int .i64 R),.sc (.int .i64 C),x] [q0,q1,q2] [.sc (.int .i64 R),.sc (.int .i64 C),.ms b 0 0 l.length 1] hp=some (Cv R C (S 0 1 (LI .u32 (Jf C h n l (List.range' i m)))),hp'):=by
 intro m
 induction m with
 |zero=>
  intro i l hp hi hlen hl hb
  have hlt:¬((i:Int)<R):=qc
  refine⟨hp.del b,?_⟩
  rw[qbe]
  simp only[wV,Ji,hlt,decide_false,jr,zgh,cond_false]
  exact qge R C q0 q1 q2 b l hp hb
 |succ m ih=>
  intro i l hp hi hlen hl hb
  have hlt:(i:Int)<R:=qc
  obtain⟨c,rfl⟩:∃c:Nat,C=c:=⟨C.toNat,qc⟩
  obtain⟨pb,pc⟩:=qzl (h:=h) (r:=(i:Int)) hC qc
  have hRc:(R*(c:Int))=(((i+(m+1))*c:Nat):Int):=by rw[hi];simp
  have hj:i*c+Zg c h i<l.length:=by
   have e1:(i+(m+1))*c=i*c+c+m*c:=by rw[zj0,zj0];omega
   have e2:l.length=(i+(m+1))*c:=qc
   have e3:Zg c h i<c:=qc
   omega
  have hl2:l.length<=2048:=by have:=qju hR hC;omega
  have w1:IntKind.i64.wrap ((i:Int)*(c:Int))=((i*c:Nat):Int):=by
   have e:(i:Int)*(c:Int)=((i*c:Nat):Int):=qf
   rw[e,qk qc qc]
  have w2:IntKind.i64.wrap (((i*c:Nat):Int)+(Zg c h i:Int))=((i*c+Zg c h i:Nat):Int):=by rw[qk qc qc];omega
  have w3:IntKind.i64.wrap ((i:Int)+((1:Nat):Int))=((i+1:Nat):Int):=qi
  have ed:YD c h n l i=l.set (i*c+Zg c h i) (jw (l.getD (i*c+Zg c h i) 0) n):=by unfold YD;rw[zgu]
  have ef:Jf c h n l (List.range' i (m+1))=Jf c h n (YD c h n l i) (List.range' (i+1) m):=by rw[List.range'_succ];rfl
  have gs':l[i*c+Zg c h i]?=some (l.getD (i*c+Zg c h i) 0):=by simp[hj]
  have hgd:=qfy hl (i*c+Zg c h i)
  have hu:=qad (C:=c) (h:=h) (n:=n) (r:=i) hl hn
  have hcl:=qae c h n l i
  rw[ed]at hu hcl ef
  rw[ef]
  generalize i*c+Zg c h i=j at*
  generalize l.getD j 0=g at*
  have pl:=fun hp=>yU g n hgd hn hp
  have ix:=zd .i64 hj
  have pt:=QM .u32 l j (jw g n) hj
  obtain⟨hp',hh⟩:=ih (i+1) (l.set j (jw g n)) (hp.put b 0 (LI .u32 (l.set j (jw g n)))) qc (by rw[hcl];exact hlen) hu (qr _ _ _)
  refine⟨hp',?_⟩
  rw[hcl]at hh
  have oa:∀v w,jf [AV.sc v,AV.sc w] []=some ():=fun v w=>by rw[qn0];exact if_pos ⟨qf,qf⟩
  have gn:qn [AV.sc (.int .i64 R),AV.sc (.int .i64 (c:Int)),x] 0 3=some [AV.sc (.int .i64 R),AV.sc (.int .i64 (c:Int)),x]:=rfl
  rw[qbe]
  simp only[wV,Ji,hlt,decide_true,jr,zgh,cond_true,qj,zih,zir,xy,KU,w1,gn,zhc,ziv,qsr,zbp,zeo,pc,qtq,jC,w2,qo,zbq,kb,ix,vM,Zh,kh,hb,zjw,zha,qjk?,gs',zij,oa,pl,pt,zig,w3]
  exact hh
theorem qsm(R C h n:Int)(l:List Int)(k:Nat)(hn:0<=n/\n<4294967296)(hl:l.length<=1000000)(h32:Yb l)(hp:Hp):
 ∃t hp',run cxX 132 [Cv R C (S k 1 (LI .u32 l)),.sc (.int .u64 h),.sc (.int .u32 n)] hp=some (Cv R C (S t 1 (LI .u32 (wj R C h n l))),hp'):=by
 rw[E132]
 have ck:=fun hp=>XJ R C l (rk k) hl hp
 by_cases hc:Zi R C l=0
 ·have hc':=hc
  unfold Zi at hc'
  split at hc'
  ·cases hc'
  ·split at hc'
   ·cases hc'
   ·rename_i h1 h2
    have hlen:(l.length:Int)=R*C:=qc
    have hne:l≠[]:=by
     intro e
     subst e
     obtain⟨r,rfl⟩:∃r:Nat,R=r:=⟨R.toNat,qc⟩
     obtain⟨c,rfl⟩:∃c:Nat,C=c:=⟨C.toNat,qc⟩
     have e:(r:Int)*(c:Int)=((r*c:Nat):Int):=qf
     rw[e]at hlen
     have:0<r*c:=zj1 qc qc
     simp at hlen
     omega
    have n1:=fun k hp=>vP .u32 l k 4 qg hl hne hp
    obtain⟨hp',hh⟩:=qaa R C h n (.sc (.int .i64 0)) (.sc (.int .i64 0)) (S 2 1 []) (S (rk k) 1 (LI .u32 l)) hp.next qc qc hn R.toNat 0 l (hp.new (LI .u32 l)) qc hlen h32 (qB _ _)
    refine⟨0,hp',?_⟩
    have e:wj R C h n l=Jf C h n l (List.range' 0 R.toNat):=by unfold wj;rw[if_pos hc]
    simp at hh
    simp[qj,qo,qn,n1,qm,ck,hc,e,hh]
 ·have e:wj R C h n l=l:=by unfold wj;rw[if_neg hc]
  by_cases hne:l=[]
  ·subst hne
   have n1:=fun k hp=>Vc 4 k hp
   refine⟨0,hp,?_⟩
   have e9:∀(q0 q1 q2:AV),B132_9 [q0,q1,q2] [.sc (.int .i64 R),.sc (.int .i64 C),S 0 1 []] hp=some (Cv R C (S 0 1 []),hp):=by
    intro q0 q1 q2
    rw[qbd]
    simp[qn,qm]
   simp at ck
   simp[qj,qo,qn,n1,qm,ck,hc,e,e9]
  ·have n1:=fun k hp=>vP .u32 l k 4 qg hl hne hp
   have f:=qge R C (.sc (.int .i64 0)) (.sc (.int .i64 0)) (S 2 1 []) hp.next l (hp.new (LI .u32 l)) (qB _ _)
   refine⟨0,(hp.new (LI .u32 l)).del hp.next,?_⟩
   simp[qj,qo,qn,n1,qm,ck,hc,e,f]
theorem qef(R C h n:Int)(l:List Int)(b:Nat)(hn:0<=n/\n<4294967296)(hl:l.length<=1000000)(h32:Yb l)(hc:Zi R C l=0)(hp:Hp)(hb:hp.rd b 0=some (LI .u32 l)):
 ∃t hp',run cxX 132 [Cv R C (.ms b 0 0 l.length 1),.sc (.int .u64 h),.sc (.int .u32 n)] hp=some (Cv R C (S t 1 (LI .u32 (wj R C h n l))),hp'):=by
 rw[E132]
 have ck:=fun hp=>VA R C l b hl hp
 have hc':=hc
 unfold Zi at hc'
 split at hc'
 ·cases hc'
 ·split at hc'
  ·cases hc'
  ·rename_i h1 h2
   have hlen:(l.length:Int)=R*C:=qc
   have hne:l≠[]:=by
    intro e
    subst e
    obtain⟨r,rfl⟩:∃r:Nat,R=r:=⟨R.toNat,qc⟩
    obtain⟨c,rfl⟩:∃c:Nat,C=c:=⟨C.toNat,qc⟩
    have e:(r:Int)*(c:Int)=((r*c:Nat):Int):=qf
    rw[e]at hlen
    have:0<r*c:=zj1 qc qc
    simp at hlen
    omega
   have n1:=YG .u32 l (.ms b 0 0 l.length 1) 4 qg hl hne hp (qdv .u32 l hp b hb)
   obtain⟨hp',hh⟩:=qaa R C h n (.sc (.int .i64 0)) (.sc (.int .i64 0)) (S 2 1 []) (.ms b 0 0 l.length 1) hp.next qc qc hn R.toNat 0 l (hp.new (LI .u32 l)) qc hlen h32 (qB _ _)
   refine⟨0,hp',?_⟩
   have e:wj R C h n l=Jf C h n l (List.range' 0 R.toNat):=by unfold wj;rw[if_pos hc]
   simp at hh
   simp[qj,qo,qn,n1,qm,ck,hc,e,hh]
noncomputable def yz(R C:Int)(a:List Int)(l:List (Int×Int)):List Int:=l.foldl (fun a p=>wj R C p.1 p.2 a) a
theorem WY(R C:Int):∀(l:List (Int×Int)) (a:List Int),(yz R C a l).length=a.length
 |[],_=>rfl
 |p::l,a=>by
  show(yz R C (wj R C p.1 p.2 a) l).length=_
  rw[WY R C l,KM]
theorem WX(R C:Int):∀{l:List (Int×Int)} {a:List Int},Yb a->(∀p∈l,0<=p.2/\p.2<4294967296)->Yb (yz R C a l)
 |[],_,h,_=>h
 |p::l,a,h,hl=>WX R C (l:=l) (KL (hl p qf) h) (fun q hq=>hl q (by simp[hq]))
theorem qvi(R C:Int)(q0 q1 q2:AV)(l:List (Int×Int))(k:Nat)(hl:l.length<=1000000)(h32:∀p∈l,0<=p.2/\p.2<4294967296):∀(r:List (Int×Int)) (i t:Nat) (a:List Int) (hp:Hp),l.drop i=r->a.length<=1000000->Yb a->
 ∃t' hp',B64_3 (S k 2 (LQ .u64 .u32 l)) (.int .i64 l.length) (.int .i64 i) [q0,q1,q2] [.sc (.int .i64 R),.sc (.int .i64 C),S t 1 (LI .u32 a)] hp=some (Cv R C (S t' 1 (LI .u32 (yz R C a r))),hp'):=by
 intro r
 induction r with
 |nil=>
  intro i t a hp hr ha hu
  have:=qA hr
  have hlt:¬((i:Int)<(l.length:Int)):=qc
  refine⟨rk t,hp,?_⟩
  rw[Jq]
  simp[hlt,qn,qm,yz]
 |cons x r ih=>
  intro i t a hp hr ha hu
  obtain⟨e1,e2,hi,e3⟩:=qu hr
  have hx:=h32 x (zgo e1)
  have hw:IntKind.i64.wrap ((i:Int)+1)=((i+1:Nat):Int):=qi
  obtain⟨t1,hp1,ha1⟩:=qsm R C x.1 x.2 a (rk t) hx ha hu hp
  obtain⟨t',hp',h⟩:=ih (i+1) t1 (wj R C x.1 x.2 a) hp1 e2 (by rw[KM];exact ha) (KL hx hu)
  refine⟨t',hp',?_⟩
  have ix:=qui .u64 .u32 k e1
  rw[Jq]
  simp at h hw
  have ef:yz R C a (x::r)=yz R C (wj R C x.1 x.2 a) r:=rfl
  simp[hi,ix,qj,qn,qm,ha1,hw,h,ef]
theorem qxd(a b:Int)(l:List (Int×Int))(k:Nat)(ha:0<=a/\a<256)(hb:0<=b/\b<256)(hl:l.length<=1000000)(h32:∀p∈l,0<=p.2/\p.2<4294967296)(hp:Hp):
 ∃t hp',run cxX 64 [.sc (.int .u8 a),.sc (.int .u8 b),S k 2 (LQ .u64 .u32 l)] hp=some (Cv (1+a%8) (1+b%40) (S t 1 (LI .u32 (yz (1+a%8) (1+b%40) (List.replicate ((1+a%8)*(1+b%40)).toNat 0) l))),hp'):=by
 have h1:∀t x y,qt Tryz.prog .rem t x y (.int .u8 a) (.int .u8 8)=some (.int .u8 (a%8)):=by
  intro t x y;rw[qS _ _ _ _ _ _ _ qc,qQ ha.1]
 have h2:∀t x y,qt Tryz.prog .rem t x y (.int .u8 b) (.int .u8 40)=some (.int .u8 (b%40)):=by
  intro t x y;rw[qS _ _ _ _ _ _ _ qc,qQ hb.1]
 have w1:IntKind.i64.wrap (a%8)=a%8:=qk qc qc
 have w2:IntKind.i64.wrap (1+a%8)=1+a%8:=qk qc qc
 have w3:IntKind.i64.wrap (b%40)=b%40:=qk qc qc
 have w4:IntKind.i64.wrap (1+b%40)=1+b%40:=qk qc qc
 have nw:=fun hp=>qsl (1+a%8) (1+b%40) qc qc hp
 have m:=qju (R:=1+a%8) (C:=1+b%40) qc qc
 obtain⟨R,hR⟩:∃R,R=1+a%8:=⟨_,rfl⟩
 obtain⟨C,hC⟩:∃C,C=1+b%40:=⟨_,rfl⟩
 rw[<-hR]at nw m w2⊢
 rw[<-hC]at nw m w4⊢
 obtain⟨z,hz⟩:∃z,z=List.replicate (R*C).toNat (0:Int):=⟨_,rfl⟩
 have zl:z.length=(R*C).toNat:=by rw[hz];simp
 have zu:Yb z:=fun n hn=>by rw[hz]at hn;have:=zia hn;omega
 have zc:Zi R C z=0:=by unfold Zi;rw[if_neg qc,if_neg (by rw[zl];omega)]
 rw[<-hz]at nw⊢
 rw[<-zl]at nw
 have ln:=zb3 .u64 .u32
 have key:∃t hp',B64_3 (S (rk k) 2 (LQ .u64 .u32 l)) (.int .i64 l.length) (.int .i64 (0:Nat)) [.sc (.int .i64 0),.sc (.int .i64 0),S 2 1 []] [.sc (.int .i64 R),.sc (.int .i64 C),.ms hp.next 0 0 z.length 1] (hp.new (LI .u32 z))=some (Cv R C (S t 1 (LI .u32 (yz R C z l))),hp'):=by
  cases l with
  |nil=>
   have f:=Kz .u32 z (hp.new (LI .u32 z)) hp.next (qB _ _)
   refine⟨0,(hp.new (LI .u32 z)).del hp.next,?_⟩
   rw[Jq]
   simp[qm,qn,f,yz]
  |cons x r=>
   have hx:=h32 x qf
   have ix:=qui (l:=x::r) (i:=0) (p:=x) .u64 .u32 (rk k) rfl
   obtain⟨t1,hp1,ha1⟩:=qef R C x.1 x.2 z hp.next hx (by rw[zl];omega) zu zc (hp.new (LI .u32 z)) (qB _ _)
   obtain⟨t,hp2,h⟩:=qvi R C (.sc (.int .i64 0)) (.sc (.int .i64 0)) (S 2 1 []) (x::r) (rk k) hl h32 r 1 t1 (wj R C x.1 x.2 z) hp1 rfl (by rw[KM,zl];omega) (KL hx zu)
   refine⟨t,hp2,?_⟩
   have hw:IntKind.i64.wrap (((0:Nat):Int)+1)=((1:Nat):Int):=rfl
   have hlt:((0:Nat):Int)<((x::r).length:Int):=qf
   have ef:yz R C z (x::r)=yz R C (wj R C x.1 x.2 z) r:=rfl
   have gn:qn [AV.sc (.int .i64 R),AV.sc (.int .i64 C),.ms hp.next 0 0 z.length 1] 0 3=some [AV.sc (.int .i64 R),AV.sc (.int .i64 C),.ms hp.next 0 0 z.length 1]:=rfl
   generalize(x::r).length=n at*
   generalize LQ .u64 .u32 (x::r)=q at*
   have hn:0<n:=by simpa using hlt
   rw[Jq]
   simp at ix h
   simp[hn,ix,qj,qn,qm,ha1,ef,h]
 obtain⟨t,hp',h⟩:=key
 refine⟨t,hp',?_⟩
 rw[E64]
 simp at h
 simp[h1,h2,w1,w2,w3,w4,<-hR,<-hC,nw,qm,ln,h]
structure GN where
 M:Int
 e0:Int
 e1:Int
 e2:Int
 e3:Int
 e4:Int
 e5:Int
 lo:Nat
 hi:Nat
 L:List Nat
deriving DecidableEq
def Gs.nf(g:Gs):GN:=⟨g.M,g.e0,g.e1,g.e2,g.e3,g.e4,g.e5,kw g.lo,kw g.hi,g.L.map kw⟩
structure Gs.W (g : Gs) : Prop where
 M:qU g.M
 e0:qU g.e0
 e1:qU g.e1
 e2:qU g.e2
 e3:qU g.e3
 e4:qU g.e4
 e5:qU g.e5
 lo:g.lo<18446744073709551616
 hi:g.hi<18446744073709551616
 L:Ws g.L
 len:g.L.length<=100000
theorem qft(K K':Int)(g o:Gs):qgx K K' g o↔K=K'/\g.nf=o.nf:=by
 unfold qgx Gs.nf
 simp only[GN.mk.injEq]
 constructor
 ·rintro⟨h1,h2,⟨h3,h4,h5,h6,h7,h8⟩,h9,h10,h11⟩
  exact⟨h1,h2,h3,h4,h5,h6,h7,h8,h9,h10,h11⟩
 ·rintro⟨h1,h2,h3,h4,h5,h6,h7,h8,h9,h10,h11⟩
  exact⟨h1,h2,⟨h3,h4,h5,h6,h7,h8⟩,h9,h10,h11⟩
theorem qik(K K':Int)(g o:Gs)(k k':Nat)(hg:g.W)(ho:o.W)(hp:Hp):run cxX 118 [g.av K k,o.av K' k'] hp=some (.sc (.bool (decide (K=K'/\g.nf=o.nf))),hp):=by
 by_cases h:qgx K K' g o
 ·rw[qm5 K K' g o k k' h ⟨hg.lo,ho.lo⟩ ⟨hg.hi,ho.hi⟩ ⟨hg.L,ho.L⟩ (by have:=hg.len;omega) hp,decide_eq_true ((qft K K' g o).mp h)]
 ·have hd:decide (K=K'/\g.nf=o.nf)=false:=decide_eq_false (fun h'=>h ((qft K K' g o).mpr h'))
  rw[hd,E118]
  have b2:B118_2 hp=some (.sc (.bool false),hp):=qqt hp
  have r1:=fun hp=>vd g.lo o.lo hg.lo ho.lo hp
  have r2:=fun hp=>vd g.hi o.hi hg.hi ho.hi hp
  have a:=fun x y=>zaf x y g.e0 g.e1 g.e2 g.e3 g.e4 g.e5 o.e0 o.e1 o.e2 o.e3 o.e4 o.e5
  by_cases q1:K=K'
  ·by_cases q2:g.M=o.M
   ·by_cases q3:(g.e0=o.e0/\g.e1=o.e1/\g.e2=o.e2/\g.e3=o.e3/\g.e4=o.e4/\g.e5=o.e5)
    ·simp only[eq_true q3,decide_true,Bool.not_true]at a
     by_cases q4:kw g.lo=kw o.lo
     ·by_cases q5:kw g.hi=kw o.hi
      ·by_cases q6:g.L.length=o.L.length
       ·have l:=Kr (.sc (.int .i64 K)) (.sc (.int .u32 g.M)) (.sc (.int .u32 g.e0)) (.sc (.int .u32 g.e1)) (.sc (.int .u32 g.e2)) (.sc (.int .u32 g.e3)) (.sc (.int .u32 g.e4)) (.sc (.int .u32 g.e5)) (fl g.lo) (fl g.hi)
         (.sc (.int .i64 K')) (.sc (.int .u32 o.M)) (.sc (.int .u32 o.e0)) (.sc (.int .u32 o.e1)) (.sc (.int .u32 o.e2)) (.sc (.int .u32 o.e3)) (.sc (.int .u32 o.e4)) (.sc (.int .u32 o.e5)) (fl o.lo) (fl o.hi) g.L o.L (rk k) (rk k') q6 (by have:=hg.len;omega) hg.L ho.L hp g.L o.L 0 rfl rfl
        have q7:¬(g.L.map kw=o.L.map kw):=fun e=>h ⟨q1,q2,q3,q4,q5,e⟩
        simp only[eq_false q7,decide_false]at l
        subst q1
        simp at l
        rw[q6,q2]at l
        simp[qj,qo,qn,ye,kT,q2,a,r1,r2,q4,q5,q6,qbk]
        exact l
       ·have q6':¬((g.L.length:Int)=(o.L.length:Int)):=qc
        simp[qj,qo,qn,ye,kT,q1,q2,a,r1,r2,q4,q5,q6',b2]
      ·simp[qj,qo,qn,ye,kT,q1,q2,a,r1,r2,q4,q5,b2]
     ·simp[qj,qo,qn,ye,kT,q1,q2,a,r1,q4,b2]
    ·simp only[eq_false q3,decide_false,Bool.not_false]at a
     simp[qj,qo,qn,ye,kT,q1,q2,a,b2]
   ·simp[qj,q1,q2,b2]
  ·simp[qj,q1,b2]
def ZP:List Nat->Int
 |[]=>0
 |[_]=>0
 |x::y::r=>if y<x then 8 else ZP (y::r)
def nanK:Nat:=18444492273895866369
def qlw(g:GN):Int:=if g.lo=nanK\/g.hi=nanK then 4 else 0
def Zb(K:Int)(g:GN):Int:=if K<1\/16<K\/K<(g.L.length:Int)then 2 else if ZP g.L=0 then qlw g else 8
theorem qks:∀{l:List Nat},Up l->ZP l=0
 |[],_=>rfl
 |[_],_=>rfl
 |x::y::r,h=>by
  have h':=zgr.mp h
  have hxy:=h'.1 y qf
  show(if y<x then(8:Int)else ZP (y::r))=0
  rw[if_neg qc]
  exact qks h'.2
theorem qla:∀{l:List Nat},ZP l=0->Up l
 |[],_=>List.Pairwise.nil
 |[_],_=>by simp
 |x::y::r,h=>by
  have h:(if y<x then(8:Int)else ZP (y::r))=0:=h
  split at h
  ·cases h
  ·rename_i hxy
   have ih:=qla h
   have ih':=zgr.mp ih
   refine zgr.mpr ⟨fun n hn=>?_,ih⟩
   rcases zgn.mp hn with rfl|hn
   ·omega
   ·have:=ih'.1 n hn;omega
theorem qct{w:Nat}(h:w<18446744073709551616):jT w↔kw w=nanK:=by
 constructor
 ·intro hn;exact zb5 hn
 ·intro he
  by_cases hn:jT w
  ·exact hn
  ·have:=qoc h hn
   rw[he]at this
   exact absurd this qg
theorem qfz(K:Int)(g:Gs)(k:Nat)(hg:g.W)(hp:Hp):∀(r:List Nat) (p:Option Nat) (i:Nat),g.L.drop i=r->(p=none↔i=0)->(∀q,p=some q->g.L[i-1]?=some q)->
 B59_4 (S k 1 (LF g.L)) (.int .i64 g.L.length) (.int .i64 i) [.sc (.int .i64 K),.sc (.int .u32 g.M),.sc (.int .u32 g.e0),.sc (.int .u32 g.e1),.sc (.int .u32 g.e2),.sc (.int .u32 g.e3),.sc (.int .u32 g.e4),.sc (.int .u32 g.e5),fl g.lo,fl g.hi,S k 1 (LF g.L)] hp=
  some (.sc (.int .i64 (if ZP (p.toList.map kw++r.map kw)=0 then qlw g.nf else 8)),hp):=by
 intro r
 induction r with
 |nil=>
  intro p i hr hp0 hps
  have:=qA hr
  have hlt:¬((i:Int)<(g.L.length:Int)):=qc
  have ho:ZP (p.toList.map kw++([]:List Nat).map kw)=0:=by cases p<;>rfl
  have n1:=qct hg.lo
  have n2:=qct hg.hi
  rw[if_pos ho,qhf]
  unfold qlw Gs.nf
  by_cases h1:jT g.lo
  ·have h1':=n1.mp h1
   simp[hlt,qj,jn,h1,h1',qap]
  ·have h1':¬(kw g.lo=nanK):=fun e=>h1 (n1.mpr e)
   by_cases h2:jT g.hi
   ·have h2':=n2.mp h2
    simp[hlt,qj,jn,h1,h2,h2',qap]
   ·have h2':¬(kw g.hi=nanK):=fun e=>h2 (n2.mpr e)
    simp[hlt,qj,jn,h1,h2,h1',h2',qpe]
 |cons x r ih=>
  intro p i hr hp0 hps
  obtain⟨e1,e2,hi,e3⟩:=qu hr
  have hx:=hg.L x (zgo e1)
  have hln:=hg.len
  have hw:IntKind.i64.wrap ((i:Int)+1)=((i+1:Nat):Int):=qi
  have h:=ih (some x) (i+1) e2 qf (fun q hq=>by simp at hq;subst hq;simpa using e1)
  have g1:(LF g.L)[i]?=some (fl x):=by simp[LF,e1]
  rw[qhf]
  cases p with
  |none=>
   obtain rfl:i=0:=hp0.mp rfl
   simp at g1 h hw
   simp[hi,qj,g1,hw,h,qhe]
  |some q=>
   have hi0:i≠0:=fun e=>by have:=hp0.mpr e;cases this
   have hq:=hps q rfl
   have hq64:=hg.L q (zgo hq)
   have hpos:0<i:=qc
   simp at h hw
   have w1:IntKind.i64.wrap ((i:Int)-1)=((i-1:Nat):Int):=qi
   have g2:(LF g.L)[i-1]?=some (fl q):=by simp[LF,hq]
   have ls:=fun hp=>Zy x q hx hq64 hp
   by_cases hl:kw x<kw q
   ·simp[hi,e3,qj,qo,g1,hpos,w1,g2,ls,hl,qwa,ZP]
   ·simp[hi,e3,qj,qo,g1,hpos,w1,g2,ls,hl,hw,h,qhe,ZP]
theorem qim(K:Int)(g:Gs)(k:Nat)(hg:g.W)(hp:Hp):run cxX 59 [g.av K k] hp=some (.sc (.int .i64 (Zb K g.nf)),hp):=by
 rw[E59]
 have b2:B59_2 hp=some (.sc (.int .i64 2),hp):=by rw[qwc];simp
 have hl:g.nf.L.length=g.L.length:=by simp[Gs.nf]
 unfold Zb
 rw[hl]
 by_cases h1:K<1
 ·simp[qj,h1,b2]
 ·by_cases h2:16<K
  ·simp[qj,h1,h2,b2]
  ·by_cases h3:K<(g.L.length:Int)
   ·simp[qj,qo,h1,h2,h3,b2]
   ·have l:=qfz K g (rk k) hg hp g.L none 0 rfl qf qf
    have e:g.nf.L=g.L.map kw:=rfl
    simp at l
    simp[qj,qo,h1,h2,h3,qwb,l,e]
def qy3(K:Int)(g o:GN):GN:=⟨jw g.M o.M,jw g.e0 o.e0,jw g.e1 o.e1,jw g.e2 o.e2,jw g.e3 o.e3,jw g.e4 o.e4,jw g.e5 o.e5,min g.lo o.lo,max g.hi o.hi,(mk g.L o.L).take K.toNat⟩
theorem vE{a b:Int}(ha:qU a)(hb:qU b):qU (jw a b):=by
 unfold qU at *;unfold jw;split<;>omega
theorem zcl(K:Int)(g o:Gs):(gmg K g o).nf=qy3 K g.nf o.nf:=by
 simp only[Gs.nf,gmg,qy3,qlm,qln,<-qlu _ _ _ rfl,zjn]
theorem ze9{K:Int}{g o:Gs}(hK:K<=100000)(hg:g.W)(ho:o.W):(gmg K g o).W where
 M:=vE hg.M ho.M
 e0:=vE hg.e0 ho.e0
 e1:=vE hg.e1 ho.e1
 e2:=vE hg.e2 ho.e2
 e3:=vE hg.e3 ho.e3
 e4:=vE hg.e4 ho.e4
 e5:=vE hg.e5 ho.e5
 lo:=qlz hg.lo ho.lo
 hi:=ql0 hg.hi ho.hi
 L:=fun w hw=>by
  rcases qtx w _ _ _ rfl (zhl hw)with h|h
  ·exact hg.L w h
  ·exact ho.L w h
 len:=by
  show((gm g.L o.L).take K.toNat).length<=100000
  rw[zhj];omega
theorem Xh{K:Int}{g:GN}:Zb K g=0↔(1<=K/\K<=16)/\(g.L.length:Int)<=K/\Up g.L/\g.lo≠nanK/\g.hi≠nanK:=by
 unfold Zb qlw
 constructor
 ·intro h
  split at h
  ·cases h
  ·split at h
   ·split at h
    ·cases h
    ·rename_i h1 h2 h3
     exact⟨qc,qc,qla h2,fun e=>h3 (.inl e),fun e=>h3 (.inr e)⟩
   ·cases h
 ·rintro⟨h1,h2,h3,h4,h5⟩
  rw[if_neg qc,if_pos (qks h3),if_neg (fun e=>e.elim h4 h5)]
theorem qjn{K:Int}{g o:GN}(hg:Zb K g=0)(ho:Zb K o=0):Zb K (qy3 K g o)=0:=by
 rw[Xh]at*
 obtain⟨h1,h2,h3,h4,h5⟩:=hg
 obtain⟨f1,f2,f3,f4,f5⟩:=ho
 refine⟨h1,?_,?_,?_,?_⟩
 ·simp only[qy3,zhj];omega
 ·exact List.Pairwise.sublist (List.take_sublist _ _) (qtv _ _ h3 f3)
 ·show min g.lo o.lo≠nanK;omega
 ·show max g.hi o.hi≠nanK;omega
def GN.Pos(g:GN):Prop:=qU g.M/\qU g.e0/\qU g.e1/\qU g.e2/\qU g.e3/\qU g.e4/\qU g.e5
theorem Gs.W.pos{g:Gs}(h:g.W):g.nf.Pos:=⟨h.M,h.e0,h.e1,h.e2,h.e3,h.e4,h.e5⟩
theorem in0:qU 0:=⟨qg,qg⟩
theorem qum:gnew.W:=⟨in0,in0,in0,in0,in0,in0,in0,qg,qg,by simp[gnew,Ws],qg⟩
structure SkN where
 kind:Int
 set:List Int
 K:Int
 hs:List Int
 P:Int
 rg:List Int
 B:Int
 H:Int
 bs:List Int
 R:Int
 C:Int
 cs:List Int
 gK:Int
 g:GN
deriving DecidableEq
def gz:Gs:=⟨0,0,0,0,0,0,0,0,0,[]⟩
theorem YM:gz.W:=⟨in0,in0,in0,in0,in0,in0,in0,qg,qg,by simp[gz,Ws],qg⟩
def yh:SkN:=⟨0,[],0,[],0,[],0,0,[],0,0,[],0,gz.nf⟩
def ku(x:SkN)(g:Gs)(a b c d e f:Nat):AV:=.agg [.sc (.int .u8 x.kind),S a 1 (LI .u32 x.set),.sc (.int .i64 x.K),S b 1 (LI .u64 x.hs),.sc (.int .i64 x.P),S c 1 (LI .u8 x.rg),.sc (.int .i64 x.B),.sc (.int .i64 x.H),S d 1 (LI .u32 x.bs),.sc (.int .i64 x.R),.sc (.int .i64 x.C),S e 1 (LI .u32 x.cs),
 .sc (.int .i64 x.gK),.sc (.int .u32 g.M),.sc (.int .u32 g.e0),.sc (.int .u32 g.e1),.sc (.int .u32 g.e2),.sc (.int .u32 g.e3),.sc (.int .u32 g.e4),.sc (.int .u32 g.e5),fl g.lo,fl g.hi,S f 1 (LF g.L)]
def vS(x:SkN)(v:AV):Prop:=∃g a b c d e f,g.W/\g.nf=x.g/\v=ku x g a b c d e f
structure SkN.W (x : SkN) : Prop where
 kind:0<=x.kind/\x.kind<256
 set:Yb x.set
 setL:x.set.length<=100000
 hsL:x.hs.length<=100000
 rg:∀n∈x.rg,0<=n/\n<256
 rgL:x.rg.length<=100000
 bs:Yb x.bs
 bsL:x.bs.length<=100000
 cs:Yb x.cs
 csL:x.cs.length<=100000
theorem qz9:yh.W:=⟨qg,by simp[yh,Yb],qg,qg,by simp[yh],qg,by simp[yh,Yb],qg,by simp[yh,Yb],qg⟩
def YI(x y:SkN):Prop:=x.kind=y.kind/\x.set=y.set/\(x.K=y.K/\x.hs=y.hs)/\(x.P=y.P/\x.rg=y.rg)/\(x.B=y.B/\x.H=y.H/\x.bs=y.bs)/\(x.R=y.R/\x.C=y.C/\x.cs=y.cs)/\x.gK=y.gK/\x.g=y.g
instance (x y : SkN) : Decidable (YI x y) := by unfold YI; infer_instance
theorem qrs(x y:SkN):YI x y↔x=y:=by
 cases x;cases y
 simp only[YI,SkN.mk.injEq]
 constructor
 ·rintro⟨h1,h2,⟨h3,h4⟩,⟨h5,h6⟩,⟨h7,h8,h9⟩,⟨h10,h11,h12⟩,h13,h14⟩
  exact⟨h1,h2,h3,h4,h5,h6,h7,h8,h9,h10,h11,h12,h13,h14⟩
 ·rintro⟨h1,h2,h3,h4,h5,h6,h7,h8,h9,h10,h11,h12,h13,h14⟩
  exact⟨h1,h2,⟨h3,h4⟩,⟨h5,h6⟩,⟨h7,h8,h9⟩,⟨h10,h11,h12⟩,h13,h14⟩
theorem qh7{x y:SkN}{v u:AV}(hv:vS x v)(hu:vS y u)(wx:x.W)(wy:y.W)(hp:Hp):run cxX 49 [v,u] hp=some (.sc (.bool (decide (x=y))),hp):=by
 obtain⟨g,a,b,c,d,e,f,gw,gn,rfl⟩:=hv
 obtain⟨g',a',b',c',d',e',f',gw',gn',rfl⟩:=hu
 have hd:decide (x=y)=decide (YI x y):=decide_eq_decide.mpr (qrs x y).symm
 have r1:=fun k k' hp=>qms x.set y.set k k' hp (by have:=wx.setL;omega)
 have r2:=fun k k' hp=>qm3 x.K y.K x.hs y.hs k k' hp (by have:=wx.hsL;omega) (by have:=wy.hsL;omega)
 have r3:=fun k k' hp=>qm4 x.P y.P x.rg y.rg k k' wx.rg wy.rg hp
 have r4:=fun k k' hp=>qry x.B x.H y.B y.H x.bs y.bs k k' hp (by have:=wx.bsL;omega) (by have:=wy.bsL;omega)
 have r5:=fun k k' hp=>qna x.R x.C y.R y.C x.cs y.cs k k' hp (by have:=wx.csL;omega)
 have r6:=fun k k' hp=>qik x.gK y.gK g g' k k' gw gw' hp
 rw[hd,E49]
 unfold ku
 by_cases h1:x.kind=y.kind
 ·by_cases h2:x.set=y.set
  ·simp only[eq_true h2,decide_true]at r1
   by_cases h3:x.K=y.K/\x.hs=y.hs
   ·simp only[eq_true h3,decide_true]at r2
    by_cases h4:x.P=y.P/\x.rg=y.rg
    ·simp only[eq_true h4,decide_true]at r3
     by_cases h5:x.B=y.B/\x.H=y.H/\x.bs=y.bs
     ·simp only[eq_true h5,decide_true]at r4
      by_cases h6:x.R=y.R/\x.C=y.C/\x.cs=y.cs
      ·simp only[eq_true h6,decide_true]at r5
       have e:decide (YI x y)=decide (x.gK=y.gK/\x.g=y.g):=decide_eq_decide.mpr ⟨fun h=>h.2.2.2.2.2.2,fun h=>⟨h1,h2,h3,h4,h5,h6,h⟩⟩
       rw[gn,gn']at r6
       rw[e]
       simp[qj,qo,qn,eq_true h1,r1,r2,r3,r4,r5,r6]
      ·simp only[eq_false h6,decide_false]at r5
       rw[decide_eq_false (fun h:YI x y=>h6 h.2.2.2.2.2.1)]
       simp[qj,qo,qn,eq_true h1,r1,r2,r3,r4,r5]
     ·simp only[eq_false h5,decide_false]at r4
      rw[decide_eq_false (fun h:YI x y=>h5 h.2.2.2.2.1)]
      simp[qj,qo,qn,eq_true h1,r1,r2,r3,r4]
    ·simp only[eq_false h4,decide_false]at r3
     rw[decide_eq_false (fun h:YI x y=>h4 h.2.2.2.1)]
     simp[qj,qo,qn,eq_true h1,r1,r2,r3]
   ·simp only[eq_false h3,decide_false]at r2
    rw[decide_eq_false (fun h:YI x y=>h3 h.2.2.1)]
    simp[qj,qo,qn,eq_true h1,r1,r2]
  ·simp only[eq_false h2,decide_false]at r1
   rw[decide_eq_false (fun h:YI x y=>h2 h.2.1)]
   simp[qj,qo,eq_true h1,r1]
 ·rw[decide_eq_false (fun h:YI x y=>h1 h.1)]
  simp[qj,h1]
def Qy(x:SkN):SkN:=
 if x.kind=0 then{yh with kind:=x.kind,set:=x.set}
 else if x.kind=1 then{yh with kind:=x.kind,K:=x.K,hs:=x.hs}
 else if x.kind=2 then{yh with kind:=x.kind,P:=x.P,rg:=x.rg}
 else if x.kind=3 then{yh with kind:=x.kind,B:=x.B,H:=x.H,bs:=x.bs}
 else if x.kind=4 then{yh with kind:=x.kind,R:=x.R,C:=x.C,cs:=x.cs}
 else if x.kind=5 then{yh with kind:=x.kind,gK:=x.gK,g:=x.g}
 else{yh with kind:=x.kind}
theorem qya{x:SkN}(h:x.W):(Qy x).W:=by
 have z:=qz9
 unfold Qy
 repeat' split
 ·exact⟨h.kind,h.set,h.setL,z.hsL,z.rg,z.rgL,z.bs,z.bsL,z.cs,z.csL⟩
 ·exact⟨h.kind,z.set,z.setL,h.hsL,z.rg,z.rgL,z.bs,z.bsL,z.cs,z.csL⟩
 ·exact⟨h.kind,z.set,z.setL,z.hsL,h.rg,h.rgL,z.bs,z.bsL,z.cs,z.csL⟩
 ·exact⟨h.kind,z.set,z.setL,z.hsL,z.rg,z.rgL,h.bs,h.bsL,z.cs,z.csL⟩
 ·exact⟨h.kind,z.set,z.setL,z.hsL,z.rg,z.rgL,z.bs,z.bsL,h.cs,h.csL⟩
 ·exact⟨h.kind,z.set,z.setL,z.hsL,z.rg,z.rgL,z.bs,z.bsL,z.cs,z.csL⟩
 ·exact⟨h.kind,z.set,z.setL,z.hsL,z.rg,z.rgL,z.bs,z.bsL,z.cs,z.csL⟩
theorem qh8{x:SkN}{v:AV}(hv:vS x v)(hp:Hp):∃r,vS (Qy x) r/\run cxX 53 [v] hp=some (r,hp):=by
 obtain⟨g,a,b,c,d,e,f,gw,gn,rfl⟩:=hv
 rw[E53]
 unfold Qy
 by_cases h0:x.kind=0
 ·rw[if_pos h0]
  refine⟨ku {yh with kind:=x.kind,set:=x.set} gz (rk a) 2 2 2 2 2,⟨gz,_,_,_,_,_,_,YM,rfl,rfl⟩,?_⟩
  simp[ku,yh,gz,LF,qj,qo,qn,qm,h0,yM]
 ·rw[if_neg h0]
  by_cases h1:x.kind=1
  ·rw[if_pos h1]
   refine⟨ku {yh with kind:=x.kind,K:=x.K,hs:=x.hs} gz 2 (rk b) 2 2 2 2,⟨gz,_,_,_,_,_,_,YM,rfl,rfl⟩,?_⟩
   simp[ku,yh,gz,LF,qj,qo,qn,qm,h1,yM]
  ·rw[if_neg h1]
   by_cases h2:x.kind=2
   ·rw[if_pos h2]
    refine⟨ku {yh with kind:=x.kind,P:=x.P,rg:=x.rg} gz 2 2 (rk c) 2 2 2,⟨gz,_,_,_,_,_,_,YM,rfl,rfl⟩,?_⟩
    simp[ku,yh,gz,LF,qj,qo,qn,qm,h2,yM]
   ·rw[if_neg h2]
    by_cases h3:x.kind=3
    ·rw[if_pos h3]
     refine⟨ku {yh with kind:=x.kind,B:=x.B,H:=x.H,bs:=x.bs} gz 2 2 2 (rk d) 2 2,⟨gz,_,_,_,_,_,_,YM,rfl,rfl⟩,?_⟩
     simp[ku,yh,gz,LF,qj,qo,qn,qm,h3,yM]
    ·rw[if_neg h3]
     by_cases h4:x.kind=4
     ·rw[if_pos h4]
      refine⟨ku {yh with kind:=x.kind,R:=x.R,C:=x.C,cs:=x.cs} gz 2 2 2 2 (rk e) 2,⟨gz,_,_,_,_,_,_,YM,rfl,rfl⟩,?_⟩
      simp[ku,yh,gz,LF,qj,qo,qn,qm,h4,yM]
     ·rw[if_neg h4]
      by_cases h5:x.kind=5
      ·rw[if_pos h5]
       refine⟨ku {yh with kind:=x.kind,gK:=x.gK,g:=x.g} g 2 2 2 2 2 (rk f),⟨g,_,_,_,_,_,_,gw,gn,rfl⟩,?_⟩
       simp[ku,yh,gz,LF,qj,qo,qn,qm,h5,yM]
      ·rw[if_neg h5]
       refine⟨ku {yh with kind:=x.kind} gz 2 2 2 2 2 2,⟨gz,_,_,_,_,_,_,YM,rfl,rfl⟩,?_⟩
       simp[ku,yh,gz,LF,qj,qo,qn,qm,h0,h1,h2,h3,h4,h5,yM]
def KI(x:SkN):Int:=
 if 6<=x.kind then 5 else if x≠Qy x then 4
 else if x.kind=0 then qmp x.set else if x.kind=1 then qoe x.K x.hs else if x.kind=2 then qoi x.P x.rg else if x.kind=3 then KX x.B x.H x.bs else if x.kind=4 then Zi x.R x.C x.cs else Zb x.gK x.g
theorem yc{x:SkN}{g:Gs}(gw:g.W)(gn:g.nf=x.g)(a b c d e f:Nat):vS x (ku x g a b c d e f):=⟨g,a,b,c,d,e,f,gw,gn,rfl⟩
theorem vS.vl{x:SkN}{v:AV}(h:vS x v):vlF v=true/\vlV v=true:=by
 obtain⟨g,a,b,c,d,e,f,gw,gn,rfl⟩:=h
 unfold ku
 constructor<;>simp
theorem vS.ro{x:SkN}{v:AV}(h:vS x v):vS x (ro v):=by
 obtain⟨g,a,b,c,d,e,f,gw,gn,rfl⟩:=h
 refine⟨g,rk a,rk b,rk c,rk d,rk e,rk f,gw,gn,?_⟩
 simp[ku]
theorem Yq{x:SkN}{v:AV}(hv:vS x v)(w:x.W)(hp:Hp):run cxX 28 [v] hp=some (.sc (.int .i64 (KI x)),hp):=by
 obtain⟨g,a,b,c,d,e,f,gw,gn,rfl⟩:=hv
 obtain⟨o,ho,hr⟩:=qh8 (yc gw gn (rk a) (rk b) (rk c) (rk d) (rk e) (rk f)) hp0
 have sm:=qh7 (yc gw gn (rk a) (rk b) (rk c) (rk d) (rk e) (rk f)) ho.ro w (qya w) hp0
 have vo:=ho.vl
 have vo':=ho.ro.vl
 have hnt:yr o=some ():=by
  obtain⟨g,a,b,c,d,e,f,gw,gn,rfl⟩:=ho
  rfl
 have hrr:AI.ro (AI.ro o)=AI.ro o:=by
  obtain⟨g,a,b,c,d,e,f,gw,gn,rfl⟩:=ho
  simp[ku]
 have r1:=fun k hp=>qia x.set k hp
 have r2:=fun k hp=>qih x.K x.hs k (by have:=w.hsL;omega) hp
 have r3:=fun k hp=>qij x.P x.rg k (by have:=w.rgL;omega) w.rg hp
 have r4:=fun k hp=>Wk x.B x.H x.bs k (by have:=w.bsL;omega) w.bs hp
 have r5:=fun k hp=>XJ x.R x.C x.cs k (by have:=w.csL;omega) hp
 have r6:=fun k hp=>qim x.gK g k gw hp
 rw[gn]at r6
 rw[E28]
 unfold KI
 unfold ku at hr sm⊢
 by_cases h6:6<=x.kind
 ·simp[qj,h6]
 ·rw[if_neg h6]
  by_cases ho':x=Qy x
  ·rw[if_neg (fun h=>h ho')]
   simp only[eq_true ho',decide_true]at sm
   by_cases h0:x.kind=0
   ·simp only[h0]at hr sm
    simp[qj,qo,qn,h6,hr,vo,vo',hnt,sm,h0,r1]
   ·by_cases h1:x.kind=1
    ·simp only[h1]at hr sm
     simp[qj,qo,qn,h6,hr,vo,vo',hnt,sm,h1,r2]
    ·by_cases h2:x.kind=2
     ·simp only[h2]at hr sm
      simp[qj,qo,qn,h6,hr,vo,vo',hnt,sm,h2,r3]
     ·by_cases h3:x.kind=3
      ·simp only[h3]at hr sm
       simp[qj,qo,qn,h6,hr,vo,vo',hnt,sm,h3,r4]
      ·by_cases h4:x.kind=4
       ·simp only[h4]at hr sm
        simp[qj,qo,qn,h6,hr,vo,vo',hnt,sm,h4,r5]
       ·simp[qj,qo,qn,h6,hr,vo,vo',hnt,sm,h0,h1,h2,h3,h4,r6]
  ·rw[if_pos ho']
   simp only[eq_false ho',decide_false]at sm
   simp[qj,qo,qn,h6,hr,vo,vo',hnt,sm]
theorem JW{B:Int}:∀(l:List Int) (p:Option Int),JY B p l=0->(match p with|none=>jM l|some q=>jM (q::l))/\∀n∈l,n<B
 |[],none,_=>⟨List.Pairwise.nil,qf⟩
 |[],some q,_=>⟨qf,qf⟩
 |x::l,p,h=>by
  unfold JY at h
  split at h
  ·cases h
  ·rename_i h1
   split at h
   ·have ih:=JW l (some x) h
    refine⟨ih.1,fun n hn=>?_⟩
    rcases zgn.mp hn with rfl|hn
    ·omega
    ·exact ih.2 n hn
   ·split at h
    ·cases h
    ·rename_i q h2
     have ih:=JW l (some x) h
     refine⟨?_,fun n hn=>?_⟩
     ·have hr:jM (x::l):=ih.1
      refine zgr.mpr ⟨fun n hn=>?_,hr⟩
      rcases zgn.mp hn with rfl|hn
      ·omega
      ·have:=(zgr.mp hr).1 n hn;omega
     ·rcases zgn.mp hn with rfl|hn
      ·omega
      ·exact ih.2 n hn
theorem qfu{B H:Int}{l:List Int}(h:KX B H l=0)(hl:Yb l):(1<=B/\B<=4096)/\(1<=H/\H<=8)/\xa B l:=by
 unfold KX at h
 split at h
 ·cases h
 ·have c:=JW l none h
  exact⟨qc,qc,c.1,fun n hn=>⟨(hl n hn).1,c.2 n hn⟩⟩
theorem qb6{l:List Int}:qmp l=0↔l.length<=4096/\jM l:=by
 unfold qmp
 constructor
 ·intro h
  split at h
  ·cases h
  ·exact⟨qc,Wm h⟩
 ·rintro⟨h1,h2⟩
  rw[if_neg qc];exact Ww h2
theorem Wx:∀{l:List Int},jM l->QP l=0
 |[],_=>rfl
 |[_],_=>rfl
 |x::y::r,h=>by
  have h':=zgr.mp h
  have hxy:=h'.1 y qf
  show(if y<=x then 8 else QP (y::r))=0
  rw[if_neg qc]
  exact Wx h'.2
theorem Wn:∀{l:List Int},QP l=0->jM l
 |[],_=>List.Pairwise.nil
 |[_],_=>by simp
 |x::y::r,h=>by
  have h:(if y<=x then 8 else QP (y::r))=0:=h
  split at h
  ·cases h
  ·rename_i hxy
   have ih:=Wn h
   have ih':=zgr.mp ih
   refine zgr.mpr ⟨fun n hn=>?_,ih⟩
   rcases zgn.mp hn with rfl|hn
   ·omega
   ·have:=ih'.1 n hn;omega
theorem Xe{K:Int}{l:List Int}:qoe K l=0↔(1<=K/\K<=1024)/\(l.length:Int)<=K/\jM l:=by
 unfold qoe
 constructor
 ·intro h
  split at h
  ·cases h
  ·split at h
   ·cases h
   ·exact⟨qc,qc,Wn h⟩
 ·rintro⟨h1,h2,h3⟩
  rw[if_neg qc,if_neg qc];exact Wx h3
theorem qlr{P:Int}{l:List Int}:qoi P l=0↔(4<=P/\P<=8)/\l.length=jO P/\∀n∈l,n<=65-P:=by
 unfold qoi Yy
 constructor
 ·intro h
  split at h
  ·cases h
  ·split at h
   ·cases h
   ·split at h
    ·cases h
    ·rename_i h1 h2 h3
     exact⟨qc,by simpa using h2,fun n hn=>by
      by_cases hlt:65-P<n
      ·exact absurd ⟨n,hn,hlt⟩ h3
      ·omega⟩
 ·rintro⟨h1,h2,h3⟩
  rw[if_neg qc,if_neg (by simpa using h2),if_neg]
  rintro⟨n,hn,hlt⟩
  have:=h3 n hn
  omega
theorem qma{R C:Int}{l:List Int}:Zi R C l=0↔(1<=R/\R<=8)/\(1<=C/\C<=256)/\(l.length:Int)=R*C:=by
 unfold Zi
 constructor
 ·intro h
  split at h
  ·cases h
  ·split at h
   ·cases h
   ·rename_i h1 h2
    exact⟨qc,qc,by simpa using h2⟩
 ·rintro⟨h1,h2,h3⟩
  rw[if_neg qc,if_neg (by simpa using h3)]
theorem qZ{x:SkN}:KI x=0↔x.kind<6/\x=Qy x/\(if x.kind=0 then qmp x.set else if x.kind=1 then qoe x.K x.hs else if x.kind=2 then qoi x.P x.rg else if x.kind=3 then KX x.B x.H x.bs else if x.kind=4 then Zi x.R x.C x.cs else Zb x.gK x.g)=0:=by
 unfold KI
 constructor
 ·intro h
  split at h
  ·cases h
  ·split at h
   ·cases h
   ·rename_i h1 h2
    exact⟨qc,by simpa using h2,h⟩
 ·rintro⟨h1,h2,h3⟩
  rw[if_neg qc,if_neg (by simpa using h2)];exact h3
structure SkN.W2 (x : SkN) : Prop extends x.W where
 set2:x.set.length<=50000
 hs2:x.hs.length<=50000
 bs2:x.bs.length<=50000
 gK2:x.kind=5->x.gK<=100000
def skL(x:SkN)(g:Gs)(a b c d e f:Nat):List AV:=[.sc (.int .u8 x.kind),S a 1 (LI .u32 x.set),.sc (.int .i64 x.K),S b 1 (LI .u64 x.hs),.sc (.int .i64 x.P),S c 1 (LI .u8 x.rg),.sc (.int .i64 x.B),.sc (.int .i64 x.H),S d 1 (LI .u32 x.bs),.sc (.int .i64 x.R),.sc (.int .i64 x.C),S e 1 (LI .u32 x.cs),
 .sc (.int .i64 x.gK),.sc (.int .u32 g.M),.sc (.int .u32 g.e0),.sc (.int .u32 g.e1),.sc (.int .u32 g.e2),.sc (.int .u32 g.e3),.sc (.int .u32 g.e4),.sc (.int .u32 g.e5),fl g.lo,fl g.hi,S f 1 (LF g.L)]
def Zu:List AV:=[.sc (.int .u8 0),.sc (.slice none 0 0),.sc (.int .i64 0),.sc (.slice none 0 0),.sc (.int .i64 0),.sc (.slice none 0 0),.sc (.int .i64 0),.sc (.int .i64 0),.sc (.slice none 0 0),.sc (.int .i64 0),.sc (.int .i64 0),.sc (.slice none 0 0),.sc (.int .i64 0),.sc (.int .u32 0),.sc (.int .u32 0),.sc (.int .u32 0),.sc (.int .u32 0),.sc (.int .u32 0),.sc (.int .u32 0),.sc (.int .u32 0),fl 0,fl 0,.sc (.slice none 0 0)]
theorem qyz{P:Int}{l:List Int}{h:Int}(hP:4<=P/\P<=8)(hl:∀n∈l,0<=n/\n<256):∀n∈vI P l h,0<=n/\n<256:=by
 unfold vI
 split
 ·rename_i hi
  intro n hn
  rcases zi1 hn with hn|rfl
  ·exact hl n hn
  ·have h1:=qcz (h:=h) hP
   have h2:=hl l[jV P h] (zhx hi)
   have e:l.getD (jV P h) 0=l[jV P h]:=by simp[hi]
   rw[e];omega
 ·exact hl
structure Sm where
 kind:Int
 A:Int
 B:Int
 wide:Int
 few:Bool
 hs:List Int
 fl:List (Int×Int)
structure Sm.Ok (s : Sm) : Prop where
 kind:0<=s.kind/\s.kind<256
 A:0<=s.A/\s.A<256
 B:0<=s.B/\s.B<256
 wide:0<=s.wide/\s.wide<65536
 hs:∀n∈s.hs,0<=n/\n<18446744073709551616
 fl:∀p∈s.fl,InI p
abbrev smA(s:Sm)(k k':Nat):AV:=.agg [.sc (.int .u8 s.kind),.sc (.int .u8 s.A),.sc (.int .u8 s.B),.sc (.int .u16 s.wide),.sc (.bool s.few),S k 1 (LI .u64 s.hs),S k' 2 (LP s.fl)]
def row(n:Int)(m:Nat):List Int:=(List.range m).map fun(k:Nat)=>n+(k:Int)
def xf(few:Bool)(h:Int):List Int:=h%4294967296::(if few then row (h%9000) (h%40).toNat else [])
def yF(few:Bool)(hs:List Int):List Int:=hs.flatMap (xf few)
def smc:Nat->List Int->List (Int×Int)
 |_,[]=>[]
 |i,h::r=>(h,if i%5=4 then h/4294967296 else h%9)::smc (i+1) r
noncomputable def zQ(s:Sm):SkN:=
 if s.kind%6=0 then{yh with kind:=0,set:=Jx [] (yF s.few s.hs)}
 else if s.kind%6=1 then{yh with kind:=1,K:=1+s.A%20,hs:=wL (1+s.A%20).toNat [] (s.hs.map (cut s.few))}
 else if s.kind%6=2 then{yh with kind:=2,P:=4+s.A%5,rg:=hfold (4+s.A%5) (List.replicate (jO (4+s.A%5)) 0) s.hs}
 else if s.kind%6=3 then{yh with kind:=3,B:=1+s.wide%300,H:=1+s.A%8,bs:=blm (1+s.wide%300) (1+s.A%8) [] s.hs}
 else if s.kind%6=4 then{yh with kind:=4,R:=1+s.A%8,C:=1+s.B%40,cs:=yz (1+s.A%8) (1+s.B%40) (List.replicate ((1+s.A%8)*(1+s.B%40)).toNat 0) (smc 0 s.hs)}
 else{yh with kind:=5,gK:=1+s.A%16,g:=(wP (1+s.A%16) gnew (s.fl.map wd)).nf}
theorem qm1(s:Sm)(k k':Nat)(hp:Hp):run cxX 29 [smA s k k'] hp=some (.sc (.bool (decide (s.hs.length<=40/\s.fl.length<=40))),hp):=by
 rw[E29]
 by_cases h:s.hs.length<=40
 ·have h':(s.hs.length:Int)<=40:=qc
  have e:decide ((s.fl.length:Int)<=40)=decide (s.fl.length<=40):=decide_eq_decide.mpr qc
  simp[qo,h,h',qt5,e]
 ·have h':¬((s.hs.length:Int)<=40):=qc
  simp[qo,h,h']
theorem zbn{n:Int}{m:Nat}(hn:0<=n/\n<9000)(hm:m<=40):Yb (row n m):=by
 intro x hx
 simp only[row,zg6,zjv]at hx
 obtain⟨k,hk,rfl⟩:=hx
 omega
theorem qml{few:Bool}{h:Int}(hh:0<=h):Yb (xf few h):=by
 intro x hx
 rcases zgn.mp hx with rfl|hx
 ·omega
 ·cases few with
  |false=>simp at hx
  |true=>exact zbn qc qc x hx
theorem qrp{few:Bool}{hs:List Int}(h:∀n∈hs,0<=n/\n<18446744073709551616):Yb (yF few hs):=by
 intro x hx
 obtain⟨y,hy,hx⟩:=List.mem_flatMap.mp hx
 exact qml (h y hy).1 x hx
theorem Xz(few:Bool){h:Int}(hh:0<=h):(xf few h).length<=40:=by
 unfold xf
 cases few with
 |false=>simp
 |true=>
  simp only[if_true,zgk,row,zhv,List.length_range]
  omega
theorem Jy(few:Bool):∀{hs:List Int},(∀n∈hs,0<=n/\n<18446744073709551616)->(yF few hs).length<=40*hs.length
 |[],_=>by simp[yF]
 |x::hs,h=>by
  have ih:=Jy few (hs:=hs) (fun n hn=>h n (by simp[hn]))
  have l1:=Xz few (h x qf).1
  show((x::hs).flatMap (xf few)).length<=_
  rw[List.flatMap_cons,zgi]
  simp only[zgk]
  have:(List.flatMap (xf few) hs).length<=40*hs.length:=ih
  omega
section
variable (b1 b2 b3:List AV)(s:Sm)(k k':Nat)(hp:Hp)
theorem zbe(h:Int)(x27:AV)(v28 v29:Value)(hh:0<=h/\h<18446744073709551616)(m:Nat)(hm:m<=40):∀(j:Nat) (l:List Int) (i:Nat),i+j=m->l.length+j<=1000000->
 B30_12 (S 2 1 (LI .u32 l)) (.int .u64 h) x27 v28 v29 (.int .u32 m) (.int .u32 i) b1 b2 b3 hp=B30_16 (S 2 1 (LI .u32 (l++(List.range' i j).map fun(k:Nat)=>h%9000+(k:Int)))) x27 v28 v29 b1 b2 b3 hp:=by
 intro j
 induction j with
 |zero=>
  intro l i hi hl
  have hlt:¬((i:Int)<(m:Int)):=qc
  rw[qas]
  simp[hlt]
 |succ j ih=>
  intro l i hi hl
  have hlt:i<m:=qc
  have r:∀t x y,qt Tryz.prog .rem t x y (.int .u64 h) (.int .u64 9000)=some (.int .u64 (h%9000)):=by
   intro t x y;rw[qS _ _ _ _ _ _ _ qc,qQ hh.1]
  have w1:IntKind.u32.wrap (h%9000)=h%9000:=qV qc qc
  have w2:IntKind.u32.wrap (h%9000+(i:Int))=h%9000+(i:Int):=qV qc qc
  have w3:IntKind.u32.wrap ((i:Int)+1)=((i+1:Nat):Int):=by rw[qV]<;>omega
  have ap:=qdf .u32 l 2 (.inr rfl) 4 qg (h%9000+(i:Int)) qc
  have g:=ih (l++[h%9000+(i:Int)]) (i+1) qc qh
  rw[qas,List.range'_succ]
  simp at g w3
  simp[hlt,r,w1,w2,ap,w3,g]
theorem zbd(hs:∀n∈s.hs,0<=n/\n<18446744073709551616)(hl:s.hs.length<=40):∀(r:List Int) (i:Nat) (l:List Int),s.hs.drop i=r->l.length<=40*i->i<=s.hs.length->
 ∃t,∀b3',qm b3 1 [S t 1 (LI .u32 (Jx [] (l++yF s.few r)))]=some b3'->B30_7 (S 2 1 (LI .u32 l)) (S k 1 (LI .u64 s.hs)) (.int .i64 s.hs.length) (.int .i64 i) [.sc (.int .u8 s.kind),.sc (.int .u8 s.A),.sc (.int .u8 s.B),.sc (.int .u16 s.wide),.sc (.bool s.few),S k 1 (LI .u64 s.hs),S k' 2 (LP s.fl)] b2 b3 hp=
  B30_35 b2 b3' hp:=by
 intro r
 induction r with
 |nil=>
  intro i l hr hll hil
  have:=qA hr
  have hlt:¬((i:Int)<(s.hs.length:Int)):=qc
  obtain⟨t,o⟩:=qr3 l 3 qc hp0
  refine⟨rk t,fun b3' hb=>?_⟩
  rw[qho]
  simp[yF]at hb
  simp[hlt,o,hb]
 |cons x r ih=>
  intro i l hr hll hil
  obtain⟨e1,e2,hi,e3⟩:=qu hr
  have hx:=hs x (zgo e1)
  have hw:IntKind.i64.wrap ((i:Int)+1)=((i+1:Nat):Int):=qi
  have w1:IntKind.u32.wrap x=x%4294967296:=by rw[IntKind.wrap_u32]
  have ap:=qdf .u32 l 2 (.inr rfl) 4 qg (x%4294967296) qc
  have l1:=Xz s.few hx.1
  obtain⟨t,g⟩:=ih (i+1) (l++xf s.few x) e2 (by rw[zgi];omega) qc
  refine⟨t,fun b3' hb=>?_⟩
  have es:yF s.few (x::r)=xf s.few x++yF s.few r:=rfl
  rw[es,<-List.append_assoc]at hb
  have g:=g b3' hb
  have g16:B30_16 (S 2 1 (LI .u32 (l++xf s.few x))) (S k 1 (LI .u64 s.hs)) (.int .i64 s.hs.length) (.int .i64 i) [.sc (.int .u8 s.kind),.sc (.int .u8 s.A),.sc (.int .u8 s.B),.sc (.int .u16 s.wide),.sc (.bool s.few),S k 1 (LI .u64 s.hs),S k' 2 (LP s.fl)] b2 b3 hp=B30_35 b2 b3' hp:=by
   rw[qpl]
   simp at hw g
   simp[hw,g]
  rw[qho]
  cases hf:s.few with
  |false=>
   rw[hf]at g16
   simp[xf]at g16
   simp[hi,e3,qj,w1,ap,g16]
  |true=>
   rw[hf]at g16
   have r40:∀t a b,qt Tryz.prog .rem t a b (.int .u64 x) (.int .u64 40)=some (.int .u64 (x%40)):=by
    intro t a b;rw[qS _ _ _ _ _ _ _ qc,qQ hx.1]
   have w2:IntKind.u32.wrap (x%40)=x%40:=qV qc qc
   have rw1:=zbe [.sc (.int .u8 s.kind),.sc (.int .u8 s.A),.sc (.int .u8 s.B),.sc (.int .u16 s.wide),.sc (.bool true),S k 1 (LI .u64 s.hs),S k' 2 (LP s.fl)] b2 b3 hp x (S k 1 (LI .u64 s.hs)) (.int .i64 s.hs.length) (.int .i64 i) hx (x%40).toNat qc (x%40).toNat (l++[x%4294967296]) 0 qc qh
   have e40:(((x%40).toNat:Nat):Int)=x%40:=qc
   rw[e40]at rw1
   have er:(l++[x%4294967296])++(List.range' 0 (x%40).toNat).map (fun(k:Nat)=>x%9000+(k:Int))=l++xf true x:=by
    simp[xf,row,List.range_eq_range']
   rw[er,g16]at rw1
   simp at rw1
   simp[hi,e3,qj,w1,ap,r40,w2,rw1]
theorem zbg(hs:∀n∈s.hs,0<=n/\n<18446744073709551616)(hA:0<=s.A/\s.A<256)(hB:0<=s.B/\s.B<256)(hl:s.hs.length<=40):∀(r:List Int) (i:Nat) (l:List (Int×Int)),s.hs.drop i=r->l.length<=i->i<=s.hs.length->(∀p∈l,0<=p.2/\p.2<4294967296)->
 ∃t,∀b3',qm b3 9 [.sc (.int .i64 (1+s.A%8)),.sc (.int .i64 (1+s.B%40)),S t 1 (LI .u32 (yz (1+s.A%8) (1+s.B%40) (List.replicate ((1+s.A%8)*(1+s.B%40)).toNat 0) (l++smc i r)))]=some b3'->
  B30_27 (S 2 2 (LQ .u64 .u32 l)) (S k 1 (LI .u64 s.hs)) (.int .i64 s.hs.length) (.int .i64 i) [.sc (.int .u8 s.kind),.sc (.int .u8 s.A),.sc (.int .u8 s.B),.sc (.int .u16 s.wide),.sc (.bool s.few),S k 1 (LI .u64 s.hs),S k' 2 (LP s.fl)] b2 b3 hp=B30_35 b2 b3' hp:=by
 intro r
 induction r with
 |nil=>
  intro i l hr hll hil hp2
  have:=qA hr
  have hlt:¬((i:Int)<(s.hs.length:Int)):=qc
  obtain⟨t,hpc,o⟩:=qxd s.A s.B l 3 hA hB qc hp2 hp0
  refine⟨t,fun b3' hb=>?_⟩
  rw[Yd]
  simp[smc]at hb
  simp[hlt,qj,o,hb]
 |cons x r ih=>
  intro i l hr hll hil hp2
  obtain⟨e1,e2,hi,e3⟩:=qu hr
  have hx:=hs x (zgo e1)
  have hw:IntKind.i64.wrap ((i:Int)+1)=((i+1:Nat):Int):=qi
  have r9:∀t a b,qt Tryz.prog .rem t a b (.int .u64 x) (.int .u64 9)=some (.int .u64 (x%9)):=by
   intro t a b;rw[qS _ _ _ _ _ _ _ qc,qQ hx.1]
  have r5:∀t a b,qt Tryz.prog .rem t a b (.int .i64 (i:Int)) (.int .i64 5)=some (.int .i64 ((i:Int)%5)):=by
   intro t a b;rw[qS _ _ _ _ _ _ _ qc,qQ qc]
  have w9:IntKind.u32.wrap (x%9)=x%9:=qV qc qc
  have s32:∀t a b,qt Tryz.prog .shr t a b (.int .u64 x) (.int .u64 32)=some (.int .u64 (x/4294967296)):=by
   intro t a b
   rw[zZ _ _ _ _ _ _ _ _ qc]
   have e:(2:Int)^(min (32:Int).toNat IntKind.u64.bits)=4294967296:=qg
   rw[e,zhr _ qg]
  have w32:IntKind.u32.wrap (x/4294967296)=x/4294967296:=qV qc qc
  have ex:smc i (x::r)=(x,if i%5=4 then x/4294967296 else x%9)::smc (i+1) r:=rfl
  have ap:=fun n=>zdk .u64 .u32 2 (.inr rfl) l x n qc
  by_cases h4:i%5=4
  ·have h4':(i:Int)%5=4:=qc
   rw[if_pos h4]at ex
   obtain⟨t,g⟩:=ih (i+1) (l++[(x,x/4294967296)]) e2 qh qc (fun p hp=>by
    rcases zg1.mp hp with hp|hp
    ·exact hp2 p hp
    ·simp at hp;subst hp;dsimp;omega)
   refine⟨t,fun b3' hb=>?_⟩
   rw[ex]at hb
   have g:=g b3' (by simpa using hb)
   rw[Yd]
   simp at g hw
   simp[hi,e3,qj,r9,w9,r5,h4',s32,w32,qar,ap,hw,g]
  ·have h4':¬((i:Int)%5=4):=qc
   rw[if_neg h4]at ex
   obtain⟨t,g⟩:=ih (i+1) (l++[(x,x%9)]) e2 qh qc (fun p hp=>by
    rcases zg1.mp hp with hp|hp
    ·exact hp2 p hp
    ·simp at hp;subst hp;dsimp;omega)
   refine⟨t,fun b3' hb=>?_⟩
   rw[ex]at hb
   have g:=g b3' (by simpa using hb)
   rw[Yd]
   simp at g hw
   simp[hi,e3,qj,r9,w9,r5,h4',qar,ap,hw,g]
end
theorem zcj{w:Nat}(hw:w<18446744073709551616):(xh w).W:=by
 have i01:∀(p:Prop) [Decidable p],qU (if p then 1 else 0):=by intro p _;split<;>exact⟨qg,qg⟩
 refine⟨⟨show(0:Int)<=1 by decide,show(1:Int)<4294967296 by decide⟩,i01 _,i01 _,i01 _,i01 _,i01 _,i01 _,?_,?_,?_,?_⟩
 ·show(if jT w then 9218868437227405312 else w)<18446744073709551616
  split<;>omega
 ·show(if jT w then 18442240474082181120 else w)<18446744073709551616
  split<;>omega
 ·intro x hx
  have:x=wk (kw w):=by simpa[xh]using hx
  subst this
  exact qq6 _ (vW w hw)
 ·simp[xh]
theorem qul{w:Nat}{K:Int}(hw:w<18446744073709551616)(hK:1<=K/\K<=16):Zb K (xh w).nf=0:=by
 rw[Xh]
 refine⟨hK,?_,?_,?_,?_⟩
 ·simp[Gs.nf,xh];omega
 ·simp[Gs.nf,xh]
 ·show kw (if jT w then 9218868437227405312 else w)≠nanK
  split
  ·decide
  ·rename_i h;exact fun e=>h ((qct hw).mpr e)
 ·show kw (if jT w then 18442240474082181120 else w)≠nanK
  split
  ·decide
  ·rename_i h;exact fun e=>h ((qct hw).mpr e)
theorem qfv{K:Int}(hK:1<=K/\K<=16):Zb K gnew.nf=0:=by
 rw[Xh]
 exact⟨hK,by simp[Gs.nf,gnew];omega,by simp[Gs.nf,gnew],qg,qg⟩
theorem QX{K:Int}(hK:1<=K/\K<=16):∀{r:List Nat} {g:Gs},Ws r->g.W->Zb K g.nf=0->(wP K g r).W/\Zb K (wP K g r).nf=0
 |[],g,_,hg,hc=>⟨hg,hc⟩
 |w::r,g,hr,hg,hc=>by
  have hw:=hr w qf
  have h1:=ze9 (K:=K) qc hg (zcj hw)
  have h2:Zb K (gmg K g (xh w)).nf=0:=by rw[zcl];exact qjn hc (qul hw hK)
  exact QX hK (r:=r) (fun x hx=>hr x (by simp[hx])) h1 h2
theorem qh9(s:Sm)(k k':Nat)(ok:s.Ok)(hl:s.hs.length<=40)(hf:s.fl.length<=40)(hp:Hp):∃r,vS (zQ s) r/\run cxX 30 [smA s k k'] hp=some (r,hp):=by
 have hk:=ok.kind
 have hA:=ok.A
 have hB:=ok.B
 have r6:∀t a b,qt Tryz.prog .rem t a b (.int .u8 s.kind) (.int .u8 6)=some (.int .u8 (s.kind%6)):=by
  intro t a b;rw[qS _ _ _ _ _ _ _ qc,qQ hk.1]
 have fin:∀(x:SkN) (g:Gs) (a b c d e f:Nat),B30_35 Zu (skL x g a b c d e f) hp=some (ku x g a b c d e f,hp):=by
  intro x g a b c d e f
  rw[qpk]
  unfold skL Zu ku
  simp[qn,qm]
 rw[E30]
 unfold zQ
 by_cases h0:s.kind%6=0
 ·rw[if_pos h0]
  obtain⟨t,q⟩:=zbd Zu Zu s (rk k) (rk k') hp ok.hs hl s.hs 0 [] rfl qf qf
  refine⟨_,yc (x:={yh with kind:=0,set:=Jx [] (yF s.few s.hs)}) YM rfl t 2 2 2 2 2,?_⟩
  have f:=fin {yh with kind:=0,set:=Jx [] (yF s.few s.hs)} gz t 2 2 2 2 2
  have q:=q (skL {yh with kind:=0,set:=Jx [] (yF s.few s.hs)} gz t 2 2 2 2 2) (by unfold Zu skL;simp[qm,yh,gz,LF])
  unfold skL Zu at q f
  unfold ku at f⊢
  simp[yh,gz,LF]at q f
  simp[qj,qo,r6,h0,q,f,yh,gz,LF]
 ·rw[if_neg h0]
  by_cases h1:s.kind%6=1
  ·rw[if_pos h1]
   have q:=fun k hp=>qxa s.A s.few s.hs k hA qc (fun n hn=>(ok.hs n hn).1) hp
   refine⟨_,yc (x:={yh with kind:=1,K:=1+s.A%20,hs:=wL (1+s.A%20).toNat [] (s.hs.map (cut s.few))}) YM rfl 2 2 2 2 2 2,?_⟩
   have f:=fin {yh with kind:=1,K:=1+s.A%20,hs:=wL (1+s.A%20).toNat [] (s.hs.map (cut s.few))} gz 2 2 2 2 2 2
   unfold skL Zu at f
   unfold ku at f⊢
   simp[yh,gz,LF]at f
   simp[qj,qo,qm,r6,h1,q,f,yh,gz,LF]
  ·rw[if_neg h1]
   by_cases h2:s.kind%6=2
   ·rw[if_pos h2]
    obtain⟨t,q⟩:=qxb s.A s.hs (rk k) hA qc ok.hs hp0
    refine⟨_,yc (x:={yh with kind:=2,P:=4+s.A%5,rg:=hfold (4+s.A%5) (List.replicate (jO (4+s.A%5)) 0) s.hs}) YM rfl 2 2 t 2 2 2,?_⟩
    have f:=fin {yh with kind:=2,P:=4+s.A%5,rg:=hfold (4+s.A%5) (List.replicate (jO (4+s.A%5)) 0) s.hs} gz 2 2 t 2 2 2
    unfold skL Zu at f
    unfold ku at f⊢
    simp[yh,gz,LF]at f
    simp[qj,qo,qm,r6,h2,q,f,yh,gz,LF]
   ·rw[if_neg h2]
    by_cases h3:s.kind%6=3
    ·rw[if_pos h3]
     have q:=fun k hp=>qnd s.wide s.A k s.hs ok.wide hA qc hp
     refine⟨_,yc (x:={yh with kind:=3,B:=1+s.wide%300,H:=1+s.A%8,bs:=blm (1+s.wide%300) (1+s.A%8) [] s.hs}) YM rfl 2 2 2 2 2 2,?_⟩
     have f:=fin {yh with kind:=3,B:=1+s.wide%300,H:=1+s.A%8,bs:=blm (1+s.wide%300) (1+s.A%8) [] s.hs} gz 2 2 2 2 2 2
     unfold skL Zu at f
     unfold ku at f⊢
     simp[yh,gz,LF]at f
     simp[qj,qo,qm,r6,h3,q,f,yh,gz,LF]
    ·rw[if_neg h3]
     by_cases h4:s.kind%6=4
     ·rw[if_pos h4]
      obtain⟨t,q⟩:=zbg Zu ((AV.sc (.int .u8 4))::Zu.tail) s (rk k) (rk k') hp ok.hs hA hB hl s.hs 0 [] rfl qf qf qf
      refine⟨_,yc (x:={yh with kind:=4,R:=1+s.A%8,C:=1+s.B%40,cs:=yz (1+s.A%8) (1+s.B%40) (List.replicate ((1+s.A%8)*(1+s.B%40)).toNat 0) (smc 0 s.hs)}) YM rfl 2 2 2 2 t 2,?_⟩
      have f:=fin {yh with kind:=4,R:=1+s.A%8,C:=1+s.B%40,cs:=yz (1+s.A%8) (1+s.B%40) (List.replicate ((1+s.A%8)*(1+s.B%40)).toNat 0) (smc 0 s.hs)} gz 2 2 2 2 t 2
      have q:=q (skL {yh with kind:=4,R:=1+s.A%8,C:=1+s.B%40,cs:=yz (1+s.A%8) (1+s.B%40) (List.replicate ((1+s.A%8)*(1+s.B%40)).toNat 0) (smc 0 s.hs)} gz 2 2 2 2 t 2) (by unfold Zu skL;simp[qm,yh,gz,LF])
      unfold skL Zu at q f
      unfold ku at f⊢
      have nq:S 2 2 (LQ .u64 .u32 [])=S 2 1 []:=rfl
      rw[nq]at q
      simp[yh,gz,LF]at q f
      simp[qj,qo,r6,h4,q,f,yh,gz,LF]
     ·rw[if_neg h4]
      have h5:s.kind%6=5:=qc
      obtain⟨gw,gc⟩:=QX (K:=1+s.A%16) qc (qz0 ok.fl) qum (qfv qc)
      have q:=fun k hp=>qm6 s.A k s.fl hA qc ok.fl hp
      refine⟨_,yc (x:={yh with kind:=5,gK:=1+s.A%16,g:=(wP (1+s.A%16) gnew (s.fl.map wd)).nf}) gw rfl 2 2 2 2 2 2,?_⟩
      have f:=fin {yh with kind:=5,gK:=1+s.A%16,g:=(wP (1+s.A%16) gnew (s.fl.map wd)).nf} (wP (1+s.A%16) gnew (s.fl.map wd)) 2 2 2 2 2 2
      unfold skL Zu at f
      unfold ku at f⊢
      simp[yh]at f
      simp[qj,qo,qm,r6,h5,q,f,yh]
structure Fine (x : SkN) : Prop where
 w:x.W
 c:KI x=0
 pos:x.g.Pos
theorem Kq:gz.nf.Pos:=YM.pos
theorem Fine.W2{x:SkN}(h:Fine x):x.W2:=by
 obtain⟨kd,on,sp⟩:=qZ.mp h.c
 have w:=h.w
 refine⟨w,?_,?_,?_,?_⟩
 ·rw[on];unfold Qy
  by_cases k0:x.kind=0
  ·rw[if_pos k0]at sp⊢
   have:=(qb6.mp sp).1
   show x.set.length<=_;omega
  ·rw[if_neg k0]
   repeat' split
   all_goals exact zhf _
 ·rw[on];unfold Qy
  by_cases k0:x.kind=0
  ·rw[if_pos k0];exact zhf _
  ·rw[if_neg k0]at sp⊢
   by_cases k1:x.kind=1
   ·rw[if_pos k1]at sp⊢
    have:=Xe.mp sp
    show x.hs.length<=_;omega
   ·rw[if_neg k1]
    repeat' split
    all_goals exact zhf _
 ·rw[on];unfold Qy
  by_cases k3:x.kind=3
  ·have n0:¬(x.kind=0):=qc
   have n1:¬(x.kind=1):=qc
   have n2:¬(x.kind=2):=qc
   rw[if_neg n0,if_neg n1,if_neg n2,if_pos k3]at sp⊢
   obtain⟨hB,hH,hg⟩:=qfu sp w.bs
   have:=hg.len hB.2
   show x.bs.length<=_;omega
  ·repeat' split
   all_goals first|exact zhf _|(exfalso;omega)
 ·intro k5
  have n0:¬(x.kind=0):=qc
  have n1:¬(x.kind=1):=qc
  have n2:¬(x.kind=2):=qc
  have n3:¬(x.kind=3):=qc
  have n4:¬(x.kind=4):=qc
  rw[if_neg n0,if_neg n1,if_neg n2,if_neg n3,if_neg n4]at sp
  have:=Xh.mp sp
  omega
theorem six{x:SkN}(h:x.W)(hk:x.kind<6):x.kind=0\/x.kind=1\/x.kind=2\/x.kind=3\/x.kind=4\/x.kind=5:=by
 have:=h.kind;omega
theorem qbz:∀(r acc:List Int),(Jx acc r).length<=acc.length+r.length
 |[],acc=>by simp[Jx]
 |x::r,acc=>by
  have h:=qbz r (mrg acc [x])
  have l:=qll acc [x]
  show(Jx (mrg acc [x]) r).length<=_
  simp at l⊢
  omega
theorem qy0{P h:Int}{l:List Int}(hP:4<=P/\P<=8)(hl:∀n∈l,n<=65-P):∀n∈vI P l h,n<=65-P:=by
 unfold vI
 split
 ·rename_i hi
  intro n hn
  rcases zi1 hn with hn|rfl
  ·exact hl n hn
  ·have h1:=qcz (h:=h) hP
   have h2:=hl l[jV P h] (zhx hi)
   have e:l.getD (jV P h) 0=l[jV P h]:=by simp[hi]
   rw[e];omega
 ·exact hl
theorem qfp{P:Int}(hP:4<=P/\P<=8):∀{l a:List Int},(∀n∈a,0<=n/\n<=65-P)->∀n∈hfold P a l,0<=n/\n<=65-P
 |[],a,h=>h
 |x::l,a,h=>by
  have h1:∀n∈vI P a (hsh x),0<=n/\n<=65-P:=fun n hn=>⟨(qyz hP (fun m hm=>by have:=h m hm;omega) n hn).1,qy0 hP (fun m hm=>(h m hm).2) n hn⟩
  exact qfp hP (l:=l) h1
theorem Zt(s:Sm)(ok:s.Ok)(hl:s.hs.length<=40)(hf:s.fl.length<=40):Fine (zQ s):=by
 have z:=qz9
 have hA:=ok.A
 have hB:=ok.B
 have hw:=ok.wide
 have hk:=ok.kind
 unfold zQ
 by_cases h0:s.kind%6=0
 ·rw[if_pos h0]
  have r:=Xy (yF s.few s.hs) (acc:=[]) List.Pairwise.nil
  have l:=qbz (yF s.few s.hs) []
  have l2:=Jy s.few ok.hs
  simp at l
  have u:Yb (Jx [] (yF s.few s.hs)):=fun n hn=>by
   have:=(qcp n _ _).mp hn
   simp at this
   exact qrp ok.hs n this
  refine⟨⟨by show(0:Int)<=0/\(0:Int)<256;omega,u,by show(Jx [] (yF s.few s.hs)).length<=_;omega,z.hsL,z.rg,z.rgL,z.bs,z.bsL,z.cs,z.csL⟩,?_,Kq⟩
  rw[qZ]
  exact⟨by show(0:Int)<6;omega,rfl,qb6.mpr ⟨by show(Jx [] (yF s.few s.hs)).length<=_;omega,r⟩⟩
 ·rw[if_neg h0]
  by_cases h1:s.kind%6=1
  ·rw[if_pos h1]
   have l:=qt8 (1+s.A%20).toNat (s.hs.map (cut s.few))
   refine⟨⟨by show(0:Int)<=1/\(1:Int)<256;omega,z.set,z.setL,by show(wL (1+s.A%20).toNat [] (s.hs.map (cut s.few))).length<=_;omega,z.rg,z.rgL,z.bs,z.bsL,z.cs,z.csL⟩,?_,Kq⟩
   rw[qZ]
   exact⟨by show(1:Int)<6;omega,rfl,Xe.mpr ⟨by show 1<=1+s.A%20/\1+s.A%20<=1024;omega,by show((wL (1+s.A%20).toNat [] (s.hs.map (cut s.few))).length:Int)<=1+s.A%20;omega,qod _ _⟩⟩
  ·rw[if_neg h1]
   by_cases h2:s.kind%6=2
   ·rw[if_pos h2]
    have hP:4<=4+s.A%5/\4+s.A%5<=8:=qc
    have o:=qfp hP (l:=s.hs) (a:=List.replicate (jO (4+s.A%5)) 0) (fun n hn=>by have:=zia hn;omega)
    have l:=WO (4+s.A%5) s.hs (List.replicate (jO (4+s.A%5)) 0)
    rw[List.length_replicate]at l
    have hple:=Xg hP.2
    refine⟨⟨by show(0:Int)<=2/\(2:Int)<256;omega,z.set,z.setL,z.hsL,fun n hn=>by have:=o n hn;omega,by show(hfold (4+s.A%5) (List.replicate (jO (4+s.A%5)) 0) s.hs).length<=_;omega,z.bs,z.bsL,z.cs,z.csL⟩,?_,Kq⟩
    rw[qZ]
    exact⟨by show(2:Int)<6;omega,rfl,qlr.mpr ⟨hP,l,fun n hn=>(o n hn).2⟩⟩
   ·rw[if_neg h2]
    by_cases h3:s.kind%6=3
    ·rw[if_pos h3]
     have hB':1<=1+s.wide%300/\1+s.wide%300<=4096:=qc
     have g:=qgh (B:=1+s.wide%300) (H:=1+s.A%8) hB'.1 (r:=s.hs) (xa.nil _)
     have l:=g.len hB'.2
     refine⟨⟨by show(0:Int)<=3/\(3:Int)<256;omega,z.set,z.setL,z.hsL,z.rg,z.rgL,g.in32 hB'.2,by show(blm (1+s.wide%300) (1+s.A%8) [] s.hs).length<=_;omega,z.cs,z.csL⟩,?_,Kq⟩
     rw[qZ]
     exact⟨by show(3:Int)<6;omega,rfl,qgd hB' (by show 1<=1+s.A%8/\1+s.A%8<=8;omega) g⟩
    ·rw[if_neg h3]
     by_cases h4:s.kind%6=4
     ·rw[if_pos h4]
      have hR:1<=1+s.A%8/\1+s.A%8<=8:=qc
      have hC:1<=1+s.B%40/\1+s.B%40<=256:=qc
      have m:=qju hR hC
      have l:=WY (1+s.A%8) (1+s.B%40) (smc 0 s.hs) (List.replicate ((1+s.A%8)*(1+s.B%40)).toNat 0)
      rw[List.length_replicate]at l
      have p2:∀(r:List Int) (i:Nat),(∀n∈r,0<=n/\n<18446744073709551616)->∀p∈smc i r,0<=p.2/\p.2<4294967296:=by
       intro r
       induction r with
       |nil=>intro i _ p hp;simp[smc]at hp
       |cons x r ih=>
        intro i hr p hp
        have hx:=hr x qf
        rcases zgn.mp hp with rfl|hp
        ·dsimp
         split<;>omega
        ·exact ih (i+1) (fun n hn=>hr n (by simp[hn])) p hp
      have u:=WX (1+s.A%8) (1+s.B%40) (l:=smc 0 s.hs) (a:=List.replicate ((1+s.A%8)*(1+s.B%40)).toNat 0) (fun n hn=>by have:=zia hn;omega) (p2 s.hs 0 ok.hs)
      refine⟨⟨by show(0:Int)<=4/\(4:Int)<256;omega,z.set,z.setL,z.hsL,z.rg,z.rgL,z.bs,z.bsL,u,by show(yz (1+s.A%8) (1+s.B%40) (List.replicate ((1+s.A%8)*(1+s.B%40)).toNat 0) (smc 0 s.hs)).length<=_;omega⟩,?_,Kq⟩
      rw[qZ]
      exact⟨by show(4:Int)<6;omega,rfl,qma.mpr ⟨hR,hC,by show((yz (1+s.A%8) (1+s.B%40) (List.replicate ((1+s.A%8)*(1+s.B%40)).toNat 0) (smc 0 s.hs)).length:Int)=(1+s.A%8)*(1+s.B%40);omega⟩⟩
     ·rw[if_neg h4]
      obtain⟨gw,gc⟩:=QX (K:=1+s.A%16) qc (qz0 ok.fl) qum (qfv qc)
      refine⟨⟨by show(0:Int)<=5/\(5:Int)<256;omega,z.set,z.setL,z.hsL,z.rg,z.rgL,z.bs,z.bsL,z.cs,z.csL⟩,?_,gw.pos⟩
      rw[qZ]
      exact⟨by show(5:Int)<6;omega,rfl,gc⟩
theorem Zs(s:Sm)(ok:s.Ok):(zQ s).kind=s.kind%6:=by
 have hk:=ok.kind
 unfold zQ
 repeat' split
 all_goals first|(simp;omega)|rfl
def Sm.none(s:Sm):Sm:={s with hs:=[],fl:=[]}
theorem Sm.Ok.none{s:Sm}(h:s.Ok):s.none.Ok:=⟨h.kind,h.A,h.B,h.wide,by simp[Sm.none],by simp[Sm.none]⟩
theorem Wq(Z L:List AV)(h:Z.length=L.length):qm Z 0 L=some L:=by
 unfold qm
 rw[if_pos qc]
 simp[h]
structure Cl (x : SkN) (L : List AV) : Prop where
 sk:vS x (.agg L)
 len:L.length=23
 vl:L.all vl=true
 ro:L.map ro1=L
 k0:qj L 0=some (.int .u8 x.kind)
theorem vS.cl{x:SkN}{r:AV}(h:vS x r):∃L,r= .agg L/\L.length=23/\L.all AI.vl=true/\Cl x (L.map ro1):=by
 obtain⟨g,a,b,c,d,e,f,gw,gn,rfl⟩:=h
 refine⟨_,rfl,rfl,qf,⟨⟨g,rk a,rk b,rk c,rk d,rk e,rk f,gw,gn,by simp[ku]⟩,qf,qf,qf,by simp[qj]⟩⟩
theorem qdy(s:Sm)(ok:s.Ok)(hl:s.hs.length<=40):(zQ s).set.length<=1600:=by
 have l:=qbz (yF s.few s.hs) []
 have l2:=Jy s.few ok.hs
 simp at l
 unfold zQ
 repeat' split
 ·show(Jx [] (yF s.few s.hs)).length<=_;omega
 all_goals exact zhf _
theorem wZ:∀a:List Int,Zr a a=false
 |[]=>rfl
 |a::x=>by
  have ih:=wZ x
  show(decide (a<a)||(decide (a=a)&&Zr x x))=false
  rw[ih];simp
theorem XA(a b:Int)(x y:List Int):Zr (a::x) (b::y)=true↔a<b\/(a=b/\Zr x y=true):=by
 show(decide (a<b)||(decide (a=b)&&Zr x y))=true↔_
 simp
theorem qkx(a:List Int):Zr a []=false:=by cases a<;>rfl
theorem Jz:∀{a b c:List Int},Zr a b=true->Zr b c=true->Zr a c=true
 |a,b,[],_,h=>by rw[qkx]at h;cases h
 |a,[],_::_,h,_=>by rw[qkx]at h;cases h
 |[],_::_,_::_,_,_=>rfl
 |a::x,b::y,c::z,h1,h2=>by
  rw[XA]at h1 h2⊢
  rcases h1 with h1|⟨e1,h1⟩<;>rcases h2 with h2|⟨e2,h2⟩
  ·exact .inl qc
  ·exact .inl qc
  ·exact .inl qc
  ·exact .inr ⟨qc,Jz h1 h2⟩
theorem qkw:∀{a b:List Int},Zr a b=false->a≠b->Zr b a=true
 |[],[],_,h=>absurd rfl h
 |[],_::_,h,_=>by cases h
 |_::_,[],_,_=>rfl
 |a::x,b::y,h,hn=>by
  have h':¬(a<b\/(a=b/\Zr x y=true)):=by
   rw[<-XA,h];simp
  rw[XA]
  by_cases e:a=b
  ·subst e
   refine .inr ⟨rfl,qkw ?_ (fun q=>hn (by rw[q]))⟩
   cases q:Zr x y with
   |false=>rfl
   |true=>exact absurd (.inr ⟨rfl,q⟩) h'
  ·exact .inl qc
theorem qdw{a b:List Int}(h:Zr a b=true):Zr b a=false:=by
 cases q:Zr b a with
 |false=>rfl
 |true=>
  have:=Jz h q
  rw[wZ]at this
  cases this
structure Be where
 nm:List Int
 x:SkN
 cs:List AV
structure Be.Ok (e : Be) : Prop where
 n1:1<=e.nm.length/\e.nm.length<=60
 nb:Bt e.nm
 cl:Cl e.x e.cs
def qM(e:Be):List AV:=.sc (st e.nm)::e.cs
theorem zx{e:Be}(h:e.Ok):El qM 24 e:=by
 refine⟨by show e.cs.length+1=24;rw[h.cl.len],?_,?_⟩
 ·show ro1 (.sc (st e.nm))::e.cs.map ro1=_
  rw[h.cl.ro];rfl
 ·show(true&&e.cs.all vl)=true
  rw[h.cl.vl];rfl
def QV:List Be->Be->List Be->List Be
 |[],x,B=>x::B
 |p::r,x,B=>if Zr x.nm p.nm then QV r x (p::B)else(p::r).reverse++x::B
def YL(A:List Be)(x:Be):List Be:=QV A.reverse x []
def zB(A:List Be)(R:List Be):List Be:=R.foldl YL A
theorem qfn:∀(r:List Be) (x:Be) (B C:List Be),QV r x (B++C)=QV r x B++C
 |[],x,B,C=>rfl
 |p::r,x,B,C=>by
  unfold QV
  split
  ·exact qfn r x (p::B) C
  ·simp
theorem WN:∀(r:List Be) (x:Be) (B:List Be),(QV r x B).Perm (x::(r++B))
 |[],x,B=>List.Perm.refl _
 |p::r,x,B=>by
  unfold QV
  split
  ·refine(WN r x (p::B)).trans (List.Perm.cons x ?_)
   exact zi5
  ·refine zi5.trans (List.Perm.cons x ?_)
   exact(List.reverse_perm (p::r)).append_right B
theorem Qi(A:List Be)(x:Be):(YL A x).Perm (x::A):=by
 refine(WN A.reverse x []).trans ?_
 rw[zhd]
 exact List.Perm.cons x (List.reverse_perm A)
theorem xD:∀(R A:List Be),(zB A R).Perm (A++R)
 |[],A=>by rw[zhd];exact List.Perm.refl _
 |x::R,A=>by
  refine(xD R (YL A x)).trans ?_
  refine((Qi A x).append_right R).trans ?_
  exact zi5.symm
theorem Ko(A:List Be)(x:Be):(YL A x).length=A.length+1:=(Qi A x).length_eq
def Srt(l:List Be):Prop:=l.Pairwise fun a b=>Zr a.nm b.nm=true
theorem qfm:∀(r:List Be) (x:Be) (B:List Be),Srt (r.reverse++B)->(∀b∈B,Zr x.nm b.nm=true)->(∀b∈r,b.nm≠x.nm)->Srt (QV r x B)
 |[],x,B,h,hB,_=>List.Pairwise.cons hB h
 |p::r,x,B,h,hB,hr=>by
  have h:Srt (r.reverse++(p::B)):=by
   rw[List.reverse_cons,zgw]at h
   exact h
  unfold QV
  split
  ·rename_i q
   refine qfm r x (p::B) h (fun b hb=>?_) (fun b hb=>hr b (by simp[hb]))
   rcases zgn.mp hb with e|hb
   ·rw[e];exact q
   ·exact hB b hb
  ·rename_i q
   have hp:Zr p.nm x.nm=true:=qkw (by simpa using q) (fun e=>hr p qf e.symm)
   rw[List.reverse_cons,zgw]
   obtain⟨h1,h2,h3⟩:=zh2.mp h
   refine zh2.mpr ⟨h1,?_,?_⟩
   ·obtain⟨h4,h5⟩:=zgr.mp h2
    refine List.Pairwise.cons (fun b hb=>?_) (List.Pairwise.cons hB h5)
    rcases zgn.mp hb with e|hb
    ·rw[e];exact hp
    ·exact h4 b hb
   ·intro a ha b hb
    rcases zgn.mp hb with e|hb
    ·rw[e];exact h3 a ha p qf
    ·rcases zgn.mp hb with e|hb
     ·rw[e];exact Jz (h3 a ha p qf) hp
     ·exact h3 a ha b (by simp[hb])
theorem qug{A:List Be}{x:Be}(h:Srt A)(hr:∀b∈A,b.nm≠x.nm):Srt (YL A x):=
 qfm A.reverse x [] (by simpa using h) qf (fun b hb=>hr b (by simpa using hb))
theorem Zq:∀(R A:List Be),Srt A->((A++R).map Be.nm).Nodup->Srt (zB A R)
 |[],A,h,_=>h
 |x::R,A,h,hn=>by
  have e:((YL A x++R).map Be.nm).Perm ((A++x::R).map Be.nm):=by
   refine List.Perm.map _ ?_
   exact((Qi A x).append_right R).trans zi5.symm
  refine Zq R (YL A x) (qug h (fun b hb q=>?_)) (e.nodup_iff.mpr hn)
  rw[zin,zhc]at hn
  have:=(List.nodup_append.mp hn).2.2 b.nm (zg6.mpr ⟨b,hb,rfl⟩) x.nm qf
  exact this q
theorem qku:∀(l m:List Be),Srt l->Srt m->(∀y,y∈l↔y∈m)->l=m
 |[],[],_,_,_=>rfl
 |[],b::m,_,_,h=>absurd ((h b).mpr qf) qf
 |a::l,[],_,_,h=>absurd ((h a).mp qf) qf
 |a::l,b::m,h1,h2,h=>by
  obtain⟨a1,a2⟩:=zgr.mp h1
  obtain⟨b1,b2⟩:=zgr.mp h2
  have e:a=b:=by
   rcases zgn.mp ((h a).mp qf)with q|q
   ·exact q
   ·rcases zgn.mp ((h b).mpr qf)with q'|q'
    ·exact q'.symm
    ·have:=qdw (b1 a q)
     rw[a1 b q']at this
     cases this
  subst e
  rw[qku l m a2 b2 (fun y=>?_)]
  have hy:=h y
  constructor
  ·intro q
   rcases zgn.mp (hy.mp (by simp[q]))with e|q'
   ·subst e
    have:=a1 y q
    rw[wZ]at this;cases this
   ·exact q'
  ·intro q
   rcases zgn.mp (hy.mpr (by simp[q]))with e|q'
   ·subst e
    have:=b1 y q
    rw[wZ]at this;cases this
   ·exact q'
theorem qrl{l m:List Be}(hl:(l.map Be.nm).Nodup)(h:l.Perm m):zB [] l=zB [] m:=by
 refine qku _ _ (Zq l [] List.Pairwise.nil hl) (Zq m [] List.Pairwise.nil ((h.map Be.nm).nodup_iff.mp hl)) (fun y=>?_)
 exact(xD l []).mem_iff.trans (h.mem_iff.trans (xD m []).mem_iff.symm)
theorem ql8:∀{a b:List Int},Bt a->Bt b->(decide (Go.Lib.compareBytes (yg a) (yg b)<0))=Zr a b
 |[],[],_,_=>rfl
 |[],_::_,_,_=>rfl
 |_::_,[],_,_=>rfl
 |a::x,b::y,ha,hb=>by
  have ih:=ql8 (a:=x) (b:=y) (fun n hn=>ha n (by simp[hn])) (fun n hn=>hb n (by simp[hn]))
  have h1:=qrd (ha a qf) (hb b qf)
  have h2:=qrd (hb b qf) (ha a qf)
  show decide ((if UInt8.ofNat a.toNat<UInt8.ofNat b.toNat then(-1:Int)else if UInt8.ofNat b.toNat<UInt8.ofNat a.toNat then 1 else Go.Lib.compareBytes (yg x) (yg y))<0)=(decide (a<b)||(decide (a=b)&&Zr x y))
  rw[<-ih]
  have g1:(UInt8.ofNat a.toNat<UInt8.ofNat b.toNat)↔a<b:=decide_eq_decide.mp h1
  have g2:(UInt8.ofNat b.toNat<UInt8.ofNat a.toNat)↔b<a:=decide_eq_decide.mp h2
  by_cases q1:a<b
  ·rw[if_pos (g1.mpr q1)];simp[q1]
  ·rw[if_neg (fun q=>q1 (g1.mp q))]
   by_cases q2:b<a
   ·rw[if_pos (g2.mpr q2)]
    have:¬(a=b):=qc
    simp[q1,this]
   ·rw[if_neg (fun q=>q2 (g2.mp q))]
    have:a=b:=qc
    simp[this]
theorem zat(a b:ByteArray):one (wR Tryz.prog 205 [.string a,.string b])=some (.int .i64 (Go.Extern.BytealgCompare.cmp a b)):=qe
theorem zd8(a b:List Int):one (wR Tryz.prog 205 [st a,st b])=some (.int .i64 (Go.Lib.compareBytes (yg a) (yg b))):=by
 unfold st
 rw[zat,Go.Lib.cmp_eq]
theorem qee{e o:Be}(he:e.Ok)(ho:o.Ok)(hp:Hp):run cxX 34 [.agg (qM e),.agg (qM o)] hp=some (.sc (.int .i64 (Go.Lib.compareBytes (yg e.nm) (yg o.nm))),hp):=by
 have x:=zd8 e.nm o.nm
 have c1:∀hp,run cxX 138 [.sc (st e.nm),.sc (st o.nm)] hp=some (.sc (.int .i64 (Go.Lib.compareBytes (yg e.nm) (yg o.nm))),hp):=by
  intro hp
  rw[E138]
  generalize st e.nm=N at*
  generalize st o.nm=M at*
  simp[x]
 have c2:∀hp,run cxX 67 [.sc (st e.nm),.sc (st o.nm)] hp=some (.sc (.int .i64 (Go.Lib.compareBytes (yg e.nm) (yg o.nm))),hp):=by
  intro hp
  rw[E67]
  generalize st e.nm=N at*
  generalize st o.nm=M at*
  simp[c1]
 have l1:(qM e).length=24:=(zx he).len
 have l2:(qM o).length=24:=(zx ho).len
 have k1:∀x,qj (qM x) 0=some (st x.nm):=fun x=>rfl
 have r1:=(zx he).ro
 have r2:=(zx ho).ro
 rw[E34]
 have k1':=k1 e;have k2':=k1 o
 generalize qM e=X at*
 generalize qM o=Y at*
 generalize st e.nm=N at*
 generalize st o.nm=M at*
 simp[ql,l1,l2,r1,r2,k1',k2',c2]
theorem qjy(y:Nat):Nat.add (Nat.add (Nat.add (Nat.add (Nat.add (Nat.add (Nat.add (Nat.add (Nat.add (Nat.add (Nat.add (Nat.add (Nat.add (Nat.add (Nat.add (Nat.add (Nat.add (Nat.add (Nat.add (Nat.add (Nat.add (Nat.add (Nat.add (Nat.add 0 y) y) y) y) y) y) y) y) y) y) y) y) y) y) y) y) y) y) y) y) y) y) y) y=y*24:=rfl
theorem ZH{L:List Be}(hL:∀e∈L,e.Ok){i:Nat}{x:Be}(h:L[i]?=some x):qn (qp qM L) (i*24) 24=some (qM x):=by
 have hi:=(zgq.mp h).1
 have hl:=zC qM 24 (fun e he=>zx (hL e he))
 unfold qn
 rw[if_pos (by rw[hl];omega),XQ qM 24 (fun e he=>zx (hL e he)) h]
theorem qk2{A B:List Be}{x y:Be}(hL:∀e∈A++x::B,e.Ok)(hy:y.Ok):qm (qp qM (A++x::B)) (A.length*24) (qM y)=some (qp qM (A++y::B)):=by
 have hA:(qp qM A).length=A.length*24:=by rw[zC qM 24 (fun e he=>zx (hL e (by simp[he]))),zhe]
 have hx:=(zx (hL x qf)).len
 have hl:=(zx hy).len
 have e1:qp qM (A++x::B)=qp qM A++(qM x++qp qM B):=by rw[ve,xF]
 unfold qm
 rw[e1,if_pos (by simp only[zgi,hA,hl,hx];omega),<-hA,zji,List.drop_append,hl]
 have e2:(qp qM A).drop ((qp qM A).length+24)=[]:=zhi qc
 have e3:(qp qM A).length+24-(qp qM A).length=(qM x).length:=qc
 rw[e2,e3,zkk,zg2,ve,xF,zgw]
def wh:AV:=.fn 34 []
theorem quf(b n i:Nat)(hn:n<=1000):∀(r:List Be) (x:Be) (B:List Be) (hp:Hp),(∀e∈r,e.Ok)->x.Ok->(∀e∈B,e.Ok)->r.length+1+B.length=n->hp.rd b 0=some (qp qM (r.reverse++x::B))->
 B136_4 (.ms b 0 0 n 24) (.int .i64 0) (.int .i64 (n:Int)) wh (.int .i64 (i:Int)) (.int .i64 (r.length:Int)) hp=B136_2 (.ms b 0 0 n 24) (.int .i64 0) (.int .i64 (n:Int)) wh (.int .i64 (i:Int)) (hp.put b 0 (qp qM (QV r x B))):=by
 intro r
 induction r with
 |nil=>
  intro x B hp _ hx hB hl h
  have e:hp.put b 0 (qp qM (QV [] x B))=hp:=zR h
  rw[e,qbc]
  simp
 |cons p r ih=>
  intro x B hp hr hx hB hl h
  have hpo:=hr p qf
  have hl':r.length+2+B.length=n:=by simp only[zgk]at hl;omega
  have gf:ZW (.fn 34 [])=some (34,[]):=rfl
  have hall:∀e∈(p::r).reverse++x::B,e.Ok:=by
   intro e he
   rcases zg1.mp he with q|q
   ·exact hr e (List.mem_reverse.mp q)
   ·rcases zgn.mp q with q|q
    ·rw[q];exact hx
    ·exact hB e q
  have g1:=ZH hall (i:=r.length+1) (x:=x) (by rw[zgv qf];simp)
  have g2:=ZH hall (i:=r.length) (x:=p) (by rw[List.reverse_cons,zgw,zgv qf];simp)
  have i1:idx n (.int .i64 ((r.length+1:Nat):Int))=some (r.length+1):=zd .i64 (by simp only[zgk]at hl;omega)
  have i2:idx n (.int .i64 (r.length:Int))=some r.length:=zd .i64 (by simp only[zgk]at hl;omega)
  have w1:IntKind.i64.wrap (((r.length+1:Nat):Int)-1)=(r.length:Int):=qi
  have hpos:(0:Int)<((r.length+1:Nat):Int):=qc
  have cm:=fun hp=>qee hx hpo hp
  have cl:=ql8 hx.nb hpo.nb
  have l1:(qM x).length=24:=(zx hx).len
  have l2:(qM p).length=24:=(zx hpo).len
  have r1:=(zx hx).ro
  have r2:=(zx hpo).ro
  have v1:=(zx hx).vl
  have v2:=(zx hpo).vl
  rw[zgk,qbc]
  by_cases q:Zr x.nm p.nm=true
  ·have e1:QV (p::r) x B=QV r x (p::B):=by show(if _ then _ else _)=_;rw[if_pos q]
   have s1:(p::r).reverse++x::B=r.reverse++p::x::B:=by rw[List.reverse_cons,zgw];rfl
   have p1:qm (qp qM ((p::r).reverse++x::B)) ((r.length+1)*24) (qM p)=some (qp qM (r.reverse++p::p::B)):=by
    have:=qk2 (A:=(p::r).reverse) (B:=B) (x:=x) (y:=p) hall hpo
    rw[List.length_reverse,zgk]at this
    rw[this,List.reverse_cons,zgw]
    rfl
   have p2:qm (qp qM (r.reverse++p::p::B)) (r.length*24) (qM x)=some (qp qM (r.reverse++x::p::B)):=by
    have:=qk2 (A:=r.reverse) (B:=p::B) (x:=p) (y:=x) (fun e he=>by
     rcases zg1.mp he with q|q
     ·exact hr e (zid _ (List.mem_reverse.mp q))
     ·rcases zgn.mp q with q|q
      ·rw[q];exact hpo
      ·rcases zgn.mp q with q|q
       ·rw[q];exact hpo
       ·exact hB e q) hx
    rw[List.length_reverse]at this
    exact this
   have z:=ih x (p::B) (hp.put b 0 (qp qM (r.reverse++x::p::B))) (fun e he=>hr e (by simp[he])) hx (fun e he=>by
    rcases zgn.mp he with q|q
    ·rw[q];exact hpo
    ·exact hB e q) (by simp only[zgk]at hl⊢;omega) (qr _ _ _)
   rw[qx]at z
   rw[e1,<-z]
   have rdp:=qr hp b (qp qM (r.reverse++p::p::B))
   have pp:=qx hp b (qp qM (r.reverse++p::p::B)) (qp qM (r.reverse++x::p::B))
   have b6:B136_6 (.ms b 0 0 n 24) (.int .i64 0) (.int .i64 (n:Int)) wh (.int .i64 (i:Int)) (.int .i64 ((r.length+1:Nat):Int)) hp=B136_4 (.ms b 0 0 n 24) (.int .i64 0) (.int .i64 (n:Int)) wh (.int .i64 (i:Int)) (.int .i64 (r.length:Int)) (hp.put b 0 (qp qM (r.reverse++x::p::B))):=by
    rw[qql]
    simp only[wV,qjy]
    generalize qp qM (r.reverse++x::p::B)=R3 at*
    generalize qp qM (r.reverse++p::p::B)=R2 at*
    generalize qp qM ((p::r).reverse++x::B)=R1 at*
    generalize qM x=X at*
    generalize qM p=Y at*
    generalize((r.length+1:Nat):Int)=J at*
    simp[w1,qK,i1,i2,h,g1,g2,ql,l1,l2,r1,r2,p1,p2,rdp,pp]
   rw[<-b6]
   simp only[wV,qjy]
   generalize qp qM ((p::r).reverse++x::B)=R1 at*
   generalize qM x=X at*
   generalize qM p=Y at*
   generalize((r.length+1:Nat):Int)=J at*
   simp[-List.map_map,-List.all_map,-List.all_eq_true,hpos,w1,qK,i1,i2,h,g1,g2,cm,wh,gf,r1,r2,v1,v2,cl,q]
  ·have e1:QV (p::r) x B=(p::r).reverse++x::B:=by show(if _ then _ else _)=_;rw[if_neg q]
   have q':Zr x.nm p.nm=false:=by simpa using q
   rw[e1,zR h]
   simp only[wV,qjy]
   generalize qp qM ((p::r).reverse++x::B)=R1 at*
   generalize qM x=X at*
   generalize qM p=Y at*
   generalize((r.length+1:Nat):Int)=J at*
   simp[-List.map_map,-List.all_map,-List.all_eq_true,hpos,w1,qK,i1,i2,h,g1,g2,cm,wh,gf,r1,r2,v1,v2,cl,q']
theorem qog(b n:Nat)(hn:n<=1000):∀(R A:List Be) (hp:Hp),(∀e∈A++R,e.Ok)->A≠[]->A.length+R.length=n->hp.rd b 0=some (qp qM (A++R))->
 B136_1 (.ms b 0 0 n 24) (.int .i64 0) (.int .i64 (n:Int)) wh (.int .i64 (A.length:Int)) hp=some (.tup [],hp.put b 0 (qp qM (zB A R))):=by
 intro R
 induction R with
 |nil=>
  intro A hp ho hA hl h
  have e:zB A []=A:=rfl
  rw[zhd]at h
  simp only[zhh]at hl
  have hlt:¬((A.length:Int)<(n:Int)):=qc
  rw[e,zR h,Yj]
  simp[hlt]
 |cons x R ih=>
  intro A hp ho hA hl h
  simp only[zgk]at hl
  have hlt:(A.length:Int)<(n:Int):=qc
  have z:=quf b n A.length hn A.reverse x R hp (fun e he=>ho e (by simp at he;simp[he])) (ho x qf) (fun e he=>ho e (by simp[he])) qh (by rw[List.reverse_reverse];exact h)
  rw[List.length_reverse]at z
  have e1:QV A.reverse x R=YL A x++R:=by
   have:=qfn A.reverse x [] R
   rw[zg2]at this
   exact this
  rw[e1]at z
  have hne:YL A x≠[]:=fun q=>by have:=Ko A x;rw[q]at this;simp at this
  have y:=ih (YL A x) (hp.put b 0 (qp qM (YL A x++R))) (fun e he=>by
   rcases zg1.mp he with q|q
   ·rcases zgn.mp ((Qi A x).mem_iff.mp q)with q|q
    ·rw[q];exact ho x qf
    ·exact ho e (by simp[q])
   ·exact ho e (by simp[q])) hne (by rw[Ko];omega) (qr _ _ _)
  rw[qx,Ko]at y
  have w1:IntKind.i64.wrap ((A.length:Int)+1)=((A.length+1:Nat):Int):=qi
  have e2:zB A (x::R)=zB (YL A x) R:=rfl
  rw[e2,<-y,Yj]
  have b2:∀hp,B136_2 (.ms b 0 0 n 24) (.int .i64 0) (.int .i64 (n:Int)) wh (.int .i64 (A.length:Int)) hp=B136_1 (.ms b 0 0 n 24) (.int .i64 0) (.int .i64 (n:Int)) wh (.int .i64 ((A.length+1:Nat):Int)) hp:=by
   intro hp
   rw[qqm]
   simp[w1]
  rw[b2]at z
  simp[hlt,z]
theorem qmu(b:Nat)(L:List Be)(hL:∀e∈L,e.Ok)(hn:L≠[])(h20:L.length<20)(hp:Hp)(h:hp.rd b 0=some (qp qM L)):
 run cxX 33 [.ms b 0 0 L.length 24,wh] hp=some (.tup [],hp.put b 0 (qp qM (zB [] L))):=by
 obtain⟨x,R,rfl⟩:∃x R,L=x::R:=by
  cases L with
  |nil=>exact absurd rfl hn
  |cons x R=>exact⟨x,R,rfl⟩
 have o:=qog b (x::R).length (by simp only[zgk]at h20⊢;omega) R [x] hp hL qf qh h
 have e:zB [] (x::R)=zB [x] R:=rfl
 have o:B136_1 (.ms b 0 0 (x::R).length 24) (.int .i64 0) (.int .i64 ((x::R).length:Int)) wh (.int .i64 1) hp=some (.tup [],hp.put b 0 (qp qM (zB [] (x::R)))):=o
 generalize zB [] (x::R)=T at*
 generalize hN:(x::R).length=N at*
 have ins:run cxX 136 [.ms b 0 0 N 24,.sc (.int .i64 0),.sc (.int .i64 (N:Int)),wh] hp=some (.tup [],hp.put b 0 (qp qM T)):=by
  have w:IntKind.i64.wrap 1=1:=qg
  rw[E136]
  simp[w,o]
 have c1:¬((20:Int)<=(N:Int)):=qc
 have c2:¬((20:Int)<(N:Int)):=qc
 have b7:∀hp,B66_7 (.ms b 0 0 N 24) (.int .i64 (N:Int)) wh (.int .i64 20) hp=some (.tup [],hp):=by
  intro hp
  rw[qg7]
  simp[c2]
 have b2:B66_2 (.ms b 0 0 N 24) (.int .i64 (N:Int)) wh (.int .i64 20) (.int .i64 0) (.int .i64 20) hp=some (.tup [],hp.put b 0 (qp qM T)):=by
  rw[qg8]
  have ins':run cxX 136 [.ms b 0 0 N 24,.sc (.int .i64 0),.sc (.int .i64 (N:Int)),.fn 34 []] hp=some (.tup [],hp.put b 0 (qp qM T)):=ins
  have b7':∀hp,B66_7 (.ms b 0 0 N 24) (.int .i64 (N:Int)) (.fn 34 []) (.int .i64 20) hp=some (.tup [],hp):=b7
  simp[c1,wh,ins',b7']
 have stb:run cxX 66 [.ms b 0 0 N 24,.sc (.int .i64 (N:Int)),wh] hp=some (.tup [],hp.put b 0 (qp qM T)):=by
  rw[E66]
  simp[b2]
 have stb':run cxX 66 [.ms b 0 0 N 24,.sc (.int .i64 (N:Int)),.fn 34 []] hp=some (.tup [],hp.put b 0 (qp qM T)):=stb
 rw[E33]
 simp[wh,stb']
def xe(i:Nat):List Int:=(List.range i).map (fun j=>(JU j:Int))++List.replicate (256-i) 0
theorem qds{i:Nat}(h:i<=256):(xe i).length=256:=by
 unfold xe
 simp
 omega
theorem qrf{i:Nat}(h:i<256):(xe i).set i (JU i:Int)=xe (i+1):=by
 unfold xe
 have e:256-i=(256-(i+1))+1:=qc
 rw[List.set_append_right _ _ qf,e,zil,List.range_succ,zin]
 simp
theorem qrg{j:Nat}(h:j<256):(xe 256).getD j 0=(JU j:Int):=by
 unfold xe
 simp[zgp,h]
theorem qm9(hp:Hp):run cxX 152 [] hp=B152_3 (.ptr hp.next 0 0) (.int .i64 0) (hp.new (LI .u32 (xe 0))):=(E152 hp).trans qe
theorem cand(t:TypeId)(x y:Operand):qt Tryz.prog .and t x y (.int .u32 2197175160) (.int .u32 0)=some (.int .u32 0)/\qt Tryz.prog .and t x y (.int .u32 2197175160) (.int .u32 4294967295)=some (.int .u32 2197175160):=by
 have e1:2197175160&&&0=0:=qg
 have e2:2197175160&&&4294967295=2197175160:=qg
 have a1:=qdg Tryz.prog t x y 2197175160 0 qg qg
 have a2:=qdg Tryz.prog t x y 2197175160 4294967295 qg qg
 rw[e1]at a1
 rw[e2]at a2
 exact⟨a1,a2⟩
theorem cneg:unV Tryz.prog .neg (.int .u32 0)=some (.int .u32 0)/\unV Tryz.prog .neg (.int .u32 1)=some (.int .u32 4294967295):=⟨qe,qe⟩
theorem qzi(x1:AV)(v2 v6:Value)(hp:Hp):∀(m j n:Nat),j+m=8->n<4294967296->B152_7 x1 v2 (.int .u32 (n:Int)) v6 (.int .i64 (j:Int)) hp=B152_7 x1 v2 (.int .u32 ((KO m n:Nat):Int)) v6 (.int .i64 8) hp:=by
 intro m
 induction m with
 |zero=>intro j n hj hn;have:j=8:=qc
        subst this;rfl
 |succ m ih=>
  intro j n hj hn
  have hlt:(j:Int)<8:=qc
  have w:IntKind.i64.wrap ((j:Int)+1)=((j+1:Nat):Int):=qi
  have s1:=fun t x y=>qb3 Tryz.prog t x y n 1 qg .u64
  have s2:=fun t x y=>qdg Tryz.prog t x y n 1 hn qg
  rw[Nat.and_one_is_mod]at s2
  have hs:=qgf hn
  have z:=ih (j+1) (qaf n) qc hs
  have e0:KO (m+1) n=KO m (qaf n):=rfl
  rw[e0,<-z,qa4]
  have s1':∀t x y,qt Tryz.prog .shr t x y (.int .u32 (n:Int)) (.int .u64 1)=some (.int .u32 ((n/2:Nat):Int)):=s1
  have s2':∀t x y,qt Tryz.prog .and t x y (.int .u32 (n:Int)) (.int .u32 1)=some (.int .u32 ((n%2:Nat):Int)):=s2
  unfold qaf at*
  rcases Nat.mod_two_eq_zero_or_one n with q|q
  ·have x3:=fun t x y=>qbq Tryz.prog t x y (n/2) 0 qc qg
   rw[q]at s2'
   have s2'':∀t x y,qt Tryz.prog .and t x y (.int .u32 (n:Int)) (.int .u32 1)=some (.int .u32 0):=s2'
   have x3':∀t x y,qt Tryz.prog .xor t x y (.int .u32 ((n/2:Nat):Int)) (.int .u32 0)=some (.int .u32 ((n/2^^^0:Nat):Int)):=x3
   rw[if_neg qc]
   clear z ih s1 s2 s2' x3
   generalize((n/2:Nat):Int)=A at*
   generalize((n/2^^^0:Nat):Int)=C at*
   generalize((j+1:Nat):Int)=J at*
   simp[-qO,-jp,hlt,s1',s2'',cneg,cand,x3',w]
  ·have x3:=fun t x y=>qbq Tryz.prog t x y (n/2) 2197175160 qc qg
   rw[q]at s2'
   have s2'':∀t x y,qt Tryz.prog .and t x y (.int .u32 (n:Int)) (.int .u32 1)=some (.int .u32 1):=s2'
   have x3':∀t x y,qt Tryz.prog .xor t x y (.int .u32 ((n/2:Nat):Int)) (.int .u32 2197175160)=some (.int .u32 ((n/2^^^2197175160:Nat):Int)):=x3
   rw[if_pos q]
   clear z ih s1 s2 s2' x3
   generalize((n/2:Nat):Int)=A at*
   generalize((n/2^^^2197175160:Nat):Int)=C at*
   generalize((j+1:Nat):Int)=J at*
   simp[-qO,-jp,hlt,s1',s2'',cneg,cand,x3',w]
theorem qor(b:Nat):∀(m i:Nat) (hp:Hp),i+m=256->hp.rd b 0=some (LI .u32 (xe i))->B152_3 (.ptr b 0 0) (.int .i64 (i:Int)) hp=some (.ptr b 0 0,hp.put b 0 (LI .u32 (xe 256))):=by
 intro m
 induction m with
 |zero=>
  intro i hp hi h
  have:i=256:=qc
  subst this
  rw[qa5,zR h]
  simp
 |succ m ih=>
  intro i hp hi h
  have hlt:(i:Int)<256:=qc
  have w1:IntKind.u32.wrap (i:Int)=(i:Int):=qV qc qc
  have w2:IntKind.i64.wrap ((i:Int)+1)=((i+1:Nat):Int):=qi
  have inn:=qzi (.ptr b 0 0) (.int .i64 (i:Int)) (.int .i64 (i:Int)) hp 8 0 i rfl qc
  have ix:idx 256 (.int .i64 (i:Int))=some i:=zd .i64 qc
  have pn:=QM .u32 (xe i) i (JU i:Int) (by rw[qds qc];omega)
  rw[qrf qc]at pn
  have z:=ih (i+1) (hp.put b 0 (LI .u32 (xe (i+1)))) qc (qr _ _ _)
  rw[qx]at z
  have en:B152_7 (.ptr b 0 0) (.int .i64 (i:Int)) (.int .u32 ((JU i:Nat):Int)) (.int .i64 (i:Int)) (.int .i64 8) hp=some (.ptr b 0 0,hp.put b 0 (LI .u32 (xe 256))):=by
   rw[<-z,qa4]
   generalize LI .u32 (xe (i+1))=T at*
   generalize LI .u32 (xe i)=T0 at*
   generalize((JU i:Nat):Int)=C at*
   generalize((i+1:Nat):Int)=J at*
   simp[ix,h,pn,w2]
  have e0:JU i=KO 8 i:=rfl
  rw[e0]at en
  rw[<-en,<-inn,qa5]
  simp[hlt,Jc,w1]
theorem qsi(hp:Hp):run cxX 152 [] hp=some (.ptr hp.next 0 0,(hp.new (LI .u32 (xe 0))).put hp.next 0 (LI .u32 (xe 256))):=by
 rw[qm9]
 exact qor hp.next 256 0 _ rfl (qB _ _)
theorem zay(n:Nat)(h:n<4294967296):unV Tryz.prog .xor (.int .u32 (n:Int))=some (.int .u32 ((4294967295-n:Nat):Int)):=by
 show some (Value.int .u32 (IntKind.u32.wrap ((BitVec.ofInt 32 4294967295^^^BitVec.ofInt 32 (n:Int)).toNat:Nat)))=_
 have e:BitVec.ofInt 32 4294967295=BitVec.allOnes 32:=qg
 rw[e,BitVec.allOnes_xor,BitVec.toNat_not,vN 32 n h,qV qc qc]
section
variable (b k:Nat)(l:List Int)(hl:l.length<=1000000000)(h8:∀n∈l,0<=n/\n<256)(hp:Hp)(h:hp.rd b 0=some (LI .u32 (xe 256)))
include hl h8 h
theorem qrh:∀(r:List Int) (i n:Nat),l.drop i=r->i<=l.length->n<4294967296->B86_4 (.ptr b 0 0) (.int .u32 (n:Int)) (S k 1 (LI .u8 l)) (.int .i64 (l.length:Int)) (.int .i64 (i:Int)) hp=some (.sc (.int .u32 ((4294967295-qvc r n:Nat):Int)),hp):=by
 intro r
 induction r with
 |nil=>
  intro i n hr hi hn
  have:=qA hr
  have hlt:¬((i:Int)<(l.length:Int)):=qc
  have un:=zay n hn
  have e0:qvc [] n=n:=rfl
  rw[e0,qg2]
  generalize((4294967295-n:Nat):Int)=R at*
  simp[hlt,un]
 |cons c r ih=>
  intro i n hr hi hn
  obtain⟨e1,e2,hi',e3⟩:=qu hr
  have hc:=h8 c (zgo e1)
  obtain⟨d,hd⟩:∃d:Nat,c=(d:Int):=⟨c.toNat,qc⟩
  have hlt:(i:Int)<(l.length:Int):=qc
  have hf:=qzk hn hc
  have z:=ih (i+1) (qjr n c) e2 qc hf
  have e0:qvc (c::r) n=qvc r (qjr n c):=rfl
  have s1:∀t x y,qt Tryz.prog .shr t x y (.int .u32 (n:Int)) (.int .u64 8)=some (.int .u32 ((n/256:Nat):Int)):=fun t x y=>qb3 Tryz.prog t x y n 8 qg .u64
  have w1:IntKind.u8.wrap (n:Int)=((n%256:Nat):Int):=by rw[IntKind.wrap_u8];omega
  have x1:=fun t x y=>zar Tryz.prog t x y (n%256) d qc qc
  have hj:n%256^^^d<256:=zas qc qc
  have ix:idx 256 (.int .u8 ((n%256^^^d:Nat):Int))=some (n%256^^^d):=zd .u8 hj
  have gs:=vK .u32 (xe 256) (n%256^^^d) (by rw[qds (zgm _)];exact hj)
  rw[qrg hj]at gs
  have ht:JU (n%256^^^d)<4294967296:=KN 8 qc
  have x2:=fun t x y=>qbq Tryz.prog t x y (n/256) (JU (n%256^^^d)) qc ht
  have ef:qjr n c=n/256^^^JU (n%256^^^d):=by unfold qjr;rw[hd,zgu]
  have w2:IntKind.i64.wrap ((i:Int)+1)=((i+1:Nat):Int):=qi
  have gs0:∀(v:Value),qj [.sc v] 0=some v:=fun _=>rfl
  have en:∀h,l[i]'h=(d:Int):=fun h=>by rw[<-hd];exact e3
  rw[e0,<-z,ef,qg2]
  clear z ih
  generalize LI .u32 (xe 256)=T at*
  generalize((n/256^^^JU (n%256^^^d):Nat):Int)=F at*
  generalize JU (n%256^^^d)=C at*
  generalize n%256^^^d=D at*
  generalize((n%256:Nat):Int)=M at*
  generalize((n/256:Nat):Int)=Q at*
  generalize((i+1:Nat):Int)=J at*
  simp[-jp,hlt,hi',gs0,en,s1,kO,w1,x1,ix,h,gs,x2,w2]
end
theorem qk0(k:Nat)(l:List Int)(hl:l.length<=1000000000)(h8:∀n∈l,0<=n/\n<256)(hp:Hp):∃hp',run cxX 86 [S k 1 (LI .u8 l)] hp=some (.sc (.int .u32 (zm l:Int)),hp'):=by
 have o:=qsi hp
 refine⟨(hp.new (LI .u32 (xe 0))).put hp.next 0 (LI .u32 (xe 256)),?_⟩
 generalize hH:(hp.new (LI .u32 (xe 0))).put hp.next 0 (LI .u32 (xe 256))=H at*
 have hr:H.rd hp.next 0=some (LI .u32 (xe 256)):=by rw[<-hH];exact qr _ _ _
 have s:=qrh hp.next (rk k) l hl h8 H hr l 0 4294967295 rfl (zhf _) qg
 have s':B86_4 (.ptr hp.next 0 0) (.int .u32 4294967295) (S (rk k) 1 (LI .u8 l)) (.int .i64 (l.length:Int)) (.int .i64 0) H=some (.sc (.int .u32 (zm l:Int)),H):=s
 rw[E86]
 simp[o,s']
def xj(n:Nat):List Int:=[((n%256:Nat):Int),((n/256%256:Nat):Int),((n/65536%256:Nat):Int),((n/16777216%256:Nat):Int)]
def zr(l:List Int):List Int:=l++xj (zm l)
theorem jR(n:Nat):(xj n).length=4:=rfl
theorem xK(l:List Int):(zr l).length=l.length+4:=by simp[zr,xj]
theorem Zn{n:Nat}:∀x∈xj n,0<=x/\x<256:=by
 intro x hx
 simp only[xj,zgn,List.not_mem_nil,or_false]at hx
 omega
theorem qq8(n k m:Nat)(hk:k<=32)(hm:m=2^k)(hn:n<4294967296)(t:TypeId)(x y:Operand):qt Tryz.prog .shr t x y (.int .u32 (n:Int)) (.int .u64 (k:Int))=some (.int .u32 ((n/m:Nat):Int)):=by
 subst hm
 exact qb3 Tryz.prog t x y n k hk .u64
theorem wr8(n:Nat):IntKind.u8.wrap (n:Int)=((n%256:Nat):Int):=by rw[IntKind.wrap_u8];omega
theorem qhs(n:Nat)(hn:n<4294967296)(t:TypeId)(x y:Operand):qt Tryz.prog .shr t x y (.int .u32 (n:Int)) (.int .u64 8)=some (.int .u32 ((n/256:Nat):Int))/\
 qt Tryz.prog .shr t x y (.int .u32 (n:Int)) (.int .u64 16)=some (.int .u32 ((n/65536:Nat):Int))/\qt Tryz.prog .shr t x y (.int .u32 (n:Int)) (.int .u64 24)=some (.int .u32 ((n/16777216:Nat):Int)):=
 ⟨qq8 n 8 256 qg qg hn t x y,qq8 n 16 65536 qg qg hn t x y,qq8 n 24 16777216 qg qg hn t x y⟩
theorem vv(k:Nat)(l:List Int)(hl:l.length<=900000)(h8:∀n∈l,0<=n/\n<256)(hp:Hp):run cxX 82 [S k 1 (LI .u8 l)] hp=some (S 1 1 (LI .u8 (zr l)),hp):=by
 obtain⟨hp',sm⟩:=qk0 (rk k) l qc h8 hp0
 have hc:=ql6 l
 have wp:=qhs (zm l) hc
 have ap:=fun k=>Va .u8 [] 1 (.inl rfl) 1 qg k l (by simpa using(by omega:l.length<=1000000))
 have ap2:=Va .u8 l 1 (.inl rfl) 1 qg 1 (xj (zm l)) (by rw[jR];omega)
 have w0:=wr8 (zm l)
 have w1:=wr8 (zm l/256)
 have w2:=wr8 (zm l/65536)
 have w3:=wr8 (zm l/16777216)
 have e1:LI .u8 (xj (zm l))=[.sc (.int .u8 ((zm l%256:Nat):Int)),.sc (.int .u8 ((zm l/256%256:Nat):Int)),.sc (.int .u8 ((zm l/65536%256:Nat):Int)),.sc (.int .u8 ((zm l/16777216%256:Nat):Int))]:=rfl
 rw[e1]at ap2
 have e2:LI .u8 (l++xj (zm l))=LI .u8 (zr l):=rfl
 rw[e2]at ap2
 rw[E82]
 simp at ap
 generalize LI .u8 (zr l)=Z at*
 generalize((zm l%256:Nat):Int)=A0 at*
 generalize((zm l/256%256:Nat):Int)=A1 at*
 generalize((zm l/65536%256:Nat):Int)=A2 at*
 generalize((zm l/16777216%256:Nat):Int)=A3 at*
 generalize((zm l/256:Nat):Int)=B1 at*
 generalize((zm l/65536:Nat):Int)=B2 at*
 generalize((zm l/16777216:Nat):Int)=B3 at*
 simp[sm,kO,w0,w1,w2,w3,wp,ap,ap2]
theorem JC(b n:Nat)(l:List Int)(hl:l.length+4<=1000000)(hn:n<4294967296)(hp:Hp)(h:hp.rd b 0=some (Wc l)):run cxX 81 [.ptr b 0 0,.sc (.int .u32 (n:Int))] hp=some (.tup [],hp.put b 0 (Wc (l++xj n))):=by
 have wp:=qhs n hn
 have pw:=zX b l (xj n) 0 (by rw[jR];exact hl) hp h
 have w0:=wr8 n
 have w1:=wr8 (n/256)
 have w2:=wr8 (n/65536)
 have w3:=wr8 (n/16777216)
 have e1:LI .u8 (xj n)=[.sc (.int .u8 ((n%256:Nat):Int)),.sc (.int .u8 ((n/256%256:Nat):Int)),.sc (.int .u8 ((n/65536%256:Nat):Int)),.sc (.int .u8 ((n/16777216%256:Nat):Int))]:=rfl
 rw[e1]at pw
 rw[E81]
 generalize hp.put b 0 (Wc (l++xj n))=H at*
 generalize((n%256:Nat):Int)=A0 at*
 generalize((n/256%256:Nat):Int)=A1 at*
 generalize((n/65536%256:Nat):Int)=A2 at*
 generalize((n/16777216%256:Nat):Int)=A3 at*
 generalize((n/256:Nat):Int)=B1 at*
 generalize((n/65536:Nat):Int)=B2 at*
 generalize((n/16777216:Nat):Int)=B3 at*
 simp[kO,w0,w1,w2,w3,wp,pw]
theorem XG(b:Nat)(l:List Int)(hp:Hp)(h:hp.rd b 0=some (Wc l)):run cxX 80 [.ptr b 0 0] hp=some (.sc (.int .i64 (l.length:Int)),hp):=by
 rw[E80]
 simp[h,qo]
structure Frm where
 nm:List Int
 kd:Int
 pl:List Int
structure Frm.Ok (f : Frm) : Prop where
 n1:1<=f.nm.length/\f.nm.length<=255
 nb:Bt f.nm
 kd:0<=f.kd/\f.kd<6
 pl:f.pl.length<=800000
 pb:Bt f.pl
def frA(f:Frm)(k:Nat):List AV:=[.sc (st f.nm),.sc (.int .u8 f.kd),S k 1 (LI .u8 f.pl)]
def frH(f:Frm):List Int:=[(f.nm.length:Int)]++f.nm++[f.kd]++xj f.pl.length
def yi(f:Frm):List Int:=zr (frH f)++zr f.pl
theorem Xj(f:Frm):(frH f).length=f.nm.length+6:=by simp[frH,xj]
theorem Xi(f:Frm):(yi f).length=f.nm.length+10+f.pl.length+4:=by
 unfold yi
 rw[zgi,xK,xK,Xj]
 omega
theorem qy7{f:Frm}(h:f.Ok):∀x∈frH f,0<=x/\x<256:=by
 intro x hx
 have h1:=h.n1;have h2:=h.kd
 unfold frH at hx
 rcases zg1.mp hx with q|q
 ·rcases zg1.mp q with q|q
  ·rcases zg1.mp q with q|q
   ·rw[zhn.mp q];omega
   ·exact h.nb x q
  ·rw[zhn.mp q];omega
 ·exact Zn x q
theorem qin(f:Frm)(k:Nat)(h:f.Ok)(hp:Hp):run cxX 83 [.agg (frA f k)] hp=some (.sc (.int .i64 0),hp):=by
 have h1:=h.n1;have h2:=h.kd;have h3:=h.pl
 have sl:=Xw f.nm
 have c1:¬((f.nm.length:Int)<1):=qc
 have c2:¬((255:Int)<(f.nm.length:Int)):=qc
 have c3:¬((6:Int)<=f.kd):=qc
 have c4:¬((1048576:Int)<(f.pl.length:Int)):=qc
 unfold frA
 rw[E83]
 generalize st f.nm=N at*
 simp[qj,qo,sl,c1,c2,c3,c4,qv4]
theorem qm7(f:Frm)(k:Nat)(h:f.Ok)(hp:Hp):∃hp',run cxX 37 [.agg (frA f k)] hp=some (.tup [S 1 1 (LI .u8 (yi f)),.sc (.int .i64 0)],hp'):=by
 have h1:=h.n1;have h2:=h.kd;have h3:=h.pl
 have ck:=qin f (rk k) h hp0
 have sl:=Xw f.nm
 have sb:=Xx h.nb
 have sb':List.map (fun x:UInt8=>AV.sc (.int .u8 ((x.toNat:Nat):Int))) (yg f.nm)=LI .u8 f.nm:=sb
 have w1:IntKind.u8.wrap (f.nm.length:Int)=(f.nm.length:Int):=zJ qc qc
 have w2:IntKind.u32.wrap (f.pl.length:Int)=(f.pl.length:Int):=qV qc qc
 have wc0:(hp.new [S 2 1 []]).rd hp.next 0=some (Wc []):=qB hp _
 have b1:=zk hp.next [] (f.nm.length:Int) qf (hp.new [S 2 1 []]) wc0
 have b2:=fun k=>zX hp.next [(f.nm.length:Int)] f.nm k qh ((hp.new [S 2 1 []]).put hp.next 0 (Wc [(f.nm.length:Int)])) (qr _ _ _)
 have b3:=zk hp.next ([(f.nm.length:Int)]++f.nm) f.kd qh ((hp.new [S 2 1 []]).put hp.next 0 (Wc ([(f.nm.length:Int)]++f.nm))) (qr _ _ _)
 have b4:=JC hp.next f.pl.length ([(f.nm.length:Int)]++f.nm++[f.kd]) qh qc ((hp.new [S 2 1 []]).put hp.next 0 (Wc ([(f.nm.length:Int)]++f.nm++[f.kd]))) (qr _ _ _)
 have b5:=yG hp.next (frH f) (by rw[Xj];omega) ((hp.new [S 2 1 []]).put hp.next 0 (Wc (frH f))) (qr _ _ _)
 have c1:=vv 0 (frH f) (by rw[Xj];omega) (qy7 h) hp0
 have c2:=vv (rk k) f.pl qc h.pb hp0
 have ap:=Va .u8 (zr (frH f)) 1 (.inl rfl) 1 qg 1 (zr f.pl) (by rw[xK,xK,Xj];omega)
 have eY:zr (frH f)++zr f.pl=yi f:=rfl
 have eH:[(f.nm.length:Int)]++f.nm++[f.kd]++xj f.pl.length=frH f:=rfl
 rw[eY]at ap
 rw[qx]at b2 b3 b4
 rw[eH]at b4
 have b1:run cxX 73 [.ptr hp.next 0 0,.sc (.int .u8 (f.nm.length:Int))] (hp.new [S 2 1 []])=some (.tup [],(hp.new [S 2 1 []]).put hp.next 0 (Wc [(f.nm.length:Int)])):=b1
 refine⟨(hp.new [S 2 1 []]).put hp.next 0 (Wc (frH f)),?_⟩
 unfold frA at ck⊢
 rw[E37]
 have ass:KZ (st f.nm)=some ⟨(yg f.nm).toArray⟩:=rfl
 generalize(hp.new [S 2 1 []]).put hp.next 0 (Wc ([(f.nm.length:Int)]++f.nm++[f.kd]))=H3 at*
 generalize(hp.new [S 2 1 []]).put hp.next 0 (Wc ([(f.nm.length:Int)]++f.nm))=H2 at*
 generalize(hp.new [S 2 1 []]).put hp.next 0 (Wc [(f.nm.length:Int)])=H1 at*
 generalize st f.nm=N at*
 generalize LI .u8 f.nm=NB at*
 generalize LI .u8 (yi f)=YB at*
 generalize frH f=HB at*
 generalize zr f.pl=PB at*
 simp[-List.map_map,qn,qj,qo,ck,sl,jg,w1,b1,ass,sb,sb',b2,b3,Jc,w2,b4,b5,c1,c2,ap]
theorem qb1(k:Nat)(cs:List AV)(h:Nat)(hh:h<=cs.length)(hne:cs≠[]):jb 1 (S k 1 cs) none (some (.int .i64 (h:Int))) none=some (S 0 1 (cs.take h)):=by
 have b1:qC 0 ((cs.length:Nat):Int) none cs.length=some cs.length:=rfl
 have b2:qC 0 ((cs.length:Nat):Int) (some (.int .i64 (h:Int))) cs.length=some h:=by
  have:(0:Int)<=(h:Int)/\(h:Int)<=((cs.length:Nat):Int):=⟨zja h,qc⟩
  simp only[qC,YP,zgh,this,and_self,if_true,zgu]
 have key:(qC 0 ((cs.length:Nat):Int) none cs.length).bind (fun m=>(qC 0 (m:Int) (some (.int .i64 (h:Int))) cs.length).bind fun u=>(qC 0 (u:Int) none 0).bind fun l=>some (AV.sl 1 ((cs.drop (l*1)).take ((u-l)*1))))=some (AV.sl 1 (cs.take h)):=by
  rw[b1,zgh,b2,zgh]
  show some (AV.sl 1 ((cs.drop (0*1)).take ((h-0)*1)))=_
  rw[zh7,zjh,Nat.sub_zero,zhu]
 rcases zi k 1 cs with e|e|⟨e,e'⟩
 ·rw[e];simp only[jb,if_true];exact key
 ·rw[e];simp only[jb,if_true];exact key
 ·exact absurd e' hne
theorem qb8(k:Nat)(m:List Int)(a b c d:Int)(hl:m.length<=900000)(h8:∀n∈m,0<=n/\n<256)(hp:Hp):run cxX 41 [S k 1 (LI .u8 (m++[a,b,c,d]))] hp=some (.sc (.bool (decide ([a,b,c,d]=xj (zm m)))),hp):=by
 obtain⟨hp',sm⟩:=qk0 0 m qc h8 hp0
 have hc:=ql6 m
 have wp:=qhs (zm m) hc
 have w0:=wr8 (zm m)
 have w1:=wr8 (zm m/256)
 have w2:=wr8 (zm m/65536)
 have w3:=wr8 (zm m/16777216)
 have eL:LI .u8 (m++[a,b,c,d])=LI .u8 m++[.sc (.int .u8 a),.sc (.int .u8 b),.sc (.int .u8 c),.sc (.int .u8 d)]:=by simp[LI]
 have ml:(LI .u8 m).length=m.length:=qf
 have len:(LI .u8 m++[AV.sc (.int .u8 a),.sc (.int .u8 b),.sc (.int .u8 c),.sc (.int .u8 d)]).length=m.length+4:=qf
 have sl:=qb1 (rk k) (LI .u8 m++[.sc (.int .u8 a),.sc (.int .u8 b),.sc (.int .u8 c),.sc (.int .u8 d)]) m.length (by rw[len];omega) qf
 rw[<-ml,zji,ml]at sl
 have z4:IntKind.i64.wrap ((m.length:Int)+4-4)=(m.length:Int):=qi
 have z0:IntKind.i64.wrap (m.length:Int)=(m.length:Int):=qi
 have z1:IntKind.i64.wrap ((m.length:Int)+1)=((m.length+1:Nat):Int):=qi
 have z2:IntKind.i64.wrap ((m.length:Int)+2)=((m.length+2:Nat):Int):=qi
 have z3:IntKind.i64.wrap ((m.length:Int)+3)=((m.length+3:Nat):Int):=qi
 have gg:∀j,(LI .u8 m++[AV.sc (.int .u8 a),.sc (.int .u8 b),.sc (.int .u8 c),.sc (.int .u8 d)])[m.length+j]?=[AV.sc (.int .u8 a),.sc (.int .u8 b),.sc (.int .u8 c),.sc (.int .u8 d)][j]?:=by
  intro j
  rw[zgv (by rw[ml];omega),ml]
  congr 1
  omega
 have ix:∀j x,[AV.sc (.int .u8 a),.sc (.int .u8 b),.sc (.int .u8 c),.sc (.int .u8 d)][j]?=some x->jc 1 (S (rk k) 1 (LI .u8 m++[AV.sc (.int .u8 a),.sc (.int .u8 b),.sc (.int .u8 c),.sc (.int .u8 d)])) (.int .i64 ((m.length+j:Nat):Int))=some [x]:=by
  intro j x hx
  rw[JQ,if_pos qc,zgu,gg,hx]
  rfl
 have i0:jc 1 (S (rk k) 1 (LI .u8 m++[AV.sc (.int .u8 a),.sc (.int .u8 b),.sc (.int .u8 c),.sc (.int .u8 d)])) (.int .i64 (m.length:Int))=some [.sc (.int .u8 a)]:=ix 0 _ rfl
 have i1:=ix 1 _ rfl
 have i2:=ix 2 _ rfl
 have i3:=ix 3 _ rfl
 have gs0:∀(v:Value),qj [.sc v] 0=some v:=fun _=>rfl
 have hlt:¬((m.length:Int)+4<4):=qc
 have ew:([a,b,c,d]=xj (zm m))↔(a=((zm m%256:Nat):Int)/\b=((zm m/256%256:Nat):Int)/\c=((zm m/65536%256:Nat):Int)/\d=((zm m/16777216%256:Nat):Int)):=by simp[xj]
 have ed:decide ([a,b,c,d]=xj (zm m))=decide (a=((zm m%256:Nat):Int)/\b=((zm m/256%256:Nat):Int)/\c=((zm m/65536%256:Nat):Int)/\d=((zm m/16777216%256:Nat):Int)):=decide_eq_decide.mpr ew
 have vf:∀k,zA (S k 1 (LI .u8 m++[AV.sc (.int .u8 a),.sc (.int .u8 b),.sc (.int .u8 c),.sc (.int .u8 d)]))=some (m.length+4):=fun k=>by rw[zG,len]
 have c4:((m.length+4:Nat):Int)=(m.length:Int)+4:=qc
 rw[ed,eL,E41]
 clear gg ix ew ed
 generalize((m.length+1:Nat):Int)=J1 at*
 generalize((m.length+2:Nat):Int)=J2 at*
 generalize((m.length+3:Nat):Int)=J3 at*
 generalize LI .u8 m++[AV.sc (.int .u8 a),.sc (.int .u8 b),.sc (.int .u8 c),.sc (.int .u8 d)]=Z at*
 generalize((zm m%256:Nat):Int)=A0 at*
 generalize((zm m/256%256:Nat):Int)=A1 at*
 generalize((zm m/65536%256:Nat):Int)=A2 at*
 generalize((zm m/16777216%256:Nat):Int)=A3 at*
 generalize((zm m/256:Nat):Int)=B1 at*
 generalize((zm m/65536:Nat):Int)=B2 at*
 generalize((zm m/16777216:Nat):Int)=B3 at*
 by_cases q0:a=A0
 ·by_cases q1:b=A1
  ·by_cases q2:c=A2
   ·simp[-JQ,-zG,vf,hlt,z0,z4,sl,sm,i0,i1,i2,i3,gs0,kO,w0,w1,w2,w3,wp,z1,z2,z3,q0,q1,q2]
   ·simp[-JQ,-zG,vf,hlt,z0,z4,sl,sm,i0,i1,i2,i3,gs0,kO,w0,w1,w2,w3,wp,z1,z2,z3,q0,q1,q2]
  ·simp[-JQ,-zG,vf,hlt,z0,z4,sl,sm,i0,i1,i2,i3,gs0,kO,w0,w1,w2,w3,wp,z1,z2,z3,q0,q1]
 ·simp[-JQ,-zG,vf,hlt,z0,z4,sl,sm,i0,i1,i2,i3,gs0,kO,w0,w1,w2,w3,wp,z1,z2,z3,q0]
theorem qiw(P:Program)(t:TypeId)(x y:Operand)(a b:Nat)(ha:a<4294967296)(hb:b<4294967296):qt P .or t x y (.int .u32 (a:Int)) (.int .u32 (b:Int))=some (.int .u32 ((a|||b:Nat):Int)):=by
 have:=zks (n:=32) ha hb
 rw[jk]
 show some (Value.int .u32 (IntKind.u32.wrap ((BitVec.ofInt 32 (a:Int)|||BitVec.ofInt 32 (b:Int)).toNat:Nat)))=_
 rw[zkg,vN 32 a ha,vN 32 b hb,qV qc qc]
theorem qb4(P:Program)(t:TypeId)(x y:Operand)(a k m:Nat)(hk:k<=32)(hm:m=2^k)(h:a*m<4294967296):qt P .shl t x y (.int .u32 (a:Int)) (.int .u64 (k:Int))=some (.int .u32 ((a*m:Nat):Int)):=by
 subst hm
 rw[jq P t x y _ _ _ _ qc]
 have e:min (k:Int).toNat IntKind.u32.bits=k:=by
  show min (k:Int).toNat 32=k
  omega
 have e2:(2:Int)^k=((2^k:Nat):Int):=by rw[Int.natCast_pow];rfl
 rw[e,e2,<-Int.natCast_mul,qV qc qc]
theorem qtb(n:Nat)(hn:n<4294967296):(n%256|||(n/256%256)*256)=n%65536/\(n%65536|||(n/65536%256)*65536)=n%16777216/\(n%16777216|||(n/16777216%256)*16777216)=n:=by
 have key:∀i b a,a<2^i->a|||b*2^i=b*2^i+a:=by
  intro i b a h
  rw[zkl,zhe b,zik h]
 have k1:=key 8 (n/256%256) (n%256) (by show n%256<256;omega)
 have k2:=key 16 (n/65536%256) (n%65536) (by show n%65536<65536;omega)
 have k3:=key 24 (n/16777216%256) (n%16777216) (by show n%16777216<16777216;omega)
 refine⟨k1.trans ?_,k2.trans ?_,k3.trans ?_⟩
 ·show n/256%256*256+n%256=_;omega
 ·show n/65536%256*65536+n%65536=_;omega
 ·show n/16777216%256*16777216+n%16777216=_;omega
theorem Wf(b k:Nat)(l:List Int)(hl:l.length<=1000000000)(n:Nat)(hn:n<4294967296)(p:Nat)(rest:List Int)(hd:l.drop p=xj n++rest)(hp:Hp)(hpl:p<=l.length)(hr:hp.rd b 0=some (Rc k l p 0)):
 run cxX 43 [.ptr b 0 0] hp=some (.sc (.int .u32 (n:Int)),hp.put b 0 (Rc k l (p+4) 0)):=by
 obtain⟨t,rb⟩:=qib b k l p 0 hp 4 hl qg hpl hr
 have hlen:(l.drop p).length=l.length-p:=zi4
 rw[hd,zgi,jR]at hlen
 have hL:¬(rL l p 0<4):=by unfold rL;rw[if_pos rfl];omega
 rw[if_neg hL,if_neg qg,hd,<-jR n,zji,jR]at rb
 have rb:run cxX 87 [.ptr b 0 0,.sc (.int .i64 4)] hp=some (S t 1 (LI .u8 (xj n)),hp.put b 0 (Rc k l (p+4) 0)):=rb
 obtain⟨o1,o2,o3⟩:=qtb n hn
 obtain⟨a0,h0⟩:∃a,a=n%256:=⟨_,rfl⟩
 obtain⟨a1,h1⟩:∃a,a=n/256%256:=⟨_,rfl⟩
 obtain⟨a2,h2⟩:∃a,a=n/65536%256:=⟨_,rfl⟩
 obtain⟨a3,h3⟩:∃a,a=n/16777216%256:=⟨_,rfl⟩
 obtain⟨c1,k1⟩:∃a,a=n/256%256*256:=⟨_,rfl⟩
 obtain⟨c2,k2⟩:∃a,a=n/65536%256*65536:=⟨_,rfl⟩
 obtain⟨c3,k3⟩:∃a,a=n/16777216%256*16777216:=⟨_,rfl⟩
 obtain⟨d1,j1⟩:∃a,a=n%65536:=⟨_,rfl⟩
 obtain⟨d2,j2⟩:∃a,a=n%16777216:=⟨_,rfl⟩
 rw[<-h0,<-k1,<-j1]at o1
 rw[<-j1,<-k2,<-j2]at o2
 rw[<-j2,<-k3]at o3
 have e1:LI .u8 (xj n)=[.sc (.int .u8 (a0:Int)),.sc (.int .u8 (a1:Int)),.sc (.int .u8 (a2:Int)),.sc (.int .u8 (a3:Int))]:=by rw[h0,h1,h2,h3];rfl
 rw[e1]at rb
 have w0:IntKind.u32.wrap (a0:Int)=(a0:Int):=qV qc qc
 have w1:IntKind.u32.wrap (a1:Int)=(a1:Int):=qV qc qc
 have w2:IntKind.u32.wrap (a2:Int)=(a2:Int):=qV qc qc
 have w3:IntKind.u32.wrap (a3:Int)=(a3:Int):=qV qc qc
 have s1:∀t x y,qt Tryz.prog .shl t x y (.int .u32 (a1:Int)) (.int .u64 8)=some (.int .u32 (c1:Int)):=fun t x y=>by rw[k1,<-h1];exact qb4 Tryz.prog t x y a1 8 256 qg qg qc
 have s2:∀t x y,qt Tryz.prog .shl t x y (.int .u32 (a2:Int)) (.int .u64 16)=some (.int .u32 (c2:Int)):=fun t x y=>by rw[k2,<-h2];exact qb4 Tryz.prog t x y a2 16 65536 qg qg qc
 have s3:∀t x y,qt Tryz.prog .shl t x y (.int .u32 (a3:Int)) (.int .u64 24)=some (.int .u32 (c3:Int)):=fun t x y=>by rw[k3,<-h3];exact qb4 Tryz.prog t x y a3 24 16777216 qg qg qc
 have r1:=fun t x y=>qiw Tryz.prog t x y a0 c1 qc qc
 have r2:=fun t x y=>qiw Tryz.prog t x y d1 c2 qc qc
 have r3:=fun t x y=>qiw Tryz.prog t x y d2 c3 qc qc
 rw[o1]at r1
 rw[o2]at r2
 rw[o3]at r3
 rw[E43]
 clear e1 o1 o2 o3 hd h0 h1 h2 h3 k1 k2 k3 j1 j2
 generalize hp.put b 0 (Rc k l (p+4) 0)=H at*
 simp[-jk,rb,qj,qzg,w0,w1,w2,w3,s1,s2,s3,r1,r2,r3]
structure Ie where
 nm:List Int
 po:Int
 sz:Int
def xc(e:Ie):List AV:=[.sc (st e.nm),.sc (.int .i64 e.po),.sc (.int .i64 e.sz)]
theorem wM(e:Ie):El xc 3 e:=⟨rfl,rfl,rfl⟩
def gtN(a b:List Int):Bool:=!(Zr a b||decide (a=b))
def XU:List Int->List (List Int)->Bool
 |_,[]=>true
 |p,a::r=>gtN a p&&XU a r
def JG:List (List Int)->Bool
 |[]=>true
 |a::r=>XU a r
structure Xok (l : List Ie) : Prop where
 nl:∀e∈l,1<=e.nm.length/\e.nm.length<=255
 nb:∀e∈l,Bt e.nm
 po:∀e∈l,0<=e.po/\e.po<=1048576
 sz:∀e∈l,1<=e.sz/\e.sz<=1048576
 cs:∀(i:Nat) (e e':Ie),l[i]?=some e->l[i+1]?=some e'->e'.po=e.po+e.sz
 len:l.length<=1000
section
variable (l:List Ie)(h:Xok l)(k k':Nat)(hp:Hp)
include h
theorem qwm(i:Nat)(e:Ie)(he:l[i]?=some e) (hi0:i=0):
 B84_4 (S k 3 (qp xc l)) (S k' 3 (qp xc l)) (.int .i64 (l.length:Int)) (.int .i64 (i:Int)) hp=B84_4 (S k 3 (qp xc l)) (S k' 3 (qp xc l)) (.int .i64 (l.length:Int)) (.int .i64 ((i+1:Nat):Int)) hp:=by
 have hi:=(zgq.mp he).1
 have hm:=zgo he
 have h1:=h.nl e hm;have h3:=h.po e hm;have h4:=h.sz e hm;have h5:=h.len
 have ix:=QW xc 3 qg k' (fun x _=>wM x) he
 have hlt:(i:Int)<(l.length:Int):=qc
 have sl:=Xw e.nm
 have w:IntKind.i64.wrap ((i:Int)+1)=((i+1:Nat):Int):=qi
 have c1:¬((e.nm.length:Int)<1):=qc
 have c2:¬((255:Int)<(e.nm.length:Int)):=qc
 have c3:¬(e.po<0):=qc
 have c4:¬((1048576:Int)<e.po):=qc
 have c5:¬(e.sz<1):=qc
 have c6:¬((1048576:Int)<e.sz):=qc
 have c7:¬(0<i):=qc
 conv=>lhs;rw[Jp]
 generalize((i+1:Nat):Int)=J at*
 generalize qp xc l=R at*
 unfold xc at ix
 generalize st e.nm=N at*
 simp[hi,hlt,ix,qj,qn,qm,sl,c1,c2,c3,c4,c5,c6,c7,w,Vi,Yc,qal,qak]
theorem qwl(i:Nat)(e p:Ie)(he:l[i+1]?=some e) (hq:l[i]?=some p):
 B84_4 (S k 3 (qp xc l)) (S k' 3 (qp xc l)) (.int .i64 (l.length:Int)) (.int .i64 ((i+1:Nat):Int)) hp=if gtN e.nm p.nm=true then B84_4 (S k 3 (qp xc l)) (S k' 3 (qp xc l)) (.int .i64 (l.length:Int)) (.int .i64 ((i+2:Nat):Int)) hp else some (.sc (.int .i64 8),hp):=by
 have hi:=(zgq.mp he).1
 have hm:=zgo he
 have hm':=zgo hq
 have h1:=h.nl e hm;have h3:=h.po e hm;have h4:=h.sz e hm;have h5:=h.len
 have h6:=h.po p hm';have h7:=h.sz p hm'
 have cs:=h.cs i p e hq he
 have ix:=QW xc 3 qg k' (fun x _=>wM x) he
 have iy:=QW xc 3 qg (rk k) (fun x _=>wM x) hq
 have hlt:((i+1:Nat):Int)<(l.length:Int):=qc
 have sl:=Xw e.nm
 have w:IntKind.i64.wrap (((i+1:Nat):Int)+1)=((i+2:Nat):Int):=qi
 have w1:IntKind.i64.wrap (((i+1:Nat):Int)-1)=(i:Int):=qi
 have w2:IntKind.i64.wrap (p.po+p.sz)=p.po+p.sz:=qk qc qc
 have lq:=fun t x y=>za9 Tryz.prog t x y e.nm p.nm (h.nb e hm) (h.nb p hm')
 have c1:¬((e.nm.length:Int)<1):=qc
 have c2:¬((255:Int)<(e.nm.length:Int)):=qc
 have c3:¬(e.po<0):=qc
 have c4:¬((1048576:Int)<e.po):=qc
 have c5:¬(e.sz<1):=qc
 have c6:¬((1048576:Int)<e.sz):=qc
 have c7:(0:Int)<((i+1:Nat):Int):=qc
 have c3':¬(p.po+p.sz<0):=qc
 have c4':¬((1048576:Int)<p.po+p.sz):=qc
 have eg:(Zr e.nm p.nm||decide (e.nm=p.nm))=!gtN e.nm p.nm:=by unfold gtN;simp
 rw[eg]at lq
 conv=>lhs;rw[Jp]
 generalize((i+2:Nat):Int)=J at*
 generalize((i+1:Nat):Int)=I at*
 generalize qp xc l=R at*
 unfold xc at ix iy
 generalize gtN e.nm p.nm=G at*
 generalize st e.nm=N at*
 generalize st p.nm=M at*
 cases G
 ·simp at lq
  simp[hi,hlt,ix,iy,qj,qn,qm,sl,c1,c2,c3,c4,c5,c6,c7,w,w1,lq,Vi,Yc,qpb]
 ·simp at lq
  simp[hi,hlt,ix,iy,qj,qn,qm,sl,c1,c2,c3,c4,c5,c6,c7,w,w1,w2,lq,cs,c3',c4',Vi,Yc,qal,qak]
theorem qq1:∀(r:List Ie) (i:Nat) (p:Ie),l.drop (i+1)=r->l[i]?=some p->B84_4 (S k 3 (qp xc l)) (S k' 3 (qp xc l)) (.int .i64 (l.length:Int)) (.int .i64 ((i+1:Nat):Int)) hp=some (.sc (.int .i64 (if XU p.nm (r.map Ie.nm)=true then 0 else 8)),hp):=by
 intro r
 induction r with
 |nil=>
  intro i p hr hq
  have h1:=qA hr
  have hlt:¬(((i+1:Nat):Int)<(l.length:Int)):=qc
  rw[Jp]
  generalize((i+1:Nat):Int)=I at*
  simp[hlt,XU]
 |cons e r ih=>
  intro i p hr hq
  obtain⟨e1,e2,hi,e3⟩:=qu hr
  have z:=ih (i+1) e e2 e1
  rw[qwl l h k k' hp i e p e1 hq]
  by_cases hg:gtN e.nm p.nm=true
  ·rw[if_pos hg,z]
   have er:XU p.nm ((e::r).map Ie.nm)=XU e.nm (r.map Ie.nm):=by
    show(gtN e.nm p.nm&&XU e.nm (r.map Ie.nm))=_
    rw[hg,zjo]
   rw[er]
  ·rw[if_neg hg]
   have er:XU p.nm ((e::r).map Ie.nm)=false:=by
    show(gtN e.nm p.nm&&XU e.nm (r.map Ie.nm))=_
    have:gtN e.nm p.nm=false:=by simpa using hg
    rw[this,Bool.false_and]
   rw[er]
   rfl
theorem XF:run cxX 84 [S k 3 (qp xc l)] hp=some (.sc (.int .i64 (if JG (l.map Ie.nm)=true then 0 else 8)),hp):=by
 have h5:=h.len
 have ln:=fun k=>JP xc 3 qg k (l:=l) (fun x _=>wM x)
 have c1:¬((1000:Int)<(l.length:Int)):=qc
 have b4:B84_4 (S k 3 (qp xc l)) (S (rk k) 3 (qp xc l)) (.int .i64 (l.length:Int)) (.int .i64 0) hp=some (.sc (.int .i64 (if JG (l.map Ie.nm)=true then 0 else 8)),hp):=by
  cases hl:l with
  |nil=>
   rw[Jp]
   simp[JG]
  |cons e r=>
   have e0:l[0]?=some e:=by rw[hl];rfl
   have o:=qwm l h k (rk k) hp 0 e e0 rfl
   have z:=qq1 l h k (rk k) hp r 0 e (by rw[hl];rfl) e0
   rw[<-hl]
   have o':B84_4 (S k 3 (qp xc l)) (S (rk k) 3 (qp xc l)) (.int .i64 (l.length:Int)) (.int .i64 0) hp=_:=o.trans z
   rw[o',hl]
   rfl
 rw[E84]
 generalize(if JG (l.map Ie.nm)=true then(0:Int)else 8)=A at*
 generalize qp xc l=R at*
 simp[ln,c1,b4]
end
def xB(i:Nat)(e:Ie):List Int:=(if i=0 then uv e.po.toNat else [])++([(e.nm.length:Int)]++e.nm++uv e.sz.toNat)
def xR:List Ie->Nat->List Int
 |[],_=>[]
 |e::r,i=>xB i e++xR r (i+1)
def xH(l:List Ie):List Int:=uv l.length++xR l 0
def xY(l:List Ie):List Int:=zr (xH l)
theorem qq4{i:Nat}{e:Ie}(h1:e.nm.length<=255)(h2:e.po<=1048576)(h3:e.sz<=1048576):(xB i e).length<=276:=by
 have u1:=qy (n:=e.po.toNat) qc
 have u2:=qy (n:=e.sz.toNat) qc
 unfold xB
 simp only[zgi,zg3]
 split
 ·omega
 ·simp only[zhh];omega
theorem qhv(n:Nat):∀x∈uv n,0<=x/\x<256:=by
 intro x hx
 exact qz2 n x hx
section
variable (l:List Ie)(h:Xok l)(k b:Nat)
include h
theorem qkp(i:Nat)(e:Ie)(he:l[i]?=some e) (Z:List Int) (hZ:Z.length<=600000) (hp:Hp) (hw:hp.rd b 0=some (Wc Z)) (x20:AV) (v21:Value):
 B38_11 (.ptr b 0 0) x20 v21 (.int .i64 (i:Int)) (xc e) hp=B38_7 (.ptr b 0 0) x20 v21 (.int .i64 ((i+1:Nat):Int)) (hp.put b 0 (Wc (Z++([(e.nm.length:Int)]++e.nm++uv e.sz.toNat)))):=by
 have hi:=(zgq.mp he).1
 have hm:=zgo he
 have h1:=h.nl e hm;have h4:=h.sz e hm;have h5:=h.len
 have sl:=Xw e.nm
 have sb:=Xx (h.nb e hm)
 have sb':List.map (fun x:UInt8=>AV.sc (.int .u8 ((x.toNat:Nat):Int))) (yg e.nm)=LI .u8 e.nm:=sb
 have ass:KZ (st e.nm)=some ⟨(yg e.nm).toArray⟩:=rfl
 have w1:IntKind.u8.wrap (e.nm.length:Int)=(e.nm.length:Int):=zJ qc qc
 have w2:IntKind.u64.wrap e.sz=((e.sz.toNat:Nat):Int):=by rw[qz]<;>omega
 have w3:IntKind.i64.wrap ((i:Int)+1)=((i+1:Nat):Int):=qi
 have u2:=qy (n:=e.sz.toNat) qc
 have b1:=zk b Z (e.nm.length:Int) qc hp hw
 have b2:=fun k=>zX b (Z++[(e.nm.length:Int)]) e.nm k qh (hp.put b 0 (Wc (Z++[(e.nm.length:Int)]))) (qr _ _ _)
 have b3:=qY b e.sz.toNat (Z++[(e.nm.length:Int)]++e.nm) qc qh (hp.put b 0 (Wc (Z++[(e.nm.length:Int)]++e.nm))) (qr _ _ _)
 rw[qx]at b2 b3
 have ea:Z++[(e.nm.length:Int)]++e.nm++uv e.sz.toNat=Z++([(e.nm.length:Int)]++e.nm++uv e.sz.toNat):=qf
 rw[ea]at b3
 rw[qpi]
 unfold xc
 generalize hp.put b 0 (Wc (Z++([(e.nm.length:Int)]++e.nm++uv e.sz.toNat)))=H3 at*
 generalize hp.put b 0 (Wc (Z++[(e.nm.length:Int)]++e.nm))=H2 at*
 generalize hp.put b 0 (Wc (Z++[(e.nm.length:Int)]))=H1 at*
 generalize((i+1:Nat):Int)=J at*
 generalize((e.sz.toNat:Nat):Int)=Q at*
 generalize st e.nm=N at*
 generalize LI .u8 e.nm=NB at*
 simp[-List.map_map,qj,sl,jg,w1,b1,ass,sb,sb',b2,jB,w2,b3,w3]
theorem qmj:∀(r:List Ie) (i:Nat) (Z:List Int) (hp:Hp),l.drop i=r->i<=l.length->Z.length<=30+276*i->(∀n∈Z,0<=n/\n<256)->hp.rd b 0=some (Wc Z)->
 ∃hp',B38_7 (.ptr b 0 0) (S k 3 (qp xc l)) (.int .i64 (l.length:Int)) (.int .i64 (i:Int)) hp=some (.tup [S 1 1 (LI .u8 (zr (Z++xR r i))),.sc (.int .i64 0)],hp'):=by
 have h5:=h.len
 intro r
 induction r with
 |nil=>
  intro i Z hp hr hi hZ h8 hw
  have h1:=qA hr
  have hlt:¬((i:Int)<(l.length:Int)):=qc
  have wb:=yG b Z qc hp hw
  have cp:=vv 0 Z qc h8 hp0
  refine⟨hp,?_⟩
  rw[Vm]
  simp[hlt,wb,cp,xR]
 |cons e r ih=>
  intro i Z hp hr hi hZ h8 hw
  obtain⟨e1,e2,hi',e3⟩:=qu hr
  have hm:=zgo e1
  have n1:=h.nl e hm;have n2:=h.po e hm;have n3:=h.sz e hm;have n4:=h.nb e hm
  have xl:=qq4 (i:=i) n1.2 n2.2 n3.2
  have hlt:(i:Int)<(l.length:Int):=qc
  have ix:=QW xc 3 qg k (fun x _=>wM x) e1
  have u1:=qy (n:=e.po.toNat) qc
  have r8:∀n∈Z++xB i e,0<=n/\n<256:=by
   intro n hn
   rcases zg1.mp hn with q|q
   ·exact h8 n q
   ·unfold xB at q
    rcases zg1.mp q with q|q
    ·split at q
     ·exact qhv _ n q
     ·cases q
    ·rcases zg1.mp q with q|q
     ·rcases zg1.mp q with q|q
      ·rw[zhn.mp q];omega
      ·exact n4 n q
     ·exact qhv _ n q
  have er:xR (e::r) i=xB i e++xR r (i+1):=rfl
  have b7:B38_7 (.ptr b 0 0) (S k 3 (qp xc l)) (.int .i64 (l.length:Int)) (.int .i64 (i:Int)) hp=B38_7 (.ptr b 0 0) (S k 3 (qp xc l)) (.int .i64 (l.length:Int)) (.int .i64 ((i+1:Nat):Int)) (hp.put b 0 (Wc (Z++xB i e))):=by
   by_cases h0:i=0
   ·subst h0
    have h0:(0:Nat)=0:=rfl
    have hpos:0<l.length:=hi'
    have ix0:jc 3 (S k 3 (qp xc l)) (.int .i64 0)=some (xc e):=ix
    have w2:IntKind.u64.wrap e.po=((e.po.toNat:Nat):Int):=by rw[qz]<;>omega
    have wu:=qY b e.po.toNat Z qc qc hp hw
    have b11:=qkp l h b 0 e e1 (Z++uv e.po.toNat) (by rw[zgi];omega) (hp.put b 0 (Wc (Z++uv e.po.toNat))) (qr _ _ _) (S k 3 (qp xc l)) (.int .i64 (l.length:Int))
    rw[qx]at b11
    have ex:Z++uv e.po.toNat++([(e.nm.length:Int)]++e.nm++uv e.sz.toNat)=Z++xB 0 e:=by unfold xB;rw[if_pos h0,zgw]
    rw[ex]at b11
    rw[<-b11]
    conv=>lhs;rw[Vm]
    generalize hp.put b 0 (Wc (Z++uv e.po.toNat))=H1 at*
    generalize((e.po.toNat:Nat):Int)=Q at*
    clear b11
    generalize qp xc l=R at*
    unfold xc at ix0⊢
    generalize st e.nm=N at*
    simp[hpos,ix0,qj,qn,qm,jB,w2,wu]
   ·have b11:=qkp l h b i e e1 Z qc hp hw (S k 3 (qp xc l)) (.int .i64 (l.length:Int))
    have ex:Z++([(e.nm.length:Int)]++e.nm++uv e.sz.toNat)=Z++xB i e:=by unfold xB;rw[if_neg h0,zg2]
    rw[ex]at b11
    have hz:¬((i:Int)=0):=qc
    rw[<-b11]
    conv=>lhs;rw[Vm]
    clear b11
    generalize qp xc l=R at*
    unfold xc at ix⊢
    generalize st e.nm=N at*
    simp[hi',hlt,ix,qj,qn,qm,h0,hz]
  obtain⟨hp',z⟩:=ih (i+1) (Z++xB i e) (hp.put b 0 (Wc (Z++xB i e))) e2 qc (by rw[zgi];omega) r8 (qr _ _ _)
  refine⟨hp',?_⟩
  rw[b7,z,er,zgw]
end
theorem qrv(l:List Ie)(h:Xok l)(k:Nat)(hp:Hp):∃hp',run cxX 38 [S k 3 (qp xc l)] hp=some (if JG (l.map Ie.nm)=true then .tup [S 1 1 (LI .u8 (xY l)),.sc (.int .i64 0)]else .tup [S 2 1 [],.sc (.int .i64 8)],hp'):=by
 have h5:=h.len
 have ck:=XF l h (rk k) hp0
 have ln:=fun k=>JP xc 3 qg k (l:=l) (fun x _=>wM x)
 have u1:=qy (n:=l.length) qc
 have w1:IntKind.u64.wrap (l.length:Int)=(l.length:Int):=by rw[qz]<;>omega
 have wc0:(hp.new [S 2 1 []]).rd hp.next 0=some (Wc []):=qB hp _
 have wu:=qY hp.next l.length [] qc qh (hp.new [S 2 1 []]) wc0
 rw[zg2]at wu
 by_cases hr:JG (l.map Ie.nm)=true
 ·rw[if_pos hr]at ck⊢
  obtain⟨hp',z⟩:=qmj l h (rk k) hp.next l 0 (uv l.length) ((hp.new [S 2 1 []]).put hp.next 0 (Wc (uv l.length))) rfl (zhf _) qc (qhv _) (qr _ _ _)
  have z:B38_7 (.ptr hp.next 0 0) (S (rk k) 3 (qp xc l)) (.int .i64 (l.length:Int)) (.int .i64 0) ((hp.new [S 2 1 []]).put hp.next 0 (Wc (uv l.length)))=some (.tup [S 1 1 (LI .u8 (xY l)),.sc (.int .i64 0)],hp'):=z
  refine⟨hp',?_⟩
  rw[E38]
  generalize(hp.new [S 2 1 []]).put hp.next 0 (Wc (uv l.length))=H1 at*
  generalize qp xc l=R at*
  generalize LI .u8 (xY l)=Y at*
  simp[ck,ln,jB,w1,wu,z]
 ·rw[if_neg hr]at ck⊢
  refine⟨hp,?_⟩
  rw[E38]
  generalize qp xc l=R at*
  simp[ck]
def WQ(p:Frm×Nat):List AV:=frA p.1 (rk p.2)
theorem qc2(p:Frm×Nat):El WQ 3 p:=⟨rfl,by simp[WQ,frA],by simp[WQ,frA]⟩
def hdB:List Int:=[72,69,82,66,49,10]
def jX:List (Frm×Nat)->Nat->List Ie
 |[],_=>[]
 |f::r,a=>⟨f.1.nm,a,(yi f.1).length⟩::jX r (a+(yi f.1).length)
def Yz:List (Frm×Nat)->List Int
 |[]=>[]
 |f::r=>yi f.1++Yz r
def yD(a n:Nat):List Int:=zr (xj a++xj n)
theorem ZZ(a n:Nat):(yD a n).length=12:=by unfold yD;rw[xK,zgi,jR,jR]
theorem ql4:∀(l:List (Frm×Nat)) (a:Nat),(jX l a).map Ie.nm=l.map (fun p=>p.1.nm)
 |[],_=>rfl
 |f::r,a=>by
  show f.1.nm::(jX r _).map Ie.nm=_
  rw[ql4 r]
  rfl
theorem vh:∀(l:List (Frm×Nat)) (a:Nat),(jX l a).length=l.length
 |[],_=>rfl
 |f::r,a=>by
  show(jX r _).length+1=_
  rw[vh r]
  rfl
section
variable (nE nB b:Nat)
theorem qoy(es:List Ie)(hx:Xok es)(Z:List Int)(x29:AV)(i:Nat)(hp:Hp)(hb:b<hp.next)(hw:hp.rd b 0=some (Wc Z))(hs:Z.length+(xY es).length+12<=900000)(hs2:Z.length+(xY es).length+12<=nB):
 ∃hp',B36_8 (.ptr b 0 0) (S 2 3 (qp xc es)) x29 (.int .i64 (i:Int)) (.int .i64 (i:Int)) [.sc (.int .i64 (nE:Int)),.sc (.int .i64 (nB:Int))] hp=
  some (if JG (es.map Ie.nm)=true then .tup [S 1 1 (LI .u8 (Z++xY es++yD Z.length (xY es).length)),.sc (.int .i64 0)]else .tup [S 2 1 [],.sc (.int .i64 8)],hp'):=by
 have wl:=XG b Z hp hw
 obtain⟨g,xp⟩:=qrv es hx 3 hp0
 by_cases hr:JG (es.map Ie.nm)=true
 ·rw[if_pos hr]at xp⊢
  have p1:=fun k=>zX b Z (xY es) k qc hp hw
  obtain⟨H1,hH1⟩:∃H1,H1=hp.put b 0 (Wc (Z++xY es)):=⟨_,rfl⟩
  have r1:H1.rd b 0=some (Wc (Z++xY es)):=by rw[hH1];exact qr _ _ _
  have n1:b≠H1.next:=by have:H1.next=hp.next:=by rw[hH1];rfl
                        omega
  obtain⟨H2,hH2⟩:∃H2,H2=H1.new [S 2 1 []]:=⟨_,rfl⟩
  have c0:H2.rd H1.next 0=some (Wc []):=by rw[hH2];exact qB H1 _
  have w1:IntKind.u32.wrap (Z.length:Int)=(Z.length:Int):=qV qc qc
  have w2:IntKind.u32.wrap ((xY es).length:Int)=((xY es).length:Int):=qV qc qc
  have f1:=JC H1.next Z.length [] qf qc H2 c0
  rw[zg2]at f1
  have f2:=JC H1.next (xY es).length (xj Z.length) (by rw[jR];decide) qc (H2.put H1.next 0 (Wc (xj Z.length))) (qr _ _ _)
  rw[qx]at f2
  have f3:=yG H1.next (xj Z.length++xj (xY es).length) (by rw[zgi,jR,jR];decide) (H2.put H1.next 0 (Wc (xj Z.length++xj (xY es).length))) (qr _ _ _)
  have f4:=vv 0 (xj Z.length++xj (xY es).length) (by rw[zgi,jR,jR];decide) (fun x hx=>(zg1.mp hx).elim (Zn x) (Zn x)) hp0
  have eF:zr (xj Z.length++xj (xY es).length)=yD Z.length (xY es).length:=rfl
  rw[eF]at f4
  have fl:=ZZ Z.length (xY es).length
  obtain⟨H3,hH3⟩:∃H3,H3=H2.put H1.next 0 (Wc (xj Z.length++xj (xY es).length)):=⟨_,rfl⟩
  rw[<-hH3]at f2 f3
  have r3:H3.rd b 0=some (Wc (Z++xY es)):=by
   rw[hH3,zN _ _ n1,hH2,jE _ _ n1]
   exact r1
  have p2:=fun k=>zX b (Z++xY es) (yD Z.length (xY es).length) k (by rw[zgi,fl];omega) H3 r3
  obtain⟨H4,hH4⟩:∃H4,H4=H3.put b 0 (Wc (Z++xY es++yD Z.length (xY es).length)):=⟨_,rfl⟩
  rw[<-hH4]at p2
  have r4:H4.rd b 0=some (Wc (Z++xY es++yD Z.length (xY es).length)):=by rw[hH4];exact qr _ _ _
  have wl2:=XG b _ H4 r4
  have wb:=yG b _ (by rw[zgi,zgi,fl];omega) H4 r4
  have ll:((Z++xY es++yD Z.length (xY es).length).length:Int)=((Z.length+(xY es).length+12:Nat):Int):=by rw[zgi,zgi,fl]
  rw[ll]at wl2
  have c1:¬((nB:Int)<((Z.length+(xY es).length+12:Nat):Int)):=qc
  rw[<-hH1]at p1
  refine⟨H4,?_⟩
  rw[Vn]
  clear hH3 hH4 eF
  generalize H2.put H1.next 0 (Wc (xj Z.length))=H5 at*
  generalize LI .u8 (Z++xY es++yD Z.length (xY es).length)=Y at*
  generalize LI .u8 (yD Z.length (xY es).length)=F at*
  generalize LI .u8 (xj Z.length++xj (xY es).length)=W at*
  generalize((Z.length+(xY es).length+12:Nat):Int)=N at*
  generalize qp xc es=R at*
  have lx:∀k,zA (S k 1 (LI .u8 (xY es)))=some (xY es).length:=fun k=>by rw[zG];simp
  generalize(xY es).length=M at*
  generalize LI .u8 (xY es)=X at*
  subst hH2
  simp[-zG,wl,xp,p1,Jc,w1,f1,lx,w2,f2,f3,f4,p2,wl2,qj,c1,wb]
 ·rw[if_neg hr]at xp⊢
  refine⟨hp,?_⟩
  rw[Vn]
  generalize qp xc es=R at*
  simp[wl,xp]
theorem qjv(l:List (Frm×Nat))(k:Nat)(hl:∀p∈l,p.1.Ok)(hn:l.length<=1000):∀(r:List (Frm×Nat)) (i:Nat) (es:List Ie) (Z:List Int) (hp:Hp),l.drop i=r->i<=l.length->Xok (es++jX r Z.length)->es.length<=1000->b<hp.next->hp.rd b 0=some (Wc Z)->
 (Z++Yz r).length+(xY (es++jX r Z.length)).length+12<=900000->(Z++Yz r).length+(xY (es++jX r Z.length)).length+12<=nB->
 ∃hp',B36_8 (.ptr b 0 0) (S 2 3 (qp xc es)) (S k 3 (qp WQ l)) (.int .i64 (l.length:Int)) (.int .i64 (i:Int)) [.sc (.int .i64 (nE:Int)),.sc (.int .i64 (nB:Int))] hp=
  some (if JG ((es++jX r Z.length).map Ie.nm)=true then .tup [S 1 1 (LI .u8 (Z++Yz r++xY (es++jX r Z.length)++yD (Z++Yz r).length (xY (es++jX r Z.length)).length)),.sc (.int .i64 0)]else .tup [S 2 1 [],.sc (.int .i64 8)],hp'):=by
 intro r
 induction r with
 |nil=>
  intro i es Z hp hr hi hx he hb hw hs hs2
  have h1:=qA hr
  have e1:jX [] Z.length=[]:=rfl
  have e2:Z++Yz []=Z:=zhd Z
  rw[e1,zhd]at hx
  rw[e1,e2,zhd]at hs hs2⊢
  have e3:i=l.length:=qc
  subst e3
  exact qoy nE nB b es hx Z _ l.length hp hb hw hs hs2
 |cons f r ih=>
  intro i es Z hp hr hi hx he hb hw hs hs2
  obtain⟨e1,e2,hi',e3⟩:=qu hr
  have hf:=hl f (zgo e1)
  have hlt:(i:Int)<(l.length:Int):=qc
  have ix:=QW WQ 3 qg k (fun x _=>qc2 x) e1
  obtain⟨g,fp⟩:=qm7 f.1 (rk f.2) hf hp0
  have wl:=XG b Z hp hw
  have yl:=Xi f.1
  have el:(Z++Yz (f::r)).length=Z.length+(yi f.1).length+(Yz r).length:=by
   show(Z++(yi f.1++Yz r)).length=_
   simp only[zgi];omega
  rw[el]at hs hs2
  have p1:=fun k=>zX b Z (yi f.1) k qc hp hw
  have ap:=qvv xc 3 32 2 qg (.inr rfl) (l:=es) (x:=⟨f.1.nm,Z.length,(yi f.1).length⟩) (fun x _=>wM x) (wM _) qc
  have hn1:((hp.put b 0 (Wc (Z++yi f.1)))).next=hp.next:=rfl
  have ee:es++jX (f::r) Z.length=(es++[⟨f.1.nm,Z.length,(yi f.1).length⟩])++jX r (Z++yi f.1).length:=by
   show es++(_::jX r (Z.length+(yi f.1).length))=_
   rw[zgi,zgw]
   rfl
  have ez:Z++Yz (f::r)=Z++yi f.1++Yz r:=by rw[zgw];rfl
  have h32:es.length+1<=1000:=by
   have:=hx.len
   rw[ee]at this
   simp only[zgi,zg3]at this
   omega
  rw[ee]at hx hs hs2⊢
  rw[ez]
  have ez2:(Z++yi f.1++Yz r).length=Z.length+(yi f.1).length+(Yz r).length:=by simp only[zgi]
  obtain⟨hp',z⟩:=ih (i+1) (es++[⟨f.1.nm,Z.length,(yi f.1).length⟩]) (Z++yi f.1) (hp.put b 0 (Wc (Z++yi f.1))) e2 qc hx qh (by rw[hn1];exact hb) (qr _ _ _) (by rw[ez2];exact hs) (by rw[ez2];exact hs2)
  refine⟨hp',?_⟩
  rw[<-z]
  have w1:IntKind.i64.wrap ((Z.length:Int)+((yi f.1).length:Int))=((Z.length+(yi f.1).length:Nat):Int):=qi
  have w2:IntKind.i64.wrap ((i:Int)+1)=((i+1:Nat):Int):=qi
  have c1:¬((nB:Int)<((Z.length+(yi f.1).length:Nat):Int)):=qc
  have lx:∀k,zA (S k 1 (LI .u8 (yi f.1)))=some (yi f.1).length:=fun k=>by rw[zG];simp
  clear z ih hx hs hs2 ee ez ez2 el yl hn1
  conv=>lhs;rw[Vn]
  generalize hp.put b 0 (Wc (Z++yi f.1))=H1 at*
  generalize((i+1:Nat):Int)=J at*
  generalize((Z.length+(yi f.1).length:Nat):Int)=Q at*
  generalize qp xc (es++[⟨f.1.nm,Z.length,(yi f.1).length⟩])=R2 at*
  generalize qp xc es=R at*
  generalize qp WQ l=RF at*
  generalize(yi f.1).length=M at*
  generalize LI .u8 (yi f.1)=Y at*
  unfold WQ frA at ix
  unfold frA at fp
  unfold xc at ap
  generalize st f.1.nm=N at*
  generalize LI .u8 f.1.pl=PL at*
  generalize Z.length=ZL at*
  simp[-zG,hi',hlt,ix,qn,qj,qm,fp,wl,lx,w1,c1,ap,p1,w2]
end
theorem qf0(f:Frm×Nat)(r:List (Frm×Nat)):Yz (f::r)=yi f.1++Yz r:=rfl
theorem qc4:∀(l:List (Frm×Nat)) (a:Nat),(∀p∈l,p.1.Ok)->a+(Yz l).length<=900000->l.length<=1000->Xok (jX l a)
 |[],a,_,_,_=>by
  exact⟨(fun e he=>nomatch he),(fun e he=>nomatch he),(fun e he=>nomatch he),(fun e he=>nomatch he),(fun i e e' h=>by cases h),zhf _⟩
 |f::r,a,hl,hs,hn=>by
  have hf:=hl f qf
  have yl:=Xi f.1
  have h1:=hf.n1
  rw[qf0,zgi]at hs
  simp only[zgk]at hn
  have ih:=qc4 r (a+(yi f.1).length) (fun p hp=>hl p (by simp[hp])) qc qc
  have ec:jX (f::r) a=⟨f.1.nm,a,(yi f.1).length⟩::jX r (a+(yi f.1).length):=rfl
  rw[ec]
  refine⟨fun e he=>?_,fun e he=>?_,fun e he=>?_,fun e he=>?_,fun i e e' h h'=>?_,by rw[zgk,vh];omega⟩
  ·rcases zgn.mp he with q|q
   ·rw[q];exact h1
   ·exact ih.nl e q
  ·rcases zgn.mp he with q|q
   ·rw[q];exact hf.nb
   ·exact ih.nb e q
  ·rcases zgn.mp he with q|q
   ·rw[q];show 0<=(a:Int)/\(a:Int)<=1048576;omega
   ·exact ih.po e q
  ·rcases zgn.mp he with q|q
   ·rw[q];show 1<=((yi f.1).length:Int)/\((yi f.1).length:Int)<=1048576;omega
   ·exact ih.sz e q
  ·cases i with
   |zero=>
    have q0:(⟨f.1.nm,a,(yi f.1).length⟩:Ie)=e:=zgy h
    have h':(jX r (a+(yi f.1).length))[0]?=some e':=by simpa using h'
    cases r with
    |nil=>cases h'
    |cons g r=>
     have h2:(jX (g::r) (a+(yi f.1).length))[0]?=some ⟨g.1.nm,((a+(yi f.1).length:Nat):Int),(yi g.1).length⟩:=rfl
     have h3:(⟨g.1.nm,((a+(yi f.1).length:Nat):Int),(yi g.1).length⟩:Ie)=e':=zgy (h2.symm.trans h')
     rw[<-h3,<-q0]
     show((a+(yi f.1).length:Nat):Int)=(a:Int)+((yi f.1).length:Int)
     omega
   |succ i=>exact ih.cs i e e' (by simpa using h) (by simpa using h')
def vO(l:List (Frm×Nat)):List Int:=hdB++Yz l++xY (jX l 6)++yD (hdB++Yz l).length (xY (jX l 6)).length
theorem vu(en bn:Int)(hp:Hp):run cxX 31 [.agg [.sc (.int .i64 en),.sc (.int .i64 bn)]] hp=some (.agg [.sc (.int .i64 (min (max en 0) 1000)),.sc (.int .i64 (min (max bn 0) 1048576))],hp):=by
 rw[E31]
 simp[qj]
theorem Wj(l:List (Frm×Nat))(k:Nat)(hl:∀p∈l,p.1.Ok)(hn:l.length<=1000)(hs:(hdB++Yz l).length+(xY (jX l 6)).length+12<=900000)(hp:Hp):
 ∃hp',run cxX 36 [S k 3 (qp WQ l),.agg [.sc (.int .i64 1000),.sc (.int .i64 1048576)]] hp=some (if JG (l.map (fun p=>p.1.nm))=true then .tup [S 1 1 (LI .u8 (vO l)),.sc (.int .i64 0)]else .tup [S 2 1 [],.sc (.int .i64 8)],hp'):=by
 have wi:=vu 1000 1048576 hp0
 have m1:min (max (1000:Int) 0) 1000=1000:=qg
 have m2:min (max (1048576:Int) 0) 1048576=1048576:=qg
 rw[m1,m2]at wi
 have ln:=fun k=>JP WQ 3 qg k (l:=l) (fun x _=>qc2 x)
 have c1:¬((1000:Int)<(l.length:Int)):=qc
 have wc0:(hp.new [S 2 1 []]).rd hp.next 0=some (Wc []):=qB hp _
 have p1:=zX hp.next [] hdB 0 qg (hp.new [S 2 1 []]) wc0
 rw[zg2]at p1
 have e1:LI .u8 hdB=[.sc (.int .u8 72),.sc (.int .u8 69),.sc (.int .u8 82),.sc (.int .u8 66),.sc (.int .u8 49),.sc (.int .u8 10)]:=rfl
 rw[e1]at p1
 have h6:hdB.length=6:=rfl
 have ls:(hdB++Yz l).length=6+(Yz l).length:=by rw[zgi,h6]
 have xo:=qc4 l 6 hl qc hn
 obtain⟨hp',z⟩:=qjv 1000 1048576 hp.next l (rk k) hl hn l 0 [] hdB ((hp.new [S 2 1 []]).put hp.next 0 (Wc hdB)) rfl (zhf _) (by rw[zg2,h6];exact xo) qf (by show hp.next<hp.next+1;omega) (qr _ _ _)
  (by rw[zg2,h6];exact hs) (by rw[zg2,h6];omega)
 rw[zg2,h6,ql4]at z
 have z:B36_8 (.ptr hp.next 0 0) (S 2 1 []) (S (rk k) 3 (qp WQ l)) (.int .i64 (l.length:Int)) (.int .i64 0) [.sc (.int .i64 1000),.sc (.int .i64 1048576)] ((hp.new [S 2 1 []]).put hp.next 0 (Wc hdB))=some (if JG (l.map (fun p=>p.1.nm))=true then .tup [S 1 1 (LI .u8 (vO l)),.sc (.int .i64 0)]else .tup [S 2 1 [],.sc (.int .i64 8)],hp'):=z
 refine⟨hp',?_⟩
 rw[<-z,E36]
 generalize(hp.new [S 2 1 []]).put hp.next 0 (Wc hdB)=H1 at*
 generalize qp WQ l=R at*
 simp[wi,ln,c1,p1,qm,qn,qj]
theorem WB(K:IntKind)(l:List Nat)(i:Nat)(h:i<l.length):(LI K (nz l))[i]?=some (.sc (.int K (l.getD i 0:Nat))):=by
 unfold LI nz
 rw[zgx,zgx,zgp,zgl h]
 rfl
section
variable (l:List Nat)(k:Nat)(hl:l.length<=1000000)(h64:∀x∈l,x<18446744073709551616)(hr:xP l)
include hl h64 hr
theorem qk1(i:Nat)(hi:i<l.length)(hp:Hp):run cxX 142 [S k 1 (LI .u64 (nz l)),.sc (.int .i64 (i:Int))] hp=some (.sc (.int .u64 ((ze l).getD i 0:Nat)),hp):=by
 have g:=qur l i hi
 have a0:=WB .u64 l 0 qc
 have ai:=WB .u64 l i hi
 rw[zgp,g,Option.getD_some,E142]
 by_cases h0:i=0
 ·subst h0
  rw[if_pos rfl]
  generalize l.getD 0 0=v at*
  simp[a0,qj]
 ·rw[if_neg h0]
  have aj:=WB .u64 l (i-1) qc
  have hlt:=XS l hr (i-1) qc
  have e:i-1+1=i:=qc
  rw[e]at hlt
  have hv:l.getD i 0<18446744073709551616:=by
   rw[zgp,zgl hi]
   exact h64 _ (zhx _)
  have w1:IntKind.i64.wrap ((i:Int)-1)=((i-1:Nat):Int):=qi
  have h0':¬((i:Int)=0):=qc
  have g0:(0:Int)<=((i-1:Nat):Int):=qc
  have g1:(0:Int)<=(i:Int):=qc
  generalize l.getD i 0=u at*
  generalize l.getD (i-1) 0=v at*
  have w2:IntKind.u64.wrap ((u:Int)-(v:Int))=(u:Int)-(v:Int):=qz qc qc
  have w3:IntKind.u64.wrap ((u:Int)-(v:Int)-1)=((u-v-1:Nat):Int):=by rw[qz]<;>omega
  have aj':(LI .u64 (nz l))[(((i-1:Nat):Int)).toNat]?=some (.sc (.int .u64 (v:Int))):=by rw[zgu];exact aj
  generalize((i-1:Nat):Int)=j at*
  generalize((u-v-1:Nat):Int)=z at*
  simp[h0,ai,aj',qj,w1,g0,w2,w3]
theorem qou(kk:Nat)(hkk:kk<=63)(hp:Hp):∀(r:List Nat) (i n:Nat),(ze l).drop i=r->n+r.length*4160<4611686018427387904->
 B208_3 (S k 1 (LI .u64 (nz l))) (.int .i64 (kk:Int)) (.int .i64 (n:Int)) (.int .i64 (l.length:Int)) (.int .i64 (i:Int)) hp=
  some (.tup [.sc (.int .i64 ((kP kk r n).1:Nat)),.sc (.bool (kP kk r n).2)],hp):=by
 intro r
 induction r with
 |nil=>
  intro i n h hn
  have h1:=qA h
  rw[ZY]at h1
  have hlt:¬((i:Int)<(l.length:Int)):=qc
  rw[qaz]
  simp[hlt,kP]
 |cons g r ih=>
  intro i n h hn
  obtain⟨e1,e2,hi,e3⟩:=qu h
  have hi':i<l.length:=by have:=hi;simp at this;omega
  have hlt:(i:Int)<(l.length:Int):=qc
  have gp:=qk1 l (rk k) hl h64 hr i hi' hp0
  have eg:(ze l).getD i 0=g:=by rw[zgp,e1];rfl
  rw[eg]at gp
  have sh:=fun o o'=>Qa g kk qc o o' .i64
  rw[qaz]
  unfold kP
  generalize hq:g/2^kk=q at*
  by_cases hc:4096<q
  ·have hg:(4096:Int)<(q:Int):=qc
   simp[hlt,gp,sh,hg,hc]
  ·have hg:¬((4096:Int)<(q:Int)):=qc
   have w1:IntKind.i64.wrap (q:Int)=(q:Int):=qk qc qc
   have w2:IntKind.i64.wrap ((q:Int)+1)=(q:Int)+1:=qk qc qc
   have w3:IntKind.i64.wrap ((q:Int)+1+(kk:Int))=(q:Int)+1+(kk:Int):=qk qc qc
   simp only[zgk]at hn
   have w4:IntKind.i64.wrap ((n:Int)+((q:Int)+1+(kk:Int)))=((n+(q+1+kk):Nat):Int):=qi
   have w5:IntKind.i64.wrap ((i:Int)+1)=((i+1:Nat):Int):=qi
   have hi2:=ih (i+1) (n+(q+1+kk)) e2 qc
   rw[if_neg hc]
   generalize((n+(q+1+kk):Nat):Int)=N at*
   generalize((i+1:Nat):Int)=I at*
   simp[hlt,gp,sh,hg,Jd,w1,w2,w3,w4,w5,hi2]
theorem qsk(kk:Nat)(hkk:kk<=63)(hp:Hp):run cxX 208 [S k 1 (LI .u64 (nz l)),.sc (.int .i64 (kk:Int))] hp=
 some (.tup [.sc (.int .i64 ((kP kk (ze l) 0).1:Nat)),.sc (.bool (kP kk (ze l) 0).2)],hp):=by
 have h:=qou l k hl h64 hr kk hkk hp (ze l) 0 0 rfl qh
 rw[E208]
 simp at h
 simp[h]
theorem qiu(hp:Hp):∀(f j b:Nat) (m:Int),j+f=64->b<=63->
 B141_3 (S k 1 (LI .u64 (nz l))) (.int .i64 (b:Int)) (.int .i64 m) (.int .i64 (j:Int)) hp=some (.sc (.int .i64 (qcg (ze l) f j b m:Nat)),hp):=by
 intro f
 induction f with
 |zero=>
  intro j b m hj hb
  have hlt:¬((j:Int)<64):=qc
  rw[qbb]
  simp[hlt,qcg]
 |succ f ih=>
  intro j b m hj hb
  have hlt:(j:Int)<64:=qc
  have c:=qsk l (rk k) hl h64 hr j qc hp0
  have w5:IntKind.i64.wrap ((j:Int)+1)=((j+1:Nat):Int):=qi
  have i1:=ih (j+1) j (kP j (ze l) 0).1 qc qc
  have i2:=ih (j+1) b m qc hb
  have c8:∀v3 v4,B141_8 (S k 1 (LI .u64 (nz l))) v3 v4 (.int .i64 (j:Int)) hp=B141_3 (S k 1 (LI .u64 (nz l))) v3 v4 (.int .i64 ((j+1:Nat):Int)) hp:=by
   intro v3 v4
   rw[qqi]
   generalize((j+1:Nat):Int)=J at*
   simp[w5]
  rw[qbb]
  unfold qcg
  simp only[zjd,zje]at i1 i2 c8
  generalize kP j (ze l) 0=C at*
  obtain⟨c1,c2⟩:=C
  cases c2
  ·simp[hlt,c,c8,i2]
  ·by_cases h1:m<0
   ·simp[hlt,c,h1,qba,c8,i1]
   ·by_cases h2:(c1:Int)<m
    ·simp[hlt,c,h1,h2,qba,c8,i1]
    ·simp[hlt,c,h1,h2,c8,i2]
theorem qmx(hp:Hp):run cxX 141 [S k 1 (LI .u64 (nz l))] hp=some (.sc (.int .i64 (kX (ze l):Nat)),hp):=by
 have h:=qiu l k hl h64 hr hp 64 0 63 (-1) rfl qc
 rw[E141]
 simp at h
 simp[h,kX]
theorem qnf(kk w:Nat)(hkk:kk<=63)(hg:∀g∈ze l,g/2^kk<=4096):∀(r:List Nat) (i nb:Nat) (bs:List Bool) (hp:Hp),(ze l).drop i=r->i+r.length=l.length->bs.length+r.length*4160<7000000->BW hp w nb bs->
 ∃hp' nb',B71_7 (S k 1 (LI .u64 (nz l))) (.int .i64 (kk:Int)) (.ptr w 0 0) (.int .i64 (l.length:Int)) (.int .i64 (i:Int)) hp=
  B71_7 (S k 1 (LI .u64 (nz l))) (.int .i64 (kk:Int)) (.ptr w 0 0) (.int .i64 (l.length:Int)) (.int .i64 (l.length:Int)) hp'/\BS hp w nb hp' nb' (bs++ZO kk r):=by
 intro r
 induction r with
 |nil=>
  intro i nb bs hp h hil hl2 hw
  have e:i=l.length:=by simpa using hil
  rw[e]
  exact⟨hp,nb,rfl,by simpa[ZO]using hw,Fm.refl _ _,.inl rfl⟩
 |cons g r ih=>
  intro i nb bs hp h hil hl2 hw
  obtain⟨e1,e2,hi,e3⟩:=qu h
  simp only[zgk]at hl2 hil
  have hlt:(i:Int)<(l.length:Int):=qc
  have gp:=qk1 l (rk k) hl h64 hr i qc hp0
  have eg:(ze l).getD i 0=g:=by rw[zgp,e1];rfl
  rw[eg]at gp
  have hmem:g∈ze l:=by rw[<-e3];exact zhx _
  have hq:=hg g hmem
  have hg64:=ZX h64 g hmem
  have sh:=fun o o'=>Qa g kk qc o o' .i64
  have w1:IntKind.i64.wrap ((g/2^kk:Nat):Int)=((g/2^kk:Nat):Int):=(fun(q:Nat) (h:q<=4096)=>qk (z:=(q:Int)) qc qc) _ hq
  have w5:IntKind.i64.wrap ((i:Int)+1)=((i+1:Nat):Int):=qi
  obtain⟨hp1,nb1,a1,a2⟩:=Wb w nb (g/2^kk) bs hp qc hw
  obtain⟨hp2,nb2,b1,b2⟩:=ZE w nb1 g kk (bs++una (g/2^kk)) hp1 hg64 qc qh a2.1
  obtain⟨hp3,nb3,c1,c2⟩:=ih (i+1) nb2 (bs++una (g/2^kk)++nbs g kk) hp2 e2 qc qh b2.1
  refine⟨hp3,nb3,?_,?_⟩
  ·rw[<-c1,qg5]
   generalize hqq:((g/2^kk:Nat):Int)=q at*
   generalize((i+1:Nat):Int)=I at*
   simp[hlt,gp,sh,hqq,Jd,w1,a1,b1,w5]
  ·have e:bs++ZO kk (g::r)=bs++una (g/2^kk)++nbs g kk++ZO kk r:=by simp[ZO]
   rw[e]
   exact(a2.trans hw.1 b2).trans hw.1 c2
end
theorem qiv:∀(l:List Nat),QP (nz l)=0↔xP l:=by
 intro l
 induction l with
 |nil=>exact⟨fun _=>trivial,fun _=>rfl⟩
 |cons x r ih=>
  cases r with
  |nil=>exact⟨fun _=>trivial,fun _=>rfl⟩
  |cons y r=>
   have e:QP (nz (x::y::r))=if((y:Nat):Int)<=((x:Nat):Int)then 8 else QP (nz (y::r)):=rfl
   rw[e]
   by_cases h:y<=x
   ·rw[if_pos qc]
    exact⟨fun h=>absurd h qg,fun h'=>by have:=h'.1;omega⟩
   ·rw[if_neg qc]
    constructor
    ·intro h';exact⟨qc,ih.mp h'⟩
    ·intro h';exact ih.mpr h'.2
theorem qrz(l:List Nat)(k:Nat)(hl:l.length<=1024)(h64:∀x∈l,x<18446744073709551616)(hr:xP l)(hp:Hp):
 ∃t hp',run cxX 71 [S k 1 (LI .u64 (nz l))] hp=some (.tup [S t 1 (LI .u8 (vZ l)),.sc (.int .i64 0)],hp')/\Fm [] hp hp':=by
 have rc:=qd5 (nz l) (rk k) qh hp0
 rw[(qiv l).mpr hr]at rc
 have pr:=qmx l (rk k) qc h64 hr hp0
 obtain⟨k63,hq⟩:=YY (ZX h64)
 have hbl:=JJ (kX (ze l)) k63 (ze l) hq
 rw[ZY]at hbl
 have hlY:(pk (yn (ze l))).length<700000:=by rw[yo];unfold yn;omega
 obtain⟨hp1,nb1,a1,a2⟩:=qnf l k qc h64 hr (kX (ze l)) hp.next k63 hq (ze l) 0 hp.next [] (hp.new [S 2 1 [],.sc (.int .i64 0)]) rfl qf qh (BW.new hp)
 obtain⟨a2,a3,a4⟩:=a2
 simp only[zg2]at a2
 have hn1:hp.next<hp1.next:=by have:=a3.1;simp at this;omega
 --the bytes
 have wN:∀c,c<hp.next->hp1.get c=hp.get c:=by
  intro c hc
  rw[a3.2 c qh qh]
  exact(Fm.new [] hp _).2 c hc qf
 have hne:hp1.next≠hp.next:=qc
 have u1:=qY hp1.next l.length [] qc (by have:=qy (n:=l.length) qc;simp;omega) (hp1.new (Wc [])) (qB _ _)
 rw[zW,zg2]at u1
 have u2:=zk hp1.next (uv l.length) (kX (ze l):Nat) (by have:=qy (n:=l.length) qc;omega) (hp1.new (Wc (uv l.length))) (qB _ _)
 rw[zW]at u2
 have BW2:∀x,BW (hp1.new x) hp.next nb1 (yn (ze l)):=fun x=>a2.fr (Fm.new [] hp1 x) qf qf
 obtain⟨t1,hp2,v1,v2⟩:=vx hp.next nb1 (yn (ze l)) (hp1.new (Wc (uv l.length++[(kX (ze l):Int)]))) (by unfold yn;omega) (BW2 _)
 have r2:hp2.rd hp1.next 0=some (Wc (uv l.length++[(kX (ze l):Int)])):=by rw[v2.rd qf qf,qB]
 have hL:=qy (n:=l.length) qc
 have hL2:=qy (n:=(pk (yn (ze l))).length) qc
 have u3:=qY hp1.next (pk (yn (ze l))).length (uv l.length++[(kX (ze l):Int)]) qc (by simp only[zgi,zg3];omega) hp2 r2
 have BW3:=((BW2 _).fr v2 qf qf).fr (Fm.put (X:=[hp1.next]) hp2 hp1.next (Wc (uv l.length++[(kX (ze l):Int)]++uv (pk (yn (ze l))).length)) qf) qh (by
  simp
  have:=a2.2.2.1
  by_cases hb:yn (ze l)=[]
  ·have:=a2.2.1 hb;omega
  ·have:=(a2.2.2.1 hb).1;omega)
 obtain⟨t2,hp3,x1,x2⟩:=vx hp.next nb1 (yn (ze l)) _ (by unfold yn;omega) BW3
 have r3:hp3.rd hp1.next 0=some (Wc (uv l.length++[(kX (ze l):Int)]++uv (pk (yn (ze l))).length)):=by
  rw[x2.rd (by have:=v2.1;simp at this⊢;omega) qf,qr]
 have u4:=zX hp1.next (uv l.length++[(kX (ze l):Int)]++uv (pk (yn (ze l))).length) (pk (yn (ze l))) (rk t2) (by simp only[zgi,zg3];omega) hp3 r3
 have u5:=yG hp1.next (vZ l) (by unfold vZ;simp only[zgi,zg3];omega) (hp3.put hp1.next 0 (Wc (vZ l))) (qr _ _ _)
 refine⟨1,hp3.put hp1.next 0 (Wc (vZ l)),?_,?_⟩
 ·have w3:IntKind.u8.wrap ((kX (ze l):Nat):Int)=((kX (ze l):Nat):Int):=zJ qc qc
  have w4:IntKind.u64.wrap ((l.length:Nat):Int)=((l.length:Nat):Int):=qz qc qc
  have w6:IntKind.u64.wrap (((pk (yn (ze l))).length:Nat):Int)=(((pk (yn (ze l))).length:Nat):Int):=qz qc qc
  have w7:IntKind.u64.wrap ((((pk (yn (ze l))).length:Nat):Int))=(((pk (yn (ze l))).length:Nat):Int):=w6
  have e0:¬((l.length:Int)<(l.length:Int)):=qc
  have ey:uv l.length++[((kX (ze l):Nat):Int)]++uv (pk (yn (ze l))).length++pk (yn (ze l))=vZ l:=rfl
  rw[ey]at u4
  rw[E71]
  simp only[Int.natCast_zero]at a1
  generalize kX (ze l)=kk at*
  generalize pk (yn (ze l))=pb at*
  generalize vZ l=Y at*
  generalize uv l.length=Z at*
  generalize uv pb.length=Z2 at*
  generalize Z++[(kk:Int)]++Z2=Q at*
  generalize Z++[(kk:Int)]=Q1 at*
  have b7:B71_7 (S k 1 (LI .u64 (nz l))) (.int .i64 (kk:Int)) (.ptr hp.next 0 0) (.int .i64 (l.length:Int)) (.int .i64 (l.length:Int)) hp1=some (.tup [S 1 1 (LI .u8 Y),.sc (.int .i64 0)],hp3.put hp1.next 0 (Wc Y)):=by
   rw[qg5]
   have wc0:Wc []=[S 2 1 []]:=rfl
   rw[wc0]at u1
   simp[w3,w4,w6,u1,u2,v1,u3,x1,u4,u5]
  rw[<-a1]at b7
  simp[rc,pr,b7]
 ·refine⟨by have:=v2.1;have:=x2.1;simp at *;omega,fun c hc _=>?_⟩
  have h1:c≠hp1.next:=qc
  have hv:=v2.1
  have hx:=x2.1
  simp at hv hx
  have e1:(hp3.put hp1.next 0 (Wc (vZ l))).get c=hp3.get c:=by simp[Hp.put,h1]
  rw[e1,x2.2 c qh qf]
  have e2:∀x,(hp2.put hp1.next 0 x).get c=hp2.get c:=by intro x;simp[Hp.put,h1]
  rw[e2,v2.2 c qh qf]
  have e3:∀x,(hp1.new x).get c=hp1.get c:=by intro x;simp[Hp.new,h1]
  rw[e3,wN c hc]
theorem xN(K:IntKind)(x k:Nat)(hk:k<=K.bits)(t:TypeId)(o o':Operand)(K':IntKind):qt Tryz.prog .shr t o o' (.int K (x:Int)) (.int K' (k:Int))=some (.int K ((x/2^k:Nat):Int)):=by
 rw[zZ _ _ _ _ _ _ _ _ qc,zgu,zio hk,zhr _ (Int.le_of_lt (Int.pow_pos qc))]
 simp
theorem qi9(n last:Nat)(hn:n<=1000000)(hl:last<4294967296)(hp:Hp):∀(f k:Nat),k+f=33->k<=32->B149_2 (.int .i64 (n:Int)) (.int .u32 (last:Int)) (.int .i64 (k:Int)) hp=some (.sc (.int .i64 (qcr n last f k:Nat)),hp):=by
 intro f
 induction f with
 |zero=>intro k h h2;omega
 |succ f ih=>
  intro k h h2
  have w1:IntKind.u64.wrap (last:Int)=(last:Int):=qz qc qc
  have w2:IntKind.i64.wrap ((k:Int)+1)=((k+1:Nat):Int):=qi
  have w3:IntKind.u64.wrap (n:Int)=(n:Int):=qz qc qc
  have sh:=fun t o o'=>xN .u64 last (k+1) (by show k+1<=64;omega) t o o' .i64
  have b4:∀v,B149_4 v hp=some (.sc v,hp):=fun v=>by rw[qqd]
  rw[qqf]
  unfold qcr
  by_cases h0:0<n
  ·have h0':(n:Int)>0:=qc
   by_cases h1:n<=last/2^(k+1)
   ·by_cases hk:k=32
    ·subst hk
     have:last/2^33=0:=zj6 (zg5 hl qg)
     have e:(32:Nat)+1=33:=rfl
     rw[e,this]at h1
     omega
    ·have hi:=ih (k+1) qc qc
     have h1':((last/2^(k+1):Nat):Int)>=(n:Int):=qc
     rw[if_pos ⟨h0,h1⟩]
     generalize((last/2^(k+1):Nat):Int)=q at*
     generalize((k+1:Nat):Int)=k1 at*
     simp[h0,zp,w1,w2,sh,jB,w3,h1',qqe,hi]
   ·have h1':¬(((last/2^(k+1):Nat):Int)>=(n:Int)):=qc
    rw[if_neg (fun c=>h1 c.2)]
    generalize((last/2^(k+1):Nat):Int)=q at*
    generalize((k+1:Nat):Int)=k1 at*
    have h1'':¬((n:Int)<=q):=h1'
    simp[h0,zp,w1,w2,sh,jB,w3,h1'',b4]
  ·have h0':¬((n:Int)>0):=qc
   rw[if_neg (fun c=>h0 c.1)]
   simp[h0,b4]
theorem qm0(n last:Nat)(hn:n<=1000000)(hl:last<4294967296)(hp:Hp):run cxX 149 [.sc (.int .i64 (n:Int)),.sc (.int .u32 (last:Int))] hp=some (.sc (.int .i64 (VH n last:Nat)),hp):=by
 have h:=qi9 n last hn hl hp 33 0 rfl qc
 rw[E149]
 simp at h
 simp[h,VH]
theorem qi3:∀(l:List Nat),yq l->∀i,i+1<l.length->l.getD i 0<=l.getD (i+1) 0:=by
 intro l
 induction l with
 |nil=>intro _ i h;simp at h
 |cons x r ih=>
  intro hr i h
  cases r with
  |nil=>simp at h
  |cons y r=>
   cases i with
   |zero=>exact hr.1
   |succ i=>exact ih hr.2 i (by simpa using h)
theorem BW.lt{hp:Hp}{w nb:Nat}{bs:List Bool}(h:BW hp w nb bs):nb<hp.next:=by
 by_cases hb:bs=[]
 ·rw[h.2.1 hb];exact h.1
 ·exact(h.2.2.1 hb).1
def W2(h0:Nat)(hp:Hp)(w1 n1:Nat)(b1:List Bool)(w2 n2:Nat)(b2:List Bool):Prop:=
 BW hp w1 n1 b1/\BW hp w2 n2 b2/\w1≠w2/\n1≠w2/\n1≠n2/\w1≠n2/\h0<=w1/\h0<=w2/\h0<=n1/\h0<=n2
theorem W2.one{h0:Nat}{hp hp':Hp}{w1 n1 n1' w2 n2:Nat}{b1 b2 b1':List Bool}(h:W2 h0 hp w1 n1 b1 w2 n2 b2)(s:BS hp w1 n1 hp' n1' b1'):W2 h0 hp' w1 n1' b1' w2 n2 b2/\∀c,c<h0->hp'.get c=hp.get c:=by
 obtain⟨a1,a2,d1,d2,d3,d4,e1,e2,e3,e4⟩:=h
 obtain⟨s1,s2,s3⟩:=s
 have l1:=a1.lt
 have l2:=a2.lt
 have l3:=a2.1
 have l4:=a1.1
 refine⟨⟨s1,a2.fr s2 qh qh,d1,qc,qc,d4,e1,e2,qc,e4⟩,fun c hc=>s2.2 c qc qh⟩
theorem W2.two{h0:Nat}{hp hp':Hp}{w1 n1 n2' w2 n2:Nat}{b1 b2 b2':List Bool}(h:W2 h0 hp w1 n1 b1 w2 n2 b2)(s:BS hp w2 n2 hp' n2' b2'):W2 h0 hp' w1 n1 b1 w2 n2' b2'/\∀c,c<h0->hp'.get c=hp.get c:=by
 obtain⟨a1,a2,d1,d2,d3,d4,e1,e2,e3,e4⟩:=h
 obtain⟨s1,s2,s3⟩:=s
 have l1:=a1.lt
 have l2:=a2.lt
 have l3:=a2.1
 have l4:=a1.1
 refine⟨⟨a1.fr s2 qh qh,s1,d1,d2,qc,qc,e1,e2,e3,qc⟩,fun c hc=>s2.2 c qc qh⟩
theorem qlv{l:List Nat}(h32:∀x∈l,x<4294967296)(i:Nat)(hi:i<l.length):l.getD i 0<4294967296:=by
 rw[zgp,zgl hi]
 exact h32 _ (zhx _)
section
variable (l:List Nat)(k k':Nat)(hl:l.length<=4096)(h32:∀x∈l,x<4294967296)(hr:yq l)
include hl h32 hr
theorem quv(kk w1 w2 h0:Nat)(hkk:kk<=32)(hq:zn l/2^kk<2*4096)(c0 c1:AV)(cs:List AV)(b2:List AV):∀(r:List Nat) (i p n1 n2:Nat) (bs1 bs2:List Bool) (hp:Hp),l.drop i=r->i+r.length=l.length->yq (p::r)->
 (i=0->p=0)->bs1.length+r.length*32<1000000->bs2.length+(jd kk (p/2^kk) r).length<1000000->W2 h0 hp w1 n1 bs1 w2 n2 bs2->
 ∃hp' n1' n2' v,B75_11 (S k 1 (LI .u32 (nz l))) (.ptr w1 0 0) (.ptr w2 0 0) (.int .u32 ((p/2^kk:Nat):Int)) (S k' 1 (LI .u32 (nz l))) (.int .i64 (l.length:Int)) (.int .i64 (i:Int)) b2 (c0::c1::.sc (.int .i64 (kk:Int))::cs) hp=
  B75_11 (S k 1 (LI .u32 (nz l))) (.ptr w1 0 0) (.ptr w2 0 0) v (S k' 1 (LI .u32 (nz l))) (.int .i64 (l.length:Int)) (.int .i64 (l.length:Int)) b2 (c0::c1::.sc (.int .i64 (kk:Int))::cs) hp'/\
  W2 h0 hp' w1 n1' (bs1++yW kk r) w2 n2' (bs2++jd kk (p/2^kk) r)/\(hp.next<=hp'.next/\∀c,c<h0->hp'.get c=hp.get c):=by
 intro r
 induction r with
 |nil=>
  intro i p n1 n2 bs1 bs2 hp h hil hpr hi0 hb1 hb2 hw
  have e:i=l.length:=by simpa using hil
  rw[e]
  exact⟨hp,n1,n2,_,rfl,by simpa[yW,jd]using hw,zgm _,fun _ _=>rfl⟩
 |cons x r ih=>
  intro i p n1 n2 bs1 bs2 hp h hil hpr hi0 hb1 hb2 hw
  obtain⟨e1,e2,hi,e3⟩:=qu h
  simp only[zgk]at hb1 hil
  have hlt:(i:Int)<(l.length:Int):=qc
  have ai:=WB .u32 l i hi
  have ex:l.getD i 0=x:=by rw[zgp,e1];rfl
  have hx:x<4294967296:=by rw[<-ex];exact qlv h32 i hi
  rw[ex]at ai
  have hd:p/2^kk<=x/2^kk:=Nat.div_le_div_right hpr.1
  have hxq:x/2^kk<=x:=zkh _ _
  have sh:=fun t o o'=>xN .u32 x kk (by show kk<=32;omega) t o o' .i64
  have hh:(jd kk (p/2^kk) (x::r)).length=(x/2^kk-p/2^kk)+1+(jd kk (x/2^kk) r).length:=by simp[jd]
  rw[hh]at hb2
  have w1':IntKind.u64.wrap (x:Int)=(x:Int):=qz qc qc
  have w2':IntKind.u32.wrap (((x/2^kk:Nat):Int)-((p/2^kk:Nat):Int))=((x/2^kk-p/2^kk:Nat):Int):=by rw[qV]<;>omega
  have w3':IntKind.i64.wrap ((x/2^kk-p/2^kk:Nat):Int)=((x/2^kk-p/2^kk:Nat):Int):=qk qc qc
  have w5:IntKind.i64.wrap ((i:Int)+1)=((i+1:Nat):Int):=qi
  obtain⟨hp1,m1,a1,a2⟩:=ZE w1 n1 x kk bs1 hp qc qc qc hw.1
  obtain⟨hw1,hg1⟩:=hw.one a2
  obtain⟨hp2,m2,b1,b3⟩:=Wb w2 n2 (x/2^kk-p/2^kk) bs2 hp1 qc hw1.2.1
  obtain⟨hw2,hg2⟩:=hw1.two b3
  obtain⟨hp3,m3,m4,v,r1,c2,c3⟩:=ih (i+1) x m1 m2 (bs1++nbs x kk) (bs2++una (x/2^kk-p/2^kk)) hp2 e2 qc hpr.2 qc qh qh hw2
  have f1:=a2.2.1.1
  have f2:=b3.2.1.1
  refine⟨hp3,m3,m4,v,?_,?_,qc,fun c hc=>by rw[c3.2 c hc,hg2 c hc,hg1 c hc]⟩
  ·have b15:B75_15 (S k 1 (LI .u32 (nz l))) (.ptr w1 0 0) (.ptr w2 0 0) (.int .u32 ((p/2^kk:Nat):Int)) (.int .u32 (x:Int)) (S k' 1 (LI .u32 (nz l))) (.int .i64 (l.length:Int)) (.int .i64 (i:Int)) b2 (c0::c1::.sc (.int .i64 (kk:Int))::cs) hp=
    B75_11 (S k 1 (LI .u32 (nz l))) (.ptr w1 0 0) (.ptr w2 0 0) v (S k' 1 (LI .u32 (nz l))) (.int .i64 (l.length:Int)) (.int .i64 (l.length:Int)) b2 (c0::c1::.sc (.int .i64 (kk:Int))::cs) hp3:=by
    rw[<-r1,qpc]
    generalize((x/2^kk-p/2^kk:Nat):Int)=d at*
    generalize((i+1:Nat):Int)=I at*
    generalize((p/2^kk:Nat):Int)=P at*
    generalize((x/2^kk:Nat):Int)=X at*
    have gs:∀(a b:AV) (v:Value) (c:List AV),qj (a::b::.sc v::c) 2=some v:=fun _ _ _ _=>rfl
    simp[gs,zp,w1',a1,sh,w2',Qn,w3',b1,w5]
   rw[qan,<-b15]
   have g1:(0:Int)<=(i:Int):=qc
   have gs0:∀(v:Value),qj [.sc v] 0=some v:=fun _=>rfl
   by_cases hi1:i=0
   ·have hi2:(0<i)=False:=by simp[hi1]
    have hi4:(i<l.length)=True:=by simp[hi]
    clear hi1
    generalize((p/2^kk:Nat):Int)=P at*
    have en:∀h,(nz l)[i]'h=(x:Int):=fun h=>by simp[nz,e3]
    simp[hi4,ai,gs0,hi2,en]
   ·have aj:=WB .u32 l (i-1) qc
    have hle:=qi3 l hr (i-1) qc
    have e:i-1+1=i:=qc
    rw[e,ex]at hle
    have w9:IntKind.i64.wrap ((i:Int)-1)=((i-1:Nat):Int):=qi
    have hi2:0<i:=qc
    have g0:(0:Int)<=((i-1:Nat):Int):=qc
    generalize l.getD (i-1) 0=y at*
    have hle':¬((x:Int)<(y:Int)):=qc
    have aj':(LI .u32 (nz l))[(((i-1:Nat):Int)).toNat]?=some (.sc (.int .u32 (y:Int))):=by rw[zgu];exact aj
    generalize((i-1:Nat):Int)=j at*
    generalize((p/2^kk:Nat):Int)=P at*
    simp[hlt,ai,gs0,hi2,w9,aj',g0,hle']
  ·have q1:bs1++yW kk (x::r)=bs1++nbs x kk++yW kk r:=by simp[yW]
   have q2:bs2++jd kk (p/2^kk) (x::r)=bs2++una (x/2^kk-p/2^kk)++jd kk (x/2^kk) r:=by simp[jd]
   rw[q1,q2]
   exact c2
end
def qgy(l:List Nat)(t1 t2:Nat):AV:=.agg [.sc (.int .i64 (l.length:Nat)),.sc (.int .u32 (zn l:Nat)),.sc (.int .i64 (yv l:Nat)),S t1 1 (LI .u8 (pk (yW (yv l) l))),S t2 1 (LI .u8 (pk (jd (yv l) 0 l)))]
theorem qu2:yv []=0:=rfl
section
variable (l:List Nat)(k:Nat)(hl:l.length<=4096)(h32:∀x∈l,x<4294967296)(hr:yq l)
include hl h32 hr
theorem Zc(hne:l≠[]):yv l<=32/\zn l<4294967296/\(jd (yv l) 0 l).length<=3*4096:=by
 have hpos:=zh5.mpr hne
 have hlast:zn l<4294967296:=qlv h32 _ qc
 have h1:=qyt l.length (zn l) hlast
 have h2:=qfc hpos hlast
 have h3:=qji (yv l) l hr
 have h4:yv l=VH l.length (zn l):=rfl
 rw[h4]at h3⊢
 exact⟨h1,hlast,qc⟩
theorem qxc(hp:Hp):∃t1 t2 hp',run cxX 75 [S k 1 (LI .u32 (nz l))] hp=some (.tup [qgy l t1 t2,.sc (.int .i64 0)],hp')/\Fm [] hp hp':=by
 by_cases hne:l=[]
 ·subst hne
  refine⟨2,2,hp,?_,Fm.refl _ _⟩
  rw[E75]
  simp[qgy,qu2,nz,LI,yW,jd,qs9,zn]
 ·obtain⟨k32,hlast,hhb⟩:=Zc l hl h32 hr hne
  have hpos:=zh5.mpr hne
  have hlow:=qm0 l.length (zn l) qc hlast hp0
  have e4:VH l.length (zn l)=yv l:=rfl
  rw[e4]at hlow
  have hq:=qfc hpos hlast
  rw[e4]at hq
  have w1:IntKind.i64.wrap ((l.length:Int)-1)=((l.length-1:Nat):Int):=qi
  have al:=WB .u32 l (l.length-1) qc
  have e5:l.getD (l.length-1) 0=zn l:=rfl
  rw[e5]at al
  let hpA:=(hp.new [S 2 1 [],.sc (.int .i64 0)]).new [S 2 1 [],.sc (.int .i64 0)]
  have b1:BW hpA hp.next hp.next []:=(BW.new hp).fr (Fm.new [] _ _) qf qf
  have b2:BW hpA (hp.next+1) (hp.next+1) []:=BW.new (hp.new [S 2 1 [],.sc (.int .i64 0)])
  have hw:W2 hp.next hpA hp.next hp.next [] (hp.next+1) (hp.next+1) []:=⟨b1,b2,qc,qc,qc,qc,qc,qc,qc,qc⟩
  have hnA:hpA.next=hp.next+1+1:=rfl
  obtain⟨hp1,n1,n2,v,c1,c2,c3⟩:=quv l k (rk k) hl h32 hr (yv l) hp.next (hp.next+1) hp.next k32 qc (.sc (.int .i64 (l.length:Int))) (.sc (.int .u32 (zn l:Nat))) [S 2 1 [],S 2 1 []]
   [.sc (.int .i64 0),.sc (.int .u32 0),.sc (.int .i64 0),S 2 1 [],S 2 1 []] l 0 0 hp.next (hp.next+1) [] [] hpA rfl qf (wF hr) (fun _=>rfl) qh (by rw[Nat.zero_div];simp;omega) hw
  simp only[Nat.zero_div,zg2]at c1 c2
  obtain⟨t1,hp2,d1,d2⟩:=vx hp.next n1 (yW (yv l) l) hp1 (by simp;have:l.length*yv l<=4096*32:=zh0 hl k32;omega) c2.1
  obtain⟨t2,hp3,f1,f2⟩:=vx (hp.next+1) n2 (jd (yv l) 0 l) hp2 qc (c2.2.1.fr d2 qf qf)
  have hnx:hp.next<=hp3.next:=by have:=d2.1;have:=f2.1;have:=c3.1;omega
  refine⟨t1,t2,hp3,?_,hnx,fun c hc _=>?_⟩
  ·have b11:B75_11 (S k 1 (LI .u32 (nz l))) (.ptr hp.next 0 0) (.ptr (hp.next+1) 0 0) v (S (rk k) 1 (LI .u32 (nz l))) (.int .i64 (l.length:Int)) (.int .i64 (l.length:Int))
    [.sc (.int .i64 0),.sc (.int .u32 0),.sc (.int .i64 0),S 2 1 [],S 2 1 []] [.sc (.int .i64 (l.length:Int)),.sc (.int .u32 (zn l:Nat)),.sc (.int .i64 (yv l:Nat)),S 2 1 [],S 2 1 []] hp1=some (.tup [qgy l t1 t2,.sc (.int .i64 0)],hp3):=by
    rw[qan]
    unfold qgy
    generalize pk (yW (yv l) l)=A at*
    generalize pk (jd (yv l) 0 l)=B at*
    simp[d1,f1,qm,qn]
   rw[<-c1]at b11
   have h1:¬((l.length:Int)>4096):=qc
   have h2:¬((l.length:Int)=0):=qc
   have g0:(0:Int)<=((l.length-1:Nat):Int):=qc
   have al':(nz l)[(((l.length-1:Nat):Int)).toNat]?=some ((zn l:Nat):Int):=by
    rw[zgu];unfold nz zn
    rw[zgx,zgp,zgl qc];rfl
   have gs0:∀(v:Value),qj [.sc v] 0=some v:=fun _=>rfl
   have gs1:∀(x:AV) (v:Value) (r:List AV),qj (x::.sc v::r) 1=some v:=fun _ _ _=>rfl
   have h1':¬((4096:Int)<(l.length:Int)):=qc
   rw[E75]
   generalize((l.length-1:Nat):Int)=j at*
   generalize qgy l t1 t2=FR at*
   simp at b11
   simp[h1',hne,w1,al',g0,gs0,gs1,hlow]
   exact b11
  ·rw[f2.2 c (by have:=d2.1;have:=c3.1;omega) qf,d2.2 c (by have:=c3.1;omega) qf,c3.2 c hc]
   show((hp.new _).new _).get c=_
   have e1:c≠hp.next:=qc
   have e2:c≠hp.next+1:=qc
   simp[Hp.new,e1,e2]
theorem qsd(w t1 t2:Nat)(Z:List Int)(hZ:Z.length+(VK l).length<=1000000)(hp:Hp)(h:hp.rd w 0=some (Wc Z)):
 run cxX 76 [qgy l t1 t2,.ptr w 0 0] hp=some (.tup [],hp.put w 0 (Wc (Z++VK l))):=by
 have hlast:zn l<4294967296:=by
  by_cases hne:l=[]
  ·subst hne;show(0:Nat)<_;omega
  ·exact(Zc l hl h32 hr hne).2.1
 unfold qgy
 have eY:VK l=uv l.length++uv (zn l)++pk (yW (yv l) l)++uv (pk (jd (yv l) 0 l)).length++pk (jd (yv l) 0 l):=rfl
 rw[eY]at hZ⊢
 generalize pk (yW (yv l) l)=A at*
 generalize pk (jd (yv l) 0 l)=B at*
 simp only[zgi]at hZ
 have u1:=qY w l.length Z qc qc hp h
 have u2:=qY w (zn l) (Z++uv l.length) qc (by simp only[zgi];omega) _ (qr hp w (Wc (Z++uv l.length)))
 rw[qx]at u2
 have u3:=zX w (Z++uv l.length++uv (zn l)) A (rk t1) (by simp only[zgi];omega) _ (qr hp w _)
 rw[qx]at u3
 have u4:=qY w B.length (Z++uv l.length++uv (zn l)++A) qc (by simp only[zgi];omega) _ (qr hp w _)
 rw[qx]at u4
 have u5:=zX w (Z++uv l.length++uv (zn l)++A++uv B.length) B (rk t2) (by simp only[zgi];omega) _ (qr hp w _)
 rw[qx]at u5
 have w1:IntKind.u64.wrap (l.length:Int)=(l.length:Int):=qz qc qc
 have w2:IntKind.u64.wrap ((zn l:Nat):Int)=((zn l:Nat):Int):=qz qc qc
 have w3:IntKind.u64.wrap (B.length:Int)=(B.length:Int):=qz qc qc
 have eZ:Z++(uv l.length++uv (zn l)++A++uv B.length++B)=Z++uv l.length++uv (zn l)++A++uv B.length++B:=by simp only[zgw]
 rw[eZ]
 generalize Z++uv l.length++uv (zn l)++A++uv B.length++B=Z5 at*
 generalize Z++uv l.length++uv (zn l)++A++uv B.length=Z4 at*
 generalize Z++uv l.length++uv (zn l)++A=Z3 at*
 generalize Z++uv l.length++uv (zn l)=Z2 at*
 generalize Z++uv l.length=Z1 at*
 have gs1:∀(x:AV) (v:Value) (r:List AV),qj (x::.sc v::r) 1=some v:=fun _ _ _=>rfl
 have gs0:∀(v:Value) (r:List AV),qj (.sc v::r) 0=some v:=fun _ _=>rfl
 rw[E76]
 simp[gs0,gs1,qo,jB,w1,u1,zp,w2,u2,u3,w3,u4,u5]
end
end Go.Proofs.YtoliekekdmfngaaGreat.AI
