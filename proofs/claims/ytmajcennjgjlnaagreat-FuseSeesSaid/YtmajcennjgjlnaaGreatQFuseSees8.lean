/- Texts that the proof of FuseSees rests on, part 8. -/
import Derived.Test.YtmajcennjgjlnaaGreatQFuseSees4
import Derived.Test.YtmajcennjgjlnaaGreatQFuseSees5
import Derived.Test.YtmajcennjgjlnaaGreatQFuseSees6
import Derived.Test.YtmajcennjgjlnaaGreatQFuseSees7
namespace Go.Proofs.YtmajcennjgjlnaaGreat.AI
open Go
set_option linter.unusedVariables false
set_option linter.unusedSimpArgs false
set_option maxRecDepth 100000
set_option maxHeartbeats 0
noncomputable def zie:Value:=.string ⟨#[0,1,2,2,3,3,3,3,4,4,4,4,4,4,4,4,5,5,5,5,5,5,5,5,5,5,5,5,5,5,5,5,6,6,6,6,6,6,6,6,6,6,6,6,6,6,6,6,6,6,6,6,6,6,6,6,6,6,6,6,6,6,6,6,7,7,7,7,7,7,7,7,7,7,7,7,7,7,7,7,7,7,7,7,7,7,7,7,7,7,7,7,7,7,7,7,7,7,7,7,7,7,7,7,7,7,7,7,7,7,7,7,7,7,7,7,7,7,7,7,7,7,7,7,7,7,7,7,8,8,8,8,8,8,8,8,8,8,8,8,8,8,8,8,8,8,8,8,8,8,8,8,8,8,8,8,8,8,8,8,8,8,8,8,8,8,8,8,8,8,8,8,8,8,8,8,8,8,8,8,8,8,8,8,8,8,8,8,8,8,8,8,8,8,8,8,8,8,8,8,8,8,8,8,8,8,8,8,8,8,8,8,8,8,8,8,8,8,8,8,8,8,8,8,8,8,8,8,8,8,8,8,8,8,8,8,8,8,8,8,8,8,8,8,8,8,8,8,8,8,8,8,8,8,8,8]⟩
theorem zdw(v0 v2:Value)(hp:Hp):B188_10 v0 v2 hp=(Ku Tryz.prog 62 5 v0).bind fun y12=>(ixV Tryz.prog 9 zie y12).bind fun y13=>(Ku Tryz.prog 5 3 y13).bind fun y14=>(qy Tryz.prog .add 3 (.tmp 19) (.tmp 23) v2 y14).bind fun y15=>some (.sc y15,hp):=
 (qpi _ _ _).trans qf
noncomputable def zhc(x:Nat):Bool:=
 match ixV Tryz.prog 9 zie (.int .u8 (x:Int))with
 |some (.int .u8 (.ofNat n))=>decide (n<=8)&&decide (x<2^n)&&(decide (n=0)||decide (2^(n-1)<=x))
 |_=>false
theorem zd7:(List.range 256).all zhc=true:=qf
theorem zid(x:Nat)(h:x<256):∃n:Nat,n<=8/\Bl x n/\ixV Tryz.prog 9 zie (.int .u8 (x:Int))=some (.int .u8 (n:Int)):=by
 have hx:=zoe.mp zd7 x (zq4.mpr h)
 unfold zhc at hx
 split at hx
 ·rename_i n e
  simp only[zo0,zqk,decide_eq_true_eq]at hx
  exact⟨n,hx.1.1,⟨hx.1.2,hx.2⟩,e⟩
 ·cases hx
theorem cv8(n:Int):Ku Tryz.prog 5 3 (.int .u8 n)=some (.int .i64 (IntKind.i64.wrap n)):=jW n
theorem zd0(n:Nat)(h:n<1000000):IntKind.i64.wrap (n:Int)=n:=qm qe qe
theorem zhn(x v:Nat)(h:x<256)(hv:v<=100):∃n,n<=8/\Bl x n/\∀hp,B188_10 (.int .u64 (x:Int)) (.int .i64 (v:Int)) hp=some (.sc (.int .i64 ((n+v:Nat):Int)),hp):=by
 obtain⟨n,h1,h2,h3⟩:=zid x h
 refine⟨n,h1,h2,fun hp=>?_⟩
 have w:IntKind.u8.wrap (x:Int)=x:=zB qe qe
 have w2:IntKind.i64.wrap (n:Int)=n:=zd0 n qe
 have w3:IntKind.i64.wrap ((v:Int)+(n:Int))=((n+v:Nat):Int):=qj
 rw[zdw]
 simp[Xu,w,h3,cv8,w2,w3]
theorem Jp(x k:Nat)(hk:k<=64)(o o':Operand)(K:IntKind):qy Tryz.prog .shr 62 o o' (.int .u64 (x:Int)) (.int K (k:Int))=some (.int .u64 ((x/2^k:Nat):Int)):=by
 rw[jM _ _ _ _ _ _ _ _ qe]
 have e:min ((k:Int)).toNat IntKind.u64.bits=k:=by
  have:IntKind.u64.bits=64:=rfl
  rw[this];omega
 rw[e,zos _ (by exact_mod_cast zn1 (2^k))]
 congr 2
theorem len7(x v:Nat)(h:x<65536)(hv:v<=90):∃n,n<=16/\Bl x n/\∀hp,B188_7 (.int .u64 (x:Int)) (.int .i64 (v:Int)) hp=some (.sc (.int .i64 ((n+v:Nat):Int)),hp):=by
 by_cases hx:256<=x
 ·obtain⟨n,h1,h2,h3⟩:=zhn (x/2^8) (v+8) qe qe
  refine⟨n+8,qe,h2.up qe,fun hp=>?_⟩
  have s:=Jp x 8 qe (.tmp 15) (.const (.int .u64 8)) .u64
  have c:(256:Int)<=(x:Int):=qe
  have w:IntKind.i64.wrap ((v:Int)+8)=((v+8:Nat):Int):=qj
  have e:n+(v+8)=n+8+v:=qe
  rw[e]at h3
  rw[qee]
  simp at s w h3
  simp[c,s,w,h3]
 ·obtain⟨n,h1,h2,h3⟩:=zhn x v qe qe
  refine⟨n,qe,h2,fun hp=>?_⟩
  have c:¬((256:Int)<=(x:Int)):=qe
  rw[qee]
  simp at h3
  simp[c,h3]
theorem len4(x v:Nat)(h:x<4294967296)(hv:v<=70):∃n,n<=32/\Bl x n/\∀hp,B188_4 (.int .u64 (x:Int)) (.int .i64 (v:Int)) hp=some (.sc (.int .i64 ((n+v:Nat):Int)),hp):=by
 by_cases hx:65536<=x
 ·obtain⟨n,h1,h2,h3⟩:=len7 (x/2^16) (v+16) qe qe
  refine⟨n+16,qe,h2.up qe,fun hp=>?_⟩
  have s:=Jp x 16 qe (.tmp 9) (.const (.int .u64 16)) .u64
  have c:(65536:Int)<=(x:Int):=qe
  have w:IntKind.i64.wrap ((v:Int)+16)=((v+16:Nat):Int):=qj
  have e:n+(v+16)=n+16+v:=qe
  rw[e]at h3
  rw[qef]
  simp at s w h3
  simp[c,s,w,h3]
 ·obtain⟨n,h1,h2,h3⟩:=len7 x v qe qe
  refine⟨n,qe,h2,fun hp=>?_⟩
  have c:¬((65536:Int)<=(x:Int)):=qe
  rw[qef]
  simp at h3
  simp[c,h3]
theorem qsp(x:Nat)(h:x<18446744073709551616):∃n,n<=64/\Bl x n/\∀hp,run cxX 188 [.sc (.int .u64 (x:Int))] hp=some (.sc (.int .i64 (n:Int)),hp):=by
 by_cases hx:4294967296<=x
 ·obtain⟨n,h1,h2,h3⟩:=len4 (x/2^32) 32 qe qe
  refine⟨n+32,qe,h2.up qe,fun hp=>?_⟩
  have s:=Jp x 32 qe (.tmp 5) (.const (.int .u64 32)) .u64
  have c:(4294967296:Int)<=(x:Int):=qe
  rw[E188]
  simp at s h3
  simp[c,s,h3]
 ·obtain⟨n,h1,h2,h3⟩:=len4 x 0 qe qe
  refine⟨n,qe,h2,fun hp=>?_⟩
  have c:¬((4294967296:Int)<=(x:Int)):=qe
  rw[E188]
  simp at h3
  simp[c,h3]
theorem or_zero(x:Nat)(h:x<18446744073709551616)(o o':Operand):qy Tryz.prog .or 62 o o' (.int .u64 (x:Int)) (.int .u64 ((0:Nat):Int))=some (.int .u64 (x:Int)):=by
 rw[zS]
 have e:(BitVec.ofInt 64 (x:Int)|||BitVec.ofInt 64 ((0:Nat):Int)).toNat=x:=by
  rw[zpt,znx,znx]
  have e1:(((x:Int)%((2^64:Nat):Int)).toNat)=x:=qe
  have e2:((((0:Nat):Int)%((2^64:Nat):Int)).toNat)=0:=qh
  rw[e1,e2,Nat.or_zero]
 show some (Value.int .u64 (IntKind.u64.wrap ((BitVec.ofInt 64 (x:Int)|||BitVec.ofInt 64 ((0:Nat):Int)).toNat:Nat)))=_
 rw[e,qu qe qe]
theorem wnat(n:Nat)(h:n<18446744073709551616):IntKind.u64.wrap (n:Int)=n:=qu qe qe
theorem Xa(x y:Nat)(hy:0<y)(h:x<18446744073709551616)(o o':Operand):qy Tryz.prog .quo 62 o o' (.int .u64 (x:Int)) (.int .u64 (y:Int))=some (.int .u64 ((x/y:Nat):Int)):=by
 rw[yB _ _ _ _ _ _ _ qe,zoi qe,<-Int.natCast_ediv]
 rw[wnat _ (zow (zpl x y) h)]
theorem Vy(x y:Nat)(hy:0<y)(o o':Operand):qy Tryz.prog .rem 62 o o' (.int .u64 (x:Int)) (.int .u64 (y:Int))=some (.int .u64 ((x%y:Nat):Int)):=by
 rw[zp _ _ _ _ _ _ _ qe,zn qe,<-Int.natCast_emod]
section
variable {B:Nat}(hB:B=4294967296)
include hB
end
@[simp] theorem zl5(b g o:Nat):Xd (.ptr b g o)=some false:=rfl
@[simp] theorem zl6:Xd (.sc (.pointer none))=some true:=rfl
@[simp] theorem zfu(b g o:Nat):ZP (.ptr b g o)=some ():=rfl
@[simp] theorem vO(b g o:Nat):qZ (.ptr b g o)=some (b,g,o):=rfl
@[simp] theorem ziq(b g o:Nat):ro (.ptr b g o)= .ptr b g o:=rfl
@[simp] theorem zm2(b g o:Nat):ro1 (.ptr b g o)= .ptr b g o:=rfl
@[simp] theorem zk2(b g o:Nat):Zs (.ptr b g o)=some ():=rfl
theorem qC(hp:Hp)(b:Nat)(x y:List AV):(hp.put b 0 x).put b 0 y=hp.put b 0 y:=by
 unfold Hp.put
 congr 1
 funext z
 by_cases e:z=b
 ·simp[e]
 ·simp[e]
theorem qgo(hp:Hp)(x y:List AV):(hp.new x).put hp.next 0 y=hp.new y:=by
 unfold Hp.put Hp.new
 congr 1
 funext z
 by_cases e:z=hp.next
 ·simp[e]
 ·simp[e]
theorem jm{hp:Hp}{b:Nat}{x:List AV}(h:hp.rd b 0=some x):hp.put b 0 x=hp:=by
 have hg:hp.get b=some (0,x):=by
  unfold Hp.rd at h
  obtain⟨p,hp1,h⟩:=bsm h
  split at h
  ·rename_i e
   cases h
   rw[hp1]
   obtain⟨p1,p2⟩:=p
   have:p1=0:=e.1
   subst this;rfl
  ·cases h
 obtain⟨n,g⟩:=hp
 unfold Hp.put
 congr 1
 funext z
 by_cases e:z=b
 ·subst e;simp only[if_true];exact hg.symm
 ·simp[e]
theorem qB(hp:Hp){b c:Nat}(x:List AV)(h:c≠b):(hp.put b 0 x).rd c 0=hp.rd c 0:=by
 simp[Hp.rd,Hp.put,h]
theorem zH(hp:Hp){c:Nat}(x:List AV)(h:c≠hp.next):(hp.new x).rd c 0=hp.rd c 0:=by
 simp[Hp.rd,Hp.new,h]
@[simp] theorem qjw(hp:Hp)(b:Nat)(x:List AV):(hp.put b 0 x).next=hp.next:=rfl
@[simp] theorem zl7(hp:Hp)(x:List AV):(hp.new x).next=hp.next+1:=rfl
abbrev Wc(l:List Int):List AV:=[S 2 1 (LI .u8 l)]
theorem Qf{x:Int}:IntKind.u8.wrap x=x%256:=by rw[IntKind.wrap_u8]
theorem ju(b:Nat)(l:List Int)(c:Int)(hl:l.length<=1000000)(hp:Hp)(h:hp.rd b 0=some (Wc l)):
 run cxX 110 [.ptr b 0 0,.sc (.int .u8 c)] hp=some (.tup [],hp.put b 0 (Wc (l++[c]))):=by
 have ap:=Qz .u8 l 2 (.inr rfl) 1 qh c hl
 rw[E110]
 simp[h,qs,ap,qr,qo,qC]
theorem Qi(b:Nat)(l m:List Int)(k:Nat)(hl:l.length+m.length<=1000000)(hp:Hp)(h:hp.rd b 0=some (Wc l)):
 run cxX 105 [.ptr b 0 0,S k 1 (LI .u8 m)] hp=some (.tup [],hp.put b 0 (Wc (l++m))):=by
 have ap:=fun k=>zcj .u8 l 2 (.inr rfl) 1 qh k m hl
 rw[E105]
 simp[h,qs,ap,qr,qo,qC]
theorem Wf(b:Nat)(l:List Int)(hl:l.length<=1000000)(hp:Hp)(h:hp.rd b 0=some (Wc l)):
 run cxX 57 [.ptr b 0 0] hp=some (S 1 1 (LI .u8 l),hp):=by
 have ap:=fun k=>zcj .u8 [] 1 (.inl rfl) 1 qh k l (by simpa using hl)
 simp at ap
 rw[E57]
 simp[h,qs,ap]
theorem qz0:∀x:BitVec 8,(x|||128#8).toNat=x.toNat%128+128:=qh
theorem zlz(n:Nat)(t:TypeId)(x y:Operand):qy Tryz.prog .or t x y (.int .u8 ((n:Int)%256)) (.int .u8 128)=some (.int .u8 ((n%128+128:Nat):Int)):=by
 rw[zS]
 have e1:(BitVec.ofInt 8 ((n:Int)%256)).toNat=n%256:=by
  rw[znx]
  omega
 have e2:(BitVec.ofInt IntKind.u8.bits ((n:Int)%256)|||BitVec.ofInt IntKind.u8.bits 128).toNat=n%128+128:=by
  show(BitVec.ofInt 8 ((n:Int)%256)|||128#8).toNat=_
  rw[qz0,e1]
  omega
 rw[e2,zB qe qe]
theorem shr7(n:Nat)(t:TypeId)(x y:Operand):qy Tryz.prog .shr t x y (.int .u64 (n:Int)) (.int .u64 7)=some (.int .u64 ((n/128:Nat):Int)):=by
 rw[jM _ _ _ _ _ _ _ _ qe]
 congr 2
 rw[zos _ qh]
 show(n:Int)/128=_
 omega
theorem qmm(b:Nat):∀(n:Nat) (l:List Int) (hp:Hp),n<18446744073709551616->l.length+(uv n).length<=1000000->hp.rd b 0=some (Wc l)->
 B103_0 (.ptr b 0 0) (.int .u64 (n:Int)) hp=some (.tup [],hp.put b 0 (Wc (l++uv n))):=by
 intro n
 induction n using Nat.strongRecOn with
 |_ n ih=>
  intro l hp hn hl h
  rw[qxs]
  by_cases h1:n<128
  ·rw[KR h1]at hl⊢
   have hge:¬((n:Int)>=128):=qe
   have hge':¬((128:Int)<=(n:Int)):=qe
   have w:IntKind.u8.wrap (n:Int)=(n:Int):=zB qe qe
   have wb:=ju b l n (by simp at hl;omega) hp h
   simp[hge',w,wb]
  ·rw[VR h1]at hl⊢
   have hge:(128:Int)<=(n:Int):=qe
   have w:IntKind.u8.wrap (n:Int)=(n:Int)%256:=by rw[Qf]
   have wb:=ju b l ((n%128+128:Nat):Int) (by simp at hl;omega) hp h
   have o:=zlz n
   have s:=shr7 n
   have ih':=ih (n/128) qe (l++[((n%128+128:Nat):Int)]) (hp.put b 0 (Wc (l++[((n%128+128:Nat):Int)]))) qe (by simp at hl⊢;omega) (qr _ _ _)
   rw[qC]at ih'
   generalize((n%128+128:Nat):Int)=c at*
   generalize((n/128:Nat):Int)=d at*
   simp[hge,w,wb,o,s,ih',-zS]
theorem zY(b n:Nat)(l:List Int)(hn:n<18446744073709551616)(hl:l.length+(uv n).length<=1000000)(hp:Hp)(h:hp.rd b 0=some (Wc l)):
 run cxX 103 [.ptr b 0 0,.sc (.int .u64 (n:Int))] hp=some (.tup [],hp.put b 0 (Wc (l++uv n))):=by
 rw[E103]
 simp[qmm b n l hp hn hl h]
theorem xor_zero(x:Nat)(h:x<18446744073709551616)(t:TypeId)(a b:Operand):qy Tryz.prog .xor t a b (.int .u64 (x:Int)) (.int .u64 0)=some (.int .u64 (x:Int)):=by
 rw[xK]
 have e:(BitVec.ofInt IntKind.u64.bits (x:Int)^^^BitVec.ofInt IntKind.u64.bits 0).toNat=x:=by
  show(BitVec.ofInt 64 (x:Int)^^^0#64).toNat=x
  rw[BitVec.xor_zero,znx]
  omega
 rw[e,qu qe qe]
theorem qxv(x:Nat)(h:x<18446744073709551616)(t:TypeId)(a b:Operand):qy Tryz.prog .xor t a b (.int .u64 (x:Int)) (.int .u64 18446744073709551615)=some (.int .u64 ((18446744073709551615-x:Nat):Int)):=by
 rw[xK]
 have e:(BitVec.ofInt IntKind.u64.bits (x:Int)^^^BitVec.ofInt IntKind.u64.bits 18446744073709551615).toNat=18446744073709551615-x:=by
  have e1:BitVec.ofInt 64 18446744073709551615=BitVec.allOnes 64:=qh
  show(BitVec.ofInt 64 (x:Int)^^^BitVec.ofInt 64 18446744073709551615).toNat=_
  rw[e1,BitVec.xor_allOnes,BitVec.toNat_not,znx]
  omega
 rw[e,qu qe qe]
theorem qyj(b:Nat)(n:Int)(l:List Int)(hn:-9223372036854775808<=n/\n<9223372036854775808)(hl:l.length+(uv (zz n)).length<=1000000)(hp:Hp)(h:hp.rd b 0=some (Wc l)):
 run cxX 117 [.ptr b 0 0,.sc (.int .i64 n)] hp=some (.tup [],hp.put b 0 (Wc (l++uv (zz n)))):=by
 have wu:=zY b (zz n) l (qb0 hn.1 hn.2) hl hp h
 rw[E117]
 by_cases h0:n<0
 ·have z:zz n=18446744073709551615-(2*n+18446744073709551616).toNat:=by unfold zz;rw[if_pos h0];omega
  have w1:IntKind.u64.wrap n=n+18446744073709551616:=by rw[IntKind.wrap_u64];omega
  have s1:∀t x y,qy Tryz.prog .shl t x y (.int .u64 (n+18446744073709551616)) (.int .u64 1)=some (.int .u64 (((2*n+18446744073709551616).toNat:Nat):Int)):=by
   intro t x y
   rw[zW _ _ _ _ _ _ _ _ qe]
   have e:(2:Int)^min (1:Int).toNat IntKind.u64.bits=2:=rfl
   rw[e,IntKind.wrap_u64]
   congr 2
   omega
  have s2:∀t x y,qy Tryz.prog .shr t x y (.int .i64 n) (.int .u64 63)=some (.int .i64 (-1)):=by
   intro t x y
   rw[jM _ _ _ _ _ _ _ _ qe]
   have e:(2:Int)^min (63:Int).toNat IntKind.i64.bits=9223372036854775808:=rfl
   rw[e,zos _ qe]
   congr 2
   omega
  have w2:IntKind.u64.wrap (-1)=18446744073709551615:=by rw[IntKind.wrap_u64];rfl
  have x1:=qxv (2*n+18446744073709551616).toNat qe
  rw[<-z]at x1
  generalize(2*n+18446744073709551616).toNat=X at*
  simp[w1,s1,s2,w2,x1,wu,-xK]
 ·have z:zz n=(2*n).toNat:=by unfold zz;rw[if_neg h0];omega
  have w1:IntKind.u64.wrap n=n:=qu qe qe
  have s1:∀t x y,qy Tryz.prog .shl t x y (.int .u64 n) (.int .u64 1)=some (.int .u64 ((zz n:Nat):Int)):=by
   intro t x y
   rw[zW _ _ _ _ _ _ _ _ qe]
   have e:(2:Int)^min (1:Int).toNat IntKind.u64.bits=2:=rfl
   rw[e,IntKind.wrap_u64,z]
   congr 2
   omega
  have s2:∀t x y,qy Tryz.prog .shr t x y (.int .i64 n) (.int .u64 63)=some (.int .i64 0):=by
   intro t x y
   rw[jM _ _ _ _ _ _ _ _ qe]
   have e:(2:Int)^min (63:Int).toNat IntKind.i64.bits=9223372036854775808:=rfl
   rw[e,zos _ qe]
   congr 2
   omega
  have w2:IntKind.u64.wrap 0=0:=rfl
  have x1:=xor_zero (zz n) (qb0 hn.1 hn.2)
  simp[w1,s1,s2,w2,x1,wu,-xK]
abbrev Rc(k:Nat)(l:List Int)(p:Nat)(e:Int):List AV:=[S k 1 (LI .u8 l),.sc (.int .i64 (p:Int)),.sc (.int .i64 e)]
def rE(e f:Int):Int:=if e=0 then f else e
def rL(l:List Int)(p:Nat)(e:Int):Nat:=if e=0 then l.length-p else 0
theorem Jr(k:Nat)(l:List Int)(hp:Hp):run cxX 48 [S k 1 (LI .u8 l)] hp=some (.ptr hp.next 0 0,hp.new (Rc (rk k) l 0 0)):=by
 rw[E48]
 simp[qo]
 rfl
theorem zd9(k:Nat)(cs:List AV)(i h:Nat)(hih:i<=h)(hh:h<=cs.length)(hne:cs≠[]):
 yb 1 (S k 1 cs) (some (.int .i64 (i:Int))) (some (.int .i64 (h:Int))) (some (.int .i64 (h:Int)))=some (S 0 1 ((cs.drop i).take (h-i))):=by
 have b1:zo 0 (cs.length:Int) (some (.int .i64 (h:Int))) cs.length=some h:=xY .i64 hh
 have b2:zo 0 (h:Int) (some (.int .i64 (h:Int))) cs.length=some h:=xY .i64 (znd h)
 have b3:zo 0 (h:Int) (some (.int .i64 (i:Int))) 0=some i:=xY .i64 hih
 rcases jq k 1 cs with e|e|⟨e,e'⟩
 ·rw[e]
  simp only[YE,yb,if_true,b1,b2,b3,znc,zo2]
  rfl
 ·rw[e]
  simp only[YE,yb,if_true,b1,b2,b3,znc,zo2]
  rfl
 ·exact absurd e' hne
section
variable (b k:Nat)(l:List Int)(p:Nat)(e:Int)(hp:Hp)
theorem qW(h:hp.rd b 0=some (Rc k l p e)):run cxX 97 [.ptr b 0 0] hp=some (.sc (.int .i64 e),hp):=by
 rw[E97]
 simp[h,ql]
theorem Js(f:Int)(h:hp.rd b 0=some (Rc k l p e)):run cxX 120 [.ptr b 0 0,.sc (.int .i64 f)] hp=some (.tup [],hp.put b 0 (Rc k l p (rE e f))):=by
 rw[E120]
 unfold rE
 by_cases h0:e=0
 ·subst h0
  simp[h,ql,qxn,qo]
 ·simp[h,ql,h0,jm h]
theorem XT(hl:l.length<=1000000000)(hp':p<=l.length)(h:hp.rd b 0=some (Rc k l p e)):run cxX 127 [.ptr b 0 0] hp=some (.sc (.int .i64 (rL l p e:Nat)),hp):=by
 rw[E127]
 unfold rL
 by_cases h0:e=0
 ·subst h0
  have w:IntKind.i64.wrap ((l.length:Int)-(p:Int))=((l.length-p:Nat):Int):=qj
  simp[h,ql,qs,qxh,w]
 ·simp[h,ql,h0,qxi]
def rB(l:List Int)(p:Nat)(e:Int):Int×Nat×Int:=if rL l p e=0 then(0,p,rE e 3)else(l.getD p 0,p+1,e)
theorem Jt(hl:l.length<=1000000000)(hp':p<=l.length)(h:hp.rd b 0=some (Rc k l p e)):
 run cxX 63 [.ptr b 0 0] hp=some (.sc (.int .u8 (rB l p e).1),hp.put b 0 (Rc k l (rB l p e).2.1 (rB l p e).2.2)):=by
 have lf:=XT b k l p e hp hl hp' h
 rw[E63]
 unfold rB
 by_cases h0:rL l p e=0
 ·have fl:=Js b k l p e hp 3 h
  simp[lf,h0,fl]
 ·have he:e=0:=by
   unfold rL at h0
   by_cases he:e=0
   ·exact he
   ·simp[he]at h0
  subst he
  have hlt:p<l.length:=by unfold rL at h0;simp at h0;omega
  have w:IntKind.i64.wrap ((p:Int)+1)=((p+1:Nat):Int):=qj
  have w2:IntKind.i64.wrap (((p+1:Nat):Int)-1)=(p:Int):=qj
  have w3:IntKind.i64.wrap (p:Int)=(p:Int):=qm qe qe
  simp only[zrl,zrm]at w w2
  simp[lf,h0,h,ql,qs,w,qo,qr,w2,w3,hlt,Rc]
theorem qm6(n:Nat)(hl:l.length<=1000000000)(hn:n<=1000000000)(hp':p<=l.length)(h:hp.rd b 0=some (Rc k l p e)):
 ∃t,run cxX 126 [.ptr b 0 0,.sc (.int .i64 (n:Int))] hp=
  if rL l p e<n then some (S 2 1 [],hp.put b 0 (Rc k l p (rE e 3)))else if n=0 then some (S 2 1 [],hp)else some (S t 1 (LI .u8 ((l.drop p).take n)),hp.put b 0 (Rc k l (p+n) e)):=by
 have lf:=XT b k l p e hp hl hp' h
 have fl:=Js b k l p e hp 3 h
 have h00:¬((n:Int)<0):=qe
 rw[E126]
 by_cases h0:rL l p e<n
 ·refine⟨0,?_⟩
  simp[h00,lf,h0,qxj,fl]
 ·by_cases h1:n=0
  ·subst h1
   refine⟨0,?_⟩
   have hz:¬((rL l p e:Int)<0):=qe
   simp[lf,hz,qfk]
  ·have he:e=0:=by
    unfold rL at h0
    by_cases he:e=0
    ·exact he
    ·simp[he]at h0;omega
   subst he
   have hlt:p+n<=l.length:=by unfold rL at h0;simp at h0;omega
   have w:IntKind.i64.wrap ((p:Int)+(n:Int))=((p+n:Nat):Int):=qj
   have w2:IntKind.i64.wrap (((p+n:Nat):Int)-(n:Int))=(p:Int):=qj
   have sl:=fun k=>zd9 k (LI .u8 l) p (p+n) qe (by simpa using hlt) (by intro hn0;have:=congrArg List.length hn0;simp at this;subst this;simp at hlt;omega)
   have e1:p+n-p=n:=qe
   simp only[e1,zmn,zhb]at sl
   refine⟨0,?_⟩
   have hz:¬((rL l p 0:Int)<(n:Int)):=qe
   have pn:∀x:AV,qo (Rc k l p 0) 1 [x]=some [S k 1 (LI .u8 l),x,.sc (.int .i64 0)]:=fun x=>rfl
   have hn1:¬((n:Int)=0):=qe
   generalize hq:((p+n:Nat):Int)=q at*
   simp[h00,lf,h0,hz,qfk,h1,hn1,h,ql,qs,w,pn,qr,w2,sl,Rc,hq]
theorem Wh(hl:l.length<=1000000000)(hp':p<=l.length)(h:hp.rd b 0=some (Rc k l p e)):
 run cxX 56 [.ptr b 0 0] hp=some (.sc (.int .i64 (if e=0/\p<l.length then 15 else e)),hp):=by
 have er:=qW b k l p e hp h
 rw[E56]
 by_cases h0:e=0
 ·subst h0
  by_cases h1:p<l.length
  ·simp[h,ql,qs,h1,zdb]
  ·simp[h,ql,qs,h1,ql8,er]
 ·simp[h,ql,h0,ql8,er]
end
theorem qvb:∀x:BitVec 8,(x&&&127#8).toNat=x.toNat%128:=qh
theorem zko(c:Nat)(hc:c<256)(t:TypeId)(x y:Operand):qy Tryz.prog .and t x y (.int .u8 (c:Int)) (.int .u8 127)=some (.int .u8 ((c%128:Nat):Int)):=by
 rw[zk]
 have e1:(BitVec.ofInt 8 (c:Int)).toNat=c:=by
  rw[znx];omega
 have e2:(BitVec.ofInt IntKind.u8.bits (c:Int)&&&BitVec.ofInt IntKind.u8.bits 127).toNat=c%128:=by
  show(BitVec.ofInt 8 (c:Int)&&&127#8).toNat=_
  rw[qvb,e1]
 rw[e2,zB qe qe]
theorem ziy(n x s:Nat)(hn:n<2^s)(h:n+x*2^s<18446744073709551616)(t:TypeId)(a b:Operand):
 qy Tryz.prog .or t a b (.int .u64 (n:Int)) (.int .u64 ((x*2^s:Nat):Int))=some (.int .u64 ((n+x*2^s:Nat):Int)):=by
 rw[zS]
 generalize hy:x*2^s=y at*
 have e:(BitVec.ofInt IntKind.u64.bits (n:Int)|||BitVec.ofInt IntKind.u64.bits (y:Int)).toNat=n+y:=by
  show(BitVec.ofInt 64 (n:Int)|||BitVec.ofInt 64 (y:Int)).toNat=_
  rw[zpt,znx,znx]
  have e1:((n:Int)%((2^64:Nat):Int)).toNat=n:=qe
  have e2:((y:Int)%((2^64:Nat):Int)).toNat=y:=qe
  rw[e1,e2]
  have:=zpu hn x
  rw[zof]at this
  rw[hy]at this
  rw[Nat.or_comm,<-this,zq2]
 rw[e,qu qe qe]
def rU(l:List Int)(p:Nat)(e:Int)(most:Nat):Nat×Nat×Int:=
 if e≠0 then(0,p,e)
 else if(gU (l.drop p) 0 0 0).2.2≠0 then(0,p+(gU (l.drop p) 0 0 0).2.1,(gU (l.drop p) 0 0 0).2.2)
 else if most<(gU (l.drop p) 0 0 0).1 then(0,p+(gU (l.drop p) 0 0 0).2.1,7)
 else((gU (l.drop p) 0 0 0).1,p+(gU (l.drop p) 0 0 0).2.1,0)
section
variable (b k:Nat)(l:List Int)(most:Nat)
theorem XZ(p:Nat)(e:Int)(he:e≠0)(hp:Hp)(h:hp.rd b 0=some (Rc k l p e))(v:Value)(n s:Int)(c:Int):
 B60_7 (.ptr b 0 0) v (.int .u64 n) (.int .i64 s) (.int .u8 c) hp=some (.sc (.int .u64 0),hp):=by
 have er:=qW b k l p e hp h
 rw[ql5]
 simp[er,he]
theorem Wv(p:Nat)(e:Int)(hp:Hp)(h:hp.rd b 0=some (Rc k l p e))(v:Value)(n s:Int)(c:Int):
 B60_6 (.ptr b 0 0) v (.int .u64 n) (.int .i64 s) (.int .u8 c) hp=some (.sc (.int .u64 0),hp.put b 0 (Rc k l p (rE e 4))):=by
 have fl:=Js b k l p e hp 4 h
 have e7:=XZ b k l p (rE e 4) (by unfold rE;split<;>simp_all) (hp.put b 0 (Rc k l p (rE e 4))) (qr _ _ _) v n s c
 rw[zc9]
 simp[fl,e7]
def uF(most:Nat)(g:Nat×Nat×Int):Nat×Int:=if g.2.2≠0 then(0,g.2.2)else if most<g.1 then(0,7)else(g.1,0)
theorem zer(hm:most<18446744073709551616)(q s n c:Nat)(hp:Hp)(hc:c<256)(hs:s<=63)(hn:n<2^s)(hfit:n+c%128*2^s<18446744073709551616)(h:hp.rd b 0=some (Rc k l q 0)):
 B60_7 (.ptr b 0 0) (.int .u64 most) (.int .u64 n) (.int .i64 s) (.int .u8 c) hp=
  if c<128 then(if most<n+c*2^s then some (.sc (.int .u64 0),hp.put b 0 (Rc k l q 7))else some (.sc (.int .u64 ((n+c*2^s:Nat):Int)),hp))
  else B60_4 (.ptr b 0 0) (.int .u64 most) (.int .u64 ((n+(c-128)*2^s:Nat):Int)) (.int .i64 ((s+7:Nat):Int)) hp:=by
 have er:=qW b k l q 0 hp h
 have fl:=Js b k l q 0 hp 7 h
 have an:=zko c hc
 have w:IntKind.u64.wrap ((c%128:Nat):Int)=((c%128:Nat):Int):=qu qe qe
 have sh:∀t x y,qy Tryz.prog .shl t x y (.int .u64 ((c%128:Nat):Int)) (.int .i64 (s:Int))=some (.int .u64 ((c%128*2^s:Nat):Int)):=by
  intro t x y
  rw[zW _ _ _ _ _ _ _ _ qe]
  have e:min (s:Int).toNat IntKind.u64.bits=s:=by
   have:IntKind.u64.bits=64:=rfl
   omega
  rw[e]
  have e2:((c%128:Nat):Int)*2^s=((c%128*2^s:Nat):Int):=qg
  rw[e2,qu qe qe]
 have oo:=ziy n (c%128) s hn hfit
 have w7:IntKind.i64.wrap ((s:Int)+7)=((s+7:Nat):Int):=qj
 rw[ql5]
 by_cases h1:c<128
 ·have e1:c%128=c:=qe
  rw[e1]at an w sh oo
  have hlt:((c:Int)<128):=qe
  rw[if_pos h1]
  by_cases h2:most<n+c*2^s
  ·rw[if_pos h2]
   generalize c*2^s=y at*
   generalize hz:n+y=z at*
   have hlt2:(most:Int)<(z:Int):=qe
   simp[er,an,w,sh,oo,hlt,hlt2,fl,rE,-zk,-zS]
  ·rw[if_neg h2]
   generalize c*2^s=y at*
   generalize hz:n+y=z at*
   have hlt2:¬((most:Int)<(z:Int)):=qe
   simp[er,an,w,sh,oo,hlt,hlt2,-zk,-zS]
 ·have e1:c%128=c-128:=qe
  rw[e1]at an w sh oo
  have hlt:¬((c:Int)<128):=qe
  rw[if_neg h1]
  generalize(c-128)*2^s=y at*
  generalize hz:n+y=z at*
  generalize((c-128:Nat):Int)=c' at*
  generalize((s+7:Nat):Int)=s' at*
  simp[er,an,w,sh,oo,hlt,w7,-zk,-zS]
end
section
variable (b k:Nat)(l:List Int)(most:Nat)
theorem qnj(hm:most<18446744073709551616)(hl:l.length<=1000000000)(h8:∀c∈l,0<=c/\c<256)(p:Nat):∀(r:List Int) (u s n i:Nat) (hp:Hp),l.drop (p+u)=r->p+u<=l.length->s=7*i->i<=9->n<2^s->hp.rd b 0=some (Rc k l (p+u) 0)->
 B60_4 (.ptr b 0 0) (.int .u64 most) (.int .u64 n) (.int .i64 s) hp=some (.sc (.int .u64 ((uF most (gU r s n u)).1:Nat)),hp.put b 0 (Rc k l (p+(gU r s n u).2.1) (uF most (gU r s n u)).2)):=by
 intro r
 induction r with
 |nil=>
  intro u s n i hp hr hpu hs hi hn h
  have hle:=qL hr
  have hb:rB l (p+u) 0=(0,p+u,3):=by
   unfold rB rL rE
   rw[if_pos qi]
   simp
  have rb:=Jt b k l (p+u) 0 hp hl hpu h
  rw[hb]at rb
  have g:gU [] s n u=(0,u,3):=rfl
  have f:uF most (0,u,3)=(0,3):=rfl
  rw[g,f]
  have e6:=Wv b k l (p+u) 3 (hp.put b 0 (Rc k l (p+u) 3)) (qr _ _ _) (.int .u64 most) n s 0
  have e7:=XZ b k l (p+u) 3 qh (hp.put b 0 (Rc k l (p+u) 3)) (qr _ _ _) (.int .u64 most) n s 0
  have r34:rE 3 4=3:=rfl
  rw[qC,r34]at e6
  rw[XJ]
  by_cases h63:s=63
  ·subst h63
   simp at e6
   simp[rb,e6]
  ·have hc:¬((s:Int)=63):=qe
   by_cases h0:s=0
   ·subst h0
    simp at e7
    simp[rb,e7]
   ·have hp0:0<s:=qe
    simp[rb,hc,hp0,e6]
 |cons c r ih=>
  intro u s n i hp hr hpu hs hi hn h
  obtain⟨e1,e2,hlt,e3⟩:=qt hr
  have hc8:=h8 c (znm e1)
  obtain⟨cn,rfl⟩:∃cn:Nat,c=cn:=⟨c.toNat,qe⟩
  have hb:rB l (p+u) 0=((cn:Int),p+u+1,0):=by
   unfold rB rL
   rw[if_neg qi]
   simp[hlt,e3]
  have rb:=Jt b k l (p+u) 0 hp hl hpu h
  rw[hb]at rb
  have e6:=Wv b k l (p+u+1) 0 (hp.put b 0 (Rc k l (p+u+1) 0)) (qr _ _ _) (.int .u64 most) n s cn
  have r34:rE 0 4=4:=rfl
  rw[qC,r34]at e6
  have hs63:s<=63:=qe
  by_cases bad:(s=63/\1<(cn:Int))\/(0<s/\(cn:Int)=0)
  ·have g:gU ((cn:Int)::r) s n u=(0,u+1,4):=by unfold gU;rw[if_pos bad]
   have f:uF most (0,u+1,4)=(0,4):=rfl
   rw[g,f,XJ]
   have hpu1:p+(u+1)=p+u+1:=qe
   rw[hpu1]
   by_cases h63:s=63
   ·subst h63
    by_cases h1:1<cn
    ·have h1':1<(cn:Int):=qe
     simp at e6
     simp[rb,h1',e6]
    ·have hc0:cn=0:=by
      rcases bad with⟨_,h2⟩|⟨_,h2⟩<;>omega
     subst hc0
     simp at e6
     simp[rb,e6]
   ·have hc:¬((s:Int)=63):=qe
    have hz:0<s/\cn=0:=by
     rcases bad with⟨h2,_⟩|⟨h2,h3⟩
     ·exact absurd h2 h63
     ·exact⟨h2,qe⟩
    obtain⟨hz1,hz2⟩:=hz
    subst hz2
    simp at e6
    simp[rb,hc,hz1,e6]
  ·have hfit:n+cn%128*2^s<18446744073709551616:=by
    by_cases h63:s=63
    ·subst h63
     have hc1:¬(1<(cn:Int)):=fun h2=>bad (.inl ⟨rfl,h2⟩)
     have e:(2:Nat)^63=9223372036854775808:=rfl
     rw[e]at hn⊢
     have:cn%128<=1:=qe
     omega
    ·have hs56:s<=56:=qe
     have h7:2^s<=2^56:=zoc qh hs56
     have e:(2:Nat)^56=72057594037927936:=rfl
     rw[e]at h7
     have:cn%128*2^s<=127*72057594037927936:=zn5 qe h7
     omega
   have b7:=zer b k l most hm (p+u+1) s n cn (hp.put b 0 (Rc k l (p+u+1) 0)) qe hs63 hn hfit (qr _ _ _)
   have hpu1:p+(u+1)=p+u+1:=qe
   have step:B60_4 (.ptr b 0 0) (.int .u64 most) (.int .u64 n) (.int .i64 s) hp=B60_7 (.ptr b 0 0) (.int .u64 most) (.int .u64 n) (.int .i64 s) (.int .u8 cn) (hp.put b 0 (Rc k l (p+u+1) 0)):=by
    rw[XJ]
    by_cases h63:s=63
    ·subst h63
     have h1:¬(1<cn):=fun h2=>bad (.inl ⟨rfl,qe⟩)
     have h2:¬(cn=0):=fun h2=>bad (.inr ⟨qe,qe⟩)
     have h1':¬(1<(cn:Int)):=qe
     simp[rb,h1',h2]
    ·have hc:¬((s:Int)=63):=qe
     by_cases h0:s=0
     ·subst h0
      simp[rb]
     ·have hp0:0<s:=qe
      have h2:¬(cn=0):=fun h2=>bad (.inr ⟨qe,qe⟩)
      simp[rb,hc,hp0,h2]
   rw[step,b7]
   by_cases h1:cn<128
   ·have g:gU ((cn:Int)::r) s n u=(n+cn*2^s,u+1,0):=by
     unfold gU;rw[if_neg bad,if_pos qe,znj]
    rw[if_pos h1,g,qC]
    by_cases h2:most<n+cn*2^s
    ·have f:uF most (n+cn*2^s,u+1,0)=(0,7):=by unfold uF;simp[h2]
     rw[if_pos h2,f]
     simp only[hpu1];rfl
    ·have f:uF most (n+cn*2^s,u+1,0)=(n+cn*2^s,0):=by unfold uF;simp[h2]
     rw[if_neg h2,f]
     simp only[hpu1]
   ·have g:gU ((cn:Int)::r) s n u=gU r (s+7) (n+(cn-128)*2^s) (u+1):=by
     conv=>lhs;unfold gU
     rw[if_neg bad,if_neg qe,znj]
    have hi9:i+1<=9:=by
     by_cases h63:s=63
     ·exact absurd (.inl ⟨h63,qe⟩) bad
     ·omega
    have hn7:n+(cn-128)*2^s<2^(s+7):=by
     have e:2^(s+7)=128*2^s:=by rw[zpz];omega
     rw[e]
     have:(cn-128)*2^s<=127*2^s:=znw _ qe
     omega
    rw[if_neg h1,g]
    have hh:=ih (u+1) (s+7) (n+(cn-128)*2^s) (i+1) (hp.put b 0 (Rc k l (p+u+1) 0)) (by rw[hpu1];exact e2) qe qe hi9 hn7 (by rw[hpu1];exact qr _ _ _)
    rw[qC]at hh
    exact hh
theorem qce(p:Nat)(e:Int)(hm:most<18446744073709551616)(hl:l.length<=1000000000)(h8:∀c∈l,0<=c/\c<256)(hpl:p<=l.length)(hp:Hp)(h:hp.rd b 0=some (Rc k l p e)):
 run cxX 60 [.ptr b 0 0,.sc (.int .u64 (most:Int))] hp=some (.sc (.int .u64 ((rU l p e most).1:Nat)),hp.put b 0 (Rc k l (rU l p e most).2.1 (rU l p e most).2.2)):=by
 rw[E60]
 by_cases he:e=0
 ·subst he
  have hh:=qnj b k l most hm hl h8 p (l.drop p) 0 0 0 0 hp rfl qe rfl qe qh h
  have er:rU l p 0 most=((uF most (gU (l.drop p) 0 0 0)).1,p+(gU (l.drop p) 0 0 0).2.1,(uF most (gU (l.drop p) 0 0 0)).2):=by
   unfold rU uF
   rw[if_neg qg]
   split
   ·rfl
   ·split<;>rfl
  rw[er]
  simpa using hh
 ·have er:rU l p e most=(0,p,e):=by unfold rU;rw[if_pos he]
  rw[er]
  have hb:rB l p e=(0,p,e):=by
   unfold rB rL rE
   simp[he]
  have rb:=Jt b k l p e hp hl hpl h
  rw[hb,jm h]at rb
  have e7:=XZ b k l p e he hp h (.int .u64 most) 0 0 0
  rw[jm h]
  simp[XJ,rb,e7]
end
theorem zlw(l:List Int)(p:Nat)(e:Int)(most:Nat)(h8:∀c∈l,0<=c/\c<256):(rU l p e most).1<18446744073709551616:=by
 unfold rU
 split
 ·exact(by decide:0<18446744073709551616)
 ·split
  ·exact(by decide:0<18446744073709551616)
  ·rename_i h
   split
   ·exact(by decide:0<18446744073709551616)
   ·obtain⟨m,m1,_,_,_,m5⟩:=zme (l.drop p) 0 0 0 0 (fun c hc=>h8 c (zqs hc)) rfl qe (Classical.not_not.mp h)
    show(gU (l.drop p) 0 0 0).1<_
    rw[m1]
    simpa using m5
theorem zkp(n:Nat)(hn:n<18446744073709551616)(t:TypeId)(x y:Operand):qy Tryz.prog .and t x y (.int .u64 (n:Int)) (.int .u64 1)=some (.int .u64 ((n%2:Nat):Int)):=by
 rw[zk]
 have e2:(BitVec.ofInt IntKind.u64.bits (n:Int)&&&BitVec.ofInt IntKind.u64.bits 1).toNat=n%2:=by
  show(BitVec.ofInt 64 (n:Int)&&&1#64).toNat=_
  rw[zp8,znx]
  have e1:((n:Int)%((2^64:Nat):Int)).toNat=n:=qe
  rw[e1]
  exact Nat.and_one_is_mod n
 rw[e2,qu qe qe]
theorem qp0(P:Program)(a:Int):unV P .neg (.int .i64 a)=some (.int .i64 (IntKind.i64.wrap (0-a))):=rfl
theorem qyr(b k:Nat)(l:List Int)(p:Nat)(e:Int)(hl:l.length<=1000000000)(h8:∀c∈l,0<=c/\c<256)(hpl:p<=l.length)(hp:Hp)(h:hp.rd b 0=some (Rc k l p e)):
 run cxX 116 [.ptr b 0 0] hp=some (.sc (.int .i64 (qmq (rU l p e 18446744073709551615).1)),hp.put b 0 (Rc k l (rU l p e 18446744073709551615).2.1 (rU l p e 18446744073709551615).2.2)):=by
 have ru:=qce b k l 18446744073709551615 p e qh hl h8 hpl hp h
 have hu:=zlw l p e 18446744073709551615 h8
 generalize rU l p e 18446744073709551615=q at*
 obtain⟨u,p',e'⟩:=q
 simp only at ru hu⊢
 have sh:∀t x y,qy Tryz.prog .shr t x y (.int .u64 (u:Int)) (.int .u64 1)=some (.int .u64 ((u/2:Nat):Int)):=by
  intro t x y
  rw[jM _ _ _ _ _ _ _ _ qe]
  congr 2
  rw[zos _ qh]
  show(u:Int)/2=_
  omega
 have an:=zkp u hu
 have w1:IntKind.i64.wrap ((u/2:Nat):Int)=((u/2:Nat):Int):=qm qe qe
 have w2:IntKind.i64.wrap ((u%2:Nat):Int)=((u%2:Nat):Int):=qm qe qe
 have lit:(.int .u64 18446744073709551615:Value)= .int .u64 ((18446744073709551615:Nat):Int):=rfl
 rw[E116]
 have fin:∀t x y,qy Tryz.prog .xor t x y (.int .i64 ((u/2:Nat):Int)) (.int .i64 (IntKind.i64.wrap (0-((u%2:Nat):Int))))=some (.int .i64 (qmq u)):=by
  intro t x y
  rw[xK]
  have hx:(BitVec.ofInt 64 ((u/2:Nat):Int)).toNat=u/2:=by rw[znx];omega
  by_cases h2:u%2=0
  ·have e0:IntKind.i64.wrap (0-((u%2:Nat):Int))=0:=by rw[h2];rfl
   have e1:(BitVec.ofInt IntKind.i64.bits ((u/2:Nat):Int)^^^BitVec.ofInt IntKind.i64.bits (IntKind.i64.wrap (0-((u%2:Nat):Int)))).toNat=u/2:=by
    rw[e0]
    show(BitVec.ofInt 64 ((u/2:Nat):Int)^^^0#64).toNat=_
    rw[BitVec.xor_zero,hx]
   rw[e1,w1]
   unfold qmq
   rw[if_pos h2]
  ·have e0:IntKind.i64.wrap (0-((u%2:Nat):Int))=-1:=by
    have:u%2=1:=qe
    rw[this];rfl
   have e1:(BitVec.ofInt IntKind.i64.bits ((u/2:Nat):Int)^^^BitVec.ofInt IntKind.i64.bits (IntKind.i64.wrap (0-((u%2:Nat):Int)))).toNat=18446744073709551615-u/2:=by
    rw[e0]
    have e2:BitVec.ofInt 64 (-1)=BitVec.allOnes 64:=qh
    show(BitVec.ofInt 64 ((u/2:Nat):Int)^^^BitVec.ofInt 64 (-1)).toNat=_
    rw[e2,BitVec.xor_allOnes,BitVec.toNat_not,hx]
   rw[e1]
   unfold qmq
   have hv:u/2<9223372036854775808:=qe
   generalize u/2=v at*
   have e3:IntKind.i64.wrap ((18446744073709551615-v:Nat):Int)=-(v:Int)-1:=by
    have e4:((18446744073709551615-v:Nat):Int)=18446744073709551615-(v:Int):=qe
    rw[e4,IntKind.wrap_i64]
    omega
   rw[if_neg h2,e3]
 generalize((u/2:Nat):Int)=c1 at*
 generalize((u%2:Nat):Int)=c2 at*
 generalize qmq u=z at*
 simp at ru
 simp only[Int.zero_sub]at fin
 simp[ru,sh,an,w1,w2,qp0,fin,-zk,-xK]
def Fm(X:List Nat)(hp hp':Hp):Prop:=hp.next<=hp'.next/\∀c,c<hp.next->c∉X->hp'.get c=hp.get c
theorem Fm.refl(X:List Nat)(hp:Hp):Fm X hp hp:=⟨znd _,fun _ _ _=>rfl⟩
theorem Fm.trans{X:List Nat}{a b c:Hp}(h:Fm X a b)(g:Fm X b c):Fm X a c:=
 ⟨zon h.1 g.1,fun x hx hn=>by rw[g.2 x (znu hx h.1) hn,h.2 x hx hn]⟩
theorem Fm.mono{X Y:List Nat}{a b:Hp}(h:Fm X a b)(hs:∀c,c∈X->c<a.next->c∈Y):Fm Y a b:=
 ⟨h.1,fun c hc hn=>h.2 c hc (fun hx=>hn (hs c hx hc))⟩
theorem xO{a b:Hp}{c:Nat}(h:b.get c=a.get c):b.rd c 0=a.rd c 0:=by unfold Hp.rd;rw[h]
theorem Fm.rd{X:List Nat}{a b:Hp}(h:Fm X a b){c:Nat}(hc:c<a.next)(hn:c∉X):b.rd c 0=a.rd c 0:=xO (h.2 c hc hn)
theorem Fm.put{X:List Nat}(hp:Hp)(b:Nat)(x:List AV)(hb:b∈X):Fm X hp (hp.put b 0 x):=
 ⟨znd _,fun c _ hn=>by
  have:c≠b:=fun e=>hn (e▸hb)
  simp[Hp.put,this]⟩
theorem Fm.new(X:List Nat)(hp:Hp)(x:List AV):Fm X hp (hp.new x):=
 ⟨Nat.le_succ _,fun c hc _=>by
  have:c≠hp.next:=qe
  simp[Hp.new,this]⟩
theorem Fm.delNew{X:List Nat}(hp:Hp)(b:Nat)(x:List AV)(hb:b∈X):Fm X hp ((hp.del b).new x):=
 ⟨Nat.le_succ _,fun c hc hn=>by
  have h1:c≠hp.next:=qe
  have h2:c≠b:=fun e=>hn (e▸hb)
  have h3:c≠(hp.del b).next:=h1
  show(if c=(hp.del b).next then _ else(hp.del b).get c)=_
  rw[if_neg h3]
  show(if c=b then none else hp.get c)=_
  rw[if_neg h2]⟩
def Bs(nb:Nat)(bs:List Bool):AV:=if bs=[]then S 2 1 []else .ms nb 0 0 (pk bs).length 1
def BW(hp:Hp)(w nb:Nat)(bs:List Bool):Prop:=
 w<hp.next/\(bs=[]->nb=w)/\(bs≠[]->nb<hp.next/\nb≠w/\hp.rd nb 0=some (LI .u8 (pk bs)))/\hp.rd w 0=some [Bs nb bs,.sc (.int .i64 (bs.length:Int))]
def RW(hp:Hp)(w nb:Nat)(l:List Bool)(m:Nat):Prop:=
 w<hp.next/\nb<hp.next/\nb≠w/\hp.rd nb 0=some (LI .u8 (pk l))/\hp.rd w 0=some [.ms nb 0 0 (pk l).length 1,.sc (.int .i64 (m:Int))]
theorem BW.new(hp:Hp):BW (hp.new [S 2 1 [],.sc (.int .i64 0)]) hp.next hp.next []:=
 ⟨zqt _,fun _=>rfl,fun h=>absurd rfl h,by rw[qT];rfl⟩
theorem BW.fr{hp hp':Hp}{w nb:Nat}{bs:List Bool}{X:List Nat}(h:BW hp w nb bs)(f:Fm X hp hp')(h1:w∉X)(h2:nb∉X):BW hp' w nb bs:=
 ⟨znu h.1 f.1,h.2.1,fun hb=>⟨znu (h.2.2.1 hb).1 f.1,(h.2.2.1 hb).2.1,by rw[f.rd (h.2.2.1 hb).1 h2];exact(h.2.2.1 hb).2.2⟩,
  by rw[f.rd h.1 h1];exact h.2.2.2⟩
def BS(hp:Hp)(w nb:Nat)(hp':Hp)(nb':Nat)(l:List Bool):Prop:=BW hp' w nb' l/\Fm [w,nb] hp hp'/\(nb'=nb\/hp.next<=nb')
theorem BS.trans{a b c:Hp}{w n1 n2 n3:Nat}{l m:List Bool}(hw:w<a.next)(h:BS a w n1 b n2 l)(g:BS b w n2 c n3 m):BS a w n1 c n3 m:=by
 refine⟨g.1,⟨zon h.2.1.1 g.2.1.1,fun x hx hn=>?_⟩,?_⟩
 ·have hx':=znu hx h.2.1.1
  simp at hn
  rw[g.2.1.2 x hx' (by simp;refine⟨hn.1,?_⟩;rcases h.2.2 with e|e
                       ·rw[e];exact hn.2
                       ·omega),h.2.1.2 x hx (by simp;exact hn)]
 ·have:=h.2.1.1
  rcases h.2.2 with e|e
  ·rcases g.2.2 with e'|e'
   ·exact .inl (by rw[e',e])
   ·exact .inr qe
  ·rcases g.2.2 with e'|e'
   ·exact .inr qe
   ·exact .inr qe
theorem qgl(m:Nat)(t:TypeId)(x y:Operand):qy Tryz.prog .rem t x y (.int .i64 (m:Int)) (.int .i64 8)=some (.int .i64 ((m%8:Nat):Int)):=by
 rw[zp _ _ _ _ _ _ _ qe,zn qe]
 rfl
theorem qgn(m:Nat)(hm:m<1000000000)(t:TypeId)(x y:Operand):qy Tryz.prog .quo t x y (.int .i64 (m:Int)) (.int .i64 8)=some (.int .i64 ((m/8:Nat):Int)):=by
 rw[yB _ _ _ _ _ _ _ qe,zoi qe,qm qe qe]
 rfl
theorem pkne{l:List Bool}(h:l≠[]):pk l≠[]:=by
 intro e
 have:=congrArg List.length e
 have h1:=zou.mpr h
 simp at this
 omega
section
variable (w nb n:Nat)(v1:Value)(i:Nat)(bs:List Bool)(hp:Hp)
theorem zkg(hm:bs.length<7900000)(h:BW hp w nb bs):∃hp' nb',B166_2 (.ptr w 0 0) v1 (.int .i64 (i:Int)) hp=B166_6 (.ptr w 0 0) v1 (.int .i64 (i:Int)) hp'/\
 RW hp' w nb' (bs++[false]) bs.length/\Fm [w,nb] hp hp'/\(nb'=nb\/hp.next<=nb'):=by
 obtain⟨h1,h2,h3,h4⟩:=h
 have hi:(0:Int)<=(i:Int):=qe
 have r8:=qgl bs.length
 rw[qet]
 by_cases hz:bs.length%8=0
 ·have pf:=qjk bs
  rw[if_pos hz]at pf
  rw[hz]at r8
  by_cases hb:bs=[]
  ·subst hb
   have e:Bs nb []=S 2 1 []:=rfl
   have r80:∀t x y,qy Tryz.prog .rem t x y (.int .i64 0) (.int .i64 8)=some (.int .i64 0):=fun t x y=>qgl 0 t x y
   rw[e]at h4
   have a:=Zl .u8 0 1 qh hp
   have hne:w≠hp.next:=qe
   have r1:=zH hp (LI .u8 [0]) hne
   rw[h4]at r1
   refine⟨(hp.new (LI .u8 [0])).put w 0 [.ms hp.next 0 0 1 1,.sc (.int .i64 0)],hp.next,?_,?_,?_,.inr (znd _)⟩
   ·simp[hi,h4,ql,qs,r80,yC,a,r1,qo]
   ·refine⟨qi,qg,fun e=>hne e.symm,?_,?_⟩
    ·rw[qB _ _ (fun e=>hne e.symm),qT];rfl
    ·rw[qr];rfl
   ·exact(Fm.new _ hp _).trans (Fm.put _ _ _ qg)
  ·obtain⟨n1,n2,n3⟩:=h3 hb
   have e:Bs nb bs= .ms nb 0 0 (pk bs).length 1:=if_neg hb
   rw[e]at h4
   have a:=Jh .u8 (pk bs) 0 1 nb qh (by rw[zZ];omega) (pkne hb) hp n3
   have hne:w≠hp.next:=qe
   have r1:((hp.del nb).new (LI .u8 (pk bs++[0]))).rd w 0=hp.rd w 0:=(Fm.delNew (X:=[nb]) hp nb _ qg).rd h1 (by simp;exact fun e=>n2 e.symm)
   rw[h4]at r1
   refine⟨((hp.del nb).new (LI .u8 (pk bs++[0]))).put w 0 [.ms hp.next 0 0 ((pk bs).length+1) 1,.sc (.int .i64 bs.length)],hp.next,?_,?_,?_,.inr (znd _)⟩
   ·generalize pk bs=pb at*
    simp[hi,h4,ql,qs,r8,yC,a,r1,qo]
   ·refine⟨by simp[Hp.del];omega,by simp[Hp.del],fun e=>hne e.symm,?_,?_⟩
    ·rw[qB _ _ (fun e=>hne e.symm),pf];exact qT (hp.del nb) _
    ·rw[qr,pf,zm9];rfl
   ·exact(Fm.delNew hp nb _ qg).trans (Fm.put _ _ _ qg)
 ·have hb:bs≠[]:=fun e=>hz (by rw[e];rfl)
  obtain⟨n1,n2,n3⟩:=h3 hb
  have e:Bs nb bs= .ms nb 0 0 (pk bs).length 1:=if_neg hb
  rw[e]at h4
  have pf:=qjk bs
  rw[if_neg hz]at pf
  refine⟨hp,nb,?_,⟨h1,n1,n2,by rw[pf];exact n3,by rw[pf];exact h4⟩,Fm.refl _ _,.inl rfl⟩
  have hz':¬(((bs.length%8:Nat):Int)=0):=qe
  generalize((bs.length%8:Nat):Int)=z at*
  simp[hi,h4,ql,r8,hz']
theorem zik(m:Nat)(t:TypeId)(x y:Operand):qy Tryz.prog .shr t x y (.int .u8 128) (.int .i64 ((m%8:Nat):Int))=some (.int .u8 ((2^(7-m%8):Nat):Int)):=by
 rw[jM _ _ _ _ _ _ _ _ qe,znj]
 have h:m%8<8:=zqa _ qh
 generalize m%8=r at*
 have:r=0\/r=1\/r=2\/r=3\/r=4\/r=5\/r=6\/r=7:=qe
 rcases this with e|e|e|e|e|e|e|e<;>subst e<;>rfl
theorem or8(bs:List Bool)(t:TypeId)(x y:Operand):qy Tryz.prog .or t x y (.int .u8 (by8 (bs++[false]) (8*(bs.length/8)):Nat)) (.int .u8 ((2^(7-bs.length%8):Nat):Int))=
 some (.int .u8 (by8 (bs++[true]) (8*(bs.length/8)):Nat)):=by
 rw[zS]
 have e:(BitVec.ofInt IntKind.u8.bits (by8 (bs++[false]) (8*(bs.length/8)):Nat)|||BitVec.ofInt IntKind.u8.bits ((2^(7-bs.length%8):Nat):Int)).toNat=by8 (bs++[true]) (8*(bs.length/8)):=by
  rw[<-zkb,zo6,zo6]
  rfl
 have:=qo5 (bs++[true]) (8*(bs.length/8))
 rw[e,zB qe qe]
theorem jQ(K:IntKind)(l:List Int)(i:Nat)(h:i<l.length):ql (LI K l) i=some (.int K (l.getD i 0)):=by
 unfold ql LI
 rw[znt,znb,zng h]
 rfl
theorem zkf(hn:n<18446744073709551616)(hi:i<64)(hm:bs.length<7900000)(h:RW hp w nb (bs++[false]) bs.length):
 ∃hp',B166_6 (.ptr w 0 0) (.int .u64 (n:Int)) (.int .i64 (i:Int)) hp=B166_8 (.ptr w 0 0) (.int .u64 (n:Int)) (.int .i64 (i:Int)) hp'/\
  RW hp' w nb (bs++[n.testBit i]) bs.length/\Fm [w,nb] hp hp':=by
 obtain⟨h1,h2,h3,h4,h5⟩:=h
 have s1:=fun o o'=>Jp n i qe o o' .i64
 have s2':=zkp (n/2^i) (zow (zpl _ _) hn)
 have tb:n.testBit i=decide (n/2^i%2=1):=zpd
 rw[qwr]
 by_cases hb:n/2^i%2=1
 ·have s2:∀t x y,qy Tryz.prog .and t x y (.int .u64 ((n/2^i:Nat):Int)) (.int .u64 1)=some (.int .u64 1):=fun t x y=>by rw[s2',hb];rfl
  rw[tb,decide_eq_true hb]
  have q:=qgn bs.length qe
  have r:=qgl bs.length
  have s3:=zik bs.length
  have o8:=or8 bs
  have il:bs.length/8<(pk (bs++[false])).length:=by rw[zZ];simp;omega
  have ix:=zr .i64 il
  have g1:=jQ .u8 (pk (bs++[false])) _ il
  rw[qgp _ _ qi]at g1
  have p1:=xC .u8 (pk (bs++[false])) (bs.length/8) (by8 (bs++[true]) (8*(bs.length/8)):Nat) il
  rw[<-zfc]at p1
  have e:=zZ (bs++[true])
  have e2:(pk (bs++[true])).length=(pk (bs++[false])).length:=qg
  refine⟨hp.put nb 0 (LI .u8 (pk (bs++[true]))),?_,⟨h1,h2,h3,by rw[qr],by rw[qB _ _ (fun e=>h3 e.symm),h5,e2]⟩,Fm.put _ _ _ qg⟩
  generalize(by8 (bs++[false]) (8*(bs.length/8)):Nat)=x at*
  generalize(by8 (bs++[true]) (8*(bs.length/8)):Nat)=y at*
  generalize pk (bs++[false])=pf at*
  generalize pk (bs++[true])=pt at*
  generalize((2^(7-bs.length%8):Nat):Int)=zz at*
  generalize n/2^i=nn at*
  generalize bs.length/8=jj at*
  generalize bs.length%8=kk at*
  simp only[YE,s1,znc]
  have gs:∀(x:AV) (v:Value),ql [x,.sc v] 1=some v:=fun _ _=>rfl
  simp[s2,h5,qs,gs,q,ix,h4,g1,r,s3,o8,p1,-zS,-zk]
 ·have hz:n/2^i%2=0:=qe
  have s2:∀t x y,qy Tryz.prog .and t x y (.int .u64 ((n/2^i:Nat):Int)) (.int .u64 1)=some (.int .u64 0):=fun t x y=>by rw[s2',hz];rfl
  rw[tb,decide_eq_false hb]
  refine⟨hp,?_,⟨h1,h2,h3,h4,h5⟩,Fm.refl _ _⟩
  generalize n/2^i=nn at*
  simp only[YE,s1,znc]
  simp[s2,-zk]
theorem zke(hm:bs.length<7900000)(b:Bool)(hi:i<64)(h:RW hp w nb (bs++[b]) bs.length):
 ∃hp',B166_8 (.ptr w 0 0) v1 (.int .i64 (i:Int)) hp=B166_2 (.ptr w 0 0) v1 (.int .i64 ((i:Int)-1)) hp'/\BW hp' w nb (bs++[b])/\Fm [w,nb] hp hp':=by
 obtain⟨h1,h2,h3,h4,h5⟩:=h
 have w1:IntKind.i64.wrap ((bs.length:Int)+1)=((bs.length:Int)+1):=qj
 have w2:IntKind.i64.wrap ((i:Int)-1)=((i:Int)-1):=qj
 have hne:bs++[b]≠[]:=qg
 refine⟨hp.put w 0 [.ms nb 0 0 (pk (bs++[b])).length 1,.sc (.int .i64 ((bs++[b]).length:Int))],?_,⟨h1,fun e=>absurd e hne,fun _=>⟨h2,h3,by rw[qB _ _ h3];exact h4⟩,?_⟩,Fm.put _ _ _ qg⟩
 ·rw[qwq]
  generalize pk (bs++[b])=pb at*
  simp[h5,ql,w1,w2,qo]
 ·rw[qr]
  unfold Bs
  rw[if_neg hne]
theorem qu4(w n:Nat)(hn:n<18446744073709551616):∀(k nb:Nat) (bs:List Bool) (hp:Hp),k<=64->bs.length+k<7900000->BW hp w nb bs->
 ∃hp' nb',B166_2 (.ptr w 0 0) (.int .u64 (n:Int)) (.int .i64 ((k:Int)-1)) hp=some (.tup [],hp')/\BS hp w nb hp' nb' (bs++ko n k):=by
 intro k
 induction k with
 |zero=>
  intro nb bs hp hk hl h
  refine⟨hp,nb,?_,by simpa[ko]using h,Fm.refl _ _,.inl rfl⟩
  rw[qet]
  simp
 |succ k ih=>
  intro nb bs hp hk hl h
  obtain⟨hp1,nb1,a1,a2,a3,a4⟩:=zkg w nb (.int .u64 (n:Int)) k bs hp qe h
  obtain⟨hp2,b1,b2,b3⟩:=zkf w nb1 n k bs hp1 hn qe qe a2
  obtain⟨hp3,c1,c2,c3⟩:=zke w nb1 (.int .u64 (n:Int)) k bs hp2 qe _ qe b2
  obtain⟨hp4,nb4,d1,d2⟩:=ih nb1 (bs++[n.testBit k]) hp3 qe qi c2
  have e:((k+1:Nat):Int)-1=(k:Int):=qe
  have e2:bs++ko n (k+1)=bs++[n.testBit k]++ko n k:=by simp[ko]
  refine⟨hp4,nb4,by rw[e,a1,b1,c1,d1],?_⟩
  rw[e2]
  refine BS.trans h.1 (n2:=nb1) (b:=hp3) (l:=bs++[n.testBit k]) ⟨c2,?_,a4⟩ d2
  refine⟨zon a3.1 (zon b3.1 c3.1),fun c hc hn=>?_⟩
  have hc1:=znu hc a3.1
  have hc2:=znu hc1 b3.1
  have hn':c∉[w,nb1]:=by
   simp at hn⊢
   refine⟨hn.1,?_⟩
   rcases a4 with e|e
   ·rw[e];exact hn.2
   ·omega
  rw[c3.2 c hc2 hn',b3.2 c hc1 hn',a3.2 c hc hn]
theorem YV(w nb n k:Nat)(bs:List Bool)(hp:Hp)(hn:n<18446744073709551616)(hk:k<=64)(hl:bs.length+k<7900000)(h:BW hp w nb bs):
 ∃hp' nb',run cxX 166 [.ptr w 0 0,.sc (.int .u64 (n:Int)),.sc (.int .i64 (k:Int))] hp=some (.tup [],hp')/\BS hp w nb hp' nb' (bs++ko n k):=by
 obtain⟨hp',nb',h1,h2⟩:=qu4 w n hn k nb bs hp hk hl h
 refine⟨hp',nb',?_,h2⟩
 have m1:max (k:Int) 0=(k:Int):=qe
 have m2:min (k:Int) 64=(k:Int):=qe
 have w1:IntKind.i64.wrap ((k:Int)-1)=(k:Int)-1:=qj
 rw[E166]
 simp[m1,m2,w1,h1]
theorem qmr(w:Nat):∀(k nb:Nat) (bs:List Bool) (hp:Hp),bs.length+k<7800000->BW hp w nb bs->
 ∃hp' nb',B165_0 (.ptr w 0 0) (.int .i64 (k:Int)) hp=some (.tup [],hp')/\BS hp w nb hp' nb' (bs++una k):=by
 intro k
 induction k with
 |zero=>
  intro nb bs hp hl h
  obtain⟨hp1,nb1,a1,a2⟩:=YV w nb 0 1 bs hp qe qe qe h
  refine⟨hp1,nb1,?_,a2⟩
  rw[qeu]
  simp at a1
  simp[a1]
 |succ k ih=>
  intro nb bs hp hl h
  obtain⟨hp1,nb1,a1,a2⟩:=YV w nb 1 1 bs hp qe qe qe h
  obtain⟨hp2,nb2,b1,b2⟩:=ih nb1 (bs++ko 1 1) hp1 qi a2.1
  have w2:IntKind.i64.wrap (((k+1:Nat):Int)-1)=(k:Int):=qj
  have hpos:((k+1:Nat):Int)>0:=qe
  have e:bs++una (k+1)=bs++ko 1 1++una k:=by simp[una,ko,zpj]
  refine⟨hp2,nb2,?_,by rw[e];exact a2.trans h.1 b2⟩
  rw[qeu]
  generalize((k+1:Nat):Int)=z at*
  simp at a1
  simp[a1,hpos,w2,b1]
theorem qca(w nb k:Nat)(bs:List Bool)(hp:Hp)(hl:bs.length+k<7800000)(h:BW hp w nb bs):
 ∃hp' nb',run cxX 165 [.ptr w 0 0,.sc (.int .i64 (k:Int))] hp=some (.tup [],hp')/\BS hp w nb hp' nb' (bs++una k):=by
 obtain⟨hp',nb',h1,h2⟩:=qmr w k nb bs hp hl h
 refine⟨hp',nb',?_,h2⟩
 rw[E165]
 simp[h1]
theorem QS(w nb:Nat)(bs:List Bool)(hp:Hp)(hl:bs.length<7900000)(h:BW hp w nb bs):
 ∃t hp',run cxX 167 [.ptr w 0 0] hp=some (S t 1 (LI .u8 (pk bs)),hp')/\Fm [] hp hp':=by
 obtain⟨h1,h2,h3,h4⟩:=h
 rw[E167]
 by_cases hb:bs=[]
 ·subst hb
  have e:Bs nb []=S 2 1 []:=rfl
  rw[e]at h4
  refine⟨1,hp,?_,Fm.refl _ _⟩
  have a:=qa0 1 2 hp
  simp[h4,qs,yC,a,qzt]
 ·obtain⟨n1,n2,n3⟩:=h3 hb
  have e:Bs nb bs= .ms nb 0 0 (pk bs).length 1:=if_neg hb
  rw[e]at h4
  have s:=qh6 .u8 (pk bs) hp nb n3
  have a:=Vn .u8 (pk bs) (.ms nb 0 0 (pk bs).length 1) 1 qh (by rw[zZ];omega) (pkne hb) hp s
  have f:=Zg .u8 (pk bs) (hp.new (LI .u8 (pk bs))) hp.next (qT _ _)
  refine⟨0,(hp.new (LI .u8 (pk bs))).del hp.next,?_,⟨by simp[Hp.del],fun c hc _=>?_⟩⟩
  ·generalize pk bs=pb at*
   simp[h4,qs,yC,a,f]
  ·have:c≠hp.next:=qe
   simp[Hp.del,Hp.new,this]
end
abbrev Kv(K:Int)(x:AV):AV:=.agg [.sc (.int .i64 K),x]
theorem qj6(K:Int)(q0 q1 p1:AV)(hp:Hp):∀(n:Nat) (a b acc:List Int) (k k':Nat),a.length+b.length=n->acc.length+n<=1000000->
 B43_3 (S k 1 (LI .u64 a)) (S k' 1 (LI .u64 b)) [.sc (.int .i64 K),p1] [q0,q1] [.sc (.int .i64 K),S 2 1 (LI .u64 acc)] hp=some (Kv K (S 2 1 (LI .u64 (acc++(mrg a b).take (K.toNat-acc.length)))),hp):=by
 intro n
 induction n using Nat.strongRecOn with
 |_ n ih=>
 intro a b acc k k' hn hlen
 have ap:∀x:Int,jp 8 1 (S 2 1 (LI .u64 acc)) (S 1 1 [.sc (.int .u64 x)])=some (S 2 1 (LI .u64 (acc++[x]))):=fun x=>Qz .u64 acc 2 (.inr rfl) 8 qh x qe
 have fin:B43_9 [q0,q1] [.sc (.int .i64 K),S 2 1 (LI .u64 acc)] hp=some (Kv K (S 2 1 (LI .u64 acc)),hp):=by
  rw[zdk]
  simp[qp,qo]
 rw[zdo]
 by_cases hK:(acc.length:Int)<K
 ·have hs:K.toNat-acc.length=(K.toNat-(acc.length+1))+1:=qe
  have goA:∀(x:Int) (r:List Int),r.length+1+b.length<=n->B43_6 (S k 1 (LI .u64 (x::r))) (S k' 1 (LI .u64 b)) [.sc (.int .i64 K),p1] [q0,q1] [.sc (.int .i64 K),S 2 1 (LI .u64 acc)] hp=some (Kv K (S 2 1 (LI .u64 (acc++(x::mrg r b).take (K.toNat-acc.length)))),hp):=by
   intro x r hle
   rw[zdm]
   have e:=xa (rk k) (LI .u64 (x::r)) .i64 1 qe (by simp only[kR,zna];omega)
   have i:=fun k=>ih (r.length+b.length) qe r b (acc++[x]) k k' rfl (by simp only[zm9,zna,zns];omega)
   simp at i
   rw[hs,znq]
   simp[qs,ql,ap,e,qo,i]
  have goB:∀(y:Int) (r:List Int),a.length+(r.length+1)<=n->B43_8 (S k 1 (LI .u64 a)) (S k' 1 (LI .u64 (y::r))) [.sc (.int .i64 K),p1] [q0,q1] [.sc (.int .i64 K),S 2 1 (LI .u64 acc)] hp=some (Kv K (S 2 1 (LI .u64 (acc++(y::mrg a r).take (K.toNat-acc.length)))),hp):=by
   intro x r hle
   rw[zdl]
   have e:=xa (rk k') (LI .u64 (x::r)) .i64 1 qe (by simp only[kR,zna];omega)
   have i:=fun k'=>ih (a.length+r.length) qe a r (acc++[x]) k k' rfl (by simp only[zm9,zna,zns];omega)
   simp at i
   rw[hs,znq]
   simp[qs,ql,ap,e,qo,i]
  have wY:∀(x y:Int) (r s:List Int),r.length+s.length+2<=n->B43_4 (S k 1 (LI .u64 (x::r))) (S k' 1 (LI .u64 (y::s))) [.sc (.int .i64 K),p1] [q0,q1] [.sc (.int .i64 K),S 2 1 (LI .u64 acc)] hp=some (Kv K (S 2 1 (LI .u64 (acc++(x::mrg r s).take (K.toNat-acc.length)))),hp):=by
   intro x y r s hle
   rw[zdn]
   have e:=xa (rk k) (LI .u64 (x::r)) .i64 1 qe (by simp only[kR,zna];omega)
   have e':=xa (rk k') (LI .u64 (y::s)) .i64 1 qe (by simp only[kR,zna];omega)
   have i:=fun k k'=>ih (r.length+s.length) qe r s (acc++[x]) k k' rfl (by simp only[zm9,zna,zns];omega)
   simp at i
   rw[hs,znq]
   simp[qs,ql,ap,e,e',qo,i]
  match a,b with
  |[],[]=>simp[qs,ql,hK,fin]
  |[],y::s=>
   have h:=goB y s (by simp at hn⊢;omega)
   simp at h
   have hw':IntKind.i64.wrap ((s.length:Int)+1)=(s.length:Int)+1:=qm qe (by simp at hn;omega)
   have p:(0:Int)<(s.length:Int)+1:=qe
   have z:¬((s.length:Int)+1=0):=qe
   simp[qs,ql,hK,hw',p,z,Jl,qba,h]
  |x::r,[]=>
   have h:=goA x r (by simp at hn⊢;omega)
   simp at h
   have hw':IntKind.i64.wrap ((r.length:Int)+1)=(r.length:Int)+1:=qm qe (by simp at hn;omega)
   have p:(0:Int)<(r.length:Int)+1:=qe
   simp[qs,ql,hK,hw',p,Jl,h]
  |x::r,y::s=>
   have h1:=goA x r (by simp at hn⊢;omega)
   have h2:=goB y s (by simp at hn⊢;omega)
   have h3:=wY x y r s (by simp at hn⊢;omega)
   have hw':IntKind.i64.wrap ((r.length:Int)+1+((s.length:Int)+1))=(r.length:Int)+1+((s.length:Int)+1):=qm qe (by simp at hn;omega)
   have p:(0:Int)<(r.length:Int)+1+((s.length:Int)+1):=qe
   have p':(0:Int)<(r.length:Int)+1:=qe
   have z:¬((s.length:Int)+1=0):=qe
   have z':¬((r.length:Int)+1=0):=qe
   rw[zP]
   by_cases hxy:x<y
   ·simp[qs,ql,hK,hw',p,p',z,z',hxy,h1,Jl]
   ·by_cases hyx:y<x
    ·simp[qs,ql,hK,hw',p,p',z,z',hxy,hyx,h2,Jl,qba]
    ·simp[qs,ql,hK,hw',p,p',z,z',hxy,hyx,h3,Jl,qba]
 ·have hs:K.toNat-acc.length=0:=qe
  simp[qs,ql,hK,fin,hs]
theorem qm9(K:Int)(B':AV)(a b:List Int)(k k':Nat)(hp:Hp)(hlen:a.length+b.length<=1000000):
 run cxX 43 [Kv K (S k 1 (LI .u64 a)),.agg [B',S k' 1 (LI .u64 b)]] hp=some (Kv K (S 2 1 (LI .u64 ((mrg a b).take K.toNat))),hp):=by
 rw[E43]
 have:=qj6 K (.sc (.int .i64 0)) (S 2 1 []) (S (rk k) 1 (LI .u64 a)) hp (a.length+b.length) a b [] (rk k) (rk k') rfl (by simpa using hlen)
 simp at this
 simp[ql,qs]
 exact this
theorem qir(K:Int)(a:List Int)(n:Int)(k:Nat)(hp:Hp)(hlen:a.length+1<=1000000):
 run cxX 39 [Kv K (S k 1 (LI .u64 a)),.sc (.int .u64 n)] hp=some (Kv K (S 2 1 (LI .u64 ((mrg a [n]).take K.toNat))),hp):=by
 rw[E39]
 have m:=fun k k' hp=>qm9 K (.sc (.int .i64 K)) a [n] k k' hp (by simpa using hlen)
 simp[LI]at m
 simp[ql,qp,qo,LI,m]
theorem qoj(B B':AV)(a b:List Int)(k k':Nat)(hab:a.length=b.length)(hl:a.length<=1000000)(hp:Hp):∀(r s:List Int) (i:Nat),a.drop i=r->b.drop i=s->
 B132_4 (.int .i64 a.length) (.int .i64 i) [B,S k 1 (LI .u64 a)] [B',S k' 1 (LI .u64 b)] hp=some (.sc (.bool (decide (r=s))),hp):=by
 intro r
 induction r with
 |nil=>
  intro s i hr hs
  have h1:=qL hr
  have h2:s=[]:=by rw[<-hs];exact zoh qe
  have hlt:¬((i:Int)<(a.length:Int)):=qe
  rw[qfh]
  simp[hlt,h2]
 |cons x r ih=>
  intro s i hr hs
  obtain⟨e1,e2,hi,e3⟩:=qt hr
  rw[qfh]
  have hw:IntKind.i64.wrap ((i:Int)+1)=((i+1:Nat):Int):=qj
  cases s with
  |nil=>have:=qL hs;omega
  |cons y s=>
   obtain⟨f1,f2,hj,f3⟩:=qt hs
   have h:=ih s (i+1) e2 f2
   simp at h hw
   by_cases e:x=y
   ·simp[hi,hj,qs,ql,e3,f3,e,hw,h]
   ·simp[hi,hj,qs,ql,e3,f3,e]
theorem qsq(B B':Int)(a b:List Int)(k k':Nat)(hp:Hp)(ha:a.length<=1000000)(hb:b.length<=1000000):
 run cxX 132 [Kv B (S k 1 (LI .u64 a)),Kv B' (S k' 1 (LI .u64 b))] hp=some (.sc (.bool (decide (B=B'/\a=b))),hp):=by
 rw[E132]
 by_cases h1:B=B'
 ·by_cases h3:a.length=b.length
  ·have h:=qoj (.sc (.int .i64 B)) (.sc (.int .i64 B')) a b (rk k) (rk k') h3 ha hp a b 0 rfl rfl
   simp at h
   subst h1
   rw[h3]at h
   simp[ql,qs,h3,qxc,h]
  ·have h4:¬(a=b):=fun e=>h3 (by rw[e])
   have h5:¬((a.length:Int)=(b.length:Int)):=qe
   simp[ql,qs,h1,h4,h5,qfi]
 ·simp[ql,qs,h1,qfi]
def cut(few:Bool)(n:Int):Int:=if few then n%30 else n
theorem za0(K:Int)(few:Bool)(q0 q1:AV)(k:Nat)(l:List Int)(hK:K<=1000)(hl:l.length<=1000)(hpos:∀n∈l,0<=n)(hp:Hp):∀(r:List Int) (i:Nat) (acc:List Int) (k':Nat),l.drop i=r->acc.length<=1000->
 B32_3 (.bool few) (S k 1 (LI .u64 l)) (.int .i64 l.length) (.int .i64 i) [q0,q1] [.sc (.int .i64 K),S 2 1 (LI .u64 acc)] hp=some (Kv K (S 2 1 (LI .u64 (Zx K.toNat acc (r.map (cut few))))),hp):=by
 intro r
 induction r with
 |nil=>
  intro i acc k' hr ha
  have:=qL hr
  have hlt:¬((i:Int)<(l.length:Int)):=qe
  rw[qmh]
  simp[hlt,qp,qo,Zx]
 |cons x r ih=>
  intro i acc k' hr ha
  obtain⟨e1,e2,hi,e3⟩:=qt hr
  have hx:=hpos x (znm e1)
  have hw:IntKind.i64.wrap ((i:Int)+1)=((i+1:Nat):Int):=qj
  have h:=ih (i+1) ((mrg acc [cut few x]).take K.toNat) k' e2 (by rw[zn8];omega)
  have d:=fun hp=>qir K acc (cut few x) 3 hp qe
  have e7:B32_7 (.bool few) (.int .u64 (cut few x)) (S k 1 (LI .u64 l)) (.int .i64 l.length) (.int .i64 i) [q0,q1] [.sc (.int .i64 K),S 2 1 (LI .u64 acc)] hp=some (Kv K (S 2 1 (LI .u64 (Zx K.toNat acc ((x::r).map (cut few))))),hp):=by
   rw[zdt]
   simp at h hw
   simp[qp,qo,d,hw,h,Zx]
  rw[qmh]
  have hm:∀a b,qy Tryz.prog .rem 62 a b (.int .u64 x) (.int .u64 30)=some (.int .u64 (x%30)):=by
   intro a b;rw[zp _ _ _ _ _ _ _ qe,zn hx]
  cases few with
  |true=>
   simp[cut]at e7
   simp[hi,e3,ql,hm,e7,cut]
  |false=>
   simp[cut]at e7
   simp[hi,e3,ql,e7,cut]
theorem zem(c:Int)(few:Bool)(l:List Int)(k:Nat)(hc:0<=c/\c<256)(hl:l.length<=1000)(hpos:∀n∈l,0<=n)(hp:Hp):
 run cxX 32 [.sc (.int .u8 c),S k 1 (LI .u64 l),.sc (.bool few)] hp=some (Kv (1+c%20) (S 2 1 (LI .u64 (Zx (1+c%20).toNat [] (l.map (cut few))))),hp):=by
 rw[E32]
 have h1:∀x y,qy Tryz.prog .rem 5 x y (.int .u8 c) (.int .u8 20)=some (.int .u8 (c%20)):=by
  intro x y;rw[zp _ _ _ _ _ _ _ qe,zn hc.1]
 have w1:IntKind.i64.wrap (c%20)=c%20:=qm qe qe
 have w2:IntKind.i64.wrap (1+c%20)=1+c%20:=qm qe qe
 have hq:=za0 (1+c%20) few (.sc (.int .i64 0)) (S 2 1 []) (rk k) l qe hl hpos hp l 0 [] 2 rfl qg
 simp at hq
 simp[h1,jW,w1,w2,hq]
@[simp] theorem ro_fn(f:FuncId)(c:List AV):ro (.fn f c)= .fn f c:=rfl
def Yp:List Int->Int
 |[]=>0
 |[_]=>0
 |x::y::r=>if y<=x then 8 else Yp (y::r)
def qub(K:Int)(l:List Int):Int:=if K<1\/1024<K then 2 else if K<(l.length:Int)then 7 else Yp l
theorem qs4(l:List Int)(k:Nat)(hl:l.length<=4096)(hp:Hp):∀(r:List Int) (x:Int) (j:Nat),l.drop j=x::r->
 B152_4 (S k 1 (LI .u64 l)) (.int .i64 ((j+1:Nat):Int)) hp=some (.sc (.int .i64 (Yp (x::r))),hp):=by
 intro r
 induction r with
 |nil=>
  intro x j hr
  obtain⟨e1,e2,hi,e3⟩:=qt hr
  have:=qL e2
  have hlt:¬((j:Int)+1<(l.length:Int)):=qe
  rw[KN]
  simp[hlt,Yp]
 |cons y r ih=>
  intro x j hr
  obtain⟨e1,e2,hi,e3⟩:=qt hr
  obtain⟨f1,f2,hj,f3⟩:=qt e2
  have hlt:(j:Int)+1<(l.length:Int):=qe
  have hw:IntKind.i64.wrap ((j:Int)+1+1)=(j:Int)+1+1:=qm qe qe
  have hw2:IntKind.i64.wrap ((j:Int)+1-1)=(j:Int):=qj
  have hge:(0:Int)<=(j:Int)+1:=qe
  have htn:((j:Int)+1).toNat=j+1:=qe
  have g:=ih y (j+1) e2
  rw[KN]
  simp at g hw2
  by_cases hq:y<=x
  ·simp[hlt,hge,htn,ql,f1,e1,hw2,hq,Yp]
  ·simp[hlt,hge,htn,ql,f1,e1,hw2,hq,Yp,hw,g]
theorem qie(l:List Int)(k:Nat)(hl:l.length<=4096)(hp:Hp):run cxX 152 [S k 1 (LI .u64 l)] hp=some (.sc (.int .i64 (Yp l)),hp):=by
 rw[E152]
 have h1:¬((4096:Int)<(l.length:Int)):=qe
 cases l with
 |nil=>
  rw[KN]
  simp[Yp]
 |cons x r=>
  have g:=qs4 (x::r) k hl hp r x 0 rfl
  have h1:¬((4096:Int)<(r.length:Int)+1):=by simp at hl;omega
  simp at g
  simp[h1,g]
theorem qna(K:Int)(l:List Int)(k:Nat)(hl:l.length<=1000000)(hp:Hp):run cxX 85 [Kv K (S k 1 (LI .u64 l))] hp=some (.sc (.int .i64 (qub K l)),hp):=by
 rw[E85]
 unfold qub
 by_cases h1:K<1
 ·simp[ql,h1,qlv]
 ·by_cases h2:1024<K
  ·simp[ql,h1,h2,qlv]
  ·by_cases h3:K<(l.length:Int)
   ·simp[ql,qs,h1,h2,h3,qlu]
   ·simp[ql,qs,h1,h2,h3,qlu,qie l _ (show l.length<=4096 by omega)]
theorem xP(K:IntKind)(l:List Nat)(i:Nat)(h:i<l.length):(LI K (nz l))[i]?=some (.sc (.int K (l.getD i 0:Nat))):=by
 unfold LI nz
 rw[znt,znt,znb,zng h]
 rfl
section
variable (l:List Nat)(k:Nat)(hl:l.length<=1000000)(h64:∀x∈l,x<18446744073709551616)(hr:qN l)
include hl h64 hr
theorem qp9(i:Nat)(hi:i<l.length)(hp:Hp):run cxX 164 [S k 1 (LI .u64 (nz l)),.sc (.int .i64 (i:Int))] hp=some (.sc (.int .u64 ((qw l).getD i 0:Nat)),hp):=by
 have g:=Xp l i hi
 have a0:=xP .u64 l 0 qe
 have ai:=xP .u64 l i hi
 rw[znb,g,Option.getD_some,E164]
 by_cases h0:i=0
 ·subst h0
  rw[if_pos rfl]
  generalize l.getD 0 0=v at*
  simp[a0,ql]
 ·rw[if_neg h0]
  have aj:=xP .u64 l (i-1) qe
  have hlt:=vA l hr (i-1) qe
  have e:i-1+1=i:=qe
  rw[e]at hlt
  have hv:l.getD i 0<18446744073709551616:=by
   rw[znb,zng hi]
   exact h64 _ (znr _)
  have w1:IntKind.i64.wrap ((i:Int)-1)=((i-1:Nat):Int):=qj
  have h0':¬((i:Int)=0):=qe
  have g0:(0:Int)<=((i-1:Nat):Int):=qe
  have g1:(0:Int)<=(i:Int):=qe
  generalize l.getD i 0=u at*
  generalize l.getD (i-1) 0=v at*
  have w2:IntKind.u64.wrap ((u:Int)-(v:Int))=(u:Int)-(v:Int):=qu qe qe
  have w3:IntKind.u64.wrap ((u:Int)-(v:Int)-1)=((u-v-1:Nat):Int):=by rw[qu]<;>omega
  have aj':(LI .u64 (nz l))[(((i-1:Nat):Int)).toNat]?=some (.sc (.int .u64 (v:Int))):=by rw[znj];exact aj
  generalize((i-1:Nat):Int)=j at*
  generalize((u-v-1:Nat):Int)=z at*
  simp[h0,ai,aj',ql,w1,g0,w2,w3]
theorem quu(kk:Nat)(hkk:kk<=63)(hp:Hp):∀(r:List Nat) (i n:Nat),(qw l).drop i=r->n+r.length*4160<4611686018427387904->
 B180_3 (S k 1 (LI .u64 (nz l))) (.int .i64 (kk:Int)) (.int .i64 (n:Int)) (.int .i64 (l.length:Int)) (.int .i64 (i:Int)) hp=
  some (.tup [.sc (.int .i64 ((xp kk r n).1:Nat)),.sc (.bool (xp kk r n).2)],hp):=by
 intro r
 induction r with
 |nil=>
  intro i n h hn
  have h1:=qL h
  rw[kK]at h1
  have hlt:¬((i:Int)<(l.length:Int)):=qe
  rw[qeh]
  simp[hlt,xp]
 |cons g r ih=>
  intro i n h hn
  obtain⟨e1,e2,hi,e3⟩:=qt h
  have hi':i<l.length:=by have:=hi;simp at this;omega
  have hlt:(i:Int)<(l.length:Int):=qe
  have gp:=qp9 l (rk k) hl h64 hr i hi' hp0
  have eg:(qw l).getD i 0=g:=by rw[znb,e1];rfl
  rw[eg]at gp
  have sh:=fun o o'=>Jp g kk qe o o' .i64
  rw[qeh]
  unfold xp
  generalize hq:g/2^kk=q at*
  by_cases hc:4096<q
  ·have hg:(4096:Int)<(q:Int):=qe
   simp[hlt,gp,sh,hg,hc]
  ·have hg:¬((4096:Int)<(q:Int)):=qe
   have w1:IntKind.i64.wrap (q:Int)=(q:Int):=qm qe qe
   have w2:IntKind.i64.wrap ((q:Int)+1)=(q:Int)+1:=qm qe qe
   have w3:IntKind.i64.wrap ((q:Int)+1+(kk:Int))=(q:Int)+1+(kk:Int):=qm qe qe
   simp only[zna]at hn
   have w4:IntKind.i64.wrap ((n:Int)+((q:Int)+1+(kk:Int)))=((n+(q+1+kk):Nat):Int):=qj
   have w5:IntKind.i64.wrap ((i:Int)+1)=((i+1:Nat):Int):=qj
   have hi2:=ih (i+1) (n+(q+1+kk)) e2 qe
   rw[if_neg hc]
   generalize((n+(q+1+kk):Nat):Int)=N at*
   generalize((i+1:Nat):Int)=I at*
   simp[hlt,gp,sh,hg,xI,w1,w2,w3,w4,w5,hi2]
theorem qza(kk:Nat)(hkk:kk<=63)(hp:Hp):run cxX 180 [S k 1 (LI .u64 (nz l)),.sc (.int .i64 (kk:Int))] hp=
 some (.tup [.sc (.int .i64 ((xp kk (qw l) 0).1:Nat)),.sc (.bool (xp kk (qw l) 0).2)],hp):=by
 have h:=quu l k hl h64 hr kk hkk hp (qw l) 0 0 rfl qi
 rw[E180]
 simp at h
 simp[h]
theorem qns(hp:Hp):∀(f j b:Nat) (m:Int),j+f=64->b<=63->
 B124_3 (S k 1 (LI .u64 (nz l))) (.int .i64 (b:Int)) (.int .i64 m) (.int .i64 (j:Int)) hp=some (.sc (.int .i64 (Vp (qw l) f j b m:Nat)),hp):=by
 intro f
 induction f with
 |zero=>
  intro j b m hj hb
  have hlt:¬((j:Int)<64):=qe
  rw[qfn]
  simp[hlt,Vp]
 |succ f ih=>
  intro j b m hj hb
  have hlt:(j:Int)<64:=qe
  have c:=qza l (rk k) hl h64 hr j qe hp0
  have w5:IntKind.i64.wrap ((j:Int)+1)=((j+1:Nat):Int):=qj
  have i1:=ih (j+1) j (xp j (qw l) 0).1 qe qe
  have i2:=ih (j+1) b m qe hb
  have c8:∀v3 v4,B124_8 (S k 1 (LI .u64 (nz l))) v3 v4 (.int .i64 (j:Int)) hp=B124_3 (S k 1 (LI .u64 (nz l))) v3 v4 (.int .i64 ((j+1:Nat):Int)) hp:=by
   intro v3 v4
   rw[qxl]
   generalize((j+1:Nat):Int)=J at*
   simp[w5]
  rw[qfn]
  unfold Vp
  simp only[zrl,zrm]at i1 i2 c8
  generalize xp j (qw l) 0=C at*
  obtain⟨c1,c2⟩:=C
  cases c2
  ·simp[hlt,c,c8,i2]
  ·by_cases h1:m<0
   ·simp[hlt,c,h1,qfm,c8,i1]
   ·by_cases h2:(c1:Int)<m
    ·simp[hlt,c,h1,h2,qfm,c8,i1]
    ·simp[hlt,c,h1,h2,c8,i2]
theorem qcg(hp:Hp):run cxX 124 [S k 1 (LI .u64 (nz l))] hp=some (.sc (.int .i64 (jd (qw l):Nat)),hp):=by
 have h:=qns l k hl h64 hr hp 64 0 63 (-1) rfl qe
 rw[E124]
 simp at h
 simp[h,jd]
theorem qs3(kk w:Nat)(hkk:kk<=63)(hg:∀g∈qw l,g/2^kk<=4096):∀(r:List Nat) (i nb:Nat) (bs:List Bool) (hp:Hp),(qw l).drop i=r->i+r.length=l.length->bs.length+r.length*4160<7000000->BW hp w nb bs->
 ∃hp' nb',B104_7 (S k 1 (LI .u64 (nz l))) (.int .i64 (kk:Int)) (.ptr w 0 0) (.int .i64 (l.length:Int)) (.int .i64 (i:Int)) hp=
  B104_7 (S k 1 (LI .u64 (nz l))) (.int .i64 (kk:Int)) (.ptr w 0 0) (.int .i64 (l.length:Int)) (.int .i64 (l.length:Int)) hp'/\BS hp w nb hp' nb' (bs++jb kk r):=by
 intro r
 induction r with
 |nil=>
  intro i nb bs hp h hil hl2 hw
  have e:i=l.length:=by simpa using hil
  rw[e]
  exact⟨hp,nb,rfl,by simpa[jb]using hw,Fm.refl _ _,.inl rfl⟩
 |cons g r ih=>
  intro i nb bs hp h hil hl2 hw
  obtain⟨e1,e2,hi,e3⟩:=qt h
  simp only[zna]at hl2 hil
  have hlt:(i:Int)<(l.length:Int):=qe
  have gp:=qp9 l (rk k) hl h64 hr i qe hp0
  have eg:(qw l).getD i 0=g:=by rw[znb,e1];rfl
  rw[eg]at gp
  have hmem:g∈qw l:=by rw[<-e3];exact znr _
  have hq:=hg g hmem
  have hg64:=xG h64 g hmem
  have sh:=fun o o'=>Jp g kk qe o o' .i64
  have w1:IntKind.i64.wrap ((g/2^kk:Nat):Int)=((g/2^kk:Nat):Int):=(fun(q:Nat) (h:q<=4096)=>qm (z:=(q:Int)) qe qe) _ hq
  have w5:IntKind.i64.wrap ((i:Int)+1)=((i+1:Nat):Int):=qj
  obtain⟨hp1,nb1,a1,a2⟩:=qca w nb (g/2^kk) bs hp qe hw
  obtain⟨hp2,nb2,b1,b2⟩:=YV w nb1 g kk (bs++una (g/2^kk)) hp1 hg64 qe qi a2.1
  obtain⟨hp3,nb3,c1,c2⟩:=ih (i+1) nb2 (bs++una (g/2^kk)++ko g kk) hp2 e2 qe qi b2.1
  refine⟨hp3,nb3,?_,?_⟩
  ·rw[<-c1,qfs]
   generalize hqq:((g/2^kk:Nat):Int)=q at*
   generalize((i+1:Nat):Int)=I at*
   simp[hlt,gp,sh,hqq,xI,w1,a1,b1,w5]
  ·have e:bs++jb kk (g::r)=bs++una (g/2^kk)++ko g kk++jb kk r:=by simp[jb]
   rw[e]
   exact(a2.trans hw.1 b2).trans hw.1 c2
end
theorem qnt:∀(l:List Nat),Yp (nz l)=0↔qN l:=by
 intro l
 induction l with
 |nil=>exact⟨fun _=>trivial,fun _=>rfl⟩
 |cons x r ih=>
  cases r with
  |nil=>exact⟨fun _=>trivial,fun _=>rfl⟩
  |cons y r=>
   have e:Yp (nz (x::y::r))=if((y:Nat):Int)<=((x:Nat):Int)then 8 else Yp (nz (y::r)):=rfl
   rw[e]
   by_cases h:y<=x
   ·rw[if_pos qe]
    exact⟨fun h=>absurd h qh,fun h'=>by have:=h'.1;omega⟩
   ·rw[if_neg qe]
    constructor
    ·intro h';exact⟨qe,ih.mp h'⟩
    ·intro h';exact ih.mpr h'.2
theorem qyp(l:List Nat)(k:Nat)(hl:l.length<=1024)(h64:∀x∈l,x<18446744073709551616)(hr:qN l)(hp:Hp):
 ∃t hp',run cxX 104 [S k 1 (LI .u64 (nz l))] hp=some (.tup [S t 1 (LI .u8 (zh l)),.sc (.int .i64 0)],hp')/\Fm [] hp hp':=by
 have rc:=qie (nz l) (rk k) qi hp0
 rw[(qnt l).mpr hr]at rc
 have pr:=qcg l (rk k) qe h64 hr hp0
 obtain⟨k63,hq⟩:=QZ (xG h64)
 have hbl:=Qn (jd (qw l)) k63 (qw l) hq
 rw[kK]at hbl
 have hlY:(pk (jf (qw l))).length<700000:=by rw[zZ];unfold jf;omega
 obtain⟨hp1,nb1,a1,a2⟩:=qs3 l k qe h64 hr (jd (qw l)) hp.next k63 hq (qw l) 0 hp.next [] (hp.new [S 2 1 [],.sc (.int .i64 0)]) rfl qg qi (BW.new hp)
 obtain⟨a2,a3,a4⟩:=a2
 simp only[zn4]at a2
 have hn1:hp.next<hp1.next:=by have:=a3.1;simp at this;omega
 --the bytes
 have wN:∀c,c<hp.next->hp1.get c=hp.get c:=by
  intro c hc
  rw[a3.2 c qi qi]
  exact(Fm.new [] hp _).2 c hc qg
 have hne:hp1.next≠hp.next:=qe
 have u1:=zY hp1.next l.length [] qe (by have:=qD (n:=l.length) qe;simp;omega) (hp1.new (Wc [])) (qT _ _)
 rw[qgo,zn4]at u1
 have u2:=ju hp1.next (uv l.length) (jd (qw l):Nat) (by have:=qD (n:=l.length) qe;omega) (hp1.new (Wc (uv l.length))) (qT _ _)
 rw[qgo]at u2
 have BW2:∀x,BW (hp1.new x) hp.next nb1 (jf (qw l)):=fun x=>a2.fr (Fm.new [] hp1 x) qg qg
 obtain⟨t1,hp2,v1,v2⟩:=QS hp.next nb1 (jf (qw l)) (hp1.new (Wc (uv l.length++[(jd (qw l):Int)]))) (by unfold jf;omega) (BW2 _)
 have r2:hp2.rd hp1.next 0=some (Wc (uv l.length++[(jd (qw l):Int)])):=by rw[v2.rd qg qg,qT]
 have hL:=qD (n:=l.length) qe
 have hL2:=qD (n:=(pk (jf (qw l))).length) qe
 have u3:=zY hp1.next (pk (jf (qw l))).length (uv l.length++[(jd (qw l):Int)]) qe (by simp only[zm9,znl];omega) hp2 r2
 have BW3:=((BW2 _).fr v2 qg qg).fr (Fm.put (X:=[hp1.next]) hp2 hp1.next (Wc (uv l.length++[(jd (qw l):Int)]++uv (pk (jf (qw l))).length)) qg) qi (by
  simp
  have:=a2.2.2.1
  by_cases hb:jf (qw l)=[]
  ·have:=a2.2.1 hb;omega
  ·have:=(a2.2.2.1 hb).1;omega)
 obtain⟨t2,hp3,x1,x2⟩:=QS hp.next nb1 (jf (qw l)) _ (by unfold jf;omega) BW3
 have r3:hp3.rd hp1.next 0=some (Wc (uv l.length++[(jd (qw l):Int)]++uv (pk (jf (qw l))).length)):=by
  rw[x2.rd (by have:=v2.1;simp at this⊢;omega) qg,qr]
 have u4:=Qi hp1.next (uv l.length++[(jd (qw l):Int)]++uv (pk (jf (qw l))).length) (pk (jf (qw l))) (rk t2) (by simp only[zm9,znl];omega) hp3 r3
 have u5:=Wf hp1.next (zh l) (by unfold zh;simp only[zm9,znl];omega) (hp3.put hp1.next 0 (Wc (zh l))) (qr _ _ _)
 refine⟨1,hp3.put hp1.next 0 (Wc (zh l)),?_,?_⟩
 ·have w3:IntKind.u8.wrap ((jd (qw l):Nat):Int)=((jd (qw l):Nat):Int):=zB qe qe
  have w4:IntKind.u64.wrap ((l.length:Nat):Int)=((l.length:Nat):Int):=qu qe qe
  have w6:IntKind.u64.wrap (((pk (jf (qw l))).length:Nat):Int)=(((pk (jf (qw l))).length:Nat):Int):=qu qe qe
  have w7:IntKind.u64.wrap ((((pk (jf (qw l))).length:Nat):Int))=(((pk (jf (qw l))).length:Nat):Int):=w6
  have e0:¬((l.length:Int)<(l.length:Int)):=qe
  have ey:uv l.length++[((jd (qw l):Nat):Int)]++uv (pk (jf (qw l))).length++pk (jf (qw l))=zh l:=rfl
  rw[ey]at u4
  rw[E104]
  simp only[Int.natCast_zero]at a1
  generalize jd (qw l)=kk at*
  generalize pk (jf (qw l))=pb at*
  generalize zh l=Y at*
  generalize uv l.length=Z at*
  generalize uv pb.length=Z2 at*
  generalize Z++[(kk:Int)]++Z2=Q at*
  generalize Z++[(kk:Int)]=Q1 at*
  have b7:B104_7 (S k 1 (LI .u64 (nz l))) (.int .i64 (kk:Int)) (.ptr hp.next 0 0) (.int .i64 (l.length:Int)) (.int .i64 (l.length:Int)) hp1=some (.tup [S 1 1 (LI .u8 Y),.sc (.int .i64 0)],hp3.put hp1.next 0 (Wc Y)):=by
   rw[qfs]
   have wc0:Wc []=[S 2 1 []]:=rfl
   rw[wc0]at u1
   simp[w3,w4,w6,u1,u2,v1,u3,x1,u4,u5]
  rw[<-a1]at b7
  simp[rc,pr,b7]
 ·refine⟨by have:=v2.1;have:=x2.1;simp at *;omega,fun c hc _=>?_⟩
  have h1:c≠hp1.next:=qe
  have hv:=v2.1
  have hx:=x2.1
  simp at hv hx
  have e1:(hp3.put hp1.next 0 (Wc (zh l))).get c=hp3.get c:=by simp[Hp.put,h1]
  rw[e1,x2.2 c qi qg]
  have e2:∀x,(hp2.put hp1.next 0 x).get c=hp2.get c:=by intro x;simp[Hp.put,h1]
  rw[e2,v2.2 c qi qg]
  have e3:∀x,(hp1.new x).get c=hp1.get c:=by intro x;simp[Hp.new,h1]
  rw[e3,wN c hc]
theorem xh(K:IntKind)(x k:Nat)(hk:k<=K.bits)(t:TypeId)(o o':Operand)(K':IntKind):qy Tryz.prog .shr t o o' (.int K (x:Int)) (.int K' (k:Int))=some (.int K ((x/2^k:Nat):Int)):=by
 rw[jM _ _ _ _ _ _ _ _ qe,znj,zp5 hk,zos _ (Int.le_of_lt (Int.pow_pos qe))]
 simp
theorem qof(n last:Nat)(hn:n<=1000000)(hl:last<4294967296)(hp:Hp):∀(f k:Nat),k+f=33->k<=32->B128_2 (.int .i64 (n:Int)) (.int .u32 (last:Int)) (.int .i64 (k:Int)) hp=some (.sc (.int .i64 (Vq n last f k:Nat)),hp):=by
 intro f
 induction f with
 |zero=>intro k h h2;omega
 |succ f ih=>
  intro k h h2
  have w1:IntKind.u64.wrap (last:Int)=(last:Int):=qu qe qe
  have w2:IntKind.i64.wrap ((k:Int)+1)=((k+1:Nat):Int):=qj
  have w3:IntKind.u64.wrap (n:Int)=(n:Int):=qu qe qe
  have sh:=fun t o o'=>xh .u64 last (k+1) (by show k+1<=64;omega) t o o' .i64
  have b4:∀v,B128_4 v hp=some (.sc v,hp):=fun v=>by rw[qxe]
  rw[qxg]
  unfold Vq
  by_cases h0:0<n
  ·have h0':(n:Int)>0:=qe
   by_cases h1:n<=last/2^(k+1)
   ·by_cases hk:k=32
    ·subst hk
     have:last/2^33=0:=zqh (znu hl qh)
     have e:(32:Nat)+1=33:=rfl
     rw[e,this]at h1
     omega
    ·have hi:=ih (k+1) qe qe
     have h1':((last/2^(k+1):Nat):Int)>=(n:Int):=qe
     rw[if_pos ⟨h0,h1⟩]
     generalize((last/2^(k+1):Nat):Int)=q at*
     generalize((k+1:Nat):Int)=k1 at*
     simp[h0,yz,w1,w2,sh,yq,w3,h1',qxf,hi]
   ·have h1':¬(((last/2^(k+1):Nat):Int)>=(n:Int)):=qe
    rw[if_neg (fun c=>h1 c.2)]
    generalize((last/2^(k+1):Nat):Int)=q at*
    generalize((k+1:Nat):Int)=k1 at*
    have h1'':¬((n:Int)<=q):=h1'
    simp[h0,yz,w1,w2,sh,yq,w3,h1'',b4]
  ·have h0':¬((n:Int)>0):=qe
   rw[if_neg (fun c=>h0 c.1)]
   simp[h0,b4]
theorem qcj(n last:Nat)(hn:n<=1000000)(hl:last<4294967296)(hp:Hp):run cxX 128 [.sc (.int .i64 (n:Int)),.sc (.int .u32 (last:Int))] hp=some (.sc (.int .i64 (WS n last:Nat)),hp):=by
 have h:=qof n last hn hl hp 33 0 rfl qe
 rw[E128]
 simp at h
 simp[h,WS]
theorem qn2:∀(l:List Nat),zO l->∀i,i+1<l.length->l.getD i 0<=l.getD (i+1) 0:=by
 intro l
 induction l with
 |nil=>intro _ i h;simp at h
 |cons x r ih=>
  intro hr i h
  cases r with
  |nil=>simp at h
  |cons y r=>
   cases i with
   |zero=>exact hr.1
   |succ i=>exact ih hr.2 i (by simpa using h)
theorem BW.lt{hp:Hp}{w nb:Nat}{bs:List Bool}(h:BW hp w nb bs):nb<hp.next:=by
 by_cases hb:bs=[]
 ·rw[h.2.1 hb];exact h.1
 ·exact(h.2.2.1 hb).1
def W2(h0:Nat)(hp:Hp)(w1 n1:Nat)(b1:List Bool)(w2 n2:Nat)(b2:List Bool):Prop:=
 BW hp w1 n1 b1/\BW hp w2 n2 b2/\w1≠w2/\n1≠w2/\n1≠n2/\w1≠n2/\h0<=w1/\h0<=w2/\h0<=n1/\h0<=n2
theorem W2.one{h0:Nat}{hp hp':Hp}{w1 n1 n1' w2 n2:Nat}{b1 b2 b1':List Bool}(h:W2 h0 hp w1 n1 b1 w2 n2 b2)(s:BS hp w1 n1 hp' n1' b1'):W2 h0 hp' w1 n1' b1' w2 n2 b2/\∀c,c<h0->hp'.get c=hp.get c:=by
 obtain⟨a1,a2,d1,d2,d3,d4,e1,e2,e3,e4⟩:=h
 obtain⟨s1,s2,s3⟩:=s
 have l1:=a1.lt
 have l2:=a2.lt
 have l3:=a2.1
 have l4:=a1.1
 refine⟨⟨s1,a2.fr s2 qi qi,d1,qe,qe,d4,e1,e2,qe,e4⟩,fun c hc=>s2.2 c qe qi⟩
theorem W2.two{h0:Nat}{hp hp':Hp}{w1 n1 n2' w2 n2:Nat}{b1 b2 b2':List Bool}(h:W2 h0 hp w1 n1 b1 w2 n2 b2)(s:BS hp w2 n2 hp' n2' b2'):W2 h0 hp' w1 n1 b1 w2 n2' b2'/\∀c,c<h0->hp'.get c=hp.get c:=by
 obtain⟨a1,a2,d1,d2,d3,d4,e1,e2,e3,e4⟩:=h
 obtain⟨s1,s2,s3⟩:=s
 have l1:=a1.lt
 have l2:=a2.lt
 have l3:=a2.1
 have l4:=a1.1
 refine⟨⟨a1.fr s2 qi qi,s1,d1,d2,qe,qe,e1,e2,e3,qe⟩,fun c hc=>s2.2 c qe qi⟩
theorem qq9{l:List Nat}(h32:∀x∈l,x<4294967296)(i:Nat)(hi:i<l.length):l.getD i 0<4294967296:=by
 rw[znb,zng hi]
 exact h32 _ (znr _)
section
variable (l:List Nat)(k k':Nat)(hl:l.length<=4096)(h32:∀x∈l,x<4294967296)(hr:zO l)
include hl h32 hr
theorem zbo(kk w1 w2 h0:Nat)(hkk:kk<=32)(hq:qI l/2^kk<2*4096)(c0 c1:AV)(cs:List AV)(b2:List AV):∀(r:List Nat) (i p n1 n2:Nat) (bs1 bs2:List Bool) (hp:Hp),l.drop i=r->i+r.length=l.length->zO (p::r)->
 (i=0->p=0)->bs1.length+r.length*32<1000000->bs2.length+(qG kk (p/2^kk) r).length<1000000->W2 h0 hp w1 n1 bs1 w2 n2 bs2->
 ∃hp' n1' n2' v,B114_11 (S k 1 (LI .u32 (nz l))) (.ptr w1 0 0) (.ptr w2 0 0) (.int .u32 ((p/2^kk:Nat):Int)) (S k' 1 (LI .u32 (nz l))) (.int .i64 (l.length:Int)) (.int .i64 (i:Int)) b2 (c0::c1::.sc (.int .i64 (kk:Int))::cs) hp=
  B114_11 (S k 1 (LI .u32 (nz l))) (.ptr w1 0 0) (.ptr w2 0 0) v (S k' 1 (LI .u32 (nz l))) (.int .i64 (l.length:Int)) (.int .i64 (l.length:Int)) b2 (c0::c1::.sc (.int .i64 (kk:Int))::cs) hp'/\
  W2 h0 hp' w1 n1' (bs1++qO kk r) w2 n2' (bs2++qG kk (p/2^kk) r)/\(hp.next<=hp'.next/\∀c,c<h0->hp'.get c=hp.get c):=by
 intro r
 induction r with
 |nil=>
  intro i p n1 n2 bs1 bs2 hp h hil hpr hi0 hb1 hb2 hw
  have e:i=l.length:=by simpa using hil
  rw[e]
  exact⟨hp,n1,n2,_,rfl,by simpa[qO,qG]using hw,znd _,fun _ _=>rfl⟩
 |cons x r ih=>
  intro i p n1 n2 bs1 bs2 hp h hil hpr hi0 hb1 hb2 hw
  obtain⟨e1,e2,hi,e3⟩:=qt h
  simp only[zna]at hb1 hil
  have hlt:(i:Int)<(l.length:Int):=qe
  have ai:=xP .u32 l i hi
  have ex:l.getD i 0=x:=by rw[znb,e1];rfl
  have hx:x<4294967296:=by rw[<-ex];exact qq9 h32 i hi
  rw[ex]at ai
  have hd:p/2^kk<=x/2^kk:=zpp hpr.1
  have hxq:x/2^kk<=x:=zpl _ _
  have sh:=fun t o o'=>xh .u32 x kk (by show kk<=32;omega) t o o' .i64
  have hh:(qG kk (p/2^kk) (x::r)).length=(x/2^kk-p/2^kk)+1+(qG kk (x/2^kk) r).length:=by simp[qG]
  rw[hh]at hb2
  have w1':IntKind.u64.wrap (x:Int)=(x:Int):=qu qe qe
  have w2':IntKind.u32.wrap (((x/2^kk:Nat):Int)-((p/2^kk:Nat):Int))=((x/2^kk-p/2^kk:Nat):Int):=by rw[qK]<;>omega
  have w3':IntKind.i64.wrap ((x/2^kk-p/2^kk:Nat):Int)=((x/2^kk-p/2^kk:Nat):Int):=qm qe qe
  have w5:IntKind.i64.wrap ((i:Int)+1)=((i+1:Nat):Int):=qj
  obtain⟨hp1,m1,a1,a2⟩:=YV w1 n1 x kk bs1 hp qe qe qe hw.1
  obtain⟨hw1,hg1⟩:=hw.one a2
  obtain⟨hp2,m2,b1,b3⟩:=qca w2 n2 (x/2^kk-p/2^kk) bs2 hp1 qe hw1.2.1
  obtain⟨hw2,hg2⟩:=hw1.two b3
  obtain⟨hp3,m3,m4,v,r1,c2,c3⟩:=ih (i+1) x m1 m2 (bs1++ko x kk) (bs2++una (x/2^kk-p/2^kk)) hp2 e2 qe hpr.2 qe qi qi hw2
  have f1:=a2.2.1.1
  have f2:=b3.2.1.1
  refine⟨hp3,m3,m4,v,?_,?_,qe,fun c hc=>by rw[c3.2 c hc,hg2 c hc,hg1 c hc]⟩
  ·have b15:B114_15 (S k 1 (LI .u32 (nz l))) (.ptr w1 0 0) (.ptr w2 0 0) (.int .u32 ((p/2^kk:Nat):Int)) (.int .u32 (x:Int)) (S k' 1 (LI .u32 (nz l))) (.int .i64 (l.length:Int)) (.int .i64 (i:Int)) b2 (c0::c1::.sc (.int .i64 (kk:Int))::cs) hp=
    B114_11 (S k 1 (LI .u32 (nz l))) (.ptr w1 0 0) (.ptr w2 0 0) v (S k' 1 (LI .u32 (nz l))) (.int .i64 (l.length:Int)) (.int .i64 (l.length:Int)) b2 (c0::c1::.sc (.int .i64 (kk:Int))::cs) hp3:=by
    rw[<-r1,qpw]
    generalize((x/2^kk-p/2^kk:Nat):Int)=d at*
    generalize((i+1:Nat):Int)=I at*
    generalize((p/2^kk:Nat):Int)=P at*
    generalize((x/2^kk:Nat):Int)=X at*
    have gs:∀(a b:AV) (v:Value) (c:List AV),ql (a::b::.sc v::c) 2=some v:=fun _ _ _ _=>rfl
    simp[gs,yz,w1',a1,sh,w2',xJ,w3',b1,w5]
   rw[qbi,<-b15]
   have g1:(0:Int)<=(i:Int):=qe
   have gs0:∀(v:Value),ql [.sc v] 0=some v:=fun _=>rfl
   by_cases hi1:i=0
   ·have hi2:(0<i)=False:=by simp[hi1]
    have hi4:(i<l.length)=True:=by simp[hi]
    clear hi1
    generalize((p/2^kk:Nat):Int)=P at*
    have en:∀h,(nz l)[i]'h=(x:Int):=fun h=>by simp[nz,e3]
    simp[hi4,ai,gs0,hi2,en]
   ·have aj:=xP .u32 l (i-1) qe
    have hle:=qn2 l hr (i-1) qe
    have e:i-1+1=i:=qe
    rw[e,ex]at hle
    have w9:IntKind.i64.wrap ((i:Int)-1)=((i-1:Nat):Int):=qj
    have hi2:0<i:=qe
    have g0:(0:Int)<=((i-1:Nat):Int):=qe
    generalize l.getD (i-1) 0=y at*
    have hle':¬((x:Int)<(y:Int)):=qe
    have aj':(LI .u32 (nz l))[(((i-1:Nat):Int)).toNat]?=some (.sc (.int .u32 (y:Int))):=by rw[znj];exact aj
    generalize((i-1:Nat):Int)=j at*
    generalize((p/2^kk:Nat):Int)=P at*
    simp[hlt,ai,gs0,hi2,w9,aj',g0,hle']
  ·have q1:bs1++qO kk (x::r)=bs1++ko x kk++qO kk r:=by simp[qO]
   have q2:bs2++qG kk (p/2^kk) (x::r)=bs2++una (x/2^kk-p/2^kk)++qG kk (x/2^kk) r:=by simp[qG]
   rw[q1,q2]
   exact c2
end
def wg(l:List Nat)(t1 t2:Nat):AV:=.agg [.sc (.int .i64 (l.length:Nat)),.sc (.int .u32 (qI l:Nat)),.sc (.int .i64 (qA l:Nat)),S t1 1 (LI .u8 (pk (qO (qA l) l))),S t2 1 (LI .u8 (pk (qG (qA l) 0 l)))]
theorem zbu:qA []=0:=rfl
section
variable (l:List Nat)(k:Nat)(hl:l.length<=4096)(h32:∀x∈l,x<4294967296)(hr:zO l)
include hl h32 hr
theorem xW(hne:l≠[]):qA l<=32/\qI l<4294967296/\(qG (qA l) 0 l).length<=3*4096:=by
 have hpos:=zou.mpr hne
 have hlast:qI l<4294967296:=qq9 h32 _ qe
 have h1:=qqv l.length (qI l) hlast
 have h2:=ZU hpos hlast
 have h3:=WU (qA l) l hr
 have h4:qA l=WS l.length (qI l):=rfl
 rw[h4]at h3⊢
 exact⟨h1,hlast,qe⟩
theorem qqa(hp:Hp):∃t1 t2 hp',run cxX 114 [S k 1 (LI .u32 (nz l))] hp=some (.tup [wg l t1 t2,.sc (.int .i64 0)],hp')/\Fm [] hp hp':=by
 by_cases hne:l=[]
 ·subst hne
  refine⟨2,2,hp,?_,Fm.refl _ _⟩
  rw[E114]
  simp[wg,zbu,nz,LI,qO,qG,qzt,qI]
 ·obtain⟨k32,hlast,hhb⟩:=xW l hl h32 hr hne
  have hpos:=zou.mpr hne
  have hlow:=qcj l.length (qI l) qe hlast hp0
  have e4:WS l.length (qI l)=qA l:=rfl
  rw[e4]at hlow
  have hq:=ZU hpos hlast
  rw[e4]at hq
  have w1:IntKind.i64.wrap ((l.length:Int)-1)=((l.length-1:Nat):Int):=qj
  have al:=xP .u32 l (l.length-1) qe
  have e5:l.getD (l.length-1) 0=qI l:=rfl
  rw[e5]at al
  let hpA:=(hp.new [S 2 1 [],.sc (.int .i64 0)]).new [S 2 1 [],.sc (.int .i64 0)]
  have b1:BW hpA hp.next hp.next []:=(BW.new hp).fr (Fm.new [] _ _) qg qg
  have b2:BW hpA (hp.next+1) (hp.next+1) []:=BW.new (hp.new [S 2 1 [],.sc (.int .i64 0)])
  have hw:W2 hp.next hpA hp.next hp.next [] (hp.next+1) (hp.next+1) []:=⟨b1,b2,qe,qe,qe,qe,qe,qe,qe,qe⟩
  have hnA:hpA.next=hp.next+1+1:=rfl
  obtain⟨hp1,n1,n2,v,c1,c2,c3⟩:=zbo l k (rk k) hl h32 hr (qA l) hp.next (hp.next+1) hp.next k32 qe (.sc (.int .i64 (l.length:Int))) (.sc (.int .u32 (qI l:Nat))) [S 2 1 [],S 2 1 []]
   [.sc (.int .i64 0),.sc (.int .u32 0),.sc (.int .i64 0),S 2 1 [],S 2 1 []] l 0 0 hp.next (hp.next+1) [] [] hpA rfl qg (jI hr) (fun _=>rfl) qi (by rw[zq3];simp;omega) hw
  simp only[zq3,zn4]at c1 c2
  obtain⟨t1,hp2,d1,d2⟩:=QS hp.next n1 (qO (qA l) l) hp1 (by simp;have:l.length*qA l<=4096*32:=zn5 hl k32;omega) c2.1
  obtain⟨t2,hp3,f1,f2⟩:=QS (hp.next+1) n2 (qG (qA l) 0 l) hp2 qe (c2.2.1.fr d2 qg qg)
  have hnx:hp.next<=hp3.next:=by have:=d2.1;have:=f2.1;have:=c3.1;omega
  refine⟨t1,t2,hp3,?_,hnx,fun c hc _=>?_⟩
  ·have b11:B114_11 (S k 1 (LI .u32 (nz l))) (.ptr hp.next 0 0) (.ptr (hp.next+1) 0 0) v (S (rk k) 1 (LI .u32 (nz l))) (.int .i64 (l.length:Int)) (.int .i64 (l.length:Int))
    [.sc (.int .i64 0),.sc (.int .u32 0),.sc (.int .i64 0),S 2 1 [],S 2 1 []] [.sc (.int .i64 (l.length:Int)),.sc (.int .u32 (qI l:Nat)),.sc (.int .i64 (qA l:Nat)),S 2 1 [],S 2 1 []] hp1=some (.tup [wg l t1 t2,.sc (.int .i64 0)],hp3):=by
    rw[qbi]
    unfold wg
    generalize pk (qO (qA l) l)=A at*
    generalize pk (qG (qA l) 0 l)=B at*
    simp[d1,f1,qo,qp]
   rw[<-c1]at b11
   have h1:¬((l.length:Int)>4096):=qe
   have h2:¬((l.length:Int)=0):=qe
   have g0:(0:Int)<=((l.length-1:Nat):Int):=qe
   have al':(nz l)[(((l.length-1:Nat):Int)).toNat]?=some ((qI l:Nat):Int):=by
    rw[znj];unfold nz qI
    rw[znt,znb,zng qe];rfl
   have gs0:∀(v:Value),ql [.sc v] 0=some v:=fun _=>rfl
   have gs1:∀(x:AV) (v:Value) (r:List AV),ql (x::.sc v::r) 1=some v:=fun _ _ _=>rfl
   have h1':¬((4096:Int)<(l.length:Int)):=qe
   rw[E114]
   generalize((l.length-1:Nat):Int)=j at*
   generalize wg l t1 t2=FR at*
   simp at b11
   simp[h1',hne,w1,al',g0,gs0,gs1,hlow]
   exact b11
  ·rw[f2.2 c (by have:=d2.1;have:=c3.1;omega) qg,d2.2 c (by have:=c3.1;omega) qg,c3.2 c hc]
   show((hp.new _).new _).get c=_
   have e1:c≠hp.next:=qe
   have e2:c≠hp.next+1:=qe
   simp[Hp.new,e1,e2]
theorem qy0(w t1 t2:Nat)(Z:List Int)(hZ:Z.length+(zE l).length<=1000000)(hp:Hp)(h:hp.rd w 0=some (Wc Z)):
 run cxX 115 [wg l t1 t2,.ptr w 0 0] hp=some (.tup [],hp.put w 0 (Wc (Z++zE l))):=by
 have hlast:qI l<4294967296:=by
  by_cases hne:l=[]
  ·subst hne;show(0:Nat)<_;omega
  ·exact(xW l hl h32 hr hne).2.1
 unfold wg
 have eY:zE l=uv l.length++uv (qI l)++pk (qO (qA l) l)++uv (pk (qG (qA l) 0 l)).length++pk (qG (qA l) 0 l):=rfl
 rw[eY]at hZ⊢
 generalize pk (qO (qA l) l)=A at*
 generalize pk (qG (qA l) 0 l)=B at*
 simp only[zm9]at hZ
 have u1:=zY w l.length Z qe qe hp h
 have u2:=zY w (qI l) (Z++uv l.length) qe (by simp only[zm9];omega) _ (qr hp w (Wc (Z++uv l.length)))
 rw[qC]at u2
 have u3:=Qi w (Z++uv l.length++uv (qI l)) A (rk t1) (by simp only[zm9];omega) _ (qr hp w _)
 rw[qC]at u3
 have u4:=zY w B.length (Z++uv l.length++uv (qI l)++A) qe (by simp only[zm9];omega) _ (qr hp w _)
 rw[qC]at u4
 have u5:=Qi w (Z++uv l.length++uv (qI l)++A++uv B.length) B (rk t2) (by simp only[zm9];omega) _ (qr hp w _)
 rw[qC]at u5
 have w1:IntKind.u64.wrap (l.length:Int)=(l.length:Int):=qu qe qe
 have w2:IntKind.u64.wrap ((qI l:Nat):Int)=((qI l:Nat):Int):=qu qe qe
 have w3:IntKind.u64.wrap (B.length:Int)=(B.length:Int):=qu qe qe
 have eZ:Z++(uv l.length++uv (qI l)++A++uv B.length++B)=Z++uv l.length++uv (qI l)++A++uv B.length++B:=by simp only[znv]
 rw[eZ]
 generalize Z++uv l.length++uv (qI l)++A++uv B.length++B=Z5 at*
 generalize Z++uv l.length++uv (qI l)++A++uv B.length=Z4 at*
 generalize Z++uv l.length++uv (qI l)++A=Z3 at*
 generalize Z++uv l.length++uv (qI l)=Z2 at*
 generalize Z++uv l.length=Z1 at*
 have gs1:∀(x:AV) (v:Value) (r:List AV),ql (x::.sc v::r) 1=some v:=fun _ _ _=>rfl
 have gs0:∀(v:Value) (r:List AV),ql (.sc v::r) 0=some v:=fun _ _=>rfl
 rw[E115]
 simp[gs0,gs1,qs,yq,w1,u1,yz,w2,u2,u3,w3,u4,u5]
end
theorem qdv(x c:Nat)(hx:x<18446744073709551616)(hc:c<18446744073709551616)(t:TypeId)(o o':Operand):qy Tryz.prog .and t o o' (.int .u64 (x:Int)) (.int .u64 (c:Int))=some (.int .u64 ((x&&&c:Nat):Int)):=by
 rw[zk]
 have hl:x&&&c<=x:=Nat.and_le_left
 have e:(BitVec.ofInt IntKind.u64.bits (x:Int)&&&BitVec.ofInt IntKind.u64.bits (c:Int)).toNat=x&&&c:=by
  show(BitVec.ofInt 64 (x:Int)&&&BitVec.ofInt 64 (c:Int)).toNat=_
  rw[zo6,zo6,zp8,zo5,zo5]
  rw[zoq qe,zoq qe]
 rw[e,qu qe qe]
theorem zmk(x:Nat)(hx:x<18446744073709551616):f1 8 x<18446744073709551616:=by
 unfold f1
 have e:mkB 85 8=6148914691236517205:=qh
 rw[e]
 have h1:(x/2)&&&6148914691236517205<=6148914691236517205:=zrc
 have h2:x&&&6148914691236517205<=6148914691236517205:=zrc
 omega
theorem zmj(x:Nat):f2 8 x<7378697629483820647:=by
 unfold f2
 have e:mkB 51 8=3689348814741910323:=qh
 rw[e]
 have h1:(x/4)&&&3689348814741910323<=3689348814741910323:=zrc
 have h2:x&&&3689348814741910323<=3689348814741910323:=zrc
 omega
theorem zg7(r:Nat)(hr:r<9223372036854775808)(t:TypeId)(o o':Operand):qy Tryz.prog .and t o o' (.int .i64 (r:Int)) (.int .i64 127)=some (.int .i64 ((r%128:Nat):Int)):=by
 rw[zk]
 have e9:(BitVec.ofInt IntKind.i64.bits (r:Int)&&&BitVec.ofInt IntKind.i64.bits ((127:Nat):Int)).toNat=r%128:=by
  show(BitVec.ofInt 64 (r:Int)&&&BitVec.ofInt 64 ((127:Nat):Int)).toNat=_
  rw[zo6,zo6,zp8,zo5,zo5,zoq (show r<2^64 by omega),zoq (show 127<2^64 by omega)]
  exact zp6 r 7
 have i127:((127:Nat):Int)=127:=rfl
 rw[i127]at e9
 rw[e9,qm qe qe]
theorem qzm(x:Nat)(hx:x<18446744073709551616):∃y z q d e r:Nat,(x/2&&&6148914691236517205)+(x&&&6148914691236517205)=y/\y<18446744073709551616/\
 (y/4&&&3689348814741910323)+(y&&&3689348814741910323)=z/\z<7378697629483820647/\(z/16+z)&&&1085102592571150095=q/\q<651061555542690057/\q+q/256=d/\d+d/65536=e/\e+e/4294967296=r/\r<9223372036854775808/\r%128=zx x 64:=by
 have m1:mkB 85 8=6148914691236517205:=qh
 have m2:mkB 51 8=3689348814741910323:=qh
 have m3:mkB 15 8=1085102592571150095:=qh
 have h1:=zmk x hx
 have h2:=zmj (f1 8 x)
 have h3:=zjy 8 x (znu hx qh)
 have cb:∀y,zx y 8<=8:=fun y=>vF y 8
 have hc:cB x 8=((((((zx (x/256/256/256/256/256/256/256%256) 8*256+zx (x/256/256/256/256/256/256%256) 8)*256+zx (x/256/256/256/256/256%256) 8)*256+zx (x/256/256/256/256%256) 8)*256+
  zx (x/256/256/256%256) 8)*256+zx (x/256/256%256) 8)*256+zx (x/256%256) 8)*256+zx (x%256) 8:=by
  simp only[cB,zqb,znk]
 obtain⟨p1,d,hd,e,he,p2,p3⟩:=qzn _ _ _ _ _ _ _ _ _ (cb _) (cb _) (cb _) (cb _) (cb _) (cb _) (cb _) (cb _) hc
 rw[<-qtj]at p3
 refine⟨f1 8 x,f2 8 (f1 8 x),cB x 8,d,e,_,?_,h1,?_,h2,?_,p1,hd.symm,he.symm,rfl,p2,p3⟩
 ·rw[<-m1];rfl
 ·rw[<-m2];rfl
 ·rw[<-h3,<-m3];rfl
noncomputable def zae(k1 k2 k4 k8 k16 k32 c85 c51 c15 k127:Int)(a0:AV)(hp:Hp):Option (AV×Hp):=aS a0 fun y0=>bC .shr 62 3 y0 (.int .u64 k1) fun y1=>bC .and 62 4 y1 (.int .u64 c85) fun y2=>bC .and 62 6 y0 (.int .u64 c85) fun y3=>bT .add 62 5 7 y2 y3 fun y4=>bC .shr 62 9 y4 (.int .u64 k2) fun y5=>bC .and 62 10 y5 (.int .u64 c51) fun y6=>bC .and 62 12 y4 (.int .u64 c51) fun y7=>bT .add 62 11 13 y6 y7 fun y8=>bC .shr 62 15 y8 (.int .u64 k4) fun y9=>bT .add 62 16 17 y9 y8 fun y10=>bC .and 62 18 y10 (.int .u64 c15) fun y11=>bC .shr 62 21 y11 (.int .u64 k8) fun y12=>bT .add 62 20 22 y11 y12 fun y13=>bC .shr 62 25 y13 (.int .u64 k16) fun y14=>bT .add 62 24 26 y13 y14 fun y15=>bC .shr 62 29 y15 (.int .u64 k32) fun y16=>bT .add 62 28 30 y15 y16 fun y17=>cV 62 3 y17 fun y18=>bC .and 3 33 y18 (.int .i64 k127) fun y19=>rQ (.sc y19) hp
theorem zfp(a0:AV)(hp:Hp):run cxX 178 [a0] hp=zae (.ofNat 1) (.ofNat 2) (.ofNat 4) (.ofNat 8) (.ofNat 16) (.ofNat 32) (.ofNat 6148914691236517205) (.ofNat 3689348814741910323) (.ofNat 1085102592571150095) (.ofNat 127) a0 hp:=by
 delta zae
 have h:=E178 a0 hp
 with_reducible exact h
theorem YR(x:Nat)(hx:x<18446744073709551616)(hp:Hp):run cxX 178 [.sc (.int .u64 (x:Int))] hp=some (.sc (.int .i64 (zx x 64:Nat)),hp):=by
 obtain⟨y,z,q,d,e,r,h1,b1,h2,b2,h3,b3,h4,h5,h6,b6,h7⟩:=qzm x hx
 have k64:∀n:Nat,n<=64->n<=IntKind.u64.bits:=fun n h=>h
 have s1:=fun t o o'=>xh .u64 x 1 (k64 1 qe) t o o' .u64
 have a1:=qdv (x/2^1) 6148914691236517205 qe qe
 have a2:=qdv x 6148914691236517205 hx qe
 have s2:=fun t o o'=>xh .u64 y 2 (k64 2 qe) t o o' .u64
 have a3:=qdv (y/2^2) 3689348814741910323 qe qe
 have a4:=qdv y 3689348814741910323 b1 qe
 have s3:=fun t o o'=>xh .u64 z 4 (k64 4 qe) t o o' .u64
 have a5:=qdv (z/2^4+z) 1085102592571150095 qe qe
 have s4:=fun t o o'=>xh .u64 q 8 (k64 8 qe) t o o' .u64
 have s5:=fun t o o'=>xh .u64 d 16 (k64 16 qe) t o o' .u64
 have s6:=fun t o o'=>xh .u64 e 32 (k64 32 qe) t o o' .u64
 have a7:=zg7 r b6
 rw[h7]at a7
 have d1:x/2^1=x/2:=qe
 have d2:y/2^2=y/4:=qe
 have d3:z/2^4=z/16:=qe
 have d4:q/2^8=q/256:=qe
 have d5:d/2^16=d/65536:=qe
 have d6:e/2^32=e/4294967296:=qe
 rw[d1]at s1 a1
 rw[d2]at s2 a3
 rw[d3]at s3 a5
 rw[d4]at s4
 rw[d5]at s5
 rw[d6]at s6
 rw[h3]at a5
 generalize(x/2&&&6148914691236517205)=u1 at*
 generalize(x&&&6148914691236517205)=u2 at*
 generalize(y/4&&&3689348814741910323)=u3 at*
 generalize(y&&&3689348814741910323)=u4 at*
 have w1:IntKind.u64.wrap ((u1:Int)+(u2:Int))=(y:Int):=by rw[qu]<;>omega
 have w2:IntKind.u64.wrap ((u3:Int)+(u4:Int))=(z:Int):=by rw[qu]<;>omega
 have w3:IntKind.u64.wrap (((z/16:Nat):Int)+(z:Int))=((z/16+z:Nat):Int):=by rw[qu]<;>omega
 have w4:IntKind.u64.wrap ((q:Int)+((q/256:Nat):Int))=(d:Int):=by rw[qu]<;>omega
 have w5:IntKind.u64.wrap ((d:Int)+((d/65536:Nat):Int))=(e:Int):=by rw[qu]<;>omega
 have w6:IntKind.u64.wrap ((e:Int)+((e/4294967296:Nat):Int))=(r:Int):=by rw[qu]<;>omega
 have w7:IntKind.i64.wrap (r:Int)=(r:Int):=qm qe qe
 have S1:∀t o o',qy Tryz.prog .shr t o o' (.int .u64 (x:Int)) (.int .u64 (Int.ofNat 1))=some (.int .u64 ((x/2:Nat):Int)):=s1
 have A1:∀t o o',qy Tryz.prog .and t o o' (.int .u64 ((x/2:Nat):Int)) (.int .u64 (Int.ofNat 6148914691236517205))=some (.int .u64 (u1:Int)):=a1
 have A2:∀t o o',qy Tryz.prog .and t o o' (.int .u64 (x:Int)) (.int .u64 (Int.ofNat 6148914691236517205))=some (.int .u64 (u2:Int)):=a2
 have S2:∀t o o',qy Tryz.prog .shr t o o' (.int .u64 (y:Int)) (.int .u64 (Int.ofNat 2))=some (.int .u64 ((y/4:Nat):Int)):=s2
 have A3:∀t o o',qy Tryz.prog .and t o o' (.int .u64 ((y/4:Nat):Int)) (.int .u64 (Int.ofNat 3689348814741910323))=some (.int .u64 (u3:Int)):=a3
 have A4:∀t o o',qy Tryz.prog .and t o o' (.int .u64 (y:Int)) (.int .u64 (Int.ofNat 3689348814741910323))=some (.int .u64 (u4:Int)):=a4
 have S3:∀t o o',qy Tryz.prog .shr t o o' (.int .u64 (z:Int)) (.int .u64 (Int.ofNat 4))=some (.int .u64 ((z/16:Nat):Int)):=s3
 have A5:∀t o o',qy Tryz.prog .and t o o' (.int .u64 ((z/16+z:Nat):Int)) (.int .u64 (Int.ofNat 1085102592571150095))=some (.int .u64 (q:Int)):=a5
 have S4:∀t o o',qy Tryz.prog .shr t o o' (.int .u64 (q:Int)) (.int .u64 (Int.ofNat 8))=some (.int .u64 ((q/256:Nat):Int)):=s4
 have S5:∀t o o',qy Tryz.prog .shr t o o' (.int .u64 (d:Int)) (.int .u64 (Int.ofNat 16))=some (.int .u64 ((d/65536:Nat):Int)):=s5
 have S6:∀t o o',qy Tryz.prog .shr t o o' (.int .u64 (e:Int)) (.int .u64 (Int.ofNat 32))=some (.int .u64 ((e/4294967296:Nat):Int)):=s6
 have A7:∀t o o',qy Tryz.prog .and t o o' (.int .i64 (r:Int)) (.int .i64 (Int.ofNat 127))=some (.int .i64 ((zx x 64:Nat):Int)):=a7
 rw[zfp]
 clear s1 s2 s3 s4 s5 s6 a1 a2 a3 a4 a5 a7 h1 h2 h3
 generalize Int.ofNat 6148914691236517205=c85 at*
 generalize Int.ofNat 3689348814741910323=c51 at*
 generalize Int.ofNat 1085102592571150095=c15 at*
 unfold zae
 simp only[YE]
 rw[vi,znc,S1,znc,A1,znc,A2,znc,yi,w1,znc,S2,znc,A3,znc,A4,znc,yi,w2,znc,S3,znc,yi,w3,znc,A5,znc,S4,znc,yi,w4,znc,S5,znc,yi,w5,znc,S6,znc,yi,w6,znc,xI,w7,znc,A7,znc]
def zX(m j:Nat):Nat:=m/2^(64*j)%18446744073709551616
theorem QI(m j:Nat):zX m j<18446744073709551616:=zqa _ qh
theorem zdz(m i:Nat):(zX m (i/64)).testBit (i%64)=m.testBit i:=by
 unfold zX
 have e:(18446744073709551616:Nat)=2^64:=rfl
 rw[e,znn,zob]
 have h:i%64<64:=zqa _ qh
 have e2:i%64+64*(i/64)=i:=qe
 simp only[h,decide_true,zqy]
 rw[e2]
abbrev Cc(c:Nat×Nat):List AV:=[.sc (.int .u32 (c.1:Int)),.sc (.int .u64 (zX c.2 0:Nat)),.sc (.int .u64 (zX c.2 1:Nat)),.sc (.int .u64 (zX c.2 2:Nat)),.sc (.int .u64 (zX c.2 3:Nat))]
theorem Qr(c:Nat×Nat)(j:Nat)(hj:j<4):ql (Cc c) (Nat.add 1 (Nat.add 0 j))=some (.int .u64 (zX c.2 j:Nat)):=by
 have:j=0\/j=1\/j=2\/j=3:=qe
 rcases this with e|e|e|e<;>subst e<;>rfl
theorem zcn:∀x:BitVec 8,(x&&&63#8).toNat=x.toNat%64:=qh
theorem zhx(c:Nat)(hc:c<256)(t:TypeId)(x y:Operand):qy Tryz.prog .and t x y (.int .u8 (c:Int)) (.int .u8 63)=some (.int .u8 ((c%64:Nat):Int)):=by
 rw[zk]
 have e1:(BitVec.ofInt 8 (c:Int)).toNat=c:=by
  rw[znx];omega
 have e2:(BitVec.ofInt IntKind.u8.bits (c:Int)&&&BitVec.ofInt IntKind.u8.bits 63).toNat=c%64:=by
  show(BitVec.ofInt 8 (c:Int)&&&63#8).toNat=_
  rw[zcn,e1]
 rw[e2,zB qe qe]
theorem ZH(c:Nat×Nat)(i:Nat)(hi:i<256)(hp:Hp):run cxX 122 [.agg (Cc c),.sc (.int .u8 (i:Int))] hp=some (.sc (.bool (c.2.testBit i)),hp):=by
 have s1:∀t o o',qy Tryz.prog .shr t o o' (.int .u8 (i:Int)) (.int .u64 6)=some (.int .u8 ((i/64:Nat):Int)):=fun t o o'=>xh .u8 i 6 qh t o o' .u64
 have ix:idx 4 (.int .u8 ((i/64:Nat):Int))=some (i/64):=zr .u8 qe
 have g:=Qr c (i/64) qe
 have a:=zhx i hi
 have s2:=fun t o o'=>xh .u64 (zX c.2 (i/64)) (i%64) (by show i%64<=64;omega) t o o' .u8
 have a2:=zkp (zX c.2 (i/64)/2^(i%64)) (zow (zpl _ _) (QI _ _))
 have tb:=zdz c.2 i
 rw[zpd]at tb
 rw[<-tb,E122]
 generalize zX c.2 (i/64)/2^(i%64)%2=q at*
 generalize((zX c.2 (i/64)/2^(i%64):Nat):Int)=q1 at*
 generalize((i%64:Nat):Int)=q2 at*
 generalize hq3:((i/64:Nat):Int)=q3 at*
 have cn:qn 5 (.agg (Cc c))=some (Cc c):=rfl
 have eqq:decide ((q:Int)=1)=decide (q=1):=by
  by_cases h:q=1
  ·simp[h]
  ·rw[decide_eq_false h,decide_eq_false qe]
 have mr:List.map ro1 (Cc c)=Cc c:=rfl
 have g':ql (Cc c) (1+i/64)=some (.int .u64 (zX c.2 (i/64):Nat)):=by have:=g;simpa using this
 simp only[YE,cn,mr,znc,vi]
 simp[s1,ix,g',a,s2,a2,-zk]
 omega
theorem qzw(m:Nat):zx m 256=zx (zX m 0) 64+zx (zX m 1) 64+zx (zX m 2) 64+zx (zX m 3) 64:=by
 have h:∀j,zx (zX m j) 64=zx (m/2^(64*j)) 64:=fun j=>qqh _ 64 64 (znd _)
 have a:=Jx m 192 64
 have b:=Jx m 128 64
 have c:=Jx m 64 64
 have e0:m/2^(64*0)=m:=qg
 rw[h,h,h,h,e0]
 have e1:192+64=256:=rfl
 have e2:128+64=192:=rfl
 have e3:64+64=128:=rfl
 rw[e1]at a
 rw[e2]at b
 rw[e3]at c
 rw[a,b,c]
theorem ixw(a b c d:Int):ixV Tryz.prog 174 (.agg #[.int .u64 a,.int .u64 b,.int .u64 c,.int .u64 d]) (.int .i64 0)=some (.int .u64 a)
 /\ixV Tryz.prog 174 (.agg #[.int .u64 a,.int .u64 b,.int .u64 c,.int .u64 d]) (.int .i64 1)=some (.int .u64 b)
 /\ixV Tryz.prog 174 (.agg #[.int .u64 a,.int .u64 b,.int .u64 c,.int .u64 d]) (.int .i64 2)=some (.int .u64 c)
 /\ixV Tryz.prog 174 (.agg #[.int .u64 a,.int .u64 b,.int .u64 c,.int .u64 d]) (.int .i64 3)=some (.int .u64 d):=⟨qf,qf,qf,qf⟩
theorem Qj(c:Nat×Nat)(hp:Hp):run cxX 121 [.agg (Cc c)] hp=some (.sc (.int .i64 (zx c.2 256:Nat)),hp):=by
 have o0:=YR (zX c.2 0) (QI _ _) hp0
 have o1:=YR (zX c.2 1) (QI _ _) hp0
 have o2:=YR (zX c.2 2) (QI _ _) hp0
 have o3:=YR (zX c.2 3) (QI _ _) hp0
 have l0:=vF (zX c.2 0) 64
 have l1:=vF (zX c.2 1) 64
 have l2:=vF (zX c.2 2) 64
 have l3:=vF (zX c.2 3) 64
 obtain⟨i0,i1,i2,i3⟩:=ixw (zX c.2 0:Nat) (zX c.2 1:Nat) (zX c.2 2:Nat) (zX c.2 3:Nat)
 rw[qzw,E121]
 generalize zx (zX c.2 0) 64=n0 at*
 generalize zx (zX c.2 1) 64=n1 at*
 generalize zx (zX c.2 2) 64=n2 at*
 generalize zx (zX c.2 3) 64=n3 at*
 have w0:IntKind.i64.wrap (0+(n0:Int))=(n0:Int):=qj
 have w1:IntKind.i64.wrap ((n0:Int)+(n1:Int))=(n0:Int)+(n1:Int):=qj
 have w2:IntKind.i64.wrap ((n0:Int)+(n1:Int)+(n2:Int))=(n0:Int)+(n1:Int)+(n2:Int):=qj
 have w3:IntKind.i64.wrap ((n0:Int)+(n1:Int)+(n2:Int)+(n3:Int))=((n0+n1+n2+n3:Nat):Int):=qj
 have w00:IntKind.i64.wrap (n0:Int)=(n0:Int):=qj
 have cn:qn 5 (.agg (Cc c))=some (Cc c):=rfl
 have gn:qp (Cc c) 1 4=some [.sc (.int .u64 (zX c.2 0:Nat)),.sc (.int .u64 (zX c.2 1:Nat)),.sc (.int .u64 (zX c.2 2:Nat)),.sc (.int .u64 (zX c.2 3:Nat))]:=rfl
 have ca:∀a b c d:Int,xQ (.agg [.sc (.int .u64 a),.sc (.int .u64 b),.sc (.int .u64 c),.sc (.int .u64 d)])=some (.agg #[.int .u64 a,.int .u64 b,.int .u64 c,.int .u64 d]):=fun _ _ _ _=>rfl
 generalize((n0+n1+n2+n3:Nat):Int)=N at*
 have b4:B121_3 (.int .i64 N) (.agg [.sc (.int .u64 (zX c.2 0:Nat)),.sc (.int .u64 (zX c.2 1:Nat)),.sc (.int .u64 (zX c.2 2:Nat)),.sc (.int .u64 (zX c.2 3:Nat))]) (.int .i64 4) hp=some (.sc (.int .i64 N),hp):=by
  rw[QG];simp
 generalize((zX c.2 0:Nat):Int)=x0 at*
 generalize((zX c.2 1:Nat):Int)=x1 at*
 generalize((zX c.2 2:Nat):Int)=x2 at*
 generalize((zX c.2 3:Nat):Int)=x3 at*
 have mr:List.map ro1 (Cc c)=Cc c:=rfl
 simp only[YE,cn,mr,gn,znc]
 simp
 rw[QG]
 simp[ca,i0,o0,w00]
 rw[QG]
 simp[ca,i1,o1,w1]
 rw[QG]
 simp[ca,i2,o2,w2]
 rw[QG]
 simp[ca,i3,o3,w3,b4]
theorem qsd(c:Nat×Nat)(hp:Hp):∀(f i:Nat),i+f=256->B190_4 (.int .i64 (jD c.2 i:Nat)) (.bool (decide (0<i)&&c.2.testBit (i-1))) (.int .i64 (i:Int)) (Cc c) hp=some (.sc (.int .i64 (jD c.2 256:Nat)),hp):=by
 intro f
 induction f with
 |zero=>
  intro i h
  have e:i=256:=qe
  subst e
  rw[qed]
  simp
 |succ f ih=>
  intro i h
  have hi:=ih (i+1) qe
  have hh:=ZH c i qe hp0
  have w1:IntKind.u8.wrap (i:Int)=(i:Int):=zB qe qe
  have w2:IntKind.i64.wrap ((i:Int)+1)=((i+1:Nat):Int):=qj
  have gn:qp (Cc c) 0 5=some (Cc c):=rfl
  have hlt:(i:Int)<256:=qe
  have hr:=Yn c.2 i
  have hr2:=vF c.2 i
  have e1:jD c.2 (i+1)=jD c.2 i+(c.2.testBit i&&!(decide (0<i)&&c.2.testBit (i-1))).toNat:=rfl
  have e2:(decide (0<i+1)&&c.2.testBit (i+1-1))=c.2.testBit i:=qg
  rw[e1,e2]at hi
  have b9:∀n:Int,B190_9 (.int .i64 n) (.bool (c.2.testBit i)) (.int .i64 (i:Int)) (Cc c) hp=B190_4 (.int .i64 n) (.bool (c.2.testBit i)) (.int .i64 ((i+1:Nat):Int)) (Cc c) hp:=by
   intro n
   rw[qwc]
   generalize((i+1:Nat):Int)=I at*
   simp[w2]
  have w3:IntKind.i64.wrap ((jD c.2 i:Int)+1)=((jD c.2 i+1:Nat):Int):=qj
  have mr:List.map ro1 (Cc c)=Cc c:=rfl
  rw[qed]
  generalize jD c.2 i=R at*
  generalize(decide (0<i)&&c.2.testBit (i-1))=was at*
  generalize hI:((i+1:Nat):Int)=I at*
  cases hb:c.2.testBit i
  ·rw[hb]at hi hh b9
   have hi':B190_4 (.int .i64 (R:Nat)) (.bool false) (.int .i64 I) (Cc c) hp=some (.sc (.int .i64 (jD c.2 256:Nat)),hp):=hi
   simp[hlt,gn,mr,ym,w1,hh,b9,hi']
  ·rw[hb]at hi hh b9
   cases was
   ·have hi':B190_4 (.int .i64 ((R+1:Nat):Int)) (.bool true) (.int .i64 I) (Cc c) hp=some (.sc (.int .i64 (jD c.2 256:Nat)),hp):=hi
    generalize((R+1:Nat):Int)=R1 at*
    simp[hlt,gn,mr,ym,w1,hh,qwd,w3,b9,hi']
   ·have hi':B190_4 (.int .i64 (R:Nat)) (.bool true) (.int .i64 I) (Cc c) hp=some (.sc (.int .i64 (jD c.2 256:Nat)),hp):=hi
    simp[hlt,gn,mr,ym,w1,hh,b9,hi']
theorem qid(c:Nat×Nat)(hp:Hp):run cxX 190 [.agg (Cc c)] hp=some (.sc (.int .i64 (jD c.2 256:Nat)),hp):=by
 have h:=qsd c hp 256 0 rfl
 have e:(decide (0<0)&&c.2.testBit (0-1))=false:=rfl
 rw[e]at h
 have e2:jD c.2 0=0:=rfl
 rw[e2]at h
 rw[E190]
 have cn:qn 5 (.agg (Cc c))=some (Cc c):=rfl
 have mr:List.map ro1 (Cc c)=Cc c:=rfl
 simp only[YE,cn,mr,znc]
 exact h
theorem qi3(c:Nat×Nat)(hp:Hp):run cxX 177 [.agg (Cc c)] hp=some (.sc (.int .u8 (kind c.2:Nat)),hp):=by
 have m:=Qj c hp0
 have r:=qid c hp0
 have h1:=vF c.2 256
 have h2:=Yn c.2 256
 have cn:qn 5 (.agg (Cc c))=some (Cc c):=rfl
 have gn:qp (Cc c) 0 5=some (Cc c):=rfl
 have mr:List.map ro1 (Cc c)=Cc c:=rfl
 rw[E177]
 unfold kind
 generalize zx c.2 256=n at*
 generalize jD c.2 256=k at*
 obtain⟨A,hA⟩:∃A:Int,A=(n:Int)+1:=⟨_,rfl⟩
 obtain⟨T,hT⟩:∃T:Int,T=2*(k:Int):=⟨_,rfl⟩
 obtain⟨B,hB⟩:∃B:Int,B=2*(k:Int)+1:=⟨_,rfl⟩
 have w1:IntKind.i64.wrap ((n:Int)+1)=A:=qj
 have w2:IntKind.i64.wrap (2*(k:Int))=T:=qj
 have w3:IntKind.i64.wrap (T+1)=B:=qj
 have b3:B177_3 hp=some (.sc (.int .u8 0),hp):=by rw[qwk];simp
 have b4:B177_4 (.int .i64 B) hp=some (.sc (.int .u8 ((if 32<=2*k+1 then 1 else 2:Nat):Int)),hp):=by
  rw[qwj]
  by_cases h:32<=2*k+1
  ·have h':(32:Int)<=B:=qe
   rw[if_pos h]
   simp[h']
  ·have h':¬((32:Int)<=B):=qe
   rw[if_neg h]
   simp[h']
 by_cases d1:n+1<=32
 ·have c1:A<=32:=qe
  by_cases d2:n+1<=2*k+1
  ·have c2:A<=B:=qe
   rw[if_pos ⟨d1,d2⟩]
   simp[mr,gn,m,w1,r,w2,w3,c1,c2,b3]
  ·have c2:¬(A<=B):=qe
   rw[if_neg (fun h=>d2 h.2)]
   simp[mr,gn,m,w1,r,w2,w3,c1,c2]
   simp at b4
   exact b4
 ·have c1:¬(A<=32):=qe
  rw[if_neg (fun h=>d1 h.1)]
  simp[mr,gn,m,w1,r,w2,w3,c1]
  simp at b4
  exact b4
theorem zb5(c:Nat×Nat)(w:Nat):∀(f i:Nat) (Z:List Int) (hp:Hp),i+f=256->Z.length+f<=1000000->hp.rd w 0=some (Wc Z)->
 B158_17 (.ptr w 0 0) (.int .i64 (i:Int)) (Cc c) hp=some (.tup [],hp.put w 0 (Wc (Z++yJ c.2 f i))):=by
 intro f
 induction f with
 |zero=>
  intro i Z hp h hZ hw
  have e:i=256:=qe
  subst e
  rw[qbd]
  simp[yJ,jm hw]
 |succ f ih=>
  intro i Z hp h hZ hw
  have hh:=ZH c i qe hp0
  have w1:IntKind.u8.wrap (i:Int)=(i:Int):=zB qe qe
  have w2:IntKind.i64.wrap ((i:Int)+1)=((i+1:Nat):Int):=qj
  have gn:qp (Cc c) 0 5=some (Cc c):=rfl
  have hlt:(i:Int)<256:=qe
  have b21:∀hp',B158_21 (.ptr w 0 0) (.int .i64 (i:Int)) (Cc c) hp'=B158_17 (.ptr w 0 0) (.int .i64 ((i+1:Nat):Int)) (Cc c) hp':=by
   intro hp'
   rw[qpj]
   generalize((i+1:Nat):Int)=I at*
   simp[w2]
  have mr:List.map ro1 (Cc c)=Cc c:=rfl
  rw[qbd]
  unfold yJ
  cases hb:c.2.testBit i
  ·rw[hb]at hh
   have hi:=ih (i+1) Z hp qe qe hw
   rw[<-b21]at hi
   simp[hlt,gn,mr,ym,w1,hh,hi]
  ·rw[hb]at hh
   have wb:=ju w Z (i:Int) qe hp hw
   have hi:=ih (i+1) (Z++[(i:Int)]) (hp.put w 0 (Wc (Z++[(i:Int)]))) qe qi (qr _ _ _)
   rw[qC,znv,<-b21]at hi
   have e1:[(i:Int)]++yJ c.2 f (i+1)=(i:Int)::yJ c.2 f (i+1):=rfl
   rw[e1]at hi
   generalize yJ c.2 f (i+1)=AA at*
   simp[hlt,gn,mr,hh,ym,w1,wb]
   exact hi
theorem qxx(m i:Nat):(zX m (i/8)/2^(8*(i%8)))%256=m/2^(8*i)%256:=by
 apply zol
 intro j
 have e:(256:Nat)=2^8:=rfl
 have e2:(18446744073709551616:Nat)=2^64:=rfl
 unfold zX
 rw[e,e2,znn,znn,zob,zob,znn,zob]
 by_cases hj:j<8
 ·have h1:j+8*(i%8)<64:=qe
  have h2:j+8*(i%8)+64*(i/8)=j+8*i:=qe
  simp only[hj,h1,decide_true,zqy]
  rw[h2]
 ·simp[hj]
theorem zb4(c:Nat×Nat)(w:Nat):∀(f i:Nat) (Z:List Int) (hp:Hp),i+f=32->Z.length+f<=1000000->hp.rd w 0=some (Wc Z)->
 B158_24 (.ptr w 0 0) (.int .i64 (i:Int)) (Cc c) hp=some (.tup [],hp.put w 0 (Wc (Z++yH c.2 f i))):=by
 intro f
 induction f with
 |zero=>
  intro i Z hp h hZ hw
  have e:i=32:=qe
  subst e
  rw[qbc]
  simp[yH,jm hw]
 |succ f ih=>
  intro i Z hp h hZ hw
  have q:=qgn i qe
  have r:=qgl i
  have ix:idx 4 (.int .i64 ((i/8:Nat):Int))=some (i/8):=zr .i64 qe
  have g:=Qr c (i/8) qe
  have w1:IntKind.i64.wrap (8*((i%8:Nat):Int))=((8*(i%8):Nat):Int):=qj
  have s:=fun t o o'=>xh .u64 (zX c.2 (i/8)) (8*(i%8)) (by show 8*(i%8)<=64;omega) t o o' .i64
  have w2:IntKind.i64.wrap ((i:Int)+1)=((i+1:Nat):Int):=qj
  have hlt:(i:Int)<32:=qe
  have wdb:=qxx c.2 i
  have w3:IntKind.u8.wrap ((zX c.2 (i/8)/2^(8*(i%8)):Nat):Int)=((c.2/2^(8*i)%256:Nat):Int):=by
   rw[Qf,<-wdb]
   omega
  have wb:=ju w Z ((c.2/2^(8*i)%256:Nat):Int) qe hp hw
  have hi:=ih (i+1) (Z++[((c.2/2^(8*i)%256:Nat):Int)]) (hp.put w 0 (Wc (Z++[((c.2/2^(8*i)%256:Nat):Int)]))) qe qi (qr _ _ _)
  rw[qC,znv]at hi
  have e:yH c.2 (f+1) i=[((c.2/2^(8*i)%256:Nat):Int)]++yH c.2 f (i+1):=rfl
  rw[e,<-hi,qbc]
  generalize((c.2/2^(8*i)%256:Nat):Int)=y at*
  generalize((zX c.2 (i/8)/2^(8*(i%8)):Nat):Int)=x at*
  generalize((zX c.2 (i/8):Nat):Int)=x0 at*
  generalize((8*(i%8):Nat):Int)=x1 at*
  generalize((i%8:Nat):Int)=x2 at*
  generalize((i/8:Nat):Int)=x3 at*
  generalize((i+1:Nat):Int)=x4 at*
  have g':ql (Cc c) (1+i/8)=some (.int .u64 x0):=by have:=g;simpa using this
  simp[hlt,q,ix,g',r,w1,s,Xu,w3,wb,w2]
theorem zb3(c:Nat×Nat)(w:Nat)(i0:Nat):∀(f i:Nat) (hp:Hp),i+f=255->B158_11 (.ptr w 0 0) (.int .i64 (i:Int)) (.int .i64 (i0:Int)) (Cc c) hp=
 B158_13 (.ptr w 0 0) (.int .i64 (yx c.2 f i:Nat)) (.int .i64 (i0:Int)) (Cc c) hp:=by
 intro f
 induction f with
 |zero=>
  intro i hp h
  have e:i=255:=qe
  subst e
  rw[qbe]
  simp[yx]
 |succ f ih=>
  intro i hp h
  have hh:=ZH c (i+1) qe hp0
  have w1:IntKind.u8.wrap ((i+1:Nat):Int)=((i+1:Nat):Int):=zB qe qe
  have w2:IntKind.i64.wrap ((i:Int)+1)=((i+1:Nat):Int):=qj
  have gn:qp (Cc c) 0 5=some (Cc c):=rfl
  have hlt:(i:Int)<255:=qe
  have hi:=ih (i+1) hp qe
  rw[qbe]
  unfold yx
  have mr:List.map ro1 (Cc c)=Cc c:=rfl
  generalize((i+1:Nat):Int)=I at*
  cases hb:c.2.testBit (i+1)
  ·rw[hb]at hh
   simp[hlt,gn,mr,w2,ym,w1,hh]
  ·rw[hb]at hh
   simp[hlt,gn,mr,w2,ym,w1,hh,qpl,hi]
theorem qus(c:Nat×Nat)(w:Nat):∀(f i:Nat) (Z:List Int) (hp:Hp),256<=i+f->i<=256->Z.length+2*f<=1000000->hp.rd w 0=some (Wc Z)->
 B158_7 (.ptr w 0 0) (.int .i64 (i:Int)) (Cc c) hp=some (.tup [],hp.put w 0 (Wc (Z++kQ c.2 f i))):=by
 intro f
 induction f with
 |zero=>
  intro i Z hp h hi256 hZ hw
  have e:i=256:=qe
  subst e
  rw[KL]
  simp[kQ,jm hw]
 |succ f ih=>
  intro i Z hp h hi256 hZ hw
  unfold kQ
  by_cases h1:256<=i
  ·have hlt:¬((i:Int)<256):=qe
   rw[if_pos h1,KL]
   simp[hlt,jm hw]
  ·have hlt:(i:Int)<256:=qe
   have hh:=ZH c i qe hp0
   have w1:IntKind.u8.wrap (i:Int)=(i:Int):=zB qe qe
   have gn:qp (Cc c) 0 5=some (Cc c):=rfl
   have b8:∀(j:Nat) hp',j<=255->B158_8 (.ptr w 0 0) (.int .i64 (j:Int)) (Cc c) hp'=B158_7 (.ptr w 0 0) (.int .i64 ((j+1:Nat):Int)) (Cc c) hp':=by
    intro j hp' hj
    have w2:IntKind.i64.wrap ((j:Int)+1)=((j+1:Nat):Int):=qj
    rw[qwu]
    generalize((j+1:Nat):Int)=I at*
    simp[w2]
   have mr:List.map ro1 (Cc c)=Cc c:=rfl
   rw[if_neg h1,KL]
   cases hb:c.2.testBit i
   ·rw[hb]at hh
    have hi:=ih (i+1) Z hp qe qe qe hw
    have b8':=b8 i hp qe
    rw[<-b8']at hi
    simp[hlt,gn,mr,ym,w1,hh]
    exact hi
   ·rw[hb]at hh
    have ce:=zb3 c w i (255-i) i hp qe
    obtain⟨r1,r2,r3,r4⟩:=wE c.2 (255-i) i
    have b8':=fun hp'=>b8 (yx c.2 (255-i) i) hp' qe
    generalize yx c.2 (255-i) i=e at*
    have w3:IntKind.i64.wrap ((e:Int)-(i:Int))=((e-i:Nat):Int):=qj
    have w4:IntKind.u8.wrap ((e-i:Nat):Int)=((e-i:Nat):Int):=zB qe qe
    have wp:=Qi w Z [(i:Int),((e-i:Nat):Int)] 0 qi hp hw
    have hi:=ih (e+1) (Z++[(i:Int),((e-i:Nat):Int)]) (hp.put w 0 (Wc (Z++[(i:Int),((e-i:Nat):Int)]))) qe qe qi (qr _ _ _)
    rw[qC,znv]at hi
    have b13:B158_13 (.ptr w 0 0) (.int .i64 (e:Int)) (.int .i64 (i:Int)) (Cc c) hp=some (.tup [],hp.put w 0 (Wc (Z++([(i:Int),((e-i:Nat):Int)]++kQ c.2 f (e+1))))):=by
     rw[qpk,<-hi,<-b8']
     generalize((e-i:Nat):Int)=d at*
     have eS:S 0 1 (LI .u8 [(i:Int),d])=AV.sl 1 [.sc (.int .u8 (i:Int)),.sc (.int .u8 d)]:=rfl
     rw[eS]at wp
     simp[ym,w1,w3,w4,yC]
     simp at wp
     simp[wp]
    simp[hlt,gn,mr,ym,w1,hh,ce]
    simpa using b13
theorem Xg(m:Nat):kind m<=2:=by
 unfold kind
 split
 ·omega
 ·split<;>omega
theorem qy9(c:Nat×Nat)(w:Nat)(hc:Xc c)(Z:List Int)(hZ:Z.length<=900000)(hp:Hp)(hw:hp.rd w 0=some (Wc Z)):
 run cxX 158 [.agg (Cc c),.ptr w 0 0] hp=some (.tup [],hp.put w 0 (Wc (Z++yG c))):=by
 have cn:qn 5 (.agg (Cc c))=some (Cc c):=rfl
 have gn:qp (Cc c) 0 5=some (Cc c):=rfl
 have gs:ql (Cc c) 0=some (.int .u32 (c.1:Int)):=rfl
 have mr:List.map ro1 (Cc c)=Cc c:=rfl
 have bk:=qi3 c hp0
 have bm:=Qj c hp0
 have br:=qid c hp0
 have h16:=hc.1
 have w1:IntKind.u64.wrap (c.1:Int)=(c.1:Int):=qu qe qe
 have hu:=qD (n:=c.1) qe
 have u1:=zY w c.1 Z qe qe hp hw
 have u2:=ju w (Z++uv c.1) ((kind c.2:Nat):Int) qi (hp.put w 0 (Wc (Z++uv c.1))) (qr _ _ _)
 rw[qC]at u2
 have c1:=vF c.2 256
 have c2:=Yn c.2 256
 have c3:=Vz hc.2.2
 have c4:=hc.2.2
 have hZ2:(Z++uv c.1++[((kind c.2:Nat):Int)]).length<=900011:=qi
 have eY:Z++yG c=Z++uv c.1++[((kind c.2:Nat):Int)]++Zk c.2:=by unfold yG;simp
 rw[eY,E158]
 generalize hZ3:Z++uv c.1++[((kind c.2:Nat):Int)]=Z3 at*
 simp only[YE,cn,znc]
 have k3:=Xg c.2
 unfold Zk
 by_cases k0:kind c.2=0
 ·rw[k0]at u2 bk
  rw[if_pos k0]
  have w2:IntKind.i64.wrap ((zx c.2 256:Nat)-1:Int)=((zx c.2 256-1:Nat):Int):=qj
  have w3:IntKind.u8.wrap ((zx c.2 256-1:Nat):Int)=((zx c.2 256-1:Nat):Int):=zB qe qe
  have u3:=ju w Z3 ((zx c.2 256-1:Nat):Int) qe (hp.put w 0 (Wc Z3)) (qr _ _ _)
  rw[qC]at u3
  have a:=zb5 c w 256 0 (Z3++[((zx c.2 256-1:Nat):Int)]) (hp.put w 0 (Wc (Z3++[((zx c.2 256-1:Nat):Int)]))) rfl qi (qr _ _ _)
  rw[qC,znv]at a
  have e:[((zx c.2 256-1:Nat):Int)]++yJ c.2 256 0=((zx c.2 256-1:Nat):Int)::yJ c.2 256 0:=rfl
  rw[e]at a
  generalize((zx c.2 256-1:Nat):Int)=n1 at*
  generalize yJ c.2 256 0=A at*
  simp at u2 a bk
  simp[mr,gn,gs,bk,yz,w1,u1,u2,bm,w2,w3,ym,u3]
  exact a
 ·by_cases k1:kind c.2=1
  ·rw[k1]at u2 bk
   rw[if_neg k0,if_pos k1]
   have a:=zb4 c w 32 0 Z3 (hp.put w 0 (Wc Z3)) rfl qe (qr _ _ _)
   rw[qC]at a
   simp at u2 a bk
   simp[mr,gn,gs,bk,yz,w1,u1,u2]
   exact a
  ·have k2:kind c.2=2:=qe
   rw[k2]at u2 bk
   rw[if_neg k0,if_neg k1]
   have w2:IntKind.i64.wrap ((jD c.2 256:Nat)-1:Int)=((jD c.2 256-1:Nat):Int):=qj
   have w3:IntKind.u8.wrap ((jD c.2 256-1:Nat):Int)=((jD c.2 256-1:Nat):Int):=zB qe qe
   have u3:=ju w Z3 ((jD c.2 256-1:Nat):Int) qe (hp.put w 0 (Wc Z3)) (qr _ _ _)
   rw[qC]at u3
   have a:=qus c w 256 0 (Z3++[((jD c.2 256-1:Nat):Int)]) (hp.put w 0 (Wc (Z3++[((jD c.2 256-1:Nat):Int)]))) qe qe qi (qr _ _ _)
   rw[qC,znv]at a
   have e:[((jD c.2 256-1:Nat):Int)]++kQ c.2 256 0=((jD c.2 256-1:Nat):Int)::kQ c.2 256 0:=rfl
   rw[e]at a
   generalize((jD c.2 256-1:Nat):Int)=n1 at*
   generalize kQ c.2 256 0=A at*
   simp at u2 a bk
   simp[mr,gn,gs,bk,yz,w1,u1,u2,br,w2,w3,ym,u3]
   exact a
def csL(cs:List (Nat×Nat)):List AV:=cs.flatMap Cc
@[simp] theorem vd (cs : List (Nat × Nat)) : (csL cs).length = 5 * cs.length := by
 induction cs with
 |nil=>rfl
 |cons c r ih=>
  have e:csL (c::r)=Cc c++csL r:=rfl
  rw[e,zm9,ih,zna]
  show 5+5*r.length=5*(r.length+1)
  omega
theorem qhj(a b:List (Nat×Nat)):csL (a++b)=csL a++csL b:=by simp[csL]
theorem qrn{cs:List (Nat×Nat)}(h:csL cs=[]):cs=[]:=by
 have h1:=congrArg List.length h
 rw[vd]at h1
 exact znp.mp (by have:([]:List AV).length=0:=rfl;omega)
theorem zgt:∀(cs:List (Nat×Nat)) (i:Nat) (c:Nat×Nat),cs[i]?=some c->((csL cs).drop (i*5)).take 5=Cc c:=by
 intro cs
 induction cs with
 |nil=>intro i c h;cases h
 |cons d r ih=>
  intro i c h
  have e:csL (d::r)=Cc d++csL r:=rfl
  cases i with
  |zero=>
   have:d=c:=by simpa using h
   subst this
   rfl
  |succ i=>
   have h2:=ih i c (by simpa using h)
   have e2:(i+1)*5=5+i*5:=qe
   have l5:(Cc d).length=5:=rfl
   rw[e,e2,<-h2,zrd,l5,zoh (by rw[l5];omega),zn4]
   congr 2
   omega
theorem Yt(k:Nat)(cs:List (Nat×Nat)):xU (S k 5 (csL cs))=some cs.length:=by
 rcases jq k 5 (csL cs)with e|e|⟨e,e'⟩
 ·rw[e];show some ((csL cs).length/5)=_;rw[vd];congr 1;omega
 ·rw[e];show some ((csL cs).length/5)=_;rw[vd];congr 1;omega
 ·rw[e,qrn e'];rfl
theorem wX(k:Nat)(cs:List (Nat×Nat))(i:Nat)(c:Nat×Nat)(h:cs[i]?=some c):jE 5 (S k 5 (csL cs)) (.int .i64 (i:Int))=some (Cc c):=by
 have hi:=(zni.mp h).1
 have key:(idx ((csL cs).length/5) (.int .i64 (i:Int))).bind (fun i=>qp (csL cs) (i*5) 5)=some (Cc c):=by
  have e:(csL cs).length/5=cs.length:=by rw[vd];omega
  rw[e,zr .i64 hi,znc]
  unfold qp
  rw[if_pos (by rw[vd];omega),zgt cs i c h]
 rcases jq k 5 (csL cs)with e|e|⟨e,e'⟩
 ·rw[e];exact key
 ·rw[e];exact key
 ·rw[qrn e']at h;cases h
theorem qao{c:Nat×Nat}(hc:Xc c):(yG c).length<=60:=by
 have h1:=qD (n:=c.1) (by have:=hc.1;omega)
 unfold yG Zk
 have a:=KE c.2
 have b:=vz c.2
 have k3:=Xg c.2
 rw[zm9,zna]
 by_cases k0:kind c.2=0
 ·rw[if_pos k0,zna,a]
  unfold kind at k0
  split at k0
  ·rename_i h;omega
  ·split at k0<;>omega
 ·rw[if_neg k0]
  by_cases k1:kind c.2=1
  ·rw[if_pos k1,qk0];omega
  ·rw[if_neg k1,zna,b]
   unfold kind at k0 k1
   split at k0
   ·omega
   ·rename_i h
    rw[if_neg h]at k1
    split at k1
    ·omega
    ·omega
theorem qr6(cs:List (Nat×Nat))(k w:Nat)(hcs:∀c∈cs,Xc c)(hl:cs.length<=4096):∀(r:List (Nat×Nat)) (i:Nat) (Z:List Int) (hp:Hp),cs.drop i=r->Z.length+60*r.length<=900000->hp.rd w 0=some (Wc Z)->
 B100_2 (.ptr w 0 0) (S k 5 (csL cs)) (.int .i64 (cs.length:Int)) (.int .i64 (i:Int)) hp=some (.tup [],hp.put w 0 (Wc (Z++wW r))):=by
 intro r
 induction r with
 |nil=>
  intro i Z hp h hZ hw
  have h1:=qL h
  have hlt:¬((i:Int)<(cs.length:Int)):=qe
  rw[qfu]
  simp[hlt,wW,jm hw]
 |cons c r ih=>
  intro i Z hp h hZ hw
  obtain⟨e1,e2,hi,e3⟩:=qt h
  simp only[zna]at hZ
  have hlt:(i:Int)<(cs.length:Int):=qe
  have ix:=wX k cs i c e1
  have hc:Xc c:=hcs c (by rw[<-e3];exact znr _)
  have cp:=qy9 c w hc Z qe hp hw
  have hcl:=qao hc
  have w2:IntKind.i64.wrap ((i:Int)+1)=((i+1:Nat):Int):=qj
  have hn:=ih (i+1) (Z++yG c) (hp.put w 0 (Wc (Z++yG c))) e2 qi (qr _ _ _)
  rw[qC,znv]at hn
  have gn:qp (Cc c) 0 5=some (Cc c):=rfl
  have cn:qn 5 (.agg (Cc c))=some (Cc c):=rfl
  have mr:List.map ro1 (Cc c)=Cc c:=rfl
  have pn:∀a b c' d e:Value,qo [.sc a,.sc b,.sc c',.sc d,.sc e] 0 (Cc c)=some (Cc c):=fun _ _ _ _ _=>rfl
  have e:wW (c::r)=yG c++wW r:=rfl
  rw[e,<-hn,qfu]
  generalize((i+1:Nat):Int)=I at*
  simp only[YE,Jf,hlt,decide_true,jN,znc,cond_true,ix,gn,cn,pn,mr]
  have r0:ro (AV.ptr w 0 0)=AV.ptr w 0 0:=rfl
  have ra:ro (.agg (Cc c))= .agg (Cc c):=rfl
  simp only[YE,mr,cn,pn,gn,znc,r0,ra,cp]
  simp[w2]
theorem qyn(cs:List (Nat×Nat))(k w:Nat)(hcs:∀c∈cs,Xc c)(hl:cs.length<=4096)(Z:List Int)(hZ:Z.length<=100000)(hp:Hp)(hw:hp.rd w 0=some (Wc Z)):
 run cxX 100 [S k 5 (csL cs),.ptr w 0 0] hp=some (.tup [],hp.put w 0 (Wc (Z++jX cs))):=by
 have hu:=qD (n:=cs.length) qe
 have u1:=zY w cs.length Z qe qe hp hw
 have a:=qr6 cs (rk k) w hcs hl cs 0 (Z++uv cs.length) (hp.put w 0 (Wc (Z++uv cs.length))) rfl qi (qr _ _ _)
 rw[qC,znv]at a
 have w1:IntKind.u64.wrap (cs.length:Int)=(cs.length:Int):=qu qe qe
 rw[E100]
 have l5:=fun k=>Yt k cs
 simp at a
 simp[l5,yq,w1,u1,a,jX]
theorem qui(A L:List AV)(i:Nat):ql (A++L) (A.length+i)=ql L i:=by
 unfold ql
 rw[zny qe]
 congr 2
 omega
theorem qzk(A L M:List AV)(i:Nat)(vs:List AV)(h:qo L i vs=some M):qo (A++L) (A.length+i) vs=some (A++M):=by
 unfold qo at h⊢
 split at h
 ·rename_i hi
  rw[if_pos (by rw[zm9];omega)]
  have e:L.take i++vs++L.drop (i+vs.length)=M:=zn0 h
  rw[<-e,List.take_append,zn2 qe,zrd,zoh qe,zn4]
  have e1:A.length+i-A.length=i:=qe
  have e2:A.length+i+vs.length-A.length=i+vs.length:=qe
  rw[e1,e2]
  simp
 ·cases h
theorem zh0(m i j:Nat)(hi:i<256):zX (m|||2^i) j=if j=i/64 then zX m j|||2^(i%64)else zX m j:=by
 apply zol
 intro k
 have e2:(18446744073709551616:Nat)=2^64:=rfl
 by_cases hj:j=i/64
 ·rw[if_pos hj]
  unfold zX
  rw[e2,zoa,znn,znn,zob,zob,zoa,js,js]
  by_cases hk:k<64
  ·have e:(i=k+64*j)↔(i%64=k):=qe
   simp only[hk,decide_true,zqy]
   congr 1
   exact decide_eq_decide.mpr e
  ·have:¬(i%64=k):=qe
   simp[hk,this]
 ·rw[if_neg hj]
  unfold zX
  rw[e2,znn,znn,zob,zob,zoa,js]
  by_cases hk:k<64
  ·have:¬(i=k+64*j):=qe
   simp[this]
  ·simp[hk]
theorem zfi(x c:Nat)(hx:x<18446744073709551616)(hc:c<18446744073709551616)(t:TypeId)(o o':Operand):qy Tryz.prog .or t o o' (.int .u64 (x:Int)) (.int .u64 (c:Int))=some (.int .u64 ((x|||c:Nat):Int)):=by
 rw[zS]
 have hl:x|||c<2^64:=zrx hx hc
 have e:(BitVec.ofInt IntKind.u64.bits (x:Int)|||BitVec.ofInt IntKind.u64.bits (c:Int)).toNat=x|||c:=by
  show(BitVec.ofInt 64 (x:Int)|||BitVec.ofInt 64 (c:Int)).toNat=_
  rw[zo6,zo6,zpt,zo5,zo5]
  rw[zoq qe,zoq qe]
 rw[e,qu qe qe]
theorem shl1(k:Nat)(hk:k<64)(t:TypeId)(o o':Operand):qy Tryz.prog .shl t o o' (.int .u64 1) (.int .u8 (k:Int))=some (.int .u64 ((2^k:Nat):Int)):=by
 have hp:(2:Nat)^k<2^64:=zqu qh hk
 have e64:(2:Nat)^64=18446744073709551616:=rfl
 rw[zW _ _ _ _ _ _ _ _ qe,znj,zp5 (show k<=IntKind.u64.bits from zqe hk),Int.one_mul]
 have e:(2:Int)^k=((2^k:Nat):Int):=qg
 rw[e]
 generalize 2^k=z at*
 rw[qu qe qe]
theorem ze6(c:Nat×Nat)(i:Nat)(hi:i<256):qo (Cc c) (1+i/64) [.sc (.int .u64 (zX c.2 (i/64)|||2^(i%64):Nat))]=some (Cc (c.1,c.2|||2^i)):=by
 have h:i/64=0\/i/64=1\/i/64=2\/i/64=3:=qe
 have w:=fun j=>zh0 c.2 i j hi
 have e:Cc (c.1,c.2|||2^i)=[.sc (.int .u32 (c.1:Int)),.sc (.int .u64 (zX (c.2|||2^i) 0:Nat)),.sc (.int .u64 (zX (c.2|||2^i) 1:Nat)),.sc (.int .u64 (zX (c.2|||2^i) 2:Nat)),.sc (.int .u64 (zX (c.2|||2^i) 3:Nat))]:=rfl
 rw[e,w 0,w 1,w 2,w 3]
 rcases h with h|h|h|h<;>rw[h]<;>rfl
theorem qsy(ds:List (Nat×Nat))(c:Nat×Nat)(b i:Nat)(hi:i<256)(hp:Hp)(h:hp.rd b 0=some (csL (ds++[c]))):
 run cxX 194 [.ptr b 0 (5*ds.length),.sc (.int .u8 (i:Int))] hp=some (.tup [],hp.put b 0 (csL (ds++[(c.1,c.2|||2^i)]))):=by
 have s1:∀t o o',qy Tryz.prog .shr t o o' (.int .u8 (i:Int)) (.int .u64 6)=some (.int .u8 ((i/64:Nat):Int)):=fun t o o'=>xh .u8 i 6 qh t o o' .u64
 have ix:idx 4 (.int .u8 ((i/64:Nat):Int))=some (i/64):=zr .u8 qe
 have a:=zhx i hi
 have s2:=shl1 (i%64) qe
 have h64:(2:Nat)^(i%64)<18446744073709551616:=zqu qh (show i%64<64 by omega)
 have o:=zfi (zX c.2 (i/64)) (2^(i%64)) (QI _ _) h64
 have e1:csL (ds++[c])=csL ds++Cc c:=by rw[qhj];simp[csL]
 have e2:csL (ds++[(c.1,c.2|||2^i)])=csL ds++Cc (c.1,c.2|||2^i):=by rw[qhj];simp[csL]
 have g:=qui (csL ds) (Cc c) (1+i/64)
 have g2:ql (Cc c) (1+i/64)=some (.int .u64 (zX c.2 (i/64):Nat)):=by have:=Qr c (i/64) qe;simpa using this
 rw[g2]at g
 have p:=qzk (csL ds) (Cc c) _ (1+i/64) _ (ze6 c i hi)
 have eo:(csL ds).length+(1+i/64)=5*ds.length+1+i/64:=by rw[vd];omega
 rw[eo]at g p
 rw[e1]at h
 rw[e2,E194]
 generalize csL ds++Cc c=L1 at*
 generalize csL ds++Cc (c.1,c.2|||2^i)=L2 at*
 generalize((zX c.2 (i/64)|||2^(i%64):Nat):Int)=q3 at*
 generalize((zX c.2 (i/64):Nat):Int)=q0 at*
 generalize((2^(i%64):Nat):Int)=q1 at*
 generalize((i%64:Nat):Int)=q2 at*
 generalize((i/64:Nat):Int)=q4 at*
 generalize 5*ds.length=N at*
 simp[s1,ix,h,g,a,s2,o,p,-zk,-zS]
theorem VN(j:Nat):zX 0 j=0:=by unfold zX;simp
theorem Xy:∀l,(jR l).length<=l.length:=by
 intro l
 induction l with
 |nil=>exact znd _
 |cons x r ih=>
  show(Yo x (jR r)).length<=_
  cases hq:jR r with
  |nil=>simp[Yo]
  |cons c s=>
   rw[hq]at ih
   rw[xl]
   split<;>simp at ih⊢<;>omega
section
variable (l:List Nat)(k k':Nat)(hl:l.length<=4096)(h32:∀x∈l,x<4294967296)(hr:qN l)
include hl h32 hr
end
def MW(hp:Hp)(m cb:Nat)(cs:List Nat):Prop:=
 m<hp.next/\cb<hp.next/\cb≠m/\hp.rd cb 0=some (LI .i64 (nz cs))/\hp.rd m 0=some [.ms cb 0 0 cs.length 1,.sc (.int .i64 (cs.sum:Nat))]
theorem MW.fr{hp hp':Hp}{m cb:Nat}{cs:List Nat}{X:List Nat}(h:MW hp m cb cs)(f:Fm X hp hp')(h1:m∉X)(h2:cb∉X):MW hp' m cb cs:=
 ⟨znu h.1 f.1,znu h.2.1 f.1,h.2.2.1,by rw[f.rd h.2.1 h2];exact h.2.2.2.1,by rw[f.rd h.1 h1];exact h.2.2.2.2⟩
def MN(hp:Hp)(m cb i:Nat):Prop:=
 m<hp.next/\(i≠0->cb<hp.next/\m<cb/\hp.rd cb 0=some (LI .i64 (nz (List.replicate i 1))))/\hp.rd m 0=some [if i=0 then S 2 1 []else .ms cb 0 0 i 1,.sc (.int .i64 (i:Int))]
theorem yW(l:List Nat)(x:Nat):nz (l++[x])=nz l++[(x:Int)]:=by simp[nz]
theorem qty(m:Nat):∀(f i cb:Nat) (hp:Hp),i+f=64->MN hp m cb i->
 ∃hp' cb',B168_3 (.ptr m 0 0) (.int .i64 64) (.int .i64 (i:Int)) hp=some (.ptr m 0 0,hp')/\MN hp' m cb' 64/\hp.next<=hp'.next/\∀c,c<m->hp'.get c=hp.get c:=by
 intro f
 induction f with
 |zero=>
  intro i cb hp h hm
  have e:i=64:=qe
  subst e
  refine⟨hp,cb,?_,hm,znd _,fun _ _=>rfl⟩
  rw[KK]
  simp
 |succ f ih=>
  intro i cb hp h hm
  obtain⟨h1,h2,h3⟩:=hm
  have hlt:(i:Int)<64:=qe
  have w1:IntKind.i64.wrap ((i:Int)+1)=((i+1:Nat):Int):=qj
  by_cases h0:i=0
  ·subst h0
   have ap:=Zl .i64 1 8 qh hp
   have hne:m≠hp.next:=qe
   have r1:=zH hp (LI .i64 [1]) hne
   rw[h3]at r1
   have hq:MN ((hp.new (LI .i64 [1])).put m 0 [.ms hp.next 0 0 1 1,.sc (.int .i64 1)]) m hp.next 1:=
    ⟨qi,fun _=>⟨qg,h1,by rw[qB _ _ (fun e=>hne e.symm),qT];rfl⟩,by rw[qr];rfl⟩
   obtain⟨hp2,cb2,a1,a2,a3,a4⟩:=ih 1 hp.next _ qe hq
   refine⟨hp2,cb2,?_,a2,by simp at a3;omega,fun c hc=>by
    rw[a4 c hc]
    have e1:c≠m:=qe
    have e2:c≠hp.next:=qe
    simp[Hp.put,Hp.new,e1,e2]⟩
   rw[<-a1,KK]
   simp at r1
   simp[h3,qs,yC,ap,r1,qo,qC,qr,ql]
  ·obtain⟨n1,n2,n3⟩:=h2 h0
   rw[if_neg h0]at h3
   have hne:m≠hp.next:=qe
   have hne2:m≠cb:=qe
   have hl:(nz (List.replicate i 1)).length=i:=qg
   have ap:=Jh .i64 (nz (List.replicate i 1)) 1 8 cb qh (by rw[hl];omega) (by intro e;rw[e]at hl;simp at hl;omega) hp n3
   rw[hl]at ap
   have e1:nz (List.replicate i 1)++[1]=nz (List.replicate (i+1) 1):=by
    rw[zpo,yW];rfl
   rw[e1]at ap
   have r1:((hp.del cb).new (LI .i64 (nz (List.replicate (i+1) 1)))).rd m 0=hp.rd m 0:=(Fm.delNew (X:=[cb]) hp cb _ qg).rd h1 (by simp;exact hne2)
   rw[h3]at r1
   have hq:MN (((hp.del cb).new (LI .i64 (nz (List.replicate (i+1) 1)))).put m 0 [.ms hp.next 0 0 (i+1) 1,.sc (.int .i64 ((i+1:Nat):Int))]) m hp.next (i+1):=
    ⟨by simp[Hp.del];omega,fun _=>⟨by simp[Hp.del],h1,by rw[qB _ _ (fun e=>hne e.symm)];exact qT (hp.del cb) _⟩,by rw[qr,if_neg qe]⟩
   obtain⟨hp2,cb2,a1,a2,a3,a4⟩:=ih (i+1) hp.next _ qe hq
   refine⟨hp2,cb2,?_,a2,by simp[Hp.del]at a3;omega,fun c hc=>by
    rw[a4 c hc]
    have e1:c≠m:=qe
    have e2:c≠hp.next:=qe
    have e3:c≠cb:=qe
    simp[Hp.put,Hp.new,Hp.del,e1,e2,e3]⟩
   rw[<-a1,KK]
   generalize nz (List.replicate (i+1) 1)=L at*
   generalize((i+1:Nat):Int)=I at*
   simp[hlt,h3,qs,yC,ap,r1,qo,qC,qr,ql,w1]
theorem qiq(hp:Hp):∃hp' cb,run cxX 168 [.sc (.int .i64 64)] hp=some (.ptr hp.next 0 0,hp')/\MW hp' hp.next cb cs0/\hp.next<cb/\hp.next<=hp'.next/\∀c,c<hp.next->hp'.get c=hp.get c:=by
 have h0:MN (hp.new [S 2 1 [],.sc (.int .i64 0)]) hp.next 0 0:=⟨qg,fun h=>absurd rfl h,by rw[qT];rfl⟩
 obtain⟨hp',cb,a1,a2,a3,a4⟩:=qty hp.next 64 0 0 _ rfl h0
 obtain⟨b1,b2,b3⟩:=a2
 obtain⟨c1,c2,c3⟩:=b2 qe
 refine⟨hp',cb,?_,⟨b1,c1,qe,c3,by rw[b3];rfl⟩,c2,by simp at a3;omega,fun c hc=>by
  rw[a4 c hc]
  have:c≠hp.next:=qe
  simp[Hp.new,this]⟩
 rw[E168]
 have mm:min (max (64:Int) 1) 64=64:=qh
 simp at a1
 simp[mm,a1]
theorem yX(l:List Nat)(i:Nat)(h:i<l.length):(nz l).getD i 0=((l.getD i 0:Nat):Int):=by
 unfold nz
 rw[znb,znb,znt,zng h]
 rfl
section
variable (hp:Hp)(m cb:Nat)(cs:List Nat)(h:MW hp m cb cs)(hs:cs.sum<=1000000)(hcl:cs.length=64)
include h
theorem qch:run cxX 193 [.ptr m 0 0] hp=some (.sc (.int .i64 (cs.length:Nat)),hp):=by
 obtain⟨h1,h2,h3,h4,h5⟩:=h
 rw[E193]
 have hln:∀a b c d e,xU (.ms a b c d e)=some d:=fun _ _ _ _ _=>rfl
 simp[h5,qs,hln]
theorem Wk:run cxX 171 [.ptr m 0 0] hp=some (.sc (.int .i64 (cs.sum:Nat)),hp):=by
 obtain⟨h1,h2,h3,h4,h5⟩:=h
 rw[E171]
 simp[h5,ql]
include hs hcl
theorem qtk(x:Nat)(hx:x<64):∀(f i:Nat),i+f=x->
 B170_5 (.ptr m 0 0) (.int .i64 (x:Int)) (.int .i64 ((cs.take i).sum:Nat)) (.ms cb 0 0 x 1) (.int .i64 (x:Int)) (.int .i64 (i:Int)) hp=some (.tup [.sc (.int .i64 ((cs.take x).sum:Nat)),.sc (.int .i64 (cs.getD x 0:Nat))],hp):=by
 obtain⟨h1,h2,h3,h4,h5⟩:=h
 have hms:∀a b c d e,zg (.ms a b c d e)=some (a,b,c,d,e):=fun _ _ _ _ _=>rfl
 intro f
 induction f with
 |zero=>
  intro i hi
  have e:i=x:=qe
  subst e
  have ix:idx cs.length (.int .i64 (i:Int))=some i:=zr .i64 qe
  have g:=jQ .i64 (nz cs) i qi
  rw[yX cs i qe]at g
  rw[qer]
  generalize(cs.take i).sum=A at*
  generalize cs.getD i 0=B at*
  simp[h5,qs,hms,ix,h4,g]
 |succ f ih=>
  intro i hi
  have hn:=ih (i+1) qe
  have ix:idx x (.int .i64 (i:Int))=some i:=zr .i64 qe
  have g:=jQ .i64 (nz cs) i qi
  rw[yX cs i qe]at g
  have st:=qQ cs i qe
  have sl:=qR cs (i+1)
  have w1:IntKind.i64.wrap ((((cs.take i).sum:Nat):Int)+((cs.getD i 0:Nat):Int))=(((cs.take (i+1)).sum:Nat):Int):=qj
  have w2:IntKind.i64.wrap ((i:Int)+1)=((i+1:Nat):Int):=qj
  have hlt:(i:Int)<(x:Int):=qe
  rw[<-hn,qer]
  generalize(((cs.take i).sum:Nat):Int)=A at*
  generalize(((cs.take (i+1)).sum:Nat):Int)=A1 at*
  generalize((cs.getD i 0:Nat):Int)=B at*
  generalize((i+1:Nat):Int)=I at*
  simp[hlt,hms,ix,h4,g,w1,w2]
theorem qim(x:Nat)(hx:x<64):run cxX 170 [.ptr m 0 0,.sc (.int .i64 (x:Int))] hp=some (.tup [.sc (.int .i64 ((cs.take x).sum:Nat)),.sc (.int .i64 (cs.getD x 0:Nat))],hp):=by
 have sz:=qch hp m cb cs h
 have lp:=qtk hp m cb cs h hs hcl x hx x 0 qe
 obtain⟨h1,h2,h3,h4,h5⟩:=h
 have hms:∀a b c d e,zg (.ms a b c d e)=some (a,b,c,d,e):=fun _ _ _ _ _=>rfl
 have hln:∀a b c d e,xU (.ms a b c d e)=some d:=fun _ _ _ _ _=>rfl
 have hn0:¬((x:Int)<0):=qe
 have hge:¬((x:Int)>=(cs.length:Int)):=qe
 have b1:zo 0 (cs.length:Int) (some (.int .i64 (x:Int))) cs.length=some x:=xY .i64 qe
 have b3:B170_3 (.ptr m 0 0) (.int .i64 (x:Int)) hp=some (.tup [.sc (.int .i64 ((cs.take x).sum:Nat)),.sc (.int .i64 (cs.getD x 0:Nat))],hp):=by
  rw[<-lp,qwp]
  simp[h5,qs,hms,b1,hln]
 rw[E170]
 generalize(cs.take x).sum=A at*
 generalize cs.getD x 0=B at*
 have hge':¬((cs.length:Int)<=(x:Int)):=hge
 simp[hn0,sz,hge',b3]
end
def hf(d:List Nat)(i:Nat):List Nat:=(d.take i).map (fun n=>(n+1)/2)++d.drop i
@[simp] theorem hf_len(d:List Nat)(i:Nat):(hf d i).length=d.length:=by unfold hf;simp;omega
theorem zba(d:List Nat)(i:Nat)(hi:i<d.length):(hf d i).getD i 0=d.getD i 0:=by
 unfold hf
 rw[znb,zny qi,znb]
 simp
 congr 2
 omega
theorem qhe(d:List Nat)(i:Nat)(hi:i<d.length):hf d (i+1)=(hf d i).set i ((d.getD i 0+1)/2):=by
 have e1:d.getD i 0=d[i]:=by rw[znb,zng hi];rfl
 have e2:d.take (i+1)=d.take i++[d[i]]:=by rw[zpi,zng hi];rfl
 have e3:d.drop i=d[i]::d.drop (i+1):=zn6 hi
 unfold hf
 rw[e1,e2,e3,List.map_append,znv,zqp _ _ qi]
 have e4:i-((d.take i).map fun n=>(n+1)/2).length=0:=qi
 rw[e4]
 rfl
theorem zbb(d:List Nat):hf d d.length=d.map fun n=>(n+1)/2:=by unfold hf;simp
theorem qyh(m cb:Nat)(d:List Nat)(hd:d.length=64)(hs:d.sum<=1000000):∀(f i:Nat) (hp:Hp),i+f=64->m<hp.next->cb<hp.next->cb≠m->hp.rd cb 0=some (LI .i64 (nz (hf d i)))->
 hp.rd m 0=some [.ms cb 0 0 64 1,.sc (.int .i64 ((((d.take i).map fun n=>(n+1)/2).sum:Nat):Int))]->
 ∃hp',B173_6 (.ptr m 0 0) (.ms cb 0 0 64 1) (.int .i64 64) (.int .i64 (i:Int)) hp=some (.tup [],hp')/\MW hp' m cb (d.map fun n=>(n+1)/2)/\hp'.next=hp.next/\∀c,c≠m->c≠cb->hp'.get c=hp.get c:=by
 have hms:∀a b c d e,zg (.ms a b c d e)=some (a,b,c,d,e):=fun _ _ _ _ _=>rfl
 intro f
 induction f with
 |zero=>
  intro i hp hi h1 h2 h3 h4 h5
  have e:i=64:=qe
  subst e
  have ef:hf d 64=d.map fun n=>(n+1)/2:=by rw[<-hd,zbb]
  have et:d.take 64=d:=by rw[<-hd,zpm]
  rw[ef]at h4
  rw[et]at h5
  refine⟨hp,?_,⟨h1,h2,h3,h4,by simp only[zpb,hd];exact h5⟩,rfl,fun _ _ _=>rfl⟩
  rw[qen]
  simp
 |succ f ih=>
  intro i hp hi h1 h2 h3 h4 h5
  have hid:i<d.length:=qe
  have hlt:(i:Int)<64:=qe
  have ix:idx 64 (.int .i64 (i:Int))=some i:=zr .i64 qe
  have g:=jQ .i64 (nz (hf d i)) i qi
  rw[yX _ i qi,zba d i hid]at g
  have hx:d.getD i 0<=1000000:=by
   have:=qQ d i hid
   have:=qR d (i+1)
   omega
  have p:=xC .i64 (nz (hf d i)) i (((d.getD i 0+1)/2:Nat):Int) qi
  have es:(nz (hf d i)).set i (((d.getD i 0+1)/2:Nat):Int)=nz (hf d (i+1)):=by
   rw[qhe d i hid];unfold nz;rw[zrz]
  rw[es]at p
  have g2:=jQ .i64 (nz (hf d (i+1))) i qi
  have eg:(hf d (i+1)).getD i 0=(d.getD i 0+1)/2:=by
   rw[qhe d i hid,znb,zqn]
   simp[hid]
  rw[yX _ i qi,eg]at g2
  have sm:((d.take (i+1)).map fun n=>(n+1)/2).sum=((d.take i).map fun n=>(n+1)/2).sum+(d.getD i 0+1)/2:=by
   have e2:d.take (i+1)=d.take i++[d.getD i 0]:=by
    rw[zpi,znb,zng hid];rfl
   rw[e2];simp
  have sb:((d.take i).map fun n=>(n+1)/2).sum<=2000000:=by
   have a:=qh5 (d.take i)
   have b:=qR d i
   have c:(d.take i).length<=64:=qi
   omega
  have w1:IntKind.i64.wrap (((d.getD i 0:Nat):Int)+1)=((d.getD i 0+1:Nat):Int):=qj
  have q2:∀t o o',qy Tryz.prog .quo t o o' (.int .i64 ((d.getD i 0+1:Nat):Int)) (.int .i64 2)=some (.int .i64 (((d.getD i 0+1)/2:Nat):Int)):=by
   intro t o o'
   rw[yB _ _ _ _ _ _ _ qe,zoi qe,qm qe qe]
   rfl
  have w3:IntKind.i64.wrap (((((d.take i).map fun n=>(n+1)/2).sum:Nat):Int)+(((d.getD i 0+1)/2:Nat):Int))=((((d.take (i+1)).map fun n=>(n+1)/2).sum:Nat):Int):=by rw[sm,qm]<;>omega
  have w4:IntKind.i64.wrap ((i:Int)+1)=((i+1:Nat):Int):=qj
  have r5:∀x,(hp.put cb 0 x).rd m 0=hp.rd m 0:=fun x=>qB _ _ (fun e=>h3 e.symm)
  obtain⟨hp2,a1,a2,a3,a4⟩:=ih (i+1) ((hp.put cb 0 (LI .i64 (nz (hf d (i+1))))).put m 0 [.ms cb 0 0 64 1,.sc (.int .i64 ((((d.take (i+1)).map fun n=>(n+1)/2).sum:Nat):Int))]) qe (by simpa using h1) (by simpa using h2) h3
   (by rw[qB _ _ h3,qr]) (qr _ _ _)
  refine⟨hp2,?_,a2,by rw[a3];rfl,fun c c1 c2=>by rw[a4 c c1 c2];simp[Hp.put,c1,c2]⟩
  rw[<-a1,qen]
  generalize nz (hf d (i+1))=L1 at*
  generalize nz (hf d i)=L0 at*
  generalize((((d.take (i+1)).map fun n=>(n+1)/2).sum:Nat):Int)=S1 at*
  generalize((((d.take i).map fun n=>(n+1)/2).sum:Nat):Int)=S0 at*
  generalize(((d.getD i 0+1)/2:Nat):Int)=y2 at*
  generalize((d.getD i 0+1:Nat):Int)=y1 at*
  generalize((d.getD i 0:Nat):Int)=y0 at*
  generalize((i+1:Nat):Int)=I at*
  have gs1:∀(x:AV) (v:Value),ql [x,.sc v] 1=some v:=fun _ _=>rfl
  have gc0:∀(x:AV) (l:List AV),qs (x::l) 0=some x:=fun _ _=>rfl
  have pn:∀(x y z:AV),qo [x,y] 1 [z]=some [x,z]:=fun _ _ _=>rfl
  simp[hlt,hms,ix,h4,g,h5,gc0,w1,q2,p,r5,gs1,qr,g2,w3,pn,w4]
theorem qp8(hp:Hp)(m cb x:Nat)(cs:List Nat)(h:MW hp m cb cs)(hm:okM cs)(hx:x<64):
 ∃hp',run cxX 173 [.ptr m 0 0,.sc (.int .i64 (x:Int))] hp=some (.tup [],hp')/\MW hp' m cb (YJ cs x)/\hp'.next=hp.next/\∀c,c≠m->c≠cb->hp'.get c=hp.get c:=by
 have sz:=qch hp m cb cs h
 obtain⟨h1,h2,h3,h4,h5⟩:=h
 obtain⟨m1,m2,m3⟩:=hm
 have hms:∀a b c d e,zg (.ms a b c d e)=some (a,b,c,d,e):=fun _ _ _ _ _=>rfl
 have hln:∀a b c d e,xU (.ms a b c d e)=some d:=fun _ _ _ _ _=>rfl
 have hn0:¬((x:Int)<0):=qe
 have hge:¬((cs.length:Int)<=(x:Int)):=qe
 have ix:idx cs.length (.int .i64 (x:Int))=some x:=zr .i64 qe
 have g:=jQ .i64 (nz cs) x qi
 rw[yX cs x qe]at g
 have st:=qQ cs x qe
 have sl:=qR cs (x+1)
 have ss:=qf4 cs x (cs.getD x 0+24) qe
 have w1:IntKind.i64.wrap (((cs.getD x 0:Nat):Int)+24)=((cs.getD x 0+24:Nat):Int):=qj
 have p:=xC .i64 (nz cs) x ((cs.getD x 0+24:Nat):Int) qi
 have es:(nz cs).set x ((cs.getD x 0+24:Nat):Int)=nz (cs.set x (cs.getD x 0+24)):=by unfold nz;rw[zrz]
 rw[es]at p
 have r5:∀y,(hp.put cb 0 y).rd m 0=hp.rd m 0:=fun y=>qB _ _ (fun e=>h3 e.symm)
 have w2:IntKind.i64.wrap (((cs.sum:Nat):Int)+24)=(((cs.set x (cs.getD x 0+24)).sum:Nat):Int):=qj
 have dl:(cs.set x (cs.getD x 0+24)).length=64:=by simp[m1]
 have gs1:∀(x:AV) (v:Value),ql [x,.sc v] 1=some v:=fun _ _=>rfl
 have gc0:∀(x:AV) (l:List AV),qs (x::l) 0=some x:=fun _ _=>rfl
 have pn:∀(x y z:AV),qo [x,y] 1 [z]=some [x,z]:=fun _ _ _=>rfl
 rw[m1]at h5 ix sz hge
 unfold YJ
 generalize cs.set x (cs.getD x 0+24)=d at*
 by_cases hle:d.sum<=4096
 ·rw[if_pos hle]
  refine⟨(hp.put cb 0 (LI .i64 (nz d))).put m 0 [.ms cb 0 0 64 1,.sc (.int .i64 (d.sum:Nat))],?_,⟨h1,h2,h3,by rw[qB _ _ h3,qr],by rw[qr,dl]⟩,rfl,fun c c1 c2=>by simp[Hp.put,c1,c2]⟩
  have hle':((d.sum:Nat):Int)<=4096:=qe
  rw[E173]
  have b1:B173_1 (.ptr m 0 0) (.int .i64 (x:Int)) hp=some (.tup [],(hp.put cb 0 (LI .i64 (nz d))).put m 0 [.ms cb 0 0 64 1,.sc (.int .i64 (d.sum:Nat))]):=by
   rw[qeo]
   generalize((d.sum:Nat):Int)=D at*
   generalize((cs.getD x 0+24:Nat):Int)=y1 at*
   generalize((cs.getD x 0:Nat):Int)=y0 at*
   simp[h5,gc0,hms,ix,h4,g,w1,p,r5,gs1,w2,pn,qr,hle']
  have hge2:¬((64:Int)<=(x:Int)):=qe
  simp[hn0,sz,hge2,b1]
 ·rw[if_neg hle]
  have e0:hf d 0=d:=by unfold hf;simp
  obtain⟨hp2,a1,a2,a3,a4⟩:=qyh m cb d dl qe 64 0 ((hp.put cb 0 (LI .i64 (nz d))).put m 0 [.ms cb 0 0 64 1,.sc (.int .i64 0)]) rfl h1 h2 h3 (by rw[qB _ _ h3,qr,e0]) (by rw[qr];rfl)
  refine⟨hp2,?_,a2,by rw[a3];rfl,fun c c1 c2=>by rw[a4 c c1 c2];simp[Hp.put,c1,c2]⟩
  have hle':¬(((d.sum:Nat):Int)<=4096):=qe
  rw[E173]
  have b1:B173_1 (.ptr m 0 0) (.int .i64 (x:Int)) hp=some (.tup [],hp2):=by
   rw[<-a1,qeo]
   generalize((d.sum:Nat):Int)=D at*
   generalize((cs.getD x 0+24:Nat):Int)=y1 at*
   generalize((cs.getD x 0:Nat):Int)=y0 at*
   simp[h5,gc0,hms,ix,h4,g,w1,p,r5,gs1,w2,pn,qr,hle',qC,hln]
  have hge2:¬((64:Int)<=(x:Int)):=qe
  simp[hn0,sz,hge2,b1]
abbrev EC(m:Nat)(s:En)(k:Nat)(n:Nat):List AV:=[.ptr m 0 0,.sc (.int .u64 (s.low:Int)),.sc (.int .u32 (s.width:Int)),.sc (.int .i64 (s.held:Int)),.sc (.int .u8 (s.last:Int)),.sc (.bool s.begun),S k 1 (LI .u8 s.out),.sc (.int .i64 (n:Int))]
theorem zhy(x:Nat)(hx:x<18446744073709551616)(t:TypeId)(o o':Operand):qy Tryz.prog .and t o o' (.int .u64 (x:Int)) (.int .u64 16777215)=some (.int .u64 ((x%16777216:Nat):Int)):=by
 have a:=qdv x 16777215 hx qe t o o'
 have e:x&&&16777215=x%16777216:=zp6 x 24
 rw[e]at a
 exact a
theorem zhr{hp:Hp}{b:Nat}{x:List AV}(h:hp.rd b 0=some x):hp.get b=some (0,x):=by
 unfold Hp.rd at h
 obtain⟨p,hp1,h⟩:=bsm h
 split at h
 ·rename_i e
  cases h
  rw[hp1]
  obtain⟨p1,p2⟩:=p
  have:p1=0:=e.1
  subst this;rfl
 ·cases h
theorem Zc{k b:Nat}{hp:Hp}{l:List AV}{v:Value}{K:Value->RO}(h:hp.rd b 0=some l)(g:ql l k=some v):yj k (ro (.ptr b 0 0)) hp K=K v:=by
 have g':ql l (0+k)=some v:=by rw[znk];exact g
 simp only[yj,lpS,ziq,zfu,vO,h,g',znc]
theorem Yv{t:TypeId}{n:Tmp}{k:IntKind}{x y:Int}{a b:RO}:iC .lss t n (.int k x) (.int k y) a b=cond (decide (x<y)) a b:=by simp only[iC,Jf,jN,znc]
theorem za8{t:TypeId}{n:Tmp}{k:IntKind}{x y:Int}{a b:RO}:iC .geq t n (.int k x) (.int k y) a b=cond (decide (x>=y)) a b:=by simp only[iC,Jg,jN,znc]
theorem qhg(x1:AV)(v:Value)(r:List AV):ql (x1::.sc v::r) 1=some v:=rfl
section
variable (e m k n:Nat)(hk:k=1\/k=2)
include hk
theorem qp5(c:Nat)(hc:c<256):∀(f:Nat) (s:En) (hp:Hp),s.held=f->s.low<18446744073709551616->s.out.length+f<=1000000->hp.rd e 0=some (EC m s k n)->
 B172_4 (.ptr e 0 0) (.int .u8 (c:Int)) hp=some (.tup [],hp.put e 0 (EC m ⟨s.low%16777216*256,s.width,0,s.low/16777216%256,true,s.out++List.replicate f (((255+c)%256:Nat):Int)⟩ k n)):=by
 intro f
 induction f with
 |zero=>
  intro s hp hh hlow hol h
  have sh:=fun t o o'=>xh .u64 s.low 24 qh t o o' .u64
  have e24:s.low/2^24=s.low/16777216:=qe
  rw[e24]at sh
  have i24:((24:Nat):Int)=24:=rfl
  rw[i24]at sh
  have w1:IntKind.u8.wrap ((s.low/16777216:Nat):Int)=((s.low/16777216%256:Nat):Int):=by rw[Qf];rfl
  have a:=zhy s.low hlow
  have s8:∀t o o',qy Tryz.prog .shl t o o' (.int .u64 ((s.low%16777216:Nat):Int)) (.int .u64 8)=some (.int .u64 ((s.low%16777216*256:Nat):Int)):=by
   intro t o o'
   rw[zW _ _ _ _ _ _ _ _ qe]
   have e2:(2:Int)^min (8:Int).toNat IntKind.u64.bits=256:=rfl
   have e3:((s.low%16777216:Nat):Int)*256=((s.low%16777216*256:Nat):Int):=qe
   rw[e2,e3,qu qe qe]
  have hh0:(s.held:Int)=0:=qe
  rw[qeq]
  obtain⟨low,width,held,last,begun,out⟩:=s
  simp only at h hh hh0 hlow sh w1 a s8
  subst hh
  simp only[EC,List.replicate_zero,znz]at h⊢
  generalize((low%16777216*256:Nat):Int)=y1 at*
  generalize((low%16777216:Nat):Int)=y2 at*
  generalize((low/16777216%256:Nat):Int)=y3 at*
  generalize((low/16777216:Nat):Int)=y4 at*
  have gs:∀(x1 x2 x3:AV) (v:Value) (r:List AV),ql (x1::x2::x3::.sc v::r) 3=some v:=fun _ _ _ _ _=>rfl
  have gs1:∀(x1:AV) (v:Value) (r:List AV),ql (x1::.sc v::r) 1=some v:=fun _ _ _=>rfl
  have p5:∀(x0 x1 x2 x3 x4 x5 x6 x7 z:AV),qo [x0,x1,x2,x3,x4,x5,x6,x7] 5 [z]=some [x0,x1,x2,x3,x4,z,x6,x7]:=fun _ _ _ _ _ _ _ _ _=>rfl
  have p4:∀(x0 x1 x2 x3 x4 x5 x6 x7 z:AV),qo [x0,x1,x2,x3,x4,x5,x6,x7] 4 [z]=some [x0,x1,x2,x3,z,x5,x6,x7]:=fun _ _ _ _ _ _ _ _ _=>rfl
  have p1:∀(x0 x1 x2 x3 x4 x5 x6 x7 z:AV),qo [x0,x1,x2,x3,x4,x5,x6,x7] 1 [z]=some [x0,z,x2,x3,x4,x5,x6,x7]:=fun _ _ _ _ _ _ _ _ _=>rfl
  simp[h,gs,gs1,sh,Xu,w1,p5,p4,p1,qC,qr,qep,a,s8,-zk]
 |succ f ih=>
  intro s hp hh hlow hol h
  obtain⟨low,width,held,last,begun,out⟩:=s
  simp only at h hh hlow hol
  subst hh
  have hpos:((f+1:Nat):Int)>0:=qe
  have w1:IntKind.u8.wrap (255+(c:Int))=(((255+c)%256:Nat):Int):=by rw[Qf];rfl
  have w2:IntKind.i64.wrap (((f+1:Nat):Int)-1)=(f:Int):=qj
  have ap:=Qz .u8 out k hk 1 qh (((255+c)%256:Nat):Int) qe
  have hi:=ih ⟨low,width,f,last,begun,out++[(((255+c)%256:Nat):Int)]⟩ (hp.put e 0 (EC m ⟨low,width,f,last,begun,out++[(((255+c)%256:Nat):Int)]⟩ k n)) rfl hlow qi (qr _ _ _)
  rw[qC]at hi
  have e1:out++List.replicate (f+1) (((255+c)%256:Nat):Int)=out++[(((255+c)%256:Nat):Int)]++List.replicate f (((255+c)%256:Nat):Int):=by simp[zpj]
  simp only[e1]
  rw[<-hi,qeq]
  generalize(((255+c)%256:Nat):Int)=y at*
  generalize((f+1:Nat):Int)=F at*
  simp only[EC]at h
  have gs:∀(x1 x2 x3:AV) (v:Value) (r:List AV),ql (x1::x2::x3::.sc v::r) 3=some v:=fun _ _ _ _ _=>rfl
  have gc6:∀(x0 x1 x2 x3 x4 x5 x6 x7:AV),qs [x0,x1,x2,x3,x4,x5,x6,x7] 6=some x6:=fun _ _ _ _ _ _ _ _=>rfl
  have p6:∀(x0 x1 x2 x3 x4 x5 x6 x7 z:AV),qo [x0,x1,x2,x3,x4,x5,x6,x7] 6 [z]=some [x0,x1,x2,x3,x4,x5,z,x7]:=fun _ _ _ _ _ _ _ _ _=>rfl
  have p3:∀(x0 x1 x2 x3 x4 x5 x6 x7 z:AV),qo [x0,x1,x2,x3,x4,x5,x6,x7] 3 [z]=some [x0,x1,x2,z,x4,x5,x6,x7]:=fun _ _ _ _ _ _ _ _ _=>rfl
  have st6:∀(x0 x1 x2 x3 x4 x5 x6 x7 z:AV),[x0,x1,x2,x3,x4,x5,x6,x7].set 6 z=[x0,x1,x2,x3,x4,x5,z,x7]:=fun _ _ _ _ _ _ _ _ _=>rfl
  have w9:IntKind.i64.wrap (f:Int)=(f:Int):=qm qe qe
  simp[h,gs,hpos,gc6,w1,yC,ap,st6,qr,p6,qC,w2,w9,p3]
theorem zec(s:En)(hp:Hp)(hlow:s.low<18446744073709551616)(hol:s.out.length+s.held+1<=1000000)(h:hp.rd e 0=some (EC m s k n))(c0:Nat)(hc0:c0=s.low/4294967296):
 B172_1 (.ptr e 0 0) hp=some (.tup [],hp.put e 0 (EC m ⟨s.low%16777216*256,s.width,0,s.low/16777216%256,true,s.out++(if s.begun then [(((s.last+c0%256)%256:Nat):Int)]else [])++List.replicate s.held (((255+c0%256)%256:Nat):Int)⟩ k n)):=by
 have gs4:∀(x0 x1 x2 x3:AV) (v:Value) (r:List AV),ql (x0::x1::x2::x3::.sc v::r) 4=some v:=fun _ _ _ _ _ _=>rfl
 have gs5:∀(x0 x1 x2 x3 x4:AV) (v:Value) (r:List AV),ql (x0::x1::x2::x3::x4::.sc v::r) 5=some v:=fun _ _ _ _ _ _ _=>rfl
 have gc6:∀(x0 x1 x2 x3 x4 x5 x6 x7:AV),qs [x0,x1,x2,x3,x4,x5,x6,x7] 6=some x6:=fun _ _ _ _ _ _ _ _=>rfl
 have p6:∀(x0 x1 x2 x3 x4 x5 x6 x7 z:AV),qo [x0,x1,x2,x3,x4,x5,x6,x7] 6 [z]=some [x0,x1,x2,x3,x4,x5,z,x7]:=fun _ _ _ _ _ _ _ _ _=>rfl
 have st6:∀(x0 x1 x2 x3 x4 x5 x6 x7 z:AV),[x0,x1,x2,x3,x4,x5,x6,x7].set 6 z=[x0,x1,x2,x3,x4,x5,z,x7]:=fun _ _ _ _ _ _ _ _ _=>rfl
 have sh32:∀t o o',qy Tryz.prog .shr t o o' (.int .u64 (s.low:Int)) (.int .u64 32)=some (.int .u64 (c0:Int)):=by
  intro t o o'
  have a:=xh .u64 s.low 32 qh t o o' .u64
  have e32:s.low/2^32=c0:=qe
  rw[e32]at a
  exact a
 clear hc0
 have w1:IntKind.u8.wrap (c0:Int)=((c0%256:Nat):Int):=by rw[Qf];rfl
 have w2:IntKind.u8.wrap ((s.last:Int)+((c0%256:Nat):Int))=(((s.last+c0%256)%256:Nat):Int):=by rw[Qf];rfl
 have ap:=Qz .u8 s.out k hk 1 qh (((s.last+c0%256)%256:Nat):Int) qe
 rw[qwo]
 cases hb:s.begun
 ·have f4:=qp5 e m k n hk (c0%256) qe s.held s hp rfl hlow qe h
  rw[if_neg qh,znz,<-f4]
  simp only[EC,hb]at h
  generalize((c0%256:Nat):Int)=cc at*
  simp[h,qhg,sh32,Xu,w1,gs5]
 ·rw[if_pos rfl]
  have f4:=qp5 e m k n hk (c0%256) qe s.held ⟨s.low,s.width,s.held,s.last,true,s.out++[(((s.last+c0%256)%256:Nat):Int)]⟩ (hp.put e 0 (EC m ⟨s.low,s.width,s.held,s.last,true,s.out++[(((s.last+c0%256)%256:Nat):Int)]⟩ k n)) rfl hlow qi (qr _ _ _)
  rw[qC]at f4
  rw[<-f4]
  simp only[EC,hb]at h⊢
  have hg:=zhr h
  have sg:∀X:AV,xz (AV.ptr e 0 4,1) hp.get (hp.put e 0 [AV.ptr m 0 0,.sc (.int .u64 (s.low:Int)),.sc (.int .u32 (s.width:Int)),.sc (.int .i64 (s.held:Int)),.sc (.int .u8 (s.last:Int)),.sc (.bool true),X,.sc (.int .i64 (n:Int))]).get=some ():=by
   intro X
   refine ZF ?_
   have e1:∀Y:List AV,(hp.put e 0 Y).get e=some (0,Y):=fun Y=>by simp[Hp.put]
   unfold yO
   simp only[YE,vO,znc,hg,e1]
   rfl
  generalize(((s.last+c0%256)%256:Nat):Int)=ll at*
  generalize((c0%256:Nat):Int)=cc at*
  clear f4
  simp[h,qhg,sh32,Xu,w1,gs5,gc6,st6,qr,gs4,w2,yC,ap,p6,qC,sg]
omit hk in
theorem zeb(s:En)(hp:Hp)(hlow:s.low<18446744073709551616)(hheld:s.held<1000000)(h:hp.rd e 0=some (EC m s k n)):
 B172_8 (.ptr e 0 0) hp=some (.tup [],hp.put e 0 (EC m ⟨s.low%16777216*256,s.width,s.held+1,s.last,s.begun,s.out⟩ k n)):=by
 have gs3:∀(x1 x2 x3:AV) (v:Value) (r:List AV),ql (x1::x2::x3::.sc v::r) 3=some v:=fun _ _ _ _ _=>rfl
 have p3:∀(x0 x1 x2 x3 x4 x5 x6 x7 z:AV),qo [x0,x1,x2,x3,x4,x5,x6,x7] 3 [z]=some [x0,x1,x2,z,x4,x5,x6,x7]:=fun _ _ _ _ _ _ _ _ _=>rfl
 have p1:∀(x0 x1 x2 x3 x4 x5 x6 x7 z:AV),qo [x0,x1,x2,x3,x4,x5,x6,x7] 1 [z]=some [x0,z,x2,x3,x4,x5,x6,x7]:=fun _ _ _ _ _ _ _ _ _=>rfl
 have w3:IntKind.i64.wrap ((s.held:Int)+1)=((s.held+1:Nat):Int):=qj
 have a24:=zhy s.low hlow
 have s8:∀t o o',qy Tryz.prog .shl t o o' (.int .u64 ((s.low%16777216:Nat):Int)) (.int .u64 8)=some (.int .u64 ((s.low%16777216*256:Nat):Int)):=by
  intro t o o'
  rw[zW _ _ _ _ _ _ _ _ qe]
  have e2:(2:Int)^min (8:Int).toNat IntKind.u64.bits=256:=rfl
  have e3:((s.low%16777216:Nat):Int)*256=((s.low%16777216*256:Nat):Int):=qe
  rw[e2,e3,qu qe qe]
 simp only[EC]at h⊢
 rw[qwn]
 generalize((s.low%16777216*256:Nat):Int)=y1 at*
 generalize((s.low%16777216:Nat):Int)=y2 at*
 generalize((s.held+1:Nat):Int)=hh at*
 simp[h,gs3,w3,p3,qr,qC,qep,qhg,a24,s8,p1,-zk]
theorem qcd(s:En)(hp:Hp)(hlow:s.low<18446744073709551616)(hheld:s.held<1000000)(hol:s.out.length+s.held+1<=1000000)(h:hp.rd e 0=some (EC m s k n)):
 run cxX 172 [.ptr e 0 0] hp=some (.tup [],hp.put e 0 (EC m (sh s) k n)):=by
 have s1:=zec e m k n hk s hp hlow hol h _ rfl
 have s8:=zeb e m k n s hp hlow hheld h
 have hR:hp.rd e 0=some (AV.ptr m 0 0::.sc (.int .u64 (s.low:Int))::(EC m s k n).drop 2):=h
 rw[E172]
 by_cases hA:s.low<4278190080\/4294967296<=s.low
 ·have es:sh s=⟨s.low%16777216*256,s.width,0,s.low/16777216%256,true,s.out++(if s.begun then [(((s.last+s.low/4294967296%256)%256:Nat):Int)]else [])++List.replicate s.held (((255+s.low/4294967296%256)%256:Nat):Int)⟩:=by
   unfold sh;rw[if_pos hA]
  rw[<-es]at s1
  by_cases h1:s.low<4278190080
  ·have d1:decide ((s.low:Int)<Int.ofNat 4278190080)=true:=decide_eq_true (by show(s.low:Int)<((4278190080:Nat):Int);omega)
   rw[Zc hR (qhg _ _ _),Yv,d1,cond_true,s1]
  ·have d1:decide ((s.low:Int)<Int.ofNat 4278190080)=false:=decide_eq_false (by show ¬((s.low:Int)<((4278190080:Nat):Int));omega)
   have d2:decide ((s.low:Int)>=Int.ofNat 4294967296)=true:=decide_eq_true (by show(s.low:Int)>=((4294967296:Nat):Int);omega)
   rw[Zc hR (qhg _ _ _),Yv,d1,cond_false,Zc hR (qhg _ _ _),za8,d2,cond_true,s1]
 ·have es:sh s=⟨s.low%16777216*256,s.width,s.held+1,s.last,s.begun,s.out⟩:=by
   unfold sh;rw[if_neg hA]
  rw[<-es]at s8
  have d1:decide ((s.low:Int)<Int.ofNat 4278190080)=false:=decide_eq_false (by show ¬((s.low:Int)<((4278190080:Nat):Int));omega)
  have d2:decide ((s.low:Int)>=Int.ofNat 4294967296)=false:=decide_eq_false (by show ¬((s.low:Int)>=((4294967296:Nat):Int));omega)
  rw[Zc hR (qhg _ _ _),Yv,d1,cond_false,Zc hR (qhg _ _ _),za8,d2,cond_false,s8]
end
def EW(hp:Hp)(e m cb:Nat)(s:En)(cs:List Nat)(k n:Nat):Prop:=e<hp.next/\hp.rd e 0=some (EC m s k n)/\MW hp m cb cs/\e≠m/\e≠cb
def F3(e m cb:Nat)(hp hp':Hp):Prop:=hp'.next=hp.next/\∀c,c≠e->c≠m->c≠cb->hp'.get c=hp.get c
theorem F3.trans{e m cb:Nat}{a b c:Hp}(h:F3 e m cb a b)(g:F3 e m cb b c):F3 e m cb a c:=
 ⟨by rw[g.1,h.1],fun x h1 h2 h3=>by rw[g.2 x h1 h2 h3,h.2 x h1 h2 h3]⟩
theorem EW.put{hp:Hp}{e m cb:Nat}{s s':En}{cs:List Nat}{k n k' n':Nat}(h:EW hp e m cb s cs k n):EW (hp.put e 0 (EC m s' k' n')) e m cb s' cs k' n'/\F3 e m cb hp (hp.put e 0 (EC m s' k' n')):=by
 obtain⟨h1,h2,h3,h4,h5⟩:=h
 refine⟨⟨h1,qr _ _ _,h3.fr (Fm.put (X:=[e]) hp e _ qg) (by simp;exact fun q=>h4 q.symm) (by simp;exact fun q=>h5 q.symm),h4,h5⟩,rfl,fun c c1 c2 c3=>by simp[Hp.put,c1]⟩
theorem gs2E(x0 x1:AV)(v:Value)(r:List AV):ql (x0::x1::.sc v::r) 2=some v:=rfl
section
variable (e m cb k:Nat)(hk:k=1\/k=2)
include hk
theorem qtw(x:Nat)(hx:x<64)(cs:List Nat)(hm:okM cs)(n:Nat)(hn:n<1000000):∀(f:Nat) (s:En) (hp:Hp),EW hp e m cb s cs k n->ZN s s.width->s.width<4294967296->4294967296<=s.width*256^f*256->eK s+f<=900000->
 ∃hp',B108_9 (.ptr e 0 0) (.int .i64 (x:Int)) hp=some (.sc (.bool true),hp')/\EW hp' e m cb (zG f s) (YJ cs x) k (n+1)/\F3 e m cb hp hp':=by
 intro f
 have gs2:∀(x0 x1:AV) (v:Value) (r:List AV),ql (x0::x1::.sc v::r) 2=some v:=fun _ _ _ _=>rfl
 have gs7:∀(x0 x1 x2 x3 x4 x5 x6:AV) (v:Value),ql [x0,x1,x2,x3,x4,x5,x6,.sc v] 7=some v:=fun _ _ _ _ _ _ _ _=>rfl
 have gc0:∀(x:AV) (l:List AV),qs (x::l) 0=some x:=fun _ _=>rfl
 have p7:∀(x0 x1 x2 x3 x4 x5 x6 x7 z:AV),qo [x0,x1,x2,x3,x4,x5,x6,x7] 7 [z]=some [x0,x1,x2,x3,x4,x5,x6,z]:=fun _ _ _ _ _ _ _ _ _=>rfl
 have p2:∀(x0 x1 x2 x3 x4 x5 x6 x7 z:AV),qo [x0,x1,x2,x3,x4,x5,x6,x7] 2 [z]=some [x0,x1,z,x3,x4,x5,x6,x7]:=fun _ _ _ _ _ _ _ _ _=>rfl
 have done:∀(s:En) (hp:Hp),EW hp e m cb s cs k n->¬(s.width<16777216)->∃hp',B108_9 (.ptr e 0 0) (.int .i64 (x:Int)) hp=some (.sc (.bool true),hp')/\EW hp' e m cb s (YJ cs x) k (n+1)/\F3 e m cb hp hp':=by
  intro s hp h hw
  obtain⟨h1,h2,h3,h4,h5⟩:=h
  obtain⟨hp1,a1,a2,a3,a4⟩:=qp8 hp m cb x cs h3 hm hx
  have r1:hp1.rd e 0=some (EC m s k n):=by rw[xO (a4 e h4 h5)];exact h2
  have w1:IntKind.i64.wrap ((n:Int)+1)=((n+1:Nat):Int):=qj
  have hE:EW hp1 e m cb s (YJ cs x) k n:=⟨by rw[a3];exact h1,r1,a2,h4,h5⟩
  obtain⟨q1,q2⟩:=hE.put (s':=s) (k':=k) (n':=n+1)
  refine⟨hp1.put e 0 (EC m s k (n+1)),?_,q1,⟨by rw[q2.1,a3],fun c c1 c2 c3=>by rw[q2.2 c c1 c2 c3,a4 c c2 c3]⟩⟩
  have d1:decide ((s.width:Int)<Int.ofNat 16777216)=false:=decide_eq_false (by show ¬((s.width:Int)<((16777216:Nat):Int));omega)
  clear hw
  simp only[EC]at h2 r1⊢
  rw[qfr]
  generalize((n+1:Nat):Int)=N at*
  rw[Zc h2 (gs2E _ _ _ _),Yv,d1,cond_false]
  clear d1
  simp[h2,gs2,gc0,a1,r1,gs7,w1,p7]
 induction f with
 |zero=>
  intro s hp h ho hw hf hK
  exact done s hp h (by simp at hf;omega)
 |succ f ih=>
  intro s hp h ho hw hf hK
  by_cases hl:s.width<16777216
  ·have en:zG (f+1) s=zG f (sh (XM s (s.width*256))):=by
    show(if s.width<16777216 then _ else _)=_
    rw[if_pos hl]
   have h':ZN (XM s (s.width*256)) s.width:=ho
   obtain⟨a1,a2,a3,a4⟩:=YP (XM s (s.width*256)) s.width h' qe
   have a4:(sh (XM s (s.width*256))).width=s.width*256:=a4
   have a3:eK (sh (XM s (s.width*256)))=eK s+1:=a3
   have hf2:4294967296<=s.width*256*256^f*256:=by
    rw[zo4]at hf
    have e:s.width*(256^f*256)*256=s.width*256*256^f*256:=by
     rw[zo8 s.width 256,zof 256 (256^f)]
    rwa [e]at hf
   obtain⟨q1,q2⟩:=h.put (s':=XM s (s.width*256)) (k':=k) (n':=n)
   have hlow:s.low<18446744073709551616:=by have:=ho.1;omega
   have hkk:s.out.length+s.begun.toNat+s.held<=900000:=by have:eK s=s.out.length+s.begun.toNat+s.held:=rfl;omega
   have sf:=qcd e m k n hk (XM s (s.width*256)) _ hlow (by show s.held<_;omega) (by show s.out.length+s.held+1<=_;omega) q1.2.1
   rw[qC]at sf
   obtain⟨v1,v2⟩:=h.put (s':=sh (XM s (s.width*256))) (k':=k) (n':=n)
   obtain⟨hp2,b1,b2,b3⟩:=ih (sh (XM s (s.width*256))) _ v1 (by rw[a4];exact a1) (by rw[a4];omega) (by rw[a4];exact hf2) qe
   rw[en]
   refine⟨hp2,?_,b2,v2.trans b3⟩
   have d1:decide ((s.width:Int)<Int.ofNat 16777216)=true:=decide_eq_true (by show(s.width:Int)<((16777216:Nat):Int);omega)
   have s8:∀t o o',qy Tryz.prog .shl t o o' (.int .u32 (s.width:Int)) (.int .u64 8)=some (.int .u32 ((s.width*256:Nat):Int)):=by
    intro t o o'
    rw[zW _ _ _ _ _ _ _ _ qe]
    have e2:(2:Int)^min (8:Int).toNat IntKind.u32.bits=256:=rfl
    have e3:(s.width:Int)*256=((s.width*256:Nat):Int):=qe
    rw[e2,e3,qK qe qe]
   have h2:=h.2.1
   have ew:EC m (XM s (s.width*256)) k n=[.ptr m 0 0,.sc (.int .u64 (s.low:Int)),.sc (.int .u32 ((s.width*256:Nat):Int)),.sc (.int .i64 (s.held:Int)),.sc (.int .u8 (s.last:Int)),.sc (.bool s.begun),S k 1 (LI .u8 s.out),.sc (.int .i64 (n:Int))]:=rfl
   rw[ew]at sf
   simp only[EC]at h2
   rw[<-b1,qfr]
   generalize((s.width*256:Nat):Int)=W at*
   rw[Zc h2 (gs2E _ _ _ _),Yv,d1,cond_true]
   clear d1
   simp[h2,gs2,s8,p2,sf]
  ·have en:zG (f+1) s=s:=by
    show(if s.width<16777216 then _ else _)=_
    rw[if_neg hl]
   rw[en]
   exact done s hp h hl
theorem qiz(x:Nat)(hx:x<64)(cs:List Nat)(hm:okM cs)(n:Nat)(hn:n<1000000)(s:En)(hp:Hp)(h:EW hp e m cb s cs k n)(ho:ZN s s.width)(hw:16777216<=s.width/\s.width<4294967296)(hK:eK s+4<=900000):
 ∃hp',run cxX 108 [.ptr e 0 0,.sc (.int .i64 (x:Int))] hp=some (.sc (.bool true),hp')/\EW hp' e m cb (zG 4 (xL s cs x)) (YJ cs x) k (n+1)/\F3 e m cb hp hp':=by
 obtain⟨m1,m2,m3⟩:=hm
 have hn1:1<=cs.getD x 0:=by
  rw[znb,zng qe]
  exact m3 _ (znr _)
 have ht:=qQ cs x qe
 have hta:=qR cs (x+1)
 have hpart:4096<=s.width/cs.sum:=by
  rw[zqf qe]
  have:4096*cs.sum<=4096*4096:=zok _ m2
  omega
 have hmul:s.width/cs.sum*cs.sum<=s.width:=zop _ _
 have hsum:s.width/cs.sum*(cs.take x).sum+s.width/cs.sum*cs.getD x 0<=s.width:=by
  rw[<-Nat.mul_add,<-ht]
  exact zon (zok _ hta) hmul
 have hge:s.width/cs.sum*1<=s.width/cs.sum*cs.getD x 0:=zok _ hn1
 have hpw:s.width/cs.sum<=s.width:=zpl _ _
 obtain⟨o1,o2,o3,o4⟩:=ho
 have ok:ZN (xL s cs x) (xL s cs x).width:=by
  refine⟨?_,o2,?_,fun q=>?_⟩
  ·show s.low+s.width/cs.sum*(cs.take x).sum+s.width/cs.sum*cs.getD x 0<=_;omega
  ·show 0<s.width/cs.sum*cs.getD x 0;omega
  ·have:=o4 q
   show s.low+s.width/cs.sum*(cs.take x).sum+s.width/cs.sum*cs.getD x 0<=_;omega
 obtain⟨q1,q2⟩:=h.put (s':=xL s cs x) (k':=k) (n':=n)
 obtain⟨hp1,b1,b2,b3⟩:=qtw e m cb k hk x hx cs ⟨m1,m2,m3⟩ n hn 4 (xL s cs x) _ q1 ok (by show s.width/cs.sum*cs.getD x 0<_;omega) (by
  show 4294967296<=s.width/cs.sum*cs.getD x 0*256^4*256
  have e:(256:Nat)^4=4294967296:=qh
  rw[e]
  omega) hK
 refine⟨hp1,?_,b2,q2.trans b3⟩
 have pt:=qim hp m cb cs h.2.2.1 qe m1 x hx
 have al:=Wk hp m cb cs h.2.2.1
 have h2:=h.2.1
 have en:EC m (xL s cs x) k n=[.ptr m 0 0,.sc (.int .u64 ((s.low+s.width/cs.sum*(cs.take x).sum:Nat):Int)),.sc (.int .u32 ((s.width/cs.sum*cs.getD x 0:Nat):Int)),.sc (.int .i64 (s.held:Int)),.sc (.int .u8 (s.last:Int)),.sc (.bool s.begun),S k 1 (LI .u8 s.out),.sc (.int .i64 (n:Int))]:=rfl
 rw[en]at b1
 have gs2:∀(x0 x1:AV) (v:Value) (r:List AV),ql (x0::x1::.sc v::r) 2=some v:=fun _ _ _ _=>rfl
 have gc0:∀(x:AV) (l:List AV),qs (x::l) 0=some x:=fun _ _=>rfl
 have p1:∀(x0 x1 x2 x3 x4 x5 x6 x7 z:AV),qo [x0,x1,x2,x3,x4,x5,x6,x7] 1 [z]=some [x0,z,x2,x3,x4,x5,x6,x7]:=fun _ _ _ _ _ _ _ _ _=>rfl
 have p2:∀(x0 x1 x2 x3 x4 x5 x6 x7 z:AV),qo [x0,x1,x2,x3,x4,x5,x6,x7] 2 [z]=some [x0,x1,z,x3,x4,x5,x6,x7]:=fun _ _ _ _ _ _ _ _ _=>rfl
 have w1:IntKind.u32.wrap ((cs.sum:Nat):Int)=((cs.sum:Nat):Int):=qK qe qe
 have qd:∀t o o',qy Tryz.prog .quo t o o' (.int .u32 (s.width:Int)) (.int .u32 (cs.sum:Nat))=some (.int .u32 ((s.width/cs.sum:Nat):Int)):=by
  intro t o o'
  rw[yB _ _ _ _ _ _ _ qe,zoi qe]
  have e:(s.width:Int)/((cs.sum:Nat):Int)=((s.width/cs.sum:Nat):Int):=qg
  rw[e,qK qe qe]
 have hcx:cs.getD x 0<=4096:=qe
 have htx:(cs.take x).sum<=4096:=qe
 simp only[EC]at h2
 rw[E108]
 have hz:¬(cs.getD x 0=0):=qe
 have e1:((s.width/cs.sum:Nat):Int)*(((cs.take x).sum:Nat):Int)=((s.width/cs.sum*(cs.take x).sum:Nat):Int):=qg
 have e2:((s.width/cs.sum:Nat):Int)*((cs.getD x 0:Nat):Int)=((s.width/cs.sum*cs.getD x 0:Nat):Int):=qg
 generalize hA:s.width/cs.sum*(cs.take x).sum=A at*
 generalize hB:s.width/cs.sum*cs.getD x 0=B at*
 generalize s.width/cs.sum=p at*
 generalize(cs.take x).sum=tk at*
 generalize cs.getD x 0=gx at*
 have w2:IntKind.u64.wrap (p:Int)=(p:Int):=qu qe qe
 have w3:IntKind.u64.wrap (tk:Int)=(tk:Int):=qu qe qe
 have w4:IntKind.u64.wrap ((p:Int)*(tk:Int))=(A:Int):=by rw[e1,qu qe qe]
 have w5:IntKind.u64.wrap ((s.low:Int)+(A:Int))=((s.low+A:Nat):Int):=by rw[qu]<;>omega
 have w6:IntKind.u32.wrap (gx:Int)=(gx:Int):=qK qe qe
 have w7:IntKind.u32.wrap ((p:Int)*(gx:Int))=(B:Int):=by rw[e2,qK qe qe]
 generalize((s.low+A:Nat):Int)=LA at*
 simp[h2,gc0,pt,hz,gs2,al,Xv,w1,qd,qhg,yz,w2,yq,w3,w4,w5,p1,w6,w7,qr,p2,qC,b1]
end
theorem VB:∀(f:Nat) (s:En),s.width<4294967296->(zG f s).width<4294967296:=by
 intro f
 induction f with
 |zero=>intro s h;exact h
 |succ f ih=>
  intro s h
  unfold zG
  split
  ·apply ih
   have:(sh (XM s (s.width*256))).width=s.width*256:=by unfold sh;split<;>rfl
   rw[this];omega
  ·exact h
theorem qzl{B d:Nat}(h1:1<=B)(h2:B*256^d<=4294967296):d<=4:=by
 by_cases h:d<=4
 ·exact h
 ·have h3:(256:Nat)^5<=256^d:=zoc qh qe
  have h4:1*256^d<=B*256^d:=znw _ h1
  have h5:(256:Nat)^5=1099511627776:=qh
  omega
theorem qko(b m n:Nat):∀(f i:Nat) (s:En) (hp:Hp),i+f=5->ZN s 1->eK s+f<=950000->hp.rd b 0=some (EC m s 1 n)->
 ∃s',(s'=(Nat.rec s (fun _ t=>sh t) f:En))/\∃hp',B111_6 (.ptr b 0 0) (.int .i64 (i:Int)) hp=some (S 1 1 (LI .u8 s'.out),hp')/\hp'.next=hp.next/\∀c,c≠b->hp'.get c=hp.get c:=by
 intro f
 induction f with
 |zero=>
  intro i s hp h ho hK hr
  have e:i=5:=qe
  subst e
  refine⟨s,rfl,hp.put b 0 ((EC m s 1 n).set 6 (ro1 (S 1 1 (LI .u8 s.out)))),?_,rfl,fun c hc=>by simp[Hp.put,hc]⟩
  rw[qfq]
  have gc6:∀(x0 x1 x2 x3 x4 x5 x6 x7:AV),qs [x0,x1,x2,x3,x4,x5,x6,x7] 6=some x6:=fun _ _ _ _ _ _ _ _=>rfl
  simp only[EC]at hr⊢
  simp[hr,gc6]
 |succ f ih=>
  intro i s hp h ho hK hr
  have s1:=YP s 1 ho qe
  have hkk:eK s=s.out.length+s.begun.toNat+s.held:=rfl
  have sf:=qcd b m 1 n (.inl rfl) s hp (by have:=ho.1;omega) qe qe hr
  obtain⟨s',e1,hp2,a1,a2,a3⟩:=ih (i+1) (sh s) (hp.put b 0 (EC m (sh s) 1 n)) qe (Yq s1.1 qe qe) (by rw[s1.2.2.1];omega) (qr _ _ _)
  have er:∀(f:Nat) (s:En),(Nat.rec (sh s) (fun _ t=>sh t) f:En)=sh (Nat.rec s (fun _ t=>sh t) f:En):=by
   intro f s
   induction f with
   |zero=>rfl
   |succ f ihf=>show sh _=sh (sh _);rw[ihf]
  refine⟨s',by rw[e1,er],hp2,?_,by rw[a2];rfl,fun c hc=>by rw[a3 c hc];simp[Hp.put,hc]⟩
  have hlt:(i:Int)<5:=qe
  have w1:IntKind.i64.wrap ((i:Int)+1)=((i+1:Nat):Int):=qj
  rw[<-a1,qfq]
  generalize((i+1:Nat):Int)=I at*
  simp[hlt,sf,w1]
theorem Wl(e m n k:Nat)(s:En)(hp:Hp)(he:e<hp.next)(ho:ZN s 1)(hK:eK s+5<=950000)(hr:hp.rd e 0=some (EC m s k n)):
 ∃hp',run cxX 111 [.ptr e 0 0] hp=some (S 1 1 (LI .u8 (sh (sh (sh (sh (sh s))))).out),hp')/\Fm [] hp hp':=by
 have hkk:eK s=s.out.length+s.begun.toNat+s.held:=rfl
 obtain⟨s',e1,hp2,a1,a2,a3⟩:=qko hp.next m n 5 0 s (hp.new (EC m s 1 n)) rfl ho hK (qT _ _)
 have e1:s'=sh (sh (sh (sh (sh s)))):=e1
 rw[e1]at a1
 refine⟨hp2,?_,by rw[a2];simp,fun c hc _=>by
  have:c≠hp.next:=qe
  rw[a3 c this];simp[Hp.new,this]⟩
 have gn:∀(x0 x1 x2 x3 x4 x5 x6 x7:AV),qp [x0,x1,x2,x3,x4,x5,x6,x7] 0 8=some [x0,x1,x2,x3,x4,x5,x6,x7]:=fun _ _ _ _ _ _ _ _=>rfl
 have gc6:∀(x0 x1 x2 x3 x4 x5 x6 x7:AV),qs [x0,x1,x2,x3,x4,x5,x6,x7] 6=some x6:=fun _ _ _ _ _ _ _ _=>rfl
 have p8:∀(a0 a1 a2 a3 a4 a5 a6 a7 x0 x1 x2 x3 x4 x5 x6 x7:AV),qo [a0,a1,a2,a3,a4,a5,a6,a7] 0 [x0,x1,x2,x3,x4,x5,x6,x7]=some [x0,x1,x2,x3,x4,x5,x6,x7]:=fun _ _ _ _ _ _ _ _ _ _ _ _ _ _ _ _=>rfl
 have p6:∀(x0 x1 x2 x3 x4 x5 x6 x7 z:AV),qo [x0,x1,x2,x3,x4,x5,x6,x7] 6 [z]=some [x0,x1,x2,x3,x4,x5,z,x7]:=fun _ _ _ _ _ _ _ _ _=>rfl
 have ap:=fun k=>zcj .u8 [] 1 (.inl rfl) 1 qh k s.out qi
 simp at ap
 have hne:e≠hp.next:=qe
 have r1:∀X,(hp.new X).rd e 0=hp.rd e 0:=fun X=>zH hp X hne
 generalize(sh (sh (sh (sh (sh s))))).out=O at*
 simp only[EC]at hr a1
 rw[E111]
 simp at a1
 simp[hr,gn,qT,qgo,p8,yC,r1,gc6,ap,p6,a1]
theorem Wi(hp:Hp):∃hp' e m cb,run cxX 107 [.sc (.int .i64 64)] hp=some (.ptr e 0 0,hp')/\EW hp' e m cb en0 cs0 2 0/\hp.next<=e/\hp.next<=m/\hp.next<=cb/\hp.next<=hp'.next/\∀c,c<hp.next->hp'.get c=hp.get c:=by
 obtain⟨hp1,cb,a1,a2,a3,a4,a5⟩:=qiq hp
 have hcb:=a2.2.1
 have hm:=a2.1
 refine⟨hp1.new (EC hp.next en0 2 0),hp1.next,hp.next,cb,?_,⟨qg,qT _ _,a2.fr (Fm.new [] hp1 _) qg qg,qe,qe⟩,a4,znd _,qe,qi,fun c hc=>by
  have:c≠hp1.next:=qe
  rw[<-a5 c hc]
  simp[Hp.new,this]⟩
 have p0:∀(x0 x1 x2 x3 x4 x5 x6 x7 z:AV),qo [x0,x1,x2,x3,x4,x5,x6,x7] 0 [z]=some [z,x1,x2,x3,x4,x5,x6,x7]:=fun _ _ _ _ _ _ _ _ _=>rfl
 have p2:∀(x0 x1 x2 x3 x4 x5 x6 x7 z:AV),qo [x0,x1,x2,x3,x4,x5,x6,x7] 2 [z]=some [x0,x1,z,x3,x4,x5,x6,x7]:=fun _ _ _ _ _ _ _ _ _=>rfl
 rw[E107]
 simp[a1,p0,p2]
 rfl
theorem qut(l:List Nat)(k' e m cb:Nat)(hl:l.length<=100000)(h64:∀x∈l,x<64):∀(r:List Nat) (i:Nat) (s:En) (cs:List Nat) (hp:Hp),l.drop i=r->i+r.length=l.length->EW hp e m cb s cs 2 i->okM cs->ZN s s.width->16777216<=s.width/\s.width<4294967296->eK s<=4*i->
 ∃hp' cs',B181_5 (.ptr e 0 0) (S k' 1 (LI .u8 (nz l))) (.int .i64 (l.length:Int)) (.int .i64 (i:Int)) hp=B181_5 (.ptr e 0 0) (S k' 1 (LI .u8 (nz l))) (.int .i64 (l.length:Int)) (.int .i64 (l.length:Int)) hp'/\
  EW hp' e m cb (enc cs s r) cs' 2 l.length/\F3 e m cb hp hp'/\ZN (enc cs s r) (enc cs s r).width/\eK (enc cs s r)<=4*l.length:=by
 intro r
 induction r with
 |nil=>
  intro i s cs hp h hil hE hm ho hw hK
  have e:i=l.length:=by simpa using hil
  subst e
  exact⟨hp,cs,rfl,hE,⟨rfl,fun _ _ _ _=>rfl⟩,ho,hK⟩
 |cons x r ih=>
  intro i s cs hp h hil hE hm ho hw hK
  obtain⟨e1,e2,hi,e3⟩:=qt h
  simp only[zna]at hil
  have hx:x<64:=h64 x (by rw[<-e3];exact znr _)
  obtain⟨d,b1,b2,b3,b4,b5,b6,b7⟩:=Zm s cs x hm hx ho ⟨hw.1,zqe hw.2⟩
  have hd:d<=4:=qzl b7 (by rw[<-b2];exact b6)
  have hlt2:(zG 4 (xL s cs x)).width<4294967296:=by
   apply VB
   show s.width/cs.sum*cs.getD x 0<_
   have ht:=qQ cs x (by have:=hm.1;omega)
   have hta:=qR cs (x+1)
   have hmul:s.width/cs.sum*cs.sum<=s.width:=zop _ _
   have hle:s.width/cs.sum*cs.getD x 0<=s.width/cs.sum*cs.sum:=zok _ qe
   omega
  obtain⟨hp1,c1,c2,c3⟩:=qiz e m cb 2 (.inr rfl) x hx cs hm i qe s hp hE ho hw qe
  obtain⟨hp2,cs2,d1,d2,d3,d4,d5⟩:=ih (i+1) (zG 4 (xL s cs x)) (YJ cs x) hp1 e2 qe c2 (QO hm hx) b4 ⟨b5,hlt2⟩ qe
  have ee:enc cs s (x::r)=enc (YJ cs x) (zG 4 (xL s cs x)) r:=rfl
  rw[ee]
  refine⟨hp2,cs2,?_,d2,c3.trans d3,d4,d5⟩
  have hlt:(i:Int)<(l.length:Int):=qe
  have gs0:∀(v:Value),ql [.sc v] 0=some v:=fun _=>rfl
  have en:∀h,(nz l)[i]'h=(x:Int):=fun h=>by simp[nz,e3]
  have hi4:(i<l.length)=True:=by simp[hi]
  have w1:IntKind.i64.wrap (x:Int)=(x:Int):=qm qe qe
  have w2:IntKind.i64.wrap ((i:Int)+1)=((i+1:Nat):Int):=qj
  rw[<-d1,qeg]
  generalize((i+1:Nat):Int)=I at*
  simp[hi4,gs0,en,jW,w1,c1,w2]
theorem qsz(l:List Nat)(k:Nat)(hl:l.length<=100000)(h64:∀x∈l,x<64)(hp:Hp):∃hp',run cxX 181 [.sc (.int .i64 64),S k 1 (LI .u8 (nz l))] hp=some (.tup [S 1 1 (LI .u8 (jk l)),.sc (.int .i64 0)],hp')/\Fm [] hp hp':=by
 obtain⟨hp1,e,m,cb,a1,a2,a3,a4,a5,a6,a7⟩:=Wi hp
 obtain⟨hp2,cs2,b1,b2,b3,b4,b5⟩:=qut l (rk k) e m cb hl h64 l 0 en0 cs0 hp1 rfl qg a2 qju qjv ⟨qh,qh⟩ qh
 obtain⟨hp3,c1,c2⟩:=Wl e m l.length 2 (enc cs0 en0 l) hp2 b2.1 (Yq b4 b4.2.2.1 qe) qe b2.2.1
 have ec:(sh (sh (sh (sh (sh (enc cs0 en0 l)))))).out=jk l:=rfl
 rw[ec]at c1
 refine⟨hp3,?_,by have:=c2.1;rw[b3.1]at this;omega,fun c hc _=>by
  rw[c2.2 c (by rw[b3.1];omega) qg,b3.2 c qe qe qe,a7 c hc]⟩
 have b5':B181_5 (.ptr e 0 0) (S (rk k) 1 (LI .u8 (nz l))) (.int .i64 (l.length:Int)) (.int .i64 (l.length:Int)) hp2=some (.tup [S 1 1 (LI .u8 (jk l)),.sc (.int .i64 0)],hp3):=by
  rw[qeg]
  generalize jk l=O at*
  simp[c1]
 rw[<-b1]at b5'
 have b3':B181_3 (.int .i64 64) (S k 1 (LI .u8 (nz l))) hp=some (.tup [S 1 1 (LI .u8 (jk l)),.sc (.int .i64 0)],hp3):=by
  rw[<-b5',qwi]
  simp[a1]
 rw[E181]
 simp[b3']
theorem zff(hp:Hp):∀(n:Nat) (a b acc:List Int) (k k':Nat),a.length+b.length=n->acc.length+n<=1000000->
 B38_2 (S k 1 (LI .u32 a)) (S k' 1 (LI .u32 b)) (S 2 1 (LI .u32 acc)) hp=some (S 2 1 (LI .u32 (acc++mrg a b)),hp):=by
 intro n
 induction n using Nat.strongRecOn with
 |_ n ih=>
 intro a b acc k k' hn hlen
 have ap:∀x:Int,a≠[]\/b≠[]->jp 4 1 (S 2 1 (LI .u32 acc)) (S 1 1 [.sc (.int .u32 x)])=some (S 2 1 (LI .u32 (acc++[x]))):=fun x hx=>Qz .u32 acc 2 (.inr rfl) 4 qh x qe
 rw[zds]
 have goA:∀(x:Int) (r:List Int),a=x::r->B38_5 (S k 1 (LI .u32 (x::r))) (S k' 1 (LI .u32 b)) (S 2 1 (LI .u32 acc)) hp=some (S 2 1 (LI .u32 (acc++x::mrg r b)),hp):=by
  intro x r e
  subst e
  have e:=xa (rk k) (LI .u32 (x::r)) .i64 1 qe (by simp only[kR,zna];omega)
  have i:=fun k=>ih (r.length+b.length) (by simp at hn;omega) r b (acc++[x]) k k' rfl (by simp at hn⊢;omega)
  have ap:=ap x qg
  simp at i ap e
  rw[zdq]
  simp[qs,ql,ap,e,i]
 have goB:∀(y:Int) (s:List Int),b=y::s->B38_7 (S k 1 (LI .u32 a)) (S k' 1 (LI .u32 (y::s))) (S 2 1 (LI .u32 acc)) hp=some (S 2 1 (LI .u32 (acc++y::mrg a s)),hp):=by
  intro x r e
  subst e
  have e:=xa (rk k') (LI .u32 (x::r)) .i64 1 qe (by simp only[kR,zna];omega)
  have i:=fun k'=>ih (a.length+r.length) (by simp at hn;omega) a r (acc++[x]) k k' rfl (by simp at hn⊢;omega)
  have ap:=ap x qg
  simp at i ap e
  rw[zdp]
  simp[qs,ql,ap,e,i]
 have wY:∀(x:Int) (r:List Int) (y:Int) (s:List Int),a=x::r->b=y::s->B38_3 (S k 1 (LI .u32 (x::r))) (S k' 1 (LI .u32 (y::s))) (S 2 1 (LI .u32 acc)) hp=some (S 2 1 (LI .u32 (acc++x::mrg r s)),hp):=by
  intro x r y s e1 e2
  subst e1 e2
  have e:=xa (rk k) (LI .u32 (x::r)) .i64 1 qe (by simp only[kR,zna];omega)
  have e':=xa (rk k') (LI .u32 (y::s)) .i64 1 qe (by simp only[kR,zna];omega)
  have i:=fun k k'=>ih (r.length+s.length) (by simp at hn;omega) r s (acc++[x]) k k' rfl (by simp at hn⊢;omega)
  have ap:=ap x qg
  simp at i ap e e'
  rw[zdr]
  simp[qs,ql,ap,e,e',i]
 match a,b with
 |[],[]=>simp
 |[],y::s=>
  have h:=goB y s rfl
  simp at h
  have hw':IntKind.i64.wrap ((s.length:Int)+1)=(s.length:Int)+1:=qm qe (by simp at hn;omega)
  have p:(0:Int)<(s.length:Int)+1:=qe
  have z:¬((s.length:Int)+1=0):=qe
  simp[hw',p,z,qbb,h]
 |x::r,[]=>
  have h:=goA x r rfl
  simp at h
  have hw':IntKind.i64.wrap ((r.length:Int)+1)=(r.length:Int)+1:=qm qe (by simp at hn;omega)
  have p:(0:Int)<(r.length:Int)+1:=qe
  simp[hw',p,h]
 |x::r,y::s=>
  have h1:=goA x r rfl
  have h2:=goB y s rfl
  have h3:=wY x r y s rfl rfl
  have hw':IntKind.i64.wrap ((r.length:Int)+1+((s.length:Int)+1))=(r.length:Int)+1+((s.length:Int)+1):=qm qe (by simp at hn;omega)
  have p:(0:Int)<(r.length:Int)+1+((s.length:Int)+1):=qe
  have p':(0:Int)<(r.length:Int)+1:=qe
  have z:¬((s.length:Int)+1=0):=qe
  have z':¬((r.length:Int)+1=0):=qe
  rw[zP]
  by_cases hxy:x<y
  ·simp[ql,hw',p,p',z,z',hxy,h1]
  ·by_cases hyx:y<x
   ·simp[ql,hw',p,p',z,z',hxy,hyx,h2,qbb]
   ·simp[ql,hw',p,p',z,z',hxy,hyx,h3,qbb]
theorem zim(a b:List Int)(k k':Nat)(hp:Hp)(hlen:a.length+b.length<=1000000):
 run cxX 38 [S k 1 (LI .u32 a),S k' 1 (LI .u32 b)] hp=some (S 2 1 (LI .u32 (mrg a b)),hp):=by
 rw[E38]
 have:=zff hp _ a b [] k k' rfl (by simpa using hlen)
 simpa using this
theorem qmu(a b:List Int)(k k':Nat)(hab:a.length=b.length)(hl:a.length<=1000000)(hp:Hp):∀(r s:List Int) (i:Nat),a.drop i=r->b.drop i=s->
 B131_4 (S k 1 (LI .u32 a)) (S k' 1 (LI .u32 b)) (.int .i64 a.length) (.int .i64 i) hp=some (.sc (.bool (decide (r=s))),hp):=by
 intro r
 induction r with
 |nil=>
  intro s i hr hs
  have h1:=qL hr
  have h2:s=[]:=by rw[<-hs];exact zoh qe
  have hlt:¬((i:Int)<(a.length:Int)):=qe
  rw[qfj]
  simp[hlt,h2]
 |cons x r ih=>
  intro s i hr hs
  obtain⟨e1,e2,hi,e3⟩:=qt hr
  rw[qfj]
  have hw:IntKind.i64.wrap ((i:Int)+1)=((i+1:Nat):Int):=qj
  cases s with
  |nil=>have:=qL hs;omega
  |cons y s=>
   obtain⟨f1,f2,hj,f3⟩:=qt hs
   have h:=ih s (i+1) e2 f2
   simp at h hw
   by_cases e:x=y
   ·simp[hi,hj,ql,e3,f3,e,hw,h]
   ·simp[hi,hj,ql,e3,f3,e]
theorem qsf(a b:List Int)(k k':Nat)(hp:Hp)(ha:a.length<=1000000):
 run cxX 131 [S k 1 (LI .u32 a),S k' 1 (LI .u32 b)] hp=some (.sc (.bool (decide (a=b))),hp):=by
 rw[E131]
 by_cases h3:a.length=b.length
 ·have h:=qmu a b k k' h3 ha hp a b 0 rfl rfl
  simp at h
  rw[h3]at h
  simp[h3,h]
 ·have h4:¬(a=b):=fun e=>h3 (by rw[e])
  have h5:¬((a.length:Int)=(b.length:Int)):=qe
  simp[h4,h5]
def WG:List Int->Int
 |[]=>0
 |[_]=>0
 |x::y::r=>if y<=x then 8 else WG (y::r)
def qh9(l:List Int):Int:=if 4096<l.length then 7 else WG l
theorem Kf:∀{l:List Int},jP l->WG l=0
 |[],_=>rfl
 |[_],_=>rfl
 |x::y::r,h=>by
  have h':=znh.mp h
  have hxy:=h'.1 y qg
  show(if y<=x then 8 else WG (y::r))=0
  rw[if_neg qe]
  exact Kf h'.2
theorem qcv:∀{l:List Int},WG l=0->jP l
 |[],_=>List.Pairwise.nil
 |[_],_=>by simp
 |x::y::r,h=>by
  have h:(if y<=x then 8 else WG (y::r))=0:=h
  split at h
  ·cases h
  ·rename_i hxy
   have ih:=qcv h
   have ih':=znh.mp ih
   refine znh.mpr ⟨fun n hn=>?_,ih⟩
   rcases zne.mp hn with rfl|hn
   ·omega
   ·have:=ih'.1 n hn;omega
theorem qia(l:List Int)(k:Nat)(hl:l.length<=4096)(hp:Hp):∀(r:List Int) (x:Int) (j:Nat),l.drop j=x::r->
 B84_4 (S k 1 (LI .u32 l)) (.int .i64 ((j+1:Nat):Int)) hp=some (.sc (.int .i64 (WG (x::r))),hp):=by
 intro r
 induction r with
 |nil=>
  intro x j hr
  obtain⟨e1,e2,hi,e3⟩:=qt hr
  have:=qL e2
  have hlt:¬((j:Int)+1<(l.length:Int)):=qe
  rw[qa5]
  simp[hlt,WG]
 |cons y r ih=>
  intro x j hr
  obtain⟨e1,e2,hi,e3⟩:=qt hr
  obtain⟨f1,f2,hj,f3⟩:=qt e2
  have hlt:(j:Int)+1<(l.length:Int):=qe
  have hw:IntKind.i64.wrap ((j:Int)+1-1)=(j:Int):=qj
  have hw2:IntKind.i64.wrap ((j:Int)+1+1)=((j+1+1:Nat):Int):=qj
  have hz:(0:Int)<=(j:Int)+1:=qe
  have hn:((j:Int)+1).toNat=j+1:=qe
  have h:=ih y (j+1) e2
  rw[qa5]
  simp at h hw hw2
  by_cases hxy:y<=x
  ·simp[hlt,hw,hz,hn,hi,hj,ql,e3,f3,hxy,WG]
  ·simp[hlt,hw,hw2,hz,hn,hi,hj,ql,e3,f3,hxy,WG,h]
theorem qm4(l:List Int)(k:Nat)(hp:Hp):run cxX 84 [S k 1 (LI .u32 l)] hp=some (.sc (.int .i64 (qh9 l)),hp):=by
 rw[E84]
 unfold qh9
 by_cases hl:4096<l.length
 ·have:(4096:Int)<(l.length:Int):=qe
  simp[hl,this]
 ·have:¬((4096:Int)<(l.length:Int)):=qe
  cases l with
  |nil=>
   have h0:B84_4 (S k 1 []) (.int .i64 1) hp=some (.sc (.int .i64 0),hp):=by
    rw[qa5]
    simp
   simp[h0,WG]
  |cons x r=>
   have h:=qia (x::r) k qe hp r x 0 rfl
   simp at h hl this
   have h1:¬(4096<r.length+1):=qe
   have h2:¬((4096:Int)<(r.length:Int)+1):=qe
   simp[h,h1,h2]
def MsR(hp:Hp)(x:AV)(l:List Int):Prop:=(l=[]/\x=S 2 1 [])\/(l≠[]/\∃b,x= .ms b 0 0 l.length 1/\hp.rd b 0=some (LI .u32 l))
theorem MsR.len{hp:Hp}{x:AV}{l:List Int}(h:MsR hp x l):xU (ro x)=some l.length:=by
 rcases h with⟨rfl,rfl⟩|⟨_,b,rfl,_⟩
 ·simp
 ·simp
theorem qqp{a b:List Int}{n:Int}(h:jP (a++b))(ha:∀x∈a,x<n)(hb:∀x∈b,n<x):mrg (a++b) [n]=a++n::b:=by
 have h':=zpc.mp h
 refine ZI (jl _ _ h qg) ?_ (fun x=>?_)
 ·refine zpc.mpr ⟨h'.1,znh.mpr ⟨fun x hx=>hb x hx,h'.2.1⟩,fun x hx y hy=>?_⟩
  rcases zne.mp hy with rfl|hy
  ·exact ha x hx
  ·exact h'.2.2 x hx y hy
 ·rw[ye];simp
  constructor
  ·rintro((h|h)|h)<;>simp[h]
  ·rintro(h|h|h)<;>simp[h]
theorem zai(a b:List Int)(n:Int)(x x8:AV)(v9 v10:Value)(hp:Hp)(hx:MsR hp x (a++b))(hl:(a++b).length<4096):
 ∃x' hp',MsR hp' x' (a++n::b)/\B76_9 x (.int .u32 n) (.int .i64 a.length) x8 v9 v10 hp=B76_14 x' x8 v9 v10 hp':=by
 have hne:¬(((a++b).length:Int)=4096):=qe
 --the append
 obtain⟨c,hp1,hc,ap⟩:∃c hp1,hp1.rd c 0=some (LI .u32 (a++b++[0]))/\jZ 4 1 (ro x) (S 1 1 [.sc (.int .u32 0)]) hp=some (.ms c 0 0 ((a++b).length+1) 1,hp1):=by
  rcases hx with⟨e,rfl⟩|⟨e,c,rfl,hc⟩
  ·refine⟨hp.next,hp.new (LI .u32 [0]),?_,?_⟩
   ·rw[e];exact qT _ _
   ·rw[e];exact Zl .u32 0 4 qh hp
  ·exact⟨hp.next,(hp.del c).new (LI .u32 (a++b++[0])),qT (hp.del c) _,Jh .u32 (a++b) 0 4 c qh qe e hp hc⟩
 have e0:(a++b++[0]).length=(a++b).length+1:=qi
 have e1:(a++b).length=a.length+b.length:=qg
 have lx:=hx.len
 --the copy
 have sm:=YO .u32 (a++b++[0]) hp1 c a.length ((a++b).length+1-a.length) hc qe
 have sm2:((a++b++[0]).drop a.length).take ((a++b).length+1-a.length)=b++[0]:=by
  rw[znv,zqg]
  exact zn2 qi
 rw[sm2]at sm
 have cp:(Xx 1 ((a++b).length+1-(a.length+1)) (LI .u32 (b++[0]))).2=LI .u32 b:=by
  unfold Xx
  simp only[WQ,kR,zo2]
  have e:min (b++[0]).length ((a++b).length+1-(a.length+1))=b.length:=qg
  rw[e,zhb,zrq]
 have p1:=ze4 .u32 (a++b++[0]) b (a.length+1) qe
 have p1':(a++b++[0]).take (a.length+1)++b++(a++b++[0]).drop (a.length+1+b.length)=a++((b++[0]).take 1++b):=by
  have d:(a++b++[0]).drop (a.length+1+b.length)=[]:=zoh qe
  rw[d,znz,znv a b,List.take_append]
  have e:a.length+1-a.length=1:=qe
  rw[e,zn2 (by omega:a.length<=a.length+1),znv]
 rw[p1']at p1
 obtain⟨z,hz⟩:∃z,(b++[0]).take 1=[z]:=by
  cases b with
  |nil=>exact⟨0,rfl⟩
  |cons y b=>exact⟨y,rfl⟩
 rw[hz]at p1
 have hlen2:(a++([z]++b)).length=(a++b).length+1:=qi
 have p2:=xC .u32 (a++([z]++b)) a.length n qg
 have p2':(a++([z]++b)).set a.length n=a++n::b:=qg
 rw[p2']at p2
 have hlen3:(a++n::b).length=(a++b).length+1:=qi
 have w1:IntKind.i64.wrap ((a.length:Int)+((1:Nat):Int))=((a.length+1:Nat):Int):=qj
 have bd1:=xY (hi:=(a++b).length+1) (d:=0) (n:=a.length+1) .i64 qe
 have bd2:=xY (hi:=(a++b).length+1) (d:=0) (n:=a.length) .i64 qe
 have ix:=zr (n:=(a++b).length+1) (i:=a.length) .i64 qe
 refine⟨.ms c 0 0 (a++n::b).length 1,((hp1.put c 0 (LI .u32 (a++([z]++b)))).put c 0 (LI .u32 (a++n::b))),.inr ⟨qg,c,rfl,qr _ _ _⟩,?_⟩
 rw[hlen3,zcz]
 have hz0:(((a++b).length:Nat):Int)=((4096:Nat):Int)↔False:=⟨fun h=>hne qe,False.elim⟩
 have uS:AV.us 1 [ro1 (AV.sc (.int .u32 (0:Int)))]=S 1 1 [.sc (.int .u32 0)]:=rfl
 have ov:yC [AV.sc (Value.int IntKind.u32 (0:Int))]=some ():=by rw[zaf];exact if_pos qg
 generalize(a++b).length=m at*
 have z0:((0:Nat):Int)=0:=rfl
 simp only[YE,lx,znc,zpe,qax,hz0,z0,vW,decide_false,jN,cond_false,ov,uS,us_S,ap,yi,w1,qcu,vQ,qau,bd1,bd2,Zj,YF,sm,hc,zqv,znk,Nat.sub_eq,cp,p1,ix,qr,p2]
theorem zfq(n:Int)(x8:AV)(v9 v10:Value):∀(m:Nat) (a b:List Int) (x:AV) (hp:Hp),a.length=m->MsR hp x (a++b)->jP (a++b)->(∀y∈b,n<y)->(a++b).length<4096->
 ∃x' hp',MsR hp' x' (mrg (a++b) [n])/\B76_6 x (.int .u32 n) (.int .i64 a.length) x8 v9 v10 hp=B76_14 x' x8 v9 v10 hp':=by
 intro m
 induction m with
 |zero=>
  intro a b x hp hm hx hr hb hl
  have:a=[]:=znp.mp hm
  subst this
  obtain⟨x',hp',h1,h2⟩:=zai [] b n x x8 v9 v10 hp hx hl
  refine⟨x',hp',?_,?_⟩
  ·rw[qqp hr qg hb];exact h1
  ·rw[qlx]
   simpa using h2
 |succ m ih=>
  intro a b x hp hm hx hr hb hl
  obtain⟨a',y,rfl⟩:∃a' y,a=a'++[y]:=⟨a.dropLast,a.getLast (by intro e;subst e;simp at hm),(List.dropLast_concat_getLast _).symm⟩
  have hm':a'.length=m:=by simpa using hm
  have hne:a'++[y]++b≠[]:=qg
  obtain⟨c,rfl,hc⟩:∃c,x= .ms c 0 0 (a'++[y]++b).length 1/\hp.rd c 0=some (LI .u32 (a'++[y]++b)):=by
   rcases hx with⟨e,_⟩|⟨_,c,h1,h2⟩
   ·exact absurd e hne
   ·exact⟨c,h1,h2⟩
  have hpos:(0:Int)<((a'++[y]).length:Int):=qe
  have hm4:m<4096:=by simp at hl;omega
  have w1:IntKind.i64.wrap (((a'++[y]).length:Int)-1)=(a'.length:Int):=by rw[hm,qm]<;>omega
  have ix:=zr (n:=(a'++[y]++b).length) (i:=a'.length) .i64 qg
  have gs:(a'++[y]++b)[a'.length]?=some y:=qg
  have hr':=zpc.mp hr
  have hra:=zpc.mp hr'.1
  rw[qlx]
  have hpos':(((a'++[y]).length:Nat):Int)>((0:Nat):Int)↔True:=⟨fun _=>trivial,fun _=>hpos⟩
  have w1':IntKind.i64.wrap ((((a'++[y]).length:Nat):Int)-((1:Nat):Int))=(a'.length:Int):=w1
  by_cases hy:n<=y
  ·have hge:(y>=n)↔True:=⟨fun _=>trivial,fun _=>hy⟩
   by_cases he:y=n
   ·--it is there
    subst he
    refine⟨.ms c 0 0 (a'++[y]++b).length 1,hp,?_,?_⟩
    ·rw[zfy hr qg qg]
     exact .inr ⟨hne,c,rfl,hc⟩
    ·generalize hN:(a'++[y]++b).length=N at*
     simp only[YE,zpe,Qx,hpos',decide_true,jN,znc,cond_true,vZ,w1',qcu,vQ,ix,Zj,YF,vW,hc,zqv,znk,ql,qbu?,gs,zps,vi,Jg,hge]
     rw[qlw]
     simp only[YE,zpe,Qx,hpos',decide_true,jN,znc,cond_true,vZ,w1',qcu,vQ,ix,Zj,YF,vW,hc,zqv,znk,ql,qbu?,gs,zps,vi,qax]
   ·have e2:a'++[y]++b=a'++(y::b):=qg
    obtain⟨x',hp',h1,h2⟩:=ih a' (y::b) (.ms c 0 0 (a'++[y]++b).length 1) hp hm' (by rw[<-e2];exact .inr ⟨hne,c,rfl,hc⟩) (by rw[<-e2];exact hr) (fun z hz=>by
     rcases zne.mp hz with rfl|hz
     ·omega
     ·exact hb z hz) (by rw[<-e2];exact hl)
    refine⟨x',hp',by rw[e2];exact h1,?_⟩
    have hne2:(y=n)↔False:=⟨fun h=>he h,False.elim⟩
    generalize hN:(a'++[y]++b).length=N at*
    simp only[YE,zpe,Qx,hpos',decide_true,jN,znc,cond_true,vZ,w1',qcu,vQ,ix,Zj,YF,vW,hc,zqv,znk,ql,qbu?,gs,zps,vi,Jg,hge]
    rw[qlw]
    simp only[YE,zpe,Qx,hpos',decide_true,jN,znc,cond_true,cond_false,decide_false,vZ,w1',qcu,vQ,ix,Zj,YF,vW,hc,zqv,znk,ql,qbu?,gs,zps,vi,qax,hne2]
    exact h2
  ·have hge:(y>=n)↔False:=⟨fun h=>hy h,False.elim⟩
   obtain⟨x',hp',h1,h2⟩:=zai (a'++[y]) b n (.ms c 0 0 (a'++[y]++b).length 1) x8 v9 v10 hp (.inr ⟨hne,c,rfl,hc⟩) hl
   refine⟨x',hp',?_,?_⟩
   ·rw[qqp hr (fun z hz=>?_) hb]
    ·exact h1
    ·rcases zoj.mp hz with hz|hz
     ·have:=hra.2.2 z hz y qg;omega
     ·simp at hz;omega
   ·generalize hN:(a'++[y]++b).length=N at*
    simp only[YE,zpe,Qx,hpos',decide_true,decide_false,jN,znc,cond_true,cond_false,vZ,w1',qcu,vQ,ix,Zj,YF,vW,hc,zqv,znk,ql,qbu?,gs,zps,vi,Jg,hge]
    exact h2
theorem zfr(l:List Int)(k:Nat)(hl:l.length<=4096):∀(r:List Int) (i:Nat) (s:List Int) (x:AV) (hp:Hp),l.drop i=r->jP s->s.length<=i->i<=l.length->MsR hp x s->
 ∃t hp',B76_3 x (S k 1 (LI .u32 l)) (.int .i64 l.length) (.int .i64 i) hp=some (.tup [S t 1 (LI .u32 (XN s r)),.sc (.int .i64 0)],hp'):=by
 intro r
 induction r with
 |nil=>
  intro i s x hp hr hs hsl hil hx
  have:=qL hr
  have hlt:¬((i:Int)<(l.length:Int)):=qe
  rcases hx with⟨rfl,rfl⟩|⟨_,b,rfl,hb⟩
  ·refine⟨2,hp,?_⟩
   rw[qa6]
   simp[hlt,XN]
  ·have f:=Zg .u32 s hp b hb
   refine⟨0,hp.del b,?_⟩
   rw[qa6]
   simp[hlt,XN,f]
 |cons y r ih=>
  intro i s x hp hr hs hsl hil hx
  obtain⟨e1,e2,hi,e3⟩:=qt hr
  have hw:IntKind.i64.wrap ((i:Int)+1)=((i+1:Nat):Int):=qj
  obtain⟨x',hp1,h1,h2⟩:=zfq y (S k 1 (LI .u32 l)) (.int .i64 l.length) (.int .i64 i) s.length s [] x hp rfl (by simpa using hx) (by simpa using hs) qg qi
  rw[znz]at h1
  have hl1:(mrg s [y]).length<=s.length+1:=by simpa using vb s [y]
  obtain⟨t,hp',h⟩:=ih (i+1) (mrg s [y]) x' hp1 e2 (jl _ _ hs qg) qe qe h1
  refine⟨t,hp',?_⟩
  have lx:=hx.len
  rw[qa6]
  have h14:B76_14 x' (S k 1 (LI .u32 l)) (.int .i64 l.length) (.int .i64 i) hp1=B76_3 x' (S k 1 (LI .u32 l)) (.int .i64 l.length) (.int .i64 ((i+1:Nat):Int)) hp1:=by
   rw[qvh]
   simp at hw
   simp[hw]
  rw[h14]at h2
  simp at h2 h
  simp[hi,e3,ql,lx,h2,h,XN]
theorem qm8(l:List Int)(k:Nat)(hl:l.length<=4096)(hp:Hp):∃t hp',run cxX 76 [S k 1 (LI .u32 l)] hp=some (.tup [S t 1 (LI .u32 (XN [] l)),.sc (.int .i64 0)],hp'):=by
 obtain⟨t,hp',h⟩:=zfr l (rk k) hl l 0 [] (S 2 1 []) hp rfl List.Pairwise.nil qg qg (.inl ⟨rfl,rfl⟩)
 refine⟨t,hp',?_⟩
 rw[E76]
 simpa using h
theorem qoi(l:List Int)(k:Nat)(hl:l.length<=4096)(hp:Hp):∀(r:List Int) (i:Nat) (a:List Int),l.drop i=r->a.length<=i->i<=l.length->
 ∃t,B31_3 (.bool false) (S 2 1 (LI .u32 a)) (S k 1 (LI .u32 l)) (.int .i64 l.length) (.int .i64 i) hp=some (.tup [S t 1 (LI .u32 (XN [] (a++r))),.sc (.int .i64 0)],hp):=by
 intro r
 induction r with
 |nil=>
  intro i a hr ha hil
  have:=qL hr
  have hlt:¬((i:Int)<(l.length:Int)):=qe
  obtain⟨t,hp',h⟩:=qm8 a 3 qe hp0
  refine⟨t,?_⟩
  rw[qmi]
  simp[hlt,h]
 |cons y r ih=>
  intro i a hr ha hil
  obtain⟨e1,e2,hi,e3⟩:=qt hr
  have hw:IntKind.i64.wrap ((i:Int)+1)=((i+1:Nat):Int):=qj
  have ap:=Qz .u32 a 2 (.inr rfl) 4 qh y qe
  obtain⟨t,h⟩:=ih (i+1) (a++[y]) e2 qi qe
  refine⟨t,?_⟩
  rw[qmi]
  simp at h hw ap
  simp[hi,e3,ql,zdu,ap,hw,h]
theorem qyu(l:List Int)(k:Nat)(hl:l.length<=4096)(hp:Hp):∃t,run cxX 31 [S k 1 (LI .u32 l),.sc (.bool false)] hp=some (.tup [S t 1 (LI .u32 (XN [] l)),.sc (.int .i64 0)],hp):=by
 obtain⟨t,h⟩:=qoi l (rk k) hl hp l 0 [] rfl qg qg
 refine⟨t,?_⟩
 rw[E31]
 simp at h
 simp[h]
def qk3(x:Nat):Nat:=if x=0 then 0 else Nat.log2 x+1
theorem zg2{x n:Nat}(h:Bl x n):n=qk3 x:=by
 unfold qk3
 by_cases hx:x=0
 ·rw[if_pos hx]
  subst hx
  rcases h.2 with h2|h2
  ·exact h2
  ·have:=zpk (n-1);omega
 ·rw[if_neg hx]
  have hn:n≠0:=by
   intro e;subst e
   have:=h.1
   simp at this
   exact hx this
  have h2:=h.2.resolve_left hn
  have a1:=Nat.log2_self_le hx
  have a2:x<2^(Nat.log2 x+1):=Nat.lt_log2_self
  have b1:n-1<Nat.log2 x+1:=(Nat.pow_lt_pow_iff_right (by decide:1<2)).mp (zow h2 a2)
  have b2:Nat.log2 x<n:=(Nat.pow_lt_pow_iff_right (by decide:1<2)).mp (zow a1 h.1)
  omega
theorem zel(x:Nat)(h:x<18446744073709551616)(hp:Hp):run cxX 154 [.sc (.int .u64 (x:Int))] hp=some (.sc (.int .i64 ((64-qk3 x:Nat):Int)),hp):=by
 obtain⟨n,h1,h2,h3⟩:=qsp x h
 rw[zg2 h2]at h1 h3
 have w:IntKind.i64.wrap (64-(qk3 x:Int))=((64-qk3 x:Nat):Int):=qj
 rw[E154]
 simp[h3,w]
abbrev Hv(P:Int)(x:AV):AV:=.agg [.sc (.int .i64 P),x]
def jU(P:Int):Nat:=2^P.toNat
def yS(P h:Int):Nat:=(h/2^(64-P).toNat).toNat
def JU(P h:Int):Int:=min ((64-qk3 ((h*2^P.toNat)%18446744073709551616).toNat:Nat):Int) (64-P)+1
theorem qhd{P h:Int}(hP:4<=P/\P<=8):1<=JU P h/\JU P h<=65-P:=by
 unfold JU;omega
theorem zf7{P h:Int}(hP:4<=P/\P<=8)(hh:0<=h/\h<18446744073709551616):yS P h<jU P:=by
 unfold yS jU
 obtain⟨p,rfl⟩:∃p:Nat,P=p:=⟨P.toNat,qe⟩
 obtain⟨x,rfl⟩:∃x:Nat,h=x:=⟨h.toNat,qe⟩
 have e:(64-(p:Int)).toNat=64-p:=qe
 rw[e,znj]
 have e2:((x:Int)/2^(64-p))=((x/2^(64-p):Nat):Int):=qg
 rw[e2,znj]
 apply Nat.div_lt_of_lt_mul
 rw[<-Nat.pow_add]
 have e3:64-p+p=64:=qe
 rw[e3]
 omega
theorem qnb(P h:Int)(x:AV)(hP:4<=P/\P<=8)(hh:0<=h/\h<18446744073709551616)(hp:Hp):
 run cxX 90 [Hv P x,.sc (.int .u64 h)] hp=some (.tup [.sc (.int .i64 (yS P h:Int)),.sc (.int .u8 (JU P h))],hp):=by
 rw[E90]
 have m1:max P 4=P:=qe
 have m2:min P 8=P:=qe
 have w1:IntKind.i64.wrap (64-P)=64-P:=qm qe qe
 have s1:∀t x y,qy Tryz.prog .shr t x y (.int .u64 h) (.int .i64 (64-P))=some (.int .u64 (yS P h:Int)):=by
  intro t x y
  rw[jM _ _ _ _ _ _ _ _ qe]
  have e:min (64-P).toNat IntKind.u64.bits=(64-P).toNat:=by
   have:IntKind.u64.bits=64:=rfl
   omega
  rw[e,zos _ (by exact_mod_cast zn1 _)]
  unfold yS
  have:0<=h/2^(64-P).toNat:=Int.ediv_nonneg hh.1 (by exact_mod_cast zn1 _)
  rw[zox this]
 have hlt:=zf7 hP hh
 have h256:jU P<=256:=by
  unfold jU
  have:P.toNat<=8:=qe
  calc 2^P.toNat<=2^8:=zoc qh this
   _=256:=rfl
 have w2:IntKind.i64.wrap (yS P h:Int)=(yS P h:Int):=qm qe qe
 obtain⟨y,hy⟩:∃y:Nat,y=((h*2^P.toNat)%18446744073709551616).toNat:=⟨_,rfl⟩
 have hy64:y<18446744073709551616:=qe
 have s2:∀t a b,qy Tryz.prog .shl t a b (.int .u64 h) (.int .i64 P)=some (.int .u64 (y:Int)):=by
  intro t a b
  rw[zW _ _ _ _ _ _ _ _ qe]
  have e:min P.toNat IntKind.u64.bits=P.toNat:=by
   have:IntKind.u64.bits=64:=rfl
   omega
  rw[e,IntKind.wrap_u64,hy]
  congr 2
  omega
 have lz:=fun hp=>zel y hy64 hp
 have hr:=qhd (h:=h) hP
 have hre:JU P h=min ((64-qk3 y:Nat):Int) (64-P)+1:=by unfold JU;rw[hy]
 have w3:IntKind.i64.wrap (min ((64-qk3 y:Nat):Int) (64-P)+1)=JU P h:=by rw[<-hre];exact qm qe qe
 have w4:IntKind.u8.wrap (JU P h)=JU P h:=zB qe qe
 simp[ql,m1,m2,w1,s1,s2,w2,lz,w3,w4]
theorem qp4(P:Int)(hP:0<=P/\P<=8)(t:TypeId)(x y:Operand):qy Tryz.prog .shl t x y (.int .i64 1) (.int .i64 P)=some (.int .i64 (jU P:Int)):=by
 rw[zW _ _ _ _ _ _ _ _ qe]
 have e:min P.toNat IntKind.i64.bits=P.toNat:=by
  have:IntKind.i64.bits=64:=rfl
  omega
 have h256:jU P<=256:=by
  unfold jU
  have:P.toNat<=8:=qe
  calc 2^P.toNat<=2^8:=zoc qh this
   _=256:=rfl
 rw[e]
 have e2:(1*2^P.toNat:Int)=(jU P:Int):=by unfold jU;simp
 rw[e2,qm qe qe]
theorem VH{P:Int}(hP:P<=8):jU P<=256:=by
 unfold jU
 have:P.toNat<=8:=qe
 calc 2^P.toNat<=2^8:=zoc qh this
  _=256:=rfl
theorem qyx(P:Int)(x:AV)(hP:0<=P/\P<=64)(hp:Hp):run cxX 153 [Hv P x] hp=some (.sc (.int .i64 (65-P)),hp):=by
 rw[E153]
 have w:IntKind.i64.wrap (65-P)=65-P:=qm qe qe
 simp[ql,w]
def Vf(P:Int)(l:List Int):Int:=if(∃n∈l,65-P<n)then 2 else 0
def que(P:Int)(l:List Int):Int:=if P<4\/8<P then 2 else if l.length≠jU P then 6 else Vf P l
theorem qkb(P:Int)(l:List Int)(k:Nat)(hP:4<=P/\P<=8)(hl:l.length<=1000)(h8:∀n∈l,0<=n/\n<256)(hp:Hp):∀(r:List Int) (i:Nat),l.drop i=r->
 B86_6 (S k 1 (LI .u8 l)) (.int .i64 l.length) (.int .i64 i) [.sc (.int .i64 P),S k 1 (LI .u8 l)] hp=some (.sc (.int .i64 (Vf P r)),hp):=by
 intro r
 induction r with
 |nil=>
  intro i hr
  have:=qL hr
  have hlt:¬((i:Int)<(l.length:Int)):=qe
  rw[qlr]
  simp[hlt,Vf]
 |cons x r ih=>
  intro i hr
  obtain⟨e1,e2,hi,e3⟩:=qt hr
  have hx:=h8 x (znm e1)
  have hw:IntKind.i64.wrap ((i:Int)+1)=((i+1:Nat):Int):=qj
  have w8:IntKind.i64.wrap x=x:=qm qe qe
  have tp:=fun y hp=>qyx P y qe hp
  have h:=ih (i+1) e2
  rw[qlr]
  simp at h hw
  by_cases e:65-P<x
  ·simp[hi,e3,ql,qp,w8,tp,e,Vf]
  ·have e':Vf P (x::r)=Vf P r:=by
    unfold Vf
    simp[e]
   simp[hi,e3,ql,qp,w8,tp,e,hw,h,e']
theorem qnc(P:Int)(l:List Int)(k:Nat)(hl:l.length<=1000000)(h8:∀n∈l,0<=n/\n<256)(hp:Hp):run cxX 86 [Hv P (S k 1 (LI .u8 l))] hp=some (.sc (.int .i64 (que P l)),hp):=by
 rw[E86]
 unfold que
 by_cases h1:P<4
 ·simp[ql,h1,qlt]
 ·by_cases h2:8<P
  ·simp[ql,h1,h2,qlt]
  ·have s:=fun t x y=>qp4 P qe t x y
   have hple:=VH (P:=P) qe
   by_cases h3:l.length=jU P
   ·have hh:=qkb P l (rk k) qe qe h8 hp l 0 rfl
    simp at hh
    simp[ql,qs,h1,h2,s,h3,qls]
    rw[<-h3];exact hh
   ·have h4:¬((l.length:Int)=(jU P:Int)):=qe
    simp[ql,qs,h1,h2,s,h3,h4,qls]
def b8(l:List Int):List UInt8:=l.map fun n=>UInt8.ofNat n.toNat
@[simp] theorem zgz : ∀ l : List Int, zM (LI .u8 l) = some (b8 l)
 |[]=>rfl
 |x::l=>by
  have:=zgz l
  show(zM (LI .u8 l)).map _=_
  rw[this];rfl
theorem zcg:∀{a b:List Int},(∀n∈a,0<=n/\n<256)->(∀n∈b,0<=n/\n<256)->(b8 a=b8 b↔a=b)
 |[],[],_,_=>by simp
 |[],y::b,_,_=>by simp[b8]
 |x::a,[],_,_=>by simp[b8]
 |x::a,y::b,ha,hb=>by
  have ih:=zcg (a:=a) (b:=b) (fun n hn=>ha n (by simp[hn])) (fun n hn=>hb n (by simp[hn]))
  have hx:=ha x qg
  have hy:=hb y qg
  have e:UInt8.ofNat x.toNat=UInt8.ofNat y.toNat↔x=y:=by
   constructor
   ·intro h
    have:=congrArg UInt8.toNat h
    simp at this
    omega
   ·rintro rfl;rfl
  simp only[b8,zog,List.cons.injEq]at ih⊢
  rw[e,ih]
theorem qsr(P P':Int)(a b:List Int)(k k':Nat)(ha:∀n∈a,0<=n/\n<256)(hb:∀n∈b,0<=n/\n<256)(hp:Hp):
 run cxX 133 [Hv P (S k 1 (LI .u8 a)),Hv P' (S k' 1 (LI .u8 b))] hp=some (.sc (.bool (decide (P=P'/\a=b))),hp):=by
 rw[E133]
 by_cases h:P=P'
 ·have e:decide (b8 a=b8 b)=decide (a=b):=decide_eq_decide.mpr (zcg ha hb)
  simp[ql,qs,h,e]
 ·simp[ql,h]
theorem qiu(P:Int)(hP:4<=P/\P<=8)(hp:Hp):run cxX 77 [.sc (.int .i64 P)] hp=some (.tup [Hv P (S 0 1 (LI .u8 (List.replicate (jU P) 0))),.sc (.bool true)],hp):=by
 rw[E77]
 have h1:¬(P<4):=qe
 have h2:¬(8<P):=qe
 have s:=fun t x y=>qp4 P qe t x y
 have hple:=VH (P:=P) qe
 have mk:xd 1 1 (jU P:Int) (jU P:Int)=some ():=Jy qe qe qh qh
 simp[h1,h2,zcy,s,mk,Jm,qp,qo]
def yD:List Int->List Int->List Int
 |[],_=>[]
 |x::a,[]=>x::a
 |x::a,y::b=>max x y::yD a b
theorem Xi:∀a b,(yD a b).length=a.length
 |[],_=>by simp[yD]
 |x::a,[]=>by simp[yD]
 |x::a,y::b=>by simp[yD,Xi a b]
@[simp] theorem zjj : ∀ a, yD a [] = a
 |[]=>rfl
 |_::_=>rfl
def kS(P:Int)(l:List Int)(h:Int):List Int:=if yS P h<l.length then l.set (yS P h) (max (l.getD (yS P h) 0) (JU P h))else l
theorem qiv(P:Int)(l:List Int)(k:Nat)(h:Int)(hP:4<=P/\P<=8)(hh:0<=h/\h<18446744073709551616)(hl:l.length<=1000000)(hp:Hp):
 ∃t hp',run cxX 40 [Hv P (S k 1 (LI .u8 l)),.sc (.int .u64 h)] hp=some (Hv P (S t 1 (LI .u8 (kS P l h))),hp'):=by
 rw[E40]
 have pl:=fun x hp=>qnb P h x hP hh hp
 by_cases hne:l=[]
 ·subst hne
  have n1:=fun k hp=>qa0 1 k hp
  have e:¬((yS P h:Int)<0):=qe
  refine⟨0,hp,?_⟩
  simp[ql,qs,n1,qo,qp,pl,kS,e,qmd]
 ·have n1:=fun k hp=>we .u8 l k 1 qh hl hne hp
  have f5:∀(l:List Int) (b:Nat) (hp:Hp) (q0 q1:AV),hp.rd b 0=some (LI .u8 l)->B40_5 [q0,q1] [.sc (.int .i64 P),.ms b 0 0 l.length 1] hp=some (Hv P (S 0 1 (LI .u8 l)),hp.del b):=by
   intro l b hp q0 q1 hb
   have f:=Zg .u8 l hp b hb
   rw[qmd]
   simp[qp,qo,f]
  by_cases hi:yS P h<l.length
  ·have hi':(yS P h:Int)<(l.length:Int):=qe
   have ix:=zr .i64 hi
   have gs:l[yS P h]?=some (l.getD (yS P h) 0):=by simp[hi]
   have pt:=xC .u8 l (yS P h) (max (l.getD (yS P h) 0) (JU P h)) hi
   have f:=f5 (l.set (yS P h) (max (l.getD (yS P h) 0) (JU P h))) hp.next ((hp.new (LI .u8 l)).put hp.next 0 (LI .u8 (l.set (yS P h) (max (l.getD (yS P h) 0) (JU P h))))) (.sc (.int .i64 0)) (S 2 1 []) (qr _ _ _)
   rw[List.length_set]at f
   have r0:=qT hp (LI .u8 l)
   refine⟨0,((hp.new (LI .u8 l)).put hp.next 0 (LI .u8 (l.set (yS P h) (max (l.getD (yS P h) 0) (JU P h))))).del hp.next,?_⟩
   simp only[kS,if_pos hi]
   generalize l.getD (yS P h) 0=g at gs pt f⊢
   simp[ql,qs,n1,qo,qp,pl,hi',ix,r0,gs]at pt⊢
   simp[pt]
   exact f
  ·have hi':¬((yS P h:Int)<(l.length:Int)):=qe
   have f:=f5 l hp.next (hp.new (LI .u8 l)) (.sc (.int .i64 0)) (S 2 1 []) (qT _ _)
   refine⟨0,(hp.new (LI .u8 l)).del hp.next,?_⟩
   simp only[kS,if_neg hi]
   simp[ql,qs,n1,qo,qp,pl,hi']
   exact f
theorem qck(h:Int)(hh:0<=h/\h<18446744073709551616):∃v:Int,(0<=v/\v<18446744073709551616)/\∀hp,run cxX 78 [.sc (.int .u64 h)] hp=some (.sc (.int .u64 v),hp):=by
 have r3:∀t x y,qy Tryz.prog .rem t x y (.int .u64 h) (.int .u64 3)=some (.int .u64 (h%3)):=by
  intro t x y;rw[zp _ _ _ _ _ _ _ qe,zn hh.1]
 by_cases e:h%3=0
 ·obtain⟨z1,s1⟩:∃z:Int,∀t x y,qy Tryz.prog .shr t x y (.int .u64 h) (.int .u64 56)=some (.int .u64 z):=⟨_,fun t x y=>jM _ _ _ _ _ _ _ _ qe⟩
  obtain⟨z2,s2⟩:∃z:Int,∀t x y,qy Tryz.prog .shl t x y (.int .u64 z1) (.int .u64 56)=some (.int .u64 z):=⟨_,fun t x y=>zW _ _ _ _ _ _ _ _ qe⟩
  have q4:∀t x y,qy Tryz.prog .quo t x y (.int .u64 h) (.int .u64 4)=some (.int .u64 (h/4)):=by
   intro t x y;rw[yB _ _ _ _ _ _ _ qe,zoi hh.1,qu qe qe]
  have r56:∀t x y,qy Tryz.prog .rem t x y (.int .u64 (h/4)) (.int .u64 56)=some (.int .u64 (h/4%56)):=by
   intro t x y;rw[zp _ _ _ _ _ _ _ qe,zn qe]
  obtain⟨z3,s3⟩:∃z:Int,∀t x y,qy Tryz.prog .shl t x y (.int .u64 1) (.int .u64 (h/4%56))=some (.int .u64 z):=⟨_,fun t x y=>zW _ _ _ _ _ _ _ _ qe⟩
  obtain⟨z4,s4⟩:∃z:Int,∀t x y,qy Tryz.prog .sub t x y (.int .u64 z3) (.int .u64 1)=some (.int .u64 z):=⟨_,fun t x y=>vZ _ _ _ _ _ _ _⟩
  obtain⟨z5,s5⟩:∃z:Int,∀t x y,qy Tryz.prog .and t x y (.int .u64 h) (.int .u64 z4)=some (.int .u64 z):=⟨_,fun t x y=>zk _ _ _ _ _ _ _⟩
  obtain⟨z6,b6,s6⟩:∃z:Int,(0<=z/\z<18446744073709551616)/\∀t x y,qy Tryz.prog .or t x y (.int .u64 z2) (.int .u64 z5)=some (.int .u64 z):=⟨_,by rw[IntKind.wrap_u64];omega,fun t x y=>zS _ _ _ _ _ _ _⟩
  refine⟨z6,b6,fun hp=>?_⟩
  rw[E78]
  simp[r3,e,s1,s2,q4,r56,s3,s4,s5,s6,-vZ,-zk,-zS]
 ·refine⟨h,hh,fun hp=>?_⟩
  rw[E78]
  simp[r3,e]
noncomputable def hsh(h:Int):Int:=if hh:0<=h/\h<18446744073709551616 then(qck h hh).choose else 0
theorem zji{h:Int}(hh:0<=h/\h<18446744073709551616):(0<=hsh h/\hsh h<18446744073709551616)/\∀hp,run cxX 78 [.sc (.int .u64 h)] hp=some (.sc (.int .u64 (hsh h)),hp):=by
 unfold hsh
 rw[dif_pos hh]
 exact(qck h hh).choose_spec
noncomputable def hfold(P:Int)(a l:List Int):List Int:=l.foldl (fun a h=>kS P a (hsh h)) a
theorem ZW(P:Int)(l:List Int)(h:Int):(kS P l h).length=l.length:=by
 unfold kS;split<;>simp
theorem qdi(P:Int):∀(l a:List Int),(hfold P a l).length=a.length
 |[],a=>rfl
 |h::l,a=>by
  show(hfold P (kS P a (hsh h)) l).length=_
  rw[qdi P l,ZW]
theorem za9(P:Int)(q0 q1:AV)(l:List Int)(k:Nat)(hP:4<=P/\P<=8)(hl:l.length<=1000000)(h64:∀n∈l,0<=n/\n<18446744073709551616)(hp:Hp):∀(r:List Int) (i t:Nat) (a:List Int),l.drop i=r->a.length<=1000000->
 ∃t',B33_3 (S k 1 (LI .u64 l)) (.int .i64 l.length) (.int .i64 i) [q0,q1] [.sc (.int .i64 P),S t 1 (LI .u8 a)] hp=some (Hv P (S t' 1 (LI .u8 (hfold P a r))),hp):=by
 intro r
 induction r with
 |nil=>
  intro i t a hr ha
  have:=qL hr
  have hlt:¬((i:Int)<(l.length:Int)):=qe
  refine⟨t,?_⟩
  rw[qmg]
  simp[hlt,qp,qo,hfold]
 |cons x r ih=>
  intro i t a hr ha
  obtain⟨e1,e2,hi,e3⟩:=qt hr
  have hx:=h64 x (znm e1)
  obtain⟨hb,hs⟩:=zji hx
  have hw:IntKind.i64.wrap ((i:Int)+1)=((i+1:Nat):Int):=qj
  obtain⟨t1,hp1,ha1⟩:=qiv P a (rk t) (hsh x) hP hb ha hp0
  obtain⟨t',h⟩:=ih (i+1) t1 (kS P a (hsh x)) e2 (by rw[ZW];exact ha)
  refine⟨t',?_⟩
  rw[qmg]
  simp at h hw
  have ef:hfold P a (x::r)=hfold P (kS P a (hsh x)) r:=rfl
  simp[hi,e3,ql,hs,qp,qo,ha1,hw,h,ef]
theorem zen(p:Int)(l:List Int)(k:Nat)(hp8:0<=p/\p<256)(hl:l.length<=1000000)(h64:∀n∈l,0<=n/\n<18446744073709551616)(hp:Hp):
 ∃t,run cxX 33 [.sc (.int .u8 p),S k 1 (LI .u64 l)] hp=some (Hv (4+p%5) (S t 1 (LI .u8 (hfold (4+p%5) (List.replicate (jU (4+p%5)) 0) l))),hp):=by
 have h1:∀t x y,qy Tryz.prog .rem t x y (.int .u8 p) (.int .u8 5)=some (.int .u8 (p%5)):=by
  intro t x y;rw[zp _ _ _ _ _ _ _ qe,zn hp8.1]
 have w1:IntKind.i64.wrap (p%5)=p%5:=qm qe qe
 have w2:IntKind.i64.wrap (4+p%5)=4+p%5:=qm qe qe
 have nw:=fun hp=>qiu (4+p%5) qe hp
 have hple:=VH (P:=4+p%5) qe
 obtain⟨t,h⟩:=za9 (4+p%5) (.sc (.int .i64 0)) (S 2 1 []) l (rk k) qe hl h64 hp l 0 0 (List.replicate (jU (4+p%5)) 0) rfl qi
 refine⟨t,?_⟩
 rw[E33]
 simp at h
 simp[h1,w1,w2,nw,qo,h]
abbrev Bv(bits hashes:Value)(S:AV):AV:=.agg [.sc bits,.sc hashes,S]
theorem qoa(B H:Value)(q0 q1 q2:AV)(hp:Hp):∀(n:Nat) (a b acc:List Int) (k k':Nat),a.length+b.length=n->acc.length+n<=1000000->
 B45_3 (S k 1 (LI .u32 a)) (S k' 1 (LI .u32 b)) [q0,q1,q2] [.sc B,.sc H,S 2 1 (LI .u32 acc)] hp=some (Bv B H (S 2 1 (LI .u32 (acc++mrg a b))),hp):=by
 intro n
 induction n using Nat.strongRecOn with
 |_ n ih=>
 intro a b acc k k' hn hlen
 have hw:IntKind.i64.wrap ((a.length:Int)+(b.length:Int))=((a.length+b.length:Nat):Int):=by
  rw[qm]<;>omega
 have ap:∀x:Int,jp 4 1 (S 2 1 (LI .u32 acc)) (S 1 1 [.sc (.int .u32 x)])=some (S 2 1 (LI .u32 (acc++[x]))):=fun x=>Qz .u32 acc 2 (.inr rfl) 4 qh x qe
 have goA:∀(x:Int) (r:List Int),r.length+1+b.length<=n->B45_6 (S k 1 (LI .u32 (x::r))) (S k' 1 (LI .u32 b)) [q0,q1,q2] [.sc B,.sc H,S 2 1 (LI .u32 acc)] hp=some (Bv B H (S 2 1 (LI .u32 (acc++x::mrg r b))),hp):=by
  intro x r hle
  rw[zdh]
  have e:=xa (rk k) (LI .u32 (x::r)) .i64 1 qe (by simp only[kR,zna];omega)
  simp[qs,ql,ap,e,qo,ih (r.length+b.length) qe r b (acc++[x]) _ k' rfl (by simp only[zm9,zna,zns];omega)]
 have goB:∀(y:Int) (r:List Int),a.length+(r.length+1)<=n->B45_8 (S k 1 (LI .u32 a)) (S k' 1 (LI .u32 (y::r))) [q0,q1,q2] [.sc B,.sc H,S 2 1 (LI .u32 acc)] hp=some (Bv B H (S 2 1 (LI .u32 (acc++y::mrg a r))),hp):=by
  intro x r hle
  rw[zdg]
  have e:=xa (rk k') (LI .u32 (x::r)) .i64 1 qe (by simp only[kR,zna];omega)
  simp[qs,ql,ap,e,qo,ih (a.length+r.length) qe a r (acc++[x]) k _ rfl (by simp only[zm9,zna,zns];omega)]
 have wY:∀(x y:Int) (r s:List Int),r.length+s.length+2<=n->B45_4 (S k 1 (LI .u32 (x::r))) (S k' 1 (LI .u32 (y::s))) [q0,q1,q2] [.sc B,.sc H,S 2 1 (LI .u32 acc)] hp=some (Bv B H (S 2 1 (LI .u32 (acc++x::mrg r s))),hp):=by
  intro x y r s hle
  rw[zdi]
  have e:=xa (rk k) (LI .u32 (x::r)) .i64 1 qe (by simp only[kR,zna];omega)
  have e':=xa (rk k') (LI .u32 (y::s)) .i64 1 qe (by simp only[kR,zna];omega)
  simp[qs,ql,ap,e,e',qo,ih (r.length+s.length) qe r s (acc++[x]) _ _ rfl (by simp only[zm9,zna,zns];omega)]
 rw[zdj]
 match a,b with
 |[],[]=>simp[qp,qo,Bv]
 |[],y::s=>
  have h:=goB y s (by simp at hn⊢;omega)
  simp at h
  have hw':IntKind.i64.wrap ((s.length:Int)+1)=(s.length:Int)+1:=qm qe (by simp at hn;omega)
  have p:(0:Int)<(s.length:Int)+1:=qe
  have z:¬((s.length:Int)+1=0):=qe
  simp[hw',p,z,qa9,h]
 |x::r,[]=>
  have h:=goA x r (by simp at hn⊢;omega)
  simp at h
  have hw':IntKind.i64.wrap ((r.length:Int)+1)=(r.length:Int)+1:=qm qe (by simp at hn;omega)
  have p:(0:Int)<(r.length:Int)+1:=qe
  simp[hw',p,h]
 |x::r,y::s=>
  have h1:=goA x r (by simp at hn⊢;omega)
  have h2:=goB y s (by simp at hn⊢;omega)
  have h3:=wY x y r s (by simp at hn⊢;omega)
  have hw':IntKind.i64.wrap ((r.length:Int)+1+((s.length:Int)+1))=(r.length:Int)+1+((s.length:Int)+1):=qm qe (by simp at hn;omega)
  have p:(0:Int)<(r.length:Int)+1+((s.length:Int)+1):=qe
  have p':(0:Int)<(r.length:Int)+1:=qe
  have z:¬((s.length:Int)+1=0):=qe
  have z':¬((r.length:Int)+1=0):=qe
  rw[zP]
  by_cases hxy:x<y
  ·simp[hw',p,p',z,z',ql,hxy,h1]
  ·by_cases hyx:y<x
   ·simp[hw',p,p',z,z',ql,hxy,hyx,h2,qa9]
   ·simp[hw',p,p',z,z',ql,hxy,hyx,h3,qa9]
theorem qsn(B H B' H':Value)(a b:List Int)(k k':Nat)(hp:Hp)(hlen:a.length+b.length<=1000000):
 run cxX 45 [Bv B H (S k 1 (LI .u32 a)),Bv B' H' (S k' 1 (LI .u32 b))] hp=some (Bv B H (S 2 1 (LI .u32 (mrg a b))),hp):=by
 rw[E45]
 have:=qoa B H (.sc (.int .i64 0)) (.sc (.int .i64 0)) (S 2 1 []) hp (a.length+b.length) a b [] (rk k) (rk k') rfl (by simpa using hlen)
 simp at this
 simp[Bv,ql,qs]
 exact this
theorem qsc(B H B' H':AV)(a b:List Int)(k k':Nat)(hab:a.length=b.length)(hl:a.length<=1000000)(hp:Hp):∀(r s:List Int) (i:Nat),a.drop i=r->b.drop i=s->
 B134_4 (.int .i64 a.length) (.int .i64 i) [B,H,S k 1 (LI .u32 a)] [B',H',S k' 1 (LI .u32 b)] hp=some (.sc (.bool (decide (r=s))),hp):=by
 intro r
 induction r with
 |nil=>
  intro s i hr hs
  have h1:=qL hr
  have h2:s=[]:=by rw[<-hs];exact zoh qe
  have hlt:¬((i:Int)<(a.length:Int)):=qe
  rw[qfg]
  simp[hlt,h2]
 |cons x r ih=>
  intro s i hr hs
  obtain⟨e1,e2,hi,e3⟩:=qt hr
  rw[qfg]
  have hw:IntKind.i64.wrap ((i:Int)+1)=((i+1:Nat):Int):=qj
  cases s with
  |nil=>have:=qL hs;omega
  |cons y s=>
   obtain⟨f1,f2,hj,f3⟩:=qt hs
   have h:=ih s (i+1) e2 f2
   simp at h hw
   by_cases e:x=y
   ·simp[hi,hj,qs,ql,e3,f3,e,hw,h]
   ·simp[hi,hj,qs,ql,e3,f3,e]
theorem qyo(B H:Int)(B' H':Int)(a b:List Int)(k k':Nat)(hp:Hp)(ha:a.length<=1000000)(hb:b.length<=1000000):
 run cxX 134 [Bv (.int .i64 B) (.int .i64 H) (S k 1 (LI .u32 a)),Bv (.int .i64 B') (.int .i64 H') (S k' 1 (LI .u32 b))] hp=some (.sc (.bool (decide (B=B'/\H=H'/\a=b))),hp):=by
 rw[E134]
 by_cases h1:B=B'
 ·by_cases h2:H=H'
  ·by_cases h3:a.length=b.length
   ·have h:=qsc (.sc (.int .i64 B)) (.sc (.int .i64 H)) (.sc (.int .i64 B')) (.sc (.int .i64 H')) a b (rk k) (rk k') h3 ha hp a b 0 rfl rfl
    simp at h
    subst h1 h2
    rw[h3]at h
    simp[ql,qs,h3,qxb,h]
   ·have h4:¬(a=b):=fun e=>h3 (by rw[e])
    have h5:¬((a.length:Int)=(b.length:Int)):=qe
    simp[ql,qs,h1,h2,h4,h5,KQ]
  ·simp[ql,qs,h1,h2,KQ]
 ·simp[ql,qs,h1,KQ]
def Kz(B:Int):Option Int->List Int->Int
 |_,[]=>0
 |p,n::r=>if n>=B then 2 else match p with
  |none=>Kz B (some n) r
  |some q=>if n<=q then 8 else Kz B (some n) r
def qaz(B H:Int)(l:List Int):Int:=if B<1\/B>4096\/H<1\/H>8 then 2 else Kz B none l
def zg9(l:List Int):Prop:=∀n∈l,0<=n/\n<4294967296
theorem qo4(B:Int)(H:AV)(l:List Int)(k k':Nat)(hl:l.length<=1000000)(h32:zg9 l)(hp:Hp):∀(r:List Int) (i:Nat) (p:Option Int),l.drop i=r->
 (match p with|none=>i=0|some q=>∃j,i=j+1/\l[j]?=some q)->
 B87_4 (S k 1 (LI .u32 l)) (.int .i64 l.length) (.int .i64 i) [.sc (.int .i64 B),H,S k' 1 (LI .u32 l)] hp=some (.sc (.int .i64 (Kz B p r)),hp):=by
 intro r
 induction r with
 |nil=>
  intro i p hr hp'
  have:=qL hr
  have hlt:¬((i:Int)<(l.length:Int)):=qe
  rw[qlq]
  simp[hlt,Kz]
 |cons n r ih=>
  intro i p hr hp'
  obtain⟨e1,e2,hi,e3⟩:=qt hr
  have h:=ih (i+1) (some n) e2 ⟨i,rfl,e1⟩
  have hw:IntKind.i64.wrap ((i:Int)+1)=((i+1:Nat):Int):=qj
  have hn:=h32 n (znm e1)
  have hwn:IntKind.i64.wrap n=n:=qm qe qe
  rw[qlq]
  by_cases hB:B<=n
  ·simp[hi,e1,e3,ql,xJ,hwn,hB,Kz]
  ·cases p with
   |none=>
    obtain rfl:i=0:=hp'
    simp at h e1 hw
    simp[hi,e1,e3,ql,xJ,hwn,hB,Kz,qd0,hw,h]
   |some q=>
    obtain⟨j,rfl,ej⟩:=hp'
    have hw2:IntKind.i64.wrap (((j+1:Nat):Int)-1)=(j:Int):=qj
    have hpos:(0:Int)<(j:Int)+1:=qe
    have hi2:(j:Int)+1<(l.length:Int):=qe
    have hge:(0:Int)<=(j:Int)+1:=qe
    have htn:((j:Int)+1).toNat=j+1:=qe
    simp at h hw hw2
    by_cases hq:n<=q
    ·simp[hi2,hge,htn,e1,e3,ej,ql,qs,xJ,hwn,hB,Kz,hpos,hw2,hq,zcu]
    ·simp[hi2,hge,htn,e1,e3,ej,ql,qs,xJ,hwn,hB,Kz,hpos,hw2,hq,qd0,hw,h]
theorem qcs(B H:Int)(l:List Int)(k:Nat)(hl:l.length<=1000000)(h32:zg9 l)(hp:Hp):
 run cxX 87 [Bv (.int .i64 B) (.int .i64 H) (S k 1 (LI .u32 l))] hp=some (.sc (.int .i64 (qaz B H l)),hp):=by
 rw[E87]
 have h:=qo4 B (.sc (.int .i64 H)) l (rk k) (rk k) hl h32 hp l 0 none rfl rfl
 simp at h
 unfold qaz
 by_cases h1:B<1
 ·simp[ql,h1,XI]
 ·by_cases h2:4096<B
  ·simp[ql,h1,h2,XI]
  ·by_cases h3:H<1
   ·simp[ql,h1,h2,h3,XI]
   ·by_cases h4:8<H
    ·simp[ql,h1,h2,h3,h4,XI]
    ·simp[ql,qs,h1,h2,h3,h4,zcv,h]
def at0(h:Int):Int:=IntKind.u32.wrap h
def stp(h:Int):Int:=IntKind.u32.wrap (BitVec.ofInt 32 (IntKind.u32.wrap (h.fdiv (2^32)))|||BitVec.ofInt 32 1).toNat
def plc(B st:Int):Nat->Int->List Int
 |0,_=>[]
 |n+1,a=>a%B::plc B st n (IntKind.u32.wrap (a+st))
theorem qqg(B st:Int):∀(n:Nat) (a:Int),(plc B st n a).length=n
 |0,_=>rfl
 |n+1,a=>by simp[plc,qqg B st n]
theorem qzq(B st:Int)(hB:0<B):∀(n:Nat) (a x:Int),x∈plc B st n a->0<=x/\x<B
 |0,_,x,h=>by simp[plc]at h
 |n+1,a,x,h=>by
  rcases zne.mp h with rfl|h
  ·exact⟨Int.emod_nonneg _ qe,Int.emod_lt_of_pos _ hB⟩
  ·exact qzq B st hB n _ x h
theorem qb1(z:Int):0<=IntKind.u32.wrap z/\IntKind.u32.wrap z<4294967296:=by
 rw[IntKind.wrap_u32];omega
theorem qjj(B H st:Int)(H':AV)(q:AV)(hB:1<=B/\B<=4096)(hH:H<=8)(hp:Hp):∀(n i:Nat) (a:Int) (acc:List Int),H=(i+n:Nat)->0<=a->acc.length<=i->
 B91_6 (S 2 1 (LI .u32 acc)) (.int .u32 a) (.int .u32 st) (.int .i64 H) (.int .i64 i) [.sc (.int .i64 B),H',q] hp=some (S 2 1 (LI .u32 (acc++plc B st n a)),hp):=by
 intro n
 induction n with
 |zero=>
  intro i a acc hi ha hc
  rw[qlm]
  have hlt:¬((i:Int)<H):=qe
  simp[hlt,plc]
 |succ n ih=>
  intro i a acc hi ha hc
  rw[qlm]
  have hlt:(i:Int)<H:=qe
  have hw:IntKind.i64.wrap ((i:Int)+1)=((i+1:Nat):Int):=qj
  have hwB:IntKind.u32.wrap B=B:=qK qe qe
  have h:=ih (i+1) (IntKind.u32.wrap (a+st)) (acc++[a%B]) qe (qb1 _).1 qi
  have ap:=Qz .u32 acc 2 (.inr rfl) 4 qh (a%B) qe
  have hr:∀x y,qy Tryz.prog .rem 40 x y (.int .u32 a) (.int .u32 B)=some (.int .u32 (a%B)):=by
   intro x y
   rw[zp _ _ _ _ _ _ _ qe,zn ha]
  simp at h hw
  simp[hlt,ql,Xv,hwB,hr,ap,hw,h,plc]
def pls(B H:Int)(l:List Int)(h:Int):List Int:=if qaz B H l=0 then plc B (stp h) H.toNat (at0 h)else []
theorem qm7(B H:Int)(l:List Int)(k:Nat)(h:Int)(hl:l.length<=1000000)(h32:zg9 l)(hp:Hp):
 run cxX 91 [Bv (.int .i64 B) (.int .i64 H) (S k 1 (LI .u32 l)),.sc (.int .u64 h)] hp=some (S 2 1 (LI .u32 (pls B H l h)),hp):=by
 rw[E91]
 have hc:=qcs B H l (rk k) hl h32 hp0
 unfold pls
 by_cases h0:qaz B H l=0
 ·have hr:¬(B<1\/B>4096\/H<1\/H>8):=by
   intro h'
   rw[qaz,if_pos h']at h0
   cases h0
  have hh:=qjj B H (stp h) (.sc (.int .i64 H)) (S (rk k) 1 (LI .u32 l)) qe qe hp H.toNat 0 (at0 h) [] qe (qb1 _).1 qg
  simp at hh
  have hs:∀x y,qy Tryz.prog .shr 62 x y (.int .u64 h) (.int .u64 32)=some (.int .u64 (h.fdiv (2^32))):=by
   intro x y
   rw[jM _ _ _ _ _ _ _ _ qe]
   rfl
  simp[qp,hc,h0,jK,hs,ql]
  exact hh
 ·simp[qp,hc,h0]
def kN(B:Int)(l:List Int):Prop:=jP l/\∀n∈l,0<=n/\n<B
theorem kN.in32{B:Int}{l:List Int}(h:kN B l)(hB:B<=4096):zg9 l:=fun n hn=>by have:=h.2 n hn;omega
theorem kN.nil(B:Int):kN B []:=⟨List.Pairwise.nil,qg⟩
theorem kN.mrg{B:Int}{a b:List Int}(ha:kN B a)(hb:kN B b):kN B (mrg a b):=
 ⟨jl a b ha.1 hb.1,fun n hn=>((ye n a b).mp hn).elim (ha.2 n) (hb.2 n)⟩
theorem kN.one{B n:Int}(h:0<=n/\n<B):kN B [n]:=⟨qg,by simpa using h⟩
theorem qi6{B:Int}:∀{l:List Int} {a:Int},jP l->(∀n∈l,a<=n/\n<B)->(l.length:Int)<=B-a\/l=[]
 |[],_,_,_=>.inr rfl
 |x::l,a,h,hb=>by
  have h':=znh.mp h
  have hx:=hb x qg
  rcases qi6 (a:=x+1) h'.2 (fun n hn=>⟨by have:=h'.1 n hn;omega,(hb n (by simp[hn])).2⟩)with h2|h2
  ·left;simp;omega
  ·left;subst h2;simp;omega
theorem kN.len{B:Int}{l:List Int}(h:kN B l)(hB:B<=4096):l.length<=4096:=by
 rcases qi6 (a:=0) h.1 h.2 with h'|h'
 ·omega
 ·simp[h']
theorem Ky{B:Int}:∀(l:List Int) (p:Option Int),(∀n∈l,0<=n/\n<B)->(match p with|none=>jP l|some q=>jP (q::l))->Kz B p l=0
 |[],_,_,_=>rfl
 |n::l,p,h,hp=>by
  have hn:=h n qg
  have h0:¬(n>=B):=qe
  simp only[Kz,h0,if_false]
  cases p with
  |none=>exact Ky l (some n) (fun m hm=>h m (by simp[hm])) hp
  |some q=>
   have hp:jP (q::n::l):=hp
   have h1:=(znh.mp hp).1 n qg
   have h2:¬(n<=q):=qe
   simp only[h2,if_false]
   exact Ky l (some n) (fun m hm=>h m (by simp[hm])) (znh.mp hp).2
theorem Xz{B H:Int}{l:List Int}(hB:1<=B/\B<=4096)(hH:1<=H/\H<=8)(h:kN B l):qaz B H l=0:=by
 unfold qaz
 rw[if_neg qe]
 exact Ky l none h.2 h.1
def plg(B H h:Int):List Int:=plc B (stp h) H.toNat (at0 h)
theorem qzp{B H:Int}{l:List Int}(hB:1<=B/\B<=4096)(hH:1<=H/\H<=8)(h:kN B l)(x:Int):pls B H l x=plg B H x:=by
 unfold pls
 rw[if_pos (Xz hB hH h)];rfl
theorem WC{B H h:Int}(hB:1<=B):∀n∈plg B H h,0<=n/\n<B:=fun n hn=>qzq B _ qe _ _ n hn
theorem ze9(B H h:Int):(plg B H h).length=H.toNat:=qqg _ _ _ _
def Ji(l:List Int):List Int->List Int
 |[]=>l
 |n::r=>Ji (mrg l [n]) r
theorem QD{B:Int}:∀{r l:List Int},kN B l->(∀n∈r,0<=n/\n<B)->kN B (Ji l r)
 |[],_,h,_=>h
 |n::r,l,h,hr=>QD (r:=r) (h.mrg (kN.one (hr n qg))) fun m hm=>hr m (by simp[hm])
theorem zco(B H:Int)(q0 q1 q2 q:AV)(k':Nat)(ps:List Int)(hB:1<=B/\B<=4096)(hps:ps.length<=8)(hin:∀n∈ps,0<=n/\n<B)(hp:Hp):∀(r:List Int) (i:Nat) (l:List Int) (k:Nat),ps.drop i=r->kN B l->
 B41_3 (S k' 1 (LI .u32 ps)) (.int .i64 ps.length) (.int .i64 i) [.sc (.int .i64 B),.sc (.int .i64 H),q] [q0,q1,q2] [.sc (.int .i64 B),.sc (.int .i64 H),S k 1 (LI .u32 l)] hp=some (Bv (.int .i64 B) (.int .i64 H) (S (if r=[]then k else 2) 1 (LI .u32 (Ji l r))),hp):=by
 intro r
 induction r with
 |nil=>
  intro i l k hr hg
  have:=qL hr
  have hlt:¬((i:Int)<(ps.length:Int)):=qe
  rw[qmc]
  simp[hlt,qp,qo,Ji]
 |cons x r ih=>
  intro i l k hr hg
  obtain⟨e1,e2,hi,e3⟩:=qt hr
  have hx:=hin x (znm e1)
  have h:=ih (i+1) (mrg l [x]) 2 e2 (hg.mrg (kN.one hx))
  have hw:IntKind.i64.wrap ((i:Int)+1)=((i+1:Nat):Int):=qj
  have hlen:=hg.len hB.2
  have hm:=fun hp=>qsn (.int .i64 B) (.int .i64 H) (.int .i64 B) (.int .i64 H) l [x] (rk k) 0 hp qi
  rw[qmc]
  simp[LI]at h hw hm
  simp[hi,e3,ql,qs,qp,qo,Ji,LI,hm,hw,h]
theorem qqd(B H:Int)(l:List Int)(k:Nat)(h:Int)(hB:1<=B/\B<=4096)(hH:1<=H/\H<=8)(hg:kN B l)(hp:Hp):
 run cxX 41 [Bv (.int .i64 B) (.int .i64 H) (S k 1 (LI .u32 l)),.sc (.int .u64 h)] hp=some (Bv (.int .i64 B) (.int .i64 H) (S 2 1 (LI .u32 (Ji l (plg B H h)))),hp):=by
 rw[E41]
 have hlen:=hg.len hB.2
 have h1:=fun hp=>qm7 B H l (rk k) h qe (hg.in32 hB.2) hp
 have hl:=ze9 B H h
 have hne:plg B H h≠[]:=by
  intro e
  rw[e]at hl
  simp at hl
  omega
 have h2:=zco B H (.sc (.int .i64 0)) (.sc (.int .i64 0)) (S 2 1 []) (S (rk k) 1 (LI .u32 l)) 2 (plg B H h) hB qe (WC hB.1) hp _ 0 l (rk k) rfl hg
 rw[qzp hB hH hg h]at h1
 simp[hne]at h2
 simp[qp,qo,h1,h2]
def blm(B H:Int):List Int->List Int->List Int
 |acc,[]=>acc
 |acc,h::r=>blm B H (Ji acc (plg B H h)) r
theorem qk2{B H:Int}(hB:1<=B):∀{r acc:List Int},kN B acc->kN B (blm B H acc r)
 |[],_,h=>h
 |x::r,acc,h=>qk2 hB (r:=r) (QD h (WC hB))
theorem qo7(B H:Int)(q0 q1 q2:AV)(k:Nat)(hs:List Int)(hB:1<=B/\B<=4096)(hH:1<=H/\H<=8)(hl:hs.length<=1000000)(hp:Hp):∀(r:List Int) (i:Nat) (l:List Int),hs.drop i=r->kN B l->
 B34_3 (S k 1 (LI .u64 hs)) (.int .i64 hs.length) (.int .i64 i) [q0,q1,q2] [.sc (.int .i64 B),.sc (.int .i64 H),S 2 1 (LI .u32 l)] hp=some (Bv (.int .i64 B) (.int .i64 H) (S 2 1 (LI .u32 (blm B H l r))),hp):=by
 intro r
 induction r with
 |nil=>
  intro i l hr hg
  have:=qL hr
  have hlt:¬((i:Int)<(hs.length:Int)):=qe
  rw[qmf]
  simp[hlt,qp,qo,blm]
 |cons x r ih=>
  intro i l hr hg
  obtain⟨e1,e2,hi,e3⟩:=qt hr
  have h:=ih (i+1) (Ji l (plg B H x)) e2 (QD hg (WC hB.1))
  have hw:IntKind.i64.wrap ((i:Int)+1)=((i+1:Nat):Int):=qj
  have ha:=fun hp=>qqd B H l 3 x hB hH hg hp
  rw[qmf]
  simp at h hw
  simp[hi,e3,ql,qp,qo,blm,ha,hw,h]
theorem qs1(b h:Int)(k:Nat)(hs:List Int)(hb:0<=b/\b<65536)(hh:0<=h/\h<256)(hl:hs.length<=1000000)(hp:Hp):
 run cxX 34 [.sc (.int .u16 b),.sc (.int .u8 h),S k 1 (LI .u64 hs)] hp=some (Bv (.int .i64 (1+b%300)) (.int .i64 (1+h%8)) (S 2 1 (LI .u32 (blm (1+b%300) (1+h%8) [] hs))),hp):=by
 rw[E34]
 have h1:∀x y,qy Tryz.prog .rem 22 x y (.int .u16 b) (.int .u16 300)=some (.int .u16 (b%300)):=by
  intro x y;rw[zp _ _ _ _ _ _ _ qe,zn hb.1]
 have h2:∀x y,qy Tryz.prog .rem 5 x y (.int .u8 h) (.int .u8 8)=some (.int .u8 (h%8)):=by
  intro x y;rw[zp _ _ _ _ _ _ _ qe,zn hh.1]
 have w1:IntKind.i64.wrap (b%300)=b%300:=qm qe qe
 have w2:IntKind.i64.wrap (h%8)=h%8:=qm qe qe
 have w3:IntKind.i64.wrap (1+b%300)=1+b%300:=qm qe qe
 have w4:IntKind.i64.wrap (1+h%8)=1+h%8:=qm qe qe
 have hq:=qo7 (1+b%300) (1+h%8) (.sc (.int .i64 0)) (.sc (.int .i64 0)) (S 2 1 []) (rk k) hs qe qe hl hp hs 0 [] rfl (kN.nil _)
 simp at hq
 simp[h1,h2,zgs,jW,w1,w2,w3,w4,hq]
abbrev fl(w:Nat):AV:=.sc (.float .f64 w)
theorem XO(w:Nat):one (Yy Tryz.prog 148 [.float .f64 w])=some (.int .u64 (w:Int)):=qf
theorem qfv(n:Int):one (Yy Tryz.prog 184 [.int .u64 n])=some (.float .f64 n.toNat):=qf
theorem zki(x y:Operand):qy Tryz.prog .eql 4 x y (.bool true) (.bool true)=some (.bool true):=qf
theorem zkj(x y:Operand):qy Tryz.prog .eql 4 x y (.bool true) (.bool false)=some (.bool false):=qf
theorem zkk(x y:Operand):qy Tryz.prog .eql 4 x y (.bool false) (.bool true)=some (.bool false):=qf
theorem zkl(x y:Operand):qy Tryz.prog .eql 4 x y (.bool false) (.bool false)=some (.bool true):=qf
@[simp] theorem beq_bb (x y : Operand) (a b : Bool) : qy Tryz.prog .eql 4 x y (.bool a) (.bool b) = some (.bool (decide (a = b))) := by
 cases a<;>cases b
 ·exact zkl x y
 ·exact zkk x y
 ·exact zkj x y
 ·exact zki x y
theorem XW(w:Nat)(hp:Hp):run cxX 189 [fl w] hp=some (.sc (.bool (decide (yR w))),hp):=by
 rw[E189]
 simp[jA]
theorem Ju(w:Nat)(h:w<18446744073709551616)(hp:Hp):run cxX 155 [fl w] hp=some (.sc (.int .u64 (kw w:Int)),hp):=by
 rw[E155]
 unfold kw
 by_cases hn:yR w
 ·simp[XO,XW,hn,KM]
 ·by_cases hl:w<9223372036854775808
  ·have e:=qk5 Tryz.prog 62 (Go.Operand.tmp 6) (Go.Operand.const (.int .u64 (Int.ofNat 9223372036854775808))) w hl
   have e':=Vk Tryz.prog 62 (Go.Operand.tmp 12) (Go.Operand.const (.int .u64 (Int.ofNat 9223372036854775808))) w hl
   simp at e e'
   simp[XO,XW,hn,hl,e,e',KM]
  ·have e':=Vl Tryz.prog 62 (Go.Operand.tmp 12) (Go.Operand.const (.int .u64 (Int.ofNat 9223372036854775808))) w qe h
   have e:=qb5 Tryz.prog w h
   simp at e e'
   simp[XO,XW,hn,hl,e,e',KM]
theorem qyv(k:Nat)(h:k<18446744073709551616)(hp:Hp):run cxX 182 [.sc (.int .u64 (k:Int))] hp=some (.tup [fl (wk k),.sc (.bool (zaj k))],hp):=by
 have e4:∀hp,B182_4 (.int .u64 (k:Int)) (.int .u64 (wk k:Int)) hp=some (.tup [fl (wk k),.sc (.bool (zaj k))],hp):=by
  intro hp
  rw[qwh]
  have hk:=fun hp=>Ju (wk k) (qb2 k h) hp
  have hd:decide ((kw (wk k):Int)=(k:Int))=zaj k:=by
   unfold zaj
   apply decide_eq_decide.mpr
   omega
  simp[qfv,hk,hd]
 rw[E182]
 have c:=qo8 Tryz.prog 62 (Go.Operand.tmp 6) (Go.Operand.const (.int .u64 (Int.ofNat 9223372036854775808))) k h
 have n:=qb5 Tryz.prog k h
 by_cases hl:k<9223372036854775808
 ·have e':=Vk Tryz.prog 62 (Go.Operand.tmp 8) (Go.Operand.const (.int .u64 (Int.ofNat 9223372036854775808))) k hl
  have w:wk k=18446744073709551615-k:=by unfold wk;rw[if_pos hl]
  rw[w]at e4
  rw[<-w]at e4
  rw[<-w]at n
  simp at c n e'
  simp[c,n,e',e4]
 ·have e':=Vl Tryz.prog 62 (Go.Operand.tmp 8) (Go.Operand.const (.int .u64 (Int.ofNat 9223372036854775808))) k qe h
  have w:wk k=k%9223372036854775808:=by unfold wk;rw[if_neg hl];omega
  rw[<-w]at c
  simp at c e'
  simp[c,e',e4]
theorem YS(a b:Nat)(ha:a<18446744073709551616)(hb:b<18446744073709551616)(hp:Hp):run cxX 96 [fl a,fl b] hp=some (.sc (.bool (decide (kw a<kw b))),hp):=by
 rw[E96]
 simp[Ju a ha,Ju b hb]
theorem Qk(a b:Nat)(ha:a<18446744073709551616)(hb:b<18446744073709551616)(hp:Hp):run cxX 183 [fl a,fl b] hp=some (.sc (.bool (decide (kw a=kw b))),hp):=by
 rw[E183]
 simp[Ju a ha,Ju b hb]
 omega
def qkj(a b:Nat):Nat:=if kw b<kw a then b else a
def qkk(a b:Nat):Nat:=if kw a<kw b then b else a
theorem qre{a b:Nat}(ha:a<18446744073709551616)(hb:b<18446744073709551616):qkj a b<18446744073709551616:=by unfold qkj;split<;>assumption
theorem qrf{a b:Nat}(ha:a<18446744073709551616)(hb:b<18446744073709551616):qkk a b<18446744073709551616:=by unfold qkk;split<;>assumption
theorem qy1(a b:Nat)(ha:a<18446744073709551616)(hb:b<18446744073709551616)(hp:Hp):run cxX 94 [fl a,fl b] hp=some (fl (qkj a b),hp):=by
 rw[E94]
 unfold qkj
 by_cases h:kw b<kw a<;>simp[YS b a hb ha,h]
theorem qy2(a b:Nat)(ha:a<18446744073709551616)(hb:b<18446744073709551616)(hp:Hp):run cxX 95 [fl a,fl b] hp=some (fl (qkk a b),hp):=by
 rw[E95]
 unfold qkk
 by_cases h:kw a<kw b<;>simp[YS a b ha hb,h]
theorem zek(hp:Hp):run cxX 186 [] hp=some (fl 9221120237041090561,hp):=by
 rw[E186]
 simp[qfv]
theorem YT(s:Int)(hp:Hp):run cxX 149 [.sc (.int .i64 s)] hp=some (fl (if 0<=s then 9218868437227405312 else 18442240474082181120),hp):=by
 rw[E149]
 by_cases h:0<=s<;>simp[h,qw1,qfv]
theorem qbn(hp:Hp):run cxX 187 [fl 0,fl 13826050856027422720] hp=some (fl 9223372036854775808,hp):=(E187 _ _ _).trans qf
theorem qgg(hp:Hp):run cxX 187 [fl 0,fl 4602678819172646912] hp=some (fl 0,hp):=(E187 _ _ _).trans qf
theorem zmh(x y:Operand):qy Tryz.prog .sub 42 x y (.float .f64 (FloatKind.f64.nearest 0)) (.float .f64 4602678819172646912)=some (.float .f64 13826050856027422720):=qf
theorem zmg(x y:Operand):qy Tryz.prog .sub 42 x y (.float .f64 (FloatKind.f64.nearest 1)) (.float .f64 4602678819172646912)=some (.float .f64 4602678819172646912):=qf
theorem qsw(n e:Int)(hn:0<=n/\n<18446744073709551616)(he:0<=e/\e<256):∃w,w<18446744073709551616/\∀hp,run cxX 151 [.sc (.int .u64 n),.sc (.int .u8 e)] hp=some (fl w,hp):=by
 have m8:∀x y,qy Tryz.prog .rem 5 x y (.int .u8 e) (.int .u8 8)=some (.int .u8 (e%8)):=by
  intro x y;rw[zp _ _ _ _ _ _ _ qe,zn he.1]
 have m2:∀x y,qy Tryz.prog .rem 62 x y (.int .u64 n) (.int .u64 2)=some (.int .u64 (n%2)):=by
  intro x y;rw[zp _ _ _ _ _ _ _ qe,zn hn.1]
 have m3:∀x y,qy Tryz.prog .rem 62 x y (.int .u64 n) (.int .u64 2001)=some (.int .u64 (n%2001)):=by
  intro x y;rw[zp _ _ _ _ _ _ _ qe,zn hn.1]
 have w2:IntKind.i64.wrap (n%2)=n%2:=qm qe qe
 have w3:IntKind.i64.wrap (n%2001)=n%2001:=qm qe qe
 have w4:IntKind.i64.wrap (n%2001-1000)=n%2001-1000:=qm qe qe
 have w5:IntKind.i64.wrap (2*(n%2))=2*(n%2):=qm qe qe
 have w5':IntKind.i64.wrap (n%2*2)=n%2*2:=qm qe qe
 have w6:IntKind.i64.wrap (n%2*2-1)=n%2*2-1:=qm qe qe
 have b10:∀hp,B151_10 (.int .u64 n) hp=some (fl (FloatKind.f64.nearest (n%2001-1000)),hp):=by
  intro hp
  rw[qpo]
  simp[m3,qrk,w3,w4,zgr]
 have b11:∀hp,B151_11 (.int .u64 n) hp=some (fl n.toNat,hp):=by
  intro hp
  rw[qpn]
  simp[qfv]
 by_cases h0:e%8=0
 ·refine⟨9221120237041090561,qh,fun hp=>?_⟩
  rw[qph]
  simp[m8,h0,zek]
 ·by_cases h1:e%8=1
  ·refine⟨if 0<=n%2*2-1 then 9218868437227405312 else 18442240474082181120,by split<;>decide,fun hp=>?_⟩
   rw[qph]
   simp[m8,h1,m2,xI,w2,w5',w6,YT]
  ·by_cases h2:e%8=2
   ·rcases Int.emod_two_eq n with q|q
    ·refine⟨9223372036854775808,qh,fun hp=>?_⟩
     rw[qph]
     simp[m8,h2,m2,q,qkr,zmh,qbn]
    ·refine⟨0,qh,fun hp=>?_⟩
     rw[qph]
     simp[m8,h2,m2,q,qkr,zmg,qgg]
   ·by_cases h3:e%8=3
    ·refine⟨_,WN (n%2001-1000),fun hp=>?_⟩
     rw[qph]
     simp[m8,h3,b10]
    ·by_cases h4:e%8=4
     ·refine⟨_,WN (n%2001-1000),fun hp=>?_⟩
      rw[qph]
      simp[m8,h4,b10]
     ·refine⟨n.toNat,qe,fun hp=>?_⟩
      rw[qph]
      simp[m8,h0,h1,h2,h3,h4,b11]
theorem zja{w:Nat}(h:w<18446744073709551616):yR (nw w)↔yR w:=by
 unfold yR nw
 split<;>omega
theorem qt9{w:Nat}(h:w<18446744073709551616)(hn:¬yR w):kw w<18444492273895866369:=by
 unfold kw
 rw[if_neg hn]
 unfold yR at hn
 split<;>omega
theorem zi9{w:Nat}(hn:yR w):kw w=18444492273895866369:=by
 unfold kw
 rw[if_pos hn]
theorem qit(w:Nat)(h:w<18446744073709551616)(hn:¬yR w)(hp:Hp):run cxX 195 [fl w,.sc (.int .i64 (-1))] hp=some (.sc (.bool (decide (w=18442240474082181120))),hp):=by
 have e:=qx2 Tryz.prog w h
 have c:Vg 9218868437227405311 (nw w)=decide (w=18442240474082181120):=by
  unfold Vg
  have v1:jo 9218868437227405311=9218868437227405311:=qh
  rw[v1]
  have hn':¬yR (nw w):=fun e=>hn ((zja h).mp e)
  have hn2:=hn
  unfold yR at hn2
  apply decide_eq_decide.mpr
  constructor
  ·rintro⟨_,_,h3⟩
   unfold jo nw at h3
   repeat' split at h3
   all_goals omega
  ·intro h3
   subst h3
   exact⟨qh,qh,qh⟩
 rw[E195]
 simp[e,qec,c]
theorem qis(w:Nat)(h:w<18446744073709551616)(hn:¬yR w)(hp:Hp):run cxX 195 [fl w,.sc (.int .i64 1)] hp=some (.sc (.bool (decide (w=9218868437227405312))),hp):=by
 have c:Vg 9218868437227405311 w=decide (w=9218868437227405312):=by
  unfold Vg
  have v1:jo 9218868437227405311=9218868437227405311:=qh
  rw[v1]
  have hn2:=hn
  unfold yR at hn2
  apply decide_eq_decide.mpr
  constructor
  ·rintro⟨_,_,h3⟩
   unfold jo at h3
   split at h3<;>omega
  ·intro h3
   subst h3
   exact⟨qh,qh,qh⟩
 rw[E195]
 simp[qec,c]
theorem qic(w:Nat)(h:w<18446744073709551616)(hp:Hp):run cxX 196 [fl w] hp=some (.sc (.bool (decide (9223372036854775808<=w))),hp):=by
 have c:decide (IntKind.i64.wrap (w:Int)<0)=decide (9223372036854775808<=w):=by
  apply decide_eq_decide.mpr
  rw[IntKind.wrap_i64]
  omega
 rw[E196]
 simp[XO,qrk]
 rw[IntKind.wrap_i64]
 omega
def Zy(w:Nat):Int:=if yR w then 1 else if w=18442240474082181120 then 2 else if w=9218868437227405312 then 3 else if w=9223372036854775808 then 4 else if w=0 then 5 else 0
theorem zbv{w:Nat}(h:w<18446744073709551616)(hn:¬yR w):fEq w 0=decide (w=0\/w=9223372036854775808):=by
 unfold fEq
 have v3:jo 0=0:=qh
 rw[v3]
 apply decide_eq_decide.mpr
 constructor
 ·rintro⟨_,_,h3⟩
  unfold jo at h3
  split at h3<;>omega
 ·intro h3
  rcases h3 with rfl|rfl
  ·exact⟨qh,qh,qh⟩
  ·exact⟨qh,qh,qh⟩
theorem qy8(w:Nat)(h:w<18446744073709551616)(hp:Hp):run cxX 185 [fl w] hp=some (.sc (.int .u8 (Zy w)),hp):=by
 rw[E185]
 unfold Zy
 by_cases hn:yR w
 ·simp[jA,hn]
 ·have i1:=fun hp=>qit w h hn hp
  have i2:=fun hp=>qis w h hn hp
  have z:=zbv h hn
  have s:=fun hp=>qic w h hp
  have b9:∀hp,B185_9 (.float .f64 w) hp=some (.sc (.int .u8 (if w=0\/w=9223372036854775808 then 5 else 0)),hp):=by
   intro hp
   rw[qwf]
   by_cases h0:w=0\/w=9223372036854775808<;>simp[z,h0]
  by_cases h1:w=18442240474082181120
  ·subst h1
   simp at i1
   simp[jA,hn,i1]
  ·by_cases h2:w=9218868437227405312
   ·subst h2
    simp at i1 i2
    simp[jA,hn,i1,i2]
   ·simp only[h1,h2,decide_false]at i1 i2
    by_cases h3:w=9223372036854775808
    ·subst h3
     simp at s z
     simp[jA,hn,i1,i2,z,s,qwg]
    ·by_cases h4:w=0
     ·subst h4
      simp at s z b9
      simp[jA,hn,i1,i2,z,s,b9]
     ·simp[h3,h4]at z b9
      simp[jA,hn,i1,i2,z,b9,h1,h2,h3,h4]
theorem qqz(a b:Nat):kw (qkj a b)=min (kw a) (kw b):=by unfold qkj;split<;>omega
theorem qq0(a b:Nat):kw (qkk a b)=max (kw a) (kw b):=by unfold qkk;split<;>omega
def LF(l:List Nat):List AV:=l.map fun n=>.sc (.float .f64 n)
section
variable (l:List Nat)
@[simp] theorem lenF:(LF l).length=l.length:=by simp[LF]
@[simp] theorem getF?(i:Nat):(LF l)[i]?=(l[i]?).map fun n=>.sc (.float .f64 n):=by simp[LF]
@[simp] theorem getF(i:Nat)(h:i<(LF l).length):(LF l)[i]= .sc (.float .f64 (l[i]'(by simpa using h))):=by simp[LF]
@[simp] theorem dropF(i:Nat):(LF l).drop i=LF (l.drop i):=by simp[LF]
@[simp] theorem tailF:(LF l).tail=LF l.tail:=by simp[LF]
@[simp] theorem nilF:LF []=[]:=rfl
theorem appF(n:Nat)(h:l.length<=1000000):jp 8 1 (S 2 1 (LF l)) (S 1 1 [.sc (.float .f64 n)])=some (S 2 1 (LF (l++[n]))):=by
 rw[YG 8 1 2 _ _ 1 (.inr rfl) (qkl _) (.inr (yZ qe qi))]
 simp[LF]
end
abbrev Ga(K M e0 e1 e2 e3 e4 e5:Int)(lo hi:Nat)(x:AV):AV:=
 .agg [.sc (.int .i64 K),.sc (.int .u32 M),.sc (.int .u32 e0),.sc (.int .u32 e1),.sc (.int .u32 e2),.sc (.int .u32 e3),.sc (.int .u32 e4),.sc (.int .u32 e5),fl lo,fl hi,x]
def zi(a b:Int):Int:=if a+b<4294967296 then a+b else 4294967295
theorem yP(a b:Int)(ha:0<=a/\a<4294967296)(hb:0<=b/\b<4294967296)(hp:Hp):run cxX 93 [.sc (.int .u32 a),.sc (.int .u32 b)] hp=some (.sc (.int .u32 (zi a b)),hp):=by
 rw[E93]
 unfold zi
 by_cases h:a+b<4294967296
 ·have w:IntKind.u32.wrap (a+b)=a+b:=qK qe h
  have h1:decide (a+b>=a)=true:=qi
  simp only[YE,vi,znc,yi,Jg,jN,w,h,h1,cond_true,if_true]
 ·have w:IntKind.u32.wrap (a+b)=a+b-4294967296:=by rw[IntKind.wrap_u32];omega
  have h1:¬(a<=a+b-4294967296):=qe
  simp[w,h,h1]
def Ws(l:List Nat):Prop:=∀w∈l,w<18446744073709551616
theorem qkf(K:Int)(q c1 c2 c3 c4 c5 c6 c7 c8 c9:AV)(b4 b2r:List AV)(hq:b4.length=11)(hp:Hp):∀(n:Nat) (a b acc:List Nat) (k k':Nat),a.length+b.length=n->acc.length+n<=1000000->Ws a->Ws b->
 B47_8 (S k 1 (LF a)) (S k' 1 (LF b)) (.sc (.int .i64 K)::b2r) b4 [q,c1,c2,c3,c4,c5,c6,c7,c8,c9,S 2 1 (LF acc)] hp=some (.agg [q,c1,c2,c3,c4,c5,c6,c7,c8,c9,S 2 1 (LF (acc++(gm a b).take (K.toNat-acc.length)))],hp):=by
 intro n
 induction n using Nat.strongRecOn with
 |_ n ih=>
 intro a b acc k k' hn hlen ha hb
 have ap:∀x:Nat,jp 8 1 (S 2 1 (LF acc)) (S 1 1 [.sc (.float .f64 x)])=some (S 2 1 (LF (acc++[x]))):=fun x=>appF acc x qe
 have fin:B47_12 b4 [q,c1,c2,c3,c4,c5,c6,c7,c8,c9,S 2 1 (LF acc)] hp=some (.agg [q,c1,c2,c3,c4,c5,c6,c7,c8,c9,S 2 1 (LF acc)],hp):=by
  rw[qv5]
  obtain⟨d0,d1,d2,d3,d4,d5,d6,d7,d8,d9,d10,rfl⟩:∃d0 d1 d2 d3 d4 d5 d6 d7 d8 d9 d10,b4=[d0,d1,d2,d3,d4,d5,d6,d7,d8,d9,d10]:=by
   match b4,hq with
   |[d0,d1,d2,d3,d4,d5,d6,d7,d8,d9,d10],_=>exact⟨d0,d1,d2,d3,d4,d5,d6,d7,d8,d9,d10,rfl⟩
  simp[qp,qo]
 rw[zdf]
 by_cases hK:(acc.length:Int)<K
 ·have hs:K.toNat-acc.length=(K.toNat-(acc.length+1))+1:=qe
  have goA:∀(x:Nat) (r:List Nat),r.length+1+b.length<=n->Ws r->B47_10 (S k 1 (LF (x::r))) (S k' 1 (LF b)) (.sc (.int .i64 K)::b2r) b4 [q,c1,c2,c3,c4,c5,c6,c7,c8,c9,S 2 1 (LF acc)] hp=some (.agg [q,c1,c2,c3,c4,c5,c6,c7,c8,c9,S 2 1 (LF (acc++(x::gm r b).take (K.toNat-acc.length)))],hp):=by
   intro x r hle hr
   rw[qv7]
   have e:=xa (rk k) (LF (x::r)) .i64 1 qe (by simp only[lenF,zna];omega)
   have i:=fun k=>ih (r.length+b.length) qe r b (acc++[x]) k k' rfl (by simp only[zm9,zna,zns];omega) hr hb
   simp at i
   rw[hs,znq]
   simp[qs,ql,ap,e,qo,i]
  have goB:∀(y:Nat) (r:List Nat),a.length+(r.length+1)<=n->Ws r->B47_11 (S k 1 (LF a)) (S k' 1 (LF (y::r))) (.sc (.int .i64 K)::b2r) b4 [q,c1,c2,c3,c4,c5,c6,c7,c8,c9,S 2 1 (LF acc)] hp=some (.agg [q,c1,c2,c3,c4,c5,c6,c7,c8,c9,S 2 1 (LF (acc++(y::gm a r).take (K.toNat-acc.length)))],hp):=by
   intro x r hle hr
   rw[qv6]
   have e:=xa (rk k') (LF (x::r)) .i64 1 qe (by simp only[lenF,zna];omega)
   have i:=fun k'=>ih (a.length+r.length) qe a r (acc++[x]) k k' rfl (by simp only[zm9,zna,zns];omega) ha hr
   simp at i
   rw[hs,znq]
   simp[qs,ql,ap,e,qo,i]
  match a,b with
  |[],[]=>simp[qs,ql,hK,fin]
  |[],y::s=>
   have h:=goB y s (by simp at hn⊢;omega) (fun w hw=>hb w (by simp[hw]))
   simp at h
   have hw':IntKind.i64.wrap ((s.length:Int)+1)=(s.length:Int)+1:=qm qe (by simp at hn;omega)
   have p:(0:Int)<(s.length:Int)+1:=qe
   have z:¬((s.length:Int)+1=0):=qe
   simp[qs,ql,hK,hw',p,z,XK,h]
  |x::r,[]=>
   have h:=goA x r (by simp at hn⊢;omega) (fun w hw=>ha w (by simp[hw]))
   simp at h
   have hw':IntKind.i64.wrap ((r.length:Int)+1)=(r.length:Int)+1:=qm qe (by simp at hn;omega)
   have p:(0:Int)<(r.length:Int)+1:=qe
   simp[qs,ql,hK,hw',p,XK,h]
  |x::r,y::s=>
   have h1:=goA x r (by simp at hn⊢;omega) (fun w hw=>ha w (by simp[hw]))
   have h2:=goB y s (by simp at hn⊢;omega) (fun w hw=>hb w (by simp[hw]))
   have hw':IntKind.i64.wrap ((r.length:Int)+1+((s.length:Int)+1))=(r.length:Int)+1+((s.length:Int)+1):=qm qe (by simp at hn;omega)
   have p:(0:Int)<(r.length:Int)+1+((s.length:Int)+1):=qe
   have p':(0:Int)<(r.length:Int)+1:=qe
   have z:¬((s.length:Int)+1=0):=qe
   have l:=fun hp=>YS y x (hb y qg) (ha x qg) hp
   rw[qhh]
   by_cases hyx:kw y<kw x
   ·simp only[hyx,decide_true]at l
    simp[qs,ql,hK,hw',p,p',z,hyx,l,h2,XK]
   ·simp only[hyx,decide_false]at l
    simp[qs,ql,hK,hw',p,p',z,hyx,l,h1,XK]
 ·have hs:K.toNat-acc.length=0:=qe
  simp[qs,ql,hK,fin,hs]
theorem zjh:idx 6 (.int .i64 0)=some 0:=qf
theorem zjg:idx 6 (.int .i64 1)=some 1:=qf
theorem zjf:idx 6 (.int .i64 2)=some 2:=qf
theorem zje:idx 6 (.int .i64 3)=some 3:=qf
theorem zjd:idx 6 (.int .i64 4)=some 4:=qf
theorem zjc:idx 6 (.int .i64 5)=some 5:=qf
def zy(n:Int):Prop:=0<=n/\n<4294967296
theorem qne(K K' M M' e0 e1 e2 e3 e4 e5 f0 f1 f2 f3 f4 f5:Int)(lo hi lo' hi':Nat)(a b:List Nat)(k k':Nat)(hM:zy M/\zy M')(h0:zy e0/\zy f0)(h1:zy e1/\zy f1)(h2:zy e2/\zy f2)(h3:zy e3/\zy f3)
 (h4:zy e4/\zy f4) (h5:zy e5/\zy f5) (hlo:lo<18446744073709551616/\lo'<18446744073709551616) (hhi:hi<18446744073709551616/\hi'<18446744073709551616) (ha:Ws a) (hb:Ws b) (hlen:a.length+b.length<=1000000) (hp:Hp):
 run cxX 47 [Ga K M e0 e1 e2 e3 e4 e5 lo hi (S k 1 (LF a)),Ga K' M' f0 f1 f2 f3 f4 f5 lo' hi' (S k' 1 (LF b))] hp=
  some (Ga K (zi M M') (zi e0 f0) (zi e1 f1) (zi e2 f2) (zi e3 f3) (zi e4 f4) (zi e5 f5) (qkj lo lo') (qkk hi hi') (S 2 1 (LF ((gm a b).take K.toNat))),hp):=by
 have pM:=fun hp=>yP M M' hM.1 hM.2 hp
 have p0:=fun hp=>yP e0 f0 h0.1 h0.2 hp
 have p1:=fun hp=>yP e1 f1 h1.1 h1.2 hp
 have p2:=fun hp=>yP e2 f2 h2.1 h2.2 hp
 have p3:=fun hp=>yP e3 f3 h3.1 h3.2 hp
 have p4:=fun hp=>yP e4 f4 h4.1 h4.2 hp
 have p5:=fun hp=>yP e5 f5 h5.1 h5.2 hp
 have mn:=fun hp=>qy1 lo lo' hlo.1 hlo.2 hp
 have mx:=fun hp=>qy2 hi hi' hhi.1 hhi.2 hp
 have w2:IntKind.i64.wrap 2=2:=rfl
 have w3:IntKind.i64.wrap 3=3:=rfl
 have w4:IntKind.i64.wrap 4=4:=rfl
 have w5:IntKind.i64.wrap 5=5:=rfl
 have w6:IntKind.i64.wrap 6=6:=rfl
 have g:=fun(c1 c2 c3 c4 c5 c6 c7 c8 c9:AV) (b4 b2r:List AV) (hq:b4.length=11)=>qkf K (.sc (.int .i64 K)) c1 c2 c3 c4 c5 c6 c7 c8 c9 b4 b2r hq hp (a.length+b.length) a b [] (rk k) (rk k') rfl (by simpa using hlen) ha hb
 simp at g
 rw[E47]
 simp[ql,pM,mn,mx]
 rw[wn]
 simp[ql,zjh,p0,qo]
 rw[wn]
 simp[ql,zjg,p1,qo]
 rw[wn]
 simp[ql,zjf,p2,qo,w2]
 rw[wn]
 simp[ql,zje,p3,qo,w3]
 rw[wn]
 simp[ql,zjd,p4,qo,w4]
 rw[wn]
 simp[ql,zjc,p5,qo,w5]
 rw[wn]
 simp[qs,w6]
 exact g _ _ _ _ _ _ _ _ _ _ _ rfl
structure Gs where
 M:Int
 e0:Int
 e1:Int
 e2:Int
 e3:Int
 e4:Int
 e5:Int
 lo:Nat
 hi:Nat
 L:List Nat
abbrev Gs.av(g:Gs)(K:Int)(k:Nat):AV:=Ga K g.M g.e0 g.e1 g.e2 g.e3 g.e4 g.e5 g.lo g.hi (S k 1 (LF g.L))
def gmg(K:Int)(g o:Gs):Gs:=⟨zi g.M o.M,zi g.e0 o.e0,zi g.e1 o.e1,zi g.e2 o.e2,zi g.e3 o.e3,zi g.e4 o.e4,zi g.e5 o.e5,qkj g.lo o.lo,qkk g.hi o.hi,(gm g.L o.L).take K.toNat⟩
def kT(w:Nat):Gs:=⟨1,if Zy w=0 then 1 else 0,if Zy w=1 then 1 else 0,if Zy w=2 then 1 else 0,if Zy w=3 then 1 else 0,if Zy w=4 then 1 else 0,if Zy w=5 then 1 else 0,
 if yR w then 9218868437227405312 else w,if yR w then 18442240474082181120 else w,[wk (kw w)]⟩
def gnew:Gs:=⟨0,0,0,0,0,0,0,9218868437227405312,18442240474082181120,[]⟩
def Vr(i:Int):List Nat->Nat
 |[]=>0
 |f::F=>(if Zy f=i then 1 else 0)+Vr i F
theorem xg(i:Int):∀a b,Vr i (a++b)=Vr i a+Vr i b
 |[],b=>by simp[Vr]
 |f::a,b=>by simp only[zo1,Vr,xg i a b];omega
theorem yf(i:Int):∀a,Vr i a<=a.length
 |[]=>znd _
 |f::a=>by have:=yf i a;simp only[Vr,zna];split<;>omega
theorem Qu(i:Int){a b:List Nat}(h:a.Perm b):Vr i a=Vr i b:=by
 induction h with
 |nil=>rfl
 |cons x _ ih=>simp only[Vr,ih]
 |swap x y l=>simp only[Vr];omega
 |trans _ _ h1 h2=>rw[h1,h2]
theorem zgj(w:Nat):0<=Zy w/\Zy w<=5:=by
 unfold Zy
 repeat' split
 all_goals omega
structure GR (K : Int) (F : List Nat) (g : Gs) : Prop where
 M:g.M=F.length
 e0:g.e0=Vr 0 F
 e1:g.e1=Vr 1 F
 e2:g.e2=Vr 2 F
 e3:g.e3=Vr 3 F
 e4:g.e4=Vr 4 F
 e5:g.e5=Vr 5 F
 lo:g.lo<18446744073709551616
 hi:g.hi<18446744073709551616
 klo:kw g.lo=Ys F
 khi:kw g.hi=vL F
 ws:Ws g.L
 keys:g.L.map kw=(sk (F.map kw)).take K.toNat
theorem GR.len{K:Int}{F:List Nat}{g:Gs}(h:GR K F g):g.L.length=min K.toNat F.length:=by
 have:=congrArg List.length h.keys
 rw[zpb,zn8,zii,zpb]at this
 exact this
theorem vD{a b:Nat}(h:a+b<4294967296):zi (a:Int) (b:Int)=((a+b:Nat):Int):=by
 unfold zi
 rw[if_pos qe]
 omega
theorem GR.merge{K:Int}{F H:List Nat}{g o:Gs}(hg:GR K F g)(ho:GR K H o)(hl:F.length+H.length<=1000):GR K (F++H) (gmg K g o) where
 M:=by simp only[gmg];rw[hg.M,ho.M,vD qe,zm9]
 e0:=by have:=yf 0 F;have:=yf 0 H;simp only[gmg];rw[hg.e0,ho.e0,vD qe,xg]
 e1:=by have:=yf 1 F;have:=yf 1 H;simp only[gmg];rw[hg.e1,ho.e1,vD qe,xg]
 e2:=by have:=yf 2 F;have:=yf 2 H;simp only[gmg];rw[hg.e2,ho.e2,vD qe,xg]
 e3:=by have:=yf 3 F;have:=yf 3 H;simp only[gmg];rw[hg.e3,ho.e3,vD qe,xg]
 e4:=by have:=yf 4 F;have:=yf 4 H;simp only[gmg];rw[hg.e4,ho.e4,vD qe,xg]
 e5:=by have:=yf 5 F;have:=yf 5 H;simp only[gmg];rw[hg.e5,ho.e5,vD qe,xg]
 lo:=qre hg.lo ho.lo
 hi:=qrf hg.hi ho.hi
 klo:=by simp only[gmg];rw[qqz,hg.klo,ho.klo,Ve]
 khi:=by simp only[gmg];rw[qq0,hg.khi,ho.khi,Xj]
 ws:=fun w hw=>(zar w _ _ _ rfl (zov hw)).elim (hg.ws w) (ho.ws w)
 keys:=by
  simp only[gmg]
  rw[zqx,qq8 _ _ _ rfl,hg.keys,ho.keys,zd6 _ _ _ _ _ (znd _) (znd _),List.map_append,qr8]
theorem zf9(K:Int):GR K [] gnew:=⟨rfl,rfl,rfl,rfl,rfl,rfl,rfl,qh,qh,qh,qh,by simp[gnew,Ws],by simp[gnew,sk]⟩
theorem qq6{K:Int}(hK:1<=K){w:Nat}(hw:w<18446744073709551616):GR K [w] (kT w) where
 M:=rfl
 e0:=by simp only[kT,Vr];split<;>rfl
 e1:=by simp only[kT,Vr];split<;>rfl
 e2:=by simp only[kT,Vr];split<;>rfl
 e3:=by simp only[kT,Vr];split<;>rfl
 e4:=by simp only[kT,Vr];split<;>rfl
 e5:=by simp only[kT,Vr];split<;>rfl
 lo:=by simp only[kT];split<;>omega
 hi:=by simp only[kT];split<;>omega
 klo:=by
  simp only[kT,Ys]
  have h0:kw 9218868437227405312=18442240474082181120:=qh
  by_cases hn:yR w
  ·rw[if_pos hn,if_pos hn,h0]
  ·rw[if_neg hn,if_neg hn]
   have hn2:=hn
   unfold yR at hn2
   unfold kw
   rw[if_neg hn]
   split<;>omega
 khi:=by
  simp only[kT,vL]
  have h0:kw 18442240474082181120=4503599627370495:=qh
  by_cases hn:yR w
  ·rw[if_pos hn,if_pos hn,h0]
  ·rw[if_neg hn,if_neg hn]
   have hn2:=hn
   unfold yR at hn2
   unfold kw
   rw[if_neg hn]
   split<;>omega
 ws:=by simp only[kT,Ws,zp1];rintro x rfl;exact qb2 _ (Qq w hw)
 keys:=by
  have hk:K.toNat=(K.toNat-1)+1:=qe
  simp only[kT,zog,zp4,sk,Qo]
  rw[qj4 w hw,hk,znq,zra]
theorem GR.in32{K:Int}{F:List Nat}{g:Gs}(h:GR K F g)(hl:F.length<=1000):zy g.M/\zy g.e0/\zy g.e1/\zy g.e2/\zy g.e3/\zy g.e4/\zy g.e5:=by
 have a0:=yf 0 F
 have a1:=yf 1 F
 have a2:=yf 2 F
 have a3:=yf 3 F
 have a4:=yf 4 F
 have a5:=yf 5 F
 rw[h.M,h.e0,h.e1,h.e2,h.e3,h.e4,h.e5]
 unfold zy
 refine⟨?_,?_,?_,?_,?_,?_,?_⟩<;>omega
theorem zin(K K':Int){F H:List Nat}{g o:Gs}(k k':Nat)(hg:GR K F g)(ho:GR K' H o)(hl:F.length+H.length<=1000)(hp:Hp):
 run cxX 47 [g.av K k,o.av K' k'] hp=some ((gmg K g o).av K 2,hp):=by
 obtain⟨m,x0,x1,x2,x3,x4,x5⟩:=hg.in32 qe
 obtain⟨m',y0,y1,y2,y3,y4,y5⟩:=ho.in32 qe
 have l1:=hg.len
 have l2:=ho.len
 exact qne K K' g.M o.M g.e0 g.e1 g.e2 g.e3 g.e4 g.e5 o.e0 o.e1 o.e2 o.e3 o.e4 o.e5 g.lo g.hi o.lo o.hi g.L o.L k k' ⟨m,m'⟩ ⟨x0,y0⟩ ⟨x1,y1⟩ ⟨x2,y2⟩ ⟨x3,y3⟩ ⟨x4,y4⟩ ⟨x5,y5⟩ ⟨hg.lo,ho.lo⟩ ⟨hg.hi,ho.hi⟩ hg.ws ho.ws qe hp
theorem zej(K:Int)(w:Nat)(hw:w<18446744073709551616)(hp:Hp):run cxX 150 [.sc (.int .i64 K),fl w] hp=some ((kT w).av K 1,hp):=by
 have i1:=fun hp=>YT 1 hp
 have i2:=fun hp=>YT (-1) hp
 have ed:=fun hp=>qy8 w hw hp
 have k:=fun hp=>Ju w hw hp
 have o:=fun hp=>qyv (kw w) (Qq w hw) hp
 simp at i1 i2
 have b5:∀(x0 x1 x2 x3 x4 x5 x6 x7 x8 x9 x10:AV) (q0 q1 q2 q3 q4 q5 q6 q7 q8 q9 q10:AV) (hp:Hp),B150_5 (.float .f64 w) [q0,q1,q2,q3,q4,q5,q6,q7,q8,q9,q10] [x0,x1,x2,x3,x4,x5,x6,x7,x8,x9,x10] hp=some (.agg [x0,x1,x2,x3,x4,x5,x6,x7,x8,x9,S 1 1 [fl (wk (kw w))]],hp):=by
  intros
  rw[qwy]
  simp[k,o,qo,qp]
 rw[E150]
 have he:=zgj w
 have hc:Zy w=0\/Zy w=1\/Zy w=2\/Zy w=3\/Zy w=4\/Zy w=5:=qe
 have u0:idx 6 (.int .u8 0)=some 0:=qf
 have u1:idx 6 (.int .u8 1)=some 1:=qf
 have u2:idx 6 (.int .u8 2)=some 2:=qf
 have u3:idx 6 (.int .u8 3)=some 3:=qf
 have u4:idx 6 (.int .u8 4)=some 4:=qf
 have u5:idx 6 (.int .u8 5)=some 5:=qf
 unfold kT
 by_cases hn:yR w
 ·rcases hc with e|e|e|e|e|e<;>rw[e]at ed<;>simp[i1,i2,ed,u0,u1,u2,u3,u4,u5,qo,jA,hn,b5,e,LF]
 ·rcases hc with e|e|e|e|e|e<;>rw[e]at ed<;>simp[i1,i2,ed,u0,u1,u2,u3,u4,u5,qo,jA,hn,b5,e,LF]
theorem qyy(K:Int)(hK:1<=K/\K<=16)(hp:Hp):run cxX 80 [.sc (.int .i64 K)] hp=some (.tup [gnew.av K 2,.sc (.bool true)],hp):=by
 have i1:=fun hp=>YT 1 hp
 have i2:=fun hp=>YT (-1) hp
 simp at i1 i2
 have h1:¬(K<1):=qe
 have h2:¬(16<K):=qe
 rw[E80]
 simp[h1,h2]
 rw[zcw]
 simp[i1,i2,qo,qp,gnew]
theorem qyz(K:Int){F:List Nat}{g:Gs}(k w:Nat)(hK:1<=K)(hg:GR K F g)(hl:F.length+1<=1000)(hw:w<18446744073709551616)(hp:Hp):
 run cxX 81 [g.av K k,fl w] hp=some ((gmg K g (kT w)).av K 2,hp):=by
 have o:=fun hp=>zej K w hw hp
 have m:=fun k k' hp=>zin K K k k' hg (qq6 hK hw) (by simpa using hl) hp
 rw[E81]
 simp[qp,ql,o,m,qo]
theorem zml(d:Nat)(a b:Int):zA Tryz.prog (Op.equalIn (d+1) 40 (.int .u32 a) (.int .u32 b))=some (a==b):=by
 unfold Op.equalIn
 rw[za]
 have:zA Tryz.prog (underlying 40)=some (.int .u32):=qf
 rw[this]
 rfl
theorem zmm(e0 e1 e2 e3 e4 e5 f0 f1 f2 f3 f4 f5:Int):zA Tryz.prog (Op.equal 41 (.agg #[.int .u32 e0,.int .u32 e1,.int .u32 e2,.int .u32 e3,.int .u32 e4,.int .u32 e5]) (.agg #[.int .u32 f0,.int .u32 f1,.int .u32 f2,.int .u32 f3,.int .u32 f4,.int .u32 f5]))=
 some (decide (e0=f0/\e1=f1/\e2=f2/\e3=f3/\e4=f4/\e5=f5)):=by
 unfold Op.equal Op.maxDepth
 unfold Op.equalIn
 rw[za]
 have:zA Tryz.prog (underlying 41)=some (.array 6 40):=qf
 rw[this]
 simp only[YE,znc]
 rw[za]
 have hs:zA Tryz.prog (sizeOf 40)=some 1:=qf
 rw[hs]
 simp only[YE,znc]
 have hp:∀(x0 x1 x2 x3 x4 x5:Value),zA Tryz.prog (part 40 #[x0,x1,x2,x3,x4,x5] 0)=some x0/\zA Tryz.prog (part 40 #[x0,x1,x2,x3,x4,x5] 1)=some x1/\zA Tryz.prog (part 40 #[x0,x1,x2,x3,x4,x5] 2)=some x2/\
  zA Tryz.prog (part 40 #[x0,x1,x2,x3,x4,x5] 3)=some x3/\zA Tryz.prog (part 40 #[x0,x1,x2,x3,x4,x5] 4)=some x4/\zA Tryz.prog (part 40 #[x0,x1,x2,x3,x4,x5] 5)=some x5:=by
  intro x0 x1 x2 x3 x4 x5
  refine⟨?_,?_,?_,?_,?_,?_⟩<;>kernel_rfl
 have he:=zml 9998
 obtain⟨a0,a1,a2,a3,a4,a5⟩:=hp (.int .u32 e0) (.int .u32 e1) (.int .u32 e2) (.int .u32 e3) (.int .u32 e4) (.int .u32 e5)
 obtain⟨b0,b1,b2,b3,b4,b5⟩:=hp (.int .u32 f0) (.int .u32 f1) (.int .u32 f2) (.int .u32 f3) (.int .u32 f4) (.int .u32 f5)
 rw[Std.Legacy.Range.forIn_eq_forIn_range']
 simp[Std.Legacy.Range.size,List.range'_succ,za,a0,b0,he]
 by_cases h0:e0=f0
 ·subst h0
  simp[za,a1,b1,he]
  by_cases h1:e1=f1
  ·subst h1
   simp[za,a2,b2,he]
   by_cases h2:e2=f2
   ·subst h2
    simp[za,a3,b3,he]
    by_cases h3:e3=f3
    ·subst h3
     simp[za,a4,b4,he]
     by_cases h4:e4=f4
     ·subst h4
      simp[za,a5,b5,he]
      by_cases h5:e5=f5
      ·subst h5
       simp[za]
      ·simp[h5,za]
     ·simp[h4,za]
    ·simp[h3,za]
   ·simp[h2,za]
  ·simp[h1,za]
 ·simp[h0,za]
theorem zhk(x y:Operand)(e0 e1 e2 e3 e4 e5 f0 f1 f2 f3 f4 f5:Int):qy Tryz.prog .neq 41 x y (.agg #[.int .u32 e0,.int .u32 e1,.int .u32 e2,.int .u32 e3,.int .u32 e4,.int .u32 e5]) (.agg #[.int .u32 f0,.int .u32 f1,.int .u32 f2,.int .u32 f3,.int .u32 f4,.int .u32 f5])=
 some (.bool (!decide (e0=f0/\e1=f1/\e2=f2/\e3=f3/\e4=f4/\e5=f5))):=by
 unfold qy
 rw[za]
 have hg:zA Tryz.prog (eqGuard .neq 41 x y (.agg #[.int .u32 e0,.int .u32 e1,.int .u32 e2,.int .u32 e3,.int .u32 e4,.int .u32 e5]) (.agg #[.int .u32 f0,.int .u32 f1,.int .u32 f2,.int .u32 f3,.int .u32 f4,.int .u32 f5]))=some ():=qf
 rw[hg]
 simp only[YE,znc,Go.binOp]
 rw[za,zmm]
 rfl
theorem WV(r0 r1 r2 r3 r4 r5 r6 r7 r8 r9 s0 s1 s2 s3 s4 s5 s6 s7 s8 s9:AV)(a b:List Nat)(k k':Nat)(hab:a.length=b.length)(hl:a.length<=1000000)(ha:Ws a)(hb:Ws b)(hp:Hp):∀(r s:List Nat) (i:Nat),a.drop i=r->b.drop i=s->
 B136_4 (.int .i64 a.length) (.int .i64 i) [r0,r1,r2,r3,r4,r5,r6,r7,r8,r9,S k 1 (LF a)] [s0,s1,s2,s3,s4,s5,s6,s7,s8,s9,S k' 1 (LF b)] hp=some (.sc (.bool (decide (r.map kw=s.map kw))),hp):=by
 intro r
 induction r with
 |nil=>
  intro s i hr hs
  have h1:=qL hr
  have h2:s=[]:=by rw[<-hs];exact zoh qe
  have hlt:¬((i:Int)<(a.length:Int)):=qe
  rw[qfd]
  simp[hlt,h2]
 |cons x r ih=>
  intro s i hr hs
  obtain⟨e1,e2,hi,e3⟩:=qt hr
  rw[qfd]
  have hw:IntKind.i64.wrap ((i:Int)+1)=((i+1:Nat):Int):=qj
  cases s with
  |nil=>have:=qL hs;omega
  |cons y s=>
   obtain⟨f1,f2,hj,f3⟩:=qt hs
   have h:=ih s (i+1) e2 f2
   have q:=fun hp=>Qk x y (ha x (znm e1)) (hb y (znm f1)) hp
   simp at h hw
   by_cases e:kw x=kw y
   ·simp only[e,decide_true]at q
    simp[hi,hj,qs,ql,e3,f3,e,hw,h,q]
   ·simp only[e,decide_false]at q
    simp[hi,hj,qs,ql,e3,f3,e,q]
def qlj(K K':Int)(g o:Gs):Prop:=K=K'/\g.M=o.M/\(g.e0=o.e0/\g.e1=o.e1/\g.e2=o.e2/\g.e3=o.e3/\g.e4=o.e4/\g.e5=o.e5)/\kw g.lo=kw o.lo/\kw g.hi=kw o.hi/\g.L.map kw=o.L.map kw
theorem qss(K K':Int)(g o:Gs)(k k':Nat)(hs:qlj K K' g o)(h1:g.lo<18446744073709551616/\o.lo<18446744073709551616)(h2:g.hi<18446744073709551616/\o.hi<18446744073709551616)(h3:Ws g.L/\Ws o.L)(hl:g.L.length<=1000000)(hp:Hp):
 run cxX 136 [g.av K k,o.av K' k'] hp=some (.sc (.bool true),hp):=by
 obtain⟨q1,q2,q3,q4,q5,q6⟩:=hs
 have len:g.L.length=o.L.length:=by simpa using congrArg List.length q6
 have l:=WV (.sc (.int .i64 K)) (.sc (.int .u32 g.M)) (.sc (.int .u32 g.e0)) (.sc (.int .u32 g.e1)) (.sc (.int .u32 g.e2)) (.sc (.int .u32 g.e3)) (.sc (.int .u32 g.e4)) (.sc (.int .u32 g.e5)) (fl g.lo) (fl g.hi)
  (.sc (.int .i64 K')) (.sc (.int .u32 o.M)) (.sc (.int .u32 o.e0)) (.sc (.int .u32 o.e1)) (.sc (.int .u32 o.e2)) (.sc (.int .u32 o.e3)) (.sc (.int .u32 o.e4)) (.sc (.int .u32 o.e5)) (fl o.lo) (fl o.hi) g.L o.L (rk k) (rk k') len hl h3.1 h3.2 hp g.L o.L 0 rfl rfl
 have r1:=fun hp=>Qk g.lo o.lo h1.1 h1.2 hp
 have r2:=fun hp=>Qk g.hi o.hi h2.1 h2.2 hp
 have a:=zhk (.tmp 20) (.tmp 22) g.e0 g.e1 g.e2 g.e3 g.e4 g.e5 o.e0 o.e1 o.e2 o.e3 o.e4 o.e5
 simp only[eq_true q3,eq_true q4,eq_true q5,eq_true q6,decide_true,Bool.not_true]at a r1 r2 l
 subst q1
 rw[E136]
 simp at l
 rw[len]at l
 rw[q2]at l
 simp[ql,qs,qp,xQ,wT,q2,a,r1,r2,len,qfe]
 exact l
open Classical in
noncomputable def wd(p:Int×Int):Nat:=if h:∃w,w<18446744073709551616/\∀hp,run cxX 151 [.sc (.int .u64 p.1),.sc (.int .u8 p.2)] hp=some (fl w,hp)then h.choose else 0
def InI(p:Int×Int):Prop:=(0<=p.1/\p.1<18446744073709551616)/\(0<=p.2/\p.2<256)
theorem qxy{p:Int×Int}(h:InI p):wd p<18446744073709551616/\∀hp,run cxX 151 [.sc (.int .u64 p.1),.sc (.int .u8 p.2)] hp=some (fl (wd p),hp):=by
 have he:=qsw p.1 p.2 h.1 h.2
 unfold wd
 rw[dif_pos he]
 exact he.choose_spec
theorem qyw(p:Int×Int)(h:InI p)(hp:Hp):run cxX 82 [.agg [.sc (.int .u64 p.1),.sc (.int .u8 p.2)]] hp=some (fl (wd p),hp):=by
 rw[E82]
 simp[ql,(qxy h).2]
def LP:List (Int×Int)->List AV
 |[]=>[]
 |p::l=>.sc (.int .u64 p.1)::.sc (.int .u8 p.2)::LP l
theorem qj3:∀l,(LP l).length=2*l.length
 |[]=>rfl
 |p::l=>by simp only[LP,zna,qj3 l];omega
theorem zhv:∀(i:Nat) (l:List (Int×Int)),(LP l).drop (i*2)=LP (l.drop i)
 |0,l=>by simp
 |i+1,[]=>by simp[LP]
 |i+1,p::l=>by
  have h:(i+1)*2=i*2+1+1:=qe
  rw[h,LP,zpx,zpx,zhv i l,zpx]
theorem zax(k:Nat)(l:List (Int×Int)):xU (S k 2 (LP l))=some l.length:=by
 have h:(if(2:Nat)=1 then(LP l).length else(LP l).length/2)=l.length:=by rw[if_neg qe,qj3];omega
 rcases jq k 2 (LP l)with e|e|⟨e,e'⟩
 ·rw[e];simp only[xU,h]
 ·rw[e];simp only[xU,h]
 ·rw[e]
  have:l.length=0:=by have:=qj3 l;rw[e']at this;simp at this;omega
  rw[this];rfl
theorem zjb(k:Nat){l:List (Int×Int)}{i:Nat}{p:Int×Int}(h:l[i]?=some p):jE 2 (S k 2 (LP l)) (.int .i64 (i:Int))=some [.sc (.int .u64 p.1),.sc (.int .u8 p.2)]:=by
 obtain⟨hi,hp⟩:=zni.mp h
 have hl:(if(2:Nat)=1 then(LP l).length else(LP l).length/2)=l.length:=by rw[if_neg qe,qj3];omega
 have hx:idx l.length (.int .i64 (i:Int))=some i:=by
  have hc:(0:Int)<=(i:Int)/\(i:Int)<(l.length:Int):=⟨qe,qe⟩
  simp only[YE,idx,Vm,znc,hc,and_self,if_true,znj]
 have hg:qp (LP l) (i*2) 2=some [.sc (.int .u64 p.1),.sc (.int .u8 p.2)]:=by
  unfold qp
  rw[if_pos (by rw[qj3];omega),zhv,zn6 hi,hp]
  rfl
 rcases jq k 2 (LP l)with e|e|⟨e,e'⟩
 ·rw[e];simp only[YE,jE,if_true,hl,hx,znc,hg]
 ·rw[e];simp only[YE,jE,if_true,hl,hx,znc,hg]
 ·exfalso
  have:=qj3 l
  rw[e']at this
  simp at this
  omega
def Zu(K:Int)(g:Gs):List Nat->Gs
 |[]=>g
 |w::r=>Zu K (gmg K g (kT w)) r
theorem qot(K:Int)(k:Nat)(l:List (Int×Int))(z0 z1 z2 z3 z4 z5 z6 z7 z8 z9 z10:AV)(hK:1<=K)(hl:l.length<=900)(hI:∀p∈l,InI p)(hp:Hp):∀(r:List (Int×Int)) (i:Nat) (F:List Nat) (g:Gs),l.drop i=r->F.length=i->GR K F g->
 B36_3 (S k 2 (LP l)) (.int .i64 l.length) (.int .i64 i) [z0,z1,z2,z3,z4,z5,z6,z7,z8,z9,z10] [.sc (.int .i64 K),.sc (.int .u32 g.M),.sc (.int .u32 g.e0),.sc (.int .u32 g.e1),.sc (.int .u32 g.e2),.sc (.int .u32 g.e3),.sc (.int .u32 g.e4),.sc (.int .u32 g.e5),fl g.lo,fl g.hi,S 2 1 (LF g.L)] hp=
  some ((Zu K g (r.map wd)).av K 2,hp):=by
 intro r
 induction r with
 |nil=>
  intro i F g hr hF hg
  have:=qL hr
  have hlt:¬((i:Int)<(l.length:Int)):=qe
  rw[qme]
  simp[hlt,qp,qo,Zu]
 |cons p r ih=>
  intro i F g hr hF hg
  obtain⟨e1,e2,hi,e3⟩:=qt hr
  have hpI:=hI p (znm e1)
  have hw:=(qxy hpI).1
  have ix:=zjb k e1
  have it:=fun hp=>qyw p hpI hp
  have ad:=fun k hp=>qyz K k (wd p) hK hg qe hw hp
  have h:=ih (i+1) (F++[wd p]) (gmg K g (kT (wd p))) e2 (by simp[hF]) (hg.merge (qq6 hK hw) qi)
  have hwi:IntKind.i64.wrap ((i:Int)+1)=((i+1:Nat):Int):=qj
  rw[qme]
  simp at h hwi
  simp[hi,ix,qp,qo,it,ad,hwi,h,Zu]
theorem qst(c:Int)(k:Nat)(l:List (Int×Int))(hc:0<=c/\c<256)(hl:l.length<=900)(hI:∀p∈l,InI p)(hp:Hp):
 run cxX 36 [.sc (.int .u8 c),S k 2 (LP l)] hp=some ((Zu (1+c%16) gnew (l.map wd)).av (1+c%16) 2,hp):=by
 have m:∀x y,qy Tryz.prog .rem 5 x y (.int .u8 c) (.int .u8 16)=some (.int .u8 (c%16)):=by
  intro x y;rw[zp _ _ _ _ _ _ _ qe,zn hc.1]
 have w1:IntKind.i64.wrap (c%16)=c%16:=qm qe qe
 have w2:IntKind.i64.wrap (1+c%16)=1+c%16:=qm qe qe
 have cv:∀n:Int,Ku Tryz.prog 5 3 (.int .u8 n)=some (.int .i64 (IntKind.i64.wrap n)):=fun n=>qf
 have nw:=fun hp=>qyy (1+c%16) qe hp
 have lp:=fun z0 z1 z2 z3 z4 z5 z6 z7 z8 z9 z10=>qot (1+c%16) (rk k) l z0 z1 z2 z3 z4 z5 z6 z7 z8 z9 z10 qe hl hI hp l 0 [] gnew rfl rfl (zf9 _)
 simp at lp
 rw[E36]
 simp[m,cv,w1,w2,nw,qo,zax]
 exact lp _ _ _ _ _ _ _ _ _ _ _
theorem GR.same{K:Int}{F H:List Nat}{g o:Gs}(hg:GR K F g)(ho:GR K H o)(h:F.Perm H):qlj K K g o:=by
 refine⟨rfl,?_,⟨?_,?_,?_,?_,?_,?_⟩,?_,?_,?_⟩
 ·rw[hg.M,ho.M,h.length_eq]
 ·rw[hg.e0,ho.e0,Qu 0 h]
 ·rw[hg.e1,ho.e1,Qu 1 h]
 ·rw[hg.e2,ho.e2,Qu 2 h]
 ·rw[hg.e3,ho.e3,Qu 3 h]
 ·rw[hg.e4,ho.e4,Qu 4 h]
 ·rw[hg.e5,ho.e5,Qu 5 h]
 ·rw[hg.klo,ho.klo,qt3 h]
 ·rw[hg.khi,ho.khi,qon h]
 ·rw[hg.keys,ho.keys,qmw (h.map kw)]
theorem qxw{l:List (Int×Int)}(h:∀p∈l,InI p):Ws (l.map wd):=by
 intro w hw
 obtain⟨p,hp,rfl⟩:=zn9.mp hw
 exact(qxy (h p hp)).1
abbrev Cv(R C:Int)(x:AV):AV:=.agg [.sc (.int .i64 R),.sc (.int .i64 C),x]
def JX(R C:Int)(l:List Int):Int:=if R<1\/8<R\/C<1\/256<C then 2 else if(l.length:Int)≠R*C then 6 else 0
theorem qku{R C:Int}(hR:1<=R/\R<=8)(hC:1<=C/\C<=256):0<=R*C/\R*C<=2048:=by
 obtain⟨r,rfl⟩:∃r:Nat,R=r:=⟨R.toNat,qe⟩
 obtain⟨c,rfl⟩:∃c:Nat,C=c:=⟨C.toNat,qe⟩
 have h:r*c<=8*256:=zn5 qe qe
 have e:(r:Int)*(c:Int)=((r*c:Nat):Int):=qg
 rw[e];omega
theorem Wo(R C:Int)(l:List Int)(k:Nat)(hl:l.length<=1000000)(hp:Hp):run cxX 88 [Cv R C (S k 1 (LI .u32 l))] hp=some (.sc (.int .i64 (JX R C l)),hp):=by
 rw[E88]
 unfold JX
 have b2:B88_2 hp=some (.sc (.int .i64 2),hp):=by rw[qlp];simp
 by_cases h1:R<1
 ·simp[ql,h1,b2]
 ·by_cases h2:8<R
  ·simp[ql,h1,h2,b2]
  ·by_cases h3:C<1
   ·simp[ql,h1,h2,h3,b2]
   ·by_cases h4:256<C
    ·simp[ql,h1,h2,h3,h4,b2]
    ·have m:=qku (R:=R) (C:=C) qe qe
     have w:IntKind.i64.wrap (R*C)=R*C:=qm qe qe
     by_cases h5:(l.length:Int)=R*C
     ·simp[ql,qs,h1,h2,h3,h4,w,h5,XH]
     ·simp[ql,qs,h1,h2,h3,h4,w,h5,XH]
theorem qbo(R C:Int)(l:List Int)(b:Nat)(hl:l.length<=1000000)(hp:Hp):run cxX 88 [Cv R C (.ms b 0 0 l.length 1)] hp=some (.sc (.int .i64 (JX R C l)),hp):=by
 rw[E88]
 unfold JX
 have b2:B88_2 hp=some (.sc (.int .i64 2),hp):=by rw[qlp];simp
 by_cases h1:R<1
 ·simp[ql,h1,b2]
 ·by_cases h2:8<R
  ·simp[ql,h1,h2,b2]
  ·by_cases h3:C<1
   ·simp[ql,h1,h2,h3,b2]
   ·by_cases h4:256<C
    ·simp[ql,h1,h2,h3,h4,b2]
    ·have m:=qku (R:=R) (C:=C) qe qe
     have w:IntKind.i64.wrap (R*C)=R*C:=qm qe qe
     by_cases h5:(l.length:Int)=R*C
     ·simp[ql,qs,h1,h2,h3,h4,w,h5,XH]
     ·simp[ql,qs,h1,h2,h3,h4,w,h5,XH]
theorem qoz(B B1 B' B1':AV)(a b:List Int)(k k':Nat)(hab:a.length=b.length)(hl:a.length<=1000000)(hp:Hp):∀(r s:List Int) (i:Nat),a.drop i=r->b.drop i=s->
 B135_4 (.int .i64 a.length) (.int .i64 i) [B,B1,S k 1 (LI .u32 a)] [B',B1',S k' 1 (LI .u32 b)] hp=some (.sc (.bool (decide (r=s))),hp):=by
 intro r
 induction r with
 |nil=>
  intro s i hr hs
  have h1:=qL hr
  have h2:s=[]:=by rw[<-hs];exact zoh qe
  have hlt:¬((i:Int)<(a.length:Int)):=qe
  rw[qff]
  simp[hlt,h2]
 |cons x r ih=>
  intro s i hr hs
  obtain⟨e1,e2,hi,e3⟩:=qt hr
  rw[qff]
  have hw:IntKind.i64.wrap ((i:Int)+1)=((i+1:Nat):Int):=qj
  cases s with
  |nil=>have:=qL hs;omega
  |cons y s=>
   obtain⟨f1,f2,hj,f3⟩:=qt hs
   have h:=ih s (i+1) e2 f2
   simp at h hw
   by_cases e:x=y
   ·simp[hi,hj,qs,ql,e3,f3,e,hw,h]
   ·simp[hi,hj,qs,ql,e3,f3,e]
theorem qsx(R C R' C':Int)(a b:List Int)(k k':Nat)(hp:Hp)(ha:a.length<=1000000):
 run cxX 135 [Cv R C (S k 1 (LI .u32 a)),Cv R' C' (S k' 1 (LI .u32 b))] hp=some (.sc (.bool (decide (R=R'/\C=C'/\a=b))),hp):=by
 rw[E135]
 have b2:B135_2 hp=some (.sc (.bool false),hp):=by rw[qxa]
 by_cases h1:R=R'
 ·by_cases h2:C=C'
  ·by_cases h3:a.length=b.length
   ·have h:=qoz (.sc (.int .i64 R)) (.sc (.int .i64 C)) (.sc (.int .i64 R')) (.sc (.int .i64 C')) a b (rk k) (rk k') h3 ha hp a b 0 rfl rfl
    simp at h
    subst h1 h2
    rw[h3]at h
    simp[ql,qs,h3,qw9,h]
   ·have h4:¬(a=b):=fun e=>h3 (by rw[e])
    have h5:¬((a.length:Int)=(b.length:Int)):=qe
    simp[ql,qs,h1,h2,h4,h5,b2]
  ·simp[ql,h1,h2,b2]
 ·simp[ql,h1,b2]
theorem qi0(R C:Int)(hR:1<=R/\R<=8)(hC:1<=C/\C<=256)(hp:Hp):run cxX 79 [.sc (.int .i64 R),.sc (.int .i64 C)] hp=
 some (.tup [Cv R C (.ms hp.next 0 0 (R*C).toNat 1),.sc (.bool true)],hp.new (LI .u32 (List.replicate (R*C).toNat 0))):=by
 rw[E79]
 have h1:¬(R<1):=qe
 have h2:¬(8<R):=qe
 have h3:¬(C<1):=qe
 have h4:¬(256<C):=qe
 have m:=qku hR hC
 have w:IntKind.i64.wrap (R*C)=R*C:=qm qe qe
 have mk:xd 4 1 (R*C) (R*C)=some ():=Jy qe qe qh qh
 have z:=Jm .u32 (R*C).toNat
 rw[zox m.1]at z
 simp[h1,h2,h3,h4,zcx,w,mk,z,qp,qo]
theorem KW(C h r:Int)(hC:1<=C/\C<=256)(hr:0<=r/\r<=8):∃v:Nat,(v:Int)<C/\∀(R x:AV) hp,run cxX 92 [.agg [R,.sc (.int .i64 C),x],.sc (.int .u64 h),.sc (.int .i64 r)] hp=some (.sc (.int .i64 (v:Int)),hp):=by
 obtain⟨z1,s1⟩:∃z:Int,∀t x y,qy Tryz.prog .shr t x y (.int .u64 h) (.int .u64 32)=some (.int .u64 z):=⟨_,fun t x y=>jM _ _ _ _ _ _ _ _ qe⟩
 have w1:IntKind.i64.wrap (2*r)=2*r:=qm qe qe
 have w2:IntKind.i64.wrap (2*r+1)=2*r+1:=qm qe qe
 have w3:IntKind.u64.wrap (2*r+1)=2*r+1:=qu qe qe
 obtain⟨z2,s2⟩:∃z:Int,∀t x y,qy Tryz.prog .mul t x y (.int .u64 z1) (.int .u64 (2*r+1))=some (.int .u64 z):=⟨_,fun t x y=>XC _ _ _ _ _ _ _⟩
 obtain⟨z3,s3⟩:∃z:Int,∀t x y,qy Tryz.prog .and t x y (.int .u64 h) (.int .u64 4294967295)=some (.int .u64 z):=⟨_,fun t x y=>zk _ _ _ _ _ _ _⟩
 obtain⟨z4,s4⟩:∃z:Int,∀t x y,qy Tryz.prog .add t x y (.int .u64 z2) (.int .u64 z3)=some (.int .u64 z):=⟨_,fun t x y=>yi _ _ _ _ _ _ _⟩
 obtain⟨z5,s5⟩:∃z:Int,∀t x y,qy Tryz.prog .shr t x y (.int .u64 z4) (.int .u64 17)=some (.int .u64 z):=⟨_,fun t x y=>jM _ _ _ _ _ _ _ _ qe⟩
 obtain⟨z6,b6,s6⟩:∃z:Int,(0<=z/\z<18446744073709551616)/\∀t x y,qy Tryz.prog .xor t x y (.int .u64 z4) (.int .u64 z5)=some (.int .u64 z):=⟨_,by rw[IntKind.wrap_u64];omega,fun t x y=>xK _ _ _ _ _ _ _⟩
 have m1:max C 1=C:=qe
 have w4:IntKind.u64.wrap C=C:=qu qe qe
 have hm:0<=z6%C/\z6%C<C:=⟨Int.emod_nonneg _ qe,Int.emod_lt_of_pos _ qe⟩
 have s7:∀t x y,qy Tryz.prog .rem t x y (.int .u64 z6) (.int .u64 C)=some (.int .u64 (z6%C)):=by
  intro t x y;rw[zp _ _ _ _ _ _ _ qe,zn b6.1]
 have w5:IntKind.i64.wrap (z6%C)=z6%C:=qm qe qe
 refine⟨(z6%C).toNat,qe,fun R x hp=>?_⟩
 rw[zox hm.1,E92]
 generalize z6%C=z7 at*
 simp[ql,s1,w1,w2,w3,s2,s3,s4,s5,s6,m1,w4,s7,w5,-XC,-zk,-yi,-xK]
 simp[w1,w2,w3,s2,s3,s4,s5,s6,w4,s7,w5,-zk,-xK]
noncomputable def YD(C h r:Int):Nat:=if hh:(1<=C/\C<=256)/\0<=r/\r<=8 then(KW C h r hh.1 hh.2).choose else 0
theorem zgu{C h r:Int}(hC:1<=C/\C<=256)(hr:0<=r/\r<=8):(YD C h r:Int)<C/\∀(R x:AV) hp,run cxX 92 [.agg [R,.sc (.int .i64 C),x],.sc (.int .u64 h),.sc (.int .i64 r)] hp=some (.sc (.int .i64 (YD C h r:Int)),hp):=by
 unfold YD
 rw[dif_pos ⟨hC,hr⟩]
 exact(KW C h r hC hr).choose_spec
def jY:List Int->List Int->List Int
 |[],_=>[]
 |x::a,[]=>x::a
 |x::a,y::b=>zi x y::jY a b
theorem Jb:∀a b,(jY a b).length=a.length
 |[],_=>by simp[jY]
 |x::a,[]=>by simp[jY]
 |x::a,y::b=>by simp[jY,Jb a b]
@[simp] theorem zj5 : ∀ a, jY a [] = a
 |[]=>rfl
 |_::_=>rfl
abbrev kr(l:List Int):Prop:=∀n∈l,0<=n/\n<4294967296
theorem qjh{a b:Int}(ha:0<=a/\a<4294967296)(hb:0<=b/\b<4294967296):0<=zi a b/\zi a b<4294967296:=by
 unfold zi;split<;>omega
theorem qal:∀{a b:List Int},kr a->kr b->kr (jY a b)
 |[],_,_,_=>by simp[jY,kr]
 |x::a,[],ha,_=>by simpa[jY]using ha
 |x::a,y::b,ha,hb=>by
  have ih:=qal (a:=a) (b:=b) (fun n hn=>ha n (by simp[hn])) (fun n hn=>hb n (by simp[hn]))
  intro n hn
  rcases zne.mp hn with rfl|hn
  ·exact qjh (ha x qg) (hb y qg)
  ·exact ih n hn
noncomputable def Zw(C h n:Int)(l:List Int)(r:Nat):List Int:=l.set (r*C.toNat+YD C h r) (zi (l.getD (r*C.toNat+YD C h r) 0) n)
noncomputable def Qw(C h n:Int)(l:List Int)(rs:List Nat):List Int:=rs.foldl (Zw C h n) l
noncomputable def vg(R C h n:Int)(l:List Int):List Int:=if JX R C l=0 then Qw C h n l (List.range' 0 R.toNat)else l
theorem KC(C h n:Int)(l:List Int)(r:Nat):(Zw C h n l r).length=l.length:=by simp[Zw]
theorem qdu(C h n:Int):∀(rs:List Nat) (l:List Int),(Qw C h n l rs).length=l.length
 |[],_=>rfl
 |r::rs,l=>by
  show(Qw C h n (Zw C h n l r) rs).length=_
  rw[qdu C h n rs,KC]
theorem Qv(R C h n:Int)(l:List Int):(vg R C h n l).length=l.length:=by
 unfold vg;split
 ·exact qdu _ _ _ _ _
 ·rfl
theorem qkh{l:List Int}(h:kr l)(i:Nat):0<=l.getD i 0/\l.getD i 0<4294967296:=by
 by_cases hi:i<l.length
 ·have:=h l[i] (znr hi)
  simpa[hi]using this
 ·simp[hi]
theorem KB{C h n:Int}{l:List Int}{r:Nat}(hl:kr l)(hn:0<=n/\n<4294967296):kr (Zw C h n l r):=by
 intro x hx
 rcases zp3 hx with hx|rfl
 ·exact hl x hx
 ·exact qjh (qkh hl _) hn
theorem qdt{C h n:Int}(hn:0<=n/\n<4294967296):∀(rs:List Nat) {l:List Int},kr l->kr (Qw C h n l rs)
 |[],_,hl=>hl
 |r::rs,l,hl=>qdt hn rs (KB hl hn)
theorem Jd{R C h n:Int}{l:List Int}(hn:0<=n/\n<4294967296)(hl:kr l):kr (vg R C h n l):=by
 unfold vg;split
 ·exact qdt hn _ hl
 ·exact hl
theorem qkw(R C:Int)(q0 q1 q2:AV)(b:Nat)(d:List Int)(hp:Hp)(hb:hp.rd b 0=some (LI .u32 d)):
 B42_9 [q0,q1,q2] [.sc (.int .i64 R),.sc (.int .i64 C),.ms b 0 0 d.length 1] hp=some (Cv R C (S 0 1 (LI .u32 d)),hp.del b):=by
 have f:=Zg .u32 d hp b hb
 rw[qma]
 simp[qp,qo,f]
theorem qds(R C h n:Int)(q0 q1 q2:AV)(x:AV)(b:Nat)(hR:1<=R/\R<=8)(hC:1<=C/\C<=256)(hn:0<=n/\n<4294967296):∀(m i:Nat) (l:List Int) (hp:Hp),R=(i+m:Nat)->(l.length:Int)=R*C->kr l->hp.rd b 0=some (LI .u32 l)->
 ∃hp',B42_4 (.int .u64 h) (.int .u32 n) (.int .i64 R) (.int .i64 i) [.sc (.int .i64 R),.sc (.int .i64 C),x] [q0,q1,q2] [.sc (.int .i64 R),.sc (.int .i64 C),.ms b 0 0 l.length 1] hp=some (Cv R C (S 0 1 (LI .u32 (Qw C h n l (List.range' i m)))),hp'):=by
 intro m
 induction m with
 |zero=>
  intro i l hp hi hlen hl hb
  have hlt:¬((i:Int)<R):=qe
  refine⟨hp.del b,?_⟩
  rw[qmb]
  simp only[YE,Jf,hlt,decide_false,jN,znc,cond_false]
  exact qkw R C q0 q1 q2 b l hp hb
 |succ m ih=>
  intro i l hp hi hlen hl hb
  have hlt:(i:Int)<R:=qe
  obtain⟨c,rfl⟩:∃c:Nat,C=c:=⟨C.toNat,qe⟩
  obtain⟨pb,pc⟩:=zgu (h:=h) (r:=(i:Int)) hC qe
  have hRc:(R*(c:Int))=(((i+(m+1))*c:Nat):Int):=by rw[hi];simp
  have hj:i*c+YD c h i<l.length:=by
   have e1:(i+(m+1))*c=i*c+c+m*c:=by rw[zpy,zpy];omega
   have e2:l.length=(i+(m+1))*c:=qe
   have e3:YD c h i<c:=qe
   omega
  have hl2:l.length<=2048:=by have:=qku hR hC;omega
  have w1:IntKind.i64.wrap ((i:Int)*(c:Int))=((i*c:Nat):Int):=by
   have e:(i:Int)*(c:Int)=((i*c:Nat):Int):=qg
   rw[e,qm qe qe]
  have w2:IntKind.i64.wrap (((i*c:Nat):Int)+(YD c h i:Int))=((i*c+YD c h i:Nat):Int):=by rw[qm qe qe];omega
  have w3:IntKind.i64.wrap ((i:Int)+((1:Nat):Int))=((i+1:Nat):Int):=qj
  have ed:Zw c h n l i=l.set (i*c+YD c h i) (zi (l.getD (i*c+YD c h i) 0) n):=by unfold Zw;rw[znj]
  have ef:Qw c h n l (List.range' i (m+1))=Qw c h n (Zw c h n l i) (List.range' (i+1) m):=by rw[List.range'_succ];rfl
  have gs':l[i*c+YD c h i]?=some (l.getD (i*c+YD c h i) 0):=by simp[hj]
  have hgd:=qkh hl (i*c+YD c h i)
  have hu:=KB (C:=c) (h:=h) (n:=n) (r:=i) hl hn
  have hcl:=KC c h n l i
  rw[ed]at hu hcl ef
  rw[ef]
  generalize i*c+YD c h i=j at*
  generalize l.getD j 0=g at*
  have pl:=fun hp=>yP g n hgd hn hp
  have ix:=zr .i64 hj
  have pt:=xC .u32 l j (zi g n) hj
  obtain⟨hp',hh⟩:=ih (i+1) (l.set j (zi g n)) (hp.put b 0 (LI .u32 (l.set j (zi g n)))) qe (by rw[hcl];exact hlen) hu (qr _ _ _)
  refine⟨hp',?_⟩
  rw[hcl]at hh
  have oa:∀v w,xD [AV.sc v,AV.sc w] []=some ():=fun v w=>by rw[qtv];exact if_pos ⟨qg,qg⟩
  have gn:qp [AV.sc (.int .i64 R),AV.sc (.int .i64 (c:Int)),x] 0 3=some [AV.sc (.int .i64 R),AV.sc (.int .i64 (c:Int)),x]:=rfl
  rw[qmb]
  simp only[YE,Jf,hlt,decide_true,jN,znc,cond_true,ql,zpq,zp7,vi,XC,w1,gn,zog,zp4,zis,zir,zlu,pc,zag,yi,w2,qs,zit,vQ,ix,Zj,YF,vW,hb,zqv,znk,qbu?,gs',zps,oa,pl,pt,zpe,w3]
  exact hh
theorem Wp(R C h n:Int)(l:List Int)(k:Nat)(hn:0<=n/\n<4294967296)(hl:l.length<=1000000)(h32:kr l)(hp:Hp):
 ∃t hp',run cxX 42 [Cv R C (S k 1 (LI .u32 l)),.sc (.int .u64 h),.sc (.int .u32 n)] hp=some (Cv R C (S t 1 (LI .u32 (vg R C h n l))),hp'):=by
 rw[E42]
 have ck:=fun hp=>Wo R C l (rk k) hl hp
 by_cases hc:JX R C l=0
 ·have hc':=hc
  unfold JX at hc'
  split at hc'
  ·cases hc'
  ·split at hc'
   ·cases hc'
   ·rename_i h1 h2
    have hlen:(l.length:Int)=R*C:=qe
    have hne:l≠[]:=by
     intro e
     subst e
     obtain⟨r,rfl⟩:∃r:Nat,R=r:=⟨R.toNat,qe⟩
     obtain⟨c,rfl⟩:∃c:Nat,C=c:=⟨C.toNat,qe⟩
     have e:(r:Int)*(c:Int)=((r*c:Nat):Int):=qg
     rw[e]at hlen
     have:0<r*c:=zrr qe qe
     simp at hlen
     omega
    have n1:=fun k hp=>we .u32 l k 4 qh hl hne hp
    obtain⟨hp',hh⟩:=qds R C h n (.sc (.int .i64 0)) (.sc (.int .i64 0)) (S 2 1 []) (S (rk k) 1 (LI .u32 l)) hp.next qe qe hn R.toNat 0 l (hp.new (LI .u32 l)) qe hlen h32 (qT _ _)
    refine⟨0,hp',?_⟩
    have e:vg R C h n l=Qw C h n l (List.range' 0 R.toNat):=by unfold vg;rw[if_pos hc]
    simp at hh
    simp[ql,qs,qp,n1,qo,ck,hc,e,hh]
 ·have e:vg R C h n l=l:=by unfold vg;rw[if_neg hc]
  by_cases hne:l=[]
  ·subst hne
   have n1:=fun k hp=>qa0 4 k hp
   refine⟨0,hp,?_⟩
   have e9:∀(q0 q1 q2:AV),B42_9 [q0,q1,q2] [.sc (.int .i64 R),.sc (.int .i64 C),S 0 1 []] hp=some (Cv R C (S 0 1 []),hp):=by
    intro q0 q1 q2
    rw[qma]
    simp[qp,qo]
   simp at ck
   simp[ql,qs,qp,n1,qo,ck,hc,e,e9]
  ·have n1:=fun k hp=>we .u32 l k 4 qh hl hne hp
   have f:=qkw R C (.sc (.int .i64 0)) (.sc (.int .i64 0)) (S 2 1 []) hp.next l (hp.new (LI .u32 l)) (qT _ _)
   refine⟨0,(hp.new (LI .u32 l)).del hp.next,?_⟩
   simp[ql,qs,qp,n1,qo,ck,hc,e,f]
theorem qi1(R C h n:Int)(l:List Int)(b:Nat)(hn:0<=n/\n<4294967296)(hl:l.length<=1000000)(h32:kr l)(hc:JX R C l=0)(hp:Hp)(hb:hp.rd b 0=some (LI .u32 l)):
 ∃t hp',run cxX 42 [Cv R C (.ms b 0 0 l.length 1),.sc (.int .u64 h),.sc (.int .u32 n)] hp=some (Cv R C (S t 1 (LI .u32 (vg R C h n l))),hp'):=by
 rw[E42]
 have ck:=fun hp=>qbo R C l b hl hp
 have hc':=hc
 unfold JX at hc'
 split at hc'
 ·cases hc'
 ·split at hc'
  ·cases hc'
  ·rename_i h1 h2
   have hlen:(l.length:Int)=R*C:=qe
   have hne:l≠[]:=by
    intro e
    subst e
    obtain⟨r,rfl⟩:∃r:Nat,R=r:=⟨R.toNat,qe⟩
    obtain⟨c,rfl⟩:∃c:Nat,C=c:=⟨C.toNat,qe⟩
    have e:(r:Int)*(c:Int)=((r*c:Nat):Int):=qg
    rw[e]at hlen
    have:0<r*c:=zrr qe qe
    simp at hlen
    omega
   have n1:=Vn .u32 l (.ms b 0 0 l.length 1) 4 qh hl hne hp (qh6 .u32 l hp b hb)
   obtain⟨hp',hh⟩:=qds R C h n (.sc (.int .i64 0)) (.sc (.int .i64 0)) (S 2 1 []) (.ms b 0 0 l.length 1) hp.next qe qe hn R.toNat 0 l (hp.new (LI .u32 l)) qe hlen h32 (qT _ _)
   refine⟨0,hp',?_⟩
   have e:vg R C h n l=Qw C h n l (List.range' 0 R.toNat):=by unfold vg;rw[if_pos hc]
   simp at hh
   simp[ql,qs,qp,n1,qo,ck,hc,e,hh]
noncomputable def yV(R C:Int)(a:List Int)(l:List (Int×Int)):List Int:=l.foldl (fun a p=>vg R C p.1 p.2 a) a
theorem qdq(R C:Int):∀(l:List (Int×Int)) (a:List Int),(yV R C a l).length=a.length
 |[],_=>rfl
 |p::l,a=>by
  show(yV R C (vg R C p.1 p.2 a) l).length=_
  rw[qdq R C l,Qv]
theorem qdp(R C:Int):∀{l:List (Int×Int)} {a:List Int},kr a->(∀p∈l,0<=p.2/\p.2<4294967296)->kr (yV R C a l)
 |[],_,h,_=>h
 |p::l,a,h,hl=>qdp R C (l:=l) (Jd (hl p qg) h) (fun q hq=>hl q (by simp[hq]))
theorem zb9(R C:Int)(q0 q1 q2:AV)(l:List (Int×Int))(k:Nat)(hl:l.length<=1000000)(h32:∀p∈l,0<=p.2/\p.2<4294967296):∀(r:List (Int×Int)) (i t:Nat) (a:List Int) (hp:Hp),l.drop i=r->a.length<=1000000->kr a->
 ∃t' hp',B35_3 (S k 2 (LQ .u64 .u32 l)) (.int .i64 l.length) (.int .i64 i) [q0,q1,q2] [.sc (.int .i64 R),.sc (.int .i64 C),S t 1 (LI .u32 a)] hp=some (Cv R C (S t' 1 (LI .u32 (yV R C a r))),hp'):=by
 intro r
 induction r with
 |nil=>
  intro i t a hp hr ha hu
  have:=qL hr
  have hlt:¬((i:Int)<(l.length:Int)):=qe
  refine⟨rk t,hp,?_⟩
  rw[XL]
  simp[hlt,qp,qo,yV]
 |cons x r ih=>
  intro i t a hp hr ha hu
  obtain⟨e1,e2,hi,e3⟩:=qt hr
  have hx:=h32 x (znm e1)
  have hw:IntKind.i64.wrap ((i:Int)+1)=((i+1:Nat):Int):=qj
  obtain⟨t1,hp1,ha1⟩:=Wp R C x.1 x.2 a (rk t) hx ha hu hp
  obtain⟨t',hp',h⟩:=ih (i+1) t1 (vg R C x.1 x.2 a) hp1 e2 (by rw[Qv];exact ha) (Jd hx hu)
  refine⟨t',hp',?_⟩
  have ix:=za7 .u64 .u32 k e1
  rw[XL]
  simp at h hw
  have ef:yV R C a (x::r)=yV R C (vg R C x.1 x.2 a) r:=rfl
  simp[hi,ix,ql,qp,qo,ha1,hw,h,ef]
theorem zeo(a b:Int)(l:List (Int×Int))(k:Nat)(ha:0<=a/\a<256)(hb:0<=b/\b<256)(hl:l.length<=1000000)(h32:∀p∈l,0<=p.2/\p.2<4294967296)(hp:Hp):
 ∃t hp',run cxX 35 [.sc (.int .u8 a),.sc (.int .u8 b),S k 2 (LQ .u64 .u32 l)] hp=some (Cv (1+a%8) (1+b%40) (S t 1 (LI .u32 (yV (1+a%8) (1+b%40) (List.replicate ((1+a%8)*(1+b%40)).toNat 0) l))),hp'):=by
 have h1:∀t x y,qy Tryz.prog .rem t x y (.int .u8 a) (.int .u8 8)=some (.int .u8 (a%8)):=by
  intro t x y;rw[zp _ _ _ _ _ _ _ qe,zn ha.1]
 have h2:∀t x y,qy Tryz.prog .rem t x y (.int .u8 b) (.int .u8 40)=some (.int .u8 (b%40)):=by
  intro t x y;rw[zp _ _ _ _ _ _ _ qe,zn hb.1]
 have w1:IntKind.i64.wrap (a%8)=a%8:=qm qe qe
 have w2:IntKind.i64.wrap (1+a%8)=1+a%8:=qm qe qe
 have w3:IntKind.i64.wrap (b%40)=b%40:=qm qe qe
 have w4:IntKind.i64.wrap (1+b%40)=1+b%40:=qm qe qe
 have nw:=fun hp=>qi0 (1+a%8) (1+b%40) qe qe hp
 have m:=qku (R:=1+a%8) (C:=1+b%40) qe qe
 obtain⟨R,hR⟩:∃R,R=1+a%8:=⟨_,rfl⟩
 obtain⟨C,hC⟩:∃C,C=1+b%40:=⟨_,rfl⟩
 rw[<-hR]at nw m w2⊢
 rw[<-hC]at nw m w4⊢
 obtain⟨z,hz⟩:∃z,z=List.replicate (R*C).toNat (0:Int):=⟨_,rfl⟩
 have zl:z.length=(R*C).toNat:=by rw[hz];simp
 have zu:kr z:=fun n hn=>by rw[hz]at hn;have:=zo9 hn;omega
 have zc:JX R C z=0:=by unfold JX;rw[if_neg qe,if_neg (by rw[zl];omega)]
 rw[<-hz]at nw⊢
 rw[<-zl]at nw
 have ln:=zi8 .u64 .u32
 have key:∃t hp',B35_3 (S (rk k) 2 (LQ .u64 .u32 l)) (.int .i64 l.length) (.int .i64 (0:Nat)) [.sc (.int .i64 0),.sc (.int .i64 0),S 2 1 []] [.sc (.int .i64 R),.sc (.int .i64 C),.ms hp.next 0 0 z.length 1] (hp.new (LI .u32 z))=some (Cv R C (S t 1 (LI .u32 (yV R C z l))),hp'):=by
  cases l with
  |nil=>
   have f:=Zg .u32 z (hp.new (LI .u32 z)) hp.next (qT _ _)
   refine⟨0,(hp.new (LI .u32 z)).del hp.next,?_⟩
   rw[XL]
   simp[qo,qp,f,yV]
  |cons x r=>
   have hx:=h32 x qg
   have ix:=za7 (l:=x::r) (i:=0) (p:=x) .u64 .u32 (rk k) rfl
   obtain⟨t1,hp1,ha1⟩:=qi1 R C x.1 x.2 z hp.next hx (by rw[zl];omega) zu zc (hp.new (LI .u32 z)) (qT _ _)
   obtain⟨t,hp2,h⟩:=zb9 R C (.sc (.int .i64 0)) (.sc (.int .i64 0)) (S 2 1 []) (x::r) (rk k) hl h32 r 1 t1 (vg R C x.1 x.2 z) hp1 rfl (by rw[Qv,zl];omega) (Jd hx zu)
   refine⟨t,hp2,?_⟩
   have hw:IntKind.i64.wrap (((0:Nat):Int)+1)=((1:Nat):Int):=rfl
   have hlt:((0:Nat):Int)<((x::r).length:Int):=qg
   have ef:yV R C z (x::r)=yV R C (vg R C x.1 x.2 z) r:=rfl
   have gn:qp [AV.sc (.int .i64 R),AV.sc (.int .i64 C),.ms hp.next 0 0 z.length 1] 0 3=some [AV.sc (.int .i64 R),AV.sc (.int .i64 C),.ms hp.next 0 0 z.length 1]:=rfl
   generalize(x::r).length=n at*
   generalize LQ .u64 .u32 (x::r)=q at*
   have hn:0<n:=by simpa using hlt
   rw[XL]
   simp at ix h
   simp[hn,ix,ql,qp,qo,ha1,ef,h]
 obtain⟨t,hp',h⟩:=key
 refine⟨t,hp',?_⟩
 rw[E35]
 simp at h
 simp[h1,h2,w1,w2,w3,w4,<-hR,<-hC,nw,qo,ln,h]
structure GN where
 M:Int
 e0:Int
 e1:Int
 e2:Int
 e3:Int
 e4:Int
 e5:Int
 lo:Nat
 hi:Nat
 L:List Nat
deriving DecidableEq
def Gs.nf(g:Gs):GN:=⟨g.M,g.e0,g.e1,g.e2,g.e3,g.e4,g.e5,kw g.lo,kw g.hi,g.L.map kw⟩
structure Gs.W (g : Gs) : Prop where
 M:zy g.M
 e0:zy g.e0
 e1:zy g.e1
 e2:zy g.e2
 e3:zy g.e3
 e4:zy g.e4
 e5:zy g.e5
 lo:g.lo<18446744073709551616
 hi:g.hi<18446744073709551616
 L:Ws g.L
 len:g.L.length<=100000
theorem qke(K K':Int)(g o:Gs):qlj K K' g o↔K=K'/\g.nf=o.nf:=by
 unfold qlj Gs.nf
 simp only[GN.mk.injEq]
 constructor
 ·rintro⟨h1,h2,⟨h3,h4,h5,h6,h7,h8⟩,h9,h10,h11⟩
  exact⟨h1,h2,h3,h4,h5,h6,h7,h8,h9,h10,h11⟩
 ·rintro⟨h1,h2,h3,h4,h5,h6,h7,h8,h9,h10,h11⟩
  exact⟨h1,h2,⟨h3,h4,h5,h6,h7,h8⟩,h9,h10,h11⟩
theorem qnd(K K':Int)(g o:Gs)(k k':Nat)(hg:g.W)(ho:o.W)(hp:Hp):run cxX 136 [g.av K k,o.av K' k'] hp=some (.sc (.bool (decide (K=K'/\g.nf=o.nf))),hp):=by
 by_cases h:qlj K K' g o
 ·rw[qss K K' g o k k' h ⟨hg.lo,ho.lo⟩ ⟨hg.hi,ho.hi⟩ ⟨hg.L,ho.L⟩ (by have:=hg.len;omega) hp,decide_eq_true ((qke K K' g o).mp h)]
 ·have hd:decide (K=K'/\g.nf=o.nf)=false:=decide_eq_false (fun h'=>h ((qke K K' g o).mpr h'))
  rw[hd,E136]
  have b2:B136_2 hp=some (.sc (.bool false),hp):=qw8 hp
  have r1:=fun hp=>Qk g.lo o.lo hg.lo ho.lo hp
  have r2:=fun hp=>Qk g.hi o.hi hg.hi ho.hi hp
  have a:=fun x y=>zhk x y g.e0 g.e1 g.e2 g.e3 g.e4 g.e5 o.e0 o.e1 o.e2 o.e3 o.e4 o.e5
  by_cases q1:K=K'
  ·by_cases q2:g.M=o.M
   ·by_cases q3:(g.e0=o.e0/\g.e1=o.e1/\g.e2=o.e2/\g.e3=o.e3/\g.e4=o.e4/\g.e5=o.e5)
    ·simp only[eq_true q3,decide_true,Bool.not_true]at a
     by_cases q4:kw g.lo=kw o.lo
     ·by_cases q5:kw g.hi=kw o.hi
      ·by_cases q6:g.L.length=o.L.length
       ·have l:=WV (.sc (.int .i64 K)) (.sc (.int .u32 g.M)) (.sc (.int .u32 g.e0)) (.sc (.int .u32 g.e1)) (.sc (.int .u32 g.e2)) (.sc (.int .u32 g.e3)) (.sc (.int .u32 g.e4)) (.sc (.int .u32 g.e5)) (fl g.lo) (fl g.hi)
         (.sc (.int .i64 K')) (.sc (.int .u32 o.M)) (.sc (.int .u32 o.e0)) (.sc (.int .u32 o.e1)) (.sc (.int .u32 o.e2)) (.sc (.int .u32 o.e3)) (.sc (.int .u32 o.e4)) (.sc (.int .u32 o.e5)) (fl o.lo) (fl o.hi) g.L o.L (rk k) (rk k') q6 (by have:=hg.len;omega) hg.L ho.L hp g.L o.L 0 rfl rfl
        have q7:¬(g.L.map kw=o.L.map kw):=fun e=>h ⟨q1,q2,q3,q4,q5,e⟩
        simp only[eq_false q7,decide_false]at l
        subst q1
        simp at l
        rw[q6,q2]at l
        simp[ql,qs,qp,xQ,wT,q2,a,r1,r2,q4,q5,q6,qfe]
        exact l
       ·have q6':¬((g.L.length:Int)=(o.L.length:Int)):=qe
        simp[ql,qs,qp,xQ,wT,q1,q2,a,r1,r2,q4,q5,q6',b2]
      ·simp[ql,qs,qp,xQ,wT,q1,q2,a,r1,r2,q4,q5,b2]
     ·simp[ql,qs,qp,xQ,wT,q1,q2,a,r1,q4,b2]
    ·simp only[eq_false q3,decide_false,Bool.not_false]at a
     simp[ql,qs,qp,xQ,wT,q1,q2,a,b2]
   ·simp[ql,q1,q2,b2]
  ·simp[ql,q1,b2]
def JS:List Nat->Int
 |[]=>0
 |[_]=>0
 |x::y::r=>if y<x then 8 else JS (y::r)
def nanK:Nat:=18444492273895866369
def qrb(g:GN):Int:=if g.lo=nanK\/g.hi=nanK then 4 else 0
def JW(K:Int)(g:GN):Int:=if K<1\/16<K\/K<(g.L.length:Int)then 2 else if JS g.L=0 then qrb g else 8
theorem qpz:∀{l:List Nat},Up l->JS l=0
 |[],_=>rfl
 |[_],_=>rfl
 |x::y::r,h=>by
  have h':=znh.mp h
  have hxy:=h'.1 y qg
  show(if y<x then(8:Int)else JS (y::r))=0
  rw[if_neg qe]
  exact qpz h'.2
theorem qqi:∀{l:List Nat},JS l=0->Up l
 |[],_=>List.Pairwise.nil
 |[_],_=>by simp
 |x::y::r,h=>by
  have h:(if y<x then(8:Int)else JS (y::r))=0:=h
  split at h
  ·cases h
  ·rename_i hxy
   have ih:=qqi h
   have ih':=znh.mp ih
   refine znh.mpr ⟨fun n hn=>?_,ih⟩
   rcases zne.mp hn with rfl|hn
   ·omega
   ·have:=ih'.1 n hn;omega
theorem Kk{w:Nat}(h:w<18446744073709551616):yR w↔kw w=nanK:=by
 constructor
 ·intro hn;exact zi9 hn
 ·intro he
  by_cases hn:yR w
  ·exact hn
  ·have:=qt9 h hn
   rw[he]at this
   exact absurd this qh
theorem qki(K:Int)(g:Gs)(k:Nat)(hg:g.W)(hp:Hp):∀(r:List Nat) (p:Option Nat) (i:Nat),g.L.drop i=r->(p=none↔i=0)->(∀q,p=some q->g.L[i-1]?=some q)->
 B89_4 (S k 1 (LF g.L)) (.int .i64 g.L.length) (.int .i64 i) [.sc (.int .i64 K),.sc (.int .u32 g.M),.sc (.int .u32 g.e0),.sc (.int .u32 g.e1),.sc (.int .u32 g.e2),.sc (.int .u32 g.e3),.sc (.int .u32 g.e4),.sc (.int .u32 g.e5),fl g.lo,fl g.hi,S k 1 (LF g.L)] hp=
  some (.sc (.int .i64 (if JS (p.toList.map kw++r.map kw)=0 then qrb g.nf else 8)),hp):=by
 intro r
 induction r with
 |nil=>
  intro p i hr hp0 hps
  have:=qL hr
  have hlt:¬((i:Int)<(g.L.length:Int)):=qe
  have ho:JS (p.toList.map kw++([]:List Nat).map kw)=0:=by cases p<;>rfl
  have n1:=Kk hg.lo
  have n2:=Kk hg.hi
  rw[if_pos ho,qlo]
  unfold qrb Gs.nf
  by_cases h1:yR g.lo
  ·have h1':=n1.mp h1
   simp[hlt,ql,jA,h1,h1',qdz]
  ·have h1':¬(kw g.lo=nanK):=fun e=>h1 (n1.mpr e)
   by_cases h2:yR g.hi
   ·have h2':=n2.mp h2
    simp[hlt,ql,jA,h1,h2,h2',qdz]
   ·have h2':¬(kw g.hi=nanK):=fun e=>h2 (n2.mpr e)
    simp[hlt,ql,jA,h1,h2,h1',h2',qvg]
 |cons x r ih=>
  intro p i hr hp0 hps
  obtain⟨e1,e2,hi,e3⟩:=qt hr
  have hx:=hg.L x (znm e1)
  have hln:=hg.len
  have hw:IntKind.i64.wrap ((i:Int)+1)=((i+1:Nat):Int):=qj
  have h:=ih (some x) (i+1) e2 qg (fun q hq=>by simp at hq;subst hq;simpa using e1)
  have g1:(LF g.L)[i]?=some (fl x):=by simp[LF,e1]
  rw[qlo]
  cases p with
  |none=>
   obtain rfl:i=0:=hp0.mp rfl
   simp at g1 h hw
   simp[hi,ql,g1,hw,h,qln]
  |some q=>
   have hi0:i≠0:=fun e=>by have:=hp0.mpr e;cases this
   have hq:=hps q rfl
   have hq64:=hg.L q (znm hq)
   have hpos:0<i:=qe
   simp at h hw
   have w1:IntKind.i64.wrap ((i:Int)-1)=((i-1:Nat):Int):=qj
   have g2:(LF g.L)[i-1]?=some (fl q):=by simp[LF,hq]
   have ls:=fun hp=>YS x q hx hq64 hp
   by_cases hl:kw x<kw q
   ·simp[hi,e3,ql,qs,g1,hpos,w1,g2,ls,hl,zcr,JS]
   ·simp[hi,e3,ql,qs,g1,hpos,w1,g2,ls,hl,hw,h,qln,JS]
theorem qnf(K:Int)(g:Gs)(k:Nat)(hg:g.W)(hp:Hp):run cxX 89 [g.av K k] hp=some (.sc (.int .i64 (JW K g.nf)),hp):=by
 rw[E89]
 have b2:B89_2 hp=some (.sc (.int .i64 2),hp):=by rw[zct];simp
 have hl:g.nf.L.length=g.L.length:=by simp[Gs.nf]
 unfold JW
 rw[hl]
 by_cases h1:K<1
 ·simp[ql,h1,b2]
 ·by_cases h2:16<K
  ·simp[ql,h1,h2,b2]
  ·by_cases h3:K<(g.L.length:Int)
   ·simp[ql,qs,h1,h2,h3,b2]
   ·have l:=qki K g (rk k) hg hp g.L none 0 rfl qg qg
    have e:g.nf.L=g.L.map kw:=rfl
    simp at l
    simp[ql,qs,h1,h2,h3,zcs,l,e]
def kG(K:Int)(g o:GN):GN:=⟨zi g.M o.M,zi g.e0 o.e0,zi g.e1 o.e1,zi g.e2 o.e2,zi g.e3 o.e3,zi g.e4 o.e4,zi g.e5 o.e5,min g.lo o.lo,max g.hi o.hi,(mk g.L o.L).take K.toNat⟩
theorem yd{a b:Int}(ha:zy a)(hb:zy b):zy (zi a b):=by
 unfold zy at *;unfold zi;split<;>omega
theorem zbe(K:Int)(g o:Gs):(gmg K g o).nf=kG K g.nf o.nf:=by
 simp only[Gs.nf,gmg,kG,qqz,qq0,<-qq8 _ _ _ rfl,zqx]
theorem zhp{K:Int}{g o:Gs}(hK:K<=100000)(hg:g.W)(ho:o.W):(gmg K g o).W where
 M:=yd hg.M ho.M
 e0:=yd hg.e0 ho.e0
 e1:=yd hg.e1 ho.e1
 e2:=yd hg.e2 ho.e2
 e3:=yd hg.e3 ho.e3
 e4:=yd hg.e4 ho.e4
 e5:=yd hg.e5 ho.e5
 lo:=qre hg.lo ho.lo
 hi:=qrf hg.hi ho.hi
 L:=fun w hw=>by
  rcases zar w _ _ _ rfl (zov hw)with h|h
  ·exact hg.L w h
  ·exact ho.L w h
 len:=by
  show((gm g.L o.L).take K.toNat).length<=100000
  rw[zn8];omega
theorem Xo{K:Int}{g:GN}:JW K g=0↔(1<=K/\K<=16)/\(g.L.length:Int)<=K/\Up g.L/\g.lo≠nanK/\g.hi≠nanK:=by
 unfold JW qrb
 constructor
 ·intro h
  split at h
  ·cases h
  ·split at h
   ·split at h
    ·cases h
    ·rename_i h1 h2 h3
     exact⟨qe,qe,qqi h2,fun e=>h3 (.inl e),fun e=>h3 (.inr e)⟩
   ·cases h
 ·rintro⟨h1,h2,h3,h4,h5⟩
  rw[if_neg qe,if_pos (qpz h3),if_neg (fun e=>e.elim h4 h5)]
theorem qaa{K:Int}{g o:GN}(hg:JW K g=0)(ho:JW K o=0):JW K (kG K g o)=0:=by
 rw[Xo]at*
 obtain⟨h1,h2,h3,h4,h5⟩:=hg
 obtain⟨f1,f2,f3,f4,f5⟩:=ho
 refine⟨h1,?_,?_,?_,?_⟩
 ·simp only[kG,zn8];omega
 ·exact List.Pairwise.sublist (zq6 _ _) (zap _ _ h3 f3)
 ·show min g.lo o.lo≠nanK;omega
 ·show max g.hi o.hi≠nanK;omega
theorem qji{a b c:Int}(ha:0<=a)(hb:0<=b)(hc:0<=c):zi (zi a b) c=zi a (zi b c):=by
 unfold zi
 repeat' split
 all_goals omega
theorem xm{a:Int}(ha:0<=a/\a<4294967296):zi a 0=a:=by unfold zi;rw[if_pos qe];omega
def GN.Pos(g:GN):Prop:=zy g.M/\zy g.e0/\zy g.e1/\zy g.e2/\zy g.e3/\zy g.e4/\zy g.e5
theorem Gs.W.pos{g:Gs}(h:g.W):g.nf.Pos:=⟨h.M,h.e0,h.e1,h.e2,h.e3,h.e4,h.e5⟩
theorem zbf{K:Int}{g o:GN}(hg:g.Pos)(ho:o.Pos):(kG K g o).Pos:=by
 obtain⟨h1,h2,h3,h4,h5,h6,h7⟩:=hg
 obtain⟨f1,f2,f3,f4,f5,f6,f7⟩:=ho
 exact⟨yd h1 f1,yd h2 f2,yd h3 f3,yd h4 f4,yd h5 f5,yd h6 f6,yd h7 f7⟩
theorem zga:gnew.nf=⟨0,0,0,0,0,0,0,18442240474082181120,4503599627370495,[]⟩:=qh
theorem in0:zy 0:=⟨qh,qh⟩
theorem qop:gnew.W:=⟨in0,in0,in0,in0,in0,in0,in0,qh,qh,by simp[gnew,Ws],qh⟩
theorem qdd{w:Nat}(h:w<18446744073709551616)(hn:¬yR w):4503599627370495<=kw w/\kw w<=18442240474082181120:=by
 have hn':¬(9218868437227405312<w%9223372036854775808):=hn
 unfold kw
 rw[if_neg hn]
 split<;>omega
theorem zbg{K:Int}{g:Gs}(hg:g.W)(hc:JW K g.nf=0):kG K g.nf gnew.nf=g.nf:=by
 obtain⟨k1,l1,u1,n1,n2⟩:=Xo.mp hc
 have b1:=qdd hg.lo (fun h=>n1 ((Kk hg.lo).mp h))
 have b2:=qdd hg.hi (fun h=>n2 ((Kk hg.hi).mp h))
 have hl:g.nf.L.take K.toNat=g.nf.L:=zn2 qe
 have e1:min (kw g.lo) 18442240474082181120=kw g.lo:=qe
 have e2:max (kw g.hi) 4503599627370495=kw g.hi:=qe
 rw[zga]
 simp only[kG,Qo,hl]
 simp only[Gs.nf,xm hg.M,xm hg.e0,xm hg.e1,xm hg.e2,xm hg.e3,xm hg.e4,xm hg.e5,e1,e2]
structure SkN where
 kind:Int
 set:List Int
 K:Int
 hs:List Int
 P:Int
 rg:List Int
 B:Int
 H:Int
 bs:List Int
 R:Int
 C:Int
 cs:List Int
 gK:Int
 g:GN
deriving DecidableEq
def gz:Gs:=⟨0,0,0,0,0,0,0,0,0,[]⟩
theorem vM:gz.W:=⟨in0,in0,in0,in0,in0,in0,in0,qh,qh,by simp[gz,Ws],qh⟩
def skZ:SkN:=⟨0,[],0,[],0,[],0,0,[],0,0,[],0,gz.nf⟩
def wA(x:SkN)(g:Gs)(a b c d e f:Nat):AV:=.agg [.sc (.int .u8 x.kind),S a 1 (LI .u32 x.set),.sc (.int .i64 x.K),S b 1 (LI .u64 x.hs),.sc (.int .i64 x.P),S c 1 (LI .u8 x.rg),.sc (.int .i64 x.B),.sc (.int .i64 x.H),S d 1 (LI .u32 x.bs),.sc (.int .i64 x.R),.sc (.int .i64 x.C),S e 1 (LI .u32 x.cs),
 .sc (.int .i64 x.gK),.sc (.int .u32 g.M),.sc (.int .u32 g.e0),.sc (.int .u32 g.e1),.sc (.int .u32 g.e2),.sc (.int .u32 g.e3),.sc (.int .u32 g.e4),.sc (.int .u32 g.e5),fl g.lo,fl g.hi,S f 1 (LF g.L)]
def yu(x:SkN)(v:AV):Prop:=∃g a b c d e f,g.W/\g.nf=x.g/\v=wA x g a b c d e f
structure SkN.W (x : SkN) : Prop where
 kind:0<=x.kind/\x.kind<256
 set:kr x.set
 setL:x.set.length<=100000
 hsL:x.hs.length<=100000
 rg:∀n∈x.rg,0<=n/\n<256
 rgL:x.rg.length<=100000
 bs:kr x.bs
 bsL:x.bs.length<=100000
 cs:kr x.cs
 csL:x.cs.length<=100000
theorem qp3:skZ.W:=⟨qh,by simp[skZ,kr],qh,qh,by simp[skZ],qh,by simp[skZ,kr],qh,by simp[skZ,kr],qh⟩
def Vo(x y:SkN):Prop:=x.kind=y.kind/\x.set=y.set/\(x.K=y.K/\x.hs=y.hs)/\(x.P=y.P/\x.rg=y.rg)/\(x.B=y.B/\x.H=y.H/\x.bs=y.bs)/\(x.R=y.R/\x.C=y.C/\x.cs=y.cs)/\x.gK=y.gK/\x.g=y.g
instance (x y : SkN) : Decidable (Vo x y) := by unfold Vo; infer_instance
theorem qyf(x y:SkN):Vo x y↔x=y:=by
 cases x;cases y
 simp only[Vo,SkN.mk.injEq]
 constructor
 ·rintro⟨h1,h2,⟨h3,h4⟩,⟨h5,h6⟩,⟨h7,h8,h9⟩,⟨h10,h11,h12⟩,h13,h14⟩
  exact⟨h1,h2,h3,h4,h5,h6,h7,h8,h9,h10,h11,h12,h13,h14⟩
 ·rintro⟨h1,h2,h3,h4,h5,h6,h7,h8,h9,h10,h11,h12,h13,h14⟩
  exact⟨h1,h2,⟨h3,h4⟩,⟨h5,h6⟩,⟨h7,h8,h9⟩,⟨h10,h11,h12⟩,h13,h14⟩
theorem qm1{x y:SkN}{v u:AV}(hv:yu x v)(hu:yu y u)(wx:x.W)(wy:y.W)(hp:Hp):run cxX 68 [v,u] hp=some (.sc (.bool (decide (x=y))),hp):=by
 obtain⟨g,a,b,c,d,e,f,gw,gn,rfl⟩:=hv
 obtain⟨g',a',b',c',d',e',f',gw',gn',rfl⟩:=hu
 have hd:decide (x=y)=decide (Vo x y):=decide_eq_decide.mpr (qyf x y).symm
 have r1:=fun k k' hp=>qsf x.set y.set k k' hp (by have:=wx.setL;omega)
 have r2:=fun k k' hp=>qsq x.K y.K x.hs y.hs k k' hp (by have:=wx.hsL;omega) (by have:=wy.hsL;omega)
 have r3:=fun k k' hp=>qsr x.P y.P x.rg y.rg k k' wx.rg wy.rg hp
 have r4:=fun k k' hp=>qyo x.B x.H y.B y.H x.bs y.bs k k' hp (by have:=wx.bsL;omega) (by have:=wy.bsL;omega)
 have r5:=fun k k' hp=>qsx x.R x.C y.R y.C x.cs y.cs k k' hp (by have:=wx.csL;omega)
 have r6:=fun k k' hp=>qnd x.gK y.gK g g' k k' gw gw' hp
 rw[hd,E68]
 unfold wA
 by_cases h1:x.kind=y.kind
 ·by_cases h2:x.set=y.set
  ·simp only[eq_true h2,decide_true]at r1
   by_cases h3:x.K=y.K/\x.hs=y.hs
   ·simp only[eq_true h3,decide_true]at r2
    by_cases h4:x.P=y.P/\x.rg=y.rg
    ·simp only[eq_true h4,decide_true]at r3
     by_cases h5:x.B=y.B/\x.H=y.H/\x.bs=y.bs
     ·simp only[eq_true h5,decide_true]at r4
      by_cases h6:x.R=y.R/\x.C=y.C/\x.cs=y.cs
      ·simp only[eq_true h6,decide_true]at r5
       have e:decide (Vo x y)=decide (x.gK=y.gK/\x.g=y.g):=decide_eq_decide.mpr ⟨fun h=>h.2.2.2.2.2.2,fun h=>⟨h1,h2,h3,h4,h5,h6,h⟩⟩
       rw[gn,gn']at r6
       rw[e]
       simp[ql,qs,qp,eq_true h1,r1,r2,r3,r4,r5,r6]
      ·simp only[eq_false h6,decide_false]at r5
       rw[decide_eq_false (fun h:Vo x y=>h6 h.2.2.2.2.2.1)]
       simp[ql,qs,qp,eq_true h1,r1,r2,r3,r4,r5]
     ·simp only[eq_false h5,decide_false]at r4
      rw[decide_eq_false (fun h:Vo x y=>h5 h.2.2.2.2.1)]
      simp[ql,qs,qp,eq_true h1,r1,r2,r3,r4]
    ·simp only[eq_false h4,decide_false]at r3
     rw[decide_eq_false (fun h:Vo x y=>h4 h.2.2.2.1)]
     simp[ql,qs,qp,eq_true h1,r1,r2,r3]
   ·simp only[eq_false h3,decide_false]at r2
    rw[decide_eq_false (fun h:Vo x y=>h3 h.2.2.1)]
    simp[ql,qs,qp,eq_true h1,r1,r2]
  ·simp only[eq_false h2,decide_false]at r1
   rw[decide_eq_false (fun h:Vo x y=>h2 h.2.1)]
   simp[ql,qs,eq_true h1,r1]
 ·rw[decide_eq_false (fun h:Vo x y=>h1 h.1)]
  simp[ql,h1]
def jn(x:SkN):SkN:=
 if x.kind=0 then{skZ with kind:=x.kind,set:=x.set}
 else if x.kind=1 then{skZ with kind:=x.kind,K:=x.K,hs:=x.hs}
 else if x.kind=2 then{skZ with kind:=x.kind,P:=x.P,rg:=x.rg}
 else if x.kind=3 then{skZ with kind:=x.kind,B:=x.B,H:=x.H,bs:=x.bs}
 else if x.kind=4 then{skZ with kind:=x.kind,R:=x.R,C:=x.C,cs:=x.cs}
 else if x.kind=5 then{skZ with kind:=x.kind,gK:=x.gK,g:=x.g}
 else{skZ with kind:=x.kind}
theorem zfo{x:SkN}(h:x.W):(jn x).W:=by
 have z:=qp3
 unfold jn
 repeat' split
 ·exact⟨h.kind,h.set,h.setL,z.hsL,z.rg,z.rgL,z.bs,z.bsL,z.cs,z.csL⟩
 ·exact⟨h.kind,z.set,z.setL,h.hsL,z.rg,z.rgL,z.bs,z.bsL,z.cs,z.csL⟩
 ·exact⟨h.kind,z.set,z.setL,z.hsL,h.rg,h.rgL,z.bs,z.bsL,z.cs,z.csL⟩
 ·exact⟨h.kind,z.set,z.setL,z.hsL,z.rg,z.rgL,h.bs,h.bsL,z.cs,z.csL⟩
 ·exact⟨h.kind,z.set,z.setL,z.hsL,z.rg,z.rgL,z.bs,z.bsL,h.cs,h.csL⟩
 ·exact⟨h.kind,z.set,z.setL,z.hsL,z.rg,z.rgL,z.bs,z.bsL,z.cs,z.csL⟩
 ·exact⟨h.kind,z.set,z.setL,z.hsL,z.rg,z.rgL,z.bs,z.bsL,z.cs,z.csL⟩
theorem qm2{x:SkN}{v:AV}(hv:yu x v)(hp:Hp):∃r,yu (jn x) r/\run cxX 83 [v] hp=some (r,hp):=by
 obtain⟨g,a,b,c,d,e,f,gw,gn,rfl⟩:=hv
 rw[E83]
 unfold jn
 by_cases h0:x.kind=0
 ·rw[if_pos h0]
  refine⟨wA {skZ with kind:=x.kind,set:=x.set} gz (rk a) 2 2 2 2 2,⟨gz,_,_,_,_,_,_,vM,rfl,rfl⟩,?_⟩
  simp[wA,skZ,gz,LF,ql,qs,qp,qo,h0,kh]
 ·rw[if_neg h0]
  by_cases h1:x.kind=1
  ·rw[if_pos h1]
   refine⟨wA {skZ with kind:=x.kind,K:=x.K,hs:=x.hs} gz 2 (rk b) 2 2 2 2,⟨gz,_,_,_,_,_,_,vM,rfl,rfl⟩,?_⟩
   simp[wA,skZ,gz,LF,ql,qs,qp,qo,h1,kh]
  ·rw[if_neg h1]
   by_cases h2:x.kind=2
   ·rw[if_pos h2]
    refine⟨wA {skZ with kind:=x.kind,P:=x.P,rg:=x.rg} gz 2 2 (rk c) 2 2 2,⟨gz,_,_,_,_,_,_,vM,rfl,rfl⟩,?_⟩
    simp[wA,skZ,gz,LF,ql,qs,qp,qo,h2,kh]
   ·rw[if_neg h2]
    by_cases h3:x.kind=3
    ·rw[if_pos h3]
     refine⟨wA {skZ with kind:=x.kind,B:=x.B,H:=x.H,bs:=x.bs} gz 2 2 2 (rk d) 2 2,⟨gz,_,_,_,_,_,_,vM,rfl,rfl⟩,?_⟩
     simp[wA,skZ,gz,LF,ql,qs,qp,qo,h3,kh]
    ·rw[if_neg h3]
     by_cases h4:x.kind=4
     ·rw[if_pos h4]
      refine⟨wA {skZ with kind:=x.kind,R:=x.R,C:=x.C,cs:=x.cs} gz 2 2 2 2 (rk e) 2,⟨gz,_,_,_,_,_,_,vM,rfl,rfl⟩,?_⟩
      simp[wA,skZ,gz,LF,ql,qs,qp,qo,h4,kh]
     ·rw[if_neg h4]
      by_cases h5:x.kind=5
      ·rw[if_pos h5]
       refine⟨wA {skZ with kind:=x.kind,gK:=x.gK,g:=x.g} g 2 2 2 2 2 (rk f),⟨g,_,_,_,_,_,_,gw,gn,rfl⟩,?_⟩
       simp[wA,skZ,gz,LF,ql,qs,qp,qo,h5,kh]
      ·rw[if_neg h5]
       refine⟨wA {skZ with kind:=x.kind} gz 2 2 2 2 2 2,⟨gz,_,_,_,_,_,_,vM,rfl,rfl⟩,?_⟩
       simp[wA,skZ,gz,LF,ql,qs,qp,qo,h0,h1,h2,h3,h4,h5,kh]
def yA(x:SkN):Int:=
 if 6<=x.kind then 5 else if x≠jn x then 4
 else if x.kind=0 then qh9 x.set else if x.kind=1 then qub x.K x.hs else if x.kind=2 then que x.P x.rg else if x.kind=3 then qaz x.B x.H x.bs else if x.kind=4 then JX x.R x.C x.cs else JW x.gK x.g
theorem zI{x:SkN}{g:Gs}(gw:g.W)(gn:g.nf=x.g)(a b c d e f:Nat):yu x (wA x g a b c d e f):=⟨g,a,b,c,d,e,f,gw,gn,rfl⟩
theorem yu.vl{x:SkN}{v:AV}(h:yu x v):vlF v=true/\vlV v=true:=by
 obtain⟨g,a,b,c,d,e,f,gw,gn,rfl⟩:=h
 unfold wA
 constructor<;>simp
theorem yu.ro{x:SkN}{v:AV}(h:yu x v):yu x (ro v):=by
 obtain⟨g,a,b,c,d,e,f,gw,gn,rfl⟩:=h
 refine⟨g,rk a,rk b,rk c,rk d,rk e,rk f,gw,gn,?_⟩
 simp[wA]
theorem ZG{x:SkN}{v:AV}(hv:yu x v)(w:x.W)(hp:Hp):run cxX 37 [v] hp=some (.sc (.int .i64 (yA x)),hp):=by
 obtain⟨g,a,b,c,d,e,f,gw,gn,rfl⟩:=hv
 obtain⟨o,ho,hr⟩:=qm2 (zI gw gn (rk a) (rk b) (rk c) (rk d) (rk e) (rk f)) hp0
 have sm:=qm1 (zI gw gn (rk a) (rk b) (rk c) (rk d) (rk e) (rk f)) ho.ro w (zfo w) hp0
 have vo:=ho.vl
 have vo':=ho.ro.vl
 have hnt:Zs o=some ():=by
  obtain⟨g,a,b,c,d,e,f,gw,gn,rfl⟩:=ho
  rfl
 have hrr:AI.ro (AI.ro o)=AI.ro o:=by
  obtain⟨g,a,b,c,d,e,f,gw,gn,rfl⟩:=ho
  simp[wA]
 have r1:=fun k hp=>qm4 x.set k hp
 have r2:=fun k hp=>qna x.K x.hs k (by have:=w.hsL;omega) hp
 have r3:=fun k hp=>qnc x.P x.rg k (by have:=w.rgL;omega) w.rg hp
 have r4:=fun k hp=>qcs x.B x.H x.bs k (by have:=w.bsL;omega) w.bs hp
 have r5:=fun k hp=>Wo x.R x.C x.cs k (by have:=w.csL;omega) hp
 have r6:=fun k hp=>qnf x.gK g k gw hp
 rw[gn]at r6
 rw[E37]
 unfold yA
 unfold wA at hr sm⊢
 by_cases h6:6<=x.kind
 ·simp[ql,h6]
 ·rw[if_neg h6]
  by_cases ho':x=jn x
  ·rw[if_neg (fun h=>h ho')]
   simp only[eq_true ho',decide_true]at sm
   by_cases h0:x.kind=0
   ·simp only[h0]at hr sm
    simp[ql,qs,qp,h6,hr,vo,vo',hnt,sm,h0,r1]
   ·by_cases h1:x.kind=1
    ·simp only[h1]at hr sm
     simp[ql,qs,qp,h6,hr,vo,vo',hnt,sm,h1,r2]
    ·by_cases h2:x.kind=2
     ·simp only[h2]at hr sm
      simp[ql,qs,qp,h6,hr,vo,vo',hnt,sm,h2,r3]
     ·by_cases h3:x.kind=3
      ·simp only[h3]at hr sm
       simp[ql,qs,qp,h6,hr,vo,vo',hnt,sm,h3,r4]
      ·by_cases h4:x.kind=4
       ·simp only[h4]at hr sm
        simp[ql,qs,qp,h6,hr,vo,vo',hnt,sm,h4,r5]
       ·simp[ql,qs,qp,h6,hr,vo,vo',hnt,sm,h0,h1,h2,h3,h4,r6]
  ·rw[if_pos ho']
   simp only[eq_false ho',decide_false]at sm
   simp[ql,qs,qp,h6,hr,vo,vo',hnt,sm]
def jT(x y:SkN):Bool:=decide (x.kind=y.kind)&&(if x.kind=1 then decide (x.K=y.K)else if x.kind=2 then decide (x.P=y.P)else if x.kind=3 then decide (x.B=y.B)&&decide (x.H=y.H)else if x.kind=4 then decide (x.R=y.R)&&decide (x.C=y.C)else if x.kind=5 then decide (x.gK=y.gK)else true)
theorem qm3{x y:SkN}{v u:AV}(hv:yu x v)(hu:yu y u)(hp:Hp):run cxX 22 [v,u] hp=some (.sc (.bool (jT x y)),hp):=by
 obtain⟨g,a,b,c,d,e,f,gw,gn,rfl⟩:=hv
 obtain⟨g',a',b',c',d',e',f',gw',gn',rfl⟩:=hu
 rw[E22]
 unfold jT wA
 by_cases h1:x.kind=y.kind
 ·by_cases k1:x.kind=1
  ·simp[ql,<-h1,k1]
  ·by_cases k2:x.kind=2
   ·simp[ql,<-h1,k2]
   ·by_cases k3:x.kind=3
    ·by_cases q:x.B=y.B
     ·simp[ql,<-h1,k3,q]
     ·simp[ql,<-h1,k3,q]
    ·by_cases k4:x.kind=4
     ·by_cases q:x.R=y.R
      ·simp[ql,<-h1,k4,q]
      ·simp[ql,<-h1,k4,q]
     ·by_cases k5:x.kind=5
      ·simp[ql,<-h1,k5]
      ·simp[ql,<-h1,k1,k2,k3,k4,k5]
 ·simp[ql,h1]
theorem Kx{B:Int}:∀(l:List Int) (p:Option Int),Kz B p l=0->(match p with|none=>jP l|some q=>jP (q::l))/\∀n∈l,n<B
 |[],none,_=>⟨List.Pairwise.nil,qg⟩
 |[],some q,_=>⟨qg,qg⟩
 |x::l,p,h=>by
  unfold Kz at h
  split at h
  ·cases h
  ·rename_i h1
   split at h
   ·have ih:=Kx l (some x) h
    refine⟨ih.1,fun n hn=>?_⟩
    rcases zne.mp hn with rfl|hn
    ·omega
    ·exact ih.2 n hn
   ·split at h
    ·cases h
    ·rename_i q h2
     have ih:=Kx l (some x) h
     refine⟨?_,fun n hn=>?_⟩
     ·have hr:jP (x::l):=ih.1
      refine znh.mpr ⟨fun n hn=>?_,hr⟩
      rcases zne.mp hn with rfl|hn
      ·omega
      ·have:=(znh.mp hr).1 n hn;omega
     ·rcases zne.mp hn with rfl|hn
      ·omega
      ·exact ih.2 n hn
theorem yT{B H:Int}{l:List Int}(h:qaz B H l=0)(hl:kr l):(1<=B/\B<=4096)/\(1<=H/\H<=8)/\kN B l:=by
 unfold qaz at h
 split at h
 ·cases h
 ·have c:=Kx l none h
  exact⟨qe,qe,c.1,fun n hn=>⟨(hl n hn).1,c.2 n hn⟩⟩
theorem xy{l:List Int}:qh9 l=0↔l.length<=4096/\jP l:=by
 unfold qh9
 constructor
 ·intro h
  split at h
  ·cases h
  ·exact⟨qe,qcv h⟩
 ·rintro⟨h1,h2⟩
  rw[if_neg qe];exact Kf h2
theorem qc3:∀{l:List Int},jP l->Yp l=0
 |[],_=>rfl
 |[_],_=>rfl
 |x::y::r,h=>by
  have h':=znh.mp h
  have hxy:=h'.1 y qg
  show(if y<=x then 8 else Yp (y::r))=0
  rw[if_neg qe]
  exact qc3 h'.2
theorem qcw:∀{l:List Int},Yp l=0->jP l
 |[],_=>List.Pairwise.nil
 |[_],_=>by simp
 |x::y::r,h=>by
  have h:(if y<=x then 8 else Yp (y::r))=0:=h
  split at h
  ·cases h
  ·rename_i hxy
   have ih:=qcw h
   have ih':=znh.mp ih
   refine znh.mpr ⟨fun n hn=>?_,ih⟩
   rcases zne.mp hn with rfl|hn
   ·omega
   ·have:=ih'.1 n hn;omega
theorem yY{K:Int}{l:List Int}:qub K l=0↔(1<=K/\K<=1024)/\(l.length:Int)<=K/\jP l:=by
 unfold qub
 constructor
 ·intro h
  split at h
  ·cases h
  ·split at h
   ·cases h
   ·exact⟨qe,qe,qcw h⟩
 ·rintro⟨h1,h2,h3⟩
  rw[if_neg qe,if_neg qe];exact qc3 h3
theorem xF{P:Int}{l:List Int}:que P l=0↔(4<=P/\P<=8)/\l.length=jU P/\∀n∈l,n<=65-P:=by
 unfold que Vf
 constructor
 ·intro h
  split at h
  ·cases h
  ·split at h
   ·cases h
   ·split at h
    ·cases h
    ·rename_i h1 h2 h3
     exact⟨qe,by simpa using h2,fun n hn=>by
      by_cases hlt:65-P<n
      ·exact absurd ⟨n,hn,hlt⟩ h3
      ·omega⟩
 ·rintro⟨h1,h2,h3⟩
  rw[if_neg qe,if_neg (by simpa using h2),if_neg]
  rintro⟨n,hn,hlt⟩
  have:=h3 n hn
  omega
theorem kq{R C:Int}{l:List Int}:JX R C l=0↔(1<=R/\R<=8)/\(1<=C/\C<=256)/\(l.length:Int)=R*C:=by
 unfold JX
 constructor
 ·intro h
  split at h
  ·cases h
  ·split at h
   ·cases h
   ·rename_i h1 h2
    exact⟨qe,qe,by simpa using h2⟩
 ·rintro⟨h1,h2,h3⟩
  rw[if_neg qe,if_neg (by simpa using h3)]
theorem qJ{x:SkN}:yA x=0↔x.kind<6/\x=jn x/\(if x.kind=0 then qh9 x.set else if x.kind=1 then qub x.K x.hs else if x.kind=2 then que x.P x.rg else if x.kind=3 then qaz x.B x.H x.bs else if x.kind=4 then JX x.R x.C x.cs else JW x.gK x.g)=0:=by
 unfold yA
 constructor
 ·intro h
  split at h
  ·cases h
  ·split at h
   ·cases h
   ·rename_i h1 h2
    exact⟨qe,by simpa using h2,h⟩
 ·rintro⟨h1,h2,h3⟩
  rw[if_neg qe,if_neg (by simpa using h2)];exact h3
def qx(x y:SkN):SkN:=
 if x.kind=0 then{skZ with kind:=x.kind,set:=mrg x.set y.set}
 else if x.kind=1 then{skZ with kind:=x.kind,K:=x.K,hs:=(mrg x.hs y.hs).take x.K.toNat}
 else if x.kind=2 then{skZ with kind:=x.kind,P:=x.P,rg:=yD x.rg y.rg}
 else if x.kind=3 then{skZ with kind:=x.kind,B:=x.B,H:=x.H,bs:=mrg x.bs y.bs}
 else if x.kind=4 then{skZ with kind:=x.kind,R:=x.R,C:=x.C,cs:=jY x.cs y.cs}
 else if x.kind=5 then{skZ with kind:=x.kind,gK:=x.gK,g:=kG x.gK x.g y.g}
 else{skZ with kind:=x.kind}
def okN(o:SkN):SkN×Int:=if yA o=0 then(o,0)else(skZ,yA o)
def yl(x y:SkN):SkN×Int:=if yA x≠0 then(skZ,yA x)else if yA y≠0 then(skZ,yA y)else if jT x y=false then(skZ,13)else okN (qx x y)
structure SkN.W2 (x : SkN) : Prop extends x.W where
 set2:x.set.length<=50000
 hs2:x.hs.length<=50000
 bs2:x.bs.length<=50000
 gK2:x.kind=5->x.gK<=100000
theorem wJ{a b:List Int}(ha:kr a)(hb:kr b):kr (mrg a b):=fun n hn=>((ye n a b).mp hn).elim (ha n) (hb n)
theorem qq3:∀{a b:List Int},(∀n∈a,0<=n/\n<256)->(∀n∈b,0<=n/\n<256)->∀n∈yD a b,0<=n/\n<256
 |[],_,_,_=>by simp[yD]
 |x::a,[],ha,_=>by simpa[yD]using ha
 |x::a,y::b,ha,hb=>by
  have ih:=qq3 (a:=a) (b:=b) (fun n hn=>ha n (by simp[hn])) (fun n hn=>hb n (by simp[hn]))
  intro n hn
  rcases zne.mp hn with rfl|hn
  ·have h1:=ha x qg;have h2:=hb y qg;omega
  ·exact ih n hn
theorem qt0{x y:SkN}(hx:x.W2)(hy:y.W2):(qx x y).W:=by
 have z:=qp3
 have l1:=vb x.set y.set
 have l2:=vb x.hs y.hs
 have l3:=vb x.bs y.bs
 have a1:=hx.set2;have a2:=hy.set2;have a3:=hx.hs2;have a4:=hy.hs2;have a5:=hx.bs2;have a6:=hy.bs2
 unfold qx
 repeat' split
 ·exact⟨hx.kind,wJ hx.set hy.set,by show(mrg x.set y.set).length<=_;omega,z.hsL,z.rg,z.rgL,z.bs,z.bsL,z.cs,z.csL⟩
 ·exact⟨hx.kind,z.set,z.setL,by show((mrg x.hs y.hs).take x.K.toNat).length<=_;rw[zn8];omega,z.rg,z.rgL,z.bs,z.bsL,z.cs,z.csL⟩
 ·exact⟨hx.kind,z.set,z.setL,z.hsL,qq3 hx.rg hy.rg,by show(yD x.rg y.rg).length<=_;rw[Xi];exact hx.rgL,z.bs,z.bsL,z.cs,z.csL⟩
 ·exact⟨hx.kind,z.set,z.setL,z.hsL,z.rg,z.rgL,wJ hx.bs hy.bs,by show(mrg x.bs y.bs).length<=_;omega,z.cs,z.csL⟩
 ·exact⟨hx.kind,z.set,z.setL,z.hsL,z.rg,z.rgL,z.bs,z.bsL,qal hx.cs hy.cs,by show(jY x.cs y.cs).length<=_;rw[Jb];exact hx.csL⟩
 ·exact⟨hx.kind,z.set,z.setL,z.hsL,z.rg,z.rgL,z.bs,z.bsL,z.cs,z.csL⟩
 ·exact⟨hx.kind,z.set,z.setL,z.hsL,z.rg,z.rgL,z.bs,z.bsL,z.cs,z.csL⟩
def Qe(x:SkN)(g:Gs)(a b c d e f:Nat):List AV:=[.sc (.int .u8 x.kind),S a 1 (LI .u32 x.set),.sc (.int .i64 x.K),S b 1 (LI .u64 x.hs),.sc (.int .i64 x.P),S c 1 (LI .u8 x.rg),.sc (.int .i64 x.B),.sc (.int .i64 x.H),S d 1 (LI .u32 x.bs),.sc (.int .i64 x.R),.sc (.int .i64 x.C),S e 1 (LI .u32 x.cs),
 .sc (.int .i64 x.gK),.sc (.int .u32 g.M),.sc (.int .u32 g.e0),.sc (.int .u32 g.e1),.sc (.int .u32 g.e2),.sc (.int .u32 g.e3),.sc (.int .u32 g.e4),.sc (.int .u32 g.e5),fl g.lo,fl g.hi,S f 1 (LF g.L)]
def xt:List AV:=[.sc (.int .u8 0),.sc (.slice none 0 0),.sc (.int .i64 0),.sc (.slice none 0 0),.sc (.int .i64 0),.sc (.slice none 0 0),.sc (.int .i64 0),.sc (.int .i64 0),.sc (.slice none 0 0),.sc (.int .i64 0),.sc (.int .i64 0),.sc (.slice none 0 0),.sc (.int .i64 0),.sc (.int .u32 0),.sc (.int .u32 0),.sc (.int .u32 0),.sc (.int .u32 0),.sc (.int .u32 0),.sc (.int .u32 0),.sc (.int .u32 0),fl 0,fl 0,.sc (.slice none 0 0)]
theorem JG:yu skZ (.agg xt):=⟨gz,2,2,2,2,2,2,vM,rfl,rfl⟩
noncomputable def je(x:SkN)(h:Int):SkN:=
 if x.kind=0 then{x with set:=mrg x.set [h%4294967296]}
 else if x.kind=1 then{x with hs:=(mrg x.hs [h]).take x.K.toNat}
 else if x.kind=2 then{x with rg:=kS x.P x.rg h}
 else if x.kind=3 then{x with bs:=Ji x.bs (plg x.B x.H h)}
 else if x.kind=4 then{x with cs:=vg x.R x.C h 1 x.cs}
 else x
noncomputable def qyi(x:SkN)(h:Int):SkN×Int:=if yA x≠0 then(skZ,yA x)else okN (je x h)
theorem QP{o:SkN}(w:o.W)(g:Gs)(gw:g.W)(gn:g.nf=o.g)(a b c d e f:Nat)(hp:Hp):∃r,yu (okN o).1 r/\B18_16 xt (Qe o g a b c d e f) hp=some (.tup [r,.sc (.int .i64 (okN o).2)],hp):=by
 have ck:=ZG (zI gw gn (rk a) (rk b) (rk c) (rk d) (rk e) (rk f)) w hp0
 unfold okN
 rw[qwe]
 by_cases h:yA o=0
 ·rw[if_pos h]
  refine⟨wA o g a b c d e f,zI gw gn a b c d e f,?_⟩
  rw[h]at ck
  unfold wA at ck⊢
  unfold Qe xt
  simp[qp,qo,ck]
 ·rw[if_neg h]
  refine⟨.agg xt,JG,?_⟩
  unfold wA at ck
  unfold Qe xt
  simp[qp,qo,ck,h]
theorem qhf{P:Int}{l:List Int}{h:Int}(hP:4<=P/\P<=8)(hl:∀n∈l,0<=n/\n<256):∀n∈kS P l h,0<=n/\n<256:=by
 unfold kS
 split
 ·rename_i hi
  intro n hn
  rcases zp3 hn with hn|rfl
  ·exact hl n hn
  ·have h1:=qhd (h:=h) hP
   have h2:=hl l[yS P h] (znr hi)
   have e:l.getD (yS P h) 0=l[yS P h]:=by simp[hi]
   rw[e];omega
 ·exact hl
theorem qcc{x:SkN}{v:AV}(hv:yu x v)(hx:x.W2)(h:Int)(hh:0<=h/\h<18446744073709551616)(hp:Hp):∃r hp',yu (qyi x h).1 r/\run cxX 18 [v,.sc (.int .u64 h)] hp=some (.tup [r,.sc (.int .i64 (qyi x h).2)],hp'):=by
 obtain⟨g,a,b,c,d,e,f,gw,gn,rfl⟩:=hv
 have ck:=ZG (zI gw gn (rk a) (rk b) (rk c) (rk d) (rk e) (rk f)) hx.toW hp0
 unfold qyi
 rw[E18]
 by_cases h1:yA x=0
 ·rw[if_neg (by simpa using h1)]
  obtain⟨kd,on,sp⟩:=qJ.mp h1
  have w:=hx.toW
  have a1:=hx.set2;have a3:=hx.hs2
  have hw:IntKind.u32.wrap h=h%4294967296:=by rw[IntKind.wrap_u32]
  have hm:0<=h%4294967296/\h%4294967296<4294967296:=qe
  rw[h1]at ck
  unfold wA at ck⊢
  unfold je
  by_cases k0:x.kind=0
  ·rw[if_pos k0]
   have W:SkN.W {x with set:=mrg x.set [h%4294967296]}:=⟨w.kind,wJ w.set (by intro n hn;simp at hn;subst hn;exact hm),by have:=vb x.set [h%4294967296];simp at this;show(mrg x.set [h%4294967296]).length<=_;omega,w.hsL,w.rg,w.rgL,w.bs,w.bsL,w.cs,w.csL⟩
   obtain⟨r,hr,ef⟩:=QP W g gw gn 2 (rk b) (rk c) (rk d) (rk e) (rk f) hp
   refine⟨r,hp,hr,?_⟩
   revert ef
   generalize(okN _).2=er
   intro ef
   have q:=fun k k' hp=>zim x.set [h%4294967296] k k' hp qi
   unfold Qe xt at ef
   simp only[k0]at ck ef⊢
   simp[LI]at ef q
   simp[ql,qs,qp,qo,ck,hw,q,ef]
   simp[LI]at ck⊢
   simp[LI,q,ef,ck]
  ·rw[if_neg k0]at sp⊢
   by_cases k1:x.kind=1
   ·rw[if_pos k1]
    have W:SkN.W {x with hs:=(mrg x.hs [h]).take x.K.toNat}:=⟨w.kind,w.set,w.setL,by have:=vb x.hs [h];simp at this;show((mrg x.hs [h]).take x.K.toNat).length<=_;rw[zn8];omega,w.rg,w.rgL,w.bs,w.bsL,w.cs,w.csL⟩
    obtain⟨r,hr,ef⟩:=QP W g gw gn (rk a) 2 (rk c) (rk d) (rk e) (rk f) hp
    refine⟨r,hp,hr,?_⟩
    revert ef
    generalize(okN _).2=er
    intro ef
    have q:=fun k hp=>qir x.K x.hs h k hp qe
    unfold Qe xt at ef
    simp only[k1]at ck ef⊢
    simp at ef
    simp[ql,qs,qp,qo,ck,q,ef]
   ·rw[if_neg k1]at sp⊢
    by_cases k2:x.kind=2
    ·rw[if_pos k2]at sp⊢
     obtain⟨hP,hl,_⟩:=xF.mp sp
     have W:SkN.W {x with rg:=kS x.P x.rg h}:=⟨w.kind,w.set,w.setL,w.hsL,qhf hP w.rg,by show(kS x.P x.rg h).length<=_;rw[ZW];exact w.rgL,w.bs,w.bsL,w.cs,w.csL⟩
     obtain⟨t,hp1,q⟩:=qiv x.P x.rg (rk c) h hP hh (by have:=w.rgL;omega) hp0
     obtain⟨r,hr,ef⟩:=QP W g gw gn (rk a) (rk b) t (rk d) (rk e) (rk f) hp
     refine⟨r,hp,hr,?_⟩
     revert ef
     generalize(okN _).2=er
     intro ef
     unfold Qe xt at ef
     simp only[k2]at ck ef⊢
     simp at ef
     simp[ql,qs,qp,qo,ck,q,ef]
    ·rw[if_neg k2]at sp⊢
     by_cases k3:x.kind=3
     ·rw[if_pos k3]at sp⊢
      obtain⟨hB,hH,hg⟩:=yT sp w.bs
      have hga:=QD hg (WC (H:=x.H) (h:=h) hB.1)
      have W:SkN.W {x with bs:=Ji x.bs (plg x.B x.H h)}:=⟨w.kind,w.set,w.setL,w.hsL,w.rg,w.rgL,hga.in32 hB.2,by have:=hga.len hB.2;show(Ji x.bs (plg x.B x.H h)).length<=_;omega,w.cs,w.csL⟩
      obtain⟨r,hr,ef⟩:=QP W g gw gn (rk a) (rk b) (rk c) 2 (rk e) (rk f) hp
      refine⟨r,hp,hr,?_⟩
      revert ef
      generalize(okN _).2=er
      intro ef
      have q:=fun k hp=>qqd x.B x.H x.bs k h hB hH hg hp
      unfold Qe xt at ef
      simp only[k3]at ck ef⊢
      simp at ef
      simp[ql,qs,qp,qo,ck,q,ef]
     ·rw[if_neg k3]at sp⊢
      by_cases k4:x.kind=4
      ·rw[if_pos k4]at sp⊢
       have W:SkN.W {x with cs:=vg x.R x.C h 1 x.cs}:=⟨w.kind,w.set,w.setL,w.hsL,w.rg,w.rgL,w.bs,w.bsL,Jd qe w.cs,by show(vg x.R x.C h 1 x.cs).length<=_;rw[Qv];exact w.csL⟩
       first
        |(obtain⟨t,hp1,q⟩:=Wp x.R x.C h 1 x.cs (rk e) qe (by have:=w.csL;omega) w.cs hp0
          obtain⟨r,hr,ef⟩:=QP W g gw gn (rk a) (rk b) (rk c) (rk d) t (rk f) hp
          refine⟨r,hp,hr,?_⟩
          revert ef
          generalize(okN _).2=er
          intro ef
          unfold Qe xt at ef
          simp only[k4]at ck ef⊢
          simp at ef
          simp[ql,qs,qp,qo,ck,q,ef]
          done)
        |(obtain⟨t,hp1,q⟩:=Wp x.R x.C h 1 x.cs (rk e) qe (by have:=w.csL;omega) w.cs hp
          obtain⟨r,hr,ef⟩:=QP W g gw gn (rk a) (rk b) (rk c) (rk d) t (rk f) hp1
          refine⟨r,hp1,hr,?_⟩
          revert ef
          generalize(okN _).2=er
          intro ef
          unfold Qe xt at ef
          simp only[k4]at ck ef⊢
          simp at ef
          simp[ql,qs,qp,qo,ck,q,ef]
          done)
      ·rw[if_neg k4]
       obtain⟨r,hr,ef⟩:=QP w g gw gn (rk a) (rk b) (rk c) (rk d) (rk e) (rk f) hp
       refine⟨r,hp,hr,?_⟩
       revert ef
       generalize(okN _).2=er
       intro ef
       unfold Qe xt at ef
       simp at ef
       simp[ql,qs,qp,qo,ck,k0,k1,k2,k3,k4,ef]
 ·rw[if_pos h1]
  refine⟨.agg xt,hp,JG,?_⟩
  unfold wA at ck⊢
  unfold xt
  simp[qp,qo,ck,h1]
end Go.Proofs.YtmajcennjgjlnaaGreat.AI
