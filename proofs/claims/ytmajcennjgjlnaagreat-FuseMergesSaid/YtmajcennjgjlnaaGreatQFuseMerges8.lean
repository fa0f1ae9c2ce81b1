/- Texts that the proof of FuseMerges rests on, part 8. -/
import Derived.Test.YtmajcennjgjlnaaGreatQFuseMerges4
import Derived.Test.YtmajcennjgjlnaaGreatQFuseMerges5
import Derived.Test.YtmajcennjgjlnaaGreatQFuseMerges6
import Derived.Test.YtmajcennjgjlnaaGreatQFuseMerges7
namespace Go.Proofs.YtmajcennjgjlnaaGreat.AI
open Go
set_option linter.unusedVariables false
set_option linter.unusedSimpArgs false
set_option maxRecDepth 100000
set_option maxHeartbeats 0
noncomputable def zic:Value:=.string ⟨#[0,1,2,2,3,3,3,3,4,4,4,4,4,4,4,4,5,5,5,5,5,5,5,5,5,5,5,5,5,5,5,5,6,6,6,6,6,6,6,6,6,6,6,6,6,6,6,6,6,6,6,6,6,6,6,6,6,6,6,6,6,6,6,6,7,7,7,7,7,7,7,7,7,7,7,7,7,7,7,7,7,7,7,7,7,7,7,7,7,7,7,7,7,7,7,7,7,7,7,7,7,7,7,7,7,7,7,7,7,7,7,7,7,7,7,7,7,7,7,7,7,7,7,7,7,7,7,7,8,8,8,8,8,8,8,8,8,8,8,8,8,8,8,8,8,8,8,8,8,8,8,8,8,8,8,8,8,8,8,8,8,8,8,8,8,8,8,8,8,8,8,8,8,8,8,8,8,8,8,8,8,8,8,8,8,8,8,8,8,8,8,8,8,8,8,8,8,8,8,8,8,8,8,8,8,8,8,8,8,8,8,8,8,8,8,8,8,8,8,8,8,8,8,8,8,8,8,8,8,8,8,8,8,8,8,8,8,8,8,8,8,8,8,8,8,8,8,8,8,8,8,8,8,8,8,8]⟩
theorem zdp(v0 v2:Value)(hp:Hp):B188_10 v0 v2 hp=(Kh Tryz.prog 62 5 v0).bind fun y12=>(ixV Tryz.prog 9 zic y12).bind fun y13=>(Kh Tryz.prog 5 3 y13).bind fun y14=>(qx Tryz.prog .add 3 (.tmp 19) (.tmp 23) v2 y14).bind fun y15=>some (.sc y15,hp):=
 (qpg _ _ _).trans qf
noncomputable def zha(x:Nat):Bool:=
 match ixV Tryz.prog 9 zic (.int .u8 (x:Int))with
 |some (.int .u8 (.ofNat n))=>decide (n<=8)&&decide (x<2^n)&&(decide (n=0)||decide (2^(n-1)<=x))
 |_=>false
theorem zd0:(List.range 256).all zha=true:=qf
theorem zib(x:Nat)(h:x<256):∃n:Nat,n<=8/\Bl x n/\ixV Tryz.prog 9 zic (.int .u8 (x:Int))=some (.int .u8 (n:Int)):=by
 have hx:=zn8.mp zd0 x (zq0.mpr h)
 unfold zha at hx
 split at hx
 ·rename_i n e
  simp only[zow,zqg,decide_eq_true_eq]at hx
  exact⟨n,hx.1.1,⟨hx.1.2,hx.2⟩,e⟩
 ·cases hx
theorem cv8(n:Int):Kh Tryz.prog 5 3 (.int .u8 n)=some (.int .i64 (IntKind.i64.wrap n)):=jV n
theorem zdt(n:Nat)(h:n<1000000):IntKind.i64.wrap (n:Int)=n:=qm qe qe
theorem zhn(x v:Nat)(h:x<256)(hv:v<=100):∃n,n<=8/\Bl x n/\∀hp,B188_10 (.int .u64 (x:Int)) (.int .i64 (v:Int)) hp=some (.sc (.int .i64 ((n+v:Nat):Int)),hp):=by
 obtain⟨n,h1,h2,h3⟩:=zib x h
 refine⟨n,h1,h2,fun hp=>?_⟩
 have w:IntKind.u8.wrap (x:Int)=x:=zA qe qe
 have w2:IntKind.i64.wrap (n:Int)=n:=zdt n qe
 have w3:IntKind.i64.wrap ((v:Int)+(n:Int))=((n+v:Nat):Int):=qj
 rw[zdp]
 simp[Xn,w,h3,cv8,w2,w3]
theorem Je(x k:Nat)(hk:k<=64)(o o':Operand)(K:IntKind):qx Tryz.prog .shr 62 o o' (.int .u64 (x:Int)) (.int K (k:Int))=some (.int .u64 ((x/2^k:Nat):Int)):=by
 rw[jL _ _ _ _ _ _ _ _ qe]
 have e:min ((k:Int)).toNat IntKind.u64.bits=k:=by
  have:IntKind.u64.bits=64:=rfl
  rw[this];omega
 rw[e,zon _ (by exact_mod_cast znw (2^k))]
 congr 2
theorem len7(x v:Nat)(h:x<65536)(hv:v<=90):∃n,n<=16/\Bl x n/\∀hp,B188_7 (.int .u64 (x:Int)) (.int .i64 (v:Int)) hp=some (.sc (.int .i64 ((n+v:Nat):Int)),hp):=by
 by_cases hx:256<=x
 ·obtain⟨n,h1,h2,h3⟩:=zhn (x/2^8) (v+8) qe qe
  refine⟨n+8,qe,h2.up qe,fun hp=>?_⟩
  have s:=Je x 8 qe (.tmp 15) (.const (.int .u64 8)) .u64
  have c:(256:Int)<=(x:Int):=qe
  have w:IntKind.i64.wrap ((v:Int)+8)=((v+8:Nat):Int):=qj
  have e:n+(v+8)=n+8+v:=qe
  rw[e]at h3
  rw[qeb]
  simp at s w h3
  simp[c,s,w,h3]
 ·obtain⟨n,h1,h2,h3⟩:=zhn x v qe qe
  refine⟨n,qe,h2,fun hp=>?_⟩
  have c:¬((256:Int)<=(x:Int)):=qe
  rw[qeb]
  simp at h3
  simp[c,h3]
theorem len4(x v:Nat)(h:x<4294967296)(hv:v<=70):∃n,n<=32/\Bl x n/\∀hp,B188_4 (.int .u64 (x:Int)) (.int .i64 (v:Int)) hp=some (.sc (.int .i64 ((n+v:Nat):Int)),hp):=by
 by_cases hx:65536<=x
 ·obtain⟨n,h1,h2,h3⟩:=len7 (x/2^16) (v+16) qe qe
  refine⟨n+16,qe,h2.up qe,fun hp=>?_⟩
  have s:=Je x 16 qe (.tmp 9) (.const (.int .u64 16)) .u64
  have c:(65536:Int)<=(x:Int):=qe
  have w:IntKind.i64.wrap ((v:Int)+16)=((v+16:Nat):Int):=qj
  have e:n+(v+16)=n+16+v:=qe
  rw[e]at h3
  rw[qec]
  simp at s w h3
  simp[c,s,w,h3]
 ·obtain⟨n,h1,h2,h3⟩:=len7 x v qe qe
  refine⟨n,qe,h2,fun hp=>?_⟩
  have c:¬((65536:Int)<=(x:Int)):=qe
  rw[qec]
  simp at h3
  simp[c,h3]
theorem qsj(x:Nat)(h:x<18446744073709551616):∃n,n<=64/\Bl x n/\∀hp,run cxX 188 [.sc (.int .u64 (x:Int))] hp=some (.sc (.int .i64 (n:Int)),hp):=by
 by_cases hx:4294967296<=x
 ·obtain⟨n,h1,h2,h3⟩:=len4 (x/2^32) 32 qe qe
  refine⟨n+32,qe,h2.up qe,fun hp=>?_⟩
  have s:=Je x 32 qe (.tmp 5) (.const (.int .u64 32)) .u64
  have c:(4294967296:Int)<=(x:Int):=qe
  rw[E188]
  simp at s h3
  simp[c,s,h3]
 ·obtain⟨n,h1,h2,h3⟩:=len4 x 0 qe qe
  refine⟨n,qe,h2,fun hp=>?_⟩
  have c:¬((4294967296:Int)<=(x:Int)):=qe
  rw[E188]
  simp at h3
  simp[c,h3]
theorem or_zero(x:Nat)(h:x<18446744073709551616)(o o':Operand):qx Tryz.prog .or 62 o o' (.int .u64 (x:Int)) (.int .u64 ((0:Nat):Int))=some (.int .u64 (x:Int)):=by
 rw[zS]
 have e:(BitVec.ofInt 64 (x:Int)|||BitVec.ofInt 64 ((0:Nat):Int)).toNat=x:=by
  rw[zpp,znt,znt]
  have e1:(((x:Int)%((2^64:Nat):Int)).toNat)=x:=qe
  have e2:((((0:Nat):Int)%((2^64:Nat):Int)).toNat)=0:=qh
  rw[e1,e2,Nat.or_zero]
 show some (Value.int .u64 (IntKind.u64.wrap ((BitVec.ofInt 64 (x:Int)|||BitVec.ofInt 64 ((0:Nat):Int)).toNat:Nat)))=_
 rw[e,qu qe qe]
theorem wnat(n:Nat)(h:n<18446744073709551616):IntKind.u64.wrap (n:Int)=n:=qu qe qe
theorem YT(x y:Nat)(hy:0<y)(h:x<18446744073709551616)(o o':Operand):qx Tryz.prog .quo 62 o o' (.int .u64 (x:Int)) (.int .u64 (y:Int))=some (.int .u64 ((x/y:Nat):Int)):=by
 rw[yB _ _ _ _ _ _ _ qe,zod qe,<-Int.natCast_ediv]
 rw[wnat _ (zor (zpj x y) h)]
theorem Vn(x y:Nat)(hy:0<y)(o o':Operand):qx Tryz.prog .rem 62 o o' (.int .u64 (x:Int)) (.int .u64 (y:Int))=some (.int .u64 ((x%y:Nat):Int)):=by
 rw[zq _ _ _ _ _ _ _ qe,zo qe,<-Int.natCast_emod]
section
variable {B:Nat}(hB:B=4294967296)
include hB
end
@[simp] theorem zl1(b g o:Nat):YW (.ptr b g o)=some false:=rfl
@[simp] theorem zl2:YW (.sc (.pointer none))=some true:=rfl
@[simp] theorem zfp(b g o:Nat):ZE (.ptr b g o)=some ():=rfl
@[simp] theorem vO(b g o:Nat):qZ (.ptr b g o)=some (b,g,o):=rfl
@[simp] theorem zio(b g o:Nat):ro (.ptr b g o)= .ptr b g o:=rfl
@[simp] theorem zmx(b g o:Nat):ro1 (.ptr b g o)= .ptr b g o:=rfl
@[simp] theorem zkz(b g o:Nat):Zl (.ptr b g o)=some ():=rfl
theorem qB(hp:Hp)(b:Nat)(x y:List AV):(hp.put b 0 x).put b 0 y=hp.put b 0 y:=by
 unfold Hp.put
 congr 1
 funext z
 by_cases e:z=b
 ·simp[e]
 ·simp[e]
theorem qgj(hp:Hp)(x y:List AV):(hp.new x).put hp.next 0 y=hp.new y:=by
 unfold Hp.put Hp.new
 congr 1
 funext z
 by_cases e:z=hp.next
 ·simp[e]
 ·simp[e]
theorem jk{hp:Hp}{b:Nat}{x:List AV}(h:hp.rd b 0=some x):hp.put b 0 x=hp:=by
 have hg:hp.get b=some (0,x):=by
  unfold Hp.rd at h
  obtain⟨p,hp1,h⟩:=bsm h
  split at h
  ·rename_i e
   cases h
   rw[hp1]
   obtain⟨p1,p2⟩:=p
   have:p1=0:=e.1
   subst this;rfl
  ·cases h
 obtain⟨n,g⟩:=hp
 unfold Hp.put
 congr 1
 funext z
 by_cases e:z=b
 ·subst e;simp only[if_true];exact hg.symm
 ·simp[e]
theorem qA(hp:Hp){b c:Nat}(x:List AV)(h:c≠b):(hp.put b 0 x).rd c 0=hp.rd c 0:=by
 simp[Hp.rd,Hp.put,h]
theorem zH(hp:Hp){c:Nat}(x:List AV)(h:c≠hp.next):(hp.new x).rd c 0=hp.rd c 0:=by
 simp[Hp.rd,Hp.new,h]
@[simp] theorem qjp(hp:Hp)(b:Nat)(x:List AV):(hp.put b 0 x).next=hp.next:=rfl
@[simp] theorem zl3(hp:Hp)(x:List AV):(hp.new x).next=hp.next+1:=rfl
abbrev Wc(l:List Int):List AV:=[S 2 1 (LI .u8 l)]
theorem Qc{x:Int}:IntKind.u8.wrap x=x%256:=by rw[IntKind.wrap_u8]
theorem jt(b:Nat)(l:List Int)(c:Int)(hl:l.length<=1000000)(hp:Hp)(h:hp.rd b 0=some (Wc l)):
 run cxX 110 [.ptr b 0 0,.sc (.int .u8 c)] hp=some (.tup [],hp.put b 0 (Wc (l++[c]))):=by
 have ap:=Qu .u8 l 2 (.inr rfl) 1 qh c hl
 rw[E110]
 simp[h,qs,ap,qr,qo,qB]
theorem Qf(b:Nat)(l m:List Int)(k:Nat)(hl:l.length+m.length<=1000000)(hp:Hp)(h:hp.rd b 0=some (Wc l)):
 run cxX 105 [.ptr b 0 0,S k 1 (LI .u8 m)] hp=some (.tup [],hp.put b 0 (Wc (l++m))):=by
 have ap:=fun k=>zcc .u8 l 2 (.inr rfl) 1 qh k m hl
 rw[E105]
 simp[h,qs,ap,qr,qo,qB]
theorem VS(b:Nat)(l:List Int)(hl:l.length<=1000000)(hp:Hp)(h:hp.rd b 0=some (Wc l)):
 run cxX 57 [.ptr b 0 0] hp=some (S 1 1 (LI .u8 l),hp):=by
 have ap:=fun k=>zcc .u8 [] 1 (.inl rfl) 1 qh k l (by simpa using hl)
 simp at ap
 rw[E57]
 simp[h,qs,ap]
theorem qzv:∀x:BitVec 8,(x|||128#8).toNat=x.toNat%128+128:=qh
theorem zlv(n:Nat)(t:TypeId)(x y:Operand):qx Tryz.prog .or t x y (.int .u8 ((n:Int)%256)) (.int .u8 128)=some (.int .u8 ((n%128+128:Nat):Int)):=by
 rw[zS]
 have e1:(BitVec.ofInt 8 ((n:Int)%256)).toNat=n%256:=by
  rw[znt]
  omega
 have e2:(BitVec.ofInt IntKind.u8.bits ((n:Int)%256)|||BitVec.ofInt IntKind.u8.bits 128).toNat=n%128+128:=by
  show(BitVec.ofInt 8 ((n:Int)%256)|||128#8).toNat=_
  rw[qzv,e1]
  omega
 rw[e2,zA qe qe]
theorem shr7(n:Nat)(t:TypeId)(x y:Operand):qx Tryz.prog .shr t x y (.int .u64 (n:Int)) (.int .u64 7)=some (.int .u64 ((n/128:Nat):Int)):=by
 rw[jL _ _ _ _ _ _ _ _ qe]
 congr 2
 rw[zon _ qh]
 show(n:Int)/128=_
 omega
theorem qmk(b:Nat):∀(n:Nat) (l:List Int) (hp:Hp),n<18446744073709551616->l.length+(uv n).length<=1000000->hp.rd b 0=some (Wc l)->
 B103_0 (.ptr b 0 0) (.int .u64 (n:Int)) hp=some (.tup [],hp.put b 0 (Wc (l++uv n))):=by
 intro n
 induction n using Nat.strongRecOn with
 |_ n ih=>
  intro l hp hn hl h
  rw[qxm]
  by_cases h1:n<128
  ·rw[KD h1]at hl⊢
   have hge:¬((n:Int)>=128):=qe
   have hge':¬((128:Int)<=(n:Int)):=qe
   have w:IntKind.u8.wrap (n:Int)=(n:Int):=zA qe qe
   have wb:=jt b l n (by simp at hl;omega) hp h
   simp[hge',w,wb]
  ·rw[VH h1]at hl⊢
   have hge:(128:Int)<=(n:Int):=qe
   have w:IntKind.u8.wrap (n:Int)=(n:Int)%256:=by rw[Qc]
   have wb:=jt b l ((n%128+128:Nat):Int) (by simp at hl;omega) hp h
   have o:=zlv n
   have s:=shr7 n
   have ih':=ih (n/128) qe (l++[((n%128+128:Nat):Int)]) (hp.put b 0 (Wc (l++[((n%128+128:Nat):Int)]))) qe (by simp at hl⊢;omega) (qr _ _ _)
   rw[qB]at ih'
   generalize((n%128+128:Nat):Int)=c at*
   generalize((n/128:Nat):Int)=d at*
   simp[hge,w,wb,o,s,ih',-zS]
theorem zY(b n:Nat)(l:List Int)(hn:n<18446744073709551616)(hl:l.length+(uv n).length<=1000000)(hp:Hp)(h:hp.rd b 0=some (Wc l)):
 run cxX 103 [.ptr b 0 0,.sc (.int .u64 (n:Int))] hp=some (.tup [],hp.put b 0 (Wc (l++uv n))):=by
 rw[E103]
 simp[qmk b n l hp hn hl h]
theorem xor_zero(x:Nat)(h:x<18446744073709551616)(t:TypeId)(a b:Operand):qx Tryz.prog .xor t a b (.int .u64 (x:Int)) (.int .u64 0)=some (.int .u64 (x:Int)):=by
 rw[xI]
 have e:(BitVec.ofInt IntKind.u64.bits (x:Int)^^^BitVec.ofInt IntKind.u64.bits 0).toNat=x:=by
  show(BitVec.ofInt 64 (x:Int)^^^0#64).toNat=x
  rw[BitVec.xor_zero,znt]
  omega
 rw[e,qu qe qe]
theorem qxp(x:Nat)(h:x<18446744073709551616)(t:TypeId)(a b:Operand):qx Tryz.prog .xor t a b (.int .u64 (x:Int)) (.int .u64 18446744073709551615)=some (.int .u64 ((18446744073709551615-x:Nat):Int)):=by
 rw[xI]
 have e:(BitVec.ofInt IntKind.u64.bits (x:Int)^^^BitVec.ofInt IntKind.u64.bits 18446744073709551615).toNat=18446744073709551615-x:=by
  have e1:BitVec.ofInt 64 18446744073709551615=BitVec.allOnes 64:=qh
  show(BitVec.ofInt 64 (x:Int)^^^BitVec.ofInt 64 18446744073709551615).toNat=_
  rw[e1,BitVec.xor_allOnes,BitVec.toNat_not,znt]
  omega
 rw[e,qu qe qe]
theorem qyc(b:Nat)(n:Int)(l:List Int)(hn:-9223372036854775808<=n/\n<9223372036854775808)(hl:l.length+(uv (zz n)).length<=1000000)(hp:Hp)(h:hp.rd b 0=some (Wc l)):
 run cxX 117 [.ptr b 0 0,.sc (.int .i64 n)] hp=some (.tup [],hp.put b 0 (Wc (l++uv (zz n)))):=by
 have wu:=zY b (zz n) l (qbv hn.1 hn.2) hl hp h
 rw[E117]
 by_cases h0:n<0
 ·have z:zz n=18446744073709551615-(2*n+18446744073709551616).toNat:=by unfold zz;rw[if_pos h0];omega
  have w1:IntKind.u64.wrap n=n+18446744073709551616:=by rw[IntKind.wrap_u64];omega
  have s1:∀t x y,qx Tryz.prog .shl t x y (.int .u64 (n+18446744073709551616)) (.int .u64 1)=some (.int .u64 (((2*n+18446744073709551616).toNat:Nat):Int)):=by
   intro t x y
   rw[zW _ _ _ _ _ _ _ _ qe]
   have e:(2:Int)^min (1:Int).toNat IntKind.u64.bits=2:=rfl
   rw[e,IntKind.wrap_u64]
   congr 2
   omega
  have s2:∀t x y,qx Tryz.prog .shr t x y (.int .i64 n) (.int .u64 63)=some (.int .i64 (-1)):=by
   intro t x y
   rw[jL _ _ _ _ _ _ _ _ qe]
   have e:(2:Int)^min (63:Int).toNat IntKind.i64.bits=9223372036854775808:=rfl
   rw[e,zon _ qe]
   congr 2
   omega
  have w2:IntKind.u64.wrap (-1)=18446744073709551615:=by rw[IntKind.wrap_u64];rfl
  have x1:=qxp (2*n+18446744073709551616).toNat qe
  rw[<-z]at x1
  generalize(2*n+18446744073709551616).toNat=X at*
  simp[w1,s1,s2,w2,x1,wu,-xI]
 ·have z:zz n=(2*n).toNat:=by unfold zz;rw[if_neg h0];omega
  have w1:IntKind.u64.wrap n=n:=qu qe qe
  have s1:∀t x y,qx Tryz.prog .shl t x y (.int .u64 n) (.int .u64 1)=some (.int .u64 ((zz n:Nat):Int)):=by
   intro t x y
   rw[zW _ _ _ _ _ _ _ _ qe]
   have e:(2:Int)^min (1:Int).toNat IntKind.u64.bits=2:=rfl
   rw[e,IntKind.wrap_u64,z]
   congr 2
   omega
  have s2:∀t x y,qx Tryz.prog .shr t x y (.int .i64 n) (.int .u64 63)=some (.int .i64 0):=by
   intro t x y
   rw[jL _ _ _ _ _ _ _ _ qe]
   have e:(2:Int)^min (63:Int).toNat IntKind.i64.bits=9223372036854775808:=rfl
   rw[e,zon _ qe]
   congr 2
   omega
  have w2:IntKind.u64.wrap 0=0:=rfl
  have x1:=xor_zero (zz n) (qbv hn.1 hn.2)
  simp[w1,s1,s2,w2,x1,wu,-xI]
abbrev Rc(k:Nat)(l:List Int)(p:Nat)(e:Int):List AV:=[S k 1 (LI .u8 l),.sc (.int .i64 (p:Int)),.sc (.int .i64 e)]
def rE(e f:Int):Int:=if e=0 then f else e
def rL(l:List Int)(p:Nat)(e:Int):Nat:=if e=0 then l.length-p else 0
theorem Jg(k:Nat)(l:List Int)(hp:Hp):run cxX 48 [S k 1 (LI .u8 l)] hp=some (.ptr hp.next 0 0,hp.new (Rc (rk k) l 0 0)):=by
 rw[E48]
 simp[qo]
 rfl
theorem zd2(k:Nat)(cs:List AV)(i h:Nat)(hih:i<=h)(hh:h<=cs.length)(hne:cs≠[]):
 jZ 1 (S k 1 cs) (some (.int .i64 (i:Int))) (some (.int .i64 (h:Int))) (some (.int .i64 (h:Int)))=some (S 0 1 ((cs.drop i).take (h-i))):=by
 have b1:zp 0 (cs.length:Int) (some (.int .i64 (h:Int))) cs.length=some h:=xY .i64 hh
 have b2:zp 0 (h:Int) (some (.int .i64 (h:Int))) cs.length=some h:=xY .i64 (zm8 h)
 have b3:zp 0 (h:Int) (some (.int .i64 (i:Int))) 0=some i:=xY .i64 hih
 rcases jp k 1 cs with e|e|⟨e,e'⟩
 ·rw[e]
  simp only[JL,jZ,if_true,b1,b2,b3,zm7,zoy]
  rfl
 ·rw[e]
  simp only[JL,jZ,if_true,b1,b2,b3,zm7,zoy]
  rfl
 ·exact absurd e' hne
section
variable (b k:Nat)(l:List Int)(p:Nat)(e:Int)(hp:Hp)
theorem qV(h:hp.rd b 0=some (Rc k l p e)):run cxX 97 [.ptr b 0 0] hp=some (.sc (.int .i64 e),hp):=by
 rw[E97]
 simp[h,ql]
theorem Jh(f:Int)(h:hp.rd b 0=some (Rc k l p e)):run cxX 120 [.ptr b 0 0,.sc (.int .i64 f)] hp=some (.tup [],hp.put b 0 (Rc k l p (rE e f))):=by
 rw[E120]
 unfold rE
 by_cases h0:e=0
 ·subst h0
  simp[h,ql,qxh,qo]
 ·simp[h,ql,h0,jk h]
theorem XL(hl:l.length<=1000000000)(hp':p<=l.length)(h:hp.rd b 0=some (Rc k l p e)):run cxX 127 [.ptr b 0 0] hp=some (.sc (.int .i64 (rL l p e:Nat)),hp):=by
 rw[E127]
 unfold rL
 by_cases h0:e=0
 ·subst h0
  have w:IntKind.i64.wrap ((l.length:Int)-(p:Int))=((l.length-p:Nat):Int):=qj
  simp[h,ql,qs,qxb,w]
 ·simp[h,ql,h0,qxc]
def rB(l:List Int)(p:Nat)(e:Int):Int×Nat×Int:=if rL l p e=0 then(0,p,rE e 3)else(l.getD p 0,p+1,e)
theorem Ji(hl:l.length<=1000000000)(hp':p<=l.length)(h:hp.rd b 0=some (Rc k l p e)):
 run cxX 63 [.ptr b 0 0] hp=some (.sc (.int .u8 (rB l p e).1),hp.put b 0 (Rc k l (rB l p e).2.1 (rB l p e).2.2)):=by
 have lf:=XL b k l p e hp hl hp' h
 rw[E63]
 unfold rB
 by_cases h0:rL l p e=0
 ·have fl:=Jh b k l p e hp 3 h
  simp[lf,h0,fl]
 ·have he:e=0:=by
   unfold rL at h0
   by_cases he:e=0
   ·exact he
   ·simp[he]at h0
  subst he
  have hlt:p<l.length:=by unfold rL at h0;simp at h0;omega
  have w:IntKind.i64.wrap ((p:Int)+1)=((p+1:Nat):Int):=qj
  have w2:IntKind.i64.wrap (((p+1:Nat):Int)-1)=(p:Int):=qj
  have w3:IntKind.i64.wrap (p:Int)=(p:Int):=qm qe qe
  simp only[zrh,zri]at w w2
  simp[lf,h0,h,ql,qs,w,qo,qr,w2,w3,hlt,Rc]
theorem qm3(n:Nat)(hl:l.length<=1000000000)(hn:n<=1000000000)(hp':p<=l.length)(h:hp.rd b 0=some (Rc k l p e)):
 ∃t,run cxX 126 [.ptr b 0 0,.sc (.int .i64 (n:Int))] hp=
  if rL l p e<n then some (S 2 1 [],hp.put b 0 (Rc k l p (rE e 3)))else if n=0 then some (S 2 1 [],hp)else some (S t 1 (LI .u8 ((l.drop p).take n)),hp.put b 0 (Rc k l (p+n) e)):=by
 have lf:=XL b k l p e hp hl hp' h
 have fl:=Jh b k l p e hp 3 h
 have h00:¬((n:Int)<0):=qe
 rw[E126]
 by_cases h0:rL l p e<n
 ·refine⟨0,?_⟩
  simp[h00,lf,h0,qxd,fl]
 ·by_cases h1:n=0
  ·subst h1
   refine⟨0,?_⟩
   have hz:¬((rL l p e:Int)<0):=qe
   simp[lf,hz,qfh]
  ·have he:e=0:=by
    unfold rL at h0
    by_cases he:e=0
    ·exact he
    ·simp[he]at h0;omega
   subst he
   have hlt:p+n<=l.length:=by unfold rL at h0;simp at h0;omega
   have w:IntKind.i64.wrap ((p:Int)+(n:Int))=((p+n:Nat):Int):=qj
   have w2:IntKind.i64.wrap (((p+n:Nat):Int)-(n:Int))=(p:Int):=qj
   have sl:=fun k=>zd2 k (LI .u8 l) p (p+n) qe (by simpa using hlt) (by intro hn0;have:=congrArg List.length hn0;simp at this;subst this;simp at hlt;omega)
   have e1:p+n-p=n:=qe
   simp only[e1,zmj,zg9]at sl
   refine⟨0,?_⟩
   have hz:¬((rL l p 0:Int)<(n:Int)):=qe
   have pn:∀x:AV,qo (Rc k l p 0) 1 [x]=some [S k 1 (LI .u8 l),x,.sc (.int .i64 0)]:=fun x=>rfl
   have hn1:¬((n:Int)=0):=qe
   generalize hq:((p+n:Nat):Int)=q at*
   simp[h00,lf,h0,hz,qfh,h1,hn1,h,ql,qs,w,pn,qr,w2,sl,Rc,hq]
theorem VU(hl:l.length<=1000000000)(hp':p<=l.length)(h:hp.rd b 0=some (Rc k l p e)):
 run cxX 56 [.ptr b 0 0] hp=some (.sc (.int .i64 (if e=0/\p<l.length then 15 else e)),hp):=by
 have er:=qV b k l p e hp h
 rw[E56]
 by_cases h0:e=0
 ·subst h0
  by_cases h1:p<l.length
  ·simp[h,ql,qs,h1,zc4]
  ·simp[h,ql,qs,h1,ql6,er]
 ·simp[h,ql,h0,ql6,er]
end
theorem qu5:∀x:BitVec 8,(x&&&127#8).toNat=x.toNat%128:=qh
theorem zkl(c:Nat)(hc:c<256)(t:TypeId)(x y:Operand):qx Tryz.prog .and t x y (.int .u8 (c:Int)) (.int .u8 127)=some (.int .u8 ((c%128:Nat):Int)):=by
 rw[zm]
 have e1:(BitVec.ofInt 8 (c:Int)).toNat=c:=by
  rw[znt];omega
 have e2:(BitVec.ofInt IntKind.u8.bits (c:Int)&&&BitVec.ofInt IntKind.u8.bits 127).toNat=c%128:=by
  show(BitVec.ofInt 8 (c:Int)&&&127#8).toNat=_
  rw[qu5,e1]
 rw[e2,zA qe qe]
theorem ziv(n x s:Nat)(hn:n<2^s)(h:n+x*2^s<18446744073709551616)(t:TypeId)(a b:Operand):
 qx Tryz.prog .or t a b (.int .u64 (n:Int)) (.int .u64 ((x*2^s:Nat):Int))=some (.int .u64 ((n+x*2^s:Nat):Int)):=by
 rw[zS]
 generalize hy:x*2^s=y at*
 have e:(BitVec.ofInt IntKind.u64.bits (n:Int)|||BitVec.ofInt IntKind.u64.bits (y:Int)).toNat=n+y:=by
  show(BitVec.ofInt 64 (n:Int)|||BitVec.ofInt 64 (y:Int)).toNat=_
  rw[zpp,znt,znt]
  have e1:((n:Int)%((2^64:Nat):Int)).toNat=n:=qe
  have e2:((y:Int)%((2^64:Nat):Int)).toNat=y:=qe
  rw[e1,e2]
  have:=zpq hn x
  rw[zob]at this
  rw[hy]at this
  rw[Nat.or_comm,<-this,zqy]
 rw[e,qu qe qe]
def rU(l:List Int)(p:Nat)(e:Int)(most:Nat):Nat×Nat×Int:=
 if e≠0 then(0,p,e)
 else if(gU (l.drop p) 0 0 0).2.2≠0 then(0,p+(gU (l.drop p) 0 0 0).2.1,(gU (l.drop p) 0 0 0).2.2)
 else if most<(gU (l.drop p) 0 0 0).1 then(0,p+(gU (l.drop p) 0 0 0).2.1,7)
 else((gU (l.drop p) 0 0 0).1,p+(gU (l.drop p) 0 0 0).2.1,0)
section
variable (b k:Nat)(l:List Int)(most:Nat)
theorem XR(p:Nat)(e:Int)(he:e≠0)(hp:Hp)(h:hp.rd b 0=some (Rc k l p e))(v:Value)(n s:Int)(c:Int):
 B60_7 (.ptr b 0 0) v (.int .u64 n) (.int .i64 s) (.int .u8 c) hp=some (.sc (.int .u64 0),hp):=by
 have er:=qV b k l p e hp h
 rw[ql3]
 simp[er,he]
theorem Wl(p:Nat)(e:Int)(hp:Hp)(h:hp.rd b 0=some (Rc k l p e))(v:Value)(n s:Int)(c:Int):
 B60_6 (.ptr b 0 0) v (.int .u64 n) (.int .i64 s) (.int .u8 c) hp=some (.sc (.int .u64 0),hp.put b 0 (Rc k l p (rE e 4))):=by
 have fl:=Jh b k l p e hp 4 h
 have e7:=XR b k l p (rE e 4) (by unfold rE;split<;>simp_all) (hp.put b 0 (Rc k l p (rE e 4))) (qr _ _ _) v n s c
 rw[zc2]
 simp[fl,e7]
def uF(most:Nat)(g:Nat×Nat×Int):Nat×Int:=if g.2.2≠0 then(0,g.2.2)else if most<g.1 then(0,7)else(g.1,0)
theorem zem(hm:most<18446744073709551616)(q s n c:Nat)(hp:Hp)(hc:c<256)(hs:s<=63)(hn:n<2^s)(hfit:n+c%128*2^s<18446744073709551616)(h:hp.rd b 0=some (Rc k l q 0)):
 B60_7 (.ptr b 0 0) (.int .u64 most) (.int .u64 n) (.int .i64 s) (.int .u8 c) hp=
  if c<128 then(if most<n+c*2^s then some (.sc (.int .u64 0),hp.put b 0 (Rc k l q 7))else some (.sc (.int .u64 ((n+c*2^s:Nat):Int)),hp))
  else B60_4 (.ptr b 0 0) (.int .u64 most) (.int .u64 ((n+(c-128)*2^s:Nat):Int)) (.int .i64 ((s+7:Nat):Int)) hp:=by
 have er:=qV b k l q 0 hp h
 have fl:=Jh b k l q 0 hp 7 h
 have an:=zkl c hc
 have w:IntKind.u64.wrap ((c%128:Nat):Int)=((c%128:Nat):Int):=qu qe qe
 have sh:∀t x y,qx Tryz.prog .shl t x y (.int .u64 ((c%128:Nat):Int)) (.int .i64 (s:Int))=some (.int .u64 ((c%128*2^s:Nat):Int)):=by
  intro t x y
  rw[zW _ _ _ _ _ _ _ _ qe]
  have e:min (s:Int).toNat IntKind.u64.bits=s:=by
   have:IntKind.u64.bits=64:=rfl
   omega
  rw[e]
  have e2:((c%128:Nat):Int)*2^s=((c%128*2^s:Nat):Int):=qg
  rw[e2,qu qe qe]
 have oo:=ziv n (c%128) s hn hfit
 have w7:IntKind.i64.wrap ((s:Int)+7)=((s+7:Nat):Int):=qj
 rw[ql3]
 by_cases h1:c<128
 ·have e1:c%128=c:=qe
  rw[e1]at an w sh oo
  have hlt:((c:Int)<128):=qe
  rw[if_pos h1]
  by_cases h2:most<n+c*2^s
  ·rw[if_pos h2]
   generalize c*2^s=y at*
   generalize hz:n+y=z at*
   have hlt2:(most:Int)<(z:Int):=qe
   simp[er,an,w,sh,oo,hlt,hlt2,fl,rE,-zm,-zS]
  ·rw[if_neg h2]
   generalize c*2^s=y at*
   generalize hz:n+y=z at*
   have hlt2:¬((most:Int)<(z:Int)):=qe
   simp[er,an,w,sh,oo,hlt,hlt2,-zm,-zS]
 ·have e1:c%128=c-128:=qe
  rw[e1]at an w sh oo
  have hlt:¬((c:Int)<128):=qe
  rw[if_neg h1]
  generalize(c-128)*2^s=y at*
  generalize hz:n+y=z at*
  generalize((c-128:Nat):Int)=c' at*
  generalize((s+7:Nat):Int)=s' at*
  simp[er,an,w,sh,oo,hlt,w7,-zm,-zS]
end
section
variable (b k:Nat)(l:List Int)(most:Nat)
theorem qnf(hm:most<18446744073709551616)(hl:l.length<=1000000000)(h8:∀c∈l,0<=c/\c<256)(p:Nat):∀(r:List Int) (u s n i:Nat) (hp:Hp),l.drop (p+u)=r->p+u<=l.length->s=7*i->i<=9->n<2^s->hp.rd b 0=some (Rc k l (p+u) 0)->
 B60_4 (.ptr b 0 0) (.int .u64 most) (.int .u64 n) (.int .i64 s) hp=some (.sc (.int .u64 ((uF most (gU r s n u)).1:Nat)),hp.put b 0 (Rc k l (p+(gU r s n u).2.1) (uF most (gU r s n u)).2)):=by
 intro r
 induction r with
 |nil=>
  intro u s n i hp hr hpu hs hi hn h
  have hle:=qJ hr
  have hb:rB l (p+u) 0=(0,p+u,3):=by
   unfold rB rL rE
   rw[if_pos qi]
   simp
  have rb:=Ji b k l (p+u) 0 hp hl hpu h
  rw[hb]at rb
  have g:gU [] s n u=(0,u,3):=rfl
  have f:uF most (0,u,3)=(0,3):=rfl
  rw[g,f]
  have e6:=Wl b k l (p+u) 3 (hp.put b 0 (Rc k l (p+u) 3)) (qr _ _ _) (.int .u64 most) n s 0
  have e7:=XR b k l (p+u) 3 qh (hp.put b 0 (Rc k l (p+u) 3)) (qr _ _ _) (.int .u64 most) n s 0
  have r34:rE 3 4=3:=rfl
  rw[qB,r34]at e6
  rw[XD]
  by_cases h63:s=63
  ·subst h63
   simp at e6
   simp[rb,e6]
  ·have hc:¬((s:Int)=63):=qe
   by_cases h0:s=0
   ·subst h0
    simp at e7
    simp[rb,e7]
   ·have hp0:0<s:=qe
    simp[rb,hc,hp0,e6]
 |cons c r ih=>
  intro u s n i hp hr hpu hs hi hn h
  obtain⟨e1,e2,hlt,e3⟩:=qt hr
  have hc8:=h8 c (znh e1)
  obtain⟨cn,rfl⟩:∃cn:Nat,c=cn:=⟨c.toNat,qe⟩
  have hb:rB l (p+u) 0=((cn:Int),p+u+1,0):=by
   unfold rB rL
   rw[if_neg qi]
   simp[hlt,e3]
  have rb:=Ji b k l (p+u) 0 hp hl hpu h
  rw[hb]at rb
  have e6:=Wl b k l (p+u+1) 0 (hp.put b 0 (Rc k l (p+u+1) 0)) (qr _ _ _) (.int .u64 most) n s cn
  have r34:rE 0 4=4:=rfl
  rw[qB,r34]at e6
  have hs63:s<=63:=qe
  by_cases bad:(s=63/\1<(cn:Int))\/(0<s/\(cn:Int)=0)
  ·have g:gU ((cn:Int)::r) s n u=(0,u+1,4):=by unfold gU;rw[if_pos bad]
   have f:uF most (0,u+1,4)=(0,4):=rfl
   rw[g,f,XD]
   have hpu1:p+(u+1)=p+u+1:=qe
   rw[hpu1]
   by_cases h63:s=63
   ·subst h63
    by_cases h1:1<cn
    ·have h1':1<(cn:Int):=qe
     simp at e6
     simp[rb,h1',e6]
    ·have hc0:cn=0:=by
      rcases bad with⟨_,h2⟩|⟨_,h2⟩<;>omega
     subst hc0
     simp at e6
     simp[rb,e6]
   ·have hc:¬((s:Int)=63):=qe
    have hz:0<s/\cn=0:=by
     rcases bad with⟨h2,_⟩|⟨h2,h3⟩
     ·exact absurd h2 h63
     ·exact⟨h2,qe⟩
    obtain⟨hz1,hz2⟩:=hz
    subst hz2
    simp at e6
    simp[rb,hc,hz1,e6]
  ·have hfit:n+cn%128*2^s<18446744073709551616:=by
    by_cases h63:s=63
    ·subst h63
     have hc1:¬(1<(cn:Int)):=fun h2=>bad (.inl ⟨rfl,h2⟩)
     have e:(2:Nat)^63=9223372036854775808:=rfl
     rw[e]at hn⊢
     have:cn%128<=1:=qe
     omega
    ·have hs56:s<=56:=qe
     have h7:2^s<=2^56:=zn6 qh hs56
     have e:(2:Nat)^56=72057594037927936:=rfl
     rw[e]at h7
     have:cn%128*2^s<=127*72057594037927936:=znz qe h7
     omega
   have b7:=zem b k l most hm (p+u+1) s n cn (hp.put b 0 (Rc k l (p+u+1) 0)) qe hs63 hn hfit (qr _ _ _)
   have hpu1:p+(u+1)=p+u+1:=qe
   have step:B60_4 (.ptr b 0 0) (.int .u64 most) (.int .u64 n) (.int .i64 s) hp=B60_7 (.ptr b 0 0) (.int .u64 most) (.int .u64 n) (.int .i64 s) (.int .u8 cn) (hp.put b 0 (Rc k l (p+u+1) 0)):=by
    rw[XD]
    by_cases h63:s=63
    ·subst h63
     have h1:¬(1<cn):=fun h2=>bad (.inl ⟨rfl,qe⟩)
     have h2:¬(cn=0):=fun h2=>bad (.inr ⟨qe,qe⟩)
     have h1':¬(1<(cn:Int)):=qe
     simp[rb,h1',h2]
    ·have hc:¬((s:Int)=63):=qe
     by_cases h0:s=0
     ·subst h0
      simp[rb]
     ·have hp0:0<s:=qe
      have h2:¬(cn=0):=fun h2=>bad (.inr ⟨qe,qe⟩)
      simp[rb,hc,hp0,h2]
   rw[step,b7]
   by_cases h1:cn<128
   ·have g:gU ((cn:Int)::r) s n u=(n+cn*2^s,u+1,0):=by
     unfold gU;rw[if_neg bad,if_pos qe,znc]
    rw[if_pos h1,g,qB]
    by_cases h2:most<n+cn*2^s
    ·have f:uF most (n+cn*2^s,u+1,0)=(0,7):=by unfold uF;simp[h2]
     rw[if_pos h2,f]
     simp only[hpu1];rfl
    ·have f:uF most (n+cn*2^s,u+1,0)=(n+cn*2^s,0):=by unfold uF;simp[h2]
     rw[if_neg h2,f]
     simp only[hpu1]
   ·have g:gU ((cn:Int)::r) s n u=gU r (s+7) (n+(cn-128)*2^s) (u+1):=by
     conv=>lhs;unfold gU
     rw[if_neg bad,if_neg qe,znc]
    have hi9:i+1<=9:=by
     by_cases h63:s=63
     ·exact absurd (.inl ⟨h63,qe⟩) bad
     ·omega
    have hn7:n+(cn-128)*2^s<2^(s+7):=by
     have e:2^(s+7)=128*2^s:=by rw[zpw];omega
     rw[e]
     have:(cn-128)*2^s<=127*2^s:=znr _ qe
     omega
    rw[if_neg h1,g]
    have hh:=ih (u+1) (s+7) (n+(cn-128)*2^s) (i+1) (hp.put b 0 (Rc k l (p+u+1) 0)) (by rw[hpu1];exact e2) qe qe hi9 hn7 (by rw[hpu1];exact qr _ _ _)
    rw[qB]at hh
    exact hh
theorem qb8(p:Nat)(e:Int)(hm:most<18446744073709551616)(hl:l.length<=1000000000)(h8:∀c∈l,0<=c/\c<256)(hpl:p<=l.length)(hp:Hp)(h:hp.rd b 0=some (Rc k l p e)):
 run cxX 60 [.ptr b 0 0,.sc (.int .u64 (most:Int))] hp=some (.sc (.int .u64 ((rU l p e most).1:Nat)),hp.put b 0 (Rc k l (rU l p e most).2.1 (rU l p e most).2.2)):=by
 rw[E60]
 by_cases he:e=0
 ·subst he
  have hh:=qnf b k l most hm hl h8 p (l.drop p) 0 0 0 0 hp rfl qe rfl qe qh h
  have er:rU l p 0 most=((uF most (gU (l.drop p) 0 0 0)).1,p+(gU (l.drop p) 0 0 0).2.1,(uF most (gU (l.drop p) 0 0 0)).2):=by
   unfold rU uF
   rw[if_neg qg]
   split
   ·rfl
   ·split<;>rfl
  rw[er]
  simpa using hh
 ·have er:rU l p e most=(0,p,e):=by unfold rU;rw[if_pos he]
  rw[er]
  have hb:rB l p e=(0,p,e):=by
   unfold rB rL rE
   simp[he]
  have rb:=Ji b k l p e hp hl hpl h
  rw[hb,jk h]at rb
  have e7:=XR b k l p e he hp h (.int .u64 most) 0 0 0
  rw[jk h]
  simp[XD,rb,e7]
end
theorem zls(l:List Int)(p:Nat)(e:Int)(most:Nat)(h8:∀c∈l,0<=c/\c<256):(rU l p e most).1<18446744073709551616:=by
 unfold rU
 split
 ·exact(by decide:0<18446744073709551616)
 ·split
  ·exact(by decide:0<18446744073709551616)
  ·rename_i h
   split
   ·exact(by decide:0<18446744073709551616)
   ·obtain⟨m,m1,_,_,_,m5⟩:=zma (l.drop p) 0 0 0 0 (fun c hc=>h8 c (zqp hc)) rfl qe (Classical.not_not.mp h)
    show(gU (l.drop p) 0 0 0).1<_
    rw[m1]
    simpa using m5
theorem zkm(n:Nat)(hn:n<18446744073709551616)(t:TypeId)(x y:Operand):qx Tryz.prog .and t x y (.int .u64 (n:Int)) (.int .u64 1)=some (.int .u64 ((n%2:Nat):Int)):=by
 rw[zm]
 have e2:(BitVec.ofInt IntKind.u64.bits (n:Int)&&&BitVec.ofInt IntKind.u64.bits 1).toNat=n%2:=by
  show(BitVec.ofInt 64 (n:Int)&&&1#64).toNat=_
  rw[zp2,znt]
  have e1:((n:Int)%((2^64:Nat):Int)).toNat=n:=qe
  rw[e1]
  exact Nat.and_one_is_mod n
 rw[e2,qu qe qe]
theorem qpy(P:Program)(a:Int):unV P .neg (.int .i64 a)=some (.int .i64 (IntKind.i64.wrap (0-a))):=rfl
theorem qyk(b k:Nat)(l:List Int)(p:Nat)(e:Int)(hl:l.length<=1000000000)(h8:∀c∈l,0<=c/\c<256)(hpl:p<=l.length)(hp:Hp)(h:hp.rd b 0=some (Rc k l p e)):
 run cxX 116 [.ptr b 0 0] hp=some (.sc (.int .i64 (qmo (rU l p e 18446744073709551615).1)),hp.put b 0 (Rc k l (rU l p e 18446744073709551615).2.1 (rU l p e 18446744073709551615).2.2)):=by
 have ru:=qb8 b k l 18446744073709551615 p e qh hl h8 hpl hp h
 have hu:=zls l p e 18446744073709551615 h8
 generalize rU l p e 18446744073709551615=q at*
 obtain⟨u,p',e'⟩:=q
 simp only at ru hu⊢
 have sh:∀t x y,qx Tryz.prog .shr t x y (.int .u64 (u:Int)) (.int .u64 1)=some (.int .u64 ((u/2:Nat):Int)):=by
  intro t x y
  rw[jL _ _ _ _ _ _ _ _ qe]
  congr 2
  rw[zon _ qh]
  show(u:Int)/2=_
  omega
 have an:=zkm u hu
 have w1:IntKind.i64.wrap ((u/2:Nat):Int)=((u/2:Nat):Int):=qm qe qe
 have w2:IntKind.i64.wrap ((u%2:Nat):Int)=((u%2:Nat):Int):=qm qe qe
 have lit:(.int .u64 18446744073709551615:Value)= .int .u64 ((18446744073709551615:Nat):Int):=rfl
 rw[E116]
 have fin:∀t x y,qx Tryz.prog .xor t x y (.int .i64 ((u/2:Nat):Int)) (.int .i64 (IntKind.i64.wrap (0-((u%2:Nat):Int))))=some (.int .i64 (qmo u)):=by
  intro t x y
  rw[xI]
  have hx:(BitVec.ofInt 64 ((u/2:Nat):Int)).toNat=u/2:=by rw[znt];omega
  by_cases h2:u%2=0
  ·have e0:IntKind.i64.wrap (0-((u%2:Nat):Int))=0:=by rw[h2];rfl
   have e1:(BitVec.ofInt IntKind.i64.bits ((u/2:Nat):Int)^^^BitVec.ofInt IntKind.i64.bits (IntKind.i64.wrap (0-((u%2:Nat):Int)))).toNat=u/2:=by
    rw[e0]
    show(BitVec.ofInt 64 ((u/2:Nat):Int)^^^0#64).toNat=_
    rw[BitVec.xor_zero,hx]
   rw[e1,w1]
   unfold qmo
   rw[if_pos h2]
  ·have e0:IntKind.i64.wrap (0-((u%2:Nat):Int))=-1:=by
    have:u%2=1:=qe
    rw[this];rfl
   have e1:(BitVec.ofInt IntKind.i64.bits ((u/2:Nat):Int)^^^BitVec.ofInt IntKind.i64.bits (IntKind.i64.wrap (0-((u%2:Nat):Int)))).toNat=18446744073709551615-u/2:=by
    rw[e0]
    have e2:BitVec.ofInt 64 (-1)=BitVec.allOnes 64:=qh
    show(BitVec.ofInt 64 ((u/2:Nat):Int)^^^BitVec.ofInt 64 (-1)).toNat=_
    rw[e2,BitVec.xor_allOnes,BitVec.toNat_not,hx]
   rw[e1]
   unfold qmo
   have hv:u/2<9223372036854775808:=qe
   generalize u/2=v at*
   have e3:IntKind.i64.wrap ((18446744073709551615-v:Nat):Int)=-(v:Int)-1:=by
    have e4:((18446744073709551615-v:Nat):Int)=18446744073709551615-(v:Int):=qe
    rw[e4,IntKind.wrap_i64]
    omega
   rw[if_neg h2,e3]
 generalize((u/2:Nat):Int)=c1 at*
 generalize((u%2:Nat):Int)=c2 at*
 generalize qmo u=z at*
 simp at ru
 simp only[Int.zero_sub]at fin
 simp[ru,sh,an,w1,w2,qpy,fin,-zm,-xI]
def Fm(X:List Nat)(hp hp':Hp):Prop:=hp.next<=hp'.next/\∀c,c<hp.next->c∉X->hp'.get c=hp.get c
theorem Fm.refl(X:List Nat)(hp:Hp):Fm X hp hp:=⟨zm8 _,fun _ _ _=>rfl⟩
theorem Fm.trans{X:List Nat}{a b c:Hp}(h:Fm X a b)(g:Fm X b c):Fm X a c:=
 ⟨zoi h.1 g.1,fun x hx hn=>by rw[g.2 x (znp hx h.1) hn,h.2 x hx hn]⟩
theorem Fm.mono{X Y:List Nat}{a b:Hp}(h:Fm X a b)(hs:∀c,c∈X->c<a.next->c∈Y):Fm Y a b:=
 ⟨h.1,fun c hc hn=>h.2 c hc (fun hx=>hn (hs c hx hc))⟩
theorem xN{a b:Hp}{c:Nat}(h:b.get c=a.get c):b.rd c 0=a.rd c 0:=by unfold Hp.rd;rw[h]
theorem Fm.rd{X:List Nat}{a b:Hp}(h:Fm X a b){c:Nat}(hc:c<a.next)(hn:c∉X):b.rd c 0=a.rd c 0:=xN (h.2 c hc hn)
theorem Fm.put{X:List Nat}(hp:Hp)(b:Nat)(x:List AV)(hb:b∈X):Fm X hp (hp.put b 0 x):=
 ⟨zm8 _,fun c _ hn=>by
  have:c≠b:=fun e=>hn (e▸hb)
  simp[Hp.put,this]⟩
theorem Fm.new(X:List Nat)(hp:Hp)(x:List AV):Fm X hp (hp.new x):=
 ⟨Nat.le_succ _,fun c hc _=>by
  have:c≠hp.next:=qe
  simp[Hp.new,this]⟩
theorem Fm.delNew{X:List Nat}(hp:Hp)(b:Nat)(x:List AV)(hb:b∈X):Fm X hp ((hp.del b).new x):=
 ⟨Nat.le_succ _,fun c hc hn=>by
  have h1:c≠hp.next:=qe
  have h2:c≠b:=fun e=>hn (e▸hb)
  have h3:c≠(hp.del b).next:=h1
  show(if c=(hp.del b).next then _ else(hp.del b).get c)=_
  rw[if_neg h3]
  show(if c=b then none else hp.get c)=_
  rw[if_neg h2]⟩
def Bs(nb:Nat)(bs:List Bool):AV:=if bs=[]then S 2 1 []else .ms nb 0 0 (pk bs).length 1
def BW(hp:Hp)(w nb:Nat)(bs:List Bool):Prop:=
 w<hp.next/\(bs=[]->nb=w)/\(bs≠[]->nb<hp.next/\nb≠w/\hp.rd nb 0=some (LI .u8 (pk bs)))/\hp.rd w 0=some [Bs nb bs,.sc (.int .i64 (bs.length:Int))]
def RW(hp:Hp)(w nb:Nat)(l:List Bool)(m:Nat):Prop:=
 w<hp.next/\nb<hp.next/\nb≠w/\hp.rd nb 0=some (LI .u8 (pk l))/\hp.rd w 0=some [.ms nb 0 0 (pk l).length 1,.sc (.int .i64 (m:Int))]
theorem BW.new(hp:Hp):BW (hp.new [S 2 1 [],.sc (.int .i64 0)]) hp.next hp.next []:=
 ⟨zqq _,fun _=>rfl,fun h=>absurd rfl h,by rw[qQ];rfl⟩
theorem BW.fr{hp hp':Hp}{w nb:Nat}{bs:List Bool}{X:List Nat}(h:BW hp w nb bs)(f:Fm X hp hp')(h1:w∉X)(h2:nb∉X):BW hp' w nb bs:=
 ⟨znp h.1 f.1,h.2.1,fun hb=>⟨znp (h.2.2.1 hb).1 f.1,(h.2.2.1 hb).2.1,by rw[f.rd (h.2.2.1 hb).1 h2];exact(h.2.2.1 hb).2.2⟩,
  by rw[f.rd h.1 h1];exact h.2.2.2⟩
def BS(hp:Hp)(w nb:Nat)(hp':Hp)(nb':Nat)(l:List Bool):Prop:=BW hp' w nb' l/\Fm [w,nb] hp hp'/\(nb'=nb\/hp.next<=nb')
theorem BS.trans{a b c:Hp}{w n1 n2 n3:Nat}{l m:List Bool}(hw:w<a.next)(h:BS a w n1 b n2 l)(g:BS b w n2 c n3 m):BS a w n1 c n3 m:=by
 refine⟨g.1,⟨zoi h.2.1.1 g.2.1.1,fun x hx hn=>?_⟩,?_⟩
 ·have hx':=znp hx h.2.1.1
  simp at hn
  rw[g.2.1.2 x hx' (by simp;refine⟨hn.1,?_⟩;rcases h.2.2 with e|e
                       ·rw[e];exact hn.2
                       ·omega),h.2.1.2 x hx (by simp;exact hn)]
 ·have:=h.2.1.1
  rcases h.2.2 with e|e
  ·rcases g.2.2 with e'|e'
   ·exact .inl (by rw[e',e])
   ·exact .inr qe
  ·rcases g.2.2 with e'|e'
   ·exact .inr qe
   ·exact .inr qe
theorem qgg(m:Nat)(t:TypeId)(x y:Operand):qx Tryz.prog .rem t x y (.int .i64 (m:Int)) (.int .i64 8)=some (.int .i64 ((m%8:Nat):Int)):=by
 rw[zq _ _ _ _ _ _ _ qe,zo qe]
 rfl
theorem qgi(m:Nat)(hm:m<1000000000)(t:TypeId)(x y:Operand):qx Tryz.prog .quo t x y (.int .i64 (m:Int)) (.int .i64 8)=some (.int .i64 ((m/8:Nat):Int)):=by
 rw[yB _ _ _ _ _ _ _ qe,zod qe,qm qe qe]
 rfl
theorem pkne{l:List Bool}(h:l≠[]):pk l≠[]:=by
 intro e
 have:=congrArg List.length e
 have h1:=zop.mpr h
 simp at this
 omega
section
variable (w nb n:Nat)(v1:Value)(i:Nat)(bs:List Bool)(hp:Hp)
theorem zkd(hm:bs.length<7900000)(h:BW hp w nb bs):∃hp' nb',B166_2 (.ptr w 0 0) v1 (.int .i64 (i:Int)) hp=B166_6 (.ptr w 0 0) v1 (.int .i64 (i:Int)) hp'/\
 RW hp' w nb' (bs++[false]) bs.length/\Fm [w,nb] hp hp'/\(nb'=nb\/hp.next<=nb'):=by
 obtain⟨h1,h2,h3,h4⟩:=h
 have hi:(0:Int)<=(i:Int):=qe
 have r8:=qgg bs.length
 rw[qeq]
 by_cases hz:bs.length%8=0
 ·have pf:=qjc bs
  rw[if_pos hz]at pf
  rw[hz]at r8
  by_cases hb:bs=[]
  ·subst hb
   have e:Bs nb []=S 2 1 []:=rfl
   have r80:∀t x y,qx Tryz.prog .rem t x y (.int .i64 0) (.int .i64 8)=some (.int .i64 0):=fun t x y=>qgg 0 t x y
   rw[e]at h4
   have a:=Ze .u8 0 1 qh hp
   have hne:w≠hp.next:=qe
   have r1:=zH hp (LI .u8 [0]) hne
   rw[h4]at r1
   refine⟨(hp.new (LI .u8 [0])).put w 0 [.ms hp.next 0 0 1 1,.sc (.int .i64 0)],hp.next,?_,?_,?_,.inr (zm8 _)⟩
   ·simp[hi,h4,ql,qs,r80,yC,a,r1,qo]
   ·refine⟨qi,qg,fun e=>hne e.symm,?_,?_⟩
    ·rw[qA _ _ (fun e=>hne e.symm),qQ];rfl
    ·rw[qr];rfl
   ·exact(Fm.new _ hp _).trans (Fm.put _ _ _ qg)
  ·obtain⟨n1,n2,n3⟩:=h3 hb
   have e:Bs nb bs= .ms nb 0 0 (pk bs).length 1:=if_neg hb
   rw[e]at h4
   have a:=ZV .u8 (pk bs) 0 1 nb qh (by rw[zZ];omega) (pkne hb) hp n3
   have hne:w≠hp.next:=qe
   have r1:((hp.del nb).new (LI .u8 (pk bs++[0]))).rd w 0=hp.rd w 0:=(Fm.delNew (X:=[nb]) hp nb _ qg).rd h1 (by simp;exact fun e=>n2 e.symm)
   rw[h4]at r1
   refine⟨((hp.del nb).new (LI .u8 (pk bs++[0]))).put w 0 [.ms hp.next 0 0 ((pk bs).length+1) 1,.sc (.int .i64 bs.length)],hp.next,?_,?_,?_,.inr (zm8 _)⟩
   ·generalize pk bs=pb at*
    simp[hi,h4,ql,qs,r8,yC,a,r1,qo]
   ·refine⟨by simp[Hp.del];omega,by simp[Hp.del],fun e=>hne e.symm,?_,?_⟩
    ·rw[qA _ _ (fun e=>hne e.symm),pf];exact qQ (hp.del nb) _
    ·rw[qr,pf,zm4];rfl
   ·exact(Fm.delNew hp nb _ qg).trans (Fm.put _ _ _ qg)
 ·have hb:bs≠[]:=fun e=>hz (by rw[e];rfl)
  obtain⟨n1,n2,n3⟩:=h3 hb
  have e:Bs nb bs= .ms nb 0 0 (pk bs).length 1:=if_neg hb
  rw[e]at h4
  have pf:=qjc bs
  rw[if_neg hz]at pf
  refine⟨hp,nb,?_,⟨h1,n1,n2,by rw[pf];exact n3,by rw[pf];exact h4⟩,Fm.refl _ _,.inl rfl⟩
  have hz':¬(((bs.length%8:Nat):Int)=0):=qe
  generalize((bs.length%8:Nat):Int)=z at*
  simp[hi,h4,ql,r8,hz']
theorem zii(m:Nat)(t:TypeId)(x y:Operand):qx Tryz.prog .shr t x y (.int .u8 128) (.int .i64 ((m%8:Nat):Int))=some (.int .u8 ((2^(7-m%8):Nat):Int)):=by
 rw[jL _ _ _ _ _ _ _ _ qe,znc]
 have h:m%8<8:=zp4 _ qh
 generalize m%8=r at*
 have:r=0\/r=1\/r=2\/r=3\/r=4\/r=5\/r=6\/r=7:=qe
 rcases this with e|e|e|e|e|e|e|e<;>subst e<;>rfl
theorem or8(bs:List Bool)(t:TypeId)(x y:Operand):qx Tryz.prog .or t x y (.int .u8 (by8 (bs++[false]) (8*(bs.length/8)):Nat)) (.int .u8 ((2^(7-bs.length%8):Nat):Int))=
 some (.int .u8 (by8 (bs++[true]) (8*(bs.length/8)):Nat)):=by
 rw[zS]
 have e:(BitVec.ofInt IntKind.u8.bits (by8 (bs++[false]) (8*(bs.length/8)):Nat)|||BitVec.ofInt IntKind.u8.bits ((2^(7-bs.length%8):Nat):Int)).toNat=by8 (bs++[true]) (8*(bs.length/8)):=by
  rw[<-zj8,zo3,zo3]
  rfl
 have:=qo3 (bs++[true]) (8*(bs.length/8))
 rw[e,zA qe qe]
theorem jQ(K:IntKind)(l:List Int)(i:Nat)(h:i<l.length):ql (LI K l) i=some (.int K (l.getD i 0)):=by
 unfold ql LI
 rw[zno,zm6,znb h]
 rfl
theorem zkc(hn:n<18446744073709551616)(hi:i<64)(hm:bs.length<7900000)(h:RW hp w nb (bs++[false]) bs.length):
 ∃hp',B166_6 (.ptr w 0 0) (.int .u64 (n:Int)) (.int .i64 (i:Int)) hp=B166_8 (.ptr w 0 0) (.int .u64 (n:Int)) (.int .i64 (i:Int)) hp'/\
  RW hp' w nb (bs++[n.testBit i]) bs.length/\Fm [w,nb] hp hp':=by
 obtain⟨h1,h2,h3,h4,h5⟩:=h
 have s1:=fun o o'=>Je n i qe o o' .i64
 have s2':=zkm (n/2^i) (zor (zpj _ _) hn)
 have tb:n.testBit i=decide (n/2^i%2=1):=zpc
 rw[qwl]
 by_cases hb:n/2^i%2=1
 ·have s2:∀t x y,qx Tryz.prog .and t x y (.int .u64 ((n/2^i:Nat):Int)) (.int .u64 1)=some (.int .u64 1):=fun t x y=>by rw[s2',hb];rfl
  rw[tb,decide_eq_true hb]
  have q:=qgi bs.length qe
  have r:=qgg bs.length
  have s3:=zii bs.length
  have o8:=or8 bs
  have il:bs.length/8<(pk (bs++[false])).length:=by rw[zZ];simp;omega
  have ix:=zj .i64 il
  have g1:=jQ .u8 (pk (bs++[false])) _ il
  rw[qgk _ _ qi]at g1
  have p1:=yL .u8 (pk (bs++[false])) (bs.length/8) (by8 (bs++[true]) (8*(bs.length/8)):Nat) il
  rw[<-ze7]at p1
  have e:=zZ (bs++[true])
  have e2:(pk (bs++[true])).length=(pk (bs++[false])).length:=qg
  refine⟨hp.put nb 0 (LI .u8 (pk (bs++[true]))),?_,⟨h1,h2,h3,by rw[qr],by rw[qA _ _ (fun e=>h3 e.symm),h5,e2]⟩,Fm.put _ _ _ qg⟩
  generalize(by8 (bs++[false]) (8*(bs.length/8)):Nat)=x at*
  generalize(by8 (bs++[true]) (8*(bs.length/8)):Nat)=y at*
  generalize pk (bs++[false])=pf at*
  generalize pk (bs++[true])=pt at*
  generalize((2^(7-bs.length%8):Nat):Int)=zz at*
  generalize n/2^i=nn at*
  generalize bs.length/8=jj at*
  generalize bs.length%8=kk at*
  simp only[JL,s1,zm7]
  have gs:∀(x:AV) (v:Value),ql [x,.sc v] 1=some v:=fun _ _=>rfl
  simp[s2,h5,qs,gs,q,ix,h4,g1,r,s3,o8,p1,-zS,-zm]
 ·have hz:n/2^i%2=0:=qe
  have s2:∀t x y,qx Tryz.prog .and t x y (.int .u64 ((n/2^i:Nat):Int)) (.int .u64 1)=some (.int .u64 0):=fun t x y=>by rw[s2',hz];rfl
  rw[tb,decide_eq_false hb]
  refine⟨hp,?_,⟨h1,h2,h3,h4,h5⟩,Fm.refl _ _⟩
  generalize n/2^i=nn at*
  simp only[JL,s1,zm7]
  simp[s2,-zm]
theorem zkb(hm:bs.length<7900000)(b:Bool)(hi:i<64)(h:RW hp w nb (bs++[b]) bs.length):
 ∃hp',B166_8 (.ptr w 0 0) v1 (.int .i64 (i:Int)) hp=B166_2 (.ptr w 0 0) v1 (.int .i64 ((i:Int)-1)) hp'/\BW hp' w nb (bs++[b])/\Fm [w,nb] hp hp':=by
 obtain⟨h1,h2,h3,h4,h5⟩:=h
 have w1:IntKind.i64.wrap ((bs.length:Int)+1)=((bs.length:Int)+1):=qj
 have w2:IntKind.i64.wrap ((i:Int)-1)=((i:Int)-1):=qj
 have hne:bs++[b]≠[]:=qg
 refine⟨hp.put w 0 [.ms nb 0 0 (pk (bs++[b])).length 1,.sc (.int .i64 ((bs++[b]).length:Int))],?_,⟨h1,fun e=>absurd e hne,fun _=>⟨h2,h3,by rw[qA _ _ h3];exact h4⟩,?_⟩,Fm.put _ _ _ qg⟩
 ·rw[qwk]
  generalize pk (bs++[b])=pb at*
  simp[h5,ql,w1,w2,qo]
 ·rw[qr]
  unfold Bs
  rw[if_neg hne]
theorem quy(w n:Nat)(hn:n<18446744073709551616):∀(k nb:Nat) (bs:List Bool) (hp:Hp),k<=64->bs.length+k<7900000->BW hp w nb bs->
 ∃hp' nb',B166_2 (.ptr w 0 0) (.int .u64 (n:Int)) (.int .i64 ((k:Int)-1)) hp=some (.tup [],hp')/\BS hp w nb hp' nb' (bs++kp n k):=by
 intro k
 induction k with
 |zero=>
  intro nb bs hp hk hl h
  refine⟨hp,nb,?_,by simpa[kp]using h,Fm.refl _ _,.inl rfl⟩
  rw[qeq]
  simp
 |succ k ih=>
  intro nb bs hp hk hl h
  obtain⟨hp1,nb1,a1,a2,a3,a4⟩:=zkd w nb (.int .u64 (n:Int)) k bs hp qe h
  obtain⟨hp2,b1,b2,b3⟩:=zkc w nb1 n k bs hp1 hn qe qe a2
  obtain⟨hp3,c1,c2,c3⟩:=zkb w nb1 (.int .u64 (n:Int)) k bs hp2 qe _ qe b2
  obtain⟨hp4,nb4,d1,d2⟩:=ih nb1 (bs++[n.testBit k]) hp3 qe qi c2
  have e:((k+1:Nat):Int)-1=(k:Int):=qe
  have e2:bs++kp n (k+1)=bs++[n.testBit k]++kp n k:=by simp[kp]
  refine⟨hp4,nb4,by rw[e,a1,b1,c1,d1],?_⟩
  rw[e2]
  refine BS.trans h.1 (n2:=nb1) (b:=hp3) (l:=bs++[n.testBit k]) ⟨c2,?_,a4⟩ d2
  refine⟨zoi a3.1 (zoi b3.1 c3.1),fun c hc hn=>?_⟩
  have hc1:=znp hc a3.1
  have hc2:=znp hc1 b3.1
  have hn':c∉[w,nb1]:=by
   simp at hn⊢
   refine⟨hn.1,?_⟩
   rcases a4 with e|e
   ·rw[e];exact hn.2
   ·omega
  rw[c3.2 c hc2 hn',b3.2 c hc1 hn',a3.2 c hc hn]
theorem YN(w nb n k:Nat)(bs:List Bool)(hp:Hp)(hn:n<18446744073709551616)(hk:k<=64)(hl:bs.length+k<7900000)(h:BW hp w nb bs):
 ∃hp' nb',run cxX 166 [.ptr w 0 0,.sc (.int .u64 (n:Int)),.sc (.int .i64 (k:Int))] hp=some (.tup [],hp')/\BS hp w nb hp' nb' (bs++kp n k):=by
 obtain⟨hp',nb',h1,h2⟩:=quy w n hn k nb bs hp hk hl h
 refine⟨hp',nb',?_,h2⟩
 have m1:max (k:Int) 0=(k:Int):=qe
 have m2:min (k:Int) 64=(k:Int):=qe
 have w1:IntKind.i64.wrap ((k:Int)-1)=(k:Int)-1:=qj
 rw[E166]
 simp[m1,m2,w1,h1]
theorem qmp(w:Nat):∀(k nb:Nat) (bs:List Bool) (hp:Hp),bs.length+k<7800000->BW hp w nb bs->
 ∃hp' nb',B165_0 (.ptr w 0 0) (.int .i64 (k:Int)) hp=some (.tup [],hp')/\BS hp w nb hp' nb' (bs++una k):=by
 intro k
 induction k with
 |zero=>
  intro nb bs hp hl h
  obtain⟨hp1,nb1,a1,a2⟩:=YN w nb 0 1 bs hp qe qe qe h
  refine⟨hp1,nb1,?_,a2⟩
  rw[qer]
  simp at a1
  simp[a1]
 |succ k ih=>
  intro nb bs hp hl h
  obtain⟨hp1,nb1,a1,a2⟩:=YN w nb 1 1 bs hp qe qe qe h
  obtain⟨hp2,nb2,b1,b2⟩:=ih nb1 (bs++kp 1 1) hp1 qi a2.1
  have w2:IntKind.i64.wrap (((k+1:Nat):Int)-1)=(k:Int):=qj
  have hpos:((k+1:Nat):Int)>0:=qe
  have e:bs++una (k+1)=bs++kp 1 1++una k:=by simp[una,kp,zph]
  refine⟨hp2,nb2,?_,by rw[e];exact a2.trans h.1 b2⟩
  rw[qer]
  generalize((k+1:Nat):Int)=z at*
  simp at a1
  simp[a1,hpos,w2,b1]
theorem qb6(w nb k:Nat)(bs:List Bool)(hp:Hp)(hl:bs.length+k<7800000)(h:BW hp w nb bs):
 ∃hp' nb',run cxX 165 [.ptr w 0 0,.sc (.int .i64 (k:Int))] hp=some (.tup [],hp')/\BS hp w nb hp' nb' (bs++una k):=by
 obtain⟨hp',nb',h1,h2⟩:=qmp w k nb bs hp hl h
 refine⟨hp',nb',?_,h2⟩
 rw[E165]
 simp[h1]
theorem QK(w nb:Nat)(bs:List Bool)(hp:Hp)(hl:bs.length<7900000)(h:BW hp w nb bs):
 ∃t hp',run cxX 167 [.ptr w 0 0] hp=some (S t 1 (LI .u8 (pk bs)),hp')/\Fm [] hp hp':=by
 obtain⟨h1,h2,h3,h4⟩:=h
 rw[E167]
 by_cases hb:bs=[]
 ·subst hb
  have e:Bs nb []=S 2 1 []:=rfl
  rw[e]at h4
  refine⟨1,hp,?_,Fm.refl _ _⟩
  have a:=ZW 1 2 hp
  simp[h4,qs,yC,a,qzo]
 ·obtain⟨n1,n2,n3⟩:=h3 hb
  have e:Bs nb bs= .ms nb 0 0 (pk bs).length 1:=if_neg hb
  rw[e]at h4
  have s:=qhz .u8 (pk bs) hp nb n3
  have a:=Vc .u8 (pk bs) (.ms nb 0 0 (pk bs).length 1) 1 qh (by rw[zZ];omega) (pkne hb) hp s
  have f:=vS .u8 (pk bs) (hp.new (LI .u8 (pk bs))) hp.next (qQ _ _)
  refine⟨0,(hp.new (LI .u8 (pk bs))).del hp.next,?_,⟨by simp[Hp.del],fun c hc _=>?_⟩⟩
  ·generalize pk bs=pb at*
   simp[h4,qs,yC,a,f]
  ·have:c≠hp.next:=qe
   simp[Hp.del,Hp.new,this]
end
abbrev Kv(K:Int)(x:AV):AV:=.agg [.sc (.int .i64 K),x]
theorem qj0(K:Int)(q0 q1 p1:AV)(hp:Hp):∀(n:Nat) (a b acc:List Int) (k k':Nat),a.length+b.length=n->acc.length+n<=1000000->
 B43_3 (S k 1 (LI .u64 a)) (S k' 1 (LI .u64 b)) [.sc (.int .i64 K),p1] [q0,q1] [.sc (.int .i64 K),S 2 1 (LI .u64 acc)] hp=some (Kv K (S 2 1 (LI .u64 (acc++(mrg a b).take (K.toNat-acc.length)))),hp):=by
 intro n
 induction n using Nat.strongRecOn with
 |_ n ih=>
 intro a b acc k k' hn hlen
 have ap:∀x:Int,jn 8 1 (S 2 1 (LI .u64 acc)) (S 1 1 [.sc (.int .u64 x)])=some (S 2 1 (LI .u64 (acc++[x]))):=fun x=>Qu .u64 acc 2 (.inr rfl) 8 qh x qe
 have fin:B43_9 [q0,q1] [.sc (.int .i64 K),S 2 1 (LI .u64 acc)] hp=some (Kv K (S 2 1 (LI .u64 acc)),hp):=by
  rw[zdd]
  simp[qp,qo]
 rw[zdh]
 by_cases hK:(acc.length:Int)<K
 ·have hs:K.toNat-acc.length=(K.toNat-(acc.length+1))+1:=qe
  have goA:∀(x:Int) (r:List Int),r.length+1+b.length<=n->B43_6 (S k 1 (LI .u64 (x::r))) (S k' 1 (LI .u64 b)) [.sc (.int .i64 K),p1] [q0,q1] [.sc (.int .i64 K),S 2 1 (LI .u64 acc)] hp=some (Kv K (S 2 1 (LI .u64 (acc++(x::mrg r b).take (K.toNat-acc.length)))),hp):=by
   intro x r hle
   rw[zdf]
   have e:=yW (rk k) (LI .u64 (x::r)) .i64 1 qe (by simp only[kQ,zm5];omega)
   have i:=fun k=>ih (r.length+b.length) qe r b (acc++[x]) k k' rfl (by simp only[zm4,zm5,znn];omega)
   simp at i
   rw[hs,znl]
   simp[qs,ql,ap,e,qo,i]
  have goB:∀(y:Int) (r:List Int),a.length+(r.length+1)<=n->B43_8 (S k 1 (LI .u64 a)) (S k' 1 (LI .u64 (y::r))) [.sc (.int .i64 K),p1] [q0,q1] [.sc (.int .i64 K),S 2 1 (LI .u64 acc)] hp=some (Kv K (S 2 1 (LI .u64 (acc++(y::mrg a r).take (K.toNat-acc.length)))),hp):=by
   intro x r hle
   rw[zde]
   have e:=yW (rk k') (LI .u64 (x::r)) .i64 1 qe (by simp only[kQ,zm5];omega)
   have i:=fun k'=>ih (a.length+r.length) qe a r (acc++[x]) k k' rfl (by simp only[zm4,zm5,znn];omega)
   simp at i
   rw[hs,znl]
   simp[qs,ql,ap,e,qo,i]
  have wW:∀(x y:Int) (r s:List Int),r.length+s.length+2<=n->B43_4 (S k 1 (LI .u64 (x::r))) (S k' 1 (LI .u64 (y::s))) [.sc (.int .i64 K),p1] [q0,q1] [.sc (.int .i64 K),S 2 1 (LI .u64 acc)] hp=some (Kv K (S 2 1 (LI .u64 (acc++(x::mrg r s).take (K.toNat-acc.length)))),hp):=by
   intro x y r s hle
   rw[zdg]
   have e:=yW (rk k) (LI .u64 (x::r)) .i64 1 qe (by simp only[kQ,zm5];omega)
   have e':=yW (rk k') (LI .u64 (y::s)) .i64 1 qe (by simp only[kQ,zm5];omega)
   have i:=fun k k'=>ih (r.length+s.length) qe r s (acc++[x]) k k' rfl (by simp only[zm4,zm5,znn];omega)
   simp at i
   rw[hs,znl]
   simp[qs,ql,ap,e,e',qo,i]
  match a,b with
  |[],[]=>simp[qs,ql,hK,fin]
  |[],y::s=>
   have h:=goB y s (by simp at hn⊢;omega)
   simp at h
   have hw':IntKind.i64.wrap ((s.length:Int)+1)=(s.length:Int)+1:=qm qe (by simp at hn;omega)
   have p:(0:Int)<(s.length:Int)+1:=qe
   have z:¬((s.length:Int)+1=0):=qe
   simp[qs,ql,hK,hw',p,z,Ja,qa5,h]
  |x::r,[]=>
   have h:=goA x r (by simp at hn⊢;omega)
   simp at h
   have hw':IntKind.i64.wrap ((r.length:Int)+1)=(r.length:Int)+1:=qm qe (by simp at hn;omega)
   have p:(0:Int)<(r.length:Int)+1:=qe
   simp[qs,ql,hK,hw',p,Ja,h]
  |x::r,y::s=>
   have h1:=goA x r (by simp at hn⊢;omega)
   have h2:=goB y s (by simp at hn⊢;omega)
   have h3:=wW x y r s (by simp at hn⊢;omega)
   have hw':IntKind.i64.wrap ((r.length:Int)+1+((s.length:Int)+1))=(r.length:Int)+1+((s.length:Int)+1):=qm qe (by simp at hn;omega)
   have p:(0:Int)<(r.length:Int)+1+((s.length:Int)+1):=qe
   have p':(0:Int)<(r.length:Int)+1:=qe
   have z:¬((s.length:Int)+1=0):=qe
   have z':¬((r.length:Int)+1=0):=qe
   rw[zP]
   by_cases hxy:x<y
   ·simp[qs,ql,hK,hw',p,p',z,z',hxy,h1,Ja]
   ·by_cases hyx:y<x
    ·simp[qs,ql,hK,hw',p,p',z,z',hxy,hyx,h2,Ja,qa5]
    ·simp[qs,ql,hK,hw',p,p',z,z',hxy,hyx,h3,Ja,qa5]
 ·have hs:K.toNat-acc.length=0:=qe
  simp[qs,ql,hK,fin,hs]
theorem VX(K:Int)(B':AV)(a b:List Int)(k k':Nat)(hp:Hp)(hlen:a.length+b.length<=1000000):
 run cxX 43 [Kv K (S k 1 (LI .u64 a)),.agg [B',S k' 1 (LI .u64 b)]] hp=some (Kv K (S 2 1 (LI .u64 ((mrg a b).take K.toNat))),hp):=by
 rw[E43]
 have:=qj0 K (.sc (.int .i64 0)) (S 2 1 []) (S (rk k) 1 (LI .u64 a)) hp (a.length+b.length) a b [] (rk k) (rk k') rfl (by simpa using hlen)
 simp at this
 simp[ql,qs]
 exact this
theorem qyp(K:Int)(a:List Int)(n:Int)(k:Nat)(hp:Hp)(hlen:a.length+1<=1000000):
 run cxX 39 [Kv K (S k 1 (LI .u64 a)),.sc (.int .u64 n)] hp=some (Kv K (S 2 1 (LI .u64 ((mrg a [n]).take K.toNat))),hp):=by
 rw[E39]
 have m:=fun k k' hp=>VX K (.sc (.int .i64 K)) a [n] k k' hp (by simpa using hlen)
 simp[LI]at m
 simp[ql,qp,qo,LI,m]
theorem qoh(B B':AV)(a b:List Int)(k k':Nat)(hab:a.length=b.length)(hl:a.length<=1000000)(hp:Hp):∀(r s:List Int) (i:Nat),a.drop i=r->b.drop i=s->
 B132_4 (.int .i64 a.length) (.int .i64 i) [B,S k 1 (LI .u64 a)] [B',S k' 1 (LI .u64 b)] hp=some (.sc (.bool (decide (r=s))),hp):=by
 intro r
 induction r with
 |nil=>
  intro s i hr hs
  have h1:=qJ hr
  have h2:s=[]:=by rw[<-hs];exact zoc qe
  have hlt:¬((i:Int)<(a.length:Int)):=qe
  rw[qfe]
  simp[hlt,h2]
 |cons x r ih=>
  intro s i hr hs
  obtain⟨e1,e2,hi,e3⟩:=qt hr
  rw[qfe]
  have hw:IntKind.i64.wrap ((i:Int)+1)=((i+1:Nat):Int):=qj
  cases s with
  |nil=>have:=qJ hs;omega
  |cons y s=>
   obtain⟨f1,f2,hj,f3⟩:=qt hs
   have h:=ih s (i+1) e2 f2
   simp at h hw
   by_cases e:x=y
   ·simp[hi,hj,qs,ql,e3,f3,e,hw,h]
   ·simp[hi,hj,qs,ql,e3,f3,e]
theorem qsk(B B':Int)(a b:List Int)(k k':Nat)(hp:Hp)(ha:a.length<=1000000)(hb:b.length<=1000000):
 run cxX 132 [Kv B (S k 1 (LI .u64 a)),Kv B' (S k' 1 (LI .u64 b))] hp=some (.sc (.bool (decide (B=B'/\a=b))),hp):=by
 rw[E132]
 by_cases h1:B=B'
 ·by_cases h3:a.length=b.length
  ·have h:=qoh (.sc (.int .i64 B)) (.sc (.int .i64 B')) a b (rk k) (rk k') h3 ha hp a b 0 rfl rfl
   simp at h
   subst h1
   rw[h3]at h
   simp[ql,qs,h3,qw6,h]
  ·have h4:¬(a=b):=fun e=>h3 (by rw[e])
   have h5:¬((a.length:Int)=(b.length:Int)):=qe
   simp[ql,qs,h1,h4,h5,qff]
 ·simp[ql,qs,h1,qff]
def cut(few:Bool)(n:Int):Int:=if few then n%30 else n
theorem zat(K:Int)(few:Bool)(q0 q1:AV)(k:Nat)(l:List Int)(hK:K<=1000)(hl:l.length<=1000)(hpos:∀n∈l,0<=n)(hp:Hp):∀(r:List Int) (i:Nat) (acc:List Int) (k':Nat),l.drop i=r->acc.length<=1000->
 B32_3 (.bool few) (S k 1 (LI .u64 l)) (.int .i64 l.length) (.int .i64 i) [q0,q1] [.sc (.int .i64 K),S 2 1 (LI .u64 acc)] hp=some (Kv K (S 2 1 (LI .u64 (ZL K.toNat acc (r.map (cut few))))),hp):=by
 intro r
 induction r with
 |nil=>
  intro i acc k' hr ha
  have:=qJ hr
  have hlt:¬((i:Int)<(l.length:Int)):=qe
  rw[qmf]
  simp[hlt,qp,qo,ZL]
 |cons x r ih=>
  intro i acc k' hr ha
  obtain⟨e1,e2,hi,e3⟩:=qt hr
  have hx:=hpos x (znh e1)
  have hw:IntKind.i64.wrap ((i:Int)+1)=((i+1:Nat):Int):=qj
  have h:=ih (i+1) ((mrg acc [cut few x]).take K.toNat) k' e2 (by rw[zn9];omega)
  have d:=fun hp=>qyp K acc (cut few x) 3 hp qe
  have e7:B32_7 (.bool few) (.int .u64 (cut few x)) (S k 1 (LI .u64 l)) (.int .i64 l.length) (.int .i64 i) [q0,q1] [.sc (.int .i64 K),S 2 1 (LI .u64 acc)] hp=some (Kv K (S 2 1 (LI .u64 (ZL K.toNat acc ((x::r).map (cut few))))),hp):=by
   rw[zdm]
   simp at h hw
   simp[qp,qo,d,hw,h,ZL]
  rw[qmf]
  have hm:∀a b,qx Tryz.prog .rem 62 a b (.int .u64 x) (.int .u64 30)=some (.int .u64 (x%30)):=by
   intro a b;rw[zq _ _ _ _ _ _ _ qe,zo hx]
  cases few with
  |true=>
   simp[cut]at e7
   simp[hi,e3,ql,hm,e7,cut]
  |false=>
   simp[cut]at e7
   simp[hi,e3,ql,e7,cut]
theorem zef(c:Int)(few:Bool)(l:List Int)(k:Nat)(hc:0<=c/\c<256)(hl:l.length<=1000)(hpos:∀n∈l,0<=n)(hp:Hp):
 run cxX 32 [.sc (.int .u8 c),S k 1 (LI .u64 l),.sc (.bool few)] hp=some (Kv (1+c%20) (S 2 1 (LI .u64 (ZL (1+c%20).toNat [] (l.map (cut few))))),hp):=by
 rw[E32]
 have h1:∀x y,qx Tryz.prog .rem 5 x y (.int .u8 c) (.int .u8 20)=some (.int .u8 (c%20)):=by
  intro x y;rw[zq _ _ _ _ _ _ _ qe,zo hc.1]
 have w1:IntKind.i64.wrap (c%20)=c%20:=qm qe qe
 have w2:IntKind.i64.wrap (1+c%20)=1+c%20:=qm qe qe
 have hq:=zat (1+c%20) few (.sc (.int .i64 0)) (S 2 1 []) (rk k) l qe hl hpos hp l 0 [] 2 rfl qg
 simp at hq
 simp[h1,jV,w1,w2,hq]
@[simp] theorem ro_fn(f:FuncId)(c:List AV):ro (.fn f c)= .fn f c:=rfl
def Ye:List Int->Int
 |[]=>0
 |[_]=>0
 |x::y::r=>if y<=x then 8 else Ye (y::r)
def qt5(K:Int)(l:List Int):Int:=if K<1\/1024<K then 2 else if K<(l.length:Int)then 7 else Ye l
theorem qsz(l:List Int)(k:Nat)(hl:l.length<=4096)(hp:Hp):∀(r:List Int) (x:Int) (j:Nat),l.drop j=x::r->
 B152_4 (S k 1 (LI .u64 l)) (.int .i64 ((j+1:Nat):Int)) hp=some (.sc (.int .i64 (Ye (x::r))),hp):=by
 intro r
 induction r with
 |nil=>
  intro x j hr
  obtain⟨e1,e2,hi,e3⟩:=qt hr
  have:=qJ e2
  have hlt:¬((j:Int)+1<(l.length:Int)):=qe
  rw[Kz]
  simp[hlt,Ye]
 |cons y r ih=>
  intro x j hr
  obtain⟨e1,e2,hi,e3⟩:=qt hr
  obtain⟨f1,f2,hj,f3⟩:=qt e2
  have hlt:(j:Int)+1<(l.length:Int):=qe
  have hw:IntKind.i64.wrap ((j:Int)+1+1)=(j:Int)+1+1:=qm qe qe
  have hw2:IntKind.i64.wrap ((j:Int)+1-1)=(j:Int):=qj
  have hge:(0:Int)<=(j:Int)+1:=qe
  have htn:((j:Int)+1).toNat=j+1:=qe
  have g:=ih y (j+1) e2
  rw[Kz]
  simp at g hw2
  by_cases hq:y<=x
  ·simp[hlt,hge,htn,ql,f1,e1,hw2,hq,Ye]
  ·simp[hlt,hge,htn,ql,f1,e1,hw2,hq,Ye,hw,g]
theorem qh9(l:List Int)(k:Nat)(hl:l.length<=4096)(hp:Hp):run cxX 152 [S k 1 (LI .u64 l)] hp=some (.sc (.int .i64 (Ye l)),hp):=by
 rw[E152]
 have h1:¬((4096:Int)<(l.length:Int)):=qe
 cases l with
 |nil=>
  rw[Kz]
  simp[Ye]
 |cons x r=>
  have g:=qsz (x::r) k hl hp r x 0 rfl
  have h1:¬((4096:Int)<(r.length:Int)+1):=by simp at hl;omega
  simp at g
  simp[h1,g]
theorem qm6(K:Int)(l:List Int)(k:Nat)(hl:l.length<=1000000)(hp:Hp):run cxX 85 [Kv K (S k 1 (LI .u64 l))] hp=some (.sc (.int .i64 (qt5 K l)),hp):=by
 rw[E85]
 unfold qt5
 by_cases h1:K<1
 ·simp[ql,h1,qlt]
 ·by_cases h2:1024<K
  ·simp[ql,h1,h2,qlt]
  ·by_cases h3:K<(l.length:Int)
   ·simp[ql,qs,h1,h2,h3,qls]
   ·simp[ql,qs,h1,h2,h3,qls,qh9 l _ (show l.length<=4096 by omega)]
theorem xO(K:IntKind)(l:List Nat)(i:Nat)(h:i<l.length):(LI K (nz l))[i]?=some (.sc (.int K (l.getD i 0:Nat))):=by
 unfold LI nz
 rw[zno,zno,zm6,znb h]
 rfl
section
variable (l:List Nat)(k:Nat)(hl:l.length<=1000000)(h64:∀x∈l,x<18446744073709551616)(hr:qM l)
include hl h64 hr
theorem qp6(i:Nat)(hi:i<l.length)(hp:Hp):run cxX 164 [S k 1 (LI .u64 (nz l)),.sc (.int .i64 (i:Int))] hp=some (.sc (.int .u64 ((qw l).getD i 0:Nat)),hp):=by
 have g:=Xj l i hi
 have a0:=xO .u64 l 0 qe
 have ai:=xO .u64 l i hi
 rw[zm6,g,Option.getD_some,E164]
 by_cases h0:i=0
 ·subst h0
  rw[if_pos rfl]
  generalize l.getD 0 0=v at*
  simp[a0,ql]
 ·rw[if_neg h0]
  have aj:=xO .u64 l (i-1) qe
  have hlt:=vB l hr (i-1) qe
  have e:i-1+1=i:=qe
  rw[e]at hlt
  have hv:l.getD i 0<18446744073709551616:=by
   rw[zm6,znb hi]
   exact h64 _ (znm _)
  have w1:IntKind.i64.wrap ((i:Int)-1)=((i-1:Nat):Int):=qj
  have h0':¬((i:Int)=0):=qe
  have g0:(0:Int)<=((i-1:Nat):Int):=qe
  have g1:(0:Int)<=(i:Int):=qe
  generalize l.getD i 0=u at*
  generalize l.getD (i-1) 0=v at*
  have w2:IntKind.u64.wrap ((u:Int)-(v:Int))=(u:Int)-(v:Int):=qu qe qe
  have w3:IntKind.u64.wrap ((u:Int)-(v:Int)-1)=((u-v-1:Nat):Int):=by rw[qu]<;>omega
  have aj':(LI .u64 (nz l))[(((i-1:Nat):Int)).toNat]?=some (.sc (.int .u64 (v:Int))):=by rw[znc];exact aj
  generalize((i-1:Nat):Int)=j at*
  generalize((u-v-1:Nat):Int)=z at*
  simp[h0,ai,aj',ql,w1,g0,w2,w3]
theorem qun(kk:Nat)(hkk:kk<=63)(hp:Hp):∀(r:List Nat) (i n:Nat),(qw l).drop i=r->n+r.length*4160<4611686018427387904->
 B180_3 (S k 1 (LI .u64 (nz l))) (.int .i64 (kk:Int)) (.int .i64 (n:Int)) (.int .i64 (l.length:Int)) (.int .i64 (i:Int)) hp=
  some (.tup [.sc (.int .i64 ((xo kk r n).1:Nat)),.sc (.bool (xo kk r n).2)],hp):=by
 intro r
 induction r with
 |nil=>
  intro i n h hn
  have h1:=qJ h
  rw[kG]at h1
  have hlt:¬((i:Int)<(l.length:Int)):=qe
  rw[qee]
  simp[hlt,xo]
 |cons g r ih=>
  intro i n h hn
  obtain⟨e1,e2,hi,e3⟩:=qt h
  have hi':i<l.length:=by have:=hi;simp at this;omega
  have hlt:(i:Int)<(l.length:Int):=qe
  have gp:=qp6 l (rk k) hl h64 hr i hi' hp0
  have eg:(qw l).getD i 0=g:=by rw[zm6,e1];rfl
  rw[eg]at gp
  have sh:=fun o o'=>Je g kk qe o o' .i64
  rw[qee]
  unfold xo
  generalize hq:g/2^kk=q at*
  by_cases hc:4096<q
  ·have hg:(4096:Int)<(q:Int):=qe
   simp[hlt,gp,sh,hg,hc]
  ·have hg:¬((4096:Int)<(q:Int)):=qe
   have w1:IntKind.i64.wrap (q:Int)=(q:Int):=qm qe qe
   have w2:IntKind.i64.wrap ((q:Int)+1)=(q:Int)+1:=qm qe qe
   have w3:IntKind.i64.wrap ((q:Int)+1+(kk:Int))=(q:Int)+1+(kk:Int):=qm qe qe
   simp only[zm5]at hn
   have w4:IntKind.i64.wrap ((n:Int)+((q:Int)+1+(kk:Int)))=((n+(q+1+kk):Nat):Int):=qj
   have w5:IntKind.i64.wrap ((i:Int)+1)=((i+1:Nat):Int):=qj
   have hi2:=ih (i+1) (n+(q+1+kk)) e2 qe
   rw[if_neg hc]
   generalize((n+(q+1+kk):Nat):Int)=N at*
   generalize((i+1:Nat):Int)=I at*
   simp[hlt,gp,sh,hg,xE,w1,w2,w3,w4,w5,hi2]
theorem qy4(kk:Nat)(hkk:kk<=63)(hp:Hp):run cxX 180 [S k 1 (LI .u64 (nz l)),.sc (.int .i64 (kk:Int))] hp=
 some (.tup [.sc (.int .i64 ((xo kk (qw l) 0).1:Nat)),.sc (.bool (xo kk (qw l) 0).2)],hp):=by
 have h:=qun l k hl h64 hr kk hkk hp (qw l) 0 0 rfl qi
 rw[E180]
 simp at h
 simp[h]
theorem qnq(hp:Hp):∀(f j b:Nat) (m:Int),j+f=64->b<=63->
 B124_3 (S k 1 (LI .u64 (nz l))) (.int .i64 (b:Int)) (.int .i64 m) (.int .i64 (j:Int)) hp=some (.sc (.int .i64 (Ve (qw l) f j b m:Nat)),hp):=by
 intro f
 induction f with
 |zero=>
  intro j b m hj hb
  have hlt:¬((j:Int)<64):=qe
  rw[qfk]
  simp[hlt,Ve]
 |succ f ih=>
  intro j b m hj hb
  have hlt:(j:Int)<64:=qe
  have c:=qy4 l (rk k) hl h64 hr j qe hp0
  have w5:IntKind.i64.wrap ((j:Int)+1)=((j+1:Nat):Int):=qj
  have i1:=ih (j+1) j (xo j (qw l) 0).1 qe qe
  have i2:=ih (j+1) b m qe hb
  have c8:∀v3 v4,B124_8 (S k 1 (LI .u64 (nz l))) v3 v4 (.int .i64 (j:Int)) hp=B124_3 (S k 1 (LI .u64 (nz l))) v3 v4 (.int .i64 ((j+1:Nat):Int)) hp:=by
   intro v3 v4
   rw[qxf]
   generalize((j+1:Nat):Int)=J at*
   simp[w5]
  rw[qfk]
  unfold Ve
  simp only[zrh,zri]at i1 i2 c8
  generalize xo j (qw l) 0=C at*
  obtain⟨c1,c2⟩:=C
  cases c2
  ·simp[hlt,c,c8,i2]
  ·by_cases h1:m<0
   ·simp[hlt,c,h1,qfj,c8,i1]
   ·by_cases h2:(c1:Int)<m
    ·simp[hlt,c,h1,h2,qfj,c8,i1]
    ·simp[hlt,c,h1,h2,c8,i2]
theorem qca(hp:Hp):run cxX 124 [S k 1 (LI .u64 (nz l))] hp=some (.sc (.int .i64 (jd (qw l):Nat)),hp):=by
 have h:=qnq l k hl h64 hr hp 64 0 63 (-1) rfl qe
 rw[E124]
 simp at h
 simp[h,jd]
theorem qsy(kk w:Nat)(hkk:kk<=63)(hg:∀g∈qw l,g/2^kk<=4096):∀(r:List Nat) (i nb:Nat) (bs:List Bool) (hp:Hp),(qw l).drop i=r->i+r.length=l.length->bs.length+r.length*4160<7000000->BW hp w nb bs->
 ∃hp' nb',B104_7 (S k 1 (LI .u64 (nz l))) (.int .i64 (kk:Int)) (.ptr w 0 0) (.int .i64 (l.length:Int)) (.int .i64 (i:Int)) hp=
  B104_7 (S k 1 (LI .u64 (nz l))) (.int .i64 (kk:Int)) (.ptr w 0 0) (.int .i64 (l.length:Int)) (.int .i64 (l.length:Int)) hp'/\BS hp w nb hp' nb' (bs++jb kk r):=by
 intro r
 induction r with
 |nil=>
  intro i nb bs hp h hil hl2 hw
  have e:i=l.length:=by simpa using hil
  rw[e]
  exact⟨hp,nb,rfl,by simpa[jb]using hw,Fm.refl _ _,.inl rfl⟩
 |cons g r ih=>
  intro i nb bs hp h hil hl2 hw
  obtain⟨e1,e2,hi,e3⟩:=qt h
  simp only[zm5]at hl2 hil
  have hlt:(i:Int)<(l.length:Int):=qe
  have gp:=qp6 l (rk k) hl h64 hr i qe hp0
  have eg:(qw l).getD i 0=g:=by rw[zm6,e1];rfl
  rw[eg]at gp
  have hmem:g∈qw l:=by rw[<-e3];exact znm _
  have hq:=hg g hmem
  have hg64:=xC h64 g hmem
  have sh:=fun o o'=>Je g kk qe o o' .i64
  have w1:IntKind.i64.wrap ((g/2^kk:Nat):Int)=((g/2^kk:Nat):Int):=(fun(q:Nat) (h:q<=4096)=>qm (z:=(q:Int)) qe qe) _ hq
  have w5:IntKind.i64.wrap ((i:Int)+1)=((i+1:Nat):Int):=qj
  obtain⟨hp1,nb1,a1,a2⟩:=qb6 w nb (g/2^kk) bs hp qe hw
  obtain⟨hp2,nb2,b1,b2⟩:=YN w nb1 g kk (bs++una (g/2^kk)) hp1 hg64 qe qi a2.1
  obtain⟨hp3,nb3,c1,c2⟩:=ih (i+1) nb2 (bs++una (g/2^kk)++kp g kk) hp2 e2 qe qi b2.1
  refine⟨hp3,nb3,?_,?_⟩
  ·rw[<-c1,qfp]
   generalize hqq:((g/2^kk:Nat):Int)=q at*
   generalize((i+1:Nat):Int)=I at*
   simp[hlt,gp,sh,hqq,xE,w1,a1,b1,w5]
  ·have e:bs++jb kk (g::r)=bs++una (g/2^kk)++kp g kk++jb kk r:=by simp[jb]
   rw[e]
   exact(a2.trans hw.1 b2).trans hw.1 c2
end
theorem qnr:∀(l:List Nat),Ye (nz l)=0↔qM l:=by
 intro l
 induction l with
 |nil=>exact⟨fun _=>trivial,fun _=>rfl⟩
 |cons x r ih=>
  cases r with
  |nil=>exact⟨fun _=>trivial,fun _=>rfl⟩
  |cons y r=>
   have e:Ye (nz (x::y::r))=if((y:Nat):Int)<=((x:Nat):Int)then 8 else Ye (nz (y::r)):=rfl
   rw[e]
   by_cases h:y<=x
   ·rw[if_pos qe]
    exact⟨fun h=>absurd h qh,fun h'=>by have:=h'.1;omega⟩
   ·rw[if_neg qe]
    constructor
    ·intro h';exact⟨qe,ih.mp h'⟩
    ·intro h';exact ih.mpr h'.2
theorem qyi(l:List Nat)(k:Nat)(hl:l.length<=1024)(h64:∀x∈l,x<18446744073709551616)(hr:qM l)(hp:Hp):
 ∃t hp',run cxX 104 [S k 1 (LI .u64 (nz l))] hp=some (.tup [S t 1 (LI .u8 (zi l)),.sc (.int .i64 0)],hp')/\Fm [] hp hp':=by
 have rc:=qh9 (nz l) (rk k) qi hp0
 rw[(qnr l).mpr hr]at rc
 have pr:=qca l (rk k) qe h64 hr hp0
 obtain⟨k63,hq⟩:=QR (xC h64)
 have hbl:=Qk (jd (qw l)) k63 (qw l) hq
 rw[kG]at hbl
 have hlY:(pk (je (qw l))).length<700000:=by rw[zZ];unfold je;omega
 obtain⟨hp1,nb1,a1,a2⟩:=qsy l k qe h64 hr (jd (qw l)) hp.next k63 hq (qw l) 0 hp.next [] (hp.new [S 2 1 [],.sc (.int .i64 0)]) rfl qg qi (BW.new hp)
 obtain⟨a2,a3,a4⟩:=a2
 simp only[zny]at a2
 have hn1:hp.next<hp1.next:=by have:=a3.1;simp at this;omega
 --the bytes
 have wN:∀c,c<hp.next->hp1.get c=hp.get c:=by
  intro c hc
  rw[a3.2 c qi qi]
  exact(Fm.new [] hp _).2 c hc qg
 have hne:hp1.next≠hp.next:=qe
 have u1:=zY hp1.next l.length [] qe (by have:=qD (n:=l.length) qe;simp;omega) (hp1.new (Wc [])) (qQ _ _)
 rw[qgj,zny]at u1
 have u2:=jt hp1.next (uv l.length) (jd (qw l):Nat) (by have:=qD (n:=l.length) qe;omega) (hp1.new (Wc (uv l.length))) (qQ _ _)
 rw[qgj]at u2
 have BW2:∀x,BW (hp1.new x) hp.next nb1 (je (qw l)):=fun x=>a2.fr (Fm.new [] hp1 x) qg qg
 obtain⟨t1,hp2,v1,v2⟩:=QK hp.next nb1 (je (qw l)) (hp1.new (Wc (uv l.length++[(jd (qw l):Int)]))) (by unfold je;omega) (BW2 _)
 have r2:hp2.rd hp1.next 0=some (Wc (uv l.length++[(jd (qw l):Int)])):=by rw[v2.rd qg qg,qQ]
 have hL:=qD (n:=l.length) qe
 have hL2:=qD (n:=(pk (je (qw l))).length) qe
 have u3:=zY hp1.next (pk (je (qw l))).length (uv l.length++[(jd (qw l):Int)]) qe (by simp only[zm4,zng];omega) hp2 r2
 have BW3:=((BW2 _).fr v2 qg qg).fr (Fm.put (X:=[hp1.next]) hp2 hp1.next (Wc (uv l.length++[(jd (qw l):Int)]++uv (pk (je (qw l))).length)) qg) qi (by
  simp
  have:=a2.2.2.1
  by_cases hb:je (qw l)=[]
  ·have:=a2.2.1 hb;omega
  ·have:=(a2.2.2.1 hb).1;omega)
 obtain⟨t2,hp3,x1,x2⟩:=QK hp.next nb1 (je (qw l)) _ (by unfold je;omega) BW3
 have r3:hp3.rd hp1.next 0=some (Wc (uv l.length++[(jd (qw l):Int)]++uv (pk (je (qw l))).length)):=by
  rw[x2.rd (by have:=v2.1;simp at this⊢;omega) qg,qr]
 have u4:=Qf hp1.next (uv l.length++[(jd (qw l):Int)]++uv (pk (je (qw l))).length) (pk (je (qw l))) (rk t2) (by simp only[zm4,zng];omega) hp3 r3
 have u5:=VS hp1.next (zi l) (by unfold zi;simp only[zm4,zng];omega) (hp3.put hp1.next 0 (Wc (zi l))) (qr _ _ _)
 refine⟨1,hp3.put hp1.next 0 (Wc (zi l)),?_,?_⟩
 ·have w3:IntKind.u8.wrap ((jd (qw l):Nat):Int)=((jd (qw l):Nat):Int):=zA qe qe
  have w4:IntKind.u64.wrap ((l.length:Nat):Int)=((l.length:Nat):Int):=qu qe qe
  have w6:IntKind.u64.wrap (((pk (je (qw l))).length:Nat):Int)=(((pk (je (qw l))).length:Nat):Int):=qu qe qe
  have w7:IntKind.u64.wrap ((((pk (je (qw l))).length:Nat):Int))=(((pk (je (qw l))).length:Nat):Int):=w6
  have e0:¬((l.length:Int)<(l.length:Int)):=qe
  have ey:uv l.length++[((jd (qw l):Nat):Int)]++uv (pk (je (qw l))).length++pk (je (qw l))=zi l:=rfl
  rw[ey]at u4
  rw[E104]
  simp only[Int.natCast_zero]at a1
  generalize jd (qw l)=kk at*
  generalize pk (je (qw l))=pb at*
  generalize zi l=Y at*
  generalize uv l.length=Z at*
  generalize uv pb.length=Z2 at*
  generalize Z++[(kk:Int)]++Z2=Q at*
  generalize Z++[(kk:Int)]=Q1 at*
  have b7:B104_7 (S k 1 (LI .u64 (nz l))) (.int .i64 (kk:Int)) (.ptr hp.next 0 0) (.int .i64 (l.length:Int)) (.int .i64 (l.length:Int)) hp1=some (.tup [S 1 1 (LI .u8 Y),.sc (.int .i64 0)],hp3.put hp1.next 0 (Wc Y)):=by
   rw[qfp]
   have wc0:Wc []=[S 2 1 []]:=rfl
   rw[wc0]at u1
   simp[w3,w4,w6,u1,u2,v1,u3,x1,u4,u5]
  rw[<-a1]at b7
  simp[rc,pr,b7]
 ·refine⟨by have:=v2.1;have:=x2.1;simp at *;omega,fun c hc _=>?_⟩
  have h1:c≠hp1.next:=qe
  have hv:=v2.1
  have hx:=x2.1
  simp at hv hx
  have e1:(hp3.put hp1.next 0 (Wc (zi l))).get c=hp3.get c:=by simp[Hp.put,h1]
  rw[e1,x2.2 c qi qg]
  have e2:∀x,(hp2.put hp1.next 0 x).get c=hp2.get c:=by intro x;simp[Hp.put,h1]
  rw[e2,v2.2 c qi qg]
  have e3:∀x,(hp1.new x).get c=hp1.get c:=by intro x;simp[Hp.new,h1]
  rw[e3,wN c hc]
theorem xh(K:IntKind)(x k:Nat)(hk:k<=K.bits)(t:TypeId)(o o':Operand)(K':IntKind):qx Tryz.prog .shr t o o' (.int K (x:Int)) (.int K' (k:Int))=some (.int K ((x/2^k:Nat):Int)):=by
 rw[jL _ _ _ _ _ _ _ _ qe,znc,zp0 hk,zon _ (Int.le_of_lt (Int.pow_pos qe))]
 simp
theorem qod(n last:Nat)(hn:n<=1000000)(hl:last<4294967296)(hp:Hp):∀(f k:Nat),k+f=33->k<=32->B128_2 (.int .i64 (n:Int)) (.int .u32 (last:Int)) (.int .i64 (k:Int)) hp=some (.sc (.int .i64 (Vf n last f k:Nat)),hp):=by
 intro f
 induction f with
 |zero=>intro k h h2;omega
 |succ f ih=>
  intro k h h2
  have w1:IntKind.u64.wrap (last:Int)=(last:Int):=qu qe qe
  have w2:IntKind.i64.wrap ((k:Int)+1)=((k+1:Nat):Int):=qj
  have w3:IntKind.u64.wrap (n:Int)=(n:Int):=qu qe qe
  have sh:=fun t o o'=>xh .u64 last (k+1) (by show k+1<=64;omega) t o o' .i64
  have b4:∀v,B128_4 v hp=some (.sc v,hp):=fun v=>by rw[qw8]
  rw[qxa]
  unfold Vf
  by_cases h0:0<n
  ·have h0':(n:Int)>0:=qe
   by_cases h1:n<=last/2^(k+1)
   ·by_cases hk:k=32
    ·subst hk
     have:last/2^33=0:=zqd (znp hl qh)
     have e:(32:Nat)+1=33:=rfl
     rw[e,this]at h1
     omega
    ·have hi:=ih (k+1) qe qe
     have h1':((last/2^(k+1):Nat):Int)>=(n:Int):=qe
     rw[if_pos ⟨h0,h1⟩]
     generalize((last/2^(k+1):Nat):Int)=q at*
     generalize((k+1:Nat):Int)=k1 at*
     simp[h0,yz,w1,w2,sh,yo,w3,h1',qw9,hi]
   ·have h1':¬(((last/2^(k+1):Nat):Int)>=(n:Int)):=qe
    rw[if_neg (fun c=>h1 c.2)]
    generalize((last/2^(k+1):Nat):Int)=q at*
    generalize((k+1:Nat):Int)=k1 at*
    have h1'':¬((n:Int)<=q):=h1'
    simp[h0,yz,w1,w2,sh,yo,w3,h1'',b4]
  ·have h0':¬((n:Int)>0):=qe
   rw[if_neg (fun c=>h0 c.1)]
   simp[h0,b4]
theorem qce(n last:Nat)(hn:n<=1000000)(hl:last<4294967296)(hp:Hp):run cxX 128 [.sc (.int .i64 (n:Int)),.sc (.int .u32 (last:Int))] hp=some (.sc (.int .i64 (WH n last:Nat)),hp):=by
 have h:=qod n last hn hl hp 33 0 rfl qe
 rw[E128]
 simp at h
 simp[h,WH]
theorem qnz:∀(l:List Nat),zO l->∀i,i+1<l.length->l.getD i 0<=l.getD (i+1) 0:=by
 intro l
 induction l with
 |nil=>intro _ i h;simp at h
 |cons x r ih=>
  intro hr i h
  cases r with
  |nil=>simp at h
  |cons y r=>
   cases i with
   |zero=>exact hr.1
   |succ i=>exact ih hr.2 i (by simpa using h)
theorem BW.lt{hp:Hp}{w nb:Nat}{bs:List Bool}(h:BW hp w nb bs):nb<hp.next:=by
 by_cases hb:bs=[]
 ·rw[h.2.1 hb];exact h.1
 ·exact(h.2.2.1 hb).1
def W2(h0:Nat)(hp:Hp)(w1 n1:Nat)(b1:List Bool)(w2 n2:Nat)(b2:List Bool):Prop:=
 BW hp w1 n1 b1/\BW hp w2 n2 b2/\w1≠w2/\n1≠w2/\n1≠n2/\w1≠n2/\h0<=w1/\h0<=w2/\h0<=n1/\h0<=n2
theorem W2.one{h0:Nat}{hp hp':Hp}{w1 n1 n1' w2 n2:Nat}{b1 b2 b1':List Bool}(h:W2 h0 hp w1 n1 b1 w2 n2 b2)(s:BS hp w1 n1 hp' n1' b1'):W2 h0 hp' w1 n1' b1' w2 n2 b2/\∀c,c<h0->hp'.get c=hp.get c:=by
 obtain⟨a1,a2,d1,d2,d3,d4,e1,e2,e3,e4⟩:=h
 obtain⟨s1,s2,s3⟩:=s
 have l1:=a1.lt
 have l2:=a2.lt
 have l3:=a2.1
 have l4:=a1.1
 refine⟨⟨s1,a2.fr s2 qi qi,d1,qe,qe,d4,e1,e2,qe,e4⟩,fun c hc=>s2.2 c qe qi⟩
theorem W2.two{h0:Nat}{hp hp':Hp}{w1 n1 n2' w2 n2:Nat}{b1 b2 b2':List Bool}(h:W2 h0 hp w1 n1 b1 w2 n2 b2)(s:BS hp w2 n2 hp' n2' b2'):W2 h0 hp' w1 n1 b1 w2 n2' b2'/\∀c,c<h0->hp'.get c=hp.get c:=by
 obtain⟨a1,a2,d1,d2,d3,d4,e1,e2,e3,e4⟩:=h
 obtain⟨s1,s2,s3⟩:=s
 have l1:=a1.lt
 have l2:=a2.lt
 have l3:=a2.1
 have l4:=a1.1
 refine⟨⟨a1.fr s2 qi qi,s1,d1,d2,qe,qe,e1,e2,e3,qe⟩,fun c hc=>s2.2 c qe qi⟩
theorem qq5{l:List Nat}(h32:∀x∈l,x<4294967296)(i:Nat)(hi:i<l.length):l.getD i 0<4294967296:=by
 rw[zm6,znb hi]
 exact h32 _ (znm _)
section
variable (l:List Nat)(k k':Nat)(hl:l.length<=4096)(h32:∀x∈l,x<4294967296)(hr:zO l)
include hl h32 hr
theorem zbg(kk w1 w2 h0:Nat)(hkk:kk<=32)(hq:qI l/2^kk<2*4096)(c0 c1:AV)(cs:List AV)(b2:List AV):∀(r:List Nat) (i p n1 n2:Nat) (bs1 bs2:List Bool) (hp:Hp),l.drop i=r->i+r.length=l.length->zO (p::r)->
 (i=0->p=0)->bs1.length+r.length*32<1000000->bs2.length+(qG kk (p/2^kk) r).length<1000000->W2 h0 hp w1 n1 bs1 w2 n2 bs2->
 ∃hp' n1' n2' v,B114_11 (S k 1 (LI .u32 (nz l))) (.ptr w1 0 0) (.ptr w2 0 0) (.int .u32 ((p/2^kk:Nat):Int)) (S k' 1 (LI .u32 (nz l))) (.int .i64 (l.length:Int)) (.int .i64 (i:Int)) b2 (c0::c1::.sc (.int .i64 (kk:Int))::cs) hp=
  B114_11 (S k 1 (LI .u32 (nz l))) (.ptr w1 0 0) (.ptr w2 0 0) v (S k' 1 (LI .u32 (nz l))) (.int .i64 (l.length:Int)) (.int .i64 (l.length:Int)) b2 (c0::c1::.sc (.int .i64 (kk:Int))::cs) hp'/\
  W2 h0 hp' w1 n1' (bs1++qN kk r) w2 n2' (bs2++qG kk (p/2^kk) r)/\(hp.next<=hp'.next/\∀c,c<h0->hp'.get c=hp.get c):=by
 intro r
 induction r with
 |nil=>
  intro i p n1 n2 bs1 bs2 hp h hil hpr hi0 hb1 hb2 hw
  have e:i=l.length:=by simpa using hil
  rw[e]
  exact⟨hp,n1,n2,_,rfl,by simpa[qN,qG]using hw,zm8 _,fun _ _=>rfl⟩
 |cons x r ih=>
  intro i p n1 n2 bs1 bs2 hp h hil hpr hi0 hb1 hb2 hw
  obtain⟨e1,e2,hi,e3⟩:=qt h
  simp only[zm5]at hb1 hil
  have hlt:(i:Int)<(l.length:Int):=qe
  have ai:=xO .u32 l i hi
  have ex:l.getD i 0=x:=by rw[zm6,e1];rfl
  have hx:x<4294967296:=by rw[<-ex];exact qq5 h32 i hi
  rw[ex]at ai
  have hd:p/2^kk<=x/2^kk:=zpn hpr.1
  have hxq:x/2^kk<=x:=zpj _ _
  have sh:=fun t o o'=>xh .u32 x kk (by show kk<=32;omega) t o o' .i64
  have hh:(qG kk (p/2^kk) (x::r)).length=(x/2^kk-p/2^kk)+1+(qG kk (x/2^kk) r).length:=by simp[qG]
  rw[hh]at hb2
  have w1':IntKind.u64.wrap (x:Int)=(x:Int):=qu qe qe
  have w2':IntKind.u32.wrap (((x/2^kk:Nat):Int)-((p/2^kk:Nat):Int))=((x/2^kk-p/2^kk:Nat):Int):=by rw[qK]<;>omega
  have w3':IntKind.i64.wrap ((x/2^kk-p/2^kk:Nat):Int)=((x/2^kk-p/2^kk:Nat):Int):=qm qe qe
  have w5:IntKind.i64.wrap ((i:Int)+1)=((i+1:Nat):Int):=qj
  obtain⟨hp1,m1,a1,a2⟩:=YN w1 n1 x kk bs1 hp qe qe qe hw.1
  obtain⟨hw1,hg1⟩:=hw.one a2
  obtain⟨hp2,m2,b1,b3⟩:=qb6 w2 n2 (x/2^kk-p/2^kk) bs2 hp1 qe hw1.2.1
  obtain⟨hw2,hg2⟩:=hw1.two b3
  obtain⟨hp3,m3,m4,v,r1,c2,c3⟩:=ih (i+1) x m1 m2 (bs1++kp x kk) (bs2++una (x/2^kk-p/2^kk)) hp2 e2 qe hpr.2 qe qi qi hw2
  have f1:=a2.2.1.1
  have f2:=b3.2.1.1
  refine⟨hp3,m3,m4,v,?_,?_,qe,fun c hc=>by rw[c3.2 c hc,hg2 c hc,hg1 c hc]⟩
  ·have b15:B114_15 (S k 1 (LI .u32 (nz l))) (.ptr w1 0 0) (.ptr w2 0 0) (.int .u32 ((p/2^kk:Nat):Int)) (.int .u32 (x:Int)) (S k' 1 (LI .u32 (nz l))) (.int .i64 (l.length:Int)) (.int .i64 (i:Int)) b2 (c0::c1::.sc (.int .i64 (kk:Int))::cs) hp=
    B114_11 (S k 1 (LI .u32 (nz l))) (.ptr w1 0 0) (.ptr w2 0 0) v (S k' 1 (LI .u32 (nz l))) (.int .i64 (l.length:Int)) (.int .i64 (l.length:Int)) b2 (c0::c1::.sc (.int .i64 (kk:Int))::cs) hp3:=by
    rw[<-r1,qpu]
    generalize((x/2^kk-p/2^kk:Nat):Int)=d at*
    generalize((i+1:Nat):Int)=I at*
    generalize((p/2^kk:Nat):Int)=P at*
    generalize((x/2^kk:Nat):Int)=X at*
    have gs:∀(a b:AV) (v:Value) (c:List AV),ql (a::b::.sc v::c) 2=some v:=fun _ _ _ _=>rfl
    simp[gs,yz,w1',a1,sh,w2',xF,w3',b1,w5]
   rw[qbd,<-b15]
   have g1:(0:Int)<=(i:Int):=qe
   have gs0:∀(v:Value),ql [.sc v] 0=some v:=fun _=>rfl
   by_cases hi1:i=0
   ·have hi2:(0<i)=False:=by simp[hi1]
    have hi4:(i<l.length)=True:=by simp[hi]
    clear hi1
    generalize((p/2^kk:Nat):Int)=P at*
    have en:∀h,(nz l)[i]'h=(x:Int):=fun h=>by simp[nz,e3]
    simp[hi4,ai,gs0,hi2,en]
   ·have aj:=xO .u32 l (i-1) qe
    have hle:=qnz l hr (i-1) qe
    have e:i-1+1=i:=qe
    rw[e,ex]at hle
    have w9:IntKind.i64.wrap ((i:Int)-1)=((i-1:Nat):Int):=qj
    have hi2:0<i:=qe
    have g0:(0:Int)<=((i-1:Nat):Int):=qe
    generalize l.getD (i-1) 0=y at*
    have hle':¬((x:Int)<(y:Int)):=qe
    have aj':(LI .u32 (nz l))[(((i-1:Nat):Int)).toNat]?=some (.sc (.int .u32 (y:Int))):=by rw[znc];exact aj
    generalize((i-1:Nat):Int)=j at*
    generalize((p/2^kk:Nat):Int)=P at*
    simp[hlt,ai,gs0,hi2,w9,aj',g0,hle']
  ·have q1:bs1++qN kk (x::r)=bs1++kp x kk++qN kk r:=by simp[qN]
   have q2:bs2++qG kk (p/2^kk) (x::r)=bs2++una (x/2^kk-p/2^kk)++qG kk (x/2^kk) r:=by simp[qG]
   rw[q1,q2]
   exact c2
end
def we(l:List Nat)(t1 t2:Nat):AV:=.agg [.sc (.int .i64 (l.length:Nat)),.sc (.int .u32 (qI l:Nat)),.sc (.int .i64 (qz l:Nat)),S t1 1 (LI .u8 (pk (qN (qz l) l))),S t2 1 (LI .u8 (pk (qG (qz l) 0 l)))]
theorem zbm:qz []=0:=rfl
section
variable (l:List Nat)(k:Nat)(hl:l.length<=4096)(h32:∀x∈l,x<4294967296)(hr:zO l)
include hl h32 hr
theorem xW(hne:l≠[]):qz l<=32/\qI l<4294967296/\(qG (qz l) 0 l).length<=3*4096:=by
 have hpos:=zop.mpr hne
 have hlast:qI l<4294967296:=qq5 h32 _ qe
 have h1:=qqr l.length (qI l) hlast
 have h2:=ZK hpos hlast
 have h3:=WL (qz l) l hr
 have h4:qz l=WH l.length (qI l):=rfl
 rw[h4]at h3⊢
 exact⟨h1,hlast,qe⟩
theorem qp7(hp:Hp):∃t1 t2 hp',run cxX 114 [S k 1 (LI .u32 (nz l))] hp=some (.tup [we l t1 t2,.sc (.int .i64 0)],hp')/\Fm [] hp hp':=by
 by_cases hne:l=[]
 ·subst hne
  refine⟨2,2,hp,?_,Fm.refl _ _⟩
  rw[E114]
  simp[we,zbm,nz,LI,qN,qG,qzo,qI]
 ·obtain⟨k32,hlast,hhb⟩:=xW l hl h32 hr hne
  have hpos:=zop.mpr hne
  have hlow:=qce l.length (qI l) qe hlast hp0
  have e4:WH l.length (qI l)=qz l:=rfl
  rw[e4]at hlow
  have hq:=ZK hpos hlast
  rw[e4]at hq
  have w1:IntKind.i64.wrap ((l.length:Int)-1)=((l.length-1:Nat):Int):=qj
  have al:=xO .u32 l (l.length-1) qe
  have e5:l.getD (l.length-1) 0=qI l:=rfl
  rw[e5]at al
  let hpA:=(hp.new [S 2 1 [],.sc (.int .i64 0)]).new [S 2 1 [],.sc (.int .i64 0)]
  have b1:BW hpA hp.next hp.next []:=(BW.new hp).fr (Fm.new [] _ _) qg qg
  have b2:BW hpA (hp.next+1) (hp.next+1) []:=BW.new (hp.new [S 2 1 [],.sc (.int .i64 0)])
  have hw:W2 hp.next hpA hp.next hp.next [] (hp.next+1) (hp.next+1) []:=⟨b1,b2,qe,qe,qe,qe,qe,qe,qe,qe⟩
  have hnA:hpA.next=hp.next+1+1:=rfl
  obtain⟨hp1,n1,n2,v,c1,c2,c3⟩:=zbg l k (rk k) hl h32 hr (qz l) hp.next (hp.next+1) hp.next k32 qe (.sc (.int .i64 (l.length:Int))) (.sc (.int .u32 (qI l:Nat))) [S 2 1 [],S 2 1 []]
   [.sc (.int .i64 0),.sc (.int .u32 0),.sc (.int .i64 0),S 2 1 [],S 2 1 []] l 0 0 hp.next (hp.next+1) [] [] hpA rfl qg (jI hr) (fun _=>rfl) qi (by rw[zqz];simp;omega) hw
  simp only[zqz,zny]at c1 c2
  obtain⟨t1,hp2,d1,d2⟩:=QK hp.next n1 (qN (qz l) l) hp1 (by simp;have:l.length*qz l<=4096*32:=znz hl k32;omega) c2.1
  obtain⟨t2,hp3,f1,f2⟩:=QK (hp.next+1) n2 (qG (qz l) 0 l) hp2 qe (c2.2.1.fr d2 qg qg)
  have hnx:hp.next<=hp3.next:=by have:=d2.1;have:=f2.1;have:=c3.1;omega
  refine⟨t1,t2,hp3,?_,hnx,fun c hc _=>?_⟩
  ·have b11:B114_11 (S k 1 (LI .u32 (nz l))) (.ptr hp.next 0 0) (.ptr (hp.next+1) 0 0) v (S (rk k) 1 (LI .u32 (nz l))) (.int .i64 (l.length:Int)) (.int .i64 (l.length:Int))
    [.sc (.int .i64 0),.sc (.int .u32 0),.sc (.int .i64 0),S 2 1 [],S 2 1 []] [.sc (.int .i64 (l.length:Int)),.sc (.int .u32 (qI l:Nat)),.sc (.int .i64 (qz l:Nat)),S 2 1 [],S 2 1 []] hp1=some (.tup [we l t1 t2,.sc (.int .i64 0)],hp3):=by
    rw[qbd]
    unfold we
    generalize pk (qN (qz l) l)=A at*
    generalize pk (qG (qz l) 0 l)=B at*
    simp[d1,f1,qo,qp]
   rw[<-c1]at b11
   have h1:¬((l.length:Int)>4096):=qe
   have h2:¬((l.length:Int)=0):=qe
   have g0:(0:Int)<=((l.length-1:Nat):Int):=qe
   have al':(nz l)[(((l.length-1:Nat):Int)).toNat]?=some ((qI l:Nat):Int):=by
    rw[znc];unfold nz qI
    rw[zno,zm6,znb qe];rfl
   have gs0:∀(v:Value),ql [.sc v] 0=some v:=fun _=>rfl
   have gs1:∀(x:AV) (v:Value) (r:List AV),ql (x::.sc v::r) 1=some v:=fun _ _ _=>rfl
   have h1':¬((4096:Int)<(l.length:Int)):=qe
   rw[E114]
   generalize((l.length-1:Nat):Int)=j at*
   generalize we l t1 t2=FR at*
   simp at b11
   simp[h1',hne,w1,al',g0,gs0,gs1,hlow]
   exact b11
  ·rw[f2.2 c (by have:=d2.1;have:=c3.1;omega) qg,d2.2 c (by have:=c3.1;omega) qg,c3.2 c hc]
   show((hp.new _).new _).get c=_
   have e1:c≠hp.next:=qe
   have e2:c≠hp.next+1:=qe
   simp[Hp.new,e1,e2]
theorem qyv(w t1 t2:Nat)(Z:List Int)(hZ:Z.length+(zE l).length<=1000000)(hp:Hp)(h:hp.rd w 0=some (Wc Z)):
 run cxX 115 [we l t1 t2,.ptr w 0 0] hp=some (.tup [],hp.put w 0 (Wc (Z++zE l))):=by
 have hlast:qI l<4294967296:=by
  by_cases hne:l=[]
  ·subst hne;show(0:Nat)<_;omega
  ·exact(xW l hl h32 hr hne).2.1
 unfold we
 have eY:zE l=uv l.length++uv (qI l)++pk (qN (qz l) l)++uv (pk (qG (qz l) 0 l)).length++pk (qG (qz l) 0 l):=rfl
 rw[eY]at hZ⊢
 generalize pk (qN (qz l) l)=A at*
 generalize pk (qG (qz l) 0 l)=B at*
 simp only[zm4]at hZ
 have u1:=zY w l.length Z qe qe hp h
 have u2:=zY w (qI l) (Z++uv l.length) qe (by simp only[zm4];omega) _ (qr hp w (Wc (Z++uv l.length)))
 rw[qB]at u2
 have u3:=Qf w (Z++uv l.length++uv (qI l)) A (rk t1) (by simp only[zm4];omega) _ (qr hp w _)
 rw[qB]at u3
 have u4:=zY w B.length (Z++uv l.length++uv (qI l)++A) qe (by simp only[zm4];omega) _ (qr hp w _)
 rw[qB]at u4
 have u5:=Qf w (Z++uv l.length++uv (qI l)++A++uv B.length) B (rk t2) (by simp only[zm4];omega) _ (qr hp w _)
 rw[qB]at u5
 have w1:IntKind.u64.wrap (l.length:Int)=(l.length:Int):=qu qe qe
 have w2:IntKind.u64.wrap ((qI l:Nat):Int)=((qI l:Nat):Int):=qu qe qe
 have w3:IntKind.u64.wrap (B.length:Int)=(B.length:Int):=qu qe qe
 have eZ:Z++(uv l.length++uv (qI l)++A++uv B.length++B)=Z++uv l.length++uv (qI l)++A++uv B.length++B:=by simp only[znq]
 rw[eZ]
 generalize Z++uv l.length++uv (qI l)++A++uv B.length++B=Z5 at*
 generalize Z++uv l.length++uv (qI l)++A++uv B.length=Z4 at*
 generalize Z++uv l.length++uv (qI l)++A=Z3 at*
 generalize Z++uv l.length++uv (qI l)=Z2 at*
 generalize Z++uv l.length=Z1 at*
 have gs1:∀(x:AV) (v:Value) (r:List AV),ql (x::.sc v::r) 1=some v:=fun _ _ _=>rfl
 have gs0:∀(v:Value) (r:List AV),ql (.sc v::r) 0=some v:=fun _ _=>rfl
 rw[E115]
 simp[gs0,gs1,qs,yo,w1,u1,yz,w2,u2,u3,w3,u4,u5]
end
theorem qds(x c:Nat)(hx:x<18446744073709551616)(hc:c<18446744073709551616)(t:TypeId)(o o':Operand):qx Tryz.prog .and t o o' (.int .u64 (x:Int)) (.int .u64 (c:Int))=some (.int .u64 ((x&&&c:Nat):Int)):=by
 rw[zm]
 have hl:x&&&c<=x:=Nat.and_le_left
 have e:(BitVec.ofInt IntKind.u64.bits (x:Int)&&&BitVec.ofInt IntKind.u64.bits (c:Int)).toNat=x&&&c:=by
  show(BitVec.ofInt 64 (x:Int)&&&BitVec.ofInt 64 (c:Int)).toNat=_
  rw[zo3,zo3,zp2,zo2,zo2]
  rw[zol qe,zol qe]
 rw[e,qu qe qe]
theorem zmg(x:Nat)(hx:x<18446744073709551616):f1 8 x<18446744073709551616:=by
 unfold f1
 have e:mkB 85 8=6148914691236517205:=qh
 rw[e]
 have h1:(x/2)&&&6148914691236517205<=6148914691236517205:=zq8
 have h2:x&&&6148914691236517205<=6148914691236517205:=zq8
 omega
theorem zmf(x:Nat):f2 8 x<7378697629483820647:=by
 unfold f2
 have e:mkB 51 8=3689348814741910323:=qh
 rw[e]
 have h1:(x/4)&&&3689348814741910323<=3689348814741910323:=zq8
 have h2:x&&&3689348814741910323<=3689348814741910323:=zq8
 omega
theorem zg3(r:Nat)(hr:r<9223372036854775808)(t:TypeId)(o o':Operand):qx Tryz.prog .and t o o' (.int .i64 (r:Int)) (.int .i64 127)=some (.int .i64 ((r%128:Nat):Int)):=by
 rw[zm]
 have e9:(BitVec.ofInt IntKind.i64.bits (r:Int)&&&BitVec.ofInt IntKind.i64.bits ((127:Nat):Int)).toNat=r%128:=by
  show(BitVec.ofInt 64 (r:Int)&&&BitVec.ofInt 64 ((127:Nat):Int)).toNat=_
  rw[zo3,zo3,zp2,zo2,zo2,zol (show r<2^64 by omega),zol (show 127<2^64 by omega)]
  exact zp1 r 7
 have i127:((127:Nat):Int)=127:=rfl
 rw[i127]at e9
 rw[e9,qm qe qe]
theorem qzh(x:Nat)(hx:x<18446744073709551616):∃y z q d e r:Nat,(x/2&&&6148914691236517205)+(x&&&6148914691236517205)=y/\y<18446744073709551616/\
 (y/4&&&3689348814741910323)+(y&&&3689348814741910323)=z/\z<7378697629483820647/\(z/16+z)&&&1085102592571150095=q/\q<651061555542690057/\q+q/256=d/\d+d/65536=e/\e+e/4294967296=r/\r<9223372036854775808/\r%128=zw x 64:=by
 have m1:mkB 85 8=6148914691236517205:=qh
 have m2:mkB 51 8=3689348814741910323:=qh
 have m3:mkB 15 8=1085102592571150095:=qh
 have h1:=zmg x hx
 have h2:=zmf (f1 8 x)
 have h3:=zjv 8 x (znp hx qh)
 have cb:∀y,zw y 8<=8:=fun y=>vG y 8
 have hc:cB x 8=((((((zw (x/256/256/256/256/256/256/256%256) 8*256+zw (x/256/256/256/256/256/256%256) 8)*256+zw (x/256/256/256/256/256%256) 8)*256+zw (x/256/256/256/256%256) 8)*256+
  zw (x/256/256/256%256) 8)*256+zw (x/256/256%256) 8)*256+zw (x/256%256) 8)*256+zw (x%256) 8:=by
  simp only[cB,zp5,znf]
 obtain⟨p1,d,hd,e,he,p2,p3⟩:=qzi _ _ _ _ _ _ _ _ _ (cb _) (cb _) (cb _) (cb _) (cb _) (cb _) (cb _) (cb _) hc
 rw[<-qte]at p3
 refine⟨f1 8 x,f2 8 (f1 8 x),cB x 8,d,e,_,?_,h1,?_,h2,?_,p1,hd.symm,he.symm,rfl,p2,p3⟩
 ·rw[<-m1];rfl
 ·rw[<-m2];rfl
 ·rw[<-h3,<-m3];rfl
noncomputable def qz8(k1 k2 k4 k8 k16 k32 c85 c51 c15 k127:Int)(a0:AV)(hp:Hp):Option (AV×Hp):=aS a0 fun y0=>bC .shr 62 3 y0 (.int .u64 k1) fun y1=>bC .and 62 4 y1 (.int .u64 c85) fun y2=>bC .and 62 6 y0 (.int .u64 c85) fun y3=>bT .add 62 5 7 y2 y3 fun y4=>bC .shr 62 9 y4 (.int .u64 k2) fun y5=>bC .and 62 10 y5 (.int .u64 c51) fun y6=>bC .and 62 12 y4 (.int .u64 c51) fun y7=>bT .add 62 11 13 y6 y7 fun y8=>bC .shr 62 15 y8 (.int .u64 k4) fun y9=>bT .add 62 16 17 y9 y8 fun y10=>bC .and 62 18 y10 (.int .u64 c15) fun y11=>bC .shr 62 21 y11 (.int .u64 k8) fun y12=>bT .add 62 20 22 y11 y12 fun y13=>bC .shr 62 25 y13 (.int .u64 k16) fun y14=>bT .add 62 24 26 y13 y14 fun y15=>bC .shr 62 29 y15 (.int .u64 k32) fun y16=>bT .add 62 28 30 y15 y16 fun y17=>cV 62 3 y17 fun y18=>bC .and 3 33 y18 (.int .i64 k127) fun y19=>rQ (.sc y19) hp
theorem zfk(a0:AV)(hp:Hp):run cxX 178 [a0] hp=qz8 (.ofNat 1) (.ofNat 2) (.ofNat 4) (.ofNat 8) (.ofNat 16) (.ofNat 32) (.ofNat 6148914691236517205) (.ofNat 3689348814741910323) (.ofNat 1085102592571150095) (.ofNat 127) a0 hp:=by
 delta qz8
 have h:=E178 a0 hp
 with_reducible exact h
theorem YJ(x:Nat)(hx:x<18446744073709551616)(hp:Hp):run cxX 178 [.sc (.int .u64 (x:Int))] hp=some (.sc (.int .i64 (zw x 64:Nat)),hp):=by
 obtain⟨y,z,q,d,e,r,h1,b1,h2,b2,h3,b3,h4,h5,h6,b6,h7⟩:=qzh x hx
 have k64:∀n:Nat,n<=64->n<=IntKind.u64.bits:=fun n h=>h
 have s1:=fun t o o'=>xh .u64 x 1 (k64 1 qe) t o o' .u64
 have a1:=qds (x/2^1) 6148914691236517205 qe qe
 have a2:=qds x 6148914691236517205 hx qe
 have s2:=fun t o o'=>xh .u64 y 2 (k64 2 qe) t o o' .u64
 have a3:=qds (y/2^2) 3689348814741910323 qe qe
 have a4:=qds y 3689348814741910323 b1 qe
 have s3:=fun t o o'=>xh .u64 z 4 (k64 4 qe) t o o' .u64
 have a5:=qds (z/2^4+z) 1085102592571150095 qe qe
 have s4:=fun t o o'=>xh .u64 q 8 (k64 8 qe) t o o' .u64
 have s5:=fun t o o'=>xh .u64 d 16 (k64 16 qe) t o o' .u64
 have s6:=fun t o o'=>xh .u64 e 32 (k64 32 qe) t o o' .u64
 have a7:=zg3 r b6
 rw[h7]at a7
 have d1:x/2^1=x/2:=qe
 have d2:y/2^2=y/4:=qe
 have d3:z/2^4=z/16:=qe
 have d4:q/2^8=q/256:=qe
 have d5:d/2^16=d/65536:=qe
 have d6:e/2^32=e/4294967296:=qe
 rw[d1]at s1 a1
 rw[d2]at s2 a3
 rw[d3]at s3 a5
 rw[d4]at s4
 rw[d5]at s5
 rw[d6]at s6
 rw[h3]at a5
 generalize(x/2&&&6148914691236517205)=u1 at*
 generalize(x&&&6148914691236517205)=u2 at*
 generalize(y/4&&&3689348814741910323)=u3 at*
 generalize(y&&&3689348814741910323)=u4 at*
 have w1:IntKind.u64.wrap ((u1:Int)+(u2:Int))=(y:Int):=by rw[qu]<;>omega
 have w2:IntKind.u64.wrap ((u3:Int)+(u4:Int))=(z:Int):=by rw[qu]<;>omega
 have w3:IntKind.u64.wrap (((z/16:Nat):Int)+(z:Int))=((z/16+z:Nat):Int):=by rw[qu]<;>omega
 have w4:IntKind.u64.wrap ((q:Int)+((q/256:Nat):Int))=(d:Int):=by rw[qu]<;>omega
 have w5:IntKind.u64.wrap ((d:Int)+((d/65536:Nat):Int))=(e:Int):=by rw[qu]<;>omega
 have w6:IntKind.u64.wrap ((e:Int)+((e/4294967296:Nat):Int))=(r:Int):=by rw[qu]<;>omega
 have w7:IntKind.i64.wrap (r:Int)=(r:Int):=qm qe qe
 have S1:∀t o o',qx Tryz.prog .shr t o o' (.int .u64 (x:Int)) (.int .u64 (Int.ofNat 1))=some (.int .u64 ((x/2:Nat):Int)):=s1
 have A1:∀t o o',qx Tryz.prog .and t o o' (.int .u64 ((x/2:Nat):Int)) (.int .u64 (Int.ofNat 6148914691236517205))=some (.int .u64 (u1:Int)):=a1
 have A2:∀t o o',qx Tryz.prog .and t o o' (.int .u64 (x:Int)) (.int .u64 (Int.ofNat 6148914691236517205))=some (.int .u64 (u2:Int)):=a2
 have S2:∀t o o',qx Tryz.prog .shr t o o' (.int .u64 (y:Int)) (.int .u64 (Int.ofNat 2))=some (.int .u64 ((y/4:Nat):Int)):=s2
 have A3:∀t o o',qx Tryz.prog .and t o o' (.int .u64 ((y/4:Nat):Int)) (.int .u64 (Int.ofNat 3689348814741910323))=some (.int .u64 (u3:Int)):=a3
 have A4:∀t o o',qx Tryz.prog .and t o o' (.int .u64 (y:Int)) (.int .u64 (Int.ofNat 3689348814741910323))=some (.int .u64 (u4:Int)):=a4
 have S3:∀t o o',qx Tryz.prog .shr t o o' (.int .u64 (z:Int)) (.int .u64 (Int.ofNat 4))=some (.int .u64 ((z/16:Nat):Int)):=s3
 have A5:∀t o o',qx Tryz.prog .and t o o' (.int .u64 ((z/16+z:Nat):Int)) (.int .u64 (Int.ofNat 1085102592571150095))=some (.int .u64 (q:Int)):=a5
 have S4:∀t o o',qx Tryz.prog .shr t o o' (.int .u64 (q:Int)) (.int .u64 (Int.ofNat 8))=some (.int .u64 ((q/256:Nat):Int)):=s4
 have S5:∀t o o',qx Tryz.prog .shr t o o' (.int .u64 (d:Int)) (.int .u64 (Int.ofNat 16))=some (.int .u64 ((d/65536:Nat):Int)):=s5
 have S6:∀t o o',qx Tryz.prog .shr t o o' (.int .u64 (e:Int)) (.int .u64 (Int.ofNat 32))=some (.int .u64 ((e/4294967296:Nat):Int)):=s6
 have A7:∀t o o',qx Tryz.prog .and t o o' (.int .i64 (r:Int)) (.int .i64 (Int.ofNat 127))=some (.int .i64 ((zw x 64:Nat):Int)):=a7
 rw[zfk]
 clear s1 s2 s3 s4 s5 s6 a1 a2 a3 a4 a5 a7 h1 h2 h3
 generalize Int.ofNat 6148914691236517205=c85 at*
 generalize Int.ofNat 3689348814741910323=c51 at*
 generalize Int.ofNat 1085102592571150095=c15 at*
 unfold qz8
 simp only[JL]
 rw[xJ,zm7,S1,zm7,A1,zm7,A2,zm7,jM,w1,zm7,S2,zm7,A3,zm7,A4,zm7,jM,w2,zm7,S3,zm7,jM,w3,zm7,A5,zm7,S4,zm7,jM,w4,zm7,S5,zm7,jM,w5,zm7,S6,zm7,jM,w6,zm7,xE,w7,zm7,A7,zm7]
def zX(m j:Nat):Nat:=m/2^(64*j)%18446744073709551616
theorem QC(m j:Nat):zX m j<18446744073709551616:=zp4 _ qh
theorem zds(m i:Nat):(zX m (i/64)).testBit (i%64)=m.testBit i:=by
 unfold zX
 have e:(18446744073709551616:Nat)=2^64:=rfl
 rw[e,zni,zn5]
 have h:i%64<64:=zp4 _ qh
 have e2:i%64+64*(i/64)=i:=qe
 simp only[h,decide_true,zqu]
 rw[e2]
abbrev Cc(c:Nat×Nat):List AV:=[.sc (.int .u32 (c.1:Int)),.sc (.int .u64 (zX c.2 0:Nat)),.sc (.int .u64 (zX c.2 1:Nat)),.sc (.int .u64 (zX c.2 2:Nat)),.sc (.int .u64 (zX c.2 3:Nat))]
theorem Qo(c:Nat×Nat)(j:Nat)(hj:j<4):ql (Cc c) (Nat.add 1 (Nat.add 0 j))=some (.int .u64 (zX c.2 j:Nat)):=by
 have:j=0\/j=1\/j=2\/j=3:=qe
 rcases this with e|e|e|e<;>subst e<;>rfl
theorem zcg:∀x:BitVec 8,(x&&&63#8).toNat=x.toNat%64:=qh
theorem zhv(c:Nat)(hc:c<256)(t:TypeId)(x y:Operand):qx Tryz.prog .and t x y (.int .u8 (c:Int)) (.int .u8 63)=some (.int .u8 ((c%64:Nat):Int)):=by
 rw[zm]
 have e1:(BitVec.ofInt 8 (c:Int)).toNat=c:=by
  rw[znt];omega
 have e2:(BitVec.ofInt IntKind.u8.bits (c:Int)&&&BitVec.ofInt IntKind.u8.bits 63).toNat=c%64:=by
  show(BitVec.ofInt 8 (c:Int)&&&63#8).toNat=_
  rw[zcg,e1]
 rw[e2,zA qe qe]
theorem Zx(c:Nat×Nat)(i:Nat)(hi:i<256)(hp:Hp):run cxX 122 [.agg (Cc c),.sc (.int .u8 (i:Int))] hp=some (.sc (.bool (c.2.testBit i)),hp):=by
 have s1:∀t o o',qx Tryz.prog .shr t o o' (.int .u8 (i:Int)) (.int .u64 6)=some (.int .u8 ((i/64:Nat):Int)):=fun t o o'=>xh .u8 i 6 qh t o o' .u64
 have ix:idx 4 (.int .u8 ((i/64:Nat):Int))=some (i/64):=zj .u8 qe
 have g:=Qo c (i/64) qe
 have a:=zhv i hi
 have s2:=fun t o o'=>xh .u64 (zX c.2 (i/64)) (i%64) (by show i%64<=64;omega) t o o' .u8
 have a2:=zkm (zX c.2 (i/64)/2^(i%64)) (zor (zpj _ _) (QC _ _))
 have tb:=zds c.2 i
 rw[zpc]at tb
 rw[<-tb,E122]
 generalize zX c.2 (i/64)/2^(i%64)%2=q at*
 generalize((zX c.2 (i/64)/2^(i%64):Nat):Int)=q1 at*
 generalize((i%64:Nat):Int)=q2 at*
 generalize hq3:((i/64:Nat):Int)=q3 at*
 have cn:qn 5 (.agg (Cc c))=some (Cc c):=rfl
 have eqq:decide ((q:Int)=1)=decide (q=1):=by
  by_cases h:q=1
  ·simp[h]
  ·rw[decide_eq_false h,decide_eq_false qe]
 have mr:List.map ro1 (Cc c)=Cc c:=rfl
 have g':ql (Cc c) (1+i/64)=some (.int .u64 (zX c.2 (i/64):Nat)):=by have:=g;simpa using this
 simp only[JL,cn,mr,zm7,xJ]
 simp[s1,ix,g',a,s2,a2,-zm]
 omega
theorem qzr(m:Nat):zw m 256=zw (zX m 0) 64+zw (zX m 1) 64+zw (zX m 2) 64+zw (zX m 3) 64:=by
 have h:∀j,zw (zX m j) 64=zw (m/2^(64*j)) 64:=fun j=>qqd _ 64 64 (zm8 _)
 have a:=Jl m 192 64
 have b:=Jl m 128 64
 have c:=Jl m 64 64
 have e0:m/2^(64*0)=m:=qg
 rw[h,h,h,h,e0]
 have e1:192+64=256:=rfl
 have e2:128+64=192:=rfl
 have e3:64+64=128:=rfl
 rw[e1]at a
 rw[e2]at b
 rw[e3]at c
 rw[a,b,c]
theorem ixw(a b c d:Int):ixV Tryz.prog 174 (.agg #[.int .u64 a,.int .u64 b,.int .u64 c,.int .u64 d]) (.int .i64 0)=some (.int .u64 a)
 /\ixV Tryz.prog 174 (.agg #[.int .u64 a,.int .u64 b,.int .u64 c,.int .u64 d]) (.int .i64 1)=some (.int .u64 b)
 /\ixV Tryz.prog 174 (.agg #[.int .u64 a,.int .u64 b,.int .u64 c,.int .u64 d]) (.int .i64 2)=some (.int .u64 c)
 /\ixV Tryz.prog 174 (.agg #[.int .u64 a,.int .u64 b,.int .u64 c,.int .u64 d]) (.int .i64 3)=some (.int .u64 d):=⟨qf,qf,qf,qf⟩
theorem Qg(c:Nat×Nat)(hp:Hp):run cxX 121 [.agg (Cc c)] hp=some (.sc (.int .i64 (zw c.2 256:Nat)),hp):=by
 have o0:=YJ (zX c.2 0) (QC _ _) hp0
 have o1:=YJ (zX c.2 1) (QC _ _) hp0
 have o2:=YJ (zX c.2 2) (QC _ _) hp0
 have o3:=YJ (zX c.2 3) (QC _ _) hp0
 have l0:=vG (zX c.2 0) 64
 have l1:=vG (zX c.2 1) 64
 have l2:=vG (zX c.2 2) 64
 have l3:=vG (zX c.2 3) 64
 obtain⟨i0,i1,i2,i3⟩:=ixw (zX c.2 0:Nat) (zX c.2 1:Nat) (zX c.2 2:Nat) (zX c.2 3:Nat)
 rw[qzr,E121]
 generalize zw (zX c.2 0) 64=n0 at*
 generalize zw (zX c.2 1) 64=n1 at*
 generalize zw (zX c.2 2) 64=n2 at*
 generalize zw (zX c.2 3) 64=n3 at*
 have w0:IntKind.i64.wrap (0+(n0:Int))=(n0:Int):=qj
 have w1:IntKind.i64.wrap ((n0:Int)+(n1:Int))=(n0:Int)+(n1:Int):=qj
 have w2:IntKind.i64.wrap ((n0:Int)+(n1:Int)+(n2:Int))=(n0:Int)+(n1:Int)+(n2:Int):=qj
 have w3:IntKind.i64.wrap ((n0:Int)+(n1:Int)+(n2:Int)+(n3:Int))=((n0+n1+n2+n3:Nat):Int):=qj
 have w00:IntKind.i64.wrap (n0:Int)=(n0:Int):=qj
 have cn:qn 5 (.agg (Cc c))=some (Cc c):=rfl
 have gn:qp (Cc c) 1 4=some [.sc (.int .u64 (zX c.2 0:Nat)),.sc (.int .u64 (zX c.2 1:Nat)),.sc (.int .u64 (zX c.2 2:Nat)),.sc (.int .u64 (zX c.2 3:Nat))]:=rfl
 have ca:∀a b c d:Int,xP (.agg [.sc (.int .u64 a),.sc (.int .u64 b),.sc (.int .u64 c),.sc (.int .u64 d)])=some (.agg #[.int .u64 a,.int .u64 b,.int .u64 c,.int .u64 d]):=fun _ _ _ _=>rfl
 generalize((n0+n1+n2+n3:Nat):Int)=N at*
 have b4:B121_3 (.int .i64 N) (.agg [.sc (.int .u64 (zX c.2 0:Nat)),.sc (.int .u64 (zX c.2 1:Nat)),.sc (.int .u64 (zX c.2 2:Nat)),.sc (.int .u64 (zX c.2 3:Nat))]) (.int .i64 4) hp=some (.sc (.int .i64 N),hp):=by
  rw[Qz];simp
 generalize((zX c.2 0:Nat):Int)=x0 at*
 generalize((zX c.2 1:Nat):Int)=x1 at*
 generalize((zX c.2 2:Nat):Int)=x2 at*
 generalize((zX c.2 3:Nat):Int)=x3 at*
 have mr:List.map ro1 (Cc c)=Cc c:=rfl
 simp only[JL,cn,mr,gn,zm7]
 simp
 rw[Qz]
 simp[ca,i0,o0,w00]
 rw[Qz]
 simp[ca,i1,o1,w1]
 rw[Qz]
 simp[ca,i2,o2,w2]
 rw[Qz]
 simp[ca,i3,o3,w3,b4]
theorem qr8(c:Nat×Nat)(hp:Hp):∀(f i:Nat),i+f=256->B190_4 (.int .i64 (jD c.2 i:Nat)) (.bool (decide (0<i)&&c.2.testBit (i-1))) (.int .i64 (i:Int)) (Cc c) hp=some (.sc (.int .i64 (jD c.2 256:Nat)),hp):=by
 intro f
 induction f with
 |zero=>
  intro i h
  have e:i=256:=qe
  subst e
  rw[qea]
  simp
 |succ f ih=>
  intro i h
  have hi:=ih (i+1) qe
  have hh:=Zx c i qe hp0
  have w1:IntKind.u8.wrap (i:Int)=(i:Int):=zA qe qe
  have w2:IntKind.i64.wrap ((i:Int)+1)=((i+1:Nat):Int):=qj
  have gn:qp (Cc c) 0 5=some (Cc c):=rfl
  have hlt:(i:Int)<256:=qe
  have hr:=Yc c.2 i
  have hr2:=vG c.2 i
  have e1:jD c.2 (i+1)=jD c.2 i+(c.2.testBit i&&!(decide (0<i)&&c.2.testBit (i-1))).toNat:=rfl
  have e2:(decide (0<i+1)&&c.2.testBit (i+1-1))=c.2.testBit i:=qg
  rw[e1,e2]at hi
  have b9:∀n:Int,B190_9 (.int .i64 n) (.bool (c.2.testBit i)) (.int .i64 (i:Int)) (Cc c) hp=B190_4 (.int .i64 n) (.bool (c.2.testBit i)) (.int .i64 ((i+1:Nat):Int)) (Cc c) hp:=by
   intro n
   rw[qv7]
   generalize((i+1:Nat):Int)=I at*
   simp[w2]
  have w3:IntKind.i64.wrap ((jD c.2 i:Int)+1)=((jD c.2 i+1:Nat):Int):=qj
  have mr:List.map ro1 (Cc c)=Cc c:=rfl
  rw[qea]
  generalize jD c.2 i=R at*
  generalize(decide (0<i)&&c.2.testBit (i-1))=was at*
  generalize hI:((i+1:Nat):Int)=I at*
  cases hb:c.2.testBit i
  ·rw[hb]at hi hh b9
   have hi':B190_4 (.int .i64 (R:Nat)) (.bool false) (.int .i64 I) (Cc c) hp=some (.sc (.int .i64 (jD c.2 256:Nat)),hp):=hi
   simp[hlt,gn,mr,yk,w1,hh,b9,hi']
  ·rw[hb]at hi hh b9
   cases was
   ·have hi':B190_4 (.int .i64 ((R+1:Nat):Int)) (.bool true) (.int .i64 I) (Cc c) hp=some (.sc (.int .i64 (jD c.2 256:Nat)),hp):=hi
    generalize((R+1:Nat):Int)=R1 at*
    simp[hlt,gn,mr,yk,w1,hh,qv8,w3,b9,hi']
   ·have hi':B190_4 (.int .i64 (R:Nat)) (.bool true) (.int .i64 I) (Cc c) hp=some (.sc (.int .i64 (jD c.2 256:Nat)),hp):=hi
    simp[hlt,gn,mr,yk,w1,hh,b9,hi']
theorem qh8(c:Nat×Nat)(hp:Hp):run cxX 190 [.agg (Cc c)] hp=some (.sc (.int .i64 (jD c.2 256:Nat)),hp):=by
 have h:=qr8 c hp 256 0 rfl
 have e:(decide (0<0)&&c.2.testBit (0-1))=false:=rfl
 rw[e]at h
 have e2:jD c.2 0=0:=rfl
 rw[e2]at h
 rw[E190]
 have cn:qn 5 (.agg (Cc c))=some (Cc c):=rfl
 have mr:List.map ro1 (Cc c)=Cc c:=rfl
 simp only[JL,cn,mr,zm7]
 exact h
theorem qiw(c:Nat×Nat)(hp:Hp):run cxX 177 [.agg (Cc c)] hp=some (.sc (.int .u8 (kind c.2:Nat)),hp):=by
 have m:=Qg c hp0
 have r:=qh8 c hp0
 have h1:=vG c.2 256
 have h2:=Yc c.2 256
 have cn:qn 5 (.agg (Cc c))=some (Cc c):=rfl
 have gn:qp (Cc c) 0 5=some (Cc c):=rfl
 have mr:List.map ro1 (Cc c)=Cc c:=rfl
 rw[E177]
 unfold kind
 generalize zw c.2 256=n at*
 generalize jD c.2 256=k at*
 obtain⟨A,hA⟩:∃A:Int,A=(n:Int)+1:=⟨_,rfl⟩
 obtain⟨T,hT⟩:∃T:Int,T=2*(k:Int):=⟨_,rfl⟩
 obtain⟨B,hB⟩:∃B:Int,B=2*(k:Int)+1:=⟨_,rfl⟩
 have w1:IntKind.i64.wrap ((n:Int)+1)=A:=qj
 have w2:IntKind.i64.wrap (2*(k:Int))=T:=qj
 have w3:IntKind.i64.wrap (T+1)=B:=qj
 have b3:B177_3 hp=some (.sc (.int .u8 0),hp):=by rw[qwe];simp
 have b4:B177_4 (.int .i64 B) hp=some (.sc (.int .u8 ((if 32<=2*k+1 then 1 else 2:Nat):Int)),hp):=by
  rw[qwd]
  by_cases h:32<=2*k+1
  ·have h':(32:Int)<=B:=qe
   rw[if_pos h]
   simp[h']
  ·have h':¬((32:Int)<=B):=qe
   rw[if_neg h]
   simp[h']
 by_cases d1:n+1<=32
 ·have c1:A<=32:=qe
  by_cases d2:n+1<=2*k+1
  ·have c2:A<=B:=qe
   rw[if_pos ⟨d1,d2⟩]
   simp[mr,gn,m,w1,r,w2,w3,c1,c2,b3]
  ·have c2:¬(A<=B):=qe
   rw[if_neg (fun h=>d2 h.2)]
   simp[mr,gn,m,w1,r,w2,w3,c1,c2]
   simp at b4
   exact b4
 ·have c1:¬(A<=32):=qe
  rw[if_neg (fun h=>d1 h.1)]
  simp[mr,gn,m,w1,r,w2,w3,c1]
  simp at b4
  exact b4
theorem zbx(c:Nat×Nat)(w:Nat):∀(f i:Nat) (Z:List Int) (hp:Hp),i+f=256->Z.length+f<=1000000->hp.rd w 0=some (Wc Z)->
 B158_17 (.ptr w 0 0) (.int .i64 (i:Int)) (Cc c) hp=some (.tup [],hp.put w 0 (Wc (Z++yI c.2 f i))):=by
 intro f
 induction f with
 |zero=>
  intro i Z hp h hZ hw
  have e:i=256:=qe
  subst e
  rw[qa8]
  simp[yI,jk hw]
 |succ f ih=>
  intro i Z hp h hZ hw
  have hh:=Zx c i qe hp0
  have w1:IntKind.u8.wrap (i:Int)=(i:Int):=zA qe qe
  have w2:IntKind.i64.wrap ((i:Int)+1)=((i+1:Nat):Int):=qj
  have gn:qp (Cc c) 0 5=some (Cc c):=rfl
  have hlt:(i:Int)<256:=qe
  have b21:∀hp',B158_21 (.ptr w 0 0) (.int .i64 (i:Int)) (Cc c) hp'=B158_17 (.ptr w 0 0) (.int .i64 ((i+1:Nat):Int)) (Cc c) hp':=by
   intro hp'
   rw[qph]
   generalize((i+1:Nat):Int)=I at*
   simp[w2]
  have mr:List.map ro1 (Cc c)=Cc c:=rfl
  rw[qa8]
  unfold yI
  cases hb:c.2.testBit i
  ·rw[hb]at hh
   have hi:=ih (i+1) Z hp qe qe hw
   rw[<-b21]at hi
   simp[hlt,gn,mr,yk,w1,hh,hi]
  ·rw[hb]at hh
   have wb:=jt w Z (i:Int) qe hp hw
   have hi:=ih (i+1) (Z++[(i:Int)]) (hp.put w 0 (Wc (Z++[(i:Int)]))) qe qi (qr _ _ _)
   rw[qB,znq,<-b21]at hi
   have e1:[(i:Int)]++yI c.2 f (i+1)=(i:Int)::yI c.2 f (i+1):=rfl
   rw[e1]at hi
   generalize yI c.2 f (i+1)=AA at*
   simp[hlt,gn,mr,hh,yk,w1,wb]
   exact hi
theorem qxq(m i:Nat):(zX m (i/8)/2^(8*(i%8)))%256=m/2^(8*i)%256:=by
 apply zog
 intro j
 have e:(256:Nat)=2^8:=rfl
 have e2:(18446744073709551616:Nat)=2^64:=rfl
 unfold zX
 rw[e,e2,zni,zni,zn5,zn5,zni,zn5]
 by_cases hj:j<8
 ·have h1:j+8*(i%8)<64:=qe
  have h2:j+8*(i%8)+64*(i/8)=j+8*i:=qe
  simp only[hj,h1,decide_true,zqu]
  rw[h2]
 ·simp[hj]
theorem zbw(c:Nat×Nat)(w:Nat):∀(f i:Nat) (Z:List Int) (hp:Hp),i+f=32->Z.length+f<=1000000->hp.rd w 0=some (Wc Z)->
 B158_24 (.ptr w 0 0) (.int .i64 (i:Int)) (Cc c) hp=some (.tup [],hp.put w 0 (Wc (Z++yG c.2 f i))):=by
 intro f
 induction f with
 |zero=>
  intro i Z hp h hZ hw
  have e:i=32:=qe
  subst e
  rw[qa7]
  simp[yG,jk hw]
 |succ f ih=>
  intro i Z hp h hZ hw
  have q:=qgi i qe
  have r:=qgg i
  have ix:idx 4 (.int .i64 ((i/8:Nat):Int))=some (i/8):=zj .i64 qe
  have g:=Qo c (i/8) qe
  have w1:IntKind.i64.wrap (8*((i%8:Nat):Int))=((8*(i%8):Nat):Int):=qj
  have s:=fun t o o'=>xh .u64 (zX c.2 (i/8)) (8*(i%8)) (by show 8*(i%8)<=64;omega) t o o' .i64
  have w2:IntKind.i64.wrap ((i:Int)+1)=((i+1:Nat):Int):=qj
  have hlt:(i:Int)<32:=qe
  have wdb:=qxq c.2 i
  have w3:IntKind.u8.wrap ((zX c.2 (i/8)/2^(8*(i%8)):Nat):Int)=((c.2/2^(8*i)%256:Nat):Int):=by
   rw[Qc,<-wdb]
   omega
  have wb:=jt w Z ((c.2/2^(8*i)%256:Nat):Int) qe hp hw
  have hi:=ih (i+1) (Z++[((c.2/2^(8*i)%256:Nat):Int)]) (hp.put w 0 (Wc (Z++[((c.2/2^(8*i)%256:Nat):Int)]))) qe qi (qr _ _ _)
  rw[qB,znq]at hi
  have e:yG c.2 (f+1) i=[((c.2/2^(8*i)%256:Nat):Int)]++yG c.2 f (i+1):=rfl
  rw[e,<-hi,qa7]
  generalize((c.2/2^(8*i)%256:Nat):Int)=y at*
  generalize((zX c.2 (i/8)/2^(8*(i%8)):Nat):Int)=x at*
  generalize((zX c.2 (i/8):Nat):Int)=x0 at*
  generalize((8*(i%8):Nat):Int)=x1 at*
  generalize((i%8:Nat):Int)=x2 at*
  generalize((i/8:Nat):Int)=x3 at*
  generalize((i+1:Nat):Int)=x4 at*
  have g':ql (Cc c) (1+i/8)=some (.int .u64 x0):=by have:=g;simpa using this
  simp[hlt,q,ix,g',r,w1,s,Xn,w3,wb,w2]
theorem zbv(c:Nat×Nat)(w:Nat)(i0:Nat):∀(f i:Nat) (hp:Hp),i+f=255->B158_11 (.ptr w 0 0) (.int .i64 (i:Int)) (.int .i64 (i0:Int)) (Cc c) hp=
 B158_13 (.ptr w 0 0) (.int .i64 (yw c.2 f i:Nat)) (.int .i64 (i0:Int)) (Cc c) hp:=by
 intro f
 induction f with
 |zero=>
  intro i hp h
  have e:i=255:=qe
  subst e
  rw[qa9]
  simp[yw]
 |succ f ih=>
  intro i hp h
  have hh:=Zx c (i+1) qe hp0
  have w1:IntKind.u8.wrap ((i+1:Nat):Int)=((i+1:Nat):Int):=zA qe qe
  have w2:IntKind.i64.wrap ((i:Int)+1)=((i+1:Nat):Int):=qj
  have gn:qp (Cc c) 0 5=some (Cc c):=rfl
  have hlt:(i:Int)<255:=qe
  have hi:=ih (i+1) hp qe
  rw[qa9]
  unfold yw
  have mr:List.map ro1 (Cc c)=Cc c:=rfl
  generalize((i+1:Nat):Int)=I at*
  cases hb:c.2.testBit (i+1)
  ·rw[hb]at hh
   simp[hlt,gn,mr,w2,yk,w1,hh]
  ·rw[hb]at hh
   simp[hlt,gn,mr,w2,yk,w1,hh,qpj,hi]
theorem qul(c:Nat×Nat)(w:Nat):∀(f i:Nat) (Z:List Int) (hp:Hp),256<=i+f->i<=256->Z.length+2*f<=1000000->hp.rd w 0=some (Wc Z)->
 B158_7 (.ptr w 0 0) (.int .i64 (i:Int)) (Cc c) hp=some (.tup [],hp.put w 0 (Wc (Z++kP c.2 f i))):=by
 intro f
 induction f with
 |zero=>
  intro i Z hp h hi256 hZ hw
  have e:i=256:=qe
  subst e
  rw[Kx]
  simp[kP,jk hw]
 |succ f ih=>
  intro i Z hp h hi256 hZ hw
  unfold kP
  by_cases h1:256<=i
  ·have hlt:¬((i:Int)<256):=qe
   rw[if_pos h1,Kx]
   simp[hlt,jk hw]
  ·have hlt:(i:Int)<256:=qe
   have hh:=Zx c i qe hp0
   have w1:IntKind.u8.wrap (i:Int)=(i:Int):=zA qe qe
   have gn:qp (Cc c) 0 5=some (Cc c):=rfl
   have b8:∀(j:Nat) hp',j<=255->B158_8 (.ptr w 0 0) (.int .i64 (j:Int)) (Cc c) hp'=B158_7 (.ptr w 0 0) (.int .i64 ((j+1:Nat):Int)) (Cc c) hp':=by
    intro j hp' hj
    have w2:IntKind.i64.wrap ((j:Int)+1)=((j+1:Nat):Int):=qj
    rw[qwo]
    generalize((j+1:Nat):Int)=I at*
    simp[w2]
   have mr:List.map ro1 (Cc c)=Cc c:=rfl
   rw[if_neg h1,Kx]
   cases hb:c.2.testBit i
   ·rw[hb]at hh
    have hi:=ih (i+1) Z hp qe qe qe hw
    have b8':=b8 i hp qe
    rw[<-b8']at hi
    simp[hlt,gn,mr,yk,w1,hh]
    exact hi
   ·rw[hb]at hh
    have ce:=zbv c w i (255-i) i hp qe
    obtain⟨r1,r2,r3,r4⟩:=wD c.2 (255-i) i
    have b8':=fun hp'=>b8 (yw c.2 (255-i) i) hp' qe
    generalize yw c.2 (255-i) i=e at*
    have w3:IntKind.i64.wrap ((e:Int)-(i:Int))=((e-i:Nat):Int):=qj
    have w4:IntKind.u8.wrap ((e-i:Nat):Int)=((e-i:Nat):Int):=zA qe qe
    have wp:=Qf w Z [(i:Int),((e-i:Nat):Int)] 0 qi hp hw
    have hi:=ih (e+1) (Z++[(i:Int),((e-i:Nat):Int)]) (hp.put w 0 (Wc (Z++[(i:Int),((e-i:Nat):Int)]))) qe qe qi (qr _ _ _)
    rw[qB,znq]at hi
    have b13:B158_13 (.ptr w 0 0) (.int .i64 (e:Int)) (.int .i64 (i:Int)) (Cc c) hp=some (.tup [],hp.put w 0 (Wc (Z++([(i:Int),((e-i:Nat):Int)]++kP c.2 f (e+1))))):=by
     rw[qpi,<-hi,<-b8']
     generalize((e-i:Nat):Int)=d at*
     have eS:S 0 1 (LI .u8 [(i:Int),d])=AV.sl 1 [.sc (.int .u8 (i:Int)),.sc (.int .u8 d)]:=rfl
     rw[eS]at wp
     simp[yk,w1,w3,w4,yC]
     simp at wp
     simp[wp]
    simp[hlt,gn,mr,yk,w1,hh,ce]
    simpa using b13
theorem Xa(m:Nat):kind m<=2:=by
 unfold kind
 split
 ·omega
 ·split<;>omega
theorem qy3(c:Nat×Nat)(w:Nat)(hc:YV c)(Z:List Int)(hZ:Z.length<=900000)(hp:Hp)(hw:hp.rd w 0=some (Wc Z)):
 run cxX 158 [.agg (Cc c),.ptr w 0 0] hp=some (.tup [],hp.put w 0 (Wc (Z++yF c))):=by
 have cn:qn 5 (.agg (Cc c))=some (Cc c):=rfl
 have gn:qp (Cc c) 0 5=some (Cc c):=rfl
 have gs:ql (Cc c) 0=some (.int .u32 (c.1:Int)):=rfl
 have mr:List.map ro1 (Cc c)=Cc c:=rfl
 have bk:=qiw c hp0
 have bm:=Qg c hp0
 have br:=qh8 c hp0
 have h16:=hc.1
 have w1:IntKind.u64.wrap (c.1:Int)=(c.1:Int):=qu qe qe
 have hu:=qD (n:=c.1) qe
 have u1:=zY w c.1 Z qe qe hp hw
 have u2:=jt w (Z++uv c.1) ((kind c.2:Nat):Int) qi (hp.put w 0 (Wc (Z++uv c.1))) (qr _ _ _)
 rw[qB]at u2
 have c1:=vG c.2 256
 have c2:=Yc c.2 256
 have c3:=Vo hc.2.2
 have c4:=hc.2.2
 have hZ2:(Z++uv c.1++[((kind c.2:Nat):Int)]).length<=900011:=qi
 have eY:Z++yF c=Z++uv c.1++[((kind c.2:Nat):Int)]++Zd c.2:=by unfold yF;simp
 rw[eY,E158]
 generalize hZ3:Z++uv c.1++[((kind c.2:Nat):Int)]=Z3 at*
 simp only[JL,cn,zm7]
 have k3:=Xa c.2
 unfold Zd
 by_cases k0:kind c.2=0
 ·rw[k0]at u2 bk
  rw[if_pos k0]
  have w2:IntKind.i64.wrap ((zw c.2 256:Nat)-1:Int)=((zw c.2 256-1:Nat):Int):=qj
  have w3:IntKind.u8.wrap ((zw c.2 256-1:Nat):Int)=((zw c.2 256-1:Nat):Int):=zA qe qe
  have u3:=jt w Z3 ((zw c.2 256-1:Nat):Int) qe (hp.put w 0 (Wc Z3)) (qr _ _ _)
  rw[qB]at u3
  have a:=zbx c w 256 0 (Z3++[((zw c.2 256-1:Nat):Int)]) (hp.put w 0 (Wc (Z3++[((zw c.2 256-1:Nat):Int)]))) rfl qi (qr _ _ _)
  rw[qB,znq]at a
  have e:[((zw c.2 256-1:Nat):Int)]++yI c.2 256 0=((zw c.2 256-1:Nat):Int)::yI c.2 256 0:=rfl
  rw[e]at a
  generalize((zw c.2 256-1:Nat):Int)=n1 at*
  generalize yI c.2 256 0=A at*
  simp at u2 a bk
  simp[mr,gn,gs,bk,yz,w1,u1,u2,bm,w2,w3,yk,u3]
  exact a
 ·by_cases k1:kind c.2=1
  ·rw[k1]at u2 bk
   rw[if_neg k0,if_pos k1]
   have a:=zbw c w 32 0 Z3 (hp.put w 0 (Wc Z3)) rfl qe (qr _ _ _)
   rw[qB]at a
   simp at u2 a bk
   simp[mr,gn,gs,bk,yz,w1,u1,u2]
   exact a
  ·have k2:kind c.2=2:=qe
   rw[k2]at u2 bk
   rw[if_neg k0,if_neg k1]
   have w2:IntKind.i64.wrap ((jD c.2 256:Nat)-1:Int)=((jD c.2 256-1:Nat):Int):=qj
   have w3:IntKind.u8.wrap ((jD c.2 256-1:Nat):Int)=((jD c.2 256-1:Nat):Int):=zA qe qe
   have u3:=jt w Z3 ((jD c.2 256-1:Nat):Int) qe (hp.put w 0 (Wc Z3)) (qr _ _ _)
   rw[qB]at u3
   have a:=qul c w 256 0 (Z3++[((jD c.2 256-1:Nat):Int)]) (hp.put w 0 (Wc (Z3++[((jD c.2 256-1:Nat):Int)]))) qe qe qi (qr _ _ _)
   rw[qB,znq]at a
   have e:[((jD c.2 256-1:Nat):Int)]++kP c.2 256 0=((jD c.2 256-1:Nat):Int)::kP c.2 256 0:=rfl
   rw[e]at a
   generalize((jD c.2 256-1:Nat):Int)=n1 at*
   generalize kP c.2 256 0=A at*
   simp at u2 a bk
   simp[mr,gn,gs,bk,yz,w1,u1,u2,br,w2,w3,yk,u3]
   exact a
def csL(cs:List (Nat×Nat)):List AV:=cs.flatMap Cc
@[simp] theorem vd (cs : List (Nat × Nat)) : (csL cs).length = 5 * cs.length := by
 induction cs with
 |nil=>rfl
 |cons c r ih=>
  have e:csL (c::r)=Cc c++csL r:=rfl
  rw[e,zm4,ih,zm5]
  show 5+5*r.length=5*(r.length+1)
  omega
theorem qhd(a b:List (Nat×Nat)):csL (a++b)=csL a++csL b:=by simp[csL]
theorem qrj{cs:List (Nat×Nat)}(h:csL cs=[]):cs=[]:=by
 have h1:=congrArg List.length h
 rw[vd]at h1
 exact znk.mp (by have:([]:List AV).length=0:=rfl;omega)
theorem zgp:∀(cs:List (Nat×Nat)) (i:Nat) (c:Nat×Nat),cs[i]?=some c->((csL cs).drop (i*5)).take 5=Cc c:=by
 intro cs
 induction cs with
 |nil=>intro i c h;cases h
 |cons d r ih=>
  intro i c h
  have e:csL (d::r)=Cc d++csL r:=rfl
  cases i with
  |zero=>
   have:d=c:=by simpa using h
   subst this
   rfl
  |succ i=>
   have h2:=ih i c (by simpa using h)
   have e2:(i+1)*5=5+i*5:=qe
   have l5:(Cc d).length=5:=rfl
   rw[e,e2,<-h2,zq9,l5,zoc (by rw[l5];omega),zny]
   congr 2
   omega
theorem Yi(k:Nat)(cs:List (Nat×Nat)):xU (S k 5 (csL cs))=some cs.length:=by
 rcases jp k 5 (csL cs)with e|e|⟨e,e'⟩
 ·rw[e];show some ((csL cs).length/5)=_;rw[vd];congr 1;omega
 ·rw[e];show some ((csL cs).length/5)=_;rw[vd];congr 1;omega
 ·rw[e,qrj e'];rfl
theorem wV(k:Nat)(cs:List (Nat×Nat))(i:Nat)(c:Nat×Nat)(h:cs[i]?=some c):jE 5 (S k 5 (csL cs)) (.int .i64 (i:Int))=some (Cc c):=by
 have hi:=(zne.mp h).1
 have key:(idx ((csL cs).length/5) (.int .i64 (i:Int))).bind (fun i=>qp (csL cs) (i*5) 5)=some (Cc c):=by
  have e:(csL cs).length/5=cs.length:=by rw[vd];omega
  rw[e,zj .i64 hi,zm7]
  unfold qp
  rw[if_pos (by rw[vd];omega),zgp cs i c h]
 rcases jp k 5 (csL cs)with e|e|⟨e,e'⟩
 ·rw[e];exact key
 ·rw[e];exact key
 ·rw[qrj e']at h;cases h
theorem qag{c:Nat×Nat}(hc:YV c):(yF c).length<=60:=by
 have h1:=qD (n:=c.1) (by have:=hc.1;omega)
 unfold yF Zd
 have a:=Ko c.2
 have b:=vA c.2
 have k3:=Xa c.2
 rw[zm4,zm5]
 by_cases k0:kind c.2=0
 ·rw[if_pos k0,zm5,a]
  unfold kind at k0
  split at k0
  ·rename_i h;omega
  ·split at k0<;>omega
 ·rw[if_neg k0]
  by_cases k1:kind c.2=1
  ·rw[if_pos k1,qkx];omega
  ·rw[if_neg k1,zm5,b]
   unfold kind at k0 k1
   split at k0
   ·omega
   ·rename_i h
    rw[if_neg h]at k1
    split at k1
    ·omega
    ·omega
theorem qr2(cs:List (Nat×Nat))(k w:Nat)(hcs:∀c∈cs,YV c)(hl:cs.length<=4096):∀(r:List (Nat×Nat)) (i:Nat) (Z:List Int) (hp:Hp),cs.drop i=r->Z.length+60*r.length<=900000->hp.rd w 0=some (Wc Z)->
 B100_2 (.ptr w 0 0) (S k 5 (csL cs)) (.int .i64 (cs.length:Int)) (.int .i64 (i:Int)) hp=some (.tup [],hp.put w 0 (Wc (Z++wU r))):=by
 intro r
 induction r with
 |nil=>
  intro i Z hp h hZ hw
  have h1:=qJ h
  have hlt:¬((i:Int)<(cs.length:Int)):=qe
  rw[qfr]
  simp[hlt,wU,jk hw]
 |cons c r ih=>
  intro i Z hp h hZ hw
  obtain⟨e1,e2,hi,e3⟩:=qt h
  simp only[zm5]at hZ
  have hlt:(i:Int)<(cs.length:Int):=qe
  have ix:=wV k cs i c e1
  have hc:YV c:=hcs c (by rw[<-e3];exact znm _)
  have cp:=qy3 c w hc Z qe hp hw
  have hcl:=qag hc
  have w2:IntKind.i64.wrap ((i:Int)+1)=((i+1:Nat):Int):=qj
  have hn:=ih (i+1) (Z++yF c) (hp.put w 0 (Wc (Z++yF c))) e2 qi (qr _ _ _)
  rw[qB,znq]at hn
  have gn:qp (Cc c) 0 5=some (Cc c):=rfl
  have cn:qn 5 (.agg (Cc c))=some (Cc c):=rfl
  have mr:List.map ro1 (Cc c)=Cc c:=rfl
  have pn:∀a b c' d e:Value,qo [.sc a,.sc b,.sc c',.sc d,.sc e] 0 (Cc c)=some (Cc c):=fun _ _ _ _ _=>rfl
  have e:wU (c::r)=yF c++wU r:=rfl
  rw[e,<-hn,qfr]
  generalize((i+1:Nat):Int)=I at*
  simp only[JL,vZ,hlt,decide_true,jm,zm7,cond_true,ix,gn,cn,pn,mr]
  have r0:ro (AV.ptr w 0 0)=AV.ptr w 0 0:=rfl
  have ra:ro (.agg (Cc c))= .agg (Cc c):=rfl
  simp only[JL,mr,cn,pn,gn,zm7,r0,ra,cp]
  simp[w2]
theorem qyg(cs:List (Nat×Nat))(k w:Nat)(hcs:∀c∈cs,YV c)(hl:cs.length<=4096)(Z:List Int)(hZ:Z.length<=100000)(hp:Hp)(hw:hp.rd w 0=some (Wc Z)):
 run cxX 100 [S k 5 (csL cs),.ptr w 0 0] hp=some (.tup [],hp.put w 0 (Wc (Z++jW cs))):=by
 have hu:=qD (n:=cs.length) qe
 have u1:=zY w cs.length Z qe qe hp hw
 have a:=qr2 cs (rk k) w hcs hl cs 0 (Z++uv cs.length) (hp.put w 0 (Wc (Z++uv cs.length))) rfl qi (qr _ _ _)
 rw[qB,znq]at a
 have w1:IntKind.u64.wrap (cs.length:Int)=(cs.length:Int):=qu qe qe
 rw[E100]
 have l5:=fun k=>Yi k cs
 simp at a
 simp[l5,yo,w1,u1,a,jW]
theorem quc(A L:List AV)(i:Nat):ql (A++L) (A.length+i)=ql L i:=by
 unfold ql
 rw[znu qe]
 congr 2
 omega
theorem qzf(A L M:List AV)(i:Nat)(vs:List AV)(h:qo L i vs=some M):qo (A++L) (A.length+i) vs=some (A++M):=by
 unfold qo at h⊢
 split at h
 ·rename_i hi
  rw[if_pos (by rw[zm4];omega)]
  have e:L.take i++vs++L.drop (i+vs.length)=M:=znv h
  rw[<-e,List.take_append,zn2 qe,zq9,zoc qe,zny]
  have e1:A.length+i-A.length=i:=qe
  have e2:A.length+i+vs.length-A.length=i+vs.length:=qe
  rw[e1,e2]
  simp
 ·cases h
theorem zhy(m i j:Nat)(hi:i<256):zX (m|||2^i) j=if j=i/64 then zX m j|||2^(i%64)else zX m j:=by
 apply zog
 intro k
 have e2:(18446744073709551616:Nat)=2^64:=rfl
 by_cases hj:j=i/64
 ·rw[if_pos hj]
  unfold zX
  rw[e2,zn4,zni,zni,zn5,zn5,zn4,jr,jr]
  by_cases hk:k<64
  ·have e:(i=k+64*j)↔(i%64=k):=qe
   simp only[hk,decide_true,zqu]
   congr 1
   exact decide_eq_decide.mpr e
  ·have:¬(i%64=k):=qe
   simp[hk,this]
 ·rw[if_neg hj]
  unfold zX
  rw[e2,zni,zni,zn5,zn5,zn4,jr]
  by_cases hk:k<64
  ·have:¬(i=k+64*j):=qe
   simp[this]
  ·simp[hk]
theorem zfd(x c:Nat)(hx:x<18446744073709551616)(hc:c<18446744073709551616)(t:TypeId)(o o':Operand):qx Tryz.prog .or t o o' (.int .u64 (x:Int)) (.int .u64 (c:Int))=some (.int .u64 ((x|||c:Nat):Int)):=by
 rw[zS]
 have hl:x|||c<2^64:=zrs hx hc
 have e:(BitVec.ofInt IntKind.u64.bits (x:Int)|||BitVec.ofInt IntKind.u64.bits (c:Int)).toNat=x|||c:=by
  show(BitVec.ofInt 64 (x:Int)|||BitVec.ofInt 64 (c:Int)).toNat=_
  rw[zo3,zo3,zpp,zo2,zo2]
  rw[zol qe,zol qe]
 rw[e,qu qe qe]
theorem shl1(k:Nat)(hk:k<64)(t:TypeId)(o o':Operand):qx Tryz.prog .shl t o o' (.int .u64 1) (.int .u8 (k:Int))=some (.int .u64 ((2^k:Nat):Int)):=by
 have hp:(2:Nat)^k<2^64:=zqr qh hk
 have e64:(2:Nat)^64=18446744073709551616:=rfl
 rw[zW _ _ _ _ _ _ _ _ qe,znc,zp0 (show k<=IntKind.u64.bits from zp9 hk),Int.one_mul]
 have e:(2:Int)^k=((2^k:Nat):Int):=qg
 rw[e]
 generalize 2^k=z at*
 rw[qu qe qe]
theorem ze1(c:Nat×Nat)(i:Nat)(hi:i<256):qo (Cc c) (1+i/64) [.sc (.int .u64 (zX c.2 (i/64)|||2^(i%64):Nat))]=some (Cc (c.1,c.2|||2^i)):=by
 have h:i/64=0\/i/64=1\/i/64=2\/i/64=3:=qe
 have w:=fun j=>zhy c.2 i j hi
 have e:Cc (c.1,c.2|||2^i)=[.sc (.int .u32 (c.1:Int)),.sc (.int .u64 (zX (c.2|||2^i) 0:Nat)),.sc (.int .u64 (zX (c.2|||2^i) 1:Nat)),.sc (.int .u64 (zX (c.2|||2^i) 2:Nat)),.sc (.int .u64 (zX (c.2|||2^i) 3:Nat))]:=rfl
 rw[e,w 0,w 1,w 2,w 3]
 rcases h with h|h|h|h<;>rw[h]<;>rfl
theorem qss(ds:List (Nat×Nat))(c:Nat×Nat)(b i:Nat)(hi:i<256)(hp:Hp)(h:hp.rd b 0=some (csL (ds++[c]))):
 run cxX 194 [.ptr b 0 (5*ds.length),.sc (.int .u8 (i:Int))] hp=some (.tup [],hp.put b 0 (csL (ds++[(c.1,c.2|||2^i)]))):=by
 have s1:∀t o o',qx Tryz.prog .shr t o o' (.int .u8 (i:Int)) (.int .u64 6)=some (.int .u8 ((i/64:Nat):Int)):=fun t o o'=>xh .u8 i 6 qh t o o' .u64
 have ix:idx 4 (.int .u8 ((i/64:Nat):Int))=some (i/64):=zj .u8 qe
 have a:=zhv i hi
 have s2:=shl1 (i%64) qe
 have h64:(2:Nat)^(i%64)<18446744073709551616:=zqr qh (show i%64<64 by omega)
 have o:=zfd (zX c.2 (i/64)) (2^(i%64)) (QC _ _) h64
 have e1:csL (ds++[c])=csL ds++Cc c:=by rw[qhd];simp[csL]
 have e2:csL (ds++[(c.1,c.2|||2^i)])=csL ds++Cc (c.1,c.2|||2^i):=by rw[qhd];simp[csL]
 have g:=quc (csL ds) (Cc c) (1+i/64)
 have g2:ql (Cc c) (1+i/64)=some (.int .u64 (zX c.2 (i/64):Nat)):=by have:=Qo c (i/64) qe;simpa using this
 rw[g2]at g
 have p:=qzf (csL ds) (Cc c) _ (1+i/64) _ (ze1 c i hi)
 have eo:(csL ds).length+(1+i/64)=5*ds.length+1+i/64:=by rw[vd];omega
 rw[eo]at g p
 rw[e1]at h
 rw[e2,E194]
 generalize csL ds++Cc c=L1 at*
 generalize csL ds++Cc (c.1,c.2|||2^i)=L2 at*
 generalize((zX c.2 (i/64)|||2^(i%64):Nat):Int)=q3 at*
 generalize((zX c.2 (i/64):Nat):Int)=q0 at*
 generalize((2^(i%64):Nat):Int)=q1 at*
 generalize((i%64:Nat):Int)=q2 at*
 generalize((i/64:Nat):Int)=q4 at*
 generalize 5*ds.length=N at*
 simp[s1,ix,h,g,a,s2,o,p,-zm,-zS]
theorem VE(j:Nat):zX 0 j=0:=by unfold zX;simp
theorem Xs:∀l,(jR l).length<=l.length:=by
 intro l
 induction l with
 |nil=>exact zm8 _
 |cons x r ih=>
  show(Yd x (jR r)).length<=_
  cases hq:jR r with
  |nil=>simp[Yd]
  |cons c s=>
   rw[hq]at ih
   rw[xl]
   split<;>simp at ih⊢<;>omega
section
variable (l:List Nat)(k k':Nat)(hl:l.length<=4096)(h32:∀x∈l,x<4294967296)(hr:qM l)
include hl h32 hr
end
def MW(hp:Hp)(m cb:Nat)(cs:List Nat):Prop:=
 m<hp.next/\cb<hp.next/\cb≠m/\hp.rd cb 0=some (LI .i64 (nz cs))/\hp.rd m 0=some [.ms cb 0 0 cs.length 1,.sc (.int .i64 (cs.sum:Nat))]
theorem MW.fr{hp hp':Hp}{m cb:Nat}{cs:List Nat}{X:List Nat}(h:MW hp m cb cs)(f:Fm X hp hp')(h1:m∉X)(h2:cb∉X):MW hp' m cb cs:=
 ⟨znp h.1 f.1,znp h.2.1 f.1,h.2.2.1,by rw[f.rd h.2.1 h2];exact h.2.2.2.1,by rw[f.rd h.1 h1];exact h.2.2.2.2⟩
def MN(hp:Hp)(m cb i:Nat):Prop:=
 m<hp.next/\(i≠0->cb<hp.next/\m<cb/\hp.rd cb 0=some (LI .i64 (nz (List.replicate i 1))))/\hp.rd m 0=some [if i=0 then S 2 1 []else .ms cb 0 0 i 1,.sc (.int .i64 (i:Int))]
theorem yS(l:List Nat)(x:Nat):nz (l++[x])=nz l++[(x:Int)]:=by simp[nz]
theorem qts(m:Nat):∀(f i cb:Nat) (hp:Hp),i+f=64->MN hp m cb i->
 ∃hp' cb',B168_3 (.ptr m 0 0) (.int .i64 64) (.int .i64 (i:Int)) hp=some (.ptr m 0 0,hp')/\MN hp' m cb' 64/\hp.next<=hp'.next/\∀c,c<m->hp'.get c=hp.get c:=by
 intro f
 induction f with
 |zero=>
  intro i cb hp h hm
  have e:i=64:=qe
  subst e
  refine⟨hp,cb,?_,hm,zm8 _,fun _ _=>rfl⟩
  rw[Kw]
  simp
 |succ f ih=>
  intro i cb hp h hm
  obtain⟨h1,h2,h3⟩:=hm
  have hlt:(i:Int)<64:=qe
  have w1:IntKind.i64.wrap ((i:Int)+1)=((i+1:Nat):Int):=qj
  by_cases h0:i=0
  ·subst h0
   have ap:=Ze .i64 1 8 qh hp
   have hne:m≠hp.next:=qe
   have r1:=zH hp (LI .i64 [1]) hne
   rw[h3]at r1
   have hq:MN ((hp.new (LI .i64 [1])).put m 0 [.ms hp.next 0 0 1 1,.sc (.int .i64 1)]) m hp.next 1:=
    ⟨qi,fun _=>⟨qg,h1,by rw[qA _ _ (fun e=>hne e.symm),qQ];rfl⟩,by rw[qr];rfl⟩
   obtain⟨hp2,cb2,a1,a2,a3,a4⟩:=ih 1 hp.next _ qe hq
   refine⟨hp2,cb2,?_,a2,by simp at a3;omega,fun c hc=>by
    rw[a4 c hc]
    have e1:c≠m:=qe
    have e2:c≠hp.next:=qe
    simp[Hp.put,Hp.new,e1,e2]⟩
   rw[<-a1,Kw]
   simp at r1
   simp[h3,qs,yC,ap,r1,qo,qB,qr,ql]
  ·obtain⟨n1,n2,n3⟩:=h2 h0
   rw[if_neg h0]at h3
   have hne:m≠hp.next:=qe
   have hne2:m≠cb:=qe
   have hl:(nz (List.replicate i 1)).length=i:=qg
   have ap:=ZV .i64 (nz (List.replicate i 1)) 1 8 cb qh (by rw[hl];omega) (by intro e;rw[e]at hl;simp at hl;omega) hp n3
   rw[hl]at ap
   have e1:nz (List.replicate i 1)++[1]=nz (List.replicate (i+1) 1):=by
    rw[zpm,yS];rfl
   rw[e1]at ap
   have r1:((hp.del cb).new (LI .i64 (nz (List.replicate (i+1) 1)))).rd m 0=hp.rd m 0:=(Fm.delNew (X:=[cb]) hp cb _ qg).rd h1 (by simp;exact hne2)
   rw[h3]at r1
   have hq:MN (((hp.del cb).new (LI .i64 (nz (List.replicate (i+1) 1)))).put m 0 [.ms hp.next 0 0 (i+1) 1,.sc (.int .i64 ((i+1:Nat):Int))]) m hp.next (i+1):=
    ⟨by simp[Hp.del];omega,fun _=>⟨by simp[Hp.del],h1,by rw[qA _ _ (fun e=>hne e.symm)];exact qQ (hp.del cb) _⟩,by rw[qr,if_neg qe]⟩
   obtain⟨hp2,cb2,a1,a2,a3,a4⟩:=ih (i+1) hp.next _ qe hq
   refine⟨hp2,cb2,?_,a2,by simp[Hp.del]at a3;omega,fun c hc=>by
    rw[a4 c hc]
    have e1:c≠m:=qe
    have e2:c≠hp.next:=qe
    have e3:c≠cb:=qe
    simp[Hp.put,Hp.new,Hp.del,e1,e2,e3]⟩
   rw[<-a1,Kw]
   generalize nz (List.replicate (i+1) 1)=L at*
   generalize((i+1:Nat):Int)=I at*
   simp[hlt,h3,qs,yC,ap,r1,qo,qB,qr,ql,w1]
theorem qil(hp:Hp):∃hp' cb,run cxX 168 [.sc (.int .i64 64)] hp=some (.ptr hp.next 0 0,hp')/\MW hp' hp.next cb cs0/\hp.next<cb/\hp.next<=hp'.next/\∀c,c<hp.next->hp'.get c=hp.get c:=by
 have h0:MN (hp.new [S 2 1 [],.sc (.int .i64 0)]) hp.next 0 0:=⟨qg,fun h=>absurd rfl h,by rw[qQ];rfl⟩
 obtain⟨hp',cb,a1,a2,a3,a4⟩:=qts hp.next 64 0 0 _ rfl h0
 obtain⟨b1,b2,b3⟩:=a2
 obtain⟨c1,c2,c3⟩:=b2 qe
 refine⟨hp',cb,?_,⟨b1,c1,qe,c3,by rw[b3];rfl⟩,c2,by simp at a3;omega,fun c hc=>by
  rw[a4 c hc]
  have:c≠hp.next:=qe
  simp[Hp.new,this]⟩
 rw[E168]
 have mm:min (max (64:Int) 1) 64=64:=qh
 simp at a1
 simp[mm,a1]
theorem yT(l:List Nat)(i:Nat)(h:i<l.length):(nz l).getD i 0=((l.getD i 0:Nat):Int):=by
 unfold nz
 rw[zm6,zm6,zno,znb h]
 rfl
section
variable (hp:Hp)(m cb:Nat)(cs:List Nat)(h:MW hp m cb cs)(hs:cs.sum<=1000000)(hcl:cs.length=64)
include h
theorem qcb:run cxX 193 [.ptr m 0 0] hp=some (.sc (.int .i64 (cs.length:Nat)),hp):=by
 obtain⟨h1,h2,h3,h4,h5⟩:=h
 rw[E193]
 have hln:∀a b c d e,xU (.ms a b c d e)=some d:=fun _ _ _ _ _=>rfl
 simp[h5,qs,hln]
theorem VW:run cxX 171 [.ptr m 0 0] hp=some (.sc (.int .i64 (cs.sum:Nat)),hp):=by
 obtain⟨h1,h2,h3,h4,h5⟩:=h
 rw[E171]
 simp[h5,ql]
include hs hcl
theorem qtf(x:Nat)(hx:x<64):∀(f i:Nat),i+f=x->
 B170_5 (.ptr m 0 0) (.int .i64 (x:Int)) (.int .i64 ((cs.take i).sum:Nat)) (.ms cb 0 0 x 1) (.int .i64 (x:Int)) (.int .i64 (i:Int)) hp=some (.tup [.sc (.int .i64 ((cs.take x).sum:Nat)),.sc (.int .i64 (cs.getD x 0:Nat))],hp):=by
 obtain⟨h1,h2,h3,h4,h5⟩:=h
 have hms:∀a b c d e,qY (.ms a b c d e)=some (a,b,c,d,e):=fun _ _ _ _ _=>rfl
 intro f
 induction f with
 |zero=>
  intro i hi
  have e:i=x:=qe
  subst e
  have ix:idx cs.length (.int .i64 (i:Int))=some i:=zj .i64 qe
  have g:=jQ .i64 (nz cs) i qi
  rw[yT cs i qe]at g
  rw[qeo]
  generalize(cs.take i).sum=A at*
  generalize cs.getD i 0=B at*
  simp[h5,qs,hms,ix,h4,g]
 |succ f ih=>
  intro i hi
  have hn:=ih (i+1) qe
  have ix:idx x (.int .i64 (i:Int))=some i:=zj .i64 qe
  have g:=jQ .i64 (nz cs) i qi
  rw[yT cs i qe]at g
  have st:=qP cs i qe
  have sl:=qR cs (i+1)
  have w1:IntKind.i64.wrap ((((cs.take i).sum:Nat):Int)+((cs.getD i 0:Nat):Int))=(((cs.take (i+1)).sum:Nat):Int):=qj
  have w2:IntKind.i64.wrap ((i:Int)+1)=((i+1:Nat):Int):=qj
  have hlt:(i:Int)<(x:Int):=qe
  rw[<-hn,qeo]
  generalize(((cs.take i).sum:Nat):Int)=A at*
  generalize(((cs.take (i+1)).sum:Nat):Int)=A1 at*
  generalize((cs.getD i 0:Nat):Int)=B at*
  generalize((i+1:Nat):Int)=I at*
  simp[hlt,hms,ix,h4,g,w1,w2]
theorem qih(x:Nat)(hx:x<64):run cxX 170 [.ptr m 0 0,.sc (.int .i64 (x:Int))] hp=some (.tup [.sc (.int .i64 ((cs.take x).sum:Nat)),.sc (.int .i64 (cs.getD x 0:Nat))],hp):=by
 have sz:=qcb hp m cb cs h
 have lp:=qtf hp m cb cs h hs hcl x hx x 0 qe
 obtain⟨h1,h2,h3,h4,h5⟩:=h
 have hms:∀a b c d e,qY (.ms a b c d e)=some (a,b,c,d,e):=fun _ _ _ _ _=>rfl
 have hln:∀a b c d e,xU (.ms a b c d e)=some d:=fun _ _ _ _ _=>rfl
 have hn0:¬((x:Int)<0):=qe
 have hge:¬((x:Int)>=(cs.length:Int)):=qe
 have b1:zp 0 (cs.length:Int) (some (.int .i64 (x:Int))) cs.length=some x:=xY .i64 qe
 have b3:B170_3 (.ptr m 0 0) (.int .i64 (x:Int)) hp=some (.tup [.sc (.int .i64 ((cs.take x).sum:Nat)),.sc (.int .i64 (cs.getD x 0:Nat))],hp):=by
  rw[<-lp,qwj]
  simp[h5,qs,hms,b1,hln]
 rw[E170]
 generalize(cs.take x).sum=A at*
 generalize cs.getD x 0=B at*
 have hge':¬((cs.length:Int)<=(x:Int)):=hge
 simp[hn0,sz,hge',b3]
end
def hf(d:List Nat)(i:Nat):List Nat:=(d.take i).map (fun n=>(n+1)/2)++d.drop i
@[simp] theorem hf_len(d:List Nat)(i:Nat):(hf d i).length=d.length:=by unfold hf;simp;omega
theorem za3(d:List Nat)(i:Nat)(hi:i<d.length):(hf d i).getD i 0=d.getD i 0:=by
 unfold hf
 rw[zm6,znu qi,zm6]
 simp
 congr 2
 omega
theorem qg9(d:List Nat)(i:Nat)(hi:i<d.length):hf d (i+1)=(hf d i).set i ((d.getD i 0+1)/2):=by
 have e1:d.getD i 0=d[i]:=by rw[zm6,znb hi];rfl
 have e2:d.take (i+1)=d.take i++[d[i]]:=by rw[zpg,znb hi];rfl
 have e3:d.drop i=d[i]::d.drop (i+1):=zn0 hi
 unfold hf
 rw[e1,e2,e3,List.map_append,znq,zqm _ _ qi]
 have e4:i-((d.take i).map fun n=>(n+1)/2).length=0:=qi
 rw[e4]
 rfl
theorem za4(d:List Nat):hf d d.length=d.map fun n=>(n+1)/2:=by unfold hf;simp
theorem qyb(m cb:Nat)(d:List Nat)(hd:d.length=64)(hs:d.sum<=1000000):∀(f i:Nat) (hp:Hp),i+f=64->m<hp.next->cb<hp.next->cb≠m->hp.rd cb 0=some (LI .i64 (nz (hf d i)))->
 hp.rd m 0=some [.ms cb 0 0 64 1,.sc (.int .i64 ((((d.take i).map fun n=>(n+1)/2).sum:Nat):Int))]->
 ∃hp',B173_6 (.ptr m 0 0) (.ms cb 0 0 64 1) (.int .i64 64) (.int .i64 (i:Int)) hp=some (.tup [],hp')/\MW hp' m cb (d.map fun n=>(n+1)/2)/\hp'.next=hp.next/\∀c,c≠m->c≠cb->hp'.get c=hp.get c:=by
 have hms:∀a b c d e,qY (.ms a b c d e)=some (a,b,c,d,e):=fun _ _ _ _ _=>rfl
 intro f
 induction f with
 |zero=>
  intro i hp hi h1 h2 h3 h4 h5
  have e:i=64:=qe
  subst e
  have ef:hf d 64=d.map fun n=>(n+1)/2:=by rw[<-hd,za4]
  have et:d.take 64=d:=by rw[<-hd,zpk]
  rw[ef]at h4
  rw[et]at h5
  refine⟨hp,?_,⟨h1,h2,h3,h4,by simp only[zo8,hd];exact h5⟩,rfl,fun _ _ _=>rfl⟩
  rw[qek]
  simp
 |succ f ih=>
  intro i hp hi h1 h2 h3 h4 h5
  have hid:i<d.length:=qe
  have hlt:(i:Int)<64:=qe
  have ix:idx 64 (.int .i64 (i:Int))=some i:=zj .i64 qe
  have g:=jQ .i64 (nz (hf d i)) i qi
  rw[yT _ i qi,za3 d i hid]at g
  have hx:d.getD i 0<=1000000:=by
   have:=qP d i hid
   have:=qR d (i+1)
   omega
  have p:=yL .i64 (nz (hf d i)) i (((d.getD i 0+1)/2:Nat):Int) qi
  have es:(nz (hf d i)).set i (((d.getD i 0+1)/2:Nat):Int)=nz (hf d (i+1)):=by
   rw[qg9 d i hid];unfold nz;rw[zru]
  rw[es]at p
  have g2:=jQ .i64 (nz (hf d (i+1))) i qi
  have eg:(hf d (i+1)).getD i 0=(d.getD i 0+1)/2:=by
   rw[qg9 d i hid,zm6,zqk]
   simp[hid]
  rw[yT _ i qi,eg]at g2
  have sm:((d.take (i+1)).map fun n=>(n+1)/2).sum=((d.take i).map fun n=>(n+1)/2).sum+(d.getD i 0+1)/2:=by
   have e2:d.take (i+1)=d.take i++[d.getD i 0]:=by
    rw[zpg,zm6,znb hid];rfl
   rw[e2];simp
  have sb:((d.take i).map fun n=>(n+1)/2).sum<=2000000:=by
   have a:=qhy (d.take i)
   have b:=qR d i
   have c:(d.take i).length<=64:=qi
   omega
  have w1:IntKind.i64.wrap (((d.getD i 0:Nat):Int)+1)=((d.getD i 0+1:Nat):Int):=qj
  have q2:∀t o o',qx Tryz.prog .quo t o o' (.int .i64 ((d.getD i 0+1:Nat):Int)) (.int .i64 2)=some (.int .i64 (((d.getD i 0+1)/2:Nat):Int)):=by
   intro t o o'
   rw[yB _ _ _ _ _ _ _ qe,zod qe,qm qe qe]
   rfl
  have w3:IntKind.i64.wrap (((((d.take i).map fun n=>(n+1)/2).sum:Nat):Int)+(((d.getD i 0+1)/2:Nat):Int))=((((d.take (i+1)).map fun n=>(n+1)/2).sum:Nat):Int):=by rw[sm,qm]<;>omega
  have w4:IntKind.i64.wrap ((i:Int)+1)=((i+1:Nat):Int):=qj
  have r5:∀x,(hp.put cb 0 x).rd m 0=hp.rd m 0:=fun x=>qA _ _ (fun e=>h3 e.symm)
  obtain⟨hp2,a1,a2,a3,a4⟩:=ih (i+1) ((hp.put cb 0 (LI .i64 (nz (hf d (i+1))))).put m 0 [.ms cb 0 0 64 1,.sc (.int .i64 ((((d.take (i+1)).map fun n=>(n+1)/2).sum:Nat):Int))]) qe (by simpa using h1) (by simpa using h2) h3
   (by rw[qA _ _ h3,qr]) (qr _ _ _)
  refine⟨hp2,?_,a2,by rw[a3];rfl,fun c c1 c2=>by rw[a4 c c1 c2];simp[Hp.put,c1,c2]⟩
  rw[<-a1,qek]
  generalize nz (hf d (i+1))=L1 at*
  generalize nz (hf d i)=L0 at*
  generalize((((d.take (i+1)).map fun n=>(n+1)/2).sum:Nat):Int)=S1 at*
  generalize((((d.take i).map fun n=>(n+1)/2).sum:Nat):Int)=S0 at*
  generalize(((d.getD i 0+1)/2:Nat):Int)=y2 at*
  generalize((d.getD i 0+1:Nat):Int)=y1 at*
  generalize((d.getD i 0:Nat):Int)=y0 at*
  generalize((i+1:Nat):Int)=I at*
  have gs1:∀(x:AV) (v:Value),ql [x,.sc v] 1=some v:=fun _ _=>rfl
  have gc0:∀(x:AV) (l:List AV),qs (x::l) 0=some x:=fun _ _=>rfl
  have pn:∀(x y z:AV),qo [x,y] 1 [z]=some [x,z]:=fun _ _ _=>rfl
  simp[hlt,hms,ix,h4,g,h5,gc0,w1,q2,p,r5,gs1,qr,g2,w3,pn,w4]
theorem qp5(hp:Hp)(m cb x:Nat)(cs:List Nat)(h:MW hp m cb cs)(hm:okM cs)(hx:x<64):
 ∃hp',run cxX 173 [.ptr m 0 0,.sc (.int .i64 (x:Int))] hp=some (.tup [],hp')/\MW hp' m cb (Yy cs x)/\hp'.next=hp.next/\∀c,c≠m->c≠cb->hp'.get c=hp.get c:=by
 have sz:=qcb hp m cb cs h
 obtain⟨h1,h2,h3,h4,h5⟩:=h
 obtain⟨m1,m2,m3⟩:=hm
 have hms:∀a b c d e,qY (.ms a b c d e)=some (a,b,c,d,e):=fun _ _ _ _ _=>rfl
 have hln:∀a b c d e,xU (.ms a b c d e)=some d:=fun _ _ _ _ _=>rfl
 have hn0:¬((x:Int)<0):=qe
 have hge:¬((cs.length:Int)<=(x:Int)):=qe
 have ix:idx cs.length (.int .i64 (x:Int))=some x:=zj .i64 qe
 have g:=jQ .i64 (nz cs) x qi
 rw[yT cs x qe]at g
 have st:=qP cs x qe
 have sl:=qR cs (x+1)
 have ss:=qf1 cs x (cs.getD x 0+24) qe
 have w1:IntKind.i64.wrap (((cs.getD x 0:Nat):Int)+24)=((cs.getD x 0+24:Nat):Int):=qj
 have p:=yL .i64 (nz cs) x ((cs.getD x 0+24:Nat):Int) qi
 have es:(nz cs).set x ((cs.getD x 0+24:Nat):Int)=nz (cs.set x (cs.getD x 0+24)):=by unfold nz;rw[zru]
 rw[es]at p
 have r5:∀y,(hp.put cb 0 y).rd m 0=hp.rd m 0:=fun y=>qA _ _ (fun e=>h3 e.symm)
 have w2:IntKind.i64.wrap (((cs.sum:Nat):Int)+24)=(((cs.set x (cs.getD x 0+24)).sum:Nat):Int):=qj
 have dl:(cs.set x (cs.getD x 0+24)).length=64:=by simp[m1]
 have gs1:∀(x:AV) (v:Value),ql [x,.sc v] 1=some v:=fun _ _=>rfl
 have gc0:∀(x:AV) (l:List AV),qs (x::l) 0=some x:=fun _ _=>rfl
 have pn:∀(x y z:AV),qo [x,y] 1 [z]=some [x,z]:=fun _ _ _=>rfl
 rw[m1]at h5 ix sz hge
 unfold Yy
 generalize cs.set x (cs.getD x 0+24)=d at*
 by_cases hle:d.sum<=4096
 ·rw[if_pos hle]
  refine⟨(hp.put cb 0 (LI .i64 (nz d))).put m 0 [.ms cb 0 0 64 1,.sc (.int .i64 (d.sum:Nat))],?_,⟨h1,h2,h3,by rw[qA _ _ h3,qr],by rw[qr,dl]⟩,rfl,fun c c1 c2=>by simp[Hp.put,c1,c2]⟩
  have hle':((d.sum:Nat):Int)<=4096:=qe
  rw[E173]
  have b1:B173_1 (.ptr m 0 0) (.int .i64 (x:Int)) hp=some (.tup [],(hp.put cb 0 (LI .i64 (nz d))).put m 0 [.ms cb 0 0 64 1,.sc (.int .i64 (d.sum:Nat))]):=by
   rw[qel]
   generalize((d.sum:Nat):Int)=D at*
   generalize((cs.getD x 0+24:Nat):Int)=y1 at*
   generalize((cs.getD x 0:Nat):Int)=y0 at*
   simp[h5,gc0,hms,ix,h4,g,w1,p,r5,gs1,w2,pn,qr,hle']
  have hge2:¬((64:Int)<=(x:Int)):=qe
  simp[hn0,sz,hge2,b1]
 ·rw[if_neg hle]
  have e0:hf d 0=d:=by unfold hf;simp
  obtain⟨hp2,a1,a2,a3,a4⟩:=qyb m cb d dl qe 64 0 ((hp.put cb 0 (LI .i64 (nz d))).put m 0 [.ms cb 0 0 64 1,.sc (.int .i64 0)]) rfl h1 h2 h3 (by rw[qA _ _ h3,qr,e0]) (by rw[qr];rfl)
  refine⟨hp2,?_,a2,by rw[a3];rfl,fun c c1 c2=>by rw[a4 c c1 c2];simp[Hp.put,c1,c2]⟩
  have hle':¬(((d.sum:Nat):Int)<=4096):=qe
  rw[E173]
  have b1:B173_1 (.ptr m 0 0) (.int .i64 (x:Int)) hp=some (.tup [],hp2):=by
   rw[<-a1,qel]
   generalize((d.sum:Nat):Int)=D at*
   generalize((cs.getD x 0+24:Nat):Int)=y1 at*
   generalize((cs.getD x 0:Nat):Int)=y0 at*
   simp[h5,gc0,hms,ix,h4,g,w1,p,r5,gs1,w2,pn,qr,hle',qB,hln]
  have hge2:¬((64:Int)<=(x:Int)):=qe
  simp[hn0,sz,hge2,b1]
abbrev EC(m:Nat)(s:En)(k:Nat)(n:Nat):List AV:=[.ptr m 0 0,.sc (.int .u64 (s.low:Int)),.sc (.int .u32 (s.width:Int)),.sc (.int .i64 (s.held:Int)),.sc (.int .u8 (s.last:Int)),.sc (.bool s.begun),S k 1 (LI .u8 s.out),.sc (.int .i64 (n:Int))]
theorem zhw(x:Nat)(hx:x<18446744073709551616)(t:TypeId)(o o':Operand):qx Tryz.prog .and t o o' (.int .u64 (x:Int)) (.int .u64 16777215)=some (.int .u64 ((x%16777216:Nat):Int)):=by
 have a:=qds x 16777215 hx qe t o o'
 have e:x&&&16777215=x%16777216:=zp1 x 24
 rw[e]at a
 exact a
theorem zhq{hp:Hp}{b:Nat}{x:List AV}(h:hp.rd b 0=some x):hp.get b=some (0,x):=by
 unfold Hp.rd at h
 obtain⟨p,hp1,h⟩:=bsm h
 split at h
 ·rename_i e
  cases h
  rw[hp1]
  obtain⟨p1,p2⟩:=p
  have:p1=0:=e.1
  subst this;rfl
 ·cases h
theorem QV{k b:Nat}{hp:Hp}{l:List AV}{v:Value}{K:Value->RO}(h:hp.rd b 0=some l)(g:ql l k=some v):yh k (ro (.ptr b 0 0)) hp K=K v:=by
 have g':ql l (0+k)=some v:=by rw[znf];exact g
 simp only[yh,lpS,zio,zfp,vO,h,g',zm7]
theorem Yk{t:TypeId}{n:Tmp}{k:IntKind}{x y:Int}{a b:RO}:iC .lss t n (.int k x) (.int k y) a b=cond (decide (x<y)) a b:=by simp only[iC,vZ,jm,zm7]
theorem za1{t:TypeId}{n:Tmp}{k:IntKind}{x y:Int}{a b:RO}:iC .geq t n (.int k x) (.int k y) a b=cond (decide (x>=y)) a b:=by simp only[iC,ZU,jm,zm7]
theorem qha(x1:AV)(v:Value)(r:List AV):ql (x1::.sc v::r) 1=some v:=rfl
section
variable (e m k n:Nat)(hk:k=1\/k=2)
include hk
theorem qp4(c:Nat)(hc:c<256):∀(f:Nat) (s:En) (hp:Hp),s.held=f->s.low<18446744073709551616->s.out.length+f<=1000000->hp.rd e 0=some (EC m s k n)->
 B172_4 (.ptr e 0 0) (.int .u8 (c:Int)) hp=some (.tup [],hp.put e 0 (EC m ⟨s.low%16777216*256,s.width,0,s.low/16777216%256,true,s.out++List.replicate f (((255+c)%256:Nat):Int)⟩ k n)):=by
 intro f
 induction f with
 |zero=>
  intro s hp hh hlow hol h
  have sh:=fun t o o'=>xh .u64 s.low 24 qh t o o' .u64
  have e24:s.low/2^24=s.low/16777216:=qe
  rw[e24]at sh
  have i24:((24:Nat):Int)=24:=rfl
  rw[i24]at sh
  have w1:IntKind.u8.wrap ((s.low/16777216:Nat):Int)=((s.low/16777216%256:Nat):Int):=by rw[Qc];rfl
  have a:=zhw s.low hlow
  have s8:∀t o o',qx Tryz.prog .shl t o o' (.int .u64 ((s.low%16777216:Nat):Int)) (.int .u64 8)=some (.int .u64 ((s.low%16777216*256:Nat):Int)):=by
   intro t o o'
   rw[zW _ _ _ _ _ _ _ _ qe]
   have e2:(2:Int)^min (8:Int).toNat IntKind.u64.bits=256:=rfl
   have e3:((s.low%16777216:Nat):Int)*256=((s.low%16777216*256:Nat):Int):=qe
   rw[e2,e3,qu qe qe]
  have hh0:(s.held:Int)=0:=qe
  rw[qen]
  obtain⟨low,width,held,last,begun,out⟩:=s
  simp only at h hh hh0 hlow sh w1 a s8
  subst hh
  simp only[EC,List.replicate_zero,zns]at h⊢
  generalize((low%16777216*256:Nat):Int)=y1 at*
  generalize((low%16777216:Nat):Int)=y2 at*
  generalize((low/16777216%256:Nat):Int)=y3 at*
  generalize((low/16777216:Nat):Int)=y4 at*
  have gs:∀(x1 x2 x3:AV) (v:Value) (r:List AV),ql (x1::x2::x3::.sc v::r) 3=some v:=fun _ _ _ _ _=>rfl
  have gs1:∀(x1:AV) (v:Value) (r:List AV),ql (x1::.sc v::r) 1=some v:=fun _ _ _=>rfl
  have p5:∀(x0 x1 x2 x3 x4 x5 x6 x7 z:AV),qo [x0,x1,x2,x3,x4,x5,x6,x7] 5 [z]=some [x0,x1,x2,x3,x4,z,x6,x7]:=fun _ _ _ _ _ _ _ _ _=>rfl
  have p4:∀(x0 x1 x2 x3 x4 x5 x6 x7 z:AV),qo [x0,x1,x2,x3,x4,x5,x6,x7] 4 [z]=some [x0,x1,x2,x3,z,x5,x6,x7]:=fun _ _ _ _ _ _ _ _ _=>rfl
  have p1:∀(x0 x1 x2 x3 x4 x5 x6 x7 z:AV),qo [x0,x1,x2,x3,x4,x5,x6,x7] 1 [z]=some [x0,z,x2,x3,x4,x5,x6,x7]:=fun _ _ _ _ _ _ _ _ _=>rfl
  simp[h,gs,gs1,sh,Xn,w1,p5,p4,p1,qB,qr,qem,a,s8,-zm]
 |succ f ih=>
  intro s hp hh hlow hol h
  obtain⟨low,width,held,last,begun,out⟩:=s
  simp only at h hh hlow hol
  subst hh
  have hpos:((f+1:Nat):Int)>0:=qe
  have w1:IntKind.u8.wrap (255+(c:Int))=(((255+c)%256:Nat):Int):=by rw[Qc];rfl
  have w2:IntKind.i64.wrap (((f+1:Nat):Int)-1)=(f:Int):=qj
  have ap:=Qu .u8 out k hk 1 qh (((255+c)%256:Nat):Int) qe
  have hi:=ih ⟨low,width,f,last,begun,out++[(((255+c)%256:Nat):Int)]⟩ (hp.put e 0 (EC m ⟨low,width,f,last,begun,out++[(((255+c)%256:Nat):Int)]⟩ k n)) rfl hlow qi (qr _ _ _)
  rw[qB]at hi
  have e1:out++List.replicate (f+1) (((255+c)%256:Nat):Int)=out++[(((255+c)%256:Nat):Int)]++List.replicate f (((255+c)%256:Nat):Int):=by simp[zph]
  simp only[e1]
  rw[<-hi,qen]
  generalize(((255+c)%256:Nat):Int)=y at*
  generalize((f+1:Nat):Int)=F at*
  simp only[EC]at h
  have gs:∀(x1 x2 x3:AV) (v:Value) (r:List AV),ql (x1::x2::x3::.sc v::r) 3=some v:=fun _ _ _ _ _=>rfl
  have gc6:∀(x0 x1 x2 x3 x4 x5 x6 x7:AV),qs [x0,x1,x2,x3,x4,x5,x6,x7] 6=some x6:=fun _ _ _ _ _ _ _ _=>rfl
  have p6:∀(x0 x1 x2 x3 x4 x5 x6 x7 z:AV),qo [x0,x1,x2,x3,x4,x5,x6,x7] 6 [z]=some [x0,x1,x2,x3,x4,x5,z,x7]:=fun _ _ _ _ _ _ _ _ _=>rfl
  have p3:∀(x0 x1 x2 x3 x4 x5 x6 x7 z:AV),qo [x0,x1,x2,x3,x4,x5,x6,x7] 3 [z]=some [x0,x1,x2,z,x4,x5,x6,x7]:=fun _ _ _ _ _ _ _ _ _=>rfl
  have st6:∀(x0 x1 x2 x3 x4 x5 x6 x7 z:AV),[x0,x1,x2,x3,x4,x5,x6,x7].set 6 z=[x0,x1,x2,x3,x4,x5,z,x7]:=fun _ _ _ _ _ _ _ _ _=>rfl
  have w9:IntKind.i64.wrap (f:Int)=(f:Int):=qm qe qe
  simp[h,gs,hpos,gc6,w1,yC,ap,st6,qr,p6,qB,w2,w9,p3]
theorem zd5(s:En)(hp:Hp)(hlow:s.low<18446744073709551616)(hol:s.out.length+s.held+1<=1000000)(h:hp.rd e 0=some (EC m s k n))(c0:Nat)(hc0:c0=s.low/4294967296):
 B172_1 (.ptr e 0 0) hp=some (.tup [],hp.put e 0 (EC m ⟨s.low%16777216*256,s.width,0,s.low/16777216%256,true,s.out++(if s.begun then [(((s.last+c0%256)%256:Nat):Int)]else [])++List.replicate s.held (((255+c0%256)%256:Nat):Int)⟩ k n)):=by
 have gs4:∀(x0 x1 x2 x3:AV) (v:Value) (r:List AV),ql (x0::x1::x2::x3::.sc v::r) 4=some v:=fun _ _ _ _ _ _=>rfl
 have gs5:∀(x0 x1 x2 x3 x4:AV) (v:Value) (r:List AV),ql (x0::x1::x2::x3::x4::.sc v::r) 5=some v:=fun _ _ _ _ _ _ _=>rfl
 have gc6:∀(x0 x1 x2 x3 x4 x5 x6 x7:AV),qs [x0,x1,x2,x3,x4,x5,x6,x7] 6=some x6:=fun _ _ _ _ _ _ _ _=>rfl
 have p6:∀(x0 x1 x2 x3 x4 x5 x6 x7 z:AV),qo [x0,x1,x2,x3,x4,x5,x6,x7] 6 [z]=some [x0,x1,x2,x3,x4,x5,z,x7]:=fun _ _ _ _ _ _ _ _ _=>rfl
 have st6:∀(x0 x1 x2 x3 x4 x5 x6 x7 z:AV),[x0,x1,x2,x3,x4,x5,x6,x7].set 6 z=[x0,x1,x2,x3,x4,x5,z,x7]:=fun _ _ _ _ _ _ _ _ _=>rfl
 have sh32:∀t o o',qx Tryz.prog .shr t o o' (.int .u64 (s.low:Int)) (.int .u64 32)=some (.int .u64 (c0:Int)):=by
  intro t o o'
  have a:=xh .u64 s.low 32 qh t o o' .u64
  have e32:s.low/2^32=c0:=qe
  rw[e32]at a
  exact a
 clear hc0
 have w1:IntKind.u8.wrap (c0:Int)=((c0%256:Nat):Int):=by rw[Qc];rfl
 have w2:IntKind.u8.wrap ((s.last:Int)+((c0%256:Nat):Int))=(((s.last+c0%256)%256:Nat):Int):=by rw[Qc];rfl
 have ap:=Qu .u8 s.out k hk 1 qh (((s.last+c0%256)%256:Nat):Int) qe
 rw[qwi]
 cases hb:s.begun
 ·have f4:=qp4 e m k n hk (c0%256) qe s.held s hp rfl hlow qe h
  rw[if_neg qh,zns,<-f4]
  simp only[EC,hb]at h
  generalize((c0%256:Nat):Int)=cc at*
  simp[h,qha,sh32,Xn,w1,gs5]
 ·rw[if_pos rfl]
  have f4:=qp4 e m k n hk (c0%256) qe s.held ⟨s.low,s.width,s.held,s.last,true,s.out++[(((s.last+c0%256)%256:Nat):Int)]⟩ (hp.put e 0 (EC m ⟨s.low,s.width,s.held,s.last,true,s.out++[(((s.last+c0%256)%256:Nat):Int)]⟩ k n)) rfl hlow qi (qr _ _ _)
  rw[qB]at f4
  rw[<-f4]
  simp only[EC,hb]at h⊢
  have hg:=zhq h
  have sg:∀X:AV,xu (AV.ptr e 0 4,1) hp.get (hp.put e 0 [AV.ptr m 0 0,.sc (.int .u64 (s.low:Int)),.sc (.int .u32 (s.width:Int)),.sc (.int .i64 (s.held:Int)),.sc (.int .u8 (s.last:Int)),.sc (.bool true),X,.sc (.int .i64 (n:Int))]).get=some ():=by
   intro X
   refine Zw ?_
   have e1:∀Y:List AV,(hp.put e 0 Y).get e=some (0,Y):=fun Y=>by simp[Hp.put]
   unfold yP
   simp only[JL,vO,zm7,hg,e1]
   rfl
  generalize(((s.last+c0%256)%256:Nat):Int)=ll at*
  generalize((c0%256:Nat):Int)=cc at*
  clear f4
  simp[h,qha,sh32,Xn,w1,gs5,gc6,st6,qr,gs4,w2,yC,ap,p6,qB,sg]
omit hk in
theorem zd4(s:En)(hp:Hp)(hlow:s.low<18446744073709551616)(hheld:s.held<1000000)(h:hp.rd e 0=some (EC m s k n)):
 B172_8 (.ptr e 0 0) hp=some (.tup [],hp.put e 0 (EC m ⟨s.low%16777216*256,s.width,s.held+1,s.last,s.begun,s.out⟩ k n)):=by
 have gs3:∀(x1 x2 x3:AV) (v:Value) (r:List AV),ql (x1::x2::x3::.sc v::r) 3=some v:=fun _ _ _ _ _=>rfl
 have p3:∀(x0 x1 x2 x3 x4 x5 x6 x7 z:AV),qo [x0,x1,x2,x3,x4,x5,x6,x7] 3 [z]=some [x0,x1,x2,z,x4,x5,x6,x7]:=fun _ _ _ _ _ _ _ _ _=>rfl
 have p1:∀(x0 x1 x2 x3 x4 x5 x6 x7 z:AV),qo [x0,x1,x2,x3,x4,x5,x6,x7] 1 [z]=some [x0,z,x2,x3,x4,x5,x6,x7]:=fun _ _ _ _ _ _ _ _ _=>rfl
 have w3:IntKind.i64.wrap ((s.held:Int)+1)=((s.held+1:Nat):Int):=qj
 have a24:=zhw s.low hlow
 have s8:∀t o o',qx Tryz.prog .shl t o o' (.int .u64 ((s.low%16777216:Nat):Int)) (.int .u64 8)=some (.int .u64 ((s.low%16777216*256:Nat):Int)):=by
  intro t o o'
  rw[zW _ _ _ _ _ _ _ _ qe]
  have e2:(2:Int)^min (8:Int).toNat IntKind.u64.bits=256:=rfl
  have e3:((s.low%16777216:Nat):Int)*256=((s.low%16777216*256:Nat):Int):=qe
  rw[e2,e3,qu qe qe]
 simp only[EC]at h⊢
 rw[qwh]
 generalize((s.low%16777216*256:Nat):Int)=y1 at*
 generalize((s.low%16777216:Nat):Int)=y2 at*
 generalize((s.held+1:Nat):Int)=hh at*
 simp[h,gs3,w3,p3,qr,qB,qem,qha,a24,s8,p1,-zm]
theorem qb7(s:En)(hp:Hp)(hlow:s.low<18446744073709551616)(hheld:s.held<1000000)(hol:s.out.length+s.held+1<=1000000)(h:hp.rd e 0=some (EC m s k n)):
 run cxX 172 [.ptr e 0 0] hp=some (.tup [],hp.put e 0 (EC m (sh s) k n)):=by
 have s1:=zd5 e m k n hk s hp hlow hol h _ rfl
 have s8:=zd4 e m k n s hp hlow hheld h
 have hR:hp.rd e 0=some (AV.ptr m 0 0::.sc (.int .u64 (s.low:Int))::(EC m s k n).drop 2):=h
 rw[E172]
 by_cases hA:s.low<4278190080\/4294967296<=s.low
 ·have es:sh s=⟨s.low%16777216*256,s.width,0,s.low/16777216%256,true,s.out++(if s.begun then [(((s.last+s.low/4294967296%256)%256:Nat):Int)]else [])++List.replicate s.held (((255+s.low/4294967296%256)%256:Nat):Int)⟩:=by
   unfold sh;rw[if_pos hA]
  rw[<-es]at s1
  by_cases h1:s.low<4278190080
  ·have d1:decide ((s.low:Int)<Int.ofNat 4278190080)=true:=decide_eq_true (by show(s.low:Int)<((4278190080:Nat):Int);omega)
   rw[QV hR (qha _ _ _),Yk,d1,cond_true,s1]
  ·have d1:decide ((s.low:Int)<Int.ofNat 4278190080)=false:=decide_eq_false (by show ¬((s.low:Int)<((4278190080:Nat):Int));omega)
   have d2:decide ((s.low:Int)>=Int.ofNat 4294967296)=true:=decide_eq_true (by show(s.low:Int)>=((4294967296:Nat):Int);omega)
   rw[QV hR (qha _ _ _),Yk,d1,cond_false,QV hR (qha _ _ _),za1,d2,cond_true,s1]
 ·have es:sh s=⟨s.low%16777216*256,s.width,s.held+1,s.last,s.begun,s.out⟩:=by
   unfold sh;rw[if_neg hA]
  rw[<-es]at s8
  have d1:decide ((s.low:Int)<Int.ofNat 4278190080)=false:=decide_eq_false (by show ¬((s.low:Int)<((4278190080:Nat):Int));omega)
  have d2:decide ((s.low:Int)>=Int.ofNat 4294967296)=false:=decide_eq_false (by show ¬((s.low:Int)>=((4294967296:Nat):Int));omega)
  rw[QV hR (qha _ _ _),Yk,d1,cond_false,QV hR (qha _ _ _),za1,d2,cond_false,s8]
end
def EW(hp:Hp)(e m cb:Nat)(s:En)(cs:List Nat)(k n:Nat):Prop:=e<hp.next/\hp.rd e 0=some (EC m s k n)/\MW hp m cb cs/\e≠m/\e≠cb
def F3(e m cb:Nat)(hp hp':Hp):Prop:=hp'.next=hp.next/\∀c,c≠e->c≠m->c≠cb->hp'.get c=hp.get c
theorem F3.trans{e m cb:Nat}{a b c:Hp}(h:F3 e m cb a b)(g:F3 e m cb b c):F3 e m cb a c:=
 ⟨by rw[g.1,h.1],fun x h1 h2 h3=>by rw[g.2 x h1 h2 h3,h.2 x h1 h2 h3]⟩
theorem EW.put{hp:Hp}{e m cb:Nat}{s s':En}{cs:List Nat}{k n k' n':Nat}(h:EW hp e m cb s cs k n):EW (hp.put e 0 (EC m s' k' n')) e m cb s' cs k' n'/\F3 e m cb hp (hp.put e 0 (EC m s' k' n')):=by
 obtain⟨h1,h2,h3,h4,h5⟩:=h
 refine⟨⟨h1,qr _ _ _,h3.fr (Fm.put (X:=[e]) hp e _ qg) (by simp;exact fun q=>h4 q.symm) (by simp;exact fun q=>h5 q.symm),h4,h5⟩,rfl,fun c c1 c2 c3=>by simp[Hp.put,c1]⟩
theorem gs2E(x0 x1:AV)(v:Value)(r:List AV):ql (x0::x1::.sc v::r) 2=some v:=rfl
section
variable (e m cb k:Nat)(hk:k=1\/k=2)
include hk
theorem qtq(x:Nat)(hx:x<64)(cs:List Nat)(hm:okM cs)(n:Nat)(hn:n<1000000):∀(f:Nat) (s:En) (hp:Hp),EW hp e m cb s cs k n->ZC s s.width->s.width<4294967296->4294967296<=s.width*256^f*256->eK s+f<=900000->
 ∃hp',B108_9 (.ptr e 0 0) (.int .i64 (x:Int)) hp=some (.sc (.bool true),hp')/\EW hp' e m cb (zG f s) (Yy cs x) k (n+1)/\F3 e m cb hp hp':=by
 intro f
 have gs2:∀(x0 x1:AV) (v:Value) (r:List AV),ql (x0::x1::.sc v::r) 2=some v:=fun _ _ _ _=>rfl
 have gs7:∀(x0 x1 x2 x3 x4 x5 x6:AV) (v:Value),ql [x0,x1,x2,x3,x4,x5,x6,.sc v] 7=some v:=fun _ _ _ _ _ _ _ _=>rfl
 have gc0:∀(x:AV) (l:List AV),qs (x::l) 0=some x:=fun _ _=>rfl
 have p7:∀(x0 x1 x2 x3 x4 x5 x6 x7 z:AV),qo [x0,x1,x2,x3,x4,x5,x6,x7] 7 [z]=some [x0,x1,x2,x3,x4,x5,x6,z]:=fun _ _ _ _ _ _ _ _ _=>rfl
 have p2:∀(x0 x1 x2 x3 x4 x5 x6 x7 z:AV),qo [x0,x1,x2,x3,x4,x5,x6,x7] 2 [z]=some [x0,x1,z,x3,x4,x5,x6,x7]:=fun _ _ _ _ _ _ _ _ _=>rfl
 have done:∀(s:En) (hp:Hp),EW hp e m cb s cs k n->¬(s.width<16777216)->∃hp',B108_9 (.ptr e 0 0) (.int .i64 (x:Int)) hp=some (.sc (.bool true),hp')/\EW hp' e m cb s (Yy cs x) k (n+1)/\F3 e m cb hp hp':=by
  intro s hp h hw
  obtain⟨h1,h2,h3,h4,h5⟩:=h
  obtain⟨hp1,a1,a2,a3,a4⟩:=qp5 hp m cb x cs h3 hm hx
  have r1:hp1.rd e 0=some (EC m s k n):=by rw[xN (a4 e h4 h5)];exact h2
  have w1:IntKind.i64.wrap ((n:Int)+1)=((n+1:Nat):Int):=qj
  have hE:EW hp1 e m cb s (Yy cs x) k n:=⟨by rw[a3];exact h1,r1,a2,h4,h5⟩
  obtain⟨q1,q2⟩:=hE.put (s':=s) (k':=k) (n':=n+1)
  refine⟨hp1.put e 0 (EC m s k (n+1)),?_,q1,⟨by rw[q2.1,a3],fun c c1 c2 c3=>by rw[q2.2 c c1 c2 c3,a4 c c2 c3]⟩⟩
  have d1:decide ((s.width:Int)<Int.ofNat 16777216)=false:=decide_eq_false (by show ¬((s.width:Int)<((16777216:Nat):Int));omega)
  clear hw
  simp only[EC]at h2 r1⊢
  rw[qfo]
  generalize((n+1:Nat):Int)=N at*
  rw[QV h2 (gs2E _ _ _ _),Yk,d1,cond_false]
  clear d1
  simp[h2,gs2,gc0,a1,r1,gs7,w1,p7]
 induction f with
 |zero=>
  intro s hp h ho hw hf hK
  exact done s hp h (by simp at hf;omega)
 |succ f ih=>
  intro s hp h ho hw hf hK
  by_cases hl:s.width<16777216
  ·have en:zG (f+1) s=zG f (sh (XG s (s.width*256))):=by
    show(if s.width<16777216 then _ else _)=_
    rw[if_pos hl]
   have h':ZC (XG s (s.width*256)) s.width:=ho
   obtain⟨a1,a2,a3,a4⟩:=YH (XG s (s.width*256)) s.width h' qe
   have a4:(sh (XG s (s.width*256))).width=s.width*256:=a4
   have a3:eK (sh (XG s (s.width*256)))=eK s+1:=a3
   have hf2:4294967296<=s.width*256*256^f*256:=by
    rw[zo1]at hf
    have e:s.width*(256^f*256)*256=s.width*256*256^f*256:=by
     rw[zo5 s.width 256,zob 256 (256^f)]
    rwa [e]at hf
   obtain⟨q1,q2⟩:=h.put (s':=XG s (s.width*256)) (k':=k) (n':=n)
   have hlow:s.low<18446744073709551616:=by have:=ho.1;omega
   have hkk:s.out.length+s.begun.toNat+s.held<=900000:=by have:eK s=s.out.length+s.begun.toNat+s.held:=rfl;omega
   have sf:=qb7 e m k n hk (XG s (s.width*256)) _ hlow (by show s.held<_;omega) (by show s.out.length+s.held+1<=_;omega) q1.2.1
   rw[qB]at sf
   obtain⟨v1,v2⟩:=h.put (s':=sh (XG s (s.width*256))) (k':=k) (n':=n)
   obtain⟨hp2,b1,b2,b3⟩:=ih (sh (XG s (s.width*256))) _ v1 (by rw[a4];exact a1) (by rw[a4];omega) (by rw[a4];exact hf2) qe
   rw[en]
   refine⟨hp2,?_,b2,v2.trans b3⟩
   have d1:decide ((s.width:Int)<Int.ofNat 16777216)=true:=decide_eq_true (by show(s.width:Int)<((16777216:Nat):Int);omega)
   have s8:∀t o o',qx Tryz.prog .shl t o o' (.int .u32 (s.width:Int)) (.int .u64 8)=some (.int .u32 ((s.width*256:Nat):Int)):=by
    intro t o o'
    rw[zW _ _ _ _ _ _ _ _ qe]
    have e2:(2:Int)^min (8:Int).toNat IntKind.u32.bits=256:=rfl
    have e3:(s.width:Int)*256=((s.width*256:Nat):Int):=qe
    rw[e2,e3,qK qe qe]
   have h2:=h.2.1
   have ew:EC m (XG s (s.width*256)) k n=[.ptr m 0 0,.sc (.int .u64 (s.low:Int)),.sc (.int .u32 ((s.width*256:Nat):Int)),.sc (.int .i64 (s.held:Int)),.sc (.int .u8 (s.last:Int)),.sc (.bool s.begun),S k 1 (LI .u8 s.out),.sc (.int .i64 (n:Int))]:=rfl
   rw[ew]at sf
   simp only[EC]at h2
   rw[<-b1,qfo]
   generalize((s.width*256:Nat):Int)=W at*
   rw[QV h2 (gs2E _ _ _ _),Yk,d1,cond_true]
   clear d1
   simp[h2,gs2,s8,p2,sf]
  ·have en:zG (f+1) s=s:=by
    show(if s.width<16777216 then _ else _)=_
    rw[if_neg hl]
   rw[en]
   exact done s hp h hl
theorem qis(x:Nat)(hx:x<64)(cs:List Nat)(hm:okM cs)(n:Nat)(hn:n<1000000)(s:En)(hp:Hp)(h:EW hp e m cb s cs k n)(ho:ZC s s.width)(hw:16777216<=s.width/\s.width<4294967296)(hK:eK s+4<=900000):
 ∃hp',run cxX 108 [.ptr e 0 0,.sc (.int .i64 (x:Int))] hp=some (.sc (.bool true),hp')/\EW hp' e m cb (zG 4 (xK s cs x)) (Yy cs x) k (n+1)/\F3 e m cb hp hp':=by
 obtain⟨m1,m2,m3⟩:=hm
 have hn1:1<=cs.getD x 0:=by
  rw[zm6,znb qe]
  exact m3 _ (znm _)
 have ht:=qP cs x qe
 have hta:=qR cs (x+1)
 have hpart:4096<=s.width/cs.sum:=by
  rw[zqa qe]
  have:4096*cs.sum<=4096*4096:=zof _ m2
  omega
 have hmul:s.width/cs.sum*cs.sum<=s.width:=zok _ _
 have hsum:s.width/cs.sum*(cs.take x).sum+s.width/cs.sum*cs.getD x 0<=s.width:=by
  rw[<-Nat.mul_add,<-ht]
  exact zoi (zof _ hta) hmul
 have hge:s.width/cs.sum*1<=s.width/cs.sum*cs.getD x 0:=zof _ hn1
 have hpw:s.width/cs.sum<=s.width:=zpj _ _
 obtain⟨o1,o2,o3,o4⟩:=ho
 have ok:ZC (xK s cs x) (xK s cs x).width:=by
  refine⟨?_,o2,?_,fun q=>?_⟩
  ·show s.low+s.width/cs.sum*(cs.take x).sum+s.width/cs.sum*cs.getD x 0<=_;omega
  ·show 0<s.width/cs.sum*cs.getD x 0;omega
  ·have:=o4 q
   show s.low+s.width/cs.sum*(cs.take x).sum+s.width/cs.sum*cs.getD x 0<=_;omega
 obtain⟨q1,q2⟩:=h.put (s':=xK s cs x) (k':=k) (n':=n)
 obtain⟨hp1,b1,b2,b3⟩:=qtq e m cb k hk x hx cs ⟨m1,m2,m3⟩ n hn 4 (xK s cs x) _ q1 ok (by show s.width/cs.sum*cs.getD x 0<_;omega) (by
  show 4294967296<=s.width/cs.sum*cs.getD x 0*256^4*256
  have e:(256:Nat)^4=4294967296:=qh
  rw[e]
  omega) hK
 refine⟨hp1,?_,b2,q2.trans b3⟩
 have pt:=qih hp m cb cs h.2.2.1 qe m1 x hx
 have al:=VW hp m cb cs h.2.2.1
 have h2:=h.2.1
 have en:EC m (xK s cs x) k n=[.ptr m 0 0,.sc (.int .u64 ((s.low+s.width/cs.sum*(cs.take x).sum:Nat):Int)),.sc (.int .u32 ((s.width/cs.sum*cs.getD x 0:Nat):Int)),.sc (.int .i64 (s.held:Int)),.sc (.int .u8 (s.last:Int)),.sc (.bool s.begun),S k 1 (LI .u8 s.out),.sc (.int .i64 (n:Int))]:=rfl
 rw[en]at b1
 have gs2:∀(x0 x1:AV) (v:Value) (r:List AV),ql (x0::x1::.sc v::r) 2=some v:=fun _ _ _ _=>rfl
 have gc0:∀(x:AV) (l:List AV),qs (x::l) 0=some x:=fun _ _=>rfl
 have p1:∀(x0 x1 x2 x3 x4 x5 x6 x7 z:AV),qo [x0,x1,x2,x3,x4,x5,x6,x7] 1 [z]=some [x0,z,x2,x3,x4,x5,x6,x7]:=fun _ _ _ _ _ _ _ _ _=>rfl
 have p2:∀(x0 x1 x2 x3 x4 x5 x6 x7 z:AV),qo [x0,x1,x2,x3,x4,x5,x6,x7] 2 [z]=some [x0,x1,z,x3,x4,x5,x6,x7]:=fun _ _ _ _ _ _ _ _ _=>rfl
 have w1:IntKind.u32.wrap ((cs.sum:Nat):Int)=((cs.sum:Nat):Int):=qK qe qe
 have qd:∀t o o',qx Tryz.prog .quo t o o' (.int .u32 (s.width:Int)) (.int .u32 (cs.sum:Nat))=some (.int .u32 ((s.width/cs.sum:Nat):Int)):=by
  intro t o o'
  rw[yB _ _ _ _ _ _ _ qe,zod qe]
  have e:(s.width:Int)/((cs.sum:Nat):Int)=((s.width/cs.sum:Nat):Int):=qg
  rw[e,qK qe qe]
 have hcx:cs.getD x 0<=4096:=qe
 have htx:(cs.take x).sum<=4096:=qe
 simp only[EC]at h2
 rw[E108]
 have hz:¬(cs.getD x 0=0):=qe
 have e1:((s.width/cs.sum:Nat):Int)*(((cs.take x).sum:Nat):Int)=((s.width/cs.sum*(cs.take x).sum:Nat):Int):=qg
 have e2:((s.width/cs.sum:Nat):Int)*((cs.getD x 0:Nat):Int)=((s.width/cs.sum*cs.getD x 0:Nat):Int):=qg
 generalize hA:s.width/cs.sum*(cs.take x).sum=A at*
 generalize hB:s.width/cs.sum*cs.getD x 0=B at*
 generalize s.width/cs.sum=p at*
 generalize(cs.take x).sum=tk at*
 generalize cs.getD x 0=gx at*
 have w2:IntKind.u64.wrap (p:Int)=(p:Int):=qu qe qe
 have w3:IntKind.u64.wrap (tk:Int)=(tk:Int):=qu qe qe
 have w4:IntKind.u64.wrap ((p:Int)*(tk:Int))=(A:Int):=by rw[e1,qu qe qe]
 have w5:IntKind.u64.wrap ((s.low:Int)+(A:Int))=((s.low+A:Nat):Int):=by rw[qu]<;>omega
 have w6:IntKind.u32.wrap (gx:Int)=(gx:Int):=qK qe qe
 have w7:IntKind.u32.wrap ((p:Int)*(gx:Int))=(B:Int):=by rw[e2,qK qe qe]
 generalize((s.low+A:Nat):Int)=LA at*
 simp[h2,gc0,pt,hz,gs2,al,Xo,w1,qd,qha,yz,w2,yo,w3,w4,w5,p1,w6,w7,qr,p2,qB,b1]
end
theorem Vq:∀(f:Nat) (s:En),s.width<4294967296->(zG f s).width<4294967296:=by
 intro f
 induction f with
 |zero=>intro s h;exact h
 |succ f ih=>
  intro s h
  unfold zG
  split
  ·apply ih
   have:(sh (XG s (s.width*256))).width=s.width*256:=by unfold sh;split<;>rfl
   rw[this];omega
  ·exact h
theorem qzg{B d:Nat}(h1:1<=B)(h2:B*256^d<=4294967296):d<=4:=by
 by_cases h:d<=4
 ·exact h
 ·have h3:(256:Nat)^5<=256^d:=zn6 qh qe
  have h4:1*256^d<=B*256^d:=znr _ h1
  have h5:(256:Nat)^5=1099511627776:=qh
  omega
theorem qkl(b m n:Nat):∀(f i:Nat) (s:En) (hp:Hp),i+f=5->ZC s 1->eK s+f<=950000->hp.rd b 0=some (EC m s 1 n)->
 ∃s',(s'=(Nat.rec s (fun _ t=>sh t) f:En))/\∃hp',B111_6 (.ptr b 0 0) (.int .i64 (i:Int)) hp=some (S 1 1 (LI .u8 s'.out),hp')/\hp'.next=hp.next/\∀c,c≠b->hp'.get c=hp.get c:=by
 intro f
 induction f with
 |zero=>
  intro i s hp h ho hK hr
  have e:i=5:=qe
  subst e
  refine⟨s,rfl,hp.put b 0 ((EC m s 1 n).set 6 (ro1 (S 1 1 (LI .u8 s.out)))),?_,rfl,fun c hc=>by simp[Hp.put,hc]⟩
  rw[qfn]
  have gc6:∀(x0 x1 x2 x3 x4 x5 x6 x7:AV),qs [x0,x1,x2,x3,x4,x5,x6,x7] 6=some x6:=fun _ _ _ _ _ _ _ _=>rfl
  simp only[EC]at hr⊢
  simp[hr,gc6]
 |succ f ih=>
  intro i s hp h ho hK hr
  have s1:=YH s 1 ho qe
  have hkk:eK s=s.out.length+s.begun.toNat+s.held:=rfl
  have sf:=qb7 b m 1 n (.inl rfl) s hp (by have:=ho.1;omega) qe qe hr
  obtain⟨s',e1,hp2,a1,a2,a3⟩:=ih (i+1) (sh s) (hp.put b 0 (EC m (sh s) 1 n)) qe (Yf s1.1 qe qe) (by rw[s1.2.2.1];omega) (qr _ _ _)
  have er:∀(f:Nat) (s:En),(Nat.rec (sh s) (fun _ t=>sh t) f:En)=sh (Nat.rec s (fun _ t=>sh t) f:En):=by
   intro f s
   induction f with
   |zero=>rfl
   |succ f ihf=>show sh _=sh (sh _);rw[ihf]
  refine⟨s',by rw[e1,er],hp2,?_,by rw[a2];rfl,fun c hc=>by rw[a3 c hc];simp[Hp.put,hc]⟩
  have hlt:(i:Int)<5:=qe
  have w1:IntKind.i64.wrap ((i:Int)+1)=((i+1:Nat):Int):=qj
  rw[<-a1,qfn]
  generalize((i+1:Nat):Int)=I at*
  simp[hlt,sf,w1]
theorem Wb(e m n k:Nat)(s:En)(hp:Hp)(he:e<hp.next)(ho:ZC s 1)(hK:eK s+5<=950000)(hr:hp.rd e 0=some (EC m s k n)):
 ∃hp',run cxX 111 [.ptr e 0 0] hp=some (S 1 1 (LI .u8 (sh (sh (sh (sh (sh s))))).out),hp')/\Fm [] hp hp':=by
 have hkk:eK s=s.out.length+s.begun.toNat+s.held:=rfl
 obtain⟨s',e1,hp2,a1,a2,a3⟩:=qkl hp.next m n 5 0 s (hp.new (EC m s 1 n)) rfl ho hK (qQ _ _)
 have e1:s'=sh (sh (sh (sh (sh s)))):=e1
 rw[e1]at a1
 refine⟨hp2,?_,by rw[a2];simp,fun c hc _=>by
  have:c≠hp.next:=qe
  rw[a3 c this];simp[Hp.new,this]⟩
 have gn:∀(x0 x1 x2 x3 x4 x5 x6 x7:AV),qp [x0,x1,x2,x3,x4,x5,x6,x7] 0 8=some [x0,x1,x2,x3,x4,x5,x6,x7]:=fun _ _ _ _ _ _ _ _=>rfl
 have gc6:∀(x0 x1 x2 x3 x4 x5 x6 x7:AV),qs [x0,x1,x2,x3,x4,x5,x6,x7] 6=some x6:=fun _ _ _ _ _ _ _ _=>rfl
 have p8:∀(a0 a1 a2 a3 a4 a5 a6 a7 x0 x1 x2 x3 x4 x5 x6 x7:AV),qo [a0,a1,a2,a3,a4,a5,a6,a7] 0 [x0,x1,x2,x3,x4,x5,x6,x7]=some [x0,x1,x2,x3,x4,x5,x6,x7]:=fun _ _ _ _ _ _ _ _ _ _ _ _ _ _ _ _=>rfl
 have p6:∀(x0 x1 x2 x3 x4 x5 x6 x7 z:AV),qo [x0,x1,x2,x3,x4,x5,x6,x7] 6 [z]=some [x0,x1,x2,x3,x4,x5,z,x7]:=fun _ _ _ _ _ _ _ _ _=>rfl
 have ap:=fun k=>zcc .u8 [] 1 (.inl rfl) 1 qh k s.out qi
 simp at ap
 have hne:e≠hp.next:=qe
 have r1:∀X,(hp.new X).rd e 0=hp.rd e 0:=fun X=>zH hp X hne
 generalize(sh (sh (sh (sh (sh s))))).out=O at*
 simp only[EC]at hr a1
 rw[E111]
 simp at a1
 simp[hr,gn,qQ,qgj,p8,yC,r1,gc6,ap,p6,a1]
theorem VV(hp:Hp):∃hp' e m cb,run cxX 107 [.sc (.int .i64 64)] hp=some (.ptr e 0 0,hp')/\EW hp' e m cb en0 cs0 2 0/\hp.next<=e/\hp.next<=m/\hp.next<=cb/\hp.next<=hp'.next/\∀c,c<hp.next->hp'.get c=hp.get c:=by
 obtain⟨hp1,cb,a1,a2,a3,a4,a5⟩:=qil hp
 have hcb:=a2.2.1
 have hm:=a2.1
 refine⟨hp1.new (EC hp.next en0 2 0),hp1.next,hp.next,cb,?_,⟨qg,qQ _ _,a2.fr (Fm.new [] hp1 _) qg qg,qe,qe⟩,a4,zm8 _,qe,qi,fun c hc=>by
  have:c≠hp1.next:=qe
  rw[<-a5 c hc]
  simp[Hp.new,this]⟩
 have p0:∀(x0 x1 x2 x3 x4 x5 x6 x7 z:AV),qo [x0,x1,x2,x3,x4,x5,x6,x7] 0 [z]=some [z,x1,x2,x3,x4,x5,x6,x7]:=fun _ _ _ _ _ _ _ _ _=>rfl
 have p2:∀(x0 x1 x2 x3 x4 x5 x6 x7 z:AV),qo [x0,x1,x2,x3,x4,x5,x6,x7] 2 [z]=some [x0,x1,z,x3,x4,x5,x6,x7]:=fun _ _ _ _ _ _ _ _ _=>rfl
 rw[E107]
 simp[a1,p0,p2]
 rfl
theorem qum(l:List Nat)(k' e m cb:Nat)(hl:l.length<=100000)(h64:∀x∈l,x<64):∀(r:List Nat) (i:Nat) (s:En) (cs:List Nat) (hp:Hp),l.drop i=r->i+r.length=l.length->EW hp e m cb s cs 2 i->okM cs->ZC s s.width->16777216<=s.width/\s.width<4294967296->eK s<=4*i->
 ∃hp' cs',B181_5 (.ptr e 0 0) (S k' 1 (LI .u8 (nz l))) (.int .i64 (l.length:Int)) (.int .i64 (i:Int)) hp=B181_5 (.ptr e 0 0) (S k' 1 (LI .u8 (nz l))) (.int .i64 (l.length:Int)) (.int .i64 (l.length:Int)) hp'/\
  EW hp' e m cb (enc cs s r) cs' 2 l.length/\F3 e m cb hp hp'/\ZC (enc cs s r) (enc cs s r).width/\eK (enc cs s r)<=4*l.length:=by
 intro r
 induction r with
 |nil=>
  intro i s cs hp h hil hE hm ho hw hK
  have e:i=l.length:=by simpa using hil
  subst e
  exact⟨hp,cs,rfl,hE,⟨rfl,fun _ _ _ _=>rfl⟩,ho,hK⟩
 |cons x r ih=>
  intro i s cs hp h hil hE hm ho hw hK
  obtain⟨e1,e2,hi,e3⟩:=qt h
  simp only[zm5]at hil
  have hx:x<64:=h64 x (by rw[<-e3];exact znm _)
  obtain⟨d,b1,b2,b3,b4,b5,b6,b7⟩:=Zf s cs x hm hx ho ⟨hw.1,zp9 hw.2⟩
  have hd:d<=4:=qzg b7 (by rw[<-b2];exact b6)
  have hlt2:(zG 4 (xK s cs x)).width<4294967296:=by
   apply Vq
   show s.width/cs.sum*cs.getD x 0<_
   have ht:=qP cs x (by have:=hm.1;omega)
   have hta:=qR cs (x+1)
   have hmul:s.width/cs.sum*cs.sum<=s.width:=zok _ _
   have hle:s.width/cs.sum*cs.getD x 0<=s.width/cs.sum*cs.sum:=zof _ qe
   omega
  obtain⟨hp1,c1,c2,c3⟩:=qis e m cb 2 (.inr rfl) x hx cs hm i qe s hp hE ho hw qe
  obtain⟨hp2,cs2,d1,d2,d3,d4,d5⟩:=ih (i+1) (zG 4 (xK s cs x)) (Yy cs x) hp1 e2 qe c2 (QG hm hx) b4 ⟨b5,hlt2⟩ qe
  have ee:enc cs s (x::r)=enc (Yy cs x) (zG 4 (xK s cs x)) r:=rfl
  rw[ee]
  refine⟨hp2,cs2,?_,d2,c3.trans d3,d4,d5⟩
  have hlt:(i:Int)<(l.length:Int):=qe
  have gs0:∀(v:Value),ql [.sc v] 0=some v:=fun _=>rfl
  have en:∀h,(nz l)[i]'h=(x:Int):=fun h=>by simp[nz,e3]
  have hi4:(i<l.length)=True:=by simp[hi]
  have w1:IntKind.i64.wrap (x:Int)=(x:Int):=qm qe qe
  have w2:IntKind.i64.wrap ((i:Int)+1)=((i+1:Nat):Int):=qj
  rw[<-d1,qed]
  generalize((i+1:Nat):Int)=I at*
  simp[hi4,gs0,en,jV,w1,c1,w2]
theorem qst(l:List Nat)(k:Nat)(hl:l.length<=100000)(h64:∀x∈l,x<64)(hp:Hp):∃hp',run cxX 181 [.sc (.int .i64 64),S k 1 (LI .u8 (nz l))] hp=some (.tup [S 1 1 (LI .u8 (jh l)),.sc (.int .i64 0)],hp')/\Fm [] hp hp':=by
 obtain⟨hp1,e,m,cb,a1,a2,a3,a4,a5,a6,a7⟩:=VV hp
 obtain⟨hp2,cs2,b1,b2,b3,b4,b5⟩:=qum l (rk k) e m cb hl h64 l 0 en0 cs0 hp1 rfl qg a2 qjn qjo ⟨qh,qh⟩ qh
 obtain⟨hp3,c1,c2⟩:=Wb e m l.length 2 (enc cs0 en0 l) hp2 b2.1 (Yf b4 b4.2.2.1 qe) qe b2.2.1
 have ec:(sh (sh (sh (sh (sh (enc cs0 en0 l)))))).out=jh l:=rfl
 rw[ec]at c1
 refine⟨hp3,?_,by have:=c2.1;rw[b3.1]at this;omega,fun c hc _=>by
  rw[c2.2 c (by rw[b3.1];omega) qg,b3.2 c qe qe qe,a7 c hc]⟩
 have b5':B181_5 (.ptr e 0 0) (S (rk k) 1 (LI .u8 (nz l))) (.int .i64 (l.length:Int)) (.int .i64 (l.length:Int)) hp2=some (.tup [S 1 1 (LI .u8 (jh l)),.sc (.int .i64 0)],hp3):=by
  rw[qed]
  generalize jh l=O at*
  simp[c1]
 rw[<-b1]at b5'
 have b3':B181_3 (.int .i64 64) (S k 1 (LI .u8 (nz l))) hp=some (.tup [S 1 1 (LI .u8 (jh l)),.sc (.int .i64 0)],hp3):=by
  rw[<-b5',qwc]
  simp[a1]
 rw[E181]
 simp[b3']
theorem zfa(hp:Hp):∀(n:Nat) (a b acc:List Int) (k k':Nat),a.length+b.length=n->acc.length+n<=1000000->
 B38_2 (S k 1 (LI .u32 a)) (S k' 1 (LI .u32 b)) (S 2 1 (LI .u32 acc)) hp=some (S 2 1 (LI .u32 (acc++mrg a b)),hp):=by
 intro n
 induction n using Nat.strongRecOn with
 |_ n ih=>
 intro a b acc k k' hn hlen
 have ap:∀x:Int,a≠[]\/b≠[]->jn 4 1 (S 2 1 (LI .u32 acc)) (S 1 1 [.sc (.int .u32 x)])=some (S 2 1 (LI .u32 (acc++[x]))):=fun x hx=>Qu .u32 acc 2 (.inr rfl) 4 qh x qe
 rw[zdl]
 have goA:∀(x:Int) (r:List Int),a=x::r->B38_5 (S k 1 (LI .u32 (x::r))) (S k' 1 (LI .u32 b)) (S 2 1 (LI .u32 acc)) hp=some (S 2 1 (LI .u32 (acc++x::mrg r b)),hp):=by
  intro x r e
  subst e
  have e:=yW (rk k) (LI .u32 (x::r)) .i64 1 qe (by simp only[kQ,zm5];omega)
  have i:=fun k=>ih (r.length+b.length) (by simp at hn;omega) r b (acc++[x]) k k' rfl (by simp at hn⊢;omega)
  have ap:=ap x qg
  simp at i ap e
  rw[zdj]
  simp[qs,ql,ap,e,i]
 have goB:∀(y:Int) (s:List Int),b=y::s->B38_7 (S k 1 (LI .u32 a)) (S k' 1 (LI .u32 (y::s))) (S 2 1 (LI .u32 acc)) hp=some (S 2 1 (LI .u32 (acc++y::mrg a s)),hp):=by
  intro x r e
  subst e
  have e:=yW (rk k') (LI .u32 (x::r)) .i64 1 qe (by simp only[kQ,zm5];omega)
  have i:=fun k'=>ih (a.length+r.length) (by simp at hn;omega) a r (acc++[x]) k k' rfl (by simp at hn⊢;omega)
  have ap:=ap x qg
  simp at i ap e
  rw[zdi]
  simp[qs,ql,ap,e,i]
 have wW:∀(x:Int) (r:List Int) (y:Int) (s:List Int),a=x::r->b=y::s->B38_3 (S k 1 (LI .u32 (x::r))) (S k' 1 (LI .u32 (y::s))) (S 2 1 (LI .u32 acc)) hp=some (S 2 1 (LI .u32 (acc++x::mrg r s)),hp):=by
  intro x r y s e1 e2
  subst e1 e2
  have e:=yW (rk k) (LI .u32 (x::r)) .i64 1 qe (by simp only[kQ,zm5];omega)
  have e':=yW (rk k') (LI .u32 (y::s)) .i64 1 qe (by simp only[kQ,zm5];omega)
  have i:=fun k k'=>ih (r.length+s.length) (by simp at hn;omega) r s (acc++[x]) k k' rfl (by simp at hn⊢;omega)
  have ap:=ap x qg
  simp at i ap e e'
  rw[zdk]
  simp[qs,ql,ap,e,e',i]
 match a,b with
 |[],[]=>simp
 |[],y::s=>
  have h:=goB y s rfl
  simp at h
  have hw':IntKind.i64.wrap ((s.length:Int)+1)=(s.length:Int)+1:=qm qe (by simp at hn;omega)
  have p:(0:Int)<(s.length:Int)+1:=qe
  have z:¬((s.length:Int)+1=0):=qe
  simp[hw',p,z,qa6,h]
 |x::r,[]=>
  have h:=goA x r rfl
  simp at h
  have hw':IntKind.i64.wrap ((r.length:Int)+1)=(r.length:Int)+1:=qm qe (by simp at hn;omega)
  have p:(0:Int)<(r.length:Int)+1:=qe
  simp[hw',p,h]
 |x::r,y::s=>
  have h1:=goA x r rfl
  have h2:=goB y s rfl
  have h3:=wW x r y s rfl rfl
  have hw':IntKind.i64.wrap ((r.length:Int)+1+((s.length:Int)+1))=(r.length:Int)+1+((s.length:Int)+1):=qm qe (by simp at hn;omega)
  have p:(0:Int)<(r.length:Int)+1+((s.length:Int)+1):=qe
  have p':(0:Int)<(r.length:Int)+1:=qe
  have z:¬((s.length:Int)+1=0):=qe
  have z':¬((r.length:Int)+1=0):=qe
  rw[zP]
  by_cases hxy:x<y
  ·simp[ql,hw',p,p',z,z',hxy,h1]
  ·by_cases hyx:y<x
   ·simp[ql,hw',p,p',z,z',hxy,hyx,h2,qa6]
   ·simp[ql,hw',p,p',z,z',hxy,hyx,h3,qa6]
theorem zik(a b:List Int)(k k':Nat)(hp:Hp)(hlen:a.length+b.length<=1000000):
 run cxX 38 [S k 1 (LI .u32 a),S k' 1 (LI .u32 b)] hp=some (S 2 1 (LI .u32 (mrg a b)),hp):=by
 rw[E38]
 have:=zfa hp _ a b [] k k' rfl (by simpa using hlen)
 simpa using this
theorem qmt(a b:List Int)(k k':Nat)(hab:a.length=b.length)(hl:a.length<=1000000)(hp:Hp):∀(r s:List Int) (i:Nat),a.drop i=r->b.drop i=s->
 B131_4 (S k 1 (LI .u32 a)) (S k' 1 (LI .u32 b)) (.int .i64 a.length) (.int .i64 i) hp=some (.sc (.bool (decide (r=s))),hp):=by
 intro r
 induction r with
 |nil=>
  intro s i hr hs
  have h1:=qJ hr
  have h2:s=[]:=by rw[<-hs];exact zoc qe
  have hlt:¬((i:Int)<(a.length:Int)):=qe
  rw[qfg]
  simp[hlt,h2]
 |cons x r ih=>
  intro s i hr hs
  obtain⟨e1,e2,hi,e3⟩:=qt hr
  rw[qfg]
  have hw:IntKind.i64.wrap ((i:Int)+1)=((i+1:Nat):Int):=qj
  cases s with
  |nil=>have:=qJ hs;omega
  |cons y s=>
   obtain⟨f1,f2,hj,f3⟩:=qt hs
   have h:=ih s (i+1) e2 f2
   simp at h hw
   by_cases e:x=y
   ·simp[hi,hj,ql,e3,f3,e,hw,h]
   ·simp[hi,hj,ql,e3,f3,e]
theorem qsb(a b:List Int)(k k':Nat)(hp:Hp)(ha:a.length<=1000000):
 run cxX 131 [S k 1 (LI .u32 a),S k' 1 (LI .u32 b)] hp=some (.sc (.bool (decide (a=b))),hp):=by
 rw[E131]
 by_cases h3:a.length=b.length
 ·have h:=qmt a b k k' h3 ha hp a b 0 rfl rfl
  simp at h
  rw[h3]at h
  simp[h3,h]
 ·have h4:¬(a=b):=fun e=>h3 (by rw[e])
  have h5:¬((a.length:Int)=(b.length:Int)):=qe
  simp[h4,h5]
def Wx:List Int->Int
 |[]=>0
 |[_]=>0
 |x::y::r=>if y<=x then 8 else Wx (y::r)
def qh2(l:List Int):Int:=if 4096<l.length then 7 else Wx l
theorem XV:∀{l:List Int},yq l->Wx l=0
 |[],_=>rfl
 |[_],_=>rfl
 |x::y::r,h=>by
  have h':=znd.mp h
  have hxy:=h'.1 y qg
  show(if y<=x then 8 else Wx (y::r))=0
  rw[if_neg qe]
  exact XV h'.2
theorem qcs:∀{l:List Int},Wx l=0->yq l
 |[],_=>List.Pairwise.nil
 |[_],_=>by simp
 |x::y::r,h=>by
  have h:(if y<=x then 8 else Wx (y::r))=0:=h
  split at h
  ·cases h
  ·rename_i hxy
   have ih:=qcs h
   have ih':=znd.mp ih
   refine znd.mpr ⟨fun n hn=>?_,ih⟩
   rcases zm9.mp hn with rfl|hn
   ·omega
   ·have:=ih'.1 n hn;omega
theorem qh3(l:List Int)(k:Nat)(hl:l.length<=4096)(hp:Hp):∀(r:List Int) (x:Int) (j:Nat),l.drop j=x::r->
 B84_4 (S k 1 (LI .u32 l)) (.int .i64 ((j+1:Nat):Int)) hp=some (.sc (.int .i64 (Wx (x::r))),hp):=by
 intro r
 induction r with
 |nil=>
  intro x j hr
  obtain⟨e1,e2,hi,e3⟩:=qt hr
  have:=qJ e2
  have hlt:¬((j:Int)+1<(l.length:Int)):=qe
  rw[qay]
  simp[hlt,Wx]
 |cons y r ih=>
  intro x j hr
  obtain⟨e1,e2,hi,e3⟩:=qt hr
  obtain⟨f1,f2,hj,f3⟩:=qt e2
  have hlt:(j:Int)+1<(l.length:Int):=qe
  have hw:IntKind.i64.wrap ((j:Int)+1-1)=(j:Int):=qj
  have hw2:IntKind.i64.wrap ((j:Int)+1+1)=((j+1+1:Nat):Int):=qj
  have hz:(0:Int)<=(j:Int)+1:=qe
  have hn:((j:Int)+1).toNat=j+1:=qe
  have h:=ih y (j+1) e2
  rw[qay]
  simp at h hw hw2
  by_cases hxy:y<=x
  ·simp[hlt,hw,hz,hn,hi,hj,ql,e3,f3,hxy,Wx]
  ·simp[hlt,hw,hw2,hz,hn,hi,hj,ql,e3,f3,hxy,Wx,h]
theorem qm1(l:List Int)(k:Nat)(hp:Hp):run cxX 84 [S k 1 (LI .u32 l)] hp=some (.sc (.int .i64 (qh2 l)),hp):=by
 rw[E84]
 unfold qh2
 by_cases hl:4096<l.length
 ·have:(4096:Int)<(l.length:Int):=qe
  simp[hl,this]
 ·have:¬((4096:Int)<(l.length:Int)):=qe
  cases l with
  |nil=>
   have h0:B84_4 (S k 1 []) (.int .i64 1) hp=some (.sc (.int .i64 0),hp):=by
    rw[qay]
    simp
   simp[h0,Wx]
  |cons x r=>
   have h:=qh3 (x::r) k qe hp r x 0 rfl
   simp at h hl this
   have h1:¬(4096<r.length+1):=qe
   have h2:¬((4096:Int)<(r.length:Int)+1):=qe
   simp[h,h1,h2]
def MsR(hp:Hp)(x:AV)(l:List Int):Prop:=(l=[]/\x=S 2 1 [])\/(l≠[]/\∃b,x= .ms b 0 0 l.length 1/\hp.rd b 0=some (LI .u32 l))
theorem MsR.len{hp:Hp}{x:AV}{l:List Int}(h:MsR hp x l):xU (ro x)=some l.length:=by
 rcases h with⟨rfl,rfl⟩|⟨_,b,rfl,_⟩
 ·simp
 ·simp
theorem qql{a b:List Int}{n:Int}(h:yq (a++b))(ha:∀x∈a,x<n)(hb:∀x∈b,n<x):mrg (a++b) [n]=a++n::b:=by
 have h':=zpb.mp h
 refine YO (xv _ _ h qg) ?_ (fun x=>?_)
 ·refine zpb.mpr ⟨h'.1,znd.mpr ⟨fun x hx=>hb x hx,h'.2.1⟩,fun x hx y hy=>?_⟩
  rcases zm9.mp hy with rfl|hy
  ·exact ha x hx
  ·exact h'.2.2 x hx y hy
 ·rw[xx];simp
  constructor
  ·rintro((h|h)|h)<;>simp[h]
  ·rintro(h|h|h)<;>simp[h]
theorem zab(a b:List Int)(n:Int)(x x8:AV)(v9 v10:Value)(hp:Hp)(hx:MsR hp x (a++b))(hl:(a++b).length<4096):
 ∃x' hp',MsR hp' x' (a++n::b)/\B76_9 x (.int .u32 n) (.int .i64 a.length) x8 v9 v10 hp=B76_14 x' x8 v9 v10 hp':=by
 have hne:¬(((a++b).length:Int)=4096):=qe
 --the append
 obtain⟨c,hp1,hc,ap⟩:∃c hp1,hp1.rd c 0=some (LI .u32 (a++b++[0]))/\jP 4 1 (ro x) (S 1 1 [.sc (.int .u32 0)]) hp=some (.ms c 0 0 ((a++b).length+1) 1,hp1):=by
  rcases hx with⟨e,rfl⟩|⟨e,c,rfl,hc⟩
  ·refine⟨hp.next,hp.new (LI .u32 [0]),?_,?_⟩
   ·rw[e];exact qQ _ _
   ·rw[e];exact Ze .u32 0 4 qh hp
  ·exact⟨hp.next,(hp.del c).new (LI .u32 (a++b++[0])),qQ (hp.del c) _,ZV .u32 (a++b) 0 4 c qh qe e hp hc⟩
 have e0:(a++b++[0]).length=(a++b).length+1:=qi
 have e1:(a++b).length=a.length+b.length:=qg
 have lx:=hx.len
 --the copy
 have sm:=YE .u32 (a++b++[0]) hp1 c a.length ((a++b).length+1-a.length) hc qe
 have sm2:((a++b++[0]).drop a.length).take ((a++b).length+1-a.length)=b++[0]:=by
  rw[znq,zqc]
  exact zn2 qi
 rw[sm2]at sm
 have cp:(Xq 1 ((a++b).length+1-(a.length+1)) (LI .u32 (b++[0]))).2=LI .u32 b:=by
  unfold Xq
  simp only[WF,kQ,zoy]
  have e:min (b++[0]).length ((a++b).length+1-(a.length+1))=b.length:=qg
  rw[e,zg9,zrm]
 have p1:=zez .u32 (a++b++[0]) b (a.length+1) qe
 have p1':(a++b++[0]).take (a.length+1)++b++(a++b++[0]).drop (a.length+1+b.length)=a++((b++[0]).take 1++b):=by
  have d:(a++b++[0]).drop (a.length+1+b.length)=[]:=zoc qe
  rw[d,zns,znq a b,List.take_append]
  have e:a.length+1-a.length=1:=qe
  rw[e,zn2 (by omega:a.length<=a.length+1),znq]
 rw[p1']at p1
 obtain⟨z,hz⟩:∃z,(b++[0]).take 1=[z]:=by
  cases b with
  |nil=>exact⟨0,rfl⟩
  |cons y b=>exact⟨y,rfl⟩
 rw[hz]at p1
 have hlen2:(a++([z]++b)).length=(a++b).length+1:=qi
 have p2:=yL .u32 (a++([z]++b)) a.length n qg
 have p2':(a++([z]++b)).set a.length n=a++n::b:=qg
 rw[p2']at p2
 have hlen3:(a++n::b).length=(a++b).length+1:=qi
 have w1:IntKind.i64.wrap ((a.length:Int)+((1:Nat):Int))=((a.length+1:Nat):Int):=qj
 have bd1:=xY (hi:=(a++b).length+1) (d:=0) (n:=a.length+1) .i64 qe
 have bd2:=xY (hi:=(a++b).length+1) (d:=0) (n:=a.length) .i64 qe
 have ix:=zj (n:=(a++b).length+1) (i:=a.length) .i64 qe
 refine⟨.ms c 0 0 (a++n::b).length 1,((hp1.put c 0 (LI .u32 (a++([z]++b)))).put c 0 (LI .u32 (a++n::b))),.inr ⟨qg,c,rfl,qr _ _ _⟩,?_⟩
 rw[hlen3,zct]
 have hz0:(((a++b).length:Nat):Int)=((4096:Nat):Int)↔False:=⟨fun h=>hne qe,False.elim⟩
 have uS:AV.us 1 [ro1 (AV.sc (.int .u32 (0:Int)))]=S 1 1 [.sc (.int .u32 0)]:=rfl
 have ov:yC [AV.sc (Value.int IntKind.u32 (0:Int))]=some ():=by rw[qz9];exact if_pos qg
 generalize(a++b).length=m at*
 have z0:((0:Nat):Int)=0:=rfl
 simp only[JL,lx,zm7,zou,qar,hz0,z0,xG,decide_false,jm,cond_false,ov,uS,us_S,ap,jM,w1,qcq,xz,qao,bd1,bd2,vf,Zc,sm,hc,zqb,znf,Nat.sub_eq,cp,p1,ix,qr,p2]
theorem zfl(n:Int)(x8:AV)(v9 v10:Value):∀(m:Nat) (a b:List Int) (x:AV) (hp:Hp),a.length=m->MsR hp x (a++b)->yq (a++b)->(∀y∈b,n<y)->(a++b).length<4096->
 ∃x' hp',MsR hp' x' (mrg (a++b) [n])/\B76_6 x (.int .u32 n) (.int .i64 a.length) x8 v9 v10 hp=B76_14 x' x8 v9 v10 hp':=by
 intro m
 induction m with
 |zero=>
  intro a b x hp hm hx hr hb hl
  have:a=[]:=znk.mp hm
  subst this
  obtain⟨x',hp',h1,h2⟩:=zab [] b n x x8 v9 v10 hp hx hl
  refine⟨x',hp',?_,?_⟩
  ·rw[qql hr qg hb];exact h1
  ·rw[qlv]
   simpa using h2
 |succ m ih=>
  intro a b x hp hm hx hr hb hl
  obtain⟨a',y,rfl⟩:∃a' y,a=a'++[y]:=⟨a.dropLast,a.getLast (by intro e;subst e;simp at hm),(List.dropLast_concat_getLast _).symm⟩
  have hm':a'.length=m:=by simpa using hm
  have hne:a'++[y]++b≠[]:=qg
  obtain⟨c,rfl,hc⟩:∃c,x= .ms c 0 0 (a'++[y]++b).length 1/\hp.rd c 0=some (LI .u32 (a'++[y]++b)):=by
   rcases hx with⟨e,_⟩|⟨_,c,h1,h2⟩
   ·exact absurd e hne
   ·exact⟨c,h1,h2⟩
  have hpos:(0:Int)<((a'++[y]).length:Int):=qe
  have hm4:m<4096:=by simp at hl;omega
  have w1:IntKind.i64.wrap (((a'++[y]).length:Int)-1)=(a'.length:Int):=by rw[hm,qm]<;>omega
  have ix:=zj (n:=(a'++[y]++b).length) (i:=a'.length) .i64 qg
  have gs:(a'++[y]++b)[a'.length]?=some y:=qg
  have hr':=zpb.mp hr
  have hra:=zpb.mp hr'.1
  rw[qlv]
  have hpos':(((a'++[y]).length:Nat):Int)>((0:Nat):Int)↔True:=⟨fun _=>trivial,fun _=>hpos⟩
  have w1':IntKind.i64.wrap ((((a'++[y]).length:Nat):Int)-((1:Nat):Int))=(a'.length:Int):=w1
  by_cases hy:n<=y
  ·have hge:(y>=n)↔True:=⟨fun _=>trivial,fun _=>hy⟩
   by_cases he:y=n
   ·--it is there
    subst he
    refine⟨.ms c 0 0 (a'++[y]++b).length 1,hp,?_,?_⟩
    ·rw[zft hr qg qg]
     exact .inr ⟨hne,c,rfl,hc⟩
    ·generalize hN:(a'++[y]++b).length=N at*
     simp only[JL,zou,Qs,hpos',decide_true,jm,zm7,cond_true,vY,w1',qcq,xz,ix,vf,Zc,xG,hc,zqb,znf,ql,Vg?,gs,zo9,xJ,ZU,hge]
     rw[qlu]
     simp only[JL,zou,Qs,hpos',decide_true,jm,zm7,cond_true,vY,w1',qcq,xz,ix,vf,Zc,xG,hc,zqb,znf,ql,Vg?,gs,zo9,xJ,qar]
   ·have e2:a'++[y]++b=a'++(y::b):=qg
    obtain⟨x',hp',h1,h2⟩:=ih a' (y::b) (.ms c 0 0 (a'++[y]++b).length 1) hp hm' (by rw[<-e2];exact .inr ⟨hne,c,rfl,hc⟩) (by rw[<-e2];exact hr) (fun z hz=>by
     rcases zm9.mp hz with rfl|hz
     ·omega
     ·exact hb z hz) (by rw[<-e2];exact hl)
    refine⟨x',hp',by rw[e2];exact h1,?_⟩
    have hne2:(y=n)↔False:=⟨fun h=>he h,False.elim⟩
    generalize hN:(a'++[y]++b).length=N at*
    simp only[JL,zou,Qs,hpos',decide_true,jm,zm7,cond_true,vY,w1',qcq,xz,ix,vf,Zc,xG,hc,zqb,znf,ql,Vg?,gs,zo9,xJ,ZU,hge]
    rw[qlu]
    simp only[JL,zou,Qs,hpos',decide_true,jm,zm7,cond_true,cond_false,decide_false,vY,w1',qcq,xz,ix,vf,Zc,xG,hc,zqb,znf,ql,Vg?,gs,zo9,xJ,qar,hne2]
    exact h2
  ·have hge:(y>=n)↔False:=⟨fun h=>hy h,False.elim⟩
   obtain⟨x',hp',h1,h2⟩:=zab (a'++[y]) b n (.ms c 0 0 (a'++[y]++b).length 1) x8 v9 v10 hp (.inr ⟨hne,c,rfl,hc⟩) hl
   refine⟨x',hp',?_,?_⟩
   ·rw[qql hr (fun z hz=>?_) hb]
    ·exact h1
    ·rcases zoe.mp hz with hz|hz
     ·have:=hra.2.2 z hz y qg;omega
     ·simp at hz;omega
   ·generalize hN:(a'++[y]++b).length=N at*
    simp only[JL,zou,Qs,hpos',decide_true,decide_false,jm,zm7,cond_true,cond_false,vY,w1',qcq,xz,ix,vf,Zc,xG,hc,zqb,znf,ql,Vg?,gs,zo9,xJ,ZU,hge]
    exact h2
theorem zfm(l:List Int)(k:Nat)(hl:l.length<=4096):∀(r:List Int) (i:Nat) (s:List Int) (x:AV) (hp:Hp),l.drop i=r->yq s->s.length<=i->i<=l.length->MsR hp x s->
 ∃t hp',B76_3 x (S k 1 (LI .u32 l)) (.int .i64 l.length) (.int .i64 i) hp=some (.tup [S t 1 (LI .u32 (KG s r)),.sc (.int .i64 0)],hp'):=by
 intro r
 induction r with
 |nil=>
  intro i s x hp hr hs hsl hil hx
  have:=qJ hr
  have hlt:¬((i:Int)<(l.length:Int)):=qe
  rcases hx with⟨rfl,rfl⟩|⟨_,b,rfl,hb⟩
  ·refine⟨2,hp,?_⟩
   rw[qaz]
   simp[hlt,KG]
  ·have f:=vS .u32 s hp b hb
   refine⟨0,hp.del b,?_⟩
   rw[qaz]
   simp[hlt,KG,f]
 |cons y r ih=>
  intro i s x hp hr hs hsl hil hx
  obtain⟨e1,e2,hi,e3⟩:=qt hr
  have hw:IntKind.i64.wrap ((i:Int)+1)=((i+1:Nat):Int):=qj
  obtain⟨x',hp1,h1,h2⟩:=zfl y (S k 1 (LI .u32 l)) (.int .i64 l.length) (.int .i64 i) s.length s [] x hp rfl (by simpa using hx) (by simpa using hs) qg qi
  rw[zns]at h1
  have hl1:(mrg s [y]).length<=s.length+1:=by simpa using YZ s [y]
  obtain⟨t,hp',h⟩:=ih (i+1) (mrg s [y]) x' hp1 e2 (xv _ _ hs qg) qe qe h1
  refine⟨t,hp',?_⟩
  have lx:=hx.len
  rw[qaz]
  have h14:B76_14 x' (S k 1 (LI .u32 l)) (.int .i64 l.length) (.int .i64 i) hp1=B76_3 x' (S k 1 (LI .u32 l)) (.int .i64 l.length) (.int .i64 ((i+1:Nat):Int)) hp1:=by
   rw[qvb]
   simp at hw
   simp[hw]
  rw[h14]at h2
  simp at h2 h
  simp[hi,e3,ql,lx,h2,h,KG]
theorem qm5(l:List Int)(k:Nat)(hl:l.length<=4096)(hp:Hp):∃t hp',run cxX 76 [S k 1 (LI .u32 l)] hp=some (.tup [S t 1 (LI .u32 (KG [] l)),.sc (.int .i64 0)],hp'):=by
 obtain⟨t,hp',h⟩:=zfm l (rk k) hl l 0 [] (S 2 1 []) hp rfl List.Pairwise.nil qg qg (.inl ⟨rfl,rfl⟩)
 refine⟨t,hp',?_⟩
 rw[E76]
 simpa using h
theorem qog(l:List Int)(k:Nat)(hl:l.length<=4096)(hp:Hp):∀(r:List Int) (i:Nat) (a:List Int),l.drop i=r->a.length<=i->i<=l.length->
 ∃t,B31_3 (.bool false) (S 2 1 (LI .u32 a)) (S k 1 (LI .u32 l)) (.int .i64 l.length) (.int .i64 i) hp=some (.tup [S t 1 (LI .u32 (KG [] (a++r))),.sc (.int .i64 0)],hp):=by
 intro r
 induction r with
 |nil=>
  intro i a hr ha hil
  have:=qJ hr
  have hlt:¬((i:Int)<(l.length:Int)):=qe
  obtain⟨t,hp',h⟩:=qm5 a 3 qe hp0
  refine⟨t,?_⟩
  rw[qmg]
  simp[hlt,h]
 |cons y r ih=>
  intro i a hr ha hil
  obtain⟨e1,e2,hi,e3⟩:=qt hr
  have hw:IntKind.i64.wrap ((i:Int)+1)=((i+1:Nat):Int):=qj
  have ap:=Qu .u32 a 2 (.inr rfl) 4 qh y qe
  obtain⟨t,h⟩:=ih (i+1) (a++[y]) e2 qi qe
  refine⟨t,?_⟩
  rw[qmg]
  simp at h hw ap
  simp[hi,e3,ql,zdn,ap,hw,h]
theorem qyn(l:List Int)(k:Nat)(hl:l.length<=4096)(hp:Hp):∃t,run cxX 31 [S k 1 (LI .u32 l),.sc (.bool false)] hp=some (.tup [S t 1 (LI .u32 (KG [] l)),.sc (.int .i64 0)],hp):=by
 obtain⟨t,h⟩:=qog l (rk k) hl hp l 0 [] rfl qg qg
 refine⟨t,?_⟩
 rw[E31]
 simp at h
 simp[h]
def qk0(x:Nat):Nat:=if x=0 then 0 else Nat.log2 x+1
theorem zgy{x n:Nat}(h:Bl x n):n=qk0 x:=by
 unfold qk0
 by_cases hx:x=0
 ·rw[if_pos hx]
  subst hx
  rcases h.2 with h2|h2
  ·exact h2
  ·have:=zpi (n-1);omega
 ·rw[if_neg hx]
  have hn:n≠0:=by
   intro e;subst e
   have:=h.1
   simp at this
   exact hx this
  have h2:=h.2.resolve_left hn
  have a1:=Nat.log2_self_le hx
  have a2:x<2^(Nat.log2 x+1):=Nat.lt_log2_self
  have b1:n-1<Nat.log2 x+1:=(Nat.pow_lt_pow_iff_right (by decide:1<2)).mp (zor h2 a2)
  have b2:Nat.log2 x<n:=(Nat.pow_lt_pow_iff_right (by decide:1<2)).mp (zor a1 h.1)
  omega
theorem zee(x:Nat)(h:x<18446744073709551616)(hp:Hp):run cxX 154 [.sc (.int .u64 (x:Int))] hp=some (.sc (.int .i64 ((64-qk0 x:Nat):Int)),hp):=by
 obtain⟨n,h1,h2,h3⟩:=qsj x h
 rw[zgy h2]at h1 h3
 have w:IntKind.i64.wrap (64-(qk0 x:Int))=((64-qk0 x:Nat):Int):=qj
 rw[E154]
 simp[h3,w]
abbrev Hv(P:Int)(x:AV):AV:=.agg [.sc (.int .i64 P),x]
def jX(P:Int):Nat:=2^P.toNat
def xc(P h:Int):Nat:=(h/2^(64-P).toNat).toNat
def JI(P h:Int):Int:=min ((64-qk0 ((h*2^P.toNat)%18446744073709551616).toNat:Nat):Int) (64-P)+1
theorem qg8{P h:Int}(hP:4<=P/\P<=8):1<=JI P h/\JI P h<=65-P:=by
 unfold JI;omega
theorem zf2{P h:Int}(hP:4<=P/\P<=8)(hh:0<=h/\h<18446744073709551616):xc P h<jX P:=by
 unfold xc jX
 obtain⟨p,rfl⟩:∃p:Nat,P=p:=⟨P.toNat,qe⟩
 obtain⟨x,rfl⟩:∃x:Nat,h=x:=⟨h.toNat,qe⟩
 have e:(64-(p:Int)).toNat=64-p:=qe
 rw[e,znc]
 have e2:((x:Int)/2^(64-p))=((x/2^(64-p):Nat):Int):=qg
 rw[e2,znc]
 apply Nat.div_lt_of_lt_mul
 rw[<-Nat.pow_add]
 have e3:64-p+p=64:=qe
 rw[e3]
 omega
theorem qm7(P h:Int)(x:AV)(hP:4<=P/\P<=8)(hh:0<=h/\h<18446744073709551616)(hp:Hp):
 run cxX 90 [Hv P x,.sc (.int .u64 h)] hp=some (.tup [.sc (.int .i64 (xc P h:Int)),.sc (.int .u8 (JI P h))],hp):=by
 rw[E90]
 have m1:max P 4=P:=qe
 have m2:min P 8=P:=qe
 have w1:IntKind.i64.wrap (64-P)=64-P:=qm qe qe
 have s1:∀t x y,qx Tryz.prog .shr t x y (.int .u64 h) (.int .i64 (64-P))=some (.int .u64 (xc P h:Int)):=by
  intro t x y
  rw[jL _ _ _ _ _ _ _ _ qe]
  have e:min (64-P).toNat IntKind.u64.bits=(64-P).toNat:=by
   have:IntKind.u64.bits=64:=rfl
   omega
  rw[e,zon _ (by exact_mod_cast znw _)]
  unfold xc
  have:0<=h/2^(64-P).toNat:=Int.ediv_nonneg hh.1 (by exact_mod_cast znw _)
  rw[zos this]
 have hlt:=zf2 hP hh
 have h256:jX P<=256:=by
  unfold jX
  have:P.toNat<=8:=qe
  calc 2^P.toNat<=2^8:=zn6 qh this
   _=256:=rfl
 have w2:IntKind.i64.wrap (xc P h:Int)=(xc P h:Int):=qm qe qe
 obtain⟨y,hy⟩:∃y:Nat,y=((h*2^P.toNat)%18446744073709551616).toNat:=⟨_,rfl⟩
 have hy64:y<18446744073709551616:=qe
 have s2:∀t a b,qx Tryz.prog .shl t a b (.int .u64 h) (.int .i64 P)=some (.int .u64 (y:Int)):=by
  intro t a b
  rw[zW _ _ _ _ _ _ _ _ qe]
  have e:min P.toNat IntKind.u64.bits=P.toNat:=by
   have:IntKind.u64.bits=64:=rfl
   omega
  rw[e,IntKind.wrap_u64,hy]
  congr 2
  omega
 have lz:=fun hp=>zee y hy64 hp
 have hr:=qg8 (h:=h) hP
 have hre:JI P h=min ((64-qk0 y:Nat):Int) (64-P)+1:=by unfold JI;rw[hy]
 have w3:IntKind.i64.wrap (min ((64-qk0 y:Nat):Int) (64-P)+1)=JI P h:=by rw[<-hre];exact qm qe qe
 have w4:IntKind.u8.wrap (JI P h)=JI P h:=zA qe qe
 simp[ql,m1,m2,w1,s1,s2,w2,lz,w3,w4]
theorem qp3(P:Int)(hP:0<=P/\P<=8)(t:TypeId)(x y:Operand):qx Tryz.prog .shl t x y (.int .i64 1) (.int .i64 P)=some (.int .i64 (jX P:Int)):=by
 rw[zW _ _ _ _ _ _ _ _ qe]
 have e:min P.toNat IntKind.i64.bits=P.toNat:=by
  have:IntKind.i64.bits=64:=rfl
  omega
 have h256:jX P<=256:=by
  unfold jX
  have:P.toNat<=8:=qe
  calc 2^P.toNat<=2^8:=zn6 qh this
   _=256:=rfl
 rw[e]
 have e2:(1*2^P.toNat:Int)=(jX P:Int):=by unfold jX;simp
 rw[e2,qm qe qe]
theorem Vx{P:Int}(hP:P<=8):jX P<=256:=by
 unfold jX
 have:P.toNat<=8:=qe
 calc 2^P.toNat<=2^8:=zn6 qh this
  _=256:=rfl
theorem qyr(P:Int)(x:AV)(hP:0<=P/\P<=64)(hp:Hp):run cxX 153 [Hv P x] hp=some (.sc (.int .i64 (65-P)),hp):=by
 rw[E153]
 have w:IntKind.i64.wrap (65-P)=65-P:=qm qe qe
 simp[ql,w]
def KT(P:Int)(l:List Int):Int:=if(∃n∈l,65-P<n)then 2 else 0
def qt8(P:Int)(l:List Int):Int:=if P<4\/8<P then 2 else if l.length≠jX P then 6 else KT P l
theorem qj5(P:Int)(l:List Int)(k:Nat)(hP:4<=P/\P<=8)(hl:l.length<=1000)(h8:∀n∈l,0<=n/\n<256)(hp:Hp):∀(r:List Int) (i:Nat),l.drop i=r->
 B86_6 (S k 1 (LI .u8 l)) (.int .i64 l.length) (.int .i64 i) [.sc (.int .i64 P),S k 1 (LI .u8 l)] hp=some (.sc (.int .i64 (KT P r)),hp):=by
 intro r
 induction r with
 |nil=>
  intro i hr
  have:=qJ hr
  have hlt:¬((i:Int)<(l.length:Int)):=qe
  rw[qlp]
  simp[hlt,KT]
 |cons x r ih=>
  intro i hr
  obtain⟨e1,e2,hi,e3⟩:=qt hr
  have hx:=h8 x (znh e1)
  have hw:IntKind.i64.wrap ((i:Int)+1)=((i+1:Nat):Int):=qj
  have w8:IntKind.i64.wrap x=x:=qm qe qe
  have tp:=fun y hp=>qyr P y qe hp
  have h:=ih (i+1) e2
  rw[qlp]
  simp at h hw
  by_cases e:65-P<x
  ·simp[hi,e3,ql,qp,w8,tp,e,KT]
  ·have e':KT P (x::r)=KT P r:=by
    unfold KT
    simp[e]
   simp[hi,e3,ql,qp,w8,tp,e,hw,h,e']
theorem qm9(P:Int)(l:List Int)(k:Nat)(hl:l.length<=1000000)(h8:∀n∈l,0<=n/\n<256)(hp:Hp):run cxX 86 [Hv P (S k 1 (LI .u8 l))] hp=some (.sc (.int .i64 (qt8 P l)),hp):=by
 rw[E86]
 unfold qt8
 by_cases h1:P<4
 ·simp[ql,h1,qlr]
 ·by_cases h2:8<P
  ·simp[ql,h1,h2,qlr]
  ·have s:=fun t x y=>qp3 P qe t x y
   have hple:=Vx (P:=P) qe
   by_cases h3:l.length=jX P
   ·have hh:=qj5 P l (rk k) qe qe h8 hp l 0 rfl
    simp at hh
    simp[ql,qs,h1,h2,s,h3,qlq]
    rw[<-h3];exact hh
   ·have h4:¬((l.length:Int)=(jX P:Int)):=qe
    simp[ql,qs,h1,h2,s,h3,h4,qlq]
def b8(l:List Int):List UInt8:=l.map fun n=>UInt8.ofNat n.toNat
@[simp] theorem zgv : ∀ l : List Int, zI (LI .u8 l) = some (b8 l)
 |[]=>rfl
 |x::l=>by
  have:=zgv l
  show(zI (LI .u8 l)).map _=_
  rw[this];rfl
theorem zb9:∀{a b:List Int},(∀n∈a,0<=n/\n<256)->(∀n∈b,0<=n/\n<256)->(b8 a=b8 b↔a=b)
 |[],[],_,_=>by simp
 |[],y::b,_,_=>by simp[b8]
 |x::a,[],_,_=>by simp[b8]
 |x::a,y::b,ha,hb=>by
  have ih:=zb9 (a:=a) (b:=b) (fun n hn=>ha n (by simp[hn])) (fun n hn=>hb n (by simp[hn]))
  have hx:=ha x qg
  have hy:=hb y qg
  have e:UInt8.ofNat x.toNat=UInt8.ofNat y.toNat↔x=y:=by
   constructor
   ·intro h
    have:=congrArg UInt8.toNat h
    simp at this
    omega
   ·rintro rfl;rfl
  simp only[b8,zoa,List.cons.injEq]at ih⊢
  rw[e,ih]
theorem qsl(P P':Int)(a b:List Int)(k k':Nat)(ha:∀n∈a,0<=n/\n<256)(hb:∀n∈b,0<=n/\n<256)(hp:Hp):
 run cxX 133 [Hv P (S k 1 (LI .u8 a)),Hv P' (S k' 1 (LI .u8 b))] hp=some (.sc (.bool (decide (P=P'/\a=b))),hp):=by
 rw[E133]
 by_cases h:P=P'
 ·have e:decide (b8 a=b8 b)=decide (a=b):=decide_eq_decide.mpr (zb9 ha hb)
  simp[ql,qs,h,e]
 ·simp[ql,h]
theorem qio(P:Int)(hP:4<=P/\P<=8)(hp:Hp):run cxX 77 [.sc (.int .i64 P)] hp=some (.tup [Hv P (S 0 1 (LI .u8 (List.replicate (jX P) 0))),.sc (.bool true)],hp):=by
 rw[E77]
 have h1:¬(P<4):=qe
 have h2:¬(8<P):=qe
 have s:=fun t x y=>qp3 P qe t x y
 have hple:=Vx (P:=P) qe
 have mk:yY 1 1 (jX P:Int) (jX P:Int)=some ():=Jm qe qe qh qh
 simp[h1,h2,zcs,s,mk,Jb,qp,qo]
def xq:List Int->List Int->List Int
 |[],_=>[]
 |x::a,[]=>x::a
 |x::a,y::b=>max x y::xq a b
theorem WK:∀a b,(xq a b).length=a.length
 |[],_=>by simp[xq]
 |x::a,[]=>by simp[xq]
 |x::a,y::b=>by simp[xq,WK a b]
@[simp] theorem zjg : ∀ a, xq a [] = a
 |[]=>rfl
 |_::_=>rfl
theorem qj2(P:Int)(q0 q1 p1:AV)(o:List Int)(k' b:Nat)(ho:o.length<=1000000):∀(r s d:List Int) (hp:Hp),o.drop d.length=s->hp.rd b 0=some (LI .u8 (d++r))->(d++r).length<=1000000->(d++r)≠[]->
 ∃hp',B44_3 (.int .i64 (min (d++r).length o.length:Nat)) (.int .i64 d.length) [p1,S k' 1 (LI .u8 o)] [q0,q1] [.sc (.int .i64 P),.ms b 0 0 (d++r).length 1] hp=some (Hv P (S 0 1 (LI .u8 (d++xq r s))),hp'):=by
 intro r
 have fin:∀(d:List Int) (hp:Hp),hp.rd b 0=some (LI .u8 d)->¬((d.length:Int)<(0:Int))->∀v w:Int,¬(v<w)->B44_3 (.int .i64 w) (.int .i64 v) [p1,S k' 1 (LI .u8 o)] [q0,q1] [.sc (.int .i64 P),.ms b 0 0 d.length 1] hp=some (Hv P (S 0 1 (LI .u8 d)),hp.del b):=by
  intro d hp hb _ v w hvw
  have f:=vS .u8 d hp b hb
  rw[qa4]
  simp[hvw,qp,qo,f]
 induction r with
 |nil=>
  intro s d hp hs hb hl hne
  rw[zns]at hb hl hne⊢
  exact⟨_,by simpa[xq]using fin d hp hb qe _ _ qe⟩
 |cons x r ih=>
  intro s d hp hs hb hl hne
  cases s with
  |nil=>
   have:=qJ hs
   exact⟨_,by simpa using fin (d++x::r) hp hb qe _ _ qi⟩
  |cons y s=>
   obtain⟨f1,f2,hj,f3⟩:=qt hs
   have hlt:(d.length:Int)<((min (d++x::r).length o.length:Nat):Int):=qi
   have hw:IntKind.i64.wrap ((d.length:Int)+1)=((d.length+1:Nat):Int):=qj
   have hdl:d.length<(d++x::r).length:=qg
   have ix:=zj .i64 hdl
   have pt:=yL .u8 (d++x::r) d.length (max x y) hdl
   have es:(d++x::r).set d.length (max x y)=(d++[max x y])++r:=qg
   rw[es]at pt
   obtain⟨hp',h⟩:=ih s (d++[max x y]) (hp.put b 0 (LI .u8 ((d++[max x y])++r))) (by simpa using f2) (qr _ _ _) (by simp at hl⊢;omega) qg
   refine⟨hp',?_⟩
   have hlen:((d++[max x y])++r).length=(d++x::r).length:=qg
   rw[hlen]at h
   have hd1:(d++[max x y]).length=d.length+1:=qg
   rw[hd1]at h
   have gs':(d++x::r)[d.length]?=some x:=qg
   have fin2:d++[max x y]++xq r s=d++xq (x::r) (y::s):=by simp[xq]
   rw[fin2]at h
   rw[qa4]
   generalize(d++x::r).length=n at hlt ix h⊢
   simp only[JL,vZ,hlt,decide_true,jm,zm7,cond_true,qs,ql,zoz,zpa,qnh,xz,ix,vf,Zc,hb,zqb,znf,gs',zo9,xJ,zhe,ZM,Vg?,zqh,if_true,znc,f1,zb6,pt,xG,jM,zou]
   have hw':IntKind.i64.wrap ((d.length:Int)+((1:Nat):Int))=((d.length+1:Nat):Int):=hw
   rw[hw']
   exact h
theorem qm8(P:Int)(P':AV)(a b:List Int)(k k':Nat)(hp:Hp)(ha:a.length<=1000000)(hb:b.length<=1000000):
 ∃t hp',run cxX 44 [Hv P (S k 1 (LI .u8 a)),.agg [P',S k' 1 (LI .u8 b)]] hp=some (Hv P (S t 1 (LI .u8 (xq a b))),hp'):=by
 rw[E44]
 by_cases hne:a=[]
 ·subst hne
  have n1:=fun k hp=>ZW 1 k hp
  have m0:min (0:Int) (b.length:Int)=0:=qe
  refine⟨0,hp,?_⟩
  have e3:∀p1 q0 q1 q:AV,B44_3 (.int .i64 0) (.int .i64 0) [p1,q] [q0,q1] [.sc (.int .i64 P),S 0 1 []] hp=some (Hv P (S 0 1 []),hp):=by
   intro p1 q0 q1 q
   rw[qa4]
   simp[qp,qo]
  simp[ql,qs,n1,qo,m0,xq,e3]
 ·have n1:=fun k hp=>xg .u8 a k 1 qh ha hne hp
  obtain⟨hp',h⟩:=qj2 P (.sc (.int .i64 0)) (S 2 1 []) (ro1 P') b (rk k') hp.next hb a b [] (hp.new (LI .u8 a)) rfl (qQ _ _) (by simpa using ha) (by simpa using hne)
  refine⟨0,hp',?_⟩
  simp at h
  have hm:((min a.length b.length:Nat):Int)=min (a.length:Int) (b.length:Int):=qe
  rw[hm]at h
  simp[ql,qs,n1,qo,h]
def QY(P:Int)(l:List Int)(h:Int):List Int:=if xc P h<l.length then l.set (xc P h) (max (l.getD (xc P h) 0) (JI P h))else l
theorem qys(P:Int)(l:List Int)(k:Nat)(h:Int)(hP:4<=P/\P<=8)(hh:0<=h/\h<18446744073709551616)(hl:l.length<=1000000)(hp:Hp):
 ∃t hp',run cxX 40 [Hv P (S k 1 (LI .u8 l)),.sc (.int .u64 h)] hp=some (Hv P (S t 1 (LI .u8 (QY P l h))),hp'):=by
 rw[E40]
 have pl:=fun x hp=>qm7 P h x hP hh hp
 by_cases hne:l=[]
 ·subst hne
  have n1:=fun k hp=>ZW 1 k hp
  have e:¬((xc P h:Int)<0):=qe
  refine⟨0,hp,?_⟩
  simp[ql,qs,n1,qo,qp,pl,QY,e,qmb]
 ·have n1:=fun k hp=>xg .u8 l k 1 qh hl hne hp
  have f5:∀(l:List Int) (b:Nat) (hp:Hp) (q0 q1:AV),hp.rd b 0=some (LI .u8 l)->B40_5 [q0,q1] [.sc (.int .i64 P),.ms b 0 0 l.length 1] hp=some (Hv P (S 0 1 (LI .u8 l)),hp.del b):=by
   intro l b hp q0 q1 hb
   have f:=vS .u8 l hp b hb
   rw[qmb]
   simp[qp,qo,f]
  by_cases hi:xc P h<l.length
  ·have hi':(xc P h:Int)<(l.length:Int):=qe
   have ix:=zj .i64 hi
   have gs:l[xc P h]?=some (l.getD (xc P h) 0):=by simp[hi]
   have pt:=yL .u8 l (xc P h) (max (l.getD (xc P h) 0) (JI P h)) hi
   have f:=f5 (l.set (xc P h) (max (l.getD (xc P h) 0) (JI P h))) hp.next ((hp.new (LI .u8 l)).put hp.next 0 (LI .u8 (l.set (xc P h) (max (l.getD (xc P h) 0) (JI P h))))) (.sc (.int .i64 0)) (S 2 1 []) (qr _ _ _)
   rw[List.length_set]at f
   have r0:=qQ hp (LI .u8 l)
   refine⟨0,((hp.new (LI .u8 l)).put hp.next 0 (LI .u8 (l.set (xc P h) (max (l.getD (xc P h) 0) (JI P h))))).del hp.next,?_⟩
   simp only[QY,if_pos hi]
   generalize l.getD (xc P h) 0=g at gs pt f⊢
   simp[ql,qs,n1,qo,qp,pl,hi',ix,r0,gs]at pt⊢
   simp[pt]
   exact f
  ·have hi':¬((xc P h:Int)<(l.length:Int)):=qe
   have f:=f5 l hp.next (hp.new (LI .u8 l)) (.sc (.int .i64 0)) (S 2 1 []) (qQ _ _)
   refine⟨0,(hp.new (LI .u8 l)).del hp.next,?_⟩
   simp only[QY,if_neg hi]
   simp[ql,qs,n1,qo,qp,pl,hi']
   exact f
theorem qcg(h:Int)(hh:0<=h/\h<18446744073709551616):∃v:Int,(0<=v/\v<18446744073709551616)/\∀hp,run cxX 78 [.sc (.int .u64 h)] hp=some (.sc (.int .u64 v),hp):=by
 have r3:∀t x y,qx Tryz.prog .rem t x y (.int .u64 h) (.int .u64 3)=some (.int .u64 (h%3)):=by
  intro t x y;rw[zq _ _ _ _ _ _ _ qe,zo hh.1]
 by_cases e:h%3=0
 ·obtain⟨z1,s1⟩:∃z:Int,∀t x y,qx Tryz.prog .shr t x y (.int .u64 h) (.int .u64 56)=some (.int .u64 z):=⟨_,fun t x y=>jL _ _ _ _ _ _ _ _ qe⟩
  obtain⟨z2,s2⟩:∃z:Int,∀t x y,qx Tryz.prog .shl t x y (.int .u64 z1) (.int .u64 56)=some (.int .u64 z):=⟨_,fun t x y=>zW _ _ _ _ _ _ _ _ qe⟩
  have q4:∀t x y,qx Tryz.prog .quo t x y (.int .u64 h) (.int .u64 4)=some (.int .u64 (h/4)):=by
   intro t x y;rw[yB _ _ _ _ _ _ _ qe,zod hh.1,qu qe qe]
  have r56:∀t x y,qx Tryz.prog .rem t x y (.int .u64 (h/4)) (.int .u64 56)=some (.int .u64 (h/4%56)):=by
   intro t x y;rw[zq _ _ _ _ _ _ _ qe,zo qe]
  obtain⟨z3,s3⟩:∃z:Int,∀t x y,qx Tryz.prog .shl t x y (.int .u64 1) (.int .u64 (h/4%56))=some (.int .u64 z):=⟨_,fun t x y=>zW _ _ _ _ _ _ _ _ qe⟩
  obtain⟨z4,s4⟩:∃z:Int,∀t x y,qx Tryz.prog .sub t x y (.int .u64 z3) (.int .u64 1)=some (.int .u64 z):=⟨_,fun t x y=>vY _ _ _ _ _ _ _⟩
  obtain⟨z5,s5⟩:∃z:Int,∀t x y,qx Tryz.prog .and t x y (.int .u64 h) (.int .u64 z4)=some (.int .u64 z):=⟨_,fun t x y=>zm _ _ _ _ _ _ _⟩
  obtain⟨z6,b6,s6⟩:∃z:Int,(0<=z/\z<18446744073709551616)/\∀t x y,qx Tryz.prog .or t x y (.int .u64 z2) (.int .u64 z5)=some (.int .u64 z):=⟨_,by rw[IntKind.wrap_u64];omega,fun t x y=>zS _ _ _ _ _ _ _⟩
  refine⟨z6,b6,fun hp=>?_⟩
  rw[E78]
  simp[r3,e,s1,s2,q4,r56,s3,s4,s5,s6,-vY,-zm,-zS]
 ·refine⟨h,hh,fun hp=>?_⟩
  rw[E78]
  simp[r3,e]
noncomputable def hsh(h:Int):Int:=if hh:0<=h/\h<18446744073709551616 then(qcg h hh).choose else 0
theorem zjf{h:Int}(hh:0<=h/\h<18446744073709551616):(0<=hsh h/\hsh h<18446744073709551616)/\∀hp,run cxX 78 [.sc (.int .u64 h)] hp=some (.sc (.int .u64 (hsh h)),hp):=by
 unfold hsh
 rw[dif_pos hh]
 exact(qcg h hh).choose_spec
noncomputable def hfold(P:Int)(a l:List Int):List Int:=l.foldl (fun a h=>QY P a (hsh h)) a
theorem qj6(P:Int)(l:List Int)(h:Int):(QY P l h).length=l.length:=by
 unfold QY;split<;>simp
theorem qde(P:Int):∀(l a:List Int),(hfold P a l).length=a.length
 |[],a=>rfl
 |h::l,a=>by
  show(hfold P (QY P a (hsh h)) l).length=_
  rw[qde P l,qj6]
theorem za2(P:Int)(q0 q1:AV)(l:List Int)(k:Nat)(hP:4<=P/\P<=8)(hl:l.length<=1000000)(h64:∀n∈l,0<=n/\n<18446744073709551616)(hp:Hp):∀(r:List Int) (i t:Nat) (a:List Int),l.drop i=r->a.length<=1000000->
 ∃t',B33_3 (S k 1 (LI .u64 l)) (.int .i64 l.length) (.int .i64 i) [q0,q1] [.sc (.int .i64 P),S t 1 (LI .u8 a)] hp=some (Hv P (S t' 1 (LI .u8 (hfold P a r))),hp):=by
 intro r
 induction r with
 |nil=>
  intro i t a hr ha
  have:=qJ hr
  have hlt:¬((i:Int)<(l.length:Int)):=qe
  refine⟨t,?_⟩
  rw[qme]
  simp[hlt,qp,qo,hfold]
 |cons x r ih=>
  intro i t a hr ha
  obtain⟨e1,e2,hi,e3⟩:=qt hr
  have hx:=h64 x (znh e1)
  obtain⟨hb,hs⟩:=zjf hx
  have hw:IntKind.i64.wrap ((i:Int)+1)=((i+1:Nat):Int):=qj
  obtain⟨t1,hp1,ha1⟩:=qys P a (rk t) (hsh x) hP hb ha hp0
  obtain⟨t',h⟩:=ih (i+1) t1 (QY P a (hsh x)) e2 (by rw[qj6];exact ha)
  refine⟨t',?_⟩
  rw[qme]
  simp at h hw
  have ef:hfold P a (x::r)=hfold P (QY P a (hsh x)) r:=rfl
  simp[hi,e3,ql,hs,qp,qo,ha1,hw,h,ef]
theorem zeg(p:Int)(l:List Int)(k:Nat)(hp8:0<=p/\p<256)(hl:l.length<=1000000)(h64:∀n∈l,0<=n/\n<18446744073709551616)(hp:Hp):
 ∃t,run cxX 33 [.sc (.int .u8 p),S k 1 (LI .u64 l)] hp=some (Hv (4+p%5) (S t 1 (LI .u8 (hfold (4+p%5) (List.replicate (jX (4+p%5)) 0) l))),hp):=by
 have h1:∀t x y,qx Tryz.prog .rem t x y (.int .u8 p) (.int .u8 5)=some (.int .u8 (p%5)):=by
  intro t x y;rw[zq _ _ _ _ _ _ _ qe,zo hp8.1]
 have w1:IntKind.i64.wrap (p%5)=p%5:=qm qe qe
 have w2:IntKind.i64.wrap (4+p%5)=4+p%5:=qm qe qe
 have nw:=fun hp=>qio (4+p%5) qe hp
 have hple:=Vx (P:=4+p%5) qe
 obtain⟨t,h⟩:=za2 (4+p%5) (.sc (.int .i64 0)) (S 2 1 []) l (rk k) qe hl h64 hp l 0 0 (List.replicate (jX (4+p%5)) 0) rfl qi
 refine⟨t,?_⟩
 rw[E33]
 simp at h
 simp[h1,w1,w2,nw,qo,h]
abbrev Bv(bits hashes:Value)(S:AV):AV:=.agg [.sc bits,.sc hashes,S]
theorem qn6(B H:Value)(q0 q1 q2:AV)(hp:Hp):∀(n:Nat) (a b acc:List Int) (k k':Nat),a.length+b.length=n->acc.length+n<=1000000->
 B45_3 (S k 1 (LI .u32 a)) (S k' 1 (LI .u32 b)) [q0,q1,q2] [.sc B,.sc H,S 2 1 (LI .u32 acc)] hp=some (Bv B H (S 2 1 (LI .u32 (acc++mrg a b))),hp):=by
 intro n
 induction n using Nat.strongRecOn with
 |_ n ih=>
 intro a b acc k k' hn hlen
 have hw:IntKind.i64.wrap ((a.length:Int)+(b.length:Int))=((a.length+b.length:Nat):Int):=by
  rw[qm]<;>omega
 have ap:∀x:Int,jn 4 1 (S 2 1 (LI .u32 acc)) (S 1 1 [.sc (.int .u32 x)])=some (S 2 1 (LI .u32 (acc++[x]))):=fun x=>Qu .u32 acc 2 (.inr rfl) 4 qh x qe
 have goA:∀(x:Int) (r:List Int),r.length+1+b.length<=n->B45_6 (S k 1 (LI .u32 (x::r))) (S k' 1 (LI .u32 b)) [q0,q1,q2] [.sc B,.sc H,S 2 1 (LI .u32 acc)] hp=some (Bv B H (S 2 1 (LI .u32 (acc++x::mrg r b))),hp):=by
  intro x r hle
  rw[zda]
  have e:=yW (rk k) (LI .u32 (x::r)) .i64 1 qe (by simp only[kQ,zm5];omega)
  simp[qs,ql,ap,e,qo,ih (r.length+b.length) qe r b (acc++[x]) _ k' rfl (by simp only[zm4,zm5,znn];omega)]
 have goB:∀(y:Int) (r:List Int),a.length+(r.length+1)<=n->B45_8 (S k 1 (LI .u32 a)) (S k' 1 (LI .u32 (y::r))) [q0,q1,q2] [.sc B,.sc H,S 2 1 (LI .u32 acc)] hp=some (Bv B H (S 2 1 (LI .u32 (acc++y::mrg a r))),hp):=by
  intro x r hle
  rw[zc9]
  have e:=yW (rk k') (LI .u32 (x::r)) .i64 1 qe (by simp only[kQ,zm5];omega)
  simp[qs,ql,ap,e,qo,ih (a.length+r.length) qe a r (acc++[x]) k _ rfl (by simp only[zm4,zm5,znn];omega)]
 have wW:∀(x y:Int) (r s:List Int),r.length+s.length+2<=n->B45_4 (S k 1 (LI .u32 (x::r))) (S k' 1 (LI .u32 (y::s))) [q0,q1,q2] [.sc B,.sc H,S 2 1 (LI .u32 acc)] hp=some (Bv B H (S 2 1 (LI .u32 (acc++x::mrg r s))),hp):=by
  intro x y r s hle
  rw[zdb]
  have e:=yW (rk k) (LI .u32 (x::r)) .i64 1 qe (by simp only[kQ,zm5];omega)
  have e':=yW (rk k') (LI .u32 (y::s)) .i64 1 qe (by simp only[kQ,zm5];omega)
  simp[qs,ql,ap,e,e',qo,ih (r.length+s.length) qe r s (acc++[x]) _ _ rfl (by simp only[zm4,zm5,znn];omega)]
 rw[zdc]
 match a,b with
 |[],[]=>simp[qp,qo,Bv]
 |[],y::s=>
  have h:=goB y s (by simp at hn⊢;omega)
  simp at h
  have hw':IntKind.i64.wrap ((s.length:Int)+1)=(s.length:Int)+1:=qm qe (by simp at hn;omega)
  have p:(0:Int)<(s.length:Int)+1:=qe
  have z:¬((s.length:Int)+1=0):=qe
  simp[hw',p,z,qa3,h]
 |x::r,[]=>
  have h:=goA x r (by simp at hn⊢;omega)
  simp at h
  have hw':IntKind.i64.wrap ((r.length:Int)+1)=(r.length:Int)+1:=qm qe (by simp at hn;omega)
  have p:(0:Int)<(r.length:Int)+1:=qe
  simp[hw',p,h]
 |x::r,y::s=>
  have h1:=goA x r (by simp at hn⊢;omega)
  have h2:=goB y s (by simp at hn⊢;omega)
  have h3:=wW x y r s (by simp at hn⊢;omega)
  have hw':IntKind.i64.wrap ((r.length:Int)+1+((s.length:Int)+1))=(r.length:Int)+1+((s.length:Int)+1):=qm qe (by simp at hn;omega)
  have p:(0:Int)<(r.length:Int)+1+((s.length:Int)+1):=qe
  have p':(0:Int)<(r.length:Int)+1:=qe
  have z:¬((s.length:Int)+1=0):=qe
  have z':¬((r.length:Int)+1=0):=qe
  rw[zP]
  by_cases hxy:x<y
  ·simp[hw',p,p',z,z',ql,hxy,h1]
  ·by_cases hyx:y<x
   ·simp[hw',p,p',z,z',ql,hxy,hyx,h2,qa3]
   ·simp[hw',p,p',z,z',ql,hxy,hyx,h3,qa3]
theorem qcd(B H B' H':Value)(a b:List Int)(k k':Nat)(hp:Hp)(hlen:a.length+b.length<=1000000):
 run cxX 45 [Bv B H (S k 1 (LI .u32 a)),Bv B' H' (S k' 1 (LI .u32 b))] hp=some (Bv B H (S 2 1 (LI .u32 (mrg a b))),hp):=by
 rw[E45]
 have:=qn6 B H (.sc (.int .i64 0)) (.sc (.int .i64 0)) (S 2 1 []) hp (a.length+b.length) a b [] (rk k) (rk k') rfl (by simpa using hlen)
 simp at this
 simp[Bv,ql,qs]
 exact this
theorem qr7(B H B' H':AV)(a b:List Int)(k k':Nat)(hab:a.length=b.length)(hl:a.length<=1000000)(hp:Hp):∀(r s:List Int) (i:Nat),a.drop i=r->b.drop i=s->
 B134_4 (.int .i64 a.length) (.int .i64 i) [B,H,S k 1 (LI .u32 a)] [B',H',S k' 1 (LI .u32 b)] hp=some (.sc (.bool (decide (r=s))),hp):=by
 intro r
 induction r with
 |nil=>
  intro s i hr hs
  have h1:=qJ hr
  have h2:s=[]:=by rw[<-hs];exact zoc qe
  have hlt:¬((i:Int)<(a.length:Int)):=qe
  rw[qfd]
  simp[hlt,h2]
 |cons x r ih=>
  intro s i hr hs
  obtain⟨e1,e2,hi,e3⟩:=qt hr
  rw[qfd]
  have hw:IntKind.i64.wrap ((i:Int)+1)=((i+1:Nat):Int):=qj
  cases s with
  |nil=>have:=qJ hs;omega
  |cons y s=>
   obtain⟨f1,f2,hj,f3⟩:=qt hs
   have h:=ih s (i+1) e2 f2
   simp at h hw
   by_cases e:x=y
   ·simp[hi,hj,qs,ql,e3,f3,e,hw,h]
   ·simp[hi,hj,qs,ql,e3,f3,e]
theorem qyh(B H:Int)(B' H':Int)(a b:List Int)(k k':Nat)(hp:Hp)(ha:a.length<=1000000)(hb:b.length<=1000000):
 run cxX 134 [Bv (.int .i64 B) (.int .i64 H) (S k 1 (LI .u32 a)),Bv (.int .i64 B') (.int .i64 H') (S k' 1 (LI .u32 b))] hp=some (.sc (.bool (decide (B=B'/\H=H'/\a=b))),hp):=by
 rw[E134]
 by_cases h1:B=B'
 ·by_cases h2:H=H'
  ·by_cases h3:a.length=b.length
   ·have h:=qr7 (.sc (.int .i64 B)) (.sc (.int .i64 H)) (.sc (.int .i64 B')) (.sc (.int .i64 H')) a b (rk k) (rk k') h3 ha hp a b 0 rfl rfl
    simp at h
    subst h1 h2
    rw[h3]at h
    simp[ql,qs,h3,qw5,h]
   ·have h4:¬(a=b):=fun e=>h3 (by rw[e])
    have h5:¬((a.length:Int)=(b.length:Int)):=qe
    simp[ql,qs,h1,h2,h4,h5,KC]
  ·simp[ql,qs,h1,h2,KC]
 ·simp[ql,qs,h1,KC]
def Kl(B:Int):Option Int->List Int->Int
 |_,[]=>0
 |p,n::r=>if n>=B then 2 else match p with
  |none=>Kl B (some n) r
  |some q=>if n<=q then 8 else Kl B (some n) r
def qat(B H:Int)(l:List Int):Int:=if B<1\/B>4096\/H<1\/H>8 then 2 else Kl B none l
def zg4(l:List Int):Prop:=∀n∈l,0<=n/\n<4294967296
theorem qo2(B:Int)(H:AV)(l:List Int)(k k':Nat)(hl:l.length<=1000000)(h32:zg4 l)(hp:Hp):∀(r:List Int) (i:Nat) (p:Option Int),l.drop i=r->
 (match p with|none=>i=0|some q=>∃j,i=j+1/\l[j]?=some q)->
 B87_4 (S k 1 (LI .u32 l)) (.int .i64 l.length) (.int .i64 i) [.sc (.int .i64 B),H,S k' 1 (LI .u32 l)] hp=some (.sc (.int .i64 (Kl B p r)),hp):=by
 intro r
 induction r with
 |nil=>
  intro i p hr hp'
  have:=qJ hr
  have hlt:¬((i:Int)<(l.length:Int)):=qe
  rw[qlo]
  simp[hlt,Kl]
 |cons n r ih=>
  intro i p hr hp'
  obtain⟨e1,e2,hi,e3⟩:=qt hr
  have h:=ih (i+1) (some n) e2 ⟨i,rfl,e1⟩
  have hw:IntKind.i64.wrap ((i:Int)+1)=((i+1:Nat):Int):=qj
  have hn:=h32 n (znh e1)
  have hwn:IntKind.i64.wrap n=n:=qm qe qe
  rw[qlo]
  by_cases hB:B<=n
  ·simp[hi,e1,e3,ql,xF,hwn,hB,Kl]
  ·cases p with
   |none=>
    obtain rfl:i=0:=hp'
    simp at h e1 hw
    simp[hi,e1,e3,ql,xF,hwn,hB,Kl,qdx,hw,h]
   |some q=>
    obtain⟨j,rfl,ej⟩:=hp'
    have hw2:IntKind.i64.wrap (((j+1:Nat):Int)-1)=(j:Int):=qj
    have hpos:(0:Int)<(j:Int)+1:=qe
    have hi2:(j:Int)+1<(l.length:Int):=qe
    have hge:(0:Int)<=(j:Int)+1:=qe
    have htn:((j:Int)+1).toNat=j+1:=qe
    simp at h hw hw2
    by_cases hq:n<=q
    ·simp[hi2,hge,htn,e1,e3,ej,ql,qs,xF,hwn,hB,Kl,hpos,hw2,hq,zco]
    ·simp[hi2,hge,htn,e1,e3,ej,ql,qs,xF,hwn,hB,Kl,hpos,hw2,hq,qdx,hw,h]
theorem qco(B H:Int)(l:List Int)(k:Nat)(hl:l.length<=1000000)(h32:zg4 l)(hp:Hp):
 run cxX 87 [Bv (.int .i64 B) (.int .i64 H) (S k 1 (LI .u32 l))] hp=some (.sc (.int .i64 (qat B H l)),hp):=by
 rw[E87]
 have h:=qo2 B (.sc (.int .i64 H)) l (rk k) (rk k) hl h32 hp l 0 none rfl rfl
 simp at h
 unfold qat
 by_cases h1:B<1
 ·simp[ql,h1,XC]
 ·by_cases h2:4096<B
  ·simp[ql,h1,h2,XC]
  ·by_cases h3:H<1
   ·simp[ql,h1,h2,h3,XC]
   ·by_cases h4:8<H
    ·simp[ql,h1,h2,h3,h4,XC]
    ·simp[ql,qs,h1,h2,h3,h4,zcp,h]
def at0(h:Int):Int:=IntKind.u32.wrap h
def stp(h:Int):Int:=IntKind.u32.wrap (BitVec.ofInt 32 (IntKind.u32.wrap (h.fdiv (2^32)))|||BitVec.ofInt 32 1).toNat
def plc(B st:Int):Nat->Int->List Int
 |0,_=>[]
 |n+1,a=>a%B::plc B st n (IntKind.u32.wrap (a+st))
theorem qqc(B st:Int):∀(n:Nat) (a:Int),(plc B st n a).length=n
 |0,_=>rfl
 |n+1,a=>by simp[plc,qqc B st n]
theorem qzl(B st:Int)(hB:0<B):∀(n:Nat) (a x:Int),x∈plc B st n a->0<=x/\x<B
 |0,_,x,h=>by simp[plc]at h
 |n+1,a,x,h=>by
  rcases zm9.mp h with rfl|h
  ·exact⟨Int.emod_nonneg _ qe,Int.emod_lt_of_pos _ hB⟩
  ·exact qzl B st hB n _ x h
theorem qbw(z:Int):0<=IntKind.u32.wrap z/\IntKind.u32.wrap z<4294967296:=by
 rw[IntKind.wrap_u32];omega
theorem qjb(B H st:Int)(H':AV)(q:AV)(hB:1<=B/\B<=4096)(hH:H<=8)(hp:Hp):∀(n i:Nat) (a:Int) (acc:List Int),H=(i+n:Nat)->0<=a->acc.length<=i->
 B91_6 (S 2 1 (LI .u32 acc)) (.int .u32 a) (.int .u32 st) (.int .i64 H) (.int .i64 i) [.sc (.int .i64 B),H',q] hp=some (S 2 1 (LI .u32 (acc++plc B st n a)),hp):=by
 intro n
 induction n with
 |zero=>
  intro i a acc hi ha hc
  rw[qlk]
  have hlt:¬((i:Int)<H):=qe
  simp[hlt,plc]
 |succ n ih=>
  intro i a acc hi ha hc
  rw[qlk]
  have hlt:(i:Int)<H:=qe
  have hw:IntKind.i64.wrap ((i:Int)+1)=((i+1:Nat):Int):=qj
  have hwB:IntKind.u32.wrap B=B:=qK qe qe
  have h:=ih (i+1) (IntKind.u32.wrap (a+st)) (acc++[a%B]) qe (qbw _).1 qi
  have ap:=Qu .u32 acc 2 (.inr rfl) 4 qh (a%B) qe
  have hr:∀x y,qx Tryz.prog .rem 40 x y (.int .u32 a) (.int .u32 B)=some (.int .u32 (a%B)):=by
   intro x y
   rw[zq _ _ _ _ _ _ _ qe,zo ha]
  simp at h hw
  simp[hlt,ql,Xo,hwB,hr,ap,hw,h,plc]
def pls(B H:Int)(l:List Int)(h:Int):List Int:=if qat B H l=0 then plc B (stp h) H.toNat (at0 h)else []
theorem qm4(B H:Int)(l:List Int)(k:Nat)(h:Int)(hl:l.length<=1000000)(h32:zg4 l)(hp:Hp):
 run cxX 91 [Bv (.int .i64 B) (.int .i64 H) (S k 1 (LI .u32 l)),.sc (.int .u64 h)] hp=some (S 2 1 (LI .u32 (pls B H l h)),hp):=by
 rw[E91]
 have hc:=qco B H l (rk k) hl h32 hp0
 unfold pls
 by_cases h0:qat B H l=0
 ·have hr:¬(B<1\/B>4096\/H<1\/H>8):=by
   intro h'
   rw[qat,if_pos h']at h0
   cases h0
  have hh:=qjb B H (stp h) (.sc (.int .i64 H)) (S (rk k) 1 (LI .u32 l)) qe qe hp H.toNat 0 (at0 h) [] qe (qbw _).1 qg
  simp at hh
  have hs:∀x y,qx Tryz.prog .shr 62 x y (.int .u64 h) (.int .u64 32)=some (.int .u64 (h.fdiv (2^32))):=by
   intro x y
   rw[jL _ _ _ _ _ _ _ _ qe]
   rfl
  simp[qp,hc,h0,jK,hs,ql]
  exact hh
 ·simp[qp,hc,h0]
def kM(B:Int)(l:List Int):Prop:=yq l/\∀n∈l,0<=n/\n<B
theorem kM.in32{B:Int}{l:List Int}(h:kM B l)(hB:B<=4096):zg4 l:=fun n hn=>by have:=h.2 n hn;omega
theorem kM.nil(B:Int):kM B []:=⟨List.Pairwise.nil,qg⟩
theorem kM.mrg{B:Int}{a b:List Int}(ha:kM B a)(hb:kM B b):kM B (mrg a b):=
 ⟨xv a b ha.1 hb.1,fun n hn=>((xx n a b).mp hn).elim (ha.2 n) (hb.2 n)⟩
theorem kM.one{B n:Int}(h:0<=n/\n<B):kM B [n]:=⟨qg,by simpa using h⟩
theorem qiz{B:Int}:∀{l:List Int} {a:Int},yq l->(∀n∈l,a<=n/\n<B)->(l.length:Int)<=B-a\/l=[]
 |[],_,_,_=>.inr rfl
 |x::l,a,h,hb=>by
  have h':=znd.mp h
  have hx:=hb x qg
  rcases qiz (a:=x+1) h'.2 (fun n hn=>⟨by have:=h'.1 n hn;omega,(hb n (by simp[hn])).2⟩)with h2|h2
  ·left;simp;omega
  ·left;subst h2;simp;omega
theorem kM.len{B:Int}{l:List Int}(h:kM B l)(hB:B<=4096):l.length<=4096:=by
 rcases qiz (a:=0) h.1 h.2 with h'|h'
 ·omega
 ·simp[h']
theorem Kk{B:Int}:∀(l:List Int) (p:Option Int),(∀n∈l,0<=n/\n<B)->(match p with|none=>yq l|some q=>yq (q::l))->Kl B p l=0
 |[],_,_,_=>rfl
 |n::l,p,h,hp=>by
  have hn:=h n qg
  have h0:¬(n>=B):=qe
  simp only[Kl,h0,if_false]
  cases p with
  |none=>exact Kk l (some n) (fun m hm=>h m (by simp[hm])) hp
  |some q=>
   have hp:yq (q::n::l):=hp
   have h1:=(znd.mp hp).1 n qg
   have h2:¬(n<=q):=qe
   simp only[h2,if_false]
   exact Kk l (some n) (fun m hm=>h m (by simp[hm])) (znd.mp hp).2
theorem qaf{B H:Int}{l:List Int}(hB:1<=B/\B<=4096)(hH:1<=H/\H<=8)(h:kM B l):qat B H l=0:=by
 unfold qat
 rw[if_neg qe]
 exact Kk l none h.2 h.1
def plg(B H h:Int):List Int:=plc B (stp h) H.toNat (at0 h)
theorem qzk{B H:Int}{l:List Int}(hB:1<=B/\B<=4096)(hH:1<=H/\H<=8)(h:kM B l)(x:Int):pls B H l x=plg B H x:=by
 unfold pls
 rw[if_pos (qaf hB hH h)];rfl
theorem qnp{B H h:Int}(hB:1<=B):∀n∈plg B H h,0<=n/\n<B:=fun n hn=>qzl B _ qe _ _ n hn
theorem ze4(B H h:Int):(plg B H h).length=H.toNat:=qqc _ _ _ _
def qle(l:List Int):List Int->List Int
 |[]=>l
 |n::r=>qle (mrg l [n]) r
theorem Kp{B:Int}:∀{r l:List Int},kM B l->(∀n∈r,0<=n/\n<B)->kM B (qle l r)
 |[],_,h,_=>h
 |n::r,l,h,hr=>Kp (r:=r) (h.mrg (kM.one (hr n qg))) fun m hm=>hr m (by simp[hm])
theorem zci(B H:Int)(q0 q1 q2 q:AV)(k':Nat)(ps:List Int)(hB:1<=B/\B<=4096)(hps:ps.length<=8)(hin:∀n∈ps,0<=n/\n<B)(hp:Hp):∀(r:List Int) (i:Nat) (l:List Int) (k:Nat),ps.drop i=r->kM B l->
 B41_3 (S k' 1 (LI .u32 ps)) (.int .i64 ps.length) (.int .i64 i) [.sc (.int .i64 B),.sc (.int .i64 H),q] [q0,q1,q2] [.sc (.int .i64 B),.sc (.int .i64 H),S k 1 (LI .u32 l)] hp=some (Bv (.int .i64 B) (.int .i64 H) (S (if r=[]then k else 2) 1 (LI .u32 (qle l r))),hp):=by
 intro r
 induction r with
 |nil=>
  intro i l k hr hg
  have:=qJ hr
  have hlt:¬((i:Int)<(ps.length:Int)):=qe
  rw[qma]
  simp[hlt,qp,qo,qle]
 |cons x r ih=>
  intro i l k hr hg
  obtain⟨e1,e2,hi,e3⟩:=qt hr
  have hx:=hin x (znh e1)
  have h:=ih (i+1) (mrg l [x]) 2 e2 (hg.mrg (kM.one hx))
  have hw:IntKind.i64.wrap ((i:Int)+1)=((i+1:Nat):Int):=qj
  have hlen:=hg.len hB.2
  have hm:=fun hp=>qcd (.int .i64 B) (.int .i64 H) (.int .i64 B) (.int .i64 H) l [x] (rk k) 0 hp qi
  rw[qma]
  simp[LI]at h hw hm
  simp[hi,e3,ql,qs,qp,qo,qle,LI,hm,hw,h]
theorem zek(B H:Int)(l:List Int)(k:Nat)(h:Int)(hB:1<=B/\B<=4096)(hH:1<=H/\H<=8)(hg:kM B l)(hp:Hp):
 run cxX 41 [Bv (.int .i64 B) (.int .i64 H) (S k 1 (LI .u32 l)),.sc (.int .u64 h)] hp=some (Bv (.int .i64 B) (.int .i64 H) (S 2 1 (LI .u32 (qle l (plg B H h)))),hp):=by
 rw[E41]
 have hlen:=hg.len hB.2
 have h1:=fun hp=>qm4 B H l (rk k) h qe (hg.in32 hB.2) hp
 have hl:=ze4 B H h
 have hne:plg B H h≠[]:=by
  intro e
  rw[e]at hl
  simp at hl
  omega
 have h2:=zci B H (.sc (.int .i64 0)) (.sc (.int .i64 0)) (S 2 1 []) (S (rk k) 1 (LI .u32 l)) 2 (plg B H h) hB qe (qnp hB.1) hp _ 0 l (rk k) rfl hg
 rw[qzk hB hH hg h]at h1
 simp[hne]at h2
 simp[qp,qo,h1,h2]
def blm(B H:Int):List Int->List Int->List Int
 |acc,[]=>acc
 |acc,h::r=>blm B H (qle acc (plg B H h)) r
theorem qkz{B H:Int}(hB:1<=B):∀{r acc:List Int},kM B acc->kM B (blm B H acc r)
 |[],_,h=>h
 |x::r,acc,h=>qkz hB (r:=r) (Kp h (qnp hB))
theorem qo5(B H:Int)(q0 q1 q2:AV)(k:Nat)(hs:List Int)(hB:1<=B/\B<=4096)(hH:1<=H/\H<=8)(hl:hs.length<=1000000)(hp:Hp):∀(r:List Int) (i:Nat) (l:List Int),hs.drop i=r->kM B l->
 B34_3 (S k 1 (LI .u64 hs)) (.int .i64 hs.length) (.int .i64 i) [q0,q1,q2] [.sc (.int .i64 B),.sc (.int .i64 H),S 2 1 (LI .u32 l)] hp=some (Bv (.int .i64 B) (.int .i64 H) (S 2 1 (LI .u32 (blm B H l r))),hp):=by
 intro r
 induction r with
 |nil=>
  intro i l hr hg
  have:=qJ hr
  have hlt:¬((i:Int)<(hs.length:Int)):=qe
  rw[qmd]
  simp[hlt,qp,qo,blm]
 |cons x r ih=>
  intro i l hr hg
  obtain⟨e1,e2,hi,e3⟩:=qt hr
  have h:=ih (i+1) (qle l (plg B H x)) e2 (Kp hg (qnp hB.1))
  have hw:IntKind.i64.wrap ((i:Int)+1)=((i+1:Nat):Int):=qj
  have ha:=fun hp=>zek B H l 3 x hB hH hg hp
  rw[qmd]
  simp at h hw
  simp[hi,e3,ql,qp,qo,blm,ha,hw,h]
theorem qsv(b h:Int)(k:Nat)(hs:List Int)(hb:0<=b/\b<65536)(hh:0<=h/\h<256)(hl:hs.length<=1000000)(hp:Hp):
 run cxX 34 [.sc (.int .u16 b),.sc (.int .u8 h),S k 1 (LI .u64 hs)] hp=some (Bv (.int .i64 (1+b%300)) (.int .i64 (1+h%8)) (S 2 1 (LI .u32 (blm (1+b%300) (1+h%8) [] hs))),hp):=by
 rw[E34]
 have h1:∀x y,qx Tryz.prog .rem 22 x y (.int .u16 b) (.int .u16 300)=some (.int .u16 (b%300)):=by
  intro x y;rw[zq _ _ _ _ _ _ _ qe,zo hb.1]
 have h2:∀x y,qx Tryz.prog .rem 5 x y (.int .u8 h) (.int .u8 8)=some (.int .u8 (h%8)):=by
  intro x y;rw[zq _ _ _ _ _ _ _ qe,zo hh.1]
 have w1:IntKind.i64.wrap (b%300)=b%300:=qm qe qe
 have w2:IntKind.i64.wrap (h%8)=h%8:=qm qe qe
 have w3:IntKind.i64.wrap (1+b%300)=1+b%300:=qm qe qe
 have w4:IntKind.i64.wrap (1+h%8)=1+h%8:=qm qe qe
 have hq:=qo5 (1+b%300) (1+h%8) (.sc (.int .i64 0)) (.sc (.int .i64 0)) (S 2 1 []) (rk k) hs qe qe hl hp hs 0 [] rfl (kM.nil _)
 simp at hq
 simp[h1,h2,zgo,jV,w1,w2,w3,w4,hq]
abbrev fl(w:Nat):AV:=.sc (.float .f64 w)
theorem XH(w:Nat):one (Yp Tryz.prog 148 [.float .f64 w])=some (.int .u64 (w:Int)):=qf
theorem qfs(n:Int):one (Yp Tryz.prog 184 [.int .u64 n])=some (.float .f64 n.toNat):=qf
theorem zkf(x y:Operand):qx Tryz.prog .eql 4 x y (.bool true) (.bool true)=some (.bool true):=qf
theorem zkg(x y:Operand):qx Tryz.prog .eql 4 x y (.bool true) (.bool false)=some (.bool false):=qf
theorem zkh(x y:Operand):qx Tryz.prog .eql 4 x y (.bool false) (.bool true)=some (.bool false):=qf
theorem zki(x y:Operand):qx Tryz.prog .eql 4 x y (.bool false) (.bool false)=some (.bool true):=qf
@[simp] theorem beq_bb (x y : Operand) (a b : Bool) : qx Tryz.prog .eql 4 x y (.bool a) (.bool b) = some (.bool (decide (a = b))) := by
 cases a<;>cases b
 ·exact zki x y
 ·exact zkh x y
 ·exact zkg x y
 ·exact zkf x y
theorem XO(w:Nat)(hp:Hp):run cxX 189 [fl w] hp=some (.sc (.bool (decide (yU w))),hp):=by
 rw[E189]
 simp[jA]
theorem Jj(w:Nat)(h:w<18446744073709551616)(hp:Hp):run cxX 155 [fl w] hp=some (.sc (.int .u64 (kw w:Int)),hp):=by
 rw[E155]
 unfold kw
 by_cases hn:yU w
 ·simp[XH,XO,hn,Ky]
 ·by_cases hl:w<9223372036854775808
  ·have e:=qk2 Tryz.prog 62 (Go.Operand.tmp 6) (Go.Operand.const (.int .u64 (Int.ofNat 9223372036854775808))) w hl
   have e':=KZ Tryz.prog 62 (Go.Operand.tmp 12) (Go.Operand.const (.int .u64 (Int.ofNat 9223372036854775808))) w hl
   simp at e e'
   simp[XH,XO,hn,hl,e,e',Ky]
  ·have e':=Va Tryz.prog 62 (Go.Operand.tmp 12) (Go.Operand.const (.int .u64 (Int.ofNat 9223372036854775808))) w qe h
   have e:=qb0 Tryz.prog w h
   simp at e e'
   simp[XH,XO,hn,hl,e,e',Ky]
theorem qyo(k:Nat)(h:k<18446744073709551616)(hp:Hp):run cxX 182 [.sc (.int .u64 (k:Int))] hp=some (.tup [fl (wk k),.sc (.bool (zac k))],hp):=by
 have e4:∀hp,B182_4 (.int .u64 (k:Int)) (.int .u64 (wk k:Int)) hp=some (.tup [fl (wk k),.sc (.bool (zac k))],hp):=by
  intro hp
  rw[qwb]
  have hk:=fun hp=>Jj (wk k) (qbx k h) hp
  have hd:decide ((kw (wk k):Int)=(k:Int))=zac k:=by
   unfold zac
   apply decide_eq_decide.mpr
   omega
  simp[qfs,hk,hd]
 rw[E182]
 have c:=qo6 Tryz.prog 62 (Go.Operand.tmp 6) (Go.Operand.const (.int .u64 (Int.ofNat 9223372036854775808))) k h
 have n:=qb0 Tryz.prog k h
 by_cases hl:k<9223372036854775808
 ·have e':=KZ Tryz.prog 62 (Go.Operand.tmp 8) (Go.Operand.const (.int .u64 (Int.ofNat 9223372036854775808))) k hl
  have w:wk k=18446744073709551615-k:=by unfold wk;rw[if_pos hl]
  rw[w]at e4
  rw[<-w]at e4
  rw[<-w]at n
  simp at c n e'
  simp[c,n,e',e4]
 ·have e':=Va Tryz.prog 62 (Go.Operand.tmp 8) (Go.Operand.const (.int .u64 (Int.ofNat 9223372036854775808))) k qe h
  have w:wk k=k%9223372036854775808:=by unfold wk;rw[if_neg hl];omega
  rw[<-w]at c
  simp at c e'
  simp[c,e',e4]
theorem YK(a b:Nat)(ha:a<18446744073709551616)(hb:b<18446744073709551616)(hp:Hp):run cxX 96 [fl a,fl b] hp=some (.sc (.bool (decide (kw a<kw b))),hp):=by
 rw[E96]
 simp[Jj a ha,Jj b hb]
theorem Qh(a b:Nat)(ha:a<18446744073709551616)(hb:b<18446744073709551616)(hp:Hp):run cxX 183 [fl a,fl b] hp=some (.sc (.bool (decide (kw a=kw b))),hp):=by
 rw[E183]
 simp[Jj a ha,Jj b hb]
 omega
def qkg(a b:Nat):Nat:=if kw b<kw a then b else a
def qkh(a b:Nat):Nat:=if kw a<kw b then b else a
theorem qra{a b:Nat}(ha:a<18446744073709551616)(hb:b<18446744073709551616):qkg a b<18446744073709551616:=by unfold qkg;split<;>assumption
theorem qrb{a b:Nat}(ha:a<18446744073709551616)(hb:b<18446744073709551616):qkh a b<18446744073709551616:=by unfold qkh;split<;>assumption
theorem qyw(a b:Nat)(ha:a<18446744073709551616)(hb:b<18446744073709551616)(hp:Hp):run cxX 94 [fl a,fl b] hp=some (fl (qkg a b),hp):=by
 rw[E94]
 unfold qkg
 by_cases h:kw b<kw a<;>simp[YK b a hb ha,h]
theorem qyx(a b:Nat)(ha:a<18446744073709551616)(hb:b<18446744073709551616)(hp:Hp):run cxX 95 [fl a,fl b] hp=some (fl (qkh a b),hp):=by
 rw[E95]
 unfold qkh
 by_cases h:kw a<kw b<;>simp[YK a b ha hb,h]
theorem zed(hp:Hp):run cxX 186 [] hp=some (fl 9221120237041090561,hp):=by
 rw[E186]
 simp[qfs]
theorem YL(s:Int)(hp:Hp):run cxX 149 [.sc (.int .i64 s)] hp=some (fl (if 0<=s then 9218868437227405312 else 18442240474082181120),hp):=by
 rw[E149]
 by_cases h:0<=s<;>simp[h,qwv,qfs]
theorem qbj(hp:Hp):run cxX 187 [fl 0,fl 13826050856027422720] hp=some (fl 9223372036854775808,hp):=(E187 _ _ _).trans qf
theorem qgb(hp:Hp):run cxX 187 [fl 0,fl 4602678819172646912] hp=some (fl 0,hp):=(E187 _ _ _).trans qf
theorem zmd(x y:Operand):qx Tryz.prog .sub 42 x y (.float .f64 (FloatKind.f64.nearest 0)) (.float .f64 4602678819172646912)=some (.float .f64 13826050856027422720):=qf
theorem zmc(x y:Operand):qx Tryz.prog .sub 42 x y (.float .f64 (FloatKind.f64.nearest 1)) (.float .f64 4602678819172646912)=some (.float .f64 4602678819172646912):=qf
theorem qsq(n e:Int)(hn:0<=n/\n<18446744073709551616)(he:0<=e/\e<256):∃w,w<18446744073709551616/\∀hp,run cxX 151 [.sc (.int .u64 n),.sc (.int .u8 e)] hp=some (fl w,hp):=by
 have m8:∀x y,qx Tryz.prog .rem 5 x y (.int .u8 e) (.int .u8 8)=some (.int .u8 (e%8)):=by
  intro x y;rw[zq _ _ _ _ _ _ _ qe,zo he.1]
 have m2:∀x y,qx Tryz.prog .rem 62 x y (.int .u64 n) (.int .u64 2)=some (.int .u64 (n%2)):=by
  intro x y;rw[zq _ _ _ _ _ _ _ qe,zo hn.1]
 have m3:∀x y,qx Tryz.prog .rem 62 x y (.int .u64 n) (.int .u64 2001)=some (.int .u64 (n%2001)):=by
  intro x y;rw[zq _ _ _ _ _ _ _ qe,zo hn.1]
 have w2:IntKind.i64.wrap (n%2)=n%2:=qm qe qe
 have w3:IntKind.i64.wrap (n%2001)=n%2001:=qm qe qe
 have w4:IntKind.i64.wrap (n%2001-1000)=n%2001-1000:=qm qe qe
 have w5:IntKind.i64.wrap (2*(n%2))=2*(n%2):=qm qe qe
 have w5':IntKind.i64.wrap (n%2*2)=n%2*2:=qm qe qe
 have w6:IntKind.i64.wrap (n%2*2-1)=n%2*2-1:=qm qe qe
 have b10:∀hp,B151_10 (.int .u64 n) hp=some (fl (FloatKind.f64.nearest (n%2001-1000)),hp):=by
  intro hp
  rw[qpm]
  simp[m3,qrg,w3,w4,zgn]
 have b11:∀hp,B151_11 (.int .u64 n) hp=some (fl n.toNat,hp):=by
  intro hp
  rw[qpl]
  simp[qfs]
 by_cases h0:e%8=0
 ·refine⟨9221120237041090561,qh,fun hp=>?_⟩
  rw[qpf]
  simp[m8,h0,zed]
 ·by_cases h1:e%8=1
  ·refine⟨if 0<=n%2*2-1 then 9218868437227405312 else 18442240474082181120,by split<;>decide,fun hp=>?_⟩
   rw[qpf]
   simp[m8,h1,m2,xE,w2,w5',w6,YL]
  ·by_cases h2:e%8=2
   ·rcases Int.emod_two_eq n with q|q
    ·refine⟨9223372036854775808,qh,fun hp=>?_⟩
     rw[qpf]
     simp[m8,h2,m2,q,qko,zmd,qbj]
    ·refine⟨0,qh,fun hp=>?_⟩
     rw[qpf]
     simp[m8,h2,m2,q,qko,zmc,qgb]
   ·by_cases h3:e%8=3
    ·refine⟨_,WE (n%2001-1000),fun hp=>?_⟩
     rw[qpf]
     simp[m8,h3,b10]
    ·by_cases h4:e%8=4
     ·refine⟨_,WE (n%2001-1000),fun hp=>?_⟩
      rw[qpf]
      simp[m8,h4,b10]
     ·refine⟨n.toNat,qe,fun hp=>?_⟩
      rw[qpf]
      simp[m8,h0,h1,h2,h3,h4,b11]
theorem zi7{w:Nat}(h:w<18446744073709551616):yU (nw w)↔yU w:=by
 unfold yU nw
 split<;>omega
theorem qt3{w:Nat}(h:w<18446744073709551616)(hn:¬yU w):kw w<18444492273895866369:=by
 unfold kw
 rw[if_neg hn]
 unfold yU at hn
 split<;>omega
theorem zi6{w:Nat}(hn:yU w):kw w=18444492273895866369:=by
 unfold kw
 rw[if_pos hn]
theorem qin(w:Nat)(h:w<18446744073709551616)(hn:¬yU w)(hp:Hp):run cxX 195 [fl w,.sc (.int .i64 (-1))] hp=some (.sc (.bool (decide (w=18442240474082181120))),hp):=by
 have e:=qxv Tryz.prog w h
 have c:KU 9218868437227405311 (nw w)=decide (w=18442240474082181120):=by
  unfold KU
  have v1:jl 9218868437227405311=9218868437227405311:=qh
  rw[v1]
  have hn':¬yU (nw w):=fun e=>hn ((zi7 h).mp e)
  have hn2:=hn
  unfold yU at hn2
  apply decide_eq_decide.mpr
  constructor
  ·rintro⟨_,_,h3⟩
   unfold jl nw at h3
   repeat' split at h3
   all_goals omega
  ·intro h3
   subst h3
   exact⟨qh,qh,qh⟩
 rw[E195]
 simp[e,qd9,c]
theorem qim(w:Nat)(h:w<18446744073709551616)(hn:¬yU w)(hp:Hp):run cxX 195 [fl w,.sc (.int .i64 1)] hp=some (.sc (.bool (decide (w=9218868437227405312))),hp):=by
 have c:KU 9218868437227405311 w=decide (w=9218868437227405312):=by
  unfold KU
  have v1:jl 9218868437227405311=9218868437227405311:=qh
  rw[v1]
  have hn2:=hn
  unfold yU at hn2
  apply decide_eq_decide.mpr
  constructor
  ·rintro⟨_,_,h3⟩
   unfold jl at h3
   split at h3<;>omega
  ·intro h3
   subst h3
   exact⟨qh,qh,qh⟩
 rw[E195]
 simp[qd9,c]
theorem qh7(w:Nat)(h:w<18446744073709551616)(hp:Hp):run cxX 196 [fl w] hp=some (.sc (.bool (decide (9223372036854775808<=w))),hp):=by
 have c:decide (IntKind.i64.wrap (w:Int)<0)=decide (9223372036854775808<=w):=by
  apply decide_eq_decide.mpr
  rw[IntKind.wrap_i64]
  omega
 rw[E196]
 simp[XH,qrg]
 rw[IntKind.wrap_i64]
 omega
def Zp(w:Nat):Int:=if yU w then 1 else if w=18442240474082181120 then 2 else if w=9218868437227405312 then 3 else if w=9223372036854775808 then 4 else if w=0 then 5 else 0
theorem zbn{w:Nat}(h:w<18446744073709551616)(hn:¬yU w):fEq w 0=decide (w=0\/w=9223372036854775808):=by
 unfold fEq
 have v3:jl 0=0:=qh
 rw[v3]
 apply decide_eq_decide.mpr
 constructor
 ·rintro⟨_,_,h3⟩
  unfold jl at h3
  split at h3<;>omega
 ·intro h3
  rcases h3 with rfl|rfl
  ·exact⟨qh,qh,qh⟩
  ·exact⟨qh,qh,qh⟩
theorem qy2(w:Nat)(h:w<18446744073709551616)(hp:Hp):run cxX 185 [fl w] hp=some (.sc (.int .u8 (Zp w)),hp):=by
 rw[E185]
 unfold Zp
 by_cases hn:yU w
 ·simp[jA,hn]
 ·have i1:=fun hp=>qin w h hn hp
  have i2:=fun hp=>qim w h hn hp
  have z:=zbn h hn
  have s:=fun hp=>qh7 w h hp
  have b9:∀hp,B185_9 (.float .f64 w) hp=some (.sc (.int .u8 (if w=0\/w=9223372036854775808 then 5 else 0)),hp):=by
   intro hp
   rw[qv9]
   by_cases h0:w=0\/w=9223372036854775808<;>simp[z,h0]
  by_cases h1:w=18442240474082181120
  ·subst h1
   simp at i1
   simp[jA,hn,i1]
  ·by_cases h2:w=9218868437227405312
   ·subst h2
    simp at i1 i2
    simp[jA,hn,i1,i2]
   ·simp only[h1,h2,decide_false]at i1 i2
    by_cases h3:w=9223372036854775808
    ·subst h3
     simp at s z
     simp[jA,hn,i1,i2,z,s,qwa]
    ·by_cases h4:w=0
     ·subst h4
      simp at s z b9
      simp[jA,hn,i1,i2,z,s,b9]
     ·simp[h3,h4]at z b9
      simp[jA,hn,i1,i2,z,b9,h1,h2,h3,h4]
theorem qqw(a b:Nat):kw (qkg a b)=min (kw a) (kw b):=by unfold qkg;split<;>omega
theorem qqx(a b:Nat):kw (qkh a b)=max (kw a) (kw b):=by unfold qkh;split<;>omega
def LF(l:List Nat):List AV:=l.map fun n=>.sc (.float .f64 n)
section
variable (l:List Nat)
@[simp] theorem lenF:(LF l).length=l.length:=by simp[LF]
@[simp] theorem getF?(i:Nat):(LF l)[i]?=(l[i]?).map fun n=>.sc (.float .f64 n):=by simp[LF]
@[simp] theorem getF(i:Nat)(h:i<(LF l).length):(LF l)[i]= .sc (.float .f64 (l[i]'(by simpa using h))):=by simp[LF]
@[simp] theorem dropF(i:Nat):(LF l).drop i=LF (l.drop i):=by simp[LF]
@[simp] theorem tailF:(LF l).tail=LF l.tail:=by simp[LF]
@[simp] theorem nilF:LF []=[]:=rfl
theorem appF(n:Nat)(h:l.length<=1000000):jn 8 1 (S 2 1 (LF l)) (S 1 1 [.sc (.float .f64 n)])=some (S 2 1 (LF (l++[n]))):=by
 rw[Yv 8 1 2 _ _ 1 (.inr rfl) (qki _) (.inr (yV qe qi))]
 simp[LF]
end
abbrev Ga(K M e0 e1 e2 e3 e4 e5:Int)(lo hi:Nat)(x:AV):AV:=
 .agg [.sc (.int .i64 K),.sc (.int .u32 M),.sc (.int .u32 e0),.sc (.int .u32 e1),.sc (.int .u32 e2),.sc (.int .u32 e3),.sc (.int .u32 e4),.sc (.int .u32 e5),fl lo,fl hi,x]
def zB(a b:Int):Int:=if a+b<4294967296 then a+b else 4294967295
theorem yu(a b:Int)(ha:0<=a/\a<4294967296)(hb:0<=b/\b<4294967296)(hp:Hp):run cxX 93 [.sc (.int .u32 a),.sc (.int .u32 b)] hp=some (.sc (.int .u32 (zB a b)),hp):=by
 rw[E93]
 unfold zB
 by_cases h:a+b<4294967296
 ·have w:IntKind.u32.wrap (a+b)=a+b:=qK qe h
  have h1:decide (a+b>=a)=true:=qi
  simp only[JL,xJ,zm7,jM,ZU,jm,w,h,h1,cond_true,if_true]
 ·have w:IntKind.u32.wrap (a+b)=a+b-4294967296:=by rw[IntKind.wrap_u32];omega
  have h1:¬(a<=a+b-4294967296):=qe
  simp[w,h,h1]
def Ws(l:List Nat):Prop:=∀w∈l,w<18446744073709551616
theorem qkb(K:Int)(q c1 c2 c3 c4 c5 c6 c7 c8 c9:AV)(b4 b2r:List AV)(hq:b4.length=11)(hp:Hp):∀(n:Nat) (a b acc:List Nat) (k k':Nat),a.length+b.length=n->acc.length+n<=1000000->Ws a->Ws b->
 B47_8 (S k 1 (LF a)) (S k' 1 (LF b)) (.sc (.int .i64 K)::b2r) b4 [q,c1,c2,c3,c4,c5,c6,c7,c8,c9,S 2 1 (LF acc)] hp=some (.agg [q,c1,c2,c3,c4,c5,c6,c7,c8,c9,S 2 1 (LF (acc++(gm a b).take (K.toNat-acc.length)))],hp):=by
 intro n
 induction n using Nat.strongRecOn with
 |_ n ih=>
 intro a b acc k k' hn hlen ha hb
 have ap:∀x:Nat,jn 8 1 (S 2 1 (LF acc)) (S 1 1 [.sc (.float .f64 x)])=some (S 2 1 (LF (acc++[x]))):=fun x=>appF acc x qe
 have fin:B47_12 b4 [q,c1,c2,c3,c4,c5,c6,c7,c8,c9,S 2 1 (LF acc)] hp=some (.agg [q,c1,c2,c3,c4,c5,c6,c7,c8,c9,S 2 1 (LF acc)],hp):=by
  rw[qvz]
  obtain⟨d0,d1,d2,d3,d4,d5,d6,d7,d8,d9,d10,rfl⟩:∃d0 d1 d2 d3 d4 d5 d6 d7 d8 d9 d10,b4=[d0,d1,d2,d3,d4,d5,d6,d7,d8,d9,d10]:=by
   match b4,hq with
   |[d0,d1,d2,d3,d4,d5,d6,d7,d8,d9,d10],_=>exact⟨d0,d1,d2,d3,d4,d5,d6,d7,d8,d9,d10,rfl⟩
  simp[qp,qo]
 rw[zc8]
 by_cases hK:(acc.length:Int)<K
 ·have hs:K.toNat-acc.length=(K.toNat-(acc.length+1))+1:=qe
  have goA:∀(x:Nat) (r:List Nat),r.length+1+b.length<=n->Ws r->B47_10 (S k 1 (LF (x::r))) (S k' 1 (LF b)) (.sc (.int .i64 K)::b2r) b4 [q,c1,c2,c3,c4,c5,c6,c7,c8,c9,S 2 1 (LF acc)] hp=some (.agg [q,c1,c2,c3,c4,c5,c6,c7,c8,c9,S 2 1 (LF (acc++(x::gm r b).take (K.toNat-acc.length)))],hp):=by
   intro x r hle hr
   rw[qv1]
   have e:=yW (rk k) (LF (x::r)) .i64 1 qe (by simp only[lenF,zm5];omega)
   have i:=fun k=>ih (r.length+b.length) qe r b (acc++[x]) k k' rfl (by simp only[zm4,zm5,znn];omega) hr hb
   simp at i
   rw[hs,znl]
   simp[qs,ql,ap,e,qo,i]
  have goB:∀(y:Nat) (r:List Nat),a.length+(r.length+1)<=n->Ws r->B47_11 (S k 1 (LF a)) (S k' 1 (LF (y::r))) (.sc (.int .i64 K)::b2r) b4 [q,c1,c2,c3,c4,c5,c6,c7,c8,c9,S 2 1 (LF acc)] hp=some (.agg [q,c1,c2,c3,c4,c5,c6,c7,c8,c9,S 2 1 (LF (acc++(y::gm a r).take (K.toNat-acc.length)))],hp):=by
   intro x r hle hr
   rw[qv0]
   have e:=yW (rk k') (LF (x::r)) .i64 1 qe (by simp only[lenF,zm5];omega)
   have i:=fun k'=>ih (a.length+r.length) qe a r (acc++[x]) k k' rfl (by simp only[zm4,zm5,znn];omega) ha hr
   simp at i
   rw[hs,znl]
   simp[qs,ql,ap,e,qo,i]
  match a,b with
  |[],[]=>simp[qs,ql,hK,fin]
  |[],y::s=>
   have h:=goB y s (by simp at hn⊢;omega) (fun w hw=>hb w (by simp[hw]))
   simp at h
   have hw':IntKind.i64.wrap ((s.length:Int)+1)=(s.length:Int)+1:=qm qe (by simp at hn;omega)
   have p:(0:Int)<(s.length:Int)+1:=qe
   have z:¬((s.length:Int)+1=0):=qe
   simp[qs,ql,hK,hw',p,z,XE,h]
  |x::r,[]=>
   have h:=goA x r (by simp at hn⊢;omega) (fun w hw=>ha w (by simp[hw]))
   simp at h
   have hw':IntKind.i64.wrap ((r.length:Int)+1)=(r.length:Int)+1:=qm qe (by simp at hn;omega)
   have p:(0:Int)<(r.length:Int)+1:=qe
   simp[qs,ql,hK,hw',p,XE,h]
  |x::r,y::s=>
   have h1:=goA x r (by simp at hn⊢;omega) (fun w hw=>ha w (by simp[hw]))
   have h2:=goB y s (by simp at hn⊢;omega) (fun w hw=>hb w (by simp[hw]))
   have hw':IntKind.i64.wrap ((r.length:Int)+1+((s.length:Int)+1))=(r.length:Int)+1+((s.length:Int)+1):=qm qe (by simp at hn;omega)
   have p:(0:Int)<(r.length:Int)+1+((s.length:Int)+1):=qe
   have p':(0:Int)<(r.length:Int)+1:=qe
   have z:¬((s.length:Int)+1=0):=qe
   have l:=fun hp=>YK y x (hb y qg) (ha x qg) hp
   rw[qhb]
   by_cases hyx:kw y<kw x
   ·simp only[hyx,decide_true]at l
    simp[qs,ql,hK,hw',p,p',z,hyx,l,h2,XE]
   ·simp only[hyx,decide_false]at l
    simp[qs,ql,hK,hw',p,p',z,hyx,l,h1,XE]
 ·have hs:K.toNat-acc.length=0:=qe
  simp[qs,ql,hK,fin,hs]
theorem zje:idx 6 (.int .i64 0)=some 0:=qf
theorem zjd:idx 6 (.int .i64 1)=some 1:=qf
theorem zjc:idx 6 (.int .i64 2)=some 2:=qf
theorem zjb:idx 6 (.int .i64 3)=some 3:=qf
theorem zja:idx 6 (.int .i64 4)=some 4:=qf
theorem zi9:idx 6 (.int .i64 5)=some 5:=qf
def zx(n:Int):Prop:=0<=n/\n<4294967296
theorem VY(K K' M M' e0 e1 e2 e3 e4 e5 f0 f1 f2 f3 f4 f5:Int)(lo hi lo' hi':Nat)(a b:List Nat)(k k':Nat)(hM:zx M/\zx M')(h0:zx e0/\zx f0)(h1:zx e1/\zx f1)(h2:zx e2/\zx f2)(h3:zx e3/\zx f3)
 (h4:zx e4/\zx f4) (h5:zx e5/\zx f5) (hlo:lo<18446744073709551616/\lo'<18446744073709551616) (hhi:hi<18446744073709551616/\hi'<18446744073709551616) (ha:Ws a) (hb:Ws b) (hlen:a.length+b.length<=1000000) (hp:Hp):
 run cxX 47 [Ga K M e0 e1 e2 e3 e4 e5 lo hi (S k 1 (LF a)),Ga K' M' f0 f1 f2 f3 f4 f5 lo' hi' (S k' 1 (LF b))] hp=
  some (Ga K (zB M M') (zB e0 f0) (zB e1 f1) (zB e2 f2) (zB e3 f3) (zB e4 f4) (zB e5 f5) (qkg lo lo') (qkh hi hi') (S 2 1 (LF ((gm a b).take K.toNat))),hp):=by
 have pM:=fun hp=>yu M M' hM.1 hM.2 hp
 have p0:=fun hp=>yu e0 f0 h0.1 h0.2 hp
 have p1:=fun hp=>yu e1 f1 h1.1 h1.2 hp
 have p2:=fun hp=>yu e2 f2 h2.1 h2.2 hp
 have p3:=fun hp=>yu e3 f3 h3.1 h3.2 hp
 have p4:=fun hp=>yu e4 f4 h4.1 h4.2 hp
 have p5:=fun hp=>yu e5 f5 h5.1 h5.2 hp
 have mn:=fun hp=>qyw lo lo' hlo.1 hlo.2 hp
 have mx:=fun hp=>qyx hi hi' hhi.1 hhi.2 hp
 have w2:IntKind.i64.wrap 2=2:=rfl
 have w3:IntKind.i64.wrap 3=3:=rfl
 have w4:IntKind.i64.wrap 4=4:=rfl
 have w5:IntKind.i64.wrap 5=5:=rfl
 have w6:IntKind.i64.wrap 6=6:=rfl
 have g:=fun(c1 c2 c3 c4 c5 c6 c7 c8 c9:AV) (b4 b2r:List AV) (hq:b4.length=11)=>qkb K (.sc (.int .i64 K)) c1 c2 c3 c4 c5 c6 c7 c8 c9 b4 b2r hq hp (a.length+b.length) a b [] (rk k) (rk k') rfl (by simpa using hlen) ha hb
 simp at g
 rw[E47]
 simp[ql,pM,mn,mx]
 rw[wh]
 simp[ql,zje,p0,qo]
 rw[wh]
 simp[ql,zjd,p1,qo]
 rw[wh]
 simp[ql,zjc,p2,qo,w2]
 rw[wh]
 simp[ql,zjb,p3,qo,w3]
 rw[wh]
 simp[ql,zja,p4,qo,w4]
 rw[wh]
 simp[ql,zi9,p5,qo,w5]
 rw[wh]
 simp[qs,w6]
 exact g _ _ _ _ _ _ _ _ _ _ _ rfl
structure Gs where
 M:Int
 e0:Int
 e1:Int
 e2:Int
 e3:Int
 e4:Int
 e5:Int
 lo:Nat
 hi:Nat
 L:List Nat
abbrev Gs.av(g:Gs)(K:Int)(k:Nat):AV:=Ga K g.M g.e0 g.e1 g.e2 g.e3 g.e4 g.e5 g.lo g.hi (S k 1 (LF g.L))
def gmg(K:Int)(g o:Gs):Gs:=⟨zB g.M o.M,zB g.e0 o.e0,zB g.e1 o.e1,zB g.e2 o.e2,zB g.e3 o.e3,zB g.e4 o.e4,zB g.e5 o.e5,qkg g.lo o.lo,qkh g.hi o.hi,(gm g.L o.L).take K.toNat⟩
def kR(w:Nat):Gs:=⟨1,if Zp w=0 then 1 else 0,if Zp w=1 then 1 else 0,if Zp w=2 then 1 else 0,if Zp w=3 then 1 else 0,if Zp w=4 then 1 else 0,if Zp w=5 then 1 else 0,
 if yU w then 9218868437227405312 else w,if yU w then 18442240474082181120 else w,[wk (kw w)]⟩
def gnew:Gs:=⟨0,0,0,0,0,0,0,9218868437227405312,18442240474082181120,[]⟩
def Vh(i:Int):List Nat->Nat
 |[]=>0
 |f::F=>(if Zp f=i then 1 else 0)+Vh i F
theorem xe(i:Int):∀a b,Vh i (a++b)=Vh i a+Vh i b
 |[],b=>by simp[Vh]
 |f::a,b=>by simp only[zox,Vh,xe i a b];omega
theorem yd(i:Int):∀a,Vh i a<=a.length
 |[]=>zm8 _
 |f::a=>by have:=yd i a;simp only[Vh,zm5];split<;>omega
theorem Qr(i:Int){a b:List Nat}(h:a.Perm b):Vh i a=Vh i b:=by
 induction h with
 |nil=>rfl
 |cons x _ ih=>simp only[Vh,ih]
 |swap x y l=>simp only[Vh];omega
 |trans _ _ h1 h2=>rw[h1,h2]
theorem zgf(w:Nat):0<=Zp w/\Zp w<=5:=by
 unfold Zp
 repeat' split
 all_goals omega
structure GR (K : Int) (F : List Nat) (g : Gs) : Prop where
 M:g.M=F.length
 e0:g.e0=Vh 0 F
 e1:g.e1=Vh 1 F
 e2:g.e2=Vh 2 F
 e3:g.e3=Vh 3 F
 e4:g.e4=Vh 4 F
 e5:g.e5=Vh 5 F
 lo:g.lo<18446744073709551616
 hi:g.hi<18446744073709551616
 klo:kw g.lo=Yh F
 khi:kw g.hi=vM F
 ws:Ws g.L
 keys:g.L.map kw=(sk (F.map kw)).take K.toNat
theorem GR.len{K:Int}{F:List Nat}{g:Gs}(h:GR K F g):g.L.length=min K.toNat F.length:=by
 have:=congrArg List.length h.keys
 rw[zo8,zn9,zig,zo8]at this
 exact this
theorem vE{a b:Nat}(h:a+b<4294967296):zB (a:Int) (b:Int)=((a+b:Nat):Int):=by
 unfold zB
 rw[if_pos qe]
 omega
theorem GR.merge{K:Int}{F H:List Nat}{g o:Gs}(hg:GR K F g)(ho:GR K H o)(hl:F.length+H.length<=1000):GR K (F++H) (gmg K g o) where
 M:=by simp only[gmg];rw[hg.M,ho.M,vE qe,zm4]
 e0:=by have:=yd 0 F;have:=yd 0 H;simp only[gmg];rw[hg.e0,ho.e0,vE qe,xe]
 e1:=by have:=yd 1 F;have:=yd 1 H;simp only[gmg];rw[hg.e1,ho.e1,vE qe,xe]
 e2:=by have:=yd 2 F;have:=yd 2 H;simp only[gmg];rw[hg.e2,ho.e2,vE qe,xe]
 e3:=by have:=yd 3 F;have:=yd 3 H;simp only[gmg];rw[hg.e3,ho.e3,vE qe,xe]
 e4:=by have:=yd 4 F;have:=yd 4 H;simp only[gmg];rw[hg.e4,ho.e4,vE qe,xe]
 e5:=by have:=yd 5 F;have:=yd 5 H;simp only[gmg];rw[hg.e5,ho.e5,vE qe,xe]
 lo:=qra hg.lo ho.lo
 hi:=qrb hg.hi ho.hi
 klo:=by simp only[gmg];rw[qqw,hg.klo,ho.klo,KS]
 khi:=by simp only[gmg];rw[qqx,hg.khi,ho.khi,Xd]
 ws:=fun w hw=>(zak w _ _ _ rfl (zoq hw)).elim (hg.ws w) (ho.ws w)
 keys:=by
  simp only[gmg]
  rw[zqt,qq4 _ _ _ rfl,hg.keys,ho.keys,zdz _ _ _ _ _ (zm8 _) (zm8 _),List.map_append,qr4]
theorem zf6(K:Int):GR K [] gnew:=⟨rfl,rfl,rfl,rfl,rfl,rfl,rfl,qh,qh,qh,qh,by simp[gnew,Ws],by simp[gnew,sk]⟩
theorem qq2{K:Int}(hK:1<=K){w:Nat}(hw:w<18446744073709551616):GR K [w] (kR w) where
 M:=rfl
 e0:=by simp only[kR,Vh];split<;>rfl
 e1:=by simp only[kR,Vh];split<;>rfl
 e2:=by simp only[kR,Vh];split<;>rfl
 e3:=by simp only[kR,Vh];split<;>rfl
 e4:=by simp only[kR,Vh];split<;>rfl
 e5:=by simp only[kR,Vh];split<;>rfl
 lo:=by simp only[kR];split<;>omega
 hi:=by simp only[kR];split<;>omega
 klo:=by
  simp only[kR,Yh]
  have h0:kw 9218868437227405312=18442240474082181120:=qh
  by_cases hn:yU w
  ·rw[if_pos hn,if_pos hn,h0]
  ·rw[if_neg hn,if_neg hn]
   have hn2:=hn
   unfold yU at hn2
   unfold kw
   rw[if_neg hn]
   split<;>omega
 khi:=by
  simp only[kR,vM]
  have h0:kw 18442240474082181120=4503599627370495:=qh
  by_cases hn:yU w
  ·rw[if_pos hn,if_pos hn,h0]
  ·rw[if_neg hn,if_neg hn]
   have hn2:=hn
   unfold yU at hn2
   unfold kw
   rw[if_neg hn]
   split<;>omega
 ws:=by simp only[kR,Ws,zp8];rintro x rfl;exact qbx _ (Qm w hw)
 keys:=by
  have hk:K.toNat=(K.toNat-1)+1:=qe
  simp only[kR,zoa,zpu,sk,ZF]
  rw[qjy w hw,hk,znl,zq6]
theorem GR.in32{K:Int}{F:List Nat}{g:Gs}(h:GR K F g)(hl:F.length<=1000):zx g.M/\zx g.e0/\zx g.e1/\zx g.e2/\zx g.e3/\zx g.e4/\zx g.e5:=by
 have a0:=yd 0 F
 have a1:=yd 1 F
 have a2:=yd 2 F
 have a3:=yd 3 F
 have a4:=yd 4 F
 have a5:=yd 5 F
 rw[h.M,h.e0,h.e1,h.e2,h.e3,h.e4,h.e5]
 unfold zx
 refine⟨?_,?_,?_,?_,?_,?_,?_⟩<;>omega
theorem zil(K K':Int){F H:List Nat}{g o:Gs}(k k':Nat)(hg:GR K F g)(ho:GR K' H o)(hl:F.length+H.length<=1000)(hp:Hp):
 run cxX 47 [g.av K k,o.av K' k'] hp=some ((gmg K g o).av K 2,hp):=by
 obtain⟨m,x0,x1,x2,x3,x4,x5⟩:=hg.in32 qe
 obtain⟨m',y0,y1,y2,y3,y4,y5⟩:=ho.in32 qe
 have l1:=hg.len
 have l2:=ho.len
 exact VY K K' g.M o.M g.e0 g.e1 g.e2 g.e3 g.e4 g.e5 o.e0 o.e1 o.e2 o.e3 o.e4 o.e5 g.lo g.hi o.lo o.hi g.L o.L k k' ⟨m,m'⟩ ⟨x0,y0⟩ ⟨x1,y1⟩ ⟨x2,y2⟩ ⟨x3,y3⟩ ⟨x4,y4⟩ ⟨x5,y5⟩ ⟨hg.lo,ho.lo⟩ ⟨hg.hi,ho.hi⟩ hg.ws ho.ws qe hp
theorem zec(K:Int)(w:Nat)(hw:w<18446744073709551616)(hp:Hp):run cxX 150 [.sc (.int .i64 K),fl w] hp=some ((kR w).av K 1,hp):=by
 have i1:=fun hp=>YL 1 hp
 have i2:=fun hp=>YL (-1) hp
 have ed:=fun hp=>qy2 w hw hp
 have k:=fun hp=>Jj w hw hp
 have o:=fun hp=>qyo (kw w) (Qm w hw) hp
 simp at i1 i2
 have b5:∀(x0 x1 x2 x3 x4 x5 x6 x7 x8 x9 x10:AV) (q0 q1 q2 q3 q4 q5 q6 q7 q8 q9 q10:AV) (hp:Hp),B150_5 (.float .f64 w) [q0,q1,q2,q3,q4,q5,q6,q7,q8,q9,q10] [x0,x1,x2,x3,x4,x5,x6,x7,x8,x9,x10] hp=some (.agg [x0,x1,x2,x3,x4,x5,x6,x7,x8,x9,S 1 1 [fl (wk (kw w))]],hp):=by
  intros
  rw[qws]
  simp[k,o,qo,qp]
 rw[E150]
 have he:=zgf w
 have hc:Zp w=0\/Zp w=1\/Zp w=2\/Zp w=3\/Zp w=4\/Zp w=5:=qe
 have u0:idx 6 (.int .u8 0)=some 0:=qf
 have u1:idx 6 (.int .u8 1)=some 1:=qf
 have u2:idx 6 (.int .u8 2)=some 2:=qf
 have u3:idx 6 (.int .u8 3)=some 3:=qf
 have u4:idx 6 (.int .u8 4)=some 4:=qf
 have u5:idx 6 (.int .u8 5)=some 5:=qf
 unfold kR
 by_cases hn:yU w
 ·rcases hc with e|e|e|e|e|e<;>rw[e]at ed<;>simp[i1,i2,ed,u0,u1,u2,u3,u4,u5,qo,jA,hn,b5,e,LF]
 ·rcases hc with e|e|e|e|e|e<;>rw[e]at ed<;>simp[i1,i2,ed,u0,u1,u2,u3,u4,u5,qo,jA,hn,b5,e,LF]
theorem qyt(K:Int)(hK:1<=K/\K<=16)(hp:Hp):run cxX 80 [.sc (.int .i64 K)] hp=some (.tup [gnew.av K 2,.sc (.bool true)],hp):=by
 have i1:=fun hp=>YL 1 hp
 have i2:=fun hp=>YL (-1) hp
 simp at i1 i2
 have h1:¬(K<1):=qe
 have h2:¬(16<K):=qe
 rw[E80]
 simp[h1,h2]
 rw[zcq]
 simp[i1,i2,qo,qp,gnew]
theorem qyu(K:Int){F:List Nat}{g:Gs}(k w:Nat)(hK:1<=K)(hg:GR K F g)(hl:F.length+1<=1000)(hw:w<18446744073709551616)(hp:Hp):
 run cxX 81 [g.av K k,fl w] hp=some ((gmg K g (kR w)).av K 2,hp):=by
 have o:=fun hp=>zec K w hw hp
 have m:=fun k k' hp=>zil K K k k' hg (qq2 hK hw) (by simpa using hl) hp
 rw[E81]
 simp[qp,ql,o,m,qo]
theorem zmh(d:Nat)(a b:Int):zy Tryz.prog (Op.equalIn (d+1) 40 (.int .u32 a) (.int .u32 b))=some (a==b):=by
 unfold Op.equalIn
 rw[za]
 have:zy Tryz.prog (underlying 40)=some (.int .u32):=qf
 rw[this]
 rfl
theorem zmi(e0 e1 e2 e3 e4 e5 f0 f1 f2 f3 f4 f5:Int):zy Tryz.prog (Op.equal 41 (.agg #[.int .u32 e0,.int .u32 e1,.int .u32 e2,.int .u32 e3,.int .u32 e4,.int .u32 e5]) (.agg #[.int .u32 f0,.int .u32 f1,.int .u32 f2,.int .u32 f3,.int .u32 f4,.int .u32 f5]))=
 some (decide (e0=f0/\e1=f1/\e2=f2/\e3=f3/\e4=f4/\e5=f5)):=by
 unfold Op.equal Op.maxDepth
 unfold Op.equalIn
 rw[za]
 have:zy Tryz.prog (underlying 41)=some (.array 6 40):=qf
 rw[this]
 simp only[JL,zm7]
 rw[za]
 have hs:zy Tryz.prog (sizeOf 40)=some 1:=qf
 rw[hs]
 simp only[JL,zm7]
 have hp:∀(x0 x1 x2 x3 x4 x5:Value),zy Tryz.prog (part 40 #[x0,x1,x2,x3,x4,x5] 0)=some x0/\zy Tryz.prog (part 40 #[x0,x1,x2,x3,x4,x5] 1)=some x1/\zy Tryz.prog (part 40 #[x0,x1,x2,x3,x4,x5] 2)=some x2/\
  zy Tryz.prog (part 40 #[x0,x1,x2,x3,x4,x5] 3)=some x3/\zy Tryz.prog (part 40 #[x0,x1,x2,x3,x4,x5] 4)=some x4/\zy Tryz.prog (part 40 #[x0,x1,x2,x3,x4,x5] 5)=some x5:=by
  intro x0 x1 x2 x3 x4 x5
  refine⟨?_,?_,?_,?_,?_,?_⟩<;>kernel_rfl
 have he:=zmh 9998
 obtain⟨a0,a1,a2,a3,a4,a5⟩:=hp (.int .u32 e0) (.int .u32 e1) (.int .u32 e2) (.int .u32 e3) (.int .u32 e4) (.int .u32 e5)
 obtain⟨b0,b1,b2,b3,b4,b5⟩:=hp (.int .u32 f0) (.int .u32 f1) (.int .u32 f2) (.int .u32 f3) (.int .u32 f4) (.int .u32 f5)
 rw[Std.Legacy.Range.forIn_eq_forIn_range']
 simp[Std.Legacy.Range.size,List.range'_succ,za,a0,b0,he]
 by_cases h0:e0=f0
 ·subst h0
  simp[za,a1,b1,he]
  by_cases h1:e1=f1
  ·subst h1
   simp[za,a2,b2,he]
   by_cases h2:e2=f2
   ·subst h2
    simp[za,a3,b3,he]
    by_cases h3:e3=f3
    ·subst h3
     simp[za,a4,b4,he]
     by_cases h4:e4=f4
     ·subst h4
      simp[za,a5,b5,he]
      by_cases h5:e5=f5
      ·subst h5
       simp[za]
      ·simp[h5,za]
     ·simp[h4,za]
    ·simp[h3,za]
   ·simp[h2,za]
  ·simp[h1,za]
 ·simp[h0,za]
theorem zhk(x y:Operand)(e0 e1 e2 e3 e4 e5 f0 f1 f2 f3 f4 f5:Int):qx Tryz.prog .neq 41 x y (.agg #[.int .u32 e0,.int .u32 e1,.int .u32 e2,.int .u32 e3,.int .u32 e4,.int .u32 e5]) (.agg #[.int .u32 f0,.int .u32 f1,.int .u32 f2,.int .u32 f3,.int .u32 f4,.int .u32 f5])=
 some (.bool (!decide (e0=f0/\e1=f1/\e2=f2/\e3=f3/\e4=f4/\e5=f5))):=by
 unfold qx
 rw[za]
 have hg:zy Tryz.prog (eqGuard .neq 41 x y (.agg #[.int .u32 e0,.int .u32 e1,.int .u32 e2,.int .u32 e3,.int .u32 e4,.int .u32 e5]) (.agg #[.int .u32 f0,.int .u32 f1,.int .u32 f2,.int .u32 f3,.int .u32 f4,.int .u32 f5]))=some ():=qf
 rw[hg]
 simp only[JL,zm7,Go.binOp]
 rw[za,zmi]
 rfl
theorem WM(r0 r1 r2 r3 r4 r5 r6 r7 r8 r9 s0 s1 s2 s3 s4 s5 s6 s7 s8 s9:AV)(a b:List Nat)(k k':Nat)(hab:a.length=b.length)(hl:a.length<=1000000)(ha:Ws a)(hb:Ws b)(hp:Hp):∀(r s:List Nat) (i:Nat),a.drop i=r->b.drop i=s->
 B136_4 (.int .i64 a.length) (.int .i64 i) [r0,r1,r2,r3,r4,r5,r6,r7,r8,r9,S k 1 (LF a)] [s0,s1,s2,s3,s4,s5,s6,s7,s8,s9,S k' 1 (LF b)] hp=some (.sc (.bool (decide (r.map kw=s.map kw))),hp):=by
 intro r
 induction r with
 |nil=>
  intro s i hr hs
  have h1:=qJ hr
  have h2:s=[]:=by rw[<-hs];exact zoc qe
  have hlt:¬((i:Int)<(a.length:Int)):=qe
  rw[qfa]
  simp[hlt,h2]
 |cons x r ih=>
  intro s i hr hs
  obtain⟨e1,e2,hi,e3⟩:=qt hr
  rw[qfa]
  have hw:IntKind.i64.wrap ((i:Int)+1)=((i+1:Nat):Int):=qj
  cases s with
  |nil=>have:=qJ hs;omega
  |cons y s=>
   obtain⟨f1,f2,hj,f3⟩:=qt hs
   have h:=ih s (i+1) e2 f2
   have q:=fun hp=>Qh x y (ha x (znh e1)) (hb y (znh f1)) hp
   simp at h hw
   by_cases e:kw x=kw y
   ·simp only[e,decide_true]at q
    simp[hi,hj,qs,ql,e3,f3,e,hw,h,q]
   ·simp only[e,decide_false]at q
    simp[hi,hj,qs,ql,e3,f3,e,q]
def qlh(K K':Int)(g o:Gs):Prop:=K=K'/\g.M=o.M/\(g.e0=o.e0/\g.e1=o.e1/\g.e2=o.e2/\g.e3=o.e3/\g.e4=o.e4/\g.e5=o.e5)/\kw g.lo=kw o.lo/\kw g.hi=kw o.hi/\g.L.map kw=o.L.map kw
theorem qsm(K K':Int)(g o:Gs)(k k':Nat)(hs:qlh K K' g o)(h1:g.lo<18446744073709551616/\o.lo<18446744073709551616)(h2:g.hi<18446744073709551616/\o.hi<18446744073709551616)(h3:Ws g.L/\Ws o.L)(hl:g.L.length<=1000000)(hp:Hp):
 run cxX 136 [g.av K k,o.av K' k'] hp=some (.sc (.bool true),hp):=by
 obtain⟨q1,q2,q3,q4,q5,q6⟩:=hs
 have len:g.L.length=o.L.length:=by simpa using congrArg List.length q6
 have l:=WM (.sc (.int .i64 K)) (.sc (.int .u32 g.M)) (.sc (.int .u32 g.e0)) (.sc (.int .u32 g.e1)) (.sc (.int .u32 g.e2)) (.sc (.int .u32 g.e3)) (.sc (.int .u32 g.e4)) (.sc (.int .u32 g.e5)) (fl g.lo) (fl g.hi)
  (.sc (.int .i64 K')) (.sc (.int .u32 o.M)) (.sc (.int .u32 o.e0)) (.sc (.int .u32 o.e1)) (.sc (.int .u32 o.e2)) (.sc (.int .u32 o.e3)) (.sc (.int .u32 o.e4)) (.sc (.int .u32 o.e5)) (fl o.lo) (fl o.hi) g.L o.L (rk k) (rk k') len hl h3.1 h3.2 hp g.L o.L 0 rfl rfl
 have r1:=fun hp=>Qh g.lo o.lo h1.1 h1.2 hp
 have r2:=fun hp=>Qh g.hi o.hi h2.1 h2.2 hp
 have a:=zhk (.tmp 20) (.tmp 22) g.e0 g.e1 g.e2 g.e3 g.e4 g.e5 o.e0 o.e1 o.e2 o.e3 o.e4 o.e5
 simp only[eq_true q3,eq_true q4,eq_true q5,eq_true q6,decide_true,Bool.not_true]at a r1 r2 l
 subst q1
 rw[E136]
 simp at l
 rw[len]at l
 rw[q2]at l
 simp[ql,qs,qp,xP,wQ,q2,a,r1,r2,len,qfb]
 exact l
open Classical in
noncomputable def wd(p:Int×Int):Nat:=if h:∃w,w<18446744073709551616/\∀hp,run cxX 151 [.sc (.int .u64 p.1),.sc (.int .u8 p.2)] hp=some (fl w,hp)then h.choose else 0
def InI(p:Int×Int):Prop:=(0<=p.1/\p.1<18446744073709551616)/\(0<=p.2/\p.2<256)
theorem qxr{p:Int×Int}(h:InI p):wd p<18446744073709551616/\∀hp,run cxX 151 [.sc (.int .u64 p.1),.sc (.int .u8 p.2)] hp=some (fl (wd p),hp):=by
 have he:=qsq p.1 p.2 h.1 h.2
 unfold wd
 rw[dif_pos he]
 exact he.choose_spec
theorem qyq(p:Int×Int)(h:InI p)(hp:Hp):run cxX 82 [.agg [.sc (.int .u64 p.1),.sc (.int .u8 p.2)]] hp=some (fl (wd p),hp):=by
 rw[E82]
 simp[ql,(qxr h).2]
def LP:List (Int×Int)->List AV
 |[]=>[]
 |p::l=>.sc (.int .u64 p.1)::.sc (.int .u8 p.2)::LP l
theorem qjx:∀l,(LP l).length=2*l.length
 |[]=>rfl
 |p::l=>by simp only[LP,zm5,qjx l];omega
theorem zht:∀(i:Nat) (l:List (Int×Int)),(LP l).drop (i*2)=LP (l.drop i)
 |0,l=>by simp
 |i+1,[]=>by simp[LP]
 |i+1,p::l=>by
  have h:(i+1)*2=i*2+1+1:=qe
  rw[h,LP,zpt,zpt,zht i l,zpt]
theorem zaq(k:Nat)(l:List (Int×Int)):xU (S k 2 (LP l))=some l.length:=by
 have h:(if(2:Nat)=1 then(LP l).length else(LP l).length/2)=l.length:=by rw[if_neg qe,qjx];omega
 rcases jp k 2 (LP l)with e|e|⟨e,e'⟩
 ·rw[e];simp only[xU,h]
 ·rw[e];simp only[xU,h]
 ·rw[e]
  have:l.length=0:=by have:=qjx l;rw[e']at this;simp at this;omega
  rw[this];rfl
theorem zi8(k:Nat){l:List (Int×Int)}{i:Nat}{p:Int×Int}(h:l[i]?=some p):jE 2 (S k 2 (LP l)) (.int .i64 (i:Int))=some [.sc (.int .u64 p.1),.sc (.int .u8 p.2)]:=by
 obtain⟨hi,hp⟩:=zne.mp h
 have hl:(if(2:Nat)=1 then(LP l).length else(LP l).length/2)=l.length:=by rw[if_neg qe,qjx];omega
 have hx:idx l.length (.int .i64 (i:Int))=some i:=by
  have hc:(0:Int)<=(i:Int)/\(i:Int)<(l.length:Int):=⟨qe,qe⟩
  simp only[JL,idx,Vb,zm7,hc,and_self,if_true,znc]
 have hg:qp (LP l) (i*2) 2=some [.sc (.int .u64 p.1),.sc (.int .u8 p.2)]:=by
  unfold qp
  rw[if_pos (by rw[qjx];omega),zht,zn0 hi,hp]
  rfl
 rcases jp k 2 (LP l)with e|e|⟨e,e'⟩
 ·rw[e];simp only[JL,jE,if_true,hl,hx,zm7,hg]
 ·rw[e];simp only[JL,jE,if_true,hl,hx,zm7,hg]
 ·exfalso
  have:=qjx l
  rw[e']at this
  simp at this
  omega
def ZO(K:Int)(g:Gs):List Nat->Gs
 |[]=>g
 |w::r=>ZO K (gmg K g (kR w)) r
theorem qor(K:Int)(k:Nat)(l:List (Int×Int))(z0 z1 z2 z3 z4 z5 z6 z7 z8 z9 z10:AV)(hK:1<=K)(hl:l.length<=900)(hI:∀p∈l,InI p)(hp:Hp):∀(r:List (Int×Int)) (i:Nat) (F:List Nat) (g:Gs),l.drop i=r->F.length=i->GR K F g->
 B36_3 (S k 2 (LP l)) (.int .i64 l.length) (.int .i64 i) [z0,z1,z2,z3,z4,z5,z6,z7,z8,z9,z10] [.sc (.int .i64 K),.sc (.int .u32 g.M),.sc (.int .u32 g.e0),.sc (.int .u32 g.e1),.sc (.int .u32 g.e2),.sc (.int .u32 g.e3),.sc (.int .u32 g.e4),.sc (.int .u32 g.e5),fl g.lo,fl g.hi,S 2 1 (LF g.L)] hp=
  some ((ZO K g (r.map wd)).av K 2,hp):=by
 intro r
 induction r with
 |nil=>
  intro i F g hr hF hg
  have:=qJ hr
  have hlt:¬((i:Int)<(l.length:Int)):=qe
  rw[qmc]
  simp[hlt,qp,qo,ZO]
 |cons p r ih=>
  intro i F g hr hF hg
  obtain⟨e1,e2,hi,e3⟩:=qt hr
  have hpI:=hI p (znh e1)
  have hw:=(qxr hpI).1
  have ix:=zi8 k e1
  have it:=fun hp=>qyq p hpI hp
  have ad:=fun k hp=>qyu K k (wd p) hK hg qe hw hp
  have h:=ih (i+1) (F++[wd p]) (gmg K g (kR (wd p))) e2 (by simp[hF]) (hg.merge (qq2 hK hw) qi)
  have hwi:IntKind.i64.wrap ((i:Int)+1)=((i+1:Nat):Int):=qj
  rw[qmc]
  simp at h hwi
  simp[hi,ix,qp,qo,it,ad,hwi,h,ZO]
theorem qsn(c:Int)(k:Nat)(l:List (Int×Int))(hc:0<=c/\c<256)(hl:l.length<=900)(hI:∀p∈l,InI p)(hp:Hp):
 run cxX 36 [.sc (.int .u8 c),S k 2 (LP l)] hp=some ((ZO (1+c%16) gnew (l.map wd)).av (1+c%16) 2,hp):=by
 have m:∀x y,qx Tryz.prog .rem 5 x y (.int .u8 c) (.int .u8 16)=some (.int .u8 (c%16)):=by
  intro x y;rw[zq _ _ _ _ _ _ _ qe,zo hc.1]
 have w1:IntKind.i64.wrap (c%16)=c%16:=qm qe qe
 have w2:IntKind.i64.wrap (1+c%16)=1+c%16:=qm qe qe
 have cv:∀n:Int,Kh Tryz.prog 5 3 (.int .u8 n)=some (.int .i64 (IntKind.i64.wrap n)):=fun n=>qf
 have nw:=fun hp=>qyt (1+c%16) qe hp
 have lp:=fun z0 z1 z2 z3 z4 z5 z6 z7 z8 z9 z10=>qor (1+c%16) (rk k) l z0 z1 z2 z3 z4 z5 z6 z7 z8 z9 z10 qe hl hI hp l 0 [] gnew rfl rfl (zf6 _)
 simp at lp
 rw[E36]
 simp[m,cv,w1,w2,nw,qo,zaq]
 exact lp _ _ _ _ _ _ _ _ _ _ _
theorem GR.same{K:Int}{F H:List Nat}{g o:Gs}(hg:GR K F g)(ho:GR K H o)(h:F.Perm H):qlh K K g o:=by
 refine⟨rfl,?_,⟨?_,?_,?_,?_,?_,?_⟩,?_,?_,?_⟩
 ·rw[hg.M,ho.M,h.length_eq]
 ·rw[hg.e0,ho.e0,Qr 0 h]
 ·rw[hg.e1,ho.e1,Qr 1 h]
 ·rw[hg.e2,ho.e2,Qr 2 h]
 ·rw[hg.e3,ho.e3,Qr 3 h]
 ·rw[hg.e4,ho.e4,Qr 4 h]
 ·rw[hg.e5,ho.e5,Qr 5 h]
 ·rw[hg.klo,ho.klo,qtx h]
 ·rw[hg.khi,ho.khi,qol h]
 ·rw[hg.keys,ho.keys,qmv (h.map kw)]
theorem zg7{l:List (Int×Int)}(h:∀p∈l,InI p):Ws (l.map wd):=by
 intro w hw
 obtain⟨p,hp,rfl⟩:=zn3.mp hw
 exact(qxr (h p hp)).1
abbrev Cv(R C:Int)(x:AV):AV:=.agg [.sc (.int .i64 R),.sc (.int .i64 C),x]
def Yu(R C:Int)(l:List Int):Int:=if R<1\/8<R\/C<1\/256<C then 2 else if(l.length:Int)≠R*C then 6 else 0
theorem qkr{R C:Int}(hR:1<=R/\R<=8)(hC:1<=C/\C<=256):0<=R*C/\R*C<=2048:=by
 obtain⟨r,rfl⟩:∃r:Nat,R=r:=⟨R.toNat,qe⟩
 obtain⟨c,rfl⟩:∃c:Nat,C=c:=⟨C.toNat,qe⟩
 have h:r*c<=8*256:=znz qe qe
 have e:(r:Int)*(c:Int)=((r*c:Nat):Int):=qg
 rw[e];omega
theorem Wg(R C:Int)(l:List Int)(k:Nat)(hl:l.length<=1000000)(hp:Hp):run cxX 88 [Cv R C (S k 1 (LI .u32 l))] hp=some (.sc (.int .i64 (Yu R C l)),hp):=by
 rw[E88]
 unfold Yu
 have b2:B88_2 hp=some (.sc (.int .i64 2),hp):=by rw[qln];simp
 by_cases h1:R<1
 ·simp[ql,h1,b2]
 ·by_cases h2:8<R
  ·simp[ql,h1,h2,b2]
  ·by_cases h3:C<1
   ·simp[ql,h1,h2,h3,b2]
   ·by_cases h4:256<C
    ·simp[ql,h1,h2,h3,h4,b2]
    ·have m:=qkr (R:=R) (C:=C) qe qe
     have w:IntKind.i64.wrap (R*C)=R*C:=qm qe qe
     by_cases h5:(l.length:Int)=R*C
     ·simp[ql,qs,h1,h2,h3,h4,w,h5,XB]
     ·simp[ql,qs,h1,h2,h3,h4,w,h5,XB]
theorem qbk(R C:Int)(l:List Int)(b:Nat)(hl:l.length<=1000000)(hp:Hp):run cxX 88 [Cv R C (.ms b 0 0 l.length 1)] hp=some (.sc (.int .i64 (Yu R C l)),hp):=by
 rw[E88]
 unfold Yu
 have b2:B88_2 hp=some (.sc (.int .i64 2),hp):=by rw[qln];simp
 by_cases h1:R<1
 ·simp[ql,h1,b2]
 ·by_cases h2:8<R
  ·simp[ql,h1,h2,b2]
  ·by_cases h3:C<1
   ·simp[ql,h1,h2,h3,b2]
   ·by_cases h4:256<C
    ·simp[ql,h1,h2,h3,h4,b2]
    ·have m:=qkr (R:=R) (C:=C) qe qe
     have w:IntKind.i64.wrap (R*C)=R*C:=qm qe qe
     by_cases h5:(l.length:Int)=R*C
     ·simp[ql,qs,h1,h2,h3,h4,w,h5,XB]
     ·simp[ql,qs,h1,h2,h3,h4,w,h5,XB]
theorem qox(B B1 B' B1':AV)(a b:List Int)(k k':Nat)(hab:a.length=b.length)(hl:a.length<=1000000)(hp:Hp):∀(r s:List Int) (i:Nat),a.drop i=r->b.drop i=s->
 B135_4 (.int .i64 a.length) (.int .i64 i) [B,B1,S k 1 (LI .u32 a)] [B',B1',S k' 1 (LI .u32 b)] hp=some (.sc (.bool (decide (r=s))),hp):=by
 intro r
 induction r with
 |nil=>
  intro s i hr hs
  have h1:=qJ hr
  have h2:s=[]:=by rw[<-hs];exact zoc qe
  have hlt:¬((i:Int)<(a.length:Int)):=qe
  rw[qfc]
  simp[hlt,h2]
 |cons x r ih=>
  intro s i hr hs
  obtain⟨e1,e2,hi,e3⟩:=qt hr
  rw[qfc]
  have hw:IntKind.i64.wrap ((i:Int)+1)=((i+1:Nat):Int):=qj
  cases s with
  |nil=>have:=qJ hs;omega
  |cons y s=>
   obtain⟨f1,f2,hj,f3⟩:=qt hs
   have h:=ih s (i+1) e2 f2
   simp at h hw
   by_cases e:x=y
   ·simp[hi,hj,qs,ql,e3,f3,e,hw,h]
   ·simp[hi,hj,qs,ql,e3,f3,e]
theorem qsr(R C R' C':Int)(a b:List Int)(k k':Nat)(hp:Hp)(ha:a.length<=1000000):
 run cxX 135 [Cv R C (S k 1 (LI .u32 a)),Cv R' C' (S k' 1 (LI .u32 b))] hp=some (.sc (.bool (decide (R=R'/\C=C'/\a=b))),hp):=by
 rw[E135]
 have b2:B135_2 hp=some (.sc (.bool false),hp):=by rw[qw4]
 by_cases h1:R=R'
 ·by_cases h2:C=C'
  ·by_cases h3:a.length=b.length
   ·have h:=qox (.sc (.int .i64 R)) (.sc (.int .i64 C)) (.sc (.int .i64 R')) (.sc (.int .i64 C')) a b (rk k) (rk k') h3 ha hp a b 0 rfl rfl
    simp at h
    subst h1 h2
    rw[h3]at h
    simp[ql,qs,h3,qw3,h]
   ·have h4:¬(a=b):=fun e=>h3 (by rw[e])
    have h5:¬((a.length:Int)=(b.length:Int)):=qe
    simp[ql,qs,h1,h2,h4,h5,b2]
  ·simp[ql,h1,h2,b2]
 ·simp[ql,h1,b2]
theorem qit(R C:Int)(hR:1<=R/\R<=8)(hC:1<=C/\C<=256)(hp:Hp):run cxX 79 [.sc (.int .i64 R),.sc (.int .i64 C)] hp=
 some (.tup [Cv R C (.ms hp.next 0 0 (R*C).toNat 1),.sc (.bool true)],hp.new (LI .u32 (List.replicate (R*C).toNat 0))):=by
 rw[E79]
 have h1:¬(R<1):=qe
 have h2:¬(8<R):=qe
 have h3:¬(C<1):=qe
 have h4:¬(256<C):=qe
 have m:=qkr hR hC
 have w:IntKind.i64.wrap (R*C)=R*C:=qm qe qe
 have mk:yY 4 1 (R*C) (R*C)=some ():=Jm qe qe qh qh
 have z:=Jb .u32 (R*C).toNat
 rw[zos m.1]at z
 simp[h1,h2,h3,h4,zcr,w,mk,z,qp,qo]
theorem KJ(C h r:Int)(hC:1<=C/\C<=256)(hr:0<=r/\r<=8):∃v:Nat,(v:Int)<C/\∀(R x:AV) hp,run cxX 92 [.agg [R,.sc (.int .i64 C),x],.sc (.int .u64 h),.sc (.int .i64 r)] hp=some (.sc (.int .i64 (v:Int)),hp):=by
 obtain⟨z1,s1⟩:∃z:Int,∀t x y,qx Tryz.prog .shr t x y (.int .u64 h) (.int .u64 32)=some (.int .u64 z):=⟨_,fun t x y=>jL _ _ _ _ _ _ _ _ qe⟩
 have w1:IntKind.i64.wrap (2*r)=2*r:=qm qe qe
 have w2:IntKind.i64.wrap (2*r+1)=2*r+1:=qm qe qe
 have w3:IntKind.u64.wrap (2*r+1)=2*r+1:=qu qe qe
 obtain⟨z2,s2⟩:∃z:Int,∀t x y,qx Tryz.prog .mul t x y (.int .u64 z1) (.int .u64 (2*r+1))=some (.int .u64 z):=⟨_,fun t x y=>Xv _ _ _ _ _ _ _⟩
 obtain⟨z3,s3⟩:∃z:Int,∀t x y,qx Tryz.prog .and t x y (.int .u64 h) (.int .u64 4294967295)=some (.int .u64 z):=⟨_,fun t x y=>zm _ _ _ _ _ _ _⟩
 obtain⟨z4,s4⟩:∃z:Int,∀t x y,qx Tryz.prog .add t x y (.int .u64 z2) (.int .u64 z3)=some (.int .u64 z):=⟨_,fun t x y=>jM _ _ _ _ _ _ _⟩
 obtain⟨z5,s5⟩:∃z:Int,∀t x y,qx Tryz.prog .shr t x y (.int .u64 z4) (.int .u64 17)=some (.int .u64 z):=⟨_,fun t x y=>jL _ _ _ _ _ _ _ _ qe⟩
 obtain⟨z6,b6,s6⟩:∃z:Int,(0<=z/\z<18446744073709551616)/\∀t x y,qx Tryz.prog .xor t x y (.int .u64 z4) (.int .u64 z5)=some (.int .u64 z):=⟨_,by rw[IntKind.wrap_u64];omega,fun t x y=>xI _ _ _ _ _ _ _⟩
 have m1:max C 1=C:=qe
 have w4:IntKind.u64.wrap C=C:=qu qe qe
 have hm:0<=z6%C/\z6%C<C:=⟨Int.emod_nonneg _ qe,Int.emod_lt_of_pos _ qe⟩
 have s7:∀t x y,qx Tryz.prog .rem t x y (.int .u64 z6) (.int .u64 C)=some (.int .u64 (z6%C)):=by
  intro t x y;rw[zq _ _ _ _ _ _ _ qe,zo b6.1]
 have w5:IntKind.i64.wrap (z6%C)=z6%C:=qm qe qe
 refine⟨(z6%C).toNat,qe,fun R x hp=>?_⟩
 rw[zos hm.1,E92]
 generalize z6%C=z7 at*
 simp[ql,s1,w1,w2,w3,s2,s3,s4,s5,s6,m1,w4,s7,w5,-Xv,-zm,-jM,-xI]
 simp[w1,w2,w3,s2,s3,s4,s5,s6,w4,s7,w5,-zm,-xI]
noncomputable def Yt(C h r:Int):Nat:=if hh:(1<=C/\C<=256)/\0<=r/\r<=8 then(KJ C h r hh.1 hh.2).choose else 0
theorem zgq{C h r:Int}(hC:1<=C/\C<=256)(hr:0<=r/\r<=8):(Yt C h r:Int)<C/\∀(R x:AV) hp,run cxX 92 [.agg [R,.sc (.int .i64 C),x],.sc (.int .u64 h),.sc (.int .i64 r)] hp=some (.sc (.int .i64 (Yt C h r:Int)),hp):=by
 unfold Yt
 rw[dif_pos ⟨hC,hr⟩]
 exact(KJ C h r hC hr).choose_spec
def xf:List Int->List Int->List Int
 |[],_=>[]
 |x::a,[]=>x::a
 |x::a,y::b=>zB x y::xf a b
theorem Xr:∀a b,(xf a b).length=a.length
 |[],_=>by simp[xf]
 |x::a,[]=>by simp[xf]
 |x::a,y::b=>by simp[xf,Xr a b]
@[simp] theorem zj2 : ∀ a, xf a [] = a
 |[]=>rfl
 |_::_=>rfl
abbrev kL(l:List Int):Prop:=∀n∈l,0<=n/\n<4294967296
theorem qja{a b:Int}(ha:0<=a/\a<4294967296)(hb:0<=b/\b<4294967296):0<=zB a b/\zB a b<4294967296:=by
 unfold zB;split<;>omega
theorem qad:∀{a b:List Int},kL a->kL b->kL (xf a b)
 |[],_,_,_=>by simp[xf,kL]
 |x::a,[],ha,_=>by simpa[xf]using ha
 |x::a,y::b,ha,hb=>by
  have ih:=qad (a:=a) (b:=b) (fun n hn=>ha n (by simp[hn])) (fun n hn=>hb n (by simp[hn]))
  intro n hn
  rcases zm9.mp hn with rfl|hn
  ·exact qja (ha x qg) (hb y qg)
  ·exact ih n hn
theorem qks(R C:Int)(q0 q1 q2 p1 p2:AV)(o:List Int)(k' b:Nat)(ho:o.length<=1000000)(ho32:kL o):∀(r s d:List Int) (hp:Hp),o.drop d.length=s->hp.rd b 0=some (LI .u32 (d++r))->(d++r).length<=1000000->(d++r)≠[]->kL r->
 ∃hp',B46_3 (.int .i64 (min (d++r).length o.length:Nat)) (.int .i64 d.length) [p1,p2,S k' 1 (LI .u32 o)] [q0,q1,q2] [.sc (.int .i64 R),.sc (.int .i64 C),.ms b 0 0 (d++r).length 1] hp=some (Cv R C (S 0 1 (LI .u32 (d++xf r s))),hp'):=by
 intro r
 have fin:∀(d:List Int) (hp:Hp),hp.rd b 0=some (LI .u32 d)->∀v w:Int,¬(v<w)->B46_3 (.int .i64 w) (.int .i64 v) [p1,p2,S k' 1 (LI .u32 o)] [q0,q1,q2] [.sc (.int .i64 R),.sc (.int .i64 C),.ms b 0 0 d.length 1] hp=some (Cv R C (S 0 1 (LI .u32 d)),hp.del b):=by
  intro d hp hb v w hvw
  have f:=vS .u32 d hp b hb
  rw[qa2]
  simp[hvw,qp,qo,f]
 induction r with
 |nil=>
  intro s d hp hs hb hl hne hr
  rw[zns]at hb hl hne⊢
  exact⟨_,by simpa[xf]using fin d hp hb _ _ qe⟩
 |cons x r ih=>
  intro s d hp hs hb hl hne hr
  cases s with
  |nil=>
   have:=qJ hs
   exact⟨_,by simpa using fin (d++x::r) hp hb _ _ qi⟩
  |cons y s=>
   obtain⟨f1,f2,hj,f3⟩:=qt hs
   have hx:=hr x qg
   have hy:=ho32 y (znh f1)
   have pl:=fun hp=>yu x y hx hy hp
   have hlt:(d.length:Int)<((min (d++x::r).length o.length:Nat):Int):=qi
   have hw:IntKind.i64.wrap ((d.length:Int)+((1:Nat):Int))=((d.length+1:Nat):Int):=qj
   have hdl:d.length<(d++x::r).length:=qg
   have ix:=zj .i64 hdl
   have pt:=yL .u32 (d++x::r) d.length (zB x y) hdl
   have es:(d++x::r).set d.length (zB x y)=(d++[zB x y])++r:=qg
   rw[es]at pt
   obtain⟨hp',h⟩:=ih s (d++[zB x y]) (hp.put b 0 (LI .u32 ((d++[zB x y])++r))) (by simpa using f2) (qr _ _ _) (by simp at hl⊢;omega) qg (fun n hn=>hr n (by simp[hn]))
   refine⟨hp',?_⟩
   have hlen:((d++[zB x y])++r).length=(d++x::r).length:=qg
   rw[hlen]at h
   have hd1:(d++[zB x y]).length=d.length+1:=qg
   rw[hd1]at h
   have gs':(d++x::r)[d.length]?=some x:=qg
   have fin2:d++[zB x y]++xf r s=d++xf (x::r) (y::s):=by simp[xf]
   rw[fin2]at h
   have oa:yZ [AV.sc (.int .u32 x),AV.sc (.int .u32 y)] []=some ():=by rw[qc2];exact if_pos ⟨qg,qg⟩
   rw[qa2]
   generalize(d++x::r).length=n at hlt ix h⊢
   simp only[JL,vZ,hlt,decide_true,jm,zm7,cond_true,qs,ql,zoz,zpa,qnh,xz,ix,vf,Zc,hb,zqb,znf,gs',zo9,xJ,zhe,ZM,Vg?,zqh,if_true,znc,f1,oa,zoa,zpu,zhd,pl,qjm,pt,xG,jM,zou,hw]
   exact h
theorem qnd(R C:Int)(P' P1':AV)(a b:List Int)(k k':Nat)(hp:Hp)(ha:a.length<=1000000)(hb:b.length<=1000000)(ha32:kL a)(hb32:kL b):
 ∃t hp',run cxX 46 [Cv R C (S k 1 (LI .u32 a)),.agg [P',P1',S k' 1 (LI .u32 b)]] hp=some (Cv R C (S t 1 (LI .u32 (xf a b))),hp'):=by
 rw[E46]
 by_cases hne:a=[]
 ·subst hne
  have n1:=fun k hp=>ZW 4 k hp
  have m0:min (0:Int) (b.length:Int)=0:=qe
  refine⟨0,hp,?_⟩
  have e3:∀p1 p2 q0 q1 q2 q:AV,B46_3 (.int .i64 0) (.int .i64 0) [p1,p2,q] [q0,q1,q2] [.sc (.int .i64 R),.sc (.int .i64 C),S 0 1 []] hp=some (Cv R C (S 0 1 []),hp):=by
   intro p1 p2 q0 q1 q2 q
   rw[qa2]
   simp[qp,qo]
  simp[ql,qs,n1,qo,m0,xf,e3]
 ·have n1:=fun k hp=>xg .u32 a k 4 qh ha hne hp
  obtain⟨hp',h⟩:=qks R C (.sc (.int .i64 0)) (.sc (.int .i64 0)) (S 2 1 []) (ro1 P') (ro1 P1') b (rk k') hp.next hb hb32 a b [] (hp.new (LI .u32 a)) rfl (qQ _ _) (by simpa using ha) (by simpa using hne) ha32
  refine⟨0,hp',?_⟩
  simp at h
  have hm:((min a.length b.length:Nat):Int)=min (a.length:Int) (b.length:Int):=qe
  rw[hm]at h
  simp[ql,qs,n1,qo,h]
noncomputable def KY(C h n:Int)(l:List Int)(r:Nat):List Int:=l.set (r*C.toNat+Yt C h r) (zB (l.getD (r*C.toNat+Yt C h r) 0) n)
noncomputable def Xt(C h n:Int)(l:List Int)(rs:List Nat):List Int:=rs.foldl (KY C h n) l
noncomputable def Zq(R C h n:Int)(l:List Int):List Int:=if Yu R C l=0 then Xt C h n l (List.range' 0 R.toNat)else l
theorem qdr(C h n:Int)(l:List Int)(r:Nat):(KY C h n l r).length=l.length:=by simp[KY]
theorem qdp(C h n:Int):∀(rs:List Nat) (l:List Int),(Xt C h n l rs).length=l.length
 |[],_=>rfl
 |r::rs,l=>by
  show(Xt C h n (KY C h n l r) rs).length=_
  rw[qdp C h n rs,qdr]
theorem qak(R C h n:Int)(l:List Int):(Zq R C h n l).length=l.length:=by
 unfold Zq;split
 ·exact qdp _ _ _ _ _
 ·rfl
theorem qkd{l:List Int}(h:kL l)(i:Nat):0<=l.getD i 0/\l.getD i 0<4294967296:=by
 by_cases hi:i<l.length
 ·have:=h l[i] (znm hi)
  simpa[hi]using this
 ·simp[hi]
theorem qdq{C h n:Int}{l:List Int}{r:Nat}(hl:kL l)(hn:0<=n/\n<4294967296):kL (KY C h n l r):=by
 intro x hx
 rcases zpz hx with hx|rfl
 ·exact hl x hx
 ·exact qja (qkd hl _) hn
theorem qdo{C h n:Int}(hn:0<=n/\n<4294967296):∀(rs:List Nat) {l:List Int},kL l->kL (Xt C h n l rs)
 |[],_,hl=>hl
 |r::rs,l,hl=>qdo hn rs (qdq hl hn)
theorem qaj{R C h n:Int}{l:List Int}(hn:0<=n/\n<4294967296)(hl:kL l):kL (Zq R C h n l):=by
 unfold Zq;split
 ·exact qdo hn _ hl
 ·exact hl
theorem qkt(R C:Int)(q0 q1 q2:AV)(b:Nat)(d:List Int)(hp:Hp)(hb:hp.rd b 0=some (LI .u32 d)):
 B42_9 [q0,q1,q2] [.sc (.int .i64 R),.sc (.int .i64 C),.ms b 0 0 d.length 1] hp=some (Cv R C (S 0 1 (LI .u32 d)),hp.del b):=by
 have f:=vS .u32 d hp b hb
 rw[ql8]
 simp[qp,qo,f]
theorem qdn(R C h n:Int)(q0 q1 q2:AV)(x:AV)(b:Nat)(hR:1<=R/\R<=8)(hC:1<=C/\C<=256)(hn:0<=n/\n<4294967296):∀(m i:Nat) (l:List Int) (hp:Hp),R=(i+m:Nat)->(l.length:Int)=R*C->kL l->hp.rd b 0=some (LI .u32 l)->
 ∃hp',B42_4 (.int .u64 h) (.int .u32 n) (.int .i64 R) (.int .i64 i) [.sc (.int .i64 R),.sc (.int .i64 C),x] [q0,q1,q2] [.sc (.int .i64 R),.sc (.int .i64 C),.ms b 0 0 l.length 1] hp=some (Cv R C (S 0 1 (LI .u32 (Xt C h n l (List.range' i m)))),hp'):=by
 intro m
 induction m with
 |zero=>
  intro i l hp hi hlen hl hb
  have hlt:¬((i:Int)<R):=qe
  refine⟨hp.del b,?_⟩
  rw[ql9]
  simp only[JL,vZ,hlt,decide_false,jm,zm7,cond_false]
  exact qkt R C q0 q1 q2 b l hp hb
 |succ m ih=>
  intro i l hp hi hlen hl hb
  have hlt:(i:Int)<R:=qe
  obtain⟨c,rfl⟩:∃c:Nat,C=c:=⟨C.toNat,qe⟩
  obtain⟨pb,pc⟩:=zgq (h:=h) (r:=(i:Int)) hC qe
  have hRc:(R*(c:Int))=(((i+(m+1))*c:Nat):Int):=by rw[hi];simp
  have hj:i*c+Yt c h i<l.length:=by
   have e1:(i+(m+1))*c=i*c+c+m*c:=by rw[zpv,zpv];omega
   have e2:l.length=(i+(m+1))*c:=qe
   have e3:Yt c h i<c:=qe
   omega
  have hl2:l.length<=2048:=by have:=qkr hR hC;omega
  have w1:IntKind.i64.wrap ((i:Int)*(c:Int))=((i*c:Nat):Int):=by
   have e:(i:Int)*(c:Int)=((i*c:Nat):Int):=qg
   rw[e,qm qe qe]
  have w2:IntKind.i64.wrap (((i*c:Nat):Int)+(Yt c h i:Int))=((i*c+Yt c h i:Nat):Int):=by rw[qm qe qe];omega
  have w3:IntKind.i64.wrap ((i:Int)+((1:Nat):Int))=((i+1:Nat):Int):=qj
  have ed:KY c h n l i=l.set (i*c+Yt c h i) (zB (l.getD (i*c+Yt c h i) 0) n):=by unfold KY;rw[znc]
  have ef:Xt c h n l (List.range' i (m+1))=Xt c h n (KY c h n l i) (List.range' (i+1) m):=by rw[List.range'_succ];rfl
  have gs':l[i*c+Yt c h i]?=some (l.getD (i*c+Yt c h i) 0):=by simp[hj]
  have hgd:=qkd hl (i*c+Yt c h i)
  have hu:=qdq (C:=c) (h:=h) (n:=n) (r:=i) hl hn
  have hcl:=qdr c h n l i
  rw[ed]at hu hcl ef
  rw[ef]
  generalize i*c+Yt c h i=j at*
  generalize l.getD j 0=g at*
  have pl:=fun hp=>yu g n hgd hn hp
  have ix:=zj .i64 hj
  have pt:=yL .u32 l j (zB g n) hj
  obtain⟨hp',hh⟩:=ih (i+1) (l.set j (zB g n)) (hp.put b 0 (LI .u32 (l.set j (zB g n)))) qe (by rw[hcl];exact hlen) hu (qr _ _ _)
  refine⟨hp',?_⟩
  rw[hcl]at hh
  have oa:∀v w,yZ [AV.sc v,AV.sc w] []=some ():=fun v w=>by rw[qc2];exact if_pos ⟨qg,qg⟩
  have gn:qp [AV.sc (.int .i64 R),AV.sc (.int .i64 (c:Int)),x] 0 3=some [AV.sc (.int .i64 R),AV.sc (.int .i64 (c:Int)),x]:=rfl
  rw[ql9]
  simp only[JL,vZ,hlt,decide_true,jm,zm7,cond_true,ql,zoz,zpa,xJ,Xv,w1,gn,zoa,zpu,ziq,zip,zhd,pc,qjm,jM,w2,qs,qnh,xz,ix,vf,Zc,xG,hb,zqb,znf,Vg?,gs',zo9,oa,pl,pt,zou,w3]
  exact hh
theorem qy6(R C h n:Int)(l:List Int)(k:Nat)(hn:0<=n/\n<4294967296)(hl:l.length<=1000000)(h32:kL l)(hp:Hp):
 ∃t hp',run cxX 42 [Cv R C (S k 1 (LI .u32 l)),.sc (.int .u64 h),.sc (.int .u32 n)] hp=some (Cv R C (S t 1 (LI .u32 (Zq R C h n l))),hp'):=by
 rw[E42]
 have ck:=fun hp=>Wg R C l (rk k) hl hp
 by_cases hc:Yu R C l=0
 ·have hc':=hc
  unfold Yu at hc'
  split at hc'
  ·cases hc'
  ·split at hc'
   ·cases hc'
   ·rename_i h1 h2
    have hlen:(l.length:Int)=R*C:=qe
    have hne:l≠[]:=by
     intro e
     subst e
     obtain⟨r,rfl⟩:∃r:Nat,R=r:=⟨R.toNat,qe⟩
     obtain⟨c,rfl⟩:∃c:Nat,C=c:=⟨C.toNat,qe⟩
     have e:(r:Int)*(c:Int)=((r*c:Nat):Int):=qg
     rw[e]at hlen
     have:0<r*c:=zrn qe qe
     simp at hlen
     omega
    have n1:=fun k hp=>xg .u32 l k 4 qh hl hne hp
    obtain⟨hp',hh⟩:=qdn R C h n (.sc (.int .i64 0)) (.sc (.int .i64 0)) (S 2 1 []) (S (rk k) 1 (LI .u32 l)) hp.next qe qe hn R.toNat 0 l (hp.new (LI .u32 l)) qe hlen h32 (qQ _ _)
    refine⟨0,hp',?_⟩
    have e:Zq R C h n l=Xt C h n l (List.range' 0 R.toNat):=by unfold Zq;rw[if_pos hc]
    simp at hh
    simp[ql,qs,qp,n1,qo,ck,hc,e,hh]
 ·have e:Zq R C h n l=l:=by unfold Zq;rw[if_neg hc]
  by_cases hne:l=[]
  ·subst hne
   have n1:=fun k hp=>ZW 4 k hp
   refine⟨0,hp,?_⟩
   have e9:∀(q0 q1 q2:AV),B42_9 [q0,q1,q2] [.sc (.int .i64 R),.sc (.int .i64 C),S 0 1 []] hp=some (Cv R C (S 0 1 []),hp):=by
    intro q0 q1 q2
    rw[ql8]
    simp[qp,qo]
   simp at ck
   simp[ql,qs,qp,n1,qo,ck,hc,e,e9]
  ·have n1:=fun k hp=>xg .u32 l k 4 qh hl hne hp
   have f:=qkt R C (.sc (.int .i64 0)) (.sc (.int .i64 0)) (S 2 1 []) hp.next l (hp.new (LI .u32 l)) (qQ _ _)
   refine⟨0,(hp.new (LI .u32 l)).del hp.next,?_⟩
   simp[ql,qs,qp,n1,qo,ck,hc,e,f]
theorem qiu(R C h n:Int)(l:List Int)(b:Nat)(hn:0<=n/\n<4294967296)(hl:l.length<=1000000)(h32:kL l)(hc:Yu R C l=0)(hp:Hp)(hb:hp.rd b 0=some (LI .u32 l)):
 ∃t hp',run cxX 42 [Cv R C (.ms b 0 0 l.length 1),.sc (.int .u64 h),.sc (.int .u32 n)] hp=some (Cv R C (S t 1 (LI .u32 (Zq R C h n l))),hp'):=by
 rw[E42]
 have ck:=fun hp=>qbk R C l b hl hp
 have hc':=hc
 unfold Yu at hc'
 split at hc'
 ·cases hc'
 ·split at hc'
  ·cases hc'
  ·rename_i h1 h2
   have hlen:(l.length:Int)=R*C:=qe
   have hne:l≠[]:=by
    intro e
    subst e
    obtain⟨r,rfl⟩:∃r:Nat,R=r:=⟨R.toNat,qe⟩
    obtain⟨c,rfl⟩:∃c:Nat,C=c:=⟨C.toNat,qe⟩
    have e:(r:Int)*(c:Int)=((r*c:Nat):Int):=qg
    rw[e]at hlen
    have:0<r*c:=zrn qe qe
    simp at hlen
    omega
   have n1:=Vc .u32 l (.ms b 0 0 l.length 1) 4 qh hl hne hp (qhz .u32 l hp b hb)
   obtain⟨hp',hh⟩:=qdn R C h n (.sc (.int .i64 0)) (.sc (.int .i64 0)) (S 2 1 []) (.ms b 0 0 l.length 1) hp.next qe qe hn R.toNat 0 l (hp.new (LI .u32 l)) qe hlen h32 (qQ _ _)
   refine⟨0,hp',?_⟩
   have e:Zq R C h n l=Xt C h n l (List.range' 0 R.toNat):=by unfold Zq;rw[if_pos hc]
   simp at hh
   simp[ql,qs,qp,n1,qo,ck,hc,e,hh]
noncomputable def xH(R C:Int)(a:List Int)(l:List (Int×Int)):List Int:=l.foldl (fun a p=>Zq R C p.1 p.2 a) a
theorem qdl(R C:Int):∀(l:List (Int×Int)) (a:List Int),(xH R C a l).length=a.length
 |[],_=>rfl
 |p::l,a=>by
  show(xH R C (Zq R C p.1 p.2 a) l).length=_
  rw[qdl R C l,qak]
theorem qdk(R C:Int):∀{l:List (Int×Int)} {a:List Int},kL a->(∀p∈l,0<=p.2/\p.2<4294967296)->kL (xH R C a l)
 |[],_,h,_=>h
 |p::l,a,h,hl=>qdk R C (l:=l) (qaj (hl p qg) h) (fun q hq=>hl q (by simp[hq]))
theorem zb1(R C:Int)(q0 q1 q2:AV)(l:List (Int×Int))(k:Nat)(hl:l.length<=1000000)(h32:∀p∈l,0<=p.2/\p.2<4294967296):∀(r:List (Int×Int)) (i t:Nat) (a:List Int) (hp:Hp),l.drop i=r->a.length<=1000000->kL a->
 ∃t' hp',B35_3 (S k 2 (LQ .u64 .u32 l)) (.int .i64 l.length) (.int .i64 i) [q0,q1,q2] [.sc (.int .i64 R),.sc (.int .i64 C),S t 1 (LI .u32 a)] hp=some (Cv R C (S t' 1 (LI .u32 (xH R C a r))),hp'):=by
 intro r
 induction r with
 |nil=>
  intro i t a hp hr ha hu
  have:=qJ hr
  have hlt:¬((i:Int)<(l.length:Int)):=qe
  refine⟨rk t,hp,?_⟩
  rw[XF]
  simp[hlt,qp,qo,xH]
 |cons x r ih=>
  intro i t a hp hr ha hu
  obtain⟨e1,e2,hi,e3⟩:=qt hr
  have hx:=h32 x (znh e1)
  have hw:IntKind.i64.wrap ((i:Int)+1)=((i+1:Nat):Int):=qj
  obtain⟨t1,hp1,ha1⟩:=qy6 R C x.1 x.2 a (rk t) hx ha hu hp
  obtain⟨t',hp',h⟩:=ih (i+1) t1 (Zq R C x.1 x.2 a) hp1 e2 (by rw[qak];exact ha) (qaj hx hu)
  refine⟨t',hp',?_⟩
  have ix:=za0 .u64 .u32 k e1
  rw[XF]
  simp at h hw
  have ef:xH R C a (x::r)=xH R C (Zq R C x.1 x.2 a) r:=rfl
  simp[hi,ix,ql,qp,qo,ha1,hw,h,ef]
theorem zei(a b:Int)(l:List (Int×Int))(k:Nat)(ha:0<=a/\a<256)(hb:0<=b/\b<256)(hl:l.length<=1000000)(h32:∀p∈l,0<=p.2/\p.2<4294967296)(hp:Hp):
 ∃t hp',run cxX 35 [.sc (.int .u8 a),.sc (.int .u8 b),S k 2 (LQ .u64 .u32 l)] hp=some (Cv (1+a%8) (1+b%40) (S t 1 (LI .u32 (xH (1+a%8) (1+b%40) (List.replicate ((1+a%8)*(1+b%40)).toNat 0) l))),hp'):=by
 have h1:∀t x y,qx Tryz.prog .rem t x y (.int .u8 a) (.int .u8 8)=some (.int .u8 (a%8)):=by
  intro t x y;rw[zq _ _ _ _ _ _ _ qe,zo ha.1]
 have h2:∀t x y,qx Tryz.prog .rem t x y (.int .u8 b) (.int .u8 40)=some (.int .u8 (b%40)):=by
  intro t x y;rw[zq _ _ _ _ _ _ _ qe,zo hb.1]
 have w1:IntKind.i64.wrap (a%8)=a%8:=qm qe qe
 have w2:IntKind.i64.wrap (1+a%8)=1+a%8:=qm qe qe
 have w3:IntKind.i64.wrap (b%40)=b%40:=qm qe qe
 have w4:IntKind.i64.wrap (1+b%40)=1+b%40:=qm qe qe
 have nw:=fun hp=>qit (1+a%8) (1+b%40) qe qe hp
 have m:=qkr (R:=1+a%8) (C:=1+b%40) qe qe
 obtain⟨R,hR⟩:∃R,R=1+a%8:=⟨_,rfl⟩
 obtain⟨C,hC⟩:∃C,C=1+b%40:=⟨_,rfl⟩
 rw[<-hR]at nw m w2⊢
 rw[<-hC]at nw m w4⊢
 obtain⟨z,hz⟩:∃z,z=List.replicate (R*C).toNat (0:Int):=⟨_,rfl⟩
 have zl:z.length=(R*C).toNat:=by rw[hz];simp
 have zu:kL z:=fun n hn=>by rw[hz]at hn;have:=zo6 hn;omega
 have zc:Yu R C z=0:=by unfold Yu;rw[if_neg qe,if_neg (by rw[zl];omega)]
 rw[<-hz]at nw⊢
 rw[<-zl]at nw
 have ln:=zi5 .u64 .u32
 have key:∃t hp',B35_3 (S (rk k) 2 (LQ .u64 .u32 l)) (.int .i64 l.length) (.int .i64 (0:Nat)) [.sc (.int .i64 0),.sc (.int .i64 0),S 2 1 []] [.sc (.int .i64 R),.sc (.int .i64 C),.ms hp.next 0 0 z.length 1] (hp.new (LI .u32 z))=some (Cv R C (S t 1 (LI .u32 (xH R C z l))),hp'):=by
  cases l with
  |nil=>
   have f:=vS .u32 z (hp.new (LI .u32 z)) hp.next (qQ _ _)
   refine⟨0,(hp.new (LI .u32 z)).del hp.next,?_⟩
   rw[XF]
   simp[qo,qp,f,xH]
  |cons x r=>
   have hx:=h32 x qg
   have ix:=za0 (l:=x::r) (i:=0) (p:=x) .u64 .u32 (rk k) rfl
   obtain⟨t1,hp1,ha1⟩:=qiu R C x.1 x.2 z hp.next hx (by rw[zl];omega) zu zc (hp.new (LI .u32 z)) (qQ _ _)
   obtain⟨t,hp2,h⟩:=zb1 R C (.sc (.int .i64 0)) (.sc (.int .i64 0)) (S 2 1 []) (x::r) (rk k) hl h32 r 1 t1 (Zq R C x.1 x.2 z) hp1 rfl (by rw[qak,zl];omega) (qaj hx zu)
   refine⟨t,hp2,?_⟩
   have hw:IntKind.i64.wrap (((0:Nat):Int)+1)=((1:Nat):Int):=rfl
   have hlt:((0:Nat):Int)<((x::r).length:Int):=qg
   have ef:xH R C z (x::r)=xH R C (Zq R C x.1 x.2 z) r:=rfl
   have gn:qp [AV.sc (.int .i64 R),AV.sc (.int .i64 C),.ms hp.next 0 0 z.length 1] 0 3=some [AV.sc (.int .i64 R),AV.sc (.int .i64 C),.ms hp.next 0 0 z.length 1]:=rfl
   generalize(x::r).length=n at*
   generalize LQ .u64 .u32 (x::r)=q at*
   have hn:0<n:=by simpa using hlt
   rw[XF]
   simp at ix h
   simp[hn,ix,ql,qp,qo,ha1,ef,h]
 obtain⟨t,hp',h⟩:=key
 refine⟨t,hp',?_⟩
 rw[E35]
 simp at h
 simp[h1,h2,w1,w2,w3,w4,<-hR,<-hC,nw,qo,ln,h]
structure GN where
 M:Int
 e0:Int
 e1:Int
 e2:Int
 e3:Int
 e4:Int
 e5:Int
 lo:Nat
 hi:Nat
 L:List Nat
deriving DecidableEq
def Gs.nf(g:Gs):GN:=⟨g.M,g.e0,g.e1,g.e2,g.e3,g.e4,g.e5,kw g.lo,kw g.hi,g.L.map kw⟩
structure Gs.W (g : Gs) : Prop where
 M:zx g.M
 e0:zx g.e0
 e1:zx g.e1
 e2:zx g.e2
 e3:zx g.e3
 e4:zx g.e4
 e5:zx g.e5
 lo:g.lo<18446744073709551616
 hi:g.hi<18446744073709551616
 L:Ws g.L
 len:g.L.length<=100000
theorem qj9(K K':Int)(g o:Gs):qlh K K' g o↔K=K'/\g.nf=o.nf:=by
 unfold qlh Gs.nf
 simp only[GN.mk.injEq]
 constructor
 ·rintro⟨h1,h2,⟨h3,h4,h5,h6,h7,h8⟩,h9,h10,h11⟩
  exact⟨h1,h2,h3,h4,h5,h6,h7,h8,h9,h10,h11⟩
 ·rintro⟨h1,h2,h3,h4,h5,h6,h7,h8,h9,h10,h11⟩
  exact⟨h1,h2,⟨h3,h4,h5,h6,h7,h8⟩,h9,h10,h11⟩
theorem qna(K K':Int)(g o:Gs)(k k':Nat)(hg:g.W)(ho:o.W)(hp:Hp):run cxX 136 [g.av K k,o.av K' k'] hp=some (.sc (.bool (decide (K=K'/\g.nf=o.nf))),hp):=by
 by_cases h:qlh K K' g o
 ·rw[qsm K K' g o k k' h ⟨hg.lo,ho.lo⟩ ⟨hg.hi,ho.hi⟩ ⟨hg.L,ho.L⟩ (by have:=hg.len;omega) hp,decide_eq_true ((qj9 K K' g o).mp h)]
 ·have hd:decide (K=K'/\g.nf=o.nf)=false:=decide_eq_false (fun h'=>h ((qj9 K K' g o).mpr h'))
  rw[hd,E136]
  have b2:B136_2 hp=some (.sc (.bool false),hp):=qw2 hp
  have r1:=fun hp=>Qh g.lo o.lo hg.lo ho.lo hp
  have r2:=fun hp=>Qh g.hi o.hi hg.hi ho.hi hp
  have a:=fun x y=>zhk x y g.e0 g.e1 g.e2 g.e3 g.e4 g.e5 o.e0 o.e1 o.e2 o.e3 o.e4 o.e5
  by_cases q1:K=K'
  ·by_cases q2:g.M=o.M
   ·by_cases q3:(g.e0=o.e0/\g.e1=o.e1/\g.e2=o.e2/\g.e3=o.e3/\g.e4=o.e4/\g.e5=o.e5)
    ·simp only[eq_true q3,decide_true,Bool.not_true]at a
     by_cases q4:kw g.lo=kw o.lo
     ·by_cases q5:kw g.hi=kw o.hi
      ·by_cases q6:g.L.length=o.L.length
       ·have l:=WM (.sc (.int .i64 K)) (.sc (.int .u32 g.M)) (.sc (.int .u32 g.e0)) (.sc (.int .u32 g.e1)) (.sc (.int .u32 g.e2)) (.sc (.int .u32 g.e3)) (.sc (.int .u32 g.e4)) (.sc (.int .u32 g.e5)) (fl g.lo) (fl g.hi)
         (.sc (.int .i64 K')) (.sc (.int .u32 o.M)) (.sc (.int .u32 o.e0)) (.sc (.int .u32 o.e1)) (.sc (.int .u32 o.e2)) (.sc (.int .u32 o.e3)) (.sc (.int .u32 o.e4)) (.sc (.int .u32 o.e5)) (fl o.lo) (fl o.hi) g.L o.L (rk k) (rk k') q6 (by have:=hg.len;omega) hg.L ho.L hp g.L o.L 0 rfl rfl
        have q7:¬(g.L.map kw=o.L.map kw):=fun e=>h ⟨q1,q2,q3,q4,q5,e⟩
        simp only[eq_false q7,decide_false]at l
        subst q1
        simp at l
        rw[q6,q2]at l
        simp[ql,qs,qp,xP,wQ,q2,a,r1,r2,q4,q5,q6,qfb]
        exact l
       ·have q6':¬((g.L.length:Int)=(o.L.length:Int)):=qe
        simp[ql,qs,qp,xP,wQ,q1,q2,a,r1,r2,q4,q5,q6',b2]
      ·simp[ql,qs,qp,xP,wQ,q1,q2,a,r1,r2,q4,q5,b2]
     ·simp[ql,qs,qp,xP,wQ,q1,q2,a,r1,q4,b2]
    ·simp only[eq_false q3,decide_false,Bool.not_false]at a
     simp[ql,qs,qp,xP,wQ,q1,q2,a,b2]
   ·simp[ql,q1,q2,b2]
  ·simp[ql,q1,b2]
def JG:List Nat->Int
 |[]=>0
 |[_]=>0
 |x::y::r=>if y<x then 8 else JG (y::r)
def nanK:Nat:=18444492273895866369
def qq7(g:GN):Int:=if g.lo=nanK\/g.hi=nanK then 4 else 0
def Yo(K:Int)(g:GN):Int:=if K<1\/16<K\/K<(g.L.length:Int)then 2 else if JG g.L=0 then qq7 g else 8
theorem qpx:∀{l:List Nat},Up l->JG l=0
 |[],_=>rfl
 |[_],_=>rfl
 |x::y::r,h=>by
  have h':=znd.mp h
  have hxy:=h'.1 y qg
  show(if y<x then(8:Int)else JG (y::r))=0
  rw[if_neg qe]
  exact qpx h'.2
theorem qqe:∀{l:List Nat},JG l=0->Up l
 |[],_=>List.Pairwise.nil
 |[_],_=>by simp
 |x::y::r,h=>by
  have h:(if y<x then(8:Int)else JG (y::r))=0:=h
  split at h
  ·cases h
  ·rename_i hxy
   have ih:=qqe h
   have ih':=znd.mp ih
   refine znd.mpr ⟨fun n hn=>?_,ih⟩
   rcases zm9.mp hn with rfl|hn
   ·omega
   ·have:=ih'.1 n hn;omega
theorem qg5{w:Nat}(h:w<18446744073709551616):yU w↔kw w=nanK:=by
 constructor
 ·intro hn;exact zi6 hn
 ·intro he
  by_cases hn:yU w
  ·exact hn
  ·have:=qt3 h hn
   rw[he]at this
   exact absurd this qh
theorem qke(K:Int)(g:Gs)(k:Nat)(hg:g.W)(hp:Hp):∀(r:List Nat) (p:Option Nat) (i:Nat),g.L.drop i=r->(p=none↔i=0)->(∀q,p=some q->g.L[i-1]?=some q)->
 B89_4 (S k 1 (LF g.L)) (.int .i64 g.L.length) (.int .i64 i) [.sc (.int .i64 K),.sc (.int .u32 g.M),.sc (.int .u32 g.e0),.sc (.int .u32 g.e1),.sc (.int .u32 g.e2),.sc (.int .u32 g.e3),.sc (.int .u32 g.e4),.sc (.int .u32 g.e5),fl g.lo,fl g.hi,S k 1 (LF g.L)] hp=
  some (.sc (.int .i64 (if JG (p.toList.map kw++r.map kw)=0 then qq7 g.nf else 8)),hp):=by
 intro r
 induction r with
 |nil=>
  intro p i hr hp0 hps
  have:=qJ hr
  have hlt:¬((i:Int)<(g.L.length:Int)):=qe
  have ho:JG (p.toList.map kw++([]:List Nat).map kw)=0:=by cases p<;>rfl
  have n1:=qg5 hg.lo
  have n2:=qg5 hg.hi
  rw[if_pos ho,qlm]
  unfold qq7 Gs.nf
  by_cases h1:yU g.lo
  ·have h1':=n1.mp h1
   simp[hlt,ql,jA,h1,h1',qdw]
  ·have h1':¬(kw g.lo=nanK):=fun e=>h1 (n1.mpr e)
   by_cases h2:yU g.hi
   ·have h2':=n2.mp h2
    simp[hlt,ql,jA,h1,h2,h2',qdw]
   ·have h2':¬(kw g.hi=nanK):=fun e=>h2 (n2.mpr e)
    simp[hlt,ql,jA,h1,h2,h1',h2',qva]
 |cons x r ih=>
  intro p i hr hp0 hps
  obtain⟨e1,e2,hi,e3⟩:=qt hr
  have hx:=hg.L x (znh e1)
  have hln:=hg.len
  have hw:IntKind.i64.wrap ((i:Int)+1)=((i+1:Nat):Int):=qj
  have h:=ih (some x) (i+1) e2 qg (fun q hq=>by simp at hq;subst hq;simpa using e1)
  have g1:(LF g.L)[i]?=some (fl x):=by simp[LF,e1]
  rw[qlm]
  cases p with
  |none=>
   obtain rfl:i=0:=hp0.mp rfl
   simp at g1 h hw
   simp[hi,ql,g1,hw,h,qll]
  |some q=>
   have hi0:i≠0:=fun e=>by have:=hp0.mpr e;cases this
   have hq:=hps q rfl
   have hq64:=hg.L q (znh hq)
   have hpos:0<i:=qe
   simp at h hw
   have w1:IntKind.i64.wrap ((i:Int)-1)=((i-1:Nat):Int):=qj
   have g2:(LF g.L)[i-1]?=some (fl q):=by simp[LF,hq]
   have ls:=fun hp=>YK x q hx hq64 hp
   by_cases hl:kw x<kw q
   ·simp[hi,e3,ql,qs,g1,hpos,w1,g2,ls,hl,zcl,JG]
   ·simp[hi,e3,ql,qs,g1,hpos,w1,g2,ls,hl,hw,h,qll,JG]
theorem qnb(K:Int)(g:Gs)(k:Nat)(hg:g.W)(hp:Hp):run cxX 89 [g.av K k] hp=some (.sc (.int .i64 (Yo K g.nf)),hp):=by
 rw[E89]
 have b2:B89_2 hp=some (.sc (.int .i64 2),hp):=by rw[zcn];simp
 have hl:g.nf.L.length=g.L.length:=by simp[Gs.nf]
 unfold Yo
 rw[hl]
 by_cases h1:K<1
 ·simp[ql,h1,b2]
 ·by_cases h2:16<K
  ·simp[ql,h1,h2,b2]
  ·by_cases h3:K<(g.L.length:Int)
   ·simp[ql,qs,h1,h2,h3,b2]
   ·have l:=qke K g (rk k) hg hp g.L none 0 rfl qg qg
    have e:g.nf.L=g.L.map kw:=rfl
    simp at l
    simp[ql,qs,h1,h2,h3,zcm,l,e]
def kZ(K:Int)(g o:GN):GN:=⟨zB g.M o.M,zB g.e0 o.e0,zB g.e1 o.e1,zB g.e2 o.e2,zB g.e3 o.e3,zB g.e4 o.e4,zB g.e5 o.e5,min g.lo o.lo,max g.hi o.hi,(mk g.L o.L).take K.toNat⟩
theorem yc{a b:Int}(ha:zx a)(hb:zx b):zx (zB a b):=by
 unfold zx at *;unfold zB;split<;>omega
theorem qon(K:Int)(g o:Gs):(gmg K g o).nf=kZ K g.nf o.nf:=by
 simp only[Gs.nf,gmg,kZ,qqw,qqx,<-qq4 _ _ _ rfl,zqt]
theorem za8{K:Int}{g o:Gs}(hK:K<=100000)(hg:g.W)(ho:o.W):(gmg K g o).W where
 M:=yc hg.M ho.M
 e0:=yc hg.e0 ho.e0
 e1:=yc hg.e1 ho.e1
 e2:=yc hg.e2 ho.e2
 e3:=yc hg.e3 ho.e3
 e4:=yc hg.e4 ho.e4
 e5:=yc hg.e5 ho.e5
 lo:=qra hg.lo ho.lo
 hi:=qrb hg.hi ho.hi
 L:=fun w hw=>by
  rcases zak w _ _ _ rfl (zoq hw)with h|h
  ·exact hg.L w h
  ·exact ho.L w h
 len:=by
  show((gm g.L o.L).take K.toNat).length<=100000
  rw[zn9];omega
theorem zeh(K K':Int){g o:Gs}(k k':Nat)(hg:g.W)(ho:o.W)(hp:Hp):
 run cxX 47 [g.av K k,o.av K' k'] hp=some ((gmg K g o).av K 2,hp):=by
 have l1:=hg.len
 have l2:=ho.len
 exact VY K K' g.M o.M g.e0 g.e1 g.e2 g.e3 g.e4 g.e5 o.e0 o.e1 o.e2 o.e3 o.e4 o.e5 g.lo g.hi o.lo o.hi g.L o.L k k' ⟨hg.M,ho.M⟩ ⟨hg.e0,ho.e0⟩ ⟨hg.e1,ho.e1⟩ ⟨hg.e2,ho.e2⟩ ⟨hg.e3,ho.e3⟩ ⟨hg.e4,ho.e4⟩ ⟨hg.e5,ho.e5⟩ ⟨hg.lo,ho.lo⟩ ⟨hg.hi,ho.hi⟩ hg.L ho.L qe hp
theorem Vy{K:Int}{g:GN}:Yo K g=0↔(1<=K/\K<=16)/\(g.L.length:Int)<=K/\Up g.L/\g.lo≠nanK/\g.hi≠nanK:=by
 unfold Yo qq7
 constructor
 ·intro h
  split at h
  ·cases h
  ·split at h
   ·split at h
    ·cases h
    ·rename_i h1 h2 h3
     exact⟨qe,qe,qqe h2,fun e=>h3 (.inl e),fun e=>h3 (.inr e)⟩
   ·cases h
 ·rintro⟨h1,h2,h3,h4,h5⟩
  rw[if_neg qe,if_pos (qpx h3),if_neg (fun e=>e.elim h4 h5)]
theorem WS{K:Int}{g o:GN}(hg:Yo K g=0)(ho:Yo K o=0):Yo K (kZ K g o)=0:=by
 rw[Vy]at*
 obtain⟨h1,h2,h3,h4,h5⟩:=hg
 obtain⟨f1,f2,f3,f4,f5⟩:=ho
 refine⟨h1,?_,?_,?_,?_⟩
 ·simp only[kZ,zn9];omega
 ·exact List.Pairwise.sublist (zq2 _ _) (zai _ _ h3 f3)
 ·show min g.lo o.lo≠nanK;omega
 ·show max g.hi o.hi≠nanK;omega
def GN.Pos(g:GN):Prop:=zx g.M/\zx g.e0/\zx g.e1/\zx g.e2/\zx g.e3/\zx g.e4/\zx g.e5
theorem Gs.W.pos{g:Gs}(h:g.W):g.nf.Pos:=⟨h.M,h.e0,h.e1,h.e2,h.e3,h.e4,h.e5⟩
theorem za9{K:Int}{g o:GN}(hg:g.Pos)(ho:o.Pos):(kZ K g o).Pos:=by
 obtain⟨h1,h2,h3,h4,h5,h6,h7⟩:=hg
 obtain⟨f1,f2,f3,f4,f5,f6,f7⟩:=ho
 exact⟨yc h1 f1,yc h2 f2,yc h3 f3,yc h4 f4,yc h5 f5,yc h6 f6,yc h7 f7⟩
theorem in0:zx 0:=⟨qh,qh⟩
theorem za7:gnew.W:=⟨in0,in0,in0,in0,in0,in0,in0,qh,qh,by simp[gnew,Ws],qh⟩
structure SkN where
 kind:Int
 set:List Int
 K:Int
 hs:List Int
 P:Int
 rg:List Int
 B:Int
 H:Int
 bs:List Int
 R:Int
 C:Int
 cs:List Int
 gK:Int
 g:GN
deriving DecidableEq
def gz:Gs:=⟨0,0,0,0,0,0,0,0,0,[]⟩
theorem xy:gz.W:=⟨in0,in0,in0,in0,in0,in0,in0,qh,qh,by simp[gz,Ws],qh⟩
def skZ:SkN:=⟨0,[],0,[],0,[],0,0,[],0,0,[],0,gz.nf⟩
def wo(x:SkN)(g:Gs)(a b c d e f:Nat):AV:=.agg [.sc (.int .u8 x.kind),S a 1 (LI .u32 x.set),.sc (.int .i64 x.K),S b 1 (LI .u64 x.hs),.sc (.int .i64 x.P),S c 1 (LI .u8 x.rg),.sc (.int .i64 x.B),.sc (.int .i64 x.H),S d 1 (LI .u32 x.bs),.sc (.int .i64 x.R),.sc (.int .i64 x.C),S e 1 (LI .u32 x.cs),
 .sc (.int .i64 x.gK),.sc (.int .u32 g.M),.sc (.int .u32 g.e0),.sc (.int .u32 g.e1),.sc (.int .u32 g.e2),.sc (.int .u32 g.e3),.sc (.int .u32 g.e4),.sc (.int .u32 g.e5),fl g.lo,fl g.hi,S f 1 (LF g.L)]
def yf(x:SkN)(v:AV):Prop:=∃g a b c d e f,g.W/\g.nf=x.g/\v=wo x g a b c d e f
structure SkN.W (x : SkN) : Prop where
 kind:0<=x.kind/\x.kind<256
 set:kL x.set
 setL:x.set.length<=100000
 hsL:x.hs.length<=100000
 rg:∀n∈x.rg,0<=n/\n<256
 rgL:x.rg.length<=100000
 bs:kL x.bs
 bsL:x.bs.length<=100000
 cs:kL x.cs
 csL:x.cs.length<=100000
theorem qp2:skZ.W:=⟨qh,by simp[skZ,kL],qh,qh,by simp[skZ],qh,by simp[skZ,kL],qh,by simp[skZ,kL],qh⟩
def Vd(x y:SkN):Prop:=x.kind=y.kind/\x.set=y.set/\(x.K=y.K/\x.hs=y.hs)/\(x.P=y.P/\x.rg=y.rg)/\(x.B=y.B/\x.H=y.H/\x.bs=y.bs)/\(x.R=y.R/\x.C=y.C/\x.cs=y.cs)/\x.gK=y.gK/\x.g=y.g
instance (x y : SkN) : Decidable (Vd x y) := by unfold Vd; infer_instance
theorem qx9(x y:SkN):Vd x y↔x=y:=by
 cases x;cases y
 simp only[Vd,SkN.mk.injEq]
 constructor
 ·rintro⟨h1,h2,⟨h3,h4⟩,⟨h5,h6⟩,⟨h7,h8,h9⟩,⟨h10,h11,h12⟩,h13,h14⟩
  exact⟨h1,h2,h3,h4,h5,h6,h7,h8,h9,h10,h11,h12,h13,h14⟩
 ·rintro⟨h1,h2,h3,h4,h5,h6,h7,h8,h9,h10,h11,h12,h13,h14⟩
  exact⟨h1,h2,⟨h3,h4⟩,⟨h5,h6⟩,⟨h7,h8,h9⟩,⟨h10,h11,h12⟩,h13,h14⟩
theorem qmz{x y:SkN}{v u:AV}(hv:yf x v)(hu:yf y u)(wx:x.W)(wy:y.W)(hp:Hp):run cxX 68 [v,u] hp=some (.sc (.bool (decide (x=y))),hp):=by
 obtain⟨g,a,b,c,d,e,f,gw,gn,rfl⟩:=hv
 obtain⟨g',a',b',c',d',e',f',gw',gn',rfl⟩:=hu
 have hd:decide (x=y)=decide (Vd x y):=decide_eq_decide.mpr (qx9 x y).symm
 have r1:=fun k k' hp=>qsb x.set y.set k k' hp (by have:=wx.setL;omega)
 have r2:=fun k k' hp=>qsk x.K y.K x.hs y.hs k k' hp (by have:=wx.hsL;omega) (by have:=wy.hsL;omega)
 have r3:=fun k k' hp=>qsl x.P y.P x.rg y.rg k k' wx.rg wy.rg hp
 have r4:=fun k k' hp=>qyh x.B x.H y.B y.H x.bs y.bs k k' hp (by have:=wx.bsL;omega) (by have:=wy.bsL;omega)
 have r5:=fun k k' hp=>qsr x.R x.C y.R y.C x.cs y.cs k k' hp (by have:=wx.csL;omega)
 have r6:=fun k k' hp=>qna x.gK y.gK g g' k k' gw gw' hp
 rw[hd,E68]
 unfold wo
 by_cases h1:x.kind=y.kind
 ·by_cases h2:x.set=y.set
  ·simp only[eq_true h2,decide_true]at r1
   by_cases h3:x.K=y.K/\x.hs=y.hs
   ·simp only[eq_true h3,decide_true]at r2
    by_cases h4:x.P=y.P/\x.rg=y.rg
    ·simp only[eq_true h4,decide_true]at r3
     by_cases h5:x.B=y.B/\x.H=y.H/\x.bs=y.bs
     ·simp only[eq_true h5,decide_true]at r4
      by_cases h6:x.R=y.R/\x.C=y.C/\x.cs=y.cs
      ·simp only[eq_true h6,decide_true]at r5
       have e:decide (Vd x y)=decide (x.gK=y.gK/\x.g=y.g):=decide_eq_decide.mpr ⟨fun h=>h.2.2.2.2.2.2,fun h=>⟨h1,h2,h3,h4,h5,h6,h⟩⟩
       rw[gn,gn']at r6
       rw[e]
       simp[ql,qs,qp,eq_true h1,r1,r2,r3,r4,r5,r6]
      ·simp only[eq_false h6,decide_false]at r5
       rw[decide_eq_false (fun h:Vd x y=>h6 h.2.2.2.2.2.1)]
       simp[ql,qs,qp,eq_true h1,r1,r2,r3,r4,r5]
     ·simp only[eq_false h5,decide_false]at r4
      rw[decide_eq_false (fun h:Vd x y=>h5 h.2.2.2.2.1)]
      simp[ql,qs,qp,eq_true h1,r1,r2,r3,r4]
    ·simp only[eq_false h4,decide_false]at r3
     rw[decide_eq_false (fun h:Vd x y=>h4 h.2.2.2.1)]
     simp[ql,qs,qp,eq_true h1,r1,r2,r3]
   ·simp only[eq_false h3,decide_false]at r2
    rw[decide_eq_false (fun h:Vd x y=>h3 h.2.2.1)]
    simp[ql,qs,qp,eq_true h1,r1,r2]
  ·simp only[eq_false h2,decide_false]at r1
   rw[decide_eq_false (fun h:Vd x y=>h2 h.2.1)]
   simp[ql,qs,eq_true h1,r1]
 ·rw[decide_eq_false (fun h:Vd x y=>h1 h.1)]
  simp[ql,h1]
def jO(x:SkN):SkN:=
 if x.kind=0 then{skZ with kind:=x.kind,set:=x.set}
 else if x.kind=1 then{skZ with kind:=x.kind,K:=x.K,hs:=x.hs}
 else if x.kind=2 then{skZ with kind:=x.kind,P:=x.P,rg:=x.rg}
 else if x.kind=3 then{skZ with kind:=x.kind,B:=x.B,H:=x.H,bs:=x.bs}
 else if x.kind=4 then{skZ with kind:=x.kind,R:=x.R,C:=x.C,cs:=x.cs}
 else if x.kind=5 then{skZ with kind:=x.kind,gK:=x.gK,g:=x.g}
 else{skZ with kind:=x.kind}
theorem zfj{x:SkN}(h:x.W):(jO x).W:=by
 have z:=qp2
 unfold jO
 repeat' split
 ·exact⟨h.kind,h.set,h.setL,z.hsL,z.rg,z.rgL,z.bs,z.bsL,z.cs,z.csL⟩
 ·exact⟨h.kind,z.set,z.setL,h.hsL,z.rg,z.rgL,z.bs,z.bsL,z.cs,z.csL⟩
 ·exact⟨h.kind,z.set,z.setL,z.hsL,h.rg,h.rgL,z.bs,z.bsL,z.cs,z.csL⟩
 ·exact⟨h.kind,z.set,z.setL,z.hsL,z.rg,z.rgL,h.bs,h.bsL,z.cs,z.csL⟩
 ·exact⟨h.kind,z.set,z.setL,z.hsL,z.rg,z.rgL,z.bs,z.bsL,h.cs,h.csL⟩
 ·exact⟨h.kind,z.set,z.setL,z.hsL,z.rg,z.rgL,z.bs,z.bsL,z.cs,z.csL⟩
 ·exact⟨h.kind,z.set,z.setL,z.hsL,z.rg,z.rgL,z.bs,z.bsL,z.cs,z.csL⟩
theorem qm0{x:SkN}{v:AV}(hv:yf x v)(hp:Hp):∃r,yf (jO x) r/\run cxX 83 [v] hp=some (r,hp):=by
 obtain⟨g,a,b,c,d,e,f,gw,gn,rfl⟩:=hv
 rw[E83]
 unfold jO
 by_cases h0:x.kind=0
 ·rw[if_pos h0]
  refine⟨wo {skZ with kind:=x.kind,set:=x.set} gz (rk a) 2 2 2 2 2,⟨gz,_,_,_,_,_,_,xy,rfl,rfl⟩,?_⟩
  simp[wo,skZ,gz,LF,ql,qs,qp,qo,h0,kj]
 ·rw[if_neg h0]
  by_cases h1:x.kind=1
  ·rw[if_pos h1]
   refine⟨wo {skZ with kind:=x.kind,K:=x.K,hs:=x.hs} gz 2 (rk b) 2 2 2 2,⟨gz,_,_,_,_,_,_,xy,rfl,rfl⟩,?_⟩
   simp[wo,skZ,gz,LF,ql,qs,qp,qo,h1,kj]
  ·rw[if_neg h1]
   by_cases h2:x.kind=2
   ·rw[if_pos h2]
    refine⟨wo {skZ with kind:=x.kind,P:=x.P,rg:=x.rg} gz 2 2 (rk c) 2 2 2,⟨gz,_,_,_,_,_,_,xy,rfl,rfl⟩,?_⟩
    simp[wo,skZ,gz,LF,ql,qs,qp,qo,h2,kj]
   ·rw[if_neg h2]
    by_cases h3:x.kind=3
    ·rw[if_pos h3]
     refine⟨wo {skZ with kind:=x.kind,B:=x.B,H:=x.H,bs:=x.bs} gz 2 2 2 (rk d) 2 2,⟨gz,_,_,_,_,_,_,xy,rfl,rfl⟩,?_⟩
     simp[wo,skZ,gz,LF,ql,qs,qp,qo,h3,kj]
    ·rw[if_neg h3]
     by_cases h4:x.kind=4
     ·rw[if_pos h4]
      refine⟨wo {skZ with kind:=x.kind,R:=x.R,C:=x.C,cs:=x.cs} gz 2 2 2 2 (rk e) 2,⟨gz,_,_,_,_,_,_,xy,rfl,rfl⟩,?_⟩
      simp[wo,skZ,gz,LF,ql,qs,qp,qo,h4,kj]
     ·rw[if_neg h4]
      by_cases h5:x.kind=5
      ·rw[if_pos h5]
       refine⟨wo {skZ with kind:=x.kind,gK:=x.gK,g:=x.g} g 2 2 2 2 2 (rk f),⟨g,_,_,_,_,_,_,gw,gn,rfl⟩,?_⟩
       simp[wo,skZ,gz,LF,ql,qs,qp,qo,h5,kj]
      ·rw[if_neg h5]
       refine⟨wo {skZ with kind:=x.kind} gz 2 2 2 2 2 2,⟨gz,_,_,_,_,_,_,xy,rfl,rfl⟩,?_⟩
       simp[wo,skZ,gz,LF,ql,qs,qp,qo,h0,h1,h2,h3,h4,h5,kj]
def yA(x:SkN):Int:=
 if 6<=x.kind then 5 else if x≠jO x then 4
 else if x.kind=0 then qh2 x.set else if x.kind=1 then qt5 x.K x.hs else if x.kind=2 then qt8 x.P x.rg else if x.kind=3 then qat x.B x.H x.bs else if x.kind=4 then Yu x.R x.C x.cs else Yo x.gK x.g
theorem zg{x:SkN}{g:Gs}(gw:g.W)(gn:g.nf=x.g)(a b c d e f:Nat):yf x (wo x g a b c d e f):=⟨g,a,b,c,d,e,f,gw,gn,rfl⟩
theorem yf.vl{x:SkN}{v:AV}(h:yf x v):vlF v=true/\vlV v=true:=by
 obtain⟨g,a,b,c,d,e,f,gw,gn,rfl⟩:=h
 unfold wo
 constructor<;>simp
theorem yf.ro{x:SkN}{v:AV}(h:yf x v):yf x (ro v):=by
 obtain⟨g,a,b,c,d,e,f,gw,gn,rfl⟩:=h
 refine⟨g,rk a,rk b,rk c,rk d,rk e,rk f,gw,gn,?_⟩
 simp[wo]
theorem wz{x:SkN}{v:AV}(hv:yf x v)(w:x.W)(hp:Hp):run cxX 37 [v] hp=some (.sc (.int .i64 (yA x)),hp):=by
 obtain⟨g,a,b,c,d,e,f,gw,gn,rfl⟩:=hv
 obtain⟨o,ho,hr⟩:=qm0 (zg gw gn (rk a) (rk b) (rk c) (rk d) (rk e) (rk f)) hp0
 have sm:=qmz (zg gw gn (rk a) (rk b) (rk c) (rk d) (rk e) (rk f)) ho.ro w (zfj w) hp0
 have vo:=ho.vl
 have vo':=ho.ro.vl
 have hnt:Zl o=some ():=by
  obtain⟨g,a,b,c,d,e,f,gw,gn,rfl⟩:=ho
  rfl
 have hrr:AI.ro (AI.ro o)=AI.ro o:=by
  obtain⟨g,a,b,c,d,e,f,gw,gn,rfl⟩:=ho
  simp[wo]
 have r1:=fun k hp=>qm1 x.set k hp
 have r2:=fun k hp=>qm6 x.K x.hs k (by have:=w.hsL;omega) hp
 have r3:=fun k hp=>qm9 x.P x.rg k (by have:=w.rgL;omega) w.rg hp
 have r4:=fun k hp=>qco x.B x.H x.bs k (by have:=w.bsL;omega) w.bs hp
 have r5:=fun k hp=>Wg x.R x.C x.cs k (by have:=w.csL;omega) hp
 have r6:=fun k hp=>qnb x.gK g k gw hp
 rw[gn]at r6
 rw[E37]
 unfold yA
 unfold wo at hr sm⊢
 by_cases h6:6<=x.kind
 ·simp[ql,h6]
 ·rw[if_neg h6]
  by_cases ho':x=jO x
  ·rw[if_neg (fun h=>h ho')]
   simp only[eq_true ho',decide_true]at sm
   by_cases h0:x.kind=0
   ·simp only[h0]at hr sm
    simp[ql,qs,qp,h6,hr,vo,vo',hnt,sm,h0,r1]
   ·by_cases h1:x.kind=1
    ·simp only[h1]at hr sm
     simp[ql,qs,qp,h6,hr,vo,vo',hnt,sm,h1,r2]
    ·by_cases h2:x.kind=2
     ·simp only[h2]at hr sm
      simp[ql,qs,qp,h6,hr,vo,vo',hnt,sm,h2,r3]
     ·by_cases h3:x.kind=3
      ·simp only[h3]at hr sm
       simp[ql,qs,qp,h6,hr,vo,vo',hnt,sm,h3,r4]
      ·by_cases h4:x.kind=4
       ·simp only[h4]at hr sm
        simp[ql,qs,qp,h6,hr,vo,vo',hnt,sm,h4,r5]
       ·simp[ql,qs,qp,h6,hr,vo,vo',hnt,sm,h0,h1,h2,h3,h4,r6]
  ·rw[if_pos ho']
   simp only[eq_false ho',decide_false]at sm
   simp[ql,qs,qp,h6,hr,vo,vo',hnt,sm]
end Go.Proofs.YtmajcennjgjlnaaGreat.AI
