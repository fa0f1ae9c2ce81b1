/- Texts that the proof of FuseBudget rests on, part 8. -/
import Derived.Test.YtmajcennjgjlnaaGreatQFuseBudget4
import Derived.Test.YtmajcennjgjlnaaGreatQFuseBudget5
import Derived.Test.YtmajcennjgjlnaaGreatQFuseBudget6
import Derived.Test.YtmajcennjgjlnaaGreatQFuseBudget7
namespace Go.Proofs.YtmajcennjgjlnaaGreat.AI
open Go
set_option linter.unusedVariables false
set_option linter.unusedSimpArgs false
set_option maxRecDepth 100000
set_option maxHeartbeats 0
noncomputable def zhz:Value:=.string ⟨#[0,1,2,2,3,3,3,3,4,4,4,4,4,4,4,4,5,5,5,5,5,5,5,5,5,5,5,5,5,5,5,5,6,6,6,6,6,6,6,6,6,6,6,6,6,6,6,6,6,6,6,6,6,6,6,6,6,6,6,6,6,6,6,6,7,7,7,7,7,7,7,7,7,7,7,7,7,7,7,7,7,7,7,7,7,7,7,7,7,7,7,7,7,7,7,7,7,7,7,7,7,7,7,7,7,7,7,7,7,7,7,7,7,7,7,7,7,7,7,7,7,7,7,7,7,7,7,7,8,8,8,8,8,8,8,8,8,8,8,8,8,8,8,8,8,8,8,8,8,8,8,8,8,8,8,8,8,8,8,8,8,8,8,8,8,8,8,8,8,8,8,8,8,8,8,8,8,8,8,8,8,8,8,8,8,8,8,8,8,8,8,8,8,8,8,8,8,8,8,8,8,8,8,8,8,8,8,8,8,8,8,8,8,8,8,8,8,8,8,8,8,8,8,8,8,8,8,8,8,8,8,8,8,8,8,8,8,8,8,8,8,8,8,8,8,8,8,8,8,8,8,8,8,8,8,8]⟩
theorem zdc(v0 v2:Value)(hp:Hp):B188_10 v0 v2 hp=(Ki Tryz.prog 62 5 v0).bind fun y12=>(ixV Tryz.prog 9 zhz y12).bind fun y13=>(Ki Tryz.prog 5 3 y13).bind fun y14=>(qx Tryz.prog .add 3 (.tmp 19) (.tmp 23) v2 y14).bind fun y15=>some (.sc y15,hp):=
 (qpa _ _ _).trans qf
noncomputable def zgz(x:Nat):Bool:=
 match ixV Tryz.prog 9 zhz (.int .u8 (x:Int))with
 |some (.int .u8 (.ofNat n))=>decide (n<=8)&&decide (x<2^n)&&(decide (n=0)||decide (2^(n-1)<=x))
 |_=>false
theorem zdn:(List.range 256).all zgz=true:=qf
theorem zhy(x:Nat)(h:x<256):∃n:Nat,n<=8/\Bl x n/\ixV Tryz.prog 9 zhz (.int .u8 (x:Int))=some (.int .u8 (n:Int)):=by
 have hx:=znx.mp zdn x (zqo.mpr h)
 unfold zgz at hx
 split at hx
 ·rename_i n e
  simp only[zok,zp4,decide_eq_true_eq]at hx
  exact⟨n,hx.1.1,⟨hx.1.2,hx.2⟩,e⟩
 ·cases hx
theorem cv8(n:Int):Ki Tryz.prog 5 3 (.int .u8 n)=some (.int .i64 (IntKind.i64.wrap n)):=jT n
theorem zdg(n:Nat)(h:n<1000000):IntKind.i64.wrap (n:Int)=n:=qm qe qe
theorem zha(x v:Nat)(h:x<256)(hv:v<=100):∃n,n<=8/\Bl x n/\∀hp,B188_10 (.int .u64 (x:Int)) (.int .i64 (v:Int)) hp=some (.sc (.int .i64 ((n+v:Nat):Int)),hp):=by
 obtain⟨n,h1,h2,h3⟩:=zhy x h
 refine⟨n,h1,h2,fun hp=>?_⟩
 have w:IntKind.u8.wrap (x:Int)=x:=zy qe qe
 have w2:IntKind.i64.wrap (n:Int)=n:=zdg n qe
 have w3:IntKind.i64.wrap ((v:Int)+(n:Int))=((n+v:Nat):Int):=qj
 rw[zdc]
 simp[Xm,w,h3,cv8,w2,w3]
theorem ZY(x k:Nat)(hk:k<=64)(o o':Operand)(K:IntKind):qx Tryz.prog .shr 62 o o' (.int .u64 (x:Int)) (.int K (k:Int))=some (.int .u64 ((x/2^k:Nat):Int)):=by
 rw[jI _ _ _ _ _ _ _ _ qe]
 have e:min ((k:Int)).toNat IntKind.u64.bits=k:=by
  have:IntKind.u64.bits=64:=rfl
  rw[this];omega
 rw[e,zoc _ (by exact_mod_cast znl (2^k))]
 congr 2
theorem len7(x v:Nat)(h:x<65536)(hv:v<=90):∃n,n<=16/\Bl x n/\∀hp,B188_7 (.int .u64 (x:Int)) (.int .i64 (v:Int)) hp=some (.sc (.int .i64 ((n+v:Nat):Int)),hp):=by
 by_cases hx:256<=x
 ·obtain⟨n,h1,h2,h3⟩:=zha (x/2^8) (v+8) qe qe
  refine⟨n+8,qe,h2.up qe,fun hp=>?_⟩
  have s:=ZY x 8 qe (.tmp 15) (.const (.int .u64 8)) .u64
  have c:(256:Int)<=(x:Int):=qe
  have w:IntKind.i64.wrap ((v:Int)+8)=((v+8:Nat):Int):=qj
  have e:n+(v+8)=n+8+v:=qe
  rw[e]at h3
  rw[qd6]
  simp at s w h3
  simp[c,s,w,h3]
 ·obtain⟨n,h1,h2,h3⟩:=zha x v qe qe
  refine⟨n,qe,h2,fun hp=>?_⟩
  have c:¬((256:Int)<=(x:Int)):=qe
  rw[qd6]
  simp at h3
  simp[c,h3]
theorem len4(x v:Nat)(h:x<4294967296)(hv:v<=70):∃n,n<=32/\Bl x n/\∀hp,B188_4 (.int .u64 (x:Int)) (.int .i64 (v:Int)) hp=some (.sc (.int .i64 ((n+v:Nat):Int)),hp):=by
 by_cases hx:65536<=x
 ·obtain⟨n,h1,h2,h3⟩:=len7 (x/2^16) (v+16) qe qe
  refine⟨n+16,qe,h2.up qe,fun hp=>?_⟩
  have s:=ZY x 16 qe (.tmp 9) (.const (.int .u64 16)) .u64
  have c:(65536:Int)<=(x:Int):=qe
  have w:IntKind.i64.wrap ((v:Int)+16)=((v+16:Nat):Int):=qj
  have e:n+(v+16)=n+16+v:=qe
  rw[e]at h3
  rw[qd7]
  simp at s w h3
  simp[c,s,w,h3]
 ·obtain⟨n,h1,h2,h3⟩:=len7 x v qe qe
  refine⟨n,qe,h2,fun hp=>?_⟩
  have c:¬((65536:Int)<=(x:Int)):=qe
  rw[qd7]
  simp at h3
  simp[c,h3]
theorem qsc(x:Nat)(h:x<18446744073709551616):∃n,n<=64/\Bl x n/\∀hp,run cxX 188 [.sc (.int .u64 (x:Int))] hp=some (.sc (.int .i64 (n:Int)),hp):=by
 by_cases hx:4294967296<=x
 ·obtain⟨n,h1,h2,h3⟩:=len4 (x/2^32) 32 qe qe
  refine⟨n+32,qe,h2.up qe,fun hp=>?_⟩
  have s:=ZY x 32 qe (.tmp 5) (.const (.int .u64 32)) .u64
  have c:(4294967296:Int)<=(x:Int):=qe
  rw[E188]
  simp at s h3
  simp[c,s,h3]
 ·obtain⟨n,h1,h2,h3⟩:=len4 x 0 qe qe
  refine⟨n,qe,h2,fun hp=>?_⟩
  have c:¬((4294967296:Int)<=(x:Int)):=qe
  rw[E188]
  simp at h3
  simp[c,h3]
theorem or_zero(x:Nat)(h:x<18446744073709551616)(o o':Operand):qx Tryz.prog .or 62 o o' (.int .u64 (x:Int)) (.int .u64 ((0:Nat):Int))=some (.int .u64 (x:Int)):=by
 rw[zR]
 have e:(BitVec.ofInt 64 (x:Int)|||BitVec.ofInt 64 ((0:Nat):Int)).toNat=x:=by
  rw[zpd,znh,znh]
  have e1:(((x:Int)%((2^64:Nat):Int)).toNat)=x:=qe
  have e2:((((0:Nat):Int)%((2^64:Nat):Int)).toNat)=0:=qh
  rw[e1,e2,Nat.or_zero]
 show some (Value.int .u64 (IntKind.u64.wrap ((BitVec.ofInt 64 (x:Int)|||BitVec.ofInt 64 ((0:Nat):Int)).toNat:Nat)))=_
 rw[e,qu qe qe]
theorem wnat(n:Nat)(h:n<18446744073709551616):IntKind.u64.wrap (n:Int)=n:=qu qe qe
theorem YR(x y:Nat)(hy:0<y)(h:x<18446744073709551616)(o o':Operand):qx Tryz.prog .quo 62 o o' (.int .u64 (x:Int)) (.int .u64 (y:Int))=some (.int .u64 ((x/y:Nat):Int)):=by
 rw[yx _ _ _ _ _ _ _ qe,zn2 qe,<-Int.natCast_ediv]
 rw[wnat _ (zog (zo5 x y) h)]
theorem Vq(x y:Nat)(hy:0<y)(o o':Operand):qx Tryz.prog .rem 62 o o' (.int .u64 (x:Int)) (.int .u64 (y:Int))=some (.int .u64 ((x%y:Nat):Int)):=by
 rw[zk _ _ _ _ _ _ _ qe,zj qe,<-Int.natCast_emod]
section
variable {B:Nat}(hB:B=4294967296)
include hB
end
@[simp] theorem zlp(b g o:Nat):YU (.ptr b g o)=some false:=rfl
@[simp] theorem zlq:YU (.sc (.pointer none))=some true:=rfl
@[simp] theorem zfc(b g o:Nat):ZA (.ptr b g o)=some ():=rfl
@[simp] theorem vG(b g o:Nat):qY (.ptr b g o)=some (b,g,o):=rfl
@[simp] theorem zia(b g o:Nat):ro (.ptr b g o)= .ptr b g o:=rfl
@[simp] theorem zmm(b g o:Nat):ro1 (.ptr b g o)= .ptr b g o:=rfl
@[simp] theorem zkm(b g o:Nat):Zh (.ptr b g o)=some ():=rfl
theorem qC(hp:Hp)(b:Nat)(x y:List AV):(hp.put b 0 x).put b 0 y=hp.put b 0 y:=by
 unfold Hp.put
 congr 1
 funext z
 by_cases e:z=b
 ·simp[e]
 ·simp[e]
theorem qge(hp:Hp)(x y:List AV):(hp.new x).put hp.next 0 y=hp.new y:=by
 unfold Hp.put Hp.new
 congr 1
 funext z
 by_cases e:z=hp.next
 ·simp[e]
 ·simp[e]
theorem jk{hp:Hp}{b:Nat}{x:List AV}(h:hp.rd b 0=some x):hp.put b 0 x=hp:=by
 have hg:hp.get b=some (0,x):=by
  unfold Hp.rd at h
  obtain⟨p,hp1,h⟩:=bsm h
  split at h
  ·rename_i e
   cases h
   rw[hp1]
   obtain⟨p1,p2⟩:=p
   have:p1=0:=e.1
   subst this;rfl
  ·cases h
 obtain⟨n,g⟩:=hp
 unfold Hp.put
 congr 1
 funext z
 by_cases e:z=b
 ·subst e;simp only[if_true];exact hg.symm
 ·simp[e]
theorem qB(hp:Hp){b c:Nat}(x:List AV)(h:c≠b):(hp.put b 0 x).rd c 0=hp.rd c 0:=by
 simp[Hp.rd,Hp.put,h]
theorem zF(hp:Hp){c:Nat}(x:List AV)(h:c≠hp.next):(hp.new x).rd c 0=hp.rd c 0:=by
 simp[Hp.rd,Hp.new,h]
@[simp] theorem qjk(hp:Hp)(b:Nat)(x:List AV):(hp.put b 0 x).next=hp.next:=rfl
@[simp] theorem zlr(hp:Hp)(x:List AV):(hp.new x).next=hp.next+1:=rfl
abbrev Wc(l:List Int):List AV:=[S 2 1 (LI .u8 l)]
theorem wS{x:Int}:IntKind.u8.wrap x=x%256:=by rw[IntKind.wrap_u8]
theorem jr(b:Nat)(l:List Int)(c:Int)(hl:l.length<=1000000)(hp:Hp)(h:hp.rd b 0=some (Wc l)):
 run cxX 110 [.ptr b 0 0,.sc (.int .u8 c)] hp=some (.tup [],hp.put b 0 (Wc (l++[c]))):=by
 have ap:=QZ .u8 l 2 (.inr rfl) 1 qh c hl
 rw[E110]
 simp[h,qs,ap,qp,qo,qC]
theorem wV(b:Nat)(l m:List Int)(k:Nat)(hl:l.length+m.length<=1000000)(hp:Hp)(h:hp.rd b 0=some (Wc l)):
 run cxX 105 [.ptr b 0 0,S k 1 (LI .u8 m)] hp=some (.tup [],hp.put b 0 (Wc (l++m))):=by
 have ap:=fun k=>zb4 .u8 l 2 (.inr rfl) 1 qh k m hl
 rw[E105]
 simp[h,qs,ap,qp,qo,qC]
theorem VX(b:Nat)(l:List Int)(hl:l.length<=1000000)(hp:Hp)(h:hp.rd b 0=some (Wc l)):
 run cxX 57 [.ptr b 0 0] hp=some (S 1 1 (LI .u8 l),hp):=by
 have ap:=fun k=>zb4 .u8 [] 1 (.inl rfl) 1 qh k l (by simpa using hl)
 simp at ap
 rw[E57]
 simp[h,qs,ap]
theorem qzn:∀x:BitVec 8,(x|||128#8).toNat=x.toNat%128+128:=qh
theorem zlj(n:Nat)(t:TypeId)(x y:Operand):qx Tryz.prog .or t x y (.int .u8 ((n:Int)%256)) (.int .u8 128)=some (.int .u8 ((n%128+128:Nat):Int)):=by
 rw[zR]
 have e1:(BitVec.ofInt 8 ((n:Int)%256)).toNat=n%256:=by
  rw[znh]
  omega
 have e2:(BitVec.ofInt IntKind.u8.bits ((n:Int)%256)|||BitVec.ofInt IntKind.u8.bits 128).toNat=n%128+128:=by
  show(BitVec.ofInt 8 ((n:Int)%256)|||128#8).toNat=_
  rw[qzn,e1]
  omega
 rw[e2,zy qe qe]
theorem shr7(n:Nat)(t:TypeId)(x y:Operand):qx Tryz.prog .shr t x y (.int .u64 (n:Int)) (.int .u64 7)=some (.int .u64 ((n/128:Nat):Int)):=by
 rw[jI _ _ _ _ _ _ _ _ qe]
 congr 2
 rw[zoc _ qh]
 show(n:Int)/128=_
 omega
theorem qmb(b:Nat):∀(n:Nat) (l:List Int) (hp:Hp),n<18446744073709551616->l.length+(uv n).length<=1000000->hp.rd b 0=some (Wc l)->
 B103_0 (.ptr b 0 0) (.int .u64 (n:Int)) hp=some (.tup [],hp.put b 0 (Wc (l++uv n))):=by
 intro n
 induction n using Nat.strongRecOn with
 |_ n ih=>
  intro l hp hn hl h
  rw[qxg]
  by_cases h1:n<128
  ·rw[KE h1]at hl⊢
   have hge:¬((n:Int)>=128):=qe
   have hge':¬((128:Int)<=(n:Int)):=qe
   have w:IntKind.u8.wrap (n:Int)=(n:Int):=zy qe qe
   have wb:=jr b l n (by simp at hl;omega) hp h
   simp[hge',w,wb]
  ·rw[VM h1]at hl⊢
   have hge:(128:Int)<=(n:Int):=qe
   have w:IntKind.u8.wrap (n:Int)=(n:Int)%256:=by rw[wS]
   have wb:=jr b l ((n%128+128:Nat):Int) (by simp at hl;omega) hp h
   have o:=zlj n
   have s:=shr7 n
   have ih':=ih (n/128) qe (l++[((n%128+128:Nat):Int)]) (hp.put b 0 (Wc (l++[((n%128+128:Nat):Int)]))) qe (by simp at hl⊢;omega) (qp _ _ _)
   rw[qC]at ih'
   generalize((n%128+128:Nat):Int)=c at*
   generalize((n/128:Nat):Int)=d at*
   simp[hge,w,wb,o,s,ih',-zR]
theorem zY(b n:Nat)(l:List Int)(hn:n<18446744073709551616)(hl:l.length+(uv n).length<=1000000)(hp:Hp)(h:hp.rd b 0=some (Wc l)):
 run cxX 103 [.ptr b 0 0,.sc (.int .u64 (n:Int))] hp=some (.tup [],hp.put b 0 (Wc (l++uv n))):=by
 rw[E103]
 simp[qmb b n l hp hn hl h]
theorem xor_zero(x:Nat)(h:x<18446744073709551616)(t:TypeId)(a b:Operand):qx Tryz.prog .xor t a b (.int .u64 (x:Int)) (.int .u64 0)=some (.int .u64 (x:Int)):=by
 rw[xz]
 have e:(BitVec.ofInt IntKind.u64.bits (x:Int)^^^BitVec.ofInt IntKind.u64.bits 0).toNat=x:=by
  show(BitVec.ofInt 64 (x:Int)^^^0#64).toNat=x
  rw[BitVec.xor_zero,znh]
  omega
 rw[e,qu qe qe]
theorem qxj(x:Nat)(h:x<18446744073709551616)(t:TypeId)(a b:Operand):qx Tryz.prog .xor t a b (.int .u64 (x:Int)) (.int .u64 18446744073709551615)=some (.int .u64 ((18446744073709551615-x:Nat):Int)):=by
 rw[xz]
 have e:(BitVec.ofInt IntKind.u64.bits (x:Int)^^^BitVec.ofInt IntKind.u64.bits 18446744073709551615).toNat=18446744073709551615-x:=by
  have e1:BitVec.ofInt 64 18446744073709551615=BitVec.allOnes 64:=qh
  show(BitVec.ofInt 64 (x:Int)^^^BitVec.ofInt 64 18446744073709551615).toNat=_
  rw[e1,BitVec.xor_allOnes,BitVec.toNat_not,znh]
  omega
 rw[e,qu qe qe]
theorem qx6(b:Nat)(n:Int)(l:List Int)(hn:-9223372036854775808<=n/\n<9223372036854775808)(hl:l.length+(uv (zz n)).length<=1000000)(hp:Hp)(h:hp.rd b 0=some (Wc l)):
 run cxX 117 [.ptr b 0 0,.sc (.int .i64 n)] hp=some (.tup [],hp.put b 0 (Wc (l++uv (zz n)))):=by
 have wu:=zY b (zz n) l (qbt hn.1 hn.2) hl hp h
 rw[E117]
 by_cases h0:n<0
 ·have z:zz n=18446744073709551615-(2*n+18446744073709551616).toNat:=by unfold zz;rw[if_pos h0];omega
  have w1:IntKind.u64.wrap n=n+18446744073709551616:=by rw[IntKind.wrap_u64];omega
  have s1:∀t x y,qx Tryz.prog .shl t x y (.int .u64 (n+18446744073709551616)) (.int .u64 1)=some (.int .u64 (((2*n+18446744073709551616).toNat:Nat):Int)):=by
   intro t x y
   rw[zW _ _ _ _ _ _ _ _ qe]
   have e:(2:Int)^min (1:Int).toNat IntKind.u64.bits=2:=rfl
   rw[e,IntKind.wrap_u64]
   congr 2
   omega
  have s2:∀t x y,qx Tryz.prog .shr t x y (.int .i64 n) (.int .u64 63)=some (.int .i64 (-1)):=by
   intro t x y
   rw[jI _ _ _ _ _ _ _ _ qe]
   have e:(2:Int)^min (63:Int).toNat IntKind.i64.bits=9223372036854775808:=rfl
   rw[e,zoc _ qe]
   congr 2
   omega
  have w2:IntKind.u64.wrap (-1)=18446744073709551615:=by rw[IntKind.wrap_u64];rfl
  have x1:=qxj (2*n+18446744073709551616).toNat qe
  rw[<-z]at x1
  generalize(2*n+18446744073709551616).toNat=X at*
  simp[w1,s1,s2,w2,x1,wu,-xz]
 ·have z:zz n=(2*n).toNat:=by unfold zz;rw[if_neg h0];omega
  have w1:IntKind.u64.wrap n=n:=qu qe qe
  have s1:∀t x y,qx Tryz.prog .shl t x y (.int .u64 n) (.int .u64 1)=some (.int .u64 ((zz n:Nat):Int)):=by
   intro t x y
   rw[zW _ _ _ _ _ _ _ _ qe]
   have e:(2:Int)^min (1:Int).toNat IntKind.u64.bits=2:=rfl
   rw[e,IntKind.wrap_u64,z]
   congr 2
   omega
  have s2:∀t x y,qx Tryz.prog .shr t x y (.int .i64 n) (.int .u64 63)=some (.int .i64 0):=by
   intro t x y
   rw[jI _ _ _ _ _ _ _ _ qe]
   have e:(2:Int)^min (63:Int).toNat IntKind.i64.bits=9223372036854775808:=rfl
   rw[e,zoc _ qe]
   congr 2
   omega
  have w2:IntKind.u64.wrap 0=0:=rfl
  have x1:=xor_zero (zz n) (qbt hn.1 hn.2)
  simp[w1,s1,s2,w2,x1,wu,-xz]
abbrev Rc(k:Nat)(l:List Int)(p:Nat)(e:Int):List AV:=[S k 1 (LI .u8 l),.sc (.int .i64 (p:Int)),.sc (.int .i64 e)]
def rE(e f:Int):Int:=if e=0 then f else e
def rL(l:List Int)(p:Nat)(e:Int):Nat:=if e=0 then l.length-p else 0
theorem Jb(k:Nat)(l:List Int)(hp:Hp):run cxX 48 [S k 1 (LI .u8 l)] hp=some (.ptr hp.next 0 0,hp.new (Rc (rk k) l 0 0)):=by
 rw[E48]
 simp[qo]
 rfl
theorem zdp(k:Nat)(cs:List AV)(i h:Nat)(hih:i<=h)(hh:h<=cs.length)(hne:cs≠[]):
 yq 1 (S k 1 cs) (some (.int .i64 (i:Int))) (some (.int .i64 (h:Int))) (some (.int .i64 (h:Int)))=some (S 0 1 ((cs.drop i).take (h-i))):=by
 have b1:zo 0 (cs.length:Int) (some (.int .i64 (h:Int))) cs.length=some h:=xO .i64 hh
 have b2:zo 0 (h:Int) (some (.int .i64 (h:Int))) cs.length=some h:=xO .i64 (zmx h)
 have b3:zo 0 (h:Int) (some (.int .i64 (i:Int))) 0=some i:=xO .i64 hih
 rcases jn k 1 cs with e|e|⟨e,e'⟩
 ·rw[e]
  simp only[Yo,yq,if_true,b1,b2,b3,zmw,zom]
  rfl
 ·rw[e]
  simp only[Yo,yq,if_true,b1,b2,b3,zmw,zom]
  rfl
 ·exact absurd e' hne
section
variable (b k:Nat)(l:List Int)(p:Nat)(e:Int)(hp:Hp)
theorem qV(h:hp.rd b 0=some (Rc k l p e)):run cxX 97 [.ptr b 0 0] hp=some (.sc (.int .i64 e),hp):=by
 rw[E97]
 simp[h,ql]
theorem Jd(f:Int)(h:hp.rd b 0=some (Rc k l p e)):run cxX 120 [.ptr b 0 0,.sc (.int .i64 f)] hp=some (.tup [],hp.put b 0 (Rc k l p (rE e f))):=by
 rw[E120]
 unfold rE
 by_cases h0:e=0
 ·subst h0
  simp[h,ql,qxb,qo]
 ·simp[h,ql,h0,jk h]
theorem XK(hl:l.length<=1000000000)(hp':p<=l.length)(h:hp.rd b 0=some (Rc k l p e)):run cxX 127 [.ptr b 0 0] hp=some (.sc (.int .i64 (rL l p e:Nat)),hp):=by
 rw[E127]
 unfold rL
 by_cases h0:e=0
 ·subst h0
  have w:IntKind.i64.wrap ((l.length:Int)-(p:Int))=((l.length-p:Nat):Int):=qj
  simp[h,ql,qs,qw5,w]
 ·simp[h,ql,h0,qw6]
def rB(l:List Int)(p:Nat)(e:Int):Int×Nat×Int:=if rL l p e=0 then(0,p,rE e 3)else(l.getD p 0,p+1,e)
theorem Je(hl:l.length<=1000000000)(hp':p<=l.length)(h:hp.rd b 0=some (Rc k l p e)):
 run cxX 63 [.ptr b 0 0] hp=some (.sc (.int .u8 (rB l p e).1),hp.put b 0 (Rc k l (rB l p e).2.1 (rB l p e).2.2)):=by
 have lf:=XK b k l p e hp hl hp' h
 rw[E63]
 unfold rB
 by_cases h0:rL l p e=0
 ·have fl:=Jd b k l p e hp 3 h
  simp[lf,h0,fl]
 ·have he:e=0:=by
   unfold rL at h0
   by_cases he:e=0
   ·exact he
   ·simp[he]at h0
  subst he
  have hlt:p<l.length:=by unfold rL at h0;simp at h0;omega
  have w:IntKind.i64.wrap ((p:Int)+1)=((p+1:Nat):Int):=qj
  have w2:IntKind.i64.wrap (((p+1:Nat):Int)-1)=(p:Int):=qj
  have w3:IntKind.i64.wrap (p:Int)=(p:Int):=qm qe qe
  simp only[zq5,zq6]at w w2
  simp[lf,h0,h,ql,qs,w,qo,qp,w2,w3,hlt,Rc]
theorem qmv(n:Nat)(hl:l.length<=1000000000)(hn:n<=1000000000)(hp':p<=l.length)(h:hp.rd b 0=some (Rc k l p e)):
 ∃t,run cxX 126 [.ptr b 0 0,.sc (.int .i64 (n:Int))] hp=
  if rL l p e<n then some (S 2 1 [],hp.put b 0 (Rc k l p (rE e 3)))else if n=0 then some (S 2 1 [],hp)else some (S t 1 (LI .u8 ((l.drop p).take n)),hp.put b 0 (Rc k l (p+n) e)):=by
 have lf:=XK b k l p e hp hl hp' h
 have fl:=Jd b k l p e hp 3 h
 have h00:¬((n:Int)<0):=qe
 rw[E126]
 by_cases h0:rL l p e<n
 ·refine⟨0,?_⟩
  simp[h00,lf,h0,qw7,fl]
 ·by_cases h1:n=0
  ·subst h1
   refine⟨0,?_⟩
   have hz:¬((rL l p e:Int)<0):=qe
   simp[lf,hz,qfc]
  ·have he:e=0:=by
    unfold rL at h0
    by_cases he:e=0
    ·exact he
    ·simp[he]at h0;omega
   subst he
   have hlt:p+n<=l.length:=by unfold rL at h0;simp at h0;omega
   have w:IntKind.i64.wrap ((p:Int)+(n:Int))=((p+n:Nat):Int):=qj
   have w2:IntKind.i64.wrap (((p+n:Nat):Int)-(n:Int))=(p:Int):=qj
   have sl:=fun k=>zdp k (LI .u8 l) p (p+n) qe (by simpa using hlt) (by intro hn0;have:=congrArg List.length hn0;simp at this;subst this;simp at hlt;omega)
   have e1:p+n-p=n:=qe
   simp only[e1,zl7,zgy]at sl
   refine⟨0,?_⟩
   have hz:¬((rL l p 0:Int)<(n:Int)):=qe
   have pn:∀x:AV,qo (Rc k l p 0) 1 [x]=some [S k 1 (LI .u8 l),x,.sc (.int .i64 0)]:=fun x=>rfl
   have hn1:¬((n:Int)=0):=qe
   generalize hq:((p+n:Nat):Int)=q at*
   simp[h00,lf,h0,hz,qfc,h1,hn1,h,ql,qs,w,pn,qp,w2,sl,Rc,hq]
theorem VZ(hl:l.length<=1000000000)(hp':p<=l.length)(h:hp.rd b 0=some (Rc k l p e)):
 run cxX 56 [.ptr b 0 0] hp=some (.sc (.int .i64 (if e=0/\p<l.length then 15 else e)),hp):=by
 have er:=qV b k l p e hp h
 rw[E56]
 by_cases h0:e=0
 ·subst h0
  by_cases h1:p<l.length
  ·simp[h,ql,qs,h1,zcv]
  ·simp[h,ql,qs,h1,qlx,er]
 ·simp[h,ql,h0,qlx,er]
end
theorem qu0:∀x:BitVec 8,(x&&&127#8).toNat=x.toNat%128:=qh
theorem zj8(c:Nat)(hc:c<256)(t:TypeId)(x y:Operand):qx Tryz.prog .and t x y (.int .u8 (c:Int)) (.int .u8 127)=some (.int .u8 ((c%128:Nat):Int)):=by
 rw[zm]
 have e1:(BitVec.ofInt 8 (c:Int)).toNat=c:=by
  rw[znh];omega
 have e2:(BitVec.ofInt IntKind.u8.bits (c:Int)&&&BitVec.ofInt IntKind.u8.bits 127).toNat=c%128:=by
  show(BitVec.ofInt 8 (c:Int)&&&127#8).toNat=_
  rw[qu0,e1]
 rw[e2,zy qe qe]
theorem zii(n x s:Nat)(hn:n<2^s)(h:n+x*2^s<18446744073709551616)(t:TypeId)(a b:Operand):
 qx Tryz.prog .or t a b (.int .u64 (n:Int)) (.int .u64 ((x*2^s:Nat):Int))=some (.int .u64 ((n+x*2^s:Nat):Int)):=by
 rw[zR]
 generalize hy:x*2^s=y at*
 have e:(BitVec.ofInt IntKind.u64.bits (n:Int)|||BitVec.ofInt IntKind.u64.bits (y:Int)).toNat=n+y:=by
  show(BitVec.ofInt 64 (n:Int)|||BitVec.ofInt 64 (y:Int)).toNat=_
  rw[zpd,znh,znh]
  have e1:((n:Int)%((2^64:Nat):Int)).toNat=n:=qe
  have e2:((y:Int)%((2^64:Nat):Int)).toNat=y:=qe
  rw[e1,e2]
  have:=zpe hn x
  rw[znz]at this
  rw[hy]at this
  rw[Nat.or_comm,<-this,zqm]
 rw[e,qu qe qe]
def rU(l:List Int)(p:Nat)(e:Int)(most:Nat):Nat×Nat×Int:=
 if e≠0 then(0,p,e)
 else if(gU (l.drop p) 0 0 0).2.2≠0 then(0,p+(gU (l.drop p) 0 0 0).2.1,(gU (l.drop p) 0 0 0).2.2)
 else if most<(gU (l.drop p) 0 0 0).1 then(0,p+(gU (l.drop p) 0 0 0).2.1,7)
 else((gU (l.drop p) 0 0 0).1,p+(gU (l.drop p) 0 0 0).2.1,0)
section
variable (b k:Nat)(l:List Int)(most:Nat)
theorem XR(p:Nat)(e:Int)(he:e≠0)(hp:Hp)(h:hp.rd b 0=some (Rc k l p e))(v:Value)(n s:Int)(c:Int):
 B60_7 (.ptr b 0 0) v (.int .u64 n) (.int .i64 s) (.int .u8 c) hp=some (.sc (.int .u64 0),hp):=by
 have er:=qV b k l p e hp h
 rw[qlu]
 simp[er,he]
theorem Wn(p:Nat)(e:Int)(hp:Hp)(h:hp.rd b 0=some (Rc k l p e))(v:Value)(n s:Int)(c:Int):
 B60_6 (.ptr b 0 0) v (.int .u64 n) (.int .i64 s) (.int .u8 c) hp=some (.sc (.int .u64 0),hp.put b 0 (Rc k l p (rE e 4))):=by
 have fl:=Jd b k l p e hp 4 h
 have e7:=XR b k l p (rE e 4) (by unfold rE;split<;>simp_all) (hp.put b 0 (Rc k l p (rE e 4))) (qp _ _ _) v n s c
 rw[zct]
 simp[fl,e7]
def uF(most:Nat)(g:Nat×Nat×Int):Nat×Int:=if g.2.2≠0 then(0,g.2.2)else if most<g.1 then(0,7)else(g.1,0)
theorem zea(hm:most<18446744073709551616)(q s n c:Nat)(hp:Hp)(hc:c<256)(hs:s<=63)(hn:n<2^s)(hfit:n+c%128*2^s<18446744073709551616)(h:hp.rd b 0=some (Rc k l q 0)):
 B60_7 (.ptr b 0 0) (.int .u64 most) (.int .u64 n) (.int .i64 s) (.int .u8 c) hp=
  if c<128 then(if most<n+c*2^s then some (.sc (.int .u64 0),hp.put b 0 (Rc k l q 7))else some (.sc (.int .u64 ((n+c*2^s:Nat):Int)),hp))
  else B60_4 (.ptr b 0 0) (.int .u64 most) (.int .u64 ((n+(c-128)*2^s:Nat):Int)) (.int .i64 ((s+7:Nat):Int)) hp:=by
 have er:=qV b k l q 0 hp h
 have fl:=Jd b k l q 0 hp 7 h
 have an:=zj8 c hc
 have w:IntKind.u64.wrap ((c%128:Nat):Int)=((c%128:Nat):Int):=qu qe qe
 have sh:∀t x y,qx Tryz.prog .shl t x y (.int .u64 ((c%128:Nat):Int)) (.int .i64 (s:Int))=some (.int .u64 ((c%128*2^s:Nat):Int)):=by
  intro t x y
  rw[zW _ _ _ _ _ _ _ _ qe]
  have e:min (s:Int).toNat IntKind.u64.bits=s:=by
   have:IntKind.u64.bits=64:=rfl
   omega
  rw[e]
  have e2:((c%128:Nat):Int)*2^s=((c%128*2^s:Nat):Int):=qg
  rw[e2,qu qe qe]
 have oo:=zii n (c%128) s hn hfit
 have w7:IntKind.i64.wrap ((s:Int)+7)=((s+7:Nat):Int):=qj
 rw[qlu]
 by_cases h1:c<128
 ·have e1:c%128=c:=qe
  rw[e1]at an w sh oo
  have hlt:((c:Int)<128):=qe
  rw[if_pos h1]
  by_cases h2:most<n+c*2^s
  ·rw[if_pos h2]
   generalize c*2^s=y at*
   generalize hz:n+y=z at*
   have hlt2:(most:Int)<(z:Int):=qe
   simp[er,an,w,sh,oo,hlt,hlt2,fl,rE,-zm,-zR]
  ·rw[if_neg h2]
   generalize c*2^s=y at*
   generalize hz:n+y=z at*
   have hlt2:¬((most:Int)<(z:Int)):=qe
   simp[er,an,w,sh,oo,hlt,hlt2,-zm,-zR]
 ·have e1:c%128=c-128:=qe
  rw[e1]at an w sh oo
  have hlt:¬((c:Int)<128):=qe
  rw[if_neg h1]
  generalize(c-128)*2^s=y at*
  generalize hz:n+y=z at*
  generalize((c-128:Nat):Int)=c' at*
  generalize((s+7:Nat):Int)=s' at*
  simp[er,an,w,sh,oo,hlt,w7,-zm,-zR]
end
section
variable (b k:Nat)(l:List Int)(most:Nat)
theorem qm9(hm:most<18446744073709551616)(hl:l.length<=1000000000)(h8:∀c∈l,0<=c/\c<256)(p:Nat):∀(r:List Int) (u s n i:Nat) (hp:Hp),l.drop (p+u)=r->p+u<=l.length->s=7*i->i<=9->n<2^s->hp.rd b 0=some (Rc k l (p+u) 0)->
 B60_4 (.ptr b 0 0) (.int .u64 most) (.int .u64 n) (.int .i64 s) hp=some (.sc (.int .u64 ((uF most (gU r s n u)).1:Nat)),hp.put b 0 (Rc k l (p+(gU r s n u).2.1) (uF most (gU r s n u)).2)):=by
 intro r
 induction r with
 |nil=>
  intro u s n i hp hr hpu hs hi hn h
  have hle:=qK hr
  have hb:rB l (p+u) 0=(0,p+u,3):=by
   unfold rB rL rE
   rw[if_pos qi]
   simp
  have rb:=Je b k l (p+u) 0 hp hl hpu h
  rw[hb]at rb
  have g:gU [] s n u=(0,u,3):=rfl
  have f:uF most (0,u,3)=(0,3):=rfl
  rw[g,f]
  have e6:=Wn b k l (p+u) 3 (hp.put b 0 (Rc k l (p+u) 3)) (qp _ _ _) (.int .u64 most) n s 0
  have e7:=XR b k l (p+u) 3 qh (hp.put b 0 (Rc k l (p+u) 3)) (qp _ _ _) (.int .u64 most) n s 0
  have r34:rE 3 4=3:=rfl
  rw[qC,r34]at e6
  rw[XC]
  by_cases h63:s=63
  ·subst h63
   simp at e6
   simp[rb,e6]
  ·have hc:¬((s:Int)=63):=qe
   by_cases h0:s=0
   ·subst h0
    simp at e7
    simp[rb,e7]
   ·have hp0:0<s:=qe
    simp[rb,hc,hp0,e6]
 |cons c r ih=>
  intro u s n i hp hr hpu hs hi hn h
  obtain⟨e1,e2,hlt,e3⟩:=qt hr
  have hc8:=h8 c (zm6 e1)
  obtain⟨cn,rfl⟩:∃cn:Nat,c=cn:=⟨c.toNat,qe⟩
  have hb:rB l (p+u) 0=((cn:Int),p+u+1,0):=by
   unfold rB rL
   rw[if_neg qi]
   simp[hlt,e3]
  have rb:=Je b k l (p+u) 0 hp hl hpu h
  rw[hb]at rb
  have e6:=Wn b k l (p+u+1) 0 (hp.put b 0 (Rc k l (p+u+1) 0)) (qp _ _ _) (.int .u64 most) n s cn
  have r34:rE 0 4=4:=rfl
  rw[qC,r34]at e6
  have hs63:s<=63:=qe
  by_cases bad:(s=63/\1<(cn:Int))\/(0<s/\(cn:Int)=0)
  ·have g:gU ((cn:Int)::r) s n u=(0,u+1,4):=by unfold gU;rw[if_pos bad]
   have f:uF most (0,u+1,4)=(0,4):=rfl
   rw[g,f,XC]
   have hpu1:p+(u+1)=p+u+1:=qe
   rw[hpu1]
   by_cases h63:s=63
   ·subst h63
    by_cases h1:1<cn
    ·have h1':1<(cn:Int):=qe
     simp at e6
     simp[rb,h1',e6]
    ·have hc0:cn=0:=by
      rcases bad with⟨_,h2⟩|⟨_,h2⟩<;>omega
     subst hc0
     simp at e6
     simp[rb,e6]
   ·have hc:¬((s:Int)=63):=qe
    have hz:0<s/\cn=0:=by
     rcases bad with⟨h2,_⟩|⟨h2,h3⟩
     ·exact absurd h2 h63
     ·exact⟨h2,qe⟩
    obtain⟨hz1,hz2⟩:=hz
    subst hz2
    simp at e6
    simp[rb,hc,hz1,e6]
  ·have hfit:n+cn%128*2^s<18446744073709551616:=by
    by_cases h63:s=63
    ·subst h63
     have hc1:¬(1<(cn:Int)):=fun h2=>bad (.inl ⟨rfl,h2⟩)
     have e:(2:Nat)^63=9223372036854775808:=rfl
     rw[e]at hn⊢
     have:cn%128<=1:=qe
     omega
    ·have hs56:s<=56:=qe
     have h7:2^s<=2^56:=znv qh hs56
     have e:(2:Nat)^56=72057594037927936:=rfl
     rw[e]at h7
     have:cn%128*2^s<=127*72057594037927936:=zno qe h7
     omega
   have b7:=zea b k l most hm (p+u+1) s n cn (hp.put b 0 (Rc k l (p+u+1) 0)) qe hs63 hn hfit (qp _ _ _)
   have hpu1:p+(u+1)=p+u+1:=qe
   have step:B60_4 (.ptr b 0 0) (.int .u64 most) (.int .u64 n) (.int .i64 s) hp=B60_7 (.ptr b 0 0) (.int .u64 most) (.int .u64 n) (.int .i64 s) (.int .u8 cn) (hp.put b 0 (Rc k l (p+u+1) 0)):=by
    rw[XC]
    by_cases h63:s=63
    ·subst h63
     have h1:¬(1<cn):=fun h2=>bad (.inl ⟨rfl,qe⟩)
     have h2:¬(cn=0):=fun h2=>bad (.inr ⟨qe,qe⟩)
     have h1':¬(1<(cn:Int)):=qe
     simp[rb,h1',h2]
    ·have hc:¬((s:Int)=63):=qe
     by_cases h0:s=0
     ·subst h0
      simp[rb]
     ·have hp0:0<s:=qe
      have h2:¬(cn=0):=fun h2=>bad (.inr ⟨qe,qe⟩)
      simp[rb,hc,hp0,h2]
   rw[step,b7]
   by_cases h1:cn<128
   ·have g:gU ((cn:Int)::r) s n u=(n+cn*2^s,u+1,0):=by
     unfold gU;rw[if_neg bad,if_pos qe,zm3]
    rw[if_pos h1,g,qC]
    by_cases h2:most<n+cn*2^s
    ·have f:uF most (n+cn*2^s,u+1,0)=(0,7):=by unfold uF;simp[h2]
     rw[if_pos h2,f]
     simp only[hpu1];rfl
    ·have f:uF most (n+cn*2^s,u+1,0)=(n+cn*2^s,0):=by unfold uF;simp[h2]
     rw[if_neg h2,f]
     simp only[hpu1]
   ·have g:gU ((cn:Int)::r) s n u=gU r (s+7) (n+(cn-128)*2^s) (u+1):=by
     conv=>lhs;unfold gU
     rw[if_neg bad,if_neg qe,zm3]
    have hi9:i+1<=9:=by
     by_cases h63:s=63
     ·exact absurd (.inl ⟨h63,qe⟩) bad
     ·omega
    have hn7:n+(cn-128)*2^s<2^(s+7):=by
     have e:2^(s+7)=128*2^s:=by rw[zpj];omega
     rw[e]
     have:(cn-128)*2^s<=127*2^s:=zng _ qe
     omega
    rw[if_neg h1,g]
    have hh:=ih (u+1) (s+7) (n+(cn-128)*2^s) (i+1) (hp.put b 0 (Rc k l (p+u+1) 0)) (by rw[hpu1];exact e2) qe qe hi9 hn7 (by rw[hpu1];exact qp _ _ _)
    rw[qC]at hh
    exact hh
theorem qb6(p:Nat)(e:Int)(hm:most<18446744073709551616)(hl:l.length<=1000000000)(h8:∀c∈l,0<=c/\c<256)(hpl:p<=l.length)(hp:Hp)(h:hp.rd b 0=some (Rc k l p e)):
 run cxX 60 [.ptr b 0 0,.sc (.int .u64 (most:Int))] hp=some (.sc (.int .u64 ((rU l p e most).1:Nat)),hp.put b 0 (Rc k l (rU l p e most).2.1 (rU l p e most).2.2)):=by
 rw[E60]
 by_cases he:e=0
 ·subst he
  have hh:=qm9 b k l most hm hl h8 p (l.drop p) 0 0 0 0 hp rfl qe rfl qe qh h
  have er:rU l p 0 most=((uF most (gU (l.drop p) 0 0 0)).1,p+(gU (l.drop p) 0 0 0).2.1,(uF most (gU (l.drop p) 0 0 0)).2):=by
   unfold rU uF
   rw[if_neg qg]
   split
   ·rfl
   ·split<;>rfl
  rw[er]
  simpa using hh
 ·have er:rU l p e most=(0,p,e):=by unfold rU;rw[if_pos he]
  rw[er]
  have hb:rB l p e=(0,p,e):=by
   unfold rB rL rE
   simp[he]
  have rb:=Je b k l p e hp hl hpl h
  rw[hb,jk h]at rb
  have e7:=XR b k l p e he hp h (.int .u64 most) 0 0 0
  rw[jk h]
  simp[XC,rb,e7]
end
theorem zlg(l:List Int)(p:Nat)(e:Int)(most:Nat)(h8:∀c∈l,0<=c/\c<256):(rU l p e most).1<18446744073709551616:=by
 unfold rU
 split
 ·exact(by decide:0<18446744073709551616)
 ·split
  ·exact(by decide:0<18446744073709551616)
  ·rename_i h
   split
   ·exact(by decide:0<18446744073709551616)
   ·obtain⟨m,m1,_,_,_,m5⟩:=zly (l.drop p) 0 0 0 0 (fun c hc=>h8 c (zqc hc)) rfl qe (Classical.not_not.mp h)
    show(gU (l.drop p) 0 0 0).1<_
    rw[m1]
    simpa using m5
theorem zj9(n:Nat)(hn:n<18446744073709551616)(t:TypeId)(x y:Operand):qx Tryz.prog .and t x y (.int .u64 (n:Int)) (.int .u64 1)=some (.int .u64 ((n%2:Nat):Int)):=by
 rw[zm]
 have e2:(BitVec.ofInt IntKind.u64.bits (n:Int)&&&BitVec.ofInt IntKind.u64.bits 1).toNat=n%2:=by
  show(BitVec.ofInt 64 (n:Int)&&&1#64).toNat=_
  rw[zpr,znh]
  have e1:((n:Int)%((2^64:Nat):Int)).toNat=n:=qe
  rw[e1]
  exact Nat.and_one_is_mod n
 rw[e2,qu qe qe]
theorem qps(P:Program)(a:Int):unV P .neg (.int .i64 a)=some (.int .i64 (IntKind.i64.wrap (0-a))):=rfl
theorem qyd(b k:Nat)(l:List Int)(p:Nat)(e:Int)(hl:l.length<=1000000000)(h8:∀c∈l,0<=c/\c<256)(hpl:p<=l.length)(hp:Hp)(h:hp.rd b 0=some (Rc k l p e)):
 run cxX 116 [.ptr b 0 0] hp=some (.sc (.int .i64 (qmf (rU l p e 18446744073709551615).1)),hp.put b 0 (Rc k l (rU l p e 18446744073709551615).2.1 (rU l p e 18446744073709551615).2.2)):=by
 have ru:=qb6 b k l 18446744073709551615 p e qh hl h8 hpl hp h
 have hu:=zlg l p e 18446744073709551615 h8
 generalize rU l p e 18446744073709551615=q at*
 obtain⟨u,p',e'⟩:=q
 simp only at ru hu⊢
 have sh:∀t x y,qx Tryz.prog .shr t x y (.int .u64 (u:Int)) (.int .u64 1)=some (.int .u64 ((u/2:Nat):Int)):=by
  intro t x y
  rw[jI _ _ _ _ _ _ _ _ qe]
  congr 2
  rw[zoc _ qh]
  show(u:Int)/2=_
  omega
 have an:=zj9 u hu
 have w1:IntKind.i64.wrap ((u/2:Nat):Int)=((u/2:Nat):Int):=qm qe qe
 have w2:IntKind.i64.wrap ((u%2:Nat):Int)=((u%2:Nat):Int):=qm qe qe
 have lit:(.int .u64 18446744073709551615:Value)= .int .u64 ((18446744073709551615:Nat):Int):=rfl
 rw[E116]
 have fin:∀t x y,qx Tryz.prog .xor t x y (.int .i64 ((u/2:Nat):Int)) (.int .i64 (IntKind.i64.wrap (0-((u%2:Nat):Int))))=some (.int .i64 (qmf u)):=by
  intro t x y
  rw[xz]
  have hx:(BitVec.ofInt 64 ((u/2:Nat):Int)).toNat=u/2:=by rw[znh];omega
  by_cases h2:u%2=0
  ·have e0:IntKind.i64.wrap (0-((u%2:Nat):Int))=0:=by rw[h2];rfl
   have e1:(BitVec.ofInt IntKind.i64.bits ((u/2:Nat):Int)^^^BitVec.ofInt IntKind.i64.bits (IntKind.i64.wrap (0-((u%2:Nat):Int)))).toNat=u/2:=by
    rw[e0]
    show(BitVec.ofInt 64 ((u/2:Nat):Int)^^^0#64).toNat=_
    rw[BitVec.xor_zero,hx]
   rw[e1,w1]
   unfold qmf
   rw[if_pos h2]
  ·have e0:IntKind.i64.wrap (0-((u%2:Nat):Int))=-1:=by
    have:u%2=1:=qe
    rw[this];rfl
   have e1:(BitVec.ofInt IntKind.i64.bits ((u/2:Nat):Int)^^^BitVec.ofInt IntKind.i64.bits (IntKind.i64.wrap (0-((u%2:Nat):Int)))).toNat=18446744073709551615-u/2:=by
    rw[e0]
    have e2:BitVec.ofInt 64 (-1)=BitVec.allOnes 64:=qh
    show(BitVec.ofInt 64 ((u/2:Nat):Int)^^^BitVec.ofInt 64 (-1)).toNat=_
    rw[e2,BitVec.xor_allOnes,BitVec.toNat_not,hx]
   rw[e1]
   unfold qmf
   have hv:u/2<9223372036854775808:=qe
   generalize u/2=v at*
   have e3:IntKind.i64.wrap ((18446744073709551615-v:Nat):Int)=-(v:Int)-1:=by
    have e4:((18446744073709551615-v:Nat):Int)=18446744073709551615-(v:Int):=qe
    rw[e4,IntKind.wrap_i64]
    omega
   rw[if_neg h2,e3]
 generalize((u/2:Nat):Int)=c1 at*
 generalize((u%2:Nat):Int)=c2 at*
 generalize qmf u=z at*
 simp at ru
 simp only[Int.zero_sub]at fin
 simp[ru,sh,an,w1,w2,qps,fin,-zm,-xz]
def Fm(X:List Nat)(hp hp':Hp):Prop:=hp.next<=hp'.next/\∀c,c<hp.next->c∉X->hp'.get c=hp.get c
theorem Fm.refl(X:List Nat)(hp:Hp):Fm X hp hp:=⟨zmx _,fun _ _ _=>rfl⟩
theorem Fm.trans{X:List Nat}{a b c:Hp}(h:Fm X a b)(g:Fm X b c):Fm X a c:=
 ⟨zn7 h.1 g.1,fun x hx hn=>by rw[g.2 x (znc hx h.1) hn,h.2 x hx hn]⟩
theorem Fm.mono{X Y:List Nat}{a b:Hp}(h:Fm X a b)(hs:∀c,c∈X->c<a.next->c∈Y):Fm Y a b:=
 ⟨h.1,fun c hc hn=>h.2 c hc (fun hx=>hn (hs c hx hc))⟩
theorem xo{a b:Hp}{c:Nat}(h:b.get c=a.get c):b.rd c 0=a.rd c 0:=by unfold Hp.rd;rw[h]
theorem Fm.rd{X:List Nat}{a b:Hp}(h:Fm X a b){c:Nat}(hc:c<a.next)(hn:c∉X):b.rd c 0=a.rd c 0:=xo (h.2 c hc hn)
theorem Fm.put{X:List Nat}(hp:Hp)(b:Nat)(x:List AV)(hb:b∈X):Fm X hp (hp.put b 0 x):=
 ⟨zmx _,fun c _ hn=>by
  have:c≠b:=fun e=>hn (e▸hb)
  simp[Hp.put,this]⟩
theorem Fm.new(X:List Nat)(hp:Hp)(x:List AV):Fm X hp (hp.new x):=
 ⟨Nat.le_succ _,fun c hc _=>by
  have:c≠hp.next:=qe
  simp[Hp.new,this]⟩
theorem Fm.delNew{X:List Nat}(hp:Hp)(b:Nat)(x:List AV)(hb:b∈X):Fm X hp ((hp.del b).new x):=
 ⟨Nat.le_succ _,fun c hc hn=>by
  have h1:c≠hp.next:=qe
  have h2:c≠b:=fun e=>hn (e▸hb)
  have h3:c≠(hp.del b).next:=h1
  show(if c=(hp.del b).next then _ else(hp.del b).get c)=_
  rw[if_neg h3]
  show(if c=b then none else hp.get c)=_
  rw[if_neg h2]⟩
def Bs(nb:Nat)(bs:List Bool):AV:=if bs=[]then S 2 1 []else .ms nb 0 0 (pk bs).length 1
def BW(hp:Hp)(w nb:Nat)(bs:List Bool):Prop:=
 w<hp.next/\(bs=[]->nb=w)/\(bs≠[]->nb<hp.next/\nb≠w/\hp.rd nb 0=some (LI .u8 (pk bs)))/\hp.rd w 0=some [Bs nb bs,.sc (.int .i64 (bs.length:Int))]
def RW(hp:Hp)(w nb:Nat)(l:List Bool)(m:Nat):Prop:=
 w<hp.next/\nb<hp.next/\nb≠w/\hp.rd nb 0=some (LI .u8 (pk l))/\hp.rd w 0=some [.ms nb 0 0 (pk l).length 1,.sc (.int .i64 (m:Int))]
theorem BW.new(hp:Hp):BW (hp.new [S 2 1 [],.sc (.int .i64 0)]) hp.next hp.next []:=
 ⟨zqd _,fun _=>rfl,fun h=>absurd rfl h,by rw[qR];rfl⟩
theorem BW.fr{hp hp':Hp}{w nb:Nat}{bs:List Bool}{X:List Nat}(h:BW hp w nb bs)(f:Fm X hp hp')(h1:w∉X)(h2:nb∉X):BW hp' w nb bs:=
 ⟨znc h.1 f.1,h.2.1,fun hb=>⟨znc (h.2.2.1 hb).1 f.1,(h.2.2.1 hb).2.1,by rw[f.rd (h.2.2.1 hb).1 h2];exact(h.2.2.1 hb).2.2⟩,
  by rw[f.rd h.1 h1];exact h.2.2.2⟩
def BS(hp:Hp)(w nb:Nat)(hp':Hp)(nb':Nat)(l:List Bool):Prop:=BW hp' w nb' l/\Fm [w,nb] hp hp'/\(nb'=nb\/hp.next<=nb')
theorem BS.trans{a b c:Hp}{w n1 n2 n3:Nat}{l m:List Bool}(hw:w<a.next)(h:BS a w n1 b n2 l)(g:BS b w n2 c n3 m):BS a w n1 c n3 m:=by
 refine⟨g.1,⟨zn7 h.2.1.1 g.2.1.1,fun x hx hn=>?_⟩,?_⟩
 ·have hx':=znc hx h.2.1.1
  simp at hn
  rw[g.2.1.2 x hx' (by simp;refine⟨hn.1,?_⟩;rcases h.2.2 with e|e
                       ·rw[e];exact hn.2
                       ·omega),h.2.1.2 x hx (by simp;exact hn)]
 ·have:=h.2.1.1
  rcases h.2.2 with e|e
  ·rcases g.2.2 with e'|e'
   ·exact .inl (by rw[e',e])
   ·exact .inr qe
  ·rcases g.2.2 with e'|e'
   ·exact .inr qe
   ·exact .inr qe
theorem qgb(m:Nat)(t:TypeId)(x y:Operand):qx Tryz.prog .rem t x y (.int .i64 (m:Int)) (.int .i64 8)=some (.int .i64 ((m%8:Nat):Int)):=by
 rw[zk _ _ _ _ _ _ _ qe,zj qe]
 rfl
theorem qgd(m:Nat)(hm:m<1000000000)(t:TypeId)(x y:Operand):qx Tryz.prog .quo t x y (.int .i64 (m:Int)) (.int .i64 8)=some (.int .i64 ((m/8:Nat):Int)):=by
 rw[yx _ _ _ _ _ _ _ qe,zn2 qe,qm qe qe]
 rfl
theorem pkne{l:List Bool}(h:l≠[]):pk l≠[]:=by
 intro e
 have:=congrArg List.length e
 have h1:=zoe.mpr h
 simp at this
 omega
section
variable (w nb n:Nat)(v1:Value)(i:Nat)(bs:List Bool)(hp:Hp)
theorem zj0(hm:bs.length<7900000)(h:BW hp w nb bs):∃hp' nb',B166_2 (.ptr w 0 0) v1 (.int .i64 (i:Int)) hp=B166_6 (.ptr w 0 0) v1 (.int .i64 (i:Int)) hp'/\
 RW hp' w nb' (bs++[false]) bs.length/\Fm [w,nb] hp hp'/\(nb'=nb\/hp.next<=nb'):=by
 obtain⟨h1,h2,h3,h4⟩:=h
 have hi:(0:Int)<=(i:Int):=qe
 have r8:=qgb bs.length
 rw[qel]
 by_cases hz:bs.length%8=0
 ·have pf:=qi8 bs
  rw[if_pos hz]at pf
  rw[hz]at r8
  by_cases hb:bs=[]
  ·subst hb
   have e:Bs nb []=S 2 1 []:=rfl
   have r80:∀t x y,qx Tryz.prog .rem t x y (.int .i64 0) (.int .i64 8)=some (.int .i64 0):=fun t x y=>qgb 0 t x y
   rw[e]at h4
   have a:=QY .u8 0 1 qh hp
   have hne:w≠hp.next:=qe
   have r1:=zF hp (LI .u8 [0]) hne
   rw[h4]at r1
   refine⟨(hp.new (LI .u8 [0])).put w 0 [.ms hp.next 0 0 1 1,.sc (.int .i64 0)],hp.next,?_,?_,?_,.inr (zmx _)⟩
   ·simp[hi,h4,ql,qs,r80,yF,a,r1,qo]
   ·refine⟨qi,qg,fun e=>hne e.symm,?_,?_⟩
    ·rw[qB _ _ (fun e=>hne e.symm),qR];rfl
    ·rw[qp];rfl
   ·exact(Fm.new _ hp _).trans (Fm.put _ _ _ qg)
  ·obtain⟨n1,n2,n3⟩:=h3 hb
   have e:Bs nb bs= .ms nb 0 0 (pk bs).length 1:=if_neg hb
   rw[e]at h4
   have a:=ZR .u8 (pk bs) 0 1 nb qh (by rw[zZ];omega) (pkne hb) hp n3
   have hne:w≠hp.next:=qe
   have r1:((hp.del nb).new (LI .u8 (pk bs++[0]))).rd w 0=hp.rd w 0:=(Fm.delNew (X:=[nb]) hp nb _ qg).rd h1 (by simp;exact fun e=>n2 e.symm)
   rw[h4]at r1
   refine⟨((hp.del nb).new (LI .u8 (pk bs++[0]))).put w 0 [.ms hp.next 0 0 ((pk bs).length+1) 1,.sc (.int .i64 bs.length)],hp.next,?_,?_,?_,.inr (zmx _)⟩
   ·generalize pk bs=pb at*
    simp[hi,h4,ql,qs,r8,yF,a,r1,qo]
   ·refine⟨by simp[Hp.del];omega,by simp[Hp.del],fun e=>hne e.symm,?_,?_⟩
    ·rw[qB _ _ (fun e=>hne e.symm),pf];exact qR (hp.del nb) _
    ·rw[qp,pf,zmt];rfl
   ·exact(Fm.delNew hp nb _ qg).trans (Fm.put _ _ _ qg)
 ·have hb:bs≠[]:=fun e=>hz (by rw[e];rfl)
  obtain⟨n1,n2,n3⟩:=h3 hb
  have e:Bs nb bs= .ms nb 0 0 (pk bs).length 1:=if_neg hb
  rw[e]at h4
  have pf:=qi8 bs
  rw[if_neg hz]at pf
  refine⟨hp,nb,?_,⟨h1,n1,n2,by rw[pf];exact n3,by rw[pf];exact h4⟩,Fm.refl _ _,.inl rfl⟩
  have hz':¬(((bs.length%8:Nat):Int)=0):=qe
  generalize((bs.length%8:Nat):Int)=z at*
  simp[hi,h4,ql,r8,hz']
theorem zh5(m:Nat)(t:TypeId)(x y:Operand):qx Tryz.prog .shr t x y (.int .u8 128) (.int .i64 ((m%8:Nat):Int))=some (.int .u8 ((2^(7-m%8):Nat):Int)):=by
 rw[jI _ _ _ _ _ _ _ _ qe,zm3]
 have h:m%8<8:=zpt _ qh
 generalize m%8=r at*
 have:r=0\/r=1\/r=2\/r=3\/r=4\/r=5\/r=6\/r=7:=qe
 rcases this with e|e|e|e|e|e|e|e<;>subst e<;>rfl
theorem or8(bs:List Bool)(t:TypeId)(x y:Operand):qx Tryz.prog .or t x y (.int .u8 (by8 (bs++[false]) (8*(bs.length/8)):Nat)) (.int .u8 ((2^(7-bs.length%8):Nat):Int))=
 some (.int .u8 (by8 (bs++[true]) (8*(bs.length/8)):Nat)):=by
 rw[zR]
 have e:(BitVec.ofInt IntKind.u8.bits (by8 (bs++[false]) (8*(bs.length/8)):Nat)|||BitVec.ofInt IntKind.u8.bits ((2^(7-bs.length%8):Nat):Int)).toNat=by8 (bs++[true]) (8*(bs.length/8)):=by
  rw[<-zjv,zoq,zoq]
  rfl
 have:=qox (bs++[true]) (8*(bs.length/8))
 rw[e,zy qe qe]
theorem jN(K:IntKind)(l:List Int)(i:Nat)(h:i<l.length):ql (LI K l) i=some (.int K (l.getD i 0)):=by
 unfold ql LI
 rw[zne,zmv,zm0 h]
 rfl
theorem zjz(hn:n<18446744073709551616)(hi:i<64)(hm:bs.length<7900000)(h:RW hp w nb (bs++[false]) bs.length):
 ∃hp',B166_6 (.ptr w 0 0) (.int .u64 (n:Int)) (.int .i64 (i:Int)) hp=B166_8 (.ptr w 0 0) (.int .u64 (n:Int)) (.int .i64 (i:Int)) hp'/\
  RW hp' w nb (bs++[n.testBit i]) bs.length/\Fm [w,nb] hp hp':=by
 obtain⟨h1,h2,h3,h4,h5⟩:=h
 have s1:=fun o o'=>ZY n i qe o o' .i64
 have s2':=zj9 (n/2^i) (zog (zo5 _ _) hn)
 have tb:n.testBit i=decide (n/2^i%2=1):=zox
 rw[qwf]
 by_cases hb:n/2^i%2=1
 ·have s2:∀t x y,qx Tryz.prog .and t x y (.int .u64 ((n/2^i:Nat):Int)) (.int .u64 1)=some (.int .u64 1):=fun t x y=>by rw[s2',hb];rfl
  rw[tb,decide_eq_true hb]
  have q:=qgd bs.length qe
  have r:=qgb bs.length
  have s3:=zh5 bs.length
  have o8:=or8 bs
  have il:bs.length/8<(pk (bs++[false])).length:=by rw[zZ];simp;omega
  have ix:=zp .i64 il
  have g1:=jN .u8 (pk (bs++[false])) _ il
  rw[qgf _ _ qi]at g1
  have p1:=xp .u8 (pk (bs++[false])) (bs.length/8) (by8 (bs++[true]) (8*(bs.length/8)):Nat) il
  rw[<-zev]at p1
  have e:=zZ (bs++[true])
  have e2:(pk (bs++[true])).length=(pk (bs++[false])).length:=qg
  refine⟨hp.put nb 0 (LI .u8 (pk (bs++[true]))),?_,⟨h1,h2,h3,by rw[qp],by rw[qB _ _ (fun e=>h3 e.symm),h5,e2]⟩,Fm.put _ _ _ qg⟩
  generalize(by8 (bs++[false]) (8*(bs.length/8)):Nat)=x at*
  generalize(by8 (bs++[true]) (8*(bs.length/8)):Nat)=y at*
  generalize pk (bs++[false])=pf at*
  generalize pk (bs++[true])=pt at*
  generalize((2^(7-bs.length%8):Nat):Int)=zz at*
  generalize n/2^i=nn at*
  generalize bs.length/8=jj at*
  generalize bs.length%8=kk at*
  simp only[Yo,s1,zmw]
  have gs:∀(x:AV) (v:Value),ql [x,.sc v] 1=some v:=fun _ _=>rfl
  simp[s2,h5,qs,gs,q,ix,h4,g1,r,s3,o8,p1,-zR,-zm]
 ·have hz:n/2^i%2=0:=qe
  have s2:∀t x y,qx Tryz.prog .and t x y (.int .u64 ((n/2^i:Nat):Int)) (.int .u64 1)=some (.int .u64 0):=fun t x y=>by rw[s2',hz];rfl
  rw[tb,decide_eq_false hb]
  refine⟨hp,?_,⟨h1,h2,h3,h4,h5⟩,Fm.refl _ _⟩
  generalize n/2^i=nn at*
  simp only[Yo,s1,zmw]
  simp[s2,-zm]
theorem zjy(hm:bs.length<7900000)(b:Bool)(hi:i<64)(h:RW hp w nb (bs++[b]) bs.length):
 ∃hp',B166_8 (.ptr w 0 0) v1 (.int .i64 (i:Int)) hp=B166_2 (.ptr w 0 0) v1 (.int .i64 ((i:Int)-1)) hp'/\BW hp' w nb (bs++[b])/\Fm [w,nb] hp hp':=by
 obtain⟨h1,h2,h3,h4,h5⟩:=h
 have w1:IntKind.i64.wrap ((bs.length:Int)+1)=((bs.length:Int)+1):=qj
 have w2:IntKind.i64.wrap ((i:Int)-1)=((i:Int)-1):=qj
 have hne:bs++[b]≠[]:=qg
 refine⟨hp.put w 0 [.ms nb 0 0 (pk (bs++[b])).length 1,.sc (.int .i64 ((bs++[b]).length:Int))],?_,⟨h1,fun e=>absurd e hne,fun _=>⟨h2,h3,by rw[qB _ _ h3];exact h4⟩,?_⟩,Fm.put _ _ _ qg⟩
 ·rw[qwe]
  generalize pk (bs++[b])=pb at*
  simp[h5,ql,w1,w2,qo]
 ·rw[qp]
  unfold Bs
  rw[if_neg hne]
theorem qut(w n:Nat)(hn:n<18446744073709551616):∀(k nb:Nat) (bs:List Bool) (hp:Hp),k<=64->bs.length+k<7900000->BW hp w nb bs->
 ∃hp' nb',B166_2 (.ptr w 0 0) (.int .u64 (n:Int)) (.int .i64 ((k:Int)-1)) hp=some (.tup [],hp')/\BS hp w nb hp' nb' (bs++xW n k):=by
 intro k
 induction k with
 |zero=>
  intro nb bs hp hk hl h
  refine⟨hp,nb,?_,by simpa[xW]using h,Fm.refl _ _,.inl rfl⟩
  rw[qel]
  simp
 |succ k ih=>
  intro nb bs hp hk hl h
  obtain⟨hp1,nb1,a1,a2,a3,a4⟩:=zj0 w nb (.int .u64 (n:Int)) k bs hp qe h
  obtain⟨hp2,b1,b2,b3⟩:=zjz w nb1 n k bs hp1 hn qe qe a2
  obtain⟨hp3,c1,c2,c3⟩:=zjy w nb1 (.int .u64 (n:Int)) k bs hp2 qe _ qe b2
  obtain⟨hp4,nb4,d1,d2⟩:=ih nb1 (bs++[n.testBit k]) hp3 qe qi c2
  have e:((k+1:Nat):Int)-1=(k:Int):=qe
  have e2:bs++xW n (k+1)=bs++[n.testBit k]++xW n k:=by simp[xW]
  refine⟨hp4,nb4,by rw[e,a1,b1,c1,d1],?_⟩
  rw[e2]
  refine BS.trans h.1 (n2:=nb1) (b:=hp3) (l:=bs++[n.testBit k]) ⟨c2,?_,a4⟩ d2
  refine⟨zn7 a3.1 (zn7 b3.1 c3.1),fun c hc hn=>?_⟩
  have hc1:=znc hc a3.1
  have hc2:=znc hc1 b3.1
  have hn':c∉[w,nb1]:=by
   simp at hn⊢
   refine⟨hn.1,?_⟩
   rcases a4 with e|e
   ·rw[e];exact hn.2
   ·omega
  rw[c3.2 c hc2 hn',b3.2 c hc1 hn',a3.2 c hc hn]
theorem YL(w nb n k:Nat)(bs:List Bool)(hp:Hp)(hn:n<18446744073709551616)(hk:k<=64)(hl:bs.length+k<7900000)(h:BW hp w nb bs):
 ∃hp' nb',run cxX 166 [.ptr w 0 0,.sc (.int .u64 (n:Int)),.sc (.int .i64 (k:Int))] hp=some (.tup [],hp')/\BS hp w nb hp' nb' (bs++xW n k):=by
 obtain⟨hp',nb',h1,h2⟩:=qut w n hn k nb bs hp hk hl h
 refine⟨hp',nb',?_,h2⟩
 have m1:max (k:Int) 0=(k:Int):=qe
 have m2:min (k:Int) 64=(k:Int):=qe
 have w1:IntKind.i64.wrap ((k:Int)-1)=(k:Int)-1:=qj
 rw[E166]
 simp[m1,m2,w1,h1]
theorem qmg(w:Nat):∀(k nb:Nat) (bs:List Bool) (hp:Hp),bs.length+k<7800000->BW hp w nb bs->
 ∃hp' nb',B165_0 (.ptr w 0 0) (.int .i64 (k:Int)) hp=some (.tup [],hp')/\BS hp w nb hp' nb' (bs++una k):=by
 intro k
 induction k with
 |zero=>
  intro nb bs hp hl h
  obtain⟨hp1,nb1,a1,a2⟩:=YL w nb 0 1 bs hp qe qe qe h
  refine⟨hp1,nb1,?_,a2⟩
  rw[qem]
  simp at a1
  simp[a1]
 |succ k ih=>
  intro nb bs hp hl h
  obtain⟨hp1,nb1,a1,a2⟩:=YL w nb 1 1 bs hp qe qe qe h
  obtain⟨hp2,nb2,b1,b2⟩:=ih nb1 (bs++xW 1 1) hp1 qi a2.1
  have w2:IntKind.i64.wrap (((k+1:Nat):Int)-1)=(k:Int):=qj
  have hpos:((k+1:Nat):Int)>0:=qe
  have e:bs++una (k+1)=bs++xW 1 1++una k:=by simp[una,xW,zo3]
  refine⟨hp2,nb2,?_,by rw[e];exact a2.trans h.1 b2⟩
  rw[qem]
  generalize((k+1:Nat):Int)=z at*
  simp at a1
  simp[a1,hpos,w2,b1]
theorem qb4(w nb k:Nat)(bs:List Bool)(hp:Hp)(hl:bs.length+k<7800000)(h:BW hp w nb bs):
 ∃hp' nb',run cxX 165 [.ptr w 0 0,.sc (.int .i64 (k:Int))] hp=some (.tup [],hp')/\BS hp w nb hp' nb' (bs++una k):=by
 obtain⟨hp',nb',h1,h2⟩:=qmg w k nb bs hp hl h
 refine⟨hp',nb',?_,h2⟩
 rw[E165]
 simp[h1]
theorem QD(w nb:Nat)(bs:List Bool)(hp:Hp)(hl:bs.length<7900000)(h:BW hp w nb bs):
 ∃t hp',run cxX 167 [.ptr w 0 0] hp=some (S t 1 (LI .u8 (pk bs)),hp')/\Fm [] hp hp':=by
 obtain⟨h1,h2,h3,h4⟩:=h
 rw[E167]
 by_cases hb:bs=[]
 ·subst hb
  have e:Bs nb []=S 2 1 []:=rfl
  rw[e]at h4
  refine⟨1,hp,?_,Fm.refl _ _⟩
  have a:=qau 1 2 hp
  simp[h4,qs,yF,a,qzg]
 ·obtain⟨n1,n2,n3⟩:=h3 hb
  have e:Bs nb bs= .ms nb 0 0 (pk bs).length 1:=if_neg hb
  rw[e]at h4
  have s:=qhu .u8 (pk bs) hp nb n3
  have a:=Ve .u8 (pk bs) (.ms nb 0 0 (pk bs).length 1) 1 qh (by rw[zZ];omega) (pkne hb) hp s
  have f:=QT .u8 (pk bs) (hp.new (LI .u8 (pk bs))) hp.next (qR _ _)
  refine⟨0,(hp.new (LI .u8 (pk bs))).del hp.next,?_,⟨by simp[Hp.del],fun c hc _=>?_⟩⟩
  ·generalize pk bs=pb at*
   simp[h4,qs,yF,a,f]
  ·have:c≠hp.next:=qe
   simp[Hp.del,Hp.new,this]
end
abbrev Kv(K:Int)(x:AV):AV:=.agg [.sc (.int .i64 K),x]
theorem qju(K:Int)(q0 q1 p1:AV)(hp:Hp):∀(n:Nat) (a b acc:List Int) (k k':Nat),a.length+b.length=n->acc.length+n<=1000000->
 B43_3 (S k 1 (LI .u64 a)) (S k' 1 (LI .u64 b)) [.sc (.int .i64 K),p1] [q0,q1] [.sc (.int .i64 K),S 2 1 (LI .u64 acc)] hp=some (Kv K (S 2 1 (LI .u64 (acc++(mrg a b).take (K.toNat-acc.length)))),hp):=by
 intro n
 induction n using Nat.strongRecOn with
 |_ n ih=>
 intro a b acc k k' hn hlen
 have ap:∀x:Int,jm 8 1 (S 2 1 (LI .u64 acc)) (S 1 1 [.sc (.int .u64 x)])=some (S 2 1 (LI .u64 (acc++[x]))):=fun x=>QZ .u64 acc 2 (.inr rfl) 8 qh x qe
 have fin:B43_9 [q0,q1] [.sc (.int .i64 K),S 2 1 (LI .u64 acc)] hp=some (Kv K (S 2 1 (LI .u64 acc)),hp):=by
  rw[zc4]
  simp[qr,qo]
 rw[zc8]
 by_cases hK:(acc.length:Int)<K
 ·have hs:K.toNat-acc.length=(K.toNat-(acc.length+1))+1:=qe
  have goA:∀(x:Int) (r:List Int),r.length+1+b.length<=n->B43_6 (S k 1 (LI .u64 (x::r))) (S k' 1 (LI .u64 b)) [.sc (.int .i64 K),p1] [q0,q1] [.sc (.int .i64 K),S 2 1 (LI .u64 acc)] hp=some (Kv K (S 2 1 (LI .u64 (acc++(x::mrg r b).take (K.toNat-acc.length)))),hp):=by
   intro x r hle
   rw[zc6]
   have e:=vi (rk k) (LI .u64 (x::r)) .i64 1 qe (by simp only[wI,zmu];omega)
   have i:=fun k=>ih (r.length+b.length) qe r b (acc++[x]) k k' rfl (by simp only[zmt,zmu,znd];omega)
   simp at i
   rw[hs,zna]
   simp[qs,ql,ap,e,qo,i]
  have goB:∀(y:Int) (r:List Int),a.length+(r.length+1)<=n->B43_8 (S k 1 (LI .u64 a)) (S k' 1 (LI .u64 (y::r))) [.sc (.int .i64 K),p1] [q0,q1] [.sc (.int .i64 K),S 2 1 (LI .u64 acc)] hp=some (Kv K (S 2 1 (LI .u64 (acc++(y::mrg a r).take (K.toNat-acc.length)))),hp):=by
   intro x r hle
   rw[zc5]
   have e:=vi (rk k') (LI .u64 (x::r)) .i64 1 qe (by simp only[wI,zmu];omega)
   have i:=fun k'=>ih (a.length+r.length) qe a r (acc++[x]) k k' rfl (by simp only[zmt,zmu,znd];omega)
   simp at i
   rw[hs,zna]
   simp[qs,ql,ap,e,qo,i]
  have Qi:∀(x y:Int) (r s:List Int),r.length+s.length+2<=n->B43_4 (S k 1 (LI .u64 (x::r))) (S k' 1 (LI .u64 (y::s))) [.sc (.int .i64 K),p1] [q0,q1] [.sc (.int .i64 K),S 2 1 (LI .u64 acc)] hp=some (Kv K (S 2 1 (LI .u64 (acc++(x::mrg r s).take (K.toNat-acc.length)))),hp):=by
   intro x y r s hle
   rw[zc7]
   have e:=vi (rk k) (LI .u64 (x::r)) .i64 1 qe (by simp only[wI,zmu];omega)
   have e':=vi (rk k') (LI .u64 (y::s)) .i64 1 qe (by simp only[wI,zmu];omega)
   have i:=fun k k'=>ih (r.length+s.length) qe r s (acc++[x]) k k' rfl (by simp only[zmt,zmu,znd];omega)
   simp at i
   rw[hs,zna]
   simp[qs,ql,ap,e,e',qo,i]
  match a,b with
  |[],[]=>simp[qs,ql,hK,fin]
  |[],y::s=>
   have h:=goB y s (by simp at hn⊢;omega)
   simp at h
   have hw':IntKind.i64.wrap ((s.length:Int)+1)=(s.length:Int)+1:=qm qe (by simp at hn;omega)
   have p:(0:Int)<(s.length:Int)+1:=qe
   have z:¬((s.length:Int)+1=0):=qe
   simp[qs,ql,hK,hw',p,z,ZU,qa4,h]
  |x::r,[]=>
   have h:=goA x r (by simp at hn⊢;omega)
   simp at h
   have hw':IntKind.i64.wrap ((r.length:Int)+1)=(r.length:Int)+1:=qm qe (by simp at hn;omega)
   have p:(0:Int)<(r.length:Int)+1:=qe
   simp[qs,ql,hK,hw',p,ZU,h]
  |x::r,y::s=>
   have h1:=goA x r (by simp at hn⊢;omega)
   have h2:=goB y s (by simp at hn⊢;omega)
   have h3:=Qi x y r s (by simp at hn⊢;omega)
   have hw':IntKind.i64.wrap ((r.length:Int)+1+((s.length:Int)+1))=(r.length:Int)+1+((s.length:Int)+1):=qm qe (by simp at hn;omega)
   have p:(0:Int)<(r.length:Int)+1+((s.length:Int)+1):=qe
   have p':(0:Int)<(r.length:Int)+1:=qe
   have z:¬((s.length:Int)+1=0):=qe
   have z':¬((r.length:Int)+1=0):=qe
   rw[zV]
   by_cases hxy:x<y
   ·simp[qs,ql,hK,hw',p,p',z,z',hxy,h1,ZU]
   ·by_cases hyx:y<x
    ·simp[qs,ql,hK,hw',p,p',z,z',hxy,hyx,h2,ZU,qa4]
    ·simp[qs,ql,hK,hw',p,p',z,z',hxy,hyx,h3,ZU,qa4]
 ·have hs:K.toNat-acc.length=0:=qe
  simp[qs,ql,hK,fin,hs]
theorem qmz(K:Int)(B':AV)(a b:List Int)(k k':Nat)(hp:Hp)(hlen:a.length+b.length<=1000000):
 run cxX 43 [Kv K (S k 1 (LI .u64 a)),.agg [B',S k' 1 (LI .u64 b)]] hp=some (Kv K (S 2 1 (LI .u64 ((mrg a b).take K.toNat))),hp):=by
 rw[E43]
 have:=qju K (.sc (.int .i64 0)) (S 2 1 []) (S (rk k) 1 (LI .u64 a)) hp (a.length+b.length) a b [] (rk k) (rk k') rfl (by simpa using hlen)
 simp at this
 simp[ql,qs]
 exact this
theorem qyi(K:Int)(a:List Int)(n:Int)(k:Nat)(hp:Hp)(hlen:a.length+1<=1000000):
 run cxX 39 [Kv K (S k 1 (LI .u64 a)),.sc (.int .u64 n)] hp=some (Kv K (S 2 1 (LI .u64 ((mrg a [n]).take K.toNat))),hp):=by
 rw[E39]
 have m:=fun k k' hp=>qmz K (.sc (.int .i64 K)) a [n] k k' hp (by simpa using hlen)
 simp[LI]at m
 simp[ql,qr,qo,LI,m]
theorem qoa(B B':AV)(a b:List Int)(k k':Nat)(hab:a.length=b.length)(hl:a.length<=1000000)(hp:Hp):∀(r s:List Int) (i:Nat),a.drop i=r->b.drop i=s->
 B132_4 (.int .i64 a.length) (.int .i64 i) [B,S k 1 (LI .u64 a)] [B',S k' 1 (LI .u64 b)] hp=some (.sc (.bool (decide (r=s))),hp):=by
 intro r
 induction r with
 |nil=>
  intro s i hr hs
  have h1:=qK hr
  have h2:s=[]:=by rw[<-hs];exact zn1 qe
  have hlt:¬((i:Int)<(a.length:Int)):=qe
  rw[qe9]
  simp[hlt,h2]
 |cons x r ih=>
  intro s i hr hs
  obtain⟨e1,e2,hi,e3⟩:=qt hr
  rw[qe9]
  have hw:IntKind.i64.wrap ((i:Int)+1)=((i+1:Nat):Int):=qj
  cases s with
  |nil=>have:=qK hs;omega
  |cons y s=>
   obtain⟨f1,f2,hj,f3⟩:=qt hs
   have h:=ih s (i+1) e2 f2
   simp at h hw
   by_cases e:x=y
   ·simp[hi,hj,qs,ql,e3,f3,e,hw,h]
   ·simp[hi,hj,qs,ql,e3,f3,e]
theorem qsd(B B':Int)(a b:List Int)(k k':Nat)(hp:Hp)(ha:a.length<=1000000)(hb:b.length<=1000000):
 run cxX 132 [Kv B (S k 1 (LI .u64 a)),Kv B' (S k' 1 (LI .u64 b))] hp=some (.sc (.bool (decide (B=B'/\a=b))),hp):=by
 rw[E132]
 by_cases h1:B=B'
 ·by_cases h3:a.length=b.length
  ·have h:=qoa (.sc (.int .i64 B)) (.sc (.int .i64 B')) a b (rk k) (rk k') h3 ha hp a b 0 rfl rfl
   simp at h
   subst h1
   rw[h3]at h
   simp[ql,qs,h3,qw0,h]
  ·have h4:¬(a=b):=fun e=>h3 (by rw[e])
   have h5:¬((a.length:Int)=(b.length:Int)):=qe
   simp[ql,qs,h1,h4,h5,qfa]
 ·simp[ql,qs,h1,qfa]
def cut(few:Bool)(n:Int):Int:=if few then n%30 else n
theorem zam(K:Int)(few:Bool)(q0 q1:AV)(k:Nat)(l:List Int)(hK:K<=1000)(hl:l.length<=1000)(hpos:∀n∈l,0<=n)(hp:Hp):∀(r:List Int) (i:Nat) (acc:List Int) (k':Nat),l.drop i=r->acc.length<=1000->
 B32_3 (.bool few) (S k 1 (LI .u64 l)) (.int .i64 l.length) (.int .i64 i) [q0,q1] [.sc (.int .i64 K),S 2 1 (LI .u64 acc)] hp=some (Kv K (S 2 1 (LI .u64 (ZH K.toNat acc (r.map (cut few))))),hp):=by
 intro r
 induction r with
 |nil=>
  intro i acc k' hr ha
  have:=qK hr
  have hlt:¬((i:Int)<(l.length:Int)):=qe
  rw[ql6]
  simp[hlt,qr,qo,ZH]
 |cons x r ih=>
  intro i acc k' hr ha
  obtain⟨e1,e2,hi,e3⟩:=qt hr
  have hx:=hpos x (zm6 e1)
  have hw:IntKind.i64.wrap ((i:Int)+1)=((i+1:Nat):Int):=qj
  have h:=ih (i+1) ((mrg acc [cut few x]).take K.toNat) k' e2 (by rw[zny];omega)
  have d:=fun hp=>qyi K acc (cut few x) 3 hp qe
  have e7:B32_7 (.bool few) (.int .u64 (cut few x)) (S k 1 (LI .u64 l)) (.int .i64 l.length) (.int .i64 i) [q0,q1] [.sc (.int .i64 K),S 2 1 (LI .u64 acc)] hp=some (Kv K (S 2 1 (LI .u64 (ZH K.toNat acc ((x::r).map (cut few))))),hp):=by
   rw[zc9]
   simp at h hw
   simp[qr,qo,d,hw,h,ZH]
  rw[ql6]
  have hm:∀a b,qx Tryz.prog .rem 62 a b (.int .u64 x) (.int .u64 30)=some (.int .u64 (x%30)):=by
   intro a b;rw[zk _ _ _ _ _ _ _ qe,zj hx]
  cases few with
  |true=>
   simp[cut]at e7
   simp[hi,e3,ql,hm,e7,cut]
  |false=>
   simp[cut]at e7
   simp[hi,e3,ql,e7,cut]
theorem zd2(c:Int)(few:Bool)(l:List Int)(k:Nat)(hc:0<=c/\c<256)(hl:l.length<=1000)(hpos:∀n∈l,0<=n)(hp:Hp):
 run cxX 32 [.sc (.int .u8 c),S k 1 (LI .u64 l),.sc (.bool few)] hp=some (Kv (1+c%20) (S 2 1 (LI .u64 (ZH (1+c%20).toNat [] (l.map (cut few))))),hp):=by
 rw[E32]
 have h1:∀x y,qx Tryz.prog .rem 5 x y (.int .u8 c) (.int .u8 20)=some (.int .u8 (c%20)):=by
  intro x y;rw[zk _ _ _ _ _ _ _ qe,zj hc.1]
 have w1:IntKind.i64.wrap (c%20)=c%20:=qm qe qe
 have w2:IntKind.i64.wrap (1+c%20)=1+c%20:=qm qe qe
 have hq:=zam (1+c%20) few (.sc (.int .i64 0)) (S 2 1 []) (rk k) l qe hl hpos hp l 0 [] 2 rfl qg
 simp at hq
 simp[h1,jT,w1,w2,hq]
@[simp] theorem ro_fn(f:FuncId)(c:List AV):ro (.fn f c)= .fn f c:=rfl
def JY:List Int->Int
 |[]=>0
 |[_]=>0
 |x::y::r=>if y<=x then 8 else JY (y::r)
def qt0(K:Int)(l:List Int):Int:=if K<1\/1024<K then 2 else if K<(l.length:Int)then 7 else JY l
theorem qss(l:List Int)(k:Nat)(hl:l.length<=4096)(hp:Hp):∀(r:List Int) (x:Int) (j:Nat),l.drop j=x::r->
 B152_4 (S k 1 (LI .u64 l)) (.int .i64 ((j+1:Nat):Int)) hp=some (.sc (.int .i64 (JY (x::r))),hp):=by
 intro r
 induction r with
 |nil=>
  intro x j hr
  obtain⟨e1,e2,hi,e3⟩:=qt hr
  have:=qK e2
  have hlt:¬((j:Int)+1<(l.length:Int)):=qe
  rw[KA]
  simp[hlt,JY]
 |cons y r ih=>
  intro x j hr
  obtain⟨e1,e2,hi,e3⟩:=qt hr
  obtain⟨f1,f2,hj,f3⟩:=qt e2
  have hlt:(j:Int)+1<(l.length:Int):=qe
  have hw:IntKind.i64.wrap ((j:Int)+1+1)=(j:Int)+1+1:=qm qe qe
  have hw2:IntKind.i64.wrap ((j:Int)+1-1)=(j:Int):=qj
  have hge:(0:Int)<=(j:Int)+1:=qe
  have htn:((j:Int)+1).toNat=j+1:=qe
  have g:=ih y (j+1) e2
  rw[KA]
  simp at g hw2
  by_cases hq:y<=x
  ·simp[hlt,hge,htn,ql,f1,e1,hw2,hq,JY]
  ·simp[hlt,hge,htn,ql,f1,e1,hw2,hq,JY,hw,g]
theorem qh3(l:List Int)(k:Nat)(hl:l.length<=4096)(hp:Hp):run cxX 152 [S k 1 (LI .u64 l)] hp=some (.sc (.int .i64 (JY l)),hp):=by
 rw[E152]
 have h1:¬((4096:Int)<(l.length:Int)):=qe
 cases l with
 |nil=>
  rw[KA]
  simp[JY]
 |cons x r=>
  have g:=qss (x::r) k hl hp r x 0 rfl
  have h1:¬((4096:Int)<(r.length:Int)+1):=by simp at hl;omega
  simp at g
  simp[h1,g]
theorem qm0(K:Int)(l:List Int)(k:Nat)(hl:l.length<=1000000)(hp:Hp):run cxX 85 [Kv K (S k 1 (LI .u64 l))] hp=some (.sc (.int .i64 (qt0 K l)),hp):=by
 rw[E85]
 unfold qt0
 by_cases h1:K<1
 ·simp[ql,h1,qlk]
 ·by_cases h2:1024<K
  ·simp[ql,h1,h2,qlk]
  ·by_cases h3:K<(l.length:Int)
   ·simp[ql,qs,h1,h2,h3,qlj]
   ·simp[ql,qs,h1,h2,h3,qlj,qh3 l _ (show l.length<=4096 by omega)]
theorem xF(K:IntKind)(l:List Nat)(i:Nat)(h:i<l.length):(LI K (nz l))[i]?=some (.sc (.int K (l.getD i 0:Nat))):=by
 unfold LI nz
 rw[zne,zne,zmv,zm0 h]
 rfl
section
variable (l:List Nat)(k:Nat)(hl:l.length<=1000000)(h64:∀x∈l,x<18446744073709551616)(hr:qM l)
include hl h64 hr
theorem qp0(i:Nat)(hi:i<l.length)(hp:Hp):run cxX 164 [S k 1 (LI .u64 (nz l)),.sc (.int .i64 (i:Int))] hp=some (.sc (.int .u64 ((qw l).getD i 0:Nat)),hp):=by
 have g:=Xg l i hi
 have a0:=xF .u64 l 0 qe
 have ai:=xF .u64 l i hi
 rw[zmv,g,Option.getD_some,E164]
 by_cases h0:i=0
 ·subst h0
  rw[if_pos rfl]
  generalize l.getD 0 0=v at*
  simp[a0,ql]
 ·rw[if_neg h0]
  have aj:=xF .u64 l (i-1) qe
  have hlt:=vp l hr (i-1) qe
  have e:i-1+1=i:=qe
  rw[e]at hlt
  have hv:l.getD i 0<18446744073709551616:=by
   rw[zmv,zm0 hi]
   exact h64 _ (znb _)
  have w1:IntKind.i64.wrap ((i:Int)-1)=((i-1:Nat):Int):=qj
  have h0':¬((i:Int)=0):=qe
  have g0:(0:Int)<=((i-1:Nat):Int):=qe
  have g1:(0:Int)<=(i:Int):=qe
  generalize l.getD i 0=u at*
  generalize l.getD (i-1) 0=v at*
  have w2:IntKind.u64.wrap ((u:Int)-(v:Int))=(u:Int)-(v:Int):=qu qe qe
  have w3:IntKind.u64.wrap ((u:Int)-(v:Int)-1)=((u-v-1:Nat):Int):=by rw[qu]<;>omega
  have aj':(LI .u64 (nz l))[(((i-1:Nat):Int)).toNat]?=some (.sc (.int .u64 (v:Int))):=by rw[zm3];exact aj
  generalize((i-1:Nat):Int)=j at*
  generalize((u-v-1:Nat):Int)=z at*
  simp[h0,ai,aj',ql,w1,g0,w2,w3]
theorem qui(kk:Nat)(hkk:kk<=63)(hp:Hp):∀(r:List Nat) (i n:Nat),(qw l).drop i=r->n+r.length*4160<4611686018427387904->
 B180_3 (S k 1 (LI .u64 (nz l))) (.int .i64 (kk:Int)) (.int .i64 (n:Int)) (.int .i64 (l.length:Int)) (.int .i64 (i:Int)) hp=
  some (.tup [.sc (.int .i64 ((xg kk r n).1:Nat)),.sc (.bool (xg kk r n).2)],hp):=by
 intro r
 induction r with
 |nil=>
  intro i n h hn
  have h1:=qK h
  rw[ko]at h1
  have hlt:¬((i:Int)<(l.length:Int)):=qe
  rw[qd9]
  simp[hlt,xg]
 |cons g r ih=>
  intro i n h hn
  obtain⟨e1,e2,hi,e3⟩:=qt h
  have hi':i<l.length:=by have:=hi;simp at this;omega
  have hlt:(i:Int)<(l.length:Int):=qe
  have gp:=qp0 l (rk k) hl h64 hr i hi' hp0
  have eg:(qw l).getD i 0=g:=by rw[zmv,e1];rfl
  rw[eg]at gp
  have sh:=fun o o'=>ZY g kk qe o o' .i64
  rw[qd9]
  unfold xg
  generalize hq:g/2^kk=q at*
  by_cases hc:4096<q
  ·have hg:(4096:Int)<(q:Int):=qe
   simp[hlt,gp,sh,hg,hc]
  ·have hg:¬((4096:Int)<(q:Int)):=qe
   have w1:IntKind.i64.wrap (q:Int)=(q:Int):=qm qe qe
   have w2:IntKind.i64.wrap ((q:Int)+1)=(q:Int)+1:=qm qe qe
   have w3:IntKind.i64.wrap ((q:Int)+1+(kk:Int))=(q:Int)+1+(kk:Int):=qm qe qe
   simp only[zmu]at hn
   have w4:IntKind.i64.wrap ((n:Int)+((q:Int)+1+(kk:Int)))=((n+(q+1+kk):Nat):Int):=qj
   have w5:IntKind.i64.wrap ((i:Int)+1)=((i+1:Nat):Int):=qj
   have hi2:=ih (i+1) (n+(q+1+kk)) e2 qe
   rw[if_neg hc]
   generalize((n+(q+1+kk):Nat):Int)=N at*
   generalize((i+1:Nat):Int)=I at*
   simp[hlt,gp,sh,hg,xw,w1,w2,w3,w4,w5,hi2]
theorem qyx(kk:Nat)(hkk:kk<=63)(hp:Hp):run cxX 180 [S k 1 (LI .u64 (nz l)),.sc (.int .i64 (kk:Int))] hp=
 some (.tup [.sc (.int .i64 ((xg kk (qw l) 0).1:Nat)),.sc (.bool (xg kk (qw l) 0).2)],hp):=by
 have h:=qui l k hl h64 hr kk hkk hp (qw l) 0 0 rfl qi
 rw[E180]
 simp at h
 simp[h]
theorem qnj(hp:Hp):∀(f j b:Nat) (m:Int),j+f=64->b<=63->
 B124_3 (S k 1 (LI .u64 (nz l))) (.int .i64 (b:Int)) (.int .i64 m) (.int .i64 (j:Int)) hp=some (.sc (.int .i64 (Vi (qw l) f j b m:Nat)),hp):=by
 intro f
 induction f with
 |zero=>
  intro j b m hj hb
  have hlt:¬((j:Int)<64):=qe
  rw[qff]
  simp[hlt,Vi]
 |succ f ih=>
  intro j b m hj hb
  have hlt:(j:Int)<64:=qe
  have c:=qyx l (rk k) hl h64 hr j qe hp0
  have w5:IntKind.i64.wrap ((j:Int)+1)=((j+1:Nat):Int):=qj
  have i1:=ih (j+1) j (xg j (qw l) 0).1 qe qe
  have i2:=ih (j+1) b m qe hb
  have c8:∀v3 v4,B124_8 (S k 1 (LI .u64 (nz l))) v3 v4 (.int .i64 (j:Int)) hp=B124_3 (S k 1 (LI .u64 (nz l))) v3 v4 (.int .i64 ((j+1:Nat):Int)) hp:=by
   intro v3 v4
   rw[qw9]
   generalize((j+1:Nat):Int)=J at*
   simp[w5]
  rw[qff]
  unfold Vi
  simp only[zq5,zq6]at i1 i2 c8
  generalize xg j (qw l) 0=C at*
  obtain⟨c1,c2⟩:=C
  cases c2
  ·simp[hlt,c,c8,i2]
  ·by_cases h1:m<0
   ·simp[hlt,c,h1,qfe,c8,i1]
   ·by_cases h2:(c1:Int)<m
    ·simp[hlt,c,h1,h2,qfe,c8,i1]
    ·simp[hlt,c,h1,h2,c8,i2]
theorem qb8(hp:Hp):run cxX 124 [S k 1 (LI .u64 (nz l))] hp=some (.sc (.int .i64 (jd (qw l):Nat)),hp):=by
 have h:=qnj l k hl h64 hr hp 64 0 63 (-1) rfl qe
 rw[E124]
 simp at h
 simp[h,jd]
theorem qsr(kk w:Nat)(hkk:kk<=63)(hg:∀g∈qw l,g/2^kk<=4096):∀(r:List Nat) (i nb:Nat) (bs:List Bool) (hp:Hp),(qw l).drop i=r->i+r.length=l.length->bs.length+r.length*4160<7000000->BW hp w nb bs->
 ∃hp' nb',B104_7 (S k 1 (LI .u64 (nz l))) (.int .i64 (kk:Int)) (.ptr w 0 0) (.int .i64 (l.length:Int)) (.int .i64 (i:Int)) hp=
  B104_7 (S k 1 (LI .u64 (nz l))) (.int .i64 (kk:Int)) (.ptr w 0 0) (.int .i64 (l.length:Int)) (.int .i64 (l.length:Int)) hp'/\BS hp w nb hp' nb' (bs++jb kk r):=by
 intro r
 induction r with
 |nil=>
  intro i nb bs hp h hil hl2 hw
  have e:i=l.length:=by simpa using hil
  rw[e]
  exact⟨hp,nb,rfl,by simpa[jb]using hw,Fm.refl _ _,.inl rfl⟩
 |cons g r ih=>
  intro i nb bs hp h hil hl2 hw
  obtain⟨e1,e2,hi,e3⟩:=qt h
  simp only[zmu]at hl2 hil
  have hlt:(i:Int)<(l.length:Int):=qe
  have gp:=qp0 l (rk k) hl h64 hr i qe hp0
  have eg:(qw l).getD i 0=g:=by rw[zmv,e1];rfl
  rw[eg]at gp
  have hmem:g∈qw l:=by rw[<-e3];exact znb _
  have hq:=hg g hmem
  have hg64:=xu h64 g hmem
  have sh:=fun o o'=>ZY g kk qe o o' .i64
  have w1:IntKind.i64.wrap ((g/2^kk:Nat):Int)=((g/2^kk:Nat):Int):=(fun(q:Nat) (h:q<=4096)=>qm (z:=(q:Int)) qe qe) _ hq
  have w5:IntKind.i64.wrap ((i:Int)+1)=((i+1:Nat):Int):=qj
  obtain⟨hp1,nb1,a1,a2⟩:=qb4 w nb (g/2^kk) bs hp qe hw
  obtain⟨hp2,nb2,b1,b2⟩:=YL w nb1 g kk (bs++una (g/2^kk)) hp1 hg64 qe qi a2.1
  obtain⟨hp3,nb3,c1,c2⟩:=ih (i+1) nb2 (bs++una (g/2^kk)++xW g kk) hp2 e2 qe qi b2.1
  refine⟨hp3,nb3,?_,?_⟩
  ·rw[<-c1,qfk]
   generalize hqq:((g/2^kk:Nat):Int)=q at*
   generalize((i+1:Nat):Int)=I at*
   simp[hlt,gp,sh,hqq,xw,w1,a1,b1,w5]
  ·have e:bs++jb kk (g::r)=bs++una (g/2^kk)++xW g kk++jb kk r:=by simp[jb]
   rw[e]
   exact(a2.trans hw.1 b2).trans hw.1 c2
end
theorem qnk:∀(l:List Nat),JY (nz l)=0↔qM l:=by
 intro l
 induction l with
 |nil=>exact⟨fun _=>trivial,fun _=>rfl⟩
 |cons x r ih=>
  cases r with
  |nil=>exact⟨fun _=>trivial,fun _=>rfl⟩
  |cons y r=>
   have e:JY (nz (x::y::r))=if((y:Nat):Int)<=((x:Nat):Int)then 8 else JY (nz (y::r)):=rfl
   rw[e]
   by_cases h:y<=x
   ·rw[if_pos qe]
    exact⟨fun h=>absurd h qh,fun h'=>by have:=h'.1;omega⟩
   ·rw[if_neg qe]
    constructor
    ·intro h';exact⟨qe,ih.mp h'⟩
    ·intro h';exact ih.mpr h'.2
theorem qyc(l:List Nat)(k:Nat)(hl:l.length<=1024)(h64:∀x∈l,x<18446744073709551616)(hr:qM l)(hp:Hp):
 ∃t hp',run cxX 104 [S k 1 (LI .u64 (nz l))] hp=some (.tup [S t 1 (LI .u8 (zh l)),.sc (.int .i64 0)],hp')/\Fm [] hp hp':=by
 have rc:=qh3 (nz l) (rk k) qi hp0
 rw[(qnk l).mpr hr]at rc
 have pr:=qb8 l (rk k) qe h64 hr hp0
 obtain⟨k63,hq⟩:=QK (xu h64)
 have hbl:=Qc (jd (qw l)) k63 (qw l) hq
 rw[ko]at hbl
 have hlY:(pk (je (qw l))).length<700000:=by rw[zZ];unfold je;omega
 obtain⟨hp1,nb1,a1,a2⟩:=qsr l k qe h64 hr (jd (qw l)) hp.next k63 hq (qw l) 0 hp.next [] (hp.new [S 2 1 [],.sc (.int .i64 0)]) rfl qg qi (BW.new hp)
 obtain⟨a2,a3,a4⟩:=a2
 simp only[znn]at a2
 have hn1:hp.next<hp1.next:=by have:=a3.1;simp at this;omega
 --the bytes
 have wN:∀c,c<hp.next->hp1.get c=hp.get c:=by
  intro c hc
  rw[a3.2 c qi qi]
  exact(Fm.new [] hp _).2 c hc qg
 have hne:hp1.next≠hp.next:=qe
 have u1:=zY hp1.next l.length [] qe (by have:=qE (n:=l.length) qe;simp;omega) (hp1.new (Wc [])) (qR _ _)
 rw[qge,znn]at u1
 have u2:=jr hp1.next (uv l.length) (jd (qw l):Nat) (by have:=qE (n:=l.length) qe;omega) (hp1.new (Wc (uv l.length))) (qR _ _)
 rw[qge]at u2
 have BW2:∀x,BW (hp1.new x) hp.next nb1 (je (qw l)):=fun x=>a2.fr (Fm.new [] hp1 x) qg qg
 obtain⟨t1,hp2,v1,v2⟩:=QD hp.next nb1 (je (qw l)) (hp1.new (Wc (uv l.length++[(jd (qw l):Int)]))) (by unfold je;omega) (BW2 _)
 have r2:hp2.rd hp1.next 0=some (Wc (uv l.length++[(jd (qw l):Int)])):=by rw[v2.rd qg qg,qR]
 have hL:=qE (n:=l.length) qe
 have hL2:=qE (n:=(pk (je (qw l))).length) qe
 have u3:=zY hp1.next (pk (je (qw l))).length (uv l.length++[(jd (qw l):Int)]) qe (by simp only[zmt,zm5];omega) hp2 r2
 have BW3:=((BW2 _).fr v2 qg qg).fr (Fm.put (X:=[hp1.next]) hp2 hp1.next (Wc (uv l.length++[(jd (qw l):Int)]++uv (pk (je (qw l))).length)) qg) qi (by
  simp
  have:=a2.2.2.1
  by_cases hb:je (qw l)=[]
  ·have:=a2.2.1 hb;omega
  ·have:=(a2.2.2.1 hb).1;omega)
 obtain⟨t2,hp3,x1,x2⟩:=QD hp.next nb1 (je (qw l)) _ (by unfold je;omega) BW3
 have r3:hp3.rd hp1.next 0=some (Wc (uv l.length++[(jd (qw l):Int)]++uv (pk (je (qw l))).length)):=by
  rw[x2.rd (by have:=v2.1;simp at this⊢;omega) qg,qp]
 have u4:=wV hp1.next (uv l.length++[(jd (qw l):Int)]++uv (pk (je (qw l))).length) (pk (je (qw l))) (rk t2) (by simp only[zmt,zm5];omega) hp3 r3
 have u5:=VX hp1.next (zh l) (by unfold zh;simp only[zmt,zm5];omega) (hp3.put hp1.next 0 (Wc (zh l))) (qp _ _ _)
 refine⟨1,hp3.put hp1.next 0 (Wc (zh l)),?_,?_⟩
 ·have w3:IntKind.u8.wrap ((jd (qw l):Nat):Int)=((jd (qw l):Nat):Int):=zy qe qe
  have w4:IntKind.u64.wrap ((l.length:Nat):Int)=((l.length:Nat):Int):=qu qe qe
  have w6:IntKind.u64.wrap (((pk (je (qw l))).length:Nat):Int)=(((pk (je (qw l))).length:Nat):Int):=qu qe qe
  have w7:IntKind.u64.wrap ((((pk (je (qw l))).length:Nat):Int))=(((pk (je (qw l))).length:Nat):Int):=w6
  have e0:¬((l.length:Int)<(l.length:Int)):=qe
  have ey:uv l.length++[((jd (qw l):Nat):Int)]++uv (pk (je (qw l))).length++pk (je (qw l))=zh l:=rfl
  rw[ey]at u4
  rw[E104]
  simp only[Int.natCast_zero]at a1
  generalize jd (qw l)=kk at*
  generalize pk (je (qw l))=pb at*
  generalize zh l=Y at*
  generalize uv l.length=Z at*
  generalize uv pb.length=Z2 at*
  generalize Z++[(kk:Int)]++Z2=Q at*
  generalize Z++[(kk:Int)]=Q1 at*
  have b7:B104_7 (S k 1 (LI .u64 (nz l))) (.int .i64 (kk:Int)) (.ptr hp.next 0 0) (.int .i64 (l.length:Int)) (.int .i64 (l.length:Int)) hp1=some (.tup [S 1 1 (LI .u8 Y),.sc (.int .i64 0)],hp3.put hp1.next 0 (Wc Y)):=by
   rw[qfk]
   have wc0:Wc []=[S 2 1 []]:=rfl
   rw[wc0]at u1
   simp[w3,w4,w6,u1,u2,v1,u3,x1,u4,u5]
  rw[<-a1]at b7
  simp[rc,pr,b7]
 ·refine⟨by have:=v2.1;have:=x2.1;simp at *;omega,fun c hc _=>?_⟩
  have h1:c≠hp1.next:=qe
  have hv:=v2.1
  have hx:=x2.1
  simp at hv hx
  have e1:(hp3.put hp1.next 0 (Wc (zh l))).get c=hp3.get c:=by simp[Hp.put,h1]
  rw[e1,x2.2 c qi qg]
  have e2:∀x,(hp2.put hp1.next 0 x).get c=hp2.get c:=by intro x;simp[Hp.put,h1]
  rw[e2,v2.2 c qi qg]
  have e3:∀x,(hp1.new x).get c=hp1.get c:=by intro x;simp[Hp.new,h1]
  rw[e3,wN c hc]
theorem yY(K:IntKind)(x k:Nat)(hk:k<=K.bits)(t:TypeId)(o o':Operand)(K':IntKind):qx Tryz.prog .shr t o o' (.int K (x:Int)) (.int K' (k:Int))=some (.int K ((x/2^k:Nat):Int)):=by
 rw[jI _ _ _ _ _ _ _ _ qe,zm3,zpo hk,zoc _ (Int.le_of_lt (Int.pow_pos qe))]
 simp
theorem qn6(n last:Nat)(hn:n<=1000000)(hl:last<4294967296)(hp:Hp):∀(f k:Nat),k+f=33->k<=32->B128_2 (.int .i64 (n:Int)) (.int .u32 (last:Int)) (.int .i64 (k:Int)) hp=some (.sc (.int .i64 (Vj n last f k:Nat)),hp):=by
 intro f
 induction f with
 |zero=>intro k h h2;omega
 |succ f ih=>
  intro k h h2
  have w1:IntKind.u64.wrap (last:Int)=(last:Int):=qu qe qe
  have w2:IntKind.i64.wrap ((k:Int)+1)=((k+1:Nat):Int):=qj
  have w3:IntKind.u64.wrap (n:Int)=(n:Int):=qu qe qe
  have sh:=fun t o o'=>yY .u64 last (k+1) (by show k+1<=64;omega) t o o' .i64
  have b4:∀v,B128_4 v hp=some (.sc v,hp):=fun v=>by rw[qw2]
  rw[qw4]
  unfold Vj
  by_cases h0:0<n
  ·have h0':(n:Int)>0:=qe
   by_cases h1:n<=last/2^(k+1)
   ·by_cases hk:k=32
    ·subst hk
     have:last/2^33=0:=zp1 (znc hl qh)
     have e:(32:Nat)+1=33:=rfl
     rw[e,this]at h1
     omega
    ·have hi:=ih (k+1) qe qe
     have h1':((last/2^(k+1):Nat):Int)>=(n:Int):=qe
     rw[if_pos ⟨h0,h1⟩]
     generalize((last/2^(k+1):Nat):Int)=q at*
     generalize((k+1:Nat):Int)=k1 at*
     simp[h0,yw,w1,w2,sh,ym,w3,h1',qw3,hi]
   ·have h1':¬(((last/2^(k+1):Nat):Int)>=(n:Int)):=qe
    rw[if_neg (fun c=>h1 c.2)]
    generalize((last/2^(k+1):Nat):Int)=q at*
    generalize((k+1:Nat):Int)=k1 at*
    have h1'':¬((n:Int)<=q):=h1'
    simp[h0,yw,w1,w2,sh,ym,w3,h1'',b4]
  ·have h0':¬((n:Int)>0):=qe
   rw[if_neg (fun c=>h0 c.1)]
   simp[h0,b4]
theorem qcb(n last:Nat)(hn:n<=1000000)(hl:last<4294967296)(hp:Hp):run cxX 128 [.sc (.int .i64 (n:Int)),.sc (.int .u32 (last:Int))] hp=some (.sc (.int .i64 (WJ n last:Nat)),hp):=by
 have h:=qn6 n last hn hl hp 33 0 rfl qe
 rw[E128]
 simp at h
 simp[h,WJ]
theorem qns:∀(l:List Nat),zO l->∀i,i+1<l.length->l.getD i 0<=l.getD (i+1) 0:=by
 intro l
 induction l with
 |nil=>intro _ i h;simp at h
 |cons x r ih=>
  intro hr i h
  cases r with
  |nil=>simp at h
  |cons y r=>
   cases i with
   |zero=>exact hr.1
   |succ i=>exact ih hr.2 i (by simpa using h)
theorem BW.lt{hp:Hp}{w nb:Nat}{bs:List Bool}(h:BW hp w nb bs):nb<hp.next:=by
 by_cases hb:bs=[]
 ·rw[h.2.1 hb];exact h.1
 ·exact(h.2.2.1 hb).1
def W2(h0:Nat)(hp:Hp)(w1 n1:Nat)(b1:List Bool)(w2 n2:Nat)(b2:List Bool):Prop:=
 BW hp w1 n1 b1/\BW hp w2 n2 b2/\w1≠w2/\n1≠w2/\n1≠n2/\w1≠n2/\h0<=w1/\h0<=w2/\h0<=n1/\h0<=n2
theorem W2.one{h0:Nat}{hp hp':Hp}{w1 n1 n1' w2 n2:Nat}{b1 b2 b1':List Bool}(h:W2 h0 hp w1 n1 b1 w2 n2 b2)(s:BS hp w1 n1 hp' n1' b1'):W2 h0 hp' w1 n1' b1' w2 n2 b2/\∀c,c<h0->hp'.get c=hp.get c:=by
 obtain⟨a1,a2,d1,d2,d3,d4,e1,e2,e3,e4⟩:=h
 obtain⟨s1,s2,s3⟩:=s
 have l1:=a1.lt
 have l2:=a2.lt
 have l3:=a2.1
 have l4:=a1.1
 refine⟨⟨s1,a2.fr s2 qi qi,d1,qe,qe,d4,e1,e2,qe,e4⟩,fun c hc=>s2.2 c qe qi⟩
theorem W2.two{h0:Nat}{hp hp':Hp}{w1 n1 n2' w2 n2:Nat}{b1 b2 b2':List Bool}(h:W2 h0 hp w1 n1 b1 w2 n2 b2)(s:BS hp w2 n2 hp' n2' b2'):W2 h0 hp' w1 n1 b1 w2 n2' b2'/\∀c,c<h0->hp'.get c=hp.get c:=by
 obtain⟨a1,a2,d1,d2,d3,d4,e1,e2,e3,e4⟩:=h
 obtain⟨s1,s2,s3⟩:=s
 have l1:=a1.lt
 have l2:=a2.lt
 have l3:=a2.1
 have l4:=a1.1
 refine⟨⟨a1.fr s2 qi qi,s1,d1,d2,qe,qe,e1,e2,e3,qe⟩,fun c hc=>s2.2 c qe qi⟩
theorem qqy{l:List Nat}(h32:∀x∈l,x<4294967296)(i:Nat)(hi:i<l.length):l.getD i 0<4294967296:=by
 rw[zmv,zm0 hi]
 exact h32 _ (znb _)
section
variable (l:List Nat)(k k':Nat)(hl:l.length<=4096)(h32:∀x∈l,x<4294967296)(hr:zO l)
include hl h32 hr
theorem za9(kk w1 w2 h0:Nat)(hkk:kk<=32)(hq:qI l/2^kk<2*4096)(c0 c1:AV)(cs:List AV)(b2:List AV):∀(r:List Nat) (i p n1 n2:Nat) (bs1 bs2:List Bool) (hp:Hp),l.drop i=r->i+r.length=l.length->zO (p::r)->
 (i=0->p=0)->bs1.length+r.length*32<1000000->bs2.length+(qG kk (p/2^kk) r).length<1000000->W2 h0 hp w1 n1 bs1 w2 n2 bs2->
 ∃hp' n1' n2' v,B114_11 (S k 1 (LI .u32 (nz l))) (.ptr w1 0 0) (.ptr w2 0 0) (.int .u32 ((p/2^kk:Nat):Int)) (S k' 1 (LI .u32 (nz l))) (.int .i64 (l.length:Int)) (.int .i64 (i:Int)) b2 (c0::c1::.sc (.int .i64 (kk:Int))::cs) hp=
  B114_11 (S k 1 (LI .u32 (nz l))) (.ptr w1 0 0) (.ptr w2 0 0) v (S k' 1 (LI .u32 (nz l))) (.int .i64 (l.length:Int)) (.int .i64 (l.length:Int)) b2 (c0::c1::.sc (.int .i64 (kk:Int))::cs) hp'/\
  W2 h0 hp' w1 n1' (bs1++qN kk r) w2 n2' (bs2++qG kk (p/2^kk) r)/\(hp.next<=hp'.next/\∀c,c<h0->hp'.get c=hp.get c):=by
 intro r
 induction r with
 |nil=>
  intro i p n1 n2 bs1 bs2 hp h hil hpr hi0 hb1 hb2 hw
  have e:i=l.length:=by simpa using hil
  rw[e]
  exact⟨hp,n1,n2,_,rfl,by simpa[qN,qG]using hw,zmx _,fun _ _=>rfl⟩
 |cons x r ih=>
  intro i p n1 n2 bs1 bs2 hp h hil hpr hi0 hb1 hb2 hw
  obtain⟨e1,e2,hi,e3⟩:=qt h
  simp only[zmu]at hb1 hil
  have hlt:(i:Int)<(l.length:Int):=qe
  have ai:=xF .u32 l i hi
  have ex:l.getD i 0=x:=by rw[zmv,e1];rfl
  have hx:x<4294967296:=by rw[<-ex];exact qqy h32 i hi
  rw[ex]at ai
  have hd:p/2^kk<=x/2^kk:=zo9 hpr.1
  have hxq:x/2^kk<=x:=zo5 _ _
  have sh:=fun t o o'=>yY .u32 x kk (by show kk<=32;omega) t o o' .i64
  have hh:(qG kk (p/2^kk) (x::r)).length=(x/2^kk-p/2^kk)+1+(qG kk (x/2^kk) r).length:=by simp[qG]
  rw[hh]at hb2
  have w1':IntKind.u64.wrap (x:Int)=(x:Int):=qu qe qe
  have w2':IntKind.u32.wrap (((x/2^kk:Nat):Int)-((p/2^kk:Nat):Int))=((x/2^kk-p/2^kk:Nat):Int):=by rw[qJ]<;>omega
  have w3':IntKind.i64.wrap ((x/2^kk-p/2^kk:Nat):Int)=((x/2^kk-p/2^kk:Nat):Int):=qm qe qe
  have w5:IntKind.i64.wrap ((i:Int)+1)=((i+1:Nat):Int):=qj
  obtain⟨hp1,m1,a1,a2⟩:=YL w1 n1 x kk bs1 hp qe qe qe hw.1
  obtain⟨hw1,hg1⟩:=hw.one a2
  obtain⟨hp2,m2,b1,b3⟩:=qb4 w2 n2 (x/2^kk-p/2^kk) bs2 hp1 qe hw1.2.1
  obtain⟨hw2,hg2⟩:=hw1.two b3
  obtain⟨hp3,m3,m4,v,r1,c2,c3⟩:=ih (i+1) x m1 m2 (bs1++xW x kk) (bs2++una (x/2^kk-p/2^kk)) hp2 e2 qe hpr.2 qe qi qi hw2
  have f1:=a2.2.1.1
  have f2:=b3.2.1.1
  refine⟨hp3,m3,m4,v,?_,?_,qe,fun c hc=>by rw[c3.2 c hc,hg2 c hc,hg1 c hc]⟩
  ·have b15:B114_15 (S k 1 (LI .u32 (nz l))) (.ptr w1 0 0) (.ptr w2 0 0) (.int .u32 ((p/2^kk:Nat):Int)) (.int .u32 (x:Int)) (S k' 1 (LI .u32 (nz l))) (.int .i64 (l.length:Int)) (.int .i64 (i:Int)) b2 (c0::c1::.sc (.int .i64 (kk:Int))::cs) hp=
    B114_11 (S k 1 (LI .u32 (nz l))) (.ptr w1 0 0) (.ptr w2 0 0) v (S k' 1 (LI .u32 (nz l))) (.int .i64 (l.length:Int)) (.int .i64 (l.length:Int)) b2 (c0::c1::.sc (.int .i64 (kk:Int))::cs) hp3:=by
    rw[<-r1,qpo]
    generalize((x/2^kk-p/2^kk:Nat):Int)=d at*
    generalize((i+1:Nat):Int)=I at*
    generalize((p/2^kk:Nat):Int)=P at*
    generalize((x/2^kk:Nat):Int)=X at*
    have gs:∀(a b:AV) (v:Value) (c:List AV),ql (a::b::.sc v::c) 2=some v:=fun _ _ _ _=>rfl
    simp[gs,yw,w1',a1,sh,w2',xx,w3',b1,w5]
   rw[qbb,<-b15]
   have g1:(0:Int)<=(i:Int):=qe
   have gs0:∀(v:Value),ql [.sc v] 0=some v:=fun _=>rfl
   by_cases hi1:i=0
   ·have hi2:(0<i)=False:=by simp[hi1]
    have hi4:(i<l.length)=True:=by simp[hi]
    clear hi1
    generalize((p/2^kk:Nat):Int)=P at*
    have en:∀h,(nz l)[i]'h=(x:Int):=fun h=>by simp[nz,e3]
    simp[hi4,ai,gs0,hi2,en]
   ·have aj:=xF .u32 l (i-1) qe
    have hle:=qns l hr (i-1) qe
    have e:i-1+1=i:=qe
    rw[e,ex]at hle
    have w9:IntKind.i64.wrap ((i:Int)-1)=((i-1:Nat):Int):=qj
    have hi2:0<i:=qe
    have g0:(0:Int)<=((i-1:Nat):Int):=qe
    generalize l.getD (i-1) 0=y at*
    have hle':¬((x:Int)<(y:Int)):=qe
    have aj':(LI .u32 (nz l))[(((i-1:Nat):Int)).toNat]?=some (.sc (.int .u32 (y:Int))):=by rw[zm3];exact aj
    generalize((i-1:Nat):Int)=j at*
    generalize((p/2^kk:Nat):Int)=P at*
    simp[hlt,ai,gs0,hi2,w9,aj',g0,hle']
  ·have q1:bs1++qN kk (x::r)=bs1++xW x kk++qN kk r:=by simp[qN]
   have q2:bs2++qG kk (p/2^kk) (x::r)=bs2++una (x/2^kk-p/2^kk)++qG kk (x/2^kk) r:=by simp[qG]
   rw[q1,q2]
   exact c2
end
def vT(l:List Nat)(t1 t2:Nat):AV:=.agg [.sc (.int .i64 (l.length:Nat)),.sc (.int .u32 (qI l:Nat)),.sc (.int .i64 (qA l:Nat)),S t1 1 (LI .u8 (pk (qN (qA l) l))),S t2 1 (LI .u8 (pk (qG (qA l) 0 l)))]
theorem zbf:qA []=0:=rfl
section
variable (l:List Nat)(k:Nat)(hl:l.length<=4096)(h32:∀x∈l,x<4294967296)(hr:zO l)
include hl h32 hr
theorem xL(hne:l≠[]):qA l<=32/\qI l<4294967296/\(qG (qA l) 0 l).length<=3*4096:=by
 have hpos:=zoe.mpr hne
 have hlast:qI l<4294967296:=qqy h32 _ qe
 have h1:=qqk l.length (qI l) hlast
 have h2:=ZG hpos hlast
 have h3:=WM (qA l) l hr
 have h4:qA l=WJ l.length (qI l):=rfl
 rw[h4]at h3⊢
 exact⟨h1,hlast,qe⟩
theorem qp1(hp:Hp):∃t1 t2 hp',run cxX 114 [S k 1 (LI .u32 (nz l))] hp=some (.tup [vT l t1 t2,.sc (.int .i64 0)],hp')/\Fm [] hp hp':=by
 by_cases hne:l=[]
 ·subst hne
  refine⟨2,2,hp,?_,Fm.refl _ _⟩
  rw[E114]
  simp[vT,zbf,nz,LI,qN,qG,qzg,qI]
 ·obtain⟨k32,hlast,hhb⟩:=xL l hl h32 hr hne
  have hpos:=zoe.mpr hne
  have hlow:=qcb l.length (qI l) qe hlast hp0
  have e4:WJ l.length (qI l)=qA l:=rfl
  rw[e4]at hlow
  have hq:=ZG hpos hlast
  rw[e4]at hq
  have w1:IntKind.i64.wrap ((l.length:Int)-1)=((l.length-1:Nat):Int):=qj
  have al:=xF .u32 l (l.length-1) qe
  have e5:l.getD (l.length-1) 0=qI l:=rfl
  rw[e5]at al
  let hpA:=(hp.new [S 2 1 [],.sc (.int .i64 0)]).new [S 2 1 [],.sc (.int .i64 0)]
  have b1:BW hpA hp.next hp.next []:=(BW.new hp).fr (Fm.new [] _ _) qg qg
  have b2:BW hpA (hp.next+1) (hp.next+1) []:=BW.new (hp.new [S 2 1 [],.sc (.int .i64 0)])
  have hw:W2 hp.next hpA hp.next hp.next [] (hp.next+1) (hp.next+1) []:=⟨b1,b2,qe,qe,qe,qe,qe,qe,qe,qe⟩
  have hnA:hpA.next=hp.next+1+1:=rfl
  obtain⟨hp1,n1,n2,v,c1,c2,c3⟩:=za9 l k (rk k) hl h32 hr (qA l) hp.next (hp.next+1) hp.next k32 qe (.sc (.int .i64 (l.length:Int))) (.sc (.int .u32 (qI l:Nat))) [S 2 1 [],S 2 1 []]
   [.sc (.int .i64 0),.sc (.int .u32 0),.sc (.int .i64 0),S 2 1 [],S 2 1 []] l 0 0 hp.next (hp.next+1) [] [] hpA rfl qg (jE hr) (fun _=>rfl) qi (by rw[zqn];simp;omega) hw
  simp only[zqn,znn]at c1 c2
  obtain⟨t1,hp2,d1,d2⟩:=QD hp.next n1 (qN (qA l) l) hp1 (by simp;have:l.length*qA l<=4096*32:=zno hl k32;omega) c2.1
  obtain⟨t2,hp3,f1,f2⟩:=QD (hp.next+1) n2 (qG (qA l) 0 l) hp2 qe (c2.2.1.fr d2 qg qg)
  have hnx:hp.next<=hp3.next:=by have:=d2.1;have:=f2.1;have:=c3.1;omega
  refine⟨t1,t2,hp3,?_,hnx,fun c hc _=>?_⟩
  ·have b11:B114_11 (S k 1 (LI .u32 (nz l))) (.ptr hp.next 0 0) (.ptr (hp.next+1) 0 0) v (S (rk k) 1 (LI .u32 (nz l))) (.int .i64 (l.length:Int)) (.int .i64 (l.length:Int))
    [.sc (.int .i64 0),.sc (.int .u32 0),.sc (.int .i64 0),S 2 1 [],S 2 1 []] [.sc (.int .i64 (l.length:Int)),.sc (.int .u32 (qI l:Nat)),.sc (.int .i64 (qA l:Nat)),S 2 1 [],S 2 1 []] hp1=some (.tup [vT l t1 t2,.sc (.int .i64 0)],hp3):=by
    rw[qbb]
    unfold vT
    generalize pk (qN (qA l) l)=A at*
    generalize pk (qG (qA l) 0 l)=B at*
    simp[d1,f1,qo,qr]
   rw[<-c1]at b11
   have h1:¬((l.length:Int)>4096):=qe
   have h2:¬((l.length:Int)=0):=qe
   have g0:(0:Int)<=((l.length-1:Nat):Int):=qe
   have al':(nz l)[(((l.length-1:Nat):Int)).toNat]?=some ((qI l:Nat):Int):=by
    rw[zm3];unfold nz qI
    rw[zne,zmv,zm0 qe];rfl
   have gs0:∀(v:Value),ql [.sc v] 0=some v:=fun _=>rfl
   have gs1:∀(x:AV) (v:Value) (r:List AV),ql (x::.sc v::r) 1=some v:=fun _ _ _=>rfl
   have h1':¬((4096:Int)<(l.length:Int)):=qe
   rw[E114]
   generalize((l.length-1:Nat):Int)=j at*
   generalize vT l t1 t2=FR at*
   simp at b11
   simp[h1',hne,w1,al',g0,gs0,gs1,hlow]
   exact b11
  ·rw[f2.2 c (by have:=d2.1;have:=c3.1;omega) qg,d2.2 c (by have:=c3.1;omega) qg,c3.2 c hc]
   show((hp.new _).new _).get c=_
   have e1:c≠hp.next:=qe
   have e2:c≠hp.next+1:=qe
   simp[Hp.new,e1,e2]
theorem qyo(w t1 t2:Nat)(Z:List Int)(hZ:Z.length+(zB l).length<=1000000)(hp:Hp)(h:hp.rd w 0=some (Wc Z)):
 run cxX 115 [vT l t1 t2,.ptr w 0 0] hp=some (.tup [],hp.put w 0 (Wc (Z++zB l))):=by
 have hlast:qI l<4294967296:=by
  by_cases hne:l=[]
  ·subst hne;show(0:Nat)<_;omega
  ·exact(xL l hl h32 hr hne).2.1
 unfold vT
 have eY:zB l=uv l.length++uv (qI l)++pk (qN (qA l) l)++uv (pk (qG (qA l) 0 l)).length++pk (qG (qA l) 0 l):=rfl
 rw[eY]at hZ⊢
 generalize pk (qN (qA l) l)=A at*
 generalize pk (qG (qA l) 0 l)=B at*
 simp only[zmt]at hZ
 have u1:=zY w l.length Z qe qe hp h
 have u2:=zY w (qI l) (Z++uv l.length) qe (by simp only[zmt];omega) _ (qp hp w (Wc (Z++uv l.length)))
 rw[qC]at u2
 have u3:=wV w (Z++uv l.length++uv (qI l)) A (rk t1) (by simp only[zmt];omega) _ (qp hp w _)
 rw[qC]at u3
 have u4:=zY w B.length (Z++uv l.length++uv (qI l)++A) qe (by simp only[zmt];omega) _ (qp hp w _)
 rw[qC]at u4
 have u5:=wV w (Z++uv l.length++uv (qI l)++A++uv B.length) B (rk t2) (by simp only[zmt];omega) _ (qp hp w _)
 rw[qC]at u5
 have w1:IntKind.u64.wrap (l.length:Int)=(l.length:Int):=qu qe qe
 have w2:IntKind.u64.wrap ((qI l:Nat):Int)=((qI l:Nat):Int):=qu qe qe
 have w3:IntKind.u64.wrap (B.length:Int)=(B.length:Int):=qu qe qe
 have eZ:Z++(uv l.length++uv (qI l)++A++uv B.length++B)=Z++uv l.length++uv (qI l)++A++uv B.length++B:=by simp only[znf]
 rw[eZ]
 generalize Z++uv l.length++uv (qI l)++A++uv B.length++B=Z5 at*
 generalize Z++uv l.length++uv (qI l)++A++uv B.length=Z4 at*
 generalize Z++uv l.length++uv (qI l)++A=Z3 at*
 generalize Z++uv l.length++uv (qI l)=Z2 at*
 generalize Z++uv l.length=Z1 at*
 have gs1:∀(x:AV) (v:Value) (r:List AV),ql (x::.sc v::r) 1=some v:=fun _ _ _=>rfl
 have gs0:∀(v:Value) (r:List AV),ql (.sc v::r) 0=some v:=fun _ _=>rfl
 rw[E115]
 simp[gs0,gs1,qs,ym,w1,u1,yw,w2,u2,u3,w3,u4,u5]
end
theorem qdn(x c:Nat)(hx:x<18446744073709551616)(hc:c<18446744073709551616)(t:TypeId)(o o':Operand):qx Tryz.prog .and t o o' (.int .u64 (x:Int)) (.int .u64 (c:Int))=some (.int .u64 ((x&&&c:Nat):Int)):=by
 rw[zm]
 have hl:x&&&c<=x:=Nat.and_le_left
 have e:(BitVec.ofInt IntKind.u64.bits (x:Int)&&&BitVec.ofInt IntKind.u64.bits (c:Int)).toNat=x&&&c:=by
  show(BitVec.ofInt 64 (x:Int)&&&BitVec.ofInt 64 (c:Int)).toNat=_
  rw[zoq,zoq,zpr,zop,zop]
  rw[zoa qe,zoa qe]
 rw[e,qu qe qe]
theorem zl4(x:Nat)(hx:x<18446744073709551616):f1 8 x<18446744073709551616:=by
 unfold f1
 have e:mkB 85 8=6148914691236517205:=qh
 rw[e]
 have h1:(x/2)&&&6148914691236517205<=6148914691236517205:=zqw
 have h2:x&&&6148914691236517205<=6148914691236517205:=zqw
 omega
theorem zl3(x:Nat):f2 8 x<7378697629483820647:=by
 unfold f2
 have e:mkB 51 8=3689348814741910323:=qh
 rw[e]
 have h1:(x/4)&&&3689348814741910323<=3689348814741910323:=zqw
 have h2:x&&&3689348814741910323<=3689348814741910323:=zqw
 omega
theorem zgr(r:Nat)(hr:r<9223372036854775808)(t:TypeId)(o o':Operand):qx Tryz.prog .and t o o' (.int .i64 (r:Int)) (.int .i64 127)=some (.int .i64 ((r%128:Nat):Int)):=by
 rw[zm]
 have e9:(BitVec.ofInt IntKind.i64.bits (r:Int)&&&BitVec.ofInt IntKind.i64.bits ((127:Nat):Int)).toNat=r%128:=by
  show(BitVec.ofInt 64 (r:Int)&&&BitVec.ofInt 64 ((127:Nat):Int)).toNat=_
  rw[zoq,zoq,zpr,zop,zop,zoa (show r<2^64 by omega),zoa (show 127<2^64 by omega)]
  exact zpp r 7
 have i127:((127:Nat):Int)=127:=rfl
 rw[i127]at e9
 rw[e9,qm qe qe]
theorem qy9(x:Nat)(hx:x<18446744073709551616):∃y z q d e r:Nat,(x/2&&&6148914691236517205)+(x&&&6148914691236517205)=y/\y<18446744073709551616/\
 (y/4&&&3689348814741910323)+(y&&&3689348814741910323)=z/\z<7378697629483820647/\(z/16+z)&&&1085102592571150095=q/\q<651061555542690057/\q+q/256=d/\d+d/65536=e/\e+e/4294967296=r/\r<9223372036854775808/\r%128=zt x 64:=by
 have m1:mkB 85 8=6148914691236517205:=qh
 have m2:mkB 51 8=3689348814741910323:=qh
 have m3:mkB 15 8=1085102592571150095:=qh
 have h1:=zl4 x hx
 have h2:=zl3 (f1 8 x)
 have h3:=zji 8 x (znc hx qh)
 have cb:∀y,zt y 8<=8:=fun y=>vx y 8
 have hc:cB x 8=((((((zt (x/256/256/256/256/256/256/256%256) 8*256+zt (x/256/256/256/256/256/256%256) 8)*256+zt (x/256/256/256/256/256%256) 8)*256+zt (x/256/256/256/256%256) 8)*256+
  zt (x/256/256/256%256) 8)*256+zt (x/256/256%256) 8)*256+zt (x/256%256) 8)*256+zt (x%256) 8:=by
  simp only[cB,zpu,zm4]
 obtain⟨p1,d,hd,e,he,p2,p3⟩:=qza _ _ _ _ _ _ _ _ _ (cb _) (cb _) (cb _) (cb _) (cb _) (cb _) (cb _) (cb _) hc
 rw[<-qs7]at p3
 refine⟨f1 8 x,f2 8 (f1 8 x),cB x 8,d,e,_,?_,h1,?_,h2,?_,p1,hd.symm,he.symm,rfl,p2,p3⟩
 ·rw[<-m1];rfl
 ·rw[<-m2];rfl
 ·rw[<-h3,<-m3];rfl
noncomputable def qz0(k1 k2 k4 k8 k16 k32 c85 c51 c15 k127:Int)(a0:AV)(hp:Hp):Option (AV×Hp):=aS a0 fun y0=>bC .shr 62 3 y0 (.int .u64 k1) fun y1=>bC .and 62 4 y1 (.int .u64 c85) fun y2=>bC .and 62 6 y0 (.int .u64 c85) fun y3=>bT .add 62 5 7 y2 y3 fun y4=>bC .shr 62 9 y4 (.int .u64 k2) fun y5=>bC .and 62 10 y5 (.int .u64 c51) fun y6=>bC .and 62 12 y4 (.int .u64 c51) fun y7=>bT .add 62 11 13 y6 y7 fun y8=>bC .shr 62 15 y8 (.int .u64 k4) fun y9=>bT .add 62 16 17 y9 y8 fun y10=>bC .and 62 18 y10 (.int .u64 c15) fun y11=>bC .shr 62 21 y11 (.int .u64 k8) fun y12=>bT .add 62 20 22 y11 y12 fun y13=>bC .shr 62 25 y13 (.int .u64 k16) fun y14=>bT .add 62 24 26 y13 y14 fun y15=>bC .shr 62 29 y15 (.int .u64 k32) fun y16=>bT .add 62 28 30 y15 y16 fun y17=>cV 62 3 y17 fun y18=>bC .and 3 33 y18 (.int .i64 k127) fun y19=>rQ (.sc y19) hp
theorem ze7(a0:AV)(hp:Hp):run cxX 178 [a0] hp=qz0 (.ofNat 1) (.ofNat 2) (.ofNat 4) (.ofNat 8) (.ofNat 16) (.ofNat 32) (.ofNat 6148914691236517205) (.ofNat 3689348814741910323) (.ofNat 1085102592571150095) (.ofNat 127) a0 hp:=by
 delta qz0
 have h:=E178 a0 hp
 with_reducible exact h
theorem YG(x:Nat)(hx:x<18446744073709551616)(hp:Hp):run cxX 178 [.sc (.int .u64 (x:Int))] hp=some (.sc (.int .i64 (zt x 64:Nat)),hp):=by
 obtain⟨y,z,q,d,e,r,h1,b1,h2,b2,h3,b3,h4,h5,h6,b6,h7⟩:=qy9 x hx
 have k64:∀n:Nat,n<=64->n<=IntKind.u64.bits:=fun n h=>h
 have s1:=fun t o o'=>yY .u64 x 1 (k64 1 qe) t o o' .u64
 have a1:=qdn (x/2^1) 6148914691236517205 qe qe
 have a2:=qdn x 6148914691236517205 hx qe
 have s2:=fun t o o'=>yY .u64 y 2 (k64 2 qe) t o o' .u64
 have a3:=qdn (y/2^2) 3689348814741910323 qe qe
 have a4:=qdn y 3689348814741910323 b1 qe
 have s3:=fun t o o'=>yY .u64 z 4 (k64 4 qe) t o o' .u64
 have a5:=qdn (z/2^4+z) 1085102592571150095 qe qe
 have s4:=fun t o o'=>yY .u64 q 8 (k64 8 qe) t o o' .u64
 have s5:=fun t o o'=>yY .u64 d 16 (k64 16 qe) t o o' .u64
 have s6:=fun t o o'=>yY .u64 e 32 (k64 32 qe) t o o' .u64
 have a7:=zgr r b6
 rw[h7]at a7
 have d1:x/2^1=x/2:=qe
 have d2:y/2^2=y/4:=qe
 have d3:z/2^4=z/16:=qe
 have d4:q/2^8=q/256:=qe
 have d5:d/2^16=d/65536:=qe
 have d6:e/2^32=e/4294967296:=qe
 rw[d1]at s1 a1
 rw[d2]at s2 a3
 rw[d3]at s3 a5
 rw[d4]at s4
 rw[d5]at s5
 rw[d6]at s6
 rw[h3]at a5
 generalize(x/2&&&6148914691236517205)=u1 at*
 generalize(x&&&6148914691236517205)=u2 at*
 generalize(y/4&&&3689348814741910323)=u3 at*
 generalize(y&&&3689348814741910323)=u4 at*
 have w1:IntKind.u64.wrap ((u1:Int)+(u2:Int))=(y:Int):=by rw[qu]<;>omega
 have w2:IntKind.u64.wrap ((u3:Int)+(u4:Int))=(z:Int):=by rw[qu]<;>omega
 have w3:IntKind.u64.wrap (((z/16:Nat):Int)+(z:Int))=((z/16+z:Nat):Int):=by rw[qu]<;>omega
 have w4:IntKind.u64.wrap ((q:Int)+((q/256:Nat):Int))=(d:Int):=by rw[qu]<;>omega
 have w5:IntKind.u64.wrap ((d:Int)+((d/65536:Nat):Int))=(e:Int):=by rw[qu]<;>omega
 have w6:IntKind.u64.wrap ((e:Int)+((e/4294967296:Nat):Int))=(r:Int):=by rw[qu]<;>omega
 have w7:IntKind.i64.wrap (r:Int)=(r:Int):=qm qe qe
 have S1:∀t o o',qx Tryz.prog .shr t o o' (.int .u64 (x:Int)) (.int .u64 (Int.ofNat 1))=some (.int .u64 ((x/2:Nat):Int)):=s1
 have A1:∀t o o',qx Tryz.prog .and t o o' (.int .u64 ((x/2:Nat):Int)) (.int .u64 (Int.ofNat 6148914691236517205))=some (.int .u64 (u1:Int)):=a1
 have A2:∀t o o',qx Tryz.prog .and t o o' (.int .u64 (x:Int)) (.int .u64 (Int.ofNat 6148914691236517205))=some (.int .u64 (u2:Int)):=a2
 have S2:∀t o o',qx Tryz.prog .shr t o o' (.int .u64 (y:Int)) (.int .u64 (Int.ofNat 2))=some (.int .u64 ((y/4:Nat):Int)):=s2
 have A3:∀t o o',qx Tryz.prog .and t o o' (.int .u64 ((y/4:Nat):Int)) (.int .u64 (Int.ofNat 3689348814741910323))=some (.int .u64 (u3:Int)):=a3
 have A4:∀t o o',qx Tryz.prog .and t o o' (.int .u64 (y:Int)) (.int .u64 (Int.ofNat 3689348814741910323))=some (.int .u64 (u4:Int)):=a4
 have S3:∀t o o',qx Tryz.prog .shr t o o' (.int .u64 (z:Int)) (.int .u64 (Int.ofNat 4))=some (.int .u64 ((z/16:Nat):Int)):=s3
 have A5:∀t o o',qx Tryz.prog .and t o o' (.int .u64 ((z/16+z:Nat):Int)) (.int .u64 (Int.ofNat 1085102592571150095))=some (.int .u64 (q:Int)):=a5
 have S4:∀t o o',qx Tryz.prog .shr t o o' (.int .u64 (q:Int)) (.int .u64 (Int.ofNat 8))=some (.int .u64 ((q/256:Nat):Int)):=s4
 have S5:∀t o o',qx Tryz.prog .shr t o o' (.int .u64 (d:Int)) (.int .u64 (Int.ofNat 16))=some (.int .u64 ((d/65536:Nat):Int)):=s5
 have S6:∀t o o',qx Tryz.prog .shr t o o' (.int .u64 (e:Int)) (.int .u64 (Int.ofNat 32))=some (.int .u64 ((e/4294967296:Nat):Int)):=s6
 have A7:∀t o o',qx Tryz.prog .and t o o' (.int .i64 (r:Int)) (.int .i64 (Int.ofNat 127))=some (.int .i64 ((zt x 64:Nat):Int)):=a7
 rw[ze7]
 clear s1 s2 s3 s4 s5 s6 a1 a2 a3 a4 a5 a7 h1 h2 h3
 generalize Int.ofNat 6148914691236517205=c85 at*
 generalize Int.ofNat 3689348814741910323=c51 at*
 generalize Int.ofNat 1085102592571150095=c15 at*
 unfold qz0
 simp only[Yo]
 rw[kT,zmw,S1,zmw,A1,zmw,A2,zmw,yg,w1,zmw,S2,zmw,A3,zmw,A4,zmw,yg,w2,zmw,S3,zmw,yg,w3,zmw,A5,zmw,S4,zmw,yg,w4,zmw,S5,zmw,yg,w5,zmw,S6,zmw,yg,w6,zmw,xw,w7,zmw,A7,zmw]
def zX(m j:Nat):Nat:=m/2^(64*j)%18446744073709551616
theorem Qt(m j:Nat):zX m j<18446744073709551616:=zpt _ qh
theorem zdf(m i:Nat):(zX m (i/64)).testBit (i%64)=m.testBit i:=by
 unfold zX
 have e:(18446744073709551616:Nat)=2^64:=rfl
 rw[e,zm7,znu]
 have h:i%64<64:=zpt _ qh
 have e2:i%64+64*(i/64)=i:=qe
 simp only[h,decide_true,zqi]
 rw[e2]
abbrev Cc(c:Nat×Nat):List AV:=[.sc (.int .u32 (c.1:Int)),.sc (.int .u64 (zX c.2 0:Nat)),.sc (.int .u64 (zX c.2 1:Nat)),.sc (.int .u64 (zX c.2 2:Nat)),.sc (.int .u64 (zX c.2 3:Nat))]
theorem Qj(c:Nat×Nat)(j:Nat)(hj:j<4):ql (Cc c) (Nat.add 1 (Nat.add 0 j))=some (.int .u64 (zX c.2 j:Nat)):=by
 have:j=0\/j=1\/j=2\/j=3:=qe
 rcases this with e|e|e|e<;>subst e<;>rfl
theorem zb8:∀x:BitVec 8,(x&&&63#8).toNat=x.toNat%64:=qh
theorem zhi(c:Nat)(hc:c<256)(t:TypeId)(x y:Operand):qx Tryz.prog .and t x y (.int .u8 (c:Int)) (.int .u8 63)=some (.int .u8 ((c%64:Nat):Int)):=by
 rw[zm]
 have e1:(BitVec.ofInt 8 (c:Int)).toNat=c:=by
  rw[znh];omega
 have e2:(BitVec.ofInt IntKind.u8.bits (c:Int)&&&BitVec.ofInt IntKind.u8.bits 63).toNat=c%64:=by
  show(BitVec.ofInt 8 (c:Int)&&&63#8).toNat=_
  rw[zb8,e1]
 rw[e2,zy qe qe]
theorem Zs(c:Nat×Nat)(i:Nat)(hi:i<256)(hp:Hp):run cxX 122 [.agg (Cc c),.sc (.int .u8 (i:Int))] hp=some (.sc (.bool (c.2.testBit i)),hp):=by
 have s1:∀t o o',qx Tryz.prog .shr t o o' (.int .u8 (i:Int)) (.int .u64 6)=some (.int .u8 ((i/64:Nat):Int)):=fun t o o'=>yY .u8 i 6 qh t o o' .u64
 have ix:idx 4 (.int .u8 ((i/64:Nat):Int))=some (i/64):=zp .u8 qe
 have g:=Qj c (i/64) qe
 have a:=zhi i hi
 have s2:=fun t o o'=>yY .u64 (zX c.2 (i/64)) (i%64) (by show i%64<=64;omega) t o o' .u8
 have a2:=zj9 (zX c.2 (i/64)/2^(i%64)) (zog (zo5 _ _) (Qt _ _))
 have tb:=zdf c.2 i
 rw[zox]at tb
 rw[<-tb,E122]
 generalize zX c.2 (i/64)/2^(i%64)%2=q at*
 generalize((zX c.2 (i/64)/2^(i%64):Nat):Int)=q1 at*
 generalize((i%64:Nat):Int)=q2 at*
 generalize hq3:((i/64:Nat):Int)=q3 at*
 have cn:qn 5 (.agg (Cc c))=some (Cc c):=rfl
 have eqq:decide ((q:Int)=1)=decide (q=1):=by
  by_cases h:q=1
  ·simp[h]
  ·rw[decide_eq_false h,decide_eq_false qe]
 have mr:List.map ro1 (Cc c)=Cc c:=rfl
 have g':ql (Cc c) (1+i/64)=some (.int .u64 (zX c.2 (i/64):Nat)):=by have:=g;simpa using this
 simp only[Yo,cn,mr,zmw,kT]
 simp[s1,ix,g',a,s2,a2,-zm]
 omega
theorem qzj(m:Nat):zt m 256=zt (zX m 0) 64+zt (zX m 1) 64+zt (zX m 2) 64+zt (zX m 3) 64:=by
 have h:∀j,zt (zX m j) 64=zt (m/2^(64*j)) 64:=fun j=>qp6 _ 64 64 (zmx _)
 have a:=Jh m 192 64
 have b:=Jh m 128 64
 have c:=Jh m 64 64
 have e0:m/2^(64*0)=m:=qg
 rw[h,h,h,h,e0]
 have e1:192+64=256:=rfl
 have e2:128+64=192:=rfl
 have e3:64+64=128:=rfl
 rw[e1]at a
 rw[e2]at b
 rw[e3]at c
 rw[a,b,c]
theorem ixw(a b c d:Int):ixV Tryz.prog 174 (.agg #[.int .u64 a,.int .u64 b,.int .u64 c,.int .u64 d]) (.int .i64 0)=some (.int .u64 a)
 /\ixV Tryz.prog 174 (.agg #[.int .u64 a,.int .u64 b,.int .u64 c,.int .u64 d]) (.int .i64 1)=some (.int .u64 b)
 /\ixV Tryz.prog 174 (.agg #[.int .u64 a,.int .u64 b,.int .u64 c,.int .u64 d]) (.int .i64 2)=some (.int .u64 c)
 /\ixV Tryz.prog 174 (.agg #[.int .u64 a,.int .u64 b,.int .u64 c,.int .u64 d]) (.int .i64 3)=some (.int .u64 d):=⟨qf,qf,qf,qf⟩
theorem wW(c:Nat×Nat)(hp:Hp):run cxX 121 [.agg (Cc c)] hp=some (.sc (.int .i64 (zt c.2 256:Nat)),hp):=by
 have o0:=YG (zX c.2 0) (Qt _ _) hp0
 have o1:=YG (zX c.2 1) (Qt _ _) hp0
 have o2:=YG (zX c.2 2) (Qt _ _) hp0
 have o3:=YG (zX c.2 3) (Qt _ _) hp0
 have l0:=vx (zX c.2 0) 64
 have l1:=vx (zX c.2 1) 64
 have l2:=vx (zX c.2 2) 64
 have l3:=vx (zX c.2 3) 64
 obtain⟨i0,i1,i2,i3⟩:=ixw (zX c.2 0:Nat) (zX c.2 1:Nat) (zX c.2 2:Nat) (zX c.2 3:Nat)
 rw[qzj,E121]
 generalize zt (zX c.2 0) 64=n0 at*
 generalize zt (zX c.2 1) 64=n1 at*
 generalize zt (zX c.2 2) 64=n2 at*
 generalize zt (zX c.2 3) 64=n3 at*
 have w0:IntKind.i64.wrap (0+(n0:Int))=(n0:Int):=qj
 have w1:IntKind.i64.wrap ((n0:Int)+(n1:Int))=(n0:Int)+(n1:Int):=qj
 have w2:IntKind.i64.wrap ((n0:Int)+(n1:Int)+(n2:Int))=(n0:Int)+(n1:Int)+(n2:Int):=qj
 have w3:IntKind.i64.wrap ((n0:Int)+(n1:Int)+(n2:Int)+(n3:Int))=((n0+n1+n2+n3:Nat):Int):=qj
 have w00:IntKind.i64.wrap (n0:Int)=(n0:Int):=qj
 have cn:qn 5 (.agg (Cc c))=some (Cc c):=rfl
 have gn:qr (Cc c) 1 4=some [.sc (.int .u64 (zX c.2 0:Nat)),.sc (.int .u64 (zX c.2 1:Nat)),.sc (.int .u64 (zX c.2 2:Nat)),.sc (.int .u64 (zX c.2 3:Nat))]:=rfl
 have ca:∀a b c d:Int,xG (.agg [.sc (.int .u64 a),.sc (.int .u64 b),.sc (.int .u64 c),.sc (.int .u64 d)])=some (.agg #[.int .u64 a,.int .u64 b,.int .u64 c,.int .u64 d]):=fun _ _ _ _=>rfl
 generalize((n0+n1+n2+n3:Nat):Int)=N at*
 have b4:B121_3 (.int .i64 N) (.agg [.sc (.int .u64 (zX c.2 0:Nat)),.sc (.int .u64 (zX c.2 1:Nat)),.sc (.int .u64 (zX c.2 2:Nat)),.sc (.int .u64 (zX c.2 3:Nat))]) (.int .i64 4) hp=some (.sc (.int .i64 N),hp):=by
  rw[Qs];simp
 generalize((zX c.2 0:Nat):Int)=x0 at*
 generalize((zX c.2 1:Nat):Int)=x1 at*
 generalize((zX c.2 2:Nat):Int)=x2 at*
 generalize((zX c.2 3:Nat):Int)=x3 at*
 have mr:List.map ro1 (Cc c)=Cc c:=rfl
 simp only[Yo,cn,mr,gn,zmw]
 simp
 rw[Qs]
 simp[ca,i0,o0,w00]
 rw[Qs]
 simp[ca,i1,o1,w1]
 rw[Qs]
 simp[ca,i2,o2,w2]
 rw[Qs]
 simp[ca,i3,o3,w3,b4]
theorem qr1(c:Nat×Nat)(hp:Hp):∀(f i:Nat),i+f=256->B190_4 (.int .i64 (jz c.2 i:Nat)) (.bool (decide (0<i)&&c.2.testBit (i-1))) (.int .i64 (i:Int)) (Cc c) hp=some (.sc (.int .i64 (jz c.2 256:Nat)),hp):=by
 intro f
 induction f with
 |zero=>
  intro i h
  have e:i=256:=qe
  subst e
  rw[qd5]
  simp
 |succ f ih=>
  intro i h
  have hi:=ih (i+1) qe
  have hh:=Zs c i qe hp0
  have w1:IntKind.u8.wrap (i:Int)=(i:Int):=zy qe qe
  have w2:IntKind.i64.wrap ((i:Int)+1)=((i+1:Nat):Int):=qj
  have gn:qr (Cc c) 0 5=some (Cc c):=rfl
  have hlt:(i:Int)<256:=qe
  have hr:=JW c.2 i
  have hr2:=vx c.2 i
  have e1:jz c.2 (i+1)=jz c.2 i+(c.2.testBit i&&!(decide (0<i)&&c.2.testBit (i-1))).toNat:=rfl
  have e2:(decide (0<i+1)&&c.2.testBit (i+1-1))=c.2.testBit i:=qg
  rw[e1,e2]at hi
  have b9:∀n:Int,B190_9 (.int .i64 n) (.bool (c.2.testBit i)) (.int .i64 (i:Int)) (Cc c) hp=B190_4 (.int .i64 n) (.bool (c.2.testBit i)) (.int .i64 ((i+1:Nat):Int)) (Cc c) hp:=by
   intro n
   rw[qv1]
   generalize((i+1:Nat):Int)=I at*
   simp[w2]
  have w3:IntKind.i64.wrap ((jz c.2 i:Int)+1)=((jz c.2 i+1:Nat):Int):=qj
  have mr:List.map ro1 (Cc c)=Cc c:=rfl
  rw[qd5]
  generalize jz c.2 i=R at*
  generalize(decide (0<i)&&c.2.testBit (i-1))=was at*
  generalize hI:((i+1:Nat):Int)=I at*
  cases hb:c.2.testBit i
  ·rw[hb]at hi hh b9
   have hi':B190_4 (.int .i64 (R:Nat)) (.bool false) (.int .i64 I) (Cc c) hp=some (.sc (.int .i64 (jz c.2 256:Nat)),hp):=hi
   simp[hlt,gn,mr,yi,w1,hh,b9,hi']
  ·rw[hb]at hi hh b9
   cases was
   ·have hi':B190_4 (.int .i64 ((R+1:Nat):Int)) (.bool true) (.int .i64 I) (Cc c) hp=some (.sc (.int .i64 (jz c.2 256:Nat)),hp):=hi
    generalize((R+1:Nat):Int)=R1 at*
    simp[hlt,gn,mr,yi,w1,hh,qv2,w3,b9,hi']
   ·have hi':B190_4 (.int .i64 (R:Nat)) (.bool true) (.int .i64 I) (Cc c) hp=some (.sc (.int .i64 (jz c.2 256:Nat)),hp):=hi
    simp[hlt,gn,mr,yi,w1,hh,b9,hi']
theorem qh2(c:Nat×Nat)(hp:Hp):run cxX 190 [.agg (Cc c)] hp=some (.sc (.int .i64 (jz c.2 256:Nat)),hp):=by
 have h:=qr1 c hp 256 0 rfl
 have e:(decide (0<0)&&c.2.testBit (0-1))=false:=rfl
 rw[e]at h
 have e2:jz c.2 0=0:=rfl
 rw[e2]at h
 rw[E190]
 have cn:qn 5 (.agg (Cc c))=some (Cc c):=rfl
 have mr:List.map ro1 (Cc c)=Cc c:=rfl
 simp only[Yo,cn,mr,zmw]
 exact h
theorem qis(c:Nat×Nat)(hp:Hp):run cxX 177 [.agg (Cc c)] hp=some (.sc (.int .u8 (kind c.2:Nat)),hp):=by
 have m:=wW c hp0
 have r:=qh2 c hp0
 have h1:=vx c.2 256
 have h2:=JW c.2 256
 have cn:qn 5 (.agg (Cc c))=some (Cc c):=rfl
 have gn:qr (Cc c) 0 5=some (Cc c):=rfl
 have mr:List.map ro1 (Cc c)=Cc c:=rfl
 rw[E177]
 unfold kind
 generalize zt c.2 256=n at*
 generalize jz c.2 256=k at*
 obtain⟨A,hA⟩:∃A:Int,A=(n:Int)+1:=⟨_,rfl⟩
 obtain⟨T,hT⟩:∃T:Int,T=2*(k:Int):=⟨_,rfl⟩
 obtain⟨B,hB⟩:∃B:Int,B=2*(k:Int)+1:=⟨_,rfl⟩
 have w1:IntKind.i64.wrap ((n:Int)+1)=A:=qj
 have w2:IntKind.i64.wrap (2*(k:Int))=T:=qj
 have w3:IntKind.i64.wrap (T+1)=B:=qj
 have b3:B177_3 hp=some (.sc (.int .u8 0),hp):=by rw[qv8];simp
 have b4:B177_4 (.int .i64 B) hp=some (.sc (.int .u8 ((if 32<=2*k+1 then 1 else 2:Nat):Int)),hp):=by
  rw[qv7]
  by_cases h:32<=2*k+1
  ·have h':(32:Int)<=B:=qe
   rw[if_pos h]
   simp[h']
  ·have h':¬((32:Int)<=B):=qe
   rw[if_neg h]
   simp[h']
 by_cases d1:n+1<=32
 ·have c1:A<=32:=qe
  by_cases d2:n+1<=2*k+1
  ·have c2:A<=B:=qe
   rw[if_pos ⟨d1,d2⟩]
   simp[mr,gn,m,w1,r,w2,w3,c1,c2,b3]
  ·have c2:¬(A<=B):=qe
   rw[if_neg (fun h=>d2 h.2)]
   simp[mr,gn,m,w1,r,w2,w3,c1,c2]
   simp at b4
   exact b4
 ·have c1:¬(A<=32):=qe
  rw[if_neg (fun h=>d1 h.1)]
  simp[mr,gn,m,w1,r,w2,w3,c1]
  simp at b4
  exact b4
theorem zbq(c:Nat×Nat)(w:Nat):∀(f i:Nat) (Z:List Int) (hp:Hp),i+f=256->Z.length+f<=1000000->hp.rd w 0=some (Wc Z)->
 B158_17 (.ptr w 0 0) (.int .i64 (i:Int)) (Cc c) hp=some (.tup [],hp.put w 0 (Wc (Z++yD c.2 f i))):=by
 intro f
 induction f with
 |zero=>
  intro i Z hp h hZ hw
  have e:i=256:=qe
  subst e
  rw[qa6]
  simp[yD,jk hw]
 |succ f ih=>
  intro i Z hp h hZ hw
  have hh:=Zs c i qe hp0
  have w1:IntKind.u8.wrap (i:Int)=(i:Int):=zy qe qe
  have w2:IntKind.i64.wrap ((i:Int)+1)=((i+1:Nat):Int):=qj
  have gn:qr (Cc c) 0 5=some (Cc c):=rfl
  have hlt:(i:Int)<256:=qe
  have b21:∀hp',B158_21 (.ptr w 0 0) (.int .i64 (i:Int)) (Cc c) hp'=B158_17 (.ptr w 0 0) (.int .i64 ((i+1:Nat):Int)) (Cc c) hp':=by
   intro hp'
   rw[qpb]
   generalize((i+1:Nat):Int)=I at*
   simp[w2]
  have mr:List.map ro1 (Cc c)=Cc c:=rfl
  rw[qa6]
  unfold yD
  cases hb:c.2.testBit i
  ·rw[hb]at hh
   have hi:=ih (i+1) Z hp qe qe hw
   rw[<-b21]at hi
   simp[hlt,gn,mr,yi,w1,hh,hi]
  ·rw[hb]at hh
   have wb:=jr w Z (i:Int) qe hp hw
   have hi:=ih (i+1) (Z++[(i:Int)]) (hp.put w 0 (Wc (Z++[(i:Int)]))) qe qi (qp _ _ _)
   rw[qC,znf,<-b21]at hi
   have e1:[(i:Int)]++yD c.2 f (i+1)=(i:Int)::yD c.2 f (i+1):=rfl
   rw[e1]at hi
   generalize yD c.2 f (i+1)=AA at*
   simp[hlt,gn,mr,hh,yi,w1,wb]
   exact hi
theorem qxk(m i:Nat):(zX m (i/8)/2^(8*(i%8)))%256=m/2^(8*i)%256:=by
 apply zn5
 intro j
 have e:(256:Nat)=2^8:=rfl
 have e2:(18446744073709551616:Nat)=2^64:=rfl
 unfold zX
 rw[e,e2,zm7,zm7,znu,znu,zm7,znu]
 by_cases hj:j<8
 ·have h1:j+8*(i%8)<64:=qe
  have h2:j+8*(i%8)+64*(i/8)=j+8*i:=qe
  simp only[hj,h1,decide_true,zqi]
  rw[h2]
 ·simp[hj]
theorem zbp(c:Nat×Nat)(w:Nat):∀(f i:Nat) (Z:List Int) (hp:Hp),i+f=32->Z.length+f<=1000000->hp.rd w 0=some (Wc Z)->
 B158_24 (.ptr w 0 0) (.int .i64 (i:Int)) (Cc c) hp=some (.tup [],hp.put w 0 (Wc (Z++yB c.2 f i))):=by
 intro f
 induction f with
 |zero=>
  intro i Z hp h hZ hw
  have e:i=32:=qe
  subst e
  rw[qa5]
  simp[yB,jk hw]
 |succ f ih=>
  intro i Z hp h hZ hw
  have q:=qgd i qe
  have r:=qgb i
  have ix:idx 4 (.int .i64 ((i/8:Nat):Int))=some (i/8):=zp .i64 qe
  have g:=Qj c (i/8) qe
  have w1:IntKind.i64.wrap (8*((i%8:Nat):Int))=((8*(i%8):Nat):Int):=qj
  have s:=fun t o o'=>yY .u64 (zX c.2 (i/8)) (8*(i%8)) (by show 8*(i%8)<=64;omega) t o o' .i64
  have w2:IntKind.i64.wrap ((i:Int)+1)=((i+1:Nat):Int):=qj
  have hlt:(i:Int)<32:=qe
  have wdb:=qxk c.2 i
  have w3:IntKind.u8.wrap ((zX c.2 (i/8)/2^(8*(i%8)):Nat):Int)=((c.2/2^(8*i)%256:Nat):Int):=by
   rw[wS,<-wdb]
   omega
  have wb:=jr w Z ((c.2/2^(8*i)%256:Nat):Int) qe hp hw
  have hi:=ih (i+1) (Z++[((c.2/2^(8*i)%256:Nat):Int)]) (hp.put w 0 (Wc (Z++[((c.2/2^(8*i)%256:Nat):Int)]))) qe qi (qp _ _ _)
  rw[qC,znf]at hi
  have e:yB c.2 (f+1) i=[((c.2/2^(8*i)%256:Nat):Int)]++yB c.2 f (i+1):=rfl
  rw[e,<-hi,qa5]
  generalize((c.2/2^(8*i)%256:Nat):Int)=y at*
  generalize((zX c.2 (i/8)/2^(8*(i%8)):Nat):Int)=x at*
  generalize((zX c.2 (i/8):Nat):Int)=x0 at*
  generalize((8*(i%8):Nat):Int)=x1 at*
  generalize((i%8:Nat):Int)=x2 at*
  generalize((i/8:Nat):Int)=x3 at*
  generalize((i+1:Nat):Int)=x4 at*
  have g':ql (Cc c) (1+i/8)=some (.int .u64 x0):=by have:=g;simpa using this
  simp[hlt,q,ix,g',r,w1,s,Xm,w3,wb,w2]
theorem zbo(c:Nat×Nat)(w:Nat)(i0:Nat):∀(f i:Nat) (hp:Hp),i+f=255->B158_11 (.ptr w 0 0) (.int .i64 (i:Int)) (.int .i64 (i0:Int)) (Cc c) hp=
 B158_13 (.ptr w 0 0) (.int .i64 (yu c.2 f i:Nat)) (.int .i64 (i0:Int)) (Cc c) hp:=by
 intro f
 induction f with
 |zero=>
  intro i hp h
  have e:i=255:=qe
  subst e
  rw[qa7]
  simp[yu]
 |succ f ih=>
  intro i hp h
  have hh:=Zs c (i+1) qe hp0
  have w1:IntKind.u8.wrap ((i+1:Nat):Int)=((i+1:Nat):Int):=zy qe qe
  have w2:IntKind.i64.wrap ((i:Int)+1)=((i+1:Nat):Int):=qj
  have gn:qr (Cc c) 0 5=some (Cc c):=rfl
  have hlt:(i:Int)<255:=qe
  have hi:=ih (i+1) hp qe
  rw[qa7]
  unfold yu
  have mr:List.map ro1 (Cc c)=Cc c:=rfl
  generalize((i+1:Nat):Int)=I at*
  cases hb:c.2.testBit (i+1)
  ·rw[hb]at hh
   simp[hlt,gn,mr,w2,yi,w1,hh]
  ·rw[hb]at hh
   simp[hlt,gn,mr,w2,yi,w1,hh,qpd,hi]
theorem qug(c:Nat×Nat)(w:Nat):∀(f i:Nat) (Z:List Int) (hp:Hp),256<=i+f->i<=256->Z.length+2*f<=1000000->hp.rd w 0=some (Wc Z)->
 B158_7 (.ptr w 0 0) (.int .i64 (i:Int)) (Cc c) hp=some (.tup [],hp.put w 0 (Wc (Z++kC c.2 f i))):=by
 intro f
 induction f with
 |zero=>
  intro i Z hp h hi256 hZ hw
  have e:i=256:=qe
  subst e
  rw[Ky]
  simp[kC,jk hw]
 |succ f ih=>
  intro i Z hp h hi256 hZ hw
  unfold kC
  by_cases h1:256<=i
  ·have hlt:¬((i:Int)<256):=qe
   rw[if_pos h1,Ky]
   simp[hlt,jk hw]
  ·have hlt:(i:Int)<256:=qe
   have hh:=Zs c i qe hp0
   have w1:IntKind.u8.wrap (i:Int)=(i:Int):=zy qe qe
   have gn:qr (Cc c) 0 5=some (Cc c):=rfl
   have b8:∀(j:Nat) hp',j<=255->B158_8 (.ptr w 0 0) (.int .i64 (j:Int)) (Cc c) hp'=B158_7 (.ptr w 0 0) (.int .i64 ((j+1:Nat):Int)) (Cc c) hp':=by
    intro j hp' hj
    have w2:IntKind.i64.wrap ((j:Int)+1)=((j+1:Nat):Int):=qj
    rw[qwi]
    generalize((j+1:Nat):Int)=I at*
    simp[w2]
   have mr:List.map ro1 (Cc c)=Cc c:=rfl
   rw[if_neg h1,Ky]
   cases hb:c.2.testBit i
   ·rw[hb]at hh
    have hi:=ih (i+1) Z hp qe qe qe hw
    have b8':=b8 i hp qe
    rw[<-b8']at hi
    simp[hlt,gn,mr,yi,w1,hh]
    exact hi
   ·rw[hb]at hh
    have ce:=zbo c w i (255-i) i hp qe
    obtain⟨r1,r2,r3,r4⟩:=wg c.2 (255-i) i
    have b8':=fun hp'=>b8 (yu c.2 (255-i) i) hp' qe
    generalize yu c.2 (255-i) i=e at*
    have w3:IntKind.i64.wrap ((e:Int)-(i:Int))=((e-i:Nat):Int):=qj
    have w4:IntKind.u8.wrap ((e-i:Nat):Int)=((e-i:Nat):Int):=zy qe qe
    have wp:=wV w Z [(i:Int),((e-i:Nat):Int)] 0 qi hp hw
    have hi:=ih (e+1) (Z++[(i:Int),((e-i:Nat):Int)]) (hp.put w 0 (Wc (Z++[(i:Int),((e-i:Nat):Int)]))) qe qe qi (qp _ _ _)
    rw[qC,znf]at hi
    have b13:B158_13 (.ptr w 0 0) (.int .i64 (e:Int)) (.int .i64 (i:Int)) (Cc c) hp=some (.tup [],hp.put w 0 (Wc (Z++([(i:Int),((e-i:Nat):Int)]++kC c.2 f (e+1))))):=by
     rw[qpc,<-hi,<-b8']
     generalize((e-i:Nat):Int)=d at*
     have eS:S 0 1 (LI .u8 [(i:Int),d])=AV.sl 1 [.sc (.int .u8 (i:Int)),.sc (.int .u8 d)]:=rfl
     rw[eS]at wp
     simp[yi,w1,w3,w4,yF]
     simp at wp
     simp[wp]
    simp[hlt,gn,mr,yi,w1,hh,ce]
    simpa using b13
theorem YY(m:Nat):kind m<=2:=by
 unfold kind
 split
 ·omega
 ·split<;>omega
theorem qyw(c:Nat×Nat)(w:Nat)(hc:YT c)(Z:List Int)(hZ:Z.length<=900000)(hp:Hp)(hw:hp.rd w 0=some (Wc Z)):
 run cxX 158 [.agg (Cc c),.ptr w 0 0] hp=some (.tup [],hp.put w 0 (Wc (Z++yA c))):=by
 have cn:qn 5 (.agg (Cc c))=some (Cc c):=rfl
 have gn:qr (Cc c) 0 5=some (Cc c):=rfl
 have gs:ql (Cc c) 0=some (.int .u32 (c.1:Int)):=rfl
 have mr:List.map ro1 (Cc c)=Cc c:=rfl
 have bk:=qis c hp0
 have bm:=wW c hp0
 have br:=qh2 c hp0
 have h16:=hc.1
 have w1:IntKind.u64.wrap (c.1:Int)=(c.1:Int):=qu qe qe
 have hu:=qE (n:=c.1) qe
 have u1:=zY w c.1 Z qe qe hp hw
 have u2:=jr w (Z++uv c.1) ((kind c.2:Nat):Int) qi (hp.put w 0 (Wc (Z++uv c.1))) (qp _ _ _)
 rw[qC]at u2
 have c1:=vx c.2 256
 have c2:=JW c.2 256
 have c3:=Vr hc.2.2
 have c4:=hc.2.2
 have hZ2:(Z++uv c.1++[((kind c.2:Nat):Int)]).length<=900011:=qi
 have eY:Z++yA c=Z++uv c.1++[((kind c.2:Nat):Int)]++QX c.2:=by unfold yA;simp
 rw[eY,E158]
 generalize hZ3:Z++uv c.1++[((kind c.2:Nat):Int)]=Z3 at*
 simp only[Yo,cn,zmw]
 have k3:=YY c.2
 unfold QX
 by_cases k0:kind c.2=0
 ·rw[k0]at u2 bk
  rw[if_pos k0]
  have w2:IntKind.i64.wrap ((zt c.2 256:Nat)-1:Int)=((zt c.2 256-1:Nat):Int):=qj
  have w3:IntKind.u8.wrap ((zt c.2 256-1:Nat):Int)=((zt c.2 256-1:Nat):Int):=zy qe qe
  have u3:=jr w Z3 ((zt c.2 256-1:Nat):Int) qe (hp.put w 0 (Wc Z3)) (qp _ _ _)
  rw[qC]at u3
  have a:=zbq c w 256 0 (Z3++[((zt c.2 256-1:Nat):Int)]) (hp.put w 0 (Wc (Z3++[((zt c.2 256-1:Nat):Int)]))) rfl qi (qp _ _ _)
  rw[qC,znf]at a
  have e:[((zt c.2 256-1:Nat):Int)]++yD c.2 256 0=((zt c.2 256-1:Nat):Int)::yD c.2 256 0:=rfl
  rw[e]at a
  generalize((zt c.2 256-1:Nat):Int)=n1 at*
  generalize yD c.2 256 0=A at*
  simp at u2 a bk
  simp[mr,gn,gs,bk,yw,w1,u1,u2,bm,w2,w3,yi,u3]
  exact a
 ·by_cases k1:kind c.2=1
  ·rw[k1]at u2 bk
   rw[if_neg k0,if_pos k1]
   have a:=zbp c w 32 0 Z3 (hp.put w 0 (Wc Z3)) rfl qe (qp _ _ _)
   rw[qC]at a
   simp at u2 a bk
   simp[mr,gn,gs,bk,yw,w1,u1,u2]
   exact a
  ·have k2:kind c.2=2:=qe
   rw[k2]at u2 bk
   rw[if_neg k0,if_neg k1]
   have w2:IntKind.i64.wrap ((jz c.2 256:Nat)-1:Int)=((jz c.2 256-1:Nat):Int):=qj
   have w3:IntKind.u8.wrap ((jz c.2 256-1:Nat):Int)=((jz c.2 256-1:Nat):Int):=zy qe qe
   have u3:=jr w Z3 ((jz c.2 256-1:Nat):Int) qe (hp.put w 0 (Wc Z3)) (qp _ _ _)
   rw[qC]at u3
   have a:=qug c w 256 0 (Z3++[((jz c.2 256-1:Nat):Int)]) (hp.put w 0 (Wc (Z3++[((jz c.2 256-1:Nat):Int)]))) qe qe qi (qp _ _ _)
   rw[qC,znf]at a
   have e:[((jz c.2 256-1:Nat):Int)]++kC c.2 256 0=((jz c.2 256-1:Nat):Int)::kC c.2 256 0:=rfl
   rw[e]at a
   generalize((jz c.2 256-1:Nat):Int)=n1 at*
   generalize kC c.2 256 0=A at*
   simp at u2 a bk
   simp[mr,gn,gs,bk,yw,w1,u1,u2,br,w2,w3,yi,u3]
   exact a
def csL(cs:List (Nat×Nat)):List AV:=cs.flatMap Cc
@[simp] theorem kP (cs : List (Nat × Nat)) : (csL cs).length = 5 * cs.length := by
 induction cs with
 |nil=>rfl
 |cons c r ih=>
  have e:csL (c::r)=Cc c++csL r:=rfl
  rw[e,zmt,ih,zmu]
  show 5+5*r.length=5*(r.length+1)
  omega
theorem qg8(a b:List (Nat×Nat)):csL (a++b)=csL a++csL b:=by simp[csL]
theorem qrc{cs:List (Nat×Nat)}(h:csL cs=[]):cs=[]:=by
 have h1:=congrArg List.length h
 rw[kP]at h1
 exact zm9.mp (by have:([]:List AV).length=0:=rfl;omega)
theorem zgd:∀(cs:List (Nat×Nat)) (i:Nat) (c:Nat×Nat),cs[i]?=some c->((csL cs).drop (i*5)).take 5=Cc c:=by
 intro cs
 induction cs with
 |nil=>intro i c h;cases h
 |cons d r ih=>
  intro i c h
  have e:csL (d::r)=Cc d++csL r:=rfl
  cases i with
  |zero=>
   have:d=c:=by simpa using h
   subst this
   rfl
  |succ i=>
   have h2:=ih i c (by simpa using h)
   have e2:(i+1)*5=5+i*5:=qe
   have l5:(Cc d).length=5:=rfl
   rw[e,e2,<-h2,zqx,l5,zn1 (by rw[l5];omega),znn]
   congr 2
   omega
theorem Yc(k:Nat)(cs:List (Nat×Nat)):xK (S k 5 (csL cs))=some cs.length:=by
 rcases jn k 5 (csL cs)with e|e|⟨e,e'⟩
 ·rw[e];show some ((csL cs).length/5)=_;rw[kP];congr 1;omega
 ·rw[e];show some ((csL cs).length/5)=_;rw[kP];congr 1;omega
 ·rw[e,qrc e'];rfl
theorem wJ(k:Nat)(cs:List (Nat×Nat))(i:Nat)(c:Nat×Nat)(h:cs[i]?=some c):jA 5 (S k 5 (csL cs)) (.int .i64 (i:Int))=some (Cc c):=by
 have hi:=(zm2.mp h).1
 have key:(idx ((csL cs).length/5) (.int .i64 (i:Int))).bind (fun i=>qr (csL cs) (i*5) 5)=some (Cc c):=by
  have e:(csL cs).length/5=cs.length:=by rw[kP];omega
  rw[e,zp .i64 hi,zmw]
  unfold qr
  rw[if_pos (by rw[kP];omega),zgd cs i c h]
 rcases jn k 5 (csL cs)with e|e|⟨e,e'⟩
 ·rw[e];exact key
 ·rw[e];exact key
 ·rw[qrc e']at h;cases h
theorem qag{c:Nat×Nat}(hc:YT c):(yA c).length<=60:=by
 have h1:=qE (n:=c.1) (by have:=hc.1;omega)
 unfold yA QX
 have a:=Kp c.2
 have b:=vn c.2
 have k3:=YY c.2
 rw[zmt,zmu]
 by_cases k0:kind c.2=0
 ·rw[if_pos k0,zmu,a]
  unfold kind at k0
  split at k0
  ·rename_i h;omega
  ·split at k0<;>omega
 ·rw[if_neg k0]
  by_cases k1:kind c.2=1
  ·rw[if_pos k1,qko];omega
  ·rw[if_neg k1,zmu,b]
   unfold kind at k0 k1
   split at k0
   ·omega
   ·rename_i h
    rw[if_neg h]at k1
    split at k1
    ·omega
    ·omega
theorem qrv(cs:List (Nat×Nat))(k w:Nat)(hcs:∀c∈cs,YT c)(hl:cs.length<=4096):∀(r:List (Nat×Nat)) (i:Nat) (Z:List Int) (hp:Hp),cs.drop i=r->Z.length+60*r.length<=900000->hp.rd w 0=some (Wc Z)->
 B100_2 (.ptr w 0 0) (S k 5 (csL cs)) (.int .i64 (cs.length:Int)) (.int .i64 (i:Int)) hp=some (.tup [],hp.put w 0 (Wc (Z++wG r))):=by
 intro r
 induction r with
 |nil=>
  intro i Z hp h hZ hw
  have h1:=qK h
  have hlt:¬((i:Int)<(cs.length:Int)):=qe
  rw[qfm]
  simp[hlt,wG,jk hw]
 |cons c r ih=>
  intro i Z hp h hZ hw
  obtain⟨e1,e2,hi,e3⟩:=qt h
  simp only[zmu]at hZ
  have hlt:(i:Int)<(cs.length:Int):=qe
  have ix:=wJ k cs i c e1
  have hc:YT c:=hcs c (by rw[<-e3];exact znb _)
  have cp:=qyw c w hc Z qe hp hw
  have hcl:=qag hc
  have w2:IntKind.i64.wrap ((i:Int)+1)=((i+1:Nat):Int):=qj
  have hn:=ih (i+1) (Z++yA c) (hp.put w 0 (Wc (Z++yA c))) e2 qi (qp _ _ _)
  rw[qC,znf]at hn
  have gn:qr (Cc c) 0 5=some (Cc c):=rfl
  have cn:qn 5 (.agg (Cc c))=some (Cc c):=rfl
  have mr:List.map ro1 (Cc c)=Cc c:=rfl
  have pn:∀a b c' d e:Value,qo [.sc a,.sc b,.sc c',.sc d,.sc e] 0 (Cc c)=some (Cc c):=fun _ _ _ _ _=>rfl
  have e:wG (c::r)=yA c++wG r:=rfl
  rw[e,<-hn,qfm]
  generalize((i+1:Nat):Int)=I at*
  simp only[Yo,ZP,hlt,decide_true,jJ,zmw,cond_true,ix,gn,cn,pn,mr]
  have r0:ro (AV.ptr w 0 0)=AV.ptr w 0 0:=rfl
  have ra:ro (.agg (Cc c))= .agg (Cc c):=rfl
  simp only[Yo,mr,cn,pn,gn,zmw,r0,ra,cp]
  simp[w2]
theorem qya(cs:List (Nat×Nat))(k w:Nat)(hcs:∀c∈cs,YT c)(hl:cs.length<=4096)(Z:List Int)(hZ:Z.length<=100000)(hp:Hp)(hw:hp.rd w 0=some (Wc Z)):
 run cxX 100 [S k 5 (csL cs),.ptr w 0 0] hp=some (.tup [],hp.put w 0 (Wc (Z++jV cs))):=by
 have hu:=qE (n:=cs.length) qe
 have u1:=zY w cs.length Z qe qe hp hw
 have a:=qrv cs (rk k) w hcs hl cs 0 (Z++uv cs.length) (hp.put w 0 (Wc (Z++uv cs.length))) rfl qi (qp _ _ _)
 rw[qC,znf]at a
 have w1:IntKind.u64.wrap (cs.length:Int)=(cs.length:Int):=qu qe qe
 rw[E100]
 have l5:=fun k=>Yc k cs
 simp at a
 simp[l5,ym,w1,u1,a,jV]
theorem qt7(A L:List AV)(i:Nat):ql (A++L) (A.length+i)=ql L i:=by
 unfold ql
 rw[zni qe]
 congr 2
 omega
theorem qy7(A L M:List AV)(i:Nat)(vs:List AV)(h:qo L i vs=some M):qo (A++L) (A.length+i) vs=some (A++M):=by
 unfold qo at h⊢
 split at h
 ·rename_i hi
  rw[if_pos (by rw[zmt];omega)]
  have e:L.take i++vs++L.drop (i+vs.length)=M:=znk h
  rw[<-e,List.take_append,znr qe,zqx,zn1 qe,znn]
  have e1:A.length+i-A.length=i:=qe
  have e2:A.length+i+vs.length-A.length=i+vs.length:=qe
  rw[e1,e2]
  simp
 ·cases h
theorem zhl(m i j:Nat)(hi:i<256):zX (m|||2^i) j=if j=i/64 then zX m j|||2^(i%64)else zX m j:=by
 apply zn5
 intro k
 have e2:(18446744073709551616:Nat)=2^64:=rfl
 by_cases hj:j=i/64
 ·rw[if_pos hj]
  unfold zX
  rw[e2,znt,zm7,zm7,znu,znu,znt,jp,jp]
  by_cases hk:k<64
  ·have e:(i=k+64*j)↔(i%64=k):=qe
   simp only[hk,decide_true,zqi]
   congr 1
   exact decide_eq_decide.mpr e
  ·have:¬(i%64=k):=qe
   simp[hk,this]
 ·rw[if_neg hj]
  unfold zX
  rw[e2,zm7,zm7,znu,znu,znt,jp]
  by_cases hk:k<64
  ·have:¬(i=k+64*j):=qe
   simp[this]
  ·simp[hk]
theorem ze0(x c:Nat)(hx:x<18446744073709551616)(hc:c<18446744073709551616)(t:TypeId)(o o':Operand):qx Tryz.prog .or t o o' (.int .u64 (x:Int)) (.int .u64 (c:Int))=some (.int .u64 ((x|||c:Nat):Int)):=by
 rw[zR]
 have hl:x|||c<2^64:=zrh hx hc
 have e:(BitVec.ofInt IntKind.u64.bits (x:Int)|||BitVec.ofInt IntKind.u64.bits (c:Int)).toNat=x|||c:=by
  show(BitVec.ofInt 64 (x:Int)|||BitVec.ofInt 64 (c:Int)).toNat=_
  rw[zoq,zoq,zpd,zop,zop]
  rw[zoa qe,zoa qe]
 rw[e,qu qe qe]
theorem shl1(k:Nat)(hk:k<64)(t:TypeId)(o o':Operand):qx Tryz.prog .shl t o o' (.int .u64 1) (.int .u8 (k:Int))=some (.int .u64 ((2^k:Nat):Int)):=by
 have hp:(2:Nat)^k<2^64:=zqe qh hk
 have e64:(2:Nat)^64=18446744073709551616:=rfl
 rw[zW _ _ _ _ _ _ _ _ qe,zm3,zpo (show k<=IntKind.u64.bits from zpy hk),Int.one_mul]
 have e:(2:Int)^k=((2^k:Nat):Int):=qg
 rw[e]
 generalize 2^k=z at*
 rw[qu qe qe]
theorem zep(c:Nat×Nat)(i:Nat)(hi:i<256):qo (Cc c) (1+i/64) [.sc (.int .u64 (zX c.2 (i/64)|||2^(i%64):Nat))]=some (Cc (c.1,c.2|||2^i)):=by
 have h:i/64=0\/i/64=1\/i/64=2\/i/64=3:=qe
 have w:=fun j=>zhl c.2 i j hi
 have e:Cc (c.1,c.2|||2^i)=[.sc (.int .u32 (c.1:Int)),.sc (.int .u64 (zX (c.2|||2^i) 0:Nat)),.sc (.int .u64 (zX (c.2|||2^i) 1:Nat)),.sc (.int .u64 (zX (c.2|||2^i) 2:Nat)),.sc (.int .u64 (zX (c.2|||2^i) 3:Nat))]:=rfl
 rw[e,w 0,w 1,w 2,w 3]
 rcases h with h|h|h|h<;>rw[h]<;>rfl
theorem qsl(ds:List (Nat×Nat))(c:Nat×Nat)(b i:Nat)(hi:i<256)(hp:Hp)(h:hp.rd b 0=some (csL (ds++[c]))):
 run cxX 194 [.ptr b 0 (5*ds.length),.sc (.int .u8 (i:Int))] hp=some (.tup [],hp.put b 0 (csL (ds++[(c.1,c.2|||2^i)]))):=by
 have s1:∀t o o',qx Tryz.prog .shr t o o' (.int .u8 (i:Int)) (.int .u64 6)=some (.int .u8 ((i/64:Nat):Int)):=fun t o o'=>yY .u8 i 6 qh t o o' .u64
 have ix:idx 4 (.int .u8 ((i/64:Nat):Int))=some (i/64):=zp .u8 qe
 have a:=zhi i hi
 have s2:=shl1 (i%64) qe
 have h64:(2:Nat)^(i%64)<18446744073709551616:=zqe qh (show i%64<64 by omega)
 have o:=ze0 (zX c.2 (i/64)) (2^(i%64)) (Qt _ _) h64
 have e1:csL (ds++[c])=csL ds++Cc c:=by rw[qg8];simp[csL]
 have e2:csL (ds++[(c.1,c.2|||2^i)])=csL ds++Cc (c.1,c.2|||2^i):=by rw[qg8];simp[csL]
 have g:=qt7 (csL ds) (Cc c) (1+i/64)
 have g2:ql (Cc c) (1+i/64)=some (.int .u64 (zX c.2 (i/64):Nat)):=by have:=Qj c (i/64) qe;simpa using this
 rw[g2]at g
 have p:=qy7 (csL ds) (Cc c) _ (1+i/64) _ (zep c i hi)
 have eo:(csL ds).length+(1+i/64)=5*ds.length+1+i/64:=by rw[kP];omega
 rw[eo]at g p
 rw[e1]at h
 rw[e2,E194]
 generalize csL ds++Cc c=L1 at*
 generalize csL ds++Cc (c.1,c.2|||2^i)=L2 at*
 generalize((zX c.2 (i/64)|||2^(i%64):Nat):Int)=q3 at*
 generalize((zX c.2 (i/64):Nat):Int)=q0 at*
 generalize((2^(i%64):Nat):Int)=q1 at*
 generalize((i%64:Nat):Int)=q2 at*
 generalize((i/64:Nat):Int)=q4 at*
 generalize 5*ds.length=N at*
 simp[s1,ix,h,g,a,s2,o,p,-zm,-zR]
theorem VJ(j:Nat):zX 0 j=0:=by unfold zX;simp
theorem Xr:∀l,(jO l).length<=l.length:=by
 intro l
 induction l with
 |nil=>exact zmx _
 |cons x r ih=>
  show(JX x (jO r)).length<=_
  cases hq:jO r with
  |nil=>simp[JX]
  |cons c s=>
   rw[hq]at ih
   rw[xc]
   split<;>simp at ih⊢<;>omega
section
variable (l:List Nat)(k k':Nat)(hl:l.length<=4096)(h32:∀x∈l,x<4294967296)(hr:qM l)
include hl h32 hr
end
def MW(hp:Hp)(m cb:Nat)(cs:List Nat):Prop:=
 m<hp.next/\cb<hp.next/\cb≠m/\hp.rd cb 0=some (LI .i64 (nz cs))/\hp.rd m 0=some [.ms cb 0 0 cs.length 1,.sc (.int .i64 (cs.sum:Nat))]
theorem MW.fr{hp hp':Hp}{m cb:Nat}{cs:List Nat}{X:List Nat}(h:MW hp m cb cs)(f:Fm X hp hp')(h1:m∉X)(h2:cb∉X):MW hp' m cb cs:=
 ⟨znc h.1 f.1,znc h.2.1 f.1,h.2.2.1,by rw[f.rd h.2.1 h2];exact h.2.2.2.1,by rw[f.rd h.1 h1];exact h.2.2.2.2⟩
def MN(hp:Hp)(m cb i:Nat):Prop:=
 m<hp.next/\(i≠0->cb<hp.next/\m<cb/\hp.rd cb 0=some (LI .i64 (nz (List.replicate i 1))))/\hp.rd m 0=some [if i=0 then S 2 1 []else .ms cb 0 0 i 1,.sc (.int .i64 (i:Int))]
theorem yO(l:List Nat)(x:Nat):nz (l++[x])=nz l++[(x:Int)]:=by simp[nz]
theorem qtm(m:Nat):∀(f i cb:Nat) (hp:Hp),i+f=64->MN hp m cb i->
 ∃hp' cb',B168_3 (.ptr m 0 0) (.int .i64 64) (.int .i64 (i:Int)) hp=some (.ptr m 0 0,hp')/\MN hp' m cb' 64/\hp.next<=hp'.next/\∀c,c<m->hp'.get c=hp.get c:=by
 intro f
 induction f with
 |zero=>
  intro i cb hp h hm
  have e:i=64:=qe
  subst e
  refine⟨hp,cb,?_,hm,zmx _,fun _ _=>rfl⟩
  rw[Kx]
  simp
 |succ f ih=>
  intro i cb hp h hm
  obtain⟨h1,h2,h3⟩:=hm
  have hlt:(i:Int)<64:=qe
  have w1:IntKind.i64.wrap ((i:Int)+1)=((i+1:Nat):Int):=qj
  by_cases h0:i=0
  ·subst h0
   have ap:=QY .i64 1 8 qh hp
   have hne:m≠hp.next:=qe
   have r1:=zF hp (LI .i64 [1]) hne
   rw[h3]at r1
   have hq:MN ((hp.new (LI .i64 [1])).put m 0 [.ms hp.next 0 0 1 1,.sc (.int .i64 1)]) m hp.next 1:=
    ⟨qi,fun _=>⟨qg,h1,by rw[qB _ _ (fun e=>hne e.symm),qR];rfl⟩,by rw[qp];rfl⟩
   obtain⟨hp2,cb2,a1,a2,a3,a4⟩:=ih 1 hp.next _ qe hq
   refine⟨hp2,cb2,?_,a2,by simp at a3;omega,fun c hc=>by
    rw[a4 c hc]
    have e1:c≠m:=qe
    have e2:c≠hp.next:=qe
    simp[Hp.put,Hp.new,e1,e2]⟩
   rw[<-a1,Kx]
   simp at r1
   simp[h3,qs,yF,ap,r1,qo,qC,qp,ql]
  ·obtain⟨n1,n2,n3⟩:=h2 h0
   rw[if_neg h0]at h3
   have hne:m≠hp.next:=qe
   have hne2:m≠cb:=qe
   have hl:(nz (List.replicate i 1)).length=i:=qg
   have ap:=ZR .i64 (nz (List.replicate i 1)) 1 8 cb qh (by rw[hl];omega) (by intro e;rw[e]at hl;simp at hl;omega) hp n3
   rw[hl]at ap
   have e1:nz (List.replicate i 1)++[1]=nz (List.replicate (i+1) 1):=by
    rw[zo8,yO];rfl
   rw[e1]at ap
   have r1:((hp.del cb).new (LI .i64 (nz (List.replicate (i+1) 1)))).rd m 0=hp.rd m 0:=(Fm.delNew (X:=[cb]) hp cb _ qg).rd h1 (by simp;exact hne2)
   rw[h3]at r1
   have hq:MN (((hp.del cb).new (LI .i64 (nz (List.replicate (i+1) 1)))).put m 0 [.ms hp.next 0 0 (i+1) 1,.sc (.int .i64 ((i+1:Nat):Int))]) m hp.next (i+1):=
    ⟨by simp[Hp.del];omega,fun _=>⟨by simp[Hp.del],h1,by rw[qB _ _ (fun e=>hne e.symm)];exact qR (hp.del cb) _⟩,by rw[qp,if_neg qe]⟩
   obtain⟨hp2,cb2,a1,a2,a3,a4⟩:=ih (i+1) hp.next _ qe hq
   refine⟨hp2,cb2,?_,a2,by simp[Hp.del]at a3;omega,fun c hc=>by
    rw[a4 c hc]
    have e1:c≠m:=qe
    have e2:c≠hp.next:=qe
    have e3:c≠cb:=qe
    simp[Hp.put,Hp.new,Hp.del,e1,e2,e3]⟩
   rw[<-a1,Kx]
   generalize nz (List.replicate (i+1) 1)=L at*
   generalize((i+1:Nat):Int)=I at*
   simp[hlt,h3,qs,yF,ap,r1,qo,qC,qp,ql,w1]
theorem qif(hp:Hp):∃hp' cb,run cxX 168 [.sc (.int .i64 64)] hp=some (.ptr hp.next 0 0,hp')/\MW hp' hp.next cb cs0/\hp.next<cb/\hp.next<=hp'.next/\∀c,c<hp.next->hp'.get c=hp.get c:=by
 have h0:MN (hp.new [S 2 1 [],.sc (.int .i64 0)]) hp.next 0 0:=⟨qg,fun h=>absurd rfl h,by rw[qR];rfl⟩
 obtain⟨hp',cb,a1,a2,a3,a4⟩:=qtm hp.next 64 0 0 _ rfl h0
 obtain⟨b1,b2,b3⟩:=a2
 obtain⟨c1,c2,c3⟩:=b2 qe
 refine⟨hp',cb,?_,⟨b1,c1,qe,c3,by rw[b3];rfl⟩,c2,by simp at a3;omega,fun c hc=>by
  rw[a4 c hc]
  have:c≠hp.next:=qe
  simp[Hp.new,this]⟩
 rw[E168]
 have mm:min (max (64:Int) 1) 64=64:=qh
 simp at a1
 simp[mm,a1]
theorem yP(l:List Nat)(i:Nat)(h:i<l.length):(nz l).getD i 0=((l.getD i 0:Nat):Int):=by
 unfold nz
 rw[zmv,zmv,zne,zm0 h]
 rfl
section
variable (hp:Hp)(m cb:Nat)(cs:List Nat)(h:MW hp m cb cs)(hs:cs.sum<=1000000)(hcl:cs.length=64)
include h
theorem qb9:run cxX 193 [.ptr m 0 0] hp=some (.sc (.int .i64 (cs.length:Nat)),hp):=by
 obtain⟨h1,h2,h3,h4,h5⟩:=h
 rw[E193]
 have hln:∀a b c d e,xK (.ms a b c d e)=some d:=fun _ _ _ _ _=>rfl
 simp[h5,qs,hln]
theorem Wb:run cxX 171 [.ptr m 0 0] hp=some (.sc (.int .i64 (cs.sum:Nat)),hp):=by
 obtain⟨h1,h2,h3,h4,h5⟩:=h
 rw[E171]
 simp[h5,ql]
include hs hcl
theorem qs8(x:Nat)(hx:x<64):∀(f i:Nat),i+f=x->
 B170_5 (.ptr m 0 0) (.int .i64 (x:Int)) (.int .i64 ((cs.take i).sum:Nat)) (.ms cb 0 0 x 1) (.int .i64 (x:Int)) (.int .i64 (i:Int)) hp=some (.tup [.sc (.int .i64 ((cs.take x).sum:Nat)),.sc (.int .i64 (cs.getD x 0:Nat))],hp):=by
 obtain⟨h1,h2,h3,h4,h5⟩:=h
 have hms:∀a b c d e,zg (.ms a b c d e)=some (a,b,c,d,e):=fun _ _ _ _ _=>rfl
 intro f
 induction f with
 |zero=>
  intro i hi
  have e:i=x:=qe
  subst e
  have ix:idx cs.length (.int .i64 (i:Int))=some i:=zp .i64 qe
  have g:=jN .i64 (nz cs) i qi
  rw[yP cs i qe]at g
  rw[qej]
  generalize(cs.take i).sum=A at*
  generalize cs.getD i 0=B at*
  simp[h5,qs,hms,ix,h4,g]
 |succ f ih=>
  intro i hi
  have hn:=ih (i+1) qe
  have ix:idx x (.int .i64 (i:Int))=some i:=zp .i64 qe
  have g:=jN .i64 (nz cs) i qi
  rw[yP cs i qe]at g
  have st:=qP cs i qe
  have sl:=qQ cs (i+1)
  have w1:IntKind.i64.wrap ((((cs.take i).sum:Nat):Int)+((cs.getD i 0:Nat):Int))=(((cs.take (i+1)).sum:Nat):Int):=qj
  have w2:IntKind.i64.wrap ((i:Int)+1)=((i+1:Nat):Int):=qj
  have hlt:(i:Int)<(x:Int):=qe
  rw[<-hn,qej]
  generalize(((cs.take i).sum:Nat):Int)=A at*
  generalize(((cs.take (i+1)).sum:Nat):Int)=A1 at*
  generalize((cs.getD i 0:Nat):Int)=B at*
  generalize((i+1:Nat):Int)=I at*
  simp[hlt,hms,ix,h4,g,w1,w2]
theorem qib(x:Nat)(hx:x<64):run cxX 170 [.ptr m 0 0,.sc (.int .i64 (x:Int))] hp=some (.tup [.sc (.int .i64 ((cs.take x).sum:Nat)),.sc (.int .i64 (cs.getD x 0:Nat))],hp):=by
 have sz:=qb9 hp m cb cs h
 have lp:=qs8 hp m cb cs h hs hcl x hx x 0 qe
 obtain⟨h1,h2,h3,h4,h5⟩:=h
 have hms:∀a b c d e,zg (.ms a b c d e)=some (a,b,c,d,e):=fun _ _ _ _ _=>rfl
 have hln:∀a b c d e,xK (.ms a b c d e)=some d:=fun _ _ _ _ _=>rfl
 have hn0:¬((x:Int)<0):=qe
 have hge:¬((x:Int)>=(cs.length:Int)):=qe
 have b1:zo 0 (cs.length:Int) (some (.int .i64 (x:Int))) cs.length=some x:=xO .i64 qe
 have b3:B170_3 (.ptr m 0 0) (.int .i64 (x:Int)) hp=some (.tup [.sc (.int .i64 ((cs.take x).sum:Nat)),.sc (.int .i64 (cs.getD x 0:Nat))],hp):=by
  rw[<-lp,qwd]
  simp[h5,qs,hms,b1,hln]
 rw[E170]
 generalize(cs.take x).sum=A at*
 generalize cs.getD x 0=B at*
 have hge':¬((cs.length:Int)<=(x:Int)):=hge
 simp[hn0,sz,hge',b3]
end
def hf(d:List Nat)(i:Nat):List Nat:=(d.take i).map (fun n=>(n+1)/2)++d.drop i
@[simp] theorem hf_len(d:List Nat)(i:Nat):(hf d i).length=d.length:=by unfold hf;simp;omega
theorem zaw(d:List Nat)(i:Nat)(hi:i<d.length):(hf d i).getD i 0=d.getD i 0:=by
 unfold hf
 rw[zmv,zni qi,zmv]
 simp
 congr 2
 omega
theorem qg4(d:List Nat)(i:Nat)(hi:i<d.length):hf d (i+1)=(hf d i).set i ((d.getD i 0+1)/2):=by
 have e1:d.getD i 0=d[i]:=by rw[zmv,zm0 hi];rfl
 have e2:d.take (i+1)=d.take i++[d[i]]:=by rw[zo2,zm0 hi];rfl
 have e3:d.drop i=d[i]::d.drop (i+1):=znp hi
 unfold hf
 rw[e1,e2,e3,List.map_append,znf,zp9 _ _ qi]
 have e4:i-((d.take i).map fun n=>(n+1)/2).length=0:=qi
 rw[e4]
 rfl
theorem zax(d:List Nat):hf d d.length=d.map fun n=>(n+1)/2:=by unfold hf;simp
theorem qx5(m cb:Nat)(d:List Nat)(hd:d.length=64)(hs:d.sum<=1000000):∀(f i:Nat) (hp:Hp),i+f=64->m<hp.next->cb<hp.next->cb≠m->hp.rd cb 0=some (LI .i64 (nz (hf d i)))->
 hp.rd m 0=some [.ms cb 0 0 64 1,.sc (.int .i64 ((((d.take i).map fun n=>(n+1)/2).sum:Nat):Int))]->
 ∃hp',B173_6 (.ptr m 0 0) (.ms cb 0 0 64 1) (.int .i64 64) (.int .i64 (i:Int)) hp=some (.tup [],hp')/\MW hp' m cb (d.map fun n=>(n+1)/2)/\hp'.next=hp.next/\∀c,c≠m->c≠cb->hp'.get c=hp.get c:=by
 have hms:∀a b c d e,zg (.ms a b c d e)=some (a,b,c,d,e):=fun _ _ _ _ _=>rfl
 intro f
 induction f with
 |zero=>
  intro i hp hi h1 h2 h3 h4 h5
  have e:i=64:=qe
  subst e
  have ef:hf d 64=d.map fun n=>(n+1)/2:=by rw[<-hd,zax]
  have et:d.take 64=d:=by rw[<-hd,zo6]
  rw[ef]at h4
  rw[et]at h5
  refine⟨hp,?_,⟨h1,h2,h3,h4,by simp only[zov,hd];exact h5⟩,rfl,fun _ _ _=>rfl⟩
  rw[qef]
  simp
 |succ f ih=>
  intro i hp hi h1 h2 h3 h4 h5
  have hid:i<d.length:=qe
  have hlt:(i:Int)<64:=qe
  have ix:idx 64 (.int .i64 (i:Int))=some i:=zp .i64 qe
  have g:=jN .i64 (nz (hf d i)) i qi
  rw[yP _ i qi,zaw d i hid]at g
  have hx:d.getD i 0<=1000000:=by
   have:=qP d i hid
   have:=qQ d (i+1)
   omega
  have p:=xp .i64 (nz (hf d i)) i (((d.getD i 0+1)/2:Nat):Int) qi
  have es:(nz (hf d i)).set i (((d.getD i 0+1)/2:Nat):Int)=nz (hf d (i+1)):=by
   rw[qg4 d i hid];unfold nz;rw[zrj]
  rw[es]at p
  have g2:=jN .i64 (nz (hf d (i+1))) i qi
  have eg:(hf d (i+1)).getD i 0=(d.getD i 0+1)/2:=by
   rw[qg4 d i hid,zmv,zp7]
   simp[hid]
  rw[yP _ i qi,eg]at g2
  have sm:((d.take (i+1)).map fun n=>(n+1)/2).sum=((d.take i).map fun n=>(n+1)/2).sum+(d.getD i 0+1)/2:=by
   have e2:d.take (i+1)=d.take i++[d.getD i 0]:=by
    rw[zo2,zmv,zm0 hid];rfl
   rw[e2];simp
  have sb:((d.take i).map fun n=>(n+1)/2).sum<=2000000:=by
   have a:=qht (d.take i)
   have b:=qQ d i
   have c:(d.take i).length<=64:=qi
   omega
  have w1:IntKind.i64.wrap (((d.getD i 0:Nat):Int)+1)=((d.getD i 0+1:Nat):Int):=qj
  have q2:∀t o o',qx Tryz.prog .quo t o o' (.int .i64 ((d.getD i 0+1:Nat):Int)) (.int .i64 2)=some (.int .i64 (((d.getD i 0+1)/2:Nat):Int)):=by
   intro t o o'
   rw[yx _ _ _ _ _ _ _ qe,zn2 qe,qm qe qe]
   rfl
  have w3:IntKind.i64.wrap (((((d.take i).map fun n=>(n+1)/2).sum:Nat):Int)+(((d.getD i 0+1)/2:Nat):Int))=((((d.take (i+1)).map fun n=>(n+1)/2).sum:Nat):Int):=by rw[sm,qm]<;>omega
  have w4:IntKind.i64.wrap ((i:Int)+1)=((i+1:Nat):Int):=qj
  have r5:∀x,(hp.put cb 0 x).rd m 0=hp.rd m 0:=fun x=>qB _ _ (fun e=>h3 e.symm)
  obtain⟨hp2,a1,a2,a3,a4⟩:=ih (i+1) ((hp.put cb 0 (LI .i64 (nz (hf d (i+1))))).put m 0 [.ms cb 0 0 64 1,.sc (.int .i64 ((((d.take (i+1)).map fun n=>(n+1)/2).sum:Nat):Int))]) qe (by simpa using h1) (by simpa using h2) h3
   (by rw[qB _ _ h3,qp]) (qp _ _ _)
  refine⟨hp2,?_,a2,by rw[a3];rfl,fun c c1 c2=>by rw[a4 c c1 c2];simp[Hp.put,c1,c2]⟩
  rw[<-a1,qef]
  generalize nz (hf d (i+1))=L1 at*
  generalize nz (hf d i)=L0 at*
  generalize((((d.take (i+1)).map fun n=>(n+1)/2).sum:Nat):Int)=S1 at*
  generalize((((d.take i).map fun n=>(n+1)/2).sum:Nat):Int)=S0 at*
  generalize(((d.getD i 0+1)/2:Nat):Int)=y2 at*
  generalize((d.getD i 0+1:Nat):Int)=y1 at*
  generalize((d.getD i 0:Nat):Int)=y0 at*
  generalize((i+1:Nat):Int)=I at*
  have gs1:∀(x:AV) (v:Value),ql [x,.sc v] 1=some v:=fun _ _=>rfl
  have gc0:∀(x:AV) (l:List AV),qs (x::l) 0=some x:=fun _ _=>rfl
  have pn:∀(x y z:AV),qo [x,y] 1 [z]=some [x,z]:=fun _ _ _=>rfl
  simp[hlt,hms,ix,h4,g,h5,gc0,w1,q2,p,r5,gs1,qp,g2,w3,pn,w4]
theorem qpz(hp:Hp)(m cb x:Nat)(cs:List Nat)(h:MW hp m cb cs)(hm:okM cs)(hx:x<64):
 ∃hp',run cxX 173 [.ptr m 0 0,.sc (.int .i64 (x:Int))] hp=some (.tup [],hp')/\MW hp' m cb (Yu cs x)/\hp'.next=hp.next/\∀c,c≠m->c≠cb->hp'.get c=hp.get c:=by
 have sz:=qb9 hp m cb cs h
 obtain⟨h1,h2,h3,h4,h5⟩:=h
 obtain⟨m1,m2,m3⟩:=hm
 have hms:∀a b c d e,zg (.ms a b c d e)=some (a,b,c,d,e):=fun _ _ _ _ _=>rfl
 have hln:∀a b c d e,xK (.ms a b c d e)=some d:=fun _ _ _ _ _=>rfl
 have hn0:¬((x:Int)<0):=qe
 have hge:¬((cs.length:Int)<=(x:Int)):=qe
 have ix:idx cs.length (.int .i64 (x:Int))=some x:=zp .i64 qe
 have g:=jN .i64 (nz cs) x qi
 rw[yP cs x qe]at g
 have st:=qP cs x qe
 have sl:=qQ cs (x+1)
 have ss:=qfw cs x (cs.getD x 0+24) qe
 have w1:IntKind.i64.wrap (((cs.getD x 0:Nat):Int)+24)=((cs.getD x 0+24:Nat):Int):=qj
 have p:=xp .i64 (nz cs) x ((cs.getD x 0+24:Nat):Int) qi
 have es:(nz cs).set x ((cs.getD x 0+24:Nat):Int)=nz (cs.set x (cs.getD x 0+24)):=by unfold nz;rw[zrj]
 rw[es]at p
 have r5:∀y,(hp.put cb 0 y).rd m 0=hp.rd m 0:=fun y=>qB _ _ (fun e=>h3 e.symm)
 have w2:IntKind.i64.wrap (((cs.sum:Nat):Int)+24)=(((cs.set x (cs.getD x 0+24)).sum:Nat):Int):=qj
 have dl:(cs.set x (cs.getD x 0+24)).length=64:=by simp[m1]
 have gs1:∀(x:AV) (v:Value),ql [x,.sc v] 1=some v:=fun _ _=>rfl
 have gc0:∀(x:AV) (l:List AV),qs (x::l) 0=some x:=fun _ _=>rfl
 have pn:∀(x y z:AV),qo [x,y] 1 [z]=some [x,z]:=fun _ _ _=>rfl
 rw[m1]at h5 ix sz hge
 unfold Yu
 generalize cs.set x (cs.getD x 0+24)=d at*
 by_cases hle:d.sum<=4096
 ·rw[if_pos hle]
  refine⟨(hp.put cb 0 (LI .i64 (nz d))).put m 0 [.ms cb 0 0 64 1,.sc (.int .i64 (d.sum:Nat))],?_,⟨h1,h2,h3,by rw[qB _ _ h3,qp],by rw[qp,dl]⟩,rfl,fun c c1 c2=>by simp[Hp.put,c1,c2]⟩
  have hle':((d.sum:Nat):Int)<=4096:=qe
  rw[E173]
  have b1:B173_1 (.ptr m 0 0) (.int .i64 (x:Int)) hp=some (.tup [],(hp.put cb 0 (LI .i64 (nz d))).put m 0 [.ms cb 0 0 64 1,.sc (.int .i64 (d.sum:Nat))]):=by
   rw[qeg]
   generalize((d.sum:Nat):Int)=D at*
   generalize((cs.getD x 0+24:Nat):Int)=y1 at*
   generalize((cs.getD x 0:Nat):Int)=y0 at*
   simp[h5,gc0,hms,ix,h4,g,w1,p,r5,gs1,w2,pn,qp,hle']
  have hge2:¬((64:Int)<=(x:Int)):=qe
  simp[hn0,sz,hge2,b1]
 ·rw[if_neg hle]
  have e0:hf d 0=d:=by unfold hf;simp
  obtain⟨hp2,a1,a2,a3,a4⟩:=qx5 m cb d dl qe 64 0 ((hp.put cb 0 (LI .i64 (nz d))).put m 0 [.ms cb 0 0 64 1,.sc (.int .i64 0)]) rfl h1 h2 h3 (by rw[qB _ _ h3,qp,e0]) (by rw[qp];rfl)
  refine⟨hp2,?_,a2,by rw[a3];rfl,fun c c1 c2=>by rw[a4 c c1 c2];simp[Hp.put,c1,c2]⟩
  have hle':¬(((d.sum:Nat):Int)<=4096):=qe
  rw[E173]
  have b1:B173_1 (.ptr m 0 0) (.int .i64 (x:Int)) hp=some (.tup [],hp2):=by
   rw[<-a1,qeg]
   generalize((d.sum:Nat):Int)=D at*
   generalize((cs.getD x 0+24:Nat):Int)=y1 at*
   generalize((cs.getD x 0:Nat):Int)=y0 at*
   simp[h5,gc0,hms,ix,h4,g,w1,p,r5,gs1,w2,pn,qp,hle',qC,hln]
  have hge2:¬((64:Int)<=(x:Int)):=qe
  simp[hn0,sz,hge2,b1]
abbrev EC(m:Nat)(s:En)(k:Nat)(n:Nat):List AV:=[.ptr m 0 0,.sc (.int .u64 (s.low:Int)),.sc (.int .u32 (s.width:Int)),.sc (.int .i64 (s.held:Int)),.sc (.int .u8 (s.last:Int)),.sc (.bool s.begun),S k 1 (LI .u8 s.out),.sc (.int .i64 (n:Int))]
theorem zhj(x:Nat)(hx:x<18446744073709551616)(t:TypeId)(o o':Operand):qx Tryz.prog .and t o o' (.int .u64 (x:Int)) (.int .u64 16777215)=some (.int .u64 ((x%16777216:Nat):Int)):=by
 have a:=qdn x 16777215 hx qe t o o'
 have e:x&&&16777215=x%16777216:=zpp x 24
 rw[e]at a
 exact a
theorem zhd{hp:Hp}{b:Nat}{x:List AV}(h:hp.rd b 0=some x):hp.get b=some (0,x):=by
 unfold Hp.rd at h
 obtain⟨p,hp1,h⟩:=bsm h
 split at h
 ·rename_i e
  cases h
  rw[hp1]
  obtain⟨p1,p2⟩:=p
  have:p1=0:=e.1
  subst this;rfl
 ·cases h
theorem QO{k b:Nat}{hp:Hp}{l:List AV}{v:Value}{K:Value->RO}(h:hp.rd b 0=some l)(g:ql l k=some v):yf k (ro (.ptr b 0 0)) hp K=K v:=by
 have g':ql l (0+k)=some v:=by rw[zm4];exact g
 simp only[yf,lpS,zia,zfc,vG,h,g',zmw]
theorem Ye{t:TypeId}{n:Tmp}{k:IntKind}{x y:Int}{a b:RO}:iC .lss t n (.int k x) (.int k y) a b=cond (decide (x<y)) a b:=by simp only[iC,ZP,jJ,zmw]
theorem zau{t:TypeId}{n:Tmp}{k:IntKind}{x y:Int}{a b:RO}:iC .geq t n (.int k x) (.int k y) a b=cond (decide (x>=y)) a b:=by simp only[iC,ZQ,jJ,zmw]
theorem qg5(x1:AV)(v:Value)(r:List AV):ql (x1::.sc v::r) 1=some v:=rfl
section
variable (e m k n:Nat)(hk:k=1\/k=2)
include hk
theorem qpy(c:Nat)(hc:c<256):∀(f:Nat) (s:En) (hp:Hp),s.held=f->s.low<18446744073709551616->s.out.length+f<=1000000->hp.rd e 0=some (EC m s k n)->
 B172_4 (.ptr e 0 0) (.int .u8 (c:Int)) hp=some (.tup [],hp.put e 0 (EC m ⟨s.low%16777216*256,s.width,0,s.low/16777216%256,true,s.out++List.replicate f (((255+c)%256:Nat):Int)⟩ k n)):=by
 intro f
 induction f with
 |zero=>
  intro s hp hh hlow hol h
  have sh:=fun t o o'=>yY .u64 s.low 24 qh t o o' .u64
  have e24:s.low/2^24=s.low/16777216:=qe
  rw[e24]at sh
  have i24:((24:Nat):Int)=24:=rfl
  rw[i24]at sh
  have w1:IntKind.u8.wrap ((s.low/16777216:Nat):Int)=((s.low/16777216%256:Nat):Int):=by rw[wS];rfl
  have a:=zhj s.low hlow
  have s8:∀t o o',qx Tryz.prog .shl t o o' (.int .u64 ((s.low%16777216:Nat):Int)) (.int .u64 8)=some (.int .u64 ((s.low%16777216*256:Nat):Int)):=by
   intro t o o'
   rw[zW _ _ _ _ _ _ _ _ qe]
   have e2:(2:Int)^min (8:Int).toNat IntKind.u64.bits=256:=rfl
   have e3:((s.low%16777216:Nat):Int)*256=((s.low%16777216*256:Nat):Int):=qe
   rw[e2,e3,qu qe qe]
  have hh0:(s.held:Int)=0:=qe
  rw[qei]
  obtain⟨low,width,held,last,begun,out⟩:=s
  simp only at h hh hh0 hlow sh w1 a s8
  subst hh
  simp only[EC,List.replicate_zero,znj]at h⊢
  generalize((low%16777216*256:Nat):Int)=y1 at*
  generalize((low%16777216:Nat):Int)=y2 at*
  generalize((low/16777216%256:Nat):Int)=y3 at*
  generalize((low/16777216:Nat):Int)=y4 at*
  have gs:∀(x1 x2 x3:AV) (v:Value) (r:List AV),ql (x1::x2::x3::.sc v::r) 3=some v:=fun _ _ _ _ _=>rfl
  have gs1:∀(x1:AV) (v:Value) (r:List AV),ql (x1::.sc v::r) 1=some v:=fun _ _ _=>rfl
  have p5:∀(x0 x1 x2 x3 x4 x5 x6 x7 z:AV),qo [x0,x1,x2,x3,x4,x5,x6,x7] 5 [z]=some [x0,x1,x2,x3,x4,z,x6,x7]:=fun _ _ _ _ _ _ _ _ _=>rfl
  have p4:∀(x0 x1 x2 x3 x4 x5 x6 x7 z:AV),qo [x0,x1,x2,x3,x4,x5,x6,x7] 4 [z]=some [x0,x1,x2,x3,z,x5,x6,x7]:=fun _ _ _ _ _ _ _ _ _=>rfl
  have p1:∀(x0 x1 x2 x3 x4 x5 x6 x7 z:AV),qo [x0,x1,x2,x3,x4,x5,x6,x7] 1 [z]=some [x0,z,x2,x3,x4,x5,x6,x7]:=fun _ _ _ _ _ _ _ _ _=>rfl
  simp[h,gs,gs1,sh,Xm,w1,p5,p4,p1,qC,qp,qeh,a,s8,-zm]
 |succ f ih=>
  intro s hp hh hlow hol h
  obtain⟨low,width,held,last,begun,out⟩:=s
  simp only at h hh hlow hol
  subst hh
  have hpos:((f+1:Nat):Int)>0:=qe
  have w1:IntKind.u8.wrap (255+(c:Int))=(((255+c)%256:Nat):Int):=by rw[wS];rfl
  have w2:IntKind.i64.wrap (((f+1:Nat):Int)-1)=(f:Int):=qj
  have ap:=QZ .u8 out k hk 1 qh (((255+c)%256:Nat):Int) qe
  have hi:=ih ⟨low,width,f,last,begun,out++[(((255+c)%256:Nat):Int)]⟩ (hp.put e 0 (EC m ⟨low,width,f,last,begun,out++[(((255+c)%256:Nat):Int)]⟩ k n)) rfl hlow qi (qp _ _ _)
  rw[qC]at hi
  have e1:out++List.replicate (f+1) (((255+c)%256:Nat):Int)=out++[(((255+c)%256:Nat):Int)]++List.replicate f (((255+c)%256:Nat):Int):=by simp[zo3]
  simp only[e1]
  rw[<-hi,qei]
  generalize(((255+c)%256:Nat):Int)=y at*
  generalize((f+1:Nat):Int)=F at*
  simp only[EC]at h
  have gs:∀(x1 x2 x3:AV) (v:Value) (r:List AV),ql (x1::x2::x3::.sc v::r) 3=some v:=fun _ _ _ _ _=>rfl
  have gc6:∀(x0 x1 x2 x3 x4 x5 x6 x7:AV),qs [x0,x1,x2,x3,x4,x5,x6,x7] 6=some x6:=fun _ _ _ _ _ _ _ _=>rfl
  have p6:∀(x0 x1 x2 x3 x4 x5 x6 x7 z:AV),qo [x0,x1,x2,x3,x4,x5,x6,x7] 6 [z]=some [x0,x1,x2,x3,x4,x5,z,x7]:=fun _ _ _ _ _ _ _ _ _=>rfl
  have p3:∀(x0 x1 x2 x3 x4 x5 x6 x7 z:AV),qo [x0,x1,x2,x3,x4,x5,x6,x7] 3 [z]=some [x0,x1,x2,z,x4,x5,x6,x7]:=fun _ _ _ _ _ _ _ _ _=>rfl
  have st6:∀(x0 x1 x2 x3 x4 x5 x6 x7 z:AV),[x0,x1,x2,x3,x4,x5,x6,x7].set 6 z=[x0,x1,x2,x3,x4,x5,z,x7]:=fun _ _ _ _ _ _ _ _ _=>rfl
  have w9:IntKind.i64.wrap (f:Int)=(f:Int):=qm qe qe
  simp[h,gs,hpos,gc6,w1,yF,ap,st6,qp,p6,qC,w2,w9,p3]
theorem zds(s:En)(hp:Hp)(hlow:s.low<18446744073709551616)(hol:s.out.length+s.held+1<=1000000)(h:hp.rd e 0=some (EC m s k n))(c0:Nat)(hc0:c0=s.low/4294967296):
 B172_1 (.ptr e 0 0) hp=some (.tup [],hp.put e 0 (EC m ⟨s.low%16777216*256,s.width,0,s.low/16777216%256,true,s.out++(if s.begun then [(((s.last+c0%256)%256:Nat):Int)]else [])++List.replicate s.held (((255+c0%256)%256:Nat):Int)⟩ k n)):=by
 have gs4:∀(x0 x1 x2 x3:AV) (v:Value) (r:List AV),ql (x0::x1::x2::x3::.sc v::r) 4=some v:=fun _ _ _ _ _ _=>rfl
 have gs5:∀(x0 x1 x2 x3 x4:AV) (v:Value) (r:List AV),ql (x0::x1::x2::x3::x4::.sc v::r) 5=some v:=fun _ _ _ _ _ _ _=>rfl
 have gc6:∀(x0 x1 x2 x3 x4 x5 x6 x7:AV),qs [x0,x1,x2,x3,x4,x5,x6,x7] 6=some x6:=fun _ _ _ _ _ _ _ _=>rfl
 have p6:∀(x0 x1 x2 x3 x4 x5 x6 x7 z:AV),qo [x0,x1,x2,x3,x4,x5,x6,x7] 6 [z]=some [x0,x1,x2,x3,x4,x5,z,x7]:=fun _ _ _ _ _ _ _ _ _=>rfl
 have st6:∀(x0 x1 x2 x3 x4 x5 x6 x7 z:AV),[x0,x1,x2,x3,x4,x5,x6,x7].set 6 z=[x0,x1,x2,x3,x4,x5,z,x7]:=fun _ _ _ _ _ _ _ _ _=>rfl
 have sh32:∀t o o',qx Tryz.prog .shr t o o' (.int .u64 (s.low:Int)) (.int .u64 32)=some (.int .u64 (c0:Int)):=by
  intro t o o'
  have a:=yY .u64 s.low 32 qh t o o' .u64
  have e32:s.low/2^32=c0:=qe
  rw[e32]at a
  exact a
 clear hc0
 have w1:IntKind.u8.wrap (c0:Int)=((c0%256:Nat):Int):=by rw[wS];rfl
 have w2:IntKind.u8.wrap ((s.last:Int)+((c0%256:Nat):Int))=(((s.last+c0%256)%256:Nat):Int):=by rw[wS];rfl
 have ap:=QZ .u8 s.out k hk 1 qh (((s.last+c0%256)%256:Nat):Int) qe
 rw[qwc]
 cases hb:s.begun
 ·have f4:=qpy e m k n hk (c0%256) qe s.held s hp rfl hlow qe h
  rw[if_neg qh,znj,<-f4]
  simp only[EC,hb]at h
  generalize((c0%256:Nat):Int)=cc at*
  simp[h,qg5,sh32,Xm,w1,gs5]
 ·rw[if_pos rfl]
  have f4:=qpy e m k n hk (c0%256) qe s.held ⟨s.low,s.width,s.held,s.last,true,s.out++[(((s.last+c0%256)%256:Nat):Int)]⟩ (hp.put e 0 (EC m ⟨s.low,s.width,s.held,s.last,true,s.out++[(((s.last+c0%256)%256:Nat):Int)]⟩ k n)) rfl hlow qi (qp _ _ _)
  rw[qC]at f4
  rw[<-f4]
  simp only[EC,hb]at h⊢
  have hg:=zhd h
  have sg:∀X:AV,xm (AV.ptr e 0 4,1) hp.get (hp.put e 0 [AV.ptr m 0 0,.sc (.int .u64 (s.low:Int)),.sc (.int .u32 (s.width:Int)),.sc (.int .i64 (s.held:Int)),.sc (.int .u8 (s.last:Int)),.sc (.bool true),X,.sc (.int .i64 (n:Int))]).get=some ():=by
   intro X
   refine Zr ?_
   have e1:∀Y:List AV,(hp.put e 0 Y).get e=some (0,Y):=fun Y=>by simp[Hp.put]
   unfold yK
   simp only[Yo,vG,zmw,hg,e1]
   rfl
  generalize(((s.last+c0%256)%256:Nat):Int)=ll at*
  generalize((c0%256:Nat):Int)=cc at*
  clear f4
  simp[h,qg5,sh32,Xm,w1,gs5,gc6,st6,qp,gs4,w2,yF,ap,p6,qC,sg]
omit hk in
theorem zdr(s:En)(hp:Hp)(hlow:s.low<18446744073709551616)(hheld:s.held<1000000)(h:hp.rd e 0=some (EC m s k n)):
 B172_8 (.ptr e 0 0) hp=some (.tup [],hp.put e 0 (EC m ⟨s.low%16777216*256,s.width,s.held+1,s.last,s.begun,s.out⟩ k n)):=by
 have gs3:∀(x1 x2 x3:AV) (v:Value) (r:List AV),ql (x1::x2::x3::.sc v::r) 3=some v:=fun _ _ _ _ _=>rfl
 have p3:∀(x0 x1 x2 x3 x4 x5 x6 x7 z:AV),qo [x0,x1,x2,x3,x4,x5,x6,x7] 3 [z]=some [x0,x1,x2,z,x4,x5,x6,x7]:=fun _ _ _ _ _ _ _ _ _=>rfl
 have p1:∀(x0 x1 x2 x3 x4 x5 x6 x7 z:AV),qo [x0,x1,x2,x3,x4,x5,x6,x7] 1 [z]=some [x0,z,x2,x3,x4,x5,x6,x7]:=fun _ _ _ _ _ _ _ _ _=>rfl
 have w3:IntKind.i64.wrap ((s.held:Int)+1)=((s.held+1:Nat):Int):=qj
 have a24:=zhj s.low hlow
 have s8:∀t o o',qx Tryz.prog .shl t o o' (.int .u64 ((s.low%16777216:Nat):Int)) (.int .u64 8)=some (.int .u64 ((s.low%16777216*256:Nat):Int)):=by
  intro t o o'
  rw[zW _ _ _ _ _ _ _ _ qe]
  have e2:(2:Int)^min (8:Int).toNat IntKind.u64.bits=256:=rfl
  have e3:((s.low%16777216:Nat):Int)*256=((s.low%16777216*256:Nat):Int):=qe
  rw[e2,e3,qu qe qe]
 simp only[EC]at h⊢
 rw[qwb]
 generalize((s.low%16777216*256:Nat):Int)=y1 at*
 generalize((s.low%16777216:Nat):Int)=y2 at*
 generalize((s.held+1:Nat):Int)=hh at*
 simp[h,gs3,w3,p3,qp,qC,qeh,qg5,a24,s8,p1,-zm]
theorem qb5(s:En)(hp:Hp)(hlow:s.low<18446744073709551616)(hheld:s.held<1000000)(hol:s.out.length+s.held+1<=1000000)(h:hp.rd e 0=some (EC m s k n)):
 run cxX 172 [.ptr e 0 0] hp=some (.tup [],hp.put e 0 (EC m (sh s) k n)):=by
 have s1:=zds e m k n hk s hp hlow hol h _ rfl
 have s8:=zdr e m k n s hp hlow hheld h
 have hR:hp.rd e 0=some (AV.ptr m 0 0::.sc (.int .u64 (s.low:Int))::(EC m s k n).drop 2):=h
 rw[E172]
 by_cases hA:s.low<4278190080\/4294967296<=s.low
 ·have es:sh s=⟨s.low%16777216*256,s.width,0,s.low/16777216%256,true,s.out++(if s.begun then [(((s.last+s.low/4294967296%256)%256:Nat):Int)]else [])++List.replicate s.held (((255+s.low/4294967296%256)%256:Nat):Int)⟩:=by
   unfold sh;rw[if_pos hA]
  rw[<-es]at s1
  by_cases h1:s.low<4278190080
  ·have d1:decide ((s.low:Int)<Int.ofNat 4278190080)=true:=decide_eq_true (by show(s.low:Int)<((4278190080:Nat):Int);omega)
   rw[QO hR (qg5 _ _ _),Ye,d1,cond_true,s1]
  ·have d1:decide ((s.low:Int)<Int.ofNat 4278190080)=false:=decide_eq_false (by show ¬((s.low:Int)<((4278190080:Nat):Int));omega)
   have d2:decide ((s.low:Int)>=Int.ofNat 4294967296)=true:=decide_eq_true (by show(s.low:Int)>=((4294967296:Nat):Int);omega)
   rw[QO hR (qg5 _ _ _),Ye,d1,cond_false,QO hR (qg5 _ _ _),zau,d2,cond_true,s1]
 ·have es:sh s=⟨s.low%16777216*256,s.width,s.held+1,s.last,s.begun,s.out⟩:=by
   unfold sh;rw[if_neg hA]
  rw[<-es]at s8
  have d1:decide ((s.low:Int)<Int.ofNat 4278190080)=false:=decide_eq_false (by show ¬((s.low:Int)<((4278190080:Nat):Int));omega)
  have d2:decide ((s.low:Int)>=Int.ofNat 4294967296)=false:=decide_eq_false (by show ¬((s.low:Int)>=((4294967296:Nat):Int));omega)
  rw[QO hR (qg5 _ _ _),Ye,d1,cond_false,QO hR (qg5 _ _ _),zau,d2,cond_false,s8]
end
def EW(hp:Hp)(e m cb:Nat)(s:En)(cs:List Nat)(k n:Nat):Prop:=e<hp.next/\hp.rd e 0=some (EC m s k n)/\MW hp m cb cs/\e≠m/\e≠cb
def F3(e m cb:Nat)(hp hp':Hp):Prop:=hp'.next=hp.next/\∀c,c≠e->c≠m->c≠cb->hp'.get c=hp.get c
theorem F3.trans{e m cb:Nat}{a b c:Hp}(h:F3 e m cb a b)(g:F3 e m cb b c):F3 e m cb a c:=
 ⟨by rw[g.1,h.1],fun x h1 h2 h3=>by rw[g.2 x h1 h2 h3,h.2 x h1 h2 h3]⟩
theorem EW.put{hp:Hp}{e m cb:Nat}{s s':En}{cs:List Nat}{k n k' n':Nat}(h:EW hp e m cb s cs k n):EW (hp.put e 0 (EC m s' k' n')) e m cb s' cs k' n'/\F3 e m cb hp (hp.put e 0 (EC m s' k' n')):=by
 obtain⟨h1,h2,h3,h4,h5⟩:=h
 refine⟨⟨h1,qp _ _ _,h3.fr (Fm.put (X:=[e]) hp e _ qg) (by simp;exact fun q=>h4 q.symm) (by simp;exact fun q=>h5 q.symm),h4,h5⟩,rfl,fun c c1 c2 c3=>by simp[Hp.put,c1]⟩
theorem gs2E(x0 x1:AV)(v:Value)(r:List AV):ql (x0::x1::.sc v::r) 2=some v:=rfl
section
variable (e m cb k:Nat)(hk:k=1\/k=2)
include hk
theorem qtk(x:Nat)(hx:x<64)(cs:List Nat)(hm:okM cs)(n:Nat)(hn:n<1000000):∀(f:Nat) (s:En) (hp:Hp),EW hp e m cb s cs k n->Zy s s.width->s.width<4294967296->4294967296<=s.width*256^f*256->eK s+f<=900000->
 ∃hp',B108_9 (.ptr e 0 0) (.int .i64 (x:Int)) hp=some (.sc (.bool true),hp')/\EW hp' e m cb (zE f s) (Yu cs x) k (n+1)/\F3 e m cb hp hp':=by
 intro f
 have gs2:∀(x0 x1:AV) (v:Value) (r:List AV),ql (x0::x1::.sc v::r) 2=some v:=fun _ _ _ _=>rfl
 have gs7:∀(x0 x1 x2 x3 x4 x5 x6:AV) (v:Value),ql [x0,x1,x2,x3,x4,x5,x6,.sc v] 7=some v:=fun _ _ _ _ _ _ _ _=>rfl
 have gc0:∀(x:AV) (l:List AV),qs (x::l) 0=some x:=fun _ _=>rfl
 have p7:∀(x0 x1 x2 x3 x4 x5 x6 x7 z:AV),qo [x0,x1,x2,x3,x4,x5,x6,x7] 7 [z]=some [x0,x1,x2,x3,x4,x5,x6,z]:=fun _ _ _ _ _ _ _ _ _=>rfl
 have p2:∀(x0 x1 x2 x3 x4 x5 x6 x7 z:AV),qo [x0,x1,x2,x3,x4,x5,x6,x7] 2 [z]=some [x0,x1,z,x3,x4,x5,x6,x7]:=fun _ _ _ _ _ _ _ _ _=>rfl
 have done:∀(s:En) (hp:Hp),EW hp e m cb s cs k n->¬(s.width<16777216)->∃hp',B108_9 (.ptr e 0 0) (.int .i64 (x:Int)) hp=some (.sc (.bool true),hp')/\EW hp' e m cb s (Yu cs x) k (n+1)/\F3 e m cb hp hp':=by
  intro s hp h hw
  obtain⟨h1,h2,h3,h4,h5⟩:=h
  obtain⟨hp1,a1,a2,a3,a4⟩:=qpz hp m cb x cs h3 hm hx
  have r1:hp1.rd e 0=some (EC m s k n):=by rw[xo (a4 e h4 h5)];exact h2
  have w1:IntKind.i64.wrap ((n:Int)+1)=((n+1:Nat):Int):=qj
  have hE:EW hp1 e m cb s (Yu cs x) k n:=⟨by rw[a3];exact h1,r1,a2,h4,h5⟩
  obtain⟨q1,q2⟩:=hE.put (s':=s) (k':=k) (n':=n+1)
  refine⟨hp1.put e 0 (EC m s k (n+1)),?_,q1,⟨by rw[q2.1,a3],fun c c1 c2 c3=>by rw[q2.2 c c1 c2 c3,a4 c c2 c3]⟩⟩
  have d1:decide ((s.width:Int)<Int.ofNat 16777216)=false:=decide_eq_false (by show ¬((s.width:Int)<((16777216:Nat):Int));omega)
  clear hw
  simp only[EC]at h2 r1⊢
  rw[qfj]
  generalize((n+1:Nat):Int)=N at*
  rw[QO h2 (gs2E _ _ _ _),Ye,d1,cond_false]
  clear d1
  simp[h2,gs2,gc0,a1,r1,gs7,w1,p7]
 induction f with
 |zero=>
  intro s hp h ho hw hf hK
  exact done s hp h (by simp at hf;omega)
 |succ f ih=>
  intro s hp h ho hw hf hK
  by_cases hl:s.width<16777216
  ·have en:zE (f+1) s=zE f (sh (XF s (s.width*256))):=by
    show(if s.width<16777216 then _ else _)=_
    rw[if_pos hl]
   have h':Zy (XF s (s.width*256)) s.width:=ho
   obtain⟨a1,a2,a3,a4⟩:=YD (XF s (s.width*256)) s.width h' qe
   have a4:(sh (XF s (s.width*256))).width=s.width*256:=a4
   have a3:eK (sh (XF s (s.width*256)))=eK s+1:=a3
   have hf2:4294967296<=s.width*256*256^f*256:=by
    rw[zoo]at hf
    have e:s.width*(256^f*256)*256=s.width*256*256^f*256:=by
     rw[zos s.width 256,znz 256 (256^f)]
    rwa [e]at hf
   obtain⟨q1,q2⟩:=h.put (s':=XF s (s.width*256)) (k':=k) (n':=n)
   have hlow:s.low<18446744073709551616:=by have:=ho.1;omega
   have hkk:s.out.length+s.begun.toNat+s.held<=900000:=by have:eK s=s.out.length+s.begun.toNat+s.held:=rfl;omega
   have sf:=qb5 e m k n hk (XF s (s.width*256)) _ hlow (by show s.held<_;omega) (by show s.out.length+s.held+1<=_;omega) q1.2.1
   rw[qC]at sf
   obtain⟨v1,v2⟩:=h.put (s':=sh (XF s (s.width*256))) (k':=k) (n':=n)
   obtain⟨hp2,b1,b2,b3⟩:=ih (sh (XF s (s.width*256))) _ v1 (by rw[a4];exact a1) (by rw[a4];omega) (by rw[a4];exact hf2) qe
   rw[en]
   refine⟨hp2,?_,b2,v2.trans b3⟩
   have d1:decide ((s.width:Int)<Int.ofNat 16777216)=true:=decide_eq_true (by show(s.width:Int)<((16777216:Nat):Int);omega)
   have s8:∀t o o',qx Tryz.prog .shl t o o' (.int .u32 (s.width:Int)) (.int .u64 8)=some (.int .u32 ((s.width*256:Nat):Int)):=by
    intro t o o'
    rw[zW _ _ _ _ _ _ _ _ qe]
    have e2:(2:Int)^min (8:Int).toNat IntKind.u32.bits=256:=rfl
    have e3:(s.width:Int)*256=((s.width*256:Nat):Int):=qe
    rw[e2,e3,qJ qe qe]
   have h2:=h.2.1
   have ew:EC m (XF s (s.width*256)) k n=[.ptr m 0 0,.sc (.int .u64 (s.low:Int)),.sc (.int .u32 ((s.width*256:Nat):Int)),.sc (.int .i64 (s.held:Int)),.sc (.int .u8 (s.last:Int)),.sc (.bool s.begun),S k 1 (LI .u8 s.out),.sc (.int .i64 (n:Int))]:=rfl
   rw[ew]at sf
   simp only[EC]at h2
   rw[<-b1,qfj]
   generalize((s.width*256:Nat):Int)=W at*
   rw[QO h2 (gs2E _ _ _ _),Ye,d1,cond_true]
   clear d1
   simp[h2,gs2,s8,p2,sf]
  ·have en:zE (f+1) s=s:=by
    show(if s.width<16777216 then _ else _)=_
    rw[if_neg hl]
   rw[en]
   exact done s hp h hl
theorem qio(x:Nat)(hx:x<64)(cs:List Nat)(hm:okM cs)(n:Nat)(hn:n<1000000)(s:En)(hp:Hp)(h:EW hp e m cb s cs k n)(ho:Zy s s.width)(hw:16777216<=s.width/\s.width<4294967296)(hK:eK s+4<=900000):
 ∃hp',run cxX 108 [.ptr e 0 0,.sc (.int .i64 (x:Int))] hp=some (.sc (.bool true),hp')/\EW hp' e m cb (zE 4 (xC s cs x)) (Yu cs x) k (n+1)/\F3 e m cb hp hp':=by
 obtain⟨m1,m2,m3⟩:=hm
 have hn1:1<=cs.getD x 0:=by
  rw[zmv,zm0 qe]
  exact m3 _ (znb _)
 have ht:=qP cs x qe
 have hta:=qQ cs (x+1)
 have hpart:4096<=s.width/cs.sum:=by
  rw[zpz qe]
  have:4096*cs.sum<=4096*4096:=zn4 _ m2
  omega
 have hmul:s.width/cs.sum*cs.sum<=s.width:=zn9 _ _
 have hsum:s.width/cs.sum*(cs.take x).sum+s.width/cs.sum*cs.getD x 0<=s.width:=by
  rw[<-Nat.mul_add,<-ht]
  exact zn7 (zn4 _ hta) hmul
 have hge:s.width/cs.sum*1<=s.width/cs.sum*cs.getD x 0:=zn4 _ hn1
 have hpw:s.width/cs.sum<=s.width:=zo5 _ _
 obtain⟨o1,o2,o3,o4⟩:=ho
 have ok:Zy (xC s cs x) (xC s cs x).width:=by
  refine⟨?_,o2,?_,fun q=>?_⟩
  ·show s.low+s.width/cs.sum*(cs.take x).sum+s.width/cs.sum*cs.getD x 0<=_;omega
  ·show 0<s.width/cs.sum*cs.getD x 0;omega
  ·have:=o4 q
   show s.low+s.width/cs.sum*(cs.take x).sum+s.width/cs.sum*cs.getD x 0<=_;omega
 obtain⟨q1,q2⟩:=h.put (s':=xC s cs x) (k':=k) (n':=n)
 obtain⟨hp1,b1,b2,b3⟩:=qtk e m cb k hk x hx cs ⟨m1,m2,m3⟩ n hn 4 (xC s cs x) _ q1 ok (by show s.width/cs.sum*cs.getD x 0<_;omega) (by
  show 4294967296<=s.width/cs.sum*cs.getD x 0*256^4*256
  have e:(256:Nat)^4=4294967296:=qh
  rw[e]
  omega) hK
 refine⟨hp1,?_,b2,q2.trans b3⟩
 have pt:=qib hp m cb cs h.2.2.1 qe m1 x hx
 have al:=Wb hp m cb cs h.2.2.1
 have h2:=h.2.1
 have en:EC m (xC s cs x) k n=[.ptr m 0 0,.sc (.int .u64 ((s.low+s.width/cs.sum*(cs.take x).sum:Nat):Int)),.sc (.int .u32 ((s.width/cs.sum*cs.getD x 0:Nat):Int)),.sc (.int .i64 (s.held:Int)),.sc (.int .u8 (s.last:Int)),.sc (.bool s.begun),S k 1 (LI .u8 s.out),.sc (.int .i64 (n:Int))]:=rfl
 rw[en]at b1
 have gs2:∀(x0 x1:AV) (v:Value) (r:List AV),ql (x0::x1::.sc v::r) 2=some v:=fun _ _ _ _=>rfl
 have gc0:∀(x:AV) (l:List AV),qs (x::l) 0=some x:=fun _ _=>rfl
 have p1:∀(x0 x1 x2 x3 x4 x5 x6 x7 z:AV),qo [x0,x1,x2,x3,x4,x5,x6,x7] 1 [z]=some [x0,z,x2,x3,x4,x5,x6,x7]:=fun _ _ _ _ _ _ _ _ _=>rfl
 have p2:∀(x0 x1 x2 x3 x4 x5 x6 x7 z:AV),qo [x0,x1,x2,x3,x4,x5,x6,x7] 2 [z]=some [x0,x1,z,x3,x4,x5,x6,x7]:=fun _ _ _ _ _ _ _ _ _=>rfl
 have w1:IntKind.u32.wrap ((cs.sum:Nat):Int)=((cs.sum:Nat):Int):=qJ qe qe
 have qd:∀t o o',qx Tryz.prog .quo t o o' (.int .u32 (s.width:Int)) (.int .u32 (cs.sum:Nat))=some (.int .u32 ((s.width/cs.sum:Nat):Int)):=by
  intro t o o'
  rw[yx _ _ _ _ _ _ _ qe,zn2 qe]
  have e:(s.width:Int)/((cs.sum:Nat):Int)=((s.width/cs.sum:Nat):Int):=qg
  rw[e,qJ qe qe]
 have hcx:cs.getD x 0<=4096:=qe
 have htx:(cs.take x).sum<=4096:=qe
 simp only[EC]at h2
 rw[E108]
 have hz:¬(cs.getD x 0=0):=qe
 have e1:((s.width/cs.sum:Nat):Int)*(((cs.take x).sum:Nat):Int)=((s.width/cs.sum*(cs.take x).sum:Nat):Int):=qg
 have e2:((s.width/cs.sum:Nat):Int)*((cs.getD x 0:Nat):Int)=((s.width/cs.sum*cs.getD x 0:Nat):Int):=qg
 generalize hA:s.width/cs.sum*(cs.take x).sum=A at*
 generalize hB:s.width/cs.sum*cs.getD x 0=B at*
 generalize s.width/cs.sum=p at*
 generalize(cs.take x).sum=tk at*
 generalize cs.getD x 0=gx at*
 have w2:IntKind.u64.wrap (p:Int)=(p:Int):=qu qe qe
 have w3:IntKind.u64.wrap (tk:Int)=(tk:Int):=qu qe qe
 have w4:IntKind.u64.wrap ((p:Int)*(tk:Int))=(A:Int):=by rw[e1,qu qe qe]
 have w5:IntKind.u64.wrap ((s.low:Int)+(A:Int))=((s.low+A:Nat):Int):=by rw[qu]<;>omega
 have w6:IntKind.u32.wrap (gx:Int)=(gx:Int):=qJ qe qe
 have w7:IntKind.u32.wrap ((p:Int)*(gx:Int))=(B:Int):=by rw[e2,qJ qe qe]
 generalize((s.low+A:Nat):Int)=LA at*
 simp[h2,gc0,pt,hz,gs2,al,Xn,w1,qd,qg5,yw,w2,ym,w3,w4,w5,p1,w6,w7,qp,p2,qC,b1]
end
theorem Vt:∀(f:Nat) (s:En),s.width<4294967296->(zE f s).width<4294967296:=by
 intro f
 induction f with
 |zero=>intro s h;exact h
 |succ f ih=>
  intro s h
  unfold zE
  split
  ·apply ih
   have:(sh (XF s (s.width*256))).width=s.width*256:=by unfold sh;split<;>rfl
   rw[this];omega
  ·exact h
theorem qy8{B d:Nat}(h1:1<=B)(h2:B*256^d<=4294967296):d<=4:=by
 by_cases h:d<=4
 ·exact h
 ·have h3:(256:Nat)^5<=256^d:=znv qh qe
  have h4:1*256^d<=B*256^d:=zng _ h1
  have h5:(256:Nat)^5=1099511627776:=qh
  omega
theorem qkd(b m n:Nat):∀(f i:Nat) (s:En) (hp:Hp),i+f=5->Zy s 1->eK s+f<=950000->hp.rd b 0=some (EC m s 1 n)->
 ∃s',(s'=(Nat.rec s (fun _ t=>sh t) f:En))/\∃hp',B111_6 (.ptr b 0 0) (.int .i64 (i:Int)) hp=some (S 1 1 (LI .u8 s'.out),hp')/\hp'.next=hp.next/\∀c,c≠b->hp'.get c=hp.get c:=by
 intro f
 induction f with
 |zero=>
  intro i s hp h ho hK hr
  have e:i=5:=qe
  subst e
  refine⟨s,rfl,hp.put b 0 ((EC m s 1 n).set 6 (ro1 (S 1 1 (LI .u8 s.out)))),?_,rfl,fun c hc=>by simp[Hp.put,hc]⟩
  rw[qfi]
  have gc6:∀(x0 x1 x2 x3 x4 x5 x6 x7:AV),qs [x0,x1,x2,x3,x4,x5,x6,x7] 6=some x6:=fun _ _ _ _ _ _ _ _=>rfl
  simp only[EC]at hr⊢
  simp[hr,gc6]
 |succ f ih=>
  intro i s hp h ho hK hr
  have s1:=YD s 1 ho qe
  have hkk:eK s=s.out.length+s.begun.toNat+s.held:=rfl
  have sf:=qb5 b m 1 n (.inl rfl) s hp (by have:=ho.1;omega) qe qe hr
  obtain⟨s',e1,hp2,a1,a2,a3⟩:=ih (i+1) (sh s) (hp.put b 0 (EC m (sh s) 1 n)) qe (JZ s1.1 qe qe) (by rw[s1.2.2.1];omega) (qp _ _ _)
  have er:∀(f:Nat) (s:En),(Nat.rec (sh s) (fun _ t=>sh t) f:En)=sh (Nat.rec s (fun _ t=>sh t) f:En):=by
   intro f s
   induction f with
   |zero=>rfl
   |succ f ihf=>show sh _=sh (sh _);rw[ihf]
  refine⟨s',by rw[e1,er],hp2,?_,by rw[a2];rfl,fun c hc=>by rw[a3 c hc];simp[Hp.put,hc]⟩
  have hlt:(i:Int)<5:=qe
  have w1:IntKind.i64.wrap ((i:Int)+1)=((i+1:Nat):Int):=qj
  rw[<-a1,qfi]
  generalize((i+1:Nat):Int)=I at*
  simp[hlt,sf,w1]
theorem Wf(e m n k:Nat)(s:En)(hp:Hp)(he:e<hp.next)(ho:Zy s 1)(hK:eK s+5<=950000)(hr:hp.rd e 0=some (EC m s k n)):
 ∃hp',run cxX 111 [.ptr e 0 0] hp=some (S 1 1 (LI .u8 (sh (sh (sh (sh (sh s))))).out),hp')/\Fm [] hp hp':=by
 have hkk:eK s=s.out.length+s.begun.toNat+s.held:=rfl
 obtain⟨s',e1,hp2,a1,a2,a3⟩:=qkd hp.next m n 5 0 s (hp.new (EC m s 1 n)) rfl ho hK (qR _ _)
 have e1:s'=sh (sh (sh (sh (sh s)))):=e1
 rw[e1]at a1
 refine⟨hp2,?_,by rw[a2];simp,fun c hc _=>by
  have:c≠hp.next:=qe
  rw[a3 c this];simp[Hp.new,this]⟩
 have gn:∀(x0 x1 x2 x3 x4 x5 x6 x7:AV),qr [x0,x1,x2,x3,x4,x5,x6,x7] 0 8=some [x0,x1,x2,x3,x4,x5,x6,x7]:=fun _ _ _ _ _ _ _ _=>rfl
 have gc6:∀(x0 x1 x2 x3 x4 x5 x6 x7:AV),qs [x0,x1,x2,x3,x4,x5,x6,x7] 6=some x6:=fun _ _ _ _ _ _ _ _=>rfl
 have p8:∀(a0 a1 a2 a3 a4 a5 a6 a7 x0 x1 x2 x3 x4 x5 x6 x7:AV),qo [a0,a1,a2,a3,a4,a5,a6,a7] 0 [x0,x1,x2,x3,x4,x5,x6,x7]=some [x0,x1,x2,x3,x4,x5,x6,x7]:=fun _ _ _ _ _ _ _ _ _ _ _ _ _ _ _ _=>rfl
 have p6:∀(x0 x1 x2 x3 x4 x5 x6 x7 z:AV),qo [x0,x1,x2,x3,x4,x5,x6,x7] 6 [z]=some [x0,x1,x2,x3,x4,x5,z,x7]:=fun _ _ _ _ _ _ _ _ _=>rfl
 have ap:=fun k=>zb4 .u8 [] 1 (.inl rfl) 1 qh k s.out qi
 simp at ap
 have hne:e≠hp.next:=qe
 have r1:∀X,(hp.new X).rd e 0=hp.rd e 0:=fun X=>zF hp X hne
 generalize(sh (sh (sh (sh (sh s))))).out=O at*
 simp only[EC]at hr a1
 rw[E111]
 simp at a1
 simp[hr,gn,qR,qge,p8,yF,r1,gc6,ap,p6,a1]
theorem Wa(hp:Hp):∃hp' e m cb,run cxX 107 [.sc (.int .i64 64)] hp=some (.ptr e 0 0,hp')/\EW hp' e m cb en0 cs0 2 0/\hp.next<=e/\hp.next<=m/\hp.next<=cb/\hp.next<=hp'.next/\∀c,c<hp.next->hp'.get c=hp.get c:=by
 obtain⟨hp1,cb,a1,a2,a3,a4,a5⟩:=qif hp
 have hcb:=a2.2.1
 have hm:=a2.1
 refine⟨hp1.new (EC hp.next en0 2 0),hp1.next,hp.next,cb,?_,⟨qg,qR _ _,a2.fr (Fm.new [] hp1 _) qg qg,qe,qe⟩,a4,zmx _,qe,qi,fun c hc=>by
  have:c≠hp1.next:=qe
  rw[<-a5 c hc]
  simp[Hp.new,this]⟩
 have p0:∀(x0 x1 x2 x3 x4 x5 x6 x7 z:AV),qo [x0,x1,x2,x3,x4,x5,x6,x7] 0 [z]=some [z,x1,x2,x3,x4,x5,x6,x7]:=fun _ _ _ _ _ _ _ _ _=>rfl
 have p2:∀(x0 x1 x2 x3 x4 x5 x6 x7 z:AV),qo [x0,x1,x2,x3,x4,x5,x6,x7] 2 [z]=some [x0,x1,z,x3,x4,x5,x6,x7]:=fun _ _ _ _ _ _ _ _ _=>rfl
 rw[E107]
 simp[a1,p0,p2]
 rfl
theorem quh(l:List Nat)(k' e m cb:Nat)(hl:l.length<=100000)(h64:∀x∈l,x<64):∀(r:List Nat) (i:Nat) (s:En) (cs:List Nat) (hp:Hp),l.drop i=r->i+r.length=l.length->EW hp e m cb s cs 2 i->okM cs->Zy s s.width->16777216<=s.width/\s.width<4294967296->eK s<=4*i->
 ∃hp' cs',B181_5 (.ptr e 0 0) (S k' 1 (LI .u8 (nz l))) (.int .i64 (l.length:Int)) (.int .i64 (i:Int)) hp=B181_5 (.ptr e 0 0) (S k' 1 (LI .u8 (nz l))) (.int .i64 (l.length:Int)) (.int .i64 (l.length:Int)) hp'/\
  EW hp' e m cb (enc cs s r) cs' 2 l.length/\F3 e m cb hp hp'/\Zy (enc cs s r) (enc cs s r).width/\eK (enc cs s r)<=4*l.length:=by
 intro r
 induction r with
 |nil=>
  intro i s cs hp h hil hE hm ho hw hK
  have e:i=l.length:=by simpa using hil
  subst e
  exact⟨hp,cs,rfl,hE,⟨rfl,fun _ _ _ _=>rfl⟩,ho,hK⟩
 |cons x r ih=>
  intro i s cs hp h hil hE hm ho hw hK
  obtain⟨e1,e2,hi,e3⟩:=qt h
  simp only[zmu]at hil
  have hx:x<64:=h64 x (by rw[<-e3];exact znb _)
  obtain⟨d,b1,b2,b3,b4,b5,b6,b7⟩:=Za s cs x hm hx ho ⟨hw.1,zpy hw.2⟩
  have hd:d<=4:=qy8 b7 (by rw[<-b2];exact b6)
  have hlt2:(zE 4 (xC s cs x)).width<4294967296:=by
   apply Vt
   show s.width/cs.sum*cs.getD x 0<_
   have ht:=qP cs x (by have:=hm.1;omega)
   have hta:=qQ cs (x+1)
   have hmul:s.width/cs.sum*cs.sum<=s.width:=zn9 _ _
   have hle:s.width/cs.sum*cs.getD x 0<=s.width/cs.sum*cs.sum:=zn4 _ qe
   omega
  obtain⟨hp1,c1,c2,c3⟩:=qio e m cb 2 (.inr rfl) x hx cs hm i qe s hp hE ho hw qe
  obtain⟨hp2,cs2,d1,d2,d3,d4,d5⟩:=ih (i+1) (zE 4 (xC s cs x)) (Yu cs x) hp1 e2 qe c2 (Qy hm hx) b4 ⟨b5,hlt2⟩ qe
  have ee:enc cs s (x::r)=enc (Yu cs x) (zE 4 (xC s cs x)) r:=rfl
  rw[ee]
  refine⟨hp2,cs2,?_,d2,c3.trans d3,d4,d5⟩
  have hlt:(i:Int)<(l.length:Int):=qe
  have gs0:∀(v:Value),ql [.sc v] 0=some v:=fun _=>rfl
  have en:∀h,(nz l)[i]'h=(x:Int):=fun h=>by simp[nz,e3]
  have hi4:(i<l.length)=True:=by simp[hi]
  have w1:IntKind.i64.wrap (x:Int)=(x:Int):=qm qe qe
  have w2:IntKind.i64.wrap ((i:Int)+1)=((i+1:Nat):Int):=qj
  rw[<-d1,qd8]
  generalize((i+1:Nat):Int)=I at*
  simp[hi4,gs0,en,jT,w1,c1,w2]
theorem qsm(l:List Nat)(k:Nat)(hl:l.length<=100000)(h64:∀x∈l,x<64)(hp:Hp):∃hp',run cxX 181 [.sc (.int .i64 64),S k 1 (LI .u8 (nz l))] hp=some (.tup [S 1 1 (LI .u8 (jh l)),.sc (.int .i64 0)],hp')/\Fm [] hp hp':=by
 obtain⟨hp1,e,m,cb,a1,a2,a3,a4,a5,a6,a7⟩:=Wa hp
 obtain⟨hp2,cs2,b1,b2,b3,b4,b5⟩:=quh l (rk k) e m cb hl h64 l 0 en0 cs0 hp1 rfl qg a2 qji qjj ⟨qh,qh⟩ qh
 obtain⟨hp3,c1,c2⟩:=Wf e m l.length 2 (enc cs0 en0 l) hp2 b2.1 (JZ b4 b4.2.2.1 qe) qe b2.2.1
 have ec:(sh (sh (sh (sh (sh (enc cs0 en0 l)))))).out=jh l:=rfl
 rw[ec]at c1
 refine⟨hp3,?_,by have:=c2.1;rw[b3.1]at this;omega,fun c hc _=>by
  rw[c2.2 c (by rw[b3.1];omega) qg,b3.2 c qe qe qe,a7 c hc]⟩
 have b5':B181_5 (.ptr e 0 0) (S (rk k) 1 (LI .u8 (nz l))) (.int .i64 (l.length:Int)) (.int .i64 (l.length:Int)) hp2=some (.tup [S 1 1 (LI .u8 (jh l)),.sc (.int .i64 0)],hp3):=by
  rw[qd8]
  generalize jh l=O at*
  simp[c1]
 rw[<-b1]at b5'
 have b3':B181_3 (.int .i64 64) (S k 1 (LI .u8 (nz l))) hp=some (.tup [S 1 1 (LI .u8 (jh l)),.sc (.int .i64 0)],hp3):=by
  rw[<-b5',qv6]
  simp[a1]
 rw[E181]
 simp[b3']
theorem qmk(a b:List Int)(k k':Nat)(hab:a.length=b.length)(hl:a.length<=1000000)(hp:Hp):∀(r s:List Int) (i:Nat),a.drop i=r->b.drop i=s->
 B131_4 (S k 1 (LI .u32 a)) (S k' 1 (LI .u32 b)) (.int .i64 a.length) (.int .i64 i) hp=some (.sc (.bool (decide (r=s))),hp):=by
 intro r
 induction r with
 |nil=>
  intro s i hr hs
  have h1:=qK hr
  have h2:s=[]:=by rw[<-hs];exact zn1 qe
  have hlt:¬((i:Int)<(a.length:Int)):=qe
  rw[qfb]
  simp[hlt,h2]
 |cons x r ih=>
  intro s i hr hs
  obtain⟨e1,e2,hi,e3⟩:=qt hr
  rw[qfb]
  have hw:IntKind.i64.wrap ((i:Int)+1)=((i+1:Nat):Int):=qj
  cases s with
  |nil=>have:=qK hs;omega
  |cons y s=>
   obtain⟨f1,f2,hj,f3⟩:=qt hs
   have h:=ih s (i+1) e2 f2
   simp at h hw
   by_cases e:x=y
   ·simp[hi,hj,ql,e3,f3,e,hw,h]
   ·simp[hi,hj,ql,e3,f3,e]
theorem qr3(a b:List Int)(k k':Nat)(hp:Hp)(ha:a.length<=1000000):
 run cxX 131 [S k 1 (LI .u32 a),S k' 1 (LI .u32 b)] hp=some (.sc (.bool (decide (a=b))),hp):=by
 rw[E131]
 by_cases h3:a.length=b.length
 ·have h:=qmk a b k k' h3 ha hp a b 0 rfl rfl
  simp at h
  rw[h3]at h
  simp[h3,h]
 ·have h4:¬(a=b):=fun e=>h3 (by rw[e])
  have h5:¬((a.length:Int)=(b.length:Int)):=qe
  simp[h4,h5]
def Wz:List Int->Int
 |[]=>0
 |[_]=>0
 |x::y::r=>if y<=x then 8 else Wz (y::r)
def qhx(l:List Int):Int:=if 4096<l.length then 7 else Wz l
theorem XV:∀{l:List Int},yo l->Wz l=0
 |[],_=>rfl
 |[_],_=>rfl
 |x::y::r,h=>by
  have h':=zm1.mp h
  have hxy:=h'.1 y qg
  show(if y<=x then 8 else Wz (y::r))=0
  rw[if_neg qe]
  exact XV h'.2
theorem qcp:∀{l:List Int},Wz l=0->yo l
 |[],_=>List.Pairwise.nil
 |[_],_=>by simp
 |x::y::r,h=>by
  have h:(if y<=x then 8 else Wz (y::r))=0:=h
  split at h
  ·cases h
  ·rename_i hxy
   have ih:=qcp h
   have ih':=zm1.mp ih
   refine zm1.mpr ⟨fun n hn=>?_,ih⟩
   rcases zmy.mp hn with rfl|hn
   ·omega
   ·have:=ih'.1 n hn;omega
theorem qhy(l:List Int)(k:Nat)(hl:l.length<=4096)(hp:Hp):∀(r:List Int) (x:Int) (j:Nat),l.drop j=x::r->
 B84_4 (S k 1 (LI .u32 l)) (.int .i64 ((j+1:Nat):Int)) hp=some (.sc (.int .i64 (Wz (x::r))),hp):=by
 intro r
 induction r with
 |nil=>
  intro x j hr
  obtain⟨e1,e2,hi,e3⟩:=qt hr
  have:=qK e2
  have hlt:¬((j:Int)+1<(l.length:Int)):=qe
  rw[qaz]
  simp[hlt,Wz]
 |cons y r ih=>
  intro x j hr
  obtain⟨e1,e2,hi,e3⟩:=qt hr
  obtain⟨f1,f2,hj,f3⟩:=qt e2
  have hlt:(j:Int)+1<(l.length:Int):=qe
  have hw:IntKind.i64.wrap ((j:Int)+1-1)=(j:Int):=qj
  have hw2:IntKind.i64.wrap ((j:Int)+1+1)=((j+1+1:Nat):Int):=qj
  have hz:(0:Int)<=(j:Int)+1:=qe
  have hn:((j:Int)+1).toNat=j+1:=qe
  have h:=ih y (j+1) e2
  rw[qaz]
  simp at h hw hw2
  by_cases hxy:y<=x
  ·simp[hlt,hw,hz,hn,hi,hj,ql,e3,f3,hxy,Wz]
  ·simp[hlt,hw,hw2,hz,hn,hi,hj,ql,e3,f3,hxy,Wz,h]
theorem qmt(l:List Int)(k:Nat)(hp:Hp):run cxX 84 [S k 1 (LI .u32 l)] hp=some (.sc (.int .i64 (qhx l)),hp):=by
 rw[E84]
 unfold qhx
 by_cases hl:4096<l.length
 ·have:(4096:Int)<(l.length:Int):=qe
  simp[hl,this]
 ·have:¬((4096:Int)<(l.length:Int)):=qe
  cases l with
  |nil=>
   have h0:B84_4 (S k 1 []) (.int .i64 1) hp=some (.sc (.int .i64 0),hp):=by
    rw[qaz]
    simp
   simp[h0,Wz]
  |cons x r=>
   have h:=qhy (x::r) k qe hp r x 0 rfl
   simp at h hl this
   have h1:¬(4096<r.length+1):=qe
   have h2:¬((4096:Int)<(r.length:Int)+1):=qe
   simp[h,h1,h2]
def MsR(hp:Hp)(x:AV)(l:List Int):Prop:=(l=[]/\x=S 2 1 [])\/(l≠[]/\∃b,x= .ms b 0 0 l.length 1/\hp.rd b 0=some (LI .u32 l))
theorem MsR.len{hp:Hp}{x:AV}{l:List Int}(h:MsR hp x l):xK (ro x)=some l.length:=by
 rcases h with⟨rfl,rfl⟩|⟨_,b,rfl,_⟩
 ·simp
 ·simp
theorem qqe{a b:List Int}{n:Int}(h:yo (a++b))(ha:∀x∈a,x<n)(hb:∀x∈b,n<x):mrg (a++b) [n]=a++n::b:=by
 have h':=zow.mp h
 refine YM (xn _ _ h qg) ?_ (fun x=>?_)
 ·refine zow.mpr ⟨h'.1,zm1.mpr ⟨fun x hx=>hb x hx,h'.2.1⟩,fun x hx y hy=>?_⟩
  rcases zmy.mp hy with rfl|hy
  ·exact ha x hx
  ·exact h'.2.2 x hx y hy
 ·rw[xt];simp
  constructor
  ·rintro((h|h)|h)<;>simp[h]
  ·rintro(h|h|h)<;>simp[h]
theorem qz4(a b:List Int)(n:Int)(x x8:AV)(v9 v10:Value)(hp:Hp)(hx:MsR hp x (a++b))(hl:(a++b).length<4096):
 ∃x' hp',MsR hp' x' (a++n::b)/\B76_9 x (.int .u32 n) (.int .i64 a.length) x8 v9 v10 hp=B76_14 x' x8 v9 v10 hp':=by
 have hne:¬(((a++b).length:Int)=4096):=qe
 --the append
 obtain⟨c,hp1,hc,ap⟩:∃c hp1,hp1.rd c 0=some (LI .u32 (a++b++[0]))/\jX 4 1 (ro x) (S 1 1 [.sc (.int .u32 0)]) hp=some (.ms c 0 0 ((a++b).length+1) 1,hp1):=by
  rcases hx with⟨e,rfl⟩|⟨e,c,rfl,hc⟩
  ·refine⟨hp.next,hp.new (LI .u32 [0]),?_,?_⟩
   ·rw[e];exact qR _ _
   ·rw[e];exact QY .u32 0 4 qh hp
  ·exact⟨hp.next,(hp.del c).new (LI .u32 (a++b++[0])),qR (hp.del c) _,ZR .u32 (a++b) 0 4 c qh qe e hp hc⟩
 have e0:(a++b++[0]).length=(a++b).length+1:=qi
 have e1:(a++b).length=a.length+b.length:=qg
 have lx:=hx.len
 --the copy
 have sm:=Yz .u32 (a++b++[0]) hp1 c a.length ((a++b).length+1-a.length) hc qe
 have sm2:((a++b++[0]).drop a.length).take ((a++b).length+1-a.length)=b++[0]:=by
  rw[znf,zp0]
  exact znr qi
 rw[sm2]at sm
 have cp:(Xp 1 ((a++b).length+1-(a.length+1)) (LI .u32 (b++[0]))).2=LI .u32 b:=by
  unfold Xp
  simp only[WH,wI,zom]
  have e:min (b++[0]).length ((a++b).length+1-(a.length+1))=b.length:=qg
  rw[e,zgy,zra]
 have p1:=zen .u32 (a++b++[0]) b (a.length+1) qe
 have p1':(a++b++[0]).take (a.length+1)++b++(a++b++[0]).drop (a.length+1+b.length)=a++((b++[0]).take 1++b):=by
  have d:(a++b++[0]).drop (a.length+1+b.length)=[]:=zn1 qe
  rw[d,znj,znf a b,List.take_append]
  have e:a.length+1-a.length=1:=qe
  rw[e,znr (by omega:a.length<=a.length+1),znf]
 rw[p1']at p1
 obtain⟨z,hz⟩:∃z,(b++[0]).take 1=[z]:=by
  cases b with
  |nil=>exact⟨0,rfl⟩
  |cons y b=>exact⟨y,rfl⟩
 rw[hz]at p1
 have hlen2:(a++([z]++b)).length=(a++b).length+1:=qi
 have p2:=xp .u32 (a++([z]++b)) a.length n qg
 have p2':(a++([z]++b)).set a.length n=a++n::b:=qg
 rw[p2']at p2
 have hlen3:(a++n::b).length=(a++b).length+1:=qi
 have w1:IntKind.i64.wrap ((a.length:Int)+((1:Nat):Int))=((a.length+1:Nat):Int):=qj
 have bd1:=xO (hi:=(a++b).length+1) (d:=0) (n:=a.length+1) .i64 qe
 have bd2:=xO (hi:=(a++b).length+1) (d:=0) (n:=a.length) .i64 qe
 have ix:=zp (n:=(a++b).length+1) (i:=a.length) .i64 qe
 refine⟨.ms c 0 0 (a++n::b).length 1,((hp1.put c 0 (LI .u32 (a++([z]++b)))).put c 0 (LI .u32 (a++n::b))),.inr ⟨qg,c,rfl,qp _ _ _⟩,?_⟩
 rw[hlen3,zck]
 have hz0:(((a++b).length:Nat):Int)=((4096:Nat):Int)↔False:=⟨fun h=>hne qe,False.elim⟩
 have uS:AV.us 1 [ro1 (AV.sc (.int .u32 (0:Int)))]=S 1 1 [.sc (.int .u32 0)]:=rfl
 have ov:yF [AV.sc (Value.int IntKind.u32 (0:Int))]=some ():=by rw[qz1];exact if_pos qg
 generalize(a++b).length=m at*
 have z0:((0:Nat):Int)=0:=rfl
 simp only[Yo,lx,zmw,zoy,qar,hz0,z0,vO,decide_false,jJ,cond_false,ov,uS,us_S,ap,yg,w1,qcn,vI,qao,bd1,bd2,QW,Yp,sm,hc,zqf,zm4,Nat.sub_eq,cp,p1,ix,qp,p2]
theorem ze8(n:Int)(x8:AV)(v9 v10:Value):∀(m:Nat) (a b:List Int) (x:AV) (hp:Hp),a.length=m->MsR hp x (a++b)->yo (a++b)->(∀y∈b,n<y)->(a++b).length<4096->
 ∃x' hp',MsR hp' x' (mrg (a++b) [n])/\B76_6 x (.int .u32 n) (.int .i64 a.length) x8 v9 v10 hp=B76_14 x' x8 v9 v10 hp':=by
 intro m
 induction m with
 |zero=>
  intro a b x hp hm hx hr hb hl
  have:a=[]:=zm9.mp hm
  subst this
  obtain⟨x',hp',h1,h2⟩:=qz4 [] b n x x8 v9 v10 hp hx hl
  refine⟨x',hp',?_,?_⟩
  ·rw[qqe hr qg hb];exact h1
  ·rw[qlm]
   simpa using h2
 |succ m ih=>
  intro a b x hp hm hx hr hb hl
  obtain⟨a',y,rfl⟩:∃a' y,a=a'++[y]:=⟨a.dropLast,a.getLast (by intro e;subst e;simp at hm),(List.dropLast_concat_getLast _).symm⟩
  have hm':a'.length=m:=by simpa using hm
  have hne:a'++[y]++b≠[]:=qg
  obtain⟨c,rfl,hc⟩:∃c,x= .ms c 0 0 (a'++[y]++b).length 1/\hp.rd c 0=some (LI .u32 (a'++[y]++b)):=by
   rcases hx with⟨e,_⟩|⟨_,c,h1,h2⟩
   ·exact absurd e hne
   ·exact⟨c,h1,h2⟩
  have hpos:(0:Int)<((a'++[y]).length:Int):=qe
  have hm4:m<4096:=by simp at hl;omega
  have w1:IntKind.i64.wrap (((a'++[y]).length:Int)-1)=(a'.length:Int):=by rw[hm,qm]<;>omega
  have ix:=zp (n:=(a'++[y]++b).length) (i:=a'.length) .i64 qg
  have gs:(a'++[y]++b)[a'.length]?=some y:=qg
  have hr':=zow.mp hr
  have hra:=zow.mp hr'.1
  rw[qlm]
  have hpos':(((a'++[y]).length:Nat):Int)>((0:Nat):Int)↔True:=⟨fun _=>trivial,fun _=>hpos⟩
  have w1':IntKind.i64.wrap ((((a'++[y]).length:Nat):Int)-((1:Nat):Int))=(a'.length:Int):=w1
  by_cases hy:n<=y
  ·have hge:(y>=n)↔True:=⟨fun _=>trivial,fun _=>hy⟩
   by_cases he:y=n
   ·--it is there
    subst he
    refine⟨.ms c 0 0 (a'++[y]++b).length 1,hp,?_,?_⟩
    ·rw[zfg hr qg qg]
     exact .inr ⟨hne,c,rfl,hc⟩
    ·generalize hN:(a'++[y]++b).length=N at*
     simp only[Yo,zoy,Qn,hpos',decide_true,jJ,zmw,cond_true,vR,w1',qcn,vI,ix,QW,Yp,vO,hc,zqf,zm4,ql,qbn?,gs,zpc,kT,ZQ,hge]
     rw[qll]
     simp only[Yo,zoy,Qn,hpos',decide_true,jJ,zmw,cond_true,vR,w1',qcn,vI,ix,QW,Yp,vO,hc,zqf,zm4,ql,qbn?,gs,zpc,kT,qar]
   ·have e2:a'++[y]++b=a'++(y::b):=qg
    obtain⟨x',hp',h1,h2⟩:=ih a' (y::b) (.ms c 0 0 (a'++[y]++b).length 1) hp hm' (by rw[<-e2];exact .inr ⟨hne,c,rfl,hc⟩) (by rw[<-e2];exact hr) (fun z hz=>by
     rcases zmy.mp hz with rfl|hz
     ·omega
     ·exact hb z hz) (by rw[<-e2];exact hl)
    refine⟨x',hp',by rw[e2];exact h1,?_⟩
    have hne2:(y=n)↔False:=⟨fun h=>he h,False.elim⟩
    generalize hN:(a'++[y]++b).length=N at*
    simp only[Yo,zoy,Qn,hpos',decide_true,jJ,zmw,cond_true,vR,w1',qcn,vI,ix,QW,Yp,vO,hc,zqf,zm4,ql,qbn?,gs,zpc,kT,ZQ,hge]
    rw[qll]
    simp only[Yo,zoy,Qn,hpos',decide_true,jJ,zmw,cond_true,cond_false,decide_false,vR,w1',qcn,vI,ix,QW,Yp,vO,hc,zqf,zm4,ql,qbn?,gs,zpc,kT,qar,hne2]
    exact h2
  ·have hge:(y>=n)↔False:=⟨fun h=>hy h,False.elim⟩
   obtain⟨x',hp',h1,h2⟩:=qz4 (a'++[y]) b n (.ms c 0 0 (a'++[y]++b).length 1) x8 v9 v10 hp (.inr ⟨hne,c,rfl,hc⟩) hl
   refine⟨x',hp',?_,?_⟩
   ·rw[qqe hr (fun z hz=>?_) hb]
    ·exact h1
    ·rcases zn3.mp hz with hz|hz
     ·have:=hra.2.2 z hz y qg;omega
     ·simp at hz;omega
   ·generalize hN:(a'++[y]++b).length=N at*
    simp only[Yo,zoy,Qn,hpos',decide_true,decide_false,jJ,zmw,cond_true,cond_false,vR,w1',qcn,vI,ix,QW,Yp,vO,hc,zqf,zm4,ql,qbn?,gs,zpc,kT,ZQ,hge]
    exact h2
theorem ze9(l:List Int)(k:Nat)(hl:l.length<=4096):∀(r:List Int) (i:Nat) (s:List Int) (x:AV) (hp:Hp),l.drop i=r->yo s->s.length<=i->i<=l.length->MsR hp x s->
 ∃t hp',B76_3 x (S k 1 (LI .u32 l)) (.int .i64 l.length) (.int .i64 i) hp=some (.tup [S t 1 (LI .u32 (KH s r)),.sc (.int .i64 0)],hp'):=by
 intro r
 induction r with
 |nil=>
  intro i s x hp hr hs hsl hil hx
  have:=qK hr
  have hlt:¬((i:Int)<(l.length:Int)):=qe
  rcases hx with⟨rfl,rfl⟩|⟨_,b,rfl,hb⟩
  ·refine⟨2,hp,?_⟩
   rw[qa0]
   simp[hlt,KH]
  ·have f:=QT .u32 s hp b hb
   refine⟨0,hp.del b,?_⟩
   rw[qa0]
   simp[hlt,KH,f]
 |cons y r ih=>
  intro i s x hp hr hs hsl hil hx
  obtain⟨e1,e2,hi,e3⟩:=qt hr
  have hw:IntKind.i64.wrap ((i:Int)+1)=((i+1:Nat):Int):=qj
  obtain⟨x',hp1,h1,h2⟩:=ze8 y (S k 1 (LI .u32 l)) (.int .i64 l.length) (.int .i64 i) s.length s [] x hp rfl (by simpa using hx) (by simpa using hs) qg qi
  rw[znj]at h1
  have hl1:(mrg s [y]).length<=s.length+1:=by simpa using YX s [y]
  obtain⟨t,hp',h⟩:=ih (i+1) (mrg s [y]) x' hp1 e2 (xn _ _ hs qg) qe qe h1
  refine⟨t,hp',?_⟩
  have lx:=hx.len
  rw[qa0]
  have h14:B76_14 x' (S k 1 (LI .u32 l)) (.int .i64 l.length) (.int .i64 i) hp1=B76_3 x' (S k 1 (LI .u32 l)) (.int .i64 l.length) (.int .i64 ((i+1:Nat):Int)) hp1:=by
   rw[qu6]
   simp at hw
   simp[hw]
  rw[h14]at h2
  simp at h2 h
  simp[hi,e3,ql,lx,h2,h,KH]
theorem qmx(l:List Int)(k:Nat)(hl:l.length<=4096)(hp:Hp):∃t hp',run cxX 76 [S k 1 (LI .u32 l)] hp=some (.tup [S t 1 (LI .u32 (KH [] l)),.sc (.int .i64 0)],hp'):=by
 obtain⟨t,hp',h⟩:=ze9 l (rk k) hl l 0 [] (S 2 1 []) hp rfl List.Pairwise.nil qg qg (.inl ⟨rfl,rfl⟩)
 refine⟨t,hp',?_⟩
 rw[E76]
 simpa using h
theorem qn9(l:List Int)(k:Nat)(hl:l.length<=4096)(hp:Hp):∀(r:List Int) (i:Nat) (a:List Int),l.drop i=r->a.length<=i->i<=l.length->
 ∃t,B31_3 (.bool false) (S 2 1 (LI .u32 a)) (S k 1 (LI .u32 l)) (.int .i64 l.length) (.int .i64 i) hp=some (.tup [S t 1 (LI .u32 (KH [] (a++r))),.sc (.int .i64 0)],hp):=by
 intro r
 induction r with
 |nil=>
  intro i a hr ha hil
  have:=qK hr
  have hlt:¬((i:Int)<(l.length:Int)):=qe
  obtain⟨t,hp',h⟩:=qmx a 3 qe hp0
  refine⟨t,?_⟩
  rw[ql7]
  simp[hlt,h]
 |cons y r ih=>
  intro i a hr ha hil
  obtain⟨e1,e2,hi,e3⟩:=qt hr
  have hw:IntKind.i64.wrap ((i:Int)+1)=((i+1:Nat):Int):=qj
  have ap:=QZ .u32 a 2 (.inr rfl) 4 qh y qe
  obtain⟨t,h⟩:=ih (i+1) (a++[y]) e2 qi qe
  refine⟨t,?_⟩
  rw[ql7]
  simp at h hw ap
  simp[hi,e3,ql,zda,ap,hw,h]
theorem qyg(l:List Int)(k:Nat)(hl:l.length<=4096)(hp:Hp):∃t,run cxX 31 [S k 1 (LI .u32 l),.sc (.bool false)] hp=some (.tup [S t 1 (LI .u32 (KH [] l)),.sc (.int .i64 0)],hp):=by
 obtain⟨t,h⟩:=qn9 l (rk k) hl hp l 0 [] rfl qg qg
 refine⟨t,?_⟩
 rw[E31]
 simp at h
 simp[h]
def qkr(x:Nat):Nat:=if x=0 then 0 else Nat.log2 x+1
theorem zgm{x n:Nat}(h:Bl x n):n=qkr x:=by
 unfold qkr
 by_cases hx:x=0
 ·rw[if_pos hx]
  subst hx
  rcases h.2 with h2|h2
  ·exact h2
  ·have:=zo4 (n-1);omega
 ·rw[if_neg hx]
  have hn:n≠0:=by
   intro e;subst e
   have:=h.1
   simp at this
   exact hx this
  have h2:=h.2.resolve_left hn
  have a1:=Nat.log2_self_le hx
  have a2:x<2^(Nat.log2 x+1):=Nat.lt_log2_self
  have b1:n-1<Nat.log2 x+1:=(Nat.pow_lt_pow_iff_right (by decide:1<2)).mp (zog h2 a2)
  have b2:Nat.log2 x<n:=(Nat.pow_lt_pow_iff_right (by decide:1<2)).mp (zog a1 h.1)
  omega
theorem zd1(x:Nat)(h:x<18446744073709551616)(hp:Hp):run cxX 154 [.sc (.int .u64 (x:Int))] hp=some (.sc (.int .i64 ((64-qkr x:Nat):Int)),hp):=by
 obtain⟨n,h1,h2,h3⟩:=qsc x h
 rw[zgm h2]at h1 h3
 have w:IntKind.i64.wrap (64-(qkr x:Int))=((64-qkr x:Nat):Int):=qj
 rw[E154]
 simp[h3,w]
abbrev Hv(P:Int)(x:AV):AV:=.agg [.sc (.int .i64 P),x]
def jW(P:Int):Nat:=2^P.toNat
def yV(P h:Int):Nat:=(h/2^(64-P).toNat).toNat
def JD(P h:Int):Int:=min ((64-qkr ((h*2^P.toNat)%18446744073709551616).toNat:Nat):Int) (64-P)+1
theorem qg3{P h:Int}(hP:4<=P/\P<=8):1<=JD P h/\JD P h<=65-P:=by
 unfold JD;omega
theorem zfp{P h:Int}(hP:4<=P/\P<=8)(hh:0<=h/\h<18446744073709551616):yV P h<jW P:=by
 unfold yV jW
 obtain⟨p,rfl⟩:∃p:Nat,P=p:=⟨P.toNat,qe⟩
 obtain⟨x,rfl⟩:∃x:Nat,h=x:=⟨h.toNat,qe⟩
 have e:(64-(p:Int)).toNat=64-p:=qe
 rw[e,zm3]
 have e2:((x:Int)/2^(64-p))=((x/2^(64-p):Nat):Int):=qg
 rw[e2,zm3]
 apply Nat.div_lt_of_lt_mul
 rw[<-Nat.pow_add]
 have e3:64-p+p=64:=qe
 rw[e3]
 omega
theorem qm1(P h:Int)(x:AV)(hP:4<=P/\P<=8)(hh:0<=h/\h<18446744073709551616)(hp:Hp):
 run cxX 90 [Hv P x,.sc (.int .u64 h)] hp=some (.tup [.sc (.int .i64 (yV P h:Int)),.sc (.int .u8 (JD P h))],hp):=by
 rw[E90]
 have m1:max P 4=P:=qe
 have m2:min P 8=P:=qe
 have w1:IntKind.i64.wrap (64-P)=64-P:=qm qe qe
 have s1:∀t x y,qx Tryz.prog .shr t x y (.int .u64 h) (.int .i64 (64-P))=some (.int .u64 (yV P h:Int)):=by
  intro t x y
  rw[jI _ _ _ _ _ _ _ _ qe]
  have e:min (64-P).toNat IntKind.u64.bits=(64-P).toNat:=by
   have:IntKind.u64.bits=64:=rfl
   omega
  rw[e,zoc _ (by exact_mod_cast znl _)]
  unfold yV
  have:0<=h/2^(64-P).toNat:=Int.ediv_nonneg hh.1 (by exact_mod_cast znl _)
  rw[zoh this]
 have hlt:=zfp hP hh
 have h256:jW P<=256:=by
  unfold jW
  have:P.toNat<=8:=qe
  calc 2^P.toNat<=2^8:=znv qh this
   _=256:=rfl
 have w2:IntKind.i64.wrap (yV P h:Int)=(yV P h:Int):=qm qe qe
 obtain⟨y,hy⟩:∃y:Nat,y=((h*2^P.toNat)%18446744073709551616).toNat:=⟨_,rfl⟩
 have hy64:y<18446744073709551616:=qe
 have s2:∀t a b,qx Tryz.prog .shl t a b (.int .u64 h) (.int .i64 P)=some (.int .u64 (y:Int)):=by
  intro t a b
  rw[zW _ _ _ _ _ _ _ _ qe]
  have e:min P.toNat IntKind.u64.bits=P.toNat:=by
   have:IntKind.u64.bits=64:=rfl
   omega
  rw[e,IntKind.wrap_u64,hy]
  congr 2
  omega
 have lz:=fun hp=>zd1 y hy64 hp
 have hr:=qg3 (h:=h) hP
 have hre:JD P h=min ((64-qkr y:Nat):Int) (64-P)+1:=by unfold JD;rw[hy]
 have w3:IntKind.i64.wrap (min ((64-qkr y:Nat):Int) (64-P)+1)=JD P h:=by rw[<-hre];exact qm qe qe
 have w4:IntKind.u8.wrap (JD P h)=JD P h:=zy qe qe
 simp[ql,m1,m2,w1,s1,s2,w2,lz,w3,w4]
theorem qpx(P:Int)(hP:0<=P/\P<=8)(t:TypeId)(x y:Operand):qx Tryz.prog .shl t x y (.int .i64 1) (.int .i64 P)=some (.int .i64 (jW P:Int)):=by
 rw[zW _ _ _ _ _ _ _ _ qe]
 have e:min P.toNat IntKind.i64.bits=P.toNat:=by
  have:IntKind.i64.bits=64:=rfl
  omega
 have h256:jW P<=256:=by
  unfold jW
  have:P.toNat<=8:=qe
  calc 2^P.toNat<=2^8:=znv qh this
   _=256:=rfl
 rw[e]
 have e2:(1*2^P.toNat:Int)=(jW P:Int):=by unfold jW;simp
 rw[e2,qm qe qe]
theorem VA{P:Int}(hP:P<=8):jW P<=256:=by
 unfold jW
 have:P.toNat<=8:=qe
 calc 2^P.toNat<=2^8:=znv qh this
  _=256:=rfl
theorem qyk(P:Int)(x:AV)(hP:0<=P/\P<=64)(hp:Hp):run cxX 153 [Hv P x] hp=some (.sc (.int .i64 (65-P)),hp):=by
 rw[E153]
 have w:IntKind.i64.wrap (65-P)=65-P:=qm qe qe
 simp[ql,w]
def KU(P:Int)(l:List Int):Int:=if(∃n∈l,65-P<n)then 2 else 0
def qt3(P:Int)(l:List Int):Int:=if P<4\/8<P then 2 else if l.length≠jW P then 6 else KU P l
theorem qjy(P:Int)(l:List Int)(k:Nat)(hP:4<=P/\P<=8)(hl:l.length<=1000)(h8:∀n∈l,0<=n/\n<256)(hp:Hp):∀(r:List Int) (i:Nat),l.drop i=r->
 B86_6 (S k 1 (LI .u8 l)) (.int .i64 l.length) (.int .i64 i) [.sc (.int .i64 P),S k 1 (LI .u8 l)] hp=some (.sc (.int .i64 (KU P r)),hp):=by
 intro r
 induction r with
 |nil=>
  intro i hr
  have:=qK hr
  have hlt:¬((i:Int)<(l.length:Int)):=qe
  rw[qlg]
  simp[hlt,KU]
 |cons x r ih=>
  intro i hr
  obtain⟨e1,e2,hi,e3⟩:=qt hr
  have hx:=h8 x (zm6 e1)
  have hw:IntKind.i64.wrap ((i:Int)+1)=((i+1:Nat):Int):=qj
  have w8:IntKind.i64.wrap x=x:=qm qe qe
  have tp:=fun y hp=>qyk P y qe hp
  have h:=ih (i+1) e2
  rw[qlg]
  simp at h hw
  by_cases e:65-P<x
  ·simp[hi,e3,ql,qr,w8,tp,e,KU]
  ·have e':KU P (x::r)=KU P r:=by
    unfold KU
    simp[e]
   simp[hi,e3,ql,qr,w8,tp,e,hw,h,e']
theorem qm2(P:Int)(l:List Int)(k:Nat)(hl:l.length<=1000000)(h8:∀n∈l,0<=n/\n<256)(hp:Hp):run cxX 86 [Hv P (S k 1 (LI .u8 l))] hp=some (.sc (.int .i64 (qt3 P l)),hp):=by
 rw[E86]
 unfold qt3
 by_cases h1:P<4
 ·simp[ql,h1,qli]
 ·by_cases h2:8<P
  ·simp[ql,h1,h2,qli]
  ·have s:=fun t x y=>qpx P qe t x y
   have hple:=VA (P:=P) qe
   by_cases h3:l.length=jW P
   ·have hh:=qjy P l (rk k) qe qe h8 hp l 0 rfl
    simp at hh
    simp[ql,qs,h1,h2,s,h3,qlh]
    rw[<-h3];exact hh
   ·have h4:¬((l.length:Int)=(jW P:Int)):=qe
    simp[ql,qs,h1,h2,s,h3,h4,qlh]
def b8(l:List Int):List UInt8:=l.map fun n=>UInt8.ofNat n.toNat
@[simp] theorem zgj : ∀ l : List Int, zM (LI .u8 l) = some (b8 l)
 |[]=>rfl
 |x::l=>by
  have:=zgj l
  show(zM (LI .u8 l)).map _=_
  rw[this];rfl
theorem zb1:∀{a b:List Int},(∀n∈a,0<=n/\n<256)->(∀n∈b,0<=n/\n<256)->(b8 a=b8 b↔a=b)
 |[],[],_,_=>by simp
 |[],y::b,_,_=>by simp[b8]
 |x::a,[],_,_=>by simp[b8]
 |x::a,y::b,ha,hb=>by
  have ih:=zb1 (a:=a) (b:=b) (fun n hn=>ha n (by simp[hn])) (fun n hn=>hb n (by simp[hn]))
  have hx:=ha x qg
  have hy:=hb y qg
  have e:UInt8.ofNat x.toNat=UInt8.ofNat y.toNat↔x=y:=by
   constructor
   ·intro h
    have:=congrArg UInt8.toNat h
    simp at this
    omega
   ·rintro rfl;rfl
  simp only[b8,zn0,List.cons.injEq]at ih⊢
  rw[e,ih]
theorem qse(P P':Int)(a b:List Int)(k k':Nat)(ha:∀n∈a,0<=n/\n<256)(hb:∀n∈b,0<=n/\n<256)(hp:Hp):
 run cxX 133 [Hv P (S k 1 (LI .u8 a)),Hv P' (S k' 1 (LI .u8 b))] hp=some (.sc (.bool (decide (P=P'/\a=b))),hp):=by
 rw[E133]
 by_cases h:P=P'
 ·have e:decide (b8 a=b8 b)=decide (a=b):=decide_eq_decide.mpr (zb1 ha hb)
  simp[ql,qs,h,e]
 ·simp[ql,h]
theorem qij(P:Int)(hP:4<=P/\P<=8)(hp:Hp):run cxX 77 [.sc (.int .i64 P)] hp=some (.tup [Hv P (S 0 1 (LI .u8 (List.replicate (jW P) 0))),.sc (.bool true)],hp):=by
 rw[E77]
 have h1:¬(P<4):=qe
 have h2:¬(8<P):=qe
 have s:=fun t x y=>qpx P qe t x y
 have hple:=VA (P:=P) qe
 have mk:yT 1 1 (jW P:Int) (jW P:Int)=some ():=Ji qe qe qh qh
 simp[h1,h2,zcj,s,mk,ZV,qr,qo]
def vD:List Int->List Int->List Int
 |[],_=>[]
 |x::a,[]=>x::a
 |x::a,y::b=>max x y::vD a b
theorem WL:∀a b,(vD a b).length=a.length
 |[],_=>by simp[vD]
 |x::a,[]=>by simp[vD]
 |x::a,y::b=>by simp[vD,WL a b]
@[simp] theorem zi3 : ∀ a, vD a [] = a
 |[]=>rfl
 |_::_=>rfl
def QR(P:Int)(l:List Int)(h:Int):List Int:=if yV P h<l.length then l.set (yV P h) (max (l.getD (yV P h) 0) (JD P h))else l
theorem qyl(P:Int)(l:List Int)(k:Nat)(h:Int)(hP:4<=P/\P<=8)(hh:0<=h/\h<18446744073709551616)(hl:l.length<=1000000)(hp:Hp):
 ∃t hp',run cxX 40 [Hv P (S k 1 (LI .u8 l)),.sc (.int .u64 h)] hp=some (Hv P (S t 1 (LI .u8 (QR P l h))),hp'):=by
 rw[E40]
 have pl:=fun x hp=>qm1 P h x hP hh hp
 by_cases hne:l=[]
 ·subst hne
  have n1:=fun k hp=>qau 1 k hp
  have e:¬((yV P h:Int)<0):=qe
  refine⟨0,hp,?_⟩
  simp[ql,qs,n1,qo,qr,pl,QR,e,ql2]
 ·have n1:=fun k hp=>vS .u8 l k 1 qh hl hne hp
  have f5:∀(l:List Int) (b:Nat) (hp:Hp) (q0 q1:AV),hp.rd b 0=some (LI .u8 l)->B40_5 [q0,q1] [.sc (.int .i64 P),.ms b 0 0 l.length 1] hp=some (Hv P (S 0 1 (LI .u8 l)),hp.del b):=by
   intro l b hp q0 q1 hb
   have f:=QT .u8 l hp b hb
   rw[ql2]
   simp[qr,qo,f]
  by_cases hi:yV P h<l.length
  ·have hi':(yV P h:Int)<(l.length:Int):=qe
   have ix:=zp .i64 hi
   have gs:l[yV P h]?=some (l.getD (yV P h) 0):=by simp[hi]
   have pt:=xp .u8 l (yV P h) (max (l.getD (yV P h) 0) (JD P h)) hi
   have f:=f5 (l.set (yV P h) (max (l.getD (yV P h) 0) (JD P h))) hp.next ((hp.new (LI .u8 l)).put hp.next 0 (LI .u8 (l.set (yV P h) (max (l.getD (yV P h) 0) (JD P h))))) (.sc (.int .i64 0)) (S 2 1 []) (qp _ _ _)
   rw[List.length_set]at f
   have r0:=qR hp (LI .u8 l)
   refine⟨0,((hp.new (LI .u8 l)).put hp.next 0 (LI .u8 (l.set (yV P h) (max (l.getD (yV P h) 0) (JD P h))))).del hp.next,?_⟩
   simp only[QR,if_pos hi]
   generalize l.getD (yV P h) 0=g at gs pt f⊢
   simp[ql,qs,n1,qo,qr,pl,hi',ix,r0,gs]at pt⊢
   simp[pt]
   exact f
  ·have hi':¬((yV P h:Int)<(l.length:Int)):=qe
   have f:=f5 l hp.next (hp.new (LI .u8 l)) (.sc (.int .i64 0)) (S 2 1 []) (qR _ _)
   refine⟨0,(hp.new (LI .u8 l)).del hp.next,?_⟩
   simp only[QR,if_neg hi]
   simp[ql,qs,n1,qo,qr,pl,hi']
   exact f
theorem qcd(h:Int)(hh:0<=h/\h<18446744073709551616):∃v:Int,(0<=v/\v<18446744073709551616)/\∀hp,run cxX 78 [.sc (.int .u64 h)] hp=some (.sc (.int .u64 v),hp):=by
 have r3:∀t x y,qx Tryz.prog .rem t x y (.int .u64 h) (.int .u64 3)=some (.int .u64 (h%3)):=by
  intro t x y;rw[zk _ _ _ _ _ _ _ qe,zj hh.1]
 by_cases e:h%3=0
 ·obtain⟨z1,s1⟩:∃z:Int,∀t x y,qx Tryz.prog .shr t x y (.int .u64 h) (.int .u64 56)=some (.int .u64 z):=⟨_,fun t x y=>jI _ _ _ _ _ _ _ _ qe⟩
  obtain⟨z2,s2⟩:∃z:Int,∀t x y,qx Tryz.prog .shl t x y (.int .u64 z1) (.int .u64 56)=some (.int .u64 z):=⟨_,fun t x y=>zW _ _ _ _ _ _ _ _ qe⟩
  have q4:∀t x y,qx Tryz.prog .quo t x y (.int .u64 h) (.int .u64 4)=some (.int .u64 (h/4)):=by
   intro t x y;rw[yx _ _ _ _ _ _ _ qe,zn2 hh.1,qu qe qe]
  have r56:∀t x y,qx Tryz.prog .rem t x y (.int .u64 (h/4)) (.int .u64 56)=some (.int .u64 (h/4%56)):=by
   intro t x y;rw[zk _ _ _ _ _ _ _ qe,zj qe]
  obtain⟨z3,s3⟩:∃z:Int,∀t x y,qx Tryz.prog .shl t x y (.int .u64 1) (.int .u64 (h/4%56))=some (.int .u64 z):=⟨_,fun t x y=>zW _ _ _ _ _ _ _ _ qe⟩
  obtain⟨z4,s4⟩:∃z:Int,∀t x y,qx Tryz.prog .sub t x y (.int .u64 z3) (.int .u64 1)=some (.int .u64 z):=⟨_,fun t x y=>vR _ _ _ _ _ _ _⟩
  obtain⟨z5,s5⟩:∃z:Int,∀t x y,qx Tryz.prog .and t x y (.int .u64 h) (.int .u64 z4)=some (.int .u64 z):=⟨_,fun t x y=>zm _ _ _ _ _ _ _⟩
  obtain⟨z6,b6,s6⟩:∃z:Int,(0<=z/\z<18446744073709551616)/\∀t x y,qx Tryz.prog .or t x y (.int .u64 z2) (.int .u64 z5)=some (.int .u64 z):=⟨_,by rw[IntKind.wrap_u64];omega,fun t x y=>zR _ _ _ _ _ _ _⟩
  refine⟨z6,b6,fun hp=>?_⟩
  rw[E78]
  simp[r3,e,s1,s2,q4,r56,s3,s4,s5,s6,-vR,-zm,-zR]
 ·refine⟨h,hh,fun hp=>?_⟩
  rw[E78]
  simp[r3,e]
noncomputable def hsh(h:Int):Int:=if hh:0<=h/\h<18446744073709551616 then(qcd h hh).choose else 0
theorem zi2{h:Int}(hh:0<=h/\h<18446744073709551616):(0<=hsh h/\hsh h<18446744073709551616)/\∀hp,run cxX 78 [.sc (.int .u64 h)] hp=some (.sc (.int .u64 (hsh h)),hp):=by
 unfold hsh
 rw[dif_pos hh]
 exact(qcd h hh).choose_spec
noncomputable def hfold(P:Int)(a l:List Int):List Int:=l.foldl (fun a h=>QR P a (hsh h)) a
theorem qjz(P:Int)(l:List Int)(h:Int):(QR P l h).length=l.length:=by
 unfold QR;split<;>simp
theorem qc9(P:Int):∀(l a:List Int),(hfold P a l).length=a.length
 |[],a=>rfl
 |h::l,a=>by
  show(hfold P (QR P a (hsh h)) l).length=_
  rw[qc9 P l,qjz]
theorem zav(P:Int)(q0 q1:AV)(l:List Int)(k:Nat)(hP:4<=P/\P<=8)(hl:l.length<=1000000)(h64:∀n∈l,0<=n/\n<18446744073709551616)(hp:Hp):∀(r:List Int) (i t:Nat) (a:List Int),l.drop i=r->a.length<=1000000->
 ∃t',B33_3 (S k 1 (LI .u64 l)) (.int .i64 l.length) (.int .i64 i) [q0,q1] [.sc (.int .i64 P),S t 1 (LI .u8 a)] hp=some (Hv P (S t' 1 (LI .u8 (hfold P a r))),hp):=by
 intro r
 induction r with
 |nil=>
  intro i t a hr ha
  have:=qK hr
  have hlt:¬((i:Int)<(l.length:Int)):=qe
  refine⟨t,?_⟩
  rw[ql5]
  simp[hlt,qr,qo,hfold]
 |cons x r ih=>
  intro i t a hr ha
  obtain⟨e1,e2,hi,e3⟩:=qt hr
  have hx:=h64 x (zm6 e1)
  obtain⟨hb,hs⟩:=zi2 hx
  have hw:IntKind.i64.wrap ((i:Int)+1)=((i+1:Nat):Int):=qj
  obtain⟨t1,hp1,ha1⟩:=qyl P a (rk t) (hsh x) hP hb ha hp0
  obtain⟨t',h⟩:=ih (i+1) t1 (QR P a (hsh x)) e2 (by rw[qjz];exact ha)
  refine⟨t',?_⟩
  rw[ql5]
  simp at h hw
  have ef:hfold P a (x::r)=hfold P (QR P a (hsh x)) r:=rfl
  simp[hi,e3,ql,hs,qr,qo,ha1,hw,h,ef]
theorem zd3(p:Int)(l:List Int)(k:Nat)(hp8:0<=p/\p<256)(hl:l.length<=1000000)(h64:∀n∈l,0<=n/\n<18446744073709551616)(hp:Hp):
 ∃t,run cxX 33 [.sc (.int .u8 p),S k 1 (LI .u64 l)] hp=some (Hv (4+p%5) (S t 1 (LI .u8 (hfold (4+p%5) (List.replicate (jW (4+p%5)) 0) l))),hp):=by
 have h1:∀t x y,qx Tryz.prog .rem t x y (.int .u8 p) (.int .u8 5)=some (.int .u8 (p%5)):=by
  intro t x y;rw[zk _ _ _ _ _ _ _ qe,zj hp8.1]
 have w1:IntKind.i64.wrap (p%5)=p%5:=qm qe qe
 have w2:IntKind.i64.wrap (4+p%5)=4+p%5:=qm qe qe
 have nw:=fun hp=>qij (4+p%5) qe hp
 have hple:=VA (P:=4+p%5) qe
 obtain⟨t,h⟩:=zav (4+p%5) (.sc (.int .i64 0)) (S 2 1 []) l (rk k) qe hl h64 hp l 0 0 (List.replicate (jW (4+p%5)) 0) rfl qi
 refine⟨t,?_⟩
 rw[E33]
 simp at h
 simp[h1,w1,w2,nw,qo,h]
abbrev Bv(bits hashes:Value)(S:AV):AV:=.agg [.sc bits,.sc hashes,S]
theorem qnz(B H:Value)(q0 q1 q2:AV)(hp:Hp):∀(n:Nat) (a b acc:List Int) (k k':Nat),a.length+b.length=n->acc.length+n<=1000000->
 B45_3 (S k 1 (LI .u32 a)) (S k' 1 (LI .u32 b)) [q0,q1,q2] [.sc B,.sc H,S 2 1 (LI .u32 acc)] hp=some (Bv B H (S 2 1 (LI .u32 (acc++mrg a b))),hp):=by
 intro n
 induction n using Nat.strongRecOn with
 |_ n ih=>
 intro a b acc k k' hn hlen
 have hw:IntKind.i64.wrap ((a.length:Int)+(b.length:Int))=((a.length+b.length:Nat):Int):=by
  rw[qm]<;>omega
 have ap:∀x:Int,jm 4 1 (S 2 1 (LI .u32 acc)) (S 1 1 [.sc (.int .u32 x)])=some (S 2 1 (LI .u32 (acc++[x]))):=fun x=>QZ .u32 acc 2 (.inr rfl) 4 qh x qe
 have goA:∀(x:Int) (r:List Int),r.length+1+b.length<=n->B45_6 (S k 1 (LI .u32 (x::r))) (S k' 1 (LI .u32 b)) [q0,q1,q2] [.sc B,.sc H,S 2 1 (LI .u32 acc)] hp=some (Bv B H (S 2 1 (LI .u32 (acc++x::mrg r b))),hp):=by
  intro x r hle
  rw[zc1]
  have e:=vi (rk k) (LI .u32 (x::r)) .i64 1 qe (by simp only[wI,zmu];omega)
  simp[qs,ql,ap,e,qo,ih (r.length+b.length) qe r b (acc++[x]) _ k' rfl (by simp only[zmt,zmu,znd];omega)]
 have goB:∀(y:Int) (r:List Int),a.length+(r.length+1)<=n->B45_8 (S k 1 (LI .u32 a)) (S k' 1 (LI .u32 (y::r))) [q0,q1,q2] [.sc B,.sc H,S 2 1 (LI .u32 acc)] hp=some (Bv B H (S 2 1 (LI .u32 (acc++y::mrg a r))),hp):=by
  intro x r hle
  rw[zc0]
  have e:=vi (rk k') (LI .u32 (x::r)) .i64 1 qe (by simp only[wI,zmu];omega)
  simp[qs,ql,ap,e,qo,ih (a.length+r.length) qe a r (acc++[x]) k _ rfl (by simp only[zmt,zmu,znd];omega)]
 have Qi:∀(x y:Int) (r s:List Int),r.length+s.length+2<=n->B45_4 (S k 1 (LI .u32 (x::r))) (S k' 1 (LI .u32 (y::s))) [q0,q1,q2] [.sc B,.sc H,S 2 1 (LI .u32 acc)] hp=some (Bv B H (S 2 1 (LI .u32 (acc++x::mrg r s))),hp):=by
  intro x y r s hle
  rw[zc2]
  have e:=vi (rk k) (LI .u32 (x::r)) .i64 1 qe (by simp only[wI,zmu];omega)
  have e':=vi (rk k') (LI .u32 (y::s)) .i64 1 qe (by simp only[wI,zmu];omega)
  simp[qs,ql,ap,e,e',qo,ih (r.length+s.length) qe r s (acc++[x]) _ _ rfl (by simp only[zmt,zmu,znd];omega)]
 rw[zc3]
 match a,b with
 |[],[]=>simp[qr,qo,Bv]
 |[],y::s=>
  have h:=goB y s (by simp at hn⊢;omega)
  simp at h
  have hw':IntKind.i64.wrap ((s.length:Int)+1)=(s.length:Int)+1:=qm qe (by simp at hn;omega)
  have p:(0:Int)<(s.length:Int)+1:=qe
  have z:¬((s.length:Int)+1=0):=qe
  simp[hw',p,z,qa3,h]
 |x::r,[]=>
  have h:=goA x r (by simp at hn⊢;omega)
  simp at h
  have hw':IntKind.i64.wrap ((r.length:Int)+1)=(r.length:Int)+1:=qm qe (by simp at hn;omega)
  have p:(0:Int)<(r.length:Int)+1:=qe
  simp[hw',p,h]
 |x::r,y::s=>
  have h1:=goA x r (by simp at hn⊢;omega)
  have h2:=goB y s (by simp at hn⊢;omega)
  have h3:=Qi x y r s (by simp at hn⊢;omega)
  have hw':IntKind.i64.wrap ((r.length:Int)+1+((s.length:Int)+1))=(r.length:Int)+1+((s.length:Int)+1):=qm qe (by simp at hn;omega)
  have p:(0:Int)<(r.length:Int)+1+((s.length:Int)+1):=qe
  have p':(0:Int)<(r.length:Int)+1:=qe
  have z:¬((s.length:Int)+1=0):=qe
  have z':¬((r.length:Int)+1=0):=qe
  rw[zV]
  by_cases hxy:x<y
  ·simp[hw',p,p',z,z',ql,hxy,h1]
  ·by_cases hyx:y<x
   ·simp[hw',p,p',z,z',ql,hxy,hyx,h2,qa3]
   ·simp[hw',p,p',z,z',ql,hxy,hyx,h3,qa3]
theorem qsb(B H B' H':Value)(a b:List Int)(k k':Nat)(hp:Hp)(hlen:a.length+b.length<=1000000):
 run cxX 45 [Bv B H (S k 1 (LI .u32 a)),Bv B' H' (S k' 1 (LI .u32 b))] hp=some (Bv B H (S 2 1 (LI .u32 (mrg a b))),hp):=by
 rw[E45]
 have:=qnz B H (.sc (.int .i64 0)) (.sc (.int .i64 0)) (S 2 1 []) hp (a.length+b.length) a b [] (rk k) (rk k') rfl (by simpa using hlen)
 simp at this
 simp[Bv,ql,qs]
 exact this
theorem qr0(B H B' H':AV)(a b:List Int)(k k':Nat)(hab:a.length=b.length)(hl:a.length<=1000000)(hp:Hp):∀(r s:List Int) (i:Nat),a.drop i=r->b.drop i=s->
 B134_4 (.int .i64 a.length) (.int .i64 i) [B,H,S k 1 (LI .u32 a)] [B',H',S k' 1 (LI .u32 b)] hp=some (.sc (.bool (decide (r=s))),hp):=by
 intro r
 induction r with
 |nil=>
  intro s i hr hs
  have h1:=qK hr
  have h2:s=[]:=by rw[<-hs];exact zn1 qe
  have hlt:¬((i:Int)<(a.length:Int)):=qe
  rw[qe8]
  simp[hlt,h2]
 |cons x r ih=>
  intro s i hr hs
  obtain⟨e1,e2,hi,e3⟩:=qt hr
  rw[qe8]
  have hw:IntKind.i64.wrap ((i:Int)+1)=((i+1:Nat):Int):=qj
  cases s with
  |nil=>have:=qK hs;omega
  |cons y s=>
   obtain⟨f1,f2,hj,f3⟩:=qt hs
   have h:=ih s (i+1) e2 f2
   simp at h hw
   by_cases e:x=y
   ·simp[hi,hj,qs,ql,e3,f3,e,hw,h]
   ·simp[hi,hj,qs,ql,e3,f3,e]
theorem qyb(B H:Int)(B' H':Int)(a b:List Int)(k k':Nat)(hp:Hp)(ha:a.length<=1000000)(hb:b.length<=1000000):
 run cxX 134 [Bv (.int .i64 B) (.int .i64 H) (S k 1 (LI .u32 a)),Bv (.int .i64 B') (.int .i64 H') (S k' 1 (LI .u32 b))] hp=some (.sc (.bool (decide (B=B'/\H=H'/\a=b))),hp):=by
 rw[E134]
 by_cases h1:B=B'
 ·by_cases h2:H=H'
  ·by_cases h3:a.length=b.length
   ·have h:=qr0 (.sc (.int .i64 B)) (.sc (.int .i64 H)) (.sc (.int .i64 B')) (.sc (.int .i64 H')) a b (rk k) (rk k') h3 ha hp a b 0 rfl rfl
    simp at h
    subst h1 h2
    rw[h3]at h
    simp[ql,qs,h3,qwz,h]
   ·have h4:¬(a=b):=fun e=>h3 (by rw[e])
    have h5:¬((a.length:Int)=(b.length:Int)):=qe
    simp[ql,qs,h1,h2,h4,h5,KD]
  ·simp[ql,qs,h1,h2,KD]
 ·simp[ql,qs,h1,KD]
def Km(B:Int):Option Int->List Int->Int
 |_,[]=>0
 |p,n::r=>if n>=B then 2 else match p with
  |none=>Km B (some n) r
  |some q=>if n<=q then 8 else Km B (some n) r
def qat(B H:Int)(l:List Int):Int:=if B<1\/B>4096\/H<1\/H>8 then 2 else Km B none l
def zgt(l:List Int):Prop:=∀n∈l,0<=n/\n<4294967296
theorem qow(B:Int)(H:AV)(l:List Int)(k k':Nat)(hl:l.length<=1000000)(h32:zgt l)(hp:Hp):∀(r:List Int) (i:Nat) (p:Option Int),l.drop i=r->
 (match p with|none=>i=0|some q=>∃j,i=j+1/\l[j]?=some q)->
 B87_4 (S k 1 (LI .u32 l)) (.int .i64 l.length) (.int .i64 i) [.sc (.int .i64 B),H,S k' 1 (LI .u32 l)] hp=some (.sc (.int .i64 (Km B p r)),hp):=by
 intro r
 induction r with
 |nil=>
  intro i p hr hp'
  have:=qK hr
  have hlt:¬((i:Int)<(l.length:Int)):=qe
  rw[qlf]
  simp[hlt,Km]
 |cons n r ih=>
  intro i p hr hp'
  obtain⟨e1,e2,hi,e3⟩:=qt hr
  have h:=ih (i+1) (some n) e2 ⟨i,rfl,e1⟩
  have hw:IntKind.i64.wrap ((i:Int)+1)=((i+1:Nat):Int):=qj
  have hn:=h32 n (zm6 e1)
  have hwn:IntKind.i64.wrap n=n:=qm qe qe
  rw[qlf]
  by_cases hB:B<=n
  ·simp[hi,e1,e3,ql,xx,hwn,hB,Km]
  ·cases p with
   |none=>
    obtain rfl:i=0:=hp'
    simp at h e1 hw
    simp[hi,e1,e3,ql,xx,hwn,hB,Km,qds,hw,h]
   |some q=>
    obtain⟨j,rfl,ej⟩:=hp'
    have hw2:IntKind.i64.wrap (((j+1:Nat):Int)-1)=(j:Int):=qj
    have hpos:(0:Int)<(j:Int)+1:=qe
    have hi2:(j:Int)+1<(l.length:Int):=qe
    have hge:(0:Int)<=(j:Int)+1:=qe
    have htn:((j:Int)+1).toNat=j+1:=qe
    simp at h hw hw2
    by_cases hq:n<=q
    ·simp[hi2,hge,htn,e1,e3,ej,ql,qs,xx,hwn,hB,Km,hpos,hw2,hq,zcf]
    ·simp[hi2,hge,htn,e1,e3,ej,ql,qs,xx,hwn,hB,Km,hpos,hw2,hq,qds,hw,h]
theorem qcl(B H:Int)(l:List Int)(k:Nat)(hl:l.length<=1000000)(h32:zgt l)(hp:Hp):
 run cxX 87 [Bv (.int .i64 B) (.int .i64 H) (S k 1 (LI .u32 l))] hp=some (.sc (.int .i64 (qat B H l)),hp):=by
 rw[E87]
 have h:=qow B (.sc (.int .i64 H)) l (rk k) (rk k) hl h32 hp l 0 none rfl rfl
 simp at h
 unfold qat
 by_cases h1:B<1
 ·simp[ql,h1,XB]
 ·by_cases h2:4096<B
  ·simp[ql,h1,h2,XB]
  ·by_cases h3:H<1
   ·simp[ql,h1,h2,h3,XB]
   ·by_cases h4:8<H
    ·simp[ql,h1,h2,h3,h4,XB]
    ·simp[ql,qs,h1,h2,h3,h4,zcg,h]
def at0(h:Int):Int:=IntKind.u32.wrap h
def stp(h:Int):Int:=IntKind.u32.wrap (BitVec.ofInt 32 (IntKind.u32.wrap (h.fdiv (2^32)))|||BitVec.ofInt 32 1).toNat
def plc(B st:Int):Nat->Int->List Int
 |0,_=>[]
 |n+1,a=>a%B::plc B st n (IntKind.u32.wrap (a+st))
theorem qp5(B st:Int):∀(n:Nat) (a:Int),(plc B st n a).length=n
 |0,_=>rfl
 |n+1,a=>by simp[plc,qp5 B st n]
theorem qzd(B st:Int)(hB:0<B):∀(n:Nat) (a x:Int),x∈plc B st n a->0<=x/\x<B
 |0,_,x,h=>by simp[plc]at h
 |n+1,a,x,h=>by
  rcases zmy.mp h with rfl|h
  ·exact⟨Int.emod_nonneg _ qe,Int.emod_lt_of_pos _ hB⟩
  ·exact qzd B st hB n _ x h
theorem qbu(z:Int):0<=IntKind.u32.wrap z/\IntKind.u32.wrap z<4294967296:=by
 rw[IntKind.wrap_u32];omega
theorem qi7(B H st:Int)(H':AV)(q:AV)(hB:1<=B/\B<=4096)(hH:H<=8)(hp:Hp):∀(n i:Nat) (a:Int) (acc:List Int),H=(i+n:Nat)->0<=a->acc.length<=i->
 B91_6 (S 2 1 (LI .u32 acc)) (.int .u32 a) (.int .u32 st) (.int .i64 H) (.int .i64 i) [.sc (.int .i64 B),H',q] hp=some (S 2 1 (LI .u32 (acc++plc B st n a)),hp):=by
 intro n
 induction n with
 |zero=>
  intro i a acc hi ha hc
  rw[qlb]
  have hlt:¬((i:Int)<H):=qe
  simp[hlt,plc]
 |succ n ih=>
  intro i a acc hi ha hc
  rw[qlb]
  have hlt:(i:Int)<H:=qe
  have hw:IntKind.i64.wrap ((i:Int)+1)=((i+1:Nat):Int):=qj
  have hwB:IntKind.u32.wrap B=B:=qJ qe qe
  have h:=ih (i+1) (IntKind.u32.wrap (a+st)) (acc++[a%B]) qe (qbu _).1 qi
  have ap:=QZ .u32 acc 2 (.inr rfl) 4 qh (a%B) qe
  have hr:∀x y,qx Tryz.prog .rem 40 x y (.int .u32 a) (.int .u32 B)=some (.int .u32 (a%B)):=by
   intro x y
   rw[zk _ _ _ _ _ _ _ qe,zj ha]
  simp at h hw
  simp[hlt,ql,Xn,hwB,hr,ap,hw,h,plc]
def pls(B H:Int)(l:List Int)(h:Int):List Int:=if qat B H l=0 then plc B (stp h) H.toNat (at0 h)else []
theorem qmw(B H:Int)(l:List Int)(k:Nat)(h:Int)(hl:l.length<=1000000)(h32:zgt l)(hp:Hp):
 run cxX 91 [Bv (.int .i64 B) (.int .i64 H) (S k 1 (LI .u32 l)),.sc (.int .u64 h)] hp=some (S 2 1 (LI .u32 (pls B H l h)),hp):=by
 rw[E91]
 have hc:=qcl B H l (rk k) hl h32 hp0
 unfold pls
 by_cases h0:qat B H l=0
 ·have hr:¬(B<1\/B>4096\/H<1\/H>8):=by
   intro h'
   rw[qat,if_pos h']at h0
   cases h0
  have hh:=qi7 B H (stp h) (.sc (.int .i64 H)) (S (rk k) 1 (LI .u32 l)) qe qe hp H.toNat 0 (at0 h) [] qe (qbu _).1 qg
  simp at hh
  have hs:∀x y,qx Tryz.prog .shr 62 x y (.int .u64 h) (.int .u64 32)=some (.int .u64 (h.fdiv (2^32))):=by
   intro x y
   rw[jI _ _ _ _ _ _ _ _ qe]
   rfl
  simp[qr,hc,h0,jG,hs,ql]
  exact hh
 ·simp[qr,hc,h0]
def kr(B:Int)(l:List Int):Prop:=yo l/\∀n∈l,0<=n/\n<B
theorem kr.in32{B:Int}{l:List Int}(h:kr B l)(hB:B<=4096):zgt l:=fun n hn=>by have:=h.2 n hn;omega
theorem kr.nil(B:Int):kr B []:=⟨List.Pairwise.nil,qg⟩
theorem kr.mrg{B:Int}{a b:List Int}(ha:kr B a)(hb:kr B b):kr B (mrg a b):=
 ⟨xn a b ha.1 hb.1,fun n hn=>((xt n a b).mp hn).elim (ha.2 n) (hb.2 n)⟩
theorem kr.one{B n:Int}(h:0<=n/\n<B):kr B [n]:=⟨qg,by simpa using h⟩
theorem qiv{B:Int}:∀{l:List Int} {a:Int},yo l->(∀n∈l,a<=n/\n<B)->(l.length:Int)<=B-a\/l=[]
 |[],_,_,_=>.inr rfl
 |x::l,a,h,hb=>by
  have h':=zm1.mp h
  have hx:=hb x qg
  rcases qiv (a:=x+1) h'.2 (fun n hn=>⟨by have:=h'.1 n hn;omega,(hb n (by simp[hn])).2⟩)with h2|h2
  ·left;simp;omega
  ·left;subst h2;simp;omega
theorem kr.len{B:Int}{l:List Int}(h:kr B l)(hB:B<=4096):l.length<=4096:=by
 rcases qiv (a:=0) h.1 h.2 with h'|h'
 ·omega
 ·simp[h']
theorem Kl{B:Int}:∀(l:List Int) (p:Option Int),(∀n∈l,0<=n/\n<B)->(match p with|none=>yo l|some q=>yo (q::l))->Km B p l=0
 |[],_,_,_=>rfl
 |n::l,p,h,hp=>by
  have hn:=h n qg
  have h0:¬(n>=B):=qe
  simp only[Km,h0,if_false]
  cases p with
  |none=>exact Kl l (some n) (fun m hm=>h m (by simp[hm])) hp
  |some q=>
   have hp:yo (q::n::l):=hp
   have h1:=(zm1.mp hp).1 n qg
   have h2:¬(n<=q):=qe
   simp only[h2,if_false]
   exact Kl l (some n) (fun m hm=>h m (by simp[hm])) (zm1.mp hp).2
theorem qaf{B H:Int}{l:List Int}(hB:1<=B/\B<=4096)(hH:1<=H/\H<=8)(h:kr B l):qat B H l=0:=by
 unfold qat
 rw[if_neg qe]
 exact Kl l none h.2 h.1
def plg(B H h:Int):List Int:=plc B (stp h) H.toNat (at0 h)
theorem qzc{B H:Int}{l:List Int}(hB:1<=B/\B<=4096)(hH:1<=H/\H<=8)(h:kr B l)(x:Int):pls B H l x=plg B H x:=by
 unfold pls
 rw[if_pos (qaf hB hH h)];rfl
theorem qni{B H h:Int}(hB:1<=B):∀n∈plg B H h,0<=n/\n<B:=fun n hn=>qzd B _ qe _ _ n hn
theorem zes(B H h:Int):(plg B H h).length=H.toNat:=qp5 _ _ _ _
def qk5(l:List Int):List Int->List Int
 |[]=>l
 |n::r=>qk5 (mrg l [n]) r
theorem Kq{B:Int}:∀{r l:List Int},kr B l->(∀n∈r,0<=n/\n<B)->kr B (qk5 l r)
 |[],_,h,_=>h
 |n::r,l,h,hr=>Kq (r:=r) (h.mrg (kr.one (hr n qg))) fun m hm=>hr m (by simp[hm])
theorem zb9(B H:Int)(q0 q1 q2 q:AV)(k':Nat)(ps:List Int)(hB:1<=B/\B<=4096)(hps:ps.length<=8)(hin:∀n∈ps,0<=n/\n<B)(hp:Hp):∀(r:List Int) (i:Nat) (l:List Int) (k:Nat),ps.drop i=r->kr B l->
 B41_3 (S k' 1 (LI .u32 ps)) (.int .i64 ps.length) (.int .i64 i) [.sc (.int .i64 B),.sc (.int .i64 H),q] [q0,q1,q2] [.sc (.int .i64 B),.sc (.int .i64 H),S k 1 (LI .u32 l)] hp=some (Bv (.int .i64 B) (.int .i64 H) (S (if r=[]then k else 2) 1 (LI .u32 (qk5 l r))),hp):=by
 intro r
 induction r with
 |nil=>
  intro i l k hr hg
  have:=qK hr
  have hlt:¬((i:Int)<(ps.length:Int)):=qe
  rw[ql1]
  simp[hlt,qr,qo,qk5]
 |cons x r ih=>
  intro i l k hr hg
  obtain⟨e1,e2,hi,e3⟩:=qt hr
  have hx:=hin x (zm6 e1)
  have h:=ih (i+1) (mrg l [x]) 2 e2 (hg.mrg (kr.one hx))
  have hw:IntKind.i64.wrap ((i:Int)+1)=((i+1:Nat):Int):=qj
  have hlen:=hg.len hB.2
  have hm:=fun hp=>qsb (.int .i64 B) (.int .i64 H) (.int .i64 B) (.int .i64 H) l [x] (rk k) 0 hp qi
  rw[ql1]
  simp[LI]at h hw hm
  simp[hi,e3,ql,qs,qr,qo,qk5,LI,hm,hw,h]
theorem zd8(B H:Int)(l:List Int)(k:Nat)(h:Int)(hB:1<=B/\B<=4096)(hH:1<=H/\H<=8)(hg:kr B l)(hp:Hp):
 run cxX 41 [Bv (.int .i64 B) (.int .i64 H) (S k 1 (LI .u32 l)),.sc (.int .u64 h)] hp=some (Bv (.int .i64 B) (.int .i64 H) (S 2 1 (LI .u32 (qk5 l (plg B H h)))),hp):=by
 rw[E41]
 have hlen:=hg.len hB.2
 have h1:=fun hp=>qmw B H l (rk k) h qe (hg.in32 hB.2) hp
 have hl:=zes B H h
 have hne:plg B H h≠[]:=by
  intro e
  rw[e]at hl
  simp at hl
  omega
 have h2:=zb9 B H (.sc (.int .i64 0)) (.sc (.int .i64 0)) (S 2 1 []) (S (rk k) 1 (LI .u32 l)) 2 (plg B H h) hB qe (qni hB.1) hp _ 0 l (rk k) rfl hg
 rw[qzc hB hH hg h]at h1
 simp[hne]at h2
 simp[qr,qo,h1,h2]
def blm(B H:Int):List Int->List Int->List Int
 |acc,[]=>acc
 |acc,h::r=>blm B H (qk5 acc (plg B H h)) r
theorem qkq{B H:Int}(hB:1<=B):∀{r acc:List Int},kr B acc->kr B (blm B H acc r)
 |[],_,h=>h
 |x::r,acc,h=>qkq hB (r:=r) (Kq h (qni hB))
theorem qoz(B H:Int)(q0 q1 q2:AV)(k:Nat)(hs:List Int)(hB:1<=B/\B<=4096)(hH:1<=H/\H<=8)(hl:hs.length<=1000000)(hp:Hp):∀(r:List Int) (i:Nat) (l:List Int),hs.drop i=r->kr B l->
 B34_3 (S k 1 (LI .u64 hs)) (.int .i64 hs.length) (.int .i64 i) [q0,q1,q2] [.sc (.int .i64 B),.sc (.int .i64 H),S 2 1 (LI .u32 l)] hp=some (Bv (.int .i64 B) (.int .i64 H) (S 2 1 (LI .u32 (blm B H l r))),hp):=by
 intro r
 induction r with
 |nil=>
  intro i l hr hg
  have:=qK hr
  have hlt:¬((i:Int)<(hs.length:Int)):=qe
  rw[ql4]
  simp[hlt,qr,qo,blm]
 |cons x r ih=>
  intro i l hr hg
  obtain⟨e1,e2,hi,e3⟩:=qt hr
  have h:=ih (i+1) (qk5 l (plg B H x)) e2 (Kq hg (qni hB.1))
  have hw:IntKind.i64.wrap ((i:Int)+1)=((i+1:Nat):Int):=qj
  have ha:=fun hp=>zd8 B H l 3 x hB hH hg hp
  rw[ql4]
  simp at h hw
  simp[hi,e3,ql,qr,qo,blm,ha,hw,h]
theorem qso(b h:Int)(k:Nat)(hs:List Int)(hb:0<=b/\b<65536)(hh:0<=h/\h<256)(hl:hs.length<=1000000)(hp:Hp):
 run cxX 34 [.sc (.int .u16 b),.sc (.int .u8 h),S k 1 (LI .u64 hs)] hp=some (Bv (.int .i64 (1+b%300)) (.int .i64 (1+h%8)) (S 2 1 (LI .u32 (blm (1+b%300) (1+h%8) [] hs))),hp):=by
 rw[E34]
 have h1:∀x y,qx Tryz.prog .rem 22 x y (.int .u16 b) (.int .u16 300)=some (.int .u16 (b%300)):=by
  intro x y;rw[zk _ _ _ _ _ _ _ qe,zj hb.1]
 have h2:∀x y,qx Tryz.prog .rem 5 x y (.int .u8 h) (.int .u8 8)=some (.int .u8 (h%8)):=by
  intro x y;rw[zk _ _ _ _ _ _ _ qe,zj hh.1]
 have w1:IntKind.i64.wrap (b%300)=b%300:=qm qe qe
 have w2:IntKind.i64.wrap (h%8)=h%8:=qm qe qe
 have w3:IntKind.i64.wrap (1+b%300)=1+b%300:=qm qe qe
 have w4:IntKind.i64.wrap (1+h%8)=1+h%8:=qm qe qe
 have hq:=qoz (1+b%300) (1+h%8) (.sc (.int .i64 0)) (.sc (.int .i64 0)) (S 2 1 []) (rk k) hs qe qe hl hp hs 0 [] rfl (kr.nil _)
 simp at hq
 simp[h1,h2,zgc,jT,w1,w2,w3,w4,hq]
abbrev fl(w:Nat):AV:=.sc (.float .f64 w)
theorem XG(w:Nat):one (Yj Tryz.prog 148 [.float .f64 w])=some (.int .u64 (w:Int)):=qf
theorem qfn(n:Int):one (Yj Tryz.prog 184 [.int .u64 n])=some (.float .f64 n.toNat):=qf
theorem zj2(x y:Operand):qx Tryz.prog .eql 4 x y (.bool true) (.bool true)=some (.bool true):=qf
theorem zj3(x y:Operand):qx Tryz.prog .eql 4 x y (.bool true) (.bool false)=some (.bool false):=qf
theorem zj4(x y:Operand):qx Tryz.prog .eql 4 x y (.bool false) (.bool true)=some (.bool false):=qf
theorem zj5(x y:Operand):qx Tryz.prog .eql 4 x y (.bool false) (.bool false)=some (.bool true):=qf
@[simp] theorem beq_bb (x y : Operand) (a b : Bool) : qx Tryz.prog .eql 4 x y (.bool a) (.bool b) = some (.bool (decide (a = b))) := by
 cases a<;>cases b
 ·exact zj5 x y
 ·exact zj4 x y
 ·exact zj3 x y
 ·exact zj2 x y
theorem XO(w:Nat)(hp:Hp):run cxX 189 [fl w] hp=some (.sc (.bool (decide (yQ w))),hp):=by
 rw[E189]
 simp[jw]
theorem Jf(w:Nat)(h:w<18446744073709551616)(hp:Hp):run cxX 155 [fl w] hp=some (.sc (.int .u64 (kw w:Int)),hp):=by
 rw[E155]
 unfold kw
 by_cases hn:yQ w
 ·simp[XG,XO,hn,Kz]
 ·by_cases hl:w<9223372036854775808
  ·have e:=qkt Tryz.prog 62 (Go.Operand.tmp 6) (Go.Operand.const (.int .u64 (Int.ofNat 9223372036854775808))) w hl
   have e':=Vb Tryz.prog 62 (Go.Operand.tmp 12) (Go.Operand.const (.int .u64 (Int.ofNat 9223372036854775808))) w hl
   simp at e e'
   simp[XG,XO,hn,hl,e,e',Kz]
  ·have e':=Vc Tryz.prog 62 (Go.Operand.tmp 12) (Go.Operand.const (.int .u64 (Int.ofNat 9223372036854775808))) w qe h
   have e:=qby Tryz.prog w h
   simp at e e'
   simp[XG,XO,hn,hl,e,e',Kz]
theorem qyh(k:Nat)(h:k<18446744073709551616)(hp:Hp):run cxX 182 [.sc (.int .u64 (k:Int))] hp=some (.tup [fl (wk k),.sc (.bool (qz5 k))],hp):=by
 have e4:∀hp,B182_4 (.int .u64 (k:Int)) (.int .u64 (wk k:Int)) hp=some (.tup [fl (wk k),.sc (.bool (qz5 k))],hp):=by
  intro hp
  rw[qv5]
  have hk:=fun hp=>Jf (wk k) (qbv k h) hp
  have hd:decide ((kw (wk k):Int)=(k:Int))=qz5 k:=by
   unfold qz5
   apply decide_eq_decide.mpr
   omega
  simp[qfn,hk,hd]
 rw[E182]
 have c:=qo0 Tryz.prog 62 (Go.Operand.tmp 6) (Go.Operand.const (.int .u64 (Int.ofNat 9223372036854775808))) k h
 have n:=qby Tryz.prog k h
 by_cases hl:k<9223372036854775808
 ·have e':=Vb Tryz.prog 62 (Go.Operand.tmp 8) (Go.Operand.const (.int .u64 (Int.ofNat 9223372036854775808))) k hl
  have w:wk k=18446744073709551615-k:=by unfold wk;rw[if_pos hl]
  rw[w]at e4
  rw[<-w]at e4
  rw[<-w]at n
  simp at c n e'
  simp[c,n,e',e4]
 ·have e':=Vc Tryz.prog 62 (Go.Operand.tmp 8) (Go.Operand.const (.int .u64 (Int.ofNat 9223372036854775808))) k qe h
  have w:wk k=k%9223372036854775808:=by unfold wk;rw[if_neg hl];omega
  rw[<-w]at c
  simp at c e'
  simp[c,e',e4]
theorem YH(a b:Nat)(ha:a<18446744073709551616)(hb:b<18446744073709551616)(hp:Hp):run cxX 96 [fl a,fl b] hp=some (.sc (.bool (decide (kw a<kw b))),hp):=by
 rw[E96]
 simp[Jf a ha,Jf b hb]
theorem wX(a b:Nat)(ha:a<18446744073709551616)(hb:b<18446744073709551616)(hp:Hp):run cxX 183 [fl a,fl b] hp=some (.sc (.bool (decide (kw a=kw b))),hp):=by
 rw[E183]
 simp[Jf a ha,Jf b hb]
 omega
def qj8(a b:Nat):Nat:=if kw b<kw a then b else a
def qj9(a b:Nat):Nat:=if kw a<kw b then b else a
theorem qq3{a b:Nat}(ha:a<18446744073709551616)(hb:b<18446744073709551616):qj8 a b<18446744073709551616:=by unfold qj8;split<;>assumption
theorem qq4{a b:Nat}(ha:a<18446744073709551616)(hb:b<18446744073709551616):qj9 a b<18446744073709551616:=by unfold qj9;split<;>assumption
theorem qyp(a b:Nat)(ha:a<18446744073709551616)(hb:b<18446744073709551616)(hp:Hp):run cxX 94 [fl a,fl b] hp=some (fl (qj8 a b),hp):=by
 rw[E94]
 unfold qj8
 by_cases h:kw b<kw a<;>simp[YH b a hb ha,h]
theorem qyq(a b:Nat)(ha:a<18446744073709551616)(hb:b<18446744073709551616)(hp:Hp):run cxX 95 [fl a,fl b] hp=some (fl (qj9 a b),hp):=by
 rw[E95]
 unfold qj9
 by_cases h:kw a<kw b<;>simp[YH a b ha hb,h]
theorem zd0(hp:Hp):run cxX 186 [] hp=some (fl 9221120237041090561,hp):=by
 rw[E186]
 simp[qfn]
theorem YJ(s:Int)(hp:Hp):run cxX 149 [.sc (.int .i64 s)] hp=some (fl (if 0<=s then 9218868437227405312 else 18442240474082181120),hp):=by
 rw[E149]
 by_cases h:0<=s<;>simp[h,qwp,qfn]
theorem qbg(hp:Hp):run cxX 187 [fl 0,fl 13826050856027422720] hp=some (fl 9223372036854775808,hp):=(E187 _ _ _).trans qf
theorem qf6(hp:Hp):run cxX 187 [fl 0,fl 4602678819172646912] hp=some (fl 0,hp):=(E187 _ _ _).trans qf
theorem zl1(x y:Operand):qx Tryz.prog .sub 42 x y (.float .f64 (FloatKind.f64.nearest 0)) (.float .f64 4602678819172646912)=some (.float .f64 13826050856027422720):=qf
theorem zl0(x y:Operand):qx Tryz.prog .sub 42 x y (.float .f64 (FloatKind.f64.nearest 1)) (.float .f64 4602678819172646912)=some (.float .f64 4602678819172646912):=qf
theorem qsj(n e:Int)(hn:0<=n/\n<18446744073709551616)(he:0<=e/\e<256):∃w,w<18446744073709551616/\∀hp,run cxX 151 [.sc (.int .u64 n),.sc (.int .u8 e)] hp=some (fl w,hp):=by
 have m8:∀x y,qx Tryz.prog .rem 5 x y (.int .u8 e) (.int .u8 8)=some (.int .u8 (e%8)):=by
  intro x y;rw[zk _ _ _ _ _ _ _ qe,zj he.1]
 have m2:∀x y,qx Tryz.prog .rem 62 x y (.int .u64 n) (.int .u64 2)=some (.int .u64 (n%2)):=by
  intro x y;rw[zk _ _ _ _ _ _ _ qe,zj hn.1]
 have m3:∀x y,qx Tryz.prog .rem 62 x y (.int .u64 n) (.int .u64 2001)=some (.int .u64 (n%2001)):=by
  intro x y;rw[zk _ _ _ _ _ _ _ qe,zj hn.1]
 have w2:IntKind.i64.wrap (n%2)=n%2:=qm qe qe
 have w3:IntKind.i64.wrap (n%2001)=n%2001:=qm qe qe
 have w4:IntKind.i64.wrap (n%2001-1000)=n%2001-1000:=qm qe qe
 have w5:IntKind.i64.wrap (2*(n%2))=2*(n%2):=qm qe qe
 have w5':IntKind.i64.wrap (n%2*2)=n%2*2:=qm qe qe
 have w6:IntKind.i64.wrap (n%2*2-1)=n%2*2-1:=qm qe qe
 have b10:∀hp,B151_10 (.int .u64 n) hp=some (fl (FloatKind.f64.nearest (n%2001-1000)),hp):=by
  intro hp
  rw[qpg]
  simp[m3,qq9,w3,w4,zgb]
 have b11:∀hp,B151_11 (.int .u64 n) hp=some (fl n.toNat,hp):=by
  intro hp
  rw[qpf]
  simp[qfn]
 by_cases h0:e%8=0
 ·refine⟨9221120237041090561,qh,fun hp=>?_⟩
  rw[qo9]
  simp[m8,h0,zd0]
 ·by_cases h1:e%8=1
  ·refine⟨if 0<=n%2*2-1 then 9218868437227405312 else 18442240474082181120,by split<;>decide,fun hp=>?_⟩
   rw[qo9]
   simp[m8,h1,m2,xw,w2,w5',w6,YJ]
  ·by_cases h2:e%8=2
   ·rcases Int.emod_two_eq n with q|q
    ·refine⟨9223372036854775808,qh,fun hp=>?_⟩
     rw[qo9]
     simp[m8,h2,m2,q,qkg,zl1,qbg]
    ·refine⟨0,qh,fun hp=>?_⟩
     rw[qo9]
     simp[m8,h2,m2,q,qkg,zl0,qf6]
   ·by_cases h3:e%8=3
    ·refine⟨_,WG (n%2001-1000),fun hp=>?_⟩
     rw[qo9]
     simp[m8,h3,b10]
    ·by_cases h4:e%8=4
     ·refine⟨_,WG (n%2001-1000),fun hp=>?_⟩
      rw[qo9]
      simp[m8,h4,b10]
     ·refine⟨n.toNat,qe,fun hp=>?_⟩
      rw[qo9]
      simp[m8,h0,h1,h2,h3,h4,b11]
theorem ziu{w:Nat}(h:w<18446744073709551616):yQ (nw w)↔yQ w:=by
 unfold yQ nw
 split<;>omega
theorem qty{w:Nat}(h:w<18446744073709551616)(hn:¬yQ w):kw w<18444492273895866369:=by
 unfold kw
 rw[if_neg hn]
 unfold yQ at hn
 split<;>omega
theorem zit{w:Nat}(hn:yQ w):kw w=18444492273895866369:=by
 unfold kw
 rw[if_pos hn]
theorem qii(w:Nat)(h:w<18446744073709551616)(hn:¬yQ w)(hp:Hp):run cxX 195 [fl w,.sc (.int .i64 (-1))] hp=some (.sc (.bool (decide (w=18442240474082181120))),hp):=by
 have e:=qxp Tryz.prog w h
 have c:KW 9218868437227405311 (nw w)=decide (w=18442240474082181120):=by
  unfold KW
  have v1:jl 9218868437227405311=9218868437227405311:=qh
  rw[v1]
  have hn':¬yQ (nw w):=fun e=>hn ((ziu h).mp e)
  have hn2:=hn
  unfold yQ at hn2
  apply decide_eq_decide.mpr
  constructor
  ·rintro⟨_,_,h3⟩
   unfold jl nw at h3
   repeat' split at h3
   all_goals omega
  ·intro h3
   subst h3
   exact⟨qh,qh,qh⟩
 rw[E195]
 simp[e,qd4,c]
theorem qih(w:Nat)(h:w<18446744073709551616)(hn:¬yQ w)(hp:Hp):run cxX 195 [fl w,.sc (.int .i64 1)] hp=some (.sc (.bool (decide (w=9218868437227405312))),hp):=by
 have c:KW 9218868437227405311 w=decide (w=9218868437227405312):=by
  unfold KW
  have v1:jl 9218868437227405311=9218868437227405311:=qh
  rw[v1]
  have hn2:=hn
  unfold yQ at hn2
  apply decide_eq_decide.mpr
  constructor
  ·rintro⟨_,_,h3⟩
   unfold jl at h3
   split at h3<;>omega
  ·intro h3
   subst h3
   exact⟨qh,qh,qh⟩
 rw[E195]
 simp[qd4,c]
theorem qh1(w:Nat)(h:w<18446744073709551616)(hp:Hp):run cxX 196 [fl w] hp=some (.sc (.bool (decide (9223372036854775808<=w))),hp):=by
 have c:decide (IntKind.i64.wrap (w:Int)<0)=decide (9223372036854775808<=w):=by
  apply decide_eq_decide.mpr
  rw[IntKind.wrap_i64]
  omega
 rw[E196]
 simp[XG,qq9]
 rw[IntKind.wrap_i64]
 omega
def Zk(w:Nat):Int:=if yQ w then 1 else if w=18442240474082181120 then 2 else if w=9218868437227405312 then 3 else if w=9223372036854775808 then 4 else if w=0 then 5 else 0
theorem zbg{w:Nat}(h:w<18446744073709551616)(hn:¬yQ w):fEq w 0=decide (w=0\/w=9223372036854775808):=by
 unfold fEq
 have v3:jl 0=0:=qh
 rw[v3]
 apply decide_eq_decide.mpr
 constructor
 ·rintro⟨_,_,h3⟩
  unfold jl at h3
  split at h3<;>omega
 ·intro h3
  rcases h3 with rfl|rfl
  ·exact⟨qh,qh,qh⟩
  ·exact⟨qh,qh,qh⟩
theorem qyv(w:Nat)(h:w<18446744073709551616)(hp:Hp):run cxX 185 [fl w] hp=some (.sc (.int .u8 (Zk w)),hp):=by
 rw[E185]
 unfold Zk
 by_cases hn:yQ w
 ·simp[jw,hn]
 ·have i1:=fun hp=>qii w h hn hp
  have i2:=fun hp=>qih w h hn hp
  have z:=zbg h hn
  have s:=fun hp=>qh1 w h hp
  have b9:∀hp,B185_9 (.float .f64 w) hp=some (.sc (.int .u8 (if w=0\/w=9223372036854775808 then 5 else 0)),hp):=by
   intro hp
   rw[qv3]
   by_cases h0:w=0\/w=9223372036854775808<;>simp[z,h0]
  by_cases h1:w=18442240474082181120
  ·subst h1
   simp at i1
   simp[jw,hn,i1]
  ·by_cases h2:w=9218868437227405312
   ·subst h2
    simp at i1 i2
    simp[jw,hn,i1,i2]
   ·simp only[h1,h2,decide_false]at i1 i2
    by_cases h3:w=9223372036854775808
    ·subst h3
     simp at s z
     simp[jw,hn,i1,i2,z,s,qv4]
    ·by_cases h4:w=0
     ·subst h4
      simp at s z b9
      simp[jw,hn,i1,i2,z,s,b9]
     ·simp[h3,h4]at z b9
      simp[jw,hn,i1,i2,z,b9,h1,h2,h3,h4]
theorem qqp(a b:Nat):kw (qj8 a b)=min (kw a) (kw b):=by unfold qj8;split<;>omega
theorem qqq(a b:Nat):kw (qj9 a b)=max (kw a) (kw b):=by unfold qj9;split<;>omega
def LF(l:List Nat):List AV:=l.map fun n=>.sc (.float .f64 n)
section
variable (l:List Nat)
@[simp] theorem lenF:(LF l).length=l.length:=by simp[LF]
@[simp] theorem getF?(i:Nat):(LF l)[i]?=(l[i]?).map fun n=>.sc (.float .f64 n):=by simp[LF]
@[simp] theorem getF(i:Nat)(h:i<(LF l).length):(LF l)[i]= .sc (.float .f64 (l[i]'(by simpa using h))):=by simp[LF]
@[simp] theorem dropF(i:Nat):(LF l).drop i=LF (l.drop i):=by simp[LF]
@[simp] theorem tailF:(LF l).tail=LF l.tail:=by simp[LF]
@[simp] theorem nilF:LF []=[]:=rfl
theorem appF(n:Nat)(h:l.length<=1000000):jm 8 1 (S 2 1 (LF l)) (S 1 1 [.sc (.float .f64 n)])=some (S 2 1 (LF (l++[n]))):=by
 rw[Yr 8 1 2 _ _ 1 (.inr rfl) (qka _) (.inr (yR qe qi))]
 simp[LF]
end
abbrev Ga(K M e0 e1 e2 e3 e4 e5:Int)(lo hi:Nat)(x:AV):AV:=
 .agg [.sc (.int .i64 K),.sc (.int .u32 M),.sc (.int .u32 e0),.sc (.int .u32 e1),.sc (.int .u32 e2),.sc (.int .u32 e3),.sc (.int .u32 e4),.sc (.int .u32 e5),fl lo,fl hi,x]
def zI(a b:Int):Int:=if a+b<4294967296 then a+b else 4294967295
theorem yL(a b:Int)(ha:0<=a/\a<4294967296)(hb:0<=b/\b<4294967296)(hp:Hp):run cxX 93 [.sc (.int .u32 a),.sc (.int .u32 b)] hp=some (.sc (.int .u32 (zI a b)),hp):=by
 rw[E93]
 unfold zI
 by_cases h:a+b<4294967296
 ·have w:IntKind.u32.wrap (a+b)=a+b:=qJ qe h
  have h1:decide (a+b>=a)=true:=qi
  simp only[Yo,kT,zmw,yg,ZQ,jJ,w,h,h1,cond_true,if_true]
 ·have w:IntKind.u32.wrap (a+b)=a+b-4294967296:=by rw[IntKind.wrap_u32];omega
  have h1:¬(a<=a+b-4294967296):=qe
  simp[w,h,h1]
def Ws(l:List Nat):Prop:=∀w∈l,w<18446744073709551616
theorem qj4(K:Int)(q c1 c2 c3 c4 c5 c6 c7 c8 c9:AV)(b4 b2r:List AV)(hq:b4.length=11)(hp:Hp):∀(n:Nat) (a b acc:List Nat) (k k':Nat),a.length+b.length=n->acc.length+n<=1000000->Ws a->Ws b->
 B47_8 (S k 1 (LF a)) (S k' 1 (LF b)) (.sc (.int .i64 K)::b2r) b4 [q,c1,c2,c3,c4,c5,c6,c7,c8,c9,S 2 1 (LF acc)] hp=some (.agg [q,c1,c2,c3,c4,c5,c6,c7,c8,c9,S 2 1 (LF (acc++(gm a b).take (K.toNat-acc.length)))],hp):=by
 intro n
 induction n using Nat.strongRecOn with
 |_ n ih=>
 intro a b acc k k' hn hlen ha hb
 have ap:∀x:Nat,jm 8 1 (S 2 1 (LF acc)) (S 1 1 [.sc (.float .f64 x)])=some (S 2 1 (LF (acc++[x]))):=fun x=>appF acc x qe
 have fin:B47_12 b4 [q,c1,c2,c3,c4,c5,c6,c7,c8,c9,S 2 1 (LF acc)] hp=some (.agg [q,c1,c2,c3,c4,c5,c6,c7,c8,c9,S 2 1 (LF acc)],hp):=by
  rw[qvu]
  obtain⟨d0,d1,d2,d3,d4,d5,d6,d7,d8,d9,d10,rfl⟩:∃d0 d1 d2 d3 d4 d5 d6 d7 d8 d9 d10,b4=[d0,d1,d2,d3,d4,d5,d6,d7,d8,d9,d10]:=by
   match b4,hq with
   |[d0,d1,d2,d3,d4,d5,d6,d7,d8,d9,d10],_=>exact⟨d0,d1,d2,d3,d4,d5,d6,d7,d8,d9,d10,rfl⟩
  simp[qr,qo]
 rw[zcz]
 by_cases hK:(acc.length:Int)<K
 ·have hs:K.toNat-acc.length=(K.toNat-(acc.length+1))+1:=qe
  have goA:∀(x:Nat) (r:List Nat),r.length+1+b.length<=n->Ws r->B47_10 (S k 1 (LF (x::r))) (S k' 1 (LF b)) (.sc (.int .i64 K)::b2r) b4 [q,c1,c2,c3,c4,c5,c6,c7,c8,c9,S 2 1 (LF acc)] hp=some (.agg [q,c1,c2,c3,c4,c5,c6,c7,c8,c9,S 2 1 (LF (acc++(x::gm r b).take (K.toNat-acc.length)))],hp):=by
   intro x r hle hr
   rw[qvw]
   have e:=vi (rk k) (LF (x::r)) .i64 1 qe (by simp only[lenF,zmu];omega)
   have i:=fun k=>ih (r.length+b.length) qe r b (acc++[x]) k k' rfl (by simp only[zmt,zmu,znd];omega) hr hb
   simp at i
   rw[hs,zna]
   simp[qs,ql,ap,e,qo,i]
  have goB:∀(y:Nat) (r:List Nat),a.length+(r.length+1)<=n->Ws r->B47_11 (S k 1 (LF a)) (S k' 1 (LF (y::r))) (.sc (.int .i64 K)::b2r) b4 [q,c1,c2,c3,c4,c5,c6,c7,c8,c9,S 2 1 (LF acc)] hp=some (.agg [q,c1,c2,c3,c4,c5,c6,c7,c8,c9,S 2 1 (LF (acc++(y::gm a r).take (K.toNat-acc.length)))],hp):=by
   intro x r hle hr
   rw[qvv]
   have e:=vi (rk k') (LF (x::r)) .i64 1 qe (by simp only[lenF,zmu];omega)
   have i:=fun k'=>ih (a.length+r.length) qe a r (acc++[x]) k k' rfl (by simp only[zmt,zmu,znd];omega) ha hr
   simp at i
   rw[hs,zna]
   simp[qs,ql,ap,e,qo,i]
  match a,b with
  |[],[]=>simp[qs,ql,hK,fin]
  |[],y::s=>
   have h:=goB y s (by simp at hn⊢;omega) (fun w hw=>hb w (by simp[hw]))
   simp at h
   have hw':IntKind.i64.wrap ((s.length:Int)+1)=(s.length:Int)+1:=qm qe (by simp at hn;omega)
   have p:(0:Int)<(s.length:Int)+1:=qe
   have z:¬((s.length:Int)+1=0):=qe
   simp[qs,ql,hK,hw',p,z,XD,h]
  |x::r,[]=>
   have h:=goA x r (by simp at hn⊢;omega) (fun w hw=>ha w (by simp[hw]))
   simp at h
   have hw':IntKind.i64.wrap ((r.length:Int)+1)=(r.length:Int)+1:=qm qe (by simp at hn;omega)
   have p:(0:Int)<(r.length:Int)+1:=qe
   simp[qs,ql,hK,hw',p,XD,h]
  |x::r,y::s=>
   have h1:=goA x r (by simp at hn⊢;omega) (fun w hw=>ha w (by simp[hw]))
   have h2:=goB y s (by simp at hn⊢;omega) (fun w hw=>hb w (by simp[hw]))
   have hw':IntKind.i64.wrap ((r.length:Int)+1+((s.length:Int)+1))=(r.length:Int)+1+((s.length:Int)+1):=qm qe (by simp at hn;omega)
   have p:(0:Int)<(r.length:Int)+1+((s.length:Int)+1):=qe
   have p':(0:Int)<(r.length:Int)+1:=qe
   have z:¬((s.length:Int)+1=0):=qe
   have l:=fun hp=>YH y x (hb y qg) (ha x qg) hp
   rw[qg6]
   by_cases hyx:kw y<kw x
   ·simp only[hyx,decide_true]at l
    simp[qs,ql,hK,hw',p,p',z,hyx,l,h2,XD]
   ·simp only[hyx,decide_false]at l
    simp[qs,ql,hK,hw',p,p',z,hyx,l,h1,XD]
 ·have hs:K.toNat-acc.length=0:=qe
  simp[qs,ql,hK,fin,hs]
theorem zi1:idx 6 (.int .i64 0)=some 0:=qf
theorem zi0:idx 6 (.int .i64 1)=some 1:=qf
theorem ziz:idx 6 (.int .i64 2)=some 2:=qf
theorem ziy:idx 6 (.int .i64 3)=some 3:=qf
theorem zix:idx 6 (.int .i64 4)=some 4:=qf
theorem ziw:idx 6 (.int .i64 5)=some 5:=qf
def zw(n:Int):Prop:=0<=n/\n<4294967296
theorem qm4(K K' M M' e0 e1 e2 e3 e4 e5 f0 f1 f2 f3 f4 f5:Int)(lo hi lo' hi':Nat)(a b:List Nat)(k k':Nat)(hM:zw M/\zw M')(h0:zw e0/\zw f0)(h1:zw e1/\zw f1)(h2:zw e2/\zw f2)(h3:zw e3/\zw f3)
 (h4:zw e4/\zw f4) (h5:zw e5/\zw f5) (hlo:lo<18446744073709551616/\lo'<18446744073709551616) (hhi:hi<18446744073709551616/\hi'<18446744073709551616) (ha:Ws a) (hb:Ws b) (hlen:a.length+b.length<=1000000) (hp:Hp):
 run cxX 47 [Ga K M e0 e1 e2 e3 e4 e5 lo hi (S k 1 (LF a)),Ga K' M' f0 f1 f2 f3 f4 f5 lo' hi' (S k' 1 (LF b))] hp=
  some (Ga K (zI M M') (zI e0 f0) (zI e1 f1) (zI e2 f2) (zI e3 f3) (zI e4 f4) (zI e5 f5) (qj8 lo lo') (qj9 hi hi') (S 2 1 (LF ((gm a b).take K.toNat))),hp):=by
 have pM:=fun hp=>yL M M' hM.1 hM.2 hp
 have p0:=fun hp=>yL e0 f0 h0.1 h0.2 hp
 have p1:=fun hp=>yL e1 f1 h1.1 h1.2 hp
 have p2:=fun hp=>yL e2 f2 h2.1 h2.2 hp
 have p3:=fun hp=>yL e3 f3 h3.1 h3.2 hp
 have p4:=fun hp=>yL e4 f4 h4.1 h4.2 hp
 have p5:=fun hp=>yL e5 f5 h5.1 h5.2 hp
 have mn:=fun hp=>qyp lo lo' hlo.1 hlo.2 hp
 have mx:=fun hp=>qyq hi hi' hhi.1 hhi.2 hp
 have w2:IntKind.i64.wrap 2=2:=rfl
 have w3:IntKind.i64.wrap 3=3:=rfl
 have w4:IntKind.i64.wrap 4=4:=rfl
 have w5:IntKind.i64.wrap 5=5:=rfl
 have w6:IntKind.i64.wrap 6=6:=rfl
 have g:=fun(c1 c2 c3 c4 c5 c6 c7 c8 c9:AV) (b4 b2r:List AV) (hq:b4.length=11)=>qj4 K (.sc (.int .i64 K)) c1 c2 c3 c4 c5 c6 c7 c8 c9 b4 b2r hq hp (a.length+b.length) a b [] (rk k) (rk k') rfl (by simpa using hlen) ha hb
 simp at g
 rw[E47]
 simp[ql,pM,mn,mx]
 rw[vV]
 simp[ql,zi1,p0,qo]
 rw[vV]
 simp[ql,zi0,p1,qo]
 rw[vV]
 simp[ql,ziz,p2,qo,w2]
 rw[vV]
 simp[ql,ziy,p3,qo,w3]
 rw[vV]
 simp[ql,zix,p4,qo,w4]
 rw[vV]
 simp[ql,ziw,p5,qo,w5]
 rw[vV]
 simp[qs,w6]
 exact g _ _ _ _ _ _ _ _ _ _ _ rfl
structure Gs where
 M:Int
 e0:Int
 e1:Int
 e2:Int
 e3:Int
 e4:Int
 e5:Int
 lo:Nat
 hi:Nat
 L:List Nat
abbrev Gs.av(g:Gs)(K:Int)(k:Nat):AV:=Ga K g.M g.e0 g.e1 g.e2 g.e3 g.e4 g.e5 g.lo g.hi (S k 1 (LF g.L))
def gmg(K:Int)(g o:Gs):Gs:=⟨zI g.M o.M,zI g.e0 o.e0,zI g.e1 o.e1,zI g.e2 o.e2,zI g.e3 o.e3,zI g.e4 o.e4,zI g.e5 o.e5,qj8 g.lo o.lo,qj9 g.hi o.hi,(gm g.L o.L).take K.toNat⟩
def kD(w:Nat):Gs:=⟨1,if Zk w=0 then 1 else 0,if Zk w=1 then 1 else 0,if Zk w=2 then 1 else 0,if Zk w=3 then 1 else 0,if Zk w=4 then 1 else 0,if Zk w=5 then 1 else 0,
 if yQ w then 9218868437227405312 else w,if yQ w then 18442240474082181120 else w,[wk (kw w)]⟩
def gnew:Gs:=⟨0,0,0,0,0,0,0,9218868437227405312,18442240474082181120,[]⟩
def Vk(i:Int):List Nat->Nat
 |[]=>0
 |f::F=>(if Zk f=i then 1 else 0)+Vk i F
theorem yX(i:Int):∀a b,Vk i (a++b)=Vk i a+Vk i b
 |[],b=>by simp[Vk]
 |f::a,b=>by simp only[zol,Vk,yX i a b];omega
theorem yc(i:Int):∀a,Vk i a<=a.length
 |[]=>zmx _
 |f::a=>by have:=yc i a;simp only[Vk,zmu];split<;>omega
theorem Qm(i:Int){a b:List Nat}(h:a.Perm b):Vk i a=Vk i b:=by
 induction h with
 |nil=>rfl
 |cons x _ ih=>simp only[Vk,ih]
 |swap x y l=>simp only[Vk];omega
 |trans _ _ h1 h2=>rw[h1,h2]
theorem zf3(w:Nat):0<=Zk w/\Zk w<=5:=by
 unfold Zk
 repeat' split
 all_goals omega
structure GR (K : Int) (F : List Nat) (g : Gs) : Prop where
 M:g.M=F.length
 e0:g.e0=Vk 0 F
 e1:g.e1=Vk 1 F
 e2:g.e2=Vk 2 F
 e3:g.e3=Vk 3 F
 e4:g.e4=Vk 4 F
 e5:g.e5=Vk 5 F
 lo:g.lo<18446744073709551616
 hi:g.hi<18446744073709551616
 klo:kw g.lo=Yb F
 khi:kw g.hi=vE F
 ws:Ws g.L
 keys:g.L.map kw=(sk (F.map kw)).take K.toNat
theorem GR.len{K:Int}{F:List Nat}{g:Gs}(h:GR K F g):g.L.length=min K.toNat F.length:=by
 have:=congrArg List.length h.keys
 rw[zov,zny,zh3,zov]at this
 exact this
theorem vt{a b:Nat}(h:a+b<4294967296):zI (a:Int) (b:Int)=((a+b:Nat):Int):=by
 unfold zI
 rw[if_pos qe]
 omega
theorem GR.merge{K:Int}{F H:List Nat}{g o:Gs}(hg:GR K F g)(ho:GR K H o)(hl:F.length+H.length<=1000):GR K (F++H) (gmg K g o) where
 M:=by simp only[gmg];rw[hg.M,ho.M,vt qe,zmt]
 e0:=by have:=yc 0 F;have:=yc 0 H;simp only[gmg];rw[hg.e0,ho.e0,vt qe,yX]
 e1:=by have:=yc 1 F;have:=yc 1 H;simp only[gmg];rw[hg.e1,ho.e1,vt qe,yX]
 e2:=by have:=yc 2 F;have:=yc 2 H;simp only[gmg];rw[hg.e2,ho.e2,vt qe,yX]
 e3:=by have:=yc 3 F;have:=yc 3 H;simp only[gmg];rw[hg.e3,ho.e3,vt qe,yX]
 e4:=by have:=yc 4 F;have:=yc 4 H;simp only[gmg];rw[hg.e4,ho.e4,vt qe,yX]
 e5:=by have:=yc 5 F;have:=yc 5 H;simp only[gmg];rw[hg.e5,ho.e5,vt qe,yX]
 lo:=qq3 hg.lo ho.lo
 hi:=qq4 hg.hi ho.hi
 klo:=by simp only[gmg];rw[qqp,hg.klo,ho.klo,KT]
 khi:=by simp only[gmg];rw[qqq,hg.khi,ho.khi,Xa]
 ws:=fun w hw=>(zad w _ _ _ rfl (zof hw)).elim (hg.ws w) (ho.ws w)
 keys:=by
  simp only[gmg]
  rw[zqh,qqx _ _ _ rfl,hg.keys,ho.keys,zdm _ _ _ _ _ (zmx _) (zmx _),List.map_append,qrx]
theorem zft(K:Int):GR K [] gnew:=⟨rfl,rfl,rfl,rfl,rfl,rfl,rfl,qh,qh,qh,qh,by simp[gnew,Ws],by simp[gnew,sk]⟩
theorem qqv{K:Int}(hK:1<=K){w:Nat}(hw:w<18446744073709551616):GR K [w] (kD w) where
 M:=rfl
 e0:=by simp only[kD,Vk];split<;>rfl
 e1:=by simp only[kD,Vk];split<;>rfl
 e2:=by simp only[kD,Vk];split<;>rfl
 e3:=by simp only[kD,Vk];split<;>rfl
 e4:=by simp only[kD,Vk];split<;>rfl
 e5:=by simp only[kD,Vk];split<;>rfl
 lo:=by simp only[kD];split<;>omega
 hi:=by simp only[kD];split<;>omega
 klo:=by
  simp only[kD,Yb]
  have h0:kw 9218868437227405312=18442240474082181120:=qh
  by_cases hn:yQ w
  ·rw[if_pos hn,if_pos hn,h0]
  ·rw[if_neg hn,if_neg hn]
   have hn2:=hn
   unfold yQ at hn2
   unfold kw
   rw[if_neg hn]
   split<;>omega
 khi:=by
  simp only[kD,vE]
  have h0:kw 18442240474082181120=4503599627370495:=qh
  by_cases hn:yQ w
  ·rw[if_pos hn,if_pos hn,h0]
  ·rw[if_neg hn,if_neg hn]
   have hn2:=hn
   unfold yQ at hn2
   unfold kw
   rw[if_neg hn]
   split<;>omega
 ws:=by simp only[kD,Ws,zpx];rintro x rfl;exact qbv _ (Qg w hw)
 keys:=by
  have hk:K.toNat=(K.toNat-1)+1:=qe
  simp only[kD,zn0,zpn,sk,ZB]
  rw[qjs w hw,hk,zna,zqu]
theorem GR.in32{K:Int}{F:List Nat}{g:Gs}(h:GR K F g)(hl:F.length<=1000):zw g.M/\zw g.e0/\zw g.e1/\zw g.e2/\zw g.e3/\zw g.e4/\zw g.e5:=by
 have a0:=yc 0 F
 have a1:=yc 1 F
 have a2:=yc 2 F
 have a3:=yc 3 F
 have a4:=yc 4 F
 have a5:=yc 5 F
 rw[h.M,h.e0,h.e1,h.e2,h.e3,h.e4,h.e5]
 unfold zw
 refine⟨?_,?_,?_,?_,?_,?_,?_⟩<;>omega
theorem zh7(K K':Int){F H:List Nat}{g o:Gs}(k k':Nat)(hg:GR K F g)(ho:GR K' H o)(hl:F.length+H.length<=1000)(hp:Hp):
 run cxX 47 [g.av K k,o.av K' k'] hp=some ((gmg K g o).av K 2,hp):=by
 obtain⟨m,x0,x1,x2,x3,x4,x5⟩:=hg.in32 qe
 obtain⟨m',y0,y1,y2,y3,y4,y5⟩:=ho.in32 qe
 have l1:=hg.len
 have l2:=ho.len
 exact qm4 K K' g.M o.M g.e0 g.e1 g.e2 g.e3 g.e4 g.e5 o.e0 o.e1 o.e2 o.e3 o.e4 o.e5 g.lo g.hi o.lo o.hi g.L o.L k k' ⟨m,m'⟩ ⟨x0,y0⟩ ⟨x1,y1⟩ ⟨x2,y2⟩ ⟨x3,y3⟩ ⟨x4,y4⟩ ⟨x5,y5⟩ ⟨hg.lo,ho.lo⟩ ⟨hg.hi,ho.hi⟩ hg.ws ho.ws qe hp
theorem zdz(K:Int)(w:Nat)(hw:w<18446744073709551616)(hp:Hp):run cxX 150 [.sc (.int .i64 K),fl w] hp=some ((kD w).av K 1,hp):=by
 have i1:=fun hp=>YJ 1 hp
 have i2:=fun hp=>YJ (-1) hp
 have ed:=fun hp=>qyv w hw hp
 have k:=fun hp=>Jf w hw hp
 have o:=fun hp=>qyh (kw w) (Qg w hw) hp
 simp at i1 i2
 have b5:∀(x0 x1 x2 x3 x4 x5 x6 x7 x8 x9 x10:AV) (q0 q1 q2 q3 q4 q5 q6 q7 q8 q9 q10:AV) (hp:Hp),B150_5 (.float .f64 w) [q0,q1,q2,q3,q4,q5,q6,q7,q8,q9,q10] [x0,x1,x2,x3,x4,x5,x6,x7,x8,x9,x10] hp=some (.agg [x0,x1,x2,x3,x4,x5,x6,x7,x8,x9,S 1 1 [fl (wk (kw w))]],hp):=by
  intros
  rw[qwm]
  simp[k,o,qo,qr]
 rw[E150]
 have he:=zf3 w
 have hc:Zk w=0\/Zk w=1\/Zk w=2\/Zk w=3\/Zk w=4\/Zk w=5:=qe
 have u0:idx 6 (.int .u8 0)=some 0:=qf
 have u1:idx 6 (.int .u8 1)=some 1:=qf
 have u2:idx 6 (.int .u8 2)=some 2:=qf
 have u3:idx 6 (.int .u8 3)=some 3:=qf
 have u4:idx 6 (.int .u8 4)=some 4:=qf
 have u5:idx 6 (.int .u8 5)=some 5:=qf
 unfold kD
 by_cases hn:yQ w
 ·rcases hc with e|e|e|e|e|e<;>rw[e]at ed<;>simp[i1,i2,ed,u0,u1,u2,u3,u4,u5,qo,jw,hn,b5,e,LF]
 ·rcases hc with e|e|e|e|e|e<;>rw[e]at ed<;>simp[i1,i2,ed,u0,u1,u2,u3,u4,u5,qo,jw,hn,b5,e,LF]
theorem qym(K:Int)(hK:1<=K/\K<=16)(hp:Hp):run cxX 80 [.sc (.int .i64 K)] hp=some (.tup [gnew.av K 2,.sc (.bool true)],hp):=by
 have i1:=fun hp=>YJ 1 hp
 have i2:=fun hp=>YJ (-1) hp
 simp at i1 i2
 have h1:¬(K<1):=qe
 have h2:¬(16<K):=qe
 rw[E80]
 simp[h1,h2]
 rw[zch]
 simp[i1,i2,qo,qr,gnew]
theorem qyn(K:Int){F:List Nat}{g:Gs}(k w:Nat)(hK:1<=K)(hg:GR K F g)(hl:F.length+1<=1000)(hw:w<18446744073709551616)(hp:Hp):
 run cxX 81 [g.av K k,fl w] hp=some ((gmg K g (kD w)).av K 2,hp):=by
 have o:=fun hp=>zdz K w hw hp
 have m:=fun k k' hp=>zh7 K K k k' hg (qqv hK hw) (by simpa using hl) hp
 rw[E81]
 simp[qr,ql,o,m,qo]
theorem zl5(d:Nat)(a b:Int):zx Tryz.prog (Op.equalIn (d+1) 40 (.int .u32 a) (.int .u32 b))=some (a==b):=by
 unfold Op.equalIn
 rw[za]
 have:zx Tryz.prog (underlying 40)=some (.int .u32):=qf
 rw[this]
 rfl
theorem zl6(e0 e1 e2 e3 e4 e5 f0 f1 f2 f3 f4 f5:Int):zx Tryz.prog (Op.equal 41 (.agg #[.int .u32 e0,.int .u32 e1,.int .u32 e2,.int .u32 e3,.int .u32 e4,.int .u32 e5]) (.agg #[.int .u32 f0,.int .u32 f1,.int .u32 f2,.int .u32 f3,.int .u32 f4,.int .u32 f5]))=
 some (decide (e0=f0/\e1=f1/\e2=f2/\e3=f3/\e4=f4/\e5=f5)):=by
 unfold Op.equal Op.maxDepth
 unfold Op.equalIn
 rw[za]
 have:zx Tryz.prog (underlying 41)=some (.array 6 40):=qf
 rw[this]
 simp only[Yo,zmw]
 rw[za]
 have hs:zx Tryz.prog (sizeOf 40)=some 1:=qf
 rw[hs]
 simp only[Yo,zmw]
 have hp:∀(x0 x1 x2 x3 x4 x5:Value),zx Tryz.prog (part 40 #[x0,x1,x2,x3,x4,x5] 0)=some x0/\zx Tryz.prog (part 40 #[x0,x1,x2,x3,x4,x5] 1)=some x1/\zx Tryz.prog (part 40 #[x0,x1,x2,x3,x4,x5] 2)=some x2/\
  zx Tryz.prog (part 40 #[x0,x1,x2,x3,x4,x5] 3)=some x3/\zx Tryz.prog (part 40 #[x0,x1,x2,x3,x4,x5] 4)=some x4/\zx Tryz.prog (part 40 #[x0,x1,x2,x3,x4,x5] 5)=some x5:=by
  intro x0 x1 x2 x3 x4 x5
  refine⟨?_,?_,?_,?_,?_,?_⟩<;>kernel_rfl
 have he:=zl5 9998
 obtain⟨a0,a1,a2,a3,a4,a5⟩:=hp (.int .u32 e0) (.int .u32 e1) (.int .u32 e2) (.int .u32 e3) (.int .u32 e4) (.int .u32 e5)
 obtain⟨b0,b1,b2,b3,b4,b5⟩:=hp (.int .u32 f0) (.int .u32 f1) (.int .u32 f2) (.int .u32 f3) (.int .u32 f4) (.int .u32 f5)
 rw[Std.Legacy.Range.forIn_eq_forIn_range']
 simp[Std.Legacy.Range.size,List.range'_succ,za,a0,b0,he]
 by_cases h0:e0=f0
 ·subst h0
  simp[za,a1,b1,he]
  by_cases h1:e1=f1
  ·subst h1
   simp[za,a2,b2,he]
   by_cases h2:e2=f2
   ·subst h2
    simp[za,a3,b3,he]
    by_cases h3:e3=f3
    ·subst h3
     simp[za,a4,b4,he]
     by_cases h4:e4=f4
     ·subst h4
      simp[za,a5,b5,he]
      by_cases h5:e5=f5
      ·subst h5
       simp[za]
      ·simp[h5,za]
     ·simp[h4,za]
    ·simp[h3,za]
   ·simp[h2,za]
  ·simp[h1,za]
 ·simp[h0,za]
theorem zg7(x y:Operand)(e0 e1 e2 e3 e4 e5 f0 f1 f2 f3 f4 f5:Int):qx Tryz.prog .neq 41 x y (.agg #[.int .u32 e0,.int .u32 e1,.int .u32 e2,.int .u32 e3,.int .u32 e4,.int .u32 e5]) (.agg #[.int .u32 f0,.int .u32 f1,.int .u32 f2,.int .u32 f3,.int .u32 f4,.int .u32 f5])=
 some (.bool (!decide (e0=f0/\e1=f1/\e2=f2/\e3=f3/\e4=f4/\e5=f5))):=by
 unfold qx
 rw[za]
 have hg:zx Tryz.prog (eqGuard .neq 41 x y (.agg #[.int .u32 e0,.int .u32 e1,.int .u32 e2,.int .u32 e3,.int .u32 e4,.int .u32 e5]) (.agg #[.int .u32 f0,.int .u32 f1,.int .u32 f2,.int .u32 f3,.int .u32 f4,.int .u32 f5]))=some ():=qf
 rw[hg]
 simp only[Yo,zmw,Go.binOp]
 rw[za,zl6]
 rfl
theorem WN(r0 r1 r2 r3 r4 r5 r6 r7 r8 r9 s0 s1 s2 s3 s4 s5 s6 s7 s8 s9:AV)(a b:List Nat)(k k':Nat)(hab:a.length=b.length)(hl:a.length<=1000000)(ha:Ws a)(hb:Ws b)(hp:Hp):∀(r s:List Nat) (i:Nat),a.drop i=r->b.drop i=s->
 B136_4 (.int .i64 a.length) (.int .i64 i) [r0,r1,r2,r3,r4,r5,r6,r7,r8,r9,S k 1 (LF a)] [s0,s1,s2,s3,s4,s5,s6,s7,s8,s9,S k' 1 (LF b)] hp=some (.sc (.bool (decide (r.map kw=s.map kw))),hp):=by
 intro r
 induction r with
 |nil=>
  intro s i hr hs
  have h1:=qK hr
  have h2:s=[]:=by rw[<-hs];exact zn1 qe
  have hlt:¬((i:Int)<(a.length:Int)):=qe
  rw[qe5]
  simp[hlt,h2]
 |cons x r ih=>
  intro s i hr hs
  obtain⟨e1,e2,hi,e3⟩:=qt hr
  rw[qe5]
  have hw:IntKind.i64.wrap ((i:Int)+1)=((i+1:Nat):Int):=qj
  cases s with
  |nil=>have:=qK hs;omega
  |cons y s=>
   obtain⟨f1,f2,hj,f3⟩:=qt hs
   have h:=ih s (i+1) e2 f2
   have q:=fun hp=>wX x y (ha x (zm6 e1)) (hb y (zm6 f1)) hp
   simp at h hw
   by_cases e:kw x=kw y
   ·simp only[e,decide_true]at q
    simp[hi,hj,qs,ql,e3,f3,e,hw,h,q]
   ·simp only[e,decide_false]at q
    simp[hi,hj,qs,ql,e3,f3,e,q]
def qk8(K K':Int)(g o:Gs):Prop:=K=K'/\g.M=o.M/\(g.e0=o.e0/\g.e1=o.e1/\g.e2=o.e2/\g.e3=o.e3/\g.e4=o.e4/\g.e5=o.e5)/\kw g.lo=kw o.lo/\kw g.hi=kw o.hi/\g.L.map kw=o.L.map kw
theorem qsf(K K':Int)(g o:Gs)(k k':Nat)(hs:qk8 K K' g o)(h1:g.lo<18446744073709551616/\o.lo<18446744073709551616)(h2:g.hi<18446744073709551616/\o.hi<18446744073709551616)(h3:Ws g.L/\Ws o.L)(hl:g.L.length<=1000000)(hp:Hp):
 run cxX 136 [g.av K k,o.av K' k'] hp=some (.sc (.bool true),hp):=by
 obtain⟨q1,q2,q3,q4,q5,q6⟩:=hs
 have len:g.L.length=o.L.length:=by simpa using congrArg List.length q6
 have l:=WN (.sc (.int .i64 K)) (.sc (.int .u32 g.M)) (.sc (.int .u32 g.e0)) (.sc (.int .u32 g.e1)) (.sc (.int .u32 g.e2)) (.sc (.int .u32 g.e3)) (.sc (.int .u32 g.e4)) (.sc (.int .u32 g.e5)) (fl g.lo) (fl g.hi)
  (.sc (.int .i64 K')) (.sc (.int .u32 o.M)) (.sc (.int .u32 o.e0)) (.sc (.int .u32 o.e1)) (.sc (.int .u32 o.e2)) (.sc (.int .u32 o.e3)) (.sc (.int .u32 o.e4)) (.sc (.int .u32 o.e5)) (fl o.lo) (fl o.hi) g.L o.L (rk k) (rk k') len hl h3.1 h3.2 hp g.L o.L 0 rfl rfl
 have r1:=fun hp=>wX g.lo o.lo h1.1 h1.2 hp
 have r2:=fun hp=>wX g.hi o.hi h2.1 h2.2 hp
 have a:=zg7 (.tmp 20) (.tmp 22) g.e0 g.e1 g.e2 g.e3 g.e4 g.e5 o.e0 o.e1 o.e2 o.e3 o.e4 o.e5
 simp only[eq_true q3,eq_true q4,eq_true q5,eq_true q6,decide_true,Bool.not_true]at a r1 r2 l
 subst q1
 rw[E136]
 simp at l
 rw[len]at l
 rw[q2]at l
 simp[ql,qs,qr,xG,wD,q2,a,r1,r2,len,qe6]
 exact l
open Classical in
noncomputable def wd(p:Int×Int):Nat:=if h:∃w,w<18446744073709551616/\∀hp,run cxX 151 [.sc (.int .u64 p.1),.sc (.int .u8 p.2)] hp=some (fl w,hp)then h.choose else 0
def InI(p:Int×Int):Prop:=(0<=p.1/\p.1<18446744073709551616)/\(0<=p.2/\p.2<256)
theorem qxl{p:Int×Int}(h:InI p):wd p<18446744073709551616/\∀hp,run cxX 151 [.sc (.int .u64 p.1),.sc (.int .u8 p.2)] hp=some (fl (wd p),hp):=by
 have he:=qsj p.1 p.2 h.1 h.2
 unfold wd
 rw[dif_pos he]
 exact he.choose_spec
theorem qyj(p:Int×Int)(h:InI p)(hp:Hp):run cxX 82 [.agg [.sc (.int .u64 p.1),.sc (.int .u8 p.2)]] hp=some (fl (wd p),hp):=by
 rw[E82]
 simp[ql,(qxl h).2]
def LP:List (Int×Int)->List AV
 |[]=>[]
 |p::l=>.sc (.int .u64 p.1)::.sc (.int .u8 p.2)::LP l
theorem qjr:∀l,(LP l).length=2*l.length
 |[]=>rfl
 |p::l=>by simp only[LP,zmu,qjr l];omega
theorem zhg:∀(i:Nat) (l:List (Int×Int)),(LP l).drop (i*2)=LP (l.drop i)
 |0,l=>by simp
 |i+1,[]=>by simp[LP]
 |i+1,p::l=>by
  have h:(i+1)*2=i*2+1+1:=qe
  rw[h,LP,zph,zph,zhg i l,zph]
theorem zaj(k:Nat)(l:List (Int×Int)):xK (S k 2 (LP l))=some l.length:=by
 have h:(if(2:Nat)=1 then(LP l).length else(LP l).length/2)=l.length:=by rw[if_neg qe,qjr];omega
 rcases jn k 2 (LP l)with e|e|⟨e,e'⟩
 ·rw[e];simp only[xK,h]
 ·rw[e];simp only[xK,h]
 ·rw[e]
  have:l.length=0:=by have:=qjr l;rw[e']at this;simp at this;omega
  rw[this];rfl
theorem ziv(k:Nat){l:List (Int×Int)}{i:Nat}{p:Int×Int}(h:l[i]?=some p):jA 2 (S k 2 (LP l)) (.int .i64 (i:Int))=some [.sc (.int .u64 p.1),.sc (.int .u8 p.2)]:=by
 obtain⟨hi,hp⟩:=zm2.mp h
 have hl:(if(2:Nat)=1 then(LP l).length else(LP l).length/2)=l.length:=by rw[if_neg qe,qjr];omega
 have hx:idx l.length (.int .i64 (i:Int))=some i:=by
  have hc:(0:Int)<=(i:Int)/\(i:Int)<(l.length:Int):=⟨qe,qe⟩
  simp only[Yo,idx,Vd,zmw,hc,and_self,if_true,zm3]
 have hg:qr (LP l) (i*2) 2=some [.sc (.int .u64 p.1),.sc (.int .u8 p.2)]:=by
  unfold qr
  rw[if_pos (by rw[qjr];omega),zhg,znp hi,hp]
  rfl
 rcases jn k 2 (LP l)with e|e|⟨e,e'⟩
 ·rw[e];simp only[Yo,jA,if_true,hl,hx,zmw,hg]
 ·rw[e];simp only[Yo,jA,if_true,hl,hx,zmw,hg]
 ·exfalso
  have:=qjr l
  rw[e']at this
  simp at this
  omega
def ZJ(K:Int)(g:Gs):List Nat->Gs
 |[]=>g
 |w::r=>ZJ K (gmg K g (kD w)) r
theorem qol(K:Int)(k:Nat)(l:List (Int×Int))(z0 z1 z2 z3 z4 z5 z6 z7 z8 z9 z10:AV)(hK:1<=K)(hl:l.length<=900)(hI:∀p∈l,InI p)(hp:Hp):∀(r:List (Int×Int)) (i:Nat) (F:List Nat) (g:Gs),l.drop i=r->F.length=i->GR K F g->
 B36_3 (S k 2 (LP l)) (.int .i64 l.length) (.int .i64 i) [z0,z1,z2,z3,z4,z5,z6,z7,z8,z9,z10] [.sc (.int .i64 K),.sc (.int .u32 g.M),.sc (.int .u32 g.e0),.sc (.int .u32 g.e1),.sc (.int .u32 g.e2),.sc (.int .u32 g.e3),.sc (.int .u32 g.e4),.sc (.int .u32 g.e5),fl g.lo,fl g.hi,S 2 1 (LF g.L)] hp=
  some ((ZJ K g (r.map wd)).av K 2,hp):=by
 intro r
 induction r with
 |nil=>
  intro i F g hr hF hg
  have:=qK hr
  have hlt:¬((i:Int)<(l.length:Int)):=qe
  rw[ql3]
  simp[hlt,qr,qo,ZJ]
 |cons p r ih=>
  intro i F g hr hF hg
  obtain⟨e1,e2,hi,e3⟩:=qt hr
  have hpI:=hI p (zm6 e1)
  have hw:=(qxl hpI).1
  have ix:=ziv k e1
  have it:=fun hp=>qyj p hpI hp
  have ad:=fun k hp=>qyn K k (wd p) hK hg qe hw hp
  have h:=ih (i+1) (F++[wd p]) (gmg K g (kD (wd p))) e2 (by simp[hF]) (hg.merge (qqv hK hw) qi)
  have hwi:IntKind.i64.wrap ((i:Int)+1)=((i+1:Nat):Int):=qj
  rw[ql3]
  simp at h hwi
  simp[hi,ix,qr,qo,it,ad,hwi,h,ZJ]
theorem qsg(c:Int)(k:Nat)(l:List (Int×Int))(hc:0<=c/\c<256)(hl:l.length<=900)(hI:∀p∈l,InI p)(hp:Hp):
 run cxX 36 [.sc (.int .u8 c),S k 2 (LP l)] hp=some ((ZJ (1+c%16) gnew (l.map wd)).av (1+c%16) 2,hp):=by
 have m:∀x y,qx Tryz.prog .rem 5 x y (.int .u8 c) (.int .u8 16)=some (.int .u8 (c%16)):=by
  intro x y;rw[zk _ _ _ _ _ _ _ qe,zj hc.1]
 have w1:IntKind.i64.wrap (c%16)=c%16:=qm qe qe
 have w2:IntKind.i64.wrap (1+c%16)=1+c%16:=qm qe qe
 have cv:∀n:Int,Ki Tryz.prog 5 3 (.int .u8 n)=some (.int .i64 (IntKind.i64.wrap n)):=fun n=>qf
 have nw:=fun hp=>qym (1+c%16) qe hp
 have lp:=fun z0 z1 z2 z3 z4 z5 z6 z7 z8 z9 z10=>qol (1+c%16) (rk k) l z0 z1 z2 z3 z4 z5 z6 z7 z8 z9 z10 qe hl hI hp l 0 [] gnew rfl rfl (zft _)
 simp at lp
 rw[E36]
 simp[m,cv,w1,w2,nw,qo,zaj]
 exact lp _ _ _ _ _ _ _ _ _ _ _
theorem GR.same{K:Int}{F H:List Nat}{g o:Gs}(hg:GR K F g)(ho:GR K H o)(h:F.Perm H):qk8 K K g o:=by
 refine⟨rfl,?_,⟨?_,?_,?_,?_,?_,?_⟩,?_,?_,?_⟩
 ·rw[hg.M,ho.M,h.length_eq]
 ·rw[hg.e0,ho.e0,Qm 0 h]
 ·rw[hg.e1,ho.e1,Qm 1 h]
 ·rw[hg.e2,ho.e2,Qm 2 h]
 ·rw[hg.e3,ho.e3,Qm 3 h]
 ·rw[hg.e4,ho.e4,Qm 4 h]
 ·rw[hg.e5,ho.e5,Qm 5 h]
 ·rw[hg.klo,ho.klo,qts h]
 ·rw[hg.khi,ho.khi,qof h]
 ·rw[hg.keys,ho.keys,qmm (h.map kw)]
theorem zgw{l:List (Int×Int)}(h:∀p∈l,InI p):Ws (l.map wd):=by
 intro w hw
 obtain⟨p,hp,rfl⟩:=zns.mp hw
 exact(qxl (h p hp)).1
abbrev Cv(R C:Int)(x:AV):AV:=.agg [.sc (.int .i64 R),.sc (.int .i64 C),x]
def Yq(R C:Int)(l:List Int):Int:=if R<1\/8<R\/C<1\/256<C then 2 else if(l.length:Int)≠R*C then 6 else 0
theorem qkj{R C:Int}(hR:1<=R/\R<=8)(hC:1<=C/\C<=256):0<=R*C/\R*C<=2048:=by
 obtain⟨r,rfl⟩:∃r:Nat,R=r:=⟨R.toNat,qe⟩
 obtain⟨c,rfl⟩:∃c:Nat,C=c:=⟨C.toNat,qe⟩
 have h:r*c<=8*256:=zno qe qe
 have e:(r:Int)*(c:Int)=((r*c:Nat):Int):=qg
 rw[e];omega
theorem Wi(R C:Int)(l:List Int)(k:Nat)(hl:l.length<=1000000)(hp:Hp):run cxX 88 [Cv R C (S k 1 (LI .u32 l))] hp=some (.sc (.int .i64 (Yq R C l)),hp):=by
 rw[E88]
 unfold Yq
 have b2:B88_2 hp=some (.sc (.int .i64 2),hp):=by rw[qle];simp
 by_cases h1:R<1
 ·simp[ql,h1,b2]
 ·by_cases h2:8<R
  ·simp[ql,h1,h2,b2]
  ·by_cases h3:C<1
   ·simp[ql,h1,h2,h3,b2]
   ·by_cases h4:256<C
    ·simp[ql,h1,h2,h3,h4,b2]
    ·have m:=qkj (R:=R) (C:=C) qe qe
     have w:IntKind.i64.wrap (R*C)=R*C:=qm qe qe
     by_cases h5:(l.length:Int)=R*C
     ·simp[ql,qs,h1,h2,h3,h4,w,h5,Xz]
     ·simp[ql,qs,h1,h2,h3,h4,w,h5,Xz]
theorem qbh(R C:Int)(l:List Int)(b:Nat)(hl:l.length<=1000000)(hp:Hp):run cxX 88 [Cv R C (.ms b 0 0 l.length 1)] hp=some (.sc (.int .i64 (Yq R C l)),hp):=by
 rw[E88]
 unfold Yq
 have b2:B88_2 hp=some (.sc (.int .i64 2),hp):=by rw[qle];simp
 by_cases h1:R<1
 ·simp[ql,h1,b2]
 ·by_cases h2:8<R
  ·simp[ql,h1,h2,b2]
  ·by_cases h3:C<1
   ·simp[ql,h1,h2,h3,b2]
   ·by_cases h4:256<C
    ·simp[ql,h1,h2,h3,h4,b2]
    ·have m:=qkj (R:=R) (C:=C) qe qe
     have w:IntKind.i64.wrap (R*C)=R*C:=qm qe qe
     by_cases h5:(l.length:Int)=R*C
     ·simp[ql,qs,h1,h2,h3,h4,w,h5,Xz]
     ·simp[ql,qs,h1,h2,h3,h4,w,h5,Xz]
theorem qor(B B1 B' B1':AV)(a b:List Int)(k k':Nat)(hab:a.length=b.length)(hl:a.length<=1000000)(hp:Hp):∀(r s:List Int) (i:Nat),a.drop i=r->b.drop i=s->
 B135_4 (.int .i64 a.length) (.int .i64 i) [B,B1,S k 1 (LI .u32 a)] [B',B1',S k' 1 (LI .u32 b)] hp=some (.sc (.bool (decide (r=s))),hp):=by
 intro r
 induction r with
 |nil=>
  intro s i hr hs
  have h1:=qK hr
  have h2:s=[]:=by rw[<-hs];exact zn1 qe
  have hlt:¬((i:Int)<(a.length:Int)):=qe
  rw[qe7]
  simp[hlt,h2]
 |cons x r ih=>
  intro s i hr hs
  obtain⟨e1,e2,hi,e3⟩:=qt hr
  rw[qe7]
  have hw:IntKind.i64.wrap ((i:Int)+1)=((i+1:Nat):Int):=qj
  cases s with
  |nil=>have:=qK hs;omega
  |cons y s=>
   obtain⟨f1,f2,hj,f3⟩:=qt hs
   have h:=ih s (i+1) e2 f2
   simp at h hw
   by_cases e:x=y
   ·simp[hi,hj,qs,ql,e3,f3,e,hw,h]
   ·simp[hi,hj,qs,ql,e3,f3,e]
theorem qsk(R C R' C':Int)(a b:List Int)(k k':Nat)(hp:Hp)(ha:a.length<=1000000):
 run cxX 135 [Cv R C (S k 1 (LI .u32 a)),Cv R' C' (S k' 1 (LI .u32 b))] hp=some (.sc (.bool (decide (R=R'/\C=C'/\a=b))),hp):=by
 rw[E135]
 have b2:B135_2 hp=some (.sc (.bool false),hp):=by rw[qwy]
 by_cases h1:R=R'
 ·by_cases h2:C=C'
  ·by_cases h3:a.length=b.length
   ·have h:=qor (.sc (.int .i64 R)) (.sc (.int .i64 C)) (.sc (.int .i64 R')) (.sc (.int .i64 C')) a b (rk k) (rk k') h3 ha hp a b 0 rfl rfl
    simp at h
    subst h1 h2
    rw[h3]at h
    simp[ql,qs,h3,qwx,h]
   ·have h4:¬(a=b):=fun e=>h3 (by rw[e])
    have h5:¬((a.length:Int)=(b.length:Int)):=qe
    simp[ql,qs,h1,h2,h4,h5,b2]
  ·simp[ql,h1,h2,b2]
 ·simp[ql,h1,b2]
theorem qip(R C:Int)(hR:1<=R/\R<=8)(hC:1<=C/\C<=256)(hp:Hp):run cxX 79 [.sc (.int .i64 R),.sc (.int .i64 C)] hp=
 some (.tup [Cv R C (.ms hp.next 0 0 (R*C).toNat 1),.sc (.bool true)],hp.new (LI .u32 (List.replicate (R*C).toNat 0))):=by
 rw[E79]
 have h1:¬(R<1):=qe
 have h2:¬(8<R):=qe
 have h3:¬(C<1):=qe
 have h4:¬(256<C):=qe
 have m:=qkj hR hC
 have w:IntKind.i64.wrap (R*C)=R*C:=qm qe qe
 have mk:yT 4 1 (R*C) (R*C)=some ():=Ji qe qe qh qh
 have z:=ZV .u32 (R*C).toNat
 rw[zoh m.1]at z
 simp[h1,h2,h3,h4,zci,w,mk,z,qr,qo]
theorem KK(C h r:Int)(hC:1<=C/\C<=256)(hr:0<=r/\r<=8):∃v:Nat,(v:Int)<C/\∀(R x:AV) hp,run cxX 92 [.agg [R,.sc (.int .i64 C),x],.sc (.int .u64 h),.sc (.int .i64 r)] hp=some (.sc (.int .i64 (v:Int)),hp):=by
 obtain⟨z1,s1⟩:∃z:Int,∀t x y,qx Tryz.prog .shr t x y (.int .u64 h) (.int .u64 32)=some (.int .u64 z):=⟨_,fun t x y=>jI _ _ _ _ _ _ _ _ qe⟩
 have w1:IntKind.i64.wrap (2*r)=2*r:=qm qe qe
 have w2:IntKind.i64.wrap (2*r+1)=2*r+1:=qm qe qe
 have w3:IntKind.u64.wrap (2*r+1)=2*r+1:=qu qe qe
 obtain⟨z2,s2⟩:∃z:Int,∀t x y,qx Tryz.prog .mul t x y (.int .u64 z1) (.int .u64 (2*r+1))=some (.int .u64 z):=⟨_,fun t x y=>Xu _ _ _ _ _ _ _⟩
 obtain⟨z3,s3⟩:∃z:Int,∀t x y,qx Tryz.prog .and t x y (.int .u64 h) (.int .u64 4294967295)=some (.int .u64 z):=⟨_,fun t x y=>zm _ _ _ _ _ _ _⟩
 obtain⟨z4,s4⟩:∃z:Int,∀t x y,qx Tryz.prog .add t x y (.int .u64 z2) (.int .u64 z3)=some (.int .u64 z):=⟨_,fun t x y=>yg _ _ _ _ _ _ _⟩
 obtain⟨z5,s5⟩:∃z:Int,∀t x y,qx Tryz.prog .shr t x y (.int .u64 z4) (.int .u64 17)=some (.int .u64 z):=⟨_,fun t x y=>jI _ _ _ _ _ _ _ _ qe⟩
 obtain⟨z6,b6,s6⟩:∃z:Int,(0<=z/\z<18446744073709551616)/\∀t x y,qx Tryz.prog .xor t x y (.int .u64 z4) (.int .u64 z5)=some (.int .u64 z):=⟨_,by rw[IntKind.wrap_u64];omega,fun t x y=>xz _ _ _ _ _ _ _⟩
 have m1:max C 1=C:=qe
 have w4:IntKind.u64.wrap C=C:=qu qe qe
 have hm:0<=z6%C/\z6%C<C:=⟨Int.emod_nonneg _ qe,Int.emod_lt_of_pos _ qe⟩
 have s7:∀t x y,qx Tryz.prog .rem t x y (.int .u64 z6) (.int .u64 C)=some (.int .u64 (z6%C)):=by
  intro t x y;rw[zk _ _ _ _ _ _ _ qe,zj b6.1]
 have w5:IntKind.i64.wrap (z6%C)=z6%C:=qm qe qe
 refine⟨(z6%C).toNat,qe,fun R x hp=>?_⟩
 rw[zoh hm.1,E92]
 generalize z6%C=z7 at*
 simp[ql,s1,w1,w2,w3,s2,s3,s4,s5,s6,m1,w4,s7,w5,-Xu,-zm,-yg,-xz]
 simp[w1,w2,w3,s2,s3,s4,s5,s6,w4,s7,w5,-zm,-xz]
noncomputable def Yn(C h r:Int):Nat:=if hh:(1<=C/\C<=256)/\0<=r/\r<=8 then(KK C h r hh.1 hh.2).choose else 0
theorem zge{C h r:Int}(hC:1<=C/\C<=256)(hr:0<=r/\r<=8):(Yn C h r:Int)<C/\∀(R x:AV) hp,run cxX 92 [.agg [R,.sc (.int .i64 C),x],.sc (.int .u64 h),.sc (.int .i64 r)] hp=some (.sc (.int .i64 (Yn C h r:Int)),hp):=by
 unfold Yn
 rw[dif_pos ⟨hC,hr⟩]
 exact(KK C h r hC hr).choose_spec
def kQ:List Int->List Int->List Int
 |[],_=>[]
 |x::a,[]=>x::a
 |x::a,y::b=>zI x y::kQ a b
theorem Xq:∀a b,(kQ a b).length=a.length
 |[],_=>by simp[kQ]
 |x::a,[]=>by simp[kQ]
 |x::a,y::b=>by simp[kQ,Xq a b]
@[simp] theorem zjp : ∀ a, kQ a [] = a
 |[]=>rfl
 |_::_=>rfl
abbrev kY(l:List Int):Prop:=∀n∈l,0<=n/\n<4294967296
theorem qi6{a b:Int}(ha:0<=a/\a<4294967296)(hb:0<=b/\b<4294967296):0<=zI a b/\zI a b<4294967296:=by
 unfold zI;split<;>omega
theorem qad:∀{a b:List Int},kY a->kY b->kY (kQ a b)
 |[],_,_,_=>by simp[kQ,kY]
 |x::a,[],ha,_=>by simpa[kQ]using ha
 |x::a,y::b,ha,hb=>by
  have ih:=qad (a:=a) (b:=b) (fun n hn=>ha n (by simp[hn])) (fun n hn=>hb n (by simp[hn]))
  intro n hn
  rcases zmy.mp hn with rfl|hn
  ·exact qi6 (ha x qg) (hb y qg)
  ·exact ih n hn
noncomputable def Va(C h n:Int)(l:List Int)(r:Nat):List Int:=l.set (r*C.toNat+Yn C h r) (zI (l.getD (r*C.toNat+Yn C h r) 0) n)
noncomputable def Xs(C h n:Int)(l:List Int)(rs:List Nat):List Int:=rs.foldl (Va C h n) l
noncomputable def Zl(R C h n:Int)(l:List Int):List Int:=if Yq R C l=0 then Xs C h n l (List.range' 0 R.toNat)else l
theorem qdm(C h n:Int)(l:List Int)(r:Nat):(Va C h n l r).length=l.length:=by simp[Va]
theorem qdk(C h n:Int):∀(rs:List Nat) (l:List Int),(Xs C h n l rs).length=l.length
 |[],_=>rfl
 |r::rs,l=>by
  show(Xs C h n (Va C h n l r) rs).length=_
  rw[qdk C h n rs,qdm]
theorem qak(R C h n:Int)(l:List Int):(Zl R C h n l).length=l.length:=by
 unfold Zl;split
 ·exact qdk _ _ _ _ _
 ·rfl
theorem qj6{l:List Int}(h:kY l)(i:Nat):0<=l.getD i 0/\l.getD i 0<4294967296:=by
 by_cases hi:i<l.length
 ·have:=h l[i] (znb hi)
  simpa[hi]using this
 ·simp[hi]
theorem qdl{C h n:Int}{l:List Int}{r:Nat}(hl:kY l)(hn:0<=n/\n<4294967296):kY (Va C h n l r):=by
 intro x hx
 rcases zpm hx with hx|rfl
 ·exact hl x hx
 ·exact qi6 (qj6 hl _) hn
theorem qdj{C h n:Int}(hn:0<=n/\n<4294967296):∀(rs:List Nat) {l:List Int},kY l->kY (Xs C h n l rs)
 |[],_,hl=>hl
 |r::rs,l,hl=>qdj hn rs (qdl hl hn)
theorem qaj{R C h n:Int}{l:List Int}(hn:0<=n/\n<4294967296)(hl:kY l):kY (Zl R C h n l):=by
 unfold Zl;split
 ·exact qdj hn _ hl
 ·exact hl
theorem qkk(R C:Int)(q0 q1 q2:AV)(b:Nat)(d:List Int)(hp:Hp)(hb:hp.rd b 0=some (LI .u32 d)):
 B42_9 [q0,q1,q2] [.sc (.int .i64 R),.sc (.int .i64 C),.ms b 0 0 d.length 1] hp=some (Cv R C (S 0 1 (LI .u32 d)),hp.del b):=by
 have f:=QT .u32 d hp b hb
 rw[qlz]
 simp[qr,qo,f]
theorem qdi(R C h n:Int)(q0 q1 q2:AV)(x:AV)(b:Nat)(hR:1<=R/\R<=8)(hC:1<=C/\C<=256)(hn:0<=n/\n<4294967296):∀(m i:Nat) (l:List Int) (hp:Hp),R=(i+m:Nat)->(l.length:Int)=R*C->kY l->hp.rd b 0=some (LI .u32 l)->
 ∃hp',B42_4 (.int .u64 h) (.int .u32 n) (.int .i64 R) (.int .i64 i) [.sc (.int .i64 R),.sc (.int .i64 C),x] [q0,q1,q2] [.sc (.int .i64 R),.sc (.int .i64 C),.ms b 0 0 l.length 1] hp=some (Cv R C (S 0 1 (LI .u32 (Xs C h n l (List.range' i m)))),hp'):=by
 intro m
 induction m with
 |zero=>
  intro i l hp hi hlen hl hb
  have hlt:¬((i:Int)<R):=qe
  refine⟨hp.del b,?_⟩
  rw[ql0]
  simp only[Yo,ZP,hlt,decide_false,jJ,zmw,cond_false]
  exact qkk R C q0 q1 q2 b l hp hb
 |succ m ih=>
  intro i l hp hi hlen hl hb
  have hlt:(i:Int)<R:=qe
  obtain⟨c,rfl⟩:∃c:Nat,C=c:=⟨C.toNat,qe⟩
  obtain⟨pb,pc⟩:=zge (h:=h) (r:=(i:Int)) hC qe
  have hRc:(R*(c:Int))=(((i+(m+1))*c:Nat):Int):=by rw[hi];simp
  have hj:i*c+Yn c h i<l.length:=by
   have e1:(i+(m+1))*c=i*c+c+m*c:=by rw[zpi,zpi];omega
   have e2:l.length=(i+(m+1))*c:=qe
   have e3:Yn c h i<c:=qe
   omega
  have hl2:l.length<=2048:=by have:=qkj hR hC;omega
  have w1:IntKind.i64.wrap ((i:Int)*(c:Int))=((i*c:Nat):Int):=by
   have e:(i:Int)*(c:Int)=((i*c:Nat):Int):=qg
   rw[e,qm qe qe]
  have w2:IntKind.i64.wrap (((i*c:Nat):Int)+(Yn c h i:Int))=((i*c+Yn c h i:Nat):Int):=by rw[qm qe qe];omega
  have w3:IntKind.i64.wrap ((i:Int)+((1:Nat):Int))=((i+1:Nat):Int):=qj
  have ed:Va c h n l i=l.set (i*c+Yn c h i) (zI (l.getD (i*c+Yn c h i) 0) n):=by unfold Va;rw[zm3]
  have ef:Xs c h n l (List.range' i (m+1))=Xs c h n (Va c h n l i) (List.range' (i+1) m):=by rw[List.range'_succ];rfl
  have gs':l[i*c+Yn c h i]?=some (l.getD (i*c+Yn c h i) 0):=by simp[hj]
  have hgd:=qj6 hl (i*c+Yn c h i)
  have hu:=qdl (C:=c) (h:=h) (n:=n) (r:=i) hl hn
  have hcl:=qdm c h n l i
  rw[ed]at hu hcl ef
  rw[ef]
  generalize i*c+Yn c h i=j at*
  generalize l.getD j 0=g at*
  have pl:=fun hp=>yL g n hgd hn hp
  have ix:=zp .i64 hj
  have pt:=xp .u32 l j (zI g n) hj
  obtain⟨hp',hh⟩:=ih (i+1) (l.set j (zI g n)) (hp.put b 0 (LI .u32 (l.set j (zI g n)))) qe (by rw[hcl];exact hlen) hu (qp _ _ _)
  refine⟨hp',?_⟩
  rw[hcl]at hh
  have oa:∀v w,xq [AV.sc v,AV.sc w] []=some ():=fun v w=>by rw[qtj];exact if_pos ⟨qg,qg⟩
  have gn:qr [AV.sc (.int .i64 R),AV.sc (.int .i64 (c:Int)),x] 0 3=some [AV.sc (.int .i64 R),AV.sc (.int .i64 (c:Int)),x]:=rfl
  rw[ql0]
  simp only[Yo,ZP,hlt,decide_true,jJ,zmw,cond_true,ql,zpa,zpq,kT,Xu,w1,gn,zn0,zpn,zic,zib,zle,pc,qz2,yg,w2,qs,zid,vI,ix,QW,Yp,vO,hb,zqf,zm4,qbn?,gs',zpc,oa,pl,pt,zoy,w3]
  exact hh
theorem qyz(R C h n:Int)(l:List Int)(k:Nat)(hn:0<=n/\n<4294967296)(hl:l.length<=1000000)(h32:kY l)(hp:Hp):
 ∃t hp',run cxX 42 [Cv R C (S k 1 (LI .u32 l)),.sc (.int .u64 h),.sc (.int .u32 n)] hp=some (Cv R C (S t 1 (LI .u32 (Zl R C h n l))),hp'):=by
 rw[E42]
 have ck:=fun hp=>Wi R C l (rk k) hl hp
 by_cases hc:Yq R C l=0
 ·have hc':=hc
  unfold Yq at hc'
  split at hc'
  ·cases hc'
  ·split at hc'
   ·cases hc'
   ·rename_i h1 h2
    have hlen:(l.length:Int)=R*C:=qe
    have hne:l≠[]:=by
     intro e
     subst e
     obtain⟨r,rfl⟩:∃r:Nat,R=r:=⟨R.toNat,qe⟩
     obtain⟨c,rfl⟩:∃c:Nat,C=c:=⟨C.toNat,qe⟩
     have e:(r:Int)*(c:Int)=((r*c:Nat):Int):=qg
     rw[e]at hlen
     have:0<r*c:=zrb qe qe
     simp at hlen
     omega
    have n1:=fun k hp=>vS .u32 l k 4 qh hl hne hp
    obtain⟨hp',hh⟩:=qdi R C h n (.sc (.int .i64 0)) (.sc (.int .i64 0)) (S 2 1 []) (S (rk k) 1 (LI .u32 l)) hp.next qe qe hn R.toNat 0 l (hp.new (LI .u32 l)) qe hlen h32 (qR _ _)
    refine⟨0,hp',?_⟩
    have e:Zl R C h n l=Xs C h n l (List.range' 0 R.toNat):=by unfold Zl;rw[if_pos hc]
    simp at hh
    simp[ql,qs,qr,n1,qo,ck,hc,e,hh]
 ·have e:Zl R C h n l=l:=by unfold Zl;rw[if_neg hc]
  by_cases hne:l=[]
  ·subst hne
   have n1:=fun k hp=>qau 4 k hp
   refine⟨0,hp,?_⟩
   have e9:∀(q0 q1 q2:AV),B42_9 [q0,q1,q2] [.sc (.int .i64 R),.sc (.int .i64 C),S 0 1 []] hp=some (Cv R C (S 0 1 []),hp):=by
    intro q0 q1 q2
    rw[qlz]
    simp[qr,qo]
   simp at ck
   simp[ql,qs,qr,n1,qo,ck,hc,e,e9]
  ·have n1:=fun k hp=>vS .u32 l k 4 qh hl hne hp
   have f:=qkk R C (.sc (.int .i64 0)) (.sc (.int .i64 0)) (S 2 1 []) hp.next l (hp.new (LI .u32 l)) (qR _ _)
   refine⟨0,(hp.new (LI .u32 l)).del hp.next,?_⟩
   simp[ql,qs,qr,n1,qo,ck,hc,e,f]
theorem qiq(R C h n:Int)(l:List Int)(b:Nat)(hn:0<=n/\n<4294967296)(hl:l.length<=1000000)(h32:kY l)(hc:Yq R C l=0)(hp:Hp)(hb:hp.rd b 0=some (LI .u32 l)):
 ∃t hp',run cxX 42 [Cv R C (.ms b 0 0 l.length 1),.sc (.int .u64 h),.sc (.int .u32 n)] hp=some (Cv R C (S t 1 (LI .u32 (Zl R C h n l))),hp'):=by
 rw[E42]
 have ck:=fun hp=>qbh R C l b hl hp
 have hc':=hc
 unfold Yq at hc'
 split at hc'
 ·cases hc'
 ·split at hc'
  ·cases hc'
  ·rename_i h1 h2
   have hlen:(l.length:Int)=R*C:=qe
   have hne:l≠[]:=by
    intro e
    subst e
    obtain⟨r,rfl⟩:∃r:Nat,R=r:=⟨R.toNat,qe⟩
    obtain⟨c,rfl⟩:∃c:Nat,C=c:=⟨C.toNat,qe⟩
    have e:(r:Int)*(c:Int)=((r*c:Nat):Int):=qg
    rw[e]at hlen
    have:0<r*c:=zrb qe qe
    simp at hlen
    omega
   have n1:=Ve .u32 l (.ms b 0 0 l.length 1) 4 qh hl hne hp (qhu .u32 l hp b hb)
   obtain⟨hp',hh⟩:=qdi R C h n (.sc (.int .i64 0)) (.sc (.int .i64 0)) (S 2 1 []) (.ms b 0 0 l.length 1) hp.next qe qe hn R.toNat 0 l (hp.new (LI .u32 l)) qe hlen h32 (qR _ _)
   refine⟨0,hp',?_⟩
   have e:Zl R C h n l=Xs C h n l (List.range' 0 R.toNat):=by unfold Zl;rw[if_pos hc]
   simp at hh
   simp[ql,qs,qr,n1,qo,ck,hc,e,hh]
noncomputable def xy(R C:Int)(a:List Int)(l:List (Int×Int)):List Int:=l.foldl (fun a p=>Zl R C p.1 p.2 a) a
theorem qdg(R C:Int):∀(l:List (Int×Int)) (a:List Int),(xy R C a l).length=a.length
 |[],_=>rfl
 |p::l,a=>by
  show(xy R C (Zl R C p.1 p.2 a) l).length=_
  rw[qdg R C l,qak]
theorem qdf(R C:Int):∀{l:List (Int×Int)} {a:List Int},kY a->(∀p∈l,0<=p.2/\p.2<4294967296)->kY (xy R C a l)
 |[],_,h,_=>h
 |p::l,a,h,hl=>qdf R C (l:=l) (qaj (hl p qg) h) (fun q hq=>hl q (by simp[hq]))
theorem zbu(R C:Int)(q0 q1 q2:AV)(l:List (Int×Int))(k:Nat)(hl:l.length<=1000000)(h32:∀p∈l,0<=p.2/\p.2<4294967296):∀(r:List (Int×Int)) (i t:Nat) (a:List Int) (hp:Hp),l.drop i=r->a.length<=1000000->kY a->
 ∃t' hp',B35_3 (S k 2 (LQ .u64 .u32 l)) (.int .i64 l.length) (.int .i64 i) [q0,q1,q2] [.sc (.int .i64 R),.sc (.int .i64 C),S t 1 (LI .u32 a)] hp=some (Cv R C (S t' 1 (LI .u32 (xy R C a r))),hp'):=by
 intro r
 induction r with
 |nil=>
  intro i t a hp hr ha hu
  have:=qK hr
  have hlt:¬((i:Int)<(l.length:Int)):=qe
  refine⟨rk t,hp,?_⟩
  rw[XE]
  simp[hlt,qr,qo,xy]
 |cons x r ih=>
  intro i t a hp hr ha hu
  obtain⟨e1,e2,hi,e3⟩:=qt hr
  have hx:=h32 x (zm6 e1)
  have hw:IntKind.i64.wrap ((i:Int)+1)=((i+1:Nat):Int):=qj
  obtain⟨t1,hp1,ha1⟩:=qyz R C x.1 x.2 a (rk t) hx ha hu hp
  obtain⟨t',hp',h⟩:=ih (i+1) t1 (Zl R C x.1 x.2 a) hp1 e2 (by rw[qak];exact ha) (qaj hx hu)
  refine⟨t',hp',?_⟩
  have ix:=zat .u64 .u32 k e1
  rw[XE]
  simp at h hw
  have ef:xy R C a (x::r)=xy R C (Zl R C x.1 x.2 a) r:=rfl
  simp[hi,ix,ql,qr,qo,ha1,hw,h,ef]
theorem zd6(a b:Int)(l:List (Int×Int))(k:Nat)(ha:0<=a/\a<256)(hb:0<=b/\b<256)(hl:l.length<=1000000)(h32:∀p∈l,0<=p.2/\p.2<4294967296)(hp:Hp):
 ∃t hp',run cxX 35 [.sc (.int .u8 a),.sc (.int .u8 b),S k 2 (LQ .u64 .u32 l)] hp=some (Cv (1+a%8) (1+b%40) (S t 1 (LI .u32 (xy (1+a%8) (1+b%40) (List.replicate ((1+a%8)*(1+b%40)).toNat 0) l))),hp'):=by
 have h1:∀t x y,qx Tryz.prog .rem t x y (.int .u8 a) (.int .u8 8)=some (.int .u8 (a%8)):=by
  intro t x y;rw[zk _ _ _ _ _ _ _ qe,zj ha.1]
 have h2:∀t x y,qx Tryz.prog .rem t x y (.int .u8 b) (.int .u8 40)=some (.int .u8 (b%40)):=by
  intro t x y;rw[zk _ _ _ _ _ _ _ qe,zj hb.1]
 have w1:IntKind.i64.wrap (a%8)=a%8:=qm qe qe
 have w2:IntKind.i64.wrap (1+a%8)=1+a%8:=qm qe qe
 have w3:IntKind.i64.wrap (b%40)=b%40:=qm qe qe
 have w4:IntKind.i64.wrap (1+b%40)=1+b%40:=qm qe qe
 have nw:=fun hp=>qip (1+a%8) (1+b%40) qe qe hp
 have m:=qkj (R:=1+a%8) (C:=1+b%40) qe qe
 obtain⟨R,hR⟩:∃R,R=1+a%8:=⟨_,rfl⟩
 obtain⟨C,hC⟩:∃C,C=1+b%40:=⟨_,rfl⟩
 rw[<-hR]at nw m w2⊢
 rw[<-hC]at nw m w4⊢
 obtain⟨z,hz⟩:∃z,z=List.replicate (R*C).toNat (0:Int):=⟨_,rfl⟩
 have zl:z.length=(R*C).toNat:=by rw[hz];simp
 have zu:kY z:=fun n hn=>by rw[hz]at hn;have:=zot hn;omega
 have zc:Yq R C z=0:=by unfold Yq;rw[if_neg qe,if_neg (by rw[zl];omega)]
 rw[<-hz]at nw⊢
 rw[<-zl]at nw
 have ln:=zis .u64 .u32
 have key:∃t hp',B35_3 (S (rk k) 2 (LQ .u64 .u32 l)) (.int .i64 l.length) (.int .i64 (0:Nat)) [.sc (.int .i64 0),.sc (.int .i64 0),S 2 1 []] [.sc (.int .i64 R),.sc (.int .i64 C),.ms hp.next 0 0 z.length 1] (hp.new (LI .u32 z))=some (Cv R C (S t 1 (LI .u32 (xy R C z l))),hp'):=by
  cases l with
  |nil=>
   have f:=QT .u32 z (hp.new (LI .u32 z)) hp.next (qR _ _)
   refine⟨0,(hp.new (LI .u32 z)).del hp.next,?_⟩
   rw[XE]
   simp[qo,qr,f,xy]
  |cons x r=>
   have hx:=h32 x qg
   have ix:=zat (l:=x::r) (i:=0) (p:=x) .u64 .u32 (rk k) rfl
   obtain⟨t1,hp1,ha1⟩:=qiq R C x.1 x.2 z hp.next hx (by rw[zl];omega) zu zc (hp.new (LI .u32 z)) (qR _ _)
   obtain⟨t,hp2,h⟩:=zbu R C (.sc (.int .i64 0)) (.sc (.int .i64 0)) (S 2 1 []) (x::r) (rk k) hl h32 r 1 t1 (Zl R C x.1 x.2 z) hp1 rfl (by rw[qak,zl];omega) (qaj hx zu)
   refine⟨t,hp2,?_⟩
   have hw:IntKind.i64.wrap (((0:Nat):Int)+1)=((1:Nat):Int):=rfl
   have hlt:((0:Nat):Int)<((x::r).length:Int):=qg
   have ef:xy R C z (x::r)=xy R C (Zl R C x.1 x.2 z) r:=rfl
   have gn:qr [AV.sc (.int .i64 R),AV.sc (.int .i64 C),.ms hp.next 0 0 z.length 1] 0 3=some [AV.sc (.int .i64 R),AV.sc (.int .i64 C),.ms hp.next 0 0 z.length 1]:=rfl
   generalize(x::r).length=n at*
   generalize LQ .u64 .u32 (x::r)=q at*
   have hn:0<n:=by simpa using hlt
   rw[XE]
   simp at ix h
   simp[hn,ix,ql,qr,qo,ha1,ef,h]
 obtain⟨t,hp',h⟩:=key
 refine⟨t,hp',?_⟩
 rw[E35]
 simp at h
 simp[h1,h2,w1,w2,w3,w4,<-hR,<-hC,nw,qo,ln,h]
structure GN where
 M:Int
 e0:Int
 e1:Int
 e2:Int
 e3:Int
 e4:Int
 e5:Int
 lo:Nat
 hi:Nat
 L:List Nat
deriving DecidableEq
def Gs.nf(g:Gs):GN:=⟨g.M,g.e0,g.e1,g.e2,g.e3,g.e4,g.e5,kw g.lo,kw g.hi,g.L.map kw⟩
structure Gs.W (g : Gs) : Prop where
 M:zw g.M
 e0:zw g.e0
 e1:zw g.e1
 e2:zw g.e2
 e3:zw g.e3
 e4:zw g.e4
 e5:zw g.e5
 lo:g.lo<18446744073709551616
 hi:g.hi<18446744073709551616
 L:Ws g.L
 len:g.L.length<=100000
theorem qj2(K K':Int)(g o:Gs):qk8 K K' g o↔K=K'/\g.nf=o.nf:=by
 unfold qk8 Gs.nf
 simp only[GN.mk.injEq]
 constructor
 ·rintro⟨h1,h2,⟨h3,h4,h5,h6,h7,h8⟩,h9,h10,h11⟩
  exact⟨h1,h2,h3,h4,h5,h6,h7,h8,h9,h10,h11⟩
 ·rintro⟨h1,h2,h3,h4,h5,h6,h7,h8,h9,h10,h11⟩
  exact⟨h1,h2,⟨h3,h4,h5,h6,h7,h8⟩,h9,h10,h11⟩
theorem qm3(K K':Int)(g o:Gs)(k k':Nat)(hg:g.W)(ho:o.W)(hp:Hp):run cxX 136 [g.av K k,o.av K' k'] hp=some (.sc (.bool (decide (K=K'/\g.nf=o.nf))),hp):=by
 by_cases h:qk8 K K' g o
 ·rw[qsf K K' g o k k' h ⟨hg.lo,ho.lo⟩ ⟨hg.hi,ho.hi⟩ ⟨hg.L,ho.L⟩ (by have:=hg.len;omega) hp,decide_eq_true ((qj2 K K' g o).mp h)]
 ·have hd:decide (K=K'/\g.nf=o.nf)=false:=decide_eq_false (fun h'=>h ((qj2 K K' g o).mpr h'))
  rw[hd,E136]
  have b2:B136_2 hp=some (.sc (.bool false),hp):=qww hp
  have r1:=fun hp=>wX g.lo o.lo hg.lo ho.lo hp
  have r2:=fun hp=>wX g.hi o.hi hg.hi ho.hi hp
  have a:=fun x y=>zg7 x y g.e0 g.e1 g.e2 g.e3 g.e4 g.e5 o.e0 o.e1 o.e2 o.e3 o.e4 o.e5
  by_cases q1:K=K'
  ·by_cases q2:g.M=o.M
   ·by_cases q3:(g.e0=o.e0/\g.e1=o.e1/\g.e2=o.e2/\g.e3=o.e3/\g.e4=o.e4/\g.e5=o.e5)
    ·simp only[eq_true q3,decide_true,Bool.not_true]at a
     by_cases q4:kw g.lo=kw o.lo
     ·by_cases q5:kw g.hi=kw o.hi
      ·by_cases q6:g.L.length=o.L.length
       ·have l:=WN (.sc (.int .i64 K)) (.sc (.int .u32 g.M)) (.sc (.int .u32 g.e0)) (.sc (.int .u32 g.e1)) (.sc (.int .u32 g.e2)) (.sc (.int .u32 g.e3)) (.sc (.int .u32 g.e4)) (.sc (.int .u32 g.e5)) (fl g.lo) (fl g.hi)
         (.sc (.int .i64 K')) (.sc (.int .u32 o.M)) (.sc (.int .u32 o.e0)) (.sc (.int .u32 o.e1)) (.sc (.int .u32 o.e2)) (.sc (.int .u32 o.e3)) (.sc (.int .u32 o.e4)) (.sc (.int .u32 o.e5)) (fl o.lo) (fl o.hi) g.L o.L (rk k) (rk k') q6 (by have:=hg.len;omega) hg.L ho.L hp g.L o.L 0 rfl rfl
        have q7:¬(g.L.map kw=o.L.map kw):=fun e=>h ⟨q1,q2,q3,q4,q5,e⟩
        simp only[eq_false q7,decide_false]at l
        subst q1
        simp at l
        rw[q6,q2]at l
        simp[ql,qs,qr,xG,wD,q2,a,r1,r2,q4,q5,q6,qe6]
        exact l
       ·have q6':¬((g.L.length:Int)=(o.L.length:Int)):=qe
        simp[ql,qs,qr,xG,wD,q1,q2,a,r1,r2,q4,q5,q6',b2]
      ·simp[ql,qs,qr,xG,wD,q1,q2,a,r1,r2,q4,q5,b2]
     ·simp[ql,qs,qr,xG,wD,q1,q2,a,r1,q4,b2]
    ·simp only[eq_false q3,decide_false,Bool.not_false]at a
     simp[ql,qs,qr,xG,wD,q1,q2,a,b2]
   ·simp[ql,q1,q2,b2]
  ·simp[ql,q1,b2]
def JB:List Nat->Int
 |[]=>0
 |[_]=>0
 |x::y::r=>if y<x then 8 else JB (y::r)
def nanK:Nat:=18444492273895866369
def qq0(g:GN):Int:=if g.lo=nanK\/g.hi=nanK then 4 else 0
def Yi(K:Int)(g:GN):Int:=if K<1\/16<K\/K<(g.L.length:Int)then 2 else if JB g.L=0 then qq0 g else 8
theorem qpr:∀{l:List Nat},Up l->JB l=0
 |[],_=>rfl
 |[_],_=>rfl
 |x::y::r,h=>by
  have h':=zm1.mp h
  have hxy:=h'.1 y qg
  show(if y<x then(8:Int)else JB (y::r))=0
  rw[if_neg qe]
  exact qpr h'.2
theorem qp7:∀{l:List Nat},JB l=0->Up l
 |[],_=>List.Pairwise.nil
 |[_],_=>by simp
 |x::y::r,h=>by
  have h:(if y<x then(8:Int)else JB (y::r))=0:=h
  split at h
  ·cases h
  ·rename_i hxy
   have ih:=qp7 h
   have ih':=zm1.mp ih
   refine zm1.mpr ⟨fun n hn=>?_,ih⟩
   rcases zmy.mp hn with rfl|hn
   ·omega
   ·have:=ih'.1 n hn;omega
theorem qg0{w:Nat}(h:w<18446744073709551616):yQ w↔kw w=nanK:=by
 constructor
 ·intro hn;exact zit hn
 ·intro he
  by_cases hn:yQ w
  ·exact hn
  ·have:=qty h hn
   rw[he]at this
   exact absurd this qh
theorem qj7(K:Int)(g:Gs)(k:Nat)(hg:g.W)(hp:Hp):∀(r:List Nat) (p:Option Nat) (i:Nat),g.L.drop i=r->(p=none↔i=0)->(∀q,p=some q->g.L[i-1]?=some q)->
 B89_4 (S k 1 (LF g.L)) (.int .i64 g.L.length) (.int .i64 i) [.sc (.int .i64 K),.sc (.int .u32 g.M),.sc (.int .u32 g.e0),.sc (.int .u32 g.e1),.sc (.int .u32 g.e2),.sc (.int .u32 g.e3),.sc (.int .u32 g.e4),.sc (.int .u32 g.e5),fl g.lo,fl g.hi,S k 1 (LF g.L)] hp=
  some (.sc (.int .i64 (if JB (p.toList.map kw++r.map kw)=0 then qq0 g.nf else 8)),hp):=by
 intro r
 induction r with
 |nil=>
  intro p i hr hp0 hps
  have:=qK hr
  have hlt:¬((i:Int)<(g.L.length:Int)):=qe
  have ho:JB (p.toList.map kw++([]:List Nat).map kw)=0:=by cases p<;>rfl
  have n1:=qg0 hg.lo
  have n2:=qg0 hg.hi
  rw[if_pos ho,qld]
  unfold qq0 Gs.nf
  by_cases h1:yQ g.lo
  ·have h1':=n1.mp h1
   simp[hlt,ql,jw,h1,h1',qdr]
  ·have h1':¬(kw g.lo=nanK):=fun e=>h1 (n1.mpr e)
   by_cases h2:yQ g.hi
   ·have h2':=n2.mp h2
    simp[hlt,ql,jw,h1,h2,h2',qdr]
   ·have h2':¬(kw g.hi=nanK):=fun e=>h2 (n2.mpr e)
    simp[hlt,ql,jw,h1,h2,h1',h2',qu5]
 |cons x r ih=>
  intro p i hr hp0 hps
  obtain⟨e1,e2,hi,e3⟩:=qt hr
  have hx:=hg.L x (zm6 e1)
  have hln:=hg.len
  have hw:IntKind.i64.wrap ((i:Int)+1)=((i+1:Nat):Int):=qj
  have h:=ih (some x) (i+1) e2 qg (fun q hq=>by simp at hq;subst hq;simpa using e1)
  have g1:(LF g.L)[i]?=some (fl x):=by simp[LF,e1]
  rw[qld]
  cases p with
  |none=>
   obtain rfl:i=0:=hp0.mp rfl
   simp at g1 h hw
   simp[hi,ql,g1,hw,h,qlc]
  |some q=>
   have hi0:i≠0:=fun e=>by have:=hp0.mpr e;cases this
   have hq:=hps q rfl
   have hq64:=hg.L q (zm6 hq)
   have hpos:0<i:=qe
   simp at h hw
   have w1:IntKind.i64.wrap ((i:Int)-1)=((i-1:Nat):Int):=qj
   have g2:(LF g.L)[i-1]?=some (fl q):=by simp[LF,hq]
   have ls:=fun hp=>YH x q hx hq64 hp
   by_cases hl:kw x<kw q
   ·simp[hi,e3,ql,qs,g1,hpos,w1,g2,ls,hl,zcc,JB]
   ·simp[hi,e3,ql,qs,g1,hpos,w1,g2,ls,hl,hw,h,qlc,JB]
theorem qm5(K:Int)(g:Gs)(k:Nat)(hg:g.W)(hp:Hp):run cxX 89 [g.av K k] hp=some (.sc (.int .i64 (Yi K g.nf)),hp):=by
 rw[E89]
 have b2:B89_2 hp=some (.sc (.int .i64 2),hp):=by rw[zce];simp
 have hl:g.nf.L.length=g.L.length:=by simp[Gs.nf]
 unfold Yi
 rw[hl]
 by_cases h1:K<1
 ·simp[ql,h1,b2]
 ·by_cases h2:16<K
  ·simp[ql,h1,h2,b2]
  ·by_cases h3:K<(g.L.length:Int)
   ·simp[ql,qs,h1,h2,h3,b2]
   ·have l:=qj7 K g (rk k) hg hp g.L none 0 rfl qg qg
    have e:g.nf.L=g.L.map kw:=rfl
    simp at l
    simp[ql,qs,h1,h2,h3,zcd,l,e]
def kE(K:Int)(g o:GN):GN:=⟨zI g.M o.M,zI g.e0 o.e0,zI g.e1 o.e1,zI g.e2 o.e2,zI g.e3 o.e3,zI g.e4 o.e4,zI g.e5 o.e5,min g.lo o.lo,max g.hi o.hi,(mk g.L o.L).take K.toNat⟩
theorem yb{a b:Int}(ha:zw a)(hb:zw b):zw (zI a b):=by
 unfold zw at *;unfold zI;split<;>omega
theorem qoh(K:Int)(g o:Gs):(gmg K g o).nf=kE K g.nf o.nf:=by
 simp only[Gs.nf,gmg,kE,qqp,qqq,<-qqx _ _ _ rfl,zqh]
theorem za1{K:Int}{g o:Gs}(hK:K<=100000)(hg:g.W)(ho:o.W):(gmg K g o).W where
 M:=yb hg.M ho.M
 e0:=yb hg.e0 ho.e0
 e1:=yb hg.e1 ho.e1
 e2:=yb hg.e2 ho.e2
 e3:=yb hg.e3 ho.e3
 e4:=yb hg.e4 ho.e4
 e5:=yb hg.e5 ho.e5
 lo:=qq3 hg.lo ho.lo
 hi:=qq4 hg.hi ho.hi
 L:=fun w hw=>by
  rcases zad w _ _ _ rfl (zof hw)with h|h
  ·exact hg.L w h
  ·exact ho.L w h
 len:=by
  show((gm g.L o.L).take K.toNat).length<=100000
  rw[zny];omega
theorem VC{K:Int}{g:GN}:Yi K g=0↔(1<=K/\K<=16)/\(g.L.length:Int)<=K/\Up g.L/\g.lo≠nanK/\g.hi≠nanK:=by
 unfold Yi qq0
 constructor
 ·intro h
  split at h
  ·cases h
  ·split at h
   ·split at h
    ·cases h
    ·rename_i h1 h2 h3
     exact⟨qe,qe,qp7 h2,fun e=>h3 (.inl e),fun e=>h3 (.inr e)⟩
   ·cases h
 ·rintro⟨h1,h2,h3,h4,h5⟩
  rw[if_neg qe,if_pos (qpr h3),if_neg (fun e=>e.elim h4 h5)]
theorem WS{K:Int}{g o:GN}(hg:Yi K g=0)(ho:Yi K o=0):Yi K (kE K g o)=0:=by
 rw[VC]at*
 obtain⟨h1,h2,h3,h4,h5⟩:=hg
 obtain⟨f1,f2,f3,f4,f5⟩:=ho
 refine⟨h1,?_,?_,?_,?_⟩
 ·simp only[kE,zny];omega
 ·exact List.Pairwise.sublist (zqq _ _) (zab _ _ h3 f3)
 ·show min g.lo o.lo≠nanK;omega
 ·show max g.hi o.hi≠nanK;omega
def GN.Pos(g:GN):Prop:=zw g.M/\zw g.e0/\zw g.e1/\zw g.e2/\zw g.e3/\zw g.e4/\zw g.e5
theorem Gs.W.pos{g:Gs}(h:g.W):g.nf.Pos:=⟨h.M,h.e0,h.e1,h.e2,h.e3,h.e4,h.e5⟩
theorem za2{K:Int}{g o:GN}(hg:g.Pos)(ho:o.Pos):(kE K g o).Pos:=by
 obtain⟨h1,h2,h3,h4,h5,h6,h7⟩:=hg
 obtain⟨f1,f2,f3,f4,f5,f6,f7⟩:=ho
 exact⟨yb h1 f1,yb h2 f2,yb h3 f3,yb h4 f4,yb h5 f5,yb h6 f6,yb h7 f7⟩
theorem in0:zw 0:=⟨qh,qh⟩
theorem za0:gnew.W:=⟨in0,in0,in0,in0,in0,in0,in0,qh,qh,by simp[gnew,Ws],qh⟩
structure SkN where
 kind:Int
 set:List Int
 K:Int
 hs:List Int
 P:Int
 rg:List Int
 B:Int
 H:Int
 bs:List Int
 R:Int
 C:Int
 cs:List Int
 gK:Int
 g:GN
deriving DecidableEq
def gz:Gs:=⟨0,0,0,0,0,0,0,0,0,[]⟩
theorem kN:gz.W:=⟨in0,in0,in0,in0,in0,in0,in0,qh,qh,by simp[gz,Ws],qh⟩
def skZ:SkN:=⟨0,[],0,[],0,[],0,0,[],0,0,[],0,gz.nf⟩
def Qx(x:SkN)(g:Gs)(a b c d e f:Nat):AV:=.agg [.sc (.int .u8 x.kind),S a 1 (LI .u32 x.set),.sc (.int .i64 x.K),S b 1 (LI .u64 x.hs),.sc (.int .i64 x.P),S c 1 (LI .u8 x.rg),.sc (.int .i64 x.B),.sc (.int .i64 x.H),S d 1 (LI .u32 x.bs),.sc (.int .i64 x.R),.sc (.int .i64 x.C),S e 1 (LI .u32 x.cs),
 .sc (.int .i64 x.gK),.sc (.int .u32 g.M),.sc (.int .u32 g.e0),.sc (.int .u32 g.e1),.sc (.int .u32 g.e2),.sc (.int .u32 g.e3),.sc (.int .u32 g.e4),.sc (.int .u32 g.e5),fl g.lo,fl g.hi,S f 1 (LF g.L)]
def jU(x:SkN)(v:AV):Prop:=∃g a b c d e f,g.W/\g.nf=x.g/\v=Qx x g a b c d e f
structure SkN.W (x : SkN) : Prop where
 kind:0<=x.kind/\x.kind<256
 set:kY x.set
 setL:x.set.length<=100000
 hsL:x.hs.length<=100000
 rg:∀n∈x.rg,0<=n/\n<256
 rgL:x.rg.length<=100000
 bs:kY x.bs
 bsL:x.bs.length<=100000
 cs:kY x.cs
 csL:x.cs.length<=100000
theorem qpw:skZ.W:=⟨qh,by simp[skZ,kY],qh,qh,by simp[skZ],qh,by simp[skZ,kY],qh,by simp[skZ,kY],qh⟩
def Vh(x y:SkN):Prop:=x.kind=y.kind/\x.set=y.set/\(x.K=y.K/\x.hs=y.hs)/\(x.P=y.P/\x.rg=y.rg)/\(x.B=y.B/\x.H=y.H/\x.bs=y.bs)/\(x.R=y.R/\x.C=y.C/\x.cs=y.cs)/\x.gK=y.gK/\x.g=y.g
instance (x y : SkN) : Decidable (Vh x y) := by unfold Vh; infer_instance
theorem qx3(x y:SkN):Vh x y↔x=y:=by
 cases x;cases y
 simp only[Vh,SkN.mk.injEq]
 constructor
 ·rintro⟨h1,h2,⟨h3,h4⟩,⟨h5,h6⟩,⟨h7,h8,h9⟩,⟨h10,h11,h12⟩,h13,h14⟩
  exact⟨h1,h2,h3,h4,h5,h6,h7,h8,h9,h10,h11,h12,h13,h14⟩
 ·rintro⟨h1,h2,h3,h4,h5,h6,h7,h8,h9,h10,h11,h12,h13,h14⟩
  exact⟨h1,h2,⟨h3,h4⟩,⟨h5,h6⟩,⟨h7,h8,h9⟩,⟨h10,h11,h12⟩,h13,h14⟩
theorem qmq{x y:SkN}{v u:AV}(hv:jU x v)(hu:jU y u)(wx:x.W)(wy:y.W)(hp:Hp):run cxX 68 [v,u] hp=some (.sc (.bool (decide (x=y))),hp):=by
 obtain⟨g,a,b,c,d,e,f,gw,gn,rfl⟩:=hv
 obtain⟨g',a',b',c',d',e',f',gw',gn',rfl⟩:=hu
 have hd:decide (x=y)=decide (Vh x y):=decide_eq_decide.mpr (qx3 x y).symm
 have r1:=fun k k' hp=>qr3 x.set y.set k k' hp (by have:=wx.setL;omega)
 have r2:=fun k k' hp=>qsd x.K y.K x.hs y.hs k k' hp (by have:=wx.hsL;omega) (by have:=wy.hsL;omega)
 have r3:=fun k k' hp=>qse x.P y.P x.rg y.rg k k' wx.rg wy.rg hp
 have r4:=fun k k' hp=>qyb x.B x.H y.B y.H x.bs y.bs k k' hp (by have:=wx.bsL;omega) (by have:=wy.bsL;omega)
 have r5:=fun k k' hp=>qsk x.R x.C y.R y.C x.cs y.cs k k' hp (by have:=wx.csL;omega)
 have r6:=fun k k' hp=>qm3 x.gK y.gK g g' k k' gw gw' hp
 rw[hd,E68]
 unfold Qx
 by_cases h1:x.kind=y.kind
 ·by_cases h2:x.set=y.set
  ·simp only[eq_true h2,decide_true]at r1
   by_cases h3:x.K=y.K/\x.hs=y.hs
   ·simp only[eq_true h3,decide_true]at r2
    by_cases h4:x.P=y.P/\x.rg=y.rg
    ·simp only[eq_true h4,decide_true]at r3
     by_cases h5:x.B=y.B/\x.H=y.H/\x.bs=y.bs
     ·simp only[eq_true h5,decide_true]at r4
      by_cases h6:x.R=y.R/\x.C=y.C/\x.cs=y.cs
      ·simp only[eq_true h6,decide_true]at r5
       have e:decide (Vh x y)=decide (x.gK=y.gK/\x.g=y.g):=decide_eq_decide.mpr ⟨fun h=>h.2.2.2.2.2.2,fun h=>⟨h1,h2,h3,h4,h5,h6,h⟩⟩
       rw[gn,gn']at r6
       rw[e]
       simp[ql,qs,qr,eq_true h1,r1,r2,r3,r4,r5,r6]
      ·simp only[eq_false h6,decide_false]at r5
       rw[decide_eq_false (fun h:Vh x y=>h6 h.2.2.2.2.2.1)]
       simp[ql,qs,qr,eq_true h1,r1,r2,r3,r4,r5]
     ·simp only[eq_false h5,decide_false]at r4
      rw[decide_eq_false (fun h:Vh x y=>h5 h.2.2.2.2.1)]
      simp[ql,qs,qr,eq_true h1,r1,r2,r3,r4]
    ·simp only[eq_false h4,decide_false]at r3
     rw[decide_eq_false (fun h:Vh x y=>h4 h.2.2.2.1)]
     simp[ql,qs,qr,eq_true h1,r1,r2,r3]
   ·simp only[eq_false h3,decide_false]at r2
    rw[decide_eq_false (fun h:Vh x y=>h3 h.2.2.1)]
    simp[ql,qs,qr,eq_true h1,r1,r2]
  ·simp only[eq_false h2,decide_false]at r1
   rw[decide_eq_false (fun h:Vh x y=>h2 h.2.1)]
   simp[ql,qs,eq_true h1,r1]
 ·rw[decide_eq_false (fun h:Vh x y=>h1 h.1)]
  simp[ql,h1]
def jM(x:SkN):SkN:=
 if x.kind=0 then{skZ with kind:=x.kind,set:=x.set}
 else if x.kind=1 then{skZ with kind:=x.kind,K:=x.K,hs:=x.hs}
 else if x.kind=2 then{skZ with kind:=x.kind,P:=x.P,rg:=x.rg}
 else if x.kind=3 then{skZ with kind:=x.kind,B:=x.B,H:=x.H,bs:=x.bs}
 else if x.kind=4 then{skZ with kind:=x.kind,R:=x.R,C:=x.C,cs:=x.cs}
 else if x.kind=5 then{skZ with kind:=x.kind,gK:=x.gK,g:=x.g}
 else{skZ with kind:=x.kind}
theorem ze6{x:SkN}(h:x.W):(jM x).W:=by
 have z:=qpw
 unfold jM
 repeat' split
 ·exact⟨h.kind,h.set,h.setL,z.hsL,z.rg,z.rgL,z.bs,z.bsL,z.cs,z.csL⟩
 ·exact⟨h.kind,z.set,z.setL,h.hsL,z.rg,z.rgL,z.bs,z.bsL,z.cs,z.csL⟩
 ·exact⟨h.kind,z.set,z.setL,z.hsL,h.rg,h.rgL,z.bs,z.bsL,z.cs,z.csL⟩
 ·exact⟨h.kind,z.set,z.setL,z.hsL,z.rg,z.rgL,h.bs,h.bsL,z.cs,z.csL⟩
 ·exact⟨h.kind,z.set,z.setL,z.hsL,z.rg,z.rgL,z.bs,z.bsL,h.cs,h.csL⟩
 ·exact⟨h.kind,z.set,z.setL,z.hsL,z.rg,z.rgL,z.bs,z.bsL,z.cs,z.csL⟩
 ·exact⟨h.kind,z.set,z.setL,z.hsL,z.rg,z.rgL,z.bs,z.bsL,z.cs,z.csL⟩
theorem qmr{x:SkN}{v:AV}(hv:jU x v)(hp:Hp):∃r,jU (jM x) r/\run cxX 83 [v] hp=some (r,hp):=by
 obtain⟨g,a,b,c,d,e,f,gw,gn,rfl⟩:=hv
 rw[E83]
 unfold jM
 by_cases h0:x.kind=0
 ·rw[if_pos h0]
  refine⟨Qx {skZ with kind:=x.kind,set:=x.set} gz (rk a) 2 2 2 2 2,⟨gz,_,_,_,_,_,_,kN,rfl,rfl⟩,?_⟩
  simp[Qx,skZ,gz,LF,ql,qs,qr,qo,h0,xT]
 ·rw[if_neg h0]
  by_cases h1:x.kind=1
  ·rw[if_pos h1]
   refine⟨Qx {skZ with kind:=x.kind,K:=x.K,hs:=x.hs} gz 2 (rk b) 2 2 2 2,⟨gz,_,_,_,_,_,_,kN,rfl,rfl⟩,?_⟩
   simp[Qx,skZ,gz,LF,ql,qs,qr,qo,h1,xT]
  ·rw[if_neg h1]
   by_cases h2:x.kind=2
   ·rw[if_pos h2]
    refine⟨Qx {skZ with kind:=x.kind,P:=x.P,rg:=x.rg} gz 2 2 (rk c) 2 2 2,⟨gz,_,_,_,_,_,_,kN,rfl,rfl⟩,?_⟩
    simp[Qx,skZ,gz,LF,ql,qs,qr,qo,h2,xT]
   ·rw[if_neg h2]
    by_cases h3:x.kind=3
    ·rw[if_pos h3]
     refine⟨Qx {skZ with kind:=x.kind,B:=x.B,H:=x.H,bs:=x.bs} gz 2 2 2 (rk d) 2 2,⟨gz,_,_,_,_,_,_,kN,rfl,rfl⟩,?_⟩
     simp[Qx,skZ,gz,LF,ql,qs,qr,qo,h3,xT]
    ·rw[if_neg h3]
     by_cases h4:x.kind=4
     ·rw[if_pos h4]
      refine⟨Qx {skZ with kind:=x.kind,R:=x.R,C:=x.C,cs:=x.cs} gz 2 2 2 2 (rk e) 2,⟨gz,_,_,_,_,_,_,kN,rfl,rfl⟩,?_⟩
      simp[Qx,skZ,gz,LF,ql,qs,qr,qo,h4,xT]
     ·rw[if_neg h4]
      by_cases h5:x.kind=5
      ·rw[if_pos h5]
       refine⟨Qx {skZ with kind:=x.kind,gK:=x.gK,g:=x.g} g 2 2 2 2 2 (rk f),⟨g,_,_,_,_,_,_,gw,gn,rfl⟩,?_⟩
       simp[Qx,skZ,gz,LF,ql,qs,qr,qo,h5,xT]
      ·rw[if_neg h5]
       refine⟨Qx {skZ with kind:=x.kind} gz 2 2 2 2 2 2,⟨gz,_,_,_,_,_,_,kN,rfl,rfl⟩,?_⟩
       simp[Qx,skZ,gz,LF,ql,qs,qr,qo,h0,h1,h2,h3,h4,h5,xT]
def xM(x:SkN):Int:=
 if 6<=x.kind then 5 else if x≠jM x then 4
 else if x.kind=0 then qhx x.set else if x.kind=1 then qt0 x.K x.hs else if x.kind=2 then qt3 x.P x.rg else if x.kind=3 then qat x.B x.H x.bs else if x.kind=4 then Yq x.R x.C x.cs else Yi x.gK x.g
theorem zL{x:SkN}{g:Gs}(gw:g.W)(gn:g.nf=x.g)(a b c d e f:Nat):jU x (Qx x g a b c d e f):=⟨g,a,b,c,d,e,f,gw,gn,rfl⟩
theorem jU.vl{x:SkN}{v:AV}(h:jU x v):vlF v=true/\vlV v=true:=by
 obtain⟨g,a,b,c,d,e,f,gw,gn,rfl⟩:=h
 unfold Qx
 constructor<;>simp
theorem jU.ro{x:SkN}{v:AV}(h:jU x v):jU x (ro v):=by
 obtain⟨g,a,b,c,d,e,f,gw,gn,rfl⟩:=h
 refine⟨g,rk a,rk b,rk c,rk d,rk e,rk f,gw,gn,?_⟩
 simp[Qx]
theorem qh0{x:SkN}{v:AV}(hv:jU x v)(w:x.W)(hp:Hp):run cxX 37 [v] hp=some (.sc (.int .i64 (xM x)),hp):=by
 obtain⟨g,a,b,c,d,e,f,gw,gn,rfl⟩:=hv
 obtain⟨o,ho,hr⟩:=qmr (zL gw gn (rk a) (rk b) (rk c) (rk d) (rk e) (rk f)) hp0
 have sm:=qmq (zL gw gn (rk a) (rk b) (rk c) (rk d) (rk e) (rk f)) ho.ro w (ze6 w) hp0
 have vo:=ho.vl
 have vo':=ho.ro.vl
 have hnt:Zh o=some ():=by
  obtain⟨g,a,b,c,d,e,f,gw,gn,rfl⟩:=ho
  rfl
 have hrr:AI.ro (AI.ro o)=AI.ro o:=by
  obtain⟨g,a,b,c,d,e,f,gw,gn,rfl⟩:=ho
  simp[Qx]
 have r1:=fun k hp=>qmt x.set k hp
 have r2:=fun k hp=>qm0 x.K x.hs k (by have:=w.hsL;omega) hp
 have r3:=fun k hp=>qm2 x.P x.rg k (by have:=w.rgL;omega) w.rg hp
 have r4:=fun k hp=>qcl x.B x.H x.bs k (by have:=w.bsL;omega) w.bs hp
 have r5:=fun k hp=>Wi x.R x.C x.cs k (by have:=w.csL;omega) hp
 have r6:=fun k hp=>qm5 x.gK g k gw hp
 rw[gn]at r6
 rw[E37]
 unfold xM
 unfold Qx at hr sm⊢
 by_cases h6:6<=x.kind
 ·simp[ql,h6]
 ·rw[if_neg h6]
  by_cases ho':x=jM x
  ·rw[if_neg (fun h=>h ho')]
   simp only[eq_true ho',decide_true]at sm
   by_cases h0:x.kind=0
   ·simp only[h0]at hr sm
    simp[ql,qs,qr,h6,hr,vo,vo',hnt,sm,h0,r1]
   ·by_cases h1:x.kind=1
    ·simp only[h1]at hr sm
     simp[ql,qs,qr,h6,hr,vo,vo',hnt,sm,h1,r2]
    ·by_cases h2:x.kind=2
     ·simp only[h2]at hr sm
      simp[ql,qs,qr,h6,hr,vo,vo',hnt,sm,h2,r3]
     ·by_cases h3:x.kind=3
      ·simp only[h3]at hr sm
       simp[ql,qs,qr,h6,hr,vo,vo',hnt,sm,h3,r4]
      ·by_cases h4:x.kind=4
       ·simp only[h4]at hr sm
        simp[ql,qs,qr,h6,hr,vo,vo',hnt,sm,h4,r5]
       ·simp[ql,qs,qr,h6,hr,vo,vo',hnt,sm,h0,h1,h2,h3,h4,r6]
  ·rw[if_pos ho']
   simp only[eq_false ho',decide_false]at sm
   simp[ql,qs,qr,h6,hr,vo,vo',hnt,sm]
def jR(x y:SkN):Bool:=decide (x.kind=y.kind)&&(if x.kind=1 then decide (x.K=y.K)else if x.kind=2 then decide (x.P=y.P)else if x.kind=3 then decide (x.B=y.B)&&decide (x.H=y.H)else if x.kind=4 then decide (x.R=y.R)&&decide (x.C=y.C)else if x.kind=5 then decide (x.gK=y.gK)else true)
theorem qms{x y:SkN}{v u:AV}(hv:jU x v)(hu:jU y u)(hp:Hp):run cxX 22 [v,u] hp=some (.sc (.bool (jR x y)),hp):=by
 obtain⟨g,a,b,c,d,e,f,gw,gn,rfl⟩:=hv
 obtain⟨g',a',b',c',d',e',f',gw',gn',rfl⟩:=hu
 rw[E22]
 unfold jR Qx
 by_cases h1:x.kind=y.kind
 ·by_cases k1:x.kind=1
  ·simp[ql,<-h1,k1]
  ·by_cases k2:x.kind=2
   ·simp[ql,<-h1,k2]
   ·by_cases k3:x.kind=3
    ·by_cases q:x.B=y.B
     ·simp[ql,<-h1,k3,q]
     ·simp[ql,<-h1,k3,q]
    ·by_cases k4:x.kind=4
     ·by_cases q:x.R=y.R
      ·simp[ql,<-h1,k4,q]
      ·simp[ql,<-h1,k4,q]
     ·by_cases k5:x.kind=5
      ·simp[ql,<-h1,k5]
      ·simp[ql,<-h1,k1,k2,k3,k4,k5]
 ·simp[ql,h1]
theorem Kk{B:Int}:∀(l:List Int) (p:Option Int),Km B p l=0->(match p with|none=>yo l|some q=>yo (q::l))/\∀n∈l,n<B
 |[],none,_=>⟨List.Pairwise.nil,qg⟩
 |[],some q,_=>⟨qg,qg⟩
 |x::l,p,h=>by
  unfold Km at h
  split at h
  ·cases h
  ·rename_i h1
   split at h
   ·have ih:=Kk l (some x) h
    refine⟨ih.1,fun n hn=>?_⟩
    rcases zmy.mp hn with rfl|hn
    ·omega
    ·exact ih.2 n hn
   ·split at h
    ·cases h
    ·rename_i q h2
     have ih:=Kk l (some x) h
     refine⟨?_,fun n hn=>?_⟩
     ·have hr:yo (x::l):=ih.1
      refine zm1.mpr ⟨fun n hn=>?_,hr⟩
      rcases zmy.mp hn with rfl|hn
      ·omega
      ·have:=(zm1.mp hr).1 n hn;omega
     ·rcases zmy.mp hn with rfl|hn
      ·omega
      ·exact ih.2 n hn
theorem Qh{B H:Int}{l:List Int}(h:qat B H l=0)(hl:kY l):(1<=B/\B<=4096)/\(1<=H/\H<=8)/\kr B l:=by
 unfold qat at h
 split at h
 ·cases h
 ·have c:=Kk l none h
  exact⟨qe,qe,c.1,fun n hn=>⟨(hl n hn).1,c.2 n hn⟩⟩
theorem Qz{l:List Int}:qhx l=0↔l.length<=4096/\yo l:=by
 unfold qhx
 constructor
 ·intro h
  split at h
  ·cases h
  ·exact⟨qe,qcp h⟩
 ·rintro⟨h1,h2⟩
  rw[if_neg qe];exact XV h2
theorem qcx:∀{l:List Int},yo l->JY l=0
 |[],_=>rfl
 |[_],_=>rfl
 |x::y::r,h=>by
  have h':=zm1.mp h
  have hxy:=h'.1 y qg
  show(if y<=x then 8 else JY (y::r))=0
  rw[if_neg qe]
  exact qcx h'.2
theorem qcq:∀{l:List Int},JY l=0->yo l
 |[],_=>List.Pairwise.nil
 |[_],_=>by simp
 |x::y::r,h=>by
  have h:(if y<=x then 8 else JY (y::r))=0:=h
  split at h
  ·cases h
  ·rename_i hxy
   have ih:=qcq h
   have ih':=zm1.mp ih
   refine zm1.mpr ⟨fun n hn=>?_,ih⟩
   rcases zmy.mp hn with rfl|hn
   ·omega
   ·have:=ih'.1 n hn;omega
theorem QP{K:Int}{l:List Int}:qt0 K l=0↔(1<=K/\K<=1024)/\(l.length:Int)<=K/\yo l:=by
 unfold qt0
 constructor
 ·intro h
  split at h
  ·cases h
  ·split at h
   ·cases h
   ·exact⟨qe,qe,qcq h⟩
 ·rintro⟨h1,h2,h3⟩
  rw[if_neg qe,if_neg qe];exact qcx h3
theorem Xb{P:Int}{l:List Int}:qt3 P l=0↔(4<=P/\P<=8)/\l.length=jW P/\∀n∈l,n<=65-P:=by
 unfold qt3 KU
 constructor
 ·intro h
  split at h
  ·cases h
  ·split at h
   ·cases h
   ·split at h
    ·cases h
    ·rename_i h1 h2 h3
     exact⟨qe,by simpa using h2,fun n hn=>by
      by_cases hlt:65-P<n
      ·exact absurd ⟨n,hn,hlt⟩ h3
      ·omega⟩
 ·rintro⟨h1,h2,h3⟩
  rw[if_neg qe,if_neg (by simpa using h2),if_neg]
  rintro⟨n,hn,hlt⟩
  have:=h3 n hn
  omega
theorem VE{R C:Int}{l:List Int}:Yq R C l=0↔(1<=R/\R<=8)/\(1<=C/\C<=256)/\(l.length:Int)=R*C:=by
 unfold Yq
 constructor
 ·intro h
  split at h
  ·cases h
  ·split at h
   ·cases h
   ·rename_i h1 h2
    exact⟨qe,qe,by simpa using h2⟩
 ·rintro⟨h1,h2,h3⟩
  rw[if_neg qe,if_neg (by simpa using h3)]
theorem qZ{x:SkN}:xM x=0↔x.kind<6/\x=jM x/\(if x.kind=0 then qhx x.set else if x.kind=1 then qt0 x.K x.hs else if x.kind=2 then qt3 x.P x.rg else if x.kind=3 then qat x.B x.H x.bs else if x.kind=4 then Yq x.R x.C x.cs else Yi x.gK x.g)=0:=by
 unfold xM
 constructor
 ·intro h
  split at h
  ·cases h
  ·split at h
   ·cases h
   ·rename_i h1 h2
    exact⟨qe,by simpa using h2,h⟩
 ·rintro⟨h1,h2,h3⟩
  rw[if_neg qe,if_neg (by simpa using h2)];exact h3
def qD(x y:SkN):SkN:=
 if x.kind=0 then{skZ with kind:=x.kind,set:=mrg x.set y.set}
 else if x.kind=1 then{skZ with kind:=x.kind,K:=x.K,hs:=(mrg x.hs y.hs).take x.K.toNat}
 else if x.kind=2 then{skZ with kind:=x.kind,P:=x.P,rg:=vD x.rg y.rg}
 else if x.kind=3 then{skZ with kind:=x.kind,B:=x.B,H:=x.H,bs:=mrg x.bs y.bs}
 else if x.kind=4 then{skZ with kind:=x.kind,R:=x.R,C:=x.C,cs:=kQ x.cs y.cs}
 else if x.kind=5 then{skZ with kind:=x.kind,gK:=x.gK,g:=kE x.gK x.g y.g}
 else{skZ with kind:=x.kind}
def okN(o:SkN):SkN×Int:=if xM o=0 then(o,0)else(skZ,xM o)
def zH(x y:SkN):SkN×Int:=if xM x≠0 then(skZ,xM x)else if xM y≠0 then(skZ,xM y)else if jR x y=false then(skZ,13)else okN (qD x y)
structure SkN.W2 (x : SkN) : Prop extends x.W where
 set2:x.set.length<=50000
 hs2:x.hs.length<=50000
 bs2:x.bs.length<=50000
 gK2:x.kind=5->x.gK<=100000
theorem KP{a b:List Int}(ha:kY a)(hb:kY b):kY (mrg a b):=fun n hn=>((xt n a b).mp hn).elim (ha n) (hb n)
theorem qqt:∀{a b:List Int},(∀n∈a,0<=n/\n<256)->(∀n∈b,0<=n/\n<256)->∀n∈vD a b,0<=n/\n<256
 |[],_,_,_=>by simp[vD]
 |x::a,[],ha,_=>by simpa[vD]using ha
 |x::a,y::b,ha,hb=>by
  have ih:=qqt (a:=a) (b:=b) (fun n hn=>ha n (by simp[hn])) (fun n hn=>hb n (by simp[hn]))
  intro n hn
  rcases zmy.mp hn with rfl|hn
  ·have h1:=ha x qg;have h2:=hb y qg;omega
  ·exact ih n hn
theorem qtp{x y:SkN}(hx:x.W2)(hy:y.W2):(qD x y).W:=by
 have z:=qpw
 have l1:=YX x.set y.set
 have l2:=YX x.hs y.hs
 have l3:=YX x.bs y.bs
 have a1:=hx.set2;have a2:=hy.set2;have a3:=hx.hs2;have a4:=hy.hs2;have a5:=hx.bs2;have a6:=hy.bs2
 unfold qD
 repeat' split
 ·exact⟨hx.kind,KP hx.set hy.set,by show(mrg x.set y.set).length<=_;omega,z.hsL,z.rg,z.rgL,z.bs,z.bsL,z.cs,z.csL⟩
 ·exact⟨hx.kind,z.set,z.setL,by show((mrg x.hs y.hs).take x.K.toNat).length<=_;rw[zny];omega,z.rg,z.rgL,z.bs,z.bsL,z.cs,z.csL⟩
 ·exact⟨hx.kind,z.set,z.setL,z.hsL,qqt hx.rg hy.rg,by show(vD x.rg y.rg).length<=_;rw[WL];exact hx.rgL,z.bs,z.bsL,z.cs,z.csL⟩
 ·exact⟨hx.kind,z.set,z.setL,z.hsL,z.rg,z.rgL,KP hx.bs hy.bs,by show(mrg x.bs y.bs).length<=_;omega,z.cs,z.csL⟩
 ·exact⟨hx.kind,z.set,z.setL,z.hsL,z.rg,z.rgL,z.bs,z.bsL,qad hx.cs hy.cs,by show(kQ x.cs y.cs).length<=_;rw[Xq];exact hx.csL⟩
 ·exact⟨hx.kind,z.set,z.setL,z.hsL,z.rg,z.rgL,z.bs,z.bsL,z.cs,z.csL⟩
 ·exact⟨hx.kind,z.set,z.setL,z.hsL,z.rg,z.rgL,z.bs,z.bsL,z.cs,z.csL⟩
def JH(x:SkN)(g:Gs)(a b c d e f:Nat):List AV:=[.sc (.int .u8 x.kind),S a 1 (LI .u32 x.set),.sc (.int .i64 x.K),S b 1 (LI .u64 x.hs),.sc (.int .i64 x.P),S c 1 (LI .u8 x.rg),.sc (.int .i64 x.B),.sc (.int .i64 x.H),S d 1 (LI .u32 x.bs),.sc (.int .i64 x.R),.sc (.int .i64 x.C),S e 1 (LI .u32 x.cs),
 .sc (.int .i64 x.gK),.sc (.int .u32 g.M),.sc (.int .u32 g.e0),.sc (.int .u32 g.e1),.sc (.int .u32 g.e2),.sc (.int .u32 g.e3),.sc (.int .u32 g.e4),.sc (.int .u32 g.e5),fl g.lo,fl g.hi,S f 1 (LF g.L)]
def xZ:List AV:=[.sc (.int .u8 0),.sc (.slice none 0 0),.sc (.int .i64 0),.sc (.slice none 0 0),.sc (.int .i64 0),.sc (.slice none 0 0),.sc (.int .i64 0),.sc (.int .i64 0),.sc (.slice none 0 0),.sc (.int .i64 0),.sc (.int .i64 0),.sc (.slice none 0 0),.sc (.int .i64 0),.sc (.int .u32 0),.sc (.int .u32 0),.sc (.int .u32 0),.sc (.int .u32 0),.sc (.int .u32 0),.sc (.int .u32 0),.sc (.int .u32 0),fl 0,fl 0,.sc (.slice none 0 0)]
theorem Jp:jU skZ (.agg xZ):=⟨gz,2,2,2,2,2,2,kN,rfl,rfl⟩
theorem zfq{P:Int}{l:List Int}{h:Int}(hP:4<=P/\P<=8)(hl:∀n∈l,0<=n/\n<256):∀n∈QR P l h,0<=n/\n<256:=by
 unfold QR
 split
 ·rename_i hi
  intro n hn
  rcases zpm hn with hn|rfl
  ·exact hl n hn
  ·have h1:=qg3 (h:=h) hP
   have h2:=hl l[yV P h] (znb hi)
   have e:l.getD (yV P h) 0=l[yV P h]:=by simp[hi]
   rw[e];omega
 ·exact hl
structure Fine (x : SkN) : Prop where
 w:x.W
 c:xM x=0
 pos:x.g.Pos
theorem Yf:gz.nf.Pos:=kN.pos
theorem Fine.W2{x:SkN}(h:Fine x):x.W2:=by
 obtain⟨kd,on,sp⟩:=qZ.mp h.c
 have w:=h.w
 refine⟨w,?_,?_,?_,?_⟩
 ·rw[on];unfold jM
  by_cases k0:x.kind=0
  ·rw[if_pos k0]at sp⊢
   have:=(Qz.mp sp).1
   show x.set.length<=_;omega
  ·rw[if_neg k0]
   repeat' split
   all_goals exact znl _
 ·rw[on];unfold jM
  by_cases k0:x.kind=0
  ·rw[if_pos k0];exact znl _
  ·rw[if_neg k0]at sp⊢
   by_cases k1:x.kind=1
   ·rw[if_pos k1]at sp⊢
    have:=QP.mp sp
    show x.hs.length<=_;omega
   ·rw[if_neg k1]
    repeat' split
    all_goals exact znl _
 ·rw[on];unfold jM
  by_cases k3:x.kind=3
  ·have n0:¬(x.kind=0):=qe
   have n1:¬(x.kind=1):=qe
   have n2:¬(x.kind=2):=qe
   rw[if_neg n0,if_neg n1,if_neg n2,if_pos k3]at sp⊢
   obtain⟨hB,hH,hg⟩:=Qh sp w.bs
   have:=hg.len hB.2
   show x.bs.length<=_;omega
  ·repeat' split
   all_goals first|exact znl _|(exfalso;omega)
 ·intro k5
  have n0:¬(x.kind=0):=qe
  have n1:¬(x.kind=1):=qe
  have n2:¬(x.kind=2):=qe
  have n3:¬(x.kind=3):=qe
  have n4:¬(x.kind=4):=qe
  rw[if_neg n0,if_neg n1,if_neg n2,if_neg n3,if_neg n4]at sp
  have:=VC.mp sp
  omega
theorem qc8:∀{a:List Int},vD a a=a
 |[]=>rfl
 |x::a=>by
  show max x x::vD a a=x::a
  rw[qc8,Int.max_self]
theorem qqu{m:Int}:∀{a b:List Int},(∀n∈a,n<=m)->(∀n∈b,n<=m)->∀n∈vD a b,n<=m
 |[],_,_,_=>by simp[vD]
 |x::a,[],ha,_=>by simpa[vD]using ha
 |x::a,y::b,ha,hb=>by
  have ih:=qqu (a:=a) (b:=b) (fun n hn=>ha n (by simp[hn])) (fun n hn=>hb n (by simp[hn]))
  intro n hn
  rcases zmy.mp hn with rfl|hn
  ·have h1:=ha x qg;have h2:=hb y qg;omega
  ·exact ih n hn
theorem Qf{x y:SkN}(h:jR x y=true):x.kind=y.kind:=by
 unfold jR at h
 simp only[zok,decide_eq_true_eq]at h
 exact h.1
theorem qqn{x y:SkN}(h:jR x y=true):(x.kind=1->x.K=y.K)/\(x.kind=2->x.P=y.P)/\(x.kind=3->x.B=y.B/\x.H=y.H)/\(x.kind=4->x.R=y.R/\x.C=y.C)/\(x.kind=5->x.gK=y.gK):=by
 unfold jR at h
 refine⟨fun k=>?_,fun k=>?_,fun k=>?_,fun k=>?_,fun k=>?_⟩<;>simpa[k]using And.right (by simpa[k]using h)
theorem qqo{x y:SkN}(hk:x.kind=y.kind)(h:(x.kind=1->x.K=y.K)/\(x.kind=2->x.P=y.P)/\(x.kind=3->x.B=y.B/\x.H=y.H)/\(x.kind=4->x.R=y.R/\x.C=y.C)/\(x.kind=5->x.gK=y.gK)):jR x y=true:=by
 obtain⟨h1,h2,h3,h4,h5⟩:=h
 unfold jR
 simp only[hk,decide_true,zqi]
 rw[hk]at h1 h2 h3 h4 h5
 by_cases k1:y.kind=1
 ·simp[k1,h1 k1]
 ·by_cases k2:y.kind=2
  ·simp[k2,h2 k2]
  ·by_cases k3:y.kind=3
   ·simp[k3,(h3 k3).1,(h3 k3).2]
   ·by_cases k4:y.kind=4
    ·simp[k4,(h4 k4).1,(h4 k4).2]
    ·by_cases k5:y.kind=5
     ·simp[k5,h5 k5]
     ·simp[k1,k2,k3,k4,k5]
theorem qc5(x:SkN):jR x x=true:=qqo rfl ⟨fun _=>rfl,fun _=>rfl,fun _=>⟨rfl,rfl⟩,fun _=>⟨rfl,rfl⟩,fun _=>rfl⟩
theorem qgv(x y:SkN):(qD x y).kind=x.kind:=by
 unfold qD;repeat' split
 all_goals rfl
theorem qgu{x:SkN}(y:SkN):qD x y=jM (qD x y):=by
 unfold qD
 by_cases k0:x.kind=0
 ·simp[k0,jM]
 ·by_cases k1:x.kind=1
  ·simp[k1,jM]
  ·by_cases k2:x.kind=2
   ·simp[k2,jM]
   ·by_cases k3:x.kind=3
    ·simp[k3,jM]
    ·by_cases k4:x.kind=4
     ·simp[k4,jM]
     ·by_cases k5:x.kind=5
      ·simp[k5,jM]
      ·simp[k0,k1,k2,k3,k4,k5,jM]
theorem six{x:SkN}(h:x.W)(hk:x.kind<6):x.kind=0\/x.kind=1\/x.kind=2\/x.kind=3\/x.kind=4\/x.kind=5:=by
 have:=h.kind;omega
theorem KZ{x y:SkN}(hx:Fine x)(hy:Fine y)(hl:jR x y=true):xM (qD x y)=if x.kind=0/\4096<(mrg x.set y.set).length then 7 else 0:=by
 obtain⟨kd,on,sp⟩:=qZ.mp hx.c
 obtain⟨kd',on',sp'⟩:=qZ.mp hy.c
 have hk:=Qf hl
 obtain⟨l1,l2,l3,l4,l5⟩:=qqn hl
 rw[<-hk]at sp'
 have ho:=qgu (x:=x) y
 unfold xM
 rw[qgv,if_neg qe,if_neg (fun h=>h ho)]
 rcases six hx.w kd with k|k|k|k|k|k
 ·have e:qD x y={skZ with kind:=x.kind,set:=mrg x.set y.set}:=by unfold qD;rw[if_pos k]
  rw[if_pos k]at sp sp'
  rw[if_pos k,e]
  obtain⟨a1,a2⟩:=Qz.mp sp
  obtain⟨b1,b2⟩:=Qz.mp sp'
  show qhx (mrg x.set y.set)=_
  unfold qhx
  by_cases h:4096<(mrg x.set y.set).length
  ·rw[if_pos h,if_pos ⟨k,h⟩]
  ·rw[if_neg h,if_neg (fun h'=>h h'.2)]
   exact XV (xn _ _ a2 b2)
 ·have e:qD x y={skZ with kind:=x.kind,K:=x.K,hs:=(mrg x.hs y.hs).take x.K.toNat}:=by unfold qD;simp[k]
  simp[k]at sp sp'⊢
  rw[e]
  obtain⟨a1,a2,a3⟩:=QP.mp sp
  obtain⟨b1,b2,b3⟩:=QP.mp sp'
  exact QP.mpr ⟨a1,by simp only[zny];omega,qco _ (xn _ _ a3 b3)⟩
 ·have e:qD x y={skZ with kind:=x.kind,P:=x.P,rg:=vD x.rg y.rg}:=by unfold qD;simp[k]
  simp[k]at sp sp'⊢
  rw[e]
  have lp:=l2 k
  obtain⟨a1,a2,a3⟩:=Xb.mp sp
  obtain⟨b1,b2,b3⟩:=Xb.mp sp'
  rw[<-lp]at b3
  exact Xb.mpr ⟨a1,by simp only[WL];exact a2,qqu a3 b3⟩
 ·have e:qD x y={skZ with kind:=x.kind,B:=x.B,H:=x.H,bs:=mrg x.bs y.bs}:=by unfold qD;simp[k]
  simp[k]at sp sp'⊢
  rw[e]
  obtain⟨lb,lh⟩:=l3 k
  obtain⟨a1,a2,a3⟩:=Qh sp hx.w.bs
  obtain⟨b1,b2,b3⟩:=Qh sp' hy.w.bs
  rw[<-lb]at b3
  exact qaf a1 a2 (a3.mrg b3)
 ·have e:qD x y={skZ with kind:=x.kind,R:=x.R,C:=x.C,cs:=kQ x.cs y.cs}:=by unfold qD;simp[k]
  simp[k]at sp sp'⊢
  rw[e]
  obtain⟨a1,a2,a3⟩:=VE.mp sp
  exact VE.mpr ⟨a1,a2,by simp only[Xq];exact a3⟩
 ·have e:qD x y={skZ with kind:=x.kind,gK:=x.gK,g:=kE x.gK x.g y.g}:=by unfold qD;simp[k]
  simp[k]at sp sp'⊢
  rw[e]
  have lg:=l5 k
  rw[<-lg]at sp'
  exact WS sp sp'
theorem qtn{x y:SkN}(hx:Fine x)(hy:Fine y):(qD x y).g.Pos:=by
 unfold qD
 repeat' split
 all_goals first|exact Yf|exact za2 hx.pos hy.pos
theorem QN{x y:SkN}(hx:Fine x)(hy:Fine y)(hl:jR x y=true)(h:¬(x.kind=0/\4096<(mrg x.set y.set).length)):Fine (qD x y):=
 ⟨qtp hx.W2 hy.W2,by rw[KZ hx hy hl,if_neg h],qtn hx hy⟩
theorem Qd{x y:SkN}(hx:Fine x)(hy:Fine y):zH x y=if jR x y=false then(skZ,13)else if x.kind=0/\4096<(mrg x.set y.set).length then(skZ,7)else(qD x y,0):=by
 unfold zH
 rw[if_neg (by simpa using hx.c),if_neg (by simpa using hy.c)]
 by_cases hl:jR x y=false
 ·rw[if_pos hl,if_pos hl]
 ·rw[if_neg hl,if_neg hl]
  have hl':jR x y=true:=by simpa using hl
  unfold okN
  rw[KZ hx hy hl']
  by_cases h:x.kind=0/\4096<(mrg x.set y.set).length
  ·rw[if_pos h,if_pos h];rfl
  ·rw[if_neg h,if_neg h];rfl
theorem qny{x:SkN}(hx:Fine x)(h4:x.kind≠4)(h5:x.kind≠5):qD x x=x:=by
 obtain⟨kd,on,sp⟩:=qZ.mp hx.c
 conv=>rhs;rw[on]
 rcases six hx.w kd with k|k|k|k|k|k
 ·simp[k]at sp
  simp[qD,jM,k]
  exact YV (Qz.mp sp).2
 ·simp[k]at sp
  simp[qD,jM,k]
  obtain⟨a,b,c⟩:=QP.mp sp
  rw[YV c]
  exact znr qe
 ·simp[qD,jM,k]
  exact qc8
 ·simp[k]at sp
  simp[qD,jM,k]
  exact YV (Qh sp hx.w.bs).2.2.1
 ·exact absurd k h4
 ·exact absurd k h5
end Go.Proofs.YtmajcennjgjlnaaGreat.AI
