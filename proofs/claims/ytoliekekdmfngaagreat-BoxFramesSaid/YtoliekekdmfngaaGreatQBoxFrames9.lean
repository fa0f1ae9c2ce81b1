/- Texts that the proof of BoxFrames rests on, part 9. -/
import Derived.Test.YtoliekekdmfngaaGreatQBoxFrames8
namespace Go.Proofs.YtoliekekdmfngaaGreat.AI
open Go
set_option linter.unusedVariables false
set_option linter.unusedSimpArgs false
set_option maxRecDepth 100000
set_option maxHeartbeats 0
theorem jj(K:IntKind)(l:List Int)(k:Nat)(hk:k=1\/k=2)(b:Nat)(hb:0<b/\b<=1000)(k':Nat)(m:List Int)(h:l.length+m.length<=100000000):zh b 1 (S k 1 (LI K l)) (S k' 1 (LI K m))=some (S k 1 (LI K (l++m))):=by
 rw[ZN b 1 k _ _ k' hk (Xi _ _) (.inr (jr hb.1 ?_))]
 ·simp[LI]
 ·simp only[yI]
  have:(l.length+m.length)*b<=100000000*1000:=zjn h hb.2
  omega
theorem qir(K:IntKind)(l:List Int)(k:Nat)(hk:k=1\/k=2)(b:Nat)(hb:0<b/\b<=1000)(n:Int)(h:l.length<100000000):zh b 1 (S k 1 (LI K l)) (S 1 1 [.sc (.int K n)])=some (S k 1 (LI K (l++[n]))):=
 jj K l k hk b hb 1 [n] qg
theorem qpf:∀(n:Nat) (l:List Int) (hp:Hp),n<18446744073709551616->l.length+(uv n).length<=1000->
 B175_2 (.int .u64 (n:Int)) (S 2 1 (LI .u8 l)) hp=some (S 2 1 (LI .u8 (l++uv n)),hp):=by
 intro n
 induction n using Nat.strongRecOn with
 |_ n ih=>
  intro l hp hn hl
  rw[qr3]
  by_cases h1:n<128
  ·rw[Kl h1]at hl⊢
   have hge:¬((128:Int)<=(n:Int)):=qc
   have w:IntKind.u8.wrap (n:Int)=(n:Int):=zE qc qc
   have ap:=qe1 .u8 l 2 (.inr rfl) 1 qf n (by simp at hl;omega)
   simp[hge,w,ap]
  ·rw[WX h1]at hl⊢
   have hge:(128:Int)<=(n:Int):=qc
   have r:=XO n 128 qf
   have q:=Jp n 128 qf hn
   have w0:IntKind.u64.wrap (((n%128:Nat):Int)+128)=((n%128+128:Nat):Int):=by rw[qx]<;>omega
   have w:IntKind.u8.wrap ((n%128+128:Nat):Int)=((n%128+128:Nat):Int):=zE qc qc
   have ap:=qe1 .u8 l 2 (.inr rfl) 1 qf ((n%128+128:Nat):Int) (by simp at hl;omega)
   have ih':=ih (n/128) qc (l++[((n%128+128:Nat):Int)]) hp qc (by simp at hl⊢;omega)
   generalize((n%128+128:Nat):Int)=c at*
   generalize((n/128:Nat):Int)=d at*
   generalize((n%128:Nat):Int)=e at*
   simp only[zkf]at r q
   simp[hge,r,q,w0,w,ap,ih']
theorem zN(n:Nat)(hn:n<18446744073709551616)(hp:Hp):run cxX 175 [.sc (.int .u64 (n:Int))] hp=some (S 2 1 (LI .u8 (uv n)),hp):=by
 have h:=qpf n [] hp hn (by have:=qu hn;simp;omega)
 rw[E175]
 simpa using h
theorem qtf(n:Int)(hn:-9223372036854775808<=n/\n<9223372036854775808)(hp:Hp):run cxX 179 [.sc (.int .i64 n)] hp=some (S 2 1 (LI .u8 (uv (zz n))),hp):=by
 have u:=zN (zz n) (zbm hn.1 hn.2) hp0
 rw[E179]
 by_cases h0:n<0
 ·have w1:IntKind.i64.wrap (n+1)=n+1:=qj qc qc
  have w2:IntKind.i64.wrap (0-(n+1))=0-(n+1):=qj qc qc
  have w3:IntKind.u64.wrap (0-(n+1))=0-(n+1):=qx qc qc
  have w4:IntKind.u64.wrap ((0-(n+1))*2)=(0-(n+1))*2:=qx qc qc
  have w5:IntKind.u64.wrap ((0-(n+1))*2+1)=((zz n:Nat):Int):=by rw[qx qc qc];unfold zz;rw[if_pos h0];omega
  have un:=qx1 Tryz.prog (n+1)
  rw[w2]at un
  generalize 0-(n+1)=y at*
  generalize zz n=z at*
  simp[h0,w1,un,w3,w4,w5,u]
 ·have w3:IntKind.u64.wrap n=n:=qx qc qc
  have w4:IntKind.u64.wrap (n*2)=((zz n:Nat):Int):=by rw[qx qc qc];unfold zz;rw[if_neg h0];omega
  generalize zz n=z at*
  simp[h0,w3,w4,u]
def ub(l:List Bool):List Int:=l.map fun b=>cond b 1 0
@[simp] theorem zcj(l:List Bool):(ub l).length=l.length:=by simp[ub]
@[simp] theorem qdc(l m:List Bool):ub (l++m)=ub l++ub m:=by simp[ub]
theorem qkf(n:Nat)(hn:n<=1000000)(hp:Hp):∀(f i:Nat),i+f=n->
 B224_3 (.int .i64 (n:Int)) (S 2 1 (LI .u8 (List.replicate i 1))) (.int .i64 (i:Int)) hp=some (S 2 1 (LI .u8 (ub (una n))),hp):=by
 intro f
 induction f with
 |zero=>
  intro i h
  have e:i=n:=qc
  subst e
  have ap:=qir .u8 (List.replicate i 1) 2 (.inr rfl) 1 qf 0 qg
  have e2:ub (una i)=List.replicate i 1++[0]:=by simp[ub,una]
  rw[qck,e2]
  generalize List.replicate i (1:Int)=l at*
  simp[ap]
 |succ f ih=>
  intro i h
  have hlt:(i:Int)<(n:Int):=qc
  have ap:=qir .u8 (List.replicate i 1) 2 (.inr rfl) 1 qf 1 qg
  have w1:IntKind.i64.wrap ((i:Int)+1)=((i+1:Nat):Int):=qh
  have ih':=ih (i+1) qc
  rw[zku]at ih'
  rw[qck]
  generalize List.replicate i (1:Int)=l at*
  generalize((i+1:Nat):Int)=j at*
  simp[hlt,ap,w1,ih']
theorem qah(n:Nat)(hn:n<=1000000)(hp:Hp):run cxX 224 [.sc (.int .i64 (n:Int))] hp=some (S 2 1 (LI .u8 (ub (una n))),hp):=by
 have h:=qkf n hn hp n 0 qc
 rw[E224]
 simpa using h
theorem zbc(n j:Nat):((n/2^j%2:Nat):Int)=cond (n.testBit j) 1 0:=by
 rw[Nat.testBit_eq_decide_div_mod_eq]
 have:n/2^j%2=0\/n/2^j%2=1:=qc
 rcases this with h|h<;>rw[h]<;>rfl
theorem qpl(n b:Nat)(hn:n<18446744073709551616)(k:Nat)(hk:k<=64):∀(f j:Nat) (hp:Hp),j+f=k->hp.rd b 0=some (LI .u8 (List.replicate f 0++ub (Xu n j)))->
 ∃hp',B225_7 (.int .u64 ((n/2^j:Nat):Int)) (.ms b 0 0 k 1) (.int .i64 ((f:Int)-1)) hp=some (S 0 1 (LI .u8 (ub (Xu n k))),hp'):=by
 intro f
 induction f with
 |zero=>
  intro j hp h hb
  have e:j=k:=qc
  subst e
  have hge:¬((0:Int)<=((0:Nat):Int)-1):=qc
  have fz:=ZA .u8 (ub (Xu n j)) hp b (by simpa using hb)
  rw[zcj,qzz]at fz
  rw[qcj]
  exact⟨hp.del b,by simp[fz]⟩
 |succ f ih=>
  intro j hp h hb
  have hge:(0:Int)<=((f+1:Nat):Int)-1:=qc
  have e1:((f+1:Nat):Int)-1=(f:Int):=qc
  have r:=XO (n/2^j) 2 qf
  have q:=Jp (n/2^j) 2 qf (zlr (zma _ _) hn)
  have e2:n/2^j/2=n/2^(j+1):=by rw[zl0,<-Nat.pow_succ]
  rw[zbc]at r
  rw[e2]at q
  have ix:idx k (.int .i64 (f:Int))=some f:=za .i64 qc
  have pn:=yU .u8 (List.replicate (f+1) 0++ub (Xu n j)) f (cond (n.testBit j) 1 0) qg
  have e3:(List.replicate (f+1) (0:Int)++ub (Xu n j)).set f (cond (n.testBit j) 1 0)=List.replicate f 0++ub (Xu n (j+1)):=by
   rw[zku,zio,zlk _ _ qe]
   simp[Xu,ub]
  rw[e3]at pn
  have w1:IntKind.i64.wrap ((f:Int)-1)=(f:Int)-1:=qj qc qc
  have w2:IntKind.u8.wrap (cond (n.testBit j) 1 0)=cond (n.testBit j) 1 0:=by cases n.testBit j<;>rfl
  obtain⟨hp',ih'⟩:=ih (j+1) (hp.put b 0 (LI .u8 (List.replicate f 0++ub (Xu n (j+1))))) qc (qw _ _ _)
  refine⟨hp',?_⟩
  rw[qcj,e1]
  simp only[zkf]at r q
  generalize((n/2^j:Nat):Int)=u at*
  generalize((n/2^(j+1):Nat):Int)=u' at*
  generalize(cond (n.testBit j) 1 0:Int)=c at*
  generalize LI .u8 (List.replicate f 0++ub (Xu n (j+1)))=L' at*
  generalize LI .u8 (List.replicate (f+1) 0++ub (Xu n j))=L at*
  simp[r,q,w2,ix,hb,pn,w1,ih']
theorem qfx(n k:Nat)(hn:n<18446744073709551616)(hk:k<=64)(hp:Hp):∃hp',run cxX 225 [.sc (.int .u64 (n:Int)),.sc (.int .i64 (k:Int))] hp=some (S 0 1 (LI .u8 (ub (Xu n k))),hp'):=by
 have mk:yc 1 1 (k:Int) (k:Int)=some ():=QG qc qc qf qf
 have z:=Qy .u8 k
 obtain⟨hp',h⟩:=qpl n hp.next hn k hk k 0 (hp.new (LI .u8 (List.replicate k 0))) qc (by rw[qF];simp[Xu,ub])
 have h1:¬((64:Int)<(k:Int)):=qc
 have h2:¬((k:Int)<0):=qc
 have w1:IntKind.i64.wrap ((k:Int)-1)=(k:Int)-1:=qj qc qc
 refine⟨hp',?_⟩
 rw[E225]
 simp only[Nat.pow_zero,Nat.div_one]at h
 have h3:=qrj (v0:=.int .u64 (n:Int)) (v1:=.int .i64 (k:Int)) (hp:=hp)
 have h5:=qri (v0:=.int .u64 (n:Int)) (v1:=.int .i64 (k:Int)) (hp:=hp)
 generalize LI .u8 (List.replicate k 0)=Z at*
 simp[h1,h3,h2,h5,mk,z,w1,h]
theorem qX(v:Value):qi [.sc v] 0=some v:=rfl
theorem Yw(l:List Bool)(i j:Nat):(l.take i).getD j false=(decide (j<i)&&l.getD j false):=by
 rw[zia,zij]
 by_cases h:j<i
 ·simp[h]
 ·simp[h]
theorem VI(l:List Bool)(i:Nat)(hi:i<l.length)(q:Nat):WN (l.take (i+1)) (8*q)=if q=i/8 then WN (l.take i) (8*q)+(l.getD i false).toNat*2^(7-i%8)else WN (l.take i) (8*q):=by
 have key:∀j,(l.take (i+1)).getD j false=if j=i then l.getD i false else(l.take i).getD j false:=by
  intro j
  rw[Yw,Yw]
  by_cases h1:j=i
  ·subst h1;simp
  ·have:(j<i+1)=(j<i):=by apply propext;omega
   simp[h1,this]
 have kz:(l.take i).getD i false=false:=by rw[Yw];simp
 unfold WN
 simp only[key]
 by_cases hq:q=i/8
 ·rw[if_pos hq]
  have hc:i%8=0\/i%8=1\/i%8=2\/i%8=3\/i%8=4\/i%8=5\/i%8=6\/i%8=7:=qc
  rcases hc with h|h|h|h|h|h|h|h
  all_goals
   have e:i=8*q+i%8:=qc
   rw[h]at e
   generalize hg:l.getD i false=c at*
   subst e
   simp at kz
   simp[kz]
   try omega
 ·rw[if_neg hq]
  have h0:∀k,k<8->8*q+k≠i:=qc
  have:=h0 0 qc;have:=h0 1 qc;have:=h0 2 qc;have:=h0 3 qc;have:=h0 4 qc;have:=h0 5 qc;have:=h0 6 qc;have:=h0 7 qc
  simp only[zjo]at*
  simp[*]
def pkt(l:List Bool)(i:Nat):List Int:=(List.range ((l.length+7)/8)).map fun q=>(WN (l.take i) (8*q):Int)
theorem qzd(l:List Bool)(i:Nat):(pkt l i).length=(l.length+7)/8:=by simp[pkt]
theorem qze(l:List Bool):pkt l l.length=pk l:=by simp[pkt,pk]
theorem que(l:List Bool):pkt l 0=List.replicate ((l.length+7)/8) 0:=by
 unfold pkt
 rw[List.eq_replicate_iff]
 refine⟨qe,fun x hx=>?_⟩
 obtain⟨q,_,rfl⟩:=ziu.mp hx
 simp[WN]
theorem quf(l:List Bool)(i:Nat)(hi:i<l.length):pkt l (i+1)=(pkt l i).set (i/8) ((WN (l.take i) (8*(i/8))+(l.getD i false).toNat*2^(7-i%8):Nat):Int):=by
 unfold pkt
 apply zkv
 intro q
 rw[zmk,zir,zir]
 by_cases hq:i/8=q
 ·subst hq
  have hl:i/8<(l.length+7)/8:=qc
  rw[zko hl]
  simp[VI l i hi,hl]
 ·rw[if_neg hq]
  by_cases hl:q<(l.length+7)/8
  ·rw[zko hl]
   have hq':¬(q=i/8):=fun e=>hq e.symm
   simp[VI l i hi,hq']
  ·rw[zjd qg]
   rfl
theorem qkh(l:List Bool)(k b:Nat)(hl:l.length<100000000):∀(f i:Nat) (hp:Hp),i+f=l.length->hp.rd b 0=some (LI .u8 (pkt l i))->
 ∃hp',B226_3 (S k 1 (LI .u8 (ub l))) (.ms b 0 0 ((l.length+7)/8) 1) (.int .i64 (i:Int)) hp=some (S 0 1 (LI .u8 (pk l)),hp'):=by
 intro f
 induction f with
 |zero=>
  intro i hp h hb
  have e:i=l.length:=qc
  subst e
  have hlt:¬((l.length:Int)<(l.length:Int)):=qc
  have fz:=ZA .u8 (pk l) hp b (by rw[qze]at hb;exact hb)
  rw[vu]at fz
  rw[qci]
  exact⟨hp.del b,by simp[fz]⟩
 |succ f ih=>
  intro i hp h hb
  have hi:i<l.length:=qc
  have hlt:(i:Int)<(l.length:Int):=qc
  have r8:=rem8 i
  have q8:=zdn i qc
  have ix:idx ((l.length+7)/8) (.int .i64 ((i/8:Nat):Int))=some (i/8):=za .i64 qc
  have gx:qi (LI .u8 (pkt l i)) (i/8)=some (.int .u8 (WN (l.take i) (8*(i/8)):Nat)):=by
   have:(pkt l i)[i/8]?=some (WN (l.take i) (8*(i/8)):Int):=by
    unfold pkt
    rw[zir,zko qc]
    rfl
   unfold qi
   rw[Zy?,this]
   rfl
  have pn:=yU .u8 (pkt l i) (i/8) ((WN (l.take i) (8*(i/8))+(l.getD i false).toNat*2^(7-i%8):Nat):Int) (by rw[qzd];omega)
  rw[<-quf l i hi]at pn
  have bit:∀h,(ub l)[i]'h=cond (l.getD i false) 1 0:=by
   intro h
   simp[ub,zia,zic hi]
  have sh:∀t o o',qs Tryz.prog .shl t o o' (.int .u8 (cond (l.getD i false) 1 0)) (.int .i64 (7-((i%8:Nat):Int)))=some (.int .u8 (((l.getD i false).toNat*2^(7-i%8):Nat):Int)):=by
   intro t o o'
   have hc:i%8=0\/i%8=1\/i%8=2\/i%8=3\/i%8=4\/i%8=5\/i%8=6\/i%8=7:=qc
   rw[xw _ _ _ _ _ _ _ _ qc]
   rcases hc with h|h|h|h|h|h|h|h<;>rw[h]<;>cases l.getD i false<;>rfl
  have hsum:WN (l.take i) (8*(i/8))+(l.getD i false).toNat*2^(7-i%8)<256:=by
   have:=VI l i hi (i/8)
   rw[if_pos rfl]at this
   rw[<-this];exact qwo _ _
  have w0:IntKind.i64.wrap (7-((i%8:Nat):Int))=7-((i%8:Nat):Int):=qj qc qc
  have w1:IntKind.u8.wrap (((WN (l.take i) (8*(i/8)):Nat):Int)+(((l.getD i false).toNat*2^(7-i%8):Nat):Int))=((WN (l.take i) (8*(i/8))+(l.getD i false).toNat*2^(7-i%8):Nat):Int):=by
   rw[zE]<;>omega
  have w2:IntKind.i64.wrap ((i:Int)+1)=((i+1:Nat):Int):=qh
  obtain⟨hp',ih'⟩:=ih (i+1) (hp.put b 0 (LI .u8 (pkt l (i+1)))) qc (qw _ _ _)
  refine⟨hp',?_⟩
  rw[qci]
  generalize((WN (l.take i) (8*(i/8))+(l.getD i false).toNat*2^(7-i%8):Nat):Int)=A at*
  generalize(((l.getD i false).toNat*2^(7-i%8):Nat):Int)=D at*
  generalize((WN (l.take i) (8*(i/8)):Nat):Int)=E at*
  generalize(cond (l.getD i false) 1 0:Int)=c at*
  generalize((i%8:Nat):Int)=m8 at*
  generalize LI .u8 (pkt l (i+1))=L' at*
  generalize LI .u8 (pkt l i)=L at*
  generalize((i+1:Nat):Int)=i' at*
  generalize hQ:i/8=Q at*
  generalize(l.length+7)/8=T at*
  simp[hi,r8,q8,ix,hb,gx,bit,w0,sh,w1,pn,w2,ih',qX]
theorem Yk(l:List Bool)(k:Nat)(hl:l.length<100000000)(hp:Hp):∃hp',run cxX 226 [S k 1 (LI .u8 (ub l))] hp=some (S 0 1 (LI .u8 (pk l)),hp'):=by
 have mk:yc 1 1 (((l.length+7)/8:Nat):Int) (((l.length+7)/8:Nat):Int)=some ():=QG qc qc qf qf
 have z:=Qy .u8 ((l.length+7)/8)
 rw[<-que]at z
 obtain⟨hp',h⟩:=qkh l k hp.next hl l.length 0 (hp.new (LI .u8 (pkt l 0))) qc (qF _ _)
 have w1:IntKind.i64.wrap ((l.length:Int)+7)=((l.length+7:Nat):Int):=qh
 have q8:=zdn (l.length+7) qc
 refine⟨hp',?_⟩
 rw[E226]
 generalize LI .u8 (pkt l 0)=Z at*
 generalize((l.length+7:Nat):Int)=T1 at*
 generalize(l.length+7)/8=T at*
 simp[w1,q8,mk,z]
 simpa using h
def xE(e:Ie):List Int:=[(e.nm.length:Int)]++e.nm++uv e.sz.toNat
def xT(l:List Ie):List Int:=(l.map xE).flatten
theorem xR_T:∀(l:List Ie) (i:Nat),xR l (i+1)=xT l
 |[],_=>rfl
 |e::r,i=>by
  show xB (i+1) e++xR r (i+1+1)=xE e++xT r
  rw[xR_T r (i+1)]
  unfold xB
  rw[if_neg (Nat.succ_ne_zero i),zi5]
  rfl
theorem xR_0(e:Ie)(r:List Ie):xR (e::r) 0=uv e.po.toNat++xT (e::r):=by
 show xB 0 e++xR r (0+1)=_
 rw[xR_T r 0]
 unfold xB
 rw[if_pos rfl,zio]
 rfl
theorem qxy(e:Ie)(r:List Ie):xT (e::r)=xE e++xT r:=rfl
section
variable (b k:Nat)(l:List Int)(hl:l.length<=1000000000)(h8:By l)(L:List Ie)(hx:Xok L)(hn:wj (L.map Ie.nm)=true)
include hl h8 hx hn
theorem qxr:∀(r:List Ie) (i p:Nat) (at_:Int) (hp:Hp),L.drop i=r->i<=L.length->l.drop p=xT r->p<=l.length->(∀e,r.head?=some e->e.po=at_)->hp.rd b 0=some (Rc k l p 0)->
 ∃hp',B44_12 (.ptr b 0 0) (S 2 3 (ql zm (L.take i))) (.int .u64 (L.length:Int)) (.int .i64 at_) (.int .u64 (i:Int)) hp=some (.tup [S 2 3 (ql zm L),.sc (.int .i64 0)],hp'):=by
 intro r
 induction r with
 |nil=>
  intro i p at_ hp hr hi hd hpl _ h
  have h1:=qC hr
  have hlt:¬((i:Int)<(L.length:Int)):=qc
  rw[zix h1]
  have h2:=qC hd
  have en:=qfr b k l p 0 hp hl hpl h
  have e0:(if(0:Int)=0/\p<l.length then(15:Int)else 0)=0:=if_neg qc
  rw[e0]at en
  have ck:=Zq L hx 3 hp0
  rw[if_pos hn]at ck
  refine⟨hp,?_⟩
  have b17:B44_17 (.ptr b 0 0) (S 2 3 (ql zm L)) hp=some (.tup [S 2 3 (ql zm L),.sc (.int .i64 0)],hp):=by
   rw[qb7]
   generalize ql zm L=R at*
   simp[en,ck]
  rw[YL]
  generalize ql zm L=R at*
  simp[hlt,b17]
 |cons e r ih=>
  intro i p at_ hp hr hi hd hpl hat h
  obtain⟨e1,e2,hi',e3⟩:=qv hr
  have hm:=zig e1
  have hat:=hat e rfl
  have hnl:=hx.nl e hm
  have hpo:=hx.po e hm
  have hsz:=hx.sz e hm
  have hnb:=hx.nb e hm
  have hlen:=hx.len
  have hlt:(i:Int)<(L.length:Int):=qc
  rw[qxy]at hd
  have d0:l.drop p=(e.nm.length:Int)::(e.nm++(uv e.sz.toNat++xT r)):=by
   rw[hd]
   unfold xE
   simp[zio]
  obtain⟨_,d1,hp1,_⟩:=qv d0
  have er:=Qe b k l p 0 hp h
  have b1:=Ya b k l hl d0 hp hpl h
  obtain⟨t,b2⟩:=Kn b k l hl d1 (hp.put b 0 (Rc k l (p+1) 0)) hp1 (qw _ _ _)
  have d2:=vK d1
  have hp2:=QP (show p+1<=l.length from hp1) d1
  rw[zo]at b2
  have b3:=XG b k l hl h8 (most:=1048576) d2 qc qf (hp.put b 0 (Rc k l (p+1+e.nm.length) 0)) hp2 (qw _ _ _)
  have d3:=vK d2
  have hp3:=QP hp2 d2
  rw[zo]at b3
  have es:((e.sz.toNat:Nat):Int)=e.sz:=qc
  rw[es]at b3
  simp only[zkf]at b3
  have bu:=xW e.nm
  have cv1:=Vt (e.nm.length:Int)
  have w1:IntKind.i64.wrap (e.nm.length:Int)=(e.nm.length:Int):=qh
  rw[w1]at cv1
  have cv2:=Vv e.sz
  have w2:IntKind.i64.wrap e.sz=e.sz:=qh
  rw[w2]at cv2
  have ap:=qe2 zm 3 32 2 qf (.inr rfl) (l:=L.take i) (x:=e) (fun x _=>jP x) (jP _) (by rw[ziy];omega)
  have tk:L.take (i+1)=L.take i++[e]:=by rw[zk4,e1];rfl
  rw[<-tk]at ap
  have w3:IntKind.i64.wrap (at_+e.sz)=at_+e.sz:=qh
  have w4:IntKind.u64.wrap ((i:Int)+1)=((i+1:Nat):Int):=by rw[qx]<;>omega
  obtain⟨hp',z⟩:=ih (i+1) (p+1+e.nm.length+(uv e.sz.toNat).length) (at_+e.sz) (hp.put b 0 (Rc k l (p+1+e.nm.length+(uv e.sz.toNat).length) 0)) e2 qc d3 hp3 (fun e' he'=>by
   have:L[i+1]?=some e':=by
    cases r with
    |nil=>cases he'
    |cons y r=>
     cases he'
     exact(qv e2).1
   rw[hx.cs i e e' e1 this,hat]) (qw _ _ _)
  refine⟨hp',?_⟩
  rw[<-z]
  clear z ih d0 d1 d2 d3 tk
  have b14:B44_14 (.ptr b 0 0) (S 2 3 (ql zm (L.take i))) (.int .u64 (L.length:Int)) (.int .i64 at_) (.int .u64 (i:Int)) hp=B44_12 (.ptr b 0 0) (S 2 3 (ql zm (L.take (i+1)))) (.int .u64 (L.length:Int)) (.int .i64 (at_+e.sz)) (.int .u64 ((i+1:Nat):Int)) (hp.put b 0 (Rc k l (p+1+e.nm.length+(uv e.sz.toNat).length) 0)):=by
   rw[qra]
   unfold zm at ap
   rw[hat]at ap
   have sm:Value.string (ByteArray.mk (Array.mk (jg e.nm)))=st e.nm:=rfl
   have ap:zh 32 3 (S 2 3 (ql zm (L.take i))) (S 1 3 [.sc (st e.nm),.sc (.int .i64 at_),.sc (.int .i64 e.sz)])=some (S 2 3 (ql zm (L.take (i+1)))):=ap
   generalize ql zm (L.take (i+1))=R2 at*
   generalize ql zm (L.take i)=R at*
   generalize hp.put b 0 (Rc k l (p+1+e.nm.length+(uv e.sz.toNat).length) 0)=H3 at*
   generalize hp.put b 0 (Rc k l (p+1+e.nm.length) 0)=H2 at*
   generalize hp.put b 0 (Rc k l (p+1) 0)=H1 at*
   generalize LI .u8 e.nm=NM at*
   generalize((i+1:Nat):Int)=J at*
   generalize(e.nm.length:Int)=NL at*
   simp[b1,cv1,b2,bu,b3,cv2,sm]
   generalize st e.nm=N at*
   simp[qi,ap,w3,w4]
   done
  rw[<-b14,YL]
  generalize ql zm (L.take i)=R at*
  simp[hlt,er]
end
theorem zbo:∀{l:List Ie} (i:Nat),(∀e∈l,e.nm.length<=255/\Bt e.nm)->By (xR l i)
 |[],_,_=>By.nil
 |e::r,i,h=>by
  have he:=h e qe
  refine By.app ?_ (zbo (l:=r) (i+1) fun x hx=>h x (by simp[hx]))
  unfold xB
  refine By.app ?_ (By.app (By.app (fun x hx=>?_) he.2) (By.uv _))
  ·split
   ·exact By.uv _
   ·exact By.nil
  ·rw[zjh.mp hx]
   omega
theorem zce(L:List Ie)(hx:Xok L):(xH L).length<=300000/\By (xH L):=by
 have hlen:=hx.len
 have a:=qji (l:=L) 0 (fun e he=>⟨(hx.nl e he).2,(hx.po e he).2,(hx.sz e he).2⟩)
 have u:=qu (n:=L.length) qc
 refine⟨by unfold xH;rw[zh8];omega,By.app (By.uv _) (zbo 0 fun e he=>⟨(hx.nl e he).2,hx.nb e he⟩)⟩
theorem qom(k:Nat)(L:List Ie)(hx:Xok L)(hn:wj (L.map Ie.nm)=true)(hp:Hp):∃hp',run cxX 44 [S k 1 (LI .u8 (xY L))] hp=some (.tup [S 2 3 (ql zm L),.sc (.int .i64 0)],hp'):=by
 cases L with
 |nil=>
  have:=Kz k hp
  rw[<-xY0]at this
  exact this
 |cons e r=>
  obtain⟨l1,l2⟩:=zce (e::r) hx
  have hlen:=hx.len
  have rs:=vF (rk k) (xH (e::r)) qc l2 hp0
  have ln:∀k,zd (S k 1 (LI .u8 (qV (xH (e::r)))))=some ((xH (e::r)).length+4):=fun k=>by rw[qI];simp[jT]
  have ne:LI .u8 (qV (xH (e::r)))≠[]:=by
   intro h
   have:=congrArg List.length h
   simp at this
   have:=congrArg List.length this
   rw[jT]at this
   cases this
  have sl:=QB (rk k) (LI .u8 (qV (xH (e::r)))) (xH (e::r)).length (by simp[jT]) ne
  have e1:(LI .u8 (qV (xH (e::r)))).take (xH (e::r)).length=LI .u8 (xH (e::r)):=by
   unfold qV LI
   rw[zjp,zlp qe]
  rw[e1]at sl
  have wr:=vB 0 (xH (e::r)) hp
  have r0:rk 0=0:=rfl
  rw[r0]at wr
  have d0:(xH (e::r)).drop 0=uv (e::r).length++(uv e.po.toNat++xT (e::r)):=by
   show uv (e::r).length++xR (e::r) 0=_
   rw[xR_0]
  have hl9:(xH (e::r)).length<=1000000000:=qc
  have hpo:=hx.po e qe
  have t1:=XG hp.next 0 (xH (e::r)) hl9 l2 (most:=1000) d0 hlen qf (hp.new (Rc 0 (xH (e::r)) 0 0)) (ziv _) (qF _ _)
  have d1:=vK d0
  have q1:=QP (ziv _) d0
  have t2:=XG hp.next 0 (xH (e::r)) hl9 l2 (most:=1048576) d1 qc qf ((hp.new (Rc 0 (xH (e::r)) 0 0)).put hp.next 0 (Rc 0 (xH (e::r)) (0+(uv (e::r).length).length) 0)) q1 (qw _ _ _)
  have d2:=vK d1
  have q2:=QP q1 d1
  rw[zo]at t2
  have es:((e.po.toNat:Nat):Int)=e.po:=qc
  rw[es]at t2
  simp only[zkf]at t1 t2
  obtain⟨hp',z⟩:=qxr hp.next 0 (xH (e::r)) hl9 l2 (e::r) hx hn (e::r) 0 _ e.po _ rfl (ziv _) d2 q2 (fun e' he'=>by cases he';rfl) (qw (hp.new (Rc 0 (xH (e::r)) 0 0)) hp.next (Rc 0 (xH (e::r)) (0+(uv (e::r).length).length+(uv e.po.toNat).length) 0))
  refine⟨hp',?_⟩
  have z:B44_12 (.ptr hp.next 0 0) (S 2 1 []) (.int .u64 ((e::r).length:Int)) (.int .i64 e.po) (.int .u64 0) _=_:=z
  have w1:IntKind.i64.wrap ((((xH (e::r)).length+4:Nat):Int)-4)=((xH (e::r)).length:Int):=qh
  have cv2:=Vv e.po
  have w2:IntKind.i64.wrap e.po=e.po:=qh
  rw[w2]at cv2
  have c1:¬((((xH (e::r)).length+4:Nat):Int)<4):=qc
  have c2:(0:Int)<((e::r).length:Int):=by simp only[zid];omega
  rw[<-z,E44]
  unfold xY
  clear z d0 d1 d2 q1 q2 e1 ne
  generalize LI .u8 (qV (xH (e::r)))=Y at*
  generalize LI .u8 (xH (e::r))=X at*
  generalize(hp.new (Rc 0 (xH (e::r)) 0 0)).put hp.next 0 (Rc 0 (xH (e::r)) (0+(uv (e::r).length).length+(uv e.po.toNat).length) 0)=H3 at*
  generalize(hp.new (Rc 0 (xH (e::r)) 0 0)).put hp.next 0 (Rc 0 (xH (e::r)) (0+(uv (e::r).length).length) 0)=H2 at*
  generalize hp.new (Rc 0 (xH (e::r)) 0 0)=H1 at*
  generalize(xH (e::r)).length+4=M at*
  generalize((xH (e::r)).length:Int)=XL at*
  generalize((e::r).length:Int)=N at*
  simp[-qI,ln,c1,rs,w1,sl,wr,t1,c2,t2,cv2,qb8]
  done
def WR(l:List (Frm×Nat))(m:List Int):List Int:=hdB++m++xY (qJ l 6)++jQ (hdB++m).length (xY (qJ l 6)).length
def opB(Y:AV)(es:List Ie):List AV:=[Y,S 3 3 (ql zm es)]
theorem qxv(Y:AV)(AT:Nat)(hAT:AT<=1000000)(es:List Ie)(he:es.length<=1000)(k:Nat)(x9:AV)(hp:Hp):∀(r:List (Frm×Nat)) (i a:Nat),es.drop i=qJ r a->i<=es.length->a+(jX r).length=AT->
 B16_21 Y (.int .i64 (AT:Int)) x9 (.int .i64 (a:Int)) (S k 3 (ql zm es)) (.int .i64 (es.length:Int)) (.int .i64 (i:Int)) hp=B16_21 Y (.int .i64 (AT:Int)) x9 (.int .i64 (AT:Int)) (S k 3 (ql zm es)) (.int .i64 (es.length:Int)) (.int .i64 (es.length:Int)) hp:=by
 intro r
 induction r with
 |nil=>
  intro i a hr hi ha
  have h1:=qC (show es.drop i=[]from hr)
  have e1:i=es.length:=qc
  have e2:a=AT:=by
   rw[<-ha]
   rfl
  rw[e1,e2]
 |cons f r ih=>
  intro i a hr hi ha
  obtain⟨e1,e2,hi',e3⟩:=qv (show es.drop i=⟨f.1.nm,a,(jb f.1).length⟩::qJ r (a+(jb f.1).length)from hr)
  have hlt:(i:Int)<(es.length:Int):=qc
  rw[qhu,zh8]at ha
  have ix:=xI zm 3 qf k (fun x _=>jP x) e1
  have w1:IntKind.i64.wrap ((a:Int)+((jb f.1).length:Int))=((a+(jb f.1).length:Nat):Int):=qh
  have w2:IntKind.i64.wrap ((i:Int)+1)=((i+1:Nat):Int):=qh
  rw[<-ih (i+1) (a+(jb f.1).length) e2 qc qc]
  conv=>lhs;rw[YQ]
  generalize ql zm es=R at*
  unfold zm at ix
  generalize st f.1.nm=N at*
  generalize((i+1:Nat):Int)=J at*
  generalize((a+(jb f.1).length:Nat):Int)=Q at*
  generalize((jb f.1).length:Int)=M at*
  simp[hlt,ix,qo,qi,qm,qk,w1,w2]
theorem qor(en bn:Int)(l:List (Frm×Nat))(k:Nat)(hl:∀p∈l,p.1.Ok)(hn:l.length<=1000)(m:List Int)(hm:By m)(hml:m.length=(jX l).length)(hr:wj (l.map fun p=>p.1.nm)=true)(hs:(hdB++jX l).length+(xY (qJ l 6)).length+12<=900000)(hp:Hp):
 ∃a hp',run cxX 16 [S k 1 (LI .u8 (WR l m)),.agg [.sc (.int .i64 en),.sc (.int .i64 bn)]] hp=
  some (if min (max bn 0) 1048576<((WR l m).length:Int)then .tup [.sc (.pointer none),.sc (.int .i64 6)]else if min (max en 0) 1000<(l.length:Int)then .tup [.sc (.pointer none),.sc (.int .i64 7)]else .tup [.ptr a 0 0,.sc (.int .i64 0)],hp')/\
  (¬(min (max bn 0) 1048576<((WR l m).length:Int))->¬(min (max en 0) 1000<(l.length:Int))->hp'.rd a 0=some (opB (S 0 1 (LI .u8 (WR l m))) (qJ l 6))/\hp.next<=a/\a<hp'.next)/\(∀b<hp.next,hp'.get b=hp.get b)/\hp.next<=hp'.next:=by
 have wi:=vZ en bn hp0
 obtain⟨EN,hEN⟩:∃EN,EN=min (max en 0) 1000:=⟨_,rfl⟩
 obtain⟨BN,hBN⟩:∃BN,BN=min (max bn 0) 1048576:=⟨_,rfl⟩
 rw[<-hEN,<-hBN]at wi⊢
 obtain⟨X,hX⟩:∃X,X=xY (qJ l 6):=⟨_,rfl⟩
 obtain⟨A,hA⟩:∃A,A=hdB++m:=⟨_,rfl⟩
 obtain⟨F,hF⟩:∃F,F=jQ A.length X.length:=⟨_,rfl⟩
 have h6:hdB.length=6:=rfl
 have lA:A.length=6+m.length:=by rw[hA,zh8,h6]
 have lF:F.length=12:=by rw[hF,vk]
 have hY:WR l m=A++X++F:=by rw[hF,hA,hX];rfl
 obtain⟨N,hN⟩:∃N,N=A.length+X.length+12:=⟨_,rfl⟩
 have hNs:N<=900000:=by
  rw[zh8,h6,<-hX]at hs
  omega
 have lY:(WR l m).length=N:=by rw[hY,zh8,zh8,lF];omega
 obtain⟨Y,hYY⟩:∃Y,Y=LI .u8 (WR l m):=⟨_,rfl⟩
 have eY:Y=LI .u8 A++LI .u8 X++LI .u8 F:=by rw[hYY,hY];unfold LI;rw[zjp,zjp]
 have ln:Y.length=N:=by rw[hYY];simp[lY]
 have lk:∀k,zd (S k 1 Y)=some N:=fun k=>by rw[qI,ln]
 have ne:Y≠[]:=by
  intro e
  rw[e]at ln
  simp at ln
  omega
 have llA:(LI .u8 A).length=A.length:=qe
 have llX:(LI .u8 X).length=X.length:=qe
 have llF:(LI .u8 F).length=12:=by simp[lF]
 have s1:=QB (rk k) Y 6 qc ne
 have e1:Y.take 6=LI .u8 hdB:=by
  rw[hYY,hY,hA]
  rfl
 rw[e1]at s1
 have s1:zS 1 (S (rk k) 1 Y) none (some (.int .i64 6)) none=some (S 0 1 (LI .u8 hdB)):=s1
 have bu:=xW hdB
 have s2:=yP (rk k) Y .i64 ((N-12:Nat):Int) qc qc
 have e2:Y.drop ((N-12:Nat):Int).toNat=LI .u8 F:=by
  rw[zik,eY,List.drop_left' (by rw[zh8,llA,llX];omega)]
 rw[e2]at s2
 have s3:=XH (rk k) Y A.length (N-12) qc qc ne
 have e3:(Y.drop A.length).take (N-12-A.length)=LI .u8 X:=by
  rw[eY,zio,List.drop_left' llA,zlp (by rw[llX];omega)]
 rw[e3]at s3
 generalize tg (rk k) Y=t2 at s2
 have hW:∀x∈je A.length++je X.length,0<=x/\x<256:=fun x hx=>(zip.mp hx).elim (yw x) (yw x)
 have cr:=vF (rk t2) (je A.length++je X.length) (by rw[zh8,zx,zx];decide) hW hp0
 have cr:run cxX 41 [S (rk t2) 1 (LI .u8 F)] hp0=some (.sc (.bool true),hp0):=by rw[hF];exact cr
 have wr:=vB (rk t2) F hp
 have dF:F=je A.length++(je X.length++je (qQ (je A.length++je X.length))):=by rw[hF,<-List.append_assoc];rfl
 have w1:=xX hp.next (rk (rk t2)) F qc A.length qc 0 _ dF (hp.new (Rc (rk (rk t2)) F 0 0)) (ziv _) (qF _ _)
 have w2:=xX hp.next (rk (rk t2)) F qc X.length qc 4 (je (qQ (je A.length++je X.length))) (by rw[dF];rfl) ((hp.new (Rc (rk (rk t2)) F 0 0)).put hp.next 0 (Rc (rk (rk t2)) F (0+4) 0)) qc (qw _ _ _)
 rw[zo]at w2
 obtain⟨H1,hH1⟩:∃H1,H1=(hp.new (Rc (rk (rk t2)) F 0 0)).put hp.next 0 (Rc (rk (rk t2)) F (4+4) 0):=⟨_,rfl⟩
 rw[<-hH1]at w2
 have o1:∀b<hp.next,H1.get b=hp.get b:=fun b hb=>by rw[hH1,yg _ _ _ qc,jE _ _ qc]
 have n1:H1.next=hp.next+1:=by rw[hH1];rfl
 have eo:=QN l 6 hl (by rw[zh8,h6]at hs;omega) hn
 have rs:wj ((qJ l 6).map Ie.nm)=true:=by rw[QO];exact hr
 obtain⟨g,xt⟩:=qom 0 (qJ l 6) eo rs hp0
 rw[<-hX]at xt
 have el:(qJ l 6).length=l.length:=vI l 6
 have lx:∀k,zd (S k 3 (ql zm (qJ l 6)))=some l.length:=fun k=>by rw[<-el];exact kD zm 3 qf k (fun x _=>jP x)
 have z1:IntKind.i64.wrap ((N:Int)-12)=((N-12:Nat):Int):=qh
 have z2:IntKind.i64.wrap (A.length:Int)=(A.length:Int):=qh
 have z3:IntKind.i64.wrap (X.length:Int)=(X.length:Int):=qh
 have z4:IntKind.i64.wrap ((A.length:Int)+(X.length:Int))=((N-12:Nat):Int):=qh
 have z5:IntKind.i64.wrap (((N-12:Nat):Int)+12)=(N:Int):=qh
 have c1:¬((N:Int)<18):=qc
 have c2:¬((A.length:Int)<6):=qc
 have c3:¬((N:Int)<(X.length:Int)):=qc
 have cvA:=yb (A.length:Int)
 have cvX:=yb (X.length:Int)
 rw[z2]at cvA
 rw[z3]at cvX
 have hU:jg hdB=[72,69,82,66,49,10]:=qf
 have lY2:((WR l m).length:Int)=(N:Int):=by rw[lY]
 rw[lY2,<-hYY]
 --from the marks on
 have b14:BN<(N:Int)\/(¬(BN<(N:Int))/\∀r,B16_14 (S k 1 Y) (.int .i64 (A.length:Int)) (.int .i64 (X.length:Int)) [.sc (.int .i64 EN),.sc (.int .i64 BN)] H1=r->run cxX 16 [S k 1 Y,.agg [.sc (.int .i64 en),.sc (.int .i64 bn)]] hp=r):=by
  by_cases c:BN<(N:Int)
  ·exact .inl c
  ·refine .inr ⟨c,fun r hr=>?_⟩
   rw[<-hr,E16]
   clear hr xt lx o1 hH1 s3 e1 e2 e3 eY dF hYY hF hX hA eo rs
   generalize LI .u8 hdB=HB at*
   generalize LI .u8 F=FF at*
   generalize(hp.new (Rc (rk (rk t2)) F 0 0)).put hp.next 0 (Rc (rk (rk t2)) F (0+4) 0)=H2 at*
   generalize hp.new (Rc (rk (rk t2)) F 0 0)=H0 at*
   generalize((N-12:Nat):Int)=N12 at*
   generalize(A.length:Int)=AL at*
   generalize(X.length:Int)=XL at*
   simp[-qI,wi,qm,qo,qi,qk,lk,c,c1,s1,bu,hU,z1,s2,cr,wr,w1,cvA,w2,cvX,c2,c3,z4,z5]
   done
 rcases b14 with c|⟨c,b14⟩
 ·refine⟨0,hp,?_,fun h=>absurd c h,fun _ _=>rfl,zif _⟩
  rw[if_pos c,E16]
  simp[-qI,wi,qm,qo,qi,qk,lk,c]
 ·by_cases d:EN<(l.length:Int)
  ·refine⟨0,H1,?_,fun _ h=>absurd d h,o1,qc⟩
   rw[if_neg c,if_pos d]
   refine b14 _ ?_
   rw[YR]
   generalize((N-12:Nat):Int)=N12 at*
   generalize(A.length:Int)=AL at*
   generalize(X.length:Int)=XL at*
   generalize LI .u8 X=XX at*
   generalize ql zm (qJ l 6)=R at*
   simp[-qI,z4,s3,xt,qi,lx,d]
   done
  ·have xl:=qxv (S k 1 Y) A.length qc (qJ l 6) qc 3 (S 3 3 (ql zm (qJ l 6))) H1 l 0 6 rfl (ziv _) qc
   rw[el]at xl
   have ap:=fun k=>jj .u8 [] 1 (.inl rfl) 1 qf k (WR l m) (by rw[lY];simp;omega)
   rw[zi5,<-hYY]at ap
   have ap:∀k,zh 1 1 (S 1 1 []) (S k 1 Y)=some (S 1 1 Y):=ap
   have xl:B16_21 (S k 1 Y) (.int .i64 (A.length:Int)) (S 3 3 (ql zm (qJ l 6))) (.int .i64 6) (S 3 3 (ql zm (qJ l 6))) (.int .i64 (l.length:Int)) (.int .i64 0) H1=_:=xl
   have fin:B16_21 (S k 1 Y) (.int .i64 (A.length:Int)) (S 3 3 (ql zm (qJ l 6))) (.int .i64 (A.length:Int)) (S 3 3 (ql zm (qJ l 6))) (.int .i64 (l.length:Int)) (.int .i64 (l.length:Int)) H1=some (.tup [.ptr H1.next 0 0,.sc (.int .i64 0)],H1.new (opB (S 0 1 Y) (qJ l 6))):=by
    unfold opB
    rw[YQ]
    generalize ql zm (qJ l 6)=R at*
    have q1:∀(t sz:Nat) (X:List AV),qk 1 (S t sz X)=some [S t sz X]:=fun t sz X=>by rcases zg t sz X with e|e|⟨e,_⟩<;>rw[e]<;>rfl
    have q2:∀x y z:AV,qm [x,y] 0 [z]=some [z,y]:=fun _ _ _=>rfl
    have q3:∀x y z:AV,qm [x,y] 1 [z]=some [x,z]:=fun _ _ _=>rfl
    have q4:∀x y:AV,qk 2 (.agg [x,y])=some [x,y]:=fun _ _=>rfl
    simp[ap,q1,q2,q3,q4]
    done
   rw[fin]at xl
   refine⟨H1.next,H1.new (opB (S 0 1 Y) (qJ l 6)),?_,fun _ _=>⟨qF _ _,qc,zj4 _⟩,fun b hb=>by rw[jE _ _ qc];exact o1 b hb,by show hp.next<=H1.next+1;omega⟩
   rw[if_neg c,if_neg d]
   refine b14 _ ?_
   rw[<-xl,YR]
   clear xl fin ap
   generalize((N-12:Nat):Int)=N12 at*
   generalize(A.length:Int)=AL at*
   generalize(X.length:Int)=XL at*
   generalize LI .u8 X=XX at*
   generalize ql zm (qJ l 6)=R at*
   simp[-qI,z4,s3,xt,qi,lx,d]
   done
theorem qfm(F:AV)(fi:Nat)(caps:List AV)(P:Nat->Bool)(n:Nat)(hn:n<=1000000)(hF:xN F=some (fi,caps))(hro:ro F=F)(hp:Hp)(hr:∀i:Nat,i<n->run cxX fi (.sc (.int .i64 (i:Int))::caps) hp=some (.sc (.bool (P i)),hp))
 (mono:∀i j,i<=j->j<n->P i=true->P j=true):∀(d lo hi:Nat),hi-lo<=d->lo<=hi->hi<=n->(∀k<lo,P k=false)->(∀k,hi<=k->k<n->P k=true)->
 ∃j,j<=n/\B119_2 F (.int .i64 (lo:Int)) (.int .i64 (hi:Int)) hp=some (.sc (.int .i64 (j:Int)),hp)/\(∀k<j,P k=false)/\(∀k,j<=k->k<n->P k=true):=by
 intro d
 induction d with
 |zero=>
  intro lo hi hd h1 h2 h3 h4
  have e:lo=hi:=qc
  subst e
  have hlt:¬((lo:Int)<(lo:Int)):=qc
  refine⟨lo,h2,?_,h3,h4⟩
  rw[QY]
  simp
 |succ d ih=>
  intro lo hi hd h1 h2 h3 h4
  by_cases c:lo<hi
  ·have hlt:(lo:Int)<(hi:Int):=qc
   obtain⟨m,hm⟩:∃m,m=(lo+hi)/2:=⟨_,rfl⟩
   have sh:∀t x y,qs Tryz.prog .shr t x y (.int .u64 ((lo+hi:Nat):Int)) (.int .u64 1)=some (.int .u64 (m:Int)):=fun t x y=>by
    have:=qfl .u64 (lo+hi) 1 qf t x y .u64
    rw[hm]
    exact this
   have w1:IntKind.i64.wrap ((lo:Int)+(hi:Int))=((lo+hi:Nat):Int):=qh
   have w2:IntKind.u64.wrap ((lo+hi:Nat):Int)=((lo+hi:Nat):Int):=by rw[qx]<;>omega
   have w3:IntKind.i64.wrap (m:Int)=(m:Int):=qh
   have w4:IntKind.i64.wrap ((m:Int)+1)=((m+1:Nat):Int):=qh
   have r:=hr m qc
   have c1:=qh7 ((lo+hi:Nat):Int)
   have c2:=qwj (m:Int)
   rw[w2]at c1
   rw[w3]at c2
   cases q:P m with
   |true=>
    obtain⟨j,j1,z,j2,j3⟩:=ih lo m qc qc qc h3 (fun k hk hkn=>mono m k hk hkn q)
    refine⟨j,j1,?_,j2,j3⟩
    rw[q]at r
    rw[<-z,QY]
    generalize((lo+hi:Nat):Int)=LH at*
    simp[hlt,w1,c1,sh,c2,hro,hF,r]
   |false=>
    obtain⟨j,j1,z,j2,j3⟩:=ih (m+1) hi qc qc h2 (fun k hk=>by
     cases q':P k with
     |false=>rfl
     |true=>
      have:=mono k m qc qc q'
      rw[q]at this
      cases this) h4
    refine⟨j,j1,?_,j2,j3⟩
    rw[q]at r
    rw[<-z,QY]
    generalize((lo+hi:Nat):Int)=LH at*
    simp[hlt,w1,c1,sh,c2,hro,hF,r,w4]
  ·have e:lo=hi:=qc
   subst e
   refine⟨lo,h2,?_,h3,h4⟩
   rw[QY]
   simp
theorem qj0(F:AV)(fi:Nat)(caps:List AV)(P:Nat->Bool)(n:Nat)(hn:n<=1000000)(hF:xN F=some (fi,caps))(hro:ro F=F)(hp:Hp)(hr:∀i:Nat,i<n->run cxX fi (.sc (.int .i64 (i:Int))::caps) hp=some (.sc (.bool (P i)),hp))
 (mono:∀i j,i<=j->j<n->P i=true->P j=true):∃j,j<=n/\run cxX 119 [.sc (.int .i64 (n:Int)),F] hp=some (.sc (.int .i64 (j:Int)),hp)/\(∀k<j,P k=false)/\(∀k,j<=k->k<n->P k=true):=by
 obtain⟨j,j1,z,j2,j3⟩:=qfm F fi caps P n hn hF hro hp hr mono n 0 n qc (ziv _) (zif _) (fun k hk=>absurd hk (Nat.not_lt_zero k)) (fun k h1 h2=>absurd h2 qc)
 refine⟨j,j1,?_,j2,j3⟩
 have z:B119_2 F (.int .i64 0) (.int .i64 (n:Int)) hp=_:=z
 rw[E119,<-z]
 simp
section
variable (k:Nat)(es:List Ie)(hs:(es.map Ie.nm).Pairwise fun a b=>vT a b=true)(hb:∀e∈es,Bt e.nm)(hn:es.length<=1000)(nm:List Int)(hnm:Bt nm)
include hs hb hn hnm
theorem qbb(hp:Hp):∃j hp',j<=es.length/\(∀(i:Nat) (e:Ie),es[i]?=some e->i<j->vT e.nm nm=true)/\(∀(i:Nat) (e:Ie),es[i]?=some e->j<=i->vT e.nm nm=false)/\
 run cxX 50 [S k 3 (ql zm es),.sc (st nm)] hp=some (match es[j]? with|some e=>if e.nm=nm then .tup [.agg (zm e),.sc (.bool true)]else .tup [.agg (zm ⟨[],0,0⟩),.sc (.bool false)]|none=>.tup [.agg (zm ⟨[],0,0⟩),.sc (.bool false)],hp'):=by
 obtain⟨H,hH⟩:∃H,H=(hp.new [S (rk k) 3 (ql zm es)]).new [.sc (st nm)]:=⟨_,rfl⟩
 have r0:H.rd hp.next 0=some [S (rk k) 3 (ql zm es)]:=by
  rw[hH,jH _ _ (by show hp.next≠hp.next+1;omega)]
  exact qF _ _
 have r1:H.rd (hp.next+1) 0=some [.sc (st nm)]:=by rw[hH];exact qF (hp.new _) _
 have gc:∀x:AV,qt [x] 0=some x:=fun _=>rfl
 have gs:∀x:Value,qi [.sc x] 0=some x:=fun _=>rfl
 have ix:=fun(k i:Nat) (e:Ie) (h:es[i]?=some e)=>xI zm 3 qf k (fun x _=>jP x) h
 have rr:rk (rk k)=rk k:=by match k with|0=>rfl|1=>rfl|2=>rfl|n+3=>rfl
 have nmx:∀e:Ie,qi (zm e) 0=some (st e.nm):=fun _=>rfl
 have cl:∀i:Nat,i<es.length->run cxX 120 [.sc (.int .i64 (i:Int)),.ptr hp.next 0 0,.ptr (hp.next+1) 0 0] H=some (.sc (.bool (!vT (es.getD i ⟨[],0,0⟩).nm nm)),H):=by
  intro i hi
  have e1:es[i]?=some (es.getD i ⟨[],0,0⟩):=by rw[zia,zic hi];rfl
  have i1:=ix (rk k) i _ e1
  have hbe:=hb _ (zig e1)
  have ge:=fun t x y=>zc0 Tryz.prog t x y (es.getD i ⟨[],0,0⟩).nm nm hbe hnm
  have n1:=nmx (es.getD i ⟨[],0,0⟩)
  rw[E120]
  generalize zm (es.getD i ⟨[],0,0⟩)=X at*
  generalize ql zm es=R at*
  generalize st (es.getD i ⟨[],0,0⟩).nm=A at*
  generalize st nm=B at*
  simp[r0,gc,rr,i1,n1,r1,gs,ge]
 have mono:∀i j,i<=j->j<es.length->(!vT (es.getD i ⟨[],0,0⟩).nm nm)=true->(!vT (es.getD j ⟨[],0,0⟩).nm nm)=true:=by
  intro i j hij hj hi
  rcases Nat.eq_or_lt_of_le hij with e|hlt
  ·rw[<-e];exact hi
  ·have p:=zlq.mp hs i j qg (by simpa using hj) hlt
   rw[List.getElem_map,List.getElem_map]at p
   have e1:es.getD i ⟨[],0,0⟩=es[i]' qc:=by rw[zia,zic qc];rfl
   have e2:es.getD j ⟨[],0,0⟩=es[j]:=by rw[zia,zic hj];rfl
   rw[e1]at hi
   rw[e2]
   cases q:vT es[j].nm nm with
   |false=>rfl
   |true=>
    have:=QA p q
    rw[this]at hi
    cases hi
 obtain⟨j,j1,z,j2,j3⟩:=qj0 (.fn 120 [.ptr hp.next 0 0,.ptr (hp.next+1) 0 0]) 120 [.ptr hp.next 0 0,.ptr (hp.next+1) 0 0] _ es.length qc rfl rfl H cl mono
 have gd:∀(i:Nat) (e:Ie),es[i]?=some e->es.getD i ⟨[],0,0⟩=e:=fun i e h=>by rw[zia,h];rfl
 refine⟨j,H,j1,fun i e h hi=>?_,fun i e h hi=>?_,?_⟩
 ·have:=j2 i hi
  rw[gd i e h]at this
  simpa using this
 ·have:=j3 i hi (zih.mp h).1
  rw[gd i e h]at this
  simpa using this
 ·have c1:qk 1 (S k 3 (ql zm es))=some [S k 3 (ql zm es)]:=by rcases zg k 3 (ql zm es)with e|e|⟨e,_⟩<;>rw[e]<;>rfl
  have lx:∀k,zd (S k 3 (ql zm es))=some es.length:=fun k=>kD zm 3 qf k (fun x _=>jP x)
  have fl:∀a b,Xh [.ptr a 0 0,.ptr b 0 0]=some ():=fun _ _=>rfl
  have p3:∀x y z a b c:AV,qm [x,y,z] 0 [a,b,c]=some [a,b,c]:=fun _ _ _ _ _ _=>rfl
  have g3:∀x y z:AV,qo [x,y,z] 0 3=some [x,y,z]:=fun _ _ _=>rfl
  have q3:∀x y z:AV,qk 3 (.agg [x,y,z])=some [x,y,z]:=fun _ _ _=>rfl
  have no:B50_3 [.sc (.string ⟨#[]⟩),.sc (.int .i64 0),.sc (.int .i64 0)] H=some (.tup [.agg (zm ⟨[],0,0⟩),.sc (.bool false)],H):=by
   rw[qxk]
   simp[p3,g3]
   rfl
  have nn:(hp.new [S (rk k) 3 (ql zm es)]).next=hp.next+1:=rfl
  cases q:es[j]? with
  |none=>
   have ej:j=es.length:=by have:=List.getElem?_eq_none_iff.mp q;omega
   subst ej
   rw[E50]
   generalize ql zm es=R at*
   generalize st nm=B at*
   simp[c1,<-hH,nn,r0,gc,lx,fl,z,no]
   done
  |some e=>
   have hj:=(zih.mp q).1
   have ne:¬((j:Int)=(es.length:Int)):=qc
   have i1:=ix (rk k) j e q
   have hbe:=hb _ (zig q)
   have sn:=fun t x y=>qmo Tryz.prog t x y e.nm nm hbe hnm
   have n1:=nmx e
   by_cases d:e.nm=nm
   ·rw[decide_eq_true d]at sn
    simp only[d,if_true]
    have yes:B50_4 (.ptr hp.next 0 0) (.int .i64 (j:Int)) [.sc (.string ⟨#[]⟩),.sc (.int .i64 0),.sc (.int .i64 0)] H=some (.tup [.agg (zm e),.sc (.bool true)],H):=by
     rw[qxj]
     unfold zm at*
     generalize ql (fun e=>[.sc (st e.nm),.sc (.int .i64 e.po),.sc (.int .i64 e.sz)]) es=R at*
     simp[r0,gc,rr,i1,g3,q3,p3]
     done
    rw[E50]
    generalize zm e=X at*
    generalize ql zm es=R at*
    generalize st nm=B at*
    generalize st e.nm=A at*
    simp[c1,<-hH,nn,r0,gc,lx,fl,z,ne,rr,i1,n1,r1,gs,sn,yes]
    done
   ·rw[decide_eq_false d]at sn
    simp only[d,if_false]
    rw[E50]
    generalize zm e=X at*
    generalize ql zm es=R at*
    generalize st nm=B at*
    generalize st e.nm=A at*
    simp[c1,<-hH,nn,r0,gc,lx,fl,z,ne,rr,i1,n1,r1,gs,sn,no]
    done
theorem qf7(hp:Hp){i:Nat}{e:Ie}(h:es[i]?=some e) (he:e.nm=nm):∃hp',run cxX 50 [S k 3 (ql zm es),.sc (st nm)] hp=some (.tup [.agg (zm e),.sc (.bool true)],hp'):=by
 obtain⟨j,hp',j1,j2,j3,z⟩:=qbb k es hs hb hn nm hnm hp
 have hi:=(zih.mp h).1
 have e1:j=i:=by
  rcases zmm i j with c|c|c
  ·have:=j2 i e h c
   rw[he,ZW]at this
   cases this
  ·exact c.symm
  ·have hj:j<es.length:=qc
   have:=j3 j es[j] (zic hj) (zif _)
   have p:=zlq.mp hs j i (by simpa using hj) (by simpa using hi) c
   rw[List.getElem_map,List.getElem_map]at p
   have e2:es[i]=e:=(zih.mp h).2
   rw[e2,he,this]at p
   cases p
 subst e1
 refine⟨hp',?_⟩
 rw[z,h]
 simp only[he,if_true]
theorem qds(hp:Hp)(h:∀e∈es,e.nm≠nm):∃hp',run cxX 50 [S k 3 (ql zm es),.sc (st nm)] hp=some (.tup [.agg (zm ⟨[],0,0⟩),.sc (.bool false)],hp'):=by
 obtain⟨j,hp',j1,j2,j3,z⟩:=qbb k es hs hb hn nm hnm hp
 refine⟨hp',?_⟩
 rw[z]
 cases q:es[j]? with
 |none=>rfl
 |some e=>simp only[if_neg (h e (zig q))]
end
theorem qyj(b k:Nat)(l:List Int)(p:Nat)(e:Int)(hp:Hp)(h:hp.rd b 0=some (Rc k l p e)):run cxX 121 [.ptr b 0 0] hp=some (.sc (.int .i64 (p:Int)),hp):=by
 have g:qi (Rc k l p e) 1=some (.int .i64 (p:Int)):=rfl
 rw[E121]
 simp[h,g]
def frX(f:Frm)(m:List Int):List Int:=qV (Kb f)++m
theorem qka(f:Frm)(h:f.Ok)(m:List Int)(c:List Int)(hm:m.length=f.pl.length)(hb:By m)(hc:c.length=4)(hcb:By c)(k:Nat)(hp:Hp):
 ∃hp',run cxX 51 [S k 1 (LI .u8 (frX f (m++c)))] hp=some (if c=je (qQ m)then .tup [.agg (WK ⟨f.nm,f.kd,m⟩ 1),.sc (.int .i64 0)]else .tup [.agg (WK ⟨[],0,[]⟩ 2),.sc (.int .i64 10)],hp'):=by
 have h1:=h.n1;have h2:=h.kd;have h3:=h.pl
 obtain⟨Y,hY⟩:∃Y,Y=frX f (m++c):=⟨_,rfl⟩
 have lH:=JB f
 have lS:(qV (Kb f)).length=f.nm.length+10:=by rw[jT,lH]
 have lY:Y.length=f.nm.length+10+f.pl.length+4:=by
  rw[hY]
  unfold frX
  rw[zh8,lS,zh8,hm,hc]
  omega
 have hl9:Y.length<=1000000000:=qc
 have d0:Y.drop 0=(f.nm.length:Int)::(f.nm++(f.kd::(je f.pl.length++(je (qQ (Kb f))++(m++c))))):=by
  rw[hY]
  show frX f (m++c)=_
  unfold frX qV Kb
  simp[zio]
 rw[<-hY]
 have wr:=vB (rk k) Y hp
 obtain⟨_,d1,q1,_⟩:=qv d0
 have b1:=Ya hp.next (rk (rk k)) Y hl9 d0 (hp.new (Rc (rk (rk k)) Y 0 0)) (ziv _) (qF _ _)
 obtain⟨t,b2⟩:=Kn hp.next (rk (rk k)) Y hl9 d1 ((hp.new (Rc (rk (rk k)) Y 0 0)).put hp.next 0 (Rc (rk (rk k)) Y (0+1) 0)) q1 (qw _ _ _)
 rw[zo]at b2
 have d2:=vK d1
 have q2:=QP (show 0+1<=Y.length from q1) d1
 have b3:=Ya hp.next (rk (rk k)) Y hl9 d2 ((hp.new (Rc (rk (rk k)) Y 0 0)).put hp.next 0 (Rc (rk (rk k)) Y (0+1+f.nm.length) 0)) q2 (qw _ _ _)
 rw[zo]at b3
 obtain⟨_,d3,q3,_⟩:=qv d2
 have b4:=xX hp.next (rk (rk k)) Y hl9 f.pl.length qc (0+1+f.nm.length+1) _ d3 ((hp.new (Rc (rk (rk k)) Y 0 0)).put hp.next 0 (Rc (rk (rk k)) Y (0+1+f.nm.length+1) 0)) q3 (qw _ _ _)
 rw[zo]at b4
 have d4:=vK d3
 rw[zx]at d4
 have q4:0+1+f.nm.length+1+4<=Y.length:=qc
 have b5:=xX hp.next (rk (rk k)) Y hl9 (qQ (Kb f)) (Ke _) (0+1+f.nm.length+1+4) _ d4 ((hp.new (Rc (rk (rk k)) Y 0 0)).put hp.next 0 (Rc (rk (rk k)) Y (0+1+f.nm.length+1+4) 0)) q4 (qw _ _ _)
 rw[zo]at b5
 have ba:=qyj hp.next (rk (rk k)) Y (0+1+f.nm.length+1+4) 0 ((hp.new (Rc (rk (rk k)) Y 0 0)).put hp.next 0 (Rc (rk (rk k)) Y (0+1+f.nm.length+1+4) 0)) (qw _ _ _)
 have be:=Qe hp.next (rk (rk k)) Y (0+1+f.nm.length+1+4+4) 0 ((hp.new (Rc (rk (rk k)) Y 0 0)).put hp.next 0 (Rc (rk (rk k)) Y (0+1+f.nm.length+1+4+4) 0)) (qw _ _ _)
 have ea:0+1+f.nm.length+1+4=f.nm.length+6:=qc
 rw[ea]at ba b5 be b4
 have bu:=xW f.nm
 have sm:Value.string (ByteArray.mk (Array.mk (jg f.nm)))=st f.nm:=rfl
 have ne:LI .u8 Y≠[]:=by
  intro e
  have:=congrArg List.length e
  simp at this
  rw[this]at lY
  simp at lY
 have lk:∀k,zd (S k 1 (LI .u8 Y))=some Y.length:=fun k=>by rw[qI];simp
 have llY:(LI .u8 Y).length=Y.length:=qe
 have s1:=QB (rk k) (LI .u8 Y) (f.nm.length+10) qc ne
 have eYL:LI .u8 Y=LI .u8 (qV (Kb f))++(LI .u8 m++LI .u8 c):=by rw[hY];unfold frX LI;rw[zjp,zjp]
 have llS:(LI .u8 (qV (Kb f))).length=f.nm.length+10:=by simp[lS]
 have llm:(LI .u8 m).length=f.pl.length:=by simp[hm]
 have e1:(LI .u8 Y).take (f.nm.length+10)=LI .u8 (qV (Kb f)):=by rw[eYL,zlp llS]
 rw[e1]at s1
 have r1:=vF 0 (Kb f) qc (qeo h) hp0
 have s2:=yP (rk k) (LI .u8 Y) .i64 ((f.nm.length+10:Nat):Int) qc qc
 have e2:(LI .u8 Y).drop ((f.nm.length+10:Nat):Int).toNat=LI .u8 (m++c):=by
  rw[zik,eYL,List.drop_left' llS]
  unfold LI
  rw[zjp]
 rw[e2]at s2
 generalize tg (rk k) (LI .u8 Y)=t2 at s2
 have s3:=XH (rk k) (LI .u8 Y) (f.nm.length+10) (f.nm.length+10+f.pl.length) qc qc ne
 have e3:((LI .u8 Y).drop (f.nm.length+10)).take (f.nm.length+10+f.pl.length-(f.nm.length+10))=LI .u8 m:=by
  rw[eYL,List.drop_left' llS,zlp (by rw[llm];omega)]
 rw[e3]at s3
 have ap:=jj .u8 [] 1 (.inl rfl) 1 qf 0 m qg
 rw[zi5]at ap
 have ap:zh 1 1 (S 1 1 []) (S 0 1 (LI .u8 m))=some (S 1 1 (LI .u8 m)):=ap
 obtain⟨c0,c1,c2,c3,hc4⟩:∃c0 c1 c2 c3,c=[c0,c1,c2,c3]:=by
  match c,hc with
  |[a,b,c,d],_=>exact⟨a,b,c,d,rfl⟩
 have r2:=Jg (rk t2) m c0 c1 c2 c3 qc hb hp0
 rw[<-hc4]at r2
 have hk:(⟨f.nm,f.kd,m⟩:Frm).Ok:=⟨h.n1,h.nb,h.kd,by show m.length<=800000;omega,hb⟩
 have ck:=KE ⟨f.nm,f.kd,m⟩ 0 hk hp0
 have ea2:f.nm.length+6+4=f.nm.length+10:=qc
 have w1:IntKind.i64.wrap (f.nm.length:Int)=(f.nm.length:Int):=qh
 have cv1:=Vt (f.nm.length:Int)
 rw[w1]at cv1
 have w2:IntKind.i64.wrap (f.pl.length:Int)=(f.pl.length:Int):=qh
 have cv2:=yb (f.pl.length:Int)
 rw[w2]at cv2
 have w3:IntKind.i64.wrap (((f.nm.length+6:Nat):Int)+4)=((f.nm.length+10:Nat):Int):=qh
 have w4:IntKind.i64.wrap ((Y.length:Int)-((f.nm.length+6:Nat):Int))=(f.pl.length:Int)+8:=qh
 have w5:IntKind.i64.wrap ((f.pl.length:Int)+8-4)=(f.pl.length:Int)+4:=qh
 have w6:IntKind.i64.wrap ((f.pl.length:Int)+4)=(f.pl.length:Int)+4:=qh
 have w7:IntKind.i64.wrap (((f.nm.length+10:Nat):Int)+(f.pl.length:Int))=((f.nm.length+10+f.pl.length:Nat):Int):=qh
 have q1':∀(t sz:Nat) (X:List AV),qk 1 (S t sz X)=some [S t sz X]:=fun t sz X=>by rcases zg t sz X with e|e|⟨e,_⟩<;>rw[e]<;>rfl
 have p2:∀x y z w:AV,qm [x,y,z] 2 [w]=some [x,y,w]:=fun _ _ _ _=>rfl
 have p3:∀x y z a b c:AV,qm [x,y,z] 0 [a,b,c]=some [a,b,c]:=fun _ _ _ _ _ _=>rfl
 have g3:∀x y z:AV,qo [x,y,z] 0 3=some [x,y,z]:=fun _ _ _=>rfl
 have q3':∀x y z:AV,qk 3 (.agg [x,y,z])=some [x,y,z]:=fun _ _ _=>rfl
 obtain⟨H5,hH5⟩:∃H5,H5=(hp.new (Rc (rk (rk k)) Y 0 0)).put hp.next 0 (Rc (rk (rk k)) Y (f.nm.length+6+4) 0):=⟨_,rfl⟩
 rw[<-hH5]at b5 be
 refine⟨H5,?_⟩
 by_cases d:c=je (qQ m)
 ·rw[if_pos d]
  have r2:run cxX 41 [S (rk t2) 1 (LI .u8 (m++c))] hp0=some (.sc (.bool true),hp0):=by
   rw[r2,decide_eq_true d]
  unfold WK at ck⊢
  rw[E51]
  clear eYL e1 e2 e3 d0 d1 d2 d3 d4 hY
  generalize(hp.new (Rc (rk (rk k)) Y 0 0)).put hp.next 0 (Rc (rk (rk k)) Y (f.nm.length+6) 0)=H4 at*
  generalize(hp.new (Rc (rk (rk k)) Y 0 0)).put hp.next 0 (Rc (rk (rk k)) Y (0+1+f.nm.length+1) 0)=H3 at*
  generalize(hp.new (Rc (rk (rk k)) Y 0 0)).put hp.next 0 (Rc (rk (rk k)) Y (0+1+f.nm.length) 0)=H2 at*
  generalize(hp.new (Rc (rk (rk k)) Y 0 0)).put hp.next 0 (Rc (rk (rk k)) Y (0+1) 0)=H1 at*
  generalize hp.new (Rc (rk (rk k)) Y 0 0)=H0 at*
  generalize LI .u8 (qV (Kb f))=SH at*
  generalize LI .u8 (m++c)=MC at*
  generalize LI .u8 m=M at*
  generalize LI .u8 f.nm=NM at*
  generalize LI .u8 Y=YY at*
  generalize st f.nm=N at*
  generalize((f.nm.length+10:Nat):Int)=A10 at*
  generalize((f.nm.length+6:Nat):Int)=A6 at*
  generalize((f.nm.length+10+f.pl.length:Nat):Int)=AE at*
  generalize(f.nm.length:Int)=NL at*
  simp[-qI,wr,b1,cv1,b2,bu,b3,b4,cv2,ba,b5,be,w3,s1,r1,lk,w4,w5,w6,s2,r2,w7,s3,ap,q1',p2,g3,sm,ck,p3,q3']
  done
 ·rw[if_neg d]
  have r2:run cxX 41 [S (rk t2) 1 (LI .u8 (m++c))] hp0=some (.sc (.bool false),hp0):=by
   rw[r2,decide_eq_false d]
  unfold WK at ck⊢
  rw[E51]
  clear eYL e1 e2 e3 d0 d1 d2 d3 d4 hY
  generalize(hp.new (Rc (rk (rk k)) Y 0 0)).put hp.next 0 (Rc (rk (rk k)) Y (f.nm.length+6) 0)=H4 at*
  generalize(hp.new (Rc (rk (rk k)) Y 0 0)).put hp.next 0 (Rc (rk (rk k)) Y (0+1+f.nm.length+1) 0)=H3 at*
  generalize(hp.new (Rc (rk (rk k)) Y 0 0)).put hp.next 0 (Rc (rk (rk k)) Y (0+1+f.nm.length) 0)=H2 at*
  generalize(hp.new (Rc (rk (rk k)) Y 0 0)).put hp.next 0 (Rc (rk (rk k)) Y (0+1) 0)=H1 at*
  generalize hp.new (Rc (rk (rk k)) Y 0 0)=H0 at*
  generalize LI .u8 (qV (Kb f))=SH at*
  generalize LI .u8 (m++c)=MC at*
  generalize LI .u8 m=M at*
  generalize LI .u8 f.nm=NM at*
  generalize LI .u8 Y=YY at*
  generalize st f.nm=N at*
  generalize((f.nm.length+10:Nat):Int)=A10 at*
  generalize((f.nm.length+6:Nat):Int)=A6 at*
  generalize((f.nm.length+10+f.pl.length:Nat):Int)=AE at*
  generalize(f.nm.length:Int)=NL at*
  simp[-qI,wr,b1,cv1,b2,bu,b3,b4,cv2,ba,b5,be,w3,s1,r1,lk,w4,w5,w6,s2,r2]
  rfl
theorem qh3:∀{l:List (Frm×Nat)} (a:Nat) {i:Nat} {p:Frm×Nat},l[i]?=some p->(qJ l a)[i]?=some ⟨p.1.nm,((a+(jX (l.take i)).length:Nat):Int),((jb p.1).length:Int)⟩
 |[],_,_,_,h=>by cases h
 |f::r,a,0,p,h=>by cases h;rfl
 |f::r,a,i+1,p,h=>by
  have ih:=qh3 (l:=r) (a+(jb f.1).length) (i:=i) (p:=p) h
  show(qJ r (a+(jb f.1).length))[i]?=_
  rw[ih]
  have:a+(jb f.1).length+(jX (r.take i)).length=a+(jX ((f::r).take (i+1))).length:=by
   show _=a+(jb f.1++jX (r.take i)).length
   rw[zh8]
   omega
  rw[this]
theorem Yy:∀{l:List (Frm×Nat)} {i:Nat} {p:Frm×Nat},l[i]?=some p->jX l=jX (l.take i)++(jb p.1++jX (l.drop (i+1)))
 |[],_,_,h=>by cases h
 |f::r,0,p,h=>by cases h;rfl
 |f::r,i+1,p,h=>by
  have ih:=Yy (l:=r) (i:=i) (p:=p) h
  show jb f.1++jX r=(jb f.1++jX (r.take i))++_
  rw[ih,zio]
  rfl
structure Arc (l : List (Frm × Nat)) (m : List Int) : Prop where
 ok:∀p∈l,p.1.Ok
 len:l.length<=1000
 sz:(hdB++jX l).length+(xY (qJ l 6)).length+12<=900000
 srt:(l.map fun p=>p.1.nm).Pairwise fun a b=>vT a b=true
 by_:By m
 ml:m.length=(jX l).length
theorem Arc.nms{l:List (Frm×Nat)}{m:List Int}(h:Arc l m):((qJ l 6).map Ie.nm).Pairwise (fun a b=>vT a b=true):=by rw[QO];exact h.srt
theorem Arc.xok{l:List (Frm×Nat)}{m:List Int}(h:Arc l m):Xok (qJ l 6):=by
 have:=h.sz
 rw[zh8,show hdB.length=6 from rfl]at this
 exact QN l 6 h.ok qc h.len
theorem Wz{l:List (Frm×Nat)}{m:List Int}(h:Arc l m){i:Nat}{p:Frm×Nat}(hi:l[i]?=some p) (pl c:List Int) (hlen:pl.length=p.1.pl.length) (hb:By pl) (hc:c.length=4) (hcb:By c)
 (hseg:(m.drop (jX (l.take i)).length).take (jb p.1).length=frX p.1 (pl++c)) (a:Nat) (hp:Hp) (hr:hp.rd a 0=some (opB (S 0 1 (LI .u8 (WR l m))) (qJ l 6))):
 run cxX 22 [.ptr a 0 0,.sc (st p.1.nm)] hp=some (if c=je (qQ pl)then .tup [.agg (WK ⟨p.1.nm,p.1.kd,pl⟩ 0),.sc (.int .i64 0)]else .tup [.agg (WK ⟨[],0,[]⟩ 2),.sc (.int .i64 10)],hp):=by
 have hx:=h.xok
 have po:=h.ok p (zig hi)
 have eg:=qh3 6 hi
 obtain⟨g,fd⟩:=qf7 3 (qJ l 6) h.nms (fun e he=>hx.nb e he) hx.len p.1.nm po.nb hp0 eg rfl
 obtain⟨g2,ft⟩:=qka p.1 po pl c hlen hb hc hcb 0 hp0
 obtain⟨x,hX⟩:∃x,x=(jX (l.take i)).length:=⟨_,rfl⟩
 obtain⟨n,hN⟩:∃n,n=(jb p.1).length:=⟨_,rfl⟩
 rw[<-hX,<-hN]at fd hseg
 have ms:=congrArg List.length (Yy hi)
 simp only[zh8]at ms
 rw[<-h.ml,<-hX,<-hN]at ms
 have sz:=h.sz
 rw[zh8,show hdB.length=6 from rfl,<-h.ml]at sz
 have lM:(WR l m).length=6+m.length+(xY (qJ l 6)).length+12:=by
  unfold WR
  rw[zh8,zh8,zh8,vk]
  rfl
 have ne:LI .u8 (WR l m)≠[]:=by
  intro e
  have:=congrArg List.length e
  simp at this
  rw[this]at lM
  simp at lM
 have s3:=XH 0 (LI .u8 (WR l m)) (6+x) (6+x+n) qc (by simp[lM];omega) ne
 have e3:((LI .u8 (WR l m)).drop (6+x)).take (6+x+n-(6+x))=LI .u8 (frX p.1 (pl++c)):=by
  rw[<-hseg]
  unfold LI
  rw[<-List.map_drop,<-List.map_take]
  congr 1
  unfold WR
  rw[show 6+x+n-(6+x)=n by omega,zio,zio,<-List.drop_drop,List.drop_left' (show hdB.length=6 from rfl),List.drop_append_of_le_length qc,List.take_append_of_le_length (by rw[zjt];omega)]
 rw[e3]at s3
 have nt:∀x y:AV,jd (.tup [x,y]) 0=x/\jd (.tup [x,y]) 1=y:=fun _ _=>⟨rfl,rfl⟩
 have w1:IntKind.i64.wrap (((6+x:Nat):Int)+(n:Int))=((6+x+n:Nat):Int):=qh
 have sn:=fun t x y=>qmo Tryz.prog t x y p.1.nm p.1.nm po.nb po.nb
 rw[decide_eq_true rfl]at sn
 have gc0:∀x y:AV,qt [x,y] 0=some x:=fun _ _=>rfl
 have gc1:∀x y:AV,qt [x,y] 1=some y:=fun _ _=>rfl
 have p3:∀x y z a b c:AV,qm [x,y,z] 0 [a,b,c]=some [a,b,c]:=fun _ _ _ _ _ _=>rfl
 have g3:∀x y z:AV,qo [x,y,z] 0 3=some [x,y,z]:=fun _ _ _=>rfl
 have q3':∀x y z:AV,qk 3 (.agg [x,y,z])=some [x,y,z]:=fun _ _ _=>rfl
 have gs0:∀(x:Value) (y z:AV),qi [.sc x,y,z] 0=some x:=fun _ _ _=>rfl
 have gs1:∀(x:Value) (y z:AV),qi [y,.sc x,z] 1=some x:=fun _ _ _=>rfl
 have gs2:∀(x:Value) (y z:AV),qi [y,z,.sc x] 2=some x:=fun _ _ _=>rfl
 unfold opB at hr
 have fd:run cxX 50 [S 3 3 (ql zm (qJ l 6)),.sc (st p.1.nm)] hp0=some (.tup [.agg [.sc (st p.1.nm),.sc (.int .i64 ((6+x:Nat):Int)),.sc (.int .i64 (n:Int))],.sc (.bool true)],g):=fd
 unfold WK at ft⊢
 by_cases d:c=je (qQ pl)
 ·rw[if_pos d]at ft⊢
  rw[E22]
  clear e3 hseg ne
  generalize LI .u8 (WR l m)=Y at*
  generalize LI .u8 (frX p.1 (pl++c))=X at*
  generalize ql zm (qJ l 6)=R at*
  generalize LI .u8 pl=PL at*
  generalize st p.1.nm=N at*
  generalize((6+x+n:Nat):Int)=J at*
  generalize((6+x:Nat):Int)=K at*
  simp[hr,gc0,gc1,fd,p3,g3,q3',gs0,gs1,gs2,w1,s3,ft,sn]
  done
 ·rw[if_neg d]at ft⊢
  rw[E22]
  clear e3 hseg ne
  generalize LI .u8 (WR l m)=Y at*
  generalize LI .u8 (frX p.1 (pl++c))=X at*
  generalize ql zm (qJ l 6)=R at*
  generalize LI .u8 pl=PL at*
  generalize st p.1.nm=N at*
  generalize((6+x+n:Nat):Int)=J at*
  generalize((6+x:Nat):Int)=K at*
  simp[hr,gc0,gc1,fd,p3,g3,q3',gs0,gs1,gs2,w1,s3,ft,sn]
  rfl
theorem KH{l:List (Frm×Nat)}{m:List Int}(h:Arc l m)(nm:List Int)(hnm:Bt nm)(hno:∀p∈l,p.1.nm≠nm)(a:Nat)(Y:AV)(hp:Hp)(hr:hp.rd a 0=some (opB Y (qJ l 6))):
 run cxX 22 [.ptr a 0 0,.sc (st nm)] hp=some (.tup [.agg (WK ⟨[],0,[]⟩ 2),.sc (.int .i64 9)],hp):=by
 have hx:=h.xok
 obtain⟨g,fd⟩:=qds 3 (qJ l 6) h.nms (fun e he=>hx.nb e he) hx.len nm hnm hp0 (fun e he=>by
  have:e.nm∈(qJ l 6).map Ie.nm:=List.mem_map_of_mem he
  rw[QO]at this
  obtain⟨p,hp,e⟩:=ziu.mp this
  rw[<-e]
  exact hno p hp)
 have gc0:∀x y:AV,qt [x,y] 0=some x:=fun _ _=>rfl
 have gc1:∀x y:AV,qt [x,y] 1=some y:=fun _ _=>rfl
 have p3:∀x y z a b c:AV,qm [x,y,z] 0 [a,b,c]=some [a,b,c]:=fun _ _ _ _ _ _=>rfl
 have q3':∀x y z:AV,qk 3 (.agg [x,y,z])=some [x,y,z]:=fun _ _ _=>rfl
 unfold opB at hr
 have fd:run cxX 50 [S 3 3 (ql zm (qJ l 6)),.sc (st nm)] hp0=some (.tup [.agg [.sc (st []),.sc (.int .i64 0),.sc (.int .i64 0)],.sc (.bool false)],g):=fd
 unfold WK
 rw[E22]
 generalize ql zm (qJ l 6)=R at*
 generalize st nm=N at*
 simp[hr,gc0,gc1,fd,p3,q3']
 rfl
theorem x_vo(y:AV)(hy:vr y=true)(hp:Hp):wX Tryz.prog 92 [.ifc 25 y] hp=some (.agg [.sc (typeHandle Tryz.prog 25),.ptr hp.next 0 0,.sc (.int .u64 151)],hp.new [y]):=by
 have e:wX Tryz.prog 92 [.ifc 25 y] hp=(yk (vr y=true)).bind fun _=>some (.agg [.sc (typeHandle Tryz.prog 25),.ptr hp.next 0 0,.sc (.int .u64 151)],hp.new [y]):=qd
 rw[e,zT hy]
 rfl
theorem x_ln(y:AV)(hy:vr y=true)(n c:Nat)(hn:zd y=some n)(hp:Hp)(h:hp.rd c 0=some [y]):wX Tryz.prog 94 [.agg [.sc (typeHandle Tryz.prog 25),.ptr c 0 0,.sc (.int .u64 151)]] hp=some (.sc (.int .i64 (n:Int)),hp):=by
 have e:wX Tryz.prog 94 [.agg [.sc (typeHandle Tryz.prog 25),.ptr c 0 0,.sc (.int .u64 151)]] hp=(hp.rd c 0).bind fun cs=>match cs with
  |[y]=>(yk (vr y=true)).bind fun _=>(zd y).map fun(n:Nat)=>(.sc (.int .i64 (n:Int)),hp)
  |_=>none:=qd
 rw[e,h]
 show(yk (vr y=true)).bind _=_
 rw[zT hy,zib,hn]
 rfl
theorem x_s2(b n:Nat)(hp:Hp):wX Tryz.prog 93 [.ifc 25 (.ms b 0 0 (n+2) 24)] hp=some (.fn 163 [.ms b 0 0 (n+2) 24,.sc (typeHandle Tryz.prog 49)],hp):=qd
theorem x_s1(b:Nat)(hp:Hp):wX Tryz.prog 93 [.ifc 25 (.ms b 0 0 1 24)] hp=some (.fn 156 [],hp):=qd
theorem x_s0(hp:Hp):wX Tryz.prog 93 [.ifc 25 (.sl 24 [])] hp=some (.fn 155 [],hp):=qd
theorem x_sp(i j b n:Nat)(hi:i<n)(hj:j<n)(cs X Y cs1 cs2:List AV)(hp:Hp)(h:hp.rd b 0=some cs)(h1:qo cs (i*24) 24=some X)(h2:qo cs (j*24) 24=some Y)(h3:qm cs (i*24) (Y.map ro1)=some cs1)(h4:qm cs1 (j*24) (X.map ro1)=some cs2):
 wX Tryz.prog 163 [.sc (.int .i64 (i:Int)),.sc (.int .i64 (j:Int)),.ms b 0 0 n 24,.sc (typeHandle Tryz.prog 49)] hp=some (.tup [],hp.put b 0 cs2):=by
 have e:∀i j:Int,wX Tryz.prog 163 [.sc (.int .i64 i),.sc (.int .i64 j),.ms b 0 0 n 24,.sc (typeHandle Tryz.prog 49)] hp=
  (yk (Tryz.prog.globals.size=Tryz.prog.globals.size/\true=true/\24=24/\0<=i/\i<(n:Int)/\0<=j/\j<(n:Int))).bind fun _=>(hp.rd b 0).bind fun cs=>
   (qo cs (0+i.toNat*24) 24).bind fun X=>(qo cs (0+j.toNat*24) 24).bind fun Y=>(qm cs (0+i.toNat*24) (Y.map ro1)).bind fun cs1=>(qm cs1 (0+j.toNat*24) (X.map ro1)).map fun cs2=>(.tup [],hp.put b 0 cs2):=by
  intro i j
  kernel_rfl
 rw[e,zT ⟨rfl,rfl,rfl,zjy i,qc,zjy j,qc⟩,zib,h,zib,zik,zik,ziw,ziw,h1,zib,h2,zib,h3,zib,h4]
 rfl
theorem qox(xb b n i j:Nat)(L:List Be)(hL:∀e∈L,e.Ok)(x p:Be)(hi:L[i]?=some x) (hj:L[j]?=some p) (hn:L.length=n) (hp:Hp) (hx:hp.rd xb 0=some [.ms b 0 0 n 24]) (h:hp.rd b 0=some (ql zC L)):
 run cxX 46 [.sc (.int .i64 (i:Int)),.sc (.int .i64 (j:Int)),.ptr xb 0 0] hp=some (.sc (.bool (vT x.nm p.nm)),hp):=by
 have hi':=(zih.mp hi).1
 have hj':=(zih.mp hj).1
 have i1:idx n (.int .i64 (i:Int))=some i:=za .i64 qc
 have i2:idx n (.int .i64 (j:Int))=some j:=za .i64 qc
 have ks:∀{k:Nat} {e:Be},L[k]?=some e->qi (ql zC L) (k*24)=some (st e.nm):=by
  intro k e hk
  have g:=XM hL hk
  unfold qo at g
  split at g
  ·have g:=zit g
   have e2:(ql zC L)[k*24]?=(zC e)[0]?:=by
    rw[<-g,zlb qf,zi0]
    rfl
   unfold qi
   rw[e2]
   rfl
  ·cases g
 have g1:=ks hi
 have g2:=ks hj
 have sl:=fun t x' y'=>zcy Tryz.prog t x' y' x.nm p.nm (hL x (zig hi)).nb (hL p (zig hj)).nb
 have gc:∀y:AV,qt [y] 0=some y:=fun _=>rfl
 rw[E46]
 generalize ql zC L=R at*
 generalize st x.nm=N at*
 generalize st p.nm=M at*
 simp only[cmb,ch24]
 simp[hx,gc,qN,i1,i2,h,g1,g2,sl]
def wA(xb:Nat):AV:=.fn 46 [.ptr xb 0 0]
noncomputable def Qd(b n:Nat):AV:=.fn 163 [.ms b 0 0 n 24,.sc (typeHandle Tryz.prog 49)]
theorem qp9(xb b n i:Nat)(hn:n<=1000)(hxb:xb≠b):∀(r:List Be) (x:Be) (B:List Be) (hp:Hp),(∀e∈r,e.Ok)->x.Ok->(∀e∈B,e.Ok)->r.length+1+B.length=n->hp.rd xb 0=some [.ms b 0 0 n 24]->hp.rd b 0=some (ql zC (r.reverse++x::B))->
 B166_5 (.int .i64 0) (.int .i64 (n:Int)) (.int .i64 (i:Int)) (.int .i64 (r.length:Int)) [wA xb,Qd b n] hp=B166_3 (.int .i64 0) (.int .i64 (n:Int)) (.int .i64 (i:Int)) [wA xb,Qd b n] (hp.put b 0 (ql zC (Zu r x B))):=by
 intro r
 induction r with
 |nil=>
  intro x B hp _ hx hB hl h1 h
  have e:hp.put b 0 (ql zC (Zu [] x B))=hp:=xj h
  rw[e,qcu]
  simp
 |cons p r ih=>
  intro x B hp hr hx hB hl h1 h
  have hpo:=hr p qe
  have hl':r.length+2+B.length=n:=by simp only[zid]at hl;omega
  have hall:∀e∈(p::r).reverse++x::B,e.Ok:=by
   intro e he
   rcases zip.mp he with q|q
   ·exact hr e (List.mem_reverse.mp q)
   ·rcases zie.mp q with q|q
    ·rw[q];exact hx
    ·exact hB e q
  have gi:((p::r).reverse++x::B)[r.length+1]?=some x:=by rw[zil qe];simp
  have gj:((p::r).reverse++x::B)[r.length]?=some p:=by rw[List.reverse_cons,zio,zil qe];simp
  have ls:=qox xb b n (r.length+1) r.length _ hall x p gi gj qg hp h1 h
  have g1:=XM hall gi
  have g2:=XM hall gj
  have w1:IntKind.i64.wrap (((r.length+1:Nat):Int)-1)=(r.length:Int):=qh
  have hpos:(0:Int)<((r.length+1:Nat):Int):=qc
  have r1:=(ym hx).ro
  have r2:=(ym hpo).ro
  have gf:xN (wA xb)=some (46,[.ptr xb 0 0]):=rfl
  have gf2:xN (Qd b n)=some (163,[.ms b 0 0 n 24,.sc (typeHandle Tryz.prog 49)]):=rfl
  have rf:ro1 (wA xb)=wA xb:=rfl
  have rf2:ro1 (Qd b n)=Qd b n:=rfl
  have gc0:qt [wA xb,Qd b n] 0=some (wA xb):=rfl
  have gc1:qt [wA xb,Qd b n] 1=some (Qd b n):=rfl
  rw[zid,qcu]
  by_cases q:vT x.nm p.nm=true
  ·have e1:Zu (p::r) x B=Zu r x (p::B):=by show(if _ then _ else _)=_;rw[if_pos q]
   have p1:qm (ql zC ((p::r).reverse++x::B)) ((r.length+1)*24) ((zC p).map ro1)=some (ql zC (r.reverse++p::p::B)):=by
    rw[r2]
    have:=qms (A:=(p::r).reverse) (B:=B) (x:=x) (y:=p) hall hpo
    rw[List.length_reverse,zid]at this
    rw[this,List.reverse_cons,zio]
    rfl
   have p2:qm (ql zC (r.reverse++p::p::B)) (r.length*24) ((zC x).map ro1)=some (ql zC (r.reverse++x::p::B)):=by
    rw[r1]
    have:=qms (A:=r.reverse) (B:=p::B) (x:=p) (y:=x) (fun e he=>by
     rcases zip.mp he with q|q
     ·exact hr e (zkg _ (List.mem_reverse.mp q))
     ·rcases zie.mp q with q|q
      ·rw[q];exact hpo
      ·rcases zie.mp q with q|q
       ·rw[q];exact hpo
       ·exact hB e q) hx
    rw[List.length_reverse]at this
    exact this
   have sp:=x_sp (r.length+1) r.length b n qc qc _ _ _ _ _ hp h g1 g2 p1 p2
   have y:=ih x (p::B) (hp.put b 0 (ql zC (r.reverse++x::p::B))) (fun e he=>hr e (by simp[he])) hx (fun e he=>by
    rcases zie.mp he with q|q
    ·rw[q];exact hpo
    ·exact hB e q) qg (by rw[yT _ _ hxb];exact h1) (qw _ _ _)
   rw[zo]at y
   rw[e1,<-y]
   have b7:B166_7 (.int .i64 0) (.int .i64 (n:Int)) (.int .i64 (i:Int)) (.int .i64 ((r.length+1:Nat):Int)) [wA xb,Qd b n] hp=B166_5 (.int .i64 0) (.int .i64 (n:Int)) (.int .i64 (i:Int)) (.int .i64 (r.length:Int)) [wA xb,Qd b n] (hp.put b 0 (ql zC (r.reverse++x::p::B))):=by
    rw[qr5]
    clear y ih ls p1 p2 g1 g2 h
    generalize ql zC (r.reverse++x::p::B)=R2 at*
    generalize((r.length+1:Nat):Int)=J at*
    simp[gc1,w1,rf2,gf2,sp]
   rw[<-b7]
   rw[q]at ls
   clear y ih sp p1 p2 g1 g2 b7 h
   generalize((r.length+1:Nat):Int)=J at*
   simp[hpos,gc0,w1,rf,gf,ls]
  ·have e1:Zu (p::r) x B=(p::r).reverse++x::B:=by show(if _ then _ else _)=_;rw[if_neg q]
   have q':vT x.nm p.nm=false:=by simpa using q
   rw[e1,xj h]
   rw[q']at ls
   clear ih g1 g2 h
   generalize((r.length+1:Nat):Int)=J at*
   simp[hpos,gc0,w1,rf,gf,ls]
theorem qk8(xb b n:Nat)(hn:n<=1000)(hxb:xb≠b):∀(R A:List Be) (hp:Hp),(∀e∈A++R,e.Ok)->A≠[]->A.length+R.length=n->hp.rd xb 0=some [.ms b 0 0 n 24]->hp.rd b 0=some (ql zC (A++R))->
 B166_2 (.int .i64 0) (.int .i64 (n:Int)) (.int .i64 (A.length:Int)) [wA xb,Qd b n] hp=some (.tup [],hp.put b 0 (ql zC (jh A R))):=by
 intro R
 induction R with
 |nil=>
  intro A hp ho hA hl h1 h
  have e:jh A []=A:=rfl
  rw[zi4]at h
  simp only[zi1]at hl
  have hlt:¬((A.length:Int)<(n:Int)):=qc
  rw[e,xj h,YS]
  simp[hlt]
 |cons x R ih=>
  intro A hp ho hA hl h1 h
  simp only[zid]at hl
  have hlt:(A.length:Int)<(n:Int):=qc
  have z:=qp9 xb b n A.length hn hxb A.reverse x R hp (fun e he=>ho e (by simp at he;simp[he])) (ho x qe) (fun e he=>ho e (by simp[he])) qg h1 (by rw[List.reverse_reverse];exact h)
  rw[List.length_reverse]at z
  have e1:Zu A.reverse x R=Xv A x++R:=by
   have:=qhj A.reverse x [] R
   rw[zi5]at this
   exact this
  rw[e1]at z
  have hne:Xv A x≠[]:=fun q=>by have:=Vh A x;rw[q]at this;simp at this
  have y:=ih (Xv A x) (hp.put b 0 (ql zC (Xv A x++R))) (fun e he=>by
   rcases zip.mp he with q|q
   ·rcases zie.mp ((QK A x).mem_iff.mp q)with q|q
    ·rw[q];exact ho x qe
    ·exact ho e (by simp[q])
   ·exact ho e (by simp[q])) hne (by rw[Vh];omega) (by rw[yT _ _ hxb];exact h1) (qw _ _ _)
  rw[zo,Vh]at y
  have w1:IntKind.i64.wrap ((A.length:Int)+1)=((A.length+1:Nat):Int):=qh
  have e2:jh A (x::R)=jh (Xv A x) R:=rfl
  rw[e2,<-y,YS]
  rw[qr6]at z
  simp[hlt,z,w1]
theorem qak(n:Nat)(hn:n<=1)(f g:Nat)(l m:List AV)(hp:Hp):run cxX 166 [.agg [.fn f l,.fn g m],.sc (.int .i64 0),.sc (.int .i64 (n:Int))] hp=some (.tup [],hp):=by
 have hlt:¬((1:Int)<(n:Int)):=qc
 have w1:IntKind.i64.wrap 1=1:=qf
 have b2:∀x,B166_2 (.int .i64 0) (.int .i64 (n:Int)) (.int .i64 1) x hp=some (.tup [],hp):=by
  intro x
  rw[YS]
  simp[hlt]
 rw[E166]
 simp[qk,w1,b2]
theorem qtk(xb b:Nat)(L:List Be)(hL:∀e∈L,e.Ok)(hn:L≠[])(h20:L.length<=12)(hxb:xb≠b)(hp:Hp)(h1:hp.rd xb 0=some [.ms b 0 0 L.length 24])(h:hp.rd b 0=some (ql zC L)):
 run cxX 166 [.agg [wA xb,Qd b L.length],.sc (.int .i64 0),.sc (.int .i64 (L.length:Int))] hp=some (.tup [],hp.put b 0 (ql zC (jh [] L))):=by
 obtain⟨x,R,rfl⟩:∃x R,L=x::R:=by
  cases L with
  |nil=>exact absurd rfl hn
  |cons x R=>exact⟨x,R,rfl⟩
 have o:=qk8 xb b (x::R).length qc hxb R [x] hp hL qe qg h1 h
 have o:B166_2 (.int .i64 0) (.int .i64 ((x::R).length:Int)) (.int .i64 1) [wA xb,Qd b (x::R).length] hp=some (.tup [],hp.put b 0 (ql zC (jh [] (x::R)))):=o
 generalize jh [] (x::R)=T at*
 generalize hN:(x::R).length=N at*
 have w1:IntKind.i64.wrap 1=1:=qf
 have r1:ro1 (wA xb)=wA xb:=rfl
 have r2:ro1 (Qd b N)=Qd b N:=rfl
 rw[E166]
 simp[qk,w1,r1,r2,o]
theorem qtg(A B:AV)(n:Nat)(hn:n<=12)(v:Value)(hA:ro1 A=A)(hB:ro1 B=B)(hp:Hp)(r:Option (AV×Hp))(h:run cxX 166 [.agg [A,B],.sc (.int .i64 0),.sc (.int .i64 (n:Int))] hp=r)(hr:∀h',r=some h'->h'.1= .tup [])(hs:r.isSome=true):
 run cxX 96 [.agg [A,B],.sc (.int .i64 0),.sc (.int .i64 (n:Int)),.sc v] hp=r:=by
 obtain⟨q,rfl⟩:=Option.isSome_iff_exists.mp hs
 obtain⟨t,hp'⟩:=q
 have e:t= .tup []:=hr _ rfl
 subst e
 have w:IntKind.i64.wrap (n:Int)=(n:Int):=qh
 have c:(n:Int)<=12:=qc
 have b3:B96_3 (.int .i64 0) (.int .i64 (n:Int)) v (.bool true) (.bool true) [A,B] hp=some (.tup [],hp'):=by
  have g2:qo [A,B] 0 2=some [A,B]:=rfl
  rw[qw4]
  simp[w,c,g2,hA,hB,h]
 rw[E96]
 simp[qk,hA,hB,b3]
theorem qgd(n:Nat)(hn:n<=12):∃v,∀hp,run cxX 95 [.sc (.int .u64 (n:Int))] hp=some (.sc (.int .i64 v),hp):=by
 obtain⟨v,_,_,z⟩:=qaj n qc
 refine⟨v,fun hp=>?_⟩
 have z0:=z hp0
 rw[E95]
 simp[z0]
theorem Yj(y A B:AV)(n:Nat)(hn:n<=12)(hy:vr y=true)(hry:ro y=y)(hl:zd y=some n)(hA:ro1 A=A)(hB:ro1 B=B)(cA:qk 1 A=some [A])(cB:qk 1 B=some [B])(nB:yn B=some ())(oA:ro A=A)(oB:ro B=B)
 (hs:∀hp,wX Tryz.prog 93 [.ifc 25 y] hp=some (B,hp)) (hp hp':Hp) (h:run cxX 166 [.agg [A,B],.sc (.int .i64 0),.sc (.int .i64 (n:Int))] (hp.new [y])=some (.tup [],hp')):
 run cxX 45 [.ifc 25 y,A] hp=some (.tup [],hp'):=by
 obtain⟨v,z⟩:=qgd n hn
 have z:=z hp0
 have p:=qtg A B n hn (.int .i64 v) hA hB _ _ h (fun h' e=>by cases e;rfl) rfl
 have x1:=x_vo y hy hp
 have x3:=x_ln y hy n hp.next hl (hp.new [y]) (qF _ _)
 have ri:ro (.ifc 25 y)= .ifc 25 y:=rfl
 have cvt:=qh7 (n:Int)
 have w:IntKind.u64.wrap (n:Int)=(n:Int):=qx qc qc
 rw[w]at cvt
 have ps:∀x y:AV,qm [x,y] 0 [A]=some [A,y]:=fun _ _=>rfl
 have ps2:qm [A,.sc .nilFunc] 1 [B]=some [A,B]:=rfl
 generalize hT:typeHandle Tryz.prog 25=T at*
 have c3:qk 3 (.agg [.sc T,.ptr hp.next 0 0,.sc (.int .u64 151)])=some [.sc T,.ptr hp.next 0 0,.sc (.int .u64 151)]:=rfl
 have p3:∀x y z:AV,qm [x,y,z] 0 [.sc T,.ptr hp.next 0 0,.sc (.int .u64 151)]=some [.sc T,.ptr hp.next 0 0,.sc (.int .u64 151)]:=fun _ _ _=>rfl
 have g3:qo [.sc T,.ptr hp.next 0 0,.sc (.int .u64 151)] 0 3=some [.sc T,.ptr hp.next 0 0,.sc (.int .u64 151)]:=rfl
 have rp:ro1 (.ptr hp.next 0 0)= .ptr hp.next 0 0:=rfl
 have g2:qo [A,B] 0 2=some [A,B]:=rfl
 rw[E45]
 simp[ri,x1,c3,p3,hs,nB,g3,rp,x3,cvt,z,cA,ps,oA,oB,cB,ps2,hA,hB,g2,p]
theorem zel{α:Type}(C:α->List AV)(n:Nat)(h0:0<n){l:List α}(hl:∀x∈l,El C n x){hp:Hp}{b:Nat}(hb:hp.rd b 0=some (ql C l)):kO hp (.ms b 0 0 l.length n)=some (.sl n (ql C l),hp.del b):=by
 have g:=qvz C n hl (i:=0) (k:=l.length) qc
 rw[zkb,zj2,zlc]at g
 show(yk (0<n)).bind _=_
 rw[zT h0,zib,hb,zib,g,zib,XN C n hl,zT (qmt C n hl)]
 rfl
theorem qjy(L:List Be)(hL:∀e∈L,e.Ok)(h8:L.length<=12)(s:AV)(hp:Hp)(hs:xg hp 24 (ro s)=some (ql zC L)):
 ∃hp',run cxX 17 [s] hp=some (S 0 24 (ql zC (jh [] L)),hp')/\(∀b<hp.next,hp'.get b=hp.get b)/\hp.next<=hp'.next:=by
 have hLe:∀e∈L,El zC 24 e:=fun e he=>ym (hL e he)
 have gc:∀x:AV,qt [x] 0=some x:=fun _=>rfl
 have cm:∀b g o n z,qk 1 (.ms b g o n z)=some [.ms b g o n z]:=fun _ _ _ _ _=>rfl
 have pn:∀x y:AV,qm [x] 0 [y]=some [y]:=fun _ _=>rfl
 have st:yO Tryz.prog 25=some 49:=qd
 have fl:∀x,Xh [.ptr x 0 0]=some ():=fun _=>rfl
 have rif:∀x,ro (.ifc 25 x)= .ifc 25 x:=fun _=>rfl
 by_cases hne:L=[]
 ·subst hne
  have a:zF 272 24 (S 1 24 []) (ro s) hp=some (S 1 24 [],hp):=zbg 24 272 1 (.inl rfl) _ hp hs
  have cu:qk 1 (S 1 24 [])=some [S 1 24 []]:=rfl
  have H:∃h3,h3=(hp.new [S 2 1 []]).put hp.next 0 [S 1 24 []]:=⟨_,rfl⟩
  obtain⟨h3,e3⟩:=H
  have sl:=Yj (S 0 24 []) (wA hp.next) (.fn 155 []) 0 qc rfl rfl rfl rfl rfl rfl rfl rfl rfl rfl x_s0 h3 _ (qak 0 qc _ _ _ _ _)
  have rd3:h3.rd hp.next 0=some [S 1 24 []]:=by rw[e3];exact qw _ _ _
  have n3:h3.next=hp.next+1:=by rw[e3];rfl
  have rd4:(h3.new [S 0 24 []]).rd hp.next 0=some [S 1 24 []]:=by rw[jH _ _ qc];exact rd3
  have rn:(hp.new [S 2 1 []]).rd hp.next 0=some [S 2 1 []]:=qF _ _
  have ru:ro1 (S 1 24 [])=S 0 24 []:=rfl
  have ri:ro1 (S 0 24 [])=S 0 24 []:=rfl
  have fz:∀h,kO h (S 0 24 [])=some (S 0 24 [],h):=fun _=>rfl
  have sb:vr (S 0 24 [])=true:=rfl
  refine⟨h3.new [S 0 24 []],?_,fun b hb=>?_,?_⟩
  ·have e:S 0 24 (ql zC (jh [] []))=S 0 24 []:=rfl
   have sl:run cxX 45 [.ifc 25 (S 0 24 []),.fn 46 [.ptr hp.next 0 0]] h3=some (.tup [],h3.new [S 0 24 []]):=sl
   rw[e,E17]
   simp[a,cu,rn,pn,<-e3,rd3,gc,ru,st,sb,fl,rif,sl,rd4,fz]
  ·rw[jE _ _ qc,e3,yg _ _ _ qc,jE _ _ qc]
  ·show hp.next<=h3.next+1
   omega
 ·have a:=qn9 zC 24 qf 272 qf hLe hne qc 1 (.inl rfl) _ hp hs
  have H:∃h3,h3=((hp.new (ql zC L)).new [S 2 1 []]).put (hp.next+1) 0 [.ms hp.next 0 0 L.length 24]:=⟨_,rfl⟩
  obtain⟨h3,e3⟩:=H
  have rd3:h3.rd (hp.next+1) 0=some [.ms hp.next 0 0 L.length 24]:=by rw[e3];exact qw _ _ _
  have n3:h3.next=hp.next+2:=by rw[e3];rfl
  have rb:h3.rd hp.next 0=some (ql zC L):=by
   rw[e3,yT _ _ qc,jH _ _ (by show hp.next≠hp.next+1;omega)]
   exact qF _ _
  have f1:(h3.new [.ms hp.next 0 0 L.length 24]).rd (hp.next+1) 0=some [.ms hp.next 0 0 L.length 24]:=by rw[jH _ _ qc];exact rd3
  have f2:(h3.new [.ms hp.next 0 0 L.length 24]).rd hp.next 0=some (ql zC L):=by rw[jH _ _ qc];exact rb
  have h0:0<L.length:=zjj.mpr hne
  have hT:∀e∈jh [] L,El zC 24 e:=fun e he=>hLe e ((yN L []).mem_iff.mp he)
  have lT:(jh [] L).length=L.length:=(yN L []).length_eq
  have main:∃h4:Hp,run cxX 45 [.ifc 25 (.ms hp.next 0 0 L.length 24),wA (hp.next+1)] h3=some (.tup [],h4)/\h4.rd (hp.next+1) 0=some [.ms hp.next 0 0 L.length 24]/\h4.rd hp.next 0=some (ql zC (jh [] L))/\(∀b<hp.next,h4.get b=hp.get b)/\hp.next<=h4.next:=by
   have old:∀b<hp.next,(h3.new [.ms hp.next 0 0 L.length 24]).get b=hp.get b:=fun b hb=>by
    rw[jE _ _ qc,e3,yg _ _ _ qc,jE _ _ (by show b≠hp.next+1;omega),jE _ _ qc]
   by_cases h1:L.length=1
   ·have eL:jh [] L=L:=by
     obtain⟨x,rfl⟩:=List.length_eq_one_iff.mp h1
     rfl
    exact⟨_,Yj (.ms hp.next 0 0 L.length 24) (wA (hp.next+1)) (.fn 156 []) L.length h8 rfl rfl rfl rfl rfl rfl rfl rfl rfl rfl (by rw[h1];exact x_s1 hp.next) h3 _ (qak L.length qc _ _ _ _ _),f1,by rw[eL];exact f2,old,by show hp.next<=h3.next+1;omega⟩
   ·obtain⟨m,hm⟩:∃m,L.length=m+2:=⟨L.length-2,qc⟩
    have xs:∀h,wX Tryz.prog 93 [.ifc 25 (.ms hp.next 0 0 L.length 24)] h=some (Qd hp.next L.length,h):=by
     rw[hm]
     exact x_s2 hp.next m
    have ins:=qtk (hp.next+1) hp.next L hL hne h8 qc _ f1 f2
    exact⟨_,Yj (.ms hp.next 0 0 L.length 24) (wA (hp.next+1)) (Qd hp.next L.length) L.length h8 rfl rfl rfl rfl rfl rfl rfl rfl rfl rfl xs h3 _ ins,by rw[yT _ _ qc];exact f1,qw _ _ _,fun b hb=>by rw[yg _ _ _ qc];exact old b hb,by show hp.next<=h3.next+1;omega⟩
  obtain⟨h4,sl,g1,g2,g3,g4⟩:=main
  have fz:=zel zC 24 qf hT g2
  rw[lT]at fz
  refine⟨h4.del hp.next,?_,fun b hb=>by rw[Zx _ qc];exact g3 b hb,g4⟩
  have rn:((hp.new (ql zC L)).new [S 2 1 []]).rd (hp.next+1) 0=some [S 2 1 []]:=qF (hp.new (ql zC L)) _
  have nn:(hp.new (ql zC L)).next=hp.next+1:=rfl
  have a:zF 272 24 (S 1 24 []) (ro s) hp=some (.ms hp.next 0 0 L.length 24,hp.new (ql zC L)):=a
  have sl:run cxX 45 [.ifc 25 (.ms hp.next 0 0 L.length 24),.fn 46 [.ptr (hp.next+1) 0 0]] h3=some (.tup [],h4):=sl
  have sb:vr (.ms hp.next 0 0 L.length 24)=true:=rfl
  rw[E17]
  generalize ql zC L=R at*
  generalize ql zC (jh [] L)=T at*
  generalize L.length=n at*
  simp[a,cm,nn,rn,pn,<-e3,rd3,gc,st,sb,fl,rif,sl,g1,fz]
  done
def RI(hp:Hp)(b:Nat)(l:List Int):Prop:=l≠[]->hp.rd b 0=some (LI .u8 l)/\b<hp.next
theorem zc9(P:Program)(t:TypeId)(x y:Operand)(c:Int)(hc:0<=c/\c<256)(k:Nat)(hk:k<=8):qs P .shr t x y (.int .u8 c) (.int .i64 (k:Int))=some (.int .u8 ((c.toNat/2^k:Nat):Int)):=by
 rw[jF P t x y _ _ _ _ qc]
 have e:min (k:Int).toNat IntKind.u8.bits=k:=by
  show min (k:Int).toNat 8=k
  omega
 obtain⟨n,rfl⟩:=zkw hc.1
 rw[e,zjv _ (by have:=zk3 k;exact Int.le_of_lt (Int.pow_pos qf))]
 congr 2
theorem zbe(c:Int){k:Nat}(hk:k<8):(bo8 c).drop k=((c.toNat/2^k%2:Nat):Int)::(bo8 c).drop (k+1):=by
 have h:k<(bo8 c).length:=by simp[bo8];exact hk
 rw[zi2 h]
 congr 1
 simp[bo8]
theorem zbb(x0:AV)(i:Nat)(c:Int)(hc:0<=c/\c<256)(hi:i<1000000)(hix:zL 1 (ro x0) (.int .i64 (i:Int))=some [.sc (.int .u8 c)]):∀(f k b:Nat) (l:List Int) (hp:Hp),k+f=8->RI hp b l->l.length+f<=900000->
 ∃b' hp',B85_6 x0 (xK 2 1 b l) (.int .i64 (i:Int)) (.int .i64 (k:Int)) hp=B85_3 x0 (xK 2 1 b' (l++(bo8 c).drop k)) (.int .i64 ((i+1:Nat):Int)) hp'/\RI hp' b' (l++(bo8 c).drop k):=by
 intro f
 induction f with
 |zero=>
  intro k b l hp hk h _
  have e:k=8:=qc
  subst e
  have e8:(bo8 c).drop 8=[]:=zj8 (by simp[bo8])
  rw[e8,zi4]
  refine⟨b,hp,?_,h⟩
  have w1:IntKind.i64.wrap ((i:Int)+1)=((i+1:Nat):Int):=qh
  rw[qi5]
  simp[w1]
 |succ f ih=>
  intro k b l hp hk h hl
  have hlt:(k:Int)<8:=qc
  have sh:=fun t x y=>zc9 Tryz.prog t x y c hc k qc
  have rm:∀t x y,qs Tryz.prog .rem t x y (.int .u8 ((c.toNat/2^k:Nat):Int)) (.int .u8 2)=some (.int .u8 ((c.toNat/2^k%2:Nat):Int)):=by
   intro t x y
   rw[qP _ _ _ _ _ _ _ qc,qO (zjy _)]
   rfl
  have w1:IntKind.i64.wrap ((k:Int)+1)=((k+1:Nat):Int):=qh
  have ed:=zbe c (show k<8 by omega)
  have key:∃b1 hp1,zF 1 1 (ro (xK 2 1 b l)) (S 1 1 [.sc (.int .u8 ((c.toNat/2^k%2:Nat):Int))]) hp=some (xK 2 1 b1 (l++[((c.toNat/2^k%2:Nat):Int)]),hp1)/\RI hp1 b1 (l++[((c.toNat/2^k%2:Nat):Int)]):=by
   by_cases hne:l=[]
   ·subst hne
    exact⟨hp.next,_,ZM .u8 _ 1 qf hp,fun _=>⟨qF _ _,zj4 _⟩⟩
   ·obtain⟨h1,h2⟩:=h hne
    have ap:=JM .u8 l ((c.toNat/2^k%2:Nat):Int) 1 b qf qc hne hp h1
    refine⟨hp.next,_,?_,fun _=>⟨qF (hp.del b) _,zj4 _⟩⟩
    rw[Zp _ _ _ hne,Zp _ _ _ qe,zh8,ziz]
    exact ap
  obtain⟨b1,hp1,ap,r1⟩:=key
  obtain⟨b2,hp2,z,r2⟩:=ih (k+1) b1 (l++[((c.toNat/2^k%2:Nat):Int)]) hp1 qc r1 qg
  have eq:l++[((c.toNat/2^k%2:Nat):Int)]++(bo8 c).drop (k+1)=l++(bo8 c).drop k:=by rw[ed,zio];rfl
  rw[eq]at z r2
  refine⟨b2,hp2,?_,r2⟩
  rw[<-z,qi5]
  clear z r1 r2 ed eq ih
  generalize xK 2 1 b1 (l++[((c.toNat/2^k%2:Nat):Int)])=V1 at*
  generalize xK 2 1 b l=V at*
  generalize((c.toNat/2^k%2:Nat):Int)=Q at*
  generalize((c.toNat/2^k:Nat):Int)=Q1 at*
  generalize((k+1:Nat):Int)=K1 at*
  simp[hlt,hix,qi,sh,rm,ap,w1]
theorem qwv(k:Nat)(m:List Int)(hm:∀c∈m,0<=c/\c<256)(hl:m.length<=100000):∀(r:List Int) (i b:Nat) (hp:Hp),m.drop i=r->i<=m.length->RI hp b (ZJ (m.take i))->
 ∃b' hp',B85_3 (S k 1 (LI .u8 m)) (xK 2 1 b (ZJ (m.take i))) (.int .i64 (i:Int)) hp=B85_3 (S k 1 (LI .u8 m)) (xK 2 1 b' (ZJ m)) (.int .i64 (m.length:Int)) hp'/\RI hp' b' (ZJ m):=by
 intro r
 induction r with
 |nil=>
  intro i b hp hr hi h
  have h1:=qC hr
  have e:i=m.length:=qc
  subst e
  rw[zix (zif _)]at h⊢
  exact⟨b,hp,rfl,h⟩
 |cons c r ih=>
  intro i b hp hr hi h
  obtain⟨e1,e2,hi',e3⟩:=qv hr
  have hlt:(i:Int)<(m.length:Int):=qc
  have hix:zL 1 (ro (S k 1 (LI .u8 m))) (.int .i64 (i:Int))=some [.sc (.int .u8 c)]:=by
   rw[ro_S,Qo,if_pos qc,zik,Zy?,e1]
   rfl
  have et:ZJ (m.take (i+1))=ZJ (m.take i)++bo8 c:=by
   rw[zk4,e1]
   unfold ZJ
   simp
  have hbl:(ZJ (m.take i)).length<=800000:=by rw[qn7,ziy];omega
  obtain⟨b1,hp1,z1,r1⟩:=zbb (S k 1 (LI .u8 m)) i c (hm c (zig e1)) qc hix 8 0 b (ZJ (m.take i)) hp rfl h qc
  rw[zj2,<-et]at z1 r1
  obtain⟨b2,hp2,z2,r2⟩:=ih (i+1) b1 hp1 e2 qc r1
  refine⟨b2,hp2,?_,r2⟩
  have ln:zd (S (rk k) 1 (LI .u8 m))=some m.length:=by rw[qI];simp
  rw[<-z2,<-z1]
  conv=>lhs;rw[qi6]
  generalize xK 2 1 b (ZJ (m.take i))=V at*
  generalize LI .u8 m=Y at*
  simp[-qI,ln,hi']
theorem qh6(l:List Int)(i t:Nat)(v:Int):(l.set (i+t) v).drop i=(l.drop i).set t v:=by
 rw[List.drop_set,if_neg qc,show i+t-i=t by omega]
theorem qqc(l:List Int)(i t:Nat):l.getD (i+t) 0=(l.drop i).getD t 0:=by
 rw[zia,zia,zi0]
def flp(l:List Int)(j:Nat):List Int:=l.set j (1-l.getD j 0)
theorem qnu{l:List Int}(h:Wq l)(j:Nat):Wq (flp l j):=h.set j
theorem vn(l:List Int)(j:Nat):(flp l j).length=l.length:=List.length_set
theorem qv6{l:List Int}(h:Wq l){i t:Nat}(hj:i+t<l.length):vU ((flp l (i+t)).drop i)=vU (l.drop i)^^^2^t:=by
 unfold flp
 rw[qh6,qqc]
 exact qn1 t (fun n hn=>h n (zkh hn)) (by rw[zjt];omega)
theorem Qt{l:List Int}{j:Nat}(hj:j<l.length):l[j]?=some (l.getD j 0):=by
 rw[zia,zic hj]
 rfl
theorem qew{l:List Int}(h:Wq l)(j:Nat):l.getD j 0=0\/l.getD j 0=1:=by
 by_cases hj:j<l.length
 ·exact h _ (zig (Qt hj))
 ·rw[zia,zjd qc]
  exact .inl rfl
theorem qjr(l:List Int)(h:Wq l)(j:Nat):IntKind.u8.wrap (1-l.getD j 0)=1-l.getD j 0:=by
 have:=qew h j
 rw[zE]<;>omega
def xsp:Nat->Nat->Nat
 |0,_=>0
 |f+1,i=>2^i^^^xsp f (i+1)
theorem qvr(b:Nat):∀(f i:Nat) (l:List Int) (hp:Hp),i+f=32->32<=l.length->l.length<=1000000->Wq l->hp.rd b 0=some (LI .u8 l)->
 ∃l' hp',B85_11 (.ms b 0 0 l.length 1) (.int .i64 (i:Int)) hp=B85_11 (.ms b 0 0 l.length 1) (.int .i64 32) hp'/\l'.length=l.length/\Wq l'/\vU l'=vU l^^^xsp f i/\hp'.rd b 0=some (LI .u8 l'):=by
 intro f
 induction f with
 |zero=>
  intro i l hp hi _ _ hb h
  have e:i=32:=qc
  subst e
  exact⟨l,hp,rfl,rfl,hb,by simp[xsp],h⟩
 |succ f ih=>
  intro i l hp hi h32 hl hb h
  have hlt:(i:Int)<32:=qc
  have hi':i<l.length:=qc
  have i1:idx l.length (.int .i64 (i:Int))=some i:=za .i64 hi'
  have gc:qi (LI .u8 l) i=some (.int .u8 (l.getD i 0)):=by
   unfold qi
   rw[Zy?,Qt hi']
   rfl
  have sb:=qjr l hb i
  have pn:=yU .u8 l i (1-l.getD i 0) hi'
  have w1:IntKind.i64.wrap ((i:Int)+1)=((i+1:Nat):Int):=qh
  obtain⟨l',hp',z,q1,q2,q3,q4⟩:=ih (i+1) (flp l i) (hp.put b 0 (LI .u8 (flp l i))) qc (by rw[vn];exact h32) (by rw[vn];exact hl) (qnu hb i) (qw _ _ _)
  have fb:=qv6 (i:=0) (t:=i) hb qc
  rw[zj2,zj2,ziw]at fb
  refine⟨l',hp',?_,by rw[q1,vn],q2,by rw[q3,fb,Nat.xor_assoc];rfl,q4⟩
  rw[vn]at z
  rw[<-z]
  conv=>lhs;rw[qb3]
  unfold flp
  clear z ih q1 q2 q3 q4 fb
  generalize LI .u8 (l.set i (1-l.getD i 0))=Y2 at*
  generalize LI .u8 l=Y at*
  generalize l.getD i 0=Q at*
  generalize((i+1:Nat):Int)=I1 at*
  simp[hlt,qN,i1,h,gc,sb,pn,w1]
def trm:List Nat:=[0,4,5,6,7,9,10,12,13,14,18,19,21,22,23,24,26,32]
def xst(r:List Nat):Nat:=r.foldr (fun t a=>2^t^^^a) 0
theorem zgf:xst trm=4394350321:=qf
def trI:List Int:=trm.map fun(t:Nat)=>(t:Int)
theorem qx2(k:Nat):trI[k]?=(trm[k]?).map fun(t:Nat)=>(t:Int):=zir
theorem zck:trI=[0,4,5,6,7,9,10,12,13,14,18,19,21,22,23,24,26,32]:=rfl
theorem qof(b i:Nat):∀(r:List Nat) (k:Nat) (l:List Int) (hp:Hp),trm.drop k=r->k<=18->i+32<l.length->l.length<=1000000->Wq l->hp.rd b 0=some (LI .u8 l)->
 ∃l' hp',B85_20 (.ms b 0 0 l.length 1) (S 1 1 (LI .i64 trI)) (.int .i64 (i:Int)) (.int .i64 (k:Int)) hp=B85_16 (.ms b 0 0 l.length 1) (S 1 1 (LI .i64 trI)) (.int .i64 ((i+1:Nat):Int)) hp'/\l'.length=l.length/\Wq l'/\vU (l'.drop i)=vU (l.drop i)^^^xst r/\hp'.rd b 0=some (LI .u8 l'):=by
 intro r
 induction r with
 |nil=>
  intro k l hp hr hk hi hl hb h
  have hk':k=18:=by
   have:=qC hr
   have e:trm.length=18:=rfl
   omega
  subst hk'
  have w1:IntKind.i64.wrap ((i:Int)+1)=((i+1:Nat):Int):=qh
  have ln:zd (S 0 1 (LI .i64 trI))=some 18:=rfl
  refine⟨l,hp,?_,rfl,hb,by simp[xst],h⟩
  rw[qb1]
  generalize LI .i64 trI=T at*
  simp[-qI,ln,qb2,w1]
 |cons t r ih=>
  intro k l hp hr hk hi hl hb h
  obtain⟨e1,e2,hk',e3⟩:=qv hr
  have e18:trm.length=18:=rfl
  have ht:t<=32:=by
   have:∀x∈trm,x<=32:=qf
   exact this t (zig e1)
  have hlt:(k:Int)<18:=qc
  have hit:i+t<l.length:=qc
  have ln:zd (S 0 1 (LI .i64 trI))=some 18:=rfl
  have hix:zL 1 (S 0 1 (LI .i64 trI)) (.int .i64 (k:Int))=some [.sc (.int .i64 (t:Int))]:=by
   rw[Qo,if_pos qc,zik,Zy?,qx2,e1]
   rfl
  have i1:idx l.length (.int .i64 ((i+t:Nat):Int))=some (i+t):=za .i64 hit
  have gc:qi (LI .u8 l) (i+t)=some (.int .u8 (l.getD (i+t) 0)):=by
   unfold qi
   rw[Zy?,Qt hit]
   rfl
  have sb:=qjr l hb (i+t)
  have pn:=yU .u8 l (i+t) (1-l.getD (i+t) 0) hit
  have w0:IntKind.i64.wrap ((i:Int)+(t:Int))=((i+t:Nat):Int):=qh
  have w1:IntKind.i64.wrap ((k:Int)+1)=((k+1:Nat):Int):=qh
  obtain⟨l',hp',z,q1,q2,q3,q4⟩:=ih (k+1) (flp l (i+t)) (hp.put b 0 (LI .u8 (flp l (i+t)))) e2 qc (by rw[vn];exact hi) (by rw[vn];exact hl) (qnu hb _) (qw _ _ _)
  have fb:=qv6 (i:=i) (t:=t) hb hit
  refine⟨l',hp',?_,by rw[q1,vn],q2,by rw[q3,fb,Nat.xor_assoc];rfl,q4⟩
  rw[vn]at z
  rw[<-z]
  conv=>lhs;rw[qb1]
  unfold flp
  clear z ih q1 q2 q3 q4 fb
  generalize LI .i64 trI=T at*
  generalize LI .u8 (l.set (i+t) (1-l.getD (i+t) 0))=Y2 at*
  generalize LI .u8 l=Y at*
  generalize l.getD (i+t) 0=Q at*
  generalize((i+t:Nat):Int)=I0 at*
  generalize((k+1:Nat):Int)=I1 at*
  have g0:∀v:Value,qi [AV.sc v] 0=some v:=fun _=>rfl
  have hk18:k<18:=qc
  simp[-qI,hk18,ln,hix,g0,qN,i1,h,gc,sb,pn,w0,w1]
theorem qif{l:List Int}(h:Wq l){i:Nat}(hi:i<l.length):vU (l.drop (i+1))=vU (l.drop i)/2/\vU (l.drop i)%2=(l.getD i 0).toNat:=by
 have e:l.drop i=l.getD i 0::l.drop (i+1):=by
  rw[zi2 hi]
  congr 1
  rw[zia,zic hi]
  rfl
 have:=qew h i
 rw[e]
 show vU (l.drop (i+1))=((l.getD i 0).toNat+2*vU (l.drop (i+1)))/2/\((l.getD i 0).toNat+2*vU (l.drop (i+1)))%2=_
 omega
theorem qwh(b:Nat):∀(f i:Nat) (l:List Int) (hp:Hp),i+32+f=l.length->l.length<=1000000->Wq l->hp.rd b 0=some (LI .u8 l)->
 ∃l' hp',B85_16 (.ms b 0 0 l.length 1) (S 1 1 (LI .i64 trI)) (.int .i64 (i:Int)) hp=B85_16 (.ms b 0 0 l.length 1) (S 1 1 (LI .i64 trI)) (.int .i64 ((i+f:Nat):Int)) hp'/\l'.length=l.length/\Wq l'/\vU (l'.drop (i+f))=jn f (vU (l.drop i))/\hp'.rd b 0=some (LI .u8 l'):=by
 intro f
 induction f with
 |zero=>
  intro i l hp _ _ hb h
  exact⟨l,hp,rfl,rfl,hb,rfl,h⟩
 |succ f ih=>
  intro i l hp hi hl hb h
  have hi':i<l.length:=qc
  have i1:idx l.length (.int .i64 (i:Int))=some i:=za .i64 hi'
  have gc:qi (LI .u8 l) i=some (.int .u8 (l.getD i 0)):=by
   unfold qi
   rw[Zy?,Qt hi']
   rfl
  have w0:IntKind.i64.wrap ((i:Int)+32)=(i:Int)+32:=qh
  have hlt:(i:Int)+32<(l.length:Int):=qc
  have w1:IntKind.i64.wrap ((i:Int)+1)=((i+1:Nat):Int):=qh
  have lm:zd (.ms b 0 0 l.length 1)=some l.length:=rfl
  have hq:=qew hb i
  have bh:=qif hb hi'
  have step:∃l1 hp1,B85_16 (.ms b 0 0 l.length 1) (S 1 1 (LI .i64 trI)) (.int .i64 (i:Int)) hp=B85_16 (.ms b 0 0 l.length 1) (S 1 1 (LI .i64 trI)) (.int .i64 ((i+1:Nat):Int)) hp1/\l1.length=l.length/\Wq l1/\vU (l1.drop (i+1))=jM (vU (l.drop i))/\hp1.rd b 0=some (LI .u8 l1):=by
   rcases hq with q|q
   ·refine⟨l,hp,?_,rfl,hb,?_,h⟩
    ·conv=>lhs;rw[YJ]
     rw[q]at gc
     generalize LI .u8 l=Y at*
     generalize LI .i64 trI=T at*
     simp[w0,lm,hlt,qN,i1,h,gc,qb2,w1]
    ·unfold jM
     rw[bh.1,bh.2,q]
     simp
   ·obtain⟨l1,hp1,z,q1,q2,q3,q4⟩:=qof b i trm 0 l hp rfl qf qc hl hb h
    refine⟨l1,hp1,?_,q1,q2,?_,q4⟩
    ·rw[<-z]
     conv=>lhs;rw[YJ]
     rw[q]at gc
     generalize LI .u8 l=Y at*
     generalize LI .i64 trI=T at*
     simp[w0,lm,hlt,qN,i1,h,gc]
    ·have hh:=qif q2 (show i<l1.length by omega)
     unfold jM
     rw[hh.1,q3,zgf,bh.2,q,Nat.xor_div_two]
     rfl
  obtain⟨l1,hp1,z1,a1,a2,a3,a4⟩:=step
  obtain⟨l2,hp2,z2,b1,b2,b3,b4⟩:=ih (i+1) l1 hp1 qc qc a2 a4
  rw[a1]at z2
  have e:i+1+f=i+(f+1):=qc
  rw[e]at z2 b3
  exact⟨l2,hp2,by rw[z1,z2],by rw[b1,a1],b2,by rw[b3,a3];rfl,b4⟩
def cvN:List Int->Nat
 |[]=>0
 |x::r=>(1-x).toNat+2*cvN r
theorem qlh:∀{l:List Int},Wq l->cvN l+vU l=2^l.length-1/\0<2^l.length
 |[],_=>by simp[cvN,vU]
 |x::r,h=>by
  obtain⟨ih,hp⟩:=qlh (l:=r) (fun n hn=>h n (by simp[hn]))
  have hx:=h x qe
  show(1-x).toNat+2*cvN r+(x.toNat+2*vU r)=2^(r.length+1)-1/\0<2^(r.length+1)
  rw[zj3]
  omega
theorem qug(b:Nat)(l:List Int)(h32:32<=l.length)(hl:l.length<=1000000)(hb:Wq l)(hp:Hp)(h:hp.rd b 0=some (LI .u8 l)):∀(j:Nat),j<=32->
 B85_25 (.ms b 0 0 l.length 1) (.int .u32 (cvN (l.drop (l.length-32+j)):Int)) (.int .i64 (((l.length-32+j:Nat):Int)-1)) hp=some (.sc (.int .u32 (cvN (l.drop (l.length-32)):Int)),hp):=by
 intro j
 have lm:zd (.ms b 0 0 l.length 1)=some l.length:=rfl
 have w0:IntKind.i64.wrap ((l.length:Int)-32)=((l.length-32:Nat):Int):=qh
 induction j with
 |zero=>
  intro _
  have c:¬(((l.length-32:Nat):Int)<=((l.length-32:Nat):Int)-1):=qc
  rw[zjo,qb0]
  generalize cvN (l.drop (l.length-32))=C at*
  generalize((l.length-32:Nat):Int)=I0 at*
  simp[lm,w0,c]
 |succ j ih=>
  intro hj
  have z:=ih qc
  obtain⟨p,hpp⟩:∃p,p=l.length-32+j:=⟨_,rfl⟩
  have hp':p<l.length:=qc
  rw[show l.length-32+(j+1)=p+1 by omega]
  rw[<-hpp]at z
  have i1:idx l.length (.int .i64 (p:Int))=some p:=za .i64 hp'
  have gc:qi (LI .u8 l) p=some (.int .u8 (l.getD p 0)):=by
   unfold qi
   rw[Zy?,Qt hp']
   rfl
  have sb:=qjr l hb p
  have hq:=qew hb p
  have e:l.drop p=l.getD p 0::l.drop (p+1):=by
   rw[zi2 hp']
   congr 1
   rw[zia,zic hp']
   rfl
  have ec:cvN (l.drop p)=(1-l.getD p 0).toNat+2*cvN (l.drop (p+1)):=by rw[e];rfl
  have bd:=qlh (l:=l.drop (p+1)) (fun n hn=>hb n (zkh hn))
  have le:2^(l.drop (p+1)).length<=2^31:=zjz qf (by rw[zjt];omega)
  have cb:cvN (l.drop (p+1))<2147483648:=by
   have:(2:Nat)^31=2147483648:=rfl
   omega
  have w1:IntKind.u32.wrap ((cvN (l.drop (p+1)):Int)*2)=(cvN (l.drop (p+1)):Int)*2:=by rw[qT]<;>omega
  have w2:IntKind.u32.wrap ((cvN (l.drop (p+1)):Int)*2+(1-l.getD p 0))=(cvN (l.drop p):Int):=by
   rw[qT qc qc,ec]
   omega
  have w3:IntKind.i64.wrap (((p+1:Nat):Int)-1-1)=(p:Int)-1:=qh
  have cvt:=qnv (1-l.getD p 0)
  have w4:IntKind.u32.wrap (1-l.getD p 0)=1-l.getD p 0:=by rw[qT]<;>omega
  rw[w4]at cvt
  have ep:((p+1:Nat):Int)-1=(p:Int):=qc
  rw[ep]at w3⊢
  have c:((l.length-32:Nat):Int)<=(p:Int):=qc
  rw[<-z,qb0]
  clear z ih ec bd le cb e
  generalize LI .u8 l=Y at*
  generalize l.getD p 0=Q at*
  generalize(cvN (l.drop (p+1)):Int)=C1 at*
  generalize(cvN (l.drop p):Int)=C2 at*
  generalize((l.length-32:Nat):Int)=I0 at*
  simp[lm,w0,c,w1,qN,i1,h,gc,sb,cvt,w2,w3]
theorem qvs:zac Tryz.prog 3=some ():=qd
theorem qtc(k:Nat)(m:List Int)(hm:∀c∈m,0<=c/\c<256)(hne:m≠[])(hl:m.length<=100000)(hp:Hp):∃hp',run cxX 85 [S k 1 (LI .u8 m)] hp=some (.sc (.int .u32 (qQ m:Int)),hp'):=by
 have hpos:0<m.length:=zjj.mpr hne
 have hlen:=qn7 m
 have hbn:ZJ m≠[]:=fun e=>by rw[e]at hlen;simp at hlen;omega
 obtain⟨b,h1,z1,r1⟩:=qwv k m hm hl m 0 0 hp rfl (ziv _) (fun q=>absurd rfl q)
 obtain⟨r1,r2⟩:=r1 hbn
 obtain⟨L1,hL1⟩:∃L1,L1=ZJ m++List.replicate 32 0:=⟨_,rfl⟩
 have l1:L1.length=8*m.length+32:=by rw[hL1,zh8,hlen,zjm]
 have b1:Wq L1:=by
  intro n hn
  rw[hL1]at hn
  rcases zip.mp hn with q|q
  ·exact zbd m n q
  ·exact .inl (zje q)
 have v1:vU L1=dN m:=by rw[hL1,qeu,qwp,qn2 hm];simp
 have az:QW 1 1 [Value.int .u8 0] (.ms b 0 0 (ZJ m).length 1) 32 h1=some (.ms h1.next 0 0 L1.length 1,(h1.del b).new (LI .u8 L1)):=by
  have hf:js 1 1 ((ZJ m).length+32)=true:=jr qf (by rw[hlen];omega)
  unfold QW
  show(yk (1=1/\1=1/\0=0/\0<(ZJ m).length/\0<32/\js 1 1 ((ZJ m).length+32)=true)).bind _=_
  rw[zT ⟨rfl,rfl,rfl,by rw[hlen];omega,qf,hf⟩]
  show(h1.rd b 0).bind _=_
  rw[r1]
  show(yk ((ZJ m).length<=(LI .u8 (ZJ m)).length)).bind _=_
  rw[zT (by rw[yI];exact zif _)]
  show some (AV.ms h1.next 0 0 ((ZJ m).length+32) 1,(h1.del b).new (((LI .u8 (ZJ m)).take (ZJ m).length).map ro1++List.replicate 32 (AV.sc (.int .u8 0))))=_
  have e1:(LI .u8 (ZJ m)).take (ZJ m).length=LI .u8 (ZJ m):=zix (by rw[yI];exact zif _)
  have e2:LI .u8 (ZJ m)++List.replicate 32 (AV.sc (.int .u8 0))=LI .u8 L1:=by rw[hL1];simp[LI]
  rw[e1,Xi,e2,l1,hlen]
 obtain⟨L2,h2,z2,l2,b2,v2,q2⟩:=qvr h1.next 32 0 L1 ((h1.del b).new (LI .u8 L1)) rfl qc qc b1 (qF (h1.del b) _)
 have hx:xsp 32 0=4294967295:=qf
 rw[hx]at v2
 obtain⟨L3,h3,z3,l3,b3,v3,q3⟩:=qwh h1.next (8*m.length) 0 L2 h2 qc qc b2 q2
 rw[ziw,zj2,v2,v1,qh9 m _ hm]at v3
 have o:=qug h1.next L3 qc qc b3 h3 q3 32 qf
 have e32:L3.length-32+32=L3.length:=qc
 have e8:L3.length-32=8*m.length:=qc
 rw[e32,List.drop_of_length_le (zif _),e8]at o
 have cv:cvN (L3.drop (8*m.length))=qQ m:=by
  have q:=(qlh (l:=L3.drop (8*m.length)) (fun n hn=>b3 n (zkh hn))).1
  rw[zjt,show L3.length-8*m.length=32 by omega,v3]at q
  unfold qQ
  have:(2:Nat)^32-1=4294967295:=rfl
  omega
 rw[cv]at o
 refine⟨h3,?_⟩
 have ln:zd (S (rk k) 1 (LI .u8 m))=some m.length:=by rw[qI];simp
 have lm:∀n,zd (.ms h1.next 0 0 n 1)=some n:=fun _=>rfl
 have w0:IntKind.i64.wrap (((8*m.length:Nat):Int)+32)=(L3.length:Int):=qh
 have w1:IntKind.i64.wrap ((L3.length:Int)-1)=(L3.length:Int)-1:=qh
 have s1:B85_16 (.ms h1.next 0 0 L3.length 1) (S 1 1 (LI .i64 trI)) (.int .i64 ((8*m.length:Nat):Int)) h3=some (.sc (.int .u32 (qQ m:Int)),h3):=by
  rw[<-o,YJ]
  clear o
  generalize LI .i64 trI=T at*
  generalize((8*m.length:Nat):Int)=I8 at*
  simp[lm,w0,w1]
  rfl
 have s2:B85_11 (.ms h1.next 0 0 L1.length 1) (.int .i64 32) h2=some (.sc (.int .u32 (qQ m:Int)),h3):=by
  rw[l2,ziw]at z3
  rw[l3,l2]at s1
  rw[s1]at z3
  rw[<-z3,qb3,zck]
  simp[LI]
 have s3:B85_3 (S k 1 (LI .u8 m)) (xK 2 1 b (ZJ m)) (.int .i64 (m.length:Int)) h1=some (.sc (.int .u32 (qQ m:Int)),h3):=by
  rw[s2]at z2
  rw[<-z2,Zp _ _ _ hbn,qi6]
  have it:=qvs
  generalize LI .u8 m=Y at*
  simp[-qI,ln,it,az]
 rw[s3]at z1
 rw[<-z1,E85]
 rfl
theorem wG{l:List Nat}{i:Nat}{x:Nat}{r:List Nat}(h:l.drop i=x::r):l.getD i 0=x:=by
 rw[zia,(qv h).1];rfl
theorem zdy(l m:List Nat):nz (l++m)=nz l++nz m:=by simp[nz]
section
variable (l:List Nat)(k:Nat)(hl:l.length<=1024)(h64:∀x∈l,x<18446744073709551616)(hr:jp l)
include hl h64 hr
theorem qpi(hp:Hp):∀(r:List Nat) (i:Nat),(qK l).drop i=r->i+r.length=l.length->
 B223_3 (S k 1 (LI .u64 (nz l))) (S 2 1 (LI .u64 (nz ((qK l).take i)))) (.int .i64 (i:Int)) hp=some (S 2 1 (LI .u64 (nz (qK l))),hp):=by
 intro r
 induction r with
 |nil=>
  intro i h hil
  simp at hil
  have e:(qK l).take i=qK l:=zix qg
  have hlt:¬(i<l.length):=qc
  rw[qcl,e]
  simp[hlt]
 |cons g r ih=>
  intro i h hil
  obtain⟨e1,e2,hi,e3⟩:=qv h
  simp only[zid]at hil
  have hi':i<l.length:=qc
  have et:(qK l).take (i+1)=(qK l).take i++[g]:=by rw[zk4,e1];rfl
  have w5:IntKind.i64.wrap ((i:Int)+1)=((i+1:Nat):Int):=qh
  have ap:=qir .u64 (nz ((qK l).take i)) 2 (.inr rfl) 8 qf (g:Int) qg
  have en:nz ((qK l).take i)++[(g:Int)]=nz ((qK l).take (i+1)):=by rw[et,zdy];rfl
  rw[en]at ap
  have i1:=ih (i+1) e2 qc
  have c4:B223_4 (S k 1 (LI .u64 (nz l))) (S 2 1 (LI .u64 (nz ((qK l).take (i+1))))) (.int .i64 (i:Int)) hp=some (S 2 1 (LI .u64 (nz (qK l))),hp):=by
   rw[qrk]
   generalize((i+1:Nat):Int)=J at*
   simp[w5,i1]
  have gg:=qv2 l i hi'
  rw[e1]at gg
  injection gg with gg
  have ai:=wT .u64 l i hi'
  rw[qcl]
  by_cases h0:i=0
  ·subst h0
   rw[if_pos rfl]at gg
   have en2:∀h,(nz l)[0]'h=(l.getD 0 0:Nat):=fun h=>by simp[nz,zia,hi']
   rw[gg]at ap
   generalize l.getD 0 0=v at*
   simp only[List.take_zero]at ap
   simp only[ziw,zkf]at c4 ap
   simp[hi',ai,qX,ap,c4,en2]
  ·rw[if_neg h0]at gg
   have aj:=wT .u64 l (i-1) qc
   have hlt:=qke l hr (i-1) qc
   have e:i-1+1=i:=qc
   rw[e]at hlt
   have hv:l.getD i 0<18446744073709551616:=by
    rw[zia,zic hi']
    exact h64 _ (zi6 _)
   have w1:IntKind.i64.wrap ((i:Int)-1)=((i-1:Nat):Int):=qh
   have h0':¬((i:Int)=0):=qc
   have g0:(0:Int)<=((i-1:Nat):Int):=qc
   have en2:∀h,(nz l)[i]'h=(l.getD i 0:Nat):=fun h=>by simp[nz,zia,hi']
   generalize l.getD i 0=u at*
   generalize l.getD (i-1) 0=v at*
   have w2:IntKind.u64.wrap ((u:Int)-(v:Int))=(u:Int)-(v:Int):=qx qc qc
   have w3:IntKind.u64.wrap ((u:Int)-(v:Int)-1)=(g:Int):=by rw[qx]<;>omega
   have aj':(LI .u64 (nz l))[(((i-1:Nat):Int)).toNat]?=some (.sc (.int .u64 (v:Int))):=by rw[zik];exact aj
   generalize((i-1:Nat):Int)=j at*
   simp[hi',h0,ai,aj',qX,w1,g0,w2,w3,ap,c4,en2]
theorem qfu(hp:Hp):run cxX 223 [S k 1 (LI .u64 (nz l))] hp=some (S 2 1 (LI .u64 (nz (qK l))),hp):=by
 have h:=qpi l k hl h64 hr hp (qK l) 0 rfl qe
 rw[E223]
 simpa[nz]using h
def rcG(k:Nat):List Nat->Nat->Bool->Nat×Bool
 |[],n,ok=>(n,ok)
 |g::r,n,ok=>if 4096<g/2^k then rcG k r (n+1+k) false else rcG k r (n+g/2^k+1+k) ok
omit hl h64 hr in
theorem zdm(k:Nat):∀(r:List Nat) (n:Nat),(rcG k r n false).2=false:=by
 intro r
 induction r with
 |nil=>intro n;rfl
 |cons g r ih=>intro n;unfold rcG;split<;>exact ih _
omit hl h64 hr in
theorem zdl(k:Nat):∀(r:List Nat) (n:Nat),(rcG k r n true).2=(wW k r n).2/\((wW k r n).2=true->(rcG k r n true).1=(wW k r n).1):=by
 intro r
 induction r with
 |nil=>intro n;exact⟨rfl,fun _=>rfl⟩
 |cons g r ih=>
  intro n
  unfold rcG wW
  by_cases h:4096<g/2^k
  ·rw[if_pos h,if_pos h]
   exact⟨zdm k r _,fun c=>by cases c⟩
  ·rw[if_neg h,if_neg h]
   have:=ih (n+(g/2^k+1+k))
   have e:n+g/2^k+1+k=n+(g/2^k+1+k):=qc
   rw[e]
   exact this
omit hl h64 hr in
theorem qpk(gs:List Nat)(j:Nat)(hj:j<=63)(hg:gs.length<=1024)(v3 v4:Value)(hp:Hp):∀(r:List Nat) (i n:Nat) (ok:Bool),gs.drop i=r->i+r.length=gs.length->n+r.length*4160<4611686018427387904->
 B222_9 v3 v4 (S 2 1 (LI .u64 (nz gs))) (.int .i64 (j:Int)) (.int .i64 (n:Int)) (.bool ok) (.int .i64 (i:Int)) hp=
  B222_9 v3 v4 (S 2 1 (LI .u64 (nz gs))) (.int .i64 (j:Int)) (.int .i64 ((rcG j r n ok).1:Nat)) (.bool (rcG j r n ok).2) (.int .i64 (gs.length:Int)) hp:=by
 intro r
 induction r with
 |nil=>
  intro i n ok h hil hn
  simp at hil
  rw[hil];rfl
 |cons g r ih=>
  intro i n ok h hil hn
  obtain⟨e1,e2,hi,e3⟩:=qv h
  simp only[zid]at hil hn
  have ai:=wT .u64 gs i hi
  rw[wG h]at ai
  have en:∀h,(nz gs)[i]'h=(g:Int):=fun h=>by simp[nz,e3]
  have sh:=fun t o o'=>qfl .u64 g j (by show j<=64;omega) t o o' .i64
  have w5:IntKind.i64.wrap ((i:Int)+1)=((i+1:Nat):Int):=qh
  have step:∀(q:Nat) (b:Bool),q<=4096->B222_15 v3 v4 (S 2 1 (LI .u64 (nz gs))) (.int .i64 (j:Int)) (.int .i64 (n:Int)) (.bool b) (.int .i64 (i:Int)) (.int .u64 (q:Int)) hp=
   B222_9 v3 v4 (S 2 1 (LI .u64 (nz gs))) (.int .i64 (j:Int)) (.int .i64 ((n+q+1+j:Nat):Int)) (.bool b) (.int .i64 ((i+1:Nat):Int)) hp:=by
   intro q b hq
   have w1:IntKind.i64.wrap (q:Int)=(q:Int):=qj qc qc
   have w2:IntKind.i64.wrap ((n:Int)+(q:Int))=(n:Int)+(q:Int):=qj qc qc
   have w3:IntKind.i64.wrap ((n:Int)+(q:Int)+1)=(n:Int)+(q:Int)+1:=qj qc qc
   have w4:IntKind.i64.wrap ((n:Int)+(q:Int)+1+(j:Int))=((n+q+1+j:Nat):Int):=qh
   rw[ql7]
   generalize((n+q+1+j:Nat):Int)=N at*
   generalize((i+1:Nat):Int)=I at*
   simp[w1,w2,w3,w4,w5]
  rw[qcm]
  unfold rcG
  generalize hq:g/2^j=q at*
  by_cases hc:4096<q
  ·have hgt:(4096:Int)<(q:Int):=qc
   have hs:=step 0 false qc
   have hi2:=ih (i+1) (n+1+j) false e2 qc qc
   rw[if_pos hc,<-hi2]
   simp only[zjo]at hs
   generalize((n+1+j:Nat):Int)=N at*
   generalize((i+1:Nat):Int)=I at*
   simp at hs
   simp[hi,ai,qX,sh,hgt,hs,en]
  ·have hgt:¬((4096:Int)<(q:Int)):=qc
   have hs:=step q ok qc
   have hi2:=ih (i+1) (n+q+1+j) ok e2 qc qc
   rw[if_neg hc,<-hi2]
   generalize((n+q+1+j:Nat):Int)=N at*
   generalize((i+1:Nat):Int)=I at*
   simp[hi,ai,qX,sh,hgt,hs,en]
omit h64 hr in
theorem qph(hp:Hp):∀(f j b:Nat) (m:Int),j+f=64->b<=63->
 B222_4 (.int .i64 (b:Int)) (.int .i64 m) (S 2 1 (LI .u64 (nz (qK l)))) (.int .i64 (j:Int)) hp=some (.sc (.int .i64 (qd0 (qK l) f j b m:Nat)),hp):=by
 intro f
 induction f with
 |zero=>
  intro j b m hj hb
  have hlt:¬((j:Int)<64):=qc
  rw[qcn]
  simp[hlt,qd0]
 |succ f ih=>
  intro j b m hj hb
  have hlt:(j:Int)<64:=qc
  have c:=qpk (qK l) j qc qg (.int .i64 (b:Int)) (.int .i64 m) hp (qK l) 0 0 true rfl qe qg
  obtain⟨c1,c2⟩:=zdl j (qK l) 0
  have w5:IntKind.i64.wrap ((j:Int)+1)=((j+1:Nat):Int):=qh
  have i1:=ih (j+1) j (wW j (qK l) 0).1 qc qc
  have i2:=ih (j+1) b m qc hb
  have c8:∀v3 v4,B222_5 v3 v4 (S 2 1 (LI .u64 (nz (qK l)))) (.int .i64 (j:Int)) hp=B222_4 v3 v4 (S 2 1 (LI .u64 (nz (qK l)))) (.int .i64 ((j+1:Nat):Int)) hp:=by
   intro v3 v4
   rw[qrl]
   generalize((j+1:Nat):Int)=J at*
   simp[w5]
  have gl:(qK l).length=l.length:=Qq l
  rw[qcn]
  unfold qd0
  rw[c1]at c
  generalize(rcG j (qK l) 0 true).1=N at*
  generalize wW j (qK l) 0=C at*
  obtain⟨d1,d2⟩:=C
  simp only[Int.natCast_add,Int.natCast_one]at i1 i2 c8
  simp at c
  generalize qK l=G at*
  have hlt':j<64:=qc
  have e9:∀(M:Int),B222_9 (.int .i64 (b:Int)) (.int .i64 m) (S 2 1 (LI .u64 (nz G))) (.int .i64 (j:Int)) (.int .i64 M) (.bool d2) (.int .i64 (l.length:Int)) hp=
   cond d2 (cond (decide (m<0)||decide (M<m)) (B222_4 (.int .i64 (j:Int)) (.int .i64 M) (S 2 1 (LI .u64 (nz G))) (.int .i64 ((j:Int)+1)) hp) (B222_4 (.int .i64 (b:Int)) (.int .i64 m) (S 2 1 (LI .u64 (nz G))) (.int .i64 ((j:Int)+1)) hp)) (B222_4 (.int .i64 (b:Int)) (.int .i64 m) (S 2 1 (LI .u64 (nz G))) (.int .i64 ((j:Int)+1)) hp):=by
   intro M
   rw[qcm]
   cases d2
   ·simp[gl,c8]
   ·by_cases h1:m<0
    ·simp[gl,h1,Wi,c8]
    ·by_cases h2:M<m
     ·simp[gl,h1,h2,Wi,c8]
     ·simp[gl,h1,h2,c8]
  cases d2
  ·simp[hlt,c,e9,i2]
  ·have c2:N=d1:=c2 rfl
   subst c2
   by_cases h1:m<0
   ·simp[hlt,c,e9,h1,i1]
   ·by_cases h2:(N:Int)<m
    ·simp[hlt,c,e9,h1,h2,i1]
    ·simp[hlt,c,e9,h1,h2,i2]
theorem qte(hp:Hp):run cxX 222 [S k 1 (LI .u64 (nz l))] hp=some (.sc (.int .i64 (xG (qK l):Nat)),hp):=by
 have h:=qph l hl hp 64 0 63 (-1) rfl qc
 have g:=qfu l (rk k) hl h64 hr hp0
 rw[E222]
 simp at h
 simp[g,h,xG]
omit hr in
theorem qpg(kk:Nat)(hkk:kk<=63)(hg:∀g∈qK l,g/2^kk<=4096)(hp:Hp):∀(r:List Nat) (i:Nat) (bs:List Bool),(qK l).drop i=r->i+r.length=l.length->bs.length+r.length*4160<90000000->
 B176_5 (S k 1 (LI .u64 (nz l))) (.int .i64 (kk:Int)) (S 2 1 (LI .u8 (ub bs))) (S 2 1 (LI .u64 (nz (qK l)))) (.int .i64 (i:Int)) hp=
  B176_5 (S k 1 (LI .u64 (nz l))) (.int .i64 (kk:Int)) (S 2 1 (LI .u8 (ub (bs++yz kk r)))) (S 2 1 (LI .u64 (nz (qK l)))) (.int .i64 (l.length:Int)) hp:=by
 intro r
 induction r with
 |nil=>
  intro i bs h hil hb
  simp at hil
  rw[hil,yz,zi4]
 |cons g r ih=>
  intro i bs h hil hb
  obtain⟨e1,e2,hi,e3⟩:=qv h
  simp only[zid]at hil hb
  have ai:=wT .u64 (qK l) i hi
  rw[wG h]at ai
  have en:∀h,(nz (qK l))[i]'h=(g:Int):=fun h=>by simp[nz,e3]
  have hgm:g∈qK l:=by rw[<-e3];exact zi6 _
  have hq:=hg g hgm
  have g64:=JA h64 g hgm
  have sh:=fun t o o'=>qfl .u64 g kk (by show kk<=64;omega) t o o' .i64
  have w5:IntKind.i64.wrap ((i:Int)+1)=((i+1:Nat):Int):=qh
  have w1:IntKind.i64.wrap ((g/2^kk:Nat):Int)=((g/2^kk:Nat):Int):=qj (by have:=zjy (g/2^kk);omega) qc
  have u1:=qah (g/2^kk) qc hp0
  obtain⟨hq1,u2⟩:=qfx g kk g64 qc hp0
  have a1:=jj .u8 (ub bs) 2 (.inr rfl) 1 qf 2 (ub (una (g/2^kk))) qg
  have a2:=jj .u8 (ub (bs++una (g/2^kk))) 2 (.inr rfl) 1 qf 0 (ub (Xu g kk)) qg
  rw[<-qdc]at a1 a2
  have i1:=ih (i+1) (bs++una (g/2^kk)++Xu g kk) e2 qc qg
  have e:bs++yz kk (g::r)=bs++una (g/2^kk)++Xu g kk++yz kk r:=by simp[yz]
  rw[e,<-i1,qcr]
  have hi':i<(qK l).length:=hi
  generalize((g/2^kk:Nat):Int)=q at*
  generalize((i+1:Nat):Int)=I at*
  generalize una (g/2^kk)=U at*
  generalize Xu g kk=W at*
  generalize qK l=G at*
  simp only[qdc,zio]at a1 a2
  simp[hi',ai,qX,en,sh,w1,u1,a1,u2,a2,w5]
theorem qft(hp:Hp):run cxX 176 [S k 1 (LI .u64 (nz l))] hp=some (S 2 1 (LI .u8 (KO l)),hp):=by
 obtain⟨k63,hq⟩:=XP (JA h64)
 have hbl:=Yq (xG (qK l)) k63 (qK l) hq
 rw[Qq]at hbl
 have p:=qte l (rk k) hl h64 hr hp0
 have g:=qfu l (rk k) hl h64 hr hp0
 have lp:=qpg l k hl h64 (xG (qK l)) k63 hq hp (qK l) 0 [] rfl qe qg
 obtain⟨hq1,by1⟩:=Yk (yz (xG (qK l)) (qK l)) 3 qc hp0
 have u1:=zN l.length qc hp0
 have lb:(pk (yz (xG (qK l)) (qK l))).length<1000000:=by rw[vu];omega
 have u2:=zN (pk (yz (xG (qK l)) (qK l))).length qc hp0
 have q1:=qu (n:=l.length) qc
 have q2:=qu (n:=(pk (yz (xG (qK l)) (qK l))).length) qc
 have w1:IntKind.u64.wrap (l.length:Int)=(l.length:Int):=qx qc qc
 have w2:IntKind.u8.wrap ((xG (qK l):Nat):Int)=((xG (qK l):Nat):Int):=zE qc qc
 have w3:IntKind.u64.wrap ((pk (yz (xG (qK l)) (qK l))).length:Int)=((pk (yz (xG (qK l)) (qK l))).length:Int):=qx qc qc
 have a1:=qir .u8 (uv l.length) 2 (.inr rfl) 1 qf ((xG (qK l):Nat):Int) qc
 have a2:=jj .u8 (uv l.length++[((xG (qK l):Nat):Int)]) 2 (.inr rfl) 1 qf 2 (uv (pk (yz (xG (qK l)) (qK l))).length) (by simp only[zh8,ziz];omega)
 have a3:=jj .u8 (uv l.length++[((xG (qK l):Nat):Int)]++uv (pk (yz (xG (qK l)) (qK l))).length) 2 (.inr rfl) 1 qf 0 (pk (yz (xG (qK l)) (qK l))) (by simp only[zh8,ziz];omega)
 have gl:(qK l).length=l.length:=Qq l
 rw[E176]
 unfold KO qdw
 simp only[zi5]at lp
 have e0:ub []=[]:=rfl
 rw[e0]at lp
 simp at lp
 generalize xG (qK l)=pr at*
 generalize hX:yz pr (qK l)=X at*
 have e1:∀G:List Nat,G.length=l.length->B176_5 (S k 1 (LI .u64 (nz l))) (.int .i64 (pr:Int)) (S 2 1 (LI .u8 (ub X))) (S 2 1 (LI .u64 (nz G))) (.int .i64 (l.length:Int)) hp=some (S 2 1 (LI .u8 (uv l.length++[(pr:Int)]++uv (pk X).length++pk X)),hp):=by
  intro G hG
  clear lp hX hq
  rw[qcr]
  generalize hB:pk X=Bx at*
  generalize uv Bx.length=U2 at*
  generalize uv l.length=U1 at*
  simp only[zio,zj0,zi5]at a1 a2 a3⊢
  simp[hG,by1,w1,u1,w2,a1,w3,u2,a2,a3]
 rw[e1 _ gl]at lp
 simp[p,g,lp]
end
section
variable (l:List Nat)(k:Nat)(hl:l.length<=65536)(h32:∀x∈l,x<4294967296)(hr:yd l)
include hl h32
omit h32 in
theorem qt3(last:Nat)(hla:last<4294967296)(hp:Hp):∀(f j:Nat),j+f=33->j<=32->
 B178_6 (S k 1 (LI .u32 (nz l))) (.int .i64 (l.length:Int)) (.int .u32 (last:Int)) (.int .i64 (j:Int)) hp=
  B178_8 (S k 1 (LI .u32 (nz l))) (.int .i64 (l.length:Int)) (.int .u32 (last:Int)) (.int .i64 (WI l.length last f j:Nat)) hp:=by
 intro f
 induction f with
 |zero=>intro j h h2;omega
 |succ f ih=>
  intro j h h2
  have w1:IntKind.i64.wrap (last:Int)=(last:Int):=qj qc qc
  have w2:IntKind.i64.wrap ((j:Int)+1)=((j+1:Nat):Int):=qh
  have q2:∀t o o',qs Tryz.prog .quo t o o' (.int .i64 (last:Int)) (.int .i64 2)=some (.int .i64 ((last/2:Nat):Int)):=by
   intro t o o'
   rw[xx _ _ _ _ _ _ _ qc,zjr qc,qj qc qc]
   rfl
  have sh:=fun t o o'=>qfl .i64 (last/2) j (by show j<=64;omega) t o o' .i64
  have e2:last/2/2^j=last/2^(j+1):=by rw[zl0,zj3,zi3]
  rw[e2]at sh
  rw[qr1]
  unfold WI
  by_cases h0:0<l.length
  ·have h0':(0:Int)<(l.length:Int):=qc
   by_cases h1:l.length<=last/2^(j+1)
   ·by_cases hk:j=32
    ·subst hk
     have:last/2^33=0:=zld (zi8 hla qf)
     have e:(32:Nat)+1=33:=rfl
     rw[e,this]at h1
     omega
    ·have hi:=ih (j+1) qc qc
     have h1':(l.length:Int)<=((last/2^(j+1):Nat):Int):=qc
     rw[if_pos ⟨h0,h1⟩]
     generalize((last/2^(j+1):Nat):Int)=q at*
     generalize((last/2:Nat):Int)=q1 at*
     generalize((j+1:Nat):Int)=k1 at*
     simp[h0,yb,w1,w2,sh,q2,h1',qr0,hi]
   ·have h1':¬((l.length:Int)<=((last/2^(j+1):Nat):Int)):=qc
    rw[if_neg (fun c=>h1 c.2)]
    generalize((last/2^(j+1):Nat):Int)=q at*
    generalize((last/2:Nat):Int)=q1 at*
    simp[h0,yb,w1,sh,q2,h1']
  ·rw[if_neg (fun c=>h0 c.1)]
   have h0':¬((0:Int)<(l.length:Int)):=qc
   simp only[iC,vQ,zib,jZ,kI,zj6,gt_iff_lt,zkf,h0',decide_false,cond_false]
theorem qpj(kk:Nat)(hkk:kk<=32)(v4:Value)(hp:Hp):∀(r:List Nat) (i p:Nat) (b1 b2:List Bool),l.drop i=r->i+r.length=l.length->yd (p::r)->b1.length+r.length*32<90000000->b2.length+(zZ kk (p/2^kk) r).length<90000000->(zZ kk (p/2^kk) r).length<900000->
 ∃v,B178_11 (S k 1 (LI .u32 (nz l))) (.int .i64 (l.length:Int)) v4 (.int .i64 (kk:Int)) (S 2 1 (LI .u8 (ub b1))) (S 2 1 (LI .u8 (ub b2))) (.int .u32 ((p/2^kk:Nat):Int)) (.int .i64 (i:Int)) hp=
  B178_11 (S k 1 (LI .u32 (nz l))) (.int .i64 (l.length:Int)) v4 (.int .i64 (kk:Int)) (S 2 1 (LI .u8 (ub (b1++xM kk r)))) (S 2 1 (LI .u8 (ub (b2++zZ kk (p/2^kk) r)))) v (.int .i64 (l.length:Int)) hp:=by
 intro r
 induction r with
 |nil=>
  intro i p b1 b2 h hil hpr hb1 hb2 hb3
  simp at hil
  exact⟨_,by rw[hil,xM,zZ,zi4,zi4]⟩
 |cons x r ih=>
  intro i p b1 b2 h hil hpr hb1 hb2 hb3
  obtain⟨e1,e2,hi,e3⟩:=qv h
  simp only[zid]at hil hb1
  have ai:=wT .u32 l i hi
  rw[wG h]at ai
  have en:∀h,(nz l)[i]'h=(x:Int):=fun h=>by simp[nz,e3]
  have hx:x<4294967296:=by rw[<-e3];exact h32 _ (zi6 _)
  have hd:p/2^kk<=x/2^kk:=Nat.div_le_div_right hpr.1
  have hxq:x/2^kk<=x:=zma _ _
  have sh:=fun t o o'=>qfl .u32 x kk (by show kk<=32;omega) t o o' .i64
  have hh:(zZ kk (p/2^kk) (x::r)).length=(x/2^kk-p/2^kk)+1+(zZ kk (x/2^kk) r).length:=by simp[zZ]
  rw[hh]at hb2 hb3
  have w1':IntKind.u64.wrap (x:Int)=(x:Int):=qx qc qc
  have w2':IntKind.u32.wrap (((x/2^kk:Nat):Int)-((p/2^kk:Nat):Int))=((x/2^kk-p/2^kk:Nat):Int):=by rw[qT]<;>omega
  have w3':IntKind.i64.wrap ((x/2^kk-p/2^kk:Nat):Int)=((x/2^kk-p/2^kk:Nat):Int):=qj qc qc
  have w5:IntKind.i64.wrap ((i:Int)+1)=((i+1:Nat):Int):=qh
  obtain⟨hq1,u2⟩:=qfx x kk qc qc hp0
  have u1:=qah (x/2^kk-p/2^kk) qc hp0
  have a1:=jj .u8 (ub b1) 2 (.inr rfl) 1 qf 0 (ub (Xu x kk)) qg
  have a2:=jj .u8 (ub b2) 2 (.inr rfl) 1 qf 2 (ub (una (x/2^kk-p/2^kk))) qg
  rw[<-qdc]at a1 a2
  obtain⟨v,i1⟩:=ih (i+1) x (b1++Xu x kk) (b2++una (x/2^kk-p/2^kk)) e2 qc hpr.2 qg qg qc
  have q1:b1++xM kk (x::r)=b1++Xu x kk++xM kk r:=by simp[xM]
  have q2:b2++zZ kk (p/2^kk) (x::r)=b2++una (x/2^kk-p/2^kk)++zZ kk (x/2^kk) r:=by simp[zZ]
  refine⟨v,?_⟩
  rw[q1,q2,<-i1,Wk]
  generalize una (x/2^kk-p/2^kk)=U at*
  generalize((x/2^kk-p/2^kk:Nat):Int)=d at*
  generalize((p/2^kk:Nat):Int)=P at*
  generalize((x/2^kk:Nat):Int)=X at*
  generalize((i+1:Nat):Int)=I at*
  generalize Xu x kk=W at*
  simp only[qdc]at a1 a2
  simp[hi,ai,qX,en,qbe,yb,w1',u2,a1,sh,w2',w3',u1,a2,w5]
include hr
theorem qfv(hp:Hp):run cxX 178 [S k 1 (LI .u32 (nz l))] hp=some (S 2 1 (LI .u8 (Xy l)),hp):=by
 have hla:zK l<4294967296:=by
  unfold zK
  by_cases h:l=[]
  ·rw[h];decide
  ·have:l.length-1<l.length:=by have:=zjj.mpr h;omega
   rw[zia,zic this]
   exact h32 _ (zi6 _)
 have hk32:yi l<=32:=qne _ _ hla
 have hh:=Vi (yi l) l hr
 have h2:zK l/2^yi l<=2*l.length:=by
  by_cases h:l=[]
  ·subst h;exact Nat.le_of_eq (Nat.zero_div _)
  ·exact Nat.le_of_lt (qha (zjj.mpr h) hla)
 obtain⟨v,lp⟩:=qpj l k hl h32 (yi l) hk32 (.int .u32 (zK l:Int)) hp l 0 0 [] [] rfl qe (Qj hr) qg qg qg
 have lw:=qt3 l k hl (zK l) hla hp 33 0 rfl qc
 have ef:WI l.length (zK l) 33 0=yi l:=rfl
 rw[ef]at lw
 have lb:=qa2 (yi l) l
 have lb2:l.length*yi l<=65536*32:=zjn hl hk32
 obtain⟨hq1,by1⟩:=Yk (xM (yi l) l) 3 qc hp0
 obtain⟨hq2,by2⟩:=Yk (zZ (yi l) 0 l) 3 qc hp0
 have l1:(pk (xM (yi l) l)).length<1000000:=by rw[vu];omega
 have l2:(pk (zZ (yi l) 0 l)).length<1000000:=by rw[vu];omega
 have u1:=zN l.length qc hp0
 have u2:=zN (zK l) qc hp0
 have u3:=zN (pk (zZ (yi l) 0 l)).length qc hp0
 have q1:=qu (n:=l.length) qc
 have q2:=qu (n:=zK l) qc
 have q3:=qu (n:=(pk (zZ (yi l) 0 l)).length) qc
 have w1:IntKind.u64.wrap (l.length:Int)=(l.length:Int):=qx qc qc
 have w2:IntKind.u64.wrap ((zK l:Nat):Int)=((zK l:Nat):Int):=qx qc qc
 have w3:IntKind.u64.wrap ((pk (zZ (yi l) 0 l)).length:Int)=((pk (zZ (yi l) 0 l)).length:Int):=qx qc qc
 have h8:B178_5 (S k 1 (LI .u32 (nz l))) (.int .i64 (l.length:Int)) (.int .u32 (zK l:Int)) hp=some (S 2 1 (LI .u8 (Xy l)),hp):=by
  rw[qr2]
  simp at lw lp
  unfold Xy
  have a1:=jj .u8 (uv l.length) 2 (.inr rfl) 1 qf 2 (uv (zK l)) qc
  have a2:=jj .u8 (uv l.length++uv (zK l)) 2 (.inr rfl) 1 qf 0 (pk (xM (yi l) l)) (by simp only[zh8];omega)
  have a3:=jj .u8 (uv l.length++uv (zK l)++pk (xM (yi l) l)) 2 (.inr rfl) 1 qf 2 (uv (pk (zZ (yi l) 0 l)).length) (by simp only[zh8];omega)
  have a4:=jj .u8 (uv l.length++uv (zK l)++pk (xM (yi l) l)++uv (pk (zZ (yi l) 0 l)).length) 2 (.inr rfl) 1 qf 0 (pk (zZ (yi l) 0 l)) (by simp only[zh8];omega)
  generalize yi l=fk at*
  generalize zZ fk 0 l=H at*
  generalize xM fk l=Lo at*
  generalize zK l=la at*
  have e1:B178_11 (S k 1 (LI .u32 (nz l))) (.int .i64 (l.length:Int)) (.int .u32 (la:Int)) (.int .i64 (fk:Int)) (S 2 1 (LI .u8 (ub Lo))) (S 2 1 (LI .u8 (ub H))) v (.int .i64 (l.length:Int)) hp=some (S 2 1 (LI .u8 (uv l.length++uv la++pk Lo++uv (pk H).length++pk H)),hp):=by
   rw[Wk]
   generalize pk Lo=PL at*
   generalize hB:pk H=PH at*
   generalize uv PH.length=U2 at*
   generalize uv l.length=U1 at*
   generalize uv la=U3 at*
   simp only[zio]at a1 a2 a3 a4⊢
   simp[qbe,w1,u1,w2,u2,a1,by1,a2,by2,w3,u3,a3,a4]
  have e0:ub []=[]:=rfl
  rw[e1]at lp
  simp[lw,qrz]
  simpa[e0]using lp
 rw[E178]
 by_cases h:0<l.length
 ·have aj:=wT .u32 l (l.length-1) qc
  have el:l.getD (l.length-1) 0=zK l:=rfl
  have w9:IntKind.i64.wrap ((l.length:Int)-1)=((l.length-1:Nat):Int):=qh
  have h':(0:Int)<(l.length:Int):=qc
  rw[el]at aj
  have aj':(nz l)[(((l.length-1:Nat):Int)).toNat]?=some (zK l:Int):=by rw[zik];simpa[LI]using aj
  have g0:(0:Int)<=((l.length-1:Nat):Int):=qc
  generalize((l.length-1:Nat):Int)=j at*
  generalize zK l=la at*
  simp[h,w9,aj',g0,qX,h8]
 ·have e:l=[]:=zi9.mp qc
  subst e
  have e:zK []=0:=rfl
  rw[e]at h8
  simpa using h8
end
theorem qwq(L:List Int)(j:Nat)(v:Int)(hj:j<L.length):zr (L.set j v)+(L.getD j 0).toNat*256^(L.length-1-j)=zr L+v.toNat*256^(L.length-1-j):=by
 have e:L=L.take j++([L.getD j 0]++L.drop (j+1)):=by
  rw[zia,zic hj,Option.getD_some,List.singleton_append,<-List.drop_eq_getElem_cons hj,zlj]
 have e2:L.set j v=L.take j++([v]++L.drop (j+1)):=by
  rw[List.set_eq_take_append_cons_drop,if_pos hj];rfl
 have one:∀z:Int,zr [z]=z.toNat:=fun z=>by simp[zr]
 have ld:(L.drop (j+1)).length=L.length-1-j:=by rw[zjt];omega
 have b1:zr L=zr (L.take j++([L.getD j 0]++L.drop (j+1))):=by rw[<-e]
 rw[e2,b1,kT,kT,kT,kT,one,one,ld]
 simp only[zh8,ziz,ld]
 omega
theorem qn4:∀(a b:List Int),(∀x∈a,0<=x/\x<256)->(∀x∈b,0<=x/\x<256)->a.length=b.length->zr a=zr b->a=b
 |[],[],_,_,_,_=>rfl
 |[],_::_,_,_,h,_=>by cases h
 |_::_,[],_,_,h,_=>by cases h
 |x::a,y::b,ha,hb,hl,h=>by
  have hl':a.length=b.length:=by simpa using hl
  have one:∀z:Int,zr [z]=z.toNat:=fun z=>by simp[zr]
  have s1:zr (x::a)=x.toNat*256^a.length+zr a:=by rw[<-one,<-kT];rfl
  have s2:zr (y::b)=y.toNat*256^a.length+zr b:=by rw[<-one,hl',<-kT];rfl
  have l1:=qn3 a fun z hz=>ha z (by simp[hz])
  have l2:=qn3 b fun z hz=>hb z (by simp[hz])
  rw[<-hl']at l2
  rw[s1,s2]at h
  generalize 256^a.length=P at*
  have hq:x.toNat=y.toNat:=by
   have d1:(x.toNat*P+zr a)/P=x.toNat:=by rw[zi3,Nat.mul_add_div qc,zld l1];omega
   have d2:(y.toNat*P+zr b)/P=y.toNat:=by rw[zi3,Nat.mul_add_div qc,zld l2];omega
   rw[<-d1,<-d2,h]
  have hx:=ha x qe;have hy:=hb y qe
  have hxy:x=y:=qc
  rw[hq]at h
  have ih:=qn4 a b (fun z hz=>ha z (by simp[hz])) (fun z hz=>hb z (by simp[hz])) hl' qc
  rw[hxy,ih]
def MR(hp:Hp)(b:Nat)(cs:List Nat):Prop:=b<hp.next/\hp.rd b 0=some (LI .i64 (nz cs))
theorem MR.fr{hp hp':Hp}{b:Nat}{cs:List Nat}{X:List Nat}(h:MR hp b cs)(f:Fm X hp hp')(h1:b∉X):MR hp' b cs:=
 ⟨zi8 h.1 f.1,by rw[f.rd h.1 h1];exact h.2⟩
theorem gC0(x:AV)(l:List AV):qt (x::l) 0=some x:=rfl
theorem gN1(x:AV):qo [x] 0 1=some [x]:=rfl
theorem pN1(x y:AV):qm [x] 0 [y]=some [y]:=rfl
theorem qku:∀(f i b:Nat) (hp:Hp),i+f=64->1<=i->MR hp b (List.replicate i 1)->
 ∃hp' b',B227_3 (.int .i64 64) (.int .i64 (i:Int)) [S 2 1 []] [.ms b 0 0 i 1] hp=some (.agg [.ms b' 0 0 64 1],hp')/\MR hp' b' cs0:=by
 intro f
 induction f with
 |zero=>
  intro i b hp h h1 hm
  have e:i=64:=qc
  subst e
  refine⟨hp,b,?_,hm⟩
  rw[YN]
  simp[gN1,pN1]
 |succ f ih=>
  intro i b hp h h1 hm
  have hlt:(i:Int)<64:=qc
  have w1:IntKind.i64.wrap ((i:Int)+1)=((i+1:Nat):Int):=qh
  have hl:(nz (List.replicate i 1)).length=i:=qe
  have ap:=JM .i64 (nz (List.replicate i 1)) 1 8 b qf (by rw[hl];omega) (by intro e;rw[e]at hl;simp at hl;omega) hp hm.2
  rw[hl]at ap
  have e1:nz (List.replicate i 1)++[1]=nz (List.replicate (i+1) 1):=by rw[zku,qea];rfl
  rw[e1]at ap
  obtain⟨hp',b',a1,a2⟩:=ih (i+1) hp.next ((hp.del b).new (LI .i64 (nz (List.replicate (i+1) 1)))) qc qc ⟨by simp[Hp.del],qF (hp.del b) _⟩
  refine⟨hp',b',?_,a2⟩
  rw[YN]
  generalize nz (List.replicate (i+1) 1)=L at*
  generalize((i+1:Nat):Int)=I at*
  simp[hlt,gC0,ap,pN1,w1,a1]
theorem qou(hp:Hp):∃hp' b,run cxX 227 [.sc (.int .i64 64)] hp=some (.agg [.ms b 0 0 64 1],hp')/\MR hp' b cs0:=by
 have ap:=ZM .i64 1 8 qf hp
 obtain⟨hp',b',a1,a2⟩:=qku 63 1 hp.next (hp.new (LI .i64 [1])) rfl qc ⟨qe,qF _ _⟩
 refine⟨hp',b',?_,a2⟩
 rw[E227]
 have h3:B227_3 (.int .i64 64) (.int .i64 0) [S 2 1 []] [S 2 1 []] hp=some (.agg [.ms b' 0 0 64 1],hp'):=by
  rw[YN]
  generalize LI .i64 [1]=L at*
  simp[gC0,ap,pN1]
  simpa using a1
 simp[h3]
section
variable (hp:Hp)(b:Nat)(cs:List Nat)(h:MR hp b cs)(hl:cs.length=64)(hs:cs.sum<=1000000)
include h hl hs
theorem qkv:∀(f i:Nat),i+f=64->
 B228_3 (.int .i64 ((cs.take i).sum:Nat)) (.int .i64 (i:Int)) [.ms b 0 0 64 1] hp=some (.sc (.int .i64 (cs.sum:Nat)),hp):=by
 intro f
 induction f with
 |zero=>
  intro i e
  have e:i=64:=qc
  subst e
  have et:cs.take 64=cs:=by rw[<-hl,zlc]
  rw[qch,et]
  simp[gC0]
 |succ f ih=>
  intro i e
  have hn:=ih (i+1) qc
  have ix:idx 64 (.int .i64 (i:Int))=some i:=za .i64 qc
  have g:=xS .i64 (nz cs) i qg
  rw[Jr cs i qc]at g
  have st:=jc cs i qc
  have sl:=jo cs (i+1)
  have w1:IntKind.i64.wrap ((((cs.take i).sum:Nat):Int)+((cs.getD i 0:Nat):Int))=(((cs.take (i+1)).sum:Nat):Int):=qh
  have w2:IntKind.i64.wrap ((i:Int)+1)=((i+1:Nat):Int):=qh
  have hlt:(i:Int)<64:=qc
  rw[<-hn,qch]
  have h2:=h.2
  generalize(((cs.take i).sum:Nat):Int)=A at*
  generalize(((cs.take (i+1)).sum:Nat):Int)=A1 at*
  generalize((cs.getD i 0:Nat):Int)=B at*
  generalize((i+1:Nat):Int)=I at*
  have hlt':i<64:=qc
  simp[gC0,hlt',ix,h2,g,w1,w2]
theorem qai:run cxX 228 [.agg [.ms b 0 0 64 1]] hp=some (.sc (.int .i64 (cs.sum:Nat)),hp):=by
 have lp:=qkv hp b cs h hl hs 64 0 rfl
 rw[E228]
 simp at lp
 simp[lp]
theorem qec(x:Nat)(hx:x<64):∀(f i:Nat),i+f=x->
 B230_3 (.int .i64 (x:Int)) (.int .i64 ((cs.take i).sum:Nat)) (.int .i64 (i:Int)) [.ms b 0 0 64 1] hp=some (.sc (.int .i64 ((cs.take x).sum:Nat)),hp):=by
 intro f
 induction f with
 |zero=>
  intro i e
  have e:i=x:=qc
  subst e
  rw[qce]
  simp
 |succ f ih=>
  intro i e
  have hn:=ih (i+1) qc
  have ix:idx 64 (.int .i64 (i:Int))=some i:=za .i64 qc
  have g:=xS .i64 (nz cs) i qg
  rw[Jr cs i qc]at g
  have st:=jc cs i qc
  have sl:=jo cs (i+1)
  have w1:IntKind.i64.wrap ((((cs.take i).sum:Nat):Int)+((cs.getD i 0:Nat):Int))=(((cs.take (i+1)).sum:Nat):Int):=qh
  have w2:IntKind.i64.wrap ((i:Int)+1)=((i+1:Nat):Int):=qh
  have hlt:(i:Int)<(x:Int):=qc
  rw[<-hn,qce]
  have h2:=h.2
  generalize(((cs.take i).sum:Nat):Int)=A at*
  generalize(((cs.take (i+1)).sum:Nat):Int)=A1 at*
  generalize((cs.getD i 0:Nat):Int)=B at*
  generalize((i+1:Nat):Int)=I at*
  simp[gC0,hlt,ix,h2,g,w1,w2]
theorem qf0(x:Nat)(hx:x<64):run cxX 230 [.agg [.ms b 0 0 64 1],.sc (.int .i64 (x:Int))] hp=some (.sc (.int .i64 ((cs.take x).sum:Nat)),hp):=by
 have lp:=qec hp b cs h hl hs x hx x 0 qc
 rw[E230]
 simp at lp
 simp[lp]
end
theorem qkt(d:List Nat)(hd:d.length=64)(hs:d.sum<=1000000)(b:Nat):∀(f i:Nat) (hp:Hp),i+f=64->b<hp.next->hp.rd b 0=some (LI .i64 (nz (hf d i)))->
 ∃hp',B231_5 (.int .i64 (i:Int)) [S 2 1 []] [.ms b 0 0 64 1] hp=some (.agg [.ms b 0 0 64 1],hp')/\MR hp' b (d.map fun n=>(n+1)/2)/\hp'.next=hp.next/\∀c,c≠b->hp'.get c=hp.get c:=by
 intro f
 induction f with
 |zero=>
  intro i hp hi h1 h2
  have e:i=64:=qc
  subst e
  have ef:hf d 64=d.map fun n=>(n+1)/2:=by rw[<-hd,zee]
  rw[ef]at h2
  refine⟨hp,?_,⟨h1,h2⟩,rfl,fun _ _=>rfl⟩
  rw[qcd]
  simp[gC0,qcc,gN1,pN1]
 |succ f ih=>
  intro i hp hi h1 h2
  have hid:i<d.length:=qc
  have hlt:(i:Int)<64:=qc
  have ix:idx 64 (.int .i64 (i:Int))=some i:=za .i64 qc
  have g:=xS .i64 (nz (hf d i)) i qg
  rw[Jr _ i qg,zed d i hid]at g
  have hx:d.getD i 0<=1000000:=by
   have:=jc d i hid
   have:=jo d (i+1)
   omega
  have p:=yU .i64 (nz (hf d i)) i (((d.getD i 0+1)/2:Nat):Int) qg
  have es:(nz (hf d i)).set i (((d.getD i 0+1)/2:Nat):Int)=nz (hf d (i+1)):=by
   rw[zaf d i hid];unfold nz;rw[List.map_set]
  rw[es]at p
  have w1:IntKind.i64.wrap (((d.getD i 0:Nat):Int)+1)=((d.getD i 0+1:Nat):Int):=qh
  have q2:∀t o o',qs Tryz.prog .quo t o o' (.int .i64 ((d.getD i 0+1:Nat):Int)) (.int .i64 2)=some (.int .i64 (((d.getD i 0+1)/2:Nat):Int)):=by
   intro t o o'
   rw[xx _ _ _ _ _ _ _ qc,zjr qc,qj qc qc]
   rfl
  have w4:IntKind.i64.wrap ((i:Int)+1)=((i+1:Nat):Int):=qh
  obtain⟨hp2,a1,a2,a3,a4⟩:=ih (i+1) (hp.put b 0 (LI .i64 (nz (hf d (i+1))))) qc h1 (qw _ _ _)
  refine⟨hp2,?_,a2,by rw[a3];rfl,fun c c1=>by rw[a4 c c1];simp[Hp.put,c1]⟩
  rw[<-a1,qcd]
  generalize nz (hf d (i+1))=L1 at*
  generalize nz (hf d i)=L0 at*
  generalize(((d.getD i 0+1)/2:Nat):Int)=y2 at*
  generalize((d.getD i 0+1:Nat):Int)=y1 at*
  generalize((d.getD i 0:Nat):Int)=y0 at*
  generalize((i+1:Nat):Int)=I at*
  have hlt':i<64:=qc
  simp[gC0,hlt',ix,h2,g,w1,q2,p,w4]
theorem qq3(K:IntKind)(l:List Int)(b:Nat)(hb:0<b/\b<=1000)(x:Nat)(hl:l.length<=1000000)(hne:l≠[])(hp:Hp)(hx:hp.rd x 0=some (LI K l)):
 zF b 1 (S 1 1 []) (.ms x 0 0 l.length 1) hp=some (.ms hp.next 0 0 l.length 1,hp.new (LI K l)):=by
 have e:=ZV K l hp x 0 l.length hx qc
 rw[zj2,zlc,<-vW hp 1 1 (LI K l)]at e
 have h:=kY K l 1 b hb hl hne hp
 unfold zF at h⊢
 rw[e]
 exact h
theorem qot(hp:Hp)(b x:Nat)(cs:List Nat)(h:MR hp b cs)(hm:okM cs)(hx:x<64):
 ∃hp' b',run cxX 231 [.agg [.ms b 0 0 64 1],.sc (.int .i64 (x:Int))] hp=some (.agg [.ms b' 0 0 64 1],hp')/\MR hp' b' (see cs x)/\hp.next<=b'/\Fm [] hp hp':=by
 obtain⟨m1,m2,m3⟩:=hm
 have hnl:(nz cs).length=64:=by simp[m1]
 have ap:=qq3 .i64 (nz cs) 8 qf b qc (by intro e;rw[e]at hnl;cases hnl) hp h.2
 rw[hnl]at ap
 have ix:idx 64 (.int .i64 (x:Int))=some x:=za .i64 qc
 have g:=xS .i64 (nz cs) x qg
 rw[Jr cs x qc]at g
 have st:=jc cs x qc
 have sl:=jo cs (x+1)
 have ss:=qmn cs x (cs.getD x 0+24) qc
 have w1:IntKind.i64.wrap (((cs.getD x 0:Nat):Int)+24)=((cs.getD x 0+24:Nat):Int):=qh
 have p:=yU .i64 (nz cs) x ((cs.getD x 0+24:Nat):Int) qg
 have es:(nz cs).set x ((cs.getD x 0+24:Nat):Int)=nz (cs.set x (cs.getD x 0+24)):=by unfold nz;rw[List.map_set]
 rw[es]at p
 have dl:(cs.set x (cs.getD x 0+24)).length=64:=by simp[m1]
 have rn:=qF hp (LI .i64 (nz cs))
 have f0:Fm [] hp ((hp.new (LI .i64 (nz cs))).put hp.next 0 (LI .i64 (nz (cs.set x (cs.getD x 0+24))))):=by
  refine⟨zme _,fun c hc _=>?_⟩
  have:c≠hp.next:=qc
  simp[Hp.put,Hp.new,this]
 have rm:MR ((hp.new (LI .i64 (nz cs))).put hp.next 0 (LI .i64 (nz (cs.set x (cs.getD x 0+24))))) hp.next (cs.set x (cs.getD x 0+24)):=⟨zj4 _,qw _ _ _⟩
 have al:=qai _ hp.next (cs.set x (cs.getD x 0+24)) rm dl qc
 unfold see
 generalize hd:cs.set x (cs.getD x 0+24)=d at*
 generalize hq:(hp.new (LI .i64 (nz cs))).put hp.next 0 (LI .i64 (nz d))=hq1 at*
 by_cases hle:d.sum<=4096
 ·rw[if_pos hle]
  refine⟨hq1,hp.next,?_,rm,zif _,f0⟩
  have hle':¬((4096:Int)<((d.sum:Nat):Int)):=qc
  rw[E231]
  generalize((d.sum:Nat):Int)=D at*
  generalize((cs.getD x 0+24:Nat):Int)=y1 at*
  generalize((cs.getD x 0:Nat):Int)=y0 at*
  simp[gC0,ap,pN1,ix,rn,g,w1,p,hq,gN1,al,hle',qcc]
 ·rw[if_neg hle]
  have e0:hf d 0=d:=by unfold hf;simp
  obtain⟨hp2,a1,a2,a3,a4⟩:=qkt d dl qc hp.next 64 0 hq1 rfl rm.1 (by rw[e0];exact rm.2)
  refine⟨hp2,hp.next,?_,a2,zif _,by rw[a3];exact f0.1,fun c hc hn=>by rw[a4 c qc,f0.2 c hc hn]⟩
  have hle':(4096:Int)<((d.sum:Nat):Int):=qc
  rw[E231]
  generalize((d.sum:Nat):Int)=D at*
  generalize((cs.getD x 0+24:Nat):Int)=y1 at*
  generalize((cs.getD x 0:Nat):Int)=y0 at*
  simp at a1
  simp[gC0,ap,pN1,ix,rn,g,w1,p,hq,gN1,al,hle',a1]
def LR(hp:Hp)(b:Nat)(L:List Int):Prop:=b<hp.next/\hp.rd b 0=some (LI .u8 L)/\∀x∈L,0<=x/\x<256
theorem qpm(b n T:Nat)(hn:n<=1000000)(hT:T<256^n):∀(i c:Nat) (L:List Int) (hp:Hp),L.length=n->i<=n->c<18446744073709551616->LR hp b L->zr L+c*256^(n-i)=T->
 ∃hp' L',B229_3 (.ms b 0 0 n 1) (.int .u64 (c:Int)) (.int .i64 ((i:Int)-1)) hp=some (.ms b 0 0 n 1,hp')/\LR hp' b L'/\L'.length=n/\zr L'=T/\hp'.next=hp.next/\∀z,z≠b->hp'.get z=hp.get z:=by
 intro i
 induction i with
 |zero=>
  intro c L hp hl hi hc hL hb
  have c0:c=0:=by
   rcases zkr c with e|e
   ·exact e
   ·have:1*256^(n-0)<=c*256^(n-0):=ziq _ e
    rw[zmp]at this hb
    omega
  subst c0
  refine⟨hp,L,?_,hL,hl,by simpa using hb,rfl,fun _ _=>rfl⟩
  rw[qcg]
  simp[qcf]
 |succ i ih=>
  intro c L hp hl hi hc hL hb
  have e1:((i+1:Nat):Int)-1=(i:Int):=qc
  rw[qcg,e1]
  by_cases hc0:0<c
  ·obtain⟨L1,L2,L3⟩:=hL
   have hi':i<L.length:=qc
   have ix:idx n (.int .i64 (i:Int))=some i:=za .i64 qc
   have g:=xS .u8 L i qc
   have hx:0<=L.getD i 0/\L.getD i 0<256:=by
    rw[zia,zic hi']
    exact L3 _ (zi6 _)
   obtain⟨y,hy⟩:∃y:Nat,L.getD i 0=(y:Int):=⟨(L.getD i 0).toNat,qc⟩
   rw[hy]at g hx
   have r1:=XO c 256 qf
   have r2:=XO (y+c%256) 256 qf
   have q1:=Jp c 256 qf hc
   have q2:=Jp (y+c%256) 256 qf qc
   have w0:IntKind.u64.wrap (y:Int)=(y:Int):=qx qc qc
   have w1:IntKind.u64.wrap ((y:Int)+((c%256:Nat):Int))=((y+c%256:Nat):Int):=by rw[qx]<;>omega
   have w2:IntKind.u8.wrap (((y+c%256)%256:Nat):Int)=(((y+c%256)%256:Nat):Int):=zE qc qc
   have w3:IntKind.u64.wrap (((c/256:Nat):Int)+(((y+c%256)/256:Nat):Int))=((c/256+(y+c%256)/256:Nat):Int):=by rw[qx]<;>omega
   have w4:IntKind.i64.wrap ((i:Int)-1)=(i:Int)-1:=qj qc qc
   have p:=yU .u8 L i (((y+c%256)%256:Nat):Int) qc
   have bs:=qwq L i (((y+c%256)%256:Nat):Int) hi'
   rw[hy,zik,zik,hl]at bs
   have en:n-1-i=n-(i+1):=qc
   have en2:n-i=n-(i+1)+1:=qc
   have hb':zr (L.set i (((y+c%256)%256:Nat):Int))+(c/256+(y+c%256)/256)*256^(n-i)=T:=by
    rw[en]at bs
    rw[en2,zj3]
    have k1:c=c/256*256+c%256:=qc
    have k2:y+c%256=(y+c%256)/256*256+(y+c%256)%256:=qc
    generalize 256^(n-(i+1))=P at*
    generalize(y+c%256)/256=u at*
    generalize(y+c%256)%256=v at*
    generalize c/256=c1 at*
    generalize c%256=c2 at*
    have e3:(c1+u)*(P*256)=c1*256*P+u*256*P:=by rw[zi3 P 256,<-Nat.mul_assoc,zk6,zk6]
    have e4:y*P+c2*P=u*256*P+v*P:=by rw[<-Nat.add_mul,<-Nat.add_mul,k2]
    have e5:c*P=c1*256*P+c2*P:=by rw[<-Nat.add_mul,<-k1]
    omega
   have hL':LR (hp.put b 0 (LI .u8 (L.set i (((y+c%256)%256:Nat):Int)))) b (L.set i (((y+c%256)%256:Nat):Int)):=by
    refine⟨L1,qw _ _ _,fun x hx'=>?_⟩
    rcases zka hx' with h|h
    ·exact L3 x h
    ·rw[h];omega
   obtain⟨hp',L',a1,a2,a3,a4,a5,a6⟩:=ih (c/256+(y+c%256)/256) _ _ (by simp[hl]) qc qc hL' hb'
   refine⟨hp',L',?_,a2,a3,a4,by rw[a5];rfl,fun z hz=>by rw[a6 z hz];simp[Hp.put,hz]⟩
   rw[<-a1]
   have hc0':(0:Int)<(c:Int):=qc
   simp only[zkf]at r1 r2 q1 q2
   have h5:B229_5 (.ms b 0 0 n 1) (.int .u64 (c:Int)) (.int .i64 (i:Int)) hp=B229_3 (.ms b 0 0 n 1) (.int .u64 ((c/256+(y+c%256)/256:Nat):Int)) (.int .i64 ((i:Int)-1)) (hp.put b 0 (LI .u8 (L.set i (((y+c%256)%256:Nat):Int)))):=by
    rw[qrh]
    clear a1 hL' hb' bs ih
    generalize((c/256+(y+c%256)/256:Nat):Int)=C3 at*
    generalize(((y+c%256)%256:Nat):Int)=v at*
    generalize(((y+c%256)/256:Nat):Int)=u at*
    generalize((y+c%256:Nat):Int)=s at*
    generalize((c/256:Nat):Int)=c1 at*
    generalize((c%256:Nat):Int)=c2 at*
    simp[ix,L2,g,w0,r1,w1,r2,w2,p,q1,q2,w3,w4]
   clear a1 hL' hb' bs ih p w2 w3 a5 a6
   generalize((c/256+(y+c%256)/256:Nat):Int)=C3 at*
   generalize(((y+c%256)%256:Nat):Int)=v at*
   simp[hc0,h5]
  ·have c0:c=0:=qc
   subst c0
   refine⟨hp,L,?_,hL,hl,by simpa using hb,rfl,fun _ _=>rfl⟩
   simp[qcf]
theorem qoq(b c:Nat)(L:List Int)(hp:Hp)(hl:L.length<=1000000)(hc:c<18446744073709551616)(hL:LR hp b L)(hT:zr L+c<256^L.length):
 ∃hp' L',run cxX 229 [.ms b 0 0 L.length 1,.sc (.int .u64 (c:Int))] hp=some (.ms b 0 0 L.length 1,hp')/\LR hp' b L'/\L'.length=L.length/\zr L'=zr L+c/\hp'.next=hp.next/\∀z,z≠b->hp'.get z=hp.get z:=by
 obtain⟨hp',L',a1,a2⟩:=qpm b L.length (zr L+c) hl hT L.length c L hp rfl (zif _) hc hL qe
 refine⟨hp',L',?_,a2⟩
 have w1:IntKind.i64.wrap ((L.length:Int)-1)=(L.length:Int)-1:=qj qc qc
 rw[E229]
 simp[w1,a1]
theorem LR.fr{hp hp':Hp}{b:Nat}{L:List Int}{X:List Nat}(h:LR hp b L)(f:Fm X hp hp')(h1:b∉X):LR hp' b L:=
 ⟨zi8 h.1 f.1,by rw[f.rd h.1 h1];exact h.2.1,h.2.2⟩
structure CQ (hp : Hp) (lo mb : Nat) (L : List Int) (cs : List Nat) (s : En) : Prop where
 lr:LR hp lo L
 mr:MR hp mb cs
 ne:lo≠mb
 v:zr L=eV s
 k:L.length=eK s+4
 up:eV s+s.width<=256^L.length
theorem qqq(X:AV)(v8 v9:Value)(b5:List AV)(w:Int)(hp:Hp)(hw:w<16777216)(W:Int)(w1:IntKind.u64.wrap (w*256)=W)(lo n:Nat)(Y:AV)(hp':Hp)(ap:zF 1 1 (.ms lo 0 0 n 1) (S 1 1 [.sc (.int .u8 0)]) hp=some (Y,hp')):
 B177_11 X (.ms lo 0 0 n 1) (.int .u64 w) v8 v9 b5 hp=B177_11 X Y (.int .u64 W) v8 v9 b5 hp':=by
 rw[Wl]
 simp[hw,w1,ap]
theorem qqr(X x6:AV)(i:Int)(v9:Value)(w:Int)(hp:Hp)(hw:¬(w<16777216))(i':Int)(w1:IntKind.i64.wrap (i+1)=i')(mb mb':Nat)(hp':Hp)(d1:run cxX 231 [.agg [.ms mb 0 0 64 1],.sc v9] hp=some (.agg [.ms mb' 0 0 64 1],hp')):
 B177_11 X x6 (.int .u64 w) (.int .i64 i) v9 [.ms mb 0 0 64 1] hp=B177_5 X x6 (.int .u64 w) (.int .i64 i') [.ms mb' 0 0 64 1] hp':=by
 rw[Wl]
 simp[hw,gN1,pN1,d1,w1]
theorem qqo(k mb:Nat)(X:AV)(v8 v9:Value)(cs:List Nat):∀(f:Nat) (s:En) (lo:Nat) (L:List Int) (hp:Hp),CQ hp lo mb L cs s->okE s s.width->s.width<=4294967296->L.length+f<=900000->
 ∃hp' lo' L',B177_11 X (.ms lo 0 0 L.length 1) (.int .u64 (s.width:Int)) v8 v9 [.ms mb 0 0 64 1] hp=B177_11 X (.ms lo' 0 0 L'.length 1) (.int .u64 ((jI f s).width:Nat)) v8 v9 [.ms mb 0 0 64 1] hp'/\
  CQ hp' lo' mb L' cs (jI f s)/\L'.length<=L.length+f:=by
 intro f
 induction f with
 |zero=>intro s lo L hp h ho hw hl;exact⟨hp,lo,L,rfl,h,zif _⟩
 |succ f ih=>
  intro s lo L hp h ho hw hl
  unfold jI
  by_cases hlt:s.width<16777216
  ·rw[if_pos hlt]
   have ho':okE (wid s (s.width*256)) s.width:=ho
   obtain⟨a1,a2,a3,a4⟩:=qac (wid s (s.width*256)) s.width ho' qc
   have a4:(sh (wid s (s.width*256))).width=s.width*256:=a4
   rw[(qeq s _).1]at a2
   rw[(qeq s _).2]at a3
   have hne:L≠[]:=by intro e;have:=h.k;rw[e]at this;simp at this
   have ap:=JM .u8 L 0 1 lo qf qc hne hp h.lr.2.1
   have fm:Fm [lo] hp ((hp.del lo).new (LI .u8 (L++[0]))):=Fm.delNew hp lo _ qe
   have cq:CQ ((hp.del lo).new (LI .u8 (L++[0]))) hp.next mb (L++[0]) cs (sh (wid s (s.width*256))):=by
    refine⟨⟨by simp[Hp.del],qF (hp.del lo) _,fun x hx=>?_⟩,h.mr.fr fm (by simp;exact fun e=>h.ne e.symm),by have:=h.mr.1;omega,?_,?_,?_⟩
    ·rcases zip.mp hx with q|q
     ·exact h.lr.2.2 x q
     ·simp at q;omega
    ·have e0:(0:Int).toNat=0:=rfl
     rw[jK,h.v,a2,e0,zjo]
    ·have q:=h.k
     rw[a3,zh8,ziz];omega
    ·rw[a2,a4,zh8,ziz,zj3,<-Nat.add_mul]
     exact ziq _ h.up
   obtain⟨hp',lo',L',b1,b2,b3⟩:=ih (sh (wid s (s.width*256))) hp.next (L++[0]) _ cq (by rw[a4];exact a1) (by rw[a4];omega) qg
   refine⟨hp',lo',L',?_,b2,by simp at b3;omega⟩
   have w1:IntKind.u64.wrap ((s.width:Int)*256)=((s.width*256:Nat):Int):=by rw[qx]<;>omega
   rw[<-b1,a4,zh8,ziz]
   exact qqq X v8 v9 _ _ hp qc _ w1 _ _ _ _ ap
  ·rw[if_neg hlt]
   exact⟨hp,lo,L,rfl,h,Nat.le_add_right _ _⟩
theorem qqp(l:List Nat)(k:Nat)(h64:∀x∈l,x<64)(hl:l.length<=100000):∀(r:List Nat) (i:Nat) (cs:List Nat) (s:En) (lo mb:Nat) (L:List Int) (hp:Hp),l.drop i=r->i+r.length=l.length->CQ hp lo mb L cs s->okM cs->okE s s.width->
 16777216<=s.width/\s.width<=4294967296->L.length+4*r.length<=900000->
 ∃hp' L',B177_5 (S k 1 (LI .u8 (nz l))) (.ms lo 0 0 L.length 1) (.int .u64 (s.width:Int)) (.int .i64 (i:Int)) [.ms mb 0 0 64 1] hp=some (S 0 1 (LI .u8 L'),hp')/\
  zr L'=eV (enc cs s r)/\L'.length=eK (enc cs s r)+4/\∀x∈L',0<=x/\x<256:=by
 intro r
 induction r with
 |nil=>
  intro i cs s lo mb L hp h hil hq hm ho hw hb
  simp at hil
  have fz:=ZA .u8 L hp lo hq.lr.2.1
  refine⟨hp.del lo,L,?_,hq.v,hq.k,hq.lr.2.2⟩
  rw[qcq]
  simp[hil,fz]
 |cons x r ih=>
  intro i cs s lo mb L hp h hil hq hm ho hw hb
  obtain⟨e1,e2,hi,e3⟩:=qv h
  simp only[zid]at hil hb
  have hx:x<64:=by rw[<-e3];exact h64 _ (zi6 _)
  obtain⟨m1,m2,m3⟩:=hm
  have al:=qai hp mb cs hq.mr m1 qc
  have stt:=qf0 hp mb cs hq.mr m1 qc x hx
  have ht:=jc cs x qc
  have hta:=jo cs (x+1)
  have hn:1<=cs.getD x 0:=by
   rw[zia,zic qc]
   exact m3 _ (zi6 _)
  have hmul:s.width/cs.sum*cs.sum<=s.width:=zmc _ _
  have hsum:s.width/cs.sum*(cs.take x).sum+s.width/cs.sum*cs.getD x 0<=s.width:=by
   rw[<-Nat.mul_add,<-ht]
   exact zjw (zk0 _ hta) hmul
  obtain⟨d,b1,b2,b3,b4,b5,b6,b7⟩:=ql0 s cs x ⟨m1,m2,m3⟩ hx ho hw
  have up:=hq.up
  have vv:=hq.v
  obtain⟨h4,L4,p1,p2,p3,p4,p5,p6⟩:=qoq lo (s.width/cs.sum*(cs.take x).sum) L hp qc qc hq.lr (by rw[vv];omega)
  have mr4:MR h4 mb cs:=⟨by rw[p5];exact hq.mr.1,by rw[rdg (p6 mb (fun e=>hq.ne e.symm))];exact hq.mr.2⟩
  have okn:okE (Xc s cs x) (Xc s cs x).width:=by
   obtain⟨h1,h2,h3,h4⟩:=ho
   refine⟨?_,h2,b7,fun q=>?_⟩
   ·show s.low+s.width/cs.sum*(cs.take x).sum+s.width/cs.sum*cs.getD x 0<=_;omega
   ·have:=h4 q
    show s.low+s.width/cs.sum*(cs.take x).sum+s.width/cs.sum*cs.getD x 0<=_;omega
  have ev:eV (Xc s cs x)=eV s+s.width/cs.sum*(cs.take x).sum:=by
   show zr (bl s)*4294967296+(s.low+_)=zr (bl s)*4294967296+s.low+_
   omega
  have cq4:CQ h4 lo mb L4 cs (Xc s cs x):=⟨p2,mr4,hq.ne,by rw[p4,vv,ev],by rw[p3];exact hq.k,by rw[ev,p3];show _+s.width/cs.sum*cs.getD x 0<=_;omega⟩
  obtain⟨h5,lo5,L5,c1,c2,c3⟩:=qqo k mb (S k 1 (LI .u8 (nz l))) (.int .i64 (i:Int)) (.int .i64 (x:Int)) cs 4 (Xc s cs x) lo L4 h4 cq4 okn (by show s.width/cs.sum*cs.getD x 0<=_;omega) qc
  obtain⟨h6,mb6,d1,d2,d3,d4⟩:=qot h5 mb x cs c2.mr ⟨m1,m2,m3⟩ hx
  have cq6:CQ h6 lo5 mb6 L5 (see cs x) (jI 4 (Xc s cs x)):=⟨c2.lr.fr d4 qe,d2,by have:=c2.lr.1;omega,c2.v,c2.k,c2.up⟩
  obtain⟨hp',L',f1,f2⟩:=ih (i+1) (see cs x) (jI 4 (Xc s cs x)) lo5 mb6 L5 h6 e2 qc cq6 (qjv ⟨m1,m2,m3⟩ hx) b4 ⟨b5,b6⟩ qc
  refine⟨hp',L',?_,f2⟩
  rw[<-f1,qcq]
  have c11:B177_11 (S k 1 (LI .u8 (nz l))) (.ms lo5 0 0 L5.length 1) (.int .u64 ((jI 4 (Xc s cs x)).width:Nat)) (.int .i64 (i:Int)) (.int .i64 (x:Int)) [.ms mb 0 0 64 1] h5=
   B177_5 (S k 1 (LI .u8 (nz l))) (.ms lo5 0 0 L5.length 1) (.int .u64 ((jI 4 (Xc s cs x)).width:Nat)) (.int .i64 ((i+1:Nat):Int)) [.ms mb6 0 0 64 1] h6:=by
   have w1:IntKind.i64.wrap ((i:Int)+1)=((i+1:Nat):Int):=qh
   exact qqr _ _ _ _ _ h5 qc _ w1 mb mb6 h6 d1
  rw[c11]at c1
  rw[<-c1]
  have ai:=wT .u8 l i hi
  rw[show l.getD i 0=x by rw[zia,e1];rfl]at ai
  have en:∀h,(nz l)[i]'h=(x:Int):=fun h=>by simp[nz,e3]
  have w0:IntKind.i64.wrap (x:Int)=(x:Int):=qj qc qc
  have w2:IntKind.u64.wrap ((cs.sum:Nat):Int)=((cs.sum:Nat):Int):=qx qc qc
  have q1:=Jp s.width cs.sum qc qc
  have w3:IntKind.u64.wrap (((cs.take x).sum:Nat):Int)=(((cs.take x).sum:Nat):Int):=qx qc qc
  have w4:IntKind.u64.wrap (((s.width/cs.sum:Nat):Int)*(((cs.take x).sum:Nat):Int))=((s.width/cs.sum*(cs.take x).sum:Nat):Int):=by rw[<-Int.natCast_mul,qx]<;>omega
  have w5:IntKind.u64.wrap ((cs.getD x 0:Nat):Int)=((cs.getD x 0:Nat):Int):=qx qc qc
  have w6:IntKind.u64.wrap (((s.width/cs.sum:Nat):Int)*((cs.getD x 0:Nat):Int))=((s.width/cs.sum*cs.getD x 0:Nat):Int):=by rw[<-Int.natCast_mul,qx]<;>omega
  have ix:idx 64 (.int .i64 (x:Int))=some x:=za .i64 qc
  have g:=xS .i64 (nz cs) x qg
  rw[Jr cs x qc]at g
  have m4:=mr4.2
  have ew:(Xc s cs x).width=s.width/cs.sum*cs.getD x 0:=rfl
  rw[ew,p3]
  clear c1 c11 f1 f2 cq6 d1 d2 d4 c2 c3 cq4 ev okn mr4 b1 b2 b3 b4 ho hq ih
  generalize((s.width/cs.sum*cs.getD x 0:Nat):Int)=W2 at*
  generalize((s.width/cs.sum*(cs.take x).sum:Nat):Int)=W1 at*
  generalize((s.width/cs.sum:Nat):Int)=part at*
  generalize((cs.getD x 0:Nat):Int)=Xz at*
  generalize(((cs.take x).sum:Nat):Int)=start at*
  generalize((cs.sum:Nat):Int)=sm at*
  simp[hi,ai,en,qX,w0,gN1,al,w2,q1,stt,w3,w4,p1,gC0,ix,m4,g,w5,w6]
theorem Yd(s:En)(h:∀x∈s.out,0<=x/\x<256):∀x∈(sh s).out,0<=x/\x<256:=by
 unfold sh
 split
 ·intro x hx
  simp only[zip,List.mem_replicate]at hx
  rcases hx with(q|q)|q
  ·exact h x q
  ·split at q
   ·simp at q;omega
   ·simp at q
  ·omega
 ·exact h
theorem qu0:∀(f:Nat) (s:En),(∀x∈s.out,0<=x/\x<256)->∀x∈(jI f s).out,0<=x/\x<256:=by
 intro f
 induction f with
 |zero=>intro s h;exact h
 |succ f ih=>
  intro s h
  unfold jI
  split
  ·exact ih _ (Yd _ h)
  ·exact h
theorem zat:∀(l cs:List Nat) (s:En),(∀x∈s.out,0<=x/\x<256)->∀x∈(enc cs s l).out,0<=x/\x<256:=by
 intro l
 induction l with
 |nil=>intro cs s h;exact h
 |cons y r ih=>intro cs s h;exact ih _ _ (qu0 4 _ h)
theorem za4(l:List Nat):∀x∈cod l,0<=x/\x<256:=
 Yd _ (Yd _ (Yd _ (Yd _ (Yd _ (zat l cs0 en0 (fun x hx=>by cases hx))))))
theorem qfw(l:List Nat)(k:Nat)(hl:l.length<=100000)(h64:∀x∈l,x<64)(hp:Hp):∃hp',run cxX 177 [.sc (.int .i64 64),S k 1 (LI .u8 (nz l))] hp=some (S 0 1 (LI .u8 (cod l)),hp'):=by
 obtain⟨h1,mb,a1,a2⟩:=qou hp
 have z:=Qy .u8 4
 have mk:yc 1 1 (4:Int) 4=some ():=qf
 have cq:CQ (h1.new (LI .u8 (List.replicate 4 0))) h1.next mb (List.replicate 4 0) cs0 en0:=by
  refine⟨⟨qe,qF _ _,fun x hx=>by rw[zje hx];decide⟩,a2.fr (Fm.new [] _ _) qe,by have:=a2.1;omega,qf,qf,qf⟩
 obtain⟨hp',L',b1,b2,b3,b4⟩:=qqp l k h64 hl l 0 cs0 en0 h1.next mb (List.replicate 4 0) _ rfl qe cq zdw zdx ⟨qf,qf⟩ qg
 obtain⟨n1,n2⟩:=qnw l h64
 have e:L'=cod l:=qn4 L' (cod l) b4 (za4 l) qc qc
 refine⟨hp',?_⟩
 rw[E177,<-e]
 have ew:en0.width=4294967295:=rfl
 rw[ew]at b1
 simp only[zjm]at b1
 generalize LI .u8 (List.replicate 4 0)=Z at*
 have z':yM 4 [.int .u8 0]=Z:=z
 simp at b1
 simp[a1,pN1,mk,z',b1]
theorem Qz(K:IntKind)(hp:Hp)(k:Nat)(m:List Int):xg hp 1 (S k 1 (LI K m))=some (LI K m):=vW hp k 1 _
theorem kg(K:IntKind)(l m:List Int)(k b:Nat)(hk:k=1\/k=2)(hb:0<b/\b<=1000)(s:AV)(hp:Hp)(hl:l≠[])(hm:m≠[])(h:l.length+m.length<=1000000)(hs:xg hp 1 s=some (LI K m)):
 zF b 1 (S k 1 (LI K l)) s hp=some (S k 1 (LI K (l++m)),hp):=by
 have ap:=ZN b 1 k (LI K l) (LI K m) 1 hk (Xi K m) (.inr (jr hb.1 (by
  simp only[yI]
  have:(l.length+m.length)*b<=1000000*1000:=zjn h hb.2
  omega)))
 unfold zh at ap
 rw[qs5]at ap
 simp only[zib]at ap
 have e:LI K l++LI K m=LI K (l++m):=by simp[LI]
 rw[e]at ap
 have hv:(LI K m).all vl=true:=vlI K m
 unfold zF
 rw[hs]
 cases l with
 |nil=>exact absurd rfl hl
 |cons x l=>
  cases m with
  |nil=>exact absurd rfl hm
  |cons y m=>
   have e1:LI K (x::l)= .sc (.int K x)::LI K l:=rfl
   have e2:LI K (y::m)= .sc (.int K y)::LI K m:=rfl
   rw[e1,e2]at ap
   rw[e2]at hv
   have es:S k 1 (LI K (x::l))= .us 1 (.sc (.int K x)::LI K l):=by rcases hk with rfl|rfl<;>rfl
   rw[es,e2]
   rw[<-e1,es]at ap
   show(vh (.sc (.int K y)::LI K m)).bind (fun _=>(WS b 1 (.us 1 (.sc (.int K x)::LI K l)) (.sc (.int K y)::LI K m)).bind fun r=>some (r,hp))=_
   rw[ap,quw,zT hv]
   rfl
theorem zbh(K:IntKind)(m:List Int)(b:Nat)(hb:0<b/\b<=1000)(hp:Hp)(hm:m≠[])(h:m.length<=1000000):zF b 1 (S 2 1 []) (S 1 1 (LI K m)) hp=some (.ms hp.next 0 0 m.length 1,hp.new (LI K m)):=by
 unfold zF
 rw[Qz]
 cases m with
 |nil=>exact absurd rfl hm
 |cons y m=>
  have hf:js b 1 (LI K (y::m)).length=true:=jr hb.1 (by
   rw[yI]
   have:(y::m).length*b<=1000000*1000:=zjn h hb.2
   omega)
  have e2:LI K (y::m)= .sc (.int K y)::LI K m:=rfl
  rw[e2]at hf⊢
  show(yk (kE nil0=true/\js b 1 (AV.sc (Value.int K y)::LI K m).length=true)).bind _=_
  rw[zT ⟨rfl,hf⟩]
  simp[yI]
theorem qq2(K:IntKind)(l m:List Int)(b x:Nat)(hb:0<b/\b<=1000)(hl:l≠[])(hm:m≠[])(h:l.length+m.length<=1000000)(hp:Hp)(hx:hp.rd x 0=some (LI K l)):
 zF b 1 (.ms x 0 0 l.length 1) (S 1 1 (LI K m)) hp=some (.ms hp.next 0 0 (l.length+m.length) 1,(hp.del x).new (LI K (l++m))):=by
 have hpos:0<l.length:=zjj.mpr hl
 unfold zF
 rw[Qz]
 cases m with
 |nil=>exact absurd rfl hm
 |cons y m=>
  have hf:js b 1 (l.length*1+(LI K (y::m)).length)=true:=jr hb.1 (by
   rw[yI]
   have:(l.length*1+(y::m).length)*b<=1000000*1000:=zjn qc hb.2
   omega)
  have e2:LI K (y::m)= .sc (.int K y)::LI K m:=rfl
  rw[e2]at hf⊢
  show(yk (1=1/\0=0/\0<l.length)).bind (fun _=>(hp.rd x 0).bind fun cs=>(yk (l.length*1<=cs.length/\js b 1 (l.length*1+(AV.sc (Value.int K y)::LI K m).length)=true)).bind fun _=>some (AV.ms hp.next 0 0 (l.length+jV 1 (AV.sc (Value.int K y)::LI K m)) 1,(hp.del x).new ((cs.take (l.length*1)).map ro1++AV.sc (Value.int K y)::LI K m)))=_
  rw[zT ⟨rfl,rfl,hpos⟩]
  simp only[zib,hx]
  rw[zT ⟨by rw[yI];omega,hf⟩]
  simp only[zib]
  congr 2
  ·rw[Vd];simp
  ·congr 1
   rw[zi7,zix qe,Xi]
   simp[LI]
theorem zdi(m:Nat):∀f i,∀x∈Jk m f i,0<=x/\x<256:=by
 intro f
 induction f with
 |zero=>intro i x h;simp[Jk]at h
 |succ f ih=>
  intro i x h
  unfold Jk at h
  by_cases h256:256<=i
  ·rw[if_pos h256]at h;simp at h
  ·rw[if_neg h256]at h
   have:=(QE m (255-i) i).2.1
   split at h
   ·rcases zie.mp h with e|h
    ·omega
    ·rcases zie.mp h with e|h
     ·omega
     ·exact ih _ x h
   ·exact ih _ x h
theorem qu4(L:List Nat)(x:Nat):zj (L++[x])=zj L|||2^x:=by
 apply zj5
 intro j
 have h1:=wx j (L++[x])
 have h2:=wx j L
 rw[zki,zjq,Bool.eq_iff_iff]
 simp only[zlf,decide_eq_true_eq,h1,h2,zip,zjh]
 constructor
 ·rintro(h|h)
  ·exact .inl h
  ·exact .inr h.symm
 ·rintro(h|h)
  ·exact .inl h
  ·exact .inr h.symm
def nxt(e:Nat)(L:List Nat):Nat:=if L=[]then e else L.getD (L.length-1) 0+1
theorem KP(x:Nat):∀(L:List Nat) (a:List Int) (e:Nat),xL a e (L++[x])=if x=nxt e L then VJ (xL a e L)else xL a e L++[(x:Int),0]
 |[],a,e=>rfl
 |y::L,a,e=>by
  have en:∀e',nxt e' (y::L)=nxt (y+1) L:=by
   intro e'
   unfold nxt
   cases L with
   |nil=>rfl
   |cons z r=>rfl
  rw[en]
  simp only[zj0,xL]
  split
  ·exact KP x L _ _
  ·exact KP x L _ _
def CSt(hp:Hp)(bb rb:Nat)(m:Nat)(A:List Int):Prop:=
 bb<hp.next/\hp.rd bb 0=some (LI .u8 (xv m 32 0))/\(A≠[]->rb<hp.next/\rb≠bb/\hp.rd rb 0=some (LI .u8 A))
def WT(rb:Nat)(A:List Int):AV:=if A=[]then S 2 1 []else .ms rb 0 0 A.length 1
section
variable (L:List Nat)(hL:∀x∈L,x<256)(hp2:L.Pairwise (·<·))(hne:L≠[])(k key:Nat)(hkey:key<4294967296)
include hL hp2
theorem zcb:L.length<=256:=by
 have h:=qez (zj L) 256 0 L (fun j _ _=>wx j L) (fun x hx=>⟨ziv _,by have:=hL x hx;omega⟩) hp2
 have h2:=congrArg List.length h
 have h3:=qiq (zj L) 256 0
 have h4:Jq (zj L) 256<=256:=by
  have:∀n,Jq (zj L) n<=n:=by
   intro n
   induction n with
   |zero=>exact zif _
   |succ n ih=>
    have:((zj L).testBit n).toNat<=1:=b2n _
    show Jq (zj L) n+_<=_;omega
  exact this 256
 rw[qkr]at h2
 have h5:Jq (zj L) 0=0:=rfl
 rw[h5]at h3
 simp only[ziw,zjo]at h3
 omega
theorem qw2:XA (zj L) 256 0=nz L/\Jq (zj L) 256=L.length:=by
 have h:=qez (zj L) 256 0 L (fun j _ _=>wx j L) (fun x hx=>⟨ziv _,by have:=hL x hx;omega⟩) hp2
 exact⟨h,by rw[<-qbt,h,qkr]⟩
theorem qi0:xL [] 300 L=Jk (zj L) 256 0:=by
 have h:=qy1 (zj L) 256 0 300 [] L (fun j _ _=>wx j L) (fun x hx=>⟨ziv _,hL x hx⟩) hp2 (fun q=>by have:=hL _ q;omega) qc
 simpa using h
omit hL hp2 in
theorem ql3(hL:∀x∈L,x<256)(hp2:L.Pairwise (·<·))(i:Nat):(∀x∈L.take i,x<256)/\(L.take i).Pairwise (·<·):=
 ⟨fun x hx=>hL x (zjs hx),hp2.sublist (zml i L)⟩
include hne hkey
theorem qqu(hp:Hp)(bb rb:Nat)(h:CSt hp bb rb (zj L) (xL [] 300 L)):
 ∃hp',B221_7 (S k 1 (LI .i64 (nz L))) (S 2 1 (LI .u8 (uv key))) (WT rb (xL [] 300 L)) (.int .i64 (yv (zj L) 256:Nat)) (.ms bb 0 0 32 1) (S 2 1 (LI .u8 (nz L))) (.int .i64 (L.length:Int)) hp=some (S 2 1 (LI .u8 (wZ (key,zj L))),hp'):=by
 have ll:=zcb L hL hp2
 obtain⟨ea,ep⟩:=qw2 L hL hp2
 have er:=qi0 L hL hp2
 have hl0:0<L.length:=zjj.mpr hne
 have hrp:0<yv (zj L) 256:=qmy (by rw[ep];exact hl0)
 have hrl:=qki (zj L) 256
 have hrn:=vE (zj L)
 rw[er]at h⊢
 obtain⟨h1,h2,h3⟩:=h
 have hk:=qeh (zj L)
 have ul:=qu (n:=key) qc
 have une:=zgd key
 have rne:Jk (zj L) 256 0≠[]:=by intro e;rw[e]at hrn;simp at hrn;omega
 obtain⟨r1,r2,r3⟩:=h3 rne
 have w1:IntKind.i64.wrap (1+(L.length:Int))=1+(L.length:Int):=qj qc qc
 have w2:IntKind.i64.wrap (2*((yv (zj L) 256:Nat):Int))=2*((yv (zj L) 256:Nat):Int):=qj qc qc
 have w3:IntKind.i64.wrap (1+2*((yv (zj L) 256:Nat):Int))=1+2*((yv (zj L) 256:Nat):Int):=qj qc qc
 have w4:IntKind.i64.wrap ((L.length:Int)-1)=(L.length:Int)-1:=qj qc qc
 have w5:IntKind.i64.wrap (((yv (zj L) 256:Nat):Int)-1)=((yv (zj L) 256:Nat):Int)-1:=qj qc qc
 have c17:L.length+1<=32->L.length+1<=2*yv (zj L) 256+1->∃hp',B221_17 (S k 1 (LI .i64 (nz L))) (S 2 1 (LI .u8 (uv key))) (S 2 1 (LI .u8 (nz L))) hp=some (S 2 1 (LI .u8 (wZ (key,zj L))),hp'):=by
  intro a1 a2
  have kd:kind (zj L)=0:=by unfold kind;rw[ep,if_pos ⟨a1,a2⟩]
  have eY:wZ (key,zj L)=uv key++[(0:Int),((L.length-1:Nat):Int)]++nz L:=by
   unfold wZ qqx
   rw[kd,if_pos rfl,ep,ea];simp
  have w6:IntKind.u8.wrap ((L.length:Int)-1)=((L.length-1:Nat):Int):=by rw[zE]<;>omega
  have a1:=kg .u8 (uv key) [0,((L.length-1:Nat):Int)] 2 1 (.inr rfl) qf (S 1 1 (LI .u8 [0,((L.length-1:Nat):Int)])) hp une qe qg (Qz _ _ _ _)
  have a2:=kg .u8 (uv key++[(0:Int),((L.length-1:Nat):Int)]) (nz L) 2 1 (.inr rfl) qf (S 3 1 (LI .u8 (nz L))) hp qe (by intro e;have:=congrArg List.length e;rw[qkr]at this;simp only[zi1]at this;omega) qg (Qz _ _ _ _)
  refine⟨hp,?_⟩
  rw[ql8,eY]
  have e1:LI .u8 [0,((L.length-1:Nat):Int)]=[.sc (.int .u8 0),.sc (.int .u8 ((L.length-1:Nat):Int))]:=rfl
  rw[e1]at a1
  generalize((L.length-1:Nat):Int)=n1 at*
  generalize uv key=U at*
  generalize LI .u8 (U++[0,n1]++nz L)=R1 at*
  generalize LI .u8 (U++[0,n1])=R2 at*
  simp[w4,w6,a1,a2]
 have c18:¬(L.length+1<=32/\L.length+1<=2*yv (zj L) 256+1)->∃hp',B221_18 (S 2 1 (LI .u8 (uv key))) (WT rb (Jk (zj L) 256 0)) (.int .i64 (yv (zj L) 256:Nat)) (.ms bb 0 0 32 1) (.int .i64 (1+2*((yv (zj L) 256:Nat):Int))) hp=some (S 2 1 (LI .u8 (wZ (key,zj L))),hp'):=by
  intro hn
  by_cases h32:32<=2*yv (zj L) 256+1
  ·have kd:kind (zj L)=1:=by unfold kind;rw[ep,if_neg hn,if_pos h32]
   have eY:wZ (key,zj L)=uv key++[(1:Int)]++xv (zj L) 32 0:=by
    unfold wZ qqx
    rw[kd];simp
   have bl:=QU (zj L) 32 0
   have sm:=ZV .u8 (xv (zj L) 32 0) hp bb 0 32 h2 qc
   rw[zj2,zix qc]at sm
   have a1:=kg .u8 (uv key) [1] 2 1 (.inr rfl) qf (S 1 1 (LI .u8 [1])) hp une qe qg (Qz _ _ _ _)
   have a2:=kg .u8 (uv key++[(1:Int)]) (xv (zj L) 32 0) 2 1 (.inr rfl) qf (.ms bb 0 0 32 1) hp qe (by intro e;have:=congrArg List.length e;rw[bl]at this;cases this) qg sm
   have e1:LI .u8 [1]=[.sc (.int .u8 1)]:=rfl
   have h32':(32:Int)<=1+2*((yv (zj L) 256:Nat):Int):=qc
   rw[e1]at a1
   refine⟨hp,?_⟩
   rw[Wj,eY]
   generalize((yv (zj L) 256:Nat):Int)=rc at*
   generalize uv key=U at*
   generalize LI .u8 (U++[1]++xv (zj L) 32 0)=R1 at*
   generalize LI .u8 (U++[1])=R2 at*
   simp[h32',a1,a2]
  ·have kd:kind (zj L)=2:=by unfold kind;rw[ep,if_neg hn,if_neg h32]
   have eY:wZ (key,zj L)=uv key++[(2:Int),((yv (zj L) 256-1:Nat):Int)]++Jk (zj L) 256 0:=by
    unfold wZ qqx
    rw[kd];simp
   have w6:IntKind.u8.wrap (((yv (zj L) 256:Nat):Int)-1)=((yv (zj L) 256-1:Nat):Int):=by rw[zE]<;>omega
   have sm:=ZV .u8 (Jk (zj L) 256 0) hp rb 0 (Jk (zj L) 256 0).length r3 qc
   rw[zj2,zlc]at sm
   have a1:=kg .u8 (uv key) [2,((yv (zj L) 256-1:Nat):Int)] 2 1 (.inr rfl) qf (S 1 1 (LI .u8 [2,((yv (zj L) 256-1:Nat):Int)])) hp une qe qg (Qz _ _ _ _)
   have a2:=kg .u8 (uv key++[(2:Int),((yv (zj L) 256-1:Nat):Int)]) (Jk (zj L) 256 0) 2 1 (.inr rfl) qf (.ms rb 0 0 (Jk (zj L) 256 0).length 1) hp qe rne qg sm
   have e1:LI .u8 [2,((yv (zj L) 256-1:Nat):Int)]=[.sc (.int .u8 2),.sc (.int .u8 ((yv (zj L) 256-1:Nat):Int))]:=rfl
   have h32':¬((32:Int)<=1+2*((yv (zj L) 256:Nat):Int)):=qc
   rw[e1]at a1
   refine⟨hp,?_⟩
   have erv:WT rb (Jk (zj L) 256 0)= .ms rb 0 0 (Jk (zj L) 256 0).length 1:=if_neg rne
   rw[Wj,eY,erv]
   generalize((yv (zj L) 256-1:Nat):Int)=rc1 at*
   generalize((yv (zj L) 256:Nat):Int)=rc at*
   generalize uv key=U at*
   generalize LI .u8 (U++[2,rc1]++Jk (zj L) 256 0)=R1 at*
   generalize LI .u8 (U++[2,rc1])=R2 at*
   simp[h32',w5,w6,a1,a2]
 rw[qco]
 by_cases a1:L.length+1<=32
 ·by_cases a2:L.length+1<=2*yv (zj L) 256+1
  ·obtain⟨hp',e⟩:=c17 a1 a2
   have a1':1+(L.length:Int)<=32:=qc
   have a2':1+(L.length:Int)<=1+2*((yv (zj L) 256:Nat):Int):=qc
   refine⟨hp',?_⟩
   clear c17 c18
   generalize((yv (zj L) 256:Nat):Int)=rc at*
   simp[w1,w2,w3,a1',a2',e]
  ·obtain⟨hp',e⟩:=c18 (fun q=>a2 q.2)
   have a1':1+(L.length:Int)<=32:=qc
   have a2':¬(1+(L.length:Int)<=1+2*((yv (zj L) 256:Nat):Int)):=qc
   refine⟨hp',?_⟩
   clear c17 c18
   generalize((yv (zj L) 256:Nat):Int)=rc at*
   simp[w1,w2,w3,a1',a2',e]
 ·obtain⟨hp',e⟩:=c18 (fun q=>a1 q.1)
  have a1':¬(1+(L.length:Int)<=32):=qc
  refine⟨hp',?_⟩
  clear c17 c18
  generalize((yv (zj L) 256:Nat):Int)=rc at*
  simp[w1,w2,w3,a1',e]
omit hL hp2 hne hkey in
theorem qe6{rb:Nat}{A:List Int}(h:A≠[]):WT rb A= .ms rb 0 0 A.length 1:=if_neg h
omit hkey hne in
theorem qlm:∀(f i rb jV:Nat) (bb:Nat) (hp:Hp),i+f=L.length->CSt hp bb rb (zj (L.take i)) (xL [] 300 (L.take i))->(xL [] 300 (L.take i)).length=2*jV->
 ∃hp' rb',B221_7 (S k 1 (LI .i64 (nz L))) (S 2 1 (LI .u8 (uv key))) (WT rb (xL [] 300 (L.take i))) (.int .i64 (jV:Int)) (.ms bb 0 0 32 1) (S 2 1 (LI .u8 (nz (L.take i)))) (.int .i64 (i:Int)) hp=
  B221_7 (S k 1 (LI .i64 (nz L))) (S 2 1 (LI .u8 (uv key))) (WT rb' (xL [] 300 L)) (.int .i64 (yv (zj L) 256:Nat)) (.ms bb 0 0 32 1) (S 2 1 (LI .u8 (nz L))) (.int .i64 (L.length:Int)) hp'/\CSt hp' bb rb' (zj L) (xL [] 300 L):=by
 have ll:=zcb L hL hp2
 intro f
 induction f with
 |zero=>
  intro i rb jV bb hp h hc hm
  have e:i=L.length:=qc
  subst e
  rw[zlc]at hc hm⊢
  have e2:jV=yv (zj L) 256:=by
   rw[qi0 L hL hp2,vE]at hm;omega
  rw[e2]
  exact⟨hp,rb,rfl,hc⟩
 |succ f ih=>
  intro i rb jV bb hp h hc hm
  have hi:i<L.length:=qc
  have ex:L.drop i=L[i]::L.drop (i+1):=zi2 hi
  obtain⟨x,hx⟩:∃x,L[i]=x:=⟨_,rfl⟩
  have hx256:x<256:=by rw[<-hx];exact hL _ (zi6 _)
  have et:L.take (i+1)=L.take i++[x]:=by rw[zk4,zic hi,hx];rfl
  have hxn:x∉L.take i:=by
   intro q
   obtain⟨j,hj,e⟩:=zky q
   have hj':j<i:=by simp at hj;omega
   rw[List.getElem_take]at e
   have:=zlq.mp hp2 j i qc hi hj'
   omega
  have hbit:(zj (L.take i)).testBit x=false:=by
   cases hb:(zj (L.take i)).testBit x
   ·rfl
   ·exact absurd ((wx x _).mp hb) hxn
  obtain⟨h1,h2,h3⟩:=hc
  have ai:=wT .i64 L i hi
  rw[show L.getD i 0=x by rw[zia,zic hi,hx];rfl]at ai
  have en:∀h,(nz L)[i]'h=(x:Int):=fun h=>by simp[nz,hx]
  have st:=qwr (zj (L.take i)) x hx256 hbit
  have bl:=QU (zj (L.take i)) 32 0
  have bg:=Kf (zj (L.take i)) 32 0 (x/8) qc
  rw[ziw]at bg
  have by0:=qn0 (zj (L.take i)) x (x/8) hbit
  rw[if_pos rfl]at by0
  have hsum:zj (L.take i)/2^(8*(x/8))%256+2^(x%8)<256:=by rw[<-by0];exact zl6 _ qf
  have g:qi (LI .u8 (xv (zj (L.take i)) 32 0)) (x/8)=some (.int .u8 ((zj (L.take i)/2^(8*(x/8))%256:Nat):Int)):=by
   unfold qi
   rw[Zy?,bg];rfl
  have pn:=yU .u8 (xv (zj (L.take i)) 32 0) (x/8) ((zj (L.take i)/2^(8*(x/8))%256+2^(x%8):Nat):Int) qc
  rw[<-st,<-qu4,<-et]at pn
  have q8:=zdn x qc
  have r8:=rem8 x
  have ix:idx 32 (.int .i64 ((x/8:Nat):Int))=some (x/8):=za .i64 qc
  have sh:∀t o o',qs Tryz.prog .shl t o o' (.int .u8 1) (.int .i64 ((x%8:Nat):Int))=some (.int .u8 ((2^(x%8):Nat):Int)):=by
   intro t o o'
   have hc:x%8=0\/x%8=1\/x%8=2\/x%8=3\/x%8=4\/x%8=5\/x%8=6\/x%8=7:=qc
   rw[xw _ _ _ _ _ _ _ _ qc]
   rcases hc with h|h|h|h|h|h|h|h<;>rw[h]<;>rfl
  have w1:IntKind.u8.wrap (((zj (L.take i)/2^(8*(x/8))%256:Nat):Int)+((2^(x%8):Nat):Int))=((zj (L.take i)/2^(8*(x/8))%256+2^(x%8):Nat):Int):=by
   rw[<-Int.natCast_add,zE]<;>omega
  have w0:IntKind.u8.wrap (x:Int)=(x:Int):=zE qc qc
  have ap:=qir .u8 (nz (L.take i)) 2 (.inr rfl) 1 qf (x:Int) qg
  rw[<-qea,<-et]at ap
  have wi:IntKind.i64.wrap ((i:Int)+1)=((i+1:Nat):Int):=qh
  obtain⟨hp1,e1⟩:∃hp1,hp1=hp.put bb 0 (LI .u8 (xv (zj (L.take (i+1))) 32 0)):=⟨_,rfl⟩
  have c1:hp1.next=hp.next:=by rw[e1];rfl
  have c2:hp1.rd bb 0=some (LI .u8 (xv (zj (L.take (i+1))) 32 0)):=by rw[e1];exact qw _ _ _
  have c3:xL [] 300 (L.take i)≠[]->rb<hp1.next/\rb≠bb/\hp1.rd rb 0=some (LI .u8 (xL [] 300 (L.take i))):=fun q=>by
   obtain⟨d1,d2,d3⟩:=h3 q
   exact⟨by rw[c1];exact d1,d2,by rw[e1,yT _ _ d2];exact d3⟩
  have b8:∀(x6:AV) (mn:Int) (hq:Hp),B221_8 (S k 1 (LI .i64 (nz L))) (S 2 1 (LI .u8 (uv key))) x6 (.int .i64 mn) (.ms bb 0 0 32 1) (S 2 1 (LI .u8 (nz (L.take (i+1))))) (.int .i64 (i:Int)) hq=
   B221_7 (S k 1 (LI .i64 (nz L))) (S 2 1 (LI .u8 (uv key))) x6 (.int .i64 mn) (.ms bb 0 0 32 1) (S 2 1 (LI .u8 (nz (L.take (i+1))))) (.int .i64 ((i+1:Nat):Int)) hq:=by
   intro x6 mn hq
   rw[qrm]
   generalize((i+1:Nat):Int)=I at*
   simp[wi]
  obtain⟨t1,t2⟩:=ql3 L hL hp2 (i+1)
  have rl:=qi0 (L.take (i+1)) t1 t2
  have rr:=zdi (zj (L.take (i+1))) 256 0
  rw[<-rl]at rr
  have alen:(xL [] 300 (L.take i)).length<=600:=by
   obtain⟨t1,t2⟩:=ql3 L hL hp2 i
   rw[qi0 (L.take i) t1 t2,vE]
   have:=qki (zj (L.take i)) 256
   have e:=(qw2 (L.take i) t1 t2).2
   have:(L.take i).length<=256:=qg
   omega
  have sn:=KP x (L.take i) [] 300
  rw[<-et]at sn
  --one more run
  have no:x≠nxt 300 (L.take i)->∃hp' rb',B221_13 (S k 1 (LI .i64 (nz L))) (S 2 1 (LI .u8 (uv key))) (WT rb (xL [] 300 (L.take i))) (.int .i64 (jV:Int)) (.ms bb 0 0 32 1) (S 2 1 (LI .u8 (nz (L.take (i+1))))) (.int .i64 (i:Int)) hp1=
   B221_7 (S k 1 (LI .i64 (nz L))) (S 2 1 (LI .u8 (uv key))) (WT rb' (xL [] 300 L)) (.int .i64 (yv (zj L) 256:Nat)) (.ms bb 0 0 32 1) (S 2 1 (LI .u8 (nz L))) (.int .i64 (L.length:Int)) hp'/\CSt hp' bb rb' (zj L) (xL [] 300 L):=by
   intro hno
   rw[if_neg hno]at sn
   have wm:IntKind.i64.wrap ((jV:Int)+1)=((jV+1:Nat):Int):=qh
   obtain⟨hq,am,q1,q2,q3⟩:∃hq,zF 1 1 (WT rb (xL [] 300 (L.take i))) (S 1 1 (LI .u8 [(x:Int),0])) hp1=some (.ms hp1.next 0 0 (xL [] 300 (L.take (i+1))).length 1,hq)/\hq.next=hp1.next+1/\hq.rd hp1.next 0=some (LI .u8 (xL [] 300 (L.take (i+1))))/\hq.rd bb 0=hp1.rd bb 0:=by
    by_cases hA:xL [] 300 (L.take i)=[]
    ·have a:=zbh .u8 [(x:Int),0] 1 qf hp1 qe qe
     rw[sn,hA]
     exact⟨_,a,rfl,qF _ _,jH _ _ qc⟩
    ·obtain⟨d1,d2,d3⟩:=c3 hA
     have a:=qq2 .u8 (xL [] 300 (L.take i)) [(x:Int),0] 1 rb qf hA qe qg hp1 d3
     rw[qe6 hA,sn,zh8]
     refine⟨_,a,rfl,qF (hp1.del rb) _,?_⟩
     exact(Fm.delNew (X:=[rb]) hp1 rb _ qe).rd qc (by simp;exact fun e=>d2 e.symm)
   have hA1:xL [] 300 (L.take (i+1))≠[]:=by rw[sn];simp
   obtain⟨hp',rb',z1,z2⟩:=ih (i+1) hp1.next (jV+1) bb hq qc ⟨qc,by rw[q3];exact c2,fun _=>⟨qc,qc,q2⟩⟩ (by rw[sn,zh8,hm];simp only[zid,zi1];omega)
   refine⟨hp',rb',?_,z2⟩
   rw[<-z1,qe6 hA1,<-b8,ql9]
   have el:LI .u8 [(x:Int),0]=[.sc (.int .u8 (x:Int)),.sc (.int .u8 0)]:=rfl
   rw[el]at am
   have rro:ro (WT rb (xL [] 300 (L.take i)))=WT rb (xL [] 300 (L.take i)):=by unfold WT;split<;>rfl
   clear z1 b8 c3 sh
   generalize((jV+1:Nat):Int)=M at*
   generalize WT rb (xL [] 300 (L.take i))=V at*
   simp[hi,ai,en,qX,w0,rro,am,wm]
  --the same run
  have yes:x=nxt 300 (L.take i)->xL [] 300 (L.take i)≠[]->∃hp' rb',B221_12 (S k 1 (LI .i64 (nz L))) (S 2 1 (LI .u8 (uv key))) (WT rb (xL [] 300 (L.take i))) (.int .i64 (jV:Int)) (.ms bb 0 0 32 1) (S 2 1 (LI .u8 (nz (L.take (i+1))))) (.int .i64 (i:Int)) hp1=
   B221_7 (S k 1 (LI .i64 (nz L))) (S 2 1 (LI .u8 (uv key))) (WT rb' (xL [] 300 L)) (.int .i64 (yv (zj L) 256:Nat)) (.ms bb 0 0 32 1) (S 2 1 (LI .u8 (nz L))) (.int .i64 (L.length:Int)) hp'/\CSt hp' bb rb' (zj L) (xL [] 300 L):=by
   intro hyes hA
   rw[if_pos hyes]at sn
   obtain⟨d1,d2,d3⟩:=c3 hA
   have hpos:0<(xL [] 300 (L.take i)).length:=zjj.mpr hA
   generalize hAA:xL [] 300 (L.take i)=A at*
   have lb:(VJ A).length=A.length:=by simp[VJ]
   have hmem:A.getD (A.length-1) 0+1∈VJ A:=by
    unfold VJ
    have:A.length-1<(A.set (A.length-1) (A.getD (A.length-1) 0+1)).length:=qg
    have e:=zi6 this
    rw[List.getElem_set_self]at e
    exact e
   rw[sn]at rr
   have hv:=rr _ hmem
   have gs:=xS .u8 A (A.length-1) qc
   have pn2:=yU .u8 A (A.length-1) (A.getD (A.length-1) 0+1) qc
   have eb:A.set (A.length-1) (A.getD (A.length-1) 0+1)=VJ A:=rfl
   rw[eb]at pn2
   have wb:IntKind.u8.wrap (A.getD (A.length-1) 0+1)=A.getD (A.length-1) 0+1:=zE hv.1 hv.2
   have wl:IntKind.i64.wrap ((A.length:Int)-1)=((A.length-1:Nat):Int):=qh
   have ix2:idx A.length (.int .i64 ((A.length-1:Nat):Int))=some (A.length-1):=za .i64 qc
   have hA1:VJ A≠[]:=by intro e;rw[e]at lb;simp at lb;omega
   obtain⟨hp',rb',z1,z2⟩:=ih (i+1) rb jV bb (hp1.put rb 0 (LI .u8 (VJ A))) qc ⟨by rw[qu3];omega,by rw[yT _ _ (fun e=>d2 e.symm)];exact c2,fun _=>⟨d1,d2,by rw[sn];exact qw _ _ _⟩⟩ (by rw[sn,lb];exact hm)
   refine⟨hp',rb',?_,z2⟩
   rw[sn,qe6 hA1,lb]at z1
   rw[<-z1,qe6 hA,<-b8,qma]
   clear z1 b8 c3 sh no
   generalize A.getD (A.length-1) 0=y0 at*
   generalize hN:((A.length-1:Nat):Int)=N at*
   simp[wl,ix2,d3,gs,wb,pn2]
  --joined
  have fin:∃hp' rb',cond (decide (0<i)) (cond (decide (x=L.getD (i-1) 0+1)) (B221_12 (S k 1 (LI .i64 (nz L))) (S 2 1 (LI .u8 (uv key))) (WT rb (xL [] 300 (L.take i))) (.int .i64 (jV:Int)) (.ms bb 0 0 32 1) (S 2 1 (LI .u8 (nz (L.take (i+1))))) (.int .i64 (i:Int)) hp1)
   (B221_13 (S k 1 (LI .i64 (nz L))) (S 2 1 (LI .u8 (uv key))) (WT rb (xL [] 300 (L.take i))) (.int .i64 (jV:Int)) (.ms bb 0 0 32 1) (S 2 1 (LI .u8 (nz (L.take (i+1))))) (.int .i64 (i:Int)) hp1))
   (B221_13 (S k 1 (LI .i64 (nz L))) (S 2 1 (LI .u8 (uv key))) (WT rb (xL [] 300 (L.take i))) (.int .i64 (jV:Int)) (.ms bb 0 0 32 1) (S 2 1 (LI .u8 (nz (L.take (i+1))))) (.int .i64 (i:Int)) hp1)=
   B221_7 (S k 1 (LI .i64 (nz L))) (S 2 1 (LI .u8 (uv key))) (WT rb' (xL [] 300 L)) (.int .i64 (yv (zj L) 256:Nat)) (.ms bb 0 0 32 1) (S 2 1 (LI .u8 (nz L))) (.int .i64 (L.length:Int)) hp'/\CSt hp' bb rb' (zj L) (xL [] 300 L):=by
   have nx:nxt 300 (L.take i)=if i=0 then 300 else L.getD (i-1) 0+1:=by
    unfold nxt
    by_cases h0:i=0
    ·subst h0;simp
    ·have:L.take i≠[]:=by intro e;have:=congrArg List.length e;rw[ziy,zi1]at this;omega
     rw[if_neg this,if_neg h0,ziy,zkt qc,zia,zij,if_pos qc,zia]
   by_cases h0:0<i
   ·rw[if_neg qc]at nx
    rw[decide_eq_true h0,cond_true]
    by_cases hq:x=L.getD (i-1) 0+1
    ·rw[decide_eq_true hq,cond_true]
     refine yes (by rw[nx];exact hq) ?_
     intro e
     obtain⟨t1,t2⟩:=ql3 L hL hp2 i
     rw[qi0 (L.take i) t1 t2]at e
     have hl:=vE (zj (L.take i))
     rw[e]at hl
     have hp0:0<yv (zj (L.take i)) 256:=qmy (by rw[(qw2 (L.take i) t1 t2).2,ziy];omega)
     simp at hl;omega
    ·rw[decide_eq_false hq,cond_false]
     exact no (by rw[nx];exact hq)
   ·rw[decide_eq_false h0,cond_false]
    have hz:i=0:=qc
    rw[if_pos hz]at nx
    exact no (by rw[nx];omega)
  obtain⟨hp',rb',z1,z2⟩:=fin
  refine⟨hp',rb',?_,z2⟩
  rw[<-z1,qco]
  clear z1 b8 no yes c3 ih sn rr rl
  have e1':hp.put bb 0 (LI .u8 (xv (zj (L.take (i+1))) 32 0))=hp1:=e1.symm
  clear e1 c2 st
  generalize((zj (L.take i)/2^(8*(x/8))%256+2^(x%8):Nat):Int)=y1 at*
  generalize((zj (L.take i)/2^(8*(x/8))%256:Nat):Int)=y0 at*
  generalize((2^(x%8):Nat):Int)=y2 at*
  generalize((x%8:Nat):Int)=m8 at*
  generalize LI .u8 (xv (zj (L.take (i+1))) 32 0)=B1 at*
  generalize LI .u8 (xv (zj (L.take i)) 32 0)=B0 at*
  generalize hQ:x/8=Q at*
  generalize WT rb (xL [] 300 (L.take i))=V at*
  by_cases h0:0<i
  ·have aj:=wT .i64 L (i-1) qc
   have w9:IntKind.i64.wrap ((i:Int)-1)=((i-1:Nat):Int):=qh
   have g0:(0:Int)<=((i-1:Nat):Int):=qc
   have hy:L.getD (i-1) 0<256:=by
    rw[zia,zic qc]
    exact hL _ (zi6 _)
   have en2:(nz L)[(((i-1:Nat):Int)).toNat]?=some (L.getD (i-1) 0:Nat):=by rw[zik];simpa[LI]using aj
   generalize L.getD (i-1) 0=y at*
   have w7:IntKind.i64.wrap ((y:Int)+1)=((y+1:Nat):Int):=qh
   generalize((i-1:Nat):Int)=j at*
   have dq:(decide ((x:Int)=((y+1:Nat):Int)))=decide (x=y+1):=by apply decide_eq_decide.mpr;omega
   generalize hY:((y+1:Nat):Int)=Y at*
   simp[hi,ai,en,qX,w0,ap,q8,ix,h2,g,r8,sh,w1,pn,h0,w9,g0,en2,w7,dq,e1']
  ·simp[hi,ai,en,qX,w0,ap,q8,ix,h2,g,r8,sh,w1,pn,h0,e1']
theorem qdq(hp:Hp):∃hp',run cxX 221 [.sc (.int .u32 (key:Int)),S k 1 (LI .i64 (nz L))] hp=some (S 2 1 (LI .u8 (wZ (key,zj L))),hp'):=by
 have u:=zN key qc hp0
 have z:=Qy .u8 32
 have mk:yc 1 1 (32:Int) 32=some ():=qf
 obtain⟨hp1,rb1,a1,a2⟩:=qlm L hL hp2 k key L.length 0 0 0 hp.next (hp.new (LI .u8 (List.replicate 32 0))) qc ⟨qe,by rw[qF,<-qig 32 0];rfl,fun h=>absurd rfl h⟩ rfl
 obtain⟨hp',b1⟩:=qqu L hL hp2 hne k key hkey hp1 hp.next rb1 a2
 rw[b1]at a1
 have w1:IntKind.u64.wrap (key:Int)=(key:Int):=qx qc qc
 have e0:WT 0 (xL [] 300 (L.take 0))=S 2 1 []:=rfl
 have e1:LI .u8 (nz (L.take 0))=[]:=rfl
 rw[e0,e1]at a1
 refine⟨hp',?_⟩
 rw[E221]
 have z':yM 32 [.int .u8 0]=LI .u8 (List.replicate 32 0):=z
 generalize LI .u8 (List.replicate 32 0)=Z at*
 generalize LI .u8 (wZ (key,zj L))=R at*
 simp at a1
 simp[w1,u,mk,z',a1]
end
section
variable (l:List Nat)(h32:∀x∈l,x<4294967296)(hr:jp l)(hl:l.length<=65536)(k:Nat)
include h32 hl
theorem qyu(key:Nat)(hkey:key<16777216)(x3:AV)(v4:Value)(hp:Hp):∀(a:List Nat) (i:Nat) (b:List Nat) (acc:List Nat),l.drop i=a++b->(∀x∈a,x/256=key)->(∀x∈b.head?,x/256≠key)->acc.length+a.length<=65536->
 B174_7 (S k 1 (LI .u32 (nz l))) x3 v4 (.int .i64 (i:Int)) (.int .u32 (key:Int)) (S 2 1 (LI .i64 (nz acc))) hp=
  B174_10 (S k 1 (LI .u32 (nz l))) x3 v4 (.int .i64 ((i+a.length:Nat):Int)) (.int .u32 (key:Int)) (S 2 1 (LI .i64 (nz (acc++a.map (·%256))))) hp:=by
 have quo256:∀(x:Nat),x<4294967296->∀t o o',qs Tryz.prog .quo t o o' (.int .u32 (x:Int)) (.int .u32 256)=some (.int .u32 ((x/256:Nat):Int)):=by
  intro x hx t o o'
  rw[xx _ _ _ _ _ _ _ qc,zjr qc,qT qc qc]
  rfl
 intro a
 induction a with
 |nil=>
  intro i b acc h ha hb hacc
  rw[qcs]
  simp only[zi5,zi1,zjo,zkc,zi4]at h⊢
  cases b with
  |nil=>
   have h1:=qC h
   have hlt:¬(i<l.length):=qc
   simp[hlt]
  |cons y s=>
   obtain⟨e1,e2,hi,e3⟩:=qv h
   have hy:=hb y qe
   have hy32:y<4294967296:=by rw[<-e3];exact h32 _ (zi6 _)
   have ai:=wT .u32 l i hi
   rw[show l.getD i 0=y by rw[zia,e1];rfl]at ai
   have en:∀h,(nz l)[i]'h=(y:Int):=fun h=>by simp[nz,e3]
   have q:=quo256 y hy32
   have hne:¬(((y/256:Nat):Int)=(key:Int)):=qc
   generalize((y/256:Nat):Int)=Q at*
   simp[hi,ai,en,qX,q,hne]
 |cons x a ih=>
  intro i b acc h ha hb hacc
  simp only[zid]at hacc
  obtain⟨e1,e2,hi,e3⟩:=qv (show l.drop i=x::(a++b)from h)
  have hx:=ha x qe
  have hx32:x<4294967296:=by rw[<-e3];exact h32 _ (zi6 _)
  have ai:=wT .u32 l i hi
  rw[show l.getD i 0=x by rw[zia,e1];rfl]at ai
  have en:∀h,(nz l)[i]'h=(x:Int):=fun h=>by simp[nz,e3]
  have q:=quo256 x hx32
  rw[hx]at q
  have rm:∀t o o',qs Tryz.prog .rem t o o' (.int .u32 (x:Int)) (.int .u32 256)=some (.int .u32 ((x%256:Nat):Int)):=by
   intro t o o'
   rw[qP _ _ _ _ _ _ _ qc,qO qc]
   rfl
  have w1:IntKind.i64.wrap ((x%256:Nat):Int)=((x%256:Nat):Int):=qj qc qc
  have w2:IntKind.i64.wrap ((i:Int)+1)=((i+1:Nat):Int):=qh
  have ap:=qir .i64 (nz acc) 2 (.inr rfl) 8 qf ((x%256:Nat):Int) qg
  rw[<-qea]at ap
  have i1:=ih (i+1) b (acc++[x%256]) e2 (fun y hy=>ha y (by simp[hy])) hb qg
  have e4:i+1+a.length=i+(x::a).length:=qg
  have e5:acc++[x%256]++a.map (·%256)=acc++(x::a).map (·%256):=qe
  rw[e4,e5]at i1
  rw[qcs,<-i1]
  have b8:B174_8 (S k 1 (LI .u32 (nz l))) x3 v4 (.int .i64 (i:Int)) (.int .u32 (key:Int)) (S 2 1 (LI .i64 (nz acc))) hp=
   B174_7 (S k 1 (LI .u32 (nz l))) x3 v4 (.int .i64 ((i+1:Nat):Int)) (.int .u32 (key:Int)) (S 2 1 (LI .i64 (nz (acc++[x%256])))) hp:=by
   rw[qr4]
   clear i1 e5
   generalize((i+1:Nat):Int)=I at*
   generalize nz (acc++[x%256])=A1 at*
   generalize((x%256:Nat):Int)=m at*
   simp[hi,ai,en,qX,rm,yb,w1,ap,w2]
  simp[hi,ai,en,qX,q,b8]
theorem qtv:∀(n:Nat) (r:List Nat) (i c:Nat) (Z:List Int) (hp:Hp),r.length<=n->l.drop i=r->jp r->c+r.length<=65536->Z.length+60*r.length<=50000000->
 B174_4 (S k 1 (LI .u32 (nz l))) (S 2 1 (LI .u8 Z)) (.int .i64 (c:Int)) (.int .i64 (i:Int)) hp=some (S 2 1 (LI .u8 (uv (c+(JV r).length)++(Z++Xs (JV r)))),hp):=by
 intro n
 induction n with
 |zero=>
  intro r i c Z hp hn h hrr hc hZ
  have e:r=[]:=zi9.mp qc
  subst e
  have h1:=qC h
  have hlt:¬(i<l.length):=qc
  have u:=zN c (by simp at hc;omega) hp0
  have ul:=qu (n:=c) (by simp at hc;omega)
  have ap:=jj .u8 (uv c) 2 (.inr rfl) 1 qf 3 Z (by simp at hZ;omega)
  have w1:IntKind.u64.wrap (c:Int)=(c:Int):=qx qc (by simp at hc;omega)
  rw[qct]
  simp[hlt,w1,u,ap,JV,Xs]
 |succ n ih=>
  intro r i c Z hp hn h hrr hc hZ
  by_cases hr0:r=[]
  ·exact ih r i c Z hp (by rw[hr0];exact ziv _) h hrr hc hZ
  ·obtain⟨x,s,rfl⟩:∃x s,r=x::s:=by cases r with
    |nil=>exact absurd rfl hr0
    |cons x s=>exact⟨x,s,rfl⟩
   obtain⟨e1,e2,hi,e3⟩:=qv h
   have hx32:x<4294967296:=by rw[<-e3];exact h32 _ (zi6 _)
   obtain⟨a,b,eab,ha,hak,hbk,hch,hpw⟩:=Vz (x::s) (x/256) hrr qe hr0
   have hlen:a.length+b.length=(x::s).length:=by rw[eab];simp
   have hapos:0<a.length:=zjj.mpr ha
   have ri:=qyu l h32 hl k (x/256) qc (S 2 1 (LI .u8 Z)) (.int .i64 (c:Int)) hp a i b [] (by rw[h,eab]) hak hbk (by have:=hlen;simp only[zid,zi1]at this hc⊢;omega)
   have hm256:∀y∈a.map (·%256),y<256:=by
    intro y hy
    obtain⟨z,_,rfl⟩:=ziu.mp hy
    exact zl6 _ qf
   obtain⟨hq,rc⟩:=qdq (a.map (·%256)) hm256 hpw (by simpa using ha) 3 (x/256) qc hp0
   have hrise_b:jp b:=by
    rw[qo8]at hrr⊢
    rw[eab]at hrr
    exact(zjx.mp hrr).2.1
   have hok:okC (x/256,zj (a.map (·%256))):=by
    have:(x/256,zj (a.map (·%256)))∈JV (x::s):=by rw[hch];exact zmf ..
    exact qln (fun y hy=>by rw[<-h]at hy;exact h32 y (zkh hy)) _ this
   have cl:=VA hok
   have ap:=jj .u8 Z 2 (.inr rfl) 1 qf 2 (wZ (x/256,zj (a.map (·%256)))) qc
   have hdb:l.drop (i+a.length)=b:=by
    rw[<-List.drop_drop,h,eab,zk8]
   have i1:=ih b (i+a.length) (c+1) (Z++wZ (x/256,zj (a.map (·%256)))) hp qc hdb hrise_b qc qg
   have ai:=wT .u32 l i hi
   rw[show l.getD i 0=x by rw[zia,e1];rfl]at ai
   have en:∀h,(nz l)[i]'h=(x:Int):=fun h=>by simp[nz,e3]
   have q:∀t o o',qs Tryz.prog .quo t o o' (.int .u32 (x:Int)) (.int .u32 256)=some (.int .u32 ((x/256:Nat):Int)):=by
    intro t o o'
    rw[xx _ _ _ _ _ _ _ qc,zjr qc,qT qc qc]
    rfl
   have w1:IntKind.i64.wrap ((c:Int)+1)=((c+1:Nat):Int):=qh
   rw[hch]
   have eR:uv (c+1+(JV b).length)++(Z++wZ (x/256,zj (a.map (·%256)))++Xs (JV b))=uv (c+((x/256,zj (a.map (·%256)))::JV b).length)++(Z++Xs ((x/256,zj (a.map (·%256)))::JV b)):=by
    simp only[zid,Xs,zio]
    congr 2;omega
   rw[<-eR,<-i1,qct]
   have e0:LI .i64 (nz [])=[]:=rfl
   rw[e0]at ri
   simp only[zi5]at ri
   clear eR i1 hch ih
   generalize nz (a.map (·%256))=A1 at*
   generalize wZ (x/256,zj (a.map (·%256)))=Y at*
   generalize((i+a.length:Nat):Int)=I at*
   generalize((x/256:Nat):Int)=Q at*
   generalize((c+1:Nat):Int)=C1 at*
   have b10:B174_10 (S k 1 (LI .u32 (nz l))) (S 2 1 (LI .u8 Z)) (.int .i64 (c:Int)) (.int .i64 I) (.int .u32 Q) (S 2 1 (LI .i64 A1)) hp=B174_4 (S k 1 (LI .u32 (nz l))) (S 2 1 (LI .u8 (Z++Y))) (.int .i64 C1) (.int .i64 I) hp:=by
    rw[qmg]
    simp[rc,ap,w1]
   simp[hi,ai,en,qX,q]
   rw[ri,b10]
include hr
theorem qfs(hp:Hp):run cxX 174 [S k 1 (LI .u32 (nz l))] hp=some (S 2 1 (LI .u8 (WA (JV l))),hp):=by
 have h:=qtv l h32 hl k l.length l 0 0 [] hp (zif _) rfl hr qc qg
 rw[E174]
 simp at h
 simp[h,WA]
end
theorem Zr(w:Nat)(h:w<18446744073709551616)(hp:Hp):run cxX 180 [fl w] hp=some (.sc (.int .u64 (kw w:Int)),hp):=by
 rw[E180]
 unfold kw
 by_cases hn:yp w
 ·simp[jw,hn]
 ·by_cases hl:w<9223372036854775808
  ·have h1:¬((9223372036854775808:Int)<=(w:Int)):=qc
   have w1:IntKind.u64.wrap ((w:Int)+9223372036854775808)=((w+9223372036854775808:Nat):Int):=by rw[qx]<;>omega
   rw[if_neg hn,if_pos hl]
   generalize((w+9223372036854775808:Nat):Int)=W at*
   simp[jw,hn,JW,h1,w1]
  ·have h1:(9223372036854775808:Int)<=(w:Int):=qc
   have w1:IntKind.u64.wrap (18446744073709551615-(w:Int))=((18446744073709551615-w:Nat):Int):=by rw[qx]<;>omega
   rw[if_neg hn,if_neg hl]
   generalize((18446744073709551615-w:Nat):Int)=W at*
   simp[jw,hn,JW,h1,w1]
theorem qgp(c:Int)(hc:1<=c/\c<=256)(l:List Int)(hl:l.length<=4096)(h32:JO l)(k:Nat)(hp:Hp):∀(r:List Int) (i:Nat) (last:Int) (acc:List Int),l.drop i=r->acc.length<=10*i+20->i<=l.length->(0<=last/\last<4294967296)->(0<i->last=l.getD (i-1) 0)->
 B101_3 (.int .i64 c) (S k 1 (LI .u32 l)) (S 1 1 (LI .u8 acc)) (.int .i64 (i:Int)) hp=some (S 1 1 (LI .u8 (acc++Xt c r i last)),hp):=by
 intro r
 induction r with
 |nil=>
  intro i last acc h ha hil hla hl2
  have:=qC h
  have hlt:¬(i<l.length):=qc
  rw[qc6]
  simp[Xt,hlt]
 |cons x r ih=>
  intro i last acc h ha hil hla hl2
  obtain⟨e1,e2,hi,e3⟩:=qv h
  have hx:=h32 x (zig e1)
  have rm:∀t o o',qs Tryz.prog .rem t o o' (.int .i64 (i:Int)) (.int .i64 c)=some (.int .i64 ((i:Int)%c)):=by
   intro t o o'
   rw[qP _ _ _ _ _ _ _ qc,qO qc]
  have mc:max c 1=c:=qc
  have hm0:=Int.emod_nonneg (i:Int) (show c≠0 by omega)
  obtain⟨lst,hlst⟩:∃lst:Int,lst=if(i:Int)%max c 1=0 then 0 else last:=⟨_,rfl⟩
  have hb:0<=lst/\lst<4294967296:=by rw[hlst];split<;>omega
  have le:=qml hx hb
  have ri:=qtf (x-lst) qc hp0
  have ws:IntKind.i64.wrap x=x:=qj qc qc
  have wd:IntKind.i64.wrap (x-lst)=x-lst:=qj qc qc
  have hw:IntKind.i64.wrap ((i:Int)+1)=((i+1:Nat):Int):=qh
  have ap:=jj .u8 acc 1 (.inl rfl) 1 qf 2 (uv (zz (x-lst))) qc
  have hh:=ih (i+1) x (acc++uv (zz (x-lst))) e2 qg qc hx (fun _=>by simp[zia,e1])
  have ec:acc++Xt c (x::r) i last=acc++uv (zz (x-lst))++Xt c r (i+1) x:=by
   rw[hlst,zio];rfl
  rw[ec,<-hh]
  have b8:B101_8 (.int .i64 c) (S k 1 (LI .u32 l)) (S 1 1 (LI .u8 acc)) (.int .i64 (i:Int)) (.int .i64 lst) hp=B101_3 (.int .i64 c) (S k 1 (LI .u32 l)) (S 1 1 (LI .u8 (acc++uv (zz (x-lst))))) (.int .i64 ((i+1:Nat):Int)) hp:=by
   rw[qsh]
   clear hh ec
   generalize((i+1:Nat):Int)=I at*
   generalize uv (zz (x-lst))=u at*
   simp[hi,e3,qX,ws,wd,ri,ap,hw]
  rw[qc6,<-b8]
  by_cases h0:(i:Int)%c=0
  ·have el:lst=0:=by rw[hlst,mc,if_pos h0]
   rw[el]
   simp[hi,rm,h0]
  ·have el:lst=last:=by rw[hlst,mc,if_neg h0]
   have hpos:0<(i:Int)%c:=qc
   have hi0:0<i:=by
    rcases zkr i with e|e
    ·rw[e]at h0;simp at h0
    ·exact e
   have hl3:=hl2 hi0
   have w9:IntKind.i64.wrap ((i:Int)-1)=((i-1:Nat):Int):=qh
   have g0:(0:Int)<=((i-1:Nat):Int):=qc
   have en:l[(((i-1:Nat):Int)).toNat]?=some last:=by
    rw[zik,hl3,zia,zic qc];rfl
   have wl:IntKind.i64.wrap last=last:=qj qc qc
   rw[el]
   generalize((i-1:Nat):Int)=j at*
   simp[hi,rm,hpos,w9,g0,en,qX,wl]
theorem qj1(R c:Int)(hR:0<=R/\R<256)(hc:1<=c/\c<=256)(l:List Int)(hl:l.length<=4096)(h32:JO l)(k:Nat)(hp:Hp):
 run cxX 101 [.sc (.int .i64 R),.sc (.int .i64 c),S k 1 (LI .u32 l)] hp=some (S 1 1 (LI .u8 ([R]++uv c.toNat++Xt c l 0 0)),hp):=by
 have hu:=qu (n:=c.toNat) qc
 have u:=zN c.toNat qc hp0
 rw[zj9 qc]at u
 have h:=qgp c hc l hl h32 k hp l 0 0 ([R]++uv c.toNat) rfl qg qc qc (fun h=>qc)
 have wR:IntKind.u8.wrap R=R:=zE hR.1 hR.2
 have wc:IntKind.u64.wrap c=c:=qx qc qc
 have ap:=jj .u8 [R] 1 (.inl rfl) 1 qf 2 (uv c.toNat) qg
 have e1:LI .u8 [R]=[.sc (.int .u8 R)]:=rfl
 rw[e1]at ap
 rw[E101]
 generalize [R]++uv c.toNat=U at*
 simp at h
 simp[wR,wc,u,ap,h]
theorem qgo(L:List Nat)(hL:Ws L)(hlen:L.length<=1000)(k:Nat)(hp:Hp):∀(r:List Nat) (i p:Nat) (Z:List Int),L.drop i=r->yd (p::r.map kw)->p<18446744073709551616->Z.length<=1000+10*i->
 B102_11 (S k 1 (LF L)) (S 1 1 (LI .u8 Z)) (.int .u64 (p:Int)) (.int .i64 (i:Int)) hp=some (S 1 1 (LI .u8 (Z++Jz p (r.map kw))),hp):=by
 intro r
 induction r with
 |nil=>
  intro i p Z h hn hp' hZ
  have h1:=qC h
  have ll:(LF L).length=L.length:=by simp[LF]
  have hlt:¬(i<L.length):=qc
  rw[Wn]
  simp[hlt,Jz,ll]
 |cons x r ih=>
  intro i p Z h hn hp' hZ
  obtain⟨e1,e2,hi,e3⟩:=qv h
  have hx:x<18446744073709551616:=hL x (by rw[<-e3];exact zi6 _)
  have ky:=Zr x hx hp0
  have kl:=wU x hx
  have hpk:p<=kw x:=hn.1
  have hu:=qu (n:=kw x-p) qc
  have wu:=zN (kw x-p) qc hp0
  have ap:=jj .u8 Z 1 (.inl rfl) 1 qf 2 (uv (kw x-p)) qc
  have hi2:=ih (i+1) (kw x) (Z++uv (kw x-p)) e2 hn.2 kl qg
  have w1:IntKind.u64.wrap ((kw x:Int)-(p:Int))=((kw x-p:Nat):Int):=by rw[qx]<;>omega
  have w2:IntKind.i64.wrap ((i:Int)+1)=((i+1:Nat):Int):=qh
  have e:Z++Jz p ((x::r).map kw)=Z++uv (kw x-p)++Jz (kw x) (r.map kw):=by rw[zio];rfl
  have al:(LF L)[i]?=some (fl x):=by
   unfold LF
   rw[zir,e1];rfl
  have ll:(LF L).length=L.length:=by simp[LF]
  have hlt:(i:Int)<(L.length:Int):=qc
  rw[e,<-hi2,Wn]
  obtain⟨F,hF⟩:∃F,fl x= .sc F:=⟨_,rfl⟩
  rw[hF]at ky al
  generalize((kw x-p:Nat):Int)=D at*
  generalize((i+1:Nat):Int)=I at*
  have g1:(0:Int)<=(i:Int):=qc
  have ix:∀k,zL 1 (S k 1 (LF L)) (.int .i64 (i:Int))=some [.sc F]:=by
   intro k
   rw[Qo,if_pos g1,zik,al];rfl
  generalize LF L=LL at*
  generalize uv (kw x-p)=U at*
  simp[ll,hi,ix,qX,ky,w1,wu,ap,w2]
theorem Qg(n:Int)(hn:qW n)(Z:List Int)(hZ:Z.length<=1000):run cxX 175 [.sc (.int .u64 n)] hp0=some (S 2 1 (LI .u8 (uv n.toNat)),hp0)/\(uv n.toNat).length<=10/\zh 1 1 (S 1 1 (LI .u8 Z)) (S 2 1 (LI .u8 (uv n.toNat)))=some (S 1 1 (LI .u8 (Z++uv n.toNat)))/\IntKind.u64.wrap n=n:=by
 have h1:n.toNat<18446744073709551616:=by have:=hn.2;omega
 have hu:=qu h1
 have:=zN n.toNat h1 hp0
 rw[zj9 hn.1]at this
 exact⟨this,hu,jj .u8 Z 1 (.inl rfl) 1 qf 2 _ qc,qx hn.1 (by have:=hn.2;omega)⟩
theorem qkg(k:Nat)(L:AV)(lo hi:Value)(E:List Int)(hE:∀n∈E,qW n)(h6:E.length=6)(hp:Hp):∀(f i:Nat) (Z:List Int),i+f=6->Z.length<=100+10*i->
 B102_3 lo hi L (S 1 1 (LI .u8 Z)) (.int .i64 (i:Int)) (LI .u32 E) hp=B102_3 lo hi L (S 1 1 (LI .u8 (Z++((E.drop i).map fun n=>uv n.toNat).flatten))) (.int .i64 6) (LI .u32 E) hp:=by
 intro f
 induction f with
 |zero=>
  intro i Z h hZ
  have e:i=6:=qc
  subst e
  rw[zj8 qc]
  simp
 |succ f ih=>
  intro i Z h hZ
  have hi':i<E.length:=qc
  obtain⟨n,hn⟩:∃n,E[i]=n:=⟨_,rfl⟩
  have ed:E.drop i=n::E.drop (i+1):=by rw[zi2 hi',hn]
  obtain⟨u1,u2,u3,u4⟩:=Qg n (hE n (by rw[<-hn];exact zi6 _)) Z qc
  have ix:idx 6 (.int .i64 (i:Int))=some i:=za .i64 qc
  have g:=xS .u32 E i hi'
  rw[show E.getD i 0=n by rw[zia,zic hi',hn];rfl]at g
  have hlt:i<6:=qc
  have w2:IntKind.i64.wrap ((i:Int)+1)=((i+1:Nat):Int):=qh
  have i1:=ih (i+1) (Z++uv n.toNat) qc qg
  have e:Z++((E.drop i).map fun n=>uv n.toNat).flatten=Z++uv n.toNat++((E.drop (i+1)).map fun n=>uv n.toNat).flatten:=by rw[ed];simp
  rw[e,<-i1,qc5]
  clear i1 e
  generalize((i+1:Nat):Int)=I at*
  generalize uv n.toNat=U at*
  generalize LI .u32 E=EE at*
  have gz:∀n,Nat.add 0 n=n:=fun n=>ziw n
  have hlt2:(i:Int)<6:=qc
  simp[hlt,hlt2,ix,g,u4,u1,u3,w2]
theorem qdp(K:Int)(g:Gs)(k:Nat)(hK:0<=K/\K<256)(gw:g.W)(hn:WE g.nf.L=0)(hlen:g.L.length<=200)(hp:Hp):
 run cxX 102 [.sc (.int .i64 K),.sc (.int .u32 g.M),.agg [.sc (.int .u32 g.e0),.sc (.int .u32 g.e1),.sc (.int .u32 g.e2),.sc (.int .u32 g.e3),.sc (.int .u32 g.e4),.sc (.int .u32 g.e5)],fl g.lo,fl g.hi,S k 1 (LF g.L)] hp=
  some (S 1 1 (LI .u8 (qht K g.nf)),hp):=by
 have p:=gw.pos
 obtain⟨m1,m2,m3,m4⟩:=Qg g.M p.1 [K] qe
 have hE:∀n∈[g.e0,g.e1,g.e2,g.e3,g.e4,g.e5],qW n:=by
  intro n hn
  simp only[zie,zla,or_false]at hn
  rcases hn with e|e|e|e|e|e<;>rw[e]
  ·exact p.2.1
  ·exact p.2.2.1
  ·exact p.2.2.2.1
  ·exact p.2.2.2.2.1
  ·exact p.2.2.2.2.2.1
  ·exact p.2.2.2.2.2.2
 have u2:=(Qg g.e0 p.2.1 [] qe).2.1
 have u3:=(Qg g.e1 p.2.2.1 [] qe).2.1
 have u4:=(Qg g.e2 p.2.2.2.1 [] qe).2.1
 have u5:=(Qg g.e3 p.2.2.2.2.1 [] qe).2.1
 have u6:=(Qg g.e4 p.2.2.2.2.2.1 [] qe).2.1
 have u7:=(Qg g.e5 p.2.2.2.2.2.2 [] qe).2.1
 have ed:=qkg k (S k 1 (LF g.L)) (.float .f64 g.lo) (.float .f64 g.hi) [g.e0,g.e1,g.e2,g.e3,g.e4,g.e5] hE rfl hp 6 0 ([K]++uv g.M.toNat) rfl qg
 have klo:=Zr g.lo gw.lo hp0
 have khi:=Zr g.hi gw.hi hp0
 have llo:=wU g.lo gw.lo
 have lhi:=wU g.hi gw.hi
 have ulo:=zN (kw g.lo) llo hp0
 have uhi:=zN (kw g.hi) lhi hp0
 have nlo:=qu llo
 have nhi:=qu lhi
 have wK:IntKind.u8.wrap K=K:=zE hK.1 hK.2
 have e0:LI .u8 [K]=[.sc (.int .u8 K)]:=rfl
 have wl:IntKind.u8.wrap (g.L.length:Int)=(g.L.length:Int):=zE qc qc
 have el:[g.e0,g.e1,g.e2,g.e3,g.e4,g.e5].drop 0=[g.e0,g.e1,g.e2,g.e3,g.e4,g.e5]:=rfl
 rw[el]at ed
 simp only[zjc,zkc,zlv,List.flatten_nil,zi4]at ed
 have e1:qht K g.nf=[K]++uv g.M.toNat++(uv g.e0.toNat++(uv g.e1.toNat++(uv g.e2.toNat++(uv g.e3.toNat++(uv g.e4.toNat++uv g.e5.toNat)))))++uv (kw g.lo)++uv (kw g.hi)++[(g.L.length:Int)]++Jz 0 (g.L.map kw):=by
  unfold qht Gs.nf
  simp
 have lE:([K]++uv g.M.toNat++(uv g.e0.toNat++(uv g.e1.toNat++(uv g.e2.toNat++(uv g.e3.toNat++(uv g.e4.toNat++uv g.e5.toNat)))))).length<=71:=qg
 rw[e1]
 generalize [K]++uv g.M.toNat++(uv g.e0.toNat++(uv g.e1.toNat++(uv g.e2.toNat++(uv g.e3.toNat++(uv g.e4.toNat++uv g.e5.toNat)))))=Z at*
 have a1:=jj .u8 Z 1 (.inl rfl) 1 qf 2 (uv (kw g.lo)) qc
 have a2:=jj .u8 (Z++uv (kw g.lo)) 1 (.inl rfl) 1 qf 2 (uv (kw g.hi)) qg
 have a3:=qir .u8 (Z++uv (kw g.lo)++uv (kw g.hi)) 1 (.inl rfl) 1 qf (g.L.length:Int) qg
 have nf:yd (0::g.L.map kw):=Qj (qgv hn)
 have lp:=qgo g.L gw.L qc k hp g.L 0 0 (Z++uv (kw g.lo)++uv (kw g.hi)++[(g.L.length:Int)]) rfl nf qf qg
 have ll:(LF g.L).length=g.L.length:=by simp[LF]
 have b3:B102_3 (.float .f64 g.lo) (.float .f64 g.hi) (S k 1 (LF g.L)) (S 1 1 (LI .u8 Z)) (.int .i64 6) (LI .u32 [g.e0,g.e1,g.e2,g.e3,g.e4,g.e5]) hp=some (S 1 1 (LI .u8 (Z++uv (kw g.lo)++uv (kw g.hi)++[(g.L.length:Int)]++Jz 0 (g.L.map kw))),hp):=by
  rw[<-lp,qc5]
  clear ed lp e1
  generalize LF g.L=LL at*
  generalize uv (kw g.lo)=U1 at*
  generalize uv (kw g.hi)=U2 at*
  simp only[zio]at a1 a2 a3⊢
  simp[klo,ulo,a1,khi,uhi,a2,ll,wl,a3]
 rw[b3]at ed
 have es:LI .u32 [g.e0,g.e1,g.e2,g.e3,g.e4,g.e5]=[.sc (.int .u32 g.e0),.sc (.int .u32 g.e1),.sc (.int .u32 g.e2),.sc (.int .u32 g.e3),.sc (.int .u32 g.e4),.sc (.int .u32 g.e5)]:=rfl
 rw[es]at ed
 rw[e0]at m3
 rw[E102]
 generalize [K]++uv g.M.toNat=Z0 at*
 generalize LF g.L=LL at*
 generalize Z++uv (kw g.lo)++uv (kw g.hi)++[(g.L.length:Int)]++Jz 0 (g.L.map kw)=ZZ at*
 simp at ed
 simp[wK,m4,m1,m3,ed]
theorem qdr{x:SkN}{v:AV}(hv:ZQ x v)(f:Fine x)(h64:H64 x)(hp:Hp):∃t,run cxX 47 [v] hp=some (S t 1 (LI .u8 (ku x)),hp)/\(t=1\/t=2):=by
 obtain⟨g,a,b,c,d,e,t,gw,gn,rfl⟩:=hv
 have kd:=(qY.mp f.c).1
 have hk:=f.w.kind
 have six:x.kind=0\/x.kind=1\/x.kind=2\/x.kind=3\/x.kind=4\/x.kind=5:=qc
 unfold ku
 rw[E47]
 rcases six with k|k|k|k|k|k
 ·rw[if_pos k]
  obtain⟨s1,s2,s3,s4⟩:=Ye f k
  have r1:=fun q=>qfs (tn x.set) s3 s2 qg q hp0
  rw[s4]at r1
  have r2:∀q,run cxX 97 [S q 1 (LI .u32 x.set)] hp0=some (S 2 1 (LI .u8 (WA (JV (tn x.set)))),hp0):=by
   intro q;rw[E97];simp[r1]
  refine⟨2,?_,.inr rfl⟩
  generalize WA (JV (tn x.set))=Y at*
  simp[skA,k,qi,qt,r2]
 ·rw[if_neg qc,if_pos k]
  obtain⟨s0,s1,s2,s3,s4⟩:=QI f k h64
  have r1:=fun q=>qft (tn x.hs) q (by simp;exact s1) s3 s2 hp0
  rw[s4]at r1
  have hu:=qu (n:=x.K.toNat) qc
  have u:=zN x.K.toNat qc hp0
  rw[zj9 qc]at u
  have hl:=qgk (l:=tn x.hs) (by simp;exact s1) s3
  have ap:=jj .u8 (uv x.K.toNat) 2 (.inr rfl) 1 qf 2 (KO (tn x.hs)) qc
  have wK:IntKind.u64.wrap x.K=x.K:=qx qc qc
  have r2:∀q,run cxX 98 [.sc (.int .i64 x.K),S q 1 (LI .u64 x.hs)] hp0=some (S 2 1 (LI .u8 (uv x.K.toNat++KO (tn x.hs))),hp0):=by
   intro q
   rw[E98]
   generalize uv x.K.toNat=U at*
   generalize KO (tn x.hs)=Y at*
   simp[wK,u,r1,ap]
  refine⟨2,?_,.inr rfl⟩
  generalize uv x.K.toNat++KO (tn x.hs)=Y at*
  simp[skA,k,qi,qt,r2]
 ·rw[if_neg qc,if_neg qc,if_pos k]
  obtain⟨s0,s1,s2,s3,s4⟩:=QL f k
  have r1:=fun q=>qfw (tn x.rg) q qg s3 hp0
  rw[s4]at r1
  have hl:=qes (l:=tn x.rg) qg s3
  have ap:=jj .u8 [x.P] 1 (.inl rfl) 1 qf 0 (cod (tn x.rg)) qg
  have wK:IntKind.u8.wrap x.P=x.P:=zE qc qc
  have e1:LI .u8 [x.P]=[.sc (.int .u8 x.P)]:=rfl
  have e2:[x.P]++cod (tn x.rg)=x.P::cod (tn x.rg):=rfl
  rw[e1,e2]at ap
  have r2:∀q,run cxX 99 [.sc (.int .i64 x.P),S q 1 (LI .u8 x.rg)] hp0=some (S 1 1 (LI .u8 (x.P::cod (tn x.rg))),hp0):=by
   intro q
   obtain⟨hq,r1⟩:=r1 (rk q)
   rw[E99]
   generalize LI .u8 (x.P::cod (tn x.rg))=Y2 at*
   generalize cod (tn x.rg)=Y at*
   simp[wK,r1,ap]
  refine⟨1,?_,.inl rfl⟩
  generalize x.P::cod (tn x.rg)=Y at*
  simp[skA,k,qi,qt,r2]
 ·rw[if_neg qc,if_neg qc,if_neg qc,if_pos k]
  obtain⟨s0,s9,s1,s2,s3,s4⟩:=QV f k
  have r1:=fun q=>qfv (tn x.bs) q qg s3 s2 hp0
  rw[s4]at r1
  have hu:=qu (n:=x.B.toNat) qc
  have u:=zN x.B.toNat qc hp0
  rw[zj9 qc]at u
  have hl:=Vp (l:=tn x.bs) (by simp;exact s1) s3 s2
  have a1:=qir .u8 (uv x.B.toNat) 2 (.inr rfl) 1 qf x.H qc
  have a2:=jj .u8 (uv x.B.toNat++[x.H]) 2 (.inr rfl) 1 qf 2 (Xy (tn x.bs)) qg
  have wB:IntKind.u64.wrap x.B=x.B:=qx qc qc
  have wH:IntKind.u8.wrap x.H=x.H:=zE qc qc
  have r2:∀q,run cxX 100 [.sc (.int .i64 x.B),.sc (.int .i64 x.H),S q 1 (LI .u32 x.bs)] hp0=some (S 2 1 (LI .u8 (uv x.B.toNat++[x.H]++Xy (tn x.bs))),hp0):=by
   intro q
   rw[E100]
   generalize LI .u8 (uv x.B.toNat++[x.H]++Xy (tn x.bs))=Y3 at*
   generalize LI .u8 (uv x.B.toNat++[x.H])=Y2 at*
   generalize uv x.B.toNat=U at*
   generalize Xy (tn x.bs)=Y at*
   simp[wB,u,wH,a1,r1,a2]
  refine⟨2,?_,.inr rfl⟩
  generalize uv x.B.toNat++[x.H]++Xy (tn x.bs)=Y at*
  simp[skA,k,qi,qt,r2]
 ·rw[if_neg qc,if_neg qc,if_neg qc,if_neg qc,if_pos k]
  obtain⟨s0,s1,s2,s3⟩:=QT f k
  have r2:=fun q=>qj1 x.R x.C qc s1 x.cs qc f.w.cs q hp0
  refine⟨1,?_,.inl rfl⟩
  generalize [x.R]++uv x.C.toNat++Xt x.C x.cs 0 0=Y at*
  simp[skA,k,qi,qt,r2]
 ·rw[if_neg qc,if_neg qc,if_neg qc,if_neg qc,if_neg qc]
  obtain⟨s0,s1,s2⟩:=QM f k
  have hl:g.L.length<=16:=by rw[<-gn]at s2;simpa[Gs.nf]using s2
  have r2:=fun q=>qdp x.gK g q ⟨qc,qc⟩ gw (by rw[gn];exact s1) qc hp0
  rw[gn]at r2
  refine⟨1,?_,.inl rfl⟩
  generalize qht x.gK x.g=Y at*
  simp[skA,k,qi,qt,qo,qm,r2]
theorem qt1(n m:Nat)(hm:0<m)(t:TypeId)(x y:Operand):qs Tryz.prog .rem t x y (.int .u32 (n:Int)) (.int .u32 (m:Int))=some (.int .u32 ((n%m:Nat):Int)):=by
 rw[qP _ _ _ _ _ _ _ qc,qO qc,<-Int.natCast_emod]
theorem qt8(n m:Nat)(hm:0<m)(h:n<4294967296)(t:TypeId)(x y:Operand):qs Tryz.prog .quo t x y (.int .u32 (n:Int)) (.int .u32 (m:Int))=some (.int .u32 ((n/m:Nat):Int)):=by
 have:=zma n m
 have h2:=zjy (n/m)
 rw[xx _ _ _ _ _ _ _ qc,zjr qc,<-Int.natCast_ediv,qT qc qc]
theorem Yi(n:Nat)(hn:n<4294967296)(hp:Hp):run cxX 39 [.sc (.int .u32 (n:Int))] hp=some (S 1 1 (LI .u8 (je n)),hp):=by
 have cv:∀m:Nat,m<256->Zc Tryz.prog 40 5 (.int .u32 (m:Int))=some (.int .u8 (m:Int)):=fun m hm=>by
  rw[vo,zE qc qc]
 have q1:=qt8 n 256 qf hn
 have q2:=qt8 n 65536 qf hn
 have q3:=qt8 n 16777216 qf hn
 have r0:=qt1 n 256 qf
 have r1:=qt1 (n/256) 256 qf
 have r2:=qt1 (n/65536) 256 qf
 have c0:=cv (n%256) qc
 have c1:=cv (n/256%256) qc
 have c2:=cv (n/65536%256) qc
 have c3:=cv (n/16777216) qc
 have e3:n/16777216%256=n/16777216:=zju qc
 unfold je
 rw[E39,e3]
 generalize n%256=d0 at*
 generalize n/256%256=d1 at*
 generalize n/65536%256=d2 at*
 generalize n/16777216=d3 at*
 generalize n/256=m1 at*
 generalize n/65536=m2 at*
 simp only[zkf]at q1 q2 q3 r0 r1 r2
 simp[q1,q2,q3,r0,r1,r2,c0,c1,c2,c3]
 rfl
theorem qjx(k:Nat)(m:List Int)(hm:∀c∈m,0<=c/\c<256)(hne:m≠[])(hl:m.length<=100000)(hp:Hp):run cxX 40 [S k 1 (LI .u8 m)] hp=some (.sc (st (qV m)),hp):=by
 obtain⟨g,sm⟩:=qtc (rk k) m hm hne hl hp0
 have lt:=Ke m
 have wd:=Yi (qQ m) lt hp0
 have b1:=xW m
 have b2:=xW (je (qQ m))
 have ad:=fun t x y=>zc2 Tryz.prog t x y m (je (qQ m)) (by rw[zx];omega)
 unfold qV
 unfold st at ad⊢
 rw[E40]
 generalize LI .u8 m=M at*
 generalize LI .u8 (je (qQ m))=W at*
 generalize((qQ m:Nat):Int)=C at*
 simp[sm,wd,b1,b2,ad]
theorem XZ:∀{l m:List (Frm×Nat)},l.map Prod.fst=m.map Prod.fst->jX l=jX m
 |[],[],_=>rfl
 |f::l,g::m,h=>by
  injection h with h1 h2
  show jb f.1++jX l=jb g.1++jX m
  rw[h1,XZ h2]
theorem vJ:∀{l m:List (Frm×Nat)} (a:Nat),l.map Prod.fst=m.map Prod.fst->qJ l a=qJ m a
 |[],[],_,_=>rfl
 |f::l,g::m,a,h=>by
  injection h with h1 h2
  show _::qJ l _=_::qJ m _
  rw[h1,vJ _ h2]
theorem qn8{l m:List (Frm×Nat)}(h:l.map Prod.fst=m.map Prod.fst):Kg l=Kg m:=by
 unfold Kg
 rw[XZ h,vJ 6 h]
theorem qvd(L:List Be)(hL:∀e∈L,e.Fin)(hn:L.length<=1000)(hp:Hp):∀(r:List Be) (i:Nat) (fs:List (Frm×Nat)),L.drop i=r->i<=L.length->fs.map Prod.fst=(JI (L.take i)).map Prod.fst->
 ∃fs',B18_3 (S 2 3 (ql va fs)) (S 0 24 (ql zC L)) (.int .i64 (L.length:Int)) (.int .i64 (i:Int)) hp=some (S 2 3 (ql va fs'),hp)/\fs'.map Prod.fst=(JI L).map Prod.fst:=by
 intro r
 induction r with
 |nil=>
  intro i fs hr hi hf
  have h1:=qC hr
  have hlt:¬((i:Int)<(L.length:Int)):=qc
  rw[zix qc]at hf
  refine⟨fs,?_,hf⟩
  rw[qjf]
  simp[hlt]
 |cons e r ih=>
  intro i fs hr hi hf
  obtain⟨e1,e2,hi',e3⟩:=qv hr
  have hLo:∀e∈L,El zC 24 e:=fun e he=>ym (hL e he).ok
  have he:=hL e (zig e1)
  have hlt:(i:Int)<(L.length:Int):=qc
  have ix:=xI zC 24 qf 0 hLo e1
  have l1:(zC e).length=24:=(ym he.ok).len
  have r1:=(ym he.ok).ro
  have k0:qi (zC e) 0=some (st e.nm):=rfl
  have k1:qi (zC e) 1=some (.int .u8 e.x.kind):=he.ok.cl.k0
  have g0:qo (zC e) 0 24=some (zC e):=by
   unfold qo
   rw[if_pos qc]
   show some ((zC e).take 24)=_
   rw[zix qc]
  have gc:qo (zC e) 1 23=some e.cs:=by
   unfold qo
   rw[if_pos qc]
   show some (e.cs.take 23)=_
   rw[zix (by rw[he.ok.cl.len];omega)]
  have pn:∀Z:List AV,Z.length=24->qm Z 0 (zC e)=some (zC e):=fun Z hZ=>Yr Z _ (by rw[hZ,l1])
  obtain⟨t,lb,ht⟩:=qdr he.ok.cl.sk he.fine he.h64 hp0
  have cv:=he.ok.cl.vl
  have cr:=he.ok.cl.ro
  have cln:=he.ok.cl.len
  have lf:fs.length=i:=by
   have:=congrArg List.length hf
   simp[JI]at this
   omega
  have ap:=qe2 va 3 48 2 qf (.inr rfl) (l:=fs) (x:=((beF e).1,t)) (fun x _=>Qr x) (Qr _) qc
  have w1:IntKind.i64.wrap ((i:Int)+1)=((i+1:Nat):Int):=qh
  obtain⟨fs',z,q⟩:=ih (i+1) (fs++[((beF e).1,t)]) e2 qc (by
   have:L.take (i+1)=L.take i++[e]:=by rw[zk4,e1];rfl
   rw[this,zjp,hf]
   simp[JI])
  refine⟨fs',?_,q⟩
  rw[<-z,qjf]
  clear z ih q hf
  generalize ql va (fs++[((beF e).1,t)])=R2 at*
  generalize ql va fs=R at*
  generalize ql zC L=RL at*
  have ap:zh 48 3 (S 2 3 R) (S 1 3 [.sc (st e.nm),.sc (.int .u8 e.x.kind),S (rk t) 1 (LI .u8 (ku e.x))])=some (S 2 3 R2):=ap
  generalize zC e=X at*
  generalize LI .u8 (ku e.x)=Y at*
  generalize st e.nm=N at*
  generalize((i+1:Nat):Int)=J at*
  have c24:qk 24 (.agg X)=some X:=by simp[qk,l1]
  have c1:qk 1 (S t 1 Y)=some [S t 1 Y]:=by rcases zg t 1 Y with e|e|⟨e,_⟩<;>rw[e]<;>rfl
  have p1:∀x y z w:AV,qm [x,y,z] 2 [w]=some [x,y,w]:=fun _ _ _ _=>rfl
  have c3:∀x y z:AV,qk 3 (.agg [x,y,z])=some [x,y,z]:=fun _ _ _=>rfl
  have p3:∀x y z a b c:AV,qm [x,y,z] 0 [a,b,c]=some [a,b,c]:=fun _ _ _ _ _ _=>rfl
  have rr:rk (rk t)=rk t:=by rcases ht with rfl|rfl<;>rfl
  have o1:xk (S t 1 Y)=some ():=by rcases ht with rfl|rfl<;>simp
  have t1:yn (S t 1 Y)=some ():=by rcases ht with rfl|rfl<;>simp
  simp[-List.map_map,-List.all_map,-List.all_eq_true,hlt,ix,g0,gc,r1,c24,l1,pn,cv,cr,cln,lb,k0,k1,c1,p1,c3,p3,rr,ap,w1]
  done
theorem KD(L:List Be)(hL:∀e∈L,e.Fin)(h8:L.length<=12)(s:AV)(hro:ro s=s)(hp:Hp)(hs:xg hp 24 s=some (ql zC L)):
 ∃fs hp',run cxX 18 [s] hp=some (S 2 3 (ql va fs),hp')/\fs.map Prod.fst=(JI (jh [] L)).map Prod.fst/\(∀b<hp.next,hp'.get b=hp.get b)/\hp.next<=hp'.next:=by
 have pm:=yN L []
 obtain⟨h1,so,f1,f2⟩:=qjy L (fun e he=>(hL e he).ok) h8 s hp (by rw[hro];exact hs)
 have hT:∀e∈jh [] L,e.Fin:=fun e he=>hL e (pm.mem_iff.mp he)
 have lT:(jh [] L).length=L.length:=pm.length_eq
 obtain⟨fs,z,q⟩:=qvd (jh [] L) hT qc h1 _ 0 [] rfl (ziv _) rfl
 refine⟨fs,h1,?_,q,f1,f2⟩
 have ln:zd (S 0 24 (ql zC (jh [] L)))=some (jh [] L).length:=kD zC 24 qf 0 (fun e he=>ym (hT e he).ok)
 have z:B18_3 (S 2 1 []) (S 0 24 (ql zC (jh [] L))) (.int .i64 ((jh [] L).length:Int)) (.int .i64 0) h1=some (S 2 3 (ql va fs),h1):=z
 rw[E18]
 generalize ql zC (jh [] L)=R at*
 generalize ql va fs=F at*
 simp[-qI,hro,so,ln,z]
theorem qx8{l:List Int}(h:Bt l):Kp ⟨(jg l).toArray⟩=LI .u8 l:=by
 rw[<-ZU h]
 unfold Kp Lib.strCells
 simp[jg]
theorem qwy(Z l:List Int)(h:Bt l)(hl:Z.length+l.length<=100000000):VU 1 1 (S 1 1 (LI .u8 Z)) ⟨(jg l).toArray⟩=some (S 1 1 (LI .u8 (Z++l))):=by
 have hs:(⟨(jg l).toArray⟩:ByteArray).size=l.length:=by show(jg l).toArray.size=_;simp
 show(yk (1=1/\1=1/\js 1 1 ((LI .u8 Z).length+(⟨(jg l).toArray⟩:ByteArray).size)=true)).bind _=_
 rw[hs,zT ⟨rfl,rfl,jr qf qg⟩,zib,qx8 h]
 show some (AV.us 1 (LI .u8 Z++LI .u8 l))=some (AV.us 1 (LI .u8 (Z++l)))
 unfold LI
 rw[zjp]
theorem zcx:qx7 Tryz.prog 9=some ():=qd
theorem qvg(l:List (Frm×Nat))(k:Nat)(hl:∀p∈l,p.1.Ok)(hn:l.length<=1000)(hp:Hp):∀(r:List (Frm×Nat)) (i:Nat) (es:List Ie) (Z:List Int),l.drop i=r->i<=l.length->Xok (es++qJ r Z.length)->es.length<=1000->
 wj ((es++qJ r Z.length).map Ie.nm)=true->(Z++jX r).length+(xY (es++qJ r Z.length)).length+12<=900000->
 B15_4 (S 1 1 (LI .u8 Z)) (S 2 3 (ql zm es)) (S k 3 (ql va l)) (.int .i64 (l.length:Int)) (.int .i64 (i:Int)) hp=
  some (S 1 1 (LI .u8 (Z++jX r++xY (es++qJ r Z.length)++jQ (Z++jX r).length (xY (es++qJ r Z.length)).length)),hp):=by
 intro r
 induction r with
 |nil=>
  intro i es Z hr hi hx he hrs hs
  have h1:=qC hr
  have e1:qJ [] Z.length=[]:=rfl
  have e2:Z++jX []=Z:=zi4 Z
  rw[e1,zi4]at hx hrs
  rw[e1,e2,zi4]at hs⊢
  have hlt:¬((i:Int)<(l.length:Int)):=qc
  obtain⟨g,xp⟩:=qfo es hx 3 hp0
  rw[if_pos hrs]at xp
  have w1:IntKind.u32.wrap (Z.length:Int)=(Z.length:Int):=qT qc qc
  have w2:IntKind.u32.wrap ((xY es).length:Int)=((xY es).length:Int):=qT qc qc
  have d1:=Yi Z.length qc hp0
  have d2:=Yi (xY es).length qc hp0
  have a1:=fun k'=>jj .u8 Z 1 (.inl rfl) 1 qf k' (xY es) qc
  have a2:=fun k'=>jj .u8 (je Z.length) 1 (.inl rfl) 1 qf k' (je (xY es).length) (by rw[zx,zx];decide)
  have hW:Bt (je Z.length++je (xY es).length):=fun x hx=>(zip.mp hx).elim (yw x) (yw x)
  have sm:=fun k=>qjx k (je Z.length++je (xY es).length) hW (fun e=>by have:=congrArg List.length e;rw[zh8,zx]at this;simp at this) (by rw[zh8,zx,zx];decide) hp0
  have eF:qV (je Z.length++je (xY es).length)=jQ Z.length (xY es).length:=rfl
  rw[eF]at sm
  have fl:=vk Z.length (xY es).length
  have a3:=qwy (Z++xY es) (jQ Z.length (xY es).length) (Ko hW) (by rw[zh8,fl];omega)
  have ast:Qw (st (jQ Z.length (xY es).length))=some ⟨(jg (jQ Z.length (xY es).length)).toArray⟩:=rfl
  have lz:∀k,zd (S k 1 (LI .u8 Z))=some Z.length:=fun k=>by rw[qI];simp
  have lx:∀k,zd (S k 1 (LI .u8 (xY es)))=some (xY es).length:=fun k=>by rw[qI];simp
  have c1:=QR (Z.length:Int)
  have c2:=QR ((xY es).length:Int)
  rw[w1]at c1
  rw[w2]at c2
  rw[qjg]
  generalize LI .u8 (Z++xY es++jQ Z.length (xY es).length)=Y at*
  generalize LI .u8 (Z++xY es)=ZX at*
  generalize LI .u8 (je Z.length++je (xY es).length)=W at*
  generalize LI .u8 (je Z.length)=W1 at*
  generalize LI .u8 (je (xY es).length)=W2 at*
  generalize st (jQ Z.length (xY es).length)=F at*
  generalize(⟨(jg (jQ Z.length (xY es).length)).toArray⟩:ByteArray)=FB at*
  generalize ql zm es=R at*
  generalize ql va l=RF at*
  generalize LI .u8 Z=ZZ at*
  generalize LI .u8 (xY es)=X at*
  simp[-qI,hlt,lz,xp,a1,w1,d1,lx,w2,d2,a2,sm,zcx,ast,a3]
  done
 |cons f r ih=>
  intro i es Z hr hi hx he hrs hs
  obtain⟨e1,e2,hi',e3⟩:=qv hr
  have hf:=hl f (zig e1)
  have hlt:(i:Int)<(l.length:Int):=qc
  have ix:=xI va 3 qf k (fun x _=>Qr x) e1
  obtain⟨g,fp⟩:=qam f.1 (rk f.2) hf hp0
  have yl:=Ka f.1
  have el:(Z++jX (f::r)).length=Z.length+(jb f.1).length+(jX r).length:=by
   show(Z++(jb f.1++jX r)).length=_
   simp only[zh8];omega
  rw[el]at hs
  have a1:=fun k'=>jj .u8 Z 1 (.inl rfl) 1 qf k' (jb f.1) qc
  have ap:=qe2 zm 3 32 2 qf (.inr rfl) (l:=es) (x:=⟨f.1.nm,Z.length,(jb f.1).length⟩) (fun x _=>jP x) (jP _) qc
  have ee:es++qJ (f::r) Z.length=(es++[⟨f.1.nm,Z.length,(jb f.1).length⟩])++qJ r (Z++jb f.1).length:=by
   show es++(_::qJ r (Z.length+(jb f.1).length))=_
   rw[zh8,zio]
   rfl
  have ez:Z++jX (f::r)=Z++jb f.1++jX r:=by rw[zio];rfl
  have h32:es.length+1<=1000:=by
   have:=hx.len
   rw[ee]at this
   simp only[zh8,ziz]at this
   omega
  rw[ee]at hx hs hrs⊢
  rw[ez]
  have ez2:(Z++jb f.1++jX r).length=Z.length+(jb f.1).length+(jX r).length:=by simp only[zh8]
  have z:=ih (i+1) (es++[⟨f.1.nm,Z.length,(jb f.1).length⟩]) (Z++jb f.1) e2 qc hx qg hrs (by rw[ez2];exact hs)
  rw[<-z]
  have w2:IntKind.i64.wrap ((i:Int)+1)=((i+1:Nat):Int):=qh
  have lx:∀k,zd (S k 1 (LI .u8 (jb f.1)))=some (jb f.1).length:=fun k=>by rw[qI];simp
  have lz:∀k,zd (S k 1 (LI .u8 Z))=some Z.length:=fun k=>by rw[qI];simp
  clear z ih hx hs hrs ee ez ez2 el yl
  conv=>lhs;rw[qjg]
  generalize((i+1:Nat):Int)=J at*
  generalize ql zm (es++[⟨f.1.nm,Z.length,(jb f.1).length⟩])=R2 at*
  generalize ql zm es=R at*
  generalize ql va l=RF at*
  generalize LI .u8 (Z++jb f.1)=ZY at*
  generalize(jb f.1).length=M at*
  generalize LI .u8 (jb f.1)=Y at*
  generalize LI .u8 Z=ZZ at*
  unfold va WK at ix
  unfold WK at fp
  unfold zm at ap
  generalize st f.1.nm=N at*
  generalize LI .u8 f.1.pl=PL at*
  generalize Z.length=ZL at*
  simp[-qI,hi',hlt,ix,qo,qi,qm,qk,fp,lz,lx,ap,a1,w2]
  done
theorem qj6(L:List Be)(hL:∀e∈L,e.Fin)(hd:(L.map Be.nm).Nodup)(h8:L.length<=8)(s:AV)(hro:ro s=s)(hp:Hp)(hs:xg hp 24 s=some (ql zC L)):
 ∃hp',run cxX 15 [s] hp=some (S 1 1 (LI .u8 (Kg (JI (jh [] L)))),hp')/\(∀b<hp.next,hp'.get b=hp.get b)/\hp.next<=hp'.next:=by
 have pm:=yN L []
 obtain⟨fs,h1,fr,q,f1,f2⟩:=KD L hL qc s hro hp hs
 have hT:∀e∈jh [] L,e.Fin:=fun e he=>hL e (pm.mem_iff.mp he)
 have lT:(jh [] L).length=L.length:=pm.length_eq
 have hS:Srt (jh [] L):=Ks L [] List.Pairwise.nil (by simpa using hd)
 have lf:fs.length=L.length:=by
  have:=congrArg List.length q
  simp[JI]at this
  omega
 have hfs:∀p∈fs,p.1.Ok:=by
  intro p hp
  have:p.1∈(JI (jh [] L)).map Prod.fst:=by rw[<-q];exact List.mem_map_of_mem hp
  obtain⟨p',hp',e⟩:=ziu.mp this
  rw[<-e]
  exact qlv hT p' hp'
 have sz:=qim qc hT
 rw[<-XZ q,<-vJ 6 q]at sz
 have h6:hdB.length=6:=rfl
 have eo:=QN fs 6 hfs (by rw[zh8,h6]at sz;omega) qc
 have rs:wj ((qJ fs 6).map Ie.nm)=true:=by
  rw[vJ 6 q,QO]
  have e:(JI (jh [] L)).map (fun p=>p.1.nm)=(jh [] L).map Be.nm:=by simp[JI,beF,zlu]
  rw[e]
  exact qtz _ (fun e he=>(hT e he).ok) hS
 have z:=qvg fs 2 hfs qc h1 fs 0 [] hdB rfl (ziv _) eo qe rs (by simpa[h6]using sz)
 have z:B15_4 (S 1 1 [.sc (.int .u8 72),.sc (.int .u8 69),.sc (.int .u8 82),.sc (.int .u8 66),.sc (.int .u8 49),.sc (.int .u8 10)]) (S 2 1 []) (S 2 3 (ql va fs)) (.int .i64 (fs.length:Int)) (.int .i64 0) h1=some (S 1 1 (LI .u8 (Kg fs)),h1):=z
 rw[qn8 q]at z
 refine⟨h1,?_,f1,f2⟩
 have ln:zd (S 2 3 (ql va fs))=some fs.length:=kD va 3 qf 2 (fun e _=>Qr e)
 rw[E15]
 generalize ql va fs=F at*
 generalize LI .u8 (Kg (JI (jh [] L)))=Y at*
 simp[-qI,hro,fr,ln,z]
theorem qtd(n:Nat)(h:n<=1048576)(hp:Hp):run cxX 104 [.sc (.int .i64 (n:Int))] hp=some (.sc (.int .i64 (64*(n:Int)+16384)),hp):=by
 have m1:max (n:Int) 0=n:=qc
 have m2:min (n:Int) 1048576=n:=qc
 have w1:IntKind.i64.wrap (64*(n:Int))=64*(n:Int):=qj qc qc
 have w2:IntKind.i64.wrap (64*(n:Int)+16384)=64*(n:Int)+16384:=qj qc qc
 rw[E104]
 simp[m1,m2,w1,w2]
theorem qj5(n:Int)(h:0<=n)(hp:Hp):run cxX 23 [.sc (.int .i64 n)] hp=some (.ptr hp.next 0 0,hp.new [.sc (.int .i64 0),.sc (.int .i64 n)]):=by
 have m1:max n 0=n:=qc
 rw[E23]
 simp[m1]
theorem qf2(c:Nat)(u n:Int)(hp:Hp)(h:hp.rd c 0=some [.sc (.int .i64 u),.sc (.int .i64 n)]):run cxX 24 [.ptr c 0 0] hp=some (.sc (.int .i64 u),hp):=by
 rw[E24]
 simp[h,qi]
theorem qf3(c:Nat)(n m:Int)(hn:0<=n/\n<4611686018427387904)(hm:0<=m/\m<4611686018427387904)(hp:Hp)(h:hp.rd c 0=some [.sc (.int .i64 0),.sc (.int .i64 n)]):
 run cxX 103 [.ptr c 0 0,.sc (.int .i64 m)] hp=if n<m then some (.sc (.int .i64 14),hp)else some (.sc (.int .i64 0),hp.put c 0 [.sc (.int .i64 m),.sc (.int .i64 n)]):=by
 have m1:max m 0=m:=qc
 have w1:IntKind.i64.wrap n=n:=qj qc qc
 have w2:IntKind.i64.wrap m=m:=qj qc qc
 rw[E103]
 by_cases hlt:n<m
 ·rw[if_pos hlt]
  simp[h,qi,m1,w1,hlt]
 ·rw[if_neg hlt]
  simp[h,qi,m1,w1,hlt,w2,qm]
theorem Xr{x:SkN}{v:AV}(hv:ZQ x v)(f:Fine x)(h64:H64 x)(k:Nat)(M:AV)(hro:AI.ro M=M)(hp hp1:Hp)(mt:run cxX 103 [M,.sc (.int .i64 (64*((ku x).length:Int)+16384))] hp=some (.sc (.int .i64 14),hp1)):
 run cxX 48 [.sc (.int .u8 x.kind),S k 1 (LI .u8 (ku x)),M] hp=some (.tup [.agg skZL,.sc (.int .i64 14)],hp1):=by
 have nn:=qt9 hv f h64
 have hk:=f.w.kind
 have kd:=(qY.mp f.c).1
 have rm:=qtd (ku x).length qc hp0
 have dlen:decide ((1048576:Int)<((ku x).length:Int))=false:=decide_eq_false qc
 have dk:decide ((6:Int)<=x.kind)=false:=decide_eq_false qc
 rw[E48]
 generalize ku x=Y at*
 simp[dk,dlen,rm,hro,mt]
 rfl
theorem zcw(b:ByteArray):∃nm,Bt nm/\Value.string b=st nm:=by
 refine⟨b.data.toList.map fun x=>(x.toNat:Int),fun x hx=>?_,?_⟩
 ·obtain⟨y,_,rfl⟩:=ziu.mp hx
  have:=y.toNat_lt
  omega
 ·have e:jg (b.data.toList.map fun x=>(x.toNat:Int))=b.data.toList:=by
   unfold jg
   rw[zli]
   conv=>rhs;rw[<-List.map_id b.data.toList]
   refine List.map_congr_left fun x _=>?_
   show UInt8.ofNat ((x.toNat:Int)).toNat=x
   rw[zik,UInt8.ofNat_toNat]
  unfold st
  rw[e]
theorem qfg(t b:Nat)(L:List Be)(hL:∀e∈L,e.Ok)(hp:Hp)(h:L≠[]->hp.rd b 0=some (ql zC L)):xg hp 24 (xK t 24 b L)=some (ql zC L):=by
 by_cases hne:L=[]
 ·subst hne
  exact vW hp t 24 []
 ·rw[Zp _ _ _ hne]
  exact qx9 zC 24 qf (fun e he=>ym (hL e he)) (h hne)
theorem qyw(b:Nat)(L:List Be):ro (xK 2 24 b L)=xK 2 24 b L:=by
 unfold xK
 split<;>rfl
theorem ze7(L:List Be):(JI L).map (fun p=>p.1.nm)=L.map Be.nm:=by simp[JI,beF,zlu]
theorem qwx{L:List Be}(hL:∀e∈L,e.Fin)(hd:(L.map Be.nm).Nodup)(h8:L.length<=8){fs:List (Frm×Nat)}(q:fs.map Prod.fst=(JI (jh [] L)).map Prod.fst):Arc fs (jX fs):=by
 have pm:=yN L []
 have hT:∀e∈jh [] L,e.Fin:=fun e he=>hL e (pm.mem_iff.mp he)
 have lT:(jh [] L).length=L.length:=pm.length_eq
 have lf:fs.length=L.length:=by
  have:=congrArg List.length q
  simp[JI]at this
  omega
 have ok:∀p∈fs,p.1.Ok:=by
  intro p hp
  have:p.1∈(JI (jh [] L)).map Prod.fst:=by rw[<-q];exact List.mem_map_of_mem hp
  obtain⟨p',hp',e⟩:=ziu.mp this
  rw[<-e]
  exact qlv hT p' hp'
 have sz:=qim qc hT
 rw[<-XZ q,<-vJ 6 q]at sz
 refine⟨ok,qc,sz,?_,?_,rfl⟩
 ·have e:fs.map (fun p=>p.1.nm)=(jh [] L).map Be.nm:=by
   have:=congrArg (List.map Frm.nm) q
   rw[zli,zli]at this
   exact this.trans (ze7 _)
  rw[e]
  exact List.Pairwise.map _ (fun a b h=>h) (Ks L [] List.Pairwise.nil (by simpa using hd))
 ·clear q sz lf
  induction fs with
  |nil=>exact By.nil
  |cons f r ih=>exact By.app (zaq (ok f qe)) (ih fun p hp=>ok p (by simp[hp]))
theorem qyh{l:List (Frm×Nat)}{i:Nat}{p:Frm×Nat}(hi:l[i]?=some p):((jX l).drop (jX (l.take i)).length).take (jb p.1).length=frX p.1 (p.1.pl++je (qQ p.1.pl)):=by
 rw[Yy hi,zk8,zk2]
 rfl
theorem vt{l:List (Frm×Nat)}(h:Arc l (jX l)){p:Frm×Nat}(hp':p∈l)(a:Nat)(hp:Hp)(hr:hp.rd a 0=some (opB (S 0 1 (LI .u8 (Kg l))) (qJ l 6))):
 run cxX 22 [.ptr a 0 0,.sc (st p.1.nm)] hp=some (.tup [.agg (WK p.1 0),.sc (.int .i64 0)],hp):=by
 obtain⟨i,hi⟩:=List.getElem?_of_mem hp'
 have po:=h.ok p hp'
 have:=Wz h hi p.1.pl (je (qQ p.1.pl)) rfl po.pb (zx _) yw (qyh hi) a hp hr
 rwa [if_pos rfl]at this
theorem qfy{l:List (Frm×Nat)}(h:Arc l (jX l))(k:Nat)(hp:Hp):∃a hp',run cxX 16 [S k 1 (LI .u8 (Kg l)),.agg [.sc (.int .i64 1000),.sc (.int .i64 1048576)]] hp=some (.tup [.ptr a 0 0,.sc (.int .i64 0)],hp')/\
 hp'.rd a 0=some (opB (S 0 1 (LI .u8 (Kg l))) (qJ l 6))/\hp.next<=a/\a<hp'.next/\(∀b<hp.next,hp'.get b=hp.get b):=by
 have rs:wj (l.map fun p=>p.1.nm)=true:=by
  have:=h.xok
  have s:=h.srt
  clear this h
  cases l with
  |nil=>rfl
  |cons f r=>
   show Yn f.1.nm (r.map fun p=>p.1.nm)=true
   induction r generalizing f with
   |nil=>rfl
   |cons g r ih=>
    have s1:vT f.1.nm g.1.nm=true:=List.rel_of_pairwise_cons s (zmf ..)
    have:=ih g (List.Pairwise.of_cons s)
    show(gtN g.1.nm f.1.nm&&Yn g.1.nm (r.map fun p=>p.1.nm))=true
    rw[this,zmi]
    unfold gtN
    have a1:=qfh s1
    have a2:¬(g.1.nm=f.1.nm):=fun e=>by rw[e,ZW]at s1;cases s1
    simp[a1,a2]
 obtain⟨a,hp',z,r,f1,f2⟩:=qor 1000 1048576 l k h.ok h.len (jX l) h.by_ rfl rs h.sz hp
 have lM:(WR l (jX l)).length=6+(jX l).length+(xY (qJ l 6)).length+12:=by
  unfold WR
  rw[zh8,zh8,zh8,vk]
  rfl
 have sz:=h.sz
 rw[zh8,show hdB.length=6 from rfl]at sz
 have c1:¬(min (max (1048576:Int) 0) 1048576<((WR l (jX l)).length:Int)):=qc
 have c2:¬(min (max (1000:Int) 0) 1000<(l.length:Int)):=by have:=h.len;omega
 rw[if_neg c1,if_neg c2]at z
 obtain⟨r1,r2,r3⟩:=r c1 c2
 exact⟨a,hp',z,r1,r2,r3,f1⟩
theorem qj4(a:Nat)(t:AV)(hp:Hp)(h:hp.rd a 0=some [t,S 2 1 []]):run cxX 25 [.ptr a 0 0] hp=some (S 2 1 [],hp):=by
 have b4:B25_4 (S 2 1 []) (S 2 1 []) (.int .i64 0) (.int .i64 0) hp=some (S 2 1 [],hp):=by
  rw[qxm]
  simp[qxl]
 rw[E25]
 simp[h,qt,b4]
theorem qge(hp:Hp):∃hp',run cxX 10 [] hp=some (.sc (.bool true),hp'):=by
 have mo:=qf1 hp0
 have bu:=qkc hp
 obtain⟨a,t,h2,op,rd⟩:=qos 0 hp
 have na:=qj4 a t h2 rd
 have ln:(LI .u8 (Kg [])).length=23:=by rw[arY0];rfl
 have lk:∀k,zd (S k 1 (LI .u8 (Kg [])))=some 23:=fun k=>by rw[qI,ln]
 refine⟨h2,?_⟩
 rw[E10]
 generalize LI .u8 (Kg [])=Y at*
 simp[-qI,mo,bu,op,lk,na]
 simp[na]
theorem qww{l:List (Frm×Nat)}(h:Arc l (jX l))(nm:List Int)(hnm:Bt nm)(V:AV)(a:Nat)(hp:Hp)(hr:hp.rd a 0=some (opB (S 0 1 (LI .u8 (Kg l))) (qJ l 6))):∀(r:List (Frm×Nat)) (i:Nat) (t:Bool),l.drop i=r->i<=l.length->
 ∃t',B6_11 (st nm) V (.ptr a 0 0) (.bool t) (S 2 3 (ql va l)) (.int .i64 (l.length:Int)) (.int .i64 (i:Int)) hp=B6_11 (st nm) V (.ptr a 0 0) (.bool t') (S 2 3 (ql va l)) (.int .i64 (l.length:Int)) (.int .i64 (l.length:Int)) hp/\(t'=true↔t=true\/∃p∈r,p.1.nm=nm):=by
 intro r
 induction r with
 |nil=>
  intro i t hr' hi
  have h1:=qC hr'
  have e:i=l.length:=qc
  subst e
  exact⟨t,rfl,qe⟩
 |cons p r ih=>
  intro i t hr' hi
  obtain⟨e1,e2,hi',e3⟩:=qv hr'
  have hm:=zig e1
  have po:=h.ok p hm
  have hlt:(i:Int)<(l.length:Int):=qc
  have hlen:=h.len
  have ix:=xI va 3 qf 2 (fun x _=>Qr x) e1
  have bf:=vt h hm a hp hr
  have w1:IntKind.i64.wrap ((i:Int)+1)=((i+1:Nat):Int):=qh
  have b1:=xW p.1.pl
  have sm:Value.string (ByteArray.mk (Array.mk (jg p.1.pl)))=st p.1.pl:=rfl
  have sn:=fun t x y=>qmo Tryz.prog t x y p.1.pl p.1.pl po.pb po.pb
  have sn2:=fun t x y=>qmo Tryz.prog t x y p.1.nm p.1.nm po.nb po.nb
  have se:=fun t x y=>zgi Tryz.prog t x y p.1.nm nm po.nb hnm
  rw[decide_eq_true rfl]at sn sn2
  have g3:∀x y z:AV,qo [x,y,z] 0 3=some [x,y,z]:=fun _ _ _=>rfl
  have q3':∀x y z:AV,qk 3 (.agg [x,y,z])=some [x,y,z]:=fun _ _ _=>rfl
  have p3:∀x y z a b c:AV,qm [x,y,z] 0 [a,b,c]=some [a,b,c]:=fun _ _ _ _ _ _=>rfl
  have gs0:∀(x:Value) (y z:AV),qi [.sc x,y,z] 0=some x:=fun _ _ _=>rfl
  have gs1:∀(x:Value) (y z:AV),qi [y,.sc x,z] 1=some x:=fun _ _ _=>rfl
  have gc2:∀x y z:AV,qt [x,y,z] 2=some z:=fun _ _ _=>rfl
  --the step
  have key:∀t2:Bool,(t2=(t||decide (p.1.nm=nm)))->B6_11 (st nm) V (.ptr a 0 0) (.bool t) (S 2 3 (ql va l)) (.int .i64 (l.length:Int)) (.int .i64 (i:Int)) hp=B6_11 (st nm) V (.ptr a 0 0) (.bool t2) (S 2 3 (ql va l)) (.int .i64 (l.length:Int)) (.int .i64 ((i+1:Nat):Int)) hp:=by
   rintro t2 rfl
   have b17:∀t,B6_17 (st nm) V (.ptr a 0 0) (.bool t) (S 2 3 (ql va l)) (.int .i64 (l.length:Int)) (.int .i64 (i:Int)) hp=B6_11 (st nm) V (.ptr a 0 0) (.bool t) (S 2 3 (ql va l)) (.int .i64 (l.length:Int)) (.int .i64 ((i+1:Nat):Int)) hp:=by
    intro t
    rw[qxb]
    simp[w1]
   have ix:zL 3 (S 2 3 (ql va l)) (.int .i64 (i:Int))=some [.sc (st p.1.nm),.sc (.int .u8 p.1.kd),S (rk p.2) 1 (LI .u8 p.1.pl)]:=ix
   have bf:run cxX 22 [.ptr a 0 0,.sc (st p.1.nm)] hp=some (.tup [.agg [.sc (st p.1.nm),.sc (.int .u8 p.1.kd),S 0 1 (LI .u8 p.1.pl)],.sc (.int .i64 0)],hp):=bf
   have b16:B6_16 (st nm) V (.ptr a 0 0) (.bool t) (S 2 3 (ql va l)) (.int .i64 (l.length:Int)) (.int .i64 (i:Int)) [.sc (st p.1.nm),.sc (.int .u8 p.1.kd),S (rk (rk p.2)) 1 (LI .u8 p.1.pl)] hp=B6_11 (st nm) V (.ptr a 0 0) (.bool (t||decide (p.1.nm=nm))) (S 2 3 (ql va l)) (.int .i64 (l.length:Int)) (.int .i64 ((i+1:Nat):Int)) hp:=by
    rw[qxc]
    cases t with
    |true=>simp[b17]
    |false=>
     generalize st p.1.nm=N at*
     generalize st nm=M at*
     simp[gs0,se,b17]
   rw[<-b16,Wf]
   clear b16 b17
   generalize ql va l=R at*
   generalize LI .u8 p.1.pl=PL at*
   generalize st p.1.nm=N at*
   generalize st nm=M at*
   simp[hlt,ix,g3,q3',p3,gs0,bf,sn2,gs1,gc2,b1]
  obtain⟨t',z,q⟩:=ih (i+1) (t||decide (p.1.nm=nm)) e2 qc
  refine⟨t',(key _ rfl).trans z,?_⟩
  rw[q]
  simp only[zlf,decide_eq_true_eq,zie,exists_eq_or_imp]
  exact or_assoc
theorem law_BoxFrames(k:Nat)(l:List Itm)(wl:(∀x∈l,x.Ok)/\l.length<9223372036854775808)(b0:ByteArray)(hp:Hp):∃hp',run cxX 6 [S k 8 (ql vb l),.sc (.string b0)] hp=some (.sc (.bool true),hp'):=by
 obtain⟨wl,hl⟩:=wl
 obtain⟨nm,hnm,e0⟩:=zcw b0
 rw[e0]
 have sl:=Yb nm
 obtain⟨g,aw⟩:=qge hp0
 obtain⟨c,lg,hc⟩:=qf4 (rk k) l wl hl hp0
 have b4:∀hp,B6_4 hp=some (.sc (.bool true),hp):=fun hp=>by rw[zbl]
 cases c with
 |false=>
  refine⟨hp,?_⟩
  rw[E6]
  generalize ql vb l=R at*
  generalize st nm=N at*
  simp[aw,lg,b4]
 |true=>
  obtain⟨hn,lt⟩:=hc rfl
  by_cases c60:(60:Int)<(nm.length:Int)
  ·refine⟨hp,?_⟩
   rw[E6]
   generalize ql vb l=R at*
   generalize st nm=N at*
   simp[aw,lg,sl,c60,b4]
  ·obtain⟨b,h1,en,es,f1,f2⟩:=qf9 (rk k) l wl lt hn hp
   obtain⟨hF,h8,wD⟩:=es.fin
   have hd:=qh2 l
   have en:run cxX 12 [S (rk k) 8 (ql vb l)] hp=some (xK 2 24 b (zk l),h1):=en
   have ln:=qz8 2 24 b (zk l)
   have hOk:∀e∈zk l,e.Ok:=fun e he=>(hF e he).ok
   have rV:=qyw b (zk l)
   have s1:=qfg 2 b (zk l) hOk h1 (fun q=>(wD q).1)
   obtain⟨h2,lb,o2,n2⟩:=qj6 (zk l) hF hd h8 _ rV h1 s1
   have A0:=qwx hF hd h8 (fs:=JI (jh [] (zk l))) rfl
   obtain⟨a,h3,op,r3,a1,a2,o3⟩:=qfy A0 0 h2
   have keep:∀h':Hp,(∀c<h1.next,h'.get c=h1.get c)->zk l≠[]->h'.rd b 0=some (ql zC (zk l)):=fun h' q ne=>by
    rw[rdg (q b (wD ne).2.1)]
    exact(wD ne).1
   have o31:∀c<h1.next,h3.get c=h1.get c:=fun c hc=>by rw[o3 c qc,o2 c hc]
   obtain⟨fs,h4,fr,q,o4,n4⟩:=KD (zk l) hF qc _ rV h3 (qfg 2 b (zk l) hOk h3 (keep h3 o31))
   have Af:=qwx hF hd h8 q
   have r4:h4.rd a 0=some (opB (S 0 1 (LI .u8 (Kg fs))) (qJ fs 6)):=by
    rw[rdg (o4 a a2),r3,<-qn8 q,<-vJ 6 q]
   obtain⟨t,z,tq⟩:=qww Af nm hnm (xK 2 24 b (zk l)) a h4 r4 fs 0 false rfl (ziv _)
   have tq:t=true↔∃p∈fs,p.1.nm=nm:=by simpa using tq
   have lf:zd (S 2 3 (ql va fs))=some fs.length:=kD va 3 qf 2 (fun e _=>Qr e)
   have mo:=qf1 hp0
   --the end
   have fin:∃h',B6_11 (st nm) (xK 2 24 b (zk l)) (.ptr a 0 0) (.bool t) (S 2 3 (ql va fs)) (.int .i64 (fs.length:Int)) (.int .i64 (fs.length:Int)) h4=some (.sc (.bool true),h'):=by
    obtain⟨er,fa,hfa,et⟩:∃(er:Int) (fa:Value×Int×AV),run cxX 22 [.ptr a 0 0,.sc (st nm)] h4=some (.tup [.agg [.sc fa.1,.sc (.int .u8 fa.2.1),fa.2.2],.sc (.int .i64 er)],h4)/\((er=0/\t=true)\/(er=9/\t=false)):=by
     by_cases c:∃p∈fs,p.1.nm=nm
     ·obtain⟨p,hp',e⟩:=c
      have:=vt Af hp' a h4 r4
      rw[e]at this
      exact⟨0,(st p.1.nm,p.1.kd,S 0 1 (LI .u8 p.1.pl)),this,.inl ⟨rfl,tq.mpr ⟨p,hp',e⟩⟩⟩
     ·have:=KH Af nm hnm (fun p hp' e=>c ⟨p,hp',e⟩) a _ h4 r4
      refine⟨9,(st [],0,S 2 1 []),this,.inr ⟨rfl,?_⟩⟩
      cases t with
      |false=>rfl
      |true=>exact absurd (tq.mp rfl) c
    have b24:∀hp,B6_24 (.bool t) (.int .i64 er) hp=some (.sc (.bool true),hp):=by
     intro hp
     rw[qxa]
     rcases et with⟨rfl,rfl⟩|⟨rfl,rfl⟩<;>simp
    have mn:=qj5 5 qf h4
    have q3':∀x y z:AV,qk 3 (.agg [x,y,z])=some [x,y,z]:=fun _ _ _=>rfl
    have p3:∀x y z a b c:AV,qm [x,y,z] 0 [a,b,c]=some [a,b,c]:=fun _ _ _ _ _ _=>rfl
    obtain⟨h5,hh5⟩:∃h5,h5=h4.new [.sc (.int .i64 0),.sc (.int .i64 5)]:=⟨_,rfl⟩
    rw[<-hh5]at mn
    by_cases hne:zk l=[]
    ·refine⟨h5,?_⟩
     rw[Wf]
     have ln:zd (xK 2 24 b (zk l))=some 0:=by rw[ln,hne];rfl
     generalize xK 2 24 b (zk l)=V at*
     generalize ql va fs=R at*
     generalize st nm=N at*
     simp[hfa,q3',p3,mn,rV,ln,b24]
     done
    ·have h0:0<(zk l).length:=zjj.mpr hne
     obtain⟨e,r,hee⟩:∃e r,zk l=e::r:=by
      cases hx:zk l with
      |nil=>exact absurd hx hne
      |cons e r=>exact⟨e,r,rfl⟩
     have e0:(zk l)[0]?=some e:=by rw[hee];rfl
     have he:=hF e (zig e0)
     have r5:h5.rd b 0=some (ql zC (zk l)):=by
      have hb:=(wD hne).2.1
      rw[hh5,jH _ _ qc,rdg (o4 b qc)]
      exact keep h3 o31 hne
     have r5a:h5.rd a 0=some (opB (S 0 1 (LI .u8 (Kg fs))) (qJ fs 6)):=by
      rw[hh5,jH _ _ qc]
      exact r4
     have r5m:h5.rd h4.next 0=some [.sc (.int .i64 0),.sc (.int .i64 5)]:=by rw[hh5];exact qF _ _
     have nm0:=zde (fun e he=>(hF e he).ok) e0
     rw[zkb]at nm0
     have i0:idx (zk l).length (.int .i64 0)=some 0:=za .i64 h0
     --its frame
     obtain⟨p,hp',ep⟩:∃p∈fs,p.1=(beF e).1:=by
      have:(beF e).1∈(JI (jh [] (zk l))).map Prod.fst:=List.mem_map_of_mem (List.mem_map_of_mem ((yN (zk l) []).mem_iff.mpr (zig e0)))
      rw[<-q]at this
      exact ziu.mp this
     have bf:=vt Af hp' a h5 r5a
     rw[ep]at bf
     have bf:run cxX 22 [.ptr a 0 0,.sc (st e.nm)] h5=some (.tup [.agg [.sc (st e.nm),.sc (.int .u8 e.x.kind),S 0 1 (LI .u8 (ku e.x))],.sc (.int .i64 0)],h5):=bf
     have few:=he.few
     have mt:=qf3 h4.next 5 (64*((ku e.x).length:Int)+16384) qf qc h5 r5m
     rw[if_pos qc]at mt
     have tb:=Xr he.ok.cl.sk he.fine he.h64 0 (.ptr h4.next 0 0) rfl h5 h5 mt
     have mu:=qf2 h4.next 0 5 h5 r5m
     have gs1:∀(x:Value) (y z:AV),qi [y,.sc x,z] 1=some x:=fun _ _ _=>rfl
     have gc2:∀x y z:AV,qt [x,y,z] 2=some z:=fun _ _ _=>rfl
     have get:run cxX 20 [.ptr a 0 0,.sc (st e.nm),.ptr h4.next 0 0] h5=some (.tup [.agg skZL,.sc (.int .i64 14)],h5):=by
      have c23:qk 23 (.agg skZL)=some skZL:=rfl
      have p23:∀Z:List AV,Z.length=23->qm Z 0 skZL=some skZL:=fun Z hZ=>Yr Z _ (by rw[hZ];rfl)
      have g23:qo skZL 0 23=some skZL:=rfl
      rw[E20]
      generalize skZL=Z at*
      generalize LI .u8 (ku e.x)=Y at*
      generalize st e.nm=N at*
      simp[bf,q3',p3,gs1,gc2,tb,c23,p23,g23]
      done
     refine⟨h5,?_⟩
     have c23:qk 23 (.agg (skZL.map ro1))=some (skZL.map ro1):=rfl
     have p23:∀Z:List AV,Z.length=23->qm Z 0 (skZL.map ro1)=some (skZL.map ro1):=fun Z hZ=>Yr Z _ (by rw[hZ];rfl)
     have lm:zd (.ms b 0 0 (zk l).length 24)=some (zk l).length:=rfl
     have rV2:=Zp 2 24 b hne
     rw[rV2,Wf]
     have h0':(0:Int)<((zk l).length:Int):=qc
     generalize skZL=Z at*
     generalize ql zC (zk l)=RB at*
     generalize ql va fs=R at*
     generalize st nm=N at*
     generalize st e.nm=M at*
     simp only[cmb,ch24]
     simp[hfa,q3',p3,mn,lm,h0',qN,i0,r5,nm0,get,c23,p23,mu,b24]
     done
   obtain⟨h6,fin⟩:=fin
   rw[fin]at z
   refine⟨h6,?_⟩
   have z:B6_11 (st nm) (xK 2 24 b (zk l)) (.ptr a 0 0) (.bool false) (S 2 3 (ql va fs)) (.int .i64 (fs.length:Int)) (.int .i64 0) h4=some (.sc (.bool true),h6):=z
   have b5:B6_5 (S k 8 (ql vb l)) (st nm) hp=some (.sc (.bool true),h6):=by
    have nV:yn (xK 2 24 b (zk l))=some ():=by unfold xK;split<;>rfl
    rw[<-z,zbk]
    generalize xK 2 24 b (zk l)=V at*
    generalize LI .u8 (Kg (JI (jh [] (zk l))))=Y at*
    generalize ql vb l=RI at*
    generalize ql va fs=R at*
    generalize st nm=N at*
    simp[en,rV,nV,lb,mo,op,fr,lf]
    done
   rw[E6]
   generalize ql vb l=R at*
   generalize st nm=N at*
   simp[aw,lg,sl,c60,b5]
end Go.Proofs.YtoliekekdmfngaaGreat.AI
