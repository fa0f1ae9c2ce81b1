/- Texts that the proof of PackPuts rests on, part 5. -/
import Derived.Test.YtchmioacjkbfcaaGreatQPackPuts4
namespace Go.Proofs.YtchmioacjkbfcaaGreat.AI
open Go
set_option linter.unusedVariables false
set_option linter.unusedSimpArgs false
set_option maxRecDepth 100000
set_option maxHeartbeats 0
abbrev Kv(K:Int)(x:AV):AV:=.agg [.sc (.int .i64 K),x]
theorem qf5(K:Int)(q0 q1 p1:AV)(hp:Hp):∀(n:Nat) (a b acc:List Int) (k k':Nat),a.length+b.length=n->acc.length+n<=1000000->
 B124_3 (S k 1 (LI .u64 a)) (S k' 1 (LI .u64 b)) [.sc (.int .i64 K),p1] [q0,q1] [.sc (.int .i64 K),S 2 1 (LI .u64 acc)] hp=some (Kv K (S 2 1 (LI .u64 (acc++(mrg a b).take (K.toNat-acc.length)))),hp):=by
 intro n
 induction n using Nat.strongRecOn with
 |_ n ih=>
 intro a b acc k k' hn hlen
 have ap:∀x:Int,zZ 8 1 (S 2 1 (LI .u64 acc)) (S 1 1 [.sc (.int .u64 x)])=some (S 2 1 (LI .u64 (acc++[x]))):=fun x=>ZO .u64 acc 2 (.inr rfl) 8 (by decide) x (by omega)
 have fin:B124_9 [q0,q1] [.sc (.int .i64 K),S 2 1 (LI .u64 acc)] hp=some (Kv K (S 2 1 (LI .u64 acc)),hp):=by
  rw[qsl]
  simp[ql,qh]
 rw[qsp]
 by_cases hK:(acc.length:Int)<K
 ·have hs:K.toNat-acc.length=(K.toNat-(acc.length+1))+1:=by omega
  have goA:∀(x:Int) (r:List Int),r.length+1+b.length<=n->B124_6 (S k 1 (LI .u64 (x::r))) (S k' 1 (LI .u64 b)) [.sc (.int .i64 K),p1] [q0,q1] [.sc (.int .i64 K),S 2 1 (LI .u64 acc)] hp=some (Kv K (S 2 1 (LI .u64 (acc++(x::mrg r b).take (K.toNat-acc.length)))),hp):=by
   intro x r hle
   rw[qsn]
   have e:=vt (rk k) (LI .u64 (x::r)) .i64 1 (by omega) (by simp only[vy,List.length_cons];omega)
   have i:=fun k=>ih (r.length+b.length) (by omega) r b (acc++[x]) k k' rfl (by simp only[List.length_append,List.length_cons,List.length_nil];omega)
   simp at i
   rw[hs,List.take_succ_cons]
   simp[qj,qe,ap,e,qh,i]
  have goB:∀(y:Int) (r:List Int),a.length+(r.length+1)<=n->B124_8 (S k 1 (LI .u64 a)) (S k' 1 (LI .u64 (y::r))) [.sc (.int .i64 K),p1] [q0,q1] [.sc (.int .i64 K),S 2 1 (LI .u64 acc)] hp=some (Kv K (S 2 1 (LI .u64 (acc++(y::mrg a r).take (K.toNat-acc.length)))),hp):=by
   intro x r hle
   rw[qsm]
   have e:=vt (rk k') (LI .u64 (x::r)) .i64 1 (by omega) (by simp only[vy,List.length_cons];omega)
   have i:=fun k'=>ih (a.length+r.length) (by omega) a r (acc++[x]) k k' rfl (by simp only[List.length_append,List.length_cons,List.length_nil];omega)
   simp at i
   rw[hs,List.take_succ_cons]
   simp[qj,qe,ap,e,qh,i]
  have wD:∀(x y:Int) (r s:List Int),r.length+s.length+2<=n->B124_4 (S k 1 (LI .u64 (x::r))) (S k' 1 (LI .u64 (y::s))) [.sc (.int .i64 K),p1] [q0,q1] [.sc (.int .i64 K),S 2 1 (LI .u64 acc)] hp=some (Kv K (S 2 1 (LI .u64 (acc++(x::mrg r s).take (K.toNat-acc.length)))),hp):=by
   intro x y r s hle
   rw[qso]
   have e:=vt (rk k) (LI .u64 (x::r)) .i64 1 (by omega) (by simp only[vy,List.length_cons];omega)
   have e':=vt (rk k') (LI .u64 (y::s)) .i64 1 (by omega) (by simp only[vy,List.length_cons];omega)
   have i:=fun k k'=>ih (r.length+s.length) (by omega) r s (acc++[x]) k k' rfl (by simp only[List.length_append,List.length_cons,List.length_nil];omega)
   simp at i
   rw[hs,List.take_succ_cons]
   simp[qj,qe,ap,e,e',qh,i]
  match a,b with
  |[],[]=>simp[qj,qe,hK,fin]
  |[],y::s=>
   have h:=goB y s (by simp at hn⊢;omega)
   simp at h
   have hw':IntKind.i64.wrap ((s.length:Int)+1)=(s.length:Int)+1:=qf (by omega) (by simp at hn;omega)
   have p:(0:Int)<(s.length:Int)+1:=by omega
   have z:¬((s.length:Int)+1=0):=by omega
   simp[qj,qe,hK,hw',p,z,vT,YD,h]
  |x::r,[]=>
   have h:=goA x r (by simp at hn⊢;omega)
   simp at h
   have hw':IntKind.i64.wrap ((r.length:Int)+1)=(r.length:Int)+1:=qf (by omega) (by simp at hn;omega)
   have p:(0:Int)<(r.length:Int)+1:=by omega
   simp[qj,qe,hK,hw',p,vT,h]
  |x::r,y::s=>
   have h1:=goA x r (by simp at hn⊢;omega)
   have h2:=goB y s (by simp at hn⊢;omega)
   have h3:=wD x y r s (by simp at hn⊢;omega)
   have hw':IntKind.i64.wrap ((r.length:Int)+1+((s.length:Int)+1))=(r.length:Int)+1+((s.length:Int)+1):=qf (by omega) (by simp at hn;omega)
   have p:(0:Int)<(r.length:Int)+1+((s.length:Int)+1):=by omega
   have p':(0:Int)<(r.length:Int)+1:=by omega
   have z:¬((s.length:Int)+1=0):=by omega
   have z':¬((r.length:Int)+1=0):=by omega
   rw[zI]
   by_cases hxy:x<y
   ·simp[qj,qe,hK,hw',p,p',z,z',hxy,h1,vT]
   ·by_cases hyx:y<x
    ·simp[qj,qe,hK,hw',p,p',z,z',hxy,hyx,h2,vT,YD]
    ·simp[qj,qe,hK,hw',p,p',z,z',hxy,hyx,h3,vT,YD]
 ·have hs:K.toNat-acc.length=0:=by omega
  simp[qj,qe,hK,fin,hs]
theorem qjh(K:Int)(B':AV)(a b:List Int)(k k':Nat)(hp:Hp)(hlen:a.length+b.length<=1000000):
 run cxX 124 [Kv K (S k 1 (LI .u64 a)),.agg [B',S k' 1 (LI .u64 b)]] hp=some (Kv K (S 2 1 (LI .u64 ((mrg a b).take K.toNat))),hp):=by
 rw[E124]
 have:=qf5 K (.sc (.int .i64 0)) (S 2 1 []) (S (rk k) 1 (LI .u64 a)) hp (a.length+b.length) a b [] (rk k) (rk k') rfl (by simpa using hlen)
 simp at this
 simp[qe,qj]
 exact this
theorem que(K:Int)(a:List Int)(n:Int)(k:Nat)(hp:Hp)(hlen:a.length+1<=1000000):
 run cxX 69 [Kv K (S k 1 (LI .u64 a)),.sc (.int .u64 n)] hp=some (Kv K (S 2 1 (LI .u64 ((mrg a [n]).take K.toNat))),hp):=by
 rw[E69]
 have m:=fun k k' hp=>qjh K (.sc (.int .i64 K)) a [n] k k' hp (by simpa using hlen)
 simp[LI]at m
 simp[qe,ql,qh,LI,m]
theorem qks(B B':AV)(a b:List Int)(k k':Nat)(hab:a.length=b.length)(hl:a.length<=1000000)(hp:Hp):∀(r s:List Int) (i:Nat),a.drop i=r->b.drop i=s->
 B117_4 (.int .i64 a.length) (.int .i64 i) [B,S k 1 (LI .u64 a)] [B',S k' 1 (LI .u64 b)] hp=some (.sc (.bool (decide (r=s))),hp):=by
 intro r
 induction r with
 |nil=>
  intro s i hr hs
  have h1:=qB hr
  have h2:s=[]:=by rw[<-hs];exact List.drop_eq_nil_of_le (by omega)
  have hlt:¬((i:Int)<(a.length:Int)):=by omega
  rw[qbw]
  simp[hlt,h2]
 |cons x r ih=>
  intro s i hr hs
  obtain⟨e1,e2,hi,e3⟩:=qm hr
  rw[qbw]
  have hw:IntKind.i64.wrap ((i:Int)+1)=((i+1:Nat):Int):=by rw[qf]<;>omega
  cases s with
  |nil=>have:=qB hs;omega
  |cons y s=>
   obtain⟨f1,f2,hj,f3⟩:=qm hs
   have h:=ih s (i+1) e2 f2
   simp at h hw
   by_cases e:x=y
   ·simp[hi,hj,qj,qe,e3,f3,e,hw,h]
   ·simp[hi,hj,qj,qe,e3,f3,e]
theorem qoj(B B':Int)(a b:List Int)(k k':Nat)(hp:Hp)(ha:a.length<=1000000)(hb:b.length<=1000000):
 run cxX 117 [Kv B (S k 1 (LI .u64 a)),Kv B' (S k' 1 (LI .u64 b))] hp=some (.sc (.bool (decide (B=B'/\a=b))),hp):=by
 rw[E117]
 by_cases h1:B=B'
 ·by_cases h3:a.length=b.length
  ·have h:=qks (.sc (.int .i64 B)) (.sc (.int .i64 B')) a b (rk k) (rk k') h3 ha hp a b 0 rfl rfl
   simp at h
   subst h1
   rw[h3]at h
   simp[qe,qj,h3,qsu,h]
  ·have h4:¬(a=b):=fun e=>h3 (by rw[e])
   have h5:¬((a.length:Int)=(b.length:Int)):=by omega
   simp[qe,qj,h1,h4,h5,qbx]
 ·simp[qe,qj,h1,qbx]
def cut(few:Bool)(n:Int):Int:=if few then n%30 else n
theorem qwk(K:Int)(few:Bool)(q0 q1:AV)(k:Nat)(l:List Int)(hK:K<=1000)(hl:l.length<=1000)(hpos:∀n∈l,0<=n)(hp:Hp):∀(r:List Int) (i:Nat) (acc:List Int) (k':Nat),l.drop i=r->acc.length<=1000->
 B27_3 (.bool few) (S k 1 (LI .u64 l)) (.int .i64 l.length) (.int .i64 i) [q0,q1] [.sc (.int .i64 K),S 2 1 (LI .u64 acc)] hp=some (Kv K (S 2 1 (LI .u64 (Qq K.toNat acc (r.map (cut few))))),hp):=by
 intro r
 induction r with
 |nil=>
  intro i acc k' hr ha
  have:=qB hr
  have hlt:¬((i:Int)<(l.length:Int)):=by omega
  rw[qim]
  simp[hlt,ql,qh,Qq]
 |cons x r ih=>
  intro i acc k' hr ha
  obtain⟨e1,e2,hi,e3⟩:=qm hr
  have hx:=hpos x (List.mem_of_getElem? e1)
  have hw:IntKind.i64.wrap ((i:Int)+1)=((i+1:Nat):Int):=by rw[qf]<;>omega
  have h:=ih (i+1) ((mrg acc [cut few x]).take K.toNat) k' e2 (by rw[List.length_take];omega)
  have d:=fun hp=>que K acc (cut few x) 3 hp (by omega)
  have e7:B27_7 (.bool few) (.int .u64 (cut few x)) (S k 1 (LI .u64 l)) (.int .i64 l.length) (.int .i64 i) [q0,q1] [.sc (.int .i64 K),S 2 1 (LI .u64 acc)] hp=some (Kv K (S 2 1 (LI .u64 (Qq K.toNat acc ((x::r).map (cut few))))),hp):=by
   rw[qyu]
   simp at h hw
   simp[ql,qh,d,hw,h,Qq]
  rw[qim]
  have hm:∀a b,qr Tryz.prog .rem 76 a b (.int .u64 x) (.int .u64 30)=some (.int .u64 (x%30)):=by
   intro a b;rw[qW _ _ _ _ _ _ _ (by omega),qV hx]
  cases few with
  |true=>
   simp[cut]at e7
   simp[hi,e3,qe,hm,e7,cut]
  |false=>
   simp[cut]at e7
   simp[hi,e3,qe,e7,cut]
theorem qzn(c:Int)(few:Bool)(l:List Int)(k:Nat)(hc:0<=c/\c<256)(hl:l.length<=1000)(hpos:∀n∈l,0<=n)(hp:Hp):
 run cxX 27 [.sc (.int .u8 c),S k 1 (LI .u64 l),.sc (.bool few)] hp=some (Kv (1+c%20) (S 2 1 (LI .u64 (Qq (1+c%20).toNat [] (l.map (cut few))))),hp):=by
 rw[E27]
 have h1:∀x y,qr Tryz.prog .rem 5 x y (.int .u8 c) (.int .u8 20)=some (.int .u8 (c%20)):=by
  intro x y;rw[qW _ _ _ _ _ _ _ (by omega),qV hc.1]
 have w1:IntKind.i64.wrap (c%20)=c%20:=qf (by omega) (by omega)
 have w2:IntKind.i64.wrap (1+c%20)=1+c%20:=qf (by omega) (by omega)
 have hq:=qwk (1+c%20) few (.sc (.int .i64 0)) (S 2 1 []) (rk k) l (by omega) hl hpos hp l 0 [] 2 rfl (by simp)
 simp at hq
 simp[h1,yN,w1,w2,hq]
@[simp] theorem ro_fn (f : FuncId) (c : List AV) : ro (.fn f c) = .fn f c := rfl
def Zw:List Int->Int
 |[]=>0
 |[_]=>0
 |x::y::r=>if y<=x then 8 else Zw (y::r)
def qp4(K:Int)(l:List Int):Int:=if K<1\/1024<K then 2 else if K<(l.length:Int)then 7 else Zw l
theorem qo0(l:List Int)(k:Nat)(hl:l.length<=4096)(hp:Hp):∀(r:List Int) (x:Int) (j:Nat),l.drop j=x::r->
 B82_4 (S k 1 (LI .u64 l)) (.int .i64 ((j+1:Nat):Int)) hp=some (.sc (.int .i64 (Zw (x::r))),hp):=by
 intro r
 induction r with
 |nil=>
  intro x j hr
  obtain⟨e1,e2,hi,e3⟩:=qm hr
  have:=qB e2
  have hlt:¬((j:Int)+1<(l.length:Int)):=by omega
  rw[Va]
  simp[hlt,Zw]
 |cons y r ih=>
  intro x j hr
  obtain⟨e1,e2,hi,e3⟩:=qm hr
  obtain⟨f1,f2,hj,f3⟩:=qm e2
  have hlt:(j:Int)+1<(l.length:Int):=by omega
  have hw:IntKind.i64.wrap ((j:Int)+1+1)=(j:Int)+1+1:=qf (by omega) (by omega)
  have hw2:IntKind.i64.wrap ((j:Int)+1-1)=(j:Int):=by rw[qf]<;>omega
  have hge:(0:Int)<=(j:Int)+1:=by omega
  have htn:((j:Int)+1).toNat=j+1:=by omega
  have g:=ih y (j+1) e2
  rw[Va]
  simp at g hw2
  by_cases hq:y<=x
  ·simp[hlt,hge,htn,qe,f1,e1,hw2,hq,Zw]
  ·simp[hlt,hge,htn,qe,f1,e1,hw2,hq,Zw,hw,g]
theorem qej(l:List Int)(k:Nat)(hl:l.length<=4096)(hp:Hp):run cxX 82 [S k 1 (LI .u64 l)] hp=some (.sc (.int .i64 (Zw l)),hp):=by
 rw[E82]
 have h1:¬((4096:Int)<(l.length:Int)):=by omega
 cases l with
 |nil=>
  rw[Va]
  simp[Zw]
 |cons x r=>
  have g:=qo0 (x::r) k hl hp r x 0 rfl
  have h1:¬((4096:Int)<(r.length:Int)+1):=by simp at hl;omega
  simp at g
  simp[h1,g]
theorem qji(K:Int)(l:List Int)(k:Nat)(hl:l.length<=1000000)(hp:Hp):run cxX 63 [Kv K (S k 1 (LI .u64 l))] hp=some (.sc (.int .i64 (qp4 K l)),hp):=by
 rw[E63]
 unfold qp4
 by_cases h1:K<1
 ·simp[qe,h1,qh9]
 ·by_cases h2:1024<K
  ·simp[qe,h1,h2,qh9]
  ·by_cases h3:K<(l.length:Int)
   ·simp[qe,qj,h1,h2,h3,qh8]
   ·simp[qe,qj,h1,h2,h3,qh8,qej l _ (show l.length<=4096 by omega)]
theorem yT(K:IntKind)(l:List Nat)(i:Nat)(h:i<l.length):(LI K (nz l))[i]?=some (.sc (.int K (l.getD i 0:Nat))):=by
 unfold LI nz
 rw[List.getElem?_map,List.getElem?_map,List.getD_eq_getElem?_getD,List.getElem?_eq_getElem h]
 rfl
section
variable (l:List Nat)(k:Nat)(hl:l.length<=1000000)(h64:∀x∈l,x<18446744073709551616)(hr:zi l)
include hl h64 hr
theorem qmc(i:Nat)(hi:i<l.length)(hp:Hp):run cxX 84 [S k 1 (LI .u64 (nz l)),.sc (.int .i64 (i:Int))] hp=some (.sc (.int .u64 ((qt l).getD i 0:Nat)),hp):=by
 have g:=Ks l i hi
 have a0:=yT .u64 l 0 (by omega)
 have ai:=yT .u64 l i hi
 rw[List.getD_eq_getElem?_getD,g,Option.getD_some,E84]
 by_cases h0:i=0
 ·subst h0
  rw[if_pos rfl]
  generalize l.getD 0 0=v at*
  simp[a0,qe]
 ·rw[if_neg h0]
  have aj:=yT .u64 l (i-1) (by omega)
  have hlt:=kn l hr (i-1) (by omega)
  have e:i-1+1=i:=by omega
  rw[e]at hlt
  have hv:l.getD i 0<18446744073709551616:=by
   rw[List.getD_eq_getElem?_getD,List.getElem?_eq_getElem hi]
   exact h64 _ (List.getElem_mem _)
  have w1:IntKind.i64.wrap ((i:Int)-1)=((i-1:Nat):Int):=by rw[qf]<;>omega
  have h0':¬((i:Int)=0):=by omega
  have g0:(0:Int)<=((i-1:Nat):Int):=by omega
  have g1:(0:Int)<=(i:Int):=by omega
  generalize l.getD i 0=u at*
  generalize l.getD (i-1) 0=v at*
  have w2:IntKind.u64.wrap ((u:Int)-(v:Int))=(u:Int)-(v:Int):=qn (by omega) (by omega)
  have w3:IntKind.u64.wrap ((u:Int)-(v:Int)-1)=((u-v-1:Nat):Int):=by rw[qn]<;>omega
  have aj':(LI .u64 (nz l))[(((i-1:Nat):Int)).toNat]?=some (.sc (.int .u64 (v:Int))):=by rw[Int.toNat_natCast];exact aj
  generalize((i-1:Nat):Int)=j at*
  generalize((u-v-1:Nat):Int)=z at*
  simp[h0,ai,aj',qe,w1,g0,w2,w3]
theorem qqk(kk:Nat)(hkk:kk<=63)(hp:Hp):∀(r:List Nat) (i n:Nat),(qt l).drop i=r->n+r.length*4160<4611686018427387904->
 B136_3 (S k 1 (LI .u64 (nz l))) (.int .i64 (kk:Int)) (.int .i64 (n:Int)) (.int .i64 (l.length:Int)) (.int .i64 (i:Int)) hp=
  some (.tup [.sc (.int .i64 ((yD kk r n).1:Nat)),.sc (.bool (yD kk r n).2)],hp):=by
 intro r
 induction r with
 |nil=>
  intro i n h hn
  have h1:=qB h
  rw[kN]at h1
  have hlt:¬((i:Int)<(l.length:Int)):=by omega
  rw[qbp]
  simp[hlt,yD]
 |cons g r ih=>
  intro i n h hn
  obtain⟨e1,e2,hi,e3⟩:=qm h
  have hi':i<l.length:=by have:=hi;simp at this;omega
  have hlt:(i:Int)<(l.length:Int):=by omega
  have gp:=qmc l (rk k) hl h64 hr i hi' hp0
  have eg:(qt l).getD i 0=g:=by rw[List.getD_eq_getElem?_getD,e1];rfl
  rw[eg]at gp
  have sh:=fun o o'=>QF g kk (by omega) o o' .i64
  rw[qbp]
  unfold yD
  generalize hq:g/2^kk=q at*
  by_cases hc:4096<q
  ·have hg:(4096:Int)<(q:Int):=by omega
   simp[hlt,gp,sh,hg,hc]
  ·have hg:¬((4096:Int)<(q:Int)):=by omega
   have w1:IntKind.i64.wrap (q:Int)=(q:Int):=qf (by omega) (by omega)
   have w2:IntKind.i64.wrap ((q:Int)+1)=(q:Int)+1:=qf (by omega) (by omega)
   have w3:IntKind.i64.wrap ((q:Int)+1+(kk:Int))=(q:Int)+1+(kk:Int):=qf (by omega) (by omega)
   simp only[List.length_cons]at hn
   have w4:IntKind.i64.wrap ((n:Int)+((q:Int)+1+(kk:Int)))=((n+(q+1+kk):Nat):Int):=by rw[qf]<;>omega
   have w5:IntKind.i64.wrap ((i:Int)+1)=((i+1:Nat):Int):=by rw[qf]<;>omega
   have hi2:=ih (i+1) (n+(q+1+kk)) e2 (by omega)
   rw[if_neg hc]
   generalize((n+(q+1+kk):Nat):Int)=N at*
   generalize((i+1:Nat):Int)=I at*
   simp[hlt,gp,sh,hg,xS,w1,w2,w3,w4,w5,hi2]
theorem qut(kk:Nat)(hkk:kk<=63)(hp:Hp):run cxX 136 [S k 1 (LI .u64 (nz l)),.sc (.int .i64 (kk:Int))] hp=
 some (.tup [.sc (.int .i64 ((yD kk (qt l) 0).1:Nat)),.sc (.bool (yD kk (qt l) 0).2)],hp):=by
 have h:=qqk l k hl h64 hr kk hkk hp (qt l) 0 0 rfl (by simp;omega)
 rw[E136]
 simp at h
 simp[h]
theorem qj3(hp:Hp):∀(f j b:Nat) (m:Int),j+f=64->b<=63->
 B83_3 (S k 1 (LI .u64 (nz l))) (.int .i64 (b:Int)) (.int .i64 m) (.int .i64 (j:Int)) hp=some (.sc (.int .i64 (YZ (qt l) f j b m:Nat)),hp):=by
 intro f
 induction f with
 |zero=>
  intro j b m hj hb
  have hlt:¬((j:Int)<64):=by omega
  rw[qhu]
  simp[hlt,YZ]
 |succ f ih=>
  intro j b m hj hb
  have hlt:(j:Int)<64:=by omega
  have c:=qut l (rk k) hl h64 hr j (by omega) hp0
  have w5:IntKind.i64.wrap ((j:Int)+1)=((j+1:Nat):Int):=by rw[qf]<;>omega
  have i1:=ih (j+1) j (yD j (qt l) 0).1 (by omega) (by omega)
  have i2:=ih (j+1) b m (by omega) hb
  have c8:∀v3 v4,B83_8 (S k 1 (LI .u64 (nz l))) v3 v4 (.int .i64 (j:Int)) hp=B83_3 (S k 1 (LI .u64 (nz l))) v3 v4 (.int .i64 ((j+1:Nat):Int)) hp:=by
   intro v3 v4
   rw[qyc]
   generalize((j+1:Nat):Int)=J at*
   simp[w5]
  rw[qhu]
  unfold YZ
  simp only[Int.natCast_add,Int.natCast_one]at i1 i2 c8
  generalize yD j (qt l) 0=C at*
  obtain⟨c1,c2⟩:=C
  cases c2
  ·simp[hlt,c,c8,i2]
  ·by_cases h1:m<0
   ·simp[hlt,c,h1,qht,c8,i1]
   ·by_cases h2:(c1:Int)<m
    ·simp[hlt,c,h1,h2,qht,c8,i1]
    ·simp[hlt,c,h1,h2,c8,i2]
theorem Wa(hp:Hp):run cxX 83 [S k 1 (LI .u64 (nz l))] hp=some (.sc (.int .i64 (zY (qt l):Nat)),hp):=by
 have h:=qj3 l k hl h64 hr hp 64 0 63 (-1) rfl (by omega)
 rw[E83]
 simp at h
 simp[h,zY]
theorem qoy(kk w:Nat)(hkk:kk<=63)(hg:∀g∈qt l,g/2^kk<=4096):∀(r:List Nat) (i nb:Nat) (bs:List Bool) (hp:Hp),(qt l).drop i=r->i+r.length=l.length->bs.length+r.length*4160<7000000->BW hp w nb bs->
 ∃hp' nb',B34_7 (S k 1 (LI .u64 (nz l))) (.int .i64 (kk:Int)) (.ptr w 0 0) (.int .i64 (l.length:Int)) (.int .i64 (i:Int)) hp=
  B34_7 (S k 1 (LI .u64 (nz l))) (.int .i64 (kk:Int)) (.ptr w 0 0) (.int .i64 (l.length:Int)) (.int .i64 (l.length:Int)) hp'/\BS hp w nb hp' nb' (bs++zU kk r):=by
 intro r
 induction r with
 |nil=>
  intro i nb bs hp h hil hl2 hw
  have e:i=l.length:=by simpa using hil
  rw[e]
  exact⟨hp,nb,rfl,by simpa[zU]using hw,Fm.refl _ _,.inl rfl⟩
 |cons g r ih=>
  intro i nb bs hp h hil hl2 hw
  obtain⟨e1,e2,hi,e3⟩:=qm h
  simp only[List.length_cons]at hl2 hil
  have hlt:(i:Int)<(l.length:Int):=by omega
  have gp:=qmc l (rk k) hl h64 hr i (by omega) hp0
  have eg:(qt l).getD i 0=g:=by rw[List.getD_eq_getElem?_getD,e1];rfl
  rw[eg]at gp
  have hmem:g∈qt l:=by rw[<-e3];exact List.getElem_mem _
  have hq:=hg g hmem
  have hg64:=vk h64 g hmem
  have sh:=fun o o'=>QF g kk (by omega) o o' .i64
  have w1:IntKind.i64.wrap ((g/2^kk:Nat):Int)=((g/2^kk:Nat):Int):=(fun(q:Nat) (h:q<=4096)=>qf (z:=(q:Int)) (by omega) (by omega)) _ hq
  have w5:IntKind.i64.wrap ((i:Int)+1)=((i+1:Nat):Int):=by rw[qf]<;>omega
  obtain⟨hp1,nb1,a1,a2⟩:=VX w nb (g/2^kk) bs hp (by omega) hw
  obtain⟨hp2,nb2,b1,b2⟩:=Ji w nb1 g kk (bs++una (g/2^kk)) hp1 hg64 (by omega) (by simp;omega) a2.1
  obtain⟨hp3,nb3,c1,c2⟩:=ih (i+1) nb2 (bs++una (g/2^kk)++xE g kk) hp2 e2 (by omega) (by simp;omega) b2.1
  refine⟨hp3,nb3,?_,?_⟩
  ·rw[<-c1,qii]
   generalize hqq:((g/2^kk:Nat):Int)=q at*
   generalize((i+1:Nat):Int)=I at*
   simp[hlt,gp,sh,hqq,xS,w1,a1,b1,w5]
  ·have e:bs++zU kk (g::r)=bs++una (g/2^kk)++xE g kk++zU kk r:=by simp[zU]
   rw[e]
   exact(a2.trans hw.1 b2).trans hw.1 c2
end
theorem qj4:∀(l:List Nat),Zw (nz l)=0↔zi l:=by
 intro l
 induction l with
 |nil=>exact⟨fun _=>trivial,fun _=>rfl⟩
 |cons x r ih=>
  cases r with
  |nil=>exact⟨fun _=>trivial,fun _=>rfl⟩
  |cons y r=>
   have e:Zw (nz (x::y::r))=if((y:Nat):Int)<=((x:Nat):Int)then 8 else Zw (nz (y::r)):=rfl
   rw[e]
   by_cases h:y<=x
   ·rw[if_pos (by omega)]
    exact⟨fun h=>absurd h (by decide),fun h'=>by have:=h'.1;omega⟩
   ·rw[if_neg (by omega)]
    constructor
    ·intro h';exact⟨by omega,ih.mp h'⟩
    ·intro h';exact ih.mpr h'.2
theorem qt6(l:List Nat)(k:Nat)(hl:l.length<=1024)(h64:∀x∈l,x<18446744073709551616)(hr:zi l)(hp:Hp):
 ∃t hp',run cxX 34 [S k 1 (LI .u64 (nz l))] hp=some (.tup [S t 1 (LI .u8 (yc l)),.sc (.int .i64 0)],hp')/\Fm [] hp hp':=by
 have rc:=qej (nz l) (rk k) (by simp;omega) hp0
 rw[(qj4 l).mpr hr]at rc
 have pr:=Wa l (rk k) (by omega) h64 hr hp0
 obtain⟨k63,hq⟩:=Jo (vk h64)
 have hbl:=QK (zY (qt l)) k63 (qt l) hq
 rw[kN]at hbl
 have hlY:(pk (jz (qt l))).length<700000:=by rw[zR];unfold jz;omega
 obtain⟨hp1,nb1,a1,a2⟩:=qoy l k (by omega) h64 hr (zY (qt l)) hp.next k63 hq (qt l) 0 hp.next [] (hp.new [S 2 1 [],.sc (.int .i64 0)]) rfl (by simp) (by simp;omega) (BW.new hp)
 obtain⟨a2,a3,a4⟩:=a2
 simp only[List.nil_append]at a2
 have hn1:hp.next<hp1.next:=by have:=a3.1;simp at this;omega
 --the bytes
 have wN:∀c,c<hp.next->hp1.get c=hp.get c:=by
  intro c hc
  rw[a3.2 c (by simp;omega) (by simp;omega)]
  exact(Fm.new [] hp _).2 c hc (by simp)
 have hne:hp1.next≠hp.next:=by omega
 have u1:=zC hp1.next l.length [] (by omega) (by have:=qx (n:=l.length) (by omega);simp;omega) (hp1.new (Wc [])) (qz _ _)
 rw[jC,List.nil_append]at u1
 have u2:=zW hp1.next (uv l.length) (zY (qt l):Nat) (by have:=qx (n:=l.length) (by omega);omega) (hp1.new (Wc (uv l.length))) (qz _ _)
 rw[jC]at u2
 have BW2:∀x,BW (hp1.new x) hp.next nb1 (jz (qt l)):=fun x=>a2.fr (Fm.new [] hp1 x) (by simp) (by simp)
 obtain⟨t1,hp2,v1,v2⟩:=vY hp.next nb1 (jz (qt l)) (hp1.new (Wc (uv l.length++[(zY (qt l):Int)]))) (by unfold jz;omega) (BW2 _)
 have r2:hp2.rd hp1.next 0=some (Wc (uv l.length++[(zY (qt l):Int)])):=by rw[v2.rd (by simp) (by simp),qz]
 have hL:=qx (n:=l.length) (by omega)
 have hL2:=qx (n:=(pk (jz (qt l))).length) (by omega)
 have u3:=zC hp1.next (pk (jz (qt l))).length (uv l.length++[(zY (qt l):Int)]) (by omega) (by simp only[List.length_append,List.length_singleton];omega) hp2 r2
 have BW3:=((BW2 _).fr v2 (by simp) (by simp)).fr (Fm.put (X:=[hp1.next]) hp2 hp1.next (Wc (uv l.length++[(zY (qt l):Int)]++uv (pk (jz (qt l))).length)) (by simp)) (by simp;omega) (by
  simp
  have:=a2.2.2.1
  by_cases hb:jz (qt l)=[]
  ·have:=a2.2.1 hb;omega
  ·have:=(a2.2.2.1 hb).1;omega)
 obtain⟨t2,hp3,x1,x2⟩:=vY hp.next nb1 (jz (qt l)) _ (by unfold jz;omega) BW3
 have r3:hp3.rd hp1.next 0=some (Wc (uv l.length++[(zY (qt l):Int)]++uv (pk (jz (qt l))).length)):=by
  rw[x2.rd (by have:=v2.1;simp at this⊢;omega) (by simp),qi]
 have u4:=vC hp1.next (uv l.length++[(zY (qt l):Int)]++uv (pk (jz (qt l))).length) (pk (jz (qt l))) (rk t2) (by simp only[List.length_append,List.length_singleton];omega) hp3 r3
 have u5:=Zs hp1.next (yc l) (by unfold yc;simp only[List.length_append,List.length_singleton];omega) (hp3.put hp1.next 0 (Wc (yc l))) (qi _ _ _)
 refine⟨1,hp3.put hp1.next 0 (Wc (yc l)),?_,?_⟩
 ·have w3:IntKind.u8.wrap ((zY (qt l):Nat):Int)=((zY (qt l):Nat):Int):=qT (by omega) (by omega)
  have w4:IntKind.u64.wrap ((l.length:Nat):Int)=((l.length:Nat):Int):=qn (by omega) (by omega)
  have w6:IntKind.u64.wrap (((pk (jz (qt l))).length:Nat):Int)=(((pk (jz (qt l))).length:Nat):Int):=qn (by omega) (by omega)
  have w7:IntKind.u64.wrap ((((pk (jz (qt l))).length:Nat):Int))=(((pk (jz (qt l))).length:Nat):Int):=w6
  have e0:¬((l.length:Int)<(l.length:Int)):=by omega
  have ey:uv l.length++[((zY (qt l):Nat):Int)]++uv (pk (jz (qt l))).length++pk (jz (qt l))=yc l:=rfl
  rw[ey]at u4
  rw[E34]
  simp only[Int.natCast_zero]at a1
  generalize zY (qt l)=kk at*
  generalize pk (jz (qt l))=pb at*
  generalize yc l=Y at*
  generalize uv l.length=Z at*
  generalize uv pb.length=Z2 at*
  generalize Z++[(kk:Int)]++Z2=Q at*
  generalize Z++[(kk:Int)]=Q1 at*
  have b7:B34_7 (S k 1 (LI .u64 (nz l))) (.int .i64 (kk:Int)) (.ptr hp.next 0 0) (.int .i64 (l.length:Int)) (.int .i64 (l.length:Int)) hp1=some (.tup [S 1 1 (LI .u8 Y),.sc (.int .i64 0)],hp3.put hp1.next 0 (Wc Y)):=by
   rw[qii]
   have wc0:Wc []=[S 2 1 []]:=rfl
   rw[wc0]at u1
   simp[w3,w4,w6,u1,u2,v1,u3,x1,u4,u5]
  rw[<-a1]at b7
  simp[rc,pr,b7]
 ·refine⟨by have:=v2.1;have:=x2.1;simp at *;omega,fun c hc _=>?_⟩
  have h1:c≠hp1.next:=by omega
  have hv:=v2.1
  have hx:=x2.1
  simp at hv hx
  have e1:(hp3.put hp1.next 0 (Wc (yc l))).get c=hp3.get c:=by simp[Hp.put,h1]
  rw[e1,x2.2 c (by simp;omega) (by simp)]
  have e2:∀x,(hp2.put hp1.next 0 x).get c=hp2.get c:=by intro x;simp[Hp.put,h1]
  rw[e2,v2.2 c (by simp;omega) (by simp)]
  have e3:∀x,(hp1.new x).get c=hp1.get c:=by intro x;simp[Hp.new,h1]
  rw[e3,wN c hc]
def jc:List Nat->Prop
 |[]=>True
 |[_]=>True
 |x::y::r=>x<=y/\jc (y::r)
def Xc(n last:Nat):Nat->Nat->Nat
 |0,k=>k
 |f+1,k=>if 0<n/\n<=last/2^(k+1)then Xc n last f (k+1)else k
def Kk(n last:Nat):Nat:=Xc n last 33 0
def qY(k:Nat):List Nat->List Bool
 |[]=>[]
 |x::r=>xE x k++qY k r
def qC(k w:Nat):List Nat->List Bool
 |[]=>[]
 |x::r=>una (x/2^k-w)++qC k (x/2^k) r
def qA(l:List Nat):Nat:=l.getD (l.length-1) 0
def qy(l:List Nat):Nat:=Kk l.length (qA l)
def yS(l:List Nat):List Int:=uv l.length++uv (qA l)++pk (qY (qy l) l)++uv (pk (qC (qy l) 0 l)).length++pk (qC (qy l) 0 l)
@[simp] theorem QP (k : Nat) (l : List Nat) : (qY k l).length = l.length * k := by
 induction l with
 |nil=>simp[qY]
 |cons x r ih=>simp[qY,ih,Nat.add_mul];omega
theorem za4(n last:Nat)(hn:0<n)(hl:last<4294967296):∀(f k:Nat),k+f=33->Xc n last f k<=33/\last/2^(Xc n last f k+1)<n:=by
 intro f
 induction f with
 |zero=>
  intro k h
  have e:k=33:=by omega
  subst e
  refine⟨Nat.le_refl _,?_⟩
  show last/2^34<n
  have:last/2^34=0:=Nat.div_eq_of_lt (Nat.lt_of_lt_of_le hl (by decide))
  omega
 |succ f ih=>
  intro k h
  unfold Xc
  split
  ·exact ih (k+1) (by omega)
  ·rename_i h1
   refine⟨by omega,?_⟩
   by_cases h2:n<=last/2^(k+1)
   ·exact absurd ⟨hn,h2⟩ h1
   ·omega
theorem za5(n last:Nat)(hl:last<4294967296):∀(f k:Nat),k<=32->Xc n last f k<=32:=by
 intro f
 induction f with
 |zero=>intro k h;exact h
 |succ f ih=>
  intro k h
  unfold Xc
  split
  ·rename_i h1
   apply ih
   by_cases h2:k=32
   ·subst h2
    have:last/2^33=0:=Nat.div_eq_of_lt (Nat.lt_of_lt_of_le hl (by decide))
    have h3:=h1.2
    have e:(32:Nat)+1=33:=rfl
    rw[e,this]at h3
    omega
   ·omega
  ·exact h
theorem qmv(n last:Nat)(hl:last<4294967296):Kk n last<=32:=za5 n last hl 33 0 (by omega)
theorem Jr{n last:Nat}(hn:0<n)(hl:last<4294967296):last/2^Kk n last<2*n:=by
 have h:=(za4 n last hn hl 33 0 rfl).2
 have e:last/2^(Kk n last+1)=last/2^Kk n last/2:=by rw[Nat.pow_succ,Nat.div_div_eq_div_mul]
 have h':last/2^(Kk n last+1)<n:=h
 omega
theorem ZB(x y:Nat)(r:List Nat):qA (x::y::r)=qA (y::r):=rfl
theorem qp6(k:Nat):∀(l:List Nat) (p:Nat),jc (p::l)->(qC k (p/2^k) l).length+p/2^k=l.length+qA (p::l)/2^k:=by
 intro l
 induction l with
 |nil=>intro p _;simp[qC,qA]
 |cons x r ih=>
  intro p h
  have hi:=ih x h.2
  have hd:p/2^k<=x/2^k:=Nat.div_le_div_right h.1
  rw[ZB]
  simp only[qC,List.length_append,ZW,List.length_cons]
  omega
theorem jS:∀{l:List Nat},jc l->jc (0::l):=by
 intro l h
 cases l with
 |nil=>trivial
 |cons x r=>exact⟨Nat.zero_le _,h⟩
theorem Km(k:Nat)(l:List Nat)(h:jc l):(qC k 0 l).length=l.length+qA l/2^k:=by
 have h1:=qp6 k l 0 (jS h)
 rw[Nat.zero_div,Nat.add_zero]at h1
 rw[h1]
 cases l with
 |nil=>rfl
 |cons x r=>rw[ZB]
theorem yh(K:IntKind)(x k:Nat)(hk:k<=K.bits)(t:TypeId)(o o':Operand)(K':IntKind):qr Tryz.prog .shr t o o' (.int K (x:Int)) (.int K' (k:Int))=some (.int K ((x/2^k:Nat):Int)):=by
 rw[js _ _ _ _ _ _ _ _ (by omega),Int.toNat_natCast,Nat.min_eq_left hk,Int.fdiv_eq_ediv_of_nonneg _ (Int.le_of_lt (Int.pow_pos (by omega)))]
 simp
theorem qkn(n last:Nat)(hn:n<=1000000)(hl:last<4294967296)(hp:Hp):∀(f k:Nat),k+f=33->k<=32->B91_2 (.int .i64 (n:Int)) (.int .u32 (last:Int)) (.int .i64 (k:Int)) hp=some (.sc (.int .i64 (Xc n last f k:Nat)),hp):=by
 intro f
 induction f with
 |zero=>intro k h h2;omega
 |succ f ih=>
  intro k h h2
  have w1:IntKind.u64.wrap (last:Int)=(last:Int):=qn (by omega) (by omega)
  have w2:IntKind.i64.wrap ((k:Int)+1)=((k+1:Nat):Int):=by rw[qf]<;>omega
  have w3:IntKind.u64.wrap (n:Int)=(n:Int):=qn (by omega) (by omega)
  have sh:=fun t o o'=>yh .u64 last (k+1) (by show k+1<=64;omega) t o o' .i64
  have b4:∀v,B91_4 v hp=some (.sc v,hp):=fun v=>by rw[qx7]
  rw[qx9]
  unfold Xc
  by_cases h0:0<n
  ·have h0':(n:Int)>0:=by omega
   by_cases h1:n<=last/2^(k+1)
   ·by_cases hk:k=32
    ·subst hk
     have:last/2^33=0:=Nat.div_eq_of_lt (Nat.lt_of_lt_of_le hl (by decide))
     have e:(32:Nat)+1=33:=rfl
     rw[e,this]at h1
     omega
    ·have hi:=ih (k+1) (by omega) (by omega)
     have h1':((last/2^(k+1):Nat):Int)>=(n:Int):=by omega
     rw[if_pos ⟨h0,h1⟩]
     generalize((last/2^(k+1):Nat):Int)=q at*
     generalize((k+1:Nat):Int)=k1 at*
     simp[h0,zJ,w1,w2,sh,xj,w3,h1',qx8,hi]
   ·have h1':¬(((last/2^(k+1):Nat):Int)>=(n:Int)):=by omega
    rw[if_neg (fun c=>h1 c.2)]
    generalize((last/2^(k+1):Nat):Int)=q at*
    generalize((k+1:Nat):Int)=k1 at*
    have h1'':¬((n:Int)<=q):=h1'
    simp[h0,zJ,w1,w2,sh,xj,w3,h1'',b4]
  ·have h0':¬((n:Int)>0):=by omega
   rw[if_neg (fun c=>h0 c.1)]
   simp[h0,b4]
theorem Wf(n last:Nat)(hn:n<=1000000)(hl:last<4294967296)(hp:Hp):run cxX 91 [.sc (.int .i64 (n:Int)),.sc (.int .u32 (last:Int))] hp=some (.sc (.int .i64 (Kk n last:Nat)),hp):=by
 have h:=qkn n last hn hl hp 33 0 rfl (by omega)
 rw[E91]
 simp at h
 simp[h,Kk]
theorem qkd:∀(l:List Nat),jc l->∀i,i+1<l.length->l.getD i 0<=l.getD (i+1) 0:=by
 intro l
 induction l with
 |nil=>intro _ i h;simp at h
 |cons x r ih=>
  intro hr i h
  cases r with
  |nil=>simp at h
  |cons y r=>
   cases i with
   |zero=>exact hr.1
   |succ i=>exact ih hr.2 i (by simpa using h)
theorem BW.lt{hp:Hp}{w nb:Nat}{bs:List Bool}(h:BW hp w nb bs):nb<hp.next:=by
 by_cases hb:bs=[]
 ·rw[h.2.1 hb];exact h.1
 ·exact(h.2.2.1 hb).1
def W2(h0:Nat)(hp:Hp)(w1 n1:Nat)(b1:List Bool)(w2 n2:Nat)(b2:List Bool):Prop:=
 BW hp w1 n1 b1/\BW hp w2 n2 b2/\w1≠w2/\n1≠w2/\n1≠n2/\w1≠n2/\h0<=w1/\h0<=w2/\h0<=n1/\h0<=n2
theorem W2.one{h0:Nat}{hp hp':Hp}{w1 n1 n1' w2 n2:Nat}{b1 b2 b1':List Bool}(h:W2 h0 hp w1 n1 b1 w2 n2 b2)(s:BS hp w1 n1 hp' n1' b1'):W2 h0 hp' w1 n1' b1' w2 n2 b2/\∀c,c<h0->hp'.get c=hp.get c:=by
 obtain⟨a1,a2,d1,d2,d3,d4,e1,e2,e3,e4⟩:=h
 obtain⟨s1,s2,s3⟩:=s
 have l1:=a1.lt
 have l2:=a2.lt
 have l3:=a2.1
 have l4:=a1.1
 refine⟨⟨s1,a2.fr s2 (by simp;omega) (by simp;omega),d1,by omega,by omega,d4,e1,e2,by omega,e4⟩,fun c hc=>s2.2 c (by omega) (by simp;omega)⟩
theorem W2.two{h0:Nat}{hp hp':Hp}{w1 n1 n2' w2 n2:Nat}{b1 b2 b2':List Bool}(h:W2 h0 hp w1 n1 b1 w2 n2 b2)(s:BS hp w2 n2 hp' n2' b2'):W2 h0 hp' w1 n1 b1 w2 n2' b2'/\∀c,c<h0->hp'.get c=hp.get c:=by
 obtain⟨a1,a2,d1,d2,d3,d4,e1,e2,e3,e4⟩:=h
 obtain⟨s1,s2,s3⟩:=s
 have l1:=a1.lt
 have l2:=a2.lt
 have l3:=a2.1
 have l4:=a1.1
 refine⟨⟨a1.fr s2 (by simp;omega) (by simp;omega),s1,d1,d2,by omega,by omega,e1,e2,e3,by omega⟩,fun c hc=>s2.2 c (by omega) (by simp;omega)⟩
theorem qm7{l:List Nat}(h32:∀x∈l,x<4294967296)(i:Nat)(hi:i<l.length):l.getD i 0<4294967296:=by
 rw[List.getD_eq_getElem?_getD,List.getElem?_eq_getElem hi]
 exact h32 _ (List.getElem_mem _)
section
variable (l:List Nat)(k k':Nat)(hl:l.length<=4096)(h32:∀x∈l,x<4294967296)(hr:jc l)
include hl h32 hr
theorem qw4(kk w1 w2 h0:Nat)(hkk:kk<=32)(hq:qA l/2^kk<2*4096)(c0 c1:AV)(cs:List AV)(b2:List AV):∀(r:List Nat) (i p n1 n2:Nat) (bs1 bs2:List Bool) (hp:Hp),l.drop i=r->i+r.length=l.length->jc (p::r)->
 (i=0->p=0)->bs1.length+r.length*32<1000000->bs2.length+(qC kk (p/2^kk) r).length<1000000->W2 h0 hp w1 n1 bs1 w2 n2 bs2->
 ∃hp' n1' n2' v,B38_11 (S k 1 (LI .u32 (nz l))) (.ptr w1 0 0) (.ptr w2 0 0) (.int .u32 ((p/2^kk:Nat):Int)) (S k' 1 (LI .u32 (nz l))) (.int .i64 (l.length:Int)) (.int .i64 (i:Int)) b2 (c0::c1::.sc (.int .i64 (kk:Int))::cs) hp=
  B38_11 (S k 1 (LI .u32 (nz l))) (.ptr w1 0 0) (.ptr w2 0 0) v (S k' 1 (LI .u32 (nz l))) (.int .i64 (l.length:Int)) (.int .i64 (l.length:Int)) b2 (c0::c1::.sc (.int .i64 (kk:Int))::cs) hp'/\
  W2 h0 hp' w1 n1' (bs1++qY kk r) w2 n2' (bs2++qC kk (p/2^kk) r)/\(hp.next<=hp'.next/\∀c,c<h0->hp'.get c=hp.get c):=by
 intro r
 induction r with
 |nil=>
  intro i p n1 n2 bs1 bs2 hp h hil hpr hi0 hb1 hb2 hw
  have e:i=l.length:=by simpa using hil
  rw[e]
  exact⟨hp,n1,n2,_,rfl,by simpa[qY,qC]using hw,Nat.le_refl _,fun _ _=>rfl⟩
 |cons x r ih=>
  intro i p n1 n2 bs1 bs2 hp h hil hpr hi0 hb1 hb2 hw
  obtain⟨e1,e2,hi,e3⟩:=qm h
  simp only[List.length_cons]at hb1 hil
  have hlt:(i:Int)<(l.length:Int):=by omega
  have ai:=yT .u32 l i hi
  have ex:l.getD i 0=x:=by rw[List.getD_eq_getElem?_getD,e1];rfl
  have hx:x<4294967296:=by rw[<-ex];exact qm7 h32 i hi
  rw[ex]at ai
  have hd:p/2^kk<=x/2^kk:=Nat.div_le_div_right hpr.1
  have hxq:x/2^kk<=x:=Nat.div_le_self _ _
  have sh:=fun t o o'=>yh .u32 x kk (by show kk<=32;omega) t o o' .i64
  have hh:(qC kk (p/2^kk) (x::r)).length=(x/2^kk-p/2^kk)+1+(qC kk (x/2^kk) r).length:=by simp[qC]
  rw[hh]at hb2
  have w1':IntKind.u64.wrap (x:Int)=(x:Int):=qn (by omega) (by omega)
  have w2':IntKind.u32.wrap (((x/2^kk:Nat):Int)-((p/2^kk:Nat):Int))=((x/2^kk-p/2^kk:Nat):Int):=by rw[qD]<;>omega
  have w3':IntKind.i64.wrap ((x/2^kk-p/2^kk:Nat):Int)=((x/2^kk-p/2^kk:Nat):Int):=qf (by omega) (by omega)
  have w5:IntKind.i64.wrap ((i:Int)+1)=((i+1:Nat):Int):=by rw[qf]<;>omega
  obtain⟨hp1,m1,a1,a2⟩:=Ji w1 n1 x kk bs1 hp (by omega) (by omega) (by omega) hw.1
  obtain⟨hw1,hg1⟩:=hw.one a2
  obtain⟨hp2,m2,b1,b3⟩:=VX w2 n2 (x/2^kk-p/2^kk) bs2 hp1 (by omega) hw1.2.1
  obtain⟨hw2,hg2⟩:=hw1.two b3
  obtain⟨hp3,m3,m4,v,r1,c2,c3⟩:=ih (i+1) x m1 m2 (bs1++xE x kk) (bs2++una (x/2^kk-p/2^kk)) hp2 e2 (by omega) hpr.2 (by omega) (by simp;omega) (by simp;omega) hw2
  have f1:=a2.2.1.1
  have f2:=b3.2.1.1
  refine⟨hp3,m3,m4,v,?_,?_,by omega,fun c hc=>by rw[c3.2 c hc,hg2 c hc,hg1 c hc]⟩
  ·have b15:B38_15 (S k 1 (LI .u32 (nz l))) (.ptr w1 0 0) (.ptr w2 0 0) (.int .u32 ((p/2^kk:Nat):Int)) (.int .u32 (x:Int)) (S k' 1 (LI .u32 (nz l))) (.int .i64 (l.length:Int)) (.int .i64 (i:Int)) b2 (c0::c1::.sc (.int .i64 (kk:Int))::cs) hp=
    B38_11 (S k 1 (LI .u32 (nz l))) (.ptr w1 0 0) (.ptr w2 0 0) v (S k' 1 (LI .u32 (nz l))) (.int .i64 (l.length:Int)) (.int .i64 (l.length:Int)) b2 (c0::c1::.sc (.int .i64 (kk:Int))::cs) hp3:=by
    rw[<-r1,qrm]
    generalize((x/2^kk-p/2^kk:Nat):Int)=d at*
    generalize((i+1:Nat):Int)=I at*
    generalize((p/2^kk:Nat):Int)=P at*
    generalize((x/2^kk:Nat):Int)=X at*
    have gs:∀(a b:AV) (v:Value) (c:List AV),qe (a::b::.sc v::c) 2=some v:=fun _ _ _ _=>rfl
    simp[gs,zJ,w1',a1,sh,w2',yO,w3',b1,w5]
   rw[qar,<-b15]
   have g1:(0:Int)<=(i:Int):=by omega
   have gs0:∀(v:Value),qe [.sc v] 0=some v:=fun _=>rfl
   by_cases hi1:i=0
   ·have hi2:(0<i)=False:=by simp[hi1]
    have hi4:(i<l.length)=True:=by simp[hi]
    clear hi1
    generalize((p/2^kk:Nat):Int)=P at*
    have en:∀h,(nz l)[i]'h=(x:Int):=fun h=>by simp[nz,e3]
    simp[hi4,ai,gs0,hi2,en]
   ·have aj:=yT .u32 l (i-1) (by omega)
    have hle:=qkd l hr (i-1) (by omega)
    have e:i-1+1=i:=by omega
    rw[e,ex]at hle
    have w9:IntKind.i64.wrap ((i:Int)-1)=((i-1:Nat):Int):=by rw[qf]<;>omega
    have hi2:0<i:=by omega
    have g0:(0:Int)<=((i-1:Nat):Int):=by omega
    generalize l.getD (i-1) 0=y at*
    have hle':¬((x:Int)<(y:Int)):=by omega
    have aj':(LI .u32 (nz l))[(((i-1:Nat):Int)).toNat]?=some (.sc (.int .u32 (y:Int))):=by rw[Int.toNat_natCast];exact aj
    generalize((i-1:Nat):Int)=j at*
    generalize((p/2^kk:Nat):Int)=P at*
    simp[hlt,ai,gs0,hi2,w9,aj',g0,hle']
  ·have q1:bs1++qY kk (x::r)=bs1++xE x kk++qY kk r:=by simp[qY]
   have q2:bs2++qC kk (p/2^kk) (x::r)=bs2++una (x/2^kk-p/2^kk)++qC kk (x/2^kk) r:=by simp[qC]
   rw[q1,q2]
   exact c2
end
def wZ(l:List Nat)(t1 t2:Nat):AV:=.agg [.sc (.int .i64 (l.length:Nat)),.sc (.int .u32 (qA l:Nat)),.sc (.int .i64 (qy l:Nat)),S t1 1 (LI .u8 (pk (qY (qy l) l))),S t2 1 (LI .u8 (pk (qC (qy l) 0 l)))]
theorem qw9:qy []=0:=rfl
section
variable (l:List Nat)(k:Nat)(hl:l.length<=4096)(h32:∀x∈l,x<4294967296)(hr:jc l)
include hl h32 hr
theorem kP(hne:l≠[]):qy l<=32/\qA l<4294967296/\(qC (qy l) 0 l).length<=3*4096:=by
 have hpos:=List.length_pos_iff.mpr hne
 have hlast:qA l<4294967296:=qm7 h32 _ (by omega)
 have h1:=qmv l.length (qA l) hlast
 have h2:=Jr hpos hlast
 have h3:=Km (qy l) l hr
 have h4:qy l=Kk l.length (qA l):=rfl
 rw[h4]at h3⊢
 exact⟨h1,hlast,by omega⟩
theorem qmd(hp:Hp):∃t1 t2 hp',run cxX 38 [S k 1 (LI .u32 (nz l))] hp=some (.tup [wZ l t1 t2,.sc (.int .i64 0)],hp')/\Fm [] hp hp':=by
 by_cases hne:l=[]
 ·subst hne
  refine⟨2,2,hp,?_,Fm.refl _ _⟩
  rw[E38]
  simp[wZ,qw9,nz,LI,qY,qC,qvd,qA]
 ·obtain⟨k32,hlast,hhb⟩:=kP l hl h32 hr hne
  have hpos:=List.length_pos_iff.mpr hne
  have hlow:=Wf l.length (qA l) (by omega) hlast hp0
  have e4:Kk l.length (qA l)=qy l:=rfl
  rw[e4]at hlow
  have hq:=Jr hpos hlast
  rw[e4]at hq
  have w1:IntKind.i64.wrap ((l.length:Int)-1)=((l.length-1:Nat):Int):=by rw[qf]<;>omega
  have al:=yT .u32 l (l.length-1) (by omega)
  have e5:l.getD (l.length-1) 0=qA l:=rfl
  rw[e5]at al
  let hpA:=(hp.new [S 2 1 [],.sc (.int .i64 0)]).new [S 2 1 [],.sc (.int .i64 0)]
  have b1:BW hpA hp.next hp.next []:=(BW.new hp).fr (Fm.new [] _ _) (by simp) (by simp)
  have b2:BW hpA (hp.next+1) (hp.next+1) []:=BW.new (hp.new [S 2 1 [],.sc (.int .i64 0)])
  have hw:W2 hp.next hpA hp.next hp.next [] (hp.next+1) (hp.next+1) []:=⟨b1,b2,by omega,by omega,by omega,by omega,by omega,by omega,by omega,by omega⟩
  have hnA:hpA.next=hp.next+1+1:=rfl
  obtain⟨hp1,n1,n2,v,c1,c2,c3⟩:=qw4 l k (rk k) hl h32 hr (qy l) hp.next (hp.next+1) hp.next k32 (by omega) (.sc (.int .i64 (l.length:Int))) (.sc (.int .u32 (qA l:Nat))) [S 2 1 [],S 2 1 []]
   [.sc (.int .i64 0),.sc (.int .u32 0),.sc (.int .i64 0),S 2 1 [],S 2 1 []] l 0 0 hp.next (hp.next+1) [] [] hpA rfl (by simp) (jS hr) (fun _=>rfl) (by simp;omega) (by rw[Nat.zero_div];simp;omega) hw
  simp only[Nat.zero_div,List.nil_append]at c1 c2
  obtain⟨t1,hp2,d1,d2⟩:=vY hp.next n1 (qY (qy l) l) hp1 (by simp;have:l.length*qy l<=4096*32:=Nat.mul_le_mul hl k32;omega) c2.1
  obtain⟨t2,hp3,f1,f2⟩:=vY (hp.next+1) n2 (qC (qy l) 0 l) hp2 (by omega) (c2.2.1.fr d2 (by simp) (by simp))
  have hnx:hp.next<=hp3.next:=by have:=d2.1;have:=f2.1;have:=c3.1;omega
  refine⟨t1,t2,hp3,?_,hnx,fun c hc _=>?_⟩
  ·have b11:B38_11 (S k 1 (LI .u32 (nz l))) (.ptr hp.next 0 0) (.ptr (hp.next+1) 0 0) v (S (rk k) 1 (LI .u32 (nz l))) (.int .i64 (l.length:Int)) (.int .i64 (l.length:Int))
    [.sc (.int .i64 0),.sc (.int .u32 0),.sc (.int .i64 0),S 2 1 [],S 2 1 []] [.sc (.int .i64 (l.length:Int)),.sc (.int .u32 (qA l:Nat)),.sc (.int .i64 (qy l:Nat)),S 2 1 [],S 2 1 []] hp1=some (.tup [wZ l t1 t2,.sc (.int .i64 0)],hp3):=by
    rw[qar]
    unfold wZ
    generalize pk (qY (qy l) l)=A at*
    generalize pk (qC (qy l) 0 l)=B at*
    simp[d1,f1,qh,ql]
   rw[<-c1]at b11
   have h1:¬((l.length:Int)>4096):=by omega
   have h2:¬((l.length:Int)=0):=by omega
   have g0:(0:Int)<=((l.length-1:Nat):Int):=by omega
   have al':(nz l)[(((l.length-1:Nat):Int)).toNat]?=some ((qA l:Nat):Int):=by
    rw[Int.toNat_natCast];unfold nz qA
    rw[List.getElem?_map,List.getD_eq_getElem?_getD,List.getElem?_eq_getElem (by omega)];rfl
   have gs0:∀(v:Value),qe [.sc v] 0=some v:=fun _=>rfl
   have gs1:∀(x:AV) (v:Value) (r:List AV),qe (x::.sc v::r) 1=some v:=fun _ _ _=>rfl
   have h1':¬((4096:Int)<(l.length:Int)):=by omega
   rw[E38]
   generalize((l.length-1:Nat):Int)=j at*
   generalize wZ l t1 t2=FR at*
   simp at b11
   simp[h1',hne,w1,al',g0,gs0,gs1,hlow]
   exact b11
  ·rw[f2.2 c (by have:=d2.1;have:=c3.1;omega) (by simp),d2.2 c (by have:=c3.1;omega) (by simp),c3.2 c hc]
   show((hp.new _).new _).get c=_
   have e1:c≠hp.next:=by omega
   have e2:c≠hp.next+1:=by omega
   simp[Hp.new,e1,e2]
theorem quk(w t1 t2:Nat)(Z:List Int)(hZ:Z.length+(yS l).length<=1000000)(hp:Hp)(h:hp.rd w 0=some (Wc Z)):
 run cxX 39 [wZ l t1 t2,.ptr w 0 0] hp=some (.tup [],hp.put w 0 (Wc (Z++yS l))):=by
 have hlast:qA l<4294967296:=by
  by_cases hne:l=[]
  ·subst hne;show(0:Nat)<_;omega
  ·exact(kP l hl h32 hr hne).2.1
 unfold wZ
 have eY:yS l=uv l.length++uv (qA l)++pk (qY (qy l) l)++uv (pk (qC (qy l) 0 l)).length++pk (qC (qy l) 0 l):=rfl
 rw[eY]at hZ⊢
 generalize pk (qY (qy l) l)=A at*
 generalize pk (qC (qy l) 0 l)=B at*
 simp only[List.length_append]at hZ
 have u1:=zC w l.length Z (by omega) (by omega) hp h
 have u2:=zC w (qA l) (Z++uv l.length) (by omega) (by simp only[List.length_append];omega) _ (qi hp w (Wc (Z++uv l.length)))
 rw[qp]at u2
 have u3:=vC w (Z++uv l.length++uv (qA l)) A (rk t1) (by simp only[List.length_append];omega) _ (qi hp w _)
 rw[qp]at u3
 have u4:=zC w B.length (Z++uv l.length++uv (qA l)++A) (by omega) (by simp only[List.length_append];omega) _ (qi hp w _)
 rw[qp]at u4
 have u5:=vC w (Z++uv l.length++uv (qA l)++A++uv B.length) B (rk t2) (by simp only[List.length_append];omega) _ (qi hp w _)
 rw[qp]at u5
 have w1:IntKind.u64.wrap (l.length:Int)=(l.length:Int):=qn (by omega) (by omega)
 have w2:IntKind.u64.wrap ((qA l:Nat):Int)=((qA l:Nat):Int):=qn (by omega) (by omega)
 have w3:IntKind.u64.wrap (B.length:Int)=(B.length:Int):=qn (by omega) (by omega)
 have eZ:Z++(uv l.length++uv (qA l)++A++uv B.length++B)=Z++uv l.length++uv (qA l)++A++uv B.length++B:=by simp only[List.append_assoc]
 rw[eZ]
 generalize Z++uv l.length++uv (qA l)++A++uv B.length++B=Z5 at*
 generalize Z++uv l.length++uv (qA l)++A++uv B.length=Z4 at*
 generalize Z++uv l.length++uv (qA l)++A=Z3 at*
 generalize Z++uv l.length++uv (qA l)=Z2 at*
 generalize Z++uv l.length=Z1 at*
 have gs1:∀(x:AV) (v:Value) (r:List AV),qe (x::.sc v::r) 1=some v:=fun _ _ _=>rfl
 have gs0:∀(v:Value) (r:List AV),qe (.sc v::r) 0=some v:=fun _ _=>rfl
 rw[E39]
 simp[gs0,gs1,qj,xj,w1,u1,zJ,w2,u2,u3,w3,u4,u5]
end
theorem yb(K:IntKind)(l:List Int)(k:Nat)(hk:k=1\/k=2)(b:Nat)(hb:0<b/\b<=1000)(k':Nat)(m:List Int)(h:l.length+m.length<=100000000):zZ b 1 (S k 1 (LI K l)) (S k' 1 (LI K m))=some (S k 1 (LI K (l++m))):=by
 rw[ZP b 1 k _ _ k' hk (Kw _ _) (.inr (yo hb.1 ?_))]
 ·simp[LI]
 ·simp only[vy]
  have:(l.length+m.length)*b<=100000000*1000:=Nat.mul_le_mul h hb.2
  omega
theorem qhc(K:IntKind)(l:List Int)(k:Nat)(hk:k=1\/k=2)(b:Nat)(hb:0<b/\b<=1000)(n:Int)(h:l.length<100000000):zZ b 1 (S k 1 (LI K l)) (S 1 1 [.sc (.int K n)])=some (S k 1 (LI K (l++[n]))):=
 yb K l k hk b hb 1 [n] (by simp;omega)
theorem qo6:∀(n:Nat) (l:List Int) (hp:Hp),n<18446744073709551616->l.length+(uv n).length<=1000->
 B110_2 (.int .u64 (n:Int)) (S 2 1 (LI .u8 l)) hp=some (S 2 1 (LI .u8 (l++uv n)),hp):=by
 intro n
 induction n using Nat.strongRecOn with
 |_ n ih=>
  intro l hp hn hl
  rw[qsz]
  by_cases h1:n<128
  ·rw[ZV h1]at hl⊢
   have hge:¬((128:Int)<=(n:Int)):=by omega
   have w:IntKind.u8.wrap (n:Int)=(n:Int):=qT (by omega) (by omega)
   have ap:=ZO .u8 l 2 (.inr rfl) 1 (by decide) n (by simp at hl;omega)
   simp[hge,w,ap]
  ·rw[Xz h1]at hl⊢
   have hge:(128:Int)<=(n:Int):=by omega
   have r:=Xh n 128 (by decide)
   have q:=Jn n 128 (by decide) hn
   have w0:IntKind.u64.wrap (((n%128:Nat):Int)+128)=((n%128+128:Nat):Int):=by rw[qn]<;>omega
   have w:IntKind.u8.wrap ((n%128+128:Nat):Int)=((n%128+128:Nat):Int):=qT (by omega) (by omega)
   have ap:=ZO .u8 l 2 (.inr rfl) 1 (by decide) ((n%128+128:Nat):Int) (by simp at hl;omega)
   have ih':=ih (n/128) (by omega) (l++[((n%128+128:Nat):Int)]) hp (by omega) (by simp at hl⊢;omega)
   generalize((n%128+128:Nat):Int)=c at*
   generalize((n/128:Nat):Int)=d at*
   generalize((n%128:Nat):Int)=e at*
   simp only[Int.cast_ofNat_Int]at r q
   simp[hge,r,q,w0,w,ap,ih']
theorem jb(n:Nat)(hn:n<18446744073709551616)(hp:Hp):run cxX 110 [.sc (.int .u64 (n:Int))] hp=some (S 2 1 (LI .u8 (uv n)),hp):=by
 have h:=qo6 n [] hp hn (by have:=qx hn;simp;omega)
 rw[E110]
 simpa using h
theorem qt9(n:Int)(hn:-9223372036854775808<=n/\n<9223372036854775808)(hp:Hp):run cxX 114 [.sc (.int .i64 n)] hp=some (S 2 1 (LI .u8 (uv (zz n))),hp):=by
 have u:=jb (zz n) (qdz hn.1 hn.2) hp0
 rw[E114]
 by_cases h0:n<0
 ·have w1:IntKind.i64.wrap (n+1)=n+1:=qf (by omega) (by omega)
  have w2:IntKind.i64.wrap (0-(n+1))=0-(n+1):=qf (by omega) (by omega)
  have w3:IntKind.u64.wrap (0-(n+1))=0-(n+1):=qn (by omega) (by omega)
  have w4:IntKind.u64.wrap ((0-(n+1))*2)=(0-(n+1))*2:=qn (by omega) (by omega)
  have w5:IntKind.u64.wrap ((0-(n+1))*2+1)=((zz n:Nat):Int):=by rw[qn (by omega) (by omega)];unfold zz;rw[if_pos h0];omega
  have un:=ql5 Tryz.prog (n+1)
  rw[w2]at un
  generalize 0-(n+1)=y at*
  generalize zz n=z at*
  simp[h0,w1,un,w3,w4,w5,u]
 ·have w3:IntKind.u64.wrap n=n:=qn (by omega) (by omega)
  have w4:IntKind.u64.wrap (n*2)=((zz n:Nat):Int):=by rw[qn (by omega) (by omega)];unfold zz;rw[if_neg h0];omega
  generalize zz n=z at*
  simp[h0,w3,w4,u]
def ub(l:List Bool):List Int:=l.map fun b=>cond b 1 0
@[simp] theorem zda (l : List Bool) : (ub l).length = l.length := by simp [ub]
@[simp] theorem qcc (l m : List Bool) : ub (l ++ m) = ub l ++ ub m := by simp [ub]
theorem qjy(n:Nat)(hn:n<=1000000)(hp:Hp):∀(f i:Nat),i+f=n->
 B159_3 (.int .i64 (n:Int)) (S 2 1 (LI .u8 (List.replicate i 1))) (.int .i64 (i:Int)) hp=some (S 2 1 (LI .u8 (ub (una n))),hp):=by
 intro f
 induction f with
 |zero=>
  intro i h
  have e:i=n:=by omega
  subst e
  have ap:=qhc .u8 (List.replicate i 1) 2 (.inr rfl) 1 (by decide) 0 (by simp;omega)
  have e2:ub (una i)=List.replicate i 1++[0]:=by simp[ub,una]
  rw[qba,e2]
  generalize List.replicate i (1:Int)=l at*
  simp[ap]
 |succ f ih=>
  intro i h
  have hlt:(i:Int)<(n:Int):=by omega
  have ap:=qhc .u8 (List.replicate i 1) 2 (.inr rfl) 1 (by decide) 1 (by simp;omega)
  have w1:IntKind.i64.wrap ((i:Int)+1)=((i+1:Nat):Int):=by rw[qf]<;>omega
  have ih':=ih (i+1) (by omega)
  rw[List.replicate_succ']at ih'
  rw[qba]
  generalize List.replicate i (1:Int)=l at*
  generalize((i+1:Nat):Int)=j at*
  simp[hlt,ap,w1,ih']
theorem VZ(n:Nat)(hn:n<=1000000)(hp:Hp):run cxX 159 [.sc (.int .i64 (n:Int))] hp=some (S 2 1 (LI .u8 (ub (una n))),hp):=by
 have h:=qjy n hn hp n 0 (by omega)
 rw[E159]
 simpa using h
theorem zb8(n j:Nat):((n/2^j%2:Nat):Int)=cond (n.testBit j) 1 0:=by
 rw[Nat.testBit_eq_decide_div_mod_eq]
 have:n/2^j%2=0\/n/2^j%2=1:=by omega
 rcases this with h|h<;>rw[h]<;>rfl
theorem qpc(n b:Nat)(hn:n<18446744073709551616)(k:Nat)(hk:k<=64):∀(f j:Nat) (hp:Hp),j+f=k->hp.rd b 0=some (LI .u8 (List.replicate f 0++ub (xE n j)))->
 ∃hp',B160_7 (.int .u64 ((n/2^j:Nat):Int)) (.ms b 0 0 k 1) (.int .i64 ((f:Int)-1)) hp=some (S 0 1 (LI .u8 (ub (xE n k))),hp'):=by
 intro f
 induction f with
 |zero=>
  intro j hp h hb
  have e:j=k:=by omega
  subst e
  have hge:¬((0:Int)<=((0:Nat):Int)-1):=by omega
  have fz:=wF .u8 (ub (xE n j)) hp b (by simpa using hb)
  rw[zda,qdb]at fz
  rw[qa7]
  exact⟨hp.del b,by simp[fz]⟩
 |succ f ih=>
  intro j hp h hb
  have hge:(0:Int)<=((f+1:Nat):Int)-1:=by omega
  have e1:((f+1:Nat):Int)-1=(f:Int):=by omega
  have r:=Xh (n/2^j) 2 (by decide)
  have q:=Jn (n/2^j) 2 (by decide) (Nat.lt_of_le_of_lt (Nat.div_le_self _ _) hn)
  have e2:n/2^j/2=n/2^(j+1):=by rw[Nat.div_div_eq_div_mul,<-Nat.pow_succ]
  rw[zb8]at r
  rw[e2]at q
  have ix:idx k (.int .i64 (f:Int))=some f:=qU .i64 (by omega)
  have pn:=yL .u8 (List.replicate (f+1) 0++ub (xE n j)) f (cond (n.testBit j) 1 0) (by simp;omega)
  have e3:(List.replicate (f+1) (0:Int)++ub (xE n j)).set f (cond (n.testBit j) 1 0)=List.replicate f 0++ub (xE n (j+1)):=by
   rw[List.replicate_succ',List.append_assoc,List.set_append_right _ _ (by simp)]
   simp[xE,ub]
  rw[e3]at pn
  have w1:IntKind.i64.wrap ((f:Int)-1)=(f:Int)-1:=qf (by omega) (by omega)
  have w2:IntKind.u8.wrap (cond (n.testBit j) 1 0)=cond (n.testBit j) 1 0:=by cases n.testBit j<;>rfl
  obtain⟨hp',ih'⟩:=ih (j+1) (hp.put b 0 (LI .u8 (List.replicate f 0++ub (xE n (j+1))))) (by omega) (qi _ _ _)
  refine⟨hp',?_⟩
  rw[qa7,e1]
  simp only[Int.cast_ofNat_Int]at r q
  generalize((n/2^j:Nat):Int)=u at*
  generalize((n/2^(j+1):Nat):Int)=u' at*
  generalize(cond (n.testBit j) 1 0:Int)=c at*
  generalize LI .u8 (List.replicate f 0++ub (xE n (j+1)))=L' at*
  generalize LI .u8 (List.replicate (f+1) 0++ub (xE n j))=L at*
  simp[r,q,w2,ix,hb,pn,w1,ih']
theorem qer(n k:Nat)(hn:n<18446744073709551616)(hk:k<=64)(hp:Hp):∃hp',run cxX 160 [.sc (.int .u64 (n:Int)),.sc (.int .i64 (k:Int))] hp=some (S 0 1 (LI .u8 (ub (xE n k))),hp'):=by
 have mk:yu 1 1 (k:Int) (k:Int)=some ():=QN (by omega) (by omega) (by decide) (by decide)
 have z:=QC .u8 k
 obtain⟨hp',h⟩:=qpc n hp.next hn k hk k 0 (hp.new (LI .u8 (List.replicate k 0))) (by omega) (by rw[qz];simp[xE,ub])
 have h1:¬((64:Int)<(k:Int)):=by omega
 have h2:¬((k:Int)<0):=by omega
 have w1:IntKind.i64.wrap ((k:Int)-1)=(k:Int)-1:=qf (by omega) (by omega)
 refine⟨hp',?_⟩
 rw[E160]
 simp only[Nat.pow_zero,Nat.div_one]at h
 have h3:=qrw (v0:=.int .u64 (n:Int)) (v1:=.int .i64 (k:Int)) (hp:=hp)
 have h5:=qrv (v0:=.int .u64 (n:Int)) (v1:=.int .i64 (k:Int)) (hp:=hp)
 generalize LI .u8 (List.replicate k 0)=Z at*
 simp[h1,h3,h2,h5,mk,z,w1,h]
theorem zh(v:Value):qe [.sc v] 0=some v:=rfl
theorem Ym(l:List Bool)(i j:Nat):(l.take i).getD j false=(decide (j<i)&&l.getD j false):=by
 rw[List.getD_eq_getElem?_getD,List.getElem?_take]
 by_cases h:j<i
 ·simp[h]
 ·simp[h]
theorem KN(l:List Bool)(i:Nat)(hi:i<l.length)(q:Nat):by8 (l.take (i+1)) (8*q)=if q=i/8 then by8 (l.take i) (8*q)+(l.getD i false).toNat*2^(7-i%8)else by8 (l.take i) (8*q):=by
 have key:∀j,(l.take (i+1)).getD j false=if j=i then l.getD i false else(l.take i).getD j false:=by
  intro j
  rw[Ym,Ym]
  by_cases h1:j=i
  ·subst h1;simp
  ·have:(j<i+1)=(j<i):=by apply propext;omega
   simp[h1,this]
 have kz:(l.take i).getD i false=false:=by rw[Ym];simp
 unfold by8
 simp only[key]
 by_cases hq:q=i/8
 ·rw[if_pos hq]
  have hc:i%8=0\/i%8=1\/i%8=2\/i%8=3\/i%8=4\/i%8=5\/i%8=6\/i%8=7:=by omega
  rcases hc with h|h|h|h|h|h|h|h
  all_goals
   have e:i=8*q+i%8:=by omega
   rw[h]at e
   generalize hg:l.getD i false=c at*
   subst e
   simp at kz
   simp[kz]
   try omega
 ·rw[if_neg hq]
  have h0:∀k,k<8->8*q+k≠i:=by omega
  have:=h0 0 (by omega);have:=h0 1 (by omega);have:=h0 2 (by omega);have:=h0 3 (by omega);have:=h0 4 (by omega);have:=h0 5 (by omega);have:=h0 6 (by omega);have:=h0 7 (by omega)
  simp only[Nat.add_zero]at*
  simp[*]
def pkt(l:List Bool)(i:Nat):List Int:=(List.range ((l.length+7)/8)).map fun q=>(by8 (l.take i) (8*q):Int)
theorem zab(l:List Bool)(i:Nat):(pkt l i).length=(l.length+7)/8:=by simp[pkt]
theorem zac(l:List Bool):pkt l l.length=pk l:=by simp[pkt,pk]
theorem qvb(l:List Bool):pkt l 0=List.replicate ((l.length+7)/8) 0:=by
 unfold pkt
 rw[List.eq_replicate_iff]
 refine⟨by simp,fun x hx=>?_⟩
 obtain⟨q,_,rfl⟩:=List.mem_map.mp hx
 simp[by8]
theorem qvc(l:List Bool)(i:Nat)(hi:i<l.length):pkt l (i+1)=(pkt l i).set (i/8) ((by8 (l.take i) (8*(i/8))+(l.getD i false).toNat*2^(7-i%8):Nat):Int):=by
 unfold pkt
 apply List.ext_getElem?
 intro q
 rw[List.getElem?_set,List.getElem?_map,List.getElem?_map]
 by_cases hq:i/8=q
 ·subst hq
  have hl:i/8<(l.length+7)/8:=by omega
  rw[List.getElem?_range hl]
  simp[KN l i hi,hl]
 ·rw[if_neg hq]
  by_cases hl:q<(l.length+7)/8
  ·rw[List.getElem?_range hl]
   have hq':¬(q=i/8):=fun e=>hq e.symm
   simp[KN l i hi,hq']
  ·rw[List.getElem?_eq_none (by simp;omega)]
   rfl
theorem qj0(l:List Bool)(k b:Nat)(hl:l.length<100000000):∀(f i:Nat) (hp:Hp),i+f=l.length->hp.rd b 0=some (LI .u8 (pkt l i))->
 ∃hp',B161_3 (S k 1 (LI .u8 (ub l))) (.ms b 0 0 ((l.length+7)/8) 1) (.int .i64 (i:Int)) hp=some (S 0 1 (LI .u8 (pk l)),hp'):=by
 intro f
 induction f with
 |zero=>
  intro i hp h hb
  have e:i=l.length:=by omega
  subst e
  have hlt:¬((l.length:Int)<(l.length:Int)):=by omega
  have fz:=wF .u8 (pk l) hp b (by rw[zac]at hb;exact hb)
  rw[zR]at fz
  rw[qa6]
  exact⟨hp.del b,by simp[fz]⟩
 |succ f ih=>
  intro i hp h hb
  have hi:i<l.length:=by omega
  have hlt:(i:Int)<(l.length:Int):=by omega
  have r8:=qcz i
  have q8:=qc1 i (by omega)
  have ix:idx ((l.length+7)/8) (.int .i64 ((i/8:Nat):Int))=some (i/8):=qU .i64 (by omega)
  have gx:qe (LI .u8 (pkt l i)) (i/8)=some (.int .u8 (by8 (l.take i) (8*(i/8)):Nat)):=by
   have:(pkt l i)[i/8]?=some (by8 (l.take i) (8*(i/8)):Int):=by
    unfold pkt
    rw[List.getElem?_map,List.getElem?_range (by omega)]
    rfl
   unfold qe
   rw[VE?,this]
   rfl
  have pn:=yL .u8 (pkt l i) (i/8) ((by8 (l.take i) (8*(i/8))+(l.getD i false).toNat*2^(7-i%8):Nat):Int) (by rw[zab];omega)
  rw[<-qvc l i hi]at pn
  have bit:∀h,(ub l)[i]'h=cond (l.getD i false) 1 0:=by
   intro h
   simp[ub,List.getD_eq_getElem?_getD,List.getElem?_eq_getElem hi]
  have sh:∀t o o',qr Tryz.prog .shl t o o' (.int .u8 (cond (l.getD i false) 1 0)) (.int .i64 (7-((i%8:Nat):Int)))=some (.int .u8 (((l.getD i false).toNat*2^(7-i%8):Nat):Int)):=by
   intro t o o'
   have hc:i%8=0\/i%8=1\/i%8=2\/i%8=3\/i%8=4\/i%8=5\/i%8=6\/i%8=7:=by omega
   rw[zF _ _ _ _ _ _ _ _ (by omega)]
   rcases hc with h|h|h|h|h|h|h|h<;>rw[h]<;>cases l.getD i false<;>rfl
  have hsum:by8 (l.take i) (8*(i/8))+(l.getD i false).toNat*2^(7-i%8)<256:=by
   have:=KN l i hi (i/8)
   rw[if_pos rfl]at this
   rw[<-this];exact qle _ _
  have w0:IntKind.i64.wrap (7-((i%8:Nat):Int))=7-((i%8:Nat):Int):=qf (by omega) (by omega)
  have w1:IntKind.u8.wrap (((by8 (l.take i) (8*(i/8)):Nat):Int)+(((l.getD i false).toNat*2^(7-i%8):Nat):Int))=((by8 (l.take i) (8*(i/8))+(l.getD i false).toNat*2^(7-i%8):Nat):Int):=by
   rw[qT]<;>omega
  have w2:IntKind.i64.wrap ((i:Int)+1)=((i+1:Nat):Int):=by rw[qf]<;>omega
  obtain⟨hp',ih'⟩:=ih (i+1) (hp.put b 0 (LI .u8 (pkt l (i+1)))) (by omega) (qi _ _ _)
  refine⟨hp',?_⟩
  rw[qa6]
  generalize((by8 (l.take i) (8*(i/8))+(l.getD i false).toNat*2^(7-i%8):Nat):Int)=A at*
  generalize(((l.getD i false).toNat*2^(7-i%8):Nat):Int)=D at*
  generalize((by8 (l.take i) (8*(i/8)):Nat):Int)=E at*
  generalize(cond (l.getD i false) 1 0:Int)=c at*
  generalize((i%8:Nat):Int)=m8 at*
  generalize LI .u8 (pkt l (i+1))=L' at*
  generalize LI .u8 (pkt l i)=L at*
  generalize((i+1:Nat):Int)=i' at*
  generalize hQ:i/8=Q at*
  generalize(l.length+7)/8=T at*
  simp[hi,r8,q8,ix,hb,gx,bit,w0,sh,w1,pn,w2,ih',zh]
theorem Yc(l:List Bool)(k:Nat)(hl:l.length<100000000)(hp:Hp):∃hp',run cxX 161 [S k 1 (LI .u8 (ub l))] hp=some (S 0 1 (LI .u8 (pk l)),hp'):=by
 have mk:yu 1 1 (((l.length+7)/8:Nat):Int) (((l.length+7)/8:Nat):Int)=some ():=QN (by omega) (by omega) (by decide) (by decide)
 have z:=QC .u8 ((l.length+7)/8)
 rw[<-qvb]at z
 obtain⟨hp',h⟩:=qj0 l k hp.next hl l.length 0 (hp.new (LI .u8 (pkt l 0))) (by omega) (qz _ _)
 have w1:IntKind.i64.wrap ((l.length:Int)+7)=((l.length+7:Nat):Int):=by rw[qf]<;>omega
 have q8:=qc1 (l.length+7) (by omega)
 refine⟨hp',?_⟩
 rw[E161]
 generalize LI .u8 (pkt l 0)=Z at*
 generalize((l.length+7:Nat):Int)=T1 at*
 generalize(l.length+7)/8=T at*
 simp[w1,q8,mk,z]
 simpa using h
theorem wE{l:List Nat}{i:Nat}{x:Nat}{r:List Nat}(h:l.drop i=x::r):l.getD i 0=x:=by
 rw[List.getD_eq_getElem?_getD,(qm h).1];rfl
theorem zd9(l m:List Nat):nz (l++m)=nz l++nz m:=by simp[nz]
section
variable (l:List Nat)(k:Nat)(hl:l.length<=1024)(h64:∀x∈l,x<18446744073709551616)(hr:zi l)
include hl h64 hr
theorem qo9(hp:Hp):∀(r:List Nat) (i:Nat),(qt l).drop i=r->i+r.length=l.length->
 B158_3 (S k 1 (LI .u64 (nz l))) (S 2 1 (LI .u64 (nz ((qt l).take i)))) (.int .i64 (i:Int)) hp=some (S 2 1 (LI .u64 (nz (qt l))),hp):=by
 intro r
 induction r with
 |nil=>
  intro i h hil
  simp at hil
  have e:(qt l).take i=qt l:=List.take_of_length_le (by simp;omega)
  have hlt:¬(i<l.length):=by omega
  rw[qbb,e]
  simp[hlt]
 |cons g r ih=>
  intro i h hil
  obtain⟨e1,e2,hi,e3⟩:=qm h
  simp only[List.length_cons]at hil
  have hi':i<l.length:=by omega
  have et:(qt l).take (i+1)=(qt l).take i++[g]:=by rw[List.take_add_one,e1];rfl
  have w5:IntKind.i64.wrap ((i:Int)+1)=((i+1:Nat):Int):=by rw[qf]<;>omega
  have ap:=qhc .u64 (nz ((qt l).take i)) 2 (.inr rfl) 8 (by decide) (g:Int) (by simp;omega)
  have en:nz ((qt l).take i)++[(g:Int)]=nz ((qt l).take (i+1)):=by rw[et,zd9];rfl
  rw[en]at ap
  have i1:=ih (i+1) e2 (by omega)
  have c4:B158_4 (S k 1 (LI .u64 (nz l))) (S 2 1 (LI .u64 (nz ((qt l).take (i+1))))) (.int .i64 (i:Int)) hp=some (S 2 1 (LI .u64 (nz (qt l))),hp):=by
   rw[qrz]
   generalize((i+1:Nat):Int)=J at*
   simp[w5,i1]
  have gg:=Ks l i hi'
  rw[e1]at gg
  injection gg with gg
  have ai:=yT .u64 l i hi'
  rw[qbb]
  by_cases h0:i=0
  ·subst h0
   rw[if_pos rfl]at gg
   have en2:∀h,(nz l)[0]'h=(l.getD 0 0:Nat):=fun h=>by simp[nz,List.getD_eq_getElem?_getD,hi']
   rw[gg]at ap
   generalize l.getD 0 0=v at*
   simp only[List.take_zero]at ap
   simp only[Nat.zero_add,Int.cast_ofNat_Int]at c4 ap
   simp[hi',ai,zh,ap,c4,en2]
  ·rw[if_neg h0]at gg
   have aj:=yT .u64 l (i-1) (by omega)
   have hlt:=kn l hr (i-1) (by omega)
   have e:i-1+1=i:=by omega
   rw[e]at hlt
   have hv:l.getD i 0<18446744073709551616:=by
    rw[List.getD_eq_getElem?_getD,List.getElem?_eq_getElem hi']
    exact h64 _ (List.getElem_mem _)
   have w1:IntKind.i64.wrap ((i:Int)-1)=((i-1:Nat):Int):=by rw[qf]<;>omega
   have h0':¬((i:Int)=0):=by omega
   have g0:(0:Int)<=((i-1:Nat):Int):=by omega
   have en2:∀h,(nz l)[i]'h=(l.getD i 0:Nat):=fun h=>by simp[nz,List.getD_eq_getElem?_getD,hi']
   generalize l.getD i 0=u at*
   generalize l.getD (i-1) 0=v at*
   have w2:IntKind.u64.wrap ((u:Int)-(v:Int))=(u:Int)-(v:Int):=qn (by omega) (by omega)
   have w3:IntKind.u64.wrap ((u:Int)-(v:Int)-1)=(g:Int):=by rw[qn]<;>omega
   have aj':(LI .u64 (nz l))[(((i-1:Nat):Int)).toNat]?=some (.sc (.int .u64 (v:Int))):=by rw[Int.toNat_natCast];exact aj
   generalize((i-1:Nat):Int)=j at*
   simp[hi',h0,ai,aj',zh,w1,g0,w2,w3,ap,c4,en2]
theorem qeo(hp:Hp):run cxX 158 [S k 1 (LI .u64 (nz l))] hp=some (S 2 1 (LI .u64 (nz (qt l))),hp):=by
 have h:=qo9 l k hl h64 hr hp (qt l) 0 rfl (by simp)
 rw[E158]
 simpa[nz]using h
def rcG(k:Nat):List Nat->Nat->Bool->Nat×Bool
 |[],n,ok=>(n,ok)
 |g::r,n,ok=>if 4096<g/2^k then rcG k r (n+1+k) false else rcG k r (n+g/2^k+1+k) ok
omit hl h64 hr in
theorem zd2(k:Nat):∀(r:List Nat) (n:Nat),(rcG k r n false).2=false:=by
 intro r
 induction r with
 |nil=>intro n;rfl
 |cons g r ih=>intro n;unfold rcG;split<;>exact ih _
omit hl h64 hr in
theorem zd1(k:Nat):∀(r:List Nat) (n:Nat),(rcG k r n true).2=(yD k r n).2/\((yD k r n).2=true->(rcG k r n true).1=(yD k r n).1):=by
 intro r
 induction r with
 |nil=>intro n;exact⟨rfl,fun _=>rfl⟩
 |cons g r ih=>
  intro n
  unfold rcG yD
  by_cases h:4096<g/2^k
  ·rw[if_pos h,if_pos h]
   exact⟨zd2 k r _,fun c=>by cases c⟩
  ·rw[if_neg h,if_neg h]
   have:=ih (n+(g/2^k+1+k))
   have e:n+g/2^k+1+k=n+(g/2^k+1+k):=by omega
   rw[e]
   exact this
omit hl h64 hr in
theorem qpb(gs:List Nat)(j:Nat)(hj:j<=63)(hg:gs.length<=1024)(v3 v4:Value)(hp:Hp):∀(r:List Nat) (i n:Nat) (ok:Bool),gs.drop i=r->i+r.length=gs.length->n+r.length*4160<4611686018427387904->
 B157_9 v3 v4 (S 2 1 (LI .u64 (nz gs))) (.int .i64 (j:Int)) (.int .i64 (n:Int)) (.bool ok) (.int .i64 (i:Int)) hp=
  B157_9 v3 v4 (S 2 1 (LI .u64 (nz gs))) (.int .i64 (j:Int)) (.int .i64 ((rcG j r n ok).1:Nat)) (.bool (rcG j r n ok).2) (.int .i64 (gs.length:Int)) hp:=by
 intro r
 induction r with
 |nil=>
  intro i n ok h hil hn
  simp at hil
  rw[hil];rfl
 |cons g r ih=>
  intro i n ok h hil hn
  obtain⟨e1,e2,hi,e3⟩:=qm h
  simp only[List.length_cons]at hil hn
  have ai:=yT .u64 gs i hi
  rw[wE h]at ai
  have en:∀h,(nz gs)[i]'h=(g:Int):=fun h=>by simp[nz,e3]
  have sh:=fun t o o'=>yh .u64 g j (by show j<=64;omega) t o o' .i64
  have w5:IntKind.i64.wrap ((i:Int)+1)=((i+1:Nat):Int):=by rw[qf]<;>omega
  have step:∀(q:Nat) (b:Bool),q<=4096->B157_15 v3 v4 (S 2 1 (LI .u64 (nz gs))) (.int .i64 (j:Int)) (.int .i64 (n:Int)) (.bool b) (.int .i64 (i:Int)) (.int .u64 (q:Int)) hp=
   B157_9 v3 v4 (S 2 1 (LI .u64 (nz gs))) (.int .i64 (j:Int)) (.int .i64 ((n+q+1+j:Nat):Int)) (.bool b) (.int .i64 ((i+1:Nat):Int)) hp:=by
   intro q b hq
   have w1:IntKind.i64.wrap (q:Int)=(q:Int):=qf (by omega) (by omega)
   have w2:IntKind.i64.wrap ((n:Int)+(q:Int))=(n:Int)+(q:Int):=qf (by omega) (by omega)
   have w3:IntKind.i64.wrap ((n:Int)+(q:Int)+1)=(n:Int)+(q:Int)+1:=qf (by omega) (by omega)
   have w4:IntKind.i64.wrap ((n:Int)+(q:Int)+1+(j:Int))=((n+q+1+j:Nat):Int):=by rw[qf]<;>omega
   rw[qlt]
   generalize((n+q+1+j:Nat):Int)=N at*
   generalize((i+1:Nat):Int)=I at*
   simp[w1,w2,w3,w4,w5]
  rw[qbc]
  unfold rcG
  generalize hq:g/2^j=q at*
  by_cases hc:4096<q
  ·have hgt:(4096:Int)<(q:Int):=by omega
   have hs:=step 0 false (by omega)
   have hi2:=ih (i+1) (n+1+j) false e2 (by omega) (by omega)
   rw[if_pos hc,<-hi2]
   simp only[Nat.add_zero]at hs
   generalize((n+1+j:Nat):Int)=N at*
   generalize((i+1:Nat):Int)=I at*
   simp at hs
   simp[hi,ai,zh,sh,hgt,hs,en]
  ·have hgt:¬((4096:Int)<(q:Int)):=by omega
   have hs:=step q ok (by omega)
   have hi2:=ih (i+1) (n+q+1+j) ok e2 (by omega) (by omega)
   rw[if_neg hc,<-hi2]
   generalize((n+q+1+j:Nat):Int)=N at*
   generalize((i+1:Nat):Int)=I at*
   simp[hi,ai,zh,sh,hgt,hs,en]
omit h64 hr in
theorem qo8(hp:Hp):∀(f j b:Nat) (m:Int),j+f=64->b<=63->
 B157_4 (.int .i64 (b:Int)) (.int .i64 m) (S 2 1 (LI .u64 (nz (qt l)))) (.int .i64 (j:Int)) hp=some (.sc (.int .i64 (YZ (qt l) f j b m:Nat)),hp):=by
 intro f
 induction f with
 |zero=>
  intro j b m hj hb
  have hlt:¬((j:Int)<64):=by omega
  rw[qbd]
  simp[hlt,YZ]
 |succ f ih=>
  intro j b m hj hb
  have hlt:(j:Int)<64:=by omega
  have c:=qpb (qt l) j (by omega) (by simp;omega) (.int .i64 (b:Int)) (.int .i64 m) hp (qt l) 0 0 true rfl (by simp) (by simp;omega)
  obtain⟨c1,c2⟩:=zd1 j (qt l) 0
  have w5:IntKind.i64.wrap ((j:Int)+1)=((j+1:Nat):Int):=by rw[qf]<;>omega
  have i1:=ih (j+1) j (yD j (qt l) 0).1 (by omega) (by omega)
  have i2:=ih (j+1) b m (by omega) hb
  have c8:∀v3 v4,B157_5 v3 v4 (S 2 1 (LI .u64 (nz (qt l)))) (.int .i64 (j:Int)) hp=B157_4 v3 v4 (S 2 1 (LI .u64 (nz (qt l)))) (.int .i64 ((j+1:Nat):Int)) hp:=by
   intro v3 v4
   rw[qr0]
   generalize((j+1:Nat):Int)=J at*
   simp[w5]
  have gl:(qt l).length=l.length:=kN l
  rw[qbd]
  unfold YZ
  rw[c1]at c
  generalize(rcG j (qt l) 0 true).1=N at*
  generalize yD j (qt l) 0=C at*
  obtain⟨d1,d2⟩:=C
  simp only[Int.natCast_add,Int.natCast_one]at i1 i2 c8
  simp at c
  generalize qt l=G at*
  have hlt':j<64:=by omega
  have e9:∀(M:Int),B157_9 (.int .i64 (b:Int)) (.int .i64 m) (S 2 1 (LI .u64 (nz G))) (.int .i64 (j:Int)) (.int .i64 M) (.bool d2) (.int .i64 (l.length:Int)) hp=
   cond d2 (cond (decide (m<0)||decide (M<m)) (B157_4 (.int .i64 (j:Int)) (.int .i64 M) (S 2 1 (LI .u64 (nz G))) (.int .i64 ((j:Int)+1)) hp) (B157_4 (.int .i64 (b:Int)) (.int .i64 m) (S 2 1 (LI .u64 (nz G))) (.int .i64 ((j:Int)+1)) hp)) (B157_4 (.int .i64 (b:Int)) (.int .i64 m) (S 2 1 (LI .u64 (nz G))) (.int .i64 ((j:Int)+1)) hp):=by
   intro M
   rw[qbc]
   cases d2
   ·simp[gl,c8]
   ·by_cases h1:m<0
    ·simp[gl,h1,Vj,c8]
    ·by_cases h2:M<m
     ·simp[gl,h1,h2,Vj,c8]
     ·simp[gl,h1,h2,c8]
  cases d2
  ·simp[hlt,c,e9,i2]
  ·have c2:N=d1:=c2 rfl
   subst c2
   by_cases h1:m<0
   ·simp[hlt,c,e9,h1,i1]
   ·by_cases h2:(N:Int)<m
    ·simp[hlt,c,e9,h1,h2,i1]
    ·simp[hlt,c,e9,h1,h2,i2]
theorem qt8(hp:Hp):run cxX 157 [S k 1 (LI .u64 (nz l))] hp=some (.sc (.int .i64 (zY (qt l):Nat)),hp):=by
 have h:=qo8 l hl hp 64 0 63 (-1) rfl (by omega)
 have g:=qeo l (rk k) hl h64 hr hp0
 rw[E157]
 simp at h
 simp[g,h,zY]
omit hr in
theorem qo7(kk:Nat)(hkk:kk<=63)(hg:∀g∈qt l,g/2^kk<=4096)(hp:Hp):∀(r:List Nat) (i:Nat) (bs:List Bool),(qt l).drop i=r->i+r.length=l.length->bs.length+r.length*4160<90000000->
 B111_5 (S k 1 (LI .u64 (nz l))) (.int .i64 (kk:Int)) (S 2 1 (LI .u8 (ub bs))) (S 2 1 (LI .u64 (nz (qt l)))) (.int .i64 (i:Int)) hp=
  B111_5 (S k 1 (LI .u64 (nz l))) (.int .i64 (kk:Int)) (S 2 1 (LI .u8 (ub (bs++zU kk r)))) (S 2 1 (LI .u64 (nz (qt l)))) (.int .i64 (l.length:Int)) hp:=by
 intro r
 induction r with
 |nil=>
  intro i bs h hil hb
  simp at hil
  rw[hil,zU,List.append_nil]
 |cons g r ih=>
  intro i bs h hil hb
  obtain⟨e1,e2,hi,e3⟩:=qm h
  simp only[List.length_cons]at hil hb
  have ai:=yT .u64 (qt l) i hi
  rw[wE h]at ai
  have en:∀h,(nz (qt l))[i]'h=(g:Int):=fun h=>by simp[nz,e3]
  have hgm:g∈qt l:=by rw[<-e3];exact List.getElem_mem _
  have hq:=hg g hgm
  have g64:=vk h64 g hgm
  have sh:=fun t o o'=>yh .u64 g kk (by show kk<=64;omega) t o o' .i64
  have w5:IntKind.i64.wrap ((i:Int)+1)=((i+1:Nat):Int):=by rw[qf]<;>omega
  have w1:IntKind.i64.wrap ((g/2^kk:Nat):Int)=((g/2^kk:Nat):Int):=qf (by have:=Int.natCast_nonneg (g/2^kk);omega) (by omega)
  have u1:=VZ (g/2^kk) (by omega) hp0
  obtain⟨hq1,u2⟩:=qer g kk g64 (by omega) hp0
  have a1:=yb .u8 (ub bs) 2 (.inr rfl) 1 (by decide) 2 (ub (una (g/2^kk))) (by simp;omega)
  have a2:=yb .u8 (ub (bs++una (g/2^kk))) 2 (.inr rfl) 1 (by decide) 0 (ub (xE g kk)) (by simp;omega)
  rw[<-qcc]at a1 a2
  have i1:=ih (i+1) (bs++una (g/2^kk)++xE g kk) e2 (by omega) (by simp;omega)
  have e:bs++zU kk (g::r)=bs++una (g/2^kk)++xE g kk++zU kk r:=by simp[zU]
  rw[e,<-i1,qb0]
  have hi':i<(qt l).length:=hi
  generalize((g/2^kk:Nat):Int)=q at*
  generalize((i+1:Nat):Int)=I at*
  generalize una (g/2^kk)=U at*
  generalize xE g kk=W at*
  generalize qt l=G at*
  simp only[qcc,List.append_assoc]at a1 a2
  simp[hi',ai,zh,en,sh,w1,u1,a1,u2,a2,w5]
theorem qen(hp:Hp):run cxX 111 [S k 1 (LI .u64 (nz l))] hp=some (S 2 1 (LI .u8 (yc l)),hp):=by
 obtain⟨k63,hq⟩:=Jo (vk h64)
 have hbl:=QK (zY (qt l)) k63 (qt l) hq
 rw[kN]at hbl
 have p:=qt8 l (rk k) hl h64 hr hp0
 have g:=qeo l (rk k) hl h64 hr hp0
 have lp:=qo7 l k hl h64 (zY (qt l)) k63 hq hp (qt l) 0 [] rfl (by simp) (by simp;omega)
 obtain⟨hq1,by1⟩:=Yc (zU (zY (qt l)) (qt l)) 3 (by omega) hp0
 have u1:=jb l.length (by omega) hp0
 have lb:(pk (zU (zY (qt l)) (qt l))).length<1000000:=by rw[zR];omega
 have u2:=jb (pk (zU (zY (qt l)) (qt l))).length (by omega) hp0
 have q1:=qx (n:=l.length) (by omega)
 have q2:=qx (n:=(pk (zU (zY (qt l)) (qt l))).length) (by omega)
 have w1:IntKind.u64.wrap (l.length:Int)=(l.length:Int):=qn (by omega) (by omega)
 have w2:IntKind.u8.wrap ((zY (qt l):Nat):Int)=((zY (qt l):Nat):Int):=qT (by omega) (by omega)
 have w3:IntKind.u64.wrap ((pk (zU (zY (qt l)) (qt l))).length:Int)=((pk (zU (zY (qt l)) (qt l))).length:Int):=qn (by omega) (by omega)
 have a1:=qhc .u8 (uv l.length) 2 (.inr rfl) 1 (by decide) ((zY (qt l):Nat):Int) (by omega)
 have a2:=yb .u8 (uv l.length++[((zY (qt l):Nat):Int)]) 2 (.inr rfl) 1 (by decide) 2 (uv (pk (zU (zY (qt l)) (qt l))).length) (by simp only[List.length_append,List.length_singleton];omega)
 have a3:=yb .u8 (uv l.length++[((zY (qt l):Nat):Int)]++uv (pk (zU (zY (qt l)) (qt l))).length) 2 (.inr rfl) 1 (by decide) 0 (pk (zU (zY (qt l)) (qt l))) (by simp only[List.length_append,List.length_singleton];omega)
 have gl:(qt l).length=l.length:=kN l
 rw[E111]
 unfold yc jz
 simp only[List.nil_append]at lp
 have e0:ub []=[]:=rfl
 rw[e0]at lp
 simp at lp
 generalize zY (qt l)=pr at*
 generalize hX:zU pr (qt l)=X at*
 have e1:∀G:List Nat,G.length=l.length->B111_5 (S k 1 (LI .u64 (nz l))) (.int .i64 (pr:Int)) (S 2 1 (LI .u8 (ub X))) (S 2 1 (LI .u64 (nz G))) (.int .i64 (l.length:Int)) hp=some (S 2 1 (LI .u8 (uv l.length++[(pr:Int)]++uv (pk X).length++pk X)),hp):=by
  intro G hG
  clear lp hX hq
  rw[qb0]
  generalize hB:pk X=Bx at*
  generalize uv Bx.length=U2 at*
  generalize uv l.length=U1 at*
  simp only[List.append_assoc,List.cons_append,List.nil_append]at a1 a2 a3⊢
  simp[hG,by1,w1,u1,w2,a1,w3,u2,a2,a3]
 rw[e1 _ gl]at lp
 simp[p,g,lp]
end
section
variable (l:List Nat)(k:Nat)(hl:l.length<=65536)(h32:∀x∈l,x<4294967296)(hr:jc l)
include hl h32
omit h32 in
theorem qu1(last:Nat)(hla:last<4294967296)(hp:Hp):∀(f j:Nat),j+f=33->j<=32->
 B113_6 (S k 1 (LI .u32 (nz l))) (.int .i64 (l.length:Int)) (.int .u32 (last:Int)) (.int .i64 (j:Int)) hp=
  B113_8 (S k 1 (LI .u32 (nz l))) (.int .i64 (l.length:Int)) (.int .u32 (last:Int)) (.int .i64 (Xc l.length last f j:Nat)) hp:=by
 intro f
 induction f with
 |zero=>intro j h h2;omega
 |succ f ih=>
  intro j h h2
  have w1:IntKind.i64.wrap (last:Int)=(last:Int):=qf (by omega) (by omega)
  have w2:IntKind.i64.wrap ((j:Int)+1)=((j+1:Nat):Int):=by rw[qf]<;>omega
  have q2:∀t o o',qr Tryz.prog .quo t o o' (.int .i64 (last:Int)) (.int .i64 2)=some (.int .i64 ((last/2:Nat):Int)):=by
   intro t o o'
   rw[jU _ _ _ _ _ _ _ (by omega),Int.tdiv_eq_ediv_of_nonneg (by omega),qf (by omega) (by omega)]
   rfl
  have sh:=fun t o o'=>yh .i64 (last/2) j (by show j<=64;omega) t o o' .i64
  have e2:last/2/2^j=last/2^(j+1):=by rw[Nat.div_div_eq_div_mul,Nat.pow_succ,Nat.mul_comm]
  rw[e2]at sh
  rw[qsx]
  unfold Xc
  by_cases h0:0<l.length
  ·have h0':(0:Int)<(l.length:Int):=by omega
   by_cases h1:l.length<=last/2^(j+1)
   ·by_cases hk:j=32
    ·subst hk
     have:last/2^33=0:=Nat.div_eq_of_lt (Nat.lt_of_lt_of_le hla (by decide))
     have e:(32:Nat)+1=33:=rfl
     rw[e,this]at h1
     omega
    ·have hi:=ih (j+1) (by omega) (by omega)
     have h1':(l.length:Int)<=((last/2^(j+1):Nat):Int):=by omega
     rw[if_pos ⟨h0,h1⟩]
     generalize((last/2^(j+1):Nat):Int)=q at*
     generalize((last/2:Nat):Int)=q1 at*
     generalize((j+1:Nat):Int)=k1 at*
     simp[h0,yO,w1,w2,sh,q2,h1',qsw,hi]
   ·have h1':¬((l.length:Int)<=((last/2^(j+1):Nat):Int)):=by omega
    rw[if_neg (fun c=>h1 c.2)]
    generalize((last/2^(j+1):Nat):Int)=q at*
    generalize((last/2:Nat):Int)=q1 at*
    simp[h0,yO,w1,sh,q2,h1']
  ·rw[if_neg (fun c=>h0 c.1)]
   have h0':¬((0:Int)<(l.length:Int)):=by omega
   simp only[iC,vR,Option.bind_some,jt,kI,Int.ofNat_eq_natCast,gt_iff_lt,Int.cast_ofNat_Int,h0',decide_false,cond_false]
theorem qpa(kk:Nat)(hkk:kk<=32)(v4:Value)(hp:Hp):∀(r:List Nat) (i p:Nat) (b1 b2:List Bool),l.drop i=r->i+r.length=l.length->jc (p::r)->b1.length+r.length*32<90000000->b2.length+(qC kk (p/2^kk) r).length<90000000->(qC kk (p/2^kk) r).length<900000->
 ∃v,B113_11 (S k 1 (LI .u32 (nz l))) (.int .i64 (l.length:Int)) v4 (.int .i64 (kk:Int)) (S 2 1 (LI .u8 (ub b1))) (S 2 1 (LI .u8 (ub b2))) (.int .u32 ((p/2^kk:Nat):Int)) (.int .i64 (i:Int)) hp=
  B113_11 (S k 1 (LI .u32 (nz l))) (.int .i64 (l.length:Int)) v4 (.int .i64 (kk:Int)) (S 2 1 (LI .u8 (ub (b1++qY kk r)))) (S 2 1 (LI .u8 (ub (b2++qC kk (p/2^kk) r)))) v (.int .i64 (l.length:Int)) hp:=by
 intro r
 induction r with
 |nil=>
  intro i p b1 b2 h hil hpr hb1 hb2 hb3
  simp at hil
  exact⟨_,by rw[hil,qY,qC,List.append_nil,List.append_nil]⟩
 |cons x r ih=>
  intro i p b1 b2 h hil hpr hb1 hb2 hb3
  obtain⟨e1,e2,hi,e3⟩:=qm h
  simp only[List.length_cons]at hil hb1
  have ai:=yT .u32 l i hi
  rw[wE h]at ai
  have en:∀h,(nz l)[i]'h=(x:Int):=fun h=>by simp[nz,e3]
  have hx:x<4294967296:=by rw[<-e3];exact h32 _ (List.getElem_mem _)
  have hd:p/2^kk<=x/2^kk:=Nat.div_le_div_right hpr.1
  have hxq:x/2^kk<=x:=Nat.div_le_self _ _
  have sh:=fun t o o'=>yh .u32 x kk (by show kk<=32;omega) t o o' .i64
  have hh:(qC kk (p/2^kk) (x::r)).length=(x/2^kk-p/2^kk)+1+(qC kk (x/2^kk) r).length:=by simp[qC]
  rw[hh]at hb2 hb3
  have w1':IntKind.u64.wrap (x:Int)=(x:Int):=qn (by omega) (by omega)
  have w2':IntKind.u32.wrap (((x/2^kk:Nat):Int)-((p/2^kk:Nat):Int))=((x/2^kk-p/2^kk:Nat):Int):=by rw[qD]<;>omega
  have w3':IntKind.i64.wrap ((x/2^kk-p/2^kk:Nat):Int)=((x/2^kk-p/2^kk:Nat):Int):=qf (by omega) (by omega)
  have w5:IntKind.i64.wrap ((i:Int)+1)=((i+1:Nat):Int):=by rw[qf]<;>omega
  obtain⟨hq1,u2⟩:=qer x kk (by omega) (by omega) hp0
  have u1:=VZ (x/2^kk-p/2^kk) (by omega) hp0
  have a1:=yb .u8 (ub b1) 2 (.inr rfl) 1 (by decide) 0 (ub (xE x kk)) (by simp;omega)
  have a2:=yb .u8 (ub b2) 2 (.inr rfl) 1 (by decide) 2 (ub (una (x/2^kk-p/2^kk))) (by simp;omega)
  rw[<-qcc]at a1 a2
  obtain⟨v,i1⟩:=ih (i+1) x (b1++xE x kk) (b2++una (x/2^kk-p/2^kk)) e2 (by omega) hpr.2 (by simp;omega) (by simp;omega) (by omega)
  have q1:b1++qY kk (x::r)=b1++xE x kk++qY kk r:=by simp[qY]
  have q2:b2++qC kk (p/2^kk) (x::r)=b2++una (x/2^kk-p/2^kk)++qC kk (x/2^kk) r:=by simp[qC]
  refine⟨v,?_⟩
  rw[q1,q2,<-i1,Vm]
  generalize una (x/2^kk-p/2^kk)=U at*
  generalize((x/2^kk-p/2^kk:Nat):Int)=d at*
  generalize((p/2^kk:Nat):Int)=P at*
  generalize((x/2^kk:Nat):Int)=X at*
  generalize((i+1:Nat):Int)=I at*
  generalize xE x kk=W at*
  simp only[qcc]at a1 a2
  simp[hi,ai,zh,en,zJ,yO,w1',u2,a1,sh,w2',w3',u1,a2,w5]
include hr
theorem qep(hp:Hp):run cxX 113 [S k 1 (LI .u32 (nz l))] hp=some (S 2 1 (LI .u8 (yS l)),hp):=by
 have hla:qA l<4294967296:=by
  unfold qA
  by_cases h:l=[]
  ·rw[h];decide
  ·have:l.length-1<l.length:=by have:=List.length_pos_iff.mpr h;omega
   rw[List.getD_eq_getElem?_getD,List.getElem?_eq_getElem this]
   exact h32 _ (List.getElem_mem _)
 have hk32:qy l<=32:=qmv _ _ hla
 have hh:=Km (qy l) l hr
 have h2:qA l/2^qy l<=2*l.length:=by
  by_cases h:l=[]
  ·subst h;exact Nat.le_of_eq (Nat.zero_div _)
  ·exact Nat.le_of_lt (Jr (List.length_pos_iff.mpr h) hla)
 obtain⟨v,lp⟩:=qpa l k hl h32 (qy l) hk32 (.int .u32 (qA l:Int)) hp l 0 0 [] [] rfl (by simp) (jS hr) (by simp;omega) (by simp;omega) (by simp;omega)
 have lw:=qu1 l k hl (qA l) hla hp 33 0 rfl (by omega)
 have ef:Xc l.length (qA l) 33 0=qy l:=rfl
 rw[ef]at lw
 have lb:=QP (qy l) l
 have lb2:l.length*qy l<=65536*32:=Nat.mul_le_mul hl hk32
 obtain⟨hq1,by1⟩:=Yc (qY (qy l) l) 3 (by omega) hp0
 obtain⟨hq2,by2⟩:=Yc (qC (qy l) 0 l) 3 (by omega) hp0
 have l1:(pk (qY (qy l) l)).length<1000000:=by rw[zR];omega
 have l2:(pk (qC (qy l) 0 l)).length<1000000:=by rw[zR];omega
 have u1:=jb l.length (by omega) hp0
 have u2:=jb (qA l) (by omega) hp0
 have u3:=jb (pk (qC (qy l) 0 l)).length (by omega) hp0
 have q1:=qx (n:=l.length) (by omega)
 have q2:=qx (n:=qA l) (by omega)
 have q3:=qx (n:=(pk (qC (qy l) 0 l)).length) (by omega)
 have w1:IntKind.u64.wrap (l.length:Int)=(l.length:Int):=qn (by omega) (by omega)
 have w2:IntKind.u64.wrap ((qA l:Nat):Int)=((qA l:Nat):Int):=qn (by omega) (by omega)
 have w3:IntKind.u64.wrap ((pk (qC (qy l) 0 l)).length:Int)=((pk (qC (qy l) 0 l)).length:Int):=qn (by omega) (by omega)
 have h8:B113_5 (S k 1 (LI .u32 (nz l))) (.int .i64 (l.length:Int)) (.int .u32 (qA l:Int)) hp=some (S 2 1 (LI .u8 (yS l)),hp):=by
  rw[qsy]
  simp at lw lp
  unfold yS
  have a1:=yb .u8 (uv l.length) 2 (.inr rfl) 1 (by decide) 2 (uv (qA l)) (by omega)
  have a2:=yb .u8 (uv l.length++uv (qA l)) 2 (.inr rfl) 1 (by decide) 0 (pk (qY (qy l) l)) (by simp only[List.length_append];omega)
  have a3:=yb .u8 (uv l.length++uv (qA l)++pk (qY (qy l) l)) 2 (.inr rfl) 1 (by decide) 2 (uv (pk (qC (qy l) 0 l)).length) (by simp only[List.length_append];omega)
  have a4:=yb .u8 (uv l.length++uv (qA l)++pk (qY (qy l) l)++uv (pk (qC (qy l) 0 l)).length) 2 (.inr rfl) 1 (by decide) 0 (pk (qC (qy l) 0 l)) (by simp only[List.length_append];omega)
  generalize qy l=fk at*
  generalize qC fk 0 l=H at*
  generalize qY fk l=Lo at*
  generalize qA l=la at*
  have e1:B113_11 (S k 1 (LI .u32 (nz l))) (.int .i64 (l.length:Int)) (.int .u32 (la:Int)) (.int .i64 (fk:Int)) (S 2 1 (LI .u8 (ub Lo))) (S 2 1 (LI .u8 (ub H))) v (.int .i64 (l.length:Int)) hp=some (S 2 1 (LI .u8 (uv l.length++uv la++pk Lo++uv (pk H).length++pk H)),hp):=by
   rw[Vm]
   generalize pk Lo=PL at*
   generalize hB:pk H=PH at*
   generalize uv PH.length=U2 at*
   generalize uv l.length=U1 at*
   generalize uv la=U3 at*
   simp only[List.append_assoc]at a1 a2 a3 a4⊢
   simp[zJ,w1,u1,w2,u2,a1,by1,a2,by2,w3,u3,a3,a4]
  have e0:ub []=[]:=rfl
  rw[e1]at lp
  simp[lw,qsv]
  simpa[e0]using lp
 rw[E113]
 by_cases h:0<l.length
 ·have aj:=yT .u32 l (l.length-1) (by omega)
  have el:l.getD (l.length-1) 0=qA l:=rfl
  have w9:IntKind.i64.wrap ((l.length:Int)-1)=((l.length-1:Nat):Int):=by rw[qf]<;>omega
  have h':(0:Int)<(l.length:Int):=by omega
  rw[el]at aj
  have aj':(nz l)[(((l.length-1:Nat):Int)).toNat]?=some (qA l:Int):=by rw[Int.toNat_natCast];simpa[LI]using aj
  have g0:(0:Int)<=((l.length-1:Nat):Int):=by omega
  generalize((l.length-1:Nat):Int)=j at*
  generalize qA l=la at*
  simp[h,w9,aj',g0,zh,h8]
 ·have e:l=[]:=List.length_eq_zero_iff.mp (by omega)
  subst e
  have e:qA []=0:=rfl
  rw[e]at h8
  simpa using h8
end
def JT(cs:List Nat)(x:Nat):List Nat:=if(cs.set x (cs.getD x 0+24)).sum<=4096 then cs.set x (cs.getD x 0+24)else(cs.set x (cs.getD x 0+24)).map fun n=>(n+1)/2
def okM(cs:List Nat):Prop:=cs.length=64/\cs.sum<=4096/\∀n∈cs,1<=n
theorem qcf:∀(cs:List Nat) (x v:Nat),x<cs.length->(cs.set x v).sum+cs.getD x 0=cs.sum+v:=by
 intro cs
 induction cs with
 |nil=>intro x v h;cases h
 |cons c r ih=>
  intro x v h
  cases x with
  |zero=>simp;omega
  |succ x=>
   have:=ih x v (by simpa using h)
   simp only[List.set_cons_succ,List.sum_cons,List.getD_cons_succ]
   omega
theorem qd8:∀(cs:List Nat),2*(cs.map fun n=>(n+1)/2).sum<=cs.sum+cs.length:=by
 intro cs
 induction cs with
 |nil=>exact Nat.le_refl _
 |cons c r ih=>simp only[List.map_cons,List.sum_cons,List.length_cons];omega
theorem Zr{cs:List Nat}{x:Nat}(h:okM cs)(hx:x<64):okM (JT cs x):=by
 obtain⟨h1,h2,h3⟩:=h
 have hs:=qcf cs x (cs.getD x 0+24) (by omega)
 have hpos:∀n∈cs.set x (cs.getD x 0+24),1<=n:=by
  intro n hn
  rcases List.mem_or_eq_of_mem_set hn with e|e
  ·exact h3 n e
  ·omega
 unfold JT
 split
 ·rename_i hle
  exact⟨by simp[h1],hle,hpos⟩
 ·have hh:=qd8 (cs.set x (cs.getD x 0+24))
  rw[List.length_set,h1]at hh
  refine⟨by simp[h1],by omega,fun n hn=>?_⟩
  obtain⟨m,hm,rfl⟩:=List.mem_map.mp hn
  have:=hpos m hm
  omega
theorem qI:∀(cs:List Nat) (x:Nat),x<cs.length->(cs.take (x+1)).sum=(cs.take x).sum+cs.getD x 0:=by
 intro cs
 induction cs with
 |nil=>intro x h;cases h
 |cons c r ih=>
  intro x h
  cases x with
  |zero=>simp
  |succ x=>
   have:=ih x (by simpa using h)
   simp only[List.take_succ_cons,List.sum_cons,List.getD_cons_succ]
   omega
theorem YF:∀(cs:List Nat) (x y:Nat),x<=y->(cs.take x).sum<=(cs.take y).sum:=by
 intro cs
 induction cs with
 |nil=>intro x y _;simp
 |cons c r ih=>
  intro x y h
  cases x with
  |zero=>simp
  |succ x=>
   cases y with
   |zero=>omega
   |succ y=>
    have:=ih x y (by omega)
    simp only[List.take_succ_cons,List.sum_cons]
    omega
theorem qK(cs:List Nat)(x:Nat):(cs.take x).sum<=cs.sum:=by
 by_cases h:x<=cs.length
 ·have:=YF cs x cs.length h
  rwa [List.take_length]at this
 ·rw[List.take_of_length_le (by omega)];exact Nat.le_refl _
structure En where
 low:Nat
 width:Nat
 held:Nat
 last:Nat
 begun:Bool
 out:List Int
def sh(s:En):En:=
 if s.low<4278190080\/4294967296<=s.low then
  ⟨s.low%16777216*256,s.width,0,s.low/16777216%256,true,s.out++(if s.begun then [(((s.last+s.low/4294967296%256)%256:Nat):Int)]else [])++List.replicate s.held (((255+s.low/4294967296%256)%256:Nat):Int)⟩
 else⟨s.low%16777216*256,s.width,s.held+1,s.last,s.begun,s.out⟩
def JS(s:En)(w:Nat):En:=⟨s.low,w,s.held,s.last,s.begun,s.out⟩
def zj:Nat->En->En
 |0,s=>s
 |f+1,s=>if s.width<16777216 then zj f (sh (JS s (s.width*256)))else s
def xg(s:En)(cs:List Nat)(x:Nat):En:=⟨s.low+s.width/cs.sum*(cs.take x).sum,s.width/cs.sum*cs.getD x 0,s.held,s.last,s.begun,s.out⟩
def enc:List Nat->En->List Nat->En
 |_,s,[]=>s
 |cs,s,x::r=>enc (JT cs x) (zj 4 (xg s cs x)) r
def en0:En:=⟨0,4294967295,0,0,false,[]⟩
def cs0:List Nat:=List.replicate 64 1
def xu(l:List Nat):List Int:=(sh (sh (sh (sh (sh (enc cs0 en0 l)))))).out
def qE(l:List Int):Nat:=l.foldl (fun a b=>a*256+b.toNat) 0
theorem jJ(l:List Int)(b:Int):qE (l++[b])=qE l*256+b.toNat:=by simp[qE,List.foldl_append]
theorem qlg(l:List Int):∀h,qE (l++List.replicate h 0)=qE l*256^h:=by
 intro h
 induction h with
 |zero=>simp
 |succ h ih=>
  rw[List.replicate_succ',<-List.append_assoc,jJ,ih,Nat.pow_succ,Nat.mul_assoc]
  simp
theorem qqv(l:List Int):∀h,qE (l++List.replicate h 255)+1=(qE l+1)*256^h:=by
 intro h
 induction h with
 |zero=>simp
 |succ h ih=>
  rw[List.replicate_succ',<-List.append_assoc,jJ,Nat.pow_succ,<-Nat.mul_assoc,<-ih]
  have e:(255:Int).toNat=255:=rfl
  rw[e]
  omega
def bl(s:En):List Int:=s.out++(if s.begun then [(s.last:Int)]else [])++List.replicate s.held 255
def eV(s:En):Nat:=qE (bl s)*4294967296+s.low
def eK(s:En):Nat:=s.out.length+s.begun.toNat+s.held
theorem qxu(s:En):(bl s).length=eK s:=by
 unfold bl eK
 cases s.begun<;>simp<;>omega
def Za(s:En)(w:Nat):Prop:=s.low+w<=8589934592/\s.last<256/\0<w/\((s.begun=false\/s.last=255)->s.low+w<=4294967296)
theorem Yj{s:En}{w v:Nat}(h:Za s w)(h1:v<=w)(h2:0<v):Za s v:=
 ⟨by have:=h.1;omega,h.2.1,h2,fun q=>by have:=h.2.2.2 q;omega⟩
theorem Jb(s:En)(w:Nat)(h:Za s w)(hw:w<=16777216):Za (sh s) (w*256)/\eV (sh s)=eV s*256/\eK (sh s)=eK s+1/\(sh s).width=s.width:=by
 obtain⟨h1,h2,h3,h4⟩:=h
 by_cases hA:s.low<4278190080
 ·have e:sh s=⟨s.low%16777216*256,s.width,0,s.low/16777216%256,true,bl s⟩:=by
   unfold sh
   rw[if_pos (.inl hA)]
   have c0:s.low/4294967296%256=0:=by omega
   have c1:(s.last+0)%256=s.last:=by omega
   unfold bl
   rw[c0,c1]
   rfl
  rw[e]
  refine⟨⟨by show s.low%16777216*256+w*256<=_;omega,by show s.low/16777216%256<_;omega,by omega,fun q=>?_⟩,?_,?_,rfl⟩
  ·rcases q with q|q
   ·cases q
   ·have q:s.low/16777216%256=255:=q
    omega
  ·show qE (bl s++[((s.low/16777216%256:Nat):Int)]++[])*4294967296+s.low%16777216*256=(qE (bl s)*4294967296+s.low)*256
   rw[List.append_nil,jJ,Int.toNat_natCast]
   omega
  ·show(bl s).length+1+0=eK s+1
   rw[qxu]
 ·by_cases hB:4294967296<=s.low
  ·have hb:s.begun=true:=by
    cases hq:s.begun
    ·have:=h4 (.inl hq);omega
    ·rfl
   have hl:s.last<=254:=by
    by_cases q:s.last=255
    ·have:=h4 (.inr q);omega
    ·omega
   have e:sh s=⟨s.low%16777216*256,s.width,0,s.low/16777216%256,true,s.out++[((s.last+1:Nat):Int)]++List.replicate s.held 0⟩:=by
    unfold sh
    rw[if_pos (.inr hB),hb,if_pos rfl]
    have c0:s.low/4294967296%256=1:=by omega
    have c1:(s.last+1)%256=s.last+1:=by omega
    rw[c0,c1]
    rfl
   have eb:bl s=s.out++[(s.last:Int)]++List.replicate s.held 255:=by unfold bl;rw[hb,if_pos rfl]
   have n1:qE (s.out++[((s.last+1:Nat):Int)]++List.replicate s.held 0)=qE (bl s)+1:=by
    have f:=qqv (s.out++[(s.last:Int)]) s.held
    rw[eb,f,qlg,jJ,jJ,Int.toNat_natCast,Int.toNat_natCast,Nat.add_assoc]
   rw[e]
   refine⟨⟨by show s.low%16777216*256+w*256<=_;omega,by show s.low/16777216%256<_;omega,by omega,fun q=>?_⟩,?_,?_,rfl⟩
   ·rcases q with q|q
    ·cases q
    ·have q:s.low/16777216%256=255:=q
     show s.low%16777216*256+w*256<=_
     omega
   ·show qE (s.out++[((s.last+1:Nat):Int)]++List.replicate s.held 0++[((s.low/16777216%256:Nat):Int)]++[])*4294967296+s.low%16777216*256=(qE (bl s)*4294967296+s.low)*256
    rw[List.append_nil,jJ,Int.toNat_natCast,n1]
    omega
   ·show(s.out++[((s.last+1:Nat):Int)]++List.replicate s.held 0).length+1+0=eK s+1
    unfold eK
    rw[hb]
    simp
    omega
  ·have e:sh s=⟨s.low%16777216*256,s.width,s.held+1,s.last,s.begun,s.out⟩:=by
    unfold sh
    rw[if_neg (by omega)]
   rw[e]
   refine⟨⟨by show s.low%16777216*256+w*256<=_;omega,h2,by omega,fun q=>?_⟩,?_,?_,rfl⟩
   ·have:=h4 q
    show s.low%16777216*256+w*256<=_
    omega
   ·show qE (s.out++(if s.begun then [(s.last:Int)]else [])++List.replicate (s.held+1) 255)*4294967296+s.low%16777216*256=(qE (bl s)*4294967296+s.low)*256
    have n1:qE (s.out++(if s.begun then [(s.last:Int)]else [])++List.replicate (s.held+1) 255)=qE (bl s)*256+255:=by
     rw[List.replicate_succ',<-List.append_assoc,jJ]
     rfl
    rw[n1]
    omega
   ·show s.out.length+s.begun.toNat+(s.held+1)=eK s+1
    unfold eK
    omega
theorem Yo(s:En)(w:Nat):eV (JS s w)=eV s/\eK (JS s w)=eK s:=⟨rfl,rfl⟩
theorem qmm:∀(f:Nat) (s:En),Za s s.width->s.width<=4294967296->4294967296<=s.width*256^f*256->∃d,eV (zj f s)=eV s*256^d/\(zj f s).width=s.width*256^d/\eK (zj f s)=eK s+d/\Za (zj f s) (zj f s).width/\
 16777216<=(zj f s).width/\(zj f s).width<=4294967296:=by
 intro f
 induction f with
 |zero=>
  intro s h hw hf
  exact⟨0,by simp[zj],by simp[zj],rfl,h,by show 16777216<=s.width;simp at hf;omega,hw⟩
 |succ f ih=>
  intro s h hw hf
  unfold zj
  by_cases hl:s.width<16777216
  ·rw[if_pos hl]
   have h':Za (JS s (s.width*256)) s.width:=h
   obtain⟨a1,a2,a3,a4⟩:=Jb (JS s (s.width*256)) s.width h' (by omega)
   have a4:(sh (JS s (s.width*256))).width=s.width*256:=a4
   have hf2:4294967296<=s.width*256*256^f*256:=by
    rw[Nat.pow_succ]at hf
    have e:s.width*(256^f*256)*256=s.width*256*256^f*256:=by
     rw[Nat.mul_assoc s.width 256,Nat.mul_comm 256 (256^f)]
    rwa [e]at hf
   obtain⟨d,b1,b2,b3,b4,b5,b6⟩:=ih (sh (JS s (s.width*256))) (by rw[a4];exact a1) (by rw[a4];omega) (by rw[a4];exact hf2)
   refine⟨d+1,?_,?_,?_,b4,b5,b6⟩
   ·rw[b1,a2,(Yo s _).1,Nat.pow_succ,Nat.mul_assoc,Nat.mul_comm 256]
   ·rw[b2,a4,Nat.pow_succ,Nat.mul_assoc,Nat.mul_comm 256]
   ·rw[b3,a3,(Yo s _).2];omega
  ·rw[if_neg hl]
   exact⟨0,by simp,by simp,rfl,h,by omega,hw⟩
theorem ZR(s:En)(cs:List Nat)(x:Nat)(hm:okM cs)(hx:x<64)(h:Za s s.width)(hw:16777216<=s.width/\s.width<=4294967296):
 ∃d,eV (zj 4 (xg s cs x))=(eV s+s.width/cs.sum*(cs.take x).sum)*256^d/\(zj 4 (xg s cs x)).width=s.width/cs.sum*cs.getD x 0*256^d/\eK (zj 4 (xg s cs x))=eK s+d/\
  Za (zj 4 (xg s cs x)) (zj 4 (xg s cs x)).width/\16777216<=(zj 4 (xg s cs x)).width/\(zj 4 (xg s cs x)).width<=4294967296/\0<s.width/cs.sum*cs.getD x 0:=by
 obtain⟨m1,m2,m3⟩:=hm
 have hn:1<=cs.getD x 0:=by
  rw[List.getD_eq_getElem?_getD,List.getElem?_eq_getElem (by omega)]
  exact m3 _ (List.getElem_mem _)
 have ht:=qI cs x (by omega)
 have hta:=qK cs (x+1)
 have hpart:4096<=s.width/cs.sum:=by
  rw[Nat.le_div_iff_mul_le (by omega)]
  have:4096*cs.sum<=4096*4096:=Nat.mul_le_mul_left _ m2
  omega
 have hmul:s.width/cs.sum*cs.sum<=s.width:=Nat.div_mul_le_self _ _
 have hsum:s.width/cs.sum*(cs.take x).sum+s.width/cs.sum*cs.getD x 0<=s.width:=by
  rw[<-Nat.mul_add,<-ht]
  exact Nat.le_trans (Nat.mul_le_mul_left _ hta) hmul
 have hge:s.width/cs.sum*1<=s.width/cs.sum*cs.getD x 0:=Nat.mul_le_mul_left _ hn
 obtain⟨h1,h2,h3,h4⟩:=h
 have ok:Za (xg s cs x) (xg s cs x).width:=by
  refine⟨?_,h2,?_,fun q=>?_⟩
  ·show s.low+s.width/cs.sum*(cs.take x).sum+s.width/cs.sum*cs.getD x 0<=_;omega
  ·show 0<s.width/cs.sum*cs.getD x 0;omega
  ·have:=h4 q
   show s.low+s.width/cs.sum*(cs.take x).sum+s.width/cs.sum*cs.getD x 0<=_;omega
 obtain⟨d,b1,b2,b3,b4,b5,b6⟩:=qmm 4 (xg s cs x) ok (by show s.width/cs.sum*cs.getD x 0<=_;omega) (by
  show 4294967296<=s.width/cs.sum*cs.getD x 0*256^4*256
  have e:(256:Nat)^4=4294967296:=by decide
  rw[e]
  omega)
 have ev:eV (xg s cs x)=eV s+s.width/cs.sum*(cs.take x).sum:=by
  show qE (bl s)*4294967296+(s.low+_)=qE (bl s)*4294967296+s.low+_
  omega
 exact⟨d,by rw[b1,ev],b2,b3,b4,b5,b6,by omega⟩
theorem qk6:∀(l cs:List Nat) (s:En),okM cs->(∀x∈l,x<64)->Za s s.width->16777216<=s.width/\s.width<=4294967296->
 ∃d,eK (enc cs s l)=eK s+d/\eV s*256^d<=eV (enc cs s l)/\eV (enc cs s l)+(enc cs s l).width<=(eV s+s.width)*256^d/\Za (enc cs s l) (enc cs s l).width/\0<(enc cs s l).width:=by
 intro l
 induction l with
 |nil=>intro cs s hm hl h hw;exact⟨0,rfl,by simp[enc],by simp[enc],h,by show 0<s.width;omega⟩
 |cons x r ih=>
  intro cs s hm hl h hw
  obtain⟨d,a1,a2,a3,a4,a5,a6,a7⟩:=ZR s cs x hm (hl x (by simp)) h hw
  obtain⟨d2,b1,b2,b3,b4,b5⟩:=ih (JT cs x) (zj 4 (xg s cs x)) (Zr hm (hl x (by simp))) (fun y hy=>hl y (by simp[hy])) a4 ⟨a5,a6⟩
  have e:enc cs s (x::r)=enc (JT cs x) (zj 4 (xg s cs x)) r:=rfl
  rw[e]
  refine⟨d+d2,by rw[b1,a3];omega,?_,?_,b4,b5⟩
  ·refine Nat.le_trans ?_ b2
   rw[a1,Nat.pow_add,<-Nat.mul_assoc]
   exact Nat.mul_le_mul_right _ (Nat.mul_le_mul_right _ (Nat.le_add_right _ _))
  ·refine Nat.le_trans b3 ?_
   rw[a1,a2,<-Nat.add_mul,Nat.pow_add,<-Nat.mul_assoc]
   refine Nat.mul_le_mul_right _ (Nat.mul_le_mul_right _ ?_)
   have ht:=qI cs x (by have:=hm.1;have:=hl x (by simp);omega)
   have hta:=qK cs (x+1)
   have hmul:s.width/cs.sum*cs.sum<=s.width:=Nat.div_mul_le_self _ _
   have hsum:s.width/cs.sum*(cs.take x).sum+s.width/cs.sum*cs.getD x 0<=s.width:=by
    rw[<-Nat.mul_add,<-ht]
    exact Nat.le_trans (Nat.mul_le_mul_left _ hta) hmul
   omega
theorem qv0:okM cs0:=⟨by decide,by decide,fun n hn=>by rw[List.eq_of_mem_replicate hn];exact Nat.le_refl _⟩
theorem qv1:Za en0 en0.width:=⟨by decide,by decide,by decide,fun _=>by decide⟩
theorem Xr(l:List Nat)(hl:∀x∈l,x<64):qE (xu l)=eV (enc cs0 en0 l)/\(xu l).length=eK (enc cs0 en0 l)+4:=by
 obtain⟨d,_,_,_,h,hw⟩:=qk6 l cs0 en0 qv0 hl qv1 ⟨by decide,by decide⟩
 unfold xu
 generalize enc cs0 en0 l=s at*
 have s1:=Jb s 1 (Yj h hw (by omega)) (by omega)
 have s2:=Jb (sh s) 1 (Yj s1.1 (by omega) (by omega)) (by omega)
 have s3:=Jb (sh (sh s)) 1 (Yj s2.1 (by omega) (by omega)) (by omega)
 have s4:=Jb (sh (sh (sh s))) 1 (Yj s3.1 (by omega) (by omega)) (by omega)
 have lw:∀s:En,(sh s).low=s.low%16777216*256:=fun s=>by unfold sh;split<;>rfl
 have z:(sh (sh (sh (sh s)))).low=0:=by rw[lw,lw,lw,lw];omega
 have e:(sh (sh (sh (sh (sh s))))).out=bl (sh (sh (sh (sh s)))):=by
  have h2:=s4.1.2.1
  generalize sh (sh (sh (sh s)))=t at*
  unfold sh
  rw[if_pos (.inl (by omega)),z]
  have c1:(t.last+0/4294967296%256)%256=t.last:=by omega
  unfold bl
  rw[c1]
  rfl
 rw[e,qxu,s4.2.2.1,s3.2.2.1,s2.2.2.1,s1.2.2.1]
 refine⟨?_,by omega⟩
 have v:eV (sh (sh (sh (sh s))))=qE (bl (sh (sh (sh (sh s)))))*4294967296+0:=by rw[<-z];rfl
 rw[s4.2.1,s3.2.1,s2.2.1,s1.2.1]at v
 omega
def zo(m:Nat):Nat->Nat
 |0=>0
 |n+1=>zo m n+(m.testBit n).toNat
theorem QM(m a:Nat):∀b,zo m (a+b)=zo m a+zo (m/2^a) b:=by
 intro b
 induction b with
 |zero=>rfl
 |succ b ih=>
  show zo m (a+b)+(m.testBit (a+b)).toNat=zo m a+(zo (m/2^a) b+((m/2^a).testBit b).toNat)
  rw[ih,Nat.testBit_div_two_pow,Nat.add_comm b a]
  omega
theorem kr(m:Nat):∀n,zo m n<=n:=by
 intro n
 induction n with
 |zero=>exact Nat.le_refl _
 |succ n ih=>
  show zo m n+_<=n+1
  have:=b2n (m.testBit n)
  omega
theorem qmi(m k:Nat):∀n,n<=k->zo (m%2^k) n=zo m n:=by
 intro n
 induction n with
 |zero=>intro _;rfl
 |succ n ih=>
  intro h
  show zo (m%2^k) n+_=zo m n+_
  rw[ih (by omega),Nat.testBit_mod_two_pow]
  simp[show n<k by omega]
def WE(c:Nat):Nat->Nat
 |0=>0
 |k+1=>WE c k*256+c
theorem vS(a b c d:Nat)(hb:b<256)(hd:d<256):(a*256+b)&&&(c*256+d)=(a&&&c)*256+(b&&&d):=by
 have hbd:b&&&d<256:=Nat.lt_of_le_of_lt Nat.and_le_left hb
 apply Nat.eq_of_testBit_eq
 intro i
 have e1:=Nat.testBit_two_pow_mul_add a (i:=8) hb i
 have e2:=Nat.testBit_two_pow_mul_add c (i:=8) hd i
 have e3:=Nat.testBit_two_pow_mul_add (a&&&c) (i:=8) hbd i
 have q:∀x y,2^8*x+y=x*256+y:=fun x y=>by omega
 rw[q]at e1 e2 e3
 rw[Nat.testBit_and,e1,e2,e3]
 by_cases h:i<8
 ·rw[if_pos h,if_pos h,if_pos h,Nat.testBit_and]
 ·rw[if_neg h,if_neg h,if_neg h,Nat.testBit_and]
def f1(k x:Nat):Nat:=((x/2)&&&WE 85 k)+(x&&&WE 85 k)
def f2(k x:Nat):Nat:=((x/4)&&&WE 51 k)+(x&&&WE 51 k)
def f3(k x:Nat):Nat:=(x/16+x)&&&WE 15 k
theorem zhp:∀b,b<256->∀t,t<2->(t*128+b/2)&&&85=(b/2)&&&85:=by decide
theorem zho:∀b,b<256->∀t,t<4->(t*64+b/4)&&&51=(b/4)&&&51:=by decide
theorem qxd(k a b:Nat)(hb:b<256):f1 (k+1) (a*256+b)=f1 k a*256+f1 1 b:=by
 unfold f1
 have e:(a*256+b)/2=a/2*256+(a%2*128+b/2):=by omega
 have m:WE 85 (k+1)=WE 85 k*256+85:=rfl
 have m1:WE 85 1=85:=rfl
 rw[e,m,m1,vS _ _ _ _ (by omega) (by omega),vS _ _ _ _ hb (by omega),zhp b hb _ (by omega)]
 omega
theorem qxc(k a b:Nat)(hb:b<256):f2 (k+1) (a*256+b)=f2 k a*256+f2 1 b:=by
 unfold f2
 have e:(a*256+b)/4=a/4*256+(a%4*64+b/4):=by omega
 have m:WE 51 (k+1)=WE 51 k*256+51:=rfl
 have m1:WE 51 1=51:=rfl
 rw[e,m,m1,vS _ _ _ _ (by omega) (by omega),vS _ _ _ _ hb (by omega),zho b hb _ (by omega)]
 omega
theorem zbj:∀b,b<256->f1 1 b<256:=by decide
theorem qne:∀b,b<256->f2 1 (f1 1 b)<256/\f2 1 (f1 1 b)%16<=4/\f2 1 (f1 1 b)/16<=4/\f3 1 (f2 1 (f1 1 b))=zo b 8:=by decide
def f12(k x:Nat):Nat:=f2 k (f1 k x)
theorem WR(k a b:Nat)(hb:b<256):f12 (k+1) (a*256+b)=f12 k a*256+f12 1 b:=by
 unfold f12
 rw[qxd k a b hb,qxc k _ _ (zbj b hb)]
theorem zbk(k x:Nat)(h:x<256^k):f12 k x%16<=4:=by
 cases k with
 |zero=>
  have:x=0:=by omega
  subst this
  decide
 |succ k=>
  have e:x=x/256*256+x%256:=by omega
  rw[e,WR k _ _ (by omega)]
  have:=(qne (x%256) (by omega)).2.1
  unfold f12 at*
  omega
theorem qxb(k a b:Nat)(ha:a<256^k)(hb:b<256):f3 (k+1) (f12 (k+1) (a*256+b))=f3 k (f12 k a)*256+zo b 8:=by
 rw[WR k a b hb]
 have hl:=zbk k a ha
 have hB:=qne b hb
 have e12:f12 1 b=f2 1 (f1 1 b):=rfl
 rw[<-hB.2.2.2,e12]
 generalize f2 1 (f1 1 b)=B at*
 generalize f12 k a=A at*
 obtain⟨h1,h2,h3,_⟩:=hB
 unfold f3
 have e:(A*256+B)/16+(A*256+B)=(A/16+A)*256+(A%16*16+B/16+B):=by omega
 have m:WE 15 (k+1)=WE 15 k*256+15:=rfl
 have m1:WE 15 1=15:=rfl
 rw[e,m,m1,vS _ _ _ _ (by omega) (by omega)]
 congr 1
 have q:∀x,x&&&15=x%16:=fun x=>Nat.and_two_pow_sub_one_eq_mod x 4
 rw[q,q]
 omega
def cB(x:Nat):Nat->Nat
 |0=>0
 |k+1=>cB (x/256) k*256+zo (x%256) 8
theorem zew:∀(k x:Nat),x<256^k->f3 k (f12 k x)=cB x k:=by
 intro k
 induction k with
 |zero=>
  intro x h
  have:x=0:=by omega
  subst this
  decide
 |succ k ih=>
  intro x h
  have e:x=x/256*256+x%256:=by omega
  have h2:x/256<256^k:=by rw[Nat.pow_succ]at h;omega
  have:=qxb k (x/256) (x%256) h2 (by omega)
  rw[<-e,ih _ h2]at this
  exact this
theorem qph(x:Nat):zo x 64=zo (x%256) 8+(zo (x/256%256) 8+(zo (x/256/256%256) 8+(zo (x/256/256/256%256) 8+(zo (x/256/256/256/256%256) 8+
 (zo (x/256/256/256/256/256%256) 8+(zo (x/256/256/256/256/256/256%256) 8+zo (x/256/256/256/256/256/256/256%256) 8)))))):=by
 have s:∀y n,zo y (8+n)=zo (y%256) 8+zo (y/256) n:=fun y n=>by
  rw[QM y 8 n]
  have:=qmi y 8 8 (Nat.le_refl _)
  rw[<-this]
 have e64:(64:Nat)=8+(8+(8+(8+(8+(8+(8+(8+0))))))):=rfl
 rw[e64]
 simp only[s]
 rfl
theorem qu7(c:Nat)(c0 c1 c2 c3 c4 c5 c6 c7:Nat)(h0:c0<=8)(h1:c1<=8)(h2:c2<=8)(h3:c3<=8)(h4:c4<=8)(h5:c5<=8)(h6:c6<=8)(h7:c7<=8)
 (h:c=((((((c7*256+c6)*256+c5)*256+c4)*256+c3)*256+c2)*256+c1)*256+c0):
 c<651061555542690057/\∃d,d=c+c/256/\∃e,e=d+d/65536/\e+e/4294967296<9223372036854775808/\(e+e/4294967296)%128=c0+(c1+(c2+(c3+(c4+(c5+(c6+c7)))))):=by
 obtain⟨A7,hA7⟩:∃A,A=c7:=⟨_,rfl⟩
 obtain⟨A6,hA6⟩:∃A,A=A7*256+c6:=⟨_,rfl⟩
 obtain⟨A5,hA5⟩:∃A,A=A6*256+c5:=⟨_,rfl⟩
 obtain⟨A4,hA4⟩:∃A,A=A5*256+c4:=⟨_,rfl⟩
 obtain⟨A3,hA3⟩:∃A,A=A4*256+c3:=⟨_,rfl⟩
 obtain⟨A2,hA2⟩:∃A,A=A3*256+c2:=⟨_,rfl⟩
 obtain⟨A1,hA1⟩:∃A,A=A2*256+c1:=⟨_,rfl⟩
 rw[<-hA7,<-hA6,<-hA5,<-hA4,<-hA3,<-hA2,<-hA1]at h
 have dv:∀a b:Nat,b<256->(a*256+b)/256=a:=fun a b hb=>by omega
 have b7:A7<=8:=by omega
 have b6:A6<=2056:=by omega
 have b5:A5<=526344:=by omega
 have b4:A4<=134744072:=by omega
 have b3:A3<=34494482440:=by omega
 have b2:A2<=8830587504648:=by omega
 have b1:A1<=2260630401189896:=by omega
 have b0:c<=578721382704613384:=by omega
 have e0:c/256=A1:=by rw[h];exact dv A1 c0 (by omega)
 --the first sum
 have s7:A7=0*256+c7:=by omega
 have s6:A6+A7=A7*256+(c6+c7):=by omega
 have s5:A5+A6=(A6+A7)*256+(c5+c6):=by omega
 have s4:A4+A5=(A5+A6)*256+(c4+c5):=by omega
 have s3:A3+A4=(A4+A5)*256+(c3+c4):=by omega
 have s2:A2+A3=(A3+A4)*256+(c2+c3):=by omega
 have s1:A1+A2=(A2+A3)*256+(c1+c2):=by omega
 have s0:c+A1=(A1+A2)*256+(c0+c1):=by omega
 refine⟨by omega,_,rfl,_,rfl,?_⟩
 rw[e0]
 generalize hd:c+A1=d at*
 generalize hB1:A1+A2=B1 at*
 generalize hB2:A2+A3=B2 at*
 generalize hB3:A3+A4=B3 at*
 generalize hB4:A4+A5=B4 at*
 generalize hB5:A5+A6=B5 at*
 generalize hB6:A6+A7=B6 at*
 have e1:d/65536=B2:=by
  have:d/65536=d/256/256:=by rw[Nat.div_div_eq_div_mul]
  rw[this,s0,dv _ _ (by omega),s1,dv _ _ (by omega)]
 have t6:B6=A7*256+(c6+c7):=s6
 have t4:B4+B6=(B5+A7)*256+(c4+c5+(c6+c7)):=by omega
 have t3:B3+B5=(B4+B6)*256+(c3+c4+(c5+c6)):=by omega
 have t2:B2+B4=(B3+B5)*256+(c2+c3+(c4+c5)):=by omega
 have t1:B1+B3=(B2+B4)*256+(c1+c2+(c3+c4)):=by omega
 have t0:d+B2=(B1+B3)*256+(c0+c1+(c2+c3)):=by omega
 rw[e1]
 have hde:d+B2<=600000000000000000:=by omega
 generalize hE0:d+B2=E0 at*
 generalize hE1:B1+B3=E1 at*
 generalize hE2:B2+B4=E2 at*
 generalize hE3:B3+B5=E3 at*
 generalize hE4:B4+B6=E4 at*
 have e2:E0/4294967296=E4:=by
  have:E0/4294967296=E0/256/256/256/256:=by rw[Nat.div_div_eq_div_mul,Nat.div_div_eq_div_mul,Nat.div_div_eq_div_mul]
  rw[this,t0,dv _ _ (by omega),t1,dv _ _ (by omega),t2,dv _ _ (by omega),t3,dv _ _ (by omega)]
 rw[e2]
 have hE4b:E4<=1000000000000:=by omega
 clear hd hB1 hB2 hB3 hB4 hB5 hB6 s0 s1 s2 s3 s4 s5 s6 s7 h hA1 hA2 hA3 hA4 hA5 hA6 hA7 e0 e1 t1 t2 t3 t6 hE0 hE1 hE2 hE3 hE4 e2
 refine⟨by omega,?_⟩
 have m:∀a b s t:Nat,(a*256+s+(b*256+t))%128=(s+t)%128:=fun a b s t=>by omega
 rw[t0,t4,m]
 omega
def jh(m:Nat):Nat->Nat
 |0=>0
 |n+1=>jh m n+(m.testBit n&&!(decide (0<n)&&m.testBit (n-1))).toNat
def jZ(m:Nat):Nat->Nat->List Int
 |0,_=>[]
 |f+1,i=>if m.testBit i then(i:Int)::jZ m f (i+1)else jZ m f (i+1)
def jX(m:Nat):Nat->Nat->List Int
 |0,_=>[]
 |f+1,i=>((m/2^(8*i)%256:Nat):Int)::jX m f (i+1)
def jR(m:Nat):Nat->Nat->Nat
 |0,i=>i
 |f+1,i=>if m.testBit (i+1)then jR m f (i+1)else i
def xD(m:Nat):Nat->Nat->List Int
 |0,_=>[]
 |f+1,i=>if 256<=i then []else if m.testBit i then(i:Int)::((jR m (255-i) i-i:Nat):Int)::xD m f (jR m (255-i) i+1)else xD m f (i+1)
def kind(m:Nat):Nat:=if zo m 256+1<=32/\zo m 256+1<=2*jh m 256+1 then 0 else if 32<=2*jh m 256+1 then 1 else 2
def wJ(m:Nat):List Int:=if kind m=0 then((zo m 256-1:Nat):Int)::jZ m 256 0 else if kind m=1 then jX m 32 0 else((jh m 256-1:Nat):Int)::xD m 256 0
def jW(c:Nat×Nat):List Int:=uv c.1++((kind c.2:Nat):Int)::wJ c.2
def vu:List (Nat×Nat)->List Int
 |[]=>[]
 |c::r=>jW c++vu r
def vx(cs:List (Nat×Nat)):List Int:=uv cs.length++vu cs
def xM(x:Nat):List (Nat×Nat)->List (Nat×Nat)
 |[]=>[(x/256,2^(x%256))]
 |c::r=>if c.1=x/256 then(c.1,c.2|||2^(x%256))::r else(x/256,2^(x%256))::c::r
def jG:List Nat->List (Nat×Nat)
 |[]=>[]
 |x::r=>xM x (jG r)
theorem Zv(m:Nat):∀n,jh m n<=zo m n:=by
 intro n
 induction n with
 |zero=>exact Nat.le_refl _
 |succ n ih=>
  show jh m n+_<=zo m n+_
  cases m.testBit n
  ·simpa using ih
  ·have:=b2n (true&&!(decide (0<n)&&m.testBit (n-1)))
   have e:true.toNat=1:=rfl
   omega
theorem qha(m:Nat):∀f i,(jZ m f i).length+zo m i=zo m (i+f):=by
 intro f
 induction f with
 |zero=>intro i;simp[jZ]
 |succ f ih=>
  intro i
  have h:=ih (i+1)
  have e:i+1+f=i+(f+1):=by omega
  rw[e]at h
  have e2:zo m (i+1)=zo m i+(m.testBit i).toNat:=rfl
  rw[e2]at h
  unfold jZ
  cases hb:m.testBit i
  ·rw[hb]at h;simpa using h
  ·rw[hb]at h
   have e3:true.toNat=1:=rfl
   simp only[if_true,List.length_cons]
   omega
@[simp] theorem qg2 (m : Nat) : ∀ f i, (jX m f i).length = f := by
 intro f
 induction f with
 |zero=>intro i;rfl
 |succ f ih=>intro i;simp[jX,ih]
theorem KM(m i j:Nat)(hj:j<8):(m/2^(8*i)%256).testBit j=m.testBit (8*i+j):=by
 have e:(256:Nat)=2^8:=rfl
 rw[e,Nat.testBit_mod_two_pow,Nat.testBit_div_two_pow]
 simp[hj,Nat.add_comm]
theorem vf(m:Nat):∀f i,i<=jR m f i/\jR m f i<=i+f/\(∀j,i<j->j<=jR m f i->m.testBit j=true)/\(jR m f i<i+f->m.testBit (jR m f i+1)=false):=by
 intro f
 induction f with
 |zero=>intro i;exact⟨Nat.le_refl _,Nat.le_refl _,fun j h1 h2=>by have h2:j<=i:=h2;omega,fun h=>by have h:i<i+0:=h;omega⟩
 |succ f ih=>
  intro i
  unfold jR
  by_cases hb:m.testBit (i+1)=true
  ·rw[if_pos hb]
   obtain⟨h1,h2,h3,h4⟩:=ih (i+1)
   refine⟨by omega,by omega,fun j a b=>?_,fun h=>h4 (by omega)⟩
   by_cases e:j=i+1
   ·subst e;exact hb
   ·exact h3 j (by omega) b
  ·rw[if_neg hb]
   exact⟨Nat.le_refl _,by omega,fun j a b=>by omega,fun _=>by simpa using hb⟩
def inR(j:Nat):List Int->Prop
 |a::b::r=>(a<=(j:Int)/\(j:Int)<=a+b)\/inR j r
 |_=>False
theorem zd0(m:Nat):∀f i,256<=i+f->∀j,inR j (xD m f i)↔(i<=j/\j<256/\m.testBit j=true):=by
 intro f
 induction f with
 |zero=>intro i h j;show False↔_;constructor
        ·intro h;cases h
        ·intro h;omega
 |succ f ih=>
  intro i h j
  unfold xD
  by_cases h1:256<=i
  ·rw[if_pos h1]
   show False↔_
   constructor
   ·intro h;cases h
   ·intro h;omega
  ·rw[if_neg h1]
   by_cases hb:m.testBit i=true
   ·rw[if_pos hb]
    obtain⟨r1,r2,r3,r4⟩:=vf m (255-i) i
    have hi:=ih (jR m (255-i) i+1) (by omega) j
    generalize jR m (255-i) i=e at*
    show(((i:Int)<=(j:Int)/\(j:Int)<=(i:Int)+((e-i:Nat):Int))\/inR j _)↔_
    rw[hi]
    constructor
    ·rintro(q|q)
     ·refine⟨by omega,by omega,?_⟩
      by_cases ej:j=i
      ·subst ej;exact hb
      ·exact r3 j (by omega) (by omega)
     ·exact⟨by omega,q.2.1,q.2.2⟩
    ·intro q
     by_cases q1:j<=e
     ·exact .inl ⟨by omega,by omega⟩
     ·exact .inr ⟨by omega,q.2.1,q.2.2⟩
   ·rw[if_neg hb,ih (i+1) (by omega) j]
    constructor
    ·intro q;exact⟨by omega,q.2.1,q.2.2⟩
    ·intro q
     by_cases ej:j=i
     ·subst ej;exact absurd q.2.2 hb
     ·exact⟨by omega,q.2.1,q.2.2⟩
theorem qzy(m:Nat):∀f i,256<=i+f->i<=256->(i=0\/i=256\/m.testBit (i-1)=false\/m.testBit i=false)->(xD m f i).length+2*jh m i=2*jh m 256:=by
 intro f
 induction f with
 |zero=>intro i h hi _;have:i=256:=by omega
        subst this;simp[xD]
 |succ f ih=>
  intro i h hi hs
  unfold xD
  by_cases h1:256<=i
  ·rw[if_pos h1]
   have:i=256:=by omega
   subst this;simp
  ·rw[if_neg h1]
   have e1:jh m (i+1)=jh m i+(m.testBit i&&!(decide (0<i)&&m.testBit (i-1))).toNat:=rfl
   by_cases hb:m.testBit i=true
   ·rw[if_pos hb]
    obtain⟨r1,r2,r3,r4⟩:=vf m (255-i) i
    have e2:jh m (i+1)=jh m i+1:=by
     rw[e1,hb]
     have:(decide (0<i)&&m.testBit (i-1))=false:=by
      rcases hs with q|q|q|q
      ·simp[q]
      ·omega
      ·simp[q]
      ·rw[hb]at q;cases q
     rw[this];rfl
    have e3:∀d,i+1+d<=jR m (255-i) i+1->jh m (i+1+d)=jh m (i+1):=by
     intro d
     induction d with
     |zero=>intro _;rfl
     |succ d ihd=>
      intro hd
      have:=ihd (by omega)
      have e4:jh m (i+1+(d+1))=jh m (i+1+d)+(m.testBit (i+1+d)&&!(decide (0<i+1+d)&&m.testBit (i+1+d-1))).toNat:=rfl
      have e5:m.testBit (i+1+d-1)=true:=by
       by_cases q:d=0
       ·subst q;exact hb
       ·exact r3 _ (by omega) (by omega)
      have e8:(decide (0<i+1+d))=true:=by simp;omega
      rw[e4,this,e5,e8]
      simp
    have e6:=e3 (jR m (255-i) i-i) (by omega)
    have e7:i+1+(jR m (255-i) i-i)=jR m (255-i) i+1:=by omega
    rw[e7,e2]at e6
    have hi2:=ih (jR m (255-i) i+1) (by omega) (by omega) (by
     by_cases q:jR m (255-i) i<i+(255-i)
     ·exact .inr (.inr (.inr (r4 q)))
     ·exact .inr (.inl (by omega)))
    simp only[List.length_cons]
    omega
   ·rw[if_neg hb]
    have hb':m.testBit i=false:=by simpa using hb
    have e2:jh m (i+1)=jh m i:=by rw[e1,hb'];rfl
    have:=ih (i+1) (by omega) (by omega) (.inr (.inr (.inl (by simpa using hb'))))
    omega
theorem kj(m:Nat):(xD m 256 0).length=2*jh m 256:=by
 have h:=qzy m 256 0 (by omega) (by omega) (.inl rfl)
 have e:jh m 0=0:=rfl
 omega
theorem Yw(m:Nat):(jZ m 256 0).length=zo m 256:=by
 have h:=qha m 256 0
 have e:zo m 0=0:=rfl
 have e2:0+256=256:=rfl
 rw[e2]at h
 omega
theorem zag:∀(n m:Nat),0<zo m n->∃j,j<n/\m.testBit j=true:=by
 intro n
 induction n with
 |zero=>intro m h;cases h
 |succ n ih=>
  intro m h
  cases hb:m.testBit n
  ·have e:zo m (n+1)=zo m n+(m.testBit n).toNat:=rfl
   rw[e,hb]at h
   obtain⟨j,h1,h2⟩:=ih m h
   exact⟨j,by omega,h2⟩
  ·exact⟨n,by omega,hb⟩
theorem qmg:∀(n m j:Nat),j<n->m.testBit j=true->0<zo m n:=by
 intro n
 induction n with
 |zero=>intro m j h;omega
 |succ n ih=>
  intro m j h hb
  have e:zo m (n+1)=zo m n+(m.testBit n).toNat:=rfl
  rw[e]
  by_cases hj:j=n
  ·subst hj;rw[hb];exact Nat.succ_pos _
  ·have:=ih m j (by omega) hb;omega
theorem Xi{m:Nat}(h:0<zo m 256):0<jh m 256:=by
 obtain⟨j,h1,h2⟩:=zag 256 m h
 by_cases hr:jh m 256=0
 ·have h3:=kj m
  rw[hr]at h3
  have h4:xD m 256 0=[]:=List.length_eq_zero_iff.mp h3
  have h5:=(zd0 m 256 0 (by omega) j).mpr ⟨by omega,h1,h2⟩
  rw[h4]at h5
  cases h5
 ·omega
def okC(c:Nat×Nat):Prop:=c.1<16777216/\c.2<2^256/\0<zo c.2 256
theorem zT(i j:Nat):(2^i).testBit j=decide (i=j):=Nat.testBit_two_pow
theorem zgu{m x:Nat}(hm:m<2^256):m|||2^(x%256)<2^256:=Nat.or_lt_two_pow hm (Nat.pow_lt_pow_right (by decide) (by omega))
theorem qz9(x:Nat):2^(x%256)<2^256:=Nat.pow_lt_pow_right (by decide) (by omega)
theorem zN(x:Nat)(c:Nat×Nat)(r:List (Nat×Nat)):xM x (c::r)=if c.1=x/256 then(c.1,c.2|||2^(x%256))::r else(x/256,2^(x%256))::c::r:=rfl
theorem qz8{x:Nat}(hx:x<4294967296):∀{cs:List (Nat×Nat)},(∀c∈cs,okC c)->∀c∈xM x cs,okC c:=by
 intro cs h c hc
 have new:okC (x/256,2^(x%256)):=⟨by show x/256<_;omega,qz9 x,qmg 256 _ (x%256) (by omega) (by rw[zT];simp)⟩
 cases cs with
 |nil=>
  have e:c=(x/256,2^(x%256)):=by simpa[xM]using hc
  rw[e];exact new
 |cons d r=>
  have hd:=h d (by simp)
  rw[zN]at hc
  split at hc
  ·rcases List.mem_cons.mp hc with e|e
   ·rw[e]
    refine⟨hd.1,zgu hd.2.1,qmg 256 _ (x%256) (by omega) ?_⟩
    show(d.2|||2^(x%256)).testBit _=_
    rw[Nat.testBit_or,zT];simp
   ·exact h c (by simp[e])
  ·rcases List.mem_cons.mp hc with e|e
   ·rw[e];exact new
   ·exact h c e
theorem KE:∀{l:List Nat},(∀x∈l,x<4294967296)->∀c∈jG l,okC c:=by
 intro l
 induction l with
 |nil=>intro _ c hc;cases hc
 |cons x r ih=>intro h;exact qz8 (h x (by simp)) (ih fun y hy=>h y (by simp[hy]))
theorem qnj:∀(l:List Nat),zi l->((∀c∈jG l,∀x∈l.head?,x/256<=c.1)/\∀y,y∈l↔∃c∈jG l,c.1=y/256/\c.2.testBit (y%256)=true):=by
 intro l
 induction l with
 |nil=>intro _;exact⟨fun c hc=>(by cases hc),fun y=>by simp[jG]⟩
 |cons x r ih=>
  intro hr
  have hr2:zi r:=by cases r with
   |nil=>trivial
   |cons z s=>exact hr.2
  obtain⟨i1,i2⟩:=ih hr2
  have hge:∀c∈jG r,x/256<=c.1:=by
   intro c hc
   cases r with
   |nil=>cases hc
   |cons z s=>
    have h1:=i1 c hc z (by simp)
    have h2:=hr.1
    have:x/256<=z/256:=Nat.div_le_div_right (Nat.le_of_lt h2)
    omega
  have e:jG (x::r)=xM x (jG r):=rfl
  rw[e]
  constructor
  ·intro c hc z hz
   have hz:x=z:=by simpa using hz
   subst hz
   cases hq:jG r with
   |nil=>
    rw[hq]at hc
    have:c=(x/256,2^(x%256)):=by simpa[xM]using hc
    rw[this];exact Nat.le_refl _
   |cons d s=>
    rw[hq]at hc hge
    rw[zN]at hc
    split at hc
    ·rcases List.mem_cons.mp hc with e|e
     ·rw[e];exact hge d (by simp)
     ·exact hge c (by simp[e])
    ·rcases List.mem_cons.mp hc with e|e
     ·rw[e];exact Nat.le_refl _
     ·exact hge c e
  ·intro y
   rw[List.mem_cons,i2]
   cases hq:jG r with
   |nil=>
    simp only[xM,List.mem_singleton,exists_eq_left,List.not_mem_nil,false_and,exists_false,or_false,zT,decide_eq_true_eq]
    constructor
    ·intro h;subst h;exact⟨rfl,rfl⟩
    ·intro h;omega
   |cons d s=>
    rw[zN]
    split
    ·rename_i hd
     constructor
     ·rintro(h|⟨c,hc,h1,h2⟩)
      ·subst h
       exact⟨_,List.mem_cons_self,hd,by show(d.2|||_).testBit _=true;rw[Nat.testBit_or,zT];simp⟩
      ·rcases List.mem_cons.mp hc with e|e
       ·subst e
        exact⟨_,List.mem_cons_self,h1,by show(c.2|||_).testBit _=true;rw[Nat.testBit_or,h2];rfl⟩
       ·exact⟨c,by simp[e],h1,h2⟩
     ·rintro⟨c,hc,h1,h2⟩
      rcases List.mem_cons.mp hc with e|e
      ·subst e
       rw[Nat.testBit_or,zT]at h2
       by_cases hy:x%256=y%256
       ·left
        have h1:d.1=y/256:=h1
        omega
       ·right
        exact⟨d,by simp,h1,by simpa[hy]using h2⟩
      ·exact .inr ⟨c,by simp[e],h1,h2⟩
    ·rename_i hd
     constructor
     ·rintro(h|⟨c,hc,h1,h2⟩)
      ·subst h
       exact⟨_,List.mem_cons_self,rfl,by show(2^_).testBit _=true;rw[zT];simp⟩
      ·exact⟨c,List.mem_cons_of_mem _ hc,h1,h2⟩
     ·rintro⟨c,hc,h1,h2⟩
      rcases List.mem_cons.mp hc with e|e
      ·subst e
       rw[zT]at h2
       have h1:x/256=y/256:=h1
       have h2:x%256=y%256:=by simpa using h2
       left;omega
      ·exact .inr ⟨c,e,h1,h2⟩
theorem vE:∀(l:List Nat) (x:Nat),zi (x::l)->∀y∈l,x<y:=by
 intro l
 induction l with
 |nil=>intro x _ y h;cases h
 |cons z s ih=>
  intro x h y hy
  rcases List.mem_cons.mp hy with e|e
  ·rw[e];exact h.1
  ·have:=ih z h.2 y e;have:=h.1;omega
theorem xn{x:Nat}{l:List Nat}(h:zi (x::l)):zi l:=by
 cases l with
 |nil=>trivial
 |cons z s=>exact h.2
theorem qjw:∀(l m:List Nat),zi l->zi m->(∀y,y∈l↔y∈m)->l=m:=by
 intro l
 induction l with
 |nil=>
  intro m _ _ h
  cases m with
  |nil=>rfl
  |cons y s=>exact absurd ((h y).mpr (by simp)) (by simp)
 |cons x r ih=>
  intro m h1 h2 h
  cases m with
  |nil=>exact absurd ((h x).mp (by simp)) (by simp)
  |cons y s=>
   have l1:=vE r x h1
   have l2:=vE s y h2
   have e:x=y:=by
    rcases List.mem_cons.mp ((h x).mp (by simp))with e|e
    ·exact e
    ·rcases List.mem_cons.mp ((h y).mpr (by simp))with e'|e'
     ·exact e'.symm
     ·have:=l1 y e';have:=l2 x e;omega
   subst e
   rw[ih s (xn h1) (xn h2) fun y=>?_]
   have hy:=h y
   constructor
   ·intro q
    rcases List.mem_cons.mp (hy.mp (by simp[q]))with e|e
    ·have:=l1 y q;omega
    ·exact e
   ·intro q
    rcases List.mem_cons.mp (hy.mpr (by simp[q]))with e|e
    ·have:=l2 y q;omega
    ·exact e
theorem qad(x c:Nat)(hx:x<18446744073709551616)(hc:c<18446744073709551616)(t:TypeId)(o o':Operand):qr Tryz.prog .and t o o' (.int .u64 (x:Int)) (.int .u64 (c:Int))=some (.int .u64 ((x&&&c:Nat):Int)):=by
 rw[qS]
 have hl:x&&&c<=x:=Nat.and_le_left
 have e:(BitVec.ofInt IntKind.u64.bits (x:Int)&&&BitVec.ofInt IntKind.u64.bits (c:Int)).toNat=x&&&c:=by
  show(BitVec.ofInt 64 (x:Int)&&&BitVec.ofInt 64 (c:Int)).toNat=_
  rw[BitVec.ofInt_natCast,BitVec.ofInt_natCast,BitVec.toNat_and,BitVec.toNat_ofNat,BitVec.toNat_ofNat]
  rw[Nat.mod_eq_of_lt (by omega),Nat.mod_eq_of_lt (by omega)]
 rw[e,qn (by omega) (by omega)]
theorem zhi(x:Nat)(hx:x<18446744073709551616):f1 8 x<18446744073709551616:=by
 unfold f1
 have e:WE 85 8=6148914691236517205:=by decide
 rw[e]
 have h1:(x/2)&&&6148914691236517205<=6148914691236517205:=Nat.and_le_right
 have h2:x&&&6148914691236517205<=6148914691236517205:=Nat.and_le_right
 omega
theorem zhh(x:Nat):f2 8 x<7378697629483820647:=by
 unfold f2
 have e:WE 51 8=3689348814741910323:=by decide
 rw[e]
 have h1:(x/4)&&&3689348814741910323<=3689348814741910323:=Nat.and_le_right
 have h2:x&&&3689348814741910323<=3689348814741910323:=Nat.and_le_right
 omega
theorem zcd(r:Nat)(hr:r<9223372036854775808)(t:TypeId)(o o':Operand):qr Tryz.prog .and t o o' (.int .i64 (r:Int)) (.int .i64 127)=some (.int .i64 ((r%128:Nat):Int)):=by
 rw[qS]
 have e9:(BitVec.ofInt IntKind.i64.bits (r:Int)&&&BitVec.ofInt IntKind.i64.bits ((127:Nat):Int)).toNat=r%128:=by
  show(BitVec.ofInt 64 (r:Int)&&&BitVec.ofInt 64 ((127:Nat):Int)).toNat=_
  rw[BitVec.ofInt_natCast,BitVec.ofInt_natCast,BitVec.toNat_and,BitVec.toNat_ofNat,BitVec.toNat_ofNat,Nat.mod_eq_of_lt (show r<2^64 by omega),Nat.mod_eq_of_lt (show 127<2^64 by omega)]
  exact Nat.and_two_pow_sub_one_eq_mod r 7
 have i127:((127:Nat):Int)=127:=rfl
 rw[i127]at e9
 rw[e9,qf (by omega) (by omega)]
theorem qu6(x:Nat)(hx:x<18446744073709551616):∃y z q d e r:Nat,(x/2&&&6148914691236517205)+(x&&&6148914691236517205)=y/\y<18446744073709551616/\
 (y/4&&&3689348814741910323)+(y&&&3689348814741910323)=z/\z<7378697629483820647/\(z/16+z)&&&1085102592571150095=q/\q<651061555542690057/\q+q/256=d/\d+d/65536=e/\e+e/4294967296=r/\r<9223372036854775808/\r%128=zo x 64:=by
 have m1:WE 85 8=6148914691236517205:=by decide
 have m2:WE 51 8=3689348814741910323:=by decide
 have m3:WE 15 8=1085102592571150095:=by decide
 have h1:=zhi x hx
 have h2:=zhh (f1 8 x)
 have h3:=zew 8 x (Nat.lt_of_lt_of_le hx (by decide))
 have cb:∀y,zo y 8<=8:=fun y=>kr y 8
 have hc:cB x 8=((((((zo (x/256/256/256/256/256/256/256%256) 8*256+zo (x/256/256/256/256/256/256%256) 8)*256+zo (x/256/256/256/256/256%256) 8)*256+zo (x/256/256/256/256%256) 8)*256+
  zo (x/256/256/256%256) 8)*256+zo (x/256/256%256) 8)*256+zo (x/256%256) 8)*256+zo (x%256) 8:=by
  simp only[cB,Nat.zero_mul,Nat.zero_add]
 obtain⟨p1,d,hd,e,he,p2,p3⟩:=qu7 _ _ _ _ _ _ _ _ _ (cb _) (cb _) (cb _) (cb _) (cb _) (cb _) (cb _) (cb _) hc
 rw[<-qph]at p3
 refine⟨f1 8 x,f2 8 (f1 8 x),cB x 8,d,e,_,?_,h1,?_,h2,?_,p1,hd.symm,he.symm,rfl,p2,p3⟩
 ·rw[<-m1];rfl
 ·rw[<-m2];rfl
 ·rw[<-h3,<-m3];rfl
noncomputable def qvw(k1 k2 k4 k8 k16 k32 c85 c51 c15 k127:Int)(a0:AV)(hp:Hp):Option (AV×Hp):=aS a0 fun y0=>bC .shr 76 3 y0 (.int .u64 k1) fun y1=>bC .and 76 4 y1 (.int .u64 c85) fun y2=>bC .and 76 6 y0 (.int .u64 c85) fun y3=>bT .add 76 5 7 y2 y3 fun y4=>bC .shr 76 9 y4 (.int .u64 k2) fun y5=>bC .and 76 10 y5 (.int .u64 c51) fun y6=>bC .and 76 12 y4 (.int .u64 c51) fun y7=>bT .add 76 11 13 y6 y7 fun y8=>bC .shr 76 15 y8 (.int .u64 k4) fun y9=>bT .add 76 16 17 y9 y8 fun y10=>bC .and 76 18 y10 (.int .u64 c15) fun y11=>bC .shr 76 21 y11 (.int .u64 k8) fun y12=>bT .add 76 20 22 y11 y12 fun y13=>bC .shr 76 25 y13 (.int .u64 k16) fun y14=>bT .add 76 24 26 y13 y14 fun y15=>bC .shr 76 29 y15 (.int .u64 k32) fun y16=>bT .add 76 28 30 y15 y16 fun y17=>cV 76 3 y17 fun y18=>bC .and 3 33 y18 (.int .i64 k127) fun y19=>rQ (.sc y19) hp
theorem zap(a0:AV)(hp:Hp):run cxX 146 [a0] hp=qvw (.ofNat 1) (.ofNat 2) (.ofNat 4) (.ofNat 8) (.ofNat 16) (.ofNat 32) (.ofNat 6148914691236517205) (.ofNat 3689348814741910323) (.ofNat 1085102592571150095) (.ofNat 127) a0 hp:=by
 delta qvw
 have h:=E146 a0 hp
 with_reducible exact h
theorem Jd(x:Nat)(hx:x<18446744073709551616)(hp:Hp):run cxX 146 [.sc (.int .u64 (x:Int))] hp=some (.sc (.int .i64 (zo x 64:Nat)),hp):=by
 obtain⟨y,z,q,d,e,r,h1,b1,h2,b2,h3,b3,h4,h5,h6,b6,h7⟩:=qu6 x hx
 have k64:∀n:Nat,n<=64->n<=IntKind.u64.bits:=fun n h=>h
 have s1:=fun t o o'=>yh .u64 x 1 (k64 1 (by omega)) t o o' .u64
 have a1:=qad (x/2^1) 6148914691236517205 (by omega) (by omega)
 have a2:=qad x 6148914691236517205 hx (by omega)
 have s2:=fun t o o'=>yh .u64 y 2 (k64 2 (by omega)) t o o' .u64
 have a3:=qad (y/2^2) 3689348814741910323 (by omega) (by omega)
 have a4:=qad y 3689348814741910323 b1 (by omega)
 have s3:=fun t o o'=>yh .u64 z 4 (k64 4 (by omega)) t o o' .u64
 have a5:=qad (z/2^4+z) 1085102592571150095 (by omega) (by omega)
 have s4:=fun t o o'=>yh .u64 q 8 (k64 8 (by omega)) t o o' .u64
 have s5:=fun t o o'=>yh .u64 d 16 (k64 16 (by omega)) t o o' .u64
 have s6:=fun t o o'=>yh .u64 e 32 (k64 32 (by omega)) t o o' .u64
 have a7:=zcd r b6
 rw[h7]at a7
 have d1:x/2^1=x/2:=by omega
 have d2:y/2^2=y/4:=by omega
 have d3:z/2^4=z/16:=by omega
 have d4:q/2^8=q/256:=by omega
 have d5:d/2^16=d/65536:=by omega
 have d6:e/2^32=e/4294967296:=by omega
 rw[d1]at s1 a1
 rw[d2]at s2 a3
 rw[d3]at s3 a5
 rw[d4]at s4
 rw[d5]at s5
 rw[d6]at s6
 rw[h3]at a5
 generalize(x/2&&&6148914691236517205)=u1 at*
 generalize(x&&&6148914691236517205)=u2 at*
 generalize(y/4&&&3689348814741910323)=u3 at*
 generalize(y&&&3689348814741910323)=u4 at*
 have w1:IntKind.u64.wrap ((u1:Int)+(u2:Int))=(y:Int):=by rw[qn]<;>omega
 have w2:IntKind.u64.wrap ((u3:Int)+(u4:Int))=(z:Int):=by rw[qn]<;>omega
 have w3:IntKind.u64.wrap (((z/16:Nat):Int)+(z:Int))=((z/16+z:Nat):Int):=by rw[qn]<;>omega
 have w4:IntKind.u64.wrap ((q:Int)+((q/256:Nat):Int))=(d:Int):=by rw[qn]<;>omega
 have w5:IntKind.u64.wrap ((d:Int)+((d/65536:Nat):Int))=(e:Int):=by rw[qn]<;>omega
 have w6:IntKind.u64.wrap ((e:Int)+((e/4294967296:Nat):Int))=(r:Int):=by rw[qn]<;>omega
 have w7:IntKind.i64.wrap (r:Int)=(r:Int):=qf (by omega) (by omega)
 have S1:∀t o o',qr Tryz.prog .shr t o o' (.int .u64 (x:Int)) (.int .u64 (Int.ofNat 1))=some (.int .u64 ((x/2:Nat):Int)):=s1
 have A1:∀t o o',qr Tryz.prog .and t o o' (.int .u64 ((x/2:Nat):Int)) (.int .u64 (Int.ofNat 6148914691236517205))=some (.int .u64 (u1:Int)):=a1
 have A2:∀t o o',qr Tryz.prog .and t o o' (.int .u64 (x:Int)) (.int .u64 (Int.ofNat 6148914691236517205))=some (.int .u64 (u2:Int)):=a2
 have S2:∀t o o',qr Tryz.prog .shr t o o' (.int .u64 (y:Int)) (.int .u64 (Int.ofNat 2))=some (.int .u64 ((y/4:Nat):Int)):=s2
 have A3:∀t o o',qr Tryz.prog .and t o o' (.int .u64 ((y/4:Nat):Int)) (.int .u64 (Int.ofNat 3689348814741910323))=some (.int .u64 (u3:Int)):=a3
 have A4:∀t o o',qr Tryz.prog .and t o o' (.int .u64 (y:Int)) (.int .u64 (Int.ofNat 3689348814741910323))=some (.int .u64 (u4:Int)):=a4
 have S3:∀t o o',qr Tryz.prog .shr t o o' (.int .u64 (z:Int)) (.int .u64 (Int.ofNat 4))=some (.int .u64 ((z/16:Nat):Int)):=s3
 have A5:∀t o o',qr Tryz.prog .and t o o' (.int .u64 ((z/16+z:Nat):Int)) (.int .u64 (Int.ofNat 1085102592571150095))=some (.int .u64 (q:Int)):=a5
 have S4:∀t o o',qr Tryz.prog .shr t o o' (.int .u64 (q:Int)) (.int .u64 (Int.ofNat 8))=some (.int .u64 ((q/256:Nat):Int)):=s4
 have S5:∀t o o',qr Tryz.prog .shr t o o' (.int .u64 (d:Int)) (.int .u64 (Int.ofNat 16))=some (.int .u64 ((d/65536:Nat):Int)):=s5
 have S6:∀t o o',qr Tryz.prog .shr t o o' (.int .u64 (e:Int)) (.int .u64 (Int.ofNat 32))=some (.int .u64 ((e/4294967296:Nat):Int)):=s6
 have A7:∀t o o',qr Tryz.prog .and t o o' (.int .i64 (r:Int)) (.int .i64 (Int.ofNat 127))=some (.int .i64 ((zo x 64:Nat):Int)):=a7
 rw[zap]
 clear s1 s2 s3 s4 s5 s6 a1 a2 a3 a4 a5 a7 h1 h2 h3
 generalize Int.ofNat 6148914691236517205=c85 at*
 generalize Int.ofNat 3689348814741910323=c51 at*
 generalize Int.ofNat 1085102592571150095=c15 at*
 unfold qvw
 simp only[Zj]
 rw[xV,Option.bind_some,S1,Option.bind_some,A1,Option.bind_some,A2,Option.bind_some,jH,w1,Option.bind_some,S2,Option.bind_some,A3,Option.bind_some,A4,Option.bind_some,jH,w2,Option.bind_some,S3,Option.bind_some,jH,w3,Option.bind_some,A5,Option.bind_some,S4,Option.bind_some,jH,w4,Option.bind_some,S5,Option.bind_some,jH,w5,Option.bind_some,S6,Option.bind_some,jH,w6,Option.bind_some,xS,w7,Option.bind_some,A7,Option.bind_some]
def zO(m j:Nat):Nat:=m/2^(64*j)%18446744073709551616
theorem Zl(m j:Nat):zO m j<18446744073709551616:=Nat.mod_lt _ (by decide)
theorem qy0(m i:Nat):(zO m (i/64)).testBit (i%64)=m.testBit i:=by
 unfold zO
 have e:(18446744073709551616:Nat)=2^64:=rfl
 rw[e,Nat.testBit_mod_two_pow,Nat.testBit_div_two_pow]
 have h:i%64<64:=Nat.mod_lt _ (by decide)
 have e2:i%64+64*(i/64)=i:=by omega
 simp only[h,decide_true,Bool.true_and]
 rw[e2]
abbrev Cc(c:Nat×Nat):List AV:=[.sc (.int .u32 (c.1:Int)),.sc (.int .u64 (zO c.2 0:Nat)),.sc (.int .u64 (zO c.2 1:Nat)),.sc (.int .u64 (zO c.2 2:Nat)),.sc (.int .u64 (zO c.2 3:Nat))]
theorem Jy(c:Nat×Nat)(j:Nat)(hj:j<4):qe (Cc c) (Nat.add 1 (Nat.add 0 j))=some (.int .u64 (zO c.2 j:Nat)):=by
 have:j=0\/j=1\/j=2\/j=3:=by omega
 rcases this with e|e|e|e<;>subst e<;>rfl
theorem qx1:∀x:BitVec 8,(x&&&63#8).toNat=x.toNat%64:=by decide
theorem zc3(c:Nat)(hc:c<256)(t:TypeId)(x y:Operand):qr Tryz.prog .and t x y (.int .u8 (c:Int)) (.int .u8 63)=some (.int .u8 ((c%64:Nat):Int)):=by
 rw[qS]
 have e1:(BitVec.ofInt 8 (c:Int)).toNat=c:=by
  rw[BitVec.toNat_ofInt];omega
 have e2:(BitVec.ofInt IntKind.u8.bits (c:Int)&&&BitVec.ofInt IntKind.u8.bits 63).toNat=c%64:=by
  show(BitVec.ofInt 8 (c:Int)&&&63#8).toNat=_
  rw[qx1,e1]
 rw[e2,qT (by omega) (by omega)]
theorem Qe(c:Nat×Nat)(i:Nat)(hi:i<256)(hp:Hp):run cxX 97 [.agg (Cc c),.sc (.int .u8 (i:Int))] hp=some (.sc (.bool (c.2.testBit i)),hp):=by
 have s1:∀t o o',qr Tryz.prog .shr t o o' (.int .u8 (i:Int)) (.int .u64 6)=some (.int .u8 ((i/64:Nat):Int)):=fun t o o'=>yh .u8 i 6 (by decide) t o o' .u64
 have ix:idx 4 (.int .u8 ((i/64:Nat):Int))=some (i/64):=qU .u8 (by omega)
 have g:=Jy c (i/64) (by omega)
 have a:=zc3 i hi
 have s2:=fun t o o'=>yh .u64 (zO c.2 (i/64)) (i%64) (by show i%64<=64;omega) t o o' .u8
 have a2:=zfn (zO c.2 (i/64)/2^(i%64)) (Nat.lt_of_le_of_lt (Nat.div_le_self _ _) (Zl _ _))
 have tb:=qy0 c.2 i
 rw[Nat.testBit_eq_decide_div_mod_eq]at tb
 rw[<-tb,E97]
 generalize zO c.2 (i/64)/2^(i%64)%2=q at*
 generalize((zO c.2 (i/64)/2^(i%64):Nat):Int)=q1 at*
 generalize((i%64:Nat):Int)=q2 at*
 generalize hq3:((i/64:Nat):Int)=q3 at*
 have cn:qg 5 (.agg (Cc c))=some (Cc c):=rfl
 have eqq:decide ((q:Int)=1)=decide (q=1):=by
  by_cases h:q=1
  ·simp[h]
  ·rw[decide_eq_false h,decide_eq_false (by omega)]
 have mr:List.map ro1 (Cc c)=Cc c:=rfl
 have g':qe (Cc c) (1+i/64)=some (.int .u64 (zO c.2 (i/64):Nat)):=by have:=g;simpa using this
 simp only[Zj,cn,mr,Option.bind_some,xV]
 simp[s1,ix,g',a,s2,a2,-qS]
 omega
theorem qvg(m:Nat):zo m 256=zo (zO m 0) 64+zo (zO m 1) 64+zo (zO m 2) 64+zo (zO m 3) 64:=by
 have h:∀j,zo (zO m j) 64=zo (m/2^(64*j)) 64:=fun j=>qmi _ 64 64 (Nat.le_refl _)
 have a:=QM m 192 64
 have b:=QM m 128 64
 have c:=QM m 64 64
 have e0:m/2^(64*0)=m:=by simp
 rw[h,h,h,h,e0]
 have e1:192+64=256:=rfl
 have e2:128+64=192:=rfl
 have e3:64+64=128:=rfl
 rw[e1]at a
 rw[e2]at b
 rw[e3]at c
 rw[a,b,c]
theorem ixw(a b c d:Int):ixV Tryz.prog 139 (.agg #[.int .u64 a,.int .u64 b,.int .u64 c,.int .u64 d]) (.int .i64 0)=some (.int .u64 a)
 /\ixV Tryz.prog 139 (.agg #[.int .u64 a,.int .u64 b,.int .u64 c,.int .u64 d]) (.int .i64 1)=some (.int .u64 b)
 /\ixV Tryz.prog 139 (.agg #[.int .u64 a,.int .u64 b,.int .u64 c,.int .u64 d]) (.int .i64 2)=some (.int .u64 c)
 /\ixV Tryz.prog 139 (.agg #[.int .u64 a,.int .u64 b,.int .u64 c,.int .u64 d]) (.int .i64 3)=some (.int .u64 d):=⟨by kernel_rfl,by kernel_rfl,by kernel_rfl,by kernel_rfl⟩
theorem Je(c:Nat×Nat)(hp:Hp):run cxX 96 [.agg (Cc c)] hp=some (.sc (.int .i64 (zo c.2 256:Nat)),hp):=by
 have o0:=Jd (zO c.2 0) (Zl _ _) hp0
 have o1:=Jd (zO c.2 1) (Zl _ _) hp0
 have o2:=Jd (zO c.2 2) (Zl _ _) hp0
 have o3:=Jd (zO c.2 3) (Zl _ _) hp0
 have l0:=kr (zO c.2 0) 64
 have l1:=kr (zO c.2 1) 64
 have l2:=kr (zO c.2 2) 64
 have l3:=kr (zO c.2 3) 64
 obtain⟨i0,i1,i2,i3⟩:=ixw (zO c.2 0:Nat) (zO c.2 1:Nat) (zO c.2 2:Nat) (zO c.2 3:Nat)
 rw[qvg,E96]
 generalize zo (zO c.2 0) 64=n0 at*
 generalize zo (zO c.2 1) 64=n1 at*
 generalize zo (zO c.2 2) 64=n2 at*
 generalize zo (zO c.2 3) 64=n3 at*
 have w0:IntKind.i64.wrap (0+(n0:Int))=(n0:Int):=by rw[qf]<;>omega
 have w1:IntKind.i64.wrap ((n0:Int)+(n1:Int))=(n0:Int)+(n1:Int):=by rw[qf]<;>omega
 have w2:IntKind.i64.wrap ((n0:Int)+(n1:Int)+(n2:Int))=(n0:Int)+(n1:Int)+(n2:Int):=by rw[qf]<;>omega
 have w3:IntKind.i64.wrap ((n0:Int)+(n1:Int)+(n2:Int)+(n3:Int))=((n0+n1+n2+n3:Nat):Int):=by rw[qf]<;>omega
 have w00:IntKind.i64.wrap (n0:Int)=(n0:Int):=by rw[qf]<;>omega
 have cn:qg 5 (.agg (Cc c))=some (Cc c):=rfl
 have gn:ql (Cc c) 1 4=some [.sc (.int .u64 (zO c.2 0:Nat)),.sc (.int .u64 (zO c.2 1:Nat)),.sc (.int .u64 (zO c.2 2:Nat)),.sc (.int .u64 (zO c.2 3:Nat))]:=rfl
 have ca:∀a b c d:Int,yE (.agg [.sc (.int .u64 a),.sc (.int .u64 b),.sc (.int .u64 c),.sc (.int .u64 d)])=some (.agg #[.int .u64 a,.int .u64 b,.int .u64 c,.int .u64 d]):=fun _ _ _ _=>rfl
 generalize((n0+n1+n2+n3:Nat):Int)=N at*
 have b4:B96_3 (.int .i64 N) (.agg [.sc (.int .u64 (zO c.2 0:Nat)),.sc (.int .u64 (zO c.2 1:Nat)),.sc (.int .u64 (zO c.2 2:Nat)),.sc (.int .u64 (zO c.2 3:Nat))]) (.int .i64 4) hp=some (.sc (.int .i64 N),hp):=by
  rw[QB];simp
 generalize((zO c.2 0:Nat):Int)=x0 at*
 generalize((zO c.2 1:Nat):Int)=x1 at*
 generalize((zO c.2 2:Nat):Int)=x2 at*
 generalize((zO c.2 3:Nat):Int)=x3 at*
 have mr:List.map ro1 (Cc c)=Cc c:=rfl
 simp only[Zj,cn,mr,gn,Option.bind_some]
 simp
 rw[QB]
 simp[ca,i0,o0,w00]
 rw[QB]
 simp[ca,i1,o1,w1]
 rw[QB]
 simp[ca,i2,o2,w2]
 rw[QB]
 simp[ca,i3,o3,w3,b4]
theorem qn7(c:Nat×Nat)(hp:Hp):∀(f i:Nat),i+f=256->B135_4 (.int .i64 (jh c.2 i:Nat)) (.bool (decide (0<i)&&c.2.testBit (i-1))) (.int .i64 (i:Int)) (Cc c) hp=some (.sc (.int .i64 (jh c.2 256:Nat)),hp):=by
 intro f
 induction f with
 |zero=>
  intro i h
  have e:i=256:=by omega
  subst e
  rw[qbq]
  simp
 |succ f ih=>
  intro i h
  have hi:=ih (i+1) (by omega)
  have hh:=Qe c i (by omega) hp0
  have w1:IntKind.u8.wrap (i:Int)=(i:Int):=qT (by omega) (by omega)
  have w2:IntKind.i64.wrap ((i:Int)+1)=((i+1:Nat):Int):=by rw[qf]<;>omega
  have gn:ql (Cc c) 0 5=some (Cc c):=rfl
  have hlt:(i:Int)<256:=by omega
  have hr:=Zv c.2 i
  have hr2:=kr c.2 i
  have e1:jh c.2 (i+1)=jh c.2 i+(c.2.testBit i&&!(decide (0<i)&&c.2.testBit (i-1))).toNat:=rfl
  have e2:(decide (0<i+1)&&c.2.testBit (i+1-1))=c.2.testBit i:=by simp
  rw[e1,e2]at hi
  have b9:∀n:Int,B135_9 (.int .i64 n) (.bool (c.2.testBit i)) (.int .i64 (i:Int)) (Cc c) hp=B135_4 (.int .i64 n) (.bool (c.2.testBit i)) (.int .i64 ((i+1:Nat):Int)) (Cc c) hp:=by
   intro n
   rw[qsa]
   generalize((i+1:Nat):Int)=I at*
   simp[w2]
  have w3:IntKind.i64.wrap ((jh c.2 i:Int)+1)=((jh c.2 i+1:Nat):Int):=by rw[qf]<;>omega
  have mr:List.map ro1 (Cc c)=Cc c:=rfl
  rw[qbq]
  generalize jh c.2 i=R at*
  generalize(decide (0<i)&&c.2.testBit (i-1))=was at*
  generalize hI:((i+1:Nat):Int)=I at*
  cases hb:c.2.testBit i
  ·rw[hb]at hi hh b9
   have hi':B135_4 (.int .i64 (R:Nat)) (.bool false) (.int .i64 I) (Cc c) hp=some (.sc (.int .i64 (jh c.2 256:Nat)),hp):=hi
   simp[hlt,gn,mr,jn,w1,hh,b9,hi']
  ·rw[hb]at hi hh b9
   cases was
   ·have hi':B135_4 (.int .i64 ((R+1:Nat):Int)) (.bool true) (.int .i64 I) (Cc c) hp=some (.sc (.int .i64 (jh c.2 256:Nat)),hp):=hi
    generalize((R+1:Nat):Int)=R1 at*
    simp[hlt,gn,mr,jn,w1,hh,qsb,w3,b9,hi']
   ·have hi':B135_4 (.int .i64 (R:Nat)) (.bool true) (.int .i64 I) (Cc c) hp=some (.sc (.int .i64 (jh c.2 256:Nat)),hp):=hi
    simp[hlt,gn,mr,jn,w1,hh,b9,hi']
theorem qeg(c:Nat×Nat)(hp:Hp):run cxX 135 [.agg (Cc c)] hp=some (.sc (.int .i64 (jh c.2 256:Nat)),hp):=by
 have h:=qn7 c hp 256 0 rfl
 have e:(decide (0<0)&&c.2.testBit (0-1))=false:=rfl
 rw[e]at h
 have e2:jh c.2 0=0:=rfl
 rw[e2]at h
 rw[E135]
 have cn:qg 5 (.agg (Cc c))=some (Cc c):=rfl
 have mr:List.map ro1 (Cc c)=Cc c:=rfl
 simp only[Zj,cn,mr,Option.bind_some]
 exact h
theorem qe3(c:Nat×Nat)(hp:Hp):run cxX 134 [.agg (Cc c)] hp=some (.sc (.int .u8 (kind c.2:Nat)),hp):=by
 have m:=Je c hp0
 have r:=qeg c hp0
 have h1:=kr c.2 256
 have h2:=Zv c.2 256
 have cn:qg 5 (.agg (Cc c))=some (Cc c):=rfl
 have gn:ql (Cc c) 0 5=some (Cc c):=rfl
 have mr:List.map ro1 (Cc c)=Cc c:=rfl
 rw[E134]
 unfold kind
 generalize zo c.2 256=n at*
 generalize jh c.2 256=k at*
 obtain⟨A,hA⟩:∃A:Int,A=(n:Int)+1:=⟨_,rfl⟩
 obtain⟨T,hT⟩:∃T:Int,T=2*(k:Int):=⟨_,rfl⟩
 obtain⟨B,hB⟩:∃B:Int,B=2*(k:Int)+1:=⟨_,rfl⟩
 have w1:IntKind.i64.wrap ((n:Int)+1)=A:=by rw[qf]<;>omega
 have w2:IntKind.i64.wrap (2*(k:Int))=T:=by rw[qf]<;>omega
 have w3:IntKind.i64.wrap (T+1)=B:=by rw[qf]<;>omega
 have b3:B134_3 hp=some (.sc (.int .u8 0),hp):=by rw[qsd];simp
 have b4:B134_4 (.int .i64 B) hp=some (.sc (.int .u8 ((if 32<=2*k+1 then 1 else 2:Nat):Int)),hp):=by
  rw[qsc]
  by_cases h:32<=2*k+1
  ·have h':(32:Int)<=B:=by omega
   rw[if_pos h]
   simp[h']
  ·have h':¬((32:Int)<=B):=by omega
   rw[if_neg h]
   simp[h']
 by_cases d1:n+1<=32
 ·have c1:A<=32:=by omega
  by_cases d2:n+1<=2*k+1
  ·have c2:A<=B:=by omega
   rw[if_pos ⟨d1,d2⟩]
   simp[mr,gn,m,w1,r,w2,w3,c1,c2,b3]
  ·have c2:¬(A<=B):=by omega
   rw[if_neg (fun h=>d2 h.2)]
   simp[mr,gn,m,w1,r,w2,w3,c1,c2]
   simp at b4
   exact b4
 ·have c1:¬(A<=32):=by omega
  rw[if_neg (fun h=>d1 h.1)]
  simp[mr,gn,m,w1,r,w2,w3,c1]
  simp at b4
  exact b4
theorem qxj(c:Nat×Nat)(w:Nat):∀(f i:Nat) (Z:List Int) (hp:Hp),i+f=256->Z.length+f<=1000000->hp.rd w 0=some (Wc Z)->
 B81_17 (.ptr w 0 0) (.int .i64 (i:Int)) (Cc c) hp=some (.tup [],hp.put w 0 (Wc (Z++jZ c.2 f i))):=by
 intro f
 induction f with
 |zero=>
  intro i Z hp h hZ hw
  have e:i=256:=by omega
  subst e
  rw[qai]
  simp[jZ,zE hw]
 |succ f ih=>
  intro i Z hp h hZ hw
  have hh:=Qe c i (by omega) hp0
  have w1:IntKind.u8.wrap (i:Int)=(i:Int):=qT (by omega) (by omega)
  have w2:IntKind.i64.wrap ((i:Int)+1)=((i+1:Nat):Int):=by rw[qf]<;>omega
  have gn:ql (Cc c) 0 5=some (Cc c):=rfl
  have hlt:(i:Int)<256:=by omega
  have b21:∀hp',B81_21 (.ptr w 0 0) (.int .i64 (i:Int)) (Cc c) hp'=B81_17 (.ptr w 0 0) (.int .i64 ((i+1:Nat):Int)) (Cc c) hp':=by
   intro hp'
   rw[qq8]
   generalize((i+1:Nat):Int)=I at*
   simp[w2]
  have mr:List.map ro1 (Cc c)=Cc c:=rfl
  rw[qai]
  unfold jZ
  cases hb:c.2.testBit i
  ·rw[hb]at hh
   have hi:=ih (i+1) Z hp (by omega) (by omega) hw
   rw[<-b21]at hi
   simp[hlt,gn,mr,jn,w1,hh,hi]
  ·rw[hb]at hh
   have wb:=zW w Z (i:Int) (by omega) hp hw
   have hi:=ih (i+1) (Z++[(i:Int)]) (hp.put w 0 (Wc (Z++[(i:Int)]))) (by omega) (by simp;omega) (qi _ _ _)
   rw[qp,List.append_assoc,<-b21]at hi
   have e1:[(i:Int)]++jZ c.2 f (i+1)=(i:Int)::jZ c.2 f (i+1):=rfl
   rw[e1]at hi
   generalize jZ c.2 f (i+1)=AA at*
   simp[hlt,gn,mr,hh,jn,w1,wb]
   exact hi
theorem qtc(m i:Nat):(zO m (i/8)/2^(8*(i%8)))%256=m/2^(8*i)%256:=by
 apply Nat.eq_of_testBit_eq
 intro j
 have e:(256:Nat)=2^8:=rfl
 have e2:(18446744073709551616:Nat)=2^64:=rfl
 unfold zO
 rw[e,e2,Nat.testBit_mod_two_pow,Nat.testBit_mod_two_pow,Nat.testBit_div_two_pow,Nat.testBit_div_two_pow,Nat.testBit_mod_two_pow,Nat.testBit_div_two_pow]
 by_cases hj:j<8
 ·have h1:j+8*(i%8)<64:=by omega
  have h2:j+8*(i%8)+64*(i/8)=j+8*i:=by omega
  simp only[hj,h1,decide_true,Bool.true_and]
  rw[h2]
 ·simp[hj]
theorem qxi(c:Nat×Nat)(w:Nat):∀(f i:Nat) (Z:List Int) (hp:Hp),i+f=32->Z.length+f<=1000000->hp.rd w 0=some (Wc Z)->
 B81_24 (.ptr w 0 0) (.int .i64 (i:Int)) (Cc c) hp=some (.tup [],hp.put w 0 (Wc (Z++jX c.2 f i))):=by
 intro f
 induction f with
 |zero=>
  intro i Z hp h hZ hw
  have e:i=32:=by omega
  subst e
  rw[qah]
  simp[jX,zE hw]
 |succ f ih=>
  intro i Z hp h hZ hw
  have q:=qc1 i (by omega)
  have r:=qcz i
  have ix:idx 4 (.int .i64 ((i/8:Nat):Int))=some (i/8):=qU .i64 (by omega)
  have g:=Jy c (i/8) (by omega)
  have w1:IntKind.i64.wrap (8*((i%8:Nat):Int))=((8*(i%8):Nat):Int):=by rw[qf]<;>omega
  have s:=fun t o o'=>yh .u64 (zO c.2 (i/8)) (8*(i%8)) (by show 8*(i%8)<=64;omega) t o o' .i64
  have w2:IntKind.i64.wrap ((i:Int)+1)=((i+1:Nat):Int):=by rw[qf]<;>omega
  have hlt:(i:Int)<32:=by omega
  have wdb:=qtc c.2 i
  have w3:IntKind.u8.wrap ((zO c.2 (i/8)/2^(8*(i%8)):Nat):Int)=((c.2/2^(8*i)%256:Nat):Int):=by
   rw[kc,<-wdb]
   omega
  have wb:=zW w Z ((c.2/2^(8*i)%256:Nat):Int) (by omega) hp hw
  have hi:=ih (i+1) (Z++[((c.2/2^(8*i)%256:Nat):Int)]) (hp.put w 0 (Wc (Z++[((c.2/2^(8*i)%256:Nat):Int)]))) (by omega) (by simp;omega) (qi _ _ _)
  rw[qp,List.append_assoc]at hi
  have e:jX c.2 (f+1) i=[((c.2/2^(8*i)%256:Nat):Int)]++jX c.2 f (i+1):=rfl
  rw[e,<-hi,qah]
  generalize((c.2/2^(8*i)%256:Nat):Int)=y at*
  generalize((zO c.2 (i/8)/2^(8*(i%8)):Nat):Int)=x at*
  generalize((zO c.2 (i/8):Nat):Int)=x0 at*
  generalize((8*(i%8):Nat):Int)=x1 at*
  generalize((i%8:Nat):Int)=x2 at*
  generalize((i/8:Nat):Int)=x3 at*
  generalize((i+1:Nat):Int)=x4 at*
  have g':qe (Cc c) (1+i/8)=some (.int .u64 x0):=by have:=g;simpa using this
  simp[hlt,q,ix,g',r,w1,s,JC,w3,wb,w2]
theorem qxh(c:Nat×Nat)(w:Nat)(i0:Nat):∀(f i:Nat) (hp:Hp),i+f=255->B81_11 (.ptr w 0 0) (.int .i64 (i:Int)) (.int .i64 (i0:Int)) (Cc c) hp=
 B81_13 (.ptr w 0 0) (.int .i64 (jR c.2 f i:Nat)) (.int .i64 (i0:Int)) (Cc c) hp:=by
 intro f
 induction f with
 |zero=>
  intro i hp h
  have e:i=255:=by omega
  subst e
  rw[qaj]
  simp[jR]
 |succ f ih=>
  intro i hp h
  have hh:=Qe c (i+1) (by omega) hp0
  have w1:IntKind.u8.wrap ((i+1:Nat):Int)=((i+1:Nat):Int):=qT (by omega) (by omega)
  have w2:IntKind.i64.wrap ((i:Int)+1)=((i+1:Nat):Int):=by rw[qf]<;>omega
  have gn:ql (Cc c) 0 5=some (Cc c):=rfl
  have hlt:(i:Int)<255:=by omega
  have hi:=ih (i+1) hp (by omega)
  rw[qaj]
  unfold jR
  have mr:List.map ro1 (Cc c)=Cc c:=rfl
  generalize((i+1:Nat):Int)=I at*
  cases hb:c.2.testBit (i+1)
  ·rw[hb]at hh
   simp[hlt,gn,mr,w2,jn,w1,hh]
  ·rw[hb]at hh
   simp[hlt,gn,mr,w2,jn,w1,hh,qra,hi]
theorem qqi(c:Nat×Nat)(w:Nat):∀(f i:Nat) (Z:List Int) (hp:Hp),256<=i+f->i<=256->Z.length+2*f<=1000000->hp.rd w 0=some (Wc Z)->
 B81_7 (.ptr w 0 0) (.int .i64 (i:Int)) (Cc c) hp=some (.tup [],hp.put w 0 (Wc (Z++xD c.2 f i))):=by
 intro f
 induction f with
 |zero=>
  intro i Z hp h hi256 hZ hw
  have e:i=256:=by omega
  subst e
  rw[Vb]
  simp[xD,zE hw]
 |succ f ih=>
  intro i Z hp h hi256 hZ hw
  unfold xD
  by_cases h1:256<=i
  ·have hlt:¬((i:Int)<256):=by omega
   rw[if_pos h1,Vb]
   simp[hlt,zE hw]
  ·have hlt:(i:Int)<256:=by omega
   have hh:=Qe c i (by omega) hp0
   have w1:IntKind.u8.wrap (i:Int)=(i:Int):=qT (by omega) (by omega)
   have gn:ql (Cc c) 0 5=some (Cc c):=rfl
   have b8:∀(j:Nat) hp',j<=255->B81_8 (.ptr w 0 0) (.int .i64 (j:Int)) (Cc c) hp'=B81_7 (.ptr w 0 0) (.int .i64 ((j+1:Nat):Int)) (Cc c) hp':=by
    intro j hp' hj
    have w2:IntKind.i64.wrap ((j:Int)+1)=((j+1:Nat):Int):=by rw[qf]<;>omega
    rw[qyd]
    generalize((j+1:Nat):Int)=I at*
    simp[w2]
   have mr:List.map ro1 (Cc c)=Cc c:=rfl
   rw[if_neg h1,Vb]
   cases hb:c.2.testBit i
   ·rw[hb]at hh
    have hi:=ih (i+1) Z hp (by omega) (by omega) (by omega) hw
    have b8':=b8 i hp (by omega)
    rw[<-b8']at hi
    simp[hlt,gn,mr,jn,w1,hh]
    exact hi
   ·rw[hb]at hh
    have ce:=qxh c w i (255-i) i hp (by omega)
    obtain⟨r1,r2,r3,r4⟩:=vf c.2 (255-i) i
    have b8':=fun hp'=>b8 (jR c.2 (255-i) i) hp' (by omega)
    generalize jR c.2 (255-i) i=e at*
    have w3:IntKind.i64.wrap ((e:Int)-(i:Int))=((e-i:Nat):Int):=by rw[qf]<;>omega
    have w4:IntKind.u8.wrap ((e-i:Nat):Int)=((e-i:Nat):Int):=qT (by omega) (by omega)
    have wp:=vC w Z [(i:Int),((e-i:Nat):Int)] 0 (by simp;omega) hp hw
    have hi:=ih (e+1) (Z++[(i:Int),((e-i:Nat):Int)]) (hp.put w 0 (Wc (Z++[(i:Int),((e-i:Nat):Int)]))) (by omega) (by omega) (by simp;omega) (qi _ _ _)
    rw[qp,List.append_assoc]at hi
    have b13:B81_13 (.ptr w 0 0) (.int .i64 (e:Int)) (.int .i64 (i:Int)) (Cc c) hp=some (.tup [],hp.put w 0 (Wc (Z++([(i:Int),((e-i:Nat):Int)]++xD c.2 f (e+1))))):=by
     rw[qq9,<-hi,<-b8']
     generalize((e-i:Nat):Int)=d at*
     have eS:S 0 1 (LI .u8 [(i:Int),d])=AV.sl 1 [.sc (.int .u8 (i:Int)),.sc (.int .u8 d)]:=rfl
     rw[eS]at wp
     simp[jn,w1,w3,w4,xx]
     simp at wp
     simp[wp]
    simp[hlt,gn,mr,jn,w1,hh,ce]
    simpa using b13
theorem Js(m:Nat):kind m<=2:=by
 unfold kind
 split
 ·omega
 ·split<;>omega
theorem qus(c:Nat×Nat)(w:Nat)(hc:okC c)(Z:List Int)(hZ:Z.length<=900000)(hp:Hp)(hw:hp.rd w 0=some (Wc Z)):
 run cxX 81 [.agg (Cc c),.ptr w 0 0] hp=some (.tup [],hp.put w 0 (Wc (Z++jW c))):=by
 have cn:qg 5 (.agg (Cc c))=some (Cc c):=rfl
 have gn:ql (Cc c) 0 5=some (Cc c):=rfl
 have gs:qe (Cc c) 0=some (.int .u32 (c.1:Int)):=rfl
 have mr:List.map ro1 (Cc c)=Cc c:=rfl
 have bk:=qe3 c hp0
 have bm:=Je c hp0
 have br:=qeg c hp0
 have h16:=hc.1
 have w1:IntKind.u64.wrap (c.1:Int)=(c.1:Int):=qn (by omega) (by omega)
 have hu:=qx (n:=c.1) (by omega)
 have u1:=zC w c.1 Z (by omega) (by omega) hp hw
 have u2:=zW w (Z++uv c.1) ((kind c.2:Nat):Int) (by simp;omega) (hp.put w 0 (Wc (Z++uv c.1))) (qi _ _ _)
 rw[qp]at u2
 have c1:=kr c.2 256
 have c2:=Zv c.2 256
 have c3:=Xi hc.2.2
 have c4:=hc.2.2
 have hZ2:(Z++uv c.1++[((kind c.2:Nat):Int)]).length<=900011:=by simp;omega
 have eY:Z++jW c=Z++uv c.1++[((kind c.2:Nat):Int)]++wJ c.2:=by unfold jW;simp
 rw[eY,E81]
 generalize hZ3:Z++uv c.1++[((kind c.2:Nat):Int)]=Z3 at*
 simp only[Zj,cn,Option.bind_some]
 have k3:=Js c.2
 unfold wJ
 by_cases k0:kind c.2=0
 ·rw[k0]at u2 bk
  rw[if_pos k0]
  have w2:IntKind.i64.wrap ((zo c.2 256:Nat)-1:Int)=((zo c.2 256-1:Nat):Int):=by rw[qf]<;>omega
  have w3:IntKind.u8.wrap ((zo c.2 256-1:Nat):Int)=((zo c.2 256-1:Nat):Int):=qT (by omega) (by omega)
  have u3:=zW w Z3 ((zo c.2 256-1:Nat):Int) (by omega) (hp.put w 0 (Wc Z3)) (qi _ _ _)
  rw[qp]at u3
  have a:=qxj c w 256 0 (Z3++[((zo c.2 256-1:Nat):Int)]) (hp.put w 0 (Wc (Z3++[((zo c.2 256-1:Nat):Int)]))) rfl (by simp;omega) (qi _ _ _)
  rw[qp,List.append_assoc]at a
  have e:[((zo c.2 256-1:Nat):Int)]++jZ c.2 256 0=((zo c.2 256-1:Nat):Int)::jZ c.2 256 0:=rfl
  rw[e]at a
  generalize((zo c.2 256-1:Nat):Int)=n1 at*
  generalize jZ c.2 256 0=A at*
  simp at u2 a bk
  simp[mr,gn,gs,bk,zJ,w1,u1,u2,bm,w2,w3,jn,u3]
  exact a
 ·by_cases k1:kind c.2=1
  ·rw[k1]at u2 bk
   rw[if_neg k0,if_pos k1]
   have a:=qxi c w 32 0 Z3 (hp.put w 0 (Wc Z3)) rfl (by omega) (qi _ _ _)
   rw[qp]at a
   simp at u2 a bk
   simp[mr,gn,gs,bk,zJ,w1,u1,u2]
   exact a
  ·have k2:kind c.2=2:=by omega
   rw[k2]at u2 bk
   rw[if_neg k0,if_neg k1]
   have w2:IntKind.i64.wrap ((jh c.2 256:Nat)-1:Int)=((jh c.2 256-1:Nat):Int):=by rw[qf]<;>omega
   have w3:IntKind.u8.wrap ((jh c.2 256-1:Nat):Int)=((jh c.2 256-1:Nat):Int):=qT (by omega) (by omega)
   have u3:=zW w Z3 ((jh c.2 256-1:Nat):Int) (by omega) (hp.put w 0 (Wc Z3)) (qi _ _ _)
   rw[qp]at u3
   have a:=qqi c w 256 0 (Z3++[((jh c.2 256-1:Nat):Int)]) (hp.put w 0 (Wc (Z3++[((jh c.2 256-1:Nat):Int)]))) (by omega) (by omega) (by simp;omega) (qi _ _ _)
   rw[qp,List.append_assoc]at a
   have e:[((jh c.2 256-1:Nat):Int)]++xD c.2 256 0=((jh c.2 256-1:Nat):Int)::xD c.2 256 0:=rfl
   rw[e]at a
   generalize((jh c.2 256-1:Nat):Int)=n1 at*
   generalize xD c.2 256 0=A at*
   simp at u2 a bk
   simp[mr,gn,gs,bk,zJ,w1,u1,u2,br,w2,w3,jn,u3]
   exact a
def csL(cs:List (Nat×Nat)):List AV:=cs.flatMap Cc
@[simp] theorem yp (cs : List (Nat × Nat)) : (csL cs).length = 5 * cs.length := by
 induction cs with
 |nil=>rfl
 |cons c r ih=>
  have e:csL (c::r)=Cc c++csL r:=rfl
  rw[e,List.length_append,ih,List.length_cons]
  show 5+5*r.length=5*(r.length+1)
  omega
theorem JE(a b:List (Nat×Nat)):csL (a++b)=csL a++csL b:=by simp[csL]
theorem qnh{cs:List (Nat×Nat)}(h:csL cs=[]):cs=[]:=by
 have h1:=congrArg List.length h
 rw[yp]at h1
 exact List.length_eq_zero_iff.mp (by have:([]:List AV).length=0:=rfl;omega)
theorem zbx:∀(cs:List (Nat×Nat)) (i:Nat) (c:Nat×Nat),cs[i]?=some c->((csL cs).drop (i*5)).take 5=Cc c:=by
 intro cs
 induction cs with
 |nil=>intro i c h;cases h
 |cons d r ih=>
  intro i c h
  have e:csL (d::r)=Cc d++csL r:=rfl
  cases i with
  |zero=>
   have:d=c:=by simpa using h
   subst this
   rfl
  |succ i=>
   have h2:=ih i c (by simpa using h)
   have e2:(i+1)*5=5+i*5:=by omega
   have l5:(Cc d).length=5:=rfl
   rw[e,e2,<-h2,List.drop_append,l5,List.drop_eq_nil_of_le (by rw[l5];omega),List.nil_append]
   congr 2
   omega
theorem qxg(cs:List (Nat×Nat)):(csL cs).map ro1=csL cs:=by
 induction cs with
 |nil=>rfl
 |cons c r ih=>
  have e:csL (c::r)=Cc c++csL r:=rfl
  rw[e,List.map_append,ih]
  rfl
theorem ze2(cs:List (Nat×Nat)):(csL cs).all vl=true:=by
 induction cs with
 |nil=>rfl
 |cons c r ih=>
  have e:csL (c::r)=Cc c++csL r:=rfl
  rw[e,List.all_append,ih]
  rfl
theorem qkq(k:Nat)(cs:List (Nat×Nat)):yH (S k 5 (csL cs))=some cs.length:=by
 rcases jk k 5 (csL cs)with e|e|⟨e,e'⟩
 ·rw[e];show some ((csL cs).length/5)=_;rw[yp];congr 1;omega
 ·rw[e];show some ((csL cs).length/5)=_;rw[yp];congr 1;omega
 ·rw[e,qnh e'];rfl
theorem qkx(k:Nat)(cs:List (Nat×Nat))(i:Nat)(c:Nat×Nat)(h:cs[i]?=some c):yw 5 (S k 5 (csL cs)) (.int .i64 (i:Int))=some (Cc c):=by
 have hi:=(List.getElem?_eq_some_iff.mp h).1
 have key:(idx ((csL cs).length/5) (.int .i64 (i:Int))).bind (fun i=>ql (csL cs) (i*5) 5)=some (Cc c):=by
  have e:(csL cs).length/5=cs.length:=by rw[yp];omega
  rw[e,qU .i64 hi,Option.bind_some]
  unfold ql
  rw[if_pos (by rw[yp];omega),zbx cs i c h]
 rcases jk k 5 (csL cs)with e|e|⟨e,e'⟩
 ·rw[e];exact key
 ·rw[e];exact key
 ·rw[qnh e']at h;cases h
theorem KF{c:Nat×Nat}(hc:okC c):(jW c).length<=60:=by
 have h1:=qx (n:=c.1) (by have:=hc.1;omega)
 unfold jW wJ
 have a:=Yw c.2
 have b:=kj c.2
 have k3:=Js c.2
 rw[List.length_append,List.length_cons]
 by_cases k0:kind c.2=0
 ·rw[if_pos k0,List.length_cons,a]
  unfold kind at k0
  split at k0
  ·rename_i h;omega
  ·split at k0<;>omega
 ·rw[if_neg k0]
  by_cases k1:kind c.2=1
  ·rw[if_pos k1,qg2];omega
  ·rw[if_neg k1,List.length_cons,b]
   unfold kind at k0 k1
   split at k0
   ·omega
   ·rename_i h
    rw[if_neg h]at k1
    split at k1
    ·omega
    ·omega
theorem qn1(cs:List (Nat×Nat))(k w:Nat)(hcs:∀c∈cs,okC c)(hl:cs.length<=4096):∀(r:List (Nat×Nat)) (i:Nat) (Z:List Int) (hp:Hp),cs.drop i=r->Z.length+60*r.length<=900000->hp.rd w 0=some (Wc Z)->
 B33_2 (.ptr w 0 0) (S k 5 (csL cs)) (.int .i64 (cs.length:Int)) (.int .i64 (i:Int)) hp=some (.tup [],hp.put w 0 (Wc (Z++vu r))):=by
 intro r
 induction r with
 |nil=>
  intro i Z hp h hZ hw
  have h1:=qB h
  have hlt:¬((i:Int)<(cs.length:Int)):=by omega
  rw[Vh]
  simp[hlt,vu,zE hw]
 |cons c r ih=>
  intro i Z hp h hZ hw
  obtain⟨e1,e2,hi,e3⟩:=qm h
  simp only[List.length_cons]at hZ
  have hlt:(i:Int)<(cs.length:Int):=by omega
  have ix:=qkx k cs i c e1
  have hc:okC c:=hcs c (by rw[<-e3];exact List.getElem_mem _)
  have cp:=qus c w hc Z (by omega) hp hw
  have hcl:=KF hc
  have w2:IntKind.i64.wrap ((i:Int)+1)=((i+1:Nat):Int):=by rw[qf]<;>omega
  have hn:=ih (i+1) (Z++jW c) (hp.put w 0 (Wc (Z++jW c))) e2 (by simp;omega) (qi _ _ _)
  rw[qp,List.append_assoc]at hn
  have gn:ql (Cc c) 0 5=some (Cc c):=rfl
  have cn:qg 5 (.agg (Cc c))=some (Cc c):=rfl
  have mr:List.map ro1 (Cc c)=Cc c:=rfl
  have pn:∀a b c' d e:Value,qh [.sc a,.sc b,.sc c',.sc d,.sc e] 0 (Cc c)=some (Cc c):=fun _ _ _ _ _=>rfl
  have e:vu (c::r)=jW c++vu r:=rfl
  rw[e,<-hn,Vh]
  generalize((i+1:Nat):Int)=I at*
  simp only[Zj,Qx,hlt,decide_true,jt,Option.bind_some,cond_true,ix,gn,cn,pn,mr]
  have r0:ro (AV.ptr w 0 0)=AV.ptr w 0 0:=rfl
  have ra:ro (.agg (Cc c))= .agg (Cc c):=rfl
  simp only[Zj,mr,cn,pn,gn,Option.bind_some,r0,ra,cp]
  simp[w2]
theorem qt4(cs:List (Nat×Nat))(k w:Nat)(hcs:∀c∈cs,okC c)(hl:cs.length<=4096)(Z:List Int)(hZ:Z.length<=100000)(hp:Hp)(hw:hp.rd w 0=some (Wc Z)):
 run cxX 33 [S k 5 (csL cs),.ptr w 0 0] hp=some (.tup [],hp.put w 0 (Wc (Z++vx cs))):=by
 have hu:=qx (n:=cs.length) (by omega)
 have u1:=zC w cs.length Z (by omega) (by omega) hp hw
 have a:=qn1 cs (rk k) w hcs hl cs 0 (Z++uv cs.length) (hp.put w 0 (Wc (Z++uv cs.length))) rfl (by simp;omega) (qi _ _ _)
 rw[qp,List.append_assoc]at a
 have w1:IntKind.u64.wrap (cs.length:Int)=(cs.length:Int):=qn (by omega) (by omega)
 rw[E33]
 have l5:=fun k=>qkq k cs
 simp at a
 simp[l5,xj,w1,u1,a,vx]
def kf(x:Nat):List (Nat×Nat)->List (Nat×Nat)
 |[]=>[(x/256,2^(x%256))]
 |[c]=>if c.1=x/256 then [(c.1,c.2|||2^(x%256))]else [c,(x/256,2^(x%256))]
 |c::d::r=>c::kf x (d::r)
theorem qu4(x y:Nat):∀cs,xM y (kf x cs)=kf x (xM y cs):=by
 intro cs
 match cs with
 |[]=>
  show xM y [(x/256,2^(x%256))]=kf x [(y/256,2^(y%256))]
  rw[zN]
  show _=if y/256=x/256 then _ else _
  by_cases h:x/256=y/256
  ·rw[if_pos h,if_pos h.symm,h,Nat.or_comm]
  ·rw[if_neg h,if_neg (fun e=>h e.symm)]
 |[c]=>
  show xM y (if c.1=x/256 then [(c.1,c.2|||2^(x%256))]else [c,(x/256,2^(x%256))])=kf x (xM y [c])
  rw[zN]
  by_cases h1:c.1=x/256
  ·rw[if_pos h1,zN]
   by_cases h2:c.1=y/256
   ·rw[if_pos h2,if_pos h2]
    show _=if c.1=x/256 then _ else _
    rw[if_pos h1]
    show [(c.1,c.2|||2^(x%256)|||2^(y%256))]=[(c.1,c.2|||2^(y%256)|||2^(x%256))]
    rw[Nat.or_assoc,Nat.or_comm (2^(x%256)),<-Nat.or_assoc]
   ·rw[if_neg h2,if_neg h2]
    show _=_::(if c.1=x/256 then _ else _)
    rw[if_pos h1]
  ·rw[if_neg h1,zN]
   by_cases h2:c.1=y/256
   ·rw[if_pos h2,if_pos h2]
    show _=if c.1=x/256 then _ else _
    rw[if_neg h1]
   ·rw[if_neg h2,if_neg h2]
    show _=_::(if c.1=x/256 then _ else _)
    rw[if_neg h1]
 |c::d::r=>
  show xM y (c::kf x (d::r))=kf x (xM y (c::d::r))
  rw[zN,zN]
  split
  ·rfl
  ·rfl
theorem qxp(x:Nat):∀l,jG (l++[x])=kf x (jG l):=by
 intro l
 induction l with
 |nil=>rfl
 |cons y r ih=>
  show xM y (jG (r++[x]))=kf x (xM y (jG r))
  rw[ih,qu4]
theorem qtr(x:Nat)(c:Nat×Nat):∀ds,kf x (ds++[c])=ds++(if c.1=x/256 then [(c.1,c.2|||2^(x%256))]else [c,(x/256,2^(x%256))]):=by
 intro ds
 induction ds with
 |nil=>rfl
 |cons d r ih=>
  cases r with
  |nil=>
   show d::kf x [c]=_
   rfl
  |cons e s=>
   show d::kf x (e::s++[c])=_
   rw[ih]
   rfl
theorem WP(A L:List AV)(i:Nat):qe (A++L) (A.length+i)=qe L i:=by
 unfold qe
 rw[List.getElem?_append_right (by omega)]
 congr 2
 omega
theorem qu5(A L M:List AV)(i:Nat)(vs:List AV)(h:qh L i vs=some M):qh (A++L) (A.length+i) vs=some (A++M):=by
 unfold qh at h⊢
 split at h
 ·rename_i hi
  rw[if_pos (by rw[List.length_append];omega)]
  have e:L.take i++vs++L.drop (i+vs.length)=M:=Option.some.inj h
  rw[<-e,List.take_append,List.take_of_length_le (by omega),List.drop_append,List.drop_eq_nil_of_le (by omega),List.nil_append]
  have e1:A.length+i-A.length=i:=by omega
  have e2:A.length+i+vs.length-A.length=i+vs.length:=by omega
  rw[e1,e2]
  simp
 ·cases h
theorem zc6(m i j:Nat)(hi:i<256):zO (m|||2^i) j=if j=i/64 then zO m j|||2^(i%64)else zO m j:=by
 apply Nat.eq_of_testBit_eq
 intro k
 have e2:(18446744073709551616:Nat)=2^64:=rfl
 by_cases hj:j=i/64
 ·rw[if_pos hj]
  unfold zO
  rw[e2,Nat.testBit_or,Nat.testBit_mod_two_pow,Nat.testBit_mod_two_pow,Nat.testBit_div_two_pow,Nat.testBit_div_two_pow,Nat.testBit_or,zT,zT]
  by_cases hk:k<64
  ·have e:(i=k+64*j)↔(i%64=k):=by omega
   simp only[hk,decide_true,Bool.true_and]
   congr 1
   exact decide_eq_decide.mpr e
  ·have:¬(i%64=k):=by omega
   simp[hk,this]
 ·rw[if_neg hj]
  unfold zO
  rw[e2,Nat.testBit_mod_two_pow,Nat.testBit_mod_two_pow,Nat.testBit_div_two_pow,Nat.testBit_div_two_pow,Nat.testBit_or,zT]
  by_cases hk:k<64
  ·have:¬(i=k+64*j):=by omega
   simp[this]
  ·simp[hk]
theorem zd4(x c:Nat)(hx:x<18446744073709551616)(hc:c<18446744073709551616)(t:TypeId)(o o':Operand):qr Tryz.prog .or t o o' (.int .u64 (x:Int)) (.int .u64 (c:Int))=some (.int .u64 ((x|||c:Nat):Int)):=by
 rw[zG]
 have hl:x|||c<2^64:=Nat.or_lt_two_pow hx hc
 have e:(BitVec.ofInt IntKind.u64.bits (x:Int)|||BitVec.ofInt IntKind.u64.bits (c:Int)).toNat=x|||c:=by
  show(BitVec.ofInt 64 (x:Int)|||BitVec.ofInt 64 (c:Int)).toNat=_
  rw[BitVec.ofInt_natCast,BitVec.ofInt_natCast,BitVec.toNat_or,BitVec.toNat_ofNat,BitVec.toNat_ofNat]
  rw[Nat.mod_eq_of_lt (by omega),Nat.mod_eq_of_lt (by omega)]
 rw[e,qn (by omega) (by omega)]
theorem shl1(k:Nat)(hk:k<64)(t:TypeId)(o o':Operand):qr Tryz.prog .shl t o o' (.int .u64 1) (.int .u8 (k:Int))=some (.int .u64 ((2^k:Nat):Int)):=by
 have hp:(2:Nat)^k<2^64:=Nat.pow_lt_pow_right (by decide) hk
 have e64:(2:Nat)^64=18446744073709551616:=rfl
 rw[zF _ _ _ _ _ _ _ _ (by omega),Int.toNat_natCast,Nat.min_eq_left (show k<=IntKind.u64.bits from Nat.le_of_lt hk),Int.one_mul]
 have e:(2:Int)^k=((2^k:Nat):Int):=by simp
 rw[e]
 generalize 2^k=z at*
 rw[qn (by omega) (by omega)]
theorem qz7(c:Nat×Nat)(i:Nat)(hi:i<256):qh (Cc c) (1+i/64) [.sc (.int .u64 (zO c.2 (i/64)|||2^(i%64):Nat))]=some (Cc (c.1,c.2|||2^i)):=by
 have h:i/64=0\/i/64=1\/i/64=2\/i/64=3:=by omega
 have w:=fun j=>zc6 c.2 i j hi
 have e:Cc (c.1,c.2|||2^i)=[.sc (.int .u32 (c.1:Int)),.sc (.int .u64 (zO (c.2|||2^i) 0:Nat)),.sc (.int .u64 (zO (c.2|||2^i) 1:Nat)),.sc (.int .u64 (zO (c.2|||2^i) 2:Nat)),.sc (.int .u64 (zO (c.2|||2^i) 3:Nat))]:=rfl
 rw[e,w 0,w 1,w 2,w 3]
 rcases h with h|h|h|h<;>rw[h]<;>rfl
theorem Wj(ds:List (Nat×Nat))(c:Nat×Nat)(b i:Nat)(hi:i<256)(hp:Hp)(h:hp.rd b 0=some (csL (ds++[c]))):
 run cxX 80 [.ptr b 0 (5*ds.length),.sc (.int .u8 (i:Int))] hp=some (.tup [],hp.put b 0 (csL (ds++[(c.1,c.2|||2^i)]))):=by
 have s1:∀t o o',qr Tryz.prog .shr t o o' (.int .u8 (i:Int)) (.int .u64 6)=some (.int .u8 ((i/64:Nat):Int)):=fun t o o'=>yh .u8 i 6 (by decide) t o o' .u64
 have ix:idx 4 (.int .u8 ((i/64:Nat):Int))=some (i/64):=qU .u8 (by omega)
 have a:=zc3 i hi
 have s2:=shl1 (i%64) (by omega)
 have h64:(2:Nat)^(i%64)<18446744073709551616:=Nat.pow_lt_pow_right (by decide) (show i%64<64 by omega)
 have o:=zd4 (zO c.2 (i/64)) (2^(i%64)) (Zl _ _) h64
 have e1:csL (ds++[c])=csL ds++Cc c:=by rw[JE];simp[csL]
 have e2:csL (ds++[(c.1,c.2|||2^i)])=csL ds++Cc (c.1,c.2|||2^i):=by rw[JE];simp[csL]
 have g:=WP (csL ds) (Cc c) (1+i/64)
 have g2:qe (Cc c) (1+i/64)=some (.int .u64 (zO c.2 (i/64):Nat)):=by have:=Jy c (i/64) (by omega);simpa using this
 rw[g2]at g
 have p:=qu5 (csL ds) (Cc c) _ (1+i/64) _ (qz7 c i hi)
 have eo:(csL ds).length+(1+i/64)=5*ds.length+1+i/64:=by rw[yp];omega
 rw[eo]at g p
 rw[e1]at h
 rw[e2,E80]
 generalize csL ds++Cc c=L1 at*
 generalize csL ds++Cc (c.1,c.2|||2^i)=L2 at*
 generalize((zO c.2 (i/64)|||2^(i%64):Nat):Int)=q3 at*
 generalize((zO c.2 (i/64):Nat):Int)=q0 at*
 generalize((2^(i%64):Nat):Int)=q1 at*
 generalize((i%64:Nat):Int)=q2 at*
 generalize((i/64:Nat):Int)=q4 at*
 generalize 5*ds.length=N at*
 simp[s1,ix,h,g,a,s2,o,p,-qS,-zG]
def XC(nb:Nat)(cs:List (Nat×Nat)):AV:=if cs=[]then S 2 1 []else .ms nb 0 0 cs.length 5
def CH(h0:Nat)(hp:Hp)(nb:Nat)(cs:List (Nat×Nat)):Prop:=cs≠[]->nb<hp.next/\h0<=nb/\hp.rd nb 0=some (csL cs)
theorem zct(c:Nat×Nat):zt 5 (Cc c)=1:=by simp[zt]
theorem zcc(x:Nat)(hp:Hp):jo 40 5 (S 2 1 []) (.us 5 (Cc (x,0))) hp=some (.ms hp.next 0 0 1 5,hp.new (csL [(x,0)])):=by
 have hs:wW hp 5 (.us 5 (Cc (x,0)))=some (Cc (x,0)):=rfl
 have hm:=zct (x,0)
 unfold jo
 rw[hs]
 show(wI (vI nil0=true/\yk 40 5 5=true)).bind (fun _=>some (AV.ms hp.next 0 0 (zt 5 (Cc (x,0))) 5,hp.new (Cc (x,0))))=_
 rw[hm,xG ⟨rfl,by decide⟩,Option.bind_some]
 rfl
theorem zcb(x b:Nat)(cs:List (Nat×Nat))(hl:cs.length<=100000)(hne:cs≠[])(hp:Hp)(hb:hp.rd b 0=some (csL cs)):
 jo 40 5 (.ms b 0 0 cs.length 5) (.us 5 (Cc (x,0))) hp=some (.ms hp.next 0 0 (cs.length+1) 5,(hp.del b).new (csL (cs++[(x,0)]))):=by
 have hpos:0<cs.length:=List.length_pos_iff.mpr hne
 have hs:wW hp 5 (.us 5 (Cc (x,0)))=some (Cc (x,0)):=rfl
 have hf:yk 40 5 (cs.length*5+5)=true:=by
  unfold yk
  simp
  omega
 have e:((csL cs).take (cs.length*5)).map ro1++Cc (x,0)=csL (cs++[(x,0)]):=by
  rw[List.take_of_length_le (by rw[yp];omega),qxg,JE]
  simp[csL]
 unfold jo
 rw[hs]
 show(wI (5=5/\0=0/\0<cs.length)).bind _=_
 rw[xG ⟨rfl,rfl,hpos⟩,Option.bind_some,hb,Option.bind_some]
 show(wI (cs.length*5<=(csL cs).length/\yk 40 5 (cs.length*5+5)=true)).bind _=_
 rw[xG ⟨by rw[yp];omega,hf⟩,Option.bind_some]
 have hm:=zct (x,0)
 show some (AV.ms hp.next 0 0 (cs.length+zt 5 (Cc (x,0))) 5,(hp.del b).new (((csL cs).take (cs.length*5)).map ro1++Cc (x,0)))=_
 rw[e,hm]
theorem Xw(j:Nat):zO 0 j=0:=by unfold zO;simp
theorem Xs:∀l,(jG l).length<=l.length:=by
 intro l
 induction l with
 |nil=>exact Nat.le_refl _
 |cons x r ih=>
  show(xM x (jG r)).length<=_
  cases hq:jG r with
  |nil=>simp[xM]
  |cons c s=>
   rw[hq]at ih
   rw[zN]
   split<;>simp at ih⊢<;>omega
section
variable (l:List Nat)(k k':Nat)(hl:l.length<=4096)(h32:∀x∈l,x<4294967296)(hr:zi l)
theorem qju(h0 i x nb:Nat)(hx:x<4294967296)(cs:List (Nat×Nat))(hcl:cs.length<=5000)(ds:List (Nat×Nat))(c:Nat×Nat)(hcs:cs=ds++[c])(hp:Hp)(hC:CH h0 hp nb cs)(hi:i<5000):
 ∃hp',B32_12 (S k 1 (LI .u32 (nz l))) (XC nb cs) (.int .u32 (x:Int)) (S k' 1 (LI .u32 (nz l))) (.int .i64 (l.length:Int)) (.int .i64 (i:Int)) hp=
  B32_5 (S k 1 (LI .u32 (nz l))) (XC nb (ds++[(c.1,c.2|||2^(x%256))])) (S k' 1 (LI .u32 (nz l))) (.int .i64 (l.length:Int)) (.int .i64 ((i+1:Nat):Int)) hp'/\
  CH h0 hp' nb (ds++[(c.1,c.2|||2^(x%256))])/\hp.next<=hp'.next/\∀a,a<h0->hp'.get a=hp.get a:=by
 have hne:cs≠[]:=by rw[hcs];simp
 obtain⟨c1,c2,c3⟩:=hC hne
 rw[hcs]at c3
 have hlen:cs.length=ds.length+1:=by rw[hcs];simp
 have ca:=Wj ds c nb (x%256) (by omega) hp c3
 have eX:XC nb cs= .ms nb 0 0 (ds.length+1) 5:=by unfold XC;rw[if_neg hne,hlen]
 have eX2:XC nb (ds++[(c.1,c.2|||2^(x%256))])= .ms nb 0 0 (ds.length+1) 5:=by unfold XC;rw[if_neg (by simp)];simp
 have w1:IntKind.i64.wrap (((ds.length+1:Nat):Int)-1)=(ds.length:Int):=by rw[qf]<;>omega
 have ix:idx (ds.length+1) (.int .i64 (ds.length:Int))=some ds.length:=qU .i64 (by omega)
 have w2:IntKind.u8.wrap (x:Int)=((x%256:Nat):Int):=by rw[kc];rfl
 have w3:IntKind.i64.wrap ((i:Int)+1)=((i+1:Nat):Int):=by rw[qf]<;>omega
 refine⟨hp.put nb 0 (csL (ds++[(c.1,c.2|||2^(x%256))])),?_,fun _=>⟨c1,c2,qi _ _ _⟩,Nat.le_refl _,fun a ha=>?_⟩
 ·rw[eX,eX2,qrn]
  have o5:∀n:Nat,n+n+n+n+n=5*n:=fun n=>by omega
  generalize csL (ds++[(c.1,c.2|||2^(x%256))])=L at*
  generalize((x%256:Nat):Int)=y at*
  generalize((i+1:Nat):Int)=I at*
  have hln:yH (.ms nb 0 0 (ds.length+1) 5)=some (ds.length+1):=rfl
  have hms:∀a b c d e,qL (.ms a b c d e)=some (a,b,c,d,e):=fun _ _ _ _ _=>rfl
  have w9:IntKind.i64.wrap (ds.length:Int)=(ds.length:Int):=qf (by omega) (by omega)
  simp only[Int.natCast_add,Int.natCast_one]at w1
  simp[hln,w1,w9,hms,ix,o5,zbu,w2,ca,w3]
 ·have:a≠nb:=by omega
  simp[Hp.put,this]
theorem qgh:∀(cs:List (Nat×Nat)),cs≠[]->∃ds c,cs=ds++[c]:=by
 intro cs h
 exact⟨cs.dropLast,cs.getLast h,(List.dropLast_concat_getLast h).symm⟩
theorem zgq(h0 i x nb:Nat)(hx:x<4294967296)(cs:List (Nat×Nat))(hcl:cs.length<=4096)(hp:Hp)(hh:h0<=hp.next)(hC:CH h0 hp nb cs)(hi:i<5000):
 ∃hp' nb',B32_9 (S k 1 (LI .u32 (nz l))) (XC nb cs) (.int .u32 (x:Int)) (S k' 1 (LI .u32 (nz l))) (.int .i64 (l.length:Int)) (.int .i64 (i:Int)) hp=
  B32_5 (S k 1 (LI .u32 (nz l))) (XC nb' (kf x cs)) (S k' 1 (LI .u32 (nz l))) (.int .i64 (l.length:Int)) (.int .i64 ((i+1:Nat):Int)) hp'/\
  CH h0 hp' nb' (kf x cs)/\hp.next<=hp'.next/\∀a,a<h0->hp'.get a=hp.get a:=by
 have s8:∀t o o',qr Tryz.prog .shr t o o' (.int .u32 (x:Int)) (.int .u64 8)=some (.int .u32 ((x/256:Nat):Int)):=fun t o o'=>yh .u32 x 8 (by decide) t o o' .u64
 have hms:∀a b c d e,qL (.ms a b c d e)=some (a,b,c,d,e):=fun _ _ _ _ _=>rfl
 by_cases hne:cs=[]
 ·subst hne
  have eX:XC nb []=S 2 1 []:=rfl
  have eX1:XC hp.next [(x/256,0)]= .ms hp.next 0 0 1 5:=rfl
  have ap:=zcc (x/256) hp
  have hC2:CH h0 (hp.new (csL [(x/256,0)])) hp.next [(x/256,0)]:=fun _=>⟨Nat.lt_succ_self _,hh,qz _ _⟩
  obtain⟨hp',a1,a2,a3,a4⟩:=qju l k k' h0 i x hp.next hx [(x/256,0)] (by simp) [] (x/256,0) rfl _ hC2 hi
  have ez:0|||2^(x%256)=2^(x%256):=Nat.zero_or _
  simp only[List.nil_append,ez]at a1 a2
  refine⟨hp',hp.next,?_,a2,by simp at a3;omega,fun a ha=>by
   rw[a4 a ha]
   have:a≠hp.next:=by omega
   simp[Hp.new,this]⟩
  have es:kf x []=[(x/256,2^(x%256))]:=rfl
  rw[es,<-a1,eX,eX1,Vi]
  have b11:B32_11 (S k 1 (LI .u32 (nz l))) (S 2 1 []) (.int .u32 (x:Int)) (S k' 1 (LI .u32 (nz l))) (.int .i64 (l.length:Int)) (.int .i64 (i:Int)) hp=
   B32_12 (S k 1 (LI .u32 (nz l))) (.ms hp.next 0 0 1 5) (.int .u32 (x:Int)) (S k' 1 (LI .u32 (nz l))) (.int .i64 (l.length:Int)) (.int .i64 (i:Int)) (hp.new (csL [(x/256,0)])):=by
   rw[qas]
   have w0:∀j,zO 0 j=0:=Xw
   simp only[Cc,w0]at ap
   generalize csL [(x/256,0)]=L at*
   generalize((x/256:Nat):Int)=y at*
   simp at ap
   simp[s8,xx,ap]
  simp[b11]
 ·obtain⟨ds,c,hcs⟩:=qgh cs hne
  have hlen:cs.length=ds.length+1:=by rw[hcs];simp
  obtain⟨c1,c2,c3⟩:=hC hne
  have eX:XC nb cs= .ms nb 0 0 (ds.length+1) 5:=by unfold XC;rw[if_neg hne,hlen]
  have w1:IntKind.i64.wrap (((ds.length+1:Nat):Int)-1)=(ds.length:Int):=by rw[qf]<;>omega
  have w9:IntKind.i64.wrap (ds.length:Int)=(ds.length:Int):=qf (by omega) (by omega)
  have ix:idx (ds.length+1) (.int .i64 (ds.length:Int))=some ds.length:=qU .i64 (by omega)
  have e1:csL cs=csL ds++Cc c:=by rw[hcs,JE];simp[csL]
  have g:=WP (csL ds) (Cc c) 0
  rw[<-e1,yp,Nat.add_zero]at g
  have g0:qe (Cc c) 0=some (.int .u32 (c.1:Int)):=rfl
  rw[g0]at g
  have hln:yH (.ms nb 0 0 (ds.length+1) 5)=some (ds.length+1):=rfl
  have o5:∀n:Nat,n+n+n+n+n=5*n:=fun n=>by omega
  have h0':¬(((ds.length+1:Nat):Int)=0):=by omega
  rw[hcs,qtr,<-hcs]
  by_cases hk:c.1=x/256
  ·rw[if_pos hk]
   obtain⟨hp',a1,a2,a3,a4⟩:=qju l k k' h0 i x nb hx cs (by omega) ds c hcs hp hC hi
   refine⟨hp',nb,?_,a2,a3,a4⟩
   rw[<-a1,eX,Vi]
   have hk':(c.1:Int)=((x/256:Nat):Int):=by omega
   rw[hk']at g
   generalize((x/256:Nat):Int)=y at*
   simp only[Int.natCast_add,Int.natCast_one]at w1 h0'
   simp[hln,h0',w1,w9,hms,ix,c3,o5,g,s8]
  ·rw[if_neg hk]
   have ap:=zcb (x/256) nb cs (by omega) hne hp c3
   have hC2:CH h0 ((hp.del nb).new (csL (cs++[(x/256,0)]))) hp.next (cs++[(x/256,0)]):=fun _=>⟨Nat.lt_succ_self _,hh,qz _ _⟩
   obtain⟨hp',a1,a2,a3,a4⟩:=qju l k k' h0 i x hp.next hx (cs++[(x/256,0)]) (by simp;omega) cs (x/256,0) rfl _ hC2 hi
   have ez:0|||2^(x%256)=2^(x%256):=Nat.zero_or _
   simp only[ez]at a1 a2
   have ec:ds++[c,(x/256,2^(x%256))]=cs++[(x/256,2^(x%256))]:=by rw[hcs];simp
   rw[ec]
   refine⟨hp',hp.next,?_,a2,by simp[Hp.del]at a3;omega,fun a ha=>by
    rw[a4 a ha]
    exact(Fm.delNew (X:=[nb]) hp nb _ (by simp)).2 a (by omega) (by simp;omega)⟩
   have eX2:XC hp.next (cs++[(x/256,0)])= .ms hp.next 0 0 (cs.length+1) 5:=by unfold XC;rw[if_neg (by simp)];simp
   rw[<-a1,eX,eX2,Vi]
   rw[hlen]at ap⊢
   have b11:B32_11 (S k 1 (LI .u32 (nz l))) (.ms nb 0 0 (ds.length+1) 5) (.int .u32 (x:Int)) (S k' 1 (LI .u32 (nz l))) (.int .i64 (l.length:Int)) (.int .i64 (i:Int)) hp=
    B32_12 (S k 1 (LI .u32 (nz l))) (.ms hp.next 0 0 (ds.length+1+1) 5) (.int .u32 (x:Int)) (S k' 1 (LI .u32 (nz l))) (.int .i64 (l.length:Int)) (.int .i64 (i:Int)) ((hp.del nb).new (csL (cs++[(x/256,0)]))):=by
    rw[qas]
    have w0:∀j,zO 0 j=0:=Xw
    simp only[Cc,w0]at ap
    generalize csL (cs++[(x/256,0)])=L at*
    generalize((x/256:Nat):Int)=y at*
    simp at ap
    simp[s8,xx,ap]
   have hk':¬((c.1:Int)=((x/256:Nat):Int)):=by omega
   generalize((x/256:Nat):Int)=y at*
   generalize(c.1:Int)=z at*
   simp only[Int.natCast_add,Int.natCast_one]at w1 h0'
   simp[hln,h0',w1,w9,hms,ix,c3,o5,g,s8,hk',b11]
include hl h32 hr
theorem qux(h0:Nat):∀(r:List Nat) (i nb:Nat) (hp:Hp),l.drop i=r->i+r.length=l.length->h0<=hp.next->CH h0 hp nb (jG (l.take i))->
 ∃hp' nb',B32_5 (S k 1 (LI .u32 (nz l))) (XC nb (jG (l.take i))) (S k' 1 (LI .u32 (nz l))) (.int .i64 (l.length:Int)) (.int .i64 (i:Int)) hp=
  B32_5 (S k 1 (LI .u32 (nz l))) (XC nb' (jG l)) (S k' 1 (LI .u32 (nz l))) (.int .i64 (l.length:Int)) (.int .i64 (l.length:Int)) hp'/\CH h0 hp' nb' (jG l)/\hp.next<=hp'.next/\∀a,a<h0->hp'.get a=hp.get a:=by
 intro r
 induction r with
 |nil=>
  intro i nb hp h hil hh hC
  have e:i=l.length:=by simpa using hil
  subst e
  rw[List.take_length]at hC⊢
  exact⟨hp,nb,rfl,hC,Nat.le_refl _,fun _ _=>rfl⟩
 |cons x r ih=>
  intro i nb hp h hil hh hC
  obtain⟨e1,e2,hi,e3⟩:=qm h
  simp only[List.length_cons]at hil
  have hlt:(i:Int)<(l.length:Int):=by omega
  have hx:x<4294967296:=h32 x (by rw[<-e3];exact List.getElem_mem _)
  have hcl:=Xs (l.take i)
  have hti:(l.take i).length<=i:=by simp;omega
  obtain⟨hp1,nb1,a1,a2,a3,a4⟩:=zgq l k k' h0 i x nb hx (jG (l.take i)) (by omega) hp hh hC (by omega)
  have et:l.take (i+1)=l.take i++[x]:=by rw[List.take_add_one,e1];rfl
  rw[<-qxp,<-et]at a1 a2
  obtain⟨hp2,nb2,b1,b2,b3,b4⟩:=ih (i+1) nb1 hp1 e2 (by omega) (by omega) a2
  refine⟨hp2,nb2,?_,b2,by omega,fun a ha=>by rw[b4 a ha,a4 a ha]⟩
  rw[<-b1,<-a1,JQ]
  have gs0:∀(v:Value),qe [.sc v] 0=some v:=fun _=>rfl
  have en:∀h,(nz l)[i]'h=(x:Int):=fun h=>by simp[nz,e3]
  have hi4:(i<l.length)=True:=by simp[hi]
  generalize XC nb (jG (l.take i))=X1 at*
  by_cases hi1:i=0
  ·have hi2:(0<i)=False:=by simp[hi1]
   clear hi1
   simp[hi4,gs0,hi2,en]
  ·have hlt2:=kn l hr (i-1) (by omega)
   have e:i-1+1=i:=by omega
   have ex:l.getD i 0=x:=by rw[List.getD_eq_getElem?_getD,e1];rfl
   rw[e,ex]at hlt2
   have w9:IntKind.i64.wrap ((i:Int)-1)=((i-1:Nat):Int):=by rw[qf]<;>omega
   have hi2:0<i:=by omega
   have g0:(0:Int)<=((i-1:Nat):Int):=by omega
   have aj':(nz l)[(((i-1:Nat):Int)).toNat]?=some ((l.getD (i-1) 0:Nat):Int):=by
    rw[Int.toNat_natCast];unfold nz
    rw[List.getElem?_map,List.getD_eq_getElem?_getD,List.getElem?_eq_getElem (by omega)];rfl
   generalize l.getD (i-1) 0=y at*
   have hle':¬((x:Int)<=(y:Int)):=by omega
   generalize((i-1:Nat):Int)=j at*
   simp[hi4,gs0,hi2,en,w9,aj',g0,hle']
theorem qzi(hp:Hp):∃t hp',run cxX 32 [S k 1 (LI .u32 (nz l))] hp=some (.tup [S t 5 (csL (jG l)),.sc (.int .i64 0)],hp')/\Fm [] hp hp':=by
 obtain⟨hp1,nb,a1,a2,a3,a4⟩:=qux l k (rk k) hl h32 hr hp.next l 0 hp.next hp rfl (by simp) (Nat.le_refl _) (fun h=>absurd rfl h)
 have eX0:XC hp.next (jG (l.take 0))=S 2 1 []:=rfl
 rw[eX0]at a1
 have h1':¬((4096:Int)<(l.length:Int)):=by omega
 by_cases hne:jG l=[]
 ·have eX:XC nb (jG l)=S 2 1 []:=by unfold XC;rw[if_pos hne]
  rw[eX]at a1
  refine⟨2,hp1,?_,a3,fun c hc _=>a4 c hc⟩
  have b5:B32_5 (S k 1 (LI .u32 (nz l))) (S 2 1 []) (S (rk k) 1 (LI .u32 (nz l))) (.int .i64 (l.length:Int)) (.int .i64 (l.length:Int)) hp1=some (.tup [S 2 5 [],.sc (.int .i64 0)],hp1):=by
   rw[JQ]
   simp
   rfl
  rw[<-a1]at b5
  have ec:csL (jG l)=[]:=by rw[hne];rfl
  rw[ec,E32]
  simp at b5
  simp[h1',b5]
 ·obtain⟨c1,c2,c3⟩:=a2 hne
  have eX:XC nb (jG l)= .ms nb 0 0 (jG l).length 5:=by unfold XC;rw[if_neg hne]
  rw[eX]at a1
  have fz:xQ hp1 (.ms nb 0 0 (jG l).length 5)=some (S 0 5 (csL (jG l)),hp1.del nb):=by
   have gn:ql (csL (jG l)) 0 ((jG l).length*5)=some (csL (jG l)):=by
    unfold ql
    rw[if_pos (by rw[yp];omega),List.drop_zero,List.take_of_length_le (by rw[yp];omega)]
   have hv:=ze2 (jG l)
   have hro:=qxg (jG l)
   simp only[Zj,xQ,c3,Option.bind_some,gn,hv,wI,hro]
   rfl
  refine⟨0,hp1.del nb,?_,by simpa[Hp.del]using a3,fun c hc _=>?_⟩
  ·have b5:B32_5 (S k 1 (LI .u32 (nz l))) (.ms nb 0 0 (jG l).length 5) (S (rk k) 1 (LI .u32 (nz l))) (.int .i64 (l.length:Int)) (.int .i64 (l.length:Int)) hp1=some (.tup [S 0 5 (csL (jG l)),.sc (.int .i64 0)],hp1.del nb):=by
    rw[JQ]
    simp[fz]
   rw[<-a1]at b5
   rw[E32]
   simp at b5
   simp[h1',b5]
  ·have:c≠nb:=by omega
   show(if c=nb then none else hp1.get c)=_
   rw[if_neg this,a4 c hc]
end
def MW(hp:Hp)(m cb:Nat)(cs:List Nat):Prop:=
 m<hp.next/\cb<hp.next/\cb≠m/\hp.rd cb 0=some (LI .i64 (nz cs))/\hp.rd m 0=some [.ms cb 0 0 cs.length 1,.sc (.int .i64 (cs.sum:Nat))]
theorem MW.fr{hp hp':Hp}{m cb:Nat}{cs:List Nat}{X:List Nat}(h:MW hp m cb cs)(f:Fm X hp hp')(h1:m∉X)(h2:cb∉X):MW hp' m cb cs:=
 ⟨Nat.lt_of_lt_of_le h.1 f.1,Nat.lt_of_lt_of_le h.2.1 f.1,h.2.2.1,by rw[f.rd h.2.1 h2];exact h.2.2.2.1,by rw[f.rd h.1 h1];exact h.2.2.2.2⟩
def MN(hp:Hp)(m cb i:Nat):Prop:=
 m<hp.next/\(i≠0->cb<hp.next/\m<cb/\hp.rd cb 0=some (LI .i64 (nz (List.replicate i 1))))/\hp.rd m 0=some [if i=0 then S 2 1 []else .ms cb 0 0 i 1,.sc (.int .i64 (i:Int))]
theorem vi(l:List Nat)(x:Nat):nz (l++[x])=nz l++[(x:Int)]:=by simp[nz]
theorem qpu(m:Nat):∀(f i cb:Nat) (hp:Hp),i+f=64->MN hp m cb i->
 ∃hp' cb',B137_3 (.ptr m 0 0) (.int .i64 64) (.int .i64 (i:Int)) hp=some (.ptr m 0 0,hp')/\MN hp' m cb' 64/\hp.next<=hp'.next/\∀c,c<m->hp'.get c=hp.get c:=by
 intro f
 induction f with
 |zero=>
  intro i cb hp h hm
  have e:i=64:=by omega
  subst e
  refine⟨hp,cb,?_,hm,Nat.le_refl _,fun _ _=>rfl⟩
  rw[YB]
  simp
 |succ f ih=>
  intro i cb hp h hm
  obtain⟨h1,h2,h3⟩:=hm
  have hlt:(i:Int)<64:=by omega
  have w1:IntKind.i64.wrap ((i:Int)+1)=((i+1:Nat):Int):=by rw[qf]<;>omega
  by_cases h0:i=0
  ·subst h0
   have ap:=wM .i64 1 8 (by decide) hp
   have hne:m≠hp.next:=by omega
   have r1:=zX hp (LI .i64 [1]) hne
   rw[h3]at r1
   have hq:MN ((hp.new (LI .i64 [1])).put m 0 [.ms hp.next 0 0 1 1,.sc (.int .i64 1)]) m hp.next 1:=
    ⟨by simp;omega,fun _=>⟨by simp,h1,by rw[qv _ _ (fun e=>hne e.symm),qz];rfl⟩,by rw[qi];rfl⟩
   obtain⟨hp2,cb2,a1,a2,a3,a4⟩:=ih 1 hp.next _ (by omega) hq
   refine⟨hp2,cb2,?_,a2,by simp at a3;omega,fun c hc=>by
    rw[a4 c hc]
    have e1:c≠m:=by omega
    have e2:c≠hp.next:=by omega
    simp[Hp.put,Hp.new,e1,e2]⟩
   rw[<-a1,YB]
   simp at r1
   simp[h3,qj,xx,ap,r1,qh,qp,qi,qe]
  ·obtain⟨n1,n2,n3⟩:=h2 h0
   rw[if_neg h0]at h3
   have hne:m≠hp.next:=by omega
   have hne2:m≠cb:=by omega
   have hl:(nz (List.replicate i 1)).length=i:=by simp
   have ap:=Qz .i64 (nz (List.replicate i 1)) 1 8 cb (by decide) (by rw[hl];omega) (by intro e;rw[e]at hl;simp at hl;omega) hp n3
   rw[hl]at ap
   have e1:nz (List.replicate i 1)++[1]=nz (List.replicate (i+1) 1):=by
    rw[List.replicate_succ',vi];rfl
   rw[e1]at ap
   have r1:((hp.del cb).new (LI .i64 (nz (List.replicate (i+1) 1)))).rd m 0=hp.rd m 0:=(Fm.delNew (X:=[cb]) hp cb _ (by simp)).rd h1 (by simp;exact hne2)
   rw[h3]at r1
   have hq:MN (((hp.del cb).new (LI .i64 (nz (List.replicate (i+1) 1)))).put m 0 [.ms hp.next 0 0 (i+1) 1,.sc (.int .i64 ((i+1:Nat):Int))]) m hp.next (i+1):=
    ⟨by simp[Hp.del];omega,fun _=>⟨by simp[Hp.del],h1,by rw[qv _ _ (fun e=>hne e.symm)];exact qz (hp.del cb) _⟩,by rw[qi,if_neg (by omega)]⟩
   obtain⟨hp2,cb2,a1,a2,a3,a4⟩:=ih (i+1) hp.next _ (by omega) hq
   refine⟨hp2,cb2,?_,a2,by simp[Hp.del]at a3;omega,fun c hc=>by
    rw[a4 c hc]
    have e1:c≠m:=by omega
    have e2:c≠hp.next:=by omega
    have e3:c≠cb:=by omega
    simp[Hp.put,Hp.new,Hp.del,e1,e2,e3]⟩
   rw[<-a1,YB]
   generalize nz (List.replicate (i+1) 1)=L at*
   generalize((i+1:Nat):Int)=I at*
   simp[hlt,h3,qj,xx,ap,r1,qh,qp,qi,qe,w1]
theorem qev(hp:Hp):∃hp' cb,run cxX 137 [.sc (.int .i64 64)] hp=some (.ptr hp.next 0 0,hp')/\MW hp' hp.next cb cs0/\hp.next<cb/\hp.next<=hp'.next/\∀c,c<hp.next->hp'.get c=hp.get c:=by
 have h0:MN (hp.new [S 2 1 [],.sc (.int .i64 0)]) hp.next 0 0:=⟨by simp,fun h=>absurd rfl h,by rw[qz];rfl⟩
 obtain⟨hp',cb,a1,a2,a3,a4⟩:=qpu hp.next 64 0 0 _ rfl h0
 obtain⟨b1,b2,b3⟩:=a2
 obtain⟨c1,c2,c3⟩:=b2 (by omega)
 refine⟨hp',cb,?_,⟨b1,c1,by omega,c3,by rw[b3];rfl⟩,c2,by simp at a3;omega,fun c hc=>by
  rw[a4 c hc]
  have:c≠hp.next:=by omega
  simp[Hp.new,this]⟩
 rw[E137]
 have mm:min (max (64:Int) 1) 64=64:=by decide
 simp at a1
 simp[mm,a1]
theorem ym(l:List Nat)(i:Nat)(h:i<l.length):(nz l).getD i 0=((l.getD i 0:Nat):Int):=by
 unfold nz
 rw[List.getD_eq_getElem?_getD,List.getD_eq_getElem?_getD,List.getElem?_map,List.getElem?_eq_getElem h]
 rfl
section
variable (hp:Hp)(m cb:Nat)(cs:List Nat)(h:MW hp m cb cs)(hs:cs.sum<=1000000)(hcl:cs.length=64)
include h
theorem Wb:run cxX 175 [.ptr m 0 0] hp=some (.sc (.int .i64 (cs.length:Nat)),hp):=by
 obtain⟨h1,h2,h3,h4,h5⟩:=h
 rw[E175]
 have hln:∀a b c d e,yH (.ms a b c d e)=some d:=fun _ _ _ _ _=>rfl
 simp[h5,qj,hln]
theorem XL:run cxX 139 [.ptr m 0 0] hp=some (.sc (.int .i64 (cs.sum:Nat)),hp):=by
 obtain⟨h1,h2,h3,h4,h5⟩:=h
 rw[E139]
 simp[h5,qe]
include hs hcl
theorem qpi(x:Nat)(hx:x<64):∀(f i:Nat),i+f=x->
 B138_5 (.ptr m 0 0) (.int .i64 (x:Int)) (.int .i64 ((cs.take i).sum:Nat)) (.ms cb 0 0 x 1) (.int .i64 (x:Int)) (.int .i64 (i:Int)) hp=some (.tup [.sc (.int .i64 ((cs.take x).sum:Nat)),.sc (.int .i64 (cs.getD x 0:Nat))],hp):=by
 obtain⟨h1,h2,h3,h4,h5⟩:=h
 have hms:∀a b c d e,qL (.ms a b c d e)=some (a,b,c,d,e):=fun _ _ _ _ _=>rfl
 intro f
 induction f with
 |zero=>
  intro i hi
  have e:i=x:=by omega
  subst e
  have ix:idx cs.length (.int .i64 (i:Int))=some i:=qU .i64 (by omega)
  have g:=jv .i64 (nz cs) i (by simp;omega)
  rw[ym cs i (by omega)]at g
  rw[qbo]
  generalize(cs.take i).sum=A at*
  generalize cs.getD i 0=B at*
  simp[h5,qj,hms,ix,h4,g]
 |succ f ih=>
  intro i hi
  have hn:=ih (i+1) (by omega)
  have ix:idx x (.int .i64 (i:Int))=some i:=qU .i64 (by omega)
  have g:=jv .i64 (nz cs) i (by simp;omega)
  rw[ym cs i (by omega)]at g
  have st:=qI cs i (by omega)
  have sl:=qK cs (i+1)
  have w1:IntKind.i64.wrap ((((cs.take i).sum:Nat):Int)+((cs.getD i 0:Nat):Int))=(((cs.take (i+1)).sum:Nat):Int):=by rw[qf]<;>omega
  have w2:IntKind.i64.wrap ((i:Int)+1)=((i+1:Nat):Int):=by rw[qf]<;>omega
  have hlt:(i:Int)<(x:Int):=by omega
  rw[<-hn,qbo]
  generalize(((cs.take i).sum:Nat):Int)=A at*
  generalize(((cs.take (i+1)).sum:Nat):Int)=A1 at*
  generalize((cs.getD i 0:Nat):Int)=B at*
  generalize((i+1:Nat):Int)=I at*
  simp[hlt,hms,ix,h4,g,w1,w2]
theorem qes(x:Nat)(hx:x<64):run cxX 138 [.ptr m 0 0,.sc (.int .i64 (x:Int))] hp=some (.tup [.sc (.int .i64 ((cs.take x).sum:Nat)),.sc (.int .i64 (cs.getD x 0:Nat))],hp):=by
 have sz:=Wb hp m cb cs h
 have lp:=qpi hp m cb cs h hs hcl x hx x 0 (by omega)
 obtain⟨h1,h2,h3,h4,h5⟩:=h
 have hms:∀a b c d e,qL (.ms a b c d e)=some (a,b,c,d,e):=fun _ _ _ _ _=>rfl
 have hln:∀a b c d e,yH (.ms a b c d e)=some d:=fun _ _ _ _ _=>rfl
 have hn0:¬((x:Int)<0):=by omega
 have hge:¬((x:Int)>=(cs.length:Int)):=by omega
 have b1:zd 0 (cs.length:Int) (some (.int .i64 (x:Int))) cs.length=some x:=ka .i64 (by omega)
 have b3:B138_3 (.ptr m 0 0) (.int .i64 (x:Int)) hp=some (.tup [.sc (.int .i64 ((cs.take x).sum:Nat)),.sc (.int .i64 (cs.getD x 0:Nat))],hp):=by
  rw[<-lp,qr9]
  simp[h5,qj,hms,b1,hln]
 rw[E138]
 generalize(cs.take x).sum=A at*
 generalize cs.getD x 0=B at*
 have hge':¬((cs.length:Int)<=(x:Int)):=hge
 simp[hn0,sz,hge',b3]
end
def hf(d:List Nat)(i:Nat):List Nat:=(d.take i).map (fun n=>(n+1)/2)++d.drop i
@[simp] theorem hf_len (d : List Nat) (i : Nat) : (hf d i).length = d.length := by unfold hf; simp; omega
theorem qwu(d:List Nat)(i:Nat)(hi:i<d.length):(hf d i).getD i 0=d.getD i 0:=by
 unfold hf
 rw[List.getD_eq_getElem?_getD,List.getElem?_append_right (by simp;omega),List.getD_eq_getElem?_getD]
 simp
 congr 2
 omega
theorem qdn(d:List Nat)(i:Nat)(hi:i<d.length):hf d (i+1)=(hf d i).set i ((d.getD i 0+1)/2):=by
 have e1:d.getD i 0=d[i]:=by rw[List.getD_eq_getElem?_getD,List.getElem?_eq_getElem hi];rfl
 have e2:d.take (i+1)=d.take i++[d[i]]:=by rw[List.take_add_one,List.getElem?_eq_getElem hi];rfl
 have e3:d.drop i=d[i]::d.drop (i+1):=List.drop_eq_getElem_cons hi
 unfold hf
 rw[e1,e2,e3,List.map_append,List.append_assoc,List.set_append_right _ _ (by simp;omega)]
 have e4:i-((d.take i).map fun n=>(n+1)/2).length=0:=by simp;omega
 rw[e4]
 rfl
theorem qwv(d:List Nat):hf d d.length=d.map fun n=>(n+1)/2:=by unfold hf;simp
theorem qty(m cb:Nat)(d:List Nat)(hd:d.length=64)(hs:d.sum<=1000000):∀(f i:Nat) (hp:Hp),i+f=64->m<hp.next->cb<hp.next->cb≠m->hp.rd cb 0=some (LI .i64 (nz (hf d i)))->
 hp.rd m 0=some [.ms cb 0 0 64 1,.sc (.int .i64 ((((d.take i).map fun n=>(n+1)/2).sum:Nat):Int))]->
 ∃hp',B141_6 (.ptr m 0 0) (.ms cb 0 0 64 1) (.int .i64 64) (.int .i64 (i:Int)) hp=some (.tup [],hp')/\MW hp' m cb (d.map fun n=>(n+1)/2)/\hp'.next=hp.next/\∀c,c≠m->c≠cb->hp'.get c=hp.get c:=by
 have hms:∀a b c d e,qL (.ms a b c d e)=some (a,b,c,d,e):=fun _ _ _ _ _=>rfl
 intro f
 induction f with
 |zero=>
  intro i hp hi h1 h2 h3 h4 h5
  have e:i=64:=by omega
  subst e
  have ef:hf d 64=d.map fun n=>(n+1)/2:=by rw[<-hd,qwv]
  have et:d.take 64=d:=by rw[<-hd,List.take_length]
  rw[ef]at h4
  rw[et]at h5
  refine⟨hp,?_,⟨h1,h2,h3,h4,by simp only[List.length_map,hd];exact h5⟩,rfl,fun _ _ _=>rfl⟩
  rw[qbk]
  simp
 |succ f ih=>
  intro i hp hi h1 h2 h3 h4 h5
  have hid:i<d.length:=by omega
  have hlt:(i:Int)<64:=by omega
  have ix:idx 64 (.int .i64 (i:Int))=some i:=qU .i64 (by omega)
  have g:=jv .i64 (nz (hf d i)) i (by simp;omega)
  rw[ym _ i (by simp;omega),qwu d i hid]at g
  have hx:d.getD i 0<=1000000:=by
   have:=qI d i hid
   have:=qK d (i+1)
   omega
  have p:=yL .i64 (nz (hf d i)) i (((d.getD i 0+1)/2:Nat):Int) (by simp;omega)
  have es:(nz (hf d i)).set i (((d.getD i 0+1)/2:Nat):Int)=nz (hf d (i+1)):=by
   rw[qdn d i hid];unfold nz;rw[List.map_set]
  rw[es]at p
  have g2:=jv .i64 (nz (hf d (i+1))) i (by simp;omega)
  have eg:(hf d (i+1)).getD i 0=(d.getD i 0+1)/2:=by
   rw[qdn d i hid,List.getD_eq_getElem?_getD,List.getElem?_set]
   simp[hid]
  rw[ym _ i (by simp;omega),eg]at g2
  have sm:((d.take (i+1)).map fun n=>(n+1)/2).sum=((d.take i).map fun n=>(n+1)/2).sum+(d.getD i 0+1)/2:=by
   have e2:d.take (i+1)=d.take i++[d.getD i 0]:=by
    rw[List.take_add_one,List.getD_eq_getElem?_getD,List.getElem?_eq_getElem hid];rfl
   rw[e2];simp
  have sb:((d.take i).map fun n=>(n+1)/2).sum<=2000000:=by
   have a:=qd8 (d.take i)
   have b:=qK d i
   have c:(d.take i).length<=64:=by simp;omega
   omega
  have w1:IntKind.i64.wrap (((d.getD i 0:Nat):Int)+1)=((d.getD i 0+1:Nat):Int):=by rw[qf]<;>omega
  have q2:∀t o o',qr Tryz.prog .quo t o o' (.int .i64 ((d.getD i 0+1:Nat):Int)) (.int .i64 2)=some (.int .i64 (((d.getD i 0+1)/2:Nat):Int)):=by
   intro t o o'
   rw[jU _ _ _ _ _ _ _ (by omega),Int.tdiv_eq_ediv_of_nonneg (by omega),qf (by omega) (by omega)]
   rfl
  have w3:IntKind.i64.wrap (((((d.take i).map fun n=>(n+1)/2).sum:Nat):Int)+(((d.getD i 0+1)/2:Nat):Int))=((((d.take (i+1)).map fun n=>(n+1)/2).sum:Nat):Int):=by rw[sm,qf]<;>omega
  have w4:IntKind.i64.wrap ((i:Int)+1)=((i+1:Nat):Int):=by rw[qf]<;>omega
  have r5:∀x,(hp.put cb 0 x).rd m 0=hp.rd m 0:=fun x=>qv _ _ (fun e=>h3 e.symm)
  obtain⟨hp2,a1,a2,a3,a4⟩:=ih (i+1) ((hp.put cb 0 (LI .i64 (nz (hf d (i+1))))).put m 0 [.ms cb 0 0 64 1,.sc (.int .i64 ((((d.take (i+1)).map fun n=>(n+1)/2).sum:Nat):Int))]) (by omega) (by simpa using h1) (by simpa using h2) h3
   (by rw[qv _ _ h3,qi]) (qi _ _ _)
  refine⟨hp2,?_,a2,by rw[a3];rfl,fun c c1 c2=>by rw[a4 c c1 c2];simp[Hp.put,c1,c2]⟩
  rw[<-a1,qbk]
  generalize nz (hf d (i+1))=L1 at*
  generalize nz (hf d i)=L0 at*
  generalize((((d.take (i+1)).map fun n=>(n+1)/2).sum:Nat):Int)=S1 at*
  generalize((((d.take i).map fun n=>(n+1)/2).sum:Nat):Int)=S0 at*
  generalize(((d.getD i 0+1)/2:Nat):Int)=y2 at*
  generalize((d.getD i 0+1:Nat):Int)=y1 at*
  generalize((d.getD i 0:Nat):Int)=y0 at*
  generalize((i+1:Nat):Int)=I at*
  have gs1:∀(x:AV) (v:Value),qe [x,.sc v] 1=some v:=fun _ _=>rfl
  have gc0:∀(x:AV) (l:List AV),qj (x::l) 0=some x:=fun _ _=>rfl
  have pn:∀(x y z:AV),qh [x,y] 1 [z]=some [x,z]:=fun _ _ _=>rfl
  simp[hlt,hms,ix,h4,g,h5,gc0,w1,q2,p,r5,gs1,qi,g2,w3,pn,w4]
theorem qmb(hp:Hp)(m cb x:Nat)(cs:List Nat)(h:MW hp m cb cs)(hm:okM cs)(hx:x<64):
 ∃hp',run cxX 141 [.ptr m 0 0,.sc (.int .i64 (x:Int))] hp=some (.tup [],hp')/\MW hp' m cb (JT cs x)/\hp'.next=hp.next/\∀c,c≠m->c≠cb->hp'.get c=hp.get c:=by
 have sz:=Wb hp m cb cs h
 obtain⟨h1,h2,h3,h4,h5⟩:=h
 obtain⟨m1,m2,m3⟩:=hm
 have hms:∀a b c d e,qL (.ms a b c d e)=some (a,b,c,d,e):=fun _ _ _ _ _=>rfl
 have hln:∀a b c d e,yH (.ms a b c d e)=some d:=fun _ _ _ _ _=>rfl
 have hn0:¬((x:Int)<0):=by omega
 have hge:¬((cs.length:Int)<=(x:Int)):=by omega
 have ix:idx cs.length (.int .i64 (x:Int))=some x:=qU .i64 (by omega)
 have g:=jv .i64 (nz cs) x (by simp;omega)
 rw[ym cs x (by omega)]at g
 have st:=qI cs x (by omega)
 have sl:=qK cs (x+1)
 have ss:=qcf cs x (cs.getD x 0+24) (by omega)
 have w1:IntKind.i64.wrap (((cs.getD x 0:Nat):Int)+24)=((cs.getD x 0+24:Nat):Int):=by rw[qf]<;>omega
 have p:=yL .i64 (nz cs) x ((cs.getD x 0+24:Nat):Int) (by simp;omega)
 have es:(nz cs).set x ((cs.getD x 0+24:Nat):Int)=nz (cs.set x (cs.getD x 0+24)):=by unfold nz;rw[List.map_set]
 rw[es]at p
 have r5:∀y,(hp.put cb 0 y).rd m 0=hp.rd m 0:=fun y=>qv _ _ (fun e=>h3 e.symm)
 have w2:IntKind.i64.wrap (((cs.sum:Nat):Int)+24)=(((cs.set x (cs.getD x 0+24)).sum:Nat):Int):=by rw[qf]<;>omega
 have dl:(cs.set x (cs.getD x 0+24)).length=64:=by simp[m1]
 have gs1:∀(x:AV) (v:Value),qe [x,.sc v] 1=some v:=fun _ _=>rfl
 have gc0:∀(x:AV) (l:List AV),qj (x::l) 0=some x:=fun _ _=>rfl
 have pn:∀(x y z:AV),qh [x,y] 1 [z]=some [x,z]:=fun _ _ _=>rfl
 rw[m1]at h5 ix sz hge
 unfold JT
 generalize cs.set x (cs.getD x 0+24)=d at*
 by_cases hle:d.sum<=4096
 ·rw[if_pos hle]
  refine⟨(hp.put cb 0 (LI .i64 (nz d))).put m 0 [.ms cb 0 0 64 1,.sc (.int .i64 (d.sum:Nat))],?_,⟨h1,h2,h3,by rw[qv _ _ h3,qi],by rw[qi,dl]⟩,rfl,fun c c1 c2=>by simp[Hp.put,c1,c2]⟩
  have hle':((d.sum:Nat):Int)<=4096:=by omega
  rw[E141]
  have b1:B141_1 (.ptr m 0 0) (.int .i64 (x:Int)) hp=some (.tup [],(hp.put cb 0 (LI .i64 (nz d))).put m 0 [.ms cb 0 0 64 1,.sc (.int .i64 (d.sum:Nat))]):=by
   rw[qbl]
   generalize((d.sum:Nat):Int)=D at*
   generalize((cs.getD x 0+24:Nat):Int)=y1 at*
   generalize((cs.getD x 0:Nat):Int)=y0 at*
   simp[h5,gc0,hms,ix,h4,g,w1,p,r5,gs1,w2,pn,qi,hle']
  have hge2:¬((64:Int)<=(x:Int)):=by omega
  simp[hn0,sz,hge2,b1]
 ·rw[if_neg hle]
  have e0:hf d 0=d:=by unfold hf;simp
  obtain⟨hp2,a1,a2,a3,a4⟩:=qty m cb d dl (by omega) 64 0 ((hp.put cb 0 (LI .i64 (nz d))).put m 0 [.ms cb 0 0 64 1,.sc (.int .i64 0)]) rfl h1 h2 h3 (by rw[qv _ _ h3,qi,e0]) (by rw[qi];rfl)
  refine⟨hp2,?_,a2,by rw[a3];rfl,fun c c1 c2=>by rw[a4 c c1 c2];simp[Hp.put,c1,c2]⟩
  have hle':¬(((d.sum:Nat):Int)<=4096):=by omega
  rw[E141]
  have b1:B141_1 (.ptr m 0 0) (.int .i64 (x:Int)) hp=some (.tup [],hp2):=by
   rw[<-a1,qbl]
   generalize((d.sum:Nat):Int)=D at*
   generalize((cs.getD x 0+24:Nat):Int)=y1 at*
   generalize((cs.getD x 0:Nat):Int)=y0 at*
   simp[h5,gc0,hms,ix,h4,g,w1,p,r5,gs1,w2,pn,qi,hle',qp,hln]
  have hge2:¬((64:Int)<=(x:Int)):=by omega
  simp[hn0,sz,hge2,b1]
abbrev EC(m:Nat)(s:En)(k:Nat)(n:Nat):List AV:=[.ptr m 0 0,.sc (.int .u64 (s.low:Int)),.sc (.int .u32 (s.width:Int)),.sc (.int .i64 (s.held:Int)),.sc (.int .u8 (s.last:Int)),.sc (.bool s.begun),S k 1 (LI .u8 s.out),.sc (.int .i64 (n:Int))]
theorem zc4(x:Nat)(hx:x<18446744073709551616)(t:TypeId)(o o':Operand):qr Tryz.prog .and t o o' (.int .u64 (x:Int)) (.int .u64 16777215)=some (.int .u64 ((x%16777216:Nat):Int)):=by
 have a:=qad x 16777215 hx (by omega) t o o'
 have e:x&&&16777215=x%16777216:=Nat.and_two_pow_sub_one_eq_mod x 24
 rw[e]at a
 exact a
theorem zcz{hp:Hp}{b:Nat}{x:List AV}(h:hp.rd b 0=some x):hp.get b=some (0,x):=by
 unfold Hp.rd at h
 obtain⟨p,hp1,h⟩:=bsm h
 split at h
 ·rename_i e
  cases h
  rw[hp1]
  obtain⟨p1,p2⟩:=p
  have:p1=0:=e.1
  subst this;rfl
 ·cases h
theorem wz{k b:Nat}{hp:Hp}{l:List AV}{v:Value}{K:Value->RO}(h:hp.rd b 0=some l)(g:qe l k=some v):jI k (ro (.ptr b 0 0)) hp K=K v:=by
 have g':qe l (0+k)=some v:=by rw[Nat.zero_add];exact g
 simp only[jI,lpS,zdv,zau,kG,h,g',Option.bind_some]
theorem ZC{t:TypeId}{n:Tmp}{k:IntKind}{x y:Int}{a b:RO}:iC .lss t n (.int k x) (.int k y) a b=cond (decide (x<y)) a b:=by simp only[iC,Qx,jt,Option.bind_some]
theorem qws{t:TypeId}{n:Tmp}{k:IntKind}{x y:Int}{a b:RO}:iC .geq t n (.int k x) (.int k y) a b=cond (decide (x>=y)) a b:=by simp only[iC,Qy,jt,Option.bind_some]
theorem qdo(x1:AV)(v:Value)(r:List AV):qe (x1::.sc v::r) 1=some v:=rfl
section
variable (e m k n:Nat)(hk:k=1\/k=2)
include hk
theorem qma(c:Nat)(hc:c<256):∀(f:Nat) (s:En) (hp:Hp),s.held=f->s.low<18446744073709551616->s.out.length+f<=1000000->hp.rd e 0=some (EC m s k n)->
 B140_4 (.ptr e 0 0) (.int .u8 (c:Int)) hp=some (.tup [],hp.put e 0 (EC m ⟨s.low%16777216*256,s.width,0,s.low/16777216%256,true,s.out++List.replicate f (((255+c)%256:Nat):Int)⟩ k n)):=by
 intro f
 induction f with
 |zero=>
  intro s hp hh hlow hol h
  have sh:=fun t o o'=>yh .u64 s.low 24 (by decide) t o o' .u64
  have e24:s.low/2^24=s.low/16777216:=by omega
  rw[e24]at sh
  have i24:((24:Nat):Int)=24:=rfl
  rw[i24]at sh
  have w1:IntKind.u8.wrap ((s.low/16777216:Nat):Int)=((s.low/16777216%256:Nat):Int):=by rw[kc];rfl
  have a:=zc4 s.low hlow
  have s8:∀t o o',qr Tryz.prog .shl t o o' (.int .u64 ((s.low%16777216:Nat):Int)) (.int .u64 8)=some (.int .u64 ((s.low%16777216*256:Nat):Int)):=by
   intro t o o'
   rw[zF _ _ _ _ _ _ _ _ (by omega)]
   have e2:(2:Int)^min (8:Int).toNat IntKind.u64.bits=256:=rfl
   have e3:((s.low%16777216:Nat):Int)*256=((s.low%16777216*256:Nat):Int):=by omega
   rw[e2,e3,qn (by omega) (by omega)]
  have hh0:(s.held:Int)=0:=by omega
  rw[qbn]
  obtain⟨low,width,held,last,begun,out⟩:=s
  simp only at h hh hh0 hlow sh w1 a s8
  subst hh
  simp only[EC,List.replicate_zero,List.append_nil]at h⊢
  generalize((low%16777216*256:Nat):Int)=y1 at*
  generalize((low%16777216:Nat):Int)=y2 at*
  generalize((low/16777216%256:Nat):Int)=y3 at*
  generalize((low/16777216:Nat):Int)=y4 at*
  have gs:∀(x1 x2 x3:AV) (v:Value) (r:List AV),qe (x1::x2::x3::.sc v::r) 3=some v:=fun _ _ _ _ _=>rfl
  have gs1:∀(x1:AV) (v:Value) (r:List AV),qe (x1::.sc v::r) 1=some v:=fun _ _ _=>rfl
  have p5:∀(x0 x1 x2 x3 x4 x5 x6 x7 z:AV),qh [x0,x1,x2,x3,x4,x5,x6,x7] 5 [z]=some [x0,x1,x2,x3,x4,z,x6,x7]:=fun _ _ _ _ _ _ _ _ _=>rfl
  have p4:∀(x0 x1 x2 x3 x4 x5 x6 x7 z:AV),qh [x0,x1,x2,x3,x4,x5,x6,x7] 4 [z]=some [x0,x1,x2,x3,z,x5,x6,x7]:=fun _ _ _ _ _ _ _ _ _=>rfl
  have p1:∀(x0 x1 x2 x3 x4 x5 x6 x7 z:AV),qh [x0,x1,x2,x3,x4,x5,x6,x7] 1 [z]=some [x0,z,x2,x3,x4,x5,x6,x7]:=fun _ _ _ _ _ _ _ _ _=>rfl
  simp[h,gs,gs1,sh,JC,w1,p5,p4,p1,qp,qi,qbm,a,s8,-qS]
 |succ f ih=>
  intro s hp hh hlow hol h
  obtain⟨low,width,held,last,begun,out⟩:=s
  simp only at h hh hlow hol
  subst hh
  have hpos:((f+1:Nat):Int)>0:=by omega
  have w1:IntKind.u8.wrap (255+(c:Int))=(((255+c)%256:Nat):Int):=by rw[kc];rfl
  have w2:IntKind.i64.wrap (((f+1:Nat):Int)-1)=(f:Int):=by rw[qf]<;>omega
  have ap:=ZO .u8 out k hk 1 (by decide) (((255+c)%256:Nat):Int) (by omega)
  have hi:=ih ⟨low,width,f,last,begun,out++[(((255+c)%256:Nat):Int)]⟩ (hp.put e 0 (EC m ⟨low,width,f,last,begun,out++[(((255+c)%256:Nat):Int)]⟩ k n)) rfl hlow (by simp;omega) (qi _ _ _)
  rw[qp]at hi
  have e1:out++List.replicate (f+1) (((255+c)%256:Nat):Int)=out++[(((255+c)%256:Nat):Int)]++List.replicate f (((255+c)%256:Nat):Int):=by simp[List.replicate_succ]
  simp only[e1]
  rw[<-hi,qbn]
  generalize(((255+c)%256:Nat):Int)=y at*
  generalize((f+1:Nat):Int)=F at*
  simp only[EC]at h
  have gs:∀(x1 x2 x3:AV) (v:Value) (r:List AV),qe (x1::x2::x3::.sc v::r) 3=some v:=fun _ _ _ _ _=>rfl
  have gc6:∀(x0 x1 x2 x3 x4 x5 x6 x7:AV),qj [x0,x1,x2,x3,x4,x5,x6,x7] 6=some x6:=fun _ _ _ _ _ _ _ _=>rfl
  have p6:∀(x0 x1 x2 x3 x4 x5 x6 x7 z:AV),qh [x0,x1,x2,x3,x4,x5,x6,x7] 6 [z]=some [x0,x1,x2,x3,x4,x5,z,x7]:=fun _ _ _ _ _ _ _ _ _=>rfl
  have p3:∀(x0 x1 x2 x3 x4 x5 x6 x7 z:AV),qh [x0,x1,x2,x3,x4,x5,x6,x7] 3 [z]=some [x0,x1,x2,z,x4,x5,x6,x7]:=fun _ _ _ _ _ _ _ _ _=>rfl
  have st6:∀(x0 x1 x2 x3 x4 x5 x6 x7 z:AV),[x0,x1,x2,x3,x4,x5,x6,x7].set 6 z=[x0,x1,x2,x3,x4,x5,z,x7]:=fun _ _ _ _ _ _ _ _ _=>rfl
  have w9:IntKind.i64.wrap (f:Int)=(f:Int):=qf (by omega) (by omega)
  simp[h,gs,hpos,gc6,w1,xx,ap,st6,qi,p6,qp,w2,w9,p3]
theorem qzd(s:En)(hp:Hp)(hlow:s.low<18446744073709551616)(hol:s.out.length+s.held+1<=1000000)(h:hp.rd e 0=some (EC m s k n))(c0:Nat)(hc0:c0=s.low/4294967296):
 B140_1 (.ptr e 0 0) hp=some (.tup [],hp.put e 0 (EC m ⟨s.low%16777216*256,s.width,0,s.low/16777216%256,true,s.out++(if s.begun then [(((s.last+c0%256)%256:Nat):Int)]else [])++List.replicate s.held (((255+c0%256)%256:Nat):Int)⟩ k n)):=by
 have gs4:∀(x0 x1 x2 x3:AV) (v:Value) (r:List AV),qe (x0::x1::x2::x3::.sc v::r) 4=some v:=fun _ _ _ _ _ _=>rfl
 have gs5:∀(x0 x1 x2 x3 x4:AV) (v:Value) (r:List AV),qe (x0::x1::x2::x3::x4::.sc v::r) 5=some v:=fun _ _ _ _ _ _ _=>rfl
 have gc6:∀(x0 x1 x2 x3 x4 x5 x6 x7:AV),qj [x0,x1,x2,x3,x4,x5,x6,x7] 6=some x6:=fun _ _ _ _ _ _ _ _=>rfl
 have p6:∀(x0 x1 x2 x3 x4 x5 x6 x7 z:AV),qh [x0,x1,x2,x3,x4,x5,x6,x7] 6 [z]=some [x0,x1,x2,x3,x4,x5,z,x7]:=fun _ _ _ _ _ _ _ _ _=>rfl
 have st6:∀(x0 x1 x2 x3 x4 x5 x6 x7 z:AV),[x0,x1,x2,x3,x4,x5,x6,x7].set 6 z=[x0,x1,x2,x3,x4,x5,z,x7]:=fun _ _ _ _ _ _ _ _ _=>rfl
 have sh32:∀t o o',qr Tryz.prog .shr t o o' (.int .u64 (s.low:Int)) (.int .u64 32)=some (.int .u64 (c0:Int)):=by
  intro t o o'
  have a:=yh .u64 s.low 32 (by decide) t o o' .u64
  have e32:s.low/2^32=c0:=by omega
  rw[e32]at a
  exact a
 clear hc0
 have w1:IntKind.u8.wrap (c0:Int)=((c0%256:Nat):Int):=by rw[kc];rfl
 have w2:IntKind.u8.wrap ((s.last:Int)+((c0%256:Nat):Int))=(((s.last+c0%256)%256:Nat):Int):=by rw[kc];rfl
 have ap:=ZO .u8 s.out k hk 1 (by decide) (((s.last+c0%256)%256:Nat):Int) (by omega)
 rw[qr8]
 cases hb:s.begun
 ·have f4:=qma e m k n hk (c0%256) (by omega) s.held s hp rfl hlow (by omega) h
  rw[if_neg (by decide),List.append_nil,<-f4]
  simp only[EC,hb]at h
  generalize((c0%256:Nat):Int)=cc at*
  simp[h,qdo,sh32,JC,w1,gs5]
 ·rw[if_pos rfl]
  have f4:=qma e m k n hk (c0%256) (by omega) s.held ⟨s.low,s.width,s.held,s.last,true,s.out++[(((s.last+c0%256)%256:Nat):Int)]⟩ (hp.put e 0 (EC m ⟨s.low,s.width,s.held,s.last,true,s.out++[(((s.last+c0%256)%256:Nat):Int)]⟩ k n)) rfl hlow (by simp;omega) (qi _ _ _)
  rw[qp]at f4
  rw[<-f4]
  simp only[EC,hb]at h⊢
  have hg:=zcz h
  have sg:∀X:AV,yK (AV.ptr e 0 4,1) hp.get (hp.put e 0 [AV.ptr m 0 0,.sc (.int .u64 (s.low:Int)),.sc (.int .u32 (s.width:Int)),.sc (.int .i64 (s.held:Int)),.sc (.int .u8 (s.last:Int)),.sc (.bool true),X,.sc (.int .i64 (n:Int))]).get=some ():=by
   intro X
   refine Qd ?_
   have e1:∀Y:List AV,(hp.put e 0 Y).get e=some (0,Y):=fun Y=>by simp[Hp.put]
   unfold yi
   simp only[Zj,kG,Option.bind_some,hg,e1]
   rfl
  generalize(((s.last+c0%256)%256:Nat):Int)=ll at*
  generalize((c0%256:Nat):Int)=cc at*
  clear f4
  simp[h,qdo,sh32,JC,w1,gs5,gc6,st6,qi,gs4,w2,xx,ap,p6,qp,sg]
omit hk in
theorem qzc(s:En)(hp:Hp)(hlow:s.low<18446744073709551616)(hheld:s.held<1000000)(h:hp.rd e 0=some (EC m s k n)):
 B140_8 (.ptr e 0 0) hp=some (.tup [],hp.put e 0 (EC m ⟨s.low%16777216*256,s.width,s.held+1,s.last,s.begun,s.out⟩ k n)):=by
 have gs3:∀(x1 x2 x3:AV) (v:Value) (r:List AV),qe (x1::x2::x3::.sc v::r) 3=some v:=fun _ _ _ _ _=>rfl
 have p3:∀(x0 x1 x2 x3 x4 x5 x6 x7 z:AV),qh [x0,x1,x2,x3,x4,x5,x6,x7] 3 [z]=some [x0,x1,x2,z,x4,x5,x6,x7]:=fun _ _ _ _ _ _ _ _ _=>rfl
 have p1:∀(x0 x1 x2 x3 x4 x5 x6 x7 z:AV),qh [x0,x1,x2,x3,x4,x5,x6,x7] 1 [z]=some [x0,z,x2,x3,x4,x5,x6,x7]:=fun _ _ _ _ _ _ _ _ _=>rfl
 have w3:IntKind.i64.wrap ((s.held:Int)+1)=((s.held+1:Nat):Int):=by rw[qf]<;>omega
 have a24:=zc4 s.low hlow
 have s8:∀t o o',qr Tryz.prog .shl t o o' (.int .u64 ((s.low%16777216:Nat):Int)) (.int .u64 8)=some (.int .u64 ((s.low%16777216*256:Nat):Int)):=by
  intro t o o'
  rw[zF _ _ _ _ _ _ _ _ (by omega)]
  have e2:(2:Int)^min (8:Int).toNat IntKind.u64.bits=256:=rfl
  have e3:((s.low%16777216:Nat):Int)*256=((s.low%16777216*256:Nat):Int):=by omega
  rw[e2,e3,qn (by omega) (by omega)]
 simp only[EC]at h⊢
 rw[qr7]
 generalize((s.low%16777216*256:Nat):Int)=y1 at*
 generalize((s.low%16777216:Nat):Int)=y2 at*
 generalize((s.held+1:Nat):Int)=hh at*
 simp[h,gs3,w3,p3,qi,qp,qbm,qdo,a24,s8,p1,-qS]
theorem VY(s:En)(hp:Hp)(hlow:s.low<18446744073709551616)(hheld:s.held<1000000)(hol:s.out.length+s.held+1<=1000000)(h:hp.rd e 0=some (EC m s k n)):
 run cxX 140 [.ptr e 0 0] hp=some (.tup [],hp.put e 0 (EC m (sh s) k n)):=by
 have s1:=qzd e m k n hk s hp hlow hol h _ rfl
 have s8:=qzc e m k n s hp hlow hheld h
 have hR:hp.rd e 0=some (AV.ptr m 0 0::.sc (.int .u64 (s.low:Int))::(EC m s k n).drop 2):=h
 rw[E140]
 by_cases hA:s.low<4278190080\/4294967296<=s.low
 ·have es:sh s=⟨s.low%16777216*256,s.width,0,s.low/16777216%256,true,s.out++(if s.begun then [(((s.last+s.low/4294967296%256)%256:Nat):Int)]else [])++List.replicate s.held (((255+s.low/4294967296%256)%256:Nat):Int)⟩:=by
   unfold sh;rw[if_pos hA]
  rw[<-es]at s1
  by_cases h1:s.low<4278190080
  ·have d1:decide ((s.low:Int)<Int.ofNat 4278190080)=true:=decide_eq_true (by show(s.low:Int)<((4278190080:Nat):Int);omega)
   rw[wz hR (qdo _ _ _),ZC,d1,cond_true,s1]
  ·have d1:decide ((s.low:Int)<Int.ofNat 4278190080)=false:=decide_eq_false (by show ¬((s.low:Int)<((4278190080:Nat):Int));omega)
   have d2:decide ((s.low:Int)>=Int.ofNat 4294967296)=true:=decide_eq_true (by show(s.low:Int)>=((4294967296:Nat):Int);omega)
   rw[wz hR (qdo _ _ _),ZC,d1,cond_false,wz hR (qdo _ _ _),qws,d2,cond_true,s1]
 ·have es:sh s=⟨s.low%16777216*256,s.width,s.held+1,s.last,s.begun,s.out⟩:=by
   unfold sh;rw[if_neg hA]
  rw[<-es]at s8
  have d1:decide ((s.low:Int)<Int.ofNat 4278190080)=false:=decide_eq_false (by show ¬((s.low:Int)<((4278190080:Nat):Int));omega)
  have d2:decide ((s.low:Int)>=Int.ofNat 4294967296)=false:=decide_eq_false (by show ¬((s.low:Int)>=((4294967296:Nat):Int));omega)
  rw[wz hR (qdo _ _ _),ZC,d1,cond_false,wz hR (qdo _ _ _),qws,d2,cond_false,s8]
end
def EW(hp:Hp)(e m cb:Nat)(s:En)(cs:List Nat)(k n:Nat):Prop:=e<hp.next/\hp.rd e 0=some (EC m s k n)/\MW hp m cb cs/\e≠m/\e≠cb
def F3(e m cb:Nat)(hp hp':Hp):Prop:=hp'.next=hp.next/\∀c,c≠e->c≠m->c≠cb->hp'.get c=hp.get c
theorem F3.trans{e m cb:Nat}{a b c:Hp}(h:F3 e m cb a b)(g:F3 e m cb b c):F3 e m cb a c:=
 ⟨by rw[g.1,h.1],fun x h1 h2 h3=>by rw[g.2 x h1 h2 h3,h.2 x h1 h2 h3]⟩
theorem EW.put{hp:Hp}{e m cb:Nat}{s s':En}{cs:List Nat}{k n k' n':Nat}(h:EW hp e m cb s cs k n):EW (hp.put e 0 (EC m s' k' n')) e m cb s' cs k' n'/\F3 e m cb hp (hp.put e 0 (EC m s' k' n')):=by
 obtain⟨h1,h2,h3,h4,h5⟩:=h
 refine⟨⟨h1,qi _ _ _,h3.fr (Fm.put (X:=[e]) hp e _ (by simp)) (by simp;exact fun q=>h4 q.symm) (by simp;exact fun q=>h5 q.symm),h4,h5⟩,rfl,fun c c1 c2 c3=>by simp[Hp.put,c1]⟩
theorem gs2E(x0 x1:AV)(v:Value)(r:List AV):qe (x0::x1::.sc v::r) 2=some v:=rfl
section
variable (e m cb k:Nat)(hk:k=1\/k=2)
include hk
theorem qps(x:Nat)(hx:x<64)(cs:List Nat)(hm:okM cs)(n:Nat)(hn:n<1000000):∀(f:Nat) (s:En) (hp:Hp),EW hp e m cb s cs k n->Za s s.width->s.width<4294967296->4294967296<=s.width*256^f*256->eK s+f<=900000->
 ∃hp',B89_9 (.ptr e 0 0) (.int .i64 (x:Int)) hp=some (.sc (.bool true),hp')/\EW hp' e m cb (zj f s) (JT cs x) k (n+1)/\F3 e m cb hp hp':=by
 intro f
 have gs2:∀(x0 x1:AV) (v:Value) (r:List AV),qe (x0::x1::.sc v::r) 2=some v:=fun _ _ _ _=>rfl
 have gs7:∀(x0 x1 x2 x3 x4 x5 x6:AV) (v:Value),qe [x0,x1,x2,x3,x4,x5,x6,.sc v] 7=some v:=fun _ _ _ _ _ _ _ _=>rfl
 have gc0:∀(x:AV) (l:List AV),qj (x::l) 0=some x:=fun _ _=>rfl
 have p7:∀(x0 x1 x2 x3 x4 x5 x6 x7 z:AV),qh [x0,x1,x2,x3,x4,x5,x6,x7] 7 [z]=some [x0,x1,x2,x3,x4,x5,x6,z]:=fun _ _ _ _ _ _ _ _ _=>rfl
 have p2:∀(x0 x1 x2 x3 x4 x5 x6 x7 z:AV),qh [x0,x1,x2,x3,x4,x5,x6,x7] 2 [z]=some [x0,x1,z,x3,x4,x5,x6,x7]:=fun _ _ _ _ _ _ _ _ _=>rfl
 have done:∀(s:En) (hp:Hp),EW hp e m cb s cs k n->¬(s.width<16777216)->∃hp',B89_9 (.ptr e 0 0) (.int .i64 (x:Int)) hp=some (.sc (.bool true),hp')/\EW hp' e m cb s (JT cs x) k (n+1)/\F3 e m cb hp hp':=by
  intro s hp h hw
  obtain⟨h1,h2,h3,h4,h5⟩:=h
  obtain⟨hp1,a1,a2,a3,a4⟩:=qmb hp m cb x cs h3 hm hx
  have r1:hp1.rd e 0=some (EC m s k n):=by rw[rdg (a4 e h4 h5)];exact h2
  have w1:IntKind.i64.wrap ((n:Int)+1)=((n+1:Nat):Int):=by rw[qf]<;>omega
  have hE:EW hp1 e m cb s (JT cs x) k n:=⟨by rw[a3];exact h1,r1,a2,h4,h5⟩
  obtain⟨q1,q2⟩:=hE.put (s':=s) (k':=k) (n':=n+1)
  refine⟨hp1.put e 0 (EC m s k (n+1)),?_,q1,⟨by rw[q2.1,a3],fun c c1 c2 c3=>by rw[q2.2 c c1 c2 c3,a4 c c2 c3]⟩⟩
  have d1:decide ((s.width:Int)<Int.ofNat 16777216)=false:=decide_eq_false (by show ¬((s.width:Int)<((16777216:Nat):Int));omega)
  clear hw
  simp only[EC]at h2 r1⊢
  rw[qhq]
  generalize((n+1:Nat):Int)=N at*
  rw[wz h2 (gs2E _ _ _ _),ZC,d1,cond_false]
  clear d1
  simp[h2,gs2,gc0,a1,r1,gs7,w1,p7]
 induction f with
 |zero=>
  intro s hp h ho hw hf hK
  exact done s hp h (by simp at hf;omega)
 |succ f ih=>
  intro s hp h ho hw hf hK
  by_cases hl:s.width<16777216
  ·have en:zj (f+1) s=zj f (sh (JS s (s.width*256))):=by
    show(if s.width<16777216 then _ else _)=_
    rw[if_pos hl]
   have h':Za (JS s (s.width*256)) s.width:=ho
   obtain⟨a1,a2,a3,a4⟩:=Jb (JS s (s.width*256)) s.width h' (by omega)
   have a4:(sh (JS s (s.width*256))).width=s.width*256:=a4
   have a3:eK (sh (JS s (s.width*256)))=eK s+1:=a3
   have hf2:4294967296<=s.width*256*256^f*256:=by
    rw[Nat.pow_succ]at hf
    have e:s.width*(256^f*256)*256=s.width*256*256^f*256:=by
     rw[Nat.mul_assoc s.width 256,Nat.mul_comm 256 (256^f)]
    rwa [e]at hf
   obtain⟨q1,q2⟩:=h.put (s':=JS s (s.width*256)) (k':=k) (n':=n)
   have hlow:s.low<18446744073709551616:=by have:=ho.1;omega
   have hkk:s.out.length+s.begun.toNat+s.held<=900000:=by have:eK s=s.out.length+s.begun.toNat+s.held:=rfl;omega
   have sf:=VY e m k n hk (JS s (s.width*256)) _ hlow (by show s.held<_;omega) (by show s.out.length+s.held+1<=_;omega) q1.2.1
   rw[qp]at sf
   obtain⟨v1,v2⟩:=h.put (s':=sh (JS s (s.width*256))) (k':=k) (n':=n)
   obtain⟨hp2,b1,b2,b3⟩:=ih (sh (JS s (s.width*256))) _ v1 (by rw[a4];exact a1) (by rw[a4];omega) (by rw[a4];exact hf2) (by omega)
   rw[en]
   refine⟨hp2,?_,b2,v2.trans b3⟩
   have d1:decide ((s.width:Int)<Int.ofNat 16777216)=true:=decide_eq_true (by show(s.width:Int)<((16777216:Nat):Int);omega)
   have s8:∀t o o',qr Tryz.prog .shl t o o' (.int .u32 (s.width:Int)) (.int .u64 8)=some (.int .u32 ((s.width*256:Nat):Int)):=by
    intro t o o'
    rw[zF _ _ _ _ _ _ _ _ (by omega)]
    have e2:(2:Int)^min (8:Int).toNat IntKind.u32.bits=256:=rfl
    have e3:(s.width:Int)*256=((s.width*256:Nat):Int):=by omega
    rw[e2,e3,qD (by omega) (by omega)]
   have h2:=h.2.1
   have ew:EC m (JS s (s.width*256)) k n=[.ptr m 0 0,.sc (.int .u64 (s.low:Int)),.sc (.int .u32 ((s.width*256:Nat):Int)),.sc (.int .i64 (s.held:Int)),.sc (.int .u8 (s.last:Int)),.sc (.bool s.begun),S k 1 (LI .u8 s.out),.sc (.int .i64 (n:Int))]:=rfl
   rw[ew]at sf
   simp only[EC]at h2
   rw[<-b1,qhq]
   generalize((s.width*256:Nat):Int)=W at*
   rw[wz h2 (gs2E _ _ _ _),ZC,d1,cond_true]
   clear d1
   simp[h2,gs2,s8,p2,sf]
  ·have en:zj (f+1) s=s:=by
    show(if s.width<16777216 then _ else _)=_
    rw[if_neg hl]
   rw[en]
   exact done s hp h hl
theorem quq(x:Nat)(hx:x<64)(cs:List Nat)(hm:okM cs)(n:Nat)(hn:n<1000000)(s:En)(hp:Hp)(h:EW hp e m cb s cs k n)(ho:Za s s.width)(hw:16777216<=s.width/\s.width<4294967296)(hK:eK s+4<=900000):
 ∃hp',run cxX 89 [.ptr e 0 0,.sc (.int .i64 (x:Int))] hp=some (.sc (.bool true),hp')/\EW hp' e m cb (zj 4 (xg s cs x)) (JT cs x) k (n+1)/\F3 e m cb hp hp':=by
 obtain⟨m1,m2,m3⟩:=hm
 have hn1:1<=cs.getD x 0:=by
  rw[List.getD_eq_getElem?_getD,List.getElem?_eq_getElem (by omega)]
  exact m3 _ (List.getElem_mem _)
 have ht:=qI cs x (by omega)
 have hta:=qK cs (x+1)
 have hpart:4096<=s.width/cs.sum:=by
  rw[Nat.le_div_iff_mul_le (by omega)]
  have:4096*cs.sum<=4096*4096:=Nat.mul_le_mul_left _ m2
  omega
 have hmul:s.width/cs.sum*cs.sum<=s.width:=Nat.div_mul_le_self _ _
 have hsum:s.width/cs.sum*(cs.take x).sum+s.width/cs.sum*cs.getD x 0<=s.width:=by
  rw[<-Nat.mul_add,<-ht]
  exact Nat.le_trans (Nat.mul_le_mul_left _ hta) hmul
 have hge:s.width/cs.sum*1<=s.width/cs.sum*cs.getD x 0:=Nat.mul_le_mul_left _ hn1
 have hpw:s.width/cs.sum<=s.width:=Nat.div_le_self _ _
 obtain⟨o1,o2,o3,o4⟩:=ho
 have ok:Za (xg s cs x) (xg s cs x).width:=by
  refine⟨?_,o2,?_,fun q=>?_⟩
  ·show s.low+s.width/cs.sum*(cs.take x).sum+s.width/cs.sum*cs.getD x 0<=_;omega
  ·show 0<s.width/cs.sum*cs.getD x 0;omega
  ·have:=o4 q
   show s.low+s.width/cs.sum*(cs.take x).sum+s.width/cs.sum*cs.getD x 0<=_;omega
 obtain⟨q1,q2⟩:=h.put (s':=xg s cs x) (k':=k) (n':=n)
 obtain⟨hp1,b1,b2,b3⟩:=qps e m cb k hk x hx cs ⟨m1,m2,m3⟩ n hn 4 (xg s cs x) _ q1 ok (by show s.width/cs.sum*cs.getD x 0<_;omega) (by
  show 4294967296<=s.width/cs.sum*cs.getD x 0*256^4*256
  have e:(256:Nat)^4=4294967296:=by decide
  rw[e]
  omega) hK
 refine⟨hp1,?_,b2,q2.trans b3⟩
 have pt:=qes hp m cb cs h.2.2.1 (by omega) m1 x hx
 have al:=XL hp m cb cs h.2.2.1
 have h2:=h.2.1
 have en:EC m (xg s cs x) k n=[.ptr m 0 0,.sc (.int .u64 ((s.low+s.width/cs.sum*(cs.take x).sum:Nat):Int)),.sc (.int .u32 ((s.width/cs.sum*cs.getD x 0:Nat):Int)),.sc (.int .i64 (s.held:Int)),.sc (.int .u8 (s.last:Int)),.sc (.bool s.begun),S k 1 (LI .u8 s.out),.sc (.int .i64 (n:Int))]:=rfl
 rw[en]at b1
 have gs2:∀(x0 x1:AV) (v:Value) (r:List AV),qe (x0::x1::.sc v::r) 2=some v:=fun _ _ _ _=>rfl
 have gc0:∀(x:AV) (l:List AV),qj (x::l) 0=some x:=fun _ _=>rfl
 have p1:∀(x0 x1 x2 x3 x4 x5 x6 x7 z:AV),qh [x0,x1,x2,x3,x4,x5,x6,x7] 1 [z]=some [x0,z,x2,x3,x4,x5,x6,x7]:=fun _ _ _ _ _ _ _ _ _=>rfl
 have p2:∀(x0 x1 x2 x3 x4 x5 x6 x7 z:AV),qh [x0,x1,x2,x3,x4,x5,x6,x7] 2 [z]=some [x0,x1,z,x3,x4,x5,x6,x7]:=fun _ _ _ _ _ _ _ _ _=>rfl
 have w1:IntKind.u32.wrap ((cs.sum:Nat):Int)=((cs.sum:Nat):Int):=qD (by omega) (by omega)
 have qd:∀t o o',qr Tryz.prog .quo t o o' (.int .u32 (s.width:Int)) (.int .u32 (cs.sum:Nat))=some (.int .u32 ((s.width/cs.sum:Nat):Int)):=by
  intro t o o'
  rw[jU _ _ _ _ _ _ _ (by omega),Int.tdiv_eq_ediv_of_nonneg (by omega)]
  have e:(s.width:Int)/((cs.sum:Nat):Int)=((s.width/cs.sum:Nat):Int):=by simp
  rw[e,qD (by omega) (by omega)]
 have hcx:cs.getD x 0<=4096:=by omega
 have htx:(cs.take x).sum<=4096:=by omega
 simp only[EC]at h2
 rw[E89]
 have hz:¬(cs.getD x 0=0):=by omega
 have e1:((s.width/cs.sum:Nat):Int)*(((cs.take x).sum:Nat):Int)=((s.width/cs.sum*(cs.take x).sum:Nat):Int):=by simp
 have e2:((s.width/cs.sum:Nat):Int)*((cs.getD x 0:Nat):Int)=((s.width/cs.sum*cs.getD x 0:Nat):Int):=by simp
 generalize hA:s.width/cs.sum*(cs.take x).sum=A at*
 generalize hB:s.width/cs.sum*cs.getD x 0=B at*
 generalize s.width/cs.sum=p at*
 generalize(cs.take x).sum=tk at*
 generalize cs.getD x 0=gx at*
 have w2:IntKind.u64.wrap (p:Int)=(p:Int):=qn (by omega) (by omega)
 have w3:IntKind.u64.wrap (tk:Int)=(tk:Int):=qn (by omega) (by omega)
 have w4:IntKind.u64.wrap ((p:Int)*(tk:Int))=(A:Int):=by rw[e1,qn (by omega) (by omega)]
 have w5:IntKind.u64.wrap ((s.low:Int)+(A:Int))=((s.low+A:Nat):Int):=by rw[qn]<;>omega
 have w6:IntKind.u32.wrap (gx:Int)=(gx:Int):=qD (by omega) (by omega)
 have w7:IntKind.u32.wrap ((p:Int)*(gx:Int))=(B:Int):=by rw[e2,qD (by omega) (by omega)]
 generalize((s.low+A:Nat):Int)=LA at*
 simp[h2,gc0,pt,hz,gs2,al,JD,w1,qd,qdo,zJ,w2,xj,w3,w4,w5,p1,w6,w7,qi,p2,qp,b1]
end
theorem qmn:∀(f:Nat) (s:En),s.width<4294967296->(zj f s).width<4294967296:=by
 intro f
 induction f with
 |zero=>intro s h;exact h
 |succ f ih=>
  intro s h
  unfold zj
  split
  ·apply ih
   have:(sh (JS s (s.width*256))).width=s.width*256:=by unfold sh;split<;>rfl
   rw[this];omega
  ·exact h
theorem zcp{B d:Nat}(h1:1<=B)(h2:B*256^d<=4294967296):d<=4:=by
 by_cases h:d<=4
 ·exact h
 ·have h3:(256:Nat)^5<=256^d:=Nat.pow_le_pow_right (by decide) (by omega)
  have h4:1*256^d<=B*256^d:=Nat.mul_le_mul_right _ h1
  have h5:(256:Nat)^5=1099511627776:=by decide
  omega
theorem qgq(b m n:Nat):∀(f i:Nat) (s:En) (hp:Hp),i+f=5->Za s 1->eK s+f<=950000->hp.rd b 0=some (EC m s 1 n)->
 ∃s',(s'=(Nat.rec s (fun _ t=>sh t) f:En))/\∃hp',B90_6 (.ptr b 0 0) (.int .i64 (i:Int)) hp=some (S 1 1 (LI .u8 s'.out),hp')/\hp'.next=hp.next/\∀c,c≠b->hp'.get c=hp.get c:=by
 intro f
 induction f with
 |zero=>
  intro i s hp h ho hK hr
  have e:i=5:=by omega
  subst e
  refine⟨s,rfl,hp.put b 0 ((EC m s 1 n).set 6 (ro1 (S 1 1 (LI .u8 s.out)))),?_,rfl,fun c hc=>by simp[Hp.put,hc]⟩
  rw[qhp]
  have gc6:∀(x0 x1 x2 x3 x4 x5 x6 x7:AV),qj [x0,x1,x2,x3,x4,x5,x6,x7] 6=some x6:=fun _ _ _ _ _ _ _ _=>rfl
  simp only[EC]at hr⊢
  simp[hr,gc6]
 |succ f ih=>
  intro i s hp h ho hK hr
  have s1:=Jb s 1 ho (by omega)
  have hkk:eK s=s.out.length+s.begun.toNat+s.held:=rfl
  have sf:=VY b m 1 n (.inl rfl) s hp (by have:=ho.1;omega) (by omega) (by omega) hr
  obtain⟨s',e1,hp2,a1,a2,a3⟩:=ih (i+1) (sh s) (hp.put b 0 (EC m (sh s) 1 n)) (by omega) (Yj s1.1 (by omega) (by omega)) (by rw[s1.2.2.1];omega) (qi _ _ _)
  have er:∀(f:Nat) (s:En),(Nat.rec (sh s) (fun _ t=>sh t) f:En)=sh (Nat.rec s (fun _ t=>sh t) f:En):=by
   intro f s
   induction f with
   |zero=>rfl
   |succ f ihf=>show sh _=sh (sh _);rw[ihf]
  refine⟨s',by rw[e1,er],hp2,?_,by rw[a2];rfl,fun c hc=>by rw[a3 c hc];simp[Hp.put,hc]⟩
  have hlt:(i:Int)<5:=by omega
  have w1:IntKind.i64.wrap ((i:Int)+1)=((i+1:Nat):Int):=by rw[qf]<;>omega
  rw[<-a1,qhp]
  generalize((i+1:Nat):Int)=I at*
  simp[hlt,sf,w1]
theorem qjp(e m n k:Nat)(s:En)(hp:Hp)(he:e<hp.next)(ho:Za s 1)(hK:eK s+5<=950000)(hr:hp.rd e 0=some (EC m s k n)):
 ∃hp',run cxX 90 [.ptr e 0 0] hp=some (S 1 1 (LI .u8 (sh (sh (sh (sh (sh s))))).out),hp')/\Fm [] hp hp':=by
 have hkk:eK s=s.out.length+s.begun.toNat+s.held:=rfl
 obtain⟨s',e1,hp2,a1,a2,a3⟩:=qgq hp.next m n 5 0 s (hp.new (EC m s 1 n)) rfl ho hK (qz _ _)
 have e1:s'=sh (sh (sh (sh (sh s)))):=e1
 rw[e1]at a1
 refine⟨hp2,?_,by rw[a2];simp,fun c hc _=>by
  have:c≠hp.next:=by omega
  rw[a3 c this];simp[Hp.new,this]⟩
 have gn:∀(x0 x1 x2 x3 x4 x5 x6 x7:AV),ql [x0,x1,x2,x3,x4,x5,x6,x7] 0 8=some [x0,x1,x2,x3,x4,x5,x6,x7]:=fun _ _ _ _ _ _ _ _=>rfl
 have gc6:∀(x0 x1 x2 x3 x4 x5 x6 x7:AV),qj [x0,x1,x2,x3,x4,x5,x6,x7] 6=some x6:=fun _ _ _ _ _ _ _ _=>rfl
 have p8:∀(a0 a1 a2 a3 a4 a5 a6 a7 x0 x1 x2 x3 x4 x5 x6 x7:AV),qh [a0,a1,a2,a3,a4,a5,a6,a7] 0 [x0,x1,x2,x3,x4,x5,x6,x7]=some [x0,x1,x2,x3,x4,x5,x6,x7]:=fun _ _ _ _ _ _ _ _ _ _ _ _ _ _ _ _=>rfl
 have p6:∀(x0 x1 x2 x3 x4 x5 x6 x7 z:AV),qh [x0,x1,x2,x3,x4,x5,x6,x7] 6 [z]=some [x0,x1,x2,x3,x4,x5,z,x7]:=fun _ _ _ _ _ _ _ _ _=>rfl
 have ap:=fun k=>qxy .u8 [] 1 (.inl rfl) 1 (by decide) k s.out (by simp;omega)
 simp at ap
 have hne:e≠hp.next:=by omega
 have r1:∀X,(hp.new X).rd e 0=hp.rd e 0:=fun X=>zX hp X hne
 generalize(sh (sh (sh (sh (sh s))))).out=O at*
 simp only[EC]at hr a1
 rw[E90]
 simp at a1
 simp[hr,gn,qz,jC,p8,xx,r1,gc6,ap,p6,a1]
theorem qjf(hp:Hp):∃hp' e m cb,run cxX 88 [.sc (.int .i64 64)] hp=some (.ptr e 0 0,hp')/\EW hp' e m cb en0 cs0 2 0/\hp.next<=e/\hp.next<=m/\hp.next<=cb/\hp.next<=hp'.next/\∀c,c<hp.next->hp'.get c=hp.get c:=by
 obtain⟨hp1,cb,a1,a2,a3,a4,a5⟩:=qev hp
 have hcb:=a2.2.1
 have hm:=a2.1
 refine⟨hp1.new (EC hp.next en0 2 0),hp1.next,hp.next,cb,?_,⟨by simp,qz _ _,a2.fr (Fm.new [] hp1 _) (by simp) (by simp),by omega,by omega⟩,a4,Nat.le_refl _,by omega,by simp;omega,fun c hc=>by
  have:c≠hp1.next:=by omega
  rw[<-a5 c hc]
  simp[Hp.new,this]⟩
 have p0:∀(x0 x1 x2 x3 x4 x5 x6 x7 z:AV),qh [x0,x1,x2,x3,x4,x5,x6,x7] 0 [z]=some [z,x1,x2,x3,x4,x5,x6,x7]:=fun _ _ _ _ _ _ _ _ _=>rfl
 have p2:∀(x0 x1 x2 x3 x4 x5 x6 x7 z:AV),qh [x0,x1,x2,x3,x4,x5,x6,x7] 2 [z]=some [x0,x1,z,x3,x4,x5,x6,x7]:=fun _ _ _ _ _ _ _ _ _=>rfl
 rw[E88]
 simp[a1,p0,p2]
 rfl
theorem qqj(l:List Nat)(k' e m cb:Nat)(hl:l.length<=100000)(h64:∀x∈l,x<64):∀(r:List Nat) (i:Nat) (s:En) (cs:List Nat) (hp:Hp),l.drop i=r->i+r.length=l.length->EW hp e m cb s cs 2 i->okM cs->Za s s.width->16777216<=s.width/\s.width<4294967296->eK s<=4*i->
 ∃hp' cs',B37_5 (.ptr e 0 0) (S k' 1 (LI .u8 (nz l))) (.int .i64 (l.length:Int)) (.int .i64 (i:Int)) hp=B37_5 (.ptr e 0 0) (S k' 1 (LI .u8 (nz l))) (.int .i64 (l.length:Int)) (.int .i64 (l.length:Int)) hp'/\
  EW hp' e m cb (enc cs s r) cs' 2 l.length/\F3 e m cb hp hp'/\Za (enc cs s r) (enc cs s r).width/\eK (enc cs s r)<=4*l.length:=by
 intro r
 induction r with
 |nil=>
  intro i s cs hp h hil hE hm ho hw hK
  have e:i=l.length:=by simpa using hil
  subst e
  exact⟨hp,cs,rfl,hE,⟨rfl,fun _ _ _ _=>rfl⟩,ho,hK⟩
 |cons x r ih=>
  intro i s cs hp h hil hE hm ho hw hK
  obtain⟨e1,e2,hi,e3⟩:=qm h
  simp only[List.length_cons]at hil
  have hx:x<64:=h64 x (by rw[<-e3];exact List.getElem_mem _)
  obtain⟨d,b1,b2,b3,b4,b5,b6,b7⟩:=ZR s cs x hm hx ho ⟨hw.1,Nat.le_of_lt hw.2⟩
  have hd:d<=4:=zcp b7 (by rw[<-b2];exact b6)
  have hlt2:(zj 4 (xg s cs x)).width<4294967296:=by
   apply qmn
   show s.width/cs.sum*cs.getD x 0<_
   have ht:=qI cs x (by have:=hm.1;omega)
   have hta:=qK cs (x+1)
   have hmul:s.width/cs.sum*cs.sum<=s.width:=Nat.div_mul_le_self _ _
   have hle:s.width/cs.sum*cs.getD x 0<=s.width/cs.sum*cs.sum:=Nat.mul_le_mul_left _ (by omega)
   omega
  obtain⟨hp1,c1,c2,c3⟩:=quq e m cb 2 (.inr rfl) x hx cs hm i (by omega) s hp hE ho hw (by omega)
  obtain⟨hp2,cs2,d1,d2,d3,d4,d5⟩:=ih (i+1) (zj 4 (xg s cs x)) (JT cs x) hp1 e2 (by omega) c2 (Zr hm hx) b4 ⟨b5,hlt2⟩ (by omega)
  have ee:enc cs s (x::r)=enc (JT cs x) (zj 4 (xg s cs x)) r:=rfl
  rw[ee]
  refine⟨hp2,cs2,?_,d2,c3.trans d3,d4,d5⟩
  have hlt:(i:Int)<(l.length:Int):=by omega
  have gs0:∀(v:Value),qe [.sc v] 0=some v:=fun _=>rfl
  have en:∀h,(nz l)[i]'h=(x:Int):=fun h=>by simp[nz,e3]
  have hi4:(i<l.length)=True:=by simp[hi]
  have w1:IntKind.i64.wrap (x:Int)=(x:Int):=qf (by omega) (by omega)
  have w2:IntKind.i64.wrap ((i:Int)+1)=((i+1:Nat):Int):=by rw[qf]<;>omega
  rw[<-d1,qih]
  generalize((i+1:Nat):Int)=I at*
  simp[hi4,gs0,en,yN,w1,c1,w2]
theorem Wk(l:List Nat)(k:Nat)(hl:l.length<=100000)(h64:∀x∈l,x<64)(hp:Hp):∃hp',run cxX 37 [.sc (.int .i64 64),S k 1 (LI .u8 (nz l))] hp=some (.tup [S 1 1 (LI .u8 (xu l)),.sc (.int .i64 0)],hp')/\Fm [] hp hp':=by
 obtain⟨hp1,e,m,cb,a1,a2,a3,a4,a5,a6,a7⟩:=qjf hp
 obtain⟨hp2,cs2,b1,b2,b3,b4,b5⟩:=qqj l (rk k) e m cb hl h64 l 0 en0 cs0 hp1 rfl (by simp) a2 qv0 qv1 ⟨by decide,by decide⟩ (by decide)
 obtain⟨hp3,c1,c2⟩:=qjp e m l.length 2 (enc cs0 en0 l) hp2 b2.1 (Yj b4 b4.2.2.1 (by omega)) (by omega) b2.2.1
 have ec:(sh (sh (sh (sh (sh (enc cs0 en0 l)))))).out=xu l:=rfl
 rw[ec]at c1
 refine⟨hp3,?_,by have:=c2.1;rw[b3.1]at this;omega,fun c hc _=>by
  rw[c2.2 c (by rw[b3.1];omega) (by simp),b3.2 c (by omega) (by omega) (by omega),a7 c hc]⟩
 have b5':B37_5 (.ptr e 0 0) (S (rk k) 1 (LI .u8 (nz l))) (.int .i64 (l.length:Int)) (.int .i64 (l.length:Int)) hp2=some (.tup [S 1 1 (LI .u8 (xu l)),.sc (.int .i64 0)],hp3):=by
  rw[qih]
  generalize xu l=O at*
  simp[c1]
 rw[<-b1]at b5'
 have b3':B37_3 (.int .i64 64) (S k 1 (LI .u8 (nz l))) hp=some (.tup [S 1 1 (LI .u8 (xu l)),.sc (.int .i64 0)],hp3):=by
  rw[<-b5',qyt]
  simp[a1]
 rw[E37]
 simp[b3']
theorem xv:∀(b a:List Int),qE (a++b)=qE a*256^b.length+qE b:=by
 intro b
 induction b with
 |nil=>intro a;simp[qE]
 |cons c b ih=>
  intro a
  have e1:a++c::b=(a++[c])++b:=by simp
  have e2:c::b=[c]++b:=rfl
  have e3:qE [c]=c.toNat:=by simp[qE]
  rw[e1,ih,jJ,e2,ih [c],e3,List.length_append,Nat.pow_add,Nat.add_mul,Nat.mul_assoc]
  have e4:256^[c].length=256:=rfl
  rw[e4]
  omega
theorem Xt:∀(l:List Int),(∀x∈l,0<=x/\x<256)->qE l<256^l.length:=by
 intro l
 induction l with
 |nil=>intro _;decide
 |cons c b ih=>
  intro h
  have hc:=h c (by simp)
  have i:=ih fun x hx=>h x (by simp[hx])
  have e2:c::b=[c]++b:=rfl
  have e3:qE [c]=c.toNat:=by simp[qE]
  have hm:c.toNat*256^b.length<=255*256^b.length:=Nat.mul_le_mul_right _ (by omega)
  rw[e2,xv,e3,List.length_append,Nat.pow_add]
  have e4:256^[c].length=256:=rfl
  rw[e4]
  omega
theorem Qw(C:List Int)(j:Nat)(h:j<C.length):qE (C.take (j+1))=qE (C.take j)*256+(C.getD j 0).toNat:=by
 have e:C.take (j+1)=C.take j++[C.getD j 0]:=by
  rw[List.take_add_one,List.getD_eq_getElem?_getD,List.getElem?_eq_getElem h];rfl
 rw[e,jJ]
theorem qg0(C:List Int)(h:∀x∈C,0<=x/\x<256)(j D a b:Nat)(hj:C.length=j+D)(h1:a*256^D<=qE C)(h2:qE C<b*256^D):a<=qE (C.take j)/\qE (C.take j)<b:=by
 have e:qE C=qE (C.take j)*256^D+qE (C.drop j):=by
  have:=xv (C.drop j) (C.take j)
  rw[List.take_append_drop,List.length_drop]at this
  rw[this]
  congr 3
  omega
 have hl:qE (C.drop j)<256^D:=by
  have:=Xt (C.drop j) fun x hx=>h x (List.mem_of_mem_drop hx)
  rw[List.length_drop]at this
  have e2:C.length-j=D:=by omega
  rwa [e2]at this
 generalize qE (C.take j)=q at*
 generalize 256^D=P at*
 have hp:0<P:=by omega
 constructor
 ·have:a*P<(q+1)*P:=by rw[Nat.add_mul];omega
  have:=Nat.lt_of_mul_lt_mul_right this
  omega
 ·have:q*P<b*P:=by omega
  exact Nat.lt_of_mul_lt_mul_right this
section
variable (C:List Int)(hC:∀x∈C,0<=x/\x<256)
include hC
theorem zbq(s:En)(cs:List Nat)(l:List Nat)(hm:okM cs)(hl:∀x∈l,x<64)(ho:Za s s.width)(hw:16777216<=s.width/\s.width<=4294967296)(h1:qE C=eV (enc cs s l))(h2:C.length=eK (enc cs s l)+4):
 eK s+4<=C.length/\eV s<=qE (C.take (eK s+4))/\qE (C.take (eK s+4))<eV s+s.width:=by
 obtain⟨d,a1,a2,a3,_,a5⟩:=qk6 l cs s hm hl ho hw
 have w:=qg0 C hC (eK s+4) d (eV s) (eV s+s.width) (by omega) (by rw[h1];exact a2) (by rw[h1];omega)
 exact⟨by omega,w.1,w.2⟩
theorem zbr(s:En)(cs:List Nat)(x:Nat)(l:List Nat)(hm:okM cs)(hx:x<64)(hl:∀x∈l,x<64)(ho:Za s s.width)(hw:16777216<=s.width/\s.width<=4294967296)(h1:qE C=eV (enc (JT cs x) (zj 4 (xg s cs x)) l))(h2:C.length=eK (enc (JT cs x) (zj 4 (xg s cs x)) l)+4):
 eV s+s.width/cs.sum*(cs.take x).sum<=qE (C.take (eK s+4))/\qE (C.take (eK s+4))<eV s+s.width/cs.sum*(cs.take x).sum+s.width/cs.sum*cs.getD x 0:=by
 obtain⟨d,b1,b2,b3,b4,b5,b6,b7⟩:=ZR s cs x hm hx ho hw
 obtain⟨d1,a1,a2,a3,_,a5⟩:=qk6 l (JT cs x) (zj 4 (xg s cs x)) (Zr hm hx) hl b4 ⟨b5,b6⟩
 rw[b1]at a2
 rw[b1,b2,<-Nat.add_mul]at a3
 refine qg0 C hC (eK s+4) (d+d1) _ _ (by omega) ?_ ?_
 ·rw[h1,Nat.pow_add,<-Nat.mul_assoc];exact a2
 ·rw[h1,Nat.pow_add,<-Nat.mul_assoc];omega
end
theorem qxr(L:List Int)(j:Nat)(v:Int)(hj:j<L.length):qE (L.set j v)+(L.getD j 0).toNat*256^(L.length-1-j)=qE L+v.toNat*256^(L.length-1-j):=by
 have e:L=L.take j++([L.getD j 0]++L.drop (j+1)):=by
  rw[List.getD_eq_getElem?_getD,List.getElem?_eq_getElem hj,Option.getD_some,List.singleton_append,<-List.drop_eq_getElem_cons hj,List.take_append_drop]
 have e2:L.set j v=L.take j++([v]++L.drop (j+1)):=by
  rw[List.set_eq_take_append_cons_drop,if_pos hj];rfl
 have one:∀z:Int,qE [z]=z.toNat:=fun z=>by simp[qE]
 have ld:(L.drop (j+1)).length=L.length-1-j:=by rw[List.length_drop];omega
 have b1:qE L=qE (L.take j++([L.getD j 0]++L.drop (j+1))):=by rw[<-e]
 rw[e2,b1,xv,xv,xv,xv,one,one,ld]
 simp only[List.length_append,List.length_singleton,ld]
 omega
theorem qnm:∀(a b:List Int),(∀x∈a,0<=x/\x<256)->(∀x∈b,0<=x/\x<256)->a.length=b.length->qE a=qE b->a=b
 |[],[],_,_,_,_=>rfl
 |[],_::_,_,_,h,_=>by cases h
 |_::_,[],_,_,h,_=>by cases h
 |x::a,y::b,ha,hb,hl,h=>by
  have hl':a.length=b.length:=by simpa using hl
  have one:∀z:Int,qE [z]=z.toNat:=fun z=>by simp[qE]
  have s1:qE (x::a)=x.toNat*256^a.length+qE a:=by rw[<-one,<-xv];rfl
  have s2:qE (y::b)=y.toNat*256^a.length+qE b:=by rw[<-one,hl',<-xv];rfl
  have l1:=Xt a fun z hz=>ha z (by simp[hz])
  have l2:=Xt b fun z hz=>hb z (by simp[hz])
  rw[<-hl']at l2
  rw[s1,s2]at h
  generalize 256^a.length=P at*
  have hq:x.toNat=y.toNat:=by
   have d1:(x.toNat*P+qE a)/P=x.toNat:=by rw[Nat.mul_comm,Nat.mul_add_div (by omega),Nat.div_eq_of_lt l1];omega
   have d2:(y.toNat*P+qE b)/P=y.toNat:=by rw[Nat.mul_comm,Nat.mul_add_div (by omega),Nat.div_eq_of_lt l2];omega
   rw[<-d1,<-d2,h]
  have hx:=ha x (by simp);have hy:=hb y (by simp)
  have hxy:x=y:=by omega
  rw[hq]at h
  have ih:=qnm a b (fun z hz=>ha z (by simp[hz])) (fun z hz=>hb z (by simp[hz])) hl' (by omega)
  rw[hxy,ih]
def MR(hp:Hp)(b:Nat)(cs:List Nat):Prop:=b<hp.next/\hp.rd b 0=some (LI .i64 (nz cs))
theorem MR.fr{hp hp':Hp}{b:Nat}{cs:List Nat}{X:List Nat}(h:MR hp b cs)(f:Fm X hp hp')(h1:b∉X):MR hp' b cs:=
 ⟨Nat.lt_of_lt_of_le h.1 f.1,by rw[f.rd h.1 h1];exact h.2⟩
theorem gC0(x:AV)(l:List AV):qj (x::l) 0=some x:=rfl
theorem gN1(x:AV):ql [x] 0 1=some [x]:=rfl
theorem pN1(x y:AV):qh [x] 0 [y]=some [y]:=rfl
theorem qkf:∀(f i b:Nat) (hp:Hp),i+f=64->1<=i->MR hp b (List.replicate i 1)->
 ∃hp' b',B162_3 (.int .i64 64) (.int .i64 (i:Int)) [S 2 1 []] [.ms b 0 0 i 1] hp=some (.agg [.ms b' 0 0 64 1],hp')/\MR hp' b' cs0:=by
 intro f
 induction f with
 |zero=>
  intro i b hp h h1 hm
  have e:i=64:=by omega
  subst e
  refine⟨hp,b,?_,hm⟩
  rw[Yz]
  simp[gN1,pN1]
 |succ f ih=>
  intro i b hp h h1 hm
  have hlt:(i:Int)<64:=by omega
  have w1:IntKind.i64.wrap ((i:Int)+1)=((i+1:Nat):Int):=by rw[qf]<;>omega
  have hl:(nz (List.replicate i 1)).length=i:=by simp
  have ap:=Qz .i64 (nz (List.replicate i 1)) 1 8 b (by decide) (by rw[hl];omega) (by intro e;rw[e]at hl;simp at hl;omega) hp hm.2
  rw[hl]at ap
  have e1:nz (List.replicate i 1)++[1]=nz (List.replicate (i+1) 1):=by rw[List.replicate_succ',vi];rfl
  rw[e1]at ap
  obtain⟨hp',b',a1,a2⟩:=ih (i+1) hp.next ((hp.del b).new (LI .i64 (nz (List.replicate (i+1) 1)))) (by omega) (by omega) ⟨by simp[Hp.del],qz (hp.del b) _⟩
  refine⟨hp',b',?_,a2⟩
  rw[Yz]
  generalize nz (List.replicate (i+1) 1)=L at*
  generalize((i+1:Nat):Int)=I at*
  simp[hlt,gC0,ap,pN1,w1,a1]
theorem qof(hp:Hp):∃hp' b,run cxX 162 [.sc (.int .i64 64)] hp=some (.agg [.ms b 0 0 64 1],hp')/\MR hp' b cs0:=by
 have ap:=wM .i64 1 8 (by decide) hp
 obtain⟨hp',b',a1,a2⟩:=qkf 63 1 hp.next (hp.new (LI .i64 [1])) rfl (by omega) ⟨by simp,qz _ _⟩
 refine⟨hp',b',?_,a2⟩
 rw[E162]
 have h3:B162_3 (.int .i64 64) (.int .i64 0) [S 2 1 []] [S 2 1 []] hp=some (.agg [.ms b' 0 0 64 1],hp'):=by
  rw[Yz]
  generalize LI .i64 [1]=L at*
  simp[gC0,ap,pN1]
  simpa using a1
 simp[h3]
section
variable (hp:Hp)(b:Nat)(cs:List Nat)(h:MR hp b cs)(hl:cs.length=64)(hs:cs.sum<=1000000)
include h hl hs
theorem qkg:∀(f i:Nat),i+f=64->
 B163_3 (.int .i64 ((cs.take i).sum:Nat)) (.int .i64 (i:Int)) [.ms b 0 0 64 1] hp=some (.sc (.int .i64 (cs.sum:Nat)),hp):=by
 intro f
 induction f with
 |zero=>
  intro i e
  have e:i=64:=by omega
  subst e
  have et:cs.take 64=cs:=by rw[<-hl,List.take_length]
  rw[qa5,et]
  simp[gC0]
 |succ f ih=>
  intro i e
  have hn:=ih (i+1) (by omega)
  have ix:idx 64 (.int .i64 (i:Int))=some i:=qU .i64 (by omega)
  have g:=jv .i64 (nz cs) i (by simp;omega)
  rw[ym cs i (by omega)]at g
  have st:=qI cs i (by omega)
  have sl:=qK cs (i+1)
  have w1:IntKind.i64.wrap ((((cs.take i).sum:Nat):Int)+((cs.getD i 0:Nat):Int))=(((cs.take (i+1)).sum:Nat):Int):=by rw[qf]<;>omega
  have w2:IntKind.i64.wrap ((i:Int)+1)=((i+1:Nat):Int):=by rw[qf]<;>omega
  have hlt:(i:Int)<64:=by omega
  rw[<-hn,qa5]
  have h2:=h.2
  generalize(((cs.take i).sum:Nat):Int)=A at*
  generalize(((cs.take (i+1)).sum:Nat):Int)=A1 at*
  generalize((cs.getD i 0:Nat):Int)=B at*
  generalize((i+1:Nat):Int)=I at*
  have hlt':i<64:=by omega
  simp[gC0,hlt',ix,h2,g,w1,w2]
theorem We:run cxX 163 [.agg [.ms b 0 0 64 1]] hp=some (.sc (.int .i64 (cs.sum:Nat)),hp):=by
 have lp:=qkg hp b cs h hl hs 64 0 rfl
 rw[E163]
 simp at lp
 simp[lp]
theorem qdc(x:Nat)(hx:x<64):∀(f i:Nat),i+f=x->
 B165_3 (.int .i64 (x:Int)) (.int .i64 ((cs.take i).sum:Nat)) (.int .i64 (i:Int)) [.ms b 0 0 64 1] hp=some (.sc (.int .i64 ((cs.take x).sum:Nat)),hp):=by
 intro f
 induction f with
 |zero=>
  intro i e
  have e:i=x:=by omega
  subst e
  rw[qa2]
  simp
 |succ f ih=>
  intro i e
  have hn:=ih (i+1) (by omega)
  have ix:idx 64 (.int .i64 (i:Int))=some i:=qU .i64 (by omega)
  have g:=jv .i64 (nz cs) i (by simp;omega)
  rw[ym cs i (by omega)]at g
  have st:=qI cs i (by omega)
  have sl:=qK cs (i+1)
  have w1:IntKind.i64.wrap ((((cs.take i).sum:Nat):Int)+((cs.getD i 0:Nat):Int))=(((cs.take (i+1)).sum:Nat):Int):=by rw[qf]<;>omega
  have w2:IntKind.i64.wrap ((i:Int)+1)=((i+1:Nat):Int):=by rw[qf]<;>omega
  have hlt:(i:Int)<(x:Int):=by omega
  rw[<-hn,qa2]
  have h2:=h.2
  generalize(((cs.take i).sum:Nat):Int)=A at*
  generalize(((cs.take (i+1)).sum:Nat):Int)=A1 at*
  generalize((cs.getD i 0:Nat):Int)=B at*
  generalize((i+1:Nat):Int)=I at*
  simp[gC0,hlt,ix,h2,g,w1,w2]
theorem qeu(x:Nat)(hx:x<64):run cxX 165 [.agg [.ms b 0 0 64 1],.sc (.int .i64 (x:Int))] hp=some (.sc (.int .i64 ((cs.take x).sum:Nat)),hp):=by
 have lp:=qdc hp b cs h hl hs x hx x 0 (by omega)
 rw[E165]
 simp at lp
 simp[lp]
end
theorem qke(d:List Nat)(hd:d.length=64)(hs:d.sum<=1000000)(b:Nat):∀(f i:Nat) (hp:Hp),i+f=64->b<hp.next->hp.rd b 0=some (LI .i64 (nz (hf d i)))->
 ∃hp',B166_5 (.int .i64 (i:Int)) [S 2 1 []] [.ms b 0 0 64 1] hp=some (.agg [.ms b 0 0 64 1],hp')/\MR hp' b (d.map fun n=>(n+1)/2)/\hp'.next=hp.next/\∀c,c≠b->hp'.get c=hp.get c:=by
 intro f
 induction f with
 |zero=>
  intro i hp hi h1 h2
  have e:i=64:=by omega
  subst e
  have ef:hf d 64=d.map fun n=>(n+1)/2:=by rw[<-hd,qwv]
  rw[ef]at h2
  refine⟨hp,?_,⟨h1,h2⟩,rfl,fun _ _=>rfl⟩
  rw[qa1]
  simp[gC0,qa0,gN1,pN1]
 |succ f ih=>
  intro i hp hi h1 h2
  have hid:i<d.length:=by omega
  have hlt:(i:Int)<64:=by omega
  have ix:idx 64 (.int .i64 (i:Int))=some i:=qU .i64 (by omega)
  have g:=jv .i64 (nz (hf d i)) i (by simp;omega)
  rw[ym _ i (by simp;omega),qwu d i hid]at g
  have hx:d.getD i 0<=1000000:=by
   have:=qI d i hid
   have:=qK d (i+1)
   omega
  have p:=yL .i64 (nz (hf d i)) i (((d.getD i 0+1)/2:Nat):Int) (by simp;omega)
  have es:(nz (hf d i)).set i (((d.getD i 0+1)/2:Nat):Int)=nz (hf d (i+1)):=by
   rw[qdn d i hid];unfold nz;rw[List.map_set]
  rw[es]at p
  have w1:IntKind.i64.wrap (((d.getD i 0:Nat):Int)+1)=((d.getD i 0+1:Nat):Int):=by rw[qf]<;>omega
  have q2:∀t o o',qr Tryz.prog .quo t o o' (.int .i64 ((d.getD i 0+1:Nat):Int)) (.int .i64 2)=some (.int .i64 (((d.getD i 0+1)/2:Nat):Int)):=by
   intro t o o'
   rw[jU _ _ _ _ _ _ _ (by omega),Int.tdiv_eq_ediv_of_nonneg (by omega),qf (by omega) (by omega)]
   rfl
  have w4:IntKind.i64.wrap ((i:Int)+1)=((i+1:Nat):Int):=by rw[qf]<;>omega
  obtain⟨hp2,a1,a2,a3,a4⟩:=ih (i+1) (hp.put b 0 (LI .i64 (nz (hf d (i+1))))) (by omega) h1 (qi _ _ _)
  refine⟨hp2,?_,a2,by rw[a3];rfl,fun c c1=>by rw[a4 c c1];simp[Hp.put,c1]⟩
  rw[<-a1,qa1]
  generalize nz (hf d (i+1))=L1 at*
  generalize nz (hf d i)=L0 at*
  generalize(((d.getD i 0+1)/2:Nat):Int)=y2 at*
  generalize((d.getD i 0+1:Nat):Int)=y1 at*
  generalize((d.getD i 0:Nat):Int)=y0 at*
  generalize((i+1:Nat):Int)=I at*
  have hlt':i<64:=by omega
  simp[gC0,hlt',ix,h2,g,w1,q2,p,w4]
theorem qqz(K:IntKind)(l:List Int)(b:Nat)(hb:0<b/\b<=1000)(x:Nat)(hl:l.length<=1000000)(hne:l≠[])(hp:Hp)(hx:hp.rd x 0=some (LI K l)):
 jo b 1 (S 1 1 []) (.ms x 0 0 l.length 1) hp=some (.ms hp.next 0 0 l.length 1,hp.new (LI K l)):=by
 have e:=Ja K l hp x 0 l.length hx (by omega)
 rw[List.drop_zero,List.take_length,<-Zn hp 1 1 (LI K l)]at e
 have h:=kX K l 1 b hb hl hne hp
 unfold jo at h⊢
 rw[e]
 exact h
theorem qoe(hp:Hp)(b x:Nat)(cs:List Nat)(h:MR hp b cs)(hm:okM cs)(hx:x<64):
 ∃hp' b',run cxX 166 [.agg [.ms b 0 0 64 1],.sc (.int .i64 (x:Int))] hp=some (.agg [.ms b' 0 0 64 1],hp')/\MR hp' b' (JT cs x)/\hp.next<=b'/\Fm [] hp hp':=by
 obtain⟨m1,m2,m3⟩:=hm
 have hnl:(nz cs).length=64:=by simp[m1]
 have ap:=qqz .i64 (nz cs) 8 (by decide) b (by omega) (by intro e;rw[e]at hnl;cases hnl) hp h.2
 rw[hnl]at ap
 have ix:idx 64 (.int .i64 (x:Int))=some x:=qU .i64 (by omega)
 have g:=jv .i64 (nz cs) x (by simp;omega)
 rw[ym cs x (by omega)]at g
 have st:=qI cs x (by omega)
 have sl:=qK cs (x+1)
 have ss:=qcf cs x (cs.getD x 0+24) (by omega)
 have w1:IntKind.i64.wrap (((cs.getD x 0:Nat):Int)+24)=((cs.getD x 0+24:Nat):Int):=by rw[qf]<;>omega
 have p:=yL .i64 (nz cs) x ((cs.getD x 0+24:Nat):Int) (by simp;omega)
 have es:(nz cs).set x ((cs.getD x 0+24:Nat):Int)=nz (cs.set x (cs.getD x 0+24)):=by unfold nz;rw[List.map_set]
 rw[es]at p
 have dl:(cs.set x (cs.getD x 0+24)).length=64:=by simp[m1]
 have rn:=qz hp (LI .i64 (nz cs))
 have f0:Fm [] hp ((hp.new (LI .i64 (nz cs))).put hp.next 0 (LI .i64 (nz (cs.set x (cs.getD x 0+24))))):=by
  refine⟨Nat.le_succ _,fun c hc _=>?_⟩
  have:c≠hp.next:=by omega
  simp[Hp.put,Hp.new,this]
 have rm:MR ((hp.new (LI .i64 (nz cs))).put hp.next 0 (LI .i64 (nz (cs.set x (cs.getD x 0+24))))) hp.next (cs.set x (cs.getD x 0+24)):=⟨Nat.lt_succ_self _,qi _ _ _⟩
 have al:=We _ hp.next (cs.set x (cs.getD x 0+24)) rm dl (by omega)
 unfold JT
 generalize hd:cs.set x (cs.getD x 0+24)=d at*
 generalize hq:(hp.new (LI .i64 (nz cs))).put hp.next 0 (LI .i64 (nz d))=hq1 at*
 by_cases hle:d.sum<=4096
 ·rw[if_pos hle]
  refine⟨hq1,hp.next,?_,rm,Nat.le_refl _,f0⟩
  have hle':¬((4096:Int)<((d.sum:Nat):Int)):=by omega
  rw[E166]
  generalize((d.sum:Nat):Int)=D at*
  generalize((cs.getD x 0+24:Nat):Int)=y1 at*
  generalize((cs.getD x 0:Nat):Int)=y0 at*
  simp[gC0,ap,pN1,ix,rn,g,w1,p,hq,gN1,al,hle',qa0]
 ·rw[if_neg hle]
  have e0:hf d 0=d:=by unfold hf;simp
  obtain⟨hp2,a1,a2,a3,a4⟩:=qke d dl (by omega) hp.next 64 0 hq1 rfl rm.1 (by rw[e0];exact rm.2)
  refine⟨hp2,hp.next,?_,a2,Nat.le_refl _,by rw[a3];exact f0.1,fun c hc hn=>by rw[a4 c (by omega),f0.2 c hc hn]⟩
  have hle':(4096:Int)<((d.sum:Nat):Int):=by omega
  rw[E166]
  generalize((d.sum:Nat):Int)=D at*
  generalize((cs.getD x 0+24:Nat):Int)=y1 at*
  generalize((cs.getD x 0:Nat):Int)=y0 at*
  simp at a1
  simp[gC0,ap,pN1,ix,rn,g,w1,p,hq,gN1,al,hle',a1]
def LR(hp:Hp)(b:Nat)(L:List Int):Prop:=b<hp.next/\hp.rd b 0=some (LI .u8 L)/\∀x∈L,0<=x/\x<256
theorem qpg(b n T:Nat)(hn:n<=1000000)(hT:T<256^n):∀(i c:Nat) (L:List Int) (hp:Hp),L.length=n->i<=n->c<18446744073709551616->LR hp b L->qE L+c*256^(n-i)=T->
 ∃hp' L',B164_3 (.ms b 0 0 n 1) (.int .u64 (c:Int)) (.int .i64 ((i:Int)-1)) hp=some (.ms b 0 0 n 1,hp')/\LR hp' b L'/\L'.length=n/\qE L'=T/\hp'.next=hp.next/\∀z,z≠b->hp'.get z=hp.get z:=by
 intro i
 induction i with
 |zero=>
  intro c L hp hl hi hc hL hb
  have c0:c=0:=by
   rcases Nat.eq_zero_or_pos c with e|e
   ·exact e
   ·have:1*256^(n-0)<=c*256^(n-0):=Nat.mul_le_mul_right _ e
    rw[Nat.sub_zero]at this hb
    omega
  subst c0
  refine⟨hp,L,?_,hL,hl,by simpa using hb,rfl,fun _ _=>rfl⟩
  rw[qa4]
  simp[qa3]
 |succ i ih=>
  intro c L hp hl hi hc hL hb
  have e1:((i+1:Nat):Int)-1=(i:Int):=by omega
  rw[qa4,e1]
  by_cases hc0:0<c
  ·obtain⟨L1,L2,L3⟩:=hL
   have hi':i<L.length:=by omega
   have ix:idx n (.int .i64 (i:Int))=some i:=qU .i64 (by omega)
   have g:=jv .u8 L i (by omega)
   have hx:0<=L.getD i 0/\L.getD i 0<256:=by
    rw[List.getD_eq_getElem?_getD,List.getElem?_eq_getElem hi']
    exact L3 _ (List.getElem_mem _)
   obtain⟨y,hy⟩:∃y:Nat,L.getD i 0=(y:Int):=⟨(L.getD i 0).toNat,by omega⟩
   rw[hy]at g hx
   have r1:=Xh c 256 (by decide)
   have r2:=Xh (y+c%256) 256 (by decide)
   have q1:=Jn c 256 (by decide) hc
   have q2:=Jn (y+c%256) 256 (by decide) (by omega)
   have w0:IntKind.u64.wrap (y:Int)=(y:Int):=qn (by omega) (by omega)
   have w1:IntKind.u64.wrap ((y:Int)+((c%256:Nat):Int))=((y+c%256:Nat):Int):=by rw[qn]<;>omega
   have w2:IntKind.u8.wrap (((y+c%256)%256:Nat):Int)=(((y+c%256)%256:Nat):Int):=qT (by omega) (by omega)
   have w3:IntKind.u64.wrap (((c/256:Nat):Int)+(((y+c%256)/256:Nat):Int))=((c/256+(y+c%256)/256:Nat):Int):=by rw[qn]<;>omega
   have w4:IntKind.i64.wrap ((i:Int)-1)=(i:Int)-1:=qf (by omega) (by omega)
   have p:=yL .u8 L i (((y+c%256)%256:Nat):Int) (by omega)
   have bs:=qxr L i (((y+c%256)%256:Nat):Int) hi'
   rw[hy,Int.toNat_natCast,Int.toNat_natCast,hl]at bs
   have en:n-1-i=n-(i+1):=by omega
   have en2:n-i=n-(i+1)+1:=by omega
   have hb':qE (L.set i (((y+c%256)%256:Nat):Int))+(c/256+(y+c%256)/256)*256^(n-i)=T:=by
    rw[en]at bs
    rw[en2,Nat.pow_succ]
    have k1:c=c/256*256+c%256:=by omega
    have k2:y+c%256=(y+c%256)/256*256+(y+c%256)%256:=by omega
    generalize 256^(n-(i+1))=P at*
    generalize(y+c%256)/256=u at*
    generalize(y+c%256)%256=v at*
    generalize c/256=c1 at*
    generalize c%256=c2 at*
    have e3:(c1+u)*(P*256)=c1*256*P+u*256*P:=by rw[Nat.mul_comm P 256,<-Nat.mul_assoc,Nat.add_mul,Nat.add_mul]
    have e4:y*P+c2*P=u*256*P+v*P:=by rw[<-Nat.add_mul,<-Nat.add_mul,k2]
    have e5:c*P=c1*256*P+c2*P:=by rw[<-Nat.add_mul,<-k1]
    omega
   have hL':LR (hp.put b 0 (LI .u8 (L.set i (((y+c%256)%256:Nat):Int)))) b (L.set i (((y+c%256)%256:Nat):Int)):=by
    refine⟨L1,qi _ _ _,fun x hx'=>?_⟩
    rcases List.mem_or_eq_of_mem_set hx' with h|h
    ·exact L3 x h
    ·rw[h];omega
   obtain⟨hp',L',a1,a2,a3,a4,a5,a6⟩:=ih (c/256+(y+c%256)/256) _ _ (by simp[hl]) (by omega) (by omega) hL' hb'
   refine⟨hp',L',?_,a2,a3,a4,by rw[a5];rfl,fun z hz=>by rw[a6 z hz];simp[Hp.put,hz]⟩
   rw[<-a1]
   have hc0':(0:Int)<(c:Int):=by omega
   simp only[Int.cast_ofNat_Int]at r1 r2 q1 q2
   have h5:B164_5 (.ms b 0 0 n 1) (.int .u64 (c:Int)) (.int .i64 (i:Int)) hp=B164_3 (.ms b 0 0 n 1) (.int .u64 ((c/256+(y+c%256)/256:Nat):Int)) (.int .i64 ((i:Int)-1)) (hp.put b 0 (LI .u8 (L.set i (((y+c%256)%256:Nat):Int)))):=by
    rw[qru]
    clear a1 hL' hb' bs ih
    generalize((c/256+(y+c%256)/256:Nat):Int)=C3 at*
    generalize(((y+c%256)%256:Nat):Int)=v at*
    generalize(((y+c%256)/256:Nat):Int)=u at*
    generalize((y+c%256:Nat):Int)=s at*
    generalize((c/256:Nat):Int)=c1 at*
    generalize((c%256:Nat):Int)=c2 at*
    simp[ix,L2,g,w0,r1,w1,r2,w2,p,q1,q2,w3,w4]
   clear a1 hL' hb' bs ih p w2 w3 a5 a6
   generalize((c/256+(y+c%256)/256:Nat):Int)=C3 at*
   generalize(((y+c%256)%256:Nat):Int)=v at*
   simp[hc0,h5]
  ·have c0:c=0:=by omega
   subst c0
   refine⟨hp,L,?_,hL,hl,by simpa using hb,rfl,fun _ _=>rfl⟩
   simp[qa3]
theorem qod(b c:Nat)(L:List Int)(hp:Hp)(hl:L.length<=1000000)(hc:c<18446744073709551616)(hL:LR hp b L)(hT:qE L+c<256^L.length):
 ∃hp' L',run cxX 164 [.ms b 0 0 L.length 1,.sc (.int .u64 (c:Int))] hp=some (.ms b 0 0 L.length 1,hp')/\LR hp' b L'/\L'.length=L.length/\qE L'=qE L+c/\hp'.next=hp.next/\∀z,z≠b->hp'.get z=hp.get z:=by
 obtain⟨hp',L',a1,a2⟩:=qpg b L.length (qE L+c) hl hT L.length c L hp rfl (Nat.le_refl _) hc hL (by simp)
 refine⟨hp',L',?_,a2⟩
 have w1:IntKind.i64.wrap ((L.length:Int)-1)=(L.length:Int)-1:=qf (by omega) (by omega)
 rw[E164]
 simp[w1,a1]
theorem LR.fr{hp hp':Hp}{b:Nat}{L:List Int}{X:List Nat}(h:LR hp b L)(f:Fm X hp hp')(h1:b∉X):LR hp' b L:=
 ⟨Nat.lt_of_lt_of_le h.1 f.1,by rw[f.rd h.1 h1];exact h.2.1,h.2.2⟩
structure CQ (hp : Hp) (lo mb : Nat) (L : List Int) (cs : List Nat) (s : En) : Prop where
 lr:LR hp lo L
 mr:MR hp mb cs
 ne:lo≠mb
 v:qE L=eV s
 k:L.length=eK s+4
 up:eV s+s.width<=256^L.length
theorem qqp(X:AV)(v8 v9:Value)(b5:List AV)(w:Int)(hp:Hp)(hw:w<16777216)(W:Int)(w1:IntKind.u64.wrap (w*256)=W)(lo n:Nat)(Y:AV)(hp':Hp)(ap:jo 1 1 (.ms lo 0 0 n 1) (S 1 1 [.sc (.int .u8 0)]) hp=some (Y,hp')):
 B112_11 X (.ms lo 0 0 n 1) (.int .u64 w) v8 v9 b5 hp=B112_11 X Y (.int .u64 W) v8 v9 b5 hp':=by
 rw[Vn]
 simp[hw,w1,ap]
theorem qqq(X x6:AV)(i:Int)(v9:Value)(w:Int)(hp:Hp)(hw:¬(w<16777216))(i':Int)(w1:IntKind.i64.wrap (i+1)=i')(mb mb':Nat)(hp':Hp)(d1:run cxX 166 [.agg [.ms mb 0 0 64 1],.sc v9] hp=some (.agg [.ms mb' 0 0 64 1],hp')):
 B112_11 X x6 (.int .u64 w) (.int .i64 i) v9 [.ms mb 0 0 64 1] hp=B112_5 X x6 (.int .u64 w) (.int .i64 i') [.ms mb' 0 0 64 1] hp':=by
 rw[Vn]
 simp[hw,gN1,pN1,d1,w1]
theorem qqn(k mb:Nat)(X:AV)(v8 v9:Value)(cs:List Nat):∀(f:Nat) (s:En) (lo:Nat) (L:List Int) (hp:Hp),CQ hp lo mb L cs s->Za s s.width->s.width<=4294967296->L.length+f<=900000->
 ∃hp' lo' L',B112_11 X (.ms lo 0 0 L.length 1) (.int .u64 (s.width:Int)) v8 v9 [.ms mb 0 0 64 1] hp=B112_11 X (.ms lo' 0 0 L'.length 1) (.int .u64 ((zj f s).width:Nat)) v8 v9 [.ms mb 0 0 64 1] hp'/\
  CQ hp' lo' mb L' cs (zj f s)/\L'.length<=L.length+f:=by
 intro f
 induction f with
 |zero=>intro s lo L hp h ho hw hl;exact⟨hp,lo,L,rfl,h,Nat.le_refl _⟩
 |succ f ih=>
  intro s lo L hp h ho hw hl
  unfold zj
  by_cases hlt:s.width<16777216
  ·rw[if_pos hlt]
   have ho':Za (JS s (s.width*256)) s.width:=ho
   obtain⟨a1,a2,a3,a4⟩:=Jb (JS s (s.width*256)) s.width ho' (by omega)
   have a4:(sh (JS s (s.width*256))).width=s.width*256:=a4
   rw[(Yo s _).1]at a2
   rw[(Yo s _).2]at a3
   have hne:L≠[]:=by intro e;have:=h.k;rw[e]at this;simp at this
   have ap:=Qz .u8 L 0 1 lo (by decide) (by omega) hne hp h.lr.2.1
   have fm:Fm [lo] hp ((hp.del lo).new (LI .u8 (L++[0]))):=Fm.delNew hp lo _ (by simp)
   have cq:CQ ((hp.del lo).new (LI .u8 (L++[0]))) hp.next mb (L++[0]) cs (sh (JS s (s.width*256))):=by
    refine⟨⟨by simp[Hp.del],qz (hp.del lo) _,fun x hx=>?_⟩,h.mr.fr fm (by simp;exact fun e=>h.ne e.symm),by have:=h.mr.1;omega,?_,?_,?_⟩
    ·rcases List.mem_append.mp hx with q|q
     ·exact h.lr.2.2 x q
     ·simp at q;omega
    ·have e0:(0:Int).toNat=0:=rfl
     rw[jJ,h.v,a2,e0,Nat.add_zero]
    ·have q:=h.k
     rw[a3,List.length_append,List.length_singleton];omega
    ·rw[a2,a4,List.length_append,List.length_singleton,Nat.pow_succ,<-Nat.add_mul]
     exact Nat.mul_le_mul_right _ h.up
   obtain⟨hp',lo',L',b1,b2,b3⟩:=ih (sh (JS s (s.width*256))) hp.next (L++[0]) _ cq (by rw[a4];exact a1) (by rw[a4];omega) (by simp;omega)
   refine⟨hp',lo',L',?_,b2,by simp at b3;omega⟩
   have w1:IntKind.u64.wrap ((s.width:Int)*256)=((s.width*256:Nat):Int):=by rw[qn]<;>omega
   rw[<-b1,a4,List.length_append,List.length_singleton]
   exact qqp X v8 v9 _ _ hp (by omega) _ w1 _ _ _ _ ap
  ·rw[if_neg hlt]
   exact⟨hp,lo,L,rfl,h,Nat.le_add_right _ _⟩
theorem qqo(l:List Nat)(k:Nat)(h64:∀x∈l,x<64)(hl:l.length<=100000):∀(r:List Nat) (i:Nat) (cs:List Nat) (s:En) (lo mb:Nat) (L:List Int) (hp:Hp),l.drop i=r->i+r.length=l.length->CQ hp lo mb L cs s->okM cs->Za s s.width->
 16777216<=s.width/\s.width<=4294967296->L.length+4*r.length<=900000->
 ∃hp' L',B112_5 (S k 1 (LI .u8 (nz l))) (.ms lo 0 0 L.length 1) (.int .u64 (s.width:Int)) (.int .i64 (i:Int)) [.ms mb 0 0 64 1] hp=some (S 0 1 (LI .u8 L'),hp')/\
  qE L'=eV (enc cs s r)/\L'.length=eK (enc cs s r)+4/\∀x∈L',0<=x/\x<256:=by
 intro r
 induction r with
 |nil=>
  intro i cs s lo mb L hp h hil hq hm ho hw hb
  simp at hil
  have fz:=wF .u8 L hp lo hq.lr.2.1
  refine⟨hp.del lo,L,?_,hq.v,hq.k,hq.lr.2.2⟩
  rw[qbz]
  simp[hil,fz]
 |cons x r ih=>
  intro i cs s lo mb L hp h hil hq hm ho hw hb
  obtain⟨e1,e2,hi,e3⟩:=qm h
  simp only[List.length_cons]at hil hb
  have hx:x<64:=by rw[<-e3];exact h64 _ (List.getElem_mem _)
  obtain⟨m1,m2,m3⟩:=hm
  have al:=We hp mb cs hq.mr m1 (by omega)
  have stt:=qeu hp mb cs hq.mr m1 (by omega) x hx
  have ht:=qI cs x (by omega)
  have hta:=qK cs (x+1)
  have hn:1<=cs.getD x 0:=by
   rw[List.getD_eq_getElem?_getD,List.getElem?_eq_getElem (by omega)]
   exact m3 _ (List.getElem_mem _)
  have hmul:s.width/cs.sum*cs.sum<=s.width:=Nat.div_mul_le_self _ _
  have hsum:s.width/cs.sum*(cs.take x).sum+s.width/cs.sum*cs.getD x 0<=s.width:=by
   rw[<-Nat.mul_add,<-ht]
   exact Nat.le_trans (Nat.mul_le_mul_left _ hta) hmul
  obtain⟨d,b1,b2,b3,b4,b5,b6,b7⟩:=ZR s cs x ⟨m1,m2,m3⟩ hx ho hw
  have up:=hq.up
  have vv:=hq.v
  obtain⟨h4,L4,p1,p2,p3,p4,p5,p6⟩:=qod lo (s.width/cs.sum*(cs.take x).sum) L hp (by omega) (by omega) hq.lr (by rw[vv];omega)
  have mr4:MR h4 mb cs:=⟨by rw[p5];exact hq.mr.1,by rw[rdg (p6 mb (fun e=>hq.ne e.symm))];exact hq.mr.2⟩
  have okn:Za (xg s cs x) (xg s cs x).width:=by
   obtain⟨h1,h2,h3,h4⟩:=ho
   refine⟨?_,h2,b7,fun q=>?_⟩
   ·show s.low+s.width/cs.sum*(cs.take x).sum+s.width/cs.sum*cs.getD x 0<=_;omega
   ·have:=h4 q
    show s.low+s.width/cs.sum*(cs.take x).sum+s.width/cs.sum*cs.getD x 0<=_;omega
  have ev:eV (xg s cs x)=eV s+s.width/cs.sum*(cs.take x).sum:=by
   show qE (bl s)*4294967296+(s.low+_)=qE (bl s)*4294967296+s.low+_
   omega
  have cq4:CQ h4 lo mb L4 cs (xg s cs x):=⟨p2,mr4,hq.ne,by rw[p4,vv,ev],by rw[p3];exact hq.k,by rw[ev,p3];show _+s.width/cs.sum*cs.getD x 0<=_;omega⟩
  obtain⟨h5,lo5,L5,c1,c2,c3⟩:=qqn k mb (S k 1 (LI .u8 (nz l))) (.int .i64 (i:Int)) (.int .i64 (x:Int)) cs 4 (xg s cs x) lo L4 h4 cq4 okn (by show s.width/cs.sum*cs.getD x 0<=_;omega) (by omega)
  obtain⟨h6,mb6,d1,d2,d3,d4⟩:=qoe h5 mb x cs c2.mr ⟨m1,m2,m3⟩ hx
  have cq6:CQ h6 lo5 mb6 L5 (JT cs x) (zj 4 (xg s cs x)):=⟨c2.lr.fr d4 (by simp),d2,by have:=c2.lr.1;omega,c2.v,c2.k,c2.up⟩
  obtain⟨hp',L',f1,f2⟩:=ih (i+1) (JT cs x) (zj 4 (xg s cs x)) lo5 mb6 L5 h6 e2 (by omega) cq6 (Zr ⟨m1,m2,m3⟩ hx) b4 ⟨b5,b6⟩ (by omega)
  refine⟨hp',L',?_,f2⟩
  rw[<-f1,qbz]
  have c11:B112_11 (S k 1 (LI .u8 (nz l))) (.ms lo5 0 0 L5.length 1) (.int .u64 ((zj 4 (xg s cs x)).width:Nat)) (.int .i64 (i:Int)) (.int .i64 (x:Int)) [.ms mb 0 0 64 1] h5=
   B112_5 (S k 1 (LI .u8 (nz l))) (.ms lo5 0 0 L5.length 1) (.int .u64 ((zj 4 (xg s cs x)).width:Nat)) (.int .i64 ((i+1:Nat):Int)) [.ms mb6 0 0 64 1] h6:=by
   have w1:IntKind.i64.wrap ((i:Int)+1)=((i+1:Nat):Int):=by rw[qf]<;>omega
   exact qqq _ _ _ _ _ h5 (by omega) _ w1 mb mb6 h6 d1
  rw[c11]at c1
  rw[<-c1]
  have ai:=yT .u8 l i hi
  rw[show l.getD i 0=x by rw[List.getD_eq_getElem?_getD,e1];rfl]at ai
  have en:∀h,(nz l)[i]'h=(x:Int):=fun h=>by simp[nz,e3]
  have w0:IntKind.i64.wrap (x:Int)=(x:Int):=qf (by omega) (by omega)
  have w2:IntKind.u64.wrap ((cs.sum:Nat):Int)=((cs.sum:Nat):Int):=qn (by omega) (by omega)
  have q1:=Jn s.width cs.sum (by omega) (by omega)
  have w3:IntKind.u64.wrap (((cs.take x).sum:Nat):Int)=(((cs.take x).sum:Nat):Int):=qn (by omega) (by omega)
  have w4:IntKind.u64.wrap (((s.width/cs.sum:Nat):Int)*(((cs.take x).sum:Nat):Int))=((s.width/cs.sum*(cs.take x).sum:Nat):Int):=by rw[<-Int.natCast_mul,qn]<;>omega
  have w5:IntKind.u64.wrap ((cs.getD x 0:Nat):Int)=((cs.getD x 0:Nat):Int):=qn (by omega) (by omega)
  have w6:IntKind.u64.wrap (((s.width/cs.sum:Nat):Int)*((cs.getD x 0:Nat):Int))=((s.width/cs.sum*cs.getD x 0:Nat):Int):=by rw[<-Int.natCast_mul,qn]<;>omega
  have ix:idx 64 (.int .i64 (x:Int))=some x:=qU .i64 (by omega)
  have g:=jv .i64 (nz cs) x (by simp;omega)
  rw[ym cs x (by omega)]at g
  have m4:=mr4.2
  have ew:(xg s cs x).width=s.width/cs.sum*cs.getD x 0:=rfl
  rw[ew,p3]
  clear c1 c11 f1 f2 cq6 d1 d2 d4 c2 c3 cq4 ev okn mr4 b1 b2 b3 b4 ho hq ih
  generalize((s.width/cs.sum*cs.getD x 0:Nat):Int)=W2 at*
  generalize((s.width/cs.sum*(cs.take x).sum:Nat):Int)=W1 at*
  generalize((s.width/cs.sum:Nat):Int)=part at*
  generalize((cs.getD x 0:Nat):Int)=Xd at*
  generalize(((cs.take x).sum:Nat):Int)=start at*
  generalize((cs.sum:Nat):Int)=sm at*
  simp[hi,ai,en,zh,w0,gN1,al,w2,q1,stt,w3,w4,p1,gC0,ix,m4,g,w5,w6]
theorem JY(s:En)(h:∀x∈s.out,0<=x/\x<256):∀x∈(sh s).out,0<=x/\x<256:=by
 unfold sh
 split
 ·intro x hx
  simp only[List.mem_append,List.mem_replicate]at hx
  rcases hx with(q|q)|q
  ·exact h x q
  ·split at q
   ·simp at q;omega
   ·simp at q
  ·omega
 ·exact h
theorem qv4:∀(f:Nat) (s:En),(∀x∈s.out,0<=x/\x<256)->∀x∈(zj f s).out,0<=x/\x<256:=by
 intro f
 induction f with
 |zero=>intro s h;exact h
 |succ f ih=>
  intro s h
  unfold zj
  split
  ·exact ih _ (JY _ h)
  ·exact h
theorem zbl:∀(l cs:List Nat) (s:En),(∀x∈s.out,0<=x/\x<256)->∀x∈(enc cs s l).out,0<=x/\x<256:=by
 intro l
 induction l with
 |nil=>intro cs s h;exact h
 |cons y r ih=>intro cs s h;exact ih _ _ (qv4 4 _ h)
theorem zb0(l:List Nat):∀x∈xu l,0<=x/\x<256:=
 JY _ (JY _ (JY _ (JY _ (JY _ (zbl l cs0 en0 (fun x hx=>by cases hx))))))
theorem qeq(l:List Nat)(k:Nat)(hl:l.length<=100000)(h64:∀x∈l,x<64)(hp:Hp):∃hp',run cxX 112 [.sc (.int .i64 64),S k 1 (LI .u8 (nz l))] hp=some (S 0 1 (LI .u8 (xu l)),hp'):=by
 obtain⟨h1,mb,a1,a2⟩:=qof hp
 have z:=QC .u8 4
 have mk:yu 1 1 (4:Int) 4=some ():=by decide
 have cq:CQ (h1.new (LI .u8 (List.replicate 4 0))) h1.next mb (List.replicate 4 0) cs0 en0:=by
  refine⟨⟨by simp,qz _ _,fun x hx=>by rw[List.eq_of_mem_replicate hx];decide⟩,a2.fr (Fm.new [] _ _) (by simp),by have:=a2.1;omega,by decide,by decide,by decide⟩
 obtain⟨hp',L',b1,b2,b3,b4⟩:=qqo l k h64 hl l 0 cs0 en0 h1.next mb (List.replicate 4 0) _ rfl (by simp) cq qv0 qv1 ⟨by decide,by decide⟩ (by simp;omega)
 obtain⟨n1,n2⟩:=Xr l h64
 have e:L'=xu l:=qnm L' (xu l) b4 (zb0 l) (by omega) (by omega)
 refine⟨hp',?_⟩
 rw[E112,<-e]
 have ew:en0.width=4294967295:=rfl
 rw[ew]at b1
 simp only[List.length_replicate]at b1
 generalize LI .u8 (List.replicate 4 0)=Z at*
 have z':yU 4 [.int .u8 0]=Z:=z
 simp at b1
 simp[a1,pN1,mk,z',b1]
def Zm:List (Nat×Nat)->Nat
 |[]=>0
 |c::r=>zo c.2 256+Zm r
theorem ql6(a b:List (Nat×Nat)):Zm (a++b)=Zm a+Zm b:=by
 induction a with
 |nil=>simp[Zm]
 |cons c a ih=>simp[Zm,ih];omega
def Xb(key m:Nat):Nat->Nat->List Nat
 |0,_=>[]
 |f+1,i=>if m.testBit i then(key*256+i)::Xb key m f (i+1)else Xb key m f (i+1)
def lsC:List (Nat×Nat)->List Nat
 |[]=>[]
 |c::r=>Xb c.1 c.2 256 0++lsC r
theorem za1(key m:Nat):∀f i,(Xb key m f i).length+zo m i=zo m (i+f):=by
 intro f
 induction f with
 |zero=>intro i;simp[Xb]
 |succ f ih=>
  intro i
  have h:=ih (i+1)
  have e:i+1+f=i+(f+1):=by omega
  rw[e]at h
  have e2:zo m (i+1)=zo m i+(m.testBit i).toNat:=rfl
  rw[e2]at h
  unfold Xb
  cases hb:m.testBit i
  ·rw[hb]at h;simpa using h
  ·rw[hb]at h
   have e3:true.toNat=1:=rfl
   simp only[if_true,List.length_cons]
   omega
theorem qdg(key m:Nat):∀f i y,y∈Xb key m f i↔∃j,i<=j/\j<i+f/\m.testBit j=true/\y=key*256+j:=by
 intro f
 induction f with
 |zero=>intro i y;simp[Xb];omega
 |succ f ih=>
  intro i y
  unfold Xb
  by_cases hb:m.testBit i=true
  ·rw[if_pos hb,List.mem_cons,ih]
   constructor
   ·rintro(h|⟨j,h1,h2,h3,h4⟩)
    ·exact⟨i,Nat.le_refl _,by omega,hb,h⟩
    ·exact⟨j,by omega,by omega,h3,h4⟩
   ·rintro⟨j,h1,h2,h3,h4⟩
    by_cases e:j=i
    ·subst e;exact .inl h4
    ·exact .inr ⟨j,by omega,by omega,h3,h4⟩
  ·rw[if_neg hb,ih]
   constructor
   ·rintro⟨j,h1,h2,h3,h4⟩;exact⟨j,by omega,by omega,h3,h4⟩
   ·rintro⟨j,h1,h2,h3,h4⟩
    by_cases e:j=i
    ·subst e;exact absurd h3 hb
    ·exact⟨j,by omega,by omega,h3,h4⟩
theorem Wo:∀l:List Nat,zi l↔l.Pairwise (·<·):=by
 intro l
 induction l with
 |nil=>simp[zi]
 |cons x r ih=>
  rw[List.pairwise_cons,<-ih]
  constructor
  ·intro h;exact⟨vE r x h,xn h⟩
  ·rintro⟨h1,h2⟩
   cases r with
   |nil=>exact trivial
   |cons y r=>exact⟨h1 y (by simp),h2⟩
theorem zeb(key m:Nat):∀f i,(Xb key m f i).Pairwise (·<·):=by
 intro f
 induction f with
 |zero=>intro i;exact List.Pairwise.nil
 |succ f ih=>
  intro i
  unfold Xb
  split
  ·refine List.Pairwise.cons (fun y hy=>?_) (ih _)
   obtain⟨j,h1,_,_,h4⟩:=(qdg key m f (i+1) y).mp hy
   omega
  ·exact ih _
theorem qms:∀(cs:List (Nat×Nat)) (y:Nat),y∈lsC cs↔∃c∈cs,c.1=y/256/\c.2.testBit (y%256)=true:=by
 intro cs
 induction cs with
 |nil=>intro y;simp[lsC]
 |cons c r ih=>
  intro y
  show y∈Xb c.1 c.2 256 0++lsC r↔_
  rw[List.mem_append,qdg,ih]
  constructor
  ·rintro(⟨j,h1,h2,h3,h4⟩|⟨d,h1,h2⟩)
   ·have e1:y/256=c.1:=by omega
    have e2:y%256=j:=by omega
    exact⟨c,by simp,e1.symm,by rw[e2];exact h3⟩
   ·exact⟨d,by simp[h1],h2⟩
  ·rintro⟨d,h1,h2,h3⟩
   rcases List.mem_cons.mp h1 with e|h1
   ·subst e;exact .inl ⟨y%256,by omega,by omega,h3,by omega⟩
   ·exact .inr ⟨d,h1,h2,h3⟩
theorem qkm:∀(cs:List (Nat×Nat)),zi (cs.map (·.1))->(lsC cs).Pairwise (·<·):=by
 intro cs
 induction cs with
 |nil=>intro _;exact List.Pairwise.nil
 |cons c r ih=>
  intro h
  show(Xb c.1 c.2 256 0++lsC r).Pairwise (·<·)
  rw[List.pairwise_append]
  refine⟨zeb _ _ _ _,ih (xn h),fun x hx y hy=>?_⟩
  obtain⟨j,_,h2,_,h4⟩:=(qdg _ _ _ _ x).mp hx
  obtain⟨d,d1,d2,_⟩:=(qms r y).mp hy
  have:c.1<d.1:=vE _ _ h d.1 (List.mem_map.mpr ⟨d,d1,rfl⟩)
  omega
theorem qgw:∀l:List Nat,zi l->zi ((jG l).map (·.1)):=by
 intro l
 induction l with
 |nil=>intro _;exact trivial
 |cons x r ih=>
  intro h
  have i:=ih (xn h)
  have hm:=(qnj (x::r) h).1
  have e:jG (x::r)=xM x (jG r):=rfl
  rw[e]at hm⊢
  generalize hc:jG r=cs at*
  cases cs with
  |nil=>exact trivial
  |cons c cs=>
   rw[zN]at hm⊢
   by_cases hk:c.1=x/256
   ·rw[if_pos hk]at hm⊢
    exact i
   ·rw[if_neg hk]at hm⊢
    have:=hm c (by simp) x (by simp)
    exact⟨by show x/256<c.1;omega,i⟩
theorem za2(l:List Nat)(h:zi l):lsC (jG l)=l:=
 qjw _ _ ((Wo _).mpr (qkm _ (qgw l h))) h (fun y=>by rw[qms,(qnj l h).2])
theorem qvf(m i:Nat):∀n,zo (m|||2^i) n<=zo m n+(decide (i<n)).toNat:=by
 intro n
 induction n with
 |zero=>exact Nat.zero_le _
 |succ n ih=>
  show zo (m|||2^i) n+((m|||2^i).testBit n).toNat<=zo m n+(m.testBit n).toNat+_
  rw[Nat.testBit_or,Nat.testBit_two_pow]
  by_cases e:i=n
  ·subst e
   have h1:decide (i<i)=false:=by simp
   have h2:decide (i<i+1)=true:=by simp
   rw[h1]at ih
   rw[h2]
   have:=b2n (m.testBit i||decide (i=i))
   have e1:true.toNat=1:=rfl
   have e0:false.toNat=0:=rfl
   omega
  ·have h2:decide (i<n+1)=decide (i<n):=by
    by_cases h:i<n
    ·have:i<n+1:=by omega
     simp[h,this]
    ·have:¬(i<n+1):=by omega
     simp[h,this]
   have h3:decide (i=n)=false:=by simp[e]
   rw[h2,h3,Bool.or_false]
   omega
theorem qve:∀n,zo 0 n=0:=by
 intro n
 induction n with
 |zero=>rfl
 |succ n ih=>show zo 0 n+_=0;rw[ih,Nat.zero_testBit];rfl
theorem qy4(x:Nat)(cs:List (Nat×Nat)):Zm (xM x cs)<=Zm cs+1:=by
 have hp:zo (2^(x%256)) 256<=1:=by
  have:=qvf 0 (x%256) 256
  rw[Nat.zero_or,qve]at this
  have:=b2n (decide (x%256<256))
  omega
 cases cs with
 |nil=>show zo (2^(x%256)) 256+0<=0+1;omega
 |cons c r=>
  rw[zN]
  split
  ·show zo (c.2|||2^(x%256)) 256+Zm r<=zo c.2 256+Zm r+1
   have:=qvf c.2 (x%256) 256
   have:=b2n (decide (x%256<256))
   omega
  ·show zo (2^(x%256)) 256+(zo c.2 256+Zm r)<=zo c.2 256+Zm r+1
   omega
theorem qy5:∀l,Zm (jG l)<=l.length:=by
 intro l
 induction l with
 |nil=>exact Nat.le_refl _
 |cons x r ih=>
  have:=qy4 x (jG r)
  show Zm (xM x (jG r))<=r.length+1
  omega
def zr:List Nat->Nat
 |[]=>0
 |x::r=>zr r|||2^x
theorem wt(j:Nat):∀L:List Nat,(zr L).testBit j=true↔j∈L
 |[]=>by simp[zr]
 |x::r=>by
  have ih:=wt j r
  simp only[zr,Nat.testBit_or,Nat.testBit_two_pow,Bool.or_eq_true,decide_eq_true_eq,ih,List.mem_cons]
  constructor
  ·rintro(h|h)
   ·exact .inr h
   ·exact .inl h.symm
  ·rintro(h|h)
   ·exact .inr h.symm
   ·exact .inl h
theorem qdv(m:Nat):∀(f i:Nat) (L:List Nat),(∀j,i<=j->j<i+f->(m.testBit j=true↔j∈L))->(∀x∈L,i<=x/\x<i+f)->L.Pairwise (·<·)->jZ m f i=nz L
 |0,i,L,_,h,_=>by
  cases L with
  |nil=>rfl
  |cons x r=>have:=h x (by simp);omega
 |f+1,i,L,hb,hr,hp=>by
  unfold jZ
  by_cases hi:m.testBit i=true
  ·rw[if_pos hi]
   have hm:=(hb i (Nat.le_refl _) (by omega)).mp hi
   cases L with
   |nil=>cases hm
   |cons x r=>
    obtain⟨h1,h2⟩:=List.pairwise_cons.mp hp
    have hx:x=i:=by
     rcases List.mem_cons.mp hm with e|e
     ·exact e.symm
     ·have:=h1 i e;have:=hr x (by simp);omega
    subst hx
    have ih:=qdv m f (x+1) r (fun j hj hj2=>by
     rw[hb j (by omega) (by omega),List.mem_cons]
     exact⟨fun q=>q.resolve_left (by omega),.inr⟩) (fun y hy=>by have:=h1 y hy;have:=hr y (by simp[hy]);omega) h2
    rw[ih];rfl
  ·rw[if_neg hi]
   have hn:i∉L:=fun q=>hi ((hb i (Nat.le_refl _) (by omega)).mpr q)
   exact qdv m f (i+1) L (fun j hj hj2=>hb j (by omega) (by omega)) (fun y hy=>by
    have:=hr y hy
    have:y≠i:=fun e=>hn (e▸hy)
    omega) hp
def KO(a:List Int):List Int:=a.set (a.length-1) (a.getD (a.length-1) 0+1)
def xI:List Int->Nat->List Nat->List Int
 |a,_,[]=>a
 |a,e,x::r=>if x=e then xI (KO a) (x+1) r else xI (a++[(x:Int),0]) (x+1) r
theorem zb4(a:List Int)(s n:Int):KO (a++[s,n])=a++[s,n+1]:=by
 have e1:(a++[s,n]).length-1=a.length+1:=by simp
 unfold KO
 rw[e1,List.set_append_right _ _ (by omega),List.getD_eq_getElem?_getD,List.getElem?_append_right (by omega)]
 have e2:a.length+1-a.length=1:=by omega
 rw[e2];rfl
theorem qzz(m:Nat)(A:List Int)(s:Int):∀(g k:Nat) (c:Int) (L:List Nat),(∀j,k+1<=j->j<256->(m.testBit j=true↔j∈L))->(∀x∈L,k+1<=x/\x<256)->L.Pairwise (·<·)->k+g=255->
 ∃L2,xI (A++[s,c]) (k+1) L=xI (A++[s,c+((jR m g k-k:Nat):Int)]) (jR m g k+1) L2/\(∀j,jR m g k+1<=j->j<256->(m.testBit j=true↔j∈L2))/\(∀x∈L2,jR m g k+1<x/\x<256)/\L2.Pairwise (·<·):=by
 intro g
 induction g with
 |zero=>
  intro k c L hb hr hp hk
  have e:L=[]:=by
   cases L with
   |nil=>rfl
   |cons x r=>have:=hr x (by simp);omega
  subst e
  refine⟨[],?_,by simpa[jR]using hb,by simp,List.Pairwise.nil⟩
  simp[xI,jR]
 |succ g ih=>
  intro k c L hb hr hp hk
  unfold jR
  by_cases hi:m.testBit (k+1)=true
  ·rw[if_pos hi]
   have hm:=(hb (k+1) (Nat.le_refl _) (by omega)).mp hi
   cases L with
   |nil=>cases hm
   |cons x r=>
    obtain⟨h1,h2⟩:=List.pairwise_cons.mp hp
    have hx:x=k+1:=by
     rcases List.mem_cons.mp hm with e|e
     ·exact e.symm
     ·have:=h1 _ e;have:=hr x (by simp);omega
    subst hx
    obtain⟨L2,a1,a2,a3,a4⟩:=ih (k+1) (c+1) r (fun j hj hj2=>by
     rw[hb j (by omega) (by omega),List.mem_cons]
     exact⟨fun q=>q.resolve_left (by omega),.inr⟩) (fun y hy=>by have:=h1 y hy;have:=hr y (by simp[hy]);omega) h2 (by omega)
    have hge:=(vf m g (k+1)).1
    refine⟨L2,?_,a2,a3,a4⟩
    rw[xI,if_pos rfl,zb4,a1]
    congr 3
    have:c+1+((jR m g (k+1)-(k+1):Nat):Int)=c+((jR m g (k+1)-k:Nat):Int):=by omega
    rw[this]
  ·rw[if_neg hi]
   refine⟨L,?_,hb,fun x hx=>?_,hp⟩
   ·simp
   ·have:=hr x hx
    have:x≠k+1:=fun e=>hi ((hb _ (Nat.le_refl _) (by omega)).mpr (e▸hx))
    omega
theorem qz0(m:Nat):∀(f i e:Nat) (A:List Int) (L:List Nat),(∀j,i<=j->j<256->(m.testBit j=true↔j∈L))->(∀x∈L,i<=x/\x<256)->L.Pairwise (·<·)->e∉L->256<=i+f->
 xI A e L=A++xD m f i:=by
 intro f
 induction f with
 |zero=>
  intro i e A L hb hr hp he hf
  cases L with
  |nil=>simp[xI,xD]
  |cons x r=>have:=hr x (by simp);omega
 |succ f ih=>
  intro i e A L hb hr hp he hf
  unfold xD
  by_cases h256:256<=i
  ·rw[if_pos h256]
   cases L with
   |nil=>simp[xI]
   |cons x r=>have:=hr x (by simp);omega
  ·rw[if_neg h256]
   by_cases hi:m.testBit i=true
   ·rw[if_pos hi]
    have hm:=(hb i (Nat.le_refl _) (by omega)).mp hi
    cases L with
    |nil=>cases hm
    |cons x r=>
     obtain⟨h1,h2⟩:=List.pairwise_cons.mp hp
     have hx:x=i:=by
      rcases List.mem_cons.mp hm with q|q
      ·exact q.symm
      ·have:=h1 _ q;have:=hr x (by simp);omega
     subst hx
     obtain⟨L2,a1,a2,a3,a4⟩:=qzz m A x (255-x) x 0 r (fun j hj hj2=>by
      rw[hb j (by omega) (by omega),List.mem_cons]
      exact⟨fun q=>q.resolve_left (by omega),.inr⟩) (fun y hy=>by have:=h1 y hy;have:=hr y (by simp[hy]);omega) h2 (by omega)
     have hge:=(vf m (255-x) x).1
     have hne:¬(x=e):=fun q=>he (by simp[q])
     rw[xI,if_neg hne,a1,ih (jR m (255-x) x+1) _ _ L2 a2 (fun y hy=>by have:=a3 y hy;omega) a4 (fun q=>by have:=a3 _ q;omega) (by omega)]
     simp
   ·rw[if_neg hi]
    have hn:i∉L:=fun q=>hi ((hb i (Nat.le_refl _) (by omega)).mpr q)
    exact ih (i+1) e A L (fun j hj hj2=>hb j (by omega) (by omega)) (fun y hy=>by
     have:=hr y hy
     have:y≠i:=fun q=>hn (q▸hy)
     omega) hp he (by omega)
theorem QW(m:Nat):∀f i,(jX m f i).length=f
 |0,_=>rfl
 |f+1,i=>by simp[jX,QW m f (i+1)]
theorem Xu(m:Nat):∀f i q,q<f->(jX m f i)[q]?=some ((m/2^(8*(i+q))%256:Nat):Int)
 |0,_,_,h=>by omega
 |f+1,i,0,_=>rfl
 |f+1,i,q+1,h=>by
  have ih:=Xu m f (i+1) q (by omega)
  have e:i+1+q=i+(q+1):=by omega
  rw[e]at ih
  exact ih
theorem qg1:∀f i,jX 0 f i=List.replicate f 0
 |0,_=>rfl
 |f+1,i=>by
  rw[List.replicate_succ,<-qg1 f (i+1)]
  simp[jX]
theorem zgv:(∀y:BitVec 8,y.getLsbD 0=false->(y|||1#8).toNat=y.toNat+1)/\(∀y:BitVec 8,y.getLsbD 1=false->(y|||2#8).toNat=y.toNat+2)/\(∀y:BitVec 8,y.getLsbD 2=false->(y|||4#8).toNat=y.toNat+4)/\
 (∀y:BitVec 8,y.getLsbD 3=false->(y|||8#8).toNat=y.toNat+8)/\(∀y:BitVec 8,y.getLsbD 4=false->(y|||16#8).toNat=y.toNat+16)/\(∀y:BitVec 8,y.getLsbD 5=false->(y|||32#8).toNat=y.toNat+32)/\
 (∀y:BitVec 8,y.getLsbD 6=false->(y|||64#8).toNat=y.toNat+64)/\(∀y:BitVec 8,y.getLsbD 7=false->(y|||128#8).toNat=y.toNat+128):=by
 refine⟨?_,?_,?_,?_,?_,?_,?_,?_⟩<;>decide
theorem zai(y k:Nat)(hy:y<256)(hk:k<8)(hb:y.testBit k=false):y|||2^k=y+2^k:=by
 have key:∀c:Nat,c<256->(BitVec.ofNat 8 y|||BitVec.ofNat 8 c).toNat=y|||c:=by
  intro c hc
  rw[BitVec.toNat_or,BitVec.toNat_ofNat,BitVec.toNat_ofNat,Nat.mod_eq_of_lt (show y<2^8 from hy),Nat.mod_eq_of_lt (show c<2^8 from hc)]
 have hb':(BitVec.ofNat 8 y).getLsbD k=false:=by rw[BitVec.getLsbD_ofNat,hb];simp
 have ht:(BitVec.ofNat 8 y).toNat=y:=by rw[BitVec.toNat_ofNat];exact Nat.mod_eq_of_lt hy
 obtain⟨b0,b1,b2,b3,b4,b5,b6,b7⟩:=zgv
 have hc:k=0\/k=1\/k=2\/k=3\/k=4\/k=5\/k=6\/k=7:=by omega
 rcases hc with e|e|e|e|e|e|e|e<;>subst e
 ·have:=b0 _ hb';rw[ht]at this;rw[<-key 1 (by decide)];exact this
 ·have:=b1 _ hb';rw[ht]at this;rw[<-key 2 (by decide)];exact this
 ·have:=b2 _ hb';rw[ht]at this;rw[<-key 4 (by decide)];exact this
 ·have:=b3 _ hb';rw[ht]at this;rw[<-key 8 (by decide)];exact this
 ·have:=b4 _ hb';rw[ht]at this;rw[<-key 16 (by decide)];exact this
 ·have:=b5 _ hb';rw[ht]at this;rw[<-key 32 (by decide)];exact this
 ·have:=b6 _ hb';rw[ht]at this;rw[<-key 64 (by decide)];exact this
 ·have:=b7 _ hb';rw[ht]at this;rw[<-key 128 (by decide)];exact this
theorem qnl(m x q:Nat)(hb:m.testBit x=false):(m|||2^x)/2^(8*q)%256=if x/8=q then m/2^(8*q)%256+2^(x%8)else m/2^(8*q)%256:=by
 by_cases h:x/8=q
 ·rw[if_pos h]
  have hbb:(m/2^(8*q)%256).testBit (x%8)=false:=by
   rw[KM m q (x%8) (by omega),show 8*q+x%8=x by omega];exact hb
  rw[<-zai _ (x%8) (Nat.mod_lt _ (by decide)) (by omega) hbb]
  have e256:(256:Nat)=2^8:=by decide
  apply Nat.eq_of_testBit_eq
  intro j
  by_cases hj:j<8
  ·rw[KM _ q j hj,Nat.testBit_or,Nat.testBit_or,KM m q j hj,Nat.testBit_two_pow,Nat.testBit_two_pow]
   congr 1
   apply decide_eq_decide.mpr;omega
  ·have h1:((m|||2^x)/2^(8*q)%256).testBit j=false:=by rw[e256,Nat.testBit_mod_two_pow];simp[hj]
   have h2:(m/2^(8*q)%256).testBit j=false:=by rw[e256,Nat.testBit_mod_two_pow];simp[hj]
   have h3:(2^(x%8)).testBit j=false:=by rw[Nat.testBit_two_pow];simp;omega
   rw[Nat.testBit_or,h1,h2,h3];rfl
 ·rw[if_neg h]
  apply Nat.eq_of_testBit_eq
  intro j
  have e256:(256:Nat)=2^8:=by decide
  rw[e256,Nat.testBit_mod_two_pow,Nat.testBit_mod_two_pow,Nat.testBit_div_two_pow,Nat.testBit_div_two_pow,Nat.testBit_or,Nat.testBit_two_pow]
  by_cases hj:j<8
  ·have:¬(x=j+8*q):=by omega
   simp[hj,this]
  ·simp[hj]
theorem qxs(m x:Nat)(hx:x<256)(hb:m.testBit x=false):jX (m|||2^x) 32 0=(jX m 32 0).set (x/8) ((m/2^(8*(x/8))%256+2^(x%8):Nat):Int):=by
 apply List.ext_getElem?
 intro q
 rw[List.getElem?_set,QW]
 by_cases hq:q<32
 ·rw[Xu _ 32 0 q hq,Xu _ 32 0 q hq,Nat.zero_add,qnl m x q hb]
  by_cases h:x/8=q
  ·subst h
   simp;omega
  ·simp[h]
 ·have e1:(jX (m|||2^x) 32 0)[q]?=none:=List.getElem?_eq_none (by rw[QW];omega)
  have e2:(jX m 32 0)[q]?=none:=List.getElem?_eq_none (by rw[QW];omega)
  rw[e1,e2]
  have:¬(x/8=q):=by omega
  simp[this]
theorem KD:∀(l:List Nat) (key:Nat),zi l->(∀x∈l.head?,x/256=key)->l≠[]->
 ∃a b,l=a++b/\a≠[]/\(∀x∈a,x/256=key)/\(∀x∈b.head?,x/256≠key)/\jG l=(key,zr (a.map (·%256)))::jG b/\(a.map (·%256)).Pairwise (·<·)
 |[],_,_,_,h=>absurd rfl h
 |x::r,key,hr,hk,_=>by
  have hx:x/256=key:=hk x (by simp)
  cases r with
  |nil=>
   refine⟨[x],[],rfl,by simp,by simpa using hx,by simp,?_,by simp⟩
   simp[jG,xM,zr,hx]
  |cons y s=>
   have hxy:x<y:=hr.1
   by_cases hy:y/256=key
   ·obtain⟨a,b,e,ha,h1,h2,h3,h4⟩:=KD (y::s) key hr.2 (by simpa using hy) (by simp)
    refine⟨x::a,b,by rw[e];rfl,by simp,?_,h2,?_,?_⟩
    ·intro z hz
     rcases List.mem_cons.mp hz with q|q
     ·rw[q];exact hx
     ·exact h1 z q
    ·show xM x (jG (y::s))=_
     rw[h3,zN,if_pos hx.symm]
     rfl
    ·rw[List.map_cons,List.pairwise_cons]
     refine⟨fun z hz=>?_,h4⟩
     obtain⟨w,hw,rfl⟩:=List.mem_map.mp hz
     have hw2:=vE (y::s) x hr w (by rw[e];exact List.mem_append_left _ hw)
     have:=h1 w hw
     omega
   ·refine⟨[x],y::s,rfl,by simp,by simpa using hx,by simpa using hy,?_,by simp⟩
    show xM x (jG (y::s))=_
    obtain⟨a,b,e,ha,h1,h2,h3,h4⟩:=KD (y::s) (y/256) hr.2 (by simp) (by simp)
    rw[h3,zN,if_neg (by rw[hx];exact hy)]
    simp[zr,hx]
theorem QE(K:IntKind)(hp:Hp)(k:Nat)(m:List Int):wW hp 1 (S k 1 (LI K m))=some (LI K m):=Zn hp k 1 _
theorem kb(K:IntKind)(l m:List Int)(k b:Nat)(hk:k=1\/k=2)(hb:0<b/\b<=1000)(s:AV)(hp:Hp)(hl:l≠[])(hm:m≠[])(h:l.length+m.length<=1000000)(hs:wW hp 1 s=some (LI K m)):
 jo b 1 (S k 1 (LI K l)) s hp=some (S k 1 (LI K (l++m)),hp):=by
 have ap:=ZP b 1 k (LI K l) (LI K m) 1 hk (Kw K m) (.inr (yo hb.1 (by
  simp only[vy]
  have:(l.length+m.length)*b<=1000000*1000:=Nat.mul_le_mul h hb.2
  omega)))
 unfold zZ at ap
 rw[qtp]at ap
 simp only[Option.bind_some]at ap
 have e:LI K l++LI K m=LI K (l++m):=by simp[LI]
 rw[e]at ap
 have hv:(LI K m).all vl=true:=vlI K m
 unfold jo
 rw[hs]
 cases l with
 |nil=>exact absurd rfl hl
 |cons x l=>
  cases m with
  |nil=>exact absurd rfl hm
  |cons y m=>
   have e1:LI K (x::l)= .sc (.int K x)::LI K l:=rfl
   have e2:LI K (y::m)= .sc (.int K y)::LI K m:=rfl
   rw[e1,e2]at ap
   rw[e2]at hv
   have es:S k 1 (LI K (x::l))= .us 1 (.sc (.int K x)::LI K l):=by rcases hk with rfl|rfl<;>rfl
   rw[es,e2]
   rw[<-e1,es]at ap
   show(xx (.sc (.int K y)::LI K m)).bind (fun _=>(qhb b 1 (.us 1 (.sc (.int K x)::LI K l)) (.sc (.int K y)::LI K m)).bind fun r=>some (r,hp))=_
   rw[ap,qvx,xG hv]
   rfl
theorem zca(K:IntKind)(m:List Int)(b:Nat)(hb:0<b/\b<=1000)(hp:Hp)(hm:m≠[])(h:m.length<=1000000):jo b 1 (S 2 1 []) (S 1 1 (LI K m)) hp=some (.ms hp.next 0 0 m.length 1,hp.new (LI K m)):=by
 unfold jo
 rw[QE]
 cases m with
 |nil=>exact absurd rfl hm
 |cons y m=>
  have hf:yk b 1 (LI K (y::m)).length=true:=yo hb.1 (by
   rw[vy]
   have:(y::m).length*b<=1000000*1000:=Nat.mul_le_mul h hb.2
   omega)
  have e2:LI K (y::m)= .sc (.int K y)::LI K m:=rfl
  rw[e2]at hf⊢
  show(wI (vI nil0=true/\yk b 1 (AV.sc (Value.int K y)::LI K m).length=true)).bind _=_
  rw[xG ⟨rfl,hf⟩]
  simp[vy]
theorem qqy(K:IntKind)(l m:List Int)(b x:Nat)(hb:0<b/\b<=1000)(hl:l≠[])(hm:m≠[])(h:l.length+m.length<=1000000)(hp:Hp)(hx:hp.rd x 0=some (LI K l)):
 jo b 1 (.ms x 0 0 l.length 1) (S 1 1 (LI K m)) hp=some (.ms hp.next 0 0 (l.length+m.length) 1,(hp.del x).new (LI K (l++m))):=by
 have hpos:0<l.length:=List.length_pos_iff.mpr hl
 unfold jo
 rw[QE]
 cases m with
 |nil=>exact absurd rfl hm
 |cons y m=>
  have hf:yk b 1 (l.length*1+(LI K (y::m)).length)=true:=yo hb.1 (by
   rw[vy]
   have:(l.length*1+(y::m).length)*b<=1000000*1000:=Nat.mul_le_mul (by omega) hb.2
   omega)
  have e2:LI K (y::m)= .sc (.int K y)::LI K m:=rfl
  rw[e2]at hf⊢
  show(wI (1=1/\0=0/\0<l.length)).bind (fun _=>(hp.rd x 0).bind fun cs=>(wI (l.length*1<=cs.length/\yk b 1 (l.length*1+(AV.sc (Value.int K y)::LI K m).length)=true)).bind fun _=>some (AV.ms hp.next 0 0 (l.length+zt 1 (AV.sc (Value.int K y)::LI K m)) 1,(hp.del x).new ((cs.take (l.length*1)).map ro1++AV.sc (Value.int K y)::LI K m)))=_
  rw[xG ⟨rfl,rfl,hpos⟩]
  simp only[Option.bind_some,hx]
  rw[xG ⟨by rw[vy];omega,hf⟩]
  simp only[Option.bind_some]
  congr 2
  ·rw[Ki];simp
  ·congr 1
   rw[Nat.mul_one,List.take_of_length_le (by simp),Kw]
   simp[LI]
theorem zdz(m:Nat):∀f i,∀x∈xD m f i,0<=x/\x<256:=by
 intro f
 induction f with
 |zero=>intro i x h;simp[xD]at h
 |succ f ih=>
  intro i x h
  unfold xD at h
  by_cases h256:256<=i
  ·rw[if_pos h256]at h;simp at h
  ·rw[if_neg h256]at h
   have:=(vf m (255-i) i).2.1
   split at h
   ·rcases List.mem_cons.mp h with e|h
    ·omega
    ·rcases List.mem_cons.mp h with e|h
     ·omega
     ·exact ih _ x h
   ·exact ih _ x h
theorem qv7(L:List Nat)(x:Nat):zr (L++[x])=zr L|||2^x:=by
 apply Nat.eq_of_testBit_eq
 intro j
 have h1:=wt j (L++[x])
 have h2:=wt j L
 rw[Nat.testBit_or,Nat.testBit_two_pow,Bool.eq_iff_iff]
 simp only[Bool.or_eq_true,decide_eq_true_eq,h1,h2,List.mem_append,List.mem_singleton]
 constructor
 ·rintro(h|h)
  ·exact .inl h
  ·exact .inr h.symm
 ·rintro(h|h)
  ·exact .inl h
  ·exact .inr h.symm
def nxt(e:Nat)(L:List Nat):Nat:=if L=[]then e else L.getD (L.length-1) 0+1
theorem XV(x:Nat):∀(L:List Nat) (a:List Int) (e:Nat),xI a e (L++[x])=if x=nxt e L then KO (xI a e L)else xI a e L++[(x:Int),0]
 |[],a,e=>rfl
 |y::L,a,e=>by
  have en:∀e',nxt e' (y::L)=nxt (y+1) L:=by
   intro e'
   unfold nxt
   cases L with
   |nil=>rfl
   |cons z r=>rfl
  rw[en]
  simp only[List.cons_append,xI]
  split
  ·exact XV x L _ _
  ·exact XV x L _ _
def CSt(hp:Hp)(bb rb:Nat)(m:Nat)(A:List Int):Prop:=
 bb<hp.next/\hp.rd bb 0=some (LI .u8 (jX m 32 0))/\(A≠[]->rb<hp.next/\rb≠bb/\hp.rd rb 0=some (LI .u8 A))
def VL(rb:Nat)(A:List Int):AV:=if A=[]then S 2 1 []else .ms rb 0 0 A.length 1
section
variable (L:List Nat)(hL:∀x∈L,x<256)(hp2:L.Pairwise (·<·))(hne:L≠[])(k key:Nat)(hkey:key<4294967296)
include hL hp2
theorem zc5:L.length<=256:=by
 have h:=qdv (zr L) 256 0 L (fun j _ _=>wt j L) (fun x hx=>⟨Nat.zero_le _,by have:=hL x hx;omega⟩) hp2
 have h2:=congrArg List.length h
 have h3:=qha (zr L) 256 0
 have h4:zo (zr L) 256<=256:=by
  have:∀n,zo (zr L) n<=n:=by
   intro n
   induction n with
   |zero=>exact Nat.le_refl _
   |succ n ih=>
    have:((zr L).testBit n).toNat<=1:=b2n _
    show zo (zr L) n+_<=_;omega
  exact this 256
 rw[qkb]at h2
 have h5:zo (zr L) 0=0:=rfl
 rw[h5]at h3
 simp only[Nat.zero_add,Nat.add_zero]at h3
 omega
theorem qx3:jZ (zr L) 256 0=nz L/\zo (zr L) 256=L.length:=by
 have h:=qdv (zr L) 256 0 L (fun j _ _=>wt j L) (fun x hx=>⟨Nat.zero_le _,by have:=hL x hx;omega⟩) hp2
 exact⟨h,by rw[<-Yw,h,qkb]⟩
theorem qhk:xI [] 300 L=xD (zr L) 256 0:=by
 have h:=qz0 (zr L) 256 0 300 [] L (fun j _ _=>wt j L) (fun x hx=>⟨Nat.zero_le _,hL x hx⟩) hp2 (fun q=>by have:=hL _ q;omega) (by omega)
 simpa using h
omit hL hp2 in
theorem qlp(hL:∀x∈L,x<256)(hp2:L.Pairwise (·<·))(i:Nat):(∀x∈L.take i,x<256)/\(L.take i).Pairwise (·<·):=
 ⟨fun x hx=>hL x (List.mem_of_mem_take hx),hp2.sublist (List.take_sublist i L)⟩
include hne hkey
theorem qqs(hp:Hp)(bb rb:Nat)(h:CSt hp bb rb (zr L) (xI [] 300 L)):
 ∃hp',B156_7 (S k 1 (LI .i64 (nz L))) (S 2 1 (LI .u8 (uv key))) (VL rb (xI [] 300 L)) (.int .i64 (jh (zr L) 256:Nat)) (.ms bb 0 0 32 1) (S 2 1 (LI .u8 (nz L))) (.int .i64 (L.length:Int)) hp=some (S 2 1 (LI .u8 (jW (key,zr L))),hp'):=by
 have ll:=zc5 L hL hp2
 obtain⟨ea,ep⟩:=qx3 L hL hp2
 have er:=qhk L hL hp2
 have hl0:0<L.length:=List.length_pos_iff.mpr hne
 have hrp:0<jh (zr L) 256:=Xi (by rw[ep];exact hl0)
 have hrl:=Zv (zr L) 256
 have hrn:=kj (zr L)
 rw[er]at h⊢
 obtain⟨h1,h2,h3⟩:=h
 have hk:=Js (zr L)
 have ul:=qx (n:=key) (by omega)
 have une:=zgl key
 have rne:xD (zr L) 256 0≠[]:=by intro e;rw[e]at hrn;simp at hrn;omega
 obtain⟨r1,r2,r3⟩:=h3 rne
 have w1:IntKind.i64.wrap (1+(L.length:Int))=1+(L.length:Int):=qf (by omega) (by omega)
 have w2:IntKind.i64.wrap (2*((jh (zr L) 256:Nat):Int))=2*((jh (zr L) 256:Nat):Int):=qf (by omega) (by omega)
 have w3:IntKind.i64.wrap (1+2*((jh (zr L) 256:Nat):Int))=1+2*((jh (zr L) 256:Nat):Int):=qf (by omega) (by omega)
 have w4:IntKind.i64.wrap ((L.length:Int)-1)=(L.length:Int)-1:=qf (by omega) (by omega)
 have w5:IntKind.i64.wrap (((jh (zr L) 256:Nat):Int)-1)=((jh (zr L) 256:Nat):Int)-1:=qf (by omega) (by omega)
 have c17:L.length+1<=32->L.length+1<=2*jh (zr L) 256+1->∃hp',B156_17 (S k 1 (LI .i64 (nz L))) (S 2 1 (LI .u8 (uv key))) (S 2 1 (LI .u8 (nz L))) hp=some (S 2 1 (LI .u8 (jW (key,zr L))),hp'):=by
  intro a1 a2
  have kd:kind (zr L)=0:=by unfold kind;rw[ep,if_pos ⟨a1,a2⟩]
  have eY:jW (key,zr L)=uv key++[(0:Int),((L.length-1:Nat):Int)]++nz L:=by
   unfold jW wJ
   rw[kd,if_pos rfl,ep,ea];simp
  have w6:IntKind.u8.wrap ((L.length:Int)-1)=((L.length-1:Nat):Int):=by rw[qT]<;>omega
  have a1:=kb .u8 (uv key) [0,((L.length-1:Nat):Int)] 2 1 (.inr rfl) (by decide) (S 1 1 (LI .u8 [0,((L.length-1:Nat):Int)])) hp une (by simp) (by simp;omega) (QE _ _ _ _)
  have a2:=kb .u8 (uv key++[(0:Int),((L.length-1:Nat):Int)]) (nz L) 2 1 (.inr rfl) (by decide) (S 3 1 (LI .u8 (nz L))) hp (by simp) (by intro e;have:=congrArg List.length e;rw[qkb]at this;simp only[List.length_nil]at this;omega) (by simp;omega) (QE _ _ _ _)
  refine⟨hp,?_⟩
  rw[qlu,eY]
  have e1:LI .u8 [0,((L.length-1:Nat):Int)]=[.sc (.int .u8 0),.sc (.int .u8 ((L.length-1:Nat):Int))]:=rfl
  rw[e1]at a1
  generalize((L.length-1:Nat):Int)=n1 at*
  generalize uv key=U at*
  generalize LI .u8 (U++[0,n1]++nz L)=R1 at*
  generalize LI .u8 (U++[0,n1])=R2 at*
  simp[w4,w6,a1,a2]
 have c18:¬(L.length+1<=32/\L.length+1<=2*jh (zr L) 256+1)->∃hp',B156_18 (S 2 1 (LI .u8 (uv key))) (VL rb (xD (zr L) 256 0)) (.int .i64 (jh (zr L) 256:Nat)) (.ms bb 0 0 32 1) (.int .i64 (1+2*((jh (zr L) 256:Nat):Int))) hp=some (S 2 1 (LI .u8 (jW (key,zr L))),hp'):=by
  intro hn
  by_cases h32:32<=2*jh (zr L) 256+1
  ·have kd:kind (zr L)=1:=by unfold kind;rw[ep,if_neg hn,if_pos h32]
   have eY:jW (key,zr L)=uv key++[(1:Int)]++jX (zr L) 32 0:=by
    unfold jW wJ
    rw[kd];simp
   have bl:=QW (zr L) 32 0
   have sm:=Ja .u8 (jX (zr L) 32 0) hp bb 0 32 h2 (by omega)
   rw[List.drop_zero,List.take_of_length_le (by omega)]at sm
   have a1:=kb .u8 (uv key) [1] 2 1 (.inr rfl) (by decide) (S 1 1 (LI .u8 [1])) hp une (by simp) (by simp;omega) (QE _ _ _ _)
   have a2:=kb .u8 (uv key++[(1:Int)]) (jX (zr L) 32 0) 2 1 (.inr rfl) (by decide) (.ms bb 0 0 32 1) hp (by simp) (by intro e;have:=congrArg List.length e;rw[bl]at this;cases this) (by simp;omega) sm
   have e1:LI .u8 [1]=[.sc (.int .u8 1)]:=rfl
   have h32':(32:Int)<=1+2*((jh (zr L) 256:Nat):Int):=by omega
   rw[e1]at a1
   refine⟨hp,?_⟩
   rw[Vk,eY]
   generalize((jh (zr L) 256:Nat):Int)=rc at*
   generalize uv key=U at*
   generalize LI .u8 (U++[1]++jX (zr L) 32 0)=R1 at*
   generalize LI .u8 (U++[1])=R2 at*
   simp[h32',a1,a2]
  ·have kd:kind (zr L)=2:=by unfold kind;rw[ep,if_neg hn,if_neg h32]
   have eY:jW (key,zr L)=uv key++[(2:Int),((jh (zr L) 256-1:Nat):Int)]++xD (zr L) 256 0:=by
    unfold jW wJ
    rw[kd];simp
   have w6:IntKind.u8.wrap (((jh (zr L) 256:Nat):Int)-1)=((jh (zr L) 256-1:Nat):Int):=by rw[qT]<;>omega
   have sm:=Ja .u8 (xD (zr L) 256 0) hp rb 0 (xD (zr L) 256 0).length r3 (by omega)
   rw[List.drop_zero,List.take_length]at sm
   have a1:=kb .u8 (uv key) [2,((jh (zr L) 256-1:Nat):Int)] 2 1 (.inr rfl) (by decide) (S 1 1 (LI .u8 [2,((jh (zr L) 256-1:Nat):Int)])) hp une (by simp) (by simp;omega) (QE _ _ _ _)
   have a2:=kb .u8 (uv key++[(2:Int),((jh (zr L) 256-1:Nat):Int)]) (xD (zr L) 256 0) 2 1 (.inr rfl) (by decide) (.ms rb 0 0 (xD (zr L) 256 0).length 1) hp (by simp) rne (by simp;omega) sm
   have e1:LI .u8 [2,((jh (zr L) 256-1:Nat):Int)]=[.sc (.int .u8 2),.sc (.int .u8 ((jh (zr L) 256-1:Nat):Int))]:=rfl
   have h32':¬((32:Int)<=1+2*((jh (zr L) 256:Nat):Int)):=by omega
   rw[e1]at a1
   refine⟨hp,?_⟩
   have erv:VL rb (xD (zr L) 256 0)= .ms rb 0 0 (xD (zr L) 256 0).length 1:=if_neg rne
   rw[Vk,eY,erv]
   generalize((jh (zr L) 256-1:Nat):Int)=rc1 at*
   generalize((jh (zr L) 256:Nat):Int)=rc at*
   generalize uv key=U at*
   generalize LI .u8 (U++[2,rc1]++xD (zr L) 256 0)=R1 at*
   generalize LI .u8 (U++[2,rc1])=R2 at*
   simp[h32',w5,w6,a1,a2]
 rw[qbe]
 by_cases a1:L.length+1<=32
 ·by_cases a2:L.length+1<=2*jh (zr L) 256+1
  ·obtain⟨hp',e⟩:=c17 a1 a2
   have a1':1+(L.length:Int)<=32:=by omega
   have a2':1+(L.length:Int)<=1+2*((jh (zr L) 256:Nat):Int):=by omega
   refine⟨hp',?_⟩
   clear c17 c18
   generalize((jh (zr L) 256:Nat):Int)=rc at*
   simp[w1,w2,w3,a1',a2',e]
  ·obtain⟨hp',e⟩:=c18 (fun q=>a2 q.2)
   have a1':1+(L.length:Int)<=32:=by omega
   have a2':¬(1+(L.length:Int)<=1+2*((jh (zr L) 256:Nat):Int)):=by omega
   refine⟨hp',?_⟩
   clear c17 c18
   generalize((jh (zr L) 256:Nat):Int)=rc at*
   simp[w1,w2,w3,a1',a2',e]
 ·obtain⟨hp',e⟩:=c18 (fun q=>a1 q.1)
  have a1':¬(1+(L.length:Int)<=32):=by omega
  refine⟨hp',?_⟩
  clear c17 c18
  generalize((jh (zr L) 256:Nat):Int)=rc at*
  simp[w1,w2,w3,a1',e]
omit hL hp2 hne hkey in
theorem qdy{rb:Nat}{A:List Int}(h:A≠[]):VL rb A= .ms rb 0 0 A.length 1:=if_neg h
omit hkey hne in
theorem qlb:∀(f i rb zt:Nat) (bb:Nat) (hp:Hp),i+f=L.length->CSt hp bb rb (zr (L.take i)) (xI [] 300 (L.take i))->(xI [] 300 (L.take i)).length=2*zt->
 ∃hp' rb',B156_7 (S k 1 (LI .i64 (nz L))) (S 2 1 (LI .u8 (uv key))) (VL rb (xI [] 300 (L.take i))) (.int .i64 (zt:Int)) (.ms bb 0 0 32 1) (S 2 1 (LI .u8 (nz (L.take i)))) (.int .i64 (i:Int)) hp=
  B156_7 (S k 1 (LI .i64 (nz L))) (S 2 1 (LI .u8 (uv key))) (VL rb' (xI [] 300 L)) (.int .i64 (jh (zr L) 256:Nat)) (.ms bb 0 0 32 1) (S 2 1 (LI .u8 (nz L))) (.int .i64 (L.length:Int)) hp'/\CSt hp' bb rb' (zr L) (xI [] 300 L):=by
 have ll:=zc5 L hL hp2
 intro f
 induction f with
 |zero=>
  intro i rb zt bb hp h hc hm
  have e:i=L.length:=by omega
  subst e
  rw[List.take_length]at hc hm⊢
  have e2:zt=jh (zr L) 256:=by
   rw[qhk L hL hp2,kj]at hm;omega
  rw[e2]
  exact⟨hp,rb,rfl,hc⟩
 |succ f ih=>
  intro i rb zt bb hp h hc hm
  have hi:i<L.length:=by omega
  have ex:L.drop i=L[i]::L.drop (i+1):=List.drop_eq_getElem_cons hi
  obtain⟨x,hx⟩:∃x,L[i]=x:=⟨_,rfl⟩
  have hx256:x<256:=by rw[<-hx];exact hL _ (List.getElem_mem _)
  have et:L.take (i+1)=L.take i++[x]:=by rw[List.take_add_one,List.getElem?_eq_getElem hi,hx];rfl
  have hxn:x∉L.take i:=by
   intro q
   obtain⟨j,hj,e⟩:=List.getElem_of_mem q
   have hj':j<i:=by simp at hj;omega
   rw[List.getElem_take]at e
   have:=List.pairwise_iff_getElem.mp hp2 j i (by omega) hi hj'
   omega
  have hbit:(zr (L.take i)).testBit x=false:=by
   cases hb:(zr (L.take i)).testBit x
   ·rfl
   ·exact absurd ((wt x _).mp hb) hxn
  obtain⟨h1,h2,h3⟩:=hc
  have ai:=yT .i64 L i hi
  rw[show L.getD i 0=x by rw[List.getD_eq_getElem?_getD,List.getElem?_eq_getElem hi,hx];rfl]at ai
  have en:∀h,(nz L)[i]'h=(x:Int):=fun h=>by simp[nz,hx]
  have st:=qxs (zr (L.take i)) x hx256 hbit
  have bl:=QW (zr (L.take i)) 32 0
  have bg:=Xu (zr (L.take i)) 32 0 (x/8) (by omega)
  rw[Nat.zero_add]at bg
  have by0:=qnl (zr (L.take i)) x (x/8) hbit
  rw[if_pos rfl]at by0
  have hsum:zr (L.take i)/2^(8*(x/8))%256+2^(x%8)<256:=by rw[<-by0];exact Nat.mod_lt _ (by decide)
  have g:qe (LI .u8 (jX (zr (L.take i)) 32 0)) (x/8)=some (.int .u8 ((zr (L.take i)/2^(8*(x/8))%256:Nat):Int)):=by
   unfold qe
   rw[VE?,bg];rfl
  have pn:=yL .u8 (jX (zr (L.take i)) 32 0) (x/8) ((zr (L.take i)/2^(8*(x/8))%256+2^(x%8):Nat):Int) (by omega)
  rw[<-st,<-qv7,<-et]at pn
  have q8:=qc1 x (by omega)
  have r8:=qcz x
  have ix:idx 32 (.int .i64 ((x/8:Nat):Int))=some (x/8):=qU .i64 (by omega)
  have sh:∀t o o',qr Tryz.prog .shl t o o' (.int .u8 1) (.int .i64 ((x%8:Nat):Int))=some (.int .u8 ((2^(x%8):Nat):Int)):=by
   intro t o o'
   have hc:x%8=0\/x%8=1\/x%8=2\/x%8=3\/x%8=4\/x%8=5\/x%8=6\/x%8=7:=by omega
   rw[zF _ _ _ _ _ _ _ _ (by omega)]
   rcases hc with h|h|h|h|h|h|h|h<;>rw[h]<;>rfl
  have w1:IntKind.u8.wrap (((zr (L.take i)/2^(8*(x/8))%256:Nat):Int)+((2^(x%8):Nat):Int))=((zr (L.take i)/2^(8*(x/8))%256+2^(x%8):Nat):Int):=by
   rw[<-Int.natCast_add,qT]<;>omega
  have w0:IntKind.u8.wrap (x:Int)=(x:Int):=qT (by omega) (by omega)
  have ap:=qhc .u8 (nz (L.take i)) 2 (.inr rfl) 1 (by decide) (x:Int) (by simp;omega)
  rw[<-vi,<-et]at ap
  have wi:IntKind.i64.wrap ((i:Int)+1)=((i+1:Nat):Int):=by rw[qf]<;>omega
  obtain⟨hp1,e1⟩:∃hp1,hp1=hp.put bb 0 (LI .u8 (jX (zr (L.take (i+1))) 32 0)):=⟨_,rfl⟩
  have c1:hp1.next=hp.next:=by rw[e1];rfl
  have c2:hp1.rd bb 0=some (LI .u8 (jX (zr (L.take (i+1))) 32 0)):=by rw[e1];exact qi _ _ _
  have c3:xI [] 300 (L.take i)≠[]->rb<hp1.next/\rb≠bb/\hp1.rd rb 0=some (LI .u8 (xI [] 300 (L.take i))):=fun q=>by
   obtain⟨d1,d2,d3⟩:=h3 q
   exact⟨by rw[c1];exact d1,d2,by rw[e1,qv _ _ d2];exact d3⟩
  have b8:∀(x6:AV) (mn:Int) (hq:Hp),B156_8 (S k 1 (LI .i64 (nz L))) (S 2 1 (LI .u8 (uv key))) x6 (.int .i64 mn) (.ms bb 0 0 32 1) (S 2 1 (LI .u8 (nz (L.take (i+1))))) (.int .i64 (i:Int)) hq=
   B156_7 (S k 1 (LI .i64 (nz L))) (S 2 1 (LI .u8 (uv key))) x6 (.int .i64 mn) (.ms bb 0 0 32 1) (S 2 1 (LI .u8 (nz (L.take (i+1))))) (.int .i64 ((i+1:Nat):Int)) hq:=by
   intro x6 mn hq
   rw[qr1]
   generalize((i+1:Nat):Int)=I at*
   simp[wi]
  obtain⟨t1,t2⟩:=qlp L hL hp2 (i+1)
  have rl:=qhk (L.take (i+1)) t1 t2
  have rr:=zdz (zr (L.take (i+1))) 256 0
  rw[<-rl]at rr
  have alen:(xI [] 300 (L.take i)).length<=600:=by
   obtain⟨t1,t2⟩:=qlp L hL hp2 i
   rw[qhk (L.take i) t1 t2,kj]
   have:=Zv (zr (L.take i)) 256
   have e:=(qx3 (L.take i) t1 t2).2
   have:(L.take i).length<=256:=by simp;omega
   omega
  have sn:=XV x (L.take i) [] 300
  rw[<-et]at sn
  --one more run
  have no:x≠nxt 300 (L.take i)->∃hp' rb',B156_13 (S k 1 (LI .i64 (nz L))) (S 2 1 (LI .u8 (uv key))) (VL rb (xI [] 300 (L.take i))) (.int .i64 (zt:Int)) (.ms bb 0 0 32 1) (S 2 1 (LI .u8 (nz (L.take (i+1))))) (.int .i64 (i:Int)) hp1=
   B156_7 (S k 1 (LI .i64 (nz L))) (S 2 1 (LI .u8 (uv key))) (VL rb' (xI [] 300 L)) (.int .i64 (jh (zr L) 256:Nat)) (.ms bb 0 0 32 1) (S 2 1 (LI .u8 (nz L))) (.int .i64 (L.length:Int)) hp'/\CSt hp' bb rb' (zr L) (xI [] 300 L):=by
   intro hno
   rw[if_neg hno]at sn
   have wm:IntKind.i64.wrap ((zt:Int)+1)=((zt+1:Nat):Int):=by rw[qf]<;>omega
   obtain⟨hq,am,q1,q2,q3⟩:∃hq,jo 1 1 (VL rb (xI [] 300 (L.take i))) (S 1 1 (LI .u8 [(x:Int),0])) hp1=some (.ms hp1.next 0 0 (xI [] 300 (L.take (i+1))).length 1,hq)/\hq.next=hp1.next+1/\hq.rd hp1.next 0=some (LI .u8 (xI [] 300 (L.take (i+1))))/\hq.rd bb 0=hp1.rd bb 0:=by
    by_cases hA:xI [] 300 (L.take i)=[]
    ·have a:=zca .u8 [(x:Int),0] 1 (by decide) hp1 (by simp) (by simp)
     rw[sn,hA]
     exact⟨_,a,rfl,qz _ _,zX _ _ (by omega)⟩
    ·obtain⟨d1,d2,d3⟩:=c3 hA
     have a:=qqy .u8 (xI [] 300 (L.take i)) [(x:Int),0] 1 rb (by decide) hA (by simp) (by simp;omega) hp1 d3
     rw[qdy hA,sn,List.length_append]
     refine⟨_,a,rfl,qz (hp1.del rb) _,?_⟩
     exact(Fm.delNew (X:=[rb]) hp1 rb _ (by simp)).rd (by omega) (by simp;exact fun e=>d2 e.symm)
   have hA1:xI [] 300 (L.take (i+1))≠[]:=by rw[sn];simp
   obtain⟨hp',rb',z1,z2⟩:=ih (i+1) hp1.next (zt+1) bb hq (by omega) ⟨by omega,by rw[q3];exact c2,fun _=>⟨by omega,by omega,q2⟩⟩ (by rw[sn,List.length_append,hm];simp only[List.length_cons,List.length_nil];omega)
   refine⟨hp',rb',?_,z2⟩
   rw[<-z1,qdy hA1,<-b8,qlv]
   have el:LI .u8 [(x:Int),0]=[.sc (.int .u8 (x:Int)),.sc (.int .u8 0)]:=rfl
   rw[el]at am
   have rro:ro (VL rb (xI [] 300 (L.take i)))=VL rb (xI [] 300 (L.take i)):=by unfold VL;split<;>rfl
   clear z1 b8 c3 sh
   generalize((zt+1:Nat):Int)=M at*
   generalize VL rb (xI [] 300 (L.take i))=V at*
   simp[hi,ai,en,zh,w0,rro,am,wm]
  --the same run
  have yes:x=nxt 300 (L.take i)->xI [] 300 (L.take i)≠[]->∃hp' rb',B156_12 (S k 1 (LI .i64 (nz L))) (S 2 1 (LI .u8 (uv key))) (VL rb (xI [] 300 (L.take i))) (.int .i64 (zt:Int)) (.ms bb 0 0 32 1) (S 2 1 (LI .u8 (nz (L.take (i+1))))) (.int .i64 (i:Int)) hp1=
   B156_7 (S k 1 (LI .i64 (nz L))) (S 2 1 (LI .u8 (uv key))) (VL rb' (xI [] 300 L)) (.int .i64 (jh (zr L) 256:Nat)) (.ms bb 0 0 32 1) (S 2 1 (LI .u8 (nz L))) (.int .i64 (L.length:Int)) hp'/\CSt hp' bb rb' (zr L) (xI [] 300 L):=by
   intro hyes hA
   rw[if_pos hyes]at sn
   obtain⟨d1,d2,d3⟩:=c3 hA
   have hpos:0<(xI [] 300 (L.take i)).length:=List.length_pos_iff.mpr hA
   generalize hAA:xI [] 300 (L.take i)=A at*
   have lb:(KO A).length=A.length:=by simp[KO]
   have hmem:A.getD (A.length-1) 0+1∈KO A:=by
    unfold KO
    have:A.length-1<(A.set (A.length-1) (A.getD (A.length-1) 0+1)).length:=by simp;omega
    have e:=List.getElem_mem this
    rw[List.getElem_set_self]at e
    exact e
   rw[sn]at rr
   have hv:=rr _ hmem
   have gs:=jv .u8 A (A.length-1) (by omega)
   have pn2:=yL .u8 A (A.length-1) (A.getD (A.length-1) 0+1) (by omega)
   have eb:A.set (A.length-1) (A.getD (A.length-1) 0+1)=KO A:=rfl
   rw[eb]at pn2
   have wb:IntKind.u8.wrap (A.getD (A.length-1) 0+1)=A.getD (A.length-1) 0+1:=qT hv.1 hv.2
   have wl:IntKind.i64.wrap ((A.length:Int)-1)=((A.length-1:Nat):Int):=by rw[qf]<;>omega
   have ix2:idx A.length (.int .i64 ((A.length-1:Nat):Int))=some (A.length-1):=qU .i64 (by omega)
   have hA1:KO A≠[]:=by intro e;rw[e]at lb;simp at lb;omega
   obtain⟨hp',rb',z1,z2⟩:=ih (i+1) rb zt bb (hp1.put rb 0 (LI .u8 (KO A))) (by omega) ⟨by rw[qfv];omega,by rw[qv _ _ (fun e=>d2 e.symm)];exact c2,fun _=>⟨d1,d2,by rw[sn];exact qi _ _ _⟩⟩ (by rw[sn,lb];exact hm)
   refine⟨hp',rb',?_,z2⟩
   rw[sn,qdy hA1,lb]at z1
   rw[<-z1,qdy hA,<-b8,qlw]
   clear z1 b8 c3 sh no
   generalize A.getD (A.length-1) 0=y0 at*
   generalize hN:((A.length-1:Nat):Int)=N at*
   simp[wl,ix2,d3,gs,wb,pn2]
  --joined
  have fin:∃hp' rb',cond (decide (0<i)) (cond (decide (x=L.getD (i-1) 0+1)) (B156_12 (S k 1 (LI .i64 (nz L))) (S 2 1 (LI .u8 (uv key))) (VL rb (xI [] 300 (L.take i))) (.int .i64 (zt:Int)) (.ms bb 0 0 32 1) (S 2 1 (LI .u8 (nz (L.take (i+1))))) (.int .i64 (i:Int)) hp1)
   (B156_13 (S k 1 (LI .i64 (nz L))) (S 2 1 (LI .u8 (uv key))) (VL rb (xI [] 300 (L.take i))) (.int .i64 (zt:Int)) (.ms bb 0 0 32 1) (S 2 1 (LI .u8 (nz (L.take (i+1))))) (.int .i64 (i:Int)) hp1))
   (B156_13 (S k 1 (LI .i64 (nz L))) (S 2 1 (LI .u8 (uv key))) (VL rb (xI [] 300 (L.take i))) (.int .i64 (zt:Int)) (.ms bb 0 0 32 1) (S 2 1 (LI .u8 (nz (L.take (i+1))))) (.int .i64 (i:Int)) hp1)=
   B156_7 (S k 1 (LI .i64 (nz L))) (S 2 1 (LI .u8 (uv key))) (VL rb' (xI [] 300 L)) (.int .i64 (jh (zr L) 256:Nat)) (.ms bb 0 0 32 1) (S 2 1 (LI .u8 (nz L))) (.int .i64 (L.length:Int)) hp'/\CSt hp' bb rb' (zr L) (xI [] 300 L):=by
   have nx:nxt 300 (L.take i)=if i=0 then 300 else L.getD (i-1) 0+1:=by
    unfold nxt
    by_cases h0:i=0
    ·subst h0;simp
    ·have:L.take i≠[]:=by intro e;have:=congrArg List.length e;rw[List.length_take,List.length_nil]at this;omega
     rw[if_neg this,if_neg h0,List.length_take,Nat.min_eq_left (by omega),List.getD_eq_getElem?_getD,List.getElem?_take,if_pos (by omega),List.getD_eq_getElem?_getD]
   by_cases h0:0<i
   ·rw[if_neg (by omega)]at nx
    rw[decide_eq_true h0,cond_true]
    by_cases hq:x=L.getD (i-1) 0+1
    ·rw[decide_eq_true hq,cond_true]
     refine yes (by rw[nx];exact hq) ?_
     intro e
     obtain⟨t1,t2⟩:=qlp L hL hp2 i
     rw[qhk (L.take i) t1 t2]at e
     have hl:=kj (zr (L.take i))
     rw[e]at hl
     have hp0:0<jh (zr (L.take i)) 256:=Xi (by rw[(qx3 (L.take i) t1 t2).2,List.length_take];omega)
     simp at hl;omega
    ·rw[decide_eq_false hq,cond_false]
     exact no (by rw[nx];exact hq)
   ·rw[decide_eq_false h0,cond_false]
    have hz:i=0:=by omega
    rw[if_pos hz]at nx
    exact no (by rw[nx];omega)
  obtain⟨hp',rb',z1,z2⟩:=fin
  refine⟨hp',rb',?_,z2⟩
  rw[<-z1,qbe]
  clear z1 b8 no yes c3 ih sn rr rl
  have e1':hp.put bb 0 (LI .u8 (jX (zr (L.take (i+1))) 32 0))=hp1:=e1.symm
  clear e1 c2 st
  generalize((zr (L.take i)/2^(8*(x/8))%256+2^(x%8):Nat):Int)=y1 at*
  generalize((zr (L.take i)/2^(8*(x/8))%256:Nat):Int)=y0 at*
  generalize((2^(x%8):Nat):Int)=y2 at*
  generalize((x%8:Nat):Int)=m8 at*
  generalize LI .u8 (jX (zr (L.take (i+1))) 32 0)=B1 at*
  generalize LI .u8 (jX (zr (L.take i)) 32 0)=B0 at*
  generalize hQ:x/8=Q at*
  generalize VL rb (xI [] 300 (L.take i))=V at*
  by_cases h0:0<i
  ·have aj:=yT .i64 L (i-1) (by omega)
   have w9:IntKind.i64.wrap ((i:Int)-1)=((i-1:Nat):Int):=by rw[qf]<;>omega
   have g0:(0:Int)<=((i-1:Nat):Int):=by omega
   have hy:L.getD (i-1) 0<256:=by
    rw[List.getD_eq_getElem?_getD,List.getElem?_eq_getElem (by omega)]
    exact hL _ (List.getElem_mem _)
   have en2:(nz L)[(((i-1:Nat):Int)).toNat]?=some (L.getD (i-1) 0:Nat):=by rw[Int.toNat_natCast];simpa[LI]using aj
   generalize L.getD (i-1) 0=y at*
   have w7:IntKind.i64.wrap ((y:Int)+1)=((y+1:Nat):Int):=by rw[qf]<;>omega
   generalize((i-1:Nat):Int)=j at*
   have dq:(decide ((x:Int)=((y+1:Nat):Int)))=decide (x=y+1):=by apply decide_eq_decide.mpr;omega
   generalize hY:((y+1:Nat):Int)=Y at*
   simp[hi,ai,en,zh,w0,ap,q8,ix,h2,g,r8,sh,w1,pn,h0,w9,g0,en2,w7,dq,e1']
  ·simp[hi,ai,en,zh,w0,ap,q8,ix,h2,g,r8,sh,w1,pn,h0,e1']
theorem qcq(hp:Hp):∃hp',run cxX 156 [.sc (.int .u32 (key:Int)),S k 1 (LI .i64 (nz L))] hp=some (S 2 1 (LI .u8 (jW (key,zr L))),hp'):=by
 have u:=jb key (by omega) hp0
 have z:=QC .u8 32
 have mk:yu 1 1 (32:Int) 32=some ():=by decide
 obtain⟨hp1,rb1,a1,a2⟩:=qlb L hL hp2 k key L.length 0 0 0 hp.next (hp.new (LI .u8 (List.replicate 32 0))) (by omega) ⟨by simp,by rw[qz,<-qg1 32 0];rfl,fun h=>absurd rfl h⟩ rfl
 obtain⟨hp',b1⟩:=qqs L hL hp2 hne k key hkey hp1 hp.next rb1 a2
 rw[b1]at a1
 have w1:IntKind.u64.wrap (key:Int)=(key:Int):=qn (by omega) (by omega)
 have e0:VL 0 (xI [] 300 (L.take 0))=S 2 1 []:=rfl
 have e1:LI .u8 (nz (L.take 0))=[]:=rfl
 rw[e0,e1]at a1
 refine⟨hp',?_⟩
 rw[E156]
 have z':yU 32 [.int .u8 0]=LI .u8 (List.replicate 32 0):=z
 generalize LI .u8 (List.replicate 32 0)=Z at*
 generalize LI .u8 (jW (key,zr L))=R at*
 simp at a1
 simp[w1,u,mk,z',a1]
end
section
variable (l:List Nat)(h32:∀x∈l,x<4294967296)(hr:zi l)(hl:l.length<=65536)(k:Nat)
include h32 hl
theorem qzu(key:Nat)(hkey:key<16777216)(x3:AV)(v4:Value)(hp:Hp):∀(a:List Nat) (i:Nat) (b:List Nat) (acc:List Nat),l.drop i=a++b->(∀x∈a,x/256=key)->(∀x∈b.head?,x/256≠key)->acc.length+a.length<=65536->
 B109_7 (S k 1 (LI .u32 (nz l))) x3 v4 (.int .i64 (i:Int)) (.int .u32 (key:Int)) (S 2 1 (LI .i64 (nz acc))) hp=
  B109_10 (S k 1 (LI .u32 (nz l))) x3 v4 (.int .i64 ((i+a.length:Nat):Int)) (.int .u32 (key:Int)) (S 2 1 (LI .i64 (nz (acc++a.map (·%256))))) hp:=by
 have quo256:∀(x:Nat),x<4294967296->∀t o o',qr Tryz.prog .quo t o o' (.int .u32 (x:Int)) (.int .u32 256)=some (.int .u32 ((x/256:Nat):Int)):=by
  intro x hx t o o'
  rw[jU _ _ _ _ _ _ _ (by omega),Int.tdiv_eq_ediv_of_nonneg (by omega),qD (by omega) (by omega)]
  rfl
 intro a
 induction a with
 |nil=>
  intro i b acc h ha hb hacc
  rw[qb1]
  simp only[List.nil_append,List.length_nil,Nat.add_zero,List.map_nil,List.append_nil]at h⊢
  cases b with
  |nil=>
   have h1:=qB h
   have hlt:¬(i<l.length):=by omega
   simp[hlt]
  |cons y s=>
   obtain⟨e1,e2,hi,e3⟩:=qm h
   have hy:=hb y (by simp)
   have hy32:y<4294967296:=by rw[<-e3];exact h32 _ (List.getElem_mem _)
   have ai:=yT .u32 l i hi
   rw[show l.getD i 0=y by rw[List.getD_eq_getElem?_getD,e1];rfl]at ai
   have en:∀h,(nz l)[i]'h=(y:Int):=fun h=>by simp[nz,e3]
   have q:=quo256 y hy32
   have hne:¬(((y/256:Nat):Int)=(key:Int)):=by omega
   generalize((y/256:Nat):Int)=Q at*
   simp[hi,ai,en,zh,q,hne]
 |cons x a ih=>
  intro i b acc h ha hb hacc
  simp only[List.length_cons]at hacc
  obtain⟨e1,e2,hi,e3⟩:=qm (show l.drop i=x::(a++b)from h)
  have hx:=ha x (by simp)
  have hx32:x<4294967296:=by rw[<-e3];exact h32 _ (List.getElem_mem _)
  have ai:=yT .u32 l i hi
  rw[show l.getD i 0=x by rw[List.getD_eq_getElem?_getD,e1];rfl]at ai
  have en:∀h,(nz l)[i]'h=(x:Int):=fun h=>by simp[nz,e3]
  have q:=quo256 x hx32
  rw[hx]at q
  have rm:∀t o o',qr Tryz.prog .rem t o o' (.int .u32 (x:Int)) (.int .u32 256)=some (.int .u32 ((x%256:Nat):Int)):=by
   intro t o o'
   rw[qW _ _ _ _ _ _ _ (by omega),qV (by omega)]
   rfl
  have w1:IntKind.i64.wrap ((x%256:Nat):Int)=((x%256:Nat):Int):=qf (by omega) (by omega)
  have w2:IntKind.i64.wrap ((i:Int)+1)=((i+1:Nat):Int):=by rw[qf]<;>omega
  have ap:=qhc .i64 (nz acc) 2 (.inr rfl) 8 (by decide) ((x%256:Nat):Int) (by simp;omega)
  rw[<-vi]at ap
  have i1:=ih (i+1) b (acc++[x%256]) e2 (fun y hy=>ha y (by simp[hy])) hb (by simp;omega)
  have e4:i+1+a.length=i+(x::a).length:=by simp;omega
  have e5:acc++[x%256]++a.map (·%256)=acc++(x::a).map (·%256):=by simp
  rw[e4,e5]at i1
  rw[qb1,<-i1]
  have b8:B109_8 (S k 1 (LI .u32 (nz l))) x3 v4 (.int .i64 (i:Int)) (.int .u32 (key:Int)) (S 2 1 (LI .i64 (nz acc))) hp=
   B109_7 (S k 1 (LI .u32 (nz l))) x3 v4 (.int .i64 ((i+1:Nat):Int)) (.int .u32 (key:Int)) (S 2 1 (LI .i64 (nz (acc++[x%256])))) hp:=by
   rw[qs0]
   clear i1 e5
   generalize((i+1:Nat):Int)=I at*
   generalize nz (acc++[x%256])=A1 at*
   generalize((x%256:Nat):Int)=m at*
   simp[hi,ai,en,zh,rm,yO,w1,ap,w2]
  simp[hi,ai,en,zh,q,b8]
theorem quy:∀(n:Nat) (r:List Nat) (i c:Nat) (Z:List Int) (hp:Hp),r.length<=n->l.drop i=r->zi r->c+r.length<=65536->Z.length+60*r.length<=50000000->
 B109_4 (S k 1 (LI .u32 (nz l))) (S 2 1 (LI .u8 Z)) (.int .i64 (c:Int)) (.int .i64 (i:Int)) hp=some (S 2 1 (LI .u8 (uv (c+(jG r).length)++(Z++vu (jG r)))),hp):=by
 intro n
 induction n with
 |zero=>
  intro r i c Z hp hn h hrr hc hZ
  have e:r=[]:=List.length_eq_zero_iff.mp (by omega)
  subst e
  have h1:=qB h
  have hlt:¬(i<l.length):=by omega
  have u:=jb c (by simp at hc;omega) hp0
  have ul:=qx (n:=c) (by simp at hc;omega)
  have ap:=yb .u8 (uv c) 2 (.inr rfl) 1 (by decide) 3 Z (by simp at hZ;omega)
  have w1:IntKind.u64.wrap (c:Int)=(c:Int):=qn (by omega) (by simp at hc;omega)
  rw[qb2]
  simp[hlt,w1,u,ap,jG,vu]
 |succ n ih=>
  intro r i c Z hp hn h hrr hc hZ
  by_cases hr0:r=[]
  ·exact ih r i c Z hp (by rw[hr0];exact Nat.zero_le _) h hrr hc hZ
  ·obtain⟨x,s,rfl⟩:∃x s,r=x::s:=by cases r with
    |nil=>exact absurd rfl hr0
    |cons x s=>exact⟨x,s,rfl⟩
   obtain⟨e1,e2,hi,e3⟩:=qm h
   have hx32:x<4294967296:=by rw[<-e3];exact h32 _ (List.getElem_mem _)
   obtain⟨a,b,eab,ha,hak,hbk,hch,hpw⟩:=KD (x::s) (x/256) hrr (by simp) hr0
   have hlen:a.length+b.length=(x::s).length:=by rw[eab];simp
   have hapos:0<a.length:=List.length_pos_iff.mpr ha
   have ri:=qzu l h32 hl k (x/256) (by omega) (S 2 1 (LI .u8 Z)) (.int .i64 (c:Int)) hp a i b [] (by rw[h,eab]) hak hbk (by have:=hlen;simp only[List.length_cons,List.length_nil]at this hc⊢;omega)
   have hm256:∀y∈a.map (·%256),y<256:=by
    intro y hy
    obtain⟨z,_,rfl⟩:=List.mem_map.mp hy
    exact Nat.mod_lt _ (by decide)
   obtain⟨hq,rc⟩:=qcq (a.map (·%256)) hm256 hpw (by simpa using ha) 3 (x/256) (by omega) hp0
   have hrise_b:zi b:=by
    rw[Wo]at hrr⊢
    rw[eab]at hrr
    exact(List.pairwise_append.mp hrr).2.1
   have hok:okC (x/256,zr (a.map (·%256))):=by
    have:(x/256,zr (a.map (·%256)))∈jG (x::s):=by rw[hch];exact List.mem_cons_self ..
    exact KE (fun y hy=>by rw[<-h]at hy;exact h32 y (List.mem_of_mem_drop hy)) _ this
   have cl:=KF hok
   have ap:=yb .u8 Z 2 (.inr rfl) 1 (by decide) 2 (jW (x/256,zr (a.map (·%256)))) (by omega)
   have hdb:l.drop (i+a.length)=b:=by
    rw[<-List.drop_drop,h,eab,List.drop_left]
   have i1:=ih b (i+a.length) (c+1) (Z++jW (x/256,zr (a.map (·%256)))) hp (by omega) hdb hrise_b (by omega) (by simp;omega)
   have ai:=yT .u32 l i hi
   rw[show l.getD i 0=x by rw[List.getD_eq_getElem?_getD,e1];rfl]at ai
   have en:∀h,(nz l)[i]'h=(x:Int):=fun h=>by simp[nz,e3]
   have q:∀t o o',qr Tryz.prog .quo t o o' (.int .u32 (x:Int)) (.int .u32 256)=some (.int .u32 ((x/256:Nat):Int)):=by
    intro t o o'
    rw[jU _ _ _ _ _ _ _ (by omega),Int.tdiv_eq_ediv_of_nonneg (by omega),qD (by omega) (by omega)]
    rfl
   have w1:IntKind.i64.wrap ((c:Int)+1)=((c+1:Nat):Int):=by rw[qf]<;>omega
   rw[hch]
   have eR:uv (c+1+(jG b).length)++(Z++jW (x/256,zr (a.map (·%256)))++vu (jG b))=uv (c+((x/256,zr (a.map (·%256)))::jG b).length)++(Z++vu ((x/256,zr (a.map (·%256)))::jG b)):=by
    simp only[List.length_cons,vu,List.append_assoc]
    congr 2;omega
   rw[<-eR,<-i1,qb2]
   have e0:LI .i64 (nz [])=[]:=rfl
   rw[e0]at ri
   simp only[List.nil_append]at ri
   clear eR i1 hch ih
   generalize nz (a.map (·%256))=A1 at*
   generalize jW (x/256,zr (a.map (·%256)))=Y at*
   generalize((i+a.length:Nat):Int)=I at*
   generalize((x/256:Nat):Int)=Q at*
   generalize((c+1:Nat):Int)=C1 at*
   have b10:B109_10 (S k 1 (LI .u32 (nz l))) (S 2 1 (LI .u8 Z)) (.int .i64 (c:Int)) (.int .i64 I) (.int .u32 Q) (S 2 1 (LI .i64 A1)) hp=B109_4 (S k 1 (LI .u32 (nz l))) (S 2 1 (LI .u8 (Z++Y))) (.int .i64 C1) (.int .i64 I) hp:=by
    rw[ql2]
    simp[rc,ap,w1]
   simp[hi,ai,en,zh,q]
   rw[ri,b10]
include hr
theorem qem(hp:Hp):run cxX 109 [S k 1 (LI .u32 (nz l))] hp=some (S 2 1 (LI .u8 (vx (jG l))),hp):=by
 have h:=quy l h32 hl k l.length l 0 0 [] hp (Nat.le_refl _) rfl hr (by omega) (by simp;omega)
 rw[E109]
 simp at h
 simp[h,vx]
end
end Go.Proofs.YtchmioacjkbfcaaGreat.AI
