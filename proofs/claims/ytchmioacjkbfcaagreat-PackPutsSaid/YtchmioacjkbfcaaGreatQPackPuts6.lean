/- Texts that the proof of PackPuts rests on, part 6. -/
import Derived.Test.YtchmioacjkbfcaaGreatQPackPuts5
namespace Go.Proofs.YtchmioacjkbfcaaGreat.AI
open Go
set_option linter.unusedVariables false
set_option linter.unusedSimpArgs false
set_option maxRecDepth 100000
set_option maxHeartbeats 0
theorem qi0(a b:List Int)(k k':Nat)(hab:a.length=b.length)(hl:a.length<=1000000)(hp:Hp):∀(r s:List Int) (i:Nat),a.drop i=r->b.drop i=s->
 B116_4 (S k 1 (LI .u32 a)) (S k' 1 (LI .u32 b)) (.int .i64 a.length) (.int .i64 i) hp=some (.sc (.bool (decide (r=s))),hp):=by
 intro r
 induction r with
 |nil=>
  intro s i hr hs
  have h1:=qB hr
  have h2:s=[]:=by rw[<-hs];exact List.drop_eq_nil_of_le (by omega)
  have hlt:¬((i:Int)<(a.length:Int)):=by omega
  rw[qby]
  simp[hlt,h2]
 |cons x r ih=>
  intro s i hr hs
  obtain⟨e1,e2,hi,e3⟩:=qm hr
  rw[qby]
  have hw:IntKind.i64.wrap ((i:Int)+1)=((i+1:Nat):Int):=by rw[qf]<;>omega
  cases s with
  |nil=>have:=qB hs;omega
  |cons y s=>
   obtain⟨f1,f2,hj,f3⟩:=qm hs
   have h:=ih s (i+1) e2 f2
   simp at h hw
   by_cases e:x=y
   ·simp[hi,hj,qe,e3,f3,e,hw,h]
   ·simp[hi,hj,qe,e3,f3,e]
theorem qn9(a b:List Int)(k k':Nat)(hp:Hp)(ha:a.length<=1000000):
 run cxX 116 [S k 1 (LI .u32 a),S k' 1 (LI .u32 b)] hp=some (.sc (.bool (decide (a=b))),hp):=by
 rw[E116]
 by_cases h3:a.length=b.length
 ·have h:=qi0 a b k k' h3 ha hp a b 0 rfl rfl
  simp at h
  rw[h3]at h
  simp[h3,h]
 ·have h4:¬(a=b):=fun e=>h3 (by rw[e])
  have h5:¬((a.length:Int)=(b.length:Int)):=by omega
  simp[h4,h5]
def Xa:List Int->Int
 |[]=>0
 |[_]=>0
 |x::y::r=>if y<=x then 8 else Xa (y::r)
def qi3(l:List Int):Int:=if 4096<l.length then 7 else Xa l
theorem Wx:∀{l:List Int},yf l->Xa l=0
 |[],_=>rfl
 |[_],_=>rfl
 |x::y::r,h=>by
  have h':=List.pairwise_cons.mp h
  have hxy:=h'.1 y (by simp)
  show(if y<=x then 8 else Xa (y::r))=0
  rw[if_neg (by omega)]
  exact Wx h'.2
theorem Wp:∀{l:List Int},Xa l=0->yf l
 |[],_=>List.Pairwise.nil
 |[_],_=>by simp
 |x::y::r,h=>by
  have h:(if y<=x then 8 else Xa (y::r))=0:=h
  split at h
  ·cases h
  ·rename_i hxy
   have ih:=Wp h
   have ih':=List.pairwise_cons.mp ih
   refine List.pairwise_cons.mpr ⟨fun n hn=>?_,ih⟩
   rcases List.mem_cons.mp hn with rfl|hn
   ·omega
   ·have:=ih'.1 n hn;omega
theorem qed(l:List Int)(k:Nat)(hl:l.length<=4096)(hp:Hp):∀(r:List Int) (x:Int) (j:Nat),l.drop j=x::r->
 B62_4 (S k 1 (LI .u32 l)) (.int .i64 ((j+1:Nat):Int)) hp=some (.sc (.int .i64 (Xa (x::r))),hp):=by
 intro r
 induction r with
 |nil=>
  intro x j hr
  obtain⟨e1,e2,hi,e3⟩:=qm hr
  have:=qB e2
  have hlt:¬((j:Int)+1<(l.length:Int)):=by omega
  rw[Vd]
  simp[hlt,Xa]
 |cons y r ih=>
  intro x j hr
  obtain⟨e1,e2,hi,e3⟩:=qm hr
  obtain⟨f1,f2,hj,f3⟩:=qm e2
  have hlt:(j:Int)+1<(l.length:Int):=by omega
  have hw:IntKind.i64.wrap ((j:Int)+1-1)=(j:Int):=by rw[qf]<;>omega
  have hw2:IntKind.i64.wrap ((j:Int)+1+1)=((j+1+1:Nat):Int):=by rw[qf]<;>omega
  have hz:(0:Int)<=(j:Int)+1:=by omega
  have hn:((j:Int)+1).toNat=j+1:=by omega
  have h:=ih y (j+1) e2
  rw[Vd]
  simp at h hw hw2
  by_cases hxy:y<=x
  ·simp[hlt,hw,hz,hn,hi,hj,qe,e3,f3,hxy,Xa]
  ·simp[hlt,hw,hw2,hz,hn,hi,hj,qe,e3,f3,hxy,Xa,h]
theorem qja(l:List Int)(k:Nat)(hp:Hp):run cxX 62 [S k 1 (LI .u32 l)] hp=some (.sc (.int .i64 (qi3 l)),hp):=by
 rw[E62]
 unfold qi3
 by_cases hl:4096<l.length
 ·have:(4096:Int)<(l.length:Int):=by omega
  simp[hl,this]
 ·have:¬((4096:Int)<(l.length:Int)):=by omega
  cases l with
  |nil=>
   have h0:B62_4 (S k 1 []) (.int .i64 1) hp=some (.sc (.int .i64 0),hp):=by
    rw[Vd]
    simp
   simp[h0,Xa]
  |cons x r=>
   have h:=qed (x::r) k (by omega) hp r x 0 rfl
   simp at h hl this
   have h1:¬(4096<r.length+1):=by omega
   have h2:¬((4096:Int)<(r.length:Int)+1):=by omega
   simp[h,h1,h2]
def MsR(hp:Hp)(x:AV)(l:List Int):Prop:=(l=[]/\x=S 2 1 [])\/(l≠[]/\∃b,x= .ms b 0 0 l.length 1/\hp.rd b 0=some (LI .u32 l))
theorem MsR.len{hp:Hp}{x:AV}{l:List Int}(h:MsR hp x l):yH (ro x)=some l.length:=by
 rcases h with⟨rfl,rfl⟩|⟨_,b,rfl,_⟩
 ·simp
 ·simp
theorem qmr{a b:List Int}{n:Int}(h:yf (a++b))(ha:∀x∈a,x<n)(hb:∀x∈b,n<x):mrg (a++b) [n]=a++n::b:=by
 have h':=List.pairwise_append.mp h
 refine XU (Qf _ _ h (by simp)) ?_ (fun x=>?_)
 ·refine List.pairwise_append.mpr ⟨h'.1,List.pairwise_cons.mpr ⟨fun x hx=>hb x hx,h'.2.1⟩,fun x hx y hy=>?_⟩
  rcases List.mem_cons.mp hy with rfl|hy
  ·exact ha x hx
  ·exact h'.2.2 x hx y hy
 ·rw[wv];simp
  constructor
  ·rintro((h|h)|h)<;>simp[h]
  ·rintro(h|h|h)<;>simp[h]
theorem qv2(a b:List Int)(n:Int)(x x8:AV)(v9 v10:Value)(hp:Hp)(hx:MsR hp x (a++b))(hl:(a++b).length<4096):
 ∃x' hp',MsR hp' x' (a++n::b)/\B73_9 x (.int .u32 n) (.int .i64 a.length) x8 v9 v10 hp=B73_14 x' x8 v9 v10 hp':=by
 have hne:¬(((a++b).length:Int)=4096):=by omega
 --the append
 obtain⟨c,hp1,hc,ap⟩:∃c hp1,hp1.rd c 0=some (LI .u32 (a++b++[0]))/\jo 4 1 (ro x) (S 1 1 [.sc (.int .u32 0)]) hp=some (.ms c 0 0 ((a++b).length+1) 1,hp1):=by
  rcases hx with⟨e,rfl⟩|⟨e,c,rfl,hc⟩
  ·refine⟨hp.next,hp.new (LI .u32 [0]),?_,?_⟩
   ·rw[e];exact qz _ _
   ·rw[e];exact wM .u32 0 4 (by decide) hp
  ·exact⟨hp.next,(hp.del c).new (LI .u32 (a++b++[0])),qz (hp.del c) _,Qz .u32 (a++b) 0 4 c (by decide) (by omega) e hp hc⟩
 have e0:(a++b++[0]).length=(a++b).length+1:=by simp;omega
 have e1:(a++b).length=a.length+b.length:=by simp
 have lx:=hx.len
 --the copy
 have sm:=Ja .u32 (a++b++[0]) hp1 c a.length ((a++b).length+1-a.length) hc (by omega)
 have sm2:((a++b++[0]).drop a.length).take ((a++b).length+1-a.length)=b++[0]:=by
  rw[List.append_assoc,List.drop_left]
  exact List.take_of_length_le (by simp;omega)
 rw[sm2]at sm
 have cp:(JF 1 ((a++b).length+1-(a.length+1)) (LI .u32 (b++[0]))).2=LI .u32 b:=by
  unfold JF
  simp only[Ki,vy,Nat.mul_one]
  have e:min (b++[0]).length ((a++b).length+1-(a.length+1))=b.length:=by simp
  rw[e,zci,List.take_left]
 have p1:=qz5 .u32 (a++b++[0]) b (a.length+1) (by omega)
 have p1':(a++b++[0]).take (a.length+1)++b++(a++b++[0]).drop (a.length+1+b.length)=a++((b++[0]).take 1++b):=by
  have d:(a++b++[0]).drop (a.length+1+b.length)=[]:=List.drop_eq_nil_of_le (by omega)
  rw[d,List.append_nil,List.append_assoc a b,List.take_append]
  have e:a.length+1-a.length=1:=by omega
  rw[e,List.take_of_length_le (by omega:a.length<=a.length+1),List.append_assoc]
 rw[p1']at p1
 obtain⟨z,hz⟩:∃z,(b++[0]).take 1=[z]:=by
  cases b with
  |nil=>exact⟨0,rfl⟩
  |cons y b=>exact⟨y,rfl⟩
 rw[hz]at p1
 have hlen2:(a++([z]++b)).length=(a++b).length+1:=by simp;omega
 have p2:=yL .u32 (a++([z]++b)) a.length n (by simp)
 have p2':(a++([z]++b)).set a.length n=a++n::b:=by simp
 rw[p2']at p2
 have hlen3:(a++n::b).length=(a++b).length+1:=by simp;omega
 have w1:IntKind.i64.wrap ((a.length:Int)+((1:Nat):Int))=((a.length+1:Nat):Int):=by rw[qf]<;>omega
 have bd1:=ka (hi:=(a++b).length+1) (d:=0) (n:=a.length+1) .i64 (by omega)
 have bd2:=ka (hi:=(a++b).length+1) (d:=0) (n:=a.length) .i64 (by omega)
 have ix:=qU (n:=(a++b).length+1) (i:=a.length) .i64 (by omega)
 refine⟨.ms c 0 0 (a++n::b).length 1,((hp1.put c 0 (LI .u32 (a++([z]++b)))).put c 0 (LI .u32 (a++n::b))),.inr ⟨by simp,c,rfl,qi _ _ _⟩,?_⟩
 rw[hlen3,qyh]
 have hz0:(((a++b).length:Nat):Int)=((4096:Nat):Int)↔False:=⟨fun h=>hne (by omega),False.elim⟩
 have uS:AV.us 1 [ro1 (AV.sc (.int .u32 (0:Int)))]=S 1 1 [.sc (.int .u32 0)]:=rfl
 have ov:xx [AV.sc (Value.int IntKind.u32 (0:Int))]=some ():=by rw[qvx];exact if_pos (by simp)
 generalize(a++b).length=m at*
 have z0:((0:Nat):Int)=0:=rfl
 simp only[Zj,lx,Option.bind_some,Int.ofNat_eq_natCast,KR,hz0,z0,kR,decide_false,jt,cond_false,ov,uS,us_S,ap,jH,w1,Wm,kK,qlf,bd1,bd2,wG,ZL,sm,hc,Nat.add_eq,Nat.zero_add,Nat.sub_eq,cp,p1,ix,qi,p2]
theorem zaq(n:Int)(x8:AV)(v9 v10:Value):∀(m:Nat) (a b:List Int) (x:AV) (hp:Hp),a.length=m->MsR hp x (a++b)->yf (a++b)->(∀y∈b,n<y)->(a++b).length<4096->
 ∃x' hp',MsR hp' x' (mrg (a++b) [n])/\B73_6 x (.int .u32 n) (.int .i64 a.length) x8 v9 v10 hp=B73_14 x' x8 v9 v10 hp':=by
 intro m
 induction m with
 |zero=>
  intro a b x hp hm hx hr hb hl
  have:a=[]:=List.length_eq_zero_iff.mp hm
  subst this
  obtain⟨x',hp',h1,h2⟩:=qv2 [] b n x x8 v9 v10 hp hx hl
  refine⟨x',hp',?_,?_⟩
  ·rw[qmr hr (by simp) hb];exact h1
  ·rw[qhw]
   simpa using h2
 |succ m ih=>
  intro a b x hp hm hx hr hb hl
  obtain⟨a',y,rfl⟩:∃a' y,a=a'++[y]:=⟨a.dropLast,a.getLast (by intro e;subst e;simp at hm),(List.dropLast_concat_getLast _).symm⟩
  have hm':a'.length=m:=by simpa using hm
  have hne:a'++[y]++b≠[]:=by simp
  obtain⟨c,rfl,hc⟩:∃c,x= .ms c 0 0 (a'++[y]++b).length 1/\hp.rd c 0=some (LI .u32 (a'++[y]++b)):=by
   rcases hx with⟨e,_⟩|⟨_,c,h1,h2⟩
   ·exact absurd e hne
   ·exact⟨c,h1,h2⟩
  have hpos:(0:Int)<((a'++[y]).length:Int):=by omega
  have hm4:m<4096:=by simp at hl;omega
  have w1:IntKind.i64.wrap (((a'++[y]).length:Int)-1)=(a'.length:Int):=by rw[hm,qf]<;>omega
  have ix:=qU (n:=(a'++[y]++b).length) (i:=a'.length) .i64 (by simp)
  have gs:(a'++[y]++b)[a'.length]?=some y:=by simp
  have hr':=List.pairwise_append.mp hr
  have hra:=List.pairwise_append.mp hr'.1
  rw[qhw]
  have hpos':(((a'++[y]).length:Nat):Int)>((0:Nat):Int)↔True:=⟨fun _=>trivial,fun _=>hpos⟩
  have w1':IntKind.i64.wrap ((((a'++[y]).length:Nat):Int)-((1:Nat):Int))=(a'.length:Int):=w1
  by_cases hy:n<=y
  ·have hge:(y>=n)↔True:=⟨fun _=>trivial,fun _=>hy⟩
   by_cases he:y=n
   ·--it is there
    subst he
    refine⟨.ms c 0 0 (a'++[y]++b).length 1,hp,?_,?_⟩
    ·rw[zay hr (by simp) (by simp)]
     exact .inr ⟨hne,c,rfl,hc⟩
    ·generalize hN:(a'++[y]++b).length=N at*
     simp only[Zj,Int.ofNat_eq_natCast,vR,hpos',decide_true,jt,Option.bind_some,cond_true,kV,w1',Wm,kK,ix,wG,ZL,kR,hc,Nat.add_eq,Nat.zero_add,qe,VE?,gs,Option.map_some,xV,Qy,hge]
     rw[qhv]
     simp only[Zj,Int.ofNat_eq_natCast,vR,hpos',decide_true,jt,Option.bind_some,cond_true,kV,w1',Wm,kK,ix,wG,ZL,kR,hc,Nat.add_eq,Nat.zero_add,qe,VE?,gs,Option.map_some,xV,KR]
   ·have e2:a'++[y]++b=a'++(y::b):=by simp
    obtain⟨x',hp',h1,h2⟩:=ih a' (y::b) (.ms c 0 0 (a'++[y]++b).length 1) hp hm' (by rw[<-e2];exact .inr ⟨hne,c,rfl,hc⟩) (by rw[<-e2];exact hr) (fun z hz=>by
     rcases List.mem_cons.mp hz with rfl|hz
     ·omega
     ·exact hb z hz) (by rw[<-e2];exact hl)
    refine⟨x',hp',by rw[e2];exact h1,?_⟩
    have hne2:(y=n)↔False:=⟨fun h=>he h,False.elim⟩
    generalize hN:(a'++[y]++b).length=N at*
    simp only[Zj,Int.ofNat_eq_natCast,vR,hpos',decide_true,jt,Option.bind_some,cond_true,kV,w1',Wm,kK,ix,wG,ZL,kR,hc,Nat.add_eq,Nat.zero_add,qe,VE?,gs,Option.map_some,xV,Qy,hge]
    rw[qhv]
    simp only[Zj,Int.ofNat_eq_natCast,vR,hpos',decide_true,jt,Option.bind_some,cond_true,cond_false,decide_false,kV,w1',Wm,kK,ix,wG,ZL,kR,hc,Nat.add_eq,Nat.zero_add,qe,VE?,gs,Option.map_some,xV,KR,hne2]
    exact h2
  ·have hge:(y>=n)↔False:=⟨fun h=>hy h,False.elim⟩
   obtain⟨x',hp',h1,h2⟩:=qv2 (a'++[y]) b n (.ms c 0 0 (a'++[y]++b).length 1) x8 v9 v10 hp (.inr ⟨hne,c,rfl,hc⟩) hl
   refine⟨x',hp',?_,?_⟩
   ·rw[qmr hr (fun z hz=>?_) hb]
    ·exact h1
    ·rcases List.mem_append.mp hz with hz|hz
     ·have:=hra.2.2 z hz y (by simp);omega
     ·simp at hz;omega
   ·generalize hN:(a'++[y]++b).length=N at*
    simp only[Zj,Int.ofNat_eq_natCast,vR,hpos',decide_true,decide_false,jt,Option.bind_some,cond_true,cond_false,kV,w1',Wm,kK,ix,wG,ZL,kR,hc,Nat.add_eq,Nat.zero_add,qe,VE?,gs,Option.map_some,xV,Qy,hge]
    exact h2
theorem zar(l:List Int)(k:Nat)(hl:l.length<=4096):∀(r:List Int) (i:Nat) (s:List Int) (x:AV) (hp:Hp),l.drop i=r->yf s->s.length<=i->i<=l.length->MsR hp x s->
 ∃t hp',B73_3 x (S k 1 (LI .u32 l)) (.int .i64 l.length) (.int .i64 i) hp=some (.tup [S t 1 (LI .u32 (YH s r)),.sc (.int .i64 0)],hp'):=by
 intro r
 induction r with
 |nil=>
  intro i s x hp hr hs hsl hil hx
  have:=qB hr
  have hlt:¬((i:Int)<(l.length:Int)):=by omega
  rcases hx with⟨rfl,rfl⟩|⟨_,b,rfl,hb⟩
  ·refine⟨2,hp,?_⟩
   rw[Vc]
   simp[hlt,YH]
  ·have f:=wF .u32 s hp b hb
   refine⟨0,hp.del b,?_⟩
   rw[Vc]
   simp[hlt,YH,f]
 |cons y r ih=>
  intro i s x hp hr hs hsl hil hx
  obtain⟨e1,e2,hi,e3⟩:=qm hr
  have hw:IntKind.i64.wrap ((i:Int)+1)=((i+1:Nat):Int):=by rw[qf]<;>omega
  obtain⟨x',hp1,h1,h2⟩:=zaq y (S k 1 (LI .u32 l)) (.int .i64 l.length) (.int .i64 i) s.length s [] x hp rfl (by simpa using hx) (by simpa using hs) (by simp) (by simp;omega)
  rw[List.append_nil]at h1
  have hl1:(mrg s [y]).length<=s.length+1:=by simpa using qmy s [y]
  obtain⟨t,hp',h⟩:=ih (i+1) (mrg s [y]) x' hp1 e2 (Qf _ _ hs (by simp)) (by omega) (by omega) h1
  refine⟨t,hp',?_⟩
  have lx:=hx.len
  rw[Vc]
  have h14:B73_14 x' (S k 1 (LI .u32 l)) (.int .i64 l.length) (.int .i64 i) hp1=B73_3 x' (S k 1 (LI .u32 l)) (.int .i64 l.length) (.int .i64 ((i+1:Nat):Int)) hp1:=by
   rw[qrb]
   simp at hw
   simp[hw]
  rw[h14]at h2
  simp at h2 h
  simp[hi,e3,qe,lx,h2,h,YH]
theorem qje(l:List Int)(k:Nat)(hl:l.length<=4096)(hp:Hp):∃t hp',run cxX 73 [S k 1 (LI .u32 l)] hp=some (.tup [S t 1 (LI .u32 (YH [] l)),.sc (.int .i64 0)],hp'):=by
 obtain⟨t,hp',h⟩:=zar l (rk k) hl l 0 [] (S 2 1 []) hp rfl List.Pairwise.nil (by simp) (by simp) (.inl ⟨rfl,rfl⟩)
 refine⟨t,hp',?_⟩
 rw[E73]
 simpa using h
theorem qkr(l:List Int)(k:Nat)(hl:l.length<=4096)(hp:Hp):∀(r:List Int) (i:Nat) (a:List Int),l.drop i=r->a.length<=i->i<=l.length->
 ∃t,B26_3 (.bool false) (S 2 1 (LI .u32 a)) (S k 1 (LI .u32 l)) (.int .i64 l.length) (.int .i64 i) hp=some (.tup [S t 1 (LI .u32 (YH [] (a++r))),.sc (.int .i64 0)],hp):=by
 intro r
 induction r with
 |nil=>
  intro i a hr ha hil
  have:=qB hr
  have hlt:¬((i:Int)<(l.length:Int)):=by omega
  obtain⟨t,hp',h⟩:=qje a 3 (by omega) hp0
  refine⟨t,?_⟩
  rw[qin]
  simp[hlt,h]
 |cons y r ih=>
  intro i a hr ha hil
  obtain⟨e1,e2,hi,e3⟩:=qm hr
  have hw:IntKind.i64.wrap ((i:Int)+1)=((i+1:Nat):Int):=by rw[qf]<;>omega
  have ap:=ZO .u32 a 2 (.inr rfl) 4 (by decide) y (by omega)
  obtain⟨t,h⟩:=ih (i+1) (a++[y]) e2 (by simp;omega) (by omega)
  refine⟨t,?_⟩
  rw[qin]
  simp at h hw ap
  simp[hi,e3,qe,qyv,ap,hw,h]
theorem quc(l:List Int)(k:Nat)(hl:l.length<=4096)(hp:Hp):∃t,run cxX 26 [S k 1 (LI .u32 l),.sc (.bool false)] hp=some (.tup [S t 1 (LI .u32 (YH [] l)),.sc (.int .i64 0)],hp):=by
 obtain⟨t,h⟩:=qkr l (rk k) hl hp l 0 [] rfl (by simp) (by simp)
 refine⟨t,?_⟩
 rw[E26]
 simp at h
 simp[h]
def qg4(x:Nat):Nat:=if x=0 then 0 else Nat.log2 x+1
theorem zb6{x n:Nat}(h:Bl x n):n=qg4 x:=by
 unfold qg4
 by_cases hx:x=0
 ·rw[if_pos hx]
  subst hx
  rcases h.2 with h2|h2
  ·exact h2
  ·have:=Nat.two_pow_pos (n-1);omega
 ·rw[if_neg hx]
  have hn:n≠0:=by
   intro e;subst e
   have:=h.1
   simp at this
   exact hx this
  have h2:=h.2.resolve_left hn
  have a1:=Nat.log2_self_le hx
  have a2:x<2^(Nat.log2 x+1):=Nat.lt_log2_self
  have b1:n-1<Nat.log2 x+1:=(Nat.pow_lt_pow_iff_right (by decide:1<2)).mp (Nat.lt_of_le_of_lt h2 a2)
  have b2:Nat.log2 x<n:=(Nat.pow_lt_pow_iff_right (by decide:1<2)).mp (Nat.lt_of_le_of_lt a1 h.1)
  omega
theorem qzm(x:Nat)(h:x<18446744073709551616)(hp:Hp):run cxX 168 [.sc (.int .u64 (x:Int))] hp=some (.sc (.int .i64 ((64-qg4 x:Nat):Int)),hp):=by
 obtain⟨n,h1,h2,h3⟩:=qoi x h
 rw[zb6 h2]at h1 h3
 have w:IntKind.i64.wrap (64-(qg4 x:Int))=((64-qg4 x:Nat):Int):=by rw[qf]<;>omega
 rw[E168]
 simp[h3,w]
abbrev Hv(P:Int)(x:AV):AV:=.agg [.sc (.int .i64 P),x]
def jA(P:Int):Nat:=2^P.toNat
def yx(P h:Int):Nat:=(h/2^(64-P).toNat).toNat
def Ju(P h:Int):Int:=min ((64-qg4 ((h*2^P.toNat)%18446744073709551616).toNat:Nat):Int) (64-P)+1
theorem qdm{P h:Int}(hP:4<=P/\P<=8):1<=Ju P h/\Ju P h<=65-P:=by
 unfold Ju;omega
theorem za8{P h:Int}(hP:4<=P/\P<=8)(hh:0<=h/\h<18446744073709551616):yx P h<jA P:=by
 unfold yx jA
 obtain⟨p,rfl⟩:∃p:Nat,P=p:=⟨P.toNat,by omega⟩
 obtain⟨x,rfl⟩:∃x:Nat,h=x:=⟨h.toNat,by omega⟩
 have e:(64-(p:Int)).toNat=64-p:=by omega
 rw[e,Int.toNat_natCast]
 have e2:((x:Int)/2^(64-p))=((x/2^(64-p):Nat):Int):=by simp
 rw[e2,Int.toNat_natCast]
 apply Nat.div_lt_of_lt_mul
 rw[<-Nat.pow_add]
 have e3:64-p+p=64:=by omega
 rw[e3]
 omega
theorem qjj(P h:Int)(x:AV)(hP:4<=P/\P<=8)(hh:0<=h/\h<18446744073709551616)(hp:Hp):
 run cxX 125 [Hv P x,.sc (.int .u64 h)] hp=some (.tup [.sc (.int .i64 (yx P h:Int)),.sc (.int .u8 (Ju P h))],hp):=by
 rw[E125]
 have m1:max P 4=P:=by omega
 have m2:min P 8=P:=by omega
 have w1:IntKind.i64.wrap (64-P)=64-P:=qf (by omega) (by omega)
 have s1:∀t x y,qr Tryz.prog .shr t x y (.int .u64 h) (.int .i64 (64-P))=some (.int .u64 (yx P h:Int)):=by
  intro t x y
  rw[js _ _ _ _ _ _ _ _ (by omega)]
  have e:min (64-P).toNat IntKind.u64.bits=(64-P).toNat:=by
   have:IntKind.u64.bits=64:=rfl
   omega
  rw[e,Int.fdiv_eq_ediv_of_nonneg _ (by exact_mod_cast Nat.zero_le _)]
  unfold yx
  have:0<=h/2^(64-P).toNat:=Int.ediv_nonneg hh.1 (by exact_mod_cast Nat.zero_le _)
  rw[Int.toNat_of_nonneg this]
 have hlt:=za8 hP hh
 have h256:jA P<=256:=by
  unfold jA
  have:P.toNat<=8:=by omega
  calc 2^P.toNat<=2^8:=Nat.pow_le_pow_right (by decide) this
   _=256:=rfl
 have w2:IntKind.i64.wrap (yx P h:Int)=(yx P h:Int):=qf (by omega) (by omega)
 obtain⟨y,hy⟩:∃y:Nat,y=((h*2^P.toNat)%18446744073709551616).toNat:=⟨_,rfl⟩
 have hy64:y<18446744073709551616:=by omega
 have s2:∀t a b,qr Tryz.prog .shl t a b (.int .u64 h) (.int .i64 P)=some (.int .u64 (y:Int)):=by
  intro t a b
  rw[zF _ _ _ _ _ _ _ _ (by omega)]
  have e:min P.toNat IntKind.u64.bits=P.toNat:=by
   have:IntKind.u64.bits=64:=rfl
   omega
  rw[e,IntKind.wrap_u64,hy]
  congr 2
  omega
 have lz:=fun hp=>qzm y hy64 hp
 have hr:=qdm (h:=h) hP
 have hre:Ju P h=min ((64-qg4 y:Nat):Int) (64-P)+1:=by unfold Ju;rw[hy]
 have w3:IntKind.i64.wrap (min ((64-qg4 y:Nat):Int) (64-P)+1)=Ju P h:=by rw[<-hre];exact qf (by omega) (by omega)
 have w4:IntKind.u8.wrap (Ju P h)=Ju P h:=qT (by omega) (by omega)
 simp[qe,m1,m2,w1,s1,s2,w2,lz,w3,w4]
theorem ql9(P:Int)(hP:0<=P/\P<=8)(t:TypeId)(x y:Operand):qr Tryz.prog .shl t x y (.int .i64 1) (.int .i64 P)=some (.int .i64 (jA P:Int)):=by
 rw[zF _ _ _ _ _ _ _ _ (by omega)]
 have e:min P.toNat IntKind.i64.bits=P.toNat:=by
  have:IntKind.i64.bits=64:=rfl
  omega
 have h256:jA P<=256:=by
  unfold jA
  have:P.toNat<=8:=by omega
  calc 2^P.toNat<=2^8:=Nat.pow_le_pow_right (by decide) this
   _=256:=rfl
 rw[e]
 have e2:(1*2^P.toNat:Int)=(jA P:Int):=by unfold jA;simp
 rw[e2,qf (by omega) (by omega)]
theorem Xo{P:Int}(hP:P<=8):jA P<=256:=by
 unfold jA
 have:P.toNat<=8:=by omega
 calc 2^P.toNat<=2^8:=Nat.pow_le_pow_right (by decide) this
  _=256:=rfl
theorem qug(P:Int)(x:AV)(hP:0<=P/\P<=64)(hp:Hp):run cxX 122 [Hv P x] hp=some (.sc (.int .i64 (65-P)),hp):=by
 rw[E122]
 have w:IntKind.i64.wrap (65-P)=65-P:=qf (by omega) (by omega)
 simp[qe,w]
def YP(P:Int)(l:List Int):Int:=if(∃n∈l,65-P<n)then 2 else 0
def qp7(P:Int)(l:List Int):Int:=if P<4\/8<P then 2 else if l.length≠jA P then 6 else YP P l
theorem qf9(P:Int)(l:List Int)(k:Nat)(hP:4<=P/\P<=8)(hl:l.length<=1000)(h8:∀n∈l,0<=n/\n<256)(hp:Hp):∀(r:List Int) (i:Nat),l.drop i=r->
 B64_6 (S k 1 (LI .u8 l)) (.int .i64 l.length) (.int .i64 i) [.sc (.int .i64 P),S k 1 (LI .u8 l)] hp=some (.sc (.int .i64 (YP P r)),hp):=by
 intro r
 induction r with
 |nil=>
  intro i hr
  have:=qB hr
  have hlt:¬((i:Int)<(l.length:Int)):=by omega
  rw[qh5]
  simp[hlt,YP]
 |cons x r ih=>
  intro i hr
  obtain⟨e1,e2,hi,e3⟩:=qm hr
  have hx:=h8 x (List.mem_of_getElem? e1)
  have hw:IntKind.i64.wrap ((i:Int)+1)=((i+1:Nat):Int):=by rw[qf]<;>omega
  have w8:IntKind.i64.wrap x=x:=qf (by omega) (by omega)
  have tp:=fun y hp=>qug P y (by omega) hp
  have h:=ih (i+1) e2
  rw[qh5]
  simp at h hw
  by_cases e:65-P<x
  ·simp[hi,e3,qe,ql,w8,tp,e,YP]
  ·have e':YP P (x::r)=YP P r:=by
    unfold YP
    simp[e]
   simp[hi,e3,qe,ql,w8,tp,e,hw,h,e']
theorem qjk(P:Int)(l:List Int)(k:Nat)(hl:l.length<=1000000)(h8:∀n∈l,0<=n/\n<256)(hp:Hp):run cxX 64 [Hv P (S k 1 (LI .u8 l))] hp=some (.sc (.int .i64 (qp7 P l)),hp):=by
 rw[E64]
 unfold qp7
 by_cases h1:P<4
 ·simp[qe,h1,qh7]
 ·by_cases h2:8<P
  ·simp[qe,h1,h2,qh7]
  ·have s:=fun t x y=>ql9 P (by omega) t x y
   have hple:=Xo (P:=P) (by omega)
   by_cases h3:l.length=jA P
   ·have hh:=qf9 P l (rk k) (by omega) (by omega) h8 hp l 0 rfl
    simp at hh
    simp[qe,qj,h1,h2,s,h3,qh6]
    rw[<-h3];exact hh
   ·have h4:¬((l.length:Int)=(jA P:Int)):=by omega
    simp[qe,qj,h1,h2,s,h3,h4,qh6]
def b8(l:List Int):List UInt8:=l.map fun n=>UInt8.ofNat n.toNat
@[simp] theorem zb3 : ∀ l : List Int, zn (LI .u8 l) = some (b8 l)
 |[]=>rfl
 |x::l=>by
  have:=zb3 l
  show(zn (LI .u8 l)).map _=_
  rw[this];rfl
theorem qxv:∀{a b:List Int},(∀n∈a,0<=n/\n<256)->(∀n∈b,0<=n/\n<256)->(b8 a=b8 b↔a=b)
 |[],[],_,_=>by simp
 |[],y::b,_,_=>by simp[b8]
 |x::a,[],_,_=>by simp[b8]
 |x::a,y::b,ha,hb=>by
  have ih:=qxv (a:=a) (b:=b) (fun n hn=>ha n (by simp[hn])) (fun n hn=>hb n (by simp[hn]))
  have hx:=ha x (by simp)
  have hy:=hb y (by simp)
  have e:UInt8.ofNat x.toNat=UInt8.ofNat y.toNat↔x=y:=by
   constructor
   ·intro h
    have:=congrArg UInt8.toNat h
    simp at this
    omega
   ·rintro rfl;rfl
  simp only[b8,List.map_cons,List.cons.injEq]at ih⊢
  rw[e,ih]
theorem qok(P P':Int)(a b:List Int)(k k':Nat)(ha:∀n∈a,0<=n/\n<256)(hb:∀n∈b,0<=n/\n<256)(hp:Hp):
 run cxX 118 [Hv P (S k 1 (LI .u8 a)),Hv P' (S k' 1 (LI .u8 b))] hp=some (.sc (.bool (decide (P=P'/\a=b))),hp):=by
 rw[E118]
 by_cases h:P=P'
 ·have e:decide (b8 a=b8 b)=decide (a=b):=decide_eq_decide.mpr (qxv ha hb)
  simp[qe,qj,h,e]
 ·simp[qe,h]
theorem qey(P:Int)(hP:4<=P/\P<=8)(hp:Hp):run cxX 74 [.sc (.int .i64 P)] hp=some (.tup [Hv P (S 0 1 (LI .u8 (List.replicate (jA P) 0))),.sc (.bool true)],hp):=by
 rw[E74]
 have h1:¬(P<4):=by omega
 have h2:¬(8<P):=by omega
 have s:=fun t x y=>ql9 P (by omega) t x y
 have hple:=Xo (P:=P) (by omega)
 have mk:yu 1 1 (jA P:Int) (jA P:Int)=some ():=QN (by omega) (by omega) (by decide) (by decide)
 simp[h1,h2,qyg,s,mk,QC,ql,qh]
def za9:List Int->List Int->List Int
 |[],_=>[]
 |x::a,[]=>x::a
 |x::a,y::b=>max x y::za9 a b
@[simp] theorem zen : ∀ a, za9 a [] = a
 |[]=>rfl
 |_::_=>rfl
def wC(P:Int)(l:List Int)(h:Int):List Int:=if yx P h<l.length then l.set (yx P h) (max (l.getD (yx P h) 0) (Ju P h))else l
theorem quh(P:Int)(l:List Int)(k:Nat)(h:Int)(hP:4<=P/\P<=8)(hh:0<=h/\h<18446744073709551616)(hl:l.length<=1000000)(hp:Hp):
 ∃t hp',run cxX 70 [Hv P (S k 1 (LI .u8 l)),.sc (.int .u64 h)] hp=some (Hv P (S t 1 (LI .u8 (wC P l h))),hp'):=by
 rw[E70]
 have pl:=fun x hp=>qjj P h x hP hh hp
 by_cases hne:l=[]
 ·subst hne
  have n1:=fun k hp=>KU 1 k hp
  have e:¬((yx P h:Int)<0):=by omega
  refine⟨0,hp,?_⟩
  simp[qe,qj,n1,qh,ql,pl,wC,e,qh0]
 ·have n1:=fun k hp=>kX .u8 l k 1 (by decide) hl hne hp
  have f5:∀(l:List Int) (b:Nat) (hp:Hp) (q0 q1:AV),hp.rd b 0=some (LI .u8 l)->B70_5 [q0,q1] [.sc (.int .i64 P),.ms b 0 0 l.length 1] hp=some (Hv P (S 0 1 (LI .u8 l)),hp.del b):=by
   intro l b hp q0 q1 hb
   have f:=wF .u8 l hp b hb
   rw[qh0]
   simp[ql,qh,f]
  by_cases hi:yx P h<l.length
  ·have hi':(yx P h:Int)<(l.length:Int):=by omega
   have ix:=qU .i64 hi
   have gs:l[yx P h]?=some (l.getD (yx P h) 0):=by simp[hi]
   have pt:=yL .u8 l (yx P h) (max (l.getD (yx P h) 0) (Ju P h)) hi
   have f:=f5 (l.set (yx P h) (max (l.getD (yx P h) 0) (Ju P h))) hp.next ((hp.new (LI .u8 l)).put hp.next 0 (LI .u8 (l.set (yx P h) (max (l.getD (yx P h) 0) (Ju P h))))) (.sc (.int .i64 0)) (S 2 1 []) (qi _ _ _)
   rw[List.length_set]at f
   have r0:=qz hp (LI .u8 l)
   refine⟨0,((hp.new (LI .u8 l)).put hp.next 0 (LI .u8 (l.set (yx P h) (max (l.getD (yx P h) 0) (Ju P h))))).del hp.next,?_⟩
   simp only[wC,if_pos hi]
   generalize l.getD (yx P h) 0=g at gs pt f⊢
   simp[qe,qj,n1,qh,ql,pl,hi',ix,r0,gs]at pt⊢
   simp[pt]
   exact f
  ·have hi':¬((yx P h:Int)<(l.length:Int)):=by omega
   have f:=f5 l hp.next (hp.new (LI .u8 l)) (.sc (.int .i64 0)) (S 2 1 []) (qz _ _)
   refine⟨0,(hp.new (LI .u8 l)).del hp.next,?_⟩
   simp only[wC,if_neg hi]
   simp[qe,qj,n1,qh,ql,pl,hi']
   exact f
theorem Wg(h:Int)(hh:0<=h/\h<18446744073709551616):∃v:Int,(0<=v/\v<18446744073709551616)/\∀hp,run cxX 75 [.sc (.int .u64 h)] hp=some (.sc (.int .u64 v),hp):=by
 have r3:∀t x y,qr Tryz.prog .rem t x y (.int .u64 h) (.int .u64 3)=some (.int .u64 (h%3)):=by
  intro t x y;rw[qW _ _ _ _ _ _ _ (by omega),qV hh.1]
 by_cases e:h%3=0
 ·obtain⟨z1,s1⟩:∃z:Int,∀t x y,qr Tryz.prog .shr t x y (.int .u64 h) (.int .u64 56)=some (.int .u64 z):=⟨_,fun t x y=>js _ _ _ _ _ _ _ _ (by omega)⟩
  obtain⟨z2,s2⟩:∃z:Int,∀t x y,qr Tryz.prog .shl t x y (.int .u64 z1) (.int .u64 56)=some (.int .u64 z):=⟨_,fun t x y=>zF _ _ _ _ _ _ _ _ (by omega)⟩
  have q4:∀t x y,qr Tryz.prog .quo t x y (.int .u64 h) (.int .u64 4)=some (.int .u64 (h/4)):=by
   intro t x y;rw[jU _ _ _ _ _ _ _ (by omega),Int.tdiv_eq_ediv_of_nonneg hh.1,qn (by omega) (by omega)]
  have r56:∀t x y,qr Tryz.prog .rem t x y (.int .u64 (h/4)) (.int .u64 56)=some (.int .u64 (h/4%56)):=by
   intro t x y;rw[qW _ _ _ _ _ _ _ (by omega),qV (by omega)]
  obtain⟨z3,s3⟩:∃z:Int,∀t x y,qr Tryz.prog .shl t x y (.int .u64 1) (.int .u64 (h/4%56))=some (.int .u64 z):=⟨_,fun t x y=>zF _ _ _ _ _ _ _ _ (by omega)⟩
  obtain⟨z4,s4⟩:∃z:Int,∀t x y,qr Tryz.prog .sub t x y (.int .u64 z3) (.int .u64 1)=some (.int .u64 z):=⟨_,fun t x y=>kV _ _ _ _ _ _ _⟩
  obtain⟨z5,s5⟩:∃z:Int,∀t x y,qr Tryz.prog .and t x y (.int .u64 h) (.int .u64 z4)=some (.int .u64 z):=⟨_,fun t x y=>qS _ _ _ _ _ _ _⟩
  obtain⟨z6,b6,s6⟩:∃z:Int,(0<=z/\z<18446744073709551616)/\∀t x y,qr Tryz.prog .or t x y (.int .u64 z2) (.int .u64 z5)=some (.int .u64 z):=⟨_,by rw[IntKind.wrap_u64];omega,fun t x y=>zG _ _ _ _ _ _ _⟩
  refine⟨z6,b6,fun hp=>?_⟩
  rw[E75]
  simp[r3,e,s1,s2,q4,r56,s3,s4,s5,s6,-kV,-qS,-zG]
 ·refine⟨h,hh,fun hp=>?_⟩
  rw[E75]
  simp[r3,e]
noncomputable def hsh(h:Int):Int:=if hh:0<=h/\h<18446744073709551616 then(Wg h hh).choose else 0
theorem zem{h:Int}(hh:0<=h/\h<18446744073709551616):(0<=hsh h/\hsh h<18446744073709551616)/\∀hp,run cxX 75 [.sc (.int .u64 h)] hp=some (.sc (.int .u64 (hsh h)),hp):=by
 unfold hsh
 rw[dif_pos hh]
 exact(Wg h hh).choose_spec
noncomputable def hfold(P:Int)(a l:List Int):List Int:=l.foldl (fun a h=>wC P a (hsh h)) a
theorem qga(P:Int)(l:List Int)(h:Int):(wC P l h).length=l.length:=by
 unfold wC;split<;>simp
theorem WN(P:Int):∀(l a:List Int),(hfold P a l).length=a.length
 |[],a=>rfl
 |h::l,a=>by
  show(hfold P (wC P a (hsh h)) l).length=_
  rw[WN P l,qga]
theorem qwt(P:Int)(q0 q1:AV)(l:List Int)(k:Nat)(hP:4<=P/\P<=8)(hl:l.length<=1000000)(h64:∀n∈l,0<=n/\n<18446744073709551616)(hp:Hp):∀(r:List Int) (i t:Nat) (a:List Int),l.drop i=r->a.length<=1000000->
 ∃t',B28_3 (S k 1 (LI .u64 l)) (.int .i64 l.length) (.int .i64 i) [q0,q1] [.sc (.int .i64 P),S t 1 (LI .u8 a)] hp=some (Hv P (S t' 1 (LI .u8 (hfold P a r))),hp):=by
 intro r
 induction r with
 |nil=>
  intro i t a hr ha
  have:=qB hr
  have hlt:¬((i:Int)<(l.length:Int)):=by omega
  refine⟨t,?_⟩
  rw[qil]
  simp[hlt,ql,qh,hfold]
 |cons x r ih=>
  intro i t a hr ha
  obtain⟨e1,e2,hi,e3⟩:=qm hr
  have hx:=h64 x (List.mem_of_getElem? e1)
  obtain⟨hb,hs⟩:=zem hx
  have hw:IntKind.i64.wrap ((i:Int)+1)=((i+1:Nat):Int):=by rw[qf]<;>omega
  obtain⟨t1,hp1,ha1⟩:=quh P a (rk t) (hsh x) hP hb ha hp0
  obtain⟨t',h⟩:=ih (i+1) t1 (wC P a (hsh x)) e2 (by rw[qga];exact ha)
  refine⟨t',?_⟩
  rw[qil]
  simp at h hw
  have ef:hfold P a (x::r)=hfold P (wC P a (hsh x)) r:=rfl
  simp[hi,e3,qe,hs,ql,qh,ha1,hw,h,ef]
theorem qzo(p:Int)(l:List Int)(k:Nat)(hp8:0<=p/\p<256)(hl:l.length<=1000000)(h64:∀n∈l,0<=n/\n<18446744073709551616)(hp:Hp):
 ∃t,run cxX 28 [.sc (.int .u8 p),S k 1 (LI .u64 l)] hp=some (Hv (4+p%5) (S t 1 (LI .u8 (hfold (4+p%5) (List.replicate (jA (4+p%5)) 0) l))),hp):=by
 have h1:∀t x y,qr Tryz.prog .rem t x y (.int .u8 p) (.int .u8 5)=some (.int .u8 (p%5)):=by
  intro t x y;rw[qW _ _ _ _ _ _ _ (by omega),qV hp8.1]
 have w1:IntKind.i64.wrap (p%5)=p%5:=qf (by omega) (by omega)
 have w2:IntKind.i64.wrap (4+p%5)=4+p%5:=qf (by omega) (by omega)
 have nw:=fun hp=>qey (4+p%5) (by omega) hp
 have hple:=Xo (P:=4+p%5) (by omega)
 obtain⟨t,h⟩:=qwt (4+p%5) (.sc (.int .i64 0)) (S 2 1 []) l (rk k) (by omega) hl h64 hp l 0 0 (List.replicate (jA (4+p%5)) 0) rfl (by simp;omega)
 refine⟨t,?_⟩
 rw[E28]
 simp at h
 simp[h1,w1,w2,nw,qh,h]
abbrev Bv(bits hashes:Value)(S:AV):AV:=.agg [.sc bits,.sc hashes,S]
theorem qki(B H:Value)(q0 q1 q2:AV)(hp:Hp):∀(n:Nat) (a b acc:List Int) (k k':Nat),a.length+b.length=n->acc.length+n<=1000000->
 B127_3 (S k 1 (LI .u32 a)) (S k' 1 (LI .u32 b)) [q0,q1,q2] [.sc B,.sc H,S 2 1 (LI .u32 acc)] hp=some (Bv B H (S 2 1 (LI .u32 (acc++mrg a b))),hp):=by
 intro n
 induction n using Nat.strongRecOn with
 |_ n ih=>
 intro a b acc k k' hn hlen
 have hw:IntKind.i64.wrap ((a.length:Int)+(b.length:Int))=((a.length+b.length:Nat):Int):=by
  rw[qf]<;>omega
 have ap:∀x:Int,zZ 4 1 (S 2 1 (LI .u32 acc)) (S 1 1 [.sc (.int .u32 x)])=some (S 2 1 (LI .u32 (acc++[x]))):=fun x=>ZO .u32 acc 2 (.inr rfl) 4 (by decide) x (by omega)
 have goA:∀(x:Int) (r:List Int),r.length+1+b.length<=n->B127_6 (S k 1 (LI .u32 (x::r))) (S k' 1 (LI .u32 b)) [q0,q1,q2] [.sc B,.sc H,S 2 1 (LI .u32 acc)] hp=some (Bv B H (S 2 1 (LI .u32 (acc++x::mrg r b))),hp):=by
  intro x r hle
  rw[qsi]
  have e:=vt (rk k) (LI .u32 (x::r)) .i64 1 (by omega) (by simp only[vy,List.length_cons];omega)
  simp[qj,qe,ap,e,qh,ih (r.length+b.length) (by omega) r b (acc++[x]) _ k' rfl (by simp only[List.length_append,List.length_cons,List.length_nil];omega)]
 have goB:∀(y:Int) (r:List Int),a.length+(r.length+1)<=n->B127_8 (S k 1 (LI .u32 a)) (S k' 1 (LI .u32 (y::r))) [q0,q1,q2] [.sc B,.sc H,S 2 1 (LI .u32 acc)] hp=some (Bv B H (S 2 1 (LI .u32 (acc++y::mrg a r))),hp):=by
  intro x r hle
  rw[qsh]
  have e:=vt (rk k') (LI .u32 (x::r)) .i64 1 (by omega) (by simp only[vy,List.length_cons];omega)
  simp[qj,qe,ap,e,qh,ih (a.length+r.length) (by omega) a r (acc++[x]) k _ rfl (by simp only[List.length_append,List.length_cons,List.length_nil];omega)]
 have wD:∀(x y:Int) (r s:List Int),r.length+s.length+2<=n->B127_4 (S k 1 (LI .u32 (x::r))) (S k' 1 (LI .u32 (y::s))) [q0,q1,q2] [.sc B,.sc H,S 2 1 (LI .u32 acc)] hp=some (Bv B H (S 2 1 (LI .u32 (acc++x::mrg r s))),hp):=by
  intro x y r s hle
  rw[qsj]
  have e:=vt (rk k) (LI .u32 (x::r)) .i64 1 (by omega) (by simp only[vy,List.length_cons];omega)
  have e':=vt (rk k') (LI .u32 (y::s)) .i64 1 (by omega) (by simp only[vy,List.length_cons];omega)
  simp[qj,qe,ap,e,e',qh,ih (r.length+s.length) (by omega) r s (acc++[x]) _ _ rfl (by simp only[List.length_append,List.length_cons,List.length_nil];omega)]
 rw[qsk]
 match a,b with
 |[],[]=>simp[ql,qh,Bv]
 |[],y::s=>
  have h:=goB y s (by simp at hn⊢;omega)
  simp at h
  have hw':IntKind.i64.wrap ((s.length:Int)+1)=(s.length:Int)+1:=qf (by omega) (by simp at hn;omega)
  have p:(0:Int)<(s.length:Int)+1:=by omega
  have z:¬((s.length:Int)+1=0):=by omega
  simp[hw',p,z,YC,h]
 |x::r,[]=>
  have h:=goA x r (by simp at hn⊢;omega)
  simp at h
  have hw':IntKind.i64.wrap ((r.length:Int)+1)=(r.length:Int)+1:=qf (by omega) (by simp at hn;omega)
  have p:(0:Int)<(r.length:Int)+1:=by omega
  simp[hw',p,h]
 |x::r,y::s=>
  have h1:=goA x r (by simp at hn⊢;omega)
  have h2:=goB y s (by simp at hn⊢;omega)
  have h3:=wD x y r s (by simp at hn⊢;omega)
  have hw':IntKind.i64.wrap ((r.length:Int)+1+((s.length:Int)+1))=(r.length:Int)+1+((s.length:Int)+1):=qf (by omega) (by simp at hn;omega)
  have p:(0:Int)<(r.length:Int)+1+((s.length:Int)+1):=by omega
  have p':(0:Int)<(r.length:Int)+1:=by omega
  have z:¬((s.length:Int)+1=0):=by omega
  have z':¬((r.length:Int)+1=0):=by omega
  rw[zI]
  by_cases hxy:x<y
  ·simp[hw',p,p',z,z',qe,hxy,h1]
  ·by_cases hyx:y<x
   ·simp[hw',p,p',z,z',qe,hxy,hyx,h2,YC]
   ·simp[hw',p,p',z,z',qe,hxy,hyx,h3,YC]
theorem qog(B H B' H':Value)(a b:List Int)(k k':Nat)(hp:Hp)(hlen:a.length+b.length<=1000000):
 run cxX 127 [Bv B H (S k 1 (LI .u32 a)),Bv B' H' (S k' 1 (LI .u32 b))] hp=some (Bv B H (S 2 1 (LI .u32 (mrg a b))),hp):=by
 rw[E127]
 have:=qki B H (.sc (.int .i64 0)) (.sc (.int .i64 0)) (S 2 1 []) hp (a.length+b.length) a b [] (rk k) (rk k') rfl (by simpa using hlen)
 simp at this
 simp[Bv,qe,qj]
 exact this
theorem qn6(B H B' H':AV)(a b:List Int)(k k':Nat)(hab:a.length=b.length)(hl:a.length<=1000000)(hp:Hp):∀(r s:List Int) (i:Nat),a.drop i=r->b.drop i=s->
 B119_4 (.int .i64 a.length) (.int .i64 i) [B,H,S k 1 (LI .u32 a)] [B',H',S k' 1 (LI .u32 b)] hp=some (.sc (.bool (decide (r=s))),hp):=by
 intro r
 induction r with
 |nil=>
  intro s i hr hs
  have h1:=qB hr
  have h2:s=[]:=by rw[<-hs];exact List.drop_eq_nil_of_le (by omega)
  have hlt:¬((i:Int)<(a.length:Int)):=by omega
  rw[qbv]
  simp[hlt,h2]
 |cons x r ih=>
  intro s i hr hs
  obtain⟨e1,e2,hi,e3⟩:=qm hr
  rw[qbv]
  have hw:IntKind.i64.wrap ((i:Int)+1)=((i+1:Nat):Int):=by rw[qf]<;>omega
  cases s with
  |nil=>have:=qB hs;omega
  |cons y s=>
   obtain⟨f1,f2,hj,f3⟩:=qm hs
   have h:=ih s (i+1) e2 f2
   simp at h hw
   by_cases e:x=y
   ·simp[hi,hj,qj,qe,e3,f3,e,hw,h]
   ·simp[hi,hj,qj,qe,e3,f3,e]
theorem qt5(B H:Int)(B' H':Int)(a b:List Int)(k k':Nat)(hp:Hp)(ha:a.length<=1000000)(hb:b.length<=1000000):
 run cxX 119 [Bv (.int .i64 B) (.int .i64 H) (S k 1 (LI .u32 a)),Bv (.int .i64 B') (.int .i64 H') (S k' 1 (LI .u32 b))] hp=some (.sc (.bool (decide (B=B'/\H=H'/\a=b))),hp):=by
 rw[E119]
 by_cases h1:B=B'
 ·by_cases h2:H=H'
  ·by_cases h3:a.length=b.length
   ·have h:=qn6 (.sc (.int .i64 B)) (.sc (.int .i64 H)) (.sc (.int .i64 B')) (.sc (.int .i64 H')) a b (rk k) (rk k') h3 ha hp a b 0 rfl rfl
    simp at h
    subst h1 h2
    rw[h3]at h
    simp[qe,qj,h3,qst,h]
   ·have h4:¬(a=b):=fun e=>h3 (by rw[e])
    have h5:¬((a.length:Int)=(b.length:Int)):=by omega
    simp[qe,qj,h1,h2,h4,h5,YE]
  ·simp[qe,qj,h1,h2,YE]
 ·simp[qe,qj,h1,YE]
def Yt(B:Int):Option Int->List Int->Int
 |_,[]=>0
 |p,n::r=>if n>=B then 2 else match p with
  |none=>Yt B (some n) r
  |some q=>if n<=q then 8 else Yt B (some n) r
def KT(B H:Int)(l:List Int):Int:=if B<1\/B>4096\/H<1\/H>8 then 2 else Yt B none l
def zcf(l:List Int):Prop:=∀n∈l,0<=n/\n<4294967296
theorem qld(B:Int)(H:AV)(l:List Int)(k k':Nat)(hl:l.length<=1000000)(h32:zcf l)(hp:Hp):∀(r:List Int) (i:Nat) (p:Option Int),l.drop i=r->
 (match p with|none=>i=0|some q=>∃j,i=j+1/\l[j]?=some q)->
 B65_4 (S k 1 (LI .u32 l)) (.int .i64 l.length) (.int .i64 i) [.sc (.int .i64 B),H,S k' 1 (LI .u32 l)] hp=some (.sc (.int .i64 (Yt B p r)),hp):=by
 intro r
 induction r with
 |nil=>
  intro i p hr hp'
  have:=qB hr
  have hlt:¬((i:Int)<(l.length:Int)):=by omega
  rw[qh4]
  simp[hlt,Yt]
 |cons n r ih=>
  intro i p hr hp'
  obtain⟨e1,e2,hi,e3⟩:=qm hr
  have h:=ih (i+1) (some n) e2 ⟨i,rfl,e1⟩
  have hw:IntKind.i64.wrap ((i:Int)+1)=((i+1:Nat):Int):=by rw[qf]<;>omega
  have hn:=h32 n (List.mem_of_getElem? e1)
  have hwn:IntKind.i64.wrap n=n:=qf (by omega) (by omega)
  rw[qh4]
  by_cases hB:B<=n
  ·simp[hi,e1,e3,qe,yO,hwn,hB,Yt]
  ·cases p with
   |none=>
    obtain rfl:i=0:=hp'
    simp at h e1 hw
    simp[hi,e1,e3,qe,yO,hwn,hB,Yt,qal,hw,h]
   |some q=>
    obtain⟨j,rfl,ej⟩:=hp'
    have hw2:IntKind.i64.wrap (((j+1:Nat):Int)-1)=(j:Int):=by rw[qf]<;>omega
    have hpos:(0:Int)<(j:Int)+1:=by omega
    have hi2:(j:Int)+1<(l.length:Int):=by omega
    have hge:(0:Int)<=(j:Int)+1:=by omega
    have htn:((j:Int)+1).toNat=j+1:=by omega
    simp at h hw hw2
    by_cases hq:n<=q
    ·simp[hi2,hge,htn,e1,e3,ej,qe,qj,yO,hwn,hB,Yt,hpos,hw2,hq,qyl]
    ·simp[hi2,hge,htn,e1,e3,ej,qe,qj,yO,hwn,hB,Yt,hpos,hw2,hq,qal,hw,h]
theorem Wi(B H:Int)(l:List Int)(k:Nat)(hl:l.length<=1000000)(h32:zcf l)(hp:Hp):
 run cxX 65 [Bv (.int .i64 B) (.int .i64 H) (S k 1 (LI .u32 l))] hp=some (.sc (.int .i64 (KT B H l)),hp):=by
 rw[E65]
 have h:=qld B (.sc (.int .i64 H)) l (rk k) (rk k) hl h32 hp l 0 none rfl rfl
 simp at h
 unfold KT
 by_cases h1:B<1
 ·simp[qe,h1,JO]
 ·by_cases h2:4096<B
  ·simp[qe,h1,h2,JO]
  ·by_cases h3:H<1
   ·simp[qe,h1,h2,h3,JO]
   ·by_cases h4:8<H
    ·simp[qe,h1,h2,h3,h4,JO]
    ·simp[qe,qj,h1,h2,h3,h4,qym,h]
def at0(h:Int):Int:=IntKind.u32.wrap h
def stp(h:Int):Int:=IntKind.u32.wrap (BitVec.ofInt 32 (IntKind.u32.wrap (h.fdiv (2^32)))|||BitVec.ofInt 32 1).toNat
def plc(B st:Int):Nat->Int->List Int
 |0,_=>[]
 |n+1,a=>a%B::plc B st n (IntKind.u32.wrap (a+st))
theorem qmh(B st:Int):∀(n:Nat) (a:Int),(plc B st n a).length=n
 |0,_=>rfl
 |n+1,a=>by simp[plc,qmh B st n]
theorem qva(B st:Int)(hB:0<B):∀(n:Nat) (a x:Int),x∈plc B st n a->0<=x/\x<B
 |0,_,x,h=>by simp[plc]at h
 |n+1,a,x,h=>by
  rcases List.mem_cons.mp h with rfl|h
  ·exact⟨Int.emod_nonneg _ (by omega),Int.emod_lt_of_pos _ hB⟩
  ·exact qva B st hB n _ x h
theorem VM(z:Int):0<=IntKind.u32.wrap z/\IntKind.u32.wrap z<4294967296:=by
 rw[IntKind.wrap_u32];omega
theorem qfj(B H st:Int)(H':AV)(q:AV)(hB:1<=B/\B<=4096)(hH:H<=8)(hp:Hp):∀(n i:Nat) (a:Int) (acc:List Int),H=(i+n:Nat)->0<=a->acc.length<=i->
 B126_6 (S 2 1 (LI .u32 acc)) (.int .u32 a) (.int .u32 st) (.int .i64 H) (.int .i64 i) [.sc (.int .i64 B),H',q] hp=some (S 2 1 (LI .u32 (acc++plc B st n a)),hp):=by
 intro n
 induction n with
 |zero=>
  intro i a acc hi ha hc
  rw[qbr]
  have hlt:¬((i:Int)<H):=by omega
  simp[hlt,plc]
 |succ n ih=>
  intro i a acc hi ha hc
  rw[qbr]
  have hlt:(i:Int)<H:=by omega
  have hw:IntKind.i64.wrap ((i:Int)+1)=((i+1:Nat):Int):=by rw[qf]<;>omega
  have hwB:IntKind.u32.wrap B=B:=qD (by omega) (by omega)
  have h:=ih (i+1) (IntKind.u32.wrap (a+st)) (acc++[a%B]) (by omega) (VM _).1 (by simp;omega)
  have ap:=ZO .u32 acc 2 (.inr rfl) 4 (by decide) (a%B) (by omega)
  have hr:∀x y,qr Tryz.prog .rem 30 x y (.int .u32 a) (.int .u32 B)=some (.int .u32 (a%B)):=by
   intro x y
   rw[qW _ _ _ _ _ _ _ (by omega),qV ha]
  simp at h hw
  simp[hlt,qe,JD,hwB,hr,ap,hw,h,plc]
def pls(B H:Int)(l:List Int)(h:Int):List Int:=if KT B H l=0 then plc B (stp h) H.toNat (at0 h)else []
theorem qjd(B H:Int)(l:List Int)(k:Nat)(h:Int)(hl:l.length<=1000000)(h32:zcf l)(hp:Hp):
 run cxX 126 [Bv (.int .i64 B) (.int .i64 H) (S k 1 (LI .u32 l)),.sc (.int .u64 h)] hp=some (S 2 1 (LI .u32 (pls B H l h)),hp):=by
 rw[E126]
 have hc:=Wi B H l (rk k) hl h32 hp0
 unfold pls
 by_cases h0:KT B H l=0
 ·have hr:¬(B<1\/B>4096\/H<1\/H>8):=by
   intro h'
   rw[KT,if_pos h']at h0
   cases h0
  have hh:=qfj B H (stp h) (.sc (.int .i64 H)) (S (rk k) 1 (LI .u32 l)) (by omega) (by omega) hp H.toNat 0 (at0 h) [] (by omega) (VM _).1 (by simp)
  simp at hh
  have hs:∀x y,qr Tryz.prog .shr 76 x y (.int .u64 h) (.int .u64 32)=some (.int .u64 (h.fdiv (2^32))):=by
   intro x y
   rw[js _ _ _ _ _ _ _ _ (by omega)]
   rfl
  simp[ql,hc,h0,jy,hs,qe]
  exact hh
 ·simp[ql,hc,h0]
def xw(B:Int)(l:List Int):Prop:=yf l/\∀n∈l,0<=n/\n<B
theorem xw.in32{B:Int}{l:List Int}(h:xw B l)(hB:B<=4096):zcf l:=fun n hn=>by have:=h.2 n hn;omega
theorem xw.nil(B:Int):xw B []:=⟨List.Pairwise.nil,by simp⟩
theorem xw.mrg{B:Int}{a b:List Int}(ha:xw B a)(hb:xw B b):xw B (mrg a b):=
 ⟨Qf a b ha.1 hb.1,fun n hn=>((wv n a b).mp hn).elim (ha.2 n) (hb.2 n)⟩
theorem xw.one{B n:Int}(h:0<=n/\n<B):xw B [n]:=⟨by simp,by simpa using h⟩
theorem qe6{B:Int}:∀{l:List Int} {a:Int},yf l->(∀n∈l,a<=n/\n<B)->(l.length:Int)<=B-a\/l=[]
 |[],_,_,_=>.inr rfl
 |x::l,a,h,hb=>by
  have h':=List.pairwise_cons.mp h
  have hx:=hb x (by simp)
  rcases qe6 (a:=x+1) h'.2 (fun n hn=>⟨by have:=h'.1 n hn;omega,(hb n (by simp[hn])).2⟩)with h2|h2
  ·left;simp;omega
  ·left;subst h2;simp;omega
theorem xw.len{B:Int}{l:List Int}(h:xw B l)(hB:B<=4096):l.length<=4096:=by
 rcases qe6 (a:=0) h.1 h.2 with h'|h'
 ·omega
 ·simp[h']
theorem Ys{B:Int}:∀(l:List Int) (p:Option Int),(∀n∈l,0<=n/\n<B)->(match p with|none=>yf l|some q=>yf (q::l))->Yt B p l=0
 |[],_,_,_=>rfl
 |n::l,p,h,hp=>by
  have hn:=h n (by simp)
  have h0:¬(n>=B):=by omega
  simp only[Yt,h0,if_false]
  cases p with
  |none=>exact Ys l (some n) (fun m hm=>h m (by simp[hm])) hp
  |some q=>
   have hp:yf (q::n::l):=hp
   have h1:=(List.pairwise_cons.mp hp).1 n (by simp)
   have h2:¬(n<=q):=by omega
   simp only[h2,if_false]
   exact Ys l (some n) (fun m hm=>h m (by simp[hm])) (List.pairwise_cons.mp hp).2
theorem qgx{B H:Int}{l:List Int}(hB:1<=B/\B<=4096)(hH:1<=H/\H<=8)(h:xw B l):KT B H l=0:=by
 unfold KT
 rw[if_neg (by omega)]
 exact Ys l none h.2 h.1
def plg(B H h:Int):List Int:=plc B (stp h) H.toNat (at0 h)
theorem qu9{B H:Int}{l:List Int}(hB:1<=B/\B<=4096)(hH:1<=H/\H<=8)(h:xw B l)(x:Int):pls B H l x=plg B H x:=by
 unfold pls
 rw[if_pos (qgx hB hH h)];rfl
theorem qj2{B H h:Int}(hB:1<=B):∀n∈plg B H h,0<=n/\n<B:=fun n hn=>qva B _ (by omega) _ _ n hn
theorem zaa(B H h:Int):(plg B H h).length=H.toNat:=qmh _ _ _ _
def qhi(l:List Int):List Int->List Int
 |[]=>l
 |n::r=>qhi (mrg l [n]) r
theorem Yx{B:Int}:∀{r l:List Int},xw B l->(∀n∈r,0<=n/\n<B)->xw B (qhi l r)
 |[],_,h,_=>h
 |n::r,l,h,hr=>Yx (r:=r) (h.mrg (xw.one (hr n (by simp)))) fun m hm=>hr m (by simp[hm])
theorem qx2(B H:Int)(q0 q1 q2 q:AV)(k':Nat)(ps:List Int)(hB:1<=B/\B<=4096)(hps:ps.length<=8)(hin:∀n∈ps,0<=n/\n<B)(hp:Hp):∀(r:List Int) (i:Nat) (l:List Int) (k:Nat),ps.drop i=r->xw B l->
 B71_3 (S k' 1 (LI .u32 ps)) (.int .i64 ps.length) (.int .i64 i) [.sc (.int .i64 B),.sc (.int .i64 H),q] [q0,q1,q2] [.sc (.int .i64 B),.sc (.int .i64 H),S k 1 (LI .u32 l)] hp=some (Bv (.int .i64 B) (.int .i64 H) (S (if r=[]then k else 2) 1 (LI .u32 (qhi l r))),hp):=by
 intro r
 induction r with
 |nil=>
  intro i l k hr hg
  have:=qB hr
  have hlt:¬((i:Int)<(ps.length:Int)):=by omega
  rw[qhz]
  simp[hlt,ql,qh,qhi]
 |cons x r ih=>
  intro i l k hr hg
  obtain⟨e1,e2,hi,e3⟩:=qm hr
  have hx:=hin x (List.mem_of_getElem? e1)
  have h:=ih (i+1) (mrg l [x]) 2 e2 (hg.mrg (xw.one hx))
  have hw:IntKind.i64.wrap ((i:Int)+1)=((i+1:Nat):Int):=by rw[qf]<;>omega
  have hlen:=hg.len hB.2
  have hm:=fun hp=>qog (.int .i64 B) (.int .i64 H) (.int .i64 B) (.int .i64 H) l [x] (rk k) 0 hp (by simp;omega)
  rw[qhz]
  simp[LI]at h hw hm
  simp[hi,e3,qe,qj,ql,qh,qhi,LI,hm,hw,h]
theorem qzr(B H:Int)(l:List Int)(k:Nat)(h:Int)(hB:1<=B/\B<=4096)(hH:1<=H/\H<=8)(hg:xw B l)(hp:Hp):
 run cxX 71 [Bv (.int .i64 B) (.int .i64 H) (S k 1 (LI .u32 l)),.sc (.int .u64 h)] hp=some (Bv (.int .i64 B) (.int .i64 H) (S 2 1 (LI .u32 (qhi l (plg B H h)))),hp):=by
 rw[E71]
 have hlen:=hg.len hB.2
 have h1:=fun hp=>qjd B H l (rk k) h (by omega) (hg.in32 hB.2) hp
 have hl:=zaa B H h
 have hne:plg B H h≠[]:=by
  intro e
  rw[e]at hl
  simp at hl
  omega
 have h2:=qx2 B H (.sc (.int .i64 0)) (.sc (.int .i64 0)) (S 2 1 []) (S (rk k) 1 (LI .u32 l)) 2 (plg B H h) hB (by omega) (qj2 hB.1) hp _ 0 l (rk k) rfl hg
 rw[qu9 hB hH hg h]at h1
 simp[hne]at h2
 simp[ql,qh,h1,h2]
def blm(B H:Int):List Int->List Int->List Int
 |acc,[]=>acc
 |acc,h::r=>blm B H (qhi acc (plg B H h)) r
theorem qg3{B H:Int}(hB:1<=B):∀{r acc:List Int},xw B acc->xw B (blm B H acc r)
 |[],_,h=>h
 |x::r,acc,h=>qg3 hB (r:=r) (Yx h (qj2 hB))
theorem qlh(B H:Int)(q0 q1 q2:AV)(k:Nat)(hs:List Int)(hB:1<=B/\B<=4096)(hH:1<=H/\H<=8)(hl:hs.length<=1000000)(hp:Hp):∀(r:List Int) (i:Nat) (l:List Int),hs.drop i=r->xw B l->
 B29_3 (S k 1 (LI .u64 hs)) (.int .i64 hs.length) (.int .i64 i) [q0,q1,q2] [.sc (.int .i64 B),.sc (.int .i64 H),S 2 1 (LI .u32 l)] hp=some (Bv (.int .i64 B) (.int .i64 H) (S 2 1 (LI .u32 (blm B H l r))),hp):=by
 intro r
 induction r with
 |nil=>
  intro i l hr hg
  have:=qB hr
  have hlt:¬((i:Int)<(hs.length:Int)):=by omega
  rw[qik]
  simp[hlt,ql,qh,blm]
 |cons x r ih=>
  intro i l hr hg
  obtain⟨e1,e2,hi,e3⟩:=qm hr
  have h:=ih (i+1) (qhi l (plg B H x)) e2 (Yx hg (qj2 hB.1))
  have hw:IntKind.i64.wrap ((i:Int)+1)=((i+1:Nat):Int):=by rw[qf]<;>omega
  have ha:=fun hp=>qzr B H l 3 x hB hH hg hp
  rw[qik]
  simp at h hw
  simp[hi,e3,qe,ql,qh,blm,ha,hw,h]
theorem qow(b h:Int)(k:Nat)(hs:List Int)(hb:0<=b/\b<65536)(hh:0<=h/\h<256)(hl:hs.length<=1000000)(hp:Hp):
 run cxX 29 [.sc (.int .u16 b),.sc (.int .u8 h),S k 1 (LI .u64 hs)] hp=some (Bv (.int .i64 (1+b%300)) (.int .i64 (1+h%8)) (S 2 1 (LI .u32 (blm (1+b%300) (1+h%8) [] hs))),hp):=by
 rw[E29]
 have h1:∀x y,qr Tryz.prog .rem 34 x y (.int .u16 b) (.int .u16 300)=some (.int .u16 (b%300)):=by
  intro x y;rw[qW _ _ _ _ _ _ _ (by omega),qV hb.1]
 have h2:∀x y,qr Tryz.prog .rem 5 x y (.int .u8 h) (.int .u8 8)=some (.int .u8 (h%8)):=by
  intro x y;rw[qW _ _ _ _ _ _ _ (by omega),qV hh.1]
 have w1:IntKind.i64.wrap (b%300)=b%300:=qf (by omega) (by omega)
 have w2:IntKind.i64.wrap (h%8)=h%8:=qf (by omega) (by omega)
 have w3:IntKind.i64.wrap (1+b%300)=1+b%300:=qf (by omega) (by omega)
 have w4:IntKind.i64.wrap (1+h%8)=1+h%8:=qf (by omega) (by omega)
 have hq:=qlh (1+b%300) (1+h%8) (.sc (.int .i64 0)) (.sc (.int .i64 0)) (S 2 1 []) (rk k) hs (by omega) (by omega) hl hp hs 0 [] rfl (xw.nil _)
 simp at hq
 simp[h1,h2,zbt,yN,w1,w2,w3,w4,hq]
def fEq(a b:Nat):Bool:=decide (¬yn a/\¬yn b/\zQ a=zQ b)
theorem je(a:Nat):fEq a a=decide (¬yn a):=by unfold fEq;congr 1;apply propext;constructor<;>intro h<;>simp_all
section
variable (P:Program)(t:TypeId)(x y:Operand)(a b:Nat)
theorem yl(op:BinOp):eqGuard op t x y (.float .f64 a) (.float .f64 b)=pure ():=by
 cases op<;>rfl
@[simp] theorem zf6 : qr P .lss t x y (.float .f64 a) (.float .f64 b) = some (.bool (YQ a b)) := by
 unfold qr
 rw[yl]
 show one (some (Value.bool (Ieee.double.order a b==some .lt)))=_
 rw[f_lt];rfl
@[simp] theorem zf8 : qr P .gtr t x y (.float .f64 a) (.float .f64 b) = some (.bool (YQ b a)) := by
 unfold qr
 rw[yl]
 show one (some (Value.bool (Ieee.double.order a b==some .gt)))=_
 rw[f_gt]
 unfold YQ
 show some (Value.bool _)=_
 congr 2
 apply decide_eq_decide.mpr
 constructor<;>(rintro⟨h1,h2,h3⟩;exact⟨h2,h1,h3⟩)
@[simp] theorem zf9 : qr P .eql t x y (.float .f64 a) (.float .f64 b) = some (.bool (fEq a b)) := by
 unfold qr
 rw[yl]
 show one (some (Value.bool (Ieee.double.order a b==some .eq)))=_
 rw[zev];rfl
@[simp] theorem zf5 : qr P .neq t x y (.float .f64 a) (.float .f64 b) = some (.bool (!fEq a b)) := by
 unfold qr
 rw[yl]
 show one (some (Value.bool (!(Ieee.double.order a b==some .eq))))=_
 rw[zev];rfl
@[simp] theorem zf7 : qr P .leq t x y (.float .f64 a) (.float .f64 b) = some (.bool (YQ a b || fEq a b)) := by
 unfold qr
 rw[yl]
 show one (some (Value.bool (Ieee.double.order a b==some .lt||Ieee.double.order a b==some .eq)))=_
 rw[zev,f_lt];rfl
end
section
variable (P:Program)(t:TypeId)(x y:Operand)
theorem Qa(n:Nat)(h:n<18446744073709551616):IntKind.u64.wrap (n:Int)=n:=qn (by omega) (by omega)
theorem qg6(n:Nat)(h:n<9223372036854775808):qr P .or t x y (.int .u64 (n:Int)) (.int .u64 9223372036854775808)=some (.int .u64 ((n+9223372036854775808:Nat):Int)):=by
 rw[zG]
 show some (Value.int .u64 (IntKind.u64.wrap ((BitVec.ofInt 64 (n:Int)|||BitVec.ofInt 64 9223372036854775808).toNat:Nat)))=_
 rw[qqt n h,Qa _ (by omega)]
theorem YU(n:Nat)(h:n<9223372036854775808):qr P .and t x y (.int .u64 (n:Int)) (.int .u64 9223372036854775808)=some (.int .u64 0):=by
 rw[qS]
 show some (Value.int .u64 (IntKind.u64.wrap ((BitVec.ofInt 64 (n:Int)&&&BitVec.ofInt 64 9223372036854775808).toNat:Nat)))=_
 rw[VG n h]
 rfl
theorem YV(n:Nat)(h:9223372036854775808<=n)(h':n<18446744073709551616):qr P .and t x y (.int .u64 (n:Int)) (.int .u64 9223372036854775808)=some (.int .u64 9223372036854775808):=by
 rw[qS]
 show some (Value.int .u64 (IntKind.u64.wrap ((BitVec.ofInt 64 (n:Int)&&&BitVec.ofInt 64 9223372036854775808).toNat:Nat)))=_
 rw[VH n h h']
 rfl
theorem qli(n:Nat)(h:n<18446744073709551616):qr P .andNot t x y (.int .u64 (n:Int)) (.int .u64 9223372036854775808)=some (.int .u64 ((n%9223372036854775808:Nat):Int)):=by
 rw[jg P t x y .u64 (n:Int) 9223372036854775808 .andNot (by decide) (by decide)]
 show some (Value.int .u64 (IntKind.u64.wrap ((BitVec.ofInt 64 (n:Int)&&&~~~(BitVec.ofInt 64 9223372036854775808)).toNat:Nat)))=_
 rw[qdt n h,Qa _ (by omega)]
theorem ze9(n:Nat)(h:n<18446744073709551616):(BitVec.ofInt 64 18446744073709551615^^^BitVec.ofInt 64 (n:Int)).toNat=18446744073709551615-n:=by
 have e:BitVec.ofInt 64 18446744073709551615=BitVec.allOnes 64:=by decide
 rw[e,BitVec.allOnes_xor,BitVec.toNat_not,BitVec.toNat_ofInt]
 have e1:(((n:Int)%((2^64:Nat):Int)).toNat)=n:=by omega
 rw[e1]
theorem VR(n:Nat)(h:n<18446744073709551616):unV P .xor (.int .u64 (n:Int))=some (.int .u64 ((18446744073709551615-n:Nat):Int)):=by
 show some (Value.int .u64 (IntKind.u64.wrap ((BitVec.ofInt 64 18446744073709551615^^^BitVec.ofInt 64 (n:Int)).toNat:Nat)))=_
 rw[ze9 n h,Qa _ (by omega)]
def nw(w:Nat):Nat:=if w<9223372036854775808 then w+9223372036854775808 else w-9223372036854775808
theorem qyz(w:Nat)(h:w<18446744073709551616):w^^^2^63=nw w:=by
 unfold nw
 by_cases h1:w<9223372036854775808
 ·rw[if_pos h1]
  have e:w+9223372036854775808=2^63*1+w:=by omega
  rw[e,Nat.two_pow_add_eq_or_of_lt (by omega)]
  apply Nat.eq_of_testBit_eq
  intro i
  rw[Nat.testBit_xor,Nat.testBit_or,Nat.mul_one,Nat.testBit_two_pow]
  by_cases hi:63=i
  ·subst hi
   rw[Nat.testBit_lt_two_pow (by omega)]
   rfl
  ·simp[hi]
 ·rw[if_neg h1]
  obtain⟨m,rfl⟩:∃m,w=2^63*1+m:=⟨w-2^63,by omega⟩
  have e:2^63*1+m-9223372036854775808=m:=by omega
  rw[e,Nat.two_pow_add_eq_or_of_lt (by omega)]
  apply Nat.eq_of_testBit_eq
  intro i
  rw[Nat.testBit_xor,Nat.testBit_or,Nat.mul_one,Nat.testBit_two_pow]
  by_cases hi:63=i
  ·subst hi
   rw[Nat.testBit_lt_two_pow (show m<2^63 by omega)]
   rfl
  ·simp[hi]
theorem qtg(w:Nat)(h:w<18446744073709551616):unV P .neg (.float .f64 w)=some (.float .f64 (nw w)):=by
 rw[<-qyz w h];rfl
end
theorem Kg(n:Int):FloatKind.f64.nearest n<18446744073709551616:=by
 have e1:Ieee.double.signWeight=9223372036854775808:=by decide
 have e3:Ieee.double.infRung=9218868437227405312:=by decide
 have hw:∀(s:Bool) (r:Nat),r<=9218868437227405312->Ieee.double.word s r<18446744073709551616:=by
  intro s r hr
  unfold Ieee.Format.word
  rw[e1]
  split<;>omega
 have key:∀(s:Bool) (m:Nat) (p:Int),Ieee.double.nearest s m p<18446744073709551616:=by
  intro s m p
  unfold Ieee.Format.nearest
  split
  ·exact hw _ _ (by omega)
  ·rw[e3]
   exact hw _ _ (Nat.min_le_right _ _)
 exact key (decide (n<0)) n.natAbs 0
abbrev fl(w:Nat):AV:=.sc (.float .f64 w)
theorem JV(w:Nat):one (ZG Tryz.prog 142 [.float .f64 w])=some (.int .u64 (w:Int)):=by kernel_rfl
theorem qb5(n:Int):one (ZG Tryz.prog 169 [.int .u64 n])=some (.float .f64 n.toNat):=by kernel_rfl
theorem zff(x y:Operand):qr Tryz.prog .eql 4 x y (.bool true) (.bool true)=some (.bool true):=by kernel_rfl
theorem zfg(x y:Operand):qr Tryz.prog .eql 4 x y (.bool true) (.bool false)=some (.bool false):=by kernel_rfl
theorem zfh(x y:Operand):qr Tryz.prog .eql 4 x y (.bool false) (.bool true)=some (.bool false):=by kernel_rfl
theorem zfi(x y:Operand):qr Tryz.prog .eql 4 x y (.bool false) (.bool false)=some (.bool true):=by kernel_rfl
@[simp] theorem beq_bb (x y : Operand) (a b : Bool) : qr Tryz.prog .eql 4 x y (.bool a) (.bool b) = some (.bool (decide (a = b))) := by
 cases a<;>cases b
 ·exact zfi x y
 ·exact zfh x y
 ·exact zfg x y
 ·exact zff x y
theorem Yd(w:Nat)(hp:Hp):run cxX 143 [fl w] hp=some (.sc (.bool (decide (yn w))),hp):=by
 rw[E143]
 simp[je]
theorem xK(w:Nat)(h:w<18446744073709551616)(hp:Hp):run cxX 92 [fl w] hp=some (.sc (.int .u64 (kw w:Int)),hp):=by
 rw[E92]
 unfold kw
 by_cases hn:yn w
 ·simp[JV,Yd,hn,KZ]
 ·by_cases hl:w<9223372036854775808
  ·have e:=qg6 Tryz.prog 76 (Go.Operand.tmp 6) (Go.Operand.const (.int .u64 (Int.ofNat 9223372036854775808))) w hl
   have e':=YU Tryz.prog 76 (Go.Operand.tmp 12) (Go.Operand.const (.int .u64 (Int.ofNat 9223372036854775808))) w hl
   simp at e e'
   simp[JV,Yd,hn,hl,e,e',KZ]
  ·have e':=YV Tryz.prog 76 (Go.Operand.tmp 12) (Go.Operand.const (.int .u64 (Int.ofNat 9223372036854775808))) w (by omega) h
   have e:=VR Tryz.prog w h
   simp at e e'
   simp[JV,Yd,hn,hl,e,e',KZ]
theorem qud(k:Nat)(h:k<18446744073709551616)(hp:Hp):run cxX 155 [.sc (.int .u64 (k:Int))] hp=some (.tup [fl (wk k),.sc (.bool (qv3 k))],hp):=by
 have e4:∀hp,B155_4 (.int .u64 (k:Int)) (.int .u64 (wk k:Int)) hp=some (.tup [fl (wk k),.sc (.bool (qv3 k))],hp):=by
  intro hp
  rw[qr2]
  have hk:=fun hp=>xK (wk k) (VN k h) hp
  have hd:decide ((kw (wk k):Int)=(k:Int))=qv3 k:=by
   unfold qv3
   apply decide_eq_decide.mpr
   omega
  simp[qb5,hk,hd]
 rw[E155]
 have c:=qli Tryz.prog 76 (Go.Operand.tmp 6) (Go.Operand.const (.int .u64 (Int.ofNat 9223372036854775808))) k h
 have n:=VR Tryz.prog k h
 by_cases hl:k<9223372036854775808
 ·have e':=YU Tryz.prog 76 (Go.Operand.tmp 8) (Go.Operand.const (.int .u64 (Int.ofNat 9223372036854775808))) k hl
  have w:wk k=18446744073709551615-k:=by unfold wk;rw[if_pos hl]
  rw[w]at e4
  rw[<-w]at e4
  rw[<-w]at n
  simp at c n e'
  simp[c,n,e',e4]
 ·have e':=YV Tryz.prog 76 (Go.Operand.tmp 8) (Go.Operand.const (.int .u64 (Int.ofNat 9223372036854775808))) k (by omega) h
  have w:wk k=k%9223372036854775808:=by unfold wk;rw[if_neg hl];omega
  rw[<-w]at c
  simp at c e'
  simp[c,e',e4]
theorem Jf(a b:Nat)(ha:a<18446744073709551616)(hb:b<18446744073709551616)(hp:Hp):run cxX 123 [fl a,fl b] hp=some (.sc (.bool (decide (kw a<kw b))),hp):=by
 rw[E123]
 simp[xK a ha,xK b hb]
theorem vD(a b:Nat)(ha:a<18446744073709551616)(hb:b<18446744073709551616)(hp:Hp):run cxX 167 [fl a,fl b] hp=some (.sc (.bool (decide (kw a=kw b))),hp):=by
 rw[E167]
 simp[xK a ha,xK b hb]
 omega
def qgk(a b:Nat):Nat:=if kw b<kw a then b else a
def qgl(a b:Nat):Nat:=if kw a<kw b then b else a
theorem qnb{a b:Nat}(ha:a<18446744073709551616)(hb:b<18446744073709551616):qgk a b<18446744073709551616:=by unfold qgk;split<;>assumption
theorem qnc{a b:Nat}(ha:a<18446744073709551616)(hb:b<18446744073709551616):qgl a b<18446744073709551616:=by unfold qgl;split<;>assumption
theorem qul(a b:Nat)(ha:a<18446744073709551616)(hb:b<18446744073709551616)(hp:Hp):run cxX 170 [fl a,fl b] hp=some (fl (qgk a b),hp):=by
 rw[E170]
 unfold qgk
 by_cases h:kw b<kw a<;>simp[Jf b a hb ha,h]
theorem qum(a b:Nat)(ha:a<18446744073709551616)(hb:b<18446744073709551616)(hp:Hp):run cxX 171 [fl a,fl b] hp=some (fl (qgl a b),hp):=by
 rw[E171]
 unfold qgl
 by_cases h:kw a<kw b<;>simp[Jf a b ha hb,h]
theorem qzl(hp:Hp):run cxX 173 [] hp=some (fl 9221120237041090561,hp):=by
 rw[E173]
 simp[qb5]
theorem Jg(s:Int)(hp:Hp):run cxX 130 [.sc (.int .i64 s)] hp=some (fl (if 0<=s then 9218868437227405312 else 18442240474082181120),hp):=by
 rw[E130]
 by_cases h:0<=s<;>simp[h,qsg,qb5]
theorem Vu(hp:Hp):run cxX 174 [fl 0,fl 13826050856027422720] hp=some (fl 9223372036854775808,hp):=(E174 _ _ _).trans (by kernel_rfl)
theorem qcu(hp:Hp):run cxX 174 [fl 0,fl 4602678819172646912] hp=some (fl 0,hp):=(E174 _ _ _).trans (by kernel_rfl)
theorem zhf(x y:Operand):qr Tryz.prog .sub 50 x y (.float .f64 (FloatKind.f64.nearest 0)) (.float .f64 4602678819172646912)=some (.float .f64 13826050856027422720):=by kernel_rfl
theorem zhe(x y:Operand):qr Tryz.prog .sub 50 x y (.float .f64 (FloatKind.f64.nearest 1)) (.float .f64 4602678819172646912)=some (.float .f64 4602678819172646912):=by kernel_rfl
theorem qoq(n e:Int)(hn:0<=n/\n<18446744073709551616)(he:0<=e/\e<256):∃w,w<18446744073709551616/\∀hp,run cxX 133 [.sc (.int .u64 n),.sc (.int .u8 e)] hp=some (fl w,hp):=by
 have m8:∀x y,qr Tryz.prog .rem 5 x y (.int .u8 e) (.int .u8 8)=some (.int .u8 (e%8)):=by
  intro x y;rw[qW _ _ _ _ _ _ _ (by omega),qV he.1]
 have m2:∀x y,qr Tryz.prog .rem 76 x y (.int .u64 n) (.int .u64 2)=some (.int .u64 (n%2)):=by
  intro x y;rw[qW _ _ _ _ _ _ _ (by omega),qV hn.1]
 have m3:∀x y,qr Tryz.prog .rem 76 x y (.int .u64 n) (.int .u64 2001)=some (.int .u64 (n%2001)):=by
  intro x y;rw[qW _ _ _ _ _ _ _ (by omega),qV hn.1]
 have w2:IntKind.i64.wrap (n%2)=n%2:=qf (by omega) (by omega)
 have w3:IntKind.i64.wrap (n%2001)=n%2001:=qf (by omega) (by omega)
 have w4:IntKind.i64.wrap (n%2001-1000)=n%2001-1000:=qf (by omega) (by omega)
 have w5:IntKind.i64.wrap (2*(n%2))=2*(n%2):=qf (by omega) (by omega)
 have w5':IntKind.i64.wrap (n%2*2)=n%2*2:=qf (by omega) (by omega)
 have w6:IntKind.i64.wrap (n%2*2-1)=n%2*2-1:=qf (by omega) (by omega)
 have b10:∀hp,B133_10 (.int .u64 n) hp=some (fl (FloatKind.f64.nearest (n%2001-1000)),hp):=by
  intro hp
  rw[qly]
  simp[m3,qnf,w3,w4,zbv]
 have b11:∀hp,B133_11 (.int .u64 n) hp=some (fl n.toNat,hp):=by
  intro hp
  rw[qlx]
  simp[qb5]
 by_cases h0:e%8=0
 ·refine⟨9221120237041090561,by decide,fun hp=>?_⟩
  rw[qlr]
  simp[m8,h0,qzl]
 ·by_cases h1:e%8=1
  ·refine⟨if 0<=n%2*2-1 then 9218868437227405312 else 18442240474082181120,by split<;>decide,fun hp=>?_⟩
   rw[qlr]
   simp[m8,h1,m2,xS,w2,w5',w6,Jg]
  ·by_cases h2:e%8=2
   ·rcases Int.emod_two_eq n with q|q
    ·refine⟨9223372036854775808,by decide,fun hp=>?_⟩
     rw[qlr]
     simp[m8,h2,m2,q,qgt,zhf,Vu]
    ·refine⟨0,by decide,fun hp=>?_⟩
     rw[qlr]
     simp[m8,h2,m2,q,qgt,zhe,qcu]
   ·by_cases h3:e%8=3
    ·refine⟨_,Kg (n%2001-1000),fun hp=>?_⟩
     rw[qlr]
     simp[m8,h3,b10]
    ·by_cases h4:e%8=4
     ·refine⟨_,Kg (n%2001-1000),fun hp=>?_⟩
      rw[qlr]
      simp[m8,h4,b10]
     ·refine⟨n.toNat,by omega,fun hp=>?_⟩
      rw[qlr]
      simp[m8,h0,h1,h2,h3,h4,b11]
theorem zee{w:Nat}(h:w<18446744073709551616):yn (nw w)↔yn w:=by
 unfold yn nw
 split<;>omega
theorem qp2{w:Nat}(h:w<18446744073709551616)(hn:¬yn w):kw w<18444492273895866369:=by
 unfold kw
 rw[if_neg hn]
 unfold yn at hn
 split<;>omega
theorem zed{w:Nat}(hn:yn w):kw w=18444492273895866369:=by
 unfold kw
 rw[if_pos hn]
theorem qex(w:Nat)(h:w<18446744073709551616)(hn:¬yn w)(hp:Hp):run cxX 181 [fl w,.sc (.int .i64 (-1))] hp=some (.sc (.bool (decide (w=18442240474082181120))),hp):=by
 have e:=qtg Tryz.prog w h
 have c:YQ 9218868437227405311 (nw w)=decide (w=18442240474082181120):=by
  unfold YQ
  have v1:zQ 9218868437227405311=9218868437227405311:=by decide
  rw[v1]
  have hn':¬yn (nw w):=fun e=>hn ((zee h).mp e)
  have hn2:=hn
  unfold yn at hn2
  apply decide_eq_decide.mpr
  constructor
  ·rintro⟨_,_,h3⟩
   unfold zQ nw at h3
   repeat' split at h3
   all_goals omega
  ·intro h3
   subst h3
   exact⟨by decide,by decide,by decide⟩
 rw[E181]
 simp[e,qat,c]
theorem qew(w:Nat)(h:w<18446744073709551616)(hn:¬yn w)(hp:Hp):run cxX 181 [fl w,.sc (.int .i64 1)] hp=some (.sc (.bool (decide (w=9218868437227405312))),hp):=by
 have c:YQ 9218868437227405311 w=decide (w=9218868437227405312):=by
  unfold YQ
  have v1:zQ 9218868437227405311=9218868437227405311:=by decide
  rw[v1]
  have hn2:=hn
  unfold yn at hn2
  apply decide_eq_decide.mpr
  constructor
  ·rintro⟨_,_,h3⟩
   unfold zQ at h3
   split at h3<;>omega
  ·intro h3
   subst h3
   exact⟨by decide,by decide,by decide⟩
 rw[E181]
 simp[qat,c]
theorem qef(w:Nat)(h:w<18446744073709551616)(hp:Hp):run cxX 182 [fl w] hp=some (.sc (.bool (decide (9223372036854775808<=w))),hp):=by
 have c:decide (IntKind.i64.wrap (w:Int)<0)=decide (9223372036854775808<=w):=by
  apply decide_eq_decide.mpr
  rw[IntKind.wrap_i64]
  omega
 rw[E182]
 simp[JV,qnf]
 rw[IntKind.wrap_i64]
 omega
def wX(w:Nat):Int:=if yn w then 1 else if w=18442240474082181120 then 2 else if w=9218868437227405312 then 3 else if w=9223372036854775808 then 4 else if w=0 then 5 else 0
theorem qxa{w:Nat}(h:w<18446744073709551616)(hn:¬yn w):fEq w 0=decide (w=0\/w=9223372036854775808):=by
 unfold fEq
 have v3:zQ 0=0:=by decide
 rw[v3]
 apply decide_eq_decide.mpr
 constructor
 ·rintro⟨_,_,h3⟩
  unfold zQ at h3
  split at h3<;>omega
 ·intro h3
  rcases h3 with rfl|rfl
  ·exact⟨by decide,by decide,by decide⟩
  ·exact⟨by decide,by decide,by decide⟩
theorem qur(w:Nat)(h:w<18446744073709551616)(hp:Hp):run cxX 172 [fl w] hp=some (.sc (.int .u8 (wX w)),hp):=by
 rw[E172]
 unfold wX
 by_cases hn:yn w
 ·simp[je,hn]
 ·have i1:=fun hp=>qex w h hn hp
  have i2:=fun hp=>qew w h hn hp
  have z:=qxa h hn
  have s:=fun hp=>qef w h hp
  have b9:∀hp,B172_9 (.float .f64 w) hp=some (.sc (.int .u8 (if w=0\/w=9223372036854775808 then 5 else 0)),hp):=by
   intro hp
   rw[qrs]
   by_cases h0:w=0\/w=9223372036854775808<;>simp[z,h0]
  by_cases h1:w=18442240474082181120
  ·subst h1
   simp at i1
   simp[je,hn,i1]
  ·by_cases h2:w=9218868437227405312
   ·subst h2
    simp at i1 i2
    simp[je,hn,i1,i2]
   ·simp only[h1,h2,decide_false]at i1 i2
    by_cases h3:w=9223372036854775808
    ·subst h3
     simp at s z
     simp[je,hn,i1,i2,z,s,qrt]
    ·by_cases h4:w=0
     ·subst h4
      simp at s z b9
      simp[je,hn,i1,i2,z,s,b9]
     ·simp[h3,h4]at z b9
      simp[je,hn,i1,i2,z,b9,h1,h2,h3,h4]
def mk:List Nat->List Nat->List Nat
 |[],b=>b
 |a,[]=>a
 |x::a,y::b=>if y<x then y::mk (x::a) b else x::mk a (y::b)
termination_by a b=>a.length+b.length
@[simp] theorem qfw (b : List Nat) : mk [] b = b := by unfold mk; rfl
@[simp] theorem Kh (a : List Nat) : mk a [] = a := by cases a <;> (unfold mk; rfl)
theorem xN(x:Nat)(a:List Nat)(y:Nat)(b:List Nat):mk (x::a) (y::b)=if y<x then y::mk (x::a) b else x::mk a (y::b):=by
 rw[mk]
theorem qkh{motive:List Nat->List Nat->Prop}(h1:∀b,motive [] b)(h2:∀a,motive a [])(h3:∀x a y b,y<x->motive (x::a) b->motive (x::a) (y::b))
 (h4:∀x a y b,¬y<x->motive a (y::b)->motive (x::a) (y::b)):∀a b,motive a b:=by
 intro a b
 generalize hn:a.length+b.length=n
 induction n using Nat.strongRecOn generalizing a b with
 |_ n ih=>
  cases a with
  |nil=>exact h1 b
  |cons x a=>
   cases b with
   |nil=>exact h2 _
   |cons y b=>
    by_cases hyx:y<x
    ·exact h3 x a y b hyx (ih ((x::a).length+b.length) (by simp at hn⊢;omega) _ _ rfl)
    ·exact h4 x a y b hyx (ih (a.length+(y::b).length) (by simp at hn⊢;omega) _ _ rfl)
theorem Xk:∀a b,(mk a b).Perm (a++b):=by
 apply qkh (motive:=fun a b=>(mk a b).Perm (a++b))
 ·intro b;simp
 ·intro a;simp
 ·intro x a y b h ih
  rw[xN,if_pos h]
  exact(List.Perm.cons y ih).trans List.perm_middle.symm
 ·intro x a y b h ih
  rw[xN,if_neg h]
  exact List.Perm.cons x ih
abbrev Up(l:List Nat):Prop:=l.Pairwise (·<=·)
theorem qv8:∀a b,Up a->Up b->Up (mk a b):=by
 apply qkh (motive:=fun a b=>Up a->Up b->Up (mk a b))
 ·intro b _ h;simpa using h
 ·intro a h _;simpa using h
 ·intro x a y b h ih ha hb
  rw[xN,if_pos h]
  have hb':=List.pairwise_cons.mp hb
  have ha':=List.pairwise_cons.mp ha
  refine List.pairwise_cons.mpr ⟨fun n hn=>?_,ih ha hb'.2⟩
  rcases List.mem_append.mp ((Xk _ _).mem_iff.mp hn)with h'|h'
  ·rcases List.mem_cons.mp h' with rfl|h'
   ·omega
   ·have:=ha'.1 n h';omega
  ·exact hb'.1 n h'
 ·intro x a y b h ih ha hb
  rw[xN,if_neg h]
  have hb':=List.pairwise_cons.mp hb
  have ha':=List.pairwise_cons.mp ha
  refine List.pairwise_cons.mpr ⟨fun n hn=>?_,ih ha'.2 hb⟩
  rcases List.mem_append.mp ((Xk _ _).mem_iff.mp hn)with h'|h'
  ·exact ha'.1 n h'
  ·rcases List.mem_cons.mp h' with rfl|h'
   ·omega
   ·have:=hb'.1 n h';omega
theorem qiu:∀{a b:List Nat},Up a->Up b->a.Perm b->a=b
 |[],b,_,_,h=>(List.Perm.nil_eq h)
 |x::a,[],_,_,h=>absurd h.length_eq (by simp)
 |x::a,y::b,ha,hb,h=>by
  have ha':=List.pairwise_cons.mp ha
  have hb':=List.pairwise_cons.mp hb
  have hxy:x=y:=by
   have h1:=List.mem_cons.mp (h.mem_iff.mp (by simp:x∈x::a))
   have h2:=List.mem_cons.mp (h.mem_iff.mpr (by simp:y∈y::b))
   rcases h1 with h1|h1
   ·exact h1
   ·rcases h2 with h2|h2
    ·exact h2.symm
    ·have:=ha'.1 y h2
     have:=hb'.1 x h1
     omega
  subst hxy
  rw[qiu ha'.2 hb'.2 (List.Perm.cons_inv h)]
theorem qy7:∀(A B:List Nat) (k m n:Nat),k<=m->k<=n->(mk (A.take m) (B.take n)).take k=(mk A B).take k:=by
 apply qkh (motive:=fun A B=>∀(k m n:Nat),k<=m->k<=n->(mk (A.take m) (B.take n)).take k=(mk A B).take k)
 ·intro b k m n hm hn
  rw[List.take_nil,qfw,qfw,List.take_take,Nat.min_eq_left hn]
 ·intro a k m n hm hn
  rw[List.take_nil,Kh,Kh,List.take_take,Nat.min_eq_left hm]
 ·intro x a y b h ih k m n hm hn
  match k,m,n,hm,hn with
  |0,_,_,_,_=>simp
  |k+1,m+1,n+1,hm,hn=>
   have:=ih k (m+1) n (by omega) (by omega)
   rw[List.take_succ_cons]at this
   rw[List.take_succ_cons,List.take_succ_cons,xN,xN,if_pos h,if_pos h,List.take_succ_cons,List.take_succ_cons,this]
 ·intro x a y b h ih k m n hm hn
  match k,m,n,hm,hn with
  |0,_,_,_,_=>simp
  |k+1,m+1,n+1,hm,hn=>
   have:=ih k m (n+1) (by omega) (by omega)
   rw[List.take_succ_cons]at this
   rw[List.take_succ_cons,List.take_succ_cons,xN,xN,if_neg h,if_neg h,List.take_succ_cons,List.take_succ_cons,this]
def sk:List Nat->List Nat
 |[]=>[]
 |x::l=>mk [x] (sk l)
theorem VT:∀l,Up (sk l)
 |[]=>List.Pairwise.nil
 |x::l=>qv8 _ _ (by simp) (VT l)
theorem vX:∀l,(sk l).Perm l
 |[]=>List.Perm.refl _
 |x::l=>(Xk [x] (sk l)).trans (List.Perm.cons x (vX l))
theorem qn3(a b:List Nat):sk (a++b)=mk (sk a) (sk b):=
 qiu (VT _) (qv8 _ _ (VT a) (VT b)) ((vX _).trans (((vX a).symm.append (vX b).symm).trans (Xk _ _).symm))
theorem qi2{a b:List Nat}(h:a.Perm b):sk a=sk b:=qiu (VT _) (VT _) ((vX a).trans (h.trans (vX b).symm))
theorem zdo(l:List Nat):(sk l).length=l.length:=(vX l).length_eq
def gm:List Nat->List Nat->List Nat
 |[],b=>b
 |a,[]=>a
 |x::a,y::b=>if kw y<kw x then y::gm (x::a) b else x::gm a (y::b)
termination_by a b=>a.length+b.length
@[simp] theorem zha (b : List Nat) : gm [] b = b := by unfold gm; rfl
@[simp] theorem zg9 (a : List Nat) : gm a [] = a := by cases a <;> (unfold gm; rfl)
theorem qdp(x:Nat)(a:List Nat)(y:Nat)(b:List Nat):gm (x::a) (y::b)=if kw y<kw x then y::gm (x::a) b else x::gm a (y::b):=by
 rw[gm]
theorem qm6:∀(n:Nat) (a b:List Nat),a.length+b.length=n->(gm a b).map kw=mk (a.map kw) (b.map kw):=by
 intro n
 induction n using Nat.strongRecOn with
 |_ n ih=>
  intro a b hn
  match a,b with
  |[],b=>simp
  |x::a,[]=>simp
  |x::a,y::b=>
   rw[qdp,List.map_cons,List.map_cons,xN]
   by_cases h:kw y<kw x
   ·rw[if_pos h,if_pos h,List.map_cons,ih ((x::a).length+b.length) (by simp at hn⊢;omega) (x::a) b rfl,List.map_cons]
   ·rw[if_neg h,if_neg h,List.map_cons,ih (a.length+(y::b).length) (by simp at hn⊢;omega) a (y::b) rfl,List.map_cons]
theorem qwa(w:Nat):∀(n:Nat) (a b:List Nat),a.length+b.length=n->w∈gm a b->w∈a\/w∈b:=by
 intro n
 induction n using Nat.strongRecOn with
 |_ n ih=>
  intro a b hn hw
  match a,b with
  |[],b=>right;simpa using hw
  |x::a,[]=>left;simpa using hw
  |x::a,y::b=>
   rw[qdp]at hw
   by_cases h:kw y<kw x
   ·rw[if_pos h]at hw
    rcases List.mem_cons.mp hw with rfl|hw
    ·right;simp
    ·rcases ih ((x::a).length+b.length) (by simp at hn⊢;omega) (x::a) b rfl hw with h'|h'
     ·exact .inl h'
     ·exact .inr (List.mem_cons_of_mem _ h')
   ·rw[if_neg h]at hw
    rcases List.mem_cons.mp hw with rfl|hw
    ·left;simp
    ·rcases ih (a.length+(y::b).length) (by simp at hn⊢;omega) a (y::b) rfl hw with h'|h'
     ·exact .inl (List.mem_cons_of_mem _ h')
     ·exact .inr h'
def Zz:List Nat->Nat
 |[]=>18442240474082181120
 |f::F=>if yn f then Zz F else min (kw f) (Zz F)
def kE:List Nat->Nat
 |[]=>4503599627370495
 |f::F=>if yn f then kE F else max (kw f) (kE F)
theorem qmu:∀F,Zz F<=18442240474082181120
 |[]=>Nat.le_refl _
 |f::F=>by
  have:=qmu F
  unfold Zz
  split<;>omega
theorem qf7:∀F,4503599627370495<=kE F
 |[]=>Nat.le_refl _
 |f::F=>by
  have:=qf7 F
  unfold kE
  split<;>omega
theorem YO:∀a b,Zz (a++b)=min (Zz a) (Zz b)
 |[],b=>by have:=qmu b;simp only[List.nil_append,Zz];omega
 |f::a,b=>by
  have:=YO a b
  simp only[List.cons_append,Zz]
  split<;>omega
theorem Jv:∀a b,kE (a++b)=max (kE a) (kE b)
 |[],b=>by have:=qf7 b;simp only[List.nil_append,kE];omega
 |f::a,b=>by
  have:=Jv a b
  simp only[List.cons_append,kE]
  split<;>omega
theorem qpw{a b:List Nat}(h:a.Perm b):Zz a=Zz b:=by
 induction h with
 |nil=>rfl
 |cons x _ ih=>unfold Zz;rw[ih]
 |swap x y l=>simp only[Zz];repeat' split
              all_goals omega
 |trans _ _ h1 h2=>rw[h1,h2]
theorem qky{a b:List Nat}(h:a.Perm b):kE a=kE b:=by
 induction h with
 |nil=>rfl
 |cons x _ ih=>unfold kE;rw[ih]
 |swap x y l=>simp only[kE];repeat' split
              all_goals omega
 |trans _ _ h1 h2=>rw[h1,h2]
theorem qmz(a b:Nat):kw (qgk a b)=min (kw a) (kw b):=by unfold qgk;split<;>omega
theorem qm0(a b:Nat):kw (qgl a b)=max (kw a) (kw b):=by unfold qgl;split<;>omega
def LF(l:List Nat):List AV:=l.map fun n=>.sc (.float .f64 n)
section
variable (l:List Nat)
@[simp] theorem lenF : (LF l).length = l.length := by simp [LF]
@[simp] theorem getF? (i : Nat) : (LF l)[i]? = (l[i]?).map fun n => .sc (.float .f64 n) := by simp [LF]
@[simp] theorem getF (i : Nat) (h : i < (LF l).length) : (LF l)[i] = .sc (.float .f64 (l[i]'(by simpa using h))) := by simp [LF]
@[simp] theorem dropF (i : Nat) : (LF l).drop i = LF (l.drop i) := by simp [LF]
@[simp] theorem tailF : (LF l).tail = LF l.tail := by simp [LF]
@[simp] theorem nilF : LF [] = [] := rfl
theorem appF(n:Nat)(h:l.length<=1000000):zZ 8 1 (S 2 1 (LF l)) (S 1 1 [.sc (.float .f64 n)])=some (S 2 1 (LF (l++[n]))):=by
 rw[ZP 8 1 2 _ _ 1 (.inr rfl) (qgm _) (.inr (yo (by omega) (by simp;omega)))]
 simp[LF]
end
abbrev Ga(K M e0 e1 e2 e3 e4 e5:Int)(lo hi:Nat)(x:AV):AV:=
 .agg [.sc (.int .i64 K),.sc (.int .u32 M),.sc (.int .u32 e0),.sc (.int .u32 e1),.sc (.int .u32 e2),.sc (.int .u32 e3),.sc (.int .u32 e4),.sc (.int .u32 e5),fl lo,fl hi,x]
def jO(a b:Int):Int:=if a+b<4294967296 then a+b else 4294967295
theorem xm(a b:Int)(ha:0<=a/\a<4294967296)(hb:0<=b/\b<4294967296)(hp:Hp):run cxX 129 [.sc (.int .u32 a),.sc (.int .u32 b)] hp=some (.sc (.int .u32 (jO a b)),hp):=by
 rw[E129]
 unfold jO
 by_cases h:a+b<4294967296
 ·have w:IntKind.u32.wrap (a+b)=a+b:=qD (by omega) h
  have h1:decide (a+b>=a)=true:=by simp;omega
  simp only[Zj,xV,Option.bind_some,jH,Qy,jt,w,h,h1,cond_true,if_true]
 ·have w:IntKind.u32.wrap (a+b)=a+b-4294967296:=by rw[IntKind.wrap_u32];omega
  have h1:¬(a<=a+b-4294967296):=by omega
  simp[w,h,h1]
def Ws(l:List Nat):Prop:=∀w∈l,w<18446744073709551616
theorem qgf(K:Int)(q c1 c2 c3 c4 c5 c6 c7 c8 c9:AV)(b4 b2r:List AV)(hq:b4.length=11)(hp:Hp):∀(n:Nat) (a b acc:List Nat) (k k':Nat),a.length+b.length=n->acc.length+n<=1000000->Ws a->Ws b->
 B131_8 (S k 1 (LF a)) (S k' 1 (LF b)) (.sc (.int .i64 K)::b2r) b4 [q,c1,c2,c3,c4,c5,c6,c7,c8,c9,S 2 1 (LF acc)] hp=some (.agg [q,c1,c2,c3,c4,c5,c6,c7,c8,c9,S 2 1 (LF (acc++(gm a b).take (K.toNat-acc.length)))],hp):=by
 intro n
 induction n using Nat.strongRecOn with
 |_ n ih=>
 intro a b acc k k' hn hlen ha hb
 have ap:∀x:Nat,zZ 8 1 (S 2 1 (LF acc)) (S 1 1 [.sc (.float .f64 x)])=some (S 2 1 (LF (acc++[x]))):=fun x=>appF acc x (by omega)
 have fin:B131_12 b4 [q,c1,c2,c3,c4,c5,c6,c7,c8,c9,S 2 1 (LF acc)] hp=some (.agg [q,c1,c2,c3,c4,c5,c6,c7,c8,c9,S 2 1 (LF acc)],hp):=by
  rw[qlz]
  obtain⟨d0,d1,d2,d3,d4,d5,d6,d7,d8,d9,d10,rfl⟩:∃d0 d1 d2 d3 d4 d5 d6 d7 d8 d9 d10,b4=[d0,d1,d2,d3,d4,d5,d6,d7,d8,d9,d10]:=by
   match b4,hq with
   |[d0,d1,d2,d3,d4,d5,d6,d7,d8,d9,d10],_=>exact⟨d0,d1,d2,d3,d4,d5,d6,d7,d8,d9,d10,rfl⟩
  simp[ql,qh]
 rw[qsf]
 by_cases hK:(acc.length:Int)<K
 ·have hs:K.toNat-acc.length=(K.toNat-(acc.length+1))+1:=by omega
  have goA:∀(x:Nat) (r:List Nat),r.length+1+b.length<=n->Ws r->B131_10 (S k 1 (LF (x::r))) (S k' 1 (LF b)) (.sc (.int .i64 K)::b2r) b4 [q,c1,c2,c3,c4,c5,c6,c7,c8,c9,S 2 1 (LF acc)] hp=some (.agg [q,c1,c2,c3,c4,c5,c6,c7,c8,c9,S 2 1 (LF (acc++(x::gm r b).take (K.toNat-acc.length)))],hp):=by
   intro x r hle hr
   rw[ql1]
   have e:=vt (rk k) (LF (x::r)) .i64 1 (by omega) (by simp only[lenF,List.length_cons];omega)
   have i:=fun k=>ih (r.length+b.length) (by omega) r b (acc++[x]) k k' rfl (by simp only[List.length_append,List.length_cons,List.length_nil];omega) hr hb
   simp at i
   rw[hs,List.take_succ_cons]
   simp[qj,qe,ap,e,qh,i]
  have goB:∀(y:Nat) (r:List Nat),a.length+(r.length+1)<=n->Ws r->B131_11 (S k 1 (LF a)) (S k' 1 (LF (y::r))) (.sc (.int .i64 K)::b2r) b4 [q,c1,c2,c3,c4,c5,c6,c7,c8,c9,S 2 1 (LF acc)] hp=some (.agg [q,c1,c2,c3,c4,c5,c6,c7,c8,c9,S 2 1 (LF (acc++(y::gm a r).take (K.toNat-acc.length)))],hp):=by
   intro x r hle hr
   rw[ql0]
   have e:=vt (rk k') (LF (x::r)) .i64 1 (by omega) (by simp only[lenF,List.length_cons];omega)
   have i:=fun k'=>ih (a.length+r.length) (by omega) a r (acc++[x]) k k' rfl (by simp only[List.length_append,List.length_cons,List.length_nil];omega) ha hr
   simp at i
   rw[hs,List.take_succ_cons]
   simp[qj,qe,ap,e,qh,i]
  match a,b with
  |[],[]=>simp[qj,qe,hK,fin]
  |[],y::s=>
   have h:=goB y s (by simp at hn⊢;omega) (fun w hw=>hb w (by simp[hw]))
   simp at h
   have hw':IntKind.i64.wrap ((s.length:Int)+1)=(s.length:Int)+1:=qf (by omega) (by simp at hn;omega)
   have p:(0:Int)<(s.length:Int)+1:=by omega
   have z:¬((s.length:Int)+1=0):=by omega
   simp[qj,qe,hK,hw',p,z,QX,h]
  |x::r,[]=>
   have h:=goA x r (by simp at hn⊢;omega) (fun w hw=>ha w (by simp[hw]))
   simp at h
   have hw':IntKind.i64.wrap ((r.length:Int)+1)=(r.length:Int)+1:=qf (by omega) (by simp at hn;omega)
   have p:(0:Int)<(r.length:Int)+1:=by omega
   simp[qj,qe,hK,hw',p,QX,h]
  |x::r,y::s=>
   have h1:=goA x r (by simp at hn⊢;omega) (fun w hw=>ha w (by simp[hw]))
   have h2:=goB y s (by simp at hn⊢;omega) (fun w hw=>hb w (by simp[hw]))
   have hw':IntKind.i64.wrap ((r.length:Int)+1+((s.length:Int)+1))=(r.length:Int)+1+((s.length:Int)+1):=qf (by omega) (by simp at hn;omega)
   have p:(0:Int)<(r.length:Int)+1+((s.length:Int)+1):=by omega
   have p':(0:Int)<(r.length:Int)+1:=by omega
   have z:¬((s.length:Int)+1=0):=by omega
   have l:=fun hp=>Jf y x (hb y (by simp)) (ha x (by simp)) hp
   rw[qdp]
   by_cases hyx:kw y<kw x
   ·simp only[hyx,decide_true]at l
    simp[qj,qe,hK,hw',p,p',z,hyx,l,h2,QX]
   ·simp only[hyx,decide_false]at l
    simp[qj,qe,hK,hw',p,p',z,hyx,l,h1,QX]
 ·have hs:K.toNat-acc.length=0:=by omega
  simp[qj,qe,hK,fin,hs]
theorem zel:idx 6 (.int .i64 0)=some 0:=by kernel_rfl
theorem zek:idx 6 (.int .i64 1)=some 1:=by kernel_rfl
theorem zej:idx 6 (.int .i64 2)=some 2:=by kernel_rfl
theorem zei:idx 6 (.int .i64 3)=some 3:=by kernel_rfl
theorem zeh:idx 6 (.int .i64 4)=some 4:=by kernel_rfl
theorem zeg:idx 6 (.int .i64 5)=some 5:=by kernel_rfl
def za(n:Int):Prop:=0<=n/\n<4294967296
theorem qjm(K K' M M' e0 e1 e2 e3 e4 e5 f0 f1 f2 f3 f4 f5:Int)(lo hi lo' hi':Nat)(a b:List Nat)(k k':Nat)(hM:za M/\za M')(h0:za e0/\za f0)(h1:za e1/\za f1)(h2:za e2/\za f2)(h3:za e3/\za f3)
 (h4:za e4/\za f4) (h5:za e5/\za f5) (hlo:lo<18446744073709551616/\lo'<18446744073709551616) (hhi:hi<18446744073709551616/\hi'<18446744073709551616) (ha:Ws a) (hb:Ws b) (hlen:a.length+b.length<=1000000) (hp:Hp):
 run cxX 131 [Ga K M e0 e1 e2 e3 e4 e5 lo hi (S k 1 (LF a)),Ga K' M' f0 f1 f2 f3 f4 f5 lo' hi' (S k' 1 (LF b))] hp=
  some (Ga K (jO M M') (jO e0 f0) (jO e1 f1) (jO e2 f2) (jO e3 f3) (jO e4 f4) (jO e5 f5) (qgk lo lo') (qgl hi hi') (S 2 1 (LF ((gm a b).take K.toNat))),hp):=by
 have pM:=fun hp=>xm M M' hM.1 hM.2 hp
 have p0:=fun hp=>xm e0 f0 h0.1 h0.2 hp
 have p1:=fun hp=>xm e1 f1 h1.1 h1.2 hp
 have p2:=fun hp=>xm e2 f2 h2.1 h2.2 hp
 have p3:=fun hp=>xm e3 f3 h3.1 h3.2 hp
 have p4:=fun hp=>xm e4 f4 h4.1 h4.2 hp
 have p5:=fun hp=>xm e5 f5 h5.1 h5.2 hp
 have mn:=fun hp=>qul lo lo' hlo.1 hlo.2 hp
 have mx:=fun hp=>qum hi hi' hhi.1 hhi.2 hp
 have w2:IntKind.i64.wrap 2=2:=rfl
 have w3:IntKind.i64.wrap 3=3:=rfl
 have w4:IntKind.i64.wrap 4=4:=rfl
 have w5:IntKind.i64.wrap 5=5:=rfl
 have w6:IntKind.i64.wrap 6=6:=rfl
 have g:=fun(c1 c2 c3 c4 c5 c6 c7 c8 c9:AV) (b4 b2r:List AV) (hq:b4.length=11)=>qgf K (.sc (.int .i64 K)) c1 c2 c3 c4 c5 c6 c7 c8 c9 b4 b2r hq hp (a.length+b.length) a b [] (rk k) (rk k') rfl (by simpa using hlen) ha hb
 simp at g
 rw[E131]
 simp[qe,pM,mn,mx]
 rw[xe]
 simp[qe,zel,p0,qh]
 rw[xe]
 simp[qe,zek,p1,qh]
 rw[xe]
 simp[qe,zej,p2,qh,w2]
 rw[xe]
 simp[qe,zei,p3,qh,w3]
 rw[xe]
 simp[qe,zeh,p4,qh,w4]
 rw[xe]
 simp[qe,zeg,p5,qh,w5]
 rw[xe]
 simp[qj,w6]
 exact g _ _ _ _ _ _ _ _ _ _ _ rfl
structure Gs where
 M:Int
 e0:Int
 e1:Int
 e2:Int
 e3:Int
 e4:Int
 e5:Int
 lo:Nat
 hi:Nat
 L:List Nat
abbrev Gs.av(g:Gs)(K:Int)(k:Nat):AV:=Ga K g.M g.e0 g.e1 g.e2 g.e3 g.e4 g.e5 g.lo g.hi (S k 1 (LF g.L))
def gmg(K:Int)(g o:Gs):Gs:=⟨jO g.M o.M,jO g.e0 o.e0,jO g.e1 o.e1,jO g.e2 o.e2,jO g.e3 o.e3,jO g.e4 o.e4,jO g.e5 o.e5,qgk g.lo o.lo,qgl g.hi o.hi,(gm g.L o.L).take K.toNat⟩
def xF(w:Nat):Gs:=⟨1,if wX w=0 then 1 else 0,if wX w=1 then 1 else 0,if wX w=2 then 1 else 0,if wX w=3 then 1 else 0,if wX w=4 then 1 else 0,if wX w=5 then 1 else 0,
 if yn w then 9218868437227405312 else w,if yn w then 18442240474082181120 else w,[wk (kw w)]⟩
def gnew:Gs:=⟨0,0,0,0,0,0,0,9218868437227405312,18442240474082181120,[]⟩
def Xd(i:Int):List Nat->Nat
 |[]=>0
 |f::F=>(if wX f=i then 1 else 0)+Xd i F
theorem yz(i:Int):∀a b,Xd i (a++b)=Xd i a+Xd i b
 |[],b=>by simp[Xd]
 |f::a,b=>by simp only[List.cons_append,Xd,yz i a b];omega
theorem jD(i:Int):∀a,Xd i a<=a.length
 |[]=>Nat.le_refl _
 |f::a=>by have:=jD i a;simp only[Xd,List.length_cons];split<;>omega
theorem vO(i:Int){a b:List Nat}(h:a.Perm b):Xd i a=Xd i b:=by
 induction h with
 |nil=>rfl
 |cons x _ ih=>simp only[Xd,ih]
 |swap x y l=>simp only[Xd];omega
 |trans _ _ h1 h2=>rw[h1,h2]
theorem zbm(w:Nat):0<=wX w/\wX w<=5:=by
 unfold wX
 repeat' split
 all_goals omega
structure GR (K : Int) (F : List Nat) (g : Gs) : Prop where
 M:g.M=F.length
 e0:g.e0=Xd 0 F
 e1:g.e1=Xd 1 F
 e2:g.e2=Xd 2 F
 e3:g.e3=Xd 3 F
 e4:g.e4=Xd 4 F
 e5:g.e5=Xd 5 F
 lo:g.lo<18446744073709551616
 hi:g.hi<18446744073709551616
 klo:kw g.lo=Zz F
 khi:kw g.hi=kE F
 ws:Ws g.L
 keys:g.L.map kw=(sk (F.map kw)).take K.toNat
theorem GR.len{K:Int}{F:List Nat}{g:Gs}(h:GR K F g):g.L.length=min K.toNat F.length:=by
 have:=congrArg List.length h.keys
 rw[List.length_map,List.length_take,zdo,List.length_map]at this
 exact this
theorem kq{a b:Nat}(h:a+b<4294967296):jO (a:Int) (b:Int)=((a+b:Nat):Int):=by
 unfold jO
 rw[if_pos (by omega)]
 omega
theorem GR.merge{K:Int}{F H:List Nat}{g o:Gs}(hg:GR K F g)(ho:GR K H o)(hl:F.length+H.length<=1000):GR K (F++H) (gmg K g o) where
 M:=by simp only[gmg];rw[hg.M,ho.M,kq (by omega),List.length_append]
 e0:=by have:=jD 0 F;have:=jD 0 H;simp only[gmg];rw[hg.e0,ho.e0,kq (by omega),yz]
 e1:=by have:=jD 1 F;have:=jD 1 H;simp only[gmg];rw[hg.e1,ho.e1,kq (by omega),yz]
 e2:=by have:=jD 2 F;have:=jD 2 H;simp only[gmg];rw[hg.e2,ho.e2,kq (by omega),yz]
 e3:=by have:=jD 3 F;have:=jD 3 H;simp only[gmg];rw[hg.e3,ho.e3,kq (by omega),yz]
 e4:=by have:=jD 4 F;have:=jD 4 H;simp only[gmg];rw[hg.e4,ho.e4,kq (by omega),yz]
 e5:=by have:=jD 5 F;have:=jD 5 H;simp only[gmg];rw[hg.e5,ho.e5,kq (by omega),yz]
 lo:=qnb hg.lo ho.lo
 hi:=qnc hg.hi ho.hi
 klo:=by simp only[gmg];rw[qmz,hg.klo,ho.klo,YO]
 khi:=by simp only[gmg];rw[qm0,hg.khi,ho.khi,Jv]
 ws:=fun w hw=>(qwa w _ _ _ rfl (List.mem_of_mem_take hw)).elim (hg.ws w) (ho.ws w)
 keys:=by
  simp only[gmg]
  rw[List.map_take,qm6 _ _ _ rfl,hg.keys,ho.keys,qy7 _ _ _ _ _ (Nat.le_refl _) (Nat.le_refl _),List.map_append,qn3]
theorem zbd(K:Int):GR K [] gnew:=⟨rfl,rfl,rfl,rfl,rfl,rfl,rfl,by decide,by decide,by decide,by decide,by simp[gnew,Ws],by simp[gnew,sk]⟩
theorem qm4{K:Int}(hK:1<=K){w:Nat}(hw:w<18446744073709551616):GR K [w] (xF w) where
 M:=rfl
 e0:=by simp only[xF,Xd];split<;>rfl
 e1:=by simp only[xF,Xd];split<;>rfl
 e2:=by simp only[xF,Xd];split<;>rfl
 e3:=by simp only[xF,Xd];split<;>rfl
 e4:=by simp only[xF,Xd];split<;>rfl
 e5:=by simp only[xF,Xd];split<;>rfl
 lo:=by simp only[xF];split<;>omega
 hi:=by simp only[xF];split<;>omega
 klo:=by
  simp only[xF,Zz]
  have h0:kw 9218868437227405312=18442240474082181120:=by decide
  by_cases hn:yn w
  ·rw[if_pos hn,if_pos hn,h0]
  ·rw[if_neg hn,if_neg hn]
   have hn2:=hn
   unfold yn at hn2
   unfold kw
   rw[if_neg hn]
   split<;>omega
 khi:=by
  simp only[xF,kE]
  have h0:kw 18442240474082181120=4503599627370495:=by decide
  by_cases hn:yn w
  ·rw[if_pos hn,if_pos hn,h0]
  ·rw[if_neg hn,if_neg hn]
   have hn2:=hn
   unfold yn at hn2
   unfold kw
   rw[if_neg hn]
   split<;>omega
 ws:=by simp only[xF,Ws,List.mem_singleton];rintro x rfl;exact VN _ (vG w hw)
 keys:=by
  have hk:K.toNat=(K.toNat-1)+1:=by omega
  simp only[xF,List.map_cons,List.map_nil,sk,Kh]
  rw[qf3 w hw,hk,List.take_succ_cons,List.take_nil]
theorem GR.in32{K:Int}{F:List Nat}{g:Gs}(h:GR K F g)(hl:F.length<=1000):za g.M/\za g.e0/\za g.e1/\za g.e2/\za g.e3/\za g.e4/\za g.e5:=by
 have a0:=jD 0 F
 have a1:=jD 1 F
 have a2:=jD 2 F
 have a3:=jD 3 F
 have a4:=jD 4 F
 have a5:=jD 5 F
 rw[h.M,h.e0,h.e1,h.e2,h.e3,h.e4,h.e5]
 unfold za
 refine⟨?_,?_,?_,?_,?_,?_,?_⟩<;>omega
theorem zds(K K':Int){F H:List Nat}{g o:Gs}(k k':Nat)(hg:GR K F g)(ho:GR K' H o)(hl:F.length+H.length<=1000)(hp:Hp):
 run cxX 131 [g.av K k,o.av K' k'] hp=some ((gmg K g o).av K 2,hp):=by
 obtain⟨m,x0,x1,x2,x3,x4,x5⟩:=hg.in32 (by omega)
 obtain⟨m',y0,y1,y2,y3,y4,y5⟩:=ho.in32 (by omega)
 have l1:=hg.len
 have l2:=ho.len
 exact qjm K K' g.M o.M g.e0 g.e1 g.e2 g.e3 g.e4 g.e5 o.e0 o.e1 o.e2 o.e3 o.e4 o.e5 g.lo g.hi o.lo o.hi g.L o.L k k' ⟨m,m'⟩ ⟨x0,y0⟩ ⟨x1,y1⟩ ⟨x2,y2⟩ ⟨x3,y3⟩ ⟨x4,y4⟩ ⟨x5,y5⟩ ⟨hg.lo,ho.lo⟩ ⟨hg.hi,ho.hi⟩ hg.ws ho.ws (by omega) hp
theorem qzk(K:Int)(w:Nat)(hw:w<18446744073709551616)(hp:Hp):run cxX 132 [.sc (.int .i64 K),fl w] hp=some ((xF w).av K 1,hp):=by
 have i1:=fun hp=>Jg 1 hp
 have i2:=fun hp=>Jg (-1) hp
 have ed:=fun hp=>qur w hw hp
 have k:=fun hp=>xK w hw hp
 have o:=fun hp=>qud (kw w) (vG w hw) hp
 simp at i1 i2
 have b5:∀(x0 x1 x2 x3 x4 x5 x6 x7 x8 x9 x10:AV) (q0 q1 q2 q3 q4 q5 q6 q7 q8 q9 q10:AV) (hp:Hp),B132_5 (.float .f64 w) [q0,q1,q2,q3,q4,q5,q6,q7,q8,q9,q10] [x0,x1,x2,x3,x4,x5,x6,x7,x8,x9,x10] hp=some (.agg [x0,x1,x2,x3,x4,x5,x6,x7,x8,x9,S 1 1 [fl (wk (kw w))]],hp):=by
  intros
  rw[qse]
  simp[k,o,qh,ql]
 rw[E132]
 have he:=zbm w
 have hc:wX w=0\/wX w=1\/wX w=2\/wX w=3\/wX w=4\/wX w=5:=by omega
 have u0:idx 6 (.int .u8 0)=some 0:=by kernel_rfl
 have u1:idx 6 (.int .u8 1)=some 1:=by kernel_rfl
 have u2:idx 6 (.int .u8 2)=some 2:=by kernel_rfl
 have u3:idx 6 (.int .u8 3)=some 3:=by kernel_rfl
 have u4:idx 6 (.int .u8 4)=some 4:=by kernel_rfl
 have u5:idx 6 (.int .u8 5)=some 5:=by kernel_rfl
 unfold xF
 by_cases hn:yn w
 ·rcases hc with e|e|e|e|e|e<;>rw[e]at ed<;>simp[i1,i2,ed,u0,u1,u2,u3,u4,u5,qh,je,hn,b5,e,LF]
 ·rcases hc with e|e|e|e|e|e<;>rw[e]at ed<;>simp[i1,i2,ed,u0,u1,u2,u3,u4,u5,qh,je,hn,b5,e,LF]
theorem qui(K:Int)(hK:1<=K/\K<=16)(hp:Hp):run cxX 77 [.sc (.int .i64 K)] hp=some (.tup [gnew.av K 2,.sc (.bool true)],hp):=by
 have i1:=fun hp=>Jg 1 hp
 have i2:=fun hp=>Jg (-1) hp
 simp at i1 i2
 have h1:¬(K<1):=by omega
 have h2:¬(16<K):=by omega
 rw[E77]
 simp[h1,h2]
 rw[qye]
 simp[i1,i2,qh,ql,gnew]
theorem quj(K:Int){F:List Nat}{g:Gs}(k w:Nat)(hK:1<=K)(hg:GR K F g)(hl:F.length+1<=1000)(hw:w<18446744073709551616)(hp:Hp):
 run cxX 78 [g.av K k,fl w] hp=some ((gmg K g (xF w)).av K 2,hp):=by
 have o:=fun hp=>qzk K w hw hp
 have m:=fun k k' hp=>zds K K k k' hg (qm4 hK hw) (by simpa using hl) hp
 rw[E78]
 simp[ql,qe,o,m,qh]
theorem zhj(d:Nat)(a b:Int):zb Tryz.prog (Op.equalIn (d+1) 30 (.int .u32 a) (.int .u32 b))=some (a==b):=by
 unfold Op.equalIn
 rw[qO]
 have:zb Tryz.prog (underlying 30)=some (.int .u32):=by kernel_rfl
 rw[this]
 rfl
theorem zhk(e0 e1 e2 e3 e4 e5 f0 f1 f2 f3 f4 f5:Int):zb Tryz.prog (Op.equal 49 (.agg #[.int .u32 e0,.int .u32 e1,.int .u32 e2,.int .u32 e3,.int .u32 e4,.int .u32 e5]) (.agg #[.int .u32 f0,.int .u32 f1,.int .u32 f2,.int .u32 f3,.int .u32 f4,.int .u32 f5]))=
 some (decide (e0=f0/\e1=f1/\e2=f2/\e3=f3/\e4=f4/\e5=f5)):=by
 unfold Op.equal Op.maxDepth
 unfold Op.equalIn
 rw[qO]
 have:zb Tryz.prog (underlying 49)=some (.array 6 30):=by kernel_rfl
 rw[this]
 simp only[Zj,Option.bind_some]
 rw[qO]
 have hs:zb Tryz.prog (sizeOf 30)=some 1:=by kernel_rfl
 rw[hs]
 simp only[Zj,Option.bind_some]
 have hp:∀(x0 x1 x2 x3 x4 x5:Value),zb Tryz.prog (part 30 #[x0,x1,x2,x3,x4,x5] 0)=some x0/\zb Tryz.prog (part 30 #[x0,x1,x2,x3,x4,x5] 1)=some x1/\zb Tryz.prog (part 30 #[x0,x1,x2,x3,x4,x5] 2)=some x2/\
  zb Tryz.prog (part 30 #[x0,x1,x2,x3,x4,x5] 3)=some x3/\zb Tryz.prog (part 30 #[x0,x1,x2,x3,x4,x5] 4)=some x4/\zb Tryz.prog (part 30 #[x0,x1,x2,x3,x4,x5] 5)=some x5:=by
  intro x0 x1 x2 x3 x4 x5
  refine⟨?_,?_,?_,?_,?_,?_⟩<;>kernel_rfl
 have he:=zhj 9998
 obtain⟨a0,a1,a2,a3,a4,a5⟩:=hp (.int .u32 e0) (.int .u32 e1) (.int .u32 e2) (.int .u32 e3) (.int .u32 e4) (.int .u32 e5)
 obtain⟨b0,b1,b2,b3,b4,b5⟩:=hp (.int .u32 f0) (.int .u32 f1) (.int .u32 f2) (.int .u32 f3) (.int .u32 f4) (.int .u32 f5)
 rw[Std.Legacy.Range.forIn_eq_forIn_range']
 simp[Std.Legacy.Range.size,List.range'_succ,qO,a0,b0,he]
 by_cases h0:e0=f0
 ·subst h0
  simp[qO,a1,b1,he]
  by_cases h1:e1=f1
  ·subst h1
   simp[qO,a2,b2,he]
   by_cases h2:e2=f2
   ·subst h2
    simp[qO,a3,b3,he]
    by_cases h3:e3=f3
    ·subst h3
     simp[qO,a4,b4,he]
     by_cases h4:e4=f4
     ·subst h4
      simp[qO,a5,b5,he]
      by_cases h5:e5=f5
      ·subst h5
       simp[qO]
      ·simp[h5,qO]
     ·simp[h4,qO]
    ·simp[h3,qO]
   ·simp[h2,qO]
  ·simp[h1,qO]
 ·simp[h0,qO]
theorem zcs(x y:Operand)(e0 e1 e2 e3 e4 e5 f0 f1 f2 f3 f4 f5:Int):qr Tryz.prog .neq 49 x y (.agg #[.int .u32 e0,.int .u32 e1,.int .u32 e2,.int .u32 e3,.int .u32 e4,.int .u32 e5]) (.agg #[.int .u32 f0,.int .u32 f1,.int .u32 f2,.int .u32 f3,.int .u32 f4,.int .u32 f5])=
 some (.bool (!decide (e0=f0/\e1=f1/\e2=f2/\e3=f3/\e4=f4/\e5=f5))):=by
 unfold qr
 rw[qO]
 have hg:zb Tryz.prog (eqGuard .neq 49 x y (.agg #[.int .u32 e0,.int .u32 e1,.int .u32 e2,.int .u32 e3,.int .u32 e4,.int .u32 e5]) (.agg #[.int .u32 f0,.int .u32 f1,.int .u32 f2,.int .u32 f3,.int .u32 f4,.int .u32 f5]))=some ():=by kernel_rfl
 rw[hg]
 simp only[Zj,Option.bind_some,Go.binOp]
 rw[qO,zhk]
 rfl
theorem Ko(r0 r1 r2 r3 r4 r5 r6 r7 r8 r9 s0 s1 s2 s3 s4 s5 s6 s7 s8 s9:AV)(a b:List Nat)(k k':Nat)(hab:a.length=b.length)(hl:a.length<=1000000)(ha:Ws a)(hb:Ws b)(hp:Hp):∀(r s:List Nat) (i:Nat),a.drop i=r->b.drop i=s->
 B121_4 (.int .i64 a.length) (.int .i64 i) [r0,r1,r2,r3,r4,r5,r6,r7,r8,r9,S k 1 (LF a)] [s0,s1,s2,s3,s4,s5,s6,s7,s8,s9,S k' 1 (LF b)] hp=some (.sc (.bool (decide (r.map kw=s.map kw))),hp):=by
 intro r
 induction r with
 |nil=>
  intro s i hr hs
  have h1:=qB hr
  have h2:s=[]:=by rw[<-hs];exact List.drop_eq_nil_of_le (by omega)
  have hlt:¬((i:Int)<(a.length:Int)):=by omega
  rw[qbs]
  simp[hlt,h2]
 |cons x r ih=>
  intro s i hr hs
  obtain⟨e1,e2,hi,e3⟩:=qm hr
  rw[qbs]
  have hw:IntKind.i64.wrap ((i:Int)+1)=((i+1:Nat):Int):=by rw[qf]<;>omega
  cases s with
  |nil=>have:=qB hs;omega
  |cons y s=>
   obtain⟨f1,f2,hj,f3⟩:=qm hs
   have h:=ih s (i+1) e2 f2
   have q:=fun hp=>vD x y (ha x (List.mem_of_getElem? e1)) (hb y (List.mem_of_getElem? f1)) hp
   simp at h hw
   by_cases e:kw x=kw y
   ·simp only[e,decide_true]at q
    simp[hi,hj,qj,qe,e3,f3,e,hw,h,q]
   ·simp only[e,decide_false]at q
    simp[hi,hj,qj,qe,e3,f3,e,q]
def qhl(K K':Int)(g o:Gs):Prop:=K=K'/\g.M=o.M/\(g.e0=o.e0/\g.e1=o.e1/\g.e2=o.e2/\g.e3=o.e3/\g.e4=o.e4/\g.e5=o.e5)/\kw g.lo=kw o.lo/\kw g.hi=kw o.hi/\g.L.map kw=o.L.map kw
theorem qol(K K':Int)(g o:Gs)(k k':Nat)(hs:qhl K K' g o)(h1:g.lo<18446744073709551616/\o.lo<18446744073709551616)(h2:g.hi<18446744073709551616/\o.hi<18446744073709551616)(h3:Ws g.L/\Ws o.L)(hl:g.L.length<=1000000)(hp:Hp):
 run cxX 121 [g.av K k,o.av K' k'] hp=some (.sc (.bool true),hp):=by
 obtain⟨q1,q2,q3,q4,q5,q6⟩:=hs
 have len:g.L.length=o.L.length:=by simpa using congrArg List.length q6
 have l:=Ko (.sc (.int .i64 K)) (.sc (.int .u32 g.M)) (.sc (.int .u32 g.e0)) (.sc (.int .u32 g.e1)) (.sc (.int .u32 g.e2)) (.sc (.int .u32 g.e3)) (.sc (.int .u32 g.e4)) (.sc (.int .u32 g.e5)) (fl g.lo) (fl g.hi)
  (.sc (.int .i64 K')) (.sc (.int .u32 o.M)) (.sc (.int .u32 o.e0)) (.sc (.int .u32 o.e1)) (.sc (.int .u32 o.e2)) (.sc (.int .u32 o.e3)) (.sc (.int .u32 o.e4)) (.sc (.int .u32 o.e5)) (fl o.lo) (fl o.hi) g.L o.L (rk k) (rk k') len hl h3.1 h3.2 hp g.L o.L 0 rfl rfl
 have r1:=fun hp=>vD g.lo o.lo h1.1 h1.2 hp
 have r2:=fun hp=>vD g.hi o.hi h2.1 h2.2 hp
 have a:=zcs (.tmp 20) (.tmp 22) g.e0 g.e1 g.e2 g.e3 g.e4 g.e5 o.e0 o.e1 o.e2 o.e3 o.e4 o.e5
 simp only[eq_true q3,eq_true q4,eq_true q5,eq_true q6,decide_true,Bool.not_true]at a r1 r2 l
 subst q1
 rw[E121]
 simp at l
 rw[len]at l
 rw[q2]at l
 simp[qe,qj,ql,yE,vq,q2,a,r1,r2,len,qbt]
 exact l
open Classical in
noncomputable def wd(p:Int×Int):Nat:=if h:∃w,w<18446744073709551616/\∀hp,run cxX 133 [.sc (.int .u64 p.1),.sc (.int .u8 p.2)] hp=some (fl w,hp)then h.choose else 0
def InI(p:Int×Int):Prop:=(0<=p.1/\p.1<18446744073709551616)/\(0<=p.2/\p.2<256)
theorem qtd{p:Int×Int}(h:InI p):wd p<18446744073709551616/\∀hp,run cxX 133 [.sc (.int .u64 p.1),.sc (.int .u8 p.2)] hp=some (fl (wd p),hp):=by
 have he:=qoq p.1 p.2 h.1 h.2
 unfold wd
 rw[dif_pos he]
 exact he.choose_spec
theorem quf(p:Int×Int)(h:InI p)(hp:Hp):run cxX 79 [.agg [.sc (.int .u64 p.1),.sc (.int .u8 p.2)]] hp=some (fl (wd p),hp):=by
 rw[E79]
 simp[qe,(qtd h).2]
def LP:List (Int×Int)->List AV
 |[]=>[]
 |p::l=>.sc (.int .u64 p.1)::.sc (.int .u8 p.2)::LP l
theorem qf2:∀l,(LP l).length=2*l.length
 |[]=>rfl
 |p::l=>by simp only[LP,List.length_cons,qf2 l];omega
theorem zc1:∀(i:Nat) (l:List (Int×Int)),(LP l).drop (i*2)=LP (l.drop i)
 |0,l=>by simp
 |i+1,[]=>by simp[LP]
 |i+1,p::l=>by
  have h:(i+1)*2=i*2+1+1:=by omega
  rw[h,LP,List.drop_succ_cons,List.drop_succ_cons,zc1 i l,List.drop_succ_cons]
theorem qwh(k:Nat)(l:List (Int×Int)):yH (S k 2 (LP l))=some l.length:=by
 have h:(if(2:Nat)=1 then(LP l).length else(LP l).length/2)=l.length:=by rw[if_neg (by omega),qf2];omega
 rcases jk k 2 (LP l)with e|e|⟨e,e'⟩
 ·rw[e];simp only[yH,h]
 ·rw[e];simp only[yH,h]
 ·rw[e]
  have:l.length=0:=by have:=qf2 l;rw[e']at this;simp at this;omega
  rw[this];rfl
theorem zef(k:Nat){l:List (Int×Int)}{i:Nat}{p:Int×Int}(h:l[i]?=some p):yw 2 (S k 2 (LP l)) (.int .i64 (i:Int))=some [.sc (.int .u64 p.1),.sc (.int .u8 p.2)]:=by
 obtain⟨hi,hp⟩:=List.getElem?_eq_some_iff.mp h
 have hl:(if(2:Nat)=1 then(LP l).length else(LP l).length/2)=l.length:=by rw[if_neg (by omega),qf2];omega
 have hx:idx l.length (.int .i64 (i:Int))=some i:=by
  have hc:(0:Int)<=(i:Int)/\(i:Int)<(l.length:Int):=⟨by omega,by omega⟩
  simp only[Zj,idx,YW,Option.bind_some,hc,and_self,if_true,Int.toNat_natCast]
 have hg:ql (LP l) (i*2) 2=some [.sc (.int .u64 p.1),.sc (.int .u8 p.2)]:=by
  unfold ql
  rw[if_pos (by rw[qf2];omega),zc1,List.drop_eq_getElem_cons hi,hp]
  rfl
 rcases jk k 2 (LP l)with e|e|⟨e,e'⟩
 ·rw[e];simp only[Zj,yw,if_true,hl,hx,Option.bind_some,hg]
 ·rw[e];simp only[Zj,yw,if_true,hl,hx,Option.bind_some,hg]
 ·exfalso
  have:=qf2 l
  rw[e']at this
  simp at this
  omega
def Qs(K:Int)(g:Gs):List Nat->Gs
 |[]=>g
 |w::r=>Qs K (gmg K g (xF w)) r
theorem qk3(K:Int)(k:Nat)(l:List (Int×Int))(z0 z1 z2 z3 z4 z5 z6 z7 z8 z9 z10:AV)(hK:1<=K)(hl:l.length<=900)(hI:∀p∈l,InI p)(hp:Hp):∀(r:List (Int×Int)) (i:Nat) (F:List Nat) (g:Gs),l.drop i=r->F.length=i->GR K F g->
 B31_3 (S k 2 (LP l)) (.int .i64 l.length) (.int .i64 i) [z0,z1,z2,z3,z4,z5,z6,z7,z8,z9,z10] [.sc (.int .i64 K),.sc (.int .u32 g.M),.sc (.int .u32 g.e0),.sc (.int .u32 g.e1),.sc (.int .u32 g.e2),.sc (.int .u32 g.e3),.sc (.int .u32 g.e4),.sc (.int .u32 g.e5),fl g.lo,fl g.hi,S 2 1 (LF g.L)] hp=
  some ((Qs K g (r.map wd)).av K 2,hp):=by
 intro r
 induction r with
 |nil=>
  intro i F g hr hF hg
  have:=qB hr
  have hlt:¬((i:Int)<(l.length:Int)):=by omega
  rw[qij]
  simp[hlt,ql,qh,Qs]
 |cons p r ih=>
  intro i F g hr hF hg
  obtain⟨e1,e2,hi,e3⟩:=qm hr
  have hpI:=hI p (List.mem_of_getElem? e1)
  have hw:=(qtd hpI).1
  have ix:=zef k e1
  have it:=fun hp=>quf p hpI hp
  have ad:=fun k hp=>quj K k (wd p) hK hg (by omega) hw hp
  have h:=ih (i+1) (F++[wd p]) (gmg K g (xF (wd p))) e2 (by simp[hF]) (hg.merge (qm4 hK hw) (by simp;omega))
  have hwi:IntKind.i64.wrap ((i:Int)+1)=((i+1:Nat):Int):=by rw[qf]<;>omega
  rw[qij]
  simp at h hwi
  simp[hi,ix,ql,qh,it,ad,hwi,h,Qs]
theorem qom(c:Int)(k:Nat)(l:List (Int×Int))(hc:0<=c/\c<256)(hl:l.length<=900)(hI:∀p∈l,InI p)(hp:Hp):
 run cxX 31 [.sc (.int .u8 c),S k 2 (LP l)] hp=some ((Qs (1+c%16) gnew (l.map wd)).av (1+c%16) 2,hp):=by
 have m:∀x y,qr Tryz.prog .rem 5 x y (.int .u8 c) (.int .u8 16)=some (.int .u8 (c%16)):=by
  intro x y;rw[qW _ _ _ _ _ _ _ (by omega),qV hc.1]
 have w1:IntKind.i64.wrap (c%16)=c%16:=qf (by omega) (by omega)
 have w2:IntKind.i64.wrap (1+c%16)=1+c%16:=qf (by omega) (by omega)
 have cv:∀n:Int,JU Tryz.prog 5 3 (.int .u8 n)=some (.int .i64 (IntKind.i64.wrap n)):=fun n=>by kernel_rfl
 have nw:=fun hp=>qui (1+c%16) (by omega) hp
 have lp:=fun z0 z1 z2 z3 z4 z5 z6 z7 z8 z9 z10=>qk3 (1+c%16) (rk k) l z0 z1 z2 z3 z4 z5 z6 z7 z8 z9 z10 (by omega) hl hI hp l 0 [] gnew rfl rfl (zbd _)
 simp at lp
 rw[E31]
 simp[m,cv,w1,w2,nw,qh,qwh]
 exact lp _ _ _ _ _ _ _ _ _ _ _
theorem GR.same{K:Int}{F H:List Nat}{g o:Gs}(hg:GR K F g)(ho:GR K H o)(h:F.Perm H):qhl K K g o:=by
 refine⟨rfl,?_,⟨?_,?_,?_,?_,?_,?_⟩,?_,?_,?_⟩
 ·rw[hg.M,ho.M,h.length_eq]
 ·rw[hg.e0,ho.e0,vO 0 h]
 ·rw[hg.e1,ho.e1,vO 1 h]
 ·rw[hg.e2,ho.e2,vO 2 h]
 ·rw[hg.e3,ho.e3,vO 3 h]
 ·rw[hg.e4,ho.e4,vO 4 h]
 ·rw[hg.e5,ho.e5,vO 5 h]
 ·rw[hg.klo,ho.klo,qpw h]
 ·rw[hg.khi,ho.khi,qky h]
 ·rw[hg.keys,ho.keys,qi2 (h.map kw)]
theorem zcg{l:List (Int×Int)}(h:∀p∈l,InI p):Ws (l.map wd):=by
 intro w hw
 obtain⟨p,hp,rfl⟩:=List.mem_map.mp hw
 exact(qtd (h p hp)).1
def LQ(K K':IntKind):List (Int×Int)->List AV
 |[]=>[]
 |p::l=>.sc (.int K p.1)::.sc (.int K' p.2)::LQ K K' l
section
variable (K K':IntKind)
theorem qkp:∀l,(LQ K K' l).length=2*l.length
 |[]=>rfl
 |p::l=>by simp only[LQ,List.length_cons,qkp l];omega
theorem zc0:∀(i:Nat) (l:List (Int×Int)),(LQ K K' l).drop (i*2)=LQ K K' (l.drop i)
 |0,l=>by simp
 |i+1,[]=>by simp[LQ]
 |i+1,p::l=>by
  have h:(i+1)*2=i*2+1+1:=by omega
  rw[h,LQ,List.drop_succ_cons,List.drop_succ_cons,zc0 i l,List.drop_succ_cons]
theorem appQ:∀a b,LQ K K' (a++b)=LQ K K' a++LQ K K' b
 |[],b=>rfl
 |p::a,b=>by simp only[List.cons_append,LQ,appQ a b]
theorem zec(k:Nat)(l:List (Int×Int)):yH (S k 2 (LQ K K' l))=some l.length:=by
 have h:(if(2:Nat)=1 then(LQ K K' l).length else(LQ K K' l).length/2)=l.length:=by rw[if_neg (by omega),qkp];omega
 rcases jk k 2 (LQ K K' l)with e|e|⟨e,e'⟩
 ·rw[e];simp only[yH,h]
 ·rw[e];simp only[yH,h]
 ·rw[e]
  have:l.length=0:=by have:=qkp K K' l;rw[e']at this;simp at this;omega
  rw[this];rfl
theorem qwr(k:Nat){l:List (Int×Int)}{i:Nat}{p:Int×Int}(h:l[i]?=some p):yw 2 (S k 2 (LQ K K' l)) (.int .i64 (i:Int))=some [.sc (.int K p.1),.sc (.int K' p.2)]:=by
 obtain⟨hi,hp⟩:=List.getElem?_eq_some_iff.mp h
 have hl:(if(2:Nat)=1 then(LQ K K' l).length else(LQ K K' l).length/2)=l.length:=by rw[if_neg (by omega),qkp];omega
 have hx:idx l.length (.int .i64 (i:Int))=some i:=qU .i64 hi
 have hg:ql (LQ K K' l) (i*2) 2=some [.sc (.int K p.1),.sc (.int K' p.2)]:=by
  unfold ql
  rw[if_pos (by rw[qkp];omega),zc0,List.drop_eq_getElem_cons hi,hp]
  rfl
 rcases jk k 2 (LQ K K' l)with e|e|⟨e,e'⟩
 ·rw[e];simp only[yw,if_true,hl,hx,Option.bind_some,hg]
 ·rw[e];simp only[yw,if_true,hl,hx,Option.bind_some,hg]
 ·exfalso
  have:=qkp K K' l
  rw[e']at this
  simp at this
  omega
theorem zfk(k:Nat)(hk:k=1\/k=2)(l:List (Int×Int))(a b:Int)(h:l.length<=1000000):zZ 16 2 (S k 2 (LQ K K' l)) (S 1 2 [.sc (.int K a),.sc (.int K' b)])=some (S k 2 (LQ K K' (l++[(a,b)]))):=by
 rw[ZP 16 2 k _ _ 1 hk (show qhm [AV.sc (.int K a),AV.sc (.int K' b)]from rfl) (.inr (yo (by decide) ?_)),appQ]
 ·rfl
 ·rw[qkp];simp;omega
end
abbrev Cv(R C:Int)(x:AV):AV:=.agg [.sc (.int .i64 R),.sc (.int .i64 C),x]
def ZN(R C:Int)(l:List Int):Int:=if R<1\/8<R\/C<1\/256<C then 2 else if(l.length:Int)≠R*C then 6 else 0
theorem qgv{R C:Int}(hR:1<=R/\R<=8)(hC:1<=C/\C<=256):0<=R*C/\R*C<=2048:=by
 obtain⟨r,rfl⟩:∃r:Nat,R=r:=⟨R.toNat,by omega⟩
 obtain⟨c,rfl⟩:∃c:Nat,C=c:=⟨C.toNat,by omega⟩
 have h:r*c<=8*256:=Nat.mul_le_mul (by omega) (by omega)
 have e:(r:Int)*(c:Int)=((r*c:Nat):Int):=by simp
 rw[e];omega
theorem XO(R C:Int)(l:List Int)(k:Nat)(hl:l.length<=1000000)(hp:Hp):run cxX 66 [Cv R C (S k 1 (LI .u32 l))] hp=some (.sc (.int .i64 (ZN R C l)),hp):=by
 rw[E66]
 unfold ZN
 have b2:B66_2 hp=some (.sc (.int .i64 2),hp):=by rw[qh3];simp
 by_cases h1:R<1
 ·simp[qe,h1,b2]
 ·by_cases h2:8<R
  ·simp[qe,h1,h2,b2]
  ·by_cases h3:C<1
   ·simp[qe,h1,h2,h3,b2]
   ·by_cases h4:256<C
    ·simp[qe,h1,h2,h3,h4,b2]
    ·have m:=qgv (R:=R) (C:=C) (by omega) (by omega)
     have w:IntKind.i64.wrap (R*C)=R*C:=qf (by omega) (by omega)
     by_cases h5:(l.length:Int)=R*C
     ·simp[qe,qj,h1,h2,h3,h4,w,h5,JN]
     ·simp[qe,qj,h1,h2,h3,h4,w,h5,JN]
theorem Vv(R C:Int)(l:List Int)(b:Nat)(hl:l.length<=1000000)(hp:Hp):run cxX 66 [Cv R C (.ms b 0 0 l.length 1)] hp=some (.sc (.int .i64 (ZN R C l)),hp):=by
 rw[E66]
 unfold ZN
 have b2:B66_2 hp=some (.sc (.int .i64 2),hp):=by rw[qh3];simp
 by_cases h1:R<1
 ·simp[qe,h1,b2]
 ·by_cases h2:8<R
  ·simp[qe,h1,h2,b2]
  ·by_cases h3:C<1
   ·simp[qe,h1,h2,h3,b2]
   ·by_cases h4:256<C
    ·simp[qe,h1,h2,h3,h4,b2]
    ·have m:=qgv (R:=R) (C:=C) (by omega) (by omega)
     have w:IntKind.i64.wrap (R*C)=R*C:=qf (by omega) (by omega)
     by_cases h5:(l.length:Int)=R*C
     ·simp[qe,qj,h1,h2,h3,h4,w,h5,JN]
     ·simp[qe,qj,h1,h2,h3,h4,w,h5,JN]
theorem qk8(B B1 B' B1':AV)(a b:List Int)(k k':Nat)(hab:a.length=b.length)(hl:a.length<=1000000)(hp:Hp):∀(r s:List Int) (i:Nat),a.drop i=r->b.drop i=s->
 B120_4 (.int .i64 a.length) (.int .i64 i) [B,B1,S k 1 (LI .u32 a)] [B',B1',S k' 1 (LI .u32 b)] hp=some (.sc (.bool (decide (r=s))),hp):=by
 intro r
 induction r with
 |nil=>
  intro s i hr hs
  have h1:=qB hr
  have h2:s=[]:=by rw[<-hs];exact List.drop_eq_nil_of_le (by omega)
  have hlt:¬((i:Int)<(a.length:Int)):=by omega
  rw[qbu]
  simp[hlt,h2]
 |cons x r ih=>
  intro s i hr hs
  obtain⟨e1,e2,hi,e3⟩:=qm hr
  rw[qbu]
  have hw:IntKind.i64.wrap ((i:Int)+1)=((i+1:Nat):Int):=by rw[qf]<;>omega
  cases s with
  |nil=>have:=qB hs;omega
  |cons y s=>
   obtain⟨f1,f2,hj,f3⟩:=qm hs
   have h:=ih s (i+1) e2 f2
   simp at h hw
   by_cases e:x=y
   ·simp[hi,hj,qj,qe,e3,f3,e,hw,h]
   ·simp[hi,hj,qj,qe,e3,f3,e]
theorem qos(R C R' C':Int)(a b:List Int)(k k':Nat)(hp:Hp)(ha:a.length<=1000000):
 run cxX 120 [Cv R C (S k 1 (LI .u32 a)),Cv R' C' (S k' 1 (LI .u32 b))] hp=some (.sc (.bool (decide (R=R'/\C=C'/\a=b))),hp):=by
 rw[E120]
 have b2:B120_2 hp=some (.sc (.bool false),hp):=by rw[qss]
 by_cases h1:R=R'
 ·by_cases h2:C=C'
  ·by_cases h3:a.length=b.length
   ·have h:=qk8 (.sc (.int .i64 R)) (.sc (.int .i64 C)) (.sc (.int .i64 R')) (.sc (.int .i64 C')) a b (rk k) (rk k') h3 ha hp a b 0 rfl rfl
    simp at h
    subst h1 h2
    rw[h3]at h
    simp[qe,qj,h3,qsr,h]
   ·have h4:¬(a=b):=fun e=>h3 (by rw[e])
    have h5:¬((a.length:Int)=(b.length:Int)):=by omega
    simp[qe,qj,h1,h2,h4,h5,b2]
  ·simp[qe,h1,h2,b2]
 ·simp[qe,h1,b2]
theorem qe0(R C:Int)(hR:1<=R/\R<=8)(hC:1<=C/\C<=256)(hp:Hp):run cxX 76 [.sc (.int .i64 R),.sc (.int .i64 C)] hp=
 some (.tup [Cv R C (.ms hp.next 0 0 (R*C).toNat 1),.sc (.bool true)],hp.new (LI .u32 (List.replicate (R*C).toNat 0))):=by
 rw[E76]
 have h1:¬(R<1):=by omega
 have h2:¬(8<R):=by omega
 have h3:¬(C<1):=by omega
 have h4:¬(256<C):=by omega
 have m:=qgv hR hC
 have w:IntKind.i64.wrap (R*C)=R*C:=qf (by omega) (by omega)
 have mk:yu 4 1 (R*C) (R*C)=some ():=QN (by omega) (by omega) (by decide) (by decide)
 have z:=QC .u32 (R*C).toNat
 rw[Int.toNat_of_nonneg m.1]at z
 simp[h1,h2,h3,h4,qyf,w,mk,z,ql,qh]
theorem YI(C h r:Int)(hC:1<=C/\C<=256)(hr:0<=r/\r<=8):∃v:Nat,(v:Int)<C/\∀(R x:AV) hp,run cxX 128 [.agg [R,.sc (.int .i64 C),x],.sc (.int .u64 h),.sc (.int .i64 r)] hp=some (.sc (.int .i64 (v:Int)),hp):=by
 obtain⟨z1,s1⟩:∃z:Int,∀t x y,qr Tryz.prog .shr t x y (.int .u64 h) (.int .u64 32)=some (.int .u64 z):=⟨_,fun t x y=>js _ _ _ _ _ _ _ _ (by omega)⟩
 have w1:IntKind.i64.wrap (2*r)=2*r:=qf (by omega) (by omega)
 have w2:IntKind.i64.wrap (2*r+1)=2*r+1:=qf (by omega) (by omega)
 have w3:IntKind.u64.wrap (2*r+1)=2*r+1:=qn (by omega) (by omega)
 obtain⟨z2,s2⟩:∃z:Int,∀t x y,qr Tryz.prog .mul t x y (.int .u64 z1) (.int .u64 (2*r+1))=some (.int .u64 z):=⟨_,fun t x y=>JI _ _ _ _ _ _ _⟩
 obtain⟨z3,s3⟩:∃z:Int,∀t x y,qr Tryz.prog .and t x y (.int .u64 h) (.int .u64 4294967295)=some (.int .u64 z):=⟨_,fun t x y=>qS _ _ _ _ _ _ _⟩
 obtain⟨z4,s4⟩:∃z:Int,∀t x y,qr Tryz.prog .add t x y (.int .u64 z2) (.int .u64 z3)=some (.int .u64 z):=⟨_,fun t x y=>jH _ _ _ _ _ _ _⟩
 obtain⟨z5,s5⟩:∃z:Int,∀t x y,qr Tryz.prog .shr t x y (.int .u64 z4) (.int .u64 17)=some (.int .u64 z):=⟨_,fun t x y=>js _ _ _ _ _ _ _ _ (by omega)⟩
 obtain⟨z6,b6,s6⟩:∃z:Int,(0<=z/\z<18446744073709551616)/\∀t x y,qr Tryz.prog .xor t x y (.int .u64 z4) (.int .u64 z5)=some (.int .u64 z):=⟨_,by rw[IntKind.wrap_u64];omega,fun t x y=>yQ _ _ _ _ _ _ _⟩
 have m1:max C 1=C:=by omega
 have w4:IntKind.u64.wrap C=C:=qn (by omega) (by omega)
 have hm:0<=z6%C/\z6%C<C:=⟨Int.emod_nonneg _ (by omega),Int.emod_lt_of_pos _ (by omega)⟩
 have s7:∀t x y,qr Tryz.prog .rem t x y (.int .u64 z6) (.int .u64 C)=some (.int .u64 (z6%C)):=by
  intro t x y;rw[qW _ _ _ _ _ _ _ (by omega),qV b6.1]
 have w5:IntKind.i64.wrap (z6%C)=z6%C:=qf (by omega) (by omega)
 refine⟨(z6%C).toNat,by omega,fun R x hp=>?_⟩
 rw[Int.toNat_of_nonneg hm.1,E128]
 generalize z6%C=z7 at*
 simp[qe,s1,w1,w2,w3,s2,s3,s4,s5,s6,m1,w4,s7,w5,-JI,-qS,-jH,-yQ]
 simp[w1,w2,w3,s2,s3,s4,s5,s6,w4,s7,w5,-qS,-yQ]
noncomputable def ZK(C h r:Int):Nat:=if hh:(1<=C/\C<=256)/\0<=r/\r<=8 then(YI C h r hh.1 hh.2).choose else 0
theorem zby{C h r:Int}(hC:1<=C/\C<=256)(hr:0<=r/\r<=8):(ZK C h r:Int)<C/\∀(R x:AV) hp,run cxX 128 [.agg [R,.sc (.int .i64 C),x],.sc (.int .u64 h),.sc (.int .i64 r)] hp=some (.sc (.int .i64 (ZK C h r:Int)),hp):=by
 unfold ZK
 rw[dif_pos ⟨hC,hr⟩]
 exact(YI C h r hC hr).choose_spec
def cmrg:List Int->List Int->List Int
 |[],_=>[]
 |x::a,[]=>x::a
 |x::a,y::b=>jO x y::cmrg a b
@[simp] theorem ze3 : ∀ a, cmrg a [] = a
 |[]=>rfl
 |_::_=>rfl
abbrev ZS(l:List Int):Prop:=∀n∈l,0<=n/\n<4294967296
theorem qu8{a b:Int}(ha:0<=a/\a<4294967296)(hb:0<=b/\b<4294967296):0<=jO a b/\jO a b<4294967296:=by
 unfold jO;split<;>omega
noncomputable def YT(C h n:Int)(l:List Int)(r:Nat):List Int:=l.set (r*C.toNat+ZK C h r) (jO (l.getD (r*C.toNat+ZK C h r) 0) n)
noncomputable def JG(C h n:Int)(l:List Int)(rs:List Nat):List Int:=rs.foldl (YT C h n) l
noncomputable def wY(R C h n:Int)(l:List Int):List Int:=if ZN R C l=0 then JG C h n l (List.range' 0 R.toNat)else l
theorem qac(C h n:Int)(l:List Int)(r:Nat):(YT C h n l r).length=l.length:=by simp[YT]
theorem qaa(C h n:Int):∀(rs:List Nat) (l:List Int),(JG C h n l rs).length=l.length
 |[],_=>rfl
 |r::rs,l=>by
  show(JG C h n (YT C h n l r) rs).length=_
  rw[qaa C h n rs,qac]
theorem KL(R C h n:Int)(l:List Int):(wY R C h n l).length=l.length:=by
 unfold wY;split
 ·exact qaa _ _ _ _ _
 ·rfl
theorem qgi{l:List Int}(h:ZS l)(i:Nat):0<=l.getD i 0/\l.getD i 0<4294967296:=by
 by_cases hi:i<l.length
 ·have:=h l[i] (List.getElem_mem hi)
  simpa[hi]using this
 ·simp[hi]
theorem qab{C h n:Int}{l:List Int}{r:Nat}(hl:ZS l)(hn:0<=n/\n<4294967296):ZS (YT C h n l r):=by
 intro x hx
 rcases List.mem_or_eq_of_mem_set hx with hx|rfl
 ·exact hl x hx
 ·exact qu8 (qgi hl _) hn
theorem WZ{C h n:Int}(hn:0<=n/\n<4294967296):∀(rs:List Nat) {l:List Int},ZS l->ZS (JG C h n l rs)
 |[],_,hl=>hl
 |r::rs,l,hl=>WZ hn rs (qab hl hn)
theorem KK{R C h n:Int}{l:List Int}(hn:0<=n/\n<4294967296)(hl:ZS l):ZS (wY R C h n l):=by
 unfold wY;split
 ·exact WZ hn _ hl
 ·exact hl
theorem qgy(R C:Int)(q0 q1 q2:AV)(b:Nat)(d:List Int)(hp:Hp)(hb:hp.rd b 0=some (LI .u32 d)):
 B72_9 [q0,q1,q2] [.sc (.int .i64 R),.sc (.int .i64 C),.ms b 0 0 d.length 1] hp=some (Cv R C (S 0 1 (LI .u32 d)),hp.del b):=by
 have f:=wF .u32 d hp b hb
 rw[qhx]
 simp[ql,qh,f]
theorem WY(R C h n:Int)(q0 q1 q2:AV)(x:AV)(b:Nat)(hR:1<=R/\R<=8)(hC:1<=C/\C<=256)(hn:0<=n/\n<4294967296):∀(m i:Nat) (l:List Int) (hp:Hp),R=(i+m:Nat)->(l.length:Int)=R*C->ZS l->hp.rd b 0=some (LI .u32 l)->
 ∃hp',B72_4 (.int .u64 h) (.int .u32 n) (.int .i64 R) (.int .i64 i) [.sc (.int .i64 R),.sc (.int .i64 C),x] [q0,q1,q2] [.sc (.int .i64 R),.sc (.int .i64 C),.ms b 0 0 l.length 1] hp=some (Cv R C (S 0 1 (LI .u32 (JG C h n l (List.range' i m)))),hp'):=by
 intro m
 induction m with
 |zero=>
  intro i l hp hi hlen hl hb
  have hlt:¬((i:Int)<R):=by omega
  refine⟨hp.del b,?_⟩
  rw[qhy]
  simp only[Zj,Qx,hlt,decide_false,jt,Option.bind_some,cond_false]
  exact qgy R C q0 q1 q2 b l hp hb
 |succ m ih=>
  intro i l hp hi hlen hl hb
  have hlt:(i:Int)<R:=by omega
  obtain⟨c,rfl⟩:∃c:Nat,C=c:=⟨C.toNat,by omega⟩
  obtain⟨pb,pc⟩:=zby (h:=h) (r:=(i:Int)) hC (by omega)
  have hRc:(R*(c:Int))=(((i+(m+1))*c:Nat):Int):=by rw[hi];simp
  have hj:i*c+ZK c h i<l.length:=by
   have e1:(i+(m+1))*c=i*c+c+m*c:=by rw[Nat.add_mul,Nat.add_mul];omega
   have e2:l.length=(i+(m+1))*c:=by omega
   have e3:ZK c h i<c:=by omega
   omega
  have hl2:l.length<=2048:=by have:=qgv hR hC;omega
  have w1:IntKind.i64.wrap ((i:Int)*(c:Int))=((i*c:Nat):Int):=by
   have e:(i:Int)*(c:Int)=((i*c:Nat):Int):=by simp
   rw[e,qf (by omega) (by omega)]
  have w2:IntKind.i64.wrap (((i*c:Nat):Int)+(ZK c h i:Int))=((i*c+ZK c h i:Nat):Int):=by rw[qf (by omega) (by omega)];omega
  have w3:IntKind.i64.wrap ((i:Int)+((1:Nat):Int))=((i+1:Nat):Int):=by rw[qf]<;>omega
  have ed:YT c h n l i=l.set (i*c+ZK c h i) (jO (l.getD (i*c+ZK c h i) 0) n):=by unfold YT;rw[Int.toNat_natCast]
  have ef:JG c h n l (List.range' i (m+1))=JG c h n (YT c h n l i) (List.range' (i+1) m):=by rw[List.range'_succ];rfl
  have gs':l[i*c+ZK c h i]?=some (l.getD (i*c+ZK c h i) 0):=by simp[hj]
  have hgd:=qgi hl (i*c+ZK c h i)
  have hu:=qab (C:=c) (h:=h) (n:=n) (r:=i) hl hn
  have hcl:=qac c h n l i
  rw[ed]at hu hcl ef
  rw[ef]
  generalize i*c+ZK c h i=j at*
  generalize l.getD j 0=g at*
  have pl:=fun hp=>xm g n hgd hn hp
  have ix:=qU .i64 hj
  have pt:=yL .u32 l j (jO g n) hj
  obtain⟨hp',hh⟩:=ih (i+1) (l.set j (jO g n)) (hp.put b 0 (LI .u32 (l.set j (jO g n)))) (by omega) (by rw[hcl];exact hlen) hu (qi _ _ _)
  refine⟨hp',?_⟩
  rw[hcl]at hh
  have oa:∀v w,yW [AV.sc v,AV.sc w] []=some ():=fun v w=>by rw[qpr];exact if_pos ⟨by simp,by simp⟩
  have gn:ql [AV.sc (.int .i64 R),AV.sc (.int .i64 (c:Int)),x] 0 3=some [AV.sc (.int .i64 R),AV.sc (.int .i64 (c:Int)),x]:=rfl
  rw[qhy]
  simp only[Zj,Qx,hlt,decide_true,jt,Option.bind_some,cond_true,qe,List.getElem?_cons_succ,List.getElem?_cons_zero,xV,JI,w1,gn,List.map_cons,List.map_nil,zdx,zdw,zgr,pc,qvy,jH,w2,qj,zdy,kK,ix,wG,ZL,kR,hb,Nat.add_eq,Nat.zero_add,VE?,gs',Option.map_some,oa,pl,pt,Int.ofNat_eq_natCast,w3]
  exact hh
theorem quv(R C h n:Int)(l:List Int)(k:Nat)(hn:0<=n/\n<4294967296)(hl:l.length<=1000000)(h32:ZS l)(hp:Hp):
 ∃t hp',run cxX 72 [Cv R C (S k 1 (LI .u32 l)),.sc (.int .u64 h),.sc (.int .u32 n)] hp=some (Cv R C (S t 1 (LI .u32 (wY R C h n l))),hp'):=by
 rw[E72]
 have ck:=fun hp=>XO R C l (rk k) hl hp
 by_cases hc:ZN R C l=0
 ·have hc':=hc
  unfold ZN at hc'
  split at hc'
  ·cases hc'
  ·split at hc'
   ·cases hc'
   ·rename_i h1 h2
    have hlen:(l.length:Int)=R*C:=by omega
    have hne:l≠[]:=by
     intro e
     subst e
     obtain⟨r,rfl⟩:∃r:Nat,R=r:=⟨R.toNat,by omega⟩
     obtain⟨c,rfl⟩:∃c:Nat,C=c:=⟨C.toNat,by omega⟩
     have e:(r:Int)*(c:Int)=((r*c:Nat):Int):=by simp
     rw[e]at hlen
     have:0<r*c:=Nat.mul_pos (by omega) (by omega)
     simp at hlen
     omega
    have n1:=fun k hp=>kX .u32 l k 4 (by decide) hl hne hp
    obtain⟨hp',hh⟩:=WY R C h n (.sc (.int .i64 0)) (.sc (.int .i64 0)) (S 2 1 []) (S (rk k) 1 (LI .u32 l)) hp.next (by omega) (by omega) hn R.toNat 0 l (hp.new (LI .u32 l)) (by omega) hlen h32 (qz _ _)
    refine⟨0,hp',?_⟩
    have e:wY R C h n l=JG C h n l (List.range' 0 R.toNat):=by unfold wY;rw[if_pos hc]
    simp at hh
    simp[qe,qj,ql,n1,qh,ck,hc,e,hh]
 ·have e:wY R C h n l=l:=by unfold wY;rw[if_neg hc]
  by_cases hne:l=[]
  ·subst hne
   have n1:=fun k hp=>KU 4 k hp
   refine⟨0,hp,?_⟩
   have e9:∀(q0 q1 q2:AV),B72_9 [q0,q1,q2] [.sc (.int .i64 R),.sc (.int .i64 C),S 0 1 []] hp=some (Cv R C (S 0 1 []),hp):=by
    intro q0 q1 q2
    rw[qhx]
    simp[ql,qh]
   simp at ck
   simp[qe,qj,ql,n1,qh,ck,hc,e,e9]
  ·have n1:=fun k hp=>kX .u32 l k 4 (by decide) hl hne hp
   have f:=qgy R C (.sc (.int .i64 0)) (.sc (.int .i64 0)) (S 2 1 []) hp.next l (hp.new (LI .u32 l)) (qz _ _)
   refine⟨0,(hp.new (LI .u32 l)).del hp.next,?_⟩
   simp[qe,qj,ql,n1,qh,ck,hc,e,f]
theorem qe1(R C h n:Int)(l:List Int)(b:Nat)(hn:0<=n/\n<4294967296)(hl:l.length<=1000000)(h32:ZS l)(hc:ZN R C l=0)(hp:Hp)(hb:hp.rd b 0=some (LI .u32 l)):
 ∃t hp',run cxX 72 [Cv R C (.ms b 0 0 l.length 1),.sc (.int .u64 h),.sc (.int .u32 n)] hp=some (Cv R C (S t 1 (LI .u32 (wY R C h n l))),hp'):=by
 rw[E72]
 have ck:=fun hp=>Vv R C l b hl hp
 have hc':=hc
 unfold ZN at hc'
 split at hc'
 ·cases hc'
 ·split at hc'
  ·cases hc'
  ·rename_i h1 h2
   have hlen:(l.length:Int)=R*C:=by omega
   have hne:l≠[]:=by
    intro e
    subst e
    obtain⟨r,rfl⟩:∃r:Nat,R=r:=⟨R.toNat,by omega⟩
    obtain⟨c,rfl⟩:∃c:Nat,C=c:=⟨C.toNat,by omega⟩
    have e:(r:Int)*(c:Int)=((r*c:Nat):Int):=by simp
    rw[e]at hlen
    have:0<r*c:=Nat.mul_pos (by omega) (by omega)
    simp at hlen
    omega
   have n1:=YX .u32 l (.ms b 0 0 l.length 1) 4 (by decide) hl hne hp (qd9 .u32 l hp b hb)
   obtain⟨hp',hh⟩:=WY R C h n (.sc (.int .i64 0)) (.sc (.int .i64 0)) (S 2 1 []) (.ms b 0 0 l.length 1) hp.next (by omega) (by omega) hn R.toNat 0 l (hp.new (LI .u32 l)) (by omega) hlen h32 (qz _ _)
   refine⟨0,hp',?_⟩
   have e:wY R C h n l=JG C h n l (List.range' 0 R.toNat):=by unfold wY;rw[if_pos hc]
   simp at hh
   simp[qe,qj,ql,n1,qh,ck,hc,e,hh]
noncomputable def yP(R C:Int)(a:List Int)(l:List (Int×Int)):List Int:=l.foldl (fun a p=>wY R C p.1 p.2 a) a
theorem WW(R C:Int):∀(l:List (Int×Int)) (a:List Int),(yP R C a l).length=a.length
 |[],_=>rfl
 |p::l,a=>by
  show(yP R C (wY R C p.1 p.2 a) l).length=_
  rw[WW R C l,KL]
theorem WV(R C:Int):∀{l:List (Int×Int)} {a:List Int},ZS a->(∀p∈l,0<=p.2/\p.2<4294967296)->ZS (yP R C a l)
 |[],_,h,_=>h
 |p::l,a,h,hl=>WV R C (l:=l) (KK (hl p (by simp)) h) (fun q hq=>hl q (by simp[hq]))
theorem qxo(R C:Int)(q0 q1 q2:AV)(l:List (Int×Int))(k:Nat)(hl:l.length<=1000000)(h32:∀p∈l,0<=p.2/\p.2<4294967296):∀(r:List (Int×Int)) (i t:Nat) (a:List Int) (hp:Hp),l.drop i=r->a.length<=1000000->ZS a->
 ∃t' hp',B30_3 (S k 2 (LQ .u64 .u32 l)) (.int .i64 l.length) (.int .i64 i) [q0,q1,q2] [.sc (.int .i64 R),.sc (.int .i64 C),S t 1 (LI .u32 a)] hp=some (Cv R C (S t' 1 (LI .u32 (yP R C a r))),hp'):=by
 intro r
 induction r with
 |nil=>
  intro i t a hp hr ha hu
  have:=qB hr
  have hlt:¬((i:Int)<(l.length:Int)):=by omega
  refine⟨rk t,hp,?_⟩
  rw[JR]
  simp[hlt,ql,qh,yP]
 |cons x r ih=>
  intro i t a hp hr ha hu
  obtain⟨e1,e2,hi,e3⟩:=qm hr
  have hx:=h32 x (List.mem_of_getElem? e1)
  have hw:IntKind.i64.wrap ((i:Int)+1)=((i+1:Nat):Int):=by rw[qf]<;>omega
  obtain⟨t1,hp1,ha1⟩:=quv R C x.1 x.2 a (rk t) hx ha hu hp
  obtain⟨t',hp',h⟩:=ih (i+1) t1 (wY R C x.1 x.2 a) hp1 e2 (by rw[KL];exact ha) (KK hx hu)
  refine⟨t',hp',?_⟩
  have ix:=qwr .u64 .u32 k e1
  rw[JR]
  simp at h hw
  have ef:yP R C a (x::r)=yP R C (wY R C x.1 x.2 a) r:=rfl
  simp[hi,ix,qe,ql,qh,ha1,hw,h,ef]
theorem qzp(a b:Int)(l:List (Int×Int))(k:Nat)(ha:0<=a/\a<256)(hb:0<=b/\b<256)(hl:l.length<=1000000)(h32:∀p∈l,0<=p.2/\p.2<4294967296)(hp:Hp):
 ∃t hp',run cxX 30 [.sc (.int .u8 a),.sc (.int .u8 b),S k 2 (LQ .u64 .u32 l)] hp=some (Cv (1+a%8) (1+b%40) (S t 1 (LI .u32 (yP (1+a%8) (1+b%40) (List.replicate ((1+a%8)*(1+b%40)).toNat 0) l))),hp'):=by
 have h1:∀t x y,qr Tryz.prog .rem t x y (.int .u8 a) (.int .u8 8)=some (.int .u8 (a%8)):=by
  intro t x y;rw[qW _ _ _ _ _ _ _ (by omega),qV ha.1]
 have h2:∀t x y,qr Tryz.prog .rem t x y (.int .u8 b) (.int .u8 40)=some (.int .u8 (b%40)):=by
  intro t x y;rw[qW _ _ _ _ _ _ _ (by omega),qV hb.1]
 have w1:IntKind.i64.wrap (a%8)=a%8:=qf (by omega) (by omega)
 have w2:IntKind.i64.wrap (1+a%8)=1+a%8:=qf (by omega) (by omega)
 have w3:IntKind.i64.wrap (b%40)=b%40:=qf (by omega) (by omega)
 have w4:IntKind.i64.wrap (1+b%40)=1+b%40:=qf (by omega) (by omega)
 have nw:=fun hp=>qe0 (1+a%8) (1+b%40) (by omega) (by omega) hp
 have m:=qgv (R:=1+a%8) (C:=1+b%40) (by omega) (by omega)
 obtain⟨R,hR⟩:∃R,R=1+a%8:=⟨_,rfl⟩
 obtain⟨C,hC⟩:∃C,C=1+b%40:=⟨_,rfl⟩
 rw[<-hR]at nw m w2⊢
 rw[<-hC]at nw m w4⊢
 obtain⟨z,hz⟩:∃z,z=List.replicate (R*C).toNat (0:Int):=⟨_,rfl⟩
 have zl:z.length=(R*C).toNat:=by rw[hz];simp
 have zu:ZS z:=fun n hn=>by rw[hz]at hn;have:=List.eq_of_mem_replicate hn;omega
 have zc:ZN R C z=0:=by unfold ZN;rw[if_neg (by omega),if_neg (by rw[zl];omega)]
 rw[<-hz]at nw⊢
 rw[<-zl]at nw
 have ln:=zec .u64 .u32
 have key:∃t hp',B30_3 (S (rk k) 2 (LQ .u64 .u32 l)) (.int .i64 l.length) (.int .i64 (0:Nat)) [.sc (.int .i64 0),.sc (.int .i64 0),S 2 1 []] [.sc (.int .i64 R),.sc (.int .i64 C),.ms hp.next 0 0 z.length 1] (hp.new (LI .u32 z))=some (Cv R C (S t 1 (LI .u32 (yP R C z l))),hp'):=by
  cases l with
  |nil=>
   have f:=wF .u32 z (hp.new (LI .u32 z)) hp.next (qz _ _)
   refine⟨0,(hp.new (LI .u32 z)).del hp.next,?_⟩
   rw[JR]
   simp[qh,ql,f,yP]
  |cons x r=>
   have hx:=h32 x (by simp)
   have ix:=qwr (l:=x::r) (i:=0) (p:=x) .u64 .u32 (rk k) rfl
   obtain⟨t1,hp1,ha1⟩:=qe1 R C x.1 x.2 z hp.next hx (by rw[zl];omega) zu zc (hp.new (LI .u32 z)) (qz _ _)
   obtain⟨t,hp2,h⟩:=qxo R C (.sc (.int .i64 0)) (.sc (.int .i64 0)) (S 2 1 []) (x::r) (rk k) hl h32 r 1 t1 (wY R C x.1 x.2 z) hp1 rfl (by rw[KL,zl];omega) (KK hx zu)
   refine⟨t,hp2,?_⟩
   have hw:IntKind.i64.wrap (((0:Nat):Int)+1)=((1:Nat):Int):=rfl
   have hlt:((0:Nat):Int)<((x::r).length:Int):=by simp
   have ef:yP R C z (x::r)=yP R C (wY R C x.1 x.2 z) r:=rfl
   have gn:ql [AV.sc (.int .i64 R),AV.sc (.int .i64 C),.ms hp.next 0 0 z.length 1] 0 3=some [AV.sc (.int .i64 R),AV.sc (.int .i64 C),.ms hp.next 0 0 z.length 1]:=rfl
   generalize(x::r).length=n at*
   generalize LQ .u64 .u32 (x::r)=q at*
   have hn:0<n:=by simpa using hlt
   rw[JR]
   simp at ix h
   simp[hn,ix,qe,ql,qh,ha1,ef,h]
 obtain⟨t,hp',h⟩:=key
 refine⟨t,hp',?_⟩
 rw[E30]
 simp at h
 simp[h1,h2,w1,w2,w3,w4,<-hR,<-hC,nw,qh,ln,h]
structure GN where
 M:Int
 e0:Int
 e1:Int
 e2:Int
 e3:Int
 e4:Int
 e5:Int
 lo:Nat
 hi:Nat
 L:List Nat
deriving DecidableEq
def Gs.nf(g:Gs):GN:=⟨g.M,g.e0,g.e1,g.e2,g.e3,g.e4,g.e5,kw g.lo,kw g.hi,g.L.map kw⟩
structure Gs.W (g : Gs) : Prop where
 M:za g.M
 e0:za g.e0
 e1:za g.e1
 e2:za g.e2
 e3:za g.e3
 e4:za g.e4
 e5:za g.e5
 lo:g.lo<18446744073709551616
 hi:g.hi<18446744073709551616
 L:Ws g.L
 len:g.L.length<=100000
theorem qgc(K K':Int)(g o:Gs):qhl K K' g o↔K=K'/\g.nf=o.nf:=by
 unfold qhl Gs.nf
 simp only[GN.mk.injEq]
 constructor
 ·rintro⟨h1,h2,⟨h3,h4,h5,h6,h7,h8⟩,h9,h10,h11⟩
  exact⟨h1,h2,h3,h4,h5,h6,h7,h8,h9,h10,h11⟩
 ·rintro⟨h1,h2,h3,h4,h5,h6,h7,h8,h9,h10,h11⟩
  exact⟨h1,h2,⟨h3,h4,h5,h6,h7,h8⟩,h9,h10,h11⟩
theorem qjl(K K':Int)(g o:Gs)(k k':Nat)(hg:g.W)(ho:o.W)(hp:Hp):run cxX 121 [g.av K k,o.av K' k'] hp=some (.sc (.bool (decide (K=K'/\g.nf=o.nf))),hp):=by
 by_cases h:qhl K K' g o
 ·rw[qol K K' g o k k' h ⟨hg.lo,ho.lo⟩ ⟨hg.hi,ho.hi⟩ ⟨hg.L,ho.L⟩ (by have:=hg.len;omega) hp,decide_eq_true ((qgc K K' g o).mp h)]
 ·have hd:decide (K=K'/\g.nf=o.nf)=false:=decide_eq_false (fun h'=>h ((qgc K K' g o).mpr h'))
  rw[hd,E121]
  have b2:B121_2 hp=some (.sc (.bool false),hp):=qsq hp
  have r1:=fun hp=>vD g.lo o.lo hg.lo ho.lo hp
  have r2:=fun hp=>vD g.hi o.hi hg.hi ho.hi hp
  have a:=fun x y=>zcs x y g.e0 g.e1 g.e2 g.e3 g.e4 g.e5 o.e0 o.e1 o.e2 o.e3 o.e4 o.e5
  by_cases q1:K=K'
  ·by_cases q2:g.M=o.M
   ·by_cases q3:(g.e0=o.e0/\g.e1=o.e1/\g.e2=o.e2/\g.e3=o.e3/\g.e4=o.e4/\g.e5=o.e5)
    ·simp only[eq_true q3,decide_true,Bool.not_true]at a
     by_cases q4:kw g.lo=kw o.lo
     ·by_cases q5:kw g.hi=kw o.hi
      ·by_cases q6:g.L.length=o.L.length
       ·have l:=Ko (.sc (.int .i64 K)) (.sc (.int .u32 g.M)) (.sc (.int .u32 g.e0)) (.sc (.int .u32 g.e1)) (.sc (.int .u32 g.e2)) (.sc (.int .u32 g.e3)) (.sc (.int .u32 g.e4)) (.sc (.int .u32 g.e5)) (fl g.lo) (fl g.hi)
         (.sc (.int .i64 K')) (.sc (.int .u32 o.M)) (.sc (.int .u32 o.e0)) (.sc (.int .u32 o.e1)) (.sc (.int .u32 o.e2)) (.sc (.int .u32 o.e3)) (.sc (.int .u32 o.e4)) (.sc (.int .u32 o.e5)) (fl o.lo) (fl o.hi) g.L o.L (rk k) (rk k') q6 (by have:=hg.len;omega) hg.L ho.L hp g.L o.L 0 rfl rfl
        have q7:¬(g.L.map kw=o.L.map kw):=fun e=>h ⟨q1,q2,q3,q4,q5,e⟩
        simp only[eq_false q7,decide_false]at l
        subst q1
        simp at l
        rw[q6,q2]at l
        simp[qe,qj,ql,yE,vq,q2,a,r1,r2,q4,q5,q6,qbt]
        exact l
       ·have q6':¬((g.L.length:Int)=(o.L.length:Int)):=by omega
        simp[qe,qj,ql,yE,vq,q1,q2,a,r1,r2,q4,q5,q6',b2]
      ·simp[qe,qj,ql,yE,vq,q1,q2,a,r1,r2,q4,q5,b2]
     ·simp[qe,qj,ql,yE,vq,q1,q2,a,r1,q4,b2]
    ·simp only[eq_false q3,decide_false,Bool.not_false]at a
     simp[qe,qj,ql,yE,vq,q1,q2,a,b2]
   ·simp[qe,q1,q2,b2]
  ·simp[qe,q1,b2]
def Zx:List Nat->Int
 |[]=>0
 |[_]=>0
 |x::y::r=>if y<x then 8 else Zx (y::r)
def nanK:Nat:=18444492273895866369
def qm8(g:GN):Int:=if g.lo=nanK\/g.hi=nanK then 4 else 0
def ZF(K:Int)(g:GN):Int:=if K<1\/16<K\/K<(g.L.length:Int)then 2 else if Zx g.L=0 then qm8 g else 8
theorem ql4:∀{l:List Nat},Up l->Zx l=0
 |[],_=>rfl
 |[_],_=>rfl
 |x::y::r,h=>by
  have h':=List.pairwise_cons.mp h
  have hxy:=h'.1 y (by simp)
  show(if y<x then(8:Int)else Zx (y::r))=0
  rw[if_neg (by omega)]
  exact ql4 h'.2
theorem qmj:∀{l:List Nat},Zx l=0->Up l
 |[],_=>List.Pairwise.nil
 |[_],_=>by simp
 |x::y::r,h=>by
  have h:(if y<x then(8:Int)else Zx (y::r))=0:=h
  split at h
  ·cases h
  ·rename_i hxy
   have ih:=qmj h
   have ih':=List.pairwise_cons.mp ih
   refine List.pairwise_cons.mpr ⟨fun n hn=>?_,ih⟩
   rcases List.mem_cons.mp hn with rfl|hn
   ·omega
   ·have:=ih'.1 n hn;omega
theorem qdi{w:Nat}(h:w<18446744073709551616):yn w↔kw w=nanK:=by
 constructor
 ·intro hn;exact zed hn
 ·intro he
  by_cases hn:yn w
  ·exact hn
  ·have:=qp2 h hn
   rw[he]at this
   exact absurd this (by decide)
theorem qgj(K:Int)(g:Gs)(k:Nat)(hg:g.W)(hp:Hp):∀(r:List Nat) (p:Option Nat) (i:Nat),g.L.drop i=r->(p=none↔i=0)->(∀q,p=some q->g.L[i-1]?=some q)->
 B67_4 (S k 1 (LF g.L)) (.int .i64 g.L.length) (.int .i64 i) [.sc (.int .i64 K),.sc (.int .u32 g.M),.sc (.int .u32 g.e0),.sc (.int .u32 g.e1),.sc (.int .u32 g.e2),.sc (.int .u32 g.e3),.sc (.int .u32 g.e4),.sc (.int .u32 g.e5),fl g.lo,fl g.hi,S k 1 (LF g.L)] hp=
  some (.sc (.int .i64 (if Zx (p.toList.map kw++r.map kw)=0 then qm8 g.nf else 8)),hp):=by
 intro r
 induction r with
 |nil=>
  intro p i hr hp0 hps
  have:=qB hr
  have hlt:¬((i:Int)<(g.L.length:Int)):=by omega
  have ho:Zx (p.toList.map kw++([]:List Nat).map kw)=0:=by cases p<;>rfl
  have n1:=qdi hg.lo
  have n2:=qdi hg.hi
  rw[if_pos ho,qh2]
  unfold qm8 Gs.nf
  by_cases h1:yn g.lo
  ·have h1':=n1.mp h1
   simp[hlt,qe,je,h1,h1',qak]
  ·have h1':¬(kw g.lo=nanK):=fun e=>h1 (n1.mpr e)
   by_cases h2:yn g.hi
   ·have h2':=n2.mp h2
    simp[hlt,qe,je,h1,h2,h2',qak]
   ·have h2':¬(kw g.hi=nanK):=fun e=>h2 (n2.mpr e)
    simp[hlt,qe,je,h1,h2,h1',h2',qrc]
 |cons x r ih=>
  intro p i hr hp0 hps
  obtain⟨e1,e2,hi,e3⟩:=qm hr
  have hx:=hg.L x (List.mem_of_getElem? e1)
  have hln:=hg.len
  have hw:IntKind.i64.wrap ((i:Int)+1)=((i+1:Nat):Int):=by rw[qf]<;>omega
  have h:=ih (some x) (i+1) e2 (by simp) (fun q hq=>by simp at hq;subst hq;simpa using e1)
  have g1:(LF g.L)[i]?=some (fl x):=by simp[LF,e1]
  rw[qh2]
  cases p with
  |none=>
   obtain rfl:i=0:=hp0.mp rfl
   simp at g1 h hw
   simp[hi,qe,g1,hw,h,qh1]
  |some q=>
   have hi0:i≠0:=fun e=>by have:=hp0.mpr e;cases this
   have hq:=hps q rfl
   have hq64:=hg.L q (List.mem_of_getElem? hq)
   have hpos:0<i:=by omega
   simp at h hw
   have w1:IntKind.i64.wrap ((i:Int)-1)=((i-1:Nat):Int):=by rw[qf]<;>omega
   have g2:(LF g.L)[i-1]?=some (fl q):=by simp[LF,hq]
   have ls:=fun hp=>Jf x q hx hq64 hp
   by_cases hl:kw x<kw q
   ·simp[hi,e3,qe,qj,g1,hpos,w1,g2,ls,hl,qyi,Zx]
   ·simp[hi,e3,qe,qj,g1,hpos,w1,g2,ls,hl,hw,h,qh1,Zx]
theorem qjn(K:Int)(g:Gs)(k:Nat)(hg:g.W)(hp:Hp):run cxX 67 [g.av K k] hp=some (.sc (.int .i64 (ZF K g.nf)),hp):=by
 rw[E67]
 have b2:B67_2 hp=some (.sc (.int .i64 2),hp):=by rw[qyk];simp
 have hl:g.nf.L.length=g.L.length:=by simp[Gs.nf]
 unfold ZF
 rw[hl]
 by_cases h1:K<1
 ·simp[qe,h1,b2]
 ·by_cases h2:16<K
  ·simp[qe,h1,h2,b2]
  ·by_cases h3:K<(g.L.length:Int)
   ·simp[qe,qj,h1,h2,h3,b2]
   ·have l:=qgj K g (rk k) hg hp g.L none 0 rfl (by simp) (by simp)
    have e:g.nf.L=g.L.map kw:=rfl
    simp at l
    simp[qe,qj,h1,h2,h3,qyj,l,e]
def zbe(K:Int)(g o:GN):GN:=⟨jO g.M o.M,jO g.e0 o.e0,jO g.e1 o.e1,jO g.e2 o.e2,jO g.e3 o.e3,jO g.e4 o.e4,jO g.e5 o.e5,min g.lo o.lo,max g.hi o.hi,(mk g.L o.L).take K.toNat⟩
theorem wo{a b:Int}(ha:za a)(hb:za b):za (jO a b):=by
 unfold za at *;unfold jO;split<;>omega
theorem zeq(K:Int)(g o:Gs):(gmg K g o).nf=zbe K g.nf o.nf:=by
 simp only[Gs.nf,gmg,zbe,qmz,qm0,<-qm6 _ _ _ rfl,List.map_take]
theorem zg8{K:Int}{g o:Gs}(hK:K<=100000)(hg:g.W)(ho:o.W):(gmg K g o).W where
 M:=wo hg.M ho.M
 e0:=wo hg.e0 ho.e0
 e1:=wo hg.e1 ho.e1
 e2:=wo hg.e2 ho.e2
 e3:=wo hg.e3 ho.e3
 e4:=wo hg.e4 ho.e4
 e5:=wo hg.e5 ho.e5
 lo:=qnb hg.lo ho.lo
 hi:=qnc hg.hi ho.hi
 L:=fun w hw=>by
  rcases qwa w _ _ _ rfl (List.mem_of_mem_take hw)with h|h
  ·exact hg.L w h
  ·exact ho.L w h
 len:=by
  show((gm g.L o.L).take K.toNat).length<=100000
  rw[List.length_take];omega
theorem Xp{K:Int}{g:GN}:ZF K g=0↔(1<=K/\K<=16)/\(g.L.length:Int)<=K/\Up g.L/\g.lo≠nanK/\g.hi≠nanK:=by
 unfold ZF qm8
 constructor
 ·intro h
  split at h
  ·cases h
  ·split at h
   ·split at h
    ·cases h
    ·rename_i h1 h2 h3
     exact⟨by omega,by omega,qmj h2,fun e=>h3 (.inl e),fun e=>h3 (.inr e)⟩
   ·cases h
 ·rintro⟨h1,h2,h3,h4,h5⟩
  rw[if_neg (by omega),if_pos (ql4 h3),if_neg (fun e=>e.elim h4 h5)]
theorem qk2{K:Int}{g o:GN}(hg:ZF K g=0)(ho:ZF K o=0):ZF K (zbe K g o)=0:=by
 rw[Xp]at*
 obtain⟨h1,h2,h3,h4,h5⟩:=hg
 obtain⟨f1,f2,f3,f4,f5⟩:=ho
 refine⟨h1,?_,?_,?_,?_⟩
 ·simp only[zbe,List.length_take];omega
 ·exact List.Pairwise.sublist (List.take_sublist _ _) (qv8 _ _ h3 f3)
 ·show min g.lo o.lo≠nanK;omega
 ·show max g.hi o.hi≠nanK;omega
def GN.Pos(g:GN):Prop:=za g.M/\za g.e0/\za g.e1/\za g.e2/\za g.e3/\za g.e4/\za g.e5
theorem Gs.W.pos{g:Gs}(h:g.W):g.nf.Pos:=⟨h.M,h.e0,h.e1,h.e2,h.e3,h.e4,h.e5⟩
theorem in0:za 0:=⟨by decide,by decide⟩
theorem qwx:gnew.W:=⟨in0,in0,in0,in0,in0,in0,in0,by decide,by decide,by simp[gnew,Ws],by decide⟩
structure SkN where
 kind:Int
 set:List Int
 K:Int
 hs:List Int
 P:Int
 rg:List Int
 B:Int
 H:Int
 bs:List Int
 R:Int
 C:Int
 cs:List Int
 gK:Int
 g:GN
deriving DecidableEq
def gz:Gs:=⟨0,0,0,0,0,0,0,0,0,[]⟩
theorem xP:gz.W:=⟨in0,in0,in0,in0,in0,in0,in0,by decide,by decide,by simp[gz,Ws],by decide⟩
def jw:SkN:=⟨0,[],0,[],0,[],0,0,[],0,0,[],0,gz.nf⟩
def yq(x:SkN)(g:Gs)(a b c d e f:Nat):AV:=.agg [.sc (.int .u8 x.kind),S a 1 (LI .u32 x.set),.sc (.int .i64 x.K),S b 1 (LI .u64 x.hs),.sc (.int .i64 x.P),S c 1 (LI .u8 x.rg),.sc (.int .i64 x.B),.sc (.int .i64 x.H),S d 1 (LI .u32 x.bs),.sc (.int .i64 x.R),.sc (.int .i64 x.C),S e 1 (LI .u32 x.cs),
 .sc (.int .i64 x.gK),.sc (.int .u32 g.M),.sc (.int .u32 g.e0),.sc (.int .u32 g.e1),.sc (.int .u32 g.e2),.sc (.int .u32 g.e3),.sc (.int .u32 g.e4),.sc (.int .u32 g.e5),fl g.lo,fl g.hi,S f 1 (LF g.L)]
def kY(x:SkN)(v:AV):Prop:=∃g a b c d e f,g.W/\g.nf=x.g/\v=yq x g a b c d e f
structure SkN.W (x : SkN) : Prop where
 kind:0<=x.kind/\x.kind<256
 set:ZS x.set
 setL:x.set.length<=100000
 hsL:x.hs.length<=100000
 rg:∀n∈x.rg,0<=n/\n<256
 rgL:x.rg.length<=100000
 bs:ZS x.bs
 bsL:x.bs.length<=100000
 cs:ZS x.cs
 csL:x.cs.length<=100000
theorem ql8:jw.W:=⟨by decide,by simp[jw,ZS],by decide,by decide,by simp[jw],by decide,by simp[jw,ZS],by decide,by simp[jw,ZS],by decide⟩
def YY(x y:SkN):Prop:=x.kind=y.kind/\x.set=y.set/\(x.K=y.K/\x.hs=y.hs)/\(x.P=y.P/\x.rg=y.rg)/\(x.B=y.B/\x.H=y.H/\x.bs=y.bs)/\(x.R=y.R/\x.C=y.C/\x.cs=y.cs)/\x.gK=y.gK/\x.g=y.g
instance (x y : SkN) : Decidable (YY x y) := by unfold YY; infer_instance
theorem qtw(x y:SkN):YY x y↔x=y:=by
 cases x;cases y
 simp only[YY,SkN.mk.injEq]
 constructor
 ·rintro⟨h1,h2,⟨h3,h4⟩,⟨h5,h6⟩,⟨h7,h8,h9⟩,⟨h10,h11,h12⟩,h13,h14⟩
  exact⟨h1,h2,h3,h4,h5,h6,h7,h8,h9,h10,h11,h12,h13,h14⟩
 ·rintro⟨h1,h2,h3,h4,h5,h6,h7,h8,h9,h10,h11,h12,h13,h14⟩
  exact⟨h1,h2,⟨h3,h4⟩,⟨h5,h6⟩,⟨h7,h8,h9⟩,⟨h10,h11,h12⟩,h13,h14⟩
theorem XJ{x y:SkN}{v u:AV}(hv:kY x v)(hu:kY y u)(wx:x.W)(wy:y.W)(hp:Hp):run cxX 60 [v,u] hp=some (.sc (.bool (decide (x=y))),hp):=by
 obtain⟨g,a,b,c,d,e,f,gw,gn,rfl⟩:=hv
 obtain⟨g',a',b',c',d',e',f',gw',gn',rfl⟩:=hu
 have hd:decide (x=y)=decide (YY x y):=decide_eq_decide.mpr (qtw x y).symm
 have r1:=fun k k' hp=>qn9 x.set y.set k k' hp (by have:=wx.setL;omega)
 have r2:=fun k k' hp=>qoj x.K y.K x.hs y.hs k k' hp (by have:=wx.hsL;omega) (by have:=wy.hsL;omega)
 have r3:=fun k k' hp=>qok x.P y.P x.rg y.rg k k' wx.rg wy.rg hp
 have r4:=fun k k' hp=>qt5 x.B x.H y.B y.H x.bs y.bs k k' hp (by have:=wx.bsL;omega) (by have:=wy.bsL;omega)
 have r5:=fun k k' hp=>qos x.R x.C y.R y.C x.cs y.cs k k' hp (by have:=wx.csL;omega)
 have r6:=fun k k' hp=>qjl x.gK y.gK g g' k k' gw gw' hp
 rw[hd,E60]
 unfold yq
 by_cases h1:x.kind=y.kind
 ·by_cases h2:x.set=y.set
  ·simp only[eq_true h2,decide_true]at r1
   by_cases h3:x.K=y.K/\x.hs=y.hs
   ·simp only[eq_true h3,decide_true]at r2
    by_cases h4:x.P=y.P/\x.rg=y.rg
    ·simp only[eq_true h4,decide_true]at r3
     by_cases h5:x.B=y.B/\x.H=y.H/\x.bs=y.bs
     ·simp only[eq_true h5,decide_true]at r4
      by_cases h6:x.R=y.R/\x.C=y.C/\x.cs=y.cs
      ·simp only[eq_true h6,decide_true]at r5
       have e:decide (YY x y)=decide (x.gK=y.gK/\x.g=y.g):=decide_eq_decide.mpr ⟨fun h=>h.2.2.2.2.2.2,fun h=>⟨h1,h2,h3,h4,h5,h6,h⟩⟩
       rw[gn,gn']at r6
       rw[e]
       simp[qe,qj,ql,eq_true h1,r1,r2,r3,r4,r5,r6]
      ·simp only[eq_false h6,decide_false]at r5
       rw[decide_eq_false (fun h:YY x y=>h6 h.2.2.2.2.2.1)]
       simp[qe,qj,ql,eq_true h1,r1,r2,r3,r4,r5]
     ·simp only[eq_false h5,decide_false]at r4
      rw[decide_eq_false (fun h:YY x y=>h5 h.2.2.2.2.1)]
      simp[qe,qj,ql,eq_true h1,r1,r2,r3,r4]
    ·simp only[eq_false h4,decide_false]at r3
     rw[decide_eq_false (fun h:YY x y=>h4 h.2.2.2.1)]
     simp[qe,qj,ql,eq_true h1,r1,r2,r3]
   ·simp only[eq_false h3,decide_false]at r2
    rw[decide_eq_false (fun h:YY x y=>h3 h.2.2.1)]
    simp[qe,qj,ql,eq_true h1,r1,r2]
  ·simp only[eq_false h2,decide_false]at r1
   rw[decide_eq_false (fun h:YY x y=>h2 h.2.1)]
   simp[qe,qj,eq_true h1,r1]
 ·rw[decide_eq_false (fun h:YY x y=>h1 h.1)]
  simp[qe,h1]
theorem qi9{x y:SkN}{v u:AV}(hv:kY x v)(hu:kY y u)(wx:x.W)(wy:y.W)(hp:Hp):run cxX 19 [v,u] hp=some (.sc (.bool (decide (x=y))),hp):=by
 obtain⟨g,a,b,c,d,e,f,gw,gn,rfl⟩:=hv
 obtain⟨g',a',b',c',d',e',f',gw',gn',rfl⟩:=hu
 have s:=fun hp=>XJ (x:=x) (y:=y) (v:=yq x g (rk a) (rk b) (rk c) (rk d) (rk e) (rk f)) (u:=yq y g' (rk a') (rk b') (rk c') (rk d') (rk e') (rk f')) ⟨g,_,_,_,_,_,_,gw,gn,rfl⟩ ⟨g',_,_,_,_,_,_,gw',gn',rfl⟩ wx wy hp
 rw[E19]
 unfold yq at s⊢
 simp[ql,s]
def xo(x:SkN):SkN:=
 if x.kind=0 then{jw with kind:=x.kind,set:=x.set}
 else if x.kind=1 then{jw with kind:=x.kind,K:=x.K,hs:=x.hs}
 else if x.kind=2 then{jw with kind:=x.kind,P:=x.P,rg:=x.rg}
 else if x.kind=3 then{jw with kind:=x.kind,B:=x.B,H:=x.H,bs:=x.bs}
 else if x.kind=4 then{jw with kind:=x.kind,R:=x.R,C:=x.C,cs:=x.cs}
 else if x.kind=5 then{jw with kind:=x.kind,gK:=x.gK,g:=x.g}
 else{jw with kind:=x.kind}
theorem zao{x:SkN}(h:x.W):(xo x).W:=by
 have z:=ql8
 unfold xo
 repeat' split
 ·exact⟨h.kind,h.set,h.setL,z.hsL,z.rg,z.rgL,z.bs,z.bsL,z.cs,z.csL⟩
 ·exact⟨h.kind,z.set,z.setL,h.hsL,z.rg,z.rgL,z.bs,z.bsL,z.cs,z.csL⟩
 ·exact⟨h.kind,z.set,z.setL,z.hsL,h.rg,h.rgL,z.bs,z.bsL,z.cs,z.csL⟩
 ·exact⟨h.kind,z.set,z.setL,z.hsL,z.rg,z.rgL,h.bs,h.bsL,z.cs,z.csL⟩
 ·exact⟨h.kind,z.set,z.setL,z.hsL,z.rg,z.rgL,z.bs,z.bsL,h.cs,h.csL⟩
 ·exact⟨h.kind,z.set,z.setL,z.hsL,z.rg,z.rgL,z.bs,z.bsL,z.cs,z.csL⟩
 ·exact⟨h.kind,z.set,z.setL,z.hsL,z.rg,z.rgL,z.bs,z.bsL,z.cs,z.csL⟩
theorem qi7{x:SkN}{v:AV}(hv:kY x v)(hp:Hp):∃r,kY (xo x) r/\run cxX 61 [v] hp=some (r,hp):=by
 obtain⟨g,a,b,c,d,e,f,gw,gn,rfl⟩:=hv
 rw[E61]
 unfold xo
 by_cases h0:x.kind=0
 ·rw[if_pos h0]
  refine⟨yq {jw with kind:=x.kind,set:=x.set} gz (rk a) 2 2 2 2 2,⟨gz,_,_,_,_,_,_,xP,rfl,rfl⟩,?_⟩
  simp[yq,jw,gz,LF,qe,qj,ql,qh,h0,xd]
 ·rw[if_neg h0]
  by_cases h1:x.kind=1
  ·rw[if_pos h1]
   refine⟨yq {jw with kind:=x.kind,K:=x.K,hs:=x.hs} gz 2 (rk b) 2 2 2 2,⟨gz,_,_,_,_,_,_,xP,rfl,rfl⟩,?_⟩
   simp[yq,jw,gz,LF,qe,qj,ql,qh,h1,xd]
  ·rw[if_neg h1]
   by_cases h2:x.kind=2
   ·rw[if_pos h2]
    refine⟨yq {jw with kind:=x.kind,P:=x.P,rg:=x.rg} gz 2 2 (rk c) 2 2 2,⟨gz,_,_,_,_,_,_,xP,rfl,rfl⟩,?_⟩
    simp[yq,jw,gz,LF,qe,qj,ql,qh,h2,xd]
   ·rw[if_neg h2]
    by_cases h3:x.kind=3
    ·rw[if_pos h3]
     refine⟨yq {jw with kind:=x.kind,B:=x.B,H:=x.H,bs:=x.bs} gz 2 2 2 (rk d) 2 2,⟨gz,_,_,_,_,_,_,xP,rfl,rfl⟩,?_⟩
     simp[yq,jw,gz,LF,qe,qj,ql,qh,h3,xd]
    ·rw[if_neg h3]
     by_cases h4:x.kind=4
     ·rw[if_pos h4]
      refine⟨yq {jw with kind:=x.kind,R:=x.R,C:=x.C,cs:=x.cs} gz 2 2 2 2 (rk e) 2,⟨gz,_,_,_,_,_,_,xP,rfl,rfl⟩,?_⟩
      simp[yq,jw,gz,LF,qe,qj,ql,qh,h4,xd]
     ·rw[if_neg h4]
      by_cases h5:x.kind=5
      ·rw[if_pos h5]
       refine⟨yq {jw with kind:=x.kind,gK:=x.gK,g:=x.g} g 2 2 2 2 2 (rk f),⟨g,_,_,_,_,_,_,gw,gn,rfl⟩,?_⟩
       simp[yq,jw,gz,LF,qe,qj,ql,qh,h5,xd]
      ·rw[if_neg h5]
       refine⟨yq {jw with kind:=x.kind} gz 2 2 2 2 2 2,⟨gz,_,_,_,_,_,_,xP,rfl,rfl⟩,?_⟩
       simp[yq,jw,gz,LF,qe,qj,ql,qh,h0,h1,h2,h3,h4,h5,xd]
def ZM(x:SkN):Int:=
 if 6<=x.kind then 5 else if x≠xo x then 4
 else if x.kind=0 then qi3 x.set else if x.kind=1 then qp4 x.K x.hs else if x.kind=2 then qp7 x.P x.rg else if x.kind=3 then KT x.B x.H x.bs else if x.kind=4 then ZN x.R x.C x.cs else ZF x.gK x.g
theorem zw{x:SkN}{g:Gs}(gw:g.W)(gn:g.nf=x.g)(a b c d e f:Nat):kY x (yq x g a b c d e f):=⟨g,a,b,c,d,e,f,gw,gn,rfl⟩
theorem kY.vl{x:SkN}{v:AV}(h:kY x v):vlF v=true/\vlV v=true:=by
 obtain⟨g,a,b,c,d,e,f,gw,gn,rfl⟩:=h
 unfold yq
 constructor<;>simp
theorem kY.ro{x:SkN}{v:AV}(h:kY x v):kY x (ro v):=by
 obtain⟨g,a,b,c,d,e,f,gw,gn,rfl⟩:=h
 refine⟨g,rk a,rk b,rk c,rk d,rk e,rk f,gw,gn,?_⟩
 simp[yq]
theorem xl{x:SkN}{v:AV}(hv:kY x v)(w:x.W)(hp:Hp):run cxX 23 [v] hp=some (.sc (.int .i64 (ZM x)),hp):=by
 obtain⟨g,a,b,c,d,e,f,gw,gn,rfl⟩:=hv
 obtain⟨o,ho,hr⟩:=qi7 (zw gw gn (rk a) (rk b) (rk c) (rk d) (rk e) (rk f)) hp0
 have sm:=XJ (zw gw gn (rk a) (rk b) (rk c) (rk d) (rk e) (rk f)) ho.ro w (zao w) hp0
 have vo:=ho.vl
 have vo':=ho.ro.vl
 have hnt:Ql o=some ():=by
  obtain⟨g,a,b,c,d,e,f,gw,gn,rfl⟩:=ho
  rfl
 have hrr:AI.ro (AI.ro o)=AI.ro o:=by
  obtain⟨g,a,b,c,d,e,f,gw,gn,rfl⟩:=ho
  simp[yq]
 have r1:=fun k hp=>qja x.set k hp
 have r2:=fun k hp=>qji x.K x.hs k (by have:=w.hsL;omega) hp
 have r3:=fun k hp=>qjk x.P x.rg k (by have:=w.rgL;omega) w.rg hp
 have r4:=fun k hp=>Wi x.B x.H x.bs k (by have:=w.bsL;omega) w.bs hp
 have r5:=fun k hp=>XO x.R x.C x.cs k (by have:=w.csL;omega) hp
 have r6:=fun k hp=>qjn x.gK g k gw hp
 rw[gn]at r6
 rw[E23]
 unfold ZM
 unfold yq at hr sm⊢
 by_cases h6:6<=x.kind
 ·simp[qe,h6]
 ·rw[if_neg h6]
  by_cases ho':x=xo x
  ·rw[if_neg (fun h=>h ho')]
   simp only[eq_true ho',decide_true]at sm
   by_cases h0:x.kind=0
   ·simp only[h0]at hr sm
    simp[qe,qj,ql,h6,hr,vo,vo',hnt,sm,h0,r1]
   ·by_cases h1:x.kind=1
    ·simp only[h1]at hr sm
     simp[qe,qj,ql,h6,hr,vo,vo',hnt,sm,h1,r2]
    ·by_cases h2:x.kind=2
     ·simp only[h2]at hr sm
      simp[qe,qj,ql,h6,hr,vo,vo',hnt,sm,h2,r3]
     ·by_cases h3:x.kind=3
      ·simp only[h3]at hr sm
       simp[qe,qj,ql,h6,hr,vo,vo',hnt,sm,h3,r4]
      ·by_cases h4:x.kind=4
       ·simp only[h4]at hr sm
        simp[qe,qj,ql,h6,hr,vo,vo',hnt,sm,h4,r5]
       ·simp[qe,qj,ql,h6,hr,vo,vo',hnt,sm,h0,h1,h2,h3,h4,r6]
  ·rw[if_pos ho']
   simp only[eq_false ho',decide_false]at sm
   simp[qe,qj,ql,h6,hr,vo,vo',hnt,sm]
theorem Yr{B:Int}:∀(l:List Int) (p:Option Int),Yt B p l=0->(match p with|none=>yf l|some q=>yf (q::l))/\∀n∈l,n<B
 |[],none,_=>⟨List.Pairwise.nil,by simp⟩
 |[],some q,_=>⟨by simp,by simp⟩
 |x::l,p,h=>by
  unfold Yt at h
  split at h
  ·cases h
  ·rename_i h1
   split at h
   ·have ih:=Yr l (some x) h
    refine⟨ih.1,fun n hn=>?_⟩
    rcases List.mem_cons.mp hn with rfl|hn
    ·omega
    ·exact ih.2 n hn
   ·split at h
    ·cases h
    ·rename_i q h2
     have ih:=Yr l (some x) h
     refine⟨?_,fun n hn=>?_⟩
     ·have hr:yf (x::l):=ih.1
      refine List.pairwise_cons.mpr ⟨fun n hn=>?_,hr⟩
      rcases List.mem_cons.mp hn with rfl|hn
      ·omega
      ·have:=(List.pairwise_cons.mp hr).1 n hn;omega
     ·rcases List.mem_cons.mp hn with rfl|hn
      ·omega
      ·exact ih.2 n hn
theorem qgd{B H:Int}{l:List Int}(h:KT B H l=0)(hl:ZS l):(1<=B/\B<=4096)/\(1<=H/\H<=8)/\xw B l:=by
 unfold KT at h
 split at h
 ·cases h
 ·have c:=Yr l none h
  exact⟨by omega,by omega,c.1,fun n hn=>⟨(hl n hn).1,c.2 n hn⟩⟩
theorem qcm{l:List Int}:qi3 l=0↔l.length<=4096/\yf l:=by
 unfold qi3
 constructor
 ·intro h
  split at h
  ·cases h
  ·exact⟨by omega,Wp h⟩
 ·rintro⟨h1,h2⟩
  rw[if_neg (by omega)];exact Wx h2
theorem Wy:∀{l:List Int},yf l->Zw l=0
 |[],_=>rfl
 |[_],_=>rfl
 |x::y::r,h=>by
  have h':=List.pairwise_cons.mp h
  have hxy:=h'.1 y (by simp)
  show(if y<=x then 8 else Zw (y::r))=0
  rw[if_neg (by omega)]
  exact Wy h'.2
theorem Wq:∀{l:List Int},Zw l=0->yf l
 |[],_=>List.Pairwise.nil
 |[_],_=>by simp
 |x::y::r,h=>by
  have h:(if y<=x then 8 else Zw (y::r))=0:=h
  split at h
  ·cases h
  ·rename_i hxy
   have ih:=Wq h
   have ih':=List.pairwise_cons.mp ih
   refine List.pairwise_cons.mpr ⟨fun n hn=>?_,ih⟩
   rcases List.mem_cons.mp hn with rfl|hn
   ·omega
   ·have:=ih'.1 n hn;omega
theorem qdk{K:Int}{l:List Int}:qp4 K l=0↔(1<=K/\K<=1024)/\(l.length:Int)<=K/\yf l:=by
 unfold qp4
 constructor
 ·intro h
  split at h
  ·cases h
  ·split at h
   ·cases h
   ·exact⟨by omega,by omega,Wq h⟩
 ·rintro⟨h1,h2,h3⟩
  rw[if_neg (by omega),if_neg (by omega)];exact Wy h3
theorem qm3{P:Int}{l:List Int}:qp7 P l=0↔(4<=P/\P<=8)/\l.length=jA P/\∀n∈l,n<=65-P:=by
 unfold qp7 YP
 constructor
 ·intro h
  split at h
  ·cases h
  ·split at h
   ·cases h
   ·split at h
    ·cases h
    ·rename_i h1 h2 h3
     exact⟨by omega,by simpa using h2,fun n hn=>by
      by_cases hlt:65-P<n
      ·exact absurd ⟨n,hn,hlt⟩ h3
      ·omega⟩
 ·rintro⟨h1,h2,h3⟩
  rw[if_neg (by omega),if_neg (by simpa using h2),if_neg]
  rintro⟨n,hn,hlt⟩
  have:=h3 n hn
  omega
theorem qnk{R C:Int}{l:List Int}:ZN R C l=0↔(1<=R/\R<=8)/\(1<=C/\C<=256)/\(l.length:Int)=R*C:=by
 unfold ZN
 constructor
 ·intro h
  split at h
  ·cases h
  ·split at h
   ·cases h
   ·rename_i h1 h2
    exact⟨by omega,by omega,by simpa using h2⟩
 ·rintro⟨h1,h2,h3⟩
  rw[if_neg (by omega),if_neg (by simpa using h3)]
theorem zk{x:SkN}:ZM x=0↔x.kind<6/\x=xo x/\(if x.kind=0 then qi3 x.set else if x.kind=1 then qp4 x.K x.hs else if x.kind=2 then qp7 x.P x.rg else if x.kind=3 then KT x.B x.H x.bs else if x.kind=4 then ZN x.R x.C x.cs else ZF x.gK x.g)=0:=by
 unfold ZM
 constructor
 ·intro h
  split at h
  ·cases h
  ·split at h
   ·cases h
   ·rename_i h1 h2
    exact⟨by omega,by simpa using h2,h⟩
 ·rintro⟨h1,h2,h3⟩
  rw[if_neg (by omega),if_neg (by simpa using h2)];exact h3
structure SkN.W2 (x : SkN) : Prop extends x.W where
 set2:x.set.length<=50000
 hs2:x.hs.length<=50000
 bs2:x.bs.length<=50000
 gK2:x.kind=5->x.gK<=100000
def Ze(x:SkN)(g:Gs)(a b c d e f:Nat):List AV:=[.sc (.int .u8 x.kind),S a 1 (LI .u32 x.set),.sc (.int .i64 x.K),S b 1 (LI .u64 x.hs),.sc (.int .i64 x.P),S c 1 (LI .u8 x.rg),.sc (.int .i64 x.B),.sc (.int .i64 x.H),S d 1 (LI .u32 x.bs),.sc (.int .i64 x.R),.sc (.int .i64 x.C),S e 1 (LI .u32 x.cs),
 .sc (.int .i64 x.gK),.sc (.int .u32 g.M),.sc (.int .u32 g.e0),.sc (.int .u32 g.e1),.sc (.int .u32 g.e2),.sc (.int .u32 g.e3),.sc (.int .u32 g.e4),.sc (.int .u32 g.e5),fl g.lo,fl g.hi,S f 1 (LF g.L)]
def QY:List AV:=[.sc (.int .u8 0),.sc (.slice none 0 0),.sc (.int .i64 0),.sc (.slice none 0 0),.sc (.int .i64 0),.sc (.slice none 0 0),.sc (.int .i64 0),.sc (.int .i64 0),.sc (.slice none 0 0),.sc (.int .i64 0),.sc (.int .i64 0),.sc (.slice none 0 0),.sc (.int .i64 0),.sc (.int .u32 0),.sc (.int .u32 0),.sc (.int .u32 0),.sc (.int .u32 0),.sc (.int .u32 0),.sc (.int .u32 0),.sc (.int .u32 0),fl 0,fl 0,.sc (.slice none 0 0)]
theorem zba{P:Int}{l:List Int}{h:Int}(hP:4<=P/\P<=8)(hl:∀n∈l,0<=n/\n<256):∀n∈wC P l h,0<=n/\n<256:=by
 unfold wC
 split
 ·rename_i hi
  intro n hn
  rcases List.mem_or_eq_of_mem_set hn with hn|rfl
  ·exact hl n hn
  ·have h1:=qdm (h:=h) hP
   have h2:=hl l[yx P h] (List.getElem_mem hi)
   have e:l.getD (yx P h) 0=l[yx P h]:=by simp[hi]
   rw[e];omega
 ·exact hl
structure Fine (x : SkN) : Prop where
 w:x.W
 c:ZM x=0
 pos:x.g.Pos
theorem Kn:gz.nf.Pos:=xP.pos
theorem Fine.W2{x:SkN}(h:Fine x):x.W2:=by
 obtain⟨kd,on,sp⟩:=zk.mp h.c
 have w:=h.w
 refine⟨w,?_,?_,?_,?_⟩
 ·rw[on];unfold xo
  by_cases k0:x.kind=0
  ·rw[if_pos k0]at sp⊢
   have:=(qcm.mp sp).1
   show x.set.length<=_;omega
  ·rw[if_neg k0]
   repeat' split
   all_goals exact Nat.zero_le _
 ·rw[on];unfold xo
  by_cases k0:x.kind=0
  ·rw[if_pos k0];exact Nat.zero_le _
  ·rw[if_neg k0]at sp⊢
   by_cases k1:x.kind=1
   ·rw[if_pos k1]at sp⊢
    have:=qdk.mp sp
    show x.hs.length<=_;omega
   ·rw[if_neg k1]
    repeat' split
    all_goals exact Nat.zero_le _
 ·rw[on];unfold xo
  by_cases k3:x.kind=3
  ·have n0:¬(x.kind=0):=by omega
   have n1:¬(x.kind=1):=by omega
   have n2:¬(x.kind=2):=by omega
   rw[if_neg n0,if_neg n1,if_neg n2,if_pos k3]at sp⊢
   obtain⟨hB,hH,hg⟩:=qgd sp w.bs
   have:=hg.len hB.2
   show x.bs.length<=_;omega
  ·repeat' split
   all_goals first|exact Nat.zero_le _|(exfalso;omega)
 ·intro k5
  have n0:¬(x.kind=0):=by omega
  have n1:¬(x.kind=1):=by omega
  have n2:¬(x.kind=2):=by omega
  have n3:¬(x.kind=3):=by omega
  have n4:¬(x.kind=4):=by omega
  rw[if_neg n0,if_neg n1,if_neg n2,if_neg n3,if_neg n4]at sp
  have:=Xp.mp sp
  omega
theorem six{x:SkN}(h:x.W)(hk:x.kind<6):x.kind=0\/x.kind=1\/x.kind=2\/x.kind=3\/x.kind=4\/x.kind=5:=by
 have:=h.kind;omega
def tn(l:List Int):List Nat:=l.map Int.toNat
@[simp] theorem XB (l : List Int) : (tn l).length = l.length := by simp [tn]
theorem qml:∀{l:List Int},(∀n∈l,0<=n)->nz (tn l)=l:=by
 intro l
 induction l with
 |nil=>intro _;rfl
 |cons x r ih=>
  intro h
  have hx:=h x (by simp)
  have e:nz (tn (x::r))=(x.toNat:Int)::nz (tn r):=rfl
  rw[e,ih (fun n hn=>h n (by simp[hn])),Int.toNat_of_nonneg hx]
theorem qce{l:List Int}{B:Nat}(h:∀n∈l,0<=n/\n<(B:Int)):∀x∈tn l,x<B:=by
 intro x hx
 obtain⟨n,hn,rfl⟩:=List.mem_map.mp hx
 have:=h n hn
 omega
theorem qcy:∀{l:List Int},(∀n∈l,0<=n)->yf l->zi (tn l):=by
 intro l
 induction l with
 |nil=>intro _ _;trivial
 |cons x r ih=>
  intro h hr
  cases r with
  |nil=>trivial
  |cons y s=>
   have hx:=h x (by simp)
   have hy:=h y (by simp)
   have h1:=(List.pairwise_cons.mp hr).1 y (by simp)
   exact⟨by omega,ih (fun n hn=>h n (by simp[hn])) (List.pairwise_cons.mp hr).2⟩
theorem Vx:∀{l:List Nat},zi l->jc l:=by
 intro l
 induction l with
 |nil=>intro _;trivial
 |cons x r ih=>
  intro h
  cases r with
  |nil=>trivial
  |cons y s=>exact⟨Nat.le_of_lt h.1,ih h.2⟩
def yd(c:Int):List Int->Nat->Int->List Int
 |[],_,_=>[]
 |n::r,i,last=>uv (zz (n-if(i:Int)%max c 1=0 then 0 else last))++yd c r (i+1) n
theorem qmf(c:Int)(i:Nat)(t:TypeId)(x y:Operand):qr Tryz.prog .rem t x y (.int .i64 (i:Int)) (.int .i64 (max c 1))=some (.int .i64 ((i:Int)%max c 1)):=by
 rw[qW _ _ _ _ _ _ _ (by omega),qV (by omega)]
theorem qb8{n m:Int}(hn:0<=n/\n<4294967296)(hm:0<=m/\m<4294967296):(uv (zz (n-m))).length<=10:=qx (qdz (by omega) (by omega))
section
variable (c:Int)(l:List Int)(hl:l.length<=4096)(h32:ZS l)
include hl h32 in
theorem qgu(b k:Nat):∀(r:List Int) (i:Nat) (last:Int) (acc:List Int) (hp:Hp),l.drop i=r->hp.rd b 0=some (Wc acc)->acc.length<=10*i+20->i<=l.length->(0<=last/\last<4294967296)->
 B11_2 (.ptr b 0 0) (.int .i64 c) (.int .i64 last) (S k 1 (LI .u32 l)) (.int .i64 l.length) (.int .i64 i) hp=some (.tup [],hp.put b 0 (Wc (acc++yd c r i last))):=by
 intro r
 induction r with
 |nil=>
  intro i last acc hp hr h ha hil hla
  have:=qB hr
  have hlt:¬((i:Int)<(l.length:Int)):=by omega
  rw[qip]
  simp only[yd,List.append_nil,zE h]
  simp[hlt]
 |cons x r ih=>
  intro i last acc hp hr h ha hil hla
  obtain⟨e1,e2,hi,e3⟩:=qm hr
  have hx:=h32 x (List.mem_of_getElem? e1)
  have rm:=qmf c i
  obtain⟨lst,hlst⟩:∃lst:Int,lst=if(i:Int)%max c 1=0 then 0 else last:=⟨_,rfl⟩
  have hb:0<=lst/\lst<4294967296:=by rw[hlst];split<;>omega
  have le:=qb8 hx hb
  have wi:=qtz b (x-lst) acc (by omega) (by omega) hp h
  have ws:IntKind.i64.wrap x=x:=qf (by omega) (by omega)
  have wd:IntKind.i64.wrap (x-lst)=x-lst:=qf (by omega) (by omega)
  have hw:IntKind.i64.wrap ((i:Int)+1)=((i+1:Nat):Int):=by rw[qf]<;>omega
  have hh:=ih (i+1) x (acc++uv (zz (x-lst))) (hp.put b 0 (Wc (acc++uv (zz (x-lst))))) e2 (qi _ _ _) (by simp;omega) (by omega) hx
  rw[qp]at hh
  have ec:acc++yd c (x::r) i last=acc++uv (zz (x-lst))++yd c r (i+1) x:=by
   rw[hlst,List.append_assoc];rfl
  rw[ec]
  have b6:B11_6 (.ptr b 0 0) (.int .i64 c) (.int .i64 lst) (.int .u32 x) (S k 1 (LI .u32 l)) (.int .i64 l.length) (.int .i64 i) hp=some (.tup [],hp.put b 0 (Wc (acc++uv (zz (x-lst))++yd c r (i+1) x))):=by
   rw[qyy]
   simp only[Int.natCast_add,Int.natCast_one]at hw hh
   generalize uv (zz (x-lst))=u at*
   simp[ws,wd,wi,hw]
   simpa using hh
  rw[qip]
  by_cases h0:(i:Int)%max c 1=0
  ·have el:lst=0:=by rw[hlst,if_pos h0]
   rw[el]at b6
   simp[hi,e3,qe,rm,h0]
   rw[List.append_assoc]at b6
   rw[el]
   exact b6
  ·have el:lst=last:=by rw[hlst,if_neg h0]
   rw[el]at b6
   simp[hi,e3,qe,rm,h0]
   rw[List.append_assoc]at b6
   rw[el]
   exact b6
theorem qfl(h32:ZS l):∀(r:List Int) (i:Nat) (last:Int),(∀n∈r,0<=n/\n<4294967296)->(0<=last/\last<4294967296)->(yd c r i last).length<=10*r.length
 |[],_,_,_,_=>by simp[yd]
 |x::r,i,last,h,hla=>by
  have ih:=qfl h32 r (i+1) x (fun n hn=>h n (by simp[hn])) (h x (by simp))
  have le:(uv (zz (x-if(i:Int)%max c 1=0 then 0 else last))).length<=10:=qb8 (h x (by simp)) (by split<;>omega)
  simp only[yd,List.length_append,List.length_cons]
  omega
include hl h32 in
theorem qjq(b k:Nat)(acc:List Int)(ha:acc.length<=20)(hp:Hp)(h:hp.rd b 0=some (Wc acc)):
 run cxX 11 [.ptr b 0 0,.sc (.int .i64 c),S k 1 (LI .u32 l)] hp=some (.tup [],hp.put b 0 (Wc (acc++yd c l 0 0))):=by
 have hh:=qgu c l hl h32 b (rk k) l 0 0 acc hp rfl h (by omega) (by omega) (by omega)
 rw[E11]
 simp at hh
 simpa using hh
end
def yX(p:Nat):List Nat->List Int
 |[]=>[]
 |k::r=>uv (k-p)++yX k r
def vL(K:Int)(g:GN):List Int:=
 [K]++uv g.M.toNat++uv g.e0.toNat++uv g.e1.toNat++uv g.e2.toNat++uv g.e3.toNat++uv g.e4.toNat++uv g.e5.toNat++uv g.lo++uv g.hi++[(g.L.length:Int)]++yX 0 g.L
theorem Qj:∀{l:List Nat},Zx l=0->jc l:=by
 intro l
 induction l with
 |nil=>intro _;trivial
 |cons x r ih=>
  intro h
  cases r with
  |nil=>trivial
  |cons y s=>
   have h':(if y<x then 8 else Zx (y::s))=0:=h
   by_cases c:y<x
   ·rw[if_pos c]at h';cases h'
   ·rw[if_neg c]at h'
    exact⟨by omega,ih h'⟩
theorem qpd(w k:Nat)(L:List Nat)(hL:Ws L)(hlen:L.length<=1000):∀(r:List Nat) (i p:Nat) (Z:List Int) (hp:Hp),L.drop i=r->jc (p::r.map kw)->p<18446744073709551616->Z.length<=1000+10*i->hp.rd w 0=some (Wc Z)->
 B40_14 (.ptr w 0 0) (.int .u64 (p:Int)) (S k 1 (LF L)) (.int .i64 (L.length:Int)) (.int .i64 (i:Int)) hp=some (.tup [],hp.put w 0 (Wc (Z++yX p (r.map kw)))):=by
 intro r
 induction r with
 |nil=>
  intro i p Z hp h hn hp' hZ hw
  have h1:=qB h
  have hlt:¬((i:Int)<(L.length:Int)):=by omega
  rw[qaq]
  simp[hlt,yX,zE hw]
 |cons x r ih=>
  intro i p Z hp h hn hp' hZ hw
  obtain⟨e1,e2,hi,e3⟩:=qm h
  have hx:x<18446744073709551616:=hL x (by rw[<-e3];exact List.getElem_mem _)
  have ky:=xK x hx hp0
  have kl:=vG x hx
  have hpk:p<=kw x:=hn.1
  have hlt:(i:Int)<(L.length:Int):=by omega
  have hu:=qx (n:=kw x-p) (by omega)
  have wu:=zC w (kw x-p) Z (by omega) (by omega) hp hw
  have hi2:=ih (i+1) (kw x) (Z++uv (kw x-p)) (hp.put w 0 (Wc (Z++uv (kw x-p)))) e2 hn.2 kl (by simp;omega) (qi _ _ _)
  rw[qp,List.append_assoc]at hi2
  have w1:IntKind.u64.wrap ((kw x:Int)-(p:Int))=((kw x-p:Nat):Int):=by rw[qn]<;>omega
  have w2:IntKind.i64.wrap ((i:Int)+1)=((i+1:Nat):Int):=by rw[qf]<;>omega
  have e:yX p ((x::r).map kw)=uv (kw x-p)++yX (kw x) (r.map kw):=rfl
  have al:(LF L)[i]?=some (fl x):=by
   unfold LF
   rw[List.getElem?_map,e1];rfl
  have gf:qe [fl x] 0=vA (fl x):=rfl
  rw[e,<-hi2,qaq]
  obtain⟨F,hF⟩:∃F,fl x= .sc F:=⟨_,rfl⟩
  rw[hF]at ky al
  generalize((kw x-p:Nat):Int)=D at*
  generalize((i+1:Nat):Int)=I at*
  have gs0:∀(v:Value),qe [.sc v] 0=some v:=fun _=>rfl
  have g1:(0:Int)<=(i:Int):=by omega
  have ix:∀k,yw 1 (S k 1 (LF L)) (.int .i64 (i:Int))=some [.sc F]:=by
   intro k
   rw[qkw,if_pos g1,Int.toNat_natCast,al];rfl
  generalize LF L=LL at*
  simp[hlt,ix,gs0,ky,w1,wu,w2]
theorem ixe(a b c d e f:Int):ixV Tryz.prog 49 (.agg #[.int .u32 a,.int .u32 b,.int .u32 c,.int .u32 d,.int .u32 e,.int .u32 f]) (.int .i64 0)=some (.int .u32 a)
 /\ixV Tryz.prog 49 (.agg #[.int .u32 a,.int .u32 b,.int .u32 c,.int .u32 d,.int .u32 e,.int .u32 f]) (.int .i64 1)=some (.int .u32 b)
 /\ixV Tryz.prog 49 (.agg #[.int .u32 a,.int .u32 b,.int .u32 c,.int .u32 d,.int .u32 e,.int .u32 f]) (.int .i64 2)=some (.int .u32 c)
 /\ixV Tryz.prog 49 (.agg #[.int .u32 a,.int .u32 b,.int .u32 c,.int .u32 d,.int .u32 e,.int .u32 f]) (.int .i64 3)=some (.int .u32 d)
 /\ixV Tryz.prog 49 (.agg #[.int .u32 a,.int .u32 b,.int .u32 c,.int .u32 d,.int .u32 e,.int .u32 f]) (.int .i64 4)=some (.int .u32 e)
 /\ixV Tryz.prog 49 (.agg #[.int .u32 a,.int .u32 b,.int .u32 c,.int .u32 d,.int .u32 e,.int .u32 f]) (.int .i64 5)=some (.int .u32 f):=⟨by kernel_rfl,by kernel_rfl,by kernel_rfl,by kernel_rfl,by kernel_rfl,by kernel_rfl⟩
theorem qir(w:Nat)(n:Int)(hn:za n)(Z:List Int)(hZ:Z.length<=1000)(hp:Hp)(h:hp.rd w 0=some (Wc Z)):
 run cxX 25 [.ptr w 0 0,.sc (.int .u64 n)] hp=some (.tup [],hp.put w 0 (Wc (Z++uv n.toNat)))/\(uv n.toNat).length<=10:=by
 have h1:n.toNat<18446744073709551616:=by have:=hn.2;omega
 have hu:=qx h1
 have:=zC w n.toNat Z h1 (by omega) hp h
 rw[Int.toNat_of_nonneg hn.1]at this
 exact⟨this,hu⟩
theorem qua(w:Nat)(K:Int)(g:Gs)(k:Nat)(hK:0<=K/\K<256)(gw:g.W)(hn:Zx g.nf.L=0)(hlen:g.L.length<=200)(hp:Hp)(h:hp.rd w 0=some (Wc [])):
 run cxX 40 [.ptr w 0 0,.agg [.sc (.int .i64 K),.sc (.int .u32 g.M),.sc (.int .u32 g.e0),.sc (.int .u32 g.e1),.sc (.int .u32 g.e2),.sc (.int .u32 g.e3),.sc (.int .u32 g.e4),.sc (.int .u32 g.e5),fl g.lo,fl g.hi,S k 1 (LF g.L)]] hp=
  some (.tup [],hp.put w 0 (Wc (vL K g.nf))):=by
 have nn:=Qj hn
 have klo:=xK g.lo gw.lo hp0
 have khi:=xK g.hi gw.hi hp0
 have llo:=vG g.lo gw.lo
 have lhi:=vG g.hi gw.hi
 have wK:IntKind.u8.wrap K=K:=qT hK.1 hK.2
 have w32:∀n,za n->IntKind.u64.wrap n=n:=fun n hn=>qn hn.1 (by have:=hn.2;omega)
 have u0:=zW w [] K (by decide) hp h
 rw[List.nil_append]at u0
 obtain⟨Z0,hZ0⟩:∃Z,Z=[K]:=⟨_,rfl⟩
 rw[<-hZ0]at u0
 have l0:Z0.length<=1:=by rw[hZ0];simp
 obtain⟨u1,v1⟩:=qir w g.M gw.M Z0 (by omega) _ (qi hp w (Wc Z0))
 obtain⟨Z1,hZ1⟩:∃Z,Z=Z0++uv g.M.toNat:=⟨_,rfl⟩
 rw[<-hZ1,qp]at u1
 have l1:Z1.length<=11:=by rw[hZ1];simp;omega
 obtain⟨u2,v2⟩:=qir w g.e0 gw.e0 Z1 (by omega) _ (qi hp w (Wc Z1))
 obtain⟨Z2,hZ2⟩:∃Z,Z=Z1++uv g.e0.toNat:=⟨_,rfl⟩
 rw[<-hZ2,qp]at u2
 have l2:Z2.length<=21:=by rw[hZ2];simp;omega
 obtain⟨u3,v3⟩:=qir w g.e1 gw.e1 Z2 (by omega) _ (qi hp w (Wc Z2))
 obtain⟨Z3,hZ3⟩:∃Z,Z=Z2++uv g.e1.toNat:=⟨_,rfl⟩
 rw[<-hZ3,qp]at u3
 have l3:Z3.length<=31:=by rw[hZ3];simp;omega
 obtain⟨u4,v4⟩:=qir w g.e2 gw.e2 Z3 (by omega) _ (qi hp w (Wc Z3))
 obtain⟨Z4,hZ4⟩:∃Z,Z=Z3++uv g.e2.toNat:=⟨_,rfl⟩
 rw[<-hZ4,qp]at u4
 have l4:Z4.length<=41:=by rw[hZ4];simp;omega
 obtain⟨u5,v5⟩:=qir w g.e3 gw.e3 Z4 (by omega) _ (qi hp w (Wc Z4))
 obtain⟨Z5,hZ5⟩:∃Z,Z=Z4++uv g.e3.toNat:=⟨_,rfl⟩
 rw[<-hZ5,qp]at u5
 have l5:Z5.length<=51:=by rw[hZ5];simp;omega
 obtain⟨u6,v6⟩:=qir w g.e4 gw.e4 Z5 (by omega) _ (qi hp w (Wc Z5))
 obtain⟨Z6,hZ6⟩:∃Z,Z=Z5++uv g.e4.toNat:=⟨_,rfl⟩
 rw[<-hZ6,qp]at u6
 have l6:Z6.length<=61:=by rw[hZ6];simp;omega
 obtain⟨u7,v7⟩:=qir w g.e5 gw.e5 Z6 (by omega) _ (qi hp w (Wc Z6))
 obtain⟨Z7,hZ7⟩:∃Z,Z=Z6++uv g.e5.toNat:=⟨_,rfl⟩
 rw[<-hZ7,qp]at u7
 have l7:Z7.length<=71:=by rw[hZ7];simp;omega
 have v8:=qx llo
 have u8:=zC w (kw g.lo) Z7 llo (by omega) _ (qi hp w (Wc Z7))
 obtain⟨Z8,hZ8⟩:∃Z,Z=Z7++uv (kw g.lo):=⟨_,rfl⟩
 rw[<-hZ8,qp]at u8
 have l8:Z8.length<=81:=by rw[hZ8];simp;omega
 have v9:=qx lhi
 have u9:=zC w (kw g.hi) Z8 lhi (by omega) _ (qi hp w (Wc Z8))
 obtain⟨Z9,hZ9⟩:∃Z,Z=Z8++uv (kw g.hi):=⟨_,rfl⟩
 rw[<-hZ9,qp]at u9
 have l9:Z9.length<=91:=by rw[hZ9];simp;omega
 have ua:=zW w Z9 (g.L.length:Int) (by omega) _ (qi hp w (Wc Z9))
 obtain⟨ZA,hZA⟩:∃Z,Z=Z9++[(g.L.length:Int)]:=⟨_,rfl⟩
 rw[<-hZA,qp]at ua
 have la:ZA.length<=92:=by rw[hZA];simp;omega
 have lp:=qpd w (rk k) g.L gw.L (by omega) g.L 0 0 ZA (hp.put w 0 (Wc ZA)) rfl (jS nn) (by omega) (by omega) (qi _ _ _)
 rw[qp]at lp
 have eY:vL K g.nf=ZA++yX 0 (g.L.map kw):=by
  rw[hZA,hZ9,hZ8,hZ7,hZ6,hZ5,hZ4,hZ3,hZ2,hZ1,hZ0]
  unfold vL Gs.nf
  simp
 rw[eY]
 have wl:IntKind.u8.wrap (g.L.length:Int)=(g.L.length:Int):=qT (by omega) (by omega)
 have x1:=w32 _ gw.M
 have x2:=w32 _ gw.e0
 have x3:=w32 _ gw.e1
 have x4:=w32 _ gw.e2
 have x5:=w32 _ gw.e3
 have x6:=w32 _ gw.e4
 have x7:=w32 _ gw.e5
 obtain⟨i0,i1,i2,i3,i4,i5⟩:=ixe g.e0 g.e1 g.e2 g.e3 g.e4 g.e5
 obtain⟨FL,hFL⟩:∃F,fl g.lo= .sc F:=⟨_,rfl⟩
 obtain⟨FH,hFH⟩:∃F,fl g.hi= .sc F:=⟨_,rfl⟩
 rw[hFL]at klo⊢
 rw[hFH]at khi⊢
 have lL:(LF g.L).length=g.L.length:=by simp[LF]
 obtain⟨g0,g1,g2,g3,g4,g5,g6,g7,g8,g9⟩:=g
 simp only at*
 generalize Wc (ZA++yX 0 (g9.map kw))=WF at*
 generalize Wc ZA=WA at*
 generalize Wc Z9=W9 at*
 generalize Wc Z8=W8 at*
 generalize Wc Z7=W7 at*
 generalize Wc Z6=W6 at*
 generalize Wc Z5=W5 at*
 generalize Wc Z4=W4 at*
 generalize Wc Z3=W3 at*
 generalize Wc Z2=W2 at*
 generalize Wc Z1=W1 at*
 generalize Wc Z0=W0 at*
 have ca:yE (.agg [.sc (.int .u32 g1),.sc (.int .u32 g2),.sc (.int .u32 g3),.sc (.int .u32 g4),.sc (.int .u32 g5),.sc (.int .u32 g6)])=some (.agg #[.int .u32 g1,.int .u32 g2,.int .u32 g3,.int .u32 g4,.int .u32 g5,.int .u32 g6]):=rfl
 have gb:wU (.fn (4294967296+25) [.ptr w 0 0])=some (25,[.ptr w 0 0]):=rfl
 simp only[Nat.reduceAdd]at gb
 obtain⟨fy,fl1⟩:∃y,qnd [AV.ptr w 0 0]=some y:=⟨_,rfl⟩
 simp only[Int.natCast_zero]at lp
 rw[E40]
 simp[ql,qe,qj,wK,u0,jn,zJ,x1,fl1,gb,u1]
 rw[va]
 simp[ca,i0,zJ,x2,gb,u2]
 rw[va]
 simp[ca,i1,zJ,x3,gb,u3]
 rw[va]
 simp[ca,i2,zJ,x4,gb,u4]
 rw[va]
 simp[ca,i3,zJ,x5,gb,u5]
 rw[va]
 simp[ca,i4,zJ,x6,gb,u6]
 rw[va]
 simp[ca,i5,zJ,x7,gb,u7]
 rw[va]
 simp[qe,qj,klo,gb,u8,khi,u9,lL,jn,wl,ua,lp]
def qM(x:SkN):List Int:=
 if x.kind=0 then vx (jG (tn x.set))
 else if x.kind=1 then uv x.K.toNat++yc (tn x.hs)
 else if x.kind=2 then x.P::xu (tn x.rg)
 else if x.kind=3 then uv x.B.toNat++[x.H]++yS (tn x.bs)
 else if x.kind=4 then [x.R]++uv x.C.toNat++yd x.C x.cs 0 0
 else vL x.gK x.g
def H64(x:SkN):Prop:=∀n∈x.hs,0<=n/\n<18446744073709551616
theorem qe7{l:List Nat}(hl:l.length<=1024)(h64:∀x∈l,x<18446744073709551616):(yc l).length<=700100:=by
 obtain⟨k63,hq⟩:=Jo (vk h64)
 have hbl:=QK (zY (qt l)) k63 (qt l) hq
 rw[kN]at hbl
 have hlY:(pk (jz (qt l))).length<700000:=by rw[zR];unfold jz;omega
 have h1:=qx (n:=l.length) (by omega)
 have h2:=qx (n:=(pk (jz (qt l))).length) (by omega)
 unfold yc
 simp only[List.length_append,List.length_singleton]
 omega
theorem qgp{l:List Nat}(hl:l.length<=4096)(h32:∀x∈l,x<4294967296)(hr:jc l):(yS l).length<=100000:=by
 by_cases hne:l=[]
 ·subst hne
  have e:yS []=uv 0++uv 0++[]++uv 0++[]:=rfl
  have h:=qx (n:=0) (by omega)
  rw[e]
  simp only[List.length_append,List.length_nil]
  omega
 ·obtain⟨a,b,c⟩:=kP l hl h32 hr hne
  have h1:=qx (n:=l.length) (by omega)
  have h2:=qx (n:=qA l) (by omega)
  have hm:l.length*qy l<=4096*32:=Nat.mul_le_mul hl a
  have h3:=qx (n:=(pk (qC (qy l) 0 l)).length) (by rw[zR];omega)
  unfold yS
  simp only[List.length_append,zR,QP]at*
  omega
theorem qds{l:List Nat}(hl:l.length<=1000)(h64:∀x∈l,x<64):(xu l).length<=100000:=by
 rw[(Xr l h64).2]
 have key:∀(l cs:List Nat) (s:En),okM cs->(∀x∈l,x<64)->Za s s.width->16777216<=s.width/\s.width<=4294967296->eK (enc cs s l)<=eK s+4*l.length:=by
  intro l
  induction l with
  |nil=>intro cs s _ _ _ _;exact Nat.le_refl _
  |cons x r ih=>
   intro cs s hm hl h hw
   obtain⟨d,b1,b2,b3,b4,b5,b6,b7⟩:=ZR s cs x hm (hl x (by simp)) h hw
   have hd:d<=4:=zcp b7 (by rw[<-b2];exact b6)
   have:=ih (JT cs x) (zj 4 (xg s cs x)) (Zr hm (hl x (by simp))) (fun y hy=>hl y (by simp[hy])) b4 ⟨b5,b6⟩
   have e:enc cs s (x::r)=enc (JT cs x) (zj 4 (xg s cs x)) r:=rfl
   rw[e,List.length_cons]
   omega
 have:=key l cs0 en0 qv0 h64 qv1 ⟨by decide,by decide⟩
 have e0:eK en0=0:=rfl
 omega
theorem quz{l:List Nat}(hl:l.length<=4096)(h32:∀x∈l,x<4294967296):(vx (jG l)).length<=900000:=by
 have hc:=Xs l
 have h1:=qx (n:=(jG l).length) (by omega)
 have key:∀cs:List (Nat×Nat),(∀c∈cs,okC c)->(vu cs).length<=60*cs.length:=by
  intro cs
  induction cs with
  |nil=>intro _;exact Nat.le_refl _
  |cons c r ih=>
   intro h
   have:=ih (fun d hd=>h d (by simp[hd]))
   have:=KF (h c (by simp))
   simp only[vu,List.length_append,List.length_cons]
   omega
 have:=key (jG l) (KE h32)
 unfold vx
 simp only[List.length_append]
 omega
theorem QG{x:SkN}(f:Fine x)(k:x.kind=0):x.set.length<=4096/\zi (tn x.set)/\(∀n∈tn x.set,n<4294967296)/\nz (tn x.set)=x.set:=by
 have h:=(zk.mp f.c).2.2
 rw[if_pos k]at h
 have s:=qcm.mp h
 have n0:∀n∈x.set,0<=n:=fun n hn=>(f.w.set n hn).1
 exact⟨s.1,qcy n0 s.2,qce (B:=4294967296) f.w.set,qml n0⟩
theorem vH{x:SkN}(f:Fine x)(k:x.kind=1)(h64:H64 x):(1<=x.K/\x.K<=1024)/\x.hs.length<=1024/\zi (tn x.hs)/\(∀n∈tn x.hs,n<18446744073709551616)/\nz (tn x.hs)=x.hs:=by
 have h:=(zk.mp f.c).2.2
 rw[if_neg (by omega),if_pos k]at h
 have s:=qdk.mp h
 have n0:∀n∈x.hs,0<=n:=fun n hn=>(h64 n hn).1
 exact⟨s.1,by omega,qcy n0 s.2.2,qce (B:=18446744073709551616) h64,qml n0⟩
theorem vJ{x:SkN}(f:Fine x)(k:x.kind=2):(4<=x.P/\x.P<=8)/\x.rg.length=jA x.P/\x.rg.length<=256/\(∀n∈tn x.rg,n<64)/\nz (tn x.rg)=x.rg:=by
 have h:=(zk.mp f.c).2.2
 rw[if_neg (by omega),if_neg (by omega),if_pos k]at h
 have s:=qm3.mp h
 have n0:∀n∈x.rg,0<=n:=fun n hn=>(f.w.rg n hn).1
 have hp:jA x.P<=256:=by
  unfold jA
  exact Nat.le_trans (Nat.pow_le_pow_right (by decide) (show x.P.toNat<=8 by omega)) (by decide)
 exact⟨s.1,s.2.1,by omega,qce (B:=64) (fun n hn=>⟨n0 n hn,by have:=s.2.2 n hn;omega⟩),qml n0⟩
theorem vQ{x:SkN}(f:Fine x)(k:x.kind=3):(1<=x.B/\x.B<=4096)/\(1<=x.H/\x.H<=8)/\x.bs.length<=4096/\jc (tn x.bs)/\(∀n∈tn x.bs,n<4294967296)/\nz (tn x.bs)=x.bs:=by
 have h:=(zk.mp f.c).2.2
 rw[if_neg (by omega),if_neg (by omega),if_neg (by omega),if_pos k]at h
 have s:=qgd h f.w.bs
 have n0:∀n∈x.bs,0<=n:=fun n hn=>(f.w.bs n hn).1
 exact⟨s.1,s.2.1,s.2.2.len s.1.2,Vx (qcy n0 s.2.2.1),qce (B:=4294967296) f.w.bs,qml n0⟩
theorem vP{x:SkN}(f:Fine x)(k:x.kind=4):(1<=x.R/\x.R<=8)/\(1<=x.C/\x.C<=256)/\(x.cs.length:Int)=x.R*x.C/\x.cs.length<=2048:=by
 have h:=(zk.mp f.c).2.2
 rw[if_neg (by omega),if_neg (by omega),if_neg (by omega),if_neg (by omega),if_pos k]at h
 have s:=qnk.mp h
 have:=qgv s.1 s.2.1
 exact⟨s.1,s.2.1,s.2.2,by omega⟩
theorem vK{x:SkN}(f:Fine x)(k:x.kind=5):(1<=x.gK/\x.gK<=16)/\Zx x.g.L=0/\x.g.L.length<=16:=by
 have h:=(zk.mp f.c).2.2
 rw[if_neg (by omega),if_neg (by omega),if_neg (by omega),if_neg (by omega),if_neg (by omega)]at h
 unfold ZF at h
 split at h
 ·cases h
 ·rename_i h1
  split at h
  ·rename_i h2
   exact⟨by omega,h2,by omega⟩
  ·cases h
theorem QL(b:Nat)(Y:List Int)(hY:Y.length<=1000000)(hp:Hp)(h:hp.rd b 0=some (Wc Y)):B16_28 (.ptr b 0 0) hp=some (.tup [S 1 1 (LI .u8 Y),.sc (.int .i64 0)],hp):=by
 have wb:=Zs b Y hY hp h
 rw[qaz]
 simp[wb]
theorem qfh{x:SkN}{v:AV}(hv:kY x v)(f:Fine x)(h64:H64 x):(qM x).length<=1000000:=by
 obtain⟨g,a,b,c,d,e,t,gw,gn,rfl⟩:=hv
 have hk:=f.w.kind
 have kd:=(zk.mp f.c).1
 have six:x.kind=0\/x.kind=1\/x.kind=2\/x.kind=3\/x.kind=4\/x.kind=5:=by omega
 unfold qM
 rcases six with k|k|k|k|k|k
 ·rw[if_pos k]
  have s:=QG f k
  have:=quz (l:=tn x.set) (by simp;exact s.1) s.2.2.1
  omega
 ·have s:=vH f k h64
  have:=qe7 (l:=tn x.hs) (by simp;exact s.2.1) s.2.2.2.1
  have hu:=qx (n:=x.K.toNat) (by omega)
  rw[if_neg (by omega),if_pos k,List.length_append]
  omega
 ·have s:=vJ f k
  have:=qds (l:=tn x.rg) (by simp;omega) s.2.2.2.1
  rw[if_neg (by omega),if_neg (by omega),if_pos k,List.length_cons]
  omega
 ·have s:=vQ f k
  have:=qgp (l:=tn x.bs) (by simp;exact s.2.2.1) s.2.2.2.2.1 s.2.2.2.1
  have hu:=qx (n:=x.B.toNat) (by omega)
  rw[if_neg (by omega),if_neg (by omega),if_neg (by omega),if_pos k]
  simp only[List.length_append,List.length_singleton]
  omega
 ·have s:=vP f k
  have:=qfl x.C x.cs f.w.cs x.cs 0 0 f.w.cs (by omega)
  have hu:=qx (n:=x.C.toNat) (by omega)
  rw[if_neg (by omega),if_neg (by omega),if_neg (by omega),if_neg (by omega),if_pos k]
  simp only[List.length_append,List.length_singleton]
  omega
 ·have s:=vK f k
  have hd:∀(L:List Nat) (p:Nat),(∀k∈L,k<18446744073709551616)->(yX p L).length<=10*L.length:=by
   intro L
   induction L with
   |nil=>intro p _;exact Nat.le_refl _
   |cons k r ih=>
    intro p h
    have:=ih k (fun y hy=>h y (by simp[hy]))
    have hu:=qx (n:=k-p) (by have:=h k (by simp);omega)
    simp only[yX,List.length_append,List.length_cons]
    omega
  have hL:∀k∈x.g.L,k<18446744073709551616:=by
   rw[<-gn]
   intro k hk
   obtain⟨w,hw,rfl⟩:=List.mem_map.mp hk
   exact vG w (gw.L w hw)
  have h0:=hd x.g.L 0 hL
  have u:∀n:Int,za n->(uv n.toNat).length<=10:=fun n hn=>qx (by have:=hn.2;omega)
  have p:=f.pos
  have u1:=u _ p.1
  have u2:=u _ p.2.1
  have u3:=u _ p.2.2.1
  have u4:=u _ p.2.2.2.1
  have u5:=u _ p.2.2.2.2.1
  have u6:=u _ p.2.2.2.2.2.1
  have u7:=u _ p.2.2.2.2.2.2
  have u8:=qx (n:=x.g.lo) (by rw[<-gn];exact vG _ gw.lo)
  have u9:=qx (n:=x.g.hi) (by rw[<-gn];exact vG _ gw.hi)
  rw[if_neg (by omega),if_neg (by omega),if_neg (by omega),if_neg (by omega),if_neg (by omega)]
  unfold vL
  simp only[List.length_append,List.length_singleton]
  omega
theorem qzj{x:SkN}{v:AV}(hv:kY x v)(f:Fine x)(h64:H64 x)(hp:Hp):∃hp',run cxX 16 [v] hp=some (.tup [S 1 1 (LI .u8 (qM x)),.sc (.int .i64 0)],hp'):=by
 have hv0:=hv
 have ck:=xl hv f.w hp0
 have ck2:=xl hv.ro f.w hp0
 rw[f.c]at ck ck2
 obtain⟨g,a,b,c,d,e,t,gw,gn,rfl⟩:=hv
 have hk:=f.w.kind
 have kd:=(zk.mp f.c).1
 have hr0:(hp.new [S 2 1 []]).rd hp.next 0=some (Wc []):=qz _ _
 have w1:IntKind.u64.wrap x.kind=x.kind:=qn hk.1 (by omega)
 have six:x.kind=0\/x.kind=1\/x.kind=2\/x.kind=3\/x.kind=4\/x.kind=5:=by omega
 have hck:∀L,AV.agg L=yq x g (rk a) (rk b) (rk c) (rk d) (rk e) (rk t)->run cxX 23 [.agg L] hp0=some (.sc (.int .i64 0),hp0):=by
  intro L hL
  have e1:AI.ro (yq x g a b c d e t)= .agg L:=by rw[hL];simp[yq]
  rw[e1]at ck2
  exact ck2
 have hc:=hck _ rfl
 have nn:=qfh hv0 f h64
 unfold qM at nn⊢
 rcases six with k|k|k|k|k|k
 ·rw[if_pos k]at nn⊢
  obtain⟨s1,s2,s3,s4⟩:=QG f k
  obtain⟨t1,hp1,r1,r2⟩:=qzi (tn x.set) (rk (rk a)) (by simp;exact s1) s3 s2 hp0
  rw[s4]at r1
  have sp:=fun k=>qt4 (jG (tn x.set)) k hp.next (KE s3) (by have:=Xs (tn x.set);simp at this;omega) [] (by simp) _ hr0
  rw[List.nil_append]at sp
  simp only[jC]at sp
  have pe:=QL hp.next (vx (jG (tn x.set))) nn (hp.new (Wc (vx (jG (tn x.set))))) (qz _ _)
  refine⟨hp.new (Wc (vx (jG (tn x.set)))),?_⟩
  generalize vx (jG (tn x.set))=Y at*
  generalize csL (jG (tn x.set))=CL at*
  simp[yq,k]at hc
  rw[E16]
  simp at r1 sp
  simp[yq,ql,qe,qj,k,hc,r1,sp,pe]
 ·rw[if_neg (by omega),if_pos k]at nn⊢
  obtain⟨s0,s1,s2,s3,s4⟩:=vH f k h64
  obtain⟨t1,hp1,r1,r2⟩:=qt6 (tn x.hs) (rk (rk b)) (by simp;exact s1) s3 s2 hp0
  rw[s4]at r1
  have hu:=qx (n:=x.K.toNat) (by omega)
  have u1:=zC hp.next x.K.toNat [] (by omega) (by simp;omega) _ hr0
  rw[List.nil_append,jC,Int.toNat_of_nonneg (by omega)]at u1
  have wK:IntKind.u64.wrap x.K=x.K:=qn (by omega) (by omega)
  have u2:=fun k=>vC hp.next (uv x.K.toNat) (yc (tn x.hs)) k (by rw[List.length_append]at nn;exact nn) (hp.new (Wc (uv x.K.toNat))) (qz _ _)
  simp only[jC]at u2
  have pe:=QL hp.next _ nn (hp.new (Wc (uv x.K.toNat++yc (tn x.hs)))) (qz _ _)
  refine⟨hp.new (Wc (uv x.K.toNat++yc (tn x.hs))),?_⟩
  generalize uv x.K.toNat++yc (tn x.hs)=Y at*
  generalize uv x.K.toNat=U at*
  generalize yc (tn x.hs)=RY at*
  simp[yq,k]at hc
  rw[E16]
  simp at r1 u1
  simp[yq,ql,qe,qj,k,hc,xj,wK,r1,u1,u2,pe]
 ·rw[if_neg (by omega),if_neg (by omega),if_pos k]at nn⊢
  obtain⟨s0,s1,s2,s3,s4⟩:=vJ f k
  obtain⟨hp1,r1,r2⟩:=Wk (tn x.rg) (rk (rk c)) (by simp;omega) s3 hp0
  rw[s4]at r1
  have u1:=zW hp.next [] x.P (by decide) _ hr0
  rw[List.nil_append,jC]at u1
  have wK:IntKind.u8.wrap x.P=x.P:=qT (by omega) (by omega)
  have u2:=fun k=>vC hp.next [x.P] (xu (tn x.rg)) k (by simp at nn⊢;omega) (hp.new (Wc [x.P])) (qz _ _)
  have eY:[x.P]++xu (tn x.rg)=x.P::xu (tn x.rg):=rfl
  simp only[jC,eY]at u2
  have pe:=QL hp.next _ nn (hp.new (Wc (x.P::xu (tn x.rg)))) (qz _ _)
  refine⟨hp.new (Wc (x.P::xu (tn x.rg))),?_⟩
  generalize x.P::xu (tn x.rg)=Y at*
  generalize xu (tn x.rg)=RY at*
  simp[yq,k]at hc
  rw[E16]
  simp at r1 u1 u2
  simp[yq,ql,qe,qj,k,hc,jn,wK,r1,u1,u2,pe]
 ·rw[if_neg (by omega),if_neg (by omega),if_neg (by omega),if_pos k]at nn⊢
  obtain⟨s0,s9,s1,s2,s3,s4⟩:=vQ f k
  obtain⟨t1,t2,hp1,r1,r2⟩:=qmd (tn x.bs) (rk (rk d)) (by simp;exact s1) s3 s2 hp0
  rw[s4]at r1
  have hu:=qx (n:=x.B.toNat) (by omega)
  have u1:=zC hp.next x.B.toNat [] (by omega) (by simp;omega) _ hr0
  rw[List.nil_append,jC,Int.toNat_of_nonneg (by omega)]at u1
  have wK:IntKind.u64.wrap x.B=x.B:=qn (by omega) (by omega)
  have wH:IntKind.u8.wrap x.H=x.H:=qT (by omega) (by omega)
  have u2:=zW hp.next (uv x.B.toNat) x.H (by omega) (hp.new (Wc (uv x.B.toNat))) (qz _ _)
  rw[jC]at u2
  have u3:=fun t1 t2=>quk (tn x.bs) (by simp;exact s1) s3 s2 hp.next t1 t2 (uv x.B.toNat++[x.H]) (by rw[List.length_append]at nn;exact nn) (hp.new (Wc (uv x.B.toNat++[x.H]))) (qz _ _)
  simp only[jC]at u3
  have pe:=QL hp.next _ nn (hp.new (Wc (uv x.B.toNat++[x.H]++yS (tn x.bs)))) (qz _ _)
  refine⟨hp.new (Wc (uv x.B.toNat++[x.H]++yS (tn x.bs))),?_⟩
  unfold wZ at r1 u3
  generalize uv x.B.toNat++[x.H]++yS (tn x.bs)=Y at*
  generalize uv x.B.toNat++[x.H]=U2 at*
  generalize uv x.B.toNat=U at*
  generalize pk (qY (qy (tn x.bs)) (tn x.bs))=P1 at*
  generalize pk (qC (qy (tn x.bs)) 0 (tn x.bs))=P2 at*
  generalize((qA (tn x.bs):Nat):Int)=La at*
  generalize((qy (tn x.bs):Nat):Int)=Lk at*
  simp[yq,k]at hc
  rw[E16]
  simp at r1 u1 u2 u3
  simp[yq,ql,qe,qj,k,hc,xj,jn,wK,wH,r1,u1,u2,qh,u3,pe]
 ·rw[if_neg (by omega),if_neg (by omega),if_neg (by omega),if_neg (by omega),if_pos k]at nn⊢
  obtain⟨s0,s1,s2,s3⟩:=vP f k
  have hu:=qx (n:=x.C.toNat) (by omega)
  have u1:=zW hp.next [] x.R (by decide) _ hr0
  rw[List.nil_append,jC]at u1
  have u2:=zC hp.next x.C.toNat [x.R] (by omega) (by simp;omega) (hp.new (Wc [x.R])) (qz _ _)
  rw[jC,Int.toNat_of_nonneg (by omega)]at u2
  have wK:IntKind.u64.wrap x.C=x.C:=qn (by omega) (by omega)
  have wH:IntKind.u8.wrap x.R=x.R:=qT (by omega) (by omega)
  have u3:=fun k=>qjq x.C x.cs (by omega) f.w.cs hp.next k ([x.R]++uv x.C.toNat) (by simp;omega) (hp.new (Wc ([x.R]++uv x.C.toNat))) (qz _ _)
  simp only[jC]at u3
  have pe:=QL hp.next _ nn (hp.new (Wc ([x.R]++uv x.C.toNat++yd x.C x.cs 0 0))) (qz _ _)
  refine⟨hp.new (Wc ([x.R]++uv x.C.toNat++yd x.C x.cs 0 0)),?_⟩
  generalize [x.R]++uv x.C.toNat++yd x.C x.cs 0 0=Y at*
  generalize [x.R]++uv x.C.toNat=U2 at*
  simp[yq,k]at hc
  rw[E16]
  try simp at u1
  try simp at u2
  try simp at u3
  simp[yq,ql,qe,qj,k,hc,xj,jn,wK,wH,u1,u2,u3,pe]
 ·rw[if_neg (by omega),if_neg (by omega),if_neg (by omega),if_neg (by omega),if_neg (by omega)]at nn⊢
  obtain⟨s0,s1,s2⟩:=vK f k
  have hl:g.L.length<=16:=by rw[<-gn]at s2;simpa[Gs.nf]using s2
  have u3:=fun k=>qua hp.next x.gK g k ⟨by omega,by omega⟩ gw (by rw[gn];exact s1) (by omega) _ hr0
  simp only[jC,gn]at u3
  have pe:=QL hp.next _ nn (hp.new (Wc (vL x.gK x.g))) (qz _ _)
  refine⟨hp.new (Wc (vL x.gK x.g)),?_⟩
  generalize vL x.gK x.g=Y at*
  simp[yq,k]at hc
  rw[E16]
  try simp at u3
  simp[yq,ql,qe,qj,k,hc,u3,pe]
theorem Zt(w:Nat)(h:w<18446744073709551616)(hp:Hp):run cxX 115 [fl w] hp=some (.sc (.int .u64 (kw w:Int)),hp):=by
 rw[E115]
 unfold kw
 by_cases hn:yn w
 ·simp[je,hn]
 ·by_cases hl:w<9223372036854775808
  ·have h1:¬((9223372036854775808:Int)<=(w:Int)):=by omega
   have w1:IntKind.u64.wrap ((w:Int)+9223372036854775808)=((w+9223372036854775808:Nat):Int):=by rw[qn]<;>omega
   rw[if_neg hn,if_pos hl]
   generalize((w+9223372036854775808:Nat):Int)=W at*
   simp[je,hn,JV,h1,w1]
  ·have h1:(9223372036854775808:Int)<=(w:Int):=by omega
   have w1:IntKind.u64.wrap (18446744073709551615-(w:Int))=((18446744073709551615-w:Nat):Int):=by rw[qn]<;>omega
   rw[if_neg hn,if_neg hl]
   generalize((18446744073709551615-w:Nat):Int)=W at*
   simp[je,hn,JV,h1,w1]
theorem qfc(c:Int)(hc:1<=c/\c<=256)(l:List Int)(hl:l.length<=4096)(h32:ZS l)(k:Nat)(hp:Hp):∀(r:List Int) (i:Nat) (last:Int) (acc:List Int),l.drop i=r->acc.length<=10*i+20->i<=l.length->(0<=last/\last<4294967296)->(0<i->last=l.getD (i-1) 0)->
 B58_3 (.int .i64 c) (S k 1 (LI .u32 l)) (S 1 1 (LI .u8 acc)) (.int .i64 (i:Int)) hp=some (S 1 1 (LI .u8 (acc++yd c r i last)),hp):=by
 intro r
 induction r with
 |nil=>
  intro i last acc h ha hil hla hl2
  have:=qB h
  have hlt:¬(i<l.length):=by omega
  rw[qib]
  simp[yd,hlt]
 |cons x r ih=>
  intro i last acc h ha hil hla hl2
  obtain⟨e1,e2,hi,e3⟩:=qm h
  have hx:=h32 x (List.mem_of_getElem? e1)
  have rm:∀t o o',qr Tryz.prog .rem t o o' (.int .i64 (i:Int)) (.int .i64 c)=some (.int .i64 ((i:Int)%c)):=by
   intro t o o'
   rw[qW _ _ _ _ _ _ _ (by omega),qV (by omega)]
  have mc:max c 1=c:=by omega
  have hm0:=Int.emod_nonneg (i:Int) (show c≠0 by omega)
  obtain⟨lst,hlst⟩:∃lst:Int,lst=if(i:Int)%max c 1=0 then 0 else last:=⟨_,rfl⟩
  have hb:0<=lst/\lst<4294967296:=by rw[hlst];split<;>omega
  have le:=qb8 hx hb
  have ri:=qt9 (x-lst) (by omega) hp0
  have ws:IntKind.i64.wrap x=x:=qf (by omega) (by omega)
  have wd:IntKind.i64.wrap (x-lst)=x-lst:=qf (by omega) (by omega)
  have hw:IntKind.i64.wrap ((i:Int)+1)=((i+1:Nat):Int):=by rw[qf]<;>omega
  have ap:=yb .u8 acc 1 (.inl rfl) 1 (by decide) 2 (uv (zz (x-lst))) (by omega)
  have hh:=ih (i+1) x (acc++uv (zz (x-lst))) e2 (by simp;omega) (by omega) hx (fun _=>by simp[List.getD_eq_getElem?_getD,e1])
  have ec:acc++yd c (x::r) i last=acc++uv (zz (x-lst))++yd c r (i+1) x:=by
   rw[hlst,List.append_assoc];rfl
  rw[ec,<-hh]
  have b8:B58_8 (.int .i64 c) (S k 1 (LI .u32 l)) (S 1 1 (LI .u8 acc)) (.int .i64 (i:Int)) (.int .i64 lst) hp=B58_3 (.int .i64 c) (S k 1 (LI .u32 l)) (S 1 1 (LI .u8 (acc++uv (zz (x-lst))))) (.int .i64 ((i+1:Nat):Int)) hp:=by
   rw[qyn]
   clear hh ec
   generalize((i+1:Nat):Int)=I at*
   generalize uv (zz (x-lst))=u at*
   simp[hi,e3,zh,ws,wd,ri,ap,hw]
  rw[qib,<-b8]
  by_cases h0:(i:Int)%c=0
  ·have el:lst=0:=by rw[hlst,mc,if_pos h0]
   rw[el]
   simp[hi,rm,h0]
  ·have el:lst=last:=by rw[hlst,mc,if_neg h0]
   have hpos:0<(i:Int)%c:=by omega
   have hi0:0<i:=by
    rcases Nat.eq_zero_or_pos i with e|e
    ·rw[e]at h0;simp at h0
    ·exact e
   have hl3:=hl2 hi0
   have w9:IntKind.i64.wrap ((i:Int)-1)=((i-1:Nat):Int):=by rw[qf]<;>omega
   have g0:(0:Int)<=((i-1:Nat):Int):=by omega
   have en:l[(((i-1:Nat):Int)).toNat]?=some last:=by
    rw[Int.toNat_natCast,hl3,List.getD_eq_getElem?_getD,List.getElem?_eq_getElem (by omega)];rfl
   have wl:IntKind.i64.wrap last=last:=qf (by omega) (by omega)
   rw[el]
   generalize((i-1:Nat):Int)=j at*
   simp[hi,rm,hpos,w9,g0,en,zh,wl]
theorem qjb(R c:Int)(hR:0<=R/\R<256)(hc:1<=c/\c<=256)(l:List Int)(hl:l.length<=4096)(h32:ZS l)(k:Nat)(hp:Hp):
 run cxX 58 [.sc (.int .i64 R),.sc (.int .i64 c),S k 1 (LI .u32 l)] hp=some (S 1 1 (LI .u8 ([R]++uv c.toNat++yd c l 0 0)),hp):=by
 have hu:=qx (n:=c.toNat) (by omega)
 have u:=jb c.toNat (by omega) hp0
 rw[Int.toNat_of_nonneg (by omega)]at u
 have h:=qfc c hc l hl h32 k hp l 0 0 ([R]++uv c.toNat) rfl (by simp;omega) (by omega) (by omega) (fun h=>by omega)
 have wR:IntKind.u8.wrap R=R:=qT hR.1 hR.2
 have wc:IntKind.u64.wrap c=c:=qn (by omega) (by omega)
 have ap:=yb .u8 [R] 1 (.inl rfl) 1 (by decide) 2 (uv c.toNat) (by simp;omega)
 have e1:LI .u8 [R]=[.sc (.int .u8 R)]:=rfl
 rw[e1]at ap
 rw[E58]
 generalize [R]++uv c.toNat=U at*
 simp at h
 simp[wR,wc,u,ap,h]
theorem qfb(L:List Nat)(hL:Ws L)(hlen:L.length<=1000)(k:Nat)(hp:Hp):∀(r:List Nat) (i p:Nat) (Z:List Int),L.drop i=r->jc (p::r.map kw)->p<18446744073709551616->Z.length<=1000+10*i->
 B59_11 (S k 1 (LF L)) (S 1 1 (LI .u8 Z)) (.int .u64 (p:Int)) (.int .i64 (i:Int)) hp=some (S 1 1 (LI .u8 (Z++yX p (r.map kw))),hp):=by
 intro r
 induction r with
 |nil=>
  intro i p Z h hn hp' hZ
  have h1:=qB h
  have ll:(LF L).length=L.length:=by simp[LF]
  have hlt:¬(i<L.length):=by omega
  rw[qam]
  simp[hlt,yX,ll]
 |cons x r ih=>
  intro i p Z h hn hp' hZ
  obtain⟨e1,e2,hi,e3⟩:=qm h
  have hx:x<18446744073709551616:=hL x (by rw[<-e3];exact List.getElem_mem _)
  have ky:=Zt x hx hp0
  have kl:=vG x hx
  have hpk:p<=kw x:=hn.1
  have hu:=qx (n:=kw x-p) (by omega)
  have wu:=jb (kw x-p) (by omega) hp0
  have ap:=yb .u8 Z 1 (.inl rfl) 1 (by decide) 2 (uv (kw x-p)) (by omega)
  have hi2:=ih (i+1) (kw x) (Z++uv (kw x-p)) e2 hn.2 kl (by simp;omega)
  have w1:IntKind.u64.wrap ((kw x:Int)-(p:Int))=((kw x-p:Nat):Int):=by rw[qn]<;>omega
  have w2:IntKind.i64.wrap ((i:Int)+1)=((i+1:Nat):Int):=by rw[qf]<;>omega
  have e:Z++yX p ((x::r).map kw)=Z++uv (kw x-p)++yX (kw x) (r.map kw):=by rw[List.append_assoc];rfl
  have al:(LF L)[i]?=some (fl x):=by
   unfold LF
   rw[List.getElem?_map,e1];rfl
  have ll:(LF L).length=L.length:=by simp[LF]
  have hlt:(i:Int)<(L.length:Int):=by omega
  rw[e,<-hi2,qam]
  obtain⟨F,hF⟩:∃F,fl x= .sc F:=⟨_,rfl⟩
  rw[hF]at ky al
  generalize((kw x-p:Nat):Int)=D at*
  generalize((i+1:Nat):Int)=I at*
  have g1:(0:Int)<=(i:Int):=by omega
  have ix:∀k,yw 1 (S k 1 (LF L)) (.int .i64 (i:Int))=some [.sc F]:=by
   intro k
   rw[qkw,if_pos g1,Int.toNat_natCast,al];rfl
  generalize LF L=LL at*
  generalize uv (kw x-p)=U at*
  simp[ll,hi,ix,zh,ky,w1,wu,ap,w2]
theorem Qg(n:Int)(hn:za n)(Z:List Int)(hZ:Z.length<=1000):run cxX 110 [.sc (.int .u64 n)] hp0=some (S 2 1 (LI .u8 (uv n.toNat)),hp0)/\(uv n.toNat).length<=10/\zZ 1 1 (S 1 1 (LI .u8 Z)) (S 2 1 (LI .u8 (uv n.toNat)))=some (S 1 1 (LI .u8 (Z++uv n.toNat)))/\IntKind.u64.wrap n=n:=by
 have h1:n.toNat<18446744073709551616:=by have:=hn.2;omega
 have hu:=qx h1
 have:=jb n.toNat h1 hp0
 rw[Int.toNat_of_nonneg hn.1]at this
 exact⟨this,hu,yb .u8 Z 1 (.inl rfl) 1 (by decide) 2 _ (by omega),qn hn.1 (by have:=hn.2;omega)⟩
theorem qjz(k:Nat)(L:AV)(lo hi:Value)(E:List Int)(hE:∀n∈E,za n)(h6:E.length=6)(hp:Hp):∀(f i:Nat) (Z:List Int),i+f=6->Z.length<=100+10*i->
 B59_3 lo hi L (S 1 1 (LI .u8 Z)) (.int .i64 (i:Int)) (LI .u32 E) hp=B59_3 lo hi L (S 1 1 (LI .u8 (Z++((E.drop i).map fun n=>uv n.toNat).flatten))) (.int .i64 6) (LI .u32 E) hp:=by
 intro f
 induction f with
 |zero=>
  intro i Z h hZ
  have e:i=6:=by omega
  subst e
  rw[List.drop_eq_nil_of_le (by omega)]
  simp
 |succ f ih=>
  intro i Z h hZ
  have hi':i<E.length:=by omega
  obtain⟨n,hn⟩:∃n,E[i]=n:=⟨_,rfl⟩
  have ed:E.drop i=n::E.drop (i+1):=by rw[List.drop_eq_getElem_cons hi',hn]
  obtain⟨u1,u2,u3,u4⟩:=Qg n (hE n (by rw[<-hn];exact List.getElem_mem _)) Z (by omega)
  have ix:idx 6 (.int .i64 (i:Int))=some i:=qU .i64 (by omega)
  have g:=jv .u32 E i hi'
  rw[show E.getD i 0=n by rw[List.getD_eq_getElem?_getD,List.getElem?_eq_getElem hi',hn];rfl]at g
  have hlt:i<6:=by omega
  have w2:IntKind.i64.wrap ((i:Int)+1)=((i+1:Nat):Int):=by rw[qf]<;>omega
  have i1:=ih (i+1) (Z++uv n.toNat) (by omega) (by simp;omega)
  have e:Z++((E.drop i).map fun n=>uv n.toNat).flatten=Z++uv n.toNat++((E.drop (i+1)).map fun n=>uv n.toNat).flatten:=by rw[ed];simp
  rw[e,<-i1,qia]
  clear i1 e
  generalize((i+1:Nat):Int)=I at*
  generalize uv n.toNat=U at*
  generalize LI .u32 E=EE at*
  have gz:∀n,Nat.add 0 n=n:=fun n=>Nat.zero_add n
  have hlt2:(i:Int)<6:=by omega
  simp[hlt,hlt2,ix,g,u4,u1,u3,w2]
theorem qcp(K:Int)(g:Gs)(k:Nat)(hK:0<=K/\K<256)(gw:g.W)(hn:Zx g.nf.L=0)(hlen:g.L.length<=200)(hp:Hp):
 run cxX 59 [.sc (.int .i64 K),.sc (.int .u32 g.M),.agg [.sc (.int .u32 g.e0),.sc (.int .u32 g.e1),.sc (.int .u32 g.e2),.sc (.int .u32 g.e3),.sc (.int .u32 g.e4),.sc (.int .u32 g.e5)],fl g.lo,fl g.hi,S k 1 (LF g.L)] hp=
  some (S 1 1 (LI .u8 (vL K g.nf)),hp):=by
 have p:=gw.pos
 obtain⟨m1,m2,m3,m4⟩:=Qg g.M p.1 [K] (by simp)
 have hE:∀n∈[g.e0,g.e1,g.e2,g.e3,g.e4,g.e5],za n:=by
  intro n hn
  simp only[List.mem_cons,List.not_mem_nil,or_false]at hn
  rcases hn with e|e|e|e|e|e<;>rw[e]
  ·exact p.2.1
  ·exact p.2.2.1
  ·exact p.2.2.2.1
  ·exact p.2.2.2.2.1
  ·exact p.2.2.2.2.2.1
  ·exact p.2.2.2.2.2.2
 have u2:=(Qg g.e0 p.2.1 [] (by simp)).2.1
 have u3:=(Qg g.e1 p.2.2.1 [] (by simp)).2.1
 have u4:=(Qg g.e2 p.2.2.2.1 [] (by simp)).2.1
 have u5:=(Qg g.e3 p.2.2.2.2.1 [] (by simp)).2.1
 have u6:=(Qg g.e4 p.2.2.2.2.2.1 [] (by simp)).2.1
 have u7:=(Qg g.e5 p.2.2.2.2.2.2 [] (by simp)).2.1
 have ed:=qjz k (S k 1 (LF g.L)) (.float .f64 g.lo) (.float .f64 g.hi) [g.e0,g.e1,g.e2,g.e3,g.e4,g.e5] hE rfl hp 6 0 ([K]++uv g.M.toNat) rfl (by simp;omega)
 have klo:=Zt g.lo gw.lo hp0
 have khi:=Zt g.hi gw.hi hp0
 have llo:=vG g.lo gw.lo
 have lhi:=vG g.hi gw.hi
 have ulo:=jb (kw g.lo) llo hp0
 have uhi:=jb (kw g.hi) lhi hp0
 have nlo:=qx llo
 have nhi:=qx lhi
 have wK:IntKind.u8.wrap K=K:=qT hK.1 hK.2
 have e0:LI .u8 [K]=[.sc (.int .u8 K)]:=rfl
 have wl:IntKind.u8.wrap (g.L.length:Int)=(g.L.length:Int):=qT (by omega) (by omega)
 have el:[g.e0,g.e1,g.e2,g.e3,g.e4,g.e5].drop 0=[g.e0,g.e1,g.e2,g.e3,g.e4,g.e5]:=rfl
 rw[el]at ed
 simp only[List.map_cons,List.map_nil,List.flatten_cons,List.flatten_nil,List.append_nil]at ed
 have e1:vL K g.nf=[K]++uv g.M.toNat++(uv g.e0.toNat++(uv g.e1.toNat++(uv g.e2.toNat++(uv g.e3.toNat++(uv g.e4.toNat++uv g.e5.toNat)))))++uv (kw g.lo)++uv (kw g.hi)++[(g.L.length:Int)]++yX 0 (g.L.map kw):=by
  unfold vL Gs.nf
  simp
 have lE:([K]++uv g.M.toNat++(uv g.e0.toNat++(uv g.e1.toNat++(uv g.e2.toNat++(uv g.e3.toNat++(uv g.e4.toNat++uv g.e5.toNat)))))).length<=71:=by simp;omega
 rw[e1]
 generalize [K]++uv g.M.toNat++(uv g.e0.toNat++(uv g.e1.toNat++(uv g.e2.toNat++(uv g.e3.toNat++(uv g.e4.toNat++uv g.e5.toNat)))))=Z at*
 have a1:=yb .u8 Z 1 (.inl rfl) 1 (by decide) 2 (uv (kw g.lo)) (by omega)
 have a2:=yb .u8 (Z++uv (kw g.lo)) 1 (.inl rfl) 1 (by decide) 2 (uv (kw g.hi)) (by simp;omega)
 have a3:=qhc .u8 (Z++uv (kw g.lo)++uv (kw g.hi)) 1 (.inl rfl) 1 (by decide) (g.L.length:Int) (by simp;omega)
 have nf:jc (0::g.L.map kw):=jS (Qj hn)
 have lp:=qfb g.L gw.L (by omega) k hp g.L 0 0 (Z++uv (kw g.lo)++uv (kw g.hi)++[(g.L.length:Int)]) rfl nf (by decide) (by simp;omega)
 have ll:(LF g.L).length=g.L.length:=by simp[LF]
 have b3:B59_3 (.float .f64 g.lo) (.float .f64 g.hi) (S k 1 (LF g.L)) (S 1 1 (LI .u8 Z)) (.int .i64 6) (LI .u32 [g.e0,g.e1,g.e2,g.e3,g.e4,g.e5]) hp=some (S 1 1 (LI .u8 (Z++uv (kw g.lo)++uv (kw g.hi)++[(g.L.length:Int)]++yX 0 (g.L.map kw))),hp):=by
  rw[<-lp,qia]
  clear ed lp e1
  generalize LF g.L=LL at*
  generalize uv (kw g.lo)=U1 at*
  generalize uv (kw g.hi)=U2 at*
  simp only[List.append_assoc]at a1 a2 a3⊢
  simp[klo,ulo,a1,khi,uhi,a2,ll,wl,a3]
 rw[b3]at ed
 have es:LI .u32 [g.e0,g.e1,g.e2,g.e3,g.e4,g.e5]=[.sc (.int .u32 g.e0),.sc (.int .u32 g.e1),.sc (.int .u32 g.e2),.sc (.int .u32 g.e3),.sc (.int .u32 g.e4),.sc (.int .u32 g.e5)]:=rfl
 rw[es]at ed
 rw[e0]at m3
 rw[E59]
 generalize [K]++uv g.M.toNat=Z0 at*
 generalize LF g.L=LL at*
 generalize Z++uv (kw g.lo)++uv (kw g.hi)++[(g.L.length:Int)]++yX 0 (g.L.map kw)=ZZ at*
 simp at ed
 simp[wK,m4,m1,m3,ed]
theorem qct{x:SkN}{v:AV}(hv:kY x v)(f:Fine x)(h64:H64 x)(hp:Hp):∃t,run cxX 18 [v] hp=some (S t 1 (LI .u8 (qM x)),hp)/\(t=1\/t=2):=by
 obtain⟨g,a,b,c,d,e,t,gw,gn,rfl⟩:=hv
 have kd:=(zk.mp f.c).1
 have hk:=f.w.kind
 have six:x.kind=0\/x.kind=1\/x.kind=2\/x.kind=3\/x.kind=4\/x.kind=5:=by omega
 unfold qM
 rw[E18]
 rcases six with k|k|k|k|k|k
 ·rw[if_pos k]
  obtain⟨s1,s2,s3,s4⟩:=QG f k
  have r1:=fun q=>qem (tn x.set) s3 s2 (by simp;omega) q hp0
  rw[s4]at r1
  have r2:∀q,run cxX 54 [S q 1 (LI .u32 x.set)] hp0=some (S 2 1 (LI .u8 (vx (jG (tn x.set)))),hp0):=by
   intro q;rw[E54];simp[r1]
  refine⟨2,?_,.inr rfl⟩
  generalize vx (jG (tn x.set))=Y at*
  simp[yq,k,qe,qj,r2]
 ·rw[if_neg (by omega),if_pos k]
  obtain⟨s0,s1,s2,s3,s4⟩:=vH f k h64
  have r1:=fun q=>qen (tn x.hs) q (by simp;exact s1) s3 s2 hp0
  rw[s4]at r1
  have hu:=qx (n:=x.K.toNat) (by omega)
  have u:=jb x.K.toNat (by omega) hp0
  rw[Int.toNat_of_nonneg (by omega)]at u
  have hl:=qe7 (l:=tn x.hs) (by simp;exact s1) s3
  have ap:=yb .u8 (uv x.K.toNat) 2 (.inr rfl) 1 (by decide) 2 (yc (tn x.hs)) (by omega)
  have wK:IntKind.u64.wrap x.K=x.K:=qn (by omega) (by omega)
  have r2:∀q,run cxX 55 [.sc (.int .i64 x.K),S q 1 (LI .u64 x.hs)] hp0=some (S 2 1 (LI .u8 (uv x.K.toNat++yc (tn x.hs))),hp0):=by
   intro q
   rw[E55]
   generalize uv x.K.toNat=U at*
   generalize yc (tn x.hs)=Y at*
   simp[wK,u,r1,ap]
  refine⟨2,?_,.inr rfl⟩
  generalize uv x.K.toNat++yc (tn x.hs)=Y at*
  simp[yq,k,qe,qj,r2]
 ·rw[if_neg (by omega),if_neg (by omega),if_pos k]
  obtain⟨s0,s1,s2,s3,s4⟩:=vJ f k
  have r1:=fun q=>qeq (tn x.rg) q (by simp;omega) s3 hp0
  rw[s4]at r1
  have hl:=qds (l:=tn x.rg) (by simp;omega) s3
  have ap:=yb .u8 [x.P] 1 (.inl rfl) 1 (by decide) 0 (xu (tn x.rg)) (by simp;omega)
  have wK:IntKind.u8.wrap x.P=x.P:=qT (by omega) (by omega)
  have e1:LI .u8 [x.P]=[.sc (.int .u8 x.P)]:=rfl
  have e2:[x.P]++xu (tn x.rg)=x.P::xu (tn x.rg):=rfl
  rw[e1,e2]at ap
  have r2:∀q,run cxX 56 [.sc (.int .i64 x.P),S q 1 (LI .u8 x.rg)] hp0=some (S 1 1 (LI .u8 (x.P::xu (tn x.rg))),hp0):=by
   intro q
   obtain⟨hq,r1⟩:=r1 (rk q)
   rw[E56]
   generalize LI .u8 (x.P::xu (tn x.rg))=Y2 at*
   generalize xu (tn x.rg)=Y at*
   simp[wK,r1,ap]
  refine⟨1,?_,.inl rfl⟩
  generalize x.P::xu (tn x.rg)=Y at*
  simp[yq,k,qe,qj,r2]
 ·rw[if_neg (by omega),if_neg (by omega),if_neg (by omega),if_pos k]
  obtain⟨s0,s9,s1,s2,s3,s4⟩:=vQ f k
  have r1:=fun q=>qep (tn x.bs) q (by simp;omega) s3 s2 hp0
  rw[s4]at r1
  have hu:=qx (n:=x.B.toNat) (by omega)
  have u:=jb x.B.toNat (by omega) hp0
  rw[Int.toNat_of_nonneg (by omega)]at u
  have hl:=qgp (l:=tn x.bs) (by simp;exact s1) s3 s2
  have a1:=qhc .u8 (uv x.B.toNat) 2 (.inr rfl) 1 (by decide) x.H (by omega)
  have a2:=yb .u8 (uv x.B.toNat++[x.H]) 2 (.inr rfl) 1 (by decide) 2 (yS (tn x.bs)) (by simp;omega)
  have wB:IntKind.u64.wrap x.B=x.B:=qn (by omega) (by omega)
  have wH:IntKind.u8.wrap x.H=x.H:=qT (by omega) (by omega)
  have r2:∀q,run cxX 57 [.sc (.int .i64 x.B),.sc (.int .i64 x.H),S q 1 (LI .u32 x.bs)] hp0=some (S 2 1 (LI .u8 (uv x.B.toNat++[x.H]++yS (tn x.bs))),hp0):=by
   intro q
   rw[E57]
   generalize LI .u8 (uv x.B.toNat++[x.H]++yS (tn x.bs))=Y3 at*
   generalize LI .u8 (uv x.B.toNat++[x.H])=Y2 at*
   generalize uv x.B.toNat=U at*
   generalize yS (tn x.bs)=Y at*
   simp[wB,u,wH,a1,r1,a2]
  refine⟨2,?_,.inr rfl⟩
  generalize uv x.B.toNat++[x.H]++yS (tn x.bs)=Y at*
  simp[yq,k,qe,qj,r2]
 ·rw[if_neg (by omega),if_neg (by omega),if_neg (by omega),if_neg (by omega),if_pos k]
  obtain⟨s0,s1,s2,s3⟩:=vP f k
  have r2:=fun q=>qjb x.R x.C (by omega) s1 x.cs (by omega) f.w.cs q hp0
  refine⟨1,?_,.inl rfl⟩
  generalize [x.R]++uv x.C.toNat++yd x.C x.cs 0 0=Y at*
  simp[yq,k,qe,qj,r2]
 ·rw[if_neg (by omega),if_neg (by omega),if_neg (by omega),if_neg (by omega),if_neg (by omega)]
  obtain⟨s0,s1,s2⟩:=vK f k
  have hl:g.L.length<=16:=by rw[<-gn]at s2;simpa[Gs.nf]using s2
  have r2:=fun q=>qcp x.gK g q ⟨by omega,by omega⟩ gw (by rw[gn];exact s1) (by omega) hp0
  rw[gn]at r2
  refine⟨1,?_,.inl rfl⟩
  generalize vL x.gK x.g=Y at*
  simp[yq,k,qe,qj,ql,qh,r2]
structure Sm where
 kind:Int
 A:Int
 B:Int
 wide:Int
 few:Bool
 hs:List Int
 fl:List (Int×Int)
structure Sm.Ok (s : Sm) : Prop where
 kind:0<=s.kind/\s.kind<256
 A:0<=s.A/\s.A<256
 B:0<=s.B/\s.B<256
 wide:0<=s.wide/\s.wide<65536
 hs:∀n∈s.hs,0<=n/\n<18446744073709551616
 fl:∀p∈s.fl,InI p
abbrev smA(s:Sm)(k k':Nat):AV:=.agg [.sc (.int .u8 s.kind),.sc (.int .u8 s.A),.sc (.int .u8 s.B),.sc (.int .u16 s.wide),.sc (.bool s.few),S k 1 (LI .u64 s.hs),S k' 2 (LP s.fl)]
def row(n:Int)(m:Nat):List Int:=(List.range m).map fun(k:Nat)=>n+(k:Int)
def xz(few:Bool)(h:Int):List Int:=h%4294967296::(if few then row (h%9000) (h%40).toNat else [])
def xH(few:Bool)(hs:List Int):List Int:=hs.flatMap (xz few)
def smc:Nat->List Int->List (Int×Int)
 |_,[]=>[]
 |i,h::r=>(h,if i%5=4 then h/4294967296 else h%9)::smc (i+1) r
noncomputable def vW(s:Sm):SkN:=
 if s.kind%6=0 then{jw with kind:=0,set:=YH [] (xH s.few s.hs)}
 else if s.kind%6=1 then{jw with kind:=1,K:=1+s.A%20,hs:=Qq (1+s.A%20).toNat [] (s.hs.map (cut s.few))}
 else if s.kind%6=2 then{jw with kind:=2,P:=4+s.A%5,rg:=hfold (4+s.A%5) (List.replicate (jA (4+s.A%5)) 0) s.hs}
 else if s.kind%6=3 then{jw with kind:=3,B:=1+s.wide%300,H:=1+s.A%8,bs:=blm (1+s.wide%300) (1+s.A%8) [] s.hs}
 else if s.kind%6=4 then{jw with kind:=4,R:=1+s.A%8,C:=1+s.B%40,cs:=yP (1+s.A%8) (1+s.B%40) (List.replicate ((1+s.A%8)*(1+s.B%40)).toNat 0) (smc 0 s.hs)}
 else{jw with kind:=5,gK:=1+s.A%16,g:=(Qs (1+s.A%16) gnew (s.fl.map wd)).nf}
theorem qoh(s:Sm)(k k':Nat)(hp:Hp):run cxX 14 [smA s k k'] hp=some (.sc (.bool (decide (s.hs.length<=40/\s.fl.length<=40))),hp):=by
 rw[E14]
 by_cases h:s.hs.length<=40
 ·have h':(s.hs.length:Int)<=40:=by omega
  have e:decide ((s.fl.length:Int)<=40)=decide (s.fl.length<=40):=decide_eq_decide.mpr (by omega)
  simp[qj,h,h',qwh,e]
 ·have h':¬((s.hs.length:Int)<=40):=by omega
  simp[qj,h,h']
theorem zdu{n:Int}{m:Nat}(hn:0<=n/\n<9000)(hm:m<=40):ZS (row n m):=by
 intro x hx
 simp only[row,List.mem_map,List.mem_range]at hx
 obtain⟨k,hk,rfl⟩:=hx
 omega
theorem qn2{few:Bool}{h:Int}(hh:0<=h):ZS (xz few h):=by
 intro x hx
 rcases List.mem_cons.mp hx with rfl|hx
 ·omega
 ·cases few with
  |false=>simp at hx
  |true=>exact zdu (by omega) (by omega) x hx
theorem qts{few:Bool}{hs:List Int}(h:∀n∈hs,0<=n/\n<18446744073709551616):ZS (xH few hs):=by
 intro x hx
 obtain⟨y,hy,hx⟩:=List.mem_flatMap.mp hx
 exact qn2 (h y hy).1 x hx
theorem XG(few:Bool){h:Int}(hh:0<=h):(xz few h).length<=40:=by
 unfold xz
 cases few with
 |false=>simp
 |true=>
  simp only[if_true,List.length_cons,row,List.length_map,List.length_range]
  omega
theorem VS(few:Bool):∀{hs:List Int},(∀n∈hs,0<=n/\n<18446744073709551616)->(xH few hs).length<=40*hs.length
 |[],_=>by simp[xH]
 |x::hs,h=>by
  have ih:=VS few (hs:=hs) (fun n hn=>h n (by simp[hn]))
  have l1:=XG few (h x (by simp)).1
  show((x::hs).flatMap (xz few)).length<=_
  rw[List.flatMap_cons,List.length_append]
  simp only[List.length_cons]
  have:(List.flatMap (xz few) hs).length<=40*hs.length:=ih
  omega
section
variable (b1 b2 b3:List AV)(s:Sm)(k k':Nat)(hp:Hp)
theorem zdn(h:Int)(x27:AV)(v28 v29:Value)(hh:0<=h/\h<18446744073709551616)(m:Nat)(hm:m<=40):∀(j:Nat) (l:List Int) (i:Nat),i+j=m->l.length+j<=1000000->
 B15_12 (S 2 1 (LI .u32 l)) (.int .u64 h) x27 v28 v29 (.int .u32 m) (.int .u32 i) b1 b2 b3 hp=B15_16 (S 2 1 (LI .u32 (l++(List.range' i j).map fun(k:Nat)=>h%9000+(k:Int)))) x27 v28 v29 b1 b2 b3 hp:=by
 intro j
 induction j with
 |zero=>
  intro l i hi hl
  have hlt:¬((i:Int)<(m:Int)):=by omega
  rw[qa9]
  simp[hlt]
 |succ j ih=>
  intro l i hi hl
  have hlt:i<m:=by omega
  have r:∀t x y,qr Tryz.prog .rem t x y (.int .u64 h) (.int .u64 9000)=some (.int .u64 (h%9000)):=by
   intro t x y;rw[qW _ _ _ _ _ _ _ (by omega),qV hh.1]
  have w1:IntKind.u32.wrap (h%9000)=h%9000:=qD (by omega) (by omega)
  have w2:IntKind.u32.wrap (h%9000+(i:Int))=h%9000+(i:Int):=qD (by omega) (by omega)
  have w3:IntKind.u32.wrap ((i:Int)+1)=((i+1:Nat):Int):=by rw[qD]<;>omega
  have ap:=ZO .u32 l 2 (.inr rfl) 4 (by decide) (h%9000+(i:Int)) (by omega)
  have g:=ih (l++[h%9000+(i:Int)]) (i+1) (by omega) (by simp;omega)
  rw[qa9,List.range'_succ]
  simp at g w3
  simp[hlt,r,w1,w2,ap,w3,g]
theorem zdm(hs:∀n∈s.hs,0<=n/\n<18446744073709551616)(hl:s.hs.length<=40):∀(r:List Int) (i:Nat) (l:List Int),s.hs.drop i=r->l.length<=40*i->i<=s.hs.length->
 ∃t,∀b3',qh b3 1 [S t 1 (LI .u32 (YH [] (l++xH s.few r)))]=some b3'->B15_7 (S 2 1 (LI .u32 l)) (S k 1 (LI .u64 s.hs)) (.int .i64 s.hs.length) (.int .i64 i) [.sc (.int .u8 s.kind),.sc (.int .u8 s.A),.sc (.int .u8 s.B),.sc (.int .u16 s.wide),.sc (.bool s.few),S k 1 (LI .u64 s.hs),S k' 2 (LP s.fl)] b2 b3 hp=
  B15_35 b2 b3' hp:=by
 intro r
 induction r with
 |nil=>
  intro i l hr hll hil
  have:=qB hr
  have hlt:¬((i:Int)<(s.hs.length:Int)):=by omega
  obtain⟨t,o⟩:=quc l 3 (by omega) hp0
  refine⟨rk t,fun b3' hb=>?_⟩
  rw[qio]
  simp[xH]at hb
  simp[hlt,o,hb]
 |cons x r ih=>
  intro i l hr hll hil
  obtain⟨e1,e2,hi,e3⟩:=qm hr
  have hx:=hs x (List.mem_of_getElem? e1)
  have hw:IntKind.i64.wrap ((i:Int)+1)=((i+1:Nat):Int):=by rw[qf]<;>omega
  have w1:IntKind.u32.wrap x=x%4294967296:=by rw[IntKind.wrap_u32]
  have ap:=ZO .u32 l 2 (.inr rfl) 4 (by decide) (x%4294967296) (by omega)
  have l1:=XG s.few hx.1
  obtain⟨t,g⟩:=ih (i+1) (l++xz s.few x) e2 (by rw[List.length_append];omega) (by omega)
  refine⟨t,fun b3' hb=>?_⟩
  have es:xH s.few (x::r)=xz s.few x++xH s.few r:=rfl
  rw[es,<-List.append_assoc]at hb
  have g:=g b3' hb
  have g16:B15_16 (S 2 1 (LI .u32 (l++xz s.few x))) (S k 1 (LI .u64 s.hs)) (.int .i64 s.hs.length) (.int .i64 i) [.sc (.int .u8 s.kind),.sc (.int .u8 s.A),.sc (.int .u8 s.B),.sc (.int .u16 s.wide),.sc (.bool s.few),S k 1 (LI .u64 s.hs),S k' 2 (LP s.fl)] b2 b3 hp=B15_35 b2 b3' hp:=by
   rw[qry]
   simp at hw g
   simp[hw,g]
  rw[qio]
  cases hf:s.few with
  |false=>
   rw[hf]at g16
   simp[xz]at g16
   simp[hi,e3,qe,w1,ap,g16]
  |true=>
   rw[hf]at g16
   have r40:∀t a b,qr Tryz.prog .rem t a b (.int .u64 x) (.int .u64 40)=some (.int .u64 (x%40)):=by
    intro t a b;rw[qW _ _ _ _ _ _ _ (by omega),qV hx.1]
   have w2:IntKind.u32.wrap (x%40)=x%40:=qD (by omega) (by omega)
   have rw1:=zdn [.sc (.int .u8 s.kind),.sc (.int .u8 s.A),.sc (.int .u8 s.B),.sc (.int .u16 s.wide),.sc (.bool true),S k 1 (LI .u64 s.hs),S k' 2 (LP s.fl)] b2 b3 hp x (S k 1 (LI .u64 s.hs)) (.int .i64 s.hs.length) (.int .i64 i) hx (x%40).toNat (by omega) (x%40).toNat (l++[x%4294967296]) 0 (by omega) (by simp;omega)
   have e40:(((x%40).toNat:Nat):Int)=x%40:=by omega
   rw[e40]at rw1
   have er:(l++[x%4294967296])++(List.range' 0 (x%40).toNat).map (fun(k:Nat)=>x%9000+(k:Int))=l++xz true x:=by
    simp[xz,row,List.range_eq_range']
   rw[er,g16]at rw1
   simp at rw1
   simp[hi,e3,qe,w1,ap,r40,w2,rw1]
theorem zdp(hs:∀n∈s.hs,0<=n/\n<18446744073709551616)(hA:0<=s.A/\s.A<256)(hB:0<=s.B/\s.B<256)(hl:s.hs.length<=40):∀(r:List Int) (i:Nat) (l:List (Int×Int)),s.hs.drop i=r->l.length<=i->i<=s.hs.length->(∀p∈l,0<=p.2/\p.2<4294967296)->
 ∃t,∀b3',qh b3 9 [.sc (.int .i64 (1+s.A%8)),.sc (.int .i64 (1+s.B%40)),S t 1 (LI .u32 (yP (1+s.A%8) (1+s.B%40) (List.replicate ((1+s.A%8)*(1+s.B%40)).toNat 0) (l++smc i r)))]=some b3'->
  B15_27 (S 2 2 (LQ .u64 .u32 l)) (S k 1 (LI .u64 s.hs)) (.int .i64 s.hs.length) (.int .i64 i) [.sc (.int .u8 s.kind),.sc (.int .u8 s.A),.sc (.int .u8 s.B),.sc (.int .u16 s.wide),.sc (.bool s.few),S k 1 (LI .u64 s.hs),S k' 2 (LP s.fl)] b2 b3 hp=B15_35 b2 b3' hp:=by
 intro r
 induction r with
 |nil=>
  intro i l hr hll hil hp2
  have:=qB hr
  have hlt:¬((i:Int)<(s.hs.length:Int)):=by omega
  obtain⟨t,hpc,o⟩:=qzp s.A s.B l 3 hA hB (by omega) hp2 hp0
  refine⟨t,fun b3' hb=>?_⟩
  rw[YA]
  simp[smc]at hb
  simp[hlt,qe,o,hb]
 |cons x r ih=>
  intro i l hr hll hil hp2
  obtain⟨e1,e2,hi,e3⟩:=qm hr
  have hx:=hs x (List.mem_of_getElem? e1)
  have hw:IntKind.i64.wrap ((i:Int)+1)=((i+1:Nat):Int):=by rw[qf]<;>omega
  have r9:∀t a b,qr Tryz.prog .rem t a b (.int .u64 x) (.int .u64 9)=some (.int .u64 (x%9)):=by
   intro t a b;rw[qW _ _ _ _ _ _ _ (by omega),qV hx.1]
  have r5:∀t a b,qr Tryz.prog .rem t a b (.int .i64 (i:Int)) (.int .i64 5)=some (.int .i64 ((i:Int)%5)):=by
   intro t a b;rw[qW _ _ _ _ _ _ _ (by omega),qV (by omega)]
  have w9:IntKind.u32.wrap (x%9)=x%9:=qD (by omega) (by omega)
  have s32:∀t a b,qr Tryz.prog .shr t a b (.int .u64 x) (.int .u64 32)=some (.int .u64 (x/4294967296)):=by
   intro t a b
   rw[js _ _ _ _ _ _ _ _ (by omega)]
   have e:(2:Int)^(min (32:Int).toNat IntKind.u64.bits)=4294967296:=by decide
   rw[e,Int.fdiv_eq_ediv_of_nonneg _ (by decide)]
  have w32:IntKind.u32.wrap (x/4294967296)=x/4294967296:=qD (by omega) (by omega)
  have ex:smc i (x::r)=(x,if i%5=4 then x/4294967296 else x%9)::smc (i+1) r:=rfl
  have ap:=fun n=>zfk .u64 .u32 2 (.inr rfl) l x n (by omega)
  by_cases h4:i%5=4
  ·have h4':(i:Int)%5=4:=by omega
   rw[if_pos h4]at ex
   obtain⟨t,g⟩:=ih (i+1) (l++[(x,x/4294967296)]) e2 (by simp;omega) (by omega) (fun p hp=>by
    rcases List.mem_append.mp hp with hp|hp
    ·exact hp2 p hp
    ·simp at hp;subst hp;dsimp;omega)
   refine⟨t,fun b3' hb=>?_⟩
   rw[ex]at hb
   have g:=g b3' (by simpa using hb)
   rw[YA]
   simp at g hw
   simp[hi,e3,qe,r9,w9,r5,h4',s32,w32,qa8,ap,hw,g]
  ·have h4':¬((i:Int)%5=4):=by omega
   rw[if_neg h4]at ex
   obtain⟨t,g⟩:=ih (i+1) (l++[(x,x%9)]) e2 (by simp;omega) (by omega) (fun p hp=>by
    rcases List.mem_append.mp hp with hp|hp
    ·exact hp2 p hp
    ·simp at hp;subst hp;dsimp;omega)
   refine⟨t,fun b3' hb=>?_⟩
   rw[ex]at hb
   have g:=g b3' (by simpa using hb)
   rw[YA]
   simp at g hw
   simp[hi,e3,qe,r9,w9,r5,h4',qa8,ap,hw,g]
end
theorem zeo{w:Nat}(hw:w<18446744073709551616):(xF w).W:=by
 have i01:∀(p:Prop) [Decidable p],za (if p then 1 else 0):=by intro p _;split<;>exact⟨by decide,by decide⟩
 refine⟨⟨show(0:Int)<=1 by decide,show(1:Int)<4294967296 by decide⟩,i01 _,i01 _,i01 _,i01 _,i01 _,i01 _,?_,?_,?_,?_⟩
 ·show(if yn w then 9218868437227405312 else w)<18446744073709551616
  split<;>omega
 ·show(if yn w then 18442240474082181120 else w)<18446744073709551616
  split<;>omega
 ·intro x hx
  have:x=wk (kw w):=by simpa[xF]using hx
  subst this
  exact VN _ (vG w hw)
 ·simp[xF]
theorem qww{w:Nat}{K:Int}(hw:w<18446744073709551616)(hK:1<=K/\K<=16):ZF K (xF w).nf=0:=by
 rw[Xp]
 refine⟨hK,?_,?_,?_,?_⟩
 ·simp[Gs.nf,xF];omega
 ·simp[Gs.nf,xF]
 ·show kw (if yn w then 9218868437227405312 else w)≠nanK
  split
  ·decide
  ·rename_i h;exact fun e=>h ((qdi hw).mpr e)
 ·show kw (if yn w then 18442240474082181120 else w)≠nanK
  split
  ·decide
  ·rename_i h;exact fun e=>h ((qdi hw).mpr e)
theorem qge{K:Int}(hK:1<=K/\K<=16):ZF K gnew.nf=0:=by
 rw[Xp]
 exact⟨hK,by simp[Gs.nf,gnew];omega,by simp[Gs.nf,gnew],by decide,by decide⟩
theorem ZD{K:Int}(hK:1<=K/\K<=16):∀{r:List Nat} {g:Gs},Ws r->g.W->ZF K g.nf=0->(Qs K g r).W/\ZF K (Qs K g r).nf=0
 |[],g,_,hg,hc=>⟨hg,hc⟩
 |w::r,g,hr,hg,hc=>by
  have hw:=hr w (by simp)
  have h1:=zg8 (K:=K) (by omega) hg (zeo hw)
  have h2:ZF K (gmg K g (xF w)).nf=0:=by rw[zeq];exact qk2 hc (qww hw hK)
  exact ZD hK (r:=r) (fun x hx=>hr x (by simp[hx])) h1 h2
theorem qi8(s:Sm)(k k':Nat)(ok:s.Ok)(hl:s.hs.length<=40)(hf:s.fl.length<=40)(hp:Hp):∃r,kY (vW s) r/\run cxX 15 [smA s k k'] hp=some (r,hp):=by
 have hk:=ok.kind
 have hA:=ok.A
 have hB:=ok.B
 have r6:∀t a b,qr Tryz.prog .rem t a b (.int .u8 s.kind) (.int .u8 6)=some (.int .u8 (s.kind%6)):=by
  intro t a b;rw[qW _ _ _ _ _ _ _ (by omega),qV hk.1]
 have fin:∀(x:SkN) (g:Gs) (a b c d e f:Nat),B15_35 QY (Ze x g a b c d e f) hp=some (yq x g a b c d e f,hp):=by
  intro x g a b c d e f
  rw[qrx]
  unfold Ze QY yq
  simp[ql,qh]
 rw[E15]
 unfold vW
 by_cases h0:s.kind%6=0
 ·rw[if_pos h0]
  obtain⟨t,q⟩:=zdm QY QY s (rk k) (rk k') hp ok.hs hl s.hs 0 [] rfl (by simp) (by simp)
  refine⟨_,zw (x:={jw with kind:=0,set:=YH [] (xH s.few s.hs)}) xP rfl t 2 2 2 2 2,?_⟩
  have f:=fin {jw with kind:=0,set:=YH [] (xH s.few s.hs)} gz t 2 2 2 2 2
  have q:=q (Ze {jw with kind:=0,set:=YH [] (xH s.few s.hs)} gz t 2 2 2 2 2) (by unfold QY Ze;simp[qh,jw,gz,LF])
  unfold Ze QY at q f
  unfold yq at f⊢
  simp[jw,gz,LF]at q f
  simp[qe,qj,r6,h0,q,f,jw,gz,LF]
 ·rw[if_neg h0]
  by_cases h1:s.kind%6=1
  ·rw[if_pos h1]
   have q:=fun k hp=>qzn s.A s.few s.hs k hA (by omega) (fun n hn=>(ok.hs n hn).1) hp
   refine⟨_,zw (x:={jw with kind:=1,K:=1+s.A%20,hs:=Qq (1+s.A%20).toNat [] (s.hs.map (cut s.few))}) xP rfl 2 2 2 2 2 2,?_⟩
   have f:=fin {jw with kind:=1,K:=1+s.A%20,hs:=Qq (1+s.A%20).toNat [] (s.hs.map (cut s.few))} gz 2 2 2 2 2 2
   unfold Ze QY at f
   unfold yq at f⊢
   simp[jw,gz,LF]at f
   simp[qe,qj,qh,r6,h1,q,f,jw,gz,LF]
  ·rw[if_neg h1]
   by_cases h2:s.kind%6=2
   ·rw[if_pos h2]
    obtain⟨t,q⟩:=qzo s.A s.hs (rk k) hA (by omega) ok.hs hp0
    refine⟨_,zw (x:={jw with kind:=2,P:=4+s.A%5,rg:=hfold (4+s.A%5) (List.replicate (jA (4+s.A%5)) 0) s.hs}) xP rfl 2 2 t 2 2 2,?_⟩
    have f:=fin {jw with kind:=2,P:=4+s.A%5,rg:=hfold (4+s.A%5) (List.replicate (jA (4+s.A%5)) 0) s.hs} gz 2 2 t 2 2 2
    unfold Ze QY at f
    unfold yq at f⊢
    simp[jw,gz,LF]at f
    simp[qe,qj,qh,r6,h2,q,f,jw,gz,LF]
   ·rw[if_neg h2]
    by_cases h3:s.kind%6=3
    ·rw[if_pos h3]
     have q:=fun k hp=>qow s.wide s.A k s.hs ok.wide hA (by omega) hp
     refine⟨_,zw (x:={jw with kind:=3,B:=1+s.wide%300,H:=1+s.A%8,bs:=blm (1+s.wide%300) (1+s.A%8) [] s.hs}) xP rfl 2 2 2 2 2 2,?_⟩
     have f:=fin {jw with kind:=3,B:=1+s.wide%300,H:=1+s.A%8,bs:=blm (1+s.wide%300) (1+s.A%8) [] s.hs} gz 2 2 2 2 2 2
     unfold Ze QY at f
     unfold yq at f⊢
     simp[jw,gz,LF]at f
     simp[qe,qj,qh,r6,h3,q,f,jw,gz,LF]
    ·rw[if_neg h3]
     by_cases h4:s.kind%6=4
     ·rw[if_pos h4]
      obtain⟨t,q⟩:=zdp QY ((AV.sc (.int .u8 4))::QY.tail) s (rk k) (rk k') hp ok.hs hA hB hl s.hs 0 [] rfl (by simp) (by simp) (by simp)
      refine⟨_,zw (x:={jw with kind:=4,R:=1+s.A%8,C:=1+s.B%40,cs:=yP (1+s.A%8) (1+s.B%40) (List.replicate ((1+s.A%8)*(1+s.B%40)).toNat 0) (smc 0 s.hs)}) xP rfl 2 2 2 2 t 2,?_⟩
      have f:=fin {jw with kind:=4,R:=1+s.A%8,C:=1+s.B%40,cs:=yP (1+s.A%8) (1+s.B%40) (List.replicate ((1+s.A%8)*(1+s.B%40)).toNat 0) (smc 0 s.hs)} gz 2 2 2 2 t 2
      have q:=q (Ze {jw with kind:=4,R:=1+s.A%8,C:=1+s.B%40,cs:=yP (1+s.A%8) (1+s.B%40) (List.replicate ((1+s.A%8)*(1+s.B%40)).toNat 0) (smc 0 s.hs)} gz 2 2 2 2 t 2) (by unfold QY Ze;simp[qh,jw,gz,LF])
      unfold Ze QY at q f
      unfold yq at f⊢
      have nq:S 2 2 (LQ .u64 .u32 [])=S 2 1 []:=rfl
      rw[nq]at q
      simp[jw,gz,LF]at q f
      simp[qe,qj,r6,h4,q,f,jw,gz,LF]
     ·rw[if_neg h4]
      have h5:s.kind%6=5:=by omega
      obtain⟨gw,gc⟩:=ZD (K:=1+s.A%16) (by omega) (zcg ok.fl) qwx (qge (by omega))
      have q:=fun k hp=>qom s.A k s.fl hA (by omega) ok.fl hp
      refine⟨_,zw (x:={jw with kind:=5,gK:=1+s.A%16,g:=(Qs (1+s.A%16) gnew (s.fl.map wd)).nf}) gw rfl 2 2 2 2 2 2,?_⟩
      have f:=fin {jw with kind:=5,gK:=1+s.A%16,g:=(Qs (1+s.A%16) gnew (s.fl.map wd)).nf} (Qs (1+s.A%16) gnew (s.fl.map wd)) 2 2 2 2 2 2
      unfold Ze QY at f
      unfold yq at f⊢
      simp[jw]at f
      simp[qe,qj,qh,r6,h5,q,f,jw]
theorem ql7:∀(r acc:List Int),(YH acc r).length<=acc.length+r.length
 |[],acc=>by simp[YH]
 |x::r,acc=>by
  have h:=ql7 r (mrg acc [x])
  have l:=qmy acc [x]
  show(YH (mrg acc [x]) r).length<=_
  simp at l⊢
  omega
theorem zbb{P h:Int}{l:List Int}(hP:4<=P/\P<=8)(hl:∀n∈l,n<=65-P):∀n∈wC P l h,n<=65-P:=by
 unfold wC
 split
 ·rename_i hi
  intro n hn
  rcases List.mem_or_eq_of_mem_set hn with hn|rfl
  ·exact hl n hn
  ·have h1:=qdm (h:=h) hP
   have h2:=hl l[yx P h] (List.getElem_mem hi)
   have e:l.getD (yx P h) 0=l[yx P h]:=by simp[hi]
   rw[e];omega
 ·exact hl
theorem qf8{P:Int}(hP:4<=P/\P<=8):∀{l a:List Int},(∀n∈a,0<=n/\n<=65-P)->∀n∈hfold P a l,0<=n/\n<=65-P
 |[],a,h=>h
 |x::l,a,h=>by
  have h1:∀n∈wC P a (hsh x),0<=n/\n<=65-P:=fun n hn=>⟨(zba hP (fun m hm=>by have:=h m hm;omega) n hn).1,zbb hP (fun m hm=>(h m hm).2) n hn⟩
  exact qf8 hP (l:=l) h1
theorem qcj(s:Sm)(ok:s.Ok)(hl:s.hs.length<=40)(hf:s.fl.length<=40):Fine (vW s):=by
 have z:=ql8
 have hA:=ok.A
 have hB:=ok.B
 have hw:=ok.wide
 have hk:=ok.kind
 unfold vW
 by_cases h0:s.kind%6=0
 ·rw[if_pos h0]
  have r:=XF (xH s.few s.hs) (acc:=[]) List.Pairwise.nil
  have l:=ql7 (xH s.few s.hs) []
  have l2:=VS s.few ok.hs
  simp at l
  have u:ZS (YH [] (xH s.few s.hs)):=fun n hn=>by
   have:=(qde n _ _).mp hn
   simp at this
   exact qts ok.hs n this
  refine⟨⟨by show(0:Int)<=0/\(0:Int)<256;omega,u,by show(YH [] (xH s.few s.hs)).length<=_;omega,z.hsL,z.rg,z.rgL,z.bs,z.bsL,z.cs,z.csL⟩,?_,Kn⟩
  rw[zk]
  exact⟨by show(0:Int)<6;omega,rfl,qcm.mpr ⟨by show(YH [] (xH s.few s.hs)).length<=_;omega,r⟩⟩
 ·rw[if_neg h0]
  by_cases h1:s.kind%6=1
  ·rw[if_pos h1]
   have l:=qwj (1+s.A%20).toNat (s.hs.map (cut s.few))
   refine⟨⟨by show(0:Int)<=1/\(1:Int)<256;omega,z.set,z.setL,by show(Qq (1+s.A%20).toNat [] (s.hs.map (cut s.few))).length<=_;omega,z.rg,z.rgL,z.bs,z.bsL,z.cs,z.csL⟩,?_,Kn⟩
   rw[zk]
   exact⟨by show(1:Int)<6;omega,rfl,qdk.mpr ⟨by show 1<=1+s.A%20/\1+s.A%20<=1024;omega,by show((Qq (1+s.A%20).toNat [] (s.hs.map (cut s.few))).length:Int)<=1+s.A%20;omega,qp3 _ _⟩⟩
  ·rw[if_neg h1]
   by_cases h2:s.kind%6=2
   ·rw[if_pos h2]
    have hP:4<=4+s.A%5/\4+s.A%5<=8:=by omega
    have o:=qf8 hP (l:=s.hs) (a:=List.replicate (jA (4+s.A%5)) 0) (fun n hn=>by have:=List.eq_of_mem_replicate hn;omega)
    have l:=WN (4+s.A%5) s.hs (List.replicate (jA (4+s.A%5)) 0)
    rw[List.length_replicate]at l
    have hple:=Xo hP.2
    refine⟨⟨by show(0:Int)<=2/\(2:Int)<256;omega,z.set,z.setL,z.hsL,fun n hn=>by have:=o n hn;omega,by show(hfold (4+s.A%5) (List.replicate (jA (4+s.A%5)) 0) s.hs).length<=_;omega,z.bs,z.bsL,z.cs,z.csL⟩,?_,Kn⟩
    rw[zk]
    exact⟨by show(2:Int)<6;omega,rfl,qm3.mpr ⟨hP,l,fun n hn=>(o n hn).2⟩⟩
   ·rw[if_neg h2]
    by_cases h3:s.kind%6=3
    ·rw[if_pos h3]
     have hB':1<=1+s.wide%300/\1+s.wide%300<=4096:=by omega
     have g:=qg3 (B:=1+s.wide%300) (H:=1+s.A%8) hB'.1 (r:=s.hs) (xw.nil _)
     have l:=g.len hB'.2
     refine⟨⟨by show(0:Int)<=3/\(3:Int)<256;omega,z.set,z.setL,z.hsL,z.rg,z.rgL,g.in32 hB'.2,by show(blm (1+s.wide%300) (1+s.A%8) [] s.hs).length<=_;omega,z.cs,z.csL⟩,?_,Kn⟩
     rw[zk]
     exact⟨by show(3:Int)<6;omega,rfl,qgx hB' (by show 1<=1+s.A%8/\1+s.A%8<=8;omega) g⟩
    ·rw[if_neg h3]
     by_cases h4:s.kind%6=4
     ·rw[if_pos h4]
      have hR:1<=1+s.A%8/\1+s.A%8<=8:=by omega
      have hC:1<=1+s.B%40/\1+s.B%40<=256:=by omega
      have m:=qgv hR hC
      have l:=WW (1+s.A%8) (1+s.B%40) (smc 0 s.hs) (List.replicate ((1+s.A%8)*(1+s.B%40)).toNat 0)
      rw[List.length_replicate]at l
      have p2:∀(r:List Int) (i:Nat),(∀n∈r,0<=n/\n<18446744073709551616)->∀p∈smc i r,0<=p.2/\p.2<4294967296:=by
       intro r
       induction r with
       |nil=>intro i _ p hp;simp[smc]at hp
       |cons x r ih=>
        intro i hr p hp
        have hx:=hr x (by simp)
        rcases List.mem_cons.mp hp with rfl|hp
        ·dsimp
         split<;>omega
        ·exact ih (i+1) (fun n hn=>hr n (by simp[hn])) p hp
      have u:=WV (1+s.A%8) (1+s.B%40) (l:=smc 0 s.hs) (a:=List.replicate ((1+s.A%8)*(1+s.B%40)).toNat 0) (fun n hn=>by have:=List.eq_of_mem_replicate hn;omega) (p2 s.hs 0 ok.hs)
      refine⟨⟨by show(0:Int)<=4/\(4:Int)<256;omega,z.set,z.setL,z.hsL,z.rg,z.rgL,z.bs,z.bsL,u,by show(yP (1+s.A%8) (1+s.B%40) (List.replicate ((1+s.A%8)*(1+s.B%40)).toNat 0) (smc 0 s.hs)).length<=_;omega⟩,?_,Kn⟩
      rw[zk]
      exact⟨by show(4:Int)<6;omega,rfl,qnk.mpr ⟨hR,hC,by show((yP (1+s.A%8) (1+s.B%40) (List.replicate ((1+s.A%8)*(1+s.B%40)).toNat 0) (smc 0 s.hs)).length:Int)=(1+s.A%8)*(1+s.B%40);omega⟩⟩
     ·rw[if_neg h4]
      obtain⟨gw,gc⟩:=ZD (K:=1+s.A%16) (by omega) (zcg ok.fl) qwx (qge (by omega))
      refine⟨⟨by show(0:Int)<=5/\(5:Int)<256;omega,z.set,z.setL,z.hsL,z.rg,z.rgL,z.bs,z.bsL,z.cs,z.csL⟩,?_,gw.pos⟩
      rw[zk]
      exact⟨by show(5:Int)<6;omega,rfl,gc⟩
def Sm.none(s:Sm):Sm:={s with hs:=[],fl:=[]}
theorem Sm.Ok.none{s:Sm}(h:s.Ok):s.none.Ok:=⟨h.kind,h.A,h.B,h.wide,by simp[Sm.none],by simp[Sm.none]⟩
theorem qpe(Z L:List AV)(h:Z.length=L.length):qh Z 0 L=some L:=by
 unfold qh
 rw[if_pos (by omega)]
 simp[h]
theorem qp9(L:List AV)(n:Nat)(h:L.length=n):ql L 0 n=some L:=by
 subst h;exact qgg L
theorem qp8(L:List AV)(i:Nat):qe (L.map ro1) i=qe L i:=by
 unfold qe
 rw[List.getElem?_map]
 cases L[i]? with
 |none=>rfl
 |some x=>cases x<;>rfl
structure Cl (x : SkN) (L : List AV) : Prop where
 sk:kY x (.agg L)
 len:L.length=23
 vl:L.all vl=true
 ro:L.map ro1=L
 k0:qe L 0=some (.int .u8 x.kind)
theorem kY.cl{x:SkN}{r:AV}(h:kY x r):∃L,r= .agg L/\L.length=23/\L.all AI.vl=true/\Cl x (L.map ro1):=by
 obtain⟨g,a,b,c,d,e,f,gw,gn,rfl⟩:=h
 refine⟨_,rfl,rfl,by simp,⟨⟨g,rk a,rk b,rk c,rk d,rk e,rk f,gw,gn,by simp[yq]⟩,by simp,by simp,by simp,by simp[qe]⟩⟩
def By(l:List Int):Prop:=∀x∈l,0<=x/\x<256
theorem By.app{a b:List Int}(h:By a)(g:By b):By (a++b):=fun x hx=>(List.mem_append.mp hx).elim (h x) (g x)
theorem By.cons{a:Int}{b:List Int}(h:0<=a/\a<256)(g:By b):By (a::b):=fun x hx=>(List.mem_cons.mp hx).elim (fun e=>by rw[e];exact h) (g x)
theorem By.nil:By []:=fun x hx=>by cases hx
theorem By.uv(n:Nat):By (uv n):=zgm n
theorem By.pk(l:List Bool):By (pk l):=fun x hx=>qc2 hx
theorem VV{s:En}(h:By s.out):By (sh s).out:=by
 unfold sh
 split
 ·refine By.app (By.app h ?_) fun x hx=>?_
  ·split
   ·exact By.cons (by omega) By.nil
   ·exact By.nil
  ·rw[List.eq_of_mem_replicate hx];omega
 ·exact h
theorem zat:∀(f:Nat) {s:En},By s.out->By (zj f s).out:=by
 intro f
 induction f with
 |zero=>intro s h;exact h
 |succ f ih=>
  intro s h
  unfold zj
  split
  ·exact ih (VV h)
  ·exact h
theorem zey:∀(l cs:List Nat) {s:En},By s.out->By (enc cs s l).out:=by
 intro l
 induction l with
 |nil=>intro cs s h;exact h
 |cons x r ih=>intro cs s h;exact ih _ (zat 4 h)
theorem qxn(l:List Nat):By (xu l):=VV (VV (VV (VV (VV (zey l cs0 By.nil)))))
theorem zfj(m:Nat):∀f i,i+f<=256->By (jZ m f i):=by
 intro f
 induction f with
 |zero=>intro i _;exact By.nil
 |succ f ih=>
  intro i h
  unfold jZ
  split
  ·exact By.cons (by omega) (ih _ (by omega))
  ·exact ih _ (by omega)
theorem zfe(m:Nat):∀f i,By (jX m f i):=by
 intro f
 induction f with
 |zero=>intro i;exact By.nil
 |succ f ih=>intro i;exact By.cons (by omega) (ih _)
theorem zgs(m:Nat):∀f i,By (xD m f i):=by
 intro f
 induction f with
 |zero=>intro i;exact By.nil
 |succ f ih=>
  intro i
  unfold xD
  split
  ·exact By.nil
  ·split
   ·have:=vf m (255-i) i
    exact By.cons (by omega) (By.cons (by omega) (ih _))
   ·exact ih _
theorem qzv{cs:List (Nat×Nat)}:By (vx cs):=by
 have h:∀cs:List (Nat×Nat),By (vu cs):=by
  intro cs
  induction cs with
  |nil=>exact By.nil
  |cons c r ih=>
   have k:=Js c.2
   have a:=kr c.2 256
   have b:=Zv c.2 256
   refine By.app (By.app (By.uv _) (By.cons (by omega) ?_)) ih
   unfold wJ
   split
   ·exact By.cons (by omega) (zfj _ _ _ (by omega))
   ·split
    ·exact zfe _ _ _
    ·exact By.cons (by omega) (zgs _ _ _)
 exact By.app (By.uv _) (h cs)
theorem zaf(c:Int):∀(l:List Int) (i:Nat) (last:Int),By (yd c l i last):=by
 intro l
 induction l with
 |nil=>intro i last;exact By.nil
 |cons x r ih=>intro i last;exact By.app (By.uv _) (ih _ _)
theorem zbf:∀(l:List Nat) (p:Nat),By (yX p l):=by
 intro l
 induction l with
 |nil=>intro p;exact By.nil
 |cons x r ih=>intro p;exact By.app (By.uv _) (ih _)
theorem qz4{x:SkN}(f:Fine x)(h64:H64 x):By (qM x):=by
 have hk:=f.w.kind
 have kd:=(zk.mp f.c).1
 have six:x.kind=0\/x.kind=1\/x.kind=2\/x.kind=3\/x.kind=4\/x.kind=5:=by omega
 unfold qM
 rcases six with k|k|k|k|k|k
 ·rw[if_pos k];exact qzv
 ·rw[if_neg (by omega),if_pos k]
  obtain⟨s0,s1,s2,s3,s4⟩:=vH f k h64
  have p:=(Jo (vk s3)).1
  exact By.app (By.uv _) (By.app (By.app (By.app (By.uv _) (By.cons (by omega) By.nil)) (By.uv _)) (By.pk _))
 ·rw[if_neg (by omega),if_neg (by omega),if_pos k]
  have s:=vJ f k
  exact By.cons (by omega) (qxn _)
 ·rw[if_neg (by omega),if_neg (by omega),if_neg (by omega),if_pos k]
  have s:=vQ f k
  exact By.app (By.app (By.uv _) (By.cons (by omega) By.nil)) (By.app (By.app (By.app (By.app (By.uv _) (By.uv _)) (By.pk _)) (By.uv _)) (By.pk _))
 ·rw[if_neg (by omega),if_neg (by omega),if_neg (by omega),if_neg (by omega),if_pos k]
  have s:=vP f k
  exact By.app (By.app (By.cons (by omega) By.nil) (By.uv _)) (zaf _ _ _ _)
 ·rw[if_neg (by omega),if_neg (by omega),if_neg (by omega),if_neg (by omega),if_neg (by omega)]
  have s:=vK f k
  unfold vL
  exact By.app (By.app (By.app (By.app (By.app (By.app (By.app (By.app (By.app (By.app (By.app (By.cons (by omega) By.nil) (By.uv _)) (By.uv _)) (By.uv _)) (By.uv _)) (By.uv _)) (By.uv _)) (By.uv _)) (By.uv _)) (By.uv _)) (By.cons (by omega) By.nil)) (zbf _ _)
theorem qeb(s:Sm)(ok:s.Ok):H64 (vW s):=by
 intro n hn
 unfold vW at hn
 by_cases h0:s.kind%6=0
 ·rw[if_pos h0]at hn;cases hn
 ·rw[if_neg h0]at hn
  by_cases h1:s.kind%6=1
  ·rw[if_pos h1]at hn
   obtain⟨m,hm,rfl⟩:=List.mem_map.mp (qv9 hn)
   have:=ok.hs m hm
   unfold cut
   split<;>omega
  ·rw[if_neg h1]at hn
   split at hn
   ·cases hn
   ·split at hn
    ·cases hn
    ·split at hn<;>cases hn
abbrev Rb(k:Nat)(l:List Int)(p:Nat)(s:Bool):List AV:=[S k 1 (LI .u8 l),.sc (.int .i64 (p:Int)),.sc (.bool s)]
def rb(l:List Int)(p:Nat)(s:Bool):Bool×Nat×Bool:=if s=true\/8*l.length<=p then(false,p,true)else(jN l p,p+1,false)
def rt(l:List Int):Nat->Nat->Nat->Bool->Nat×Nat×Bool
 |0,n,p,s=>(if s then 0 else n,p,s)
 |k+1,n,p,s=>rt l k (2*n+(rb l p s).1.toNat) (rb l p s).2.1 (rb l p s).2.2
def ru(l:List Int)(most:Nat):Nat->Nat->Nat->Bool->Nat×Nat×Bool
 |0,n,p,s=>(0,p,true)
 |f+1,n,p,s=>if(rb l p s).1 then ru l most f (n+1) (rb l p s).2.1 ((rb l p s).2.2||decide (most<n+1))else(if(rb l p s).2.2 then 0 else n,(rb l p s).2.1,(rb l p s).2.2)
def rU1(l:List Int)(most p:Nat)(s:Bool):Nat×Nat×Bool:=ru l most (8*l.length+2) 0 p s
def qff(l:List Int)(p:Nat)(s:Bool):Int:=if s then 3 else if p+8<=8*l.length then 15 else if(List.range (8*l.length-p)).any (fun i=>jN l (p+i))then 15 else 0
theorem rb_p(l:List Int)(p:Nat)(s:Bool)(h:p<=8*l.length):(rb l p s).2.1<=8*l.length:=by
 unfold rb
 by_cases h1:s=true\/8*l.length<=p
 ·rw[if_pos h1];exact h
 ·rw[if_neg h1];simp at h1⊢;omega
theorem bit8(l:List Int)(p:Nat)(h8:∀c∈l,0<=c/\c<256)(hp:p<8*l.length):
 ∃z:Int,(∀t x y,qr Tryz.prog .shr t x y (.int .u8 (l.getD (p/8) 0)) (.int .i64 ((7-p%8:Nat):Int))=some (.int .u8 z))/\(∀t x y,qr Tryz.prog .and t x y (.int .u8 z) (.int .u8 1)=some (.int .u8 ((jN l p).toNat:Nat))):=by
 obtain⟨c,hc⟩:∃c,l.getD (p/8) 0=c:=⟨_,rfl⟩
 have hm:c∈l:=by
  rw[<-hc,List.getD_eq_getElem?_getD,List.getElem?_eq_getElem (by omega)]
  exact List.getElem_mem _
 obtain⟨c1,c2⟩:=h8 c hm
 obtain⟨n,rfl⟩:∃n:Nat,c=n:=⟨c.toNat,by omega⟩
 unfold jN
 rw[hc]
 refine⟨_,fun t x y=>js _ _ _ _ _ _ _ _ (by omega),fun t x y=>?_⟩
 rw[qS]
 have h:7-p%8<8:=by omega
 generalize 7-p%8=r at*
 have e1:min (r:Int).toNat IntKind.u8.bits=r:=by
  show min (r:Int).toNat 8=r
  omega
 have e2:(n:Int).fdiv (2^r)=((n/2^r:Nat):Int):=by
  rw[Int.fdiv_eq_ediv_of_nonneg _ (Int.le_of_lt (Int.pow_pos (by omega)))]
  simp
 have e3:(BitVec.ofInt IntKind.u8.bits ((n/2^r:Nat):Int)&&&BitVec.ofInt IntKind.u8.bits 1).toNat=n/2^r%2:=by
  have hlt:n/2^r<256:=Nat.lt_of_le_of_lt (Nat.div_le_self _ _) (by omega)
  generalize n/2^r=q at*
  show(BitVec.ofInt 8 (q:Int)&&&BitVec.ofInt 8 1).toNat=q%2
  have e:BitVec.ofInt 8 1=1#8:=rfl
  rw[BitVec.ofInt_natCast,e,BitVec.toNat_and,BitVec.toNat_ofNat,Nat.mod_eq_of_lt hlt]
  exact Nat.and_one_is_mod q
 rw[e1,e2,e3,Int.toNat_natCast,Nat.testBit_eq_decide_div_mod_eq]
 have:n/2^r%2=0\/n/2^r%2=1:=by omega
 rcases this with e|e<;>rw[e]<;>rfl
theorem QJ(k:Nat)(l:List Int)(hp:Hp):run cxX 147 [S k 1 (LI .u8 l)] hp=some (.ptr hp.next 0 0,hp.new (Rb (rk k) l 0 false)):=by
 rw[E147]
 simp[qh]
 rfl
section
variable (b k:Nat)(l:List Int)(p:Nat)(s:Bool)(hp:Hp)(hl:l.length<=100000000)
theorem kh(h:hp.rd b 0=some (Rb k l p s)):run cxX 151 [.ptr b 0 0] hp=some (.sc (.bool s),hp):=by
 rw[E151]
 simp[h,qe]
theorem qov(h:hp.rd b 0=some (Rb k l p s)):run cxX 177 [.ptr b 0 0] hp=some (.tup [],hp.put b 0 (Rb k l p true)):=by
 rw[E177]
 simp[h,qh]
theorem zb7(h:hp.rd b 0=some (Rb k l p s)):B176_2 (.ptr b 0 0) hp=some (.sc (.int .i64 0),hp.put b 0 (Rb k l p true)):=by
 rw[qrr]
 simp[h,qh,qrq]
include hl
theorem qme(h8:∀c∈l,0<=c/\c<256)(hpl:p<=8*l.length)(h:hp.rd b 0=some (Rb k l p s)):
 run cxX 176 [.ptr b 0 0] hp=some (.sc (.int .i64 ((rb l p s).1.toNat:Nat)),hp.put b 0 (Rb k l (rb l p s).2.1 (rb l p s).2.2)):=by
 have t:=zb7 b k l p s hp h
 rw[E176]
 unfold rb
 by_cases hs:s=true
 ·subst hs
  simp[h,qe,t]
 ·have hs:s=false:=by simpa using hs
  subst hs
  have w1:IntKind.i64.wrap (8*(l.length:Int))=((8*l.length:Nat):Int):=by rw[qf]<;>omega
  by_cases h1:8*l.length<=p
  ·have hge:((8*l.length:Nat):Int)<=(p:Int):=by omega
   generalize hq:((8*l.length:Nat):Int)=q at*
   simp[h,qe,qj,w1,hge,t,h1]
  ·have hge:¬(((8*l.length:Nat):Int)<=(p:Int)):=by omega
   have q8:=qc1 p (by omega)
   obtain⟨z8,b8,b8'⟩:=bit8 l p h8 (by omega)
   have r8:=qcz p
   have w4:IntKind.i64.wrap (7-((p%8:Nat):Int))=((7-p%8:Nat):Int):=by rw[qf]<;>omega
   have w2:IntKind.i64.wrap ((p:Int)+1)=((p+1:Nat):Int):=by rw[qf]<;>omega
   have w3:IntKind.i64.wrap (((jN l p).toNat:Nat):Int)=(((jN l p).toNat:Nat):Int):=by have:=b2n (jN l p);rw[qf]<;>omega
   have ge:(LI .u8 l)[p/8]?=some (.sc (.int .u8 (l.getD (p/8) 0))):=by
    unfold LI
    rw[List.getElem?_map,List.getD_eq_getElem?_getD,List.getElem?_eq_getElem (by omega)]
    rfl
   have g0:(0:Int)<=((p/8:Nat):Int):=by omega
   have b5:B176_5 (.ptr b 0 0) hp=some (.sc (.int .i64 ((jN l p).toNat:Nat)),hp.put b 0 (Rb k l (p+1) false)):=by
    rw[qrp]
    generalize hcc:l.getD (p/8) 0=c at*
    generalize hrr:((7-p%8:Nat):Int)=r at*
    have gs1:∀(x y:AV) (v:Value),qe [x,.sc v,y] 1=some v:=fun _ _ _=>rfl
    have gs0:∀(v:Value),qe [.sc v] 0=some v:=fun _=>rfl
    have gc0:∀(x:AV) (l:List AV),qj (x::l) 0=some x:=fun _ _=>rfl
    generalize hq8:((p/8:Nat):Int)=q1 at*
    have ge':(LI .u8 l)[q1.toNat]?=some (.sc (.int .u8 c)):=by rw[<-hq8,Int.toNat_natCast];exact ge
    generalize((p%8:Nat):Int)=q2 at*
    simp[h,qj,gs1,q8,g0,ge',gs0,r8,w4,b8,b8',w2,cv8,w3,qh,-qS]
    rfl
   generalize hq:((8*l.length:Nat):Int)=q at*
   simp[h,qe,qj,w1,hge,b5,h1]
theorem qn0(h8:∀c∈l,0<=c/\c<256)(n0:Nat)(hn0:n0<=64):∀(m acc p:Nat) (s:Bool) (hp:Hp),m<=n0->acc<2^(n0-m)->p<=8*l.length->hp.rd b 0=some (Rb k l p s)->
 B150_3 (.ptr b 0 0) (.int .u64 (acc:Int)) (.int .i64 (n0:Int)) (.int .i64 ((n0-m:Nat):Int)) hp=some (.sc (.int .u64 ((rt l m acc p s).1:Nat)),hp.put b 0 (Rb k l (rt l m acc p s).2.1 (rt l m acc p s).2.2)):=by
 intro m
 induction m with
 |zero=>
  intro acc p s hp hm ha hpl h
  have sh:=kh b k l p s hp h
  rw[qbg]
  cases s
  ·simp[sh,rt,zE h]
  ·simp[sh,rt,zE h]
 |succ m ih=>
  intro acc p s hp hm ha hpl h
  have bt:=qme b k l p s hp hl h8 hpl h
  have hlt:((n0-(m+1):Nat):Int)<(n0:Int):=by omega
  have hb:=b2n (rb l p s).1
  have jA:2^(n0-(m+1))<=2^63:=Nat.pow_le_pow_right (by decide) (by omega)
  have e63:(2:Nat)^63=9223372036854775808:=by decide
  have s1:∀t x y,qr Tryz.prog .shl t x y (.int .u64 (acc:Int)) (.int .u64 1)=some (.int .u64 ((acc*2^1:Nat):Int)):=by
   intro t x y
   rw[zF _ _ _ _ _ _ _ _ (by omega)]
   have e:(2:Int)^min (1:Int).toNat IntKind.u64.bits=2:=rfl
   rw[e,IntKind.wrap_u64]
   congr 2
   omega
  have w1:IntKind.u64.wrap (((rb l p s).1.toNat:Nat):Int)=(((rb l p s).1.toNat:Nat):Int):=qn (by omega) (by omega)
  have o1:∀t x y,qr Tryz.prog .or t x y (.int .u64 ((acc*2^1:Nat):Int)) (.int .u64 (((rb l p s).1.toNat:Nat):Int))=some (.int .u64 ((2*acc+(rb l p s).1.toNat:Nat):Int)):=by
   intro t x y
   rw[zG]
   generalize(rb l p s).1.toNat=q at*
   have e:(BitVec.ofInt IntKind.u64.bits ((acc*2^1:Nat):Int)|||BitVec.ofInt IntKind.u64.bits (q:Int)).toNat=2*acc+q:=by
    show(BitVec.ofInt 64 ((acc*2^1:Nat):Int)|||BitVec.ofInt 64 (q:Int)).toNat=_
    rw[BitVec.toNat_or,BitVec.toNat_ofInt,BitVec.toNat_ofInt]
    have e1:(((acc*2^1:Nat):Int)%((2^64:Nat):Int)).toNat=2^1*acc:=by omega
    have e2:((q:Int)%((2^64:Nat):Int)).toNat=q:=by omega
    rw[e1,e2,<-Nat.two_pow_add_eq_or_of_lt (by omega) acc]
   rw[e,qn (by omega) (by omega)]
  have w2:IntKind.i64.wrap (((n0-(m+1):Nat):Int)+1)=((n0-m:Nat):Int):=by rw[qf]<;>omega
  have hi:=ih (2*acc+(rb l p s).1.toNat) (rb l p s).2.1 (rb l p s).2.2 (hp.put b 0 (Rb k l (rb l p s).2.1 (rb l p s).2.2)) (by omega) (by
   have:n0-m=n0-(m+1)+1:=by omega
   rw[this,Nat.pow_succ];omega) (rb_p l p s hpl) (qi _ _ _)
  rw[qp]at hi
  rw[qbg]
  have e3:rt l (m+1) acc p s=rt l m (2*acc+(rb l p s).1.toNat) (rb l p s).2.1 (rb l p s).2.2:=rfl
  rw[e3]
  generalize rt l m (2*acc+(rb l p s).1.toNat) (rb l p s).2.1 (rb l p s).2.2=R at*
  generalize((2*acc+(rb l p s).1.toNat:Nat):Int)=A at*
  generalize(((rb l p s).1.toNat:Nat):Int)=bb at*
  generalize((acc*2^1:Nat):Int)=aa at*
  generalize((n0-(m+1):Nat):Int)=jj at*
  generalize((n0-m:Nat):Int)=kk at*
  simp[hlt,s1,bt,w1,o1,w2,hi,-zG]
theorem Wl(h8:∀c∈l,0<=c/\c<256)(n0:Nat)(hn0:n0<=64)(hpl:p<=8*l.length)(h:hp.rd b 0=some (Rb k l p s)):
 run cxX 150 [.ptr b 0 0,.sc (.int .i64 (n0:Int))] hp=some (.sc (.int .u64 ((rt l n0 0 p s).1:Nat)),hp.put b 0 (Rb k l (rt l n0 0 p s).2.1 (rt l n0 0 p s).2.2)):=by
 have t:=qn0 b k l hl h8 n0 hn0 n0 0 p s hp (Nat.le_refl _) (Nat.two_pow_pos _) hpl h
 have m1:max (n0:Int) 0=(n0:Int):=by omega
 have m2:min (n0:Int) 64=(n0:Int):=by omega
 rw[E150]
 simp at t
 simp[m1,m2,t]
theorem qnt(h8:∀c∈l,0<=c/\c<256)(most:Nat)(hmost:most<1000000000000):∀(f n p:Nat) (s:Bool) (hp:Hp),n<=1000000000000->p<=8*l.length->(s=true/\1<=f)\/8*l.length+1<=f+p->n+f<=1000000000000->hp.rd b 0=some (Rb k l p s)->
 B149_2 (.ptr b 0 0) (.int .i64 (most:Int)) (.int .i64 (n:Int)) hp=some (.sc (.int .i64 ((ru l most f n p s).1:Nat)),hp.put b 0 (Rb k l (ru l most f n p s).2.1 (ru l most f n p s).2.2)):=by
 intro f
 induction f with
 |zero=>intro n p s hp hn hpl hf hnf h;omega
 |succ f ih=>
  intro n p s hp hn hpl hf hnf h
  have bt:=qme b k l p s hp hl h8 hpl h
  have hrp:=rb_p l p s hpl
  rw[qr4]
  unfold ru
  by_cases hb:(rb l p s).1=true
  ·have hb2:(rb l p s).2=(p+1,false):=by
    unfold rb at hb⊢
    by_cases h1:s=true\/8*l.length<=p
    ·rw[if_pos h1]at hb;cases hb
    ·rw[if_neg h1]
   have hs:s=false:=by
    cases s
    ·rfl
    ·exfalso;unfold rb at hb;rw[if_pos (.inl rfl)]at hb;cases hb
   have hlp:p<8*l.length:=by
    by_cases h1:8*l.length<=p
    ·exfalso;unfold rb at hb;rw[if_pos (.inr h1)]at hb;cases hb
    ·omega
   have hf':8*l.length+1<=f+1+p:=by
    rcases hf with⟨h,_⟩|h
    ·rw[hs]at h;cases h
    ·exact h
   rw[hb,hb2]at bt
   rw[hb,hb2]
   have w1:IntKind.i64.wrap ((n:Int)+1)=((n+1:Nat):Int):=by rw[qf]<;>omega
   have st:=qov b k l (p+1) false (hp.put b 0 (Rb k l (p+1) false)) (qi _ _ _)
   rw[qp]at st
   by_cases hm:most<n+1
   ·have hg:((n+1:Nat):Int)>(most:Int):=by omega
    have hi:=ih (n+1) (p+1) true (hp.put b 0 (Rb k l (p+1) true)) (by omega) (by omega) (.inl ⟨rfl,by omega⟩) (by omega) (qi _ _ _)
    rw[qp]at hi
    have e:(false||decide (most<n+1))=true:=by simp[hm]
    simp only[e,if_true]
    generalize hq:ru l most f (n+1) (p+1) true=R at*
    have e2:((true.toNat:Nat):Int)=1:=rfl
    rw[e2]at bt
    generalize hq3:((n+1:Nat):Int)=n1 at*
    generalize hp.put b 0 (Rb k l (p+1) false)=hpa at*
    generalize hp.put b 0 (Rb k l (p+1) true)=hpb at*
    simp[bt,w1,hg,st,hi]
   ·have hg:¬(((n+1:Nat):Int)>(most:Int)):=by omega
    have hi:=ih (n+1) (p+1) false (hp.put b 0 (Rb k l (p+1) false)) (by omega) (by omega) (.inr (by omega)) (by omega) (qi _ _ _)
    rw[qp]at hi
    have e:(false||decide (most<n+1))=false:=by simp[hm]
    simp only[e,if_true]
    generalize hq:ru l most f (n+1) (p+1) false=R at*
    have e2:((true.toNat:Nat):Int)=1:=rfl
    rw[e2]at bt
    generalize hq3:((n+1:Nat):Int)=n1 at*
    generalize hp.put b 0 (Rb k l (p+1) false)=hpa at*
    have hg':¬((most:Int)<n1):=hg
    simp[bt,w1,hg',hi]
  ·have hb:(rb l p s).1=false:=by simpa using hb
   rw[hb]at bt
   rw[hb]
   have e2:((false.toNat:Nat):Int)=0:=rfl
   rw[e2]at bt
   have sh:=kh b k l (rb l p s).2.1 (rb l p s).2.2 (hp.put b 0 (Rb k l (rb l p s).2.1 (rb l p s).2.2)) (qi _ _ _)
   generalize hq1:(rb l p s).2.2=s2 at*
   generalize hq2:(rb l p s).2.1=p2 at*
   cases s2
   ·simp[bt,sh]
   ·simp[bt,sh]
theorem XP(h8:∀c∈l,0<=c/\c<256)(most:Nat)(hmost:most<1000000000000)(hpl:p<=8*l.length)(h:hp.rd b 0=some (Rb k l p s)):
 run cxX 149 [.ptr b 0 0,.sc (.int .i64 (most:Int))] hp=some (.sc (.int .i64 ((rU1 l most p s).1:Nat)),hp.put b 0 (Rb k l (rU1 l most p s).2.1 (rU1 l most p s).2.2)):=by
 have t:=qnt b k l hl h8 most hmost (8*l.length+2) 0 p s hp (by omega) hpl (by omega) (by omega) h
 rw[E149]
 unfold rU1
 simp at t
 simp[t]
theorem qqx(h8:∀c∈l,0<=c/\c<256)(s:Bool)(hp:Hp)(h:hp.rd b 0=some (Rb k l p s)):∀(m q:Nat),q+m=8*l.length->
 B152_8 (.ptr b 0 0) (.int .i64 (q:Int)) hp=some (.sc (.int .i64 (if(List.range m).any (fun i=>jN l (q+i))then 15 else 0)),hp):=by
 intro m
 have w1:IntKind.i64.wrap (8*(l.length:Int))=((8*l.length:Nat):Int):=by rw[qf]<;>omega
 have gc0:∀(x:AV) (l:List AV),qj (x::l) 0=some x:=fun _ _=>rfl
 have gs0:∀(v:Value),qe [.sc v] 0=some v:=fun _=>rfl
 induction m with
 |zero=>
  intro q hq
  have hlt:¬((q:Int)<((8*l.length:Nat):Int)):=by omega
  rw[qbf]
  generalize((8*l.length:Nat):Int)=z at*
  simp[h,gc0,w1,hlt]
 |succ m ih=>
  intro q hq
  have hlt:(q:Int)<((8*l.length:Nat):Int):=by omega
  have q8:=qc1 q (by omega)
  obtain⟨z8,b8,b8'⟩:=bit8 l q h8 (by omega)
  have r8:=qcz q
  have w4:IntKind.i64.wrap (7-((q%8:Nat):Int))=((7-q%8:Nat):Int):=by rw[qf]<;>omega
  have ge:(LI .u8 l)[q/8]?=some (.sc (.int .u8 (l.getD (q/8) 0))):=by
   unfold LI
   rw[List.getElem?_map,List.getD_eq_getElem?_getD,List.getElem?_eq_getElem (by omega)]
   rfl
  have g0:(0:Int)<=((q/8:Nat):Int):=by omega
  have w2:IntKind.i64.wrap ((q:Int)+1)=((q+1:Nat):Int):=by rw[qf]<;>omega
  have hi:=ih (q+1) (by omega)
  have e:(List.range (m+1)).any (fun i=>jN l (q+i))=(jN l q||(List.range m).any (fun i=>jN l (q+1+i))):=by
   rw[List.range_succ_eq_map,List.any_cons,List.any_map]
   congr 2
   funext i
   show jN l (q+(i+1))=_
   congr 1
   omega
  rw[e,qbf]
  generalize hcc:l.getD (q/8) 0=c at*
  generalize hrr:((7-q%8:Nat):Int)=r at*
  generalize hq8:((q/8:Nat):Int)=q1 at*
  have ge':(LI .u8 l)[q1.toNat]?=some (.sc (.int .u8 c)):=by rw[<-hq8,Int.toNat_natCast];exact ge
  generalize((q%8:Nat):Int)=q2 at*
  generalize((8*l.length:Nat):Int)=z at*
  generalize((q+1:Nat):Int)=q9 at*
  generalize(List.range m).any (fun i=>jN l (q+1+i))=A at*
  cases hbb:jN l q
  ·rw[hbb]at b8'
   have b9:∀t x y,qr Tryz.prog .and t x y (.int .u8 z8) (.int .u8 1)=some (.int .u8 0):=b8'
   simp[h,gc0,w1,hlt,q8,g0,ge',gs0,r8,w4,b8,b9,w2,hi,-qS]
  ·rw[hbb]at b8'
   have b9:∀t x y,qr Tryz.prog .and t x y (.int .u8 z8) (.int .u8 1)=some (.int .u8 1):=b8'
   simp[h,gc0,w1,hlt,q8,g0,ge',gs0,r8,w4,b8,b9,-qS]
theorem quw(h8:∀c∈l,0<=c/\c<256)(hpl:p<=8*l.length)(h:hp.rd b 0=some (Rb k l p s)):
 run cxX 152 [.ptr b 0 0] hp=some (.sc (.int .i64 (qff l p s)),hp):=by
 have t:=qqx b k l p hl h8 s hp h (8*l.length-p) p (by omega)
 have w1:IntKind.i64.wrap (8*(l.length:Int))=((8*l.length:Nat):Int):=by rw[qf]<;>omega
 have w2:IntKind.i64.wrap (((8*l.length:Nat):Int)-(p:Int))=((8*l.length:Nat):Int)-(p:Int):=by rw[qf]<;>omega
 have gc0:∀(x:AV) (l:List AV),qj (x::l) 0=some x:=fun _ _=>rfl
 rw[E152]
 unfold qff
 cases s
 ·by_cases h1:p+8<=8*l.length
  ·have hg:8<=((8*l.length:Nat):Int)-(p:Int):=by omega
   generalize((8*l.length:Nat):Int)=z at*
   simp[h,qe,gc0,w1,w2,hg,h1]
  ·have hg:¬(8<=((8*l.length:Nat):Int)-(p:Int)):=by omega
   generalize((8*l.length:Nat):Int)=z at*
   generalize(List.range (8*l.length-p)).any (fun i=>jN l (p+i))=A at*
   simp[h,qe,gc0,w1,w2,hg,h1,t]
 ·simp[h,qe]
end
theorem qZ{l a r:List Int}{p:Nat}(h:l.drop p=a++r):l.drop (p+a.length)=r:=by
 rw[<-List.drop_drop,h,List.drop_left]
theorem zp{l a r:List Int}{p:Nat}(hp:p<=l.length)(h:l.drop p=a++r):p+a.length<=l.length:=by
 have:=congrArg List.length h
 simp at this
 omega
theorem zcn{l r:List Int}{p m most:Nat}(h:l.drop p=uv m++r)(hm:m<=most)(hm2:m<18446744073709551616):rU l p 0 most=(m,p+(uv m).length,0):=by
 have g:=zhb 0 m r 0 0 0 rfl (by omega) (by simpa using hm2) (by omega)
 simp only[Nat.pow_zero,Nat.mul_one,Nat.zero_add]at g
 unfold rU
 rw[h,g]
 have h1:¬(most<m):=by omega
 simp[h1]
theorem qz3{l r:List Int}{p:Nat}{c:Int}(h:l.drop p=c::r):rB l p 0=(c,p+1,0):=by
 obtain⟨e1,e2,hi,e3⟩:=qm h
 unfold rB rL
 have h1:¬(l.length-p=0):=by omega
 have h2:l.getD p 0=c:=by rw[List.getD_eq_getElem?_getD,e1];rfl
 have h3:(if(0:Int)=0 then l.length-p else 0)=l.length-p:=if_pos rfl
 rw[h3,if_neg h1,h2]
section
variable (b k:Nat)(l:List Int)(hl:l.length<=1000000000)(h8:By l)
include hl h8
theorem zL{p m most:Nat}{r:List Int}(h:l.drop p=uv m++r)(hm:m<=most)(hm2:most<18446744073709551616)(hp:Hp)(hpl:p<=l.length)(hr:hp.rd b 0=some (Rc k l p 0)):
 run cxX 45 [.ptr b 0 0,.sc (.int .u64 (most:Int))] hp=some (.sc (.int .u64 (m:Int)),hp.put b 0 (Rc k l (p+(uv m).length) 0)):=by
 have a:=Ya b k l most p 0 hm2 hl h8 hpl hp hr
 rw[zcn h hm (by omega)]at a
 exact a
omit h8 in
theorem zM{p:Nat}{c:Int}{r:List Int}(h:l.drop p=c::r)(hp:Hp)(hpl:p<=l.length)(hr:hp.rd b 0=some (Rc k l p 0)):
 run cxX 48 [.ptr b 0 0] hp=some (.sc (.int .u8 c),hp.put b 0 (Rc k l (p+1) 0)):=by
 have a:=QI b k l p 0 hp hl hpl hr
 rw[qz3 h]at a
 exact a
theorem qtk{p:Nat}{d:Int}{r:List Int}(h:l.drop p=uv (zz d)++r)(h1:-9223372036854775808<=d)(h2:d<9223372036854775808)(hp:Hp)(hpl:p<=l.length)(hr:hp.rd b 0=some (Rc k l p 0)):
 run cxX 107 [.ptr b 0 0] hp=some (.sc (.int .i64 d),hp.put b 0 (Rc k l (p+(uv (zz d)).length) 0)):=by
 have a:=qt7 b k l p 0 hl h8 hpl hp hr
 have z:=qdz h1 h2
 rw[zcn h (by omega) z]at a
 simp only[qy2]at a
 exact a
theorem qnw(cb:Nat)(R C:Int)(hC:1<=C/\C<=256)(cs:List Int)(hcl:cs.length<=4096)(h32:ZS cs)(b2:List AV)(hbc:cb≠b)(rest:List Int):∀(r:List Int) (i p:Nat) (last:Int) (hp:Hp),cs.drop i=r->i<=cs.length->(0<=last/\last<4294967296)->
 l.drop p=yd C r i last++rest->p<=l.length->hp.rd b 0=some (Rc k l p 0)->hp.rd cb 0=some (LI .u32 (cs.take i++List.replicate (cs.length-i) 0))->
 ∃hp',B51_7 (.ptr b 0 0) (.int .i64 last) (.int .i64 (cs.length:Int)) (.int .i64 (i:Int)) b2 [.sc (.int .i64 R),.sc (.int .i64 C),.ms cb 0 0 cs.length 1] hp=
  B51_19 b2 [.sc (.int .i64 R),.sc (.int .i64 C),.ms cb 0 0 cs.length 1] hp'/\hp'.rd b 0=some (Rc k l (p+(yd C r i last).length) 0)/\hp'.rd cb 0=some (LI .u32 cs)/\hp'.next=hp.next/\∀c,c≠b->c≠cb->hp'.get c=hp.get c:=by
 intro r
 induction r with
 |nil=>
  intro i p last hp h hil hla hd hpl hr hc
  have h1:=qB h
  have e:i=cs.length:=by omega
  subst e
  refine⟨hp,?_,by simpa[yd]using hr,by simpa using hc,rfl,fun _ _ _=>rfl⟩
  have hlt:¬((cs.length:Int)<(cs.length:Int)):=by omega
  rw[qid]
  simp
 |cons x r ih=>
  intro i p last hp h hil hla hd hpl hr hc
  obtain⟨e1,e2,hi,e3⟩:=qm h
  have hx:=h32 x (List.mem_of_getElem? e1)
  obtain⟨lst,hlst⟩:∃lst:Int,lst=if(i:Int)%max C 1=0 then 0 else last:=⟨_,rfl⟩
  have hb:0<=lst/\lst<4294967296:=by rw[hlst];split<;>omega
  have ep:yd C (x::r) i last=uv (zz (x-lst))++yd C r (i+1) x:=by rw[hlst];rfl
  rw[ep,List.append_assoc]at hd
  have ti:=qtk b k l hl h8 hd (by omega) (by omega) hp hpl hr
  have hd2:=qZ hd
  have hpl2:=zp hpl hd
  have hlt:(i:Int)<(cs.length:Int):=by omega
  have za9:max C 1=C:=by omega
  have rm:∀t x y,qr Tryz.prog .rem t x y (.int .i64 (i:Int)) (.int .i64 C)=some (.int .i64 ((i:Int)%max C 1)):=by
   intro t x y
   have:=qmf C i t x y
   rw[za9]at this⊢
   exact this
  have w1:IntKind.i64.wrap (lst+(x-lst))=x:=by rw[qf]<;>omega
  have w2:IntKind.u32.wrap x=x:=qD hx.1 hx.2
  have w3:IntKind.i64.wrap ((i:Int)+1)=((i+1:Nat):Int):=by rw[qf]<;>omega
  have ix:idx cs.length (.int .i64 (i:Int))=some i:=qU .i64 hi
  have hlen:(cs.take i++List.replicate (cs.length-i) 0).length=cs.length:=by simp;omega
  have pn:=yL .u32 (cs.take i++List.replicate (cs.length-i) 0) i x (by omega)
  have es:(cs.take i++List.replicate (cs.length-i) 0).set i x=cs.take (i+1)++List.replicate (cs.length-(i+1)) 0:=by
   have a1:cs.take (i+1)=cs.take i++[x]:=by rw[List.take_add_one,e1];rfl
   have a2:cs.length-i=(cs.length-(i+1))+1:=by omega
   have a3:(cs.take i).length=i:=by simp;omega
   rw[a1,a2,List.replicate_succ,List.set_append_right _ _ (by omega),a3,Nat.sub_self,List.append_assoc]
   rfl
  rw[es]at pn
  have er:=zH b k l (p+(uv (zz (x-lst))).length) 0 (hp.put b 0 (Rc k l (p+(uv (zz (x-lst))).length) 0)) (qi _ _ _)
  have rc:(hp.put b 0 (Rc k l (p+(uv (zz (x-lst))).length) 0)).rd cb 0=some (LI .u32 (cs.take i++List.replicate (cs.length-i) 0)):=by rw[qv _ _ hbc];exact hc
  obtain⟨hp2,a1,a2,a3,a4,a5⟩:=ih (i+1) (p+(uv (zz (x-lst))).length) x ((hp.put b 0 (Rc k l (p+(uv (zz (x-lst))).length) 0)).put cb 0 (LI .u32 (cs.take (i+1)++List.replicate (cs.length-(i+1)) 0))) e2 hi hx hd2 hpl2
   (by rw[qv _ _ (fun q=>hbc q.symm),qi]) (qi _ _ _)
  refine⟨hp2,?_,by rw[ep,List.length_append,<-Nat.add_assoc];exact a2,a3,by rw[a4];rfl,fun c c1 c2=>by rw[a5 c c1 c2];simp[Hp.put,c1,c2]⟩
  have hms:∀a b c d e,qL (.ms a b c d e)=some (a,b,c,d,e):=fun _ _ _ _ _=>rfl
  have b11:B51_11 (.ptr b 0 0) (.int .i64 lst) (.int .i64 (i:Int)) (.int .i64 (cs.length:Int)) (.int .i64 (i:Int)) b2 [.sc (.int .i64 R),.sc (.int .i64 C),.ms cb 0 0 cs.length 1] hp=
   B51_19 b2 [.sc (.int .i64 R),.sc (.int .i64 C),.ms cb 0 0 cs.length 1] hp2:=by
   rw[<-a1,qrh]
   have c1:¬(x<0):=by omega
   have c2:¬((4294967295:Int)<x):=by omega
   have c3:¬(x-lst< -4294967296):=by omega
   have c4:¬((4294967296:Int)<x-lst):=by omega
   generalize cs.take (i+1)++List.replicate (cs.length-(i+1)) 0=L1 at*
   generalize cs.take i++List.replicate (cs.length-i) 0=L0 at*
   generalize hp.put b 0 (Rc k l (p+(uv (zz (x-lst))).length) 0)=hpA at*
   generalize((i+1:Nat):Int)=I at*
   clear hlst ep hd hd2 hpl2 a1
   generalize x-lst=D at*
   simp[ti,w1,c1,c2,c3,c4,qrg,qrf,er,qj,zbw,w2,hms,ix,rc,pn,w3]
  rw[qid]
  by_cases h0:(i:Int)%max C 1=0
  ·have el:lst=0:=by rw[hlst,if_pos h0]
   rw[el]at b11
   simp[hlt,qe,rm,h0,b11]
  ·have el:lst=last:=by rw[hlst,if_neg h0]
   rw[el]at b11
   simp[hlt,qe,rm,h0,b11]
end
def kC(k:Nat):Prop:=k<18446744073709551616/\kw (wk k)=k
theorem Kl{w:Nat}(h:w<18446744073709551616):kC (kw w):=⟨vG w h,qf3 w h⟩
theorem Zu(b key:Nat)(hk:kC key)(hp:Hp):run cxX 108 [.ptr b 0 0,.sc (.int .u64 (key:Int))] hp=some (fl (wk key),hp):=by
 have o:=qud key hk.1 hp0
 have e:qv3 key=true:=decide_eq_true hk.2
 rw[e]at o
 obtain⟨F,hF⟩:∃F,fl (wk key)= .sc F:=⟨_,rfl⟩
 rw[hF]at o⊢
 rw[E108]
 simp[o,qs1]
section
variable (b k:Nat)(l:List Int)(hl:l.length<=1000000000)(h8:By l)
include hl h8
theorem qnv(K M e0 e1 e2 e3 e4 e5:Int)(lo hi:AV)(b2:List AV)(n:Nat)(rest:List Int):∀(r:List Nat) (i p last:Nat) (acc:List Nat) (hp:Hp),i+r.length=n->n<=17->jc (last::r)->(∀x∈r,kC x)->acc.length<=i->
 l.drop p=yX last r++rest->p<=l.length->hp.rd b 0=some (Rc k l p 0)->
 B52_11 (.ptr b 0 0) (.int .u64 (last:Int)) (.int .i64 (n:Int)) (.int .i64 (i:Int)) b2 [.sc (.int .i64 K),.sc (.int .u32 M),.sc (.int .u32 e0),.sc (.int .u32 e1),.sc (.int .u32 e2),.sc (.int .u32 e3),.sc (.int .u32 e4),.sc (.int .u32 e5),lo,hi,S 2 1 (LF acc)] hp=
  B52_11 (.ptr b 0 0) (.int .u64 ((last::r).getLastD 0:Nat)) (.int .i64 (n:Int)) (.int .i64 (n:Int)) b2 [.sc (.int .i64 K),.sc (.int .u32 M),.sc (.int .u32 e0),.sc (.int .u32 e1),.sc (.int .u32 e2),.sc (.int .u32 e3),.sc (.int .u32 e4),.sc (.int .u32 e5),lo,hi,S 2 1 (LF (acc++r.map wk))] (hp.put b 0 (Rc k l (p+(yX last r).length) 0)):=by
 intro r
 induction r with
 |nil=>
  intro i p last acc hp hi hn hf hk ha hd hpl hr
  have e:i=n:=by simpa using hi
  subst e
  simp[yX,zE hr]
 |cons x r ih=>
  intro i p last acc hp hi hn hf hk ha hd hpl hr
  simp only[List.length_cons]at hi
  have hx:=hk x (by simp)
  have ep:yX last (x::r)=uv (x-last)++yX x r:=rfl
  rw[ep,List.append_assoc]at hd
  have hle:last<=x:=hf.1
  have tu:=zL b k l hl h8 (most:=18446744073709551615) hd (by have:=hx.1;omega) (by omega) hp hpl hr
  have hd2:=qZ hd
  have hpl2:=zp hpl hd
  have fl1:=fun hp=>Zu b x hx hp
  have w1:IntKind.u64.wrap ((last:Int)+((x-last:Nat):Int))=(x:Int):=by have:=hx.1;rw[qn]<;>omega
  have w2:IntKind.i64.wrap ((i:Int)+1)=((i+1:Nat):Int):=by rw[qf]<;>omega
  have hlt:(i:Int)<(n:Int):=by omega
  have hxl:¬((x:Int)<(last:Int)):=by omega
  have hi2:=ih (i+1) (p+(uv (x-last)).length) x (acc++[wk x]) (hp.put b 0 (Rc k l (p+(uv (x-last)).length) 0)) (by omega) hn hf.2 (fun y hy=>hk y (by simp[hy])) (by simp;omega) hd2 hpl2 (qi _ _ _)
  rw[qp]at hi2
  have eg:(last::x::r).getLastD 0=(x::r).getLastD 0:=rfl
  have em:acc++(x::r).map wk=acc++[wk x]++r.map wk:=by simp
  rw[eg,em,ep,List.length_append,<-Nat.add_assoc,<-hi2,qan]
  have ap:=appF acc (wk x) (by omega)
  have lit:((18446744073709551615:Nat):Int)=18446744073709551615:=rfl
  rw[lit]at tu
  generalize hp.put b 0 (Rc k l (p+(uv (x-last)).length) 0)=hpA at*
  generalize((x-last:Nat):Int)=D at*
  generalize((i+1:Nat):Int)=I at*
  generalize LF (acc++[wk x])=L1 at*
  generalize LF acc=L0 at*
  simp[hlt,tu,w1,hxl,qrd,qj,fl1,xx,ap,qh,w2]
theorem qt1(K:Int)(hK:0<=K/\K<256)(g:GN)(gp:g.Pos)(hlo:kC g.lo)(hhi:kC g.hi)(hL:∀x∈g.L,kC x)(hf:jc g.L)(hn:g.L.length<=16)(p:Nat)(rest:List Int)(hd:l.drop p=vL K g++rest)(hp:Hp)(hpl:p<=l.length)(hr:hp.rd b 0=some (Rc k l p 0)):
 run cxX 52 [.ptr b 0 0] hp=some (.agg [.sc (.int .i64 K),.sc (.int .u32 g.M),.sc (.int .u32 g.e0),.sc (.int .u32 g.e1),.sc (.int .u32 g.e2),.sc (.int .u32 g.e3),.sc (.int .u32 g.e4),.sc (.int .u32 g.e5),fl (wk g.lo),fl (wk g.hi),S 2 1 (LF (g.L.map wk))],hp.put b 0 (Rc k l (p+(vL K g).length) 0)):=by
 obtain⟨pM,p0,p1,p2,p3,p4,p5⟩:=gp
 have lit:((4294967295:Nat):Int)=4294967295:=rfl
 have lit2:((18446744073709551615:Nat):Int)=18446744073709551615:=rfl
 have c32:∀n:Int,za n->IntKind.u32.wrap ((n.toNat:Nat):Int)=n/\n.toNat<=4294967295:=fun n hn=>by
  have:=hn.2;have:=hn.1
  exact⟨by rw[qD]<;>omega,by omega⟩
 have eq:vL K g++rest=K::(uv g.M.toNat++(uv g.e0.toNat++(uv g.e1.toNat++(uv g.e2.toNat++(uv g.e3.toNat++(uv g.e4.toNat++(uv g.e5.toNat++(uv g.lo++(uv g.hi++((g.L.length:Int)::(yX 0 g.L++rest))))))))))):=by
  unfold vL;simp
 rw[eq]at hd
 have t0:=zM b k l hl hd hp hpl hr
 obtain⟨_,d0,hi0,_⟩:=qm hd
 have h1:=zL b k l hl h8 (most:=4294967295) d0 (c32 _ pM).2 (by omega) (hp.put b 0 (Rc k l (p+1) 0)) (by omega) (qi _ _ _)
 rw[qp,lit]at h1
 have d1:=qZ d0
 have q1:=zp (by omega) d0
 generalize e1:p+1+(uv g.M.toNat).length=P1 at*
 have h2:=zL b k l hl h8 (most:=4294967295) d1 (c32 _ p0).2 (by omega) (hp.put b 0 (Rc k l P1 0)) q1 (qi _ _ _)
 rw[qp,lit]at h2
 have d2:=qZ d1
 have q2:=zp q1 d1
 generalize e2:P1+(uv g.e0.toNat).length=P2 at*
 have h3:=zL b k l hl h8 (most:=4294967295) d2 (c32 _ p1).2 (by omega) (hp.put b 0 (Rc k l P2 0)) q2 (qi _ _ _)
 rw[qp,lit]at h3
 have d3:=qZ d2
 have q3:=zp q2 d2
 generalize e3:P2+(uv g.e1.toNat).length=P3 at*
 have h4:=zL b k l hl h8 (most:=4294967295) d3 (c32 _ p2).2 (by omega) (hp.put b 0 (Rc k l P3 0)) q3 (qi _ _ _)
 rw[qp,lit]at h4
 have d4:=qZ d3
 have q4:=zp q3 d3
 generalize e4:P3+(uv g.e2.toNat).length=P4 at*
 have h5:=zL b k l hl h8 (most:=4294967295) d4 (c32 _ p3).2 (by omega) (hp.put b 0 (Rc k l P4 0)) q4 (qi _ _ _)
 rw[qp,lit]at h5
 have d5:=qZ d4
 have q5:=zp q4 d4
 generalize e5:P4+(uv g.e3.toNat).length=P5 at*
 have h6:=zL b k l hl h8 (most:=4294967295) d5 (c32 _ p4).2 (by omega) (hp.put b 0 (Rc k l P5 0)) q5 (qi _ _ _)
 rw[qp,lit]at h6
 have d6:=qZ d5
 have q6:=zp q5 d5
 generalize e6:P5+(uv g.e4.toNat).length=P6 at*
 have h7:=zL b k l hl h8 (most:=4294967295) d6 (c32 _ p5).2 (by omega) (hp.put b 0 (Rc k l P6 0)) q6 (qi _ _ _)
 rw[qp,lit]at h7
 have d7:=qZ d6
 have q7:=zp q6 d6
 generalize e7:P6+(uv g.e5.toNat).length=P7 at*
 have h8':=zL b k l hl h8 (most:=18446744073709551615) d7 (by have:=hlo.1;omega) (by omega) (hp.put b 0 (Rc k l P7 0)) q7 (qi _ _ _)
 rw[qp,lit2]at h8'
 have d8:=qZ d7
 have q8:=zp q7 d7
 generalize e8:P7+(uv g.lo).length=P8 at*
 have h9:=zL b k l hl h8 (most:=18446744073709551615) d8 (by have:=hhi.1;omega) (by omega) (hp.put b 0 (Rc k l P8 0)) q8 (qi _ _ _)
 rw[qp,lit2]at h9
 have d9:=qZ d8
 have q9:=zp q8 d8
 generalize e9:P8+(uv g.hi).length=P9 at*
 have h10:=zM b k l hl d9 (hp.put b 0 (Rc k l P9 0)) q9 (qi _ _ _)
 rw[qp]at h10
 obtain⟨_,d10,hi10,_⟩:=qm d9
 have f1:=fun hp=>Zu b g.lo hlo hp
 have f2:=fun hp=>Zu b g.hi hhi hp
 have lp:=fun b2=>qnv b k l hl h8 K g.M g.e0 g.e1 g.e2 g.e3 g.e4 g.e5 (fl (wk g.lo)) (fl (wk g.hi)) b2 g.L.length rest g.L 0 (P9+1) 0 [] (hp.put b 0 (Rc k l (P9+1) 0)) (by omega) (by omega) (jS hf) hL (by simp) d10 (by omega) (qi _ _ _)
 have eP:p+(vL K g).length=P9+1+(yX 0 g.L).length:=by
  unfold vL
  simp only[List.length_append,List.length_singleton]
  omega
 rw[eP]
 simp only[qp,List.nil_append]at lp
 have wK:IntKind.i64.wrap K=K:=qf (by omega) (by omega)
 have wL:IntKind.i64.wrap (g.L.length:Int)=(g.L.length:Int):=qf (by omega) (by omega)
 have mL:min (g.L.length:Int) 17=(g.L.length:Int):=by omega
 have x1:=(c32 _ pM).1
 have x2:=(c32 _ p0).1
 have x3:=(c32 _ p1).1
 have x4:=(c32 _ p2).1
 have x5:=(c32 _ p3).1
 have x6:=(c32 _ p4).1
 have x7:=(c32 _ p5).1
 have i0:idx 6 (.int .i64 0)=some 0:=by kernel_rfl
 have i1:idx 6 (.int .i64 1)=some 1:=by kernel_rfl
 have i2:idx 6 (.int .i64 2)=some 2:=by kernel_rfl
 have i3:idx 6 (.int .i64 3)=some 3:=by kernel_rfl
 have i4:idx 6 (.int .i64 4)=some 4:=by kernel_rfl
 have i5:idx 6 (.int .i64 5)=some 5:=by kernel_rfl
 clear lit lit2 c32 eq hd d0 d1 d2 d3 d4 d5 d6 d7 d8 d9 d10
 have nlt:¬((g.L.length:Int)<(g.L.length:Int)):=by omega
 have fin:=fun b2 (hb2:b2=[.sc (.int .i64 0),.sc (.int .u32 0),.sc (.int .u32 0),.sc (.int .u32 0),.sc (.int .u32 0),.sc (.int .u32 0),.sc (.int .u32 0),.sc (.int .u32 0),.sc (.float .f64 0),.sc (.float .f64 0),S 2 1 []])=>(lp b2).trans (show _=some (AV.agg [.sc (.int .i64 K),.sc (.int .u32 g.M),.sc (.int .u32 g.e0),.sc (.int .u32 g.e1),.sc (.int .u32 g.e2),.sc (.int .u32 g.e3),.sc (.int .u32 g.e4),.sc (.int .u32 g.e5),fl (wk g.lo),fl (wk g.hi),S 2 1 (LF (g.L.map wk))],hp.put b 0 (Rc k l (P9+1+(yX 0 g.L).length) 0))from by
  subst hb2
  rw[qan]
  simp[ql,qh])
 generalize hp.put b 0 (Rc k l (P9+1+(yX 0 g.L).length) 0)=HZ at*
 generalize hp.put b 0 (Rc k l (P9+1) 0)=H10 at*
 generalize hp.put b 0 (Rc k l P9 0)=H9 at*
 generalize hp.put b 0 (Rc k l P8 0)=H8 at*
 generalize hp.put b 0 (Rc k l P7 0)=H7 at*
 generalize hp.put b 0 (Rc k l P6 0)=H6 at*
 generalize hp.put b 0 (Rc k l P5 0)=H5 at*
 generalize hp.put b 0 (Rc k l P4 0)=H4 at*
 generalize hp.put b 0 (Rc k l P3 0)=H3 at*
 generalize hp.put b 0 (Rc k l P2 0)=H2 at*
 generalize hp.put b 0 (Rc k l P1 0)=H1 at*
 generalize hp.put b 0 (Rc k l (p+1) 0)=H0 at*
 have fin:=fin _ rfl
 generalize((g.M.toNat:Nat):Int)=m0 at*
 generalize((g.e0.toNat:Nat):Int)=m1 at*
 generalize((g.e1.toNat:Nat):Int)=m2 at*
 generalize((g.e2.toNat:Nat):Int)=m3 at*
 generalize((g.e3.toNat:Nat):Int)=m4 at*
 generalize((g.e4.toNat:Nat):Int)=m5 at*
 generalize((g.e5.toNat:Nat):Int)=m6 at*
 rw[E52]
 simp[t0,yN,wK,h1,jy,x1]
 rw[kZ]
 simp[h2,jy,x2,i0,qh]
 rw[kZ]
 simp[h3,jy,x3,i1,qh]
 rw[kZ]
 simp[h4,jy,x4,i2,qh]
 rw[kZ]
 simp[h5,jy,x5,i3,qh]
 rw[kZ]
 simp[h6,jy,x6,i4,qh]
 rw[kZ]
 simp[h7,jy,x7,i5,qh]
 rw[kZ]
 simp at fin
 simp[h8',f1,qh,h9,f2,h10,yN,wL,mL]
 exact fin
end
section
variable (b k:Nat)(l:List Int)(hl:l.length<=1000000000)(h8:By l)
include hl h8
theorem qt2(R C:Int)(hR:1<=R/\R<=8)(hC:1<=C/\C<=256)(cs:List Int)(hcs:(cs.length:Int)=R*C)(h32:ZS cs)(p:Nat)(rest:List Int)(hd:l.drop p=[R]++uv C.toNat++yd C cs 0 0++rest)(hp:Hp)(hpl:p<=l.length)(hb:b<hp.next)(hr:hp.rd b 0=some (Rc k l p 0)):
 ∃hp',run cxX 51 [.ptr b 0 0] hp=some (.agg [.sc (.int .i64 R),.sc (.int .i64 C),S 0 1 (LI .u32 cs)],hp')/\hp'.rd b 0=some (Rc k l (p+([R]++uv C.toNat++yd C cs 0 0).length) 0)/\Fm [b] hp hp':=by
 have m:=qgv hR hC
 have eq:[R]++uv C.toNat++yd C cs 0 0++rest=R::(uv C.toNat++(yd C cs 0 0++rest)):=by simp
 have el:p+([R]++uv C.toNat++yd C cs 0 0).length=p+1+(uv C.toNat).length+(yd C cs 0 0).length:=by simp only[List.length_append,List.length_singleton];omega
 rw[eq]at hd
 rw[el]
 have t0:=zM b k l hl hd hp hpl hr
 obtain⟨_,d0,hi0,_⟩:=qm hd
 have t1:=zL b k l hl h8 (most:=256) d0 (by omega) (by omega) (hp.put b 0 (Rc k l (p+1) 0)) (by omega) (qi _ _ _)
 rw[qp]at t1
 have d1:=qZ d0
 have q1:=zp (by omega) d0
 have cn:=qe0 R C hR hC (hp.put b 0 (Rc k l (p+1+(uv C.toNat).length) 0))
 have hne:hp.next≠b:=by omega
 have ecs:(R*C).toNat=cs.length:=by omega
 rw[ecs]at cn
 obtain⟨hp2,a1,a2,a3,a4,a5⟩:=qnw b k l hl h8 hp.next R C hC cs (by omega) h32 [.sc (.int .i64 0),.sc (.int .i64 0),S 2 1 []] hne rest cs 0 (p+1+(uv C.toNat).length) 0 ((hp.put b 0 (Rc k l (p+1+(uv C.toNat).length) 0)).new (LI .u32 (List.replicate cs.length 0))) rfl (by omega) (by omega) d1 q1
  (by rw[zX _ _ (by simp;omega),qi]) (by rw[List.take_zero,List.nil_append,Nat.sub_zero];exact qz (hp.put b 0 _) _)
 have fz:=wF .u32 cs hp2 hp.next a3
 refine⟨hp2.del hp.next,?_,?_,by rw[show(hp2.del hp.next).next=hp2.next from rfl,a4];simp,fun c hc hcb=>?_⟩
 ·have w1:IntKind.i64.wrap R=R:=qf (by omega) (by omega)
  have w2:IntKind.i64.wrap ((C.toNat:Nat):Int)=C:=by rw[qf]<;>omega
  have lit:((256:Nat):Int)=256:=rfl
  rw[lit]at t1
  have b19:B51_19 [.sc (.int .i64 0),.sc (.int .i64 0),S 2 1 []] [.sc (.int .i64 R),.sc (.int .i64 C),.ms hp.next 0 0 cs.length 1] hp2=some (.agg [.sc (.int .i64 R),.sc (.int .i64 C),S 0 1 (LI .u32 cs)],hp2.del hp.next):=by
   rw[qre]
   simp[ql,qh,fz]
  rw[<-a1]at b19
  have hln:∀a b c d e,yH (.ms a b c d e)=some d:=fun _ _ _ _ _=>rfl
  rw[E51]
  generalize((C.toNat:Nat):Int)=Cc' at*
  generalize List.replicate cs.length 0=Z at*
  simp only[qfv]at cn
  simp only[Int.natCast_zero]at b19
  generalize hp.put b 0 (Rc k l (p+1+(uv C.toNat).length) 0)=H1 at*
  generalize hp.put b 0 (Rc k l (p+1) 0)=H0 at*
  try simp at b19
  simp[t0,yN,w1,t1,xS,w2,cn,qh,qj,hln,b19]
 ·have:b≠hp.next:=fun q=>hne q.symm
  have e:(hp2.del hp.next).get b=hp2.get b:=by simp[Hp.del,this]
  rw[rdg e];exact a2
 ·have h1:c≠hp.next:=by omega
  have h2:c≠b:=by simpa using hcb
  have e:(hp2.del hp.next).get c=hp2.get c:=by simp[Hp.del,h1]
  rw[e,a5 c h2 h1]
  simp[Hp.new,Hp.put,h1,h2]
end
def At(l:List Int)(p:Nat)(bs:List Bool):Prop:=p+bs.length<=8*l.length/\∀i,i<bs.length->jN l (p+i)=bs.getD i false
theorem At.pk(bs:List Bool):At (pk bs) 0 bs:=⟨by rw[zR];omega,fun i hi=>by rw[Nat.zero_add];exact qg5 bs i hi⟩
theorem At.app{l:List Int}{p:Nat}{a c:List Bool}(h:At l p (a++c)):At l p a/\At l (p+a.length) c:=by
 obtain⟨h1,h2⟩:=h
 simp only[List.length_append]at h1 h2
 refine⟨⟨by omega,fun i hi=>?_⟩,⟨by omega,fun i hi=>?_⟩⟩
 ·rw[h2 i (by omega),List.getD_eq_getElem?_getD,List.getD_eq_getElem?_getD,List.getElem?_append_left hi]
 ·rw[Nat.add_assoc,h2 (a.length+i) (by omega),List.getD_eq_getElem?_getD,List.getD_eq_getElem?_getD,List.getElem?_append_right (by omega)]
  congr 2
  omega
theorem At.cons{l:List Int}{p:Nat}{a:Bool}{c:List Bool}(h:At l p (a::c)):rb l p false=(a,p+1,false)/\At l (p+1) c:=by
 have h':At l p ([a]++c):=h
 have g:=h'.app
 refine⟨?_,by simpa using g.2⟩
 have h1:=h.1
 simp only[List.length_cons]at h1
 have h2:=h.2 0 (by simp)
 unfold rb
 rw[if_neg (by simp;omega)]
 simp at h2
 rw[h2]
theorem zcl(l:List Int)(n:Nat):∀(k acc p:Nat),At l p (xE n k)->rt l k acc p false=(acc*2^k+n%2^k,p+k,false):=by
 intro k
 induction k with
 |zero=>intro acc p h;show(if false then 0 else acc,p,false)=_;simp[Nat.mod_one]
 |succ k ih=>
  intro acc p h
  have c:=At.cons (show At l p (n.testBit k::xE n k)from h)
  have i:=ih (2*acc+(n.testBit k).toNat) (p+1) c.2
  show rt l k (2*acc+(rb l p false).1.toNat) (rb l p false).2.1 (rb l p false).2.2=_
  rw[c.1]
  show rt l k (2*acc+(n.testBit k).toNat) (p+1) false=_
  rw[i]
  have e1:=Nat.mod_mul (x:=n) (a:=2^k) (b:=2)
  have e2:(n.testBit k).toNat=n/2^k%2:=by
   rw[Nat.testBit_eq_decide_div_mod_eq]
   have:n/2^k%2=0\/n/2^k%2=1:=by omega
   rcases this with e|e<;>rw[e]<;>rfl
  refine Prod.ext ?_ (Prod.ext (by show p+1+k=p+(k+1);omega) rfl)
  show(2*acc+(n.testBit k).toNat)*2^k+n%2^k=acc*2^(k+1)+n%2^(k+1)
  rw[Nat.pow_succ,e1,e2,Nat.add_mul,Nat.mul_comm 2 acc,Nat.mul_assoc acc,Nat.mul_comm 2 (2^k),Nat.mul_comm (n/2^k%2) (2^k)]
  omega
theorem zgp(l:List Int)(most:Nat):∀(q f n p:Nat),At l p (una q)->n+q<=most->q+1<=f->ru l most f n p false=(n+q,p+q+1,false):=by
 intro q
 induction q with
 |zero=>
  intro f n p h hm hf
  obtain⟨f,rfl⟩:∃f',f=f'+1:=⟨f-1,by omega⟩
  have c:=At.cons (show At l p (false::[])from h)
  unfold ru
  rw[c.1]
  rfl
 |succ q ih=>
  intro f n p h hm hf
  obtain⟨f,rfl⟩:∃f',f=f'+1:=⟨f-1,by omega⟩
  have c:=At.cons (show At l p (true::una q)from h)
  have i:=ih f (n+1) (p+1) c.2 (by omega) (by omega)
  unfold ru
  rw[c.1]
  have e:(false||decide (most<n+1))=false:=by simp;omega
  show(if true=true then ru l most f (n+1) (p+1) (false||decide (most<n+1))else _)=_
  rw[if_pos rfl,e,i]
  refine Prod.ext (by show n+1+q=n+(q+1);omega) (Prod.ext (by show p+1+q+1=p+(q+1)+1;omega) rfl)
theorem qu3{l:List Int}{most q p:Nat}(h:At l p (una q))(hm:q<=most):rU1 l most p false=(q,p+q+1,false):=by
 have h1:=h.1
 rw[ZW]at h1
 have:=zgp l most q (8*l.length+2) 0 p h (by omega) (by omega)
 rw[Nat.zero_add]at this
 exact this
theorem zb9(bs:List Bool):qff (pk bs) bs.length false=0:=by
 have hz:∀i,jN (pk bs) (bs.length+i)=false:=fun i=>JH bs _ (by omega)
 have hany:(List.range (8*(pk bs).length-bs.length)).any (fun i=>jN (pk bs) (bs.length+i))=false:=by
  rw[List.any_eq_false]
  intro i _
  rw[hz i];decide
 unfold qff
 rw[hany,zR,if_neg (by decide),if_neg (by omega),if_neg (by decide)]
abbrev Cu(br kk zt i last:Nat):List AV:=[.ptr br 0 0,.sc (.int .i64 (kk:Int)),.sc (.int .i64 (zt:Int)),.sc (.int .i64 (i:Int)),.sc (.int .u64 (last:Int)),.sc (.bool false)]
theorem Wh(c br kk zt i last:Nat)(hi:i<=zt)(hm:zt<=100000)(hp:Hp)(h:hp.rd c 0=some (Cu br kk zt i last)):run cxX 148 [.ptr c 0 0] hp=some (.sc (.int .i64 ((zt-i:Nat):Int)),hp):=by
 have gs5:∀(x0 x1 x2 x3 x4:AV) (v:Value),qe [x0,x1,x2,x3,x4,.sc v] 5=some v:=fun _ _ _ _ _ _=>rfl
 have gs2:∀(x0 x1:AV) (v:Value) (r:List AV),qe (x0::x1::.sc v::r) 2=some v:=fun _ _ _ _=>rfl
 have gs3:∀(x0 x1 x2:AV) (v:Value) (r:List AV),qe (x0::x1::x2::.sc v::r) 3=some v:=fun _ _ _ _ _=>rfl
 have w1:IntKind.i64.wrap ((zt:Int)-(i:Int))=((zt-i:Nat):Int):=by rw[qf]<;>omega
 simp only[Cu]at h
 rw[E148]
 generalize((zt-i:Nat):Int)=D at*
 simp[h,gs5,qr5,gs2,gs3,w1]
theorem qec(x k:Nat)(hk:k<=64)(h:x*2^k<18446744073709551616)(t:TypeId)(o o':Operand):qr Tryz.prog .shl t o o' (.int .u64 (x:Int)) (.int .i64 (k:Int))=some (.int .u64 ((x*2^k:Nat):Int)):=by
 rw[zF _ _ _ _ _ _ _ _ (by omega),Int.toNat_natCast,Nat.min_eq_left (show k<=IntKind.u64.bits from hk)]
 have e:(x:Int)*(2:Int)^k=((x*2^k:Nat):Int):=by simp
 rw[e]
 generalize x*2^k=z at*
 rw[qn (by omega) (by omega)]
theorem qvh(q k g:Nat)(hq:q=g/2^k)(hg:g<18446744073709551616)(t:TypeId)(o o':Operand):qr Tryz.prog .or t o o' (.int .u64 ((q*2^k:Nat):Int)) (.int .u64 ((g%2^k:Nat):Int))=some (.int .u64 (g:Int)):=by
 have h1:q*2^k<=g:=by rw[hq];exact Nat.div_mul_le_self _ _
 have h2:g%2^k<=g:=Nat.mod_le _ _
 rw[zd4 _ _ (by omega) (by omega)]
 have e:=Nat.two_pow_add_eq_or_of_lt (i:=k) (b:=g%2^k) (Nat.mod_lt _ (Nat.two_pow_pos _)) q
 rw[Nat.mul_comm (2^k) q]at e
 rw[<-e,hq,Nat.div_add_mod']
section
variable (c br kk zt:Nat)(t:Nat)(bl:List Int)(hkk:kk<=63)(hm:zt<=100000)(hbl:bl.length<=100000000)(h8:By bl)(hne:c≠br)
include hkk hm hbl h8 hne
theorem qou(i last g x q:Nat)(hi:i<zt)(hg:g<18446744073709551616)(hg2:g/2^kk<=4096)(hx:x<18446744073709551616)(hxg:x=if i=0 then g else last+1+g)(hp:Hp)(h:hp.rd c 0=some (Cu br kk zt i last))(hr:hp.rd br 0=some (Rb t bl q false))(hat:At bl q (una (g/2^kk)++xE g kk)):
 run cxX 99 [.ptr c 0 0] hp=some (.tup [.sc (.int .u64 (x:Int)),.sc (.bool true)],(hp.put br 0 (Rb t bl (q+(una (g/2^kk)++xE g kk).length) false)).put c 0 (Cu br kk zt (i+1) x)):=by
 have lf:=Wh c br kk zt i last (by omega) hm hp h
 have hmul:g/2^kk*2^kk<=g:=Nat.div_mul_le_self _ _
 have os:=qvh (g/2^kk) kk g rfl hg
 obtain⟨a1,a2⟩:=hat.app
 have hle:=hat.1
 rw[List.length_append,ZW,qdb]at hle⊢
 generalize g/2^kk=G at*
 have un:=XP br t bl q false hp hbl h8 4096 (by omega) (by omega) hr
 rw[qu3 a1 hg2]at un
 rw[ZW]at a2
 have tk:=Wl br t bl (q+(G+1)) false (hp.put br 0 (Rb t bl (q+(G+1)) false)) hbl h8 kk (by omega) (by omega) (qi _ _ _)
 rw[zcl bl g kk 0 _ a2,Nat.zero_mul,Nat.zero_add,qp]at tk
 simp only at un tk
 have sh:=kh br t bl (q+(G+1)+kk) false (hp.put br 0 (Rb t bl (q+(G+1)+kk) false)) (qi _ _ _)
 have e1:q+G+1=q+(G+1):=by omega
 have e2:q+(G+1+kk)=q+(G+1)+kk:=by omega
 rw[e1]at un
 rw[e2]
 have sl:=fun t o o'=>qec G kk (by omega) (Nat.lt_of_le_of_lt hmul hg) t o o'
 have sr:=fun t o o'=>yh .u64 (G*2^kk) kk (by show kk<=64;omega) t o o' .i64
 have ed:G*2^kk/2^kk=G:=Nat.mul_div_cancel _ (Nat.two_pow_pos _)
 rw[ed]at sr
 have rA:∀p,(hp.put br 0 (Rb t bl p false)).rd c 0=some (Cu br kk zt i last):=fun p=>by rw[qv _ _ hne];exact h
 have r2:=rA (q+(G+1))
 have r3:=rA (q+(G+1)+kk)
 have gs1:∀(x0:AV) (v:Value) (r:List AV),qe (x0::.sc v::r) 1=some v:=fun _ _ _=>rfl
 have gs3:∀(x0 x1 x2:AV) (v:Value) (r:List AV),qe (x0::x1::x2::.sc v::r) 3=some v:=fun _ _ _ _ _=>rfl
 have gs4:∀(x0 x1 x2 x3:AV) (v:Value) (r:List AV),qe (x0::x1::x2::x3::.sc v::r) 4=some v:=fun _ _ _ _ _ _=>rfl
 have gc0:∀(x:AV) (l:List AV),qj (x::l) 0=some x:=fun _ _=>rfl
 have p3:∀(x0 x1 x2 x3 x4 x5 z:AV),qh [x0,x1,x2,x3,x4,x5] 3 [z]=some [x0,x1,x2,z,x4,x5]:=fun _ _ _ _ _ _ _=>rfl
 have p4:∀(x0 x1 x2 x3 x4 x5 z:AV),qh [x0,x1,x2,x3,x4,x5] 4 [z]=some [x0,x1,x2,x3,z,x5]:=fun _ _ _ _ _ _ _=>rfl
 have wq:IntKind.u64.wrap ((G:Nat):Int)=((G:Nat):Int):=(fun(z:Nat) (hz:z<=4096)=>qn (z:=(z:Int)) (by omega) (by omega)) _ hg2
 have wi:IntKind.i64.wrap ((i:Int)+1)=((i+1:Nat):Int):=by rw[qf]<;>omega
 have lit:((4096:Nat):Int)=4096:=rfl
 rw[lit]at un
 have hz:¬(zt-i=0):=by omega
 generalize hp.put br 0 (Rb t bl (q+(G+1)+kk) false)=H2 at*
 generalize hp.put br 0 (Rb t bl (q+(G+1)) false)=H1 at*
 generalize((G*2^kk:Nat):Int)=qk at*
 generalize((G:Nat):Int)=qq at*
 generalize((g%2^kk:Nat):Int)=gl at*
 simp only[Cu]at h r2 r3⊢
 have b12:B99_12 (.ptr c 0 0) (.int .u64 (x:Int)) H2=some (.tup [.sc (.int .u64 (x:Int)),.sc (.bool true)],H2.put c 0 [.ptr br 0 0,.sc (.int .i64 (kk:Int)),.sc (.int .i64 (zt:Int)),.sc (.int .i64 ((i+1:Nat):Int)),.sc (.int .u64 (x:Int)),.sc (.bool false)]):=by
  rw[qq5]
  generalize((i+1:Nat):Int)=I at*
  simp[r3,gs3,wi,p3,qi,p4,qp]
 generalize((i+1:Nat):Int)=I at*
 rw[E99]
 by_cases h0:i=0
 ·rw[if_pos h0]at hxg
  have hi0:((0:Int)<(i:Int))=False:=by simp[h0]
  have hi0':(0<i)=False:=by simp[h0]
  have b9:B99_9 (.ptr c 0 0) (.int .u64 qq) (.int .u64 (x:Int)) H2=some (.tup [.sc (.int .u64 (x:Int)),.sc (.bool true)],H2.put c 0 [.ptr br 0 0,.sc (.int .i64 (kk:Int)),.sc (.int .i64 (zt:Int)),.sc (.int .i64 I),.sc (.int .u64 (x:Int)),.sc (.bool false)]):=by
   rw[qhn]
   simp[r3,gc0,sh,gs1,sl,sr,gs3,hi0',b12]
  rw[hxg]at b9
  rw[hxg]
  simp[lf,hz,h,gc0,un,xj,wq,r2,gs1,tk,r3,sl,os,gs3,hi0',b9]
 ·rw[if_neg h0]at hxg
  have hi0':0<i:=by omega
  have wa:IntKind.u64.wrap ((last:Int)+1)=((last+1:Nat):Int):=by rw[qn]<;>omega
  have wb:IntKind.u64.wrap (((last+1:Nat):Int)+(g:Int))=(x:Int):=by rw[qn]<;>omega
  have hxl:¬(x<=last):=by omega
  have b9:B99_9 (.ptr c 0 0) (.int .u64 qq) (.int .u64 (x:Int)) H2=some (.tup [.sc (.int .u64 (x:Int)),.sc (.bool true)],H2.put c 0 [.ptr br 0 0,.sc (.int .i64 (kk:Int)),.sc (.int .i64 (zt:Int)),.sc (.int .i64 I),.sc (.int .u64 (x:Int)),.sc (.bool false)]):=by
   rw[qhn]
   simp[r3,gc0,sh,gs1,sl,sr,gs3,hi0',gs4,hxl,b12]
  generalize((last+1:Nat):Int)=L1 at*
  simp[lf,hz,h,gc0,un,xj,wq,r2,gs1,tk,r3,sl,os,gs3,hi0',gs4,wa,wb,b9]
end
section
variable (b c br kk t:Nat)(bl:List Int)(hs:List Nat)(hkk:kk<=63)(hm:hs.length<=4096)(hbl:bl.length<=100000000)(h8:By bl)(hne:c≠br)(h64:∀x∈hs,x<18446744073709551616)(hr:zi hs)(hq:∀g∈qt hs,g/2^kk<=4096)
include hkk hm hbl h8 hne h64 hr hq
theorem qjt:∀(r:List Nat) (i q:Nat) (hp:Hp),hs.drop i=r->i+r.length=hs.length->hp.rd c 0=some (Cu br kk hs.length i (if i=0 then 0 else hs.getD (i-1) 0))->hp.rd br 0=some (Rb t bl q false)->At bl q (zU kk ((qt hs).drop i))->
 ∃hp' L,B46_3 (.ptr b 0 0) (.ptr c 0 0) (S 2 1 (LI .u64 (nz (hs.take i)))) hp=B46_3 (.ptr b 0 0) (.ptr c 0 0) (S 2 1 (LI .u64 (nz hs))) hp'/\hp'.rd c 0=some (Cu br kk hs.length hs.length L)/\hp'.rd br 0=some (Rb t bl (q+(zU kk ((qt hs).drop i)).length) false)/\
  hp'.next=hp.next/\∀a,a≠c->a≠br->hp'.get a=hp.get a:=by
 intro r
 induction r with
 |nil=>
  intro i q hp h hil hc hb hat
  have e:i=hs.length:=by simpa using hil
  subst e
  have eg:(qt hs).drop hs.length=[]:=List.drop_eq_nil_of_le (by simp)
  rw[eg,List.take_length]
  exact⟨hp,_,rfl,hc,by simpa[zU]using hb,rfl,fun _ _ _=>rfl⟩
 |cons x r ih=>
  intro i q hp h hil hc hb hat
  obtain⟨e1,e2,hi,e3⟩:=qm h
  simp only[List.length_cons]at hil
  have hig:i<(qt hs).length:=by simp;omega
  have gg:=Ks hs i hi
  have ex:hs.getD i 0=x:=by rw[List.getD_eq_getElem?_getD,e1];rfl
  have hx:x<18446744073709551616:=h64 x (by rw[<-e3];exact List.getElem_mem _)
  obtain⟨g,hgd⟩:∃g,(qt hs)[i]?=some g:=⟨_,gg⟩
  have hge:(qt hs)[i]=g:=(List.getElem?_eq_some_iff.mp hgd).2
  have hgm:g∈qt hs:=by rw[<-hge];exact List.getElem_mem _
  have hg64:=vk h64 g hgm
  have hgq:=hq g hgm
  have hdr:(qt hs).drop i=g::(qt hs).drop (i+1):=by rw[List.drop_eq_getElem_cons hig,hge]
  have hxg:x=if i=0 then g else(if i=0 then 0 else hs.getD (i-1) 0)+1+g:=by
   rw[gg]at hgd
   have hgd:=Option.some.inj hgd
   by_cases h0:i=0
   ·subst h0
    rw[if_pos rfl]at hgd⊢
    rw[<-hgd,ex]
   ·rw[if_neg h0]at hgd⊢
    have hlt:=kn hs hr (i-1) (by omega)
    have e:i-1+1=i:=by omega
    rw[e]at hlt
    rw[if_neg h0]
    omega
  rw[hdr]at hat⊢
  have eb:zU kk (g::(qt hs).drop (i+1))=una (g/2^kk)++xE g kk++zU kk ((qt hs).drop (i+1)):=rfl
  rw[eb]at hat⊢
  obtain⟨at1,at2⟩:=hat.app
  have nx:=qou c br kk hs.length t bl hkk (by omega) hbl h8 hne i _ g x q hi hg64 hgq hx hxg hp hc hb at1
  have el:(una (g/2^kk)++xE g kk++zU kk ((qt hs).drop (i+1))).length=(una (g/2^kk)++xE g kk).length+(zU kk ((qt hs).drop (i+1))).length:=List.length_append
  have ap:=ZO .u64 (nz (hs.take i)) 2 (.inr rfl) 8 (by decide) (x:Int) (by simp;omega)
  have es:nz (hs.take i)++[(x:Int)]=nz (hs.take (i+1)):=by
   have a1:hs.take (i+1)=hs.take i++[x]:=by rw[List.take_add_one,e1];rfl
   rw[a1,vi]
  rw[es]at ap
  obtain⟨hp2,L,a1,a2,a3,a4,a5⟩:=ih (i+1) (q+(una (g/2^kk)++xE g kk).length) ((hp.put br 0 (Rb t bl (q+(una (g/2^kk)++xE g kk).length) false)).put c 0 (Cu br kk hs.length (i+1) x)) e2 (by omega)
   (by rw[qi,if_neg (by omega),Nat.add_sub_cancel,ex]) (by rw[qv _ _ (fun e=>hne e.symm),qi]) at2
  refine⟨hp2,L,?_,a2,by rw[a3,el,Nat.add_assoc],by rw[a4];rfl,fun a h1 h2=>by rw[a5 a h1 h2];simp[Hp.put,h1,h2]⟩
  rw[<-a1,qif]
  generalize(hp.put br 0 (Rb t bl (q+(una (g/2^kk)++xE g kk).length) false)).put c 0 (Cu br kk hs.length (i+1) x)=H1 at*
  generalize nz (hs.take (i+1))=L1 at*
  generalize nz (hs.take i)=L0 at*
  simp[nx,xx,ap]
end
theorem ke(b k:Nat)(l:List Int)(hl:l.length<=1000000000){p:Nat}{a r:List Int}(h:l.drop p=a++r)(hp:Hp)(hpl:p<=l.length)(hr:hp.rd b 0=some (Rc k l p 0)):
 ∃t,run cxX 102 [.ptr b 0 0,.sc (.int .i64 (a.length:Int))] hp=some (S t 1 (LI .u8 a),hp.put b 0 (Rc k l (p+a.length) 0)):=by
 have q:=zp hpl h
 obtain⟨t,e⟩:=qjc b k l p 0 hp a.length hl (by omega) hpl hr
 have hL:¬(rL l p 0<a.length):=by unfold rL;rw[if_pos rfl];omega
 have ht:(l.drop p).take a.length=a:=by rw[h,List.take_left]
 rw[if_neg hL]at e
 by_cases h0:a.length=0
 ·have ha:a=[]:=List.length_eq_zero_iff.mp h0
  subst ha
  rw[if_pos (show([]:List Int).length=0 from rfl)]at e
  have hps:=zE hr
  simp only[List.length_nil,Nat.add_zero]
  rw[hps]
  exact⟨2,e⟩
 ·rw[if_neg h0,ht]at e
  exact⟨t,e⟩
theorem qub(b k:Nat)(l:List Int)(hl:l.length<=1000000000)(h8:By l)(n kk:Nat)(bl:List Int)(hn:n<=4096)(hkk:kk<=63)(hbl:bl.length<=1048576)(p:Nat)(rest:List Int)(hd:l.drop p=uv n++((kk:Int)::(uv bl.length++(bl++rest))))(hp:Hp)(hpl:p<=l.length)(hb:b<hp.next)(hr:hp.rd b 0=some (Rc k l p 0)):
 ∃hp' t,run cxX 98 [.ptr b 0 0] hp=some (.ptr hp.next 0 0,hp')/\hp'.rd hp.next 0=some (Cu (hp.next+1) kk n 0 0)/\hp'.rd (hp.next+1) 0=some (Rb t bl 0 false)/\hp'.rd b 0=some (Rc k l (p+(uv n).length+1+(uv bl.length).length+bl.length) 0)/\
  hp'.next=hp.next+2/\∀a,a<hp.next->a≠b->hp'.get a=hp.get a:=by
 have t0:=zL b k l hl h8 (most:=4096) hd (by omega) (by omega) hp hpl hr
 have d0:=qZ hd
 have q0:=zp hpl hd
 have t1:=zM b k l hl d0 (hp.put b 0 (Rc k l (p+(uv n).length) 0)) q0 (qi _ _ _)
 rw[qp]at t1
 obtain⟨_,d1,hi1,_⟩:=qm d0
 generalize eP1:p+(uv n).length+1=P1 at*
 have hne:b≠hp.next:=by omega
 let C0:List AV:=[.sc (.pointer none),.sc (.int .i64 (kk:Int)),.sc (.int .i64 (n:Int)),.sc (.int .i64 0),.sc (.int .u64 0),.sc (.bool false)]
 have rA:((hp.put b 0 (Rc k l P1 0)).new C0).rd b 0=some (Rc k l P1 0):=by rw[zX _ _ (by simpa using hne),qi]
 have t2:=zL b k l hl h8 (most:=1048576) d1 hbl (by omega) ((hp.put b 0 (Rc k l P1 0)).new C0) (by omega) rA
 have d2:=qZ d1
 have q2:=zp (by omega) d1
 generalize eP2:P1+(uv bl.length).length=P2 at*
 obtain⟨t,t3⟩:=ke b k l hl d2 (((hp.put b 0 (Rc k l P1 0)).new C0).put b 0 (Rc k l P2 0)) q2 (qi _ _ _)
 rw[qp]at t3
 have d3:=qZ d2
 have q3:=zp q2 d2
 generalize eP3:P2+bl.length=P3 at*
 generalize hH:((hp.put b 0 (Rc k l P1 0)).new C0).put b 0 (Rc k l P3 0)=H at*
 have hHb:H.rd b 0=some (Rc k l P3 0):=by rw[<-hH,qi]
 have hHc:H.rd hp.next 0=some C0:=by rw[<-hH,qv _ _ (fun e=>hne e.symm)];exact qz (hp.put b 0 _) _
 have hHn:H.next=hp.next+1:=by rw[<-hH];rfl
 have er:=zH b k l P3 0 H hHb
 have br:=QJ t bl H
 rw[hHn]at br
 have hc2:(H.new (Rb (rk t) bl 0 false)).rd hp.next 0=some C0:=by rw[zX _ _ (by omega)];exact hHc
 refine⟨(H.new (Rb (rk t) bl 0 false)).put hp.next 0 (Cu (hp.next+1) kk n 0 0),rk t,?_,qi _ _ _,?_,?_,by show H.next+1=_;omega,fun a ha hab=>?_⟩
 ·have w1:IntKind.i64.wrap (n:Int)=(n:Int):=qf (by omega) (by omega)
  have w2:IntKind.i64.wrap (kk:Int)=(kk:Int):=qf (by omega) (by omega)
  have w3:IntKind.i64.wrap (bl.length:Int)=(bl.length:Int):=qf (by omega) (by omega)
  have l1:((4096:Nat):Int)=4096:=rfl
  have l2:((1048576:Nat):Int)=1048576:=rfl
  rw[l1]at t0
  rw[l2]at t2
  have hk:¬((64:Int)<=(kk:Int)):=by omega
  have gs1:∀(x0:AV) (v:Value) (r:List AV),qe (x0::.sc v::r) 1=some v:=fun _ _ _=>rfl
  have p0:∀(x0 x1 x2 x3 x4 x5 z:AV),qh [x0,x1,x2,x3,x4,x5] 0 [z]=some [z,x1,x2,x3,x4,x5]:=fun _ _ _ _ _ _ _=>rfl
  simp only[C0]at t2 t3 hHc hc2
  have b5:∀t',rk t'=rk t->B98_5 (.ptr b 0 0) (.ptr hp.next 0 0) (S t' 1 (LI .u8 bl)) H=some (.ptr hp.next 0 0,(H.new (Rb (rk t) bl 0 false)).put hp.next 0 (Cu (hp.next+1) kk n 0 0)):=by
   intro t' ht
   have br':=QJ (rk t) bl H
   rw[hHn,Wn]at br'
   have cn:qg 1 (.ptr (hp.next+1) 0 0)=some [.ptr (hp.next+1) 0 0]:=rfl
   rw[qx5]
   generalize H.new (Rb (rk t) bl 0 false)=H9 at*
   simp[er,ht,br',hc2,p0,cn]
   rfl
  have hAn:(hp.put b 0 (Rc k l P1 0)).next=hp.next:=rfl
  generalize hp.put b 0 (Rc k l P1 0)=HA at*
  generalize hp.put b 0 (Rc k l (p+(uv n).length) 0)=HB at*
  rw[E98]
  simp[t0,xS,w1,t1,yN,w2,hAn,t2,w3,t3,hHc,gs1,hk,b5,Wn]
 ·rw[qv _ _ (by omega),<-hHn];exact qz _ _
 ·rw[qv _ _ hne,zX _ _ (by omega)];exact hHb
 ·have h1:a≠hp.next:=by omega
  have h2:a≠H.next:=by omega
  have e1:((H.new (Rb (rk t) bl 0 false)).put hp.next 0 (Cu (hp.next+1) kk n 0 0)).get a=H.get a:=by simp[Hp.put,Hp.new,h1,h2]
  rw[e1,<-hH]
  simp[Hp.put,Hp.new,h1,hab]
theorem qot(c br kk zt last:Nat)(hm:zt<=100000)(hp:Hp)(h:hp.rd c 0=some (Cu br kk zt zt last)):run cxX 99 [.ptr c 0 0] hp=some (.tup [.sc (.int .u64 0),.sc (.bool false)],hp):=by
 have lf:=Wh c br kk zt zt last (Nat.le_refl _) hm hp h
 rw[Nat.sub_self]at lf
 rw[E99]
 simp[lf]
theorem quu(c br kk zt last:Nat)(hm:zt<=100000)(t:Nat)(bl:List Int)(hbl:bl.length<=100000000)(h8:By bl)(q:Nat)(hq:q<=8*bl.length)(he:qff bl q false=0)(hp:Hp)(h:hp.rd c 0=some (Cu br kk zt zt last))(hr:hp.rd br 0=some (Rb t bl q false)):
 run cxX 100 [.ptr c 0 0] hp=some (.sc (.int .i64 0),hp):=by
 have e:=quw br t bl q false hp hbl h8 hq hr
 rw[he]at e
 have gs5:∀(x0 x1 x2 x3 x4:AV) (v:Value) (r:List AV),qe (x0::x1::x2::x3::x4::.sc v::r) 5=some v:=fun _ _ _ _ _ _ _=>rfl
 have gs3:∀(x0 x1 x2:AV) (v:Value) (r:List AV),qe (x0::x1::x2::.sc v::r) 3=some v:=fun _ _ _ _ _=>rfl
 have gs2:∀(x0 x1:AV) (v:Value) (r:List AV),qe (x0::x1::.sc v::r) 2=some v:=fun _ _ _ _=>rfl
 have gc0:∀(x:AV) (l:List AV),qj (x::l) 0=some x:=fun _ _=>rfl
 rw[E100]
 simp[h,gs5,gs3,gs2,qs9,gc0,e]
theorem qoc(b k:Nat)(l:List Int)(hl:l.length<=1000000000)(h8:By l)(hs:List Nat)(hn:hs.length<=1024)(h64:∀x∈hs,x<18446744073709551616)(hri:zi hs)(p:Nat)(rest:List Int)(hd:l.drop p=yc hs++rest)(hp:Hp)(hpl:p<=l.length)(hb:b<hp.next)(hr:hp.rd b 0=some (Rc k l p 0)):
 ∃hp',run cxX 46 [.ptr b 0 0] hp=some (S 2 1 (LI .u64 (nz hs)),hp')/\hp'.rd b 0=some (Rc k l (p+(yc hs).length) 0)/\hp'.next=hp.next+2/\∀a,a<hp.next->a≠b->hp'.get a=hp.get a:=by
 obtain⟨k63,hq⟩:=Jo (gs:=qt hs) (vk h64)
 have rl:=QK (zY (qt hs)) k63 (qt hs) hq
 rw[kN]at rl
 have eR:jz (qt hs)=zU (zY (qt hs)) (qt hs):=rfl
 have b8:By (pk (jz (qt hs))):=fun x hx=>qc2 hx
 have hbl:(pk (jz (qt hs))).length<=1048576:=by rw[zR,eR];omega
 have ey:yc hs=uv hs.length++((zY (qt hs):Int)::(uv (pk (jz (qt hs))).length++(pk (jz (qt hs))))):=by unfold yc;simp
 have ed:yc hs++rest=uv hs.length++((zY (qt hs):Int)::(uv (pk (jz (qt hs))).length++(pk (jz (qt hs))++rest))):=by rw[ey];simp
 have el:(yc hs).length=(uv hs.length).length+1+(uv (pk (jz (qt hs))).length).length+(pk (jz (qt hs))).length:=by rw[ey];simp only[List.length_append,List.length_cons];omega
 rw[ed]at hd
 obtain⟨hp1,t,a1,a2,a3,a4,a5,a6⟩:=qub b k l hl h8 hs.length (zY (qt hs)) (pk (jz (qt hs))) (by omega) k63 hbl p rest hd hp hpl hb hr
 have hne:hp.next≠hp.next+1:=by omega
 obtain⟨hp2,L,c1,c2,c3,c4,c5⟩:=qjt b hp.next (hp.next+1) (zY (qt hs)) t (pk (jz (qt hs))) hs k63 (by omega) (by omega) b8 hne h64 hri hq hs 0 0 hp1 rfl (by omega) a2 a3 (by rw[List.drop_zero,<-eR];exact At.pk _)
 rw[List.drop_zero,<-eR,Nat.zero_add]at c3
 have hb2:hp2.rd b 0=some (Rc k l (p+(yc hs).length) 0):=by
  rw[Hp.rd,c5 b (by omega) (by omega),<-Hp.rd,a4,el]
  congr 2
  omega
 refine⟨hp2,?_,hb2,by omega,fun a h1 h2=>by rw[c5 a (by omega) (by omega),a6 a h1 h2]⟩
 have nx:=qot hp.next (hp.next+1) (zY (qt hs)) hs.length L (by omega) hp2 c2
 have en:=quu hp.next (hp.next+1) (zY (qt hs)) hs.length L (by omega) t (pk (jz (qt hs))) (by omega) b8 (jz (qt hs)).length (by rw[zR];omega) (zb9 _) hp2 c2 c3
 have er:=zH b k l (p+(yc hs).length) 0 hp2 hb2
 have pr:=Wa hs 3 (by omega) h64 hri hp0
 have gs1:∀(x0:AV) (v:Value) (r:List AV),qe (x0::.sc v::r) 1=some v:=fun _ _ _=>rfl
 rw[E46]
 have c1':B46_3 (.ptr b 0 0) (.ptr hp.next 0 0) (S 2 1 []) hp1=B46_3 (.ptr b 0 0) (.ptr hp.next 0 0) (S 2 1 (LI .u64 (nz hs))) hp2:=c1
 generalize zY (qt hs)=K at*
 simp[a1,c1']
 rw[qif]
 simp[nx,en,qyq,er,pr,c2,gs1,qrj]
end Go.Proofs.YtchmioacjkbfcaaGreat.AI
