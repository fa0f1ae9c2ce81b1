/- Texts that the proof of PackErrors rests on, part 4. -/
import Derived.Test.YtchmioacjkbfcaaGreatQPackErrors3
import GoSem.Core.Float
import GoSem.Core.View
namespace Go.Proofs.YtchmioacjkbfcaaGreat.AI
set_option linter.unusedVariables false
set_option linter.unusedSimpArgs false
def mrg:List Int->List Int->List Int
 |[],b=>b
 |a,[]=>a
 |x::a,y::b=>if x<y then x::mrg a (y::b)else if y<x then y::mrg (x::a) b else x::mrg a b
termination_by a b=>a.length+b.length
@[simp] theorem mrg_nil_l (b : List Int) : mrg [] b = b := by unfold mrg; rfl
@[simp] theorem mrg_nil_r (a : List Int) : mrg a [] = a := by cases a <;> (unfold mrg; rfl)
theorem zh(x:Int)(a:List Int)(y:Int)(b:List Int):mrg (x::a) (y::b)=if x<y then x::mrg a (y::b)else if y<x then y::mrg (x::a) b else x::mrg a b:=by
 rw[mrg]
theorem mrg_ind{motive:List Int->List Int->Prop}(h1:∀b,motive [] b)(h2:∀a,motive a [])(h3:∀x a y b,x<y->motive a (y::b)->motive (x::a) (y::b))
  (h4:∀x a y b,y<x->motive (x::a) b->motive (x::a) (y::b)) (h5:∀x a b,motive a b->motive (x::a) (x::b)):∀a b,motive a b:=by
 intro a b
 generalize hn:a.length+b.length=n
 induction n using Nat.strongRecOn generalizing a b with
 | _ n ih=>
  cases a with
  |nil=>exact h1 b
  | cons x a=>
   cases b with
   |nil=>exact h2 _
   | cons y b=>
    by_cases hxy:x<y
    ·exact h3 x a y b hxy (ih (a.length+(y::b).length) (by simp at hn⊢;omega) _ _ rfl)
    ·by_cases hyx:y<x
     ·exact h4 x a y b hyx (ih ((x::a).length+b.length) (by simp at hn⊢;omega) _ _ rfl)
     ·have:x=y:=by omega
      subst this
      exact h5 x a b (ih (a.length+b.length) (by simp at hn⊢;omega) _ _ rfl)
theorem xO(n:Int):∀a b,n∈mrg a b↔n∈a\/n∈b:=by
 apply mrg_ind
 ·intro b;simp
 ·intro a;simp
 ·intro x a y b h ih
  rw[zh,if_pos h,List.mem_cons,ih,List.mem_cons,List.mem_cons]
  constructor
  ·rintro(h|h|h|h)
   ·exact .inl (.inl h)
   ·exact .inl (.inr h)
   ·exact .inr (.inl h)
   ·exact .inr (.inr h)
  ·rintro((h|h)|(h|h))
   ·exact .inl h
   ·exact .inr (.inl h)
   ·exact .inr (.inr (.inl h))
   ·exact .inr (.inr (.inr h))
 ·intro x a y b h ih
  rw[zh,if_neg (by omega),if_pos h,List.mem_cons,ih,List.mem_cons,List.mem_cons]
  constructor
  ·rintro(h|(h|h)|h)
   ·exact .inr (.inl h)
   ·exact .inl (.inl h)
   ·exact .inl (.inr h)
   ·exact .inr (.inr h)
  ·rintro((h|h)|(h|h))
   ·exact .inr (.inl (.inl h))
   ·exact .inr (.inl (.inr h))
   ·exact .inl h
   ·exact .inr (.inr h)
 ·intro x a b ih
  rw[zh,if_neg (by omega),if_neg (by omega),List.mem_cons,ih,List.mem_cons,List.mem_cons]
  constructor
  ·rintro(h|h|h)
   ·exact .inl (.inl h)
   ·exact .inl (.inr h)
   ·exact .inr (.inr h)
  ·rintro((h|h)|(h|h))
   ·exact .inl h
   ·exact .inr (.inl h)
   ·exact .inl h
   ·exact .inr (.inr h)
abbrev Rise(l:List Int):Prop:=l.Pairwise (·<·)
theorem rise_mrg:∀a b,Rise a->Rise b->Rise (mrg a b):=by
 apply mrg_ind (motive:=fun a b=>Rise a->Rise b->Rise (mrg a b))
 ·intro b _ h;simpa using h
 ·intro a h _;simpa using h
 ·intro x a y b h ih ha hb
  rw[zh,if_pos h]
  have ha:=List.pairwise_cons.mp ha
  refine List.pairwise_cons.mpr ⟨fun n hn=>?_,ih ha.2 hb⟩
  rcases(xO n a (y::b)).mp hn with h'|h'
  ·exact ha.1 n h'
  ·rcases List.mem_cons.mp h' with rfl|h'
   ·exact h
   ·have:=(List.pairwise_cons.mp hb).1 n h';omega
 ·intro x a y b h ih ha hb
  rw[zh,if_neg (by omega),if_pos h]
  have hb':=List.pairwise_cons.mp hb
  refine List.pairwise_cons.mpr ⟨fun n hn=>?_,ih ha hb'.2⟩
  rcases(xO n (x::a) b).mp hn with h'|h'
  ·rcases List.mem_cons.mp h' with rfl|h'
   ·exact h
   ·have:=(List.pairwise_cons.mp ha).1 n h';omega
  ·exact hb'.1 n h'
 ·intro x a b ih ha hb
  rw[zh,if_neg (by omega),if_neg (by omega)]
  have ha':=List.pairwise_cons.mp ha
  have hb':=List.pairwise_cons.mp hb
  refine List.pairwise_cons.mpr ⟨fun n hn=>?_,ih ha'.2 hb'.2⟩
  rcases(xO n a b).mp hn with h'|h'
  ·exact ha'.1 n h'
  ·exact hb'.1 n h'
theorem len_mrg:∀a b,(mrg a b).length<=a.length+b.length:=by
 apply mrg_ind (motive:=fun a b=>(mrg a b).length<=a.length+b.length)
 ·intro b;simp
 ·intro a;simp
 ·intro x a y b h ih
  rw[zh,if_pos h];simp at ih⊢;omega
 ·intro x a y b h ih
  rw[zh,if_neg (by omega),if_pos h];simp at ih⊢;omega
 ·intro x a b ih
  rw[zh,if_neg (by omega),if_neg (by omega)];simp at ih⊢;omega
theorem rise_ext:∀{a b:List Int},Rise a->Rise b->(∀n,n∈a↔n∈b)->a=b
 |[],[],_,_,_=>rfl
 |[],y::b,_,_,h=>absurd ((h y).mpr (by simp)) (by simp)
 |x::a,[],_,_,h=>absurd ((h x).mp (by simp)) (by simp)
 | x ::a,y::b,ha,hb,h=>by
  have ha':=List.pairwise_cons.mp ha
  have hb':=List.pairwise_cons.mp hb
  have hxy:x=y:=by
   have h1:=List.mem_cons.mp ((h x).mp (by simp))
   have h2:=List.mem_cons.mp ((h y).mpr (by simp))
   rcases h1 with h1|h1
   ·exact h1
   ·rcases h2 with h2|h2
    ·exact h2.symm
    ·have:=ha'.1 y h2
     have:=hb'.1 x h1
     omega
  subst hxy
  congr 1
  refine rise_ext ha'.2 hb'.2 fun n=>?_
  have:=h n
  constructor
  ·intro hn
   have hlt:=ha'.1 n hn
   rcases List.mem_cons.mp (this.mp (List.mem_cons_of_mem _ hn))with rfl|h'
   ·omega
   ·exact h'
  ·intro hn
   have hlt:=hb'.1 n hn
   rcases List.mem_cons.mp (this.mpr (List.mem_cons_of_mem _ hn))with rfl|h'
   ·omega
   ·exact h'
theorem mrg_sub{a b:List Int}(ha:Rise a)(hb:Rise b)(h:∀n∈b,n∈a):mrg a b=a:=
 rise_ext (rise_mrg _ _ ha hb) ha fun n=>by rw[xO];exact⟨fun h'=>h'.elim id (h n),.inl⟩
end Go.Proofs.YtchmioacjkbfcaaGreat.AI
namespace Go.Proofs.YtchmioacjkbfcaaGreat.AI
set_option linter.unusedVariables false
set_option linter.unusedSimpArgs false
theorem take_mrg:∀(A B:List Int) (k m n:Nat),k<=m->k<=n->(mrg (A.take m) (B.take n)).take k=(mrg A B).take k:=by
 apply mrg_ind (motive:=fun A B=>∀(k m n:Nat),k<=m->k<=n->(mrg (A.take m) (B.take n)).take k=(mrg A B).take k)
 ·intro b k m n hm hn
  rw[List.take_nil,mrg_nil_l,mrg_nil_l,List.take_take,Nat.min_eq_left hn]
 ·intro a k m n hm hn
  rw[List.take_nil,mrg_nil_r,mrg_nil_r,List.take_take,Nat.min_eq_left hm]
 ·intro x a y b h ih k m n hm hn
  match k,m,n,hm,hn with
  |0,_,_,_,_=>simp
  |k+1,m+1,n+1,hm,hn=>
   have:=ih k m (n+1) (by omega) (by omega)
   rw[List.take_succ_cons]at this
   rw[List.take_succ_cons,List.take_succ_cons,zh,zh,if_pos h,if_pos h,List.take_succ_cons,List.take_succ_cons,this]
 ·intro x a y b h ih k m n hm hn
  match k,m,n,hm,hn with
  |0,_,_,_,_=>simp
  |k+1,m+1,n+1,hm,hn=>
   have n1:¬x<y:=by omega
   have:=ih k (m+1) n (by omega) (by omega)
   rw[List.take_succ_cons]at this
   rw[List.take_succ_cons,List.take_succ_cons,zh,zh,if_neg n1,if_pos h,if_neg n1,if_pos h,List.take_succ_cons,List.take_succ_cons,this]
 ·intro x a b ih k m n hm hn
  match k,m,n,hm,hn with
  |0,_,_,_,_=>simp
  |k+1,m+1,n+1,hm,hn=>
   have n1:¬x<x:=by omega
   have:=ih k m n (by omega) (by omega)
   rw[List.take_succ_cons,List.take_succ_cons,zh,zh,if_neg n1,if_neg n1,if_neg n1,if_neg n1,List.take_succ_cons,List.take_succ_cons,this]
theorem take_mrg_l(A B:List Int)(k:Nat):(mrg (A.take k) B).take k=(mrg A B).take k:=by
 have h:=take_mrg A B k k (k+B.length) (by omega) (by omega)
 rwa [List.take_of_length_le (by omega:B.length<=k+B.length)]at h
theorem rise_take{l:List Int}(k:Nat)(h:Rise l):Rise (l.take k):=List.Pairwise.sublist (List.take_sublist k l) h
def srt(acc:List Int):List Int->List Int
 |[]=>acc
 |n::r=>srt (mrg acc [n]) r
theorem srt_rise:∀(r:List Int) {acc:List Int},Rise acc->Rise (srt acc r)
 |[],_,h=>h
 |n::r,_,h=>srt_rise r (rise_mrg _ _ h (by simp))
theorem mem_srt(x:Int):∀(r acc:List Int),x∈srt acc r↔x∈acc\/x∈r
 |[],acc=>by simp[srt]
 |n::r,acc=>by
  rw[srt,mem_srt x r,xO]
  simp[or_assoc]
def kmvs(K:Nat)(acc:List Int):List Int->List Int
 |[]=>acc
 |n::r=>kmvs K ((mrg acc [n]).take K) r
theorem kmvs_srt(K:Nat):∀(r acc:List Int),kmvs K (acc.take K) r=(srt acc r).take K
 |[],acc=>rfl
 |n::r,acc=>by
  rw[kmvs,take_mrg_l,kmvs_srt K r,srt]
theorem kmvs_eq(K:Nat)(r:List Int):kmvs K [] r=(srt [] r).take K:=by
 simpa using kmvs_srt K r []
theorem kmvs_rise(K:Nat)(a:List Int):Rise (kmvs K [] a):=by rw[kmvs_eq];exact rise_take K (srt_rise a List.Pairwise.nil)
theorem kmvs_len(K:Nat)(a:List Int):(kmvs K [] a).length<=K:=by rw[kmvs_eq,List.length_take];omega
theorem mem_kmvs{K:Nat}{a:List Int}{x:Int}(h:x∈kmvs K [] a):x∈a:=by
 rw[kmvs_eq]at h
 have:=(mem_srt x a []).mp (List.mem_of_mem_take h)
 simpa using this
end Go.Proofs.YtchmioacjkbfcaaGreat.AI
namespace Go.Proofs.YtchmioacjkbfcaaGreat.AI
open Ieee
set_option linter.unusedVariables false
set_option linter.unusedSimpArgs false
def isN(x:Nat):Prop:=9218868437227405312<x%9223372036854775808
instance (x : Nat) : Decidable (isN x) := by unfold isN; infer_instance
def fval(x:Nat):Int:=if x/9223372036854775808%2=1 then -((x%9223372036854775808:Nat):Int)else((x%9223372036854775808:Nat):Int)
def magR(r:Nat):Nat:=if r<4503599627370496 then r else(4503599627370496+r%4503599627370496)*2^(r/4503599627370496-1)
theorem magR_lt{a b:Nat}(h:a<b):magR a<magR b:=by
 unfold magR
 by_cases ha:a<4503599627370496
 ·rw[if_pos ha]
  by_cases hb:b<4503599627370496
  ·rw[if_pos hb];exact h
  ·rw[if_neg hb]
   have h1:1<=2^(b/4503599627370496-1):=Nat.one_le_two_pow
   have h2:=Nat.mul_le_mul (Nat.le_refl (4503599627370496+b%4503599627370496)) h1
   omega
 ·have hb:¬b<4503599627370496:=by omega
  rw[if_neg ha,if_neg hb]
  by_cases hq:a/4503599627370496=b/4503599627370496
  ·rw[hq]
   have hr:a%4503599627370496<b%4503599627370496:=by omega
   exact Nat.mul_lt_mul_of_pos_right (by omega) (Nat.two_pow_pos _)
  ·have hq':a/4503599627370496<b/4503599627370496:=by omega
   have h1:(4503599627370496+a%4503599627370496)*2^(a/4503599627370496-1)<(2*4503599627370496)*2^(a/4503599627370496-1):=by
    have:a%4503599627370496<4503599627370496:=Nat.mod_lt _ (by omega)
    exact Nat.mul_lt_mul_of_pos_right (by omega) (Nat.two_pow_pos _)
   have h2:2^(a/4503599627370496-1)*2=2^(a/4503599627370496):=by
    rw[<-Nat.pow_succ]
    congr 1
    omega
   have h3:2^(a/4503599627370496)<=2^(b/4503599627370496-1):=Nat.pow_le_pow_right (by omega) (by omega)
   have h4:4503599627370496*2^(b/4503599627370496-1)<=(4503599627370496+b%4503599627370496)*2^(b/4503599627370496-1):=Nat.mul_le_mul (by omega) (Nat.le_refl _)
   have h5:(2*4503599627370496)*2^(a/4503599627370496-1)=4503599627370496*2^(a/4503599627370496):=by
    rw[<-h2];generalize 2^(a/4503599627370496-1)=z;omega
   have h6:=Nat.mul_le_mul (Nat.le_refl 4503599627370496) h3
   omega
theorem magR_inj{a b:Nat}(h:magR a=magR b):a=b:=by
 rcases Nat.lt_trichotomy a b with h'|h'|h'
 ·have:=magR_lt h';omega
 ·exact h'
 ·have:=magR_lt h';omega
theorem magR_0:magR 0=0:=rfl
theorem yh(a b:Int):compare a b=if a<b then .lt else if a=b then .eq else .gt:=rfl
theorem cmp_scale(a b:Int){c:Int}(hc:0<c):compare a b=compare (a*c) (b*c):=by
 rw[yh,yh]
 have h1:a*c<b*c↔a<b:=Int.mul_lt_mul_right hc
 have h2:a*c=b*c↔a=b:=⟨fun h=>Int.eq_of_mul_eq_mul_right (by omega) h,fun h=>by rw[h]⟩
 simp only[h1,h2]
theorem read_fin{x:Nat}(h:x%9223372036854775808<9218868437227405312):∃(m i:Nat),double.read x= .number (x/9223372036854775808%2==1) m (-1074+i)/\m*2^i=magR (x%9223372036854775808):=by
 have e1:double.signWeight=9223372036854775808:=by decide
 have e2:double.binade=4503599627370496:=by decide
 have e3:double.infRung=9218868437227405312:=by decide
 have e4:double.leastPlace=-1074:=by decide
 unfold Format.read
 simp only[e1,e2,e3,e4]
 unfold magR
 by_cases hb:x%9223372036854775808<4503599627370496
 ·rw[if_pos hb,if_pos hb]
  exact⟨_,0,rfl,by simp⟩
 ·rw[if_neg hb,if_neg hb,if_pos h]
  exact⟨_,_,rfl,rfl⟩
theorem read_inf{x:Nat}(h:x%9223372036854775808=9218868437227405312):double.read x= .infinity (x/9223372036854775808%2==1):=by
 have e1:double.signWeight=9223372036854775808:=by decide
 have e2:double.binade=4503599627370496:=by decide
 have e3:double.infRung=9218868437227405312:=by decide
 unfold Format.read
 simp only[e1,e2,e3]
 rw[if_neg (by omega),if_neg (by omega),if_pos h]
theorem read_nan{x:Nat}(h:isN x):∃s t,double.read x= .nan s t:=by
 unfold isN at h
 have e1:double.signWeight=9223372036854775808:=by decide
 have e2:double.binade=4503599627370496:=by decide
 have e3:double.infRung=9218868437227405312:=by decide
 unfold Format.read
 simp only[e1,e2,e3]
 rw[if_neg (by omega),if_neg (by omega),if_neg (by omega)]
 exact⟨_,_,rfl⟩
theorem order_nan_l{x y:Nat}(h:isN x):double.order x y=none:=by
 obtain⟨s,t,e⟩:=read_nan h
 unfold Format.order
 rw[e]
 rfl
theorem order_nan_r{x y:Nat}(h:isN y):double.order x y=none:=by
 obtain⟨s,t,e⟩:=read_nan h
 unfold Format.order
 rw[e]
 cases double.read x<;>rfl
def sg(s:Bool)(m:Int):Int:=if s then -m else m
theorem cmp_sg(s t:Bool)(a b:Nat):compare (sg s (magR a)) (sg t (magR b))=compare (sg s (a:Int)) (sg t (b:Int)):=by
 have h1:magR a<magR b↔a<b:=by
  constructor
  ·intro h
   rcases Nat.lt_trichotomy a b with h'|h'|h'
   ·exact h'
   ·subst h';omega
   ·have:=magR_lt h';omega
  ·exact magR_lt
 have h2:magR a=magR b↔a=b:=⟨magR_inj,fun h=>by rw[h]⟩
 have h3:magR a=0↔a=0:=⟨fun h=>magR_inj (b:=0) (by rw[h,magR_0]),fun h=>by rw[h,magR_0]⟩
 have h4:magR b=0↔b=0:=⟨fun h=>magR_inj (b:=0) (by rw[h,magR_0]),fun h=>by rw[h,magR_0]⟩
 rw[yh,yh]
 cases s<;>cases t<;>simp only[sg,if_true,if_false,Bool.false_eq_true]
 ·have c1:((magR a:Nat):Int)<(magR b:Nat)↔(a:Int)<b:=by omega
  have c2:((magR a:Nat):Int)=(magR b:Nat)↔(a:Int)=b:=by omega
  simp only[c1,c2]
 ·have c1:((magR a:Nat):Int)< -(magR b:Nat)↔(a:Int)< -(b:Int):=by omega
  have c2:((magR a:Nat):Int)=-(magR b:Nat)↔(a:Int)=-(b:Int):=by omega
  simp only[c1,c2]
 ·have c1:-((magR a:Nat):Int)<(magR b:Nat)↔-(a:Int)<(b:Int):=by omega
  have c2:-((magR a:Nat):Int)=(magR b:Nat)↔-(a:Int)=(b:Int):=by omega
  simp only[c1,c2]
 ·have c1:-((magR a:Nat):Int)< -(magR b:Nat)↔-(a:Int)< -(b:Int):=by omega
  have c2:-((magR a:Nat):Int)=-(magR b:Nat)↔-(a:Int)=-(b:Int):=by omega
  simp only[c1,c2]
theorem xa(x:Nat):fval x=sg (x/9223372036854775808%2==1) ((x%9223372036854775808:Nat):Int):=by
 unfold fval sg
 by_cases h:x/9223372036854775808%2=1<;>simp[h]
theorem signed_sg(s:Bool)(m k:Nat):Ieee.signed s m k=sg s ((m*2^k:Nat):Int):=by
 unfold Ieee.signed sg
 rw[Nat.shiftLeft_eq]
 try (cases s<;>rfl)
theorem order_fin{x y:Nat}(hx:x%9223372036854775808<9218868437227405312)(hy:y%9223372036854775808<9218868437227405312):double.order x y=some (compare (fval x) (fval y)):=by
 obtain⟨m,i,e1,e2⟩:=read_fin hx
 obtain⟨n,j,f1,f2⟩:=read_fin hy
 unfold Format.order
 rw[e1,f1]
 simp only[Datum.order]
 rw[xa,xa,<-cmp_sg,<-e2,<-f2,signed_sg,signed_sg]
 congr 1
 have hc:(0:Int)<((2^(min i j):Nat):Int):=by have:=Nat.two_pow_pos (min i j);omega
 rw[cmp_scale _ _ hc]
 have p1:(-1074+(i:Int)-min (-1074+(i:Int)) (-1074+(j:Int))).toNat+min i j=i:=by omega
 have p2:(-1074+(j:Int)-min (-1074+(i:Int)) (-1074+(j:Int))).toNat+min i j=j:=by omega
 have q:∀(s:Bool) (m k c:Nat),sg s ((m*2^k:Nat):Int)*((2^c:Nat):Int)=sg s ((m*2^(k+c):Nat):Int):=by
  intro s m k c
  rw[Nat.pow_add,<-Nat.mul_assoc]
  cases s
  ·simp only[sg,Bool.false_eq_true,if_false];rw[<-Int.natCast_mul]
  ·simp only[sg,if_true];rw[Int.neg_mul,<-Int.natCast_mul]
 rw[q,q,p1,p2]
theorem order_num{x y:Nat}(hx:¬isN x)(hy:¬isN y):double.order x y=some (compare (fval x) (fval y)):=by
 unfold isN at hx hy
 by_cases ix:x%9223372036854775808=9218868437227405312
 ·by_cases iy:y%9223372036854775808=9218868437227405312
  ·unfold Format.order
   rw[read_inf ix,read_inf iy]
   simp only[Datum.order]
   rw[xa,xa,ix,iy]
   cases(x/9223372036854775808%2==1)<;>cases(y/9223372036854775808%2==1)<;>decide
  ·obtain⟨n,j,f1,f2⟩:=read_fin (x:=y) (by omega)
   unfold Format.order
   rw[read_inf ix,f1]
   simp only[Datum.order]
   rw[xa,xa,ix,yh]
   generalize y%9223372036854775808=r at*
   cases(x/9223372036854775808%2==1)<;>cases(y/9223372036854775808%2==1)<;>simp only[sg,if_true,if_false,Bool.false_eq_true]
   ·rw[if_neg (by omega),if_neg (by omega)]
   ·rw[if_neg (by omega),if_neg (by omega)]
   ·rw[if_pos (by omega)]
   ·rw[if_pos (by omega)]
 ·by_cases iy:y%9223372036854775808=9218868437227405312
  ·obtain⟨n,j,f1,f2⟩:=read_fin (x:=x) (by omega)
   unfold Format.order
   rw[read_inf iy,f1]
   simp only[Datum.order]
   rw[xa,xa,iy,yh]
   generalize x%9223372036854775808=r at*
   cases(x/9223372036854775808%2==1)<;>cases(y/9223372036854775808%2==1)<;>simp only[sg,if_true,if_false,Bool.false_eq_true]
   ·rw[if_pos (by omega)]
   ·rw[if_neg (by omega),if_neg (by omega)]
   ·rw[if_pos (by omega)]
   ·rw[if_neg (by omega),if_neg (by omega)]
  ·exact order_fin (by omega) (by omega)
theorem f_eq(x y:Nat):(double.order x y==some .eq)=decide (¬isN x/\¬isN y/\fval x=fval y):=by
 by_cases hx:isN x
 ·rw[order_nan_l hx];simp[hx]
 ·by_cases hy:isN y
  ·rw[order_nan_r hy];simp[hy]
  ·rw[order_num hx hy,yh]
   rcases Int.lt_trichotomy (fval x) (fval y)with h|h|h
   ·have:¬(fval x=fval y):=by omega
    simp[hx,hy,h,this]
   ·have:¬(fval x<fval y):=by omega
    simp[hx,hy,h]
   ·have h1:¬(fval x<fval y):=by omega
    have h2:¬(fval x=fval y):=by omega
    simp[hx,hy,h1,h2]
theorem f_lt(x y:Nat):(double.order x y==some .lt)=decide (¬isN x/\¬isN y/\fval x<fval y):=by
 by_cases hx:isN x
 ·rw[order_nan_l hx];simp[hx]
 ·by_cases hy:isN y
  ·rw[order_nan_r hy];simp[hy]
  ·rw[order_num hx hy,yh]
   rcases Int.lt_trichotomy (fval x) (fval y)with h|h|h
   ·simp[hx,hy,h]
   ·have:¬(fval x<fval y):=by omega
    simp[hx,hy,h]
   ·have h1:¬(fval x<fval y):=by omega
    have h2:¬(fval x=fval y):=by omega
    simp[hx,hy,h1,h2]
theorem f_gt(x y:Nat):(double.order x y==some .gt)=decide (¬isN x/\¬isN y/\fval y<fval x):=by
 by_cases hx:isN x
 ·rw[order_nan_l hx];simp[hx]
 ·by_cases hy:isN y
  ·rw[order_nan_r hy];simp[hy]
  ·rw[order_num hx hy,yh]
   rcases Int.lt_trichotomy (fval x) (fval y)with h|h|h
   ·have h1:¬(fval y<fval x):=by omega
    simp[hx,hy,h,h1]
   ·have:¬(fval y<fval x):=by omega
    simp[hx,hy,h]
   ·have h1:¬(fval x<fval y):=by omega
    have h2:¬(fval x=fval y):=by omega
    simp[hx,hy,h1,h2,h]
end Go.Proofs.YtchmioacjkbfcaaGreat.AI
namespace Go.Proofs.YtchmioacjkbfcaaGreat.AI
open Go
set_option linter.unusedVariables false
set_option linter.unusedSimpArgs false
set_option maxRecDepth 100000
set_option maxHeartbeats 0
theorem bv_or_top(n:Nat)(h:n<9223372036854775808):(BitVec.ofInt 64 (n:Int)|||BitVec.ofInt 64 9223372036854775808).toNat=n+9223372036854775808:=by
 rw[BitVec.toNat_or,BitVec.toNat_ofInt,BitVec.toNat_ofInt]
 have e1:(((n:Int)%((2^64:Nat):Int)).toNat)=n:=by omega
 have e2:(((9223372036854775808:Int)%((2^64:Nat):Int)).toNat)=2^63*1:=by decide
 rw[e1,e2,Nat.or_comm,<-Nat.two_pow_add_eq_or_of_lt (by simpa using h)]
 omega
theorem bv_and_top_lo(n:Nat)(h:n<9223372036854775808):(BitVec.ofInt 64 (n:Int)&&&BitVec.ofInt 64 9223372036854775808).toNat=0:=by
 rw[BitVec.toNat_and,BitVec.toNat_ofInt,BitVec.toNat_ofInt]
 have e1:(((n:Int)%((2^64:Nat):Int)).toNat)=n:=by omega
 have e2:(((9223372036854775808:Int)%((2^64:Nat):Int)).toNat)=2^63:=by decide
 rw[e1,e2]
 apply Nat.eq_of_testBit_eq
 intro i
 rw[Nat.testBit_and,Nat.testBit_two_pow,Nat.zero_testBit]
 by_cases hi:63=i
 ·subst hi
  rw[Nat.testBit_lt_two_pow (by simpa using h)]
  rfl
 ·simp[hi]
theorem bv_and_top_hi(n:Nat)(h:9223372036854775808<=n)(h':n<18446744073709551616):(BitVec.ofInt 64 (n:Int)&&&BitVec.ofInt 64 9223372036854775808).toNat=9223372036854775808:=by
 rw[BitVec.toNat_and,BitVec.toNat_ofInt,BitVec.toNat_ofInt]
 have e1:(((n:Int)%((2^64:Nat):Int)).toNat)=n:=by omega
 have e2:(((9223372036854775808:Int)%((2^64:Nat):Int)).toNat)=2^63:=by decide
 have e3:(9223372036854775808:Nat)=2^63:=by decide
 rw[e1,e2]
 conv=>rhs;rw[e3]
 obtain⟨m,rfl⟩:∃m,n=2^63*1+m:=⟨n-2^63,by omega⟩
 rw[Nat.two_pow_add_eq_or_of_lt (by omega)]
 apply Nat.eq_of_testBit_eq
 intro i
 rw[Nat.testBit_and,Nat.testBit_or,Nat.mul_one,Nat.testBit_two_pow]
 by_cases hi:63=i
 ·subst hi;simp
 ·simp[hi]
theorem bv_clear_top(n:Nat)(h':n<18446744073709551616):(BitVec.ofInt 64 (n:Int)&&&~~~(BitVec.ofInt 64 9223372036854775808)).toNat=n%9223372036854775808:=by
 have e2:(~~~(BitVec.ofInt 64 9223372036854775808)).toNat=2^63-1:=by decide
 rw[BitVec.toNat_and,BitVec.toNat_ofInt,e2,Nat.and_two_pow_sub_one_eq_mod]
 have e1:(((n:Int)%((2^64:Nat):Int)).toNat)=n:=by omega
 rw[e1]
def kw(w:Nat):Nat:=if isN w then 18444492273895866369 else if w<9223372036854775808 then w+9223372036854775808 else 18446744073709551615-w
def wk(k:Nat):Nat:=if k<9223372036854775808 then 18446744073709551615-k else k-9223372036854775808
def ofOk(k:Nat):Bool:=decide (kw (wk k)=k)
theorem kw_lt(w:Nat)(h:w<18446744073709551616):kw w<18446744073709551616:=by
 unfold kw;repeat' split
 all_goals omega
theorem wk_lt(k:Nat)(h:k<18446744073709551616):wk k<18446744073709551616:=by
 unfold wk;split<;>omega
theorem wk_kw{w:Nat}(h:w<18446744073709551616)(hn:¬isN w):wk (kw w)=w:=by
 unfold kw
 rw[if_neg hn]
 unfold wk
 repeat' split
 all_goals omega
theorem kw_wk_kw(w:Nat)(h:w<18446744073709551616):kw (wk (kw w))=kw w:=by
 by_cases hn:isN w
 ·unfold kw
  rw[if_pos hn]
  decide
 ·rw[wk_kw h hn]
def yX(w:Nat):Int:=if isN w then 6 else if w=9218868437227405312 then 5 else if w=18442240474082181120 then 0 else if w=9223372036854775808 then 2 else if w=0 then 3 else if w<9223372036854775808 then 4 else 1
def fLess(a b:Nat):Bool:=decide (¬isN a/\¬isN b/\fval a<fval b)
end Go.Proofs.YtchmioacjkbfcaaGreat.AI
namespace Go.Proofs.YtchmioacjkbfcaaGreat.AI
set_option linter.unusedVariables false
set_option linter.unusedSimpArgs false
def Bl(x n:Nat):Prop:=x<2^n/\(n=0\/2^(n-1)<=x)
theorem Bl.up{x k n:Nat}(h:Bl (x/2^k) n)(hx:2^k<=x):Bl x (n+k):=by
 obtain⟨h1,h2⟩:=h
 have hp:=Nat.two_pow_pos k
 have hn:n≠0:=by
  intro e
  subst e
  have:1<=x/2^k:=(Nat.one_le_div_iff hp).mpr hx
  simp at h1
  omega
 refine⟨?_,.inr ?_⟩
 ·rw[Nat.pow_add]
  exact(Nat.div_lt_iff_lt_mul hp).mp h1
 ·have h3:=h2.resolve_left hn
  rw[show n+k-1=(n-1)+k by omega,Nat.pow_add]
  exact(Nat.le_div_iff_mul_le hp).mp h3
end Go.Proofs.YtchmioacjkbfcaaGreat.AI
namespace Go.Proofs.YtchmioacjkbfcaaGreat.AI
set_option linter.unusedVariables false
set_option linter.unusedSimpArgs false
def uv(n:Nat):List Int:=if h:n<128 then [(n:Int)]else((n%128+128:Nat):Int)::uv (n/128)
termination_by n
decreasing_by omega
theorem uv_lt{n:Nat}(h:n<128):uv n=[(n:Int)]:=by rw[uv];simp[h]
theorem uv_ge{n:Nat}(h:¬(n<128)):uv n=((n%128+128:Nat):Int)::uv (n/128):=by rw[uv];simp[h]
theorem uv_in:∀(n:Nat) (x:Int),x∈uv n->0<=x/\x<256:=by
 intro n
 induction n using Nat.strongRecOn with
 | _ n ih=>
  intro x hx
  by_cases h:n<128
  ·rw[uv_lt h]at hx;simp at hx;omega
  ·rw[uv_ge h]at hx
   rcases List.mem_cons.mp hx with rfl|hx
   ·omega
   ·exact ih (n/128) (by omega) x hx
theorem uv_len:∀(k n:Nat),n<128^(k+1)->(uv n).length<=k+1:=by
 intro k
 induction k with
 |zero=>intro n h;rw[uv_lt (by omega)];simp
 | succ k ih=>
  intro n h
  by_cases h1:n<128
  ·rw[uv_lt h1];simp
  ·rw[uv_ge h1]
   have:n/128<128^(k+1):=Nat.div_lt_of_lt_mul (by rw[Nat.pow_succ]at h;omega)
   have:=ih _ this
   simp only[List.length_cons];omega
theorem qx{n:Nat}(h:n<18446744073709551616):(uv n).length<=10:=uv_len 9 n (Nat.lt_of_lt_of_le h (by decide))
def gU:List Int->Nat->Nat->Nat->Nat×Nat×Int
 |[],_,_,u=>(0,u,3)
 |c::r,s,n,u=>
  if(s=63/\1<c)\/(0<s/\c=0)then(0,u+1,4)
  else if c<128 then(n+c.toNat*2^s,u+1,0)
  else gU r (s+7) (n+(c.toNat-128)*2^s) (u+1)
theorem gU_uv:∀(k m:Nat) (rest:List Int) (s n u:Nat),s=7*k->k<=9->m*2^s<18446744073709551616->(0<s->m≠0)->
  gU (uv m++rest) s n u=(n+m*2^s,u+(uv m).length,0):=by
 intro k m
 induction m using Nat.strongRecOn generalizing k with
 | _ m ih=>
  intro rest s n u hs hk hm hz
  have h63:s=63->m<2:=by
   intro e;rw[e]at hm
   have:(2:Nat)^63=9223372036854775808:=rfl
   rw[this]at hm;omega
  by_cases h:m<128
  ·rw[uv_lt h]
   simp only[List.cons_append,List.nil_append]
   unfold gU
   rw[if_neg (by
    rintro(⟨h1,h2⟩|⟨h1,h2⟩)
    ·have:=h63 h1;omega
    ·have:=hz h1;omega),if_pos (by omega)]
   simp
  ·rw[uv_ge h]
   have hk9:k<9:=by
    rcases Nat.lt_or_ge k 9 with h1|h1
    ·exact h1
    ·have:=h63 (by omega);omega
   simp only[List.cons_append]
   unfold gU
   rw[if_neg (by
    rintro(⟨h1,h2⟩|⟨h1,h2⟩)
    ·omega
    ·omega),if_neg (by omega)]
   have hpow:2^(s+7)=128*2^s:=by rw[Nat.pow_add];omega
   have hle:m/128*2^(s+7)<=m*2^s:=by
    rw[hpow,<-Nat.mul_assoc]
    exact Nat.mul_le_mul_right _ (by omega)
   rw[ih (m/128) (by omega) (k+1) rest (s+7) _ _ (by omega) (by omega) (by omega) (by intro _;omega)]
   have e1:(((m%128+128:Nat):Int).toNat-128)=m%128:=by omega
   rw[e1,hpow]
   have e2:n+m%128*2^s+m/128*(128*2^s)=n+m*2^s:=by
    have:m/128*(128*2^s)=(128*(m/128))*2^s:=by rw[Nat.mul_comm 128 (m/128),Nat.mul_assoc]
    rw[this,Nat.add_assoc,<-Nat.add_mul]
    have:m%128+128*(m/128)=m:=by omega
    rw[this]
   rw[e2]
   simp only[List.length_cons]
   have e3:u+1+(uv (m/128)).length=u+((uv (m/128)).length+1):=by omega
   rw[e3]
theorem gU_ok:∀(r:List Int) (k s n u:Nat),(∀c∈r,0<=c/\c<256)->s=7*k->k<=9->(gU r s n u).2.2=0->
  ∃m,(gU r s n u).1=n+m*2^s/\(gU r s n u).2.1=u+(uv m).length/\r=uv m++r.drop (uv m).length/\(0<s->m≠0)/\m*2^s<18446744073709551616:=by
 intro r
 induction r with
 |nil=>intro k s n u hr hs hk h;simp[gU]at h
 | cons c r ih=>
  intro k s n u hr hs hk h
  have hc:=hr c (by simp)
  unfold gU at h⊢
  split at h
  ·simp at h
  ·rename_i h1
   rw[if_neg h1]
   split at h
   ·rename_i h2
    rw[if_pos h2]
    have hu:uv c.toNat=[c]:=by
     rw[uv_lt (by omega)]
     have:((c.toNat:Nat):Int)=c:=by omega
     rw[this]
    refine⟨c.toNat,rfl,by rw[hu];rfl,by rw[hu];rfl,fun h3 h4=>h1 (.inr ⟨h3,by omega⟩),?_⟩
    by_cases h63:s=63
    ·have:¬(1<c):=fun h3=>h1 (.inl ⟨h63,h3⟩)
     have e:(2:Nat)^63=9223372036854775808:=rfl
     rw[h63,e];omega
    ·have hs56:s<=56:=by omega
     have:2^s<=2^56:=Nat.pow_le_pow_right (by decide) hs56
     have e:(2:Nat)^56=72057594037927936:=rfl
     rw[e]at this
     have:c.toNat*2^s<=127*72057594037927936:=Nat.mul_le_mul (by omega) this
     omega
   ·rename_i h2
    rw[if_neg h2]
    have hk9:k<9:=by
     rcases Nat.lt_or_ge k 9 with h3|h3
     ·exact h3
     ·exact absurd (.inl ⟨by omega,by omega⟩) h1
    obtain⟨m,m1,m2,m3,m4,m5⟩:=ih (k+1) (s+7) (n+(c.toNat-128)*2^s) (u+1) (fun x hx=>hr x (by simp[hx])) (by omega) (by omega) h
    have hm0:=m4 (by omega)
    have hq:(c.toNat-128+128*m)/128=m:=by omega
    have hrm:(c.toNat-128+128*m)%128=c.toNat-128:=by omega
    have hu:uv (c.toNat-128+128*m)=c::uv m:=by
     rw[uv_ge (by omega),hq,hrm]
     have:((c.toNat-128+128:Nat):Int)=c:=by omega
     rw[this]
    have hpow:2^(s+7)=128*2^s:=by rw[Nat.pow_add];omega
    have e2:(c.toNat-128)*2^s+m*(128*2^s)=(c.toNat-128+128*m)*2^s:=by
     have:m*(128*2^s)=(128*m)*2^s:=by rw[Nat.mul_comm 128 m,Nat.mul_assoc]
     rw[this,<-Nat.add_mul]
    refine⟨c.toNat-128+128*m,?_,?_,?_,fun _ h4=>by omega,?_⟩
    ·rw[m1,hpow,Nat.add_assoc,e2]
    ·rw[m2,hu];simp only[List.length_cons];omega
    ·rw[hu];simp only[List.length_cons,List.drop_succ_cons,List.cons_append]
     congr 1
    ·by_cases h56:s<=49
     ·rw[<-e2,<-hpow]
      have h7:2^s<=2^49:=Nat.pow_le_pow_right (by decide) h56
      have e:(2:Nat)^49=562949953421312:=rfl
      rw[e]at h7
      have:(c.toNat-128)*2^s<=127*562949953421312:=Nat.mul_le_mul (by omega) h7
      have hd:m*2^(s+7)+2^(s+7)<=18446744073709551616:=by
       have hdv:2^(s+7)∣18446744073709551616:=by
        have:(18446744073709551616:Nat)=2^64:=rfl
        rw[this];exact Nat.pow_dvd_pow 2 (by omega)
       obtain⟨q,hq'⟩:=hdv
       have hlt:m<q:=by
        have:m*2^(s+7)<q*2^(s+7):=by rw[Nat.mul_comm q,<-hq'];exact m5
        exact Nat.lt_of_mul_lt_mul_right this
       have:(m+1)*2^(s+7)<=q*2^(s+7):=Nat.mul_le_mul_right _ hlt
       rw[Nat.add_mul,Nat.one_mul,Nat.mul_comm q,<-hq']at this
       exact this
      have hlt7:(c.toNat-128)*2^s<2^(s+7):=by
       rw[hpow]
       exact Nat.mul_lt_mul_of_pos_right (by omega) (Nat.two_pow_pos s)
      omega
     ·have hs56:s=56:=by omega
      rw[hs56]at m5⊢
      have e:(2:Nat)^(56+7)=9223372036854775808:=rfl
      have e':(2:Nat)^56=72057594037927936:=rfl
      rw[e]at m5
      rw[e']
      have hm1:m=1:=by omega
      have hb:c.toNat-128+128*m<=255:=by rw[hm1];omega
      exact Nat.lt_of_le_of_lt (Nat.mul_le_mul_right _ hb) (by decide)
def zz(n:Int):Nat:=if n<0 then((-(n+1))*2+1).toNat else(n*2).toNat
def unzz(u:Nat):Int:=if u%2=0 then(u/2:Nat)else -((u/2:Nat):Int)-1
theorem unzz_zz(n:Int):unzz (zz n)=n:=by
 unfold zz unzz
 by_cases h:n<0
 ·rw[if_pos h]
  have:((-(n+1))*2+1).toNat%2=1:=by omega
  rw[if_neg (by omega)]
  omega
 ·rw[if_neg h]
  rw[if_pos (by omega)]
  omega
theorem zz_lt{n:Int}(h1:-9223372036854775808<=n)(h2:n<9223372036854775808):zz n<18446744073709551616:=by
 unfold zz;split<;>omega
end Go.Proofs.YtchmioacjkbfcaaGreat.AI
namespace Go.Proofs.YtchmioacjkbfcaaGreat.AI
open Go
set_option linter.unusedVariables false
set_option linter.unusedSimpArgs false
set_option maxRecDepth 100000
set_option maxHeartbeats 0
def nz(l:List Nat):List Int:=l.map fun(n:Nat)=>(n:Int)
@[simp] theorem nz_len (l : List Nat) : (nz l).length = l.length := by simp [nz]
def gapsF(p:Nat):List Nat->List Nat
 |[]=>[]
 |x::r=>(x-p-1)::gapsF x r
def gaps:List Nat->List Nat
 |[]=>[]
 |x::r=>x::gapsF x r
def zb:List Nat->Prop
 |[]=>True
 |[_]=>True
 |x::y::r=>x<y/\zb (y::r)
def xe(k:Nat):List Nat->Nat->Nat×Bool
 |[],n=>(n,true)
 |g::r,n=>if 4096<g/2^k then(0,false)else xe k r (n+(g/2^k+1+k))
def parG(gs:List Nat):Nat->Nat->Nat->Int->Nat
 |0,_,b,_=>b
 |f+1,k,b,m=>if(xe k gs 0).2=true/\(m<0\/((xe k gs 0).1:Int)<m)then parG gs f (k+1) k (xe k gs 0).1 else parG gs f (k+1) b m
def parR(gs:List Nat):Nat:=parG gs 64 0 63 (-1)
def jR(k:Nat):List Nat->List Bool
 |[]=>[]
 |g::r=>una (g/2^k)++nbs g k++jR k r
def ricB(gs:List Nat):List Bool:=jR (parR gs) gs
def ricY(l:List Nat):List Int:=uv l.length++[(parR (gaps l):Int)]++uv (pk (ricB (gaps l))).length++pk (ricB (gaps l))
@[simp] theorem gapsF_len (p : Nat) (l : List Nat) : (gapsF p l).length = l.length := by
 induction l generalizing p with
 |nil=>rfl
 |cons x r ih=>simp[gapsF,ih]
@[simp] theorem gaps_len (l : List Nat) : (gaps l).length = l.length := by cases l <;> simp [gaps]
theorem gapsF_lt(l:List Nat)(p B:Nat)(h:∀x∈l,x<B):∀g∈gapsF p l,g<B:=by
 induction l generalizing p with
 |nil=>intro g hg;cases hg
 |cons x r ih=>
  intro g hg
  rcases List.mem_cons.mp hg with e|e
  ·have:=h x (by simp);omega
  ·exact ih x (fun y hy=>h y (by simp[hy])) g e
theorem gaps_lt{l:List Nat}{B:Nat}(h:∀x∈l,x<B):∀g∈gaps l,g<B:=by
 cases l with
 |nil=>intro g hg;cases hg
 |cons x r=>
  intro g hg
  rcases List.mem_cons.mp hg with e|e
  ·rw[e];exact h x (by simp)
  ·exact gapsF_lt r x B (fun y hy=>h y (by simp[hy])) g e
theorem gapsF_get:∀(l:List Nat) (p i:Nat),i<l.length->(gapsF p l)[i]?=some (l.getD i 0-(p::l).getD i 0-1):=by
 intro l
 induction l with
 |nil=>intro p i h;cases h
 | cons x r ih=>
  intro p i h
  cases i with
  |zero=>rfl
  |succ i=>
   have:=ih x i (by simpa using h)
   simpa[gapsF]using this
theorem gaps_get(l:List Nat)(i:Nat)(h:i<l.length):(gaps l)[i]?=some (if i=0 then l.getD 0 0 else l.getD i 0-l.getD (i-1) 0-1):=by
 cases l with
 |nil=>cases h
 | cons x r=>
  cases i with
  |zero=>rfl
  |succ i=>
   have:=gapsF_get r x i (by simpa using h)
   simpa[gaps]using this
theorem xG:∀(l:List Nat),zb l->∀i,i+1<l.length->l.getD i 0<l.getD (i+1) 0:=by
 intro l
 induction l with
 |nil=>intro _ i h;simp at h
 | cons x r ih=>
  intro hr i h
  cases r with
  |nil=>simp at h
  |cons y r=>
   cases i with
   |zero=>exact hr.1
   |succ i=>exact ih hr.2 i (by simpa using h)
theorem costG_ok(k:Nat):∀(gs:List Nat) (n:Nat),(xe k gs n).2=true->∀g∈gs,g/2^k<=4096:=by
 intro gs
 induction gs with
 |nil=>intro n _ g hg;cases hg
 | cons x r ih=>
  intro n h g hg
  unfold xe at h
  split at h
  ·cases h
  ·rcases List.mem_cons.mp hg with e|e
   ·subst e;omega
   ·exact ih _ h g e
theorem parG_ok(gs:List Nat):∀(f k b:Nat) (m:Int),k+f=64->b<=63->(∀g∈gs,g/2^b<=4096)->parG gs f k b m<=63/\∀g∈gs,g/2^(parG gs f k b m)<=4096:=by
 intro f
 induction f with
 |zero=>intro k b m _ h1 h2;exact⟨h1,h2⟩
 | succ f ih=>
  intro k b m hk h1 h2
  unfold parG
  split
  ·rename_i h
   exact ih (k+1) k _ (by omega) (by omega) (costG_ok k gs 0 h.1)
  ·exact ih (k+1) b m (by omega) h1 h2
theorem parR_ok{gs:List Nat}(h:∀g∈gs,g<18446744073709551616):parR gs<=63/\∀g∈gs,g/2^parR gs<=4096:=by
 refine parG_ok gs 64 0 63 (-1) rfl (Nat.le_refl _) (fun g hg=>?_)
 have:=h g hg
 have e:(2:Nat)^63=9223372036854775808:=by decide
 rw[e]
 omega
theorem rbits_len(k:Nat)(hk:k<=63):∀(gs:List Nat),(∀g∈gs,g/2^k<=4096)->(jR k gs).length<=gs.length*4160:=by
 intro gs
 induction gs with
 |nil=>intro _;exact Nat.zero_le _
 |cons x r ih=>
  intro h
  have h1:=ih (fun g hg=>h g (by simp[hg]))
  have h2:=h x (by simp)
  simp[jR]
  omega
theorem pk_at(l:List Bool)(i:Nat):zZ (pk l) i=l.getD i false:=by
 by_cases h:i<l.length
 ·exact bitAt_pk l i h
 ·rw[bitAt_pk_end l i (by omega),List.getD_eq_getElem?_getD,List.getElem?_eq_none (by omega)]
  rfl
def Ss(l m:List Bool):Prop:=∀i,l.getD i false=m.getD i false
theorem Ss.pk{l m:List Bool}(h:pk l=pk m):Ss l m:=fun i=>by rw[<-pk_at,<-pk_at,h]
theorem Ss.tail{a b:Bool}{l m:List Bool}(h:Ss (a::l) (b::m)):a=b/\Ss l m:=⟨h 0,fun i=>h (i+1)⟩
theorem Ss.una:∀(q q':Nat) (l m:List Bool),Ss (una q++l) (una q'++m)->q=q'/\Ss l m:=by
 intro q
 induction q with
 |zero=>
  intro q' l m h
  cases q' with
  |zero=>exact⟨rfl,(Ss.tail h).2⟩
  |succ q'=>exact absurd (Ss.tail h).1 (by decide)
 | succ q ih=>
  intro q' l m h
  cases q' with
  |zero=>exact absurd (Ss.tail h).1 (by decide)
  |succ q'=>
   have:=ih q' l m (Ss.tail h).2
   exact⟨by omega,this.2⟩
theorem Ss.app:∀(a b l m:List Bool),a.length=b.length->Ss (a++l) (b++m)->a=b/\Ss l m:=by
 intro a
 induction a with
 |nil=>
  intro b l m e h
  cases b with
  |nil=>exact⟨rfl,h⟩
  |cons y s=>cases e
 | cons x r ih=>
  intro b l m e h
  cases b with
  |nil=>cases e
  |cons y s=>
   have t:=Ss.tail h
   have i:=ih s l m (by simpa using e) t.2
   exact⟨by rw[t.1,i.1],i.2⟩
def see(cs:List Nat)(x:Nat):List Nat:=if(cs.set x (cs.getD x 0+24)).sum<=4096 then cs.set x (cs.getD x 0+24)else(cs.set x (cs.getD x 0+24)).map fun n=>(n+1)/2
def okM(cs:List Nat):Prop:=cs.length=64/\cs.sum<=4096/\∀n∈cs,1<=n
theorem sum_set:∀(cs:List Nat) (x v:Nat),x<cs.length->(cs.set x v).sum+cs.getD x 0=cs.sum+v:=by
 intro cs
 induction cs with
 |nil=>intro x v h;cases h
 | cons c r ih=>
  intro x v h
  cases x with
  |zero=>simp;omega
  |succ x=>
   have:=ih x v (by simpa using h)
   simp only[List.set_cons_succ,List.sum_cons,List.getD_cons_succ]
   omega
theorem sum_half:∀(cs:List Nat),2*(cs.map fun n=>(n+1)/2).sum<=cs.sum+cs.length:=by
 intro cs
 induction cs with
 |nil=>exact Nat.le_refl _
 |cons c r ih=>simp only[List.map_cons,List.sum_cons,List.length_cons];omega
theorem see_ok{cs:List Nat}{x:Nat}(h:okM cs)(hx:x<64):okM (see cs x):=by
 obtain⟨h1,h2,h3⟩:=h
 have hs:=sum_set cs x (cs.getD x 0+24) (by omega)
 have hpos:∀n∈cs.set x (cs.getD x 0+24),1<=n:=by
  intro n hn
  rcases List.mem_or_eq_of_mem_set hn with e|e
  ·exact h3 n e
  ·omega
 unfold see
 split
 ·rename_i hle
  exact⟨by simp[h1],hle,hpos⟩
 ·have hh:=sum_half (cs.set x (cs.getD x 0+24))
  rw[List.length_set,h1]at hh
  refine⟨by simp[h1],by omega,fun n hn=>?_⟩
  obtain⟨m,hm,rfl⟩:=List.mem_map.mp hn
  have:=hpos m hm
  omega
theorem qP:∀(cs:List Nat) (x:Nat),x<cs.length->(cs.take (x+1)).sum=(cs.take x).sum+cs.getD x 0:=by
 intro cs
 induction cs with
 |nil=>intro x h;cases h
 | cons c r ih=>
  intro x h
  cases x with
  |zero=>simp
  |succ x=>
   have:=ih x (by simpa using h)
   simp only[List.take_succ_cons,List.sum_cons,List.getD_cons_succ]
   omega
theorem sum_take_le:∀(cs:List Nat) (x y:Nat),x<=y->(cs.take x).sum<=(cs.take y).sum:=by
 intro cs
 induction cs with
 |nil=>intro x y _;simp
 | cons c r ih=>
  intro x y h
  cases x with
  |zero=>simp
  | succ x=>
   cases y with
   |zero=>omega
   |succ y=>
    have:=ih x y (by omega)
    simp only[List.take_succ_cons,List.sum_cons]
    omega
theorem qS(cs:List Nat)(x:Nat):(cs.take x).sum<=cs.sum:=by
 by_cases h:x<=cs.length
 ·have:=sum_take_le cs x cs.length h
  rwa [List.take_length]at this
 ·rw[List.take_of_length_le (by omega)];exact Nat.le_refl _
structure En where
 low:Nat
 width:Nat
 held:Nat
 last:Nat
 begun:Bool
 out:List Int
def sh(s:En):En:=
 if s.low<4278190080\/4294967296<=s.low then
  ⟨s.low%16777216*256,s.width,0,s.low/16777216%256,true,s.out++(if s.begun then [(((s.last+s.low/4294967296%256)%256:Nat):Int)]else [])++List.replicate s.held (((255+s.low/4294967296%256)%256:Nat):Int)⟩
 else⟨s.low%16777216*256,s.width,s.held+1,s.last,s.begun,s.out⟩
def wid(s:En)(w:Nat):En:=⟨s.low,w,s.held,s.last,s.begun,s.out⟩
def norm:Nat->En->En
 |0,s=>s
 |f+1,s=>if s.width<16777216 then norm f (sh (wid s (s.width*256)))else s
def nar(s:En)(cs:List Nat)(x:Nat):En:=⟨s.low+s.width/cs.sum*(cs.take x).sum,s.width/cs.sum*cs.getD x 0,s.held,s.last,s.begun,s.out⟩
def enc:List Nat->En->List Nat->En
 |_,s,[]=>s
 |cs,s,x::r=>enc (see cs x) (norm 4 (nar s cs x)) r
def en0:En:=⟨0,4294967295,0,0,false,[]⟩
def cs0:List Nat:=List.replicate 64 1
def cod(l:List Nat):List Int:=(sh (sh (sh (sh (sh (enc cs0 en0 l)))))).out
def bnum(l:List Int):Nat:=l.foldl (fun a b=>a*256+b.toNat) 0
theorem jc(l:List Int)(b:Int):bnum (l++[b])=bnum l*256+b.toNat:=by simp[bnum,List.foldl_append]
theorem bnum_zeros(l:List Int):∀h,bnum (l++List.replicate h 0)=bnum l*256^h:=by
 intro h
 induction h with
 |zero=>simp
 |succ h ih=>
  rw[List.replicate_succ',<-List.append_assoc,jc,ih,Nat.pow_succ,Nat.mul_assoc]
  simp
theorem bnum_full(l:List Int):∀h,bnum (l++List.replicate h 255)+1=(bnum l+1)*256^h:=by
 intro h
 induction h with
 |zero=>simp
 |succ h ih=>
  rw[List.replicate_succ',<-List.append_assoc,jc,Nat.pow_succ,<-Nat.mul_assoc,<-ih]
  have e:(255:Int).toNat=255:=rfl
  rw[e]
  omega
def bl(s:En):List Int:=s.out++(if s.begun then [(s.last:Int)]else [])++List.replicate s.held 255
def eV(s:En):Nat:=bnum (bl s)*4294967296+s.low
def eK(s:En):Nat:=s.out.length+s.begun.toNat+s.held
theorem bl_len(s:En):(bl s).length=eK s:=by
 unfold bl eK
 cases s.begun<;>simp<;>omega
def okE(s:En)(w:Nat):Prop:=s.low+w<=8589934592/\s.last<256/\0<w/\((s.begun=false\/s.last=255)->s.low+w<=4294967296)
theorem okE_le{s:En}{w v:Nat}(h:okE s w)(h1:v<=w)(h2:0<v):okE s v:=
 ⟨by have:=h.1;omega,h.2.1,h2,fun q=>by have:=h.2.2.2 q;omega⟩
theorem sh_ok(s:En)(w:Nat)(h:okE s w)(hw:w<=16777216):okE (sh s) (w*256)/\eV (sh s)=eV s*256/\eK (sh s)=eK s+1/\(sh s).width=s.width:=by
 obtain⟨h1,h2,h3,h4⟩:=h
 by_cases hA:s.low<4278190080
 ·have e:sh s=⟨s.low%16777216*256,s.width,0,s.low/16777216%256,true,bl s⟩:=by
   unfold sh
   rw[if_pos (.inl hA)]
   have c0:s.low/4294967296%256=0:=by omega
   have c1:(s.last+0)%256=s.last:=by omega
   unfold bl
   rw[c0,c1]
   rfl
  rw[e]
  refine⟨⟨by show s.low%16777216*256+w*256<=_;omega,by show s.low/16777216%256<_;omega,by omega,fun q=>?_⟩,?_,?_,rfl⟩
  ·rcases q with q|q
   ·cases q
   ·have q:s.low/16777216%256=255:=q
    omega
  ·show bnum (bl s++[((s.low/16777216%256:Nat):Int)]++[])*4294967296+s.low%16777216*256=(bnum (bl s)*4294967296+s.low)*256
   rw[List.append_nil,jc,Int.toNat_natCast]
   omega
  ·show(bl s).length+1+0=eK s+1
   rw[bl_len]
 ·by_cases hB:4294967296<=s.low
  ·have hb:s.begun=true:=by
    cases hq:s.begun
    ·have:=h4 (.inl hq);omega
    ·rfl
   have hl:s.last<=254:=by
    by_cases q:s.last=255
    ·have:=h4 (.inr q);omega
    ·omega
   have e:sh s=⟨s.low%16777216*256,s.width,0,s.low/16777216%256,true,s.out++[((s.last+1:Nat):Int)]++List.replicate s.held 0⟩:=by
    unfold sh
    rw[if_pos (.inr hB),hb,if_pos rfl]
    have c0:s.low/4294967296%256=1:=by omega
    have c1:(s.last+1)%256=s.last+1:=by omega
    rw[c0,c1]
    rfl
   have eb:bl s=s.out++[(s.last:Int)]++List.replicate s.held 255:=by unfold bl;rw[hb,if_pos rfl]
   have n1:bnum (s.out++[((s.last+1:Nat):Int)]++List.replicate s.held 0)=bnum (bl s)+1:=by
    have f:=bnum_full (s.out++[(s.last:Int)]) s.held
    rw[eb,f,bnum_zeros,jc,jc,Int.toNat_natCast,Int.toNat_natCast,Nat.add_assoc]
   rw[e]
   refine⟨⟨by show s.low%16777216*256+w*256<=_;omega,by show s.low/16777216%256<_;omega,by omega,fun q=>?_⟩,?_,?_,rfl⟩
   ·rcases q with q|q
    ·cases q
    ·have q:s.low/16777216%256=255:=q
     show s.low%16777216*256+w*256<=_
     omega
   ·show bnum (s.out++[((s.last+1:Nat):Int)]++List.replicate s.held 0++[((s.low/16777216%256:Nat):Int)]++[])*4294967296+s.low%16777216*256=(bnum (bl s)*4294967296+s.low)*256
    rw[List.append_nil,jc,Int.toNat_natCast,n1]
    omega
   ·show(s.out++[((s.last+1:Nat):Int)]++List.replicate s.held 0).length+1+0=eK s+1
    unfold eK
    rw[hb]
    simp
    omega
  ·have e:sh s=⟨s.low%16777216*256,s.width,s.held+1,s.last,s.begun,s.out⟩:=by
    unfold sh
    rw[if_neg (by omega)]
   rw[e]
   refine⟨⟨by show s.low%16777216*256+w*256<=_;omega,h2,by omega,fun q=>?_⟩,?_,?_,rfl⟩
   ·have:=h4 q
    show s.low%16777216*256+w*256<=_
    omega
   ·show bnum (s.out++(if s.begun then [(s.last:Int)]else [])++List.replicate (s.held+1) 255)*4294967296+s.low%16777216*256=(bnum (bl s)*4294967296+s.low)*256
    have n1:bnum (s.out++(if s.begun then [(s.last:Int)]else [])++List.replicate (s.held+1) 255)=bnum (bl s)*256+255:=by
     rw[List.replicate_succ',<-List.append_assoc,jc]
     rfl
    rw[n1]
    omega
   ·show s.out.length+s.begun.toNat+(s.held+1)=eK s+1
    unfold eK
    omega
theorem eV_wid(s:En)(w:Nat):eV (wid s w)=eV s/\eK (wid s w)=eK s:=⟨rfl,rfl⟩
theorem norm_ok:∀(f:Nat) (s:En),okE s s.width->s.width<=4294967296->4294967296<=s.width*256^f*256->∃d,eV (norm f s)=eV s*256^d/\(norm f s).width=s.width*256^d/\eK (norm f s)=eK s+d/\okE (norm f s) (norm f s).width/\
  16777216<=(norm f s).width/\(norm f s).width<=4294967296:=by
 intro f
 induction f with
 |zero=>
  intro s h hw hf
  exact⟨0,by simp[norm],by simp[norm],rfl,h,by show 16777216<=s.width;simp at hf;omega,hw⟩
 | succ f ih=>
  intro s h hw hf
  unfold norm
  by_cases hl:s.width<16777216
  ·rw[if_pos hl]
   have h':okE (wid s (s.width*256)) s.width:=h
   obtain⟨a1,a2,a3,a4⟩:=sh_ok (wid s (s.width*256)) s.width h' (by omega)
   have a4:(sh (wid s (s.width*256))).width=s.width*256:=a4
   have hf2:4294967296<=s.width*256*256^f*256:=by
    rw[Nat.pow_succ]at hf
    have e:s.width*(256^f*256)*256=s.width*256*256^f*256:=by
     rw[Nat.mul_assoc s.width 256,Nat.mul_comm 256 (256^f)]
    rwa [e]at hf
   obtain⟨d,b1,b2,b3,b4,b5,b6⟩:=ih (sh (wid s (s.width*256))) (by rw[a4];exact a1) (by rw[a4];omega) (by rw[a4];exact hf2)
   refine⟨d+1,?_,?_,?_,b4,b5,b6⟩
   ·rw[b1,a2,(eV_wid s _).1,Nat.pow_succ,Nat.mul_assoc,Nat.mul_comm 256]
   ·rw[b2,a4,Nat.pow_succ,Nat.mul_assoc,Nat.mul_comm 256]
   ·rw[b3,a3,(eV_wid s _).2];omega
  ·rw[if_neg hl]
   exact⟨0,by simp,by simp,rfl,h,by omega,hw⟩
theorem add_ok(s:En)(cs:List Nat)(x:Nat)(hm:okM cs)(hx:x<64)(h:okE s s.width)(hw:16777216<=s.width/\s.width<=4294967296):
    ∃ d,eV (norm 4 (nar s cs x))=(eV s+s.width/cs.sum*(cs.take x).sum)*256^d/\(norm 4 (nar s cs x)).width=s.width/cs.sum*cs.getD x 0*256^d/\eK (norm 4 (nar s cs x))=eK s+d/\
      okE (norm 4 (nar s cs x)) (norm 4 (nar s cs x)).width/\16777216<=(norm 4 (nar s cs x)).width/\(norm 4 (nar s cs x)).width<=4294967296/\0<s.width/cs.sum*cs.getD x 0:=by
  obtain⟨m1,m2,m3⟩:=hm
  have hn:1<=cs.getD x 0:=by
    rw[List.getD_eq_getElem?_getD,List.getElem?_eq_getElem (by omega)]
    exact m3 _ (List.getElem_mem _)
  have ht:=qP cs x (by omega)
  have hta:=qS cs (x+1)
  have hpart:4096<=s.width/cs.sum:=by
    rw[Nat.le_div_iff_mul_le (by omega)]
    have:4096*cs.sum<=4096*4096:=Nat.mul_le_mul_left _ m2
    omega
  have hmul:s.width/cs.sum*cs.sum<=s.width:=Nat.div_mul_le_self _ _
  have hsum:s.width/cs.sum*(cs.take x).sum+s.width/cs.sum*cs.getD x 0<=s.width:=by
    rw[<-Nat.mul_add,<-ht]
    exact Nat.le_trans (Nat.mul_le_mul_left _ hta) hmul
  have hge:s.width/cs.sum*1<=s.width/cs.sum*cs.getD x 0:=Nat.mul_le_mul_left _ hn
  obtain⟨h1,h2,h3,h4⟩:=h
  have ok:okE (nar s cs x) (nar s cs x).width:=by
    refine⟨?_,h2,?_,fun q=>?_⟩
    ·show s.low+s.width/cs.sum*(cs.take x).sum+s.width/cs.sum*cs.getD x 0<=_;omega
    ·show 0<s.width/cs.sum*cs.getD x 0;omega
    · have:=h4 q
      show s.low+s.width/cs.sum*(cs.take x).sum+s.width/cs.sum*cs.getD x 0<=_;omega
  obtain⟨d,b1,b2,b3,b4,b5,b6⟩:=norm_ok 4 (nar s cs x) ok (by show s.width/cs.sum*cs.getD x 0<=_;omega) (by
    show 4294967296<=s.width/cs.sum*cs.getD x 0*256^4*256
    have e:(256:Nat)^4=4294967296:=by decide
    rw[e]
    omega)
  have ev:eV (nar s cs x)=eV s+s.width/cs.sum*(cs.take x).sum:=by
    show bnum (bl s)*4294967296+(s.low+_)=bnum (bl s)*4294967296+s.low+_
    omega
  exact⟨d,by rw[b1,ev],b2,b3,b4,b5,b6,by omega⟩
theorem enc_in:∀(l cs:List Nat) (s:En),okM cs->(∀x∈l,x<64)->okE s s.width->16777216<=s.width/\s.width<=4294967296->
  ∃d,eK (enc cs s l)=eK s+d/\eV s*256^d<=eV (enc cs s l)/\eV (enc cs s l)+(enc cs s l).width<=(eV s+s.width)*256^d/\okE (enc cs s l) (enc cs s l).width/\0<(enc cs s l).width:=by
 intro l
 induction l with
 |nil=>intro cs s hm hl h hw;exact⟨0,rfl,by simp[enc],by simp[enc],h,by show 0<s.width;omega⟩
 | cons x r ih=>
  intro cs s hm hl h hw
  obtain⟨d,a1,a2,a3,a4,a5,a6,a7⟩:=add_ok s cs x hm (hl x (by simp)) h hw
  obtain⟨d2,b1,b2,b3,b4,b5⟩:=ih (see cs x) (norm 4 (nar s cs x)) (see_ok hm (hl x (by simp))) (fun y hy=>hl y (by simp[hy])) a4 ⟨a5,a6⟩
  have e:enc cs s (x::r)=enc (see cs x) (norm 4 (nar s cs x)) r:=rfl
  rw[e]
  refine⟨d+d2,by rw[b1,a3];omega,?_,?_,b4,b5⟩
  ·refine Nat.le_trans ?_ b2
   rw[a1,Nat.pow_add,<-Nat.mul_assoc]
   exact Nat.mul_le_mul_right _ (Nat.mul_le_mul_right _ (Nat.le_add_right _ _))
  ·refine Nat.le_trans b3 ?_
   rw[a1,a2,<-Nat.add_mul,Nat.pow_add,<-Nat.mul_assoc]
   refine Nat.mul_le_mul_right _ (Nat.mul_le_mul_right _ ?_)
   have ht:=qP cs x (by have:=hm.1;have:=hl x (by simp);omega)
   have hta:=qS cs (x+1)
   have hmul:s.width/cs.sum*cs.sum<=s.width:=Nat.div_mul_le_self _ _
   have hsum:s.width/cs.sum*(cs.take x).sum+s.width/cs.sum*cs.getD x 0<=s.width:=by
    rw[<-Nat.mul_add,<-ht]
    exact Nat.le_trans (Nat.mul_le_mul_left _ hta) hmul
   omega
theorem okM0:okM cs0:=⟨by decide,by decide,fun n hn=>by rw[List.eq_of_mem_replicate hn];exact Nat.le_refl _⟩
theorem okE0:okE en0 en0.width:=⟨by decide,by decide,by decide,fun _=>by decide⟩
theorem cod_num(l:List Nat)(hl:∀x∈l,x<64):bnum (cod l)=eV (enc cs0 en0 l)/\(cod l).length=eK (enc cs0 en0 l)+4:=by
 obtain⟨d,_,_,_,h,hw⟩:=enc_in l cs0 en0 okM0 hl okE0 ⟨by decide,by decide⟩
 unfold cod
 generalize enc cs0 en0 l=s at*
 have s1:=sh_ok s 1 (okE_le h hw (by omega)) (by omega)
 have s2:=sh_ok (sh s) 1 (okE_le s1.1 (by omega) (by omega)) (by omega)
 have s3:=sh_ok (sh (sh s)) 1 (okE_le s2.1 (by omega) (by omega)) (by omega)
 have s4:=sh_ok (sh (sh (sh s))) 1 (okE_le s3.1 (by omega) (by omega)) (by omega)
 have lw:∀s:En,(sh s).low=s.low%16777216*256:=fun s=>by unfold sh;split<;>rfl
 have z:(sh (sh (sh (sh s)))).low=0:=by rw[lw,lw,lw,lw];omega
 have e:(sh (sh (sh (sh (sh s))))).out=bl (sh (sh (sh (sh s)))):=by
  have h2:=s4.1.2.1
  generalize sh (sh (sh (sh s)))=t at*
  unfold sh
  rw[if_pos (.inl (by omega)),z]
  have c1:(t.last+0/4294967296%256)%256=t.last:=by omega
  unfold bl
  rw[c1]
  rfl
 rw[e,bl_len,s4.2.2.1,s3.2.2.1,s2.2.2.1,s1.2.2.1]
 refine⟨?_,by omega⟩
 have v:eV (sh (sh (sh (sh s))))=bnum (bl (sh (sh (sh (sh s)))))*4294967296+0:=by rw[<-z];rfl
 rw[s4.2.1,s3.2.1,s2.2.1,s1.2.1]at v
 omega
noncomputable section
def B32_5(x0 x4 x11:AV)(v12 v13:Value)(hp:Hp):=gb 32 [cc 488 cd32,cc 489 cd32,cl 244 cd32,.inBlock 0,cc 31 cd32] [va 0 x0,va 4 x4,va 11 x11,vs 12 v12,vs 13 v13] [] hp
def B32_8(hp:Hp):=gb 32 [cc 125332 cd32,cc 53 cd32,cc 15667 cd32,.inBlock 1,cc 1959 cd32,cl 244 cd32,.inBlock 0,cc 31 cd32] [] [] hp
def B32_9(x0 x4:AV)(v6:Value)(x11:AV)(v12 v13:Value)(hp:Hp):=gb 32 [cc 62668 cd32,cc 62669 cd32,cc 31335 cd32,.inBlock 1,cc 1959 cd32,cl 244 cd32,.inBlock 0,cc 31 cd32] [va 0 x0,va 4 x4,vs 6 v6,va 11 x11,vs 12 v12,vs 13 v13] [] hp
def B32_11(x0 x4:AV)(v6:Value)(x11:AV)(v12 v13:Value)(hp:Hp):=gb 32 [cc 250678 cd32,cc 31335 cd32,.inBlock 1,cc 1959 cd32,cl 244 cd32,.inBlock 0,cc 31 cd32] [va 0 x0,va 4 x4,vs 6 v6,va 11 x11,vs 12 v12,vs 13 v13] [] hp
def B32_12(x0 x4:AV)(v6:Value)(x11:AV)(v12 v13:Value)(hp:Hp):=gb 32 [cc 31335 cd32,.inBlock 1,cc 1959 cd32,cl 244 cd32,.inBlock 0,cc 31 cd32] [va 0 x0,va 4 x4,vs 6 v6,va 11 x11,vs 12 v12,vs 13 v13] [] hp
theorem E32(a0:AV)(hp:Hp):run cxX 32 [a0] hp=ln (ro a0) fun y0=>iC .gtr 3 9 (kI y0) (kI 4096) (rQ (.tup [nl,.sc (kI 7)]) hp) (ln (ro a0) fun y3=>B32_5 a0 nl (ro a0) (kI y3) (kI 0) hp):=
 (eE 32 ss32 _ _).trans (by kernel_rfl)
theorem B32_5_eq(x0 x4 x11:AV)(v12 v13:Value)(hp:Hp):B32_5 x0 x4 x11 v12 v13 hp=iT .lss 3 13 12 v13 v12 (ixS x11 v13 fun y7=>iC .gtr 3 18 v13 (kI 0) (bC .sub 3 23 v13 (kI 1) fun y10=>ixS (ro x0) y10 fun y12=>iT .leq 30 21 26 y7 y12 (B32_8 hp) (B32_9 x0 x4 y7 x11 v12 v13 hp)) (B32_9 x0 x4 y7 x11 v12 v13 hp)) ((frz1 hp (ro x4)).bind fun y15=>rQ (.tup [y15.1,.sc (kI 0)]) y15.2):=
 (eB 32 ss32 _ _).trans (by kernel_rfl)
theorem B32_9_eq(x0 x4:AV)(v6:Value)(x11:AV)(v12 v13:Value)(hp:Hp):B32_9 x0 x4 v6 x11 v12 v13 hp=ln (ro x4) fun y16=>iC .eql 3 31 (kI y16) (kI 0) (B32_11 x0 x4 v6 x11 v12 v13 hp) (bC .sub 3 35 (kI y16) (kI 1) fun y19=>(qR (ro x4)).bind fun y20=>(idx y20.2.2.2.1 y19).bind fun y21=>(chkN y20.2.2.2.2 5).bind fun y22=>(Hp.rd hp y20.1 y20.2.1).bind fun y23=>(qe y23 (Nat.add y20.2.2.1 (Nat.add (Nat.add (Nat.add (Nat.add (Nat.add 0 y21) y21) y21) y21) y21))).bind fun y24=>bC .shr 30 40 v6 (kU 8) fun y25=>iT .neq 30 39 41 y24 y25 (B32_11 x0 x4 v6 x11 v12 v13 hp) (B32_12 x0 x4 v6 x11 v12 v13 hp)):=
 (eB 32 ss32 _ _).trans (by kernel_rfl)
theorem B32_11_eq(x0 x4:AV)(v6:Value)(x11:AV)(v12 v13:Value)(hp:Hp):B32_11 x0 x4 v6 x11 v12 v13 hp=bC .shr 30 45 v6 (kU 8) fun y28=>(okV [.sc y28,.sc (kU 0),.sc (kU 0),.sc (kU 0),.sc (kU 0)]).bind fun y29=>(appM 40 5 (ro x4) (AV.us 5 [.sc y28,.sc (kU 0),.sc (kU 0),.sc (kU 0),.sc (kU 0)]) hp).bind fun y30=>B32_12 x0 y30.1 v6 x11 v12 v13 y30.2:=
 (eB 32 ss32 _ _).trans (by kernel_rfl)
theorem B32_12_eq(x0 x4:AV)(v6:Value)(x11:AV)(v12 v13:Value)(hp:Hp):B32_12 x0 x4 v6 x11 v12 v13 hp=ln (ro x4) fun y31=>bC .sub 3 52 (kI y31) (kI 1) fun y32=>(qR (ro x4)).bind fun y33=>(idx y33.2.2.2.1 y32).bind fun y34=>(chkN y33.2.2.2.2 5).bind fun y35=>cV 30 5 v6 fun y36=>cT 80 [ro (AV.ptr y33.1 y33.2.1 (Nat.add y33.2.2.1 (Nat.add (Nat.add (Nat.add (Nat.add (Nat.add 0 y34) y34) y34) y34) y34))),.sc y36] hp fun h1=>bC .add 3 13 v13 (kI 1) fun y39=>B32_5 x0 x4 x11 v12 y39 h1:=
 (eB 32 ss32 _ _).trans (by kernel_rfl)
def B33_2(x1 x11:AV)(v12 v13:Value)(hp:Hp):=gb 33 [cc 56 cd33,cc 57 cd33,cl 28 cd33,.inBlock 0] [va 1 x1,va 11 x11,vs 12 v12,vs 13 v13] [] hp
theorem E33(a0 a1:AV)(hp:Hp):run cxX 33 [a0,a1] hp=ln (ro a0) fun y0=>cV 3 76 (kI y0) fun y1=>cT 25 [r2 a1,.sc y1] hp fun h1=>ln (ro a0) fun y4=>B33_2 a1 (ro a0) (kI y4) (kI 0) h1:=
 (eE 33 ss33 _ _).trans (by kernel_rfl)
theorem B33_2_eq(x1 x11:AV)(v12 v13:Value)(hp:Hp):B33_2 x1 x11 v12 v13 hp=iT .lss 3 13 12 v13 v12 ((idxA 5 x11 v13).bind fun y7=>(getN y7 0 5).bind fun y8=>(qg 5 (.agg (List.map ro1 y8))).bind fun y9=>(putN [.sc (kW 0),.sc (kU 0),.sc (kU 0),.sc (kU 0),.sc (kU 0)] 0 y9).bind fun y10=>(getN y10 0 5).bind fun y11=>cT 81 [ro (.agg (List.map ro1 y11)),r2 x1] hp fun h1=>bC .add 3 13 v13 (kI 1) fun y14=>B33_2 x1 x11 v12 y14 h1) (rQ (.tup []) hp):=
 (eB 33 ss33 _ _).trans (by kernel_rfl)
def B43_5(x0 x3:AV)(v4 v5 v6:Value)(hp:Hp):=gb 43 [cc 2000 cd43,cc 2001 cd43,cc 1001 cd43,cl 500 cd43,.inBlock 0,cc 63 cd43] [va 0 x0,va 3 x3,vs 4 v4,vs 5 v5,vs 6 v6] [] hp
def B43_7(x0 x3:AV)(v4 v5 v6:Value)(hp:Hp):=gb 43 [cc 8008 cd43,cc 8009 cd43,.inBlock 1,cc 2003 cd43,cl 500 cd43,.inBlock 0,cc 63 cd43] [va 0 x0,va 3 x3,vs 4 v4,vs 5 v5,vs 6 v6] [] hp
def B43_15(x0 x3:AV)(hp:Hp):=gb 43 [cc 252 cd43,cc 253 cd43,cc 127 cd43] [va 0 x0,va 3 x3] [] hp
def B43_10(x0 x3:AV)(v4 v5 v6:Value)(b7:List AV)(hp:Hp):=gb 43 [cc 128150 cd43,cc 16019 cd43,.inBlock 1,cc 2003 cd43,cl 500 cd43,.inBlock 0,cc 63 cd43] [va 0 x0,va 3 x3,vs 4 v4,vs 5 v5,vs 6 v6,(7,.lp 7 0 0)] [(7,0,b7)] hp
def B43_11(x0 x3:AV)(v4 v5 v6:Value)(b7:List AV)(hp:Hp):=gb 43 [cc 64076 cd43,cc 64077 cd43,cc 32039 cd43,.inBlock 1,cc 2003 cd43,cl 500 cd43,.inBlock 0,cc 63 cd43] [va 0 x0,va 3 x3,vs 4 v4,vs 5 v5,vs 6 v6,(7,.lp 7 0 0)] [(7,0,b7)] hp
def B43_14(x0 x3:AV)(v4 v5 v6:Value)(b7:List AV)(hp:Hp):=gb 43 [cc 32039 cd43,.inBlock 1,cc 2003 cd43,cl 500 cd43,.inBlock 0,cc 63 cd43] [va 0 x0,va 3 x3,vs 4 v4,vs 5 v5,vs 6 v6,(7,.lp 7 0 0)] [(7,0,b7)] hp
theorem E43(a0:AV)(hp:Hp):run cxX 43 [a0] hp=cS 45 [r2 a0,.sc (kU 4096)] hp fun y1 h1=>B43_5 a0 nl (kI 0) y1 (kU 0) h1:=
 (eE 43 ss43 _ _).trans (by kernel_rfl)
theorem B43_5_eq(x0 x3:AV)(v4 v5 v6:Value)(hp:Hp):B43_5 x0 x3 v4 v5 v6 hp=iT .lss 76 11 12 v6 v5 (cS 93 [r2 x0] hp fun y5 h1=>iC .eql 57 16 y5 (kI 0) (B43_7 x0 x3 v4 v5 v6 h1) (B43_15 x0 x3 h1)) (B43_15 x0 x3 hp):=
 (eB 43 ss43 _ _).trans (by kernel_rfl)
theorem B43_7_eq(x0 x3:AV)(v4 v5 v6:Value)(hp:Hp):B43_7 x0 x3 v4 v5 v6 hp=cA 94 [r2 x0] hp fun z1 h2=>(qg 5 z1).bind fun y10=>(putN [.sc (kW 0),.sc (kU 0),.sc (kU 0),.sc (kU 0),.sc (kU 0)] 0 y10).bind fun y11=>ln (ro x3) fun y12=>iC .gtr 3 25 (kI y12) (kI 0) (cS 93 [r2 x0] h2 fun y16 h3=>iC .eql 57 29 y16 (kI 0) ((qe y11 0).bind fun y19=>bC .sub 3 36 (kI y12) (kI 1) fun y20=>(idxA 5 (ro x3) y20).bind fun y21=>(qe y21 0).bind fun y22=>iT .leq 30 34 40 y19 y22 (B43_10 x0 x3 v4 v5 v6 y11 h3) (B43_11 x0 x3 v4 v5 v6 y11 h3)) (B43_11 x0 x3 v4 v5 v6 y11 h3)) (B43_11 x0 x3 v4 v5 v6 y11 h2):=
 (eB 43 ss43 _ _).trans (by kernel_rfl)
theorem B43_15_eq(x0 x3:AV)(hp:Hp):B43_15 x0 x3 hp=cS 93 [r2 x0] hp fun y26 h1=>iC .neq 57 58 y26 (kI 0) (rQ nl h1) (rQ x3 h1):=
 (eB 43 ss43 _ _).trans (by kernel_rfl)
theorem B43_11_eq(x0 x3:AV)(v4 v5 v6:Value)(b7:List AV)(hp:Hp):B43_11 x0 x3 v4 v5 v6 b7 hp=(getN b7 0 5).bind fun y31=>pS 96 [.agg (List.map ro1 y31)] fun y35=>bT .add 3 45 47 v4 y35 fun y36=>iC .gtr 3 49 y36 (kI 4096) (cT 95 [r2 x0,.sc (kI 7)] hp fun h1=>B43_14 x0 x3 y36 v5 v6 b7 h1) (B43_14 x0 x3 y36 v5 v6 b7 hp):=
 (eB 43 ss43 _ _).trans (by kernel_rfl)
theorem B43_14_eq(x0 x3:AV)(v4 v5 v6:Value)(b7:List AV)(hp:Hp):B43_14 x0 x3 v4 v5 v6 b7 hp=(getN b7 0 5).bind fun y41=>(qg 5 (.agg (List.map ro1 y41))).bind fun y42=>(putN [.sc (kW 0),.sc (kU 0),.sc (kU 0),.sc (kU 0),.sc (kU 0)] 0 y42).bind fun y43=>(okV y43).bind fun y44=>(appA 40 5 x3 (AV.us 5 (List.map ro1 y43))).bind fun y45=>bC .add 76 19 v6 (kU 1) fun y46=>B43_5 x0 y45 v4 v5 y46 hp:=
 (eB 43 ss43 _ _).trans (by kernel_rfl)
def B44_3(x3 x7:AV)(v8 v9:Value)(hp:Hp):=gb 44 [cc 232 cd44,cc 233 cd44,cl 116 cd44,.inBlock 0,cc 15 cd44] [va 3 x3,va 7 x7,vs 8 v8,vs 9 v9] [] hp
def B44_6(x3 x7:AV)(v8 v9 v13:Value)(b5:List AV)(hp:Hp):=gb 44 [cc 59800 cd44,cc 59801 cd44,cl 29900 cd44,.inBlock 2,.inBlock 1,cc 935 cd44,cl 116 cd44,.inBlock 0,cc 15 cd44] [va 3 x3,(5,.lp 5 0 0),va 7 x7,vs 8 v8,vs 9 v9,vs 13 v13] [(5,0,b5)] hp
def B44_10(x3 x7:AV)(v8 v9 v13:Value)(b5:List AV)(hp:Hp):=gb 44 [cc 239207 cd44,cl 29900 cd44,.inBlock 2,.inBlock 1,cc 935 cd44,cl 116 cd44,.inBlock 0,cc 15 cd44] [va 3 x3,(5,.lp 5 0 0),va 7 x7,vs 8 v8,vs 9 v9,vs 13 v13] [(5,0,b5)] hp
theorem E44(a0:AV)(hp:Hp):run cxX 44 [a0] hp=ln (ro a0) fun y0=>B44_3 nl (ro a0) (kI y0) (kI 0) hp:=
 (eE 44 ss44 _ _).trans (by kernel_rfl)
theorem B44_3_eq(x3 x7:AV)(v8 v9:Value)(hp:Hp):B44_3 x3 x7 v8 v9 hp=iT .lss 3 9 8 v9 v8 ((idxA 5 x7 v9).bind fun y3=>(getN y3 0 5).bind fun y4=>(qg 5 (.agg (List.map ro1 y4))).bind fun y5=>(putN [.sc (kW 0),.sc (kU 0),.sc (kU 0),.sc (kU 0),.sc (kU 0)] 0 y5).bind fun y6=>B44_6 x3 x7 v8 v9 (kI 0) y6 hp) (rQ x3 hp):=
 (eB 44 ss44 _ _).trans (by kernel_rfl)
theorem B44_6_eq(x3 x7:AV)(v8 v9 v13:Value)(b5:List AV)(hp:Hp):B44_6 x3 x7 v8 v9 v13 b5 hp=iC .lss 3 13 v13 (kI 256) ((getN b5 0 5).bind fun y9=>cV 3 5 v13 fun y10=>pS 97 [.agg (List.map ro1 y9),.sc y10] fun y14=>iB y14 ((qe b5 0).bind fun y16=>bC .shl 30 22 y16 (kU 8) fun y17=>cV 3 30 v13 fun y18=>bT .or 30 23 25 y17 y18 fun y19=>ap 4 x3 y19 fun y21=>B44_10 y21 x7 v8 v9 v13 b5 hp) (B44_10 x3 x7 v8 v9 v13 b5 hp)) (bC .add 3 9 v9 (kI 1) fun y22=>B44_3 x3 x7 v8 y22 hp):=
 (eB 44 ss44 _ _).trans (by kernel_rfl)
theorem B44_10_eq(x3 x7:AV)(v8 v9 v13:Value)(b5:List AV)(hp:Hp):B44_10 x3 x7 v8 v9 v13 b5 hp=bC .add 3 13 v13 (kI 1) fun y23=>B44_6 x3 x7 v8 v9 y23 b5 hp:=
 (eB 44 ss44 _ _).trans (by kernel_rfl)
theorem E80(a0 a1:AV)(hp:Hp):run cxX 80 [a0,a1] hp=aS a1 fun y0=>bC .shr 5 5 y0 (kU 6) fun y1=>(nnA (ro a0)).bind fun y2=>(qz (ro a0)).bind fun y3=>(idx 4 y1).bind fun y4=>(Hp.rd hp y3.1 y3.2.1).bind fun y5=>(qe y5 (Nat.add (Nat.succ y3.2.2) (Nat.add 0 y4))).bind fun y6=>bC .and 5 11 y0 (kB 63) fun y7=>bG .shl 76 (.const (kU 1)) (.tmp 12) (kU 1) y7 fun y8=>bT .or 76 10 13 y6 y8 fun y9=>(nnA (ro a0)).bind fun y10=>(qz (ro a0)).bind fun y11=>(idx 4 y1).bind fun y12=>(Hp.rd hp y11.1 y11.2.1).bind fun y13=>(putN y13 (Nat.add (Nat.succ y11.2.2) (Nat.add 0 y12)) [.sc y9]).bind fun y14=>rQ (.tup []) (Hp.put hp y11.1 y11.2.1 y14):=
 (eE 80 ss80 _ _).trans (by kernel_rfl)
def B81_17(x1:AV)(v64:Value)(b2:List AV)(hp:Hp):=gb 81 [cc 16216 cd81,cc 16217 cd81,cl 8108 cd81,.inBlock 5,.inBlock 0] [va 1 x1,(2,.lp 2 0 0),vs 64 v64] [(2,0,b2)] hp
def B81_24(x1:AV)(v78:Value)(b2:List AV)(hp:Hp):=gb 81 [cc 32488 cd81,cc 32489 cd81,cl 16244 cd81,.inBlock 7,.inBlock 0] [va 1 x1,(2,.lp 2 0 0),vs 78 v78] [(2,0,b2)] hp
def B81_7(x1:AV)(v7:Value)(b2:List AV)(hp:Hp):=gb 81 [cc 130032 cd81,cc 130033 cd81,cc 65017 cd81,cl 32508 cd81,.inBlock 1,.inBlock 0] [va 1 x1,(2,.lp 2 0 0),vs 7 v7] [(2,0,b2)] hp
def B81_21(x1:AV)(v64:Value)(b2:List AV)(hp:Hp):=gb 81 [cc 64871 cd81,cl 8108 cd81,.inBlock 5,.inBlock 0] [va 1 x1,(2,.lp 2 0 0),vs 64 v64] [(2,0,b2)] hp
def B81_8(x1:AV)(v7:Value)(b2:List AV)(hp:Hp):=gb 81 [cc 130035 cd81,cl 32508 cd81,.inBlock 1,.inBlock 0] [va 1 x1,(2,.lp 2 0 0),vs 7 v7] [(2,0,b2)] hp
def B81_11(x1:AV)(v7 v8:Value)(b2:List AV)(hp:Hp):=gb 81 [cc 33288800 cd81,cc 33288801 cd81,cc 16644401 cd81,cl 8322200 cd81,.inBlock 3,cc 2080551 cd81,.inBlock 2,cc 130035 cd81,cl 32508 cd81,.inBlock 1,.inBlock 0] [va 1 x1,(2,.lp 2 0 0),vs 7 v7,vs 8 v8] [(2,0,b2)] hp
def B81_12(x1:AV)(v7 v8:Value)(b2:List AV)(hp:Hp):=gb 81 [cc 33288802 cd81,.inBlock 4,cl 8322200 cd81,.inBlock 3,cc 2080551 cd81,.inBlock 2,cc 130035 cd81,cl 32508 cd81,.inBlock 1,.inBlock 0] [va 1 x1,(2,.lp 2 0 0),vs 7 v7,vs 8 v8] [(2,0,b2)] hp
def B81_13(x1:AV)(v7 v8:Value)(b2:List AV)(hp:Hp):=gb 81 [cc 2080551 cd81,.inBlock 2,cc 130035 cd81,cl 32508 cd81,.inBlock 1,.inBlock 0] [va 1 x1,(2,.lp 2 0 0),vs 7 v7,vs 8 v8] [(2,0,b2)] hp
theorem E81(a0 a1:AV)(hp:Hp):run cxX 81 [a0,a1] hp=(qg 5 a0).bind fun y0=>(getN (List.map ro1 y0) 0 5).bind fun y1=>pS 134 [.agg (List.map ro1 y1)] fun y5=>(qe (List.map ro1 y0) 0).bind fun y6=>cV 30 76 y6 fun y7=>cT 25 [r2 a1,.sc y7] hp fun h1=>cT 36 [r2 a1,.sc y5] h1 fun h2=>iC .eql 198 19 y5 (kB 0) ((getN (List.map ro1 y0) 0 5).bind fun y14=>pS 96 [.agg (List.map ro1 y14)] fun y18=>bC .sub 3 60 y18 (kI 1) fun y19=>cV 3 5 y19 fun y20=>cT 36 [r2 a1,.sc y20] h2 fun h3=>B81_17 a1 (kI 0) (List.map ro1 y0) h3) (iC .eql 198 19 y5 (kB 1) (B81_24 a1 (kI 0) (List.map ro1 y0) h2) ((getN (List.map ro1 y0) 0 5).bind fun y25=>pS 135 [.agg (List.map ro1 y25)] fun y29=>bC .sub 3 22 y29 (kI 1) fun y30=>cV 3 5 y30 fun y31=>cT 36 [r2 a1,.sc y31] h2 fun h4=>B81_7 a1 (kI 0) (List.map ro1 y0) h4)):=
 (eE 81 ss81 _ _).trans (by kernel_rfl)
theorem B81_17_eq(x1:AV)(v64:Value)(b2:List AV)(hp:Hp):B81_17 x1 v64 b2 hp=iC .lss 3 64 v64 (kI 256) ((getN b2 0 5).bind fun y36=>cV 3 5 v64 fun y37=>pS 97 [.agg (List.map ro1 y36),.sc y37] fun y41=>iB y41 (cV 3 5 v64 fun y43=>cT 36 [r2 x1,.sc y43] hp fun h1=>B81_21 x1 v64 b2 h1) (B81_21 x1 v64 b2 hp)) (rQ (.tup []) hp):=
 (eB 81 ss81 _ _).trans (by kernel_rfl)
theorem B81_24_eq(x1:AV)(v78:Value)(b2:List AV)(hp:Hp):B81_24 x1 v78 b2 hp=iC .lss 3 78 v78 (kI 32) (bC .quo 3 82 v78 (kI 8) fun y48=>(idx 4 y48).bind fun y49=>(qe b2 (Nat.add 1 (Nat.add 0 y49))).bind fun y50=>bC .rem 3 87 v78 (kI 8) fun y51=>bG .mul 3 (.const (kI 8)) (.tmp 88) (kI 8) y51 fun y52=>bT .shr 76 86 89 y50 y52 fun y53=>cV 76 5 y53 fun y54=>cT 36 [r2 x1,.sc y54] hp fun h1=>bC .add 3 78 v78 (kI 1) fun y57=>B81_24 x1 y57 b2 h1) (rQ (.tup []) hp):=
 (eB 81 ss81 _ _).trans (by kernel_rfl)
theorem B81_7_eq(x1:AV)(v7:Value)(b2:List AV)(hp:Hp):B81_7 x1 v7 b2 hp=iC .lss 3 26 v7 (kI 256) ((getN b2 0 5).bind fun y60=>cV 3 5 v7 fun y61=>pS 97 [.agg (List.map ro1 y60),.sc y61] fun y65=>iN y65 (B81_8 x1 v7 b2 hp) (B81_11 x1 v7 v7 b2 hp)) (rQ (.tup []) hp):=
 (eB 81 ss81 _ _).trans (by kernel_rfl)
theorem B81_21_eq(x1:AV)(v64:Value)(b2:List AV)(hp:Hp):B81_21 x1 v64 b2 hp=bC .add 3 64 v64 (kI 1) fun y68=>B81_17 x1 y68 b2 hp:=
 (eB 81 ss81 _ _).trans (by kernel_rfl)
theorem B81_8_eq(x1:AV)(v7:Value)(b2:List AV)(hp:Hp):B81_8 x1 v7 b2 hp=bC .add 3 28 v7 (kI 1) fun y69=>B81_7 x1 y69 b2 hp:=
 (eB 81 ss81 _ _).trans (by kernel_rfl)
theorem B81_11_eq(x1:AV)(v7 v8:Value)(b2:List AV)(hp:Hp):B81_11 x1 v7 v8 b2 hp=iC .lss 3 36 v7 (kI 255) ((getN b2 0 5).bind fun y72=>bC .add 3 40 v7 (kI 1) fun y73=>cV 3 5 y73 fun y74=>pS 97 [.agg (List.map ro1 y72),.sc y74] fun y78=>iB y78 (B81_12 x1 v7 v8 b2 hp) (B81_13 x1 v7 v8 b2 hp)) (B81_13 x1 v7 v8 b2 hp):=
 (eB 81 ss81 _ _).trans (by kernel_rfl)
theorem B81_12_eq(x1:AV)(v7 v8:Value)(b2:List AV)(hp:Hp):B81_12 x1 v7 v8 b2 hp=bC .add 3 45 v7 (kI 1) fun y80=>B81_11 x1 y80 v8 b2 hp:=
 (eB 81 ss81 _ _).trans (by kernel_rfl)
theorem B81_13_eq(x1:AV)(v7 v8:Value)(b2:List AV)(hp:Hp):B81_13 x1 v7 v8 b2 hp=cV 3 5 v8 fun y81=>bT .sub 3 50 51 v7 v8 fun y82=>cV 3 5 y82 fun y83=>(okV [.sc y81,.sc y83]).bind fun y84=>cT 35 [r2 x1,ro (AV.us 1 [.sc y81,.sc y83])] hp fun h1=>B81_8 x1 v7 b2 h1:=
 (eB 81 ss81 _ _).trans (by kernel_rfl)
def B94_15(x0 x3:AV)(v4:Value)(b2:List AV)(hp:Hp):=gb 94 [cc 124 cd94,cc 125 cd94,cc 63 cd94] [va 0 x0,(2,.lp 2 0 0),va 3 x3,vs 4 v4] [(2,0,b2)] hp
def B94_9(x0 x3:AV)(v4:Value)(x23:AV)(v24 v25:Value)(b2:List AV)(hp:Hp):=gb 94 [cc 31464 cd94,cc 31465 cd94,cl 15732 cd94,.inBlock 1,.inBlock 0,cc 31 cd94] [va 0 x0,(2,.lp 2 0 0),va 3 x3,vs 4 v4,va 23 x23,vs 24 v24,vs 25 v25] [(2,0,b2)] hp
def B94_16(x0 x3:AV)(b2:List AV)(hp:Hp):=gb 94 [cc 250 cd94,cc 63 cd94] [va 0 x0,(2,.lp 2 0 0),va 3 x3] [(2,0,b2)] hp
def B94_17(x0 x3:AV)(b2:List AV)(hp:Hp):=gb 94 [cc 252 cd94,cc 253 cd94,cc 127 cd94] [va 0 x0,(2,.lp 2 0 0),va 3 x3] [(2,0,b2)] hp
theorem E94(a0:AV)(hp:Hp):run cxX 94 [a0] hp=cS 45 [r2 a0,.sc (kU 16777215)] hp fun y1 h1=>cV 76 30 y1 fun y2=>(Hp.rd (Hp.new h1 [.sc (kW 0),.sc (kU 0),.sc (kU 0),.sc (kU 0),.sc (kU 0)]) h1.1 0).bind fun y3=>(putN y3 0 [.sc y2,.sc (kU 0),.sc (kU 0),.sc (kU 0),.sc (kU 0)]).bind fun y4=>cS 48 [r2 a0] (Hp.put (Hp.new h1 [.sc (kW 0),.sc (kU 0),.sc (kU 0),.sc (kU 0),.sc (kU 0)]) h1.1 0 y4) fun y6 h2=>iC .eql 198 13 y6 (kB 0) (cT 144 [ro (AV.ptr h1.1 0 0),r2 a0] h2 fun h3=>B94_15 a0 (AV.ptr h1.1 0 0) y6 [.sc (kW 0),.sc (kU 0),.sc (kU 0),.sc (kU 0),.sc (kU 0)] h3) (iC .eql 198 13 y6 (kB 1) (cA 102 [r2 a0,.sc (kI 32)] h2 fun z4 h5=>ln z4 fun y15=>B94_9 a0 (AV.ptr h1.1 0 0) y6 z4 (kI y15) (kI 0) [.sc (kW 0),.sc (kU 0),.sc (kU 0),.sc (kU 0),.sc (kU 0)] h5) (iC .eql 198 13 y6 (kB 2) (cT 145 [ro (AV.ptr h1.1 0 0),r2 a0] h2 fun h6=>B94_15 a0 (AV.ptr h1.1 0 0) y6 [.sc (kW 0),.sc (kU 0),.sc (kU 0),.sc (kU 0),.sc (kU 0)] h6) (cT 95 [r2 a0,.sc (kI 5)] h2 fun h7=>B94_15 a0 (AV.ptr h1.1 0 0) y6 [.sc (kW 0),.sc (kU 0),.sc (kU 0),.sc (kU 0),.sc (kU 0)] h7))):=
 (eE 94 ss94 _ _).trans (by kernel_rfl)
theorem B94_15_eq(x0 x3:AV)(v4:Value)(b2:List AV)(hp:Hp):B94_15 x0 x3 v4 b2 hp=cS 93 [r2 x0] hp fun y23 h1=>iC .eql 57 50 y23 (kI 0) (lpN 5 0 x3 h1 fun y28=>pS 96 [.agg (List.map ro1 y28)] fun y32=>iC .eql 3 54 y32 (kI 0) (B94_16 x0 x3 b2 h1) (lpN 5 0 x3 h1 fun y37=>pS 134 [.agg (List.map ro1 y37)] fun y41=>iT .neq 198 58 59 y41 v4 (B94_16 x0 x3 b2 h1) (B94_17 x0 x3 b2 h1))) (B94_17 x0 x3 b2 h1):=
 (eB 94 ss94 _ _).trans (by kernel_rfl)
theorem B94_9_eq(x0 x3:AV)(v4:Value)(x23:AV)(v24 v25:Value)(b2:List AV)(hp:Hp):B94_9 x0 x3 v4 x23 v24 v25 b2 hp=iT .lss 3 25 24 v25 v24 (ixS x23 v25 fun y47=>bC .quo 3 30 v25 (kI 8) fun y48=>(qz x3).bind fun y49=>(idx 4 y48).bind fun y50=>(Hp.rd hp y49.1 y49.2.1).bind fun y51=>(qe y51 (Nat.add (Nat.succ y49.2.2) (Nat.add 0 y50))).bind fun y52=>cV 5 76 y47 fun y53=>bC .rem 3 37 v25 (kI 8) fun y54=>bG .mul 3 (.const (kI 8)) (.tmp 38) (kI 8) y54 fun y55=>bT .shl 76 36 39 y53 y55 fun y56=>bT .or 76 34 40 y52 y56 fun y57=>(qz x3).bind fun y58=>(idx 4 y48).bind fun y59=>(Hp.rd hp y58.1 y58.2.1).bind fun y60=>(putN y60 (Nat.add (Nat.succ y58.2.2) (Nat.add 0 y59)) [.sc y57]).bind fun y61=>bC .add 3 25 v25 (kI 1) fun y62=>B94_9 x0 x3 v4 x23 v24 y62 b2 (Hp.put hp y58.1 y58.2.1 y61)) (B94_15 x0 x3 v4 b2 hp):=
 (eB 94 ss94 _ _).trans (by kernel_rfl)
theorem B94_17_eq(x0 x3:AV)(b2:List AV)(hp:Hp):B94_17 x0 x3 b2 hp=cS 93 [r2 x0] hp fun y66 h1=>iC .neq 57 66 y66 (kI 0) ((putN b2 0 [.sc (kW 0),.sc (kU 0),.sc (kU 0),.sc (kU 0),.sc (kU 0)]).bind fun y69=>(getN y69 0 5).bind fun y70=>rQ (.agg y70) h1) ((qz x3).bind fun y71=>(Hp.rd h1 y71.1 y71.2.1).bind fun y72=>(getN y72 y71.2.2 5).bind fun y73=>(putN y72 y71.2.2 (List.map ro1 y73)).bind fun y74=>(qg 5 (.agg y73)).bind fun y75=>(putN b2 0 y75).bind fun y76=>(getN y76 0 5).bind fun y77=>rQ (.agg y77) (Hp.put h1 y71.1 y71.2.1 y74)):=
 (eB 94 ss94 _ _).trans (by kernel_rfl)
def B96_3(v3:Value)(x7:AV)(v8:Value)(hp:Hp):=gb 96 [cc 232 cd96,cc 233 cd96,cl 116 cd96,.inBlock 0,cc 15 cd96] [vs 3 v3,va 7 x7,vs 8 v8] [] hp
theorem E96(a0:AV)(hp:Hp):run cxX 96 [a0] hp=(qg 5 a0).bind fun y0=>(getN (List.map ro1 y0) 1 4).bind fun y1=>B96_3 (kI 0) (.agg (List.map ro1 y1)) (kI 0) hp:=
 (eE 96 ss96 _ _).trans (by kernel_rfl)
theorem B96_3_eq(v3:Value)(x7:AV)(v8:Value)(hp:Hp):B96_3 v3 x7 v8 hp=iC .lss 3 8 v8 (kI 4) ((js x7).bind fun y4=>(ixV Tryz.prog 139 y4 v8).bind fun y5=>pS 146 [.sc y5] fun y9=>bT .add 3 11 13 v3 y9 fun y10=>bC .add 3 8 v8 (kI 1) fun y11=>B96_3 y10 x7 y11 hp) (rQ (.sc v3) hp):=
 (eB 96 ss96 _ _).trans (by kernel_rfl)
theorem E97(a0 a1:AV)(hp:Hp):run cxX 97 [a0,a1] hp=aS a1 fun y0=>(qg 5 a0).bind fun y1=>bC .shr 5 5 y0 (kU 6) fun y2=>(idx 4 y2).bind fun y3=>(qe (List.map ro1 y1) (Nat.add 1 (Nat.add 0 y3))).bind fun y4=>bC .and 5 10 y0 (kB 63) fun y5=>bT .shr 76 9 11 y4 y5 fun y6=>bC .and 76 12 y6 (kU 1) fun y7=>bC .eql 76 13 y7 (kU 1) fun y8=>rQ (.sc y8) hp:=
 (eE 97 ss97 _ _).trans (by kernel_rfl)
def B134_3(hp:Hp):=gb 134 [cc 228 cd134,cc 229 cd134,.inBlock 0,cc 15 cd134] [] [] hp
def B134_4(v4:Value)(hp:Hp):=gb 134 [cc 230 cd134,cc 231 cd134,.inBlock 0,cc 15 cd134] [vs 4 v4] [] hp
theorem E134(a0:AV)(hp:Hp):run cxX 134 [a0] hp=(qg 5 a0).bind fun y0=>(getN (List.map ro1 y0) 0 5).bind fun y1=>pS 96 [.agg (List.map ro1 y1)] fun y5=>bC .add 3 6 y5 (kI 1) fun y6=>(getN (List.map ro1 y0) 0 5).bind fun y7=>pS 135 [.agg (List.map ro1 y7)] fun y11=>bG .mul 3 (.const (kI 2)) (.tmp 9) (kI 2) y11 fun y12=>bC .add 3 10 y12 (kI 1) fun y13=>iC .leq 3 13 y6 (kI 32) (iT .leq 3 16 17 y6 y13 (B134_3 hp) (B134_4 y13 hp)) (B134_4 y13 hp):=
 (eE 134 ss134 _ _).trans (by kernel_rfl)
theorem B134_3_eq(hp:Hp):B134_3 hp=rQ (.sc (kB 0)) hp:=
 (eB 134 ss134 _ _).trans (by kernel_rfl)
theorem B134_4_eq(v4:Value)(hp:Hp):B134_4 v4 hp=iG .leq 3 (.const (kI 32)) (.tmp 21) (kI 32) v4 (rQ (.sc (kB 1)) hp) (rQ (.sc (kB 2)) hp):=
 (eB 134 ss134 _ _).trans (by kernel_rfl)
def B135_4(v3 v4 v7:Value)(b1:List AV)(hp:Hp):=gb 135 [cc 488 xt,cc 489 xt,cl 244 xt,.inBlock 0,cc 31 xt] [(1,.lp 1 0 0),vs 3 v3,vs 4 v4,vs 7 v7] [(1,0,b1)] hp
def B135_8(v3 v6 v7:Value)(b1:List AV)(hp:Hp):=gb 135 [cc 125338 xt,cc 31335 xt,.inBlock 1,cc 1959 xt,cl 244 xt,.inBlock 0,cc 31 xt] [(1,.lp 1 0 0),vs 3 v3,vs 6 v6,vs 7 v7] [(1,0,b1)] hp
def B135_9(v3 v6 v7:Value)(b1:List AV)(hp:Hp):=gb 135 [cc 31335 xt,.inBlock 1,cc 1959 xt,cl 244 xt,.inBlock 0,cc 31 xt] [(1,.lp 1 0 0),vs 3 v3,vs 6 v6,vs 7 v7] [(1,0,b1)] hp
theorem E135(a0:AV)(hp:Hp):run cxX 135 [a0] hp=(qg 5 a0).bind fun y0=>B135_4 (kI 0) (.bool false) (kI 0) (List.map ro1 y0) hp:=
 (eE 135 ss135 _ _).trans (by kernel_rfl)
theorem B135_4_eq(v3 v4 v7:Value)(b1:List AV)(hp:Hp):B135_4 v3 v4 v7 b1 hp=iC .lss 3 7 v7 (kI 256) ((getN b1 0 5).bind fun y3=>cV 3 5 v7 fun y4=>pS 97 [.agg (List.map ro1 y3),.sc y4] fun y8=>iB y8 (iN v4 (B135_8 v3 y8 v7 b1 hp) (B135_9 v3 y8 v7 b1 hp)) (B135_9 v3 y8 v7 b1 hp)) (rQ (.sc v3) hp):=
 (eB 135 ss135 _ _).trans (by kernel_rfl)
theorem B135_8_eq(v3 v6 v7:Value)(b1:List AV)(hp:Hp):B135_8 v3 v6 v7 b1 hp=bC .add 3 19 v3 (kI 1) fun y12=>B135_9 y12 v6 v7 b1 hp:=
 (eB 135 ss135 _ _).trans (by kernel_rfl)
theorem B135_9_eq(v3 v6 v7:Value)(b1:List AV)(hp:Hp):B135_9 v3 v6 v7 b1 hp=bC .add 3 7 v7 (kI 1) fun y13=>B135_4 v3 v6 y13 b1 hp:=
 (eB 135 ss135 _ _).trans (by kernel_rfl)
def B144_2(x0 x1:AV)(v4 v9 v10:Value)(hp:Hp):=gb 144 [cc 56 cd144,cc 57 cd144,cl 28 cd144,.inBlock 0] [va 0 x0,va 1 x1,vs 4 v4,vs 9 v9,vs 10 v10] [] hp
theorem E144(a0 a1:AV)(hp:Hp):run cxX 144 [a0,a1] hp=cS 48 [r2 a1] hp fun y1 h1=>cV 5 3 y1 fun y2=>bC .add 3 8 y2 (kI 1) fun y3=>B144_2 a0 a1 (.int .i64 (.negSucc 0)) y3 (kI 0) h1:=
 (eE 144 ss144 _ _).trans (by kernel_rfl)
theorem B144_2_eq(x0 x1:AV)(v4 v9 v10:Value)(hp:Hp):B144_2 x0 x1 v4 v9 v10 hp=iT .lss 3 10 9 v10 v9 (cS 48 [r2 x1] hp fun y7 h1=>cV 5 3 y7 fun y8=>cS 93 [r2 x1] h1 fun y10 h2=>iC .neq 57 16 y10 (kI 0) (rQ (.tup []) h2) (iT .leq 3 18 19 y8 v4 (cT 95 [r2 x1,.sc (kI 8)] h2 fun h3=>rQ (.tup []) h3) (cV 3 5 y8 fun y17=>cT 80 [r2 x0,.sc y17] h2 fun h4=>bC .add 3 10 v10 (kI 1) fun y20=>B144_2 x0 x1 y8 v9 y20 h4))) (rQ (.tup []) hp):=
 (eB 144 ss144 _ _).trans (by kernel_rfl)
def B145_2(x0 x1:AV)(v4 v11 v12:Value)(hp:Hp):=gb 145 [cc 56 jt,cc 57 jt,cl 28 jt,.inBlock 0] [va 0 x0,va 1 x1,vs 4 v4,vs 11 v11,vs 12 v12] [] hp
def B145_6(x1:AV)(hp:Hp):=gb 145 [cc 29492 jt,cc 7370 jt,cc 3687 jt,.inBlock 1,cc 231 jt,cl 28 jt,.inBlock 0] [va 1 x1] [] hp
def B145_7(x0 x1:AV)(v5 v6 v11 v12:Value)(hp:Hp):=gb 145 [cc 14748 jt,cc 14749 jt,cc 7375 jt,.inBlock 1,cc 231 jt,cl 28 jt,.inBlock 0] [va 0 x0,va 1 x1,vs 5 v5,vs 6 v6,vs 11 v11,vs 12 v12] [] hp
def B145_8(x0 x1:AV)(v5 v6 v7 v11 v12:Value)(hp:Hp):=gb 145 [cc 235984 jt,cc 235985 jt,cc 117993 jt,cl 58996 jt,.inBlock 2,cc 7375 jt,.inBlock 1,cc 231 jt,cl 28 jt,.inBlock 0] [va 0 x0,va 1 x1,vs 5 v5,vs 6 v6,vs 7 v7,vs 11 v11,vs 12 v12] [] hp
theorem E145(a0 a1:AV)(hp:Hp):run cxX 145 [a0,a1] hp=cS 48 [r2 a1] hp fun y1 h1=>cV 5 3 y1 fun y2=>bC .add 3 10 y2 (kI 1) fun y3=>B145_2 a0 a1 (.int .i64 (.negSucc 1)) y3 (kI 0) h1:=
 (eE 145 ss145 _ _).trans (by kernel_rfl)
theorem B145_2_eq(x0 x1:AV)(v4 v11 v12:Value)(hp:Hp):B145_2 x0 x1 v4 v11 v12 hp=iT .lss 3 12 11 v12 v11 (cS 48 [r2 x1] hp fun y7 h1=>cV 5 3 y7 fun y8=>cS 48 [r2 x1] h1 fun y10 h2=>cV 5 3 y10 fun y11=>cS 93 [r2 x1] h2 fun y13 h3=>iC .neq 57 21 y13 (kI 0) (rQ (.tup []) h3) (bC .add 3 24 v4 (kI 1) fun y16=>iT .leq 3 23 25 y8 y16 (B145_6 x1 h3) (bT .add 3 28 29 y8 y11 fun y19=>iC .gtr 3 30 y19 (kI 255) (B145_6 x1 h3) (B145_7 x0 x1 y8 y11 v11 v12 h3)))) (rQ (.tup []) hp):=
 (eB 145 ss145 _ _).trans (by kernel_rfl)
theorem B145_7_eq(x0 x1:AV)(v5 v6 v11 v12:Value)(hp:Hp):B145_7 x0 x1 v5 v6 v11 v12 hp=B145_8 x0 x1 v5 v6 v5 v11 v12 hp:=
 (eB 145 ss145 _ _).trans (by kernel_rfl)
theorem B145_8_eq(x0 x1:AV)(v5 v6 v7 v11 v12:Value)(hp:Hp):B145_8 x0 x1 v5 v6 v7 v11 v12 hp=bT .add 3 37 38 v5 v6 fun y24=>iT .leq 3 36 39 v7 y24 (cV 3 5 v7 fun y27=>cT 80 [r2 x0,.sc y27] hp fun h1=>bC .add 3 41 v7 (kI 1) fun y30=>B145_8 x0 x1 v5 v6 y30 v11 v12 h1) (bT .add 3 47 48 v5 v6 fun y31=>bC .add 3 12 v12 (kI 1) fun y32=>B145_2 x0 x1 y31 v11 y32 hp):=
 (eB 145 ss145 _ _).trans (by kernel_rfl)
end
noncomputable section
theorem E146(a0:AV)(hp:Hp):run cxX 146 [a0] hp=aS a0 fun y0=>bC .shr 76 3 y0 (kU 1) fun y1=>bC .and 76 4 y1 (kU 6148914691236517205) fun y2=>bC .and 76 6 y0 (kU 6148914691236517205) fun y3=>bT .add 76 5 7 y2 y3 fun y4=>bC .shr 76 9 y4 (kU 2) fun y5=>bC .and 76 10 y5 (kU 3689348814741910323) fun y6=>bC .and 76 12 y4 (kU 3689348814741910323) fun y7=>bT .add 76 11 13 y6 y7 fun y8=>bC .shr 76 15 y8 (kU 4) fun y9=>bT .add 76 16 17 y9 y8 fun y10=>bC .and 76 18 y10 (kU 1085102592571150095) fun y11=>bC .shr 76 21 y11 (kU 8) fun y12=>bT .add 76 20 22 y11 y12 fun y13=>bC .shr 76 25 y13 (kU 16) fun y14=>bT .add 76 24 26 y13 y14 fun y15=>bC .shr 76 29 y15 (kU 32) fun y16=>bT .add 76 28 30 y15 y16 fun y17=>cV 76 3 y17 fun y18=>bC .and 3 33 y18 (kI 127) fun y19=>rQ (.sc y19) hp:=
 (eE 146 ss146 _ _).trans (by kernel_rfl)
theorem E168(a0:AV)(hp:Hp):run cxX 168 [a0] hp=aS a0 fun y0=>pS 180 [.sc y0] fun y4=>bG .sub 3 (.const (kI 64)) (.tmp 4) (kI 64) y4 fun y5=>rQ (.sc y5) hp:=
 (eE 168 ss168 _ _).trans (by kernel_rfl)
def B180_4(v0 v2:Value)(hp:Hp):=gb 180 [cc 28 cd180,cc 29 cd180,cc 15 cd180] [vs 0 v0,vs 2 v2] [] hp
def B180_7(v0 v2:Value)(hp:Hp):=gb 180 [cc 60 cd180,cc 61 cd180,cc 31 cd180] [vs 0 v0,vs 2 v2] [] hp
def B180_10(v0 v2:Value)(hp:Hp):=gb 180 [cc 62 cd180,cc 63 cd180] [vs 0 v0,vs 2 v2] [] hp
theorem E180(a0:AV)(hp:Hp):run cxX 180 [a0] hp=aS a0 fun y0=>iC .geq 76 3 y0 (kU 4294967296) (bC .shr 76 5 y0 (kU 32) fun y3=>B180_4 y3 (kI 32) hp) (B180_4 y0 (kI 0) hp):=
 (eE 180 ss180 _ _).trans (by kernel_rfl)
theorem B180_4_eq(v0 v2:Value)(hp:Hp):B180_4 v0 v2 hp=iC .geq 76 7 v0 (kU 65536) (bC .shr 76 9 v0 (kU 16) fun y6=>bC .add 3 11 v2 (kI 16) fun y7=>B180_7 y6 y7 hp) (B180_7 v0 v2 hp):=
 (eB 180 ss180 _ _).trans (by kernel_rfl)
theorem B180_7_eq(v0 v2:Value)(hp:Hp):B180_7 v0 v2 hp=iC .geq 76 13 v0 (kU 256) (bC .shr 76 15 v0 (kU 8) fun y10=>bC .add 3 17 v2 (kI 8) fun y11=>B180_10 y10 y11 hp) (B180_10 v0 v2 hp):=
 (eB 180 ss180 _ _).trans (by kernel_rfl)
theorem B180_10_eq(v0 v2:Value)(hp:Hp):B180_10 v0 v2 hp=cV 76 5 v0 fun y12=>(ixV Tryz.prog 9 (Value.string (ByteArray.mk (Array.mk [0,1,2,2,3,3,3,3,4,4,4,4,4,4,4,4,5,5,5,5,5,5,5,5,5,5,5,5,5,5,5,5,6,6,6,6,6,6,6,6,6,6,6,6,6,6,6,6,6,6,6,6,6,6,6,6,6,6,6,6,6,6,6,6,7,7,7,7,7,7,7,7,7,7,7,7,7,7,7,7,7,7,7,7,7,7,7,7,7,7,7,7,7,7,7,7,7,7,7,7,7,7,7,7,7,7,7,7,7,7,7,7,7,7,7,7,7,7,7,7,7,7,7,7,7,7,7,7,8,8,8,8,8,8,8,8,8,8,8,8,8,8,8,8,8,8,8,8,8,8,8,8,8,8,8,8,8,8,8,8,8,8,8,8,8,8,8,8,8,8,8,8,8,8,8,8,8,8,8,8,8,8,8,8,8,8,8,8,8,8,8,8,8,8,8,8,8,8,8,8,8,8,8,8,8,8,8,8,8,8,8,8,8,8,8,8,8,8,8,8,8,8,8,8,8,8,8,8,8,8,8,8,8,8,8,8,8,8,8,8,8,8,8,8,8,8,8,8,8,8,8,8,8,8,8,8]))) y12).bind fun y13=>cV 5 3 y13 fun y14=>bT .add 3 19 23 v2 y14 fun y15=>rQ (.sc y15) hp:=
 (eB 180 ss180 _ _).trans (by kernel_rfl)
end
def pcn(m:Nat):Nat->Nat
 |0=>0
 |n+1=>pcn m n+(m.testBit n).toNat
theorem pcn_split(m a:Nat):∀b,pcn m (a+b)=pcn m a+pcn (m/2^a) b:=by
 intro b
 induction b with
 |zero=>rfl
 |succ b ih=>
  show pcn m (a+b)+(m.testBit (a+b)).toNat=pcn m a+(pcn (m/2^a) b+((m/2^a).testBit b).toNat)
  rw[ih,Nat.testBit_div_two_pow,Nat.add_comm b a]
  omega
theorem yy(m:Nat):∀n,pcn m n<=n:=by
 intro n
 induction n with
 |zero=>exact Nat.le_refl _
 |succ n ih=>
  show pcn m n+_<=n+1
  have:=b2n (m.testBit n)
  omega
theorem pcn_mod(m k:Nat):∀n,n<=k->pcn (m%2^k) n=pcn m n:=by
 intro n
 induction n with
 |zero=>intro _;rfl
 |succ n ih=>
  intro h
  show pcn (m%2^k) n+_=pcn m n+_
  rw[ih (by omega),Nat.testBit_mod_two_pow]
  simp[show n<k by omega]
def mkB(c:Nat):Nat->Nat
 |0=>0
 |k+1=>mkB c k*256+c
theorem xv(a b c d:Nat)(hb:b<256)(hd:d<256):(a*256+b)&&&(c*256+d)=(a&&&c)*256+(b&&&d):=by
 have hbd:b&&&d<256:=Nat.lt_of_le_of_lt Nat.and_le_left hb
 apply Nat.eq_of_testBit_eq
 intro i
 have e1:=Nat.testBit_two_pow_mul_add a (i:=8) hb i
 have e2:=Nat.testBit_two_pow_mul_add c (i:=8) hd i
 have e3:=Nat.testBit_two_pow_mul_add (a&&&c) (i:=8) hbd i
 have q:∀x y,2^8*x+y=x*256+y:=fun x y=>by omega
 rw[q]at e1 e2 e3
 rw[Nat.testBit_and,e1,e2,e3]
 by_cases h:i<8
 ·rw[if_pos h,if_pos h,if_pos h,Nat.testBit_and]
 ·rw[if_neg h,if_neg h,if_neg h,Nat.testBit_and]
def f1(k x:Nat):Nat:=((x/2)&&&mkB 85 k)+(x&&&mkB 85 k)
def f2(k x:Nat):Nat:=((x/4)&&&mkB 51 k)+(x&&&mkB 51 k)
def f3(k x:Nat):Nat:=(x/16+x)&&&mkB 15 k
theorem byte1:∀b,b<256->∀t,t<2->(t*128+b/2)&&&85=(b/2)&&&85:=by decide
theorem byte2:∀b,b<256->∀t,t<4->(t*64+b/4)&&&51=(b/4)&&&51:=by decide
theorem f1_split(k a b:Nat)(hb:b<256):f1 (k+1) (a*256+b)=f1 k a*256+f1 1 b:=by
 unfold f1
 have e:(a*256+b)/2=a/2*256+(a%2*128+b/2):=by omega
 have m:mkB 85 (k+1)=mkB 85 k*256+85:=rfl
 have m1:mkB 85 1=85:=rfl
 rw[e,m,m1,xv _ _ _ _ (by omega) (by omega),xv _ _ _ _ hb (by omega),byte1 b hb _ (by omega)]
 omega
theorem f2_split(k a b:Nat)(hb:b<256):f2 (k+1) (a*256+b)=f2 k a*256+f2 1 b:=by
 unfold f2
 have e:(a*256+b)/4=a/4*256+(a%4*64+b/4):=by omega
 have m:mkB 51 (k+1)=mkB 51 k*256+51:=rfl
 have m1:mkB 51 1=51:=rfl
 rw[e,m,m1,xv _ _ _ _ (by omega) (by omega),xv _ _ _ _ hb (by omega),byte2 b hb _ (by omega)]
 omega
theorem f1_byte:∀b,b<256->f1 1 b<256:=by decide
theorem f2_byte:∀b,b<256->f2 1 (f1 1 b)<256/\f2 1 (f1 1 b)%16<=4/\f2 1 (f1 1 b)/16<=4/\f3 1 (f2 1 (f1 1 b))=pcn b 8:=by decide
def f12(k x:Nat):Nat:=f2 k (f1 k x)
theorem f12_split(k a b:Nat)(hb:b<256):f12 (k+1) (a*256+b)=f12 k a*256+f12 1 b:=by
 unfold f12
 rw[f1_split k a b hb,f2_split k _ _ (f1_byte b hb)]
theorem f12_low(k x:Nat)(h:x<256^k):f12 k x%16<=4:=by
 cases k with
 |zero=>
  have:x=0:=by omega
  subst this
  decide
 |succ k=>
  have e:x=x/256*256+x%256:=by omega
  rw[e,f12_split k _ _ (by omega)]
  have:=(f2_byte (x%256) (by omega)).2.1
  unfold f12 at*
  omega
theorem f3_split(k a b:Nat)(ha:a<256^k)(hb:b<256):f3 (k+1) (f12 (k+1) (a*256+b))=f3 k (f12 k a)*256+pcn b 8:=by
 rw[f12_split k a b hb]
 have hl:=f12_low k a ha
 have hB:=f2_byte b hb
 have e12:f12 1 b=f2 1 (f1 1 b):=rfl
 rw[<-hB.2.2.2,e12]
 generalize f2 1 (f1 1 b)=B at*
 generalize f12 k a=A at*
 obtain⟨h1,h2,h3,_⟩:=hB
 unfold f3
 have e:(A*256+B)/16+(A*256+B)=(A/16+A)*256+(A%16*16+B/16+B):=by omega
 have m:mkB 15 (k+1)=mkB 15 k*256+15:=rfl
 have m1:mkB 15 1=15:=rfl
 rw[e,m,m1,xv _ _ _ _ (by omega) (by omega)]
 congr 1
 have q:∀x,x&&&15=x%16:=fun x=>Nat.and_two_pow_sub_one_eq_mod x 4
 rw[q,q]
 omega
def cB(x:Nat):Nat->Nat
 |0=>0
 |k+1=>cB (x/256) k*256+pcn (x%256) 8
theorem f3_all:∀(k x:Nat),x<256^k->f3 k (f12 k x)=cB x k:=by
 intro k
 induction k with
 |zero=>
  intro x h
  have:x=0:=by omega
  subst this
  decide
 |succ k ih=>
  intro x h
  have e:x=x/256*256+x%256:=by omega
  have h2:x/256<256^k:=by rw[Nat.pow_succ]at h;omega
  have:=f3_split k (x/256) (x%256) h2 (by omega)
  rw[<-e,ih _ h2]at this
  exact this
theorem pcn_bytes(x:Nat):pcn x 64=pcn (x%256) 8+(pcn (x/256%256) 8+(pcn (x/256/256%256) 8+(pcn (x/256/256/256%256) 8+(pcn (x/256/256/256/256%256) 8+
  (pcn (x/256/256/256/256/256%256) 8+(pcn (x/256/256/256/256/256/256%256) 8+pcn (x/256/256/256/256/256/256/256%256) 8)))))):=by
 have s:∀y n,pcn y (8+n)=pcn (y%256) 8+pcn (y/256) n:=fun y n=>by
  rw[pcn_split y 8 n]
  have:=pcn_mod y 8 8 (Nat.le_refl _)
  rw[<-this]
 have e64:(64:Nat)=8+(8+(8+(8+(8+(8+(8+(8+0))))))):=rfl
 rw[e64]
 simp only[s]
 rfl
theorem pop_last(c:Nat)(c0 c1 c2 c3 c4 c5 c6 c7:Nat)(h0:c0<=8)(h1:c1<=8)(h2:c2<=8)(h3:c3<=8)(h4:c4<=8)(h5:c5<=8)(h6:c6<=8)(h7:c7<=8)
  (h:c=((((((c7*256+c6)*256+c5)*256+c4)*256+c3)*256+c2)*256+c1)*256+c0):
  c<651061555542690057/\∃d,d=c+c/256/\∃e,e=d+d/65536/\e+e/4294967296<9223372036854775808/\(e+e/4294967296)%128=c0+(c1+(c2+(c3+(c4+(c5+(c6+c7)))))):=by
 obtain⟨A7,hA7⟩:∃A,A=c7:=⟨_,rfl⟩
 obtain⟨A6,hA6⟩:∃A,A=A7*256+c6:=⟨_,rfl⟩
 obtain⟨A5,hA5⟩:∃A,A=A6*256+c5:=⟨_,rfl⟩
 obtain⟨A4,hA4⟩:∃A,A=A5*256+c4:=⟨_,rfl⟩
 obtain⟨A3,hA3⟩:∃A,A=A4*256+c3:=⟨_,rfl⟩
 obtain⟨A2,hA2⟩:∃A,A=A3*256+c2:=⟨_,rfl⟩
 obtain⟨A1,hA1⟩:∃A,A=A2*256+c1:=⟨_,rfl⟩
 rw[<-hA7,<-hA6,<-hA5,<-hA4,<-hA3,<-hA2,<-hA1]at h
 have dv:∀a b:Nat,b<256->(a*256+b)/256=a:=fun a b hb=>by omega
 have b7:A7<=8:=by omega
 have b6:A6<=2056:=by omega
 have b5:A5<=526344:=by omega
 have b4:A4<=134744072:=by omega
 have b3:A3<=34494482440:=by omega
 have b2:A2<=8830587504648:=by omega
 have b1:A1<=2260630401189896:=by omega
 have b0:c<=578721382704613384:=by omega
 have e0:c/256=A1:=by rw[h];exact dv A1 c0 (by omega)
 --the first sum
 have s7:A7=0*256+c7:=by omega
 have s6:A6+A7=A7*256+(c6+c7):=by omega
 have s5:A5+A6=(A6+A7)*256+(c5+c6):=by omega
 have s4:A4+A5=(A5+A6)*256+(c4+c5):=by omega
 have s3:A3+A4=(A4+A5)*256+(c3+c4):=by omega
 have s2:A2+A3=(A3+A4)*256+(c2+c3):=by omega
 have s1:A1+A2=(A2+A3)*256+(c1+c2):=by omega
 have s0:c+A1=(A1+A2)*256+(c0+c1):=by omega
 refine⟨by omega,_,rfl,_,rfl,?_⟩
 rw[e0]
 generalize hd:c+A1=d at*
 generalize hB1:A1+A2=B1 at*
 generalize hB2:A2+A3=B2 at*
 generalize hB3:A3+A4=B3 at*
 generalize hB4:A4+A5=B4 at*
 generalize hB5:A5+A6=B5 at*
 generalize hB6:A6+A7=B6 at*
 have e1:d/65536=B2:=by
  have:d/65536=d/256/256:=by rw[Nat.div_div_eq_div_mul]
  rw[this,s0,dv _ _ (by omega),s1,dv _ _ (by omega)]
 have t6:B6=A7*256+(c6+c7):=s6
 have t4:B4+B6=(B5+A7)*256+(c4+c5+(c6+c7)):=by omega
 have t3:B3+B5=(B4+B6)*256+(c3+c4+(c5+c6)):=by omega
 have t2:B2+B4=(B3+B5)*256+(c2+c3+(c4+c5)):=by omega
 have t1:B1+B3=(B2+B4)*256+(c1+c2+(c3+c4)):=by omega
 have t0:d+B2=(B1+B3)*256+(c0+c1+(c2+c3)):=by omega
 rw[e1]
 have hde:d+B2<=600000000000000000:=by omega
 generalize hE0:d+B2=E0 at*
 generalize hE1:B1+B3=E1 at*
 generalize hE2:B2+B4=E2 at*
 generalize hE3:B3+B5=E3 at*
 generalize hE4:B4+B6=E4 at*
 have e2:E0/4294967296=E4:=by
  have:E0/4294967296=E0/256/256/256/256:=by rw[Nat.div_div_eq_div_mul,Nat.div_div_eq_div_mul,Nat.div_div_eq_div_mul]
  rw[this,t0,dv _ _ (by omega),t1,dv _ _ (by omega),t2,dv _ _ (by omega),t3,dv _ _ (by omega)]
 rw[e2]
 have hE4b:E4<=1000000000000:=by omega
 clear hd hB1 hB2 hB3 hB4 hB5 hB6 s0 s1 s2 s3 s4 s5 s6 s7 h hA1 hA2 hA3 hA4 hA5 hA6 hA7 e0 e1 t1 t2 t3 t6 hE0 hE1 hE2 hE3 hE4 e2
 refine⟨by omega,?_⟩
 have m:∀a b s t:Nat,(a*256+s+(b*256+t))%128=(s+t)%128:=fun a b s t=>by omega
 rw[t0,t4,m]
 omega
def rcn(m:Nat):Nat->Nat
 |0=>0
 |n+1=>rcn m n+(m.testBit n&&!(decide (0<n)&&m.testBit (n-1))).toNat
def arrF(m:Nat):Nat->Nat->List Int
 |0,_=>[]
 |f+1,i=>if m.testBit i then(i:Int)::arrF m f (i+1)else arrF m f (i+1)
def bmpF(m:Nat):Nat->Nat->List Int
 |0,_=>[]
 |f+1,i=>((m/2^(8*i)%256:Nat):Int)::bmpF m f (i+1)
def rend(m:Nat):Nat->Nat->Nat
 |0,i=>i
 |f+1,i=>if m.testBit (i+1)then rend m f (i+1)else i
def rnF(m:Nat):Nat->Nat->List Int
 |0,_=>[]
 |f+1,i=>if 256<=i then []else if m.testBit i then(i:Int)::((rend m (255-i) i-i:Nat):Int)::rnF m f (rend m (255-i) i+1)else rnF m f (i+1)
def kind(m:Nat):Nat:=if pcn m 256+1<=32/\pcn m 256+1<=2*rcn m 256+1 then 0 else if 32<=2*rcn m 256+1 then 1 else 2
def bodY(m:Nat):List Int:=if kind m=0 then((pcn m 256-1:Nat):Int)::arrF m 256 0 else if kind m=1 then bmpF m 32 0 else((rcn m 256-1:Nat):Int)::rnF m 256 0
def chkY(c:Nat×Nat):List Int:=uv c.1++((kind c.2:Nat):Int)::bodY c.2
def rowY:List (Nat×Nat)->List Int
 |[]=>[]
 |c::r=>chkY c++rowY r
def roaY(cs:List (Nat×Nat)):List Int:=uv cs.length++rowY cs
def putC(x:Nat):List (Nat×Nat)->List (Nat×Nat)
 |[]=>[(x/256,2^(x%256))]
 |c::r=>if c.1=x/256 then(c.1,c.2|||2^(x%256))::r else(x/256,2^(x%256))::c::r
def chs:List Nat->List (Nat×Nat)
 |[]=>[]
 |x::r=>putC x (chs r)
theorem rcn_le(m:Nat):∀n,rcn m n<=pcn m n:=by
 intro n
 induction n with
 |zero=>exact Nat.le_refl _
 | succ n ih=>
  show rcn m n+_<=pcn m n+_
  cases m.testBit n
  ·simpa using ih
  ·have:=b2n (true&&!(decide (0<n)&&m.testBit (n-1)))
   have e:true.toNat=1:=rfl
   omega
theorem arrF_len(m:Nat):∀f i,(arrF m f i).length+pcn m i=pcn m (i+f):=by
 intro f
 induction f with
 |zero=>intro i;simp[arrF]
 | succ f ih=>
  intro i
  have h:=ih (i+1)
  have e:i+1+f=i+(f+1):=by omega
  rw[e]at h
  have e2:pcn m (i+1)=pcn m i+(m.testBit i).toNat:=rfl
  rw[e2]at h
  unfold arrF
  cases hb:m.testBit i
  ·rw[hb]at h;simpa using h
  ·rw[hb]at h
   have e3:true.toNat=1:=rfl
   simp only[if_true,List.length_cons]
   omega
@[simp] theorem bmpF_len (m : Nat) : ∀ f i, (bmpF m f i).length = f := by
 intro f
 induction f with
 |zero=>intro i;rfl
 |succ f ih=>intro i;simp[bmpF,ih]
theorem rend_ok(m:Nat):∀f i,i<=rend m f i/\rend m f i<=i+f/\(∀j,i<j->j<=rend m f i->m.testBit j=true)/\(rend m f i<i+f->m.testBit (rend m f i+1)=false):=by
 intro f
 induction f with
 |zero=>intro i;exact⟨Nat.le_refl _,Nat.le_refl _,fun j h1 h2=>by have h2:j<=i:=h2;omega,fun h=>by have h:i<i+0:=h;omega⟩
 | succ f ih=>
  intro i
  unfold rend
  by_cases hb:m.testBit (i+1)=true
  ·rw[if_pos hb]
   obtain⟨h1,h2,h3,h4⟩:=ih (i+1)
   refine⟨by omega,by omega,fun j a b=>?_,fun h=>h4 (by omega)⟩
   by_cases e:j=i+1
   ·subst e;exact hb
   ·exact h3 j (by omega) b
  ·rw[if_neg hb]
   exact⟨Nat.le_refl _,by omega,fun j a b=>by omega,fun _=>by simpa using hb⟩
def inR(j:Nat):List Int->Prop
 |a::b::r=>(a<=(j:Int)/\(j:Int)<=a+b)\/inR j r
 |_=>False
theorem rnF_in(m:Nat):∀f i,256<=i+f->∀j,inR j (rnF m f i)↔(i<=j/\j<256/\m.testBit j=true):=by
  intro f
  induction f with
  | zero => intro i h j;show False↔_;constructor
            ·intro h;cases h
            ·intro h;omega
  | succ f ih=>
    intro i h j
    unfold rnF
    by_cases h1:256<=i
    · rw[if_pos h1]
      show False↔_
      constructor
      ·intro h;cases h
      ·intro h;omega
    · rw [if_neg h1]
      by_cases hb:m.testBit i=true
      · rw [if_pos hb]
        obtain⟨r1,r2,r3,r4⟩:=rend_ok m (255-i) i
        have hi:=ih (rend m (255-i) i+1) (by omega) j
        generalize rend m (255-i) i=e at*
        show(((i:Int)<=(j:Int)/\(j:Int)<=(i:Int)+((e-i:Nat):Int))\/inR j _)↔_
        rw[hi]
        constructor
        · rintro(q|q)
          · refine⟨by omega,by omega,?_⟩
            by_cases ej:j=i
            ·subst ej;exact hb
            ·exact r3 j (by omega) (by omega)
          ·exact⟨by omega,q.2.1,q.2.2⟩
        · intro q
          by_cases q1:j<=e
          ·exact .inl ⟨by omega,by omega⟩
          ·exact .inr ⟨by omega,q.2.1,q.2.2⟩
      · rw[if_neg hb,ih (i+1) (by omega) j]
        constructor
        ·intro q;exact⟨by omega,q.2.1,q.2.2⟩
        · intro q
          by_cases ej:j=i
          ·subst ej;exact absurd q.2.2 hb
          ·exact⟨by omega,q.2.1,q.2.2⟩
theorem rnF_len(m:Nat):∀f i,256<=i+f->i<=256->(i=0\/i=256\/m.testBit (i-1)=false\/m.testBit i=false)->(rnF m f i).length+2*rcn m i=2*rcn m 256:=by
  intro f
  induction f with
  | zero => intro i h hi _;have:i=256:=by omega
            subst this;simp[rnF]
  | succ f ih =>
    intro i h hi hs
    unfold rnF
    by_cases h1:256<=i
    · rw[if_pos h1]
      have:i=256:=by omega
      subst this;simp
    · rw [if_neg h1]
      have e1:rcn m (i+1)=rcn m i+(m.testBit i&&!(decide (0<i)&&m.testBit (i-1))).toNat:=rfl
      by_cases hb:m.testBit i=true
      · rw [if_pos hb]
        obtain⟨r1,r2,r3,r4⟩:=rend_ok m (255-i) i
        have e2:rcn m (i+1)=rcn m i+1:=by
          rw[e1,hb]
          have:(decide (0<i)&&m.testBit (i-1))=false:=by
            rcases hs with q|q|q|q
            ·simp[q]
            ·omega
            ·simp[q]
            ·rw[hb]at q;cases q
          rw[this];rfl
        have e3:∀d,i+1+d<=rend m (255-i) i+1->rcn m (i+1+d)=rcn m (i+1):=by
          intro d
          induction d with
          |zero=>intro _;rfl
          | succ d ihd=>
            intro hd
            have:=ihd (by omega)
            have e4:rcn m (i+1+(d+1))=rcn m (i+1+d)+(m.testBit (i+1+d)&&!(decide (0<i+1+d)&&m.testBit (i+1+d-1))).toNat:=rfl
            have e5:m.testBit (i+1+d-1)=true:=by
              by_cases q:d=0
              ·subst q;exact hb
              ·exact r3 _ (by omega) (by omega)
            have e8:(decide (0<i+1+d))=true:=by simp;omega
            rw[e4,this,e5,e8]
            simp
        have e6:=e3 (rend m (255-i) i-i) (by omega)
        have e7:i+1+(rend m (255-i) i-i)=rend m (255-i) i+1:=by omega
        rw[e7,e2]at e6
        have hi2:=ih (rend m (255-i) i+1) (by omega) (by omega) (by
          by_cases q:rend m (255-i) i<i+(255-i)
          ·exact .inr (.inr (.inr (r4 q)))
          ·exact .inr (.inl (by omega)))
        simp only[List.length_cons]
        omega
      · rw[if_neg hb]
        have hb':m.testBit i=false:=by simpa using hb
        have e2:rcn m (i+1)=rcn m i:=by rw[e1,hb'];rfl
        have:=ih (i+1) (by omega) (by omega) (.inr (.inr (.inl (by simpa using hb'))))
        omega
theorem rnF_len0(m:Nat):(rnF m 256 0).length=2*rcn m 256:=by
 have h:=rnF_len m 256 0 (by omega) (by omega) (.inl rfl)
 have e:rcn m 0=0:=rfl
 omega
theorem arrF_len0(m:Nat):(arrF m 256 0).length=pcn m 256:=by
 have h:=arrF_len m 256 0
 have e:pcn m 0=0:=rfl
 have e2:0+256=256:=rfl
 rw[e2]at h
 omega
theorem pcn_pos:∀(n m:Nat),0<pcn m n->∃j,j<n/\m.testBit j=true:=by
 intro n
 induction n with
 |zero=>intro m h;cases h
 | succ n ih=>
  intro m h
  cases hb:m.testBit n
  ·have e:pcn m (n+1)=pcn m n+(m.testBit n).toNat:=rfl
   rw[e,hb]at h
   obtain⟨j,h1,h2⟩:=ih m h
   exact⟨j,by omega,h2⟩
  ·exact⟨n,by omega,hb⟩
theorem pos_pcn:∀(n m j:Nat),j<n->m.testBit j=true->0<pcn m n:=by
 intro n
 induction n with
 |zero=>intro m j h;omega
 |succ n ih=>
  intro m j h hb
  have e:pcn m (n+1)=pcn m n+(m.testBit n).toNat:=rfl
  rw[e]
  by_cases hj:j=n
  ·subst hj;rw[hb];exact Nat.succ_pos _
  ·have:=ih m j (by omega) hb;omega
theorem rcn_pos{m:Nat}(h:0<pcn m 256):0<rcn m 256:=by
 obtain⟨j,h1,h2⟩:=pcn_pos 256 m h
 by_cases hr:rcn m 256=0
 ·have h3:=rnF_len0 m
  rw[hr]at h3
  have h4:rnF m 256 0=[]:=List.length_eq_zero_iff.mp h3
  have h5:=(rnF_in m 256 0 (by omega) j).mpr ⟨by omega,h1,h2⟩
  rw[h4]at h5
  cases h5
 ·omega
def okC(c:Nat×Nat):Prop:=c.1<16777216/\c.2<2^256/\0<pcn c.2 256
theorem zq(i j:Nat):(2^i).testBit j=decide (i=j):=Nat.testBit_two_pow
theorem or_lt{m x:Nat}(hm:m<2^256):m|||2^(x%256)<2^256:=Nat.or_lt_two_pow hm (Nat.pow_lt_pow_right (by decide) (by omega))
theorem pow_lt'(x:Nat):2^(x%256)<2^256:=Nat.pow_lt_pow_right (by decide) (by omega)
theorem zF(x:Nat)(c:Nat×Nat)(r:List (Nat×Nat)):putC x (c::r)=if c.1=x/256 then(c.1,c.2|||2^(x%256))::r else(x/256,2^(x%256))::c::r:=rfl
theorem putC_ok{x:Nat}(hx:x<4294967296):∀{cs:List (Nat×Nat)},(∀c∈cs,okC c)->∀c∈putC x cs,okC c:=by
 intro cs h c hc
 have new:okC (x/256,2^(x%256)):=⟨by show x/256<_;omega,pow_lt' x,pos_pcn 256 _ (x%256) (by omega) (by rw[zq];simp)⟩
 cases cs with
 |nil=>
  have e:c=(x/256,2^(x%256)):=by simpa[putC]using hc
  rw[e];exact new
 | cons d r=>
  have hd:=h d (by simp)
  rw[zF]at hc
  split at hc
  ·rcases List.mem_cons.mp hc with e|e
   ·rw[e]
    refine⟨hd.1,or_lt hd.2.1,pos_pcn 256 _ (x%256) (by omega) ?_⟩
    show(d.2|||2^(x%256)).testBit _=_
    rw[Nat.testBit_or,zq];simp
   ·exact h c (by simp[e])
  ·rcases List.mem_cons.mp hc with e|e
   ·rw[e];exact new
   ·exact h c e
theorem chs_ok:∀{l:List Nat},(∀x∈l,x<4294967296)->∀c∈chs l,okC c:=by
 intro l
 induction l with
 |nil=>intro _ c hc;cases hc
 |cons x r ih=>intro h;exact putC_ok (h x (by simp)) (ih fun y hy=>h y (by simp[hy]))
theorem chs_mem:∀(l:List Nat),zb l->((∀c∈chs l,∀x∈l.head?,x/256<=c.1)/\∀y,y∈l↔∃c∈chs l,c.1=y/256/\c.2.testBit (y%256)=true):=by
 intro l
 induction l with
 |nil=>intro _;exact⟨fun c hc=>(by cases hc),fun y=>by simp[chs]⟩
 | cons x r ih=>
  intro hr
  have hr2:zb r:=by cases r with
   |nil=>trivial
   |cons z s=>exact hr.2
  obtain⟨i1,i2⟩:=ih hr2
  have hge:∀c∈chs r,x/256<=c.1:=by
   intro c hc
   cases r with
   |nil=>cases hc
   |cons z s=>
    have h1:=i1 c hc z (by simp)
    have h2:=hr.1
    have:x/256<=z/256:=Nat.div_le_div_right (Nat.le_of_lt h2)
    omega
  have e:chs (x::r)=putC x (chs r):=rfl
  rw[e]
  constructor
  ·intro c hc z hz
   have hz:x=z:=by simpa using hz
   subst hz
   cases hq:chs r with
   |nil=>
    rw[hq]at hc
    have:c=(x/256,2^(x%256)):=by simpa[putC]using hc
    rw[this];exact Nat.le_refl _
   | cons d s=>
    rw[hq]at hc hge
    rw[zF]at hc
    split at hc
    ·rcases List.mem_cons.mp hc with e|e
     ·rw[e];exact hge d (by simp)
     ·exact hge c (by simp[e])
    ·rcases List.mem_cons.mp hc with e|e
     ·rw[e];exact Nat.le_refl _
     ·exact hge c e
  ·intro y
   rw[List.mem_cons,i2]
   cases hq:chs r with
   |nil=>
    simp only[putC,List.mem_singleton,exists_eq_left,List.not_mem_nil,false_and,exists_false,or_false,zq,decide_eq_true_eq]
    constructor
    ·intro h;subst h;exact⟨rfl,rfl⟩
    ·intro h;omega
   | cons d s=>
    rw[zF]
    split
    ·rename_i hd
     constructor
     ·rintro(h|⟨c,hc,h1,h2⟩)
      ·subst h
       exact⟨_,List.mem_cons_self,hd,by show(d.2|||_).testBit _=true;rw[Nat.testBit_or,zq];simp⟩
      ·rcases List.mem_cons.mp hc with e|e
       ·subst e
        exact⟨_,List.mem_cons_self,h1,by show(c.2|||_).testBit _=true;rw[Nat.testBit_or,h2];rfl⟩
       ·exact⟨c,by simp[e],h1,h2⟩
     ·rintro⟨c,hc,h1,h2⟩
      rcases List.mem_cons.mp hc with e|e
      ·subst e
       rw[Nat.testBit_or,zq]at h2
       by_cases hy:x%256=y%256
       ·left
        have h1:d.1=y/256:=h1
        omega
       ·right
        exact⟨d,by simp,h1,by simpa[hy]using h2⟩
      ·exact .inr ⟨c,by simp[e],h1,h2⟩
    ·rename_i hd
     constructor
     ·rintro(h|⟨c,hc,h1,h2⟩)
      ·subst h
       exact⟨_,List.mem_cons_self,rfl,by show(2^_).testBit _=true;rw[zq];simp⟩
      ·exact⟨c,List.mem_cons_of_mem _ hc,h1,h2⟩
     ·rintro⟨c,hc,h1,h2⟩
      rcases List.mem_cons.mp hc with e|e
      ·subst e
       rw[zq]at h2
       have h1:x/256=y/256:=h1
       have h2:x%256=y%256:=by simpa using h2
       left;omega
      ·exact .inr ⟨c,e,h1,h2⟩
theorem rising_lt:∀(l:List Nat) (x:Nat),zb (x::l)->∀y∈l,x<y:=by
 intro l
 induction l with
 |nil=>intro x _ y h;cases h
 |cons z s ih=>
  intro x h y hy
  rcases List.mem_cons.mp hy with e|e
  ·rw[e];exact h.1
  ·have:=ih z h.2 y e;have:=h.1;omega
theorem jQ{x:Nat}{l:List Nat}(h:zb (x::l)):zb l:=by
 cases l with
 |nil=>trivial
 |cons z s=>exact h.2
theorem rising_ext:∀(l m:List Nat),zb l->zb m->(∀y,y∈l↔y∈m)->l=m:=by
 intro l
 induction l with
 |nil=>
  intro m _ _ h
  cases m with
  |nil=>rfl
  |cons y s=>exact absurd ((h y).mpr (by simp)) (by simp)
 | cons x r ih=>
  intro m h1 h2 h
  cases m with
  |nil=>exact absurd ((h x).mp (by simp)) (by simp)
  | cons y s=>
   have l1:=rising_lt r x h1
   have l2:=rising_lt s y h2
   have e:x=y:=by
    rcases List.mem_cons.mp ((h x).mp (by simp))with e|e
    ·exact e
    ·rcases List.mem_cons.mp ((h y).mpr (by simp))with e'|e'
     ·exact e'.symm
     ·have:=l1 y e';have:=l2 x e;omega
   subst e
   rw[ih s (jQ h1) (jQ h2) fun y=>?_]
   have hy:=h y
   constructor
   ·intro q
    rcases List.mem_cons.mp (hy.mp (by simp[q]))with e|e
    ·have:=l1 y q;omega
    ·exact e
   ·intro q
    rcases List.mem_cons.mp (hy.mpr (by simp[q]))with e|e
    ·have:=l2 y q;omega
    ·exact e
noncomputable section
def B38_11(x0 x5 x6:AV)(v7:Value)(x38:AV)(v39 v40:Value)(b2 b4:List AV)(hp:Hp):=gb 38 [cc 16360 cd38,cc 16361 cd38,cl 8180 cd38,.inBlock 0,cc 1023 cd38] [va 0 x0,(2,.lp 2 0 0),(4,.lp 4 0 0),va 5 x5,va 6 x6,vs 7 v7,va 38 x38,vs 39 v39,vs 40 v40] [(2,0,b2),(4,0,b4)] hp
def B38_14(b2:List AV)(hp:Hp):=gb 38 [cc 4188564 cd38,cc 53 cd38,cc 523571 cd38,.inBlock 1,cc 65447 cd38,cl 8180 cd38,.inBlock 0,cc 1023 cd38] [(2,.lp 2 0 0)] [(2,0,b2)] hp
def B38_15(x0 x5 x6:AV)(v7 v9:Value)(x38:AV)(v39 v40:Value)(b2 b4:List AV)(hp:Hp):=gb 38 [cc 1047142 cd38,cc 1047143 cd38,.inBlock 1,cc 65447 cd38,cl 8180 cd38,.inBlock 0,cc 1023 cd38] [va 0 x0,(2,.lp 2 0 0),(4,.lp 4 0 0),va 5 x5,va 6 x6,vs 7 v7,vs 9 v9,va 38 x38,vs 39 v39,vs 40 v40] [(2,0,b2),(4,0,b4)] hp
theorem E38(a0:AV)(hp:Hp):run cxX 38 [a0] hp=ln (ro a0) fun y0=>iC .gtr 3 11 (kI y0) (kI 4096) (rQ (.tup [.agg [.sc (kI 0),.sc (kW 0),.sc (kI 0),nl,nl],.sc (kI 7)]) hp) (ln (ro a0) fun y3=>ln (ro a0) fun y4=>iC .eql 3 18 (kI y4) (kI 0) (rQ (.tup [.agg [.sc (kI y3),.sc (kW 0),.sc (kI 0),nl,nl],.sc (kI 0)]) hp) (ln (ro a0) fun y7=>bC .sub 3 23 (kI y7) (kI 1) fun y8=>ixS (ro a0) y8 fun y10=>ln (ro a0) fun y11=>(qe [.sc (kI y3),.sc y10,.sc (kI 0),nl,nl] 1).bind fun y12=>pS 91 [.sc (kI y11),.sc y12] fun y16=>ln (ro a0) fun y17=>B38_11 a0 (AV.ptr hp.1 0 0) (AV.ptr (Hp.new hp [nl,.sc (kI 0)]).1 0 0) (kW 0) (ro a0) (kI y17) (kI 0) [.sc (kI 0),.sc (kW 0),.sc (kI 0),nl,nl] [.sc (kI y3),.sc y10,.sc y16,nl,nl] (Hp.new (Hp.new hp [nl,.sc (kI 0)]) [nl,.sc (kI 0)]))):=
 (eE 38 ss38 _ _).trans (by kernel_rfl)
theorem B38_11_eq(x0 x5 x6:AV)(v7:Value)(x38:AV)(v39 v40:Value)(b2 b4:List AV)(hp:Hp):B38_11 x0 x5 x6 v7 x38 v39 v40 b2 b4 hp=iT .lss 3 40 39 v40 v39 (ixS x38 v40 fun y21=>iC .gtr 3 45 v40 (kI 0) (bC .sub 3 50 v40 (kI 1) fun y24=>ixS (ro x0) y24 fun y26=>iT .lss 30 48 53 y21 y26 (B38_14 b2 hp) (B38_15 x0 x5 x6 v7 y21 x38 v39 v40 b2 b4 hp)) (B38_15 x0 x5 x6 v7 y21 x38 v39 v40 b2 b4 hp)) (cA 87 [r2 x5] hp fun z1 h2=>cA 87 [r2 x6] h2 fun z3 h4=>(qg 1 z1).bind fun y33=>(putN b4 3 y33).bind fun y34=>(qg 1 z3).bind fun y35=>(putN y34 4 y35).bind fun y36=>(getN y36 0 5).bind fun y37=>(putN y36 0 (List.map ro1 y37)).bind fun y38=>(qg 5 (.agg y37)).bind fun y39=>(putN b2 0 y39).bind fun y40=>(getN y40 0 5).bind fun y41=>rQ (.tup [.agg y41,.sc (kI 0)]) h4):=
 (eB 38 ss38 _ _).trans (by kernel_rfl)
theorem B38_15_eq(x0 x5 x6:AV)(v7 v9:Value)(x38:AV)(v39 v40:Value)(b2 b4:List AV)(hp:Hp):B38_15 x0 x5 x6 v7 v9 x38 v39 v40 b2 b4 hp=cV 30 76 v9 fun y44=>(qe b4 2).bind fun y45=>cT 86 [r2 x5,.sc y44,.sc y45] hp fun h1=>(qe b4 2).bind fun y48=>bT .shr 30 64 66 v9 y48 fun y49=>bT .sub 30 67 68 y49 v7 fun y50=>cV 30 3 y50 fun y51=>cT 85 [r2 x6,.sc y51] h1 fun h2=>(qe b4 2).bind fun y54=>bT .shr 30 72 74 v9 y54 fun y55=>bC .add 3 40 v40 (kI 1) fun y56=>B38_11 x0 x5 x6 y55 x38 v39 y56 b2 b4 h2:=
 (eB 38 ss38 _ _).trans (by kernel_rfl)
theorem E39(a0 a1:AV)(hp:Hp):run cxX 39 [a0,a1] hp=(qg 5 a0).bind fun y0=>(qe (List.map ro1 y0) 0).bind fun y1=>cV 3 76 y1 fun y2=>cT 25 [r2 a1,.sc y2] hp fun h1=>(qe (List.map ro1 y0) 1).bind fun y5=>cV 30 76 y5 fun y6=>cT 25 [r2 a1,.sc y6] h1 fun h2=>(getC (List.map ro1 y0) 3).bind fun y9=>cT 35 [r2 a1,ro (ro1 y9)] h2 fun h3=>(getC (List.map ro1 y0) 4).bind fun y12=>ln (ro1 y12) fun y13=>cV 3 76 (kI y13) fun y14=>cT 25 [r2 a1,.sc y14] h3 fun h4=>(getC (List.map ro1 y0) 4).bind fun y17=>cT 35 [r2 a1,ro (ro1 y17)] h4 fun h5=>rQ (.tup []) h5:=
 (eE 39 ss39 _ _).trans (by kernel_rfl)
def B49_10(x0:AV)(b2:List AV)(hp:Hp):=gb 49 [cc 8172 cd49,cc 8173 cd49,cc 511 cd49] [va 0 x0,(2,.lp 2 0 0)] [(2,0,b2)] hp
def B49_12(b2 b3:List AV)(hp:Hp):=gb 49 [cc 1022 cd49,cc 1013 cd49] [(2,.lp 2 0 0),(3,.lp 3 0 0)] [(2,0,b2),(3,0,b3)] hp
theorem E49(a0:AV)(hp:Hp):run cxX 49 [a0] hp=cS 45 [r2 a0,.sc (kU 4096)] hp fun y1 h1=>cV 76 3 y1 fun y2=>cS 45 [r2 a0,.sc (kU 4294967295)] h1 fun y4 h2=>cV 76 30 y4 fun y5=>(qe [.sc y2,.sc y5,.sc (kI 0),nl,nl] 0).bind fun y6=>(qe [.sc y2,.sc y5,.sc (kI 0),nl,nl] 1).bind fun y7=>pS 91 [.sc y6,.sc y7] fun y11=>(qe [.sc y2,.sc y5,.sc y11,nl,nl] 0).bind fun y12=>(qe [.sc y2,.sc y5,.sc y11,nl,nl] 2).bind fun y13=>bT .mul 3 22 24 y12 y13 fun y14=>bC .add 3 25 y14 (kI 7) fun y15=>bC .quo 3 26 y15 (kI 8) fun y16=>cA 102 [r2 a0,.sc y16] h2 fun z3 h4=>(qg 1 z3).bind fun y19=>(putN [.sc y2,.sc y5,.sc y11,nl,nl] 3 y19).bind fun y20=>cS 45 [r2 a0,.sc (kU 1048576)] h4 fun y22 h5=>cV 76 3 y22 fun y23=>cA 102 [r2 a0,.sc y23] h5 fun z6 h7=>(qg 1 z6).bind fun y26=>(putN y20 4 y26).bind fun y27=>cS 93 [r2 a0] h7 fun y29 h8=>iC .neq 57 37 y29 (kI 0) (rQ (.agg [.sc (kI 0),.sc (kW 0),.sc (kI 0),nl,nl]) h8) ((getN y27 0 5).bind fun y32=>pA 50 [.agg (List.map ro1 y32)] fun z9=>pT 2 38 [ro z9] fun z10=>nS z10 1 fun y41=>(qg 5 (ro (nthA z10 0))).bind fun y42=>(putN [.sc (kI 0),.sc (kW 0),.sc (kI 0),nl,nl] 0 y42).bind fun y43=>ln (ro z9) fun y44=>(qe y27 0).bind fun y45=>iT .neq 3 48 50 (kI y44) y45 (B49_10 a0 [.sc (kI 0),.sc (kW 0),.sc (kI 0),nl,nl] h8) (iC .neq 57 53 y41 (kI 0) (B49_10 a0 [.sc (kI 0),.sc (kW 0),.sc (kI 0),nl,nl] h8) ((getN y27 0 5).bind fun y50=>(getN y43 0 5).bind fun y51=>pS 104 [.agg (List.map ro1 y50),.agg (List.map ro1 y51)] fun y55=>iN y55 (B49_10 a0 [.sc (kI 0),.sc (kW 0),.sc (kI 0),nl,nl] h8) (B49_12 [.sc (kI 0),.sc (kW 0),.sc (kI 0),nl,nl] y27 h8)))):=
 (eE 49 ss49 _ _).trans (by kernel_rfl)
theorem B49_12_eq(b2 b3:List AV)(hp:Hp):B49_12 b2 b3 hp=(getN b3 0 5).bind fun y62=>(putN b3 0 (List.map ro1 y62)).bind fun y63=>(qg 5 (.agg y62)).bind fun y64=>(putN b2 0 y64).bind fun y65=>(getN y65 0 5).bind fun y66=>rQ (.agg y66) hp:=
 (eB 49 ss49 _ _).trans (by kernel_rfl)
def B50_4(x3 x4:AV)(v5 v6:Value)(hp:Hp):=gb 50 [cc 976 cd50,cc 977 cd50,cc 489 cd50,cl 244 cd50,.inBlock 0,cc 31 cd50] [va 3 x3,va 4 x4,vs 5 v5,vs 6 v6] [] hp
theorem E50(a0:AV)(hp:Hp):run cxX 50 [a0] hp=(qg 5 a0).bind fun y0=>(getN (List.map ro1 y0) 0 5).bind fun y1=>cA 105 [ro (.agg (List.map ro1 y1))] hp fun z1 h2=>cN 2 106 [r2 z1] h2 fun z3 h4=>nS z3 0 fun y6=>nS z3 1 fun y7=>B50_4 nl z1 y6 y7 h4:=
 (eE 50 ss50 _ _).trans (by kernel_rfl)
theorem B50_4_eq(x3 x4:AV)(v5 v6:Value)(hp:Hp):B50_4 x3 x4 v5 v6 hp=iB v6 (ap 4 x3 v5 fun y10=>cN 2 106 [r2 x4] hp fun z1 h2=>nS z1 0 fun y13=>nS z1 1 fun y14=>B50_4 y10 x4 y13 y14 h2) (rQ x3 hp):=
 (eB 50 ss50 _ _).trans (by kernel_rfl)
def B91_2(v0 v1 v5:Value)(hp:Hp):=gb 91 [cc 224 cd91,cc 225 cd91,cc 113 cd91,cl 56 cd91,.inBlock 0,cc 15 cd91] [vs 0 v0,vs 1 v1,vs 5 v5] [] hp
def B91_3(v0 v1 v5:Value)(hp:Hp):=gb 91 [cc 226 cd91,.inBlock 1,cl 56 cd91,.inBlock 0,cc 15 cd91] [vs 0 v0,vs 1 v1,vs 5 v5] [] hp
def B91_4(v5:Value)(hp:Hp):=gb 91 [cc 30 cd91,cc 31 cd91] [vs 5 v5] [] hp
theorem E91(a0 a1:AV)(hp:Hp):run cxX 91 [a0,a1] hp=aS a0 fun y0=>aS a1 fun y1=>B91_2 y0 y1 (kI 0) hp:=
 (eE 91 ss91 _ _).trans (by kernel_rfl)
theorem B91_2_eq(v0 v1 v5:Value)(hp:Hp):B91_2 v0 v1 v5 hp=iC .gtr 3 6 v0 (kI 0) (cV 30 76 v1 fun y4=>bC .add 3 11 v5 (kI 1) fun y5=>bT .shr 76 10 12 y4 y5 fun y6=>cV 3 76 v0 fun y7=>iT .geq 76 13 15 y6 y7 (B91_3 v0 v1 v5 hp) (B91_4 v5 hp)) (B91_4 v5 hp):=
 (eB 91 ss91 _ _).trans (by kernel_rfl)
theorem B91_3_eq(v0 v1 v5:Value)(hp:Hp):B91_3 v0 v1 v5 hp=bC .add 3 18 v5 (kI 1) fun y10=>B91_2 v0 v1 y10 hp:=
 (eB 91 ss91 _ _).trans (by kernel_rfl)
theorem B91_4_eq(v5:Value)(hp:Hp):B91_4 v5 hp=rQ (.sc v5) hp:=
 (eB 91 ss91 _ _).trans (by kernel_rfl)
theorem E104(a0 a1:AV)(hp:Hp):run cxX 104 [a0,a1] hp=(qg 5 a0).bind fun y0=>(qg 5 a1).bind fun y1=>(qe (List.map ro1 y0) 0).bind fun y2=>(qe (List.map ro1 y1) 0).bind fun y3=>iT .eql 3 6 8 y2 y3 ((qe (List.map ro1 y0) 1).bind fun y6=>(qe (List.map ro1 y1) 1).bind fun y7=>iT .eql 30 12 14 y6 y7 ((getC (List.map ro1 y0) 3).bind fun y10=>(srcA 1 (ro1 y10)).bind fun y11=>(qX y11).bind fun y12=>(getC (List.map ro1 y1) 3).bind fun y13=>(srcA 1 (ro1 y13)).bind fun y14=>(qX y14).bind fun y15=>iT .eql 9 20 23 (Value.string (ByteArray.mk (Array.mk y12))) (Value.string (ByteArray.mk (Array.mk y15))) ((getC (List.map ro1 y0) 4).bind fun y18=>(srcA 1 (ro1 y18)).bind fun y19=>(qX y19).bind fun y20=>(getC (List.map ro1 y1) 4).bind fun y21=>(srcA 1 (ro1 y21)).bind fun y22=>(qX y22).bind fun y23=>bT .eql 9 29 32 (Value.string (ByteArray.mk (Array.mk y20))) (Value.string (ByteArray.mk (Array.mk y23))) fun y24=>rQ (.sc y24) hp) (rQ (.sc (.bool false)) hp)) (rQ (.sc (.bool false)) hp)) (rQ (.sc (.bool false)) hp):=
 (eE 104 ss104 _ _).trans (by kernel_rfl)
theorem E105(a0:AV)(hp:Hp):run cxX 105 [a0] hp=(qg 5 a0).bind fun y0=>(getN (List.map ro1 y0) 0 5).bind fun y1=>(getC (List.map ro1 y0) 3).bind fun y2=>cA 147 [ro (ro1 y2)] hp fun z1 h2=>(getC (List.map ro1 y0) 4).bind fun y5=>cA 147 [ro (ro1 y5)] h2 fun z3 h4=>(qg 5 (.agg (List.map ro1 y1))).bind fun y8=>(putN [.sc (kI 0),.sc (kW 0),.sc (kI 0),nl,nl,.sc (Value.pointer none),.sc (Value.pointer none),.sc (kI 0),.sc (kW 0)] 0 y8).bind fun y9=>(qg 1 z1).bind fun y10=>(putN y9 5 y10).bind fun y11=>(qg 1 z3).bind fun y12=>(putN y11 6 y12).bind fun y13=>(qg 9 (.agg (List.map ro1 y13))).bind fun y14=>rQ (AV.ptr h4.1 0 0) (Hp.new h4 (List.map ro1 y14)):=
 (eE 105 ss105 _ _).trans (by kernel_rfl)
def B106_2(hp:Hp):=gb 106 [cc 52 cd106,cc 53 cd106,cc 7 cd106] [] [] hp
def B106_3(x0:AV)(hp:Hp):=gb 106 [cc 14 cd106,cc 15 cd106] [va 0 x0] [] hp
def B106_6(x0:AV)(hp:Hp):=gb 106 [cc 500 cd106,cc 501 cd106,cc 63 cd106] [va 0 x0] [] hp
def B106_8(x0:AV)(v4:Value)(hp:Hp):=gb 106 [cc 126 cd106,cc 127 cd106] [va 0 x0,vs 4 v4] [] hp
theorem E106(a0:AV)(hp:Hp):run cxX 106 [a0] hp=iZ (ro a0) (B106_2 hp) (ldS 7 (ro a0) hp fun y4=>ldS 0 (ro a0) hp fun y8=>iT .geq 3 11 16 y4 y8 (B106_2 hp) (B106_3 a0 hp)):=
 (eE 106 ss106 _ _).trans (by kernel_rfl)
theorem B106_2_eq(hp:Hp):B106_2 hp=rQ (.tup [.sc (kW 0),.sc (.bool false)]) hp:=
 (eB 106 ss106 _ _).trans (by kernel_rfl)
theorem B106_3_eq(x0:AV)(hp:Hp):B106_3 x0 hp=(nnA (ro x0)).bind fun y11=>(qz (ro x0)).bind fun y12=>(Hp.rd hp y12.1 y12.2.1).bind fun y13=>(qe y13 (Nat.succ (Nat.succ (Nat.succ (Nat.succ (Nat.succ (Nat.succ (Nat.succ (Nat.succ y12.2.2))))))))).bind fun y14=>ldC 6 (ro x0) hp fun y18=>ldS 1 (ro x0) hp fun y22=>ldS 2 (ro x0) hp fun y26=>bT .shr 30 31 36 y22 y26 fun y27=>cV 30 3 y27 fun y28=>bC .add 3 38 y28 (kI 1) fun y29=>cS 149 [ro (ro1 y18),.sc y29] hp fun y31 h1=>cV 3 30 y31 fun y32=>bT .add 30 22 41 y14 y32 fun y33=>stN 8 (ro x0) h1 [.sc y33] fun h2=>(jw (Prod.mk (AV.ptr y12.1 y12.2.1 (Nat.succ (Nat.succ (Nat.succ (Nat.succ (Nat.succ (Nat.succ (Nat.succ (Nat.succ y12.2.2))))))))) 1) hp.2 h1.2).bind fun y38=>(nnA (ro x0)).bind fun y39=>(qz (ro x0)).bind fun y40=>(Hp.rd h2 y40.1 y40.2.1).bind fun y41=>(qe y41 (Nat.succ (Nat.succ (Nat.succ (Nat.succ (Nat.succ (Nat.succ (Nat.succ (Nat.succ y40.2.2))))))))).bind fun y42=>(nnA (ro x0)).bind fun y43=>(qz (ro x0)).bind fun y44=>(Hp.rd h2 y44.1 y44.2.1).bind fun y45=>(qe y45 (Nat.succ (Nat.succ y44.2.2))).bind fun y46=>bT .shl 30 48 53 y42 y46 fun y47=>ldC 5 (ro x0) h2 fun y51=>ldS 2 (ro x0) h2 fun y55=>cS 150 [ro (ro1 y51),.sc y55] h2 fun y57 h3=>cV 76 30 y57 fun y58=>bT .or 30 54 65 y47 y58 fun y59=>(jw (Prod.mk (AV.ptr y44.1 y44.2.1 (Nat.succ (Nat.succ y44.2.2))) 1) h2.2 h3.2).bind fun y60=>(jw (Prod.mk (AV.ptr y40.1 y40.2.1 (Nat.succ (Nat.succ (Nat.succ (Nat.succ (Nat.succ (Nat.succ (Nat.succ (Nat.succ y40.2.2))))))))) 1) h2.2 h3.2).bind fun y61=>ldC 6 (ro x0) h3 fun y65=>cS 151 [ro (ro1 y65)] h3 fun y67 h4=>iB y67 (B106_6 x0 h4) (ldC 5 (ro x0) h4 fun y72=>cS 151 [ro (ro1 y72)] h4 fun y74 h5=>iB y74 (B106_6 x0 h5) (B106_8 x0 y59 h5)):=
 (eB 106 ss106 _ _).trans (by kernel_rfl)
theorem B106_8_eq(x0:AV)(v4:Value)(hp:Hp):B106_8 x0 v4 hp=ldS 7 (ro x0) hp fun y87=>bC .add 3 90 y87 (kI 1) fun y88=>stN 7 (ro x0) hp [.sc y88] fun h1=>rQ (.tup [.sc v4,.sc (.bool true)]) h1:=
 (eB 106 ss106 _ _).trans (by kernel_rfl)
end
def zQ:List Nat->Prop
 |[]=>True
 |[_]=>True
 |x::y::r=>x<=y/\zQ (y::r)
def lowG(n last:Nat):Nat->Nat->Nat
 |0,k=>k
 |f+1,k=>if 0<n/\n<=last/2^(k+1)then lowG n last f (k+1)else k
def lowF(n last:Nat):Nat:=lowG n last 33 0
def za(k:Nat):List Nat->List Bool
 |[]=>[]
 |x::r=>nbs x k++za k r
def qD(k w:Nat):List Nat->List Bool
 |[]=>[]
 |x::r=>una (x/2^k-w)++qD k (x/2^k) r
def qy(l:List Nat):Nat:=l.getD (l.length-1) 0
def fanK(l:List Nat):Nat:=lowF l.length (qy l)
def fanY(l:List Nat):List Int:=uv l.length++uv (qy l)++pk (za (fanK l) l)++uv (pk (qD (fanK l) 0 l)).length++pk (qD (fanK l) 0 l)
@[simp] theorem lowsB_len (k : Nat) (l : List Nat) : (za k l).length = l.length * k := by
 induction l with
 |nil=>simp[za]
 |cons x r ih=>simp[za,ih,Nat.add_mul];omega
theorem lowG_ok(n last:Nat)(hn:0<n)(hl:last<4294967296):∀(f k:Nat),k+f=33->lowG n last f k<=33/\last/2^(lowG n last f k+1)<n:=by
 intro f
 induction f with
 |zero=>
  intro k h
  have e:k=33:=by omega
  subst e
  refine⟨Nat.le_refl _,?_⟩
  show last/2^34<n
  have:last/2^34=0:=Nat.div_eq_of_lt (Nat.lt_of_lt_of_le hl (by decide))
  omega
 | succ f ih=>
  intro k h
  unfold lowG
  split
  ·exact ih (k+1) (by omega)
  ·rename_i h1
   refine⟨by omega,?_⟩
   by_cases h2:n<=last/2^(k+1)
   ·exact absurd ⟨hn,h2⟩ h1
   ·omega
theorem lowG_le(n last:Nat)(hl:last<4294967296):∀(f k:Nat),k<=32->lowG n last f k<=32:=by
 intro f
 induction f with
 |zero=>intro k h;exact h
 | succ f ih=>
  intro k h
  unfold lowG
  split
  ·rename_i h1
   apply ih
   by_cases h2:k=32
   ·subst h2
    have:last/2^33=0:=Nat.div_eq_of_lt (Nat.lt_of_lt_of_le hl (by decide))
    have h3:=h1.2
    have e:(32:Nat)+1=33:=rfl
    rw[e,this]at h3
    omega
   ·omega
  ·exact h
theorem lowF_le(n last:Nat)(hl:last<4294967296):lowF n last<=32:=lowG_le n last hl 33 0 (by omega)
theorem lowF_two{n last:Nat}(hn:0<n)(hl:last<4294967296):last/2^lowF n last<2*n:=by
 have h:=(lowG_ok n last hn hl 33 0 rfl).2
 have e:last/2^(lowF n last+1)=last/2^lowF n last/2:=by rw[Nat.pow_succ,Nat.div_div_eq_div_mul]
 have h':last/2^(lowF n last+1)<n:=h
 omega
theorem lastN_cons(x y:Nat)(r:List Nat):qy (x::y::r)=qy (y::r):=rfl
theorem highB_len(k:Nat):∀(l:List Nat) (p:Nat),zQ (p::l)->(qD k (p/2^k) l).length+p/2^k=l.length+qy (p::l)/2^k:=by
 intro l
 induction l with
 |nil=>intro p _;simp[qD,qy]
 |cons x r ih=>
  intro p h
  have hi:=ih x h.2
  have hd:p/2^k<=x/2^k:=Nat.div_le_div_right h.1
  rw[lastN_cons]
  simp only[qD,List.length_append,una_len,List.length_cons]
  omega
theorem jT:∀{l:List Nat},zQ l->zQ (0::l):=by
 intro l h
 cases l with
 |nil=>trivial
 |cons x r=>exact⟨Nat.zero_le _,h⟩
theorem highB_len0(k:Nat)(l:List Nat)(h:zQ l):(qD k 0 l).length=l.length+qy l/2^k:=by
 have h1:=highB_len k l 0 (jT h)
 rw[Nat.zero_div,Nat.add_zero]at h1
 rw[h1]
 cases l with
 |nil=>rfl
 |cons x r=>rw[lastN_cons]
noncomputable section
def B34_7(x0:AV)(v5:Value)(x6:AV)(v20 v21:Value)(hp:Hp):=gb 34 [cc 1000 cd34,cc 1001 cd34,cl 500 cd34,.inBlock 0,cc 63 cd34] [va 0 x0,vs 5 v5,va 6 x6,vs 20 v20,vs 21 v21] [] hp
theorem E34(a0:AV)(hp:Hp):run cxX 34 [a0] hp=pS 82 [ro a0] fun y3=>iC .neq 57 12 y3 (kI 0) (rQ (.tup [nl,.sc y3]) hp) (pS 83 [ro a0] fun y9=>ln (ro a0) fun y10=>B34_7 a0 y9 (AV.ptr hp.1 0 0) (kI y10) (kI 0) (Hp.new hp [nl,.sc (kI 0)])):=
 (eE 34 ss34 _ _).trans (by kernel_rfl)
theorem B34_7_eq(x0:AV)(v5:Value)(x6:AV)(v20 v21:Value)(hp:Hp):B34_7 x0 v5 x6 v20 v21 hp=iT .lss 3 21 20 v21 v20 (pS 84 [ro x0,.sc v21] fun y16=>bT .shr 76 28 29 y16 v5 fun y17=>cV 76 3 y17 fun y18=>cT 85 [r2 x6,.sc y18] hp fun h1=>cT 86 [r2 x6,.sc y16,.sc v5] h1 fun h2=>bC .add 3 21 v21 (kI 1) fun y23=>B34_7 x0 v5 x6 v20 y23 h2) (ln (ro x0) fun y24=>cV 3 76 (kI y24) fun y25=>cT 25 [r2 (AV.ptr hp.1 0 0),.sc y25] (Hp.new hp [nl]) fun h3=>cV 3 5 v5 fun y28=>cT 36 [r2 (AV.ptr hp.1 0 0),.sc y28] h3 fun h4=>cA 87 [r2 x6] h4 fun z5 h6=>ln z5 fun y33=>cV 3 76 (kI y33) fun y34=>cT 25 [r2 (AV.ptr hp.1 0 0),.sc y34] h6 fun h7=>cA 87 [r2 x6] h7 fun z8 h9=>cT 35 [r2 (AV.ptr hp.1 0 0),ro z8] h9 fun h10=>cA 13 [r2 (AV.ptr hp.1 0 0)] h10 fun z11 h12=>rQ (.tup [z11,.sc (kI 0)]) h12):=
 (eB 34 ss34 _ _).trans (by kernel_rfl)
def B46_3(x0 x3 x4:AV)(hp:Hp):=gb 46 [cc 480 cd46,cc 481 cd46,.inBlock 1,cl 120 cd46,.inBlock 0,cc 31 cd46] [va 0 x0,va 3 x3,va 4 x4] [] hp
def B46_9(x0 x3 x4:AV)(hp:Hp):=gb 46 [cc 252 cd46,cc 253 cd46,cc 127 cd46] [va 0 x0,va 3 x3,va 4 x4] [] hp
def B46_10(x0 x4:AV)(hp:Hp):=gb 46 [cc 506 cd46,cc 127 cd46] [va 0 x0,va 4 x4] [] hp
def B46_11(x0 x4:AV)(hp:Hp):=gb 46 [cc 508 cd46,cc 509 cd46,cc 255 cd46] [va 0 x0,va 4 x4] [] hp
theorem E46(a0:AV)(hp:Hp):run cxX 46 [a0] hp=cA 98 [r2 a0] hp fun z1 h2=>B46_3 a0 z1 nl h2:=
 (eE 46 ss46 _ _).trans (by kernel_rfl)
theorem B46_3_eq(x0 x3 x4:AV)(hp:Hp):B46_3 x0 x3 x4 hp=cN 2 99 [r2 x3] hp fun z1 h2=>nS z1 0 fun y4=>nS z1 1 fun y5=>iN y5 (cS 100 [r2 x3] h2 fun y9 h3=>iC .neq 57 23 y9 (kI 0) (cT 95 [r2 x0,.sc y9] h3 fun h4=>B46_9 x0 x3 x4 h4) (B46_9 x0 x3 x4 h3)) (ap 8 x4 y4 fun y15=>B46_3 x0 x3 y15 h2):=
 (eB 46 ss46 _ _).trans (by kernel_rfl)
theorem B46_9_eq(x0 x3 x4:AV)(hp:Hp):B46_9 x0 x3 x4 hp=cS 93 [r2 x0] hp fun y17 h1=>iC .eql 57 29 y17 (kI 0) (pS 83 [ro x4] fun y23=>ldS 1 (ro x3) h1 fun y27=>iT .neq 3 33 37 y23 y27 (B46_10 x0 x4 h1) (B46_11 x0 x4 h1)) (B46_11 x0 x4 h1):=
 (eB 46 ss46 _ _).trans (by kernel_rfl)
theorem B46_11_eq(x0 x4:AV)(hp:Hp):B46_11 x0 x4 hp=cS 93 [r2 x0] hp fun y33 h1=>iC .neq 57 43 y33 (kI 0) (rQ nl h1) (rQ x4 h1):=
 (eB 46 ss46 _ _).trans (by kernel_rfl)
def B82_4(x0:AV)(v3:Value)(hp:Hp):=gb 82 [cc 464 cd82,cc 465 cd82,cc 233 cd82,cl 116 cd82,.inBlock 0,cc 15 cd82] [va 0 x0,vs 3 v3] [] hp
theorem E82(a0:AV)(hp:Hp):run cxX 82 [a0] hp=ln (ro a0) fun y0=>iC .gtr 3 5 (kI y0) (kI 4096) (rQ (.sc (kI 7)) hp) (B82_4 a0 (kI 1) hp):=
 (eE 82 ss82 _ _).trans (by kernel_rfl)
theorem B82_4_eq(x0:AV)(v3:Value)(hp:Hp):B82_4 x0 v3 hp=ln (ro x0) fun y3=>iT .lss 3 7 9 v3 (kI y3) (ixS (ro x0) v3 fun y7=>bC .sub 3 18 v3 (kI 1) fun y8=>ixS (ro x0) y8 fun y10=>iT .leq 76 16 21 y7 y10 (rQ (.sc (kI 8)) hp) (bC .add 3 11 v3 (kI 1) fun y13=>B82_4 x0 y13 hp)) (rQ (.sc (kI 0)) hp):=
 (eB 82 ss82 _ _).trans (by kernel_rfl)
def B83_3(x0:AV)(v3 v4 v8:Value)(hp:Hp):=gb 83 [cc 232 cd83,cc 233 cd83,cl 116 cd83,.inBlock 0,cc 15 cd83] [va 0 x0,vs 3 v3,vs 4 v4,vs 8 v8] [] hp
def B83_7(x0:AV)(v5 v6 v8:Value)(hp:Hp):=gb 83 [cc 29902 cd83,.inBlock 1,cc 935 cd83,cl 116 cd83,.inBlock 0,cc 15 cd83] [va 0 x0,vs 5 v5,vs 6 v6,vs 8 v8] [] hp
def B83_8(x0:AV)(v3 v4 v8:Value)(hp:Hp):=gb 83 [cc 935 cd83,cl 116 cd83,.inBlock 0,cc 15 cd83] [va 0 x0,vs 3 v3,vs 4 v4,vs 8 v8] [] hp
theorem E83(a0:AV)(hp:Hp):run cxX 83 [a0] hp=B83_3 a0 (kI 63) (.int .i64 (.negSucc 0)) (kI 0) hp:=
 (eE 83 ss83 _ _).trans (by kernel_rfl)
theorem B83_3_eq(x0:AV)(v3 v4 v8:Value)(hp:Hp):B83_3 x0 v3 v4 v8 hp=iC .lss 3 8 v8 (kI 64) (pT 2 136 [ro x0,.sc v8] fun z1=>nS z1 0 fun y6=>nS z1 1 fun y7=>iB y7 (iC .lss 3 19 v4 (kI 0) (B83_7 x0 v8 y6 v8 hp) (iT .lss 3 22 23 y6 v4 (B83_7 x0 v8 y6 v8 hp) (B83_8 x0 v3 v4 v8 hp))) (B83_8 x0 v3 v4 v8 hp)) (rQ (.sc v3) hp):=
 (eB 83 ss83 _ _).trans (by kernel_rfl)
theorem B83_7_eq(x0:AV)(v5 v6 v8:Value)(hp:Hp):B83_7 x0 v5 v6 v8 hp=B83_8 x0 v5 v6 v8 hp:=
 (eB 83 ss83 _ _).trans (by kernel_rfl)
theorem B83_8_eq(x0:AV)(v3 v4 v8:Value)(hp:Hp):B83_8 x0 v3 v4 v8 hp=bC .add 3 8 v8 (kI 1) fun y13=>B83_3 x0 v3 v4 y13 hp:=
 (eB 83 ss83 _ _).trans (by kernel_rfl)
theorem E84(a0 a1:AV)(hp:Hp):run cxX 84 [a0,a1] hp=aS a1 fun y0=>iC .eql 3 5 y0 (kI 0) (ixS (ro a0) (kI 0) fun y4=>rQ (.sc y4) hp) (ixS (ro a0) y0 fun y6=>bC .sub 3 15 y0 (kI 1) fun y7=>ixS (ro a0) y7 fun y9=>bT .sub 76 13 18 y6 y9 fun y10=>bC .sub 76 19 y10 (kU 1) fun y11=>rQ (.sc y11) hp):=
 (eE 84 ss84 _ _).trans (by kernel_rfl)
def B98_5(x0 x3 x4:AV)(hp:Hp):=gb 98 [cc 124 cd98,cc 125 cd98,cc 63 cd98] [va 0 x0,va 3 x3,va 4 x4] [] hp
theorem E98(a0:AV)(hp:Hp):run cxX 98 [a0] hp=cS 45 [r2 a0,.sc (kU 4096)] hp fun y1 h1=>cV 76 3 y1 fun y2=>cS 48 [r2 a0] h1 fun y4 h2=>cV 5 3 y4 fun y5=>cS 45 [r2 a0,.sc (kU 1048576)] (Hp.new h2 [.sc (Value.pointer none),.sc y5,.sc y2,.sc (kI 0),.sc (kU 0),.sc (.bool false)]) fun y7 h3=>cV 76 3 y7 fun y8=>cA 102 [r2 a0,.sc y8] h3 fun z4 h5=>ldS 1 (ro (AV.ptr h2.1 0 0)) h5 fun y14=>iC .geq 3 21 y14 (kI 64) (cT 95 [r2 a0,.sc (kI 2)] h5 fun h6=>B98_5 a0 (AV.ptr h2.1 0 0) z4 h6) (B98_5 a0 (AV.ptr h2.1 0 0) z4 h5):=
 (eE 98 ss98 _ _).trans (by kernel_rfl)
theorem B98_5_eq(x0 x3 x4:AV)(hp:Hp):B98_5 x0 x3 x4 hp=cS 93 [r2 x0] hp fun y20 h1=>iC .neq 57 26 y20 (kI 0) (rQ (AV.ptr h1.1 0 0) (Hp.new h1 [.sc (Value.pointer none),.sc (kI 0),.sc (kI 0),.sc (kI 0),.sc (kU 0),.sc (.bool false)])) (cA 147 [r2 x4] h1 fun z2 h3=>(nnA (ro x3)).bind fun y25=>(qz (ro x3)).bind fun y26=>(qg 1 z2).bind fun y27=>(Hp.rd h3 y26.1 y26.2.1).bind fun y28=>(putN y28 y26.2.2 y27).bind fun y29=>rQ (ro x3) (Hp.put h3 y26.1 y26.2.1 y29)):=
 (eB 98 ss98 _ _).trans (by kernel_rfl)
def B99_9(x0:AV)(v4 v7:Value)(hp:Hp):=gb 99 [cc 1020 cd99,cc 1021 cd99,cc 511 cd99] [va 0 x0,vs 4 v4,vs 7 v7] [] hp
def B99_10(x0:AV)(hp:Hp):=gb 99 [cc 4084 cd99,cc 4085 cd99,cc 511 cd99] [va 0 x0] [] hp
def B99_12(x0:AV)(v7:Value)(hp:Hp):=gb 99 [cc 1022 cd99,cc 1023 cd99] [va 0 x0,vs 7 v7] [] hp
theorem E99(a0:AV)(hp:Hp):run cxX 99 [a0] hp=cS 148 [r2 a0] hp fun y1 h1=>iC .eql 3 9 y1 (kI 0) (rQ (.tup [.sc (kU 0),.sc (.bool false)]) h1) (ldC 0 (ro a0) h1 fun y7=>cS 149 [ro (ro1 y7),.sc (kI 4096)] h1 fun y9 h2=>cV 3 76 y9 fun y10=>ldC 0 (ro a0) h2 fun y14=>ldS 1 (ro a0) h2 fun y18=>cS 150 [ro (ro1 y14),.sc y18] h2 fun y20 h3=>ldS 1 (ro a0) h3 fun y24=>bT .shl 76 26 30 y10 y24 fun y25=>bT .or 76 31 32 y25 y20 fun y26=>ldS 3 (ro a0) h3 fun y30=>iC .gtr 3 38 y30 (kI 0) (ldS 4 (ro a0) h3 fun y36=>bC .add 76 43 y36 (kU 1) fun y37=>bT .add 76 44 45 y37 y26 fun y38=>B99_9 a0 y10 y38 h3) (B99_9 a0 y10 y26 h3)):=
 (eE 99 ss99 _ _).trans (by kernel_rfl)
theorem B99_9_eq(x0:AV)(v4 v7:Value)(hp:Hp):B99_9 x0 v4 v7 hp=ldC 0 (ro x0) hp fun y42=>cS 151 [ro (ro1 y42)] hp fun y44 h1=>iB y44 (B99_10 x0 h1) (ldS 1 (ro x0) h1 fun y49=>bT .shl 76 53 57 v4 y49 fun y50=>ldS 1 (ro x0) h1 fun y54=>bT .shr 76 58 62 y50 y54 fun y55=>iT .neq 76 63 64 y55 v4 (B99_10 x0 h1) (ldS 3 (ro x0) h1 fun y61=>iC .gtr 3 71 y61 (kI 0) (ldS 4 (ro x0) h1 fun y67=>iT .leq 76 74 78 v7 y67 (B99_10 x0 h1) (B99_12 x0 v7 h1)) (B99_12 x0 v7 h1))):=
 (eB 99 ss99 _ _).trans (by kernel_rfl)
theorem B99_12_eq(x0:AV)(v7:Value)(hp:Hp):B99_12 x0 v7 hp=ldS 3 (ro x0) hp fun y77=>bC .add 3 88 y77 (kI 1) fun y78=>stN 3 (ro x0) hp [.sc y78] fun h1=>stN 4 (ro x0) h1 [.sc v7] fun h2=>rQ (.tup [.sc v7,.sc (.bool true)]) h2:=
 (eB 99 ss99 _ _).trans (by kernel_rfl)
def B100_4(hp:Hp):=gb 100 [cc 412 cd100,cc 101 cd100,.inBlock 0,cc 7 cd100] [] [] hp
def B100_5(x0:AV)(hp:Hp):=gb 100 [cc 414 cd100,cc 415 cd100,.inBlock 0,cc 7 cd100] [va 0 x0] [] hp
theorem E100(a0:AV)(hp:Hp):run cxX 100 [a0] hp=iZ (ro a0) (rQ (.sc (kI 1)) hp) (ldS 5 (ro a0) hp fun y4=>iB y4 (B100_4 hp) (ldS 3 (ro a0) hp fun y9=>ldS 2 (ro a0) hp fun y13=>iT .lss 3 15 19 y9 y13 (B100_4 hp) (B100_5 a0 hp))):=
 (eE 100 ss100 _ _).trans (by kernel_rfl)
theorem B100_5_eq(x0:AV)(hp:Hp):B100_5 x0 hp=ldC 0 (ro x0) hp fun y19=>iZ (ro1 y19) (rQ (.sc (kI 0)) hp) (ldC 0 (ro x0) hp fun y24=>cS 152 [ro (ro1 y24)] hp fun y26 h1=>rQ (.sc y26) h1):=
 (eB 100 ss100 _ _).trans (by kernel_rfl)
def B136_3(x0:AV)(v1 v6 v10 v11:Value)(hp:Hp):=gb 136 [cc 232 cd136,cc 233 cd136,cl 116 cd136,.inBlock 0,cc 15 cd136] [va 0 x0,vs 1 v1,vs 6 v6,vs 10 v10,vs 11 v11] [] hp
theorem E136(a0 a1:AV)(hp:Hp):run cxX 136 [a0,a1] hp=aS a1 fun y0=>ln (ro a0) fun y1=>B136_3 a0 y0 (kI 0) (kI y1) (kI 0) hp:=
 (eE 136 ss136 _ _).trans (by kernel_rfl)
theorem B136_3_eq(x0:AV)(v1 v6 v10 v11:Value)(hp:Hp):B136_3 x0 v1 v6 v10 v11 hp=iT .lss 3 11 10 v11 v10 (pS 84 [ro x0,.sc v11] fun y7=>bT .shr 76 16 17 y7 v1 fun y8=>iC .gtr 76 19 y8 (kU 4096) (rQ (.tup [.sc (kI 0),.sc (.bool false)]) hp) (cV 76 3 y8 fun y11=>bC .add 3 23 y11 (kI 1) fun y12=>bT .add 3 24 25 y12 v1 fun y13=>bT .add 3 21 26 v6 y13 fun y14=>bC .add 3 11 v11 (kI 1) fun y15=>B136_3 x0 v1 y14 v10 y15 hp)) (rQ (.tup [.sc v6,.sc (.bool true)]) hp):=
 (eB 136 ss136 _ _).trans (by kernel_rfl)
def B148_2(hp:Hp):=gb 148 [cc 52 cd148,cc 53 cd148,cc 7 cd148] [] [] hp
def B148_3(x0:AV)(hp:Hp):=gb 148 [cc 14 cd148,cc 53 cd148] [va 0 x0] [] hp
theorem E148(a0:AV)(hp:Hp):run cxX 148 [a0] hp=iZ (ro a0) (B148_2 hp) (ldS 5 (ro a0) hp fun y4=>iB y4 (B148_2 hp) (B148_3 a0 hp)):=
 (eE 148 ss148 _ _).trans (by kernel_rfl)
theorem B148_3_eq(x0:AV)(hp:Hp):B148_3 x0 hp=ldS 2 (ro x0) hp fun y9=>ldS 3 (ro x0) hp fun y13=>bT .sub 3 14 18 y9 y13 fun y14=>rQ (.sc y14) hp:=
 (eB 148 ss148 _ _).trans (by kernel_rfl)
end
noncomputable section
def B85_0(x0:AV)(v1:Value)(hp:Hp):=gb 85 [cc 32 cd85,cc 33 cd85,cc 17 cd85,cl 8 cd85,.inBlock 0,cc 3 cd85] [va 0 x0,vs 1 v1] [] hp
theorem E85(a0 a1:AV)(hp:Hp):run cxX 85 [a0,a1] hp=aS a1 fun y0=>B85_0 a0 y0 hp:=
 (eE 85 ss85 _ _).trans (by kernel_rfl)
theorem B85_0_eq(x0:AV)(v1:Value)(hp:Hp):B85_0 x0 v1 hp=iC .gtr 3 4 v1 (kI 0) (cT 86 [r2 x0,.sc (kU 1),.sc (kI 1)] hp fun h1=>bC .sub 3 6 v1 (kI 1) fun y5=>B85_0 x0 y5 h1) (cT 86 [r2 x0,.sc (kU 0),.sc (kI 1)] hp fun h2=>rQ (.tup []) h2):=
 (eB 85 ss85 _ _).trans (by kernel_rfl)
def B86_2(x0:AV)(v1 v6:Value)(hp:Hp):=gb 86 [cc 112 cd86,cc 113 cd86,cc 57 cd86,cl 28 cd86,.inBlock 0] [va 0 x0,vs 1 v1,vs 6 v6] [] hp
def B86_6(x0:AV)(v1 v6:Value)(hp:Hp):=gb 86 [cc 1828 cd86,cc 1829 cd86,cc 915 cd86,.inBlock 1,cc 115 cd86,cl 28 cd86,.inBlock 0] [va 0 x0,vs 1 v1,vs 6 v6] [] hp
def B86_8(x0:AV)(v1 v6:Value)(hp:Hp):=gb 86 [cc 915 cd86,.inBlock 1,cc 115 cd86,cl 28 cd86,.inBlock 0] [va 0 x0,vs 1 v1,vs 6 v6] [] hp
theorem E86(a0 a1 a2:AV)(hp:Hp):run cxX 86 [a0,a1,a2] hp=aS a1 fun y0=>aS a2 fun y1=>iZ (ro a0) (rQ (.tup []) hp) ((bltV Tryz.prog Go.Builtin.max (Array.mk [3,3]) 3 [y1,kI 0]).bind fun y3=>(bltV Tryz.prog Go.Builtin.min (Array.mk [3,3]) 3 [y3,kI 64]).bind fun y4=>bC .sub 3 11 y4 (kI 1) fun y5=>B86_2 a0 y0 y5 hp):=
 (eE 86 ss86 _ _).trans (by kernel_rfl)
theorem B86_2_eq(x0:AV)(v1 v6:Value)(hp:Hp):B86_2 x0 v1 v6 hp=iC .geq 3 13 v6 (kI 0) (ldS 1 (ro x0) hp fun y11=>bC .rem 3 20 y11 (kI 8) fun y12=>iC .eql 3 21 y12 (kI 0) (ldC 0 (ro x0) hp fun y18=>(okV [.sc (kB 0)]).bind fun y19=>(appM 1 1 (ro1 y18) (AV.us 1 [.sc (kB 0)]) hp).bind fun y20=>(nnA (ro x0)).bind fun y21=>(qz (ro x0)).bind fun y22=>(qg 1 y20.1).bind fun y23=>(Hp.rd y20.2 y22.1 y22.2.1).bind fun y24=>(putN y24 y22.2.2 y23).bind fun y25=>B86_6 x0 v1 v6 (Hp.put y20.2 y22.1 y22.2.1 y25)) (B86_6 x0 v1 v6 hp)) (rQ (.tup []) hp):=
 (eB 86 ss86 _ _).trans (by kernel_rfl)
theorem B86_6_eq(x0:AV)(v1 v6:Value)(hp:Hp):B86_6 x0 v1 v6 hp=bT .shr 76 32 33 v1 v6 fun y26=>bC .and 76 34 y26 (kU 1) fun y27=>iC .eql 76 35 y27 (kU 1) (ldC 0 (ro x0) hp fun y33=>ldS 1 (ro x0) hp fun y37=>bC .quo 3 44 y37 (kI 8) fun y38=>(qR (ro1 y33)).bind fun y39=>(idx y39.2.2.2.1 y38).bind fun y40=>(chkN y39.2.2.2.2 1).bind fun y41=>(Hp.rd hp y39.1 y39.2.1).bind fun y42=>(qe y42 (Nat.add y39.2.2.1 (Nat.add 0 y40))).bind fun y43=>ldS 1 (ro x0) hp fun y47=>bC .rem 3 51 y47 (kI 8) fun y48=>bG .shr 5 (.const (kB 128)) (.tmp 52) (kB 128) y48 fun y49=>bT .or 5 47 53 y43 y49 fun y50=>(qR (ro1 y33)).bind fun y51=>(idx y51.2.2.2.1 y38).bind fun y52=>(chkN y51.2.2.2.2 1).bind fun y53=>(Hp.rd hp y51.1 y51.2.1).bind fun y54=>(putN y54 (Nat.add y51.2.2.1 (Nat.add 0 y52)) [.sc y50]).bind fun y55=>B86_8 x0 v1 v6 (Hp.put hp y51.1 y51.2.1 y55)) (B86_8 x0 v1 v6 hp):=
 (eB 86 ss86 _ _).trans (by kernel_rfl)
theorem B86_8_eq(x0:AV)(v1 v6:Value)(hp:Hp):B86_8 x0 v1 v6 hp=ldS 1 (ro x0) hp fun y59=>bC .add 3 59 y59 (kI 1) fun y60=>stN 1 (ro x0) hp [.sc y60] fun h1=>bC .sub 3 15 v6 (kI 1) fun y65=>B86_2 x0 v1 y65 h1:=
 (eB 86 ss86 _ _).trans (by kernel_rfl)
theorem E87(a0:AV)(hp:Hp):run cxX 87 [a0] hp=iZ (ro a0) (rQ nl hp) ((okV []).bind fun y1=>ldC 0 (ro a0) hp fun y5=>(appM 1 1 (AV.us 1 []) (ro1 y5) hp).bind fun y6=>(frz1 y6.2 y6.1).bind fun y7=>rQ y7.1 y7.2):=
 (eE 87 ss87 _ _).trans (by kernel_rfl)
theorem E147(a0:AV)(hp:Hp):run cxX 147 [a0] hp=(qg 1 (ro a0)).bind fun y0=>(putN [nl,.sc (kI 0),.sc (.bool false)] 0 y0).bind fun y1=>(qg 3 (.agg (List.map ro1 y1))).bind fun y2=>rQ (AV.ptr hp.1 0 0) (Hp.new hp (List.map ro1 y2)):=
 (eE 147 ss147 _ _).trans (by kernel_rfl)
def B149_2(x0:AV)(v1 v5:Value)(hp:Hp):=gb 149 [cc 224 cd149,cc 225 cd149,cc 113 cd149,cl 56 cd149,.inBlock 0,cc 15 cd149] [va 0 x0,vs 1 v1,vs 5 v5] [] hp
theorem E149(a0 a1:AV)(hp:Hp):run cxX 149 [a0,a1] hp=aS a1 fun y0=>B149_2 a0 y0 (kI 0) hp:=
 (eE 149 ss149 _ _).trans (by kernel_rfl)
theorem B149_2_eq(x0:AV)(v1 v5:Value)(hp:Hp):B149_2 x0 v1 v5 hp=cS 176 [r2 x0] hp fun y2 h1=>iC .eql 3 7 y2 (kI 1) (bC .add 3 9 v5 (kI 1) fun y5=>iT .gtr 3 11 12 y5 v1 (cT 177 [r2 x0] h1 fun h2=>B149_2 x0 v1 y5 h2) (B149_2 x0 v1 y5 h1)) (cS 151 [r2 x0] h1 fun y11 h3=>iB y11 (rQ (.sc (kI 0)) h3) (rQ (.sc v5) h3)):=
 (eB 149 ss149 _ _).trans (by kernel_rfl)
def B150_3(x0:AV)(v5 v8 v9:Value)(hp:Hp):=gb 150 [cc 232 cd150,cc 233 cd150,cl 116 cd150,.inBlock 0,cc 15 cd150] [va 0 x0,vs 5 v5,vs 8 v8,vs 9 v9] [] hp
theorem E150(a0 a1:AV)(hp:Hp):run cxX 150 [a0,a1] hp=aS a1 fun y0=>(bltV Tryz.prog Go.Builtin.max (Array.mk [3,3]) 3 [y0,kI 0]).bind fun y1=>(bltV Tryz.prog Go.Builtin.min (Array.mk [3,3]) 3 [y1,kI 64]).bind fun y2=>B150_3 a0 (kU 0) y2 (kI 0) hp:=
 (eE 150 ss150 _ _).trans (by kernel_rfl)
theorem B150_3_eq(x0:AV)(v5 v8 v9:Value)(hp:Hp):B150_3 x0 v5 v8 v9 hp=iT .lss 3 9 8 v9 v8 (bC .shl 76 11 v5 (kU 1) fun y5=>cS 176 [r2 x0] hp fun y7 h1=>cV 3 76 y7 fun y8=>bT .or 76 12 15 y5 y8 fun y9=>bC .add 3 9 v9 (kI 1) fun y10=>B150_3 x0 y9 v8 y10 h1) (cS 151 [r2 x0] hp fun y12 h2=>iB y12 (rQ (.sc (kU 0)) h2) (rQ (.sc v5) h2)):=
 (eB 150 ss150 _ _).trans (by kernel_rfl)
theorem E151(a0:AV)(hp:Hp):run cxX 151 [a0] hp=iZ (ro a0) (rQ (.sc (.bool true)) hp) (ldS 2 (ro a0) hp fun y4=>rQ (.sc y4) hp):=
 (eE 151 ss151 _ _).trans (by kernel_rfl)
def B152_8(x0:AV)(v3:Value)(hp:Hp):=gb 152 [cc 464 cd152,cc 465 cd152,cc 233 cd152,cl 116 cd152,.inBlock 1,cc 15 cd152] [va 0 x0,vs 3 v3] [] hp
theorem E152(a0:AV)(hp:Hp):run cxX 152 [a0] hp=iZ (ro a0) (rQ (.sc (kI 1)) hp) (ldS 2 (ro a0) hp fun y4=>iB y4 (rQ (.sc (kI 3)) hp) (ldC 0 (ro a0) hp fun y9=>ln (ro1 y9) fun y10=>bG .mul 3 (.const (kI 8)) (.tmp 17) (kI 8) (kI y10) fun y11=>ldS 1 (ro a0) hp fun y15=>bT .sub 3 18 22 y11 y15 fun y16=>iC .geq 3 23 y16 (kI 8) (rQ (.sc (kI 15)) hp) (ldS 1 (ro a0) hp fun y22=>B152_8 a0 y22 hp))):=
 (eE 152 ss152 _ _).trans (by kernel_rfl)
theorem B152_8_eq(x0:AV)(v3:Value)(hp:Hp):B152_8 x0 v3 hp=ldC 0 (ro x0) hp fun y26=>ln (ro1 y26) fun y27=>bG .mul 3 (.const (kI 8)) (.tmp 34) (kI 8) (kI y27) fun y28=>iT .lss 3 29 35 v3 y28 (ldC 0 (ro x0) hp fun y34=>bC .quo 3 43 v3 (kI 8) fun y35=>ixS (ro1 y34) y35 fun y37=>bC .rem 3 47 v3 (kI 8) fun y38=>bG .sub 3 (.const (kI 7)) (.tmp 48) (kI 7) y38 fun y39=>bT .shr 5 46 49 y37 y39 fun y40=>bC .and 5 50 y40 (kB 1) fun y41=>iC .eql 5 51 y41 (kB 1) (rQ (.sc (kI 15)) hp) (bC .add 3 37 v3 (kI 1) fun y44=>B152_8 x0 y44 hp)) (rQ (.sc (kI 0)) hp):=
 (eB 152 ss152 _ _).trans (by kernel_rfl)
def B176_2(x0:AV)(hp:Hp):=gb 176 [cc 104 cd176,cc 105 cd176,cc 53 cd176,cc 7 cd176] [va 0 x0] [] hp
def B176_5(x0:AV)(hp:Hp):=gb 176 [cc 14 cd176,cc 15 cd176] [va 0 x0] [] hp
def B176_4(hp:Hp):=gb 176 [cc 106 cd176,cc 107 cd176,cc 7 cd176] [] [] hp
theorem E176(a0:AV)(hp:Hp):run cxX 176 [a0] hp=iZ (ro a0) (B176_2 a0 hp) (ldS 2 (ro a0) hp fun y4=>iB y4 (B176_2 a0 hp) (ldS 1 (ro a0) hp fun y9=>ldC 0 (ro a0) hp fun y13=>ln (ro1 y13) fun y14=>bG .mul 3 (.const (kI 8)) (.tmp 21) (kI 8) (kI y14) fun y15=>iT .geq 3 16 22 y9 y15 (B176_2 a0 hp) (B176_5 a0 hp))):=
 (eE 176 ss176 _ _).trans (by kernel_rfl)
theorem B176_2_eq(x0:AV)(hp:Hp):B176_2 x0 hp=(nilP (ro x0)).bind fun y18=>cond (Bool.rec true false y18) (stN 2 (ro x0) hp [.sc (.bool true)] fun h1=>B176_4 h1) (B176_4 hp):=
 (eB 176 ss176 _ _).trans (by kernel_rfl)
theorem B176_5_eq(x0:AV)(hp:Hp):B176_5 x0 hp=ldC 0 (ro x0) hp fun y26=>ldS 1 (ro x0) hp fun y30=>bC .quo 3 37 y30 (kI 8) fun y31=>ixS (ro1 y26) y31 fun y33=>ldS 1 (ro x0) hp fun y37=>bC .rem 3 44 y37 (kI 8) fun y38=>bG .sub 3 (.const (kI 7)) (.tmp 45) (kI 7) y38 fun y39=>bT .shr 5 40 46 y33 y39 fun y40=>bC .and 5 47 y40 (kB 1) fun y41=>ldS 1 (ro x0) hp fun y45=>bC .add 3 52 y45 (kI 1) fun y46=>stN 1 (ro x0) hp [.sc y46] fun h1=>cV 5 3 y41 fun y51=>rQ (.sc y51) h1:=
 (eB 176 ss176 _ _).trans (by kernel_rfl)
theorem B176_4_eq(hp:Hp):B176_4 hp=rQ (.sc (kI 0)) hp:=
 (eB 176 ss176 _ _).trans (by kernel_rfl)
theorem E177(a0:AV)(hp:Hp):run cxX 177 [a0] hp=(nilP (ro a0)).bind fun y0=>cond (Bool.rec true false y0) (stN 2 (ro a0) hp [.sc (.bool true)] fun h1=>rQ (.tup []) h1) (rQ (.tup []) hp):=
 (eE 177 ss177 _ _).trans (by kernel_rfl)
end
noncomputable section
theorem E12(a0 a1:AV)(hp:Hp):run cxX 12 [a0,a1] hp=aS a1 fun y0=>cV 2 76 y0 fun y1=>bC .shl 76 6 y1 (kU 1) fun y2=>bC .shr 2 8 y0 (kU 63) fun y3=>cV 2 76 y3 fun y4=>bT .xor 76 7 10 y2 y4 fun y5=>cT 25 [r2 a0,.sc y5] hp fun h1=>rQ (.tup []) h1:=
 (eE 12 ss12 _ _).trans (by kernel_rfl)
theorem E13(a0:AV)(hp:Hp):run cxX 13 [a0] hp=iZ (ro a0) (rQ nl hp) ((okV []).bind fun y1=>ldC 0 (ro a0) hp fun y5=>(appA 1 1 (AV.us 1 []) (ro1 y5)).bind fun y6=>rQ y6 hp):=
 (eE 13 ss13 _ _).trans (by kernel_rfl)
def B25_0(x0:AV)(v1:Value)(hp:Hp):=gb 25 [cc 32 cd25,cc 33 cd25,cc 17 cd25,cl 8 cd25,.inBlock 0,cc 3 cd25] [va 0 x0,vs 1 v1] [] hp
theorem E25(a0 a1:AV)(hp:Hp):run cxX 25 [a0,a1] hp=aS a1 fun y0=>B25_0 a0 y0 hp:=
 (eE 25 ss25 _ _).trans (by kernel_rfl)
theorem B25_0_eq(x0:AV)(v1:Value)(hp:Hp):B25_0 x0 v1 hp=iC .geq 76 4 v1 (kU 128) (cV 76 5 v1 fun y3=>bC .or 5 10 y3 (kB 128) fun y4=>cT 36 [r2 x0,.sc y4] hp fun h1=>bC .shr 76 6 v1 (kU 7) fun y7=>B25_0 x0 y7 h1) (cV 76 5 v1 fun y8=>cT 36 [r2 x0,.sc y8] hp fun h2=>rQ (.tup []) h2):=
 (eB 25 ss25 _ _).trans (by kernel_rfl)
theorem E35(a0 a1:AV)(hp:Hp):run cxX 35 [a0,a1] hp=(nilP (ro a0)).bind fun y0=>cond (Bool.rec true false y0) ((nnA (ro a0)).bind fun y1=>(qz (ro a0)).bind fun y2=>(Hp.rd hp y2.1 y2.2.1).bind fun y3=>(getC y3 y2.2.2).bind fun y4=>(appA 1 1 y4 (ro a1)).bind fun y5=>(nnA (ro a0)).bind fun y6=>(qz (ro a0)).bind fun y7=>(qg 1 y5).bind fun y8=>(Hp.rd (Hp.put hp y2.1 y2.2.1 (List.set y3 y2.2.2 (ro1 y4))) y7.1 y7.2.1).bind fun y9=>(putN y9 y7.2.2 y8).bind fun y10=>rQ (.tup []) (Hp.put (Hp.put hp y2.1 y2.2.1 (List.set y3 y2.2.2 (ro1 y4))) y7.1 y7.2.1 y10)) (rQ (.tup []) hp):=
 (eE 35 ss35 _ _).trans (by kernel_rfl)
theorem E36(a0 a1:AV)(hp:Hp):run cxX 36 [a0,a1] hp=aS a1 fun y0=>(nilP (ro a0)).bind fun y1=>cond (Bool.rec true false y1) ((nnA (ro a0)).bind fun y2=>(qz (ro a0)).bind fun y3=>(Hp.rd hp y3.1 y3.2.1).bind fun y4=>(getC y4 y3.2.2).bind fun y5=>ap 1 y5 y0 fun y7=>(nnA (ro a0)).bind fun y8=>(qz (ro a0)).bind fun y9=>(qg 1 y7).bind fun y10=>(Hp.rd (Hp.put hp y3.1 y3.2.1 (List.set y4 y3.2.2 (ro1 y5))) y9.1 y9.2.1).bind fun y11=>(putN y11 y9.2.2 y10).bind fun y12=>rQ (.tup []) (Hp.put (Hp.put hp y3.1 y3.2.1 (List.set y4 y3.2.2 (ro1 y5))) y9.1 y9.2.1 y12)) (rQ (.tup []) hp):=
 (eE 36 ss36 _ _).trans (by kernel_rfl)
theorem E42(a0:AV)(hp:Hp):run cxX 42 [a0] hp=(qg 1 (ro a0)).bind fun y0=>(putN [nl,.sc (kI 0),.sc (kI 0)] 0 y0).bind fun y1=>(qg 3 (.agg (List.map ro1 y1))).bind fun y2=>rQ (AV.ptr hp.1 0 0) (Hp.new hp (List.map ro1 y2)):=
 (eE 42 ss42 _ _).trans (by kernel_rfl)
def B45_4(x0:AV)(v1 v5 v6:Value)(hp:Hp):=gb 45 [cc 928 cd45,cc 929 cd45,.inBlock 1,cc 233 cd45,cl 116 cd45,.inBlock 0,cc 15 cd45] [va 0 x0,vs 1 v1,vs 5 v5,vs 6 v6] [] hp
def B45_6(x0:AV)(v1 v5 v6 v7:Value)(hp:Hp):=gb 45 [cc 7434 cd45,cc 1859 cd45,.inBlock 1,cc 233 cd45,cl 116 cd45,.inBlock 0,cc 15 cd45] [va 0 x0,vs 1 v1,vs 5 v5,vs 6 v6,vs 7 v7] [] hp
def B45_7(x0:AV)(v1 v5 v6 v7:Value)(hp:Hp):=gb 45 [cc 7436 cd45,cc 7437 cd45,cc 3719 cd45,.inBlock 1,cc 233 cd45,cl 116 cd45,.inBlock 0,cc 15 cd45] [va 0 x0,vs 1 v1,vs 5 v5,vs 6 v6,vs 7 v7] [] hp
theorem E45(a0 a1:AV)(hp:Hp):run cxX 45 [a0,a1] hp=aS a1 fun y0=>B45_4 a0 y0 (kU 0) (kI 0) hp:=
 (eE 45 ss45 _ _).trans (by kernel_rfl)
theorem B45_4_eq(x0:AV)(v1 v5 v6:Value)(hp:Hp):B45_4 x0 v1 v5 v6 hp=cS 48 [r2 x0] hp fun y2 h1=>iC .eql 3 12 v6 (kI 63) (iC .gtr 5 15 y2 (kB 1) (B45_6 x0 v1 v5 v6 y2 h1) (iC .gtr 3 19 v6 (kI 0) (iC .eql 5 22 y2 (kB 0) (B45_6 x0 v1 v5 v6 y2 h1) (B45_7 x0 v1 v5 v6 y2 h1)) (B45_7 x0 v1 v5 v6 y2 h1))) (iC .gtr 3 19 v6 (kI 0) (iC .eql 5 22 y2 (kB 0) (B45_6 x0 v1 v5 v6 y2 h1) (B45_7 x0 v1 v5 v6 y2 h1)) (B45_7 x0 v1 v5 v6 y2 h1)):=
 (eB 45 ss45 _ _).trans (by kernel_rfl)
theorem B45_6_eq(x0:AV)(v1 v5 v6 v7:Value)(hp:Hp):B45_6 x0 v1 v5 v6 v7 hp=cT 95 [r2 x0,.sc (kI 4)] hp fun h1=>B45_7 x0 v1 v5 v6 v7 h1:=
 (eB 45 ss45 _ _).trans (by kernel_rfl)
theorem B45_7_eq(x0:AV)(v1 v5 v6 v7:Value)(hp:Hp):B45_7 x0 v1 v5 v6 v7 hp=cS 93 [r2 x0] hp fun y18 h1=>iC .neq 57 29 y18 (kI 0) (rQ (.sc (kU 0)) h1) (bC .and 5 32 v7 (kB 127) fun y21=>cV 5 76 y21 fun y22=>bT .shl 76 34 35 y22 v6 fun y23=>bT .or 76 31 36 v5 y23 fun y24=>iC .lss 5 38 v7 (kB 128) (iT .gtr 76 40 41 y24 v1 (cT 95 [r2 x0,.sc (kI 7)] h1 fun h2=>rQ (.sc (kU 0)) h2) (rQ (.sc y24) h1)) (bC .add 3 8 v6 (kI 7) fun y31=>B45_4 x0 v1 y24 y31 h1)):=
 (eB 45 ss45 _ _).trans (by kernel_rfl)
theorem E48(a0:AV)(hp:Hp):run cxX 48 [a0] hp=cS 103 [r2 a0] hp fun y1 h1=>iC .eql 3 4 y1 (kI 0) (cT 95 [r2 a0,.sc (kI 3)] h1 fun h2=>rQ (.sc (kB 0)) h2) (ldS 1 (ro a0) h1 fun y9=>bC .add 3 11 y9 (kI 1) fun y10=>stN 1 (ro a0) h1 [.sc y10] fun h3=>ldC 0 (ro a0) h3 fun y18=>ldS 1 (ro a0) h3 fun y22=>bC .sub 3 22 y22 (kI 1) fun y23=>ixS (ro1 y18) y23 fun y25=>rQ (.sc y25) h3):=
 (eE 48 ss48 _ _).trans (by kernel_rfl)
def B53_2(hp:Hp):=gb 53 [cc 52 cd53,cc 53 cd53,cc 7 cd53] [] [] hp
def B53_3(x0:AV)(hp:Hp):=gb 53 [cc 14 cd53,cc 53 cd53] [va 0 x0] [] hp
theorem E53(a0:AV)(hp:Hp):run cxX 53 [a0] hp=(nilP (ro a0)).bind fun y0=>cond (Bool.rec true false y0) (ldS 2 (ro a0) hp fun y4=>iC .eql 57 9 y4 (kI 0) (ldS 1 (ro a0) hp fun y10=>ldC 0 (ro a0) hp fun y14=>ln (ro1 y14) fun y15=>iT .lss 3 16 21 y10 (kI y15) (B53_2 hp) (B53_3 a0 hp)) (B53_3 a0 hp)) (B53_3 a0 hp):=
 (eE 53 ss53 _ _).trans (by kernel_rfl)
theorem B53_2_eq(hp:Hp):B53_2 hp=rQ (.sc (kI 15)) hp:=
 (eB 53 ss53 _ _).trans (by kernel_rfl)
theorem B53_3_eq(x0:AV)(hp:Hp):B53_3 x0 hp=cS 93 [r2 x0] hp fun y19 h1=>rQ (.sc y19) h1:=
 (eB 53 ss53 _ _).trans (by kernel_rfl)
theorem E93(a0:AV)(hp:Hp):run cxX 93 [a0] hp=iZ (ro a0) (rQ (.sc (kI 1)) hp) (ldS 2 (ro a0) hp fun y4=>rQ (.sc y4) hp):=
 (eE 93 ss93 _ _).trans (by kernel_rfl)
def B95_1(x0:AV)(v1:Value)(hp:Hp):=gb 95 [cc 6 cd95] [va 0 x0,vs 1 v1] [] hp
theorem E95(a0 a1:AV)(hp:Hp):run cxX 95 [a0,a1] hp=aS a1 fun y0=>(nilP (ro a0)).bind fun y1=>cond (Bool.rec true false y1) (ldS 2 (ro a0) hp fun y5=>iC .eql 57 10 y5 (kI 0) (B95_1 a0 y0 hp) (rQ (.tup []) hp)) (rQ (.tup []) hp):=
 (eE 95 ss95 _ _).trans (by kernel_rfl)
theorem B95_1_eq(x0:AV)(v1:Value)(hp:Hp):B95_1 x0 v1 hp=stN 2 (ro x0) hp [.sc v1] fun h1=>rQ (.tup []) h1:=
 (eB 95 ss95 _ _).trans (by kernel_rfl)
def B102_2(x0:AV)(hp:Hp):=gb 102 [cc 52 cd102,cc 53 cd102,cc 7 cd102] [va 0 x0] [] hp
def B102_4(x0:AV)(v1:Value)(hp:Hp):=gb 102 [cc 28 cd102,cc 29 cd102,cc 15 cd102] [va 0 x0,vs 1 v1] [] hp
theorem E102(a0 a1:AV)(hp:Hp):run cxX 102 [a0,a1] hp=aS a1 fun y0=>iC .lss 3 5 y0 (kI 0) (B102_2 a0 hp) (cS 103 [r2 a0] hp fun y4 h1=>iT .gtr 3 8 10 y0 y4 (B102_2 a0 h1) (B102_4 a0 y0 h1)):=
 (eE 102 ss102 _ _).trans (by kernel_rfl)
theorem B102_2_eq(x0:AV)(hp:Hp):B102_2 x0 hp=cT 95 [r2 x0,.sc (kI 3)] hp fun h1=>rQ nl h1:=
 (eB 102 ss102 _ _).trans (by kernel_rfl)
theorem B102_4_eq(x0:AV)(v1:Value)(hp:Hp):B102_4 x0 v1 hp=iC .eql 3 15 v1 (kI 0) (rQ nl hp) (ldS 1 (ro x0) hp fun y14=>bT .add 3 20 21 y14 v1 fun y15=>stN 1 (ro x0) hp [.sc y15] fun h1=>ldC 0 (ro x0) h1 fun y23=>ldS 1 (ro x0) h1 fun y27=>bT .sub 3 32 33 y27 v1 fun y28=>ldS 1 (ro x0) h1 fun y32=>ldS 1 (ro x0) h1 fun y36=>(slcA 1 (ro1 y23) (Option.some y28) (Option.some y32) (Option.some y36)).bind fun y37=>rQ y37 h1):=
 (eB 102 ss102 _ _).trans (by kernel_rfl)
def B103_2(hp:Hp):=gb 103 [cc 52 cd103,cc 53 cd103,cc 7 cd103] [] [] hp
def B103_3(x0:AV)(hp:Hp):=gb 103 [cc 14 cd103,cc 53 cd103] [va 0 x0] [] hp
theorem E103(a0:AV)(hp:Hp):run cxX 103 [a0] hp=iZ (ro a0) (B103_2 hp) (ldS 2 (ro a0) hp fun y4=>iC .neq 57 9 y4 (kI 0) (B103_2 hp) (B103_3 a0 hp)):=
 (eE 103 ss103 _ _).trans (by kernel_rfl)
theorem B103_2_eq(hp:Hp):B103_2 hp=rQ (.sc (kI 0)) hp:=
 (eB 103 ss103 _ _).trans (by kernel_rfl)
theorem B103_3_eq(x0:AV)(hp:Hp):B103_3 x0 hp=ldC 0 (ro x0) hp fun y10=>ln (ro1 y10) fun y11=>ldS 1 (ro x0) hp fun y15=>bT .sub 3 16 20 (kI y11) y15 fun y16=>rQ (.sc y16) hp:=
 (eB 103 ss103 _ _).trans (by kernel_rfl)
theorem E107(a0:AV)(hp:Hp):run cxX 107 [a0] hp=cS 45 [r2 a0,.sc (kU 18446744073709551615)] hp fun y1 h1=>bC .shr 76 6 y1 (kU 1) fun y2=>cV 76 2 y2 fun y3=>bC .and 76 9 y1 (kU 1) fun y4=>cV 76 2 y4 fun y5=>(unV Tryz.prog .neg y5).bind fun y6=>bT .xor 2 8 12 y3 y6 fun y7=>rQ (.sc y7) h1:=
 (eE 107 ss107 _ _).trans (by kernel_rfl)
end
noncomputable def tab8:Value:=.string ⟨#[0,1,2,2,3,3,3,3,4,4,4,4,4,4,4,4,5,5,5,5,5,5,5,5,5,5,5,5,5,5,5,5,6,6,6,6,6,6,6,6,6,6,6,6,6,6,6,6,6,6,6,6,6,6,6,6,6,6,6,6,6,6,6,6,7,7,7,7,7,7,7,7,7,7,7,7,7,7,7,7,7,7,7,7,7,7,7,7,7,7,7,7,7,7,7,7,7,7,7,7,7,7,7,7,7,7,7,7,7,7,7,7,7,7,7,7,7,7,7,7,7,7,7,7,7,7,7,7,8,8,8,8,8,8,8,8,8,8,8,8,8,8,8,8,8,8,8,8,8,8,8,8,8,8,8,8,8,8,8,8,8,8,8,8,8,8,8,8,8,8,8,8,8,8,8,8,8,8,8,8,8,8,8,8,8,8,8,8,8,8,8,8,8,8,8,8,8,8,8,8,8,8,8,8,8,8,8,8,8,8,8,8,8,8,8,8,8,8,8,8,8,8,8,8,8,8,8,8,8,8,8,8,8,8,8,8,8,8,8,8,8,8,8,8,8,8,8,8,8,8,8,8,8,8,8,8]⟩
theorem B180_10'(v0 v2:Value)(hp:Hp):B180_10 v0 v2 hp=(cvV Tryz.prog 76 5 v0).bind fun y12=>(ixV Tryz.prog 9 tab8 y12).bind fun y13=>(cvV Tryz.prog 5 3 y13).bind fun y14=>(binV Tryz.prog .add 3 (.tmp 19) (.tmp 23) v2 y14).bind fun y15=>some (.sc y15,hp):=
 (B180_10_eq _ _ _).trans (by kernel_rfl)
noncomputable def tabOk(x:Nat):Bool:=
 match ixV Tryz.prog 9 tab8 (.int .u8 (x:Int))with
 |some (.int .u8 (.ofNat n))=>decide (n<=8)&&decide (x<2^n)&&(decide (n=0)||decide (2^(n-1)<=x))
 |_=>false
theorem tab_all:(List.range 256).all tabOk=true:=by kernel_rfl
theorem tab_ok(x:Nat)(h:x<256):∃n:Nat,n<=8/\Bl x n/\ixV Tryz.prog 9 tab8 (.int .u8 (x:Int))=some (.int .u8 (n:Int)):=by
 have hx:=List.all_eq_true.mp tab_all x (List.mem_range.mpr h)
 unfold tabOk at hx
 split at hx
 ·rename_i n e
  simp only[Bool.and_eq_true,Bool.or_eq_true,decide_eq_true_eq]at hx
  exact⟨n,hx.1.1,⟨hx.1.2,hx.2⟩,e⟩
 ·cases hx
theorem cv8(n:Int):cvV Tryz.prog 5 3 (.int .u8 n)=some (.int .i64 (IntKind.i64.wrap n)):=jy n
theorem wrap64n(n:Nat)(h:n<1000000):IntKind.i64.wrap (n:Int)=n:=qf (by omega) (by omega)
theorem len10(x v:Nat)(h:x<256)(hv:v<=100):∃n,n<=8/\Bl x n/\∀hp,B180_10 (.int .u64 (x:Int)) (.int .i64 (v:Int)) hp=some (.sc (.int .i64 ((n+v:Nat):Int)),hp):=by
 obtain⟨n,h1,h2,h3⟩:=tab_ok x h
 refine⟨n,h1,h2,fun hp=>?_⟩
 have w:IntKind.u8.wrap (x:Int)=x:=zo (by omega) (by omega)
 have w2:IntKind.i64.wrap (n:Int)=n:=wrap64n n (by omega)
 have w3:IntKind.i64.wrap ((v:Int)+(n:Int))=((n+v:Nat):Int):=by rw[qf]<;>omega
 rw[B180_10']
 simp[cv_76_5,w,h3,cv8,w2,w3]
theorem shr_nat(x k:Nat)(hk:k<=64)(o o':Operand)(K:IntKind):binV Tryz.prog .shr 76 o o' (.int .u64 (x:Int)) (.int K (k:Int))=some (.int .u64 ((x/2^k:Nat):Int)):=by
 rw[zJ _ _ _ _ _ _ _ _ (by omega)]
 have e:min ((k:Int)).toNat IntKind.u64.bits=k:=by
  have:IntKind.u64.bits=64:=rfl
  rw[this];omega
 rw[e,Int.fdiv_eq_ediv_of_nonneg _ (by exact_mod_cast Nat.zero_le (2^k))]
 congr 2
theorem len7(x v:Nat)(h:x<65536)(hv:v<=90):∃n,n<=16/\Bl x n/\∀hp,B180_7 (.int .u64 (x:Int)) (.int .i64 (v:Int)) hp=some (.sc (.int .i64 ((n+v:Nat):Int)),hp):=by
 by_cases hx:256<=x
 ·obtain⟨n,h1,h2,h3⟩:=len10 (x/2^8) (v+8) (by omega) (by omega)
  refine⟨n+8,by omega,h2.up (by omega),fun hp=>?_⟩
  have s:=shr_nat x 8 (by omega) (.tmp 15) (.const (.int .u64 8)) .u64
  have c:(256:Int)<=(x:Int):=by omega
  have w:IntKind.i64.wrap ((v:Int)+8)=((v+8:Nat):Int):=by rw[qf]<;>omega
  have e:n+(v+8)=n+8+v:=by omega
  rw[e]at h3
  rw[B180_7_eq]
  simp at s w h3
  simp[c,s,w,h3]
 ·obtain⟨n,h1,h2,h3⟩:=len10 x v (by omega) (by omega)
  refine⟨n,by omega,h2,fun hp=>?_⟩
  have c:¬((256:Int)<=(x:Int)):=by omega
  rw[B180_7_eq]
  simp at h3
  simp[c,h3]
theorem len4(x v:Nat)(h:x<4294967296)(hv:v<=70):∃n,n<=32/\Bl x n/\∀hp,B180_4 (.int .u64 (x:Int)) (.int .i64 (v:Int)) hp=some (.sc (.int .i64 ((n+v:Nat):Int)),hp):=by
 by_cases hx:65536<=x
 ·obtain⟨n,h1,h2,h3⟩:=len7 (x/2^16) (v+16) (by omega) (by omega)
  refine⟨n+16,by omega,h2.up (by omega),fun hp=>?_⟩
  have s:=shr_nat x 16 (by omega) (.tmp 9) (.const (.int .u64 16)) .u64
  have c:(65536:Int)<=(x:Int):=by omega
  have w:IntKind.i64.wrap ((v:Int)+16)=((v+16:Nat):Int):=by rw[qf]<;>omega
  have e:n+(v+16)=n+16+v:=by omega
  rw[e]at h3
  rw[B180_4_eq]
  simp at s w h3
  simp[c,s,w,h3]
 ·obtain⟨n,h1,h2,h3⟩:=len7 x v (by omega) (by omega)
  refine⟨n,by omega,h2,fun hp=>?_⟩
  have c:¬((65536:Int)<=(x:Int)):=by omega
  rw[B180_4_eq]
  simp at h3
  simp[c,h3]
theorem run_len64(x:Nat)(h:x<18446744073709551616):∃n,n<=64/\Bl x n/\∀hp,run cxX 180 [.sc (.int .u64 (x:Int))] hp=some (.sc (.int .i64 (n:Int)),hp):=by
 by_cases hx:4294967296<=x
 ·obtain⟨n,h1,h2,h3⟩:=len4 (x/2^32) 32 (by omega) (by omega)
  refine⟨n+32,by omega,h2.up (by omega),fun hp=>?_⟩
  have s:=shr_nat x 32 (by omega) (.tmp 5) (.const (.int .u64 32)) .u64
  have c:(4294967296:Int)<=(x:Int):=by omega
  rw[E180]
  simp at s h3
  simp[c,s,h3]
 ·obtain⟨n,h1,h2,h3⟩:=len4 x 0 (by omega) (by omega)
  refine⟨n,by omega,h2,fun hp=>?_⟩
  have c:¬((4294967296:Int)<=(x:Int)):=by omega
  rw[E180]
  simp at h3
  simp[c,h3]
section
variable {B : Nat} (hB : B = 4294967296)
include hB
end
@[simp] theorem nilP_ptr (b g o : Nat) : nilP (.ptr b g o) = some false := rfl
@[simp] theorem nilP_nil : nilP (.sc (.pointer none)) = some true := rfl
@[simp] theorem nnA_ptr (b g o : Nat) : nnA (.ptr b g o) = some () := rfl
@[simp] theorem yF (b g o : Nat) : qz (.ptr b g o) = some (b, g, o) := rfl
@[simp] theorem ro_ptr (b g o : Nat) : ro (.ptr b g o) = .ptr b g o := rfl
@[simp] theorem ro1_ptr (b g o : Nat) : ro1 (.ptr b g o) = .ptr b g o := rfl
@[simp] theorem noTup_ptr (b g o : Nat) : noTup (.ptr b g o) = some () := rfl
theorem qj(hp:Hp)(b:Nat)(x y:List AV):(hp.put b 0 x).put b 0 y=hp.put b 0 y:=by
 unfold Hp.put
 congr 1
 funext z
 by_cases e:z=b
 ·simp[e]
 ·simp[e]
theorem zP(hp:Hp)(x y:List AV):(hp.new x).put hp.next 0 y=hp.new y:=by
 unfold Hp.put Hp.new
 congr 1
 funext z
 by_cases e:z=hp.next
 ·simp[e]
 ·simp[e]
theorem zd{hp:Hp}{b:Nat}{x:List AV}(h:hp.rd b 0=some x):hp.put b 0 x=hp:=by
 have hg:hp.get b=some (0,x):=by
  unfold Hp.rd at h
  obtain⟨p,hp1,h⟩:=bsm h
  split at h
  ·rename_i e
   cases h
   rw[hp1]
   obtain⟨p1,p2⟩:=p
   have:p1=0:=e.1
   subst this;rfl
  ·cases h
 obtain⟨n,g⟩:=hp
 unfold Hp.put
 congr 1
 funext z
 by_cases e:z=b
 ·subst e;simp only[if_true];exact hg.symm
 ·simp[e]
theorem qp(hp:Hp){b c:Nat}(x:List AV)(h:c≠b):(hp.put b 0 x).rd c 0=hp.rd c 0:=by
 simp[Hp.rd,Hp.put,h]
theorem zE(hp:Hp){c:Nat}(x:List AV)(h:c≠hp.next):(hp.new x).rd c 0=hp.rd c 0:=by
 simp[Hp.rd,Hp.new,h]
@[simp] theorem next_put (hp : Hp) (b : Nat) (x : List AV) : (hp.put b 0 x).next = hp.next := rfl
@[simp] theorem next_new (hp : Hp) (x : List AV) : (hp.new x).next = hp.next + 1 := rfl
abbrev Wc(l:List Int):List AV:=[S 2 1 (LI .u8 l)]
theorem yo{x:Int}:IntKind.u8.wrap x=x%256:=by rw[IntKind.wrap_u8]
theorem zt(b:Nat)(l:List Int)(c:Int)(hl:l.length<=1000000)(hp:Hp)(h:hp.rd b 0=some (Wc l)):
  run cxX 36 [.ptr b 0 0,.sc (.int .u8 c)] hp=some (.tup [],hp.put b 0 (Wc (l++[c]))):=by
 have ap:=appI .u8 l 2 (.inr rfl) 1 (by decide) c hl
 rw[E36]
 simp[h,getC,ap,qh,putN,qj]
theorem xm(b:Nat)(l m:List Int)(k:Nat)(hl:l.length+m.length<=1000000)(hp:Hp)(h:hp.rd b 0=some (Wc l)):
  run cxX 35 [.ptr b 0 0,S k 1 (LI .u8 m)] hp=some (.tup [],hp.put b 0 (Wc (l++m))):=by
 have ap:=fun k=>appsI .u8 l 2 (.inr rfl) 1 (by decide) k m hl
 rw[E35]
 simp[h,getC,ap,qh,putN,qj]
theorem run_wbytes(b:Nat)(l:List Int)(hl:l.length<=1000000)(hp:Hp)(h:hp.rd b 0=some (Wc l)):
  run cxX 13 [.ptr b 0 0] hp=some (S 1 1 (LI .u8 l),hp):=by
 have ap:=fun k=>appsI .u8 [] 1 (.inl rfl) 1 (by decide) k l (by simpa using hl)
 simp at ap
 rw[E13]
 simp[h,getC,ap]
theorem or128_bv:∀x:BitVec 8,(x|||128#8).toNat=x.toNat%128+128:=by decide
theorem or128(n:Nat)(t:TypeId)(x y:Operand):binV Tryz.prog .or t x y (.int .u8 ((n:Int)%256)) (.int .u8 128)=some (.int .u8 ((n%128+128:Nat):Int)):=by
 rw[ze]
 have e1:(BitVec.ofInt 8 ((n:Int)%256)).toNat=n%256:=by
  rw[BitVec.toNat_ofInt]
  omega
 have e2:(BitVec.ofInt IntKind.u8.bits ((n:Int)%256)|||BitVec.ofInt IntKind.u8.bits 128).toNat=n%128+128:=by
  show(BitVec.ofInt 8 ((n:Int)%256)|||128#8).toNat=_
  rw[or128_bv,e1]
  omega
 rw[e2,zo (by omega) (by omega)]
theorem shr7(n:Nat)(t:TypeId)(x y:Operand):binV Tryz.prog .shr t x y (.int .u64 (n:Int)) (.int .u64 7)=some (.int .u64 ((n/128:Nat):Int)):=by
 rw[zJ _ _ _ _ _ _ _ _ (by omega)]
 congr 2
 rw[Int.fdiv_eq_ediv_of_nonneg _ (by decide)]
 show(n:Int)/128=_
 omega
theorem wuint_loop(b:Nat):∀(n:Nat) (l:List Int) (hp:Hp),n<18446744073709551616->l.length+(uv n).length<=1000000->hp.rd b 0=some (Wc l)->
  B25_0 (.ptr b 0 0) (.int .u64 (n:Int)) hp=some (.tup [],hp.put b 0 (Wc (l++uv n))):=by
 intro n
 induction n using Nat.strongRecOn with
 | _ n ih=>
  intro l hp hn hl h
  rw[B25_0_eq]
  by_cases h1:n<128
  ·rw[uv_lt h1]at hl⊢
   have hge:¬((n:Int)>=128):=by omega
   have hge':¬((128:Int)<=(n:Int)):=by omega
   have w:IntKind.u8.wrap (n:Int)=(n:Int):=zo (by omega) (by omega)
   have wb:=zt b l n (by simp at hl;omega) hp h
   simp[hge',w,wb]
  ·rw[uv_ge h1]at hl⊢
   have hge:(128:Int)<=(n:Int):=by omega
   have w:IntKind.u8.wrap (n:Int)=(n:Int)%256:=by rw[yo]
   have wb:=zt b l ((n%128+128:Nat):Int) (by simp at hl;omega) hp h
   have o:=or128 n
   have s:=shr7 n
   have ih':=ih (n/128) (by omega) (l++[((n%128+128:Nat):Int)]) (hp.put b 0 (Wc (l++[((n%128+128:Nat):Int)]))) (by omega) (by simp at hl⊢;omega) (qh _ _ _)
   rw[qj]at ih'
   generalize((n%128+128:Nat):Int)=c at*
   generalize((n/128:Nat):Int)=d at*
   simp[hge,w,wb,o,s,ih',-ze]
theorem qZ(b n:Nat)(l:List Int)(hn:n<18446744073709551616)(hl:l.length+(uv n).length<=1000000)(hp:Hp)(h:hp.rd b 0=some (Wc l)):
  run cxX 25 [.ptr b 0 0,.sc (.int .u64 (n:Int))] hp=some (.tup [],hp.put b 0 (Wc (l++uv n))):=by
 rw[E25]
 simp[wuint_loop b n l hp hn hl h]
theorem xor_zero(x:Nat)(h:x<18446744073709551616)(t:TypeId)(a b:Operand):binV Tryz.prog .xor t a b (.int .u64 (x:Int)) (.int .u64 0)=some (.int .u64 (x:Int)):=by
 rw[jA]
 have e:(BitVec.ofInt IntKind.u64.bits (x:Int)^^^BitVec.ofInt IntKind.u64.bits 0).toNat=x:=by
  show(BitVec.ofInt 64 (x:Int)^^^0#64).toNat=x
  rw[BitVec.xor_zero,BitVec.toNat_ofInt]
  omega
 rw[e,qr (by omega) (by omega)]
theorem xor_ones(x:Nat)(h:x<18446744073709551616)(t:TypeId)(a b:Operand):binV Tryz.prog .xor t a b (.int .u64 (x:Int)) (.int .u64 18446744073709551615)=some (.int .u64 ((18446744073709551615-x:Nat):Int)):=by
 rw[jA]
 have e:(BitVec.ofInt IntKind.u64.bits (x:Int)^^^BitVec.ofInt IntKind.u64.bits 18446744073709551615).toNat=18446744073709551615-x:=by
  have e1:BitVec.ofInt 64 18446744073709551615=BitVec.allOnes 64:=by decide
  show(BitVec.ofInt 64 (x:Int)^^^BitVec.ofInt 64 18446744073709551615).toNat=_
  rw[e1,BitVec.xor_allOnes,BitVec.toNat_not,BitVec.toNat_ofInt]
  omega
 rw[e,qr (by omega) (by omega)]
theorem run_wint(b:Nat)(n:Int)(l:List Int)(hn:-9223372036854775808<=n/\n<9223372036854775808)(hl:l.length+(uv (zz n)).length<=1000000)(hp:Hp)(h:hp.rd b 0=some (Wc l)):
  run cxX 12 [.ptr b 0 0,.sc (.int .i64 n)] hp=some (.tup [],hp.put b 0 (Wc (l++uv (zz n)))):=by
 have wu:=qZ b (zz n) l (zz_lt hn.1 hn.2) hl hp h
 rw[E12]
 by_cases h0:n<0
 ·have z:zz n=18446744073709551615-(2*n+18446744073709551616).toNat:=by unfold zz;rw[if_pos h0];omega
  have w1:IntKind.u64.wrap n=n+18446744073709551616:=by rw[IntKind.wrap_u64];omega
  have s1:∀t x y,binV Tryz.prog .shl t x y (.int .u64 (n+18446744073709551616)) (.int .u64 1)=some (.int .u64 (((2*n+18446744073709551616).toNat:Nat):Int)):=by
   intro t x y
   rw[zn _ _ _ _ _ _ _ _ (by omega)]
   have e:(2:Int)^min (1:Int).toNat IntKind.u64.bits=2:=rfl
   rw[e,IntKind.wrap_u64]
   congr 2
   omega
  have s2:∀t x y,binV Tryz.prog .shr t x y (.int .i64 n) (.int .u64 63)=some (.int .i64 (-1)):=by
   intro t x y
   rw[zJ _ _ _ _ _ _ _ _ (by omega)]
   have e:(2:Int)^min (63:Int).toNat IntKind.i64.bits=9223372036854775808:=rfl
   rw[e,Int.fdiv_eq_ediv_of_nonneg _ (by omega)]
   congr 2
   omega
  have w2:IntKind.u64.wrap (-1)=18446744073709551615:=by rw[IntKind.wrap_u64];rfl
  have x1:=xor_ones (2*n+18446744073709551616).toNat (by omega)
  rw[<-z]at x1
  generalize(2*n+18446744073709551616).toNat=X at*
  simp[w1,s1,s2,w2,x1,wu,-jA]
 ·have z:zz n=(2*n).toNat:=by unfold zz;rw[if_neg h0];omega
  have w1:IntKind.u64.wrap n=n:=qr (by omega) (by omega)
  have s1:∀t x y,binV Tryz.prog .shl t x y (.int .u64 n) (.int .u64 1)=some (.int .u64 ((zz n:Nat):Int)):=by
   intro t x y
   rw[zn _ _ _ _ _ _ _ _ (by omega)]
   have e:(2:Int)^min (1:Int).toNat IntKind.u64.bits=2:=rfl
   rw[e,IntKind.wrap_u64,z]
   congr 2
   omega
  have s2:∀t x y,binV Tryz.prog .shr t x y (.int .i64 n) (.int .u64 63)=some (.int .i64 0):=by
   intro t x y
   rw[zJ _ _ _ _ _ _ _ _ (by omega)]
   have e:(2:Int)^min (63:Int).toNat IntKind.i64.bits=9223372036854775808:=rfl
   rw[e,Int.fdiv_eq_ediv_of_nonneg _ (by omega)]
   congr 2
   omega
  have w2:IntKind.u64.wrap 0=0:=rfl
  have x1:=xor_zero (zz n) (zz_lt hn.1 hn.2)
  simp[w1,s1,s2,w2,x1,wu,-jA]
abbrev Rc(k:Nat)(l:List Int)(p:Nat)(e:Int):List AV:=[S k 1 (LI .u8 l),.sc (.int .i64 (p:Int)),.sc (.int .i64 e)]
def rE(e f:Int):Int:=if e=0 then f else e
def rL(l:List Int)(p:Nat)(e:Int):Nat:=if e=0 then l.length-p else 0
theorem run_wread(k:Nat)(l:List Int)(hp:Hp):run cxX 42 [S k 1 (LI .u8 l)] hp=some (.ptr hp.next 0 0,hp.new (Rc (rk k) l 0 0)):=by
 rw[E42]
 simp[putN]
 rfl
theorem slcA_S3(k:Nat)(cs:List AV)(i h:Nat)(hih:i<=h)(hh:h<=cs.length)(hne:cs≠[]):
  slcA 1 (S k 1 cs) (some (.int .i64 (i:Int))) (some (.int .i64 (h:Int))) (some (.int .i64 (h:Int)))=some (S 0 1 ((cs.drop i).take (h-i))):=by
 have b1:qI 0 (cs.length:Int) (some (.int .i64 (h:Int))) cs.length=some h:=yn .i64 hh
 have b2:qI 0 (h:Int) (some (.int .i64 (h:Int))) cs.length=some h:=yn .i64 (Nat.le_refl h)
 have b3:qI 0 (h:Int) (some (.int .i64 (i:Int))) 0=some i:=yn .i64 hih
 rcases zB k 1 cs with e|e|⟨e,e'⟩
 ·rw[e]
  simp only[cmb,slcA,if_true,b1,b2,b3,Option.bind_some,Nat.mul_one]
  rfl
 ·rw[e]
  simp only[cmb,slcA,if_true,b1,b2,b3,Option.bind_some,Nat.mul_one]
  rfl
 ·exact absurd e' hne
section
variable (b k : Nat) (l : List Int) (p : Nat) (e : Int) (hp : Hp)
theorem zg(h:hp.rd b 0=some (Rc k l p e)):run cxX 93 [.ptr b 0 0] hp=some (.sc (.int .i64 e),hp):=by
 rw[E93]
 simp[h,qe]
theorem run_rfail(f:Int)(h:hp.rd b 0=some (Rc k l p e)):run cxX 95 [.ptr b 0 0,.sc (.int .i64 f)] hp=some (.tup [],hp.put b 0 (Rc k l p (rE e f))):=by
 rw[E95]
 unfold rE
 by_cases h0:e=0
 ·subst h0
  simp[h,qe,B95_1_eq,putN]
 ·simp[h,qe,h0,zd h]
theorem run_rleft(hl:l.length<=1000000000)(hp':p<=l.length)(h:hp.rd b 0=some (Rc k l p e)):run cxX 103 [.ptr b 0 0] hp=some (.sc (.int .i64 (rL l p e:Nat)),hp):=by
 rw[E103]
 unfold rL
 by_cases h0:e=0
 ·subst h0
  have w:IntKind.i64.wrap ((l.length:Int)-(p:Int))=((l.length-p:Nat):Int):=by rw[qf]<;>omega
  simp[h,qe,getC,B103_3_eq,w]
 ·simp[h,qe,h0,B103_2_eq]
def rB(l:List Int)(p:Nat)(e:Int):Int×Nat×Int:=if rL l p e=0 then(0,p,rE e 3)else(l.getD p 0,p+1,e)
theorem run_rbyte(hl:l.length<=1000000000)(hp':p<=l.length)(h:hp.rd b 0=some (Rc k l p e)):
  run cxX 48 [.ptr b 0 0] hp=some (.sc (.int .u8 (rB l p e).1),hp.put b 0 (Rc k l (rB l p e).2.1 (rB l p e).2.2)):=by
 have lf:=run_rleft b k l p e hp hl hp' h
 rw[E48]
 unfold rB
 by_cases h0:rL l p e=0
 ·have fl:=run_rfail b k l p e hp 3 h
  simp[lf,h0,fl]
 ·have he:e=0:=by
   unfold rL at h0
   by_cases he:e=0
   ·exact he
   ·simp[he]at h0
  subst he
  have hlt:p<l.length:=by unfold rL at h0;simp at h0;omega
  have w:IntKind.i64.wrap ((p:Int)+1)=((p+1:Nat):Int):=by rw[qf]<;>omega
  have w2:IntKind.i64.wrap (((p+1:Nat):Int)-1)=(p:Int):=by rw[qf]<;>omega
  have w3:IntKind.i64.wrap (p:Int)=(p:Int):=qf (by omega) (by omega)
  simp only[Int.natCast_add,Int.natCast_one]at w w2
  simp[lf,h0,h,qe,getC,w,putN,qh,w2,w3,hlt,Rc]
theorem run_rbytes(n:Nat)(hl:l.length<=1000000000)(hn:n<=1000000000)(hp':p<=l.length)(h:hp.rd b 0=some (Rc k l p e)):
  ∃t,run cxX 102 [.ptr b 0 0,.sc (.int .i64 (n:Int))] hp=
   if rL l p e<n then some (S 2 1 [],hp.put b 0 (Rc k l p (rE e 3)))else if n=0 then some (S 2 1 [],hp)else some (S t 1 (LI .u8 ((l.drop p).take n)),hp.put b 0 (Rc k l (p+n) e)):=by
 have lf:=run_rleft b k l p e hp hl hp' h
 have fl:=run_rfail b k l p e hp 3 h
 have h00:¬((n:Int)<0):=by omega
 rw[E102]
 by_cases h0:rL l p e<n
 ·refine⟨0,?_⟩
  simp[h00,lf,h0,B102_2_eq,fl]
 ·by_cases h1:n=0
  ·subst h1
   refine⟨0,?_⟩
   have hz:¬((rL l p e:Int)<0):=by omega
   simp[lf,hz,B102_4_eq]
  ·have he:e=0:=by
    unfold rL at h0
    by_cases he:e=0
    ·exact he
    ·simp[he]at h0;omega
   subst he
   have hlt:p+n<=l.length:=by unfold rL at h0;simp at h0;omega
   have w:IntKind.i64.wrap ((p:Int)+(n:Int))=((p+n:Nat):Int):=by rw[qf]<;>omega
   have w2:IntKind.i64.wrap (((p+n:Nat):Int)-(n:Int))=(p:Int):=by rw[qf]<;>omega
   have sl:=fun k=>slcA_S3 k (LI .u8 l) p (p+n) (by omega) (by simpa using hlt) (by intro hn0;have:=congrArg List.length hn0;simp at this;subst this;simp at hlt;omega)
   have e1:p+n-p=n:=by omega
   simp only[e1,dropI,takeI]at sl
   refine⟨0,?_⟩
   have hz:¬((rL l p 0:Int)<(n:Int)):=by omega
   have pn:∀x:AV,putN (Rc k l p 0) 1 [x]=some [S k 1 (LI .u8 l),x,.sc (.int .i64 0)]:=fun x=>rfl
   have hn1:¬((n:Int)=0):=by omega
   generalize hq:((p+n:Nat):Int)=q at*
   simp[h00,lf,h0,hz,B102_4_eq,h1,hn1,h,qe,getC,w,pn,qh,w2,sl,Rc,hq]
theorem run_rend(hl:l.length<=1000000000)(hp':p<=l.length)(h:hp.rd b 0=some (Rc k l p e)):
  run cxX 53 [.ptr b 0 0] hp=some (.sc (.int .i64 (if e=0/\p<l.length then 15 else e)),hp):=by
 have er:=zg b k l p e hp h
 rw[E53]
 by_cases h0:e=0
 ·subst h0
  by_cases h1:p<l.length
  ·simp[h,qe,getC,h1,B53_2_eq]
  ·simp[h,qe,getC,h1,B53_3_eq,er]
 ·simp[h,qe,h0,B53_3_eq,er]
end
theorem and127_bv:∀x:BitVec 8,(x&&&127#8).toNat=x.toNat%128:=by decide
theorem and127(c:Nat)(hc:c<256)(t:TypeId)(x y:Operand):binV Tryz.prog .and t x y (.int .u8 (c:Int)) (.int .u8 127)=some (.int .u8 ((c%128:Nat):Int)):=by
 rw[qE]
 have e1:(BitVec.ofInt 8 (c:Int)).toNat=c:=by
  rw[BitVec.toNat_ofInt];omega
 have e2:(BitVec.ofInt IntKind.u8.bits (c:Int)&&&BitVec.ofInt IntKind.u8.bits 127).toNat=c%128:=by
  show(BitVec.ofInt 8 (c:Int)&&&127#8).toNat=_
  rw[and127_bv,e1]
 rw[e2,zo (by omega) (by omega)]
theorem or_add(n x s:Nat)(hn:n<2^s)(h:n+x*2^s<18446744073709551616)(t:TypeId)(a b:Operand):
  binV Tryz.prog .or t a b (.int .u64 (n:Int)) (.int .u64 ((x*2^s:Nat):Int))=some (.int .u64 ((n+x*2^s:Nat):Int)):=by
 rw[ze]
 generalize hy:x*2^s=y at*
 have e:(BitVec.ofInt IntKind.u64.bits (n:Int)|||BitVec.ofInt IntKind.u64.bits (y:Int)).toNat=n+y:=by
  show(BitVec.ofInt 64 (n:Int)|||BitVec.ofInt 64 (y:Int)).toNat=_
  rw[BitVec.toNat_or,BitVec.toNat_ofInt,BitVec.toNat_ofInt]
  have e1:((n:Int)%((2^64:Nat):Int)).toNat=n:=by omega
  have e2:((y:Int)%((2^64:Nat):Int)).toNat=y:=by omega
  rw[e1,e2]
  have:=Nat.two_pow_add_eq_or_of_lt hn x
  rw[Nat.mul_comm]at this
  rw[hy]at this
  rw[Nat.or_comm,<-this,Nat.add_comm]
 rw[e,qr (by omega) (by omega)]
def rU(l:List Int)(p:Nat)(e:Int)(most:Nat):Nat×Nat×Int:=
 if e≠0 then(0,p,e)
 else if(gU (l.drop p) 0 0 0).2.2≠0 then(0,p+(gU (l.drop p) 0 0 0).2.1,(gU (l.drop p) 0 0 0).2.2)
 else if most<(gU (l.drop p) 0 0 0).1 then(0,p+(gU (l.drop p) 0 0 0).2.1,7)
 else((gU (l.drop p) 0 0 0).1,p+(gU (l.drop p) 0 0 0).2.1,0)
section
variable (b k : Nat) (l : List Int) (most : Nat)
theorem ruint_err(p:Nat)(e:Int)(he:e≠0)(hp:Hp)(h:hp.rd b 0=some (Rc k l p e))(v:Value)(n s:Int)(c:Int):
  B45_7 (.ptr b 0 0) v (.int .u64 n) (.int .i64 s) (.int .u8 c) hp=some (.sc (.int .u64 0),hp):=by
 have er:=zg b k l p e hp h
 rw[B45_7_eq]
 simp[er,he]
theorem ruint_err6(p:Nat)(e:Int)(hp:Hp)(h:hp.rd b 0=some (Rc k l p e))(v:Value)(n s:Int)(c:Int):
  B45_6 (.ptr b 0 0) v (.int .u64 n) (.int .i64 s) (.int .u8 c) hp=some (.sc (.int .u64 0),hp.put b 0 (Rc k l p (rE e 4))):=by
 have fl:=run_rfail b k l p e hp 4 h
 have e7:=ruint_err b k l p (rE e 4) (by unfold rE;split<;>simp_all) (hp.put b 0 (Rc k l p (rE e 4))) (qh _ _ _) v n s c
 rw[B45_6_eq]
 simp[fl,e7]
def uF(most:Nat)(g:Nat×Nat×Int):Nat×Int:=if g.2.2≠0 then(0,g.2.2)else if most<g.1 then(0,7)else(g.1,0)
theorem ruint_7(hm:most<18446744073709551616)(q s n c:Nat)(hp:Hp)(hc:c<256)(hs:s<=63)(hn:n<2^s)(hfit:n+c%128*2^s<18446744073709551616)(h:hp.rd b 0=some (Rc k l q 0)):
  B45_7 (.ptr b 0 0) (.int .u64 most) (.int .u64 n) (.int .i64 s) (.int .u8 c) hp=
   if c<128 then(if most<n+c*2^s then some (.sc (.int .u64 0),hp.put b 0 (Rc k l q 7))else some (.sc (.int .u64 ((n+c*2^s:Nat):Int)),hp))
   else B45_4 (.ptr b 0 0) (.int .u64 most) (.int .u64 ((n+(c-128)*2^s:Nat):Int)) (.int .i64 ((s+7:Nat):Int)) hp:=by
 have er:=zg b k l q 0 hp h
 have fl:=run_rfail b k l q 0 hp 7 h
 have an:=and127 c hc
 have w:IntKind.u64.wrap ((c%128:Nat):Int)=((c%128:Nat):Int):=qr (by omega) (by omega)
 have sh:∀t x y,binV Tryz.prog .shl t x y (.int .u64 ((c%128:Nat):Int)) (.int .i64 (s:Int))=some (.int .u64 ((c%128*2^s:Nat):Int)):=by
  intro t x y
  rw[zn _ _ _ _ _ _ _ _ (by omega)]
  have e:min (s:Int).toNat IntKind.u64.bits=s:=by
   have:IntKind.u64.bits=64:=rfl
   omega
  rw[e]
  have e2:((c%128:Nat):Int)*2^s=((c%128*2^s:Nat):Int):=by simp
  rw[e2,qr (by omega) (by omega)]
 have oo:=or_add n (c%128) s hn hfit
 have w7:IntKind.i64.wrap ((s:Int)+7)=((s+7:Nat):Int):=by rw[qf]<;>omega
 rw[B45_7_eq]
 by_cases h1:c<128
 ·have e1:c%128=c:=by omega
  rw[e1]at an w sh oo
  have hlt:((c:Int)<128):=by omega
  rw[if_pos h1]
  by_cases h2:most<n+c*2^s
  ·rw[if_pos h2]
   generalize c*2^s=y at*
   generalize hz:n+y=z at*
   have hlt2:(most:Int)<(z:Int):=by omega
   simp[er,an,w,sh,oo,hlt,hlt2,fl,rE,-qE,-ze]
  ·rw[if_neg h2]
   generalize c*2^s=y at*
   generalize hz:n+y=z at*
   have hlt2:¬((most:Int)<(z:Int)):=by omega
   simp[er,an,w,sh,oo,hlt,hlt2,-qE,-ze]
 ·have e1:c%128=c-128:=by omega
  rw[e1]at an w sh oo
  have hlt:¬((c:Int)<128):=by omega
  rw[if_neg h1]
  generalize(c-128)*2^s=y at*
  generalize hz:n+y=z at*
  generalize((c-128:Nat):Int)=c' at*
  generalize((s+7:Nat):Int)=s' at*
  simp[er,an,w,sh,oo,hlt,w7,-qE,-ze]
end
section
variable (b k : Nat) (l : List Int) (most : Nat)
theorem ruint_loop(hm:most<18446744073709551616)(hl:l.length<=1000000000)(h8:∀c∈l,0<=c/\c<256)(p:Nat):∀(r:List Int) (u s n i:Nat) (hp:Hp),l.drop (p+u)=r->p+u<=l.length->s=7*i->i<=9->n<2^s->hp.rd b 0=some (Rc k l (p+u) 0)->
  B45_4 (.ptr b 0 0) (.int .u64 most) (.int .u64 n) (.int .i64 s) hp=some (.sc (.int .u64 ((uF most (gU r s n u)).1:Nat)),hp.put b 0 (Rc k l (p+(gU r s n u).2.1) (uF most (gU r s n u)).2)):=by
 intro r
 induction r with
 | nil=>
  intro u s n i hp hr hpu hs hi hn h
  have hle:=qt hr
  have hb:rB l (p+u) 0=(0,p+u,3):=by
   unfold rB rL rE
   rw[if_pos (by simp;omega)]
   simp
  have rb:=run_rbyte b k l (p+u) 0 hp hl hpu h
  rw[hb]at rb
  have g:gU [] s n u=(0,u,3):=rfl
  have f:uF most (0,u,3)=(0,3):=rfl
  rw[g,f]
  have e6:=ruint_err6 b k l (p+u) 3 (hp.put b 0 (Rc k l (p+u) 3)) (qh _ _ _) (.int .u64 most) n s 0
  have e7:=ruint_err b k l (p+u) 3 (by decide) (hp.put b 0 (Rc k l (p+u) 3)) (qh _ _ _) (.int .u64 most) n s 0
  have r34:rE 3 4=3:=rfl
  rw[qj,r34]at e6
  rw[B45_4_eq]
  by_cases h63:s=63
  ·subst h63
   simp at e6
   simp[rb,e6]
  ·have hc:¬((s:Int)=63):=by omega
   by_cases h0:s=0
   ·subst h0
    simp at e7
    simp[rb,e7]
   ·have hp0:0<s:=by omega
    simp[rb,hc,hp0,e6]
 | cons c r ih=>
  intro u s n i hp hr hpu hs hi hn h
  obtain⟨e1,e2,hlt,e3⟩:=ql hr
  have hc8:=h8 c (List.mem_of_getElem? e1)
  obtain⟨cn,rfl⟩:∃cn:Nat,c=cn:=⟨c.toNat,by omega⟩
  have hb:rB l (p+u) 0=((cn:Int),p+u+1,0):=by
   unfold rB rL
   rw[if_neg (by simp;omega)]
   simp[hlt,e3]
  have rb:=run_rbyte b k l (p+u) 0 hp hl hpu h
  rw[hb]at rb
  have e6:=ruint_err6 b k l (p+u+1) 0 (hp.put b 0 (Rc k l (p+u+1) 0)) (qh _ _ _) (.int .u64 most) n s cn
  have r34:rE 0 4=4:=rfl
  rw[qj,r34]at e6
  have hs63:s<=63:=by omega
  by_cases bad:(s=63/\1<(cn:Int))\/(0<s/\(cn:Int)=0)
  ·have g:gU ((cn:Int)::r) s n u=(0,u+1,4):=by unfold gU;rw[if_pos bad]
   have f:uF most (0,u+1,4)=(0,4):=rfl
   rw[g,f,B45_4_eq]
   have hpu1:p+(u+1)=p+u+1:=by omega
   rw[hpu1]
   by_cases h63:s=63
   ·subst h63
    by_cases h1:1<cn
    ·have h1':1<(cn:Int):=by omega
     simp at e6
     simp[rb,h1',e6]
    ·have hc0:cn=0:=by
      rcases bad with⟨_,h2⟩|⟨_,h2⟩<;>omega
     subst hc0
     simp at e6
     simp[rb,e6]
   ·have hc:¬((s:Int)=63):=by omega
    have hz:0<s/\cn=0:=by
     rcases bad with⟨h2,_⟩|⟨h2,h3⟩
     ·exact absurd h2 h63
     ·exact⟨h2,by omega⟩
    obtain⟨hz1,hz2⟩:=hz
    subst hz2
    simp at e6
    simp[rb,hc,hz1,e6]
  ·have hfit:n+cn%128*2^s<18446744073709551616:=by
    by_cases h63:s=63
    ·subst h63
     have hc1:¬(1<(cn:Int)):=fun h2=>bad (.inl ⟨rfl,h2⟩)
     have e:(2:Nat)^63=9223372036854775808:=rfl
     rw[e]at hn⊢
     have:cn%128<=1:=by omega
     omega
    ·have hs56:s<=56:=by omega
     have h7:2^s<=2^56:=Nat.pow_le_pow_right (by decide) hs56
     have e:(2:Nat)^56=72057594037927936:=rfl
     rw[e]at h7
     have:cn%128*2^s<=127*72057594037927936:=Nat.mul_le_mul (by omega) h7
     omega
   have b7:=ruint_7 b k l most hm (p+u+1) s n cn (hp.put b 0 (Rc k l (p+u+1) 0)) (by omega) hs63 hn hfit (qh _ _ _)
   have hpu1:p+(u+1)=p+u+1:=by omega
   have step:B45_4 (.ptr b 0 0) (.int .u64 most) (.int .u64 n) (.int .i64 s) hp=B45_7 (.ptr b 0 0) (.int .u64 most) (.int .u64 n) (.int .i64 s) (.int .u8 cn) (hp.put b 0 (Rc k l (p+u+1) 0)):=by
    rw[B45_4_eq]
    by_cases h63:s=63
    ·subst h63
     have h1:¬(1<cn):=fun h2=>bad (.inl ⟨rfl,by omega⟩)
     have h2:¬(cn=0):=fun h2=>bad (.inr ⟨by omega,by omega⟩)
     have h1':¬(1<(cn:Int)):=by omega
     simp[rb,h1',h2]
    ·have hc:¬((s:Int)=63):=by omega
     by_cases h0:s=0
     ·subst h0
      simp[rb]
     ·have hp0:0<s:=by omega
      have h2:¬(cn=0):=fun h2=>bad (.inr ⟨by omega,by omega⟩)
      simp[rb,hc,hp0,h2]
   rw[step,b7]
   by_cases h1:cn<128
   ·have g:gU ((cn:Int)::r) s n u=(n+cn*2^s,u+1,0):=by
     unfold gU;rw[if_neg bad,if_pos (by omega),Int.toNat_natCast]
    rw[if_pos h1,g,qj]
    by_cases h2:most<n+cn*2^s
    ·have f:uF most (n+cn*2^s,u+1,0)=(0,7):=by unfold uF;simp[h2]
     rw[if_pos h2,f]
     simp only[hpu1];rfl
    ·have f:uF most (n+cn*2^s,u+1,0)=(n+cn*2^s,0):=by unfold uF;simp[h2]
     rw[if_neg h2,f]
     simp only[hpu1]
   ·have g:gU ((cn:Int)::r) s n u=gU r (s+7) (n+(cn-128)*2^s) (u+1):=by
     conv=>lhs;unfold gU
     rw[if_neg bad,if_neg (by omega),Int.toNat_natCast]
    have hi9:i+1<=9:=by
     by_cases h63:s=63
     ·exact absurd (.inl ⟨h63,by omega⟩) bad
     ·omega
    have hn7:n+(cn-128)*2^s<2^(s+7):=by
     have e:2^(s+7)=128*2^s:=by rw[Nat.pow_add];omega
     rw[e]
     have:(cn-128)*2^s<=127*2^s:=Nat.mul_le_mul_right _ (by omega)
     omega
    rw[if_neg h1,g]
    have hh:=ih (u+1) (s+7) (n+(cn-128)*2^s) (i+1) (hp.put b 0 (Rc k l (p+u+1) 0)) (by rw[hpu1];exact e2) (by omega) (by omega) hi9 hn7 (by rw[hpu1];exact qh _ _ _)
    rw[qj]at hh
    exact hh
theorem run_ruint(p:Nat)(e:Int)(hm:most<18446744073709551616)(hl:l.length<=1000000000)(h8:∀c∈l,0<=c/\c<256)(hpl:p<=l.length)(hp:Hp)(h:hp.rd b 0=some (Rc k l p e)):
  run cxX 45 [.ptr b 0 0,.sc (.int .u64 (most:Int))] hp=some (.sc (.int .u64 ((rU l p e most).1:Nat)),hp.put b 0 (Rc k l (rU l p e most).2.1 (rU l p e most).2.2)):=by
 rw[E45]
 by_cases he:e=0
 ·subst he
  have hh:=ruint_loop b k l most hm hl h8 p (l.drop p) 0 0 0 0 hp rfl (by omega) rfl (by omega) (by decide) h
  have er:rU l p 0 most=((uF most (gU (l.drop p) 0 0 0)).1,p+(gU (l.drop p) 0 0 0).2.1,(uF most (gU (l.drop p) 0 0 0)).2):=by
   unfold rU uF
   rw[if_neg (by simp)]
   split
   ·rfl
   ·split<;>rfl
  rw[er]
  simpa using hh
 ·have er:rU l p e most=(0,p,e):=by unfold rU;rw[if_pos he]
  rw[er]
  have hb:rB l p e=(0,p,e):=by
   unfold rB rL rE
   simp[he]
  have rb:=run_rbyte b k l p e hp hl hpl h
  rw[hb,zd h]at rb
  have e7:=ruint_err b k l p e he hp h (.int .u64 most) 0 0 0
  rw[zd h]
  simp[B45_4_eq,rb,e7]
end
theorem rU_lt(l:List Int)(p:Nat)(e:Int)(most:Nat)(h8:∀c∈l,0<=c/\c<256):(rU l p e most).1<18446744073709551616:=by
 unfold rU
 split
 ·exact(by decide:0<18446744073709551616)
 ·split
  ·exact(by decide:0<18446744073709551616)
  ·rename_i h
   split
   ·exact(by decide:0<18446744073709551616)
   ·obtain⟨m,m1,_,_,_,m5⟩:=gU_ok (l.drop p) 0 0 0 0 (fun c hc=>h8 c (List.mem_of_mem_drop hc)) rfl (by omega) (Classical.not_not.mp h)
    show(gU (l.drop p) 0 0 0).1<_
    rw[m1]
    simpa using m5
theorem and1(n:Nat)(hn:n<18446744073709551616)(t:TypeId)(x y:Operand):binV Tryz.prog .and t x y (.int .u64 (n:Int)) (.int .u64 1)=some (.int .u64 ((n%2:Nat):Int)):=by
 rw[qE]
 have e2:(BitVec.ofInt IntKind.u64.bits (n:Int)&&&BitVec.ofInt IntKind.u64.bits 1).toNat=n%2:=by
  show(BitVec.ofInt 64 (n:Int)&&&1#64).toNat=_
  rw[BitVec.toNat_and,BitVec.toNat_ofInt]
  have e1:((n:Int)%((2^64:Nat):Int)).toNat=n:=by omega
  rw[e1]
  exact Nat.and_one_is_mod n
 rw[e2,qr (by omega) (by omega)]
theorem unV_neg(P:Program)(a:Int):unV P .neg (.int .i64 a)=some (.int .i64 (IntKind.i64.wrap (0-a))):=rfl
theorem run_rint(b k:Nat)(l:List Int)(p:Nat)(e:Int)(hl:l.length<=1000000000)(h8:∀c∈l,0<=c/\c<256)(hpl:p<=l.length)(hp:Hp)(h:hp.rd b 0=some (Rc k l p e)):
  run cxX 107 [.ptr b 0 0] hp=some (.sc (.int .i64 (unzz (rU l p e 18446744073709551615).1)),hp.put b 0 (Rc k l (rU l p e 18446744073709551615).2.1 (rU l p e 18446744073709551615).2.2)):=by
 have ru:=run_ruint b k l 18446744073709551615 p e (by decide) hl h8 hpl hp h
 have hu:=rU_lt l p e 18446744073709551615 h8
 generalize rU l p e 18446744073709551615=q at*
 obtain⟨u,p',e'⟩:=q
 simp only at ru hu⊢
 have sh:∀t x y,binV Tryz.prog .shr t x y (.int .u64 (u:Int)) (.int .u64 1)=some (.int .u64 ((u/2:Nat):Int)):=by
  intro t x y
  rw[zJ _ _ _ _ _ _ _ _ (by omega)]
  congr 2
  rw[Int.fdiv_eq_ediv_of_nonneg _ (by decide)]
  show(u:Int)/2=_
  omega
 have an:=and1 u hu
 have w1:IntKind.i64.wrap ((u/2:Nat):Int)=((u/2:Nat):Int):=qf (by omega) (by omega)
 have w2:IntKind.i64.wrap ((u%2:Nat):Int)=((u%2:Nat):Int):=qf (by omega) (by omega)
 have lit:(.int .u64 18446744073709551615:Value)= .int .u64 ((18446744073709551615:Nat):Int):=rfl
 rw[E107]
 have fin:∀t x y,binV Tryz.prog .xor t x y (.int .i64 ((u/2:Nat):Int)) (.int .i64 (IntKind.i64.wrap (0-((u%2:Nat):Int))))=some (.int .i64 (unzz u)):=by
  intro t x y
  rw[jA]
  have hx:(BitVec.ofInt 64 ((u/2:Nat):Int)).toNat=u/2:=by rw[BitVec.toNat_ofInt];omega
  by_cases h2:u%2=0
  ·have e0:IntKind.i64.wrap (0-((u%2:Nat):Int))=0:=by rw[h2];rfl
   have e1:(BitVec.ofInt IntKind.i64.bits ((u/2:Nat):Int)^^^BitVec.ofInt IntKind.i64.bits (IntKind.i64.wrap (0-((u%2:Nat):Int)))).toNat=u/2:=by
    rw[e0]
    show(BitVec.ofInt 64 ((u/2:Nat):Int)^^^0#64).toNat=_
    rw[BitVec.xor_zero,hx]
   rw[e1,w1]
   unfold unzz
   rw[if_pos h2]
  ·have e0:IntKind.i64.wrap (0-((u%2:Nat):Int))=-1:=by
    have:u%2=1:=by omega
    rw[this];rfl
   have e1:(BitVec.ofInt IntKind.i64.bits ((u/2:Nat):Int)^^^BitVec.ofInt IntKind.i64.bits (IntKind.i64.wrap (0-((u%2:Nat):Int)))).toNat=18446744073709551615-u/2:=by
    rw[e0]
    have e2:BitVec.ofInt 64 (-1)=BitVec.allOnes 64:=by decide
    show(BitVec.ofInt 64 ((u/2:Nat):Int)^^^BitVec.ofInt 64 (-1)).toNat=_
    rw[e2,BitVec.xor_allOnes,BitVec.toNat_not,hx]
   rw[e1]
   unfold unzz
   have hv:u/2<9223372036854775808:=by omega
   generalize u/2=v at*
   have e3:IntKind.i64.wrap ((18446744073709551615-v:Nat):Int)=-(v:Int)-1:=by
    have e4:((18446744073709551615-v:Nat):Int)=18446744073709551615-(v:Int):=by omega
    rw[e4,IntKind.wrap_i64]
    omega
   rw[if_neg h2,e3]
 generalize((u/2:Nat):Int)=c1 at*
 generalize((u%2:Nat):Int)=c2 at*
 generalize unzz u=z at*
 simp at ru
 simp only[Int.zero_sub]at fin
 simp[ru,sh,an,w1,w2,unV_neg,fin,-qE,-jA]
def Fm(X:List Nat)(hp hp':Hp):Prop:=hp.next<=hp'.next/\∀c,c<hp.next->c∉X->hp'.get c=hp.get c
theorem Fm.refl(X:List Nat)(hp:Hp):Fm X hp hp:=⟨Nat.le_refl _,fun _ _ _=>rfl⟩
theorem Fm.trans{X:List Nat}{a b c:Hp}(h:Fm X a b)(g:Fm X b c):Fm X a c:=
 ⟨Nat.le_trans h.1 g.1,fun x hx hn=>by rw[g.2 x (Nat.lt_of_lt_of_le hx h.1) hn,h.2 x hx hn]⟩
theorem Fm.mono{X Y:List Nat}{a b:Hp}(h:Fm X a b)(hs:∀c,c∈X->c<a.next->c∈Y):Fm Y a b:=
 ⟨h.1,fun c hc hn=>h.2 c hc (fun hx=>hn (hs c hx hc))⟩
theorem rdg{a b:Hp}{c:Nat}(h:b.get c=a.get c):b.rd c 0=a.rd c 0:=by unfold Hp.rd;rw[h]
theorem Fm.rd{X:List Nat}{a b:Hp}(h:Fm X a b){c:Nat}(hc:c<a.next)(hn:c∉X):b.rd c 0=a.rd c 0:=rdg (h.2 c hc hn)
theorem Fm.put{X:List Nat}(hp:Hp)(b:Nat)(x:List AV)(hb:b∈X):Fm X hp (hp.put b 0 x):=
  ⟨Nat.le_refl _,fun c _ hn=>by
    have:c≠b:=fun e=>hn (e▸hb)
    simp[Hp.put,this]⟩
theorem Fm.new(X:List Nat)(hp:Hp)(x:List AV):Fm X hp (hp.new x):=
  ⟨Nat.le_succ _,fun c hc _=>by
    have:c≠hp.next:=by omega
    simp[Hp.new,this]⟩
theorem Fm.delNew{X:List Nat}(hp:Hp)(b:Nat)(x:List AV)(hb:b∈X):Fm X hp ((hp.del b).new x):=
  ⟨Nat.le_succ _,fun c hc hn=>by
    have h1:c≠hp.next:=by omega
    have h2:c≠b:=fun e=>hn (e▸hb)
    have h3:c≠(hp.del b).next:=h1
    show(if c=(hp.del b).next then _ else(hp.del b).get c)=_
    rw[if_neg h3]
    show(if c=b then none else hp.get c)=_
    rw[if_neg h2]⟩
def Bs(nb:Nat)(bs:List Bool):AV:=if bs=[]then S 2 1 []else .ms nb 0 0 (pk bs).length 1
def BW(hp:Hp)(w nb:Nat)(bs:List Bool):Prop:=
 w<hp.next/\(bs=[]->nb=w)/\(bs≠[]->nb<hp.next/\nb≠w/\hp.rd nb 0=some (LI .u8 (pk bs)))/\hp.rd w 0=some [Bs nb bs,.sc (.int .i64 (bs.length:Int))]
def RW(hp:Hp)(w nb:Nat)(l:List Bool)(m:Nat):Prop:=
 w<hp.next/\nb<hp.next/\nb≠w/\hp.rd nb 0=some (LI .u8 (pk l))/\hp.rd w 0=some [.ms nb 0 0 (pk l).length 1,.sc (.int .i64 (m:Int))]
theorem BW.new(hp:Hp):BW (hp.new [S 2 1 [],.sc (.int .i64 0)]) hp.next hp.next []:=
 ⟨Nat.lt_succ_self _,fun _=>rfl,fun h=>absurd rfl h,by rw[qs];rfl⟩
theorem BW.fr{hp hp':Hp}{w nb:Nat}{bs:List Bool}{X:List Nat}(h:BW hp w nb bs)(f:Fm X hp hp')(h1:w∉X)(h2:nb∉X):BW hp' w nb bs:=
  ⟨Nat.lt_of_lt_of_le h.1 f.1,h.2.1,fun hb=>⟨Nat.lt_of_lt_of_le (h.2.2.1 hb).1 f.1,(h.2.2.1 hb).2.1,by rw[f.rd (h.2.2.1 hb).1 h2];exact(h.2.2.1 hb).2.2⟩,
    by rw[f.rd h.1 h1];exact h.2.2.2⟩
def BS(hp:Hp)(w nb:Nat)(hp':Hp)(nb':Nat)(l:List Bool):Prop:=BW hp' w nb' l/\Fm [w,nb] hp hp'/\(nb'=nb\/hp.next<=nb')
theorem BS.trans {a b c : Hp}{w n1 n2 n3:Nat}{l m:List Bool}(hw:w<a.next)(h:BS a w n1 b n2 l)(g:BS b w n2 c n3 m):BS a w n1 c n3 m:=by
  refine⟨g.1,⟨Nat.le_trans h.2.1.1 g.2.1.1,fun x hx hn=>?_⟩,?_⟩
  · have hx':=Nat.lt_of_lt_of_le hx h.2.1.1
    simp at hn
    rw [g.2.1.2 x hx' (by simp;refine⟨hn.1,?_⟩;rcases h.2.2 with e|e
                          ·rw[e];exact hn.2
                          ·omega),h.2.1.2 x hx (by simp;exact hn)]
  · have:=h.2.1.1
    rcases h.2.2 with e|e
    · rcases g.2.2 with e'|e'
      ·exact .inl (by rw[e',e])
      ·exact .inr (by omega)
    · rcases g.2.2 with e'|e'
      ·exact .inr (by omega)
      ·exact .inr (by omega)
theorem rem8(m:Nat)(t:TypeId)(x y:Operand):binV Tryz.prog .rem t x y (.int .i64 (m:Int)) (.int .i64 8)=some (.int .i64 ((m%8:Nat):Int)):=by
 rw[qO _ _ _ _ _ _ _ (by omega),qN (by omega)]
 rfl
theorem quo8(m:Nat)(hm:m<1000000000)(t:TypeId)(x y:Operand):binV Tryz.prog .quo t x y (.int .i64 (m:Int)) (.int .i64 8)=some (.int .i64 ((m/8:Nat):Int)):=by
 rw[xu _ _ _ _ _ _ _ (by omega),Int.tdiv_eq_ediv_of_nonneg (by omega),qf (by omega) (by omega)]
 rfl
theorem pkne{l:List Bool}(h:l≠[]):pk l≠[]:=by
 intro e
 have:=congrArg List.length e
 have h1:=List.length_pos_iff.mpr h
 simp at this
 omega
section
variable (w nb n : Nat) (v1 : Value) (i : Nat) (bs : List Bool) (hp : Hp)
theorem bput_A(hm:bs.length<7900000)(h:BW hp w nb bs):∃hp' nb',B86_2 (.ptr w 0 0) v1 (.int .i64 (i:Int)) hp=B86_6 (.ptr w 0 0) v1 (.int .i64 (i:Int)) hp'/\
  RW hp' w nb' (bs++[false]) bs.length/\Fm [w,nb] hp hp'/\(nb'=nb\/hp.next<=nb'):=by
 obtain⟨h1,h2,h3,h4⟩:=h
 have hi:(0:Int)<=(i:Int):=by omega
 have r8:=rem8 bs.length
 rw[B86_2_eq]
 by_cases hz:bs.length%8=0
 ·have pf:=pk_false bs
  rw[if_pos hz]at pf
  rw[hz]at r8
  by_cases hb:bs=[]
  ·subst hb
   have e:Bs nb []=S 2 1 []:=rfl
   have r80:∀t x y,binV Tryz.prog .rem t x y (.int .i64 0) (.int .i64 8)=some (.int .i64 0):=fun t x y=>rem8 0 t x y
   rw[e]at h4
   have a:=appM_first .u8 0 1 (by decide) hp
   have hne:w≠hp.next:=by omega
   have r1:=zE hp (LI .u8 [0]) hne
   rw[h4]at r1
   refine⟨(hp.new (LI .u8 [0])).put w 0 [.ms hp.next 0 0 1 1,.sc (.int .i64 0)],hp.next,?_,?_,?_,.inr (Nat.le_refl _)⟩
   ·simp[hi,h4,qe,getC,r80,okV,a,r1,putN]
   ·refine⟨by simp;omega,by simp,fun e=>hne e.symm,?_,?_⟩
    ·rw[qp _ _ (fun e=>hne e.symm),qs];rfl
    ·rw[qh];rfl
   ·exact(Fm.new _ hp _).trans (Fm.put _ _ _ (by simp))
  ·obtain⟨n1,n2,n3⟩:=h3 hb
   have e:Bs nb bs= .ms nb 0 0 (pk bs).length 1:=if_neg hb
   rw[e]at h4
   have a:=appM_one .u8 (pk bs) 0 1 nb (by decide) (by rw[zK];omega) (pkne hb) hp n3
   have hne:w≠hp.next:=by omega
   have r1:((hp.del nb).new (LI .u8 (pk bs++[0]))).rd w 0=hp.rd w 0:=(Fm.delNew (X:=[nb]) hp nb _ (by simp)).rd h1 (by simp;exact fun e=>n2 e.symm)
   rw[h4]at r1
   refine⟨((hp.del nb).new (LI .u8 (pk bs++[0]))).put w 0 [.ms hp.next 0 0 ((pk bs).length+1) 1,.sc (.int .i64 bs.length)],hp.next,?_,?_,?_,.inr (Nat.le_refl _)⟩
   ·generalize pk bs=pb at*
    simp[hi,h4,qe,getC,r8,okV,a,r1,putN]
   ·refine⟨by simp[Hp.del];omega,by simp[Hp.del],fun e=>hne e.symm,?_,?_⟩
    ·rw[qp _ _ (fun e=>hne e.symm),pf];exact qs (hp.del nb) _
    ·rw[qh,pf,List.length_append];rfl
   ·exact(Fm.delNew hp nb _ (by simp)).trans (Fm.put _ _ _ (by simp))
 ·have hb:bs≠[]:=fun e=>hz (by rw[e];rfl)
  obtain⟨n1,n2,n3⟩:=h3 hb
  have e:Bs nb bs= .ms nb 0 0 (pk bs).length 1:=if_neg hb
  rw[e]at h4
  have pf:=pk_false bs
  rw[if_neg hz]at pf
  refine⟨hp,nb,?_,⟨h1,n1,n2,by rw[pf];exact n3,by rw[pf];exact h4⟩,Fm.refl _ _,.inl rfl⟩
  have hz':¬(((bs.length%8:Nat):Int)=0):=by omega
  generalize((bs.length%8:Nat):Int)=z at*
  simp[hi,h4,qe,r8,hz']
theorem shr128(m:Nat)(t:TypeId)(x y:Operand):binV Tryz.prog .shr t x y (.int .u8 128) (.int .i64 ((m%8:Nat):Int))=some (.int .u8 ((2^(7-m%8):Nat):Int)):=by
 rw[zJ _ _ _ _ _ _ _ _ (by omega),Int.toNat_natCast]
 have h:m%8<8:=Nat.mod_lt _ (by decide)
 generalize m%8=r at*
 have:r=0\/r=1\/r=2\/r=3\/r=4\/r=5\/r=6\/r=7:=by omega
 rcases this with e|e|e|e|e|e|e|e<;>subst e<;>rfl
theorem or8(bs:List Bool)(t:TypeId)(x y:Operand):binV Tryz.prog .or t x y (.int .u8 (by8 (bs++[false]) (8*(bs.length/8)):Nat)) (.int .u8 ((2^(7-bs.length%8):Nat):Int))=
  some (.int .u8 (by8 (bs++[true]) (8*(bs.length/8)):Nat)):=by
 rw[ze]
 have e:(BitVec.ofInt IntKind.u8.bits (by8 (bs++[false]) (8*(bs.length/8)):Nat)|||BitVec.ofInt IntKind.u8.bits ((2^(7-bs.length%8):Nat):Int)).toNat=by8 (bs++[true]) (8*(bs.length/8)):=by
  rw[<-by8_or,BitVec.ofInt_natCast,BitVec.ofInt_natCast]
  rfl
 have:=by8_lt (bs++[true]) (8*(bs.length/8))
 rw[e,zo (by omega) (by omega)]
theorem yZ(K:IntKind)(l:List Int)(i:Nat)(h:i<l.length):qe (LI K l) i=some (.int K (l.getD i 0)):=by
 unfold qe LI
 rw[List.getElem?_map,List.getD_eq_getElem?_getD,List.getElem?_eq_getElem h]
 rfl
theorem bput_B(hn:n<18446744073709551616)(hi:i<64)(hm:bs.length<7900000)(h:RW hp w nb (bs++[false]) bs.length):
  ∃hp',B86_6 (.ptr w 0 0) (.int .u64 (n:Int)) (.int .i64 (i:Int)) hp=B86_8 (.ptr w 0 0) (.int .u64 (n:Int)) (.int .i64 (i:Int)) hp'/\
   RW hp' w nb (bs++[n.testBit i]) bs.length/\Fm [w,nb] hp hp':=by
 obtain⟨h1,h2,h3,h4,h5⟩:=h
 have s1:=fun o o'=>shr_nat n i (by omega) o o' .i64
 have s2':=and1 (n/2^i) (Nat.lt_of_le_of_lt (Nat.div_le_self _ _) hn)
 have tb:n.testBit i=decide (n/2^i%2=1):=Nat.testBit_eq_decide_div_mod_eq
 rw[B86_6_eq]
 by_cases hb:n/2^i%2=1
 ·have s2:∀t x y,binV Tryz.prog .and t x y (.int .u64 ((n/2^i:Nat):Int)) (.int .u64 1)=some (.int .u64 1):=fun t x y=>by rw[s2',hb];rfl
  rw[tb,decide_eq_true hb]
  have q:=quo8 bs.length (by omega)
  have r:=rem8 bs.length
  have s3:=shr128 bs.length
  have o8:=or8 bs
  have il:bs.length/8<(pk (bs++[false])).length:=by rw[zK];simp;omega
  have ix:=zm .i64 il
  have g1:=yZ .u8 (pk (bs++[false])) _ il
  rw[pk_getD _ _ (by simp;omega)]at g1
  have p1:=putN_I .u8 (pk (bs++[false])) (bs.length/8) (by8 (bs++[true]) (8*(bs.length/8)):Nat) il
  rw[<-pk_true]at p1
  have e:=zK (bs++[true])
  have e2:(pk (bs++[true])).length=(pk (bs++[false])).length:=by simp
  refine⟨hp.put nb 0 (LI .u8 (pk (bs++[true]))),?_,⟨h1,h2,h3,by rw[qh],by rw[qp _ _ (fun e=>h3 e.symm),h5,e2]⟩,Fm.put _ _ _ (by simp)⟩
  generalize(by8 (bs++[false]) (8*(bs.length/8)):Nat)=x at*
  generalize(by8 (bs++[true]) (8*(bs.length/8)):Nat)=y at*
  generalize pk (bs++[false])=pf at*
  generalize pk (bs++[true])=pt at*
  generalize((2^(7-bs.length%8):Nat):Int)=zz at*
  generalize n/2^i=nn at*
  generalize bs.length/8=jj at*
  generalize bs.length%8=kk at*
  simp only[cmb,s1,Option.bind_some]
  have gs:∀(x:AV) (v:Value),qe [x,.sc v] 1=some v:=fun _ _=>rfl
  simp[s2,h5,getC,gs,q,ix,h4,g1,r,s3,o8,p1,-ze,-qE]
 ·have hz:n/2^i%2=0:=by omega
  have s2:∀t x y,binV Tryz.prog .and t x y (.int .u64 ((n/2^i:Nat):Int)) (.int .u64 1)=some (.int .u64 0):=fun t x y=>by rw[s2',hz];rfl
  rw[tb,decide_eq_false hb]
  refine⟨hp,?_,⟨h1,h2,h3,h4,h5⟩,Fm.refl _ _⟩
  generalize n/2^i=nn at*
  simp only[cmb,s1,Option.bind_some]
  simp[s2,-qE]
theorem bput_C(hm:bs.length<7900000)(b:Bool)(hi:i<64)(h:RW hp w nb (bs++[b]) bs.length):
  ∃hp',B86_8 (.ptr w 0 0) v1 (.int .i64 (i:Int)) hp=B86_2 (.ptr w 0 0) v1 (.int .i64 ((i:Int)-1)) hp'/\BW hp' w nb (bs++[b])/\Fm [w,nb] hp hp':=by
 obtain⟨h1,h2,h3,h4,h5⟩:=h
 have w1:IntKind.i64.wrap ((bs.length:Int)+1)=((bs.length:Int)+1):=by rw[qf]<;>omega
 have w2:IntKind.i64.wrap ((i:Int)-1)=((i:Int)-1):=by rw[qf]<;>omega
 have hne:bs++[b]≠[]:=by simp
 refine⟨hp.put w 0 [.ms nb 0 0 (pk (bs++[b])).length 1,.sc (.int .i64 ((bs++[b]).length:Int))],?_,⟨h1,fun e=>absurd e hne,fun _=>⟨h2,h3,by rw[qp _ _ h3];exact h4⟩,?_⟩,Fm.put _ _ _ (by simp)⟩
 ·rw[B86_8_eq]
  generalize pk (bs++[b])=pb at*
  simp[h5,qe,w1,w2,putN]
 ·rw[qh]
  unfold Bs
  rw[if_neg hne]
theorem bput_loop(w n:Nat)(hn:n<18446744073709551616):∀(k nb:Nat) (bs:List Bool) (hp:Hp),k<=64->bs.length+k<7900000->BW hp w nb bs->
  ∃hp' nb',B86_2 (.ptr w 0 0) (.int .u64 (n:Int)) (.int .i64 ((k:Int)-1)) hp=some (.tup [],hp')/\BS hp w nb hp' nb' (bs++nbs n k):=by
 intro k
 induction k with
 |zero=>
  intro nb bs hp hk hl h
  refine⟨hp,nb,?_,by simpa[nbs]using h,Fm.refl _ _,.inl rfl⟩
  rw[B86_2_eq]
  simp
 | succ k ih=>
  intro nb bs hp hk hl h
  obtain⟨hp1,nb1,a1,a2,a3,a4⟩:=bput_A w nb (.int .u64 (n:Int)) k bs hp (by omega) h
  obtain⟨hp2,b1,b2,b3⟩:=bput_B w nb1 n k bs hp1 hn (by omega) (by omega) a2
  obtain⟨hp3,c1,c2,c3⟩:=bput_C w nb1 (.int .u64 (n:Int)) k bs hp2 (by omega) _ (by omega) b2
  obtain⟨hp4,nb4,d1,d2⟩:=ih nb1 (bs++[n.testBit k]) hp3 (by omega) (by simp;omega) c2
  have e:((k+1:Nat):Int)-1=(k:Int):=by omega
  have e2:bs++nbs n (k+1)=bs++[n.testBit k]++nbs n k:=by simp[nbs]
  refine⟨hp4,nb4,by rw[e,a1,b1,c1,d1],?_⟩
  rw[e2]
  refine BS.trans h.1 (n2:=nb1) (b:=hp3) (l:=bs++[n.testBit k]) ⟨c2,?_,a4⟩ d2
  refine⟨Nat.le_trans a3.1 (Nat.le_trans b3.1 c3.1),fun c hc hn=>?_⟩
  have hc1:=Nat.lt_of_lt_of_le hc a3.1
  have hc2:=Nat.lt_of_lt_of_le hc1 b3.1
  have hn':c∉[w,nb1]:=by
   simp at hn⊢
   refine⟨hn.1,?_⟩
   rcases a4 with e|e
   ·rw[e];exact hn.2
   ·omega
  rw[c3.2 c hc2 hn',b3.2 c hc1 hn',a3.2 c hc hn]
theorem run_bput(w nb n k:Nat)(bs:List Bool)(hp:Hp)(hn:n<18446744073709551616)(hk:k<=64)(hl:bs.length+k<7900000)(h:BW hp w nb bs):
  ∃hp' nb',run cxX 86 [.ptr w 0 0,.sc (.int .u64 (n:Int)),.sc (.int .i64 (k:Int))] hp=some (.tup [],hp')/\BS hp w nb hp' nb' (bs++nbs n k):=by
 obtain⟨hp',nb',h1,h2⟩:=bput_loop w n hn k nb bs hp hk hl h
 refine⟨hp',nb',?_,h2⟩
 have m1:max (k:Int) 0=(k:Int):=by omega
 have m2:min (k:Int) 64=(k:Int):=by omega
 have w1:IntKind.i64.wrap ((k:Int)-1)=(k:Int)-1:=by rw[qf]<;>omega
 rw[E86]
 simp[m1,m2,w1,h1]
theorem unary_loop(w:Nat):∀(k nb:Nat) (bs:List Bool) (hp:Hp),bs.length+k<7800000->BW hp w nb bs->
  ∃hp' nb',B85_0 (.ptr w 0 0) (.int .i64 (k:Int)) hp=some (.tup [],hp')/\BS hp w nb hp' nb' (bs++una k):=by
 intro k
 induction k with
 |zero=>
  intro nb bs hp hl h
  obtain⟨hp1,nb1,a1,a2⟩:=run_bput w nb 0 1 bs hp (by omega) (by omega) (by omega) h
  refine⟨hp1,nb1,?_,a2⟩
  rw[B85_0_eq]
  simp at a1
  simp[a1]
 |succ k ih=>
  intro nb bs hp hl h
  obtain⟨hp1,nb1,a1,a2⟩:=run_bput w nb 1 1 bs hp (by omega) (by omega) (by omega) h
  obtain⟨hp2,nb2,b1,b2⟩:=ih nb1 (bs++nbs 1 1) hp1 (by simp;omega) a2.1
  have w2:IntKind.i64.wrap (((k+1:Nat):Int)-1)=(k:Int):=by rw[qf]<;>omega
  have hpos:((k+1:Nat):Int)>0:=by omega
  have e:bs++una (k+1)=bs++nbs 1 1++una k:=by simp[una,nbs,List.replicate_succ]
  refine⟨hp2,nb2,?_,by rw[e];exact a2.trans h.1 b2⟩
  rw[B85_0_eq]
  generalize((k+1:Nat):Int)=z at*
  simp at a1
  simp[a1,hpos,w2,b1]
theorem run_unary(w nb k:Nat)(bs:List Bool)(hp:Hp)(hl:bs.length+k<7800000)(h:BW hp w nb bs):
  ∃hp' nb',run cxX 85 [.ptr w 0 0,.sc (.int .i64 (k:Int))] hp=some (.tup [],hp')/\BS hp w nb hp' nb' (bs++una k):=by
 obtain⟨hp',nb',h1,h2⟩:=unary_loop w k nb bs hp hl h
 refine⟨hp',nb',?_,h2⟩
 rw[E85]
 simp[h1]
theorem xE(w nb:Nat)(bs:List Bool)(hp:Hp)(hl:bs.length<7900000)(h:BW hp w nb bs):
  ∃t hp',run cxX 87 [.ptr w 0 0] hp=some (S t 1 (LI .u8 (pk bs)),hp')/\Fm [] hp hp':=by
 obtain⟨h1,h2,h3,h4⟩:=h
 rw[E87]
 by_cases hb:bs=[]
 ·subst hb
  have e:Bs nb []=S 2 1 []:=rfl
  rw[e]at h4
  refine⟨1,hp,?_,Fm.refl _ _⟩
  have a:=appM_nil 1 2 hp
  simp[h4,getC,okV,a,pk_nil]
 ·obtain⟨n1,n2,n3⟩:=h3 hb
  have e:Bs nb bs= .ms nb 0 0 (pk bs).length 1:=if_neg hb
  rw[e]at h4
  have s:=srcM_all .u8 (pk bs) hp nb n3
  have a:=appM_freshM .u8 (pk bs) (.ms nb 0 0 (pk bs).length 1) 1 (by decide) (by rw[zK];omega) (pkne hb) hp s
  have f:=frz1_I .u8 (pk bs) (hp.new (LI .u8 (pk bs))) hp.next (qs _ _)
  refine⟨0,(hp.new (LI .u8 (pk bs))).del hp.next,?_,⟨by simp[Hp.del],fun c hc _=>?_⟩⟩
  ·generalize pk bs=pb at*
   simp[h4,getC,okV,a,f]
  ·have:c≠hp.next:=by omega
   simp[Hp.del,Hp.new,this]
end
noncomputable section
def B63_2(hp:Hp):=gb 63 [cc 100 cd63,cc 101 cd63,.inBlock 0,cc 7 cd63] [] [] hp
def B63_3(b1:List AV)(hp:Hp):=gb 63 [cc 102 cd63,cc 103 cd63,.inBlock 0,cc 7 cd63] [(1,.lp 1 0 0)] [(1,0,b1)] hp
theorem E63(a0:AV)(hp:Hp):run cxX 63 [a0] hp=(qg 2 a0).bind fun y0=>(qe (List.map ro1 y0) 0).bind fun y1=>iC .lss 3 5 y1 (kI 1) (B63_2 hp) ((qe (List.map ro1 y0) 0).bind fun y4=>iC .gtr 3 9 y4 (kI 1024) (B63_2 hp) (B63_3 (List.map ro1 y0) hp)):=
 (eE 63 ss63 _ _).trans (by kernel_rfl)
theorem B63_2_eq(hp:Hp):B63_2 hp=rQ (.sc (kI 2)) hp:=
 (eB 63 ss63 _ _).trans (by kernel_rfl)
theorem B63_3_eq(b1:List AV)(hp:Hp):B63_3 b1 hp=(getC b1 1).bind fun y7=>ln (ro1 y7) fun y8=>(qe b1 0).bind fun y9=>iT .gtr 3 15 17 (kI y8) y9 (rQ (.sc (kI 7)) hp) ((getC b1 1).bind fun y12=>pS 82 [ro1 y12] fun y16=>rQ (.sc y16) hp):=
 (eB 63 ss63 _ _).trans (by kernel_rfl)
theorem E69(a0 a1:AV)(hp:Hp):run cxX 69 [a0,a1] hp=aS a1 fun y0=>(qg 2 a0).bind fun y1=>(getN (List.map ro1 y1) 0 2).bind fun y2=>(qe (List.map ro1 y1) 0).bind fun y3=>(okV [.sc y0]).bind fun y4=>pA 124 [.agg (List.map ro1 y2),.agg [.sc y3,ro1 (AV.us 1 [.sc y0])]] fun z1=>(qg 2 z1).bind fun y9=>(putN [.sc (kI 0),nl] 0 y9).bind fun y10=>(getN y10 0 2).bind fun y11=>rQ (.agg y11) hp:=
 (eE 69 ss69 _ _).trans (by kernel_rfl)
def B117_2(hp:Hp):=gb 117 [cc 52 cd117,cc 53 cd117,cc 7 cd117] [] [] hp
def B117_3(b2 b3:List AV)(hp:Hp):=gb 117 [cc 28 cd117,cc 29 cd117,cc 15 cd117] [(2,.lp 2 0 0),(3,.lp 3 0 0)] [(2,0,b2),(3,0,b3)] hp
def B117_4(v22 v23:Value)(b2 b3:List AV)(hp:Hp):=gb 117 [cc 232 cd117,cc 233 cd117,cl 116 cd117,.inBlock 0,cc 15 cd117] [(2,.lp 2 0 0),(3,.lp 3 0 0),vs 22 v22,vs 23 v23] [(2,0,b2),(3,0,b3)] hp
theorem E117(a0 a1:AV)(hp:Hp):run cxX 117 [a0,a1] hp=(qg 2 a0).bind fun y0=>(qg 2 a1).bind fun y1=>(qe (List.map ro1 y0) 0).bind fun y2=>(qe (List.map ro1 y1) 0).bind fun y3=>iT .neq 3 7 9 y2 y3 (B117_2 hp) ((getC (List.map ro1 y0) 1).bind fun y6=>ln (ro1 y6) fun y7=>(getC (List.map ro1 y1) 1).bind fun y8=>ln (ro1 y8) fun y9=>iT .neq 3 14 17 (kI y7) (kI y9) (B117_2 hp) (B117_3 (List.map ro1 y0) (List.map ro1 y1) hp)):=
 (eE 117 ss117 _ _).trans (by kernel_rfl)
theorem B117_2_eq(hp:Hp):B117_2 hp=rQ (.sc (.bool false)) hp:=
 (eB 117 ss117 _ _).trans (by kernel_rfl)
theorem B117_3_eq(b2 b3:List AV)(hp:Hp):B117_3 b2 b3 hp=(getC b2 1).bind fun y12=>ln (ro1 y12) fun y13=>B117_4 (kI y13) (kI 0) b2 b3 hp:=
 (eB 117 ss117 _ _).trans (by kernel_rfl)
theorem B117_4_eq(v22 v23:Value)(b2 b3:List AV)(hp:Hp):B117_4 v22 v23 b2 b3 hp=iT .lss 3 23 22 v23 v22 ((getC b2 1).bind fun y16=>ixS (ro1 y16) v23 fun y18=>(getC b3 1).bind fun y19=>ixS (ro1 y19) v23 fun y21=>iT .neq 76 30 35 y18 y21 (rQ (.sc (.bool false)) hp) (bC .add 3 23 v23 (kI 1) fun y24=>B117_4 v22 y24 b2 b3 hp)) (rQ (.sc (.bool true)) hp):=
 (eB 117 ss117 _ _).trans (by kernel_rfl)
def B124_3(x6 x7:AV)(b2 b4 b5:List AV)(hp:Hp):=gb 124 [cc 480 zY,cc 481 zY,cc 241 zY,cl 120 zY,.inBlock 0,cc 31 zY] [(2,.lp 2 0 0),(4,.lp 4 0 0),(5,.lp 5 0 0),va 6 x6,va 7 x7] [(2,0,b2),(4,0,b4),(5,0,b5)] hp
def B124_5(x6 x7:AV)(b2 b4 b5:List AV)(hp:Hp):=gb 124 [cc 1928 zY,cc 1929 zY,.inBlock 2,.inBlock 1,cl 120 zY,.inBlock 0,cc 31 zY] [(2,.lp 2 0 0),(4,.lp 4 0 0),(5,.lp 5 0 0),va 6 x6,va 7 x7] [(2,0,b2),(4,0,b4),(5,0,b5)] hp
def B124_9(b4 b5:List AV)(hp:Hp):=gb 124 [cc 62 zY,cc 63 zY] [(4,.lp 4 0 0),(5,.lp 5 0 0)] [(4,0,b4),(5,0,b5)] hp
def B124_6(x6 x7:AV)(b2 b4 b5:List AV)(hp:Hp):=gb 124 [cc 3858 zY,.inBlock 2,.inBlock 1,cl 120 zY,.inBlock 0,cc 31 zY] [(2,.lp 2 0 0),(4,.lp 4 0 0),(5,.lp 5 0 0),va 6 x6,va 7 x7] [(2,0,b2),(4,0,b4),(5,0,b5)] hp
def B124_7(x6 x7:AV)(b2 b4 b5:List AV)(hp:Hp):=gb 124 [cc 7718 zY,cc 7719 zY,.inBlock 2,.inBlock 1,cl 120 zY,.inBlock 0,cc 31 zY] [(2,.lp 2 0 0),(4,.lp 4 0 0),(5,.lp 5 0 0),va 6 x6,va 7 x7] [(2,0,b2),(4,0,b4),(5,0,b5)] hp
def B124_8(x6 x7:AV)(b2 b4 b5:List AV)(hp:Hp):=gb 124 [cc 15438 zY,.inBlock 2,.inBlock 1,cl 120 zY,.inBlock 0,cc 31 zY] [(2,.lp 2 0 0),(4,.lp 4 0 0),(5,.lp 5 0 0),va 6 x6,va 7 x7] [(2,0,b2),(4,0,b4),(5,0,b5)] hp
def B124_4(x6 x7:AV)(b2 b4 b5:List AV)(hp:Hp):=gb 124 [cc 15439 zY,.inBlock 2,.inBlock 1,cl 120 zY,.inBlock 0,cc 31 zY] [(2,.lp 2 0 0),(4,.lp 4 0 0),(5,.lp 5 0 0),va 6 x6,va 7 x7] [(2,0,b2),(4,0,b4),(5,0,b5)] hp
theorem E124(a0 a1:AV)(hp:Hp):run cxX 124 [a0,a1] hp=(qg 2 a0).bind fun y0=>(qg 2 a1).bind fun y1=>(qe (List.map ro1 y0) 0).bind fun y2=>(getC (List.map ro1 y0) 1).bind fun y3=>(getC (List.map ro1 y1) 1).bind fun y4=>B124_3 (ro1 y3) (ro1 y4) (List.map ro1 y0) [.sc (kI 0),nl] [.sc y2,nl] hp:=
 (eE 124 ss124 _ _).trans (by kernel_rfl)
theorem B124_3_eq(x6 x7:AV)(b2 b4 b5:List AV)(hp:Hp):B124_3 x6 x7 b2 b4 b5 hp=(getC b5 1).bind fun y5=>ln (ro1 y5) fun y6=>(qe b2 0).bind fun y7=>iT .lss 3 17 19 (kI y6) y7 (ln (ro x6) fun y10=>ln (ro x7) fun y11=>bT .add 3 23 25 (kI y10) (kI y11) fun y12=>iC .gtr 3 26 y12 (kI 0) (B124_5 x6 x7 b2 b4 b5 hp) (B124_9 b4 b5 hp)) (B124_9 b4 b5 hp):=
 (eB 124 ss124 _ _).trans (by kernel_rfl)
theorem xw(x6 x7:AV)(b2 b4 b5:List AV)(hp:Hp):B124_5 x6 x7 b2 b4 b5 hp=ln (ro x7) fun y15=>iC .eql 3 43 (kI y15) (kI 0) (B124_6 x6 x7 b2 b4 b5 hp) (ln (ro x6) fun y18=>iC .gtr 3 47 (kI y18) (kI 0) (ixS (ro x6) (kI 0) fun y22=>ixS (ro x7) (kI 0) fun y24=>iT .lss 76 52 55 y22 y24 (B124_6 x6 x7 b2 b4 b5 hp) (B124_7 x6 x7 b2 b4 b5 hp)) (B124_7 x6 x7 b2 b4 b5 hp)):=
 (eB 124 ss124 _ _).trans (by kernel_rfl)
theorem B124_9_eq(b4 b5:List AV)(hp:Hp):B124_9 b4 b5 hp=(getN b5 0 2).bind fun y27=>(putN b5 0 (List.map ro1 y27)).bind fun y28=>(qg 2 (.agg y27)).bind fun y29=>(putN b4 0 y29).bind fun y30=>(getN y30 0 2).bind fun y31=>rQ (.agg y31) hp:=
 (eB 124 ss124 _ _).trans (by kernel_rfl)
theorem B124_6_eq(x6 x7:AV)(b2 b4 b5:List AV)(hp:Hp):B124_6 x6 x7 b2 b4 b5 hp=(getC b5 1).bind fun y32=>ixS (ro x6) (kI 0) fun y34=>ap 8 y32 y34 fun y36=>(slcA 1 (ro x6) (Option.some (kI 1)) none none).bind fun y37=>(qg 1 y36).bind fun y38=>(putN (List.set b5 1 (ro1 y32)) 1 y38).bind fun y39=>B124_3 y37 x7 b2 b4 y39 hp:=
 (eB 124 ss124 _ _).trans (by kernel_rfl)
theorem B124_7_eq(x6 x7:AV)(b2 b4 b5:List AV)(hp:Hp):B124_7 x6 x7 b2 b4 b5 hp=ln (ro x6) fun y40=>iC .eql 3 71 (kI y40) (kI 0) (B124_8 x6 x7 b2 b4 b5 hp) (ixS (ro x7) (kI 0) fun y44=>ixS (ro x6) (kI 0) fun y46=>iT .lss 76 76 79 y44 y46 (B124_8 x6 x7 b2 b4 b5 hp) (B124_4 x6 x7 b2 b4 b5 hp)):=
 (eB 124 ss124 _ _).trans (by kernel_rfl)
theorem B124_8_eq(x6 x7:AV)(b2 b4 b5:List AV)(hp:Hp):B124_8 x6 x7 b2 b4 b5 hp=(getC b5 1).bind fun y49=>ixS (ro x7) (kI 0) fun y51=>ap 8 y49 y51 fun y53=>(slcA 1 (ro x7) (Option.some (kI 1)) none none).bind fun y54=>(qg 1 y53).bind fun y55=>(putN (List.set b5 1 (ro1 y49)) 1 y55).bind fun y56=>B124_3 x6 y54 b2 b4 y56 hp:=
 (eB 124 ss124 _ _).trans (by kernel_rfl)
theorem B124_4_eq(x6 x7:AV)(b2 b4 b5:List AV)(hp:Hp):B124_4 x6 x7 b2 b4 b5 hp=(getC b5 1).bind fun y57=>ixS (ro x6) (kI 0) fun y59=>ap 8 y57 y59 fun y61=>(slcA 1 (ro x6) (Option.some (kI 1)) none none).bind fun y62=>(slcA 1 (ro x7) (Option.some (kI 1)) none none).bind fun y63=>(qg 1 y61).bind fun y64=>(putN (List.set b5 1 (ro1 y57)) 1 y64).bind fun y65=>B124_3 y62 y63 b2 b4 y65 hp:=
 (eB 124 ss124 _ _).trans (by kernel_rfl)
end
noncomputable section
def B27_3(v2:Value)(x15:AV)(v16 v17:Value)(b6 b7:List AV)(hp:Hp):=gb 27 [cc 232 cd27,cc 233 cd27,cl 116 cd27,.inBlock 0,cc 15 cd27] [vs 2 v2,(6,.lp 6 0 0),(7,.lp 7 0 0),va 15 x15,vs 16 v16,vs 17 v17] [(6,0,b6),(7,0,b7)] hp
def B27_7(v2 v9:Value)(x15:AV)(v16 v17:Value)(b6 b7:List AV)(hp:Hp):=gb 27 [cc 7475 cd27,.inBlock 1,cc 935 cd27,cl 116 cd27,.inBlock 0,cc 15 cd27] [vs 2 v2,(6,.lp 6 0 0),(7,.lp 7 0 0),vs 9 v9,va 15 x15,vs 16 v16,vs 17 v17] [(6,0,b6),(7,0,b7)] hp
theorem E27(a0 a1 a2:AV)(hp:Hp):run cxX 27 [a0,a1,a2] hp=aS a0 fun y0=>aS a2 fun y1=>bC .rem 5 10 y0 (kB 20) fun y2=>cV 5 3 y2 fun y3=>bG .add 3 (.const (kI 1)) (.tmp 12) (kI 1) y3 fun y4=>ln (ro a1) fun y5=>B27_3 y1 (ro a1) (kI y5) (kI 0) [.sc (kI 0),nl] [.sc y4,nl] hp:=
 (eE 27 ss27 _ _).trans (by kernel_rfl)
theorem B27_3_eq(v2:Value)(x15:AV)(v16 v17:Value)(b6 b7:List AV)(hp:Hp):B27_3 v2 x15 v16 v17 b6 b7 hp=iT .lss 3 17 16 v17 v16 (ixS x15 v17 fun y9=>iB v2 (bC .rem 76 22 y9 (kU 30) fun y11=>B27_7 v2 y11 x15 v16 v17 b6 b7 hp) (B27_7 v2 y9 x15 v16 v17 b6 b7 hp)) ((getN b7 0 2).bind fun y12=>(putN b7 0 (List.map ro1 y12)).bind fun y13=>(qg 2 (.agg y12)).bind fun y14=>(putN b6 0 y14).bind fun y15=>(getN y15 0 2).bind fun y16=>rQ (.agg y16) hp):=
 (eB 27 ss27 _ _).trans (by kernel_rfl)
theorem B27_7_eq(v2 v9:Value)(x15:AV)(v16 v17:Value)(b6 b7:List AV)(hp:Hp):B27_7 v2 v9 x15 v16 v17 b6 b7 hp=(getN b7 0 2).bind fun y17=>pA 69 [.agg (List.map ro1 y17),.sc v9] fun z1=>(qg 2 z1).bind fun y22=>(putN b7 0 y22).bind fun y23=>bC .add 3 17 v17 (kI 1) fun y24=>B27_3 v2 x15 v16 y24 b6 y23 hp:=
 (eB 27 ss27 _ _).trans (by kernel_rfl)
end
abbrev Kv(K:Int)(x:AV):AV:=.agg [.sc (.int .i64 K),x]
theorem kmerge_loop(K:Int)(q0 q1 p1:AV)(hp:Hp):∀(n:Nat) (a b acc:List Int) (k k':Nat),a.length+b.length=n->acc.length+n<=1000000->
  B124_3 (S k 1 (LI .u64 a)) (S k' 1 (LI .u64 b)) [.sc (.int .i64 K),p1] [q0,q1] [.sc (.int .i64 K),S 2 1 (LI .u64 acc)] hp=some (Kv K (S 2 1 (LI .u64 (acc++(mrg a b).take (K.toNat-acc.length)))),hp):=by
 intro n
 induction n using Nat.strongRecOn with
 |_ n ih=>
 intro a b acc k k' hn hlen
 have ap:∀x:Int,appA 8 1 (S 2 1 (LI .u64 acc)) (S 1 1 [.sc (.int .u64 x)])=some (S 2 1 (LI .u64 (acc++[x]))):=fun x=>appI .u64 acc 2 (.inr rfl) 8 (by decide) x (by omega)
 have fin:B124_9 [q0,q1] [.sc (.int .i64 K),S 2 1 (LI .u64 acc)] hp=some (Kv K (S 2 1 (LI .u64 acc)),hp):=by
  rw[B124_9_eq]
  simp[getN,putN]
 rw[B124_3_eq]
 by_cases hK:(acc.length:Int)<K
 ·have hs:K.toNat-acc.length=(K.toNat-(acc.length+1))+1:=by omega
  have goA:∀(x:Int) (r:List Int),r.length+1+b.length<=n->B124_6 (S k 1 (LI .u64 (x::r))) (S k' 1 (LI .u64 b)) [.sc (.int .i64 K),p1] [q0,q1] [.sc (.int .i64 K),S 2 1 (LI .u64 acc)] hp=some (Kv K (S 2 1 (LI .u64 (acc++(x::mrg r b).take (K.toNat-acc.length)))),hp):=by
   intro x r hle
   rw[B124_6_eq]
   have e:=xj (rk k) (LI .u64 (x::r)) .i64 1 (by omega) (by simp only[lenI,List.length_cons];omega)
   have i:=fun k=>ih (r.length+b.length) (by omega) r b (acc++[x]) k k' rfl (by simp only[List.length_append,List.length_cons,List.length_nil];omega)
   simp at i
   rw[hs,List.take_succ_cons]
   simp[getC,qe,ap,e,putN,i]
  have goB:∀(y:Int) (r:List Int),a.length+(r.length+1)<=n->B124_8 (S k 1 (LI .u64 a)) (S k' 1 (LI .u64 (y::r))) [.sc (.int .i64 K),p1] [q0,q1] [.sc (.int .i64 K),S 2 1 (LI .u64 acc)] hp=some (Kv K (S 2 1 (LI .u64 (acc++(y::mrg a r).take (K.toNat-acc.length)))),hp):=by
   intro x r hle
   rw[B124_8_eq]
   have e:=xj (rk k') (LI .u64 (x::r)) .i64 1 (by omega) (by simp only[lenI,List.length_cons];omega)
   have i:=fun k'=>ih (a.length+r.length) (by omega) a r (acc++[x]) k k' rfl (by simp only[List.length_append,List.length_cons,List.length_nil];omega)
   simp at i
   rw[hs,List.take_succ_cons]
   simp[getC,qe,ap,e,putN,i]
  have goC:∀(x y:Int) (r s:List Int),r.length+s.length+2<=n->B124_4 (S k 1 (LI .u64 (x::r))) (S k' 1 (LI .u64 (y::s))) [.sc (.int .i64 K),p1] [q0,q1] [.sc (.int .i64 K),S 2 1 (LI .u64 acc)] hp=some (Kv K (S 2 1 (LI .u64 (acc++(x::mrg r s).take (K.toNat-acc.length)))),hp):=by
   intro x y r s hle
   rw[B124_4_eq]
   have e:=xj (rk k) (LI .u64 (x::r)) .i64 1 (by omega) (by simp only[lenI,List.length_cons];omega)
   have e':=xj (rk k') (LI .u64 (y::s)) .i64 1 (by omega) (by simp only[lenI,List.length_cons];omega)
   have i:=fun k k'=>ih (r.length+s.length) (by omega) r s (acc++[x]) k k' rfl (by simp only[List.length_append,List.length_cons,List.length_nil];omega)
   simp at i
   rw[hs,List.take_succ_cons]
   simp[getC,qe,ap,e,e',putN,i]
  match a,b with
  |[],[]=>simp[getC,qe,hK,fin]
  |[],y::s=>
   have h:=goB y s (by simp at hn⊢;omega)
   simp at h
   have hw':IntKind.i64.wrap ((s.length:Int)+1)=(s.length:Int)+1:=qf (by omega) (by simp at hn;omega)
   have p:(0:Int)<(s.length:Int)+1:=by omega
   have z:¬((s.length:Int)+1=0):=by omega
   simp[getC,qe,hK,hw',p,z,xw,B124_7_eq,h]
  |x::r,[]=>
   have h:=goA x r (by simp at hn⊢;omega)
   simp at h
   have hw':IntKind.i64.wrap ((r.length:Int)+1)=(r.length:Int)+1:=qf (by omega) (by simp at hn;omega)
   have p:(0:Int)<(r.length:Int)+1:=by omega
   simp[getC,qe,hK,hw',p,xw,h]
  | x::r,y::s=>
   have h1:=goA x r (by simp at hn⊢;omega)
   have h2:=goB y s (by simp at hn⊢;omega)
   have h3:=goC x y r s (by simp at hn⊢;omega)
   have hw':IntKind.i64.wrap ((r.length:Int)+1+((s.length:Int)+1))=(r.length:Int)+1+((s.length:Int)+1):=qf (by omega) (by simp at hn;omega)
   have p:(0:Int)<(r.length:Int)+1+((s.length:Int)+1):=by omega
   have p':(0:Int)<(r.length:Int)+1:=by omega
   have z:¬((s.length:Int)+1=0):=by omega
   have z':¬((r.length:Int)+1=0):=by omega
   rw[zh]
   by_cases hxy:x<y
   ·simp[getC,qe,hK,hw',p,p',z,z',hxy,h1,xw]
   ·by_cases hyx:y<x
    ·simp[getC,qe,hK,hw',p,p',z,z',hxy,hyx,h2,xw,B124_7_eq]
    ·simp[getC,qe,hK,hw',p,p',z,z',hxy,hyx,h3,xw,B124_7_eq]
 ·have hs:K.toNat-acc.length=0:=by omega
  simp[getC,qe,hK,fin,hs]
theorem run_kmerge(K:Int)(B':AV)(a b:List Int)(k k':Nat)(hp:Hp)(hlen:a.length+b.length<=1000000):
  run cxX 124 [Kv K (S k 1 (LI .u64 a)),.agg [B',S k' 1 (LI .u64 b)]] hp=some (Kv K (S 2 1 (LI .u64 ((mrg a b).take K.toNat))),hp):=by
 rw[E124]
 have:=kmerge_loop K (.sc (.int .i64 0)) (S 2 1 []) (S (rk k) 1 (LI .u64 a)) hp (a.length+b.length) a b [] (rk k) (rk k') rfl (by simpa using hlen)
 simp at this
 simp[qe,getC]
 exact this
theorem run_kadd(K:Int)(a:List Int)(n:Int)(k:Nat)(hp:Hp)(hlen:a.length+1<=1000000):
  run cxX 69 [Kv K (S k 1 (LI .u64 a)),.sc (.int .u64 n)] hp=some (Kv K (S 2 1 (LI .u64 ((mrg a [n]).take K.toNat))),hp):=by
 rw[E69]
 have m:=fun k k' hp=>run_kmerge K (.sc (.int .i64 K)) a [n] k k' hp (by simpa using hlen)
 simp[LI]at m
 simp[qe,getN,putN,LI,m]
theorem ksame_loop(B B':AV)(a b:List Int)(k k':Nat)(hab:a.length=b.length)(hl:a.length<=1000000)(hp:Hp):∀(r s:List Int) (i:Nat),a.drop i=r->b.drop i=s->
  B117_4 (.int .i64 a.length) (.int .i64 i) [B,S k 1 (LI .u64 a)] [B',S k' 1 (LI .u64 b)] hp=some (.sc (.bool (decide (r=s))),hp):=by
 intro r
 induction r with
 |nil=>
  intro s i hr hs
  have h1:=qt hr
  have h2:s=[]:=by rw[<-hs];exact List.drop_eq_nil_of_le (by omega)
  have hlt:¬((i:Int)<(a.length:Int)):=by omega
  rw[B117_4_eq]
  simp[hlt,h2]
 | cons x r ih=>
  intro s i hr hs
  obtain⟨e1,e2,hi,e3⟩:=ql hr
  rw[B117_4_eq]
  have hw:IntKind.i64.wrap ((i:Int)+1)=((i+1:Nat):Int):=by rw[qf]<;>omega
  cases s with
  |nil=>have:=qt hs;omega
  |cons y s=>
   obtain⟨f1,f2,hj,f3⟩:=ql hs
   have h:=ih s (i+1) e2 f2
   simp at h hw
   by_cases e:x=y
   ·simp[hi,hj,getC,qe,e3,f3,e,hw,h]
   ·simp[hi,hj,getC,qe,e3,f3,e]
theorem run_ksame(B B':Int)(a b:List Int)(k k':Nat)(hp:Hp)(ha:a.length<=1000000)(hb:b.length<=1000000):
  run cxX 117 [Kv B (S k 1 (LI .u64 a)),Kv B' (S k' 1 (LI .u64 b))] hp=some (.sc (.bool (decide (B=B'/\a=b))),hp):=by
 rw[E117]
 by_cases h1:B=B'
 ·by_cases h3:a.length=b.length
  ·have h:=ksame_loop (.sc (.int .i64 B)) (.sc (.int .i64 B')) a b (rk k) (rk k') h3 ha hp a b 0 rfl rfl
   simp at h
   subst h1
   rw[h3]at h
   simp[qe,getC,h3,B117_3_eq,h]
  ·have h4:¬(a=b):=fun e=>h3 (by rw[e])
   have h5:¬((a.length:Int)=(b.length:Int)):=by omega
   simp[qe,getC,h1,h4,h5,B117_2_eq]
 ·simp[qe,getC,h1,B117_2_eq]
def cut(few:Bool)(n:Int):Int:=if few then n%30 else n
theorem kmv_loop(K:Int)(few:Bool)(q0 q1:AV)(k:Nat)(l:List Int)(hK:K<=1000)(hl:l.length<=1000)(hpos:∀n∈l,0<=n)(hp:Hp):∀(r:List Int) (i:Nat) (acc:List Int) (k':Nat),l.drop i=r->acc.length<=1000->
  B27_3 (.bool few) (S k 1 (LI .u64 l)) (.int .i64 l.length) (.int .i64 i) [q0,q1] [.sc (.int .i64 K),S 2 1 (LI .u64 acc)] hp=some (Kv K (S 2 1 (LI .u64 (kmvs K.toNat acc (r.map (cut few))))),hp):=by
 intro r
 induction r with
 |nil=>
  intro i acc k' hr ha
  have:=qt hr
  have hlt:¬((i:Int)<(l.length:Int)):=by omega
  rw[B27_3_eq]
  simp[hlt,getN,putN,kmvs]
 | cons x r ih=>
  intro i acc k' hr ha
  obtain⟨e1,e2,hi,e3⟩:=ql hr
  have hx:=hpos x (List.mem_of_getElem? e1)
  have hw:IntKind.i64.wrap ((i:Int)+1)=((i+1:Nat):Int):=by rw[qf]<;>omega
  have h:=ih (i+1) ((mrg acc [cut few x]).take K.toNat) k' e2 (by rw[List.length_take];omega)
  have d:=fun hp=>run_kadd K acc (cut few x) 3 hp (by omega)
  have e7:B27_7 (.bool few) (.int .u64 (cut few x)) (S k 1 (LI .u64 l)) (.int .i64 l.length) (.int .i64 i) [q0,q1] [.sc (.int .i64 K),S 2 1 (LI .u64 acc)] hp=some (Kv K (S 2 1 (LI .u64 (kmvs K.toNat acc ((x::r).map (cut few))))),hp):=by
   rw[B27_7_eq]
   simp at h hw
   simp[getN,putN,d,hw,h,kmvs]
  rw[B27_3_eq]
  have hm:∀a b,binV Tryz.prog .rem 76 a b (.int .u64 x) (.int .u64 30)=some (.int .u64 (x%30)):=by
   intro a b;rw[qO _ _ _ _ _ _ _ (by omega),qN hx]
  cases few with
  |true=>
   simp[cut]at e7
   simp[hi,e3,qe,hm,e7,cut]
  |false=>
   simp[cut]at e7
   simp[hi,e3,qe,e7,cut]
theorem run_kmv(c:Int)(few:Bool)(l:List Int)(k:Nat)(hc:0<=c/\c<256)(hl:l.length<=1000)(hpos:∀n∈l,0<=n)(hp:Hp):
  run cxX 27 [.sc (.int .u8 c),S k 1 (LI .u64 l),.sc (.bool few)] hp=some (Kv (1+c%20) (S 2 1 (LI .u64 (kmvs (1+c%20).toNat [] (l.map (cut few))))),hp):=by
 rw[E27]
 have h1:∀x y,binV Tryz.prog .rem 5 x y (.int .u8 c) (.int .u8 20)=some (.int .u8 (c%20)):=by
  intro x y;rw[qO _ _ _ _ _ _ _ (by omega),qN hc.1]
 have w1:IntKind.i64.wrap (c%20)=c%20:=qf (by omega) (by omega)
 have w2:IntKind.i64.wrap (1+c%20)=1+c%20:=qf (by omega) (by omega)
 have hq:=kmv_loop (1+c%20) few (.sc (.int .i64 0)) (S 2 1 []) (rk k) l (by omega) hl hpos hp l 0 [] 2 rfl (by simp)
 simp at hq
 simp[h1,jy,w1,w2,hq]
@[simp] theorem ro_fn (f : FuncId) (c : List AV) : ro (.fn f c) = .fn f c := rfl
def ordL:List Int->Int
 |[]=>0
 |[_]=>0
 |x::y::r=>if y<=x then 8 else ordL (y::r)
def kchk(K:Int)(l:List Int):Int:=if K<1\/1024<K then 2 else if K<(l.length:Int)then 7 else ordL l
theorem rice_loop(l:List Int)(k:Nat)(hl:l.length<=4096)(hp:Hp):∀(r:List Int) (x:Int) (j:Nat),l.drop j=x::r->
  B82_4 (S k 1 (LI .u64 l)) (.int .i64 ((j+1:Nat):Int)) hp=some (.sc (.int .i64 (ordL (x::r))),hp):=by
 intro r
 induction r with
 |nil=>
  intro x j hr
  obtain⟨e1,e2,hi,e3⟩:=ql hr
  have:=qt e2
  have hlt:¬((j:Int)+1<(l.length:Int)):=by omega
  rw[B82_4_eq]
  simp[hlt,ordL]
 |cons y r ih=>
  intro x j hr
  obtain⟨e1,e2,hi,e3⟩:=ql hr
  obtain⟨f1,f2,hj,f3⟩:=ql e2
  have hlt:(j:Int)+1<(l.length:Int):=by omega
  have hw:IntKind.i64.wrap ((j:Int)+1+1)=(j:Int)+1+1:=qf (by omega) (by omega)
  have hw2:IntKind.i64.wrap ((j:Int)+1-1)=(j:Int):=by rw[qf]<;>omega
  have hge:(0:Int)<=(j:Int)+1:=by omega
  have htn:((j:Int)+1).toNat=j+1:=by omega
  have g:=ih y (j+1) e2
  rw[B82_4_eq]
  simp at g hw2
  by_cases hq:y<=x
  ·simp[hlt,hge,htn,qe,f1,e1,hw2,hq,ordL]
  ·simp[hlt,hge,htn,qe,f1,e1,hw2,hq,ordL,hw,g]
theorem run_rice(l:List Int)(k:Nat)(hl:l.length<=4096)(hp:Hp):run cxX 82 [S k 1 (LI .u64 l)] hp=some (.sc (.int .i64 (ordL l)),hp):=by
 rw[E82]
 have h1:¬((4096:Int)<(l.length:Int)):=by omega
 cases l with
 |nil=>
  rw[B82_4_eq]
  simp[ordL]
 |cons x r=>
  have g:=rice_loop (x::r) k hl hp r x 0 rfl
  have h1:¬((4096:Int)<(r.length:Int)+1):=by simp at hl;omega
  simp at g
  simp[h1,g]
theorem run_kcheck(K:Int)(l:List Int)(k:Nat)(hl:l.length<=1000000)(hp:Hp):run cxX 63 [Kv K (S k 1 (LI .u64 l))] hp=some (.sc (.int .i64 (kchk K l)),hp):=by
 rw[E63]
 unfold kchk
 by_cases h1:K<1
 ·simp[qe,h1,B63_2_eq]
 ·by_cases h2:1024<K
  ·simp[qe,h1,h2,B63_2_eq]
  ·by_cases h3:K<(l.length:Int)
   ·simp[qe,getC,h1,h2,h3,B63_3_eq]
   ·simp[qe,getC,h1,h2,h3,B63_3_eq,run_rice l _ (show l.length<=4096 by omega)]
theorem nz_at(K:IntKind)(l:List Nat)(i:Nat)(h:i<l.length):(LI K (nz l))[i]?=some (.sc (.int K (l.getD i 0:Nat))):=by
 unfold LI nz
 rw[List.getElem?_map,List.getElem?_map,List.getD_eq_getElem?_getD,List.getElem?_eq_getElem h]
 rfl
section
variable (l : List Nat) (k : Nat) (hl : l.length ≤ 1000000) (h64 : ∀ x ∈ l, x < 18446744073709551616) (hr : zb l)
include hl h64 hr
theorem run_gap(i:Nat)(hi:i<l.length)(hp:Hp):run cxX 84 [S k 1 (LI .u64 (nz l)),.sc (.int .i64 (i:Int))] hp=some (.sc (.int .u64 ((gaps l).getD i 0:Nat)),hp):=by
 have g:=gaps_get l i hi
 have a0:=nz_at .u64 l 0 (by omega)
 have ai:=nz_at .u64 l i hi
 rw[List.getD_eq_getElem?_getD,g,Option.getD_some,E84]
 by_cases h0:i=0
 ·subst h0
  rw[if_pos rfl]
  generalize l.getD 0 0=v at*
  simp[a0,qe]
 ·rw[if_neg h0]
  have aj:=nz_at .u64 l (i-1) (by omega)
  have hlt:=xG l hr (i-1) (by omega)
  have e:i-1+1=i:=by omega
  rw[e]at hlt
  have hv:l.getD i 0<18446744073709551616:=by
   rw[List.getD_eq_getElem?_getD,List.getElem?_eq_getElem hi]
   exact h64 _ (List.getElem_mem _)
  have w1:IntKind.i64.wrap ((i:Int)-1)=((i-1:Nat):Int):=by rw[qf]<;>omega
  have h0':¬((i:Int)=0):=by omega
  have g0:(0:Int)<=((i-1:Nat):Int):=by omega
  have g1:(0:Int)<=(i:Int):=by omega
  generalize l.getD i 0=u at*
  generalize l.getD (i-1) 0=v at*
  have w2:IntKind.u64.wrap ((u:Int)-(v:Int))=(u:Int)-(v:Int):=qr (by omega) (by omega)
  have w3:IntKind.u64.wrap ((u:Int)-(v:Int)-1)=((u-v-1:Nat):Int):=by rw[qr]<;>omega
  have aj':(LI .u64 (nz l))[(((i-1:Nat):Int)).toNat]?=some (.sc (.int .u64 (v:Int))):=by rw[Int.toNat_natCast];exact aj
  generalize((i-1:Nat):Int)=j at*
  generalize((u-v-1:Nat):Int)=z at*
  simp[h0,ai,aj',qe,w1,g0,w2,w3]
theorem cost_loop(kk:Nat)(hkk:kk<=63)(hp:Hp):∀(r:List Nat) (i n:Nat),(gaps l).drop i=r->n+r.length*4160<4611686018427387904->
  B136_3 (S k 1 (LI .u64 (nz l))) (.int .i64 (kk:Int)) (.int .i64 (n:Int)) (.int .i64 (l.length:Int)) (.int .i64 (i:Int)) hp=
   some (.tup [.sc (.int .i64 ((xe kk r n).1:Nat)),.sc (.bool (xe kk r n).2)],hp):=by
 intro r
 induction r with
 |nil=>
  intro i n h hn
  have h1:=qt h
  rw[gaps_len]at h1
  have hlt:¬((i:Int)<(l.length:Int)):=by omega
  rw[B136_3_eq]
  simp[hlt,xe]
 | cons g r ih=>
  intro i n h hn
  obtain⟨e1,e2,hi,e3⟩:=ql h
  have hi':i<l.length:=by have:=hi;simp at this;omega
  have hlt:(i:Int)<(l.length:Int):=by omega
  have gp:=run_gap l (rk k) hl h64 hr i hi' hp0
  have eg:(gaps l).getD i 0=g:=by rw[List.getD_eq_getElem?_getD,e1];rfl
  rw[eg]at gp
  have sh:=fun o o'=>shr_nat g kk (by omega) o o' .i64
  rw[B136_3_eq]
  unfold xe
  generalize hq:g/2^kk=q at*
  by_cases hc:4096<q
  ·have hg:(4096:Int)<(q:Int):=by omega
   simp[hlt,gp,sh,hg,hc]
  ·have hg:¬((4096:Int)<(q:Int)):=by omega
   have w1:IntKind.i64.wrap (q:Int)=(q:Int):=qf (by omega) (by omega)
   have w2:IntKind.i64.wrap ((q:Int)+1)=(q:Int)+1:=qf (by omega) (by omega)
   have w3:IntKind.i64.wrap ((q:Int)+1+(kk:Int))=(q:Int)+1+(kk:Int):=qf (by omega) (by omega)
   simp only[List.length_cons]at hn
   have w4:IntKind.i64.wrap ((n:Int)+((q:Int)+1+(kk:Int)))=((n+(q+1+kk):Nat):Int):=by rw[qf]<;>omega
   have w5:IntKind.i64.wrap ((i:Int)+1)=((i+1:Nat):Int):=by rw[qf]<;>omega
   have hi2:=ih (i+1) (n+(q+1+kk)) e2 (by omega)
   rw[if_neg hc]
   generalize((n+(q+1+kk):Nat):Int)=N at*
   generalize((i+1:Nat):Int)=I at*
   simp[hlt,gp,sh,hg,yg,w1,w2,w3,w4,w5,hi2]
theorem run_cost(kk:Nat)(hkk:kk<=63)(hp:Hp):run cxX 136 [S k 1 (LI .u64 (nz l)),.sc (.int .i64 (kk:Int))] hp=
  some (.tup [.sc (.int .i64 ((xe kk (gaps l) 0).1:Nat)),.sc (.bool (xe kk (gaps l) 0).2)],hp):=by
 have h:=cost_loop l k hl h64 hr kk hkk hp (gaps l) 0 0 rfl (by simp;omega)
 rw[E136]
 simp at h
 simp[h]
theorem param_loop(hp:Hp):∀(f j b:Nat) (m:Int),j+f=64->b<=63->
  B83_3 (S k 1 (LI .u64 (nz l))) (.int .i64 (b:Int)) (.int .i64 m) (.int .i64 (j:Int)) hp=some (.sc (.int .i64 (parG (gaps l) f j b m:Nat)),hp):=by
 intro f
 induction f with
 |zero=>
  intro j b m hj hb
  have hlt:¬((j:Int)<64):=by omega
  rw[B83_3_eq]
  simp[hlt,parG]
 | succ f ih=>
  intro j b m hj hb
  have hlt:(j:Int)<64:=by omega
  have c:=run_cost l (rk k) hl h64 hr j (by omega) hp0
  have w5:IntKind.i64.wrap ((j:Int)+1)=((j+1:Nat):Int):=by rw[qf]<;>omega
  have i1:=ih (j+1) j (xe j (gaps l) 0).1 (by omega) (by omega)
  have i2:=ih (j+1) b m (by omega) hb
  have c8:∀v3 v4,B83_8 (S k 1 (LI .u64 (nz l))) v3 v4 (.int .i64 (j:Int)) hp=B83_3 (S k 1 (LI .u64 (nz l))) v3 v4 (.int .i64 ((j+1:Nat):Int)) hp:=by
   intro v3 v4
   rw[B83_8_eq]
   generalize((j+1:Nat):Int)=J at*
   simp[w5]
  rw[B83_3_eq]
  unfold parG
  simp only[Int.natCast_add,Int.natCast_one]at i1 i2 c8
  generalize xe j (gaps l) 0=C at*
  obtain⟨c1,c2⟩:=C
  cases c2
  ·simp[hlt,c,c8,i2]
  ·by_cases h1:m<0
   ·simp[hlt,c,h1,B83_7_eq,c8,i1]
   ·by_cases h2:(c1:Int)<m
    ·simp[hlt,c,h1,h2,B83_7_eq,c8,i1]
    ·simp[hlt,c,h1,h2,c8,i2]
theorem run_param(hp:Hp):run cxX 83 [S k 1 (LI .u64 (nz l))] hp=some (.sc (.int .i64 (parR (gaps l):Nat)),hp):=by
 have h:=param_loop l k hl h64 hr hp 64 0 63 (-1) rfl (by omega)
 rw[E83]
 simp at h
 simp[h,parR]
theorem rput_loop(kk w:Nat)(hkk:kk<=63)(hg:∀g∈gaps l,g/2^kk<=4096):∀(r:List Nat) (i nb:Nat) (bs:List Bool) (hp:Hp),(gaps l).drop i=r->i+r.length=l.length->bs.length+r.length*4160<7000000->BW hp w nb bs->
  ∃hp' nb',B34_7 (S k 1 (LI .u64 (nz l))) (.int .i64 (kk:Int)) (.ptr w 0 0) (.int .i64 (l.length:Int)) (.int .i64 (i:Int)) hp=
   B34_7 (S k 1 (LI .u64 (nz l))) (.int .i64 (kk:Int)) (.ptr w 0 0) (.int .i64 (l.length:Int)) (.int .i64 (l.length:Int)) hp'/\BS hp w nb hp' nb' (bs++jR kk r):=by
 intro r
 induction r with
 |nil=>
  intro i nb bs hp h hil hl2 hw
  have e:i=l.length:=by simpa using hil
  rw[e]
  exact⟨hp,nb,rfl,by simpa[jR]using hw,Fm.refl _ _,.inl rfl⟩
 | cons g r ih=>
  intro i nb bs hp h hil hl2 hw
  obtain⟨e1,e2,hi,e3⟩:=ql h
  simp only[List.length_cons]at hl2 hil
  have hlt:(i:Int)<(l.length:Int):=by omega
  have gp:=run_gap l (rk k) hl h64 hr i (by omega) hp0
  have eg:(gaps l).getD i 0=g:=by rw[List.getD_eq_getElem?_getD,e1];rfl
  rw[eg]at gp
  have hmem:g∈gaps l:=by rw[<-e3];exact List.getElem_mem _
  have hq:=hg g hmem
  have hg64:=gaps_lt h64 g hmem
  have sh:=fun o o'=>shr_nat g kk (by omega) o o' .i64
  have w1:IntKind.i64.wrap ((g/2^kk:Nat):Int)=((g/2^kk:Nat):Int):=(fun(q:Nat) (h:q<=4096)=>qf (z:=(q:Int)) (by omega) (by omega)) _ hq
  have w5:IntKind.i64.wrap ((i:Int)+1)=((i+1:Nat):Int):=by rw[qf]<;>omega
  obtain⟨hp1,nb1,a1,a2⟩:=run_unary w nb (g/2^kk) bs hp (by omega) hw
  obtain⟨hp2,nb2,b1,b2⟩:=run_bput w nb1 g kk (bs++una (g/2^kk)) hp1 hg64 (by omega) (by simp;omega) a2.1
  obtain⟨hp3,nb3,c1,c2⟩:=ih (i+1) nb2 (bs++una (g/2^kk)++nbs g kk) hp2 e2 (by omega) (by simp;omega) b2.1
  refine⟨hp3,nb3,?_,?_⟩
  ·rw[<-c1,B34_7_eq]
   generalize hqq:((g/2^kk:Nat):Int)=q at*
   generalize((i+1:Nat):Int)=I at*
   simp[hlt,gp,sh,hqq,yg,w1,a1,b1,w5]
  ·have e:bs++jR kk (g::r)=bs++una (g/2^kk)++nbs g kk++jR kk r:=by simp[jR]
   rw[e]
   exact(a2.trans hw.1 b2).trans hw.1 c2
end
theorem ord_rising:∀(l:List Nat),ordL (nz l)=0↔zb l:=by
 intro l
 induction l with
 |nil=>exact⟨fun _=>trivial,fun _=>rfl⟩
 | cons x r ih=>
  cases r with
  |nil=>exact⟨fun _=>trivial,fun _=>rfl⟩
  | cons y r=>
   have e:ordL (nz (x::y::r))=if((y:Nat):Int)<=((x:Nat):Int)then 8 else ordL (nz (y::r)):=rfl
   rw[e]
   by_cases h:y<=x
   ·rw[if_pos (by omega)]
    exact⟨fun h=>absurd h (by decide),fun h'=>by have:=h'.1;omega⟩
   ·rw[if_neg (by omega)]
    constructor
    ·intro h';exact⟨by omega,ih.mp h'⟩
    ·intro h';exact ih.mpr h'.2
theorem run_rput(l:List Nat)(k:Nat)(hl:l.length<=1024)(h64:∀x∈l,x<18446744073709551616)(hr:zb l)(hp:Hp):
    ∃t hp',run cxX 34 [S k 1 (LI .u64 (nz l))] hp=some (.tup [S t 1 (LI .u8 (ricY l)),.sc (.int .i64 0)],hp')/\Fm [] hp hp':=by
  have rc:=run_rice (nz l) (rk k) (by simp;omega) hp0
  rw[(ord_rising l).mpr hr]at rc
  have pr:=run_param l (rk k) (by omega) h64 hr hp0
  obtain⟨k63,hq⟩:=parR_ok (gaps_lt h64)
  have hbl:=rbits_len (parR (gaps l)) k63 (gaps l) hq
  rw[gaps_len]at hbl
  have hlY:(pk (ricB (gaps l))).length<700000:=by rw[zK];unfold ricB;omega
  obtain⟨hp1,nb1,a1,a2⟩:=rput_loop l k (by omega) h64 hr (parR (gaps l)) hp.next k63 hq (gaps l) 0 hp.next [] (hp.new [S 2 1 [],.sc (.int .i64 0)]) rfl (by simp) (by simp;omega) (BW.new hp)
  obtain⟨a2,a3,a4⟩:=a2
  simp only[List.nil_append]at a2
  have hn1:hp.next<hp1.next:=by have:=a3.1;simp at this;omega
  --the bytes
  have wN:∀c,c<hp.next->hp1.get c=hp.get c:=by
    intro c hc
    rw[a3.2 c (by simp;omega) (by simp;omega)]
    exact(Fm.new [] hp _).2 c hc (by simp)
  have hne:hp1.next≠hp.next:=by omega
  have u1:=qZ hp1.next l.length [] (by omega) (by have:=qx (n:=l.length) (by omega);simp;omega) (hp1.new (Wc [])) (qs _ _)
  rw[zP,List.nil_append]at u1
  have u2:=zt hp1.next (uv l.length) (parR (gaps l):Nat) (by have:=qx (n:=l.length) (by omega);omega) (hp1.new (Wc (uv l.length))) (qs _ _)
  rw[zP]at u2
  have BW2:∀x,BW (hp1.new x) hp.next nb1 (ricB (gaps l)):=fun x=>a2.fr (Fm.new [] hp1 x) (by simp) (by simp)
  obtain⟨t1,hp2,v1,v2⟩:=xE hp.next nb1 (ricB (gaps l)) (hp1.new (Wc (uv l.length++[(parR (gaps l):Int)]))) (by unfold ricB;omega) (BW2 _)
  have r2:hp2.rd hp1.next 0=some (Wc (uv l.length++[(parR (gaps l):Int)])):=by rw[v2.rd (by simp) (by simp),qs]
  have hL:=qx (n:=l.length) (by omega)
  have hL2:=qx (n:=(pk (ricB (gaps l))).length) (by omega)
  have u3:=qZ hp1.next (pk (ricB (gaps l))).length (uv l.length++[(parR (gaps l):Int)]) (by omega) (by simp only[List.length_append,List.length_singleton];omega) hp2 r2
  have BW3:=((BW2 _).fr v2 (by simp) (by simp)).fr (Fm.put (X:=[hp1.next]) hp2 hp1.next (Wc (uv l.length++[(parR (gaps l):Int)]++uv (pk (ricB (gaps l))).length)) (by simp)) (by simp;omega) (by
    simp
    have:=a2.2.2.1
    by_cases hb:ricB (gaps l)=[]
    ·have:=a2.2.1 hb;omega
    ·have:=(a2.2.2.1 hb).1;omega)
  obtain⟨t2,hp3,x1,x2⟩:=xE hp.next nb1 (ricB (gaps l)) _ (by unfold ricB;omega) BW3
  have r3:hp3.rd hp1.next 0=some (Wc (uv l.length++[(parR (gaps l):Int)]++uv (pk (ricB (gaps l))).length)):=by
    rw[x2.rd (by have:=v2.1;simp at this⊢;omega) (by simp),qh]
  have u4:=xm hp1.next (uv l.length++[(parR (gaps l):Int)]++uv (pk (ricB (gaps l))).length) (pk (ricB (gaps l))) (rk t2) (by simp only[List.length_append,List.length_singleton];omega) hp3 r3
  have u5:=run_wbytes hp1.next (ricY l) (by unfold ricY;simp only[List.length_append,List.length_singleton];omega) (hp3.put hp1.next 0 (Wc (ricY l))) (qh _ _ _)
  refine⟨1,hp3.put hp1.next 0 (Wc (ricY l)),?_,?_⟩
  · have w3:IntKind.u8.wrap ((parR (gaps l):Nat):Int)=((parR (gaps l):Nat):Int):=zo (by omega) (by omega)
    have w4:IntKind.u64.wrap ((l.length:Nat):Int)=((l.length:Nat):Int):=qr (by omega) (by omega)
    have w6:IntKind.u64.wrap (((pk (ricB (gaps l))).length:Nat):Int)=(((pk (ricB (gaps l))).length:Nat):Int):=qr (by omega) (by omega)
    have w7:IntKind.u64.wrap ((((pk (ricB (gaps l))).length:Nat):Int))=(((pk (ricB (gaps l))).length:Nat):Int):=w6
    have e0:¬((l.length:Int)<(l.length:Int)):=by omega
    have ey:uv l.length++[((parR (gaps l):Nat):Int)]++uv (pk (ricB (gaps l))).length++pk (ricB (gaps l))=ricY l:=rfl
    rw[ey]at u4
    rw[E34]
    simp only[Int.natCast_zero]at a1
    generalize parR (gaps l)=kk at*
    generalize pk (ricB (gaps l))=pb at*
    generalize ricY l=Y at*
    generalize uv l.length=Z at*
    generalize uv pb.length=Z2 at*
    generalize Z++[(kk:Int)]++Z2=Q at*
    generalize Z++[(kk:Int)]=Q1 at*
    have b7:B34_7 (S k 1 (LI .u64 (nz l))) (.int .i64 (kk:Int)) (.ptr hp.next 0 0) (.int .i64 (l.length:Int)) (.int .i64 (l.length:Int)) hp1=some (.tup [S 1 1 (LI .u8 Y),.sc (.int .i64 0)],hp3.put hp1.next 0 (Wc Y)):=by
      rw[B34_7_eq]
      have wc0:Wc []=[S 2 1 []]:=rfl
      rw[wc0]at u1
      simp[w3,w4,w6,u1,u2,v1,u3,x1,u4,u5]
    rw[<-a1]at b7
    simp[rc,pr,b7]
  · refine⟨by have:=v2.1;have:=x2.1;simp at *;omega,fun c hc _=>?_⟩
    have h1:c≠hp1.next:=by omega
    have hv:=v2.1
    have hx:=x2.1
    simp at hv hx
    have e1:(hp3.put hp1.next 0 (Wc (ricY l))).get c=hp3.get c:=by simp[Hp.put,h1]
    rw[e1,x2.2 c (by simp;omega) (by simp)]
    have e2:∀x,(hp2.put hp1.next 0 x).get c=hp2.get c:=by intro x;simp[Hp.put,h1]
    rw[e2,v2.2 c (by simp;omega) (by simp)]
    have e3:∀x,(hp1.new x).get c=hp1.get c:=by intro x;simp[Hp.new,h1]
    rw[e3,wN c hc]
theorem jO(K:IntKind)(x k:Nat)(hk:k<=K.bits)(t:TypeId)(o o':Operand)(K':IntKind):binV Tryz.prog .shr t o o' (.int K (x:Int)) (.int K' (k:Int))=some (.int K ((x/2^k:Nat):Int)):=by
 rw[zJ _ _ _ _ _ _ _ _ (by omega),Int.toNat_natCast,Nat.min_eq_left hk,Int.fdiv_eq_ediv_of_nonneg _ (Int.le_of_lt (Int.pow_pos (by omega)))]
 simp
theorem lower_loop(n last:Nat)(hn:n<=1000000)(hl:last<4294967296)(hp:Hp):∀(f k:Nat),k+f=33->k<=32->B91_2 (.int .i64 (n:Int)) (.int .u32 (last:Int)) (.int .i64 (k:Int)) hp=some (.sc (.int .i64 (lowG n last f k:Nat)),hp):=by
 intro f
 induction f with
 |zero=>intro k h h2;omega
 | succ f ih=>
  intro k h h2
  have w1:IntKind.u64.wrap (last:Int)=(last:Int):=qr (by omega) (by omega)
  have w2:IntKind.i64.wrap ((k:Int)+1)=((k+1:Nat):Int):=by rw[qf]<;>omega
  have w3:IntKind.u64.wrap (n:Int)=(n:Int):=qr (by omega) (by omega)
  have sh:=fun t o o'=>jO .u64 last (k+1) (by show k+1<=64;omega) t o o' .i64
  have b4:∀v,B91_4 v hp=some (.sc v,hp):=fun v=>by rw[B91_4_eq]
  rw[B91_2_eq]
  unfold lowG
  by_cases h0:0<n
  ·have h0':(n:Int)>0:=by omega
   by_cases h1:n<=last/2^(k+1)
   ·by_cases hk:k=32
    ·subst hk
     have:last/2^33=0:=Nat.div_eq_of_lt (Nat.lt_of_lt_of_le hl (by decide))
     have e:(32:Nat)+1=33:=rfl
     rw[e,this]at h1
     omega
    ·have hi:=ih (k+1) (by omega) (by omega)
     have h1':((last/2^(k+1):Nat):Int)>=(n:Int):=by omega
     rw[if_pos ⟨h0,h1⟩]
     generalize((last/2^(k+1):Nat):Int)=q at*
     generalize((k+1:Nat):Int)=k1 at*
     simp[h0,zx,w1,w2,sh,jM,w3,h1',B91_3_eq,hi]
   ·have h1':¬(((last/2^(k+1):Nat):Int)>=(n:Int)):=by omega
    rw[if_neg (fun c=>h1 c.2)]
    generalize((last/2^(k+1):Nat):Int)=q at*
    generalize((k+1:Nat):Int)=k1 at*
    have h1'':¬((n:Int)<=q):=h1'
    simp[h0,zx,w1,w2,sh,jM,w3,h1'',b4]
  ·have h0':¬((n:Int)>0):=by omega
   rw[if_neg (fun c=>h0 c.1)]
   simp[h0,b4]
theorem run_lower(n last:Nat)(hn:n<=1000000)(hl:last<4294967296)(hp:Hp):run cxX 91 [.sc (.int .i64 (n:Int)),.sc (.int .u32 (last:Int))] hp=some (.sc (.int .i64 (lowF n last:Nat)),hp):=by
 have h:=lower_loop n last hn hl hp 33 0 rfl (by omega)
 rw[E91]
 simp at h
 simp[h,lowF]
theorem nofall_get:∀(l:List Nat),zQ l->∀i,i+1<l.length->l.getD i 0<=l.getD (i+1) 0:=by
 intro l
 induction l with
 |nil=>intro _ i h;simp at h
 | cons x r ih=>
  intro hr i h
  cases r with
  |nil=>simp at h
  |cons y r=>
   cases i with
   |zero=>exact hr.1
   |succ i=>exact ih hr.2 i (by simpa using h)
theorem BW.lt{hp:Hp}{w nb:Nat}{bs:List Bool}(h:BW hp w nb bs):nb<hp.next:=by
 by_cases hb:bs=[]
 ·rw[h.2.1 hb];exact h.1
 ·exact(h.2.2.1 hb).1
def W2(h0:Nat)(hp:Hp)(w1 n1:Nat)(b1:List Bool)(w2 n2:Nat)(b2:List Bool):Prop:=
 BW hp w1 n1 b1/\BW hp w2 n2 b2/\w1≠w2/\n1≠w2/\n1≠n2/\w1≠n2/\h0<=w1/\h0<=w2/\h0<=n1/\h0<=n2
theorem W2.one{h0:Nat}{hp hp':Hp}{w1 n1 n1' w2 n2:Nat}{b1 b2 b1':List Bool}(h:W2 h0 hp w1 n1 b1 w2 n2 b2)(s:BS hp w1 n1 hp' n1' b1'):W2 h0 hp' w1 n1' b1' w2 n2 b2/\∀c,c<h0->hp'.get c=hp.get c:=by
 obtain⟨a1,a2,d1,d2,d3,d4,e1,e2,e3,e4⟩:=h
 obtain⟨s1,s2,s3⟩:=s
 have l1:=a1.lt
 have l2:=a2.lt
 have l3:=a2.1
 have l4:=a1.1
 refine⟨⟨s1,a2.fr s2 (by simp;omega) (by simp;omega),d1,by omega,by omega,d4,e1,e2,by omega,e4⟩,fun c hc=>s2.2 c (by omega) (by simp;omega)⟩
theorem W2.two{h0:Nat}{hp hp':Hp}{w1 n1 n2' w2 n2:Nat}{b1 b2 b2':List Bool}(h:W2 h0 hp w1 n1 b1 w2 n2 b2)(s:BS hp w2 n2 hp' n2' b2'):W2 h0 hp' w1 n1 b1 w2 n2' b2'/\∀c,c<h0->hp'.get c=hp.get c:=by
 obtain⟨a1,a2,d1,d2,d3,d4,e1,e2,e3,e4⟩:=h
 obtain⟨s1,s2,s3⟩:=s
 have l1:=a1.lt
 have l2:=a2.lt
 have l3:=a2.1
 have l4:=a1.1
 refine⟨⟨a1.fr s2 (by simp;omega) (by simp;omega),s1,d1,d2,by omega,by omega,e1,e2,e3,by omega⟩,fun c hc=>s2.2 c (by omega) (by simp;omega)⟩
theorem getD_nz{l:List Nat}(h32:∀x∈l,x<4294967296)(i:Nat)(hi:i<l.length):l.getD i 0<4294967296:=by
 rw[List.getD_eq_getElem?_getD,List.getElem?_eq_getElem hi]
 exact h32 _ (List.getElem_mem _)
section
variable (l : List Nat) (k k' : Nat) (hl : l.length ≤ 4096) (h32 : ∀ x ∈ l, x < 4294967296) (hr : zQ l)
include hl h32 hr
theorem fof_loop(kk w1 w2 h0:Nat)(hkk:kk<=32)(hq:qy l/2^kk<2*4096)(c0 c1:AV)(cs:List AV)(b2:List AV):∀(r:List Nat) (i p n1 n2:Nat) (bs1 bs2:List Bool) (hp:Hp),l.drop i=r->i+r.length=l.length->zQ (p::r)->
    (i=0->p=0)->bs1.length+r.length*32<1000000->bs2.length+(qD kk (p/2^kk) r).length<1000000->W2 h0 hp w1 n1 bs1 w2 n2 bs2->
    ∃ hp' n1' n2' v,B38_11 (S k 1 (LI .u32 (nz l))) (.ptr w1 0 0) (.ptr w2 0 0) (.int .u32 ((p/2^kk:Nat):Int)) (S k' 1 (LI .u32 (nz l))) (.int .i64 (l.length:Int)) (.int .i64 (i:Int)) b2 (c0::c1::.sc (.int .i64 (kk:Int))::cs) hp=
      B38_11 (S k 1 (LI .u32 (nz l))) (.ptr w1 0 0) (.ptr w2 0 0) v (S k' 1 (LI .u32 (nz l))) (.int .i64 (l.length:Int)) (.int .i64 (l.length:Int)) b2 (c0::c1::.sc (.int .i64 (kk:Int))::cs) hp'/\
      W2 h0 hp' w1 n1' (bs1++za kk r) w2 n2' (bs2++qD kk (p/2^kk) r)/\(hp.next<=hp'.next/\∀c,c<h0->hp'.get c=hp.get c):=by
  intro r
  induction r with
  | nil=>
    intro i p n1 n2 bs1 bs2 hp h hil hpr hi0 hb1 hb2 hw
    have e:i=l.length:=by simpa using hil
    rw[e]
    exact⟨hp,n1,n2,_,rfl,by simpa[za,qD]using hw,Nat.le_refl _,fun _ _=>rfl⟩
  | cons x r ih=>
    intro i p n1 n2 bs1 bs2 hp h hil hpr hi0 hb1 hb2 hw
    obtain⟨e1,e2,hi,e3⟩:=ql h
    simp only[List.length_cons]at hb1 hil
    have hlt:(i:Int)<(l.length:Int):=by omega
    have ai:=nz_at .u32 l i hi
    have ex:l.getD i 0=x:=by rw[List.getD_eq_getElem?_getD,e1];rfl
    have hx:x<4294967296:=by rw[<-ex];exact getD_nz h32 i hi
    rw[ex]at ai
    have hd:p/2^kk<=x/2^kk:=Nat.div_le_div_right hpr.1
    have hxq:x/2^kk<=x:=Nat.div_le_self _ _
    have sh:=fun t o o'=>jO .u32 x kk (by show kk<=32;omega) t o o' .i64
    have hh:(qD kk (p/2^kk) (x::r)).length=(x/2^kk-p/2^kk)+1+(qD kk (x/2^kk) r).length:=by simp[qD]
    rw[hh]at hb2
    have w1':IntKind.u64.wrap (x:Int)=(x:Int):=qr (by omega) (by omega)
    have w2':IntKind.u32.wrap (((x/2^kk:Nat):Int)-((p/2^kk:Nat):Int))=((x/2^kk-p/2^kk:Nat):Int):=by rw[qv]<;>omega
    have w3':IntKind.i64.wrap ((x/2^kk-p/2^kk:Nat):Int)=((x/2^kk-p/2^kk:Nat):Int):=qf (by omega) (by omega)
    have w5:IntKind.i64.wrap ((i:Int)+1)=((i+1:Nat):Int):=by rw[qf]<;>omega
    obtain⟨hp1,m1,a1,a2⟩:=run_bput w1 n1 x kk bs1 hp (by omega) (by omega) (by omega) hw.1
    obtain⟨hw1,hg1⟩:=hw.one a2
    obtain⟨hp2,m2,b1,b3⟩:=run_unary w2 n2 (x/2^kk-p/2^kk) bs2 hp1 (by omega) hw1.2.1
    obtain⟨hw2,hg2⟩:=hw1.two b3
    obtain⟨hp3,m3,m4,v,r1,c2,c3⟩:=ih (i+1) x m1 m2 (bs1++nbs x kk) (bs2++una (x/2^kk-p/2^kk)) hp2 e2 (by omega) hpr.2 (by omega) (by simp;omega) (by simp;omega) hw2
    have f1:=a2.2.1.1
    have f2:=b3.2.1.1
    refine⟨hp3,m3,m4,v,?_,?_,by omega,fun c hc=>by rw[c3.2 c hc,hg2 c hc,hg1 c hc]⟩
    · have b15:B38_15 (S k 1 (LI .u32 (nz l))) (.ptr w1 0 0) (.ptr w2 0 0) (.int .u32 ((p/2^kk:Nat):Int)) (.int .u32 (x:Int)) (S k' 1 (LI .u32 (nz l))) (.int .i64 (l.length:Int)) (.int .i64 (i:Int)) b2 (c0::c1::.sc (.int .i64 (kk:Int))::cs) hp=
          B38_11 (S k 1 (LI .u32 (nz l))) (.ptr w1 0 0) (.ptr w2 0 0) v (S k' 1 (LI .u32 (nz l))) (.int .i64 (l.length:Int)) (.int .i64 (l.length:Int)) b2 (c0::c1::.sc (.int .i64 (kk:Int))::cs) hp3:=by
        rw[<-r1,B38_15_eq]
        generalize((x/2^kk-p/2^kk:Nat):Int)=d at*
        generalize((i+1:Nat):Int)=I at*
        generalize((p/2^kk:Nat):Int)=P at*
        generalize((x/2^kk:Nat):Int)=X at*
        have gs:∀(a b:AV) (v:Value) (c:List AV),qe (a::b::.sc v::c) 2=some v:=fun _ _ _ _=>rfl
        simp[gs,zx,w1',a1,sh,w2',xR,w3',b1,w5]
      rw[B38_11_eq,<-b15]
      have g1:(0:Int)<=(i:Int):=by omega
      have gs0:∀(v:Value),qe [.sc v] 0=some v:=fun _=>rfl
      by_cases hi1:i=0
      · have hi2:(0<i)=False:=by simp[hi1]
        have hi4:(i<l.length)=True:=by simp[hi]
        clear hi1
        generalize((p/2^kk:Nat):Int)=P at*
        have en:∀h,(nz l)[i]'h=(x:Int):=fun h=>by simp[nz,e3]
        simp[hi4,ai,gs0,hi2,en]
      · have aj:=nz_at .u32 l (i-1) (by omega)
        have hle:=nofall_get l hr (i-1) (by omega)
        have e:i-1+1=i:=by omega
        rw[e,ex]at hle
        have w9:IntKind.i64.wrap ((i:Int)-1)=((i-1:Nat):Int):=by rw[qf]<;>omega
        have hi2:0<i:=by omega
        have g0:(0:Int)<=((i-1:Nat):Int):=by omega
        generalize l.getD (i-1) 0=y at*
        have hle':¬((x:Int)<(y:Int)):=by omega
        have aj':(LI .u32 (nz l))[(((i-1:Nat):Int)).toNat]?=some (.sc (.int .u32 (y:Int))):=by rw[Int.toNat_natCast];exact aj
        generalize((i-1:Nat):Int)=j at*
        generalize((p/2^kk:Nat):Int)=P at*
        simp[hlt,ai,gs0,hi2,w9,aj',g0,hle']
    · have q1:bs1++za kk (x::r)=bs1++nbs x kk++za kk r:=by simp[za]
      have q2:bs2++qD kk (p/2^kk) (x::r)=bs2++una (x/2^kk-p/2^kk)++qD kk (x/2^kk) r:=by simp[qD]
      rw[q1,q2]
      exact c2
end
def Frow(l:List Nat)(t1 t2:Nat):AV:=.agg [.sc (.int .i64 (l.length:Nat)),.sc (.int .u32 (qy l:Nat)),.sc (.int .i64 (fanK l:Nat)),S t1 1 (LI .u8 (pk (za (fanK l) l))),S t2 1 (LI .u8 (pk (qD (fanK l) 0 l)))]
theorem fanK_nil:fanK []=0:=rfl
section
variable (l : List Nat) (k : Nat) (hl : l.length ≤ 4096) (h32 : ∀ x ∈ l, x < 4294967296) (hr : zQ l)
include hl h32 hr
theorem yL(hne:l≠[]):fanK l<=32/\qy l<4294967296/\(qD (fanK l) 0 l).length<=3*4096:=by
 have hpos:=List.length_pos_iff.mpr hne
 have hlast:qy l<4294967296:=getD_nz h32 _ (by omega)
 have h1:=lowF_le l.length (qy l) hlast
 have h2:=lowF_two hpos hlast
 have h3:=highB_len0 (fanK l) l hr
 have h4:fanK l=lowF l.length (qy l):=rfl
 rw[h4]at h3⊢
 exact⟨h1,hlast,by omega⟩
theorem run_fof(hp:Hp):∃t1 t2 hp',run cxX 38 [S k 1 (LI .u32 (nz l))] hp=some (.tup [Frow l t1 t2,.sc (.int .i64 0)],hp')/\Fm [] hp hp':=by
  by_cases hne:l=[]
  · subst hne
    refine⟨2,2,hp,?_,Fm.refl _ _⟩
    rw[E38]
    simp[Frow,fanK_nil,nz,LI,za,qD,pk_nil,qy]
  · obtain⟨k32,hlast,hhb⟩:=yL l hl h32 hr hne
    have hpos:=List.length_pos_iff.mpr hne
    have hlow:=run_lower l.length (qy l) (by omega) hlast hp0
    have e4:lowF l.length (qy l)=fanK l:=rfl
    rw[e4]at hlow
    have hq:=lowF_two hpos hlast
    rw[e4]at hq
    have w1:IntKind.i64.wrap ((l.length:Int)-1)=((l.length-1:Nat):Int):=by rw[qf]<;>omega
    have al:=nz_at .u32 l (l.length-1) (by omega)
    have e5:l.getD (l.length-1) 0=qy l:=rfl
    rw[e5]at al
    let hpA:=(hp.new [S 2 1 [],.sc (.int .i64 0)]).new [S 2 1 [],.sc (.int .i64 0)]
    have b1:BW hpA hp.next hp.next []:=(BW.new hp).fr (Fm.new [] _ _) (by simp) (by simp)
    have b2:BW hpA (hp.next+1) (hp.next+1) []:=BW.new (hp.new [S 2 1 [],.sc (.int .i64 0)])
    have hw:W2 hp.next hpA hp.next hp.next [] (hp.next+1) (hp.next+1) []:=⟨b1,b2,by omega,by omega,by omega,by omega,by omega,by omega,by omega,by omega⟩
    have hnA:hpA.next=hp.next+1+1:=rfl
    obtain⟨hp1,n1,n2,v,c1,c2,c3⟩:=fof_loop l k (rk k) hl h32 hr (fanK l) hp.next (hp.next+1) hp.next k32 (by omega) (.sc (.int .i64 (l.length:Int))) (.sc (.int .u32 (qy l:Nat))) [S 2 1 [],S 2 1 []]
      [.sc (.int .i64 0),.sc (.int .u32 0),.sc (.int .i64 0),S 2 1 [],S 2 1 []] l 0 0 hp.next (hp.next+1) [] [] hpA rfl (by simp) (jT hr) (fun _=>rfl) (by simp;omega) (by rw[Nat.zero_div];simp;omega) hw
    simp only[Nat.zero_div,List.nil_append]at c1 c2
    obtain⟨t1,hp2,d1,d2⟩:=xE hp.next n1 (za (fanK l) l) hp1 (by simp;have:l.length*fanK l<=4096*32:=Nat.mul_le_mul hl k32;omega) c2.1
    obtain⟨t2,hp3,f1,f2⟩:=xE (hp.next+1) n2 (qD (fanK l) 0 l) hp2 (by omega) (c2.2.1.fr d2 (by simp) (by simp))
    have hnx:hp.next<=hp3.next:=by have:=d2.1;have:=f2.1;have:=c3.1;omega
    refine⟨t1,t2,hp3,?_,hnx,fun c hc _=>?_⟩
    · have b11:B38_11 (S k 1 (LI .u32 (nz l))) (.ptr hp.next 0 0) (.ptr (hp.next+1) 0 0) v (S (rk k) 1 (LI .u32 (nz l))) (.int .i64 (l.length:Int)) (.int .i64 (l.length:Int))
          [.sc (.int .i64 0),.sc (.int .u32 0),.sc (.int .i64 0),S 2 1 [],S 2 1 []] [.sc (.int .i64 (l.length:Int)),.sc (.int .u32 (qy l:Nat)),.sc (.int .i64 (fanK l:Nat)),S 2 1 [],S 2 1 []] hp1=some (.tup [Frow l t1 t2,.sc (.int .i64 0)],hp3):=by
        rw[B38_11_eq]
        unfold Frow
        generalize pk (za (fanK l) l)=A at*
        generalize pk (qD (fanK l) 0 l)=B at*
        simp[d1,f1,putN,getN]
      rw[<-c1]at b11
      have h1:¬((l.length:Int)>4096):=by omega
      have h2:¬((l.length:Int)=0):=by omega
      have g0:(0:Int)<=((l.length-1:Nat):Int):=by omega
      have al':(nz l)[(((l.length-1:Nat):Int)).toNat]?=some ((qy l:Nat):Int):=by
        rw[Int.toNat_natCast];unfold nz qy
        rw[List.getElem?_map,List.getD_eq_getElem?_getD,List.getElem?_eq_getElem (by omega)];rfl
      have gs0:∀(v:Value),qe [.sc v] 0=some v:=fun _=>rfl
      have gs1:∀(x:AV) (v:Value) (r:List AV),qe (x::.sc v::r) 1=some v:=fun _ _ _=>rfl
      have h1':¬((4096:Int)<(l.length:Int)):=by omega
      rw[E38]
      generalize((l.length-1:Nat):Int)=j at*
      generalize Frow l t1 t2=FR at*
      simp at b11
      simp[h1',hne,w1,al',g0,gs0,gs1,hlow]
      exact b11
    · rw[f2.2 c (by have:=d2.1;have:=c3.1;omega) (by simp),d2.2 c (by have:=c3.1;omega) (by simp),c3.2 c hc]
      show((hp.new _).new _).get c=_
      have e1:c≠hp.next:=by omega
      have e2:c≠hp.next+1:=by omega
      simp[Hp.new,e1,e2]
theorem run_fput(w t1 t2:Nat)(Z:List Int)(hZ:Z.length+(fanY l).length<=1000000)(hp:Hp)(h:hp.rd w 0=some (Wc Z)):
  run cxX 39 [Frow l t1 t2,.ptr w 0 0] hp=some (.tup [],hp.put w 0 (Wc (Z++fanY l))):=by
 have hlast:qy l<4294967296:=by
  by_cases hne:l=[]
  ·subst hne;show(0:Nat)<_;omega
  ·exact(yL l hl h32 hr hne).2.1
 unfold Frow
 have eY:fanY l=uv l.length++uv (qy l)++pk (za (fanK l) l)++uv (pk (qD (fanK l) 0 l)).length++pk (qD (fanK l) 0 l):=rfl
 rw[eY]at hZ⊢
 generalize pk (za (fanK l) l)=A at*
 generalize pk (qD (fanK l) 0 l)=B at*
 simp only[List.length_append]at hZ
 have u1:=qZ w l.length Z (by omega) (by omega) hp h
 have u2:=qZ w (qy l) (Z++uv l.length) (by omega) (by simp only[List.length_append];omega) _ (qh hp w (Wc (Z++uv l.length)))
 rw[qj]at u2
 have u3:=xm w (Z++uv l.length++uv (qy l)) A (rk t1) (by simp only[List.length_append];omega) _ (qh hp w _)
 rw[qj]at u3
 have u4:=qZ w B.length (Z++uv l.length++uv (qy l)++A) (by omega) (by simp only[List.length_append];omega) _ (qh hp w _)
 rw[qj]at u4
 have u5:=xm w (Z++uv l.length++uv (qy l)++A++uv B.length) B (rk t2) (by simp only[List.length_append];omega) _ (qh hp w _)
 rw[qj]at u5
 have w1:IntKind.u64.wrap (l.length:Int)=(l.length:Int):=qr (by omega) (by omega)
 have w2:IntKind.u64.wrap ((qy l:Nat):Int)=((qy l:Nat):Int):=qr (by omega) (by omega)
 have w3:IntKind.u64.wrap (B.length:Int)=(B.length:Int):=qr (by omega) (by omega)
 have eZ:Z++(uv l.length++uv (qy l)++A++uv B.length++B)=Z++uv l.length++uv (qy l)++A++uv B.length++B:=by simp only[List.append_assoc]
 rw[eZ]
 generalize Z++uv l.length++uv (qy l)++A++uv B.length++B=Z5 at*
 generalize Z++uv l.length++uv (qy l)++A++uv B.length=Z4 at*
 generalize Z++uv l.length++uv (qy l)++A=Z3 at*
 generalize Z++uv l.length++uv (qy l)=Z2 at*
 generalize Z++uv l.length=Z1 at*
 have gs1:∀(x:AV) (v:Value) (r:List AV),qe (x::.sc v::r) 1=some v:=fun _ _ _=>rfl
 have gs0:∀(v:Value) (r:List AV),qe (.sc v::r) 0=some v:=fun _ _=>rfl
 rw[E39]
 simp[gs0,gs1,getC,jM,w1,u1,zx,w2,u2,u3,w3,u4,u5]
end
end Go.Proofs.YtchmioacjkbfcaaGreat.AI
