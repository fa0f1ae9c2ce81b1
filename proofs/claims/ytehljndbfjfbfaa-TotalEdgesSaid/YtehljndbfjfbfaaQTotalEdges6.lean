/- Texts that the proof of TotalEdges rests on, part 6. -/
import Derived.Test.YtehljndbfjfbfaaQTotalEdges4
import Derived.Test.YtehljndbfjfbfaaQTotalEdges5
namespace Go.Proofs.Ytehljndbfjfbfaa.AI
open Go
set_option linter.unusedVariables false
set_option linter.unusedSimpArgs false
set_option maxRecDepth 100000
set_option maxHeartbeats 0
abbrev fl(w:Nat):AV:=.sc (.float .f64 w)
theorem wl(w:Nat):one (yu Try.prog 18 [.float .f64 w])=some (.int .u64 (w:Int)):=qd
theorem Zs(n:Int):one (yu Try.prog 14 [.int .u64 n])=some (.float .f64 n.toNat):=qd
theorem Wl(x y:Operand):qD Try.prog .eql 4 x y (.bool true) (.bool true)=some (.bool true):=qd
theorem Wm(x y:Operand):qD Try.prog .eql 4 x y (.bool true) (.bool false)=some (.bool false):=qd
theorem Wn(x y:Operand):qD Try.prog .eql 4 x y (.bool false) (.bool true)=some (.bool false):=qd
theorem Wo(x y:Operand):qD Try.prog .eql 4 x y (.bool false) (.bool false)=some (.bool true):=qd
@[simp] theorem beq_bb (x y : Operand) (a b : Bool) : qD Try.prog .eql 4 x y (.bool a) (.bool b) = some (.bool (decide (a = b))) := by
 cases a<;>cases b
 ·exact Wo x y
 ·exact Wn x y
 ·exact Wm x y
 ·exact Wl x y
theorem xn(w:Nat)(hp:Hp):run cxX 19 [fl w] hp=some (.sc (.bool (decide (zx w))),hp):=by
 rw[E19]
 simp[qw]
theorem wA(w:Nat)(h:w<18446744073709551616)(hp:Hp):run cxX 9 [fl w] hp=some (.sc (.int .u64 (kw w:Int)),hp):=by
 rw[E9]
 unfold kw
 by_cases hn:zx w
 ·simp[wl,xn,hn,wX]
 ·by_cases hl:w<9223372036854775808
  ·have e:=QY Try.prog 22 (Go.Operand.tmp 6) (Go.Operand.const (.int .u64 (Int.ofNat 9223372036854775808))) w hl
   have e':=QZ Try.prog 22 (Go.Operand.tmp 12) (Go.Operand.const (.int .u64 (Int.ofNat 9223372036854775808))) w hl
   simp at e e'
   simp[wl,xn,hn,hl,e,e',wX]
  ·have e':=Za Try.prog 22 (Go.Operand.tmp 12) (Go.Operand.const (.int .u64 (Int.ofNat 9223372036854775808))) w qc h
   have e:=JF Try.prog w h
   simp at e e'
   simp[wl,xn,hn,hl,e,e',wX]
theorem YW(a b:Nat)(ha:a<18446744073709551616)(hb:b<18446744073709551616)(hp:Hp):run cxX 10 [fl a,fl b] hp=some (.sc (.bool (decide (kw a<kw b))),hp):=by
 rw[E10]
 simp[wA a ha,wA b hb]
theorem Kv(hp:Hp):run cxX 12 [] hp=some (fl 9221120237041090561,hp):=by
 rw[E12]
 simp[Zs]
theorem Kx(s:Int)(hp:Hp):run cxX 13 [.sc (.int .i64 s)] hp=some (fl (if 0<=s then 9218868437227405312 else 18442240474082181120),hp):=by
 rw[E13]
 by_cases h:0<=s<;>simp[h,Kf,Zs]
theorem Qr(hp:Hp):run cxX 11 [fl 0,fl 13830554455654793216] hp=some (fl 9223372036854775808,hp):=(E11 _ _ _).trans qd
theorem vq(hp:Hp):run cxX 11 [fl 0,fl 13826050856027422720] hp=some (fl 9223372036854775808,hp):=(E11 _ _ _).trans qd
theorem wB(hp:Hp):run cxX 11 [fl 0,fl 4602678819172646912] hp=some (fl 0,hp):=(E11 _ _ _).trans qd
theorem Zy(hp:Hp):run cxX 4 [] hp=some (.sc (.bool true),hp):=by
 rw[E4]
 have h1:kw 0=9223372036854775808:=qf
 have h2:kw 9223372036854775808=9223372036854775807:=qf
 have k:=fun hp=>wA 0 qf hp
 have l:=fun hp=>YW 9223372036854775808 0 qf qf hp
 have c:=Qr
 rw[h1]at k
 rw[h1,h2]at l
 simp at k l c
 simp[k,l,c]
theorem qap(x y:Operand):qD Try.prog .sub 24 x y (.float .f64 (FloatKind.f64.nearest 0)) (.float .f64 4602678819172646912)=some (.float .f64 13826050856027422720):=qd
theorem qao(x y:Operand):qD Try.prog .sub 24 x y (.float .f64 (FloatKind.f64.nearest 1)) (.float .f64 4602678819172646912)=some (.float .f64 4602678819172646912):=qd
theorem JM(n e:Int)(hn:0<=n/\n<18446744073709551616)(he:0<=e/\e<256):∃w,w<18446744073709551616/\∀hp,run cxX 5 [.sc (.int .u64 n),.sc (.int .u8 e)] hp=some (fl w,hp):=by
 have m8:∀x y,qD Try.prog .rem 5 x y (.int .u8 e) (.int .u8 8)=some (.int .u8 (e%8)):=by
  intro x y;rw[vg _ _ _ _ _ _ _ qc,kh he.1]
 have m2:∀x y,qD Try.prog .rem 22 x y (.int .u64 n) (.int .u64 2)=some (.int .u64 (n%2)):=by
  intro x y;rw[vg _ _ _ _ _ _ _ qc,kh hn.1]
 have m3:∀x y,qD Try.prog .rem 22 x y (.int .u64 n) (.int .u64 2001)=some (.int .u64 (n%2001)):=by
  intro x y;rw[vg _ _ _ _ _ _ _ qc,kh hn.1]
 have w2:IntKind.i64.wrap (n%2)=n%2:=xj qc qc
 have w3:IntKind.i64.wrap (n%2001)=n%2001:=xj qc qc
 have w4:IntKind.i64.wrap (n%2001-1000)=n%2001-1000:=xj qc qc
 have w5:IntKind.i64.wrap (2*(n%2))=2*(n%2):=xj qc qc
 have w5':IntKind.i64.wrap (n%2*2)=n%2*2:=xj qc qc
 have w6:IntKind.i64.wrap (n%2*2-1)=n%2*2-1:=xj qc qc
 have b10:∀hp,B5_10 (.int .u64 n) hp=some (fl (FloatKind.f64.nearest (n%2001-1000)),hp):=by
  intro hp
  rw[Ke]
  simp[m3,Jv,w3,w4,Ju]
 have b11:∀hp,B5_11 (.int .u64 n) hp=some (fl n.toNat,hp):=by
  intro hp
  rw[Kd]
  simp[Zs]
 by_cases h0:e%8=0
 ·refine⟨9221120237041090561,qf,fun hp=>?_⟩
  rw[E5]
  simp[m8,h0,Kv]
 ·by_cases h1:e%8=1
  ·refine⟨if 0<=n%2*2-1 then 9218868437227405312 else 18442240474082181120,by split<;>decide,fun hp=>?_⟩
   rw[E5]
   simp[m8,h1,m2,Vc,w2,w5',w6,Kx]
  ·by_cases h2:e%8=2
   ·rcases Int.emod_two_eq n with q|q
    ·refine⟨9223372036854775808,qf,fun hp=>?_⟩
     rw[E5]
     simp[m8,h2,m2,q,QX,qap,vq]
    ·refine⟨0,qf,fun hp=>?_⟩
     rw[E5]
     simp[m8,h2,m2,q,QX,qao,wB]
   ·by_cases h3:e%8=3
    ·refine⟨_,kO (n%2001-1000),fun hp=>?_⟩
     rw[E5]
     simp[m8,h3,b10]
    ·by_cases h4:e%8=4
     ·refine⟨_,kO (n%2001-1000),fun hp=>?_⟩
      rw[E5]
      simp[m8,h4,b10]
     ·refine⟨n.toNat,qc,fun hp=>?_⟩
      rw[E5]
      simp[m8,h0,h1,h2,h3,h4,b11]
theorem VY(x y:Operand):qD Try.prog .quo 24 x y (.float .f64 4607182418800017408) (.float .f64 0)=some (.float .f64 9218868437227405312):=qd
theorem VZ(x y:Operand):qD Try.prog .quo 24 x y (.float .f64 4607182418800017408) (.float .f64 9223372036854775808)=some (.float .f64 18442240474082181120):=qd
theorem JK(w:Nat)(h:w<18446744073709551616)(hp:Hp):run cxX 6 [fl w] hp=some (.sc (.int .i64 (zq w)),hp):=by
 rw[E6]
 unfold zq
 by_cases hn:zx w
 ·simp[qw,hn]
 ·have n1:¬zx 9218868437227405311:=qf
  have n2:¬zx 18442240474082181119:=qf
  have n3:¬zx 0:=qf
  have v1:qq 9218868437227405311=9218868437227405311:=qf
  have v2:qq 18442240474082181119=-9218868437227405311:=qf
  have v3:qq 0=0:=qf
  have hn':=hn
  unfold zx at hn'
  have c1:qV 9218868437227405311 w=decide (w=9218868437227405312):=by
   unfold qV
   rw[v1]
   apply decide_eq_decide.mpr
   constructor
   ·rintro⟨_,_,h3⟩
    unfold qq at h3
    split at h3<;>omega
   ·intro h3
    subst h3
    exact⟨n1,qf,qf⟩
  have c2:qV w 18442240474082181119=decide (w=18442240474082181120):=by
   unfold qV
   rw[v2]
   apply decide_eq_decide.mpr
   constructor
   ·rintro⟨_,_,h3⟩
    unfold qq at h3
    split at h3<;>omega
   ·intro h3
    subst h3
    exact⟨qf,n2,qf⟩
  have c3:Zo w 0=decide (w=0\/w=9223372036854775808):=by
   unfold Zo
   rw[v3]
   apply decide_eq_decide.mpr
   constructor
   ·rintro⟨_,_,h3⟩
    unfold qq at h3
    split at h3<;>omega
   ·intro h3
    rcases h3 with rfl|rfl
    ·exact⟨n3,n3,qf⟩
    ·exact⟨qf,n3,qf⟩
  have c4:qV 0 w=decide (0<w/\w<9223372036854775808):=by
   unfold qV
   rw[v3]
   apply decide_eq_decide.mpr
   constructor
   ·rintro⟨_,_,h3⟩
    unfold qq at h3
    split at h3<;>omega
   ·intro h3
    refine⟨n3,hn,?_⟩
    unfold qq
    split<;>omega
  have c5:qV 18442240474082181120 0=true:=qf
  have c6:qV 9218868437227405312 0=false:=qf
  by_cases h1:w=9218868437227405312
  ·subst h1
   simp[qw,hn,c1]
  ·by_cases h2:w=18442240474082181120
   ·subst h2
    simp[qw,hn,c1,c2]
   ·by_cases h3:w=9223372036854775808
    ·subst h3
     simp[qw,hn,c1,c2,c3,VZ,c5]
    ·by_cases h4:w=0
     ·subst h4
      simp[qw,hn,c1,c2,c3,VY,c6]
     ·by_cases h5:w<9223372036854775808
      ·have h6:0<w:=qc
       simp[qw,hn,c1,h1,c2,h2,c3,h3,h4,c4,h5,h6]
      ·simp[qw,hn,c1,h1,c2,h2,c3,h3,h4,c4,h5]
theorem VT{w:Nat}(h:w<18446744073709551616):zx (nw w)↔zx w:=by
 unfold zx nw
 split<;>omega
theorem Qp(w:Nat)(h:w<18446744073709551616)(hn:¬zx w)(hp:Hp):run cxX 16 [fl w,.sc (.int .i64 (-1))] hp=some (.sc (.bool (decide (w=18442240474082181120))),hp):=by
 have e:=YK Try.prog w h
 have c:qV 9218868437227405311 (nw w)=decide (w=18442240474082181120):=by
  unfold qV
  have v1:qq 9218868437227405311=9218868437227405311:=qf
  rw[v1]
  have hn':¬zx (nw w):=fun e=>hn ((VT h).mp e)
  have hn2:=hn
  unfold zx at hn2
  apply decide_eq_decide.mpr
  constructor
  ·rintro⟨_,_,h3⟩
   unfold qq nw at h3
   repeat' split at h3
   all_goals omega
  ·intro h3
   subst h3
   exact⟨qf,qf,qf⟩
 rw[E16]
 simp[e,Zm,c]
theorem Qo(w:Nat)(h:w<18446744073709551616)(hn:¬zx w)(hp:Hp):run cxX 16 [fl w,.sc (.int .i64 1)] hp=some (.sc (.bool (decide (w=9218868437227405312))),hp):=by
 have c:qV 9218868437227405311 w=decide (w=9218868437227405312):=by
  unfold qV
  have v1:qq 9218868437227405311=9218868437227405311:=qf
  rw[v1]
  have hn2:=hn
  unfold zx at hn2
  apply decide_eq_decide.mpr
  constructor
  ·rintro⟨_,_,h3⟩
   unfold qq at h3
   split at h3<;>omega
  ·intro h3
   subst h3
   exact⟨qf,qf,qf⟩
 rw[E16]
 simp[Zm,c]
theorem Ql(w:Nat)(h:w<18446744073709551616)(hp:Hp):run cxX 17 [fl w] hp=some (.sc (.bool (decide (9223372036854775808<=w))),hp):=by
 have c:decide (IntKind.i64.wrap (w:Int)<0)=decide (9223372036854775808<=w):=by
  apply decide_eq_decide.mpr
  rw[IntKind.wrap_i64]
  omega
 rw[E17]
 simp[wl,Jv]
 rw[IntKind.wrap_i64]
 omega
def ZT(w:Nat):Int:=if zx w then 1 else if w=18442240474082181120 then 2 else if w=9218868437227405312 then 3 else if w=9223372036854775808 then 4 else if w=0 then 5 else 0
theorem XN{w:Nat}(h:w<18446744073709551616)(hn:¬zx w):Zo w 0=decide (w=0\/w=9223372036854775808):=by
 unfold Zo
 have v3:qq 0=0:=qf
 rw[v3]
 apply decide_eq_decide.mpr
 constructor
 ·rintro⟨_,_,h3⟩
  unfold qq at h3
  split at h3<;>omega
 ·intro h3
  rcases h3 with rfl|rfl
  ·exact⟨qf,qf,qf⟩
  ·exact⟨qf,qf,qf⟩
theorem YX(w:Nat)(h:w<18446744073709551616)(hp:Hp):run cxX 8 [fl w] hp=some (.sc (.int .u8 (ZT w)),hp):=by
 rw[E8]
 unfold ZT
 by_cases hn:zx w
 ·simp[qw,hn]
 ·have i1:=fun hp=>Qp w h hn hp
  have i2:=fun hp=>Qo w h hn hp
  have z:=XN h hn
  have s:=fun hp=>Ql w h hp
  have b9:∀hp,B8_9 (.float .f64 w) hp=some (.sc (.int .u8 (if w=0\/w=9223372036854775808 then 5 else 0)),hp):=by
   intro hp
   rw[Vi]
   by_cases h0:w=0\/w=9223372036854775808<;>simp[z,h0]
  by_cases h1:w=18442240474082181120
  ·subst h1
   simp at i1
   simp[qw,hn,i1]
  ·by_cases h2:w=9218868437227405312
   ·subst h2
    simp at i1 i2
    simp[qw,hn,i1,i2]
   ·simp only[h1,h2,decide_false]at i1 i2
    by_cases h3:w=9223372036854775808
    ·subst h3
     simp at s z
     simp[qw,hn,i1,i2,z,s,Vj]
    ·by_cases h4:w=0
     ·subst h4
      simp at s z b9
      simp[qw,hn,i1,i2,z,s,b9]
     ·simp[h3,h4]at z b9
      simp[qw,hn,i1,i2,z,b9,h1,h2,h3,h4]
section
variable (P:Program)(t:TypeId)(x y:Operand)(a b:Nat)
@[simp] theorem WO : qD P .geq t x y (.float .f64 a) (.float .f64 b) = some (.bool (qV b a || Zo a b)) := by
 unfold qD
 rw[qS]
 show one (some (Value.bool (Ieee.double.order a b==some .gt||Ieee.double.order a b==some .eq)))=_
 rw[KY,f_gt]
 unfold qV
 show some (Value.bool (_||_))=_
 congr 3
 apply decide_eq_decide.mpr
 constructor<;>(rintro⟨h1,h2,h3⟩;exact⟨h2,h1,h3⟩)
theorem Yv{r:Nat}(h:Ieee.double.add a b=some r):qD P .add t x y (.float .f64 a) (.float .f64 b)=some (.float .f64 r):=by
 unfold qD
 rw[qS]
 show one (qO P (Op.floatArith .add .f64 a b))=_
 unfold Op.floatArith
 show one (qO P ((pure (Ieee.double.add a b):Sem (Option Nat))>>=_))=_
 rw[h]
 rfl
end
theorem YG(w:Nat):yu Try.prog 20 [.float .f64 w]=
 (qO Try.prog (Go.Extern.MathFloor.toIntegral "math.archFloor" .down #[.float .f64 w]>>=fun v=>pure (Next.value v))).bind fun n=>match n with
  | .value v=>some v
  |_=>none:=qd
theorem Kl{w m:Nat}{s:Bool}(hf:w%9223372036854775808<9218868437227405312)(h:(Ieee.double.read w).integral .down= .number s m 0):one (yu Try.prog 20 [.float .f64 w])=some (.float .f64 (Ieee.double.nearest s m 0)):=by
 obtain⟨m0,i,e1,_⟩:=je hf
 rw[YG]
 have key:Go.Extern.MathFloor.toIntegral "math.archFloor" .down #[.float .f64 w]=pure (.float .f64 (FloatKind.f64.encode ((FloatKind.f64.decode w).integral .down))):=by
  refine@Eq.trans _ _ (Go.Extern.MathFloor.toIntegral.match_1 (fun _=>Sem Value) (FloatKind.f64.decode w) _ _) _ rfl ?_
  have e:FloatKind.f64.decode w=Ieee.double.read w:=rfl
  rw[e,e1]
 rw[key]
 have e:FloatKind.f64.decode w=Ieee.double.read w:=rfl
 rw[e,h]
 rfl
theorem cv_f{b:Nat}{n:Int}(h:(Ieee.double.read b).toInt .zero=some n)(hn:-9223372036854775808<=n/\n<=9223372036854775807):Ki Try.prog 24 2 (.float .f64 b)=some (.int .i64 n):=by
 have e0:Ki Try.prog 24 2 (.float .f64 b)=one (qO Try.prog (Conv.floatToInt .f64 b .i64)):=qd
 rw[e0]
 unfold Conv.floatToInt
 have e:FloatKind.f64.decode b=Ieee.double.read b:=rfl
 simp only[e,h]
 have h1:IntKind.i64.min<=n/\n<=IntKind.i64.max:=hn
 rw[if_pos h1]
 rfl
theorem JL{w m:Nat}{s:Bool}(hf:w%9223372036854775808<9218868437227405312)(h:(Ieee.double.read w).integral .down= .number s m 0)(hp:Hp):run cxX 15 [fl w] hp=some (fl (Ieee.double.nearest s m 0),hp):=by
 rw[E15]
 simp[Kl hf h]
theorem xv{w:Nat}(hn:¬zx w):(qV 4845873199050653696 w||Zo w 4845873199050653696)=decide (4845873199050653696<=qq w):=by
 have n0:¬zx 4845873199050653696:=qf
 have v0:qq 4845873199050653696=4845873199050653696:=qf
 unfold qV Zo
 rw[v0]
 by_cases h:4845873199050653696<=qq w
 ·by_cases h2:qq w=4845873199050653696
  ·simp[hn,n0,h2]
  ·have h3:4845873199050653696<qq w:=qc
   simp[hn,n0,h3,h]
 ·have h2:¬(qq w=4845873199050653696):=qc
  have h3:¬(4845873199050653696<qq w):=qc
  simp[hn,n0,h2,h3,h]
theorem wO{w:Nat}(hn:¬zx w):(qV w 14069245235905429504||Zo w 14069245235905429504)=decide (qq w<=-4845873199050653696):=by
 have n0:¬zx 14069245235905429504:=qf
 have v0:qq 14069245235905429504=-4845873199050653696:=qf
 unfold qV Zo
 rw[v0]
 by_cases h:qq w<=-4845873199050653696
 ·by_cases h2:qq w=-4845873199050653696
  ·simp[hn,n0,h2]
  ·have h3:qq w< -4845873199050653696:=qc
   simp[hn,n0,h3,h]
 ·have h2:¬(qq w=-4845873199050653696):=qc
  have h3:¬(qq w< -4845873199050653696):=qc
  simp[hn,n0,h2,h3,h]
theorem Xs(U:Nat)(hU:YD U):qK 4845873199050653696=9007199254740992*U:=by
 have d1:4845873199050653696/4503599627370496-1=1075:=qf
 have d2:4503599627370496+4845873199050653696%4503599627370496=4503599627370496:=qf
 have t':(2:Nat)^52=4503599627370496:=qf
 have t2:(2:Nat)^53=9007199254740992:=qf
 unfold qK
 rw[if_neg qf,d1,d2,hU.eq,<-t',<-t2]
 exact pw2 52 1075 53 1074 rfl
theorem Jh(W:Int):FloatKind.f64.nearest W=Ieee.double.nearest (decide (W<0)) W.natAbs 0:=rfl
theorem Kw{w:Nat}(hn:¬zx w)(h1:¬(4845873199050653696<=qq w))(h2:¬(qq w<=-4845873199050653696)):
 ∃W:Int,(∀hp,run cxX 7 [fl w] hp=some (.sc (.int .i64 W),hp))/\
  (qV (FloatKind.f64.nearest W) w||Zo (FloatKind.f64.nearest W) w)=true/\
  ∃r,Ieee.double.add (FloatKind.f64.nearest W) 4607182418800017408=some r/\qV w r=true:=by
 obtain⟨U,hU⟩:∃U,YD U:=⟨_,rfl⟩
 have hr:w%9223372036854775808<4845873199050653696:=by
  unfold qq at h1 h2
  split at h1<;>omega
 have hx:w%9223372036854775808<9218868437227405312:=qc
 have hM:=yX hr
 rw[Xs U hU]at hM
 obtain⟨a1,a2,⟨a3,a4⟩,r,a5,a6,a7⟩:=JD U w hU hx hM _ rfl _ rfl _ rfl
 have fr:=(yI w U hU hx).1
 generalize wh (w/9223372036854775808%2==1) (qK (w%9223372036854775808)) U=W at*
 have cf:=cv_f a1 ⟨qc,qc⟩
 refine⟨W,fun hp=>?_,?_,r,?_,?_⟩
 ·have fl1:=JL hx fr hp0
  rw[E7]
  simp[qw,hn,xv hn,wO hn,h1,h2,fl1,cf]
 ·rw[Jh]
  unfold qV Zo
  generalize Ieee.double.nearest (decide (W<0)) W.natAbs 0=q at*
  rcases qcs (qq q) (qq w)with c|c|c
  ·simp[a3,hn,c]
  ·simp[a3,hn,c]
  ·exact absurd c a4
 ·rw[Jh];exact a5
 ·unfold qV
  simp[hn,a6,a7]
theorem kq(n e:Int)(hn:0<=n/\n<18446744073709551616)(he:0<=e/\e<256)(hp:Hp):run cxX 3 [.sc (.int .u64 n),.sc (.int .u8 e)] hp=some (.sc (.bool true),hp):=by
 obtain⟨w,hw,rf⟩:=JM n e hn he
 have aw:=Zy hp0
 have pl:=JK w hw hp0
 have ed:=YX w hw hp0
 have gs0:∀(v:Value),xO [.sc v] 0=some v:=fun _=>rfl
 --the table
 have tab:∃k:Nat,k<7/\zq w=(k:Int)/\∀h,[AV.sc (.int .u8 2),.sc (.int .u8 0),.sc (.int .u8 4),.sc (.int .u8 5),.sc (.int .u8 0),.sc (.int .u8 3),.sc (.int .u8 1)][k]'h= .sc (.int .u8 (ZT w)):=by
  unfold zq ZT
  by_cases q:zx w
  ·exact⟨6,qf,by simp[q],fun _=>by simp[q]⟩
  ·by_cases c1:w=9218868437227405312
   ·exact⟨5,qf,by subst c1;simp[q],fun _=>by subst c1;simp[q]⟩
   ·by_cases c2:w=18442240474082181120
    ·exact⟨0,qf,by subst c2;simp[q],fun _=>by subst c2;simp[q]⟩
    ·by_cases c3:w=9223372036854775808
     ·exact⟨2,qf,by subst c3;simp[q],fun _=>by subst c3;simp[q]⟩
     ·by_cases c4:w=0
      ·exact⟨3,qf,by subst c4;simp[q],fun _=>by subst c4;simp[q]⟩
      ·by_cases c5:w<9223372036854775808
       ·exact⟨4,qf,by simp[q,c1,c2,c3,c4,c5],fun _=>by simp[q,c1,c2,c3,c4]⟩
       ·exact⟨1,qf,by simp[q,c1,c2,c3,c4,c5],fun _=>by simp[q,c1,c2,c3,c4]⟩
 obtain⟨k,hk,pk,tk⟩:=tab
 have ix:yr 1 (AV.us 1 [AV.sc (.int .u8 2),.sc (.int .u8 0),.sc (.int .u8 4),.sc (.int .u8 5),.sc (.int .u8 0),.sc (.int .u8 3),.sc (.int .u8 1)]) (.int .i64 (zq w))=some [.sc (.int .u8 (ZT w))]:=by
  rw[pk]
  have:k=0\/k=1\/k=2\/k=3\/k=4\/k=5\/k=6:=qc
  have t:=tk qg
  rcases this with c|c|c|c|c|c|c<;>subst c<;>rw[<-t]<;>rfl
 have ix:yr 1 (S 1 1 [AV.sc (.int .u8 2),.sc (.int .u8 0),.sc (.int .u8 4),.sc (.int .u8 5),.sc (.int .u8 0),.sc (.int .u8 3),.sc (.int .u8 1)]) (.int .i64 (zq w))=some [.sc (.int .u8 (ZT w))]:=ix
 generalize ZT w=ew at*
 rw[E3]
 by_cases q:zx w
 ·have wn:∀hp,run cxX 7 [fl w] hp=some (.sc (.int .i64 0),hp):=by
   intro hp
   rw[E7]
   simp[qw,q]
  simp[-wQ,aw,rf,pl,ed,ix,gs0,wn,qw,q]
 ·by_cases c1:4845873199050653696<=qq w
  ·have wn:∀hp,run cxX 7 [fl w] hp=some (.sc (.int .i64 9007199254740992),hp):=by
    intro hp
    rw[E7]
    simp[qw,q,xv q,c1]
   simp[-wQ,aw,rf,pl,ed,ix,gs0,wn,qw,q,xv q,c1]
  ·by_cases c2:qq w<=-4845873199050653696
   ·have wn:∀hp,run cxX 7 [fl w] hp=some (.sc (.int .i64 (-9007199254740992)),hp):=by
     intro hp
     rw[E7]
     simp[qw,q,xv q,wO q,c1,c2]
    simp[-wQ,aw,rf,pl,ed,ix,gs0,wn,qw,q,xv q,wO q,c1,c2]
   ·obtain⟨W,wn,le1,r,ad,lt1⟩:=Kw q c1 c2
    have fa:=fun x y=>Yv Try.prog 24 x y _ _ ad
    simp[-wQ,aw,rf,pl,ed,ix,gs0,wn,qw,q,xv q,wO q,c1,c2,Ju,le1,fa,lt1]
theorem law_TotalEdges(n:Int)(wn:Je .u64 n)(e:Int)(we:Je .u8 e)(hp:Hp):
 ∃hp',run cxX 3 [.sc (.int .u64 n),.sc (.int .u8 e)] hp=some (.sc (.bool true),hp'):=
 ⟨hp,kq n e wn.u64 we.u8 hp⟩
end Go.Proofs.Ytehljndbfjfbfaa.AI
