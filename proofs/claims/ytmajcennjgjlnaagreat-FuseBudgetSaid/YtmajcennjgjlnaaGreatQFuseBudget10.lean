/- Texts that the proof of FuseBudget rests on, part 10. -/
import Derived.Test.YtmajcennjgjlnaaGreatQFuseBudget9
import Derived.DataElems
namespace Go.Proofs.YtmajcennjgjlnaaGreat.AI
open Go
set_option linter.unusedVariables false
set_option linter.unusedSimpArgs false
set_option maxRecDepth 100000
set_option maxHeartbeats 0
theorem Kf{hp:Hp}{rb sb wb k1 k2:Nat}{L1 L2 Z:List Int}(hl1:L1.length<=1000000000)(hl2:L2.length<=1000000000)(hz:Z.length<=1000000)(h:RW3 hp rb sb wb k1 k2 L1 L2 L1.length L2.length Z):
 B20_18 (.ptr rb 0 0) (.ptr sb 0 0) (.ptr wb 0 0) (.int .i64 0) hp=some (.tup [S 1 1 (LI .u8 Z),.sc (.int .i64 0)],hp):=by
 have e1:=VZ rb k1 L1 _ _ hp hl1 (zmx _) h.r
 have e2:=VZ sb k2 L2 _ _ hp hl2 (zmx _) h.s
 have c1:¬((0:Int)=0/\L1.length<L1.length):=qe
 have c2:¬((0:Int)=0/\L2.length<L2.length):=qe
 rw[if_neg c1]at e1
 rw[if_neg c2]at e2
 have fi:=ya
 have wb':=VX wb Z hz hp h.w
 rw[qd3]
 simp[e1,e2,fi,qd2,wb']
theorem zje(x8 x9 x10:AV)(e:Int)(he:e≠0)(hp:Hp):B20_18 x8 x9 x10 (.int .i64 e) hp=some (.tup [S 2 1 [],.sc (.int .i64 e)],hp):=by
 rw[qd3]
 simp[he,qd2]
def H3(hp:Hp)(k1 k2:Nat)(L1 L2:List Int):Hp:=((hp.new (Rc (rk k1) L1 0 0)).new (Rc (rk k2) L2 0 0)).new (Wc [])
theorem Ja(hp:Hp)(k1 k2:Nat)(L1 L2:List Int):RW3 (H3 hp k1 k2 L1 L2) hp.next (hp.next+1) (hp.next+2) (rk k1) (rk k2) L1 L2 0 0 [] where
 r:=by
  unfold H3
  rw[zF _ _ (show hp.next≠hp.next+1+1 by omega),zF _ _ (show hp.next≠hp.next+1 by omega)]
  exact qR hp _
 s:=by
  unfold H3
  rw[zF _ _ (show hp.next+1≠hp.next+1+1 by omega)]
  exact qR (hp.new _) _
 w:=qR ((hp.new _).new _) _
 lr:=by show hp.next<hp.next+1+1+1;omega
 ls:=by show hp.next+1<hp.next+1+1+1;omega
 lw:=by show hp.next+2<hp.next+1+1+1;omega
 rs:=qe
 rw:=qe
 sw:=qe
theorem Jt(kd:Nat)(f:Nat)(hkd:kd<=5)(hp H:Hp)(k1 k2:Nat)(L1 L2:List Int)(e:Int)
 (hf:run cxX (if kd=0 then 49 else if kd=1 then 50 else if kd=2 then 51 else if kd=3 then 52 else if kd=4 then 53 else 54) [.ptr (hp.next+2) 0 0,.ptr hp.next 0 0,.ptr (hp.next+1) 0 0] (H3 hp k1 k2 L1 L2)=some (.sc (.int .i64 e),H)):
 run cxX 20 [.sc (.int .u8 (kd:Int)),S k1 1 (LI .u8 L1),S k2 1 (LI .u8 L2)] hp=B20_18 (.ptr hp.next 0 0) (.ptr (hp.next+1) 0 0) (.ptr (hp.next+2) 0 0) (.int .i64 e) H:=by
 have r1:=Jb (rk k1) L1 hp
 have r2:=Jb (rk k2) L2 (hp.new (Rc (rk k1) L1 0 0))
 simp only[Wp]at r1 r2
 have nn:(hp.new (Rc (rk k1) L1 0 0)).next=hp.next+1:=rfl
 have n2:((hp.new (Rc (rk k1) L1 0 0)).new (Rc (rk k2) L2 0 0)).next=hp.next+2:=rfl
 have e3:((hp.new (Rc (rk k1) L1 0 0)).new (Rc (rk k2) L2 0 0)).new [S 2 1 []]=H3 hp k1 k2 L1 L2:=rfl
 rw[nn]at r2
 have:kd=0\/kd=1\/kd=2\/kd=3\/kd=4\/kd=5:=qe
 rw[E20]
 rcases this with q|q|q|q|q|q<;>subst q<;>simp at hf<;>simp[r1,r2,n2,e3,hf]
theorem qpu(l:List Nat):tn (nz l)=l:=by
 unfold tn nz
 rw[zq1]
 exact(zq8 (fun x _=>zm3 x)).trans (List.map_id l)
theorem zip{a b:List Nat}(h:a.length=b.length)(a64:∀x∈a,x<64)(b64:∀x∈b,x<64):∀z∈Yv a b,z<64:=by
 intro x hx
 unfold Yv at hx
 obtain⟨i,hi,e⟩:=zpf hx
 rw[List.getElem_zipWith]at e
 have h1:=a64 _ (znb (by simp at hi;omega:i<a.length))
 have h2:=b64 _ (znb (by simp at hi;omega:i<b.length))
 omega
section
variable {x y:SkN}(fx:Fine x)(fy:Fine y)(k1 k2:Nat)(hp:Hp)
include fx fy
theorem zja(kx:x.kind=0)(ky:y.kind=0):∃t hp',run cxX 20 [.sc (.int .u8 0),S k1 1 (LI .u8 (qy x)),S k2 1 (LI .u8 (qy y))] hp=
 some (.tup [S t 1 (LI .u8 (if 4096<(mrg x.set y.set).length then []else qy (qD x y))),.sc (.int .i64 (if 4096<(mrg x.set y.set).length then 7 else 0))],hp'):=by
 obtain⟨s1,s2,s3,s4⟩:=wU fx kx
 obtain⟨u1,u2,u3,u4⟩:=wU fy ky
 have em:mrg x.set y.set=nz (vX (tn x.set) (tn y.set)):=by rw[WE _ _ _ (zmx _),s4,u4]
 have eY:qy (qD x y)=jV (jO (vX (tn x.set) (tn y.set))):=by
  unfold qD qy
  rw[if_pos kx]
  simp only[kx,if_true]
  rw[em,qpu]
 have e1:qy x=jV (jO (tn x.set)):=by unfold qy;rw[if_pos kx]
 have e2:qy y=jV (jO (tn y.set)):=by unfold qy;rw[if_pos ky]
 have hl:(mrg x.set y.set).length=(vX (tn x.set) (tn y.set)).length:=by rw[em,WF]
 rw[eY,e1,e2,hl]
 have la:=wY (l:=tn x.set) (by simp;exact s1) s3
 have lb:=wY (l:=tn y.set) (by simp;exact u1) u3
 obtain⟨H,f1,f2⟩:=qsh (H3 hp k1 k2 (jV (jO (tn x.set))) (jV (jO (tn y.set)))) hp.next (hp.next+1) (hp.next+2) (rk k1) (rk k2) (tn x.set) (tn y.set) (vX (tn x.set) (tn y.set)) s2 u2 (QM s2 u2) s3 u3 (by simp;exact s1) (by simp;exact u1) (fun z=>Jk z _ _) (Ja hp k1 k2 _ _)
 have fb:=Jt 0 0 qh hp H k1 k2 _ _ _ f1
 by_cases hm:4096<(vX (tn x.set) (tn y.set)).length
 ·rw[if_pos hm]at fb
  rw[if_pos hm,if_pos hm]
  exact⟨2,H,fb.trans (zje _ _ _ 7 qh H)⟩
 ·rw[if_neg hm]at fb
  rw[if_neg hm,if_neg hm]
  have lm:=wY (l:=vX (tn x.set) (tn y.set)) qe (fun z hz=>((Jk z _ _).mp hz).elim (s3 z) (u3 z))
  exact⟨1,H,fb.trans (Kf qe qe qe (f2 qe))⟩
theorem zjb(kx:x.kind=1)(ky:y.kind=1)(hx:Vg x)(hy:Vg y)(hK:y.K=x.K):∃t hp',run cxX 20 [.sc (.int .u8 1),S k1 1 (LI .u8 (qy x)),S k2 1 (LI .u8 (qy y))] hp=
 some (.tup [S t 1 (LI .u8 (qy (qD x y))),.sc (.int .i64 0)],hp'):=by
 obtain⟨s0,s1,s2,s3,s4⟩:=vd fx kx hx
 obtain⟨u0,u1,u2,u3,u4⟩:=vd fy ky hy
 have em:mrg x.hs y.hs=nz (vX (tn x.hs) (tn y.hs)):=by rw[WE _ _ _ (zmx _),s4,u4]
 have et:tn ((mrg x.hs y.hs).take x.K.toNat)=(vX (tn x.hs) (tn y.hs)).take x.K.toNat:=by
  rw[em]
  unfold nz
  rw[<-List.map_take]
  exact qpu _
 have eY:qy (qD x y)=uv x.K.toNat++zh ((vX (tn x.hs) (tn y.hs)).take x.K.toNat):=by
  have em0:qD x y={skZ with kind:=1,K:=x.K,hs:=(mrg x.hs y.hs).take x.K.toNat}:=by
   unfold qD
   rw[if_neg qe,if_pos kx,kx]
  rw[em0]
  unfold qy
  rw[if_neg (show ¬((1:Int)=0) by decide),if_pos rfl,et]
 have e1:qy x=uv x.K.toNat++zh (tn x.hs):=by unfold qy;rw[if_neg qe,if_pos kx]
 have e2:qy y=uv x.K.toNat++zh (tn y.hs):=by unfold qy;rw[if_neg qe,if_pos ky,hK]
 rw[eY,e1,e2]
 have hu:=qE (n:=x.K.toNat) qe
 have la:=kf (l:=tn x.hs) (by simp;exact s1) s3
 have lb:=kf (l:=tn y.hs) (by simp;exact u1) u3
 have lm:=kf (l:=(vX (tn x.hs) (tn y.hs)).take x.K.toNat) (by rw[zny];omega) (fun z hz=>((Jk z _ _).mp (zof hz)).elim (s3 z) (u3 z))
 obtain⟨H,f1,f2⟩:=qil (H3 hp k1 k2 (uv x.K.toNat++zh (tn x.hs)) (uv x.K.toNat++zh (tn y.hs))) hp.next (hp.next+1) (hp.next+2) (rk k1) (rk k2) x.K.toNat (tn x.hs) (tn y.hs) qe s2 u2 s3 u3 (by simp;exact s1) (by simp;exact u1) (Ja hp k1 k2 _ _)
 have fb:=Jt 1 0 qh hp H k1 k2 _ _ _ f1
 exact⟨1,H,fb.trans (Kf (by rw[zmt];omega) (by rw[zmt];omega) (by rw[zmt];omega) f2)⟩
theorem zjc(kx:x.kind=2)(ky:y.kind=2)(hP:y.P=x.P):∃t hp',run cxX 20 [.sc (.int .u8 2),S k1 1 (LI .u8 (qy x)),S k2 1 (LI .u8 (qy y))] hp=
 some (.tup [S t 1 (LI .u8 (qy (qD x y))),.sc (.int .i64 0)],hp'):=by
 obtain⟨s0,s1,s2,s3,s4⟩:=ve fx kx
 obtain⟨u0,u1,u2,u3,u4⟩:=ve fy ky
 obtain⟨P,hp0⟩:∃P:Nat,x.P=P:=⟨x.P.toNat,qe⟩
 have ha:(tn x.rg).length=2^P:=by rw[JO,s1,hp0];rfl
 have hb:(tn y.rg).length=2^P:=by rw[JO,u1,hP,hp0];rfl
 have em:vD x.rg y.rg=nz (Yv (tn x.rg) (tn y.rg)):=by rw[qz6 _ _ qe,s4,u4]
 have eY:qy (qD x y)=(P:Int)::jh (Yv (tn x.rg) (tn y.rg)):=by
  have em0:qD x y={skZ with kind:=2,P:=x.P,rg:=vD x.rg y.rg}:=by
   unfold qD
   rw[if_neg qe,if_neg qe,if_pos kx,kx]
  rw[em0]
  unfold qy
  rw[if_neg (show ¬((2:Int)=0) by decide),if_neg (show ¬((2:Int)=1) by decide),if_pos rfl]
  simp only[em,qpu,hp0]
 have e1:qy x=(P:Int)::jh (tn x.rg):=by unfold qy;rw[if_neg qe,if_neg qe,if_pos kx,hp0]
 have e2:qy y=(P:Int)::jh (tn y.rg):=by unfold qy;rw[if_neg qe,if_neg qe,if_pos ky,hP,hp0]
 rw[eY,e1,e2]
 have hN:2^P<=2^8:=znv qh (show P<=8 by omega)
 have hN':(2:Nat)^8=256:=qh
 have la:=QU (l:=tn x.rg) qe s3
 have lb:=QU (l:=tn y.rg) qe u3
 have ml:(Yv (tn x.rg) (tn y.rg)).length=2^P:=by unfold Yv;rw[List.length_zipWith,ha,hb,Nat.min_self]
 have m64:∀z∈Yv (tn x.rg) (tn y.rg),z<64:=zip qe s3 u3
 have lm:=QU (l:=Yv (tn x.rg) (tn y.rg)) qe m64
 obtain⟨H,f1,f2⟩:=qsi (H3 hp k1 k2 ((P:Int)::jh (tn x.rg)) ((P:Int)::jh (tn y.rg))) hp.next (hp.next+1) (hp.next+2) (rk k1) (rk k2) P (tn x.rg) (tn y.rg) qe s3 u3 ha hb (Ja hp k1 k2 _ _)
 have fb:=Jt 2 0 qh hp H k1 k2 _ _ _ f1
 exact⟨1,H,fb.trans (Kf (by rw[zmu];omega) (by rw[zmu];omega) (by rw[zmu];omega) f2)⟩
omit fy in
theorem qkp(k:x.kind=3):qM (tn x.bs):=by
 have h:=(qZ.mp fx.c).2.2
 rw[if_neg qe,if_neg qe,if_neg qe,if_pos k]at h
 have s:=Qh h fx.w.bs
 exact Vp (fun n hn=>(fx.w.bs n hn).1) s.2.2.1
theorem zjg(kx:x.kind=3)(ky:y.kind=3)(hB:y.B=x.B)(hH:y.H=x.H)(hl:jR x y=true):∃t hp',run cxX 20 [.sc (.int .u8 3),S k1 1 (LI .u8 (qy x)),S k2 1 (LI .u8 (qy y))] hp=
 some (.tup [S t 1 (LI .u8 (qy (qD x y))),.sc (.int .i64 0)],hp'):=by
 obtain⟨s0,s1,s2,s3,s4,s5⟩:=xP fx kx
 obtain⟨u0,u1,u2,u3,u4,u5⟩:=xP fy ky
 have rx:=qkp fx kx
 have ry:=qkp fy ky
 obtain⟨B,eB⟩:∃B:Nat,x.B=B:=⟨x.B.toNat,qe⟩
 obtain⟨H,eH⟩:∃H:Nat,x.H=H:=⟨x.H.toNat,qe⟩
 have em:mrg x.bs y.bs=nz (vX (tn x.bs) (tn y.bs)):=by rw[WE _ _ _ (zmx _),s5,u5]
 have em0:qD x y={skZ with kind:=3,B:=x.B,H:=x.H,bs:=mrg x.bs y.bs}:=by
  unfold qD
  rw[if_neg qe,if_neg qe,if_neg qe,if_pos kx,kx]
 have fm:=QN fx fy hl qe
 have fmb:=xP fm (by rw[em0])
 have ml:(vX (tn x.bs) (tn y.bs)).length<=4096:=by
  have:=fmb.2.2.1
  rw[em0]at this
  have e2:(mrg x.bs y.bs).length=(vX (tn x.bs) (tn y.bs)).length:=by rw[em,WF]
  rw[<-e2]
  exact this
 have eY:qy (qD x y)=uv B++[(H:Int)]++zB (vX (tn x.bs) (tn y.bs)):=by
  rw[em0]
  unfold qy
  rw[if_neg (show ¬((3:Int)=0) by decide),if_neg (show ¬((3:Int)=1) by decide),if_neg (show ¬((3:Int)=2) by decide),if_pos rfl]
  simp only[em,qpu,eB,eH,zm3]
 have e1:qy x=uv B++[(H:Int)]++zB (tn x.bs):=by unfold qy;rw[if_neg qe,if_neg qe,if_neg qe,if_pos kx,eB,eH,zm3]
 have e2:qy y=uv B++[(H:Int)]++zB (tn y.bs):=by unfold qy;rw[if_neg qe,if_neg qe,if_neg qe,if_pos ky,hB,hH,eB,eH,zm3]
 rw[eY,e1,e2]
 have hu:=qE (n:=B) qe
 have la:=kp (l:=tn x.bs) (by simp;exact s2) s4 s3
 have lb:=kp (l:=tn y.bs) (by simp;exact u2) u4 u3
 have lm:=kp (l:=vX (tn x.bs) (tn y.bs)) ml (fun z hz=>((Jk z _ _).mp hz).elim (s4 z) (u4 z)) (jc (QM rx ry))
 obtain⟨H',f1,f2⟩:=qyt (H3 hp k1 k2 (uv B++[(H:Int)]++zB (tn x.bs)) (uv B++[(H:Int)]++zB (tn y.bs))) hp.next (hp.next+1) (hp.next+2) (rk k1) (rk k2) B H (tn x.bs) (tn y.bs) qe qe rx ry s4 u4 (by simp;exact s2) (by simp;exact u2) ml (Ja hp k1 k2 _ _)
 have fb:=Jt 3 0 qh hp H' k1 k2 _ _ _ f1
 exact⟨1,H',fb.trans (Kf (by simp only[zmt,zm5];omega) (by simp only[zmt,zm5];omega) (by simp only[zmt,zm5];omega) f2)⟩
theorem zjf(kx:x.kind=4)(ky:y.kind=4)(hR:y.R=x.R)(hC:y.C=x.C):∃t hp',run cxX 20 [.sc (.int .u8 4),S k1 1 (LI .u8 (qy x)),S k2 1 (LI .u8 (qy y))] hp=
 some (.tup [S t 1 (LI .u8 (qy (qD x y))),.sc (.int .i64 0)],hp'):=by
 obtain⟨s0,s1,s2,s3⟩:=vf fx kx
 obtain⟨u0,u1,u2,u3⟩:=vf fy ky
 obtain⟨R,eR⟩:∃R:Nat,x.R=R:=⟨x.R.toNat,qe⟩
 obtain⟨C,eC⟩:∃C:Nat,x.C=C:=⟨x.C.toNat,qe⟩
 have em0:qD x y={skZ with kind:=4,R:=x.R,C:=x.C,cs:=kQ x.cs y.cs}:=by
  unfold qD
  rw[if_neg qe,if_neg qe,if_neg qe,if_neg qe,if_pos kx,kx]
 have eY:qy (qD x y)=[(R:Int)]++uv C++zU (C:Int) (kQ x.cs y.cs) 0 0:=by
  rw[em0]
  unfold qy
  rw[if_neg (show ¬((4:Int)=0) by decide),if_neg (show ¬((4:Int)=1) by decide),if_neg (show ¬((4:Int)=2) by decide),if_neg (show ¬((4:Int)=3) by decide),if_pos rfl]
  simp only[eR,eC,zm3]
 have e1:qy x=[(R:Int)]++uv C++zU (C:Int) x.cs 0 0:=by unfold qy;rw[if_neg qe,if_neg qe,if_neg qe,if_neg qe,if_pos kx,eR,eC,zm3]
 have e2:qy y=[(R:Int)]++uv C++zU (C:Int) y.cs 0 0:=by unfold qy;rw[if_neg qe,if_neg qe,if_neg qe,if_neg qe,if_pos ky,hR,hC,eR,eC,zm3]
 rw[eY,e1,e2]
 have hu:=qE (n:=C) qe
 have um:=qad fx.w.cs fy.w.cs
 have cl:=Xq x.cs y.cs
 have la:=vu (C:Int) x.cs fx.w.cs x.cs 0 0 fx.w.cs qe
 have lb:=vu (C:Int) y.cs fy.w.cs y.cs 0 0 fy.w.cs qe
 have lm:=vu (C:Int) _ um (kQ x.cs y.cs) 0 0 um qe
 have al:x.cs.length=R*C:=by rw[eR,eC,<-Int.natCast_mul]at s2;omega
 have bl:y.cs.length=R*C:=by rw[hR,hC,eR,eC,<-Int.natCast_mul]at u2;omega
 obtain⟨H',f1,f2⟩:=qyu (H3 hp k1 k2 ([(R:Int)]++uv C++zU (C:Int) x.cs 0 0) ([(R:Int)]++uv C++zU (C:Int) y.cs 0 0)) hp.next (hp.next+1) (hp.next+2) (rk k1) (rk k2) R C x.cs y.cs qe qe fx.w.cs fy.w.cs al bl (Ja hp k1 k2 _ _)
 have fb:=Jt 4 0 qh hp H' k1 k2 _ _ _ f1
 exact⟨1,H',fb.trans (Kf (by simp only[zmt,zm5];omega) (by simp only[zmt,zm5];omega) (by simp only[zmt,zm5];omega) f2)⟩
omit fx fy in
theorem qoi{g:Gs}(w:g.W)(ho:JB g.nf.L=0)(hl:g.nf.L.length<=16):GFi g.nf where
 u:=by
  intro n hn
  simp only[gSu,Gs.nf,zmy,zqv,or_false]at hn
  have a0:=w.M;have a1:=w.e0;have a2:=w.e1;have a3:=w.e2;have a4:=w.e3;have a5:=w.e4;have a6:=w.e5
  unfold zw at*
  rcases hn with e|e|e|e|e|e|e<;>subst e<;>assumption
 lo:=Qg _ w.lo
 hi:=Qg _ w.hi
 l:=hl
 n:=Zx ho
 b:=by
  intro k hk
  obtain⟨q,hq,rfl⟩:=zns.mp hk
  exact Qg _ (w.L q hq)
omit fx fy in
theorem WT{K:Int}{g:GN}(h:GFi g):(yy K g).length<=1000:=by
 have us:∀l:List Int,kY l->(Zp l).length<=10*l.length:=by
  intro l
  induction l with
  |nil=>intro _;simp[Zp]
  |cons x r ih=>
   intro hu
   have hx:=hu x qg
   have hw:=qE (n:=x.toNat) qe
   have:=ih (fun n hn=>hu n (by simp[hn]))
   show(uv x.toNat++Zp r).length<=_
   rw[zmt,zmu]
   omega
 have a1:=us _ h.u
 have a2:=qE (n:=g.lo) h.lo
 have a3:=qE (n:=g.hi) h.hi
 have a4:=WR g.L 0 h.b
 have a5:=h.l
 have a6:(gSu g).length=7:=rfl
 rw[Jr]
 simp only[zmu,zmt,znd]
 omega
theorem zjd{v u:AV}(hv:jU x v)(hu:jU y u)(kx:x.kind=5)(ky:y.kind=5)(hK:y.gK=x.gK)(hl:jR x y=true):∃t hp',run cxX 20 [.sc (.int .u8 5),S k1 1 (LI .u8 (qy x)),S k2 1 (LI .u8 (qy y))] hp=
 some (.tup [S t 1 (LI .u8 (qy (qD x y))),.sc (.int .i64 0)],hp'):=by
 obtain⟨s0,s1,s2⟩:=xe fx kx
 obtain⟨u0,u1,u2⟩:=xe fy ky
 obtain⟨K,eK⟩:∃K:Nat,x.gK=K:=⟨x.gK.toNat,qe⟩
 have em0:qD x y={skZ with kind:=5,gK:=x.gK,g:=kE x.gK x.g y.g}:=by
  unfold qD
  rw[if_neg qe,if_neg qe,if_neg qe,if_neg qe,if_neg qe,if_pos kx,kx]
 have fm:=xe (QN fx fy hl qe) (by rw[em0])
 rw[em0]at fm
 obtain⟨g,a,b,c,d,e,t,gw,gn,rfl⟩:=hv
 obtain⟨g',a',b',c',d',e',t',gw',gn',rfl⟩:=hu
 have nm:=qoh (K:Int) g g'
 rw[gn,gn']at nm
 rw[eK]at fm
 have G1:GFi x.g:=by rw[<-gn]at s1 s2⊢;exact qoi gw s1 s2
 have G2:GFi y.g:=by rw[<-gn']at u1 u2⊢;exact qoi gw' u1 u2
 have G3:GFi (kE (K:Int) x.g y.g):=by
  have f1:JB (kE (K:Int) x.g y.g).L=0:=fm.2.1
  have f2:(kE (K:Int) x.g y.g).L.length<=16:=fm.2.2
  rw[<-nm]at f1 f2⊢
  exact qoi (za1 qe gw gw') f1 f2
 have eY:qy (qD x y)=yy (K:Int) (kE (K:Int) x.g y.g):=by
  rw[em0]
  unfold qy
  rw[if_neg (show ¬((5:Int)=0) by decide),if_neg (show ¬((5:Int)=1) by decide),if_neg (show ¬((5:Int)=2) by decide),if_neg (show ¬((5:Int)=3) by decide),if_neg (show ¬((5:Int)=4) by decide)]
  simp only[eK]
 have e1:qy x=yy (K:Int) x.g:=by unfold qy;rw[if_neg qe,if_neg qe,if_neg qe,if_neg qe,if_neg qe,eK]
 have e2:qy y=yy (K:Int) y.g:=by unfold qy;rw[if_neg qe,if_neg qe,if_neg qe,if_neg qe,if_neg qe,hK,eK]
 rw[eY,e1,e2]
 have l1:=WT (K:=(K:Int)) G1
 have l2:=WT (K:=(K:Int)) G2
 have l3:=WT (K:=(K:Int)) G3
 obtain⟨H',f1,f2⟩:=qys (H3 hp k1 k2 (yy (K:Int) x.g) (yy (K:Int) y.g)) hp.next (hp.next+1) (hp.next+2) (rk k1) (rk k2) K x.g y.g qe G1 G2 G3 (Ja hp k1 k2 _ _)
 have fb:=Jt 5 0 qh hp H' k1 k2 _ _ _ f1
 exact⟨1,H',fb.trans (Kf qe qe qe f2)⟩
def VF(x y:SkN):List Int:=if(zH x y).2=0 then qy (zH x y).1 else []
theorem qm7{v u:AV}(hv:jU x v)(hu:jU y u)(hx:Vg x)(hy:Vg y)(hl:jR x y=true):∃t hp',run cxX 20 [.sc (.int .u8 x.kind),S k1 1 (LI .u8 (qy x)),S k2 1 (LI .u8 (qy y))] hp=
 some (.tup [S t 1 (LI .u8 (VF x y)),.sc (.int .i64 (zH x y).2)],hp'):=by
 have hk:=Qf hl
 obtain⟨l1,l2,l3,l4,l5⟩:=qqn hl
 have me:=Qd fx fy
 rw[if_neg (by simp[hl])]at me
 have no:∀(n:x.kind≠0),VF x y=qy (qD x y)/\(zH x y).2=0:=by
  intro n
  rw[if_neg (fun h=>n h.1)]at me
  unfold VF
  rw[me]
  exact⟨if_pos rfl,rfl⟩
 rcases six fx.w (qZ.mp fx.c).1 with k|k|k|k|k|k
 ·obtain⟨t,hp',h⟩:=zja fx fy k1 k2 hp k qe
  have e1:VF x y=if 4096<(mrg x.set y.set).length then []else qy (qD x y):=by
   unfold VF
   rw[me]
   by_cases q:4096<(mrg x.set y.set).length
   ·have e:(if x.kind=0/\4096<(mrg x.set y.set).length then(skZ,(7:Int))else(qD x y,0))=(skZ,7):=if_pos ⟨k,q⟩
    rw[e,if_pos q];exact if_neg qh
   ·have e:(if x.kind=0/\4096<(mrg x.set y.set).length then(skZ,(7:Int))else(qD x y,0))=(qD x y,0):=if_neg (fun h=>q h.2)
    rw[e,if_neg q];exact if_pos rfl
  have e2:(zH x y).2=if 4096<(mrg x.set y.set).length then 7 else 0:=by
   rw[me]
   by_cases q:4096<(mrg x.set y.set).length
   ·rw[if_pos (show x.kind=0/\4096<(mrg x.set y.set).length from⟨k,q⟩),if_pos q]
   ·rw[if_neg (show ¬(x.kind=0/\4096<(mrg x.set y.set).length)from fun h=>q h.2),if_neg q]
  rw[e1,e2,k]
  exact⟨t,hp',h⟩
 ·rw[(no qe).1,(no qe).2,k]
  exact zjb fx fy k1 k2 hp k qe hx hy (l1 k).symm
 ·rw[(no qe).1,(no qe).2,k]
  exact zjc fx fy k1 k2 hp k qe (l2 k).symm
 ·rw[(no qe).1,(no qe).2,k]
  exact zjg fx fy k1 k2 hp k qe (l3 k).1.symm (l3 k).2.symm hl
 ·rw[(no qe).1,(no qe).2,k]
  exact zjf fx fy k1 k2 hp k qe (l4 k).1.symm (l4 k).2.symm
 ·rw[(no qe).1,(no qe).2,k]
  exact zjd fx fy k1 k2 hp hv hu k qe (l5 k).symm hl
end
theorem qjl{x y:SkN}(hx:Fine x)(hy:Fine y):Fine (zH x y).1:=by
 rw[Qd hx hy]
 by_cases hl:jR x y=false
 ·rw[if_pos hl];exact vj
 ·rw[if_neg hl]
  by_cases h:x.kind=0/\4096<(mrg x.set y.set).length
  ·rw[if_pos h];exact vj
  ·rw[if_neg h];exact QN hx hy (by simpa using hl) h
theorem KO{x:SkN}(hx:Fine x):zH x x=(qD x x,0):=by
 rw[Qd hx hx,qc5]
 simp only[Bool.true_eq_false,if_false]
 rw[if_neg]
 rintro⟨k,h⟩
 obtain⟨kd,on,sp⟩:=qZ.mp hx.c
 rw[if_pos k]at sp
 obtain⟨a,b⟩:=Qz.mp sp
 rw[YV b]at h
 omega
theorem qn0{x y:SkN}(hx:Fine x)(hy:Fine y)(hl:jR x y=true)(e:(zH x y).2=0):zH x y=(qD x y,0)/\Fine (qD x y):=by
 have m:=Qd hx hy
 rw[if_neg (by simp[hl])]at m
 by_cases h:x.kind=0/\4096<(mrg x.set y.set).length
 ·rw[if_pos h]at m
  rw[m]at e
  cases e
 ·rw[if_neg h]at m
  exact⟨m,QN hx hy hl h⟩
theorem qto{x y:SkN}(hx:Vg x)(hy:Vg y):Vg (qD x y):=by
 intro n hn
 unfold qD at hn
 by_cases k:x.kind=1
 ·rw[if_neg qe,if_pos k]at hn
  exact((xt n _ _).mp (zof hn)).elim (hx n) (hy n)
 ·by_cases k0:x.kind=0
  ·rw[if_pos k0]at hn;cases hn
  ·rw[if_neg k0,if_neg k]at hn
   repeat' split at hn
   all_goals cases hn
theorem qn1{x y:SkN}(fx:Fine x)(fy:Fine y)(hl:jR x y=true)(hx:Vg x)(hy:Vg y)(e:(zH x y).2=0):Vg (zH x y).1:=by
 rw[(qn0 fx fy hl e).1]
 exact qto hx hy
theorem qod{x y:SkN}{v u:AV}(hv:jU x v)(hu:jU y u)(fx:Fine x)(fy:Fine y):∃r,jU (zH x y).1 r:=by
 have h0:∃r,jU (qD x y) r:=by
  by_cases k:x.kind=5
  ·obtain⟨g,_,_,_,_,_,_,gw,gn,_⟩:=hv
   obtain⟨g',_,_,_,_,_,_,gw',gn',_⟩:=hu
   have s:=xe fx k
   have e:(qD x y).g=kE x.gK x.g y.g:=by
    unfold qD
    rw[if_neg qe,if_neg qe,if_neg qe,if_neg qe,if_neg qe,if_pos k]
   exact⟨_,zL (za1 (K:=x.gK) qe gw gw') (by rw[qoh,gn,gn',e]) 2 2 2 2 2 2⟩
  ·refine⟨_,zL kN ?_ 2 2 2 2 2 2⟩
   unfold qD
   rw[if_neg k]
   repeat' split
   all_goals rfl
 rw[Qd fx fy]
 by_cases hl:jR x y=false
 ·rw[if_pos hl];exact⟨_,Jp⟩
 ·rw[if_neg hl]
  by_cases h:x.kind=0/\4096<(mrg x.set y.set).length
  ·rw[if_pos h];exact⟨_,Jp⟩
  ·rw[if_neg h];exact h0
theorem yG(K:IntKind)(l:List Int)(k:Nat)(hk:k=1\/k=2)(b:Nat)(hb:0<b/\b<=1000)(k':Nat)(m:List Int)(h:l.length+m.length<=100000000):jm b 1 (S k 1 (LI K l)) (S k' 1 (LI K m))=some (S k 1 (LI K (l++m))):=by
 rw[Yr b 1 k _ _ k' hk (WV _ _) (.inr (yR hb.1 ?_))]
 ·simp[LI]
 ·simp only[wI]
  have:(l.length+m.length)*b<=100000000*1000:=zno h hb.2
  omega
theorem qkz(K:IntKind)(l:List Int)(k:Nat)(hk:k=1\/k=2)(b:Nat)(hb:0<b/\b<=1000)(n:Int)(h:l.length<100000000):jm b 1 (S k 1 (LI K l)) (S 1 1 [.sc (.int K n)])=some (S k 1 (LI K (l++[n]))):=
 yG K l k hk b hb 1 [n] qi
theorem qsy:∀(n:Nat) (l:List Int) (hp:Hp),n<18446744073709551616->l.length+(uv n).length<=1000->
 B70_2 (.int .u64 (n:Int)) (S 2 1 (LI .u8 l)) hp=some (S 2 1 (LI .u8 (l++uv n)),hp):=by
 intro n
 induction n using Nat.strongRecOn with
 |_ n ih=>
  intro l hp hn hl
  rw[zcp]
  by_cases h1:n<128
  ·rw[KE h1]at hl⊢
   have hge:¬((128:Int)<=(n:Int)):=qe
   have w:IntKind.u8.wrap (n:Int)=(n:Int):=zy qe qe
   have ap:=QZ .u8 l 2 (.inr rfl) 1 qh n (by simp at hl;omega)
   simp[hge,w,ap]
  ·rw[VM h1]at hl⊢
   have hge:(128:Int)<=(n:Int):=qe
   have r:=Vq n 128 qh
   have q:=YR n 128 qh hn
   have w0:IntKind.u64.wrap (((n%128:Nat):Int)+128)=((n%128+128:Nat):Int):=by rw[qu]<;>omega
   have w:IntKind.u8.wrap ((n%128+128:Nat):Int)=((n%128+128:Nat):Int):=zy qe qe
   have ap:=QZ .u8 l 2 (.inr rfl) 1 qh ((n%128+128:Nat):Int) (by simp at hl;omega)
   have ih':=ih (n/128) qe (l++[((n%128+128:Nat):Int)]) hp qe (by simp at hl⊢;omega)
   generalize((n%128+128:Nat):Int)=c at*
   generalize((n/128:Nat):Int)=d at*
   generalize((n%128:Nat):Int)=e at*
   simp only[zpl]at r q
   simp[hge,r,q,w0,w,ap,ih']
theorem jt(n:Nat)(hn:n<18446744073709551616)(hp:Hp):run cxX 70 [.sc (.int .u64 (n:Int))] hp=some (S 2 1 (LI .u8 (uv n)),hp):=by
 have h:=qsy n [] hp hn (by have:=qE hn;simp;omega)
 rw[E70]
 simpa using h
theorem qyf(n:Int)(hn:-9223372036854775808<=n/\n<9223372036854775808)(hp:Hp):run cxX 74 [.sc (.int .i64 n)] hp=some (S 2 1 (LI .u8 (uv (zz n))),hp):=by
 have u:=jt (zz n) (qbt hn.1 hn.2) hp0
 rw[E74]
 by_cases h0:n<0
 ·have w1:IntKind.i64.wrap (n+1)=n+1:=qm qe qe
  have w2:IntKind.i64.wrap (0-(n+1))=0-(n+1):=qm qe qe
  have w3:IntKind.u64.wrap (0-(n+1))=0-(n+1):=qu qe qe
  have w4:IntKind.u64.wrap ((0-(n+1))*2)=(0-(n+1))*2:=qu qe qe
  have w5:IntKind.u64.wrap ((0-(n+1))*2+1)=((zz n:Nat):Int):=by rw[qu qe qe];unfold zz;rw[if_pos h0];omega
  have un:=qps Tryz.prog (n+1)
  rw[w2]at un
  generalize 0-(n+1)=y at*
  generalize zz n=z at*
  simp[h0,w1,un,w3,w4,w5,u]
 ·have w3:IntKind.u64.wrap n=n:=qu qe qe
  have w4:IntKind.u64.wrap (n*2)=((zz n:Nat):Int):=by rw[qu qe qe];unfold zz;rw[if_neg h0];omega
  generalize zz n=z at*
  simp[h0,w3,w4,u]
def ub(l:List Bool):List Int:=l.map fun b=>cond b 1 0
@[simp] theorem zhp(l:List Bool):(ub l).length=l.length:=by simp[ub]
@[simp] theorem qfs(l m:List Bool):ub (l++m)=ub l++ub m:=by simp[ub]
theorem qne(n:Nat)(hn:n<=1000000)(hp:Hp):∀(f i:Nat),i+f=n->
 B140_3 (.int .i64 (n:Int)) (S 2 1 (LI .u8 (List.replicate i 1))) (.int .i64 (i:Int)) hp=some (S 2 1 (LI .u8 (ub (una n))),hp):=by
 intro f
 induction f with
 |zero=>
  intro i h
  have e:i=n:=qe
  subst e
  have ap:=qkz .u8 (List.replicate i 1) 2 (.inr rfl) 1 qh 0 qi
  have e2:ub (una i)=List.replicate i 1++[0]:=by simp[ub,una]
  rw[qe0,e2]
  generalize List.replicate i (1:Int)=l at*
  simp[ap]
 |succ f ih=>
  intro i h
  have hlt:(i:Int)<(n:Int):=qe
  have ap:=qkz .u8 (List.replicate i 1) 2 (.inr rfl) 1 qh 1 qi
  have w1:IntKind.i64.wrap ((i:Int)+1)=((i+1:Nat):Int):=qj
  have ih':=ih (i+1) qe
  rw[zo8]at ih'
  rw[qe0]
  generalize List.replicate i (1:Int)=l at*
  generalize((i+1:Nat):Int)=j at*
  simp[hlt,ap,w1,ih']
theorem qb7(n:Nat)(hn:n<=1000000)(hp:Hp):run cxX 140 [.sc (.int .i64 (n:Int))] hp=some (S 2 1 (LI .u8 (ub (una n))),hp):=by
 have h:=qne n hn hp n 0 qe
 rw[E140]
 simpa using h
theorem zgo(n j:Nat):((n/2^j%2:Nat):Int)=cond (n.testBit j) 1 0:=by
 rw[zox]
 have:n/2^j%2=0\/n/2^j%2=1:=qe
 rcases this with h|h<;>rw[h]<;>rfl
theorem qs4(n b:Nat)(hn:n<18446744073709551616)(k:Nat)(hk:k<=64):∀(f j:Nat) (hp:Hp),j+f=k->hp.rd b 0=some (LI .u8 (List.replicate f 0++ub (xW n j)))->
 ∃hp',B141_7 (.int .u64 ((n/2^j:Nat):Int)) (.ms b 0 0 k 1) (.int .i64 ((f:Int)-1)) hp=some (S 0 1 (LI .u8 (ub (xW n k))),hp'):=by
 intro f
 induction f with
 |zero=>
  intro j hp h hb
  have e:j=k:=qe
  subst e
  have hge:¬((0:Int)<=((0:Nat):Int)-1):=qe
  have fz:=QT .u8 (ub (xW n j)) hp b (by simpa using hb)
  rw[zhp,qgr]at fz
  rw[qez]
  exact⟨hp.del b,by simp[fz]⟩
 |succ f ih=>
  intro j hp h hb
  have hge:(0:Int)<=((f+1:Nat):Int)-1:=qe
  have e1:((f+1:Nat):Int)-1=(f:Int):=qe
  have r:=Vq (n/2^j) 2 qh
  have q:=YR (n/2^j) 2 qh (zog (zo5 _ _) hn)
  have e2:n/2^j/2=n/2^(j+1):=by rw[zo0,<-Nat.pow_succ]
  rw[zgo]at r
  rw[e2]at q
  have ix:idx k (.int .i64 (f:Int))=some f:=zp .i64 qe
  have pn:=xp .u8 (List.replicate (f+1) 0++ub (xW n j)) f (cond (n.testBit j) 1 0) qi
  have e3:(List.replicate (f+1) (0:Int)++ub (xW n j)).set f (cond (n.testBit j) 1 0)=List.replicate f 0++ub (xW n (j+1)):=by
   rw[zo8,znf,zp9 _ _ qg]
   simp[xW,ub]
  rw[e3]at pn
  have w1:IntKind.i64.wrap ((f:Int)-1)=(f:Int)-1:=qm qe qe
  have w2:IntKind.u8.wrap (cond (n.testBit j) 1 0)=cond (n.testBit j) 1 0:=by cases n.testBit j<;>rfl
  obtain⟨hp',ih'⟩:=ih (j+1) (hp.put b 0 (LI .u8 (List.replicate f 0++ub (xW n (j+1))))) qe (qp _ _ _)
  refine⟨hp',?_⟩
  rw[qez,e1]
  simp only[zpl]at r q
  generalize((n/2^j:Nat):Int)=u at*
  generalize((n/2^(j+1):Nat):Int)=u' at*
  generalize(cond (n.testBit j) 1 0:Int)=c at*
  generalize LI .u8 (List.replicate f 0++ub (xW n (j+1)))=L' at*
  generalize LI .u8 (List.replicate (f+1) 0++ub (xW n j))=L at*
  simp[r,q,w2,ix,hb,pn,w1,ih']
theorem qia(n k:Nat)(hn:n<18446744073709551616)(hk:k<=64)(hp:Hp):∃hp',run cxX 141 [.sc (.int .u64 (n:Int)),.sc (.int .i64 (k:Int))] hp=some (S 0 1 (LI .u8 (ub (xW n k))),hp'):=by
 have mk:yT 1 1 (k:Int) (k:Int)=some ():=Ji qe qe qh qh
 have z:=ZV .u8 k
 obtain⟨hp',h⟩:=qs4 n hp.next hn k hk k 0 (hp.new (LI .u8 (List.replicate k 0))) qe (by rw[qR];simp[xW,ub])
 have h1:¬((64:Int)<(k:Int)):=qe
 have h2:¬((k:Int)<0):=qe
 have w1:IntKind.i64.wrap ((k:Int)-1)=(k:Int)-1:=qm qe qe
 refine⟨hp',?_⟩
 rw[E141]
 simp only[Nat.pow_zero,Nat.div_one]at h
 have h3:=qws (v0:=.int .u64 (n:Int)) (v1:=.int .i64 (k:Int)) (hp:=hp)
 have h5:=qwr (v0:=.int .u64 (n:Int)) (v1:=.int .i64 (k:Int)) (hp:=hp)
 generalize LI .u8 (List.replicate k 0)=Z at*
 simp[h1,h3,h2,h5,mk,z,w1,h]
theorem Kd(l:List Bool)(i j:Nat):(l.take i).getD j false=(decide (j<i)&&l.getD j false):=by
 rw[zmv,zm8]
 by_cases h:j<i
 ·simp[h]
 ·simp[h]
theorem qam(l:List Bool)(i:Nat)(hi:i<l.length)(q:Nat):by8 (l.take (i+1)) (8*q)=if q=i/8 then by8 (l.take i) (8*q)+(l.getD i false).toNat*2^(7-i%8)else by8 (l.take i) (8*q):=by
 have key:∀j,(l.take (i+1)).getD j false=if j=i then l.getD i false else(l.take i).getD j false:=by
  intro j
  rw[Kd,Kd]
  by_cases h1:j=i
  ·subst h1;simp
  ·have:(j<i+1)=(j<i):=by apply propext;omega
   simp[h1,this]
 have kz:(l.take i).getD i false=false:=by rw[Kd];simp
 unfold by8
 simp only[key]
 by_cases hq:q=i/8
 ·rw[if_pos hq]
  have hc:i%8=0\/i%8=1\/i%8=2\/i%8=3\/i%8=4\/i%8=5\/i%8=6\/i%8=7:=qe
  rcases hc with h|h|h|h|h|h|h|h
  all_goals
   have e:i=8*q+i%8:=qe
   rw[h]at e
   generalize hg:l.getD i false=c at*
   subst e
   simp at kz
   simp[kz]
   try omega
 ·rw[if_neg hq]
  have h0:∀k,k<8->8*q+k≠i:=qe
  have:=h0 0 qe;have:=h0 1 qe;have:=h0 2 qe;have:=h0 3 qe;have:=h0 4 qe;have:=h0 5 qe;have:=h0 6 qe;have:=h0 7 qe
  simp only[zoi]at*
  simp[*]
def pkt(l:List Bool)(i:Nat):List Int:=(List.range ((l.length+7)/8)).map fun q=>(by8 (l.take i) (8*q):Int)
theorem zet(l:List Bool)(i:Nat):(pkt l i).length=(l.length+7)/8:=by simp[pkt]
theorem zeu(l:List Bool):pkt l l.length=pk l:=by simp[pkt,pk]
theorem qze(l:List Bool):pkt l 0=List.replicate ((l.length+7)/8) 0:=by
 unfold pkt
 rw[List.eq_replicate_iff]
 refine⟨qg,fun x hx=>?_⟩
 obtain⟨q,_,rfl⟩:=zns.mp hx
 simp[by8]
theorem qzf(l:List Bool)(i:Nat)(hi:i<l.length):pkt l (i+1)=(pkt l i).set (i/8) ((by8 (l.take i) (8*(i/8))+(l.getD i false).toNat*2^(7-i%8):Nat):Int):=by
 unfold pkt
 apply zo1
 intro q
 rw[zp7,zne,zne]
 by_cases hq:i/8=q
 ·subst hq
  have hl:i/8<(l.length+7)/8:=qe
  rw[zpg hl]
  simp[qam l i hi,hl]
 ·rw[if_neg hq]
  by_cases hl:q<(l.length+7)/8
  ·rw[zpg hl]
   have hq':¬(q=i/8):=fun e=>hq e.symm
   simp[qam l i hi,hq']
  ·rw[znq qi]
   rfl
theorem qng(l:List Bool)(k b:Nat)(hl:l.length<100000000):∀(f i:Nat) (hp:Hp),i+f=l.length->hp.rd b 0=some (LI .u8 (pkt l i))->
 ∃hp',B142_3 (S k 1 (LI .u8 (ub l))) (.ms b 0 0 ((l.length+7)/8) 1) (.int .i64 (i:Int)) hp=some (S 0 1 (LI .u8 (pk l)),hp'):=by
 intro f
 induction f with
 |zero=>
  intro i hp h hb
  have e:i=l.length:=qe
  subst e
  have hlt:¬((l.length:Int)<(l.length:Int)):=qe
  have fz:=QT .u8 (pk l) hp b (by rw[zeu]at hb;exact hb)
  rw[zZ]at fz
  rw[qey]
  exact⟨hp.del b,by simp[fz]⟩
 |succ f ih=>
  intro i hp h hb
  have hi:i<l.length:=qe
  have hlt:(i:Int)<(l.length:Int):=qe
  have r8:=qgb i
  have q8:=qgd i qe
  have ix:idx ((l.length+7)/8) (.int .i64 ((i/8:Nat):Int))=some (i/8):=zp .i64 qe
  have gx:ql (LI .u8 (pkt l i)) (i/8)=some (.int .u8 (by8 (l.take i) (8*(i/8)):Nat)):=by
   have:(pkt l i)[i/8]?=some (by8 (l.take i) (8*(i/8)):Int):=by
    unfold pkt
    rw[zne,zpg qe]
    rfl
   unfold ql
   rw[qbn?,this]
   rfl
  have pn:=xp .u8 (pkt l i) (i/8) ((by8 (l.take i) (8*(i/8))+(l.getD i false).toNat*2^(7-i%8):Nat):Int) (by rw[zet];omega)
  rw[<-qzf l i hi]at pn
  have bit:∀h,(ub l)[i]'h=cond (l.getD i false) 1 0:=by
   intro h
   simp[ub,zmv,zm0 hi]
  have sh:∀t o o',qx Tryz.prog .shl t o o' (.int .u8 (cond (l.getD i false) 1 0)) (.int .i64 (7-((i%8:Nat):Int)))=some (.int .u8 (((l.getD i false).toNat*2^(7-i%8):Nat):Int)):=by
   intro t o o'
   have hc:i%8=0\/i%8=1\/i%8=2\/i%8=3\/i%8=4\/i%8=5\/i%8=6\/i%8=7:=qe
   rw[zW _ _ _ _ _ _ _ _ qe]
   rcases hc with h|h|h|h|h|h|h|h<;>rw[h]<;>cases l.getD i false<;>rfl
  have hsum:by8 (l.take i) (8*(i/8))+(l.getD i false).toNat*2^(7-i%8)<256:=by
   have:=qam l i hi (i/8)
   rw[if_pos rfl]at this
   rw[<-this];exact qox _ _
  have w0:IntKind.i64.wrap (7-((i%8:Nat):Int))=7-((i%8:Nat):Int):=qm qe qe
  have w1:IntKind.u8.wrap (((by8 (l.take i) (8*(i/8)):Nat):Int)+(((l.getD i false).toNat*2^(7-i%8):Nat):Int))=((by8 (l.take i) (8*(i/8))+(l.getD i false).toNat*2^(7-i%8):Nat):Int):=by
   rw[zy]<;>omega
  have w2:IntKind.i64.wrap ((i:Int)+1)=((i+1:Nat):Int):=qj
  obtain⟨hp',ih'⟩:=ih (i+1) (hp.put b 0 (LI .u8 (pkt l (i+1)))) qe (qp _ _ _)
  refine⟨hp',?_⟩
  rw[qey]
  generalize((by8 (l.take i) (8*(i/8))+(l.getD i false).toNat*2^(7-i%8):Nat):Int)=A at*
  generalize(((l.getD i false).toNat*2^(7-i%8):Nat):Int)=D at*
  generalize((by8 (l.take i) (8*(i/8)):Nat):Int)=E at*
  generalize(cond (l.getD i false) 1 0:Int)=c at*
  generalize((i%8:Nat):Int)=m8 at*
  generalize LI .u8 (pkt l (i+1))=L' at*
  generalize LI .u8 (pkt l i)=L at*
  generalize((i+1:Nat):Int)=i' at*
  generalize hQ:i/8=Q at*
  generalize(l.length+7)/8=T at*
  simp[hi,r8,q8,ix,hb,gx,bit,w0,sh,w1,pn,w2,ih',zq]
theorem XM(l:List Bool)(k:Nat)(hl:l.length<100000000)(hp:Hp):∃hp',run cxX 142 [S k 1 (LI .u8 (ub l))] hp=some (S 0 1 (LI .u8 (pk l)),hp'):=by
 have mk:yT 1 1 (((l.length+7)/8:Nat):Int) (((l.length+7)/8:Nat):Int)=some ():=Ji qe qe qh qh
 have z:=ZV .u8 ((l.length+7)/8)
 rw[<-qze]at z
 obtain⟨hp',h⟩:=qng l k hp.next hl l.length 0 (hp.new (LI .u8 (pkt l 0))) qe (qR _ _)
 have w1:IntKind.i64.wrap ((l.length:Int)+7)=((l.length+7:Nat):Int):=qj
 have q8:=qgd (l.length+7) qe
 refine⟨hp',?_⟩
 rw[E142]
 generalize LI .u8 (pkt l 0)=Z at*
 generalize((l.length+7:Nat):Int)=T1 at*
 generalize(l.length+7)/8=T at*
 simp[w1,q8,mk,z]
 simpa using h
theorem QS{l:List Nat}{i:Nat}{x:Nat}{r:List Nat}(h:l.drop i=x::r):l.getD i 0=x:=by
 rw[zmv,(qt h).1];rfl
theorem zio(l m:List Nat):nz (l++m)=nz l++nz m:=by simp[nz]
section
variable (l:List Nat)(k:Nat)(hl:l.length<=1024)(h64:∀x∈l,x<18446744073709551616)(hr:qM l)
include hl h64 hr
theorem qs1(hp:Hp):∀(r:List Nat) (i:Nat),(qw l).drop i=r->i+r.length=l.length->
 B139_3 (S k 1 (LI .u64 (nz l))) (S 2 1 (LI .u64 (nz ((qw l).take i)))) (.int .i64 (i:Int)) hp=some (S 2 1 (LI .u64 (nz (qw l))),hp):=by
 intro r
 induction r with
 |nil=>
  intro i h hil
  simp at hil
  have e:(qw l).take i=qw l:=znr qi
  have hlt:¬(i<l.length):=qe
  rw[qe1,e]
  simp[hlt]
 |cons g r ih=>
  intro i h hil
  obtain⟨e1,e2,hi,e3⟩:=qt h
  simp only[zmu]at hil
  have hi':i<l.length:=qe
  have et:(qw l).take (i+1)=(qw l).take i++[g]:=by rw[zo2,e1];rfl
  have w5:IntKind.i64.wrap ((i:Int)+1)=((i+1:Nat):Int):=qj
  have ap:=qkz .u64 (nz ((qw l).take i)) 2 (.inr rfl) 8 qh (g:Int) qi
  have en:nz ((qw l).take i)++[(g:Int)]=nz ((qw l).take (i+1)):=by rw[et,zio];rfl
  rw[en]at ap
  have i1:=ih (i+1) e2 qe
  have c4:B139_4 (S k 1 (LI .u64 (nz l))) (S 2 1 (LI .u64 (nz ((qw l).take (i+1))))) (.int .i64 (i:Int)) hp=some (S 2 1 (LI .u64 (nz (qw l))),hp):=by
   rw[qwt]
   generalize((i+1:Nat):Int)=J at*
   simp[w5,i1]
  have gg:=Xg l i hi'
  rw[e1]at gg
  injection gg with gg
  have ai:=xF .u64 l i hi'
  rw[qe1]
  by_cases h0:i=0
  ·subst h0
   rw[if_pos rfl]at gg
   have en2:∀h,(nz l)[0]'h=(l.getD 0 0:Nat):=fun h=>by simp[nz,zmv,hi']
   rw[gg]at ap
   generalize l.getD 0 0=v at*
   simp only[List.take_zero]at ap
   simp only[zm4,zpl]at c4 ap
   simp[hi',ai,zq,ap,c4,en2]
  ·rw[if_neg h0]at gg
   have aj:=xF .u64 l (i-1) qe
   have hlt:=vp l hr (i-1) qe
   have e:i-1+1=i:=qe
   rw[e]at hlt
   have hv:l.getD i 0<18446744073709551616:=by
    rw[zmv,zm0 hi']
    exact h64 _ (znb _)
   have w1:IntKind.i64.wrap ((i:Int)-1)=((i-1:Nat):Int):=qj
   have h0':¬((i:Int)=0):=qe
   have g0:(0:Int)<=((i-1:Nat):Int):=qe
   have en2:∀h,(nz l)[i]'h=(l.getD i 0:Nat):=fun h=>by simp[nz,zmv,hi']
   generalize l.getD i 0=u at*
   generalize l.getD (i-1) 0=v at*
   have w2:IntKind.u64.wrap ((u:Int)-(v:Int))=(u:Int)-(v:Int):=qu qe qe
   have w3:IntKind.u64.wrap ((u:Int)-(v:Int)-1)=(g:Int):=by rw[qu]<;>omega
   have aj':(LI .u64 (nz l))[(((i-1:Nat):Int)).toNat]?=some (.sc (.int .u64 (v:Int))):=by rw[zm3];exact aj
   generalize((i-1:Nat):Int)=j at*
   simp[hi',h0,ai,aj',zq,w1,g0,w2,w3,ap,c4,en2]
theorem qh7(hp:Hp):run cxX 139 [S k 1 (LI .u64 (nz l))] hp=some (S 2 1 (LI .u64 (nz (qw l))),hp):=by
 have h:=qs1 l k hl h64 hr hp (qw l) 0 rfl qg
 rw[E139]
 simpa[nz]using h
def rcG(k:Nat):List Nat->Nat->Bool->Nat×Bool
 |[],n,ok=>(n,ok)
 |g::r,n,ok=>if 4096<g/2^k then rcG k r (n+1+k) false else rcG k r (n+g/2^k+1+k) ok
omit hl h64 hr in
theorem zih(k:Nat):∀(r:List Nat) (n:Nat),(rcG k r n false).2=false:=by
 intro r
 induction r with
 |nil=>intro n;rfl
 |cons g r ih=>intro n;unfold rcG;split<;>exact ih _
omit hl h64 hr in
theorem zig(k:Nat):∀(r:List Nat) (n:Nat),(rcG k r n true).2=(xg k r n).2/\((xg k r n).2=true->(rcG k r n true).1=(xg k r n).1):=by
 intro r
 induction r with
 |nil=>intro n;exact⟨rfl,fun _=>rfl⟩
 |cons g r ih=>
  intro n
  unfold rcG xg
  by_cases h:4096<g/2^k
  ·rw[if_pos h,if_pos h]
   exact⟨zih k r _,fun c=>by cases c⟩
  ·rw[if_neg h,if_neg h]
   have:=ih (n+(g/2^k+1+k))
   have e:n+g/2^k+1+k=n+(g/2^k+1+k):=qe
   rw[e]
   exact this
omit hl h64 hr in
theorem qs3(gs:List Nat)(j:Nat)(hj:j<=63)(hg:gs.length<=1024)(v3 v4:Value)(hp:Hp):∀(r:List Nat) (i n:Nat) (ok:Bool),gs.drop i=r->i+r.length=gs.length->n+r.length*4160<4611686018427387904->
 B138_9 v3 v4 (S 2 1 (LI .u64 (nz gs))) (.int .i64 (j:Int)) (.int .i64 (n:Int)) (.bool ok) (.int .i64 (i:Int)) hp=
  B138_9 v3 v4 (S 2 1 (LI .u64 (nz gs))) (.int .i64 (j:Int)) (.int .i64 ((rcG j r n ok).1:Nat)) (.bool (rcG j r n ok).2) (.int .i64 (gs.length:Int)) hp:=by
 intro r
 induction r with
 |nil=>
  intro i n ok h hil hn
  simp at hil
  rw[hil];rfl
 |cons g r ih=>
  intro i n ok h hil hn
  obtain⟨e1,e2,hi,e3⟩:=qt h
  simp only[zmu]at hil hn
  have ai:=xF .u64 gs i hi
  rw[QS h]at ai
  have en:∀h,(nz gs)[i]'h=(g:Int):=fun h=>by simp[nz,e3]
  have sh:=fun t o o'=>yY .u64 g j (by show j<=64;omega) t o o' .i64
  have w5:IntKind.i64.wrap ((i:Int)+1)=((i+1:Nat):Int):=qj
  have step:∀(q:Nat) (b:Bool),q<=4096->B138_15 v3 v4 (S 2 1 (LI .u64 (nz gs))) (.int .i64 (j:Int)) (.int .i64 (n:Int)) (.bool b) (.int .i64 (i:Int)) (.int .u64 (q:Int)) hp=
   B138_9 v3 v4 (S 2 1 (LI .u64 (nz gs))) (.int .i64 (j:Int)) (.int .i64 ((n+q+1+j:Nat):Int)) (.bool b) (.int .i64 ((i+1:Nat):Int)) hp:=by
   intro q b hq
   have w1:IntKind.i64.wrap (q:Int)=(q:Int):=qm qe qe
   have w2:IntKind.i64.wrap ((n:Int)+(q:Int))=(n:Int)+(q:Int):=qm qe qe
   have w3:IntKind.i64.wrap ((n:Int)+(q:Int)+1)=(n:Int)+(q:Int)+1:=qm qe qe
   have w4:IntKind.i64.wrap ((n:Int)+(q:Int)+1+(j:Int))=((n+q+1+j:Nat):Int):=qj
   rw[qph]
   generalize((n+q+1+j:Nat):Int)=N at*
   generalize((i+1:Nat):Int)=I at*
   simp[w1,w2,w3,w4,w5]
  rw[qe2]
  unfold rcG
  generalize hq:g/2^j=q at*
  by_cases hc:4096<q
  ·have hgt:(4096:Int)<(q:Int):=qe
   have hs:=step 0 false qe
   have hi2:=ih (i+1) (n+1+j) false e2 qe qe
   rw[if_pos hc,<-hi2]
   simp only[zoi]at hs
   generalize((n+1+j:Nat):Int)=N at*
   generalize((i+1:Nat):Int)=I at*
   simp at hs
   simp[hi,ai,zq,sh,hgt,hs,en]
  ·have hgt:¬((4096:Int)<(q:Int)):=qe
   have hs:=step q ok qe
   have hi2:=ih (i+1) (n+q+1+j) ok e2 qe qe
   rw[if_neg hc,<-hi2]
   generalize((n+q+1+j:Nat):Int)=N at*
   generalize((i+1:Nat):Int)=I at*
   simp[hi,ai,zq,sh,hgt,hs,en]
omit h64 hr in
theorem qs0(hp:Hp):∀(f j b:Nat) (m:Int),j+f=64->b<=63->
 B138_4 (.int .i64 (b:Int)) (.int .i64 m) (S 2 1 (LI .u64 (nz (qw l)))) (.int .i64 (j:Int)) hp=some (.sc (.int .i64 (Vi (qw l) f j b m:Nat)),hp):=by
 intro f
 induction f with
 |zero=>
  intro j b m hj hb
  have hlt:¬((j:Int)<64):=qe
  rw[qe3]
  simp[hlt,Vi]
 |succ f ih=>
  intro j b m hj hb
  have hlt:(j:Int)<64:=qe
  have c:=qs3 (qw l) j qe qi (.int .i64 (b:Int)) (.int .i64 m) hp (qw l) 0 0 true rfl qg qi
  obtain⟨c1,c2⟩:=zig j (qw l) 0
  have w5:IntKind.i64.wrap ((j:Int)+1)=((j+1:Nat):Int):=qj
  have i1:=ih (j+1) j (xg j (qw l) 0).1 qe qe
  have i2:=ih (j+1) b m qe hb
  have c8:∀v3 v4,B138_5 v3 v4 (S 2 1 (LI .u64 (nz (qw l)))) (.int .i64 (j:Int)) hp=B138_4 v3 v4 (S 2 1 (LI .u64 (nz (qw l)))) (.int .i64 ((j+1:Nat):Int)) hp:=by
   intro v3 v4
   rw[qwu]
   generalize((j+1:Nat):Int)=J at*
   simp[w5]
  have gl:(qw l).length=l.length:=ko l
  rw[qe3]
  unfold Vi
  rw[c1]at c
  generalize(rcG j (qw l) 0 true).1=N at*
  generalize xg j (qw l) 0=C at*
  obtain⟨d1,d2⟩:=C
  simp only[zq5,zq6]at i1 i2 c8
  simp at c
  generalize qw l=G at*
  have hlt':j<64:=qe
  have e9:∀(M:Int),B138_9 (.int .i64 (b:Int)) (.int .i64 m) (S 2 1 (LI .u64 (nz G))) (.int .i64 (j:Int)) (.int .i64 M) (.bool d2) (.int .i64 (l.length:Int)) hp=
   cond d2 (cond (decide (m<0)||decide (M<m)) (B138_4 (.int .i64 (j:Int)) (.int .i64 M) (S 2 1 (LI .u64 (nz G))) (.int .i64 ((j:Int)+1)) hp) (B138_4 (.int .i64 (b:Int)) (.int .i64 m) (S 2 1 (LI .u64 (nz G))) (.int .i64 ((j:Int)+1)) hp)) (B138_4 (.int .i64 (b:Int)) (.int .i64 m) (S 2 1 (LI .u64 (nz G))) (.int .i64 ((j:Int)+1)) hp):=by
   intro M
   rw[qe2]
   cases d2
   ·simp[gl,c8]
   ·by_cases h1:m<0
    ·simp[gl,h1,qa9,c8]
    ·by_cases h2:M<m
     ·simp[gl,h1,h2,qa9,c8]
     ·simp[gl,h1,h2,c8]
  cases d2
  ·simp[hlt,c,e9,i2]
  ·have c2:N=d1:=c2 rfl
   subst c2
   by_cases h1:m<0
   ·simp[hlt,c,e9,h1,i1]
   ·by_cases h2:(N:Int)<m
    ·simp[hlt,c,e9,h1,h2,i1]
    ·simp[hlt,c,e9,h1,h2,i2]
theorem qye(hp:Hp):run cxX 138 [S k 1 (LI .u64 (nz l))] hp=some (.sc (.int .i64 (jd (qw l):Nat)),hp):=by
 have h:=qs0 l hl hp 64 0 63 (-1) rfl qe
 have g:=qh7 l (rk k) hl h64 hr hp0
 rw[E138]
 simp at h
 simp[g,h,jd]
omit hr in
theorem qsz(kk:Nat)(hkk:kk<=63)(hg:∀g∈qw l,g/2^kk<=4096)(hp:Hp):∀(r:List Nat) (i:Nat) (bs:List Bool),(qw l).drop i=r->i+r.length=l.length->bs.length+r.length*4160<90000000->
 B71_5 (S k 1 (LI .u64 (nz l))) (.int .i64 (kk:Int)) (S 2 1 (LI .u8 (ub bs))) (S 2 1 (LI .u64 (nz (qw l)))) (.int .i64 (i:Int)) hp=
  B71_5 (S k 1 (LI .u64 (nz l))) (.int .i64 (kk:Int)) (S 2 1 (LI .u8 (ub (bs++jb kk r)))) (S 2 1 (LI .u64 (nz (qw l)))) (.int .i64 (l.length:Int)) hp:=by
 intro r
 induction r with
 |nil=>
  intro i bs h hil hb
  simp at hil
  rw[hil,jb,znj]
 |cons g r ih=>
  intro i bs h hil hb
  obtain⟨e1,e2,hi,e3⟩:=qt h
  simp only[zmu]at hil hb
  have ai:=xF .u64 (qw l) i hi
  rw[QS h]at ai
  have en:∀h,(nz (qw l))[i]'h=(g:Int):=fun h=>by simp[nz,e3]
  have hgm:g∈qw l:=by rw[<-e3];exact znb _
  have hq:=hg g hgm
  have g64:=xu h64 g hgm
  have sh:=fun t o o'=>yY .u64 g kk (by show kk<=64;omega) t o o' .i64
  have w5:IntKind.i64.wrap ((i:Int)+1)=((i+1:Nat):Int):=qj
  have w1:IntKind.i64.wrap ((g/2^kk:Nat):Int)=((g/2^kk:Nat):Int):=qm (by have:=zre (g/2^kk);omega) qe
  have u1:=qb7 (g/2^kk) qe hp0
  obtain⟨hq1,u2⟩:=qia g kk g64 qe hp0
  have a1:=yG .u8 (ub bs) 2 (.inr rfl) 1 qh 2 (ub (una (g/2^kk))) qi
  have a2:=yG .u8 (ub (bs++una (g/2^kk))) 2 (.inr rfl) 1 qh 0 (ub (xW g kk)) qi
  rw[<-qfs]at a1 a2
  have i1:=ih (i+1) (bs++una (g/2^kk)++xW g kk) e2 qe qi
  have e:bs++jb kk (g::r)=bs++una (g/2^kk)++xW g kk++jb kk r:=by simp[jb]
  rw[e,<-i1,qlo]
  have hi':i<(qw l).length:=hi
  generalize((g/2^kk:Nat):Int)=q at*
  generalize((i+1:Nat):Int)=I at*
  generalize una (g/2^kk)=U at*
  generalize xW g kk=W at*
  generalize qw l=G at*
  simp only[qfs,znf]at a1 a2
  simp[hi',ai,zq,en,sh,w1,u1,a1,u2,a2,w5]
theorem qh6(hp:Hp):run cxX 71 [S k 1 (LI .u64 (nz l))] hp=some (S 2 1 (LI .u8 (zh l)),hp):=by
 obtain⟨k63,hq⟩:=QK (xu h64)
 have hbl:=Qc (jd (qw l)) k63 (qw l) hq
 rw[ko]at hbl
 have p:=qye l (rk k) hl h64 hr hp0
 have g:=qh7 l (rk k) hl h64 hr hp0
 have lp:=qsz l k hl h64 (jd (qw l)) k63 hq hp (qw l) 0 [] rfl qg qi
 obtain⟨hq1,by1⟩:=XM (jb (jd (qw l)) (qw l)) 3 qe hp0
 have u1:=jt l.length qe hp0
 have lb:(pk (jb (jd (qw l)) (qw l))).length<1000000:=by rw[zZ];omega
 have u2:=jt (pk (jb (jd (qw l)) (qw l))).length qe hp0
 have q1:=qE (n:=l.length) qe
 have q2:=qE (n:=(pk (jb (jd (qw l)) (qw l))).length) qe
 have w1:IntKind.u64.wrap (l.length:Int)=(l.length:Int):=qu qe qe
 have w2:IntKind.u8.wrap ((jd (qw l):Nat):Int)=((jd (qw l):Nat):Int):=zy qe qe
 have w3:IntKind.u64.wrap ((pk (jb (jd (qw l)) (qw l))).length:Int)=((pk (jb (jd (qw l)) (qw l))).length:Int):=qu qe qe
 have a1:=qkz .u8 (uv l.length) 2 (.inr rfl) 1 qh ((jd (qw l):Nat):Int) qe
 have a2:=yG .u8 (uv l.length++[((jd (qw l):Nat):Int)]) 2 (.inr rfl) 1 qh 2 (uv (pk (jb (jd (qw l)) (qw l))).length) (by simp only[zmt,zm5];omega)
 have a3:=yG .u8 (uv l.length++[((jd (qw l):Nat):Int)]++uv (pk (jb (jd (qw l)) (qw l))).length) 2 (.inr rfl) 1 qh 0 (pk (jb (jd (qw l)) (qw l))) (by simp only[zmt,zm5];omega)
 have gl:(qw l).length=l.length:=ko l
 rw[E71]
 unfold zh je
 simp only[znn]at lp
 have e0:ub []=[]:=rfl
 rw[e0]at lp
 simp at lp
 generalize jd (qw l)=pr at*
 generalize hX:jb pr (qw l)=X at*
 have e1:∀G:List Nat,G.length=l.length->B71_5 (S k 1 (LI .u64 (nz l))) (.int .i64 (pr:Int)) (S 2 1 (LI .u8 (ub X))) (S 2 1 (LI .u64 (nz G))) (.int .i64 (l.length:Int)) hp=some (S 2 1 (LI .u8 (uv l.length++[(pr:Int)]++uv (pk X).length++pk X)),hp):=by
  intro G hG
  clear lp hX hq
  rw[qlo]
  generalize hB:pk X=Bx at*
  generalize uv Bx.length=U2 at*
  generalize uv l.length=U1 at*
  simp only[znf,zol,znn]at a1 a2 a3⊢
  simp[hG,by1,w1,u1,w2,a1,w3,u2,a2,a3]
 rw[e1 _ gl]at lp
 simp[p,g,lp]
end
section
variable (l:List Nat)(k:Nat)(hl:l.length<=65536)(h32:∀x∈l,x<4294967296)(hr:zO l)
include hl h32
omit h32 in
theorem qy4(last:Nat)(hla:last<4294967296)(hp:Hp):∀(f j:Nat),j+f=33->j<=32->
 B73_6 (S k 1 (LI .u32 (nz l))) (.int .i64 (l.length:Int)) (.int .u32 (last:Int)) (.int .i64 (j:Int)) hp=
  B73_8 (S k 1 (LI .u32 (nz l))) (.int .i64 (l.length:Int)) (.int .u32 (last:Int)) (.int .i64 (Vj l.length last f j:Nat)) hp:=by
 intro f
 induction f with
 |zero=>intro j h h2;omega
 |succ f ih=>
  intro j h h2
  have w1:IntKind.i64.wrap (last:Int)=(last:Int):=qm qe qe
  have w2:IntKind.i64.wrap ((j:Int)+1)=((j+1:Nat):Int):=qj
  have q2:∀t o o',qx Tryz.prog .quo t o o' (.int .i64 (last:Int)) (.int .i64 2)=some (.int .i64 ((last/2:Nat):Int)):=by
   intro t o o'
   rw[yx _ _ _ _ _ _ _ qe,zn2 qe,qm qe qe]
   rfl
  have sh:=fun t o o'=>yY .i64 (last/2) j (by show j<=64;omega) t o o' .i64
  have e2:last/2/2^j=last/2^(j+1):=by rw[zo0,zoo,znz]
  rw[e2]at sh
  rw[zcn]
  unfold Vj
  by_cases h0:0<l.length
  ·have h0':(0:Int)<(l.length:Int):=qe
   by_cases h1:l.length<=last/2^(j+1)
   ·by_cases hk:j=32
    ·subst hk
     have:last/2^33=0:=zp1 (znc hla qh)
     have e:(32:Nat)+1=33:=rfl
     rw[e,this]at h1
     omega
    ·have hi:=ih (j+1) qe qe
     have h1':(l.length:Int)<=((last/2^(j+1):Nat):Int):=qe
     rw[if_pos ⟨h0,h1⟩]
     generalize((last/2^(j+1):Nat):Int)=q at*
     generalize((last/2:Nat):Int)=q1 at*
     generalize((j+1:Nat):Int)=k1 at*
     simp[h0,xx,w1,w2,sh,q2,h1',zcm,hi]
   ·have h1':¬((l.length:Int)<=((last/2^(j+1):Nat):Int)):=qe
    rw[if_neg (fun c=>h1 c.2)]
    generalize((last/2^(j+1):Nat):Int)=q at*
    generalize((last/2:Nat):Int)=q1 at*
    simp[h0,xx,w1,sh,q2,h1']
  ·rw[if_neg (fun c=>h0 c.1)]
   have h0':¬((0:Int)<(l.length:Int)):=qe
   simp only[iC,Qn,zmw,jJ,kI,zoy,gt_iff_lt,zpl,h0',decide_false,cond_false]
theorem qs2(kk:Nat)(hkk:kk<=32)(v4:Value)(hp:Hp):∀(r:List Nat) (i p:Nat) (b1 b2:List Bool),l.drop i=r->i+r.length=l.length->zO (p::r)->b1.length+r.length*32<90000000->b2.length+(qG kk (p/2^kk) r).length<90000000->(qG kk (p/2^kk) r).length<900000->
 ∃v,B73_11 (S k 1 (LI .u32 (nz l))) (.int .i64 (l.length:Int)) v4 (.int .i64 (kk:Int)) (S 2 1 (LI .u8 (ub b1))) (S 2 1 (LI .u8 (ub b2))) (.int .u32 ((p/2^kk:Nat):Int)) (.int .i64 (i:Int)) hp=
  B73_11 (S k 1 (LI .u32 (nz l))) (.int .i64 (l.length:Int)) v4 (.int .i64 (kk:Int)) (S 2 1 (LI .u8 (ub (b1++qN kk r)))) (S 2 1 (LI .u8 (ub (b2++qG kk (p/2^kk) r)))) v (.int .i64 (l.length:Int)) hp:=by
 intro r
 induction r with
 |nil=>
  intro i p b1 b2 h hil hpr hb1 hb2 hb3
  simp at hil
  exact⟨_,by rw[hil,qN,qG,znj,znj]⟩
 |cons x r ih=>
  intro i p b1 b2 h hil hpr hb1 hb2 hb3
  obtain⟨e1,e2,hi,e3⟩:=qt h
  simp only[zmu]at hil hb1
  have ai:=xF .u32 l i hi
  rw[QS h]at ai
  have en:∀h,(nz l)[i]'h=(x:Int):=fun h=>by simp[nz,e3]
  have hx:x<4294967296:=by rw[<-e3];exact h32 _ (znb _)
  have hd:p/2^kk<=x/2^kk:=zo9 hpr.1
  have hxq:x/2^kk<=x:=zo5 _ _
  have sh:=fun t o o'=>yY .u32 x kk (by show kk<=32;omega) t o o' .i64
  have hh:(qG kk (p/2^kk) (x::r)).length=(x/2^kk-p/2^kk)+1+(qG kk (x/2^kk) r).length:=by simp[qG]
  rw[hh]at hb2 hb3
  have w1':IntKind.u64.wrap (x:Int)=(x:Int):=qu qe qe
  have w2':IntKind.u32.wrap (((x/2^kk:Nat):Int)-((p/2^kk:Nat):Int))=((x/2^kk-p/2^kk:Nat):Int):=by rw[qJ]<;>omega
  have w3':IntKind.i64.wrap ((x/2^kk-p/2^kk:Nat):Int)=((x/2^kk-p/2^kk:Nat):Int):=qm qe qe
  have w5:IntKind.i64.wrap ((i:Int)+1)=((i+1:Nat):Int):=qj
  obtain⟨hq1,u2⟩:=qia x kk qe qe hp0
  have u1:=qb7 (x/2^kk-p/2^kk) qe hp0
  have a1:=yG .u8 (ub b1) 2 (.inr rfl) 1 qh 0 (ub (xW x kk)) qi
  have a2:=yG .u8 (ub b2) 2 (.inr rfl) 1 qh 2 (ub (una (x/2^kk-p/2^kk))) qi
  rw[<-qfs]at a1 a2
  obtain⟨v,i1⟩:=ih (i+1) x (b1++xW x kk) (b2++una (x/2^kk-p/2^kk)) e2 qe hpr.2 qi qi qe
  have q1:b1++qN kk (x::r)=b1++xW x kk++qN kk r:=by simp[qN]
  have q2:b2++qG kk (p/2^kk) (x::r)=b2++una (x/2^kk-p/2^kk)++qG kk (x/2^kk) r:=by simp[qG]
  refine⟨v,?_⟩
  rw[q1,q2,<-i1,qdt]
  generalize una (x/2^kk-p/2^kk)=U at*
  generalize((x/2^kk-p/2^kk:Nat):Int)=d at*
  generalize((p/2^kk:Nat):Int)=P at*
  generalize((x/2^kk:Nat):Int)=X at*
  generalize((i+1:Nat):Int)=I at*
  generalize xW x kk=W at*
  simp only[qfs]at a1 a2
  simp[hi,ai,zq,en,yw,xx,w1',u2,a1,sh,w2',w3',u1,a2,w5]
include hr
theorem qh8(hp:Hp):run cxX 73 [S k 1 (LI .u32 (nz l))] hp=some (S 2 1 (LI .u8 (zB l)),hp):=by
 have hla:qI l<4294967296:=by
  unfold qI
  by_cases h:l=[]
  ·rw[h];decide
  ·have:l.length-1<l.length:=by have:=zoe.mpr h;omega
   rw[zmv,zm0 this]
   exact h32 _ (znb _)
 have hk32:qA l<=32:=qqk _ _ hla
 have hh:=WM (qA l) l hr
 have h2:qI l/2^qA l<=2*l.length:=by
  by_cases h:l=[]
  ·subst h;exact Nat.le_of_eq (zqn _)
  ·exact zpy (ZG (zoe.mpr h) hla)
 obtain⟨v,lp⟩:=qs2 l k hl h32 (qA l) hk32 (.int .u32 (qI l:Int)) hp l 0 0 [] [] rfl qg (jE hr) qi qi qi
 have lw:=qy4 l k hl (qI l) hla hp 33 0 rfl qe
 have ef:Vj l.length (qI l) 33 0=qA l:=rfl
 rw[ef]at lw
 have lb:=Qe (qA l) l
 have lb2:l.length*qA l<=65536*32:=zno hl hk32
 obtain⟨hq1,by1⟩:=XM (qN (qA l) l) 3 qe hp0
 obtain⟨hq2,by2⟩:=XM (qG (qA l) 0 l) 3 qe hp0
 have l1:(pk (qN (qA l) l)).length<1000000:=by rw[zZ];omega
 have l2:(pk (qG (qA l) 0 l)).length<1000000:=by rw[zZ];omega
 have u1:=jt l.length qe hp0
 have u2:=jt (qI l) qe hp0
 have u3:=jt (pk (qG (qA l) 0 l)).length qe hp0
 have q1:=qE (n:=l.length) qe
 have q2:=qE (n:=qI l) qe
 have q3:=qE (n:=(pk (qG (qA l) 0 l)).length) qe
 have w1:IntKind.u64.wrap (l.length:Int)=(l.length:Int):=qu qe qe
 have w2:IntKind.u64.wrap ((qI l:Nat):Int)=((qI l:Nat):Int):=qu qe qe
 have w3:IntKind.u64.wrap ((pk (qG (qA l) 0 l)).length:Int)=((pk (qG (qA l) 0 l)).length:Int):=qu qe qe
 have h8:B73_5 (S k 1 (LI .u32 (nz l))) (.int .i64 (l.length:Int)) (.int .u32 (qI l:Int)) hp=some (S 2 1 (LI .u8 (zB l)),hp):=by
  rw[zco]
  simp at lw lp
  unfold zB
  have a1:=yG .u8 (uv l.length) 2 (.inr rfl) 1 qh 2 (uv (qI l)) qe
  have a2:=yG .u8 (uv l.length++uv (qI l)) 2 (.inr rfl) 1 qh 0 (pk (qN (qA l) l)) (by simp only[zmt];omega)
  have a3:=yG .u8 (uv l.length++uv (qI l)++pk (qN (qA l) l)) 2 (.inr rfl) 1 qh 2 (uv (pk (qG (qA l) 0 l)).length) (by simp only[zmt];omega)
  have a4:=yG .u8 (uv l.length++uv (qI l)++pk (qN (qA l) l)++uv (pk (qG (qA l) 0 l)).length) 2 (.inr rfl) 1 qh 0 (pk (qG (qA l) 0 l)) (by simp only[zmt];omega)
  generalize qA l=fk at*
  generalize qG fk 0 l=H at*
  generalize qN fk l=Lo at*
  generalize qI l=la at*
  have e1:B73_11 (S k 1 (LI .u32 (nz l))) (.int .i64 (l.length:Int)) (.int .u32 (la:Int)) (.int .i64 (fk:Int)) (S 2 1 (LI .u8 (ub Lo))) (S 2 1 (LI .u8 (ub H))) v (.int .i64 (l.length:Int)) hp=some (S 2 1 (LI .u8 (uv l.length++uv la++pk Lo++uv (pk H).length++pk H)),hp):=by
   rw[qdt]
   generalize pk Lo=PL at*
   generalize hB:pk H=PH at*
   generalize uv PH.length=U2 at*
   generalize uv l.length=U1 at*
   generalize uv la=U3 at*
   simp only[znf]at a1 a2 a3 a4⊢
   simp[yw,w1,u1,w2,u2,a1,by1,a2,by2,w3,u3,a3,a4]
  have e0:ub []=[]:=rfl
  rw[e1]at lp
  simp[lw,zcl]
  simpa[e0]using lp
 rw[E73]
 by_cases h:0<l.length
 ·have aj:=xF .u32 l (l.length-1) qe
  have el:l.getD (l.length-1) 0=qI l:=rfl
  have w9:IntKind.i64.wrap ((l.length:Int)-1)=((l.length-1:Nat):Int):=qj
  have h':(0:Int)<(l.length:Int):=qe
  rw[el]at aj
  have aj':(nz l)[(((l.length-1:Nat):Int)).toNat]?=some (qI l:Int):=by rw[zm3];simpa[LI]using aj
  have g0:(0:Int)<=((l.length-1:Nat):Int):=qe
  generalize((l.length-1:Nat):Int)=j at*
  generalize qI l=la at*
  simp[h,w9,aj',g0,zq,h8]
 ·have e:l=[]:=zm9.mp qe
  subst e
  have e:qI []=0:=rfl
  rw[e]at h8
  simpa using h8
end
theorem zbx(L:List Int)(j:Nat)(v:Int)(hj:j<L.length):qO (L.set j v)+(L.getD j 0).toNat*256^(L.length-1-j)=qO L+v.toNat*256^(L.length-1-j):=by
 have e:L=L.take j++([L.getD j 0]++L.drop (j+1)):=by
  rw[zmv,zm0 hj,Option.getD_some,List.singleton_append,<-List.drop_eq_getElem_cons hj,zqz]
 have e2:L.set j v=L.take j++([v]++L.drop (j+1)):=by
  rw[List.set_eq_take_append_cons_drop,if_pos hj];rfl
 have one:∀z:Int,qO [z]=z.toNat:=fun z=>by simp[qO]
 have ld:(L.drop (j+1)).length=L.length-1-j:=by rw[zor];omega
 have b1:qO L=qO (L.take j++([L.getD j 0]++L.drop (j+1))):=by rw[<-e]
 rw[e2,b1,kq,kq,kq,kq,one,one,ld]
 simp only[zmt,zm5,ld]
 omega
theorem qrf:∀(a b:List Int),(∀x∈a,0<=x/\x<256)->(∀x∈b,0<=x/\x<256)->a.length=b.length->qO a=qO b->a=b
 |[],[],_,_,_,_=>rfl
 |[],_::_,_,_,h,_=>by cases h
 |_::_,[],_,_,h,_=>by cases h
 |x::a,y::b,ha,hb,hl,h=>by
  have hl':a.length=b.length:=by simpa using hl
  have one:∀z:Int,qO [z]=z.toNat:=fun z=>by simp[qO]
  have s1:qO (x::a)=x.toNat*256^a.length+qO a:=by rw[<-one,<-kq];rfl
  have s2:qO (y::b)=y.toNat*256^a.length+qO b:=by rw[<-one,hl',<-kq];rfl
  have l1:=VG a fun z hz=>ha z (by simp[hz])
  have l2:=VG b fun z hz=>hb z (by simp[hz])
  rw[<-hl']at l2
  rw[s1,s2]at h
  generalize 256^a.length=P at*
  have hq:x.toNat=y.toNat:=by
   have d1:(x.toNat*P+qO a)/P=x.toNat:=by rw[znz,Nat.mul_add_div qe,zp1 l1];omega
   have d2:(y.toNat*P+qO b)/P=y.toNat:=by rw[znz,Nat.mul_add_div qe,zp1 l2];omega
   rw[<-d1,<-d2,h]
  have hx:=ha x qg;have hy:=hb y qg
  have hxy:x=y:=qe
  rw[hq]at h
  have ih:=qrf a b (fun z hz=>ha z (by simp[hz])) (fun z hz=>hb z (by simp[hz])) hl' qe
  rw[hxy,ih]
def MR(hp:Hp)(b:Nat)(cs:List Nat):Prop:=b<hp.next/\hp.rd b 0=some (LI .i64 (nz cs))
theorem MR.fr{hp hp':Hp}{b:Nat}{cs:List Nat}{X:List Nat}(h:MR hp b cs)(f:Fm X hp hp')(h1:b∉X):MR hp' b cs:=
 ⟨znc h.1 f.1,by rw[f.rd h.1 h1];exact h.2⟩
theorem gC0(x:AV)(l:List AV):qs (x::l) 0=some x:=rfl
theorem gN1(x:AV):qr [x] 0 1=some [x]:=rfl
theorem pN1(x y:AV):qo [x] 0 [y]=some [y]:=rfl
theorem qnv:∀(f i b:Nat) (hp:Hp),i+f=64->1<=i->MR hp b (List.replicate i 1)->
 ∃hp' b',B143_3 (.int .i64 64) (.int .i64 (i:Int)) [S 2 1 []] [.ms b 0 0 i 1] hp=some (.agg [.ms b' 0 0 64 1],hp')/\MR hp' b' cs0:=by
 intro f
 induction f with
 |zero=>
  intro i b hp h h1 hm
  have e:i=64:=qe
  subst e
  refine⟨hp,b,?_,hm⟩
  rw[KC]
  simp[gN1,pN1]
 |succ f ih=>
  intro i b hp h h1 hm
  have hlt:(i:Int)<64:=qe
  have w1:IntKind.i64.wrap ((i:Int)+1)=((i+1:Nat):Int):=qj
  have hl:(nz (List.replicate i 1)).length=i:=qg
  have ap:=ZR .i64 (nz (List.replicate i 1)) 1 8 b qh (by rw[hl];omega) (by intro e;rw[e]at hl;simp at hl;omega) hp hm.2
  rw[hl]at ap
  have e1:nz (List.replicate i 1)++[1]=nz (List.replicate (i+1) 1):=by rw[zo8,yO];rfl
  rw[e1]at ap
  obtain⟨hp',b',a1,a2⟩:=ih (i+1) hp.next ((hp.del b).new (LI .i64 (nz (List.replicate (i+1) 1)))) qe qe ⟨by simp[Hp.del],qR (hp.del b) _⟩
  refine⟨hp',b',?_,a2⟩
  rw[KC]
  generalize nz (List.replicate (i+1) 1)=L at*
  generalize((i+1:Nat):Int)=I at*
  simp[hlt,gC0,ap,pN1,w1,a1]
theorem qsa(hp:Hp):∃hp' b,run cxX 143 [.sc (.int .i64 64)] hp=some (.agg [.ms b 0 0 64 1],hp')/\MR hp' b cs0:=by
 have ap:=QY .i64 1 8 qh hp
 obtain⟨hp',b',a1,a2⟩:=qnv 63 1 hp.next (hp.new (LI .i64 [1])) rfl qe ⟨qg,qR _ _⟩
 refine⟨hp',b',?_,a2⟩
 rw[E143]
 have h3:B143_3 (.int .i64 64) (.int .i64 0) [S 2 1 []] [S 2 1 []] hp=some (.agg [.ms b' 0 0 64 1],hp'):=by
  rw[KC]
  generalize LI .i64 [1]=L at*
  simp[gC0,ap,pN1]
  simpa using a1
 simp[h3]
section
variable (hp:Hp)(b:Nat)(cs:List Nat)(h:MR hp b cs)(hl:cs.length=64)(hs:cs.sum<=1000000)
include h hl hs
theorem qnw:∀(f i:Nat),i+f=64->
 B144_3 (.int .i64 ((cs.take i).sum:Nat)) (.int .i64 (i:Int)) [.ms b 0 0 64 1] hp=some (.sc (.int .i64 (cs.sum:Nat)),hp):=by
 intro f
 induction f with
 |zero=>
  intro i e
  have e:i=64:=qe
  subst e
  have et:cs.take 64=cs:=by rw[<-hl,zo6]
  rw[qex,et]
  simp[gC0]
 |succ f ih=>
  intro i e
  have hn:=ih (i+1) qe
  have ix:idx 64 (.int .i64 (i:Int))=some i:=zp .i64 qe
  have g:=jN .i64 (nz cs) i qi
  rw[yP cs i qe]at g
  have st:=qP cs i qe
  have sl:=qQ cs (i+1)
  have w1:IntKind.i64.wrap ((((cs.take i).sum:Nat):Int)+((cs.getD i 0:Nat):Int))=(((cs.take (i+1)).sum:Nat):Int):=qj
  have w2:IntKind.i64.wrap ((i:Int)+1)=((i+1:Nat):Int):=qj
  have hlt:(i:Int)<64:=qe
  rw[<-hn,qex]
  have h2:=h.2
  generalize(((cs.take i).sum:Nat):Int)=A at*
  generalize(((cs.take (i+1)).sum:Nat):Int)=A1 at*
  generalize((cs.getD i 0:Nat):Int)=B at*
  generalize((i+1:Nat):Int)=I at*
  have hlt':i<64:=qe
  simp[gC0,hlt',ix,h2,g,w1,w2]
theorem qca:run cxX 144 [.agg [.ms b 0 0 64 1]] hp=some (.sc (.int .i64 (cs.sum:Nat)),hp):=by
 have lp:=qnw hp b cs h hl hs 64 0 rfl
 rw[E144]
 simp at lp
 simp[lp]
theorem qgs(x:Nat)(hx:x<64):∀(f i:Nat),i+f=x->
 B146_3 (.int .i64 (x:Int)) (.int .i64 ((cs.take i).sum:Nat)) (.int .i64 (i:Int)) [.ms b 0 0 64 1] hp=some (.sc (.int .i64 ((cs.take x).sum:Nat)),hp):=by
 intro f
 induction f with
 |zero=>
  intro i e
  have e:i=x:=qe
  subst e
  rw[qeu]
  simp
 |succ f ih=>
  intro i e
  have hn:=ih (i+1) qe
  have ix:idx 64 (.int .i64 (i:Int))=some i:=zp .i64 qe
  have g:=jN .i64 (nz cs) i qi
  rw[yP cs i qe]at g
  have st:=qP cs i qe
  have sl:=qQ cs (i+1)
  have w1:IntKind.i64.wrap ((((cs.take i).sum:Nat):Int)+((cs.getD i 0:Nat):Int))=(((cs.take (i+1)).sum:Nat):Int):=qj
  have w2:IntKind.i64.wrap ((i:Int)+1)=((i+1:Nat):Int):=qj
  have hlt:(i:Int)<(x:Int):=qe
  rw[<-hn,qeu]
  have h2:=h.2
  generalize(((cs.take i).sum:Nat):Int)=A at*
  generalize(((cs.take (i+1)).sum:Nat):Int)=A1 at*
  generalize((cs.getD i 0:Nat):Int)=B at*
  generalize((i+1:Nat):Int)=I at*
  simp[gC0,hlt,ix,h2,g,w1,w2]
theorem qie(x:Nat)(hx:x<64):run cxX 146 [.agg [.ms b 0 0 64 1],.sc (.int .i64 (x:Int))] hp=some (.sc (.int .i64 ((cs.take x).sum:Nat)),hp):=by
 have lp:=qgs hp b cs h hl hs x hx x 0 qe
 rw[E146]
 simp at lp
 simp[lp]
end
theorem qnu(d:List Nat)(hd:d.length=64)(hs:d.sum<=1000000)(b:Nat):∀(f i:Nat) (hp:Hp),i+f=64->b<hp.next->hp.rd b 0=some (LI .i64 (nz (hf d i)))->
 ∃hp',B147_5 (.int .i64 (i:Int)) [S 2 1 []] [.ms b 0 0 64 1] hp=some (.agg [.ms b 0 0 64 1],hp')/\MR hp' b (d.map fun n=>(n+1)/2)/\hp'.next=hp.next/\∀c,c≠b->hp'.get c=hp.get c:=by
 intro f
 induction f with
 |zero=>
  intro i hp hi h1 h2
  have e:i=64:=qe
  subst e
  have ef:hf d 64=d.map fun n=>(n+1)/2:=by rw[<-hd,zax]
  rw[ef]at h2
  refine⟨hp,?_,⟨h1,h2⟩,rfl,fun _ _=>rfl⟩
  rw[qet]
  simp[gC0,qes,gN1,pN1]
 |succ f ih=>
  intro i hp hi h1 h2
  have hid:i<d.length:=qe
  have hlt:(i:Int)<64:=qe
  have ix:idx 64 (.int .i64 (i:Int))=some i:=zp .i64 qe
  have g:=jN .i64 (nz (hf d i)) i qi
  rw[yP _ i qi,zaw d i hid]at g
  have hx:d.getD i 0<=1000000:=by
   have:=qP d i hid
   have:=qQ d (i+1)
   omega
  have p:=xp .i64 (nz (hf d i)) i (((d.getD i 0+1)/2:Nat):Int) qi
  have es:(nz (hf d i)).set i (((d.getD i 0+1)/2:Nat):Int)=nz (hf d (i+1)):=by
   rw[qg4 d i hid];unfold nz;rw[zrj]
  rw[es]at p
  have w1:IntKind.i64.wrap (((d.getD i 0:Nat):Int)+1)=((d.getD i 0+1:Nat):Int):=qj
  have q2:∀t o o',qx Tryz.prog .quo t o o' (.int .i64 ((d.getD i 0+1:Nat):Int)) (.int .i64 2)=some (.int .i64 (((d.getD i 0+1)/2:Nat):Int)):=by
   intro t o o'
   rw[yx _ _ _ _ _ _ _ qe,zn2 qe,qm qe qe]
   rfl
  have w4:IntKind.i64.wrap ((i:Int)+1)=((i+1:Nat):Int):=qj
  obtain⟨hp2,a1,a2,a3,a4⟩:=ih (i+1) (hp.put b 0 (LI .i64 (nz (hf d (i+1))))) qe h1 (qp _ _ _)
  refine⟨hp2,?_,a2,by rw[a3];rfl,fun c c1=>by rw[a4 c c1];simp[Hp.put,c1]⟩
  rw[<-a1,qet]
  generalize nz (hf d (i+1))=L1 at*
  generalize nz (hf d i)=L0 at*
  generalize(((d.getD i 0+1)/2:Nat):Int)=y2 at*
  generalize((d.getD i 0+1:Nat):Int)=y1 at*
  generalize((d.getD i 0:Nat):Int)=y0 at*
  generalize((i+1:Nat):Int)=I at*
  have hlt':i<64:=qe
  simp[gC0,hlt',ix,h2,g,w1,q2,p,w4]
theorem quz(K:IntKind)(l:List Int)(b:Nat)(hb:0<b/\b<=1000)(x:Nat)(hl:l.length<=1000000)(hne:l≠[])(hp:Hp)(hx:hp.rd x 0=some (LI K l)):
 jX b 1 (S 1 1 []) (.ms x 0 0 l.length 1) hp=some (.ms hp.next 0 0 l.length 1,hp.new (LI K l)):=by
 have e:=Yz K l hp x 0 l.length hx qe
 rw[zou,zo6,<-JP hp 1 1 (LI K l)]at e
 have h:=vS K l 1 b hb hl hne hp
 unfold jX at h⊢
 rw[e]
 exact h
theorem qr9(hp:Hp)(b x:Nat)(cs:List Nat)(h:MR hp b cs)(hm:okM cs)(hx:x<64):
 ∃hp' b',run cxX 147 [.agg [.ms b 0 0 64 1],.sc (.int .i64 (x:Int))] hp=some (.agg [.ms b' 0 0 64 1],hp')/\MR hp' b' (Yu cs x)/\hp.next<=b'/\Fm [] hp hp':=by
 obtain⟨m1,m2,m3⟩:=hm
 have hnl:(nz cs).length=64:=by simp[m1]
 have ap:=quz .i64 (nz cs) 8 qh b qe (by intro e;rw[e]at hnl;cases hnl) hp h.2
 rw[hnl]at ap
 have ix:idx 64 (.int .i64 (x:Int))=some x:=zp .i64 qe
 have g:=jN .i64 (nz cs) x qi
 rw[yP cs x qe]at g
 have st:=qP cs x qe
 have sl:=qQ cs (x+1)
 have ss:=qfw cs x (cs.getD x 0+24) qe
 have w1:IntKind.i64.wrap (((cs.getD x 0:Nat):Int)+24)=((cs.getD x 0+24:Nat):Int):=qj
 have p:=xp .i64 (nz cs) x ((cs.getD x 0+24:Nat):Int) qi
 have es:(nz cs).set x ((cs.getD x 0+24:Nat):Int)=nz (cs.set x (cs.getD x 0+24)):=by unfold nz;rw[zrj]
 rw[es]at p
 have dl:(cs.set x (cs.getD x 0+24)).length=64:=by simp[m1]
 have rn:=qR hp (LI .i64 (nz cs))
 have f0:Fm [] hp ((hp.new (LI .i64 (nz cs))).put hp.next 0 (LI .i64 (nz (cs.set x (cs.getD x 0+24))))):=by
  refine⟨Nat.le_succ _,fun c hc _=>?_⟩
  have:c≠hp.next:=qe
  simp[Hp.put,Hp.new,this]
 have rm:MR ((hp.new (LI .i64 (nz cs))).put hp.next 0 (LI .i64 (nz (cs.set x (cs.getD x 0+24))))) hp.next (cs.set x (cs.getD x 0+24)):=⟨zqd _,qp _ _ _⟩
 have al:=qca _ hp.next (cs.set x (cs.getD x 0+24)) rm dl qe
 unfold Yu
 generalize hd:cs.set x (cs.getD x 0+24)=d at*
 generalize hq:(hp.new (LI .i64 (nz cs))).put hp.next 0 (LI .i64 (nz d))=hq1 at*
 by_cases hle:d.sum<=4096
 ·rw[if_pos hle]
  refine⟨hq1,hp.next,?_,rm,zmx _,f0⟩
  have hle':¬((4096:Int)<((d.sum:Nat):Int)):=qe
  rw[E147]
  generalize((d.sum:Nat):Int)=D at*
  generalize((cs.getD x 0+24:Nat):Int)=y1 at*
  generalize((cs.getD x 0:Nat):Int)=y0 at*
  simp[gC0,ap,pN1,ix,rn,g,w1,p,hq,gN1,al,hle',qes]
 ·rw[if_neg hle]
  have e0:hf d 0=d:=by unfold hf;simp
  obtain⟨hp2,a1,a2,a3,a4⟩:=qnu d dl qe hp.next 64 0 hq1 rfl rm.1 (by rw[e0];exact rm.2)
  refine⟨hp2,hp.next,?_,a2,zmx _,by rw[a3];exact f0.1,fun c hc hn=>by rw[a4 c qe,f0.2 c hc hn]⟩
  have hle':(4096:Int)<((d.sum:Nat):Int):=qe
  rw[E147]
  generalize((d.sum:Nat):Int)=D at*
  generalize((cs.getD x 0+24:Nat):Int)=y1 at*
  generalize((cs.getD x 0:Nat):Int)=y0 at*
  simp at a1
  simp[gC0,ap,pN1,ix,rn,g,w1,p,hq,gN1,al,hle',a1]
def LR(hp:Hp)(b:Nat)(L:List Int):Prop:=b<hp.next/\hp.rd b 0=some (LI .u8 L)/\∀x∈L,0<=x/\x<256
theorem qs6(b n T:Nat)(hn:n<=1000000)(hT:T<256^n):∀(i c:Nat) (L:List Int) (hp:Hp),L.length=n->i<=n->c<18446744073709551616->LR hp b L->qO L+c*256^(n-i)=T->
 ∃hp' L',B145_3 (.ms b 0 0 n 1) (.int .u64 (c:Int)) (.int .i64 ((i:Int)-1)) hp=some (.ms b 0 0 n 1,hp')/\LR hp' b L'/\L'.length=n/\qO L'=T/\hp'.next=hp.next/\∀z,z≠b->hp'.get z=hp.get z:=by
 intro i
 induction i with
 |zero=>
  intro c L hp hl hi hc hL hb
  have c0:c=0:=by
   rcases zpw c with e|e
   ·exact e
   ·have:1*256^(n-0)<=c*256^(n-0):=zng _ e
    rw[zri]at this hb
    omega
  subst c0
  refine⟨hp,L,?_,hL,hl,by simpa using hb,rfl,fun _ _=>rfl⟩
  rw[qew]
  simp[qev]
 |succ i ih=>
  intro c L hp hl hi hc hL hb
  have e1:((i+1:Nat):Int)-1=(i:Int):=qe
  rw[qew,e1]
  by_cases hc0:0<c
  ·obtain⟨L1,L2,L3⟩:=hL
   have hi':i<L.length:=qe
   have ix:idx n (.int .i64 (i:Int))=some i:=zp .i64 qe
   have g:=jN .u8 L i qe
   have hx:0<=L.getD i 0/\L.getD i 0<256:=by
    rw[zmv,zm0 hi']
    exact L3 _ (znb _)
   obtain⟨y,hy⟩:∃y:Nat,L.getD i 0=(y:Int):=⟨(L.getD i 0).toNat,qe⟩
   rw[hy]at g hx
   have r1:=Vq c 256 qh
   have r2:=Vq (y+c%256) 256 qh
   have q1:=YR c 256 qh hc
   have q2:=YR (y+c%256) 256 qh qe
   have w0:IntKind.u64.wrap (y:Int)=(y:Int):=qu qe qe
   have w1:IntKind.u64.wrap ((y:Int)+((c%256:Nat):Int))=((y+c%256:Nat):Int):=by rw[qu]<;>omega
   have w2:IntKind.u8.wrap (((y+c%256)%256:Nat):Int)=(((y+c%256)%256:Nat):Int):=zy qe qe
   have w3:IntKind.u64.wrap (((c/256:Nat):Int)+(((y+c%256)/256:Nat):Int))=((c/256+(y+c%256)/256:Nat):Int):=by rw[qu]<;>omega
   have w4:IntKind.i64.wrap ((i:Int)-1)=(i:Int)-1:=qm qe qe
   have p:=xp .u8 L i (((y+c%256)%256:Nat):Int) qe
   have bs:=zbx L i (((y+c%256)%256:Nat):Int) hi'
   rw[hy,zm3,zm3,hl]at bs
   have en:n-1-i=n-(i+1):=qe
   have en2:n-i=n-(i+1)+1:=qe
   have hb':qO (L.set i (((y+c%256)%256:Nat):Int))+(c/256+(y+c%256)/256)*256^(n-i)=T:=by
    rw[en]at bs
    rw[en2,zoo]
    have k1:c=c/256*256+c%256:=qe
    have k2:y+c%256=(y+c%256)/256*256+(y+c%256)%256:=qe
    generalize 256^(n-(i+1))=P at*
    generalize(y+c%256)/256=u at*
    generalize(y+c%256)%256=v at*
    generalize c/256=c1 at*
    generalize c%256=c2 at*
    have e3:(c1+u)*(P*256)=c1*256*P+u*256*P:=by rw[znz P 256,<-Nat.mul_assoc,zpi,zpi]
    have e4:y*P+c2*P=u*256*P+v*P:=by rw[<-Nat.add_mul,<-Nat.add_mul,k2]
    have e5:c*P=c1*256*P+c2*P:=by rw[<-Nat.add_mul,<-k1]
    omega
   have hL':LR (hp.put b 0 (LI .u8 (L.set i (((y+c%256)%256:Nat):Int)))) b (L.set i (((y+c%256)%256:Nat):Int)):=by
    refine⟨L1,qp _ _ _,fun x hx'=>?_⟩
    rcases zpm hx' with h|h
    ·exact L3 x h
    ·rw[h];omega
   obtain⟨hp',L',a1,a2,a3,a4,a5,a6⟩:=ih (c/256+(y+c%256)/256) _ _ (by simp[hl]) qe qe hL' hb'
   refine⟨hp',L',?_,a2,a3,a4,by rw[a5];rfl,fun z hz=>by rw[a6 z hz];simp[Hp.put,hz]⟩
   rw[<-a1]
   have hc0':(0:Int)<(c:Int):=qe
   simp only[zpl]at r1 r2 q1 q2
   have h5:B145_5 (.ms b 0 0 n 1) (.int .u64 (c:Int)) (.int .i64 (i:Int)) hp=B145_3 (.ms b 0 0 n 1) (.int .u64 ((c/256+(y+c%256)/256:Nat):Int)) (.int .i64 ((i:Int)-1)) (hp.put b 0 (LI .u8 (L.set i (((y+c%256)%256:Nat):Int)))):=by
    rw[qwq]
    clear a1 hL' hb' bs ih
    generalize((c/256+(y+c%256)/256:Nat):Int)=C3 at*
    generalize(((y+c%256)%256:Nat):Int)=v at*
    generalize(((y+c%256)/256:Nat):Int)=u at*
    generalize((y+c%256:Nat):Int)=s at*
    generalize((c/256:Nat):Int)=c1 at*
    generalize((c%256:Nat):Int)=c2 at*
    simp[ix,L2,g,w0,r1,w1,r2,w2,p,q1,q2,w3,w4]
   clear a1 hL' hb' bs ih p w2 w3 a5 a6
   generalize((c/256+(y+c%256)/256:Nat):Int)=C3 at*
   generalize(((y+c%256)%256:Nat):Int)=v at*
   simp[hc0,h5]
  ·have c0:c=0:=qe
   subst c0
   refine⟨hp,L,?_,hL,hl,by simpa using hb,rfl,fun _ _=>rfl⟩
   simp[qev]
theorem qr8(b c:Nat)(L:List Int)(hp:Hp)(hl:L.length<=1000000)(hc:c<18446744073709551616)(hL:LR hp b L)(hT:qO L+c<256^L.length):
 ∃hp' L',run cxX 145 [.ms b 0 0 L.length 1,.sc (.int .u64 (c:Int))] hp=some (.ms b 0 0 L.length 1,hp')/\LR hp' b L'/\L'.length=L.length/\qO L'=qO L+c/\hp'.next=hp.next/\∀z,z≠b->hp'.get z=hp.get z:=by
 obtain⟨hp',L',a1,a2⟩:=qs6 b L.length (qO L+c) hl hT L.length c L hp rfl (zmx _) hc hL qg
 refine⟨hp',L',?_,a2⟩
 have w1:IntKind.i64.wrap ((L.length:Int)-1)=(L.length:Int)-1:=qm qe qe
 rw[E145]
 simp[w1,a1]
theorem LR.fr{hp hp':Hp}{b:Nat}{L:List Int}{X:List Nat}(h:LR hp b L)(f:Fm X hp hp')(h1:b∉X):LR hp' b L:=
 ⟨znc h.1 f.1,by rw[f.rd h.1 h1];exact h.2.1,h.2.2⟩
structure CQ (hp : Hp) (lo mb : Nat) (L : List Int) (cs : List Nat) (s : En) : Prop where
 lr:LR hp lo L
 mr:MR hp mb cs
 ne:lo≠mb
 v:qO L=eV s
 k:L.length=eK s+4
 up:eV s+s.width<=256^L.length
theorem qun(X:AV)(v8 v9:Value)(b5:List AV)(w:Int)(hp:Hp)(hw:w<16777216)(W:Int)(w1:IntKind.u64.wrap (w*256)=W)(lo n:Nat)(Y:AV)(hp':Hp)(ap:jX 1 1 (.ms lo 0 0 n 1) (S 1 1 [.sc (.int .u8 0)]) hp=some (Y,hp')):
 B72_11 X (.ms lo 0 0 n 1) (.int .u64 w) v8 v9 b5 hp=B72_11 X Y (.int .u64 W) v8 v9 b5 hp':=by
 rw[qdu]
 simp[hw,w1,ap]
theorem qup(X x6:AV)(i:Int)(v9:Value)(w:Int)(hp:Hp)(hw:¬(w<16777216))(i':Int)(w1:IntKind.i64.wrap (i+1)=i')(mb mb':Nat)(hp':Hp)(d1:run cxX 147 [.agg [.ms mb 0 0 64 1],.sc v9] hp=some (.agg [.ms mb' 0 0 64 1],hp')):
 B72_11 X x6 (.int .u64 w) (.int .i64 i) v9 [.ms mb 0 0 64 1] hp=B72_5 X x6 (.int .u64 w) (.int .i64 i') [.ms mb' 0 0 64 1] hp':=by
 rw[qdu]
 simp[hw,gN1,pN1,d1,w1]
theorem qul(k mb:Nat)(X:AV)(v8 v9:Value)(cs:List Nat):∀(f:Nat) (s:En) (lo:Nat) (L:List Int) (hp:Hp),CQ hp lo mb L cs s->Zy s s.width->s.width<=4294967296->L.length+f<=900000->
 ∃hp' lo' L',B72_11 X (.ms lo 0 0 L.length 1) (.int .u64 (s.width:Int)) v8 v9 [.ms mb 0 0 64 1] hp=B72_11 X (.ms lo' 0 0 L'.length 1) (.int .u64 ((zE f s).width:Nat)) v8 v9 [.ms mb 0 0 64 1] hp'/\
  CQ hp' lo' mb L' cs (zE f s)/\L'.length<=L.length+f:=by
 intro f
 induction f with
 |zero=>intro s lo L hp h ho hw hl;exact⟨hp,lo,L,rfl,h,zmx _⟩
 |succ f ih=>
  intro s lo L hp h ho hw hl
  unfold zE
  by_cases hlt:s.width<16777216
  ·rw[if_pos hlt]
   have ho':Zy (XF s (s.width*256)) s.width:=ho
   obtain⟨a1,a2,a3,a4⟩:=YD (XF s (s.width*256)) s.width ho' qe
   have a4:(sh (XF s (s.width*256))).width=s.width*256:=a4
   rw[(Kg s _).1]at a2
   rw[(Kg s _).2]at a3
   have hne:L≠[]:=by intro e;have:=h.k;rw[e]at this;simp at this
   have ap:=ZR .u8 L 0 1 lo qh qe hne hp h.lr.2.1
   have fm:Fm [lo] hp ((hp.del lo).new (LI .u8 (L++[0]))):=Fm.delNew hp lo _ qg
   have cq:CQ ((hp.del lo).new (LI .u8 (L++[0]))) hp.next mb (L++[0]) cs (sh (XF s (s.width*256))):=by
    refine⟨⟨by simp[Hp.del],qR (hp.del lo) _,fun x hx=>?_⟩,h.mr.fr fm (by simp;exact fun e=>h.ne e.symm),by have:=h.mr.1;omega,?_,?_,?_⟩
    ·rcases zn3.mp hx with q|q
     ·exact h.lr.2.2 x q
     ·simp at q;omega
    ·have e0:(0:Int).toNat=0:=rfl
     rw[yh,h.v,a2,e0,zoi]
    ·have q:=h.k
     rw[a3,zmt,zm5];omega
    ·rw[a2,a4,zmt,zm5,zoo,<-Nat.add_mul]
     exact zng _ h.up
   obtain⟨hp',lo',L',b1,b2,b3⟩:=ih (sh (XF s (s.width*256))) hp.next (L++[0]) _ cq (by rw[a4];exact a1) (by rw[a4];omega) qi
   refine⟨hp',lo',L',?_,b2,by simp at b3;omega⟩
   have w1:IntKind.u64.wrap ((s.width:Int)*256)=((s.width*256:Nat):Int):=by rw[qu]<;>omega
   rw[<-b1,a4,zmt,zm5]
   exact qun X v8 v9 _ _ hp qe _ w1 _ _ _ _ ap
  ·rw[if_neg hlt]
   exact⟨hp,lo,L,rfl,h,Nat.le_add_right _ _⟩
theorem qum(l:List Nat)(k:Nat)(h64:∀x∈l,x<64)(hl:l.length<=100000):∀(r:List Nat) (i:Nat) (cs:List Nat) (s:En) (lo mb:Nat) (L:List Int) (hp:Hp),l.drop i=r->i+r.length=l.length->CQ hp lo mb L cs s->okM cs->Zy s s.width->
 16777216<=s.width/\s.width<=4294967296->L.length+4*r.length<=900000->
 ∃hp' L',B72_5 (S k 1 (LI .u8 (nz l))) (.ms lo 0 0 L.length 1) (.int .u64 (s.width:Int)) (.int .i64 (i:Int)) [.ms mb 0 0 64 1] hp=some (S 0 1 (LI .u8 L'),hp')/\
  qO L'=eV (enc cs s r)/\L'.length=eK (enc cs s r)+4/\∀x∈L',0<=x/\x<256:=by
 intro r
 induction r with
 |nil=>
  intro i cs s lo mb L hp h hil hq hm ho hw hb
  simp at hil
  have fz:=QT .u8 L hp lo hq.lr.2.1
  refine⟨hp.del lo,L,?_,hq.v,hq.k,hq.lr.2.2⟩
  rw[qln]
  simp[hil,fz]
 |cons x r ih=>
  intro i cs s lo mb L hp h hil hq hm ho hw hb
  obtain⟨e1,e2,hi,e3⟩:=qt h
  simp only[zmu]at hil hb
  have hx:x<64:=by rw[<-e3];exact h64 _ (znb _)
  obtain⟨m1,m2,m3⟩:=hm
  have al:=qca hp mb cs hq.mr m1 qe
  have stt:=qie hp mb cs hq.mr m1 qe x hx
  have ht:=qP cs x qe
  have hta:=qQ cs (x+1)
  have hn:1<=cs.getD x 0:=by
   rw[zmv,zm0 qe]
   exact m3 _ (znb _)
  have hmul:s.width/cs.sum*cs.sum<=s.width:=zn9 _ _
  have hsum:s.width/cs.sum*(cs.take x).sum+s.width/cs.sum*cs.getD x 0<=s.width:=by
   rw[<-Nat.mul_add,<-ht]
   exact zn7 (zn4 _ hta) hmul
  obtain⟨d,b1,b2,b3,b4,b5,b6,b7⟩:=Za s cs x ⟨m1,m2,m3⟩ hx ho hw
  have up:=hq.up
  have vv:=hq.v
  obtain⟨h4,L4,p1,p2,p3,p4,p5,p6⟩:=qr8 lo (s.width/cs.sum*(cs.take x).sum) L hp qe qe hq.lr (by rw[vv];omega)
  have mr4:MR h4 mb cs:=⟨by rw[p5];exact hq.mr.1,by rw[xo (p6 mb (fun e=>hq.ne e.symm))];exact hq.mr.2⟩
  have okn:Zy (xC s cs x) (xC s cs x).width:=by
   obtain⟨h1,h2,h3,h4⟩:=ho
   refine⟨?_,h2,b7,fun q=>?_⟩
   ·show s.low+s.width/cs.sum*(cs.take x).sum+s.width/cs.sum*cs.getD x 0<=_;omega
   ·have:=h4 q
    show s.low+s.width/cs.sum*(cs.take x).sum+s.width/cs.sum*cs.getD x 0<=_;omega
  have ev:eV (xC s cs x)=eV s+s.width/cs.sum*(cs.take x).sum:=by
   show qO (bl s)*4294967296+(s.low+_)=qO (bl s)*4294967296+s.low+_
   omega
  have cq4:CQ h4 lo mb L4 cs (xC s cs x):=⟨p2,mr4,hq.ne,by rw[p4,vv,ev],by rw[p3];exact hq.k,by rw[ev,p3];show _+s.width/cs.sum*cs.getD x 0<=_;omega⟩
  obtain⟨h5,lo5,L5,c1,c2,c3⟩:=qul k mb (S k 1 (LI .u8 (nz l))) (.int .i64 (i:Int)) (.int .i64 (x:Int)) cs 4 (xC s cs x) lo L4 h4 cq4 okn (by show s.width/cs.sum*cs.getD x 0<=_;omega) qe
  obtain⟨h6,mb6,d1,d2,d3,d4⟩:=qr9 h5 mb x cs c2.mr ⟨m1,m2,m3⟩ hx
  have cq6:CQ h6 lo5 mb6 L5 (Yu cs x) (zE 4 (xC s cs x)):=⟨c2.lr.fr d4 qg,d2,by have:=c2.lr.1;omega,c2.v,c2.k,c2.up⟩
  obtain⟨hp',L',f1,f2⟩:=ih (i+1) (Yu cs x) (zE 4 (xC s cs x)) lo5 mb6 L5 h6 e2 qe cq6 (Qy ⟨m1,m2,m3⟩ hx) b4 ⟨b5,b6⟩ qe
  refine⟨hp',L',?_,f2⟩
  rw[<-f1,qln]
  have c11:B72_11 (S k 1 (LI .u8 (nz l))) (.ms lo5 0 0 L5.length 1) (.int .u64 ((zE 4 (xC s cs x)).width:Nat)) (.int .i64 (i:Int)) (.int .i64 (x:Int)) [.ms mb 0 0 64 1] h5=
   B72_5 (S k 1 (LI .u8 (nz l))) (.ms lo5 0 0 L5.length 1) (.int .u64 ((zE 4 (xC s cs x)).width:Nat)) (.int .i64 ((i+1:Nat):Int)) [.ms mb6 0 0 64 1] h6:=by
   have w1:IntKind.i64.wrap ((i:Int)+1)=((i+1:Nat):Int):=qj
   exact qup _ _ _ _ _ h5 qe _ w1 mb mb6 h6 d1
  rw[c11]at c1
  rw[<-c1]
  have ai:=xF .u8 l i hi
  rw[show l.getD i 0=x by rw[zmv,e1];rfl]at ai
  have en:∀h,(nz l)[i]'h=(x:Int):=fun h=>by simp[nz,e3]
  have w0:IntKind.i64.wrap (x:Int)=(x:Int):=qm qe qe
  have w2:IntKind.u64.wrap ((cs.sum:Nat):Int)=((cs.sum:Nat):Int):=qu qe qe
  have q1:=YR s.width cs.sum qe qe
  have w3:IntKind.u64.wrap (((cs.take x).sum:Nat):Int)=(((cs.take x).sum:Nat):Int):=qu qe qe
  have w4:IntKind.u64.wrap (((s.width/cs.sum:Nat):Int)*(((cs.take x).sum:Nat):Int))=((s.width/cs.sum*(cs.take x).sum:Nat):Int):=by rw[<-Int.natCast_mul,qu]<;>omega
  have w5:IntKind.u64.wrap ((cs.getD x 0:Nat):Int)=((cs.getD x 0:Nat):Int):=qu qe qe
  have w6:IntKind.u64.wrap (((s.width/cs.sum:Nat):Int)*((cs.getD x 0:Nat):Int))=((s.width/cs.sum*cs.getD x 0:Nat):Int):=by rw[<-Int.natCast_mul,qu]<;>omega
  have ix:idx 64 (.int .i64 (x:Int))=some x:=zp .i64 qe
  have g:=jN .i64 (nz cs) x qi
  rw[yP cs x qe]at g
  have m4:=mr4.2
  have ew:(xC s cs x).width=s.width/cs.sum*cs.getD x 0:=rfl
  rw[ew,p3]
  clear c1 c11 f1 f2 cq6 d1 d2 d4 c2 c3 cq4 ev okn mr4 b1 b2 b3 b4 ho hq ih
  generalize((s.width/cs.sum*cs.getD x 0:Nat):Int)=W2 at*
  generalize((s.width/cs.sum*(cs.take x).sum:Nat):Int)=W1 at*
  generalize((s.width/cs.sum:Nat):Int)=part at*
  generalize((cs.getD x 0:Nat):Int)=Vk at*
  generalize(((cs.take x).sum:Nat):Int)=start at*
  generalize((cs.sum:Nat):Int)=sm at*
  simp[hi,ai,en,zq,w0,gN1,al,w2,q1,stt,w3,w4,p1,gC0,ix,m4,g,w5,w6]
theorem XJ(s:En)(h:∀x∈s.out,0<=x/\x<256):∀x∈(sh s).out,0<=x/\x<256:=by
 unfold sh
 split
 ·intro x hx
  simp only[zn3,List.mem_replicate]at hx
  rcases hx with(q|q)|q
  ·exact h x q
  ·split at q
   ·simp at q;omega
   ·simp at q
  ·omega
 ·exact h
theorem qz7:∀(f:Nat) (s:En),(∀x∈s.out,0<=x/\x<256)->∀x∈(zE f s).out,0<=x/\x<256:=by
 intro f
 induction f with
 |zero=>intro s h;exact h
 |succ f ih=>
  intro s h
  unfold zE
  split
  ·exact ih _ (XJ _ h)
  ·exact h
theorem zf2:∀(l cs:List Nat) (s:En),(∀x∈s.out,0<=x/\x<256)->∀x∈(enc cs s l).out,0<=x/\x<256:=by
 intro l
 induction l with
 |nil=>intro cs s h;exact h
 |cons y r ih=>intro cs s h;exact ih _ _ (qz7 4 _ h)
theorem zgg(l:List Nat):∀x∈jh l,0<=x/\x<256:=
 XJ _ (XJ _ (XJ _ (XJ _ (XJ _ (zf2 l cs0 en0 (fun x hx=>by cases hx))))))
theorem qh9(l:List Nat)(k:Nat)(hl:l.length<=100000)(h64:∀x∈l,x<64)(hp:Hp):∃hp',run cxX 72 [.sc (.int .i64 64),S k 1 (LI .u8 (nz l))] hp=some (S 0 1 (LI .u8 (jh l)),hp'):=by
 obtain⟨h1,mb,a1,a2⟩:=qsa hp
 have z:=ZV .u8 4
 have mk:yT 1 1 (4:Int) 4=some ():=qh
 have cq:CQ (h1.new (LI .u8 (List.replicate 4 0))) h1.next mb (List.replicate 4 0) cs0 en0:=by
  refine⟨⟨qg,qR _ _,fun x hx=>by rw[zot hx];decide⟩,a2.fr (Fm.new [] _ _) qg,by have:=a2.1;omega,qh,qh,qh⟩
 obtain⟨hp',L',b1,b2,b3,b4⟩:=qum l k h64 hl l 0 cs0 en0 h1.next mb (List.replicate 4 0) _ rfl qg cq qji qjj ⟨qh,qh⟩ qi
 obtain⟨n1,n2⟩:=Jv l h64
 have e:L'=jh l:=qrf L' (jh l) b4 (zgg l) qe qe
 refine⟨hp',?_⟩
 rw[E72,<-e]
 have ew:en0.width=4294967295:=rfl
 rw[ew]at b1
 simp only[zq0]at b1
 generalize LI .u8 (List.replicate 4 0)=Z at*
 have z':xH 4 [.int .u8 0]=Z:=z
 simp at b1
 simp[a1,pN1,mk,z',b1]
theorem ZX(K:IntKind)(hp:Hp)(k:Nat)(m:List Int):Jz hp 1 (S k 1 (LI K m))=some (LI K m):=JP hp k 1 _
theorem vg(K:IntKind)(l m:List Int)(k b:Nat)(hk:k=1\/k=2)(hb:0<b/\b<=1000)(s:AV)(hp:Hp)(hl:l≠[])(hm:m≠[])(h:l.length+m.length<=1000000)(hs:Jz hp 1 s=some (LI K m)):
 jX b 1 (S k 1 (LI K l)) s hp=some (S k 1 (LI K (l++m)),hp):=by
 have ap:=Yr b 1 k (LI K l) (LI K m) 1 hk (WV K m) (.inr (yR hb.1 (by
  simp only[wI]
  have:(l.length+m.length)*b<=1000000*1000:=zno h hb.2
  omega)))
 unfold jm at ap
 rw[qxx]at ap
 simp only[zmw]at ap
 have e:LI K l++LI K m=LI K (l++m):=by simp[LI]
 rw[e]at ap
 have hv:(LI K m).all vl=true:=vlI K m
 unfold jX
 rw[hs]
 cases l with
 |nil=>exact absurd rfl hl
 |cons x l=>
  cases m with
  |nil=>exact absurd rfl hm
  |cons y m=>
   have e1:LI K (x::l)= .sc (.int K x)::LI K l:=rfl
   have e2:LI K (y::m)= .sc (.int K y)::LI K m:=rfl
   rw[e1,e2]at ap
   rw[e2]at hv
   have es:S k 1 (LI K (x::l))= .us 1 (.sc (.int K x)::LI K l):=by rcases hk with rfl|rfl<;>rfl
   rw[es,e2]
   rw[<-e1,es]at ap
   show(yF (.sc (.int K y)::LI K m)).bind (fun _=>(qky b 1 (.us 1 (.sc (.int K x)::LI K l)) (.sc (.int K y)::LI K m)).bind fun r=>some (r,hp))=_
   rw[ap,qz1,QV hv]
   rfl
theorem zgq(K:IntKind)(m:List Int)(b:Nat)(hb:0<b/\b<=1000)(hp:Hp)(hm:m≠[])(h:m.length<=1000000):jX b 1 (S 2 1 []) (S 1 1 (LI K m)) hp=some (.ms hp.next 0 0 m.length 1,hp.new (LI K m)):=by
 unfold jX
 rw[ZX]
 cases m with
 |nil=>exact absurd rfl hm
 |cons y m=>
  have hf:xE b 1 (LI K (y::m)).length=true:=yR hb.1 (by
   rw[wI]
   have:(y::m).length*b<=1000000*1000:=zno h hb.2
   omega)
  have e2:LI K (y::m)= .sc (.int K y)::LI K m:=rfl
  rw[e2]at hf⊢
  show(ZN (Zi nil0=true/\xE b 1 (AV.sc (Value.int K y)::LI K m).length=true)).bind _=_
  rw[QV ⟨rfl,hf⟩]
  simp[wI]
theorem quy(K:IntKind)(l m:List Int)(b x:Nat)(hb:0<b/\b<=1000)(hl:l≠[])(hm:m≠[])(h:l.length+m.length<=1000000)(hp:Hp)(hx:hp.rd x 0=some (LI K l)):
 jX b 1 (.ms x 0 0 l.length 1) (S 1 1 (LI K m)) hp=some (.ms hp.next 0 0 (l.length+m.length) 1,(hp.del x).new (LI K (l++m))):=by
 have hpos:0<l.length:=zoe.mpr hl
 unfold jX
 rw[ZX]
 cases m with
 |nil=>exact absurd rfl hm
 |cons y m=>
  have hf:xE b 1 (l.length*1+(LI K (y::m)).length)=true:=yR hb.1 (by
   rw[wI]
   have:(l.length*1+(y::m).length)*b<=1000000*1000:=zno qe hb.2
   omega)
  have e2:LI K (y::m)= .sc (.int K y)::LI K m:=rfl
  rw[e2]at hf⊢
  show(ZN (1=1/\0=0/\0<l.length)).bind (fun _=>(hp.rd x 0).bind fun cs=>(ZN (l.length*1<=cs.length/\xE b 1 (l.length*1+(AV.sc (Value.int K y)::LI K m).length)=true)).bind fun _=>some (AV.ms hp.next 0 0 (l.length+zT 1 (AV.sc (Value.int K y)::LI K m)) 1,(hp.del x).new ((cs.take (l.length*1)).map ro1++AV.sc (Value.int K y)::LI K m)))=_
  rw[QV ⟨rfl,rfl,hpos⟩]
  simp only[zmw,hx]
  rw[QV ⟨by rw[wI];omega,hf⟩]
  simp only[zmw]
  congr 2
  ·rw[WH];simp
  ·congr 1
   rw[zom,znr qg,WV]
   simp[LI]
theorem zie(m:Nat):∀f i,∀x∈kC m f i,0<=x/\x<256:=by
 intro f
 induction f with
 |zero=>intro i x h;simp[kC]at h
 |succ f ih=>
  intro i x h
  unfold kC at h
  by_cases h256:256<=i
  ·rw[if_pos h256]at h;simp at h
  ·rw[if_neg h256]at h
   have:=(wg m (255-i) i).2.1
   split at h
   ·rcases zmy.mp h with e|h
    ·omega
    ·rcases zmy.mp h with e|h
     ·omega
     ·exact ih _ x h
   ·exact ih _ x h
theorem zaa(L:List Nat)(x:Nat):zK (L++[x])=zK L|||2^x:=by
 apply zn5
 intro j
 have h1:=QL j (L++[x])
 have h2:=QL j L
 rw[znt,zn6,Bool.eq_iff_iff]
 simp only[zp4,decide_eq_true_eq,h1,h2,zn3,zpx]
 constructor
 ·rintro(h|h)
  ·exact .inl h
  ·exact .inr h.symm
 ·rintro(h|h)
  ·exact .inl h
  ·exact .inr h.symm
def nxt(e:Nat)(L:List Nat):Nat:=if L=[]then e else L.getD (L.length-1) 0+1
theorem Wq(x:Nat):∀(L:List Nat) (a:List Int) (e:Nat),kJ a e (L++[x])=if x=nxt e L then qan (kJ a e L)else kJ a e L++[(x:Int),0]
 |[],a,e=>rfl
 |y::L,a,e=>by
  have en:∀e',nxt e' (y::L)=nxt (y+1) L:=by
   intro e'
   unfold nxt
   cases L with
   |nil=>rfl
   |cons z r=>rfl
  rw[en]
  simp only[zol,kJ]
  split
  ·exact Wq x L _ _
  ·exact Wq x L _ _
def CSt(hp:Hp)(bb rb:Nat)(m:Nat)(A:List Int):Prop:=
 bb<hp.next/\hp.rd bb 0=some (LI .u8 (yB m 32 0))/\(A≠[]->rb<hp.next/\rb≠bb/\hp.rd rb 0=some (LI .u8 A))
def RVl(rb:Nat)(A:List Int):AV:=if A=[]then S 2 1 []else .ms rb 0 0 A.length 1
section
variable (L:List Nat)(hL:∀x∈L,x<256)(hp2:L.Pairwise (·<·))(hne:L≠[])(k key:Nat)(hkey:key<4294967296)
include hL hp2
theorem zhk:L.length<=256:=by
 have h:=qhg (zK L) 256 0 L (fun j _ _=>QL j L) (fun x hx=>⟨znl _,by have:=hL x hx;omega⟩) hp2
 have h2:=congrArg List.length h
 have h3:=qkx (zK L) 256 0
 have h4:zt (zK L) 256<=256:=by
  have:∀n,zt (zK L) n<=n:=by
   intro n
   induction n with
   |zero=>exact zmx _
   |succ n ih=>
    have:((zK L).testBit n).toNat<=1:=b2n _
    show zt (zK L) n+_<=_;omega
  exact this 256
 rw[WF]at h2
 have h5:zt (zK L) 0=0:=rfl
 rw[h5]at h3
 simp only[zm4,zoi]at h3
 omega
theorem zca:yD (zK L) 256 0=nz L/\zt (zK L) 256=L.length:=by
 have h:=qhg (zK L) 256 0 L (fun j _ _=>QL j L) (fun x hx=>⟨znl _,by have:=hL x hx;omega⟩) hp2
 exact⟨h,by rw[<-Kp,h,WF]⟩
theorem qk7:kJ [] 300 L=kC (zK L) 256 0:=by
 have h:=zeh (zK L) 256 0 300 [] L (fun j _ _=>QL j L) (fun x hx=>⟨znl _,hL x hx⟩) hp2 (fun q=>by have:=hL _ q;omega) qe
 simpa using h
omit hL hp2 in
theorem qo7(hL:∀x∈L,x<256)(hp2:L.Pairwise (·<·))(i:Nat):(∀x∈L.take i,x<256)/\(L.take i).Pairwise (·<·):=
 ⟨fun x hx=>hL x (zof hx),hp2.sublist (zqq i L)⟩
include hne hkey
theorem qur(hp:Hp)(bb rb:Nat)(h:CSt hp bb rb (zK L) (kJ [] 300 L)):
 ∃hp',B137_7 (S k 1 (LI .i64 (nz L))) (S 2 1 (LI .u8 (uv key))) (RVl rb (kJ [] 300 L)) (.int .i64 (jz (zK L) 256:Nat)) (.ms bb 0 0 32 1) (S 2 1 (LI .u8 (nz L))) (.int .i64 (L.length:Int)) hp=some (S 2 1 (LI .u8 (yA (key,zK L))),hp'):=by
 have ll:=zhk L hL hp2
 obtain⟨ea,ep⟩:=zca L hL hp2
 have er:=qk7 L hL hp2
 have hl0:0<L.length:=zoe.mpr hne
 have hrp:0<jz (zK L) 256:=Vr (by rw[ep];exact hl0)
 have hrl:=JW (zK L) 256
 have hrn:=vn (zK L)
 rw[er]at h⊢
 obtain⟨h1,h2,h3⟩:=h
 have hk:=YY (zK L)
 have ul:=qE (n:=key) qe
 have une:=zk9 key
 have rne:kC (zK L) 256 0≠[]:=by intro e;rw[e]at hrn;simp at hrn;omega
 obtain⟨r1,r2,r3⟩:=h3 rne
 have w1:IntKind.i64.wrap (1+(L.length:Int))=1+(L.length:Int):=qm qe qe
 have w2:IntKind.i64.wrap (2*((jz (zK L) 256:Nat):Int))=2*((jz (zK L) 256:Nat):Int):=qm qe qe
 have w3:IntKind.i64.wrap (1+2*((jz (zK L) 256:Nat):Int))=1+2*((jz (zK L) 256:Nat):Int):=qm qe qe
 have w4:IntKind.i64.wrap ((L.length:Int)-1)=(L.length:Int)-1:=qm qe qe
 have w5:IntKind.i64.wrap (((jz (zK L) 256:Nat):Int)-1)=((jz (zK L) 256:Nat):Int)-1:=qm qe qe
 have c17:L.length+1<=32->L.length+1<=2*jz (zK L) 256+1->∃hp',B137_17 (S k 1 (LI .i64 (nz L))) (S 2 1 (LI .u8 (uv key))) (S 2 1 (LI .u8 (nz L))) hp=some (S 2 1 (LI .u8 (yA (key,zK L))),hp'):=by
  intro a1 a2
  have kd:kind (zK L)=0:=by unfold kind;rw[ep,if_pos ⟨a1,a2⟩]
  have eY:yA (key,zK L)=uv key++[(0:Int),((L.length-1:Nat):Int)]++nz L:=by
   unfold yA QX
   rw[kd,if_pos rfl,ep,ea];simp
  have w6:IntKind.u8.wrap ((L.length:Int)-1)=((L.length-1:Nat):Int):=by rw[zy]<;>omega
  have a1:=vg .u8 (uv key) [0,((L.length-1:Nat):Int)] 2 1 (.inr rfl) qh (S 1 1 (LI .u8 [0,((L.length-1:Nat):Int)])) hp une qg qi (ZX _ _ _ _)
  have a2:=vg .u8 (uv key++[(0:Int),((L.length-1:Nat):Int)]) (nz L) 2 1 (.inr rfl) qh (S 3 1 (LI .u8 (nz L))) hp qg (by intro e;have:=congrArg List.length e;rw[WF]at this;simp only[znd]at this;omega) qi (ZX _ _ _ _)
  refine⟨hp,?_⟩
  rw[qpi,eY]
  have e1:LI .u8 [0,((L.length-1:Nat):Int)]=[.sc (.int .u8 0),.sc (.int .u8 ((L.length-1:Nat):Int))]:=rfl
  rw[e1]at a1
  generalize((L.length-1:Nat):Int)=n1 at*
  generalize uv key=U at*
  generalize LI .u8 (U++[0,n1]++nz L)=R1 at*
  generalize LI .u8 (U++[0,n1])=R2 at*
  simp[w4,w6,a1,a2]
 have c18:¬(L.length+1<=32/\L.length+1<=2*jz (zK L) 256+1)->∃hp',B137_18 (S 2 1 (LI .u8 (uv key))) (RVl rb (kC (zK L) 256 0)) (.int .i64 (jz (zK L) 256:Nat)) (.ms bb 0 0 32 1) (.int .i64 (1+2*((jz (zK L) 256:Nat):Int))) hp=some (S 2 1 (LI .u8 (yA (key,zK L))),hp'):=by
  intro hn
  by_cases h32:32<=2*jz (zK L) 256+1
  ·have kd:kind (zK L)=1:=by unfold kind;rw[ep,if_neg hn,if_pos h32]
   have eY:yA (key,zK L)=uv key++[(1:Int)]++yB (zK L) 32 0:=by
    unfold yA QX
    rw[kd];simp
   have bl:=Jx (zK L) 32 0
   have sm:=Yz .u8 (yB (zK L) 32 0) hp bb 0 32 h2 qe
   rw[zou,znr qe]at sm
   have a1:=vg .u8 (uv key) [1] 2 1 (.inr rfl) qh (S 1 1 (LI .u8 [1])) hp une qg qi (ZX _ _ _ _)
   have a2:=vg .u8 (uv key++[(1:Int)]) (yB (zK L) 32 0) 2 1 (.inr rfl) qh (.ms bb 0 0 32 1) hp qg (by intro e;have:=congrArg List.length e;rw[bl]at this;cases this) qi sm
   have e1:LI .u8 [1]=[.sc (.int .u8 1)]:=rfl
   have h32':(32:Int)<=1+2*((jz (zK L) 256:Nat):Int):=qe
   rw[e1]at a1
   refine⟨hp,?_⟩
   rw[qba,eY]
   generalize((jz (zK L) 256:Nat):Int)=rc at*
   generalize uv key=U at*
   generalize LI .u8 (U++[1]++yB (zK L) 32 0)=R1 at*
   generalize LI .u8 (U++[1])=R2 at*
   simp[h32',a1,a2]
  ·have kd:kind (zK L)=2:=by unfold kind;rw[ep,if_neg hn,if_neg h32]
   have eY:yA (key,zK L)=uv key++[(2:Int),((jz (zK L) 256-1:Nat):Int)]++kC (zK L) 256 0:=by
    unfold yA QX
    rw[kd];simp
   have w6:IntKind.u8.wrap (((jz (zK L) 256:Nat):Int)-1)=((jz (zK L) 256-1:Nat):Int):=by rw[zy]<;>omega
   have sm:=Yz .u8 (kC (zK L) 256 0) hp rb 0 (kC (zK L) 256 0).length r3 qe
   rw[zou,zo6]at sm
   have a1:=vg .u8 (uv key) [2,((jz (zK L) 256-1:Nat):Int)] 2 1 (.inr rfl) qh (S 1 1 (LI .u8 [2,((jz (zK L) 256-1:Nat):Int)])) hp une qg qi (ZX _ _ _ _)
   have a2:=vg .u8 (uv key++[(2:Int),((jz (zK L) 256-1:Nat):Int)]) (kC (zK L) 256 0) 2 1 (.inr rfl) qh (.ms rb 0 0 (kC (zK L) 256 0).length 1) hp qg rne qi sm
   have e1:LI .u8 [2,((jz (zK L) 256-1:Nat):Int)]=[.sc (.int .u8 2),.sc (.int .u8 ((jz (zK L) 256-1:Nat):Int))]:=rfl
   have h32':¬((32:Int)<=1+2*((jz (zK L) 256:Nat):Int)):=qe
   rw[e1]at a1
   refine⟨hp,?_⟩
   have erv:RVl rb (kC (zK L) 256 0)= .ms rb 0 0 (kC (zK L) 256 0).length 1:=if_neg rne
   rw[qba,eY,erv]
   generalize((jz (zK L) 256-1:Nat):Int)=rc1 at*
   generalize((jz (zK L) 256:Nat):Int)=rc at*
   generalize uv key=U at*
   generalize LI .u8 (U++[2,rc1]++kC (zK L) 256 0)=R1 at*
   generalize LI .u8 (U++[2,rc1])=R2 at*
   simp[h32',w5,w6,a1,a2]
 rw[qe4]
 by_cases a1:L.length+1<=32
 ·by_cases a2:L.length+1<=2*jz (zK L) 256+1
  ·obtain⟨hp',e⟩:=c17 a1 a2
   have a1':1+(L.length:Int)<=32:=qe
   have a2':1+(L.length:Int)<=1+2*((jz (zK L) 256:Nat):Int):=qe
   refine⟨hp',?_⟩
   clear c17 c18
   generalize((jz (zK L) 256:Nat):Int)=rc at*
   simp[w1,w2,w3,a1',a2',e]
  ·obtain⟨hp',e⟩:=c18 (fun q=>a2 q.2)
   have a1':1+(L.length:Int)<=32:=qe
   have a2':¬(1+(L.length:Int)<=1+2*((jz (zK L) 256:Nat):Int)):=qe
   refine⟨hp',?_⟩
   clear c17 c18
   generalize((jz (zK L) 256:Nat):Int)=rc at*
   simp[w1,w2,w3,a1',a2',e]
 ·obtain⟨hp',e⟩:=c18 (fun q=>a1 q.1)
  have a1':¬(1+(L.length:Int)<=32):=qe
  refine⟨hp',?_⟩
  clear c17 c18
  generalize((jz (zK L) 256:Nat):Int)=rc at*
  simp[w1,w2,w3,a1',e]
omit hL hp2 hne hkey in
theorem qhj{rb:Nat}{A:List Int}(h:A≠[]):RVl rb A= .ms rb 0 0 A.length 1:=if_neg h
omit hkey hne in
theorem qou:∀(f i rb zT:Nat) (bb:Nat) (hp:Hp),i+f=L.length->CSt hp bb rb (zK (L.take i)) (kJ [] 300 (L.take i))->(kJ [] 300 (L.take i)).length=2*zT->
 ∃hp' rb',B137_7 (S k 1 (LI .i64 (nz L))) (S 2 1 (LI .u8 (uv key))) (RVl rb (kJ [] 300 (L.take i))) (.int .i64 (zT:Int)) (.ms bb 0 0 32 1) (S 2 1 (LI .u8 (nz (L.take i)))) (.int .i64 (i:Int)) hp=
  B137_7 (S k 1 (LI .i64 (nz L))) (S 2 1 (LI .u8 (uv key))) (RVl rb' (kJ [] 300 L)) (.int .i64 (jz (zK L) 256:Nat)) (.ms bb 0 0 32 1) (S 2 1 (LI .u8 (nz L))) (.int .i64 (L.length:Int)) hp'/\CSt hp' bb rb' (zK L) (kJ [] 300 L):=by
 have ll:=zhk L hL hp2
 intro f
 induction f with
 |zero=>
  intro i rb zT bb hp h hc hm
  have e:i=L.length:=qe
  subst e
  rw[zo6]at hc hm⊢
  have e2:zT=jz (zK L) 256:=by
   rw[qk7 L hL hp2,vn]at hm;omega
  rw[e2]
  exact⟨hp,rb,rfl,hc⟩
 |succ f ih=>
  intro i rb zT bb hp h hc hm
  have hi:i<L.length:=qe
  have ex:L.drop i=L[i]::L.drop (i+1):=znp hi
  obtain⟨x,hx⟩:∃x,L[i]=x:=⟨_,rfl⟩
  have hx256:x<256:=by rw[<-hx];exact hL _ (znb _)
  have et:L.take (i+1)=L.take i++[x]:=by rw[zo2,zm0 hi,hx];rfl
  have hxn:x∉L.take i:=by
   intro q
   obtain⟨j,hj,e⟩:=zpf q
   have hj':j<i:=by simp at hj;omega
   rw[List.getElem_take]at e
   have:=List.pairwise_iff_getElem.mp hp2 j i qe hi hj'
   omega
  have hbit:(zK (L.take i)).testBit x=false:=by
   cases hb:(zK (L.take i)).testBit x
   ·rfl
   ·exact absurd ((QL x _).mp hb) hxn
  obtain⟨h1,h2,h3⟩:=hc
  have ai:=xF .i64 L i hi
  rw[show L.getD i 0=x by rw[zmv,zm0 hi,hx];rfl]at ai
  have en:∀h,(nz L)[i]'h=(x:Int):=fun h=>by simp[nz,hx]
  have st:=zby (zK (L.take i)) x hx256 hbit
  have bl:=Jx (zK (L.take i)) 32 0
  have bg:=VH (zK (L.take i)) 32 0 (x/8) qe
  rw[zm4]at bg
  have by0:=qre (zK (L.take i)) x (x/8) hbit
  rw[if_pos rfl]at by0
  have hsum:zK (L.take i)/2^(8*(x/8))%256+2^(x%8)<256:=by rw[<-by0];exact zpt _ qh
  have g:ql (LI .u8 (yB (zK (L.take i)) 32 0)) (x/8)=some (.int .u8 ((zK (L.take i)/2^(8*(x/8))%256:Nat):Int)):=by
   unfold ql
   rw[qbn?,bg];rfl
  have pn:=xp .u8 (yB (zK (L.take i)) 32 0) (x/8) ((zK (L.take i)/2^(8*(x/8))%256+2^(x%8):Nat):Int) qe
  rw[<-st,<-zaa,<-et]at pn
  have q8:=qgd x qe
  have r8:=qgb x
  have ix:idx 32 (.int .i64 ((x/8:Nat):Int))=some (x/8):=zp .i64 qe
  have sh:∀t o o',qx Tryz.prog .shl t o o' (.int .u8 1) (.int .i64 ((x%8:Nat):Int))=some (.int .u8 ((2^(x%8):Nat):Int)):=by
   intro t o o'
   have hc:x%8=0\/x%8=1\/x%8=2\/x%8=3\/x%8=4\/x%8=5\/x%8=6\/x%8=7:=qe
   rw[zW _ _ _ _ _ _ _ _ qe]
   rcases hc with h|h|h|h|h|h|h|h<;>rw[h]<;>rfl
  have w1:IntKind.u8.wrap (((zK (L.take i)/2^(8*(x/8))%256:Nat):Int)+((2^(x%8):Nat):Int))=((zK (L.take i)/2^(8*(x/8))%256+2^(x%8):Nat):Int):=by
   rw[<-Int.natCast_add,zy]<;>omega
  have w0:IntKind.u8.wrap (x:Int)=(x:Int):=zy qe qe
  have ap:=qkz .u8 (nz (L.take i)) 2 (.inr rfl) 1 qh (x:Int) qi
  rw[<-yO,<-et]at ap
  have wi:IntKind.i64.wrap ((i:Int)+1)=((i+1:Nat):Int):=qj
  obtain⟨hp1,e1⟩:∃hp1,hp1=hp.put bb 0 (LI .u8 (yB (zK (L.take (i+1))) 32 0)):=⟨_,rfl⟩
  have c1:hp1.next=hp.next:=by rw[e1];rfl
  have c2:hp1.rd bb 0=some (LI .u8 (yB (zK (L.take (i+1))) 32 0)):=by rw[e1];exact qp _ _ _
  have c3:kJ [] 300 (L.take i)≠[]->rb<hp1.next/\rb≠bb/\hp1.rd rb 0=some (LI .u8 (kJ [] 300 (L.take i))):=fun q=>by
   obtain⟨d1,d2,d3⟩:=h3 q
   exact⟨by rw[c1];exact d1,d2,by rw[e1,qB _ _ d2];exact d3⟩
  have b8:∀(x6:AV) (mn:Int) (hq:Hp),B137_8 (S k 1 (LI .i64 (nz L))) (S 2 1 (LI .u8 (uv key))) x6 (.int .i64 mn) (.ms bb 0 0 32 1) (S 2 1 (LI .u8 (nz (L.take (i+1))))) (.int .i64 (i:Int)) hq=
   B137_7 (S k 1 (LI .i64 (nz L))) (S 2 1 (LI .u8 (uv key))) x6 (.int .i64 mn) (.ms bb 0 0 32 1) (S 2 1 (LI .u8 (nz (L.take (i+1))))) (.int .i64 ((i+1:Nat):Int)) hq:=by
   intro x6 mn hq
   rw[qwv]
   generalize((i+1:Nat):Int)=I at*
   simp[wi]
  obtain⟨t1,t2⟩:=qo7 L hL hp2 (i+1)
  have rl:=qk7 (L.take (i+1)) t1 t2
  have rr:=zie (zK (L.take (i+1))) 256 0
  rw[<-rl]at rr
  have alen:(kJ [] 300 (L.take i)).length<=600:=by
   obtain⟨t1,t2⟩:=qo7 L hL hp2 i
   rw[qk7 (L.take i) t1 t2,vn]
   have:=JW (zK (L.take i)) 256
   have e:=(zca (L.take i) t1 t2).2
   have:(L.take i).length<=256:=qi
   omega
  have sn:=Wq x (L.take i) [] 300
  rw[<-et]at sn
  --one more run
  have no:x≠nxt 300 (L.take i)->∃hp' rb',B137_13 (S k 1 (LI .i64 (nz L))) (S 2 1 (LI .u8 (uv key))) (RVl rb (kJ [] 300 (L.take i))) (.int .i64 (zT:Int)) (.ms bb 0 0 32 1) (S 2 1 (LI .u8 (nz (L.take (i+1))))) (.int .i64 (i:Int)) hp1=
   B137_7 (S k 1 (LI .i64 (nz L))) (S 2 1 (LI .u8 (uv key))) (RVl rb' (kJ [] 300 L)) (.int .i64 (jz (zK L) 256:Nat)) (.ms bb 0 0 32 1) (S 2 1 (LI .u8 (nz L))) (.int .i64 (L.length:Int)) hp'/\CSt hp' bb rb' (zK L) (kJ [] 300 L):=by
   intro hno
   rw[if_neg hno]at sn
   have wm:IntKind.i64.wrap ((zT:Int)+1)=((zT+1:Nat):Int):=qj
   obtain⟨hq,am,q1,q2,q3⟩:∃hq,jX 1 1 (RVl rb (kJ [] 300 (L.take i))) (S 1 1 (LI .u8 [(x:Int),0])) hp1=some (.ms hp1.next 0 0 (kJ [] 300 (L.take (i+1))).length 1,hq)/\hq.next=hp1.next+1/\hq.rd hp1.next 0=some (LI .u8 (kJ [] 300 (L.take (i+1))))/\hq.rd bb 0=hp1.rd bb 0:=by
    by_cases hA:kJ [] 300 (L.take i)=[]
    ·have a:=zgq .u8 [(x:Int),0] 1 qh hp1 qg qg
     rw[sn,hA]
     exact⟨_,a,rfl,qR _ _,zF _ _ qe⟩
    ·obtain⟨d1,d2,d3⟩:=c3 hA
     have a:=quy .u8 (kJ [] 300 (L.take i)) [(x:Int),0] 1 rb qh hA qg qi hp1 d3
     rw[qhj hA,sn,zmt]
     refine⟨_,a,rfl,qR (hp1.del rb) _,?_⟩
     exact(Fm.delNew (X:=[rb]) hp1 rb _ qg).rd qe (by simp;exact fun e=>d2 e.symm)
   have hA1:kJ [] 300 (L.take (i+1))≠[]:=by rw[sn];simp
   obtain⟨hp',rb',z1,z2⟩:=ih (i+1) hp1.next (zT+1) bb hq qe ⟨qe,by rw[q3];exact c2,fun _=>⟨qe,qe,q2⟩⟩ (by rw[sn,zmt,hm];simp only[zmu,znd];omega)
   refine⟨hp',rb',?_,z2⟩
   rw[<-z1,qhj hA1,<-b8,qpj]
   have el:LI .u8 [(x:Int),0]=[.sc (.int .u8 (x:Int)),.sc (.int .u8 0)]:=rfl
   rw[el]at am
   have rro:ro (RVl rb (kJ [] 300 (L.take i)))=RVl rb (kJ [] 300 (L.take i)):=by unfold RVl;split<;>rfl
   clear z1 b8 c3 sh
   generalize((zT+1:Nat):Int)=M at*
   generalize RVl rb (kJ [] 300 (L.take i))=V at*
   simp[hi,ai,en,zq,w0,rro,am,wm]
  --the same run
  have yes:x=nxt 300 (L.take i)->kJ [] 300 (L.take i)≠[]->∃hp' rb',B137_12 (S k 1 (LI .i64 (nz L))) (S 2 1 (LI .u8 (uv key))) (RVl rb (kJ [] 300 (L.take i))) (.int .i64 (zT:Int)) (.ms bb 0 0 32 1) (S 2 1 (LI .u8 (nz (L.take (i+1))))) (.int .i64 (i:Int)) hp1=
   B137_7 (S k 1 (LI .i64 (nz L))) (S 2 1 (LI .u8 (uv key))) (RVl rb' (kJ [] 300 L)) (.int .i64 (jz (zK L) 256:Nat)) (.ms bb 0 0 32 1) (S 2 1 (LI .u8 (nz L))) (.int .i64 (L.length:Int)) hp'/\CSt hp' bb rb' (zK L) (kJ [] 300 L):=by
   intro hyes hA
   rw[if_pos hyes]at sn
   obtain⟨d1,d2,d3⟩:=c3 hA
   have hpos:0<(kJ [] 300 (L.take i)).length:=zoe.mpr hA
   generalize hAA:kJ [] 300 (L.take i)=A at*
   have lb:(qan A).length=A.length:=by simp[qan]
   have hmem:A.getD (A.length-1) 0+1∈qan A:=by
    unfold qan
    have:A.length-1<(A.set (A.length-1) (A.getD (A.length-1) 0+1)).length:=qi
    have e:=znb this
    rw[List.getElem_set_self]at e
    exact e
   rw[sn]at rr
   have hv:=rr _ hmem
   have gs:=jN .u8 A (A.length-1) qe
   have pn2:=xp .u8 A (A.length-1) (A.getD (A.length-1) 0+1) qe
   have eb:A.set (A.length-1) (A.getD (A.length-1) 0+1)=qan A:=rfl
   rw[eb]at pn2
   have wb:IntKind.u8.wrap (A.getD (A.length-1) 0+1)=A.getD (A.length-1) 0+1:=zy hv.1 hv.2
   have wl:IntKind.i64.wrap ((A.length:Int)-1)=((A.length-1:Nat):Int):=qj
   have ix2:idx A.length (.int .i64 ((A.length-1:Nat):Int))=some (A.length-1):=zp .i64 qe
   have hA1:qan A≠[]:=by intro e;rw[e]at lb;simp at lb;omega
   obtain⟨hp',rb',z1,z2⟩:=ih (i+1) rb zT bb (hp1.put rb 0 (LI .u8 (qan A))) qe ⟨by rw[qjk];omega,by rw[qB _ _ (fun e=>d2 e.symm)];exact c2,fun _=>⟨d1,d2,by rw[sn];exact qp _ _ _⟩⟩ (by rw[sn,lb];exact hm)
   refine⟨hp',rb',?_,z2⟩
   rw[sn,qhj hA1,lb]at z1
   rw[<-z1,qhj hA,<-b8,qpk]
   clear z1 b8 c3 sh no
   generalize A.getD (A.length-1) 0=y0 at*
   generalize hN:((A.length-1:Nat):Int)=N at*
   simp[wl,ix2,d3,gs,wb,pn2]
  --joined
  have fin:∃hp' rb',cond (decide (0<i)) (cond (decide (x=L.getD (i-1) 0+1)) (B137_12 (S k 1 (LI .i64 (nz L))) (S 2 1 (LI .u8 (uv key))) (RVl rb (kJ [] 300 (L.take i))) (.int .i64 (zT:Int)) (.ms bb 0 0 32 1) (S 2 1 (LI .u8 (nz (L.take (i+1))))) (.int .i64 (i:Int)) hp1)
   (B137_13 (S k 1 (LI .i64 (nz L))) (S 2 1 (LI .u8 (uv key))) (RVl rb (kJ [] 300 (L.take i))) (.int .i64 (zT:Int)) (.ms bb 0 0 32 1) (S 2 1 (LI .u8 (nz (L.take (i+1))))) (.int .i64 (i:Int)) hp1))
   (B137_13 (S k 1 (LI .i64 (nz L))) (S 2 1 (LI .u8 (uv key))) (RVl rb (kJ [] 300 (L.take i))) (.int .i64 (zT:Int)) (.ms bb 0 0 32 1) (S 2 1 (LI .u8 (nz (L.take (i+1))))) (.int .i64 (i:Int)) hp1)=
   B137_7 (S k 1 (LI .i64 (nz L))) (S 2 1 (LI .u8 (uv key))) (RVl rb' (kJ [] 300 L)) (.int .i64 (jz (zK L) 256:Nat)) (.ms bb 0 0 32 1) (S 2 1 (LI .u8 (nz L))) (.int .i64 (L.length:Int)) hp'/\CSt hp' bb rb' (zK L) (kJ [] 300 L):=by
   have nx:nxt 300 (L.take i)=if i=0 then 300 else L.getD (i-1) 0+1:=by
    unfold nxt
    by_cases h0:i=0
    ·subst h0;simp
    ·have:L.take i≠[]:=by intro e;have:=congrArg List.length e;rw[zny,znd]at this;omega
     rw[if_neg this,if_neg h0,zny,zpo qe,zmv,zm8,if_pos qe,zmv]
   by_cases h0:0<i
   ·rw[if_neg qe]at nx
    rw[decide_eq_true h0,cond_true]
    by_cases hq:x=L.getD (i-1) 0+1
    ·rw[decide_eq_true hq,cond_true]
     refine yes (by rw[nx];exact hq) ?_
     intro e
     obtain⟨t1,t2⟩:=qo7 L hL hp2 i
     rw[qk7 (L.take i) t1 t2]at e
     have hl:=vn (zK (L.take i))
     rw[e]at hl
     have hp0:0<jz (zK (L.take i)) 256:=Vr (by rw[(zca (L.take i) t1 t2).2,zny];omega)
     simp at hl;omega
    ·rw[decide_eq_false hq,cond_false]
     exact no (by rw[nx];exact hq)
   ·rw[decide_eq_false h0,cond_false]
    have hz:i=0:=qe
    rw[if_pos hz]at nx
    exact no (by rw[nx];omega)
  obtain⟨hp',rb',z1,z2⟩:=fin
  refine⟨hp',rb',?_,z2⟩
  rw[<-z1,qe4]
  clear z1 b8 no yes c3 ih sn rr rl
  have e1':hp.put bb 0 (LI .u8 (yB (zK (L.take (i+1))) 32 0))=hp1:=e1.symm
  clear e1 c2 st
  generalize((zK (L.take i)/2^(8*(x/8))%256+2^(x%8):Nat):Int)=y1 at*
  generalize((zK (L.take i)/2^(8*(x/8))%256:Nat):Int)=y0 at*
  generalize((2^(x%8):Nat):Int)=y2 at*
  generalize((x%8:Nat):Int)=m8 at*
  generalize LI .u8 (yB (zK (L.take (i+1))) 32 0)=B1 at*
  generalize LI .u8 (yB (zK (L.take i)) 32 0)=B0 at*
  generalize hQ:x/8=Q at*
  generalize RVl rb (kJ [] 300 (L.take i))=V at*
  by_cases h0:0<i
  ·have aj:=xF .i64 L (i-1) qe
   have w9:IntKind.i64.wrap ((i:Int)-1)=((i-1:Nat):Int):=qj
   have g0:(0:Int)<=((i-1:Nat):Int):=qe
   have hy:L.getD (i-1) 0<256:=by
    rw[zmv,zm0 qe]
    exact hL _ (znb _)
   have en2:(nz L)[(((i-1:Nat):Int)).toNat]?=some (L.getD (i-1) 0:Nat):=by rw[zm3];simpa[LI]using aj
   generalize L.getD (i-1) 0=y at*
   have w7:IntKind.i64.wrap ((y:Int)+1)=((y+1:Nat):Int):=qj
   generalize((i-1:Nat):Int)=j at*
   have dq:(decide ((x:Int)=((y+1:Nat):Int)))=decide (x=y+1):=by apply decide_eq_decide.mpr;omega
   generalize hY:((y+1:Nat):Int)=Y at*
   simp[hi,ai,en,zq,w0,ap,q8,ix,h2,g,r8,sh,w1,pn,h0,w9,g0,en2,w7,dq,e1']
  ·simp[hi,ai,en,zq,w0,ap,q8,ix,h2,g,r8,sh,w1,pn,h0,e1']
theorem qf5(hp:Hp):∃hp',run cxX 137 [.sc (.int .u32 (key:Int)),S k 1 (LI .i64 (nz L))] hp=some (S 2 1 (LI .u8 (yA (key,zK L))),hp'):=by
 have u:=jt key qe hp0
 have z:=ZV .u8 32
 have mk:yT 1 1 (32:Int) 32=some ():=qh
 obtain⟨hp1,rb1,a1,a2⟩:=qou L hL hp2 k key L.length 0 0 0 hp.next (hp.new (LI .u8 (List.replicate 32 0))) qe ⟨qg,by rw[qR,<-qkn 32 0];rfl,fun h=>absurd rfl h⟩ rfl
 obtain⟨hp',b1⟩:=qur L hL hp2 hne k key hkey hp1 hp.next rb1 a2
 rw[b1]at a1
 have w1:IntKind.u64.wrap (key:Int)=(key:Int):=qu qe qe
 have e0:RVl 0 (kJ [] 300 (L.take 0))=S 2 1 []:=rfl
 have e1:LI .u8 (nz (L.take 0))=[]:=rfl
 rw[e0,e1]at a1
 refine⟨hp',?_⟩
 rw[E137]
 have z':xH 32 [.int .u8 0]=LI .u8 (List.replicate 32 0):=z
 generalize LI .u8 (List.replicate 32 0)=Z at*
 generalize LI .u8 (yA (key,zK L))=R at*
 simp at a1
 simp[w1,u,mk,z',a1]
end
section
variable (l:List Nat)(h32:∀x∈l,x<4294967296)(hr:qM l)(hl:l.length<=65536)(k:Nat)
include h32 hl
theorem zeb(key:Nat)(hkey:key<16777216)(x3:AV)(v4:Value)(hp:Hp):∀(a:List Nat) (i:Nat) (b:List Nat) (acc:List Nat),l.drop i=a++b->(∀x∈a,x/256=key)->(∀x∈b.head?,x/256≠key)->acc.length+a.length<=65536->
 B69_7 (S k 1 (LI .u32 (nz l))) x3 v4 (.int .i64 (i:Int)) (.int .u32 (key:Int)) (S 2 1 (LI .i64 (nz acc))) hp=
  B69_10 (S k 1 (LI .u32 (nz l))) x3 v4 (.int .i64 ((i+a.length:Nat):Int)) (.int .u32 (key:Int)) (S 2 1 (LI .i64 (nz (acc++a.map (·%256))))) hp:=by
 have quo256:∀(x:Nat),x<4294967296->∀t o o',qx Tryz.prog .quo t o o' (.int .u32 (x:Int)) (.int .u32 256)=some (.int .u32 ((x/256:Nat):Int)):=by
  intro x hx t o o'
  rw[yx _ _ _ _ _ _ _ qe,zn2 qe,qJ qe qe]
  rfl
 intro a
 induction a with
 |nil=>
  intro i b acc h ha hb hacc
  rw[qlp]
  simp only[znn,znd,zoi,zpn,znj]at h⊢
  cases b with
  |nil=>
   have h1:=qK h
   have hlt:¬(i<l.length):=qe
   simp[hlt]
  |cons y s=>
   obtain⟨e1,e2,hi,e3⟩:=qt h
   have hy:=hb y qg
   have hy32:y<4294967296:=by rw[<-e3];exact h32 _ (znb _)
   have ai:=xF .u32 l i hi
   rw[show l.getD i 0=y by rw[zmv,e1];rfl]at ai
   have en:∀h,(nz l)[i]'h=(y:Int):=fun h=>by simp[nz,e3]
   have q:=quo256 y hy32
   have hne:¬(((y/256:Nat):Int)=(key:Int)):=qe
   generalize((y/256:Nat):Int)=Q at*
   simp[hi,ai,en,zq,q,hne]
 |cons x a ih=>
  intro i b acc h ha hb hacc
  simp only[zmu]at hacc
  obtain⟨e1,e2,hi,e3⟩:=qt (show l.drop i=x::(a++b)from h)
  have hx:=ha x qg
  have hx32:x<4294967296:=by rw[<-e3];exact h32 _ (znb _)
  have ai:=xF .u32 l i hi
  rw[show l.getD i 0=x by rw[zmv,e1];rfl]at ai
  have en:∀h,(nz l)[i]'h=(x:Int):=fun h=>by simp[nz,e3]
  have q:=quo256 x hx32
  rw[hx]at q
  have rm:∀t o o',qx Tryz.prog .rem t o o' (.int .u32 (x:Int)) (.int .u32 256)=some (.int .u32 ((x%256:Nat):Int)):=by
   intro t o o'
   rw[zk _ _ _ _ _ _ _ qe,zj qe]
   rfl
  have w1:IntKind.i64.wrap ((x%256:Nat):Int)=((x%256:Nat):Int):=qm qe qe
  have w2:IntKind.i64.wrap ((i:Int)+1)=((i+1:Nat):Int):=qj
  have ap:=qkz .i64 (nz acc) 2 (.inr rfl) 8 qh ((x%256:Nat):Int) qi
  rw[<-yO]at ap
  have i1:=ih (i+1) b (acc++[x%256]) e2 (fun y hy=>ha y (by simp[hy])) hb qi
  have e4:i+1+a.length=i+(x::a).length:=qi
  have e5:acc++[x%256]++a.map (·%256)=acc++(x::a).map (·%256):=qg
  rw[e4,e5]at i1
  rw[qlp,<-i1]
  have b8:B69_8 (S k 1 (LI .u32 (nz l))) x3 v4 (.int .i64 (i:Int)) (.int .u32 (key:Int)) (S 2 1 (LI .i64 (nz acc))) hp=
   B69_7 (S k 1 (LI .u32 (nz l))) x3 v4 (.int .i64 ((i+1:Nat):Int)) (.int .u32 (key:Int)) (S 2 1 (LI .i64 (nz (acc++[x%256])))) hp:=by
   rw[zcq]
   clear i1 e5
   generalize((i+1:Nat):Int)=I at*
   generalize nz (acc++[x%256])=A1 at*
   generalize((x%256:Nat):Int)=m at*
   simp[hi,ai,en,zq,rm,xx,w1,ap,w2]
  simp[hi,ai,en,zq,q,b8]
theorem qy1:∀(n:Nat) (r:List Nat) (i c:Nat) (Z:List Int) (hp:Hp),r.length<=n->l.drop i=r->qM r->c+r.length<=65536->Z.length+60*r.length<=50000000->
 B69_4 (S k 1 (LI .u32 (nz l))) (S 2 1 (LI .u8 Z)) (.int .i64 (c:Int)) (.int .i64 (i:Int)) hp=some (S 2 1 (LI .u8 (uv (c+(jO r).length)++(Z++wG (jO r)))),hp):=by
 intro n
 induction n with
 |zero=>
  intro r i c Z hp hn h hrr hc hZ
  have e:r=[]:=zm9.mp qe
  subst e
  have h1:=qK h
  have hlt:¬(i<l.length):=qe
  have u:=jt c (by simp at hc;omega) hp0
  have ul:=qE (n:=c) (by simp at hc;omega)
  have ap:=yG .u8 (uv c) 2 (.inr rfl) 1 qh 3 Z (by simp at hZ;omega)
  have w1:IntKind.u64.wrap (c:Int)=(c:Int):=qu qe (by simp at hc;omega)
  rw[qlq]
  simp[hlt,w1,u,ap,jO,wG]
 |succ n ih=>
  intro r i c Z hp hn h hrr hc hZ
  by_cases hr0:r=[]
  ·exact ih r i c Z hp (by rw[hr0];exact znl _) h hrr hc hZ
  ·obtain⟨x,s,rfl⟩:∃x s,r=x::s:=by cases r with
    |nil=>exact absurd rfl hr0
    |cons x s=>exact⟨x,s,rfl⟩
   obtain⟨e1,e2,hi,e3⟩:=qt h
   have hx32:x<4294967296:=by rw[<-e3];exact h32 _ (znb _)
   obtain⟨a,b,eab,ha,hak,hbk,hch,hpw⟩:=qae (x::s) (x/256) hrr qg hr0
   have hlen:a.length+b.length=(x::s).length:=by rw[eab];simp
   have hapos:0<a.length:=zoe.mpr ha
   have ri:=zeb l h32 hl k (x/256) qe (S 2 1 (LI .u8 Z)) (.int .i64 (c:Int)) hp a i b [] (by rw[h,eab]) hak hbk (by have:=hlen;simp only[zmu,znd]at this hc⊢;omega)
   have hm256:∀y∈a.map (·%256),y<256:=by
    intro y hy
    obtain⟨z,_,rfl⟩:=zns.mp hy
    exact zpt _ qh
   obtain⟨hq,rc⟩:=qf5 (a.map (·%256)) hm256 hpw (by simpa using ha) 3 (x/256) qe hp0
   have hrise_b:qM b:=by
    rw[xa]at hrr⊢
    rw[eab]at hrr
    exact(zow.mp hrr).2.1
   have hok:YT (x/256,zK (a.map (·%256))):=by
    have:(x/256,zK (a.map (·%256)))∈jO (x::s):=by rw[hch];exact zp3 ..
    exact wP (fun y hy=>by rw[<-h]at hy;exact h32 y (zqc hy)) _ this
   have cl:=qag hok
   have ap:=yG .u8 Z 2 (.inr rfl) 1 qh 2 (yA (x/256,zK (a.map (·%256)))) qe
   have hdb:l.drop (i+a.length)=b:=by
    rw[<-List.drop_drop,h,eab,zp0]
   have i1:=ih b (i+a.length) (c+1) (Z++yA (x/256,zK (a.map (·%256)))) hp qe hdb hrise_b qe qi
   have ai:=xF .u32 l i hi
   rw[show l.getD i 0=x by rw[zmv,e1];rfl]at ai
   have en:∀h,(nz l)[i]'h=(x:Int):=fun h=>by simp[nz,e3]
   have q:∀t o o',qx Tryz.prog .quo t o o' (.int .u32 (x:Int)) (.int .u32 256)=some (.int .u32 ((x/256:Nat):Int)):=by
    intro t o o'
    rw[yx _ _ _ _ _ _ _ qe,zn2 qe,qJ qe qe]
    rfl
   have w1:IntKind.i64.wrap ((c:Int)+1)=((c+1:Nat):Int):=qj
   rw[hch]
   have eR:uv (c+1+(jO b).length)++(Z++yA (x/256,zK (a.map (·%256)))++wG (jO b))=uv (c+((x/256,zK (a.map (·%256)))::jO b).length)++(Z++wG ((x/256,zK (a.map (·%256)))::jO b)):=by
    simp only[zmu,wG,znf]
    congr 2;omega
   rw[<-eR,<-i1,qlq]
   have e0:LI .i64 (nz [])=[]:=rfl
   rw[e0]at ri
   simp only[znn]at ri
   clear eR i1 hch ih
   generalize nz (a.map (·%256))=A1 at*
   generalize yA (x/256,zK (a.map (·%256)))=Y at*
   generalize((i+a.length:Nat):Int)=I at*
   generalize((x/256:Nat):Int)=Q at*
   generalize((c+1:Nat):Int)=C1 at*
   have b10:B69_10 (S k 1 (LI .u32 (nz l))) (S 2 1 (LI .u8 Z)) (.int .i64 (c:Int)) (.int .i64 I) (.int .u32 Q) (S 2 1 (LI .i64 A1)) hp=B69_4 (S k 1 (LI .u32 (nz l))) (S 2 1 (LI .u8 (Z++Y))) (.int .i64 C1) (.int .i64 I) hp:=by
    rw[qu7]
    simp[rc,ap,w1]
   simp[hi,ai,en,zq,q]
   rw[ri,b10]
include hr
theorem qh5(hp:Hp):run cxX 69 [S k 1 (LI .u32 (nz l))] hp=some (S 2 1 (LI .u8 (jV (jO l))),hp):=by
 have h:=qy1 l h32 hl k l.length l 0 0 [] hp (zmx _) rfl hr qe qi
 rw[E69]
 simp at h
 simp[h,jV]
end
theorem JT(w:Nat)(h:w<18446744073709551616)(hp:Hp):run cxX 75 [fl w] hp=some (.sc (.int .u64 (kw w:Int)),hp):=by
 rw[E75]
 unfold kw
 by_cases hn:yQ w
 ·simp[jw,hn]
 ·by_cases hl:w<9223372036854775808
  ·have h1:¬((9223372036854775808:Int)<=(w:Int)):=qe
   have w1:IntKind.u64.wrap ((w:Int)+9223372036854775808)=((w+9223372036854775808:Nat):Int):=by rw[qu]<;>omega
   rw[if_neg hn,if_pos hl]
   generalize((w+9223372036854775808:Nat):Int)=W at*
   simp[jw,hn,XG,h1,w1]
  ·have h1:(9223372036854775808:Int)<=(w:Int):=qe
   have w1:IntKind.u64.wrap (18446744073709551615-(w:Int))=((18446744073709551615-w:Nat):Int):=by rw[qu]<;>omega
   rw[if_neg hn,if_neg hl]
   generalize((18446744073709551615-w:Nat):Int)=W at*
   simp[jw,hn,XG,h1,w1]
theorem qi0(c:Int)(hc:1<=c/\c<=256)(l:List Int)(hl:l.length<=4096)(h32:kY l)(k:Nat)(hp:Hp):∀(r:List Int) (i:Nat) (last:Int) (acc:List Int),l.drop i=r->acc.length<=10*i+20->i<=l.length->(0<=last/\last<4294967296)->(0<i->last=l.getD (i-1) 0)->
 B28_3 (.int .i64 c) (S k 1 (LI .u32 l)) (S 1 1 (LI .u8 acc)) (.int .i64 (i:Int)) hp=some (S 1 1 (LI .u8 (acc++zU c r i last)),hp):=by
 intro r
 induction r with
 |nil=>
  intro i last acc h ha hil hla hl2
  have:=qK h
  have hlt:¬(i<l.length):=qe
  rw[ql9]
  simp[zU,hlt]
 |cons x r ih=>
  intro i last acc h ha hil hla hl2
  obtain⟨e1,e2,hi,e3⟩:=qt h
  have hx:=h32 x (zm6 e1)
  have rm:∀t o o',qx Tryz.prog .rem t o o' (.int .i64 (i:Int)) (.int .i64 c)=some (.int .i64 ((i:Int)%c)):=by
   intro t o o'
   rw[zk _ _ _ _ _ _ _ qe,zj qe]
  have mc:max c 1=c:=qe
  have hm0:=Int.emod_nonneg (i:Int) (show c≠0 by omega)
  obtain⟨lst,hlst⟩:∃lst:Int,lst=if(i:Int)%max c 1=0 then 0 else last:=⟨_,rfl⟩
  have hb:0<=lst/\lst<4294967296:=by rw[hlst];split<;>omega
  have le:=qpq hx hb
  have ri:=qyf (x-lst) qe hp0
  have ws:IntKind.i64.wrap x=x:=qm qe qe
  have wd:IntKind.i64.wrap (x-lst)=x-lst:=qm qe qe
  have hw:IntKind.i64.wrap ((i:Int)+1)=((i+1:Nat):Int):=qj
  have ap:=yG .u8 acc 1 (.inl rfl) 1 qh 2 (uv (zz (x-lst))) qe
  have hh:=ih (i+1) x (acc++uv (zz (x-lst))) e2 qi qe hx (fun _=>by simp[zmv,e1])
  have ec:acc++zU c (x::r) i last=acc++uv (zz (x-lst))++zU c r (i+1) x:=by
   rw[hlst,znf];rfl
  rw[ec,<-hh]
  have b8:B28_8 (.int .i64 c) (S k 1 (LI .u32 l)) (S 1 1 (LI .u8 acc)) (.int .i64 (i:Int)) (.int .i64 lst) hp=B28_3 (.int .i64 c) (S k 1 (LI .u32 l)) (S 1 1 (LI .u8 (acc++uv (zz (x-lst))))) (.int .i64 ((i+1:Nat):Int)) hp:=by
   rw[zdb]
   clear hh ec
   generalize((i+1:Nat):Int)=I at*
   generalize uv (zz (x-lst))=u at*
   simp[hi,e3,zq,ws,wd,ri,ap,hw]
  rw[ql9,<-b8]
  by_cases h0:(i:Int)%c=0
  ·have el:lst=0:=by rw[hlst,mc,if_pos h0]
   rw[el]
   simp[hi,rm,h0]
  ·have el:lst=last:=by rw[hlst,mc,if_neg h0]
   have hpos:0<(i:Int)%c:=qe
   have hi0:0<i:=by
    rcases zpw i with e|e
    ·rw[e]at h0;simp at h0
    ·exact e
   have hl3:=hl2 hi0
   have w9:IntKind.i64.wrap ((i:Int)-1)=((i-1:Nat):Int):=qj
   have g0:(0:Int)<=((i-1:Nat):Int):=qe
   have en:l[(((i-1:Nat):Int)).toNat]?=some last:=by
    rw[zm3,hl3,zmv,zm0 qe];rfl
   have wl:IntKind.i64.wrap last=last:=qm qe qe
   rw[el]
   generalize((i-1:Nat):Int)=j at*
   simp[hi,rm,hpos,w9,g0,en,zq,wl]
theorem qmu(R c:Int)(hR:0<=R/\R<256)(hc:1<=c/\c<=256)(l:List Int)(hl:l.length<=4096)(h32:kY l)(k:Nat)(hp:Hp):
 run cxX 28 [.sc (.int .i64 R),.sc (.int .i64 c),S k 1 (LI .u32 l)] hp=some (S 1 1 (LI .u8 ([R]++uv c.toNat++zU c l 0 0)),hp):=by
 have hu:=qE (n:=c.toNat) qe
 have u:=jt c.toNat qe hp0
 rw[zoh qe]at u
 have h:=qi0 c hc l hl h32 k hp l 0 0 ([R]++uv c.toNat) rfl qi qe qe (fun h=>qe)
 have wR:IntKind.u8.wrap R=R:=zy hR.1 hR.2
 have wc:IntKind.u64.wrap c=c:=qu qe qe
 have ap:=yG .u8 [R] 1 (.inl rfl) 1 qh 2 (uv c.toNat) qi
 have e1:LI .u8 [R]=[.sc (.int .u8 R)]:=rfl
 rw[e1]at ap
 rw[E28]
 generalize [R]++uv c.toNat=U at*
 simp at h
 simp[wR,wc,u,ap,h]
theorem qiz(L:List Nat)(hL:Ws L)(hlen:L.length<=1000)(k:Nat)(hp:Hp):∀(r:List Nat) (i p:Nat) (Z:List Int),L.drop i=r->zO (p::r.map kw)->p<18446744073709551616->Z.length<=1000+10*i->
 B29_11 (S k 1 (LF L)) (S 1 1 (LI .u8 Z)) (.int .u64 (p:Int)) (.int .i64 (i:Int)) hp=some (S 1 1 (LI .u8 (Z++jL p (r.map kw))),hp):=by
 intro r
 induction r with
 |nil=>
  intro i p Z h hn hp' hZ
  have h1:=qK h
  have ll:(LF L).length=L.length:=by simp[LF]
  have hlt:¬(i<L.length):=qe
  rw[qd1]
  simp[hlt,jL,ll]
 |cons x r ih=>
  intro i p Z h hn hp' hZ
  obtain⟨e1,e2,hi,e3⟩:=qt h
  have hx:x<18446744073709551616:=hL x (by rw[<-e3];exact znb _)
  have ky:=JT x hx hp0
  have kl:=Qg x hx
  have hpk:p<=kw x:=hn.1
  have hu:=qE (n:=kw x-p) qe
  have wu:=jt (kw x-p) qe hp0
  have ap:=yG .u8 Z 1 (.inl rfl) 1 qh 2 (uv (kw x-p)) qe
  have hi2:=ih (i+1) (kw x) (Z++uv (kw x-p)) e2 hn.2 kl qi
  have w1:IntKind.u64.wrap ((kw x:Int)-(p:Int))=((kw x-p:Nat):Int):=by rw[qu]<;>omega
  have w2:IntKind.i64.wrap ((i:Int)+1)=((i+1:Nat):Int):=qj
  have e:Z++jL p ((x::r).map kw)=Z++uv (kw x-p)++jL (kw x) (r.map kw):=by rw[znf];rfl
  have al:(LF L)[i]?=some (fl x):=by
   unfold LF
   rw[zne,e1];rfl
  have ll:(LF L).length=L.length:=by simp[LF]
  have hlt:(i:Int)<(L.length:Int):=qe
  rw[e,<-hi2,qd1]
  obtain⟨F,hF⟩:∃F,fl x= .sc F:=⟨_,rfl⟩
  rw[hF]at ky al
  generalize((kw x-p:Nat):Int)=D at*
  generalize((i+1:Nat):Int)=I at*
  have g1:(0:Int)<=(i:Int):=qe
  have ix:∀k,jA 1 (S k 1 (LF L)) (.int .i64 (i:Int))=some [.sc F]:=by
   intro k
   rw[XZ,if_pos g1,zm3,al];rfl
  generalize LF L=LL at*
  generalize uv (kw x-p)=U at*
  simp[ll,hi,ix,zq,ky,w1,wu,ap,w2]
theorem Zt(n:Int)(hn:zw n)(Z:List Int)(hZ:Z.length<=1000):run cxX 70 [.sc (.int .u64 n)] hp0=some (S 2 1 (LI .u8 (uv n.toNat)),hp0)/\(uv n.toNat).length<=10/\jm 1 1 (S 1 1 (LI .u8 Z)) (S 2 1 (LI .u8 (uv n.toNat)))=some (S 1 1 (LI .u8 (Z++uv n.toNat)))/\IntKind.u64.wrap n=n:=by
 have h1:n.toNat<18446744073709551616:=by have:=hn.2;omega
 have hu:=qE h1
 have:=jt n.toNat h1 hp0
 rw[zoh hn.1]at this
 exact⟨this,hu,yG .u8 Z 1 (.inl rfl) 1 qh 2 _ qe,qu hn.1 (by have:=hn.2;omega)⟩
theorem qnf(k:Nat)(L:AV)(lo hi:Value)(E:List Int)(hE:∀n∈E,zw n)(h6:E.length=6)(hp:Hp):∀(f i:Nat) (Z:List Int),i+f=6->Z.length<=100+10*i->
 B29_3 lo hi L (S 1 1 (LI .u8 Z)) (.int .i64 (i:Int)) (LI .u32 E) hp=B29_3 lo hi L (S 1 1 (LI .u8 (Z++((E.drop i).map fun n=>uv n.toNat).flatten))) (.int .i64 6) (LI .u32 E) hp:=by
 intro f
 induction f with
 |zero=>
  intro i Z h hZ
  have e:i=6:=qe
  subst e
  rw[zn1 qe]
  simp
 |succ f ih=>
  intro i Z h hZ
  have hi':i<E.length:=qe
  obtain⟨n,hn⟩:∃n,E[i]=n:=⟨_,rfl⟩
  have ed:E.drop i=n::E.drop (i+1):=by rw[znp hi',hn]
  obtain⟨u1,u2,u3,u4⟩:=Zt n (hE n (by rw[<-hn];exact znb _)) Z qe
  have ix:idx 6 (.int .i64 (i:Int))=some i:=zp .i64 qe
  have g:=jN .u32 E i hi'
  rw[show E.getD i 0=n by rw[zmv,zm0 hi',hn];rfl]at g
  have hlt:i<6:=qe
  have w2:IntKind.i64.wrap ((i:Int)+1)=((i+1:Nat):Int):=qj
  have i1:=ih (i+1) (Z++uv n.toNat) qe qi
  have e:Z++((E.drop i).map fun n=>uv n.toNat).flatten=Z++uv n.toNat++((E.drop (i+1)).map fun n=>uv n.toNat).flatten:=by rw[ed];simp
  rw[e,<-i1,ql8]
  clear i1 e
  generalize((i+1:Nat):Int)=I at*
  generalize uv n.toNat=U at*
  generalize LI .u32 E=EE at*
  have gz:∀n,Nat.add 0 n=n:=fun n=>zm4 n
  have hlt2:(i:Int)<6:=qe
  simp[hlt,hlt2,ix,g,u4,u1,u3,w2]
theorem qf4(K:Int)(g:Gs)(k:Nat)(hK:0<=K/\K<256)(gw:g.W)(hn:JB g.nf.L=0)(hlen:g.L.length<=200)(hp:Hp):
 run cxX 29 [.sc (.int .i64 K),.sc (.int .u32 g.M),.agg [.sc (.int .u32 g.e0),.sc (.int .u32 g.e1),.sc (.int .u32 g.e2),.sc (.int .u32 g.e3),.sc (.int .u32 g.e4),.sc (.int .u32 g.e5)],fl g.lo,fl g.hi,S k 1 (LF g.L)] hp=
  some (S 1 1 (LI .u8 (yy K g.nf)),hp):=by
 have p:=gw.pos
 obtain⟨m1,m2,m3,m4⟩:=Zt g.M p.1 [K] qg
 have hE:∀n∈[g.e0,g.e1,g.e2,g.e3,g.e4,g.e5],zw n:=by
  intro n hn
  simp only[zmy,zqv,or_false]at hn
  rcases hn with e|e|e|e|e|e<;>rw[e]
  ·exact p.2.1
  ·exact p.2.2.1
  ·exact p.2.2.2.1
  ·exact p.2.2.2.2.1
  ·exact p.2.2.2.2.2.1
  ·exact p.2.2.2.2.2.2
 have u2:=(Zt g.e0 p.2.1 [] qg).2.1
 have u3:=(Zt g.e1 p.2.2.1 [] qg).2.1
 have u4:=(Zt g.e2 p.2.2.2.1 [] qg).2.1
 have u5:=(Zt g.e3 p.2.2.2.2.1 [] qg).2.1
 have u6:=(Zt g.e4 p.2.2.2.2.2.1 [] qg).2.1
 have u7:=(Zt g.e5 p.2.2.2.2.2.2 [] qg).2.1
 have ed:=qnf k (S k 1 (LF g.L)) (.float .f64 g.lo) (.float .f64 g.hi) [g.e0,g.e1,g.e2,g.e3,g.e4,g.e5] hE rfl hp 6 0 ([K]++uv g.M.toNat) rfl qi
 have klo:=JT g.lo gw.lo hp0
 have khi:=JT g.hi gw.hi hp0
 have llo:=Qg g.lo gw.lo
 have lhi:=Qg g.hi gw.hi
 have ulo:=jt (kw g.lo) llo hp0
 have uhi:=jt (kw g.hi) lhi hp0
 have nlo:=qE llo
 have nhi:=qE lhi
 have wK:IntKind.u8.wrap K=K:=zy hK.1 hK.2
 have e0:LI .u8 [K]=[.sc (.int .u8 K)]:=rfl
 have wl:IntKind.u8.wrap (g.L.length:Int)=(g.L.length:Int):=zy qe qe
 have el:[g.e0,g.e1,g.e2,g.e3,g.e4,g.e5].drop 0=[g.e0,g.e1,g.e2,g.e3,g.e4,g.e5]:=rfl
 rw[el]at ed
 simp only[zn0,zpn,zqp,List.flatten_nil,znj]at ed
 have e1:yy K g.nf=[K]++uv g.M.toNat++(uv g.e0.toNat++(uv g.e1.toNat++(uv g.e2.toNat++(uv g.e3.toNat++(uv g.e4.toNat++uv g.e5.toNat)))))++uv (kw g.lo)++uv (kw g.hi)++[(g.L.length:Int)]++jL 0 (g.L.map kw):=by
  unfold yy Gs.nf
  simp
 have lE:([K]++uv g.M.toNat++(uv g.e0.toNat++(uv g.e1.toNat++(uv g.e2.toNat++(uv g.e3.toNat++(uv g.e4.toNat++uv g.e5.toNat)))))).length<=71:=qi
 rw[e1]
 generalize [K]++uv g.M.toNat++(uv g.e0.toNat++(uv g.e1.toNat++(uv g.e2.toNat++(uv g.e3.toNat++(uv g.e4.toNat++uv g.e5.toNat)))))=Z at*
 have a1:=yG .u8 Z 1 (.inl rfl) 1 qh 2 (uv (kw g.lo)) qe
 have a2:=yG .u8 (Z++uv (kw g.lo)) 1 (.inl rfl) 1 qh 2 (uv (kw g.hi)) qi
 have a3:=qkz .u8 (Z++uv (kw g.lo)++uv (kw g.hi)) 1 (.inl rfl) 1 qh (g.L.length:Int) qi
 have nf:zO (0::g.L.map kw):=jE (Zx hn)
 have lp:=qiz g.L gw.L qe k hp g.L 0 0 (Z++uv (kw g.lo)++uv (kw g.hi)++[(g.L.length:Int)]) rfl nf qh qi
 have ll:(LF g.L).length=g.L.length:=by simp[LF]
 have b3:B29_3 (.float .f64 g.lo) (.float .f64 g.hi) (S k 1 (LF g.L)) (S 1 1 (LI .u8 Z)) (.int .i64 6) (LI .u32 [g.e0,g.e1,g.e2,g.e3,g.e4,g.e5]) hp=some (S 1 1 (LI .u8 (Z++uv (kw g.lo)++uv (kw g.hi)++[(g.L.length:Int)]++jL 0 (g.L.map kw))),hp):=by
  rw[<-lp,ql8]
  clear ed lp e1
  generalize LF g.L=LL at*
  generalize uv (kw g.lo)=U1 at*
  generalize uv (kw g.hi)=U2 at*
  simp only[znf]at a1 a2 a3⊢
  simp[klo,ulo,a1,khi,uhi,a2,ll,wl,a3]
 rw[b3]at ed
 have es:LI .u32 [g.e0,g.e1,g.e2,g.e3,g.e4,g.e5]=[.sc (.int .u32 g.e0),.sc (.int .u32 g.e1),.sc (.int .u32 g.e2),.sc (.int .u32 g.e3),.sc (.int .u32 g.e4),.sc (.int .u32 g.e5)]:=rfl
 rw[es]at ed
 rw[e0]at m3
 rw[E29]
 generalize [K]++uv g.M.toNat=Z0 at*
 generalize LF g.L=LL at*
 generalize Z++uv (kw g.lo)++uv (kw g.hi)++[(g.L.length:Int)]++jL 0 (g.L.map kw)=ZZ at*
 simp at ed
 simp[wK,m4,m1,m3,ed]
theorem YI{x:SkN}{v:AV}(hv:jU x v)(f:Fine x)(h64:Vg x)(hp:Hp):∃t,run cxX 12 [v] hp=some (S t 1 (LI .u8 (qy x)),hp)/\(t=1\/t=2):=by
 obtain⟨g,a,b,c,d,e,t,gw,gn,rfl⟩:=hv
 have kd:=(qZ.mp f.c).1
 have hk:=f.w.kind
 have six:x.kind=0\/x.kind=1\/x.kind=2\/x.kind=3\/x.kind=4\/x.kind=5:=qe
 unfold qy
 rw[E12]
 rcases six with k|k|k|k|k|k
 ·rw[if_pos k]
  obtain⟨s1,s2,s3,s4⟩:=wU f k
  have r1:=fun q=>qh5 (tn x.set) s3 s2 qi q hp0
  rw[s4]at r1
  have r2:∀q,run cxX 24 [S q 1 (LI .u32 x.set)] hp0=some (S 2 1 (LI .u8 (jV (jO (tn x.set)))),hp0):=by
   intro q;rw[E24];simp[r1]
  refine⟨2,?_,.inr rfl⟩
  generalize jV (jO (tn x.set))=Y at*
  simp[Qx,k,ql,qs,r2]
 ·rw[if_neg qe,if_pos k]
  obtain⟨s0,s1,s2,s3,s4⟩:=vd f k h64
  have r1:=fun q=>qh6 (tn x.hs) q (by simp;exact s1) s3 s2 hp0
  rw[s4]at r1
  have hu:=qE (n:=x.K.toNat) qe
  have u:=jt x.K.toNat qe hp0
  rw[zoh qe]at u
  have hl:=kf (l:=tn x.hs) (by simp;exact s1) s3
  have ap:=yG .u8 (uv x.K.toNat) 2 (.inr rfl) 1 qh 2 (zh (tn x.hs)) qe
  have wK:IntKind.u64.wrap x.K=x.K:=qu qe qe
  have r2:∀q,run cxX 25 [.sc (.int .i64 x.K),S q 1 (LI .u64 x.hs)] hp0=some (S 2 1 (LI .u8 (uv x.K.toNat++zh (tn x.hs))),hp0):=by
   intro q
   rw[E25]
   generalize uv x.K.toNat=U at*
   generalize zh (tn x.hs)=Y at*
   simp[wK,u,r1,ap]
  refine⟨2,?_,.inr rfl⟩
  generalize uv x.K.toNat++zh (tn x.hs)=Y at*
  simp[Qx,k,ql,qs,r2]
 ·rw[if_neg qe,if_neg qe,if_pos k]
  obtain⟨s0,s1,s2,s3,s4⟩:=ve f k
  have r1:=fun q=>qh9 (tn x.rg) q qi s3 hp0
  rw[s4]at r1
  have hl:=QU (l:=tn x.rg) qi s3
  have ap:=yG .u8 [x.P] 1 (.inl rfl) 1 qh 0 (jh (tn x.rg)) qi
  have wK:IntKind.u8.wrap x.P=x.P:=zy qe qe
  have e1:LI .u8 [x.P]=[.sc (.int .u8 x.P)]:=rfl
  have e2:[x.P]++jh (tn x.rg)=x.P::jh (tn x.rg):=rfl
  rw[e1,e2]at ap
  have r2:∀q,run cxX 26 [.sc (.int .i64 x.P),S q 1 (LI .u8 x.rg)] hp0=some (S 1 1 (LI .u8 (x.P::jh (tn x.rg))),hp0):=by
   intro q
   obtain⟨hq,r1⟩:=r1 (rk q)
   rw[E26]
   generalize LI .u8 (x.P::jh (tn x.rg))=Y2 at*
   generalize jh (tn x.rg)=Y at*
   simp[wK,r1,ap]
  refine⟨1,?_,.inl rfl⟩
  generalize x.P::jh (tn x.rg)=Y at*
  simp[Qx,k,ql,qs,r2]
 ·rw[if_neg qe,if_neg qe,if_neg qe,if_pos k]
  obtain⟨s0,s9,s1,s2,s3,s4⟩:=xP f k
  have r1:=fun q=>qh8 (tn x.bs) q qi s3 s2 hp0
  rw[s4]at r1
  have hu:=qE (n:=x.B.toNat) qe
  have u:=jt x.B.toNat qe hp0
  rw[zoh qe]at u
  have hl:=kp (l:=tn x.bs) (by simp;exact s1) s3 s2
  have a1:=qkz .u8 (uv x.B.toNat) 2 (.inr rfl) 1 qh x.H qe
  have a2:=yG .u8 (uv x.B.toNat++[x.H]) 2 (.inr rfl) 1 qh 2 (zB (tn x.bs)) qi
  have wB:IntKind.u64.wrap x.B=x.B:=qu qe qe
  have wH:IntKind.u8.wrap x.H=x.H:=zy qe qe
  have r2:∀q,run cxX 27 [.sc (.int .i64 x.B),.sc (.int .i64 x.H),S q 1 (LI .u32 x.bs)] hp0=some (S 2 1 (LI .u8 (uv x.B.toNat++[x.H]++zB (tn x.bs))),hp0):=by
   intro q
   rw[E27]
   generalize LI .u8 (uv x.B.toNat++[x.H]++zB (tn x.bs))=Y3 at*
   generalize LI .u8 (uv x.B.toNat++[x.H])=Y2 at*
   generalize uv x.B.toNat=U at*
   generalize zB (tn x.bs)=Y at*
   simp[wB,u,wH,a1,r1,a2]
  refine⟨2,?_,.inr rfl⟩
  generalize uv x.B.toNat++[x.H]++zB (tn x.bs)=Y at*
  simp[Qx,k,ql,qs,r2]
 ·rw[if_neg qe,if_neg qe,if_neg qe,if_neg qe,if_pos k]
  obtain⟨s0,s1,s2,s3⟩:=vf f k
  have r2:=fun q=>qmu x.R x.C qe s1 x.cs qe f.w.cs q hp0
  refine⟨1,?_,.inl rfl⟩
  generalize [x.R]++uv x.C.toNat++zU x.C x.cs 0 0=Y at*
  simp[Qx,k,ql,qs,r2]
 ·rw[if_neg qe,if_neg qe,if_neg qe,if_neg qe,if_neg qe]
  obtain⟨s0,s1,s2⟩:=xe f k
  have hl:g.L.length<=16:=by rw[<-gn]at s2;simpa[Gs.nf]using s2
  have r2:=fun q=>qf4 x.gK g q ⟨qe,qe⟩ gw (by rw[gn];exact s1) qe hp0
  rw[gn]at r2
  refine⟨1,?_,.inl rfl⟩
  generalize yy x.gK x.g=Y at*
  simp[Qx,k,ql,qs,qr,qo,r2]
theorem Xi{x y:SkN}{r r':AV}(hv:jU x r)(hu:jU y r')(fx:Fine x)(fy:Fine y)(hx:Vg x)(hy:Vg y)(hl:jR x y=true)(k1 k2:Nat)(M:AV)(hro:AI.ro M=M)(hp H1 H2 H3:Hp)(e3:Int)
 (t1:run cxX 21 [.sc (.int .u8 x.kind),S (rk k1) 1 (LI .u8 (qy x)),M] hp=some (.tup [r,.sc (.int .i64 0)],H1))
 (t2:run cxX 21 [.sc (.int .u8 x.kind),S (rk k2) 1 (LI .u8 (qy y)),M] H1=some (.tup [r',.sc (.int .i64 0)],H2))
 (mt:run cxX 30 [M,.sc (.int .i64 ((VF x y).length:Int))] H2=some (.sc (.int .i64 e3),H3)):
 ∃t,run cxX 13 [.sc (.int .u8 x.kind),S k1 1 (LI .u8 (qy x)),S k2 1 (LI .u8 (qy y)),M] hp=
  if(zH x y).2=0/\e3=0 then some (.tup [S t 1 (LI .u8 (VF x y)),.sc (.int .i64 0)],H3)
  else if(zH x y).2=0 then some (.tup [S 2 1 [],.sc (.int .i64 e3)],H3)else some (.tup [S 2 1 [],.sc (.int .i64 (zH x y).2)],H2):=by
 obtain⟨L,rfl,l1,l2,lc⟩:=hv.cl
 obtain⟨L',rfl,m1,m2,mc⟩:=hu.cl
 have li:=qms lc.sk mc.sk hp0
 rw[hl]at li
 obtain⟨t,hb,fb⟩:=qm7 fx fy (rk k1) (rk k2) hp0 lc.sk mc.sk hx hy hl
 have g23:∀(l:List AV),l.length=23->qr l 0 23=some l:=fun l hl=>Kb l 23 hl
 have lv:=lc.vl;have lr:=lc.ro;have mv:=mc.vl;have mr:=mc.ro
 have ln:=lc.len;have mn:=mc.len
 refine⟨rk (rk t),?_⟩
 rw[E13]
 generalize qy x=Y1 at*
 generalize qy y=Y2 at*
 generalize(zH x y).2=er at*
 generalize VF x y=Z at*
 by_cases he:er=0
 ·by_cases h3:e3=0
  ·simp[-List.map_map,-List.all_map,-List.all_eq_true,hro,t1,t2,l1,l2,m1,m2,jP,g23,lr,mr,lv,mv,ln,mn,li,fb,he,h3,mt]
  ·simp[-List.map_map,-List.all_map,-List.all_eq_true,hro,t1,t2,l1,l2,m1,m2,jP,g23,lr,mr,lv,mv,ln,mn,li,fb,he,h3,mt]
 ·simp[-List.map_map,-List.all_map,-List.all_eq_true,hro,t1,t2,l1,l2,m1,m2,jP,g23,lr,mr,lv,mv,ln,mn,li,fb,he,mt]
theorem qik{x y:SkN}{v u:AV}(hv:jU x v)(hu:jU y u)(fx:Fine x)(fy:Fine y)(hx:Vg x)(hy:Vg y)(hl:jR x y=true)(k1 k2:Nat)(hp:Hp):
 ∃t hp',run cxX 13 [.sc (.int .u8 x.kind),S k1 1 (LI .u8 (qy x)),S k2 1 (LI .u8 (qy y)),.sc (.pointer none)] hp=some (.tup [S t 1 (LI .u8 (VF x y)),.sc (.int .i64 (zH x y).2)],hp')/\∀a,a<hp.next->hp'.get a=hp.get a:=by
 obtain⟨r,H1,i1,t1,n1,g1⟩:=Jc hv fx hx (rk k1) (.sc (.pointer none)) rfl hp hp (wF _ hp)
 obtain⟨r',H2,i2,t2,n2,g2⟩:=Jc hu fy hy (rk k2) (.sc (.pointer none)) rfl H1 H1 (wF _ H1)
 have fr:∀a,a<hp.next->H2.get a=hp.get a:=fun a ha=>by rw[g2 a (znc ha n1),g1 a ha]
 rw[<-Qf hl]at t2
 obtain⟨t,fm⟩:=Xi i1 i2 fx fy hx hy hl k1 k2 (.sc (.pointer none)) rfl hp H1 H2 H2 0 t1 t2 (wF _ H2)
 by_cases h:(zH x y).2=0
 ·rw[if_pos ⟨h,rfl⟩]at fm
  rw[h]
  exact⟨t,H2,fm,fr⟩
 ·rw[if_neg (fun q=>h q.1),if_neg h]at fm
  have e:VF x y=[]:=if_neg h
  rw[e]
  exact⟨2,H2,fm,fr⟩
theorem zd5{x y:SkN}{v u:AV}(hv:jU x v)(hu:jU y u)(fx:Fine x)(fy:Fine y)(hx:Vg x)(hy:Vg y)(hl:jR x y=true)(k1 k2:Nat)(hp:Hp):
 ∃t hp',run cxX 13 [.sc (.int .u8 x.kind),S k1 1 (LI .u8 (qy x)),S k2 1 (LI .u8 (qy y)),.sc (.pointer none)] hp=some (.tup [S t 1 (LI .u8 (VF x y)),.sc (.int .i64 (zH x y).2)],hp'):=by
 obtain⟨t,hp',h,_⟩:=qik hv hu fx fy hx hy hl k1 k2 hp
 exact⟨t,hp',h⟩
theorem qj0:Vg skZ:=by intro n hn;cases hn
theorem qcs:qy skZ=[0]:=by
 have e:qy skZ=uv 0++[]:=rfl
 rw[e,uv]
 rfl
theorem qit(hp:Hp):∃hp',run cxX 9 [] hp=some (.sc (.bool true),hp'):=by
 obtain⟨t,hp',fm⟩:=zd5 Jp Jp vj vj qj0 qj0 (qc5 _) 0 0 hp
 have e:VF skZ skZ=[0]:=by
  unfold VF
  rw[KO vj,if_pos rfl,qny vj qh qh,qcs]
 have e2:(zH skZ skZ).2=0:=by rw[KO vj]
 rw[e,e2,qcs]at fm
 refine⟨hp',?_⟩
 have k0:skZ.kind=0:=rfl
 rw[k0]at fm
 have f':run cxX 13 [.sc (.int .u8 0),S 0 1 [.sc (.int .u8 0)],S 0 1 [.sc (.int .u8 0)],.sc (.pointer none)] hp=some (.tup [S t 1 (LI .u8 [0]),.sc (.int .i64 0)],hp'):=fm
 rw[E9]
 simp[f']
 rfl
theorem qsp(s t:Sm)(k1 k2 k3 k4:Nat)(oks:s.Ok)(okt:t.Ok)(hs:s.hs.length<=40/\s.fl.length<=40)(ht:t.hs.length<=40/\t.fl.length<=40)(hp:Hp):
 ∃A B,(A.length=23/\A.all vl=true/\Cl (jZ s) (A.map ro1))/\(B.length=23/\B.all vl=true/\Cl (jZ {t with kind:=s.kind,A:=s.A,B:=s.B,wide:=s.wide}) (B.map ro1))/\run cxX 11 [smA s k1 k2,smA t k3 k4] hp=some (.tup [.agg A,.agg B],hp):=by
 have okt2:Sm.Ok {t with kind:=s.kind,A:=s.A,B:=s.B,wide:=s.wide}:=⟨oks.kind,oks.A,oks.B,oks.wide,okt.hs,okt.fl⟩
 obtain⟨r,hr,e⟩:=VY s (rk k1) (rk k2) oks hs.1 hs.2 hp0
 obtain⟨r',hr',e'⟩:=VY {t with kind:=s.kind,A:=s.A,B:=s.B,wide:=s.wide} (rk k3) (rk k4) okt2 ht.1 ht.2 hp0
 obtain⟨A,rfl,la,va,ca⟩:=hr.cl
 obtain⟨B,rfl,lb,vb,cb⟩:=hr'.cl
 refine⟨A,B,⟨la,va,ca⟩,⟨lb,vb,cb⟩,?_⟩
 rw[E11]
 have gS7:∀(a b c d e f g:AV),qr [a,b,c,d,e,f,g] 0 7=some [a,b,c,d,e,f,g]:=fun _ _ _ _ _ _ _=>rfl
 have p0:∀(a b c d e f g x:AV),qo [a,b,c,d,e,f,g] 0 [x]=some [x,b,c,d,e,f,g]:=fun _ _ _ _ _ _ _ _=>rfl
 have p1:∀(a b c d e f g x:AV),qo [a,b,c,d,e,f,g] 1 [x]=some [a,x,c,d,e,f,g]:=fun _ _ _ _ _ _ _ _=>rfl
 have p2:∀(a b c d e f g x:AV),qo [a,b,c,d,e,f,g] 2 [x]=some [a,b,x,d,e,f,g]:=fun _ _ _ _ _ _ _ _=>rfl
 have p3:∀(a b c d e f g x:AV),qo [a,b,c,d,e,f,g] 3 [x]=some [a,b,c,x,e,f,g]:=fun _ _ _ _ _ _ _ _=>rfl
 have g23:∀(l:List AV),l.length=23->qr l 0 23=some l:=fun l hl=>Kb l 23 hl
 simp[-List.map_map,-List.all_map,-List.all_eq_true,ql,p0,p1,p2,p3,gS7,e,e',g23,jP,la,lb,va,vb,ca.vl,ca.ro,cb.vl,cb.ro,ca.len,cb.len]
end Go.Proofs.YtmajcennjgjlnaaGreat.AI
namespace Go.Proofs.YtmajcennjgjlnaaGreat.AI
open Go Go.RowKit Go.ChangeShapes Go.WideShapes Go.ChangeAt
set_option linter.unusedVariables false
set_option linter.unusedSimpArgs false
theorem vlP:∀(l:List (Int×Int)) (x:AV),x∈LP l->vl x=true
 |[],x,h=>by cases h
 |p::l,x,h=>by
  simp only[LP,zmy]at h
  rcases h with rfl|rfl|h
  ·rfl
  ·rfl
  ·exact vlP l x h
def VP:List (Int×Int)->List Value
 |[]=>[]
 |p::l=>.int .u64 p.1::.int .u8 p.2::VP l
theorem zg9:∀l,(VP l).length=2*l.length
 |[]=>rfl
 |p::l=>by simp only[VP,zmu,zg9 l];omega
theorem zhc:∀(l:List (Int×Int)) (i:Nat) (v:Value),(VP l)[i]?=some v->∃p,l[i/2]?=some p/\v=if i%2=0 then .int .u64 p.1 else .int .u8 p.2
 |[],i,v,h=>by simp[VP]at h
 |p::l,0,v,h=>by
  simp only[VP,zpq,zqr]at h
  exact⟨p,rfl,by simp[h]⟩
 |p::l,1,v,h=>by
  simp only[VP,zpa,zpq,zqr]at h
  exact⟨p,rfl,by simp[h]⟩
 |p::l,i+2,v,h=>by
  simp only[VP,zpa]at h
  obtain⟨q,h1,h2⟩:=zhc l i v h
  refine⟨q,?_,?_⟩
  ·rw[show(i+2)/2=i/2+1 by omega,zpa];exact h1
  ·rw[show(i+2)%2=i%2 by omega];exact h2
theorem zg2:∀(l:List (Int×Int)) (i:Nat) (x:AV) (v:Value),(LP l)[i]?=some x->(VP l)[i]?=some v->x= .sc v/\v.oneCell'=true
 |[],i,x,v,h,_=>by simp[LP]at h
 |p::l,0,x,v,h,h'=>by
  simp only[LP,VP,zpq,zqr]at h h'
  subst h h'
  exact⟨rfl,rfl⟩
 |p::l,1,x,v,h,h'=>by
  simp only[LP,VP,zpa,zpq,zqr]at h h'
  subst h h'
  exact⟨rfl,rfl⟩
 |p::l,i+2,x,v,h,h'=>by
  simp only[LP,VP,zpa]at h h'
  exact zg2 l i x v h h'
section
variable {H:Type}{enc:TypeId×Value->H}{P:Program}{W:World}{fuel:Nat}{t e tu t8:TypeId}{cs:List Value}{y:DataW H×List MemPlace}{fs:Array Field}
theorem rd_pairs{f0 f1:Field}(ht:P.underlying t=some (.slice e))(he:P.underlying e=some (.struct #[f0,f1])) (h0:P.underlying f0.type=some (.int .u64)) (h1:P.underlying f1.type=some (.int .u8))
 (o0:f0.offset=0) (o1:f1.offset=1) (hc:P.cellsOf e=2) (c0:P.cellsOf f0.type=1) (c1:P.cellsOf f1.type=1) (h:DataW.trod enc P W 0 (fun _=>true) true fuel t cs=some y):
 ∃k l v,cs=[v]/\RelR (VB W) W (S k 2 (LP l)) v/\∀p∈l,InI p:=by
 rcases DataW.trod_slice ht h with⟨hcs,_⟩|⟨a,len,cap,elems,rest,n,_,hcs,_,_,hl,_,hlen,hel,_,_⟩
 ·exact⟨2,[],_,hcs,.sc nil0 rfl,qg⟩
 ·have each:∀i,i<len->∃p:Int×Int,InI p/\W.cell? (a.add (i*2))=some (.int .u64 p.1)/\W.cell? (a.add (i*2+1))=some (.int .u8 p.2):=by
   intro i hi
   have hb:=hel i hi
   rw[zm0 qe,hc,Option.bind_eq_some_iff]at hb
   obtain⟨cs',hcs',hy'⟩:=hb
   obtain⟨xs,m,_,_,hcl,hxl,hf⟩:=DataW.trod_struct he hy'
   have g0:=hf 0 f0 rfl
   have g1:=hf 1 f1 rfl
   rw[o0,c0]at g0
   rw[o1,c1]at g1
   rw[hc]at hcl
   obtain⟨y0,hy0⟩:∃y,xs[0]?=some y:=⟨_,zm0 (by rw[hxl];simp)⟩
   obtain⟨y1,hy1⟩:∃y,xs[1]?=some y:=⟨_,zm0 (by rw[hxl];simp)⟩
   rw[hy0]at g0
   rw[hy1]at g1
   obtain⟨n0,q0,w0⟩:=rd_int h0 g0
   obtain⟨n1,q1,w1⟩:=rd_int h1 g1
   have z0:=cell_at q0
   have z1:=cell_at q1
   have hc3:=(World.cells?_some hcs').2.2
   refine⟨(n0,n1),⟨w0.u64,w1.u8⟩,?_,?_⟩
   ·have:=hc3 0 qe
    rw[Addr.add_add,zoi]at this
    rw[this];exact z0
   ·have:=hc3 1 qe
    rw[Addr.add_add]at this
    rw[this];exact z1
  have ch:∃f:Nat->Int×Int,∀i,i<len->InI (f i)/\W.cell? (a.add (i*2))=some (.int .u64 (f i).1)/\W.cell? (a.add (i*2+1))=some (.int .u8 (f i).2):=by
   refine⟨fun i=>if hi:i<len then(each i hi).choose else(0,0),fun i hi=>?_⟩
   simp only[dif_pos hi]
   exact(each i hi).choose_spec
  obtain⟨f,hf⟩:=ch
  have hg:∀(i:Nat) (p:Int×Int),((List.range len).map f)[i]?=some p->i<len/\p=f i:=by
   intro i p hp
   rw[zne,zp5]at hp
   obtain⟨j,hj,rfl⟩:=hp
   obtain⟨h1,h2⟩:=zm2.mp hj
   simp at h1 h2
   subst h2
   exact⟨h1,rfl⟩
  refine⟨0,(List.range len).map f,_,hcs,?_,?_⟩
  ·have:=zb3 (W:=W) (a:=a) (n:=len) (cap:=cap) (sz:=2) (cs:=LP ((List.range len).map f)) (vs:=VP ((List.range len).map f)) qe (by rw[qjr];simp;omega) (by rw[qjr,zg9]) hl
    (fun i v hv=>by
     obtain⟨p,hp,rfl⟩:=zhc _ i v hv
     obtain⟨hi,rfl⟩:=hg _ _ hp
     obtain⟨_,q0,q1⟩:=hf _ hi
     by_cases hm:i%2=0
     ·rw[if_pos hm,<-q0]
      congr 2
      omega
     ·rw[if_neg hm,<-q1]
      congr 2
      omega)
    (fun x hx=>vlP _ x hx)
    (fun i x v hx hv=>by
     obtain⟨rfl,ho⟩:=zg2 _ i x v hx hv
     exact .sc _ ho)
   exact this (fun _=>.fr)
  ·intro p hp
   obtain⟨i,hi,rfl⟩:=zns.mp hp
   exact(hf i (by simpa using hi)).1
end
end Go.Proofs.YtmajcennjgjlnaaGreat.AI
namespace Go.Proofs.YtmajcennjgjlnaaGreat.AI
open Go
set_option linter.unusedVariables false
set_option linter.unusedSimpArgs false
set_option maxRecDepth 100000
set_option maxHeartbeats 0
theorem KV(a b c d e f g:AV):qr [a,b,c,d,e,f,g] 0 7=some [a,b,c,d,e,f,g]:=rfl
def Mt(u n:Int):List AV:=[.sc (.int .i64 u),.sc (.int .i64 n)]
theorem XN(c:Nat)(u n m:Int)(hu:0<=u/\u<=n)(hn:n<2305843009213693952)(hm:0<=m/\m<2305843009213693952)(hp:Hp)(h:hp.rd c 0=some (Mt u n)):
 run cxX 30 [.ptr c 0 0,.sc (.int .i64 m)] hp=if n-u<m then some (.sc (.int .i64 14),hp)else some (.sc (.int .i64 0),hp.put c 0 (Mt (u+m) n)):=by
 have m1:max m 0=m:=qe
 have w1:IntKind.i64.wrap (n-u)=n-u:=qm qe qe
 have w2:IntKind.i64.wrap (u+m)=u+m:=qm qe qe
 unfold Mt at*
 rw[E30]
 by_cases hlt:n-u<m
 ·rw[if_pos hlt]
  simp[h,ql,m1,w1,hlt]
 ·rw[if_neg hlt]
  simp[h,ql,m1,w1,hlt,w2,qo]
theorem zfz(kd:Int)(Y1 Y2:List Int)(k1 k2:Nat)(M:AV)(hro:AI.ro M=M)(hp H1:Hp)
 (t1:run cxX 21 [.sc (.int .u8 kd),S (rk k1) 1 (LI .u8 Y1),M] hp=some (.tup [.agg xZ,.sc (.int .i64 14)],H1)):
 run cxX 13 [.sc (.int .u8 kd),S k1 1 (LI .u8 Y1),S k2 1 (LI .u8 Y2),M] hp=some (.tup [S 2 1 [],.sc (.int .i64 14)],H1):=by
 have l1:xZ.length=23:=rfl
 have v1:xZ.all vl=true:=rfl
 rw[E13]
 generalize xZ=Z at*
 simp[-List.map_map,-List.all_map,-List.all_eq_true,hro,t1,l1,v1,jP]
theorem zfy{x:SkN}{r:AV}(hv:jU x r)(kd:Int)(Y1 Y2:List Int)(k1 k2:Nat)(M:AV)(hro:AI.ro M=M)(hp H1 H2:Hp)
 (t1:run cxX 21 [.sc (.int .u8 kd),S (rk k1) 1 (LI .u8 Y1),M] hp=some (.tup [r,.sc (.int .i64 0)],H1))
 (t2:run cxX 21 [.sc (.int .u8 kd),S (rk k2) 1 (LI .u8 Y2),M] H1=some (.tup [.agg xZ,.sc (.int .i64 14)],H2)):
 run cxX 13 [.sc (.int .u8 kd),S k1 1 (LI .u8 Y1),S k2 1 (LI .u8 Y2),M] hp=some (.tup [S 2 1 [],.sc (.int .i64 14)],H2):=by
 obtain⟨L,rfl,l2,v2,lc⟩:=hv.cl
 have l1:xZ.length=23:=rfl
 have v1:xZ.all vl=true:=rfl
 have lv:=lc.vl;have lr:=lc.ro;have ln:=lc.len
 rw[E13]
 generalize xZ=Z at*
 simp[-List.map_map,-List.all_map,-List.all_eq_true,hro,t1,t2,l1,v1,l2,v2,lv,lr,ln,jP]
theorem zd4{x y:SkN}{v u:AV}(hv:jU x v)(hu:jU y u)(fx:Fine x)(fy:Fine y)(hx:Vg x)(hy:Vg y)(hl:jR x y=true)(k1 k2:Nat)(n:Int)(hn:0<=n/\n<4294967296)(c:Nat)(hp:Hp)(hc:c<hp.next)(h:hp.rd c 0=some (Mt 0 n))(A B L:Int)
 (hA:A=64*((qy x).length:Int)+16384) (hB:B=64*((qy y).length:Int)+16384) (hL:L=(VF x y).length) (lx:(qy x).length<=1000000) (ly:(qy y).length<=1000000) (lz:(VF x y).length<=1000000):
 ∃t e w hp',run cxX 13 [.sc (.int .u8 x.kind),S k1 1 (LI .u8 (qy x)),S k2 1 (LI .u8 (qy y)),.ptr c 0 0] hp=some (.tup [S t 1 (LI .u8 (if e=0 then VF x y else [])),.sc (.int .i64 e)],hp')/\
  hp.next<=hp'.next/\hp'.rd c 0=some (Mt w n)/\w<=n/\((e=0/\(zH x y).2=0/\A+B+L<=n/\w=A+B+L)\/(e=14/\((zH x y).2=0->n<A+B+L))\/(e=(zH x y).2/\e≠0)):=by
 have m1:=XN c 0 n A qe qe qe hp h
 rw[Int.sub_zero,Int.zero_add]at m1
 by_cases c1:n<A
 ·rw[if_pos c1,hA]at m1
  have t1:=Zf hv fx hx (rk k1) (.ptr c 0 0) rfl hp hp m1
  exact⟨2,14,0,hp,zfz _ _ _ _ _ _ rfl _ _ t1,zmx _,h,hn.1,.inr (.inl ⟨rfl,fun _=>qe⟩)⟩
 ·rw[if_neg c1,hA]at m1
  obtain⟨r,H1,i1,t1,n1,g1⟩:=Jc hv fx hx (rk k1) (.ptr c 0 0) rfl hp _ m1
  rw[<-hA]at n1 g1
  have hc1:c<(hp.put c 0 (Mt A n)).next:=hc
  have r1:H1.rd c 0=some (Mt A n):=by rw[xo (g1 c hc1),qp]
  have hc2:c<H1.next:=znc hc1 n1
  have m2:=XN c A n B qe qe qe H1 r1
  by_cases c2:n-A<B
  ·rw[if_pos c2,hB]at m2
   have t2:=Zf hu fy hy (rk k2) (.ptr c 0 0) rfl H1 H1 m2
   rw[<-Qf hl]at t2
   exact⟨2,14,A,H1,zfy i1 _ _ _ _ _ _ rfl _ _ _ t1 t2,n1,r1,qe,.inr (.inl ⟨rfl,fun _=>qe⟩)⟩
  ·rw[if_neg c2,hB]at m2
   obtain⟨r',H2,i2,t2,n2,g2⟩:=Jc hu fy hy (rk k2) (.ptr c 0 0) rfl H1 _ m2
   rw[<-hB]at n2 g2
   rw[<-Qf hl]at t2
   have hc3:c<(H1.put c 0 (Mt (A+B) n)).next:=hc2
   have r2:H2.rd c 0=some (Mt (A+B) n):=by rw[xo (g2 c hc3),qp]
   have nn:hp.next<=H2.next:=zn7 n1 n2
   have m3:=XN c (A+B) n L qe qe qe H2 r2
   by_cases e0:(zH x y).2=0
   ·by_cases c3:n-(A+B)<L
    ·rw[if_pos c3,hL]at m3
     obtain⟨t,fm⟩:=Xi i1 i2 fx fy hx hy hl k1 k2 (.ptr c 0 0) rfl hp H1 H2 H2 14 t1 t2 m3
     rw[if_neg (fun q=>absurd q.2 qh),if_pos e0]at fm
     exact⟨2,14,A+B,H2,fm,nn,r2,qe,.inr (.inl ⟨rfl,fun _=>qe⟩)⟩
    ·rw[if_neg c3,hL]at m3
     obtain⟨t,fm⟩:=Xi i1 i2 fx fy hx hy hl k1 k2 (.ptr c 0 0) rfl hp H1 H2 _ 0 t1 t2 m3
     rw[if_pos ⟨e0,rfl⟩]at fm
     refine⟨t,0,A+B+L,_,fm,nn,?_,qe,.inl ⟨rfl,e0,qe,rfl⟩⟩
     rw[<-hL]
     exact qp _ _ _
   ·obtain⟨t,fm⟩:∃t,run cxX 13 [.sc (.int .u8 x.kind),S k1 1 (LI .u8 (qy x)),S k2 1 (LI .u8 (qy y)),.ptr c 0 0] hp=some (.tup [S 2 1 [],.sc (.int .i64 (zH x y).2)],H2):=by
     by_cases c3:n-(A+B)<L
     ·rw[if_pos c3,hL]at m3
      obtain⟨t,fm⟩:=Xi i1 i2 fx fy hx hy hl k1 k2 (.ptr c 0 0) rfl hp H1 H2 H2 14 t1 t2 m3
      rw[if_neg (fun q=>e0 q.1),if_neg e0]at fm
      exact⟨0,fm⟩
     ·rw[if_neg c3,hL]at m3
      obtain⟨t,fm⟩:=Xi i1 i2 fx fy hx hy hl k1 k2 (.ptr c 0 0) rfl hp H1 H2 _ 0 t1 t2 m3
      rw[if_neg (fun q=>e0 q.1),if_neg e0]at fm
      exact⟨0,fm⟩
    refine⟨2,(zH x y).2,A+B,H2,?_,nn,r2,qe,.inr (.inr ⟨rfl,e0⟩)⟩
    rw[if_neg e0]
    exact fm
theorem We(s t:Sm)(lim:Int)(hlim:0<=lim/\lim<4294967296)(k1 k2 k3 k4:Nat)(oks:s.Ok)(okt:t.Ok)(hp:Hp):∃hp',run cxX 5 [smA s k1 k2,smA t k3 k4,.sc (.int .u32 lim)] hp=some (.sc (.bool true),hp'):=by
 have li:=fun k k' hp=>qcc s k k' hp
 have li':=fun k k' hp=>qcc t k k' hp
 obtain⟨ha,aw⟩:=qit hp0
 have b4:B5_4 hp=some (.sc (.bool true),hp):=zgv hp
 rw[E5]
 by_cases hs:s.hs.length<=40/\s.fl.length<=40
 ·simp only[eq_true hs,decide_true]at li
  by_cases ht:t.hs.length<=40/\t.fl.length<=40
  ·simp only[eq_true ht,decide_true]at li'
   have okt2:Sm.Ok {t with kind:=s.kind,A:=s.A,B:=s.B,wide:=s.wide}:=⟨oks.kind,oks.A,oks.B,oks.wide,okt.hs,okt.fl⟩
   have fx:=YC s oks hs.1 hs.2
   have fy:=YC _ okt2 ht.1 ht.2
   have hx:=KJ s oks
   have hy:=KJ _ okt2
   have lab:=qf1 s _ oks okt2 rfl rfl rfl rfl
   obtain⟨A,B,⟨la,va,ca⟩,⟨lb,vb,cb⟩,al⟩:=qsp s t (rk k1) (rk k2) (rk k3) (rk k4) oks okt hs ht hp0
   generalize jZ s=x at*
   generalize jZ {t with kind:=s.kind,A:=s.A,B:=s.B,wide:=s.wide}=y at*
   obtain⟨t1,b1,_⟩:=YI ca.sk fx hx hp0
   obtain⟨t2,b2,_⟩:=YI cb.sk fy hy hp0
   have lx:=Zu ca.sk fx hx
   have ly:=Zu cb.sk fy hy
   have lz:(VF x y).length<=1000000:=by
    unfold VF
    by_cases e0:(zH x y).2=0
    ·rw[if_pos e0]
     obtain⟨r1,i1⟩:=qod ca.sk cb.sk fx fy
     exact Zu i1 (qjl fx fy) (qn1 fx fy lab hx hy e0)
    ·rw[if_neg e0];exact znl _
   obtain⟨n,hn⟩:∃n:Int,n=lim%200000:=⟨_,rfl⟩
   have hn':0<=n/\n<200000:=qe
   have rm:∀t a b,qx Tryz.prog .rem t a b (.int .u32 lim) (.int .u32 200000)=some (.int .u32 n):=by
    intro t a b
    rw[zk _ _ _ _ _ _ _ qe,zj hlim.1,hn]
   have wn:IntKind.i64.wrap n=n:=qm qe qe
   have mn:=qmy n hn'.1 hp
   obtain⟨A1,hA⟩:∃A1:Int,A1=64*((qy x).length:Int)+16384:=⟨_,rfl⟩
   obtain⟨B1,hB⟩:∃B1:Int,B1=64*((qy y).length:Int)+16384:=⟨_,rfl⟩
   obtain⟨L1,hL⟩:∃L1:Int,L1=(VF x y).length:=⟨_,rfl⟩
   obtain⟨u1,e,w,h1,m1,hn1,rw1,hw,cs⟩:=zd4 ca.sk cb.sk fx fy hx hy lab (rk t1) (rk t2) n qe hp.next (hp.new [.sc (.int .i64 0),.sc (.int .i64 n)]) (by show hp.next<hp.next+1;omega) (qR _ _) A1 B1 L1 hA hB hL lx ly lz
   have hn2:hp.next<h1.next:=znc (by show hp.next<hp.next+1;omega) hn1
   obtain⟨u2,h2,m2,g2⟩:=qik ca.sk cb.sk fx fy hx hy lab (rk t1) (rk t2) h1
   have rw2:h2.rd hp.next 0=some (Mt w n):=by rw[xo (g2 _ hn2)];exact rw1
   have us:=qig hp.next w n h2 rw2
   have ro1:=YF (qy x).length qe hp0
   have ro2:=YF (qy y).length qe hp0
   rw[<-hA]at ro1
   rw[<-hB]at ro2
   refine⟨h2,?_⟩
   have g23:∀(l:List AV),l.length=23->qr l 0 23=some l:=fun l hl=>Kb l 23 hl
   have k0:ql A 0=some (.int .u8 x.kind):=(qt6 A 0).symm.trans ca.k0
   have k0':=ca.k0
   have avl:=ca.vl;have aro:=ca.ro;have bvl:=cb.vl;have bro:=cb.ro;have aln:=ca.len;have bln:=cb.len
   have wa:IntKind.i64.wrap (A1+B1)=A1+B1:=qm qe qe
   have wb:IntKind.i64.wrap (A1+B1+L1)=A1+B1+L1:=qm qe qe
   have hw':¬(n<w):=qe
   have b5:B5_5 (.int .u32 lim) [.sc (.int .u8 s.kind),.sc (.int .u8 s.A),.sc (.int .u8 s.B),.sc (.int .u16 s.wide),.sc (.bool s.few),S (rk k1) 1 (LI .u64 s.hs),S (rk k2) 2 (LP s.fl)] [.sc (.int .u8 t.kind),.sc (.int .u8 t.A),.sc (.int .u8 t.B),.sc (.int .u16 t.wide),.sc (.bool t.few),S (rk k3) 1 (LI .u64 t.hs),S (rk k4) 2 (LP t.fl)] hp=some (.sc (.bool true),h2):=by
    rw[zgu]
    unfold smA at al
    have lb1:((LI IntKind.u8 (qy x)).length:Int)=((qy x).length:Int):=qg
    have ln1:(LI IntKind.u8 (VF x y)).length=(VF x y).length:=qg
    by_cases e0:(zH x y).2=0
    ·rcases cs with⟨q1,q2,q3,q4⟩|⟨q1,q2⟩|⟨q1,q2⟩
     ·subst q1
      rw[if_pos rfl]at m1
      rw[e0]at m2
      have c1:¬(n<A1+B1+L1):=qe
      generalize VF x y=Z at*
      generalize qy x=Y1 at*
      generalize qy y=Y2 at*
      simp[-List.map_map,-List.all_map,-List.all_eq_true,KV,al,la,lb,va,vb,avl,aro,bvl,bro,aln,bln,jP,g23,k0,k0',b1,b2,rm,wn,mn,m1,m2,us,ro1,ro2,wa,wb,hw',<-hL,q3,q4,c1]
     ·subst q1
      rw[if_neg qh]at m1
      rw[e0]at m2
      have c1:=q2 e0
      have c2:¬(A1+B1+L1<=n):=qe
      generalize VF x y=Z at*
      generalize qy x=Y1 at*
      generalize qy y=Y2 at*
      simp[-List.map_map,-List.all_map,-List.all_eq_true,KV,al,la,lb,va,vb,avl,aro,bvl,bro,aln,bln,jP,g23,k0,k0',b1,b2,rm,wn,mn,m1,m2,us,ro1,ro2,wa,wb,hw',<-hL,c1,c2]
     ·exact absurd (q1.trans e0) q2
    ·have eL:VF x y=[]:=if_neg e0
     have e1:e=(zH x y).2\/e=14:=by
      rcases cs with⟨q1,q2,_⟩|⟨q1,_⟩|⟨q1,_⟩
      ·exact absurd q2 e0
      ·exact .inr q1
      ·exact .inl q1
     have e2:e≠0:=by rcases e1 with q|q<;>omega
     rw[if_neg e2]at m1
     rw[eL]at m2 hL
     generalize qy x=Y1 at*
     generalize qy y=Y2 at*
     generalize(zH x y).2=er at*
     have hL':L1=0:=hL
     subst hL'
     simp only[Int.add_zero]at wb
     rcases e1 with q|q
     ·subst q
      simp[-List.map_map,-List.all_map,-List.all_eq_true,KV,al,la,lb,va,vb,avl,aro,bvl,bro,aln,bln,jP,g23,k0,k0',b1,b2,rm,wn,mn,m1,m2,us,ro1,ro2,wa,wb,hw',e0]
     ·subst q
      by_cases q:er=14
      ·simp[-List.map_map,-List.all_map,-List.all_eq_true,KV,al,la,lb,va,vb,avl,aro,bvl,bro,aln,bln,jP,g23,k0,k0',b1,b2,rm,wn,mn,m1,m2,us,ro1,ro2,wa,wb,hw',e0,q]
      ·have q':¬(14=er):=fun h=>q h.symm
       simp[-List.map_map,-List.all_map,-List.all_eq_true,KV,al,la,lb,va,vb,avl,aro,bvl,bro,aln,bln,jP,g23,k0,k0',b1,b2,rm,wn,mn,m1,m2,us,ro1,ro2,wa,wb,hw',e0,q,q']
   simp[li,li',aw,KV,b5]
  ·simp only[eq_false ht,decide_false]at li'
   exact⟨hp,by simp[li,li',aw,KV,b4]⟩
 ·simp only[eq_false hs,decide_false]at li
  exact⟨hp,by simp[li,aw,KV,b4]⟩
theorem law_FuseBudget(a:Int)(wa:Vf .u8 a)(b:Int)(wb:Vf .u8 b)(c:Int)(wc:Vf .u8 c)(d:Int)(wd:Vf .u16 d)(f:Bool)(k:Nat)(l:List Int)(wl:∀n∈l,Vf .u64 n)(k':Nat)(m:List (Int×Int))(wm:∀p∈m,InI p)
 (a2:Int) (wa2:Vf .u8 a2) (b2:Int) (wb2:Vf .u8 b2) (c2:Int) (wc2:Vf .u8 c2) (d2:Int) (wd2:Vf .u16 d2) (f2:Bool) (k2:Nat) (l2:List Int) (wl2:∀n∈l2,Vf .u64 n) (k2':Nat) (m2:List (Int×Int)) (wm2:∀p∈m2,InI p) (lim:Int) (wlim:Vf .u32 lim) (hp:Hp):
 ∃hp',run cxX 5 [.agg [.sc (.int .u8 a),.sc (.int .u8 b),.sc (.int .u8 c),.sc (.int .u16 d),.sc (.bool f),S k 1 (LI .u64 l),S k' 2 (LP m)],.agg [.sc (.int .u8 a2),.sc (.int .u8 b2),.sc (.int .u8 c2),.sc (.int .u16 d2),.sc (.bool f2),S k2 1 (LI .u64 l2),S k2' 2 (LP m2)],.sc (.int .u32 lim)] hp=some (.sc (.bool true),hp'):=
 We ⟨a,b,c,d,f,l,m⟩ ⟨a2,b2,c2,d2,f2,l2,m2⟩ lim wlim.u32 k k' k2 k2' ⟨wa.u8,wb.u8,wc.u8,wd.u16,fun n hn=>(wl n hn).u64,wm⟩ ⟨wa2.u8,wb2.u8,wc2.u8,wd2.u16,fun n hn=>(wl2 n hn).u64,wm2⟩ hp
end Go.Proofs.YtmajcennjgjlnaaGreat.AI
