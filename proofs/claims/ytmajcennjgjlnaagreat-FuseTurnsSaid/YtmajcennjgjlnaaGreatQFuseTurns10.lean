/- Texts that the proof of FuseTurns rests on, part 10. -/
import Derived.Test.YtmajcennjgjlnaaGreatQFuseTurns9
import Derived.DataElems
namespace Go.Proofs.YtmajcennjgjlnaaGreat.AI
open Go
set_option linter.unusedVariables false
set_option linter.unusedSimpArgs false
set_option maxRecDepth 100000
set_option maxHeartbeats 0
theorem Kd{hp:Hp}{rb sb wb k1 k2:Nat}{L1 L2 Z:List Int}(hl1:L1.length<=1000000000)(hl2:L2.length<=1000000000)(hz:Z.length<=1000000)(h:RW3 hp rb sb wb k1 k2 L1 L2 L1.length L2.length Z):
 B20_18 (.ptr rb 0 0) (.ptr sb 0 0) (.ptr wb 0 0) (.int .i64 0) hp=some (.tup [S 1 1 (LI .u8 Z),.sc (.int .i64 0)],hp):=by
 have e1:=VQ rb k1 L1 _ _ hp hl1 (zms _) h.r
 have e2:=VQ sb k2 L2 _ _ hp hl2 (zms _) h.s
 have c1:¬((0:Int)=0/\L1.length<L1.length):=qe
 have c2:¬((0:Int)=0/\L2.length<L2.length):=qe
 rw[if_neg c1]at e1
 rw[if_neg c2]at e2
 have fi:=jY
 have wb':=VN wb Z hz hp h.w
 rw[qd3]
 simp[e1,e2,fi,qd2,wb']
theorem zi9(x8 x9 x10:AV)(e:Int)(he:e≠0)(hp:Hp):B20_18 x8 x9 x10 (.int .i64 e) hp=some (.tup [S 2 1 [],.sc (.int .i64 e)],hp):=by
 rw[qd3]
 simp[he,qd2]
def H3(hp:Hp)(k1 k2:Nat)(L1 L2:List Int):Hp:=((hp.new (Rc (rk k1) L1 0 0)).new (Rc (rk k2) L2 0 0)).new (Wc [])
theorem Jb(hp:Hp)(k1 k2:Nat)(L1 L2:List Int):RW3 (H3 hp k1 k2 L1 L2) hp.next (hp.next+1) (hp.next+2) (rk k1) (rk k2) L1 L2 0 0 [] where
 r:=by
  unfold H3
  rw[zF _ _ (show hp.next≠hp.next+1+1 by omega),zF _ _ (show hp.next≠hp.next+1 by omega)]
  exact qS hp _
 s:=by
  unfold H3
  rw[zF _ _ (show hp.next+1≠hp.next+1+1 by omega)]
  exact qS (hp.new _) _
 w:=qS ((hp.new _).new _) _
 lr:=by show hp.next<hp.next+1+1+1;omega
 ls:=by show hp.next+1<hp.next+1+1+1;omega
 lw:=by show hp.next+2<hp.next+1+1+1;omega
 rs:=qe
 rw:=qe
 sw:=qe
theorem Jv(kd:Nat)(f:Nat)(hkd:kd<=5)(hp H:Hp)(k1 k2:Nat)(L1 L2:List Int)(e:Int)
 (hf:run cxX (if kd=0 then 49 else if kd=1 then 50 else if kd=2 then 51 else if kd=3 then 52 else if kd=4 then 53 else 54) [.ptr (hp.next+2) 0 0,.ptr hp.next 0 0,.ptr (hp.next+1) 0 0] (H3 hp k1 k2 L1 L2)=some (.sc (.int .i64 e),H)):
 run cxX 20 [.sc (.int .u8 (kd:Int)),S k1 1 (LI .u8 L1),S k2 1 (LI .u8 L2)] hp=B20_18 (.ptr hp.next 0 0) (.ptr (hp.next+1) 0 0) (.ptr (hp.next+2) 0 0) (.int .i64 e) H:=by
 have r1:=Jc (rk k1) L1 hp
 have r2:=Jc (rk k2) L2 (hp.new (Rc (rk k1) L1 0 0))
 simp only[We]at r1 r2
 have nn:(hp.new (Rc (rk k1) L1 0 0)).next=hp.next+1:=rfl
 have n2:((hp.new (Rc (rk k1) L1 0 0)).new (Rc (rk k2) L2 0 0)).next=hp.next+2:=rfl
 have e3:((hp.new (Rc (rk k1) L1 0 0)).new (Rc (rk k2) L2 0 0)).new [S 2 1 []]=H3 hp k1 k2 L1 L2:=rfl
 rw[nn]at r2
 have:kd=0\/kd=1\/kd=2\/kd=3\/kd=4\/kd=5:=qe
 rw[E20]
 rcases this with q|q|q|q|q|q<;>subst q<;>simp at hf<;>simp[r1,r2,n2,e3,hf]
theorem qpp(l:List Nat):tn (nz l)=l:=by
 unfold tn nz
 rw[zqw]
 exact(zq3 (fun x _=>zmy x)).trans (List.map_id l)
theorem zik{a b:List Nat}(h:a.length=b.length)(a64:∀x∈a,x<64)(b64:∀x∈b,x<64):∀z∈Yx a b,z<64:=by
 intro x hx
 unfold Yx at hx
 obtain⟨i,hi,e⟩:=zpa hx
 rw[List.getElem_zipWith]at e
 have h1:=a64 _ (zm6 (by simp at hi;omega:i<a.length))
 have h2:=b64 _ (zm6 (by simp at hi;omega:i<b.length))
 omega
section
variable {x y:SkN}(fx:Fine x)(fy:Fine y)(k1 k2:Nat)(hp:Hp)
include fx fy
theorem zi5(kx:x.kind=0)(ky:y.kind=0):∃t hp',run cxX 20 [.sc (.int .u8 0),S k1 1 (LI .u8 (qD x)),S k2 1 (LI .u8 (qD y))] hp=
 some (.tup [S t 1 (LI .u8 (if 4096<(mrg x.set y.set).length then []else qD (qE x y))),.sc (.int .i64 (if 4096<(mrg x.set y.set).length then 7 else 0))],hp'):=by
 obtain⟨s1,s2,s3,s4⟩:=wY fx kx
 obtain⟨u1,u2,u3,u4⟩:=wY fy ky
 have em:mrg x.set y.set=nz (we (tn x.set) (tn y.set)):=by rw[Wu _ _ _ (zms _),s4,u4]
 have eY:qD (qE x y)=jT (jO (we (tn x.set) (tn y.set))):=by
  unfold qE qD
  rw[if_pos kx]
  simp only[kx,if_true]
  rw[em,qpp]
 have e1:qD x=jT (jO (tn x.set)):=by unfold qD;rw[if_pos kx]
 have e2:qD y=jT (jO (tn y.set)):=by unfold qD;rw[if_pos ky]
 have hl:(mrg x.set y.set).length=(we (tn x.set) (tn y.set)).length:=by rw[em,Wv]
 rw[eY,e1,e2,hl]
 have la:=Qe (l:=tn x.set) (by simp;exact s1) s3
 have lb:=Qe (l:=tn y.set) (by simp;exact u1) u3
 obtain⟨H,f1,f2⟩:=qsa (H3 hp k1 k2 (jT (jO (tn x.set))) (jT (jO (tn y.set)))) hp.next (hp.next+1) (hp.next+2) (rk k1) (rk k2) (tn x.set) (tn y.set) (we (tn x.set) (tn y.set)) s2 u2 (QM s2 u2) s3 u3 (by simp;exact s1) (by simp;exact u1) (fun z=>Jm z _ _) (Jb hp k1 k2 _ _)
 have fb:=Jv 0 0 qh hp H k1 k2 _ _ _ f1
 by_cases hm:4096<(we (tn x.set) (tn y.set)).length
 ·rw[if_pos hm]at fb
  rw[if_pos hm,if_pos hm]
  exact⟨2,H,fb.trans (zi9 _ _ _ 7 qh H)⟩
 ·rw[if_neg hm]at fb
  rw[if_neg hm,if_neg hm]
  have lm:=Qe (l:=we (tn x.set) (tn y.set)) qe (fun z hz=>((Jm z _ _).mp hz).elim (s3 z) (u3 z))
  exact⟨1,H,fb.trans (Kd qe qe qe (f2 qe))⟩
theorem zi6(kx:x.kind=1)(ky:y.kind=1)(hx:H64 x)(hy:H64 y)(hK:y.K=x.K):∃t hp',run cxX 20 [.sc (.int .u8 1),S k1 1 (LI .u8 (qD x)),S k2 1 (LI .u8 (qD y))] hp=
 some (.tup [S t 1 (LI .u8 (qD (qE x y))),.sc (.int .i64 0)],hp'):=by
 obtain⟨s0,s1,s2,s3,s4⟩:=vh fx kx hx
 obtain⟨u0,u1,u2,u3,u4⟩:=vh fy ky hy
 have em:mrg x.hs y.hs=nz (we (tn x.hs) (tn y.hs)):=by rw[Wu _ _ _ (zms _),s4,u4]
 have et:tn ((mrg x.hs y.hs).take x.K.toNat)=(we (tn x.hs) (tn y.hs)).take x.K.toNat:=by
  rw[em]
  unfold nz
  rw[<-List.map_take]
  exact qpp _
 have eY:qD (qE x y)=uv x.K.toNat++zh ((we (tn x.hs) (tn y.hs)).take x.K.toNat):=by
  have em0:qE x y={skZ with kind:=1,K:=x.K,hs:=(mrg x.hs y.hs).take x.K.toNat}:=by
   unfold qE
   rw[if_neg qe,if_pos kx,kx]
  rw[em0]
  unfold qD
  rw[if_neg (show ¬((1:Int)=0) by decide),if_pos rfl,et]
 have e1:qD x=uv x.K.toNat++zh (tn x.hs):=by unfold qD;rw[if_neg qe,if_pos kx]
 have e2:qD y=uv x.K.toNat++zh (tn y.hs):=by unfold qD;rw[if_neg qe,if_pos ky,hK]
 rw[eY,e1,e2]
 have hu:=qC (n:=x.K.toNat) qe
 have la:=kn (l:=tn x.hs) (by simp;exact s1) s3
 have lb:=kn (l:=tn y.hs) (by simp;exact u1) u3
 have lm:=kn (l:=(we (tn x.hs) (tn y.hs)).take x.K.toNat) (by rw[znt];omega) (fun z hz=>((Jm z _ _).mp (zod hz)).elim (s3 z) (u3 z))
 obtain⟨H,f1,f2⟩:=qim (H3 hp k1 k2 (uv x.K.toNat++zh (tn x.hs)) (uv x.K.toNat++zh (tn y.hs))) hp.next (hp.next+1) (hp.next+2) (rk k1) (rk k2) x.K.toNat (tn x.hs) (tn y.hs) qe s2 u2 s3 u3 (by simp;exact s1) (by simp;exact u1) (Jb hp k1 k2 _ _)
 have fb:=Jv 1 0 qh hp H k1 k2 _ _ _ f1
 exact⟨1,H,fb.trans (Kd (by rw[zmo];omega) (by rw[zmo];omega) (by rw[zmo];omega) f2)⟩
theorem zi7(kx:x.kind=2)(ky:y.kind=2)(hP:y.P=x.P):∃t hp',run cxX 20 [.sc (.int .u8 2),S k1 1 (LI .u8 (qD x)),S k2 1 (LI .u8 (qD y))] hp=
 some (.tup [S t 1 (LI .u8 (qD (qE x y))),.sc (.int .i64 0)],hp'):=by
 obtain⟨s0,s1,s2,s3,s4⟩:=vi fx kx
 obtain⟨u0,u1,u2,u3,u4⟩:=vi fy ky
 obtain⟨P,hp0⟩:∃P:Nat,x.P=P:=⟨x.P.toNat,qe⟩
 have ha:(tn x.rg).length=2^P:=by rw[JR,s1,hp0];rfl
 have hb:(tn y.rg).length=2^P:=by rw[JR,u1,hP,hp0];rfl
 have em:xN x.rg y.rg=nz (Yx (tn x.rg) (tn y.rg)):=by rw[qz2 _ _ qe,s4,u4]
 have eY:qD (qE x y)=(P:Int)::jg (Yx (tn x.rg) (tn y.rg)):=by
  have em0:qE x y={skZ with kind:=2,P:=x.P,rg:=xN x.rg y.rg}:=by
   unfold qE
   rw[if_neg qe,if_neg qe,if_pos kx,kx]
  rw[em0]
  unfold qD
  rw[if_neg (show ¬((2:Int)=0) by decide),if_neg (show ¬((2:Int)=1) by decide),if_pos rfl]
  simp only[em,qpp,hp0]
 have e1:qD x=(P:Int)::jg (tn x.rg):=by unfold qD;rw[if_neg qe,if_neg qe,if_pos kx,hp0]
 have e2:qD y=(P:Int)::jg (tn y.rg):=by unfold qD;rw[if_neg qe,if_neg qe,if_pos ky,hP,hp0]
 rw[eY,e1,e2]
 have hN:2^P<=2^8:=znq qh (show P<=8 by omega)
 have hN':(2:Nat)^8=256:=qh
 have la:=QT (l:=tn x.rg) qe s3
 have lb:=QT (l:=tn y.rg) qe u3
 have ml:(Yx (tn x.rg) (tn y.rg)).length=2^P:=by unfold Yx;rw[List.length_zipWith,ha,hb,Nat.min_self]
 have m64:∀z∈Yx (tn x.rg) (tn y.rg),z<64:=zik qe s3 u3
 have lm:=QT (l:=Yx (tn x.rg) (tn y.rg)) qe m64
 obtain⟨H,f1,f2⟩:=qsb (H3 hp k1 k2 ((P:Int)::jg (tn x.rg)) ((P:Int)::jg (tn y.rg))) hp.next (hp.next+1) (hp.next+2) (rk k1) (rk k2) P (tn x.rg) (tn y.rg) qe s3 u3 ha hb (Jb hp k1 k2 _ _)
 have fb:=Jv 2 0 qh hp H k1 k2 _ _ _ f1
 exact⟨1,H,fb.trans (Kd (by rw[zmp];omega) (by rw[zmp];omega) (by rw[zmp];omega) f2)⟩
omit fy in
theorem qkq(k:x.kind=3):qM (tn x.bs):=by
 have h:=(qY.mp fx.c).2.2
 rw[if_neg qe,if_neg qe,if_neg qe,if_pos k]at h
 have s:=kr h fx.w.bs
 exact Vk (fun n hn=>(fx.w.bs n hn).1) s.2.2.1
theorem zjb(kx:x.kind=3)(ky:y.kind=3)(hB:y.B=x.B)(hH:y.H=x.H)(hl:jt x y=true):∃t hp',run cxX 20 [.sc (.int .u8 3),S k1 1 (LI .u8 (qD x)),S k2 1 (LI .u8 (qD y))] hp=
 some (.tup [S t 1 (LI .u8 (qD (qE x y))),.sc (.int .i64 0)],hp'):=by
 obtain⟨s0,s1,s2,s3,s4,s5⟩:=xU fx kx
 obtain⟨u0,u1,u2,u3,u4,u5⟩:=xU fy ky
 have rx:=qkq fx kx
 have ry:=qkq fy ky
 obtain⟨B,eB⟩:∃B:Nat,x.B=B:=⟨x.B.toNat,qe⟩
 obtain⟨H,eH⟩:∃H:Nat,x.H=H:=⟨x.H.toNat,qe⟩
 have em:mrg x.bs y.bs=nz (we (tn x.bs) (tn y.bs)):=by rw[Wu _ _ _ (zms _),s5,u5]
 have em0:qE x y={skZ with kind:=3,B:=x.B,H:=x.H,bs:=mrg x.bs y.bs}:=by
  unfold qE
  rw[if_neg qe,if_neg qe,if_neg qe,if_pos kx,kx]
 have fm:=Wz fx fy hl qe
 have fmb:=xU fm (by rw[em0])
 have ml:(we (tn x.bs) (tn y.bs)).length<=4096:=by
  have:=fmb.2.2.1
  rw[em0]at this
  have e2:(mrg x.bs y.bs).length=(we (tn x.bs) (tn y.bs)).length:=by rw[em,Wv]
  rw[<-e2]
  exact this
 have eY:qD (qE x y)=uv B++[(H:Int)]++zB (we (tn x.bs) (tn y.bs)):=by
  rw[em0]
  unfold qD
  rw[if_neg (show ¬((3:Int)=0) by decide),if_neg (show ¬((3:Int)=1) by decide),if_neg (show ¬((3:Int)=2) by decide),if_pos rfl]
  simp only[em,qpp,eB,eH,zmy]
 have e1:qD x=uv B++[(H:Int)]++zB (tn x.bs):=by unfold qD;rw[if_neg qe,if_neg qe,if_neg qe,if_pos kx,eB,eH,zmy]
 have e2:qD y=uv B++[(H:Int)]++zB (tn y.bs):=by unfold qD;rw[if_neg qe,if_neg qe,if_neg qe,if_pos ky,hB,hH,eB,eH,zmy]
 rw[eY,e1,e2]
 have hu:=qC (n:=B) qe
 have la:=kC (l:=tn x.bs) (by simp;exact s2) s4 s3
 have lb:=kC (l:=tn y.bs) (by simp;exact u2) u4 u3
 have lm:=kC (l:=we (tn x.bs) (tn y.bs)) ml (fun z hz=>((Jm z _ _).mp hz).elim (s4 z) (u4 z)) (jb (QM rx ry))
 obtain⟨H',f1,f2⟩:=qyo (H3 hp k1 k2 (uv B++[(H:Int)]++zB (tn x.bs)) (uv B++[(H:Int)]++zB (tn y.bs))) hp.next (hp.next+1) (hp.next+2) (rk k1) (rk k2) B H (tn x.bs) (tn y.bs) qe qe rx ry s4 u4 (by simp;exact s2) (by simp;exact u2) ml (Jb hp k1 k2 _ _)
 have fb:=Jv 3 0 qh hp H' k1 k2 _ _ _ f1
 exact⟨1,H',fb.trans (Kd (by simp only[zmo,zm0];omega) (by simp only[zmo,zm0];omega) (by simp only[zmo,zm0];omega) f2)⟩
theorem zja(kx:x.kind=4)(ky:y.kind=4)(hR:y.R=x.R)(hC:y.C=x.C):∃t hp',run cxX 20 [.sc (.int .u8 4),S k1 1 (LI .u8 (qD x)),S k2 1 (LI .u8 (qD y))] hp=
 some (.tup [S t 1 (LI .u8 (qD (qE x y))),.sc (.int .i64 0)],hp'):=by
 obtain⟨s0,s1,s2,s3⟩:=vj fx kx
 obtain⟨u0,u1,u2,u3⟩:=vj fy ky
 obtain⟨R,eR⟩:∃R:Nat,x.R=R:=⟨x.R.toNat,qe⟩
 obtain⟨C,eC⟩:∃C:Nat,x.C=C:=⟨x.C.toNat,qe⟩
 have em0:qE x y={skZ with kind:=4,R:=x.R,C:=x.C,cs:=xD x.cs y.cs}:=by
  unfold qE
  rw[if_neg qe,if_neg qe,if_neg qe,if_neg qe,if_pos kx,kx]
 have eY:qD (qE x y)=[(R:Int)]++uv C++zS (C:Int) (xD x.cs y.cs) 0 0:=by
  rw[em0]
  unfold qD
  rw[if_neg (show ¬((4:Int)=0) by decide),if_neg (show ¬((4:Int)=1) by decide),if_neg (show ¬((4:Int)=2) by decide),if_neg (show ¬((4:Int)=3) by decide),if_pos rfl]
  simp only[eR,eC,zmy]
 have e1:qD x=[(R:Int)]++uv C++zS (C:Int) x.cs 0 0:=by unfold qD;rw[if_neg qe,if_neg qe,if_neg qe,if_neg qe,if_pos kx,eR,eC,zmy]
 have e2:qD y=[(R:Int)]++uv C++zS (C:Int) y.cs 0 0:=by unfold qD;rw[if_neg qe,if_neg qe,if_neg qe,if_neg qe,if_pos ky,hR,hC,eR,eC,zmy]
 rw[eY,e1,e2]
 have hu:=qC (n:=C) qe
 have um:=WX fx.w.cs fy.w.cs
 have cl:=Xo x.cs y.cs
 have la:=vz (C:Int) x.cs fx.w.cs x.cs 0 0 fx.w.cs qe
 have lb:=vz (C:Int) y.cs fy.w.cs y.cs 0 0 fy.w.cs qe
 have lm:=vz (C:Int) _ um (xD x.cs y.cs) 0 0 um qe
 have al:x.cs.length=R*C:=by rw[eR,eC,<-Int.natCast_mul]at s2;omega
 have bl:y.cs.length=R*C:=by rw[hR,hC,eR,eC,<-Int.natCast_mul]at u2;omega
 obtain⟨H',f1,f2⟩:=qyp (H3 hp k1 k2 ([(R:Int)]++uv C++zS (C:Int) x.cs 0 0) ([(R:Int)]++uv C++zS (C:Int) y.cs 0 0)) hp.next (hp.next+1) (hp.next+2) (rk k1) (rk k2) R C x.cs y.cs qe qe fx.w.cs fy.w.cs al bl (Jb hp k1 k2 _ _)
 have fb:=Jv 4 0 qh hp H' k1 k2 _ _ _ f1
 exact⟨1,H',fb.trans (Kd (by simp only[zmo,zm0];omega) (by simp only[zmo,zm0];omega) (by simp only[zmo,zm0];omega) f2)⟩
omit fx fy in
theorem qod{g:Gs}(w:g.W)(ho:JE g.nf.L=0)(hl:g.nf.L.length<=16):GFi g.nf where
 u:=by
  intro n hn
  simp only[gSu,Gs.nf,zmt,zqq,or_false]at hn
  have a0:=w.M;have a1:=w.e0;have a2:=w.e1;have a3:=w.e2;have a4:=w.e3;have a5:=w.e4;have a6:=w.e5
  unfold zw at*
  rcases hn with e|e|e|e|e|e|e<;>subst e<;>assumption
 lo:=Qi _ w.lo
 hi:=Qi _ w.hi
 l:=hl
 n:=Zx ho
 b:=by
  intro k hk
  obtain⟨q,hq,rfl⟩:=znn.mp hk
  exact Qi _ (w.L q hq)
omit fx fy in
theorem WM{K:Int}{g:GN}(h:GFi g):(yz K g).length<=1000:=by
 have us:∀l:List Int,ve l->(Zn l).length<=10*l.length:=by
  intro l
  induction l with
  |nil=>intro _;simp[Zn]
  |cons x r ih=>
   intro hu
   have hx:=hu x qg
   have hw:=qC (n:=x.toNat) qe
   have:=ih (fun n hn=>hu n (by simp[hn]))
   show(uv x.toNat++Zn r).length<=_
   rw[zmo,zmp]
   omega
 have a1:=us _ h.u
 have a2:=qC (n:=g.lo) h.lo
 have a3:=qC (n:=g.hi) h.hi
 have a4:=WK g.L 0 h.b
 have a5:=h.l
 have a6:(gSu g).length=7:=rfl
 rw[Jt]
 simp only[zmp,zmo,zm7]
 omega
theorem zi8{v u:AV}(hv:xa x v)(hu:xa y u)(kx:x.kind=5)(ky:y.kind=5)(hK:y.gK=x.gK)(hl:jt x y=true):∃t hp',run cxX 20 [.sc (.int .u8 5),S k1 1 (LI .u8 (qD x)),S k2 1 (LI .u8 (qD y))] hp=
 some (.tup [S t 1 (LI .u8 (qD (qE x y))),.sc (.int .i64 0)],hp'):=by
 obtain⟨s0,s1,s2⟩:=xP fx kx
 obtain⟨u0,u1,u2⟩:=xP fy ky
 obtain⟨K,eK⟩:∃K:Nat,x.gK=K:=⟨x.gK.toNat,qe⟩
 have em0:qE x y={skZ with kind:=5,gK:=x.gK,g:=xO x.gK x.g y.g}:=by
  unfold qE
  rw[if_neg qe,if_neg qe,if_neg qe,if_neg qe,if_neg qe,if_pos kx,kx]
 have fm:=xP (Wz fx fy hl qe) (by rw[em0])
 rw[em0]at fm
 obtain⟨g,a,b,c,d,e,t,gw,gn,rfl⟩:=hv
 obtain⟨g',a',b',c',d',e',t',gw',gn',rfl⟩:=hu
 have nm:=zaw (K:Int) g g'
 rw[gn,gn']at nm
 rw[eK]at fm
 have G1:GFi x.g:=by rw[<-gn]at s1 s2⊢;exact qod gw s1 s2
 have G2:GFi y.g:=by rw[<-gn']at u1 u2⊢;exact qod gw' u1 u2
 have G3:GFi (xO (K:Int) x.g y.g):=by
  have f1:JE (xO (K:Int) x.g y.g).L=0:=fm.2.1
  have f2:(xO (K:Int) x.g y.g).L.length<=16:=fm.2.2
  rw[<-nm]at f1 f2⊢
  exact qod (zg6 qe gw gw') f1 f2
 have eY:qD (qE x y)=yz (K:Int) (xO (K:Int) x.g y.g):=by
  rw[em0]
  unfold qD
  rw[if_neg (show ¬((5:Int)=0) by decide),if_neg (show ¬((5:Int)=1) by decide),if_neg (show ¬((5:Int)=2) by decide),if_neg (show ¬((5:Int)=3) by decide),if_neg (show ¬((5:Int)=4) by decide)]
  simp only[eK]
 have e1:qD x=yz (K:Int) x.g:=by unfold qD;rw[if_neg qe,if_neg qe,if_neg qe,if_neg qe,if_neg qe,eK]
 have e2:qD y=yz (K:Int) y.g:=by unfold qD;rw[if_neg qe,if_neg qe,if_neg qe,if_neg qe,if_neg qe,hK,eK]
 rw[eY,e1,e2]
 have l1:=WM (K:=(K:Int)) G1
 have l2:=WM (K:=(K:Int)) G2
 have l3:=WM (K:=(K:Int)) G3
 obtain⟨H',f1,f2⟩:=qyn (H3 hp k1 k2 (yz (K:Int) x.g) (yz (K:Int) y.g)) hp.next (hp.next+1) (hp.next+2) (rk k1) (rk k2) K x.g y.g qe G1 G2 G3 (Jb hp k1 k2 _ _)
 have fb:=Jv 5 0 qh hp H' k1 k2 _ _ _ f1
 exact⟨1,H',fb.trans (Kd qe qe qe f2)⟩
def byM(x y:SkN):List Int:=if(jQ x y).2=0 then qD (jQ x y).1 else []
theorem qm6{v u:AV}(hv:xa x v)(hu:xa y u)(hx:H64 x)(hy:H64 y)(hl:jt x y=true):∃t hp',run cxX 20 [.sc (.int .u8 x.kind),S k1 1 (LI .u8 (qD x)),S k2 1 (LI .u8 (qD y))] hp=
 some (.tup [S t 1 (LI .u8 (byM x y)),.sc (.int .i64 (jQ x y).2)],hp'):=by
 have hk:=xL hl
 obtain⟨l1,l2,l3,l4,l5⟩:=Vs hl
 have me:=Jl fx fy
 rw[if_neg (by simp[hl])]at me
 have no:∀(n:x.kind≠0),byM x y=qD (qE x y)/\(jQ x y).2=0:=by
  intro n
  rw[if_neg (fun h=>n h.1)]at me
  unfold byM
  rw[me]
  exact⟨if_pos rfl,rfl⟩
 rcases six fx.w (qY.mp fx.c).1 with k|k|k|k|k|k
 ·obtain⟨t,hp',h⟩:=zi5 fx fy k1 k2 hp k qe
  have e1:byM x y=if 4096<(mrg x.set y.set).length then []else qD (qE x y):=by
   unfold byM
   rw[me]
   by_cases q:4096<(mrg x.set y.set).length
   ·have e:(if x.kind=0/\4096<(mrg x.set y.set).length then(skZ,(7:Int))else(qE x y,0))=(skZ,7):=if_pos ⟨k,q⟩
    rw[e,if_pos q];exact if_neg qh
   ·have e:(if x.kind=0/\4096<(mrg x.set y.set).length then(skZ,(7:Int))else(qE x y,0))=(qE x y,0):=if_neg (fun h=>q h.2)
    rw[e,if_neg q];exact if_pos rfl
  have e2:(jQ x y).2=if 4096<(mrg x.set y.set).length then 7 else 0:=by
   rw[me]
   by_cases q:4096<(mrg x.set y.set).length
   ·rw[if_pos (show x.kind=0/\4096<(mrg x.set y.set).length from⟨k,q⟩),if_pos q]
   ·rw[if_neg (show ¬(x.kind=0/\4096<(mrg x.set y.set).length)from fun h=>q h.2),if_neg q]
  rw[e1,e2,k]
  exact⟨t,hp',h⟩
 ·rw[(no qe).1,(no qe).2,k]
  exact zi6 fx fy k1 k2 hp k qe hx hy (l1 k).symm
 ·rw[(no qe).1,(no qe).2,k]
  exact zi7 fx fy k1 k2 hp k qe (l2 k).symm
 ·rw[(no qe).1,(no qe).2,k]
  exact zjb fx fy k1 k2 hp k qe (l3 k).1.symm (l3 k).2.symm hl
 ·rw[(no qe).1,(no qe).2,k]
  exact zja fx fy k1 k2 hp k qe (l4 k).1.symm (l4 k).2.symm
 ·rw[(no qe).1,(no qe).2,k]
  exact zi8 fx fy k1 k2 hp hv hu k qe (l5 k).symm hl
end
theorem KM{x y:SkN}(hx:Fine x)(hy:Fine y)(hl:jt x y=true):jQ y x=jQ x y:=by
 have hl':jt y x=true:=by rw[qc1];exact hl
 have hk:=xL hl
 have c1:=wF hx hy hl
 have c2:=wF hy hx hl'
 have cm:=qny hx hy hl
 rw[<-cm,c1]at c2
 rw[Jl hx hy,Jl hy hx,hl,hl',<-cm]
 simp only[Bool.true_eq_false,if_false]
 by_cases h:x.kind=0/\4096<(mrg x.set y.set).length
 ·rw[if_pos h]at c2
  by_cases h':y.kind=0/\4096<(mrg y.set x.set).length
  ·rw[if_pos h,if_pos h']
  ·rw[if_neg h']at c2;cases c2
 ·rw[if_neg h]at c2
  by_cases h':y.kind=0/\4096<(mrg y.set x.set).length
  ·rw[if_pos h']at c2;cases c2
  ·rw[if_neg h,if_neg h']
theorem wz{x:SkN}(hx:Fine x):jQ x x=(qE x x,0):=by
 rw[Jl hx hx,XW]
 simp only[Bool.true_eq_false,if_false]
 rw[if_neg]
 rintro⟨k,h⟩
 obtain⟨kd,on,sp⟩:=qY.mp hx.c
 rw[if_pos k]at sp
 obtain⟨a,b⟩:=kO.mp sp
 rw[YV b]at h
 omega
theorem yH(K:IntKind)(l:List Int)(k:Nat)(hk:k=1\/k=2)(b:Nat)(hb:0<b/\b<=1000)(k':Nat)(m:List Int)(h:l.length+m.length<=100000000):jl b 1 (S k 1 (LI K l)) (S k' 1 (LI K m))=some (S k 1 (LI K (l++m))):=by
 rw[Yt b 1 k _ _ k' hk (WP _ _) (.inr (yT hb.1 ?_))]
 ·simp[LI]
 ·simp only[wQ]
  have:(l.length+m.length)*b<=100000000*1000:=znj h hb.2
  omega
theorem qk0(K:IntKind)(l:List Int)(k:Nat)(hk:k=1\/k=2)(b:Nat)(hb:0<b/\b<=1000)(n:Int)(h:l.length<100000000):jl b 1 (S k 1 (LI K l)) (S 1 1 [.sc (.int K n)])=some (S k 1 (LI K (l++[n]))):=
 yH K l k hk b hb 1 [n] qi
theorem qsr:∀(n:Nat) (l:List Int) (hp:Hp),n<18446744073709551616->l.length+(uv n).length<=1000->
 B70_2 (.int .u64 (n:Int)) (S 2 1 (LI .u8 l)) hp=some (S 2 1 (LI .u8 (l++uv n)),hp):=by
 intro n
 induction n using Nat.strongRecOn with
 |_ n ih=>
  intro l hp hn hl
  rw[zck]
  by_cases h1:n<128
  ·rw[KC h1]at hl⊢
   have hge:¬((128:Int)<=(n:Int)):=qe
   have w:IntKind.u8.wrap (n:Int)=(n:Int):=zy qe qe
   have ap:=QY .u8 l 2 (.inr rfl) 1 qh n (by simp at hl;omega)
   simp[hge,w,ap]
  ·rw[VD h1]at hl⊢
   have hge:(128:Int)<=(n:Int):=qe
   have r:=Vl n 128 qh
   have q:=YR n 128 qh hn
   have w0:IntKind.u64.wrap (((n%128:Nat):Int)+128)=((n%128+128:Nat):Int):=by rw[qu]<;>omega
   have w:IntKind.u8.wrap ((n%128+128:Nat):Int)=((n%128+128:Nat):Int):=zy qe qe
   have ap:=QY .u8 l 2 (.inr rfl) 1 qh ((n%128+128:Nat):Int) (by simp at hl;omega)
   have ih':=ih (n/128) qe (l++[((n%128+128:Nat):Int)]) hp qe (by simp at hl⊢;omega)
   generalize((n%128+128:Nat):Int)=c at*
   generalize((n/128:Nat):Int)=d at*
   generalize((n%128:Nat):Int)=e at*
   simp only[zpg]at r q
   simp[hge,r,q,w0,w,ap,ih']
theorem js(n:Nat)(hn:n<18446744073709551616)(hp:Hp):run cxX 70 [.sc (.int .u64 (n:Int))] hp=some (S 2 1 (LI .u8 (uv n)),hp):=by
 have h:=qsr n [] hp hn (by have:=qC hn;simp;omega)
 rw[E70]
 simpa using h
theorem qya(n:Int)(hn:-9223372036854775808<=n/\n<9223372036854775808)(hp:Hp):run cxX 74 [.sc (.int .i64 n)] hp=some (S 2 1 (LI .u8 (uv (zz n))),hp):=by
 have u:=js (zz n) (qbp hn.1 hn.2) hp0
 rw[E74]
 by_cases h0:n<0
 ·have w1:IntKind.i64.wrap (n+1)=n+1:=qm qe qe
  have w2:IntKind.i64.wrap (0-(n+1))=0-(n+1):=qm qe qe
  have w3:IntKind.u64.wrap (0-(n+1))=0-(n+1):=qu qe qe
  have w4:IntKind.u64.wrap ((0-(n+1))*2)=(0-(n+1))*2:=qu qe qe
  have w5:IntKind.u64.wrap ((0-(n+1))*2+1)=((zz n:Nat):Int):=by rw[qu qe qe];unfold zz;rw[if_pos h0];omega
  have un:=qpn Tryz.prog (n+1)
  rw[w2]at un
  generalize 0-(n+1)=y at*
  generalize zz n=z at*
  simp[h0,w1,un,w3,w4,w5,u]
 ·have w3:IntKind.u64.wrap n=n:=qu qe qe
  have w4:IntKind.u64.wrap (n*2)=((zz n:Nat):Int):=by rw[qu qe qe];unfold zz;rw[if_neg h0];omega
  generalize zz n=z at*
  simp[h0,w3,w4,u]
def ub(l:List Bool):List Int:=l.map fun b=>cond b 1 0
@[simp] theorem zhk(l:List Bool):(ub l).length=l.length:=by simp[ub]
@[simp] theorem qft(l m:List Bool):ub (l++m)=ub l++ub m:=by simp[ub]
theorem qnd(n:Nat)(hn:n<=1000000)(hp:Hp):∀(f i:Nat),i+f=n->
 B140_3 (.int .i64 (n:Int)) (S 2 1 (LI .u8 (List.replicate i 1))) (.int .i64 (i:Int)) hp=some (S 2 1 (LI .u8 (ub (una n))),hp):=by
 intro f
 induction f with
 |zero=>
  intro i h
  have e:i=n:=qe
  subst e
  have ap:=qk0 .u8 (List.replicate i 1) 2 (.inr rfl) 1 qh 0 qi
  have e2:ub (una i)=List.replicate i 1++[0]:=by simp[ub,una]
  rw[qe0,e2]
  generalize List.replicate i (1:Int)=l at*
  simp[ap]
 |succ f ih=>
  intro i h
  have hlt:(i:Int)<(n:Int):=qe
  have ap:=qk0 .u8 (List.replicate i 1) 2 (.inr rfl) 1 qh 1 qi
  have w1:IntKind.i64.wrap ((i:Int)+1)=((i+1:Nat):Int):=qj
  have ih':=ih (i+1) qe
  rw[zo3]at ih'
  rw[qe0]
  generalize List.replicate i (1:Int)=l at*
  generalize((i+1:Nat):Int)=j at*
  simp[hlt,ap,w1,ih']
theorem qb3(n:Nat)(hn:n<=1000000)(hp:Hp):run cxX 140 [.sc (.int .i64 (n:Int))] hp=some (S 2 1 (LI .u8 (ub (una n))),hp):=by
 have h:=qnd n hn hp n 0 qe
 rw[E140]
 simpa using h
theorem zgi(n j:Nat):((n/2^j%2:Nat):Int)=cond (n.testBit j) 1 0:=by
 rw[zos]
 have:n/2^j%2=0\/n/2^j%2=1:=qe
 rcases this with h|h<;>rw[h]<;>rfl
theorem qsx(n b:Nat)(hn:n<18446744073709551616)(k:Nat)(hk:k<=64):∀(f j:Nat) (hp:Hp),j+f=k->hp.rd b 0=some (LI .u8 (List.replicate f 0++ub (kf n j)))->
 ∃hp',B141_7 (.int .u64 ((n/2^j:Nat):Int)) (.ms b 0 0 k 1) (.int .i64 ((f:Int)-1)) hp=some (S 0 1 (LI .u8 (ub (kf n k))),hp'):=by
 intro f
 induction f with
 |zero=>
  intro j hp h hb
  have e:j=k:=qe
  subst e
  have hge:¬((0:Int)<=((0:Nat):Int)-1):=qe
  have fz:=QS .u8 (ub (kf n j)) hp b (by simpa using hb)
  rw[zhk,qgs]at fz
  rw[qez]
  exact⟨hp.del b,by simp[fz]⟩
 |succ f ih=>
  intro j hp h hb
  have hge:(0:Int)<=((f+1:Nat):Int)-1:=qe
  have e1:((f+1:Nat):Int)-1=(f:Int):=qe
  have r:=Vl (n/2^j) 2 qh
  have q:=YR (n/2^j) 2 qh (zoa (zo0 _ _) hn)
  have e2:n/2^j/2=n/2^(j+1):=by rw[zov,<-Nat.pow_succ]
  rw[zgi]at r
  rw[e2]at q
  have ix:idx k (.int .i64 (f:Int))=some f:=zp .i64 qe
  have pn:=xo .u8 (List.replicate (f+1) 0++ub (kf n j)) f (cond (n.testBit j) 1 0) qi
  have e3:(List.replicate (f+1) (0:Int)++ub (kf n j)).set f (cond (n.testBit j) 1 0)=List.replicate f 0++ub (kf n (j+1)):=by
   rw[zo3,zna,zp4 _ _ qg]
   simp[kf,ub]
  rw[e3]at pn
  have w1:IntKind.i64.wrap ((f:Int)-1)=(f:Int)-1:=qm qe qe
  have w2:IntKind.u8.wrap (cond (n.testBit j) 1 0)=cond (n.testBit j) 1 0:=by cases n.testBit j<;>rfl
  obtain⟨hp',ih'⟩:=ih (j+1) (hp.put b 0 (LI .u8 (List.replicate f 0++ub (kf n (j+1))))) qe (qp _ _ _)
  refine⟨hp',?_⟩
  rw[qez,e1]
  simp only[zpg]at r q
  generalize((n/2^j:Nat):Int)=u at*
  generalize((n/2^(j+1):Nat):Int)=u' at*
  generalize(cond (n.testBit j) 1 0:Int)=c at*
  generalize LI .u8 (List.replicate f 0++ub (kf n (j+1)))=L' at*
  generalize LI .u8 (List.replicate (f+1) 0++ub (kf n j))=L at*
  simp[r,q,w2,ix,hb,pn,w1,ih']
theorem qid(n k:Nat)(hn:n<18446744073709551616)(hk:k<=64)(hp:Hp):∃hp',run cxX 141 [.sc (.int .u64 (n:Int)),.sc (.int .i64 (k:Int))] hp=some (S 0 1 (LI .u8 (ub (kf n k))),hp'):=by
 have mk:yV 1 1 (k:Int) (k:Int)=some ():=Ji qe qe qh qh
 have z:=ZW .u8 k
 obtain⟨hp',h⟩:=qsx n hp.next hn k hk k 0 (hp.new (LI .u8 (List.replicate k 0))) qe (by rw[qS];simp[kf,ub])
 have h1:¬((64:Int)<(k:Int)):=qe
 have h2:¬((k:Int)<0):=qe
 have w1:IntKind.i64.wrap ((k:Int)-1)=(k:Int)-1:=qm qe qe
 refine⟨hp',?_⟩
 rw[E141]
 simp only[Nat.pow_zero,Nat.div_one]at h
 have h3:=qwm (v0:=.int .u64 (n:Int)) (v1:=.int .i64 (k:Int)) (hp:=hp)
 have h5:=qwl (v0:=.int .u64 (n:Int)) (v1:=.int .i64 (k:Int)) (hp:=hp)
 generalize LI .u8 (List.replicate k 0)=Z at*
 simp[h1,h3,h2,h5,mk,z,w1,h]
theorem Kb(l:List Bool)(i j:Nat):(l.take i).getD j false=(decide (j<i)&&l.getD j false):=by
 rw[zmq,zm3]
 by_cases h:j<i
 ·simp[h]
 ·simp[h]
theorem qag(l:List Bool)(i:Nat)(hi:i<l.length)(q:Nat):by8 (l.take (i+1)) (8*q)=if q=i/8 then by8 (l.take i) (8*q)+(l.getD i false).toNat*2^(7-i%8)else by8 (l.take i) (8*q):=by
 have key:∀j,(l.take (i+1)).getD j false=if j=i then l.getD i false else(l.take i).getD j false:=by
  intro j
  rw[Kb,Kb]
  by_cases h1:j=i
  ·subst h1;simp
  ·have:(j<i+1)=(j<i):=by apply propext;omega
   simp[h1,this]
 have kz:(l.take i).getD i false=false:=by rw[Kb];simp
 unfold by8
 simp only[key]
 by_cases hq:q=i/8
 ·rw[if_pos hq]
  have hc:i%8=0\/i%8=1\/i%8=2\/i%8=3\/i%8=4\/i%8=5\/i%8=6\/i%8=7:=qe
  rcases hc with h|h|h|h|h|h|h|h
  all_goals
   have e:i=8*q+i%8:=qe
   rw[h]at e
   generalize hg:l.getD i false=c at*
   subst e
   simp at kz
   simp[kz]
   try omega
 ·rw[if_neg hq]
  have h0:∀k,k<8->8*q+k≠i:=qe
  have:=h0 0 qe;have:=h0 1 qe;have:=h0 2 qe;have:=h0 3 qe;have:=h0 4 qe;have:=h0 5 qe;have:=h0 6 qe;have:=h0 7 qe
  simp only[zoc]at*
  simp[*]
def pkt(l:List Bool)(i:Nat):List Int:=(List.range ((l.length+7)/8)).map fun q=>(by8 (l.take i) (8*q):Int)
theorem zen(l:List Bool)(i:Nat):(pkt l i).length=(l.length+7)/8:=by simp[pkt]
theorem zeo(l:List Bool):pkt l l.length=pk l:=by simp[pkt,pk]
theorem qza(l:List Bool):pkt l 0=List.replicate ((l.length+7)/8) 0:=by
 unfold pkt
 rw[List.eq_replicate_iff]
 refine⟨qg,fun x hx=>?_⟩
 obtain⟨q,_,rfl⟩:=znn.mp hx
 simp[by8]
theorem qzb(l:List Bool)(i:Nat)(hi:i<l.length):pkt l (i+1)=(pkt l i).set (i/8) ((by8 (l.take i) (8*(i/8))+(l.getD i false).toNat*2^(7-i%8):Nat):Int):=by
 unfold pkt
 apply zow
 intro q
 rw[zp2,zm8,zm8]
 by_cases hq:i/8=q
 ·subst hq
  have hl:i/8<(l.length+7)/8:=qe
  rw[zpb hl]
  simp[qag l i hi,hl]
 ·rw[if_neg hq]
  by_cases hl:q<(l.length+7)/8
  ·rw[zpb hl]
   have hq':¬(q=i/8):=fun e=>hq e.symm
   simp[qag l i hi,hq']
  ·rw[znl qi]
   rfl
theorem qnf(l:List Bool)(k b:Nat)(hl:l.length<100000000):∀(f i:Nat) (hp:Hp),i+f=l.length->hp.rd b 0=some (LI .u8 (pkt l i))->
 ∃hp',B142_3 (S k 1 (LI .u8 (ub l))) (.ms b 0 0 ((l.length+7)/8) 1) (.int .i64 (i:Int)) hp=some (S 0 1 (LI .u8 (pk l)),hp'):=by
 intro f
 induction f with
 |zero=>
  intro i hp h hb
  have e:i=l.length:=qe
  subst e
  have hlt:¬((l.length:Int)<(l.length:Int)):=qe
  have fz:=QS .u8 (pk l) hp b (by rw[zeo]at hb;exact hb)
  rw[zX]at fz
  rw[qey]
  exact⟨hp.del b,by simp[fz]⟩
 |succ f ih=>
  intro i hp h hb
  have hi:i<l.length:=qe
  have hlt:(i:Int)<(l.length:Int):=qe
  have r8:=qgc i
  have q8:=qge i qe
  have ix:idx ((l.length+7)/8) (.int .i64 ((i/8:Nat):Int))=some (i/8):=zp .i64 qe
  have gx:ql (LI .u8 (pkt l i)) (i/8)=some (.int .u8 (by8 (l.take i) (8*(i/8)):Nat)):=by
   have:(pkt l i)[i/8]?=some (by8 (l.take i) (8*(i/8)):Int):=by
    unfold pkt
    rw[zm8,zpb qe]
    rfl
   unfold ql
   rw[qbj?,this]
   rfl
  have pn:=xo .u8 (pkt l i) (i/8) ((by8 (l.take i) (8*(i/8))+(l.getD i false).toNat*2^(7-i%8):Nat):Int) (by rw[zen];omega)
  rw[<-qzb l i hi]at pn
  have bit:∀h,(ub l)[i]'h=cond (l.getD i false) 1 0:=by
   intro h
   simp[ub,zmq,zmv hi]
  have sh:∀t o o',qx Tryz.prog .shl t o o' (.int .u8 (cond (l.getD i false) 1 0)) (.int .i64 (7-((i%8:Nat):Int)))=some (.int .u8 (((l.getD i false).toNat*2^(7-i%8):Nat):Int)):=by
   intro t o o'
   have hc:i%8=0\/i%8=1\/i%8=2\/i%8=3\/i%8=4\/i%8=5\/i%8=6\/i%8=7:=qe
   rw[zU _ _ _ _ _ _ _ _ qe]
   rcases hc with h|h|h|h|h|h|h|h<;>rw[h]<;>cases l.getD i false<;>rfl
  have hsum:by8 (l.take i) (8*(i/8))+(l.getD i false).toNat*2^(7-i%8)<256:=by
   have:=qag l i hi (i/8)
   rw[if_pos rfl]at this
   rw[<-this];exact qos _ _
  have w0:IntKind.i64.wrap (7-((i%8:Nat):Int))=7-((i%8:Nat):Int):=qm qe qe
  have w1:IntKind.u8.wrap (((by8 (l.take i) (8*(i/8)):Nat):Int)+(((l.getD i false).toNat*2^(7-i%8):Nat):Int))=((by8 (l.take i) (8*(i/8))+(l.getD i false).toNat*2^(7-i%8):Nat):Int):=by
   rw[zy]<;>omega
  have w2:IntKind.i64.wrap ((i:Int)+1)=((i+1:Nat):Int):=qj
  obtain⟨hp',ih'⟩:=ih (i+1) (hp.put b 0 (LI .u8 (pkt l (i+1)))) qe (qp _ _ _)
  refine⟨hp',?_⟩
  rw[qey]
  generalize((by8 (l.take i) (8*(i/8))+(l.getD i false).toNat*2^(7-i%8):Nat):Int)=A at*
  generalize(((l.getD i false).toNat*2^(7-i%8):Nat):Int)=D at*
  generalize((by8 (l.take i) (8*(i/8)):Nat):Int)=E at*
  generalize(cond (l.getD i false) 1 0:Int)=c at*
  generalize((i%8:Nat):Int)=m8 at*
  generalize LI .u8 (pkt l (i+1))=L' at*
  generalize LI .u8 (pkt l i)=L at*
  generalize((i+1:Nat):Int)=i' at*
  generalize hQ:i/8=Q at*
  generalize(l.length+7)/8=T at*
  simp[hi,r8,q8,ix,hb,gx,bit,w0,sh,w1,pn,w2,ih',zq]
theorem XK(l:List Bool)(k:Nat)(hl:l.length<100000000)(hp:Hp):∃hp',run cxX 142 [S k 1 (LI .u8 (ub l))] hp=some (S 0 1 (LI .u8 (pk l)),hp'):=by
 have mk:yV 1 1 (((l.length+7)/8:Nat):Int) (((l.length+7)/8:Nat):Int)=some ():=Ji qe qe qh qh
 have z:=ZW .u8 ((l.length+7)/8)
 rw[<-qza]at z
 obtain⟨hp',h⟩:=qnf l k hp.next hl l.length 0 (hp.new (LI .u8 (pkt l 0))) qe (qS _ _)
 have w1:IntKind.i64.wrap ((l.length:Int)+7)=((l.length+7:Nat):Int):=qj
 have q8:=qge (l.length+7) qe
 refine⟨hp',?_⟩
 rw[E142]
 generalize LI .u8 (pkt l 0)=Z at*
 generalize((l.length+7:Nat):Int)=T1 at*
 generalize(l.length+7)/8=T at*
 simp[w1,q8,mk,z]
 simpa using h
theorem QR{l:List Nat}{i:Nat}{x:Nat}{r:List Nat}(h:l.drop i=x::r):l.getD i 0=x:=by
 rw[zmq,(qt h).1];rfl
theorem zij(l m:List Nat):nz (l++m)=nz l++nz m:=by simp[nz]
section
variable (l:List Nat)(k:Nat)(hl:l.length<=1024)(h64:∀x∈l,x<18446744073709551616)(hr:qM l)
include hl h64 hr
theorem qsu(hp:Hp):∀(r:List Nat) (i:Nat),(qw l).drop i=r->i+r.length=l.length->
 B139_3 (S k 1 (LI .u64 (nz l))) (S 2 1 (LI .u64 (nz ((qw l).take i)))) (.int .i64 (i:Int)) hp=some (S 2 1 (LI .u64 (nz (qw l))),hp):=by
 intro r
 induction r with
 |nil=>
  intro i h hil
  simp at hil
  have e:(qw l).take i=qw l:=znm qi
  have hlt:¬(i<l.length):=qe
  rw[qe1,e]
  simp[hlt]
 |cons g r ih=>
  intro i h hil
  obtain⟨e1,e2,hi,e3⟩:=qt h
  simp only[zmp]at hil
  have hi':i<l.length:=qe
  have et:(qw l).take (i+1)=(qw l).take i++[g]:=by rw[zox,e1];rfl
  have w5:IntKind.i64.wrap ((i:Int)+1)=((i+1:Nat):Int):=qj
  have ap:=qk0 .u64 (nz ((qw l).take i)) 2 (.inr rfl) 8 qh (g:Int) qi
  have en:nz ((qw l).take i)++[(g:Int)]=nz ((qw l).take (i+1)):=by rw[et,zij];rfl
  rw[en]at ap
  have i1:=ih (i+1) e2 qe
  have c4:B139_4 (S k 1 (LI .u64 (nz l))) (S 2 1 (LI .u64 (nz ((qw l).take (i+1))))) (.int .i64 (i:Int)) hp=some (S 2 1 (LI .u64 (nz (qw l))),hp):=by
   rw[qwn]
   generalize((i+1:Nat):Int)=J at*
   simp[w5,i1]
  have gg:=Xf l i hi'
  rw[e1]at gg
  injection gg with gg
  have ai:=xF .u64 l i hi'
  rw[qe1]
  by_cases h0:i=0
  ·subst h0
   rw[if_pos rfl]at gg
   have en2:∀h,(nz l)[0]'h=(l.getD 0 0:Nat):=fun h=>by simp[nz,zmq,hi']
   rw[gg]at ap
   generalize l.getD 0 0=v at*
   simp only[List.take_zero]at ap
   simp only[zmz,zpg]at c4 ap
   simp[hi',ai,zq,ap,c4,en2]
  ·rw[if_neg h0]at gg
   have aj:=xF .u64 l (i-1) qe
   have hlt:=vt l hr (i-1) qe
   have e:i-1+1=i:=qe
   rw[e]at hlt
   have hv:l.getD i 0<18446744073709551616:=by
    rw[zmq,zmv hi']
    exact h64 _ (zm6 _)
   have w1:IntKind.i64.wrap ((i:Int)-1)=((i-1:Nat):Int):=qj
   have h0':¬((i:Int)=0):=qe
   have g0:(0:Int)<=((i-1:Nat):Int):=qe
   have en2:∀h,(nz l)[i]'h=(l.getD i 0:Nat):=fun h=>by simp[nz,zmq,hi']
   generalize l.getD i 0=u at*
   generalize l.getD (i-1) 0=v at*
   have w2:IntKind.u64.wrap ((u:Int)-(v:Int))=(u:Int)-(v:Int):=qu qe qe
   have w3:IntKind.u64.wrap ((u:Int)-(v:Int)-1)=(g:Int):=by rw[qu]<;>omega
   have aj':(LI .u64 (nz l))[(((i-1:Nat):Int)).toNat]?=some (.sc (.int .u64 (v:Int))):=by rw[zmy];exact aj
   generalize((i-1:Nat):Int)=j at*
   simp[hi',h0,ai,aj',zq,w1,g0,w2,w3,ap,c4,en2]
theorem qia(hp:Hp):run cxX 139 [S k 1 (LI .u64 (nz l))] hp=some (S 2 1 (LI .u64 (nz (qw l))),hp):=by
 have h:=qsu l k hl h64 hr hp (qw l) 0 rfl qg
 rw[E139]
 simpa[nz]using h
def rcG(k:Nat):List Nat->Nat->Bool->Nat×Bool
 |[],n,ok=>(n,ok)
 |g::r,n,ok=>if 4096<g/2^k then rcG k r (n+1+k) false else rcG k r (n+g/2^k+1+k) ok
omit hl h64 hr in
theorem zic(k:Nat):∀(r:List Nat) (n:Nat),(rcG k r n false).2=false:=by
 intro r
 induction r with
 |nil=>intro n;rfl
 |cons g r ih=>intro n;unfold rcG;split<;>exact ih _
omit hl h64 hr in
theorem zib(k:Nat):∀(r:List Nat) (n:Nat),(rcG k r n true).2=(xj k r n).2/\((xj k r n).2=true->(rcG k r n true).1=(xj k r n).1):=by
 intro r
 induction r with
 |nil=>intro n;exact⟨rfl,fun _=>rfl⟩
 |cons g r ih=>
  intro n
  unfold rcG xj
  by_cases h:4096<g/2^k
  ·rw[if_pos h,if_pos h]
   exact⟨zic k r _,fun c=>by cases c⟩
  ·rw[if_neg h,if_neg h]
   have:=ih (n+(g/2^k+1+k))
   have e:n+g/2^k+1+k=n+(g/2^k+1+k):=qe
   rw[e]
   exact this
omit hl h64 hr in
theorem qsw(gs:List Nat)(j:Nat)(hj:j<=63)(hg:gs.length<=1024)(v3 v4:Value)(hp:Hp):∀(r:List Nat) (i n:Nat) (ok:Bool),gs.drop i=r->i+r.length=gs.length->n+r.length*4160<4611686018427387904->
 B138_9 v3 v4 (S 2 1 (LI .u64 (nz gs))) (.int .i64 (j:Int)) (.int .i64 (n:Int)) (.bool ok) (.int .i64 (i:Int)) hp=
  B138_9 v3 v4 (S 2 1 (LI .u64 (nz gs))) (.int .i64 (j:Int)) (.int .i64 ((rcG j r n ok).1:Nat)) (.bool (rcG j r n ok).2) (.int .i64 (gs.length:Int)) hp:=by
 intro r
 induction r with
 |nil=>
  intro i n ok h hil hn
  simp at hil
  rw[hil];rfl
 |cons g r ih=>
  intro i n ok h hil hn
  obtain⟨e1,e2,hi,e3⟩:=qt h
  simp only[zmp]at hil hn
  have ai:=xF .u64 gs i hi
  rw[QR h]at ai
  have en:∀h,(nz gs)[i]'h=(g:Int):=fun h=>by simp[nz,e3]
  have sh:=fun t o o'=>xc .u64 g j (by show j<=64;omega) t o o' .i64
  have w5:IntKind.i64.wrap ((i:Int)+1)=((i+1:Nat):Int):=qj
  have step:∀(q:Nat) (b:Bool),q<=4096->B138_15 v3 v4 (S 2 1 (LI .u64 (nz gs))) (.int .i64 (j:Int)) (.int .i64 (n:Int)) (.bool b) (.int .i64 (i:Int)) (.int .u64 (q:Int)) hp=
   B138_9 v3 v4 (S 2 1 (LI .u64 (nz gs))) (.int .i64 (j:Int)) (.int .i64 ((n+q+1+j:Nat):Int)) (.bool b) (.int .i64 ((i+1:Nat):Int)) hp:=by
   intro q b hq
   have w1:IntKind.i64.wrap (q:Int)=(q:Int):=qm qe qe
   have w2:IntKind.i64.wrap ((n:Int)+(q:Int))=(n:Int)+(q:Int):=qm qe qe
   have w3:IntKind.i64.wrap ((n:Int)+(q:Int)+1)=(n:Int)+(q:Int)+1:=qm qe qe
   have w4:IntKind.i64.wrap ((n:Int)+(q:Int)+1+(j:Int))=((n+q+1+j:Nat):Int):=qj
   rw[qpc]
   generalize((n+q+1+j:Nat):Int)=N at*
   generalize((i+1:Nat):Int)=I at*
   simp[w1,w2,w3,w4,w5]
  rw[qe2]
  unfold rcG
  generalize hq:g/2^j=q at*
  by_cases hc:4096<q
  ·have hgt:(4096:Int)<(q:Int):=qe
   have hs:=step 0 false qe
   have hi2:=ih (i+1) (n+1+j) false e2 qe qe
   rw[if_pos hc,<-hi2]
   simp only[zoc]at hs
   generalize((n+1+j:Nat):Int)=N at*
   generalize((i+1:Nat):Int)=I at*
   simp at hs
   simp[hi,ai,zq,sh,hgt,hs,en]
  ·have hgt:¬((4096:Int)<(q:Int)):=qe
   have hs:=step q ok qe
   have hi2:=ih (i+1) (n+q+1+j) ok e2 qe qe
   rw[if_neg hc,<-hi2]
   generalize((n+q+1+j:Nat):Int)=N at*
   generalize((i+1:Nat):Int)=I at*
   simp[hi,ai,zq,sh,hgt,hs,en]
omit h64 hr in
theorem qst(hp:Hp):∀(f j b:Nat) (m:Int),j+f=64->b<=63->
 B138_4 (.int .i64 (b:Int)) (.int .i64 m) (S 2 1 (LI .u64 (nz (qw l)))) (.int .i64 (j:Int)) hp=some (.sc (.int .i64 (Vc (qw l) f j b m:Nat)),hp):=by
 intro f
 induction f with
 |zero=>
  intro j b m hj hb
  have hlt:¬((j:Int)<64):=qe
  rw[qe3]
  simp[hlt,Vc]
 |succ f ih=>
  intro j b m hj hb
  have hlt:(j:Int)<64:=qe
  have c:=qsw (qw l) j qe qi (.int .i64 (b:Int)) (.int .i64 m) hp (qw l) 0 0 true rfl qg qi
  obtain⟨c1,c2⟩:=zib j (qw l) 0
  have w5:IntKind.i64.wrap ((j:Int)+1)=((j+1:Nat):Int):=qj
  have i1:=ih (j+1) j (xj j (qw l) 0).1 qe qe
  have i2:=ih (j+1) b m qe hb
  have c8:∀v3 v4,B138_5 v3 v4 (S 2 1 (LI .u64 (nz (qw l)))) (.int .i64 (j:Int)) hp=B138_4 v3 v4 (S 2 1 (LI .u64 (nz (qw l)))) (.int .i64 ((j+1:Nat):Int)) hp:=by
   intro v3 v4
   rw[qwo]
   generalize((j+1:Nat):Int)=J at*
   simp[w5]
  have gl:(qw l).length=l.length:=kA l
  rw[qe3]
  unfold Vc
  rw[c1]at c
  generalize(rcG j (qw l) 0 true).1=N at*
  generalize xj j (qw l) 0=C at*
  obtain⟨d1,d2⟩:=C
  simp only[zq0,zq1]at i1 i2 c8
  simp at c
  generalize qw l=G at*
  have hlt':j<64:=qe
  have e9:∀(M:Int),B138_9 (.int .i64 (b:Int)) (.int .i64 m) (S 2 1 (LI .u64 (nz G))) (.int .i64 (j:Int)) (.int .i64 M) (.bool d2) (.int .i64 (l.length:Int)) hp=
   cond d2 (cond (decide (m<0)||decide (M<m)) (B138_4 (.int .i64 (j:Int)) (.int .i64 M) (S 2 1 (LI .u64 (nz G))) (.int .i64 ((j:Int)+1)) hp) (B138_4 (.int .i64 (b:Int)) (.int .i64 m) (S 2 1 (LI .u64 (nz G))) (.int .i64 ((j:Int)+1)) hp)) (B138_4 (.int .i64 (b:Int)) (.int .i64 m) (S 2 1 (LI .u64 (nz G))) (.int .i64 ((j:Int)+1)) hp):=by
   intro M
   rw[qe2]
   cases d2
   ·simp[gl,c8]
   ·by_cases h1:m<0
    ·simp[gl,h1,qa3,c8]
    ·by_cases h2:M<m
     ·simp[gl,h1,h2,qa3,c8]
     ·simp[gl,h1,h2,c8]
  cases d2
  ·simp[hlt,c,e9,i2]
  ·have c2:N=d1:=c2 rfl
   subst c2
   by_cases h1:m<0
   ·simp[hlt,c,e9,h1,i1]
   ·by_cases h2:(N:Int)<m
    ·simp[hlt,c,e9,h1,h2,i1]
    ·simp[hlt,c,e9,h1,h2,i2]
theorem qx9(hp:Hp):run cxX 138 [S k 1 (LI .u64 (nz l))] hp=some (.sc (.int .i64 (jc (qw l):Nat)),hp):=by
 have h:=qst l hl hp 64 0 63 (-1) rfl qe
 have g:=qia l (rk k) hl h64 hr hp0
 rw[E138]
 simp at h
 simp[g,h,jc]
omit hr in
theorem qss(kk:Nat)(hkk:kk<=63)(hg:∀g∈qw l,g/2^kk<=4096)(hp:Hp):∀(r:List Nat) (i:Nat) (bs:List Bool),(qw l).drop i=r->i+r.length=l.length->bs.length+r.length*4160<90000000->
 B71_5 (S k 1 (LI .u64 (nz l))) (.int .i64 (kk:Int)) (S 2 1 (LI .u8 (ub bs))) (S 2 1 (LI .u64 (nz (qw l)))) (.int .i64 (i:Int)) hp=
  B71_5 (S k 1 (LI .u64 (nz l))) (.int .i64 (kk:Int)) (S 2 1 (LI .u8 (ub (bs++ja kk r)))) (S 2 1 (LI .u64 (nz (qw l)))) (.int .i64 (l.length:Int)) hp:=by
 intro r
 induction r with
 |nil=>
  intro i bs h hil hb
  simp at hil
  rw[hil,ja,zne]
 |cons g r ih=>
  intro i bs h hil hb
  obtain⟨e1,e2,hi,e3⟩:=qt h
  simp only[zmp]at hil hb
  have ai:=xF .u64 (qw l) i hi
  rw[QR h]at ai
  have en:∀h,(nz (qw l))[i]'h=(g:Int):=fun h=>by simp[nz,e3]
  have hgm:g∈qw l:=by rw[<-e3];exact zm6 _
  have hq:=hg g hgm
  have g64:=xr h64 g hgm
  have sh:=fun t o o'=>xc .u64 g kk (by show kk<=64;omega) t o o' .i64
  have w5:IntKind.i64.wrap ((i:Int)+1)=((i+1:Nat):Int):=qj
  have w1:IntKind.i64.wrap ((g/2^kk:Nat):Int)=((g/2^kk:Nat):Int):=qm (by have:=zq9 (g/2^kk);omega) qe
  have u1:=qb3 (g/2^kk) qe hp0
  obtain⟨hq1,u2⟩:=qid g kk g64 qe hp0
  have a1:=yH .u8 (ub bs) 2 (.inr rfl) 1 qh 2 (ub (una (g/2^kk))) qi
  have a2:=yH .u8 (ub (bs++una (g/2^kk))) 2 (.inr rfl) 1 qh 0 (ub (kf g kk)) qi
  rw[<-qft]at a1 a2
  have i1:=ih (i+1) (bs++una (g/2^kk)++kf g kk) e2 qe qi
  have e:bs++ja kk (g::r)=bs++una (g/2^kk)++kf g kk++ja kk r:=by simp[ja]
  rw[e,<-i1,qlp]
  have hi':i<(qw l).length:=hi
  generalize((g/2^kk:Nat):Int)=q at*
  generalize((i+1:Nat):Int)=I at*
  generalize una (g/2^kk)=U at*
  generalize kf g kk=W at*
  generalize qw l=G at*
  simp only[qft,zna]at a1 a2
  simp[hi',ai,zq,en,sh,w1,u1,a1,u2,a2,w5]
theorem qh9(hp:Hp):run cxX 71 [S k 1 (LI .u64 (nz l))] hp=some (S 2 1 (LI .u8 (zh l)),hp):=by
 obtain⟨k63,hq⟩:=QK (xr h64)
 have hbl:=Qg (jc (qw l)) k63 (qw l) hq
 rw[kA]at hbl
 have p:=qx9 l (rk k) hl h64 hr hp0
 have g:=qia l (rk k) hl h64 hr hp0
 have lp:=qss l k hl h64 (jc (qw l)) k63 hq hp (qw l) 0 [] rfl qg qi
 obtain⟨hq1,by1⟩:=XK (ja (jc (qw l)) (qw l)) 3 qe hp0
 have u1:=js l.length qe hp0
 have lb:(pk (ja (jc (qw l)) (qw l))).length<1000000:=by rw[zX];omega
 have u2:=js (pk (ja (jc (qw l)) (qw l))).length qe hp0
 have q1:=qC (n:=l.length) qe
 have q2:=qC (n:=(pk (ja (jc (qw l)) (qw l))).length) qe
 have w1:IntKind.u64.wrap (l.length:Int)=(l.length:Int):=qu qe qe
 have w2:IntKind.u8.wrap ((jc (qw l):Nat):Int)=((jc (qw l):Nat):Int):=zy qe qe
 have w3:IntKind.u64.wrap ((pk (ja (jc (qw l)) (qw l))).length:Int)=((pk (ja (jc (qw l)) (qw l))).length:Int):=qu qe qe
 have a1:=qk0 .u8 (uv l.length) 2 (.inr rfl) 1 qh ((jc (qw l):Nat):Int) qe
 have a2:=yH .u8 (uv l.length++[((jc (qw l):Nat):Int)]) 2 (.inr rfl) 1 qh 2 (uv (pk (ja (jc (qw l)) (qw l))).length) (by simp only[zmo,zm0];omega)
 have a3:=yH .u8 (uv l.length++[((jc (qw l):Nat):Int)]++uv (pk (ja (jc (qw l)) (qw l))).length) 2 (.inr rfl) 1 qh 0 (pk (ja (jc (qw l)) (qw l))) (by simp only[zmo,zm0];omega)
 have gl:(qw l).length=l.length:=kA l
 rw[E71]
 unfold zh jd
 simp only[zni]at lp
 have e0:ub []=[]:=rfl
 rw[e0]at lp
 simp at lp
 generalize jc (qw l)=pr at*
 generalize hX:ja pr (qw l)=X at*
 have e1:∀G:List Nat,G.length=l.length->B71_5 (S k 1 (LI .u64 (nz l))) (.int .i64 (pr:Int)) (S 2 1 (LI .u8 (ub X))) (S 2 1 (LI .u64 (nz G))) (.int .i64 (l.length:Int)) hp=some (S 2 1 (LI .u8 (uv l.length++[(pr:Int)]++uv (pk X).length++pk X)),hp):=by
  intro G hG
  clear lp hX hq
  rw[qlp]
  generalize hB:pk X=Bx at*
  generalize uv Bx.length=U2 at*
  generalize uv l.length=U1 at*
  simp only[zna,zog,zni]at a1 a2 a3⊢
  simp[hG,by1,w1,u1,w2,a1,w3,u2,a2,a3]
 rw[e1 _ gl]at lp
 simp[p,g,lp]
end
section
variable (l:List Nat)(k:Nat)(hl:l.length<=65536)(h32:∀x∈l,x<4294967296)(hr:zM l)
include hl h32
omit h32 in
theorem qyz(last:Nat)(hla:last<4294967296)(hp:Hp):∀(f j:Nat),j+f=33->j<=32->
 B73_6 (S k 1 (LI .u32 (nz l))) (.int .i64 (l.length:Int)) (.int .u32 (last:Int)) (.int .i64 (j:Int)) hp=
  B73_8 (S k 1 (LI .u32 (nz l))) (.int .i64 (l.length:Int)) (.int .u32 (last:Int)) (.int .i64 (Vd l.length last f j:Nat)) hp:=by
 intro f
 induction f with
 |zero=>intro j h h2;omega
 |succ f ih=>
  intro j h h2
  have w1:IntKind.i64.wrap (last:Int)=(last:Int):=qm qe qe
  have w2:IntKind.i64.wrap ((j:Int)+1)=((j+1:Nat):Int):=qj
  have q2:∀t o o',qx Tryz.prog .quo t o o' (.int .i64 (last:Int)) (.int .i64 2)=some (.int .i64 ((last/2:Nat):Int)):=by
   intro t o o'
   rw[yy _ _ _ _ _ _ _ qe,znx qe,qm qe qe]
   rfl
  have sh:=fun t o o'=>xc .i64 (last/2) j (by show j<=64;omega) t o o' .i64
  have e2:last/2/2^j=last/2^(j+1):=by rw[zov,zoj,znu]
  rw[e2]at sh
  rw[zci]
  unfold Vd
  by_cases h0:0<l.length
  ·have h0':(0:Int)<(l.length:Int):=qe
   by_cases h1:l.length<=last/2^(j+1)
   ·by_cases hk:j=32
    ·subst hk
     have:last/2^33=0:=zpw (zm9 hla qh)
     have e:(32:Nat)+1=33:=rfl
     rw[e,this]at h1
     omega
    ·have hi:=ih (j+1) qe qe
     have h1':(l.length:Int)<=((last/2^(j+1):Nat):Int):=qe
     rw[if_pos ⟨h0,h1⟩]
     generalize((last/2^(j+1):Nat):Int)=q at*
     generalize((last/2:Nat):Int)=q1 at*
     generalize((j+1:Nat):Int)=k1 at*
     simp[h0,xv,w1,w2,sh,q2,h1',zch,hi]
   ·have h1':¬((l.length:Int)<=((last/2^(j+1):Nat):Int)):=qe
    rw[if_neg (fun c=>h1 c.2)]
    generalize((last/2^(j+1):Nat):Int)=q at*
    generalize((last/2:Nat):Int)=q1 at*
    simp[h0,xv,w1,sh,q2,h1']
  ·rw[if_neg (fun c=>h0 c.1)]
   have h0':¬((0:Int)<(l.length:Int)):=qe
   simp only[iC,Qo,zmr,jJ,kI,zot,gt_iff_lt,zpg,h0',decide_false,cond_false]
theorem qsv(kk:Nat)(hkk:kk<=32)(v4:Value)(hp:Hp):∀(r:List Nat) (i p:Nat) (b1 b2:List Bool),l.drop i=r->i+r.length=l.length->zM (p::r)->b1.length+r.length*32<90000000->b2.length+(qG kk (p/2^kk) r).length<90000000->(qG kk (p/2^kk) r).length<900000->
 ∃v,B73_11 (S k 1 (LI .u32 (nz l))) (.int .i64 (l.length:Int)) v4 (.int .i64 (kk:Int)) (S 2 1 (LI .u8 (ub b1))) (S 2 1 (LI .u8 (ub b2))) (.int .u32 ((p/2^kk:Nat):Int)) (.int .i64 (i:Int)) hp=
  B73_11 (S k 1 (LI .u32 (nz l))) (.int .i64 (l.length:Int)) v4 (.int .i64 (kk:Int)) (S 2 1 (LI .u8 (ub (b1++qN kk r)))) (S 2 1 (LI .u8 (ub (b2++qG kk (p/2^kk) r)))) v (.int .i64 (l.length:Int)) hp:=by
 intro r
 induction r with
 |nil=>
  intro i p b1 b2 h hil hpr hb1 hb2 hb3
  simp at hil
  exact⟨_,by rw[hil,qN,qG,zne,zne]⟩
 |cons x r ih=>
  intro i p b1 b2 h hil hpr hb1 hb2 hb3
  obtain⟨e1,e2,hi,e3⟩:=qt h
  simp only[zmp]at hil hb1
  have ai:=xF .u32 l i hi
  rw[QR h]at ai
  have en:∀h,(nz l)[i]'h=(x:Int):=fun h=>by simp[nz,e3]
  have hx:x<4294967296:=by rw[<-e3];exact h32 _ (zm6 _)
  have hd:p/2^kk<=x/2^kk:=zo4 hpr.1
  have hxq:x/2^kk<=x:=zo0 _ _
  have sh:=fun t o o'=>xc .u32 x kk (by show kk<=32;omega) t o o' .i64
  have hh:(qG kk (p/2^kk) (x::r)).length=(x/2^kk-p/2^kk)+1+(qG kk (x/2^kk) r).length:=by simp[qG]
  rw[hh]at hb2 hb3
  have w1':IntKind.u64.wrap (x:Int)=(x:Int):=qu qe qe
  have w2':IntKind.u32.wrap (((x/2^kk:Nat):Int)-((p/2^kk:Nat):Int))=((x/2^kk-p/2^kk:Nat):Int):=by rw[qJ]<;>omega
  have w3':IntKind.i64.wrap ((x/2^kk-p/2^kk:Nat):Int)=((x/2^kk-p/2^kk:Nat):Int):=qm qe qe
  have w5:IntKind.i64.wrap ((i:Int)+1)=((i+1:Nat):Int):=qj
  obtain⟨hq1,u2⟩:=qid x kk qe qe hp0
  have u1:=qb3 (x/2^kk-p/2^kk) qe hp0
  have a1:=yH .u8 (ub b1) 2 (.inr rfl) 1 qh 0 (ub (kf x kk)) qi
  have a2:=yH .u8 (ub b2) 2 (.inr rfl) 1 qh 2 (ub (una (x/2^kk-p/2^kk))) qi
  rw[<-qft]at a1 a2
  obtain⟨v,i1⟩:=ih (i+1) x (b1++kf x kk) (b2++una (x/2^kk-p/2^kk)) e2 qe hpr.2 qi qi qe
  have q1:b1++qN kk (x::r)=b1++kf x kk++qN kk r:=by simp[qN]
  have q2:b2++qG kk (p/2^kk) (x::r)=b2++una (x/2^kk-p/2^kk)++qG kk (x/2^kk) r:=by simp[qG]
  refine⟨v,?_⟩
  rw[q1,q2,<-i1,qdt]
  generalize una (x/2^kk-p/2^kk)=U at*
  generalize((x/2^kk-p/2^kk:Nat):Int)=d at*
  generalize((p/2^kk:Nat):Int)=P at*
  generalize((x/2^kk:Nat):Int)=X at*
  generalize((i+1:Nat):Int)=I at*
  generalize kf x kk=W at*
  simp only[qft]at a1 a2
  simp[hi,ai,zq,en,yx,xv,w1',u2,a1,sh,w2',w3',u1,a2,w5]
include hr
theorem qib(hp:Hp):run cxX 73 [S k 1 (LI .u32 (nz l))] hp=some (S 2 1 (LI .u8 (zB l)),hp):=by
 have hla:qI l<4294967296:=by
  unfold qI
  by_cases h:l=[]
  ·rw[h];decide
  ·have:l.length-1<l.length:=by have:=zn9.mpr h;omega
   rw[zmq,zmv this]
   exact h32 _ (zm6 _)
 have hk32:qz l<=32:=qqf _ _ hla
 have hh:=WF (qz l) l hr
 have h2:qI l/2^qz l<=2*l.length:=by
  by_cases h:l=[]
  ·subst h;exact Nat.le_of_eq (zqi _)
  ·exact zpt (ZG (zn9.mpr h) hla)
 obtain⟨v,lp⟩:=qsv l k hl h32 (qz l) hk32 (.int .u32 (qI l:Int)) hp l 0 0 [] [] rfl qg (jE hr) qi qi qi
 have lw:=qyz l k hl (qI l) hla hp 33 0 rfl qe
 have ef:Vd l.length (qI l) 33 0=qz l:=rfl
 rw[ef]at lw
 have lb:=Qh (qz l) l
 have lb2:l.length*qz l<=65536*32:=znj hl hk32
 obtain⟨hq1,by1⟩:=XK (qN (qz l) l) 3 qe hp0
 obtain⟨hq2,by2⟩:=XK (qG (qz l) 0 l) 3 qe hp0
 have l1:(pk (qN (qz l) l)).length<1000000:=by rw[zX];omega
 have l2:(pk (qG (qz l) 0 l)).length<1000000:=by rw[zX];omega
 have u1:=js l.length qe hp0
 have u2:=js (qI l) qe hp0
 have u3:=js (pk (qG (qz l) 0 l)).length qe hp0
 have q1:=qC (n:=l.length) qe
 have q2:=qC (n:=qI l) qe
 have q3:=qC (n:=(pk (qG (qz l) 0 l)).length) qe
 have w1:IntKind.u64.wrap (l.length:Int)=(l.length:Int):=qu qe qe
 have w2:IntKind.u64.wrap ((qI l:Nat):Int)=((qI l:Nat):Int):=qu qe qe
 have w3:IntKind.u64.wrap ((pk (qG (qz l) 0 l)).length:Int)=((pk (qG (qz l) 0 l)).length:Int):=qu qe qe
 have h8:B73_5 (S k 1 (LI .u32 (nz l))) (.int .i64 (l.length:Int)) (.int .u32 (qI l:Int)) hp=some (S 2 1 (LI .u8 (zB l)),hp):=by
  rw[zcj]
  simp at lw lp
  unfold zB
  have a1:=yH .u8 (uv l.length) 2 (.inr rfl) 1 qh 2 (uv (qI l)) qe
  have a2:=yH .u8 (uv l.length++uv (qI l)) 2 (.inr rfl) 1 qh 0 (pk (qN (qz l) l)) (by simp only[zmo];omega)
  have a3:=yH .u8 (uv l.length++uv (qI l)++pk (qN (qz l) l)) 2 (.inr rfl) 1 qh 2 (uv (pk (qG (qz l) 0 l)).length) (by simp only[zmo];omega)
  have a4:=yH .u8 (uv l.length++uv (qI l)++pk (qN (qz l) l)++uv (pk (qG (qz l) 0 l)).length) 2 (.inr rfl) 1 qh 0 (pk (qG (qz l) 0 l)) (by simp only[zmo];omega)
  generalize qz l=fk at*
  generalize qG fk 0 l=H at*
  generalize qN fk l=Lo at*
  generalize qI l=la at*
  have e1:B73_11 (S k 1 (LI .u32 (nz l))) (.int .i64 (l.length:Int)) (.int .u32 (la:Int)) (.int .i64 (fk:Int)) (S 2 1 (LI .u8 (ub Lo))) (S 2 1 (LI .u8 (ub H))) v (.int .i64 (l.length:Int)) hp=some (S 2 1 (LI .u8 (uv l.length++uv la++pk Lo++uv (pk H).length++pk H)),hp):=by
   rw[qdt]
   generalize pk Lo=PL at*
   generalize hB:pk H=PH at*
   generalize uv PH.length=U2 at*
   generalize uv l.length=U1 at*
   generalize uv la=U3 at*
   simp only[zna]at a1 a2 a3 a4⊢
   simp[yx,w1,u1,w2,u2,a1,by1,a2,by2,w3,u3,a3,a4]
  have e0:ub []=[]:=rfl
  rw[e1]at lp
  simp[lw,zcg]
  simpa[e0]using lp
 rw[E73]
 by_cases h:0<l.length
 ·have aj:=xF .u32 l (l.length-1) qe
  have el:l.getD (l.length-1) 0=qI l:=rfl
  have w9:IntKind.i64.wrap ((l.length:Int)-1)=((l.length-1:Nat):Int):=qj
  have h':(0:Int)<(l.length:Int):=qe
  rw[el]at aj
  have aj':(nz l)[(((l.length-1:Nat):Int)).toNat]?=some (qI l:Int):=by rw[zmy];simpa[LI]using aj
  have g0:(0:Int)<=((l.length-1:Nat):Int):=qe
  generalize((l.length-1:Nat):Int)=j at*
  generalize qI l=la at*
  simp[h,w9,aj',g0,zq,h8]
 ·have e:l=[]:=zm4.mp qe
  subst e
  have e:qI []=0:=rfl
  rw[e]at h8
  simpa using h8
end
theorem zbs(L:List Int)(j:Nat)(v:Int)(hj:j<L.length):qO (L.set j v)+(L.getD j 0).toNat*256^(L.length-1-j)=qO L+v.toNat*256^(L.length-1-j):=by
 have e:L=L.take j++([L.getD j 0]++L.drop (j+1)):=by
  rw[zmq,zmv hj,Option.getD_some,List.singleton_append,<-List.drop_eq_getElem_cons hj,zqu]
 have e2:L.set j v=L.take j++([v]++L.drop (j+1)):=by
  rw[List.set_eq_take_append_cons_drop,if_pos hj];rfl
 have one:∀z:Int,qO [z]=z.toNat:=fun z=>by simp[qO]
 have ld:(L.drop (j+1)).length=L.length-1-j:=by rw[zom];omega
 have b1:qO L=qO (L.take j++([L.getD j 0]++L.drop (j+1))):=by rw[<-e]
 rw[e2,b1,kD,kD,kD,kD,one,one,ld]
 simp only[zmo,zm0,ld]
 omega
theorem qq8:∀(a b:List Int),(∀x∈a,0<=x/\x<256)->(∀x∈b,0<=x/\x<256)->a.length=b.length->qO a=qO b->a=b
 |[],[],_,_,_,_=>rfl
 |[],_::_,_,_,h,_=>by cases h
 |_::_,[],_,_,h,_=>by cases h
 |x::a,y::b,ha,hb,hl,h=>by
  have hl':a.length=b.length:=by simpa using hl
  have one:∀z:Int,qO [z]=z.toNat:=fun z=>by simp[qO]
  have s1:qO (x::a)=x.toNat*256^a.length+qO a:=by rw[<-one,<-kD];rfl
  have s2:qO (y::b)=y.toNat*256^a.length+qO b:=by rw[<-one,hl',<-kD];rfl
  have l1:=Vx a fun z hz=>ha z (by simp[hz])
  have l2:=Vx b fun z hz=>hb z (by simp[hz])
  rw[<-hl']at l2
  rw[s1,s2]at h
  generalize 256^a.length=P at*
  have hq:x.toNat=y.toNat:=by
   have d1:(x.toNat*P+qO a)/P=x.toNat:=by rw[znu,Nat.mul_add_div qe,zpw l1];omega
   have d2:(y.toNat*P+qO b)/P=y.toNat:=by rw[znu,Nat.mul_add_div qe,zpw l2];omega
   rw[<-d1,<-d2,h]
  have hx:=ha x qg;have hy:=hb y qg
  have hxy:x=y:=qe
  rw[hq]at h
  have ih:=qq8 a b (fun z hz=>ha z (by simp[hz])) (fun z hz=>hb z (by simp[hz])) hl' qe
  rw[hxy,ih]
def MR(hp:Hp)(b:Nat)(cs:List Nat):Prop:=b<hp.next/\hp.rd b 0=some (LI .i64 (nz cs))
theorem MR.fr{hp hp':Hp}{b:Nat}{cs:List Nat}{X:List Nat}(h:MR hp b cs)(f:Fm X hp hp')(h1:b∉X):MR hp' b cs:=
 ⟨zm9 h.1 f.1,by rw[f.rd h.1 h1];exact h.2⟩
theorem gC0(x:AV)(l:List AV):qs (x::l) 0=some x:=rfl
theorem gN1(x:AV):qr [x] 0 1=some [x]:=rfl
theorem pN1(x y:AV):qo [x] 0 [y]=some [y]:=rfl
theorem qnu:∀(f i b:Nat) (hp:Hp),i+f=64->1<=i->MR hp b (List.replicate i 1)->
 ∃hp' b',B143_3 (.int .i64 64) (.int .i64 (i:Int)) [S 2 1 []] [.ms b 0 0 i 1] hp=some (.agg [.ms b' 0 0 64 1],hp')/\MR hp' b' cs0:=by
 intro f
 induction f with
 |zero=>
  intro i b hp h h1 hm
  have e:i=64:=qe
  subst e
  refine⟨hp,b,?_,hm⟩
  rw[KA]
  simp[gN1,pN1]
 |succ f ih=>
  intro i b hp h h1 hm
  have hlt:(i:Int)<64:=qe
  have w1:IntKind.i64.wrap ((i:Int)+1)=((i+1:Nat):Int):=qj
  have hl:(nz (List.replicate i 1)).length=i:=qg
  have ap:=ZS .i64 (nz (List.replicate i 1)) 1 8 b qh (by rw[hl];omega) (by intro e;rw[e]at hl;simp at hl;omega) hp hm.2
  rw[hl]at ap
  have e1:nz (List.replicate i 1)++[1]=nz (List.replicate (i+1) 1):=by rw[zo3,yP];rfl
  rw[e1]at ap
  obtain⟨hp',b',a1,a2⟩:=ih (i+1) hp.next ((hp.del b).new (LI .i64 (nz (List.replicate (i+1) 1)))) qe qe ⟨by simp[Hp.del],qS (hp.del b) _⟩
  refine⟨hp',b',?_,a2⟩
  rw[KA]
  generalize nz (List.replicate (i+1) 1)=L at*
  generalize((i+1:Nat):Int)=I at*
  simp[hlt,gC0,ap,pN1,w1,a1]
theorem qr3(hp:Hp):∃hp' b,run cxX 143 [.sc (.int .i64 64)] hp=some (.agg [.ms b 0 0 64 1],hp')/\MR hp' b cs0:=by
 have ap:=QX .i64 1 8 qh hp
 obtain⟨hp',b',a1,a2⟩:=qnu 63 1 hp.next (hp.new (LI .i64 [1])) rfl qe ⟨qg,qS _ _⟩
 refine⟨hp',b',?_,a2⟩
 rw[E143]
 have h3:B143_3 (.int .i64 64) (.int .i64 0) [S 2 1 []] [S 2 1 []] hp=some (.agg [.ms b' 0 0 64 1],hp'):=by
  rw[KA]
  generalize LI .i64 [1]=L at*
  simp[gC0,ap,pN1]
  simpa using a1
 simp[h3]
section
variable (hp:Hp)(b:Nat)(cs:List Nat)(h:MR hp b cs)(hl:cs.length=64)(hs:cs.sum<=1000000)
include h hl hs
theorem qnv:∀(f i:Nat),i+f=64->
 B144_3 (.int .i64 ((cs.take i).sum:Nat)) (.int .i64 (i:Int)) [.ms b 0 0 64 1] hp=some (.sc (.int .i64 (cs.sum:Nat)),hp):=by
 intro f
 induction f with
 |zero=>
  intro i e
  have e:i=64:=qe
  subst e
  have et:cs.take 64=cs:=by rw[<-hl,zo1]
  rw[qex,et]
  simp[gC0]
 |succ f ih=>
  intro i e
  have hn:=ih (i+1) qe
  have ix:idx 64 (.int .i64 (i:Int))=some i:=zp .i64 qe
  have g:=jN .i64 (nz cs) i qi
  rw[yQ cs i qe]at g
  have st:=qP cs i qe
  have sl:=qQ cs (i+1)
  have w1:IntKind.i64.wrap ((((cs.take i).sum:Nat):Int)+((cs.getD i 0:Nat):Int))=(((cs.take (i+1)).sum:Nat):Int):=qj
  have w2:IntKind.i64.wrap ((i:Int)+1)=((i+1:Nat):Int):=qj
  have hlt:(i:Int)<64:=qe
  rw[<-hn,qex]
  have h2:=h.2
  generalize(((cs.take i).sum:Nat):Int)=A at*
  generalize(((cs.take (i+1)).sum:Nat):Int)=A1 at*
  generalize((cs.getD i 0:Nat):Int)=B at*
  generalize((i+1:Nat):Int)=I at*
  have hlt':i<64:=qe
  simp[gC0,hlt',ix,h2,g,w1,w2]
theorem qb6:run cxX 144 [.agg [.ms b 0 0 64 1]] hp=some (.sc (.int .i64 (cs.sum:Nat)),hp):=by
 have lp:=qnv hp b cs h hl hs 64 0 rfl
 rw[E144]
 simp at lp
 simp[lp]
theorem qgt(x:Nat)(hx:x<64):∀(f i:Nat),i+f=x->
 B146_3 (.int .i64 (x:Int)) (.int .i64 ((cs.take i).sum:Nat)) (.int .i64 (i:Int)) [.ms b 0 0 64 1] hp=some (.sc (.int .i64 ((cs.take x).sum:Nat)),hp):=by
 intro f
 induction f with
 |zero=>
  intro i e
  have e:i=x:=qe
  subst e
  rw[qeu]
  simp
 |succ f ih=>
  intro i e
  have hn:=ih (i+1) qe
  have ix:idx 64 (.int .i64 (i:Int))=some i:=zp .i64 qe
  have g:=jN .i64 (nz cs) i qi
  rw[yQ cs i qe]at g
  have st:=qP cs i qe
  have sl:=qQ cs (i+1)
  have w1:IntKind.i64.wrap ((((cs.take i).sum:Nat):Int)+((cs.getD i 0:Nat):Int))=(((cs.take (i+1)).sum:Nat):Int):=qj
  have w2:IntKind.i64.wrap ((i:Int)+1)=((i+1:Nat):Int):=qj
  have hlt:(i:Int)<(x:Int):=qe
  rw[<-hn,qeu]
  have h2:=h.2
  generalize(((cs.take i).sum:Nat):Int)=A at*
  generalize(((cs.take (i+1)).sum:Nat):Int)=A1 at*
  generalize((cs.getD i 0:Nat):Int)=B at*
  generalize((i+1:Nat):Int)=I at*
  simp[gC0,hlt,ix,h2,g,w1,w2]
theorem qih(x:Nat)(hx:x<64):run cxX 146 [.agg [.ms b 0 0 64 1],.sc (.int .i64 (x:Int))] hp=some (.sc (.int .i64 ((cs.take x).sum:Nat)),hp):=by
 have lp:=qgt hp b cs h hl hs x hx x 0 qe
 rw[E146]
 simp at lp
 simp[lp]
end
theorem qnt(d:List Nat)(hd:d.length=64)(hs:d.sum<=1000000)(b:Nat):∀(f i:Nat) (hp:Hp),i+f=64->b<hp.next->hp.rd b 0=some (LI .i64 (nz (hf d i)))->
 ∃hp',B147_5 (.int .i64 (i:Int)) [S 2 1 []] [.ms b 0 0 64 1] hp=some (.agg [.ms b 0 0 64 1],hp')/\MR hp' b (d.map fun n=>(n+1)/2)/\hp'.next=hp.next/\∀c,c≠b->hp'.get c=hp.get c:=by
 intro f
 induction f with
 |zero=>
  intro i hp hi h1 h2
  have e:i=64:=qe
  subst e
  have ef:hf d 64=d.map fun n=>(n+1)/2:=by rw[<-hd,zas]
  rw[ef]at h2
  refine⟨hp,?_,⟨h1,h2⟩,rfl,fun _ _=>rfl⟩
  rw[qet]
  simp[gC0,qes,gN1,pN1]
 |succ f ih=>
  intro i hp hi h1 h2
  have hid:i<d.length:=qe
  have hlt:(i:Int)<64:=qe
  have ix:idx 64 (.int .i64 (i:Int))=some i:=zp .i64 qe
  have g:=jN .i64 (nz (hf d i)) i qi
  rw[yQ _ i qi,zar d i hid]at g
  have hx:d.getD i 0<=1000000:=by
   have:=qP d i hid
   have:=qQ d (i+1)
   omega
  have p:=xo .i64 (nz (hf d i)) i (((d.getD i 0+1)/2:Nat):Int) qi
  have es:(nz (hf d i)).set i (((d.getD i 0+1)/2:Nat):Int)=nz (hf d (i+1)):=by
   rw[qg6 d i hid];unfold nz;rw[zre]
  rw[es]at p
  have w1:IntKind.i64.wrap (((d.getD i 0:Nat):Int)+1)=((d.getD i 0+1:Nat):Int):=qj
  have q2:∀t o o',qx Tryz.prog .quo t o o' (.int .i64 ((d.getD i 0+1:Nat):Int)) (.int .i64 2)=some (.int .i64 (((d.getD i 0+1)/2:Nat):Int)):=by
   intro t o o'
   rw[yy _ _ _ _ _ _ _ qe,znx qe,qm qe qe]
   rfl
  have w4:IntKind.i64.wrap ((i:Int)+1)=((i+1:Nat):Int):=qj
  obtain⟨hp2,a1,a2,a3,a4⟩:=ih (i+1) (hp.put b 0 (LI .i64 (nz (hf d (i+1))))) qe h1 (qp _ _ _)
  refine⟨hp2,?_,a2,by rw[a3];rfl,fun c c1=>by rw[a4 c c1];simp[Hp.put,c1]⟩
  rw[<-a1,qet]
  generalize nz (hf d (i+1))=L1 at*
  generalize nz (hf d i)=L0 at*
  generalize(((d.getD i 0+1)/2:Nat):Int)=y2 at*
  generalize((d.getD i 0+1:Nat):Int)=y1 at*
  generalize((d.getD i 0:Nat):Int)=y0 at*
  generalize((i+1:Nat):Int)=I at*
  have hlt':i<64:=qe
  simp[gC0,hlt',ix,h2,g,w1,q2,p,w4]
theorem qut(K:IntKind)(l:List Int)(b:Nat)(hb:0<b/\b<=1000)(x:Nat)(hl:l.length<=1000000)(hne:l≠[])(hp:Hp)(hx:hp.rd x 0=some (LI K l)):
 jV b 1 (S 1 1 []) (.ms x 0 0 l.length 1) hp=some (.ms hp.next 0 0 l.length 1,hp.new (LI K l)):=by
 have e:=YC K l hp x 0 l.length hx qe
 rw[zop,zo1,<-JS hp 1 1 (LI K l)]at e
 have h:=vV K l 1 b hb hl hne hp
 unfold jV at h⊢
 rw[e]
 exact h
theorem qr2(hp:Hp)(b x:Nat)(cs:List Nat)(h:MR hp b cs)(hm:okM cs)(hx:x<64):
 ∃hp' b',run cxX 147 [.agg [.ms b 0 0 64 1],.sc (.int .i64 (x:Int))] hp=some (.agg [.ms b' 0 0 64 1],hp')/\MR hp' b' (Yw cs x)/\hp.next<=b'/\Fm [] hp hp':=by
 obtain⟨m1,m2,m3⟩:=hm
 have hnl:(nz cs).length=64:=by simp[m1]
 have ap:=qut .i64 (nz cs) 8 qh b qe (by intro e;rw[e]at hnl;cases hnl) hp h.2
 rw[hnl]at ap
 have ix:idx 64 (.int .i64 (x:Int))=some x:=zp .i64 qe
 have g:=jN .i64 (nz cs) x qi
 rw[yQ cs x qe]at g
 have st:=qP cs x qe
 have sl:=qQ cs (x+1)
 have ss:=qfx cs x (cs.getD x 0+24) qe
 have w1:IntKind.i64.wrap (((cs.getD x 0:Nat):Int)+24)=((cs.getD x 0+24:Nat):Int):=qj
 have p:=xo .i64 (nz cs) x ((cs.getD x 0+24:Nat):Int) qi
 have es:(nz cs).set x ((cs.getD x 0+24:Nat):Int)=nz (cs.set x (cs.getD x 0+24)):=by unfold nz;rw[zre]
 rw[es]at p
 have dl:(cs.set x (cs.getD x 0+24)).length=64:=by simp[m1]
 have rn:=qS hp (LI .i64 (nz cs))
 have f0:Fm [] hp ((hp.new (LI .i64 (nz cs))).put hp.next 0 (LI .i64 (nz (cs.set x (cs.getD x 0+24))))):=by
  refine⟨Nat.le_succ _,fun c hc _=>?_⟩
  have:c≠hp.next:=qe
  simp[Hp.put,Hp.new,this]
 have rm:MR ((hp.new (LI .i64 (nz cs))).put hp.next 0 (LI .i64 (nz (cs.set x (cs.getD x 0+24))))) hp.next (cs.set x (cs.getD x 0+24)):=⟨zp8 _,qp _ _ _⟩
 have al:=qb6 _ hp.next (cs.set x (cs.getD x 0+24)) rm dl qe
 unfold Yw
 generalize hd:cs.set x (cs.getD x 0+24)=d at*
 generalize hq:(hp.new (LI .i64 (nz cs))).put hp.next 0 (LI .i64 (nz d))=hq1 at*
 by_cases hle:d.sum<=4096
 ·rw[if_pos hle]
  refine⟨hq1,hp.next,?_,rm,zms _,f0⟩
  have hle':¬((4096:Int)<((d.sum:Nat):Int)):=qe
  rw[E147]
  generalize((d.sum:Nat):Int)=D at*
  generalize((cs.getD x 0+24:Nat):Int)=y1 at*
  generalize((cs.getD x 0:Nat):Int)=y0 at*
  simp[gC0,ap,pN1,ix,rn,g,w1,p,hq,gN1,al,hle',qes]
 ·rw[if_neg hle]
  have e0:hf d 0=d:=by unfold hf;simp
  obtain⟨hp2,a1,a2,a3,a4⟩:=qnt d dl qe hp.next 64 0 hq1 rfl rm.1 (by rw[e0];exact rm.2)
  refine⟨hp2,hp.next,?_,a2,zms _,by rw[a3];exact f0.1,fun c hc hn=>by rw[a4 c qe,f0.2 c hc hn]⟩
  have hle':(4096:Int)<((d.sum:Nat):Int):=qe
  rw[E147]
  generalize((d.sum:Nat):Int)=D at*
  generalize((cs.getD x 0+24:Nat):Int)=y1 at*
  generalize((cs.getD x 0:Nat):Int)=y0 at*
  simp at a1
  simp[gC0,ap,pN1,ix,rn,g,w1,p,hq,gN1,al,hle',a1]
def LR(hp:Hp)(b:Nat)(L:List Int):Prop:=b<hp.next/\hp.rd b 0=some (LI .u8 L)/\∀x∈L,0<=x/\x<256
theorem qsz(b n T:Nat)(hn:n<=1000000)(hT:T<256^n):∀(i c:Nat) (L:List Int) (hp:Hp),L.length=n->i<=n->c<18446744073709551616->LR hp b L->qO L+c*256^(n-i)=T->
 ∃hp' L',B145_3 (.ms b 0 0 n 1) (.int .u64 (c:Int)) (.int .i64 ((i:Int)-1)) hp=some (.ms b 0 0 n 1,hp')/\LR hp' b L'/\L'.length=n/\qO L'=T/\hp'.next=hp.next/\∀z,z≠b->hp'.get z=hp.get z:=by
 intro i
 induction i with
 |zero=>
  intro c L hp hl hi hc hL hb
  have c0:c=0:=by
   rcases zpr c with e|e
   ·exact e
   ·have:1*256^(n-0)<=c*256^(n-0):=znb _ e
    rw[zrd]at this hb
    omega
  subst c0
  refine⟨hp,L,?_,hL,hl,by simpa using hb,rfl,fun _ _=>rfl⟩
  rw[qew]
  simp[qev]
 |succ i ih=>
  intro c L hp hl hi hc hL hb
  have e1:((i+1:Nat):Int)-1=(i:Int):=qe
  rw[qew,e1]
  by_cases hc0:0<c
  ·obtain⟨L1,L2,L3⟩:=hL
   have hi':i<L.length:=qe
   have ix:idx n (.int .i64 (i:Int))=some i:=zp .i64 qe
   have g:=jN .u8 L i qe
   have hx:0<=L.getD i 0/\L.getD i 0<256:=by
    rw[zmq,zmv hi']
    exact L3 _ (zm6 _)
   obtain⟨y,hy⟩:∃y:Nat,L.getD i 0=(y:Int):=⟨(L.getD i 0).toNat,qe⟩
   rw[hy]at g hx
   have r1:=Vl c 256 qh
   have r2:=Vl (y+c%256) 256 qh
   have q1:=YR c 256 qh hc
   have q2:=YR (y+c%256) 256 qh qe
   have w0:IntKind.u64.wrap (y:Int)=(y:Int):=qu qe qe
   have w1:IntKind.u64.wrap ((y:Int)+((c%256:Nat):Int))=((y+c%256:Nat):Int):=by rw[qu]<;>omega
   have w2:IntKind.u8.wrap (((y+c%256)%256:Nat):Int)=(((y+c%256)%256:Nat):Int):=zy qe qe
   have w3:IntKind.u64.wrap (((c/256:Nat):Int)+(((y+c%256)/256:Nat):Int))=((c/256+(y+c%256)/256:Nat):Int):=by rw[qu]<;>omega
   have w4:IntKind.i64.wrap ((i:Int)-1)=(i:Int)-1:=qm qe qe
   have p:=xo .u8 L i (((y+c%256)%256:Nat):Int) qe
   have bs:=zbs L i (((y+c%256)%256:Nat):Int) hi'
   rw[hy,zmy,zmy,hl]at bs
   have en:n-1-i=n-(i+1):=qe
   have en2:n-i=n-(i+1)+1:=qe
   have hb':qO (L.set i (((y+c%256)%256:Nat):Int))+(c/256+(y+c%256)/256)*256^(n-i)=T:=by
    rw[en]at bs
    rw[en2,zoj]
    have k1:c=c/256*256+c%256:=qe
    have k2:y+c%256=(y+c%256)/256*256+(y+c%256)%256:=qe
    generalize 256^(n-(i+1))=P at*
    generalize(y+c%256)/256=u at*
    generalize(y+c%256)%256=v at*
    generalize c/256=c1 at*
    generalize c%256=c2 at*
    have e3:(c1+u)*(P*256)=c1*256*P+u*256*P:=by rw[znu P 256,<-Nat.mul_assoc,zpd,zpd]
    have e4:y*P+c2*P=u*256*P+v*P:=by rw[<-Nat.add_mul,<-Nat.add_mul,k2]
    have e5:c*P=c1*256*P+c2*P:=by rw[<-Nat.add_mul,<-k1]
    omega
   have hL':LR (hp.put b 0 (LI .u8 (L.set i (((y+c%256)%256:Nat):Int)))) b (L.set i (((y+c%256)%256:Nat):Int)):=by
    refine⟨L1,qp _ _ _,fun x hx'=>?_⟩
    rcases zph hx' with h|h
    ·exact L3 x h
    ·rw[h];omega
   obtain⟨hp',L',a1,a2,a3,a4,a5,a6⟩:=ih (c/256+(y+c%256)/256) _ _ (by simp[hl]) qe qe hL' hb'
   refine⟨hp',L',?_,a2,a3,a4,by rw[a5];rfl,fun z hz=>by rw[a6 z hz];simp[Hp.put,hz]⟩
   rw[<-a1]
   have hc0':(0:Int)<(c:Int):=qe
   simp only[zpg]at r1 r2 q1 q2
   have h5:B145_5 (.ms b 0 0 n 1) (.int .u64 (c:Int)) (.int .i64 (i:Int)) hp=B145_3 (.ms b 0 0 n 1) (.int .u64 ((c/256+(y+c%256)/256:Nat):Int)) (.int .i64 ((i:Int)-1)) (hp.put b 0 (LI .u8 (L.set i (((y+c%256)%256:Nat):Int)))):=by
    rw[qwk]
    clear a1 hL' hb' bs ih
    generalize((c/256+(y+c%256)/256:Nat):Int)=C3 at*
    generalize(((y+c%256)%256:Nat):Int)=v at*
    generalize(((y+c%256)/256:Nat):Int)=u at*
    generalize((y+c%256:Nat):Int)=s at*
    generalize((c/256:Nat):Int)=c1 at*
    generalize((c%256:Nat):Int)=c2 at*
    simp[ix,L2,g,w0,r1,w1,r2,w2,p,q1,q2,w3,w4]
   clear a1 hL' hb' bs ih p w2 w3 a5 a6
   generalize((c/256+(y+c%256)/256:Nat):Int)=C3 at*
   generalize(((y+c%256)%256:Nat):Int)=v at*
   simp[hc0,h5]
  ·have c0:c=0:=qe
   subst c0
   refine⟨hp,L,?_,hL,hl,by simpa using hb,rfl,fun _ _=>rfl⟩
   simp[qev]
theorem qr1(b c:Nat)(L:List Int)(hp:Hp)(hl:L.length<=1000000)(hc:c<18446744073709551616)(hL:LR hp b L)(hT:qO L+c<256^L.length):
 ∃hp' L',run cxX 145 [.ms b 0 0 L.length 1,.sc (.int .u64 (c:Int))] hp=some (.ms b 0 0 L.length 1,hp')/\LR hp' b L'/\L'.length=L.length/\qO L'=qO L+c/\hp'.next=hp.next/\∀z,z≠b->hp'.get z=hp.get z:=by
 obtain⟨hp',L',a1,a2⟩:=qsz b L.length (qO L+c) hl hT L.length c L hp rfl (zms _) hc hL qg
 refine⟨hp',L',?_,a2⟩
 have w1:IntKind.i64.wrap ((L.length:Int)-1)=(L.length:Int)-1:=qm qe qe
 rw[E145]
 simp[w1,a1]
theorem LR.fr{hp hp':Hp}{b:Nat}{L:List Int}{X:List Nat}(h:LR hp b L)(f:Fm X hp hp')(h1:b∉X):LR hp' b L:=
 ⟨zm9 h.1 f.1,by rw[f.rd h.1 h1];exact h.2.1,h.2.2⟩
structure CQ (hp : Hp) (lo mb : Nat) (L : List Int) (cs : List Nat) (s : En) : Prop where
 lr:LR hp lo L
 mr:MR hp mb cs
 ne:lo≠mb
 v:qO L=eV s
 k:L.length=eK s+4
 up:eV s+s.width<=256^L.length
theorem quh(X:AV)(v8 v9:Value)(b5:List AV)(w:Int)(hp:Hp)(hw:w<16777216)(W:Int)(w1:IntKind.u64.wrap (w*256)=W)(lo n:Nat)(Y:AV)(hp':Hp)(ap:jV 1 1 (.ms lo 0 0 n 1) (S 1 1 [.sc (.int .u8 0)]) hp=some (Y,hp')):
 B72_11 X (.ms lo 0 0 n 1) (.int .u64 w) v8 v9 b5 hp=B72_11 X Y (.int .u64 W) v8 v9 b5 hp':=by
 rw[qdu]
 simp[hw,w1,ap]
theorem qui(X x6:AV)(i:Int)(v9:Value)(w:Int)(hp:Hp)(hw:¬(w<16777216))(i':Int)(w1:IntKind.i64.wrap (i+1)=i')(mb mb':Nat)(hp':Hp)(d1:run cxX 147 [.agg [.ms mb 0 0 64 1],.sc v9] hp=some (.agg [.ms mb' 0 0 64 1],hp')):
 B72_11 X x6 (.int .u64 w) (.int .i64 i) v9 [.ms mb 0 0 64 1] hp=B72_5 X x6 (.int .u64 w) (.int .i64 i') [.ms mb' 0 0 64 1] hp':=by
 rw[qdu]
 simp[hw,gN1,pN1,d1,w1]
theorem quf(k mb:Nat)(X:AV)(v8 v9:Value)(cs:List Nat):∀(f:Nat) (s:En) (lo:Nat) (L:List Int) (hp:Hp),CQ hp lo mb L cs s->Zy s s.width->s.width<=4294967296->L.length+f<=900000->
 ∃hp' lo' L',B72_11 X (.ms lo 0 0 L.length 1) (.int .u64 (s.width:Int)) v8 v9 [.ms mb 0 0 64 1] hp=B72_11 X (.ms lo' 0 0 L'.length 1) (.int .u64 ((zE f s).width:Nat)) v8 v9 [.ms mb 0 0 64 1] hp'/\
  CQ hp' lo' mb L' cs (zE f s)/\L'.length<=L.length+f:=by
 intro f
 induction f with
 |zero=>intro s lo L hp h ho hw hl;exact⟨hp,lo,L,rfl,h,zms _⟩
 |succ f ih=>
  intro s lo L hp h ho hw hl
  unfold zE
  by_cases hlt:s.width<16777216
  ·rw[if_pos hlt]
   have ho':Zy (XD s (s.width*256)) s.width:=ho
   obtain⟨a1,a2,a3,a4⟩:=YF (XD s (s.width*256)) s.width ho' qe
   have a4:(sh (XD s (s.width*256))).width=s.width*256:=a4
   rw[(Ke s _).1]at a2
   rw[(Ke s _).2]at a3
   have hne:L≠[]:=by intro e;have:=h.k;rw[e]at this;simp at this
   have ap:=ZS .u8 L 0 1 lo qh qe hne hp h.lr.2.1
   have fm:Fm [lo] hp ((hp.del lo).new (LI .u8 (L++[0]))):=Fm.delNew hp lo _ qg
   have cq:CQ ((hp.del lo).new (LI .u8 (L++[0]))) hp.next mb (L++[0]) cs (sh (XD s (s.width*256))):=by
    refine⟨⟨by simp[Hp.del],qS (hp.del lo) _,fun x hx=>?_⟩,h.mr.fr fm (by simp;exact fun e=>h.ne e.symm),by have:=h.mr.1;omega,?_,?_,?_⟩
    ·rcases zny.mp hx with q|q
     ·exact h.lr.2.2 x q
     ·simp at q;omega
    ·have e0:(0:Int).toNat=0:=rfl
     rw[yg,h.v,a2,e0,zoc]
    ·have q:=h.k
     rw[a3,zmo,zm0];omega
    ·rw[a2,a4,zmo,zm0,zoj,<-Nat.add_mul]
     exact znb _ h.up
   obtain⟨hp',lo',L',b1,b2,b3⟩:=ih (sh (XD s (s.width*256))) hp.next (L++[0]) _ cq (by rw[a4];exact a1) (by rw[a4];omega) qi
   refine⟨hp',lo',L',?_,b2,by simp at b3;omega⟩
   have w1:IntKind.u64.wrap ((s.width:Int)*256)=((s.width*256:Nat):Int):=by rw[qu]<;>omega
   rw[<-b1,a4,zmo,zm0]
   exact quh X v8 v9 _ _ hp qe _ w1 _ _ _ _ ap
  ·rw[if_neg hlt]
   exact⟨hp,lo,L,rfl,h,Nat.le_add_right _ _⟩
theorem qug(l:List Nat)(k:Nat)(h64:∀x∈l,x<64)(hl:l.length<=100000):∀(r:List Nat) (i:Nat) (cs:List Nat) (s:En) (lo mb:Nat) (L:List Int) (hp:Hp),l.drop i=r->i+r.length=l.length->CQ hp lo mb L cs s->okM cs->Zy s s.width->
 16777216<=s.width/\s.width<=4294967296->L.length+4*r.length<=900000->
 ∃hp' L',B72_5 (S k 1 (LI .u8 (nz l))) (.ms lo 0 0 L.length 1) (.int .u64 (s.width:Int)) (.int .i64 (i:Int)) [.ms mb 0 0 64 1] hp=some (S 0 1 (LI .u8 L'),hp')/\
  qO L'=eV (enc cs s r)/\L'.length=eK (enc cs s r)+4/\∀x∈L',0<=x/\x<256:=by
 intro r
 induction r with
 |nil=>
  intro i cs s lo mb L hp h hil hq hm ho hw hb
  simp at hil
  have fz:=QS .u8 L hp lo hq.lr.2.1
  refine⟨hp.del lo,L,?_,hq.v,hq.k,hq.lr.2.2⟩
  rw[qlo]
  simp[hil,fz]
 |cons x r ih=>
  intro i cs s lo mb L hp h hil hq hm ho hw hb
  obtain⟨e1,e2,hi,e3⟩:=qt h
  simp only[zmp]at hil hb
  have hx:x<64:=by rw[<-e3];exact h64 _ (zm6 _)
  obtain⟨m1,m2,m3⟩:=hm
  have al:=qb6 hp mb cs hq.mr m1 qe
  have stt:=qih hp mb cs hq.mr m1 qe x hx
  have ht:=qP cs x qe
  have hta:=qQ cs (x+1)
  have hn:1<=cs.getD x 0:=by
   rw[zmq,zmv qe]
   exact m3 _ (zm6 _)
  have hmul:s.width/cs.sum*cs.sum<=s.width:=zn3 _ _
  have hsum:s.width/cs.sum*(cs.take x).sum+s.width/cs.sum*cs.getD x 0<=s.width:=by
   rw[<-Nat.mul_add,<-ht]
   exact zn7 (znz _ hta) hmul
  obtain⟨d,b1,b2,b3,b4,b5,b6,b7⟩:=QZ s cs x ⟨m1,m2,m3⟩ hx ho hw
  have up:=hq.up
  have vv:=hq.v
  obtain⟨h4,L4,p1,p2,p3,p4,p5,p6⟩:=qr1 lo (s.width/cs.sum*(cs.take x).sum) L hp qe qe hq.lr (by rw[vv];omega)
  have mr4:MR h4 mb cs:=⟨by rw[p5];exact hq.mr.1,by rw[xE (p6 mb (fun e=>hq.ne e.symm))];exact hq.mr.2⟩
  have okn:Zy (xy s cs x) (xy s cs x).width:=by
   obtain⟨h1,h2,h3,h4⟩:=ho
   refine⟨?_,h2,b7,fun q=>?_⟩
   ·show s.low+s.width/cs.sum*(cs.take x).sum+s.width/cs.sum*cs.getD x 0<=_;omega
   ·have:=h4 q
    show s.low+s.width/cs.sum*(cs.take x).sum+s.width/cs.sum*cs.getD x 0<=_;omega
  have ev:eV (xy s cs x)=eV s+s.width/cs.sum*(cs.take x).sum:=by
   show qO (bl s)*4294967296+(s.low+_)=qO (bl s)*4294967296+s.low+_
   omega
  have cq4:CQ h4 lo mb L4 cs (xy s cs x):=⟨p2,mr4,hq.ne,by rw[p4,vv,ev],by rw[p3];exact hq.k,by rw[ev,p3];show _+s.width/cs.sum*cs.getD x 0<=_;omega⟩
  obtain⟨h5,lo5,L5,c1,c2,c3⟩:=quf k mb (S k 1 (LI .u8 (nz l))) (.int .i64 (i:Int)) (.int .i64 (x:Int)) cs 4 (xy s cs x) lo L4 h4 cq4 okn (by show s.width/cs.sum*cs.getD x 0<=_;omega) qe
  obtain⟨h6,mb6,d1,d2,d3,d4⟩:=qr2 h5 mb x cs c2.mr ⟨m1,m2,m3⟩ hx
  have cq6:CQ h6 lo5 mb6 L5 (Yw cs x) (zE 4 (xy s cs x)):=⟨c2.lr.fr d4 qg,d2,by have:=c2.lr.1;omega,c2.v,c2.k,c2.up⟩
  obtain⟨hp',L',f1,f2⟩:=ih (i+1) (Yw cs x) (zE 4 (xy s cs x)) lo5 mb6 L5 h6 e2 qe cq6 (Qz ⟨m1,m2,m3⟩ hx) b4 ⟨b5,b6⟩ qe
  refine⟨hp',L',?_,f2⟩
  rw[<-f1,qlo]
  have c11:B72_11 (S k 1 (LI .u8 (nz l))) (.ms lo5 0 0 L5.length 1) (.int .u64 ((zE 4 (xy s cs x)).width:Nat)) (.int .i64 (i:Int)) (.int .i64 (x:Int)) [.ms mb 0 0 64 1] h5=
   B72_5 (S k 1 (LI .u8 (nz l))) (.ms lo5 0 0 L5.length 1) (.int .u64 ((zE 4 (xy s cs x)).width:Nat)) (.int .i64 ((i+1:Nat):Int)) [.ms mb6 0 0 64 1] h6:=by
   have w1:IntKind.i64.wrap ((i:Int)+1)=((i+1:Nat):Int):=qj
   exact qui _ _ _ _ _ h5 qe _ w1 mb mb6 h6 d1
  rw[c11]at c1
  rw[<-c1]
  have ai:=xF .u8 l i hi
  rw[show l.getD i 0=x by rw[zmq,e1];rfl]at ai
  have en:∀h,(nz l)[i]'h=(x:Int):=fun h=>by simp[nz,e3]
  have w0:IntKind.i64.wrap (x:Int)=(x:Int):=qm qe qe
  have w2:IntKind.u64.wrap ((cs.sum:Nat):Int)=((cs.sum:Nat):Int):=qu qe qe
  have q1:=YR s.width cs.sum qe qe
  have w3:IntKind.u64.wrap (((cs.take x).sum:Nat):Int)=(((cs.take x).sum:Nat):Int):=qu qe qe
  have w4:IntKind.u64.wrap (((s.width/cs.sum:Nat):Int)*(((cs.take x).sum:Nat):Int))=((s.width/cs.sum*(cs.take x).sum:Nat):Int):=by rw[<-Int.natCast_mul,qu]<;>omega
  have w5:IntKind.u64.wrap ((cs.getD x 0:Nat):Int)=((cs.getD x 0:Nat):Int):=qu qe qe
  have w6:IntKind.u64.wrap (((s.width/cs.sum:Nat):Int)*((cs.getD x 0:Nat):Int))=((s.width/cs.sum*cs.getD x 0:Nat):Int):=by rw[<-Int.natCast_mul,qu]<;>omega
  have ix:idx 64 (.int .i64 (x:Int))=some x:=zp .i64 qe
  have g:=jN .i64 (nz cs) x qi
  rw[yQ cs x qe]at g
  have m4:=mr4.2
  have ew:(xy s cs x).width=s.width/cs.sum*cs.getD x 0:=rfl
  rw[ew,p3]
  clear c1 c11 f1 f2 cq6 d1 d2 d4 c2 c3 cq4 ev okn mr4 b1 b2 b3 b4 ho hq ih
  generalize((s.width/cs.sum*cs.getD x 0:Nat):Int)=W2 at*
  generalize((s.width/cs.sum*(cs.take x).sum:Nat):Int)=W1 at*
  generalize((s.width/cs.sum:Nat):Int)=part at*
  generalize((cs.getD x 0:Nat):Int)=Ve at*
  generalize(((cs.take x).sum:Nat):Int)=start at*
  generalize((cs.sum:Nat):Int)=sm at*
  simp[hi,ai,en,zq,w0,gN1,al,w2,q1,stt,w3,w4,p1,gC0,ix,m4,g,w5,w6]
theorem XH(s:En)(h:∀x∈s.out,0<=x/\x<256):∀x∈(sh s).out,0<=x/\x<256:=by
 unfold sh
 split
 ·intro x hx
  simp only[zny,List.mem_replicate]at hx
  rcases hx with(q|q)|q
  ·exact h x q
  ·split at q
   ·simp at q;omega
   ·simp at q
  ·omega
 ·exact h
theorem qz3:∀(f:Nat) (s:En),(∀x∈s.out,0<=x/\x<256)->∀x∈(zE f s).out,0<=x/\x<256:=by
 intro f
 induction f with
 |zero=>intro s h;exact h
 |succ f ih=>
  intro s h
  unfold zE
  split
  ·exact ih _ (XH _ h)
  ·exact h
theorem zfw:∀(l cs:List Nat) (s:En),(∀x∈s.out,0<=x/\x<256)->∀x∈(enc cs s l).out,0<=x/\x<256:=by
 intro l
 induction l with
 |nil=>intro cs s h;exact h
 |cons y r ih=>intro cs s h;exact ih _ _ (qz3 4 _ h)
theorem zga(l:List Nat):∀x∈jg l,0<=x/\x<256:=
 XH _ (XH _ (XH _ (XH _ (XH _ (zfw l cs0 en0 (fun x hx=>by cases hx))))))
theorem qic(l:List Nat)(k:Nat)(hl:l.length<=100000)(h64:∀x∈l,x<64)(hp:Hp):∃hp',run cxX 72 [.sc (.int .i64 64),S k 1 (LI .u8 (nz l))] hp=some (S 0 1 (LI .u8 (jg l)),hp'):=by
 obtain⟨h1,mb,a1,a2⟩:=qr3 hp
 have z:=ZW .u8 4
 have mk:yV 1 1 (4:Int) 4=some ():=qh
 have cq:CQ (h1.new (LI .u8 (List.replicate 4 0))) h1.next mb (List.replicate 4 0) cs0 en0:=by
  refine⟨⟨qg,qS _ _,fun x hx=>by rw[zoo hx];decide⟩,a2.fr (Fm.new [] _ _) qg,by have:=a2.1;omega,qh,qh,qh⟩
 obtain⟨hp',L',b1,b2,b3,b4⟩:=qug l k h64 hl l 0 cs0 en0 h1.next mb (List.replicate 4 0) _ rfl qg cq qjj qjk ⟨qh,qh⟩ qi
 obtain⟨n1,n2⟩:=Jx l h64
 have e:L'=jg l:=qq8 L' (jg l) b4 (zga l) qe qe
 refine⟨hp',?_⟩
 rw[E72,<-e]
 have ew:en0.width=4294967295:=rfl
 rw[ew]at b1
 simp only[zqv]at b1
 generalize LI .u8 (List.replicate 4 0)=Z at*
 have z':xH 4 [.int .u8 0]=Z:=z
 simp at b1
 simp[a1,pN1,mk,z',b1]
theorem ZY(K:IntKind)(hp:Hp)(k:Nat)(m:List Int):JC hp 1 (S k 1 (LI K m))=some (LI K m):=JS hp k 1 _
theorem vk(K:IntKind)(l m:List Int)(k b:Nat)(hk:k=1\/k=2)(hb:0<b/\b<=1000)(s:AV)(hp:Hp)(hl:l≠[])(hm:m≠[])(h:l.length+m.length<=1000000)(hs:JC hp 1 s=some (LI K m)):
 jV b 1 (S k 1 (LI K l)) s hp=some (S k 1 (LI K (l++m)),hp):=by
 have ap:=Yt b 1 k (LI K l) (LI K m) 1 hk (WP K m) (.inr (yT hb.1 (by
  simp only[wQ]
  have:(l.length+m.length)*b<=1000000*1000:=znj h hb.2
  omega)))
 unfold jl at ap
 rw[qxr]at ap
 simp only[zmr]at ap
 have e:LI K l++LI K m=LI K (l++m):=by simp[LI]
 rw[e]at ap
 have hv:(LI K m).all vl=true:=vlI K m
 unfold jV
 rw[hs]
 cases l with
 |nil=>exact absurd rfl hl
 |cons x l=>
  cases m with
  |nil=>exact absurd rfl hm
  |cons y m=>
   have e1:LI K (x::l)= .sc (.int K x)::LI K l:=rfl
   have e2:LI K (y::m)= .sc (.int K y)::LI K m:=rfl
   rw[e1,e2]at ap
   rw[e2]at hv
   have es:S k 1 (LI K (x::l))= .us 1 (.sc (.int K x)::LI K l):=by rcases hk with rfl|rfl<;>rfl
   rw[es,e2]
   rw[<-e1,es]at ap
   show(yG (.sc (.int K y)::LI K m)).bind (fun _=>(qkz b 1 (.us 1 (.sc (.int K x)::LI K l)) (.sc (.int K y)::LI K m)).bind fun r=>some (r,hp))=_
   rw[ap,qzx,QU hv]
   rfl
theorem zgk(K:IntKind)(m:List Int)(b:Nat)(hb:0<b/\b<=1000)(hp:Hp)(hm:m≠[])(h:m.length<=1000000):jV b 1 (S 2 1 []) (S 1 1 (LI K m)) hp=some (.ms hp.next 0 0 m.length 1,hp.new (LI K m)):=by
 unfold jV
 rw[ZY]
 cases m with
 |nil=>exact absurd rfl hm
 |cons y m=>
  have hf:xC b 1 (LI K (y::m)).length=true:=yT hb.1 (by
   rw[wQ]
   have:(y::m).length*b<=1000000*1000:=znj h hb.2
   omega)
  have e2:LI K (y::m)= .sc (.int K y)::LI K m:=rfl
  rw[e2]at hf⊢
  show(ZO (Zg nil0=true/\xC b 1 (AV.sc (Value.int K y)::LI K m).length=true)).bind _=_
  rw[QU ⟨rfl,hf⟩]
  simp[wQ]
theorem qus(K:IntKind)(l m:List Int)(b x:Nat)(hb:0<b/\b<=1000)(hl:l≠[])(hm:m≠[])(h:l.length+m.length<=1000000)(hp:Hp)(hx:hp.rd x 0=some (LI K l)):
 jV b 1 (.ms x 0 0 l.length 1) (S 1 1 (LI K m)) hp=some (.ms hp.next 0 0 (l.length+m.length) 1,(hp.del x).new (LI K (l++m))):=by
 have hpos:0<l.length:=zn9.mpr hl
 unfold jV
 rw[ZY]
 cases m with
 |nil=>exact absurd rfl hm
 |cons y m=>
  have hf:xC b 1 (l.length*1+(LI K (y::m)).length)=true:=yT hb.1 (by
   rw[wQ]
   have:(l.length*1+(y::m).length)*b<=1000000*1000:=znj qe hb.2
   omega)
  have e2:LI K (y::m)= .sc (.int K y)::LI K m:=rfl
  rw[e2]at hf⊢
  show(ZO (1=1/\0=0/\0<l.length)).bind (fun _=>(hp.rd x 0).bind fun cs=>(ZO (l.length*1<=cs.length/\xC b 1 (l.length*1+(AV.sc (Value.int K y)::LI K m).length)=true)).bind fun _=>some (AV.ms hp.next 0 0 (l.length+zR 1 (AV.sc (Value.int K y)::LI K m)) 1,(hp.del x).new ((cs.take (l.length*1)).map ro1++AV.sc (Value.int K y)::LI K m)))=_
  rw[QU ⟨rfl,rfl,hpos⟩]
  simp only[zmr,hx]
  rw[QU ⟨by rw[wQ];omega,hf⟩]
  simp only[zmr]
  congr 2
  ·rw[WA];simp
  ·congr 1
   rw[zoh,znm qg,WP]
   simp[LI]
theorem zh9(m:Nat):∀f i,∀x∈kJ m f i,0<=x/\x<256:=by
 intro f
 induction f with
 |zero=>intro i x h;simp[kJ]at h
 |succ f ih=>
  intro i x h
  unfold kJ at h
  by_cases h256:256<=i
  ·rw[if_pos h256]at h;simp at h
  ·rw[if_neg h256]at h
   have:=(wn m (255-i) i).2.1
   split at h
   ·rcases zmt.mp h with e|h
    ·omega
    ·rcases zmt.mp h with e|h
     ·omega
     ·exact ih _ x h
   ·exact ih _ x h
theorem qz6(L:List Nat)(x:Nat):zK (L++[x])=zK L|||2^x:=by
 apply zn0
 intro j
 have h1:=QL j (L++[x])
 have h2:=QL j L
 rw[zno,zn1,Bool.eq_iff_iff]
 simp only[zpz,decide_eq_true_eq,h1,h2,zny,zps]
 constructor
 ·rintro(h|h)
  ·exact .inl h
  ·exact .inr h.symm
 ·rintro(h|h)
  ·exact .inl h
  ·exact .inr h.symm
def nxt(e:Nat)(L:List Nat):Nat:=if L=[]then e else L.getD (L.length-1) 0+1
theorem Wf(x:Nat):∀(L:List Nat) (a:List Int) (e:Nat),kM a e (L++[x])=if x=nxt e L then qah (kM a e L)else kM a e L++[(x:Int),0]
 |[],a,e=>rfl
 |y::L,a,e=>by
  have en:∀e',nxt e' (y::L)=nxt (y+1) L:=by
   intro e'
   unfold nxt
   cases L with
   |nil=>rfl
   |cons z r=>rfl
  rw[en]
  simp only[zog,kM]
  split
  ·exact Wf x L _ _
  ·exact Wf x L _ _
def CSt(hp:Hp)(bb rb:Nat)(m:Nat)(A:List Int):Prop:=
 bb<hp.next/\hp.rd bb 0=some (LI .u8 (yC m 32 0))/\(A≠[]->rb<hp.next/\rb≠bb/\hp.rd rb 0=some (LI .u8 A))
def RVl(rb:Nat)(A:List Int):AV:=if A=[]then S 2 1 []else .ms rb 0 0 A.length 1
section
variable (L:List Nat)(hL:∀x∈L,x<256)(hp2:L.Pairwise (·<·))(hne:L≠[])(k key:Nat)(hkey:key<4294967296)
include hL hp2
theorem zhf:L.length<=256:=by
 have h:=qhi (zK L) 256 0 L (fun j _ _=>QL j L) (fun x hx=>⟨zng _,by have:=hL x hx;omega⟩) hp2
 have h2:=congrArg List.length h
 have h3:=qky (zK L) 256 0
 have h4:zt (zK L) 256<=256:=by
  have:∀n,zt (zK L) n<=n:=by
   intro n
   induction n with
   |zero=>exact zms _
   |succ n ih=>
    have:((zK L).testBit n).toNat<=1:=b2n _
    show zt (zK L) n+_<=_;omega
  exact this 256
 rw[Wv]at h2
 have h5:zt (zK L) 0=0:=rfl
 rw[h5]at h3
 simp only[zmz,zoc]at h3
 omega
theorem zb5:yE (zK L) 256 0=nz L/\zt (zK L) 256=L.length:=by
 have h:=qhi (zK L) 256 0 L (fun j _ _=>QL j L) (fun x hx=>⟨zng _,by have:=hL x hx;omega⟩) hp2
 exact⟨h,by rw[<-Kn,h,Wv]⟩
theorem qk8:kM [] 300 L=kJ (zK L) 256 0:=by
 have h:=zeb (zK L) 256 0 300 [] L (fun j _ _=>QL j L) (fun x hx=>⟨zng _,hL x hx⟩) hp2 (fun q=>by have:=hL _ q;omega) qe
 simpa using h
omit hL hp2 in
theorem qo2(hL:∀x∈L,x<256)(hp2:L.Pairwise (·<·))(i:Nat):(∀x∈L.take i,x<256)/\(L.take i).Pairwise (·<·):=
 ⟨fun x hx=>hL x (zod hx),hp2.sublist (zql i L)⟩
include hne hkey
theorem quk(hp:Hp)(bb rb:Nat)(h:CSt hp bb rb (zK L) (kM [] 300 L)):
 ∃hp',B137_7 (S k 1 (LI .i64 (nz L))) (S 2 1 (LI .u8 (uv key))) (RVl rb (kM [] 300 L)) (.int .i64 (jz (zK L) 256:Nat)) (.ms bb 0 0 32 1) (S 2 1 (LI .u8 (nz L))) (.int .i64 (L.length:Int)) hp=some (S 2 1 (LI .u8 (yB (key,zK L))),hp'):=by
 have ll:=zhf L hL hp2
 obtain⟨ea,ep⟩:=zb5 L hL hp2
 have er:=qk8 L hL hp2
 have hl0:0<L.length:=zn9.mpr hne
 have hrp:0<jz (zK L) 256:=Vm (by rw[ep];exact hl0)
 have hrl:=JZ (zK L) 256
 have hrn:=vr (zK L)
 rw[er]at h⊢
 obtain⟨h1,h2,h3⟩:=h
 have hk:=YY (zK L)
 have ul:=qC (n:=key) qe
 have une:=zk4 key
 have rne:kJ (zK L) 256 0≠[]:=by intro e;rw[e]at hrn;simp at hrn;omega
 obtain⟨r1,r2,r3⟩:=h3 rne
 have w1:IntKind.i64.wrap (1+(L.length:Int))=1+(L.length:Int):=qm qe qe
 have w2:IntKind.i64.wrap (2*((jz (zK L) 256:Nat):Int))=2*((jz (zK L) 256:Nat):Int):=qm qe qe
 have w3:IntKind.i64.wrap (1+2*((jz (zK L) 256:Nat):Int))=1+2*((jz (zK L) 256:Nat):Int):=qm qe qe
 have w4:IntKind.i64.wrap ((L.length:Int)-1)=(L.length:Int)-1:=qm qe qe
 have w5:IntKind.i64.wrap (((jz (zK L) 256:Nat):Int)-1)=((jz (zK L) 256:Nat):Int)-1:=qm qe qe
 have c17:L.length+1<=32->L.length+1<=2*jz (zK L) 256+1->∃hp',B137_17 (S k 1 (LI .i64 (nz L))) (S 2 1 (LI .u8 (uv key))) (S 2 1 (LI .u8 (nz L))) hp=some (S 2 1 (LI .u8 (yB (key,zK L))),hp'):=by
  intro a1 a2
  have kd:kind (zK L)=0:=by unfold kind;rw[ep,if_pos ⟨a1,a2⟩]
  have eY:yB (key,zK L)=uv key++[(0:Int),((L.length-1:Nat):Int)]++nz L:=by
   unfold yB QW
   rw[kd,if_pos rfl,ep,ea];simp
  have w6:IntKind.u8.wrap ((L.length:Int)-1)=((L.length-1:Nat):Int):=by rw[zy]<;>omega
  have a1:=vk .u8 (uv key) [0,((L.length-1:Nat):Int)] 2 1 (.inr rfl) qh (S 1 1 (LI .u8 [0,((L.length-1:Nat):Int)])) hp une qg qi (ZY _ _ _ _)
  have a2:=vk .u8 (uv key++[(0:Int),((L.length-1:Nat):Int)]) (nz L) 2 1 (.inr rfl) qh (S 3 1 (LI .u8 (nz L))) hp qg (by intro e;have:=congrArg List.length e;rw[Wv]at this;simp only[zm7]at this;omega) qi (ZY _ _ _ _)
  refine⟨hp,?_⟩
  rw[qpd,eY]
  have e1:LI .u8 [0,((L.length-1:Nat):Int)]=[.sc (.int .u8 0),.sc (.int .u8 ((L.length-1:Nat):Int))]:=rfl
  rw[e1]at a1
  generalize((L.length-1:Nat):Int)=n1 at*
  generalize uv key=U at*
  generalize LI .u8 (U++[0,n1]++nz L)=R1 at*
  generalize LI .u8 (U++[0,n1])=R2 at*
  simp[w4,w6,a1,a2]
 have c18:¬(L.length+1<=32/\L.length+1<=2*jz (zK L) 256+1)->∃hp',B137_18 (S 2 1 (LI .u8 (uv key))) (RVl rb (kJ (zK L) 256 0)) (.int .i64 (jz (zK L) 256:Nat)) (.ms bb 0 0 32 1) (.int .i64 (1+2*((jz (zK L) 256:Nat):Int))) hp=some (S 2 1 (LI .u8 (yB (key,zK L))),hp'):=by
  intro hn
  by_cases h32:32<=2*jz (zK L) 256+1
  ·have kd:kind (zK L)=1:=by unfold kind;rw[ep,if_neg hn,if_pos h32]
   have eY:yB (key,zK L)=uv key++[(1:Int)]++yC (zK L) 32 0:=by
    unfold yB QW
    rw[kd];simp
   have bl:=JA (zK L) 32 0
   have sm:=YC .u8 (yC (zK L) 32 0) hp bb 0 32 h2 qe
   rw[zop,znm qe]at sm
   have a1:=vk .u8 (uv key) [1] 2 1 (.inr rfl) qh (S 1 1 (LI .u8 [1])) hp une qg qi (ZY _ _ _ _)
   have a2:=vk .u8 (uv key++[(1:Int)]) (yC (zK L) 32 0) 2 1 (.inr rfl) qh (.ms bb 0 0 32 1) hp qg (by intro e;have:=congrArg List.length e;rw[bl]at this;cases this) qi sm
   have e1:LI .u8 [1]=[.sc (.int .u8 1)]:=rfl
   have h32':(32:Int)<=1+2*((jz (zK L) 256:Nat):Int):=qe
   rw[e1]at a1
   refine⟨hp,?_⟩
   rw[qa4,eY]
   generalize((jz (zK L) 256:Nat):Int)=rc at*
   generalize uv key=U at*
   generalize LI .u8 (U++[1]++yC (zK L) 32 0)=R1 at*
   generalize LI .u8 (U++[1])=R2 at*
   simp[h32',a1,a2]
  ·have kd:kind (zK L)=2:=by unfold kind;rw[ep,if_neg hn,if_neg h32]
   have eY:yB (key,zK L)=uv key++[(2:Int),((jz (zK L) 256-1:Nat):Int)]++kJ (zK L) 256 0:=by
    unfold yB QW
    rw[kd];simp
   have w6:IntKind.u8.wrap (((jz (zK L) 256:Nat):Int)-1)=((jz (zK L) 256-1:Nat):Int):=by rw[zy]<;>omega
   have sm:=YC .u8 (kJ (zK L) 256 0) hp rb 0 (kJ (zK L) 256 0).length r3 qe
   rw[zop,zo1]at sm
   have a1:=vk .u8 (uv key) [2,((jz (zK L) 256-1:Nat):Int)] 2 1 (.inr rfl) qh (S 1 1 (LI .u8 [2,((jz (zK L) 256-1:Nat):Int)])) hp une qg qi (ZY _ _ _ _)
   have a2:=vk .u8 (uv key++[(2:Int),((jz (zK L) 256-1:Nat):Int)]) (kJ (zK L) 256 0) 2 1 (.inr rfl) qh (.ms rb 0 0 (kJ (zK L) 256 0).length 1) hp qg rne qi sm
   have e1:LI .u8 [2,((jz (zK L) 256-1:Nat):Int)]=[.sc (.int .u8 2),.sc (.int .u8 ((jz (zK L) 256-1:Nat):Int))]:=rfl
   have h32':¬((32:Int)<=1+2*((jz (zK L) 256:Nat):Int)):=qe
   rw[e1]at a1
   refine⟨hp,?_⟩
   have erv:RVl rb (kJ (zK L) 256 0)= .ms rb 0 0 (kJ (zK L) 256 0).length 1:=if_neg rne
   rw[qa4,eY,erv]
   generalize((jz (zK L) 256-1:Nat):Int)=rc1 at*
   generalize((jz (zK L) 256:Nat):Int)=rc at*
   generalize uv key=U at*
   generalize LI .u8 (U++[2,rc1]++kJ (zK L) 256 0)=R1 at*
   generalize LI .u8 (U++[2,rc1])=R2 at*
   simp[h32',w5,w6,a1,a2]
 rw[qe4]
 by_cases a1:L.length+1<=32
 ·by_cases a2:L.length+1<=2*jz (zK L) 256+1
  ·obtain⟨hp',e⟩:=c17 a1 a2
   have a1':1+(L.length:Int)<=32:=qe
   have a2':1+(L.length:Int)<=1+2*((jz (zK L) 256:Nat):Int):=qe
   refine⟨hp',?_⟩
   clear c17 c18
   generalize((jz (zK L) 256:Nat):Int)=rc at*
   simp[w1,w2,w3,a1',a2',e]
  ·obtain⟨hp',e⟩:=c18 (fun q=>a2 q.2)
   have a1':1+(L.length:Int)<=32:=qe
   have a2':¬(1+(L.length:Int)<=1+2*((jz (zK L) 256:Nat):Int)):=qe
   refine⟨hp',?_⟩
   clear c17 c18
   generalize((jz (zK L) 256:Nat):Int)=rc at*
   simp[w1,w2,w3,a1',a2',e]
 ·obtain⟨hp',e⟩:=c18 (fun q=>a1 q.1)
  have a1':¬(1+(L.length:Int)<=32):=qe
  refine⟨hp',?_⟩
  clear c17 c18
  generalize((jz (zK L) 256:Nat):Int)=rc at*
  simp[w1,w2,w3,a1',e]
omit hL hp2 hne hkey in
theorem qhl{rb:Nat}{A:List Int}(h:A≠[]):RVl rb A= .ms rb 0 0 A.length 1:=if_neg h
omit hkey hne in
theorem qop:∀(f i rb zR:Nat) (bb:Nat) (hp:Hp),i+f=L.length->CSt hp bb rb (zK (L.take i)) (kM [] 300 (L.take i))->(kM [] 300 (L.take i)).length=2*zR->
 ∃hp' rb',B137_7 (S k 1 (LI .i64 (nz L))) (S 2 1 (LI .u8 (uv key))) (RVl rb (kM [] 300 (L.take i))) (.int .i64 (zR:Int)) (.ms bb 0 0 32 1) (S 2 1 (LI .u8 (nz (L.take i)))) (.int .i64 (i:Int)) hp=
  B137_7 (S k 1 (LI .i64 (nz L))) (S 2 1 (LI .u8 (uv key))) (RVl rb' (kM [] 300 L)) (.int .i64 (jz (zK L) 256:Nat)) (.ms bb 0 0 32 1) (S 2 1 (LI .u8 (nz L))) (.int .i64 (L.length:Int)) hp'/\CSt hp' bb rb' (zK L) (kM [] 300 L):=by
 have ll:=zhf L hL hp2
 intro f
 induction f with
 |zero=>
  intro i rb zR bb hp h hc hm
  have e:i=L.length:=qe
  subst e
  rw[zo1]at hc hm⊢
  have e2:zR=jz (zK L) 256:=by
   rw[qk8 L hL hp2,vr]at hm;omega
  rw[e2]
  exact⟨hp,rb,rfl,hc⟩
 |succ f ih=>
  intro i rb zR bb hp h hc hm
  have hi:i<L.length:=qe
  have ex:L.drop i=L[i]::L.drop (i+1):=znk hi
  obtain⟨x,hx⟩:∃x,L[i]=x:=⟨_,rfl⟩
  have hx256:x<256:=by rw[<-hx];exact hL _ (zm6 _)
  have et:L.take (i+1)=L.take i++[x]:=by rw[zox,zmv hi,hx];rfl
  have hxn:x∉L.take i:=by
   intro q
   obtain⟨j,hj,e⟩:=zpa q
   have hj':j<i:=by simp at hj;omega
   rw[List.getElem_take]at e
   have:=List.pairwise_iff_getElem.mp hp2 j i qe hi hj'
   omega
  have hbit:(zK (L.take i)).testBit x=false:=by
   cases hb:(zK (L.take i)).testBit x
   ·rfl
   ·exact absurd ((QL x _).mp hb) hxn
  obtain⟨h1,h2,h3⟩:=hc
  have ai:=xF .i64 L i hi
  rw[show L.getD i 0=x by rw[zmq,zmv hi,hx];rfl]at ai
  have en:∀h,(nz L)[i]'h=(x:Int):=fun h=>by simp[nz,hx]
  have st:=zbt (zK (L.take i)) x hx256 hbit
  have bl:=JA (zK (L.take i)) 32 0
  have bg:=Vy (zK (L.take i)) 32 0 (x/8) qe
  rw[zmz]at bg
  have by0:=qq7 (zK (L.take i)) x (x/8) hbit
  rw[if_pos rfl]at by0
  have hsum:zK (L.take i)/2^(8*(x/8))%256+2^(x%8)<256:=by rw[<-by0];exact zpo _ qh
  have g:ql (LI .u8 (yC (zK (L.take i)) 32 0)) (x/8)=some (.int .u8 ((zK (L.take i)/2^(8*(x/8))%256:Nat):Int)):=by
   unfold ql
   rw[qbj?,bg];rfl
  have pn:=xo .u8 (yC (zK (L.take i)) 32 0) (x/8) ((zK (L.take i)/2^(8*(x/8))%256+2^(x%8):Nat):Int) qe
  rw[<-st,<-qz6,<-et]at pn
  have q8:=qge x qe
  have r8:=qgc x
  have ix:idx 32 (.int .i64 ((x/8:Nat):Int))=some (x/8):=zp .i64 qe
  have sh:∀t o o',qx Tryz.prog .shl t o o' (.int .u8 1) (.int .i64 ((x%8:Nat):Int))=some (.int .u8 ((2^(x%8):Nat):Int)):=by
   intro t o o'
   have hc:x%8=0\/x%8=1\/x%8=2\/x%8=3\/x%8=4\/x%8=5\/x%8=6\/x%8=7:=qe
   rw[zU _ _ _ _ _ _ _ _ qe]
   rcases hc with h|h|h|h|h|h|h|h<;>rw[h]<;>rfl
  have w1:IntKind.u8.wrap (((zK (L.take i)/2^(8*(x/8))%256:Nat):Int)+((2^(x%8):Nat):Int))=((zK (L.take i)/2^(8*(x/8))%256+2^(x%8):Nat):Int):=by
   rw[<-Int.natCast_add,zy]<;>omega
  have w0:IntKind.u8.wrap (x:Int)=(x:Int):=zy qe qe
  have ap:=qk0 .u8 (nz (L.take i)) 2 (.inr rfl) 1 qh (x:Int) qi
  rw[<-yP,<-et]at ap
  have wi:IntKind.i64.wrap ((i:Int)+1)=((i+1:Nat):Int):=qj
  obtain⟨hp1,e1⟩:∃hp1,hp1=hp.put bb 0 (LI .u8 (yC (zK (L.take (i+1))) 32 0)):=⟨_,rfl⟩
  have c1:hp1.next=hp.next:=by rw[e1];rfl
  have c2:hp1.rd bb 0=some (LI .u8 (yC (zK (L.take (i+1))) 32 0)):=by rw[e1];exact qp _ _ _
  have c3:kM [] 300 (L.take i)≠[]->rb<hp1.next/\rb≠bb/\hp1.rd rb 0=some (LI .u8 (kM [] 300 (L.take i))):=fun q=>by
   obtain⟨d1,d2,d3⟩:=h3 q
   exact⟨by rw[c1];exact d1,d2,by rw[e1,qA _ _ d2];exact d3⟩
  have b8:∀(x6:AV) (mn:Int) (hq:Hp),B137_8 (S k 1 (LI .i64 (nz L))) (S 2 1 (LI .u8 (uv key))) x6 (.int .i64 mn) (.ms bb 0 0 32 1) (S 2 1 (LI .u8 (nz (L.take (i+1))))) (.int .i64 (i:Int)) hq=
   B137_7 (S k 1 (LI .i64 (nz L))) (S 2 1 (LI .u8 (uv key))) x6 (.int .i64 mn) (.ms bb 0 0 32 1) (S 2 1 (LI .u8 (nz (L.take (i+1))))) (.int .i64 ((i+1:Nat):Int)) hq:=by
   intro x6 mn hq
   rw[qwp]
   generalize((i+1:Nat):Int)=I at*
   simp[wi]
  obtain⟨t1,t2⟩:=qo2 L hL hp2 (i+1)
  have rl:=qk8 (L.take (i+1)) t1 t2
  have rr:=zh9 (zK (L.take (i+1))) 256 0
  rw[<-rl]at rr
  have alen:(kM [] 300 (L.take i)).length<=600:=by
   obtain⟨t1,t2⟩:=qo2 L hL hp2 i
   rw[qk8 (L.take i) t1 t2,vr]
   have:=JZ (zK (L.take i)) 256
   have e:=(zb5 (L.take i) t1 t2).2
   have:(L.take i).length<=256:=qi
   omega
  have sn:=Wf x (L.take i) [] 300
  rw[<-et]at sn
  --one more run
  have no:x≠nxt 300 (L.take i)->∃hp' rb',B137_13 (S k 1 (LI .i64 (nz L))) (S 2 1 (LI .u8 (uv key))) (RVl rb (kM [] 300 (L.take i))) (.int .i64 (zR:Int)) (.ms bb 0 0 32 1) (S 2 1 (LI .u8 (nz (L.take (i+1))))) (.int .i64 (i:Int)) hp1=
   B137_7 (S k 1 (LI .i64 (nz L))) (S 2 1 (LI .u8 (uv key))) (RVl rb' (kM [] 300 L)) (.int .i64 (jz (zK L) 256:Nat)) (.ms bb 0 0 32 1) (S 2 1 (LI .u8 (nz L))) (.int .i64 (L.length:Int)) hp'/\CSt hp' bb rb' (zK L) (kM [] 300 L):=by
   intro hno
   rw[if_neg hno]at sn
   have wm:IntKind.i64.wrap ((zR:Int)+1)=((zR+1:Nat):Int):=qj
   obtain⟨hq,am,q1,q2,q3⟩:∃hq,jV 1 1 (RVl rb (kM [] 300 (L.take i))) (S 1 1 (LI .u8 [(x:Int),0])) hp1=some (.ms hp1.next 0 0 (kM [] 300 (L.take (i+1))).length 1,hq)/\hq.next=hp1.next+1/\hq.rd hp1.next 0=some (LI .u8 (kM [] 300 (L.take (i+1))))/\hq.rd bb 0=hp1.rd bb 0:=by
    by_cases hA:kM [] 300 (L.take i)=[]
    ·have a:=zgk .u8 [(x:Int),0] 1 qh hp1 qg qg
     rw[sn,hA]
     exact⟨_,a,rfl,qS _ _,zF _ _ qe⟩
    ·obtain⟨d1,d2,d3⟩:=c3 hA
     have a:=qus .u8 (kM [] 300 (L.take i)) [(x:Int),0] 1 rb qh hA qg qi hp1 d3
     rw[qhl hA,sn,zmo]
     refine⟨_,a,rfl,qS (hp1.del rb) _,?_⟩
     exact(Fm.delNew (X:=[rb]) hp1 rb _ qg).rd qe (by simp;exact fun e=>d2 e.symm)
   have hA1:kM [] 300 (L.take (i+1))≠[]:=by rw[sn];simp
   obtain⟨hp',rb',z1,z2⟩:=ih (i+1) hp1.next (zR+1) bb hq qe ⟨qe,by rw[q3];exact c2,fun _=>⟨qe,qe,q2⟩⟩ (by rw[sn,zmo,hm];simp only[zmp,zm7];omega)
   refine⟨hp',rb',?_,z2⟩
   rw[<-z1,qhl hA1,<-b8,qpe]
   have el:LI .u8 [(x:Int),0]=[.sc (.int .u8 (x:Int)),.sc (.int .u8 0)]:=rfl
   rw[el]at am
   have rro:ro (RVl rb (kM [] 300 (L.take i)))=RVl rb (kM [] 300 (L.take i)):=by unfold RVl;split<;>rfl
   clear z1 b8 c3 sh
   generalize((zR+1:Nat):Int)=M at*
   generalize RVl rb (kM [] 300 (L.take i))=V at*
   simp[hi,ai,en,zq,w0,rro,am,wm]
  --the same run
  have yes:x=nxt 300 (L.take i)->kM [] 300 (L.take i)≠[]->∃hp' rb',B137_12 (S k 1 (LI .i64 (nz L))) (S 2 1 (LI .u8 (uv key))) (RVl rb (kM [] 300 (L.take i))) (.int .i64 (zR:Int)) (.ms bb 0 0 32 1) (S 2 1 (LI .u8 (nz (L.take (i+1))))) (.int .i64 (i:Int)) hp1=
   B137_7 (S k 1 (LI .i64 (nz L))) (S 2 1 (LI .u8 (uv key))) (RVl rb' (kM [] 300 L)) (.int .i64 (jz (zK L) 256:Nat)) (.ms bb 0 0 32 1) (S 2 1 (LI .u8 (nz L))) (.int .i64 (L.length:Int)) hp'/\CSt hp' bb rb' (zK L) (kM [] 300 L):=by
   intro hyes hA
   rw[if_pos hyes]at sn
   obtain⟨d1,d2,d3⟩:=c3 hA
   have hpos:0<(kM [] 300 (L.take i)).length:=zn9.mpr hA
   generalize hAA:kM [] 300 (L.take i)=A at*
   have lb:(qah A).length=A.length:=by simp[qah]
   have hmem:A.getD (A.length-1) 0+1∈qah A:=by
    unfold qah
    have:A.length-1<(A.set (A.length-1) (A.getD (A.length-1) 0+1)).length:=qi
    have e:=zm6 this
    rw[List.getElem_set_self]at e
    exact e
   rw[sn]at rr
   have hv:=rr _ hmem
   have gs:=jN .u8 A (A.length-1) qe
   have pn2:=xo .u8 A (A.length-1) (A.getD (A.length-1) 0+1) qe
   have eb:A.set (A.length-1) (A.getD (A.length-1) 0+1)=qah A:=rfl
   rw[eb]at pn2
   have wb:IntKind.u8.wrap (A.getD (A.length-1) 0+1)=A.getD (A.length-1) 0+1:=zy hv.1 hv.2
   have wl:IntKind.i64.wrap ((A.length:Int)-1)=((A.length-1:Nat):Int):=qj
   have ix2:idx A.length (.int .i64 ((A.length-1:Nat):Int))=some (A.length-1):=zp .i64 qe
   have hA1:qah A≠[]:=by intro e;rw[e]at lb;simp at lb;omega
   obtain⟨hp',rb',z1,z2⟩:=ih (i+1) rb zR bb (hp1.put rb 0 (LI .u8 (qah A))) qe ⟨by rw[qjl];omega,by rw[qA _ _ (fun e=>d2 e.symm)];exact c2,fun _=>⟨d1,d2,by rw[sn];exact qp _ _ _⟩⟩ (by rw[sn,lb];exact hm)
   refine⟨hp',rb',?_,z2⟩
   rw[sn,qhl hA1,lb]at z1
   rw[<-z1,qhl hA,<-b8,qpf]
   clear z1 b8 c3 sh no
   generalize A.getD (A.length-1) 0=y0 at*
   generalize hN:((A.length-1:Nat):Int)=N at*
   simp[wl,ix2,d3,gs,wb,pn2]
  --joined
  have fin:∃hp' rb',cond (decide (0<i)) (cond (decide (x=L.getD (i-1) 0+1)) (B137_12 (S k 1 (LI .i64 (nz L))) (S 2 1 (LI .u8 (uv key))) (RVl rb (kM [] 300 (L.take i))) (.int .i64 (zR:Int)) (.ms bb 0 0 32 1) (S 2 1 (LI .u8 (nz (L.take (i+1))))) (.int .i64 (i:Int)) hp1)
   (B137_13 (S k 1 (LI .i64 (nz L))) (S 2 1 (LI .u8 (uv key))) (RVl rb (kM [] 300 (L.take i))) (.int .i64 (zR:Int)) (.ms bb 0 0 32 1) (S 2 1 (LI .u8 (nz (L.take (i+1))))) (.int .i64 (i:Int)) hp1))
   (B137_13 (S k 1 (LI .i64 (nz L))) (S 2 1 (LI .u8 (uv key))) (RVl rb (kM [] 300 (L.take i))) (.int .i64 (zR:Int)) (.ms bb 0 0 32 1) (S 2 1 (LI .u8 (nz (L.take (i+1))))) (.int .i64 (i:Int)) hp1)=
   B137_7 (S k 1 (LI .i64 (nz L))) (S 2 1 (LI .u8 (uv key))) (RVl rb' (kM [] 300 L)) (.int .i64 (jz (zK L) 256:Nat)) (.ms bb 0 0 32 1) (S 2 1 (LI .u8 (nz L))) (.int .i64 (L.length:Int)) hp'/\CSt hp' bb rb' (zK L) (kM [] 300 L):=by
   have nx:nxt 300 (L.take i)=if i=0 then 300 else L.getD (i-1) 0+1:=by
    unfold nxt
    by_cases h0:i=0
    ·subst h0;simp
    ·have:L.take i≠[]:=by intro e;have:=congrArg List.length e;rw[znt,zm7]at this;omega
     rw[if_neg this,if_neg h0,znt,zpj qe,zmq,zm3,if_pos qe,zmq]
   by_cases h0:0<i
   ·rw[if_neg qe]at nx
    rw[decide_eq_true h0,cond_true]
    by_cases hq:x=L.getD (i-1) 0+1
    ·rw[decide_eq_true hq,cond_true]
     refine yes (by rw[nx];exact hq) ?_
     intro e
     obtain⟨t1,t2⟩:=qo2 L hL hp2 i
     rw[qk8 (L.take i) t1 t2]at e
     have hl:=vr (zK (L.take i))
     rw[e]at hl
     have hp0:0<jz (zK (L.take i)) 256:=Vm (by rw[(zb5 (L.take i) t1 t2).2,znt];omega)
     simp at hl;omega
    ·rw[decide_eq_false hq,cond_false]
     exact no (by rw[nx];exact hq)
   ·rw[decide_eq_false h0,cond_false]
    have hz:i=0:=qe
    rw[if_pos hz]at nx
    exact no (by rw[nx];omega)
  obtain⟨hp',rb',z1,z2⟩:=fin
  refine⟨hp',rb',?_,z2⟩
  rw[<-z1,qe4]
  clear z1 b8 no yes c3 ih sn rr rl
  have e1':hp.put bb 0 (LI .u8 (yC (zK (L.take (i+1))) 32 0))=hp1:=e1.symm
  clear e1 c2 st
  generalize((zK (L.take i)/2^(8*(x/8))%256+2^(x%8):Nat):Int)=y1 at*
  generalize((zK (L.take i)/2^(8*(x/8))%256:Nat):Int)=y0 at*
  generalize((2^(x%8):Nat):Int)=y2 at*
  generalize((x%8:Nat):Int)=m8 at*
  generalize LI .u8 (yC (zK (L.take (i+1))) 32 0)=B1 at*
  generalize LI .u8 (yC (zK (L.take i)) 32 0)=B0 at*
  generalize hQ:x/8=Q at*
  generalize RVl rb (kM [] 300 (L.take i))=V at*
  by_cases h0:0<i
  ·have aj:=xF .i64 L (i-1) qe
   have w9:IntKind.i64.wrap ((i:Int)-1)=((i-1:Nat):Int):=qj
   have g0:(0:Int)<=((i-1:Nat):Int):=qe
   have hy:L.getD (i-1) 0<256:=by
    rw[zmq,zmv qe]
    exact hL _ (zm6 _)
   have en2:(nz L)[(((i-1:Nat):Int)).toNat]?=some (L.getD (i-1) 0:Nat):=by rw[zmy];simpa[LI]using aj
   generalize L.getD (i-1) 0=y at*
   have w7:IntKind.i64.wrap ((y:Int)+1)=((y+1:Nat):Int):=qj
   generalize((i-1:Nat):Int)=j at*
   have dq:(decide ((x:Int)=((y+1:Nat):Int)))=decide (x=y+1):=by apply decide_eq_decide.mpr;omega
   generalize hY:((y+1:Nat):Int)=Y at*
   simp[hi,ai,en,zq,w0,ap,q8,ix,h2,g,r8,sh,w1,pn,h0,w9,g0,en2,w7,dq,e1']
  ·simp[hi,ai,en,zq,w0,ap,q8,ix,h2,g,r8,sh,w1,pn,h0,e1']
theorem qf6(hp:Hp):∃hp',run cxX 137 [.sc (.int .u32 (key:Int)),S k 1 (LI .i64 (nz L))] hp=some (S 2 1 (LI .u8 (yB (key,zK L))),hp'):=by
 have u:=js key qe hp0
 have z:=ZW .u8 32
 have mk:yV 1 1 (32:Int) 32=some ():=qh
 obtain⟨hp1,rb1,a1,a2⟩:=qop L hL hp2 k key L.length 0 0 0 hp.next (hp.new (LI .u8 (List.replicate 32 0))) qe ⟨qg,by rw[qS,<-qko 32 0];rfl,fun h=>absurd rfl h⟩ rfl
 obtain⟨hp',b1⟩:=quk L hL hp2 hne k key hkey hp1 hp.next rb1 a2
 rw[b1]at a1
 have w1:IntKind.u64.wrap (key:Int)=(key:Int):=qu qe qe
 have e0:RVl 0 (kM [] 300 (L.take 0))=S 2 1 []:=rfl
 have e1:LI .u8 (nz (L.take 0))=[]:=rfl
 rw[e0,e1]at a1
 refine⟨hp',?_⟩
 rw[E137]
 have z':xH 32 [.int .u8 0]=LI .u8 (List.replicate 32 0):=z
 generalize LI .u8 (List.replicate 32 0)=Z at*
 generalize LI .u8 (yB (key,zK L))=R at*
 simp at a1
 simp[w1,u,mk,z',a1]
end
section
variable (l:List Nat)(h32:∀x∈l,x<4294967296)(hr:qM l)(hl:l.length<=65536)(k:Nat)
include h32 hl
theorem zd5(key:Nat)(hkey:key<16777216)(x3:AV)(v4:Value)(hp:Hp):∀(a:List Nat) (i:Nat) (b:List Nat) (acc:List Nat),l.drop i=a++b->(∀x∈a,x/256=key)->(∀x∈b.head?,x/256≠key)->acc.length+a.length<=65536->
 B69_7 (S k 1 (LI .u32 (nz l))) x3 v4 (.int .i64 (i:Int)) (.int .u32 (key:Int)) (S 2 1 (LI .i64 (nz acc))) hp=
  B69_10 (S k 1 (LI .u32 (nz l))) x3 v4 (.int .i64 ((i+a.length:Nat):Int)) (.int .u32 (key:Int)) (S 2 1 (LI .i64 (nz (acc++a.map (·%256))))) hp:=by
 have quo256:∀(x:Nat),x<4294967296->∀t o o',qx Tryz.prog .quo t o o' (.int .u32 (x:Int)) (.int .u32 256)=some (.int .u32 ((x/256:Nat):Int)):=by
  intro x hx t o o'
  rw[yy _ _ _ _ _ _ _ qe,znx qe,qJ qe qe]
  rfl
 intro a
 induction a with
 |nil=>
  intro i b acc h ha hb hacc
  rw[qlq]
  simp only[zni,zm7,zoc,zpi,zne]at h⊢
  cases b with
  |nil=>
   have h1:=qK h
   have hlt:¬(i<l.length):=qe
   simp[hlt]
  |cons y s=>
   obtain⟨e1,e2,hi,e3⟩:=qt h
   have hy:=hb y qg
   have hy32:y<4294967296:=by rw[<-e3];exact h32 _ (zm6 _)
   have ai:=xF .u32 l i hi
   rw[show l.getD i 0=y by rw[zmq,e1];rfl]at ai
   have en:∀h,(nz l)[i]'h=(y:Int):=fun h=>by simp[nz,e3]
   have q:=quo256 y hy32
   have hne:¬(((y/256:Nat):Int)=(key:Int)):=qe
   generalize((y/256:Nat):Int)=Q at*
   simp[hi,ai,en,zq,q,hne]
 |cons x a ih=>
  intro i b acc h ha hb hacc
  simp only[zmp]at hacc
  obtain⟨e1,e2,hi,e3⟩:=qt (show l.drop i=x::(a++b)from h)
  have hx:=ha x qg
  have hx32:x<4294967296:=by rw[<-e3];exact h32 _ (zm6 _)
  have ai:=xF .u32 l i hi
  rw[show l.getD i 0=x by rw[zmq,e1];rfl]at ai
  have en:∀h,(nz l)[i]'h=(x:Int):=fun h=>by simp[nz,e3]
  have q:=quo256 x hx32
  rw[hx]at q
  have rm:∀t o o',qx Tryz.prog .rem t o o' (.int .u32 (x:Int)) (.int .u32 256)=some (.int .u32 ((x%256:Nat):Int)):=by
   intro t o o'
   rw[zo _ _ _ _ _ _ _ qe,zm qe]
   rfl
  have w1:IntKind.i64.wrap ((x%256:Nat):Int)=((x%256:Nat):Int):=qm qe qe
  have w2:IntKind.i64.wrap ((i:Int)+1)=((i+1:Nat):Int):=qj
  have ap:=qk0 .i64 (nz acc) 2 (.inr rfl) 8 qh ((x%256:Nat):Int) qi
  rw[<-yP]at ap
  have i1:=ih (i+1) b (acc++[x%256]) e2 (fun y hy=>ha y (by simp[hy])) hb qi
  have e4:i+1+a.length=i+(x::a).length:=qi
  have e5:acc++[x%256]++a.map (·%256)=acc++(x::a).map (·%256):=qg
  rw[e4,e5]at i1
  rw[qlq,<-i1]
  have b8:B69_8 (S k 1 (LI .u32 (nz l))) x3 v4 (.int .i64 (i:Int)) (.int .u32 (key:Int)) (S 2 1 (LI .i64 (nz acc))) hp=
   B69_7 (S k 1 (LI .u32 (nz l))) x3 v4 (.int .i64 ((i+1:Nat):Int)) (.int .u32 (key:Int)) (S 2 1 (LI .i64 (nz (acc++[x%256])))) hp:=by
   rw[zcl]
   clear i1 e5
   generalize((i+1:Nat):Int)=I at*
   generalize nz (acc++[x%256])=A1 at*
   generalize((x%256:Nat):Int)=m at*
   simp[hi,ai,en,zq,rm,xv,w1,ap,w2]
  simp[hi,ai,en,zq,q,b8]
theorem qyw:∀(n:Nat) (r:List Nat) (i c:Nat) (Z:List Int) (hp:Hp),r.length<=n->l.drop i=r->qM r->c+r.length<=65536->Z.length+60*r.length<=50000000->
 B69_4 (S k 1 (LI .u32 (nz l))) (S 2 1 (LI .u8 Z)) (.int .i64 (c:Int)) (.int .i64 (i:Int)) hp=some (S 2 1 (LI .u8 (uv (c+(jO r).length)++(Z++wP (jO r)))),hp):=by
 intro n
 induction n with
 |zero=>
  intro r i c Z hp hn h hrr hc hZ
  have e:r=[]:=zm4.mp qe
  subst e
  have h1:=qK h
  have hlt:¬(i<l.length):=qe
  have u:=js c (by simp at hc;omega) hp0
  have ul:=qC (n:=c) (by simp at hc;omega)
  have ap:=yH .u8 (uv c) 2 (.inr rfl) 1 qh 3 Z (by simp at hZ;omega)
  have w1:IntKind.u64.wrap (c:Int)=(c:Int):=qu qe (by simp at hc;omega)
  rw[qlr]
  simp[hlt,w1,u,ap,jO,wP]
 |succ n ih=>
  intro r i c Z hp hn h hrr hc hZ
  by_cases hr0:r=[]
  ·exact ih r i c Z hp (by rw[hr0];exact zng _) h hrr hc hZ
  ·obtain⟨x,s,rfl⟩:∃x s,r=x::s:=by cases r with
    |nil=>exact absurd rfl hr0
    |cons x s=>exact⟨x,s,rfl⟩
   obtain⟨e1,e2,hi,e3⟩:=qt h
   have hx32:x<4294967296:=by rw[<-e3];exact h32 _ (zm6 _)
   obtain⟨a,b,eab,ha,hak,hbk,hch,hpw⟩:=WY (x::s) (x/256) hrr qg hr0
   have hlen:a.length+b.length=(x::s).length:=by rw[eab];simp
   have hapos:0<a.length:=zn9.mpr ha
   have ri:=zd5 l h32 hl k (x/256) qe (S 2 1 (LI .u8 Z)) (.int .i64 (c:Int)) hp a i b [] (by rw[h,eab]) hak hbk (by have:=hlen;simp only[zmp,zm7]at this hc⊢;omega)
   have hm256:∀y∈a.map (·%256),y<256:=by
    intro y hy
    obtain⟨z,_,rfl⟩:=znn.mp hy
    exact zpo _ qh
   obtain⟨hq,rc⟩:=qf6 (a.map (·%256)) hm256 hpw (by simpa using ha) 3 (x/256) qe hp0
   have hrise_b:qM b:=by
    rw[xe]at hrr⊢
    rw[eab]at hrr
    exact(zor.mp hrr).2.1
   have hok:YT (x/256,zK (a.map (·%256))):=by
    have:(x/256,zK (a.map (·%256)))∈jO (x::s):=by rw[hch];exact zpy ..
    exact wU (fun y hy=>by rw[<-h]at hy;exact h32 y (zp7 hy)) _ this
   have cl:=qaa hok
   have ap:=yH .u8 Z 2 (.inr rfl) 1 qh 2 (yB (x/256,zK (a.map (·%256)))) qe
   have hdb:l.drop (i+a.length)=b:=by
    rw[<-List.drop_drop,h,eab,zpv]
   have i1:=ih b (i+a.length) (c+1) (Z++yB (x/256,zK (a.map (·%256)))) hp qe hdb hrise_b qe qi
   have ai:=xF .u32 l i hi
   rw[show l.getD i 0=x by rw[zmq,e1];rfl]at ai
   have en:∀h,(nz l)[i]'h=(x:Int):=fun h=>by simp[nz,e3]
   have q:∀t o o',qx Tryz.prog .quo t o o' (.int .u32 (x:Int)) (.int .u32 256)=some (.int .u32 ((x/256:Nat):Int)):=by
    intro t o o'
    rw[yy _ _ _ _ _ _ _ qe,znx qe,qJ qe qe]
    rfl
   have w1:IntKind.i64.wrap ((c:Int)+1)=((c+1:Nat):Int):=qj
   rw[hch]
   have eR:uv (c+1+(jO b).length)++(Z++yB (x/256,zK (a.map (·%256)))++wP (jO b))=uv (c+((x/256,zK (a.map (·%256)))::jO b).length)++(Z++wP ((x/256,zK (a.map (·%256)))::jO b)):=by
    simp only[zmp,wP,zna]
    congr 2;omega
   rw[<-eR,<-i1,qlr]
   have e0:LI .i64 (nz [])=[]:=rfl
   rw[e0]at ri
   simp only[zni]at ri
   clear eR i1 hch ih
   generalize nz (a.map (·%256))=A1 at*
   generalize yB (x/256,zK (a.map (·%256)))=Y at*
   generalize((i+a.length:Nat):Int)=I at*
   generalize((x/256:Nat):Int)=Q at*
   generalize((c+1:Nat):Int)=C1 at*
   have b10:B69_10 (S k 1 (LI .u32 (nz l))) (S 2 1 (LI .u8 Z)) (.int .i64 (c:Int)) (.int .i64 I) (.int .u32 Q) (S 2 1 (LI .i64 A1)) hp=B69_4 (S k 1 (LI .u32 (nz l))) (S 2 1 (LI .u8 (Z++Y))) (.int .i64 C1) (.int .i64 I) hp:=by
    rw[qu1]
    simp[rc,ap,w1]
   simp[hi,ai,en,zq,q]
   rw[ri,b10]
include hr
theorem qh8(hp:Hp):run cxX 69 [S k 1 (LI .u32 (nz l))] hp=some (S 2 1 (LI .u8 (jT (jO l))),hp):=by
 have h:=qyw l h32 hl k l.length l 0 0 [] hp (zms _) rfl hr qe qi
 rw[E69]
 simp at h
 simp[h,jT]
end
theorem JW(w:Nat)(h:w<18446744073709551616)(hp:Hp):run cxX 75 [fl w] hp=some (.sc (.int .u64 (kw w:Int)),hp):=by
 rw[E75]
 unfold kw
 by_cases hn:yS w
 ·simp[jw,hn]
 ·by_cases hl:w<9223372036854775808
  ·have h1:¬((9223372036854775808:Int)<=(w:Int)):=qe
   have w1:IntKind.u64.wrap ((w:Int)+9223372036854775808)=((w+9223372036854775808:Nat):Int):=by rw[qu]<;>omega
   rw[if_neg hn,if_pos hl]
   generalize((w+9223372036854775808:Nat):Int)=W at*
   simp[jw,hn,XE,h1,w1]
  ·have h1:(9223372036854775808:Int)<=(w:Int):=qe
   have w1:IntKind.u64.wrap (18446744073709551615-(w:Int))=((18446744073709551615-w:Nat):Int):=by rw[qu]<;>omega
   rw[if_neg hn,if_neg hl]
   generalize((18446744073709551615-w:Nat):Int)=W at*
   simp[jw,hn,XE,h1,w1]
theorem qi1(c:Int)(hc:1<=c/\c<=256)(l:List Int)(hl:l.length<=4096)(h32:ve l)(k:Nat)(hp:Hp):∀(r:List Int) (i:Nat) (last:Int) (acc:List Int),l.drop i=r->acc.length<=10*i+20->i<=l.length->(0<=last/\last<4294967296)->(0<i->last=l.getD (i-1) 0)->
 B28_3 (.int .i64 c) (S k 1 (LI .u32 l)) (S 1 1 (LI .u8 acc)) (.int .i64 (i:Int)) hp=some (S 1 1 (LI .u8 (acc++zS c r i last)),hp):=by
 intro r
 induction r with
 |nil=>
  intro i last acc h ha hil hla hl2
  have:=qK h
  have hlt:¬(i<l.length):=qe
  rw[qma]
  simp[zS,hlt]
 |cons x r ih=>
  intro i last acc h ha hil hla hl2
  obtain⟨e1,e2,hi,e3⟩:=qt h
  have hx:=h32 x (zm1 e1)
  have rm:∀t o o',qx Tryz.prog .rem t o o' (.int .i64 (i:Int)) (.int .i64 c)=some (.int .i64 ((i:Int)%c)):=by
   intro t o o'
   rw[zo _ _ _ _ _ _ _ qe,zm qe]
  have mc:max c 1=c:=qe
  have hm0:=Int.emod_nonneg (i:Int) (show c≠0 by omega)
  obtain⟨lst,hlst⟩:∃lst:Int,lst=if(i:Int)%max c 1=0 then 0 else last:=⟨_,rfl⟩
  have hb:0<=lst/\lst<4294967296:=by rw[hlst];split<;>omega
  have le:=qpl hx hb
  have ri:=qya (x-lst) qe hp0
  have ws:IntKind.i64.wrap x=x:=qm qe qe
  have wd:IntKind.i64.wrap (x-lst)=x-lst:=qm qe qe
  have hw:IntKind.i64.wrap ((i:Int)+1)=((i+1:Nat):Int):=qj
  have ap:=yH .u8 acc 1 (.inl rfl) 1 qh 2 (uv (zz (x-lst))) qe
  have hh:=ih (i+1) x (acc++uv (zz (x-lst))) e2 qi qe hx (fun _=>by simp[zmq,e1])
  have ec:acc++zS c (x::r) i last=acc++uv (zz (x-lst))++zS c r (i+1) x:=by
   rw[hlst,zna];rfl
  rw[ec,<-hh]
  have b8:B28_8 (.int .i64 c) (S k 1 (LI .u32 l)) (S 1 1 (LI .u8 acc)) (.int .i64 (i:Int)) (.int .i64 lst) hp=B28_3 (.int .i64 c) (S k 1 (LI .u32 l)) (S 1 1 (LI .u8 (acc++uv (zz (x-lst))))) (.int .i64 ((i+1:Nat):Int)) hp:=by
   rw[zc7]
   clear hh ec
   generalize((i+1:Nat):Int)=I at*
   generalize uv (zz (x-lst))=u at*
   simp[hi,e3,zq,ws,wd,ri,ap,hw]
  rw[qma,<-b8]
  by_cases h0:(i:Int)%c=0
  ·have el:lst=0:=by rw[hlst,mc,if_pos h0]
   rw[el]
   simp[hi,rm,h0]
  ·have el:lst=last:=by rw[hlst,mc,if_neg h0]
   have hpos:0<(i:Int)%c:=qe
   have hi0:0<i:=by
    rcases zpr i with e|e
    ·rw[e]at h0;simp at h0
    ·exact e
   have hl3:=hl2 hi0
   have w9:IntKind.i64.wrap ((i:Int)-1)=((i-1:Nat):Int):=qj
   have g0:(0:Int)<=((i-1:Nat):Int):=qe
   have en:l[(((i-1:Nat):Int)).toNat]?=some last:=by
    rw[zmy,hl3,zmq,zmv qe];rfl
   have wl:IntKind.i64.wrap last=last:=qm qe qe
   rw[el]
   generalize((i-1:Nat):Int)=j at*
   simp[hi,rm,hpos,w9,g0,en,zq,wl]
theorem qmu(R c:Int)(hR:0<=R/\R<256)(hc:1<=c/\c<=256)(l:List Int)(hl:l.length<=4096)(h32:ve l)(k:Nat)(hp:Hp):
 run cxX 28 [.sc (.int .i64 R),.sc (.int .i64 c),S k 1 (LI .u32 l)] hp=some (S 1 1 (LI .u8 ([R]++uv c.toNat++zS c l 0 0)),hp):=by
 have hu:=qC (n:=c.toNat) qe
 have u:=js c.toNat qe hp0
 rw[zob qe]at u
 have h:=qi1 c hc l hl h32 k hp l 0 0 ([R]++uv c.toNat) rfl qi qe qe (fun h=>qe)
 have wR:IntKind.u8.wrap R=R:=zy hR.1 hR.2
 have wc:IntKind.u64.wrap c=c:=qu qe qe
 have ap:=yH .u8 [R] 1 (.inl rfl) 1 qh 2 (uv c.toNat) qi
 have e1:LI .u8 [R]=[.sc (.int .u8 R)]:=rfl
 rw[e1]at ap
 rw[E28]
 generalize [R]++uv c.toNat=U at*
 simp at h
 simp[wR,wc,u,ap,h]
theorem qi0(L:List Nat)(hL:Ws L)(hlen:L.length<=1000)(k:Nat)(hp:Hp):∀(r:List Nat) (i p:Nat) (Z:List Int),L.drop i=r->zM (p::r.map kw)->p<18446744073709551616->Z.length<=1000+10*i->
 B29_11 (S k 1 (LF L)) (S 1 1 (LI .u8 Z)) (.int .u64 (p:Int)) (.int .i64 (i:Int)) hp=some (S 1 1 (LI .u8 (Z++jL p (r.map kw))),hp):=by
 intro r
 induction r with
 |nil=>
  intro i p Z h hn hp' hZ
  have h1:=qK h
  have ll:(LF L).length=L.length:=by simp[LF]
  have hlt:¬(i<L.length):=qe
  rw[qd1]
  simp[hlt,jL,ll]
 |cons x r ih=>
  intro i p Z h hn hp' hZ
  obtain⟨e1,e2,hi,e3⟩:=qt h
  have hx:x<18446744073709551616:=hL x (by rw[<-e3];exact zm6 _)
  have ky:=JW x hx hp0
  have kl:=Qi x hx
  have hpk:p<=kw x:=hn.1
  have hu:=qC (n:=kw x-p) qe
  have wu:=js (kw x-p) qe hp0
  have ap:=yH .u8 Z 1 (.inl rfl) 1 qh 2 (uv (kw x-p)) qe
  have hi2:=ih (i+1) (kw x) (Z++uv (kw x-p)) e2 hn.2 kl qi
  have w1:IntKind.u64.wrap ((kw x:Int)-(p:Int))=((kw x-p:Nat):Int):=by rw[qu]<;>omega
  have w2:IntKind.i64.wrap ((i:Int)+1)=((i+1:Nat):Int):=qj
  have e:Z++jL p ((x::r).map kw)=Z++uv (kw x-p)++jL (kw x) (r.map kw):=by rw[zna];rfl
  have al:(LF L)[i]?=some (fl x):=by
   unfold LF
   rw[zm8,e1];rfl
  have ll:(LF L).length=L.length:=by simp[LF]
  have hlt:(i:Int)<(L.length:Int):=qe
  rw[e,<-hi2,qd1]
  obtain⟨F,hF⟩:∃F,fl x= .sc F:=⟨_,rfl⟩
  rw[hF]at ky al
  generalize((kw x-p:Nat):Int)=D at*
  generalize((i+1:Nat):Int)=I at*
  have g1:(0:Int)<=(i:Int):=qe
  have ix:∀k,jA 1 (S k 1 (LF L)) (.int .i64 (i:Int))=some [.sc F]:=by
   intro k
   rw[XX,if_pos g1,zmy,al];rfl
  generalize LF L=LL at*
  generalize uv (kw x-p)=U at*
  simp[ll,hi,ix,zq,ky,w1,wu,ap,w2]
theorem Zu(n:Int)(hn:zw n)(Z:List Int)(hZ:Z.length<=1000):run cxX 70 [.sc (.int .u64 n)] hp0=some (S 2 1 (LI .u8 (uv n.toNat)),hp0)/\(uv n.toNat).length<=10/\jl 1 1 (S 1 1 (LI .u8 Z)) (S 2 1 (LI .u8 (uv n.toNat)))=some (S 1 1 (LI .u8 (Z++uv n.toNat)))/\IntKind.u64.wrap n=n:=by
 have h1:n.toNat<18446744073709551616:=by have:=hn.2;omega
 have hu:=qC h1
 have:=js n.toNat h1 hp0
 rw[zob hn.1]at this
 exact⟨this,hu,yH .u8 Z 1 (.inl rfl) 1 qh 2 _ qe,qu hn.1 (by have:=hn.2;omega)⟩
theorem qne(k:Nat)(L:AV)(lo hi:Value)(E:List Int)(hE:∀n∈E,zw n)(h6:E.length=6)(hp:Hp):∀(f i:Nat) (Z:List Int),i+f=6->Z.length<=100+10*i->
 B29_3 lo hi L (S 1 1 (LI .u8 Z)) (.int .i64 (i:Int)) (LI .u32 E) hp=B29_3 lo hi L (S 1 1 (LI .u8 (Z++((E.drop i).map fun n=>uv n.toNat).flatten))) (.int .i64 6) (LI .u32 E) hp:=by
 intro f
 induction f with
 |zero=>
  intro i Z h hZ
  have e:i=6:=qe
  subst e
  rw[znw qe]
  simp
 |succ f ih=>
  intro i Z h hZ
  have hi':i<E.length:=qe
  obtain⟨n,hn⟩:∃n,E[i]=n:=⟨_,rfl⟩
  have ed:E.drop i=n::E.drop (i+1):=by rw[znk hi',hn]
  obtain⟨u1,u2,u3,u4⟩:=Zu n (hE n (by rw[<-hn];exact zm6 _)) Z qe
  have ix:idx 6 (.int .i64 (i:Int))=some i:=zp .i64 qe
  have g:=jN .u32 E i hi'
  rw[show E.getD i 0=n by rw[zmq,zmv hi',hn];rfl]at g
  have hlt:i<6:=qe
  have w2:IntKind.i64.wrap ((i:Int)+1)=((i+1:Nat):Int):=qj
  have i1:=ih (i+1) (Z++uv n.toNat) qe qi
  have e:Z++((E.drop i).map fun n=>uv n.toNat).flatten=Z++uv n.toNat++((E.drop (i+1)).map fun n=>uv n.toNat).flatten:=by rw[ed];simp
  rw[e,<-i1,ql9]
  clear i1 e
  generalize((i+1:Nat):Int)=I at*
  generalize uv n.toNat=U at*
  generalize LI .u32 E=EE at*
  have gz:∀n,Nat.add 0 n=n:=fun n=>zmz n
  have hlt2:(i:Int)<6:=qe
  simp[hlt,hlt2,ix,g,u4,u1,u3,w2]
theorem qf5(K:Int)(g:Gs)(k:Nat)(hK:0<=K/\K<256)(gw:g.W)(hn:JE g.nf.L=0)(hlen:g.L.length<=200)(hp:Hp):
 run cxX 29 [.sc (.int .i64 K),.sc (.int .u32 g.M),.agg [.sc (.int .u32 g.e0),.sc (.int .u32 g.e1),.sc (.int .u32 g.e2),.sc (.int .u32 g.e3),.sc (.int .u32 g.e4),.sc (.int .u32 g.e5)],fl g.lo,fl g.hi,S k 1 (LF g.L)] hp=
  some (S 1 1 (LI .u8 (yz K g.nf)),hp):=by
 have p:=gw.pos
 obtain⟨m1,m2,m3,m4⟩:=Zu g.M p.1 [K] qg
 have hE:∀n∈[g.e0,g.e1,g.e2,g.e3,g.e4,g.e5],zw n:=by
  intro n hn
  simp only[zmt,zqq,or_false]at hn
  rcases hn with e|e|e|e|e|e<;>rw[e]
  ·exact p.2.1
  ·exact p.2.2.1
  ·exact p.2.2.2.1
  ·exact p.2.2.2.2.1
  ·exact p.2.2.2.2.2.1
  ·exact p.2.2.2.2.2.2
 have u2:=(Zu g.e0 p.2.1 [] qg).2.1
 have u3:=(Zu g.e1 p.2.2.1 [] qg).2.1
 have u4:=(Zu g.e2 p.2.2.2.1 [] qg).2.1
 have u5:=(Zu g.e3 p.2.2.2.2.1 [] qg).2.1
 have u6:=(Zu g.e4 p.2.2.2.2.2.1 [] qg).2.1
 have u7:=(Zu g.e5 p.2.2.2.2.2.2 [] qg).2.1
 have ed:=qne k (S k 1 (LF g.L)) (.float .f64 g.lo) (.float .f64 g.hi) [g.e0,g.e1,g.e2,g.e3,g.e4,g.e5] hE rfl hp 6 0 ([K]++uv g.M.toNat) rfl qi
 have klo:=JW g.lo gw.lo hp0
 have khi:=JW g.hi gw.hi hp0
 have llo:=Qi g.lo gw.lo
 have lhi:=Qi g.hi gw.hi
 have ulo:=js (kw g.lo) llo hp0
 have uhi:=js (kw g.hi) lhi hp0
 have nlo:=qC llo
 have nhi:=qC lhi
 have wK:IntKind.u8.wrap K=K:=zy hK.1 hK.2
 have e0:LI .u8 [K]=[.sc (.int .u8 K)]:=rfl
 have wl:IntKind.u8.wrap (g.L.length:Int)=(g.L.length:Int):=zy qe qe
 have el:[g.e0,g.e1,g.e2,g.e3,g.e4,g.e5].drop 0=[g.e0,g.e1,g.e2,g.e3,g.e4,g.e5]:=rfl
 rw[el]at ed
 simp only[znv,zpi,zqk,List.flatten_nil,zne]at ed
 have e1:yz K g.nf=[K]++uv g.M.toNat++(uv g.e0.toNat++(uv g.e1.toNat++(uv g.e2.toNat++(uv g.e3.toNat++(uv g.e4.toNat++uv g.e5.toNat)))))++uv (kw g.lo)++uv (kw g.hi)++[(g.L.length:Int)]++jL 0 (g.L.map kw):=by
  unfold yz Gs.nf
  simp
 have lE:([K]++uv g.M.toNat++(uv g.e0.toNat++(uv g.e1.toNat++(uv g.e2.toNat++(uv g.e3.toNat++(uv g.e4.toNat++uv g.e5.toNat)))))).length<=71:=qi
 rw[e1]
 generalize [K]++uv g.M.toNat++(uv g.e0.toNat++(uv g.e1.toNat++(uv g.e2.toNat++(uv g.e3.toNat++(uv g.e4.toNat++uv g.e5.toNat)))))=Z at*
 have a1:=yH .u8 Z 1 (.inl rfl) 1 qh 2 (uv (kw g.lo)) qe
 have a2:=yH .u8 (Z++uv (kw g.lo)) 1 (.inl rfl) 1 qh 2 (uv (kw g.hi)) qi
 have a3:=qk0 .u8 (Z++uv (kw g.lo)++uv (kw g.hi)) 1 (.inl rfl) 1 qh (g.L.length:Int) qi
 have nf:zM (0::g.L.map kw):=jE (Zx hn)
 have lp:=qi0 g.L gw.L qe k hp g.L 0 0 (Z++uv (kw g.lo)++uv (kw g.hi)++[(g.L.length:Int)]) rfl nf qh qi
 have ll:(LF g.L).length=g.L.length:=by simp[LF]
 have b3:B29_3 (.float .f64 g.lo) (.float .f64 g.hi) (S k 1 (LF g.L)) (S 1 1 (LI .u8 Z)) (.int .i64 6) (LI .u32 [g.e0,g.e1,g.e2,g.e3,g.e4,g.e5]) hp=some (S 1 1 (LI .u8 (Z++uv (kw g.lo)++uv (kw g.hi)++[(g.L.length:Int)]++jL 0 (g.L.map kw))),hp):=by
  rw[<-lp,ql9]
  clear ed lp e1
  generalize LF g.L=LL at*
  generalize uv (kw g.lo)=U1 at*
  generalize uv (kw g.hi)=U2 at*
  simp only[zna]at a1 a2 a3⊢
  simp[klo,ulo,a1,khi,uhi,a2,ll,wl,a3]
 rw[b3]at ed
 have es:LI .u32 [g.e0,g.e1,g.e2,g.e3,g.e4,g.e5]=[.sc (.int .u32 g.e0),.sc (.int .u32 g.e1),.sc (.int .u32 g.e2),.sc (.int .u32 g.e3),.sc (.int .u32 g.e4),.sc (.int .u32 g.e5)]:=rfl
 rw[es]at ed
 rw[e0]at m3
 rw[E29]
 generalize [K]++uv g.M.toNat=Z0 at*
 generalize LF g.L=LL at*
 generalize Z++uv (kw g.lo)++uv (kw g.hi)++[(g.L.length:Int)]++jL 0 (g.L.map kw)=ZZ at*
 simp at ed
 simp[wK,m4,m1,m3,ed]
theorem YJ{x:SkN}{v:AV}(hv:xa x v)(f:Fine x)(h64:H64 x)(hp:Hp):∃t,run cxX 12 [v] hp=some (S t 1 (LI .u8 (qD x)),hp)/\(t=1\/t=2):=by
 obtain⟨g,a,b,c,d,e,t,gw,gn,rfl⟩:=hv
 have kd:=(qY.mp f.c).1
 have hk:=f.w.kind
 have six:x.kind=0\/x.kind=1\/x.kind=2\/x.kind=3\/x.kind=4\/x.kind=5:=qe
 unfold qD
 rw[E12]
 rcases six with k|k|k|k|k|k
 ·rw[if_pos k]
  obtain⟨s1,s2,s3,s4⟩:=wY f k
  have r1:=fun q=>qh8 (tn x.set) s3 s2 qi q hp0
  rw[s4]at r1
  have r2:∀q,run cxX 24 [S q 1 (LI .u32 x.set)] hp0=some (S 2 1 (LI .u8 (jT (jO (tn x.set)))),hp0):=by
   intro q;rw[E24];simp[r1]
  refine⟨2,?_,.inr rfl⟩
  generalize jT (jO (tn x.set))=Y at*
  simp[Qy,k,ql,qs,r2]
 ·rw[if_neg qe,if_pos k]
  obtain⟨s0,s1,s2,s3,s4⟩:=vh f k h64
  have r1:=fun q=>qh9 (tn x.hs) q (by simp;exact s1) s3 s2 hp0
  rw[s4]at r1
  have hu:=qC (n:=x.K.toNat) qe
  have u:=js x.K.toNat qe hp0
  rw[zob qe]at u
  have hl:=kn (l:=tn x.hs) (by simp;exact s1) s3
  have ap:=yH .u8 (uv x.K.toNat) 2 (.inr rfl) 1 qh 2 (zh (tn x.hs)) qe
  have wK:IntKind.u64.wrap x.K=x.K:=qu qe qe
  have r2:∀q,run cxX 25 [.sc (.int .i64 x.K),S q 1 (LI .u64 x.hs)] hp0=some (S 2 1 (LI .u8 (uv x.K.toNat++zh (tn x.hs))),hp0):=by
   intro q
   rw[E25]
   generalize uv x.K.toNat=U at*
   generalize zh (tn x.hs)=Y at*
   simp[wK,u,r1,ap]
  refine⟨2,?_,.inr rfl⟩
  generalize uv x.K.toNat++zh (tn x.hs)=Y at*
  simp[Qy,k,ql,qs,r2]
 ·rw[if_neg qe,if_neg qe,if_pos k]
  obtain⟨s0,s1,s2,s3,s4⟩:=vi f k
  have r1:=fun q=>qic (tn x.rg) q qi s3 hp0
  rw[s4]at r1
  have hl:=QT (l:=tn x.rg) qi s3
  have ap:=yH .u8 [x.P] 1 (.inl rfl) 1 qh 0 (jg (tn x.rg)) qi
  have wK:IntKind.u8.wrap x.P=x.P:=zy qe qe
  have e1:LI .u8 [x.P]=[.sc (.int .u8 x.P)]:=rfl
  have e2:[x.P]++jg (tn x.rg)=x.P::jg (tn x.rg):=rfl
  rw[e1,e2]at ap
  have r2:∀q,run cxX 26 [.sc (.int .i64 x.P),S q 1 (LI .u8 x.rg)] hp0=some (S 1 1 (LI .u8 (x.P::jg (tn x.rg))),hp0):=by
   intro q
   obtain⟨hq,r1⟩:=r1 (rk q)
   rw[E26]
   generalize LI .u8 (x.P::jg (tn x.rg))=Y2 at*
   generalize jg (tn x.rg)=Y at*
   simp[wK,r1,ap]
  refine⟨1,?_,.inl rfl⟩
  generalize x.P::jg (tn x.rg)=Y at*
  simp[Qy,k,ql,qs,r2]
 ·rw[if_neg qe,if_neg qe,if_neg qe,if_pos k]
  obtain⟨s0,s9,s1,s2,s3,s4⟩:=xU f k
  have r1:=fun q=>qib (tn x.bs) q qi s3 s2 hp0
  rw[s4]at r1
  have hu:=qC (n:=x.B.toNat) qe
  have u:=js x.B.toNat qe hp0
  rw[zob qe]at u
  have hl:=kC (l:=tn x.bs) (by simp;exact s1) s3 s2
  have a1:=qk0 .u8 (uv x.B.toNat) 2 (.inr rfl) 1 qh x.H qe
  have a2:=yH .u8 (uv x.B.toNat++[x.H]) 2 (.inr rfl) 1 qh 2 (zB (tn x.bs)) qi
  have wB:IntKind.u64.wrap x.B=x.B:=qu qe qe
  have wH:IntKind.u8.wrap x.H=x.H:=zy qe qe
  have r2:∀q,run cxX 27 [.sc (.int .i64 x.B),.sc (.int .i64 x.H),S q 1 (LI .u32 x.bs)] hp0=some (S 2 1 (LI .u8 (uv x.B.toNat++[x.H]++zB (tn x.bs))),hp0):=by
   intro q
   rw[E27]
   generalize LI .u8 (uv x.B.toNat++[x.H]++zB (tn x.bs))=Y3 at*
   generalize LI .u8 (uv x.B.toNat++[x.H])=Y2 at*
   generalize uv x.B.toNat=U at*
   generalize zB (tn x.bs)=Y at*
   simp[wB,u,wH,a1,r1,a2]
  refine⟨2,?_,.inr rfl⟩
  generalize uv x.B.toNat++[x.H]++zB (tn x.bs)=Y at*
  simp[Qy,k,ql,qs,r2]
 ·rw[if_neg qe,if_neg qe,if_neg qe,if_neg qe,if_pos k]
  obtain⟨s0,s1,s2,s3⟩:=vj f k
  have r2:=fun q=>qmu x.R x.C qe s1 x.cs qe f.w.cs q hp0
  refine⟨1,?_,.inl rfl⟩
  generalize [x.R]++uv x.C.toNat++zS x.C x.cs 0 0=Y at*
  simp[Qy,k,ql,qs,r2]
 ·rw[if_neg qe,if_neg qe,if_neg qe,if_neg qe,if_neg qe]
  obtain⟨s0,s1,s2⟩:=xP f k
  have hl:g.L.length<=16:=by rw[<-gn]at s2;simpa[Gs.nf]using s2
  have r2:=fun q=>qf5 x.gK g q ⟨qe,qe⟩ gw (by rw[gn];exact s1) qe hp0
  rw[gn]at r2
  refine⟨1,?_,.inl rfl⟩
  generalize yz x.gK x.g=Y at*
  simp[Qy,k,ql,qs,qr,qo,r2]
theorem zft{x y:SkN}{r r':AV}(hv:xa x r)(hu:xa y r')(fx:Fine x)(fy:Fine y)(hx:H64 x)(hy:H64 y)(hl:jt x y=true)(k1 k2:Nat)(M:AV)(hro:AI.ro M=M)(hp H1 H2 H3:Hp)(e3:Int)
 (t1:run cxX 21 [.sc (.int .u8 x.kind),S (rk k1) 1 (LI .u8 (qD x)),M] hp=some (.tup [r,.sc (.int .i64 0)],H1))
 (t2:run cxX 21 [.sc (.int .u8 x.kind),S (rk k2) 1 (LI .u8 (qD y)),M] H1=some (.tup [r',.sc (.int .i64 0)],H2))
 (mt:run cxX 30 [M,.sc (.int .i64 ((byM x y).length:Int))] H2=some (.sc (.int .i64 e3),H3)):
 ∃t,run cxX 13 [.sc (.int .u8 x.kind),S k1 1 (LI .u8 (qD x)),S k2 1 (LI .u8 (qD y)),M] hp=
  if(jQ x y).2=0/\e3=0 then some (.tup [S t 1 (LI .u8 (byM x y)),.sc (.int .i64 0)],H3)
  else if(jQ x y).2=0 then some (.tup [S 2 1 [],.sc (.int .i64 e3)],H3)else some (.tup [S 2 1 [],.sc (.int .i64 (jQ x y).2)],H2):=by
 obtain⟨L,rfl,l1,l2,lc⟩:=hv.cl
 obtain⟨L',rfl,m1,m2,mc⟩:=hu.cl
 have li:=qms lc.sk mc.sk hp0
 rw[hl]at li
 obtain⟨t,hb,fb⟩:=qm6 fx fy (rk k1) (rk k2) hp0 lc.sk mc.sk hx hy hl
 have g23:∀(l:List AV),l.length=23->qr l 0 23=some l:=fun l hl=>XY l 23 hl
 have lv:=lc.vl;have lr:=lc.ro;have mv:=mc.vl;have mr:=mc.ro
 have ln:=lc.len;have mn:=mc.len
 refine⟨rk (rk t),?_⟩
 rw[E13]
 generalize qD x=Y1 at*
 generalize qD y=Y2 at*
 generalize(jQ x y).2=er at*
 generalize byM x y=Z at*
 by_cases he:er=0
 ·by_cases h3:e3=0
  ·simp[-List.map_map,-List.all_map,-List.all_eq_true,hro,t1,t2,l1,l2,m1,m2,xJ,g23,lr,mr,lv,mv,ln,mn,li,fb,he,h3,mt]
  ·simp[-List.map_map,-List.all_map,-List.all_eq_true,hro,t1,t2,l1,l2,m1,m2,xJ,g23,lr,mr,lv,mv,ln,mn,li,fb,he,h3,mt]
 ·simp[-List.map_map,-List.all_map,-List.all_eq_true,hro,t1,t2,l1,l2,m1,m2,xJ,g23,lr,mr,lv,mv,ln,mn,li,fb,he,mt]
theorem Vj{x y:SkN}{v u:AV}(hv:xa x v)(hu:xa y u)(fx:Fine x)(fy:Fine y)(hx:H64 x)(hy:H64 y)(hl:jt x y=true)(k1 k2:Nat)(hp:Hp):
 ∃t hp',run cxX 13 [.sc (.int .u8 x.kind),S k1 1 (LI .u8 (qD x)),S k2 1 (LI .u8 (qD y)),.sc (.pointer none)] hp=some (.tup [S t 1 (LI .u8 (byM x y)),.sc (.int .i64 (jQ x y).2)],hp'):=by
 obtain⟨r,H1,i1,t1,_⟩:=qh2 hv fx hx (rk k1) (.sc (.pointer none)) rfl hp hp (wO _ hp)
 obtain⟨r',H2,i2,t2,_⟩:=qh2 hu fy hy (rk k2) (.sc (.pointer none)) rfl H1 H1 (wO _ H1)
 rw[<-xL hl]at t2
 obtain⟨t,fm⟩:=zft i1 i2 fx fy hx hy hl k1 k2 (.sc (.pointer none)) rfl hp H1 H2 H2 0 t1 t2 (wO _ H2)
 by_cases h:(jQ x y).2=0
 ·rw[if_pos ⟨h,rfl⟩]at fm
  rw[h]
  exact⟨t,H2,fm⟩
 ·rw[if_neg (fun q=>h q.1),if_neg h]at fm
  have e:byM x y=[]:=if_neg h
  rw[e]
  exact⟨2,H2,fm⟩
theorem qj1:H64 skZ:=by intro n hn;cases hn
theorem qco:qD skZ=[0]:=by
 have e:qD skZ=uv 0++[]:=rfl
 rw[e,uv]
 rfl
theorem qiu(hp:Hp):∃hp',run cxX 9 [] hp=some (.sc (.bool true),hp'):=by
 obtain⟨t,hp',fm⟩:=Vj qc4 qc4 Zp Zp qj1 qj1 (XW _) 0 0 hp
 have e:byM skZ skZ=[0]:=by
  unfold byM
  rw[wz Zp,if_pos rfl,Wy Zp qh qh,qco]
 have e2:(jQ skZ skZ).2=0:=by rw[wz Zp]
 rw[e,e2,qco]at fm
 refine⟨hp',?_⟩
 have k0:skZ.kind=0:=rfl
 rw[k0]at fm
 have f':run cxX 13 [.sc (.int .u8 0),S 0 1 [.sc (.int .u8 0)],S 0 1 [.sc (.int .u8 0)],.sc (.pointer none)] hp=some (.tup [S t 1 (LI .u8 [0]),.sc (.int .i64 0)],hp'):=fm
 rw[E9]
 simp[f']
 rfl
theorem qsi(s t:Sm)(k1 k2 k3 k4:Nat)(oks:s.Ok)(okt:t.Ok)(hs:s.hs.length<=40/\s.fl.length<=40)(ht:t.hs.length<=40/\t.fl.length<=40)(hp:Hp):
 ∃A B,(A.length=23/\A.all vl=true/\Cl (jX s) (A.map ro1))/\(B.length=23/\B.all vl=true/\Cl (jX {t with kind:=s.kind,A:=s.A,B:=s.B,wide:=s.wide}) (B.map ro1))/\run cxX 11 [smA s k1 k2,smA t k3 k4] hp=some (.tup [.agg A,.agg B],hp):=by
 have okt2:Sm.Ok {t with kind:=s.kind,A:=s.A,B:=s.B,wide:=s.wide}:=⟨oks.kind,oks.A,oks.B,oks.wide,okt.hs,okt.fl⟩
 obtain⟨r,hr,e⟩:=VO s (rk k1) (rk k2) oks hs.1 hs.2 hp0
 obtain⟨r',hr',e'⟩:=VO {t with kind:=s.kind,A:=s.A,B:=s.B,wide:=s.wide} (rk k3) (rk k4) okt2 ht.1 ht.2 hp0
 obtain⟨A,rfl,la,va,ca⟩:=hr.cl
 obtain⟨B,rfl,lb,vb,cb⟩:=hr'.cl
 refine⟨A,B,⟨la,va,ca⟩,⟨lb,vb,cb⟩,?_⟩
 rw[E11]
 have gS7:∀(a b c d e f g:AV),qr [a,b,c,d,e,f,g] 0 7=some [a,b,c,d,e,f,g]:=fun _ _ _ _ _ _ _=>rfl
 have p0:∀(a b c d e f g x:AV),qo [a,b,c,d,e,f,g] 0 [x]=some [x,b,c,d,e,f,g]:=fun _ _ _ _ _ _ _ _=>rfl
 have p1:∀(a b c d e f g x:AV),qo [a,b,c,d,e,f,g] 1 [x]=some [a,x,c,d,e,f,g]:=fun _ _ _ _ _ _ _ _=>rfl
 have p2:∀(a b c d e f g x:AV),qo [a,b,c,d,e,f,g] 2 [x]=some [a,b,x,d,e,f,g]:=fun _ _ _ _ _ _ _ _=>rfl
 have p3:∀(a b c d e f g x:AV),qo [a,b,c,d,e,f,g] 3 [x]=some [a,b,c,x,e,f,g]:=fun _ _ _ _ _ _ _ _=>rfl
 have g23:∀(l:List AV),l.length=23->qr l 0 23=some l:=fun l hl=>XY l 23 hl
 simp[-List.map_map,-List.all_map,-List.all_eq_true,ql,p0,p1,p2,p3,gS7,e,e',g23,xJ,la,lb,va,vb,ca.vl,ca.ro,cb.vl,cb.ro,ca.len,cb.len]
end Go.Proofs.YtmajcennjgjlnaaGreat.AI
namespace Go.Proofs.YtmajcennjgjlnaaGreat.AI
open Go Go.RowKit Go.ChangeShapes Go.WideShapes Go.ChangeAt
set_option linter.unusedVariables false
set_option linter.unusedSimpArgs false
theorem vlP:∀(l:List (Int×Int)) (x:AV),x∈LP l->vl x=true
 |[],x,h=>by cases h
 |p::l,x,h=>by
  simp only[LP,zmt]at h
  rcases h with rfl|rfl|h
  ·rfl
  ·rfl
  ·exact vlP l x h
def VP:List (Int×Int)->List Value
 |[]=>[]
 |p::l=>.int .u64 p.1::.int .u8 p.2::VP l
theorem zg3:∀l,(VP l).length=2*l.length
 |[]=>rfl
 |p::l=>by simp only[VP,zmp,zg3 l];omega
theorem zg7:∀(l:List (Int×Int)) (i:Nat) (v:Value),(VP l)[i]?=some v->∃p,l[i/2]?=some p/\v=if i%2=0 then .int .u64 p.1 else .int .u8 p.2
 |[],i,v,h=>by simp[VP]at h
 |p::l,0,v,h=>by
  simp only[VP,zpl,zqm]at h
  exact⟨p,rfl,by simp[h]⟩
 |p::l,1,v,h=>by
  simp only[VP,zo5,zpl,zqm]at h
  exact⟨p,rfl,by simp[h]⟩
 |p::l,i+2,v,h=>by
  simp only[VP,zo5]at h
  obtain⟨q,h1,h2⟩:=zg7 l i v h
  refine⟨q,?_,?_⟩
  ·rw[show(i+2)/2=i/2+1 by omega,zo5];exact h1
  ·rw[show(i+2)%2=i%2 by omega];exact h2
theorem zgw:∀(l:List (Int×Int)) (i:Nat) (x:AV) (v:Value),(LP l)[i]?=some x->(VP l)[i]?=some v->x= .sc v/\v.oneCell'=true
 |[],i,x,v,h,_=>by simp[LP]at h
 |p::l,0,x,v,h,h'=>by
  simp only[LP,VP,zpl,zqm]at h h'
  subst h h'
  exact⟨rfl,rfl⟩
 |p::l,1,x,v,h,h'=>by
  simp only[LP,VP,zo5,zpl,zqm]at h h'
  subst h h'
  exact⟨rfl,rfl⟩
 |p::l,i+2,x,v,h,h'=>by
  simp only[LP,VP,zo5]at h h'
  exact zgw l i x v h h'
section
variable {H:Type}{enc:TypeId×Value->H}{P:Program}{W:World}{fuel:Nat}{t e tu t8:TypeId}{cs:List Value}{y:DataW H×List MemPlace}{fs:Array Field}
theorem rd_pairs{f0 f1:Field}(ht:P.underlying t=some (.slice e))(he:P.underlying e=some (.struct #[f0,f1])) (h0:P.underlying f0.type=some (.int .u64)) (h1:P.underlying f1.type=some (.int .u8))
 (o0:f0.offset=0) (o1:f1.offset=1) (hc:P.cellsOf e=2) (c0:P.cellsOf f0.type=1) (c1:P.cellsOf f1.type=1) (h:DataW.trod enc P W 0 (fun _=>true) true fuel t cs=some y):
 ∃k l v,cs=[v]/\RelR (WH W) W (S k 2 (LP l)) v/\∀p∈l,InI p:=by
 rcases DataW.trod_slice ht h with⟨hcs,_⟩|⟨a,len,cap,elems,rest,n,_,hcs,_,_,hl,_,hlen,hel,_,_⟩
 ·exact⟨2,[],_,hcs,.sc nil0 rfl,qg⟩
 ·have each:∀i,i<len->∃p:Int×Int,InI p/\W.cell? (a.add (i*2))=some (.int .u64 p.1)/\W.cell? (a.add (i*2+1))=some (.int .u8 p.2):=by
   intro i hi
   have hb:=hel i hi
   rw[zmv qe,hc,Option.bind_eq_some_iff]at hb
   obtain⟨cs',hcs',hy'⟩:=hb
   obtain⟨xs,m,_,_,hcl,hxl,hf⟩:=DataW.trod_struct he hy'
   have g0:=hf 0 f0 rfl
   have g1:=hf 1 f1 rfl
   rw[o0,c0]at g0
   rw[o1,c1]at g1
   rw[hc]at hcl
   obtain⟨y0,hy0⟩:∃y,xs[0]?=some y:=⟨_,zmv (by rw[hxl];simp)⟩
   obtain⟨y1,hy1⟩:∃y,xs[1]?=some y:=⟨_,zmv (by rw[hxl];simp)⟩
   rw[hy0]at g0
   rw[hy1]at g1
   obtain⟨n0,q0,w0⟩:=rd_int h0 g0
   obtain⟨n1,q1,w1⟩:=rd_int h1 g1
   have z0:=cell_at q0
   have z1:=cell_at q1
   have hc3:=(World.cells?_some hcs').2.2
   refine⟨(n0,n1),⟨w0.u64,w1.u8⟩,?_,?_⟩
   ·have:=hc3 0 qe
    rw[Addr.add_add,zoc]at this
    rw[this];exact z0
   ·have:=hc3 1 qe
    rw[Addr.add_add]at this
    rw[this];exact z1
  have ch:∃f:Nat->Int×Int,∀i,i<len->InI (f i)/\W.cell? (a.add (i*2))=some (.int .u64 (f i).1)/\W.cell? (a.add (i*2+1))=some (.int .u8 (f i).2):=by
   refine⟨fun i=>if hi:i<len then(each i hi).choose else(0,0),fun i hi=>?_⟩
   simp only[dif_pos hi]
   exact(each i hi).choose_spec
  obtain⟨f,hf⟩:=ch
  have hg:∀(i:Nat) (p:Int×Int),((List.range len).map f)[i]?=some p->i<len/\p=f i:=by
   intro i p hp
   rw[zm8,zp0]at hp
   obtain⟨j,hj,rfl⟩:=hp
   obtain⟨h1,h2⟩:=zmx.mp hj
   simp at h1 h2
   subst h2
   exact⟨h1,rfl⟩
  refine⟨0,(List.range len).map f,_,hcs,?_,?_⟩
  ·have:=zby (W:=W) (a:=a) (n:=len) (cap:=cap) (sz:=2) (cs:=LP ((List.range len).map f)) (vs:=VP ((List.range len).map f)) qe (by rw[qjs];simp;omega) (by rw[qjs,zg3]) hl
    (fun i v hv=>by
     obtain⟨p,hp,rfl⟩:=zg7 _ i v hv
     obtain⟨hi,rfl⟩:=hg _ _ hp
     obtain⟨_,q0,q1⟩:=hf _ hi
     by_cases hm:i%2=0
     ·rw[if_pos hm,<-q0]
      congr 2
      omega
     ·rw[if_neg hm,<-q1]
      congr 2
      omega)
    (fun x hx=>vlP _ x hx)
    (fun i x v hx hv=>by
     obtain⟨rfl,ho⟩:=zgw _ i x v hx hv
     exact .sc _ ho)
   exact this (fun _=>.fr)
  ·intro p hp
   obtain⟨i,hi,rfl⟩:=znn.mp hp
   exact(hf i (by simpa using hi)).1
end
end Go.Proofs.YtmajcennjgjlnaaGreat.AI
namespace Go.Proofs.YtmajcennjgjlnaaGreat.AI
open Go
set_option linter.unusedVariables false
set_option linter.unusedSimpArgs false
set_option maxRecDepth 100000
set_option maxHeartbeats 0
theorem qc8(a b c d e f g:AV):qr [a,b,c,d,e,f,g] 0 7=some [a,b,c,d,e,f,g]:=rfl
theorem qt2(t t':Nat)(Z:List Int)(e:Int)(hp:Hp):B3_12 (S t 1 (LI .u8 Z)) (.int .i64 e) (S t' 1 (LI .u8 Z)) (.int .i64 e) hp=some (.sc (.bool true),hp):=by
 rw[zc4]
 simp
theorem qbb(s t:Sm)(k1 k2 k3 k4:Nat)(oks:s.Ok)(okt:t.Ok)(hp:Hp):∃hp',run cxX 3 [smA s k1 k2,smA t k3 k4] hp=some (.sc (.bool true),hp'):=by
 have li:=fun k k' hp=>qb8 s k k' hp
 have li':=fun k k' hp=>qb8 t k k' hp
 obtain⟨ha,aw⟩:=qiu hp0
 have b4:B3_4 hp=some (.sc (.bool true),hp):=zgp hp
 rw[E3]
 by_cases hs:s.hs.length<=40/\s.fl.length<=40
 ·simp only[eq_true hs,decide_true]at li
  by_cases ht:t.hs.length<=40/\t.fl.length<=40
  ·simp only[eq_true ht,decide_true]at li'
   have okt2:Sm.Ok {t with kind:=s.kind,A:=s.A,B:=s.B,wide:=s.wide}:=⟨oks.kind,oks.A,oks.B,oks.wide,okt.hs,okt.fl⟩
   have fx:=YE s oks hs.1 hs.2
   have fy:=YE _ okt2 ht.1 ht.2
   have hx:=KG s oks
   have hy:=KG _ okt2
   have lab:=qf2 s _ oks okt2 rfl rfl rfl rfl
   obtain⟨A,B,⟨la,va,ca⟩,⟨lb,vb,cb⟩,al⟩:=qsi s t (rk k1) (rk k2) (rk k3) (rk k4) oks okt hs ht hp0
   generalize jX s=x at*
   generalize jX {t with kind:=s.kind,A:=s.A,B:=s.B,wide:=s.wide}=y at*
   have hk:=xL lab
   have lba:jt y x=true:=by rw[qc1];exact lab
   obtain⟨t1,b1,_⟩:=YJ ca.sk fx hx hp0
   obtain⟨t2,b2,_⟩:=YJ cb.sk fy hy hp0
   obtain⟨u1,h1,m1⟩:=Vj ca.sk cb.sk fx fy hx hy lab (rk t1) (rk t2) hp
   obtain⟨u2,h2,m2⟩:=Vj cb.sk ca.sk fy fx hy hx lba (rk t2) (rk t1) h1
   obtain⟨u3,h3,m3⟩:=Vj ca.sk ca.sk fx fx hx hx (XW x) (rk t1) (rk t1) h2
   have ec:byM y x=byM x y:=by unfold byM;rw[KM fx fy lab]
   rw[KM fx fy lab,ec,<-hk]at m2
   have es:(jQ x x).2=0:=by rw[wz fx]
   rw[es]at m3
   have fin:=qt2 (rk u1) (rk u2) (byM x y) (jQ x y).2 h3
   refine⟨h3,?_⟩
   have g23:∀(l:List AV),l.length=23->qr l 0 23=some l:=fun l hl=>XY l 23 hl
   have k0:ql A 0=some (.int .u8 x.kind):=(qtz A 0).symm.trans ca.k0
   have k0':=ca.k0
   have avl:=ca.vl;have aro:=ca.ro;have bvl:=cb.vl;have bro:=cb.ro;have aln:=ca.len;have bln:=cb.len
   have eo:x.kind≠4->x.kind≠5->byM x x=qD x:=by
    intro h4 h5
    unfold byM
    rw[es,if_pos rfl,wz fx,Wy fx h4 h5]
   have b5:B3_5 [.sc (.int .u8 s.kind),.sc (.int .u8 s.A),.sc (.int .u8 s.B),.sc (.int .u16 s.wide),.sc (.bool s.few),S (rk k1) 1 (LI .u64 s.hs),S (rk k2) 2 (LP s.fl)] [.sc (.int .u8 t.kind),.sc (.int .u8 t.A),.sc (.int .u8 t.B),.sc (.int .u16 t.wide),.sc (.bool t.few),S (rk k3) 1 (LI .u64 t.hs),S (rk k4) 2 (LP t.fl)] hp=some (.sc (.bool true),h3):=by
    rw[zgo]
    unfold smA at al
    generalize(jQ x y).2=er at*
    generalize byM x y=Z at*
    generalize qD y=Y2 at*
    by_cases k4:x.kind=4
    ·generalize qD x=Y1 at*
     generalize byM x x=Z2 at*
     rw[k4]at k0 k0' m1 m2 m3
     simp[-List.map_map,-List.all_map,-List.all_eq_true,qc8,al,la,lb,va,vb,avl,aro,bvl,bro,aln,bln,xJ,g23,k0,k0',b1,b2,m1,m2,m3,fin]
    ·by_cases k5:x.kind=5
     ·generalize qD x=Y1 at*
      generalize byM x x=Z2 at*
      rw[k5]at k0 k0' m1 m2 m3
      simp[-List.map_map,-List.all_map,-List.all_eq_true,qc8,al,la,lb,va,vb,avl,aro,bvl,bro,aln,bln,xJ,g23,k0,k0',b1,b2,m1,m2,m3,fin]
     ·rw[eo k4 k5]at m3
      generalize qD x=Y1 at*
      simp[-List.map_map,-List.all_map,-List.all_eq_true,qc8,al,la,lb,va,vb,avl,aro,bvl,bro,aln,bln,xJ,g23,k0,k0',b1,b2,m1,m2,m3,k4,k5,fin]
   simp[li,li',aw,qc8,b5]
  ·simp only[eq_false ht,decide_false]at li'
   exact⟨hp,by simp[li,li',aw,qc8,b4]⟩
 ·simp only[eq_false hs,decide_false]at li
  exact⟨hp,by simp[li,aw,qc8,b4]⟩
theorem law_FuseTurns(a:Int)(wa:Vh .u8 a)(b:Int)(wb:Vh .u8 b)(c:Int)(wc:Vh .u8 c)(d:Int)(wd:Vh .u16 d)(f:Bool)(k:Nat)(l:List Int)(wl:∀n∈l,Vh .u64 n)(k':Nat)(m:List (Int×Int))(wm:∀p∈m,InI p)
 (a2:Int) (wa2:Vh .u8 a2) (b2:Int) (wb2:Vh .u8 b2) (c2:Int) (wc2:Vh .u8 c2) (d2:Int) (wd2:Vh .u16 d2) (f2:Bool) (k2:Nat) (l2:List Int) (wl2:∀n∈l2,Vh .u64 n) (k2':Nat) (m2:List (Int×Int)) (wm2:∀p∈m2,InI p) (hp:Hp):
 ∃hp',run cxX 3 [.agg [.sc (.int .u8 a),.sc (.int .u8 b),.sc (.int .u8 c),.sc (.int .u16 d),.sc (.bool f),S k 1 (LI .u64 l),S k' 2 (LP m)],.agg [.sc (.int .u8 a2),.sc (.int .u8 b2),.sc (.int .u8 c2),.sc (.int .u16 d2),.sc (.bool f2),S k2 1 (LI .u64 l2),S k2' 2 (LP m2)]] hp=some (.sc (.bool true),hp'):=
 qbb ⟨a,b,c,d,f,l,m⟩ ⟨a2,b2,c2,d2,f2,l2,m2⟩ k k' k2 k2' ⟨wa.u8,wb.u8,wc.u8,wd.u16,fun n hn=>(wl n hn).u64,wm⟩ ⟨wa2.u8,wb2.u8,wc2.u8,wd2.u16,fun n hn=>(wl2 n hn).u64,wm2⟩ hp
end Go.Proofs.YtmajcennjgjlnaaGreat.AI
