/- Texts that the proof of BoxOrders rests on, part 9. -/
import Derived.Test.YtoliekekdmfngaaGreatQBoxOrders8
import Derived.DataElems
namespace Go.Proofs.YtoliekekdmfngaaGreat.AI
open Go
set_option linter.unusedVariables false
set_option linter.unusedSimpArgs false
set_option maxRecDepth 100000
set_option maxHeartbeats 0
theorem qag(x c:Nat)(hx:x<18446744073709551616)(hc:c<18446744073709551616)(t:TypeId)(o o':Operand):qt Tryz.prog .and t o o' (.int .u64 (x:Int)) (.int .u64 (c:Int))=some (.int .u64 ((x&&&c:Nat):Int)):=by
 rw[qO]
 have hl:x&&&c<=x:=Nat.and_le_left
 have e:(BitVec.ofInt IntKind.u64.bits (x:Int)&&&BitVec.ofInt IntKind.u64.bits (c:Int)).toNat=x&&&c:=by
  show(BitVec.ofInt 64 (x:Int)&&&BitVec.ofInt 64 (c:Int)).toNat=_
  rw[zh3,zh3,zit,zix,zix]
  rw[zhq qc,zhq qc]
 rw[e,qz qc qc]
theorem zfi(x:Nat)(hx:x<18446744073709551616):f1 8 x<18446744073709551616:=by
 unfold f1
 have e:WE 85 8=6148914691236517205:=qg
 rw[e]
 have h1:(x/2)&&&6148914691236517205<=6148914691236517205:=zj8
 have h2:x&&&6148914691236517205<=6148914691236517205:=zj8
 omega
theorem zfh(x:Nat):f2 8 x<7378697629483820647:=by
 unfold f2
 have e:WE 51 8=3689348814741910323:=qg
 rw[e]
 have h1:(x/4)&&&3689348814741910323<=3689348814741910323:=zj8
 have h2:x&&&3689348814741910323<=3689348814741910323:=zj8
 omega
theorem qzw(r:Nat)(hr:r<9223372036854775808)(t:TypeId)(o o':Operand):qt Tryz.prog .and t o o' (.int .i64 (r:Int)) (.int .i64 127)=some (.int .i64 ((r%128:Nat):Int)):=by
 rw[qO]
 have e9:(BitVec.ofInt IntKind.i64.bits (r:Int)&&&BitVec.ofInt IntKind.i64.bits ((127:Nat):Int)).toNat=r%128:=by
  show(BitVec.ofInt 64 (r:Int)&&&BitVec.ofInt 64 ((127:Nat):Int)).toNat=_
  rw[zh3,zh3,zit,zix,zix,zhq (show r<2^64 by omega),zhq (show 127<2^64 by omega)]
  exact zip r 7
 have i127:((127:Nat):Int)=127:=rfl
 rw[i127]at e9
 rw[e9,qk qc qc]
theorem qs4(x:Nat)(hx:x<18446744073709551616):∃y z q d e r:Nat,(x/2&&&6148914691236517205)+(x&&&6148914691236517205)=y/\y<18446744073709551616/\
 (y/4&&&3689348814741910323)+(y&&&3689348814741910323)=z/\z<7378697629483820647/\(z/16+z)&&&1085102592571150095=q/\q<651061555542690057/\q+q/256=d/\d+d/65536=e/\e+e/4294967296=r/\r<9223372036854775808/\r%128=ja x 64:=by
 have m1:WE 85 8=6148914691236517205:=qg
 have m2:WE 51 8=3689348814741910323:=qg
 have m3:WE 15 8=1085102592571150095:=qg
 have h1:=zfi x hx
 have h2:=zfh (f1 8 x)
 have h3:=zcs 8 x (zg5 hx qg)
 have cb:∀y,ja y 8<=8:=fun y=>vF y 8
 have hc:cB x 8=((((((ja (x/256/256/256/256/256/256/256%256) 8*256+ja (x/256/256/256/256/256/256%256) 8)*256+ja (x/256/256/256/256/256%256) 8)*256+ja (x/256/256/256/256%256) 8)*256+
  ja (x/256/256/256%256) 8)*256+ja (x/256/256%256) 8)*256+ja (x/256%256) 8)*256+ja (x%256) 8:=by
  simp only[cB,zh7,zha]
 obtain⟨p1,d,hd,e,he,p2,p3⟩:=qs5 _ _ _ _ _ _ _ _ _ (cb _) (cb _) (cb _) (cb _) (cb _) (cb _) (cb _) (cb _) hc
 rw[<-qnq]at p3
 refine⟨f1 8 x,f2 8 (f1 8 x),cB x 8,d,e,_,?_,h1,?_,h2,?_,p1,hd.symm,he.symm,rfl,p2,p3⟩
 ·rw[<-m1];rfl
 ·rw[<-m2];rfl
 ·rw[<-h3,<-m3];rfl
noncomputable def qtp(k1 k2 k4 k8 k16 k32 c85 c51 c15 k127:Int)(a0:AV)(hp:Hp):Option (AV×Hp):=aS a0 fun y0=>bC .shr 125 3 y0 (.int .u64 k1) fun y1=>bC .and 125 4 y1 (.int .u64 c85) fun y2=>bC .and 125 6 y0 (.int .u64 c85) fun y3=>bT .add 125 5 7 y2 y3 fun y4=>bC .shr 125 9 y4 (.int .u64 k2) fun y5=>bC .and 125 10 y5 (.int .u64 c51) fun y6=>bC .and 125 12 y4 (.int .u64 c51) fun y7=>bT .add 125 11 13 y6 y7 fun y8=>bC .shr 125 15 y8 (.int .u64 k4) fun y9=>bT .add 125 16 17 y9 y8 fun y10=>bC .and 125 18 y10 (.int .u64 c15) fun y11=>bC .shr 125 21 y11 (.int .u64 k8) fun y12=>bT .add 125 20 22 y11 y12 fun y13=>bC .shr 125 25 y13 (.int .u64 k16) fun y14=>bT .add 125 24 26 y13 y14 fun y15=>bC .shr 125 29 y15 (.int .u64 k32) fun y16=>bT .add 125 28 30 y15 y16 fun y17=>cV 125 3 y17 fun y18=>bC .and 3 33 y18 (.int .i64 k127) fun y19=>rQ (.sc y19) hp
theorem qyb(a0:AV)(hp:Hp):run cxX 234 [a0] hp=qtp (.ofNat 1) (.ofNat 2) (.ofNat 4) (.ofNat 8) (.ofNat 16) (.ofNat 32) (.ofNat 6148914691236517205) (.ofNat 3689348814741910323) (.ofNat 1085102592571150095) (.ofNat 127) a0 hp:=by
 delta qtp
 have h:=E234 a0 hp
 with_reducible exact h
theorem Zw(x:Nat)(hx:x<18446744073709551616)(hp:Hp):run cxX 234 [.sc (.int .u64 (x:Int))] hp=some (.sc (.int .i64 (ja x 64:Nat)),hp):=by
 obtain⟨y,z,q,d,e,r,h1,b1,h2,b2,h3,b3,h4,h5,h6,b6,h7⟩:=qs4 x hx
 have k64:∀n:Nat,n<=64->n<=IntKind.u64.bits:=fun n h=>h
 have s1:=fun t o o'=>xN .u64 x 1 (k64 1 qc) t o o' .u64
 have a1:=qag (x/2^1) 6148914691236517205 qc qc
 have a2:=qag x 6148914691236517205 hx qc
 have s2:=fun t o o'=>xN .u64 y 2 (k64 2 qc) t o o' .u64
 have a3:=qag (y/2^2) 3689348814741910323 qc qc
 have a4:=qag y 3689348814741910323 b1 qc
 have s3:=fun t o o'=>xN .u64 z 4 (k64 4 qc) t o o' .u64
 have a5:=qag (z/2^4+z) 1085102592571150095 qc qc
 have s4:=fun t o o'=>xN .u64 q 8 (k64 8 qc) t o o' .u64
 have s5:=fun t o o'=>xN .u64 d 16 (k64 16 qc) t o o' .u64
 have s6:=fun t o o'=>xN .u64 e 32 (k64 32 qc) t o o' .u64
 have a7:=qzw r b6
 rw[h7]at a7
 have d1:x/2^1=x/2:=qc
 have d2:y/2^2=y/4:=qc
 have d3:z/2^4=z/16:=qc
 have d4:q/2^8=q/256:=qc
 have d5:d/2^16=d/65536:=qc
 have d6:e/2^32=e/4294967296:=qc
 rw[d1]at s1 a1
 rw[d2]at s2 a3
 rw[d3]at s3 a5
 rw[d4]at s4
 rw[d5]at s5
 rw[d6]at s6
 rw[h3]at a5
 generalize(x/2&&&6148914691236517205)=u1 at*
 generalize(x&&&6148914691236517205)=u2 at*
 generalize(y/4&&&3689348814741910323)=u3 at*
 generalize(y&&&3689348814741910323)=u4 at*
 have w1:IntKind.u64.wrap ((u1:Int)+(u2:Int))=(y:Int):=by rw[qz]<;>omega
 have w2:IntKind.u64.wrap ((u3:Int)+(u4:Int))=(z:Int):=by rw[qz]<;>omega
 have w3:IntKind.u64.wrap (((z/16:Nat):Int)+(z:Int))=((z/16+z:Nat):Int):=by rw[qz]<;>omega
 have w4:IntKind.u64.wrap ((q:Int)+((q/256:Nat):Int))=(d:Int):=by rw[qz]<;>omega
 have w5:IntKind.u64.wrap ((d:Int)+((d/65536:Nat):Int))=(e:Int):=by rw[qz]<;>omega
 have w6:IntKind.u64.wrap ((e:Int)+((e/4294967296:Nat):Int))=(r:Int):=by rw[qz]<;>omega
 have w7:IntKind.i64.wrap (r:Int)=(r:Int):=qk qc qc
 have S1:∀t o o',qt Tryz.prog .shr t o o' (.int .u64 (x:Int)) (.int .u64 (Int.ofNat 1))=some (.int .u64 ((x/2:Nat):Int)):=s1
 have A1:∀t o o',qt Tryz.prog .and t o o' (.int .u64 ((x/2:Nat):Int)) (.int .u64 (Int.ofNat 6148914691236517205))=some (.int .u64 (u1:Int)):=a1
 have A2:∀t o o',qt Tryz.prog .and t o o' (.int .u64 (x:Int)) (.int .u64 (Int.ofNat 6148914691236517205))=some (.int .u64 (u2:Int)):=a2
 have S2:∀t o o',qt Tryz.prog .shr t o o' (.int .u64 (y:Int)) (.int .u64 (Int.ofNat 2))=some (.int .u64 ((y/4:Nat):Int)):=s2
 have A3:∀t o o',qt Tryz.prog .and t o o' (.int .u64 ((y/4:Nat):Int)) (.int .u64 (Int.ofNat 3689348814741910323))=some (.int .u64 (u3:Int)):=a3
 have A4:∀t o o',qt Tryz.prog .and t o o' (.int .u64 (y:Int)) (.int .u64 (Int.ofNat 3689348814741910323))=some (.int .u64 (u4:Int)):=a4
 have S3:∀t o o',qt Tryz.prog .shr t o o' (.int .u64 (z:Int)) (.int .u64 (Int.ofNat 4))=some (.int .u64 ((z/16:Nat):Int)):=s3
 have A5:∀t o o',qt Tryz.prog .and t o o' (.int .u64 ((z/16+z:Nat):Int)) (.int .u64 (Int.ofNat 1085102592571150095))=some (.int .u64 (q:Int)):=a5
 have S4:∀t o o',qt Tryz.prog .shr t o o' (.int .u64 (q:Int)) (.int .u64 (Int.ofNat 8))=some (.int .u64 ((q/256:Nat):Int)):=s4
 have S5:∀t o o',qt Tryz.prog .shr t o o' (.int .u64 (d:Int)) (.int .u64 (Int.ofNat 16))=some (.int .u64 ((d/65536:Nat):Int)):=s5
 have S6:∀t o o',qt Tryz.prog .shr t o o' (.int .u64 (e:Int)) (.int .u64 (Int.ofNat 32))=some (.int .u64 ((e/4294967296:Nat):Int)):=s6
 have A7:∀t o o',qt Tryz.prog .and t o o' (.int .i64 (r:Int)) (.int .i64 (Int.ofNat 127))=some (.int .i64 ((ja x 64:Nat):Int)):=a7
 rw[qyb]
 clear s1 s2 s3 s4 s5 s6 a1 a2 a3 a4 a5 a7 h1 h2 h3
 generalize Int.ofNat 6148914691236517205=c85 at*
 generalize Int.ofNat 3689348814741910323=c51 at*
 generalize Int.ofNat 1085102592571150095=c15 at*
 unfold qtp
 simp only[wV]
 rw[xy,zgh,S1,zgh,A1,zgh,A2,zgh,jC,w1,zgh,S2,zgh,A3,zgh,A4,zgh,jC,w2,zgh,S3,zgh,jC,w3,zgh,A5,zgh,S4,zgh,jC,w4,zgh,S5,zgh,jC,w5,zgh,S6,zgh,jC,w6,zgh,Jd,w7,zgh,A7,zgh]
def jD(m j:Nat):Nat:=m/2^(64*j)%18446744073709551616
theorem Ju(m j:Nat):jD m j<18446744073709551616:=zkd _ qg
theorem qwn(m i:Nat):(jD m (i/64)).testBit (i%64)=m.testBit i:=by
 unfold jD
 have e:(18446744073709551616:Nat)=2^64:=rfl
 rw[e,zht,zhs]
 have h:i%64<64:=zkd _ qg
 have e2:i%64+64*(i/64)=i:=qc
 simp only[h,decide_true,zjo]
 rw[e2]
abbrev Cc(c:Nat×Nat):List AV:=[.sc (.int .u32 (c.1:Int)),.sc (.int .u64 (jD c.2 0:Nat)),.sc (.int .u64 (jD c.2 1:Nat)),.sc (.int .u64 (jD c.2 2:Nat)),.sc (.int .u64 (jD c.2 3:Nat))]
theorem Ku(c:Nat×Nat)(j:Nat)(hj:j<4):qj (Cc c) (Nat.add 1 (Nat.add 0 j))=some (.int .u64 (jD c.2 j:Nat)):=by
 have:j=0\/j=1\/j=2\/j=3:=qc
 rcases this with e|e|e|e<;>subst e<;>rfl
theorem qvy:∀x:BitVec 8,(x&&&63#8).toNat=x.toNat%64:=qg
theorem zap(c:Nat)(hc:c<256)(t:TypeId)(x y:Operand):qt Tryz.prog .and t x y (.int .u8 (c:Int)) (.int .u8 63)=some (.int .u8 ((c%64:Nat):Int)):=by
 rw[qO]
 have e1:(BitVec.ofInt 8 (c:Int)).toNat=c:=by
  rw[zg8];omega
 have e2:(BitVec.ofInt IntKind.u8.bits (c:Int)&&&BitVec.ofInt IntKind.u8.bits 63).toNat=c%64:=by
  show(BitVec.ofInt 8 (c:Int)&&&63#8).toNat=_
  rw[qvy,e1]
 rw[e2,zJ qc qc]
theorem ZD(c:Nat×Nat)(i:Nat)(hi:i<256)(hp:Hp):run cxX 183 [.agg (Cc c),.sc (.int .u8 (i:Int))] hp=some (.sc (.bool (c.2.testBit i)),hp):=by
 have s1:∀t o o',qt Tryz.prog .shr t o o' (.int .u8 (i:Int)) (.int .u64 6)=some (.int .u8 ((i/64:Nat):Int)):=fun t o o'=>xN .u8 i 6 qg t o o' .u64
 have ix:idx 4 (.int .u8 ((i/64:Nat):Int))=some (i/64):=zd .u8 qc
 have g:=Ku c (i/64) qc
 have a:=zap i hi
 have s2:=fun t o o'=>xN .u64 (jD c.2 (i/64)) (i%64) (by show i%64<=64;omega) t o o' .u8
 have a2:=and1 (jD c.2 (i/64)/2^(i%64)) (zjc (zkh _ _) (Ju _ _))
 have tb:=qwn c.2 i
 rw[zj7]at tb
 rw[<-tb,E183]
 generalize jD c.2 (i/64)/2^(i%64)%2=q at*
 generalize((jD c.2 (i/64)/2^(i%64):Nat):Int)=q1 at*
 generalize((i%64:Nat):Int)=q2 at*
 generalize hq3:((i/64:Nat):Int)=q3 at*
 have cn:ql 5 (.agg (Cc c))=some (Cc c):=rfl
 have eqq:decide ((q:Int)=1)=decide (q=1):=by
  by_cases h:q=1
  ·simp[h]
  ·rw[decide_eq_false h,decide_eq_false qc]
 have mr:List.map ro1 (Cc c)=Cc c:=rfl
 have g':qj (Cc c) (1+i/64)=some (.int .u64 (jD c.2 (i/64):Nat)):=by have:=g;simpa using this
 simp only[wV,cn,mr,zgh,xy]
 simp[s1,ix,g',a,s2,a2,-qO]
 omega
theorem qta(m:Nat):ja m 256=ja (jD m 0) 64+ja (jD m 1) 64+ja (jD m 2) 64+ja (jD m 3) 64:=by
 have h:∀j,ja (jD m j) 64=ja (m/2^(64*j)) 64:=fun j=>qk9 _ 64 64 (zgm _)
 have a:=Qd m 192 64
 have b:=Qd m 128 64
 have c:=Qd m 64 64
 have e0:m/2^(64*0)=m:=qf
 rw[h,h,h,h,e0]
 have e1:192+64=256:=rfl
 have e2:128+64=192:=rfl
 have e3:64+64=128:=rfl
 rw[e1]at a
 rw[e2]at b
 rw[e3]at c
 rw[a,b,c]
theorem ixw(a b c d:Int):ixV Tryz.prog 219 (.agg #[.int .u64 a,.int .u64 b,.int .u64 c,.int .u64 d]) (.int .i64 0)=some (.int .u64 a)
 /\ixV Tryz.prog 219 (.agg #[.int .u64 a,.int .u64 b,.int .u64 c,.int .u64 d]) (.int .i64 1)=some (.int .u64 b)
 /\ixV Tryz.prog 219 (.agg #[.int .u64 a,.int .u64 b,.int .u64 c,.int .u64 d]) (.int .i64 2)=some (.int .u64 c)
 /\ixV Tryz.prog 219 (.agg #[.int .u64 a,.int .u64 b,.int .u64 c,.int .u64 d]) (.int .i64 3)=some (.int .u64 d):=⟨qe,qe,qe,qe⟩
theorem qd8(c:Nat×Nat)(hp:Hp):run cxX 182 [.agg (Cc c)] hp=some (.sc (.int .i64 (ja c.2 256:Nat)),hp):=by
 have o0:=Zw (jD c.2 0) (Ju _ _) hp0
 have o1:=Zw (jD c.2 1) (Ju _ _) hp0
 have o2:=Zw (jD c.2 2) (Ju _ _) hp0
 have o3:=Zw (jD c.2 3) (Ju _ _) hp0
 have l0:=vF (jD c.2 0) 64
 have l1:=vF (jD c.2 1) 64
 have l2:=vF (jD c.2 2) 64
 have l3:=vF (jD c.2 3) 64
 obtain⟨i0,i1,i2,i3⟩:=ixw (jD c.2 0:Nat) (jD c.2 1:Nat) (jD c.2 2:Nat) (jD c.2 3:Nat)
 rw[qta,E182]
 generalize ja (jD c.2 0) 64=n0 at*
 generalize ja (jD c.2 1) 64=n1 at*
 generalize ja (jD c.2 2) 64=n2 at*
 generalize ja (jD c.2 3) 64=n3 at*
 have w0:IntKind.i64.wrap (0+(n0:Int))=(n0:Int):=qi
 have w1:IntKind.i64.wrap ((n0:Int)+(n1:Int))=(n0:Int)+(n1:Int):=qi
 have w2:IntKind.i64.wrap ((n0:Int)+(n1:Int)+(n2:Int))=(n0:Int)+(n1:Int)+(n2:Int):=qi
 have w3:IntKind.i64.wrap ((n0:Int)+(n1:Int)+(n2:Int)+(n3:Int))=((n0+n1+n2+n3:Nat):Int):=qi
 have w00:IntKind.i64.wrap (n0:Int)=(n0:Int):=qi
 have cn:ql 5 (.agg (Cc c))=some (Cc c):=rfl
 have gn:qn (Cc c) 1 4=some [.sc (.int .u64 (jD c.2 0:Nat)),.sc (.int .u64 (jD c.2 1:Nat)),.sc (.int .u64 (jD c.2 2:Nat)),.sc (.int .u64 (jD c.2 3:Nat))]:=rfl
 have ca:∀a b c d:Int,ye (.agg [.sc (.int .u64 a),.sc (.int .u64 b),.sc (.int .u64 c),.sc (.int .u64 d)])=some (.agg #[.int .u64 a,.int .u64 b,.int .u64 c,.int .u64 d]):=fun _ _ _ _=>rfl
 generalize((n0+n1+n2+n3:Nat):Int)=N at*
 have b4:B182_3 (.int .i64 N) (.agg [.sc (.int .u64 (jD c.2 0:Nat)),.sc (.int .u64 (jD c.2 1:Nat)),.sc (.int .u64 (jD c.2 2:Nat)),.sc (.int .u64 (jD c.2 3:Nat))]) (.int .i64 4) hp=some (.sc (.int .i64 N),hp):=by
  rw[vp];simp
 generalize((jD c.2 0:Nat):Int)=x0 at*
 generalize((jD c.2 1:Nat):Int)=x1 at*
 generalize((jD c.2 2:Nat):Int)=x2 at*
 generalize((jD c.2 3:Nat):Int)=x3 at*
 have mr:List.map ro1 (Cc c)=Cc c:=rfl
 simp only[wV,cn,mr,gn,zgh]
 simp
 rw[vp]
 simp[ca,i0,o0,w00]
 rw[vp]
 simp[ca,i1,o1,w1]
 rw[vp]
 simp[ca,i2,o2,w2]
 rw[vp]
 simp[ca,i3,o3,w3,b4]
theorem qmr(c:Nat×Nat)(hp:Hp):∀(f i:Nat),i+f=256->B207_4 (.int .i64 (kA c.2 i:Nat)) (.bool (decide (0<i)&&c.2.testBit (i-1))) (.int .i64 (i:Int)) (Cc c) hp=some (.sc (.int .i64 (kA c.2 256:Nat)),hp):=by
 intro f
 induction f with
 |zero=>
  intro i h
  have e:i=256:=qc
  subst e
  rw[qa0]
  simp
 |succ f ih=>
  intro i h
  have hi:=ih (i+1) qc
  have hh:=ZD c i qc hp0
  have w1:IntKind.u8.wrap (i:Int)=(i:Int):=zJ qc qc
  have w2:IntKind.i64.wrap ((i:Int)+1)=((i+1:Nat):Int):=qi
  have gn:qn (Cc c) 0 5=some (Cc c):=rfl
  have hlt:(i:Int)<256:=qc
  have hr:=qce c.2 i
  have hr2:=vF c.2 i
  have e1:kA c.2 (i+1)=kA c.2 i+(c.2.testBit i&&!(decide (0<i)&&c.2.testBit (i-1))).toNat:=rfl
  have e2:(decide (0<i+1)&&c.2.testBit (i+1-1))=c.2.testBit i:=qf
  rw[e1,e2]at hi
  have b9:∀n:Int,B207_9 (.int .i64 n) (.bool (c.2.testBit i)) (.int .i64 (i:Int)) (Cc c) hp=B207_4 (.int .i64 n) (.bool (c.2.testBit i)) (.int .i64 ((i+1:Nat):Int)) (Cc c) hp:=by
   intro n
   rw[qps]
   generalize((i+1:Nat):Int)=I at*
   simp[w2]
  have w3:IntKind.i64.wrap ((kA c.2 i:Int)+1)=((kA c.2 i+1:Nat):Int):=qi
  have mr:List.map ro1 (Cc c)=Cc c:=rfl
  rw[qa0]
  generalize kA c.2 i=R at*
  generalize(decide (0<i)&&c.2.testBit (i-1))=was at*
  generalize hI:((i+1:Nat):Int)=I at*
  cases hb:c.2.testBit i
  ·rw[hb]at hi hh b9
   have hi':B207_4 (.int .i64 (R:Nat)) (.bool false) (.int .i64 I) (Cc c) hp=some (.sc (.int .i64 (kA c.2 256:Nat)),hp):=hi
   simp[hlt,gn,mr,jg,w1,hh,b9,hi']
  ·rw[hb]at hi hh b9
   cases was
   ·have hi':B207_4 (.int .i64 ((R+1:Nat):Int)) (.bool true) (.int .i64 I) (Cc c) hp=some (.sc (.int .i64 (kA c.2 256:Nat)),hp):=hi
    generalize((R+1:Nat):Int)=R1 at*
    simp[hlt,gn,mr,jg,w1,hh,qpt,w3,b9,hi']
   ·have hi':B207_4 (.int .i64 (R:Nat)) (.bool true) (.int .i64 I) (Cc c) hp=some (.sc (.int .i64 (kA c.2 256:Nat)),hp):=hi
    simp[hlt,gn,mr,jg,w1,hh,b9,hi']
theorem qd4(c:Nat×Nat)(hp:Hp):run cxX 207 [.agg (Cc c)] hp=some (.sc (.int .i64 (kA c.2 256:Nat)),hp):=by
 have h:=qmr c hp 256 0 rfl
 have e:(decide (0<0)&&c.2.testBit (0-1))=false:=rfl
 rw[e]at h
 have e2:kA c.2 0=0:=rfl
 rw[e2]at h
 rw[E207]
 have cn:ql 5 (.agg (Cc c))=some (Cc c):=rfl
 have mr:List.map ro1 (Cc c)=Cc c:=rfl
 simp only[wV,cn,mr,zgh]
 exact h
theorem qsn(c:Nat×Nat)(hp:Hp):run cxX 206 [.agg (Cc c)] hp=some (.sc (.int .u8 (kind c.2:Nat)),hp):=by
 have m:=qd8 c hp0
 have r:=qd4 c hp0
 have h1:=vF c.2 256
 have h2:=qce c.2 256
 have cn:ql 5 (.agg (Cc c))=some (Cc c):=rfl
 have gn:qn (Cc c) 0 5=some (Cc c):=rfl
 have mr:List.map ro1 (Cc c)=Cc c:=rfl
 rw[E206]
 unfold kind
 generalize ja c.2 256=n at*
 generalize kA c.2 256=k at*
 obtain⟨A,hA⟩:∃A:Int,A=(n:Int)+1:=⟨_,rfl⟩
 obtain⟨T,hT⟩:∃T:Int,T=2*(k:Int):=⟨_,rfl⟩
 obtain⟨B,hB⟩:∃B:Int,B=2*(k:Int)+1:=⟨_,rfl⟩
 have w1:IntKind.i64.wrap ((n:Int)+1)=A:=qi
 have w2:IntKind.i64.wrap (2*(k:Int))=T:=qi
 have w3:IntKind.i64.wrap (T+1)=B:=qi
 have b3:B206_3 hp=some (.sc (.int .u8 0),hp):=by rw[qpv];simp
 have b4:B206_4 (.int .i64 B) hp=some (.sc (.int .u8 ((if 32<=2*k+1 then 1 else 2:Nat):Int)),hp):=by
  rw[qpu]
  by_cases h:32<=2*k+1
  ·have h':(32:Int)<=B:=qc
   rw[if_pos h]
   simp[h']
  ·have h':¬((32:Int)<=B):=qc
   rw[if_neg h]
   simp[h']
 by_cases d1:n+1<=32
 ·have c1:A<=32:=qc
  by_cases d2:n+1<=2*k+1
  ·have c2:A<=B:=qc
   rw[if_pos ⟨d1,d2⟩]
   simp[mr,gn,m,w1,r,w2,w3,c1,c2,b3]
  ·have c2:¬(A<=B):=qc
   rw[if_neg (fun h=>d2 h.2)]
   simp[mr,gn,m,w1,r,w2,w3,c1,c2]
   simp at b4
   exact b4
 ·have c1:¬(A<=32):=qc
  rw[if_neg (fun h=>d1 h.1)]
  simp[mr,gn,m,w1,r,w2,w3,c1]
  simp at b4
  exact b4
theorem qvf(c:Nat×Nat)(w:Nat):∀(f i:Nat) (Z:List Int) (hp:Hp),i+f=256->Z.length+f<=1000000->hp.rd w 0=some (Wc Z)->
 B140_17 (.ptr w 0 0) (.int .i64 (i:Int)) (Cc c) hp=some (.tup [],hp.put w 0 (Wc (Z++wm c.2 f i))):=by
 intro f
 induction f with
 |zero=>
  intro i Z hp h hZ hw
  have e:i=256:=qc
  subst e
  rw[Vp]
  simp[wm,zR hw]
 |succ f ih=>
  intro i Z hp h hZ hw
  have hh:=ZD c i qc hp0
  have w1:IntKind.u8.wrap (i:Int)=(i:Int):=zJ qc qc
  have w2:IntKind.i64.wrap ((i:Int)+1)=((i+1:Nat):Int):=qi
  have gn:qn (Cc c) 0 5=some (Cc c):=rfl
  have hlt:(i:Int)<256:=qc
  have b21:∀hp',B140_21 (.ptr w 0 0) (.int .i64 (i:Int)) (Cc c) hp'=B140_17 (.ptr w 0 0) (.int .i64 ((i+1:Nat):Int)) (Cc c) hp':=by
   intro hp'
   rw[qkk]
   generalize((i+1:Nat):Int)=I at*
   simp[w2]
  have mr:List.map ro1 (Cc c)=Cc c:=rfl
  rw[Vp]
  unfold wm
  cases hb:c.2.testBit i
  ·rw[hb]at hh
   have hi:=ih (i+1) Z hp qc qc hw
   rw[<-b21]at hi
   simp[hlt,gn,mr,jg,w1,hh,hi]
  ·rw[hb]at hh
   have wb:=zk w Z (i:Int) qc hp hw
   have hi:=ih (i+1) (Z++[(i:Int)]) (hp.put w 0 (Wc (Z++[(i:Int)]))) qc qh (qr _ _ _)
   rw[qx,zgw,<-b21]at hi
   have e1:[(i:Int)]++wm c.2 f (i+1)=(i:Int)::wm c.2 f (i+1):=rfl
   rw[e1]at hi
   generalize wm c.2 f (i+1)=AA at*
   simp[hlt,gn,mr,hh,jg,w1,wb]
   exact hi
theorem qq5(m i:Nat):(jD m (i/8)/2^(8*(i%8)))%256=m/2^(8*i)%256:=by
 apply zif
 intro j
 have e:(256:Nat)=2^8:=rfl
 have e2:(18446744073709551616:Nat)=2^64:=rfl
 unfold jD
 rw[e,e2,zht,zht,zhs,zhs,zht,zhs]
 by_cases hj:j<8
 ·have h1:j+8*(i%8)<64:=qc
  have h2:j+8*(i%8)+64*(i/8)=j+8*i:=qc
  simp only[hj,h1,decide_true,zjo]
  rw[h2]
 ·simp[hj]
theorem qve(c:Nat×Nat)(w:Nat):∀(f i:Nat) (Z:List Int) (hp:Hp),i+f=32->Z.length+f<=1000000->hp.rd w 0=some (Wc Z)->
 B140_24 (.ptr w 0 0) (.int .i64 (i:Int)) (Cc c) hp=some (.tup [],hp.put w 0 (Wc (Z++qc9 c.2 f i))):=by
 intro f
 induction f with
 |zero=>
  intro i Z hp h hZ hw
  have e:i=32:=qc
  subst e
  rw[Vo]
  simp[qc9,zR hw]
 |succ f ih=>
  intro i Z hp h hZ hw
  have q:=quo8 i qc
  have r:=qxn i
  have ix:idx 4 (.int .i64 ((i/8:Nat):Int))=some (i/8):=zd .i64 qc
  have g:=Ku c (i/8) qc
  have w1:IntKind.i64.wrap (8*((i%8:Nat):Int))=((8*(i%8):Nat):Int):=qi
  have s:=fun t o o'=>xN .u64 (jD c.2 (i/8)) (8*(i%8)) (by show 8*(i%8)<=64;omega) t o o' .i64
  have w2:IntKind.i64.wrap ((i:Int)+1)=((i+1:Nat):Int):=qi
  have hlt:(i:Int)<32:=qc
  have wdb:=qq5 c.2 i
  have w3:IntKind.u8.wrap ((jD c.2 (i/8)/2^(8*(i%8)):Nat):Int)=((c.2/2^(8*i)%256:Nat):Int):=by
   rw[xJ,<-wdb]
   omega
  have wb:=zk w Z ((c.2/2^(8*i)%256:Nat):Int) qc hp hw
  have hi:=ih (i+1) (Z++[((c.2/2^(8*i)%256:Nat):Int)]) (hp.put w 0 (Wc (Z++[((c.2/2^(8*i)%256:Nat):Int)]))) qc qh (qr _ _ _)
  rw[qx,zgw]at hi
  have e:qc9 c.2 (f+1) i=[((c.2/2^(8*i)%256:Nat):Int)]++qc9 c.2 f (i+1):=rfl
  rw[e,<-hi,Vo]
  generalize((c.2/2^(8*i)%256:Nat):Int)=y at*
  generalize((jD c.2 (i/8)/2^(8*(i%8)):Nat):Int)=x at*
  generalize((jD c.2 (i/8):Nat):Int)=x0 at*
  generalize((8*(i%8):Nat):Int)=x1 at*
  generalize((i%8:Nat):Int)=x2 at*
  generalize((i/8:Nat):Int)=x3 at*
  generalize((i+1:Nat):Int)=x4 at*
  have g':qj (Cc c) (1+i/8)=some (.int .u64 x0):=by have:=g;simpa using this
  simp[hlt,q,ix,g',r,w1,s,wU,w3,wb,w2]
theorem qvd(c:Nat×Nat)(w:Nat)(i0:Nat):∀(f i:Nat) (hp:Hp),i+f=255->B140_11 (.ptr w 0 0) (.int .i64 (i:Int)) (.int .i64 (i0:Int)) (Cc c) hp=
 B140_13 (.ptr w 0 0) (.int .i64 (kz c.2 f i:Nat)) (.int .i64 (i0:Int)) (Cc c) hp:=by
 intro f
 induction f with
 |zero=>
  intro i hp h
  have e:i=255:=qc
  subst e
  rw[Vq]
  simp[kz]
 |succ f ih=>
  intro i hp h
  have hh:=ZD c (i+1) qc hp0
  have w1:IntKind.u8.wrap ((i+1:Nat):Int)=((i+1:Nat):Int):=zJ qc qc
  have w2:IntKind.i64.wrap ((i:Int)+1)=((i+1:Nat):Int):=qi
  have gn:qn (Cc c) 0 5=some (Cc c):=rfl
  have hlt:(i:Int)<255:=qc
  have hi:=ih (i+1) hp qc
  rw[Vq]
  unfold kz
  have mr:List.map ro1 (Cc c)=Cc c:=rfl
  generalize((i+1:Nat):Int)=I at*
  cases hb:c.2.testBit (i+1)
  ·rw[hb]at hh
   simp[hlt,gn,mr,w2,jg,w1,hh]
  ·rw[hb]at hh
   simp[hlt,gn,mr,w2,jg,w1,hh,qkm,hi]
theorem qos(c:Nat×Nat)(w:Nat):∀(f i:Nat) (Z:List Int) (hp:Hp),256<=i+f->i<=256->Z.length+2*f<=1000000->hp.rd w 0=some (Wc Z)->
 B140_7 (.ptr w 0 0) (.int .i64 (i:Int)) (Cc c) hp=some (.tup [],hp.put w 0 (Wc (Z++rnF c.2 f i))):=by
 intro f
 induction f with
 |zero=>
  intro i Z hp h hi256 hZ hw
  have e:i=256:=qc
  subst e
  rw[Yi]
  simp[rnF,zR hw]
 |succ f ih=>
  intro i Z hp h hi256 hZ hw
  unfold rnF
  by_cases h1:256<=i
  ·have hlt:¬((i:Int)<256):=qc
   rw[if_pos h1,Yi]
   simp[hlt,zR hw]
  ·have hlt:(i:Int)<256:=qc
   have hh:=ZD c i qc hp0
   have w1:IntKind.u8.wrap (i:Int)=(i:Int):=zJ qc qc
   have gn:qn (Cc c) 0 5=some (Cc c):=rfl
   have b8:∀(j:Nat) hp',j<=255->B140_8 (.ptr w 0 0) (.int .i64 (j:Int)) (Cc c) hp'=B140_7 (.ptr w 0 0) (.int .i64 ((j+1:Nat):Int)) (Cc c) hp':=by
    intro j hp' hj
    have w2:IntKind.i64.wrap ((j:Int)+1)=((j+1:Nat):Int):=qi
    rw[qqj]
    generalize((j+1:Nat):Int)=I at*
    simp[w2]
   have mr:List.map ro1 (Cc c)=Cc c:=rfl
   rw[if_neg h1,Yi]
   cases hb:c.2.testBit i
   ·rw[hb]at hh
    have hi:=ih (i+1) Z hp qc qc qc hw
    have b8':=b8 i hp qc
    rw[<-b8']at hi
    simp[hlt,gn,mr,jg,w1,hh]
    exact hi
   ·rw[hb]at hh
    have ce:=qvd c w i (255-i) i hp qc
    obtain⟨r1,r2,r3,r4⟩:=YX c.2 (255-i) i
    have b8':=fun hp'=>b8 (kz c.2 (255-i) i) hp' qc
    generalize kz c.2 (255-i) i=e at*
    have w3:IntKind.i64.wrap ((e:Int)-(i:Int))=((e-i:Nat):Int):=qi
    have w4:IntKind.u8.wrap ((e-i:Nat):Int)=((e-i:Nat):Int):=zJ qc qc
    have wp:=zX w Z [(i:Int),((e-i:Nat):Int)] 0 qh hp hw
    have hi:=ih (e+1) (Z++[(i:Int),((e-i:Nat):Int)]) (hp.put w 0 (Wc (Z++[(i:Int),((e-i:Nat):Int)]))) qc qc qh (qr _ _ _)
    rw[qx,zgw]at hi
    have b13:B140_13 (.ptr w 0 0) (.int .i64 (e:Int)) (.int .i64 (i:Int)) (Cc c) hp=some (.tup [],hp.put w 0 (Wc (Z++([(i:Int),((e-i:Nat):Int)]++rnF c.2 f (e+1))))):=by
     rw[qkl,<-hi,<-b8']
     generalize((e-i:Nat):Int)=d at*
     have eS:S 0 1 (LI .u8 [(i:Int),d])=AV.sl 1 [.sc (.int .u8 (i:Int)),.sc (.int .u8 d)]:=rfl
     rw[eS]at wp
     simp[jg,w1,w3,w4,kC]
     simp at wp
     simp[wp]
    simp[hlt,gn,mr,jg,w1,hh,ce]
    simpa using b13
theorem qcv(m:Nat):kind m<=2:=by
 unfold kind
 split
 ·omega
 ·split<;>omega
theorem qsj(c:Nat×Nat)(w:Nat)(hc:okC c)(Z:List Int)(hZ:Z.length<=900000)(hp:Hp)(hw:hp.rd w 0=some (Wc Z)):
 run cxX 140 [.agg (Cc c),.ptr w 0 0] hp=some (.tup [],hp.put w 0 (Wc (Z++qc6 c))):=by
 have cn:ql 5 (.agg (Cc c))=some (Cc c):=rfl
 have gn:qn (Cc c) 0 5=some (Cc c):=rfl
 have gs:qj (Cc c) 0=some (.int .u32 (c.1:Int)):=rfl
 have mr:List.map ro1 (Cc c)=Cc c:=rfl
 have bk:=qsn c hp0
 have bm:=qd8 c hp0
 have br:=qd4 c hp0
 have h16:=hc.1
 have w1:IntKind.u64.wrap (c.1:Int)=(c.1:Int):=qz qc qc
 have hu:=qy (n:=c.1) qc
 have u1:=qY w c.1 Z qc qc hp hw
 have u2:=zk w (Z++uv c.1) ((kind c.2:Nat):Int) qh (hp.put w 0 (Wc (Z++uv c.1))) (qr _ _ _)
 rw[qx]at u2
 have c1:=vF c.2 256
 have c2:=qce c.2 256
 have c3:=qxs hc.2.2
 have c4:=hc.2.2
 have hZ2:(Z++uv c.1++[((kind c.2:Nat):Int)]).length<=900011:=qh
 have eY:Z++qc6 c=Z++uv c.1++[((kind c.2:Nat):Int)]++qvm c.2:=by unfold qc6;simp
 rw[eY,E140]
 generalize hZ3:Z++uv c.1++[((kind c.2:Nat):Int)]=Z3 at*
 simp only[wV,cn,zgh]
 have k3:=qcv c.2
 unfold qvm
 by_cases k0:kind c.2=0
 ·rw[k0]at u2 bk
  rw[if_pos k0]
  have w2:IntKind.i64.wrap ((ja c.2 256:Nat)-1:Int)=((ja c.2 256-1:Nat):Int):=qi
  have w3:IntKind.u8.wrap ((ja c.2 256-1:Nat):Int)=((ja c.2 256-1:Nat):Int):=zJ qc qc
  have u3:=zk w Z3 ((ja c.2 256-1:Nat):Int) qc (hp.put w 0 (Wc Z3)) (qr _ _ _)
  rw[qx]at u3
  have a:=qvf c w 256 0 (Z3++[((ja c.2 256-1:Nat):Int)]) (hp.put w 0 (Wc (Z3++[((ja c.2 256-1:Nat):Int)]))) rfl qh (qr _ _ _)
  rw[qx,zgw]at a
  have e:[((ja c.2 256-1:Nat):Int)]++wm c.2 256 0=((ja c.2 256-1:Nat):Int)::wm c.2 256 0:=rfl
  rw[e]at a
  generalize((ja c.2 256-1:Nat):Int)=n1 at*
  generalize wm c.2 256 0=A at*
  simp at u2 a bk
  simp[mr,gn,gs,bk,zp,w1,u1,u2,bm,w2,w3,jg,u3]
  exact a
 ·by_cases k1:kind c.2=1
  ·rw[k1]at u2 bk
   rw[if_neg k0,if_pos k1]
   have a:=qve c w 32 0 Z3 (hp.put w 0 (Wc Z3)) rfl qc (qr _ _ _)
   rw[qx]at a
   simp at u2 a bk
   simp[mr,gn,gs,bk,zp,w1,u1,u2]
   exact a
  ·have k2:kind c.2=2:=qc
   rw[k2]at u2 bk
   rw[if_neg k0,if_neg k1]
   have w2:IntKind.i64.wrap ((kA c.2 256:Nat)-1:Int)=((kA c.2 256-1:Nat):Int):=qi
   have w3:IntKind.u8.wrap ((kA c.2 256-1:Nat):Int)=((kA c.2 256-1:Nat):Int):=zJ qc qc
   have u3:=zk w Z3 ((kA c.2 256-1:Nat):Int) qc (hp.put w 0 (Wc Z3)) (qr _ _ _)
   rw[qx]at u3
   have a:=qos c w 256 0 (Z3++[((kA c.2 256-1:Nat):Int)]) (hp.put w 0 (Wc (Z3++[((kA c.2 256-1:Nat):Int)]))) qc qc qh (qr _ _ _)
   rw[qx,zgw]at a
   have e:[((kA c.2 256-1:Nat):Int)]++rnF c.2 256 0=((kA c.2 256-1:Nat):Int)::rnF c.2 256 0:=rfl
   rw[e]at a
   generalize((kA c.2 256-1:Nat):Int)=n1 at*
   generalize rnF c.2 256 0=A at*
   simp at u2 a bk
   simp[mr,gn,gs,bk,zp,w1,u1,u2,br,w2,w3,jg,u3]
   exact a
def csL(cs:List (Nat×Nat)):List AV:=cs.flatMap Cc
@[simp] theorem yx (cs : List (Nat × Nat)) : (csL cs).length = 5 * cs.length := by
 induction cs with
 |nil=>rfl
 |cons c r ih=>
  have e:csL (c::r)=Cc c++csL r:=rfl
  rw[e,zgi,ih,zgk]
  show 5+5*r.length=5*(r.length+1)
  omega
theorem Xn(a b:List (Nat×Nat)):csL (a++b)=csL a++csL b:=by simp[csL]
theorem ql5{cs:List (Nat×Nat)}(h:csL cs=[]):cs=[]:=by
 have h1:=congrArg List.length h
 rw[yx]at h1
 exact zhk.mp (by have:([]:List AV).length=0:=rfl;omega)
theorem qzj:∀(cs:List (Nat×Nat)) (i:Nat) (c:Nat×Nat),cs[i]?=some c->((csL cs).drop (i*5)).take 5=Cc c:=by
 intro cs
 induction cs with
 |nil=>intro i c h;cases h
 |cons d r ih=>
  intro i c h
  have e:csL (d::r)=Cc d++csL r:=rfl
  cases i with
  |zero=>
   have:d=c:=by simpa using h
   subst this
   rfl
  |succ i=>
   have h2:=ih i c (by simpa using h)
   have e2:(i+1)*5=5+i*5:=qc
   have l5:(Cc d).length=5:=rfl
   rw[e,e2,<-h2,List.drop_append,l5,zhi (by rw[l5];omega),zg2]
   congr 2
   omega
theorem qvb(cs:List (Nat×Nat)):(csL cs).map ro1=csL cs:=by
 induction cs with
 |nil=>rfl
 |cons c r ih=>
  have e:csL (c::r)=Cc c++csL r:=rfl
  rw[e,zin,ih]
  rfl
theorem zcz(cs:List (Nat×Nat)):(csL cs).all vl=true:=by
 induction cs with
 |nil=>rfl
 |cons c r ih=>
  have e:csL (c::r)=Cc c++csL r:=rfl
  rw[e,List.all_append,ih]
  rfl
theorem zb4(k:Nat)(cs:List (Nat×Nat)):zA (S k 5 (csL cs))=some cs.length:=by
 rcases zi k 5 (csL cs)with e|e|⟨e,e'⟩
 ·rw[e];show some ((csL cs).length/5)=_;rw[yx];congr 1;omega
 ·rw[e];show some ((csL cs).length/5)=_;rw[yx];congr 1;omega
 ·rw[e,ql5 e'];rfl
theorem zb8(k:Nat)(cs:List (Nat×Nat))(i:Nat)(c:Nat×Nat)(h:cs[i]?=some c):jc 5 (S k 5 (csL cs)) (.int .i64 (i:Int))=some (Cc c):=by
 have hi:=(zgq.mp h).1
 have key:(idx ((csL cs).length/5) (.int .i64 (i:Int))).bind (fun i=>qn (csL cs) (i*5) 5)=some (Cc c):=by
  have e:(csL cs).length/5=cs.length:=by rw[yx];omega
  rw[e,zd .i64 hi,zgh]
  unfold qn
  rw[if_pos (by rw[yx];omega),qzj cs i c h]
 rcases zi k 5 (csL cs)with e|e|⟨e,e'⟩
 ·rw[e];exact key
 ·rw[e];exact key
 ·rw[ql5 e']at h;cases h
theorem KH{c:Nat×Nat}(hc:okC c):(qc6 c).length<=60:=by
 have h1:=qy (n:=c.1) (by have:=hc.1;omega)
 unfold qc6 qvm
 have a:=qo5 c.2
 have b:=qej c.2
 have k3:=qcv c.2
 rw[zgi,zgk]
 by_cases k0:kind c.2=0
 ·rw[if_pos k0,zgk,a]
  unfold kind at k0
  split at k0
  ·rename_i h;omega
  ·split at k0<;>omega
 ·rw[if_neg k0]
  by_cases k1:kind c.2=1
  ·rw[if_pos k1,qvn];omega
  ·rw[if_neg k1,zgk,b]
   unfold kind at k0 k1
   split at k0
   ·omega
   ·rename_i h
    rw[if_neg h]at k1
    split at k1
    ·omega
    ·omega
theorem qmk(cs:List (Nat×Nat))(k w:Nat)(hcs:∀c∈cs,okC c)(hl:cs.length<=4096):∀(r:List (Nat×Nat)) (i:Nat) (Z:List Int) (hp:Hp),cs.drop i=r->Z.length+60*r.length<=900000->hp.rd w 0=some (Wc Z)->
 B69_2 (.ptr w 0 0) (S k 5 (csL cs)) (.int .i64 (cs.length:Int)) (.int .i64 (i:Int)) hp=some (.tup [],hp.put w 0 (Wc (Z++XN r))):=by
 intro r
 induction r with
 |nil=>
  intro i Z hp h hZ hw
  have h1:=qA h
  have hlt:¬((i:Int)<(cs.length:Int)):=qc
  rw[qg6]
  simp[hlt,XN,zR hw]
 |cons c r ih=>
  intro i Z hp h hZ hw
  obtain⟨e1,e2,hi,e3⟩:=qu h
  simp only[zgk]at hZ
  have hlt:(i:Int)<(cs.length:Int):=qc
  have ix:=zb8 k cs i c e1
  have hc:okC c:=hcs c (by rw[<-e3];exact zhx _)
  have cp:=qsj c w hc Z qc hp hw
  have hcl:=KH hc
  have w2:IntKind.i64.wrap ((i:Int)+1)=((i+1:Nat):Int):=qi
  have hn:=ih (i+1) (Z++qc6 c) (hp.put w 0 (Wc (Z++qc6 c))) e2 qh (qr _ _ _)
  rw[qx,zgw]at hn
  have gn:qn (Cc c) 0 5=some (Cc c):=rfl
  have cn:ql 5 (.agg (Cc c))=some (Cc c):=rfl
  have mr:List.map ro1 (Cc c)=Cc c:=rfl
  have pn:∀a b c' d e:Value,qm [.sc a,.sc b,.sc c',.sc d,.sc e] 0 (Cc c)=some (Cc c):=fun _ _ _ _ _=>rfl
  have e:XN (c::r)=qc6 c++XN r:=rfl
  rw[e,<-hn,qg6]
  generalize((i+1:Nat):Int)=I at*
  simp only[wV,Ji,hlt,decide_true,jr,zgh,cond_true,ix,gn,cn,pn,mr]
  have r0:ro (AV.ptr w 0 0)=AV.ptr w 0 0:=rfl
  have ra:ro (.agg (Cc c))= .agg (Cc c):=rfl
  simp only[wV,mr,cn,pn,gn,zgh,r0,ra,cp]
  simp[w2]
theorem qrx(cs:List (Nat×Nat))(k w:Nat)(hcs:∀c∈cs,okC c)(hl:cs.length<=4096)(Z:List Int)(hZ:Z.length<=100000)(hp:Hp)(hw:hp.rd w 0=some (Wc Z)):
 run cxX 69 [S k 5 (csL cs),.ptr w 0 0] hp=some (.tup [],hp.put w 0 (Wc (Z++YJ cs))):=by
 have hu:=qy (n:=cs.length) qc
 have u1:=qY w cs.length Z qc qc hp hw
 have a:=qmk cs (rk k) w hcs hl cs 0 (Z++uv cs.length) (hp.put w 0 (Wc (Z++uv cs.length))) rfl qh (qr _ _ _)
 rw[qx,zgw]at a
 have w1:IntKind.u64.wrap (cs.length:Int)=(cs.length:Int):=qz qc qc
 rw[E69]
 have l5:=fun k=>zb4 k cs
 simp at a
 simp[l5,jB,w1,u1,a,YJ]
def xL(x:Nat):List (Nat×Nat)->List (Nat×Nat)
 |[]=>[(x/256,2^(x%256))]
 |[c]=>if c.1=x/256 then [(c.1,c.2|||2^(x%256))]else [c,(x/256,2^(x%256))]
 |c::d::r=>c::xL x (d::r)
theorem qs0(x y:Nat):∀cs,QN y (xL x cs)=xL x (QN y cs):=by
 intro cs
 match cs with
 |[]=>
  show QN y [(x/256,2^(x%256))]=xL x [(y/256,2^(y%256))]
  rw[ya]
  show _=if y/256=x/256 then _ else _
  by_cases h:x/256=y/256
  ·rw[if_pos h,if_pos h.symm,h,zkl]
  ·rw[if_neg h,if_neg (fun e=>h e.symm)]
 |[c]=>
  show QN y (if c.1=x/256 then [(c.1,c.2|||2^(x%256))]else [c,(x/256,2^(x%256))])=xL x (QN y [c])
  rw[ya]
  by_cases h1:c.1=x/256
  ·rw[if_pos h1,ya]
   by_cases h2:c.1=y/256
   ·rw[if_pos h2,if_pos h2]
    show _=if c.1=x/256 then _ else _
    rw[if_pos h1]
    show [(c.1,c.2|||2^(x%256)|||2^(y%256))]=[(c.1,c.2|||2^(y%256)|||2^(x%256))]
    rw[Nat.or_assoc,zkl (2^(x%256)),<-Nat.or_assoc]
   ·rw[if_neg h2,if_neg h2]
    show _=_::(if c.1=x/256 then _ else _)
    rw[if_pos h1]
  ·rw[if_neg h1,ya]
   by_cases h2:c.1=y/256
   ·rw[if_pos h2,if_pos h2]
    show _=if c.1=x/256 then _ else _
    rw[if_neg h1]
   ·rw[if_neg h2,if_neg h2]
    show _=_::(if c.1=x/256 then _ else _)
    rw[if_neg h1]
 |c::d::r=>
  show QN y (c::xL x (d::r))=xL x (QN y (c::d::r))
  rw[ya,ya]
  split
  ·rfl
  ·rfl
theorem qvj(x:Nat):∀l,kQ (l++[x])=xL x (kQ l):=by
 intro l
 induction l with
 |nil=>rfl
 |cons y r ih=>
  show QN y (kQ (r++[x]))=xL x (QN y (kQ r))
  rw[ih,qs0]
theorem qro(x:Nat)(c:Nat×Nat):∀ds,xL x (ds++[c])=ds++(if c.1=x/256 then [(c.1,c.2|||2^(x%256))]else [c,(x/256,2^(x%256))]):=by
 intro ds
 induction ds with
 |nil=>rfl
 |cons d r ih=>
  cases r with
  |nil=>
   show d::xL x [c]=_
   rfl
  |cons e s=>
   show d::xL x (e::s++[c])=_
   rw[ih]
   rfl
theorem WP(A L:List AV)(i:Nat):qj (A++L) (A.length+i)=qj L i:=by
 unfold qj
 rw[zgv qc]
 congr 2
 omega
theorem qs3(A L M:List AV)(i:Nat)(vs:List AV)(h:qm L i vs=some M):qm (A++L) (A.length+i) vs=some (A++M):=by
 unfold qm at h⊢
 split at h
 ·rename_i hi
  rw[if_pos (by rw[zgi];omega)]
  have e:L.take i++vs++L.drop (i+vs.length)=M:=zgy h
  rw[<-e,List.take_append,zg4 qc,List.drop_append,zhi qc,zg2]
  have e1:A.length+i-A.length=i:=qc
  have e2:A.length+i+vs.length-A.length=i+vs.length:=qc
  rw[e1,e2]
  simp
 ·cases h
theorem zau(m i j:Nat)(hi:i<256):jD (m|||2^i) j=if j=i/64 then jD m j|||2^(i%64)else jD m j:=by
 apply zif
 intro k
 have e2:(18446744073709551616:Nat)=2^64:=rfl
 by_cases hj:j=i/64
 ·rw[if_pos hj]
  unfold jD
  rw[e2,zi2,zht,zht,zhs,zhs,zi2,yR,yR]
  by_cases hk:k<64
  ·have e:(i=k+64*j)↔(i%64=k):=qc
   simp only[hk,decide_true,zjo]
   congr 1
   exact decide_eq_decide.mpr e
  ·have:¬(i%64=k):=qc
   simp[hk,this]
 ·rw[if_neg hj]
  unfold jD
  rw[e2,zht,zht,zhs,zhs,zi2,yR]
  by_cases hk:k<64
  ·have:¬(i=k+64*j):=qc
   simp[this]
  ·simp[hk]
theorem or64(x c:Nat)(hx:x<18446744073709551616)(hc:c<18446744073709551616)(t:TypeId)(o o':Operand):qt Tryz.prog .or t o o' (.int .u64 (x:Int)) (.int .u64 (c:Int))=some (.int .u64 ((x|||c:Nat):Int)):=by
 rw[jk]
 have hl:x|||c<2^64:=zks hx hc
 have e:(BitVec.ofInt IntKind.u64.bits (x:Int)|||BitVec.ofInt IntKind.u64.bits (c:Int)).toNat=x|||c:=by
  show(BitVec.ofInt 64 (x:Int)|||BitVec.ofInt 64 (c:Int)).toNat=_
  rw[zh3,zh3,zkg,zix,zix]
  rw[zhq qc,zhq qc]
 rw[e,qz qc qc]
theorem shl1(k:Nat)(hk:k<64)(t:TypeId)(o o':Operand):qt Tryz.prog .shl t o o' (.int .u64 1) (.int .u8 (k:Int))=some (.int .u64 ((2^k:Nat):Int)):=by
 have hp:(2:Nat)^k<2^64:=zjl qg hk
 have e64:(2:Nat)^64=18446744073709551616:=rfl
 rw[jq _ _ _ _ _ _ _ _ qc,zgu,zio (show k<=IntKind.u64.bits from Nat.le_of_lt hk),Int.one_mul]
 have e:(2:Int)^k=((2^k:Nat):Int):=qf
 rw[e]
 generalize 2^k=z at*
 rw[qz qc qc]
theorem qxv(c:Nat×Nat)(i:Nat)(hi:i<256):qm (Cc c) (1+i/64) [.sc (.int .u64 (jD c.2 (i/64)|||2^(i%64):Nat))]=some (Cc (c.1,c.2|||2^i)):=by
 have h:i/64=0\/i/64=1\/i/64=2\/i/64=3:=qc
 have w:=fun j=>zau c.2 i j hi
 have e:Cc (c.1,c.2|||2^i)=[.sc (.int .u32 (c.1:Int)),.sc (.int .u64 (jD (c.2|||2^i) 0:Nat)),.sc (.int .u64 (jD (c.2|||2^i) 1:Nat)),.sc (.int .u64 (jD (c.2|||2^i) 2:Nat)),.sc (.int .u64 (jD (c.2|||2^i) 3:Nat))]:=rfl
 rw[e,w 0,w 1,w 2,w 3]
 rcases h with h|h|h|h<;>rw[h]<;>rfl
theorem qnb(ds:List (Nat×Nat))(c:Nat×Nat)(b i:Nat)(hi:i<256)(hp:Hp)(h:hp.rd b 0=some (csL (ds++[c]))):
 run cxX 139 [.ptr b 0 (5*ds.length),.sc (.int .u8 (i:Int))] hp=some (.tup [],hp.put b 0 (csL (ds++[(c.1,c.2|||2^i)]))):=by
 have s1:∀t o o',qt Tryz.prog .shr t o o' (.int .u8 (i:Int)) (.int .u64 6)=some (.int .u8 ((i/64:Nat):Int)):=fun t o o'=>xN .u8 i 6 qg t o o' .u64
 have ix:idx 4 (.int .u8 ((i/64:Nat):Int))=some (i/64):=zd .u8 qc
 have a:=zap i hi
 have s2:=shl1 (i%64) qc
 have h64:(2:Nat)^(i%64)<18446744073709551616:=zjl qg (show i%64<64 by omega)
 have o:=or64 (jD c.2 (i/64)) (2^(i%64)) (Ju _ _) h64
 have e1:csL (ds++[c])=csL ds++Cc c:=by rw[Xn];simp[csL]
 have e2:csL (ds++[(c.1,c.2|||2^i)])=csL ds++Cc (c.1,c.2|||2^i):=by rw[Xn];simp[csL]
 have g:=WP (csL ds) (Cc c) (1+i/64)
 have g2:qj (Cc c) (1+i/64)=some (.int .u64 (jD c.2 (i/64):Nat)):=by have:=Ku c (i/64) qc;simpa using this
 rw[g2]at g
 have p:=qs3 (csL ds) (Cc c) _ (1+i/64) _ (qxv c i hi)
 have eo:(csL ds).length+(1+i/64)=5*ds.length+1+i/64:=by rw[yx];omega
 rw[eo]at g p
 rw[e1]at h
 rw[e2,E139]
 generalize csL ds++Cc c=L1 at*
 generalize csL ds++Cc (c.1,c.2|||2^i)=L2 at*
 generalize((jD c.2 (i/64)|||2^(i%64):Nat):Int)=q3 at*
 generalize((jD c.2 (i/64):Nat):Int)=q0 at*
 generalize((2^(i%64):Nat):Int)=q1 at*
 generalize((i%64:Nat):Int)=q2 at*
 generalize((i/64:Nat):Int)=q4 at*
 generalize 5*ds.length=N at*
 simp[s1,ix,h,g,a,s2,o,p,-qO,-jk]
def XC(nb:Nat)(cs:List (Nat×Nat)):AV:=if cs=[]then S 2 1 []else .ms nb 0 0 cs.length 5
def CH(h0:Nat)(hp:Hp)(nb:Nat)(cs:List (Nat×Nat)):Prop:=cs≠[]->nb<hp.next/\h0<=nb/\hp.rd nb 0=some (csL cs)
theorem zag(c:Nat×Nat):wa 5 (Cc c)=1:=by simp[wa]
theorem qzv(x:Nat)(hp:Hp):zV 40 5 (S 2 1 []) (.us 5 (Cc (x,0))) hp=some (.ms hp.next 0 0 1 5,hp.new (csL [(x,0)])):=by
 have hs:xm hp 5 (.us 5 (Cc (x,0)))=some (Cc (x,0)):=rfl
 have hm:=zag (x,0)
 unfold zV
 rw[hs]
 show(va (kL nil0=true/\jP 40 5 5=true)).bind (fun _=>some (AV.ms hp.next 0 0 (wa 5 (Cc (x,0))) 5,hp.new (Cc (x,0))))=_
 rw[hm,yy ⟨rfl,qg⟩,zgh]
 rfl
theorem qzu(x b:Nat)(cs:List (Nat×Nat))(hl:cs.length<=100000)(hne:cs≠[])(hp:Hp)(hb:hp.rd b 0=some (csL cs)):
 zV 40 5 (.ms b 0 0 cs.length 5) (.us 5 (Cc (x,0))) hp=some (.ms hp.next 0 0 (cs.length+1) 5,(hp.del b).new (csL (cs++[(x,0)]))):=by
 have hpos:0<cs.length:=zh5.mpr hne
 have hs:xm hp 5 (.us 5 (Cc (x,0)))=some (Cc (x,0)):=rfl
 have hf:jP 40 5 (cs.length*5+5)=true:=by
  unfold jP
  simp
  omega
 have e:((csL cs).take (cs.length*5)).map ro1++Cc (x,0)=csL (cs++[(x,0)]):=by
  rw[zg4 (by rw[yx];omega),qvb,Xn]
  simp[csL]
 unfold zV
 rw[hs]
 show(va (5=5/\0=0/\0<cs.length)).bind _=_
 rw[yy ⟨rfl,rfl,hpos⟩,zgh,hb,zgh]
 show(va (cs.length*5<=(csL cs).length/\jP 40 5 (cs.length*5+5)=true)).bind _=_
 rw[yy ⟨by rw[yx];omega,hf⟩,zgh]
 have hm:=zag (x,0)
 show some (AV.ms hp.next 0 0 (cs.length+wa 5 (Cc (x,0))) 5,(hp.del b).new (((csL cs).take (cs.length*5)).map ro1++Cc (x,0)))=_
 rw[e,hm]
theorem qdk(j:Nat):jD 0 j=0:=by unfold jD;simp
theorem Xp:∀l,(kQ l).length<=l.length:=by
 intro l
 induction l with
 |nil=>exact zgm _
 |cons x r ih=>
  show(QN x (kQ r)).length<=_
  cases hq:kQ r with
  |nil=>simp[QN]
  |cons c s=>
   rw[hq]at ih
   rw[ya]
   split<;>simp at ih⊢<;>omega
section
variable (l:List Nat)(k k':Nat)(hl:l.length<=4096)(h32:∀x∈l,x<4294967296)(hr:xP l)
theorem qir(h0 i x nb:Nat)(hx:x<4294967296)(cs:List (Nat×Nat))(hcl:cs.length<=5000)(ds:List (Nat×Nat))(c:Nat×Nat)(hcs:cs=ds++[c])(hp:Hp)(hC:CH h0 hp nb cs)(hi:i<5000):
 ∃hp',B68_12 (S k 1 (LI .u32 (nz l))) (XC nb cs) (.int .u32 (x:Int)) (S k' 1 (LI .u32 (nz l))) (.int .i64 (l.length:Int)) (.int .i64 (i:Int)) hp=
  B68_5 (S k 1 (LI .u32 (nz l))) (XC nb (ds++[(c.1,c.2|||2^(x%256))])) (S k' 1 (LI .u32 (nz l))) (.int .i64 (l.length:Int)) (.int .i64 ((i+1:Nat):Int)) hp'/\
  CH h0 hp' nb (ds++[(c.1,c.2|||2^(x%256))])/\hp.next<=hp'.next/\∀a,a<h0->hp'.get a=hp.get a:=by
 have hne:cs≠[]:=by rw[hcs];simp
 obtain⟨c1,c2,c3⟩:=hC hne
 rw[hcs]at c3
 have hlen:cs.length=ds.length+1:=by rw[hcs];simp
 have ca:=qnb ds c nb (x%256) qc hp c3
 have eX:XC nb cs= .ms nb 0 0 (ds.length+1) 5:=by unfold XC;rw[if_neg hne,hlen]
 have eX2:XC nb (ds++[(c.1,c.2|||2^(x%256))])= .ms nb 0 0 (ds.length+1) 5:=by unfold XC;rw[if_neg qf];simp
 have w1:IntKind.i64.wrap (((ds.length+1:Nat):Int)-1)=(ds.length:Int):=qi
 have ix:idx (ds.length+1) (.int .i64 (ds.length:Int))=some ds.length:=zd .i64 qc
 have w2:IntKind.u8.wrap (x:Int)=((x%256:Nat):Int):=by rw[xJ];rfl
 have w3:IntKind.i64.wrap ((i:Int)+1)=((i+1:Nat):Int):=qi
 refine⟨hp.put nb 0 (csL (ds++[(c.1,c.2|||2^(x%256))])),?_,fun _=>⟨c1,c2,qr _ _ _⟩,zgm _,fun a ha=>?_⟩
 ·rw[eX,eX2,qpd]
  have o5:∀n:Nat,n+n+n+n+n=5*n:=fun n=>qc
  generalize csL (ds++[(c.1,c.2|||2^(x%256))])=L at*
  generalize((x%256:Nat):Int)=y at*
  generalize((i+1:Nat):Int)=I at*
  have hln:zA (.ms nb 0 0 (ds.length+1) 5)=some (ds.length+1):=rfl
  have hms:∀a b c d e,qK (.ms a b c d e)=some (a,b,c,d,e):=fun _ _ _ _ _=>rfl
  have w9:IntKind.i64.wrap (ds.length:Int)=(ds.length:Int):=qk qc qc
  simp only[zjd,zje]at w1
  simp[hln,w1,w9,hms,ix,o5,kO,w2,ca,w3]
 ·have:a≠nb:=qc
  simp[Hp.put,this]
theorem qfx:∀(cs:List (Nat×Nat)),cs≠[]->∃ds c,cs=ds++[c]:=by
 intro cs h
 exact⟨cs.dropLast,cs.getLast h,(List.dropLast_concat_getLast h).symm⟩
theorem zen(h0 i x nb:Nat)(hx:x<4294967296)(cs:List (Nat×Nat))(hcl:cs.length<=4096)(hp:Hp)(hh:h0<=hp.next)(hC:CH h0 hp nb cs)(hi:i<5000):
 ∃hp' nb',B68_9 (S k 1 (LI .u32 (nz l))) (XC nb cs) (.int .u32 (x:Int)) (S k' 1 (LI .u32 (nz l))) (.int .i64 (l.length:Int)) (.int .i64 (i:Int)) hp=
  B68_5 (S k 1 (LI .u32 (nz l))) (XC nb' (xL x cs)) (S k' 1 (LI .u32 (nz l))) (.int .i64 (l.length:Int)) (.int .i64 ((i+1:Nat):Int)) hp'/\
  CH h0 hp' nb' (xL x cs)/\hp.next<=hp'.next/\∀a,a<h0->hp'.get a=hp.get a:=by
 have s8:∀t o o',qt Tryz.prog .shr t o o' (.int .u32 (x:Int)) (.int .u64 8)=some (.int .u32 ((x/256:Nat):Int)):=fun t o o'=>xN .u32 x 8 qg t o o' .u64
 have hms:∀a b c d e,qK (.ms a b c d e)=some (a,b,c,d,e):=fun _ _ _ _ _=>rfl
 by_cases hne:cs=[]
 ·subst hne
  have eX:XC nb []=S 2 1 []:=rfl
  have eX1:XC hp.next [(x/256,0)]= .ms hp.next 0 0 1 5:=rfl
  have ap:=qzv (x/256) hp
  have hC2:CH h0 (hp.new (csL [(x/256,0)])) hp.next [(x/256,0)]:=fun _=>⟨zh1 _,hh,qB _ _⟩
  obtain⟨hp',a1,a2,a3,a4⟩:=qir l k k' h0 i x hp.next hx [(x/256,0)] qf [] (x/256,0) rfl _ hC2 hi
  have ez:0|||2^(x%256)=2^(x%256):=Nat.zero_or _
  simp only[zg2,ez]at a1 a2
  refine⟨hp',hp.next,?_,a2,by simp at a3;omega,fun a ha=>by
   rw[a4 a ha]
   have:a≠hp.next:=qc
   simp[Hp.new,this]⟩
  have es:xL x []=[(x/256,2^(x%256))]:=rfl
  rw[es,<-a1,eX,eX1,Vj]
  have b11:B68_11 (S k 1 (LI .u32 (nz l))) (S 2 1 []) (.int .u32 (x:Int)) (S k' 1 (LI .u32 (nz l))) (.int .i64 (l.length:Int)) (.int .i64 (i:Int)) hp=
   B68_12 (S k 1 (LI .u32 (nz l))) (.ms hp.next 0 0 1 5) (.int .u32 (x:Int)) (S k' 1 (LI .u32 (nz l))) (.int .i64 (l.length:Int)) (.int .i64 (i:Int)) (hp.new (csL [(x/256,0)])):=by
   rw[qao]
   have w0:∀j,jD 0 j=0:=qdk
   simp only[Cc,w0]at ap
   generalize csL [(x/256,0)]=L at*
   generalize((x/256:Nat):Int)=y at*
   simp at ap
   simp[s8,kC,ap]
  simp[b11]
 ·obtain⟨ds,c,hcs⟩:=qfx cs hne
  have hlen:cs.length=ds.length+1:=by rw[hcs];simp
  obtain⟨c1,c2,c3⟩:=hC hne
  have eX:XC nb cs= .ms nb 0 0 (ds.length+1) 5:=by unfold XC;rw[if_neg hne,hlen]
  have w1:IntKind.i64.wrap (((ds.length+1:Nat):Int)-1)=(ds.length:Int):=qi
  have w9:IntKind.i64.wrap (ds.length:Int)=(ds.length:Int):=qk qc qc
  have ix:idx (ds.length+1) (.int .i64 (ds.length:Int))=some ds.length:=zd .i64 qc
  have e1:csL cs=csL ds++Cc c:=by rw[hcs,Xn];simp[csL]
  have g:=WP (csL ds) (Cc c) 0
  rw[<-e1,yx,zim]at g
  have g0:qj (Cc c) 0=some (.int .u32 (c.1:Int)):=rfl
  rw[g0]at g
  have hln:zA (.ms nb 0 0 (ds.length+1) 5)=some (ds.length+1):=rfl
  have o5:∀n:Nat,n+n+n+n+n=5*n:=fun n=>qc
  have h0':¬(((ds.length+1:Nat):Int)=0):=qc
  rw[hcs,qro,<-hcs]
  by_cases hk:c.1=x/256
  ·rw[if_pos hk]
   obtain⟨hp',a1,a2,a3,a4⟩:=qir l k k' h0 i x nb hx cs qc ds c hcs hp hC hi
   refine⟨hp',nb,?_,a2,a3,a4⟩
   rw[<-a1,eX,Vj]
   have hk':(c.1:Int)=((x/256:Nat):Int):=qc
   rw[hk']at g
   generalize((x/256:Nat):Int)=y at*
   simp only[zjd,zje]at w1 h0'
   simp[hln,h0',w1,w9,hms,ix,c3,o5,g,s8]
  ·rw[if_neg hk]
   have ap:=qzu (x/256) nb cs qc hne hp c3
   have hC2:CH h0 ((hp.del nb).new (csL (cs++[(x/256,0)]))) hp.next (cs++[(x/256,0)]):=fun _=>⟨zh1 _,hh,qB _ _⟩
   obtain⟨hp',a1,a2,a3,a4⟩:=qir l k k' h0 i x hp.next hx (cs++[(x/256,0)]) qh cs (x/256,0) rfl _ hC2 hi
   have ez:0|||2^(x%256)=2^(x%256):=Nat.zero_or _
   simp only[ez]at a1 a2
   have ec:ds++[c,(x/256,2^(x%256))]=cs++[(x/256,2^(x%256))]:=by rw[hcs];simp
   rw[ec]
   refine⟨hp',hp.next,?_,a2,by simp[Hp.del]at a3;omega,fun a ha=>by
    rw[a4 a ha]
    exact(Fm.delNew (X:=[nb]) hp nb _ qf).2 a qc qh⟩
   have eX2:XC hp.next (cs++[(x/256,0)])= .ms hp.next 0 0 (cs.length+1) 5:=by unfold XC;rw[if_neg qf];simp
   rw[<-a1,eX,eX2,Vj]
   rw[hlen]at ap⊢
   have b11:B68_11 (S k 1 (LI .u32 (nz l))) (.ms nb 0 0 (ds.length+1) 5) (.int .u32 (x:Int)) (S k' 1 (LI .u32 (nz l))) (.int .i64 (l.length:Int)) (.int .i64 (i:Int)) hp=
    B68_12 (S k 1 (LI .u32 (nz l))) (.ms hp.next 0 0 (ds.length+1+1) 5) (.int .u32 (x:Int)) (S k' 1 (LI .u32 (nz l))) (.int .i64 (l.length:Int)) (.int .i64 (i:Int)) ((hp.del nb).new (csL (cs++[(x/256,0)]))):=by
    rw[qao]
    have w0:∀j,jD 0 j=0:=qdk
    simp only[Cc,w0]at ap
    generalize csL (cs++[(x/256,0)])=L at*
    generalize((x/256:Nat):Int)=y at*
    simp at ap
    simp[s8,kC,ap]
   have hk':¬((c.1:Int)=((x/256:Nat):Int)):=qc
   generalize((x/256:Nat):Int)=y at*
   generalize(c.1:Int)=z at*
   simp only[zjd,zje]at w1 h0'
   simp[hln,h0',w1,w9,hms,ix,c3,o5,g,s8,hk',b11]
include hl h32 hr
theorem qso(h0:Nat):∀(r:List Nat) (i nb:Nat) (hp:Hp),l.drop i=r->i+r.length=l.length->h0<=hp.next->CH h0 hp nb (kQ (l.take i))->
 ∃hp' nb',B68_5 (S k 1 (LI .u32 (nz l))) (XC nb (kQ (l.take i))) (S k' 1 (LI .u32 (nz l))) (.int .i64 (l.length:Int)) (.int .i64 (i:Int)) hp=
  B68_5 (S k 1 (LI .u32 (nz l))) (XC nb' (kQ l)) (S k' 1 (LI .u32 (nz l))) (.int .i64 (l.length:Int)) (.int .i64 (l.length:Int)) hp'/\CH h0 hp' nb' (kQ l)/\hp.next<=hp'.next/\∀a,a<h0->hp'.get a=hp.get a:=by
 intro r
 induction r with
 |nil=>
  intro i nb hp h hil hh hC
  have e:i=l.length:=by simpa using hil
  subst e
  rw[List.take_length]at hC⊢
  exact⟨hp,nb,rfl,hC,zgm _,fun _ _=>rfl⟩
 |cons x r ih=>
  intro i nb hp h hil hh hC
  obtain⟨e1,e2,hi,e3⟩:=qu h
  simp only[zgk]at hil
  have hlt:(i:Int)<(l.length:Int):=qc
  have hx:x<4294967296:=h32 x (by rw[<-e3];exact zhx _)
  have hcl:=Xp (l.take i)
  have hti:(l.take i).length<=i:=qh
  obtain⟨hp1,nb1,a1,a2,a3,a4⟩:=zen l k k' h0 i x nb hx (kQ (l.take i)) qc hp hh hC qc
  have et:l.take (i+1)=l.take i++[x]:=by rw[zjx,e1];rfl
  rw[<-qvj,<-et]at a1 a2
  obtain⟨hp2,nb2,b1,b2,b3,b4⟩:=ih (i+1) nb1 hp1 e2 qc qc a2
  refine⟨hp2,nb2,?_,b2,qc,fun a ha=>by rw[b4 a ha,a4 a ha]⟩
  rw[<-b1,<-a1,Vk]
  have gs0:∀(v:Value),qj [.sc v] 0=some v:=fun _=>rfl
  have en:∀h,(nz l)[i]'h=(x:Int):=fun h=>by simp[nz,e3]
  have hi4:(i<l.length)=True:=by simp[hi]
  generalize XC nb (kQ (l.take i))=X1 at*
  by_cases hi1:i=0
  ·have hi2:(0<i)=False:=by simp[hi1]
   clear hi1
   simp[hi4,gs0,hi2,en]
  ·have hlt2:=XS l hr (i-1) qc
   have e:i-1+1=i:=qc
   have ex:l.getD i 0=x:=by rw[zgp,e1];rfl
   rw[e,ex]at hlt2
   have w9:IntKind.i64.wrap ((i:Int)-1)=((i-1:Nat):Int):=qi
   have hi2:0<i:=qc
   have g0:(0:Int)<=((i-1:Nat):Int):=qc
   have aj':(nz l)[(((i-1:Nat):Int)).toNat]?=some ((l.getD (i-1) 0:Nat):Int):=by
    rw[zgu];unfold nz
    rw[zgx,zgp,zgl qc];rfl
   generalize l.getD (i-1) 0=y at*
   have hle':¬((x:Int)<=(y:Int)):=qc
   generalize((i-1:Nat):Int)=j at*
   simp[hi4,gs0,hi2,en,w9,aj',g0,hle']
theorem qw5(hp:Hp):∃t hp',run cxX 68 [S k 1 (LI .u32 (nz l))] hp=some (.tup [S t 5 (csL (kQ l)),.sc (.int .i64 0)],hp')/\Fm [] hp hp':=by
 obtain⟨hp1,nb,a1,a2,a3,a4⟩:=qso l k (rk k) hl h32 hr hp.next l 0 hp.next hp rfl qf (zgm _) (fun h=>absurd rfl h)
 have eX0:XC hp.next (kQ (l.take 0))=S 2 1 []:=rfl
 rw[eX0]at a1
 have h1':¬((4096:Int)<(l.length:Int)):=qc
 by_cases hne:kQ l=[]
 ·have eX:XC nb (kQ l)=S 2 1 []:=by unfold XC;rw[if_pos hne]
  rw[eX]at a1
  refine⟨2,hp1,?_,a3,fun c hc _=>a4 c hc⟩
  have b5:B68_5 (S k 1 (LI .u32 (nz l))) (S 2 1 []) (S (rk k) 1 (LI .u32 (nz l))) (.int .i64 (l.length:Int)) (.int .i64 (l.length:Int)) hp1=some (.tup [S 2 5 [],.sc (.int .i64 0)],hp1):=by
   rw[Vk]
   simp
   rfl
  rw[<-a1]at b5
  have ec:csL (kQ l)=[]:=by rw[hne];rfl
  rw[ec,E68]
  simp at b5
  simp[h1',b5]
 ·obtain⟨c1,c2,c3⟩:=a2 hne
  have eX:XC nb (kQ l)= .ms nb 0 0 (kQ l).length 5:=by unfold XC;rw[if_neg hne]
  rw[eX]at a1
  have fz:we hp1 (.ms nb 0 0 (kQ l).length 5)=some (S 0 5 (csL (kQ l)),hp1.del nb):=by
   have gn:qn (csL (kQ l)) 0 ((kQ l).length*5)=some (csL (kQ l)):=by
    unfold qn
    rw[if_pos (by rw[yx];omega),zjh,zg4 (by rw[yx];omega)]
   have hv:=zcz (kQ l)
   have hro:=qvb (kQ l)
   simp only[wV,we,c3,zgh,gn,hv,va,hro]
   rfl
  refine⟨0,hp1.del nb,?_,by simpa[Hp.del]using a3,fun c hc _=>?_⟩
  ·have b5:B68_5 (S k 1 (LI .u32 (nz l))) (.ms nb 0 0 (kQ l).length 5) (S (rk k) 1 (LI .u32 (nz l))) (.int .i64 (l.length:Int)) (.int .i64 (l.length:Int)) hp1=some (.tup [S 0 5 (csL (kQ l)),.sc (.int .i64 0)],hp1.del nb):=by
    rw[Vk]
    simp[fz]
   rw[<-a1]at b5
   rw[E68]
   simp at b5
   simp[h1',b5]
  ·have:c≠nb:=qc
   show(if c=nb then none else hp1.get c)=_
   rw[if_neg this,a4 c hc]
end
def MW(hp:Hp)(m cb:Nat)(cs:List Nat):Prop:=
 m<hp.next/\cb<hp.next/\cb≠m/\hp.rd cb 0=some (LI .i64 (nz cs))/\hp.rd m 0=some [.ms cb 0 0 cs.length 1,.sc (.int .i64 (cs.sum:Nat))]
theorem MW.fr{hp hp':Hp}{m cb:Nat}{cs:List Nat}{X:List Nat}(h:MW hp m cb cs)(f:Fm X hp hp')(h1:m∉X)(h2:cb∉X):MW hp' m cb cs:=
 ⟨zg5 h.1 f.1,zg5 h.2.1 f.1,h.2.2.1,by rw[f.rd h.2.1 h2];exact h.2.2.2.1,by rw[f.rd h.1 h1];exact h.2.2.2.2⟩
def MN(hp:Hp)(m cb i:Nat):Prop:=
 m<hp.next/\(i≠0->cb<hp.next/\m<cb/\hp.rd cb 0=some (LI .i64 (nz (List.replicate i 1))))/\hp.rd m 0=some [if i=0 then S 2 1 []else .ms cb 0 0 i 1,.sc (.int .i64 (i:Int))]
theorem qyf(l:List Nat)(x:Nat):nz (l++[x])=nz l++[(x:Int)]:=by simp[nz]
theorem qn3(m:Nat):∀(f i cb:Nat) (hp:Hp),i+f=64->MN hp m cb i->
 ∃hp' cb',B209_3 (.ptr m 0 0) (.int .i64 64) (.int .i64 (i:Int)) hp=some (.ptr m 0 0,hp')/\MN hp' m cb' 64/\hp.next<=hp'.next/\∀c,c<m->hp'.get c=hp.get c:=by
 intro f
 induction f with
 |zero=>
  intro i cb hp h hm
  have e:i=64:=qc
  subst e
  refine⟨hp,cb,?_,hm,zgm _,fun _ _=>rfl⟩
  rw[Ye]
  simp
 |succ f ih=>
  intro i cb hp h hm
  obtain⟨h1,h2,h3⟩:=hm
  have hlt:(i:Int)<64:=qc
  have w1:IntKind.i64.wrap ((i:Int)+1)=((i+1:Nat):Int):=qi
  by_cases h0:i=0
  ·subst h0
   have ap:=Zk .i64 1 8 qg hp
   have hne:m≠hp.next:=qc
   have r1:=jE hp (LI .i64 [1]) hne
   rw[h3]at r1
   have hq:MN ((hp.new (LI .i64 [1])).put m 0 [.ms hp.next 0 0 1 1,.sc (.int .i64 1)]) m hp.next 1:=
    ⟨qh,fun _=>⟨qf,h1,by rw[zN _ _ (fun e=>hne e.symm),qB];rfl⟩,by rw[qr];rfl⟩
   obtain⟨hp2,cb2,a1,a2,a3,a4⟩:=ih 1 hp.next _ qc hq
   refine⟨hp2,cb2,?_,a2,by simp at a3;omega,fun c hc=>by
    rw[a4 c hc]
    have e1:c≠m:=qc
    have e2:c≠hp.next:=qc
    simp[Hp.put,Hp.new,e1,e2]⟩
   rw[<-a1,Ye]
   simp at r1
   simp[h3,qo,kC,ap,r1,qm,qx,qr,qj]
  ·obtain⟨n1,n2,n3⟩:=h2 h0
   rw[if_neg h0]at h3
   have hne:m≠hp.next:=qc
   have hne2:m≠cb:=qc
   have hl:(nz (List.replicate i 1)).length=i:=qf
   have ap:=Vb .i64 (nz (List.replicate i 1)) 1 8 cb qg (by rw[hl];omega) (by intro e;rw[e]at hl;simp at hl;omega) hp n3
   rw[hl]at ap
   have e1:nz (List.replicate i 1)++[1]=nz (List.replicate (i+1) 1):=by
    rw[zjk,qyf];rfl
   rw[e1]at ap
   have r1:((hp.del cb).new (LI .i64 (nz (List.replicate (i+1) 1)))).rd m 0=hp.rd m 0:=(Fm.delNew (X:=[cb]) hp cb _ qf).rd h1 (by simp;exact hne2)
   rw[h3]at r1
   have hq:MN (((hp.del cb).new (LI .i64 (nz (List.replicate (i+1) 1)))).put m 0 [.ms hp.next 0 0 (i+1) 1,.sc (.int .i64 ((i+1:Nat):Int))]) m hp.next (i+1):=
    ⟨by simp[Hp.del];omega,fun _=>⟨by simp[Hp.del],h1,by rw[zN _ _ (fun e=>hne e.symm)];exact qB (hp.del cb) _⟩,by rw[qr,if_neg qc]⟩
   obtain⟨hp2,cb2,a1,a2,a3,a4⟩:=ih (i+1) hp.next _ qc hq
   refine⟨hp2,cb2,?_,a2,by simp[Hp.del]at a3;omega,fun c hc=>by
    rw[a4 c hc]
    have e1:c≠m:=qc
    have e2:c≠hp.next:=qc
    have e3:c≠cb:=qc
    simp[Hp.put,Hp.new,Hp.del,e1,e2,e3]⟩
   rw[<-a1,Ye]
   generalize nz (List.replicate (i+1) 1)=L at*
   generalize((i+1:Nat):Int)=I at*
   simp[hlt,h3,qo,kC,ap,r1,qm,qx,qr,qj,w1]
theorem qr4(hp:Hp):∃hp' cb,run cxX 209 [.sc (.int .i64 64)] hp=some (.ptr hp.next 0 0,hp')/\MW hp' hp.next cb cs0/\hp.next<cb/\hp.next<=hp'.next/\∀c,c<hp.next->hp'.get c=hp.get c:=by
 have h0:MN (hp.new [S 2 1 [],.sc (.int .i64 0)]) hp.next 0 0:=⟨qf,fun h=>absurd rfl h,by rw[qB];rfl⟩
 obtain⟨hp',cb,a1,a2,a3,a4⟩:=qn3 hp.next 64 0 0 _ rfl h0
 obtain⟨b1,b2,b3⟩:=a2
 obtain⟨c1,c2,c3⟩:=b2 qc
 refine⟨hp',cb,?_,⟨b1,c1,qc,c3,by rw[b3];rfl⟩,c2,by simp at a3;omega,fun c hc=>by
  rw[a4 c hc]
  have:c≠hp.next:=qc
  simp[Hp.new,this]⟩
 rw[E209]
 have mm:min (max (64:Int) 1) 64=64:=qg
 simp at a1
 simp[mm,a1]
theorem ZQ(l:List Nat)(i:Nat)(h:i<l.length):(nz l).getD i 0=((l.getD i 0:Nat):Int):=by
 unfold nz
 rw[zgp,zgp,zgx,zgl h]
 rfl
section
variable (hp:Hp)(m cb:Nat)(cs:List Nat)(h:MW hp m cb cs)(hs:cs.sum<=1000000)(hcl:cs.length=64)
include h
theorem Wh:run cxX 252 [.ptr m 0 0] hp=some (.sc (.int .i64 (cs.length:Nat)),hp):=by
 obtain⟨h1,h2,h3,h4,h5⟩:=h
 rw[E252]
 have hln:∀a b c d e,zA (.ms a b c d e)=some d:=fun _ _ _ _ _=>rfl
 simp[h5,qo,hln]
theorem qr5:run cxX 211 [.ptr m 0 0] hp=some (.sc (.int .i64 (cs.sum:Nat)),hp):=by
 obtain⟨h1,h2,h3,h4,h5⟩:=h
 rw[E211]
 simp[h5,qj]
include hs hcl
theorem qnr(x:Nat)(hx:x<64):∀(f i:Nat),i+f=x->
 B210_5 (.ptr m 0 0) (.int .i64 (x:Int)) (.int .i64 ((cs.take i).sum:Nat)) (.ms cb 0 0 x 1) (.int .i64 (x:Int)) (.int .i64 (i:Int)) hp=some (.tup [.sc (.int .i64 ((cs.take x).sum:Nat)),.sc (.int .i64 (cs.getD x 0:Nat))],hp):=by
 obtain⟨h1,h2,h3,h4,h5⟩:=h
 have hms:∀a b c d e,qK (.ms a b c d e)=some (a,b,c,d,e):=fun _ _ _ _ _=>rfl
 intro f
 induction f with
 |zero=>
  intro i hi
  have e:i=x:=qc
  subst e
  have ix:idx cs.length (.int .i64 (i:Int))=some i:=zd .i64 qc
  have g:=vK .i64 (nz cs) i qh
  rw[ZQ cs i qc]at g
  rw[qay]
  generalize(cs.take i).sum=A at*
  generalize cs.getD i 0=B at*
  simp[h5,qo,hms,ix,h4,g]
 |succ f ih=>
  intro i hi
  have hn:=ih (i+1) qc
  have ix:idx x (.int .i64 (i:Int))=some i:=zd .i64 qc
  have g:=vK .i64 (nz cs) i qh
  rw[ZQ cs i qc]at g
  have st:=zU cs i qc
  have sl:=zP cs (i+1)
  have w1:IntKind.i64.wrap ((((cs.take i).sum:Nat):Int)+((cs.getD i 0:Nat):Int))=(((cs.take (i+1)).sum:Nat):Int):=qi
  have w2:IntKind.i64.wrap ((i:Int)+1)=((i+1:Nat):Int):=qi
  have hlt:(i:Int)<(x:Int):=qc
  rw[<-hn,qay]
  generalize(((cs.take i).sum:Nat):Int)=A at*
  generalize(((cs.take (i+1)).sum:Nat):Int)=A1 at*
  generalize((cs.getD i 0:Nat):Int)=B at*
  generalize((i+1:Nat):Int)=I at*
  simp[hlt,hms,ix,h4,g,w1,w2]
theorem qr2(x:Nat)(hx:x<64):run cxX 210 [.ptr m 0 0,.sc (.int .i64 (x:Int))] hp=some (.tup [.sc (.int .i64 ((cs.take x).sum:Nat)),.sc (.int .i64 (cs.getD x 0:Nat))],hp):=by
 have sz:=Wh hp m cb cs h
 have lp:=qnr hp m cb cs h hs hcl x hx x 0 qc
 obtain⟨h1,h2,h3,h4,h5⟩:=h
 have hms:∀a b c d e,qK (.ms a b c d e)=some (a,b,c,d,e):=fun _ _ _ _ _=>rfl
 have hln:∀a b c d e,zA (.ms a b c d e)=some d:=fun _ _ _ _ _=>rfl
 have hn0:¬((x:Int)<0):=qc
 have hge:¬((x:Int)>=(cs.length:Int)):=qc
 have b1:qC 0 (cs.length:Int) (some (.int .i64 (x:Int))) cs.length=some x:=yf .i64 qc
 have b3:B210_3 (.ptr m 0 0) (.int .i64 (x:Int)) hp=some (.tup [.sc (.int .i64 ((cs.take x).sum:Nat)),.sc (.int .i64 (cs.getD x 0:Nat))],hp):=by
  rw[<-lp,qpr]
  simp[h5,qo,hms,b1,hln]
 rw[E210]
 generalize(cs.take x).sum=A at*
 generalize cs.getD x 0=B at*
 have hge':¬((cs.length:Int)<=(x:Int)):=hge
 simp[hn0,sz,hge',b3]
end
def hf(d:List Nat)(i:Nat):List Nat:=(d.take i).map (fun n=>(n+1)/2)++d.drop i
@[simp] theorem hf_len(d:List Nat)(i:Nat):(hf d i).length=d.length:=by unfold hf;simp;omega
theorem zch(d:List Nat)(i:Nat)(hi:i<d.length):(hf d i).getD i 0=d.getD i 0:=by
 unfold hf
 rw[zgp,zgv qh,zgp]
 simp
 congr 2
 omega
theorem qlq(d:List Nat)(i:Nat)(hi:i<d.length):hf d (i+1)=(hf d i).set i ((d.getD i 0+1)/2):=by
 have e1:d.getD i 0=d[i]:=by rw[zgp,zgl hi];rfl
 have e2:d.take (i+1)=d.take i++[d[i]]:=by rw[zjx,zgl hi];rfl
 have e3:d.drop i=d[i]::d.drop (i+1):=zhp hi
 unfold hf
 rw[e1,e2,e3,zin,zgw,List.set_append_right _ _ qh]
 have e4:i-((d.take i).map fun n=>(n+1)/2).length=0:=qh
 rw[e4]
 rfl
theorem zci(d:List Nat):hf d d.length=d.map fun n=>(n+1)/2:=by unfold hf;simp
theorem qru(m cb:Nat)(d:List Nat)(hd:d.length=64)(hs:d.sum<=1000000):∀(f i:Nat) (hp:Hp),i+f=64->m<hp.next->cb<hp.next->cb≠m->hp.rd cb 0=some (LI .i64 (nz (hf d i)))->
 hp.rd m 0=some [.ms cb 0 0 64 1,.sc (.int .i64 ((((d.take i).map fun n=>(n+1)/2).sum:Nat):Int))]->
 ∃hp',B213_6 (.ptr m 0 0) (.ms cb 0 0 64 1) (.int .i64 64) (.int .i64 (i:Int)) hp=some (.tup [],hp')/\MW hp' m cb (d.map fun n=>(n+1)/2)/\hp'.next=hp.next/\∀c,c≠m->c≠cb->hp'.get c=hp.get c:=by
 have hms:∀a b c d e,qK (.ms a b c d e)=some (a,b,c,d,e):=fun _ _ _ _ _=>rfl
 intro f
 induction f with
 |zero=>
  intro i hp hi h1 h2 h3 h4 h5
  have e:i=64:=qc
  subst e
  have ef:hf d 64=d.map fun n=>(n+1)/2:=by rw[<-hd,zci]
  have et:d.take 64=d:=by rw[<-hd,List.take_length]
  rw[ef]at h4
  rw[et]at h5
  refine⟨hp,?_,⟨h1,h2,h3,h4,by simp only[zhv,hd];exact h5⟩,rfl,fun _ _ _=>rfl⟩
  rw[qau]
  simp
 |succ f ih=>
  intro i hp hi h1 h2 h3 h4 h5
  have hid:i<d.length:=qc
  have hlt:(i:Int)<64:=qc
  have ix:idx 64 (.int .i64 (i:Int))=some i:=zd .i64 qc
  have g:=vK .i64 (nz (hf d i)) i qh
  rw[ZQ _ i qh,zch d i hid]at g
  have hx:d.getD i 0<=1000000:=by
   have:=zU d i hid
   have:=zP d (i+1)
   omega
  have p:=QM .i64 (nz (hf d i)) i (((d.getD i 0+1)/2:Nat):Int) qh
  have es:(nz (hf d i)).set i (((d.getD i 0+1)/2:Nat):Int)=nz (hf d (i+1)):=by
   rw[qlq d i hid];unfold nz;rw[List.map_set]
  rw[es]at p
  have g2:=vK .i64 (nz (hf d (i+1))) i qh
  have eg:(hf d (i+1)).getD i 0=(d.getD i 0+1)/2:=by
   rw[qlq d i hid,zgp,zkq]
   simp[hid]
  rw[ZQ _ i qh,eg]at g2
  have sm:((d.take (i+1)).map fun n=>(n+1)/2).sum=((d.take i).map fun n=>(n+1)/2).sum+(d.getD i 0+1)/2:=by
   have e2:d.take (i+1)=d.take i++[d.getD i 0]:=by
    rw[zjx,zgp,zgl hid];rfl
   rw[e2];simp
  have sb:((d.take i).map fun n=>(n+1)/2).sum<=2000000:=by
   have a:=qdu (d.take i)
   have b:=zP d i
   have c:(d.take i).length<=64:=qh
   omega
  have w1:IntKind.i64.wrap (((d.getD i 0:Nat):Int)+1)=((d.getD i 0+1:Nat):Int):=qi
  have q2:∀t o o',qt Tryz.prog .quo t o o' (.int .i64 ((d.getD i 0+1:Nat):Int)) (.int .i64 2)=some (.int .i64 (((d.getD i 0+1)/2:Nat):Int)):=by
   intro t o o'
   rw[Jh _ _ _ _ _ _ _ qc,ziy qc,qk qc qc]
   rfl
  have w3:IntKind.i64.wrap (((((d.take i).map fun n=>(n+1)/2).sum:Nat):Int)+(((d.getD i 0+1)/2:Nat):Int))=((((d.take (i+1)).map fun n=>(n+1)/2).sum:Nat):Int):=by rw[sm,qk]<;>omega
  have w4:IntKind.i64.wrap ((i:Int)+1)=((i+1:Nat):Int):=qi
  have r5:∀x,(hp.put cb 0 x).rd m 0=hp.rd m 0:=fun x=>zN _ _ (fun e=>h3 e.symm)
  obtain⟨hp2,a1,a2,a3,a4⟩:=ih (i+1) ((hp.put cb 0 (LI .i64 (nz (hf d (i+1))))).put m 0 [.ms cb 0 0 64 1,.sc (.int .i64 ((((d.take (i+1)).map fun n=>(n+1)/2).sum:Nat):Int))]) qc (by simpa using h1) (by simpa using h2) h3
   (by rw[zN _ _ h3,qr]) (qr _ _ _)
  refine⟨hp2,?_,a2,by rw[a3];rfl,fun c c1 c2=>by rw[a4 c c1 c2];simp[Hp.put,c1,c2]⟩
  rw[<-a1,qau]
  generalize nz (hf d (i+1))=L1 at*
  generalize nz (hf d i)=L0 at*
  generalize((((d.take (i+1)).map fun n=>(n+1)/2).sum:Nat):Int)=S1 at*
  generalize((((d.take i).map fun n=>(n+1)/2).sum:Nat):Int)=S0 at*
  generalize(((d.getD i 0+1)/2:Nat):Int)=y2 at*
  generalize((d.getD i 0+1:Nat):Int)=y1 at*
  generalize((d.getD i 0:Nat):Int)=y0 at*
  generalize((i+1:Nat):Int)=I at*
  have gs1:∀(x:AV) (v:Value),qj [x,.sc v] 1=some v:=fun _ _=>rfl
  have gc0:∀(x:AV) (l:List AV),qo (x::l) 0=some x:=fun _ _=>rfl
  have pn:∀(x y z:AV),qm [x,y] 1 [z]=some [x,z]:=fun _ _ _=>rfl
  simp[hlt,hms,ix,h4,g,h5,gc0,w1,q2,p,r5,gs1,qr,g2,w3,pn,w4]
theorem qw4(hp:Hp)(m cb x:Nat)(cs:List Nat)(h:MW hp m cb cs)(hm:okM cs)(hx:x<64):
 ∃hp',run cxX 213 [.ptr m 0 0,.sc (.int .i64 (x:Int))] hp=some (.tup [],hp')/\MW hp' m cb (see cs x)/\hp'.next=hp.next/\∀c,c≠m->c≠cb->hp'.get c=hp.get c:=by
 have sz:=Wh hp m cb cs h
 obtain⟨h1,h2,h3,h4,h5⟩:=h
 obtain⟨m1,m2,m3⟩:=hm
 have hms:∀a b c d e,qK (.ms a b c d e)=some (a,b,c,d,e):=fun _ _ _ _ _=>rfl
 have hln:∀a b c d e,zA (.ms a b c d e)=some d:=fun _ _ _ _ _=>rfl
 have hn0:¬((x:Int)<0):=qc
 have hge:¬((cs.length:Int)<=(x:Int)):=qc
 have ix:idx cs.length (.int .i64 (x:Int))=some x:=zd .i64 qc
 have g:=vK .i64 (nz cs) x qh
 rw[ZQ cs x qc]at g
 have st:=zU cs x qc
 have sl:=zP cs (x+1)
 have ss:=qkt cs x (cs.getD x 0+24) qc
 have w1:IntKind.i64.wrap (((cs.getD x 0:Nat):Int)+24)=((cs.getD x 0+24:Nat):Int):=qi
 have p:=QM .i64 (nz cs) x ((cs.getD x 0+24:Nat):Int) qh
 have es:(nz cs).set x ((cs.getD x 0+24:Nat):Int)=nz (cs.set x (cs.getD x 0+24)):=by unfold nz;rw[List.map_set]
 rw[es]at p
 have r5:∀y,(hp.put cb 0 y).rd m 0=hp.rd m 0:=fun y=>zN _ _ (fun e=>h3 e.symm)
 have w2:IntKind.i64.wrap (((cs.sum:Nat):Int)+24)=(((cs.set x (cs.getD x 0+24)).sum:Nat):Int):=qi
 have dl:(cs.set x (cs.getD x 0+24)).length=64:=by simp[m1]
 have gs1:∀(x:AV) (v:Value),qj [x,.sc v] 1=some v:=fun _ _=>rfl
 have gc0:∀(x:AV) (l:List AV),qo (x::l) 0=some x:=fun _ _=>rfl
 have pn:∀(x y z:AV),qm [x,y] 1 [z]=some [x,z]:=fun _ _ _=>rfl
 rw[m1]at h5 ix sz hge
 unfold see
 generalize cs.set x (cs.getD x 0+24)=d at*
 by_cases hle:d.sum<=4096
 ·rw[if_pos hle]
  refine⟨(hp.put cb 0 (LI .i64 (nz d))).put m 0 [.ms cb 0 0 64 1,.sc (.int .i64 (d.sum:Nat))],?_,⟨h1,h2,h3,by rw[zN _ _ h3,qr],by rw[qr,dl]⟩,rfl,fun c c1 c2=>by simp[Hp.put,c1,c2]⟩
  have hle':((d.sum:Nat):Int)<=4096:=qc
  rw[E213]
  have b1:B213_1 (.ptr m 0 0) (.int .i64 (x:Int)) hp=some (.tup [],(hp.put cb 0 (LI .i64 (nz d))).put m 0 [.ms cb 0 0 64 1,.sc (.int .i64 (d.sum:Nat))]):=by
   rw[qav]
   generalize((d.sum:Nat):Int)=D at*
   generalize((cs.getD x 0+24:Nat):Int)=y1 at*
   generalize((cs.getD x 0:Nat):Int)=y0 at*
   simp[h5,gc0,hms,ix,h4,g,w1,p,r5,gs1,w2,pn,qr,hle']
  have hge2:¬((64:Int)<=(x:Int)):=qc
  simp[hn0,sz,hge2,b1]
 ·rw[if_neg hle]
  have e0:hf d 0=d:=by unfold hf;simp
  obtain⟨hp2,a1,a2,a3,a4⟩:=qru m cb d dl qc 64 0 ((hp.put cb 0 (LI .i64 (nz d))).put m 0 [.ms cb 0 0 64 1,.sc (.int .i64 0)]) rfl h1 h2 h3 (by rw[zN _ _ h3,qr,e0]) (by rw[qr];rfl)
  refine⟨hp2,?_,a2,by rw[a3];rfl,fun c c1 c2=>by rw[a4 c c1 c2];simp[Hp.put,c1,c2]⟩
  have hle':¬(((d.sum:Nat):Int)<=4096):=qc
  rw[E213]
  have b1:B213_1 (.ptr m 0 0) (.int .i64 (x:Int)) hp=some (.tup [],hp2):=by
   rw[<-a1,qav]
   generalize((d.sum:Nat):Int)=D at*
   generalize((cs.getD x 0+24:Nat):Int)=y1 at*
   generalize((cs.getD x 0:Nat):Int)=y0 at*
   simp[h5,gc0,hms,ix,h4,g,w1,p,r5,gs1,w2,pn,qr,hle',qx,hln]
  have hge2:¬((64:Int)<=(x:Int)):=qc
  simp[hn0,sz,hge2,b1]
abbrev EC(m:Nat)(s:En)(k:Nat)(n:Nat):List AV:=[.ptr m 0 0,.sc (.int .u64 (s.low:Int)),.sc (.int .u32 (s.width:Int)),.sc (.int .i64 (s.held:Int)),.sc (.int .u8 (s.last:Int)),.sc (.bool s.begun),S k 1 (LI .u8 s.out),.sc (.int .i64 (n:Int))]
theorem zaq(x:Nat)(hx:x<18446744073709551616)(t:TypeId)(o o':Operand):qt Tryz.prog .and t o o' (.int .u64 (x:Int)) (.int .u64 16777215)=some (.int .u64 ((x%16777216:Nat):Int)):=by
 have a:=qag x 16777215 hx qc t o o'
 have e:x&&&16777215=x%16777216:=zip x 24
 rw[e]at a
 exact a
theorem zfc{hp:Hp}{b:Nat}{x:List AV}(h:hp.rd b 0=some x):hp.get b=some (0,x):=by
 unfold Hp.rd at h
 obtain⟨p,hp1,h⟩:=bsm h
 split at h
 ·rename_i e
  cases h
  rw[hp1]
  obtain⟨p1,p2⟩:=p
  have:p1=0:=e.1
  subst this;rfl
 ·cases h
theorem QU{k b:Nat}{hp:Hp}{l:List AV}{v:Value}{K:Value->RO}(h:hp.rd b 0=some l)(g:qj l k=some v):wc k (ro (.ptr b 0 0)) hp K=K v:=by
 have g':qj l (0+k)=some v:=by rw[zha];exact g
 simp only[wc,lpS,zbo,qyk,Kw,h,g',zgh]
theorem Kp{t:TypeId}{n:Tmp}{k:IntKind}{x y:Int}{a b:RO}:iC .lss t n (.int k x) (.int k y) a b=cond (decide (x<y)) a b:=by simp only[iC,Ji,jr,zgh]
theorem quj{t:TypeId}{n:Tmp}{k:IntKind}{x y:Int}{a b:RO}:iC .geq t n (.int k x) (.int k y) a b=cond (decide (x>=y)) a b:=by simp only[iC,wX,jr,zgh]
theorem qc0(x1:AV)(v:Value)(r:List AV):qj (x1::.sc v::r) 1=some v:=rfl
section
variable (e m k n:Nat)(hk:k=1\/k=2)
include hk
theorem qkz(c:Nat)(hc:c<256):∀(f:Nat) (s:En) (hp:Hp),s.held=f->s.low<18446744073709551616->s.out.length+f<=1000000->hp.rd e 0=some (EC m s k n)->
 B212_4 (.ptr e 0 0) (.int .u8 (c:Int)) hp=some (.tup [],hp.put e 0 (EC m ⟨s.low%16777216*256,s.width,0,s.low/16777216%256,true,s.out++List.replicate f (((255+c)%256:Nat):Int)⟩ k n)):=by
 intro f
 induction f with
 |zero=>
  intro s hp hh hlow hol h
  have sh:=fun t o o'=>xN .u64 s.low 24 qg t o o' .u64
  have e24:s.low/2^24=s.low/16777216:=qc
  rw[e24]at sh
  have i24:((24:Nat):Int)=24:=rfl
  rw[i24]at sh
  have w1:IntKind.u8.wrap ((s.low/16777216:Nat):Int)=((s.low/16777216%256:Nat):Int):=by rw[xJ];rfl
  have a:=zaq s.low hlow
  have s8:∀t o o',qt Tryz.prog .shl t o o' (.int .u64 ((s.low%16777216:Nat):Int)) (.int .u64 8)=some (.int .u64 ((s.low%16777216*256:Nat):Int)):=by
   intro t o o'
   rw[jq _ _ _ _ _ _ _ _ qc]
   have e2:(2:Int)^min (8:Int).toNat IntKind.u64.bits=256:=rfl
   have e3:((s.low%16777216:Nat):Int)*256=((s.low%16777216*256:Nat):Int):=qc
   rw[e2,e3,qz qc qc]
  have hh0:(s.held:Int)=0:=qc
  rw[qax]
  obtain⟨low,width,held,last,begun,out⟩:=s
  simp only at h hh hh0 hlow sh w1 a s8
  subst hh
  simp only[EC,List.replicate_zero,zhd]at h⊢
  generalize((low%16777216*256:Nat):Int)=y1 at*
  generalize((low%16777216:Nat):Int)=y2 at*
  generalize((low/16777216%256:Nat):Int)=y3 at*
  generalize((low/16777216:Nat):Int)=y4 at*
  have gs:∀(x1 x2 x3:AV) (v:Value) (r:List AV),qj (x1::x2::x3::.sc v::r) 3=some v:=fun _ _ _ _ _=>rfl
  have gs1:∀(x1:AV) (v:Value) (r:List AV),qj (x1::.sc v::r) 1=some v:=fun _ _ _=>rfl
  have p5:∀(x0 x1 x2 x3 x4 x5 x6 x7 z:AV),qm [x0,x1,x2,x3,x4,x5,x6,x7] 5 [z]=some [x0,x1,x2,x3,x4,z,x6,x7]:=fun _ _ _ _ _ _ _ _ _=>rfl
  have p4:∀(x0 x1 x2 x3 x4 x5 x6 x7 z:AV),qm [x0,x1,x2,x3,x4,x5,x6,x7] 4 [z]=some [x0,x1,x2,x3,z,x5,x6,x7]:=fun _ _ _ _ _ _ _ _ _=>rfl
  have p1:∀(x0 x1 x2 x3 x4 x5 x6 x7 z:AV),qm [x0,x1,x2,x3,x4,x5,x6,x7] 1 [z]=some [x0,z,x2,x3,x4,x5,x6,x7]:=fun _ _ _ _ _ _ _ _ _=>rfl
  simp[h,gs,gs1,sh,wU,w1,p5,p4,p1,qx,qr,qaw,a,s8,-qO]
 |succ f ih=>
  intro s hp hh hlow hol h
  obtain⟨low,width,held,last,begun,out⟩:=s
  simp only at h hh hlow hol
  subst hh
  have hpos:((f+1:Nat):Int)>0:=qc
  have w1:IntKind.u8.wrap (255+(c:Int))=(((255+c)%256:Nat):Int):=by rw[xJ];rfl
  have w2:IntKind.i64.wrap (((f+1:Nat):Int)-1)=(f:Int):=qi
  have ap:=qdf .u8 out k hk 1 qg (((255+c)%256:Nat):Int) qc
  have hi:=ih ⟨low,width,f,last,begun,out++[(((255+c)%256:Nat):Int)]⟩ (hp.put e 0 (EC m ⟨low,width,f,last,begun,out++[(((255+c)%256:Nat):Int)]⟩ k n)) rfl hlow qh (qr _ _ _)
  rw[qx]at hi
  have e1:out++List.replicate (f+1) (((255+c)%256:Nat):Int)=out++[(((255+c)%256:Nat):Int)]++List.replicate f (((255+c)%256:Nat):Int):=by simp[zil]
  simp only[e1]
  rw[<-hi,qax]
  generalize(((255+c)%256:Nat):Int)=y at*
  generalize((f+1:Nat):Int)=F at*
  simp only[EC]at h
  have gs:∀(x1 x2 x3:AV) (v:Value) (r:List AV),qj (x1::x2::x3::.sc v::r) 3=some v:=fun _ _ _ _ _=>rfl
  have gc6:∀(x0 x1 x2 x3 x4 x5 x6 x7:AV),qo [x0,x1,x2,x3,x4,x5,x6,x7] 6=some x6:=fun _ _ _ _ _ _ _ _=>rfl
  have p6:∀(x0 x1 x2 x3 x4 x5 x6 x7 z:AV),qm [x0,x1,x2,x3,x4,x5,x6,x7] 6 [z]=some [x0,x1,x2,x3,x4,x5,z,x7]:=fun _ _ _ _ _ _ _ _ _=>rfl
  have p3:∀(x0 x1 x2 x3 x4 x5 x6 x7 z:AV),qm [x0,x1,x2,x3,x4,x5,x6,x7] 3 [z]=some [x0,x1,x2,z,x4,x5,x6,x7]:=fun _ _ _ _ _ _ _ _ _=>rfl
  have st6:∀(x0 x1 x2 x3 x4 x5 x6 x7 z:AV),[x0,x1,x2,x3,x4,x5,x6,x7].set 6 z=[x0,x1,x2,x3,x4,x5,z,x7]:=fun _ _ _ _ _ _ _ _ _=>rfl
  have w9:IntKind.i64.wrap (f:Int)=(f:Int):=qk qc qc
  simp[h,gs,hpos,gc6,w1,kC,ap,st6,qr,p6,qx,w2,w9,p3]
theorem qw0(s:En)(hp:Hp)(hlow:s.low<18446744073709551616)(hol:s.out.length+s.held+1<=1000000)(h:hp.rd e 0=some (EC m s k n))(c0:Nat)(hc0:c0=s.low/4294967296):
 B212_1 (.ptr e 0 0) hp=some (.tup [],hp.put e 0 (EC m ⟨s.low%16777216*256,s.width,0,s.low/16777216%256,true,s.out++(if s.begun then [(((s.last+c0%256)%256:Nat):Int)]else [])++List.replicate s.held (((255+c0%256)%256:Nat):Int)⟩ k n)):=by
 have gs4:∀(x0 x1 x2 x3:AV) (v:Value) (r:List AV),qj (x0::x1::x2::x3::.sc v::r) 4=some v:=fun _ _ _ _ _ _=>rfl
 have gs5:∀(x0 x1 x2 x3 x4:AV) (v:Value) (r:List AV),qj (x0::x1::x2::x3::x4::.sc v::r) 5=some v:=fun _ _ _ _ _ _ _=>rfl
 have gc6:∀(x0 x1 x2 x3 x4 x5 x6 x7:AV),qo [x0,x1,x2,x3,x4,x5,x6,x7] 6=some x6:=fun _ _ _ _ _ _ _ _=>rfl
 have p6:∀(x0 x1 x2 x3 x4 x5 x6 x7 z:AV),qm [x0,x1,x2,x3,x4,x5,x6,x7] 6 [z]=some [x0,x1,x2,x3,x4,x5,z,x7]:=fun _ _ _ _ _ _ _ _ _=>rfl
 have st6:∀(x0 x1 x2 x3 x4 x5 x6 x7 z:AV),[x0,x1,x2,x3,x4,x5,x6,x7].set 6 z=[x0,x1,x2,x3,x4,x5,z,x7]:=fun _ _ _ _ _ _ _ _ _=>rfl
 have sh32:∀t o o',qt Tryz.prog .shr t o o' (.int .u64 (s.low:Int)) (.int .u64 32)=some (.int .u64 (c0:Int)):=by
  intro t o o'
  have a:=xN .u64 s.low 32 qg t o o' .u64
  have e32:s.low/2^32=c0:=qc
  rw[e32]at a
  exact a
 clear hc0
 have w1:IntKind.u8.wrap (c0:Int)=((c0%256:Nat):Int):=by rw[xJ];rfl
 have w2:IntKind.u8.wrap ((s.last:Int)+((c0%256:Nat):Int))=(((s.last+c0%256)%256:Nat):Int):=by rw[xJ];rfl
 have ap:=qdf .u8 s.out k hk 1 qg (((s.last+c0%256)%256:Nat):Int) qc
 rw[qpq]
 cases hb:s.begun
 ·have f4:=qkz e m k n hk (c0%256) qc s.held s hp rfl hlow qc h
  rw[if_neg qg,zhd,<-f4]
  simp only[EC,hb]at h
  generalize((c0%256:Nat):Int)=cc at*
  simp[h,qc0,sh32,wU,w1,gs5]
 ·rw[if_pos rfl]
  have f4:=qkz e m k n hk (c0%256) qc s.held ⟨s.low,s.width,s.held,s.last,true,s.out++[(((s.last+c0%256)%256:Nat):Int)]⟩ (hp.put e 0 (EC m ⟨s.low,s.width,s.held,s.last,true,s.out++[(((s.last+c0%256)%256:Nat):Int)]⟩ k n)) rfl hlow qh (qr _ _ _)
  rw[qx]at f4
  rw[<-f4]
  simp only[EC,hb]at h⊢
  have hg:=zfc h
  have sg:∀X:AV,wB (AV.ptr e 0 4,1) hp.get (hp.put e 0 [AV.ptr m 0 0,.sc (.int .u64 (s.low:Int)),.sc (.int .u32 (s.width:Int)),.sc (.int .i64 (s.held:Int)),.sc (.int .u8 (s.last:Int)),.sc (.bool true),X,.sc (.int .i64 (n:Int))]).get=some ():=by
   intro X
   refine qd2 ?_
   have e1:∀Y:List AV,(hp.put e 0 Y).get e=some (0,Y):=fun Y=>by simp[Hp.put]
   unfold ym
   simp only[wV,Kw,zgh,hg,e1]
   rfl
  generalize(((s.last+c0%256)%256:Nat):Int)=ll at*
  generalize((c0%256:Nat):Int)=cc at*
  clear f4
  simp[h,qc0,sh32,wU,w1,gs5,gc6,st6,qr,gs4,w2,kC,ap,p6,qx,sg]
omit hk in
theorem qwz(s:En)(hp:Hp)(hlow:s.low<18446744073709551616)(hheld:s.held<1000000)(h:hp.rd e 0=some (EC m s k n)):
 B212_8 (.ptr e 0 0) hp=some (.tup [],hp.put e 0 (EC m ⟨s.low%16777216*256,s.width,s.held+1,s.last,s.begun,s.out⟩ k n)):=by
 have gs3:∀(x1 x2 x3:AV) (v:Value) (r:List AV),qj (x1::x2::x3::.sc v::r) 3=some v:=fun _ _ _ _ _=>rfl
 have p3:∀(x0 x1 x2 x3 x4 x5 x6 x7 z:AV),qm [x0,x1,x2,x3,x4,x5,x6,x7] 3 [z]=some [x0,x1,x2,z,x4,x5,x6,x7]:=fun _ _ _ _ _ _ _ _ _=>rfl
 have p1:∀(x0 x1 x2 x3 x4 x5 x6 x7 z:AV),qm [x0,x1,x2,x3,x4,x5,x6,x7] 1 [z]=some [x0,z,x2,x3,x4,x5,x6,x7]:=fun _ _ _ _ _ _ _ _ _=>rfl
 have w3:IntKind.i64.wrap ((s.held:Int)+1)=((s.held+1:Nat):Int):=qi
 have a24:=zaq s.low hlow
 have s8:∀t o o',qt Tryz.prog .shl t o o' (.int .u64 ((s.low%16777216:Nat):Int)) (.int .u64 8)=some (.int .u64 ((s.low%16777216*256:Nat):Int)):=by
  intro t o o'
  rw[jq _ _ _ _ _ _ _ _ qc]
  have e2:(2:Int)^min (8:Int).toNat IntKind.u64.bits=256:=rfl
  have e3:((s.low%16777216:Nat):Int)*256=((s.low%16777216*256:Nat):Int):=qc
  rw[e2,e3,qz qc qc]
 simp only[EC]at h⊢
 rw[qpp]
 generalize((s.low%16777216*256:Nat):Int)=y1 at*
 generalize((s.low%16777216:Nat):Int)=y2 at*
 generalize((s.held+1:Nat):Int)=hh at*
 simp[h,gs3,w3,p3,qr,qx,qaw,qc0,a24,s8,p1,-qO]
theorem We(s:En)(hp:Hp)(hlow:s.low<18446744073709551616)(hheld:s.held<1000000)(hol:s.out.length+s.held+1<=1000000)(h:hp.rd e 0=some (EC m s k n)):
 run cxX 212 [.ptr e 0 0] hp=some (.tup [],hp.put e 0 (EC m (sh s) k n)):=by
 have s1:=qw0 e m k n hk s hp hlow hol h _ rfl
 have s8:=qwz e m k n s hp hlow hheld h
 have hR:hp.rd e 0=some (AV.ptr m 0 0::.sc (.int .u64 (s.low:Int))::(EC m s k n).drop 2):=h
 rw[E212]
 by_cases hA:s.low<4278190080\/4294967296<=s.low
 ·have es:sh s=⟨s.low%16777216*256,s.width,0,s.low/16777216%256,true,s.out++(if s.begun then [(((s.last+s.low/4294967296%256)%256:Nat):Int)]else [])++List.replicate s.held (((255+s.low/4294967296%256)%256:Nat):Int)⟩:=by
   unfold sh;rw[if_pos hA]
  rw[<-es]at s1
  by_cases h1:s.low<4278190080
  ·have d1:decide ((s.low:Int)<Int.ofNat 4278190080)=true:=decide_eq_true (by show(s.low:Int)<((4278190080:Nat):Int);omega)
   rw[QU hR (qc0 _ _ _),Kp,d1,cond_true,s1]
  ·have d1:decide ((s.low:Int)<Int.ofNat 4278190080)=false:=decide_eq_false (by show ¬((s.low:Int)<((4278190080:Nat):Int));omega)
   have d2:decide ((s.low:Int)>=Int.ofNat 4294967296)=true:=decide_eq_true (by show(s.low:Int)>=((4294967296:Nat):Int);omega)
   rw[QU hR (qc0 _ _ _),Kp,d1,cond_false,QU hR (qc0 _ _ _),quj,d2,cond_true,s1]
 ·have es:sh s=⟨s.low%16777216*256,s.width,s.held+1,s.last,s.begun,s.out⟩:=by
   unfold sh;rw[if_neg hA]
  rw[<-es]at s8
  have d1:decide ((s.low:Int)<Int.ofNat 4278190080)=false:=decide_eq_false (by show ¬((s.low:Int)<((4278190080:Nat):Int));omega)
  have d2:decide ((s.low:Int)>=Int.ofNat 4294967296)=false:=decide_eq_false (by show ¬((s.low:Int)>=((4294967296:Nat):Int));omega)
  rw[QU hR (qc0 _ _ _),Kp,d1,cond_false,QU hR (qc0 _ _ _),quj,d2,cond_false,s8]
end
def EW(hp:Hp)(e m cb:Nat)(s:En)(cs:List Nat)(k n:Nat):Prop:=e<hp.next/\hp.rd e 0=some (EC m s k n)/\MW hp m cb cs/\e≠m/\e≠cb
def F3(e m cb:Nat)(hp hp':Hp):Prop:=hp'.next=hp.next/\∀c,c≠e->c≠m->c≠cb->hp'.get c=hp.get c
theorem F3.trans{e m cb:Nat}{a b c:Hp}(h:F3 e m cb a b)(g:F3 e m cb b c):F3 e m cb a c:=
 ⟨by rw[g.1,h.1],fun x h1 h2 h3=>by rw[g.2 x h1 h2 h3,h.2 x h1 h2 h3]⟩
theorem EW.put{hp:Hp}{e m cb:Nat}{s s':En}{cs:List Nat}{k n k' n':Nat}(h:EW hp e m cb s cs k n):EW (hp.put e 0 (EC m s' k' n')) e m cb s' cs k' n'/\F3 e m cb hp (hp.put e 0 (EC m s' k' n')):=by
 obtain⟨h1,h2,h3,h4,h5⟩:=h
 refine⟨⟨h1,qr _ _ _,h3.fr (Fm.put (X:=[e]) hp e _ qf) (by simp;exact fun q=>h4 q.symm) (by simp;exact fun q=>h5 q.symm),h4,h5⟩,rfl,fun c c1 c2 c3=>by simp[Hp.put,c1]⟩
theorem gs2E(x0 x1:AV)(v:Value)(r:List AV):qj (x0::x1::.sc v::r) 2=some v:=rfl
section
variable (e m cb k:Nat)(hk:k=1\/k=2)
include hk
theorem qn1(x:Nat)(hx:x<64)(cs:List Nat)(hm:okM cs)(n:Nat)(hn:n<1000000):∀(f:Nat) (s:En) (hp:Hp),EW hp e m cb s cs k n->Vu s s.width->s.width<4294967296->4294967296<=s.width*256^f*256->eK s+f<=900000->
 ∃hp',B147_9 (.ptr e 0 0) (.int .i64 (x:Int)) hp=some (.sc (.bool true),hp')/\EW hp' e m cb (jz f s) (see cs x) k (n+1)/\F3 e m cb hp hp':=by
 intro f
 have gs2:∀(x0 x1:AV) (v:Value) (r:List AV),qj (x0::x1::.sc v::r) 2=some v:=fun _ _ _ _=>rfl
 have gs7:∀(x0 x1 x2 x3 x4 x5 x6:AV) (v:Value),qj [x0,x1,x2,x3,x4,x5,x6,.sc v] 7=some v:=fun _ _ _ _ _ _ _ _=>rfl
 have gc0:∀(x:AV) (l:List AV),qo (x::l) 0=some x:=fun _ _=>rfl
 have p7:∀(x0 x1 x2 x3 x4 x5 x6 x7 z:AV),qm [x0,x1,x2,x3,x4,x5,x6,x7] 7 [z]=some [x0,x1,x2,x3,x4,x5,x6,z]:=fun _ _ _ _ _ _ _ _ _=>rfl
 have p2:∀(x0 x1 x2 x3 x4 x5 x6 x7 z:AV),qm [x0,x1,x2,x3,x4,x5,x6,x7] 2 [z]=some [x0,x1,z,x3,x4,x5,x6,x7]:=fun _ _ _ _ _ _ _ _ _=>rfl
 have done:∀(s:En) (hp:Hp),EW hp e m cb s cs k n->¬(s.width<16777216)->∃hp',B147_9 (.ptr e 0 0) (.int .i64 (x:Int)) hp=some (.sc (.bool true),hp')/\EW hp' e m cb s (see cs x) k (n+1)/\F3 e m cb hp hp':=by
  intro s hp h hw
  obtain⟨h1,h2,h3,h4,h5⟩:=h
  obtain⟨hp1,a1,a2,a3,a4⟩:=qw4 hp m cb x cs h3 hm hx
  have r1:hp1.rd e 0=some (EC m s k n):=by rw[rdg (a4 e h4 h5)];exact h2
  have w1:IntKind.i64.wrap ((n:Int)+1)=((n+1:Nat):Int):=qi
  have hE:EW hp1 e m cb s (see cs x) k n:=⟨by rw[a3];exact h1,r1,a2,h4,h5⟩
  obtain⟨q1,q2⟩:=hE.put (s':=s) (k':=k) (n':=n+1)
  refine⟨hp1.put e 0 (EC m s k (n+1)),?_,q1,⟨by rw[q2.1,a3],fun c c1 c2 c3=>by rw[q2.2 c c1 c2 c3,a4 c c2 c3]⟩⟩
  have d1:decide ((s.width:Int)<Int.ofNat 16777216)=false:=decide_eq_false (by show ¬((s.width:Int)<((16777216:Nat):Int));omega)
  clear hw
  simp only[EC]at h2 r1⊢
  rw[qa7]
  generalize((n+1:Nat):Int)=N at*
  rw[QU h2 (gs2E _ _ _ _),Kp,d1,cond_false]
  clear d1
  simp[h2,gs2,gc0,a1,r1,gs7,w1,p7]
 induction f with
 |zero=>
  intro s hp h ho hw hf hK
  exact done s hp h (by simp at hf;omega)
 |succ f ih=>
  intro s hp h ho hw hf hK
  by_cases hl:s.width<16777216
  ·have en:jz (f+1) s=jz f (sh (wid s (s.width*256))):=by
    show(if s.width<16777216 then _ else _)=_
    rw[if_pos hl]
   have h':Vu (wid s (s.width*256)) s.width:=ho
   obtain⟨a1,a2,a3,a4⟩:=XB (wid s (s.width*256)) s.width h' qc
   have a4:(sh (wid s (s.width*256))).width=s.width*256:=a4
   have a3:eK (sh (wid s (s.width*256)))=eK s+1:=a3
   have hf2:4294967296<=s.width*256*256^f*256:=by
    rw[ziw]at hf
    have e:s.width*(256^f*256)*256=s.width*256*256^f*256:=by
     rw[zic s.width 256,zhe 256 (256^f)]
    rwa [e]at hf
   obtain⟨q1,q2⟩:=h.put (s':=wid s (s.width*256)) (k':=k) (n':=n)
   have hlow:s.low<18446744073709551616:=by have:=ho.1;omega
   have hkk:s.out.length+s.begun.toNat+s.held<=900000:=by have:eK s=s.out.length+s.begun.toNat+s.held:=rfl;omega
   have sf:=We e m k n hk (wid s (s.width*256)) _ hlow (by show s.held<_;omega) (by show s.out.length+s.held+1<=_;omega) q1.2.1
   rw[qx]at sf
   obtain⟨v1,v2⟩:=h.put (s':=sh (wid s (s.width*256))) (k':=k) (n':=n)
   obtain⟨hp2,b1,b2,b3⟩:=ih (sh (wid s (s.width*256))) _ v1 (by rw[a4];exact a1) (by rw[a4];omega) (by rw[a4];exact hf2) qc
   rw[en]
   refine⟨hp2,?_,b2,v2.trans b3⟩
   have d1:decide ((s.width:Int)<Int.ofNat 16777216)=true:=decide_eq_true (by show(s.width:Int)<((16777216:Nat):Int);omega)
   have s8:∀t o o',qt Tryz.prog .shl t o o' (.int .u32 (s.width:Int)) (.int .u64 8)=some (.int .u32 ((s.width*256:Nat):Int)):=by
    intro t o o'
    rw[jq _ _ _ _ _ _ _ _ qc]
    have e2:(2:Int)^min (8:Int).toNat IntKind.u32.bits=256:=rfl
    have e3:(s.width:Int)*256=((s.width*256:Nat):Int):=qc
    rw[e2,e3,qV qc qc]
   have h2:=h.2.1
   have ew:EC m (wid s (s.width*256)) k n=[.ptr m 0 0,.sc (.int .u64 (s.low:Int)),.sc (.int .u32 ((s.width*256:Nat):Int)),.sc (.int .i64 (s.held:Int)),.sc (.int .u8 (s.last:Int)),.sc (.bool s.begun),S k 1 (LI .u8 s.out),.sc (.int .i64 (n:Int))]:=rfl
   rw[ew]at sf
   simp only[EC]at h2
   rw[<-b1,qa7]
   generalize((s.width*256:Nat):Int)=W at*
   rw[QU h2 (gs2E _ _ _ _),Kp,d1,cond_true]
   clear d1
   simp[h2,gs2,s8,p2,sf]
  ·have en:jz (f+1) s=s:=by
    show(if s.width<16777216 then _ else _)=_
    rw[if_neg hl]
   rw[en]
   exact done s hp h hl
theorem qsg(x:Nat)(hx:x<64)(cs:List Nat)(hm:okM cs)(n:Nat)(hn:n<1000000)(s:En)(hp:Hp)(h:EW hp e m cb s cs k n)(ho:Vu s s.width)(hw:16777216<=s.width/\s.width<4294967296)(hK:eK s+4<=900000):
 ∃hp',run cxX 147 [.ptr e 0 0,.sc (.int .i64 (x:Int))] hp=some (.sc (.bool true),hp')/\EW hp' e m cb (jz 4 (YK s cs x)) (see cs x) k (n+1)/\F3 e m cb hp hp':=by
 obtain⟨m1,m2,m3⟩:=hm
 have hn1:1<=cs.getD x 0:=by
  rw[zgp,zgl qc]
  exact m3 _ (zhx _)
 have ht:=zU cs x qc
 have hta:=zP cs (x+1)
 have hpart:4096<=s.width/cs.sum:=by
  rw[zka qc]
  have:4096*cs.sum<=4096*4096:=zhz _ m2
  omega
 have hmul:s.width/cs.sum*cs.sum<=s.width:=zjr _ _
 have hsum:s.width/cs.sum*(cs.take x).sum+s.width/cs.sum*cs.getD x 0<=s.width:=by
  rw[<-Nat.mul_add,<-ht]
  exact zhw (zhz _ hta) hmul
 have hge:s.width/cs.sum*1<=s.width/cs.sum*cs.getD x 0:=zhz _ hn1
 have hpw:s.width/cs.sum<=s.width:=zkh _ _
 obtain⟨o1,o2,o3,o4⟩:=ho
 have ok:Vu (YK s cs x) (YK s cs x).width:=by
  refine⟨?_,o2,?_,fun q=>?_⟩
  ·show s.low+s.width/cs.sum*(cs.take x).sum+s.width/cs.sum*cs.getD x 0<=_;omega
  ·show 0<s.width/cs.sum*cs.getD x 0;omega
  ·have:=o4 q
   show s.low+s.width/cs.sum*(cs.take x).sum+s.width/cs.sum*cs.getD x 0<=_;omega
 obtain⟨q1,q2⟩:=h.put (s':=YK s cs x) (k':=k) (n':=n)
 obtain⟨hp1,b1,b2,b3⟩:=qn1 e m cb k hk x hx cs ⟨m1,m2,m3⟩ n hn 4 (YK s cs x) _ q1 ok (by show s.width/cs.sum*cs.getD x 0<_;omega) (by
  show 4294967296<=s.width/cs.sum*cs.getD x 0*256^4*256
  have e:(256:Nat)^4=4294967296:=qg
  rw[e]
  omega) hK
 refine⟨hp1,?_,b2,q2.trans b3⟩
 have pt:=qr2 hp m cb cs h.2.2.1 qc m1 x hx
 have al:=qr5 hp m cb cs h.2.2.1
 have h2:=h.2.1
 have en:EC m (YK s cs x) k n=[.ptr m 0 0,.sc (.int .u64 ((s.low+s.width/cs.sum*(cs.take x).sum:Nat):Int)),.sc (.int .u32 ((s.width/cs.sum*cs.getD x 0:Nat):Int)),.sc (.int .i64 (s.held:Int)),.sc (.int .u8 (s.last:Int)),.sc (.bool s.begun),S k 1 (LI .u8 s.out),.sc (.int .i64 (n:Int))]:=rfl
 rw[en]at b1
 have gs2:∀(x0 x1:AV) (v:Value) (r:List AV),qj (x0::x1::.sc v::r) 2=some v:=fun _ _ _ _=>rfl
 have gc0:∀(x:AV) (l:List AV),qo (x::l) 0=some x:=fun _ _=>rfl
 have p1:∀(x0 x1 x2 x3 x4 x5 x6 x7 z:AV),qm [x0,x1,x2,x3,x4,x5,x6,x7] 1 [z]=some [x0,z,x2,x3,x4,x5,x6,x7]:=fun _ _ _ _ _ _ _ _ _=>rfl
 have p2:∀(x0 x1 x2 x3 x4 x5 x6 x7 z:AV),qm [x0,x1,x2,x3,x4,x5,x6,x7] 2 [z]=some [x0,x1,z,x3,x4,x5,x6,x7]:=fun _ _ _ _ _ _ _ _ _=>rfl
 have w1:IntKind.u32.wrap ((cs.sum:Nat):Int)=((cs.sum:Nat):Int):=qV qc qc
 have qd:∀t o o',qt Tryz.prog .quo t o o' (.int .u32 (s.width:Int)) (.int .u32 (cs.sum:Nat))=some (.int .u32 ((s.width/cs.sum:Nat):Int)):=by
  intro t o o'
  rw[Jh _ _ _ _ _ _ _ qc,ziy qc]
  have e:(s.width:Int)/((cs.sum:Nat):Int)=((s.width/cs.sum:Nat):Int):=qf
  rw[e,qV qc qc]
 have hcx:cs.getD x 0<=4096:=qc
 have htx:(cs.take x).sum<=4096:=qc
 simp only[EC]at h2
 rw[E147]
 have hz:¬(cs.getD x 0=0):=qc
 have e1:((s.width/cs.sum:Nat):Int)*(((cs.take x).sum:Nat):Int)=((s.width/cs.sum*(cs.take x).sum:Nat):Int):=qf
 have e2:((s.width/cs.sum:Nat):Int)*((cs.getD x 0:Nat):Int)=((s.width/cs.sum*cs.getD x 0:Nat):Int):=qf
 generalize hA:s.width/cs.sum*(cs.take x).sum=A at*
 generalize hB:s.width/cs.sum*cs.getD x 0=B at*
 generalize s.width/cs.sum=p at*
 generalize(cs.take x).sum=tk at*
 generalize cs.getD x 0=gx at*
 have w2:IntKind.u64.wrap (p:Int)=(p:Int):=qz qc qc
 have w3:IntKind.u64.wrap (tk:Int)=(tk:Int):=qz qc qc
 have w4:IntKind.u64.wrap ((p:Int)*(tk:Int))=(A:Int):=by rw[e1,qz qc qc]
 have w5:IntKind.u64.wrap ((s.low:Int)+(A:Int))=((s.low+A:Nat):Int):=by rw[qz]<;>omega
 have w6:IntKind.u32.wrap (gx:Int)=(gx:Int):=qV qc qc
 have w7:IntKind.u32.wrap ((p:Int)*(gx:Int))=(B:Int):=by rw[e2,qV qc qc]
 generalize((s.low+A:Nat):Int)=LA at*
 simp[h2,gc0,pt,hz,gs2,al,Jc,w1,qd,qc0,zp,w2,jB,w3,w4,w5,p1,w6,w7,qr,p2,qx,b1]
end
theorem qyi:∀(f:Nat) (s:En),s.width<4294967296->(jz f s).width<4294967296:=by
 intro f
 induction f with
 |zero=>intro s h;exact h
 |succ f ih=>
  intro s h
  unfold jz
  split
  ·apply ih
   have:(sh (wid s (s.width*256))).width=s.width*256:=by unfold sh;split<;>rfl
   rw[this];omega
  ·exact h
theorem zac{B d:Nat}(h1:1<=B)(h2:B*256^d<=4294967296):d<=4:=by
 by_cases h:d<=4
 ·exact h
 ·have h3:(256:Nat)^5<=256^d:=zie qg qc
  have h4:1*256^d<=B*256^d:=zgz _ h1
  have h5:(256:Nat)^5=1099511627776:=qg
  omega
theorem qf8(b m n:Nat):∀(f i:Nat) (s:En) (hp:Hp),i+f=5->Vu s 1->eK s+f<=950000->hp.rd b 0=some (EC m s 1 n)->
 ∃s',(s'=(Nat.rec s (fun _ t=>sh t) f:En))/\∃hp',B148_6 (.ptr b 0 0) (.int .i64 (i:Int)) hp=some (S 1 1 (LI .u8 s'.out),hp')/\hp'.next=hp.next/\∀c,c≠b->hp'.get c=hp.get c:=by
 intro f
 induction f with
 |zero=>
  intro i s hp h ho hK hr
  have e:i=5:=qc
  subst e
  refine⟨s,rfl,hp.put b 0 ((EC m s 1 n).set 6 (ro1 (S 1 1 (LI .u8 s.out)))),?_,rfl,fun c hc=>by simp[Hp.put,hc]⟩
  rw[qa6]
  have gc6:∀(x0 x1 x2 x3 x4 x5 x6 x7:AV),qo [x0,x1,x2,x3,x4,x5,x6,x7] 6=some x6:=fun _ _ _ _ _ _ _ _=>rfl
  simp only[EC]at hr⊢
  simp[hr,gc6]
 |succ f ih=>
  intro i s hp h ho hK hr
  have s1:=XB s 1 ho qc
  have hkk:eK s=s.out.length+s.begun.toNat+s.held:=rfl
  have sf:=We b m 1 n (.inl rfl) s hp (by have:=ho.1;omega) qc qc hr
  obtain⟨s',e1,hp2,a1,a2,a3⟩:=ih (i+1) (sh s) (hp.put b 0 (EC m (sh s) 1 n)) qc (JM s1.1 qc qc) (by rw[s1.2.2.1];omega) (qr _ _ _)
  have er:∀(f:Nat) (s:En),(Nat.rec (sh s) (fun _ t=>sh t) f:En)=sh (Nat.rec s (fun _ t=>sh t) f:En):=by
   intro f s
   induction f with
   |zero=>rfl
   |succ f ihf=>show sh _=sh (sh _);rw[ihf]
  refine⟨s',by rw[e1,er],hp2,?_,by rw[a2];rfl,fun c hc=>by rw[a3 c hc];simp[Hp.put,hc]⟩
  have hlt:(i:Int)<5:=qc
  have w1:IntKind.i64.wrap ((i:Int)+1)=((i+1:Nat):Int):=qi
  rw[<-a1,qa6]
  generalize((i+1:Nat):Int)=I at*
  simp[hlt,sf,w1]
theorem qio(e m n k:Nat)(s:En)(hp:Hp)(he:e<hp.next)(ho:Vu s 1)(hK:eK s+5<=950000)(hr:hp.rd e 0=some (EC m s k n)):
 ∃hp',run cxX 148 [.ptr e 0 0] hp=some (S 1 1 (LI .u8 (sh (sh (sh (sh (sh s))))).out),hp')/\Fm [] hp hp':=by
 have hkk:eK s=s.out.length+s.begun.toNat+s.held:=rfl
 obtain⟨s',e1,hp2,a1,a2,a3⟩:=qf8 hp.next m n 5 0 s (hp.new (EC m s 1 n)) rfl ho hK (qB _ _)
 have e1:s'=sh (sh (sh (sh (sh s)))):=e1
 rw[e1]at a1
 refine⟨hp2,?_,by rw[a2];simp,fun c hc _=>by
  have:c≠hp.next:=qc
  rw[a3 c this];simp[Hp.new,this]⟩
 have gn:∀(x0 x1 x2 x3 x4 x5 x6 x7:AV),qn [x0,x1,x2,x3,x4,x5,x6,x7] 0 8=some [x0,x1,x2,x3,x4,x5,x6,x7]:=fun _ _ _ _ _ _ _ _=>rfl
 have gc6:∀(x0 x1 x2 x3 x4 x5 x6 x7:AV),qo [x0,x1,x2,x3,x4,x5,x6,x7] 6=some x6:=fun _ _ _ _ _ _ _ _=>rfl
 have p8:∀(a0 a1 a2 a3 a4 a5 a6 a7 x0 x1 x2 x3 x4 x5 x6 x7:AV),qm [a0,a1,a2,a3,a4,a5,a6,a7] 0 [x0,x1,x2,x3,x4,x5,x6,x7]=some [x0,x1,x2,x3,x4,x5,x6,x7]:=fun _ _ _ _ _ _ _ _ _ _ _ _ _ _ _ _=>rfl
 have p6:∀(x0 x1 x2 x3 x4 x5 x6 x7 z:AV),qm [x0,x1,x2,x3,x4,x5,x6,x7] 6 [z]=some [x0,x1,x2,x3,x4,x5,z,x7]:=fun _ _ _ _ _ _ _ _ _=>rfl
 have ap:=fun k=>Va .u8 [] 1 (.inl rfl) 1 qg k s.out qh
 simp at ap
 have hne:e≠hp.next:=qc
 have r1:∀X,(hp.new X).rd e 0=hp.rd e 0:=fun X=>jE hp X hne
 generalize(sh (sh (sh (sh (sh s))))).out=O at*
 simp only[EC]at hr a1
 rw[E148]
 simp at a1
 simp[hr,gn,qB,zW,p8,kC,r1,gc6,ap,p6,a1]
theorem qie(hp:Hp):∃hp' e m cb,run cxX 146 [.sc (.int .i64 64)] hp=some (.ptr e 0 0,hp')/\EW hp' e m cb en0 cs0 2 0/\hp.next<=e/\hp.next<=m/\hp.next<=cb/\hp.next<=hp'.next/\∀c,c<hp.next->hp'.get c=hp.get c:=by
 obtain⟨hp1,cb,a1,a2,a3,a4,a5⟩:=qr4 hp
 have hcb:=a2.2.1
 have hm:=a2.1
 refine⟨hp1.new (EC hp.next en0 2 0),hp1.next,hp.next,cb,?_,⟨qf,qB _ _,a2.fr (Fm.new [] hp1 _) qf qf,qc,qc⟩,a4,zgm _,qc,qh,fun c hc=>by
  have:c≠hp1.next:=qc
  rw[<-a5 c hc]
  simp[Hp.new,this]⟩
 have p0:∀(x0 x1 x2 x3 x4 x5 x6 x7 z:AV),qm [x0,x1,x2,x3,x4,x5,x6,x7] 0 [z]=some [z,x1,x2,x3,x4,x5,x6,x7]:=fun _ _ _ _ _ _ _ _ _=>rfl
 have p2:∀(x0 x1 x2 x3 x4 x5 x6 x7 z:AV),qm [x0,x1,x2,x3,x4,x5,x6,x7] 2 [z]=some [x0,x1,z,x3,x4,x5,x6,x7]:=fun _ _ _ _ _ _ _ _ _=>rfl
 rw[E146]
 simp[a1,p0,p2]
 rfl
theorem qot(l:List Nat)(k' e m cb:Nat)(hl:l.length<=100000)(h64:∀x∈l,x<64):∀(r:List Nat) (i:Nat) (s:En) (cs:List Nat) (hp:Hp),l.drop i=r->i+r.length=l.length->EW hp e m cb s cs 2 i->okM cs->Vu s s.width->16777216<=s.width/\s.width<4294967296->eK s<=4*i->
 ∃hp' cs',B74_5 (.ptr e 0 0) (S k' 1 (LI .u8 (nz l))) (.int .i64 (l.length:Int)) (.int .i64 (i:Int)) hp=B74_5 (.ptr e 0 0) (S k' 1 (LI .u8 (nz l))) (.int .i64 (l.length:Int)) (.int .i64 (l.length:Int)) hp'/\
  EW hp' e m cb (enc cs s r) cs' 2 l.length/\F3 e m cb hp hp'/\Vu (enc cs s r) (enc cs s r).width/\eK (enc cs s r)<=4*l.length:=by
 intro r
 induction r with
 |nil=>
  intro i s cs hp h hil hE hm ho hw hK
  have e:i=l.length:=by simpa using hil
  subst e
  exact⟨hp,cs,rfl,hE,⟨rfl,fun _ _ _ _=>rfl⟩,ho,hK⟩
 |cons x r ih=>
  intro i s cs hp h hil hE hm ho hw hK
  obtain⟨e1,e2,hi,e3⟩:=qu h
  simp only[zgk]at hil
  have hx:x<64:=h64 x (by rw[<-e3];exact zhx _)
  obtain⟨d,b1,b2,b3,b4,b5,b6,b7⟩:=qj8 s cs x hm hx ho ⟨hw.1,Nat.le_of_lt hw.2⟩
  have hd:d<=4:=zac b7 (by rw[<-b2];exact b6)
  have hlt2:(jz 4 (YK s cs x)).width<4294967296:=by
   apply qyi
   show s.width/cs.sum*cs.getD x 0<_
   have ht:=zU cs x (by have:=hm.1;omega)
   have hta:=zP cs (x+1)
   have hmul:s.width/cs.sum*cs.sum<=s.width:=zjr _ _
   have hle:s.width/cs.sum*cs.getD x 0<=s.width/cs.sum*cs.sum:=zhz _ qc
   omega
  obtain⟨hp1,c1,c2,c3⟩:=qsg e m cb 2 (.inr rfl) x hx cs hm i qc s hp hE ho hw qc
  obtain⟨hp2,cs2,d1,d2,d3,d4,d5⟩:=ih (i+1) (jz 4 (YK s cs x)) (see cs x) hp1 e2 qc c2 (qh4 hm hx) b4 ⟨b5,hlt2⟩ qc
  have ee:enc cs s (x::r)=enc (see cs x) (jz 4 (YK s cs x)) r:=rfl
  rw[ee]
  refine⟨hp2,cs2,?_,d2,c3.trans d3,d4,d5⟩
  have hlt:(i:Int)<(l.length:Int):=qc
  have gs0:∀(v:Value),qj [.sc v] 0=some v:=fun _=>rfl
  have en:∀h,(nz l)[i]'h=(x:Int):=fun h=>by simp[nz,e3]
  have hi4:(i<l.length)=True:=by simp[hi]
  have w1:IntKind.i64.wrap (x:Int)=(x:Int):=qk qc qc
  have w2:IntKind.i64.wrap ((i:Int)+1)=((i+1:Nat):Int):=qi
  rw[<-d1,qg4]
  generalize((i+1:Nat):Int)=I at*
  simp[hi4,gs0,en,KE,w1,c1,w2]
theorem qnc(l:List Nat)(k:Nat)(hl:l.length<=100000)(h64:∀x∈l,x<64)(hp:Hp):∃hp',run cxX 74 [.sc (.int .i64 64),S k 1 (LI .u8 (nz l))] hp=some (.tup [S 1 1 (LI .u8 (cod l)),.sc (.int .i64 0)],hp')/\Fm [] hp hp':=by
 obtain⟨hp1,e,m,cb,a1,a2,a3,a4,a5,a6,a7⟩:=qie hp
 obtain⟨hp2,cs2,b1,b2,b3,b4,b5⟩:=qot l (rk k) e m cb hl h64 l 0 en0 cs0 hp1 rfl qf a2 zbz zb0 ⟨qg,qg⟩ qg
 obtain⟨hp3,c1,c2⟩:=qio e m l.length 2 (enc cs0 en0 l) hp2 b2.1 (JM b4 b4.2.2.1 qc) qc b2.2.1
 have ec:(sh (sh (sh (sh (sh (enc cs0 en0 l)))))).out=cod l:=rfl
 rw[ec]at c1
 refine⟨hp3,?_,by have:=c2.1;rw[b3.1]at this;omega,fun c hc _=>by
  rw[c2.2 c (by rw[b3.1];omega) qf,b3.2 c qc qc qc,a7 c hc]⟩
 have b5':B74_5 (.ptr e 0 0) (S (rk k) 1 (LI .u8 (nz l))) (.int .i64 (l.length:Int)) (.int .i64 (l.length:Int)) hp2=some (.tup [S 1 1 (LI .u8 (cod l)),.sc (.int .i64 0)],hp3):=by
  rw[qg4]
  generalize cod l=O at*
  simp[c1]
 rw[<-b1]at b5'
 have b3':B74_3 (.int .i64 64) (S k 1 (LI .u8 (nz l))) hp=some (.tup [S 1 1 (LI .u8 (cod l)),.sc (.int .i64 0)],hp3):=by
  rw[<-b5',qv6]
  simp[a1]
 rw[E74]
 simp[b3']
def tn(l:List Int):List Nat:=l.map Int.toNat
@[simp] theorem tn_len(l:List Int):(tn l).length=l.length:=by simp[tn]
theorem qlc:∀{l:List Int},(∀n∈l,0<=n)->nz (tn l)=l:=by
 intro l
 induction l with
 |nil=>intro _;rfl
 |cons x r ih=>
  intro h
  have hx:=h x qf
  have e:nz (tn (x::r))=(x.toNat:Int)::nz (tn r):=rfl
  rw[e,ih (fun n hn=>h n (by simp[hn])),zh6 hx]
theorem qbx{l:List Int}{B:Nat}(h:∀n∈l,0<=n/\n<(B:Int)):∀x∈tn l,x<B:=by
 intro x hx
 obtain⟨n,hn,rfl⟩:=zg6.mp hx
 have:=h n hn
 omega
theorem qcb:∀{l:List Int},(∀n∈l,0<=n)->jM l->xP (tn l):=by
 intro l
 induction l with
 |nil=>intro _ _;trivial
 |cons x r ih=>
  intro h hr
  cases r with
  |nil=>trivial
  |cons y s=>
   have hx:=h x qf
   have hy:=h y qf
   have h1:=(zgr.mp hr).1 y qf
   exact⟨qc,ih (fun n hn=>h n (by simp[hn])) (zgr.mp hr).2⟩
theorem VB:∀{l:List Nat},xP l->yq l:=by
 intro l
 induction l with
 |nil=>intro _;trivial
 |cons x r ih=>
  intro h
  cases r with
  |nil=>trivial
  |cons y s=>exact⟨Nat.le_of_lt h.1,ih h.2⟩
def QO(c:Int):List Int->Nat->Int->List Int
 |[],_,_=>[]
 |n::r,i,last=>uv (zz (n-if(i:Int)%max c 1=0 then 0 else last))++QO c r (i+1) n
theorem qxm(c:Int)(i:Nat)(t:TypeId)(x y:Operand):qt Tryz.prog .rem t x y (.int .i64 (i:Int)) (.int .i64 (max c 1))=some (.int .i64 ((i:Int)%max c 1)):=by
 rw[qS _ _ _ _ _ _ _ qc,qQ qc]
theorem qkq{n m:Int}(hn:0<=n/\n<4294967296)(hm:0<=m/\m<4294967296):(uv (zz (n-m))).length<=10:=qy (qqy qc qc)
section
variable (c:Int)(l:List Int)(hl:l.length<=4096)(h32:Yb l)
include hl h32 in
theorem qgc(b k:Nat):∀(r:List Int) (i:Nat) (last:Int) (acc:List Int) (hp:Hp),l.drop i=r->hp.rd b 0=some (Wc acc)->acc.length<=10*i+20->i<=l.length->(0<=last/\last<4294967296)->
 B77_2 (.ptr b 0 0) (.int .i64 c) (.int .i64 last) (S k 1 (LI .u32 l)) (.int .i64 l.length) (.int .i64 i) hp=some (.tup [],hp.put b 0 (Wc (acc++QO c r i last))):=by
 intro r
 induction r with
 |nil=>
  intro i last acc hp hr h ha hil hla
  have:=qA hr
  have hlt:¬((i:Int)<(l.length:Int)):=qc
  rw[qg3]
  simp only[QO,zhd,zR h]
  simp[hlt]
 |cons x r ih=>
  intro i last acc hp hr h ha hil hla
  obtain⟨e1,e2,hi,e3⟩:=qu hr
  have hx:=h32 x (zgo e1)
  have rm:=qxm c i
  obtain⟨lst,hlst⟩:∃lst:Int,lst=if(i:Int)%max c 1=0 then 0 else last:=⟨_,rfl⟩
  have hb:0<=lst/\lst<4294967296:=by rw[hlst];split<;>omega
  have le:=qkq hx hb
  have wi:=qrw b (x-lst) acc qc qc hp h
  have ws:IntKind.i64.wrap x=x:=qk qc qc
  have wd:IntKind.i64.wrap (x-lst)=x-lst:=qk qc qc
  have hw:IntKind.i64.wrap ((i:Int)+1)=((i+1:Nat):Int):=qi
  have hh:=ih (i+1) x (acc++uv (zz (x-lst))) (hp.put b 0 (Wc (acc++uv (zz (x-lst))))) e2 (qr _ _ _) qh qc hx
  rw[qx]at hh
  have ec:acc++QO c (x::r) i last=acc++uv (zz (x-lst))++QO c r (i+1) x:=by
   rw[hlst,zgw];rfl
  rw[ec]
  have b6:B77_6 (.ptr b 0 0) (.int .i64 c) (.int .i64 lst) (.int .u32 x) (S k 1 (LI .u32 l)) (.int .i64 l.length) (.int .i64 i) hp=some (.tup [],hp.put b 0 (Wc (acc++uv (zz (x-lst))++QO c r (i+1) x))):=by
   rw[qv5]
   simp only[zjd,zje]at hw hh
   generalize uv (zz (x-lst))=u at*
   simp[ws,wd,wi,hw]
   simpa using hh
  rw[qg3]
  by_cases h0:(i:Int)%max c 1=0
  ·have el:lst=0:=by rw[hlst,if_pos h0]
   rw[el]at b6
   simp[hi,e3,qj,rm,h0]
   rw[zgw]at b6
   rw[el]
   exact b6
  ·have el:lst=last:=by rw[hlst,if_neg h0]
   rw[el]at b6
   simp[hi,e3,qj,rm,h0]
   rw[zgw]at b6
   rw[el]
   exact b6
theorem Kb(h32:Yb l):∀(r:List Int) (i:Nat) (last:Int),(∀n∈r,0<=n/\n<4294967296)->(0<=last/\last<4294967296)->(QO c r i last).length<=10*r.length
 |[],_,_,_,_=>by simp[QO]
 |x::r,i,last,h,hla=>by
  have ih:=Kb h32 r (i+1) x (fun n hn=>h n (by simp[hn])) (h x qf)
  have le:(uv (zz (x-if(i:Int)%max c 1=0 then 0 else last))).length<=10:=qkq (h x qf) (by split<;>omega)
  simp only[QO,zgi,zgk]
  omega
include hl h32 in
theorem qip(b k:Nat)(acc:List Int)(ha:acc.length<=20)(hp:Hp)(h:hp.rd b 0=some (Wc acc)):
 run cxX 77 [.ptr b 0 0,.sc (.int .i64 c),S k 1 (LI .u32 l)] hp=some (.tup [],hp.put b 0 (Wc (acc++QO c l 0 0))):=by
 have hh:=qgc c l hl h32 b (rk k) l 0 0 acc hp rfl h qc qc qc
 rw[E77]
 simp at hh
 simpa using hh
end
def JR(p:Nat):List Nat->List Int
 |[]=>[]
 |k::r=>uv (k-p)++JR k r
def VJ(K:Int)(g:GN):List Int:=
 [K]++uv g.M.toNat++uv g.e0.toNat++uv g.e1.toNat++uv g.e2.toNat++uv g.e3.toNat++uv g.e4.toNat++uv g.e5.toNat++uv g.lo++uv g.hi++[(g.L.length:Int)]++JR 0 g.L
theorem qew:∀{l:List Nat},ZP l=0->yq l:=by
 intro l
 induction l with
 |nil=>intro _;trivial
 |cons x r ih=>
  intro h
  cases r with
  |nil=>trivial
  |cons y s=>
   have h':(if y<x then 8 else ZP (y::s))=0:=h
   by_cases c:y<x
   ·rw[if_pos c]at h';cases h'
   ·rw[if_neg c]at h'
    exact⟨qc,ih h'⟩
theorem qnp(w k:Nat)(L:List Nat)(hL:Ws L)(hlen:L.length<=1000):∀(r:List Nat) (i p:Nat) (Z:List Int) (hp:Hp),L.drop i=r->yq (p::r.map kw)->p<18446744073709551616->Z.length<=1000+10*i->hp.rd w 0=some (Wc Z)->
 B78_14 (.ptr w 0 0) (.int .u64 (p:Int)) (S k 1 (LF L)) (.int .i64 (L.length:Int)) (.int .i64 (i:Int)) hp=some (.tup [],hp.put w 0 (Wc (Z++JR p (r.map kw)))):=by
 intro r
 induction r with
 |nil=>
  intro i p Z hp h hn hp' hZ hw
  have h1:=qA h
  have hlt:¬((i:Int)<(L.length:Int)):=qc
  rw[qam]
  simp[hlt,JR,zR hw]
 |cons x r ih=>
  intro i p Z hp h hn hp' hZ hw
  obtain⟨e1,e2,hi,e3⟩:=qu h
  have hx:x<18446744073709551616:=hL x (by rw[<-e3];exact zhx _)
  have ky:=xn x hx hp0
  have kl:=vW x hx
  have hpk:p<=kw x:=hn.1
  have hlt:(i:Int)<(L.length:Int):=qc
  have hu:=qy (n:=kw x-p) qc
  have wu:=qY w (kw x-p) Z qc qc hp hw
  have hi2:=ih (i+1) (kw x) (Z++uv (kw x-p)) (hp.put w 0 (Wc (Z++uv (kw x-p)))) e2 hn.2 kl qh (qr _ _ _)
  rw[qx,zgw]at hi2
  have w1:IntKind.u64.wrap ((kw x:Int)-(p:Int))=((kw x-p:Nat):Int):=by rw[qz]<;>omega
  have w2:IntKind.i64.wrap ((i:Int)+1)=((i+1:Nat):Int):=qi
  have e:JR p ((x::r).map kw)=uv (kw x-p)++JR (kw x) (r.map kw):=rfl
  have al:(LF L)[i]?=some (fl x):=by
   unfold LF
   rw[zgx,e1];rfl
  have gf:qj [fl x] 0=vb (fl x):=rfl
  rw[e,<-hi2,qam]
  obtain⟨F,hF⟩:∃F,fl x= .sc F:=⟨_,rfl⟩
  rw[hF]at ky al
  generalize((kw x-p:Nat):Int)=D at*
  generalize((i+1:Nat):Int)=I at*
  have gs0:∀(v:Value),qj [.sc v] 0=some v:=fun _=>rfl
  have g1:(0:Int)<=(i:Int):=qc
  have ix:∀k,jc 1 (S k 1 (LF L)) (.int .i64 (i:Int))=some [.sc F]:=by
   intro k
   rw[JQ,if_pos g1,zgu,al];rfl
  generalize LF L=LL at*
  simp[hlt,ix,gs0,ky,w1,wu,w2]
theorem ixe(a b c d e f:Int):ixV Tryz.prog 41 (.agg #[.int .u32 a,.int .u32 b,.int .u32 c,.int .u32 d,.int .u32 e,.int .u32 f]) (.int .i64 0)=some (.int .u32 a)
 /\ixV Tryz.prog 41 (.agg #[.int .u32 a,.int .u32 b,.int .u32 c,.int .u32 d,.int .u32 e,.int .u32 f]) (.int .i64 1)=some (.int .u32 b)
 /\ixV Tryz.prog 41 (.agg #[.int .u32 a,.int .u32 b,.int .u32 c,.int .u32 d,.int .u32 e,.int .u32 f]) (.int .i64 2)=some (.int .u32 c)
 /\ixV Tryz.prog 41 (.agg #[.int .u32 a,.int .u32 b,.int .u32 c,.int .u32 d,.int .u32 e,.int .u32 f]) (.int .i64 3)=some (.int .u32 d)
 /\ixV Tryz.prog 41 (.agg #[.int .u32 a,.int .u32 b,.int .u32 c,.int .u32 d,.int .u32 e,.int .u32 f]) (.int .i64 4)=some (.int .u32 e)
 /\ixV Tryz.prog 41 (.agg #[.int .u32 a,.int .u32 b,.int .u32 c,.int .u32 d,.int .u32 e,.int .u32 f]) (.int .i64 5)=some (.int .u32 f):=⟨qe,qe,qe,qe,qe,qe⟩
theorem qhr(w:Nat)(n:Int)(hn:qU n)(Z:List Int)(hZ:Z.length<=1000)(hp:Hp)(h:hp.rd w 0=some (Wc Z)):
 run cxX 70 [.ptr w 0 0,.sc (.int .u64 n)] hp=some (.tup [],hp.put w 0 (Wc (Z++uv n.toNat)))/\(uv n.toNat).length<=10:=by
 have h1:n.toNat<18446744073709551616:=by have:=hn.2;omega
 have hu:=qy h1
 have:=qY w n.toNat Z h1 qc hp h
 rw[zh6 hn.1]at this
 exact⟨this,hu⟩
theorem qr1(w:Nat)(K:Int)(g:Gs)(k:Nat)(hK:0<=K/\K<256)(gw:g.W)(hn:ZP g.nf.L=0)(hlen:g.L.length<=200)(hp:Hp)(h:hp.rd w 0=some (Wc [])):
 run cxX 78 [.ptr w 0 0,.agg [.sc (.int .i64 K),.sc (.int .u32 g.M),.sc (.int .u32 g.e0),.sc (.int .u32 g.e1),.sc (.int .u32 g.e2),.sc (.int .u32 g.e3),.sc (.int .u32 g.e4),.sc (.int .u32 g.e5),fl g.lo,fl g.hi,S k 1 (LF g.L)]] hp=
  some (.tup [],hp.put w 0 (Wc (VJ K g.nf))):=by
 have nn:=qew hn
 have klo:=xn g.lo gw.lo hp0
 have khi:=xn g.hi gw.hi hp0
 have llo:=vW g.lo gw.lo
 have lhi:=vW g.hi gw.hi
 have wK:IntKind.u8.wrap K=K:=zJ hK.1 hK.2
 have w32:∀n,qU n->IntKind.u64.wrap n=n:=fun n hn=>qz hn.1 (by have:=hn.2;omega)
 have u0:=zk w [] K qg hp h
 rw[zg2]at u0
 obtain⟨Z0,hZ0⟩:∃Z,Z=[K]:=⟨_,rfl⟩
 rw[<-hZ0]at u0
 have l0:Z0.length<=1:=by rw[hZ0];simp
 obtain⟨u1,v1⟩:=qhr w g.M gw.M Z0 qc _ (qr hp w (Wc Z0))
 obtain⟨Z1,hZ1⟩:∃Z,Z=Z0++uv g.M.toNat:=⟨_,rfl⟩
 rw[<-hZ1,qx]at u1
 have l1:Z1.length<=11:=by rw[hZ1];simp;omega
 obtain⟨u2,v2⟩:=qhr w g.e0 gw.e0 Z1 qc _ (qr hp w (Wc Z1))
 obtain⟨Z2,hZ2⟩:∃Z,Z=Z1++uv g.e0.toNat:=⟨_,rfl⟩
 rw[<-hZ2,qx]at u2
 have l2:Z2.length<=21:=by rw[hZ2];simp;omega
 obtain⟨u3,v3⟩:=qhr w g.e1 gw.e1 Z2 qc _ (qr hp w (Wc Z2))
 obtain⟨Z3,hZ3⟩:∃Z,Z=Z2++uv g.e1.toNat:=⟨_,rfl⟩
 rw[<-hZ3,qx]at u3
 have l3:Z3.length<=31:=by rw[hZ3];simp;omega
 obtain⟨u4,v4⟩:=qhr w g.e2 gw.e2 Z3 qc _ (qr hp w (Wc Z3))
 obtain⟨Z4,hZ4⟩:∃Z,Z=Z3++uv g.e2.toNat:=⟨_,rfl⟩
 rw[<-hZ4,qx]at u4
 have l4:Z4.length<=41:=by rw[hZ4];simp;omega
 obtain⟨u5,v5⟩:=qhr w g.e3 gw.e3 Z4 qc _ (qr hp w (Wc Z4))
 obtain⟨Z5,hZ5⟩:∃Z,Z=Z4++uv g.e3.toNat:=⟨_,rfl⟩
 rw[<-hZ5,qx]at u5
 have l5:Z5.length<=51:=by rw[hZ5];simp;omega
 obtain⟨u6,v6⟩:=qhr w g.e4 gw.e4 Z5 qc _ (qr hp w (Wc Z5))
 obtain⟨Z6,hZ6⟩:∃Z,Z=Z5++uv g.e4.toNat:=⟨_,rfl⟩
 rw[<-hZ6,qx]at u6
 have l6:Z6.length<=61:=by rw[hZ6];simp;omega
 obtain⟨u7,v7⟩:=qhr w g.e5 gw.e5 Z6 qc _ (qr hp w (Wc Z6))
 obtain⟨Z7,hZ7⟩:∃Z,Z=Z6++uv g.e5.toNat:=⟨_,rfl⟩
 rw[<-hZ7,qx]at u7
 have l7:Z7.length<=71:=by rw[hZ7];simp;omega
 have v8:=qy llo
 have u8:=qY w (kw g.lo) Z7 llo qc _ (qr hp w (Wc Z7))
 obtain⟨Z8,hZ8⟩:∃Z,Z=Z7++uv (kw g.lo):=⟨_,rfl⟩
 rw[<-hZ8,qx]at u8
 have l8:Z8.length<=81:=by rw[hZ8];simp;omega
 have v9:=qy lhi
 have u9:=qY w (kw g.hi) Z8 lhi qc _ (qr hp w (Wc Z8))
 obtain⟨Z9,hZ9⟩:∃Z,Z=Z8++uv (kw g.hi):=⟨_,rfl⟩
 rw[<-hZ9,qx]at u9
 have l9:Z9.length<=91:=by rw[hZ9];simp;omega
 have ua:=zk w Z9 (g.L.length:Int) qc _ (qr hp w (Wc Z9))
 obtain⟨ZA,hZA⟩:∃Z,Z=Z9++[(g.L.length:Int)]:=⟨_,rfl⟩
 rw[<-hZA,qx]at ua
 have la:ZA.length<=92:=by rw[hZA];simp;omega
 have lp:=qnp w (rk k) g.L gw.L qc g.L 0 0 ZA (hp.put w 0 (Wc ZA)) rfl (wF nn) qc qc (qr _ _ _)
 rw[qx]at lp
 have eY:VJ K g.nf=ZA++JR 0 (g.L.map kw):=by
  rw[hZA,hZ9,hZ8,hZ7,hZ6,hZ5,hZ4,hZ3,hZ2,hZ1,hZ0]
  unfold VJ Gs.nf
  simp
 rw[eY]
 have wl:IntKind.u8.wrap (g.L.length:Int)=(g.L.length:Int):=zJ qc qc
 have x1:=w32 _ gw.M
 have x2:=w32 _ gw.e0
 have x3:=w32 _ gw.e1
 have x4:=w32 _ gw.e2
 have x5:=w32 _ gw.e3
 have x6:=w32 _ gw.e4
 have x7:=w32 _ gw.e5
 obtain⟨i0,i1,i2,i3,i4,i5⟩:=ixe g.e0 g.e1 g.e2 g.e3 g.e4 g.e5
 obtain⟨FL,hFL⟩:∃F,fl g.lo= .sc F:=⟨_,rfl⟩
 obtain⟨FH,hFH⟩:∃F,fl g.hi= .sc F:=⟨_,rfl⟩
 rw[hFL]at klo⊢
 rw[hFH]at khi⊢
 have lL:(LF g.L).length=g.L.length:=by simp[LF]
 obtain⟨g0,g1,g2,g3,g4,g5,g6,g7,g8,g9⟩:=g
 simp only at*
 generalize Wc (ZA++JR 0 (g9.map kw))=WF at*
 generalize Wc ZA=WA at*
 generalize Wc Z9=W9 at*
 generalize Wc Z8=W8 at*
 generalize Wc Z7=W7 at*
 generalize Wc Z6=W6 at*
 generalize Wc Z5=W5 at*
 generalize Wc Z4=W4 at*
 generalize Wc Z3=W3 at*
 generalize Wc Z2=W2 at*
 generalize Wc Z1=W1 at*
 generalize Wc Z0=W0 at*
 have ca:ye (.agg [.sc (.int .u32 g1),.sc (.int .u32 g2),.sc (.int .u32 g3),.sc (.int .u32 g4),.sc (.int .u32 g5),.sc (.int .u32 g6)])=some (.agg #[.int .u32 g1,.int .u32 g2,.int .u32 g3,.int .u32 g4,.int .u32 g5,.int .u32 g6]):=rfl
 have gb:vX (.fn (4294967296+70) [.ptr w 0 0])=some (70,[.ptr w 0 0]):=rfl
 simp only[Nat.reduceAdd]at gb
 obtain⟨fy,fl1⟩:∃y,ql1 [AV.ptr w 0 0]=some y:=⟨_,rfl⟩
 simp only[Int.natCast_zero]at lp
 rw[E78]
 simp[qn,qj,qo,wK,u0,jg,zp,x1,fl1,gb,u1]
 rw[kq]
 simp[ca,i0,zp,x2,gb,u2]
 rw[kq]
 simp[ca,i1,zp,x3,gb,u3]
 rw[kq]
 simp[ca,i2,zp,x4,gb,u4]
 rw[kq]
 simp[ca,i3,zp,x5,gb,u5]
 rw[kq]
 simp[ca,i4,zp,x6,gb,u6]
 rw[kq]
 simp[ca,i5,zp,x7,gb,u7]
 rw[kq]
 simp[qj,qo,klo,gb,u8,khi,u9,lL,jg,wl,ua,lp]
def QL(x:SkN):List Int:=
 if x.kind=0 then YJ (kQ (tn x.set))
 else if x.kind=1 then uv x.K.toNat++vZ (tn x.hs)
 else if x.kind=2 then x.P::cod (tn x.rg)
 else if x.kind=3 then uv x.B.toNat++[x.H]++VK (tn x.bs)
 else if x.kind=4 then [x.R]++uv x.C.toNat++QO x.C x.cs 0 0
 else VJ x.gK x.g
def H64(x:SkN):Prop:=∀n∈x.hs,0<=n/\n<18446744073709551616
theorem qst{l:List Nat}(hl:l.length<=1024)(h64:∀x∈l,x<18446744073709551616):(vZ l).length<=700100:=by
 obtain⟨k63,hq⟩:=YY (ZX h64)
 have hbl:=JJ (kX (ze l)) k63 (ze l) hq
 rw[ZY]at hbl
 have hlY:(pk (yn (ze l))).length<700000:=by rw[yo];unfold yn;omega
 have h1:=qy (n:=l.length) qc
 have h2:=qy (n:=(pk (yn (ze l))).length) qc
 unfold vZ
 simp only[zgi,zg3]
 omega
theorem qf6{l:List Nat}(hl:l.length<=4096)(h32:∀x∈l,x<4294967296)(hr:yq l):(VK l).length<=100000:=by
 by_cases hne:l=[]
 ·subst hne
  have e:VK []=uv 0++uv 0++[]++uv 0++[]:=rfl
  have h:=qy (n:=0) qc
  rw[e]
  simp only[zgi,zhh]
  omega
 ·obtain⟨a,b,c⟩:=Zc l hl h32 hr hne
  have h1:=qy (n:=l.length) qc
  have h2:=qy (n:=zn l) qc
  have hm:l.length*yv l<=4096*32:=zh0 hl a
  have h3:=qy (n:=(pk (jd (yv l) 0 l)).length) (by rw[yo];omega)
  unfold VK
  simp only[zgi,yo,qn5]at*
  omega
theorem ql7{l:List Nat}(hl:l.length<=1000)(h64:∀x∈l,x<64):(cod l).length<=100000:=by
 rw[(qzn l h64).2]
 have key:∀(l cs:List Nat) (s:En),okM cs->(∀x∈l,x<64)->Vu s s.width->16777216<=s.width/\s.width<=4294967296->eK (enc cs s l)<=eK s+4*l.length:=by
  intro l
  induction l with
  |nil=>intro cs s _ _ _ _;exact zgm _
  |cons x r ih=>
   intro cs s hm hl h hw
   obtain⟨d,b1,b2,b3,b4,b5,b6,b7⟩:=qj8 s cs x hm (hl x qf) h hw
   have hd:d<=4:=zac b7 (by rw[<-b2];exact b6)
   have:=ih (see cs x) (jz 4 (YK s cs x)) (qh4 hm (hl x qf)) (fun y hy=>hl y (by simp[hy])) b4 ⟨b5,b6⟩
   have e:enc cs s (x::r)=enc (see cs x) (jz 4 (YK s cs x)) r:=rfl
   rw[e,zgk]
   omega
 have:=key l cs0 en0 zbz h64 zb0 ⟨qg,qg⟩
 have e0:eK en0=0:=rfl
 omega
theorem qsp{l:List Nat}(hl:l.length<=4096)(h32:∀x∈l,x<4294967296):(YJ (kQ l)).length<=900000:=by
 have hc:=Xp l
 have h1:=qy (n:=(kQ l).length) qc
 have key:∀cs:List (Nat×Nat),(∀c∈cs,okC c)->(XN cs).length<=60*cs.length:=by
  intro cs
  induction cs with
  |nil=>intro _;exact zgm _
  |cons c r ih=>
   intro h
   have:=ih (fun d hd=>h d (by simp[hd]))
   have:=KH (h c qf)
   simp only[XN,zgi,zgk]
   omega
 have:=key (kQ l) (qjw h32)
 unfold YJ
 simp only[zgi]
 omega
theorem JA{x:SkN}(f:Fine x)(k:x.kind=0):x.set.length<=4096/\xP (tn x.set)/\(∀n∈tn x.set,n<4294967296)/\nz (tn x.set)=x.set:=by
 have h:=(qZ.mp f.c).2.2
 rw[if_pos k]at h
 have s:=qb6.mp h
 have n0:∀n∈x.set,0<=n:=fun n hn=>(f.w.set n hn).1
 exact⟨s.1,qcb n0 s.2,qbx (B:=4294967296) f.w.set,qlc n0⟩
theorem Qg{x:SkN}(f:Fine x)(k:x.kind=1)(h64:H64 x):(1<=x.K/\x.K<=1024)/\x.hs.length<=1024/\xP (tn x.hs)/\(∀n∈tn x.hs,n<18446744073709551616)/\nz (tn x.hs)=x.hs:=by
 have h:=(qZ.mp f.c).2.2
 rw[if_neg qc,if_pos k]at h
 have s:=Xe.mp h
 have n0:∀n∈x.hs,0<=n:=fun n hn=>(h64 n hn).1
 exact⟨s.1,qc,qcb n0 s.2.2,qbx (B:=18446744073709551616) h64,qlc n0⟩
theorem Qj{x:SkN}(f:Fine x)(k:x.kind=2):(4<=x.P/\x.P<=8)/\x.rg.length=jO x.P/\x.rg.length<=256/\(∀n∈tn x.rg,n<64)/\nz (tn x.rg)=x.rg:=by
 have h:=(qZ.mp f.c).2.2
 rw[if_neg qc,if_neg qc,if_pos k]at h
 have s:=qlr.mp h
 have n0:∀n∈x.rg,0<=n:=fun n hn=>(f.w.rg n hn).1
 have hp:jO x.P<=256:=by
  unfold jO
  exact zhw (zie qg (show x.P.toNat<=8 by omega)) qg
 exact⟨s.1,s.2.1,qc,qbx (B:=64) (fun n hn=>⟨n0 n hn,by have:=s.2.2 n hn;omega⟩),qlc n0⟩
theorem Qr{x:SkN}(f:Fine x)(k:x.kind=3):(1<=x.B/\x.B<=4096)/\(1<=x.H/\x.H<=8)/\x.bs.length<=4096/\yq (tn x.bs)/\(∀n∈tn x.bs,n<4294967296)/\nz (tn x.bs)=x.bs:=by
 have h:=(qZ.mp f.c).2.2
 rw[if_neg qc,if_neg qc,if_neg qc,if_pos k]at h
 have s:=qfu h f.w.bs
 have n0:∀n∈x.bs,0<=n:=fun n hn=>(f.w.bs n hn).1
 exact⟨s.1,s.2.1,s.2.2.len s.1.2,VB (qcb n0 s.2.2.1),qbx (B:=4294967296) f.w.bs,qlc n0⟩
theorem Qp{x:SkN}(f:Fine x)(k:x.kind=4):(1<=x.R/\x.R<=8)/\(1<=x.C/\x.C<=256)/\(x.cs.length:Int)=x.R*x.C/\x.cs.length<=2048:=by
 have h:=(qZ.mp f.c).2.2
 rw[if_neg qc,if_neg qc,if_neg qc,if_neg qc,if_pos k]at h
 have s:=qma.mp h
 have:=qju s.1 s.2.1
 exact⟨s.1,s.2.1,s.2.2,qc⟩
theorem Ql{x:SkN}(f:Fine x)(k:x.kind=5):(1<=x.gK/\x.gK<=16)/\ZP x.g.L=0/\x.g.L.length<=16:=by
 have h:=(qZ.mp f.c).2.2
 rw[if_neg qc,if_neg qc,if_neg qc,if_neg qc,if_neg qc]at h
 unfold Zb at h
 split at h
 ·cases h
 ·rename_i h1
  split at h
  ·rename_i h2
   exact⟨qc,h2,qc⟩
  ·cases h
theorem Qc(b:Nat)(Y:List Int)(hY:Y.length<=1000000)(hp:Hp)(h:hp.rd b 0=some (Wc Y)):B35_28 (.ptr b 0 0) hp=some (.tup [S 1 1 (LI .u8 Y),.sc (.int .i64 0)],hp):=by
 have wb:=yG b Y hY hp h
 rw[qpj]
 simp[wb]
theorem qs1{x:SkN}{v:AV}(hv:vS x v)(f:Fine x)(h64:H64 x):(QL x).length<=1000000:=by
 obtain⟨g,a,b,c,d,e,t,gw,gn,rfl⟩:=hv
 have hk:=f.w.kind
 have kd:=(qZ.mp f.c).1
 have six:x.kind=0\/x.kind=1\/x.kind=2\/x.kind=3\/x.kind=4\/x.kind=5:=qc
 unfold QL
 rcases six with k|k|k|k|k|k
 ·rw[if_pos k]
  have s:=JA f k
  have:=qsp (l:=tn x.set) (by simp;exact s.1) s.2.2.1
  omega
 ·have s:=Qg f k h64
  have:=qst (l:=tn x.hs) (by simp;exact s.2.1) s.2.2.2.1
  have hu:=qy (n:=x.K.toNat) qc
  rw[if_neg qc,if_pos k,zgi]
  omega
 ·have s:=Qj f k
  have:=ql7 (l:=tn x.rg) qh s.2.2.2.1
  rw[if_neg qc,if_neg qc,if_pos k,zgk]
  omega
 ·have s:=Qr f k
  have:=qf6 (l:=tn x.bs) (by simp;exact s.2.2.1) s.2.2.2.2.1 s.2.2.2.1
  have hu:=qy (n:=x.B.toNat) qc
  rw[if_neg qc,if_neg qc,if_neg qc,if_pos k]
  simp only[zgi,zg3]
  omega
 ·have s:=Qp f k
  have:=Kb x.C x.cs f.w.cs x.cs 0 0 f.w.cs qc
  have hu:=qy (n:=x.C.toNat) qc
  rw[if_neg qc,if_neg qc,if_neg qc,if_neg qc,if_pos k]
  simp only[zgi,zg3]
  omega
 ·have s:=Ql f k
  have hd:∀(L:List Nat) (p:Nat),(∀k∈L,k<18446744073709551616)->(JR p L).length<=10*L.length:=by
   intro L
   induction L with
   |nil=>intro p _;exact zgm _
   |cons k r ih=>
    intro p h
    have:=ih k (fun y hy=>h y (by simp[hy]))
    have hu:=qy (n:=k-p) (by have:=h k qf;omega)
    simp only[JR,zgi,zgk]
    omega
  have hL:∀k∈x.g.L,k<18446744073709551616:=by
   rw[<-gn]
   intro k hk
   obtain⟨w,hw,rfl⟩:=zg6.mp hk
   exact vW w (gw.L w hw)
  have h0:=hd x.g.L 0 hL
  have u:∀n:Int,qU n->(uv n.toNat).length<=10:=fun n hn=>qy (by have:=hn.2;omega)
  have p:=f.pos
  have u1:=u _ p.1
  have u2:=u _ p.2.1
  have u3:=u _ p.2.2.1
  have u4:=u _ p.2.2.2.1
  have u5:=u _ p.2.2.2.2.1
  have u6:=u _ p.2.2.2.2.2.1
  have u7:=u _ p.2.2.2.2.2.2
  have u8:=qy (n:=x.g.lo) (by rw[<-gn];exact vW _ gw.lo)
  have u9:=qy (n:=x.g.hi) (by rw[<-gn];exact vW _ gw.hi)
  rw[if_neg qc,if_neg qc,if_neg qc,if_neg qc,if_neg qc]
  unfold VJ
  simp only[zgi,zg3]
  omega
theorem qw6{x:SkN}{v:AV}(hv:vS x v)(f:Fine x)(h64:H64 x)(hp:Hp):∃hp',run cxX 35 [v] hp=some (.tup [S 1 1 (LI .u8 (QL x)),.sc (.int .i64 0)],hp'):=by
 have hv0:=hv
 have ck:=Yq hv f.w hp0
 have ck2:=Yq hv.ro f.w hp0
 rw[f.c]at ck ck2
 obtain⟨g,a,b,c,d,e,t,gw,gn,rfl⟩:=hv
 have hk:=f.w.kind
 have kd:=(qZ.mp f.c).1
 have hr0:(hp.new [S 2 1 []]).rd hp.next 0=some (Wc []):=qB _ _
 have w1:IntKind.u64.wrap x.kind=x.kind:=qz hk.1 qc
 have six:x.kind=0\/x.kind=1\/x.kind=2\/x.kind=3\/x.kind=4\/x.kind=5:=qc
 have hck:∀L,AV.agg L=ku x g (rk a) (rk b) (rk c) (rk d) (rk e) (rk t)->run cxX 28 [.agg L] hp0=some (.sc (.int .i64 0),hp0):=by
  intro L hL
  have e1:AI.ro (ku x g a b c d e t)= .agg L:=by rw[hL];simp[ku]
  rw[e1]at ck2
  exact ck2
 have hc:=hck _ rfl
 have nn:=qs1 hv0 f h64
 unfold QL at nn⊢
 rcases six with k|k|k|k|k|k
 ·rw[if_pos k]at nn⊢
  obtain⟨s1,s2,s3,s4⟩:=JA f k
  obtain⟨t1,hp1,r1,r2⟩:=qw5 (tn x.set) (rk (rk a)) (by simp;exact s1) s3 s2 hp0
  rw[s4]at r1
  have sp:=fun k=>qrx (kQ (tn x.set)) k hp.next (qjw s3) (by have:=Xp (tn x.set);simp at this;omega) [] qf _ hr0
  rw[zg2]at sp
  simp only[zW]at sp
  have pe:=Qc hp.next (YJ (kQ (tn x.set))) nn (hp.new (Wc (YJ (kQ (tn x.set))))) (qB _ _)
  refine⟨hp.new (Wc (YJ (kQ (tn x.set)))),?_⟩
  generalize YJ (kQ (tn x.set))=Y at*
  generalize csL (kQ (tn x.set))=CL at*
  simp[ku,k]at hc
  rw[E35]
  simp at r1 sp
  simp[ku,qn,qj,qo,k,hc,r1,sp,pe]
 ·rw[if_neg qc,if_pos k]at nn⊢
  obtain⟨s0,s1,s2,s3,s4⟩:=Qg f k h64
  obtain⟨t1,hp1,r1,r2⟩:=qrz (tn x.hs) (rk (rk b)) (by simp;exact s1) s3 s2 hp0
  rw[s4]at r1
  have hu:=qy (n:=x.K.toNat) qc
  have u1:=qY hp.next x.K.toNat [] qc qh _ hr0
  rw[zg2,zW,zh6 qc]at u1
  have wK:IntKind.u64.wrap x.K=x.K:=qz qc qc
  have u2:=fun k=>zX hp.next (uv x.K.toNat) (vZ (tn x.hs)) k (by rw[zgi]at nn;exact nn) (hp.new (Wc (uv x.K.toNat))) (qB _ _)
  simp only[zW]at u2
  have pe:=Qc hp.next _ nn (hp.new (Wc (uv x.K.toNat++vZ (tn x.hs)))) (qB _ _)
  refine⟨hp.new (Wc (uv x.K.toNat++vZ (tn x.hs))),?_⟩
  generalize uv x.K.toNat++vZ (tn x.hs)=Y at*
  generalize uv x.K.toNat=U at*
  generalize vZ (tn x.hs)=RY at*
  simp[ku,k]at hc
  rw[E35]
  simp at r1 u1
  simp[ku,qn,qj,qo,k,hc,jB,wK,r1,u1,u2,pe]
 ·rw[if_neg qc,if_neg qc,if_pos k]at nn⊢
  obtain⟨s0,s1,s2,s3,s4⟩:=Qj f k
  obtain⟨hp1,r1,r2⟩:=qnc (tn x.rg) (rk (rk c)) qh s3 hp0
  rw[s4]at r1
  have u1:=zk hp.next [] x.P qg _ hr0
  rw[zg2,zW]at u1
  have wK:IntKind.u8.wrap x.P=x.P:=zJ qc qc
  have u2:=fun k=>zX hp.next [x.P] (cod (tn x.rg)) k (by simp at nn⊢;omega) (hp.new (Wc [x.P])) (qB _ _)
  have eY:[x.P]++cod (tn x.rg)=x.P::cod (tn x.rg):=rfl
  simp only[zW,eY]at u2
  have pe:=Qc hp.next _ nn (hp.new (Wc (x.P::cod (tn x.rg)))) (qB _ _)
  refine⟨hp.new (Wc (x.P::cod (tn x.rg))),?_⟩
  generalize x.P::cod (tn x.rg)=Y at*
  generalize cod (tn x.rg)=RY at*
  simp[ku,k]at hc
  rw[E35]
  simp at r1 u1 u2
  simp[ku,qn,qj,qo,k,hc,jg,wK,r1,u1,u2,pe]
 ·rw[if_neg qc,if_neg qc,if_neg qc,if_pos k]at nn⊢
  obtain⟨s0,s9,s1,s2,s3,s4⟩:=Qr f k
  obtain⟨t1,t2,hp1,r1,r2⟩:=qxc (tn x.bs) (rk (rk d)) (by simp;exact s1) s3 s2 hp0
  rw[s4]at r1
  have hu:=qy (n:=x.B.toNat) qc
  have u1:=qY hp.next x.B.toNat [] qc qh _ hr0
  rw[zg2,zW,zh6 qc]at u1
  have wK:IntKind.u64.wrap x.B=x.B:=qz qc qc
  have wH:IntKind.u8.wrap x.H=x.H:=zJ qc qc
  have u2:=zk hp.next (uv x.B.toNat) x.H qc (hp.new (Wc (uv x.B.toNat))) (qB _ _)
  rw[zW]at u2
  have u3:=fun t1 t2=>qsd (tn x.bs) (by simp;exact s1) s3 s2 hp.next t1 t2 (uv x.B.toNat++[x.H]) (by rw[zgi]at nn;exact nn) (hp.new (Wc (uv x.B.toNat++[x.H]))) (qB _ _)
  simp only[zW]at u3
  have pe:=Qc hp.next _ nn (hp.new (Wc (uv x.B.toNat++[x.H]++VK (tn x.bs)))) (qB _ _)
  refine⟨hp.new (Wc (uv x.B.toNat++[x.H]++VK (tn x.bs))),?_⟩
  unfold qgy at r1 u3
  generalize uv x.B.toNat++[x.H]++VK (tn x.bs)=Y at*
  generalize uv x.B.toNat++[x.H]=U2 at*
  generalize uv x.B.toNat=U at*
  generalize pk (yW (yv (tn x.bs)) (tn x.bs))=P1 at*
  generalize pk (jd (yv (tn x.bs)) 0 (tn x.bs))=P2 at*
  generalize((zn (tn x.bs):Nat):Int)=La at*
  generalize((yv (tn x.bs):Nat):Int)=Lk at*
  simp[ku,k]at hc
  rw[E35]
  simp at r1 u1 u2 u3
  simp[ku,qn,qj,qo,k,hc,jB,jg,wK,wH,r1,u1,u2,qm,u3,pe]
 ·rw[if_neg qc,if_neg qc,if_neg qc,if_neg qc,if_pos k]at nn⊢
  obtain⟨s0,s1,s2,s3⟩:=Qp f k
  have hu:=qy (n:=x.C.toNat) qc
  have u1:=zk hp.next [] x.R qg _ hr0
  rw[zg2,zW]at u1
  have u2:=qY hp.next x.C.toNat [x.R] qc qh (hp.new (Wc [x.R])) (qB _ _)
  rw[zW,zh6 qc]at u2
  have wK:IntKind.u64.wrap x.C=x.C:=qz qc qc
  have wH:IntKind.u8.wrap x.R=x.R:=zJ qc qc
  have u3:=fun k=>qip x.C x.cs qc f.w.cs hp.next k ([x.R]++uv x.C.toNat) qh (hp.new (Wc ([x.R]++uv x.C.toNat))) (qB _ _)
  simp only[zW]at u3
  have pe:=Qc hp.next _ nn (hp.new (Wc ([x.R]++uv x.C.toNat++QO x.C x.cs 0 0))) (qB _ _)
  refine⟨hp.new (Wc ([x.R]++uv x.C.toNat++QO x.C x.cs 0 0)),?_⟩
  generalize [x.R]++uv x.C.toNat++QO x.C x.cs 0 0=Y at*
  generalize [x.R]++uv x.C.toNat=U2 at*
  simp[ku,k]at hc
  rw[E35]
  try simp at u1
  try simp at u2
  try simp at u3
  simp[ku,qn,qj,qo,k,hc,jB,jg,wK,wH,u1,u2,u3,pe]
 ·rw[if_neg qc,if_neg qc,if_neg qc,if_neg qc,if_neg qc]at nn⊢
  obtain⟨s0,s1,s2⟩:=Ql f k
  have hl:g.L.length<=16:=by rw[<-gn]at s2;simpa[Gs.nf]using s2
  have u3:=fun k=>qr1 hp.next x.gK g k ⟨qc,qc⟩ gw (by rw[gn];exact s1) qc _ hr0
  simp only[zW,gn]at u3
  have pe:=Qc hp.next _ nn (hp.new (Wc (VJ x.gK x.g))) (qB _ _)
  refine⟨hp.new (Wc (VJ x.gK x.g)),?_⟩
  generalize VJ x.gK x.g=Y at*
  simp[ku,k]at hc
  rw[E35]
  try simp at u3
  simp[ku,qn,qj,qo,k,hc,u3,pe]
def By(l:List Int):Prop:=∀x∈l,0<=x/\x<256
theorem By.app{a b:List Int}(h:By a)(g:By b):By (a++b):=fun x hx=>(zg1.mp hx).elim (h x) (g x)
theorem By.cons{a:Int}{b:List Int}(h:0<=a/\a<256)(g:By b):By (a::b):=fun x hx=>(zgn.mp hx).elim (fun e=>by rw[e];exact h) (g x)
theorem By.nil:By []:=fun x hx=>by cases hx
theorem By.uv(n:Nat):By (uv n):=qz2 n
theorem By.pk(l:List Bool):By (pk l):=fun x hx=>zbs hx
theorem VX{s:En}(h:By s.out):By (sh s).out:=by
 unfold sh
 split
 ·refine By.app (By.app h ?_) fun x hx=>?_
  ·split
   ·exact By.cons qc By.nil
   ·exact By.nil
  ·rw[zia hx];omega
 ·exact h
theorem qyj:∀(f:Nat) {s:En},By s.out->By (jz f s).out:=by
 intro f
 induction f with
 |zero=>intro s h;exact h
 |succ f ih=>
  intro s h
  unfold jz
  split
  ·exact ih (VX h)
  ·exact h
theorem zcv:∀(l cs:List Nat) {s:En},By s.out->By (enc cs s l).out:=by
 intro l
 induction l with
 |nil=>intro cs s h;exact h
 |cons x r ih=>intro cs s h;exact ih _ (qyj 4 h)
theorem zc0(l:List Nat):By (cod l):=VX (VX (VX (VX (VX (zcv l cs0 By.nil)))))
theorem zdi(m:Nat):∀f i,i+f<=256->By (wm m f i):=by
 intro f
 induction f with
 |zero=>intro i _;exact By.nil
 |succ f ih=>
  intro i h
  unfold wm
  split
  ·exact By.cons qc (ih _ qc)
  ·exact ih _ qc
theorem zdc(m:Nat):∀f i,By (qc9 m f i):=by
 intro f
 induction f with
 |zero=>intro i;exact By.nil
 |succ f ih=>intro i;exact By.cons qc (ih _)
theorem zep(m:Nat):∀f i,By (rnF m f i):=by
 intro f
 induction f with
 |zero=>intro i;exact By.nil
 |succ f ih=>
  intro i
  unfold rnF
  split
  ·exact By.nil
  ·split
   ·have:=YX m (255-i) i
    exact By.cons qc (By.cons qc (ih _))
   ·exact ih _
theorem qxi{cs:List (Nat×Nat)}:By (YJ cs):=by
 have h:∀cs:List (Nat×Nat),By (XN cs):=by
  intro cs
  induction cs with
  |nil=>exact By.nil
  |cons c r ih=>
   have k:=qcv c.2
   have a:=vF c.2 256
   have b:=qce c.2 256
   refine By.app (By.app (By.uv _) (By.cons qc ?_)) ih
   unfold qvm
   split
   ·exact By.cons qc (zdi _ _ _ qc)
   ·split
    ·exact zdc _ _ _
    ·exact By.cons qc (zep _ _ _)
 exact By.app (By.uv _) (h cs)
theorem qx2(c:Int):∀(l:List Int) (i:Nat) (last:Int),By (QO c l i last):=by
 intro l
 induction l with
 |nil=>intro i last;exact By.nil
 |cons x r ih=>intro i last;exact By.app (By.uv _) (ih _ _)
theorem qy4:∀(l:List Nat) (p:Nat),By (JR p l):=by
 intro l
 induction l with
 |nil=>intro p;exact By.nil
 |cons x r ih=>intro p;exact By.app (By.uv _) (ih _)
theorem qxt{x:SkN}(f:Fine x)(h64:H64 x):By (QL x):=by
 have hk:=f.w.kind
 have kd:=(qZ.mp f.c).1
 have six:x.kind=0\/x.kind=1\/x.kind=2\/x.kind=3\/x.kind=4\/x.kind=5:=qc
 unfold QL
 rcases six with k|k|k|k|k|k
 ·rw[if_pos k];exact qxi
 ·rw[if_neg qc,if_pos k]
  obtain⟨s0,s1,s2,s3,s4⟩:=Qg f k h64
  have p:=(YY (ZX s3)).1
  exact By.app (By.uv _) (By.app (By.app (By.app (By.uv _) (By.cons qc By.nil)) (By.uv _)) (By.pk _))
 ·rw[if_neg qc,if_neg qc,if_pos k]
  have s:=Qj f k
  exact By.cons qc (zc0 _)
 ·rw[if_neg qc,if_neg qc,if_neg qc,if_pos k]
  have s:=Qr f k
  exact By.app (By.app (By.uv _) (By.cons qc By.nil)) (By.app (By.app (By.app (By.app (By.uv _) (By.uv _)) (By.pk _)) (By.uv _)) (By.pk _))
 ·rw[if_neg qc,if_neg qc,if_neg qc,if_neg qc,if_pos k]
  have s:=Qp f k
  exact By.app (By.app (By.cons qc By.nil) (By.uv _)) (qx2 _ _ _ _)
 ·rw[if_neg qc,if_neg qc,if_neg qc,if_neg qc,if_neg qc]
  have s:=Ql f k
  unfold VJ
  exact By.app (By.app (By.app (By.app (By.app (By.app (By.app (By.app (By.app (By.app (By.app (By.cons qc By.nil) (By.uv _)) (By.uv _)) (By.uv _)) (By.uv _)) (By.uv _)) (By.uv _)) (By.uv _)) (By.uv _)) (By.uv _)) (By.cons qc By.nil)) (qy4 _ _)
theorem Yp(s:Sm)(ok:s.Ok):H64 (zQ s):=by
 intro n hn
 unfold zQ at hn
 by_cases h0:s.kind%6=0
 ·rw[if_pos h0]at hn;cases hn
 ·rw[if_neg h0]at hn
  by_cases h1:s.kind%6=1
  ·rw[if_pos h1]at hn
   obtain⟨m,hm,rfl⟩:=zg6.mp (qtw hn)
   have:=ok.hs m hm
   unfold cut
   split<;>omega
  ·rw[if_neg h1]at hn
   split at hn
   ·cases hn
   ·split at hn
    ·cases hn
    ·split at hn<;>cases hn
def rb(l:List Int)(p:Nat)(s:Bool):Bool×Nat×Bool:=if s=true\/8*l.length<=p then(false,p,true)else(KS l p,p+1,false)
section
variable (b k:Nat)(l:List Int)(p:Nat)(s:Bool)(hp:Hp)(hl:l.length<=100000000)
include hl
end
theorem zeq{l r:List Int}{p m most:Nat}(h:l.drop p=uv m++r)(hm:m<=most)(hm2:m<18446744073709551616):rU l p 0 most=(m,p+(uv m).length,0):=by
 have g:=zfd 0 m r 0 0 0 rfl qc (by simpa using hm2) qc
 simp only[Nat.pow_zero,zhu,zha]at g
 unfold rU
 rw[h,g]
 have h1:¬(most<m):=qc
 simp[h1]
section
variable (b k:Nat)(l:List Int)(hl:l.length<=1000000000)(h8:By l)
include hl h8
theorem qwr{p m most:Nat}{r:List Int}(h:l.drop p=uv m++r)(hm:m<=most)(hm2:most<18446744073709551616)(hp:Hp)(hpl:p<=l.length)(hr:hp.rd b 0=some (Rc k l p 0)):
 run cxX 88 [.ptr b 0 0,.sc (.int .u64 (most:Int))] hp=some (.sc (.int .u64 (m:Int)),hp.put b 0 (Rc k l (p+(uv m).length) 0)):=by
 have a:=qmw b k l most p 0 hm2 hl h8 hpl hp hr
 rw[zeq h hm qc]at a
 exact a
end
section
variable (b k:Nat)(l:List Int)(hl:l.length<=1000000000)(h8:By l)
include hl h8
end
section
variable (b k:Nat)(l:List Int)(hl:l.length<=1000000000)(h8:By l)
include hl h8
end
def At(l:List Int)(p:Nat)(bs:List Bool):Prop:=p+bs.length<=8*l.length/\∀i,i<bs.length->KS l (p+i)=bs.getD i false
theorem At.pk(bs:List Bool):At (pk bs) 0 bs:=⟨by rw[yo];omega,fun i hi=>by rw[zha];exact qgj bs i hi⟩
theorem At.app{l:List Int}{p:Nat}{a c:List Bool}(h:At l p (a++c)):At l p a/\At l (p+a.length) c:=by
 obtain⟨h1,h2⟩:=h
 simp only[zgi]at h1 h2
 refine⟨⟨qc,fun i hi=>?_⟩,⟨qc,fun i hi=>?_⟩⟩
 ·rw[h2 i qc,zgp,zgp,zg0 hi]
 ·rw[ziq,h2 (a.length+i) qc,zgp,zgp,zgv qc]
  congr 2
  omega
theorem At.cons{l:List Int}{p:Nat}{a:Bool}{c:List Bool}(h:At l p (a::c)):rb l p false=(a,p+1,false)/\At l (p+1) c:=by
 have h':At l p ([a]++c):=h
 have g:=h'.app
 refine⟨?_,by simpa using g.2⟩
 have h1:=h.1
 simp only[zgk]at h1
 have h2:=h.2 0 qf
 unfold rb
 rw[if_neg qh]
 simp at h2
 rw[h2]
section
variable (c br kk wa:Nat)(t:Nat)(bl:List Int)(hkk:kk<=63)(hm:wa<=100000)(hbl:bl.length<=100000000)(h8:By bl)(hne:c≠br)
include hkk hm hbl h8 hne
end
section
variable (b c br kk t:Nat)(bl:List Int)(hs:List Nat)(hkk:kk<=63)(hm:hs.length<=4096)(hbl:bl.length<=100000000)(h8:By bl)(hne:c≠br)(h64:∀x∈hs,x<18446744073709551616)(hr:xP hs)(hq:∀g∈ze hs,g/2^kk<=4096)
include hkk hm hbl h8 hne h64 hr hq
end
theorem Zx(hp:Hp):run cxX 14 [] hp=some (.agg [.sc (.int .i64 1000),.sc (.int .i64 1048576)],hp):=by
 rw[E14]
 simp
theorem uv0:uv 0=[0]:=by rw[uv];rfl
theorem xY0:xY []=zr [0]:=by
 have e:xY []=zr (uv 0++[]):=rfl
 rw[e,uv0]
 rfl
theorem qmv(X:AV)(hl:zA X=some 0)(hr:ro X=X)(g:AV)(hp:Hp):run cxX 33 [X,g] hp=some (.tup [],hp):=by
 have ins:∀g hp,run cxX 136 [X,.sc (.int .i64 0),.sc (.int .i64 0),g] hp=some (.tup [],hp):=by
  intro g hp
  have b1:∀g,B136_1 X (.int .i64 0) (.int .i64 0) g (.int .i64 1) hp=some (.tup [],hp):=by
   intro g
   rw[Yj]
   simp
  rw[E136]
  simp[hr]
  exact b1 _
 have b7:∀g hp,B66_7 X (.int .i64 0) g (.int .i64 20) hp=some (.tup [],hp):=by
  intro g hp
  rw[qg7]
  simp
 have b2:∀g hp,B66_2 X (.int .i64 0) g (.int .i64 20) (.int .i64 0) (.int .i64 20) hp=some (.tup [],hp):=by
  intro g hp
  rw[qg8]
  simp[ins,b7,hr]
 have st:∀g hp,run cxX 66 [X,.sc (.int .i64 0),g] hp=some (.tup [],hp):=by
  intro g hp
  rw[E66]
  simp[b2,hr]
 rw[E33]
 simp[st,hl,hr]
theorem Ys(X X1 X2:AV)(hr:ro X=X)(hl:zA X=some 0)(ht:yr X1=some ())(h2:ro X1=X2)(h3:zA X2=some 0)(h4:ro X2=X2)(h5:yr X2=some ())(hp:Hp)(cn:run cxX 32 [X] hp=some (X1,hp)):run cxX 13 [X,.agg [.sc (.int .i64 1000),.sc (.int .i64 1048576)]] hp=some (.tup [S 1 1 (LI .u8 (vO [])),.sc (.int .i64 0)],hp):=by
 have wi:=vu 1000 1048576 hp0
 have m1:min (max (1000:Int) 0) 1000=1000:=qg
 have m2:min (max (1048576:Int) 0) 1048576=1048576:=qg
 rw[m1,m2]at wi
 obtain⟨g,cl⟩:=Wj [] 2 (fun p hp=>nomatch hp) qg (by rw[show xY (jX [] 6)=zr [0]from xY0];decide) hp0
 have cl:run cxX 36 [S 2 1 [],.agg [.sc (.int .i64 1000),.sc (.int .i64 1048576)]] hp0=some (.tup [S 1 1 (LI .u8 (vO [])),.sc (.int .i64 0)],g):=cl
 have so:=fun g hp=>qmv X2 h3 h4 g hp
 rw[E13]
 generalize LI .u8 (vO [])=Y at*
 simp[wi,qm,qn,qj,hr,hl,ht,h2,h3,h4,h5,cn,so,Vr,cl]
theorem QK(hp:Hp):run cxX 13 [S 2 1 [],.agg [.sc (.int .i64 1000),.sc (.int .i64 1048576)]] hp=some (.tup [S 1 1 (LI .u8 (vO [])),.sc (.int .i64 0)],hp):=by
 refine Ys (S 2 1 []) (S 2 1 []) (S 2 1 []) qf qf rfl qf qf qf rfl hp ?_
 have n0:qe6 (S 2 1 [])=some true:=rfl
 rw[E32]
 simp[n0]
theorem qww(k:Nat)(cs:List AV)(i h:Nat)(hi:i<=h)(hh:h<=cs.length)(hne:cs≠[]):jb 1 (S k 1 cs) (some (.int .i64 (i:Int))) (some (.int .i64 (h:Int))) none=some (S 0 1 ((cs.drop i).take (h-i))):=by
 have b1:qC 0 ((cs.length:Nat):Int) none cs.length=some cs.length:=rfl
 have b2:qC 0 ((cs.length:Nat):Int) (some (.int .i64 (h:Int))) cs.length=some h:=by
  have:(0:Int)<=(h:Int)/\(h:Int)<=((cs.length:Nat):Int):=⟨zja h,qc⟩
  simp only[qC,YP,zgh,this,and_self,if_true,zgu]
 have b3:qC 0 ((h:Nat):Int) (some (.int .i64 (i:Int))) 0=some i:=by
  have:(0:Int)<=(i:Int)/\(i:Int)<=((h:Nat):Int):=⟨zja i,qc⟩
  simp only[qC,YP,zgh,this,and_self,if_true,zgu]
 have key:(qC 0 ((cs.length:Nat):Int) none cs.length).bind (fun m=>(qC 0 (m:Int) (some (.int .i64 (h:Int))) cs.length).bind fun u=>(qC 0 (u:Int) (some (.int .i64 (i:Int))) 0).bind fun l=>some (AV.sl 1 ((cs.drop (l*1)).take ((u-l)*1))))=some (AV.sl 1 ((cs.drop i).take (h-i))):=by
  rw[b1,zgh,b2,zgh,b3,zgh,zhu,zhu]
 rcases zi k 1 cs with e|e|⟨e,e'⟩
 ·rw[e];simp only[jb,if_true];exact key
 ·rw[e];simp only[jb,if_true];exact key
 ·exact absurd e' hne
theorem Wo(k:Nat)(m:List Int)(hl:m.length<=900000)(h8:∀n∈m,0<=n/\n<256)(hp:Hp):run cxX 41 [S k 1 (LI .u8 (zr m))] hp=some (.sc (.bool true),hp):=by
 have r:=qb8 k m ((zm m%256:Nat):Int) ((zm m/256%256:Nat):Int) ((zm m/65536%256:Nat):Int) ((zm m/16777216%256:Nat):Int) hl h8 hp
 have e:[((zm m%256:Nat):Int),((zm m/256%256:Nat):Int),((zm m/65536%256:Nat):Int),((zm m/16777216%256:Nat):Int)]=xj (zm m):=rfl
 rw[e,decide_eq_true rfl]at r
 exact r
theorem qh6(k:Nat)(hp:Hp):∃hp',run cxX 44 [S k 1 (LI .u8 (zr [0]))] hp=some (.tup [S 2 1 [],.sc (.int .i64 0)],hp'):=by
 have rs:=Wo (rk k) [0] qg qg hp0
 have ln:(LI .u8 (zr [0])).length=5:=rfl
 have lk:∀k,zA (S k 1 (LI .u8 (zr [0])))=some 5:=fun k=>by rw[zG,ln]
 have sl:=qb1 (rk k) (LI .u8 (zr [0])) 1 qg (fun h=>nomatch h)
 have e1:(LI .u8 (zr [0])).take 1=LI .u8 [0]:=rfl
 rw[e1]at sl
 have wr:=Wa 0 [0] hp
 have r0:rk 0=0:=rfl
 rw[r0]at wr
 have tu:=qwr hp.next 0 [0] qg (fun x hx=>by rw[zhn.mp hx];decide) (most:=1000) (p:=0) (m:=0) (r:=[]) (by rw[uv0];rfl) qg qg (hp.new (Rc 0 [0] 0 0)) (zhf _) (qB _ _)
 rw[uv0]at tu
 have tu:run cxX 88 [.ptr hp.next 0 0,.sc (.int .u64 1000)] (hp.new (Rc 0 [0] 0 0))=some (.sc (.int .u64 0),(hp.new (Rc 0 [0] 0 0)).put hp.next 0 (Rc 0 [0] 1 0)):=tu
 have en:=qr0 hp.next 0 [0] 1 0 ((hp.new (Rc 0 [0] 0 0)).put hp.next 0 (Rc 0 [0] 1 0)) qg qg (qr _ _ _)
 rw[if_neg qg]at en
 have ck:=XF [] ⟨(fun e he=>nomatch he),(fun e he=>nomatch he),(fun e he=>nomatch he),(fun e he=>nomatch he),(fun i e e' h=>by cases h),zhf _⟩ 2 hp0
 have ck:run cxX 84 [S 2 1 []] hp0=some (.sc (.int .i64 0),hp0):=ck
 refine⟨(hp.new (Rc 0 [0] 0 0)).put hp.next 0 (Rc 0 [0] 1 0),?_⟩
 have b17:B44_17 (.ptr hp.next 0 0) (S 2 1 []) ((hp.new (Rc 0 [0] 0 0)).put hp.next 0 (Rc 0 [0] 1 0))=some (.tup [S 2 1 [],.sc (.int .i64 0)],(hp.new (Rc 0 [0] 0 0)).put hp.next 0 (Rc 0 [0] 1 0)):=by
  rw[qpf]
  generalize(hp.new (Rc 0 [0] 0 0)).put hp.next 0 (Rc 0 [0] 1 0)=H at*
  simp[en,ck]
 have b12:B44_12 (.ptr hp.next 0 0) (S 2 1 []) (.int .u64 0) (.int .i64 0) (.int .u64 0) ((hp.new (Rc 0 [0] 0 0)).put hp.next 0 (Rc 0 [0] 1 0))=some (.tup [S 2 1 [],.sc (.int .i64 0)],(hp.new (Rc 0 [0] 0 0)).put hp.next 0 (Rc 0 [0] 1 0)):=by
  rw[qpg]
  simp[b17]
 have b11:B44_11 (.ptr hp.next 0 0) (S 2 1 []) (.int .u64 0) (.int .i64 0) ((hp.new (Rc 0 [0] 0 0)).put hp.next 0 (Rc 0 [0] 1 0))=some (.tup [S 2 1 [],.sc (.int .i64 0)],(hp.new (Rc 0 [0] 0 0)).put hp.next 0 (Rc 0 [0] 1 0)):=by
  rw[qph]
  exact b12
 have w5:IntKind.i64.wrap (5-4)=1:=qg
 have z1:IntKind.i64.wrap 1=1:=qg
 have sl:jb 1 (S (rk k) 1 (LI .u8 (zr [0]))) none (some (.int .i64 1)) none=some (S 0 1 (LI .u8 [0])):=sl
 rw[E44]
 generalize LI .u8 (zr [0])=Y at*
 generalize LI .u8 [0]=Z at*
 generalize(hp.new (Rc 0 [0] 0 0)).put hp.next 0 (Rc 0 [0] 1 0)=H at*
 generalize hp.new (Rc 0 [0] 0 0)=H0 at*
 simp[-zG,lk,rs,w5,z1,sl,wr,tu,b11]
theorem zdj:vO []=hdB++zr [0]++yD 6 5:=by
 show hdB++[]++xY []++yD (hdB++[]).length (xY []).length=_
 rw[xY0]
 rfl
theorem qmy(k:Nat)(hp:Hp):∃a t hp',run cxX 16 [S k 1 (LI .u8 (vO [])),.agg [.sc (.int .i64 1000),.sc (.int .i64 1048576)]] hp=some (.tup [.ptr a 0 0,.sc (.int .i64 0)],hp')/\hp'.rd a 0=some [t,S 2 1 []]:=by
 have wi:=vu 1000 1048576 hp0
 have m1:min (max (1000:Int) 0) 1000=1000:=qg
 have m2:min (max (1048576:Int) 0) 1048576=1048576:=qg
 rw[m1,m2]at wi
 rw[zdj]
 have ln:(LI .u8 (hdB++zr [0]++yD 6 5)).length=23:=rfl
 have lk:∀k,zA (S k 1 (LI .u8 (hdB++zr [0]++yD 6 5)))=some 23:=fun k=>by rw[zG,ln]
 have s1:=qb1 (rk k) (LI .u8 (hdB++zr [0]++yD 6 5)) 6 (by rw[ln];decide) (fun h=>nomatch h)
 have e1:(LI .u8 (hdB++zr [0]++yD 6 5)).take 6=LI .u8 hdB:=rfl
 rw[e1]at s1
 have s1:jb 1 (S (rk k) 1 (LI .u8 (hdB++zr [0]++yD 6 5))) none (some (.int .i64 6)) none=some (S 0 1 (LI .u8 hdB)):=s1
 have bu:=Jg hdB
 have s2:=xM (rk k) (LI .u8 (hdB++zr [0]++yD 6 5)) .i64 11 qg (by rw[ln];decide)
 have e2:(LI .u8 (hdB++zr [0]++yD 6 5)).drop (11:Int).toNat=LI .u8 (yD 6 5):=rfl
 rw[e2]at s2
 have s3:=qww (rk k) (LI .u8 (hdB++zr [0]++yD 6 5)) 6 11 qg (by rw[ln];decide) (fun h=>nomatch h)
 have e3:((LI .u8 (hdB++zr [0]++yD 6 5)).drop 6).take (11-6)=LI .u8 (zr [0]):=rfl
 rw[e3]at s3
 have s3:jb 1 (S (rk k) 1 (LI .u8 (hdB++zr [0]++yD 6 5))) (some (.int .i64 6)) (some (.int .i64 11)) none=some (S 0 1 (LI .u8 (zr [0]))):=s3
 generalize tg (rk k) (LI .u8 (hdB++zr [0]++yD 6 5))=t2 at s2
 have cr:=Wo (rk t2) (xj 6++xj 5) qg (fun x hx=>(zg1.mp hx).elim (Zn x) (Zn x)) hp0
 have cr:run cxX 41 [S (rk t2) 1 (LI .u8 (yD 6 5))] hp0=some (.sc (.bool true),hp0):=cr
 have wr:=Wa (rk t2) (yD 6 5) hp
 have w1:=Wf hp.next (rk (rk t2)) (yD 6 5) (by rw[ZZ];decide) 6 qg 0 (xj 5++xj (zm (xj 6++xj 5))) rfl (hp.new (Rc (rk (rk t2)) (yD 6 5) 0 0)) (zhf _) (qB _ _)
 have w2:=Wf hp.next (rk (rk t2)) (yD 6 5) (by rw[ZZ];decide) 5 qg 4 (xj (zm (xj 6++xj 5))) rfl ((hp.new (Rc (rk (rk t2)) (yD 6 5) 0 0)).put hp.next 0 (Rc (rk (rk t2)) (yD 6 5) (0+4) 0)) (by rw[ZZ];decide) (qr _ _ _)
 rw[qx]at w2
 obtain⟨g,xt⟩:=qh6 0 hp0
 have z1:IntKind.i64.wrap (23-12)=11:=qg
 have z2:IntKind.i64.wrap 6=6:=qg
 have z3:IntKind.i64.wrap 5=5:=qg
 have z4:IntKind.i64.wrap (6+5)=11:=qg
 have z5:IntKind.i64.wrap (11+12)=23:=qg
 have z6:IntKind.i64.wrap 11=11:=qg
 have z7:IntKind.i64.wrap 23=23:=qg
 have w1:run cxX 43 [.ptr hp.next 0 0] (hp.new (Rc (rk (rk t2)) (yD 6 5) 0 0))=some (.sc (.int .u32 6),(hp.new (Rc (rk (rk t2)) (yD 6 5) 0 0)).put hp.next 0 (Rc (rk (rk t2)) (yD 6 5) (0+4) 0)):=w1
 have w2:run cxX 43 [.ptr hp.next 0 0] ((hp.new (Rc (rk (rk t2)) (yD 6 5) 0 0)).put hp.next 0 (Rc (rk (rk t2)) (yD 6 5) (0+4) 0))=some (.sc (.int .u32 5),(hp.new (Rc (rk (rk t2)) (yD 6 5) 0 0)).put hp.next 0 (Rc (rk (rk t2)) (yD 6 5) (4+4) 0)):=w2
 have ap:=fun k=>Va .u8 [] 1 (.inl rfl) 1 qg k (hdB++zr [0]++yD 6 5) qg
 have ex:[]++(hdB++zr [0]++yD 6 5)=hdB++zr [0]++yD 6 5:=rfl
 rw[ex]at ap
 have ap:∀k,yB 1 1 (S 1 1 []) (S k 1 (LI .u8 (hdB++zr [0]++yD 6 5)))=some (S 1 1 (LI .u8 (hdB++zr [0]++yD 6 5))):=ap
 obtain⟨H1,hH1⟩:∃H1,H1=(hp.new (Rc (rk (rk t2)) (yD 6 5) 0 0)).put hp.next 0 (Rc (rk (rk t2)) (yD 6 5) (4+4) 0):=⟨_,rfl⟩
 rw[<-hH1]at w2
 obtain⟨t,hb⟩:∃t,B16_21 (S k 1 (LI .u8 (hdB++zr [0]++yD 6 5))) (.int .i64 6) (S 2 1 []) (.int .i64 6) (S 2 1 []) (.int .i64 0) (.int .i64 0) H1=some (.tup [.ptr H1.next 0 0,.sc (.int .i64 0)],H1.new [t,S 2 1 []]):=by
  refine⟨ro1 (ro1 (S 1 1 (LI .u8 (hdB++zr [0]++yD 6 5)))),?_⟩
  rw[qp8]
  generalize LI .u8 (hdB++zr [0]++yD 6 5)=Y at*
  simp[ap,qm]
 refine⟨H1.next,t,H1.new [t,S 2 1 []],?_,qB _ _⟩
 have b14:B16_14 (S k 1 (LI .u8 (hdB++zr [0]++yD 6 5))) (.int .i64 6) (.int .i64 5) [.sc (.int .i64 1000),.sc (.int .i64 1048576)] H1=some (.tup [.ptr H1.next 0 0,.sc (.int .i64 0)],H1.new [t,S 2 1 []]):=by
  rw[<-hb,qp9]
  generalize LI .u8 (hdB++zr [0]++yD 6 5)=Y at*
  generalize LI .u8 (zr [0])=X at*
  simp[-zG,z4,z6,s3,xt,qj,zG]
 rw[<-b14,E16]
 clear b14 hb ap
 have hU:yg hdB=[72,69,82,66,49,10]:=qg
 generalize LI .u8 hdB=HB at*
 generalize LI .u8 (hdB++zr [0]++yD 6 5)=Y at*
 generalize LI .u8 (yD 6 5)=F at*
 generalize LI .u8 (zr [0])=X at*
 generalize(hp.new (Rc (rk (rk t2)) (yD 6 5) 0 0)).put hp.next 0 (Rc (rk (rk t2)) (yD 6 5) (0+4) 0)=H2 at*
 generalize hp.new (Rc (rk (rk t2)) (yD 6 5) 0 0)=H0 at*
 simp[-zG,wi,qm,qn,qj,lk,s1,bu,hU,z1,s2,cr,wr,w1,w2,Qn,z2,z3,z4,z5,z6,z7,hH1]
section
variable {α:Type}(C:α->List AV)(n:Nat)
theorem qnh{l:List α}(hl:∀x∈l,El C n x)(i:Nat):(qp C l).drop (i*n)=qp C (l.drop i):=by
 by_cases hi:i<=l.length
 ·have e:qp C l=qp C (l.take i)++qp C (l.drop i):=by rw[<-ve,zkb]
  have h1:(qp C (l.take i)).length=i*n:=by
   rw[zC C n (fun x hx=>hl x (zhl hx)),zhj,zio hi,zhe]
  rw[e,<-h1,zkk]
 ·have h1:l.drop i=[]:=zhi qc
  rw[h1,zhi]
  ·rfl
  ·rw[zC C n hl,zhe]
   exact zgz n qc
theorem qng{l:List α}(hl:∀x∈l,El C n x){i:Nat}(hi:i<=l.length):(qp C l).take (i*n)=qp C (l.take i):=by
 have e:qp C l=qp C (l.take i)++qp C (l.drop i):=by rw[<-ve,zkb]
 have h1:(qp C (l.take i)).length=i*n:=by
  rw[zC C n (fun x hx=>hl x (zhl hx)),zhj,zio hi,zhe]
 rw[e,<-h1,zji]
theorem zcm{l:List α}(hl:∀x∈l,El C n x){i k:Nat}(h:i+k<=l.length):qn (qp C l) (i*n) (k*n)=some (qp C ((l.drop i).take k)):=by
 have h1:i*n+k*n<=(qp C l).length:=by
  rw[zC C n hl,<-Nat.add_mul,zhe]
  exact zhz n h
 unfold qn
 rw[if_pos h1,qnh C n hl,qng C n (fun x hx=>hl x (zi0 hx)) (by rw[zi4];omega)]
variable (hn:0<n)
include hn
theorem qty{l:List α}(hl:∀x∈l,El C n x):wa n (qp C l)=l.length:=Kj hn (by rw[zC C n hl,zhe])
theorem qh1{l:List α}(hl:∀x∈l,El C n x){hp:Hp}{b i k:Nat}(hb:hp.rd b 0=some (qp C l))(h:i+k<=l.length):xm hp n (.ms b 0 (i*n) k n)=some (qp C ((l.drop i).take k)):=by
 have g:=zcm C n hl h
 have e:=qca C n (l:=(l.drop i).take k) (fun x hx=>hl x (zi0 (zhl hx)))
 unfold xm
 show(va (n=n/\0<n)).bind _=_
 rw[yy ⟨rfl,hn⟩]
 show(hp.rd b 0).bind _=_
 rw[hb]
 show(qn (qp C l) (i*n) (k*n)).bind _=_
 rw[g]
 show some (List.map ro1 _)=_
 rw[e]
theorem qwu{l:List α}(hl:∀x∈l,El C n x){hp:Hp}{b:Nat}(hb:hp.rd b 0=some (qp C l)):xm hp n (.ms b 0 0 l.length n)=some (qp C l):=by
 have h:=qh1 C n hn hl (i:=0) (k:=l.length) hb qc
 rwa [zh7,zjh,zg4 (zgm _)]at h
omit hn in
theorem qu0(B:Nat)(hB:0<B/\B<=1000){l:List α}(hl:∀x∈l,El C n x)(k:Nat)(h:k+l.length<=1000000):jP B n (k*n+(qp C l).length)=true:=by
 refine xw hB.1 ?_
 rw[zC C n hl]
 have e:(k*n+n*l.length)*B=((k+l.length)*B)*n:=by rw[zhe n,<-Nat.add_mul,zic,zhe n B,<-Nat.mul_assoc]
 rw[e]
 exact zgz n (zhw (zh0 h hB.2) qg)
theorem qk3{l:List α}(hl:∀x∈l,El C n x)(h:l≠[]):∃y ys,qp C l=y::ys:=by
 cases e:qp C l with
 |nil=>exact absurd (XP C n hn hl e) h
 |cons y ys=>exact⟨y,ys,rfl⟩
theorem Jm(B:Nat)(hB:0<B/\B<=1000){m:List α}(hm:∀x∈m,El C n x)(hne:m≠[])(hl:m.length<=1000000)(k:Nat)(hk:k=1\/k=2)(s:AV)(hp:Hp)(hs:xm hp n s=some (qp C m)):
 zV B n (S k n []) s hp=some (.ms hp.next 0 0 m.length n,hp.new (qp C m)):=by
 have hf:=qu0 C n B hB hm 0 qc
 have hm':=qty C n hn hm
 obtain⟨y,ys,e⟩:=qk3 C n hn hm hne
 rw[e]at hs hf hm'⊢
 rw[zh7,zha]at hf
 rw[<-hm']
 unfold zV
 rw[hs]
 rcases hk with rfl|rfl
 ·show(va (n=n/\jP B n (y::ys).length=true)).bind _=_
  rw[yy ⟨rfl,hf⟩]
  rfl
 ·show(va (kL nil0=true/\jP B n (y::ys).length=true)).bind _=_
  rw[yy ⟨rfl,hf⟩]
  rfl
omit hn in
theorem qde(B:Nat)(k:Nat)(hk:k=1\/k=2)(s:AV)(hp:Hp)(hs:xm hp n s=some []):zV B n (S k n []) s hp=some (S k n [],hp):=by
 unfold zV
 rw[hs]
 rcases hk with rfl|rfl
 ·have e:qdc B n (.us n []) []=some (.us n []):=if_pos rfl
  show(qdc B n (.us n []) []).bind (fun y=>some (y,hp))=_
  rw[e]
  rfl
 ·rfl
theorem qdd(B:Nat)(hB:0<B/\B<=1000){l m:List α}(hl:∀x∈l,El C n x)(hm:∀x∈m,El C n x)(h1:l≠[])(h2:m≠[])(h:l.length+m.length<=1000000)(s:AV)(hp:Hp)(b:Nat)(hb:hp.rd b 0=some (qp C l))(hs:xm hp n s=some (qp C m)):
 zV B n (.ms b 0 0 l.length n) s hp=some (.ms hp.next 0 0 (l.length+m.length) n,(hp.del b).new (qp C (l++m))):=by
 have hf:=qu0 C n B hB hm l.length h
 have hm':=qty C n hn hm
 have hpos:0<l.length:=zh5.mpr h1
 have hll:l.length*n<=(qp C l).length:=by rw[zC C n hl,zhe];exact zgm _
 have et:(qp C l).take (l.length*n)=qp C l:=zg4 (by rw[zC C n hl,zhe];exact zgm _)
 have er:=qca C n hl
 rw[ve]
 obtain⟨y,ys,e⟩:=qk3 C n hn hm h2
 rw[e]at hs hf hm'⊢
 unfold zV
 rw[hs]
 show(va (n=n/\0=0/\0<l.length)).bind _=_
 rw[yy ⟨rfl,rfl,hpos⟩,zgh,hb,zgh]
 show(va (l.length*n<=(qp C l).length/\jP B n (l.length*n+(y::ys).length)=true)).bind _=_
 rw[yy ⟨hll,hf⟩,zgh]
 show some (AV.ms hp.next 0 0 (l.length+wa n (y::ys)) n,(hp.del b).new (((qp C l).take (l.length*n)).map ro1++(y::ys)))=_
 rw[et,er,hm']
omit hn in
theorem qzt(B b g off k:Nat)(s:AV)(hp:Hp)(hs:xm hp n s=some []):zV B n (.ms b g off k n) s hp=some (.ms b g off k n,hp):=by
 unfold zV
 rw[hs]
 show(va (n=n)).bind _=_
 rw[yy rfl]
 rfl
end
def kr(t n b:Nat){α:Type}(l:List α):AV:=if l=[]then S t n []else .ms b 0 0 l.length n
theorem xg(t n b:Nat){α:Type}{l:List α}(h:l≠[]):kr t n b l= .ms b 0 0 l.length n:=if_neg h
theorem qyu(t n b:Nat){α:Type}(l:List α):zA (kr t n b l)=some l.length:=by
 unfold kr
 split
 ·rename_i h
  subst h
  rcases zi t n []with e|e|⟨e,_⟩<;>rw[e]<;>simp[zA,nil0,kL]
 ·rfl
structure Be.Fin (e : Be) : Prop where
 ok:e.Ok
 fine:Fine e.x
 h64:H64 e.x
 few:(QL e.x).length<=100100
 kd:0<=e.x.kind/\e.x.kind<6
def beF(e:Be):Frm×Nat:=(⟨e.nm,e.x.kind,QL e.x⟩,0)
def kS(l:List Be):List (Frm×Nat):=l.map beF
theorem zdh{e:Be}(h:e.Fin):(beF e).1.Ok:=by
 have:=h.ok.n1;have:=h.few
 exact⟨by show 1<=e.nm.length/\e.nm.length<=255;omega,h.ok.nb,h.kd,by show(QL e.x).length<=800000;omega,qxt h.fine h.h64⟩
theorem qvr{l:List Be}(h:∀e∈l,e.Fin):∀p∈kS l,p.1.Ok:=by
 intro p hp
 obtain⟨e,he,rfl⟩:=zg6.mp hp
 exact zdh (h e he)
theorem qmd:∀{l:List Be},(∀e∈l,e.Fin)->(Yz (kS l)).length<=100174*l.length
 |[],_=>zhf _
 |e::r,h=>by
  have ih:=qmd (l:=r) (fun p hp=>h p (by simp[hp]))
  have he:=h e qf
  have h1:=he.ok.n1;have h2:=he.few
  have yl:=Xi (beF e).1
  have e1:(beF e).1.nm.length=e.nm.length:=rfl
  have e2:(beF e).1.pl.length=(QL e.x).length:=rfl
  show(yi (beF e).1++Yz (kS r)).length<=_
  rw[zgi,zgk]
  omega
theorem qq3:∀{l:List Ie} (i:Nat),(∀e∈l,e.nm.length<=255/\e.po<=1048576/\e.sz<=1048576)->(xR l i).length<=276*l.length
 |[],_,_=>zhf _
 |e::r,i,h=>by
  have ih:=qq3 (l:=r) (i+1) (fun p hp=>h p (by simp[hp]))
  have he:=h e qf
  have xl:=qq4 (i:=i) he.1 he.2.1 he.2.2
  show(xB i e++xR r (i+1)).length<=_
  rw[zgi,zgk]
  omega
theorem qvq{l:List Be}(hn:l.length<=8)(h:∀e∈l,e.Fin):(hdB++Yz (kS l)).length+(xY (jX (kS l) 6)).length+12<=900000:=by
 have fsm:=qmd h
 have h6:hdB.length=6:=rfl
 have bl:(kS l).length=l.length:=by simp[kS]
 have eo:=qc4 (kS l) 6 (qvr h) qc qc
 have xs:=qq3 (l:=jX (kS l) 6) 0 (fun e he=>⟨(eo.nl e he).2,(eo.po e he).2,(eo.sz e he).2⟩)
 have u:=qy (n:=(jX (kS l) 6).length) (by rw[vh];omega)
 rw[vh]at xs u
 unfold xY xH
 rw[xK,zgi,zgi,h6,vh]
 omega
theorem qel:∀(l:List Be) (p:Be),(∀e∈p::l,e.Ok)->Srt (p::l)->XU p.nm (l.map Be.nm)=true
 |[],_,_,_=>rfl
 |a::l,p,ho,h=>by
  obtain⟨h1,h2⟩:=zgr.mp h
  have ih:=qel l a (fun e he=>ho e (by simp[he])) h2
  have ha:=h1 a qf
  show(gtN a.nm p.nm&&XU a.nm (l.map Be.nm))=true
  rw[ih]
  unfold gtN
  rw[qdw ha]
  have:a.nm≠p.nm:=fun q=>by rw[q,wZ]at ha;cases ha
  simp[this]
theorem qss(l:List Be)(ho:∀e∈l,e.Ok)(h:Srt l):JG (l.map Be.nm)=true:=by
 cases l with
 |nil=>rfl
 |cons p l=>exact qel l p ho h
theorem zbm{L:List Be}(hL:∀e∈L,e.Ok){i:Nat}{x:Be}(h:L[i]?=some x):qj (qp qM L) (i*24)=some (st x.nm):=by
 have g:=ZH hL h
 unfold qn at g
 split at g
 ·have g:=zgy g
  have e:(qp qM L)[i*24]?=(qM x)[0]?:=by
   rw[<-g,zju qg,zhb]
   rfl
  unfold qj
  rw[e]
  rfl
 ·cases g
def qfe:List AV:=[.sc (.int .i64 1000),.sc (.int .i64 1048576)]
theorem qgm(b:Nat)(L:List Be)(hL:∀e∈L,e.Fin)(hs:Srt L)(hn:L.length<=8):∀(r:List Be) (i:Nat) (fs:List (Frm×Nat)) (hp:Hp),L.drop i=r->i<=L.length->fs++kS r=kS L->hp.rd b 0=some (qp qM L)->
 B13_8 (.ms b 0 0 L.length 24) (S 2 3 (qp WQ fs)) (.ms b 0 0 L.length 24) (.int .i64 (L.length:Int)) (.int .i64 (i:Int)) qfe hp=some (.tup [S 1 1 (LI .u8 (vO (kS L))),.sc (.int .i64 0)],hp):=by
 intro r
 induction r with
 |nil=>
  intro i fs hp hr hi hf h
  have h1:=qA hr
  have hlt:¬((i:Int)<(L.length:Int)):=qc
  have hf:fs=kS L:=by rw[<-hf];exact(zhd fs).symm
  subst hf
  obtain⟨g,cl⟩:=Wj (kS L) 3 (qvr hL) (by simp[kS];omega) (qvq hn hL) hp0
  have rs:JG ((kS L).map fun p=>p.1.nm)=true:=by
   have e:(kS L).map (fun p=>p.1.nm)=L.map Be.nm:=by simp[kS,beF,zko]
   rw[e]
   exact qss L (fun e he=>(hL e he).ok) hs
  rw[if_pos rs]at cl
  rw[Vr]
  unfold qfe
  generalize qp WQ (kS L)=R at*
  generalize LI .u8 (vO (kS L))=Y at*
  simp[hlt,qn,cl]
 |cons e r ih=>
  intro i fs hp hr hi hf h
  obtain⟨e1,e2,hi',e3⟩:=qu hr
  have hLo:∀e∈L,e.Ok:=fun e he=>(hL e he).ok
  have he:=hL e (zgo e1)
  have hlt:(i:Int)<(L.length:Int):=qc
  have g1:=ZH hLo e1
  have i1:idx L.length (.int .i64 (i:Int))=some i:=zd .i64 hi'
  have l1:(qM e).length=24:=(zx he.ok).len
  have r1:=(zx he.ok).ro
  have k0:qj (qM e) 0=some (st e.nm):=rfl
  have k1:qj (qM e) 1=some (.int .u8 e.x.kind):=he.ok.cl.k0
  have gc:qn (qM e) 1 23=some e.cs:=by
   have:(qM e).length=24:=l1
   unfold qn
   rw[if_pos qc]
   show some (e.cs.take 23)=_
   rw[zg4 (by rw[he.ok.cl.len];omega)]
  have pn:∀Z:List AV,Z.length=24->qm Z 0 (qM e)=some (qM e):=fun Z hZ=>Wq Z _ (by rw[hZ,l1])
  obtain⟨g,pp⟩:=qw6 he.ok.cl.sk he.fine he.h64 hp0
  have cv:=he.ok.cl.vl
  have cr:=he.ok.cl.ro
  have cln:=he.ok.cl.len
  have ap:=qvv WQ 3 48 2 qg (.inr rfl) (l:=fs) (x:=beF e) (fun x _=>qc2 x) (qc2 _) (by
   have:=congrArg List.length hf
   simp[kS]at this
   omega)
  have w1:IntKind.i64.wrap ((i:Int)+1)=((i+1:Nat):Int):=qi
  have z:=ih (i+1) (fs++[beF e]) hp e2 qc (by rw[<-hf,zgw];rfl) h
  rw[<-z]
  have b12:B13_12 (.ms b 0 0 L.length 24) (S 2 3 (qp WQ fs)) (.ms b 0 0 L.length 24) (.int .i64 (L.length:Int)) (.int .i64 (i:Int)) qfe (qM e) hp=B13_8 (.ms b 0 0 L.length 24) (S 2 3 (qp WQ (fs++[beF e]))) (.ms b 0 0 L.length 24) (.int .i64 (L.length:Int)) (.int .i64 ((i+1:Nat):Int)) qfe hp:=by
   clear z ih
   rw[qqk]
   generalize qp WQ (fs++[beF e])=R2 at*
   generalize qp WQ fs=R at*
   have ap:yB 48 3 (S 2 3 R) (S 1 3 [.sc (st e.nm),.sc (.int .u8 e.x.kind),S 0 1 (LI .u8 (QL e.x))])=some (S 2 3 R2):=ap
   generalize qM e=X at*
   generalize LI .u8 (QL e.x)=Y at*
   generalize st e.nm=N at*
   generalize((i+1:Nat):Int)=J at*
   simp[-List.map_map,-List.all_map,-List.all_eq_true,gc,cv,cr,cln,pp,k0,k1,qm,ap,w1]
  rw[<-b12]
  have ci:i=0\/∃j p,i=j+1/\L[j]?=some p/\p.nm≠e.nm:=by
   cases i with
   |zero=>exact .inl rfl
   |succ j=>
    refine .inr ⟨j,L[j],rfl,zgl qc,fun q=>?_⟩
    have:=List.pairwise_iff_getElem.mp hs j (j+1) qc hi' qc
    have e4:L[j+1]=e:=by
     have:=zgl hi'
     rw[e1]at this
     exact(zgy this).symm
    rw[e4,q,wZ]at this
    cases this
  have nb:=he.ok.nb
  have z24:(24:Nat)=24:=rfl
  rw[Vr]
  clear z ih b12
  rcases ci with rfl|⟨j,p,rfl,ej,en⟩
  ·generalize qp WQ fs=F at*
   generalize qp qM L=R at*
   generalize qM e=X at*
   have hlt:0<L.length:=hi'
   have i1:idx L.length (.int .i64 0)=some 0:=zd .i64 hlt
   have g1:qn R 0 24=some X:=g1
   have h0:((0:Nat):Int)=0:=rfl
   rw[h0]
   simp only[wV,qjy]
   simp[hlt,qK,i1,h,g1,ql,l1,r1,pn]
   done
  ·have hp2:=hL p (zgo ej)
   have q:=fun t x y=>zem Tryz.prog t x y e.nm p.nm nb hp2.ok.nb
   have en:¬(e.nm=p.nm):=fun q=>en q.symm
   rw[decide_eq_false en]at q
   have g2:=zbm hLo ej
   have i2:idx L.length (.int .i64 (j:Int))=some j:=zd .i64 qc
   have w2:IntKind.i64.wrap (((j+1:Nat):Int)-1)=(j:Int):=qi
   have hpos:(0:Int)<((j+1:Nat):Int):=qc
   generalize qp WQ fs=F at*
   generalize qp qM L=R at*
   generalize qM e=X at*
   generalize st e.nm=N at*
   generalize st p.nm=M at*
   generalize((j+1:Nat):Int)=J at*
   simp only[wV,qjy]
   simp[hlt,hpos,qK,i1,h,g1,ql,l1,r1,pn,k0,w2,i2,g2,q]
   done
theorem QJ(L:List Be)(hL:∀e∈L,e.Fin)(hd:(L.map Be.nm).Nodup)(hn:L.length<=8)(t b:Nat)(ht:t=0\/t=2)(hp:Hp)(h:L≠[]->hp.rd b 0=some (qp qM L)):
 run cxX 13 [kr t 24 b L,.agg qfe] hp=some (.tup [S 1 1 (LI .u8 (vO (kS (zB [] L)))),.sc (.int .i64 0)],if L=[]then hp else hp.new (qp qM (zB [] L))):=by
 by_cases hne:L=[]
 ·subst hne
  rw[if_pos rfl]
  rcases ht with rfl|rfl
  ·have s0:=wA hp 0 24 []
   have ap:=qde 24 272 1 (.inl rfl) (S 0 24 []) hp s0
   refine Ys (S 0 24 []) (S 1 24 []) (S 0 24 []) rfl rfl rfl rfl rfl rfl rfl hp ?_
   have n0:qe6 (S 0 24 [])=some false:=rfl
   have r0:ro (S 0 24 [])=S 0 24 []:=rfl
   rw[E32]
   generalize S 0 24 []=X at*
   simp[n0,r0,ap]
  ·exact QK hp
 ·have hb:=h hne
  have hLo:∀e∈L,e.Ok:=fun e he=>(hL e he).ok
  have hel:∀e∈L,El qM 24 e:=fun e he=>zx (hLo e he)
  have s0:=qwu qM 24 qg hel hb
  have ap:=Jm qM 24 qg 272 qg hel hne qc 1 (.inl rfl) _ hp s0
  have so:=qmu hp.next L hLo hne qc (hp.new (qp qM L)) (qB _ _)
  rw[zW]at so
  have pm:=xD L []
  have hl:(zB [] L).length=L.length:=pm.length_eq
  have z:=qgm hp.next (zB [] L) (fun e he=>hL e (pm.mem_iff.mp he)) (Zq L [] List.Pairwise.nil hd) qc (zB [] L) 0 [] (hp.new (qp qM (zB [] L))) rfl (zhf _) rfl (qB _ _)
  have wi:=vu 1000 1048576 hp0
  have m1:min (max (1000:Int) 0) 1000=1000:=qg
  have m2:min (max (1048576:Int) 0) 1048576=1048576:=qg
  rw[m1,m2]at wi
  have cn:run cxX 32 [.ms b 0 0 L.length 24] hp=some (.ms hp.next 0 0 L.length 24,hp.new (qp qM L)):=by
   have n0:qe6 (.ms b 0 0 L.length 24)=some false:=rfl
   rw[E32]
   generalize qp qM L=R at*
   simp[n0,ap]
  have c1:¬((1000:Int)<(L.length:Int)):=qc
  have lm:∀b,zA (.ms b 0 0 L.length 24)=some L.length:=fun _=>rfl
  rw[if_neg hne,xg _ _ _ hne]
  rw[hl]at z
  unfold qfe at z⊢
  unfold wh at so
  rw[E13]
  generalize S 1 1 (LI .u8 (vO (kS (zB [] L))))=Y at*
  generalize qp qM (zB [] L)=R1 at*
  generalize qp qM L=R at*
  have z:B13_8 (.ms hp.next 0 0 L.length 24) (S 2 1 []) (.ms hp.next 0 0 L.length 24) (.int .i64 (L.length:Int)) (.int .i64 0) [.sc (.int .i64 1000),.sc (.int .i64 1048576)] (hp.new R1)=some (.tup [Y,.sc (.int .i64 0)],hp.new R1):=z
  simp[wi,qm,qn,qj,cn,so,c1,lm,z]
  done
end Go.Proofs.YtoliekekdmfngaaGreat.AI
namespace Go.Proofs.YtoliekekdmfngaaGreat.AI
open Go Go.RowKit Go.ChangeShapes Go.WideShapes Go.ChangeAt
set_option linter.unusedVariables false
set_option linter.unusedSimpArgs false
theorem Xl{β γ:Type}(D:β->List γ)(n:Nat)(hn:0<n):∀(L:List β) (i:Nat),(∀p∈L,(D p).length=n)->(L.flatMap D)[i]?=(L[i/n]?).bind fun p=>(D p)[i%n]?
 |[],i,_=>by simp
 |p::r,i,h=>by
  have hp:=h p qf
  have e:(p::r).flatMap D=D p++r.flatMap D:=rfl
  rw[e]
  by_cases hi:i<n
  ·rw[zg0 qc,zj6 hi,zhq hi]
   rfl
  ·have ih:=Xl D n hn r (i-n) (fun q hq=>h q (by simp[hq]))
   have e1:i/n=(i-n)/n+1:=by rw[Nat.div_eq_sub_div hn qc]
   have e2:i%n=(i-n)%n:=Nat.mod_eq_sub_mod qc
   rw[zgv qc,hp,ih,e1,e2]
   rfl
theorem Xk{β γ:Type}(D:β->List γ)(n:Nat):∀(L:List β),(∀p∈L,(D p).length=n)->(L.flatMap D).length=L.length*n
 |[],_=>by simp
 |p::r,h=>by
  have e:(p::r).flatMap D=D p++r.flatMap D:=rfl
  rw[e,zgi,Xk D n r (fun q hq=>h q (by simp[hq])),h p qf,zgk,Nat.succ_mul]
  omega
section
variable {H:Type}{enc:TypeId×Value->H}{P:Program}{W:World}{fuel:Nat}{t e:TypeId}{cs:List Value}{y:DataW H×List MemPlace}
theorem qsy{α:Type}[Inhabited α](C:α->List AV)(n:Nat)(hn:0<n)(Ok:α->Prop)(ht:P.underlying t=some (.slice e))(hc:P.cellsOf e=n)
 (each:∀(m:Nat) (cs':List Value) (y':DataW H×List MemPlace),DataW.trod enc P W 0 (fun _=>true) true m e cs'=some y'->cs'.length=n->
  ∃x:α,Ok x/\(C x).length=n/\(∀a∈C x,vl a=true)/\∀(i:Nat) (a:AV) (v:Value),(C x)[i]?=some a->cs'[i]?=some v->RelR (YN W) W a v)
 (h:DataW.trod enc P W 0 (fun _=>true) true fuel t cs=some y):∃k l v,cs=[v]/\RelR (YN W) W (S k n (qp C l)) v/\(∀x∈l,Ok x)/\l.length<9223372036854775808:=by
 rcases DataW.trod_slice ht h with⟨hcs,_⟩|⟨a,len,cap,elems,rest,m,_,hcs,_,_,hl,hcap,hlen,hel,_,_⟩
 ·exact⟨2,[],_,hcs,.sc nil0 rfl,qf,qf⟩
 ·have each2:∀i,i<len->∃p:α×List Value,(Ok p.1/\(C p.1).length=n/\(∀a∈C p.1,vl a=true)/\∀(i:Nat) (a:AV) (v:Value),(C p.1)[i]?=some a->p.2[i]?=some v->RelR (YN W) W a v)/\p.2.length=n/\∀j,j<n->W.cell? (a.add (i*n+j))=p.2[j]?:=by
   intro i hi
   have hb:=hel i hi
   rw[zgl qc,hc,Option.bind_eq_some_iff]at hb
   obtain⟨cs',hcs',hy'⟩:=hb
   obtain⟨_,hc2,hc3⟩:=World.cells?_some hcs'
   obtain⟨x,hx⟩:=each _ _ _ hy' hc2
   refine⟨(x,cs'),hx,hc2,fun j hj=>?_⟩
   rw[<-hc3 j hj,Addr.add_add]
  have ch:∃f:Nat->α×List Value,∀i,i<len->(Ok (f i).1/\(C (f i).1).length=n/\(∀a∈C (f i).1,vl a=true)/\∀(j:Nat) (a:AV) (v:Value),(C (f i).1)[j]?=some a->(f i).2[j]?=some v->RelR (YN W) W a v)/\(f i).2.length=n/\∀j,j<n->W.cell? (a.add (i*n+j))=(f i).2[j]?:=by
   refine⟨fun i=>if hi:i<len then(each2 i hi).choose else(default,[]),fun i hi=>?_⟩
   simp only[dif_pos hi]
   exact(each2 i hi).choose_spec
  obtain⟨f,hf⟩:=ch
  have hm:∀p∈(List.range len).map f,∃i,i<len/\p=f i:=by
   intro p hp
   obtain⟨i,hi,rfl⟩:=zg6.mp hp
   exact⟨i,by simpa using hi,rfl⟩
  have l1:∀p∈(List.range len).map f,(C p.1).length=n:=fun p hp=>by obtain⟨i,hi,rfl⟩:=hm p hp;exact(hf i hi).1.2.1
  have l2:∀p∈(List.range len).map f,p.2.length=n:=fun p hp=>by obtain⟨i,hi,rfl⟩:=hm p hp;exact(hf i hi).2.1
  have er:qp C (((List.range len).map f).map (·.1))=((List.range len).map f).flatMap (fun p=>C p.1):=by
   unfold qp
   rw[List.flatMap_map]
  have hg:∀(i:Nat),((List.range len).map f)[i]?=if i<len then some (f i)else none:=by
   intro i
   rw[zgx]
   by_cases h:i<len
   ·rw[if_pos h,zi6 h];rfl
   ·rw[if_neg h,zhg (by simpa using h)];rfl
  have ll:((List.range len).map f).length=len:=qf
  refine⟨0,((List.range len).map f).map (·.1),_,hcs,?_,?_,by rw[zhv,ll];unfold maxLen at hcap;omega⟩
  ·have:=qj5 (W:=W) (a:=a) (n:=len) (cap:=cap) (sz:=n) (cs:=qp C (((List.range len).map f).map (·.1))) (vs:=((List.range len).map f).flatMap (fun p:α×List Value=>p.2)) hn
    (by rw[er,Xk _ n _ l1,ll]) (by rw[er,Xk _ n _ l1,Xk _ n _ l2]) hl
    (fun i v hv=>by
     have hv:=(Xl (fun p:α×List Value=>p.2) n hn _ i l2).symm.trans hv
     rw[hg]at hv
     by_cases hi:i/n<len
     ·rw[if_pos hi]at hv
      have q:=(hf _ hi).2.2 (i%n) (zkd _ hn)
      have e:i/n*n+i%n=i:=Nat.div_add_mod' i n
      rw[e]at q
      exact q.trans hv
     ·rw[if_neg hi]at hv;cases hv)
    (fun x hx=>by
     rw[er]at hx
     obtain⟨p,hp,hx⟩:=List.mem_flatMap.mp hx
     obtain⟨i,hi,rfl⟩:=hm p hp
     exact(hf i hi).1.2.2.1 x hx)
    (fun i x v hx hv=>by
     rw[er]at hx
     have hx:=(Xl (fun p:α×List Value=>C p.1) n hn _ i l1).symm.trans hx
     have hv:=(Xl (fun p:α×List Value=>p.2) n hn _ i l2).symm.trans hv
     rw[hg]at hx hv
     by_cases hi:i/n<len
     ·rw[if_pos hi]at hv hx
      exact(hf _ hi).1.2.2.2 _ x v hx hv
     ·rw[if_neg hi]at hv;cases hv)
   exact this (fun _=>.fr)
  ·intro x hx
   obtain⟨p,hp,rfl⟩:=zg6.mp hx
   obtain⟨i,hi,rfl⟩:=hm p hp
   exact(hf i hi).1.1
end
structure S20 where
 nm:List Int
 k:Nat
 kd:Int
 pl:List Int
 k':Nat
deriving Inhabited
structure S20.Ok (x : S20) : Prop where
 k:x.k=0\/(x.k=2/\x.nm=[])
 k':x.k'=0\/(x.k'=2/\x.pl=[])
 nm:∀n∈x.nm,0<=n/\n<256
 kd:0<=x.kd/\x.kd<256
 pl:∀n∈x.pl,0<=n/\n<256
end Go.Proofs.YtoliekekdmfngaaGreat.AI
namespace Go.Proofs.YtoliekekdmfngaaGreat.AI
open Go Go.RowKit Go.ChangeShapes Go.WideShapes Go.ChangeAt
set_option linter.unusedVariables false
set_option linter.unusedSimpArgs false
theorem vlP:∀(l:List (Int×Int)) (x:AV),x∈LP l->vl x=true
 |[],x,h=>by cases h
 |p::l,x,h=>by
  simp only[LP,zgn]at h
  rcases h with rfl|rfl|h
  ·rfl
  ·rfl
  ·exact vlP l x h
def VP:List (Int×Int)->List Value
 |[]=>[]
 |p::l=>.int .u64 p.1::.int .u8 p.2::VP l
theorem zai:∀l,(VP l).length=2*l.length
 |[]=>rfl
 |p::l=>by simp only[VP,zgk,zai l];omega
theorem zal:∀(l:List (Int×Int)) (i:Nat) (v:Value),(VP l)[i]?=some v->∃p,l[i/2]?=some p/\v=if i%2=0 then .int .u64 p.1 else .int .u8 p.2
 |[],i,v,h=>by simp[VP]at h
 |p::l,0,v,h=>by
  simp only[VP,zir,zjy]at h
  exact⟨p,rfl,by simp[h]⟩
 |p::l,1,v,h=>by
  simp only[VP,zih,zir,zjy]at h
  exact⟨p,rfl,by simp[h]⟩
 |p::l,i+2,v,h=>by
  simp only[VP,zih]at h
  obtain⟨q,h1,h2⟩:=zal l i v h
  refine⟨q,?_,?_⟩
  ·rw[show(i+2)/2=i/2+1 by omega,zih];exact h1
  ·rw[show(i+2)%2=i%2 by omega];exact h2
theorem zaa:∀(l:List (Int×Int)) (i:Nat) (x:AV) (v:Value),(LP l)[i]?=some x->(VP l)[i]?=some v->x= .sc v/\v.oneCell'=true
 |[],i,x,v,h,_=>by simp[LP]at h
 |p::l,0,x,v,h,h'=>by
  simp only[LP,VP,zir,zjy]at h h'
  subst h h'
  exact⟨rfl,rfl⟩
 |p::l,1,x,v,h,h'=>by
  simp only[LP,VP,zih,zir,zjy]at h h'
  subst h h'
  exact⟨rfl,rfl⟩
 |p::l,i+2,x,v,h,h'=>by
  simp only[LP,VP,zih]at h h'
  exact zaa l i x v h h'
section
variable {H:Type}{enc:TypeId×Value->H}{P:Program}{W:World}{fuel:Nat}{t e tu t8:TypeId}{cs:List Value}{y:DataW H×List MemPlace}{fs:Array Field}
theorem qsw{f0 f1:Field}(ht:P.underlying t=some (.slice e))(he:P.underlying e=some (.struct #[f0,f1])) (h0:P.underlying f0.type=some (.int .u64)) (h1:P.underlying f1.type=some (.int .u8))
 (o0:f0.offset=0) (o1:f1.offset=1) (hc:P.cellsOf e=2) (c0:P.cellsOf f0.type=1) (c1:P.cellsOf f1.type=1) (h:DataW.trod enc P W 0 (fun _=>true) true fuel t cs=some y):
 ∃k l v,cs=[v]/\RelR (YN W) W (S k 2 (LP l)) v/\∀p∈l,InI p:=by
 rcases DataW.trod_slice ht h with⟨hcs,_⟩|⟨a,len,cap,elems,rest,n,_,hcs,_,_,hl,_,hlen,hel,_,_⟩
 ·exact⟨2,[],_,hcs,.sc nil0 rfl,qf⟩
 ·have each:∀i,i<len->∃p:Int×Int,InI p/\W.cell? (a.add (i*2))=some (.int .u64 p.1)/\W.cell? (a.add (i*2+1))=some (.int .u8 p.2):=by
   intro i hi
   have hb:=hel i hi
   rw[zgl qc,hc,Option.bind_eq_some_iff]at hb
   obtain⟨cs',hcs',hy'⟩:=hb
   obtain⟨xs,m,_,_,hcl,hxl,hf⟩:=DataW.trod_struct he hy'
   have g0:=hf 0 f0 rfl
   have g1:=hf 1 f1 rfl
   rw[o0,c0]at g0
   rw[o1,c1]at g1
   rw[hc]at hcl
   obtain⟨y0,hy0⟩:∃y,xs[0]?=some y:=⟨_,zgl (by rw[hxl];simp)⟩
   obtain⟨y1,hy1⟩:∃y,xs[1]?=some y:=⟨_,zgl (by rw[hxl];simp)⟩
   rw[hy0]at g0
   rw[hy1]at g1
   obtain⟨n0,q0,w0⟩:=JI h0 g0
   obtain⟨n1,q1,w1⟩:=JI h1 g1
   have z0:=yQ q0
   have z1:=yQ q1
   have hc3:=(World.cells?_some hcs').2.2
   refine⟨(n0,n1),⟨w0.u64,w1.u8⟩,?_,?_⟩
   ·have:=hc3 0 qc
    rw[Addr.add_add,zim]at this
    rw[this];exact z0
   ·have:=hc3 1 qc
    rw[Addr.add_add]at this
    rw[this];exact z1
  have ch:∃f:Nat->Int×Int,∀i,i<len->InI (f i)/\W.cell? (a.add (i*2))=some (.int .u64 (f i).1)/\W.cell? (a.add (i*2+1))=some (.int .u8 (f i).2):=by
   refine⟨fun i=>if hi:i<len then(each i hi).choose else(0,0),fun i hi=>?_⟩
   simp only[dif_pos hi]
   exact(each i hi).choose_spec
  obtain⟨f,hf⟩:=ch
  have hg:∀(i:Nat) (p:Int×Int),((List.range len).map f)[i]?=some p->i<len/\p=f i:=by
   intro i p hp
   rw[zgx,zjf]at hp
   obtain⟨j,hj,rfl⟩:=hp
   obtain⟨h1,h2⟩:=zgq.mp hj
   simp at h1 h2
   subst h2
   exact⟨h1,rfl⟩
  refine⟨0,(List.range len).map f,_,hcs,?_,?_⟩
  ·have:=qj5 (W:=W) (a:=a) (n:=len) (cap:=cap) (sz:=2) (cs:=LP ((List.range len).map f)) (vs:=VP ((List.range len).map f)) qc (by rw[qfg];simp;omega) (by rw[qfg,zai]) hl
    (fun i v hv=>by
     obtain⟨p,hp,rfl⟩:=zal _ i v hv
     obtain⟨hi,rfl⟩:=hg _ _ hp
     obtain⟨_,q0,q1⟩:=hf _ hi
     by_cases hm:i%2=0
     ·rw[if_pos hm,<-q0]
      congr 2
      omega
     ·rw[if_neg hm,<-q1]
      congr 2
      omega)
    (fun x hx=>vlP _ x hx)
    (fun i x v hx hv=>by
     obtain⟨rfl,ho⟩:=zaa _ i x v hx hv
     exact .sc _ ho)
   exact this (fun _=>.fr)
  ·intro p hp
   obtain⟨i,hi,rfl⟩:=zg6.mp hp
   exact(hf i (by simpa using hi)).1
end
end Go.Proofs.YtoliekekdmfngaaGreat.AI
namespace Go.Proofs.YtoliekekdmfngaaGreat.AI
open Go Go.RowKit Go.ChangeShapes Go.WideShapes Go.ChangeAt
set_option linter.unusedVariables false
set_option linter.unusedSimpArgs false
structure Itm where
 nm:List Int
 k:Nat
 s:Sm
 k1:Nat
 k2:Nat
instance : Inhabited Itm := ⟨⟨[], 0, ⟨0, 0, 0, 0, false, [], []⟩, 0, 0⟩⟩
def kY(x:Itm):List AV:=[S x.k 1 (LI .u8 x.nm),.sc (.int .u8 x.s.kind),.sc (.int .u8 x.s.A),.sc (.int .u8 x.s.B),.sc (.int .u16 x.s.wide),.sc (.bool x.s.few),S x.k1 1 (LI .u64 x.s.hs),S x.k2 2 (LP x.s.fl)]
structure Itm.Ok (x : Itm) : Prop where
 r0:ro1 (S x.k 1 (LI .u8 x.nm))=S x.k 1 (LI .u8 x.nm)
 r1:ro1 (S x.k1 1 (LI .u64 x.s.hs))=S x.k1 1 (LI .u64 x.s.hs)
 r2:ro1 (S x.k2 2 (LP x.s.fl))=S x.k2 2 (LP x.s.fl)
 nm:Bt x.nm
 s:x.s.Ok
theorem Kn{x:Itm}(h:x.Ok):El kY 8 x:=by
 refine⟨rfl,?_,?_⟩
 ·unfold kY
  simp only[zhc,ziv,h.r0,h.r1,h.r2,qsr]
 ·unfold kY
  simp only[List.all_cons,List.all_nil,YH]
  rfl
theorem qcd{G:Gh}{W:World}{x:AV}{v:Value}(h:RelR G W x v):ro1 x=x:=by
 cases h<;>rfl
theorem KY{cs:List Value}{a n j:Nat}{v:Value}(h:((cs.drop a).take n)[j]?=some v):cs[a+j]?=some v:=by
 rw[zgt]at h
 split at h
 ·rw[zhb]at h;exact h
 ·cases h
section
variable {H:Type}{enc:TypeId×Value->H}{P:Program}{W:World}{fuel:Nat}{t e:TypeId}{cs:List Value}{y:DataW H×List MemPlace}
theorem rd_items{f0 f1 g0 g1 g2 g3 g4 g5 g6 p0 p1:Field}{e0 e5 e6:TypeId}(ht:P.underlying t=some (.slice e))(he:P.underlying e=some (.struct #[f0,f1])) (h0:P.underlying f0.type=some (.slice e0)) (h0e:P.underlying e0=some (.int .u8))
 (h1:P.underlying f1.type=some (.struct #[g0,g1,g2,g3,g4,g5,g6])) (u0:P.underlying g0.type=some (.int .u8)) (u1:P.underlying g1.type=some (.int .u8)) (u2:P.underlying g2.type=some (.int .u8)) (u3:P.underlying g3.type=some (.int .u16)) (u4:P.underlying g4.type=some .bool)
 (u5:P.underlying g5.type=some (.slice e5)) (u5e:P.underlying e5=some (.int .u64)) (u6:P.underlying g6.type=some (.slice e6)) (u6e:P.underlying e6=some (.struct #[p0,p1])) (u60:P.underlying p0.type=some (.int .u64)) (u61:P.underlying p1.type=some (.int .u8))
 (o:f0.offset=0/\f1.offset=1/\g0.offset=0/\g1.offset=1/\g2.offset=2/\g3.offset=3/\g4.offset=4/\g5.offset=5/\g6.offset=6/\p0.offset=0/\p1.offset=1)
 (c:P.cellsOf e=8/\P.cellsOf f0.type=1/\P.cellsOf f1.type=7/\P.cellsOf g0.type=1/\P.cellsOf g1.type=1/\P.cellsOf g2.type=1/\P.cellsOf g3.type=1/\P.cellsOf g4.type=1/\P.cellsOf g5.type=1/\P.cellsOf g6.type=1/\P.cellsOf e0=1/\P.cellsOf e5=1/\P.cellsOf e6=2/\P.cellsOf p0.type=1/\P.cellsOf p1.type=1)
 (h:DataW.trod enc P W 0 (fun _=>true) true fuel t cs=some y):
 ∃k l v,cs=[v]/\RelR (YN W) W (S k 8 (qp kY l)) v/\(∀x∈l,x.Ok)/\l.length<9223372036854775808:=by
 obtain⟨of0,of1,og0,og1,og2,og3,og4,og5,og6,op0,op1⟩:=o
 obtain⟨ce,cf0,cf1,cg0,cg1,cg2,cg3,cg4,cg5,cg6,ce0,ce5,ce6,cp0,cp1⟩:=c
 refine qsy kY 8 qg Itm.Ok ht ce (fun m cs' y' hy' hl'=>?_) h
 obtain⟨xs,m',_,_,hcl,hxl,hf⟩:=DataW.trod_struct he hy'
 have a0:=hf 0 f0 rfl
 have a1:=hf 1 f1 rfl
 rw[of0,cf0]at a0
 rw[of1,cf1]at a1
 obtain⟨y0,hy0⟩:∃y,xs[0]?=some y:=⟨_,zgl (by rw[hxl];simp)⟩
 obtain⟨y1,hy1⟩:∃y,xs[1]?=some y:=⟨_,zgl (by rw[hxl];simp)⟩
 rw[hy0]at a0
 rw[hy1]at a1
 obtain⟨k0,l0,v0,q0,r0,t0,w0⟩:=qk4 h0 h0e ce0 a0
 obtain⟨zs,m2,_,_,hcl2,hzl,hg⟩:=DataW.trod_struct h1 a1
 have b0:=hg 0 g0 rfl
 have b1:=hg 1 g1 rfl
 have b2:=hg 2 g2 rfl
 have b3:=hg 3 g3 rfl
 have b4:=hg 4 g4 rfl
 have b5:=hg 5 g5 rfl
 have b6:=hg 6 g6 rfl
 rw[og0,cg0]at b0
 rw[og1,cg1]at b1
 rw[og2,cg2]at b2
 rw[og3,cg3]at b3
 rw[og4,cg4]at b4
 rw[og5,cg5]at b5
 rw[og6,cg6]at b6
 obtain⟨z0,hz0⟩:∃y,zs[0]?=some y:=⟨_,zgl (by rw[hzl];simp)⟩
 obtain⟨z1,hz1⟩:∃y,zs[1]?=some y:=⟨_,zgl (by rw[hzl];simp)⟩
 obtain⟨z2,hz2⟩:∃y,zs[2]?=some y:=⟨_,zgl (by rw[hzl];simp)⟩
 obtain⟨z3,hz3⟩:∃y,zs[3]?=some y:=⟨_,zgl (by rw[hzl];simp)⟩
 obtain⟨z4,hz4⟩:∃y,zs[4]?=some y:=⟨_,zgl (by rw[hzl];simp)⟩
 obtain⟨z5,hz5⟩:∃y,zs[5]?=some y:=⟨_,zgl (by rw[hzl];simp)⟩
 obtain⟨z6,hz6⟩:∃y,zs[6]?=some y:=⟨_,zgl (by rw[hzl];simp)⟩
 rw[hz0]at b0
 rw[hz1]at b1
 rw[hz2]at b2
 rw[hz3]at b3
 rw[hz4]at b4
 rw[hz5]at b5
 rw[hz6]at b6
 obtain⟨n0,c0,w1⟩:=JI u0 b0
 obtain⟨n1,c1,w2⟩:=JI u1 b1
 obtain⟨n2,c2,w3⟩:=JI u2 b2
 obtain⟨n3,c3,w4⟩:=JI u3 b3
 obtain⟨n4,c4⟩:=qxp u4 b4
 obtain⟨k5,l5,v5,c5,r5,t5,w5⟩:=qk4 u5 u5e ce5 b5
 obtain⟨k6,l6,v6,c6,r6,w6⟩:=qsw u6 u6e u60 u61 op0 op1 ce6 cp0 cp1 b6
 have d0:=yQ q0
 have d1:=KY (yQ c0)
 have d2:=KY (yQ c1)
 have d3:=KY (yQ c2)
 have d4:=KY (yQ c3)
 have d5:=KY (yQ c4)
 have d6:=KY (yQ c5)
 have d7:=KY (yQ c6)
 refine⟨⟨l0,k0,⟨n0,n1,n2,n3,n4,l5,l6⟩,k5,k6⟩,⟨qcd r0,qcd r5,qcd r6,fun n hn=>(w0 n hn).u8,w1.u8,w2.u8,w3.u8,w4.u16,fun n hn=>(w5 n hn).u64,w6⟩,rfl,?_,?_⟩
 ·intro a ha
  unfold kY at ha
  simp only[zgn,List.not_mem_nil,or_false]at ha
  rcases ha with rfl|rfl|rfl|rfl|rfl|rfl|rfl|rfl
  ·exact YH _ _ _
  ·rfl
  ·rfl
  ·rfl
  ·rfl
  ·rfl
  ·exact YH _ _ _
  ·exact YH _ _ _
 ·intro i a v ha hv
  unfold kY at ha
  match i,ha,hv with
  |0,ha,hv=>simp at ha;rw[d0]at hv;cases hv;subst ha;exact r0
  |1,ha,hv=>simp at ha;rw[d1]at hv;cases hv;subst ha;exact .sc _ rfl
  |2,ha,hv=>simp at ha;rw[d2]at hv;cases hv;subst ha;exact .sc _ rfl
  |3,ha,hv=>simp at ha;rw[d3]at hv;cases hv;subst ha;exact .sc _ rfl
  |4,ha,hv=>simp at ha;rw[d4]at hv;cases hv;subst ha;exact .sc _ rfl
  |5,ha,hv=>simp at ha;rw[d5]at hv;cases hv;subst ha;exact .sc _ rfl
  |6,ha,hv=>simp at ha;rw[d6]at hv;cases hv;subst ha;exact r5
  |7,ha,hv=>simp at ha;rw[d7]at hv;cases hv;subst ha;exact r6
  |i+8,ha,hv=>simp at ha
end
end Go.Proofs.YtoliekekdmfngaaGreat.AI
namespace Go.Proofs.YtoliekekdmfngaaGreat.AI
open Go
set_option linter.unusedVariables false
set_option linter.unusedSimpArgs false
set_option maxRecDepth 100000
set_option maxHeartbeats 0
theorem qsu{l:List Nat}(hl:l.length<=20)(h64:∀x∈l,x<18446744073709551616):(vZ l).length<=11000:=by
 obtain⟨k63,hq⟩:=YY (ZX h64)
 have hbl:=JJ (kX (ze l)) k63 (ze l) hq
 rw[ZY]at hbl
 have hlY:(pk (yn (ze l))).length<10900:=by rw[yo];unfold yn;omega
 have h1:=qy (n:=l.length) qc
 have h2:=qy (n:=(pk (yn (ze l))).length) qc
 unfold vZ
 simp only[zgi,zg3]
 omega
theorem qsq{l:List Nat}(hl:l.length<=1600)(h32:∀x∈l,x<4294967296):(YJ (kQ l)).length<=96010:=by
 have hc:=Xp l
 have h1:=qy (n:=(kQ l).length) qc
 have key:∀cs:List (Nat×Nat),(∀c∈cs,okC c)->(XN cs).length<=60*cs.length:=by
  intro cs
  induction cs with
  |nil=>intro _;exact zgm _
  |cons c r ih=>
   intro h
   have:=ih (fun d hd=>h d (by simp[hd]))
   have:=KH (h c qf)
   simp only[XN,zgi,zgk]
   omega
 have:=key (kQ l) (qjw h32)
 unfold YJ
 simp only[zgi]
 omega
theorem qs2{x:SkN}{v:AV}(hv:vS x v)(f:Fine x)(h64:H64 x)(few:x.kind=0->x.set.length<=1600)(few':x.kind=1->x.hs.length<=20):(QL x).length<=100100:=by
 obtain⟨g,a,b,c,d,e,t,gw,gn,rfl⟩:=hv
 have hk:=f.w.kind
 have kd:=(qZ.mp f.c).1
 have six:x.kind=0\/x.kind=1\/x.kind=2\/x.kind=3\/x.kind=4\/x.kind=5:=qc
 unfold QL
 rcases six with k|k|k|k|k|k
 ·rw[if_pos k]
  have s:=JA f k
  have:=qsq (l:=tn x.set) (by simp;exact few k) s.2.2.1
  omega
 ·have s:=Qg f k h64
  have:=qsu (l:=tn x.hs) (by simp;exact few' k) s.2.2.2.1
  have hu:=qy (n:=x.K.toNat) qc
  rw[if_neg qc,if_pos k,zgi]
  omega
 ·have s:=Qj f k
  have:=ql7 (l:=tn x.rg) qh s.2.2.2.1
  rw[if_neg qc,if_neg qc,if_pos k,zgk]
  omega
 ·have s:=Qr f k
  have:=qf6 (l:=tn x.bs) (by simp;exact s.2.2.1) s.2.2.2.2.1 s.2.2.2.1
  have hu:=qy (n:=x.B.toNat) qc
  rw[if_neg qc,if_neg qc,if_neg qc,if_pos k]
  simp only[zgi,zg3]
  omega
 ·have s:=Qp f k
  have:=Kb x.C x.cs f.w.cs x.cs 0 0 f.w.cs qc
  have hu:=qy (n:=x.C.toNat) qc
  rw[if_neg qc,if_neg qc,if_neg qc,if_neg qc,if_pos k]
  simp only[zgi,zg3]
  omega
 ·have s:=Ql f k
  have hd:∀(L:List Nat) (p:Nat),(∀k∈L,k<18446744073709551616)->(JR p L).length<=10*L.length:=by
   intro L
   induction L with
   |nil=>intro p _;exact zgm _
   |cons k r ih=>
    intro p h
    have:=ih k (fun y hy=>h y (by simp[hy]))
    have hu:=qy (n:=k-p) (by have:=h k qf;omega)
    simp only[JR,zgi,zgk]
    omega
  have hL:∀k∈x.g.L,k<18446744073709551616:=by
   rw[<-gn]
   intro k hk
   obtain⟨w,hw,rfl⟩:=zg6.mp hk
   exact vW w (gw.L w hw)
  have h0:=hd x.g.L 0 hL
  have u:∀n:Int,qU n->(uv n.toNat).length<=10:=fun n hn=>qy (by have:=hn.2;omega)
  have p:=f.pos
  have u1:=u _ p.1
  have u2:=u _ p.2.1
  have u3:=u _ p.2.2.1
  have u4:=u _ p.2.2.2.1
  have u5:=u _ p.2.2.2.2.1
  have u6:=u _ p.2.2.2.2.2.1
  have u7:=u _ p.2.2.2.2.2.2
  have u8:=qy (n:=x.g.lo) (by rw[<-gn];exact vW _ gw.lo)
  have u9:=qy (n:=x.g.hi) (by rw[<-gn];exact vW _ gw.hi)
  rw[if_neg qc,if_neg qc,if_neg qc,if_neg qc,if_neg qc]
  unfold VJ
  simp only[zgi,zg3]
  omega
theorem qdz(s:Sm)(ok:s.Ok)(hl:s.hs.length<=40)(hf:s.fl.length<=40){v:AV}(hv:vS (zQ s) v):(QL (zQ s)).length<=100100:=by
 have f:=Zt s ok hl hf
 refine qs2 hv f (Yp s ok) (fun _=>qdy s ok hl) (fun k=>?_)
 have h:=(qZ.mp f.c).2.2
 rw[if_neg qc,if_pos k]at h
 have q:=Xe.mp h
 have hK:(zQ s).K<=20:=by
  have hA:=ok.A
  rw[Zs s ok]at k
  unfold zQ
  rw[if_neg qc,if_pos k]
  show 1+s.A%20<=20
  omega
 have:=q.2.1
 omega
def MS(l:List (List Int)):List AV:=l.map fun n=>.tup [.sc (st n),.sc (.bool true)]
theorem qyv(s b:Nat)(e:ByteArray)(n:List Int):qcw (TI.mk TK.sc s b [.string e]) (st n)=true:=rfl
theorem qfj{a b:List Int}(ha:Bt a)(hb:Bt b):vg (st a) (st b)=some (decide (a=b)):=by
 have h:=YU ha hb
 show some ((⟨(yg a).toArray⟩:ByteArray)==⟨(yg b).toArray⟩)=_
 have e:((⟨(yg a).toArray⟩:ByteArray)==⟨(yg b).toArray⟩)=((yg a).toArray==(yg b).toArray):=rfl
 rw[e]
 congr 1
 by_cases e:a=b
 ·subst e
  simp
 ·have:¬(yg a=yg b):=fun q=>e (h.mp q)
  simp[e,this]
theorem qf5{n:List Int}(hn:Bt n):∀l:List (List Int),(∀x∈l,Bt x)->QB (st n) (MS l)=some (if n∈l then some (.sc (.bool true))else none)
 |[],_=>rfl
 |x::l,hl=>by
  have h:=qf5 hn l (fun y hy=>hl y (by simp[hy]))
  show((vg (st n) (st x)).bind fun t=>cond t (some (some (AV.sc (.bool true)))) (QB (st n) (MS l)))=_
  rw[qfj hn (hl x qf),h]
  by_cases e:n=x
  ·simp[e]
  ·simp[e]
theorem qk6{n:List Int}(hn:Bt n):∀l:List (List Int),(∀x∈l,Bt x)->n∉l->XY (st n) (.sc (.bool true)) (MS l)=some (MS (l++[n]))
 |[],_,_=>rfl
 |x::l,hl,hnl=>by
  have h:=qk6 hn l (fun y hy=>hl y (by simp[hy])) (fun q=>hnl (by simp[q]))
  have e:¬(n=x):=fun q=>hnl (by simp[q])
  show((vg (st n) (st x)).bind fun t=>cond t (some (AV.tup [.sc (st x),.sc (.bool true)]::MS l)) ((XY (st n) (.sc (.bool true)) (MS l)).map fun r=>AV.tup [.sc (st x),.sc (.bool true)]::r))=_
  rw[qfj hn (hl x qf),h]
  simp[e,MS]
def Lt(x:Itm):Prop:=x.s.hs.length<=40/\x.s.fl.length<=40/\x.nm.length<=60
theorem qjb(k' k:Nat)(l:List Itm)(wl:∀x∈l,x.Ok)(hl:l.length<9223372036854775808)(hp:Hp):∀(r:List Itm) (i:Nat),l.drop i=r->i<=l.length->
 ∃b,B11_2 (S k' 8 (qp kY l)) (S k 8 (qp kY l)) (.int .i64 (l.length:Int)) (.int .i64 (i:Int)) hp=some (.sc (.bool b),hp)/\(b=true->l.length<=30/\∀x∈r,Lt x):=by
 intro r
 induction r with
 |nil=>
  intro i hr hi
  have h1:=qA hr
  have ln:=fun k=>JP kY 8 qg k (fun x hx=>Kn (wl x hx))
  have hlt:¬((i:Int)<(l.length:Int)):=qc
  refine⟨decide (l.length<=30),?_,fun h=>⟨by simpa using h,qf⟩⟩
  rw[Jt]
  have e:decide ((l.length:Int)<=30)=decide (l.length<=30):=decide_eq_decide.mpr qc
  generalize qp kY l=R at*
  simp[hlt,ln,e]
 |cons x r ih=>
  intro i hr hi
  obtain⟨e1,e2,hi',e3⟩:=qu hr
  have hx:=wl x (zgo e1)
  have hlt:(i:Int)<(l.length:Int):=qc
  have ix:=fun k=>QW kY 8 qg k (fun x hx=>Kn (wl x hx)) e1
  have sm:=qm1 x.s x.k1 x.k2 hp0
  have ln:zA (S x.k 1 (LI .u8 x.nm))=some x.nm.length:=by rw[zG];simp
  have b5:B11_5 hp=some (.sc (.bool false),hp):=by rw[qwj]
  have w1:IntKind.i64.wrap ((i:Int)+1)=((i+1:Nat):Int):=qi
  have r0:=hx.r0
  have r1:=hx.r1
  have r2:=hx.r2
  have v0:=YH x.k 1 (LI .u8 x.nm)
  have v1:=YH x.k1 1 (LI .u64 x.s.hs)
  have v2:=YH x.k2 2 (LP x.s.fl)
  by_cases c1:x.s.hs.length<=40/\x.s.fl.length<=40
  ·rw[decide_eq_true c1]at sm
   by_cases c2:x.nm.length<=60
   ·obtain⟨b,z,hb⟩:=ih (i+1) e2 qc
    refine⟨b,?_,fun h=>⟨(hb h).1,fun y hy=>?_⟩⟩
    ·have c2':¬((60:Int)<(x.nm.length:Int)):=qc
     have b6:B11_6 (S k' 8 (qp kY l)) (S k 8 (qp kY l)) (.int .i64 (l.length:Int)) (.int .i64 (i:Int)) hp=some (.sc (.bool b),hp):=by
      rw[qwi,<-z]
      simp[w1]
     rw[Jt]
     generalize qp kY l=R at*
     unfold kY at ix
     unfold smA at sm
     generalize S x.k 1 (LI .u8 x.nm)=A0 at*
     generalize S x.k1 1 (LI .u64 x.s.hs)=A1 at*
     generalize S x.k2 2 (LP x.s.fl)=A2 at*
     simp[hlt,ix,qn,qo,qm,r0,r1,r2,v0,v1,v2,sm,ln,c2',b6]
    ·rcases zgn.mp hy with q|q
     ·rw[q];exact⟨c1.1,c1.2,c2⟩
     ·exact(hb h).2 y q
   ·refine⟨false,?_,fun h=>by cases h⟩
    have c2':(60:Int)<(x.nm.length:Int):=qc
    rw[Jt]
    generalize qp kY l=R at*
    unfold kY at ix
    unfold smA at sm
    generalize S x.k 1 (LI .u8 x.nm)=A0 at*
    generalize S x.k1 1 (LI .u64 x.s.hs)=A1 at*
    generalize S x.k2 2 (LP x.s.fl)=A2 at*
    simp[hlt,ix,qn,qo,qm,r0,r1,r2,v0,v1,v2,sm,ln,c2',b5]
  ·rw[decide_eq_false c1]at sm
   refine⟨false,?_,fun h=>by cases h⟩
   rw[Jt]
   generalize qp kY l=R at*
   unfold kY at ix
   unfold smA at sm
   generalize S x.k 1 (LI .u8 x.nm)=A0 at*
   generalize S x.k1 1 (LI .u64 x.s.hs)=A1 at*
   generalize S x.k2 2 (LP x.s.fl)=A2 at*
   simp[hlt,ix,qn,qo,qm,r0,r1,r2,v0,v1,v2,sm,ln,b5]
theorem qd9(k:Nat)(l:List Itm)(wl:∀x∈l,x.Ok)(hl:l.length<9223372036854775808)(hp:Hp):∃b,run cxX 11 [S k 8 (qp kY l)] hp=some (.sc (.bool b),hp)/\(b=true->l.length<=30/\∀x∈l,Lt x):=by
 have ln:=fun k=>JP kY 8 qg k (fun x hx=>Kn (wl x hx))
 obtain⟨b,z,hb⟩:=qjb k (rk k) l wl hl hp l 0 rfl (zhf _)
 refine⟨b,?_,hb⟩
 rw[E11]
 generalize qp kY l=R at*
 simp[ln]
 exact z
def nmOf(x:Itm):List Int:=if x.nm=[]then [101]else x.nm
noncomputable def xI(x:Itm):Be:=⟨nmOf x,zQ x.s,match run cxX 30 [smA x.s x.k1 x.k2] hp0 with
 |some (.agg L,_)=>L.map ro1
 |_=>[]⟩
theorem YZ{x:Itm}(h:x.Ok)(l:Lt x):(1<=(nmOf x).length/\(nmOf x).length<=60)/\Bt (nmOf x):=by
 have:=l.2.2
 unfold nmOf
 split
 ·exact⟨qg,fun n hn=>by rw[zhn.mp hn];decide⟩
 ·rename_i q
  exact⟨⟨zh5.mpr q,this⟩,h.nm⟩
theorem qcx{x:Itm}(h:x.Ok)(l:Lt x):∃L,run cxX 30 [smA x.s x.k1 x.k2] hp0=some (.agg L,hp0)/\L.length=23/\L.all vl=true/\L.map ro1=(xI x).cs/\(xI x).Fin:=by
 obtain⟨r,hr,rn⟩:=qh9 x.s x.k1 x.k2 h.s l.1 l.2.1 hp0
 obtain⟨L,rfl,h1,h2,h3⟩:=hr.cl
 have e:(xI x).cs=L.map ro1:=by
  unfold xI
  rw[rn]
 have f:=Zt x.s h.s l.1 l.2.1
 refine⟨L,rn,h1,h2,e.symm,⟨(YZ h l).1,(YZ h l).2,by rw[e];exact h3⟩,f,Yp x.s h.s,qdz x.s h.s l.1 l.2.1 hr,?_⟩
 show 0<=(zQ x.s).kind/\(zQ x.s).kind<6
 rw[Zs x.s h.s]
 have:=h.s.kind
 omega
def JB(acc:List Itm)(x:Itm):List Itm:=if nmOf x∉acc.map nmOf/\acc.length<8 then acc++[x]else acc
def YW(acc r:List Itm):List Itm:=r.foldl JB acc
theorem qsz{a b:Hp}{c:Nat}(h:b.get c=a.get c):b.rdM c=a.rdM c:=by unfold Hp.rdM;rw[h]
theorem QY(hp:Hp){b c:Nat}(g:Nat)(x:List AV)(h:c≠b):(hp.put b g x).get c=hp.get c:=if_neg h
theorem Ks(hp:Hp){c:Nat}(x:List AV)(h:c≠hp.next):(hp.new x).get c=hp.get c:=if_neg h
theorem QZ(hp:Hp){b c:Nat}(h:c≠b):(hp.del b).get c=hp.get c:=if_neg h
structure EntS (hp : Hp) (m b n0 : Nat) (acc : List Itm) : Prop where
 ok:∀y∈acc,y.Ok/\Lt y
 len:acc.length<=8
 map:hp.rdM m=some (MS (acc.map nmOf))
 row:acc≠[]->hp.rd b 0=some (qp qM (acc.map xI))/\b≠m/\b<hp.next/\n0<=b
 m:m<hp.next/\n0<=m
theorem zfl(X9:AV)(v10 v11:Value)(acc:List Itm)(x:Itm)(hx:x.Ok)(lx:Lt x)(m b n0:Nat)(hp:Hp)(h:EntS hp m b n0 acc):
 ∃b' hp',B12_9 (kr 2 24 b (acc.map xI)) (.map m) (st (nmOf x)) X9 v10 v11 (kY x) hp=B12_12 (kr 2 24 b' ((JB acc x).map xI)) (.map m) X9 v10 v11 hp'/\EntS hp' m b' n0 (JB acc x)/\hp.next<=hp'.next/\∀c,c<n0->hp'.get c=hp.get c:=by
 obtain⟨ha,hl,hm,hb,hmn,hn0⟩:=h
 have hN:=(YZ hx lx).2
 have hNs:∀n∈acc.map nmOf,Bt n:=by
  intro n hn
  obtain⟨y,hy,rfl⟩:=zg6.mp hn
  exact(YZ (ha y hy).1 (ha y hy).2).2
 have fa:=qf5 hN (acc.map nmOf) hNs
 have kt:=fun s b e=>qyv s b e (nmOf x)
 have gn:∀H:Hp,H.next=hp.next->∀X c,c≠hp.next->(H.new X).get c=H.get c:=fun H e X c q=>Ks H X (by rw[e];exact q)
 have ln:zA (ro (kr 2 24 b (acc.map xI)))=some acc.length:=by
  rw[show acc.length=(acc.map xI).length by simp]
  unfold kr
  split
  ·rename_i q;rw[q];rfl
  ·rfl
 by_cases c1:nmOf x∈acc.map nmOf
 ·have e:JB acc x=acc:=if_neg (fun q=>q.1 c1)
  rw[e]
  refine⟨b,hp,?_,⟨ha,hl,hm,hb,hmn,hn0⟩,zgm _,fun _ _=>rfl⟩
  rw[if_pos c1]at fa
  rw[Vs]
  generalize kr 2 24 b (acc.map xI)=V at*
  generalize st (nmOf x)=N at*
  generalize MS (acc.map nmOf)=M at*
  simp[hm,kt,fa]
 ·rw[if_neg c1]at fa
  by_cases c2:acc.length<8
  ·have e:JB acc x=acc++[x]:=if_pos ⟨c1,c2⟩
   rw[e]
   obtain⟨L,sk,s1,s2,s3,s4⟩:=qcx hx lx
   have pa:=qk6 hN (acc.map nmOf) hNs c1
   have hel:El qM 24 (xI x):=zx s4.ok
   have hacc:∀y∈acc.map xI,El qM 24 y:=by
    intro y hy
    obtain⟨z,hz,rfl⟩:=zg6.mp hy
    obtain⟨_,_,_,_,_,f⟩:=qcx (ha z hz).1 (ha z hz).2
    exact zx f.ok
   have h1:∀y∈[xI x],El qM 24 y:=fun y hy=>by rw[zhn.mp hy];exact hel
   have e1:qp qM [xI x]=qM (xI x):=XO _ _
   have e2:qp qM ((acc++[x]).map xI)=qp qM (acc.map xI++[xI x]):=qf
   have e3:MS ((acc++[x]).map nmOf)=MS (acc.map nmOf++[nmOf x]):=qf
   have ss:=wA (hp.put m 1 (MS (acc.map nmOf++[nmOf x]))) 1 24 (qM (xI x))
   rw[<-e1]at ss
   have bx:qM (xI x)= .sc (st (nmOf x))::(xI x).cs:=rfl
   have c2':(acc.length:Int)<8:=qc
   --the step,from what is appended
   have key:∀V' hp',zV 272 24 (ro (kr 2 24 b (acc.map xI))) (S 1 24 (qM (xI x))) (hp.put m 1 (MS (acc.map nmOf++[nmOf x])))=some (V',hp')->
    B12_9 (kr 2 24 b (acc.map xI)) (.map m) (st (nmOf x)) X9 v10 v11 (kY x) hp=B12_12 V' (.map m) X9 v10 v11 hp':=by
    intro V' hp' ap
    have v1:=hel.vl
    rw[bx]at ap v1
    rw[<-s3]at ap v1
    have b10:B12_10 (kr 2 24 b (acc.map xI)) (.map m) (st (nmOf x)) X9 v10 v11 (kY x) hp=B12_12 V' (.map m) X9 v10 v11 hp':=by
     have r1:=hx.r1
     have r2:=hx.r2
     have u1:=YH x.k1 1 (LI .u64 x.s.hs)
     have u2:=YH x.k2 2 (LP x.s.fl)
     have rr:(L.map ro1).map ro1=L.map ro1:=by rw[s3];exact s4.ok.cl.ro
     rw[qqq]
     unfold kY
     unfold smA at sk
     clear ln hb fa ss e1 e2 e3 h1 hacc hel bx s3 s4
     generalize kr 2 24 b (acc.map xI)=V at*
     generalize S x.k 1 (LI .u8 x.nm)=A0 at*
     generalize S x.k1 1 (LI .u64 x.s.hs)=A1 at*
     generalize S x.k2 2 (LP x.s.fl)=A2 at*
     generalize st (nmOf x)=N at*
     generalize MS (acc.map nmOf)=M at*
     generalize MS (acc.map nmOf++[nmOf x])=M2 at*
     simp[-List.map_map,-List.all_map,-List.all_eq_true,hm,kt,pa,qn,r1,r2,u1,u2,sk,qm,s1,s2,v1,rr,ap]
     done
    rw[<-b10,Vs]
    clear b10 ap
    generalize kr 2 24 b (acc.map xI)=V at*
    generalize st (nmOf x)=N at*
    generalize MS (acc.map nmOf)=M at*
    simp[hm,kt,fa,ln,c2']
   by_cases c3:acc=[]
   ·subst c3
    have ap:=Jm qM 24 qg 272 qg h1 qf qf 2 (.inr rfl) _ _ ss
    rw[e1]at ap
    refine⟨hp.next,(hp.put m 1 (MS [nmOf x])).new (qM (xI x)),key _ _ ap,⟨fun y hy=>?_,qf,?_,fun _=>⟨?_,?_,?_,?_⟩,?_,hn0⟩,Nat.le_succ _,fun c hc=>?_⟩
    ·rw[zhn.mp hy];exact⟨hx,lx⟩
    ·rw[qsz (gn (hp.put m 1 _) rfl _ m qc)]
     exact qk5 _ _ _
    ·have q:=qB (hp.put m 1 (MS [nmOf x])) (qM (xI x))
     rw[<-e1]at q⊢
     exact q
    ·omega
    ·exact zh1 _
    ·omega
    ·show m<hp.next+1;omega
    ·rw[gn (hp.put m 1 _) rfl _ c qc,QY _ _ _ (show c≠m by omega)]
   ·obtain⟨hb1,hb2,hb3,hb4⟩:=hb c3
    have hne:acc.map xI≠[]:=by simpa using c3
    have hb':(hp.put m 1 (MS (acc.map nmOf++[nmOf x]))).rd b 0=some (qp qM (acc.map xI)):=by rw[rdg (QY _ _ _ hb2)];exact hb1
    have ap:=qdd qM 24 qg 272 qg hacc h1 hne qf qh _ _ b hb' ss
    have ev:ro (kr 2 24 b (acc.map xI))= .ms b 0 0 (acc.map xI).length 24:=by rw[xg _ _ _ hne];rfl
    rw[e1,<-ev]at ap
    have eo:kr 2 24 hp.next ((acc++[x]).map xI)= .ms hp.next 0 0 ((acc.map xI).length+1) 24:=by rw[xg _ _ _ qf];simp
    refine⟨hp.next,_,by rw[eo];exact key _ _ ap,⟨fun y hy=>?_,qh,?_,fun _=>⟨?_,?_,?_,?_⟩,?_,hn0⟩,Nat.le_succ _,fun c hc=>?_⟩
    ·rcases zg1.mp hy with q|q
     ·exact ha y q
     ·rw[zhn.mp q];exact⟨hx,lx⟩
    ·rw[e3,qsz (gn ((hp.put m 1 _).del b) rfl _ m qc),qsz (QZ _ (Ne.symm hb2))]
     exact qk5 _ _ _
    ·rw[e2]
     exact qB _ _
    ·omega
    ·exact zh1 _
    ·omega
    ·show m<hp.next+1;omega
    ·rw[gn ((hp.put m 1 _).del b) rfl _ c qc,QZ _ (show c≠b by omega),QY _ _ _ (show c≠m by omega)]
  ·have e:JB acc x=acc:=if_neg (fun q=>c2 q.2)
   rw[e]
   refine⟨b,hp,?_,⟨ha,hl,hm,hb,hmn,hn0⟩,zgm _,fun _ _=>rfl⟩
   have c2':¬((acc.length:Int)<8):=qc
   rw[Vs]
   generalize kr 2 24 b (acc.map xI)=V at*
   generalize st (nmOf x)=N at*
   generalize MS (acc.map nmOf)=M at*
   simp[hm,kt,fa,ln,c2']
theorem qu8(k:Nat)(l:List Itm)(wl:∀x∈l,x.Ok)(lt:∀x∈l,Lt x)(hn:l.length<=30)(m n0:Nat):∀(r:List Itm) (i:Nat) (acc:List Itm) (b:Nat) (hp:Hp),l.drop i=r->i<=l.length->EntS hp m b n0 acc->
 ∃b' hp',B12_4 (kr 2 24 b (acc.map xI)) (.map m) (S k 8 (qp kY l)) (.int .i64 (l.length:Int)) (.int .i64 (i:Int)) hp=some (kr 2 24 b' ((YW acc r).map xI),hp')/\EntS hp' m b' n0 (YW acc r)/\hp.next<=hp'.next/\∀c,c<n0->hp'.get c=hp.get c:=by
 intro r
 induction r with
 |nil=>
  intro i acc b hp hr hi h
  have h1:=qA hr
  have hlt:¬((i:Int)<(l.length:Int)):=qc
  refine⟨b,hp,?_,h,zgm _,fun _ _=>rfl⟩
  show _=some (kr 2 24 b (acc.map xI),hp)
  rw[qhp]
  generalize kr 2 24 b (acc.map xI)=V at*
  simp[hlt]
 |cons x r ih=>
  intro i acc b hp hr hi h
  obtain⟨e1,e2,hi',e3⟩:=qu hr
  have hx:=wl x (zgo e1)
  have lx:=lt x (zgo e1)
  have hlt:(i:Int)<(l.length:Int):=qc
  have ix:=fun k=>QW kY 8 qg k (fun x hx=>Kn (wl x hx)) e1
  obtain⟨b1,hp1,z1,hs1,f1,f2⟩:=zfl (S k 8 (qp kY l)) (.int .i64 (l.length:Int)) (.int .i64 (i:Int)) acc x hx lx m b n0 hp h
  obtain⟨b2,hp2,z2,hs2,g1,g2⟩:=ih (i+1) (JB acc x) b1 hp1 e2 qc hs1
  refine⟨b2,hp2,?_,hs2,zhw f1 g1,fun c hc=>by rw[g2 c hc,f2 c hc]⟩
  have w1:IntKind.i64.wrap ((i:Int)+1)=((i+1:Nat):Int):=qi
  have z2:B12_12 (kr 2 24 b1 ((JB acc x).map xI)) (.map m) (S k 8 (qp kY l)) (.int .i64 (l.length:Int)) (.int .i64 (i:Int)) hp1=some (kr 2 24 b2 ((YW acc (x::r)).map xI),hp2):=by
   rw[qqp]
   have e:YW acc (x::r)=YW (JB acc x) r:=rfl
   rw[e,<-z2]
   generalize kr 2 24 b1 ((JB acc x).map xI)=V at*
   generalize qp kY l=R at*
   simp[w1]
  rw[z2]at z1
  rw[<-z1,qhp]
  clear z1 z2 hs1 hs2 ih
  have bu:=Jg x.nm
  have r0:=hx.r0
  have r1:=hx.r1
  have r2:=hx.r2
  have u0:=YH x.k 1 (LI .u8 x.nm)
  have u1:=YH x.k1 1 (LI .u64 x.s.hs)
  have u2:=YH x.k2 2 (LP x.s.fl)
  have sr:yT 1 (S x.k 1 (LI .u8 x.nm))=some (LI .u8 x.nm):=qf
  have nm0:x.nm≠[]->nmOf x=x.nm:=fun q=>if_neg q
  have nm1:x.nm=[]->nmOf x=[101]:=fun q=>if_pos q
  generalize kr 2 24 b (acc.map xI)=V at*
  generalize qp kY l=R at*
  unfold kY at ix⊢
  by_cases q:x.nm=[]
  ·rw[nm1 q]
   have e8:yg x.nm=[]:=by rw[q];rfl
   generalize S x.k 1 (LI .u8 x.nm)=A0 at*
   generalize S x.k1 1 (LI .u64 x.s.hs)=A1 at*
   generalize S x.k2 2 (LP x.s.fl)=A2 at*
   generalize LI .u8 x.nm=Y at*
   simp[hlt,ix,qn,qo,qm,r0,r1,r2,u0,u1,u2,sr,bu,qz7,e8]
   rfl
  ·rw[nm0 q]
   have e8:¬(yg x.nm=[]):=fun e=>q (List.map_eq_nil_iff.mp e)
   generalize S x.k 1 (LI .u8 x.nm)=A0 at*
   generalize S x.k1 1 (LI .u64 x.s.hs)=A1 at*
   generalize S x.k2 2 (LP x.s.fl)=A2 at*
   generalize LI .u8 x.nm=Y at*
   simp[hlt,ix,qn,qo,qm,r0,r1,r2,u0,u1,u2,sr,bu,qz7,e8]
theorem qed(k:Nat)(l:List Itm)(wl:∀x∈l,x.Ok)(lt:∀x∈l,Lt x)(hn:l.length<=30)(hp:Hp):
 ∃b hp',run cxX 12 [S k 8 (qp kY l)] hp=some (kr 2 24 b ((YW [] l).map xI),hp')/\EntS hp' hp.next b hp.next (YW [] l)/\hp.next<=hp'.next/\∀c,c<hp.next->hp'.get c=hp.get c:=by
 have ln:=fun k=>JP kY 8 qg k (fun x hx=>Kn (wl x hx))
 obtain⟨b,hp',z,h1,h2,h3⟩:=qu8 (rk k) l wl lt hn hp.next hp.next l 0 [] 0 hp.newM rfl (zhf _) ⟨(fun y hy=>by cases hy),zhf _,qxq _,fun q=>absurd rfl q,zh1 _,zgm _⟩
 have h2:hp.next+1<=hp'.next:=h2
 refine⟨b,hp',?_,h1,qc,fun c hc=>by rw[h3 c hc];exact if_neg qc⟩
 have z:B12_4 (S 2 1 []) (.map hp.next) (S (rk k) 8 (qp kY l)) (.int .i64 (l.length:Int)) (.int .i64 0) hp.newM=some (kr 2 24 b ((YW [] l).map xI),hp'):=z
 rw[E12]
 generalize kr 2 24 b ((YW [] l).map xI)=V at*
 generalize qp kY l=R at*
 simp[ln,z]
theorem qh3{acc:List Itm}{x:Itm}(h:(acc.map nmOf).Nodup):((JB acc x).map nmOf).Nodup:=by
 unfold JB
 split
 ·rename_i q
  rw[zin]
  refine List.nodup_append.mpr ⟨h,qf,fun a ha b hb e=>?_⟩
  rw[List.map_singleton,zhn]at hb
  rw[e,hb]at ha
  exact q.1 ha
 ·exact h
theorem VY:∀(r acc:List Itm),(acc.map nmOf).Nodup->((YW acc r).map nmOf).Nodup
 |[],_,h=>h
 |x::r,acc,h=>VY r (JB acc x) (qh3 h)
noncomputable def yw(l:List Itm):List Be:=(YW [] l).map xI
theorem qf7(l:List Itm):((yw l).map Be.nm).Nodup:=by
 have e:(yw l).map Be.nm=(YW [] l).map nmOf:=by unfold yw;rw[zkt];rfl
 rw[e]
 exact VY l [] List.nodup_nil
theorem EntS.fin{hp:Hp}{m b n0:Nat}{l:List Itm}(h:EntS hp m b n0 (YW [] l)):(∀e∈yw l,e.Fin)/\(yw l).length<=8/\(yw l≠[]->hp.rd b 0=some (qp qM (yw l))/\b<hp.next/\n0<=b):=by
 refine⟨fun e he=>?_,by unfold yw;rw[zhv];exact h.len,fun q=>?_⟩
 ·obtain⟨y,hy,rfl⟩:=zg6.mp he
  obtain⟨_,_,_,_,_,f⟩:=qcx (h.ok y hy).1 (h.ok y hy).2
  exact f
 ·have:=h.row (fun e=>q (by unfold yw;rw[e];rfl))
  exact⟨this.1,this.2.2.1,this.2.2.2⟩
theorem qif(a:Nat)(t:AV)(hp:Hp)(h:hp.rd a 0=some [t,S 2 1 []]):run cxX 25 [.ptr a 0 0] hp=some (S 2 1 [],hp):=by
 have b4:B25_4 (S 2 1 []) (S 2 1 []) (.int .i64 0) (.int .i64 0) hp=some (S 2 1 [],hp):=by
  rw[qwg]
  simp[qwf]
 rw[E25]
 simp[h,qo,b4]
theorem qeh(hp:Hp):∃hp',run cxX 10 [] hp=some (.sc (.bool true),hp'):=by
 have mo:=Zx hp0
 have bu:=QK hp
 obtain⟨a,t,h2,op,rd⟩:=qmy 0 hp
 have na:=qif a t h2 rd
 have ln:(LI .u8 (vO [])).length=23:=by rw[zdj];rfl
 have lk:∀k,zA (S k 1 (LI .u8 (vO [])))=some 23:=fun k=>by rw[zG,ln]
 refine⟨h2,?_⟩
 rw[E10]
 generalize LI .u8 (vO [])=Y at*
 simp[-zG,mo,bu,op,lk,na]
 simp[na]
def wgt(p:Frm×Nat):Nat:=(yi p.1).length+1+p.1.nm.length+(uv (yi p.1).length).length
theorem qq2:∀(l:List (Frm×Nat)) (a i:Nat),(Yz l).length+(xR (jX l a) (i+1)).length=(l.map wgt).sum
 |[],_,_=>rfl
 |f::r,a,i=>by
  have ih:=qq2 r (a+(yi f.1).length) (i+1)
  show(yi f.1++Yz r).length+(xB (i+1) ⟨f.1.nm,a,(yi f.1).length⟩++xR (jX r (a+(yi f.1).length)) (i+1+1)).length=wgt f+(r.map wgt).sum
  rw[<-ih]
  unfold xB wgt
  simp only[zgi,zg3,zhh,if_neg (Nat.succ_ne_zero i),zgu]
  omega
theorem qme(l:List (Frm×Nat)):(vO l).length=22+(uv l.length).length+(if l=[]then 0 else 1)+(l.map wgt).sum:=by
 have h6:hdB.length=6:=rfl
 unfold vO xY xH
 simp only[zgi,ZZ,xK,h6,vh]
 cases l with
 |nil=>
  show 6+0+((uv 0).length+0+4)+12=22+(uv 0).length+0+0
  omega
 |cons f r=>
  have ih:=qq2 r (6+(yi f.1).length) 0
  have u6:(uv 6).length=1:=by rw[Yn qg];rfl
  have e:(xR (jX (f::r) 6) 0).length=(xB 0 ⟨f.1.nm,(6:Nat),(yi f.1).length⟩++xR (jX r (6+(yi f.1).length)) (0+1)).length:=rfl
  have e2:((f::r).map wgt).sum=wgt f+(r.map wgt).sum:=rfl
  have e3:(xB 0 ⟨f.1.nm,(6:Nat),(yi f.1).length⟩).length=(uv 6).length+(1+f.1.nm.length+(uv (yi f.1).length).length):=by
   show(uv 6++([(f.1.nm.length:Int)]++f.1.nm++uv (yi f.1).length)).length=_
   simp only[zgi,zg3]
  rw[e,e2,zgi,e3,u6,<-ih,qf0,zgi]
  unfold wgt
  simp
  omega
theorem qvu{l m:List (Frm×Nat)}(p:Frm×Nat)(h:l.Perm (p::m))(hn:l.length<=8):(vO m).length<(vO l).length:=by
 have hl:l.length=m.length+1:=h.length_eq
 have s:=(h.map wgt).sum_nat
 have hne:l≠[]:=by
  intro e
  rw[e]at hl
  cases hl
 have w:14<=wgt p:=by
  unfold wgt
  have:=Xi p.1
  omega
 rw[zhc,zj5]at s
 rw[qme,qme,s,if_neg hne,Yn (show l.length<128 by omega),Yn (show m.length<128 by omega)]
 simp only[zg3]
 split<;>omega
theorem qo1(v1:Value)(b:Nat)(L:List Be)(hL:∀e∈L,e.Fin)(hn:L.length<=8):∀(n i b6:Nat) (hp:Hp),i+n=L.length->hp.rd b 0=some (qp qM L)->b<hp.next->(0<i->hp.rd b6 0=some (qp qM (L.reverse.take i))/\b6≠b/\b6<hp.next)->
 ∃b' hp',B3_8 v1 (.ms b 0 0 L.length 24) (kr 2 24 b6 (L.reverse.take i)) (.int .i64 (L.length:Int)) (.int .i64 (i:Int)) hp=B3_8 v1 (.ms b 0 0 L.length 24) (kr 2 24 b' L.reverse) (.int .i64 (L.length:Int)) (.int .i64 (L.length:Int)) hp'/\hp'.rd b 0=some (qp qM L)/\b<hp'.next/\(0<L.length->hp'.rd b' 0=some (qp qM L.reverse)/\b'<hp'.next):=by
 intro n
 induction n with
 |zero=>
  intro i b6 hp hi hb hbn h6
  have e:i=L.length:=qc
  subst e
  have e2:L.reverse.take L.length=L.reverse:=zg4 qf
  rw[e2]at h6⊢
  exact⟨b6,hp,rfl,hb,hbn,fun q=>⟨(h6 q).1,(h6 q).2.2⟩⟩
 |succ n ih=>
  intro i b6 hp hi hb hbn h6
  have hLe:∀e∈L,El qM 24 e:=fun e he=>zx (hL e he).ok
  have hi':i<L.length:=qc
  obtain⟨x,hx⟩:∃x,L[L.length-1-i]?=some x:=⟨_,zgl qc⟩
  have hxL:=hL x (zgo hx)
  have ht:L.reverse.take (i+1)=L.reverse.take i++[x]:=by
   have q:L.reverse[i]?=some x:=by rw[List.getElem?_reverse hi'];exact hx
   rw[zjx,q]
   rfl
  have hrl:(L.reverse.take i).length=i:=qh
  have hR:∀e∈L.reverse.take i,El qM 24 e:=fun e he=>hLe e (by simpa using zhl he)
  have hx1:∀y∈[x],El qM 24 y:=fun y hy=>by rw[zhn.mp hy];exact zx hxL.ok
  have e1:qp qM [x]=qM x:=XO _ _
  have ss:=wA hp 1 24 (qM x)
  rw[<-e1]at ss
  have g1:=ZH (fun e he=>(hL e he).ok) hx
  have i1:idx L.length (.int .i64 ((L.length-1-i:Nat):Int))=some (L.length-1-i):=zd .i64 qc
  have w0:IntKind.i64.wrap ((L.length:Int)-1)=((L.length-1:Nat):Int):=qi
  have w1:IntKind.i64.wrap (((L.length-1:Nat):Int)-(i:Int))=((L.length-1-i:Nat):Int):=qi
  have w2:IntKind.i64.wrap ((i:Int)+1)=((i+1:Nat):Int):=qi
  have hlt:(i:Int)<(L.length:Int):=qc
  have l1:(qM x).length=24:=(zx hxL.ok).len
  have r1:=(zx hxL.ok).ro
  have v1':=(zx hxL.ok).vl
  have pn:∀Z:List AV,Z.length=24->qm Z 0 (qM x)=some (qM x):=fun Z hZ=>Wq Z _ (by rw[hZ,l1])
  have lm:zA (.ms b 0 0 L.length 24)=some L.length:=rfl
  --the step,from what is appended
  have key:∀V' hp',zV 272 24 (ro (kr 2 24 b6 (L.reverse.take i))) (S 1 24 (qM x)) hp=some (V',hp')->
   B3_8 v1 (.ms b 0 0 L.length 24) (kr 2 24 b6 (L.reverse.take i)) (.int .i64 (L.length:Int)) (.int .i64 (i:Int)) hp=B3_8 v1 (.ms b 0 0 L.length 24) V' (.int .i64 (L.length:Int)) (.int .i64 ((i+1:Nat):Int)) hp':=by
   intro V' hp' ap
   rw[qdj]
   generalize kr 2 24 b6 (L.reverse.take i)=V at*
   generalize qp qM L=R at*
   generalize qM x=X at*
   generalize((L.length-1:Nat):Int)=J1 at*
   generalize((L.length-1-i:Nat):Int)=J2 at*
   generalize((i+1:Nat):Int)=J3 at*
   clear ih ht hR hx1 e1 ss h6
   simp only[wV,qjy]
   simp[-List.all_eq_true,hlt,lm,w0,w1,w2,qK,i1,hb,g1,l1,r1,v1',pn,ap]
   done
  by_cases c:i=0
  ·subst c
   have ap:=Jm qM 24 qg 272 qg hx1 qf qf 2 (.inr rfl) _ _ ss
   rw[e1]at ap
   obtain⟨b',hp',z,q⟩:=ih 1 hp.next (hp.new (qM x)) qc (by rw[jE _ _ qc];exact hb) (by show b<hp.next+1;omega)
    (fun _=>⟨by rw[ht,<-e1];exact qB _ _,qc,zh1 _⟩)
   refine⟨b',hp',?_,q⟩
   rw[<-z,ht]
   exact key _ _ ap
  ·obtain⟨h1,h2,h3⟩:=h6 qc
   have hne:L.reverse.take i≠[]:=by
    intro e
    rw[e]at hrl
    exact c hrl.symm
   have ap:=qdd qM 24 qg 272 qg hR hx1 hne qf qh _ _ b6 h1 ss
   have ev:ro (kr 2 24 b6 (L.reverse.take i))= .ms b6 0 0 (L.reverse.take i).length 24:=by rw[xg _ _ _ hne];rfl
   have eo:kr 2 24 hp.next (L.reverse.take i++[x])= .ms hp.next 0 0 ((L.reverse.take i).length+1) 24:=by rw[xg _ _ _ qf];simp
   rw[<-ev]at ap
   have ap:zV 272 24 (ro (kr 2 24 b6 (L.reverse.take i))) (S 1 24 (qM x)) hp=some (kr 2 24 hp.next (L.reverse.take i++[x]),(hp.del b6).new (qp qM (L.reverse.take i++[x]))):=by
    rw[eo,<-e1];exact ap
   obtain⟨b',hp',z,q⟩:=ih (i+1) hp.next ((hp.del b6).new (qp qM (L.reverse.take i++[x]))) qc
    (by rw[rdg (Ks (hp.del b6) _ (show b≠(hp.del b6).next from by show b≠hp.next;omega)),rdg (QZ hp (Ne.symm h2))];exact hb)
    (by show b<hp.next+1;omega) (fun _=>⟨by rw[ht];exact qB (hp.del b6) _,qc,zh1 _⟩)
   refine⟨b',hp',?_,q⟩
   rw[<-z,ht]
   exact key _ _ ap
theorem qt3(b k:Nat)(L:List Be)(hL:∀e∈L,e.Fin)(hn:L.length<=8)(hk:k<L.length)(hp:Hp)(hb:hp.rd b 0=some (qp qM L))(hbn:b<hp.next):
 ∃Y h1 X b' h',zV 272 24 (S 1 24 []) (.ms b 0 0 k 24) hp=some (Y,h1)/\zV 272 24 Y (.ms b 0 ((k+1)*24) (L.length-(k+1)) 24) h1=some (X,h')/\ro X=kr 0 24 b' (L.take k++L.drop (k+1))/\(L.take k++L.drop (k+1)≠[]->h'.rd b' 0=some (qp qM (L.take k++L.drop (k+1)))):=by
 have hLe:∀e∈L,El qM 24 e:=fun e he=>zx (hL e he).ok
 have hT:∀e∈L.take k,El qM 24 e:=fun e he=>hLe e (zhl he)
 have hD:∀e∈L.drop (k+1),El qM 24 e:=fun e he=>hLe e (zi0 he)
 have s1:=qh1 qM 24 qg hLe (i:=0) (k:=k) hb qc
 rw[zh7,zjh]at s1
 have s2:∀h1:Hp,h1.rd b 0=some (qp qM L)->xm h1 24 (.ms b 0 ((k+1)*24) (L.length-(k+1)) 24)=some (qp qM (L.drop (k+1))):=by
  intro h1 h
  have q:=qh1 qM 24 qg hLe (i:=k+1) (k:=L.length-(k+1)) h qc
  rwa [zg4 qf]at q
 have lD:(L.drop (k+1)).length=L.length-(k+1):=qf
 by_cases c1:k=0
 ·subst c1
  have a1:=qde 24 272 1 (.inl rfl) _ hp s1
  have e0:L.take 0++L.drop (0+1)=L.drop (0+1):=rfl
  rw[e0]
  by_cases c2:L.drop (0+1)=[]
  ·have q:=s2 hp hb
   rw[c2]at q⊢
   exact⟨_,hp,_,0,hp,a1,qde 24 272 1 (.inl rfl) _ hp q,rfl,fun h=>absurd rfl h⟩
  ·have a2:=Jm qM 24 qg 272 qg hD c2 qc 1 (.inl rfl) _ hp (s2 hp hb)
   refine⟨_,hp,_,hp.next,_,a1,a2,?_,fun _=>qB _ _⟩
   rw[xg _ _ _ c2]
   rfl
 ·have hne:L.take k≠[]:=by
   intro e
   have:=congrArg List.length e
   rw[zhj,zhh]at this
   omega
  have lT:(L.take k).length=k:=by rw[zhj];omega
  have a1:=Jm qM 24 qg 272 qg hT hne qc 1 (.inl rfl) _ hp s1
  have hb1:(hp.new (qp qM (L.take k))).rd b 0=some (qp qM L):=by rw[jE _ _ qc];exact hb
  have hne2:L.take k++L.drop (k+1)≠[]:=by
   intro e
   exact hne (List.append_eq_nil_iff.mp e).1
  by_cases c2:L.drop (k+1)=[]
  ·have q:=s2 _ hb1
   rw[c2]at q
   refine⟨_,_,_,hp.next,_,a1,qzt 24 272 _ _ _ _ _ _ q,?_,fun _=>?_⟩
   ·rw[xg _ _ _ hne2,c2,zhd]
    rfl
   ·rw[c2,zhd]
    exact qB _ _
  ·have a2:=qdd qM 24 qg 272 qg hT hD hne c2 qc _ _ hp.next (qB _ _) (s2 _ hb1)
   refine⟨_,_,_,(hp.new (qp qM (L.take k))).next,_,a1,a2,?_,fun _=>qB ((hp.new (qp qM (L.take k))).del hp.next) _⟩
   rw[xg _ _ _ hne2,zgi]
   rfl
theorem qgl{l m:List Be}(h:l.Perm m):(kS l).Perm (kS m):=h.map beF
theorem qzr(b:Nat)(t:Int)(ht:0<=t/\t<256)(L:List Be)(hL:∀e∈L,e.Fin)(hd:(L.map Be.nm).Nodup)(hn:L.length<=8)(h0:0<L.length)(hp:Hp)(hb:hp.rd b 0=some (qp qM L))(hbn:b<hp.next):
 ∃hp',B3_16 (.int .u8 t) (.ms b 0 0 L.length 24) (S 0 1 (LI .u8 (vO (kS (zB [] L))))) hp=some (.sc (.bool true),hp'):=by
 obtain⟨k,hk⟩:∃k:Nat,k=(t%(L.length:Int)).toNat:=⟨_,rfl⟩
 have hk0:0<=t%(L.length:Int):=Int.emod_nonneg _ qc
 have hk1:t%(L.length:Int)<(L.length:Int):=zkn _ qc
 have ek:t%(L.length:Int)=(k:Int):=qc
 have hkn:k<L.length:=qc
 obtain⟨Y,h1,X,b',h',a1,a2,rX,hX⟩:=qt3 b k L hL hn hkn hp hb hbn
 have hle:∀e∈L.take k++L.drop (k+1),e.Fin:=by
  intro e he
  rcases zg1.mp he with q|q
  ·exact hL e (zhl q)
  ·exact hL e (zi0 q)
 have hpm:L.Perm (L[k]::(L.take k++L.drop (k+1))):=by
  have e:L=L.take k++L[k]::L.drop (k+1):=by rw[List.getElem_cons_drop,zkb]
  conv=>lhs;rw[e]
  exact zi5
 have hd2:((L.take k++L.drop (k+1)).map Be.nm).Nodup:=by
  have:=(hpm.map Be.nm).nodup_iff.mp hd
  exact(List.nodup_cons.mp this).2
 have hl2:(L.take k++L.drop (k+1)).length<=8:=by have:=hpm.length_eq;simp only[zgk]at this;omega
 have bu:=QJ _ hle hd2 hl2 0 b' (.inl rfl) h' hX
 have pl:=xD L []
 have pm:=xD (L.take k++L.drop (k+1)) []
 have less:=qvu (l:=kS (zB [] L)) (m:=kS (zB [] (L.take k++L.drop (k+1)))) (beF L[k]) ((qgl (pl.trans hpm)).trans (List.Perm.cons _ (qgl pm).symm)) (by unfold kS;rw[zhv,pl.length_eq];exact hn)
 have mo:=Zx hp0
 have cvt:=KE t
 have wt:IntKind.i64.wrap t=t:=qi
 rw[wt]at cvt
 have rm:∀t' x y,qt Tryz.prog .rem t' x y (.int .i64 t) (.int .i64 (L.length:Int))=some (.int .i64 (k:Int)):=by
  intro t' x y
  rw[qS _ _ _ _ _ _ _ qc,qQ ht.1,ek]
 have w1:IntKind.i64.wrap ((k:Int)+1)=((k+1:Nat):Int):=qi
 have bd1:=yf .i64 (hi:=L.length) (d:=L.length) (n:=k) qc
 have bd2:=yf .i64 (hi:=L.length) (d:=0) (n:=k+1) qc
 have bd2:qC 0 (L.length:Int) (some (.int .i64 ((k:Int)+1))) 0=some (k+1):=bd2
 have c0:¬(L=[]):=fun e=>by rw[e]at h0;exact absurd h0 qg
 have lm:zA (.ms b 0 0 L.length 24)=some L.length:=rfl
 have lA:∀k,zA (S k 1 (LI .u8 (vO (kS (zB [] L)))))=some (vO (kS (zB [] L))).length:=fun k=>by rw[zG];simp
 have lB:∀k,zA (S k 1 (LI .u8 (vO (kS (zB [] (L.take k++L.drop (k+1)))))))=some (vO (kS (zB [] (L.take k++L.drop (k+1))))).length:=fun k=>by rw[zG];simp
 have lB:∀j,zA (S j 1 (LI .u8 (vO (kS (zB [] (L.take k++L.drop (k+1)))))))=some (vO (kS (zB [] (L.take k++L.drop (k+1))))).length:=fun j=>by rw[zG];simp
 have lc:((vO (kS (zB [] (L.take k++L.drop (k+1))))).length:Int)<((vO (kS (zB [] L))).length:Int):=qc
 have rr:ro (kr 0 24 b' (L.take k++L.drop (k+1)))=kr 0 24 b' (L.take k++L.drop (k+1)):=by
  unfold kr
  split<;>rfl
 have nx:yr X=some ():=by
  cases X with
  |tup vs=>rw[show ro (.tup vs)= .tup vs from rfl]at rX;unfold kr at rX;split at rX<;>cases rX
  |_=>rfl
 unfold qfe at bu
 generalize(if L.take k++L.drop (k+1)=[]then h' else h'.new (qp qM (zB [] (L.take k++L.drop (k+1)))))=H2 at bu
 refine⟨H2,?_⟩
 rw[qhn]
 generalize(vO (kS (zB [] (L.take k++L.drop (k+1))))).length=nB at*
 generalize LI .u8 (vO (kS (zB [] (L.take k++L.drop (k+1)))))=ZB at*
 generalize(vO (kS (zB [] L))).length=nA at*
 generalize LI .u8 (vO (kS (zB [] L)))=ZA at*
 generalize kr 0 24 b' (L.take k++L.drop (k+1))=V at*
 generalize qp qM L=R at*
 clear hX hle hpm hd2 hl2 pl pm lc
 simp only[wV,qjy]
 simp[-zG,lm,c0,cvt,rm,qK,bd1,bd2,a1,w1,a2,mo,rX,rr,bu,lA,lB,less]
 done
theorem qvl(b b6:Nat)(t:Int)(ht:0<=t/\t<256)(L:List Be)(hL:∀e∈L,e.Fin)(hd:(L.map Be.nm).Nodup)(hn:L.length<=8)(h0:0<L.length)(hp:Hp)(hb:hp.rd b 0=some (qp qM L))(hbn:b<hp.next)(hb6:hp.rd b6 0=some (qp qM L.reverse))(h6n:b6<hp.next):
 ∃hp',B3_8 (.int .u8 t) (.ms b 0 0 L.length 24) (kr 2 24 b6 L.reverse) (.int .i64 (L.length:Int)) (.int .i64 (L.length:Int)) hp=some (.sc (.bool true),hp'):=by
 have hne:L≠[]:=fun e=>by rw[e]at h0;cases h0
 have hne2:L.reverse≠[]:=by simpa using hne
 have b1:=QJ L hL hd hn 2 b (.inr rfl) hp (fun _=>hb)
 rw[if_neg hne,xg _ _ _ hne]at b1
 have f1:(hp.new (qp qM (zB [] L))).rd b6 0=some (qp qM L.reverse):=by rw[jE _ _ qc];exact hb6
 have hd2:(L.reverse.map Be.nm).Nodup:=((List.reverse_perm L).map Be.nm).nodup_iff.mpr hd
 have b2:=QJ L.reverse (fun e he=>hL e (by simpa using he)) hd2 (by simpa using hn) 2 b6 (.inr rfl) (hp.new (qp qM (zB [] L))) (fun _=>f1)
 have es:zB [] L.reverse=zB [] L:=(qrl hd (List.reverse_perm L).symm).symm
 rw[if_neg hne2,es,xg _ _ _ hne2,List.length_reverse]at b2
 have f2:((hp.new (qp qM (zB [] L))).new (qp qM (zB [] L))).rd b 0=some (qp qM L):=by
  rw[jE _ _ (show b≠hp.next+1 by omega),jE _ _ qc]
  exact hb
 obtain⟨hp',z⟩:=qzr b t ht L hL hd hn h0 ((hp.new (qp qM (zB [] L))).new (qp qM (zB [] L))) f2 (by show b<hp.next+1+1;omega)
 refine⟨hp',?_⟩
 have mo:=Zx hp0
 have bu:=Jg (vO (kS (zB [] L)))
 have lm:zA (.ms b 0 0 L.length 24)=some L.length:=rfl
 rw[qdj,<-z,xg _ _ _ hne2,List.length_reverse]
 unfold qfe at b1 b2
 generalize(hp.new (qp qM (zB [] L))).new (qp qM (zB [] L))=H2 at*
 generalize hp.new (qp qM (zB [] L))=H1 at*
 generalize LI .u8 (vO (kS (zB [] L)))=Y at*
 clear z f1 f2 hb hb6 es
 simp[mo,b1,b2,bu]
theorem law_BoxOrders(k:Nat)(l:List Itm)(wl:(∀x∈l,x.Ok)/\l.length<9223372036854775808)(t:Int)(wt:InK .u8 t)(hp:Hp):∃hp',run cxX 3 [S k 8 (qp kY l),.sc (.int .u8 t)] hp=some (.sc (.bool true),hp'):=by
 obtain⟨wl,hl⟩:=wl
 have ht:=wt.u8
 obtain⟨g,aw⟩:=qeh hp0
 obtain⟨c,lg,hc⟩:=qd9 (rk k) l wl hl hp0
 cases c with
 |false=>
  refine⟨hp,?_⟩
  rw[E3]
  generalize qp kY l=R at*
  simp[aw,lg]
 |true=>
  obtain⟨hn,lt⟩:=hc rfl
  obtain⟨b,h1,en,es,f1,f2⟩:=qed (rk k) l wl lt hn hp
  obtain⟨hF,h8,Qv⟩:=es.fin
  have hd:=qf7 l
  have en:run cxX 12 [S (rk k) 8 (qp kY l)] hp=some (kr 2 24 b (yw l),h1):=en
  have ln:=qyu 2 24 b (yw l)
  by_cases hne:yw l=[]
  ·have b0:=fun hp=>QK hp
   have mo:=Zx hp0
   have l0:∀k,zA (S k 1 (LI .u8 (vO [])))=some 23:=fun k=>by rw[zG,zdj];rfl
   have bu:=Jg (vO [])
   have v0:kr 2 24 b (yw l)=S 2 1 []:=by rw[hne];rfl
   have e8:B3_8 (.int .u8 t) (S 2 1 []) (S 2 1 []) (.int .i64 0) (.int .i64 0) h1=some (.sc (.bool true),h1):=by
    have e16:B3_16 (.int .u8 t) (S 2 1 []) (S 0 1 (LI .u8 (vO []))) h1=some (.sc (.bool true),h1):=by
     rw[qhn]
     generalize LI .u8 (vO [])=Y at*
     have ln0:zA (S 2 1 [])=some 0:=rfl
     simp[-zG,l0,ln0]
    rw[qdj]
    generalize LI .u8 (vO [])=Y at*
    simp[mo,b0,bu,e16]
   refine⟨h1,?_⟩
   rw[v0]at en
   rw[E3]
   generalize qp kY l=R at*
   simp[aw,lg,en,e8]
  ·have h0:0<(yw l).length:=zh5.mpr hne
   obtain⟨r1,r2,r3⟩:=Qv hne
   obtain⟨b6,h2,z,q1,q2,q3⟩:=qo1 (.int .u8 t) b (yw l) hF h8 (yw l).length 0 0 h1 qc r1 r2 (fun q=>absurd q qg)
   obtain⟨q3,q4⟩:=q3 h0
   obtain⟨h3,y⟩:=qvl b b6 t ht (yw l) hF hd h8 h0 h2 q1 q2 q3 q4
   rw[y]at z
   rw[xg _ _ _ hne]at en ln
   refine⟨h3,?_⟩
   have z:B3_8 (.int .u8 t) (.ms b 0 0 (yw l).length 24) (S 2 1 []) (.int .i64 ((yw l).length:Int)) (.int .i64 0) h1=some (.sc (.bool true),h3):=z
   rw[E3]
   generalize qp kY l=R at*
   simp[aw,lg,en,ln,z]
end Go.Proofs.YtoliekekdmfngaaGreat.AI
