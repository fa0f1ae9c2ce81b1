/- Texts that the proof of PackErrors rests on, part 5. -/
import Derived.Test.YtchmioacjkbfcaaGreatQPackErrors4
namespace Go.Proofs.YtchmioacjkbfcaaGreat.AI
open Go
set_option linter.unusedVariables false
set_option linter.unusedSimpArgs false
set_option maxRecDepth 100000
set_option maxHeartbeats 0
theorem and64(x c:Nat)(hx:x<18446744073709551616)(hc:c<18446744073709551616)(t:TypeId)(o o':Operand):binV Tryz.prog .and t o o' (.int .u64 (x:Int)) (.int .u64 (c:Int))=some (.int .u64 ((x&&&c:Nat):Int)):=by
 rw[qE]
 have hl:x&&&c<=x:=Nat.and_le_left
 have e:(BitVec.ofInt IntKind.u64.bits (x:Int)&&&BitVec.ofInt IntKind.u64.bits (c:Int)).toNat=x&&&c:=by
  show(BitVec.ofInt 64 (x:Int)&&&BitVec.ofInt 64 (c:Int)).toNat=_
  rw[BitVec.ofInt_natCast,BitVec.ofInt_natCast,BitVec.toNat_and,BitVec.toNat_ofNat,BitVec.toNat_ofNat]
  rw[Nat.mod_eq_of_lt (by omega),Nat.mod_eq_of_lt (by omega)]
 rw[e,qr (by omega) (by omega)]
theorem f1_le(x:Nat)(hx:x<18446744073709551616):f1 8 x<18446744073709551616:=by
 unfold f1
 have e:mkB 85 8=6148914691236517205:=by decide
 rw[e]
 have h1:(x/2)&&&6148914691236517205<=6148914691236517205:=Nat.and_le_right
 have h2:x&&&6148914691236517205<=6148914691236517205:=Nat.and_le_right
 omega
theorem f2_le(x:Nat):f2 8 x<7378697629483820647:=by
 unfold f2
 have e:mkB 51 8=3689348814741910323:=by decide
 rw[e]
 have h1:(x/4)&&&3689348814741910323<=3689348814741910323:=Nat.and_le_right
 have h2:x&&&3689348814741910323<=3689348814741910323:=Nat.and_le_right
 omega
theorem and127i(r:Nat)(hr:r<9223372036854775808)(t:TypeId)(o o':Operand):binV Tryz.prog .and t o o' (.int .i64 (r:Int)) (.int .i64 127)=some (.int .i64 ((r%128:Nat):Int)):=by
 rw[qE]
 have e9:(BitVec.ofInt IntKind.i64.bits (r:Int)&&&BitVec.ofInt IntKind.i64.bits ((127:Nat):Int)).toNat=r%128:=by
  show(BitVec.ofInt 64 (r:Int)&&&BitVec.ofInt 64 ((127:Nat):Int)).toNat=_
  rw[BitVec.ofInt_natCast,BitVec.ofInt_natCast,BitVec.toNat_and,BitVec.toNat_ofNat,BitVec.toNat_ofNat,Nat.mod_eq_of_lt (show r<2^64 by omega),Nat.mod_eq_of_lt (show 127<2^64 by omega)]
  exact Nat.and_two_pow_sub_one_eq_mod r 7
 have i127:((127:Nat):Int)=127:=rfl
 rw[i127]at e9
 rw[e9,qf (by omega) (by omega)]
theorem pop_pure(x:Nat)(hx:x<18446744073709551616):∃y z q d e r:Nat,(x/2&&&6148914691236517205)+(x&&&6148914691236517205)=y/\y<18446744073709551616/\
  (y/4&&&3689348814741910323)+(y&&&3689348814741910323)=z/\z<7378697629483820647/\(z/16+z)&&&1085102592571150095=q/\q<651061555542690057/\q+q/256=d/\d+d/65536=e/\e+e/4294967296=r/\r<9223372036854775808/\r%128=pcn x 64:=by
 have m1:mkB 85 8=6148914691236517205:=by decide
 have m2:mkB 51 8=3689348814741910323:=by decide
 have m3:mkB 15 8=1085102592571150095:=by decide
 have h1:=f1_le x hx
 have h2:=f2_le (f1 8 x)
 have h3:=f3_all 8 x (Nat.lt_of_lt_of_le hx (by decide))
 have cb:∀y,pcn y 8<=8:=fun y=>yy y 8
 have hc:cB x 8=((((((pcn (x/256/256/256/256/256/256/256%256) 8*256+pcn (x/256/256/256/256/256/256%256) 8)*256+pcn (x/256/256/256/256/256%256) 8)*256+pcn (x/256/256/256/256%256) 8)*256+
   pcn (x/256/256/256%256) 8)*256+pcn (x/256/256%256) 8)*256+pcn (x/256%256) 8)*256+pcn (x%256) 8:=by
  simp only[cB,Nat.zero_mul,Nat.zero_add]
 obtain⟨p1,d,hd,e,he,p2,p3⟩:=pop_last _ _ _ _ _ _ _ _ _ (cb _) (cb _) (cb _) (cb _) (cb _) (cb _) (cb _) (cb _) hc
 rw[<-pcn_bytes]at p3
 refine⟨f1 8 x,f2 8 (f1 8 x),cB x 8,d,e,_,?_,h1,?_,h2,?_,p1,hd.symm,he.symm,rfl,p2,p3⟩
 ·rw[<-m1];rfl
 ·rw[<-m2];rfl
 ·rw[<-h3,<-m3];rfl
noncomputable def onesF(k1 k2 k4 k8 k16 k32 c85 c51 c15 k127:Int)(a0:AV)(hp:Hp):Option (AV×Hp):=aS a0 fun y0=>bC .shr 76 3 y0 (.int .u64 k1) fun y1=>bC .and 76 4 y1 (.int .u64 c85) fun y2=>bC .and 76 6 y0 (.int .u64 c85) fun y3=>bT .add 76 5 7 y2 y3 fun y4=>bC .shr 76 9 y4 (.int .u64 k2) fun y5=>bC .and 76 10 y5 (.int .u64 c51) fun y6=>bC .and 76 12 y4 (.int .u64 c51) fun y7=>bT .add 76 11 13 y6 y7 fun y8=>bC .shr 76 15 y8 (.int .u64 k4) fun y9=>bT .add 76 16 17 y9 y8 fun y10=>bC .and 76 18 y10 (.int .u64 c15) fun y11=>bC .shr 76 21 y11 (.int .u64 k8) fun y12=>bT .add 76 20 22 y11 y12 fun y13=>bC .shr 76 25 y13 (.int .u64 k16) fun y14=>bT .add 76 24 26 y13 y14 fun y15=>bC .shr 76 29 y15 (.int .u64 k32) fun y16=>bT .add 76 28 30 y15 y16 fun y17=>cV 76 3 y17 fun y18=>bC .and 3 33 y18 (.int .i64 k127) fun y19=>rQ (.sc y19) hp
theorem ones_eq(a0:AV)(hp:Hp):run cxX 146 [a0] hp=onesF (.ofNat 1) (.ofNat 2) (.ofNat 4) (.ofNat 8) (.ofNat 16) (.ofNat 32) (.ofNat 6148914691236517205) (.ofNat 3689348814741910323) (.ofNat 1085102592571150095) (.ofNat 127) a0 hp:=by
 delta onesF
 have h:=E146 a0 hp
 with_reducible exact h
theorem run_ones(x:Nat)(hx:x<18446744073709551616)(hp:Hp):run cxX 146 [.sc (.int .u64 (x:Int))] hp=some (.sc (.int .i64 (pcn x 64:Nat)),hp):=by
 obtain⟨y,z,q,d,e,r,h1,b1,h2,b2,h3,b3,h4,h5,h6,b6,h7⟩:=pop_pure x hx
 have k64:∀n:Nat,n<=64->n<=IntKind.u64.bits:=fun n h=>h
 have s1:=fun t o o'=>jO .u64 x 1 (k64 1 (by omega)) t o o' .u64
 have a1:=and64 (x/2^1) 6148914691236517205 (by omega) (by omega)
 have a2:=and64 x 6148914691236517205 hx (by omega)
 have s2:=fun t o o'=>jO .u64 y 2 (k64 2 (by omega)) t o o' .u64
 have a3:=and64 (y/2^2) 3689348814741910323 (by omega) (by omega)
 have a4:=and64 y 3689348814741910323 b1 (by omega)
 have s3:=fun t o o'=>jO .u64 z 4 (k64 4 (by omega)) t o o' .u64
 have a5:=and64 (z/2^4+z) 1085102592571150095 (by omega) (by omega)
 have s4:=fun t o o'=>jO .u64 q 8 (k64 8 (by omega)) t o o' .u64
 have s5:=fun t o o'=>jO .u64 d 16 (k64 16 (by omega)) t o o' .u64
 have s6:=fun t o o'=>jO .u64 e 32 (k64 32 (by omega)) t o o' .u64
 have a7:=and127i r b6
 rw[h7]at a7
 have d1:x/2^1=x/2:=by omega
 have d2:y/2^2=y/4:=by omega
 have d3:z/2^4=z/16:=by omega
 have d4:q/2^8=q/256:=by omega
 have d5:d/2^16=d/65536:=by omega
 have d6:e/2^32=e/4294967296:=by omega
 rw[d1]at s1 a1
 rw[d2]at s2 a3
 rw[d3]at s3 a5
 rw[d4]at s4
 rw[d5]at s5
 rw[d6]at s6
 rw[h3]at a5
 generalize(x/2&&&6148914691236517205)=u1 at*
 generalize(x&&&6148914691236517205)=u2 at*
 generalize(y/4&&&3689348814741910323)=u3 at*
 generalize(y&&&3689348814741910323)=u4 at*
 have w1:IntKind.u64.wrap ((u1:Int)+(u2:Int))=(y:Int):=by rw[qr]<;>omega
 have w2:IntKind.u64.wrap ((u3:Int)+(u4:Int))=(z:Int):=by rw[qr]<;>omega
 have w3:IntKind.u64.wrap (((z/16:Nat):Int)+(z:Int))=((z/16+z:Nat):Int):=by rw[qr]<;>omega
 have w4:IntKind.u64.wrap ((q:Int)+((q/256:Nat):Int))=(d:Int):=by rw[qr]<;>omega
 have w5:IntKind.u64.wrap ((d:Int)+((d/65536:Nat):Int))=(e:Int):=by rw[qr]<;>omega
 have w6:IntKind.u64.wrap ((e:Int)+((e/4294967296:Nat):Int))=(r:Int):=by rw[qr]<;>omega
 have w7:IntKind.i64.wrap (r:Int)=(r:Int):=qf (by omega) (by omega)
 have S1:∀t o o',binV Tryz.prog .shr t o o' (.int .u64 (x:Int)) (.int .u64 (Int.ofNat 1))=some (.int .u64 ((x/2:Nat):Int)):=s1
 have A1:∀t o o',binV Tryz.prog .and t o o' (.int .u64 ((x/2:Nat):Int)) (.int .u64 (Int.ofNat 6148914691236517205))=some (.int .u64 (u1:Int)):=a1
 have A2:∀t o o',binV Tryz.prog .and t o o' (.int .u64 (x:Int)) (.int .u64 (Int.ofNat 6148914691236517205))=some (.int .u64 (u2:Int)):=a2
 have S2:∀t o o',binV Tryz.prog .shr t o o' (.int .u64 (y:Int)) (.int .u64 (Int.ofNat 2))=some (.int .u64 ((y/4:Nat):Int)):=s2
 have A3:∀t o o',binV Tryz.prog .and t o o' (.int .u64 ((y/4:Nat):Int)) (.int .u64 (Int.ofNat 3689348814741910323))=some (.int .u64 (u3:Int)):=a3
 have A4:∀t o o',binV Tryz.prog .and t o o' (.int .u64 (y:Int)) (.int .u64 (Int.ofNat 3689348814741910323))=some (.int .u64 (u4:Int)):=a4
 have S3:∀t o o',binV Tryz.prog .shr t o o' (.int .u64 (z:Int)) (.int .u64 (Int.ofNat 4))=some (.int .u64 ((z/16:Nat):Int)):=s3
 have A5:∀t o o',binV Tryz.prog .and t o o' (.int .u64 ((z/16+z:Nat):Int)) (.int .u64 (Int.ofNat 1085102592571150095))=some (.int .u64 (q:Int)):=a5
 have S4:∀t o o',binV Tryz.prog .shr t o o' (.int .u64 (q:Int)) (.int .u64 (Int.ofNat 8))=some (.int .u64 ((q/256:Nat):Int)):=s4
 have S5:∀t o o',binV Tryz.prog .shr t o o' (.int .u64 (d:Int)) (.int .u64 (Int.ofNat 16))=some (.int .u64 ((d/65536:Nat):Int)):=s5
 have S6:∀t o o',binV Tryz.prog .shr t o o' (.int .u64 (e:Int)) (.int .u64 (Int.ofNat 32))=some (.int .u64 ((e/4294967296:Nat):Int)):=s6
 have A7:∀t o o',binV Tryz.prog .and t o o' (.int .i64 (r:Int)) (.int .i64 (Int.ofNat 127))=some (.int .i64 ((pcn x 64:Nat):Int)):=a7
 rw[ones_eq]
 clear s1 s2 s3 s4 s5 s6 a1 a2 a3 a4 a5 a7 h1 h2 h3
 generalize Int.ofNat 6148914691236517205=c85 at*
 generalize Int.ofNat 3689348814741910323=c51 at*
 generalize Int.ofNat 1085102592571150095=c15 at*
 unfold onesF
 simp only[cmb]
 rw[yj,Option.bind_some,S1,Option.bind_some,A1,Option.bind_some,A2,Option.bind_some,zV,w1,Option.bind_some,S2,Option.bind_some,A3,Option.bind_some,A4,Option.bind_some,zV,w2,Option.bind_some,S3,Option.bind_some,zV,w3,Option.bind_some,A5,Option.bind_some,S4,Option.bind_some,zV,w4,Option.bind_some,S5,Option.bind_some,zV,w5,Option.bind_some,S6,Option.bind_some,zV,w6,Option.bind_some,yg,w7,Option.bind_some,A7,Option.bind_some]
def wrd(m j:Nat):Nat:=m/2^(64*j)%18446744073709551616
theorem wrd_lt(m j:Nat):wrd m j<18446744073709551616:=Nat.mod_lt _ (by decide)
theorem wrd_bit(m i:Nat):(wrd m (i/64)).testBit (i%64)=m.testBit i:=by
 unfold wrd
 have e:(18446744073709551616:Nat)=2^64:=rfl
 rw[e,Nat.testBit_mod_two_pow,Nat.testBit_div_two_pow]
 have h:i%64<64:=Nat.mod_lt _ (by decide)
 have e2:i%64+64*(i/64)=i:=by omega
 simp only[h,decide_true,Bool.true_and]
 rw[e2]
abbrev Cc(c:Nat×Nat):List AV:=[.sc (.int .u32 (c.1:Int)),.sc (.int .u64 (wrd c.2 0:Nat)),.sc (.int .u64 (wrd c.2 1:Nat)),.sc (.int .u64 (wrd c.2 2:Nat)),.sc (.int .u64 (wrd c.2 3:Nat))]
theorem getSc_Cc(c:Nat×Nat)(j:Nat)(hj:j<4):qe (Cc c) (Nat.add 1 (Nat.add 0 j))=some (.int .u64 (wrd c.2 j:Nat)):=by
 have:j=0\/j=1\/j=2\/j=3:=by omega
 rcases this with e|e|e|e<;>subst e<;>rfl
theorem and63_bv:∀x:BitVec 8,(x&&&63#8).toNat=x.toNat%64:=by decide
theorem and63(c:Nat)(hc:c<256)(t:TypeId)(x y:Operand):binV Tryz.prog .and t x y (.int .u8 (c:Int)) (.int .u8 63)=some (.int .u8 ((c%64:Nat):Int)):=by
 rw[qE]
 have e1:(BitVec.ofInt 8 (c:Int)).toNat=c:=by
  rw[BitVec.toNat_ofInt];omega
 have e2:(BitVec.ofInt IntKind.u8.bits (c:Int)&&&BitVec.ofInt IntKind.u8.bits 63).toNat=c%64:=by
  show(BitVec.ofInt 8 (c:Int)&&&63#8).toNat=_
  rw[and63_bv,e1]
 rw[e2,zo (by omega) (by omega)]
theorem run_chas(c:Nat×Nat)(i:Nat)(hi:i<256)(hp:Hp):run cxX 97 [.agg (Cc c),.sc (.int .u8 (i:Int))] hp=some (.sc (.bool (c.2.testBit i)),hp):=by
 have s1:∀t o o',binV Tryz.prog .shr t o o' (.int .u8 (i:Int)) (.int .u64 6)=some (.int .u8 ((i/64:Nat):Int)):=fun t o o'=>jO .u8 i 6 (by decide) t o o' .u64
 have ix:idx 4 (.int .u8 ((i/64:Nat):Int))=some (i/64):=zm .u8 (by omega)
 have g:=getSc_Cc c (i/64) (by omega)
 have a:=and63 i hi
 have s2:=fun t o o'=>jO .u64 (wrd c.2 (i/64)) (i%64) (by show i%64<=64;omega) t o o' .u8
 have a2:=and1 (wrd c.2 (i/64)/2^(i%64)) (Nat.lt_of_le_of_lt (Nat.div_le_self _ _) (wrd_lt _ _))
 have tb:=wrd_bit c.2 i
 rw[Nat.testBit_eq_decide_div_mod_eq]at tb
 rw[<-tb,E97]
 generalize wrd c.2 (i/64)/2^(i%64)%2=q at*
 generalize((wrd c.2 (i/64)/2^(i%64):Nat):Int)=q1 at*
 generalize((i%64:Nat):Int)=q2 at*
 generalize hq3:((i/64:Nat):Int)=q3 at*
 have cn:qg 5 (.agg (Cc c))=some (Cc c):=rfl
 have eqq:decide ((q:Int)=1)=decide (q=1):=by
  by_cases h:q=1
  ·simp[h]
  ·rw[decide_eq_false h,decide_eq_false (by omega)]
 have mr:List.map ro1 (Cc c)=Cc c:=rfl
 have g':qe (Cc c) (1+i/64)=some (.int .u64 (wrd c.2 (i/64):Nat)):=by have:=g;simpa using this
 simp only[cmb,cn,mr,Option.bind_some,yj]
 simp[s1,ix,g',a,s2,a2,-qE]
 omega
theorem pcn_four(m:Nat):pcn m 256=pcn (wrd m 0) 64+pcn (wrd m 1) 64+pcn (wrd m 2) 64+pcn (wrd m 3) 64:=by
 have h:∀j,pcn (wrd m j) 64=pcn (m/2^(64*j)) 64:=fun j=>pcn_mod _ 64 64 (Nat.le_refl _)
 have a:=pcn_split m 192 64
 have b:=pcn_split m 128 64
 have c:=pcn_split m 64 64
 have e0:m/2^(64*0)=m:=by simp
 rw[h,h,h,h,e0]
 have e1:192+64=256:=rfl
 have e2:128+64=192:=rfl
 have e3:64+64=128:=rfl
 rw[e1]at a
 rw[e2]at b
 rw[e3]at c
 rw[a,b,c]
theorem ixw(a b c d:Int):ixV Tryz.prog 139 (.agg #[.int .u64 a,.int .u64 b,.int .u64 c,.int .u64 d]) (.int .i64 0)=some (.int .u64 a)
  /\ixV Tryz.prog 139 (.agg #[.int .u64 a,.int .u64 b,.int .u64 c,.int .u64 d]) (.int .i64 1)=some (.int .u64 b)
  /\ixV Tryz.prog 139 (.agg #[.int .u64 a,.int .u64 b,.int .u64 c,.int .u64 d]) (.int .i64 2)=some (.int .u64 c)
  /\ixV Tryz.prog 139 (.agg #[.int .u64 a,.int .u64 b,.int .u64 c,.int .u64 d]) (.int .i64 3)=some (.int .u64 d):=⟨by kernel_rfl,by kernel_rfl,by kernel_rfl,by kernel_rfl⟩
theorem run_many(c:Nat×Nat)(hp:Hp):run cxX 96 [.agg (Cc c)] hp=some (.sc (.int .i64 (pcn c.2 256:Nat)),hp):=by
 have o0:=run_ones (wrd c.2 0) (wrd_lt _ _) hp0
 have o1:=run_ones (wrd c.2 1) (wrd_lt _ _) hp0
 have o2:=run_ones (wrd c.2 2) (wrd_lt _ _) hp0
 have o3:=run_ones (wrd c.2 3) (wrd_lt _ _) hp0
 have l0:=yy (wrd c.2 0) 64
 have l1:=yy (wrd c.2 1) 64
 have l2:=yy (wrd c.2 2) 64
 have l3:=yy (wrd c.2 3) 64
 obtain⟨i0,i1,i2,i3⟩:=ixw (wrd c.2 0:Nat) (wrd c.2 1:Nat) (wrd c.2 2:Nat) (wrd c.2 3:Nat)
 rw[pcn_four,E96]
 generalize pcn (wrd c.2 0) 64=n0 at*
 generalize pcn (wrd c.2 1) 64=n1 at*
 generalize pcn (wrd c.2 2) 64=n2 at*
 generalize pcn (wrd c.2 3) 64=n3 at*
 have w0:IntKind.i64.wrap (0+(n0:Int))=(n0:Int):=by rw[qf]<;>omega
 have w1:IntKind.i64.wrap ((n0:Int)+(n1:Int))=(n0:Int)+(n1:Int):=by rw[qf]<;>omega
 have w2:IntKind.i64.wrap ((n0:Int)+(n1:Int)+(n2:Int))=(n0:Int)+(n1:Int)+(n2:Int):=by rw[qf]<;>omega
 have w3:IntKind.i64.wrap ((n0:Int)+(n1:Int)+(n2:Int)+(n3:Int))=((n0+n1+n2+n3:Nat):Int):=by rw[qf]<;>omega
 have w00:IntKind.i64.wrap (n0:Int)=(n0:Int):=by rw[qf]<;>omega
 have cn:qg 5 (.agg (Cc c))=some (Cc c):=rfl
 have gn:getN (Cc c) 1 4=some [.sc (.int .u64 (wrd c.2 0:Nat)),.sc (.int .u64 (wrd c.2 1:Nat)),.sc (.int .u64 (wrd c.2 2:Nat)),.sc (.int .u64 (wrd c.2 3:Nat))]:=rfl
 have ca:∀a b c d:Int,js (.agg [.sc (.int .u64 a),.sc (.int .u64 b),.sc (.int .u64 c),.sc (.int .u64 d)])=some (.agg #[.int .u64 a,.int .u64 b,.int .u64 c,.int .u64 d]):=fun _ _ _ _=>rfl
 generalize((n0+n1+n2+n3:Nat):Int)=N at*
 have b4:B96_3 (.int .i64 N) (.agg [.sc (.int .u64 (wrd c.2 0:Nat)),.sc (.int .u64 (wrd c.2 1:Nat)),.sc (.int .u64 (wrd c.2 2:Nat)),.sc (.int .u64 (wrd c.2 3:Nat))]) (.int .i64 4) hp=some (.sc (.int .i64 N),hp):=by
  rw[B96_3_eq];simp
 generalize((wrd c.2 0:Nat):Int)=x0 at*
 generalize((wrd c.2 1:Nat):Int)=x1 at*
 generalize((wrd c.2 2:Nat):Int)=x2 at*
 generalize((wrd c.2 3:Nat):Int)=x3 at*
 have mr:List.map ro1 (Cc c)=Cc c:=rfl
 simp only[cmb,cn,mr,gn,Option.bind_some]
 simp
 rw[B96_3_eq]
 simp[ca,i0,o0,w00]
 rw[B96_3_eq]
 simp[ca,i1,o1,w1]
 rw[B96_3_eq]
 simp[ca,i2,o2,w2]
 rw[B96_3_eq]
 simp[ca,i3,o3,w3,b4]
theorem runs_loop(c:Nat×Nat)(hp:Hp):∀(f i:Nat),i+f=256->B135_4 (.int .i64 (rcn c.2 i:Nat)) (.bool (decide (0<i)&&c.2.testBit (i-1))) (.int .i64 (i:Int)) (Cc c) hp=some (.sc (.int .i64 (rcn c.2 256:Nat)),hp):=by
 intro f
 induction f with
 |zero=>
  intro i h
  have e:i=256:=by omega
  subst e
  rw[B135_4_eq]
  simp
 | succ f ih=>
  intro i h
  have hi:=ih (i+1) (by omega)
  have hh:=run_chas c i (by omega) hp0
  have w1:IntKind.u8.wrap (i:Int)=(i:Int):=zo (by omega) (by omega)
  have w2:IntKind.i64.wrap ((i:Int)+1)=((i+1:Nat):Int):=by rw[qf]<;>omega
  have gn:getN (Cc c) 0 5=some (Cc c):=rfl
  have hlt:(i:Int)<256:=by omega
  have hr:=rcn_le c.2 i
  have hr2:=yy c.2 i
  have e1:rcn c.2 (i+1)=rcn c.2 i+(c.2.testBit i&&!(decide (0<i)&&c.2.testBit (i-1))).toNat:=rfl
  have e2:(decide (0<i+1)&&c.2.testBit (i+1-1))=c.2.testBit i:=by simp
  rw[e1,e2]at hi
  have b9:∀n:Int,B135_9 (.int .i64 n) (.bool (c.2.testBit i)) (.int .i64 (i:Int)) (Cc c) hp=B135_4 (.int .i64 n) (.bool (c.2.testBit i)) (.int .i64 ((i+1:Nat):Int)) (Cc c) hp:=by
   intro n
   rw[B135_9_eq]
   generalize((i+1:Nat):Int)=I at*
   simp[w2]
  have w3:IntKind.i64.wrap ((rcn c.2 i:Int)+1)=((rcn c.2 i+1:Nat):Int):=by rw[qf]<;>omega
  have mr:List.map ro1 (Cc c)=Cc c:=rfl
  rw[B135_4_eq]
  generalize rcn c.2 i=R at*
  generalize(decide (0<i)&&c.2.testBit (i-1))=was at*
  generalize hI:((i+1:Nat):Int)=I at*
  cases hb:c.2.testBit i
  ·rw[hb]at hi hh b9
   have hi':B135_4 (.int .i64 (R:Nat)) (.bool false) (.int .i64 I) (Cc c) hp=some (.sc (.int .i64 (rcn c.2 256:Nat)),hp):=hi
   simp[hlt,gn,mr,zD,w1,hh,b9,hi']
  ·rw[hb]at hi hh b9
   cases was
   ·have hi':B135_4 (.int .i64 ((R+1:Nat):Int)) (.bool true) (.int .i64 I) (Cc c) hp=some (.sc (.int .i64 (rcn c.2 256:Nat)),hp):=hi
    generalize((R+1:Nat):Int)=R1 at*
    simp[hlt,gn,mr,zD,w1,hh,B135_8_eq,w3,b9,hi']
   ·have hi':B135_4 (.int .i64 (R:Nat)) (.bool true) (.int .i64 I) (Cc c) hp=some (.sc (.int .i64 (rcn c.2 256:Nat)),hp):=hi
    simp[hlt,gn,mr,zD,w1,hh,b9,hi']
theorem run_runs(c:Nat×Nat)(hp:Hp):run cxX 135 [.agg (Cc c)] hp=some (.sc (.int .i64 (rcn c.2 256:Nat)),hp):=by
 have h:=runs_loop c hp 256 0 rfl
 have e:(decide (0<0)&&c.2.testBit (0-1))=false:=rfl
 rw[e]at h
 have e2:rcn c.2 0=0:=rfl
 rw[e2]at h
 rw[E135]
 have cn:qg 5 (.agg (Cc c))=some (Cc c):=rfl
 have mr:List.map ro1 (Cc c)=Cc c:=rfl
 simp only[cmb,cn,mr,Option.bind_some]
 exact h
theorem run_best(c:Nat×Nat)(hp:Hp):run cxX 134 [.agg (Cc c)] hp=some (.sc (.int .u8 (kind c.2:Nat)),hp):=by
 have m:=run_many c hp0
 have r:=run_runs c hp0
 have h1:=yy c.2 256
 have h2:=rcn_le c.2 256
 have cn:qg 5 (.agg (Cc c))=some (Cc c):=rfl
 have gn:getN (Cc c) 0 5=some (Cc c):=rfl
 have mr:List.map ro1 (Cc c)=Cc c:=rfl
 rw[E134]
 unfold kind
 generalize pcn c.2 256=n at*
 generalize rcn c.2 256=k at*
 obtain⟨A,hA⟩:∃A:Int,A=(n:Int)+1:=⟨_,rfl⟩
 obtain⟨T,hT⟩:∃T:Int,T=2*(k:Int):=⟨_,rfl⟩
 obtain⟨B,hB⟩:∃B:Int,B=2*(k:Int)+1:=⟨_,rfl⟩
 have w1:IntKind.i64.wrap ((n:Int)+1)=A:=by rw[qf]<;>omega
 have w2:IntKind.i64.wrap (2*(k:Int))=T:=by rw[qf]<;>omega
 have w3:IntKind.i64.wrap (T+1)=B:=by rw[qf]<;>omega
 have b3:B134_3 hp=some (.sc (.int .u8 0),hp):=by rw[B134_3_eq];simp
 have b4:B134_4 (.int .i64 B) hp=some (.sc (.int .u8 ((if 32<=2*k+1 then 1 else 2:Nat):Int)),hp):=by
  rw[B134_4_eq]
  by_cases h:32<=2*k+1
  ·have h':(32:Int)<=B:=by omega
   rw[if_pos h]
   simp[h']
  ·have h':¬((32:Int)<=B):=by omega
   rw[if_neg h]
   simp[h']
 by_cases d1:n+1<=32
 ·have c1:A<=32:=by omega
  by_cases d2:n+1<=2*k+1
  ·have c2:A<=B:=by omega
   rw[if_pos ⟨d1,d2⟩]
   simp[mr,gn,m,w1,r,w2,w3,c1,c2,b3]
  ·have c2:¬(A<=B):=by omega
   rw[if_neg (fun h=>d2 h.2)]
   simp[mr,gn,m,w1,r,w2,w3,c1,c2]
   simp at b4
   exact b4
 ·have c1:¬(A<=32):=by omega
  rw[if_neg (fun h=>d1 h.1)]
  simp[mr,gn,m,w1,r,w2,w3,c1]
  simp at b4
  exact b4
theorem cput_arr(c:Nat×Nat)(w:Nat):∀(f i:Nat) (Z:List Int) (hp:Hp),i+f=256->Z.length+f<=1000000->hp.rd w 0=some (Wc Z)->
  B81_17 (.ptr w 0 0) (.int .i64 (i:Int)) (Cc c) hp=some (.tup [],hp.put w 0 (Wc (Z++arrF c.2 f i))):=by
 intro f
 induction f with
 |zero=>
  intro i Z hp h hZ hw
  have e:i=256:=by omega
  subst e
  rw[B81_17_eq]
  simp[arrF,zd hw]
 | succ f ih=>
  intro i Z hp h hZ hw
  have hh:=run_chas c i (by omega) hp0
  have w1:IntKind.u8.wrap (i:Int)=(i:Int):=zo (by omega) (by omega)
  have w2:IntKind.i64.wrap ((i:Int)+1)=((i+1:Nat):Int):=by rw[qf]<;>omega
  have gn:getN (Cc c) 0 5=some (Cc c):=rfl
  have hlt:(i:Int)<256:=by omega
  have b21:∀hp',B81_21 (.ptr w 0 0) (.int .i64 (i:Int)) (Cc c) hp'=B81_17 (.ptr w 0 0) (.int .i64 ((i+1:Nat):Int)) (Cc c) hp':=by
   intro hp'
   rw[B81_21_eq]
   generalize((i+1:Nat):Int)=I at*
   simp[w2]
  have mr:List.map ro1 (Cc c)=Cc c:=rfl
  rw[B81_17_eq]
  unfold arrF
  cases hb:c.2.testBit i
  ·rw[hb]at hh
   have hi:=ih (i+1) Z hp (by omega) (by omega) hw
   rw[<-b21]at hi
   simp[hlt,gn,mr,zD,w1,hh,hi]
  ·rw[hb]at hh
   have wb:=zt w Z (i:Int) (by omega) hp hw
   have hi:=ih (i+1) (Z++[(i:Int)]) (hp.put w 0 (Wc (Z++[(i:Int)]))) (by omega) (by simp;omega) (qh _ _ _)
   rw[qj,List.append_assoc,<-b21]at hi
   have e1:[(i:Int)]++arrF c.2 f (i+1)=(i:Int)::arrF c.2 f (i+1):=rfl
   rw[e1]at hi
   generalize arrF c.2 f (i+1)=AA at*
   simp[hlt,gn,mr,hh,zD,w1,wb]
   exact hi
theorem wrd_byte(m i:Nat):(wrd m (i/8)/2^(8*(i%8)))%256=m/2^(8*i)%256:=by
 apply Nat.eq_of_testBit_eq
 intro j
 have e:(256:Nat)=2^8:=rfl
 have e2:(18446744073709551616:Nat)=2^64:=rfl
 unfold wrd
 rw[e,e2,Nat.testBit_mod_two_pow,Nat.testBit_mod_two_pow,Nat.testBit_div_two_pow,Nat.testBit_div_two_pow,Nat.testBit_mod_two_pow,Nat.testBit_div_two_pow]
 by_cases hj:j<8
 ·have h1:j+8*(i%8)<64:=by omega
  have h2:j+8*(i%8)+64*(i/8)=j+8*i:=by omega
  simp only[hj,h1,decide_true,Bool.true_and]
  rw[h2]
 ·simp[hj]
theorem cput_bmp(c:Nat×Nat)(w:Nat):∀(f i:Nat) (Z:List Int) (hp:Hp),i+f=32->Z.length+f<=1000000->hp.rd w 0=some (Wc Z)->
  B81_24 (.ptr w 0 0) (.int .i64 (i:Int)) (Cc c) hp=some (.tup [],hp.put w 0 (Wc (Z++bmpF c.2 f i))):=by
 intro f
 induction f with
 |zero=>
  intro i Z hp h hZ hw
  have e:i=32:=by omega
  subst e
  rw[B81_24_eq]
  simp[bmpF,zd hw]
 | succ f ih=>
  intro i Z hp h hZ hw
  have q:=quo8 i (by omega)
  have r:=rem8 i
  have ix:idx 4 (.int .i64 ((i/8:Nat):Int))=some (i/8):=zm .i64 (by omega)
  have g:=getSc_Cc c (i/8) (by omega)
  have w1:IntKind.i64.wrap (8*((i%8:Nat):Int))=((8*(i%8):Nat):Int):=by rw[qf]<;>omega
  have s:=fun t o o'=>jO .u64 (wrd c.2 (i/8)) (8*(i%8)) (by show 8*(i%8)<=64;omega) t o o' .i64
  have w2:IntKind.i64.wrap ((i:Int)+1)=((i+1:Nat):Int):=by rw[qf]<;>omega
  have hlt:(i:Int)<32:=by omega
  have wdb:=wrd_byte c.2 i
  have w3:IntKind.u8.wrap ((wrd c.2 (i/8)/2^(8*(i%8)):Nat):Int)=((c.2/2^(8*i)%256:Nat):Int):=by
   rw[yo,<-wdb]
   omega
  have wb:=zt w Z ((c.2/2^(8*i)%256:Nat):Int) (by omega) hp hw
  have hi:=ih (i+1) (Z++[((c.2/2^(8*i)%256:Nat):Int)]) (hp.put w 0 (Wc (Z++[((c.2/2^(8*i)%256:Nat):Int)]))) (by omega) (by simp;omega) (qh _ _ _)
  rw[qj,List.append_assoc]at hi
  have e:bmpF c.2 (f+1) i=[((c.2/2^(8*i)%256:Nat):Int)]++bmpF c.2 f (i+1):=rfl
  rw[e,<-hi,B81_24_eq]
  generalize((c.2/2^(8*i)%256:Nat):Int)=y at*
  generalize((wrd c.2 (i/8)/2^(8*(i%8)):Nat):Int)=x at*
  generalize((wrd c.2 (i/8):Nat):Int)=x0 at*
  generalize((8*(i%8):Nat):Int)=x1 at*
  generalize((i%8:Nat):Int)=x2 at*
  generalize((i/8:Nat):Int)=x3 at*
  generalize((i+1:Nat):Int)=x4 at*
  have g':qe (Cc c) (1+i/8)=some (.int .u64 x0):=by have:=g;simpa using this
  simp[hlt,q,ix,g',r,w1,s,cv_76_5,w3,wb,w2]
theorem cput_end(c:Nat×Nat)(w:Nat)(i0:Nat):∀(f i:Nat) (hp:Hp),i+f=255->B81_11 (.ptr w 0 0) (.int .i64 (i:Int)) (.int .i64 (i0:Int)) (Cc c) hp=
  B81_13 (.ptr w 0 0) (.int .i64 (rend c.2 f i:Nat)) (.int .i64 (i0:Int)) (Cc c) hp:=by
 intro f
 induction f with
 |zero=>
  intro i hp h
  have e:i=255:=by omega
  subst e
  rw[B81_11_eq]
  simp[rend]
 | succ f ih=>
  intro i hp h
  have hh:=run_chas c (i+1) (by omega) hp0
  have w1:IntKind.u8.wrap ((i+1:Nat):Int)=((i+1:Nat):Int):=zo (by omega) (by omega)
  have w2:IntKind.i64.wrap ((i:Int)+1)=((i+1:Nat):Int):=by rw[qf]<;>omega
  have gn:getN (Cc c) 0 5=some (Cc c):=rfl
  have hlt:(i:Int)<255:=by omega
  have hi:=ih (i+1) hp (by omega)
  rw[B81_11_eq]
  unfold rend
  have mr:List.map ro1 (Cc c)=Cc c:=rfl
  generalize((i+1:Nat):Int)=I at*
  cases hb:c.2.testBit (i+1)
  ·rw[hb]at hh
   simp[hlt,gn,mr,w2,zD,w1,hh]
  ·rw[hb]at hh
   simp[hlt,gn,mr,w2,zD,w1,hh,B81_12_eq,hi]
theorem cput_runs(c:Nat×Nat)(w:Nat):∀(f i:Nat) (Z:List Int) (hp:Hp),256<=i+f->i<=256->Z.length+2*f<=1000000->hp.rd w 0=some (Wc Z)->
  B81_7 (.ptr w 0 0) (.int .i64 (i:Int)) (Cc c) hp=some (.tup [],hp.put w 0 (Wc (Z++rnF c.2 f i))):=by
 intro f
 induction f with
 |zero=>
  intro i Z hp h hi256 hZ hw
  have e:i=256:=by omega
  subst e
  rw[B81_7_eq]
  simp[rnF,zd hw]
 | succ f ih=>
  intro i Z hp h hi256 hZ hw
  unfold rnF
  by_cases h1:256<=i
  ·have hlt:¬((i:Int)<256):=by omega
   rw[if_pos h1,B81_7_eq]
   simp[hlt,zd hw]
  ·have hlt:(i:Int)<256:=by omega
   have hh:=run_chas c i (by omega) hp0
   have w1:IntKind.u8.wrap (i:Int)=(i:Int):=zo (by omega) (by omega)
   have gn:getN (Cc c) 0 5=some (Cc c):=rfl
   have b8:∀(j:Nat) hp',j<=255->B81_8 (.ptr w 0 0) (.int .i64 (j:Int)) (Cc c) hp'=B81_7 (.ptr w 0 0) (.int .i64 ((j+1:Nat):Int)) (Cc c) hp':=by
    intro j hp' hj
    have w2:IntKind.i64.wrap ((j:Int)+1)=((j+1:Nat):Int):=by rw[qf]<;>omega
    rw[B81_8_eq]
    generalize((j+1:Nat):Int)=I at*
    simp[w2]
   have mr:List.map ro1 (Cc c)=Cc c:=rfl
   rw[if_neg h1,B81_7_eq]
   cases hb:c.2.testBit i
   ·rw[hb]at hh
    have hi:=ih (i+1) Z hp (by omega) (by omega) (by omega) hw
    have b8':=b8 i hp (by omega)
    rw[<-b8']at hi
    simp[hlt,gn,mr,zD,w1,hh]
    exact hi
   ·rw[hb]at hh
    have ce:=cput_end c w i (255-i) i hp (by omega)
    obtain⟨r1,r2,r3,r4⟩:=rend_ok c.2 (255-i) i
    have b8':=fun hp'=>b8 (rend c.2 (255-i) i) hp' (by omega)
    generalize rend c.2 (255-i) i=e at*
    have w3:IntKind.i64.wrap ((e:Int)-(i:Int))=((e-i:Nat):Int):=by rw[qf]<;>omega
    have w4:IntKind.u8.wrap ((e-i:Nat):Int)=((e-i:Nat):Int):=zo (by omega) (by omega)
    have wp:=xm w Z [(i:Int),((e-i:Nat):Int)] 0 (by simp;omega) hp hw
    have hi:=ih (e+1) (Z++[(i:Int),((e-i:Nat):Int)]) (hp.put w 0 (Wc (Z++[(i:Int),((e-i:Nat):Int)]))) (by omega) (by omega) (by simp;omega) (qh _ _ _)
    rw[qj,List.append_assoc]at hi
    have b13:B81_13 (.ptr w 0 0) (.int .i64 (e:Int)) (.int .i64 (i:Int)) (Cc c) hp=some (.tup [],hp.put w 0 (Wc (Z++([(i:Int),((e-i:Nat):Int)]++rnF c.2 f (e+1))))):=by
     rw[B81_13_eq,<-hi,<-b8']
     generalize((e-i:Nat):Int)=d at*
     have eS:S 0 1 (LI .u8 [(i:Int),d])=AV.sl 1 [.sc (.int .u8 (i:Int)),.sc (.int .u8 d)]:=rfl
     rw[eS]at wp
     simp[zD,w1,w3,w4,okV]
     simp at wp
     simp[wp]
    simp[hlt,gn,mr,zD,w1,hh,ce]
    simpa using b13
theorem kind_lt(m:Nat):kind m<=2:=by
 unfold kind
 split
 ·omega
 ·split<;>omega
theorem run_cput(c:Nat×Nat)(w:Nat)(hc:okC c)(Z:List Int)(hZ:Z.length<=900000)(hp:Hp)(hw:hp.rd w 0=some (Wc Z)):
  run cxX 81 [.agg (Cc c),.ptr w 0 0] hp=some (.tup [],hp.put w 0 (Wc (Z++chkY c))):=by
 have cn:qg 5 (.agg (Cc c))=some (Cc c):=rfl
 have gn:getN (Cc c) 0 5=some (Cc c):=rfl
 have gs:qe (Cc c) 0=some (.int .u32 (c.1:Int)):=rfl
 have mr:List.map ro1 (Cc c)=Cc c:=rfl
 have bk:=run_best c hp0
 have bm:=run_many c hp0
 have br:=run_runs c hp0
 have h16:=hc.1
 have w1:IntKind.u64.wrap (c.1:Int)=(c.1:Int):=qr (by omega) (by omega)
 have hu:=qx (n:=c.1) (by omega)
 have u1:=qZ w c.1 Z (by omega) (by omega) hp hw
 have u2:=zt w (Z++uv c.1) ((kind c.2:Nat):Int) (by simp;omega) (hp.put w 0 (Wc (Z++uv c.1))) (qh _ _ _)
 rw[qj]at u2
 have c1:=yy c.2 256
 have c2:=rcn_le c.2 256
 have c3:=rcn_pos hc.2.2
 have c4:=hc.2.2
 have hZ2:(Z++uv c.1++[((kind c.2:Nat):Int)]).length<=900011:=by simp;omega
 have eY:Z++chkY c=Z++uv c.1++[((kind c.2:Nat):Int)]++bodY c.2:=by unfold chkY;simp
 rw[eY,E81]
 generalize hZ3:Z++uv c.1++[((kind c.2:Nat):Int)]=Z3 at*
 simp only[cmb,cn,Option.bind_some]
 have k3:=kind_lt c.2
 unfold bodY
 by_cases k0:kind c.2=0
 ·rw[k0]at u2 bk
  rw[if_pos k0]
  have w2:IntKind.i64.wrap ((pcn c.2 256:Nat)-1:Int)=((pcn c.2 256-1:Nat):Int):=by rw[qf]<;>omega
  have w3:IntKind.u8.wrap ((pcn c.2 256-1:Nat):Int)=((pcn c.2 256-1:Nat):Int):=zo (by omega) (by omega)
  have u3:=zt w Z3 ((pcn c.2 256-1:Nat):Int) (by omega) (hp.put w 0 (Wc Z3)) (qh _ _ _)
  rw[qj]at u3
  have a:=cput_arr c w 256 0 (Z3++[((pcn c.2 256-1:Nat):Int)]) (hp.put w 0 (Wc (Z3++[((pcn c.2 256-1:Nat):Int)]))) rfl (by simp;omega) (qh _ _ _)
  rw[qj,List.append_assoc]at a
  have e:[((pcn c.2 256-1:Nat):Int)]++arrF c.2 256 0=((pcn c.2 256-1:Nat):Int)::arrF c.2 256 0:=rfl
  rw[e]at a
  generalize((pcn c.2 256-1:Nat):Int)=n1 at*
  generalize arrF c.2 256 0=A at*
  simp at u2 a bk
  simp[mr,gn,gs,bk,zx,w1,u1,u2,bm,w2,w3,zD,u3]
  exact a
 ·by_cases k1:kind c.2=1
  ·rw[k1]at u2 bk
   rw[if_neg k0,if_pos k1]
   have a:=cput_bmp c w 32 0 Z3 (hp.put w 0 (Wc Z3)) rfl (by omega) (qh _ _ _)
   rw[qj]at a
   simp at u2 a bk
   simp[mr,gn,gs,bk,zx,w1,u1,u2]
   exact a
  ·have k2:kind c.2=2:=by omega
   rw[k2]at u2 bk
   rw[if_neg k0,if_neg k1]
   have w2:IntKind.i64.wrap ((rcn c.2 256:Nat)-1:Int)=((rcn c.2 256-1:Nat):Int):=by rw[qf]<;>omega
   have w3:IntKind.u8.wrap ((rcn c.2 256-1:Nat):Int)=((rcn c.2 256-1:Nat):Int):=zo (by omega) (by omega)
   have u3:=zt w Z3 ((rcn c.2 256-1:Nat):Int) (by omega) (hp.put w 0 (Wc Z3)) (qh _ _ _)
   rw[qj]at u3
   have a:=cput_runs c w 256 0 (Z3++[((rcn c.2 256-1:Nat):Int)]) (hp.put w 0 (Wc (Z3++[((rcn c.2 256-1:Nat):Int)]))) (by omega) (by omega) (by simp;omega) (qh _ _ _)
   rw[qj,List.append_assoc]at a
   have e:[((rcn c.2 256-1:Nat):Int)]++rnF c.2 256 0=((rcn c.2 256-1:Nat):Int)::rnF c.2 256 0:=rfl
   rw[e]at a
   generalize((rcn c.2 256-1:Nat):Int)=n1 at*
   generalize rnF c.2 256 0=A at*
   simp at u2 a bk
   simp[mr,gn,gs,bk,zx,w1,u1,u2,br,w2,w3,zD,u3]
   exact a
def csL(cs:List (Nat×Nat)):List AV:=cs.flatMap Cc
@[simp] theorem jh (cs : List (Nat × Nat)) : (csL cs).length = 5 * cs.length := by
 induction cs with
 |nil=>rfl
 |cons c r ih=>
  have e:csL (c::r)=Cc c++csL r:=rfl
  rw[e,List.length_append,ih,List.length_cons]
  show 5+5*r.length=5*(r.length+1)
  omega
theorem csL_app(a b:List (Nat×Nat)):csL (a++b)=csL a++csL b:=by simp[csL]
theorem csL_nil{cs:List (Nat×Nat)}(h:csL cs=[]):cs=[]:=by
 have h1:=congrArg List.length h
 rw[jh]at h1
 exact List.length_eq_zero_iff.mp (by have:([]:List AV).length=0:=rfl;omega)
theorem csL_get:∀(cs:List (Nat×Nat)) (i:Nat) (c:Nat×Nat),cs[i]?=some c->((csL cs).drop (i*5)).take 5=Cc c:=by
 intro cs
 induction cs with
 |nil=>intro i c h;cases h
 | cons d r ih=>
  intro i c h
  have e:csL (d::r)=Cc d++csL r:=rfl
  cases i with
  |zero=>
   have:d=c:=by simpa using h
   subst this
   rfl
  |succ i=>
   have h2:=ih i c (by simpa using h)
   have e2:(i+1)*5=5+i*5:=by omega
   have l5:(Cc d).length=5:=rfl
   rw[e,e2,<-h2,List.drop_append,l5,List.drop_eq_nil_of_le (by rw[l5];omega),List.nil_append]
   congr 2
   omega
theorem csL_ro(cs:List (Nat×Nat)):(csL cs).map ro1=csL cs:=by
 induction cs with
 |nil=>rfl
 |cons c r ih=>
  have e:csL (c::r)=Cc c++csL r:=rfl
  rw[e,List.map_append,ih]
  rfl
theorem csL_vl(cs:List (Nat×Nat)):(csL cs).all vl=true:=by
 induction cs with
 |nil=>rfl
 |cons c r ih=>
  have e:csL (c::r)=Cc c++csL r:=rfl
  rw[e,List.all_append,ih]
  rfl
theorem lenA_5(k:Nat)(cs:List (Nat×Nat)):lenA (S k 5 (csL cs))=some cs.length:=by
 rcases zB k 5 (csL cs)with e|e|⟨e,e'⟩
 ·rw[e];show some ((csL cs).length/5)=_;rw[jh];congr 1;omega
 ·rw[e];show some ((csL cs).length/5)=_;rw[jh];congr 1;omega
 ·rw[e,csL_nil e'];rfl
theorem idxA_5(k:Nat)(cs:List (Nat×Nat))(i:Nat)(c:Nat×Nat)(h:cs[i]?=some c):idxA 5 (S k 5 (csL cs)) (.int .i64 (i:Int))=some (Cc c):=by
 have hi:=(List.getElem?_eq_some_iff.mp h).1
 have key:(idx ((csL cs).length/5) (.int .i64 (i:Int))).bind (fun i=>getN (csL cs) (i*5) 5)=some (Cc c):=by
  have e:(csL cs).length/5=cs.length:=by rw[jh];omega
  rw[e,zm .i64 hi,Option.bind_some]
  unfold getN
  rw[if_pos (by rw[jh];omega),csL_get cs i c h]
 rcases zB k 5 (csL cs)with e|e|⟨e,e'⟩
 ·rw[e];exact key
 ·rw[e];exact key
 ·rw[csL_nil e']at h;cases h
theorem chkY_len{c:Nat×Nat}(hc:okC c):(chkY c).length<=60:=by
 have h1:=qx (n:=c.1) (by have:=hc.1;omega)
 unfold chkY bodY
 have a:=arrF_len0 c.2
 have b:=rnF_len0 c.2
 have k3:=kind_lt c.2
 rw[List.length_append,List.length_cons]
 by_cases k0:kind c.2=0
 ·rw[if_pos k0,List.length_cons,a]
  unfold kind at k0
  split at k0
  ·rename_i h;omega
  ·split at k0<;>omega
 ·rw[if_neg k0]
  by_cases k1:kind c.2=1
  ·rw[if_pos k1,bmpF_len];omega
  ·rw[if_neg k1,List.length_cons,b]
   unfold kind at k0 k1
   split at k0
   ·omega
   ·rename_i h
    rw[if_neg h]at k1
    split at k1
    ·omega
    ·omega
theorem sput_loop(cs:List (Nat×Nat))(k w:Nat)(hcs:∀c∈cs,okC c)(hl:cs.length<=4096):∀(r:List (Nat×Nat)) (i:Nat) (Z:List Int) (hp:Hp),cs.drop i=r->Z.length+60*r.length<=900000->hp.rd w 0=some (Wc Z)->
  B33_2 (.ptr w 0 0) (S k 5 (csL cs)) (.int .i64 (cs.length:Int)) (.int .i64 (i:Int)) hp=some (.tup [],hp.put w 0 (Wc (Z++rowY r))):=by
 intro r
 induction r with
 |nil=>
  intro i Z hp h hZ hw
  have h1:=qt h
  have hlt:¬((i:Int)<(cs.length:Int)):=by omega
  rw[B33_2_eq]
  simp[hlt,rowY,zd hw]
 |cons c r ih=>
  intro i Z hp h hZ hw
  obtain⟨e1,e2,hi,e3⟩:=ql h
  simp only[List.length_cons]at hZ
  have hlt:(i:Int)<(cs.length:Int):=by omega
  have ix:=idxA_5 k cs i c e1
  have hc:okC c:=hcs c (by rw[<-e3];exact List.getElem_mem _)
  have cp:=run_cput c w hc Z (by omega) hp hw
  have hcl:=chkY_len hc
  have w2:IntKind.i64.wrap ((i:Int)+1)=((i+1:Nat):Int):=by rw[qf]<;>omega
  have hn:=ih (i+1) (Z++chkY c) (hp.put w 0 (Wc (Z++chkY c))) e2 (by simp;omega) (qh _ _ _)
  rw[qj,List.append_assoc]at hn
  have gn:getN (Cc c) 0 5=some (Cc c):=rfl
  have cn:qg 5 (.agg (Cc c))=some (Cc c):=rfl
  have mr:List.map ro1 (Cc c)=Cc c:=rfl
  have pn:∀a b c' d e:Value,putN [.sc a,.sc b,.sc c',.sc d,.sc e] 0 (Cc c)=some (Cc c):=fun _ _ _ _ _=>rfl
  have e:rowY (c::r)=chkY c++rowY r:=rfl
  rw[e,<-hn,B33_2_eq]
  generalize((i+1:Nat):Int)=I at*
  simp only[cmb,binV_lss,hlt,decide_true,zN,Option.bind_some,cond_true,ix,gn,cn,pn,mr]
  have r0:ro (AV.ptr w 0 0)=AV.ptr w 0 0:=rfl
  have ra:ro (.agg (Cc c))= .agg (Cc c):=rfl
  simp only[cmb,mr,cn,pn,gn,Option.bind_some,r0,ra,cp]
  simp[w2]
theorem run_sput(cs:List (Nat×Nat))(k w:Nat)(hcs:∀c∈cs,okC c)(hl:cs.length<=4096)(Z:List Int)(hZ:Z.length<=100000)(hp:Hp)(hw:hp.rd w 0=some (Wc Z)):
  run cxX 33 [S k 5 (csL cs),.ptr w 0 0] hp=some (.tup [],hp.put w 0 (Wc (Z++roaY cs))):=by
 have hu:=qx (n:=cs.length) (by omega)
 have u1:=qZ w cs.length Z (by omega) (by omega) hp hw
 have a:=sput_loop cs (rk k) w hcs hl cs 0 (Z++uv cs.length) (hp.put w 0 (Wc (Z++uv cs.length))) rfl (by simp;omega) (qh _ _ _)
 rw[qj,List.append_assoc]at a
 have w1:IntKind.u64.wrap (cs.length:Int)=(cs.length:Int):=qr (by omega) (by omega)
 rw[E33]
 have l5:=fun k=>lenA_5 k cs
 simp at a
 simp[l5,jM,w1,u1,a,roaY]
def yq(x:Nat):List (Nat×Nat)->List (Nat×Nat)
 |[]=>[(x/256,2^(x%256))]
 |[c]=>if c.1=x/256 then [(c.1,c.2|||2^(x%256))]else [c,(x/256,2^(x%256))]
 |c::d::r=>c::yq x (d::r)
theorem put_snoc(x y:Nat):∀cs,putC y (yq x cs)=yq x (putC y cs):=by
 intro cs
 match cs with
 |[]=>
  show putC y [(x/256,2^(x%256))]=yq x [(y/256,2^(y%256))]
  rw[zF]
  show _=if y/256=x/256 then _ else _
  by_cases h:x/256=y/256
  ·rw[if_pos h,if_pos h.symm,h,Nat.or_comm]
  ·rw[if_neg h,if_neg (fun e=>h e.symm)]
 | [c]=>
  show putC y (if c.1=x/256 then [(c.1,c.2|||2^(x%256))]else [c,(x/256,2^(x%256))])=yq x (putC y [c])
  rw[zF]
  by_cases h1:c.1=x/256
  ·rw[if_pos h1,zF]
   by_cases h2:c.1=y/256
   ·rw[if_pos h2,if_pos h2]
    show _=if c.1=x/256 then _ else _
    rw[if_pos h1]
    show [(c.1,c.2|||2^(x%256)|||2^(y%256))]=[(c.1,c.2|||2^(y%256)|||2^(x%256))]
    rw[Nat.or_assoc,Nat.or_comm (2^(x%256)),<-Nat.or_assoc]
   ·rw[if_neg h2,if_neg h2]
    show _=_::(if c.1=x/256 then _ else _)
    rw[if_pos h1]
  ·rw[if_neg h1,zF]
   by_cases h2:c.1=y/256
   ·rw[if_pos h2,if_pos h2]
    show _=if c.1=x/256 then _ else _
    rw[if_neg h1]
   ·rw[if_neg h2,if_neg h2]
    show _=_::(if c.1=x/256 then _ else _)
    rw[if_neg h1]
 |c::d::r=>
  show putC y (c::yq x (d::r))=yq x (putC y (c::d::r))
  rw[zF,zF]
  split
  ·rfl
  ·rfl
theorem chs_snoc(x:Nat):∀l,chs (l++[x])=yq x (chs l):=by
 intro l
 induction l with
 |nil=>rfl
 |cons y r ih=>
  show putC y (chs (r++[x]))=yq x (putC y (chs r))
  rw[ih,put_snoc]
theorem snoc_app(x:Nat)(c:Nat×Nat):∀ds,yq x (ds++[c])=ds++(if c.1=x/256 then [(c.1,c.2|||2^(x%256))]else [c,(x/256,2^(x%256))]):=by
 intro ds
 induction ds with
 |nil=>rfl
 | cons d r ih=>
  cases r with
  |nil=>
   show d::yq x [c]=_
   rfl
  |cons e s=>
   show d::yq x (e::s++[c])=_
   rw[ih]
   rfl
theorem getSc_app(A L:List AV)(i:Nat):qe (A++L) (A.length+i)=qe L i:=by
 unfold qe
 rw[List.getElem?_append_right (by omega)]
 congr 2
 omega
theorem putN_app(A L M:List AV)(i:Nat)(vs:List AV)(h:putN L i vs=some M):putN (A++L) (A.length+i) vs=some (A++M):=by
 unfold putN at h⊢
 split at h
 ·rename_i hi
  rw[if_pos (by rw[List.length_append];omega)]
  have e:L.take i++vs++L.drop (i+vs.length)=M:=Option.some.inj h
  rw[<-e,List.take_append,List.take_of_length_le (by omega),List.drop_append,List.drop_eq_nil_of_le (by omega),List.nil_append]
  have e1:A.length+i-A.length=i:=by omega
  have e2:A.length+i+vs.length-A.length=i+vs.length:=by omega
  rw[e1,e2]
  simp
 ·cases h
theorem wrd_or(m i j:Nat)(hi:i<256):wrd (m|||2^i) j=if j=i/64 then wrd m j|||2^(i%64)else wrd m j:=by
 apply Nat.eq_of_testBit_eq
 intro k
 have e2:(18446744073709551616:Nat)=2^64:=rfl
 by_cases hj:j=i/64
 ·rw[if_pos hj]
  unfold wrd
  rw[e2,Nat.testBit_or,Nat.testBit_mod_two_pow,Nat.testBit_mod_two_pow,Nat.testBit_div_two_pow,Nat.testBit_div_two_pow,Nat.testBit_or,zq,zq]
  by_cases hk:k<64
  ·have e:(i=k+64*j)↔(i%64=k):=by omega
   simp only[hk,decide_true,Bool.true_and]
   congr 1
   exact decide_eq_decide.mpr e
  ·have:¬(i%64=k):=by omega
   simp[hk,this]
 ·rw[if_neg hj]
  unfold wrd
  rw[e2,Nat.testBit_mod_two_pow,Nat.testBit_mod_two_pow,Nat.testBit_div_two_pow,Nat.testBit_div_two_pow,Nat.testBit_or,zq]
  by_cases hk:k<64
  ·have:¬(i=k+64*j):=by omega
   simp[this]
  ·simp[hk]
theorem or64(x c:Nat)(hx:x<18446744073709551616)(hc:c<18446744073709551616)(t:TypeId)(o o':Operand):binV Tryz.prog .or t o o' (.int .u64 (x:Int)) (.int .u64 (c:Int))=some (.int .u64 ((x|||c:Nat):Int)):=by
 rw[ze]
 have hl:x|||c<2^64:=Nat.or_lt_two_pow hx hc
 have e:(BitVec.ofInt IntKind.u64.bits (x:Int)|||BitVec.ofInt IntKind.u64.bits (c:Int)).toNat=x|||c:=by
  show(BitVec.ofInt 64 (x:Int)|||BitVec.ofInt 64 (c:Int)).toNat=_
  rw[BitVec.ofInt_natCast,BitVec.ofInt_natCast,BitVec.toNat_or,BitVec.toNat_ofNat,BitVec.toNat_ofNat]
  rw[Nat.mod_eq_of_lt (by omega),Nat.mod_eq_of_lt (by omega)]
 rw[e,qr (by omega) (by omega)]
theorem shl1(k:Nat)(hk:k<64)(t:TypeId)(o o':Operand):binV Tryz.prog .shl t o o' (.int .u64 1) (.int .u8 (k:Int))=some (.int .u64 ((2^k:Nat):Int)):=by
 have hp:(2:Nat)^k<2^64:=Nat.pow_lt_pow_right (by decide) hk
 have e64:(2:Nat)^64=18446744073709551616:=rfl
 rw[zn _ _ _ _ _ _ _ _ (by omega),Int.toNat_natCast,Nat.min_eq_left (show k<=IntKind.u64.bits from Nat.le_of_lt hk),Int.one_mul]
 have e:(2:Int)^k=((2^k:Nat):Int):=by simp
 rw[e]
 generalize 2^k=z at*
 rw[qr (by omega) (by omega)]
theorem putN_Cc(c:Nat×Nat)(i:Nat)(hi:i<256):putN (Cc c) (1+i/64) [.sc (.int .u64 (wrd c.2 (i/64)|||2^(i%64):Nat))]=some (Cc (c.1,c.2|||2^i)):=by
 have h:i/64=0\/i/64=1\/i/64=2\/i/64=3:=by omega
 have w:=fun j=>wrd_or c.2 i j hi
 have e:Cc (c.1,c.2|||2^i)=[.sc (.int .u32 (c.1:Int)),.sc (.int .u64 (wrd (c.2|||2^i) 0:Nat)),.sc (.int .u64 (wrd (c.2|||2^i) 1:Nat)),.sc (.int .u64 (wrd (c.2|||2^i) 2:Nat)),.sc (.int .u64 (wrd (c.2|||2^i) 3:Nat))]:=rfl
 rw[e,w 0,w 1,w 2,w 3]
 rcases h with h|h|h|h<;>rw[h]<;>rfl
theorem run_chadd(ds:List (Nat×Nat))(c:Nat×Nat)(b i:Nat)(hi:i<256)(hp:Hp)(h:hp.rd b 0=some (csL (ds++[c]))):
  run cxX 80 [.ptr b 0 (5*ds.length),.sc (.int .u8 (i:Int))] hp=some (.tup [],hp.put b 0 (csL (ds++[(c.1,c.2|||2^i)]))):=by
 have s1:∀t o o',binV Tryz.prog .shr t o o' (.int .u8 (i:Int)) (.int .u64 6)=some (.int .u8 ((i/64:Nat):Int)):=fun t o o'=>jO .u8 i 6 (by decide) t o o' .u64
 have ix:idx 4 (.int .u8 ((i/64:Nat):Int))=some (i/64):=zm .u8 (by omega)
 have a:=and63 i hi
 have s2:=shl1 (i%64) (by omega)
 have h64:(2:Nat)^(i%64)<18446744073709551616:=Nat.pow_lt_pow_right (by decide) (show i%64<64 by omega)
 have o:=or64 (wrd c.2 (i/64)) (2^(i%64)) (wrd_lt _ _) h64
 have e1:csL (ds++[c])=csL ds++Cc c:=by rw[csL_app];simp[csL]
 have e2:csL (ds++[(c.1,c.2|||2^i)])=csL ds++Cc (c.1,c.2|||2^i):=by rw[csL_app];simp[csL]
 have g:=getSc_app (csL ds) (Cc c) (1+i/64)
 have g2:qe (Cc c) (1+i/64)=some (.int .u64 (wrd c.2 (i/64):Nat)):=by have:=getSc_Cc c (i/64) (by omega);simpa using this
 rw[g2]at g
 have p:=putN_app (csL ds) (Cc c) _ (1+i/64) _ (putN_Cc c i hi)
 have eo:(csL ds).length+(1+i/64)=5*ds.length+1+i/64:=by rw[jh];omega
 rw[eo]at g p
 rw[e1]at h
 rw[e2,E80]
 generalize csL ds++Cc c=L1 at*
 generalize csL ds++Cc (c.1,c.2|||2^i)=L2 at*
 generalize((wrd c.2 (i/64)|||2^(i%64):Nat):Int)=q3 at*
 generalize((wrd c.2 (i/64):Nat):Int)=q0 at*
 generalize((2^(i%64):Nat):Int)=q1 at*
 generalize((i%64:Nat):Int)=q2 at*
 generalize((i/64:Nat):Int)=q4 at*
 generalize 5*ds.length=N at*
 simp[s1,ix,h,g,a,s2,o,p,-qE,-ze]
def XC(nb:Nat)(cs:List (Nat×Nat)):AV:=if cs=[]then S 2 1 []else .ms nb 0 0 cs.length 5
def CH(h0:Nat)(hp:Hp)(nb:Nat)(cs:List (Nat×Nat)):Prop:=cs≠[]->nb<hp.next/\h0<=nb/\hp.rd nb 0=some (csL cs)
theorem many5(c:Nat×Nat):many 5 (Cc c)=1:=by simp[many]
theorem appM_c1(x:Nat)(hp:Hp):appM 40 5 (S 2 1 []) (.us 5 (Cc (x,0))) hp=some (.ms hp.next 0 0 1 5,hp.new (csL [(x,0)])):=by
 have hs:srcM hp 5 (.us 5 (Cc (x,0)))=some (Cc (x,0)):=rfl
 have hm:=many5 (x,0)
 unfold appM
 rw[hs]
 show(chk (isNil nil0=true/\fits 40 5 5=true)).bind (fun _=>some (AV.ms hp.next 0 0 (many 5 (Cc (x,0))) 5,hp.new (Cc (x,0))))=_
 rw[hm,chk_ok ⟨rfl,by decide⟩,Option.bind_some]
 rfl
theorem appM_c2(x b:Nat)(cs:List (Nat×Nat))(hl:cs.length<=100000)(hne:cs≠[])(hp:Hp)(hb:hp.rd b 0=some (csL cs)):
  appM 40 5 (.ms b 0 0 cs.length 5) (.us 5 (Cc (x,0))) hp=some (.ms hp.next 0 0 (cs.length+1) 5,(hp.del b).new (csL (cs++[(x,0)]))):=by
 have hpos:0<cs.length:=List.length_pos_iff.mpr hne
 have hs:srcM hp 5 (.us 5 (Cc (x,0)))=some (Cc (x,0)):=rfl
 have hf:fits 40 5 (cs.length*5+5)=true:=by
  unfold fits
  simp
  omega
 have e:((csL cs).take (cs.length*5)).map ro1++Cc (x,0)=csL (cs++[(x,0)]):=by
  rw[List.take_of_length_le (by rw[jh];omega),csL_ro,csL_app]
  simp[csL]
 unfold appM
 rw[hs]
 show(chk (5=5/\0=0/\0<cs.length)).bind _=_
 rw[chk_ok ⟨rfl,rfl,hpos⟩,Option.bind_some,hb,Option.bind_some]
 show(chk (cs.length*5<=(csL cs).length/\fits 40 5 (cs.length*5+5)=true)).bind _=_
 rw[chk_ok ⟨by rw[jh];omega,hf⟩,Option.bind_some]
 have hm:=many5 (x,0)
 show some (AV.ms hp.next 0 0 (cs.length+many 5 (Cc (x,0))) 5,(hp.del b).new (((csL cs).take (cs.length*5)).map ro1++Cc (x,0)))=_
 rw[e,hm]
theorem wrd_zero(j:Nat):wrd 0 j=0:=by unfold wrd;simp
theorem chs_len:∀l,(chs l).length<=l.length:=by
 intro l
 induction l with
 |nil=>exact Nat.le_refl _
 | cons x r ih=>
  show(putC x (chs r)).length<=_
  cases hq:chs r with
  |nil=>simp[putC]
  |cons c s=>
   rw[hq]at ih
   rw[zF]
   split<;>simp at ih⊢<;>omega
section
variable (l : List Nat) (k k' : Nat) (hl : l.length ≤ 4096) (h32 : ∀ x ∈ l, x < 4294967296) (hr : zb l)
theorem rof_12(h0 i x nb:Nat)(hx:x<4294967296)(cs:List (Nat×Nat))(hcl:cs.length<=5000)(ds:List (Nat×Nat))(c:Nat×Nat)(hcs:cs=ds++[c])(hp:Hp)(hC:CH h0 hp nb cs)(hi:i<5000):
  ∃hp',B32_12 (S k 1 (LI .u32 (nz l))) (XC nb cs) (.int .u32 (x:Int)) (S k' 1 (LI .u32 (nz l))) (.int .i64 (l.length:Int)) (.int .i64 (i:Int)) hp=
   B32_5 (S k 1 (LI .u32 (nz l))) (XC nb (ds++[(c.1,c.2|||2^(x%256))])) (S k' 1 (LI .u32 (nz l))) (.int .i64 (l.length:Int)) (.int .i64 ((i+1:Nat):Int)) hp'/\
   CH h0 hp' nb (ds++[(c.1,c.2|||2^(x%256))])/\hp.next<=hp'.next/\∀a,a<h0->hp'.get a=hp.get a:=by
 have hne:cs≠[]:=by rw[hcs];simp
 obtain⟨c1,c2,c3⟩:=hC hne
 rw[hcs]at c3
 have hlen:cs.length=ds.length+1:=by rw[hcs];simp
 have ca:=run_chadd ds c nb (x%256) (by omega) hp c3
 have eX:XC nb cs= .ms nb 0 0 (ds.length+1) 5:=by unfold XC;rw[if_neg hne,hlen]
 have eX2:XC nb (ds++[(c.1,c.2|||2^(x%256))])= .ms nb 0 0 (ds.length+1) 5:=by unfold XC;rw[if_neg (by simp)];simp
 have w1:IntKind.i64.wrap (((ds.length+1:Nat):Int)-1)=(ds.length:Int):=by rw[qf]<;>omega
 have ix:idx (ds.length+1) (.int .i64 (ds.length:Int))=some ds.length:=zm .i64 (by omega)
 have w2:IntKind.u8.wrap (x:Int)=((x%256:Nat):Int):=by rw[yo];rfl
 have w3:IntKind.i64.wrap ((i:Int)+1)=((i+1:Nat):Int):=by rw[qf]<;>omega
 refine⟨hp.put nb 0 (csL (ds++[(c.1,c.2|||2^(x%256))])),?_,fun _=>⟨c1,c2,qh _ _ _⟩,Nat.le_refl _,fun a ha=>?_⟩
 ·rw[eX,eX2,B32_12_eq]
  have o5:∀n:Nat,n+n+n+n+n=5*n:=fun n=>by omega
  generalize csL (ds++[(c.1,c.2|||2^(x%256))])=L at*
  generalize((x%256:Nat):Int)=y at*
  generalize((i+1:Nat):Int)=I at*
  have hln:lenA (.ms nb 0 0 (ds.length+1) 5)=some (ds.length+1):=rfl
  have hms:∀a b c d e,qR (.ms a b c d e)=some (a,b,c,d,e):=fun _ _ _ _ _=>rfl
  have w9:IntKind.i64.wrap (ds.length:Int)=(ds.length:Int):=qf (by omega) (by omega)
  simp only[Int.natCast_add,Int.natCast_one]at w1
  simp[hln,w1,w9,hms,ix,o5,cv_30_5,w2,ca,w3]
 ·have:a≠nb:=by omega
  simp[Hp.put,this]
theorem getLast_app:∀(cs:List (Nat×Nat)),cs≠[]->∃ds c,cs=ds++[c]:=by
 intro cs h
 exact⟨cs.dropLast,cs.getLast h,(List.dropLast_concat_getLast h).symm⟩
theorem rof_9(h0 i x nb:Nat)(hx:x<4294967296)(cs:List (Nat×Nat))(hcl:cs.length<=4096)(hp:Hp)(hh:h0<=hp.next)(hC:CH h0 hp nb cs)(hi:i<5000):
    ∃ hp' nb',B32_9 (S k 1 (LI .u32 (nz l))) (XC nb cs) (.int .u32 (x:Int)) (S k' 1 (LI .u32 (nz l))) (.int .i64 (l.length:Int)) (.int .i64 (i:Int)) hp=
      B32_5 (S k 1 (LI .u32 (nz l))) (XC nb' (yq x cs)) (S k' 1 (LI .u32 (nz l))) (.int .i64 (l.length:Int)) (.int .i64 ((i+1:Nat):Int)) hp'/\
      CH h0 hp' nb' (yq x cs)/\hp.next<=hp'.next/\∀a,a<h0->hp'.get a=hp.get a:=by
  have s8:∀t o o',binV Tryz.prog .shr t o o' (.int .u32 (x:Int)) (.int .u64 8)=some (.int .u32 ((x/256:Nat):Int)):=fun t o o'=>jO .u32 x 8 (by decide) t o o' .u64
  have hms:∀a b c d e,qR (.ms a b c d e)=some (a,b,c,d,e):=fun _ _ _ _ _=>rfl
  by_cases hne:cs=[]
  · subst hne
    have eX:XC nb []=S 2 1 []:=rfl
    have eX1:XC hp.next [(x/256,0)]= .ms hp.next 0 0 1 5:=rfl
    have ap:=appM_c1 (x/256) hp
    have hC2:CH h0 (hp.new (csL [(x/256,0)])) hp.next [(x/256,0)]:=fun _=>⟨Nat.lt_succ_self _,hh,qs _ _⟩
    obtain⟨hp',a1,a2,a3,a4⟩:=rof_12 l k k' h0 i x hp.next hx [(x/256,0)] (by simp) [] (x/256,0) rfl _ hC2 hi
    have ez:0|||2^(x%256)=2^(x%256):=Nat.zero_or _
    simp only[List.nil_append,ez]at a1 a2
    refine⟨hp',hp.next,?_,a2,by simp at a3;omega,fun a ha=>by
      rw[a4 a ha]
      have:a≠hp.next:=by omega
      simp[Hp.new,this]⟩
    have es:yq x []=[(x/256,2^(x%256))]:=rfl
    rw[es,<-a1,eX,eX1,B32_9_eq]
    have b11:B32_11 (S k 1 (LI .u32 (nz l))) (S 2 1 []) (.int .u32 (x:Int)) (S k' 1 (LI .u32 (nz l))) (.int .i64 (l.length:Int)) (.int .i64 (i:Int)) hp=
        B32_12 (S k 1 (LI .u32 (nz l))) (.ms hp.next 0 0 1 5) (.int .u32 (x:Int)) (S k' 1 (LI .u32 (nz l))) (.int .i64 (l.length:Int)) (.int .i64 (i:Int)) (hp.new (csL [(x/256,0)])):=by
      rw[B32_11_eq]
      have w0:∀j,wrd 0 j=0:=wrd_zero
      simp only[Cc,w0]at ap
      generalize csL [(x/256,0)]=L at*
      generalize((x/256:Nat):Int)=y at*
      simp at ap
      simp[s8,okV,ap]
    simp[b11]
  · obtain⟨ds,c,hcs⟩:=getLast_app cs hne
    have hlen:cs.length=ds.length+1:=by rw[hcs];simp
    obtain⟨c1,c2,c3⟩:=hC hne
    have eX:XC nb cs= .ms nb 0 0 (ds.length+1) 5:=by unfold XC;rw[if_neg hne,hlen]
    have w1:IntKind.i64.wrap (((ds.length+1:Nat):Int)-1)=(ds.length:Int):=by rw[qf]<;>omega
    have w9:IntKind.i64.wrap (ds.length:Int)=(ds.length:Int):=qf (by omega) (by omega)
    have ix:idx (ds.length+1) (.int .i64 (ds.length:Int))=some ds.length:=zm .i64 (by omega)
    have e1:csL cs=csL ds++Cc c:=by rw[hcs,csL_app];simp[csL]
    have g:=getSc_app (csL ds) (Cc c) 0
    rw[<-e1,jh,Nat.add_zero]at g
    have g0:qe (Cc c) 0=some (.int .u32 (c.1:Int)):=rfl
    rw[g0]at g
    have hln:lenA (.ms nb 0 0 (ds.length+1) 5)=some (ds.length+1):=rfl
    have o5:∀n:Nat,n+n+n+n+n=5*n:=fun n=>by omega
    have h0':¬(((ds.length+1:Nat):Int)=0):=by omega
    rw[hcs,snoc_app,<-hcs]
    by_cases hk:c.1=x/256
    · rw[if_pos hk]
      obtain⟨hp',a1,a2,a3,a4⟩:=rof_12 l k k' h0 i x nb hx cs (by omega) ds c hcs hp hC hi
      refine⟨hp',nb,?_,a2,a3,a4⟩
      rw[<-a1,eX,B32_9_eq]
      have hk':(c.1:Int)=((x/256:Nat):Int):=by omega
      rw[hk']at g
      generalize((x/256:Nat):Int)=y at*
      simp only[Int.natCast_add,Int.natCast_one]at w1 h0'
      simp[hln,h0',w1,w9,hms,ix,c3,o5,g,s8]
    · rw [if_neg hk]
      have ap:=appM_c2 (x/256) nb cs (by omega) hne hp c3
      have hC2:CH h0 ((hp.del nb).new (csL (cs++[(x/256,0)]))) hp.next (cs++[(x/256,0)]):=fun _=>⟨Nat.lt_succ_self _,hh,qs _ _⟩
      obtain⟨hp',a1,a2,a3,a4⟩:=rof_12 l k k' h0 i x hp.next hx (cs++[(x/256,0)]) (by simp;omega) cs (x/256,0) rfl _ hC2 hi
      have ez:0|||2^(x%256)=2^(x%256):=Nat.zero_or _
      simp only[ez]at a1 a2
      have ec:ds++[c,(x/256,2^(x%256))]=cs++[(x/256,2^(x%256))]:=by rw[hcs];simp
      rw[ec]
      refine⟨hp',hp.next,?_,a2,by simp[Hp.del]at a3;omega,fun a ha=>by
        rw[a4 a ha]
        exact(Fm.delNew (X:=[nb]) hp nb _ (by simp)).2 a (by omega) (by simp;omega)⟩
      have eX2:XC hp.next (cs++[(x/256,0)])= .ms hp.next 0 0 (cs.length+1) 5:=by unfold XC;rw[if_neg (by simp)];simp
      rw[<-a1,eX,eX2,B32_9_eq]
      rw[hlen]at ap⊢
      have b11:B32_11 (S k 1 (LI .u32 (nz l))) (.ms nb 0 0 (ds.length+1) 5) (.int .u32 (x:Int)) (S k' 1 (LI .u32 (nz l))) (.int .i64 (l.length:Int)) (.int .i64 (i:Int)) hp=
          B32_12 (S k 1 (LI .u32 (nz l))) (.ms hp.next 0 0 (ds.length+1+1) 5) (.int .u32 (x:Int)) (S k' 1 (LI .u32 (nz l))) (.int .i64 (l.length:Int)) (.int .i64 (i:Int)) ((hp.del nb).new (csL (cs++[(x/256,0)]))):=by
        rw[B32_11_eq]
        have w0:∀j,wrd 0 j=0:=wrd_zero
        simp only[Cc,w0]at ap
        generalize csL (cs++[(x/256,0)])=L at*
        generalize((x/256:Nat):Int)=y at*
        simp at ap
        simp[s8,okV,ap]
      have hk':¬((c.1:Int)=((x/256:Nat):Int)):=by omega
      generalize((x/256:Nat):Int)=y at*
      generalize(c.1:Int)=z at*
      simp only[Int.natCast_add,Int.natCast_one]at w1 h0'
      simp[hln,h0',w1,w9,hms,ix,c3,o5,g,s8,hk',b11]
include hl h32 hr
theorem rof_loop(h0:Nat):∀(r:List Nat) (i nb:Nat) (hp:Hp),l.drop i=r->i+r.length=l.length->h0<=hp.next->CH h0 hp nb (chs (l.take i))->
  ∃hp' nb',B32_5 (S k 1 (LI .u32 (nz l))) (XC nb (chs (l.take i))) (S k' 1 (LI .u32 (nz l))) (.int .i64 (l.length:Int)) (.int .i64 (i:Int)) hp=
   B32_5 (S k 1 (LI .u32 (nz l))) (XC nb' (chs l)) (S k' 1 (LI .u32 (nz l))) (.int .i64 (l.length:Int)) (.int .i64 (l.length:Int)) hp'/\CH h0 hp' nb' (chs l)/\hp.next<=hp'.next/\∀a,a<h0->hp'.get a=hp.get a:=by
 intro r
 induction r with
 |nil=>
  intro i nb hp h hil hh hC
  have e:i=l.length:=by simpa using hil
  subst e
  rw[List.take_length]at hC⊢
  exact⟨hp,nb,rfl,hC,Nat.le_refl _,fun _ _=>rfl⟩
 | cons x r ih=>
  intro i nb hp h hil hh hC
  obtain⟨e1,e2,hi,e3⟩:=ql h
  simp only[List.length_cons]at hil
  have hlt:(i:Int)<(l.length:Int):=by omega
  have hx:x<4294967296:=h32 x (by rw[<-e3];exact List.getElem_mem _)
  have hcl:=chs_len (l.take i)
  have hti:(l.take i).length<=i:=by simp;omega
  obtain⟨hp1,nb1,a1,a2,a3,a4⟩:=rof_9 l k k' h0 i x nb hx (chs (l.take i)) (by omega) hp hh hC (by omega)
  have et:l.take (i+1)=l.take i++[x]:=by rw[List.take_add_one,e1];rfl
  rw[<-chs_snoc,<-et]at a1 a2
  obtain⟨hp2,nb2,b1,b2,b3,b4⟩:=ih (i+1) nb1 hp1 e2 (by omega) (by omega) a2
  refine⟨hp2,nb2,?_,b2,by omega,fun a ha=>by rw[b4 a ha,a4 a ha]⟩
  rw[<-b1,<-a1,B32_5_eq]
  have gs0:∀(v:Value),qe [.sc v] 0=some v:=fun _=>rfl
  have en:∀h,(nz l)[i]'h=(x:Int):=fun h=>by simp[nz,e3]
  have hi4:(i<l.length)=True:=by simp[hi]
  generalize XC nb (chs (l.take i))=X1 at*
  by_cases hi1:i=0
  ·have hi2:(0<i)=False:=by simp[hi1]
   clear hi1
   simp[hi4,gs0,hi2,en]
  ·have hlt2:=xG l hr (i-1) (by omega)
   have e:i-1+1=i:=by omega
   have ex:l.getD i 0=x:=by rw[List.getD_eq_getElem?_getD,e1];rfl
   rw[e,ex]at hlt2
   have w9:IntKind.i64.wrap ((i:Int)-1)=((i-1:Nat):Int):=by rw[qf]<;>omega
   have hi2:0<i:=by omega
   have g0:(0:Int)<=((i-1:Nat):Int):=by omega
   have aj':(nz l)[(((i-1:Nat):Int)).toNat]?=some ((l.getD (i-1) 0:Nat):Int):=by
    rw[Int.toNat_natCast];unfold nz
    rw[List.getElem?_map,List.getD_eq_getElem?_getD,List.getElem?_eq_getElem (by omega)];rfl
   generalize l.getD (i-1) 0=y at*
   have hle':¬((x:Int)<=(y:Int)):=by omega
   generalize((i-1:Nat):Int)=j at*
   simp[hi4,gs0,hi2,en,w9,aj',g0,hle']
theorem run_rof(hp:Hp):∃t hp',run cxX 32 [S k 1 (LI .u32 (nz l))] hp=some (.tup [S t 5 (csL (chs l)),.sc (.int .i64 0)],hp')/\Fm [] hp hp':=by
 obtain⟨hp1,nb,a1,a2,a3,a4⟩:=rof_loop l k (rk k) hl h32 hr hp.next l 0 hp.next hp rfl (by simp) (Nat.le_refl _) (fun h=>absurd rfl h)
 have eX0:XC hp.next (chs (l.take 0))=S 2 1 []:=rfl
 rw[eX0]at a1
 have h1':¬((4096:Int)<(l.length:Int)):=by omega
 by_cases hne:chs l=[]
 ·have eX:XC nb (chs l)=S 2 1 []:=by unfold XC;rw[if_pos hne]
  rw[eX]at a1
  refine⟨2,hp1,?_,a3,fun c hc _=>a4 c hc⟩
  have b5:B32_5 (S k 1 (LI .u32 (nz l))) (S 2 1 []) (S (rk k) 1 (LI .u32 (nz l))) (.int .i64 (l.length:Int)) (.int .i64 (l.length:Int)) hp1=some (.tup [S 2 5 [],.sc (.int .i64 0)],hp1):=by
   rw[B32_5_eq]
   simp
   rfl
  rw[<-a1]at b5
  have ec:csL (chs l)=[]:=by rw[hne];rfl
  rw[ec,E32]
  simp at b5
  simp[h1',b5]
 ·obtain⟨c1,c2,c3⟩:=a2 hne
  have eX:XC nb (chs l)= .ms nb 0 0 (chs l).length 5:=by unfold XC;rw[if_neg hne]
  rw[eX]at a1
  have fz:frz1 hp1 (.ms nb 0 0 (chs l).length 5)=some (S 0 5 (csL (chs l)),hp1.del nb):=by
   have gn:getN (csL (chs l)) 0 ((chs l).length*5)=some (csL (chs l)):=by
    unfold getN
    rw[if_pos (by rw[jh];omega),List.drop_zero,List.take_of_length_le (by rw[jh];omega)]
   have hv:=csL_vl (chs l)
   have hro:=csL_ro (chs l)
   simp only[cmb,frz1,c3,Option.bind_some,gn,hv,chk,hro]
   rfl
  refine⟨0,hp1.del nb,?_,by simpa[Hp.del]using a3,fun c hc _=>?_⟩
  ·have b5:B32_5 (S k 1 (LI .u32 (nz l))) (.ms nb 0 0 (chs l).length 5) (S (rk k) 1 (LI .u32 (nz l))) (.int .i64 (l.length:Int)) (.int .i64 (l.length:Int)) hp1=some (.tup [S 0 5 (csL (chs l)),.sc (.int .i64 0)],hp1.del nb):=by
    rw[B32_5_eq]
    simp[fz]
   rw[<-a1]at b5
   rw[E32]
   simp at b5
   simp[h1',b5]
  ·have:c≠nb:=by omega
   show(if c=nb then none else hp1.get c)=_
   rw[if_neg this,a4 c hc]
end
def MW(hp:Hp)(m cb:Nat)(cs:List Nat):Prop:=
 m<hp.next/\cb<hp.next/\cb≠m/\hp.rd cb 0=some (LI .i64 (nz cs))/\hp.rd m 0=some [.ms cb 0 0 cs.length 1,.sc (.int .i64 (cs.sum:Nat))]
theorem MW.fr{hp hp':Hp}{m cb:Nat}{cs:List Nat}{X:List Nat}(h:MW hp m cb cs)(f:Fm X hp hp')(h1:m∉X)(h2:cb∉X):MW hp' m cb cs:=
 ⟨Nat.lt_of_lt_of_le h.1 f.1,Nat.lt_of_lt_of_le h.2.1 f.1,h.2.2.1,by rw[f.rd h.2.1 h2];exact h.2.2.2.1,by rw[f.rd h.1 h1];exact h.2.2.2.2⟩
def MN(hp:Hp)(m cb i:Nat):Prop:=
 m<hp.next/\(i≠0->cb<hp.next/\m<cb/\hp.rd cb 0=some (LI .i64 (nz (List.replicate i 1))))/\hp.rd m 0=some [if i=0 then S 2 1 []else .ms cb 0 0 i 1,.sc (.int .i64 (i:Int))]
theorem nz_snoc(l:List Nat)(x:Nat):nz (l++[x])=nz l++[(x:Int)]:=by simp[nz]
theorem mnew_loop(m:Nat):∀(f i cb:Nat) (hp:Hp),i+f=64->MN hp m cb i->
    ∃hp' cb',B137_3 (.ptr m 0 0) (.int .i64 64) (.int .i64 (i:Int)) hp=some (.ptr m 0 0,hp')/\MN hp' m cb' 64/\hp.next<=hp'.next/\∀c,c<m->hp'.get c=hp.get c:=by
  intro f
  induction f with
  | zero=>
    intro i cb hp h hm
    have e:i=64:=by omega
    subst e
    refine⟨hp,cb,?_,hm,Nat.le_refl _,fun _ _=>rfl⟩
    rw[B137_3_eq]
    simp
  | succ f ih=>
    intro i cb hp h hm
    obtain⟨h1,h2,h3⟩:=hm
    have hlt:(i:Int)<64:=by omega
    have w1:IntKind.i64.wrap ((i:Int)+1)=((i+1:Nat):Int):=by rw[qf]<;>omega
    by_cases h0:i=0
    · subst h0
      have ap:=appM_first .i64 1 8 (by decide) hp
      have hne:m≠hp.next:=by omega
      have r1:=zE hp (LI .i64 [1]) hne
      rw[h3]at r1
      have hq:MN ((hp.new (LI .i64 [1])).put m 0 [.ms hp.next 0 0 1 1,.sc (.int .i64 1)]) m hp.next 1:=
        ⟨by simp;omega,fun _=>⟨by simp,h1,by rw[qp _ _ (fun e=>hne e.symm),qs];rfl⟩,by rw[qh];rfl⟩
      obtain⟨hp2,cb2,a1,a2,a3,a4⟩:=ih 1 hp.next _ (by omega) hq
      refine⟨hp2,cb2,?_,a2,by simp at a3;omega,fun c hc=>by
        rw[a4 c hc]
        have e1:c≠m:=by omega
        have e2:c≠hp.next:=by omega
        simp[Hp.put,Hp.new,e1,e2]⟩
      rw[<-a1,B137_3_eq]
      simp at r1
      simp[h3,getC,okV,ap,r1,putN,qj,qh,qe]
    · obtain⟨n1,n2,n3⟩:=h2 h0
      rw[if_neg h0]at h3
      have hne:m≠hp.next:=by omega
      have hne2:m≠cb:=by omega
      have hl:(nz (List.replicate i 1)).length=i:=by simp
      have ap:=appM_one .i64 (nz (List.replicate i 1)) 1 8 cb (by decide) (by rw[hl];omega) (by intro e;rw[e]at hl;simp at hl;omega) hp n3
      rw[hl]at ap
      have e1:nz (List.replicate i 1)++[1]=nz (List.replicate (i+1) 1):=by
        rw[List.replicate_succ',nz_snoc];rfl
      rw[e1]at ap
      have r1:((hp.del cb).new (LI .i64 (nz (List.replicate (i+1) 1)))).rd m 0=hp.rd m 0:=(Fm.delNew (X:=[cb]) hp cb _ (by simp)).rd h1 (by simp;exact hne2)
      rw[h3]at r1
      have hq:MN (((hp.del cb).new (LI .i64 (nz (List.replicate (i+1) 1)))).put m 0 [.ms hp.next 0 0 (i+1) 1,.sc (.int .i64 ((i+1:Nat):Int))]) m hp.next (i+1):=
        ⟨by simp[Hp.del];omega,fun _=>⟨by simp[Hp.del],h1,by rw[qp _ _ (fun e=>hne e.symm)];exact qs (hp.del cb) _⟩,by rw[qh,if_neg (by omega)]⟩
      obtain⟨hp2,cb2,a1,a2,a3,a4⟩:=ih (i+1) hp.next _ (by omega) hq
      refine⟨hp2,cb2,?_,a2,by simp[Hp.del]at a3;omega,fun c hc=>by
        rw[a4 c hc]
        have e1:c≠m:=by omega
        have e2:c≠hp.next:=by omega
        have e3:c≠cb:=by omega
        simp[Hp.put,Hp.new,Hp.del,e1,e2,e3]⟩
      rw[<-a1,B137_3_eq]
      generalize nz (List.replicate (i+1) 1)=L at*
      generalize((i+1:Nat):Int)=I at*
      simp[hlt,h3,getC,okV,ap,r1,putN,qj,qh,qe,w1]
theorem run_mnew(hp:Hp):∃hp' cb,run cxX 137 [.sc (.int .i64 64)] hp=some (.ptr hp.next 0 0,hp')/\MW hp' hp.next cb cs0/\hp.next<cb/\hp.next<=hp'.next/\∀c,c<hp.next->hp'.get c=hp.get c:=by
  have h0:MN (hp.new [S 2 1 [],.sc (.int .i64 0)]) hp.next 0 0:=⟨by simp,fun h=>absurd rfl h,by rw[qs];rfl⟩
  obtain⟨hp',cb,a1,a2,a3,a4⟩:=mnew_loop hp.next 64 0 0 _ rfl h0
  obtain⟨b1,b2,b3⟩:=a2
  obtain⟨c1,c2,c3⟩:=b2 (by omega)
  refine⟨hp',cb,?_,⟨b1,c1,by omega,c3,by rw[b3];rfl⟩,c2,by simp at a3;omega,fun c hc=>by
    rw[a4 c hc]
    have:c≠hp.next:=by omega
    simp[Hp.new,this]⟩
  rw[E137]
  have mm:min (max (64:Int) 1) 64=64:=by decide
  simp at a1
  simp[mm,a1]
theorem xN(l:List Nat)(i:Nat)(h:i<l.length):(nz l).getD i 0=((l.getD i 0:Nat):Int):=by
 unfold nz
 rw[List.getD_eq_getElem?_getD,List.getD_eq_getElem?_getD,List.getElem?_map,List.getElem?_eq_getElem h]
 rfl
section
variable (hp : Hp) (m cb : Nat) (cs : List Nat) (h : MW hp m cb cs) (hs : cs.sum ≤ 1000000) (hcl : cs.length = 64)
include h
theorem run_msize:run cxX 175 [.ptr m 0 0] hp=some (.sc (.int .i64 (cs.length:Nat)),hp):=by
 obtain⟨h1,h2,h3,h4,h5⟩:=h
 rw[E175]
 have hln:∀a b c d e,lenA (.ms a b c d e)=some d:=fun _ _ _ _ _=>rfl
 simp[h5,getC,hln]
theorem run_mall:run cxX 139 [.ptr m 0 0] hp=some (.sc (.int .i64 (cs.sum:Nat)),hp):=by
 obtain⟨h1,h2,h3,h4,h5⟩:=h
 rw[E139]
 simp[h5,qe]
include hs hcl
theorem part_loop(x:Nat)(hx:x<64):∀(f i:Nat),i+f=x->
  B138_5 (.ptr m 0 0) (.int .i64 (x:Int)) (.int .i64 ((cs.take i).sum:Nat)) (.ms cb 0 0 x 1) (.int .i64 (x:Int)) (.int .i64 (i:Int)) hp=some (.tup [.sc (.int .i64 ((cs.take x).sum:Nat)),.sc (.int .i64 (cs.getD x 0:Nat))],hp):=by
 obtain⟨h1,h2,h3,h4,h5⟩:=h
 have hms:∀a b c d e,qR (.ms a b c d e)=some (a,b,c,d,e):=fun _ _ _ _ _=>rfl
 intro f
 induction f with
 |zero=>
  intro i hi
  have e:i=x:=by omega
  subst e
  have ix:idx cs.length (.int .i64 (i:Int))=some i:=zm .i64 (by omega)
  have g:=yZ .i64 (nz cs) i (by simp;omega)
  rw[xN cs i (by omega)]at g
  rw[B138_5_eq]
  generalize(cs.take i).sum=A at*
  generalize cs.getD i 0=B at*
  simp[h5,getC,hms,ix,h4,g]
 |succ f ih=>
  intro i hi
  have hn:=ih (i+1) (by omega)
  have ix:idx x (.int .i64 (i:Int))=some i:=zm .i64 (by omega)
  have g:=yZ .i64 (nz cs) i (by simp;omega)
  rw[xN cs i (by omega)]at g
  have st:=qP cs i (by omega)
  have sl:=qS cs (i+1)
  have w1:IntKind.i64.wrap ((((cs.take i).sum:Nat):Int)+((cs.getD i 0:Nat):Int))=(((cs.take (i+1)).sum:Nat):Int):=by rw[qf]<;>omega
  have w2:IntKind.i64.wrap ((i:Int)+1)=((i+1:Nat):Int):=by rw[qf]<;>omega
  have hlt:(i:Int)<(x:Int):=by omega
  rw[<-hn,B138_5_eq]
  generalize(((cs.take i).sum:Nat):Int)=A at*
  generalize(((cs.take (i+1)).sum:Nat):Int)=A1 at*
  generalize((cs.getD i 0:Nat):Int)=B at*
  generalize((i+1:Nat):Int)=I at*
  simp[hlt,hms,ix,h4,g,w1,w2]
theorem run_part(x:Nat)(hx:x<64):run cxX 138 [.ptr m 0 0,.sc (.int .i64 (x:Int))] hp=some (.tup [.sc (.int .i64 ((cs.take x).sum:Nat)),.sc (.int .i64 (cs.getD x 0:Nat))],hp):=by
 have sz:=run_msize hp m cb cs h
 have lp:=part_loop hp m cb cs h hs hcl x hx x 0 (by omega)
 obtain⟨h1,h2,h3,h4,h5⟩:=h
 have hms:∀a b c d e,qR (.ms a b c d e)=some (a,b,c,d,e):=fun _ _ _ _ _=>rfl
 have hln:∀a b c d e,lenA (.ms a b c d e)=some d:=fun _ _ _ _ _=>rfl
 have hn0:¬((x:Int)<0):=by omega
 have hge:¬((x:Int)>=(cs.length:Int)):=by omega
 have b1:qI 0 (cs.length:Int) (some (.int .i64 (x:Int))) cs.length=some x:=yn .i64 (by omega)
 have b3:B138_3 (.ptr m 0 0) (.int .i64 (x:Int)) hp=some (.tup [.sc (.int .i64 ((cs.take x).sum:Nat)),.sc (.int .i64 (cs.getD x 0:Nat))],hp):=by
  rw[<-lp,B138_3_eq]
  simp[h5,getC,hms,b1,hln]
 rw[E138]
 generalize(cs.take x).sum=A at*
 generalize cs.getD x 0=B at*
 have hge':¬((cs.length:Int)<=(x:Int)):=hge
 simp[hn0,sz,hge',b3]
end
def hf(d:List Nat)(i:Nat):List Nat:=(d.take i).map (fun n=>(n+1)/2)++d.drop i
@[simp] theorem hf_len (d : List Nat) (i : Nat) : (hf d i).length = d.length := by unfold hf; simp; omega
theorem hf_get(d:List Nat)(i:Nat)(hi:i<d.length):(hf d i).getD i 0=d.getD i 0:=by
 unfold hf
 rw[List.getD_eq_getElem?_getD,List.getElem?_append_right (by simp;omega),List.getD_eq_getElem?_getD]
 simp
 congr 2
 omega
theorem hf_succ(d:List Nat)(i:Nat)(hi:i<d.length):hf d (i+1)=(hf d i).set i ((d.getD i 0+1)/2):=by
 have e1:d.getD i 0=d[i]:=by rw[List.getD_eq_getElem?_getD,List.getElem?_eq_getElem hi];rfl
 have e2:d.take (i+1)=d.take i++[d[i]]:=by rw[List.take_add_one,List.getElem?_eq_getElem hi];rfl
 have e3:d.drop i=d[i]::d.drop (i+1):=List.drop_eq_getElem_cons hi
 unfold hf
 rw[e1,e2,e3,List.map_append,List.append_assoc,List.set_append_right _ _ (by simp;omega)]
 have e4:i-((d.take i).map fun n=>(n+1)/2).length=0:=by simp;omega
 rw[e4]
 rfl
theorem hf_all(d:List Nat):hf d d.length=d.map fun n=>(n+1)/2:=by unfold hf;simp
theorem see_loop(m cb:Nat)(d:List Nat)(hd:d.length=64)(hs:d.sum<=1000000):∀(f i:Nat) (hp:Hp),i+f=64->m<hp.next->cb<hp.next->cb≠m->hp.rd cb 0=some (LI .i64 (nz (hf d i)))->
  hp.rd m 0=some [.ms cb 0 0 64 1,.sc (.int .i64 ((((d.take i).map fun n=>(n+1)/2).sum:Nat):Int))]->
  ∃hp',B141_6 (.ptr m 0 0) (.ms cb 0 0 64 1) (.int .i64 64) (.int .i64 (i:Int)) hp=some (.tup [],hp')/\MW hp' m cb (d.map fun n=>(n+1)/2)/\hp'.next=hp.next/\∀c,c≠m->c≠cb->hp'.get c=hp.get c:=by
 have hms:∀a b c d e,qR (.ms a b c d e)=some (a,b,c,d,e):=fun _ _ _ _ _=>rfl
 intro f
 induction f with
 |zero=>
  intro i hp hi h1 h2 h3 h4 h5
  have e:i=64:=by omega
  subst e
  have ef:hf d 64=d.map fun n=>(n+1)/2:=by rw[<-hd,hf_all]
  have et:d.take 64=d:=by rw[<-hd,List.take_length]
  rw[ef]at h4
  rw[et]at h5
  refine⟨hp,?_,⟨h1,h2,h3,h4,by simp only[List.length_map,hd];exact h5⟩,rfl,fun _ _ _=>rfl⟩
  rw[B141_6_eq]
  simp
 | succ f ih=>
  intro i hp hi h1 h2 h3 h4 h5
  have hid:i<d.length:=by omega
  have hlt:(i:Int)<64:=by omega
  have ix:idx 64 (.int .i64 (i:Int))=some i:=zm .i64 (by omega)
  have g:=yZ .i64 (nz (hf d i)) i (by simp;omega)
  rw[xN _ i (by simp;omega),hf_get d i hid]at g
  have hx:d.getD i 0<=1000000:=by
   have:=qP d i hid
   have:=qS d (i+1)
   omega
  have p:=putN_I .i64 (nz (hf d i)) i (((d.getD i 0+1)/2:Nat):Int) (by simp;omega)
  have es:(nz (hf d i)).set i (((d.getD i 0+1)/2:Nat):Int)=nz (hf d (i+1)):=by
   rw[hf_succ d i hid];unfold nz;rw[List.map_set]
  rw[es]at p
  have g2:=yZ .i64 (nz (hf d (i+1))) i (by simp;omega)
  have eg:(hf d (i+1)).getD i 0=(d.getD i 0+1)/2:=by
   rw[hf_succ d i hid,List.getD_eq_getElem?_getD,List.getElem?_set]
   simp[hid]
  rw[xN _ i (by simp;omega),eg]at g2
  have sm:((d.take (i+1)).map fun n=>(n+1)/2).sum=((d.take i).map fun n=>(n+1)/2).sum+(d.getD i 0+1)/2:=by
   have e2:d.take (i+1)=d.take i++[d.getD i 0]:=by
    rw[List.take_add_one,List.getD_eq_getElem?_getD,List.getElem?_eq_getElem hid];rfl
   rw[e2];simp
  have sb:((d.take i).map fun n=>(n+1)/2).sum<=2000000:=by
   have a:=sum_half (d.take i)
   have b:=qS d i
   have c:(d.take i).length<=64:=by simp;omega
   omega
  have w1:IntKind.i64.wrap (((d.getD i 0:Nat):Int)+1)=((d.getD i 0+1:Nat):Int):=by rw[qf]<;>omega
  have q2:∀t o o',binV Tryz.prog .quo t o o' (.int .i64 ((d.getD i 0+1:Nat):Int)) (.int .i64 2)=some (.int .i64 (((d.getD i 0+1)/2:Nat):Int)):=by
   intro t o o'
   rw[xu _ _ _ _ _ _ _ (by omega),Int.tdiv_eq_ediv_of_nonneg (by omega),qf (by omega) (by omega)]
   rfl
  have w3:IntKind.i64.wrap (((((d.take i).map fun n=>(n+1)/2).sum:Nat):Int)+(((d.getD i 0+1)/2:Nat):Int))=((((d.take (i+1)).map fun n=>(n+1)/2).sum:Nat):Int):=by rw[sm,qf]<;>omega
  have w4:IntKind.i64.wrap ((i:Int)+1)=((i+1:Nat):Int):=by rw[qf]<;>omega
  have r5:∀x,(hp.put cb 0 x).rd m 0=hp.rd m 0:=fun x=>qp _ _ (fun e=>h3 e.symm)
  obtain⟨hp2,a1,a2,a3,a4⟩:=ih (i+1) ((hp.put cb 0 (LI .i64 (nz (hf d (i+1))))).put m 0 [.ms cb 0 0 64 1,.sc (.int .i64 ((((d.take (i+1)).map fun n=>(n+1)/2).sum:Nat):Int))]) (by omega) (by simpa using h1) (by simpa using h2) h3
   (by rw[qp _ _ h3,qh]) (qh _ _ _)
  refine⟨hp2,?_,a2,by rw[a3];rfl,fun c c1 c2=>by rw[a4 c c1 c2];simp[Hp.put,c1,c2]⟩
  rw[<-a1,B141_6_eq]
  generalize nz (hf d (i+1))=L1 at*
  generalize nz (hf d i)=L0 at*
  generalize((((d.take (i+1)).map fun n=>(n+1)/2).sum:Nat):Int)=S1 at*
  generalize((((d.take i).map fun n=>(n+1)/2).sum:Nat):Int)=S0 at*
  generalize(((d.getD i 0+1)/2:Nat):Int)=y2 at*
  generalize((d.getD i 0+1:Nat):Int)=y1 at*
  generalize((d.getD i 0:Nat):Int)=y0 at*
  generalize((i+1:Nat):Int)=I at*
  have gs1:∀(x:AV) (v:Value),qe [x,.sc v] 1=some v:=fun _ _=>rfl
  have gc0:∀(x:AV) (l:List AV),getC (x::l) 0=some x:=fun _ _=>rfl
  have pn:∀(x y z:AV),putN [x,y] 1 [z]=some [x,z]:=fun _ _ _=>rfl
  simp[hlt,hms,ix,h4,g,h5,gc0,w1,q2,p,r5,gs1,qh,g2,w3,pn,w4]
theorem run_see(hp:Hp)(m cb x:Nat)(cs:List Nat)(h:MW hp m cb cs)(hm:okM cs)(hx:x<64):
  ∃hp',run cxX 141 [.ptr m 0 0,.sc (.int .i64 (x:Int))] hp=some (.tup [],hp')/\MW hp' m cb (see cs x)/\hp'.next=hp.next/\∀c,c≠m->c≠cb->hp'.get c=hp.get c:=by
 have sz:=run_msize hp m cb cs h
 obtain⟨h1,h2,h3,h4,h5⟩:=h
 obtain⟨m1,m2,m3⟩:=hm
 have hms:∀a b c d e,qR (.ms a b c d e)=some (a,b,c,d,e):=fun _ _ _ _ _=>rfl
 have hln:∀a b c d e,lenA (.ms a b c d e)=some d:=fun _ _ _ _ _=>rfl
 have hn0:¬((x:Int)<0):=by omega
 have hge:¬((cs.length:Int)<=(x:Int)):=by omega
 have ix:idx cs.length (.int .i64 (x:Int))=some x:=zm .i64 (by omega)
 have g:=yZ .i64 (nz cs) x (by simp;omega)
 rw[xN cs x (by omega)]at g
 have st:=qP cs x (by omega)
 have sl:=qS cs (x+1)
 have ss:=sum_set cs x (cs.getD x 0+24) (by omega)
 have w1:IntKind.i64.wrap (((cs.getD x 0:Nat):Int)+24)=((cs.getD x 0+24:Nat):Int):=by rw[qf]<;>omega
 have p:=putN_I .i64 (nz cs) x ((cs.getD x 0+24:Nat):Int) (by simp;omega)
 have es:(nz cs).set x ((cs.getD x 0+24:Nat):Int)=nz (cs.set x (cs.getD x 0+24)):=by unfold nz;rw[List.map_set]
 rw[es]at p
 have r5:∀y,(hp.put cb 0 y).rd m 0=hp.rd m 0:=fun y=>qp _ _ (fun e=>h3 e.symm)
 have w2:IntKind.i64.wrap (((cs.sum:Nat):Int)+24)=(((cs.set x (cs.getD x 0+24)).sum:Nat):Int):=by rw[qf]<;>omega
 have dl:(cs.set x (cs.getD x 0+24)).length=64:=by simp[m1]
 have gs1:∀(x:AV) (v:Value),qe [x,.sc v] 1=some v:=fun _ _=>rfl
 have gc0:∀(x:AV) (l:List AV),getC (x::l) 0=some x:=fun _ _=>rfl
 have pn:∀(x y z:AV),putN [x,y] 1 [z]=some [x,z]:=fun _ _ _=>rfl
 rw[m1]at h5 ix sz hge
 unfold see
 generalize cs.set x (cs.getD x 0+24)=d at*
 by_cases hle:d.sum<=4096
 ·rw[if_pos hle]
  refine⟨(hp.put cb 0 (LI .i64 (nz d))).put m 0 [.ms cb 0 0 64 1,.sc (.int .i64 (d.sum:Nat))],?_,⟨h1,h2,h3,by rw[qp _ _ h3,qh],by rw[qh,dl]⟩,rfl,fun c c1 c2=>by simp[Hp.put,c1,c2]⟩
  have hle':((d.sum:Nat):Int)<=4096:=by omega
  rw[E141]
  have b1:B141_1 (.ptr m 0 0) (.int .i64 (x:Int)) hp=some (.tup [],(hp.put cb 0 (LI .i64 (nz d))).put m 0 [.ms cb 0 0 64 1,.sc (.int .i64 (d.sum:Nat))]):=by
   rw[B141_1_eq]
   generalize((d.sum:Nat):Int)=D at*
   generalize((cs.getD x 0+24:Nat):Int)=y1 at*
   generalize((cs.getD x 0:Nat):Int)=y0 at*
   simp[h5,gc0,hms,ix,h4,g,w1,p,r5,gs1,w2,pn,qh,hle']
  have hge2:¬((64:Int)<=(x:Int)):=by omega
  simp[hn0,sz,hge2,b1]
 ·rw[if_neg hle]
  have e0:hf d 0=d:=by unfold hf;simp
  obtain⟨hp2,a1,a2,a3,a4⟩:=see_loop m cb d dl (by omega) 64 0 ((hp.put cb 0 (LI .i64 (nz d))).put m 0 [.ms cb 0 0 64 1,.sc (.int .i64 0)]) rfl h1 h2 h3 (by rw[qp _ _ h3,qh,e0]) (by rw[qh];rfl)
  refine⟨hp2,?_,a2,by rw[a3];rfl,fun c c1 c2=>by rw[a4 c c1 c2];simp[Hp.put,c1,c2]⟩
  have hle':¬(((d.sum:Nat):Int)<=4096):=by omega
  rw[E141]
  have b1:B141_1 (.ptr m 0 0) (.int .i64 (x:Int)) hp=some (.tup [],hp2):=by
   rw[<-a1,B141_1_eq]
   generalize((d.sum:Nat):Int)=D at*
   generalize((cs.getD x 0+24:Nat):Int)=y1 at*
   generalize((cs.getD x 0:Nat):Int)=y0 at*
   simp[h5,gc0,hms,ix,h4,g,w1,p,r5,gs1,w2,pn,qh,hle',qj,hln]
  have hge2:¬((64:Int)<=(x:Int)):=by omega
  simp[hn0,sz,hge2,b1]
abbrev EC(m:Nat)(s:En)(k:Nat)(n:Nat):List AV:=[.ptr m 0 0,.sc (.int .u64 (s.low:Int)),.sc (.int .u32 (s.width:Int)),.sc (.int .i64 (s.held:Int)),.sc (.int .u8 (s.last:Int)),.sc (.bool s.begun),S k 1 (LI .u8 s.out),.sc (.int .i64 (n:Int))]
theorem and24(x:Nat)(hx:x<18446744073709551616)(t:TypeId)(o o':Operand):binV Tryz.prog .and t o o' (.int .u64 (x:Int)) (.int .u64 16777215)=some (.int .u64 ((x%16777216:Nat):Int)):=by
 have a:=and64 x 16777215 hx (by omega) t o o'
 have e:x&&&16777215=x%16777216:=Nat.and_two_pow_sub_one_eq_mod x 24
 rw[e]at a
 exact a
theorem getOf{hp:Hp}{b:Nat}{x:List AV}(h:hp.rd b 0=some x):hp.get b=some (0,x):=by
 unfold Hp.rd at h
 obtain⟨p,hp1,h⟩:=bsm h
 split at h
 ·rename_i e
  cases h
  rw[hp1]
  obtain⟨p1,p2⟩:=p
  have:p1=0:=e.1
  subst this;rfl
 ·cases h
theorem xP{k b:Nat}{hp:Hp}{l:List AV}{v:Value}{K:Value->RO}(h:hp.rd b 0=some l)(g:qe l k=some v):ldS k (ro (.ptr b 0 0)) hp K=K v:=by
 have g':qe l (0+k)=some v:=by rw[Nat.zero_add];exact g
 simp only[ldS,lpS,ro_ptr,nnA_ptr,yF,h,g',Option.bind_some]
theorem iC_lss{t:TypeId}{n:Tmp}{k:IntKind}{x y:Int}{a b:RO}:iC .lss t n (.int k x) (.int k y) a b=cond (decide (x<y)) a b:=by simp only[iC,binV_lss,zN,Option.bind_some]
theorem iC_geq{t:TypeId}{n:Tmp}{k:IntKind}{x y:Int}{a b:RO}:iC .geq t n (.int k x) (.int k y) a b=cond (decide (x>=y)) a b:=by simp only[iC,binV_geq,zN,Option.bind_some]
theorem gs1E(x1:AV)(v:Value)(r:List AV):qe (x1::.sc v::r) 1=some v:=rfl
section
variable (e m k n : Nat) (hk : k = 1 ∨ k = 2)
include hk
theorem shift_4(c:Nat)(hc:c<256):∀(f:Nat) (s:En) (hp:Hp),s.held=f->s.low<18446744073709551616->s.out.length+f<=1000000->hp.rd e 0=some (EC m s k n)->
  B140_4 (.ptr e 0 0) (.int .u8 (c:Int)) hp=some (.tup [],hp.put e 0 (EC m ⟨s.low%16777216*256,s.width,0,s.low/16777216%256,true,s.out++List.replicate f (((255+c)%256:Nat):Int)⟩ k n)):=by
 intro f
 induction f with
 | zero=>
  intro s hp hh hlow hol h
  have sh:=fun t o o'=>jO .u64 s.low 24 (by decide) t o o' .u64
  have e24:s.low/2^24=s.low/16777216:=by omega
  rw[e24]at sh
  have i24:((24:Nat):Int)=24:=rfl
  rw[i24]at sh
  have w1:IntKind.u8.wrap ((s.low/16777216:Nat):Int)=((s.low/16777216%256:Nat):Int):=by rw[yo];rfl
  have a:=and24 s.low hlow
  have s8:∀t o o',binV Tryz.prog .shl t o o' (.int .u64 ((s.low%16777216:Nat):Int)) (.int .u64 8)=some (.int .u64 ((s.low%16777216*256:Nat):Int)):=by
   intro t o o'
   rw[zn _ _ _ _ _ _ _ _ (by omega)]
   have e2:(2:Int)^min (8:Int).toNat IntKind.u64.bits=256:=rfl
   have e3:((s.low%16777216:Nat):Int)*256=((s.low%16777216*256:Nat):Int):=by omega
   rw[e2,e3,qr (by omega) (by omega)]
  have hh0:(s.held:Int)=0:=by omega
  rw[B140_4_eq]
  obtain⟨low,width,held,last,begun,out⟩:=s
  simp only at h hh hh0 hlow sh w1 a s8
  subst hh
  simp only[EC,List.replicate_zero,List.append_nil]at h⊢
  generalize((low%16777216*256:Nat):Int)=y1 at*
  generalize((low%16777216:Nat):Int)=y2 at*
  generalize((low/16777216%256:Nat):Int)=y3 at*
  generalize((low/16777216:Nat):Int)=y4 at*
  have gs:∀(x1 x2 x3:AV) (v:Value) (r:List AV),qe (x1::x2::x3::.sc v::r) 3=some v:=fun _ _ _ _ _=>rfl
  have gs1:∀(x1:AV) (v:Value) (r:List AV),qe (x1::.sc v::r) 1=some v:=fun _ _ _=>rfl
  have p5:∀(x0 x1 x2 x3 x4 x5 x6 x7 z:AV),putN [x0,x1,x2,x3,x4,x5,x6,x7] 5 [z]=some [x0,x1,x2,x3,x4,z,x6,x7]:=fun _ _ _ _ _ _ _ _ _=>rfl
  have p4:∀(x0 x1 x2 x3 x4 x5 x6 x7 z:AV),putN [x0,x1,x2,x3,x4,x5,x6,x7] 4 [z]=some [x0,x1,x2,x3,z,x5,x6,x7]:=fun _ _ _ _ _ _ _ _ _=>rfl
  have p1:∀(x0 x1 x2 x3 x4 x5 x6 x7 z:AV),putN [x0,x1,x2,x3,x4,x5,x6,x7] 1 [z]=some [x0,z,x2,x3,x4,x5,x6,x7]:=fun _ _ _ _ _ _ _ _ _=>rfl
  simp[h,gs,gs1,sh,cv_76_5,w1,p5,p4,p1,qj,qh,B140_9_eq,a,s8,-qE]
 |succ f ih=>
  intro s hp hh hlow hol h
  obtain⟨low,width,held,last,begun,out⟩:=s
  simp only at h hh hlow hol
  subst hh
  have hpos:((f+1:Nat):Int)>0:=by omega
  have w1:IntKind.u8.wrap (255+(c:Int))=(((255+c)%256:Nat):Int):=by rw[yo];rfl
  have w2:IntKind.i64.wrap (((f+1:Nat):Int)-1)=(f:Int):=by rw[qf]<;>omega
  have ap:=appI .u8 out k hk 1 (by decide) (((255+c)%256:Nat):Int) (by omega)
  have hi:=ih ⟨low,width,f,last,begun,out++[(((255+c)%256:Nat):Int)]⟩ (hp.put e 0 (EC m ⟨low,width,f,last,begun,out++[(((255+c)%256:Nat):Int)]⟩ k n)) rfl hlow (by simp;omega) (qh _ _ _)
  rw[qj]at hi
  have e1:out++List.replicate (f+1) (((255+c)%256:Nat):Int)=out++[(((255+c)%256:Nat):Int)]++List.replicate f (((255+c)%256:Nat):Int):=by simp[List.replicate_succ]
  simp only[e1]
  rw[<-hi,B140_4_eq]
  generalize(((255+c)%256:Nat):Int)=y at*
  generalize((f+1:Nat):Int)=F at*
  simp only[EC]at h
  have gs:∀(x1 x2 x3:AV) (v:Value) (r:List AV),qe (x1::x2::x3::.sc v::r) 3=some v:=fun _ _ _ _ _=>rfl
  have gc6:∀(x0 x1 x2 x3 x4 x5 x6 x7:AV),getC [x0,x1,x2,x3,x4,x5,x6,x7] 6=some x6:=fun _ _ _ _ _ _ _ _=>rfl
  have p6:∀(x0 x1 x2 x3 x4 x5 x6 x7 z:AV),putN [x0,x1,x2,x3,x4,x5,x6,x7] 6 [z]=some [x0,x1,x2,x3,x4,x5,z,x7]:=fun _ _ _ _ _ _ _ _ _=>rfl
  have p3:∀(x0 x1 x2 x3 x4 x5 x6 x7 z:AV),putN [x0,x1,x2,x3,x4,x5,x6,x7] 3 [z]=some [x0,x1,x2,z,x4,x5,x6,x7]:=fun _ _ _ _ _ _ _ _ _=>rfl
  have st6:∀(x0 x1 x2 x3 x4 x5 x6 x7 z:AV),[x0,x1,x2,x3,x4,x5,x6,x7].set 6 z=[x0,x1,x2,x3,x4,x5,z,x7]:=fun _ _ _ _ _ _ _ _ _=>rfl
  have w9:IntKind.i64.wrap (f:Int)=(f:Int):=qf (by omega) (by omega)
  simp[h,gs,hpos,gc6,w1,okV,ap,st6,qh,p6,qj,w2,w9,p3]
theorem shift_1(s:En)(hp:Hp)(hlow:s.low<18446744073709551616)(hol:s.out.length+s.held+1<=1000000)(h:hp.rd e 0=some (EC m s k n))(c0:Nat)(hc0:c0=s.low/4294967296):
  B140_1 (.ptr e 0 0) hp=some (.tup [],hp.put e 0 (EC m ⟨s.low%16777216*256,s.width,0,s.low/16777216%256,true,s.out++(if s.begun then [(((s.last+c0%256)%256:Nat):Int)]else [])++List.replicate s.held (((255+c0%256)%256:Nat):Int)⟩ k n)):=by
 have gs4:∀(x0 x1 x2 x3:AV) (v:Value) (r:List AV),qe (x0::x1::x2::x3::.sc v::r) 4=some v:=fun _ _ _ _ _ _=>rfl
 have gs5:∀(x0 x1 x2 x3 x4:AV) (v:Value) (r:List AV),qe (x0::x1::x2::x3::x4::.sc v::r) 5=some v:=fun _ _ _ _ _ _ _=>rfl
 have gc6:∀(x0 x1 x2 x3 x4 x5 x6 x7:AV),getC [x0,x1,x2,x3,x4,x5,x6,x7] 6=some x6:=fun _ _ _ _ _ _ _ _=>rfl
 have p6:∀(x0 x1 x2 x3 x4 x5 x6 x7 z:AV),putN [x0,x1,x2,x3,x4,x5,x6,x7] 6 [z]=some [x0,x1,x2,x3,x4,x5,z,x7]:=fun _ _ _ _ _ _ _ _ _=>rfl
 have st6:∀(x0 x1 x2 x3 x4 x5 x6 x7 z:AV),[x0,x1,x2,x3,x4,x5,x6,x7].set 6 z=[x0,x1,x2,x3,x4,x5,z,x7]:=fun _ _ _ _ _ _ _ _ _=>rfl
 have sh32:∀t o o',binV Tryz.prog .shr t o o' (.int .u64 (s.low:Int)) (.int .u64 32)=some (.int .u64 (c0:Int)):=by
  intro t o o'
  have a:=jO .u64 s.low 32 (by decide) t o o' .u64
  have e32:s.low/2^32=c0:=by omega
  rw[e32]at a
  exact a
 clear hc0
 have w1:IntKind.u8.wrap (c0:Int)=((c0%256:Nat):Int):=by rw[yo];rfl
 have w2:IntKind.u8.wrap ((s.last:Int)+((c0%256:Nat):Int))=(((s.last+c0%256)%256:Nat):Int):=by rw[yo];rfl
 have ap:=appI .u8 s.out k hk 1 (by decide) (((s.last+c0%256)%256:Nat):Int) (by omega)
 rw[B140_1_eq]
 cases hb:s.begun
 ·have f4:=shift_4 e m k n hk (c0%256) (by omega) s.held s hp rfl hlow (by omega) h
  rw[if_neg (by decide),List.append_nil,<-f4]
  simp only[EC,hb]at h
  generalize((c0%256:Nat):Int)=cc at*
  simp[h,gs1E,sh32,cv_76_5,w1,gs5]
 ·rw[if_pos rfl]
  have f4:=shift_4 e m k n hk (c0%256) (by omega) s.held ⟨s.low,s.width,s.held,s.last,true,s.out++[(((s.last+c0%256)%256:Nat):Int)]⟩ (hp.put e 0 (EC m ⟨s.low,s.width,s.held,s.last,true,s.out++[(((s.last+c0%256)%256:Nat):Int)]⟩ k n)) rfl hlow (by simp;omega) (qh _ _ _)
  rw[qj]at f4
  rw[<-f4]
  simp only[EC,hb]at h⊢
  have hg:=getOf h
  have sg:∀X:AV,jw (AV.ptr e 0 4,1) hp.get (hp.put e 0 [AV.ptr m 0 0,.sc (.int .u64 (s.low:Int)),.sc (.int .u32 (s.width:Int)),.sc (.int .i64 (s.held:Int)),.sc (.int .u8 (s.last:Int)),.sc (.bool true),X,.sc (.int .i64 (n:Int))]).get=some ():=by
   intro X
   refine sameG_ok ?_
   have e1:∀Y:List AV,(hp.put e 0 Y).get e=some (0,Y):=fun Y=>by simp[Hp.put]
   unfold seeG
   simp only[cmb,yF,Option.bind_some,hg,e1]
   rfl
  generalize(((s.last+c0%256)%256:Nat):Int)=ll at*
  generalize((c0%256:Nat):Int)=cc at*
  clear f4
  simp[h,gs1E,sh32,cv_76_5,w1,gs5,gc6,st6,qh,gs4,w2,okV,ap,p6,qj,sg]
omit hk in
theorem shift_8(s:En)(hp:Hp)(hlow:s.low<18446744073709551616)(hheld:s.held<1000000)(h:hp.rd e 0=some (EC m s k n)):
  B140_8 (.ptr e 0 0) hp=some (.tup [],hp.put e 0 (EC m ⟨s.low%16777216*256,s.width,s.held+1,s.last,s.begun,s.out⟩ k n)):=by
 have gs3:∀(x1 x2 x3:AV) (v:Value) (r:List AV),qe (x1::x2::x3::.sc v::r) 3=some v:=fun _ _ _ _ _=>rfl
 have p3:∀(x0 x1 x2 x3 x4 x5 x6 x7 z:AV),putN [x0,x1,x2,x3,x4,x5,x6,x7] 3 [z]=some [x0,x1,x2,z,x4,x5,x6,x7]:=fun _ _ _ _ _ _ _ _ _=>rfl
 have p1:∀(x0 x1 x2 x3 x4 x5 x6 x7 z:AV),putN [x0,x1,x2,x3,x4,x5,x6,x7] 1 [z]=some [x0,z,x2,x3,x4,x5,x6,x7]:=fun _ _ _ _ _ _ _ _ _=>rfl
 have w3:IntKind.i64.wrap ((s.held:Int)+1)=((s.held+1:Nat):Int):=by rw[qf]<;>omega
 have a24:=and24 s.low hlow
 have s8:∀t o o',binV Tryz.prog .shl t o o' (.int .u64 ((s.low%16777216:Nat):Int)) (.int .u64 8)=some (.int .u64 ((s.low%16777216*256:Nat):Int)):=by
  intro t o o'
  rw[zn _ _ _ _ _ _ _ _ (by omega)]
  have e2:(2:Int)^min (8:Int).toNat IntKind.u64.bits=256:=rfl
  have e3:((s.low%16777216:Nat):Int)*256=((s.low%16777216*256:Nat):Int):=by omega
  rw[e2,e3,qr (by omega) (by omega)]
 simp only[EC]at h⊢
 rw[B140_8_eq]
 generalize((s.low%16777216*256:Nat):Int)=y1 at*
 generalize((s.low%16777216:Nat):Int)=y2 at*
 generalize((s.held+1:Nat):Int)=hh at*
 simp[h,gs3,w3,p3,qh,qj,B140_9_eq,gs1E,a24,s8,p1,-qE]
theorem run_shift(s:En)(hp:Hp)(hlow:s.low<18446744073709551616)(hheld:s.held<1000000)(hol:s.out.length+s.held+1<=1000000)(h:hp.rd e 0=some (EC m s k n)):
  run cxX 140 [.ptr e 0 0] hp=some (.tup [],hp.put e 0 (EC m (sh s) k n)):=by
 have s1:=shift_1 e m k n hk s hp hlow hol h _ rfl
 have s8:=shift_8 e m k n s hp hlow hheld h
 have hR:hp.rd e 0=some (AV.ptr m 0 0::.sc (.int .u64 (s.low:Int))::(EC m s k n).drop 2):=h
 rw[E140]
 by_cases hA:s.low<4278190080\/4294967296<=s.low
 ·have es:sh s=⟨s.low%16777216*256,s.width,0,s.low/16777216%256,true,s.out++(if s.begun then [(((s.last+s.low/4294967296%256)%256:Nat):Int)]else [])++List.replicate s.held (((255+s.low/4294967296%256)%256:Nat):Int)⟩:=by
   unfold sh;rw[if_pos hA]
  rw[<-es]at s1
  by_cases h1:s.low<4278190080
  ·have d1:decide ((s.low:Int)<Int.ofNat 4278190080)=true:=decide_eq_true (by show(s.low:Int)<((4278190080:Nat):Int);omega)
   rw[xP hR (gs1E _ _ _),iC_lss,d1,cond_true,s1]
  ·have d1:decide ((s.low:Int)<Int.ofNat 4278190080)=false:=decide_eq_false (by show ¬((s.low:Int)<((4278190080:Nat):Int));omega)
   have d2:decide ((s.low:Int)>=Int.ofNat 4294967296)=true:=decide_eq_true (by show(s.low:Int)>=((4294967296:Nat):Int);omega)
   rw[xP hR (gs1E _ _ _),iC_lss,d1,cond_false,xP hR (gs1E _ _ _),iC_geq,d2,cond_true,s1]
 ·have es:sh s=⟨s.low%16777216*256,s.width,s.held+1,s.last,s.begun,s.out⟩:=by
   unfold sh;rw[if_neg hA]
  rw[<-es]at s8
  have d1:decide ((s.low:Int)<Int.ofNat 4278190080)=false:=decide_eq_false (by show ¬((s.low:Int)<((4278190080:Nat):Int));omega)
  have d2:decide ((s.low:Int)>=Int.ofNat 4294967296)=false:=decide_eq_false (by show ¬((s.low:Int)>=((4294967296:Nat):Int));omega)
  rw[xP hR (gs1E _ _ _),iC_lss,d1,cond_false,xP hR (gs1E _ _ _),iC_geq,d2,cond_false,s8]
end
def EW(hp:Hp)(e m cb:Nat)(s:En)(cs:List Nat)(k n:Nat):Prop:=e<hp.next/\hp.rd e 0=some (EC m s k n)/\MW hp m cb cs/\e≠m/\e≠cb
def F3(e m cb:Nat)(hp hp':Hp):Prop:=hp'.next=hp.next/\∀c,c≠e->c≠m->c≠cb->hp'.get c=hp.get c
theorem F3.trans{e m cb:Nat}{a b c:Hp}(h:F3 e m cb a b)(g:F3 e m cb b c):F3 e m cb a c:=
 ⟨by rw[g.1,h.1],fun x h1 h2 h3=>by rw[g.2 x h1 h2 h3,h.2 x h1 h2 h3]⟩
theorem EW.put{hp:Hp}{e m cb:Nat}{s s':En}{cs:List Nat}{k n k' n':Nat}(h:EW hp e m cb s cs k n):EW (hp.put e 0 (EC m s' k' n')) e m cb s' cs k' n'/\F3 e m cb hp (hp.put e 0 (EC m s' k' n')):=by
 obtain⟨h1,h2,h3,h4,h5⟩:=h
 refine⟨⟨h1,qh _ _ _,h3.fr (Fm.put (X:=[e]) hp e _ (by simp)) (by simp;exact fun q=>h4 q.symm) (by simp;exact fun q=>h5 q.symm),h4,h5⟩,rfl,fun c c1 c2 c3=>by simp[Hp.put,c1]⟩
theorem gs2E(x0 x1:AV)(v:Value)(r:List AV):qe (x0::x1::.sc v::r) 2=some v:=rfl
section
variable (e m cb k : Nat) (hk : k = 1 ∨ k = 2)
include hk
theorem norm_loop(x:Nat)(hx:x<64)(cs:List Nat)(hm:okM cs)(n:Nat)(hn:n<1000000):∀(f:Nat) (s:En) (hp:Hp),EW hp e m cb s cs k n->okE s s.width->s.width<4294967296->4294967296<=s.width*256^f*256->eK s+f<=900000->
  ∃hp',B89_9 (.ptr e 0 0) (.int .i64 (x:Int)) hp=some (.sc (.bool true),hp')/\EW hp' e m cb (norm f s) (see cs x) k (n+1)/\F3 e m cb hp hp':=by
 intro f
 have gs2:∀(x0 x1:AV) (v:Value) (r:List AV),qe (x0::x1::.sc v::r) 2=some v:=fun _ _ _ _=>rfl
 have gs7:∀(x0 x1 x2 x3 x4 x5 x6:AV) (v:Value),qe [x0,x1,x2,x3,x4,x5,x6,.sc v] 7=some v:=fun _ _ _ _ _ _ _ _=>rfl
 have gc0:∀(x:AV) (l:List AV),getC (x::l) 0=some x:=fun _ _=>rfl
 have p7:∀(x0 x1 x2 x3 x4 x5 x6 x7 z:AV),putN [x0,x1,x2,x3,x4,x5,x6,x7] 7 [z]=some [x0,x1,x2,x3,x4,x5,x6,z]:=fun _ _ _ _ _ _ _ _ _=>rfl
 have p2:∀(x0 x1 x2 x3 x4 x5 x6 x7 z:AV),putN [x0,x1,x2,x3,x4,x5,x6,x7] 2 [z]=some [x0,x1,z,x3,x4,x5,x6,x7]:=fun _ _ _ _ _ _ _ _ _=>rfl
 have done:∀(s:En) (hp:Hp),EW hp e m cb s cs k n->¬(s.width<16777216)->∃hp',B89_9 (.ptr e 0 0) (.int .i64 (x:Int)) hp=some (.sc (.bool true),hp')/\EW hp' e m cb s (see cs x) k (n+1)/\F3 e m cb hp hp':=by
  intro s hp h hw
  obtain⟨h1,h2,h3,h4,h5⟩:=h
  obtain⟨hp1,a1,a2,a3,a4⟩:=run_see hp m cb x cs h3 hm hx
  have r1:hp1.rd e 0=some (EC m s k n):=by rw[rdg (a4 e h4 h5)];exact h2
  have w1:IntKind.i64.wrap ((n:Int)+1)=((n+1:Nat):Int):=by rw[qf]<;>omega
  have hE:EW hp1 e m cb s (see cs x) k n:=⟨by rw[a3];exact h1,r1,a2,h4,h5⟩
  obtain⟨q1,q2⟩:=hE.put (s':=s) (k':=k) (n':=n+1)
  refine⟨hp1.put e 0 (EC m s k (n+1)),?_,q1,⟨by rw[q2.1,a3],fun c c1 c2 c3=>by rw[q2.2 c c1 c2 c3,a4 c c2 c3]⟩⟩
  have d1:decide ((s.width:Int)<Int.ofNat 16777216)=false:=decide_eq_false (by show ¬((s.width:Int)<((16777216:Nat):Int));omega)
  clear hw
  simp only[EC]at h2 r1⊢
  rw[B89_9_eq]
  generalize((n+1:Nat):Int)=N at*
  rw[xP h2 (gs2E _ _ _ _),iC_lss,d1,cond_false]
  clear d1
  simp[h2,gs2,gc0,a1,r1,gs7,w1,p7]
 induction f with
 |zero=>
  intro s hp h ho hw hf hK
  exact done s hp h (by simp at hf;omega)
 | succ f ih=>
  intro s hp h ho hw hf hK
  by_cases hl:s.width<16777216
  ·have en:norm (f+1) s=norm f (sh (wid s (s.width*256))):=by
    show(if s.width<16777216 then _ else _)=_
    rw[if_pos hl]
   have h':okE (wid s (s.width*256)) s.width:=ho
   obtain⟨a1,a2,a3,a4⟩:=sh_ok (wid s (s.width*256)) s.width h' (by omega)
   have a4:(sh (wid s (s.width*256))).width=s.width*256:=a4
   have a3:eK (sh (wid s (s.width*256)))=eK s+1:=a3
   have hf2:4294967296<=s.width*256*256^f*256:=by
    rw[Nat.pow_succ]at hf
    have e:s.width*(256^f*256)*256=s.width*256*256^f*256:=by
     rw[Nat.mul_assoc s.width 256,Nat.mul_comm 256 (256^f)]
    rwa [e]at hf
   obtain⟨q1,q2⟩:=h.put (s':=wid s (s.width*256)) (k':=k) (n':=n)
   have hlow:s.low<18446744073709551616:=by have:=ho.1;omega
   have hkk:s.out.length+s.begun.toNat+s.held<=900000:=by have:eK s=s.out.length+s.begun.toNat+s.held:=rfl;omega
   have sf:=run_shift e m k n hk (wid s (s.width*256)) _ hlow (by show s.held<_;omega) (by show s.out.length+s.held+1<=_;omega) q1.2.1
   rw[qj]at sf
   obtain⟨v1,v2⟩:=h.put (s':=sh (wid s (s.width*256))) (k':=k) (n':=n)
   obtain⟨hp2,b1,b2,b3⟩:=ih (sh (wid s (s.width*256))) _ v1 (by rw[a4];exact a1) (by rw[a4];omega) (by rw[a4];exact hf2) (by omega)
   rw[en]
   refine⟨hp2,?_,b2,v2.trans b3⟩
   have d1:decide ((s.width:Int)<Int.ofNat 16777216)=true:=decide_eq_true (by show(s.width:Int)<((16777216:Nat):Int);omega)
   have s8:∀t o o',binV Tryz.prog .shl t o o' (.int .u32 (s.width:Int)) (.int .u64 8)=some (.int .u32 ((s.width*256:Nat):Int)):=by
    intro t o o'
    rw[zn _ _ _ _ _ _ _ _ (by omega)]
    have e2:(2:Int)^min (8:Int).toNat IntKind.u32.bits=256:=rfl
    have e3:(s.width:Int)*256=((s.width*256:Nat):Int):=by omega
    rw[e2,e3,qv (by omega) (by omega)]
   have h2:=h.2.1
   have ew:EC m (wid s (s.width*256)) k n=[.ptr m 0 0,.sc (.int .u64 (s.low:Int)),.sc (.int .u32 ((s.width*256:Nat):Int)),.sc (.int .i64 (s.held:Int)),.sc (.int .u8 (s.last:Int)),.sc (.bool s.begun),S k 1 (LI .u8 s.out),.sc (.int .i64 (n:Int))]:=rfl
   rw[ew]at sf
   simp only[EC]at h2
   rw[<-b1,B89_9_eq]
   generalize((s.width*256:Nat):Int)=W at*
   rw[xP h2 (gs2E _ _ _ _),iC_lss,d1,cond_true]
   clear d1
   simp[h2,gs2,s8,p2,sf]
  ·have en:norm (f+1) s=s:=by
    show(if s.width<16777216 then _ else _)=_
    rw[if_neg hl]
   rw[en]
   exact done s hp h hl
theorem run_eput(x:Nat)(hx:x<64)(cs:List Nat)(hm:okM cs)(n:Nat)(hn:n<1000000)(s:En)(hp:Hp)(h:EW hp e m cb s cs k n)(ho:okE s s.width)(hw:16777216<=s.width/\s.width<4294967296)(hK:eK s+4<=900000):
    ∃hp',run cxX 89 [.ptr e 0 0,.sc (.int .i64 (x:Int))] hp=some (.sc (.bool true),hp')/\EW hp' e m cb (norm 4 (nar s cs x)) (see cs x) k (n+1)/\F3 e m cb hp hp':=by
  obtain⟨m1,m2,m3⟩:=hm
  have hn1:1<=cs.getD x 0:=by
    rw[List.getD_eq_getElem?_getD,List.getElem?_eq_getElem (by omega)]
    exact m3 _ (List.getElem_mem _)
  have ht:=qP cs x (by omega)
  have hta:=qS cs (x+1)
  have hpart:4096<=s.width/cs.sum:=by
    rw[Nat.le_div_iff_mul_le (by omega)]
    have:4096*cs.sum<=4096*4096:=Nat.mul_le_mul_left _ m2
    omega
  have hmul:s.width/cs.sum*cs.sum<=s.width:=Nat.div_mul_le_self _ _
  have hsum:s.width/cs.sum*(cs.take x).sum+s.width/cs.sum*cs.getD x 0<=s.width:=by
    rw[<-Nat.mul_add,<-ht]
    exact Nat.le_trans (Nat.mul_le_mul_left _ hta) hmul
  have hge:s.width/cs.sum*1<=s.width/cs.sum*cs.getD x 0:=Nat.mul_le_mul_left _ hn1
  have hpw:s.width/cs.sum<=s.width:=Nat.div_le_self _ _
  obtain⟨o1,o2,o3,o4⟩:=ho
  have ok:okE (nar s cs x) (nar s cs x).width:=by
    refine⟨?_,o2,?_,fun q=>?_⟩
    ·show s.low+s.width/cs.sum*(cs.take x).sum+s.width/cs.sum*cs.getD x 0<=_;omega
    ·show 0<s.width/cs.sum*cs.getD x 0;omega
    · have:=o4 q
      show s.low+s.width/cs.sum*(cs.take x).sum+s.width/cs.sum*cs.getD x 0<=_;omega
  obtain⟨q1,q2⟩:=h.put (s':=nar s cs x) (k':=k) (n':=n)
  obtain⟨hp1,b1,b2,b3⟩:=norm_loop e m cb k hk x hx cs ⟨m1,m2,m3⟩ n hn 4 (nar s cs x) _ q1 ok (by show s.width/cs.sum*cs.getD x 0<_;omega) (by
    show 4294967296<=s.width/cs.sum*cs.getD x 0*256^4*256
    have e:(256:Nat)^4=4294967296:=by decide
    rw[e]
    omega) hK
  refine⟨hp1,?_,b2,q2.trans b3⟩
  have pt:=run_part hp m cb cs h.2.2.1 (by omega) m1 x hx
  have al:=run_mall hp m cb cs h.2.2.1
  have h2:=h.2.1
  have en:EC m (nar s cs x) k n=[.ptr m 0 0,.sc (.int .u64 ((s.low+s.width/cs.sum*(cs.take x).sum:Nat):Int)),.sc (.int .u32 ((s.width/cs.sum*cs.getD x 0:Nat):Int)),.sc (.int .i64 (s.held:Int)),.sc (.int .u8 (s.last:Int)),.sc (.bool s.begun),S k 1 (LI .u8 s.out),.sc (.int .i64 (n:Int))]:=rfl
  rw[en]at b1
  have gs2:∀(x0 x1:AV) (v:Value) (r:List AV),qe (x0::x1::.sc v::r) 2=some v:=fun _ _ _ _=>rfl
  have gc0:∀(x:AV) (l:List AV),getC (x::l) 0=some x:=fun _ _=>rfl
  have p1:∀(x0 x1 x2 x3 x4 x5 x6 x7 z:AV),putN [x0,x1,x2,x3,x4,x5,x6,x7] 1 [z]=some [x0,z,x2,x3,x4,x5,x6,x7]:=fun _ _ _ _ _ _ _ _ _=>rfl
  have p2:∀(x0 x1 x2 x3 x4 x5 x6 x7 z:AV),putN [x0,x1,x2,x3,x4,x5,x6,x7] 2 [z]=some [x0,x1,z,x3,x4,x5,x6,x7]:=fun _ _ _ _ _ _ _ _ _=>rfl
  have w1:IntKind.u32.wrap ((cs.sum:Nat):Int)=((cs.sum:Nat):Int):=qv (by omega) (by omega)
  have qd:∀t o o',binV Tryz.prog .quo t o o' (.int .u32 (s.width:Int)) (.int .u32 (cs.sum:Nat))=some (.int .u32 ((s.width/cs.sum:Nat):Int)):=by
    intro t o o'
    rw[xu _ _ _ _ _ _ _ (by omega),Int.tdiv_eq_ediv_of_nonneg (by omega)]
    have e:(s.width:Int)/((cs.sum:Nat):Int)=((s.width/cs.sum:Nat):Int):=by simp
    rw[e,qv (by omega) (by omega)]
  have hcx:cs.getD x 0<=4096:=by omega
  have htx:(cs.take x).sum<=4096:=by omega
  simp only[EC]at h2
  rw[E89]
  have hz:¬(cs.getD x 0=0):=by omega
  have e1:((s.width/cs.sum:Nat):Int)*(((cs.take x).sum:Nat):Int)=((s.width/cs.sum*(cs.take x).sum:Nat):Int):=by simp
  have e2:((s.width/cs.sum:Nat):Int)*((cs.getD x 0:Nat):Int)=((s.width/cs.sum*cs.getD x 0:Nat):Int):=by simp
  generalize hA:s.width/cs.sum*(cs.take x).sum=A at*
  generalize hB:s.width/cs.sum*cs.getD x 0=B at*
  generalize s.width/cs.sum=p at*
  generalize(cs.take x).sum=tk at*
  generalize cs.getD x 0=gx at*
  have w2:IntKind.u64.wrap (p:Int)=(p:Int):=qr (by omega) (by omega)
  have w3:IntKind.u64.wrap (tk:Int)=(tk:Int):=qr (by omega) (by omega)
  have w4:IntKind.u64.wrap ((p:Int)*(tk:Int))=(A:Int):=by rw[e1,qr (by omega) (by omega)]
  have w5:IntKind.u64.wrap ((s.low:Int)+(A:Int))=((s.low+A:Nat):Int):=by rw[qr]<;>omega
  have w6:IntKind.u32.wrap (gx:Int)=(gx:Int):=qv (by omega) (by omega)
  have w7:IntKind.u32.wrap ((p:Int)*(gx:Int))=(B:Int):=by rw[e2,qv (by omega) (by omega)]
  generalize((s.low+A:Nat):Int)=LA at*
  simp[h2,gc0,pt,hz,gs2,al,cv_3_30,w1,qd,gs1E,zx,w2,jM,w3,w4,w5,p1,w6,w7,qh,p2,qj,b1]
end
theorem norm_lt:∀(f:Nat) (s:En),s.width<4294967296->(norm f s).width<4294967296:=by
 intro f
 induction f with
 |zero=>intro s h;exact h
 | succ f ih=>
  intro s h
  unfold norm
  split
  ·apply ih
   have:(sh (wid s (s.width*256))).width=s.width*256:=by unfold sh;split<;>rfl
   rw[this];omega
  ·exact h
theorem pow_d{B d:Nat}(h1:1<=B)(h2:B*256^d<=4294967296):d<=4:=by
 by_cases h:d<=4
 ·exact h
 ·have h3:(256:Nat)^5<=256^d:=Nat.pow_le_pow_right (by decide) (by omega)
  have h4:1*256^d<=B*256^d:=Nat.mul_le_mul_right _ h1
  have h5:(256:Nat)^5=1099511627776:=by decide
  omega
theorem ebytes_loop(b m n:Nat):∀(f i:Nat) (s:En) (hp:Hp),i+f=5->okE s 1->eK s+f<=950000->hp.rd b 0=some (EC m s 1 n)->
  ∃s',(s'=(Nat.rec s (fun _ t=>sh t) f:En))/\∃hp',B90_6 (.ptr b 0 0) (.int .i64 (i:Int)) hp=some (S 1 1 (LI .u8 s'.out),hp')/\hp'.next=hp.next/\∀c,c≠b->hp'.get c=hp.get c:=by
 intro f
 induction f with
 |zero=>
  intro i s hp h ho hK hr
  have e:i=5:=by omega
  subst e
  refine⟨s,rfl,hp.put b 0 ((EC m s 1 n).set 6 (ro1 (S 1 1 (LI .u8 s.out)))),?_,rfl,fun c hc=>by simp[Hp.put,hc]⟩
  rw[B90_6_eq]
  have gc6:∀(x0 x1 x2 x3 x4 x5 x6 x7:AV),getC [x0,x1,x2,x3,x4,x5,x6,x7] 6=some x6:=fun _ _ _ _ _ _ _ _=>rfl
  simp only[EC]at hr⊢
  simp[hr,gc6]
 | succ f ih=>
  intro i s hp h ho hK hr
  have s1:=sh_ok s 1 ho (by omega)
  have hkk:eK s=s.out.length+s.begun.toNat+s.held:=rfl
  have sf:=run_shift b m 1 n (.inl rfl) s hp (by have:=ho.1;omega) (by omega) (by omega) hr
  obtain⟨s',e1,hp2,a1,a2,a3⟩:=ih (i+1) (sh s) (hp.put b 0 (EC m (sh s) 1 n)) (by omega) (okE_le s1.1 (by omega) (by omega)) (by rw[s1.2.2.1];omega) (qh _ _ _)
  have er:∀(f:Nat) (s:En),(Nat.rec (sh s) (fun _ t=>sh t) f:En)=sh (Nat.rec s (fun _ t=>sh t) f:En):=by
   intro f s
   induction f with
   |zero=>rfl
   |succ f ihf=>show sh _=sh (sh _);rw[ihf]
  refine⟨s',by rw[e1,er],hp2,?_,by rw[a2];rfl,fun c hc=>by rw[a3 c hc];simp[Hp.put,hc]⟩
  have hlt:(i:Int)<5:=by omega
  have w1:IntKind.i64.wrap ((i:Int)+1)=((i+1:Nat):Int):=by rw[qf]<;>omega
  rw[<-a1,B90_6_eq]
  generalize((i+1:Nat):Int)=I at*
  simp[hlt,sf,w1]
theorem run_ebytes(e m n k:Nat)(s:En)(hp:Hp)(he:e<hp.next)(ho:okE s 1)(hK:eK s+5<=950000)(hr:hp.rd e 0=some (EC m s k n)):
    ∃hp',run cxX 90 [.ptr e 0 0] hp=some (S 1 1 (LI .u8 (sh (sh (sh (sh (sh s))))).out),hp')/\Fm [] hp hp':=by
  have hkk:eK s=s.out.length+s.begun.toNat+s.held:=rfl
  obtain⟨s',e1,hp2,a1,a2,a3⟩:=ebytes_loop hp.next m n 5 0 s (hp.new (EC m s 1 n)) rfl ho hK (qs _ _)
  have e1:s'=sh (sh (sh (sh (sh s)))):=e1
  rw[e1]at a1
  refine⟨hp2,?_,by rw[a2];simp,fun c hc _=>by
    have:c≠hp.next:=by omega
    rw[a3 c this];simp[Hp.new,this]⟩
  have gn:∀(x0 x1 x2 x3 x4 x5 x6 x7:AV),getN [x0,x1,x2,x3,x4,x5,x6,x7] 0 8=some [x0,x1,x2,x3,x4,x5,x6,x7]:=fun _ _ _ _ _ _ _ _=>rfl
  have gc6:∀(x0 x1 x2 x3 x4 x5 x6 x7:AV),getC [x0,x1,x2,x3,x4,x5,x6,x7] 6=some x6:=fun _ _ _ _ _ _ _ _=>rfl
  have p8:∀(a0 a1 a2 a3 a4 a5 a6 a7 x0 x1 x2 x3 x4 x5 x6 x7:AV),putN [a0,a1,a2,a3,a4,a5,a6,a7] 0 [x0,x1,x2,x3,x4,x5,x6,x7]=some [x0,x1,x2,x3,x4,x5,x6,x7]:=fun _ _ _ _ _ _ _ _ _ _ _ _ _ _ _ _=>rfl
  have p6:∀(x0 x1 x2 x3 x4 x5 x6 x7 z:AV),putN [x0,x1,x2,x3,x4,x5,x6,x7] 6 [z]=some [x0,x1,x2,x3,x4,x5,z,x7]:=fun _ _ _ _ _ _ _ _ _=>rfl
  have ap:=fun k=>appsI .u8 [] 1 (.inl rfl) 1 (by decide) k s.out (by simp;omega)
  simp at ap
  have hne:e≠hp.next:=by omega
  have r1:∀X,(hp.new X).rd e 0=hp.rd e 0:=fun X=>zE hp X hne
  generalize(sh (sh (sh (sh (sh s))))).out=O at*
  simp only[EC]at hr a1
  rw[E90]
  simp at a1
  simp[hr,gn,qs,zP,p8,okV,r1,gc6,ap,p6,a1]
theorem run_newenc(hp:Hp):∃hp' e m cb,run cxX 88 [.sc (.int .i64 64)] hp=some (.ptr e 0 0,hp')/\EW hp' e m cb en0 cs0 2 0/\hp.next<=e/\hp.next<=m/\hp.next<=cb/\hp.next<=hp'.next/\∀c,c<hp.next->hp'.get c=hp.get c:=by
  obtain⟨hp1,cb,a1,a2,a3,a4,a5⟩:=run_mnew hp
  have hcb:=a2.2.1
  have hm:=a2.1
  refine⟨hp1.new (EC hp.next en0 2 0),hp1.next,hp.next,cb,?_,⟨by simp,qs _ _,a2.fr (Fm.new [] hp1 _) (by simp) (by simp),by omega,by omega⟩,a4,Nat.le_refl _,by omega,by simp;omega,fun c hc=>by
    have:c≠hp1.next:=by omega
    rw[<-a5 c hc]
    simp[Hp.new,this]⟩
  have p0:∀(x0 x1 x2 x3 x4 x5 x6 x7 z:AV),putN [x0,x1,x2,x3,x4,x5,x6,x7] 0 [z]=some [z,x1,x2,x3,x4,x5,x6,x7]:=fun _ _ _ _ _ _ _ _ _=>rfl
  have p2:∀(x0 x1 x2 x3 x4 x5 x6 x7 z:AV),putN [x0,x1,x2,x3,x4,x5,x6,x7] 2 [z]=some [x0,x1,z,x3,x4,x5,x6,x7]:=fun _ _ _ _ _ _ _ _ _=>rfl
  rw[E88]
  simp[a1,p0,p2]
  rfl
theorem cput_loop(l:List Nat)(k' e m cb:Nat)(hl:l.length<=100000)(h64:∀x∈l,x<64):∀(r:List Nat) (i:Nat) (s:En) (cs:List Nat) (hp:Hp),l.drop i=r->i+r.length=l.length->EW hp e m cb s cs 2 i->okM cs->okE s s.width->16777216<=s.width/\s.width<4294967296->eK s<=4*i->
  ∃hp' cs',B37_5 (.ptr e 0 0) (S k' 1 (LI .u8 (nz l))) (.int .i64 (l.length:Int)) (.int .i64 (i:Int)) hp=B37_5 (.ptr e 0 0) (S k' 1 (LI .u8 (nz l))) (.int .i64 (l.length:Int)) (.int .i64 (l.length:Int)) hp'/\
   EW hp' e m cb (enc cs s r) cs' 2 l.length/\F3 e m cb hp hp'/\okE (enc cs s r) (enc cs s r).width/\eK (enc cs s r)<=4*l.length:=by
 intro r
 induction r with
 |nil=>
  intro i s cs hp h hil hE hm ho hw hK
  have e:i=l.length:=by simpa using hil
  subst e
  exact⟨hp,cs,rfl,hE,⟨rfl,fun _ _ _ _=>rfl⟩,ho,hK⟩
 | cons x r ih=>
  intro i s cs hp h hil hE hm ho hw hK
  obtain⟨e1,e2,hi,e3⟩:=ql h
  simp only[List.length_cons]at hil
  have hx:x<64:=h64 x (by rw[<-e3];exact List.getElem_mem _)
  obtain⟨d,b1,b2,b3,b4,b5,b6,b7⟩:=add_ok s cs x hm hx ho ⟨hw.1,Nat.le_of_lt hw.2⟩
  have hd:d<=4:=pow_d b7 (by rw[<-b2];exact b6)
  have hlt2:(norm 4 (nar s cs x)).width<4294967296:=by
   apply norm_lt
   show s.width/cs.sum*cs.getD x 0<_
   have ht:=qP cs x (by have:=hm.1;omega)
   have hta:=qS cs (x+1)
   have hmul:s.width/cs.sum*cs.sum<=s.width:=Nat.div_mul_le_self _ _
   have hle:s.width/cs.sum*cs.getD x 0<=s.width/cs.sum*cs.sum:=Nat.mul_le_mul_left _ (by omega)
   omega
  obtain⟨hp1,c1,c2,c3⟩:=run_eput e m cb 2 (.inr rfl) x hx cs hm i (by omega) s hp hE ho hw (by omega)
  obtain⟨hp2,cs2,d1,d2,d3,d4,d5⟩:=ih (i+1) (norm 4 (nar s cs x)) (see cs x) hp1 e2 (by omega) c2 (see_ok hm hx) b4 ⟨b5,hlt2⟩ (by omega)
  have ee:enc cs s (x::r)=enc (see cs x) (norm 4 (nar s cs x)) r:=rfl
  rw[ee]
  refine⟨hp2,cs2,?_,d2,c3.trans d3,d4,d5⟩
  have hlt:(i:Int)<(l.length:Int):=by omega
  have gs0:∀(v:Value),qe [.sc v] 0=some v:=fun _=>rfl
  have en:∀h,(nz l)[i]'h=(x:Int):=fun h=>by simp[nz,e3]
  have hi4:(i<l.length)=True:=by simp[hi]
  have w1:IntKind.i64.wrap (x:Int)=(x:Int):=qf (by omega) (by omega)
  have w2:IntKind.i64.wrap ((i:Int)+1)=((i+1:Nat):Int):=by rw[qf]<;>omega
  rw[<-d1,B37_5_eq]
  generalize((i+1:Nat):Int)=I at*
  simp[hi4,gs0,en,jy,w1,c1,w2]
theorem run_cdput(l:List Nat)(k:Nat)(hl:l.length<=100000)(h64:∀x∈l,x<64)(hp:Hp):∃hp',run cxX 37 [.sc (.int .i64 64),S k 1 (LI .u8 (nz l))] hp=some (.tup [S 1 1 (LI .u8 (cod l)),.sc (.int .i64 0)],hp')/\Fm [] hp hp':=by
  obtain⟨hp1,e,m,cb,a1,a2,a3,a4,a5,a6,a7⟩:=run_newenc hp
  obtain⟨hp2,cs2,b1,b2,b3,b4,b5⟩:=cput_loop l (rk k) e m cb hl h64 l 0 en0 cs0 hp1 rfl (by simp) a2 okM0 okE0 ⟨by decide,by decide⟩ (by decide)
  obtain⟨hp3,c1,c2⟩:=run_ebytes e m l.length 2 (enc cs0 en0 l) hp2 b2.1 (okE_le b4 b4.2.2.1 (by omega)) (by omega) b2.2.1
  have ec:(sh (sh (sh (sh (sh (enc cs0 en0 l)))))).out=cod l:=rfl
  rw[ec]at c1
  refine⟨hp3,?_,by have:=c2.1;rw[b3.1]at this;omega,fun c hc _=>by
    rw[c2.2 c (by rw[b3.1];omega) (by simp),b3.2 c (by omega) (by omega) (by omega),a7 c hc]⟩
  have b5':B37_5 (.ptr e 0 0) (S (rk k) 1 (LI .u8 (nz l))) (.int .i64 (l.length:Int)) (.int .i64 (l.length:Int)) hp2=some (.tup [S 1 1 (LI .u8 (cod l)),.sc (.int .i64 0)],hp3):=by
    rw[B37_5_eq]
    generalize cod l=O at*
    simp[c1]
  rw[<-b1]at b5'
  have b3':B37_3 (.int .i64 64) (S k 1 (LI .u8 (nz l))) hp=some (.tup [S 1 1 (LI .u8 (cod l)),.sc (.int .i64 0)],hp3):=by
    rw[<-b5',B37_3_eq]
    simp[a1]
  rw[E37]
  simp[b3']
noncomputable section
theorem E23(a0:AV)(hp:Hp):run cxX 23 [a0] hp=(qg 23 a0).bind fun y0=>(qe (List.map ro1 y0) 0).bind fun y1=>iC .geq 39 4 y1 (kB 6) (rQ (.sc (kI 5)) hp) ((getN (List.map ro1 y0) 0 23).bind fun y4=>(getN (List.map ro1 y0) 0 23).bind fun y5=>pA 61 [.agg (List.map ro1 y5)] fun z1=>pS 60 [.agg (List.map ro1 y4),z1] fun y13=>iN y13 (rQ (.sc (kI 4)) hp) ((qe (List.map ro1 y0) 0).bind fun y16=>iC .eql 39 12 y16 (kB 0) ((getC (List.map ro1 y0) 1).bind fun y19=>pS 62 [ro1 y19] fun y23=>rQ (.sc y23) hp) (iC .eql 39 12 y16 (kB 1) ((getN (List.map ro1 y0) 2 2).bind fun y26=>pS 63 [.agg (List.map ro1 y26)] fun y30=>rQ (.sc y30) hp) (iC .eql 39 12 y16 (kB 2) ((getN (List.map ro1 y0) 4 2).bind fun y33=>pS 64 [.agg (List.map ro1 y33)] fun y37=>rQ (.sc y37) hp) (iC .eql 39 12 y16 (kB 3) ((getN (List.map ro1 y0) 6 3).bind fun y40=>pS 65 [.agg (List.map ro1 y40)] fun y44=>rQ (.sc y44) hp) (iC .eql 39 12 y16 (kB 4) ((getN (List.map ro1 y0) 9 3).bind fun y47=>cS 66 [ro (.agg (List.map ro1 y47))] hp fun y49 h2=>rQ (.sc y49) h2) ((getN (List.map ro1 y0) 12 11).bind fun y50=>pS 67 [.agg (List.map ro1 y50)] fun y54=>rQ (.sc y54) hp))))))):=
 (eE 23 ss23 _ _).trans (by kernel_rfl)
theorem E60(a0 a1:AV)(hp:Hp):run cxX 60 [a0,a1] hp=(qg 23 a0).bind fun y0=>(qg 23 a1).bind fun y1=>(qe (List.map ro1 y0) 0).bind fun y2=>(qe (List.map ro1 y1) 0).bind fun y3=>iT .eql 39 6 8 y2 y3 ((getC (List.map ro1 y0) 1).bind fun y6=>(getC (List.map ro1 y1) 1).bind fun y7=>pS 116 [ro1 y6,ro1 y7] fun y11=>iB y11 ((getN (List.map ro1 y0) 2 2).bind fun y13=>(getN (List.map ro1 y1) 2 2).bind fun y14=>pS 117 [.agg (List.map ro1 y13),.agg (List.map ro1 y14)] fun y18=>iB y18 ((getN (List.map ro1 y0) 4 2).bind fun y20=>(getN (List.map ro1 y1) 4 2).bind fun y21=>pS 118 [.agg (List.map ro1 y20),.agg (List.map ro1 y21)] fun y25=>iB y25 ((getN (List.map ro1 y0) 6 3).bind fun y27=>(getN (List.map ro1 y1) 6 3).bind fun y28=>pS 119 [.agg (List.map ro1 y27),.agg (List.map ro1 y28)] fun y32=>iB y32 ((getN (List.map ro1 y0) 9 3).bind fun y34=>(getN (List.map ro1 y1) 9 3).bind fun y35=>pS 120 [.agg (List.map ro1 y34),.agg (List.map ro1 y35)] fun y39=>iB y39 ((getN (List.map ro1 y0) 12 11).bind fun y41=>(getN (List.map ro1 y1) 12 11).bind fun y42=>pS 121 [.agg (List.map ro1 y41),.agg (List.map ro1 y42)] fun y46=>rQ (.sc y46) hp) (rQ (.sc (.bool false)) hp)) (rQ (.sc (.bool false)) hp)) (rQ (.sc (.bool false)) hp)) (rQ (.sc (.bool false)) hp)) (rQ (.sc (.bool false)) hp)) (rQ (.sc (.bool false)) hp):=
 (eE 60 ss60 _ _).trans (by kernel_rfl)
def B61_15(b2 b3:List AV)(hp:Hp):=gb 61 [cc 30 cd61,cc 31 cd61] [(2,.lp 2 0 0),(3,.lp 3 0 0)] [(2,0,b2),(3,0,b3)] hp
theorem E61(a0:AV)(hp:Hp):run cxX 61 [a0] hp=(qg 23 a0).bind fun y0=>(qe (List.map ro1 y0) 0).bind fun y1=>(qe (List.map ro1 y0) 0).bind fun y2=>iC .eql 39 8 y2 (kB 0) ((getC (List.map ro1 y0) 1).bind fun y5=>(qg 1 (ro1 y5)).bind fun y6=>(putN [.sc y1,nl,.sc (kI 0),nl,.sc (kI 0),nl,.sc (kI 0),.sc (kI 0),nl,.sc (kI 0),.sc (kI 0),nl,.sc (kI 0),.sc (kW 0),.sc (kW 0),.sc (kW 0),.sc (kW 0),.sc (kW 0),.sc (kW 0),.sc (kW 0),.sc (Value.float Go.FloatKind.f64 0),.sc (Value.float Go.FloatKind.f64 0),nl] 1 y6).bind fun y7=>B61_15 [.sc (kB 0),nl,.sc (kI 0),nl,.sc (kI 0),nl,.sc (kI 0),.sc (kI 0),nl,.sc (kI 0),.sc (kI 0),nl,.sc (kI 0),.sc (kW 0),.sc (kW 0),.sc (kW 0),.sc (kW 0),.sc (kW 0),.sc (kW 0),.sc (kW 0),.sc (Value.float Go.FloatKind.f64 0),.sc (Value.float Go.FloatKind.f64 0),nl] y7 hp) (iC .eql 39 8 y2 (kB 1) ((getN (List.map ro1 y0) 2 2).bind fun y10=>(qg 2 (.agg (List.map ro1 y10))).bind fun y11=>(putN [.sc y1,nl,.sc (kI 0),nl,.sc (kI 0),nl,.sc (kI 0),.sc (kI 0),nl,.sc (kI 0),.sc (kI 0),nl,.sc (kI 0),.sc (kW 0),.sc (kW 0),.sc (kW 0),.sc (kW 0),.sc (kW 0),.sc (kW 0),.sc (kW 0),.sc (Value.float Go.FloatKind.f64 0),.sc (Value.float Go.FloatKind.f64 0),nl] 2 y11).bind fun y12=>B61_15 [.sc (kB 0),nl,.sc (kI 0),nl,.sc (kI 0),nl,.sc (kI 0),.sc (kI 0),nl,.sc (kI 0),.sc (kI 0),nl,.sc (kI 0),.sc (kW 0),.sc (kW 0),.sc (kW 0),.sc (kW 0),.sc (kW 0),.sc (kW 0),.sc (kW 0),.sc (Value.float Go.FloatKind.f64 0),.sc (Value.float Go.FloatKind.f64 0),nl] y12 hp) (iC .eql 39 8 y2 (kB 2) ((getN (List.map ro1 y0) 4 2).bind fun y15=>(qg 2 (.agg (List.map ro1 y15))).bind fun y16=>(putN [.sc y1,nl,.sc (kI 0),nl,.sc (kI 0),nl,.sc (kI 0),.sc (kI 0),nl,.sc (kI 0),.sc (kI 0),nl,.sc (kI 0),.sc (kW 0),.sc (kW 0),.sc (kW 0),.sc (kW 0),.sc (kW 0),.sc (kW 0),.sc (kW 0),.sc (Value.float Go.FloatKind.f64 0),.sc (Value.float Go.FloatKind.f64 0),nl] 4 y16).bind fun y17=>B61_15 [.sc (kB 0),nl,.sc (kI 0),nl,.sc (kI 0),nl,.sc (kI 0),.sc (kI 0),nl,.sc (kI 0),.sc (kI 0),nl,.sc (kI 0),.sc (kW 0),.sc (kW 0),.sc (kW 0),.sc (kW 0),.sc (kW 0),.sc (kW 0),.sc (kW 0),.sc (Value.float Go.FloatKind.f64 0),.sc (Value.float Go.FloatKind.f64 0),nl] y17 hp) (iC .eql 39 8 y2 (kB 3) ((getN (List.map ro1 y0) 6 3).bind fun y20=>(qg 3 (.agg (List.map ro1 y20))).bind fun y21=>(putN [.sc y1,nl,.sc (kI 0),nl,.sc (kI 0),nl,.sc (kI 0),.sc (kI 0),nl,.sc (kI 0),.sc (kI 0),nl,.sc (kI 0),.sc (kW 0),.sc (kW 0),.sc (kW 0),.sc (kW 0),.sc (kW 0),.sc (kW 0),.sc (kW 0),.sc (Value.float Go.FloatKind.f64 0),.sc (Value.float Go.FloatKind.f64 0),nl] 6 y21).bind fun y22=>B61_15 [.sc (kB 0),nl,.sc (kI 0),nl,.sc (kI 0),nl,.sc (kI 0),.sc (kI 0),nl,.sc (kI 0),.sc (kI 0),nl,.sc (kI 0),.sc (kW 0),.sc (kW 0),.sc (kW 0),.sc (kW 0),.sc (kW 0),.sc (kW 0),.sc (kW 0),.sc (Value.float Go.FloatKind.f64 0),.sc (Value.float Go.FloatKind.f64 0),nl] y22 hp) (iC .eql 39 8 y2 (kB 4) ((getN (List.map ro1 y0) 9 3).bind fun y25=>(qg 3 (.agg (List.map ro1 y25))).bind fun y26=>(putN [.sc y1,nl,.sc (kI 0),nl,.sc (kI 0),nl,.sc (kI 0),.sc (kI 0),nl,.sc (kI 0),.sc (kI 0),nl,.sc (kI 0),.sc (kW 0),.sc (kW 0),.sc (kW 0),.sc (kW 0),.sc (kW 0),.sc (kW 0),.sc (kW 0),.sc (Value.float Go.FloatKind.f64 0),.sc (Value.float Go.FloatKind.f64 0),nl] 9 y26).bind fun y27=>B61_15 [.sc (kB 0),nl,.sc (kI 0),nl,.sc (kI 0),nl,.sc (kI 0),.sc (kI 0),nl,.sc (kI 0),.sc (kI 0),nl,.sc (kI 0),.sc (kW 0),.sc (kW 0),.sc (kW 0),.sc (kW 0),.sc (kW 0),.sc (kW 0),.sc (kW 0),.sc (Value.float Go.FloatKind.f64 0),.sc (Value.float Go.FloatKind.f64 0),nl] y27 hp) (iC .eql 39 8 y2 (kB 5) ((getN (List.map ro1 y0) 12 11).bind fun y30=>(qg 11 (.agg (List.map ro1 y30))).bind fun y31=>(putN [.sc y1,nl,.sc (kI 0),nl,.sc (kI 0),nl,.sc (kI 0),.sc (kI 0),nl,.sc (kI 0),.sc (kI 0),nl,.sc (kI 0),.sc (kW 0),.sc (kW 0),.sc (kW 0),.sc (kW 0),.sc (kW 0),.sc (kW 0),.sc (kW 0),.sc (Value.float Go.FloatKind.f64 0),.sc (Value.float Go.FloatKind.f64 0),nl] 12 y31).bind fun y32=>B61_15 [.sc (kB 0),nl,.sc (kI 0),nl,.sc (kI 0),nl,.sc (kI 0),.sc (kI 0),nl,.sc (kI 0),.sc (kI 0),nl,.sc (kI 0),.sc (kW 0),.sc (kW 0),.sc (kW 0),.sc (kW 0),.sc (kW 0),.sc (kW 0),.sc (kW 0),.sc (Value.float Go.FloatKind.f64 0),.sc (Value.float Go.FloatKind.f64 0),nl] y32 hp) (B61_15 [.sc (kB 0),nl,.sc (kI 0),nl,.sc (kI 0),nl,.sc (kI 0),.sc (kI 0),nl,.sc (kI 0),.sc (kI 0),nl,.sc (kI 0),.sc (kW 0),.sc (kW 0),.sc (kW 0),.sc (kW 0),.sc (kW 0),.sc (kW 0),.sc (kW 0),.sc (Value.float Go.FloatKind.f64 0),.sc (Value.float Go.FloatKind.f64 0),nl] [.sc y1,nl,.sc (kI 0),nl,.sc (kI 0),nl,.sc (kI 0),.sc (kI 0),nl,.sc (kI 0),.sc (kI 0),nl,.sc (kI 0),.sc (kW 0),.sc (kW 0),.sc (kW 0),.sc (kW 0),.sc (kW 0),.sc (kW 0),.sc (kW 0),.sc (Value.float Go.FloatKind.f64 0),.sc (Value.float Go.FloatKind.f64 0),nl] hp)))))):=
 (eE 61 ss61 _ _).trans (by kernel_rfl)
theorem jI(b2 b3:List AV)(hp:Hp):B61_15 b2 b3 hp=(getN b3 0 23).bind fun y33=>(putN b3 0 (List.map ro1 y33)).bind fun y34=>(qg 23 (.agg y33)).bind fun y35=>(putN b2 0 y35).bind fun y36=>(getN y36 0 23).bind fun y37=>rQ (.agg y37) hp:=
 (eB 61 ss61 _ _).trans (by kernel_rfl)
end
noncomputable section
def B62_4(x0:AV)(v3:Value)(hp:Hp):=gb 62 [cc 464 cd62,cc 465 cd62,cc 233 cd62,cl 116 cd62,.inBlock 0,cc 15 cd62] [va 0 x0,vs 3 v3] [] hp
theorem E62(a0:AV)(hp:Hp):run cxX 62 [a0] hp=ln (ro a0) fun y0=>iC .gtr 3 5 (kI y0) (kI 4096) (rQ (.sc (kI 7)) hp) (B62_4 a0 (kI 1) hp):=
 (eE 62 ss62 _ _).trans (by kernel_rfl)
theorem B62_4_eq(x0:AV)(v3:Value)(hp:Hp):B62_4 x0 v3 hp=ln (ro x0) fun y3=>iT .lss 3 7 9 v3 (kI y3) (ixS (ro x0) v3 fun y7=>bC .sub 3 18 v3 (kI 1) fun y8=>ixS (ro x0) y8 fun y10=>iT .leq 30 16 21 y7 y10 (rQ (.sc (kI 8)) hp) (bC .add 3 11 v3 (kI 1) fun y13=>B62_4 x0 y13 hp)) (rQ (.sc (kI 0)) hp):=
 (eB 62 ss62 _ _).trans (by kernel_rfl)
def B73_3(x4 x8:AV)(v9 v10:Value)(hp:Hp):=gb 73 [cc 872 cd73,cc 873 cd73,cl 436 cd73,.inBlock 0,cc 55 cd73,cz 6 cd73] [va 4 x4,va 8 x8,vs 9 v9,vs 10 v10] [] hp
def B73_6(x4:AV)(v6 v7:Value)(x8:AV)(v9 v10:Value)(hp:Hp):=gb 73 [cc 894560 cd73,cc 894561 cd73,cc 447281 cd73,cl 223640 cd73,.inBlock 2,cc 55911 cd73,.inBlock 1,cc 3495 cd73,cl 436 cd73,.inBlock 0,cc 55 cd73,cz 6 cd73] [va 4 x4,vs 6 v6,vs 7 v7,va 8 x8,vs 9 v9,vs 10 v10] [] hp
def B73_7(x4:AV)(v6 v7:Value)(x8:AV)(v9 v10:Value)(hp:Hp):=gb 73 [cc 1789124 cd73,cc 1789125 cd73,.inBlock 3,cl 223640 cd73,.inBlock 2,cc 55911 cd73,.inBlock 1,cc 3495 cd73,cl 436 cd73,.inBlock 0,cc 55 cd73,cz 6 cd73] [va 4 x4,vs 6 v6,vs 7 v7,va 8 x8,vs 9 v9,vs 10 v10] [] hp
def B73_9(x4:AV)(v6 v7:Value)(x8:AV)(v9 v10:Value)(hp:Hp):=gb 73 [cc 223644 cd73,cc 223645 cd73,cc 111823 cd73,.inBlock 1,cc 3495 cd73,cl 436 cd73,.inBlock 0,cc 55 cd73,cz 6 cd73] [va 4 x4,vs 6 v6,vs 7 v7,va 8 x8,vs 9 v9,vs 10 v10] [] hp
def B73_14(x4 x8:AV)(v9 v10:Value)(hp:Hp):=gb 73 [cc 3495 cd73,cl 436 cd73,.inBlock 0,cc 55 cd73,cz 6 cd73] [va 4 x4,va 8 x8,vs 9 v9,vs 10 v10] [] hp
theorem E73(a0:AV)(hp:Hp):run cxX 73 [a0] hp=ln (ro a0) fun y0=>B73_3 nl (ro a0) (kI y0) (kI 0) hp:=
 (eE 73 ss73 _ _).trans (by kernel_rfl)
theorem B73_3_eq(x4 x8:AV)(v9 v10:Value)(hp:Hp):B73_3 x4 x8 v9 v10 hp=iT .lss 3 10 9 v10 v9 (ixS x8 v10 fun y4=>ln (ro x4) fun y5=>B73_6 x4 y4 (kI y5) x8 v9 v10 hp) ((frz1 hp (ro x4)).bind fun y6=>rQ (.tup [y6.1,.sc (kI 0)]) y6.2):=
 (eB 73 ss73 _ _).trans (by kernel_rfl)
theorem B73_6_eq(x4:AV)(v6 v7:Value)(x8:AV)(v9 v10:Value)(hp:Hp):B73_6 x4 v6 v7 x8 v9 v10 hp=iC .gtr 3 16 v7 (kI 0) (bC .sub 3 20 v7 (kI 1) fun y9=>(qR (ro x4)).bind fun y10=>(idx y10.2.2.2.1 y9).bind fun y11=>(chkN y10.2.2.2.2 1).bind fun y12=>(Hp.rd hp y10.1 y10.2.1).bind fun y13=>(qe y13 (Nat.add y10.2.2.1 (Nat.add 0 y11))).bind fun y14=>iT .geq 30 23 24 y14 v6 (B73_7 x4 v6 v7 x8 v9 v10 hp) (B73_9 x4 v6 v7 x8 v9 v10 hp)) (B73_9 x4 v6 v7 x8 v9 v10 hp):=
 (eB 73 ss73 _ _).trans (by kernel_rfl)
theorem B73_7_eq(x4:AV)(v6 v7:Value)(x8:AV)(v9 v10:Value)(hp:Hp):B73_7 x4 v6 v7 x8 v9 v10 hp=bC .sub 3 27 v7 (kI 1) fun y17=>(qR (ro x4)).bind fun y18=>(idx y18.2.2.2.1 y17).bind fun y19=>(chkN y18.2.2.2.2 1).bind fun y20=>(Hp.rd hp y18.1 y18.2.1).bind fun y21=>(qe y21 (Nat.add y18.2.2.1 (Nat.add 0 y19))).bind fun y22=>iT .eql 30 32 33 y22 v6 (B73_14 x4 x8 v9 v10 hp) (B73_6 x4 v6 y17 x8 v9 v10 hp):=
 (eB 73 ss73 _ _).trans (by kernel_rfl)
theorem B73_9_eq(x4:AV)(v6 v7:Value)(x8:AV)(v9 v10:Value)(hp:Hp):B73_9 x4 v6 v7 x8 v9 v10 hp=ln (ro x4) fun y25=>iC .eql 3 36 (kI y25) (kI 4096) (rQ (.tup [nl,.sc (kI 7)]) hp) ((okV [.sc (kW 0)]).bind fun y28=>(appM 4 1 (ro x4) (AV.us 1 [.sc (kW 0)]) hp).bind fun y29=>bC .add 3 42 v7 (kI 1) fun y30=>(qR (ro y29.1)).bind fun y31=>(qI (.ofNat 0) (.ofNat y31.2.2.2.1) none y31.2.2.2.1).bind fun y32=>(qI (.ofNat 0) (.ofNat y32) none y31.2.2.2.1).bind fun y33=>(qI (.ofNat 0) (.ofNat y33) (Option.some y30) 0).bind fun y34=>(chkN y31.2.2.2.2 1).bind fun y35=>(qR (ro y29.1)).bind fun y36=>(qI (.ofNat 0) (.ofNat y36.2.2.2.1) none y36.2.2.2.1).bind fun y37=>(qI (.ofNat 0) (.ofNat y37) none y36.2.2.2.1).bind fun y38=>(qI (.ofNat 0) (.ofNat y38) (Option.some v7) 0).bind fun y39=>(chkN y36.2.2.2.2 1).bind fun y40=>(chkN 1 1).bind fun y41=>(srcM y29.2 1 (AV.ms y36.1 y36.2.1 (Nat.add y36.2.2.1 (Nat.add 0 y39)) (Nat.sub y38 y39) 1)).bind fun y42=>(Hp.rd y29.2 y31.1 y31.2.1).bind fun y43=>(putN y43 (Nat.add y31.2.2.1 (Nat.add 0 y34)) (copyA 1 (Nat.sub y33 y34) y42).2).bind fun y44=>(qR (ro y29.1)).bind fun y45=>(idx y45.2.2.2.1 v7).bind fun y46=>(chkN y45.2.2.2.2 1).bind fun y47=>(Hp.rd (Hp.put y29.2 y31.1 y31.2.1 y44) y45.1 y45.2.1).bind fun y48=>(putN y48 (Nat.add y45.2.2.1 (Nat.add 0 y46)) [.sc v6]).bind fun y49=>B73_14 y29.1 x8 v9 v10 (Hp.put (Hp.put y29.2 y31.1 y31.2.1 y44) y45.1 y45.2.1 y49)):=
 (eB 73 ss73 _ _).trans (by kernel_rfl)
theorem B73_14_eq(x4 x8:AV)(v9 v10:Value)(hp:Hp):B73_14 x4 x8 v9 v10 hp=bC .add 3 10 v10 (kI 1) fun y50=>B73_3 x4 x8 v9 y50 hp:=
 (eB 73 ss73 _ _).trans (by kernel_rfl)
def B116_4(x0 x1:AV)(v12 v13:Value)(hp:Hp):=gb 116 [cc 232 cd116,cc 233 cd116,cl 116 cd116,.inBlock 0,cc 15 cd116] [va 0 x0,va 1 x1,vs 12 v12,vs 13 v13] [] hp
theorem E116(a0 a1:AV)(hp:Hp):run cxX 116 [a0,a1] hp=ln (ro a0) fun y0=>ln (ro a1) fun y1=>iT .neq 3 7 9 (kI y0) (kI y1) (rQ (.sc (.bool false)) hp) (ln (ro a0) fun y4=>B116_4 a0 a1 (kI y4) (kI 0) hp):=
 (eE 116 ss116 _ _).trans (by kernel_rfl)
theorem B116_4_eq(x0 x1:AV)(v12 v13:Value)(hp:Hp):B116_4 x0 x1 v12 v13 hp=iT .lss 3 13 12 v13 v12 (ixS (ro x0) v13 fun y8=>ixS (ro x1) v13 fun y10=>iT .neq 30 19 23 y8 y10 (rQ (.sc (.bool false)) hp) (bC .add 3 13 v13 (kI 1) fun y13=>B116_4 x0 x1 v12 y13 hp)) (rQ (.sc (.bool true)) hp):=
 (eB 116 ss116 _ _).trans (by kernel_rfl)
end
noncomputable section
def B26_3(v1:Value)(x6 x9:AV)(v10 v11:Value)(hp:Hp):=gb 26 [cc 232 cd26,cc 233 cd26,cl 116 cd26,.inBlock 0,cc 15 cd26] [vs 1 v1,va 6 x6,va 9 x9,vs 10 v10,vs 11 v11] [] hp
def B26_7(v1:Value)(x6:AV)(v8:Value)(x9:AV)(v10 v11:Value)(hp:Hp):=gb 26 [cc 7475 cd26,.inBlock 1,cc 935 cd26,cl 116 cd26,.inBlock 0,cc 15 cd26] [vs 1 v1,va 6 x6,vs 8 v8,va 9 x9,vs 10 v10,vs 11 v11] [] hp
theorem E26(a0 a1:AV)(hp:Hp):run cxX 26 [a0,a1] hp=aS a1 fun y0=>ln (ro a0) fun y1=>B26_3 y0 nl (ro a0) (kI y1) (kI 0) hp:=
 (eE 26 ss26 _ _).trans (by kernel_rfl)
theorem B26_3_eq(v1:Value)(x6 x9:AV)(v10 v11:Value)(hp:Hp):B26_3 v1 x6 x9 v10 v11 hp=iT .lss 3 11 10 v11 v10 (ixS x9 v11 fun y5=>iB v1 (bC .rem 30 16 y5 (kW 50) fun y7=>B26_7 v1 x6 y7 x9 v10 v11 hp) (B26_7 v1 x6 y5 x9 v10 v11 hp)) (pT 2 73 [ro x6] fun z1=>aS (nthA z1 1) fun y12=>rQ (.tup [nthA z1 0,.sc y12]) hp):=
 (eB 26 ss26 _ _).trans (by kernel_rfl)
theorem B26_7_eq(v1:Value)(x6:AV)(v8:Value)(x9:AV)(v10 v11:Value)(hp:Hp):B26_7 v1 x6 v8 x9 v10 v11 hp=ap 4 x6 v8 fun y14=>bC .add 3 11 v11 (kI 1) fun y15=>B26_3 v1 y14 x9 v10 y15 hp:=
 (eB 26 ss26 _ _).trans (by kernel_rfl)
end
theorem ssame_loop(a b:List Int)(k k':Nat)(hab:a.length=b.length)(hl:a.length<=1000000)(hp:Hp):∀(r s:List Int) (i:Nat),a.drop i=r->b.drop i=s->
  B116_4 (S k 1 (LI .u32 a)) (S k' 1 (LI .u32 b)) (.int .i64 a.length) (.int .i64 i) hp=some (.sc (.bool (decide (r=s))),hp):=by
 intro r
 induction r with
 |nil=>
  intro s i hr hs
  have h1:=qt hr
  have h2:s=[]:=by rw[<-hs];exact List.drop_eq_nil_of_le (by omega)
  have hlt:¬((i:Int)<(a.length:Int)):=by omega
  rw[B116_4_eq]
  simp[hlt,h2]
 | cons x r ih=>
  intro s i hr hs
  obtain⟨e1,e2,hi,e3⟩:=ql hr
  rw[B116_4_eq]
  have hw:IntKind.i64.wrap ((i:Int)+1)=((i+1:Nat):Int):=by rw[qf]<;>omega
  cases s with
  |nil=>have:=qt hs;omega
  |cons y s=>
   obtain⟨f1,f2,hj,f3⟩:=ql hs
   have h:=ih s (i+1) e2 f2
   simp at h hw
   by_cases e:x=y
   ·simp[hi,hj,qe,e3,f3,e,hw,h]
   ·simp[hi,hj,qe,e3,f3,e]
theorem run_ssame(a b:List Int)(k k':Nat)(hp:Hp)(ha:a.length<=1000000):
  run cxX 116 [S k 1 (LI .u32 a),S k' 1 (LI .u32 b)] hp=some (.sc (.bool (decide (a=b))),hp):=by
 rw[E116]
 by_cases h3:a.length=b.length
 ·have h:=ssame_loop a b k k' h3 ha hp a b 0 rfl rfl
  simp at h
  rw[h3]at h
  simp[h3,h]
 ·have h4:¬(a=b):=fun e=>h3 (by rw[e])
  have h5:¬((a.length:Int)=(b.length:Int)):=by omega
  simp[h4,h5]
def ordS:List Int->Int
 |[]=>0
 |[_]=>0
 |x::y::r=>if y<=x then 8 else ordS (y::r)
def schk(l:List Int):Int:=if 4096<l.length then 7 else ordS l
theorem ordS_rise:∀{l:List Int},Rise l->ordS l=0
 |[],_=>rfl
 |[_],_=>rfl
 |x::y::r,h=>by
  have h':=List.pairwise_cons.mp h
  have hxy:=h'.1 y (by simp)
  show(if y<=x then 8 else ordS (y::r))=0
  rw[if_neg (by omega)]
  exact ordS_rise h'.2
theorem rise_ordS:∀{l:List Int},ordS l=0->Rise l
 |[],_=>List.Pairwise.nil
 |[_],_=>by simp
 | x::y::r,h=>by
  have h:(if y<=x then 8 else ordS (y::r))=0:=h
  split at h
  ·cases h
  ·rename_i hxy
   have ih:=rise_ordS h
   have ih':=List.pairwise_cons.mp ih
   refine List.pairwise_cons.mpr ⟨fun n hn=>?_,ih⟩
   rcases List.mem_cons.mp hn with rfl|hn
   ·omega
   ·have:=ih'.1 n hn;omega
theorem scheck_loop(l:List Int)(k:Nat)(hl:l.length<=4096)(hp:Hp):∀(r:List Int) (x:Int) (j:Nat),l.drop j=x::r->
  B62_4 (S k 1 (LI .u32 l)) (.int .i64 ((j+1:Nat):Int)) hp=some (.sc (.int .i64 (ordS (x::r))),hp):=by
 intro r
 induction r with
 |nil=>
  intro x j hr
  obtain⟨e1,e2,hi,e3⟩:=ql hr
  have:=qt e2
  have hlt:¬((j:Int)+1<(l.length:Int)):=by omega
  rw[B62_4_eq]
  simp[hlt,ordS]
 |cons y r ih=>
  intro x j hr
  obtain⟨e1,e2,hi,e3⟩:=ql hr
  obtain⟨f1,f2,hj,f3⟩:=ql e2
  have hlt:(j:Int)+1<(l.length:Int):=by omega
  have hw:IntKind.i64.wrap ((j:Int)+1-1)=(j:Int):=by rw[qf]<;>omega
  have hw2:IntKind.i64.wrap ((j:Int)+1+1)=((j+1+1:Nat):Int):=by rw[qf]<;>omega
  have hz:(0:Int)<=(j:Int)+1:=by omega
  have hn:((j:Int)+1).toNat=j+1:=by omega
  have h:=ih y (j+1) e2
  rw[B62_4_eq]
  simp at h hw hw2
  by_cases hxy:y<=x
  ·simp[hlt,hw,hz,hn,hi,hj,qe,e3,f3,hxy,ordS]
  ·simp[hlt,hw,hw2,hz,hn,hi,hj,qe,e3,f3,hxy,ordS,h]
theorem run_scheck(l:List Int)(k:Nat)(hp:Hp):run cxX 62 [S k 1 (LI .u32 l)] hp=some (.sc (.int .i64 (schk l)),hp):=by
 rw[E62]
 unfold schk
 by_cases hl:4096<l.length
 ·have:(4096:Int)<(l.length:Int):=by omega
  simp[hl,this]
 ·have:¬((4096:Int)<(l.length:Int)):=by omega
  cases l with
  | nil=>
   have h0:B62_4 (S k 1 []) (.int .i64 1) hp=some (.sc (.int .i64 0),hp):=by
    rw[B62_4_eq]
    simp
   simp[h0,ordS]
  |cons x r=>
   have h:=scheck_loop (x::r) k (by omega) hp r x 0 rfl
   simp at h hl this
   have h1:¬(4096<r.length+1):=by omega
   have h2:¬((4096:Int)<(r.length:Int)+1):=by omega
   simp[h,h1,h2]
def MsR(hp:Hp)(x:AV)(l:List Int):Prop:=(l=[]/\x=S 2 1 [])\/(l≠[]/\∃b,x= .ms b 0 0 l.length 1/\hp.rd b 0=some (LI .u32 l))
theorem MsR.len{hp:Hp}{x:AV}{l:List Int}(h:MsR hp x l):lenA (ro x)=some l.length:=by
 rcases h with⟨rfl,rfl⟩|⟨_,b,rfl,_⟩
 ·simp
 ·simp
theorem mrg_ins{a b:List Int}{n:Int}(h:Rise (a++b))(ha:∀x∈a,x<n)(hb:∀x∈b,n<x):mrg (a++b) [n]=a++n::b:=by
 have h':=List.pairwise_append.mp h
 refine rise_ext (rise_mrg _ _ h (by simp)) ?_ (fun x=>?_)
 ·refine List.pairwise_append.mpr ⟨h'.1,List.pairwise_cons.mpr ⟨fun x hx=>hb x hx,h'.2.1⟩,fun x hx y hy=>?_⟩
  rcases List.mem_cons.mp hy with rfl|hy
  ·exact ha x hx
  ·exact h'.2.2 x hx y hy
 ·rw[xO];simp
  constructor
  ·rintro((h|h)|h)<;>simp[h]
  ·rintro(h|h|h)<;>simp[h]
theorem of_ins(a b:List Int)(n:Int)(x x8:AV)(v9 v10:Value)(hp:Hp)(hx:MsR hp x (a++b))(hl:(a++b).length<4096):
  ∃x' hp',MsR hp' x' (a++n::b)/\B73_9 x (.int .u32 n) (.int .i64 a.length) x8 v9 v10 hp=B73_14 x' x8 v9 v10 hp':=by
 have hne:¬(((a++b).length:Int)=4096):=by omega
 --the append
 obtain⟨c,hp1,hc,ap⟩:∃c hp1,hp1.rd c 0=some (LI .u32 (a++b++[0]))/\appM 4 1 (ro x) (S 1 1 [.sc (.int .u32 0)]) hp=some (.ms c 0 0 ((a++b).length+1) 1,hp1):=by
  rcases hx with⟨e,rfl⟩|⟨e,c,rfl,hc⟩
  ·refine⟨hp.next,hp.new (LI .u32 [0]),?_,?_⟩
   ·rw[e];exact qs _ _
   ·rw[e];exact appM_first .u32 0 4 (by decide) hp
  ·exact⟨hp.next,(hp.del c).new (LI .u32 (a++b++[0])),qs (hp.del c) _,appM_one .u32 (a++b) 0 4 c (by decide) (by omega) e hp hc⟩
 have e0:(a++b++[0]).length=(a++b).length+1:=by simp;omega
 have e1:(a++b).length=a.length+b.length:=by simp
 have lx:=hx.len
 --the copy
 have sm:=srcM_ms .u32 (a++b++[0]) hp1 c a.length ((a++b).length+1-a.length) hc (by omega)
 have sm2:((a++b++[0]).drop a.length).take ((a++b).length+1-a.length)=b++[0]:=by
  rw[List.append_assoc,List.drop_left]
  exact List.take_of_length_le (by simp;omega)
 rw[sm2]at sm
 have cp:(copyA 1 ((a++b).length+1-(a.length+1)) (LI .u32 (b++[0]))).2=LI .u32 b:=by
  unfold copyA
  simp only[many_one,lenI,Nat.mul_one]
  have e:min (b++[0]).length ((a++b).length+1-(a.length+1))=b.length:=by simp
  rw[e,takeI,List.take_left]
 have p1:=putNs_I .u32 (a++b++[0]) b (a.length+1) (by omega)
 have p1':(a++b++[0]).take (a.length+1)++b++(a++b++[0]).drop (a.length+1+b.length)=a++((b++[0]).take 1++b):=by
  have d:(a++b++[0]).drop (a.length+1+b.length)=[]:=List.drop_eq_nil_of_le (by omega)
  rw[d,List.append_nil,List.append_assoc a b,List.take_append]
  have e:a.length+1-a.length=1:=by omega
  rw[e,List.take_of_length_le (by omega:a.length<=a.length+1),List.append_assoc]
 rw[p1']at p1
 obtain⟨z,hz⟩:∃z,(b++[0]).take 1=[z]:=by
  cases b with
  |nil=>exact⟨0,rfl⟩
  |cons y b=>exact⟨y,rfl⟩
 rw[hz]at p1
 have hlen2:(a++([z]++b)).length=(a++b).length+1:=by simp;omega
 have p2:=putN_I .u32 (a++([z]++b)) a.length n (by simp)
 have p2':(a++([z]++b)).set a.length n=a++n::b:=by simp
 rw[p2']at p2
 have hlen3:(a++n::b).length=(a++b).length+1:=by simp;omega
 have w1:IntKind.i64.wrap ((a.length:Int)+((1:Nat):Int))=((a.length+1:Nat):Int):=by rw[qf]<;>omega
 have bd1:=yn (hi:=(a++b).length+1) (d:=0) (n:=a.length+1) .i64 (by omega)
 have bd2:=yn (hi:=(a++b).length+1) (d:=0) (n:=a.length) .i64 (by omega)
 have ix:=zm (n:=(a++b).length+1) (i:=a.length) .i64 (by omega)
 refine⟨.ms c 0 0 (a++n::b).length 1,((hp1.put c 0 (LI .u32 (a++([z]++b)))).put c 0 (LI .u32 (a++n::b))),.inr ⟨by simp,c,rfl,qh _ _ _⟩,?_⟩
 rw[hlen3,B73_9_eq]
 have hz0:(((a++b).length:Nat):Int)=((4096:Nat):Int)↔False:=⟨fun h=>hne (by omega),False.elim⟩
 have uS:AV.us 1 [ro1 (AV.sc (.int .u32 (0:Int)))]=S 1 1 [.sc (.int .u32 0)]:=rfl
 have ov:okV [AV.sc (Value.int IntKind.u32 (0:Int))]=some ():=by rw[okV_eq];exact if_pos (by simp)
 generalize(a++b).length=m at*
 have z0:((0:Nat):Int)=0:=rfl
 simp only[cmb,lx,Option.bind_some,Int.ofNat_eq_natCast,binV_eql,hz0,z0,yN,decide_false,zN,cond_false,ov,uS,us_S,ap,zV,w1,ro_ms,yH,bound_none,bd1,bd2,xS,chk_eq,sm,hc,Nat.add_eq,Nat.zero_add,Nat.sub_eq,cp,p1,ix,qh,p2]
theorem of_scan(n:Int)(x8:AV)(v9 v10:Value):∀(m:Nat) (a b:List Int) (x:AV) (hp:Hp),a.length=m->MsR hp x (a++b)->Rise (a++b)->(∀y∈b,n<y)->(a++b).length<4096->
    ∃x' hp',MsR hp' x' (mrg (a++b) [n])/\B73_6 x (.int .u32 n) (.int .i64 a.length) x8 v9 v10 hp=B73_14 x' x8 v9 v10 hp':=by
  intro m
  induction m with
  | zero=>
    intro a b x hp hm hx hr hb hl
    have:a=[]:=List.length_eq_zero_iff.mp hm
    subst this
    obtain⟨x',hp',h1,h2⟩:=of_ins [] b n x x8 v9 v10 hp hx hl
    refine⟨x',hp',?_,?_⟩
    ·rw[mrg_ins hr (by simp) hb];exact h1
    · rw[B73_6_eq]
      simpa using h2
  | succ m ih=>
    intro a b x hp hm hx hr hb hl
    obtain⟨a',y,rfl⟩:∃a' y,a=a'++[y]:=⟨a.dropLast,a.getLast (by intro e;subst e;simp at hm),(List.dropLast_concat_getLast _).symm⟩
    have hm':a'.length=m:=by simpa using hm
    have hne:a'++[y]++b≠[]:=by simp
    obtain⟨c,rfl,hc⟩:∃c,x= .ms c 0 0 (a'++[y]++b).length 1/\hp.rd c 0=some (LI .u32 (a'++[y]++b)):=by
      rcases hx with⟨e,_⟩|⟨_,c,h1,h2⟩
      ·exact absurd e hne
      ·exact⟨c,h1,h2⟩
    have hpos:(0:Int)<((a'++[y]).length:Int):=by omega
    have hm4:m<4096:=by simp at hl;omega
    have w1:IntKind.i64.wrap (((a'++[y]).length:Int)-1)=(a'.length:Int):=by rw[hm,qf]<;>omega
    have ix:=zm (n:=(a'++[y]++b).length) (i:=a'.length) .i64 (by simp)
    have gs:(a'++[y]++b)[a'.length]?=some y:=by simp
    have hr':=List.pairwise_append.mp hr
    have hra:=List.pairwise_append.mp hr'.1
    rw[B73_6_eq]
    have hpos':(((a'++[y]).length:Nat):Int)>((0:Nat):Int)↔True:=⟨fun _=>trivial,fun _=>hpos⟩
    have w1':IntKind.i64.wrap ((((a'++[y]).length:Nat):Int)-((1:Nat):Int))=(a'.length:Int):=w1
    by_cases hy:n<=y
    · have hge:(y>=n)↔True:=⟨fun _=>trivial,fun _=>hy⟩
      by_cases he:y=n
      · --it is there
        subst he
        refine⟨.ms c 0 0 (a'++[y]++b).length 1,hp,?_,?_⟩
        · rw[mrg_sub hr (by simp) (by simp)]
          exact .inr ⟨hne,c,rfl,hc⟩
        · generalize hN:(a'++[y]++b).length=N at*
          simp only[cmb,Int.ofNat_eq_natCast,binV_gtr,hpos',decide_true,zN,Option.bind_some,cond_true,yQ,w1',ro_ms,yH,ix,xS,chk_eq,yN,hc,Nat.add_eq,Nat.zero_add,qe,getI?,gs,Option.map_some,yj,binV_geq,hge]
          rw[B73_7_eq]
          simp only[cmb,Int.ofNat_eq_natCast,binV_gtr,hpos',decide_true,zN,Option.bind_some,cond_true,yQ,w1',ro_ms,yH,ix,xS,chk_eq,yN,hc,Nat.add_eq,Nat.zero_add,qe,getI?,gs,Option.map_some,yj,binV_eql]
      · have e2:a'++[y]++b=a'++(y::b):=by simp
        obtain⟨x',hp',h1,h2⟩:=ih a' (y::b) (.ms c 0 0 (a'++[y]++b).length 1) hp hm' (by rw[<-e2];exact .inr ⟨hne,c,rfl,hc⟩) (by rw[<-e2];exact hr) (fun z hz=>by
          rcases List.mem_cons.mp hz with rfl|hz
          ·omega
          ·exact hb z hz) (by rw[<-e2];exact hl)
        refine⟨x',hp',by rw[e2];exact h1,?_⟩
        have hne2:(y=n)↔False:=⟨fun h=>he h,False.elim⟩
        generalize hN:(a'++[y]++b).length=N at*
        simp only[cmb,Int.ofNat_eq_natCast,binV_gtr,hpos',decide_true,zN,Option.bind_some,cond_true,yQ,w1',ro_ms,yH,ix,xS,chk_eq,yN,hc,Nat.add_eq,Nat.zero_add,qe,getI?,gs,Option.map_some,yj,binV_geq,hge]
        rw[B73_7_eq]
        simp only[cmb,Int.ofNat_eq_natCast,binV_gtr,hpos',decide_true,zN,Option.bind_some,cond_true,cond_false,decide_false,yQ,w1',ro_ms,yH,ix,xS,chk_eq,yN,hc,Nat.add_eq,Nat.zero_add,qe,getI?,gs,Option.map_some,yj,binV_eql,hne2]
        exact h2
    · have hge:(y>=n)↔False:=⟨fun h=>hy h,False.elim⟩
      obtain⟨x',hp',h1,h2⟩:=of_ins (a'++[y]) b n (.ms c 0 0 (a'++[y]++b).length 1) x8 v9 v10 hp (.inr ⟨hne,c,rfl,hc⟩) hl
      refine⟨x',hp',?_,?_⟩
      · rw[mrg_ins hr (fun z hz=>?_) hb]
        ·exact h1
        · rcases List.mem_append.mp hz with hz|hz
          ·have:=hra.2.2 z hz y (by simp);omega
          ·simp at hz;omega
      · generalize hN:(a'++[y]++b).length=N at*
        simp only[cmb,Int.ofNat_eq_natCast,binV_gtr,hpos',decide_true,decide_false,zN,Option.bind_some,cond_true,cond_false,yQ,w1',ro_ms,yH,ix,xS,chk_eq,yN,hc,Nat.add_eq,Nat.zero_add,qe,getI?,gs,Option.map_some,yj,binV_geq,hge]
        exact h2
theorem of_loop(l:List Int)(k:Nat)(hl:l.length<=4096):∀(r:List Int) (i:Nat) (s:List Int) (x:AV) (hp:Hp),l.drop i=r->Rise s->s.length<=i->i<=l.length->MsR hp x s->
  ∃t hp',B73_3 x (S k 1 (LI .u32 l)) (.int .i64 l.length) (.int .i64 i) hp=some (.tup [S t 1 (LI .u32 (srt s r)),.sc (.int .i64 0)],hp'):=by
 intro r
 induction r with
 | nil=>
  intro i s x hp hr hs hsl hil hx
  have:=qt hr
  have hlt:¬((i:Int)<(l.length:Int)):=by omega
  rcases hx with⟨rfl,rfl⟩|⟨_,b,rfl,hb⟩
  ·refine⟨2,hp,?_⟩
   rw[B73_3_eq]
   simp[hlt,srt]
  ·have f:=frz1_I .u32 s hp b hb
   refine⟨0,hp.del b,?_⟩
   rw[B73_3_eq]
   simp[hlt,srt,f]
 | cons y r ih=>
  intro i s x hp hr hs hsl hil hx
  obtain⟨e1,e2,hi,e3⟩:=ql hr
  have hw:IntKind.i64.wrap ((i:Int)+1)=((i+1:Nat):Int):=by rw[qf]<;>omega
  obtain⟨x',hp1,h1,h2⟩:=of_scan y (S k 1 (LI .u32 l)) (.int .i64 l.length) (.int .i64 i) s.length s [] x hp rfl (by simpa using hx) (by simpa using hs) (by simp) (by simp;omega)
  rw[List.append_nil]at h1
  have hl1:(mrg s [y]).length<=s.length+1:=by simpa using len_mrg s [y]
  obtain⟨t,hp',h⟩:=ih (i+1) (mrg s [y]) x' hp1 e2 (rise_mrg _ _ hs (by simp)) (by omega) (by omega) h1
  refine⟨t,hp',?_⟩
  have lx:=hx.len
  rw[B73_3_eq]
  have h14:B73_14 x' (S k 1 (LI .u32 l)) (.int .i64 l.length) (.int .i64 i) hp1=B73_3 x' (S k 1 (LI .u32 l)) (.int .i64 l.length) (.int .i64 ((i+1:Nat):Int)) hp1:=by
   rw[B73_14_eq]
   simp at hw
   simp[hw]
  rw[h14]at h2
  simp at h2 h
  simp[hi,e3,qe,lx,h2,h,srt]
theorem run_of_set(l:List Int)(k:Nat)(hl:l.length<=4096)(hp:Hp):∃t hp',run cxX 73 [S k 1 (LI .u32 l)] hp=some (.tup [S t 1 (LI .u32 (srt [] l)),.sc (.int .i64 0)],hp'):=by
 obtain⟨t,hp',h⟩:=of_loop l (rk k) hl l 0 [] (S 2 1 []) hp rfl List.Pairwise.nil (by simp) (by simp) (.inl ⟨rfl,rfl⟩)
 refine⟨t,hp',?_⟩
 rw[E73]
 simpa using h
theorem law11_loop(l:List Int)(k:Nat)(hl:l.length<=4096)(hp:Hp):∀(r:List Int) (i:Nat) (a:List Int),l.drop i=r->a.length<=i->i<=l.length->
  ∃t,B26_3 (.bool false) (S 2 1 (LI .u32 a)) (S k 1 (LI .u32 l)) (.int .i64 l.length) (.int .i64 i) hp=some (.tup [S t 1 (LI .u32 (srt [] (a++r))),.sc (.int .i64 0)],hp):=by
 intro r
 induction r with
 |nil=>
  intro i a hr ha hil
  have:=qt hr
  have hlt:¬((i:Int)<(l.length:Int)):=by omega
  obtain⟨t,hp',h⟩:=run_of_set a 3 (by omega) hp0
  refine⟨t,?_⟩
  rw[B26_3_eq]
  simp[hlt,h]
 |cons y r ih=>
  intro i a hr ha hil
  obtain⟨e1,e2,hi,e3⟩:=ql hr
  have hw:IntKind.i64.wrap ((i:Int)+1)=((i+1:Nat):Int):=by rw[qf]<;>omega
  have ap:=appI .u32 a 2 (.inr rfl) 4 (by decide) y (by omega)
  obtain⟨t,h⟩:=ih (i+1) (a++[y]) e2 (by simp;omega) (by omega)
  refine⟨t,?_⟩
  rw[B26_3_eq]
  simp at h hw ap
  simp[hi,e3,qe,B26_7_eq,ap,hw,h]
theorem run_of11(l:List Int)(k:Nat)(hl:l.length<=4096)(hp:Hp):∃t,run cxX 26 [S k 1 (LI .u32 l),.sc (.bool false)] hp=some (.tup [S t 1 (LI .u32 (srt [] l)),.sc (.int .i64 0)],hp):=by
 obtain⟨t,h⟩:=law11_loop l (rk k) hl hp l 0 [] rfl (by simp) (by simp)
 refine⟨t,?_⟩
 rw[E26]
 simp at h
 simp[h]
noncomputable section
def B64_2(hp:Hp):=gb 64 [cc 100 cd64,cc 101 cd64,.inBlock 0,cc 7 cd64] [] [] hp
def B64_3(b1:List AV)(hp:Hp):=gb 64 [cc 102 cd64,cc 103 cd64,.inBlock 0,cc 7 cd64] [(1,.lp 1 0 0)] [(1,0,b1)] hp
def B64_6(x23:AV)(v24 v25:Value)(b1:List AV)(hp:Hp):=gb 64 [cc 232 cd64,cc 233 cd64,cl 116 cd64,.inBlock 1,cc 15 cd64] [(1,.lp 1 0 0),va 23 x23,vs 24 v24,vs 25 v25] [(1,0,b1)] hp
theorem E64(a0:AV)(hp:Hp):run cxX 64 [a0] hp=(qg 2 a0).bind fun y0=>(qe (List.map ro1 y0) 0).bind fun y1=>iC .lss 3 7 y1 (kI 4) (B64_2 hp) ((qe (List.map ro1 y0) 0).bind fun y4=>iC .gtr 3 11 y4 (kI 8) (B64_2 hp) (B64_3 (List.map ro1 y0) hp)):=
 (eE 64 ss64 _ _).trans (by kernel_rfl)
theorem B64_2_eq(hp:Hp):B64_2 hp=rQ (.sc (kI 2)) hp:=
 (eB 64 ss64 _ _).trans (by kernel_rfl)
theorem B64_3_eq(b1:List AV)(hp:Hp):B64_3 b1 hp=(getC b1 1).bind fun y7=>ln (ro1 y7) fun y8=>(qe b1 0).bind fun y9=>bG .shl 3 (.const (kI 1)) (.tmp 19) (kI 1) y9 fun y10=>iT .neq 3 17 20 (kI y8) y10 (rQ (.sc (kI 6)) hp) ((getC b1 1).bind fun y13=>ln (ro1 y13) fun y14=>B64_6 (ro1 y13) (kI y14) (kI 0) b1 hp):=
 (eB 64 ss64 _ _).trans (by kernel_rfl)
theorem B64_6_eq(x23:AV)(v24 v25:Value)(b1:List AV)(hp:Hp):B64_6 x23 v24 v25 b1 hp=iT .lss 3 25 24 v25 v24 (ixS x23 v25 fun y18=>cV 5 3 y18 fun y19=>(getN b1 0 2).bind fun y20=>pS 122 [.agg (List.map ro1 y20)] fun y24=>iT .gtr 3 30 32 y19 y24 (rQ (.sc (kI 2)) hp) (bC .add 3 25 v25 (kI 1) fun y27=>B64_6 x23 v24 y27 b1 hp)) (rQ (.sc (kI 0)) hp):=
 (eB 64 ss64 _ _).trans (by kernel_rfl)
def B70_5(b4 b5:List AV)(hp:Hp):=gb 70 [cc 30 cd70,cc 31 cd70] [(4,.lp 4 0 0),(5,.lp 5 0 0)] [(4,0,b4),(5,0,b5)] hp
theorem E70(a0 a1:AV)(hp:Hp):run cxX 70 [a0,a1] hp=aS a1 fun y0=>(qg 2 a0).bind fun y1=>(qe (List.map ro1 y1) 0).bind fun y2=>(okV []).bind fun y3=>(getC (List.map ro1 y1) 1).bind fun y4=>(appM 1 1 (AV.us 1 []) (ro1 y4) hp).bind fun y5=>(qg 1 y5.1).bind fun y6=>(putN [.sc y2,nl] 1 y6).bind fun y7=>(qg 2 (.agg (List.map ro1 y7))).bind fun y8=>(putN [.sc (kI 0),nl] 0 y8).bind fun y9=>(getN (List.map ro1 y1) 0 2).bind fun y10=>pT 2 125 [.agg (List.map ro1 y10),.sc y0] fun z1=>nS z1 0 fun y15=>nS z1 1 fun y16=>(getC y9 1).bind fun y17=>ln (ro1 y17) fun y18=>iT .lss 3 21 24 y15 (kI y18) ((getC y9 1).bind fun y21=>(getC y9 1).bind fun y22=>(qR (ro1 y22)).bind fun y23=>(idx y23.2.2.2.1 y15).bind fun y24=>(chkN y23.2.2.2.2 1).bind fun y25=>(Hp.rd y5.2 y23.1 y23.2.1).bind fun y26=>(qe y26 (Nat.add y23.2.2.1 (Nat.add 0 y24))).bind fun y27=>(bltV Tryz.prog Go.Builtin.max (Array.mk [5,5]) 5 [y27,y16]).bind fun y28=>(qR (ro1 y21)).bind fun y29=>(idx y29.2.2.2.1 y15).bind fun y30=>(chkN y29.2.2.2.2 1).bind fun y31=>(Hp.rd y5.2 y29.1 y29.2.1).bind fun y32=>(putN y32 (Nat.add y29.2.2.1 (Nat.add 0 y30)) [.sc y28]).bind fun y33=>B70_5 [.sc (kI 0),nl] y9 (Hp.put y5.2 y29.1 y29.2.1 y33)) (B70_5 [.sc (kI 0),nl] y9 y5.2):=
 (eE 70 ss70 _ _).trans (by kernel_rfl)
theorem B70_5_eq(b4 b5:List AV)(hp:Hp):B70_5 b4 b5 hp=(getN b5 0 2).bind fun y34=>(frzL hp (List.map ro1 y34)).bind fun y35=>(qg 2 (.agg y35.1)).bind fun y36=>(putN b4 0 y36).bind fun y37=>(getN y37 0 2).bind fun y38=>rQ (.agg y38) y35.2:=
 (eB 70 ss70 _ _).trans (by kernel_rfl)
def B74_2(b2:List AV)(hp:Hp):=gb 74 [cc 52 cd74,cc 53 cd74,cc 7 cd74] [(2,.lp 2 0 0)] [(2,0,b2)] hp
def B74_3(v0:Value)(b2:List AV)(hp:Hp):=gb 74 [cc 14 cd74,cc 53 cd74] [vs 0 v0,(2,.lp 2 0 0)] [(2,0,b2)] hp
theorem E74(a0:AV)(hp:Hp):run cxX 74 [a0] hp=aS a0 fun y0=>iC .lss 3 4 y0 (kI 4) (B74_2 [.sc (kI 0),nl] hp) (iC .gtr 3 7 y0 (kI 8) (B74_2 [.sc (kI 0),nl] hp) (B74_3 y0 [.sc (kI 0),nl] hp)):=
 (eE 74 ss74 _ _).trans (by kernel_rfl)
theorem B74_3_eq(v0:Value)(b2:List AV)(hp:Hp):B74_3 v0 b2 hp=bG .shl 3 (.const (kI 1)) (.tmp 12) (kI 1) v0 fun y7=>(asI y7).bind fun y8=>(asI y7).bind fun y9=>(xM 1 1 y8 y9).bind fun y10=>(putN b2 0 [.sc v0,ro1 (AV.us 1 (xx y8 [kB 0]))]).bind fun y11=>(getN y11 0 2).bind fun y12=>rQ (.tup [.agg y12,.sc (.bool true)]) hp:=
 (eB 74 ss74 _ _).trans (by kernel_rfl)
theorem E118(a0 a1:AV)(hp:Hp):run cxX 118 [a0,a1] hp=(qg 2 a0).bind fun y0=>(qg 2 a1).bind fun y1=>(qe (List.map ro1 y0) 0).bind fun y2=>(qe (List.map ro1 y1) 0).bind fun y3=>iT .eql 3 6 8 y2 y3 ((getC (List.map ro1 y0) 1).bind fun y6=>(srcA 1 (ro1 y6)).bind fun y7=>(qX y7).bind fun y8=>(getC (List.map ro1 y1) 1).bind fun y9=>(srcA 1 (ro1 y9)).bind fun y10=>(qX y10).bind fun y11=>bT .eql 9 13 16 (Value.string (ByteArray.mk (Array.mk y8))) (Value.string (ByteArray.mk (Array.mk y11))) fun y12=>rQ (.sc y12) hp) (rQ (.sc (.bool false)) hp):=
 (eE 118 ss118 _ _).trans (by kernel_rfl)
theorem E122(a0:AV)(hp:Hp):run cxX 122 [a0] hp=(qg 2 a0).bind fun y0=>(qe (List.map ro1 y0) 0).bind fun y1=>bG .sub 3 (.const (kI 65)) (.tmp 4) (kI 65) y1 fun y2=>rQ (.sc y2) hp:=
 (eE 122 ss122 _ _).trans (by kernel_rfl)
theorem E125(a0 a1:AV)(hp:Hp):run cxX 125 [a0,a1] hp=aS a1 fun y0=>(qg 2 a0).bind fun y1=>(qe (List.map ro1 y1) 0).bind fun y2=>(bltV Tryz.prog Go.Builtin.max (Array.mk [3,3]) 3 [y2,kI 4]).bind fun y3=>(bltV Tryz.prog Go.Builtin.min (Array.mk [3,3]) 3 [y3,kI 8]).bind fun y4=>bG .sub 3 (.const (kI 64)) (.tmp 12) (kI 64) y4 fun y5=>bT .shr 76 11 13 y0 y5 fun y6=>cV 76 3 y6 fun y7=>bT .shl 76 16 17 y0 y4 fun y8=>pS 168 [.sc y8] fun y12=>bG .sub 3 (.const (kI 64)) (.tmp 20) (kI 64) y4 fun y13=>(bltV Tryz.prog Go.Builtin.min (Array.mk [3,3]) 3 [y12,y13]).bind fun y14=>bC .add 3 22 y14 (kI 1) fun y15=>cV 3 5 y15 fun y16=>rQ (.tup [.sc y7,.sc y16]) hp:=
 (eE 125 ss125 _ _).trans (by kernel_rfl)
end
noncomputable section
def B28_3(x17:AV)(v18 v19:Value)(b4 b5:List AV)(hp:Hp):=gb 28 [cc 232 cd28,cc 233 cd28,cl 116 cd28,.inBlock 0,cc 15 cd28] [(4,.lp 4 0 0),(5,.lp 5 0 0),va 17 x17,vs 18 v18,vs 19 v19] [(4,0,b4),(5,0,b5)] hp
theorem E28(a0 a1:AV)(hp:Hp):run cxX 28 [a0,a1] hp=aS a0 fun y0=>bC .rem 5 10 y0 (kB 5) fun y1=>cV 5 3 y1 fun y2=>bG .add 3 (.const (kI 4)) (.tmp 12) (kI 4) y2 fun y3=>pT 2 74 [.sc y3] fun z1=>nS z1 1 fun y8=>(qg 2 (ro (nthA z1 0))).bind fun y9=>(putN [.sc (kI 0),nl] 0 y9).bind fun y10=>ln (ro a1) fun y11=>B28_3 (ro a1) (kI y11) (kI 0) [.sc (kI 0),nl] y10 hp:=
 (eE 28 ss28 _ _).trans (by kernel_rfl)
theorem B28_3_eq(x17:AV)(v18 v19:Value)(b4 b5:List AV)(hp:Hp):B28_3 x17 v18 v19 b4 b5 hp=iT .lss 3 19 18 v19 v18 (ixS x17 v19 fun y15=>(getN b5 0 2).bind fun y16=>pS 75 [.sc y15] fun y20=>pA 70 [.agg (List.map ro1 y16),.sc y20] fun z1=>(qg 2 z1).bind fun y25=>(putN b5 0 y25).bind fun y26=>bC .add 3 19 v19 (kI 1) fun y27=>B28_3 x17 v18 y27 b4 y26 hp) ((getN b5 0 2).bind fun y28=>(putN b5 0 (List.map ro1 y28)).bind fun y29=>(qg 2 (.agg y28)).bind fun y30=>(putN b4 0 y30).bind fun y31=>(getN y31 0 2).bind fun y32=>rQ (.agg y32) hp):=
 (eB 28 ss28 _ _).trans (by kernel_rfl)
theorem E75(a0:AV)(hp:Hp):run cxX 75 [a0] hp=aS a0 fun y0=>bC .rem 76 3 y0 (kU 3) fun y1=>iC .eql 76 4 y1 (kU 0) (bC .shr 76 6 y0 (kU 56) fun y4=>bC .shl 76 7 y4 (kU 56) fun y5=>bC .quo 76 10 y0 (kU 4) fun y6=>bC .rem 76 11 y6 (kU 56) fun y7=>bG .shl 76 (.const (kU 1)) (.tmp 12) (kU 1) y7 fun y8=>bC .sub 76 13 y8 (kU 1) fun y9=>bT .and 76 9 14 y0 y9 fun y10=>bT .or 76 8 15 y5 y10 fun y11=>rQ (.sc y11) hp) (rQ (.sc y0) hp):=
 (eE 75 ss75 _ _).trans (by kernel_rfl)
end
def blen(x:Nat):Nat:=if x=0 then 0 else Nat.log2 x+1
theorem bl_blen{x n:Nat}(h:Bl x n):n=blen x:=by
 unfold blen
 by_cases hx:x=0
 ·rw[if_pos hx]
  subst hx
  rcases h.2 with h2|h2
  ·exact h2
  ·have:=Nat.two_pow_pos (n-1);omega
 ·rw[if_neg hx]
  have hn:n≠0:=by
   intro e;subst e
   have:=h.1
   simp at this
   exact hx this
  have h2:=h.2.resolve_left hn
  have a1:=Nat.log2_self_le hx
  have a2:x<2^(Nat.log2 x+1):=Nat.lt_log2_self
  have b1:n-1<Nat.log2 x+1:=(Nat.pow_lt_pow_iff_right (by decide:1<2)).mp (Nat.lt_of_le_of_lt h2 a2)
  have b2:Nat.log2 x<n:=(Nat.pow_lt_pow_iff_right (by decide:1<2)).mp (Nat.lt_of_le_of_lt a1 h.1)
  omega
theorem run_lzs(x:Nat)(h:x<18446744073709551616)(hp:Hp):run cxX 168 [.sc (.int .u64 (x:Int))] hp=some (.sc (.int .i64 ((64-blen x:Nat):Int)),hp):=by
 obtain⟨n,h1,h2,h3⟩:=run_len64 x h
 rw[bl_blen h2]at h1 h3
 have w:IntKind.i64.wrap (64-(blen x:Int))=((64-blen x:Nat):Int):=by rw[qf]<;>omega
 rw[E168]
 simp[h3,w]
abbrev Hv(P:Int)(x:AV):AV:=.agg [.sc (.int .i64 P),x]
def hpow(P:Int):Nat:=2^P.toNat
def hplc(P h:Int):Nat:=(h/2^(64-P).toNat).toNat
def hrow(P h:Int):Int:=min ((64-blen ((h*2^P.toNat)%18446744073709551616).toNat:Nat):Int) (64-P)+1
theorem hrow_in{P h:Int}(hP:4<=P/\P<=8):1<=hrow P h/\hrow P h<=65-P:=by
 unfold hrow;omega
theorem hplc_lt{P h:Int}(hP:4<=P/\P<=8)(hh:0<=h/\h<18446744073709551616):hplc P h<hpow P:=by
 unfold hplc hpow
 obtain⟨p,rfl⟩:∃p:Nat,P=p:=⟨P.toNat,by omega⟩
 obtain⟨x,rfl⟩:∃x:Nat,h=x:=⟨h.toNat,by omega⟩
 have e:(64-(p:Int)).toNat=64-p:=by omega
 rw[e,Int.toNat_natCast]
 have e2:((x:Int)/2^(64-p))=((x/2^(64-p):Nat):Int):=by simp
 rw[e2,Int.toNat_natCast]
 apply Nat.div_lt_of_lt_mul
 rw[<-Nat.pow_add]
 have e3:64-p+p=64:=by omega
 rw[e3]
 omega
theorem run_hplace(P h:Int)(x:AV)(hP:4<=P/\P<=8)(hh:0<=h/\h<18446744073709551616)(hp:Hp):
  run cxX 125 [Hv P x,.sc (.int .u64 h)] hp=some (.tup [.sc (.int .i64 (hplc P h:Int)),.sc (.int .u8 (hrow P h))],hp):=by
 rw[E125]
 have m1:max P 4=P:=by omega
 have m2:min P 8=P:=by omega
 have w1:IntKind.i64.wrap (64-P)=64-P:=qf (by omega) (by omega)
 have s1:∀t x y,binV Tryz.prog .shr t x y (.int .u64 h) (.int .i64 (64-P))=some (.int .u64 (hplc P h:Int)):=by
  intro t x y
  rw[zJ _ _ _ _ _ _ _ _ (by omega)]
  have e:min (64-P).toNat IntKind.u64.bits=(64-P).toNat:=by
   have:IntKind.u64.bits=64:=rfl
   omega
  rw[e,Int.fdiv_eq_ediv_of_nonneg _ (by exact_mod_cast Nat.zero_le _)]
  unfold hplc
  have:0<=h/2^(64-P).toNat:=Int.ediv_nonneg hh.1 (by exact_mod_cast Nat.zero_le _)
  rw[Int.toNat_of_nonneg this]
 have hlt:=hplc_lt hP hh
 have h256:hpow P<=256:=by
  unfold hpow
  have:P.toNat<=8:=by omega
  calc 2^P.toNat<=2^8:=Nat.pow_le_pow_right (by decide) this
   _=256:=rfl
 have w2:IntKind.i64.wrap (hplc P h:Int)=(hplc P h:Int):=qf (by omega) (by omega)
 obtain⟨y,hy⟩:∃y:Nat,y=((h*2^P.toNat)%18446744073709551616).toNat:=⟨_,rfl⟩
 have hy64:y<18446744073709551616:=by omega
 have s2:∀t a b,binV Tryz.prog .shl t a b (.int .u64 h) (.int .i64 P)=some (.int .u64 (y:Int)):=by
  intro t a b
  rw[zn _ _ _ _ _ _ _ _ (by omega)]
  have e:min P.toNat IntKind.u64.bits=P.toNat:=by
   have:IntKind.u64.bits=64:=rfl
   omega
  rw[e,IntKind.wrap_u64,hy]
  congr 2
  omega
 have lz:=fun hp=>run_lzs y hy64 hp
 have hr:=hrow_in (h:=h) hP
 have hre:hrow P h=min ((64-blen y:Nat):Int) (64-P)+1:=by unfold hrow;rw[hy]
 have w3:IntKind.i64.wrap (min ((64-blen y:Nat):Int) (64-P)+1)=hrow P h:=by rw[<-hre];exact qf (by omega) (by omega)
 have w4:IntKind.u8.wrap (hrow P h)=hrow P h:=zo (by omega) (by omega)
 simp[qe,m1,m2,w1,s1,s2,w2,lz,w3,w4]
theorem shl_pow(P:Int)(hP:0<=P/\P<=8)(t:TypeId)(x y:Operand):binV Tryz.prog .shl t x y (.int .i64 1) (.int .i64 P)=some (.int .i64 (hpow P:Int)):=by
 rw[zn _ _ _ _ _ _ _ _ (by omega)]
 have e:min P.toNat IntKind.i64.bits=P.toNat:=by
  have:IntKind.i64.bits=64:=rfl
  omega
 have h256:hpow P<=256:=by
  unfold hpow
  have:P.toNat<=8:=by omega
  calc 2^P.toNat<=2^8:=Nat.pow_le_pow_right (by decide) this
   _=256:=rfl
 rw[e]
 have e2:(1*2^P.toNat:Int)=(hpow P:Int):=by unfold hpow;simp
 rw[e2,qf (by omega) (by omega)]
theorem hpow_le{P:Int}(hP:P<=8):hpow P<=256:=by
 unfold hpow
 have:P.toNat<=8:=by omega
 calc 2^P.toNat<=2^8:=Nat.pow_le_pow_right (by decide) this
  _=256:=rfl
theorem run_htop(P:Int)(x:AV)(hP:0<=P/\P<=64)(hp:Hp):run cxX 122 [Hv P x] hp=some (.sc (.int .i64 (65-P)),hp):=by
 rw[E122]
 have w:IntKind.i64.wrap (65-P)=65-P:=qf (by omega) (by omega)
 simp[qe,w]
def hchkR(P:Int)(l:List Int):Int:=if(∃n∈l,65-P<n)then 2 else 0
def hchk(P:Int)(l:List Int):Int:=if P<4\/8<P then 2 else if l.length≠hpow P then 6 else hchkR P l
theorem hcheck_loop(P:Int)(l:List Int)(k:Nat)(hP:4<=P/\P<=8)(hl:l.length<=1000)(h8:∀n∈l,0<=n/\n<256)(hp:Hp):∀(r:List Int) (i:Nat),l.drop i=r->
  B64_6 (S k 1 (LI .u8 l)) (.int .i64 l.length) (.int .i64 i) [.sc (.int .i64 P),S k 1 (LI .u8 l)] hp=some (.sc (.int .i64 (hchkR P r)),hp):=by
 intro r
 induction r with
 |nil=>
  intro i hr
  have:=qt hr
  have hlt:¬((i:Int)<(l.length:Int)):=by omega
  rw[B64_6_eq]
  simp[hlt,hchkR]
 | cons x r ih=>
  intro i hr
  obtain⟨e1,e2,hi,e3⟩:=ql hr
  have hx:=h8 x (List.mem_of_getElem? e1)
  have hw:IntKind.i64.wrap ((i:Int)+1)=((i+1:Nat):Int):=by rw[qf]<;>omega
  have w8:IntKind.i64.wrap x=x:=qf (by omega) (by omega)
  have tp:=fun y hp=>run_htop P y (by omega) hp
  have h:=ih (i+1) e2
  rw[B64_6_eq]
  simp at h hw
  by_cases e:65-P<x
  ·simp[hi,e3,qe,getN,w8,tp,e,hchkR]
  ·have e':hchkR P (x::r)=hchkR P r:=by
    unfold hchkR
    simp[e]
   simp[hi,e3,qe,getN,w8,tp,e,hw,h,e']
theorem run_hcheck(P:Int)(l:List Int)(k:Nat)(hl:l.length<=1000000)(h8:∀n∈l,0<=n/\n<256)(hp:Hp):run cxX 64 [Hv P (S k 1 (LI .u8 l))] hp=some (.sc (.int .i64 (hchk P l)),hp):=by
 rw[E64]
 unfold hchk
 by_cases h1:P<4
 ·simp[qe,h1,B64_2_eq]
 ·by_cases h2:8<P
  ·simp[qe,h1,h2,B64_2_eq]
  ·have s:=fun t x y=>shl_pow P (by omega) t x y
   have hple:=hpow_le (P:=P) (by omega)
   by_cases h3:l.length=hpow P
   ·have hh:=hcheck_loop P l (rk k) (by omega) (by omega) h8 hp l 0 rfl
    simp at hh
    simp[qe,getC,h1,h2,s,h3,B64_3_eq]
    rw[<-h3];exact hh
   ·have h4:¬((l.length:Int)=(hpow P:Int)):=by omega
    simp[qe,getC,h1,h2,s,h3,h4,B64_3_eq]
def b8(l:List Int):List UInt8:=l.map fun n=>UInt8.ofNat n.toNat
@[simp] theorem bytes_I : ∀ l : List Int, qX (LI .u8 l) = some (b8 l)
 |[]=>rfl
 |x::l=>by
  have:=bytes_I l
  show(qX (LI .u8 l)).map _=_
  rw[this];rfl
theorem b8_inj:∀{a b:List Int},(∀n∈a,0<=n/\n<256)->(∀n∈b,0<=n/\n<256)->(b8 a=b8 b↔a=b)
 |[],[],_,_=>by simp
 |[],y::b,_,_=>by simp[b8]
 |x::a,[],_,_=>by simp[b8]
 | x::a,y::b,ha,hb=>by
  have ih:=b8_inj (a:=a) (b:=b) (fun n hn=>ha n (by simp[hn])) (fun n hn=>hb n (by simp[hn]))
  have hx:=ha x (by simp)
  have hy:=hb y (by simp)
  have e:UInt8.ofNat x.toNat=UInt8.ofNat y.toNat↔x=y:=by
   constructor
   ·intro h
    have:=congrArg UInt8.toNat h
    simp at this
    omega
   ·rintro rfl;rfl
  simp only[b8,List.map_cons,List.cons.injEq]at ih⊢
  rw[e,ih]
theorem run_hsame(P P':Int)(a b:List Int)(k k':Nat)(ha:∀n∈a,0<=n/\n<256)(hb:∀n∈b,0<=n/\n<256)(hp:Hp):
  run cxX 118 [Hv P (S k 1 (LI .u8 a)),Hv P' (S k' 1 (LI .u8 b))] hp=some (.sc (.bool (decide (P=P'/\a=b))),hp):=by
 rw[E118]
 by_cases h:P=P'
 ·have e:decide (b8 a=b8 b)=decide (a=b):=decide_eq_decide.mpr (b8_inj ha hb)
  simp[qe,getC,h,e]
 ·simp[qe,h]
theorem run_hnew(P:Int)(hP:4<=P/\P<=8)(hp:Hp):run cxX 74 [.sc (.int .i64 P)] hp=some (.tup [Hv P (S 0 1 (LI .u8 (List.replicate (hpow P) 0))),.sc (.bool true)],hp):=by
 rw[E74]
 have h1:¬(P<4):=by omega
 have h2:¬(8<P):=by omega
 have s:=fun t x y=>shl_pow P (by omega) t x y
 have hple:=hpow_le (P:=P) (by omega)
 have mk:xM 1 1 (hpow P:Int) (hpow P:Int)=some ():=okMake_ok (by omega) (by omega) (by decide) (by decide)
 simp[h1,h2,B74_3_eq,s,mk,zeros_I,getN,putN]
def hmax:List Int->List Int->List Int
 |[],_=>[]
 |x::a,[]=>x::a
 |x::a,y::b=>max x y::hmax a b
@[simp] theorem hmax_nil_r : ∀ a, hmax a [] = a
 |[]=>rfl
 |_::_=>rfl
def hadd(P:Int)(l:List Int)(h:Int):List Int:=if hplc P h<l.length then l.set (hplc P h) (max (l.getD (hplc P h) 0) (hrow P h))else l
theorem run_hadd(P:Int)(l:List Int)(k:Nat)(h:Int)(hP:4<=P/\P<=8)(hh:0<=h/\h<18446744073709551616)(hl:l.length<=1000000)(hp:Hp):
  ∃t hp',run cxX 70 [Hv P (S k 1 (LI .u8 l)),.sc (.int .u64 h)] hp=some (Hv P (S t 1 (LI .u8 (hadd P l h))),hp'):=by
 rw[E70]
 have pl:=fun x hp=>run_hplace P h x hP hh hp
 by_cases hne:l=[]
 ·subst hne
  have n1:=fun k hp=>appM_nil 1 k hp
  have e:¬((hplc P h:Int)<0):=by omega
  refine⟨0,hp,?_⟩
  simp[qe,getC,n1,putN,getN,pl,hadd,e,B70_5_eq]
 ·have n1:=fun k hp=>xT .u8 l k 1 (by decide) hl hne hp
  have f5:∀(l:List Int) (b:Nat) (hp:Hp) (q0 q1:AV),hp.rd b 0=some (LI .u8 l)->B70_5 [q0,q1] [.sc (.int .i64 P),.ms b 0 0 l.length 1] hp=some (Hv P (S 0 1 (LI .u8 l)),hp.del b):=by
   intro l b hp q0 q1 hb
   have f:=frz1_I .u8 l hp b hb
   rw[B70_5_eq]
   simp[getN,putN,f]
  by_cases hi:hplc P h<l.length
  ·have hi':(hplc P h:Int)<(l.length:Int):=by omega
   have ix:=zm .i64 hi
   have gs:l[hplc P h]?=some (l.getD (hplc P h) 0):=by simp[hi]
   have pt:=putN_I .u8 l (hplc P h) (max (l.getD (hplc P h) 0) (hrow P h)) hi
   have f:=f5 (l.set (hplc P h) (max (l.getD (hplc P h) 0) (hrow P h))) hp.next ((hp.new (LI .u8 l)).put hp.next 0 (LI .u8 (l.set (hplc P h) (max (l.getD (hplc P h) 0) (hrow P h))))) (.sc (.int .i64 0)) (S 2 1 []) (qh _ _ _)
   rw[List.length_set]at f
   have r0:=qs hp (LI .u8 l)
   refine⟨0,((hp.new (LI .u8 l)).put hp.next 0 (LI .u8 (l.set (hplc P h) (max (l.getD (hplc P h) 0) (hrow P h))))).del hp.next,?_⟩
   simp only[hadd,if_pos hi]
   generalize l.getD (hplc P h) 0=g at gs pt f⊢
   simp[qe,getC,n1,putN,getN,pl,hi',ix,r0,gs]at pt⊢
   simp[pt]
   exact f
  ·have hi':¬((hplc P h:Int)<(l.length:Int)):=by omega
   have f:=f5 l hp.next (hp.new (LI .u8 l)) (.sc (.int .i64 0)) (S 2 1 []) (qs _ _)
   refine⟨0,(hp.new (LI .u8 l)).del hp.next,?_⟩
   simp only[hadd,if_neg hi]
   simp[qe,getC,n1,putN,getN,pl,hi']
   exact f
theorem run_hash0(h:Int)(hh:0<=h/\h<18446744073709551616):∃v:Int,(0<=v/\v<18446744073709551616)/\∀hp,run cxX 75 [.sc (.int .u64 h)] hp=some (.sc (.int .u64 v),hp):=by
 have r3:∀t x y,binV Tryz.prog .rem t x y (.int .u64 h) (.int .u64 3)=some (.int .u64 (h%3)):=by
  intro t x y;rw[qO _ _ _ _ _ _ _ (by omega),qN hh.1]
 by_cases e:h%3=0
 ·obtain⟨z1,s1⟩:∃z:Int,∀t x y,binV Tryz.prog .shr t x y (.int .u64 h) (.int .u64 56)=some (.int .u64 z):=⟨_,fun t x y=>zJ _ _ _ _ _ _ _ _ (by omega)⟩
  obtain⟨z2,s2⟩:∃z:Int,∀t x y,binV Tryz.prog .shl t x y (.int .u64 z1) (.int .u64 56)=some (.int .u64 z):=⟨_,fun t x y=>zn _ _ _ _ _ _ _ _ (by omega)⟩
  have q4:∀t x y,binV Tryz.prog .quo t x y (.int .u64 h) (.int .u64 4)=some (.int .u64 (h/4)):=by
   intro t x y;rw[xu _ _ _ _ _ _ _ (by omega),Int.tdiv_eq_ediv_of_nonneg hh.1,qr (by omega) (by omega)]
  have r56:∀t x y,binV Tryz.prog .rem t x y (.int .u64 (h/4)) (.int .u64 56)=some (.int .u64 (h/4%56)):=by
   intro t x y;rw[qO _ _ _ _ _ _ _ (by omega),qN (by omega)]
  obtain⟨z3,s3⟩:∃z:Int,∀t x y,binV Tryz.prog .shl t x y (.int .u64 1) (.int .u64 (h/4%56))=some (.int .u64 z):=⟨_,fun t x y=>zn _ _ _ _ _ _ _ _ (by omega)⟩
  obtain⟨z4,s4⟩:∃z:Int,∀t x y,binV Tryz.prog .sub t x y (.int .u64 z3) (.int .u64 1)=some (.int .u64 z):=⟨_,fun t x y=>yQ _ _ _ _ _ _ _⟩
  obtain⟨z5,s5⟩:∃z:Int,∀t x y,binV Tryz.prog .and t x y (.int .u64 h) (.int .u64 z4)=some (.int .u64 z):=⟨_,fun t x y=>qE _ _ _ _ _ _ _⟩
  obtain⟨z6,b6,s6⟩:∃z:Int,(0<=z/\z<18446744073709551616)/\∀t x y,binV Tryz.prog .or t x y (.int .u64 z2) (.int .u64 z5)=some (.int .u64 z):=⟨_,by rw[IntKind.wrap_u64];omega,fun t x y=>ze _ _ _ _ _ _ _⟩
  refine⟨z6,b6,fun hp=>?_⟩
  rw[E75]
  simp[r3,e,s1,s2,q4,r56,s3,s4,s5,s6,-yQ,-qE,-ze]
 ·refine⟨h,hh,fun hp=>?_⟩
  rw[E75]
  simp[r3,e]
noncomputable def hsh(h:Int):Int:=if hh:0<=h/\h<18446744073709551616 then(run_hash0 h hh).choose else 0
theorem hsh_ok{h:Int}(hh:0<=h/\h<18446744073709551616):(0<=hsh h/\hsh h<18446744073709551616)/\∀hp,run cxX 75 [.sc (.int .u64 h)] hp=some (.sc (.int .u64 (hsh h)),hp):=by
 unfold hsh
 rw[dif_pos hh]
 exact(run_hash0 h hh).choose_spec
noncomputable def hfold(P:Int)(a l:List Int):List Int:=l.foldl (fun a h=>hadd P a (hsh h)) a
theorem hadd_len(P:Int)(l:List Int)(h:Int):(hadd P l h).length=l.length:=by
 unfold hadd;split<;>simp
theorem hfold_len(P:Int):∀(l a:List Int),(hfold P a l).length=a.length
 |[],a=>rfl
 |h::l,a=>by
  show(hfold P (hadd P a (hsh h)) l).length=_
  rw[hfold_len P l,hadd_len]
theorem hll_loop(P:Int)(q0 q1:AV)(l:List Int)(k:Nat)(hP:4<=P/\P<=8)(hl:l.length<=1000000)(h64:∀n∈l,0<=n/\n<18446744073709551616)(hp:Hp):∀(r:List Int) (i t:Nat) (a:List Int),l.drop i=r->a.length<=1000000->
  ∃t',B28_3 (S k 1 (LI .u64 l)) (.int .i64 l.length) (.int .i64 i) [q0,q1] [.sc (.int .i64 P),S t 1 (LI .u8 a)] hp=some (Hv P (S t' 1 (LI .u8 (hfold P a r))),hp):=by
 intro r
 induction r with
 |nil=>
  intro i t a hr ha
  have:=qt hr
  have hlt:¬((i:Int)<(l.length:Int)):=by omega
  refine⟨t,?_⟩
  rw[B28_3_eq]
  simp[hlt,getN,putN,hfold]
 |cons x r ih=>
  intro i t a hr ha
  obtain⟨e1,e2,hi,e3⟩:=ql hr
  have hx:=h64 x (List.mem_of_getElem? e1)
  obtain⟨hb,hs⟩:=hsh_ok hx
  have hw:IntKind.i64.wrap ((i:Int)+1)=((i+1:Nat):Int):=by rw[qf]<;>omega
  obtain⟨t1,hp1,ha1⟩:=run_hadd P a (rk t) (hsh x) hP hb ha hp0
  obtain⟨t',h⟩:=ih (i+1) t1 (hadd P a (hsh x)) e2 (by rw[hadd_len];exact ha)
  refine⟨t',?_⟩
  rw[B28_3_eq]
  simp at h hw
  have ef:hfold P a (x::r)=hfold P (hadd P a (hsh x)) r:=rfl
  simp[hi,e3,qe,hs,getN,putN,ha1,hw,h,ef]
theorem run_hll(p:Int)(l:List Int)(k:Nat)(hp8:0<=p/\p<256)(hl:l.length<=1000000)(h64:∀n∈l,0<=n/\n<18446744073709551616)(hp:Hp):
  ∃t,run cxX 28 [.sc (.int .u8 p),S k 1 (LI .u64 l)] hp=some (Hv (4+p%5) (S t 1 (LI .u8 (hfold (4+p%5) (List.replicate (hpow (4+p%5)) 0) l))),hp):=by
 have h1:∀t x y,binV Tryz.prog .rem t x y (.int .u8 p) (.int .u8 5)=some (.int .u8 (p%5)):=by
  intro t x y;rw[qO _ _ _ _ _ _ _ (by omega),qN hp8.1]
 have w1:IntKind.i64.wrap (p%5)=p%5:=qf (by omega) (by omega)
 have w2:IntKind.i64.wrap (4+p%5)=4+p%5:=qf (by omega) (by omega)
 have nw:=fun hp=>run_hnew (4+p%5) (by omega) hp
 have hple:=hpow_le (P:=4+p%5) (by omega)
 obtain⟨t,h⟩:=hll_loop (4+p%5) (.sc (.int .i64 0)) (S 2 1 []) l (rk k) (by omega) hl h64 hp l 0 0 (List.replicate (hpow (4+p%5)) 0) rfl (by simp;omega)
 refine⟨t,?_⟩
 rw[E28]
 simp at h
 simp[h1,w1,w2,nw,putN,h]
noncomputable section
def B65_2(hp:Hp):=gb 65 [cc 52 cd65,cc 53 cd65,cc 7 cd65] [] [] hp
def B65_3(b1:List AV)(hp:Hp):=gb 65 [cc 28 cd65,cc 29 cd65,cc 15 cd65] [(1,.lp 1 0 0)] [(1,0,b1)] hp
def B65_4(x24:AV)(v25 v26:Value)(b1:List AV)(hp:Hp):=gb 65 [cc 232 cd65,cc 233 cd65,cl 116 cd65,.inBlock 0,cc 15 cd65] [(1,.lp 1 0 0),va 24 x24,vs 25 v25,vs 26 v26] [(1,0,b1)] hp
def B65_9(hp:Hp):=gb 65 [cc 59804 cd65,cc 53 cd65,.inBlock 1,cc 935 cd65,cl 116 cd65,.inBlock 0,cc 15 cd65] [] [] hp
def B65_10(x24:AV)(v25 v26:Value)(b1:List AV)(hp:Hp):=gb 65 [cc 935 cd65,cl 116 cd65,.inBlock 0,cc 15 cd65] [(1,.lp 1 0 0),va 24 x24,vs 25 v25,vs 26 v26] [(1,0,b1)] hp
theorem E65(a0:AV)(hp:Hp):run cxX 65 [a0] hp=(qg 3 a0).bind fun y0=>(qe (List.map ro1 y0) 0).bind fun y1=>iC .lss 3 6 y1 (kI 1) (B65_2 hp) ((qe (List.map ro1 y0) 0).bind fun y4=>iC .gtr 3 10 y4 (kI 4096) (B65_2 hp) ((qe (List.map ro1 y0) 1).bind fun y7=>iC .lss 3 15 y7 (kI 1) (B65_2 hp) ((qe (List.map ro1 y0) 1).bind fun y10=>iC .gtr 3 20 y10 (kI 8) (B65_2 hp) (B65_3 (List.map ro1 y0) hp)))):=
 (eE 65 ss65 _ _).trans (by kernel_rfl)
theorem B65_2_eq(hp:Hp):B65_2 hp=rQ (.sc (kI 2)) hp:=
 (eB 65 ss65 _ _).trans (by kernel_rfl)
theorem B65_3_eq(b1:List AV)(hp:Hp):B65_3 b1 hp=(getC b1 2).bind fun y13=>ln (ro1 y13) fun y14=>B65_4 (ro1 y13) (kI y14) (kI 0) b1 hp:=
 (eB 65 ss65 _ _).trans (by kernel_rfl)
theorem B65_4_eq(x24:AV)(v25 v26:Value)(b1:List AV)(hp:Hp):B65_4 x24 v25 v26 b1 hp=iT .lss 3 26 25 v26 v25 (ixS x24 v26 fun y18=>cV 30 3 y18 fun y19=>(qe b1 0).bind fun y20=>iT .geq 3 32 34 y19 y20 (rQ (.sc (kI 2)) hp) (iC .gtr 3 36 v26 (kI 0) ((getC b1 2).bind fun y25=>bC .sub 3 42 v26 (kI 1) fun y26=>ixS (ro1 y25) y26 fun y28=>iT .leq 30 39 45 y18 y28 (B65_9 hp) (B65_10 x24 v25 v26 b1 hp)) (B65_10 x24 v25 v26 b1 hp))) (rQ (.sc (kI 0)) hp):=
 (eB 65 ss65 _ _).trans (by kernel_rfl)
theorem B65_9_eq(hp:Hp):B65_9 hp=rQ (.sc (kI 8)) hp:=
 (eB 65 ss65 _ _).trans (by kernel_rfl)
theorem B65_10_eq(x24:AV)(v25 v26:Value)(b1:List AV)(hp:Hp):B65_10 x24 v25 v26 b1 hp=bC .add 3 26 v26 (kI 1) fun y31=>B65_4 x24 v25 y31 b1 hp:=
 (eB 65 ss65 _ _).trans (by kernel_rfl)
def B71_3(x11:AV)(v12 v13:Value)(b2 b4 b5:List AV)(hp:Hp):=gb 71 [cc 232 cd71,cc 233 cd71,cl 116 cd71,.inBlock 0,cc 15 cd71] [(2,.lp 2 0 0),(4,.lp 4 0 0),(5,.lp 5 0 0),va 11 x11,vs 12 v12,vs 13 v13] [(2,0,b2),(4,0,b4),(5,0,b5)] hp
theorem E71(a0 a1:AV)(hp:Hp):run cxX 71 [a0,a1] hp=aS a1 fun y0=>(qg 3 a0).bind fun y1=>(getN (List.map ro1 y1) 0 3).bind fun y2=>(qg 3 (.agg (List.map ro1 y2))).bind fun y3=>(putN [.sc (kI 0),.sc (kI 0),nl] 0 y3).bind fun y4=>(getN (List.map ro1 y1) 0 3).bind fun y5=>pA 126 [.agg (List.map ro1 y5),.sc y0] fun z1=>ln z1 fun y10=>B71_3 z1 (kI y10) (kI 0) (List.map ro1 y1) [.sc (kI 0),.sc (kI 0),nl] y4 hp:=
 (eE 71 ss71 _ _).trans (by kernel_rfl)
theorem B71_3_eq(x11:AV)(v12 v13:Value)(b2 b4 b5:List AV)(hp:Hp):B71_3 x11 v12 v13 b2 b4 b5 hp=iT .lss 3 13 12 v13 v12 (ixS x11 v13 fun y14=>(getN b5 0 3).bind fun y15=>(qe b2 0).bind fun y16=>(qe b2 1).bind fun y17=>(okV [.sc y14]).bind fun y18=>pA 127 [.agg (List.map ro1 y15),.agg [.sc y16,.sc y17,ro1 (AV.us 1 [.sc y14])]] fun z1=>(qg 3 z1).bind fun y23=>(putN b5 0 y23).bind fun y24=>bC .add 3 13 v13 (kI 1) fun y25=>B71_3 x11 v12 y25 b2 b4 y24 hp) ((getN b5 0 3).bind fun y26=>(putN b5 0 (List.map ro1 y26)).bind fun y27=>(qg 3 (.agg y26)).bind fun y28=>(putN b4 0 y28).bind fun y29=>(getN y29 0 3).bind fun y30=>rQ (.agg y30) hp):=
 (eB 71 ss71 _ _).trans (by kernel_rfl)
def B119_2(hp:Hp):=gb 119 [cc 52 cd119,cc 53 cd119,cc 7 cd119] [] [] hp
def B119_3(b2 b3:List AV)(hp:Hp):=gb 119 [cc 28 cd119,cc 29 cd119,cc 15 cd119] [(2,.lp 2 0 0),(3,.lp 3 0 0)] [(2,0,b2),(3,0,b3)] hp
def B119_4(v29 v30:Value)(b2 b3:List AV)(hp:Hp):=gb 119 [cc 232 cd119,cc 233 cd119,cl 116 cd119,.inBlock 0,cc 15 cd119] [(2,.lp 2 0 0),(3,.lp 3 0 0),vs 29 v29,vs 30 v30] [(2,0,b2),(3,0,b3)] hp
theorem E119(a0 a1:AV)(hp:Hp):run cxX 119 [a0,a1] hp=(qg 3 a0).bind fun y0=>(qg 3 a1).bind fun y1=>(qe (List.map ro1 y0) 0).bind fun y2=>(qe (List.map ro1 y1) 0).bind fun y3=>iT .neq 3 7 9 y2 y3 (B119_2 hp) ((qe (List.map ro1 y0) 1).bind fun y6=>(qe (List.map ro1 y1) 1).bind fun y7=>iT .neq 3 13 15 y6 y7 (B119_2 hp) ((getC (List.map ro1 y0) 2).bind fun y10=>ln (ro1 y10) fun y11=>(getC (List.map ro1 y1) 2).bind fun y12=>ln (ro1 y12) fun y13=>iT .neq 3 21 24 (kI y11) (kI y13) (B119_2 hp) (B119_3 (List.map ro1 y0) (List.map ro1 y1) hp))):=
 (eE 119 ss119 _ _).trans (by kernel_rfl)
theorem B119_2_eq(hp:Hp):B119_2 hp=rQ (.sc (.bool false)) hp:=
 (eB 119 ss119 _ _).trans (by kernel_rfl)
theorem B119_3_eq(b2 b3:List AV)(hp:Hp):B119_3 b2 b3 hp=(getC b2 2).bind fun y16=>ln (ro1 y16) fun y17=>B119_4 (kI y17) (kI 0) b2 b3 hp:=
 (eB 119 ss119 _ _).trans (by kernel_rfl)
theorem B119_4_eq(v29 v30:Value)(b2 b3:List AV)(hp:Hp):B119_4 v29 v30 b2 b3 hp=iT .lss 3 30 29 v30 v29 ((getC b2 2).bind fun y20=>ixS (ro1 y20) v30 fun y22=>(getC b3 2).bind fun y23=>ixS (ro1 y23) v30 fun y25=>iT .neq 30 37 42 y22 y25 (rQ (.sc (.bool false)) hp) (bC .add 3 30 v30 (kI 1) fun y28=>B119_4 v29 y28 b2 b3 hp)) (rQ (.sc (.bool true)) hp):=
 (eB 119 ss119 _ _).trans (by kernel_rfl)
def B126_6(x5:AV)(v6 v7 v19 v20:Value)(b2:List AV)(hp:Hp):=gb 126 [cc 1000 cd126,cc 1001 cd126,cl 500 cd126,.inBlock 0,cc 63 cd126] [(2,.lp 2 0 0),va 5 x5,vs 6 v6,vs 7 v7,vs 19 v19,vs 20 v20] [(2,0,b2)] hp
theorem E126(a0 a1:AV)(hp:Hp):run cxX 126 [a0,a1] hp=aS a1 fun y0=>(qg 3 a0).bind fun y1=>(getN (List.map ro1 y1) 0 3).bind fun y2=>pS 65 [.agg (List.map ro1 y2)] fun y6=>iC .neq 57 9 y6 (kI 0) (rQ nl hp) (cV 76 30 y0 fun y9=>bC .shr 76 14 y0 (kU 32) fun y10=>cV 76 30 y10 fun y11=>bC .or 30 16 y11 (kW 1) fun y12=>(qe (List.map ro1 y1) 1).bind fun y13=>B126_6 nl y9 y12 y13 (kI 0) (List.map ro1 y1) hp):=
 (eE 126 ss126 _ _).trans (by kernel_rfl)
theorem B126_6_eq(x5:AV)(v6 v7 v19 v20:Value)(b2:List AV)(hp:Hp):B126_6 x5 v6 v7 v19 v20 b2 hp=iT .lss 3 20 19 v20 v19 ((qe b2 0).bind fun y16=>cV 3 30 y16 fun y17=>bT .rem 30 23 26 v6 y17 fun y18=>ap 4 x5 y18 fun y20=>bT .add 30 30 31 v6 v7 fun y21=>bC .add 3 20 v20 (kI 1) fun y22=>B126_6 y20 y21 v7 v19 y22 b2 hp) (rQ x5 hp):=
 (eB 126 ss126 _ _).trans (by kernel_rfl)
def B127_3(x6 x7:AV)(b4 b5:List AV)(hp:Hp):=gb 127 [cc 480 jB,cc 481 jB,cc 241 jB,cl 120 jB,.inBlock 0,cc 31 jB] [(4,.lp 4 0 0),(5,.lp 5 0 0),va 6 x6,va 7 x7] [(4,0,b4),(5,0,b5)] hp
def B127_6(x6 x7:AV)(b4 b5:List AV)(hp:Hp):=gb 127 [cc 3858 jB,.inBlock 2,.inBlock 1,cl 120 jB,.inBlock 0,cc 31 jB] [(4,.lp 4 0 0),(5,.lp 5 0 0),va 6 x6,va 7 x7] [(4,0,b4),(5,0,b5)] hp
def B127_7(x6 x7:AV)(b4 b5:List AV)(hp:Hp):=gb 127 [cc 7718 jB,cc 7719 jB,.inBlock 2,.inBlock 1,cl 120 jB,.inBlock 0,cc 31 jB] [(4,.lp 4 0 0),(5,.lp 5 0 0),va 6 x6,va 7 x7] [(4,0,b4),(5,0,b5)] hp
def B127_8(x6 x7:AV)(b4 b5:List AV)(hp:Hp):=gb 127 [cc 15438 jB,.inBlock 2,.inBlock 1,cl 120 jB,.inBlock 0,cc 31 jB] [(4,.lp 4 0 0),(5,.lp 5 0 0),va 6 x6,va 7 x7] [(4,0,b4),(5,0,b5)] hp
def B127_4(x6 x7:AV)(b4 b5:List AV)(hp:Hp):=gb 127 [cc 15439 jB,.inBlock 2,.inBlock 1,cl 120 jB,.inBlock 0,cc 31 jB] [(4,.lp 4 0 0),(5,.lp 5 0 0),va 6 x6,va 7 x7] [(4,0,b4),(5,0,b5)] hp
theorem E127(a0 a1:AV)(hp:Hp):run cxX 127 [a0,a1] hp=(qg 3 a0).bind fun y0=>(qg 3 a1).bind fun y1=>(qe (List.map ro1 y0) 0).bind fun y2=>(qe (List.map ro1 y0) 1).bind fun y3=>(getC (List.map ro1 y0) 2).bind fun y4=>(getC (List.map ro1 y1) 2).bind fun y5=>B127_3 (ro1 y4) (ro1 y5) [.sc (kI 0),.sc (kI 0),nl] [.sc y2,.sc y3,nl] hp:=
 (eE 127 ss127 _ _).trans (by kernel_rfl)
theorem B127_3_eq(x6 x7:AV)(b4 b5:List AV)(hp:Hp):B127_3 x6 x7 b4 b5 hp=ln (ro x6) fun y6=>ln (ro x7) fun y7=>bT .add 3 18 20 (kI y6) (kI y7) fun y8=>iC .gtr 3 21 y8 (kI 0) (ln (ro x7) fun y11=>iC .eql 3 37 (kI y11) (kI 0) (B127_6 x6 x7 b4 b5 hp) (ln (ro x6) fun y14=>iC .gtr 3 41 (kI y14) (kI 0) (ixS (ro x6) (kI 0) fun y18=>ixS (ro x7) (kI 0) fun y20=>iT .lss 30 46 49 y18 y20 (B127_6 x6 x7 b4 b5 hp) (B127_7 x6 x7 b4 b5 hp)) (B127_7 x6 x7 b4 b5 hp))) ((getN b5 0 3).bind fun y23=>(putN b5 0 (List.map ro1 y23)).bind fun y24=>(qg 3 (.agg y23)).bind fun y25=>(putN b4 0 y25).bind fun y26=>(getN y26 0 3).bind fun y27=>rQ (.agg y27) hp):=
 (eB 127 ss127 _ _).trans (by kernel_rfl)
theorem B127_6_eq(x6 x7:AV)(b4 b5:List AV)(hp:Hp):B127_6 x6 x7 b4 b5 hp=(getC b5 2).bind fun y28=>ixS (ro x6) (kI 0) fun y30=>ap 4 y28 y30 fun y32=>(slcA 1 (ro x6) (Option.some (kI 1)) none none).bind fun y33=>(qg 1 y32).bind fun y34=>(putN (List.set b5 2 (ro1 y28)) 2 y34).bind fun y35=>B127_3 y33 x7 b4 y35 hp:=
 (eB 127 ss127 _ _).trans (by kernel_rfl)
theorem B127_7_eq(x6 x7:AV)(b4 b5:List AV)(hp:Hp):B127_7 x6 x7 b4 b5 hp=ln (ro x6) fun y36=>iC .eql 3 65 (kI y36) (kI 0) (B127_8 x6 x7 b4 b5 hp) (ixS (ro x7) (kI 0) fun y40=>ixS (ro x6) (kI 0) fun y42=>iT .lss 30 70 73 y40 y42 (B127_8 x6 x7 b4 b5 hp) (B127_4 x6 x7 b4 b5 hp)):=
 (eB 127 ss127 _ _).trans (by kernel_rfl)
theorem B127_8_eq(x6 x7:AV)(b4 b5:List AV)(hp:Hp):B127_8 x6 x7 b4 b5 hp=(getC b5 2).bind fun y45=>ixS (ro x7) (kI 0) fun y47=>ap 4 y45 y47 fun y49=>(slcA 1 (ro x7) (Option.some (kI 1)) none none).bind fun y50=>(qg 1 y49).bind fun y51=>(putN (List.set b5 2 (ro1 y45)) 2 y51).bind fun y52=>B127_3 x6 y50 b4 y52 hp:=
 (eB 127 ss127 _ _).trans (by kernel_rfl)
theorem B127_4_eq(x6 x7:AV)(b4 b5:List AV)(hp:Hp):B127_4 x6 x7 b4 b5 hp=(getC b5 2).bind fun y53=>ixS (ro x6) (kI 0) fun y55=>ap 4 y53 y55 fun y57=>(slcA 1 (ro x6) (Option.some (kI 1)) none none).bind fun y58=>(slcA 1 (ro x7) (Option.some (kI 1)) none none).bind fun y59=>(qg 1 y57).bind fun y60=>(putN (List.set b5 2 (ro1 y53)) 2 y60).bind fun y61=>B127_3 y58 y59 b4 y61 hp:=
 (eB 127 ss127 _ _).trans (by kernel_rfl)
end
noncomputable section
def B29_3(x19:AV)(v20 v21:Value)(b6 b7:List AV)(hp:Hp):=gb 29 [cc 232 cd29,cc 233 cd29,cl 116 cd29,.inBlock 0,cc 15 cd29] [(6,.lp 6 0 0),(7,.lp 7 0 0),va 19 x19,vs 20 v20,vs 21 v21] [(6,0,b6),(7,0,b7)] hp
theorem E29(a0 a1 a2:AV)(hp:Hp):run cxX 29 [a0,a1,a2] hp=aS a0 fun y0=>aS a1 fun y1=>bC .rem 34 10 y0 (kH 300) fun y2=>cV 34 3 y2 fun y3=>bG .add 3 (.const (kI 1)) (.tmp 12) (kI 1) y3 fun y4=>bC .rem 5 14 y1 (kB 8) fun y5=>cV 5 3 y5 fun y6=>bG .add 3 (.const (kI 1)) (.tmp 16) (kI 1) y6 fun y7=>ln (ro a2) fun y8=>B29_3 (ro a2) (kI y8) (kI 0) [.sc (kI 0),.sc (kI 0),nl] [.sc y4,.sc y7,nl] hp:=
 (eE 29 ss29 _ _).trans (by kernel_rfl)
theorem B29_3_eq(x19:AV)(v20 v21:Value)(b6 b7:List AV)(hp:Hp):B29_3 x19 v20 v21 b6 b7 hp=iT .lss 3 21 20 v21 v20 (ixS x19 v21 fun y12=>(getN b7 0 3).bind fun y13=>pA 71 [.agg (List.map ro1 y13),.sc y12] fun z1=>(qg 3 z1).bind fun y18=>(putN b7 0 y18).bind fun y19=>bC .add 3 21 v21 (kI 1) fun y20=>B29_3 x19 v20 y20 b6 y19 hp) ((getN b7 0 3).bind fun y21=>(putN b7 0 (List.map ro1 y21)).bind fun y22=>(qg 3 (.agg y21)).bind fun y23=>(putN b6 0 y23).bind fun y24=>(getN y24 0 3).bind fun y25=>rQ (.agg y25) hp):=
 (eB 29 ss29 _ _).trans (by kernel_rfl)
end
abbrev Bv(bits hashes:Value)(S:AV):AV:=.agg [.sc bits,.sc hashes,S]
theorem merge_loop(B H:Value)(q0 q1 q2:AV)(hp:Hp):∀(n:Nat) (a b acc:List Int) (k k':Nat),a.length+b.length=n->acc.length+n<=1000000->
  B127_3 (S k 1 (LI .u32 a)) (S k' 1 (LI .u32 b)) [q0,q1,q2] [.sc B,.sc H,S 2 1 (LI .u32 acc)] hp=some (Bv B H (S 2 1 (LI .u32 (acc++mrg a b))),hp):=by
 intro n
 induction n using Nat.strongRecOn with
 |_ n ih=>
 intro a b acc k k' hn hlen
 have hw:IntKind.i64.wrap ((a.length:Int)+(b.length:Int))=((a.length+b.length:Nat):Int):=by
  rw[qf]<;>omega
 have ap:∀x:Int,appA 4 1 (S 2 1 (LI .u32 acc)) (S 1 1 [.sc (.int .u32 x)])=some (S 2 1 (LI .u32 (acc++[x]))):=fun x=>appI .u32 acc 2 (.inr rfl) 4 (by decide) x (by omega)
 have goA:∀(x:Int) (r:List Int),r.length+1+b.length<=n->B127_6 (S k 1 (LI .u32 (x::r))) (S k' 1 (LI .u32 b)) [q0,q1,q2] [.sc B,.sc H,S 2 1 (LI .u32 acc)] hp=some (Bv B H (S 2 1 (LI .u32 (acc++x::mrg r b))),hp):=by
  intro x r hle
  rw[B127_6_eq]
  have e:=xj (rk k) (LI .u32 (x::r)) .i64 1 (by omega) (by simp only[lenI,List.length_cons];omega)
  simp[getC,qe,ap,e,putN,ih (r.length+b.length) (by omega) r b (acc++[x]) _ k' rfl (by simp only[List.length_append,List.length_cons,List.length_nil];omega)]
 have goB:∀(y:Int) (r:List Int),a.length+(r.length+1)<=n->B127_8 (S k 1 (LI .u32 a)) (S k' 1 (LI .u32 (y::r))) [q0,q1,q2] [.sc B,.sc H,S 2 1 (LI .u32 acc)] hp=some (Bv B H (S 2 1 (LI .u32 (acc++y::mrg a r))),hp):=by
  intro x r hle
  rw[B127_8_eq]
  have e:=xj (rk k') (LI .u32 (x::r)) .i64 1 (by omega) (by simp only[lenI,List.length_cons];omega)
  simp[getC,qe,ap,e,putN,ih (a.length+r.length) (by omega) a r (acc++[x]) k _ rfl (by simp only[List.length_append,List.length_cons,List.length_nil];omega)]
 have goC:∀(x y:Int) (r s:List Int),r.length+s.length+2<=n->B127_4 (S k 1 (LI .u32 (x::r))) (S k' 1 (LI .u32 (y::s))) [q0,q1,q2] [.sc B,.sc H,S 2 1 (LI .u32 acc)] hp=some (Bv B H (S 2 1 (LI .u32 (acc++x::mrg r s))),hp):=by
  intro x y r s hle
  rw[B127_4_eq]
  have e:=xj (rk k) (LI .u32 (x::r)) .i64 1 (by omega) (by simp only[lenI,List.length_cons];omega)
  have e':=xj (rk k') (LI .u32 (y::s)) .i64 1 (by omega) (by simp only[lenI,List.length_cons];omega)
  simp[getC,qe,ap,e,e',putN,ih (r.length+s.length) (by omega) r s (acc++[x]) _ _ rfl (by simp only[List.length_append,List.length_cons,List.length_nil];omega)]
 rw[B127_3_eq]
 match a,b with
 |[],[]=>simp[getN,putN,Bv]
 |[],y::s=>
  have h:=goB y s (by simp at hn⊢;omega)
  simp at h
  have hw':IntKind.i64.wrap ((s.length:Int)+1)=(s.length:Int)+1:=qf (by omega) (by simp at hn;omega)
  have p:(0:Int)<(s.length:Int)+1:=by omega
  have z:¬((s.length:Int)+1=0):=by omega
  simp[hw',p,z,B127_7_eq,h]
 |x::r,[]=>
  have h:=goA x r (by simp at hn⊢;omega)
  simp at h
  have hw':IntKind.i64.wrap ((r.length:Int)+1)=(r.length:Int)+1:=qf (by omega) (by simp at hn;omega)
  have p:(0:Int)<(r.length:Int)+1:=by omega
  simp[hw',p,h]
 | x::r,y::s=>
  have h1:=goA x r (by simp at hn⊢;omega)
  have h2:=goB y s (by simp at hn⊢;omega)
  have h3:=goC x y r s (by simp at hn⊢;omega)
  have hw':IntKind.i64.wrap ((r.length:Int)+1+((s.length:Int)+1))=(r.length:Int)+1+((s.length:Int)+1):=qf (by omega) (by simp at hn;omega)
  have p:(0:Int)<(r.length:Int)+1+((s.length:Int)+1):=by omega
  have p':(0:Int)<(r.length:Int)+1:=by omega
  have z:¬((s.length:Int)+1=0):=by omega
  have z':¬((r.length:Int)+1=0):=by omega
  rw[zh]
  by_cases hxy:x<y
  ·simp[hw',p,p',z,z',qe,hxy,h1]
  ·by_cases hyx:y<x
   ·simp[hw',p,p',z,z',qe,hxy,hyx,h2,B127_7_eq]
   ·simp[hw',p,p',z,z',qe,hxy,hyx,h3,B127_7_eq]
theorem run_merge(B H B' H':Value)(a b:List Int)(k k':Nat)(hp:Hp)(hlen:a.length+b.length<=1000000):
  run cxX 127 [Bv B H (S k 1 (LI .u32 a)),Bv B' H' (S k' 1 (LI .u32 b))] hp=some (Bv B H (S 2 1 (LI .u32 (mrg a b))),hp):=by
 rw[E127]
 have:=merge_loop B H (.sc (.int .i64 0)) (.sc (.int .i64 0)) (S 2 1 []) hp (a.length+b.length) a b [] (rk k) (rk k') rfl (by simpa using hlen)
 simp at this
 simp[Bv,qe,getC]
 exact this
theorem same_loop(B H B' H':AV)(a b:List Int)(k k':Nat)(hab:a.length=b.length)(hl:a.length<=1000000)(hp:Hp):∀(r s:List Int) (i:Nat),a.drop i=r->b.drop i=s->
  B119_4 (.int .i64 a.length) (.int .i64 i) [B,H,S k 1 (LI .u32 a)] [B',H',S k' 1 (LI .u32 b)] hp=some (.sc (.bool (decide (r=s))),hp):=by
 intro r
 induction r with
 |nil=>
  intro s i hr hs
  have h1:=qt hr
  have h2:s=[]:=by rw[<-hs];exact List.drop_eq_nil_of_le (by omega)
  have hlt:¬((i:Int)<(a.length:Int)):=by omega
  rw[B119_4_eq]
  simp[hlt,h2]
 | cons x r ih=>
  intro s i hr hs
  obtain⟨e1,e2,hi,e3⟩:=ql hr
  rw[B119_4_eq]
  have hw:IntKind.i64.wrap ((i:Int)+1)=((i+1:Nat):Int):=by rw[qf]<;>omega
  cases s with
  |nil=>have:=qt hs;omega
  |cons y s=>
   obtain⟨f1,f2,hj,f3⟩:=ql hs
   have h:=ih s (i+1) e2 f2
   simp at h hw
   by_cases e:x=y
   ·simp[hi,hj,getC,qe,e3,f3,e,hw,h]
   ·simp[hi,hj,getC,qe,e3,f3,e]
theorem run_same(B H:Int)(B' H':Int)(a b:List Int)(k k':Nat)(hp:Hp)(ha:a.length<=1000000)(hb:b.length<=1000000):
  run cxX 119 [Bv (.int .i64 B) (.int .i64 H) (S k 1 (LI .u32 a)),Bv (.int .i64 B') (.int .i64 H') (S k' 1 (LI .u32 b))] hp=some (.sc (.bool (decide (B=B'/\H=H'/\a=b))),hp):=by
 rw[E119]
 by_cases h1:B=B'
 ·by_cases h2:H=H'
  ·by_cases h3:a.length=b.length
   ·have h:=same_loop (.sc (.int .i64 B)) (.sc (.int .i64 H)) (.sc (.int .i64 B')) (.sc (.int .i64 H')) a b (rk k) (rk k') h3 ha hp a b 0 rfl rfl
    simp at h
    subst h1 h2
    rw[h3]at h
    simp[qe,getC,h3,B119_3_eq,h]
   ·have h4:¬(a=b):=fun e=>h3 (by rw[e])
    have h5:¬((a.length:Int)=(b.length:Int)):=by omega
    simp[qe,getC,h1,h2,h4,h5,B119_2_eq]
  ·simp[qe,getC,h1,h2,B119_2_eq]
 ·simp[qe,getC,h1,B119_2_eq]
def chkL(B:Int):Option Int->List Int->Int
 |_,[]=>0
 |p,n::r=>if n>=B then 2 else match p with
  |none=>chkL B (some n) r
  |some q=>if n<=q then 8 else chkL B (some n) r
def bchk(B H:Int)(l:List Int):Int:=if B<1\/B>4096\/H<1\/H>8 then 2 else chkL B none l
def In32(l:List Int):Prop:=∀n∈l,0<=n/\n<4294967296
theorem check_loop(B:Int)(H:AV)(l:List Int)(k k':Nat)(hl:l.length<=1000000)(h32:In32 l)(hp:Hp):∀(r:List Int) (i:Nat) (p:Option Int),l.drop i=r->
  (match p with|none=>i=0|some q=>∃j,i=j+1/\l[j]?=some q)->
  B65_4 (S k 1 (LI .u32 l)) (.int .i64 l.length) (.int .i64 i) [.sc (.int .i64 B),H,S k' 1 (LI .u32 l)] hp=some (.sc (.int .i64 (chkL B p r)),hp):=by
 intro r
 induction r with
 |nil=>
  intro i p hr hp'
  have:=qt hr
  have hlt:¬((i:Int)<(l.length:Int)):=by omega
  rw[B65_4_eq]
  simp[hlt,chkL]
 | cons n r ih=>
  intro i p hr hp'
  obtain⟨e1,e2,hi,e3⟩:=ql hr
  have h:=ih (i+1) (some n) e2 ⟨i,rfl,e1⟩
  have hw:IntKind.i64.wrap ((i:Int)+1)=((i+1:Nat):Int):=by rw[qf]<;>omega
  have hn:=h32 n (List.mem_of_getElem? e1)
  have hwn:IntKind.i64.wrap n=n:=qf (by omega) (by omega)
  rw[B65_4_eq]
  by_cases hB:B<=n
  ·simp[hi,e1,e3,qe,xR,hwn,hB,chkL]
  ·cases p with
   |none=>
    obtain rfl:i=0:=hp'
    simp at h e1 hw
    simp[hi,e1,e3,qe,xR,hwn,hB,chkL,B65_10_eq,hw,h]
   |some q=>
    obtain⟨j,rfl,ej⟩:=hp'
    have hw2:IntKind.i64.wrap (((j+1:Nat):Int)-1)=(j:Int):=by rw[qf]<;>omega
    have hpos:(0:Int)<(j:Int)+1:=by omega
    have hi2:(j:Int)+1<(l.length:Int):=by omega
    have hge:(0:Int)<=(j:Int)+1:=by omega
    have htn:((j:Int)+1).toNat=j+1:=by omega
    simp at h hw hw2
    by_cases hq:n<=q
    ·simp[hi2,hge,htn,e1,e3,ej,qe,getC,xR,hwn,hB,chkL,hpos,hw2,hq,B65_9_eq]
    ·simp[hi2,hge,htn,e1,e3,ej,qe,getC,xR,hwn,hB,chkL,hpos,hw2,hq,B65_10_eq,hw,h]
theorem run_check(B H:Int)(l:List Int)(k:Nat)(hl:l.length<=1000000)(h32:In32 l)(hp:Hp):
  run cxX 65 [Bv (.int .i64 B) (.int .i64 H) (S k 1 (LI .u32 l))] hp=some (.sc (.int .i64 (bchk B H l)),hp):=by
 rw[E65]
 have h:=check_loop B (.sc (.int .i64 H)) l (rk k) (rk k) hl h32 hp l 0 none rfl rfl
 simp at h
 unfold bchk
 by_cases h1:B<1
 ·simp[qe,h1,B65_2_eq]
 ·by_cases h2:4096<B
  ·simp[qe,h1,h2,B65_2_eq]
  ·by_cases h3:H<1
   ·simp[qe,h1,h2,h3,B65_2_eq]
   ·by_cases h4:8<H
    ·simp[qe,h1,h2,h3,h4,B65_2_eq]
    ·simp[qe,getC,h1,h2,h3,h4,B65_3_eq,h]
def at0(h:Int):Int:=IntKind.u32.wrap h
def stp(h:Int):Int:=IntKind.u32.wrap (BitVec.ofInt 32 (IntKind.u32.wrap (h.fdiv (2^32)))|||BitVec.ofInt 32 1).toNat
def plc(B st:Int):Nat->Int->List Int
 |0,_=>[]
 |n+1,a=>a%B::plc B st n (IntKind.u32.wrap (a+st))
theorem plc_len(B st:Int):∀(n:Nat) (a:Int),(plc B st n a).length=n
 |0,_=>rfl
 |n+1,a=>by simp[plc,plc_len B st n]
theorem plc_in(B st:Int)(hB:0<B):∀(n:Nat) (a x:Int),x∈plc B st n a->0<=x/\x<B
 |0,_,x,h=>by simp[plc]at h
 |n+1,a,x,h=>by
  rcases List.mem_cons.mp h with rfl|h
  ·exact⟨Int.emod_nonneg _ (by omega),Int.emod_lt_of_pos _ hB⟩
  ·exact plc_in B st hB n _ x h
theorem wrap32_in(z:Int):0<=IntKind.u32.wrap z/\IntKind.u32.wrap z<4294967296:=by
 rw[IntKind.wrap_u32];omega
theorem places_loop(B H st:Int)(H':AV)(q:AV)(hB:1<=B/\B<=4096)(hH:H<=8)(hp:Hp):∀(n i:Nat) (a:Int) (acc:List Int),H=(i+n:Nat)->0<=a->acc.length<=i->
  B126_6 (S 2 1 (LI .u32 acc)) (.int .u32 a) (.int .u32 st) (.int .i64 H) (.int .i64 i) [.sc (.int .i64 B),H',q] hp=some (S 2 1 (LI .u32 (acc++plc B st n a)),hp):=by
 intro n
 induction n with
 |zero=>
  intro i a acc hi ha hc
  rw[B126_6_eq]
  have hlt:¬((i:Int)<H):=by omega
  simp[hlt,plc]
 | succ n ih=>
  intro i a acc hi ha hc
  rw[B126_6_eq]
  have hlt:(i:Int)<H:=by omega
  have hw:IntKind.i64.wrap ((i:Int)+1)=((i+1:Nat):Int):=by rw[qf]<;>omega
  have hwB:IntKind.u32.wrap B=B:=qv (by omega) (by omega)
  have h:=ih (i+1) (IntKind.u32.wrap (a+st)) (acc++[a%B]) (by omega) (wrap32_in _).1 (by simp;omega)
  have ap:=appI .u32 acc 2 (.inr rfl) 4 (by decide) (a%B) (by omega)
  have hr:∀x y,binV Tryz.prog .rem 30 x y (.int .u32 a) (.int .u32 B)=some (.int .u32 (a%B)):=by
   intro x y
   rw[qO _ _ _ _ _ _ _ (by omega),qN ha]
  simp at h hw
  simp[hlt,qe,cv_3_30,hwB,hr,ap,hw,h,plc]
def pls(B H:Int)(l:List Int)(h:Int):List Int:=if bchk B H l=0 then plc B (stp h) H.toNat (at0 h)else []
theorem run_places(B H:Int)(l:List Int)(k:Nat)(h:Int)(hl:l.length<=1000000)(h32:In32 l)(hp:Hp):
  run cxX 126 [Bv (.int .i64 B) (.int .i64 H) (S k 1 (LI .u32 l)),.sc (.int .u64 h)] hp=some (S 2 1 (LI .u32 (pls B H l h)),hp):=by
 rw[E126]
 have hc:=run_check B H l (rk k) hl h32 hp0
 unfold pls
 by_cases h0:bchk B H l=0
 ·have hr:¬(B<1\/B>4096\/H<1\/H>8):=by
   intro h'
   rw[bchk,if_pos h']at h0
   cases h0
  have hh:=places_loop B H (stp h) (.sc (.int .i64 H)) (S (rk k) 1 (LI .u32 l)) (by omega) (by omega) hp H.toNat 0 (at0 h) [] (by omega) (wrap32_in _).1 (by simp)
  simp at hh
  have hs:∀x y,binV Tryz.prog .shr 76 x y (.int .u64 h) (.int .u64 32)=some (.int .u64 (h.fdiv (2^32))):=by
   intro x y
   rw[zJ _ _ _ _ _ _ _ _ (by omega)]
   rfl
  simp[getN,hc,h0,zM,hs,qe]
  exact hh
 ·simp[getN,hc,h0]
def Good(B:Int)(l:List Int):Prop:=Rise l/\∀n∈l,0<=n/\n<B
theorem Good.in32{B:Int}{l:List Int}(h:Good B l)(hB:B<=4096):In32 l:=fun n hn=>by have:=h.2 n hn;omega
theorem Good.nil(B:Int):Good B []:=⟨List.Pairwise.nil,by simp⟩
theorem Good.mrg{B:Int}{a b:List Int}(ha:Good B a)(hb:Good B b):Good B (mrg a b):=
 ⟨rise_mrg a b ha.1 hb.1,fun n hn=>((xO n a b).mp hn).elim (ha.2 n) (hb.2 n)⟩
theorem Good.one{B n:Int}(h:0<=n/\n<B):Good B [n]:=⟨by simp,by simpa using h⟩
theorem rise_len{B:Int}:∀{l:List Int} {a:Int},Rise l->(∀n∈l,a<=n/\n<B)->(l.length:Int)<=B-a\/l=[]
 |[],_,_,_=>.inr rfl
 |x::l,a,h,hb=>by
  have h':=List.pairwise_cons.mp h
  have hx:=hb x (by simp)
  rcases rise_len (a:=x+1) h'.2 (fun n hn=>⟨by have:=h'.1 n hn;omega,(hb n (by simp[hn])).2⟩)with h2|h2
  ·left;simp;omega
  ·left;subst h2;simp;omega
theorem Good.len{B:Int}{l:List Int}(h:Good B l)(hB:B<=4096):l.length<=4096:=by
 rcases rise_len (a:=0) h.1 h.2 with h'|h'
 ·omega
 ·simp[h']
theorem chkL_good{B:Int}:∀(l:List Int) (p:Option Int),(∀n∈l,0<=n/\n<B)->(match p with|none=>Rise l|some q=>Rise (q::l))->chkL B p l=0
 |[],_,_,_=>rfl
 | n::l,p,h,hp=>by
  have hn:=h n (by simp)
  have h0:¬(n>=B):=by omega
  simp only[chkL,h0,if_false]
  cases p with
  |none=>exact chkL_good l (some n) (fun m hm=>h m (by simp[hm])) hp
  |some q=>
   have hp:Rise (q::n::l):=hp
   have h1:=(List.pairwise_cons.mp hp).1 n (by simp)
   have h2:¬(n<=q):=by omega
   simp only[h2,if_false]
   exact chkL_good l (some n) (fun m hm=>h m (by simp[hm])) (List.pairwise_cons.mp hp).2
theorem chk_good{B H:Int}{l:List Int}(hB:1<=B/\B<=4096)(hH:1<=H/\H<=8)(h:Good B l):bchk B H l=0:=by
 unfold bchk
 rw[if_neg (by omega)]
 exact chkL_good l none h.2 h.1
def plg(B H h:Int):List Int:=plc B (stp h) H.toNat (at0 h)
theorem pls_good{B H:Int}{l:List Int}(hB:1<=B/\B<=4096)(hH:1<=H/\H<=8)(h:Good B l)(x:Int):pls B H l x=plg B H x:=by
 unfold pls
 rw[if_pos (chk_good hB hH h)];rfl
theorem plg_in{B H h:Int}(hB:1<=B):∀n∈plg B H h,0<=n/\n<B:=fun n hn=>plc_in B _ (by omega) _ _ n hn
theorem plg_len(B H h:Int):(plg B H h).length=H.toNat:=plc_len _ _ _ _
def adds(l:List Int):List Int->List Int
 |[]=>l
 |n::r=>adds (mrg l [n]) r
theorem adds_good{B:Int}:∀{r l:List Int},Good B l->(∀n∈r,0<=n/\n<B)->Good B (adds l r)
 |[],_,h,_=>h
 |n::r,l,h,hr=>adds_good (r:=r) (h.mrg (Good.one (hr n (by simp)))) fun m hm=>hr m (by simp[hm])
theorem add_loop(B H:Int)(q0 q1 q2 q:AV)(k':Nat)(ps:List Int)(hB:1<=B/\B<=4096)(hps:ps.length<=8)(hin:∀n∈ps,0<=n/\n<B)(hp:Hp):∀(r:List Int) (i:Nat) (l:List Int) (k:Nat),ps.drop i=r->Good B l->
  B71_3 (S k' 1 (LI .u32 ps)) (.int .i64 ps.length) (.int .i64 i) [.sc (.int .i64 B),.sc (.int .i64 H),q] [q0,q1,q2] [.sc (.int .i64 B),.sc (.int .i64 H),S k 1 (LI .u32 l)] hp=some (Bv (.int .i64 B) (.int .i64 H) (S (if r=[]then k else 2) 1 (LI .u32 (adds l r))),hp):=by
 intro r
 induction r with
 |nil=>
  intro i l k hr hg
  have:=qt hr
  have hlt:¬((i:Int)<(ps.length:Int)):=by omega
  rw[B71_3_eq]
  simp[hlt,getN,putN,adds]
 |cons x r ih=>
  intro i l k hr hg
  obtain⟨e1,e2,hi,e3⟩:=ql hr
  have hx:=hin x (List.mem_of_getElem? e1)
  have h:=ih (i+1) (mrg l [x]) 2 e2 (hg.mrg (Good.one hx))
  have hw:IntKind.i64.wrap ((i:Int)+1)=((i+1:Nat):Int):=by rw[qf]<;>omega
  have hlen:=hg.len hB.2
  have hm:=fun hp=>run_merge (.int .i64 B) (.int .i64 H) (.int .i64 B) (.int .i64 H) l [x] (rk k) 0 hp (by simp;omega)
  rw[B71_3_eq]
  simp[LI]at h hw hm
  simp[hi,e3,qe,getC,getN,putN,adds,LI,hm,hw,h]
theorem run_add(B H:Int)(l:List Int)(k:Nat)(h:Int)(hB:1<=B/\B<=4096)(hH:1<=H/\H<=8)(hg:Good B l)(hp:Hp):
  run cxX 71 [Bv (.int .i64 B) (.int .i64 H) (S k 1 (LI .u32 l)),.sc (.int .u64 h)] hp=some (Bv (.int .i64 B) (.int .i64 H) (S 2 1 (LI .u32 (adds l (plg B H h)))),hp):=by
 rw[E71]
 have hlen:=hg.len hB.2
 have h1:=fun hp=>run_places B H l (rk k) h (by omega) (hg.in32 hB.2) hp
 have hl:=plg_len B H h
 have hne:plg B H h≠[]:=by
  intro e
  rw[e]at hl
  simp at hl
  omega
 have h2:=add_loop B H (.sc (.int .i64 0)) (.sc (.int .i64 0)) (S 2 1 []) (S (rk k) 1 (LI .u32 l)) 2 (plg B H h) hB (by omega) (plg_in hB.1) hp _ 0 l (rk k) rfl hg
 rw[pls_good hB hH hg h]at h1
 simp[hne]at h2
 simp[getN,putN,h1,h2]
def blm(B H:Int):List Int->List Int->List Int
 |acc,[]=>acc
 |acc,h::r=>blm B H (adds acc (plg B H h)) r
theorem blm_good{B H:Int}(hB:1<=B):∀{r acc:List Int},Good B acc->Good B (blm B H acc r)
 |[],_,h=>h
 |x::r,acc,h=>blm_good hB (r:=r) (adds_good h (plg_in hB))
theorem bloom_loop(B H:Int)(q0 q1 q2:AV)(k:Nat)(hs:List Int)(hB:1<=B/\B<=4096)(hH:1<=H/\H<=8)(hl:hs.length<=1000000)(hp:Hp):∀(r:List Int) (i:Nat) (l:List Int),hs.drop i=r->Good B l->
  B29_3 (S k 1 (LI .u64 hs)) (.int .i64 hs.length) (.int .i64 i) [q0,q1,q2] [.sc (.int .i64 B),.sc (.int .i64 H),S 2 1 (LI .u32 l)] hp=some (Bv (.int .i64 B) (.int .i64 H) (S 2 1 (LI .u32 (blm B H l r))),hp):=by
 intro r
 induction r with
 |nil=>
  intro i l hr hg
  have:=qt hr
  have hlt:¬((i:Int)<(hs.length:Int)):=by omega
  rw[B29_3_eq]
  simp[hlt,getN,putN,blm]
 |cons x r ih=>
  intro i l hr hg
  obtain⟨e1,e2,hi,e3⟩:=ql hr
  have h:=ih (i+1) (adds l (plg B H x)) e2 (adds_good hg (plg_in hB.1))
  have hw:IntKind.i64.wrap ((i:Int)+1)=((i+1:Nat):Int):=by rw[qf]<;>omega
  have ha:=fun hp=>run_add B H l 3 x hB hH hg hp
  rw[B29_3_eq]
  simp at h hw
  simp[hi,e3,qe,getN,putN,blm,ha,hw,h]
theorem run_bloom(b h:Int)(k:Nat)(hs:List Int)(hb:0<=b/\b<65536)(hh:0<=h/\h<256)(hl:hs.length<=1000000)(hp:Hp):
  run cxX 29 [.sc (.int .u16 b),.sc (.int .u8 h),S k 1 (LI .u64 hs)] hp=some (Bv (.int .i64 (1+b%300)) (.int .i64 (1+h%8)) (S 2 1 (LI .u32 (blm (1+b%300) (1+h%8) [] hs))),hp):=by
 rw[E29]
 have h1:∀x y,binV Tryz.prog .rem 34 x y (.int .u16 b) (.int .u16 300)=some (.int .u16 (b%300)):=by
  intro x y;rw[qO _ _ _ _ _ _ _ (by omega),qN hb.1]
 have h2:∀x y,binV Tryz.prog .rem 5 x y (.int .u8 h) (.int .u8 8)=some (.int .u8 (h%8)):=by
  intro x y;rw[qO _ _ _ _ _ _ _ (by omega),qN hh.1]
 have w1:IntKind.i64.wrap (b%300)=b%300:=qf (by omega) (by omega)
 have w2:IntKind.i64.wrap (h%8)=h%8:=qf (by omega) (by omega)
 have w3:IntKind.i64.wrap (1+b%300)=1+b%300:=qf (by omega) (by omega)
 have w4:IntKind.i64.wrap (1+h%8)=1+h%8:=qf (by omega) (by omega)
 have hq:=bloom_loop (1+b%300) (1+h%8) (.sc (.int .i64 0)) (.sc (.int .i64 0)) (S 2 1 []) (rk k) hs (by omega) (by omega) hl hp hs 0 [] rfl (Good.nil _)
 simp at hq
 simp[h1,h2,cv_34_3,jy,w1,w2,w3,w4,hq]
noncomputable section
def B30_3(x23:AV)(v24 v25:Value)(b6 b7:List AV)(hp:Hp):=gb 30 [cc 232 cd30,cc 233 cd30,cl 116 cd30,.inBlock 0,cc 15 cd30] [(6,.lp 6 0 0),(7,.lp 7 0 0),va 23 x23,vs 24 v24,vs 25 v25] [(6,0,b6),(7,0,b7)] hp
theorem E30(a0 a1 a2:AV)(hp:Hp):run cxX 30 [a0,a1,a2] hp=aS a0 fun y0=>aS a1 fun y1=>bC .rem 5 12 y0 (kB 8) fun y2=>cV 5 3 y2 fun y3=>bG .add 3 (.const (kI 1)) (.tmp 14) (kI 1) y3 fun y4=>bC .rem 5 16 y1 (kB 40) fun y5=>cV 5 3 y5 fun y6=>bG .add 3 (.const (kI 1)) (.tmp 18) (kI 1) y6 fun y7=>cN 2 76 [.sc y4,.sc y7] hp fun z1 h2=>nS z1 1 fun y10=>(qg 3 (ro (nthA z1 0))).bind fun y11=>(putN [.sc (kI 0),.sc (kI 0),nl] 0 y11).bind fun y12=>ln (ro a2) fun y13=>B30_3 (ro a2) (kI y13) (kI 0) [.sc (kI 0),.sc (kI 0),nl] y12 h2:=
 (eE 30 ss30 _ _).trans (by kernel_rfl)
theorem B30_3_eq(x23:AV)(v24 v25:Value)(b6 b7:List AV)(hp:Hp):B30_3 x23 v24 v25 b6 b7 hp=iT .lss 3 25 24 v25 v24 ((idxA 2 x23 v25).bind fun y16=>(getN y16 0 2).bind fun y17=>(qg 2 (.agg (List.map ro1 y17))).bind fun y18=>(putN [.sc (kU 0),.sc (kW 0)] 0 y18).bind fun y19=>(getN b7 0 3).bind fun y20=>(qe y19 0).bind fun y21=>(qe y19 1).bind fun y22=>cA 72 [ro (.agg (List.map ro1 y20)),.sc y21,.sc y22] hp fun z1 h2=>(qg 3 z1).bind fun y25=>(putN b7 0 y25).bind fun y26=>bC .add 3 25 v25 (kI 1) fun y27=>B30_3 x23 v24 y27 b6 y26 h2) ((getN b7 0 3).bind fun y28=>(frzL hp (List.map ro1 y28)).bind fun y29=>(qg 3 (.agg y29.1)).bind fun y30=>(putN b6 0 y30).bind fun y31=>(getN y31 0 3).bind fun y32=>rQ (.agg y32) y29.2):=
 (eB 30 ss30 _ _).trans (by kernel_rfl)
end
noncomputable section
def B67_2(hp:Hp):=gb 67 [cc 52 cd67,cc 53 cd67,cc 7 cd67] [] [] hp
def B67_3(b1:List AV)(hp:Hp):=gb 67 [cc 28 cd67,cc 29 cd67,cc 15 cd67] [(1,.lp 1 0 0)] [(1,0,b1)] hp
def B67_4(x22:AV)(v23 v24:Value)(b1:List AV)(hp:Hp):=gb 67 [cc 232 cd67,cc 233 cd67,cl 116 cd67,.inBlock 0,cc 15 cd67] [(1,.lp 1 0 0),va 22 x22,vs 23 v23,vs 24 v24] [(1,0,b1)] hp
def B67_7(hp:Hp):=gb 67 [cc 29900 cd67,cc 53 cd67,.inBlock 1,cc 935 cd67,cl 116 cd67,.inBlock 0,cc 15 cd67] [] [] hp
def B67_8(x22:AV)(v23 v24:Value)(b1:List AV)(hp:Hp):=gb 67 [cc 935 cd67,cl 116 cd67,.inBlock 0,cc 15 cd67] [(1,.lp 1 0 0),va 22 x22,vs 23 v23,vs 24 v24] [(1,0,b1)] hp
def B67_10(hp:Hp):=gb 67 [cc 244 cd67,cc 53 cd67,cc 31 cd67] [] [] hp
def B67_11(hp:Hp):=gb 67 [cc 62 cd67,cc 53 cd67] [] [] hp
theorem E67(a0:AV)(hp:Hp):run cxX 67 [a0] hp=(qg 11 a0).bind fun y0=>(qe (List.map ro1 y0) 0).bind fun y1=>iC .lss 3 6 y1 (kI 1) (B67_2 hp) ((qe (List.map ro1 y0) 0).bind fun y4=>iC .gtr 3 10 y4 (kI 16) (B67_2 hp) ((getC (List.map ro1 y0) 10).bind fun y7=>ln (ro1 y7) fun y8=>(qe (List.map ro1 y0) 0).bind fun y9=>iT .gtr 3 16 18 (kI y8) y9 (B67_2 hp) (B67_3 (List.map ro1 y0) hp))):=
 (eE 67 ss67 _ _).trans (by kernel_rfl)
theorem B67_2_eq(hp:Hp):B67_2 hp=rQ (.sc (kI 2)) hp:=
 (eB 67 ss67 _ _).trans (by kernel_rfl)
theorem B67_3_eq(b1:List AV)(hp:Hp):B67_3 b1 hp=(getC b1 10).bind fun y12=>ln (ro1 y12) fun y13=>B67_4 (ro1 y12) (kI y13) (kI 0) b1 hp:=
 (eB 67 ss67 _ _).trans (by kernel_rfl)
theorem B67_4_eq(x22:AV)(v23 v24:Value)(b1:List AV)(hp:Hp):B67_4 x22 v23 v24 b1 hp=iT .lss 3 24 23 v24 v23 (ixS x22 v24 fun y17=>iC .gtr 3 29 v24 (kI 0) ((getC b1 10).bind fun y20=>bC .sub 3 35 v24 (kI 1) fun y21=>ixS (ro1 y20) y21 fun y23=>pS 123 [.sc y17,.sc y23] fun y27=>iB y27 (B67_7 hp) (B67_8 x22 v23 v24 b1 hp)) (B67_8 x22 v23 v24 b1 hp)) ((qe b1 8).bind fun y29=>(qe b1 8).bind fun y30=>iT .neq 50 43 45 y29 y30 (B67_10 hp) ((qe b1 9).bind fun y33=>(qe b1 9).bind fun y34=>iT .neq 50 49 51 y33 y34 (B67_10 hp) (B67_11 hp))):=
 (eB 67 ss67 _ _).trans (by kernel_rfl)
theorem B67_7_eq(hp:Hp):B67_7 hp=rQ (.sc (kI 8)) hp:=
 (eB 67 ss67 _ _).trans (by kernel_rfl)
theorem B67_8_eq(x22:AV)(v23 v24:Value)(b1:List AV)(hp:Hp):B67_8 x22 v23 v24 b1 hp=bC .add 3 24 v24 (kI 1) fun y37=>B67_4 x22 v23 y37 b1 hp:=
 (eB 67 ss67 _ _).trans (by kernel_rfl)
theorem B67_10_eq(hp:Hp):B67_10 hp=rQ (.sc (kI 4)) hp:=
 (eB 67 ss67 _ _).trans (by kernel_rfl)
theorem B67_11_eq(hp:Hp):B67_11 hp=rQ (.sc (kI 0)) hp:=
 (eB 67 ss67 _ _).trans (by kernel_rfl)
def B77_2(b2:List AV)(hp:Hp):=gb 77 [cc 52 cd77,cc 53 cd77,cc 7 cd77] [(2,.lp 2 0 0)] [(2,0,b2)] hp
def B77_3(v0:Value)(b2:List AV)(hp:Hp):=gb 77 [cc 14 cd77,cc 53 cd77] [vs 0 v0,(2,.lp 2 0 0)] [(2,0,b2)] hp
theorem E77(a0:AV)(hp:Hp):run cxX 77 [a0] hp=aS a0 fun y0=>iC .lss 3 4 y0 (kI 1) (B77_2 [.sc (kI 0),.sc (kW 0),.sc (kW 0),.sc (kW 0),.sc (kW 0),.sc (kW 0),.sc (kW 0),.sc (kW 0),.sc (Value.float Go.FloatKind.f64 0),.sc (Value.float Go.FloatKind.f64 0),nl] hp) (iC .gtr 3 7 y0 (kI 16) (B77_2 [.sc (kI 0),.sc (kW 0),.sc (kW 0),.sc (kW 0),.sc (kW 0),.sc (kW 0),.sc (kW 0),.sc (kW 0),.sc (Value.float Go.FloatKind.f64 0),.sc (Value.float Go.FloatKind.f64 0),nl] hp) (B77_3 y0 [.sc (kI 0),.sc (kW 0),.sc (kW 0),.sc (kW 0),.sc (kW 0),.sc (kW 0),.sc (kW 0),.sc (kW 0),.sc (Value.float Go.FloatKind.f64 0),.sc (Value.float Go.FloatKind.f64 0),nl] hp)):=
 (eE 77 ss77 _ _).trans (by kernel_rfl)
theorem B77_3_eq(v0:Value)(b2:List AV)(hp:Hp):B77_3 v0 b2 hp=pS 130 [.sc (kI 1)] fun y10=>pS 130 [.sc (.int .i64 (.negSucc 0))] fun y14=>(putN b2 0 [.sc v0,.sc (kW 0),.sc (kW 0),.sc (kW 0),.sc (kW 0),.sc (kW 0),.sc (kW 0),.sc (kW 0),.sc y10,.sc y14,nl]).bind fun y15=>(getN y15 0 11).bind fun y16=>rQ (.tup [.agg y16,.sc (.bool true)]) hp:=
 (eB 77 ss77 _ _).trans (by kernel_rfl)
theorem E78(a0 a1:AV)(hp:Hp):run cxX 78 [a0,a1] hp=aS a1 fun y0=>(qg 11 a0).bind fun y1=>(getN (List.map ro1 y1) 0 11).bind fun y2=>(qe (List.map ro1 y1) 0).bind fun y3=>pA 132 [.sc y3,.sc y0] fun z1=>pA 131 [.agg (List.map ro1 y2),z1] fun z2=>(qg 11 z2).bind fun y12=>(putN [.sc (kI 0),.sc (kW 0),.sc (kW 0),.sc (kW 0),.sc (kW 0),.sc (kW 0),.sc (kW 0),.sc (kW 0),.sc (Value.float Go.FloatKind.f64 0),.sc (Value.float Go.FloatKind.f64 0),nl] 0 y12).bind fun y13=>(getN y13 0 11).bind fun y14=>rQ (.agg y14) hp:=
 (eE 78 ss78 _ _).trans (by kernel_rfl)
def B121_2(hp:Hp):=gb 121 [cc 52 cd121,cc 53 cd121,cc 7 cd121] [] [] hp
def B121_3(b2 b3:List AV)(hp:Hp):=gb 121 [cc 28 cd121,cc 29 cd121,cc 15 cd121] [(2,.lp 2 0 0),(3,.lp 3 0 0)] [(2,0,b2),(3,0,b3)] hp
def B121_4(v52 v53:Value)(b2 b3:List AV)(hp:Hp):=gb 121 [cc 232 cd121,cc 233 cd121,cl 116 cd121,.inBlock 0,cc 15 cd121] [(2,.lp 2 0 0),(3,.lp 3 0 0),vs 52 v52,vs 53 v53] [(2,0,b2),(3,0,b3)] hp
theorem E121(a0 a1:AV)(hp:Hp):run cxX 121 [a0,a1] hp=(qg 11 a0).bind fun y0=>(qg 11 a1).bind fun y1=>(qe (List.map ro1 y0) 0).bind fun y2=>(qe (List.map ro1 y1) 0).bind fun y3=>iT .neq 3 7 9 y2 y3 (B121_2 hp) ((qe (List.map ro1 y0) 1).bind fun y6=>(qe (List.map ro1 y1) 1).bind fun y7=>iT .neq 30 13 15 y6 y7 (B121_2 hp) ((getN (List.map ro1 y0) 2 6).bind fun y10=>(getN (List.map ro1 y1) 2 6).bind fun y11=>(js (.agg (List.map ro1 y10))).bind fun y12=>(js (.agg (List.map ro1 y11))).bind fun y13=>iT .neq 49 20 22 y12 y13 (B121_2 hp) ((qe (List.map ro1 y0) 8).bind fun y16=>(qe (List.map ro1 y1) 8).bind fun y17=>pS 167 [.sc y16,.sc y17] fun y21=>iN y21 (B121_2 hp) ((qe (List.map ro1 y0) 9).bind fun y24=>(qe (List.map ro1 y1) 9).bind fun y25=>pS 167 [.sc y24,.sc y25] fun y29=>iN y29 (B121_2 hp) ((getC (List.map ro1 y0) 10).bind fun y32=>ln (ro1 y32) fun y33=>(getC (List.map ro1 y1) 10).bind fun y34=>ln (ro1 y34) fun y35=>iT .neq 3 44 47 (kI y33) (kI y35) (B121_2 hp) (B121_3 (List.map ro1 y0) (List.map ro1 y1) hp)))))):=
 (eE 121 ss121 _ _).trans (by kernel_rfl)
theorem B121_2_eq(hp:Hp):B121_2 hp=rQ (.sc (.bool false)) hp:=
 (eB 121 ss121 _ _).trans (by kernel_rfl)
theorem B121_3_eq(b2 b3:List AV)(hp:Hp):B121_3 b2 b3 hp=(getC b2 10).bind fun y38=>ln (ro1 y38) fun y39=>B121_4 (kI y39) (kI 0) b2 b3 hp:=
 (eB 121 ss121 _ _).trans (by kernel_rfl)
theorem B121_4_eq(v52 v53:Value)(b2 b3:List AV)(hp:Hp):B121_4 v52 v53 b2 b3 hp=iT .lss 3 53 52 v53 v52 ((getC b2 10).bind fun y42=>ixS (ro1 y42) v53 fun y44=>(getC b3 10).bind fun y45=>ixS (ro1 y45) v53 fun y47=>pS 167 [.sc y44,.sc y47] fun y51=>iN y51 (rQ (.sc (.bool false)) hp) (bC .add 3 53 v53 (kI 1) fun y54=>B121_4 v52 y54 b2 b3 hp)) (rQ (.sc (.bool true)) hp):=
 (eB 121 ss121 _ _).trans (by kernel_rfl)
def B131_3(v27:Value)(b2 b3 b4 b5:List AV)(hp:Hp):=gb 131 [cc 232 jg,cc 233 jg,cl 116 jg,.inBlock 0,cc 15 jg] [(2,.lp 2 0 0),(3,.lp 3 0 0),(4,.lp 4 0 0),(5,.lp 5 0 0),vs 27 v27] [(2,0,b2),(3,0,b3),(4,0,b4),(5,0,b5)] hp
def B131_8(x7 x8:AV)(b2 b4 b5:List AV)(hp:Hp):=gb 131 [cc 992 jg,cc 993 jg,cc 497 jg,cl 248 jg,.inBlock 2,cc 63 jg] [(2,.lp 2 0 0),(4,.lp 4 0 0),(5,.lp 5 0 0),va 7 x7,va 8 x8] [(2,0,b2),(4,0,b4),(5,0,b5)] hp
def B131_9(x7 x8:AV)(b2 b4 b5:List AV)(hp:Hp):=gb 131 [cc 1988 jg,cc 1989 jg,.inBlock 3,cl 248 jg,.inBlock 2,cc 63 jg] [(2,.lp 2 0 0),(4,.lp 4 0 0),(5,.lp 5 0 0),va 7 x7,va 8 x8] [(2,0,b2),(4,0,b4),(5,0,b5)] hp
def B131_12(b4 b5:List AV)(hp:Hp):=gb 131 [cc 126 jg,cc 127 jg] [(4,.lp 4 0 0),(5,.lp 5 0 0)] [(4,0,b4),(5,0,b5)] hp
def B131_10(x7 x8:AV)(b2 b4 b5:List AV)(hp:Hp):=gb 131 [cc 3978 jg,.inBlock 3,cl 248 jg,.inBlock 2,cc 63 jg] [(2,.lp 2 0 0),(4,.lp 4 0 0),(5,.lp 5 0 0),va 7 x7,va 8 x8] [(2,0,b2),(4,0,b4),(5,0,b5)] hp
def B131_11(x7 x8:AV)(b2 b4 b5:List AV)(hp:Hp):=gb 131 [cc 3979 jg,.inBlock 3,cl 248 jg,.inBlock 2,cc 63 jg] [(2,.lp 2 0 0),(4,.lp 4 0 0),(5,.lp 5 0 0),va 7 x7,va 8 x8] [(2,0,b2),(4,0,b4),(5,0,b5)] hp
theorem E131(a0 a1:AV)(hp:Hp):run cxX 131 [a0,a1] hp=(qg 11 a0).bind fun y0=>(qg 11 a1).bind fun y1=>(qe (List.map ro1 y0) 0).bind fun y2=>(qe (List.map ro1 y0) 1).bind fun y3=>(qe (List.map ro1 y1) 1).bind fun y4=>pS 129 [.sc y3,.sc y4] fun y8=>(qe (List.map ro1 y0) 8).bind fun y9=>(qe (List.map ro1 y1) 8).bind fun y10=>pS 170 [.sc y9,.sc y10] fun y14=>(qe (List.map ro1 y0) 9).bind fun y15=>(qe (List.map ro1 y1) 9).bind fun y16=>pS 171 [.sc y15,.sc y16] fun y20=>B131_3 (kI 0) (List.map ro1 y0) (List.map ro1 y1) [.sc (kI 0),.sc (kW 0),.sc (kW 0),.sc (kW 0),.sc (kW 0),.sc (kW 0),.sc (kW 0),.sc (kW 0),.sc (Value.float Go.FloatKind.f64 0),.sc (Value.float Go.FloatKind.f64 0),nl] [.sc y2,.sc y8,.sc (kW 0),.sc (kW 0),.sc (kW 0),.sc (kW 0),.sc (kW 0),.sc (kW 0),.sc y14,.sc y20,nl] hp:=
 (eE 131 ss131 _ _).trans (by kernel_rfl)
theorem jJ(v27:Value)(b2 b3 b4 b5:List AV)(hp:Hp):B131_3 v27 b2 b3 b4 b5 hp=iC .lss 3 27 v27 (kI 6) ((idx 6 v27).bind fun y23=>(qe b2 (Nat.add 2 (Nat.add 0 y23))).bind fun y24=>(idx 6 v27).bind fun y25=>(qe b3 (Nat.add 2 (Nat.add 0 y25))).bind fun y26=>pS 129 [.sc y24,.sc y26] fun y30=>(idx 6 v27).bind fun y31=>(putN b5 (Nat.add 2 (Nat.add 0 y31)) [.sc y30]).bind fun y32=>bC .add 3 27 v27 (kI 1) fun y33=>B131_3 y33 b2 b3 b4 y32 hp) ((getC b2 10).bind fun y34=>(getC b3 10).bind fun y35=>B131_8 (ro1 y34) (ro1 y35) b2 b4 b5 hp):=
 (eB 131 ss131 _ _).trans (by kernel_rfl)
theorem B131_8_eq(x7 x8:AV)(b2 b4 b5:List AV)(hp:Hp):B131_8 x7 x8 b2 b4 b5 hp=(getC b5 10).bind fun y36=>ln (ro1 y36) fun y37=>(qe b2 0).bind fun y38=>iT .lss 3 49 51 (kI y37) y38 (ln (ro x7) fun y41=>ln (ro x8) fun y42=>bT .add 3 55 57 (kI y41) (kI y42) fun y43=>iC .gtr 3 58 y43 (kI 0) (B131_9 x7 x8 b2 b4 b5 hp) (B131_12 b4 b5 hp)) (B131_12 b4 b5 hp):=
 (eB 131 ss131 _ _).trans (by kernel_rfl)
theorem B131_9_eq(x7 x8:AV)(b2 b4 b5:List AV)(hp:Hp):B131_9 x7 x8 b2 b4 b5 hp=ln (ro x8) fun y46=>iC .eql 3 62 (kI y46) (kI 0) (B131_10 x7 x8 b2 b4 b5 hp) (ln (ro x7) fun y49=>iC .gtr 3 66 (kI y49) (kI 0) (ixS (ro x8) (kI 0) fun y53=>ixS (ro x7) (kI 0) fun y55=>pS 123 [.sc y53,.sc y55] fun y59=>iN y59 (B131_10 x7 x8 b2 b4 b5 hp) (B131_11 x7 x8 b2 b4 b5 hp)) (B131_11 x7 x8 b2 b4 b5 hp)):=
 (eB 131 ss131 _ _).trans (by kernel_rfl)
theorem B131_12_eq(b4 b5:List AV)(hp:Hp):B131_12 b4 b5 hp=(getN b5 0 11).bind fun y62=>(putN b5 0 (List.map ro1 y62)).bind fun y63=>(qg 11 (.agg y62)).bind fun y64=>(putN b4 0 y64).bind fun y65=>(getN y65 0 11).bind fun y66=>rQ (.agg y66) hp:=
 (eB 131 ss131 _ _).trans (by kernel_rfl)
theorem B131_10_eq(x7 x8:AV)(b2 b4 b5:List AV)(hp:Hp):B131_10 x7 x8 b2 b4 b5 hp=(getC b5 10).bind fun y67=>ixS (ro x7) (kI 0) fun y69=>ap 8 y67 y69 fun y71=>(slcA 1 (ro x7) (Option.some (kI 1)) none none).bind fun y72=>(qg 1 y71).bind fun y73=>(putN (List.set b5 10 (ro1 y67)) 10 y73).bind fun y74=>B131_8 y72 x8 b2 b4 y74 hp:=
 (eB 131 ss131 _ _).trans (by kernel_rfl)
theorem B131_11_eq(x7 x8:AV)(b2 b4 b5:List AV)(hp:Hp):B131_11 x7 x8 b2 b4 b5 hp=(getC b5 10).bind fun y75=>ixS (ro x8) (kI 0) fun y77=>ap 8 y75 y77 fun y79=>(slcA 1 (ro x8) (Option.some (kI 1)) none none).bind fun y80=>(qg 1 y79).bind fun y81=>(putN (List.set b5 10 (ro1 y75)) 10 y81).bind fun y82=>B131_8 x7 y80 b2 b4 y82 hp:=
 (eB 131 ss131 _ _).trans (by kernel_rfl)
def B132_5(v1:Value)(b4 b5:List AV)(hp:Hp):=gb 132 [cc 62 cd132,cc 63 cd132] [vs 1 v1,(4,.lp 4 0 0),(5,.lp 5 0 0)] [(4,0,b4),(5,0,b5)] hp
theorem E132(a0 a1:AV)(hp:Hp):run cxX 132 [a0,a1] hp=aS a0 fun y0=>aS a1 fun y1=>pS 130 [.sc (kI 1)] fun y5=>pS 130 [.sc (.int .i64 (.negSucc 0))] fun y9=>pS 172 [.sc y1] fun y13=>(idx 6 y13).bind fun y14=>(putN [.sc y0,.sc (kW 1),.sc (kW 0),.sc (kW 0),.sc (kW 0),.sc (kW 0),.sc (kW 0),.sc (kW 0),.sc y5,.sc y9,nl] (Nat.add 2 (Nat.add 0 y14)) [.sc (kW 1)]).bind fun y15=>iT .eql 50 16 17 y1 y1 ((putN y15 8 [.sc y1]).bind fun y18=>(putN y18 9 [.sc y1]).bind fun y19=>B132_5 y1 [.sc (kI 0),.sc (kW 0),.sc (kW 0),.sc (kW 0),.sc (kW 0),.sc (kW 0),.sc (kW 0),.sc (kW 0),.sc (Value.float Go.FloatKind.f64 0),.sc (Value.float Go.FloatKind.f64 0),nl] y19 hp) (B132_5 y1 [.sc (kI 0),.sc (kW 0),.sc (kW 0),.sc (kW 0),.sc (kW 0),.sc (kW 0),.sc (kW 0),.sc (kW 0),.sc (Value.float Go.FloatKind.f64 0),.sc (Value.float Go.FloatKind.f64 0),nl] y15 hp):=
 (eE 132 ss132 _ _).trans (by kernel_rfl)
theorem B132_5_eq(v1:Value)(b4 b5:List AV)(hp:Hp):B132_5 v1 b4 b5 hp=pS 92 [.sc v1] fun y23=>pT 2 155 [.sc y23] fun z1=>nS z1 0 fun y28=>nS z1 1 fun y29=>(okV [.sc y28]).bind fun y30=>(putN b5 10 [AV.us 1 [.sc y28]]).bind fun y31=>(getN y31 0 11).bind fun y32=>(putN y31 0 (List.map ro1 y32)).bind fun y33=>(qg 11 (.agg y32)).bind fun y34=>(putN b4 0 y34).bind fun y35=>(getN y35 0 11).bind fun y36=>rQ (.agg y36) hp:=
 (eB 132 ss132 _ _).trans (by kernel_rfl)
end
noncomputable section
def B66_2(hp:Hp):=gb 66 [cc 100 cd66,cc 101 cd66,.inBlock 0,cc 7 cd66] [] [] hp
def B66_3(b1:List AV)(hp:Hp):=gb 66 [cc 102 cd66,cc 103 cd66,.inBlock 0,cc 7 cd66] [(1,.lp 1 0 0)] [(1,0,b1)] hp
theorem E66(a0:AV)(hp:Hp):run cxX 66 [a0] hp=(qg 3 a0).bind fun y0=>(qe (List.map ro1 y0) 0).bind fun y1=>iC .lss 3 5 y1 (kI 1) (B66_2 hp) ((qe (List.map ro1 y0) 0).bind fun y4=>iC .gtr 3 9 y4 (kI 8) (B66_2 hp) ((qe (List.map ro1 y0) 1).bind fun y7=>iC .lss 3 14 y7 (kI 1) (B66_2 hp) ((qe (List.map ro1 y0) 1).bind fun y10=>iC .gtr 3 19 y10 (kI 256) (B66_2 hp) (B66_3 (List.map ro1 y0) hp)))):=
 (eE 66 ss66 _ _).trans (by kernel_rfl)
theorem B66_2_eq(hp:Hp):B66_2 hp=rQ (.sc (kI 2)) hp:=
 (eB 66 ss66 _ _).trans (by kernel_rfl)
theorem B66_3_eq(b1:List AV)(hp:Hp):B66_3 b1 hp=(getC b1 2).bind fun y13=>ln (ro1 y13) fun y14=>(qe b1 0).bind fun y15=>(qe b1 1).bind fun y16=>bT .mul 3 27 29 y15 y16 fun y17=>iT .neq 3 25 30 (kI y14) y17 (rQ (.sc (kI 6)) hp) (rQ (.sc (kI 0)) hp):=
 (eB 66 ss66 _ _).trans (by kernel_rfl)
def B72_4(v1 v2 v23 v24:Value)(b3 b6 b7:List AV)(hp:Hp):=gb 72 [cc 936 cd72,cc 937 cd72,cl 468 cd72,.inBlock 0,cc 15 cd72] [vs 1 v1,vs 2 v2,(3,.lp 3 0 0),(6,.lp 6 0 0),(7,.lp 7 0 0),vs 23 v23,vs 24 v24] [(3,0,b3),(6,0,b6),(7,0,b7)] hp
def B72_9(b6 b7:List AV)(hp:Hp):=gb 72 [cc 30 cd72,cc 31 cd72] [(6,.lp 6 0 0),(7,.lp 7 0 0)] [(6,0,b6),(7,0,b7)] hp
theorem E72(a0 a1 a2:AV)(hp:Hp):run cxX 72 [a0,a1,a2] hp=aS a1 fun y0=>aS a2 fun y1=>(qg 3 a0).bind fun y2=>(qe (List.map ro1 y2) 0).bind fun y3=>(qe (List.map ro1 y2) 1).bind fun y4=>(okV []).bind fun y5=>(getC (List.map ro1 y2) 2).bind fun y6=>(appM 4 1 (AV.us 1 []) (ro1 y6) hp).bind fun y7=>(qg 1 y7.1).bind fun y8=>(putN [.sc y3,.sc y4,nl] 2 y8).bind fun y9=>(qg 3 (.agg (List.map ro1 y9))).bind fun y10=>(putN [.sc (kI 0),.sc (kI 0),nl] 0 y10).bind fun y11=>(getN (List.map ro1 y2) 0 3).bind fun y12=>cS 66 [ro (.agg (List.map ro1 y12))] y7.2 fun y14 h1=>iC .eql 57 20 y14 (kI 0) ((qe (List.map ro1 y2) 0).bind fun y17=>B72_4 y0 y1 y17 (kI 0) (List.map ro1 y2) [.sc (kI 0),.sc (kI 0),nl] y11 h1) (B72_9 [.sc (kI 0),.sc (kI 0),nl] y11 h1):=
 (eE 72 ss72 _ _).trans (by kernel_rfl)
theorem B72_4_eq(v1 v2 v23 v24:Value)(b3 b6 b7:List AV)(hp:Hp):B72_4 v1 v2 v23 v24 b3 b6 b7 hp=iT .lss 3 24 23 v24 v23 ((qe b3 1).bind fun y20=>bT .mul 3 27 29 v24 y20 fun y21=>(getN b3 0 3).bind fun y22=>cS 128 [ro (.agg (List.map ro1 y22)),.sc v1,.sc v24] hp fun y24 h1=>bT .add 3 30 34 y21 y24 fun y25=>(getC b7 2).bind fun y26=>(getC b7 2).bind fun y27=>(qR (ro1 y27)).bind fun y28=>(idx y28.2.2.2.1 y25).bind fun y29=>(chkN y28.2.2.2.2 1).bind fun y30=>(Hp.rd h1 y28.1 y28.2.1).bind fun y31=>(qe y31 (Nat.add y28.2.2.1 (Nat.add 0 y29))).bind fun y32=>pS 129 [.sc y32,.sc v2] fun y36=>(qR (ro1 y26)).bind fun y37=>(idx y37.2.2.2.1 y25).bind fun y38=>(chkN y37.2.2.2.2 1).bind fun y39=>(Hp.rd h1 y37.1 y37.2.1).bind fun y40=>(putN y40 (Nat.add y37.2.2.1 (Nat.add 0 y38)) [.sc y36]).bind fun y41=>bC .add 3 24 v24 (kI 1) fun y42=>B72_4 v1 v2 v23 y42 b3 b6 b7 (Hp.put h1 y37.1 y37.2.1 y41)) (B72_9 b6 b7 hp):=
 (eB 72 ss72 _ _).trans (by kernel_rfl)
theorem B72_9_eq(b6 b7:List AV)(hp:Hp):B72_9 b6 b7 hp=(getN b7 0 3).bind fun y43=>(frzL hp (List.map ro1 y43)).bind fun y44=>(qg 3 (.agg y44.1)).bind fun y45=>(putN b6 0 y45).bind fun y46=>(getN y46 0 3).bind fun y47=>rQ (.agg y47) y44.2:=
 (eB 72 ss72 _ _).trans (by kernel_rfl)
def B76_2(b4:List AV)(hp:Hp):=gb 76 [cc 52 cd76,cc 53 cd76,cc 7 cd76] [(4,.lp 4 0 0)] [(4,0,b4)] hp
def B76_3(v0 v1:Value)(b4:List AV)(hp:Hp):=gb 76 [cc 14 cd76,cc 53 cd76] [vs 0 v0,vs 1 v1,(4,.lp 4 0 0)] [(4,0,b4)] hp
theorem E76(a0 a1:AV)(hp:Hp):run cxX 76 [a0,a1] hp=aS a0 fun y0=>aS a1 fun y1=>iC .lss 3 6 y0 (kI 1) (B76_2 [.sc (kI 0),.sc (kI 0),nl] hp) (iC .gtr 3 9 y0 (kI 8) (B76_2 [.sc (kI 0),.sc (kI 0),nl] hp) (iC .lss 3 13 y1 (kI 1) (B76_2 [.sc (kI 0),.sc (kI 0),nl] hp) (iC .gtr 3 17 y1 (kI 256) (B76_2 [.sc (kI 0),.sc (kI 0),nl] hp) (B76_3 y0 y1 [.sc (kI 0),.sc (kI 0),nl] hp)))):=
 (eE 76 ss76 _ _).trans (by kernel_rfl)
theorem B76_3_eq(v0 v1:Value)(b4:List AV)(hp:Hp):B76_3 v0 v1 b4 hp=bT .mul 3 23 24 v0 v1 fun y12=>(asI y12).bind fun y13=>(asI y12).bind fun y14=>(xM 4 1 y13 y14).bind fun y15=>(putN b4 0 [.sc v0,.sc v1,ro1 (AV.ms hp.1 0 0 (tN y13) 1)]).bind fun y16=>(getN y16 0 3).bind fun y17=>rQ (.tup [.agg y17,.sc (.bool true)]) (Hp.new hp (xx y13 [kW 0])):=
 (eB 76 ss76 _ _).trans (by kernel_rfl)
def B120_2(hp:Hp):=gb 120 [cc 52 cd120,cc 53 cd120,cc 7 cd120] [] [] hp
def B120_3(b2 b3:List AV)(hp:Hp):=gb 120 [cc 28 cd120,cc 29 cd120,cc 15 cd120] [(2,.lp 2 0 0),(3,.lp 3 0 0)] [(2,0,b2),(3,0,b3)] hp
def B120_4(v29 v30:Value)(b2 b3:List AV)(hp:Hp):=gb 120 [cc 232 cd120,cc 233 cd120,cl 116 cd120,.inBlock 0,cc 15 cd120] [(2,.lp 2 0 0),(3,.lp 3 0 0),vs 29 v29,vs 30 v30] [(2,0,b2),(3,0,b3)] hp
theorem E120(a0 a1:AV)(hp:Hp):run cxX 120 [a0,a1] hp=(qg 3 a0).bind fun y0=>(qg 3 a1).bind fun y1=>(qe (List.map ro1 y0) 0).bind fun y2=>(qe (List.map ro1 y1) 0).bind fun y3=>iT .neq 3 7 9 y2 y3 (B120_2 hp) ((qe (List.map ro1 y0) 1).bind fun y6=>(qe (List.map ro1 y1) 1).bind fun y7=>iT .neq 3 13 15 y6 y7 (B120_2 hp) ((getC (List.map ro1 y0) 2).bind fun y10=>ln (ro1 y10) fun y11=>(getC (List.map ro1 y1) 2).bind fun y12=>ln (ro1 y12) fun y13=>iT .neq 3 21 24 (kI y11) (kI y13) (B120_2 hp) (B120_3 (List.map ro1 y0) (List.map ro1 y1) hp))):=
 (eE 120 ss120 _ _).trans (by kernel_rfl)
theorem B120_2_eq(hp:Hp):B120_2 hp=rQ (.sc (.bool false)) hp:=
 (eB 120 ss120 _ _).trans (by kernel_rfl)
theorem B120_3_eq(b2 b3:List AV)(hp:Hp):B120_3 b2 b3 hp=(getC b2 2).bind fun y16=>ln (ro1 y16) fun y17=>B120_4 (kI y17) (kI 0) b2 b3 hp:=
 (eB 120 ss120 _ _).trans (by kernel_rfl)
theorem B120_4_eq(v29 v30:Value)(b2 b3:List AV)(hp:Hp):B120_4 v29 v30 b2 b3 hp=iT .lss 3 30 29 v30 v29 ((getC b2 2).bind fun y20=>ixS (ro1 y20) v30 fun y22=>(getC b3 2).bind fun y23=>ixS (ro1 y23) v30 fun y25=>iT .neq 30 37 42 y22 y25 (rQ (.sc (.bool false)) hp) (bC .add 3 30 v30 (kI 1) fun y28=>B120_4 v29 y28 b2 b3 hp)) (rQ (.sc (.bool true)) hp):=
 (eB 120 ss120 _ _).trans (by kernel_rfl)
theorem E128(a0 a1 a2:AV)(hp:Hp):run cxX 128 [a0,a1,a2] hp=aS a1 fun y0=>aS a2 fun y1=>(qg 3 a0).bind fun y2=>bC .shr 76 8 y0 (kU 32) fun y3=>bG .mul 3 (.const (kI 2)) (.tmp 10) (kI 2) y1 fun y4=>bC .add 3 11 y4 (kI 1) fun y5=>cV 3 76 y5 fun y6=>bT .mul 76 9 13 y3 y6 fun y7=>bC .and 76 15 y0 (kU 4294967295) fun y8=>bT .add 76 14 16 y7 y8 fun y9=>bC .shr 76 19 y9 (kU 17) fun y10=>bT .xor 76 18 20 y9 y10 fun y11=>(qe (List.map ro1 y2) 1).bind fun y12=>(bltV Tryz.prog Go.Builtin.max (Array.mk [3,3]) 3 [y12,kI 1]).bind fun y13=>cV 3 76 y13 fun y14=>bT .rem 76 21 25 y11 y14 fun y15=>cV 76 3 y15 fun y16=>rQ (.sc y16) hp:=
 (eE 128 ss128 _ _).trans (by kernel_rfl)
theorem E129(a0 a1:AV)(hp:Hp):run cxX 129 [a0,a1] hp=aS a0 fun y0=>aS a1 fun y1=>bT .add 30 6 7 y0 y1 fun y2=>iT .geq 30 9 10 y2 y0 (rQ (.sc y2) hp) (rQ (.sc (kW 4294967295)) hp):=
 (eE 129 ss129 _ _).trans (by kernel_rfl)
end
noncomputable section
def B31_3(x17:AV)(v18 v19:Value)(b4 b5:List AV)(hp:Hp):=gb 31 [cc 232 cd31,cc 233 cd31,cl 116 cd31,.inBlock 0,cc 15 cd31] [(4,.lp 4 0 0),(5,.lp 5 0 0),va 17 x17,vs 18 v18,vs 19 v19] [(4,0,b4),(5,0,b5)] hp
theorem E31(a0 a1:AV)(hp:Hp):run cxX 31 [a0,a1] hp=aS a0 fun y0=>bC .rem 5 10 y0 (kB 16) fun y1=>cV 5 3 y1 fun y2=>bG .add 3 (.const (kI 1)) (.tmp 12) (kI 1) y2 fun y3=>pT 2 77 [.sc y3] fun z1=>nS z1 1 fun y8=>(qg 11 (ro (nthA z1 0))).bind fun y9=>(putN [.sc (kI 0),.sc (kW 0),.sc (kW 0),.sc (kW 0),.sc (kW 0),.sc (kW 0),.sc (kW 0),.sc (kW 0),.sc (Value.float Go.FloatKind.f64 0),.sc (Value.float Go.FloatKind.f64 0),nl] 0 y9).bind fun y10=>ln (ro a1) fun y11=>B31_3 (ro a1) (kI y11) (kI 0) [.sc (kI 0),.sc (kW 0),.sc (kW 0),.sc (kW 0),.sc (kW 0),.sc (kW 0),.sc (kW 0),.sc (kW 0),.sc (Value.float Go.FloatKind.f64 0),.sc (Value.float Go.FloatKind.f64 0),nl] y10 hp:=
 (eE 31 ss31 _ _).trans (by kernel_rfl)
theorem B31_3_eq(x17:AV)(v18 v19:Value)(b4 b5:List AV)(hp:Hp):B31_3 x17 v18 v19 b4 b5 hp=iT .lss 3 19 18 v19 v18 ((idxA 2 x17 v19).bind fun y14=>(getN y14 0 2).bind fun y15=>(qg 2 (.agg (List.map ro1 y15))).bind fun y16=>(putN [.sc (kU 0),.sc (kB 0)] 0 y16).bind fun y17=>(getN b5 0 11).bind fun y18=>(getN y17 0 2).bind fun y19=>pS 79 [.agg (List.map ro1 y19)] fun y23=>pA 78 [.agg (List.map ro1 y18),.sc y23] fun z1=>(qg 11 z1).bind fun y28=>(putN b5 0 y28).bind fun y29=>bC .add 3 19 v19 (kI 1) fun y30=>B31_3 x17 v18 y30 b4 y29 hp) ((getN b5 0 11).bind fun y31=>(putN b5 0 (List.map ro1 y31)).bind fun y32=>(qg 11 (.agg y31)).bind fun y33=>(putN b4 0 y33).bind fun y34=>(getN y34 0 11).bind fun y35=>rQ (.agg y35) hp):=
 (eB 31 ss31 _ _).trans (by kernel_rfl)
theorem E79(a0:AV)(hp:Hp):run cxX 79 [a0] hp=(qg 2 a0).bind fun y0=>(qe (List.map ro1 y0) 0).bind fun y1=>(qe (List.map ro1 y0) 1).bind fun y2=>pS 133 [.sc y1,.sc y2] fun y6=>rQ (.sc y6) hp:=
 (eE 79 ss79 _ _).trans (by kernel_rfl)
end
noncomputable section
def B92_7(v3:Value)(hp:Hp):=gb 92 [cc 30 cd92,cc 31 cd92] [vs 3 v3] [] hp
theorem E92(a0:AV)(hp:Hp):run cxX 92 [a0] hp=aS a0 fun y0=>(one (extX Tryz.prog 142 [y0])).bind fun y1=>pS 143 [.sc y0] fun y5=>iB y5 (B92_7 (kU 18444492273895866369) hp) (bC .and 76 12 y1 (kU 9223372036854775808) fun y7=>iC .neq 76 13 y7 (kU 0) ((unV Tryz.prog .xor y1).bind fun y10=>B92_7 y10 hp) (bC .or 76 6 y1 (kU 9223372036854775808) fun y11=>B92_7 y11 hp)):=
 (eE 92 ss92 _ _).trans (by kernel_rfl)
theorem B92_7_eq(v3:Value)(hp:Hp):B92_7 v3 hp=rQ (.sc v3) hp:=
 (eB 92 ss92 _ _).trans (by kernel_rfl)
theorem E123(a0 a1:AV)(hp:Hp):run cxX 123 [a0,a1] hp=aS a0 fun y0=>aS a1 fun y1=>pS 92 [.sc y0] fun y5=>pS 92 [.sc y1] fun y9=>bT .lss 76 6 8 y5 y9 fun y10=>rQ (.sc y10) hp:=
 (eE 123 ss123 _ _).trans (by kernel_rfl)
def B155_4(v0 v4:Value)(hp:Hp):=gb 155 [cc 30 cd155,cc 31 cd155] [vs 0 v0,vs 4 v4] [] hp
theorem E155(a0:AV)(hp:Hp):run cxX 155 [a0] hp=aS a0 fun y0=>bC .andNot 76 6 y0 (kU 9223372036854775808) fun y1=>bC .and 76 8 y0 (kU 9223372036854775808) fun y2=>iC .eql 76 9 y2 (kU 0) ((unV Tryz.prog .xor y0).bind fun y5=>B155_4 y0 y5 hp) (B155_4 y0 y1 hp):=
 (eE 155 ss155 _ _).trans (by kernel_rfl)
theorem B155_4_eq(v0 v4:Value)(hp:Hp):B155_4 v0 v4 hp=(one (extX Tryz.prog 169 [v4])).bind fun y6=>pS 92 [.sc y6] fun y10=>bT .eql 76 17 18 y10 v0 fun y11=>rQ (.tup [.sc y6,.sc y11]) hp:=
 (eB 155 ss155 _ _).trans (by kernel_rfl)
theorem E167(a0 a1:AV)(hp:Hp):run cxX 167 [a0,a1] hp=aS a0 fun y0=>aS a1 fun y1=>pS 92 [.sc y0] fun y5=>pS 92 [.sc y1] fun y9=>bT .eql 76 6 8 y5 y9 fun y10=>rQ (.sc y10) hp:=
 (eE 167 ss167 _ _).trans (by kernel_rfl)
theorem E170(a0 a1:AV)(hp:Hp):run cxX 170 [a0,a1] hp=aS a0 fun y0=>aS a1 fun y1=>pS 123 [.sc y1,.sc y0] fun y5=>iB y5 (rQ (.sc y1) hp) (rQ (.sc y0) hp):=
 (eE 170 ss170 _ _).trans (by kernel_rfl)
theorem E171(a0 a1:AV)(hp:Hp):run cxX 171 [a0,a1] hp=aS a0 fun y0=>aS a1 fun y1=>pS 123 [.sc y0,.sc y1] fun y5=>iB y5 (rQ (.sc y1) hp) (rQ (.sc y0) hp):=
 (eE 171 ss171 _ _).trans (by kernel_rfl)
def B172_8(hp:Hp):=gb 172 [cc 6652 cd172,cc 101 cd172,.inBlock 0,cc 7 cd172] [] [] hp
def B172_9(v0:Value)(hp:Hp):=gb 172 [cc 6654 cd172,cc 6655 cd172,.inBlock 0,cc 7 cd172] [vs 0 v0] [] hp
theorem E172(a0:AV)(hp:Hp):run cxX 172 [a0] hp=aS a0 fun y0=>iT .neq 50 4 5 y0 y0 (rQ (.sc (kB 1)) hp) (pS 181 [.sc y0,.sc (.int .i64 (.negSucc 0))] fun y6=>iB y6 (rQ (.sc (kB 2)) hp) (pS 181 [.sc y0,.sc (kI 1)] fun y11=>iB y11 (rQ (.sc (kB 3)) hp) (iC .eql 50 14 y0 (Value.float Go.FloatKind.f64 0) (pS 182 [.sc y0] fun y18=>iB y18 (B172_8 hp) (B172_9 y0 hp)) (B172_9 y0 hp)))):=
 (eE 172 ss172 _ _).trans (by kernel_rfl)
theorem B172_8_eq(hp:Hp):B172_8 hp=rQ (.sc (kB 4)) hp:=
 (eB 172 ss172 _ _).trans (by kernel_rfl)
theorem B172_9_eq(v0:Value)(hp:Hp):B172_9 v0 hp=iC .eql 50 21 v0 (Value.float Go.FloatKind.f64 0) (rQ (.sc (kB 5)) hp) (rQ (.sc (kB 0)) hp):=
 (eB 172 ss172 _ _).trans (by kernel_rfl)
end
noncomputable section
def B130_5(v3:Value)(hp:Hp):=gb 130 [cc 30 cd130,cc 31 cd130] [vs 3 v3] [] hp
theorem E130(a0:AV)(hp:Hp):run cxX 130 [a0] hp=aS a0 fun y0=>iC .geq 3 4 y0 (kI 0) (B130_5 (kU 9218868437227405312) hp) (B130_5 (kU 18442240474082181120) hp):=
 (eE 130 ss130 _ _).trans (by kernel_rfl)
theorem B130_5_eq(v3:Value)(hp:Hp):B130_5 v3 hp=(one (extX Tryz.prog 169 [v3])).bind fun y3=>rQ (.sc y3) hp:=
 (eB 130 ss130 _ _).trans (by kernel_rfl)
theorem E143(a0:AV)(hp:Hp):run cxX 143 [a0] hp=aS a0 fun y0=>bT .neq 50 3 4 y0 y0 fun y1=>rQ (.sc y1) hp:=
 (eE 143 ss143 _ _).trans (by kernel_rfl)
theorem E173(hp:Hp):run cxX 173 [] hp=(one (extX Tryz.prog 169 [kU 9221120237041090561])).bind fun y0=>rQ (.sc y0) hp:=
 (eE 173 ss173 _ _).trans (by kernel_rfl)
theorem E174(a0 a1:AV)(hp:Hp):run cxX 174 [a0,a1] hp=aS a0 fun y0=>aS a1 fun y1=>(one (extX Tryz.prog 142 [y0])).bind fun y2=>bC .andNot 76 6 y2 (kU 9223372036854775808) fun y3=>(one (extX Tryz.prog 142 [y1])).bind fun y4=>bC .and 76 9 y4 (kU 9223372036854775808) fun y5=>bT .or 76 7 10 y3 y5 fun y6=>(one (extX Tryz.prog 169 [y6])).bind fun y7=>rQ (.sc y7) hp:=
 (eE 174 ss174 _ _).trans (by kernel_rfl)
def B181_5(v0:Value)(hp:Hp):=gb 181 [cc 14 cd181,cc 15 cd181] [vs 0 v0] [] hp
theorem E181(a0 a1:AV)(hp:Hp):run cxX 181 [a0,a1] hp=aS a0 fun y0=>aS a1 fun y1=>iC .eql 3 5 y1 (kI 0) (pS 183 [.sc y0] fun y7=>B181_5 y7 hp) (iC .lss 3 9 y1 (kI 0) ((unV Tryz.prog .neg y0).bind fun y10=>B181_5 y10 hp) (B181_5 y0 hp)):=
 (eE 181 ss181 _ _).trans (by kernel_rfl)
theorem B181_5_eq(v0:Value)(hp:Hp):B181_5 v0 hp=bC .gtr 50 13 v0 (Value.float Go.FloatKind.f64 9218868437227405311) fun y11=>rQ (.sc y11) hp:=
 (eB 181 ss181 _ _).trans (by kernel_rfl)
theorem E182(a0:AV)(hp:Hp):run cxX 182 [a0] hp=aS a0 fun y0=>(one (extX Tryz.prog 142 [y0])).bind fun y1=>cV 76 2 y1 fun y2=>bC .lss 2 5 y2 (kI 0) fun y3=>rQ (.sc y3) hp:=
 (eE 182 ss182 _ _).trans (by kernel_rfl)
end
noncomputable section
def B133_10(v0:Value)(hp:Hp):=gb 133 [cc 13820 cd133,cc 213 cd133,.inBlock 0,cc 7 cd133] [vs 0 v0] [] hp
def B133_11(v0:Value)(hp:Hp):=gb 133 [cc 14 cd133,cc 213 cd133] [vs 0 v0] [] hp
theorem E133(a0 a1:AV)(hp:Hp):run cxX 133 [a0,a1] hp=aS a0 fun y0=>aS a1 fun y1=>bC .rem 5 5 y1 (kB 8) fun y2=>iC .eql 5 6 y2 (kB 0) ((jD [] []).bind fun y5=>(run cxX 173 [] hp0).bind fun y6=>(xo y6.1).bind fun y7=>aS y6.1 fun y8=>rQ (.sc y8) hp) (iC .eql 5 6 y2 (kB 1) (bC .rem 76 12 y0 (kU 2) fun y11=>cV 76 3 y11 fun y12=>bC .mul 3 14 y12 (kI 2) fun y13=>bC .sub 3 15 y13 (kI 1) fun y14=>pS 130 [.sc y14] fun y18=>rQ (.sc y18) hp) (iC .eql 5 6 y2 (kB 2) (bC .rem 76 20 y0 (kU 2) fun y21=>cV 76 50 y21 fun y22=>bC .sub 50 22 y22 (Value.float Go.FloatKind.f64 4602678819172646912) fun y23=>pS 174 [.sc (Value.float Go.FloatKind.f64 0),.sc y23] fun y27=>rQ (.sc y27) hp) (bC .eql 5 6 y2 (kB 3) fun y28=>iB y28 (iB y28 (B133_10 y0 hp) (B133_11 y0 hp)) (iC .eql 5 6 y2 (kB 4) (B133_10 y0 hp) (B133_11 y0 hp))))):=
 (eE 133 ss133 _ _).trans (by kernel_rfl)
theorem B133_10_eq(v0:Value)(hp:Hp):B133_10 v0 hp=bC .rem 76 28 v0 (kU 2001) fun y33=>cV 76 2 y33 fun y34=>bC .sub 2 30 y34 (kI 1000) fun y35=>cV 2 50 y35 fun y36=>rQ (.sc y36) hp:=
 (eB 133 ss133 _ _).trans (by kernel_rfl)
theorem B133_11_eq(v0:Value)(hp:Hp):B133_11 v0 hp=(one (extX Tryz.prog 169 [v0])).bind fun y37=>rQ (.sc y37) hp:=
 (eB 133 ss133 _ _).trans (by kernel_rfl)
end
def fEq(a b:Nat):Bool:=decide (¬isN a/\¬isN b/\fval a=fval b)
theorem zU(a:Nat):fEq a a=decide (¬isN a):=by unfold fEq;congr 1;apply propext;constructor<;>intro h<;>simp_all
section
variable (P : Program) (t : TypeId) (x y : Operand) (a b : Nat)
theorem jf(op:BinOp):eqGuard op t x y (.float .f64 a) (.float .f64 b)=pure ():=by
 cases op<;>rfl
@[simp] theorem binV_flss : binV P .lss t x y (.float .f64 a) (.float .f64 b) = some (.bool (fLess a b)) := by
 unfold binV
 rw[jf]
 show one (some (Value.bool (Ieee.double.order a b==some .lt)))=_
 rw[f_lt];rfl
@[simp] theorem binV_fgtr : binV P .gtr t x y (.float .f64 a) (.float .f64 b) = some (.bool (fLess b a)) := by
 unfold binV
 rw[jf]
 show one (some (Value.bool (Ieee.double.order a b==some .gt)))=_
 rw[f_gt]
 unfold fLess
 show some (Value.bool _)=_
 congr 2
 apply decide_eq_decide.mpr
 constructor<;>(rintro⟨h1,h2,h3⟩;exact⟨h2,h1,h3⟩)
@[simp] theorem binV_feql : binV P .eql t x y (.float .f64 a) (.float .f64 b) = some (.bool (fEq a b)) := by
 unfold binV
 rw[jf]
 show one (some (Value.bool (Ieee.double.order a b==some .eq)))=_
 rw[f_eq];rfl
@[simp] theorem binV_fneq : binV P .neq t x y (.float .f64 a) (.float .f64 b) = some (.bool (!fEq a b)) := by
 unfold binV
 rw[jf]
 show one (some (Value.bool (!(Ieee.double.order a b==some .eq))))=_
 rw[f_eq];rfl
@[simp] theorem binV_fleq : binV P .leq t x y (.float .f64 a) (.float .f64 b) = some (.bool (fLess a b || fEq a b)) := by
 unfold binV
 rw[jf]
 show one (some (Value.bool (Ieee.double.order a b==some .lt||Ieee.double.order a b==some .eq)))=_
 rw[f_eq,f_lt];rfl
end
section
variable (P : Program) (t : TypeId) (x y : Operand)
theorem wrapu64_nat(n:Nat)(h:n<18446744073709551616):IntKind.u64.wrap (n:Int)=n:=qr (by omega) (by omega)
theorem binV_or_top(n:Nat)(h:n<9223372036854775808):binV P .or t x y (.int .u64 (n:Int)) (.int .u64 9223372036854775808)=some (.int .u64 ((n+9223372036854775808:Nat):Int)):=by
 rw[ze]
 show some (Value.int .u64 (IntKind.u64.wrap ((BitVec.ofInt 64 (n:Int)|||BitVec.ofInt 64 9223372036854775808).toNat:Nat)))=_
 rw[bv_or_top n h,wrapu64_nat _ (by omega)]
theorem binV_and_lo(n:Nat)(h:n<9223372036854775808):binV P .and t x y (.int .u64 (n:Int)) (.int .u64 9223372036854775808)=some (.int .u64 0):=by
 rw[qE]
 show some (Value.int .u64 (IntKind.u64.wrap ((BitVec.ofInt 64 (n:Int)&&&BitVec.ofInt 64 9223372036854775808).toNat:Nat)))=_
 rw[bv_and_top_lo n h]
 rfl
theorem binV_and_hi(n:Nat)(h:9223372036854775808<=n)(h':n<18446744073709551616):binV P .and t x y (.int .u64 (n:Int)) (.int .u64 9223372036854775808)=some (.int .u64 9223372036854775808):=by
 rw[qE]
 show some (Value.int .u64 (IntKind.u64.wrap ((BitVec.ofInt 64 (n:Int)&&&BitVec.ofInt 64 9223372036854775808).toNat:Nat)))=_
 rw[bv_and_top_hi n h h']
 rfl
theorem binV_clear(n:Nat)(h:n<18446744073709551616):binV P .andNot t x y (.int .u64 (n:Int)) (.int .u64 9223372036854775808)=some (.int .u64 ((n%9223372036854775808:Nat):Int)):=by
 rw[zA P t x y .u64 (n:Int) 9223372036854775808 .andNot (by decide) (by decide)]
 show some (Value.int .u64 (IntKind.u64.wrap ((BitVec.ofInt 64 (n:Int)&&&~~~(BitVec.ofInt 64 9223372036854775808)).toNat:Nat)))=_
 rw[bv_clear_top n h,wrapu64_nat _ (by omega)]
theorem bv_not(n:Nat)(h:n<18446744073709551616):(BitVec.ofInt 64 18446744073709551615^^^BitVec.ofInt 64 (n:Int)).toNat=18446744073709551615-n:=by
 have e:BitVec.ofInt 64 18446744073709551615=BitVec.allOnes 64:=by decide
 rw[e,BitVec.allOnes_xor,BitVec.toNat_not,BitVec.toNat_ofInt]
 have e1:(((n:Int)%((2^64:Nat):Int)).toNat)=n:=by omega
 rw[e1]
theorem unV_not64(n:Nat)(h:n<18446744073709551616):unV P .xor (.int .u64 (n:Int))=some (.int .u64 ((18446744073709551615-n:Nat):Int)):=by
 show some (Value.int .u64 (IntKind.u64.wrap ((BitVec.ofInt 64 18446744073709551615^^^BitVec.ofInt 64 (n:Int)).toNat:Nat)))=_
 rw[bv_not n h,wrapu64_nat _ (by omega)]
def nw(w:Nat):Nat:=if w<9223372036854775808 then w+9223372036854775808 else w-9223372036854775808
theorem xor_top(w:Nat)(h:w<18446744073709551616):w^^^2^63=nw w:=by
 unfold nw
 by_cases h1:w<9223372036854775808
 ·rw[if_pos h1]
  have e:w+9223372036854775808=2^63*1+w:=by omega
  rw[e,Nat.two_pow_add_eq_or_of_lt (by omega)]
  apply Nat.eq_of_testBit_eq
  intro i
  rw[Nat.testBit_xor,Nat.testBit_or,Nat.mul_one,Nat.testBit_two_pow]
  by_cases hi:63=i
  ·subst hi
   rw[Nat.testBit_lt_two_pow (by omega)]
   rfl
  ·simp[hi]
 ·rw[if_neg h1]
  obtain⟨m,rfl⟩:∃m,w=2^63*1+m:=⟨w-2^63,by omega⟩
  have e:2^63*1+m-9223372036854775808=m:=by omega
  rw[e,Nat.two_pow_add_eq_or_of_lt (by omega)]
  apply Nat.eq_of_testBit_eq
  intro i
  rw[Nat.testBit_xor,Nat.testBit_or,Nat.mul_one,Nat.testBit_two_pow]
  by_cases hi:63=i
  ·subst hi
   rw[Nat.testBit_lt_two_pow (show m<2^63 by omega)]
   rfl
  ·simp[hi]
theorem unV_fneg(w:Nat)(h:w<18446744073709551616):unV P .neg (.float .f64 w)=some (.float .f64 (nw w)):=by
 rw[<-xor_top w h];rfl
end
theorem nearest_lt(n:Int):FloatKind.f64.nearest n<18446744073709551616:=by
 have e1:Ieee.double.signWeight=9223372036854775808:=by decide
 have e3:Ieee.double.infRung=9218868437227405312:=by decide
 have hw:∀(s:Bool) (r:Nat),r<=9218868437227405312->Ieee.double.word s r<18446744073709551616:=by
  intro s r hr
  unfold Ieee.Format.word
  rw[e1]
  split<;>omega
 have key:∀(s:Bool) (m:Nat) (p:Int),Ieee.double.nearest s m p<18446744073709551616:=by
  intro s m p
  unfold Ieee.Format.nearest
  split
  ·exact hw _ _ (by omega)
  ·rw[e3]
   exact hw _ _ (Nat.min_le_right _ _)
 exact key (decide (n<0)) n.natAbs 0
abbrev fl(w:Nat):AV:=.sc (.float .f64 w)
theorem x_bits(w:Nat):one (extX Tryz.prog 142 [.float .f64 w])=some (.int .u64 (w:Int)):=by kernel_rfl
theorem x_from(n:Int):one (extX Tryz.prog 169 [.int .u64 n])=some (.float .f64 n.toNat):=by kernel_rfl
theorem beq_tt(x y:Operand):binV Tryz.prog .eql 4 x y (.bool true) (.bool true)=some (.bool true):=by kernel_rfl
theorem beq_tf(x y:Operand):binV Tryz.prog .eql 4 x y (.bool true) (.bool false)=some (.bool false):=by kernel_rfl
theorem beq_ft(x y:Operand):binV Tryz.prog .eql 4 x y (.bool false) (.bool true)=some (.bool false):=by kernel_rfl
theorem beq_ff(x y:Operand):binV Tryz.prog .eql 4 x y (.bool false) (.bool false)=some (.bool true):=by kernel_rfl
@[simp] theorem beq_bb (x y : Operand) (a b : Bool) : binV Tryz.prog .eql 4 x y (.bool a) (.bool b) = some (.bool (decide (a = b))) := by
 cases a<;>cases b
 ·exact beq_ff x y
 ·exact beq_ft x y
 ·exact beq_tf x y
 ·exact beq_tt x y
theorem run_isnan(w:Nat)(hp:Hp):run cxX 143 [fl w] hp=some (.sc (.bool (decide (isN w))),hp):=by
 rw[E143]
 simp[zU]
theorem yc(w:Nat)(h:w<18446744073709551616)(hp:Hp):run cxX 92 [fl w] hp=some (.sc (.int .u64 (kw w:Int)),hp):=by
 rw[E92]
 unfold kw
 by_cases hn:isN w
 ·simp[x_bits,run_isnan,hn,B92_7_eq]
 ·by_cases hl:w<9223372036854775808
  ·have e:=binV_or_top Tryz.prog 76 (Go.Operand.tmp 6) (Go.Operand.const (.int .u64 (Int.ofNat 9223372036854775808))) w hl
   have e':=binV_and_lo Tryz.prog 76 (Go.Operand.tmp 12) (Go.Operand.const (.int .u64 (Int.ofNat 9223372036854775808))) w hl
   simp at e e'
   simp[x_bits,run_isnan,hn,hl,e,e',B92_7_eq]
  ·have e':=binV_and_hi Tryz.prog 76 (Go.Operand.tmp 12) (Go.Operand.const (.int .u64 (Int.ofNat 9223372036854775808))) w (by omega) h
   have e:=unV_not64 Tryz.prog w h
   simp at e e'
   simp[x_bits,run_isnan,hn,hl,e,e',B92_7_eq]
theorem run_of(k:Nat)(h:k<18446744073709551616)(hp:Hp):run cxX 155 [.sc (.int .u64 (k:Int))] hp=some (.tup [fl (wk k),.sc (.bool (ofOk k))],hp):=by
 have e4:∀hp,B155_4 (.int .u64 (k:Int)) (.int .u64 (wk k:Int)) hp=some (.tup [fl (wk k),.sc (.bool (ofOk k))],hp):=by
  intro hp
  rw[B155_4_eq]
  have hk:=fun hp=>yc (wk k) (wk_lt k h) hp
  have hd:decide ((kw (wk k):Int)=(k:Int))=ofOk k:=by
   unfold ofOk
   apply decide_eq_decide.mpr
   omega
  simp[x_from,hk,hd]
 rw[E155]
 have c:=binV_clear Tryz.prog 76 (Go.Operand.tmp 6) (Go.Operand.const (.int .u64 (Int.ofNat 9223372036854775808))) k h
 have n:=unV_not64 Tryz.prog k h
 by_cases hl:k<9223372036854775808
 ·have e':=binV_and_lo Tryz.prog 76 (Go.Operand.tmp 8) (Go.Operand.const (.int .u64 (Int.ofNat 9223372036854775808))) k hl
  have w:wk k=18446744073709551615-k:=by unfold wk;rw[if_pos hl]
  rw[w]at e4
  rw[<-w]at e4
  rw[<-w]at n
  simp at c n e'
  simp[c,n,e',e4]
 ·have e':=binV_and_hi Tryz.prog 76 (Go.Operand.tmp 8) (Go.Operand.const (.int .u64 (Int.ofNat 9223372036854775808))) k (by omega) h
  have w:wk k=k%9223372036854775808:=by unfold wk;rw[if_neg hl];omega
  rw[<-w]at c
  simp at c e'
  simp[c,e',e4]
theorem run_less(a b:Nat)(ha:a<18446744073709551616)(hb:b<18446744073709551616)(hp:Hp):run cxX 123 [fl a,fl b] hp=some (.sc (.bool (decide (kw a<kw b))),hp):=by
 rw[E123]
 simp[yc a ha,yc b hb]
theorem xn(a b:Nat)(ha:a<18446744073709551616)(hb:b<18446744073709551616)(hp:Hp):run cxX 167 [fl a,fl b] hp=some (.sc (.bool (decide (kw a=kw b))),hp):=by
 rw[E167]
 simp[yc a ha,yc b hb]
 omega
def fmin(a b:Nat):Nat:=if kw b<kw a then b else a
def fmax(a b:Nat):Nat:=if kw a<kw b then b else a
theorem fmin_lt{a b:Nat}(ha:a<18446744073709551616)(hb:b<18446744073709551616):fmin a b<18446744073709551616:=by unfold fmin;split<;>assumption
theorem fmax_lt{a b:Nat}(ha:a<18446744073709551616)(hb:b<18446744073709551616):fmax a b<18446744073709551616:=by unfold fmax;split<;>assumption
theorem run_fmin(a b:Nat)(ha:a<18446744073709551616)(hb:b<18446744073709551616)(hp:Hp):run cxX 170 [fl a,fl b] hp=some (fl (fmin a b),hp):=by
 rw[E170]
 unfold fmin
 by_cases h:kw b<kw a<;>simp[run_less b a hb ha,h]
theorem run_fmax(a b:Nat)(ha:a<18446744073709551616)(hb:b<18446744073709551616)(hp:Hp):run cxX 171 [fl a,fl b] hp=some (fl (fmax a b),hp):=by
 rw[E171]
 unfold fmax
 by_cases h:kw a<kw b<;>simp[run_less a b ha hb,h]
theorem run_nan(hp:Hp):run cxX 173 [] hp=some (fl 9221120237041090561,hp):=by
 rw[E173]
 simp[x_from]
theorem run_inf(s:Int)(hp:Hp):run cxX 130 [.sc (.int .i64 s)] hp=some (fl (if 0<=s then 9218868437227405312 else 18442240474082181120),hp):=by
 rw[E130]
 by_cases h:0<=s<;>simp[h,B130_5_eq,x_from]
theorem run_cs0_mhalf(hp:Hp):run cxX 174 [fl 0,fl 13826050856027422720] hp=some (fl 9223372036854775808,hp):=(E174 _ _ _).trans (by kernel_rfl)
theorem run_cs0_half(hp:Hp):run cxX 174 [fl 0,fl 4602678819172646912] hp=some (fl 0,hp):=(E174 _ _ _).trans (by kernel_rfl)
theorem fsub0(x y:Operand):binV Tryz.prog .sub 50 x y (.float .f64 (FloatKind.f64.nearest 0)) (.float .f64 4602678819172646912)=some (.float .f64 13826050856027422720):=by kernel_rfl
theorem fsub1(x y:Operand):binV Tryz.prog .sub 50 x y (.float .f64 (FloatKind.f64.nearest 1)) (.float .f64 4602678819172646912)=some (.float .f64 4602678819172646912):=by kernel_rfl
theorem run_float(n e:Int)(hn:0<=n/\n<18446744073709551616)(he:0<=e/\e<256):∃w,w<18446744073709551616/\∀hp,run cxX 133 [.sc (.int .u64 n),.sc (.int .u8 e)] hp=some (fl w,hp):=by
 have m8:∀x y,binV Tryz.prog .rem 5 x y (.int .u8 e) (.int .u8 8)=some (.int .u8 (e%8)):=by
  intro x y;rw[qO _ _ _ _ _ _ _ (by omega),qN he.1]
 have m2:∀x y,binV Tryz.prog .rem 76 x y (.int .u64 n) (.int .u64 2)=some (.int .u64 (n%2)):=by
  intro x y;rw[qO _ _ _ _ _ _ _ (by omega),qN hn.1]
 have m3:∀x y,binV Tryz.prog .rem 76 x y (.int .u64 n) (.int .u64 2001)=some (.int .u64 (n%2001)):=by
  intro x y;rw[qO _ _ _ _ _ _ _ (by omega),qN hn.1]
 have w2:IntKind.i64.wrap (n%2)=n%2:=qf (by omega) (by omega)
 have w3:IntKind.i64.wrap (n%2001)=n%2001:=qf (by omega) (by omega)
 have w4:IntKind.i64.wrap (n%2001-1000)=n%2001-1000:=qf (by omega) (by omega)
 have w5:IntKind.i64.wrap (2*(n%2))=2*(n%2):=qf (by omega) (by omega)
 have w5':IntKind.i64.wrap (n%2*2)=n%2*2:=qf (by omega) (by omega)
 have w6:IntKind.i64.wrap (n%2*2-1)=n%2*2-1:=qf (by omega) (by omega)
 have b10:∀hp,B133_10 (.int .u64 n) hp=some (fl (FloatKind.f64.nearest (n%2001-1000)),hp):=by
  intro hp
  rw[B133_10_eq]
  simp[m3,cv_76_2,w3,w4,cv_2_50]
 have b11:∀hp,B133_11 (.int .u64 n) hp=some (fl n.toNat,hp):=by
  intro hp
  rw[B133_11_eq]
  simp[x_from]
 by_cases h0:e%8=0
 ·refine⟨9221120237041090561,by decide,fun hp=>?_⟩
  rw[E133]
  simp[m8,h0,run_nan]
 ·by_cases h1:e%8=1
  ·refine⟨if 0<=n%2*2-1 then 9218868437227405312 else 18442240474082181120,by split<;>decide,fun hp=>?_⟩
   rw[E133]
   simp[m8,h1,m2,yg,w2,w5',w6,run_inf]
  ·by_cases h2:e%8=2
   ·rcases Int.emod_two_eq n with q|q
    ·refine⟨9223372036854775808,by decide,fun hp=>?_⟩
     rw[E133]
     simp[m8,h2,m2,q,cv_76_50,fsub0,run_cs0_mhalf]
    ·refine⟨0,by decide,fun hp=>?_⟩
     rw[E133]
     simp[m8,h2,m2,q,cv_76_50,fsub1,run_cs0_half]
   ·by_cases h3:e%8=3
    ·refine⟨_,nearest_lt (n%2001-1000),fun hp=>?_⟩
     rw[E133]
     simp[m8,h3,b10]
    ·by_cases h4:e%8=4
     ·refine⟨_,nearest_lt (n%2001-1000),fun hp=>?_⟩
      rw[E133]
      simp[m8,h4,b10]
     ·refine⟨n.toNat,by omega,fun hp=>?_⟩
      rw[E133]
      simp[m8,h0,h1,h2,h3,h4,b11]
theorem isN_nw{w:Nat}(h:w<18446744073709551616):isN (nw w)↔isN w:=by
 unfold isN nw
 split<;>omega
theorem kw_num_lt{w:Nat}(h:w<18446744073709551616)(hn:¬isN w):kw w<18444492273895866369:=by
 unfold kw
 rw[if_neg hn]
 unfold isN at hn
 split<;>omega
theorem kw_nan{w:Nat}(hn:isN w):kw w=18444492273895866369:=by
 unfold kw
 rw[if_pos hn]
theorem run_isinf_m(w:Nat)(h:w<18446744073709551616)(hn:¬isN w)(hp:Hp):run cxX 181 [fl w,.sc (.int .i64 (-1))] hp=some (.sc (.bool (decide (w=18442240474082181120))),hp):=by
 have e:=unV_fneg Tryz.prog w h
 have c:fLess 9218868437227405311 (nw w)=decide (w=18442240474082181120):=by
  unfold fLess
  have v1:fval 9218868437227405311=9218868437227405311:=by decide
  rw[v1]
  have hn':¬isN (nw w):=fun e=>hn ((isN_nw h).mp e)
  have hn2:=hn
  unfold isN at hn2
  apply decide_eq_decide.mpr
  constructor
  ·rintro⟨_,_,h3⟩
   unfold fval nw at h3
   repeat' split at h3
   all_goals omega
  ·intro h3
   subst h3
   exact⟨by decide,by decide,by decide⟩
 rw[E181]
 simp[e,B181_5_eq,c]
theorem run_isinf_p(w:Nat)(h:w<18446744073709551616)(hn:¬isN w)(hp:Hp):run cxX 181 [fl w,.sc (.int .i64 1)] hp=some (.sc (.bool (decide (w=9218868437227405312))),hp):=by
 have c:fLess 9218868437227405311 w=decide (w=9218868437227405312):=by
  unfold fLess
  have v1:fval 9218868437227405311=9218868437227405311:=by decide
  rw[v1]
  have hn2:=hn
  unfold isN at hn2
  apply decide_eq_decide.mpr
  constructor
  ·rintro⟨_,_,h3⟩
   unfold fval at h3
   split at h3<;>omega
  ·intro h3
   subst h3
   exact⟨by decide,by decide,by decide⟩
 rw[E181]
 simp[B181_5_eq,c]
theorem run_signbit(w:Nat)(h:w<18446744073709551616)(hp:Hp):run cxX 182 [fl w] hp=some (.sc (.bool (decide (9223372036854775808<=w))),hp):=by
 have c:decide (IntKind.i64.wrap (w:Int)<0)=decide (9223372036854775808<=w):=by
  apply decide_eq_decide.mpr
  rw[IntKind.wrap_i64]
  omega
 rw[E182]
 simp[x_bits,cv_76_2]
 rw[IntKind.wrap_i64]
 omega
def edge(w:Nat):Int:=if isN w then 1 else if w=18442240474082181120 then 2 else if w=9218868437227405312 then 3 else if w=9223372036854775808 then 4 else if w=0 then 5 else 0
theorem fEq_zero{w:Nat}(h:w<18446744073709551616)(hn:¬isN w):fEq w 0=decide (w=0\/w=9223372036854775808):=by
 unfold fEq
 have v3:fval 0=0:=by decide
 rw[v3]
 apply decide_eq_decide.mpr
 constructor
 ·rintro⟨_,_,h3⟩
  unfold fval at h3
  split at h3<;>omega
 ·intro h3
  rcases h3 with rfl|rfl
  ·exact⟨by decide,by decide,by decide⟩
  ·exact⟨by decide,by decide,by decide⟩
theorem run_edge(w:Nat)(h:w<18446744073709551616)(hp:Hp):run cxX 172 [fl w] hp=some (.sc (.int .u8 (edge w)),hp):=by
 rw[E172]
 unfold edge
 by_cases hn:isN w
 ·simp[zU,hn]
 ·have i1:=fun hp=>run_isinf_m w h hn hp
  have i2:=fun hp=>run_isinf_p w h hn hp
  have z:=fEq_zero h hn
  have s:=fun hp=>run_signbit w h hp
  have b9:∀hp,B172_9 (.float .f64 w) hp=some (.sc (.int .u8 (if w=0\/w=9223372036854775808 then 5 else 0)),hp):=by
   intro hp
   rw[B172_9_eq]
   by_cases h0:w=0\/w=9223372036854775808<;>simp[z,h0]
  by_cases h1:w=18442240474082181120
  ·subst h1
   simp at i1
   simp[zU,hn,i1]
  ·by_cases h2:w=9218868437227405312
   ·subst h2
    simp at i1 i2
    simp[zU,hn,i1,i2]
   ·simp only[h1,h2,decide_false]at i1 i2
    by_cases h3:w=9223372036854775808
    ·subst h3
     simp at s z
     simp[zU,hn,i1,i2,z,s,B172_8_eq]
    ·by_cases h4:w=0
     ·subst h4
      simp at s z b9
      simp[zU,hn,i1,i2,z,s,b9]
     ·simp[h3,h4]at z b9
      simp[zU,hn,i1,i2,z,b9,h1,h2,h3,h4]
def mk:List Nat->List Nat->List Nat
 |[],b=>b
 |a,[]=>a
 |x::a,y::b=>if y<x then y::mk (x::a) b else x::mk a (y::b)
termination_by a b=>a.length+b.length
@[simp] theorem mk_nil_l (b : List Nat) : mk [] b = b := by unfold mk; rfl
@[simp] theorem mk_nil_r (a : List Nat) : mk a [] = a := by cases a <;> (unfold mk; rfl)
theorem ye(x:Nat)(a:List Nat)(y:Nat)(b:List Nat):mk (x::a) (y::b)=if y<x then y::mk (x::a) b else x::mk a (y::b):=by
 rw[mk]
theorem mk_ind{motive:List Nat->List Nat->Prop}(h1:∀b,motive [] b)(h2:∀a,motive a [])(h3:∀x a y b,y<x->motive (x::a) b->motive (x::a) (y::b))
  (h4:∀x a y b,¬y<x->motive a (y::b)->motive (x::a) (y::b)):∀a b,motive a b:=by
 intro a b
 generalize hn:a.length+b.length=n
 induction n using Nat.strongRecOn generalizing a b with
 | _ n ih=>
  cases a with
  |nil=>exact h1 b
  | cons x a=>
   cases b with
   |nil=>exact h2 _
   |cons y b=>
    by_cases hyx:y<x
    ·exact h3 x a y b hyx (ih ((x::a).length+b.length) (by simp at hn⊢;omega) _ _ rfl)
    ·exact h4 x a y b hyx (ih (a.length+(y::b).length) (by simp at hn⊢;omega) _ _ rfl)
theorem mk_perm:∀a b,(mk a b).Perm (a++b):=by
 apply mk_ind (motive:=fun a b=>(mk a b).Perm (a++b))
 ·intro b;simp
 ·intro a;simp
 ·intro x a y b h ih
  rw[ye,if_pos h]
  exact(List.Perm.cons y ih).trans List.perm_middle.symm
 ·intro x a y b h ih
  rw[ye,if_neg h]
  exact List.Perm.cons x ih
abbrev Up(l:List Nat):Prop:=l.Pairwise (·<=·)
theorem mk_up:∀a b,Up a->Up b->Up (mk a b):=by
 apply mk_ind (motive:=fun a b=>Up a->Up b->Up (mk a b))
 ·intro b _ h;simpa using h
 ·intro a h _;simpa using h
 ·intro x a y b h ih ha hb
  rw[ye,if_pos h]
  have hb':=List.pairwise_cons.mp hb
  have ha':=List.pairwise_cons.mp ha
  refine List.pairwise_cons.mpr ⟨fun n hn=>?_,ih ha hb'.2⟩
  rcases List.mem_append.mp ((mk_perm _ _).mem_iff.mp hn)with h'|h'
  ·rcases List.mem_cons.mp h' with rfl|h'
   ·omega
   ·have:=ha'.1 n h';omega
  ·exact hb'.1 n h'
 ·intro x a y b h ih ha hb
  rw[ye,if_neg h]
  have hb':=List.pairwise_cons.mp hb
  have ha':=List.pairwise_cons.mp ha
  refine List.pairwise_cons.mpr ⟨fun n hn=>?_,ih ha'.2 hb⟩
  rcases List.mem_append.mp ((mk_perm _ _).mem_iff.mp hn)with h'|h'
  ·exact ha'.1 n h'
  ·rcases List.mem_cons.mp h' with rfl|h'
   ·omega
   ·have:=hb'.1 n h';omega
theorem up_ext:∀{a b:List Nat},Up a->Up b->a.Perm b->a=b
 |[],b,_,_,h=>(List.Perm.nil_eq h)
 |x::a,[],_,_,h=>absurd h.length_eq (by simp)
 | x ::a,y::b,ha,hb,h=>by
  have ha':=List.pairwise_cons.mp ha
  have hb':=List.pairwise_cons.mp hb
  have hxy:x=y:=by
   have h1:=List.mem_cons.mp (h.mem_iff.mp (by simp:x∈x::a))
   have h2:=List.mem_cons.mp (h.mem_iff.mpr (by simp:y∈y::b))
   rcases h1 with h1|h1
   ·exact h1
   ·rcases h2 with h2|h2
    ·exact h2.symm
    ·have:=ha'.1 y h2
     have:=hb'.1 x h1
     omega
  subst hxy
  rw[up_ext ha'.2 hb'.2 (List.Perm.cons_inv h)]
theorem take_mk:∀(A B:List Nat) (k m n:Nat),k<=m->k<=n->(mk (A.take m) (B.take n)).take k=(mk A B).take k:=by
 apply mk_ind (motive:=fun A B=>∀(k m n:Nat),k<=m->k<=n->(mk (A.take m) (B.take n)).take k=(mk A B).take k)
 ·intro b k m n hm hn
  rw[List.take_nil,mk_nil_l,mk_nil_l,List.take_take,Nat.min_eq_left hn]
 ·intro a k m n hm hn
  rw[List.take_nil,mk_nil_r,mk_nil_r,List.take_take,Nat.min_eq_left hm]
 ·intro x a y b h ih k m n hm hn
  match k,m,n,hm,hn with
  |0,_,_,_,_=>simp
  |k+1,m+1,n+1,hm,hn=>
   have:=ih k (m+1) n (by omega) (by omega)
   rw[List.take_succ_cons]at this
   rw[List.take_succ_cons,List.take_succ_cons,ye,ye,if_pos h,if_pos h,List.take_succ_cons,List.take_succ_cons,this]
 ·intro x a y b h ih k m n hm hn
  match k,m,n,hm,hn with
  |0,_,_,_,_=>simp
  |k+1,m+1,n+1,hm,hn=>
   have:=ih k m (n+1) (by omega) (by omega)
   rw[List.take_succ_cons]at this
   rw[List.take_succ_cons,List.take_succ_cons,ye,ye,if_neg h,if_neg h,List.take_succ_cons,List.take_succ_cons,this]
def sk:List Nat->List Nat
 |[]=>[]
 |x::l=>mk [x] (sk l)
theorem sk_up:∀l,Up (sk l)
 |[]=>List.Pairwise.nil
 |x::l=>mk_up _ _ (by simp) (sk_up l)
theorem xD:∀l,(sk l).Perm l
 |[]=>List.Perm.refl _
 |x::l=>(mk_perm [x] (sk l)).trans (List.Perm.cons x (xD l))
theorem sk_append(a b:List Nat):sk (a++b)=mk (sk a) (sk b):=
 up_ext (sk_up _) (mk_up _ _ (sk_up a) (sk_up b)) ((xD _).trans (((xD a).symm.append (xD b).symm).trans (mk_perm _ _).symm))
theorem sk_of_perm{a b:List Nat}(h:a.Perm b):sk a=sk b:=up_ext (sk_up _) (sk_up _) ((xD a).trans (h.trans (xD b).symm))
theorem sk_len(l:List Nat):(sk l).length=l.length:=(xD l).length_eq
def gm:List Nat->List Nat->List Nat
 |[],b=>b
 |a,[]=>a
 |x::a,y::b=>if kw y<kw x then y::gm (x::a) b else x::gm a (y::b)
termination_by a b=>a.length+b.length
@[simp] theorem gm_nil_l (b : List Nat) : gm [] b = b := by unfold gm; rfl
@[simp] theorem gm_nil_r (a : List Nat) : gm a [] = a := by cases a <;> (unfold gm; rfl)
theorem gm_cons(x:Nat)(a:List Nat)(y:Nat)(b:List Nat):gm (x::a) (y::b)=if kw y<kw x then y::gm (x::a) b else x::gm a (y::b):=by
 rw[gm]
theorem gm_keys:∀(n:Nat) (a b:List Nat),a.length+b.length=n->(gm a b).map kw=mk (a.map kw) (b.map kw):=by
 intro n
 induction n using Nat.strongRecOn with
 | _ n ih=>
  intro a b hn
  match a,b with
  |[],b=>simp
  |x::a,[]=>simp
  |x::a,y::b=>
   rw[gm_cons,List.map_cons,List.map_cons,ye]
   by_cases h:kw y<kw x
   ·rw[if_pos h,if_pos h,List.map_cons,ih ((x::a).length+b.length) (by simp at hn⊢;omega) (x::a) b rfl,List.map_cons]
   ·rw[if_neg h,if_neg h,List.map_cons,ih (a.length+(y::b).length) (by simp at hn⊢;omega) a (y::b) rfl,List.map_cons]
theorem mem_gm(w:Nat):∀(n:Nat) (a b:List Nat),a.length+b.length=n->w∈gm a b->w∈a\/w∈b:=by
 intro n
 induction n using Nat.strongRecOn with
 | _ n ih=>
  intro a b hn hw
  match a,b with
  |[],b=>right;simpa using hw
  |x::a,[]=>left;simpa using hw
  | x::a,y::b=>
   rw[gm_cons]at hw
   by_cases h:kw y<kw x
   ·rw[if_pos h]at hw
    rcases List.mem_cons.mp hw with rfl|hw
    ·right;simp
    ·rcases ih ((x::a).length+b.length) (by simp at hn⊢;omega) (x::a) b rfl hw with h'|h'
     ·exact .inl h'
     ·exact .inr (List.mem_cons_of_mem _ h')
   ·rw[if_neg h]at hw
    rcases List.mem_cons.mp hw with rfl|hw
    ·left;simp
    ·rcases ih (a.length+(y::b).length) (by simp at hn⊢;omega) a (y::b) rfl hw with h'|h'
     ·exact .inl (List.mem_cons_of_mem _ h')
     ·exact .inr h'
def lowK:List Nat->Nat
 |[]=>18442240474082181120
 |f::F=>if isN f then lowK F else min (kw f) (lowK F)
def yD:List Nat->Nat
 |[]=>4503599627370495
 |f::F=>if isN f then yD F else max (kw f) (yD F)
theorem lowK_le:∀F,lowK F<=18442240474082181120
 |[]=>Nat.le_refl _
 |f::F=>by
  have:=lowK_le F
  unfold lowK
  split<;>omega
theorem highK_ge:∀F,4503599627370495<=yD F
 |[]=>Nat.le_refl _
 |f::F=>by
  have:=highK_ge F
  unfold yD
  split<;>omega
theorem lowK_append:∀a b,lowK (a++b)=min (lowK a) (lowK b)
 |[],b=>by have:=lowK_le b;simp only[List.nil_append,lowK];omega
 |f::a,b=>by
  have:=lowK_append a b
  simp only[List.cons_append,lowK]
  split<;>omega
theorem highK_append:∀a b,yD (a++b)=max (yD a) (yD b)
 |[],b=>by have:=highK_ge b;simp only[List.nil_append,yD];omega
 |f::a,b=>by
  have:=highK_append a b
  simp only[List.cons_append,yD]
  split<;>omega
theorem lowK_perm {a b:List Nat}(h:a.Perm b):lowK a=lowK b:=by
  induction h with
  |nil=>rfl
  |cons x _ ih=>unfold lowK;rw[ih]
  | swap x y l => simp only[lowK];repeat' split
                  all_goals omega
  |trans _ _ h1 h2=>rw[h1,h2]
theorem highK_perm{a b:List Nat}(h:a.Perm b):yD a=yD b:=by
  induction h with
  |nil=>rfl
  |cons x _ ih=>unfold yD;rw[ih]
  | swap x y l => simp only[yD];repeat' split
                  all_goals omega
  |trans _ _ h1 h2=>rw[h1,h2]
theorem kw_fmin(a b:Nat):kw (fmin a b)=min (kw a) (kw b):=by unfold fmin;split<;>omega
theorem kw_fmax(a b:Nat):kw (fmax a b)=max (kw a) (kw b):=by unfold fmax;split<;>omega
def LF(l:List Nat):List AV:=l.map fun n=>.sc (.float .f64 n)
section
variable (l : List Nat)
@[simp] theorem lenF : (LF l).length = l.length := by simp [LF]
@[simp] theorem getF? (i : Nat) : (LF l)[i]? = (l[i]?).map fun n => .sc (.float .f64 n) := by simp [LF]
@[simp] theorem getF (i : Nat) (h : i < (LF l).length) : (LF l)[i] = .sc (.float .f64 (l[i]'(by simpa using h))) := by simp [LF]
@[simp] theorem dropF (i : Nat) : (LF l).drop i = LF (l.drop i) := by simp [LF]
@[simp] theorem tailF : (LF l).tail = LF l.tail := by simp [LF]
@[simp] theorem nilF : LF [] = [] := rfl
theorem appF(n:Nat)(h:l.length<=1000000):appA 8 1 (S 2 1 (LF l)) (S 1 1 [.sc (.float .f64 n)])=some (S 2 1 (LF (l++[n]))):=by
 rw[appA_S 8 1 2 _ _ 1 (.inr rfl) (flat_one _) (.inr (xd (by omega) (by simp;omega)))]
 simp[LF]
end
abbrev Ga(K M e0 e1 e2 e3 e4 e5:Int)(lo hi:Nat)(x:AV):AV:=
 .agg [.sc (.int .i64 K),.sc (.int .u32 M),.sc (.int .u32 e0),.sc (.int .u32 e1),.sc (.int .u32 e2),.sc (.int .u32 e3),.sc (.int .u32 e4),.sc (.int .u32 e5),fl lo,fl hi,x]
def plus(a b:Int):Int:=if a+b<4294967296 then a+b else 4294967295
theorem jP(a b:Int)(ha:0<=a/\a<4294967296)(hb:0<=b/\b<4294967296)(hp:Hp):run cxX 129 [.sc (.int .u32 a),.sc (.int .u32 b)] hp=some (.sc (.int .u32 (plus a b)),hp):=by
 rw[E129]
 unfold plus
 by_cases h:a+b<4294967296
 ·have w:IntKind.u32.wrap (a+b)=a+b:=qv (by omega) h
  have h1:decide (a+b>=a)=true:=by simp;omega
  simp only[cmb,yj,Option.bind_some,zV,binV_geq,zN,w,h,h1,cond_true,if_true]
 ·have w:IntKind.u32.wrap (a+b)=a+b-4294967296:=by rw[IntKind.wrap_u32];omega
  have h1:¬(a<=a+b-4294967296):=by omega
  simp[w,h,h1]
def Ws(l:List Nat):Prop:=∀w∈l,w<18446744073709551616
theorem gmerge_loop(K:Int)(q c1 c2 c3 c4 c5 c6 c7 c8 c9:AV)(b4 b2r:List AV)(hq:b4.length=11)(hp:Hp):∀(n:Nat) (a b acc:List Nat) (k k':Nat),a.length+b.length=n->acc.length+n<=1000000->Ws a->Ws b->
  B131_8 (S k 1 (LF a)) (S k' 1 (LF b)) (.sc (.int .i64 K)::b2r) b4 [q,c1,c2,c3,c4,c5,c6,c7,c8,c9,S 2 1 (LF acc)] hp=some (.agg [q,c1,c2,c3,c4,c5,c6,c7,c8,c9,S 2 1 (LF (acc++(gm a b).take (K.toNat-acc.length)))],hp):=by
 intro n
 induction n using Nat.strongRecOn with
 |_ n ih=>
 intro a b acc k k' hn hlen ha hb
 have ap:∀x:Nat,appA 8 1 (S 2 1 (LF acc)) (S 1 1 [.sc (.float .f64 x)])=some (S 2 1 (LF (acc++[x]))):=fun x=>appF acc x (by omega)
 have fin:B131_12 b4 [q,c1,c2,c3,c4,c5,c6,c7,c8,c9,S 2 1 (LF acc)] hp=some (.agg [q,c1,c2,c3,c4,c5,c6,c7,c8,c9,S 2 1 (LF acc)],hp):=by
  rw[B131_12_eq]
  obtain⟨d0,d1,d2,d3,d4,d5,d6,d7,d8,d9,d10,rfl⟩:∃d0 d1 d2 d3 d4 d5 d6 d7 d8 d9 d10,b4=[d0,d1,d2,d3,d4,d5,d6,d7,d8,d9,d10]:=by
   match b4,hq with
   |[d0,d1,d2,d3,d4,d5,d6,d7,d8,d9,d10],_=>exact⟨d0,d1,d2,d3,d4,d5,d6,d7,d8,d9,d10,rfl⟩
  simp[getN,putN]
 rw[B131_8_eq]
 by_cases hK:(acc.length:Int)<K
 ·have hs:K.toNat-acc.length=(K.toNat-(acc.length+1))+1:=by omega
  have goA:∀(x:Nat) (r:List Nat),r.length+1+b.length<=n->Ws r->B131_10 (S k 1 (LF (x::r))) (S k' 1 (LF b)) (.sc (.int .i64 K)::b2r) b4 [q,c1,c2,c3,c4,c5,c6,c7,c8,c9,S 2 1 (LF acc)] hp=some (.agg [q,c1,c2,c3,c4,c5,c6,c7,c8,c9,S 2 1 (LF (acc++(x::gm r b).take (K.toNat-acc.length)))],hp):=by
   intro x r hle hr
   rw[B131_10_eq]
   have e:=xj (rk k) (LF (x::r)) .i64 1 (by omega) (by simp only[lenF,List.length_cons];omega)
   have i:=fun k=>ih (r.length+b.length) (by omega) r b (acc++[x]) k k' rfl (by simp only[List.length_append,List.length_cons,List.length_nil];omega) hr hb
   simp at i
   rw[hs,List.take_succ_cons]
   simp[getC,qe,ap,e,putN,i]
  have goB:∀(y:Nat) (r:List Nat),a.length+(r.length+1)<=n->Ws r->B131_11 (S k 1 (LF a)) (S k' 1 (LF (y::r))) (.sc (.int .i64 K)::b2r) b4 [q,c1,c2,c3,c4,c5,c6,c7,c8,c9,S 2 1 (LF acc)] hp=some (.agg [q,c1,c2,c3,c4,c5,c6,c7,c8,c9,S 2 1 (LF (acc++(y::gm a r).take (K.toNat-acc.length)))],hp):=by
   intro x r hle hr
   rw[B131_11_eq]
   have e:=xj (rk k') (LF (x::r)) .i64 1 (by omega) (by simp only[lenF,List.length_cons];omega)
   have i:=fun k'=>ih (a.length+r.length) (by omega) a r (acc++[x]) k k' rfl (by simp only[List.length_append,List.length_cons,List.length_nil];omega) ha hr
   simp at i
   rw[hs,List.take_succ_cons]
   simp[getC,qe,ap,e,putN,i]
  match a,b with
  |[],[]=>simp[getC,qe,hK,fin]
  |[],y::s=>
   have h:=goB y s (by simp at hn⊢;omega) (fun w hw=>hb w (by simp[hw]))
   simp at h
   have hw':IntKind.i64.wrap ((s.length:Int)+1)=(s.length:Int)+1:=qf (by omega) (by simp at hn;omega)
   have p:(0:Int)<(s.length:Int)+1:=by omega
   have z:¬((s.length:Int)+1=0):=by omega
   simp[getC,qe,hK,hw',p,z,B131_9_eq,h]
  |x::r,[]=>
   have h:=goA x r (by simp at hn⊢;omega) (fun w hw=>ha w (by simp[hw]))
   simp at h
   have hw':IntKind.i64.wrap ((r.length:Int)+1)=(r.length:Int)+1:=qf (by omega) (by simp at hn;omega)
   have p:(0:Int)<(r.length:Int)+1:=by omega
   simp[getC,qe,hK,hw',p,B131_9_eq,h]
  | x::r,y::s=>
   have h1:=goA x r (by simp at hn⊢;omega) (fun w hw=>ha w (by simp[hw]))
   have h2:=goB y s (by simp at hn⊢;omega) (fun w hw=>hb w (by simp[hw]))
   have hw':IntKind.i64.wrap ((r.length:Int)+1+((s.length:Int)+1))=(r.length:Int)+1+((s.length:Int)+1):=qf (by omega) (by simp at hn;omega)
   have p:(0:Int)<(r.length:Int)+1+((s.length:Int)+1):=by omega
   have p':(0:Int)<(r.length:Int)+1:=by omega
   have z:¬((s.length:Int)+1=0):=by omega
   have l:=fun hp=>run_less y x (hb y (by simp)) (ha x (by simp)) hp
   rw[gm_cons]
   by_cases hyx:kw y<kw x
   ·simp only[hyx,decide_true]at l
    simp[getC,qe,hK,hw',p,p',z,hyx,l,h2,B131_9_eq]
   ·simp only[hyx,decide_false]at l
    simp[getC,qe,hK,hw',p,p',z,hyx,l,h1,B131_9_eq]
 ·have hs:K.toNat-acc.length=0:=by omega
  simp[getC,qe,hK,fin,hs]
theorem idx6_0:idx 6 (.int .i64 0)=some 0:=by kernel_rfl
theorem idx6_1:idx 6 (.int .i64 1)=some 1:=by kernel_rfl
theorem idx6_2:idx 6 (.int .i64 2)=some 2:=by kernel_rfl
theorem idx6_3:idx 6 (.int .i64 3)=some 3:=by kernel_rfl
theorem idx6_4:idx 6 (.int .i64 4)=some 4:=by kernel_rfl
theorem idx6_5:idx 6 (.int .i64 5)=some 5:=by kernel_rfl
def qL(n:Int):Prop:=0<=n/\n<4294967296
theorem run_gmerge(K K' M M' e0 e1 e2 e3 e4 e5 f0 f1 f2 f3 f4 f5:Int)(lo hi lo' hi':Nat)(a b:List Nat)(k k':Nat)(hM:qL M/\qL M')(h0:qL e0/\qL f0)(h1:qL e1/\qL f1)(h2:qL e2/\qL f2)(h3:qL e3/\qL f3)
  (h4:qL e4/\qL f4) (h5:qL e5/\qL f5) (hlo:lo<18446744073709551616/\lo'<18446744073709551616) (hhi:hi<18446744073709551616/\hi'<18446744073709551616) (ha:Ws a) (hb:Ws b) (hlen:a.length+b.length<=1000000) (hp:Hp):
  run cxX 131 [Ga K M e0 e1 e2 e3 e4 e5 lo hi (S k 1 (LF a)),Ga K' M' f0 f1 f2 f3 f4 f5 lo' hi' (S k' 1 (LF b))] hp=
   some (Ga K (plus M M') (plus e0 f0) (plus e1 f1) (plus e2 f2) (plus e3 f3) (plus e4 f4) (plus e5 f5) (fmin lo lo') (fmax hi hi') (S 2 1 (LF ((gm a b).take K.toNat))),hp):=by
 have pM:=fun hp=>jP M M' hM.1 hM.2 hp
 have p0:=fun hp=>jP e0 f0 h0.1 h0.2 hp
 have p1:=fun hp=>jP e1 f1 h1.1 h1.2 hp
 have p2:=fun hp=>jP e2 f2 h2.1 h2.2 hp
 have p3:=fun hp=>jP e3 f3 h3.1 h3.2 hp
 have p4:=fun hp=>jP e4 f4 h4.1 h4.2 hp
 have p5:=fun hp=>jP e5 f5 h5.1 h5.2 hp
 have mn:=fun hp=>run_fmin lo lo' hlo.1 hlo.2 hp
 have mx:=fun hp=>run_fmax hi hi' hhi.1 hhi.2 hp
 have w2:IntKind.i64.wrap 2=2:=rfl
 have w3:IntKind.i64.wrap 3=3:=rfl
 have w4:IntKind.i64.wrap 4=4:=rfl
 have w5:IntKind.i64.wrap 5=5:=rfl
 have w6:IntKind.i64.wrap 6=6:=rfl
 have g:=fun(c1 c2 c3 c4 c5 c6 c7 c8 c9:AV) (b4 b2r:List AV) (hq:b4.length=11)=>gmerge_loop K (.sc (.int .i64 K)) c1 c2 c3 c4 c5 c6 c7 c8 c9 b4 b2r hq hp (a.length+b.length) a b [] (rk k) (rk k') rfl (by simpa using hlen) ha hb
 simp at g
 rw[E131]
 simp[qe,pM,mn,mx]
 rw[jJ]
 simp[qe,idx6_0,p0,putN]
 rw[jJ]
 simp[qe,idx6_1,p1,putN]
 rw[jJ]
 simp[qe,idx6_2,p2,putN,w2]
 rw[jJ]
 simp[qe,idx6_3,p3,putN,w3]
 rw[jJ]
 simp[qe,idx6_4,p4,putN,w4]
 rw[jJ]
 simp[qe,idx6_5,p5,putN,w5]
 rw[jJ]
 simp[getC,w6]
 exact g _ _ _ _ _ _ _ _ _ _ _ rfl
structure Gs where
 M:Int
 e0:Int
 e1:Int
 e2:Int
 e3:Int
 e4:Int
 e5:Int
 lo:Nat
 hi:Nat
 L:List Nat
abbrev Gs.av(g:Gs)(K:Int)(k:Nat):AV:=Ga K g.M g.e0 g.e1 g.e2 g.e3 g.e4 g.e5 g.lo g.hi (S k 1 (LF g.L))
def gmg(K:Int)(g o:Gs):Gs:=⟨plus g.M o.M,plus g.e0 o.e0,plus g.e1 o.e1,plus g.e2 o.e2,plus g.e3 o.e3,plus g.e4 o.e4,plus g.e5 o.e5,fmin g.lo o.lo,fmax g.hi o.hi,(gm g.L o.L).take K.toNat⟩
def gone(w:Nat):Gs:=⟨1,if edge w=0 then 1 else 0,if edge w=1 then 1 else 0,if edge w=2 then 1 else 0,if edge w=3 then 1 else 0,if edge w=4 then 1 else 0,if edge w=5 then 1 else 0,
 if isN w then 9218868437227405312 else w,if isN w then 18442240474082181120 else w,[wk (kw w)]⟩
def gnew:Gs:=⟨0,0,0,0,0,0,0,9218868437227405312,18442240474082181120,[]⟩
def cnt(i:Int):List Nat->Nat
 |[]=>0
 |f::F=>(if edge f=i then 1 else 0)+cnt i F
theorem jn(i:Int):∀a b,cnt i (a++b)=cnt i a+cnt i b
 |[],b=>by simp[cnt]
 |f::a,b=>by simp only[List.cons_append,cnt,jn i a b];omega
theorem zR(i:Int):∀a,cnt i a<=a.length
 |[]=>Nat.le_refl _
 |f::a=>by have:=zR i a;simp only[cnt,List.length_cons];split<;>omega
theorem xr(i:Int){a b:List Nat}(h:a.Perm b):cnt i a=cnt i b:=by
 induction h with
 |nil=>rfl
 |cons x _ ih=>simp only[cnt,ih]
 |swap x y l=>simp only[cnt];omega
 |trans _ _ h1 h2=>rw[h1,h2]
theorem edge_in(w:Nat):0<=edge w/\edge w<=5:=by
 unfold edge
 repeat' split
 all_goals omega
structure GR (K:Int) (F:List Nat) (g:Gs):Prop where
 M:g.M=F.length
 e0:g.e0=cnt 0 F
 e1:g.e1=cnt 1 F
 e2:g.e2=cnt 2 F
 e3:g.e3=cnt 3 F
 e4:g.e4=cnt 4 F
 e5:g.e5=cnt 5 F
 lo:g.lo<18446744073709551616
 hi:g.hi<18446744073709551616
 klo:kw g.lo=lowK F
 khi:kw g.hi=yD F
 ws:Ws g.L
 keys:g.L.map kw=(sk (F.map kw)).take K.toNat
theorem GR.len{K:Int}{F:List Nat}{g:Gs}(h:GR K F g):g.L.length=min K.toNat F.length:=by
 have:=congrArg List.length h.keys
 rw[List.length_map,List.length_take,sk_len,List.length_map]at this
 exact this
theorem yx{a b:Nat}(h:a+b<4294967296):plus (a:Int) (b:Int)=((a+b:Nat):Int):=by
 unfold plus
 rw[if_pos (by omega)]
 omega
theorem GR.merge{K:Int}{F H:List Nat}{g o:Gs}(hg:GR K F g)(ho:GR K H o)(hl:F.length+H.length<=1000):GR K (F++H) (gmg K g o) where
 M:=by simp only[gmg];rw[hg.M,ho.M,yx (by omega),List.length_append]
 e0:=by have:=zR 0 F;have:=zR 0 H;simp only[gmg];rw[hg.e0,ho.e0,yx (by omega),jn]
 e1:=by have:=zR 1 F;have:=zR 1 H;simp only[gmg];rw[hg.e1,ho.e1,yx (by omega),jn]
 e2:=by have:=zR 2 F;have:=zR 2 H;simp only[gmg];rw[hg.e2,ho.e2,yx (by omega),jn]
 e3:=by have:=zR 3 F;have:=zR 3 H;simp only[gmg];rw[hg.e3,ho.e3,yx (by omega),jn]
 e4:=by have:=zR 4 F;have:=zR 4 H;simp only[gmg];rw[hg.e4,ho.e4,yx (by omega),jn]
 e5:=by have:=zR 5 F;have:=zR 5 H;simp only[gmg];rw[hg.e5,ho.e5,yx (by omega),jn]
 lo:=fmin_lt hg.lo ho.lo
 hi:=fmax_lt hg.hi ho.hi
 klo:=by simp only[gmg];rw[kw_fmin,hg.klo,ho.klo,lowK_append]
 khi:=by simp only[gmg];rw[kw_fmax,hg.khi,ho.khi,highK_append]
 ws:=fun w hw=>(mem_gm w _ _ _ rfl (List.mem_of_mem_take hw)).elim (hg.ws w) (ho.ws w)
 keys:=by
  simp only[gmg]
  rw[List.map_take,gm_keys _ _ _ rfl,hg.keys,ho.keys,take_mk _ _ _ _ _ (Nat.le_refl _) (Nat.le_refl _),List.map_append,sk_append]
theorem gnew_ok(K:Int):GR K [] gnew:=⟨rfl,rfl,rfl,rfl,rfl,rfl,rfl,by decide,by decide,by decide,by decide,by simp[gnew,Ws],by simp[gnew,sk]⟩
theorem gone_ok{K:Int}(hK:1<=K){w:Nat}(hw:w<18446744073709551616):GR K [w] (gone w) where
 M:=rfl
 e0:=by simp only[gone,cnt];split<;>rfl
 e1:=by simp only[gone,cnt];split<;>rfl
 e2:=by simp only[gone,cnt];split<;>rfl
 e3:=by simp only[gone,cnt];split<;>rfl
 e4:=by simp only[gone,cnt];split<;>rfl
 e5:=by simp only[gone,cnt];split<;>rfl
 lo:=by simp only[gone];split<;>omega
 hi:=by simp only[gone];split<;>omega
 klo:=by
  simp only[gone,lowK]
  have h0:kw 9218868437227405312=18442240474082181120:=by decide
  by_cases hn:isN w
  ·rw[if_pos hn,if_pos hn,h0]
  ·rw[if_neg hn,if_neg hn]
   have hn2:=hn
   unfold isN at hn2
   unfold kw
   rw[if_neg hn]
   split<;>omega
 khi:=by
  simp only[gone,yD]
  have h0:kw 18442240474082181120=4503599627370495:=by decide
  by_cases hn:isN w
  ·rw[if_pos hn,if_pos hn,h0]
  ·rw[if_neg hn,if_neg hn]
   have hn2:=hn
   unfold isN at hn2
   unfold kw
   rw[if_neg hn]
   split<;>omega
 ws:=by simp only[gone,Ws,List.mem_singleton];rintro x rfl;exact wk_lt _ (kw_lt w hw)
 keys:=by
  have hk:K.toNat=(K.toNat-1)+1:=by omega
  simp only[gone,List.map_cons,List.map_nil,sk,mk_nil_r]
  rw[kw_wk_kw w hw,hk,List.take_succ_cons,List.take_nil]
theorem GR.in32{K:Int}{F:List Nat}{g:Gs}(h:GR K F g)(hl:F.length<=1000):qL g.M/\qL g.e0/\qL g.e1/\qL g.e2/\qL g.e3/\qL g.e4/\qL g.e5:=by
 have a0:=zR 0 F
 have a1:=zR 1 F
 have a2:=zR 2 F
 have a3:=zR 3 F
 have a4:=zR 4 F
 have a5:=zR 5 F
 rw[h.M,h.e0,h.e1,h.e2,h.e3,h.e4,h.e5]
 unfold qL
 refine⟨?_,?_,?_,?_,?_,?_,?_⟩<;>omega
theorem run_gm(K K':Int){F H:List Nat}{g o:Gs}(k k':Nat)(hg:GR K F g)(ho:GR K' H o)(hl:F.length+H.length<=1000)(hp:Hp):
  run cxX 131 [g.av K k,o.av K' k'] hp=some ((gmg K g o).av K 2,hp):=by
 obtain⟨m,x0,x1,x2,x3,x4,x5⟩:=hg.in32 (by omega)
 obtain⟨m',y0,y1,y2,y3,y4,y5⟩:=ho.in32 (by omega)
 have l1:=hg.len
 have l2:=ho.len
 exact run_gmerge K K' g.M o.M g.e0 g.e1 g.e2 g.e3 g.e4 g.e5 o.e0 o.e1 o.e2 o.e3 o.e4 o.e5 g.lo g.hi o.lo o.hi g.L o.L k k' ⟨m,m'⟩ ⟨x0,y0⟩ ⟨x1,y1⟩ ⟨x2,y2⟩ ⟨x3,y3⟩ ⟨x4,y4⟩ ⟨x5,y5⟩ ⟨hg.lo,ho.lo⟩ ⟨hg.hi,ho.hi⟩ hg.ws ho.ws (by omega) hp
theorem run_one(K:Int)(w:Nat)(hw:w<18446744073709551616)(hp:Hp):run cxX 132 [.sc (.int .i64 K),fl w] hp=some ((gone w).av K 1,hp):=by
 have i1:=fun hp=>run_inf 1 hp
 have i2:=fun hp=>run_inf (-1) hp
 have ed:=fun hp=>run_edge w hw hp
 have k:=fun hp=>yc w hw hp
 have o:=fun hp=>run_of (kw w) (kw_lt w hw) hp
 simp at i1 i2
 have b5:∀(x0 x1 x2 x3 x4 x5 x6 x7 x8 x9 x10:AV) (q0 q1 q2 q3 q4 q5 q6 q7 q8 q9 q10:AV) (hp:Hp),B132_5 (.float .f64 w) [q0,q1,q2,q3,q4,q5,q6,q7,q8,q9,q10] [x0,x1,x2,x3,x4,x5,x6,x7,x8,x9,x10] hp=some (.agg [x0,x1,x2,x3,x4,x5,x6,x7,x8,x9,S 1 1 [fl (wk (kw w))]],hp):=by
  intros
  rw[B132_5_eq]
  simp[k,o,putN,getN]
 rw[E132]
 have he:=edge_in w
 have hc:edge w=0\/edge w=1\/edge w=2\/edge w=3\/edge w=4\/edge w=5:=by omega
 have u0:idx 6 (.int .u8 0)=some 0:=by kernel_rfl
 have u1:idx 6 (.int .u8 1)=some 1:=by kernel_rfl
 have u2:idx 6 (.int .u8 2)=some 2:=by kernel_rfl
 have u3:idx 6 (.int .u8 3)=some 3:=by kernel_rfl
 have u4:idx 6 (.int .u8 4)=some 4:=by kernel_rfl
 have u5:idx 6 (.int .u8 5)=some 5:=by kernel_rfl
 unfold gone
 by_cases hn:isN w
 ·rcases hc with e|e|e|e|e|e<;>rw[e]at ed<;>simp[i1,i2,ed,u0,u1,u2,u3,u4,u5,putN,zU,hn,b5,e,LF]
 ·rcases hc with e|e|e|e|e|e<;>rw[e]at ed<;>simp[i1,i2,ed,u0,u1,u2,u3,u4,u5,putN,zU,hn,b5,e,LF]
theorem run_gnew(K:Int)(hK:1<=K/\K<=16)(hp:Hp):run cxX 77 [.sc (.int .i64 K)] hp=some (.tup [gnew.av K 2,.sc (.bool true)],hp):=by
 have i1:=fun hp=>run_inf 1 hp
 have i2:=fun hp=>run_inf (-1) hp
 simp at i1 i2
 have h1:¬(K<1):=by omega
 have h2:¬(16<K):=by omega
 rw[E77]
 simp[h1,h2]
 rw[B77_3_eq]
 simp[i1,i2,putN,getN,gnew]
theorem run_gadd(K:Int){F:List Nat}{g:Gs}(k w:Nat)(hK:1<=K)(hg:GR K F g)(hl:F.length+1<=1000)(hw:w<18446744073709551616)(hp:Hp):
  run cxX 78 [g.av K k,fl w] hp=some ((gmg K g (gone w)).av K 2,hp):=by
 have o:=fun hp=>run_one K w hw hp
 have m:=fun k k' hp=>run_gm K K k k' hg (gone_ok hK hw) (by simpa using hl) hp
 rw[E78]
 simp[getN,qe,o,m,putN]
theorem eqInt(d:Nat)(a b:Int):qH Tryz.prog (Op.equalIn (d+1) 30 (.int .u32 a) (.int .u32 b))=some (a==b):=by
 unfold Op.equalIn
 rw[qA]
 have:qH Tryz.prog (underlying 30)=some (.int .u32):=by kernel_rfl
 rw[this]
 rfl
theorem eqArr(e0 e1 e2 e3 e4 e5 f0 f1 f2 f3 f4 f5:Int):qH Tryz.prog (Op.equal 49 (.agg #[.int .u32 e0,.int .u32 e1,.int .u32 e2,.int .u32 e3,.int .u32 e4,.int .u32 e5]) (.agg #[.int .u32 f0,.int .u32 f1,.int .u32 f2,.int .u32 f3,.int .u32 f4,.int .u32 f5]))=
  some (decide (e0=f0/\e1=f1/\e2=f2/\e3=f3/\e4=f4/\e5=f5)):=by
 unfold Op.equal Op.maxDepth
 unfold Op.equalIn
 rw[qA]
 have:qH Tryz.prog (underlying 49)=some (.array 6 30):=by kernel_rfl
 rw[this]
 simp only[cmb,Option.bind_some]
 rw[qA]
 have hs:qH Tryz.prog (sizeOf 30)=some 1:=by kernel_rfl
 rw[hs]
 simp only[cmb,Option.bind_some]
 have hp:∀(x0 x1 x2 x3 x4 x5:Value),qH Tryz.prog (part 30 #[x0,x1,x2,x3,x4,x5] 0)=some x0/\qH Tryz.prog (part 30 #[x0,x1,x2,x3,x4,x5] 1)=some x1/\qH Tryz.prog (part 30 #[x0,x1,x2,x3,x4,x5] 2)=some x2/\
   qH Tryz.prog (part 30 #[x0,x1,x2,x3,x4,x5] 3)=some x3/\qH Tryz.prog (part 30 #[x0,x1,x2,x3,x4,x5] 4)=some x4/\qH Tryz.prog (part 30 #[x0,x1,x2,x3,x4,x5] 5)=some x5:=by
  intro x0 x1 x2 x3 x4 x5
  refine⟨?_,?_,?_,?_,?_,?_⟩<;>kernel_rfl
 have he:=eqInt 9998
 obtain⟨a0,a1,a2,a3,a4,a5⟩:=hp (.int .u32 e0) (.int .u32 e1) (.int .u32 e2) (.int .u32 e3) (.int .u32 e4) (.int .u32 e5)
 obtain⟨b0,b1,b2,b3,b4,b5⟩:=hp (.int .u32 f0) (.int .u32 f1) (.int .u32 f2) (.int .u32 f3) (.int .u32 f4) (.int .u32 f5)
 rw[Std.Legacy.Range.forIn_eq_forIn_range']
 simp[Std.Legacy.Range.size,List.range'_succ,qA,a0,b0,he]
 by_cases h0:e0=f0
 ·subst h0
  simp[qA,a1,b1,he]
  by_cases h1:e1=f1
  ·subst h1
   simp[qA,a2,b2,he]
   by_cases h2:e2=f2
   ·subst h2
    simp[qA,a3,b3,he]
    by_cases h3:e3=f3
    ·subst h3
     simp[qA,a4,b4,he]
     by_cases h4:e4=f4
     ·subst h4
      simp[qA,a5,b5,he]
      by_cases h5:e5=f5
      ·subst h5
       simp[qA]
      ·simp[h5,qA]
     ·simp[h4,qA]
    ·simp[h3,qA]
   ·simp[h2,qA]
  ·simp[h1,qA]
 ·simp[h0,qA]
theorem neq44(x y:Operand)(e0 e1 e2 e3 e4 e5 f0 f1 f2 f3 f4 f5:Int):binV Tryz.prog .neq 49 x y (.agg #[.int .u32 e0,.int .u32 e1,.int .u32 e2,.int .u32 e3,.int .u32 e4,.int .u32 e5]) (.agg #[.int .u32 f0,.int .u32 f1,.int .u32 f2,.int .u32 f3,.int .u32 f4,.int .u32 f5])=
  some (.bool (!decide (e0=f0/\e1=f1/\e2=f2/\e3=f3/\e4=f4/\e5=f5))):=by
 unfold binV
 rw[qA]
 have hg:qH Tryz.prog (eqGuard .neq 49 x y (.agg #[.int .u32 e0,.int .u32 e1,.int .u32 e2,.int .u32 e3,.int .u32 e4,.int .u32 e5]) (.agg #[.int .u32 f0,.int .u32 f1,.int .u32 f2,.int .u32 f3,.int .u32 f4,.int .u32 f5]))=some ():=by kernel_rfl
 rw[hg]
 simp only[cmb,Option.bind_some,Go.binOp]
 rw[qA,eqArr]
 rfl
theorem gsame_loop(r0 r1 r2 r3 r4 r5 r6 r7 r8 r9 s0 s1 s2 s3 s4 s5 s6 s7 s8 s9:AV)(a b:List Nat)(k k':Nat)(hab:a.length=b.length)(hl:a.length<=1000000)(ha:Ws a)(hb:Ws b)(hp:Hp):∀(r s:List Nat) (i:Nat),a.drop i=r->b.drop i=s->
  B121_4 (.int .i64 a.length) (.int .i64 i) [r0,r1,r2,r3,r4,r5,r6,r7,r8,r9,S k 1 (LF a)] [s0,s1,s2,s3,s4,s5,s6,s7,s8,s9,S k' 1 (LF b)] hp=some (.sc (.bool (decide (r.map kw=s.map kw))),hp):=by
 intro r
 induction r with
 |nil=>
  intro s i hr hs
  have h1:=qt hr
  have h2:s=[]:=by rw[<-hs];exact List.drop_eq_nil_of_le (by omega)
  have hlt:¬((i:Int)<(a.length:Int)):=by omega
  rw[B121_4_eq]
  simp[hlt,h2]
 | cons x r ih=>
  intro s i hr hs
  obtain⟨e1,e2,hi,e3⟩:=ql hr
  rw[B121_4_eq]
  have hw:IntKind.i64.wrap ((i:Int)+1)=((i+1:Nat):Int):=by rw[qf]<;>omega
  cases s with
  |nil=>have:=qt hs;omega
  | cons y s=>
   obtain⟨f1,f2,hj,f3⟩:=ql hs
   have h:=ih s (i+1) e2 f2
   have q:=fun hp=>xn x y (ha x (List.mem_of_getElem? e1)) (hb y (List.mem_of_getElem? f1)) hp
   simp at h hw
   by_cases e:kw x=kw y
   ·simp only[e,decide_true]at q
    simp[hi,hj,getC,qe,e3,f3,e,hw,h,q]
   ·simp only[e,decide_false]at q
    simp[hi,hj,getC,qe,e3,f3,e,q]
def GSame(K K':Int)(g o:Gs):Prop:=K=K'/\g.M=o.M/\(g.e0=o.e0/\g.e1=o.e1/\g.e2=o.e2/\g.e3=o.e3/\g.e4=o.e4/\g.e5=o.e5)/\kw g.lo=kw o.lo/\kw g.hi=kw o.hi/\g.L.map kw=o.L.map kw
theorem run_gsame(K K':Int)(g o:Gs)(k k':Nat)(hs:GSame K K' g o)(h1:g.lo<18446744073709551616/\o.lo<18446744073709551616)(h2:g.hi<18446744073709551616/\o.hi<18446744073709551616)(h3:Ws g.L/\Ws o.L)(hl:g.L.length<=1000000)(hp:Hp):
  run cxX 121 [g.av K k,o.av K' k'] hp=some (.sc (.bool true),hp):=by
 obtain⟨q1,q2,q3,q4,q5,q6⟩:=hs
 have len:g.L.length=o.L.length:=by simpa using congrArg List.length q6
 have l:=gsame_loop (.sc (.int .i64 K)) (.sc (.int .u32 g.M)) (.sc (.int .u32 g.e0)) (.sc (.int .u32 g.e1)) (.sc (.int .u32 g.e2)) (.sc (.int .u32 g.e3)) (.sc (.int .u32 g.e4)) (.sc (.int .u32 g.e5)) (fl g.lo) (fl g.hi)
  (.sc (.int .i64 K')) (.sc (.int .u32 o.M)) (.sc (.int .u32 o.e0)) (.sc (.int .u32 o.e1)) (.sc (.int .u32 o.e2)) (.sc (.int .u32 o.e3)) (.sc (.int .u32 o.e4)) (.sc (.int .u32 o.e5)) (fl o.lo) (fl o.hi) g.L o.L (rk k) (rk k') len hl h3.1 h3.2 hp g.L o.L 0 rfl rfl
 have r1:=fun hp=>xn g.lo o.lo h1.1 h1.2 hp
 have r2:=fun hp=>xn g.hi o.hi h2.1 h2.2 hp
 have a:=neq44 (.tmp 20) (.tmp 22) g.e0 g.e1 g.e2 g.e3 g.e4 g.e5 o.e0 o.e1 o.e2 o.e3 o.e4 o.e5
 simp only[eq_true q3,eq_true q4,eq_true q5,eq_true q6,decide_true,Bool.not_true]at a r1 r2 l
 subst q1
 rw[E121]
 simp at l
 rw[len]at l
 rw[q2]at l
 simp[qe,getC,getN,js,xg,q2,a,r1,r2,len,B121_3_eq]
 exact l
open Classical in
noncomputable def wd(p:Int×Int):Nat:=if h:∃w,w<18446744073709551616/\∀hp,run cxX 133 [.sc (.int .u64 p.1),.sc (.int .u8 p.2)] hp=some (fl w,hp)then h.choose else 0
def InI(p:Int×Int):Prop:=(0<=p.1/\p.1<18446744073709551616)/\(0<=p.2/\p.2<256)
theorem wd_ok{p:Int×Int}(h:InI p):wd p<18446744073709551616/\∀hp,run cxX 133 [.sc (.int .u64 p.1),.sc (.int .u8 p.2)] hp=some (fl (wd p),hp):=by
 have he:=run_float p.1 p.2 h.1 h.2
 unfold wd
 rw[dif_pos he]
 exact he.choose_spec
theorem run_item(p:Int×Int)(h:InI p)(hp:Hp):run cxX 79 [.agg [.sc (.int .u64 p.1),.sc (.int .u8 p.2)]] hp=some (fl (wd p),hp):=by
 rw[E79]
 simp[qe,(wd_ok h).2]
def LP:List (Int×Int)->List AV
 |[]=>[]
 |p::l=>.sc (.int .u64 p.1)::.sc (.int .u8 p.2)::LP l
theorem lenP:∀l,(LP l).length=2*l.length
 |[]=>rfl
 |p::l=>by simp only[LP,List.length_cons,lenP l];omega
theorem dropP:∀(i:Nat) (l:List (Int×Int)),(LP l).drop (i*2)=LP (l.drop i)
 |0,l=>by simp
 |i+1,[]=>by simp[LP]
 |i+1,p::l=>by
  have h:(i+1)*2=i*2+1+1:=by omega
  rw[h,LP,List.drop_succ_cons,List.drop_succ_cons,dropP i l,List.drop_succ_cons]
theorem lenA_P(k:Nat)(l:List (Int×Int)):lenA (S k 2 (LP l))=some l.length:=by
 have h:(if(2:Nat)=1 then(LP l).length else(LP l).length/2)=l.length:=by rw[if_neg (by omega),lenP];omega
 rcases zB k 2 (LP l)with e|e|⟨e,e'⟩
 ·rw[e];simp only[lenA,h]
 ·rw[e];simp only[lenA,h]
 ·rw[e]
  have:l.length=0:=by have:=lenP l;rw[e']at this;simp at this;omega
  rw[this];rfl
theorem idxA_P(k:Nat){l:List (Int×Int)}{i:Nat}{p:Int×Int}(h:l[i]?=some p):idxA 2 (S k 2 (LP l)) (.int .i64 (i:Int))=some [.sc (.int .u64 p.1),.sc (.int .u8 p.2)]:=by
 obtain⟨hi,hp⟩:=List.getElem?_eq_some_iff.mp h
 have hl:(if(2:Nat)=1 then(LP l).length else(LP l).length/2)=l.length:=by rw[if_neg (by omega),lenP];omega
 have hx:idx l.length (.int .i64 (i:Int))=some i:=by
  have hc:(0:Int)<=(i:Int)/\(i:Int)<(l.length:Int):=⟨by omega,by omega⟩
  simp only[cmb,idx,asI,Option.bind_some,hc,and_self,if_true,Int.toNat_natCast]
 have hg:getN (LP l) (i*2) 2=some [.sc (.int .u64 p.1),.sc (.int .u8 p.2)]:=by
  unfold getN
  rw[if_pos (by rw[lenP];omega),dropP,List.drop_eq_getElem_cons hi,hp]
  rfl
 rcases zB k 2 (LP l)with e|e|⟨e,e'⟩
 ·rw[e];simp only[cmb,idxA,if_true,hl,hx,Option.bind_some,hg]
 ·rw[e];simp only[cmb,idxA,if_true,hl,hx,Option.bind_some,hg]
 ·exfalso
  have:=lenP l
  rw[e']at this
  simp at this
  omega
def gfold(K:Int)(g:Gs):List Nat->Gs
 |[]=>g
 |w::r=>gfold K (gmg K g (gone w)) r
theorem gauge_loop(K:Int)(k:Nat)(l:List (Int×Int))(z0 z1 z2 z3 z4 z5 z6 z7 z8 z9 z10:AV)(hK:1<=K)(hl:l.length<=900)(hI:∀p∈l,InI p)(hp:Hp):∀(r:List (Int×Int)) (i:Nat) (F:List Nat) (g:Gs),l.drop i=r->F.length=i->GR K F g->
  B31_3 (S k 2 (LP l)) (.int .i64 l.length) (.int .i64 i) [z0,z1,z2,z3,z4,z5,z6,z7,z8,z9,z10] [.sc (.int .i64 K),.sc (.int .u32 g.M),.sc (.int .u32 g.e0),.sc (.int .u32 g.e1),.sc (.int .u32 g.e2),.sc (.int .u32 g.e3),.sc (.int .u32 g.e4),.sc (.int .u32 g.e5),fl g.lo,fl g.hi,S 2 1 (LF g.L)] hp=
   some ((gfold K g (r.map wd)).av K 2,hp):=by
 intro r
 induction r with
 |nil=>
  intro i F g hr hF hg
  have:=qt hr
  have hlt:¬((i:Int)<(l.length:Int)):=by omega
  rw[B31_3_eq]
  simp[hlt,getN,putN,gfold]
 |cons p r ih=>
  intro i F g hr hF hg
  obtain⟨e1,e2,hi,e3⟩:=ql hr
  have hpI:=hI p (List.mem_of_getElem? e1)
  have hw:=(wd_ok hpI).1
  have ix:=idxA_P k e1
  have it:=fun hp=>run_item p hpI hp
  have ad:=fun k hp=>run_gadd K k (wd p) hK hg (by omega) hw hp
  have h:=ih (i+1) (F++[wd p]) (gmg K g (gone (wd p))) e2 (by simp[hF]) (hg.merge (gone_ok hK hw) (by simp;omega))
  have hwi:IntKind.i64.wrap ((i:Int)+1)=((i+1:Nat):Int):=by rw[qf]<;>omega
  rw[B31_3_eq]
  simp at h hwi
  simp[hi,ix,getN,putN,it,ad,hwi,h,gfold]
theorem run_gauge(c:Int)(k:Nat)(l:List (Int×Int))(hc:0<=c/\c<256)(hl:l.length<=900)(hI:∀p∈l,InI p)(hp:Hp):
  run cxX 31 [.sc (.int .u8 c),S k 2 (LP l)] hp=some ((gfold (1+c%16) gnew (l.map wd)).av (1+c%16) 2,hp):=by
 have m:∀x y,binV Tryz.prog .rem 5 x y (.int .u8 c) (.int .u8 16)=some (.int .u8 (c%16)):=by
  intro x y;rw[qO _ _ _ _ _ _ _ (by omega),qN hc.1]
 have w1:IntKind.i64.wrap (c%16)=c%16:=qf (by omega) (by omega)
 have w2:IntKind.i64.wrap (1+c%16)=1+c%16:=qf (by omega) (by omega)
 have cv:∀n:Int,cvV Tryz.prog 5 3 (.int .u8 n)=some (.int .i64 (IntKind.i64.wrap n)):=fun n=>by kernel_rfl
 have nw:=fun hp=>run_gnew (1+c%16) (by omega) hp
 have lp:=fun z0 z1 z2 z3 z4 z5 z6 z7 z8 z9 z10=>gauge_loop (1+c%16) (rk k) l z0 z1 z2 z3 z4 z5 z6 z7 z8 z9 z10 (by omega) hl hI hp l 0 [] gnew rfl rfl (gnew_ok _)
 simp at lp
 rw[E31]
 simp[m,cv,w1,w2,nw,putN,lenA_P]
 exact lp _ _ _ _ _ _ _ _ _ _ _
theorem GR.same{K:Int}{F H:List Nat}{g o:Gs}(hg:GR K F g)(ho:GR K H o)(h:F.Perm H):GSame K K g o:=by
 refine⟨rfl,?_,⟨?_,?_,?_,?_,?_,?_⟩,?_,?_,?_⟩
 ·rw[hg.M,ho.M,h.length_eq]
 ·rw[hg.e0,ho.e0,xr 0 h]
 ·rw[hg.e1,ho.e1,xr 1 h]
 ·rw[hg.e2,ho.e2,xr 2 h]
 ·rw[hg.e3,ho.e3,xr 3 h]
 ·rw[hg.e4,ho.e4,xr 4 h]
 ·rw[hg.e5,ho.e5,xr 5 h]
 ·rw[hg.klo,ho.klo,lowK_perm h]
 ·rw[hg.khi,ho.khi,highK_perm h]
 ·rw[hg.keys,ho.keys,sk_of_perm (h.map kw)]
theorem ws_wd{l:List (Int×Int)}(h:∀p∈l,InI p):Ws (l.map wd):=by
 intro w hw
 obtain⟨p,hp,rfl⟩:=List.mem_map.mp hw
 exact(wd_ok (h p hp)).1
def LQ(K K':IntKind):List (Int×Int)->List AV
 |[]=>[]
 |p::l=>.sc (.int K p.1)::.sc (.int K' p.2)::LQ K K' l
section
variable (K K' : IntKind)
theorem lenQ:∀l,(LQ K K' l).length=2*l.length
 |[]=>rfl
 |p::l=>by simp only[LQ,List.length_cons,lenQ l];omega
theorem dropQ:∀(i:Nat) (l:List (Int×Int)),(LQ K K' l).drop (i*2)=LQ K K' (l.drop i)
 |0,l=>by simp
 |i+1,[]=>by simp[LQ]
 |i+1,p::l=>by
  have h:(i+1)*2=i*2+1+1:=by omega
  rw[h,LQ,List.drop_succ_cons,List.drop_succ_cons,dropQ i l,List.drop_succ_cons]
theorem appQ:∀a b,LQ K K' (a++b)=LQ K K' a++LQ K K' b
 |[],b=>rfl
 |p::a,b=>by simp only[List.cons_append,LQ,appQ a b]
theorem lenA_Q(k:Nat)(l:List (Int×Int)):lenA (S k 2 (LQ K K' l))=some l.length:=by
 have h:(if(2:Nat)=1 then(LQ K K' l).length else(LQ K K' l).length/2)=l.length:=by rw[if_neg (by omega),lenQ];omega
 rcases zB k 2 (LQ K K' l)with e|e|⟨e,e'⟩
 ·rw[e];simp only[lenA,h]
 ·rw[e];simp only[lenA,h]
 ·rw[e]
  have:l.length=0:=by have:=lenQ K K' l;rw[e']at this;simp at this;omega
  rw[this];rfl
theorem idxA_Q(k:Nat){l:List (Int×Int)}{i:Nat}{p:Int×Int}(h:l[i]?=some p):idxA 2 (S k 2 (LQ K K' l)) (.int .i64 (i:Int))=some [.sc (.int K p.1),.sc (.int K' p.2)]:=by
 obtain⟨hi,hp⟩:=List.getElem?_eq_some_iff.mp h
 have hl:(if(2:Nat)=1 then(LQ K K' l).length else(LQ K K' l).length/2)=l.length:=by rw[if_neg (by omega),lenQ];omega
 have hx:idx l.length (.int .i64 (i:Int))=some i:=zm .i64 hi
 have hg:getN (LQ K K' l) (i*2) 2=some [.sc (.int K p.1),.sc (.int K' p.2)]:=by
  unfold getN
  rw[if_pos (by rw[lenQ];omega),dropQ,List.drop_eq_getElem_cons hi,hp]
  rfl
 rcases zB k 2 (LQ K K' l)with e|e|⟨e,e'⟩
 ·rw[e];simp only[idxA,if_true,hl,hx,Option.bind_some,hg]
 ·rw[e];simp only[idxA,if_true,hl,hx,Option.bind_some,hg]
 ·exfalso
  have:=lenQ K K' l
  rw[e']at this
  simp at this
  omega
theorem appA_Q(k:Nat)(hk:k=1\/k=2)(l:List (Int×Int))(a b:Int)(h:l.length<=1000000):appA 16 2 (S k 2 (LQ K K' l)) (S 1 2 [.sc (.int K a),.sc (.int K' b)])=some (S k 2 (LQ K K' (l++[(a,b)]))):=by
 rw[appA_S 16 2 k _ _ 1 hk (show Flat [AV.sc (.int K a),AV.sc (.int K' b)]from rfl) (.inr (xd (by decide) ?_)),appQ]
 ·rfl
 ·rw[lenQ];simp;omega
end
abbrev Cv(R C:Int)(x:AV):AV:=.agg [.sc (.int .i64 R),.sc (.int .i64 C),x]
def cchk(R C:Int)(l:List Int):Int:=if R<1\/8<R\/C<1\/256<C then 2 else if(l.length:Int)≠R*C then 6 else 0
theorem cmul{R C:Int}(hR:1<=R/\R<=8)(hC:1<=C/\C<=256):0<=R*C/\R*C<=2048:=by
 obtain⟨r,rfl⟩:∃r:Nat,R=r:=⟨R.toNat,by omega⟩
 obtain⟨c,rfl⟩:∃c:Nat,C=c:=⟨C.toNat,by omega⟩
 have h:r*c<=8*256:=Nat.mul_le_mul (by omega) (by omega)
 have e:(r:Int)*(c:Int)=((r*c:Nat):Int):=by simp
 rw[e];omega
theorem run_ccheck(R C:Int)(l:List Int)(k:Nat)(hl:l.length<=1000000)(hp:Hp):run cxX 66 [Cv R C (S k 1 (LI .u32 l))] hp=some (.sc (.int .i64 (cchk R C l)),hp):=by
 rw[E66]
 unfold cchk
 have b2:B66_2 hp=some (.sc (.int .i64 2),hp):=by rw[B66_2_eq];simp
 by_cases h1:R<1
 ·simp[qe,h1,b2]
 ·by_cases h2:8<R
  ·simp[qe,h1,h2,b2]
  ·by_cases h3:C<1
   ·simp[qe,h1,h2,h3,b2]
   ·by_cases h4:256<C
    ·simp[qe,h1,h2,h3,h4,b2]
    ·have m:=cmul (R:=R) (C:=C) (by omega) (by omega)
     have w:IntKind.i64.wrap (R*C)=R*C:=qf (by omega) (by omega)
     by_cases h5:(l.length:Int)=R*C
     ·simp[qe,getC,h1,h2,h3,h4,w,h5,B66_3_eq]
     ·simp[qe,getC,h1,h2,h3,h4,w,h5,B66_3_eq]
theorem run_ccheck_ms(R C:Int)(l:List Int)(b:Nat)(hl:l.length<=1000000)(hp:Hp):run cxX 66 [Cv R C (.ms b 0 0 l.length 1)] hp=some (.sc (.int .i64 (cchk R C l)),hp):=by
 rw[E66]
 unfold cchk
 have b2:B66_2 hp=some (.sc (.int .i64 2),hp):=by rw[B66_2_eq];simp
 by_cases h1:R<1
 ·simp[qe,h1,b2]
 ·by_cases h2:8<R
  ·simp[qe,h1,h2,b2]
  ·by_cases h3:C<1
   ·simp[qe,h1,h2,h3,b2]
   ·by_cases h4:256<C
    ·simp[qe,h1,h2,h3,h4,b2]
    ·have m:=cmul (R:=R) (C:=C) (by omega) (by omega)
     have w:IntKind.i64.wrap (R*C)=R*C:=qf (by omega) (by omega)
     by_cases h5:(l.length:Int)=R*C
     ·simp[qe,getC,h1,h2,h3,h4,w,h5,B66_3_eq]
     ·simp[qe,getC,h1,h2,h3,h4,w,h5,B66_3_eq]
theorem csame_loop(B B1 B' B1':AV)(a b:List Int)(k k':Nat)(hab:a.length=b.length)(hl:a.length<=1000000)(hp:Hp):∀(r s:List Int) (i:Nat),a.drop i=r->b.drop i=s->
  B120_4 (.int .i64 a.length) (.int .i64 i) [B,B1,S k 1 (LI .u32 a)] [B',B1',S k' 1 (LI .u32 b)] hp=some (.sc (.bool (decide (r=s))),hp):=by
 intro r
 induction r with
 |nil=>
  intro s i hr hs
  have h1:=qt hr
  have h2:s=[]:=by rw[<-hs];exact List.drop_eq_nil_of_le (by omega)
  have hlt:¬((i:Int)<(a.length:Int)):=by omega
  rw[B120_4_eq]
  simp[hlt,h2]
 | cons x r ih=>
  intro s i hr hs
  obtain⟨e1,e2,hi,e3⟩:=ql hr
  rw[B120_4_eq]
  have hw:IntKind.i64.wrap ((i:Int)+1)=((i+1:Nat):Int):=by rw[qf]<;>omega
  cases s with
  |nil=>have:=qt hs;omega
  |cons y s=>
   obtain⟨f1,f2,hj,f3⟩:=ql hs
   have h:=ih s (i+1) e2 f2
   simp at h hw
   by_cases e:x=y
   ·simp[hi,hj,getC,qe,e3,f3,e,hw,h]
   ·simp[hi,hj,getC,qe,e3,f3,e]
theorem run_csame(R C R' C':Int)(a b:List Int)(k k':Nat)(hp:Hp)(ha:a.length<=1000000):
  run cxX 120 [Cv R C (S k 1 (LI .u32 a)),Cv R' C' (S k' 1 (LI .u32 b))] hp=some (.sc (.bool (decide (R=R'/\C=C'/\a=b))),hp):=by
 rw[E120]
 have b2:B120_2 hp=some (.sc (.bool false),hp):=by rw[B120_2_eq]
 by_cases h1:R=R'
 ·by_cases h2:C=C'
  ·by_cases h3:a.length=b.length
   ·have h:=csame_loop (.sc (.int .i64 R)) (.sc (.int .i64 C)) (.sc (.int .i64 R')) (.sc (.int .i64 C')) a b (rk k) (rk k') h3 ha hp a b 0 rfl rfl
    simp at h
    subst h1 h2
    rw[h3]at h
    simp[qe,getC,h3,B120_3_eq,h]
   ·have h4:¬(a=b):=fun e=>h3 (by rw[e])
    have h5:¬((a.length:Int)=(b.length:Int)):=by omega
    simp[qe,getC,h1,h2,h4,h5,b2]
  ·simp[qe,h1,h2,b2]
 ·simp[qe,h1,b2]
theorem run_cnew(R C:Int)(hR:1<=R/\R<=8)(hC:1<=C/\C<=256)(hp:Hp):run cxX 76 [.sc (.int .i64 R),.sc (.int .i64 C)] hp=
  some (.tup [Cv R C (.ms hp.next 0 0 (R*C).toNat 1),.sc (.bool true)],hp.new (LI .u32 (List.replicate (R*C).toNat 0))):=by
 rw[E76]
 have h1:¬(R<1):=by omega
 have h2:¬(8<R):=by omega
 have h3:¬(C<1):=by omega
 have h4:¬(256<C):=by omega
 have m:=cmul hR hC
 have w:IntKind.i64.wrap (R*C)=R*C:=qf (by omega) (by omega)
 have mk:xM 4 1 (R*C) (R*C)=some ():=okMake_ok (by omega) (by omega) (by decide) (by decide)
 have z:=zeros_I .u32 (R*C).toNat
 rw[Int.toNat_of_nonneg m.1]at z
 simp[h1,h2,h3,h4,B76_3_eq,w,mk,z,getN,putN]
theorem run_cplace0(C h r:Int)(hC:1<=C/\C<=256)(hr:0<=r/\r<=8):∃v:Nat,(v:Int)<C/\∀(R x:AV) hp,run cxX 128 [.agg [R,.sc (.int .i64 C),x],.sc (.int .u64 h),.sc (.int .i64 r)] hp=some (.sc (.int .i64 (v:Int)),hp):=by
 obtain⟨z1,s1⟩:∃z:Int,∀t x y,binV Tryz.prog .shr t x y (.int .u64 h) (.int .u64 32)=some (.int .u64 z):=⟨_,fun t x y=>zJ _ _ _ _ _ _ _ _ (by omega)⟩
 have w1:IntKind.i64.wrap (2*r)=2*r:=qf (by omega) (by omega)
 have w2:IntKind.i64.wrap (2*r+1)=2*r+1:=qf (by omega) (by omega)
 have w3:IntKind.u64.wrap (2*r+1)=2*r+1:=qr (by omega) (by omega)
 obtain⟨z2,s2⟩:∃z:Int,∀t x y,binV Tryz.prog .mul t x y (.int .u64 z1) (.int .u64 (2*r+1))=some (.int .u64 z):=⟨_,fun t x y=>binV_mul _ _ _ _ _ _ _⟩
 obtain⟨z3,s3⟩:∃z:Int,∀t x y,binV Tryz.prog .and t x y (.int .u64 h) (.int .u64 4294967295)=some (.int .u64 z):=⟨_,fun t x y=>qE _ _ _ _ _ _ _⟩
 obtain⟨z4,s4⟩:∃z:Int,∀t x y,binV Tryz.prog .add t x y (.int .u64 z2) (.int .u64 z3)=some (.int .u64 z):=⟨_,fun t x y=>zV _ _ _ _ _ _ _⟩
 obtain⟨z5,s5⟩:∃z:Int,∀t x y,binV Tryz.prog .shr t x y (.int .u64 z4) (.int .u64 17)=some (.int .u64 z):=⟨_,fun t x y=>zJ _ _ _ _ _ _ _ _ (by omega)⟩
 obtain⟨z6,b6,s6⟩:∃z:Int,(0<=z/\z<18446744073709551616)/\∀t x y,binV Tryz.prog .xor t x y (.int .u64 z4) (.int .u64 z5)=some (.int .u64 z):=⟨_,by rw[IntKind.wrap_u64];omega,fun t x y=>jA _ _ _ _ _ _ _⟩
 have m1:max C 1=C:=by omega
 have w4:IntKind.u64.wrap C=C:=qr (by omega) (by omega)
 have hm:0<=z6%C/\z6%C<C:=⟨Int.emod_nonneg _ (by omega),Int.emod_lt_of_pos _ (by omega)⟩
 have s7:∀t x y,binV Tryz.prog .rem t x y (.int .u64 z6) (.int .u64 C)=some (.int .u64 (z6%C)):=by
  intro t x y;rw[qO _ _ _ _ _ _ _ (by omega),qN b6.1]
 have w5:IntKind.i64.wrap (z6%C)=z6%C:=qf (by omega) (by omega)
 refine⟨(z6%C).toNat,by omega,fun R x hp=>?_⟩
 rw[Int.toNat_of_nonneg hm.1,E128]
 generalize z6%C=z7 at*
 simp[qe,s1,w1,w2,w3,s2,s3,s4,s5,s6,m1,w4,s7,w5,-binV_mul,-qE,-zV,-jA]
 simp[w1,w2,w3,s2,s3,s4,s5,s6,w4,s7,w5,-qE,-jA]
noncomputable def cplc(C h r:Int):Nat:=if hh:(1<=C/\C<=256)/\0<=r/\r<=8 then(run_cplace0 C h r hh.1 hh.2).choose else 0
theorem cplc_ok{C h r:Int}(hC:1<=C/\C<=256)(hr:0<=r/\r<=8):(cplc C h r:Int)<C/\∀(R x:AV) hp,run cxX 128 [.agg [R,.sc (.int .i64 C),x],.sc (.int .u64 h),.sc (.int .i64 r)] hp=some (.sc (.int .i64 (cplc C h r:Int)),hp):=by
 unfold cplc
 rw[dif_pos ⟨hC,hr⟩]
 exact(run_cplace0 C h r hC hr).choose_spec
def cmrg:List Int->List Int->List Int
 |[],_=>[]
 |x::a,[]=>x::a
 |x::a,y::b=>plus x y::cmrg a b
@[simp] theorem cmrg_nil_r : ∀ a, cmrg a [] = a
 |[]=>rfl
 |_::_=>rfl
abbrev U32(l:List Int):Prop:=∀n∈l,0<=n/\n<4294967296
theorem plus_u32{a b:Int}(ha:0<=a/\a<4294967296)(hb:0<=b/\b<4294967296):0<=plus a b/\plus a b<4294967296:=by
 unfold plus;split<;>omega
noncomputable def cadd1(C h n:Int)(l:List Int)(r:Nat):List Int:=l.set (r*C.toNat+cplc C h r) (plus (l.getD (r*C.toNat+cplc C h r) 0) n)
noncomputable def caddF(C h n:Int)(l:List Int)(rs:List Nat):List Int:=rs.foldl (cadd1 C h n) l
noncomputable def cadd(R C h n:Int)(l:List Int):List Int:=if cchk R C l=0 then caddF C h n l (List.range' 0 R.toNat)else l
theorem cadd1_len(C h n:Int)(l:List Int)(r:Nat):(cadd1 C h n l r).length=l.length:=by simp[cadd1]
theorem caddF_len(C h n:Int):∀(rs:List Nat) (l:List Int),(caddF C h n l rs).length=l.length
 |[],_=>rfl
 |r::rs,l=>by
  show(caddF C h n (cadd1 C h n l r) rs).length=_
  rw[caddF_len C h n rs,cadd1_len]
theorem cadd_len(R C h n:Int)(l:List Int):(cadd R C h n l).length=l.length:=by
 unfold cadd;split
 ·exact caddF_len _ _ _ _ _
 ·rfl
theorem getD_u32{l:List Int}(h:U32 l)(i:Nat):0<=l.getD i 0/\l.getD i 0<4294967296:=by
 by_cases hi:i<l.length
 ·have:=h l[i] (List.getElem_mem hi)
  simpa[hi]using this
 ·simp[hi]
theorem cadd1_u32{C h n:Int}{l:List Int}{r:Nat}(hl:U32 l)(hn:0<=n/\n<4294967296):U32 (cadd1 C h n l r):=by
 intro x hx
 rcases List.mem_or_eq_of_mem_set hx with hx|rfl
 ·exact hl x hx
 ·exact plus_u32 (getD_u32 hl _) hn
theorem caddF_u32{C h n:Int}(hn:0<=n/\n<4294967296):∀(rs:List Nat) {l:List Int},U32 l->U32 (caddF C h n l rs)
 |[],_,hl=>hl
 |r::rs,l,hl=>caddF_u32 hn rs (cadd1_u32 hl hn)
theorem cadd_u32{R C h n:Int}{l:List Int}(hn:0<=n/\n<4294967296)(hl:U32 l):U32 (cadd R C h n l):=by
 unfold cadd;split
 ·exact caddF_u32 hn _ hl
 ·exact hl
theorem cadd_fin(R C:Int)(q0 q1 q2:AV)(b:Nat)(d:List Int)(hp:Hp)(hb:hp.rd b 0=some (LI .u32 d)):
  B72_9 [q0,q1,q2] [.sc (.int .i64 R),.sc (.int .i64 C),.ms b 0 0 d.length 1] hp=some (Cv R C (S 0 1 (LI .u32 d)),hp.del b):=by
 have f:=frz1_I .u32 d hp b hb
 rw[B72_9_eq]
 simp[getN,putN,f]
theorem cadd_loop(R C h n:Int)(q0 q1 q2:AV)(x:AV)(b:Nat)(hR:1<=R/\R<=8)(hC:1<=C/\C<=256)(hn:0<=n/\n<4294967296):∀(m i:Nat) (l:List Int) (hp:Hp),R=(i+m:Nat)->(l.length:Int)=R*C->U32 l->hp.rd b 0=some (LI .u32 l)->
  ∃hp',B72_4 (.int .u64 h) (.int .u32 n) (.int .i64 R) (.int .i64 i) [.sc (.int .i64 R),.sc (.int .i64 C),x] [q0,q1,q2] [.sc (.int .i64 R),.sc (.int .i64 C),.ms b 0 0 l.length 1] hp=some (Cv R C (S 0 1 (LI .u32 (caddF C h n l (List.range' i m)))),hp'):=by
 intro m
 induction m with
 |zero=>
  intro i l hp hi hlen hl hb
  have hlt:¬((i:Int)<R):=by omega
  refine⟨hp.del b,?_⟩
  rw[B72_4_eq]
  simp only[cmb,binV_lss,hlt,decide_false,zN,Option.bind_some,cond_false]
  exact cadd_fin R C q0 q1 q2 b l hp hb
 | succ m ih=>
  intro i l hp hi hlen hl hb
  have hlt:(i:Int)<R:=by omega
  obtain⟨c,rfl⟩:∃c:Nat,C=c:=⟨C.toNat,by omega⟩
  obtain⟨pb,pc⟩:=cplc_ok (h:=h) (r:=(i:Int)) hC (by omega)
  have hRc:(R*(c:Int))=(((i+(m+1))*c:Nat):Int):=by rw[hi];simp
  have hj:i*c+cplc c h i<l.length:=by
   have e1:(i+(m+1))*c=i*c+c+m*c:=by rw[Nat.add_mul,Nat.add_mul];omega
   have e2:l.length=(i+(m+1))*c:=by omega
   have e3:cplc c h i<c:=by omega
   omega
  have hl2:l.length<=2048:=by have:=cmul hR hC;omega
  have w1:IntKind.i64.wrap ((i:Int)*(c:Int))=((i*c:Nat):Int):=by
   have e:(i:Int)*(c:Int)=((i*c:Nat):Int):=by simp
   rw[e,qf (by omega) (by omega)]
  have w2:IntKind.i64.wrap (((i*c:Nat):Int)+(cplc c h i:Int))=((i*c+cplc c h i:Nat):Int):=by rw[qf (by omega) (by omega)];omega
  have w3:IntKind.i64.wrap ((i:Int)+((1:Nat):Int))=((i+1:Nat):Int):=by rw[qf]<;>omega
  have ed:cadd1 c h n l i=l.set (i*c+cplc c h i) (plus (l.getD (i*c+cplc c h i) 0) n):=by unfold cadd1;rw[Int.toNat_natCast]
  have ef:caddF c h n l (List.range' i (m+1))=caddF c h n (cadd1 c h n l i) (List.range' (i+1) m):=by rw[List.range'_succ];rfl
  have gs':l[i*c+cplc c h i]?=some (l.getD (i*c+cplc c h i) 0):=by simp[hj]
  have hgd:=getD_u32 hl (i*c+cplc c h i)
  have hu:=cadd1_u32 (C:=c) (h:=h) (n:=n) (r:=i) hl hn
  have hcl:=cadd1_len c h n l i
  rw[ed]at hu hcl ef
  rw[ef]
  generalize i*c+cplc c h i=j at*
  generalize l.getD j 0=g at*
  have pl:=fun hp=>jP g n hgd hn hp
  have ix:=zm .i64 hj
  have pt:=putN_I .u32 l j (plus g n) hj
  obtain⟨hp',hh⟩:=ih (i+1) (l.set j (plus g n)) (hp.put b 0 (LI .u32 (l.set j (plus g n)))) (by omega) (by rw[hcl];exact hlen) hu (qh _ _ _)
  refine⟨hp',?_⟩
  rw[hcl]at hh
  have oa:∀v w,jD [AV.sc v,AV.sc w] []=some ():=fun v w=>by rw[okArgs_eq];exact if_pos ⟨by simp,by simp⟩
  have gn:getN [AV.sc (.int .i64 R),AV.sc (.int .i64 (c:Int)),x] 0 3=some [AV.sc (.int .i64 R),AV.sc (.int .i64 (c:Int)),x]:=rfl
  rw[B72_4_eq]
  simp only[cmb,binV_lss,hlt,decide_true,zN,Option.bind_some,cond_true,qe,List.getElem?_cons_succ,List.getElem?_cons_zero,yj,binV_mul,w1,gn,List.map_cons,List.map_nil,ro1_sc,ro_agg,ro_sc,pc,okRes_sc,zV,w2,getC,ro1_ms,yH,ix,xS,chk_eq,yN,hb,Nat.add_eq,Nat.zero_add,getI?,gs',Option.map_some,oa,pl,pt,Int.ofNat_eq_natCast,w3]
  exact hh
theorem run_cadd(R C h n:Int)(l:List Int)(k:Nat)(hn:0<=n/\n<4294967296)(hl:l.length<=1000000)(h32:U32 l)(hp:Hp):
  ∃t hp',run cxX 72 [Cv R C (S k 1 (LI .u32 l)),.sc (.int .u64 h),.sc (.int .u32 n)] hp=some (Cv R C (S t 1 (LI .u32 (cadd R C h n l))),hp'):=by
 rw[E72]
 have ck:=fun hp=>run_ccheck R C l (rk k) hl hp
 by_cases hc:cchk R C l=0
 ·have hc':=hc
  unfold cchk at hc'
  split at hc'
  ·cases hc'
  ·split at hc'
   ·cases hc'
   ·rename_i h1 h2
    have hlen:(l.length:Int)=R*C:=by omega
    have hne:l≠[]:=by
     intro e
     subst e
     obtain⟨r,rfl⟩:∃r:Nat,R=r:=⟨R.toNat,by omega⟩
     obtain⟨c,rfl⟩:∃c:Nat,C=c:=⟨C.toNat,by omega⟩
     have e:(r:Int)*(c:Int)=((r*c:Nat):Int):=by simp
     rw[e]at hlen
     have:0<r*c:=Nat.mul_pos (by omega) (by omega)
     simp at hlen
     omega
    have n1:=fun k hp=>xT .u32 l k 4 (by decide) hl hne hp
    obtain⟨hp',hh⟩:=cadd_loop R C h n (.sc (.int .i64 0)) (.sc (.int .i64 0)) (S 2 1 []) (S (rk k) 1 (LI .u32 l)) hp.next (by omega) (by omega) hn R.toNat 0 l (hp.new (LI .u32 l)) (by omega) hlen h32 (qs _ _)
    refine⟨0,hp',?_⟩
    have e:cadd R C h n l=caddF C h n l (List.range' 0 R.toNat):=by unfold cadd;rw[if_pos hc]
    simp at hh
    simp[qe,getC,getN,n1,putN,ck,hc,e,hh]
 ·have e:cadd R C h n l=l:=by unfold cadd;rw[if_neg hc]
  by_cases hne:l=[]
  ·subst hne
   have n1:=fun k hp=>appM_nil 4 k hp
   refine⟨0,hp,?_⟩
   have e9:∀(q0 q1 q2:AV),B72_9 [q0,q1,q2] [.sc (.int .i64 R),.sc (.int .i64 C),S 0 1 []] hp=some (Cv R C (S 0 1 []),hp):=by
    intro q0 q1 q2
    rw[B72_9_eq]
    simp[getN,putN]
   simp at ck
   simp[qe,getC,getN,n1,putN,ck,hc,e,e9]
  ·have n1:=fun k hp=>xT .u32 l k 4 (by decide) hl hne hp
   have f:=cadd_fin R C (.sc (.int .i64 0)) (.sc (.int .i64 0)) (S 2 1 []) hp.next l (hp.new (LI .u32 l)) (qs _ _)
   refine⟨0,(hp.new (LI .u32 l)).del hp.next,?_⟩
   simp[qe,getC,getN,n1,putN,ck,hc,e,f]
theorem run_cadd_ms(R C h n:Int)(l:List Int)(b:Nat)(hn:0<=n/\n<4294967296)(hl:l.length<=1000000)(h32:U32 l)(hc:cchk R C l=0)(hp:Hp)(hb:hp.rd b 0=some (LI .u32 l)):
  ∃t hp',run cxX 72 [Cv R C (.ms b 0 0 l.length 1),.sc (.int .u64 h),.sc (.int .u32 n)] hp=some (Cv R C (S t 1 (LI .u32 (cadd R C h n l))),hp'):=by
 rw[E72]
 have ck:=fun hp=>run_ccheck_ms R C l b hl hp
 have hc':=hc
 unfold cchk at hc'
 split at hc'
 ·cases hc'
 ·split at hc'
  ·cases hc'
  ·rename_i h1 h2
   have hlen:(l.length:Int)=R*C:=by omega
   have hne:l≠[]:=by
    intro e
    subst e
    obtain⟨r,rfl⟩:∃r:Nat,R=r:=⟨R.toNat,by omega⟩
    obtain⟨c,rfl⟩:∃c:Nat,C=c:=⟨C.toNat,by omega⟩
    have e:(r:Int)*(c:Int)=((r*c:Nat):Int):=by simp
    rw[e]at hlen
    have:0<r*c:=Nat.mul_pos (by omega) (by omega)
    simp at hlen
    omega
   have n1:=appM_freshM .u32 l (.ms b 0 0 l.length 1) 4 (by decide) hl hne hp (srcM_all .u32 l hp b hb)
   obtain⟨hp',hh⟩:=cadd_loop R C h n (.sc (.int .i64 0)) (.sc (.int .i64 0)) (S 2 1 []) (.ms b 0 0 l.length 1) hp.next (by omega) (by omega) hn R.toNat 0 l (hp.new (LI .u32 l)) (by omega) hlen h32 (qs _ _)
   refine⟨0,hp',?_⟩
   have e:cadd R C h n l=caddF C h n l (List.range' 0 R.toNat):=by unfold cadd;rw[if_pos hc]
   simp at hh
   simp[qe,getC,getN,n1,putN,ck,hc,e,hh]
noncomputable def jz(R C:Int)(a:List Int)(l:List (Int×Int)):List Int:=l.foldl (fun a p=>cadd R C p.1 p.2 a) a
theorem cfold_len(R C:Int):∀(l:List (Int×Int)) (a:List Int),(jz R C a l).length=a.length
 |[],_=>rfl
 |p::l,a=>by
  show(jz R C (cadd R C p.1 p.2 a) l).length=_
  rw[cfold_len R C l,cadd_len]
theorem cfold_u32(R C:Int):∀{l:List (Int×Int)} {a:List Int},U32 a->(∀p∈l,0<=p.2/\p.2<4294967296)->U32 (jz R C a l)
 |[],_,h,_=>h
 |p::l,a,h,hl=>cfold_u32 R C (l:=l) (cadd_u32 (hl p (by simp)) h) (fun q hq=>hl q (by simp[hq]))
theorem cms_loop(R C:Int)(q0 q1 q2:AV)(l:List (Int×Int))(k:Nat)(hl:l.length<=1000000)(h32:∀p∈l,0<=p.2/\p.2<4294967296):∀(r:List (Int×Int)) (i t:Nat) (a:List Int) (hp:Hp),l.drop i=r->a.length<=1000000->U32 a->
  ∃t' hp',B30_3 (S k 2 (LQ .u64 .u32 l)) (.int .i64 l.length) (.int .i64 i) [q0,q1,q2] [.sc (.int .i64 R),.sc (.int .i64 C),S t 1 (LI .u32 a)] hp=some (Cv R C (S t' 1 (LI .u32 (jz R C a r))),hp'):=by
 intro r
 induction r with
 |nil=>
  intro i t a hp hr ha hu
  have:=qt hr
  have hlt:¬((i:Int)<(l.length:Int)):=by omega
  refine⟨rk t,hp,?_⟩
  rw[B30_3_eq]
  simp[hlt,getN,putN,jz]
 |cons x r ih=>
  intro i t a hp hr ha hu
  obtain⟨e1,e2,hi,e3⟩:=ql hr
  have hx:=h32 x (List.mem_of_getElem? e1)
  have hw:IntKind.i64.wrap ((i:Int)+1)=((i+1:Nat):Int):=by rw[qf]<;>omega
  obtain⟨t1,hp1,ha1⟩:=run_cadd R C x.1 x.2 a (rk t) hx ha hu hp
  obtain⟨t',hp',h⟩:=ih (i+1) t1 (cadd R C x.1 x.2 a) hp1 e2 (by rw[cadd_len];exact ha) (cadd_u32 hx hu)
  refine⟨t',hp',?_⟩
  have ix:=idxA_Q .u64 .u32 k e1
  rw[B30_3_eq]
  simp at h hw
  have ef:jz R C a (x::r)=jz R C (cadd R C x.1 x.2 a) r:=rfl
  simp[hi,ix,qe,getN,putN,ha1,hw,h,ef]
theorem run_cms(a b:Int)(l:List (Int×Int))(k:Nat)(ha:0<=a/\a<256)(hb:0<=b/\b<256)(hl:l.length<=1000000)(h32:∀p∈l,0<=p.2/\p.2<4294967296)(hp:Hp):
  ∃t hp',run cxX 30 [.sc (.int .u8 a),.sc (.int .u8 b),S k 2 (LQ .u64 .u32 l)] hp=some (Cv (1+a%8) (1+b%40) (S t 1 (LI .u32 (jz (1+a%8) (1+b%40) (List.replicate ((1+a%8)*(1+b%40)).toNat 0) l))),hp'):=by
 have h1:∀t x y,binV Tryz.prog .rem t x y (.int .u8 a) (.int .u8 8)=some (.int .u8 (a%8)):=by
  intro t x y;rw[qO _ _ _ _ _ _ _ (by omega),qN ha.1]
 have h2:∀t x y,binV Tryz.prog .rem t x y (.int .u8 b) (.int .u8 40)=some (.int .u8 (b%40)):=by
  intro t x y;rw[qO _ _ _ _ _ _ _ (by omega),qN hb.1]
 have w1:IntKind.i64.wrap (a%8)=a%8:=qf (by omega) (by omega)
 have w2:IntKind.i64.wrap (1+a%8)=1+a%8:=qf (by omega) (by omega)
 have w3:IntKind.i64.wrap (b%40)=b%40:=qf (by omega) (by omega)
 have w4:IntKind.i64.wrap (1+b%40)=1+b%40:=qf (by omega) (by omega)
 have nw:=fun hp=>run_cnew (1+a%8) (1+b%40) (by omega) (by omega) hp
 have m:=cmul (R:=1+a%8) (C:=1+b%40) (by omega) (by omega)
 obtain⟨R,hR⟩:∃R,R=1+a%8:=⟨_,rfl⟩
 obtain⟨C,hC⟩:∃C,C=1+b%40:=⟨_,rfl⟩
 rw[<-hR]at nw m w2⊢
 rw[<-hC]at nw m w4⊢
 obtain⟨z,hz⟩:∃z,z=List.replicate (R*C).toNat (0:Int):=⟨_,rfl⟩
 have zl:z.length=(R*C).toNat:=by rw[hz];simp
 have zu:U32 z:=fun n hn=>by rw[hz]at hn;have:=List.eq_of_mem_replicate hn;omega
 have zc:cchk R C z=0:=by unfold cchk;rw[if_neg (by omega),if_neg (by rw[zl];omega)]
 rw[<-hz]at nw⊢
 rw[<-zl]at nw
 have ln:=lenA_Q .u64 .u32
 have key:∃t hp',B30_3 (S (rk k) 2 (LQ .u64 .u32 l)) (.int .i64 l.length) (.int .i64 (0:Nat)) [.sc (.int .i64 0),.sc (.int .i64 0),S 2 1 []] [.sc (.int .i64 R),.sc (.int .i64 C),.ms hp.next 0 0 z.length 1] (hp.new (LI .u32 z))=some (Cv R C (S t 1 (LI .u32 (jz R C z l))),hp'):=by
  cases l with
  |nil=>
   have f:=frz1_I .u32 z (hp.new (LI .u32 z)) hp.next (qs _ _)
   refine⟨0,(hp.new (LI .u32 z)).del hp.next,?_⟩
   rw[B30_3_eq]
   simp[putN,getN,f,jz]
  |cons x r=>
   have hx:=h32 x (by simp)
   have ix:=idxA_Q (l:=x::r) (i:=0) (p:=x) .u64 .u32 (rk k) rfl
   obtain⟨t1,hp1,ha1⟩:=run_cadd_ms R C x.1 x.2 z hp.next hx (by rw[zl];omega) zu zc (hp.new (LI .u32 z)) (qs _ _)
   obtain⟨t,hp2,h⟩:=cms_loop R C (.sc (.int .i64 0)) (.sc (.int .i64 0)) (S 2 1 []) (x::r) (rk k) hl h32 r 1 t1 (cadd R C x.1 x.2 z) hp1 rfl (by rw[cadd_len,zl];omega) (cadd_u32 hx zu)
   refine⟨t,hp2,?_⟩
   have hw:IntKind.i64.wrap (((0:Nat):Int)+1)=((1:Nat):Int):=rfl
   have hlt:((0:Nat):Int)<((x::r).length:Int):=by simp
   have ef:jz R C z (x::r)=jz R C (cadd R C x.1 x.2 z) r:=rfl
   have gn:getN [AV.sc (.int .i64 R),AV.sc (.int .i64 C),.ms hp.next 0 0 z.length 1] 0 3=some [AV.sc (.int .i64 R),AV.sc (.int .i64 C),.ms hp.next 0 0 z.length 1]:=rfl
   generalize(x::r).length=n at*
   generalize LQ .u64 .u32 (x::r)=q at*
   have hn:0<n:=by simpa using hlt
   rw[B30_3_eq]
   simp at ix h
   simp[hn,ix,qe,getN,putN,ha1,ef,h]
 obtain⟨t,hp',h⟩:=key
 refine⟨t,hp',?_⟩
 rw[E30]
 simp at h
 simp[h1,h2,w1,w2,w3,w4,<-hR,<-hC,nw,putN,ln,h]
end Go.Proofs.YtchmioacjkbfcaaGreat.AI
