/- Texts that the proof of PackPuts rests on, part 7. -/
import Derived.Test.YtchmioacjkbfcaaGreatQPackPuts6
import Derived.DataElems
namespace Go.Proofs.YtchmioacjkbfcaaGreat.AI
open Go
set_option linter.unusedVariables false
set_option linter.unusedSimpArgs false
set_option maxRecDepth 100000
set_option maxHeartbeats 0
theorem qdd(m i:Nat):m%2^(i+1)=if m.testBit i then m%2^i|||2^i else m%2^i:=by
 apply Nat.eq_of_testBit_eq
 intro j
 by_cases e:i=j
 ·subst e
  by_cases h:m.testBit i=true
  ·rw[if_pos h,Nat.testBit_mod_two_pow,Nat.testBit_or,Nat.testBit_mod_two_pow,Nat.testBit_two_pow]
   simp[h]
  ·rw[if_neg h,Nat.testBit_mod_two_pow,Nat.testBit_mod_two_pow]
   simp at h
   simp[h]
 ·have d:decide (j<i+1)=decide (j<i):=by
   by_cases h:j<i
   ·simp[h];omega
   ·simp[h];omega
  by_cases h:m.testBit i=true
  ·rw[if_pos h,Nat.testBit_mod_two_pow,Nat.testBit_or,Nat.testBit_mod_two_pow,Nat.testBit_two_pow,d]
   simp[e]
  ·rw[if_neg h,Nat.testBit_mod_two_pow,Nat.testBit_mod_two_pow,d]
theorem XN(c:Nat×Nat)(b i:Nat)(hi:i<256)(hp:Hp)(h:hp.rd b 0=some (Cc c)):
 run cxX 80 [.ptr b 0 0,.sc (.int .u8 (i:Int))] hp=some (.tup [],hp.put b 0 (Cc (c.1,c.2|||2^i))):=by
 have e:∀c,csL ([]++[c])=Cc c:=fun c=>by simp[csL]
 have a:=Wj [] c b i hi hp (by rw[e];exact h)
 rw[e]at a
 exact a
section
variable (b k:Nat)(l:List Int)(hl:l.length<=1000000000)(ob:Nat)(hob:ob≠b)(key m:Nat)
include hl hob
theorem qnz(N:Nat)(hN:N<=256)(rest:List Int):∀(f i p n:Nat) (last:Int) (hp:Hp),i+f=256->n+(jZ m f i).length=N->last<i->-1<=last->l.drop p=jZ m f i++rest->p<=l.length->hp.rd b 0=some (Rc k l p 0)->hp.rd ob 0=some (Cc (key,m%2^i))->
 ∃hp',B144_2 (.ptr ob 0 0) (.ptr b 0 0) (.int .i64 last) (.int .i64 (N:Int)) (.int .i64 (n:Int)) hp=some (.tup [],hp')/\hp'.rd b 0=some (Rc k l (p+(jZ m f i).length) 0)/\hp'.rd ob 0=some (Cc (key,m%2^256))/\hp'.next=hp.next/\∀a,a≠b->a≠ob->hp'.get a=hp.get a:=by
 intro f
 induction f with
 |zero=>
  intro i p n last hp hi hn hla hla2 hd hpl hr hc
  have e:i=256:=by omega
  subst e
  have e2:n=N:=hn
  subst e2
  refine⟨hp,?_,hr,hc,rfl,fun _ _ _=>rfl⟩
  rw[qbj]
  simp
 |succ f ih=>
  intro i p n last hp hi hn hla hla2 hd hpl hr hc
  have mb:=qdd m i
  by_cases hb:m.testBit i=true
  ·have ea:jZ m (f+1) i=(i:Int)::jZ m f (i+1):=by rw[jZ,if_pos hb]
   rw[if_pos hb]at mb
   rw[ea]at hn hd⊢
   simp only[List.length_cons]at hn⊢
   have tb:=zM b k l hl hd hp hpl hr
   obtain⟨_,d0,hi0,_⟩:=qm hd
   have er:=zH b k l (p+1) 0 (hp.put b 0 (Rc k l (p+1) 0)) (qi _ _ _)
   have ca:=XN (key,m%2^i) ob i (by omega) (hp.put b 0 (Rc k l (p+1) 0)) (by rw[qv _ _ hob];exact hc)
   simp only at ca
   rw[<-mb]at ca
   obtain⟨hp2,a1,a2,a3,a4,a5⟩:=ih (i+1) (p+1) (n+1) (i:Int) ((hp.put b 0 (Rc k l (p+1) 0)).put ob 0 (Cc (key,m%2^(i+1)))) (by omega) (by omega) (by omega) (by omega) d0 (by omega) (by rw[qv _ _ (fun q=>hob q.symm),qi]) (qi _ _ _)
   refine⟨hp2,?_,by rw[a2];congr 2;omega,a3,by rw[a4];rfl,fun a c1 c2=>by rw[a5 a c1 c2];simp[Hp.put,c1,c2]⟩
   rw[<-a1,qbj]
   have w1:IntKind.i64.wrap (i:Int)=(i:Int):=qf (by omega) (by omega)
   have w2:IntKind.u8.wrap (i:Int)=(i:Int):=qT (by omega) (by omega)
   have w3:IntKind.i64.wrap ((n:Int)+1)=((n+1:Nat):Int):=by rw[qf]<;>omega
   have hlt:(n:Int)<(N:Int):=by omega
   have hle:¬((i:Int)<=last):=by omega
   generalize(hp.put b 0 (Rc k l (p+1) 0)).put ob 0 (Cc (key,m%2^(i+1)))=H2 at*
   generalize hp.put b 0 (Rc k l (p+1) 0)=H1 at*
   generalize((n+1:Nat):Int)=n1 at*
   simp[hlt,tb,yN,w1,er,hle,jn,w2,ca,w3]
  ·have ea:jZ m (f+1) i=jZ m f (i+1):=by rw[jZ,if_neg hb]
   rw[if_neg hb]at mb
   rw[ea]at hn hd⊢
   exact ih (i+1) p n last hp (by omega) hn (by omega) hla2 hd hpl hr (by rw[mb];exact hc)
omit hl hob in
theorem qy3(N n fr mo:Nat)(hm:fr+mo<256):∀(g j:Nat) (hp:Hp),j+g=fr+mo+1->(∀x,j<=x->x<=fr+mo->m.testBit x=true)->n<1000->hp.rd ob 0=some (Cc (key,m%2^j))->
 B145_8 (.ptr ob 0 0) (.ptr b 0 0) (.int .i64 (fr:Int)) (.int .i64 (mo:Int)) (.int .i64 (j:Int)) (.int .i64 (N:Int)) (.int .i64 (n:Int)) hp=
  B145_2 (.ptr ob 0 0) (.ptr b 0 0) (.int .i64 ((fr+mo:Nat):Int)) (.int .i64 (N:Int)) (.int .i64 ((n+1:Nat):Int)) (hp.put ob 0 (Cc (key,m%2^(fr+mo+1)))):=by
 intro g
 have w1:IntKind.i64.wrap ((fr:Int)+(mo:Int))=((fr+mo:Nat):Int):=by rw[qf]<;>omega
 induction g with
 |zero=>
  intro j hp hj hb hn hc
  have e:j=fr+mo+1:=by omega
  subst e
  have w2:IntKind.i64.wrap ((n:Int)+1)=((n+1:Nat):Int):=by rw[qf]<;>omega
  have hle:¬(((fr+mo+1:Nat):Int)<=((fr+mo:Nat):Int)):=by omega
  rw[zE hc,qbh]
  generalize((fr+mo+1:Nat):Int)=q1 at*
  generalize((fr+mo:Nat):Int)=q2 at*
  generalize((n+1:Nat):Int)=n1 at*
  simp[w1,hle,w2]
 |succ g ih=>
  intro j hp hj hb hn hc
  have mb:=qdd m j
  rw[if_pos (hb j (Nat.le_refl _) (by omega))]at mb
  have ca:=XN (key,m%2^j) ob j (by omega) hp hc
  simp only at ca
  rw[<-mb]at ca
  have i2:=ih (j+1) (hp.put ob 0 (Cc (key,m%2^(j+1)))) (by omega) (fun x h1 h2=>hb x (by omega) h2) hn (qi _ _ _)
  rw[qp]at i2
  rw[<-i2,qbh]
  have w2:IntKind.u8.wrap (j:Int)=(j:Int):=qT (by omega) (by omega)
  have w3:IntKind.i64.wrap ((j:Int)+1)=((j+1:Nat):Int):=by rw[qf]<;>omega
  have hle:(j:Int)<=((fr+mo:Nat):Int):=by omega
  generalize hp.put ob 0 (Cc (key,m%2^(j+1)))=H1 at*
  generalize((fr+mo:Nat):Int)=q2 at*
  generalize((j+1:Nat):Int)=n1 at*
  simp[w1,hle,jn,w2,ca,w3]
theorem qnu(N:Nat)(hN:N<=256)(rest:List Int):∀(f i p n:Nat) (last:Int) (hp:Hp),256<=i+f->i<=256->2*n+(xD m f i).length=2*N->last<i->-2<=last->(m.testBit i=true->i<256->last+1<i)->l.drop p=xD m f i++rest->p<=l.length->hp.rd b 0=some (Rc k l p 0)->hp.rd ob 0=some (Cc (key,m%2^i))->
 ∃hp',B145_2 (.ptr ob 0 0) (.ptr b 0 0) (.int .i64 last) (.int .i64 (N:Int)) (.int .i64 (n:Int)) hp=some (.tup [],hp')/\hp'.rd b 0=some (Rc k l (p+(xD m f i).length) 0)/\hp'.rd ob 0=some (Cc (key,m%2^256))/\hp'.next=hp.next/\∀a,a≠b->a≠ob->hp'.get a=hp.get a:=by
 intro f
 have done:∀(i p n:Nat) (last:Int) (hp:Hp),i=256->2*n+0=2*N->hp.rd b 0=some (Rc k l p 0)->hp.rd ob 0=some (Cc (key,m%2^i))->
  ∃hp',B145_2 (.ptr ob 0 0) (.ptr b 0 0) (.int .i64 last) (.int .i64 (N:Int)) (.int .i64 (n:Int)) hp=some (.tup [],hp')/\hp'.rd b 0=some (Rc k l (p+0) 0)/\hp'.rd ob 0=some (Cc (key,m%2^256))/\hp'.next=hp.next/\∀a,a≠b->a≠ob->hp'.get a=hp.get a:=by
  intro i p n last hp e hn hr hc
  subst e
  have e2:n=N:=by omega
  subst e2
  refine⟨hp,?_,hr,hc,rfl,fun _ _ _=>rfl⟩
  rw[qbi]
  simp
 induction f with
 |zero=>
  intro i p n last hp hi hi2 hn hla hla2 hbb hd hpl hr hc
  exact done i p n last hp (by omega) hn hr hc
 |succ f ih=>
  intro i p n last hp hi hi2 hn hla hla2 hbb hd hpl hr hc
  by_cases h256:256<=i
  ·have ea:xD m (f+1) i=[]:=by rw[xD,if_pos h256]
   rw[ea]at hn⊢
   exact done i p n last hp (by omega) hn hr hc
  ·by_cases hb:m.testBit i=true
   ·obtain⟨r1,r2,r3,r4⟩:=vf m (255-i) i
    have ea:xD m (f+1) i=(i:Int)::((jR m (255-i) i-i:Nat):Int)::xD m f (jR m (255-i) i+1):=by rw[xD,if_neg h256,if_pos hb]
    generalize hE:jR m (255-i) i=E at*
    rw[ea]at hn hd⊢
    simp only[List.length_cons]at hn⊢
    have hg:=hbb hb (by omega)
    have tb:=zM b k l hl hd hp hpl hr
    obtain⟨_,d0,hi0,_⟩:=qm hd
    have tb2:=zM b k l hl d0 (hp.put b 0 (Rc k l (p+1) 0)) (by omega) (qi _ _ _)
    obtain⟨_,d1,hi1,_⟩:=qm d0
    rw[qp]at tb2
    have er:=zH b k l (p+1+1) 0 (hp.put b 0 (Rc k l (p+1+1) 0)) (qi _ _ _)
    obtain⟨mo,hmo⟩:∃mo,E=i+mo:=⟨E-i,by omega⟩
    have emo:E-i=mo:=by omega
    have ti:=qy3 b ob key m N n i mo (by omega) (mo+1) i (hp.put b 0 (Rc k l (p+1+1) 0)) (by omega) (fun x h1 h2=>by
     by_cases e:x=i
     ·rw[e];exact hb
     ·exact r3 x (by omega) (by omega)) (by omega) (by rw[qv _ _ hob];exact hc)
    rw[emo]at tb2
    subst hmo
    obtain⟨hp2,a1,a2,a3,a4,a5⟩:=ih (i+mo+1) (p+1+1) (n+1) ((i+mo:Nat):Int) ((hp.put b 0 (Rc k l (p+1+1) 0)).put ob 0 (Cc (key,m%2^(i+mo+1)))) (by omega) (by omega) (by omega) (by omega) (by omega)
     (fun h1 h2=>by rw[r4 (by omega)]at h1;cases h1) d1 (by omega) (by rw[qv _ _ (fun q=>hob q.symm),qi]) (qi _ _ _)
    refine⟨hp2,?_,by rw[a2];congr 2;omega,a3,by rw[a4];rfl,fun a c1 c2=>by rw[a5 a c1 c2];simp[Hp.put,c1,c2]⟩
    rw[<-a1,<-ti,qbi]
    have w1:IntKind.i64.wrap (i:Int)=(i:Int):=qf (by omega) (by omega)
    have w2:IntKind.i64.wrap (mo:Int)=(mo:Int):=qf (by omega) (by omega)
    have w3:IntKind.i64.wrap (last+1)=last+1:=by rw[qf]<;>omega
    have w4:IntKind.i64.wrap ((i:Int)+(mo:Int))=(i:Int)+(mo:Int):=by rw[qf]<;>omega
    have hlt:(n:Int)<(N:Int):=by omega
    have hle:¬((i:Int)<=last+1):=by omega
    have h255:¬((255:Int)<(i:Int)+(mo:Int)):=by omega
    generalize hp.put b 0 (Rc k l (p+1+1) 0)=H2 at*
    generalize hp.put b 0 (Rc k l (p+1) 0)=H1 at*
    simp[hlt,tb,tb2,yN,w1,w2,er,w3,hle,w4,h255,qr6]
   ·have ea:xD m (f+1) i=xD m f (i+1):=by rw[xD,if_neg h256,if_neg hb]
    have mb:=qdd m i
    rw[if_neg hb]at mb
    rw[ea]at hn hd⊢
    exact ih (i+1) p n last hp (by omega) (by omega) hn (by omega) hla2 (fun _ _=>by omega) hd hpl hr (by rw[mb];exact hc)
end
theorem qb6(m j x:Nat):(zO m j).testBit x=(decide (x<64)&&m.testBit (64*j+x)):=by
 unfold zO
 have e:(18446744073709551616:Nat)=2^64:=rfl
 rw[e,Nat.testBit_mod_two_pow,Nat.testBit_div_two_pow,Nat.add_comm]
theorem qd0(m i j:Nat)(hi:i<32):zO (m%2^(8*(i+1))) j=if j=i/8 then zO (m%2^(8*i)) j|||m/2^(8*i)%256*2^(8*(i%8))else zO (m%2^(8*i)) j:=by
 have e256:(256:Nat)=2^8:=rfl
 apply Nat.eq_of_testBit_eq
 intro x
 by_cases hj:j=i/8
 ·rw[if_pos hj,qb6,Nat.testBit_or,qb6,Nat.testBit_mul_two_pow,e256,Nat.testBit_mod_two_pow,Nat.testBit_mod_two_pow,Nat.testBit_mod_two_pow,Nat.testBit_div_two_pow]
  by_cases h1:x<8*(i%8)
  ·have a1:x<64:=by omega
   have a2:64*j+x<8*(i+1):=by omega
   have a3:64*j+x<8*i:=by omega
   have a4:¬(8*(i%8)<=x):=by omega
   simp[a1,a2,a3,a4]
  ·by_cases h2:x<8*(i%8)+8
   ·have a1:x<64:=by omega
    have a2:64*j+x<8*(i+1):=by omega
    have a3:¬(64*j+x<8*i):=by omega
    have a4:8*(i%8)<=x:=by omega
    have a5:x-8*(i%8)<8:=by omega
    have a6:x-8*(i%8)+8*i=64*j+x:=by omega
    simp[a1,a2,a3,a4,a5,a6]
   ·have a2:¬(64*j+x<8*(i+1)):=by omega
    have a3:¬(64*j+x<8*i):=by omega
    have a5:¬(x-8*(i%8)<8):=by omega
    simp[a2,a3,a5]
 ·rw[if_neg hj,qb6,qb6,Nat.testBit_mod_two_pow,Nat.testBit_mod_two_pow]
  by_cases h1:x<64
  ·have a:decide (64*j+x<8*(i+1))=decide (64*j+x<8*i):=by
    by_cases h:64*j+x<8*i
    ·have h':64*j+x<8*(i+1):=by omega
     simp[h,h']
    ·have h':¬(64*j+x<8*(i+1)):=by omega
     simp[h,h']
   rw[a]
  ·simp[h1]
theorem qz6(key m i:Nat)(hi:i<32):qh (Cc (key,m%2^(8*i))) (1+i/8) [.sc (.int .u64 (zO (m%2^(8*i)) (i/8)|||m/2^(8*i)%256*2^(8*(i%8)):Nat))]=some (Cc (key,m%2^(8*(i+1)))):=by
 have h:i/8=0\/i/8=1\/i/8=2\/i/8=3:=by omega
 have w:=fun j=>qd0 m i j hi
 have e:Cc (key,m%2^(8*(i+1)))=[.sc (.int .u32 (key:Int)),.sc (.int .u64 (zO (m%2^(8*(i+1))) 0:Nat)),.sc (.int .u64 (zO (m%2^(8*(i+1))) 1:Nat)),.sc (.int .u64 (zO (m%2^(8*(i+1))) 2:Nat)),.sc (.int .u64 (zO (m%2^(8*(i+1))) 3:Nat))]:=rfl
 rw[e,w 0,w 1,w 2,w 3]
 rcases h with h|h|h|h<;>rw[h]<;>rfl
theorem zb5(m:Nat):∀(f i j:Nat),j<f->(jX m f i)[j]?=some ((m/2^(8*(i+j))%256:Nat):Int):=by
 intro f
 induction f with
 |zero=>intro i j h;omega
 |succ f ih=>
  intro i j h
  cases j with
  |zero=>rfl
  |succ j=>
   have:=ih (i+1) j (by omega)
   have e:i+1+j=i+(j+1):=by omega
   rw[e]at this
   exact this
theorem qny(b ob t key m:Nat)(b2:List AV):∀(g i:Nat) (hp:Hp),i+g=32->hp.rd ob 0=some (Cc (key,m%2^(8*i)))->
 B94_9 (.ptr b 0 0) (.ptr ob 0 0) (.int .u8 1) (S t 1 (LI .u8 (jX m 32 0))) (.int .i64 32) (.int .i64 (i:Int)) b2 hp=B94_15 (.ptr b 0 0) (.ptr ob 0 0) (.int .u8 1) b2 (hp.put ob 0 (Cc (key,m%2^256))):=by
 intro g
 induction g with
 |zero=>
  intro i hp hi hc
  have e:i=32:=by omega
  subst e
  have hc:hp.rd ob 0=some (Cc (key,m%2^256)):=hc
  rw[zE hc,qho]
  simp
 |succ g ih=>
  intro i hp hi hc
  have i2:=ih (i+1) (hp.put ob 0 (Cc (key,m%2^(8*(i+1))))) (by omega) (qi _ _ _)
  rw[qp]at i2
  have pb:=qz6 key m i (by omega)
  have hlt:(i:Int)<32:=by omega
  have gb:=zb5 m 32 0 i (by omega)
  rw[Nat.zero_add]at gb
  have hB:m/2^(8*i)%256<256:=Nat.mod_lt _ (by decide)
  have gw:=Jy (key,m%2^(8*i)) (i/8) (by omega)
  have hw:=Zl (m%2^(8*i)) (i/8)
  simp only at gw
  have hs:2^(8*(i%8))<=2^56:=Nat.pow_le_pow_right (by decide) (by omega)
  have e56:(2:Nat)^56=72057594037927936:=rfl
  have sl:=qec (m/2^(8*i)%256) (8*(i%8)) (by omega) (Nat.lt_of_le_of_lt (Nat.mul_le_mul (Nat.le_of_lt_succ hB) hs) (by omega))
  have hz:m/2^(8*i)%256*2^(8*(i%8))<18446744073709551616:=Nat.lt_of_le_of_lt (Nat.mul_le_mul (Nat.le_of_lt_succ hB) hs) (by omega)
  have o:=zd4 _ _ hw hz
  have q8:=qc1 i (by omega)
  have r8:=qcz i
  have w1:IntKind.i64.wrap (8*((i%8:Nat):Int))=((8*(i%8):Nat):Int):=by rw[qf]<;>omega
  have w2:IntKind.u64.wrap ((m/2^(8*i)%256:Nat):Int)=((m/2^(8*i)%256:Nat):Int):=qn (by omega) (by omega)
  have w3:IntKind.i64.wrap ((i:Int)+1)=((i+1:Nat):Int):=by rw[qf]<;>omega
  have ix:idx 4 (.int .i64 ((i/8:Nat):Int))=some (i/8):=qU .i64 (by omega)
  have ge:yw 1 (S t 1 (LI .u8 (jX m 32 0))) (.int .i64 (i:Int))=some [.sc (.int .u8 ((m/2^(8*i)%256:Nat):Int))]:=by
   rw[qkw,if_pos (by omega),Int.toNat_natCast,VE?,gb];rfl
  rw[<-i2,qho]
  have gp:∀a b c,qN (AV.ptr a b c)=some (a,b,c):=fun _ _ _=>rfl
  have gs0:∀(v:Value),qe [.sc v] 0=some v:=fun _=>rfl
  have en:Nat.add (Nat.succ 0) (Nat.add 0 (i/8))=1+i/8:=by show Nat.succ 0+(0+i/8)=1+i/8;omega
  have en':Nat.add 1 (Nat.add 0 (i/8))=1+i/8:=by show 1+(0+i/8)=1+i/8;omega
  rw[en']at gw
  generalize((zO (m%2^(8*i)) (i/8)|||m/2^(8*i)%256*2^(8*(i%8)):Nat):Int)=WO at*
  generalize((zO (m%2^(8*i)) (i/8):Nat):Int)=W0 at*
  generalize((m/2^(8*i)%256*2^(8*(i%8)):Nat):Int)=BS at*
  generalize((m/2^(8*i)%256:Nat):Int)=BB at*
  generalize((8*(i%8):Nat):Int)=SH at*
  generalize((i%8:Nat):Int)=I8 at*
  generalize((i/8:Nat):Int)=J8 at*
  generalize((i+1:Nat):Int)=I1 at*
  generalize Cc (key,m%2^(8*i))=C0 at*
  generalize Cc (key,m%2^(8*(i+1)))=C1 at*
  simp only[Zj,Qx,hlt,decide_true,jt,Option.bind_some,cond_true,ge,gs0,show Int.ofNat 8=8 from rfl,show Int.ofNat 1=1 from rfl,q8,gp,ix,hc,en,gw,zbs,w2,r8,JI,w1,sl,o,pb,jH,w3]
abbrev Z5:List AV:=[.sc (.int .u32 0),.sc (.int .u64 0),.sc (.int .u64 0),.sc (.int .u64 0),.sc (.int .u64 0)]
theorem qnx(b k:Nat)(l:List Int)(p ob:Nat)(c:Nat×Nat)(hc:okC c)(hp:Hp)(hr:hp.rd b 0=some (Rc k l p 0))(hob:hp.rd ob 0=some (Cc c)):
 B94_15 (.ptr b 0 0) (.ptr ob 0 0) (.int .u8 (kind c.2:Nat)) Z5 hp=some (.agg (Cc c),hp):=by
 have er:=zH b k l p 0 hp hr
 have mn:=Je c hp0
 have bs:=qe3 c hp0
 have gp:∀a b c,qN (AV.ptr a b c)=some (a,b,c):=fun _ _ _=>rfl
 have ps:=zE hob
 have hn:¬((zo c.2 256:Nat):Int)=0:=by have:=hc.2.2;omega
 rw[qq7]
 unfold Cc at*
 unfold Z5 at*
 generalize((zo c.2 256:Nat):Int)=PN at*
 generalize((kind c.2:Nat):Int)=KI at*
 generalize((zO c.2 0:Nat):Int)=W0 at*
 generalize((zO c.2 1:Nat):Int)=W1 at*
 generalize((zO c.2 2:Nat):Int)=W2 at*
 generalize((zO c.2 3:Nat):Int)=W3 at*
 generalize(c.1:Int)=W9 at*
 simp[er,gp,hob,ql,mn,hn,bs,qq6,qh,qg,ps]
section
variable (b k:Nat)(l:List Int)(hl:l.length<=1000000000)(ob:Nat)(hob:ob≠b)(key m:Nat)(hm:m<2^256)(h0:0<zo m 256)
include hl hob hm h0
theorem qi6(rest:List Int)(p:Nat)(hp:Hp)(hd:l.drop p=((zo m 256-1:Nat):Int)::jZ m 256 0++rest)(h32:zo m 256<=256)(hpl:p<=l.length)(hr:hp.rd b 0=some (Rc k l p 0))(hc:hp.rd ob 0=some (Cc (key,0))):
 ∃hp',run cxX 144 [.ptr ob 0 0,.ptr b 0 0] hp=some (.tup [],hp')/\hp'.rd b 0=some (Rc k l (p+1+(jZ m 256 0).length) 0)/\hp'.rd ob 0=some (Cc (key,m))/\hp'.next=hp.next/\∀a,a≠b->a≠ob->hp'.get a=hp.get a:=by
 have tb:=zM b k l hl hd hp hpl hr
 obtain⟨_,d0,hi0,_⟩:=qm hd
 have e0:m%2^0=0:=Nat.mod_one m
 have em:m%2^256=m:=Nat.mod_eq_of_lt hm
 obtain⟨hp2,a1,a2,a3,a4,a5⟩:=qnz b k l hl ob hob key m (zo m 256) h32 rest 256 0 (p+1) 0 (-1) (hp.put b 0 (Rc k l (p+1) 0)) rfl (by rw[Yw,Nat.zero_add]) (by omega) (by omega) d0 (by omega) (qi _ _ _) (by rw[e0,qv _ _ hob];exact hc)
 rw[em]at a3
 refine⟨hp2,?_,a2,a3,by rw[a4];rfl,fun a c1 c2=>by rw[a5 a c1 c2];simp[Hp.put,c1,c2]⟩
 have w1:IntKind.i64.wrap ((zo m 256-1:Nat):Int)=((zo m 256-1:Nat):Int):=qf (by omega) (by omega)
 have w2:IntKind.i64.wrap (((zo m 256-1:Nat):Int)+1)=((zo m 256:Nat):Int):=by rw[qf]<;>omega
 have a1':B144_2 (.ptr ob 0 0) (.ptr b 0 0) (.int .i64 (Int.negSucc 0)) (.int .i64 ((zo m 256:Nat):Int)) (.int .i64 0) (hp.put b 0 (Rc k l (p+1) 0))=some (.tup [],hp2):=a1
 rw[E144]
 generalize hp.put b 0 (Rc k l (p+1) 0)=H1 at*
 generalize((zo m 256-1:Nat):Int)=P1 at*
 generalize((zo m 256:Nat):Int)=P2 at*
 simp at a1'
 simp[tb,yN,w1,w2,a1']
theorem qn8(rest:List Int)(p:Nat)(hp:Hp)(hd:l.drop p=((jh m 256-1:Nat):Int)::xD m 256 0++rest)(h32:jh m 256<=256)(hpl:p<=l.length)(hr:hp.rd b 0=some (Rc k l p 0))(hc:hp.rd ob 0=some (Cc (key,0))):
 ∃hp',run cxX 145 [.ptr ob 0 0,.ptr b 0 0] hp=some (.tup [],hp')/\hp'.rd b 0=some (Rc k l (p+1+(xD m 256 0).length) 0)/\hp'.rd ob 0=some (Cc (key,m))/\hp'.next=hp.next/\∀a,a≠b->a≠ob->hp'.get a=hp.get a:=by
 have tb:=zM b k l hl hd hp hpl hr
 obtain⟨_,d0,hi0,_⟩:=qm hd
 have e0:m%2^0=0:=Nat.mod_one m
 have em:m%2^256=m:=Nat.mod_eq_of_lt hm
 have rp:=Xi h0
 obtain⟨hp2,a1,a2,a3,a4,a5⟩:=qnu b k l hl ob hob key m (jh m 256) h32 rest 256 0 (p+1) 0 (-2) (hp.put b 0 (Rc k l (p+1) 0)) (by omega) (by omega) (by rw[kj];omega) (by omega) (by omega) (fun _ _=>by omega) d0 (by omega) (qi _ _ _) (by rw[e0,qv _ _ hob];exact hc)
 rw[em]at a3
 refine⟨hp2,?_,a2,a3,by rw[a4];rfl,fun a c1 c2=>by rw[a5 a c1 c2];simp[Hp.put,c1,c2]⟩
 have w1:IntKind.i64.wrap ((jh m 256-1:Nat):Int)=((jh m 256-1:Nat):Int):=qf (by omega) (by omega)
 have w2:IntKind.i64.wrap (((jh m 256-1:Nat):Int)+1)=((jh m 256:Nat):Int):=by rw[qf]<;>omega
 have a1':B145_2 (.ptr ob 0 0) (.ptr b 0 0) (.int .i64 (Int.negSucc 1)) (.int .i64 ((jh m 256:Nat):Int)) (.int .i64 0) (hp.put b 0 (Rc k l (p+1) 0))=some (.tup [],hp2):=a1
 rw[E145]
 generalize hp.put b 0 (Rc k l (p+1) 0)=H1 at*
 generalize((jh m 256-1:Nat):Int)=P1 at*
 generalize((jh m 256:Nat):Int)=P2 at*
 simp at a1'
 simp[tb,yN,w1,w2,a1']
end
theorem qi5(b k:Nat)(l:List Int)(hl:l.length<=1000000000)(h8:By l)(c:Nat×Nat)(hc:okC c)(rest:List Int)(p:Nat)(hp:Hp)(hd:l.drop p=jW c++rest)(hpl:p<=l.length)(hb:b<hp.next)(hr:hp.rd b 0=some (Rc k l p 0)):
 ∃hp',run cxX 94 [.ptr b 0 0] hp=some (.agg (Cc c),hp')/\hp'.rd b 0=some (Rc k l (p+(jW c).length) 0)/\hp'.next=hp.next+1/\∀a,a<hp.next->a≠b->hp'.get a=hp.get a:=by
 obtain⟨key,m⟩:=c
 obtain⟨ck,cm,c0⟩:=hc
 simp only at ck cm c0
 have ey:jW (key,m)++rest=uv key++(((kind m:Nat):Int)::(wJ m++rest)):=by unfold jW;simp
 have el:(jW (key,m)).length=(uv key).length+1+(wJ m).length:=by unfold jW;simp;omega
 rw[ey]at hd
 have t0:=zL b k l hl h8 (most:=16777215) hd (by omega) (by omega) hp hpl hr
 have d0:=qZ hd
 have q0:=zp hpl hd
 obtain⟨_,d1,hi1,_⟩:=qm d0
 have hne:hp.next≠b:=by omega
 have hp256:=kr m 256
 have hr256:=Zv m 256
 let H0:Hp:=((hp.put b 0 (Rc k l (p+(uv key).length) 0)).new Z5).put hp.next 0 (Cc (key,0))
 have H0b:H0.rd b 0=some (Rc k l (p+(uv key).length) 0):=by
  show(((hp.put b 0 _).new Z5).put hp.next 0 _).rd b 0=_
  rw[qv _ _ (fun e=>hne e.symm),zX _ _ (show b≠(hp.put b 0 _).next from fun e=>hne e.symm),qi]
 have H0c:H0.rd hp.next 0=some (Cc (key,0)):=qi _ _ _
 have t1:=zM b k l hl d0 H0 q0 H0b
 generalize eP1:p+(uv key).length+1=P1 at*
 let H1:Hp:=H0.put b 0 (Rc k l P1 0)
 have H1b:H1.rd b 0=some (Rc k l P1 0):=qi _ _ _
 have H1c:H1.rd hp.next 0=some (Cc (key,0)):=by show(H0.put b 0 _).rd hp.next 0=_;rw[qv _ _ hne];exact H0c
 have H1n:H1.next=hp.next+1:=rfl
 have H1f:∀a,a<hp.next->a≠b->H1.get a=hp.get a:=fun a h1 h2=>by
  have h3:a≠hp.next:=by omega
  simp[H1,H0,Hp.put,Hp.new,h2,h3]
 have key':∃hp',hp'.rd b 0=some (Rc k l (P1+(wJ m).length) 0)/\hp'.rd hp.next 0=some (Cc (key,m))/\hp'.next=H1.next/\(∀a,a≠b->a≠hp.next->hp'.get a=H1.get a)/\
  run cxX 94 [.ptr b 0 0] hp=B94_15 (.ptr b 0 0) (.ptr hp.next 0 0) (.int .u8 (kind m:Nat)) Z5 hp':=by
  have hk:=Js m
  have hAn:(hp.put b 0 (Rc k l (p+(uv key).length) 0)).next=hp.next:=rfl
  have hAr:((hp.put b 0 (Rc k l (p+(uv key).length) 0)).new Z5).rd hp.next 0=some Z5:=qz (hp.put b 0 _) _
  have pz:qh Z5 0 [.sc (.int .u32 (key:Int)),.sc (.int .u64 0),.sc (.int .u64 0),.sc (.int .u64 0),.sc (.int .u64 0)]=some (Cc (key,0)):=by
   unfold Cc
   simp only[Xw]
   rfl
  have w1:IntKind.u32.wrap (key:Int)=(key:Int):=qD (by omega) (by omega)
  have lit:((16777215:Nat):Int)=16777215:=rfl
  rw[lit]at t0
  have kk:kind m=0\/kind m=1\/kind m=2:=by omega
  have fold:((hp.put b 0 (Rc k l (p+(uv key).length) 0)).new Z5).put hp.next 0 (Cc (key,0))=H0:=rfl
  have foldH1:H0.put b 0 (Rc k l P1 0)=H1:=rfl
  rw[foldH1]at t1
  rcases kk with e|e|e
  ·have eb:wJ m=((zo m 256-1:Nat):Int)::jZ m 256 0:=by unfold wJ;rw[if_pos e]
   have ebl:P1+(wJ m).length=P1+1+(jZ m 256 0).length:=by rw[eb,List.length_cons];omega
   rw[eb]at d1
   obtain⟨hp2,a1,a2,a3,a4,a5⟩:=qi6 b k l hl hp.next hne key m cm c0 rest P1 H1 d1 hp256 (by omega) H1b H1c
   rw[<-ebl]at a2
   refine⟨hp2,a2,a3,a4,a5,?_⟩
   rw[e]at t1⊢
   rw[E94]
   clear_value H0 H1
   generalize hp.put b 0 (Rc k l (p+(uv key).length) 0)=HA at*
   generalize Cc (key,0)=C0 at*
   simp[t0,jy,w1,hAn,hAr,pz,fold,t1,a1]
  ·have eb:wJ m=jX m 32 0:=by unfold wJ;rw[if_neg (by omega),if_pos e]
   rw[eb]at d1⊢
   obtain⟨t,a1⟩:=ke b k l hl d1 H1 (by omega) H1b
   rw[qg2]at a1⊢
   have e0:m%2^(8*0)=0:=Nat.mod_one m
   have em:m%2^256=m:=Nat.mod_eq_of_lt cm
   have a2:=qny b hp.next t key m Z5 32 0 (H1.put b 0 (Rc k l (P1+32) 0)) rfl (by rw[e0,qv _ _ hne];exact H1c)
   rw[em]at a2
   refine⟨(H1.put b 0 (Rc k l (P1+32) 0)).put hp.next 0 (Cc (key,m)),?_,qi _ _ _,rfl,fun a h1 h2=>?_,?_⟩
   ·rw[qv _ _ (fun e=>hne e.symm),qi]
   ·simp[Hp.put,h1,h2]
   have o1:((1:Nat):Int)=1:=rfl
   rw[e,o1]at t1⊢
   rw[<-a2,E94]
   clear_value H0 H1
   generalize hp.put b 0 (Rc k l (p+(uv key).length) 0)=HA at*
   generalize Cc (key,0)=C0 at*
   generalize H1.put b 0 (Rc k l (P1+32) 0)=H2 at*
   simp at a1
   simp[t0,jy,w1,hAn,hAr,pz,fold,t1,a1]
  ·have eb:wJ m=((jh m 256-1:Nat):Int)::xD m 256 0:=by unfold wJ;rw[if_neg (by omega),if_neg (by omega)]
   have ebl:P1+(wJ m).length=P1+1+(xD m 256 0).length:=by rw[eb,List.length_cons];omega
   rw[eb]at d1
   obtain⟨hp2,a1,a2,a3,a4,a5⟩:=qn8 b k l hl hp.next hne key m cm c0 rest P1 H1 d1 (by omega) (by omega) H1b H1c
   rw[<-ebl]at a2
   refine⟨hp2,a2,a3,a4,a5,?_⟩
   rw[e]at t1⊢
   rw[E94]
   clear_value H0 H1
   generalize hp.put b 0 (Rc k l (p+(uv key).length) 0)=HA at*
   generalize Cc (key,0)=C0 at*
   simp[t0,jy,w1,hAn,hAr,pz,fold,t1,a1]
 obtain⟨hp2,a2,a3,a4,a5,a6⟩:=key'
 have t15:=qnx b k l _ hp.next (key,m) ⟨ck,cm,c0⟩ hp2 a2 a3
 refine⟨hp2,by rw[a6];exact t15,?_,by rw[a4,H1n],fun a h1 h2=>by rw[a5 a h2 (by omega),H1f a h1 h2]⟩
 rw[a2,el]
 congr 2
 omega
theorem zfl(cs:List (Nat×Nat))(c:Nat×Nat)(h:cs.length<=100000):zZ 40 5 (S 2 5 (csL cs)) (S 1 5 (Cc c))=some (S 2 5 (csL (cs++[c]))):=by
 have e:csL (cs++[c])=csL cs++Cc c:=by rw[JE];simp[csL]
 rw[e]
 exact ZP 40 5 2 _ _ 1 (.inr rfl) (show qhm (Cc c)from rfl) (.inr (yo (by decide) (by rw[yp];simp;omega)))
theorem qth(b k:Nat)(l:List Int)(p:Nat)(cs:List (Nat×Nat))(hl:cs.length<=4096)(c:Nat×Nat)(T n:Nat)(hT:T+zo c.2 256<=4096)(hp:Hp):
 B43_11 (.ptr b 0 0) (S 2 5 (csL cs)) (.int .i64 (T:Int)) (.int .u64 (n:Int)) (.int .u64 (cs.length:Int)) (Cc c) hp=
  B43_5 (.ptr b 0 0) (S 2 5 (csL (cs++[c]))) (.int .i64 ((T+zo c.2 256:Nat):Int)) (.int .u64 (n:Int)) (.int .u64 ((cs.length+1:Nat):Int)) hp:=by
 have mn:=Je c hp0
 have ap:=zfl cs c (by omega)
 have w1:IntKind.i64.wrap ((T:Int)+((zo c.2 256:Nat):Int))=((T+zo c.2 256:Nat):Int):=by rw[qf]<;>omega
 have w2:IntKind.u64.wrap ((cs.length:Int)+1)=((cs.length+1:Nat):Int):=by rw[qn]<;>omega
 have h4:¬((4096:Int)<((T+zo c.2 256:Nat):Int)):=by omega
 rw[qrl]
 generalize((T+zo c.2 256:Nat):Int)=T2 at*
 generalize((cs.length+1:Nat):Int)=T3 at*
 generalize csL (cs++[c])=L2 at*
 generalize csL cs=L1 at*
 unfold Cc at*
 generalize((zo c.2 256:Nat):Int)=PN at*
 generalize((zO c.2 0:Nat):Int)=W0 at*
 generalize((zO c.2 1:Nat):Int)=W1 at*
 generalize((zO c.2 2:Nat):Int)=W2 at*
 generalize((zO c.2 3:Nat):Int)=W3 at*
 generalize(c.1:Int)=W9 at*
 simp[ql,mn,w1,h4,qrk,qg,qh,xx,ap,w2]
theorem qjv(cs:List (Nat×Nat))(i:Nat)(c d:Nat×Nat)(h:zi (cs.map (·.1)))(h1:cs[i]?=some c) (h2:cs[i+1]?=some d):c.1<d.1:=by
 have hi:=(List.getElem?_eq_some_iff.mp h2).1
 have:=kn _ h i (by simpa using hi)
 rw[List.getD_eq_getElem?_getD,List.getD_eq_getElem?_getD,List.getElem?_map,List.getElem?_map,h1,h2]at this
 exact this
section
variable (b k:Nat)(l:List Int)(hl:l.length<=1000000000)(h8:By l)(cs:List (Nat×Nat))(hcs:∀c∈cs,okC c)(hcl:cs.length<=4096)(htot:Zm cs<=4096)(hri:zi (cs.map (·.1)))
include hl h8 hcs hcl htot hri
theorem qix(rest:List Int):∀(r:List (Nat×Nat)) (i p:Nat) (hp:Hp),cs.drop i=r->i<=cs.length->l.drop p=vu r++rest->p<=l.length->b<hp.next->hp.rd b 0=some (Rc k l p 0)->
 ∃hp',B43_5 (.ptr b 0 0) (S 2 5 (csL (cs.take i))) (.int .i64 (Zm (cs.take i):Nat)) (.int .u64 (cs.length:Int)) (.int .u64 (i:Int)) hp=some (S 2 5 (csL cs),hp')/\hp'.rd b 0=some (Rc k l (p+(vu r).length) 0)/\hp.next<=hp'.next/\∀a,a<hp.next->a≠b->hp'.get a=hp.get a:=by
 intro r
 induction r with
 |nil=>
  intro i p hp h hil hd hpl hb hr
  have h1:=qB h
  have e:i=cs.length:=by omega
  subst e
  have er:=zH b k l p 0 hp hr
  rw[List.take_length]
  refine⟨hp,?_,by simpa[vu]using hr,Nat.le_refl _,fun _ _ _=>rfl⟩
  rw[Vg]
  generalize((Zm cs:Nat):Int)=TT
  simp[qap,er]
 |cons c r ih=>
  intro i p hp h hil hd hpl hb hr
  obtain⟨e1,e2,hi,e3⟩:=qm h
  have er0:vu (c::r)=jW c++vu r:=rfl
  rw[er0,List.append_assoc]at hd
  rw[er0,List.length_append,<-Nat.add_assoc]
  have hcc:=hcs c (List.mem_of_getElem? e1)
  have er:=zH b k l p 0 hp hr
  obtain⟨hp2,t1,t2,t3,t4⟩:=qi5 b k l hl h8 c hcc _ p hp hd hpl hb hr
  have hd2:=qZ hd
  have hpl2:=zp hpl hd
  obtain⟨hp3,a1,a2,a3,a4⟩:=ih (i+1) (p+(jW c).length) hp2 e2 hi hd2 hpl2 (by omega) t2
  refine⟨hp3,?_,a2,by omega,fun a h1 h2=>by rw[a4 a (by omega) h2,t4 a h1 h2]⟩
  have et:cs.take (i+1)=cs.take i++[c]:=by rw[List.take_add_one,e1];rfl
  have etl:(cs.take i).length=i:=by simp;omega
  have ett:Zm (cs.take (i+1))=Zm (cs.take i)+zo c.2 256:=by rw[et,ql6];rfl
  have etot:Zm (cs.take (i+1))<=Zm cs:=by
   have:=ql6 (cs.take (i+1)) (cs.drop (i+1))
   rw[List.take_append_drop]at this
   omega
  have b11:=qth b k l (p+(jW c).length) (cs.take i) (by omega) c (Zm (cs.take i)) cs.length (by omega) hp2
  rw[etl,<-et,<-ett,a1]at b11
  have er2:=zH b k l (p+(jW c).length) 0 hp2 t2
  have hlt:(i:Int)<(cs.length:Int):=by omega
  have ln:∀k',yH (S k' 5 (csL (cs.take i)))=some i:=fun k'=>by rw[qkq,etl]
  have b7:B43_7 (.ptr b 0 0) (S 2 5 (csL (cs.take i))) (.int .i64 (Zm (cs.take i):Nat)) (.int .u64 (cs.length:Int)) (.int .u64 (i:Int)) hp=some (S 2 5 (csL cs),hp3):=by
   rw[<-b11,qys]
   have c5:qg 5 (.agg (Cc c))=some (Cc c):=rfl
   have pz:qh Z5 0 (Cc c)=some (Cc c):=rfl
   have gs:qe (Cc c) 0=some (.int .u32 (c.1:Int)):=rfl
   unfold Z5 at pz
   by_cases h0:i=0
   ·subst h0
    generalize((Zm (cs.take 0):Nat):Int)=TT at*
    generalize csL (cs.take 0)=L0 at*
    generalize Cc c=C at*
    simp[t1,c5,pz,ln]
   ·obtain⟨d,hd1⟩:∃d,cs[i-1]?=some d:=⟨_,List.getElem?_eq_getElem (by omega)⟩
    have hkd:=qjv cs (i-1) d c hri hd1 (by rw[show i-1+1=i by omega];exact e1)
    have hd2:(cs.take i)[i-1]?=some d:=by rw[List.getElem?_take,if_pos (by omega)];exact hd1
    have ix:∀k',yw 5 (S k' 5 (csL (cs.take i))) (.int .i64 ((i-1:Nat):Int))=some (Cc d):=fun k'=>qkx k' _ _ _ hd2
    have gs2:qe (Cc d) 0=some (.int .u32 (d.1:Int)):=rfl
    have w1:IntKind.i64.wrap ((i:Int)-1)=((i-1:Nat):Int):=by rw[qf]<;>omega
    have hpos:(0:Int)<(i:Int):=by omega
    have hle:¬((c.1:Int)<=(d.1:Int)):=by omega
    generalize((Zm (cs.take i):Nat):Int)=TT at*
    generalize csL (cs.take i)=L0 at*
    generalize((i-1:Nat):Int)=I1 at*
    generalize(c.1:Int)=K1 at*
    generalize(d.1:Int)=K2 at*
    generalize Cc c=C at*
    generalize Cc d=D at*
    have hpos':0<i:=by omega
    simp[t1,c5,pz,ln,hpos',er2,gs,w1,ix,gs2,hle]
  rw[Vg]
  generalize((Zm (cs.take i):Nat):Int)=TT at*
  generalize csL (cs.take i)=L0 at*
  have hlt':i<cs.length:=hi
  simp[hlt',er,b7]
end
theorem qco(b k:Nat)(l:List Int)(hl:l.length<=1000000000)(h8:By l)(cs:List (Nat×Nat))(hcs:∀c∈cs,okC c)(hcl:cs.length<=4096)(htot:Zm cs<=4096)(hri:zi (cs.map (·.1)))(p:Nat)(rest:List Int)(hd:l.drop p=vx cs++rest)(hp:Hp)(hpl:p<=l.length)(hb:b<hp.next)(hr:hp.rd b 0=some (Rc k l p 0)):
 ∃hp',run cxX 43 [.ptr b 0 0] hp=some (S 2 5 (csL cs),hp')/\hp'.rd b 0=some (Rc k l (p+(vx cs).length) 0)/\hp.next<=hp'.next/\∀a,a<hp.next->a≠b->hp'.get a=hp.get a:=by
 have ey:vx cs++rest=uv cs.length++(vu cs++rest):=by unfold vx;simp
 have el:(vx cs).length=(uv cs.length).length+(vu cs).length:=by unfold vx;simp
 rw[ey]at hd
 have t0:=zL b k l hl h8 (most:=4096) hd (by omega) (by omega) hp hpl hr
 have d0:=qZ hd
 have q0:=zp hpl hd
 obtain⟨hp2,a1,a2,a3,a4⟩:=qix b k l hl h8 cs hcs hcl htot hri rest cs 0 _ (hp.put b 0 (Rc k l (p+(uv cs.length).length) 0)) rfl (Nat.zero_le _) d0 q0 hb (qi _ _ _)
 refine⟨hp2,?_,by rw[a2,el,Nat.add_assoc],a3,fun a h1 h2=>by rw[a4 a h1 h2];simp[Hp.put,h2]⟩
 have lit:((4096:Nat):Int)=4096:=rfl
 rw[lit]at t0
 have a1':B43_5 (.ptr b 0 0) (S 2 1 []) (.int .i64 0) (.int .u64 (cs.length:Int)) (.int .u64 0) (hp.put b 0 (Rc k l (p+(uv cs.length).length) 0))=some (S 2 5 (csL cs),hp2):=a1
 rw[E43]
 simp[t0,a1']
section
variable (cs:List (Nat×Nat))(k:Nat)(hcs:∀c∈cs,okC c)(hcl:cs.length<=4096)
include hcs hcl
omit hcs in
theorem qtt(i:Nat)(hi:i<cs.length)(c:Nat×Nat)(hc:okC c)(hp:Hp):∀(f j:Nat) (acc:List Nat),j+f=256->acc.length+f<=900000->
 B44_6 (S 2 1 (LI .u32 (nz acc))) (S k 5 (csL cs)) (.int .i64 (cs.length:Int)) (.int .i64 (i:Int)) (.int .i64 (j:Int)) (Cc c) hp=
  B44_3 (S 2 1 (LI .u32 (nz (acc++Xb c.1 c.2 f j)))) (S k 5 (csL cs)) (.int .i64 (cs.length:Int)) (.int .i64 ((i+1:Nat):Int)) hp:=by
 intro f
 induction f with
 |zero=>
  intro j acc hj ha
  have e:j=256:=by omega
  subst e
  have e2:acc++Xb c.1 c.2 0 256=acc:=by simp[Xb]
  have w1:IntKind.i64.wrap ((i:Int)+1)=((i+1:Nat):Int):=by rw[qf]<;>omega
  rw[e2,Ve]
  generalize((i+1:Nat):Int)=I1 at*
  generalize nz acc=L0 at*
  simp[w1]
 |succ f ih=>
  intro j acc hj ha
  have hs:=Qe c j (by omega) hp0
  have hlt:(j:Int)<256:=by omega
  have w1:IntKind.i64.wrap ((j:Int)+1)=((j+1:Nat):Int):=by rw[qf]<;>omega
  have w2:IntKind.u8.wrap (j:Int)=(j:Int):=qT (by omega) (by omega)
  have w3:IntKind.u32.wrap (j:Int)=(j:Int):=qD (by omega) (by omega)
  have g5:ql (Cc c) 0 5=some (Cc c):=rfl
  have gs:qe (Cc c) 0=some (.int .u32 (c.1:Int)):=rfl
  have rm:(Cc c).map ro1=Cc c:=rfl
  by_cases hb:c.2.testBit j=true
  ·have e2:acc++Xb c.1 c.2 (f+1) j=acc++[c.1*256+j]++Xb c.1 c.2 f (j+1):=by rw[Xb,if_pos hb];simp
   have i2:=ih (j+1) (acc++[c.1*256+j]) (by omega) (by simp;omega)
   have ap:=ZO .u32 (nz acc) 2 (.inr rfl) 4 (by decide) ((c.1*256+j:Nat):Int) (by simp;omega)
   have hk:=hc.1
   have sl:∀t o o',qr Tryz.prog .shl t o o' (.int .u32 (c.1:Int)) (.int .u64 8)=some (.int .u32 ((c.1*256:Nat):Int)):=by
    intro t o o'
    rw[zF _ _ _ _ _ _ _ _ (by omega)]
    have e:(2:Int)^min (8:Int).toNat IntKind.u32.bits=256:=rfl
    rw[e,qD (by omega) (by omega)]
    rfl
   have o:∀t x y,qr Tryz.prog .or t x y (.int .u32 ((c.1*256:Nat):Int)) (.int .u32 (j:Int))=some (.int .u32 ((c.1*256+j:Nat):Int)):=by
    intro t x y
    rw[zG]
    have e:(BitVec.ofInt IntKind.u32.bits ((c.1*256:Nat):Int)|||BitVec.ofInt IntKind.u32.bits (j:Int)).toNat=c.1*256+j:=by
     show(BitVec.ofInt 32 ((c.1*256:Nat):Int)|||BitVec.ofInt 32 (j:Int)).toNat=_
     rw[BitVec.toNat_or,BitVec.toNat_ofInt,BitVec.toNat_ofInt]
     have e1:(((c.1*256:Nat):Int)%((2^32:Nat):Int)).toNat=2^8*c.1:=by omega
     have e2:((j:Int)%((2^32:Nat):Int)).toNat=j:=by omega
     rw[e1,e2,<-Nat.two_pow_add_eq_or_of_lt (by omega) c.1]
     omega
    rw[e,qD (by omega) (by omega)]
   rw[<-vi]at ap
   rw[e2,<-i2,Ve]
   generalize((c.1*256:Nat):Int)=Q1 at*
   generalize((c.1*256+j:Nat):Int)=Q2 at*
   generalize((j+1:Nat):Int)=I1 at*
   generalize nz (acc++[c.1*256+j])=L1 at*
   generalize nz acc=L0 at*
   unfold Cc at*
   generalize((zO c.2 0:Nat):Int)=W0 at*
   generalize((zO c.2 1:Nat):Int)=W1 at*
   generalize((zO c.2 2:Nat):Int)=W2 at*
   generalize((zO c.2 3:Nat):Int)=W3 at*
   generalize(c.1:Int)=K1 at*
   simp[hlt,ql,jn,w2,hs,hb,gs,sl,JD,w3,o,xx,ap,qao,w1,-zG]
  ·have e2:acc++Xb c.1 c.2 (f+1) j=acc++Xb c.1 c.2 f (j+1):=by rw[Xb,if_neg hb]
   have i2:=ih (j+1) acc (by omega) (by omega)
   rw[e2,<-i2,Ve]
   generalize((j+1:Nat):Int)=I1 at*
   generalize nz acc=L0 at*
   unfold Cc at*
   generalize((zO c.2 0:Nat):Int)=W0 at*
   generalize((zO c.2 1:Nat):Int)=W1 at*
   generalize((zO c.2 2:Nat):Int)=W2 at*
   generalize((zO c.2 3:Nat):Int)=W3 at*
   generalize(c.1:Int)=K1 at*
   simp[hlt,ql,jn,w2,hs,hb,qao,w1]
theorem qi1(hp:Hp):∀(r:List (Nat×Nat)) (i:Nat) (acc:List Nat),cs.drop i=r->acc.length+Zm r<=800000->i<=cs.length->
 B44_3 (S 2 1 (LI .u32 (nz acc))) (S k 5 (csL cs)) (.int .i64 (cs.length:Int)) (.int .i64 (i:Int)) hp=some (S 2 1 (LI .u32 (nz (acc++lsC r))),hp):=by
 intro r
 induction r with
 |nil=>
  intro i acc h ha hil
  have h1:=qB h
  have e:i=cs.length:=by omega
  subst e
  have e2:acc++lsC []=acc:=by simp[lsC]
  rw[e2,Vf]
  generalize nz acc=L0 at*
  simp
 |cons c r ih=>
  intro i acc h ha hil
  obtain⟨e1,e2,hi,e3⟩:=qm h
  have hcc:=hcs c (List.mem_of_getElem? e1)
  have ll:=za1 c.1 c.2 256 0
  have ll0:zo c.2 0=0:=rfl
  rw[ll0,Nat.zero_add,Nat.add_zero]at ll
  have et:Zm (c::r)=zo c.2 256+Zm r:=rfl
  rw[et]at ha
  have lp:=kr c.2 256
  have si:=qtt cs k hcl i hi c hcc hp 256 0 acc rfl (by omega)
  have i2:=ih (i+1) (acc++Xb c.1 c.2 256 0) e2 (by simp;omega) hi
  have el:acc++lsC (c::r)=acc++Xb c.1 c.2 256 0++lsC r:=by show acc++(Xb c.1 c.2 256 0++lsC r)=_;simp
  rw[i2]at si
  rw[el,<-si,Vf]
  have hlt:(i:Int)<(cs.length:Int):=by omega
  have hlt':i<cs.length:=hi
  have ix:=qkx k cs i c e1
  have g5:ql (Cc c) 0 5=some (Cc c):=rfl
  have c5:qg 5 (.agg (Cc c))=some (Cc c):=rfl
  have pz:qh Z5 0 (Cc c)=some (Cc c):=rfl
  unfold Z5 at pz
  generalize nz acc=L0 at*
  generalize csL cs=L1 at*
  unfold Cc at*
  generalize((zO c.2 0:Nat):Int)=W0 at*
  generalize((zO c.2 1:Nat):Int)=W1 at*
  generalize((zO c.2 2:Nat):Int)=W2 at*
  generalize((zO c.2 3:Nat):Int)=W3 at*
  generalize(c.1:Int)=K1 at*
  simp[hlt',ix,ql,qg,pz]
theorem qob(ht:Zm cs<=4096)(hp:Hp):run cxX 44 [S k 5 (csL cs)] hp=some (S 2 1 (LI .u32 (nz (lsC cs))),hp):=by
 have a:=qi1 cs (rk k) hcs hcl hp cs 0 [] rfl (by simp only[List.length_nil];omega) (Nat.zero_le _)
 have ln:=qkq (rk k) cs
 have a':B44_3 (S 2 1 []) (S (rk k) 5 (csL cs)) (.int .i64 (cs.length:Int)) (.int .i64 0) hp=some (S 2 1 (LI .u32 (nz (lsC cs))),hp):=a
 rw[E44]
 generalize csL cs=L1 at*
 simp[ln,a']
end
abbrev Fu(n last kk:Nat)(T1 T2:AV)(b1 b2 i up:Nat):List AV:=[.sc (.int .i64 (n:Int)),.sc (.int .u32 (last:Int)),.sc (.int .i64 (kk:Int)),T1,T2,.ptr b1 0 0,.ptr b2 0 0,.sc (.int .i64 (i:Int)),.sc (.int .u32 (up:Int))]
theorem qj5(q k g:Nat)(hq:q=g/2^k)(hg:g<4294967296)(t:TypeId)(o o':Operand):qr Tryz.prog .or t o o' (.int .u32 ((q*2^k:Nat):Int)) (.int .u32 ((g%2^k:Nat):Int))=some (.int .u32 (g:Int)):=by
 rw[zG]
 have hmul:g/2^k*2^k<=g:=Nat.div_mul_le_self _ _
 have hmod:g%2^k<=g:=Nat.mod_le _ _
 have hlt:g%2^k<2^k:=Nat.mod_lt _ (Nat.two_pow_pos _)
 have hdm:=Nat.div_add_mod g (2^k)
 have e:(BitVec.ofInt IntKind.u32.bits ((q*2^k:Nat):Int)|||BitVec.ofInt IntKind.u32.bits ((g%2^k:Nat):Int)).toNat=g:=by
  show(BitVec.ofInt 32 ((q*2^k:Nat):Int)|||BitVec.ofInt 32 ((g%2^k:Nat):Int)).toNat=_
  subst hq
  rw[BitVec.toNat_or,BitVec.toNat_ofInt,BitVec.toNat_ofInt]
  have e1:(((g/2^k*2^k:Nat):Int)%((2^32:Nat):Int)).toNat=2^k*(g/2^k):=by rw[Nat.mul_comm (2^k)];omega
  have e2:(((g%2^k:Nat):Int)%((2^32:Nat):Int)).toNat=g%2^k:=by omega
  rw[e1,e2,<-Nat.two_pow_add_eq_or_of_lt hlt (g/2^k)]
  omega
 rw[e,qD (by omega) (by omega)]
theorem qup(n last kk t1 t2:Nat)(A B:List Int)(hp:Hp):
 run cxX 105 [.agg [.sc (.int .i64 (n:Int)),.sc (.int .u32 (last:Int)),.sc (.int .i64 (kk:Int)),S t1 1 (LI .u8 A),S t2 1 (LI .u8 B)]] hp=
  some (.ptr (hp.next+2) 0 0,((hp.new (Rb (rk t1) A 0 false)).new (Rb (rk t2) B 0 false)).new (Fu n last kk (S (rk t1) 1 (LI .u8 A)) (S (rk t2) 1 (LI .u8 B)) hp.next (hp.next+1) 0 0)):=by
 have r1:=QJ (rk t1) A hp
 have r2:=QJ (rk t2) B (hp.new (Rb (rk t1) A 0 false))
 simp only[Wn]at r1 r2
 have n1:(hp.new (Rb (rk t1) A 0 false)).next=hp.next+1:=rfl
 have n2:((hp.new (Rb (rk t1) A 0 false)).new (Rb (rk t2) B 0 false)).next=hp.next+2:=rfl
 rw[n1]at r2
 rw[E105]
 generalize hp.new (Rb (rk t1) A 0 false)=H1 at*
 generalize H1.new (Rb (rk t2) B 0 false)=H2 at*
 simp[qg,ql,qj,r1,r2,qh,n2]
 rfl
section
variable (n last kk t1 t2:Nat)(T1 T2:AV)(A B:List Int)(c b1 b2:Nat)(hkk:kk<=32)(hn:n<=4096)(hlast:last<4294967296)(hq:last/2^kk<=8192)(hA:A.length<=100000000)(hB:B.length<=100000000)(A8:By A)(B8:By B)(h1:c≠b1)(h2:c≠b2)(h12:b1≠b2)
include hkk hn hlast hq hA hB A8 B8 h1 h2 h12
theorem qop(i up x q1 q2:Nat)(hi:i<n)(hx:x<=last)(hup:up<=x/2^kk)(hp:Hp)(h:hp.rd c 0=some (Fu n last kk T1 T2 b1 b2 i up))(r1:hp.rd b1 0=some (Rb t1 A q1 false))(r2:hp.rd b2 0=some (Rb t2 B q2 false))(a1:At A q1 (xE x kk))(a2:At B q2 (una (x/2^kk-up))):
 ∃hp',run cxX 106 [.ptr c 0 0] hp=some (.tup [.sc (.int .u32 (x:Int)),.sc (.bool true)],hp')/\hp'.rd c 0=some (Fu n last kk T1 T2 b1 b2 (i+1) (x/2^kk))/\
  hp'.rd b1 0=some (Rb t1 A (q1+(xE x kk).length) false)/\hp'.rd b2 0=some (Rb t2 B (q2+(una (x/2^kk-up)).length) false)/\hp'.next=hp.next/\∀a,a≠c->a≠b1->a≠b2->hp'.get a=hp.get a:=by
 have hxl:x/2^kk<=last/2^kk:=Nat.div_le_div_right hx
 have hmul:x/2^kk*2^kk<=x:=Nat.div_mul_le_self _ _
 have hmod:x%2^kk<=x:=Nat.mod_le _ _
 have os:=qj5 (x/2^kk) kk x rfl (by omega)
 have l1:=a1.1
 have l2:=a2.1
 rw[qdb]at l1⊢
 rw[ZW]at l2⊢
 have un:=XP b2 t2 B q2 false hp hB B8 (last/2^kk+1) (by omega) (by omega) r2
 rw[qu3 a2 (by omega)]at un
 have e1:q2+(x/2^kk-up)+1=q2+(x/2^kk-up+1):=by omega
 rw[e1]at un
 let H1:=hp.put b2 0 (Rb t2 B (q2+(x/2^kk-up+1)) false)
 have H1c:H1.rd c 0=some (Fu n last kk T1 T2 b1 b2 i up):=by show(hp.put b2 0 _).rd c 0=_;rw[qv _ _ h2];exact h
 let H2:=H1.put c 0 (Fu n last kk T1 T2 b1 b2 i (x/2^kk))
 have H2c:H2.rd c 0=some (Fu n last kk T1 T2 b1 b2 i (x/2^kk)):=qi _ _ _
 have H2b:H2.rd b1 0=some (Rb t1 A q1 false):=by
  show((hp.put b2 0 _).put c 0 _).rd b1 0=_
  rw[qv _ _ (fun e=>h1 e.symm),qv _ _ h12];exact r1
 have tk:=Wl b1 t1 A q1 false H2 hA A8 kk (by omega) (by omega) H2b
 rw[zcl A x kk 0 _ a1,Nat.zero_mul,Nat.zero_add]at tk
 let H3:=H2.put b1 0 (Rb t1 A (q1+kk) false)
 have H3c:H3.rd c 0=some (Fu n last kk T1 T2 b1 b2 i (x/2^kk)):=by show(H2.put b1 0 _).rd c 0=_;rw[qv _ _ h1];exact H2c
 have H3a:H3.rd b1 0=some (Rb t1 A (q1+kk) false):=qi _ _ _
 have H3b:H3.rd b2 0=some (Rb t2 B (q2+(x/2^kk-up+1)) false):=by
  show(((hp.put b2 0 _).put c 0 _).put b1 0 _).rd b2 0=_
  rw[qv _ _ (fun e=>h12 e.symm),qv _ _ (fun e=>h2 e.symm),qi]
 have s2:=kh b2 t2 B _ false H3 H3b
 have s1:=kh b1 t1 A _ false H3 H3a
 let H4:=H3.put c 0 (Fu n last kk T1 T2 b1 b2 (i+1) (x/2^kk))
 refine⟨H4,?_,qi _ _ _,?_,?_,rfl,fun a c1 c2 c3=>?_⟩
 ·have gl:=zcz h
  have g1:H1.get c=hp.get c:=by simp[H1,Hp.put,h2]
  have g3:H3.get c=H2.get c:=by simp[H3,Hp.put,h1]
  have sg1:∀q j,yK (AV.ptr c q j,1) hp.get H1.get=some ():=fun q j=>Qd (by unfold yi;simp only[Zj,kG,Option.bind_some,g1])
  have sg2:∀q j,yK (AV.ptr c q j,1) H2.get H3.get=some ():=fun q j=>Qd (by unfold yi;simp only[Zj,kG,Option.bind_some,g3])
  have m1:H1=hp.put b2 0 (Rb t2 B (q2+(x/2^kk-up+1)) false):=rfl
  have m2:H1.put c 0 (Fu n last kk T1 T2 b1 b2 i (x/2^kk))=H2:=rfl
  have m3:H2.put b1 0 (Rb t1 A (q1+kk) false)=H3:=rfl
  have m4:H3.put c 0 (Fu n last kk T1 T2 b1 b2 (i+1) (x/2^kk))=H4:=rfl
  simp only at un tk
  rw[<-m1]at un
  rw[m3]at tk
  have w1:IntKind.i64.wrap ((last/2^kk:Nat):Int)=((last/2^kk:Nat):Int):=(fun(z:Nat) (hz:z<=8192)=>qf (z:=(z:Int)) (by omega) (by omega)) _ hq
  have w2:IntKind.i64.wrap (((last/2^kk:Nat):Int)+1)=((last/2^kk+1:Nat):Int):=by rw[qf]<;>omega
  have w3:IntKind.u32.wrap ((x/2^kk-up:Nat):Int)=((x/2^kk-up:Nat):Int):=qD (by omega) (by omega)
  have w4:IntKind.u32.wrap ((up:Int)+((x/2^kk-up:Nat):Int))=((x/2^kk:Nat):Int):=by rw[qD]<;>omega
  have w5:IntKind.u32.wrap ((x%2^kk:Nat):Int)=((x%2^kk:Nat):Int):=(fun(z:Nat) (hz:z<=x)=>qD (z:=(z:Int)) (by omega) (by omega)) _ hmod
  have w6:IntKind.i64.wrap ((i:Int)+1)=((i+1:Nat):Int):=by rw[qf]<;>omega
  have sr:=fun t o o'=>yh .u32 last kk (by show kk<=32;exact hkk) t o o' .i64
  have sl:∀t o o',qr Tryz.prog .shl t o o' (.int .u32 ((x/2^kk:Nat):Int)) (.int .i64 (kk:Int))=some (.int .u32 ((x/2^kk*2^kk:Nat):Int)):=by
   intro t o o'
   rw[zF _ _ _ _ _ _ _ _ (by omega)]
   have e:min (kk:Int).toNat IntKind.u32.bits=kk:=by show min (kk:Int).toNat 32=kk;omega
   rw[e]
   have e2:((x/2^kk:Nat):Int)*2^kk=((x/2^kk*2^kk:Nat):Int):=by simp
   rw[e2]
   congr 2
   exact(fun(z:Nat) (hz:z<=x)=>qD (z:=(z:Int)) (by omega) (by omega)) _ hmul
  have hge:¬((n:Int)<=(i:Int)):=by omega
  simp only[Fu]at h H1c H2c H3c m2 m4
  rw[E106]
  clear_value H4 H3 H2 H1
  clear l1 l2 a1 a2 e1 hup hxl hmul hmod
  generalize((last/2^kk+1:Nat):Int)=V1 at*
  generalize((last/2^kk:Nat):Int)=V0 at*
  generalize((x/2^kk-up:Nat):Int)=V2 at*
  generalize((x/2^kk*2^kk:Nat):Int)=V4 at*
  generalize((x/2^kk:Nat):Int)=V3 at*
  generalize((x%2^kk:Nat):Int)=V5 at*
  generalize((i+1:Nat):Int)=V6 at*
  have gs1:∀(x0:AV) (v:Value) (r:List AV),qe (x0::.sc v::r) 1=some v:=fun _ _ _=>rfl
  have gs2:∀(x0 x1:AV) (v:Value) (r:List AV),qe (x0::x1::.sc v::r) 2=some v:=fun _ _ _ _=>rfl
  have gs7:∀(x0 x1 x2 x3 x4 x5 x6:AV) (v:Value) (r:List AV),qe (x0::x1::x2::x3::x4::x5::x6::.sc v::r) 7=some v:=fun _ _ _ _ _ _ _ _ _=>rfl
  have gs8:∀(x0 x1 x2 x3 x4 x5 x6 x7:AV) (v:Value) (r:List AV),qe (x0::x1::x2::x3::x4::x5::x6::x7::.sc v::r) 8=some v:=fun _ _ _ _ _ _ _ _ _ _=>rfl
  have gs0:∀(v:Value) (r:List AV),qe (.sc v::r) 0=some v:=fun _ _=>rfl
  have gc5:∀(x0 x1 x2 x3 x4 x5:AV) (r:List AV),qj (x0::x1::x2::x3::x4::x5::r) 5=some x5:=fun _ _ _ _ _ _ _=>rfl
  have gc6:∀(x0 x1 x2 x3 x4 x5 x6:AV) (r:List AV),qj (x0::x1::x2::x3::x4::x5::x6::r) 6=some x6:=fun _ _ _ _ _ _ _ _=>rfl
  have p8:∀(x0 x1 x2 x3 x4 x5 x6 x7 x8 z:AV),qh [x0,x1,x2,x3,x4,x5,x6,x7,x8] 8 [z]=some [x0,x1,x2,x3,x4,x5,x6,x7,z]:=fun _ _ _ _ _ _ _ _ _ _=>rfl
  have p7:∀(x0 x1 x2 x3 x4 x5 x6 x7 x8 z:AV),qh [x0,x1,x2,x3,x4,x5,x6,x7,x8] 7 [z]=some [x0,x1,x2,x3,x4,x5,x6,z,x8]:=fun _ _ _ _ _ _ _ _ _ _=>rfl
  simp[h,gs7,gs0,hge,qs3,gs8,gc6,gs1,gs2,sr,yO,w1,w2,un,JD,w3,w4,H1c,p8,sg1,m2,H2c,sl,gc5,tk,jy,w5,os,sg2,H3c,s2,s1,qs2,w6,p7,m4]
 ·show(H3.put c 0 _).rd b1 0=_;rw[qv _ _ (fun e=>h1 e.symm)];exact H3a
 ·show(H3.put c 0 _).rd b2 0=_;rw[qv _ _ (fun e=>h2 e.symm)];exact H3b
 ·show((((hp.put b2 0 _).put c 0 _).put b1 0 _).put c 0 _).get a=_
  simp[Hp.put,c1,c2,c3]
end
theorem qoo(n last kk:Nat)(T1 T2:AV)(c b1 b2 up:Nat)(hp:Hp)(h:hp.rd c 0=some (Fu n last kk T1 T2 b1 b2 n up)):
 run cxX 106 [.ptr c 0 0] hp=some (.tup [.sc (.int .u32 0),.sc (.bool false)],hp):=by
 have gs7:∀(x0 x1 x2 x3 x4 x5 x6:AV) (v:Value) (r:List AV),qe (x0::x1::x2::x3::x4::x5::x6::.sc v::r) 7=some v:=fun _ _ _ _ _ _ _ _ _=>rfl
 have gs0:∀(v:Value) (r:List AV),qe (.sc v::r) 0=some v:=fun _ _=>rfl
 simp only[Fu]at h
 rw[E106]
 simp[h,gs7,gs0,qs4]
theorem WB:∀(l:List Nat),jc l->∀x∈l,x<=qA l
 |[],_,x,h=>by cases h
 |[a],_,x,h=>by rcases List.mem_singleton.mp h with rfl;exact Nat.le_refl _
 |a::b::r,hr,x,h=>by
  rw[ZB]
  have ih:=WB (b::r) hr.2
  rcases List.mem_cons.mp h with rfl|h
  ·exact Nat.le_trans hr.1 (ih b (by simp))
  ·exact ih x h
section
variable (n last kk t1 t2:Nat)(T1 T2:AV)(A B:List Int)(c b1 b2:Nat)(hkk:kk<=32)(hn:n<=4096)(hlast:last<4294967296)(hq:last/2^kk<=8192)(hA:A.length<=100000000)(hB:B.length<=100000000)(A8:By A)(B8:By B)(h1:c≠b1)(h2:c≠b2)(h12:b1≠b2)
include hkk hn hlast hq hA hB A8 B8 h1 h2 h12
theorem qk5:∀(r:List Nat) (i p q1 q2:Nat) (acc:List Nat) (hp:Hp),i+r.length=n->jc (p::r)->(∀x∈r,x<=last)->acc.length=i->hp.rd c 0=some (Fu n last kk T1 T2 b1 b2 i (p/2^kk))->hp.rd b1 0=some (Rb t1 A q1 false)->hp.rd b2 0=some (Rb t2 B q2 false)->At A q1 (qY kk r)->At B q2 (qC kk (p/2^kk) r)->
 ∃v o hp1 hp2,run cxX 106 [.ptr c 0 0] hp=some (.tup [.sc v,.sc (.bool o)],hp1)/\B50_4 (S 2 1 (LI .u32 (nz acc))) (.ptr c 0 0) v (.bool o) hp1=some (S 2 1 (LI .u32 (nz (acc++r))),hp2):=by
 intro r
 induction r with
 |nil=>
  intro i p q1 q2 acc hp hi hf hx ha hc r1 r2 a1 a2
  have e:i=n:=hi
  subst e
  refine⟨_,_,_,hp,qoo i last kk T1 T2 c b1 b2 _ hp hc,?_⟩
  rw[qie,List.append_nil]
  generalize nz acc=L0
  simp
 |cons x r ih=>
  intro i p q1 q2 acc hp hi hf hx ha hc r1 r2 a1 a2
  simp only[List.length_cons]at hi
  have el:qY kk (x::r)=xE x kk++qY kk r:=rfl
  have eh:qC kk (p/2^kk) (x::r)=una (x/2^kk-p/2^kk)++qC kk (x/2^kk) r:=rfl
  rw[el]at a1
  rw[eh]at a2
  obtain⟨a1a,a1b⟩:=a1.app
  obtain⟨a2a,a2b⟩:=a2.app
  obtain⟨hp1,f1,f2,f3,f4,f5,f6⟩:=qop n last kk t1 t2 T1 T2 A B c b1 b2 hkk hn hlast hq hA hB A8 B8 h1 h2 h12 i (p/2^kk) x q1 q2 (by omega) (hx x (by simp)) (Nat.div_le_div_right hf.1) hp hc r1 r2 a1a a2a
  obtain⟨v,o,hp3,hp4,g1,g2⟩:=ih (i+1) x _ _ (acc++[x]) hp1 (by omega) hf.2 (fun y hy=>hx y (by simp[hy])) (by simp[ha]) f2 f3 f4 a1b a2b
  refine⟨_,_,hp1,hp4,f1,?_⟩
  have ap:=ZO .u32 (nz acc) 2 (.inr rfl) 4 (by decide) (x:Int) (by simp;omega)
  rw[<-vi]at ap
  have ea:acc++x::r=acc++[x]++r:=by simp
  rw[ea,<-g2,qie]
  generalize nz (acc++[x])=L1 at*
  generalize nz acc=L0 at*
  simp[xx,ap,g1]
end
section
variable (l:List Nat)(hl:l.length<=4096)(h32:∀x∈l,x<4294967296)(hr:jc l)
include hl h32 hr
theorem Ye(t1 t2:Nat)(hp:Hp):∃hp',run cxX 50 [wZ l t1 t2] hp=some (S 2 1 (LI .u32 (nz l)),hp'):=by
 have hb:qy l<=32/\qA l<4294967296/\qA l/2^qy l<=8192/\(qC (qy l) 0 l).length<=3*4096:=by
  by_cases hne:l=[]
  ·subst hne;exact⟨by decide,by decide,by decide,by decide⟩
  ·obtain⟨k1,k2,k3⟩:=kP l hl h32 hr hne
   have h2:qA l/2^qy l<2*l.length:=Jr (List.length_pos_iff.mpr hne) k2
   exact⟨k1,k2,by omega,k3⟩
 obtain⟨k1,k2,k3,k4⟩:=hb
 have cu:=qup l.length (qA l) (qy l) (rk (rk t1)) (rk (rk t2)) (pk (qY (qy l) l)) (pk (qC (qy l) 0 l)) hp
 simp only[Wn]at cu
 have lA:(pk (qY (qy l) l)).length<=100000000:=by
  rw[zR,QP]
  have:l.length*qy l<=4096*32:=Nat.mul_le_mul hl k1
  omega
 have lB:(pk (qC (qy l) 0 l)).length<=100000000:=by rw[zR];omega
 let H0:=hp.new (Rb (rk t1) (pk (qY (qy l) l)) 0 false)
 let H1:=H0.new (Rb (rk t2) (pk (qC (qy l) 0 l)) 0 false)
 let H2:=H1.new (Fu l.length (qA l) (qy l) (S (rk t1) 1 (LI .u8 (pk (qY (qy l) l)))) (S (rk t2) 1 (LI .u8 (pk (qC (qy l) 0 l)))) hp.next (hp.next+1) 0 0)
 have rc:H2.rd (hp.next+2) 0=some (Fu l.length (qA l) (qy l) (S (rk t1) 1 (LI .u8 (pk (qY (qy l) l)))) (S (rk t2) 1 (LI .u8 (pk (qC (qy l) 0 l)))) hp.next (hp.next+1) 0 0):=qz H1 _
 have r1:H2.rd hp.next 0=some (Rb (rk t1) (pk (qY (qy l) l)) 0 false):=by
  show((H0.new _).new _).rd hp.next 0=_
  rw[zX _ _ (show hp.next≠H1.next from by show hp.next≠hp.next+1+1;omega),zX _ _ (show hp.next≠H0.next from by show hp.next≠hp.next+1;omega)]
  exact qz hp _
 have r2:H2.rd (hp.next+1) 0=some (Rb (rk t2) (pk (qC (qy l) 0 l)) 0 false):=by
  show(H1.new _).rd (hp.next+1) 0=_
  rw[zX _ _ (show hp.next+1≠H1.next from by show hp.next+1≠hp.next+1+1;omega)]
  exact qz H0 _
 have z0:(0:Nat)/2^qy l=0:=Nat.zero_div _
 obtain⟨v,o,hp3,hp4,g1,g2⟩:=qk5 l.length (qA l) (qy l) (rk t1) (rk t2) (S (rk t1) 1 (LI .u8 (pk (qY (qy l) l)))) (S (rk t2) 1 (LI .u8 (pk (qC (qy l) 0 l)))) (pk (qY (qy l) l)) (pk (qC (qy l) 0 l)) (hp.next+2) hp.next (hp.next+1) k1 hl k2 k3 lA lB (fun x hx=>qc2 hx) (fun x hx=>qc2 hx) (by omega) (by omega) (by omega) l 0 0 0 0 [] H2 (by simp) (jS hr) (WB l hr) rfl (by rw[z0];exact rc) r1 r2 (At.pk _) (by rw[z0];exact At.pk _)
 refine⟨hp4,?_⟩
 have g2':B50_4 (S 2 1 []) (.ptr (hp.next+2) 0 0) v (.bool o) hp3=some (S 2 1 (LI .u32 (nz l)),hp4):=g2
 have m:((hp.new (Rb (rk t1) (pk (qY (qy l) l)) 0 false)).new (Rb (rk t2) (pk (qC (qy l) 0 l)) 0 false)).new (Fu l.length (qA l) (qy l) (S (rk t1) 1 (LI .u8 (pk (qY (qy l) l)))) (S (rk t2) 1 (LI .u8 (pk (qC (qy l) 0 l)))) hp.next (hp.next+1) 0 0)=H2:=rfl
 rw[m]at cu
 unfold wZ
 rw[E50]
 clear_value H2
 clear r1 r2 rc m k3 k4 lA lB z0
 generalize pk (qY (qy l) l)=A at*
 generalize pk (qC (qy l) 0 l)=B at*
 generalize((qA l:Nat):Int)=La at*
 generalize((qy l:Nat):Int)=Ka at*
 simp[qg,ql,cu,g1,g2']
omit hl h32 hr in
theorem qjo(t1 t2 t3 t4:Nat)(hp:Hp):run cxX 104 [wZ l t1 t2,wZ l t3 t4] hp=some (.sc (.bool true),hp):=by
 have gs0:∀(v:Value) (r:List AV),qe (.sc v::r) 0=some v:=fun _ _=>rfl
 have gs1:∀(x0:AV) (v:Value) (r:List AV),qe (x0::.sc v::r) 1=some v:=fun _ _ _=>rfl
 unfold wZ
 rw[E104]
 generalize pk (qY (qy l) l)=A at*
 generalize pk (qC (qy l) 0 l)=B at*
 generalize((qA l:Nat):Int)=La at*
 generalize((qy l:Nat):Int)=Ka at*
 simp[qg,gs0,gs1,qj]
theorem qon(b k:Nat)(bl:List Int)(hbl:bl.length<=1000000000)(h8:By bl)(p:Nat)(rest:List Int)(hd:bl.drop p=yS l++rest)(hp:Hp)(hpl:p<=bl.length)(hrd:hp.rd b 0=some (Rc k bl p 0)):
 ∃t1 t2,run cxX 49 [.ptr b 0 0] hp=some (wZ l t1 t2,hp.put b 0 (Rc k bl (p+(yS l).length) 0)):=by
 have hb:qy l<=32/\qA l<4294967296/\(qC (qy l) 0 l).length<=3*4096:=by
  by_cases hne:l=[]
  ·subst hne;exact⟨by decide,by decide,by decide⟩
  ·exact kP l hl h32 hr hne
 obtain⟨k1,k2,k4⟩:=hb
 have hlow:=Wf l.length (qA l) (by omega) k2 hp0
 have e4:Kk l.length (qA l)=qy l:=rfl
 rw[e4]at hlow
 have hmul:l.length*qy l<=4096*32:=Nat.mul_le_mul hl k1
 have eA:(pk (qY (qy l) l)).length=(l.length*qy l+7)/8:=by rw[zR,QP]
 have hBl:(pk (qC (qy l) 0 l)).length<=1048576:=by rw[zR];omega
 have ey:yS l++rest=uv l.length++(uv (qA l)++(pk (qY (qy l) l)++(uv (pk (qC (qy l) 0 l)).length++(pk (qC (qy l) 0 l)++rest)))):=by unfold yS;simp
 have el:(yS l).length=(uv l.length).length+(uv (qA l)).length+(pk (qY (qy l) l)).length+(uv (pk (qC (qy l) 0 l)).length).length+(pk (qC (qy l) 0 l)).length:=by unfold yS;simp only[List.length_append]
 rw[ey]at hd
 obtain⟨t5,hpL,ls⟩:∃t5 hpL,run cxX 50 [wZ l t5 t5] hp0=some (S 2 1 (LI .u32 (nz l)),hpL):=⟨0,Ye l hl h32 hr 0 0 hp0⟩
 have u0:=zL b k bl hbl h8 (most:=4096) hd hl (by omega) hp hpl hrd
 have d0:=qZ hd
 have q0:=zp hpl hd
 have u1:=zL b k bl hbl h8 (most:=4294967295) d0 (by omega) (by omega) _ q0 (qi hp b (Rc k bl (p+(uv l.length).length) 0))
 rw[qp]at u1
 have d1:=qZ d0
 have q1:=zp q0 d0
 generalize eP1:p+(uv l.length).length+(uv (qA l)).length=P1 at*
 obtain⟨ta,u2⟩:=ke b k bl hbl d1 _ q1 (qi hp b (Rc k bl P1 0))
 rw[qp]at u2
 have d2:=qZ d1
 have q2:=zp q1 d1
 generalize eP2:P1+(pk (qY (qy l) l)).length=P2 at*
 have u3:=zL b k bl hbl h8 (most:=1048576) d2 hBl (by omega) _ q2 (qi hp b (Rc k bl P2 0))
 rw[qp]at u3
 have d3:=qZ d2
 have q3:=zp q2 d2
 generalize eP3:P2+(uv (pk (qC (qy l) 0 l)).length).length=P3 at*
 obtain⟨tb,u4⟩:=ke b k bl hbl d3 _ q3 (qi hp b (Rc k bl P3 0))
 rw[qp]at u4
 generalize eP4:P3+(pk (qC (qy l) 0 l)).length=P4 at*
 have eP:p+(yS l).length=P4:=by rw[el];omega
 have er:=zH b k bl P4 0 _ (qi hp b (Rc k bl P4 0))
 have lsr:∀s1 s2,∃hpL,run cxX 50 [wZ l s1 s2] hp0=some (S 2 1 (LI .u32 (nz l)),hpL):=fun s1 s2=>Ye l hl h32 hr s1 s2 hp0
 obtain⟨hL,ls1⟩:=lsr (rk ta) (rk tb)
 obtain⟨t3,t4,hO,of⟩:=qmd l 3 hl h32 hr hp0
 have sm:=fun a b c d=>qjo l a b c d hp0
 rw[eP]
 refine⟨ta,tb,?_⟩
 have l1:((4096:Nat):Int)=4096:=rfl
 have l2:((4294967295:Nat):Int)=4294967295:=rfl
 have l3:((1048576:Nat):Int)=1048576:=rfl
 rw[l1]at u0
 rw[l2]at u1
 rw[l3]at u3
 rw[eA]at u2
 have w1:IntKind.i64.wrap (l.length:Int)=(l.length:Int):=qf (by omega) (by omega)
 have w2:IntKind.u32.wrap ((qA l:Nat):Int)=((qA l:Nat):Int):=qD (by omega) (by omega)
 have w3:IntKind.i64.wrap ((l.length:Int)*((qy l:Nat):Int))=((l.length*qy l:Nat):Int):=by
  have e:(l.length:Int)*((qy l:Nat):Int)=((l.length*qy l:Nat):Int):=by simp
  rw[e,qf]<;>omega
 have w4:IntKind.i64.wrap (((l.length*qy l:Nat):Int)+7)=((l.length*qy l+7:Nat):Int):=by rw[qf]<;>omega
 have q8:=qc1 (l.length*qy l+7) (by omega)
 have w5:IntKind.i64.wrap ((pk (qC (qy l) 0 l)).length:Int)=((pk (qC (qy l) 0 l)).length:Int):=qf (by omega) (by omega)
 have gs0:∀(v:Value) (r:List AV),qe (.sc v::r) 0=some v:=fun _ _=>rfl
 have gs1:∀(x0:AV) (v:Value) (r:List AV),qe (x0::.sc v::r) 1=some v:=fun _ _ _=>rfl
 have gs2:∀(x0 x1:AV) (v:Value) (r:List AV),qe (x0::x1::.sc v::r) 2=some v:=fun _ _ _ _=>rfl
 have p3:∀(x0 x1 x2 x3 x4 z:AV),qh [x0,x1,x2,x3,x4] 3 [z]=some [x0,x1,x2,z,x4]:=fun _ _ _ _ _ _=>rfl
 have p4:∀(x0 x1 x2 x3 x4 z:AV),qh [x0,x1,x2,x3,x4] 4 [z]=some [x0,x1,x2,x3,z]:=fun _ _ _ _ _ _=>rfl
 have p5:∀(x0 x1 x2 x3 x4 z0 z1 z2 z3 z4:AV),qh [x0,x1,x2,x3,x4] 0 [z0,z1,z2,z3,z4]=some [z0,z1,z2,z3,z4]:=fun _ _ _ _ _ _ _ _ _ _=>rfl
 clear eA hBl ey el hd d0 d1 d2 d3 lsr ls k4 q0 q1 q2 q3 eP1 eP2 eP3 eP4 eP hmul e4
 unfold wZ at*
 rw[E49]
 generalize pk (qY (qy l) l)=A at*
 generalize pk (qC (qy l) 0 l)=B at*
 generalize(((l.length*qy l+7)/8:Nat):Int)=V3 at*
 generalize((l.length*qy l+7:Nat):Int)=V2 at*
 generalize((l.length*qy l:Nat):Int)=V1 at*
 generalize((qA l:Nat):Int)=La at*
 generalize((qy l:Nat):Int)=Ka at*
 generalize((B.length:Nat):Int)=Bn at*
 generalize hp.put b 0 (Rc k bl (p+(uv l.length).length) 0)=G0 at*
 generalize hp.put b 0 (Rc k bl P1 0)=G1 at*
 generalize hp.put b 0 (Rc k bl P2 0)=G2 at*
 generalize hp.put b 0 (Rc k bl P3 0)=G3 at*
 generalize hp.put b 0 (Rc k bl P4 0)=G4 at*
 simp[u0,xS,w1,u1,jy,w2,gs0,gs1,hlow,gs2,w3,w4,q8,u2,p3,u3,w5,u4,p4,er,ql,ls1,of,p5,sm,qri]
end
abbrev DC(m b code w:Nat):List AV:=[.ptr m 0 0,.ptr b 0 0,.sc (.int .u32 (code:Int)),.sc (.int .u32 (w:Int))]
theorem qvi(a j:Nat)(ha:a<16777216)(hj:j<256)(t:TypeId)(x y:Operand):qr Tryz.prog .or t x y (.int .u32 ((a*256:Nat):Int)) (.int .u32 (j:Int))=some (.int .u32 ((a*256+j:Nat):Int)):=by
 rw[zG]
 have e:(BitVec.ofInt IntKind.u32.bits ((a*256:Nat):Int)|||BitVec.ofInt IntKind.u32.bits (j:Int)).toNat=a*256+j:=by
  show(BitVec.ofInt 32 ((a*256:Nat):Int)|||BitVec.ofInt 32 (j:Int)).toNat=_
  rw[BitVec.toNat_or,BitVec.toNat_ofInt,BitVec.toNat_ofInt]
  have e1:(((a*256:Nat):Int)%((2^32:Nat):Int)).toNat=2^8*a:=by omega
  have e2:((j:Int)%((2^32:Nat):Int)).toNat=j:=by omega
  rw[e1,e2,<-Nat.two_pow_add_eq_or_of_lt (by omega) a]
  omega
 rw[e,qD (by omega) (by omega)]
theorem qck(a:Nat)(ha:a<16777216)(t:TypeId)(x y:Operand):qr Tryz.prog .shl t x y (.int .u32 (a:Int)) (.int .u64 8)=some (.int .u32 ((a*256:Nat):Int)):=by
 rw[zF _ _ _ _ _ _ _ _ (by omega)]
 have e:(2:Int)^min (8:Int).toNat IntKind.u32.bits=256:=rfl
 rw[e,qD (by omega) (by omega)]
 rfl
section
variable (hp:Hp)(m cb:Nat)(cs:List Nat)(h:MW hp m cb cs)(hs:cs.sum<=1000000)(hcl:cs.length=64)
include h hs hcl
theorem qqc(x P:Nat)(hx:x<64)(h1:(cs.take x).sum<=P)(h2:P<(cs.take (x+1)).sum):∀(f i:Nat),i+f=x->
 B179_4 (.ptr m 0 0) (.int .i64 ((P-(cs.take i).sum:Nat):Int)) (.int .i64 (i:Int)) hp=some (.sc (.int .i64 (x:Int)),hp):=by
 obtain⟨m1,m2,m3,m4,m5⟩:=h
 have hms:∀a b c d e,qL (.ms a b c d e)=some (a,b,c,d,e):=fun _ _ _ _ _=>rfl
 have hbig:(cs.take (x+1)).sum<=cs.sum:=qK cs _
 intro f
 induction f with
 |zero=>
  intro i hi
  have e:i=x:=by omega
  subst e
  have ix:idx cs.length (.int .i64 (i:Int))=some i:=qU .i64 (by omega)
  have g:=jv .i64 (nz cs) i (by simp;omega)
  rw[ym cs i (by omega)]at g
  have ts:=qI cs i (by omega)
  have hge:¬((cs.getD i 0:Nat):Int)<=((P-(cs.take i).sum:Nat):Int):=by omega
  rw[qax]
  generalize((cs.getD i 0:Nat):Int)=q1 at*
  generalize((P-(cs.take i).sum:Nat):Int)=q2 at*
  simp[m5,qj,hms,ix,m4,g,hge]
 |succ f ih=>
  intro i hi
  have ix:idx cs.length (.int .i64 (i:Int))=some i:=qU .i64 (by omega)
  have g:=jv .i64 (nz cs) i (by simp;omega)
  rw[ym cs i (by omega)]at g
  have ts:=qI cs i (by omega)
  have tl:=YF cs (i+1) x (by omega)
  have hge:((cs.getD i 0:Nat):Int)<=((P-(cs.take i).sum:Nat):Int):=by omega
  have i2:=ih (i+1) (by omega)
  have w1:IntKind.i64.wrap (((P-(cs.take i).sum:Nat):Int)-((cs.getD i 0:Nat):Int))=((P-(cs.take (i+1)).sum:Nat):Int):=by rw[qf]<;>omega
  have w2:IntKind.i64.wrap ((i:Int)+1)=((i+1:Nat):Int):=by rw[qf]<;>omega
  rw[<-i2,qax]
  generalize((cs.getD i 0:Nat):Int)=q1 at*
  generalize((P-(cs.take i).sum:Nat):Int)=q2 at*
  generalize((P-(cs.take (i+1)).sum:Nat):Int)=q3 at*
  generalize((i+1:Nat):Int)=q4 at*
  simp[m5,qj,hms,ix,m4,g,hge,w1,w2]
theorem qun(x P:Nat)(hx:x<64)(h1:(cs.take x).sum<=P)(h2:P<(cs.take (x+1)).sum):
 run cxX 179 [.ptr m 0 0,.sc (.int .i64 (P:Int))] hp=some (.sc (.int .i64 (x:Int)),hp):=by
 have hbig:(cs.take (x+1)).sum<=cs.sum:=qK cs _
 have fl:=qqc hp m cb cs h hs hcl x P hx h1 h2 x 0 (by omega)
 have al:=XL hp m cb cs h
 have e0:P-(cs.take 0).sum=P:=by simp
 rw[e0]at fl
 have hn:¬((P:Int)<0):=by omega
 have hge:¬((cs.sum:Int)<=(P:Int)):=by omega
 have fl':B179_4 (.ptr m 0 0) (.int .i64 (P:Int)) (.int .i64 0) hp=some (.sc (.int .i64 (x:Int)),hp):=fl
 rw[E179]
 generalize((cs.sum:Nat):Int)=S1 at*
 generalize((P:Nat):Int)=P1 at*
 simp[hn,al,hge,qro,fl']
end
section
variable (d b m cb k x:Nat)(C:List Int)(hC:By C)(hCl:C.length<=1000000)(hx:x<64)(cs:List Nat)(hm:okM cs)(n1:d≠b)(n2:d≠m)(n3:d≠cb)(n4:b≠m)(n5:b≠cb)
include hC hCl hx hm n1 n2 n3 n4 n5
theorem qk7:∀(f:Nat) (s:En) (code:Nat) (hp:Hp),Za s s.width->s.width<4294967296->4294967296<=s.width*256^f*256->code<s.width->qE (C.take (eK s+4))=eV s+code->eK (zj f s)+4<=C.length->
 hp.rd d 0=some (DC m b code s.width)->hp.rd b 0=some (Rc k C (eK s+4) 0)->MW hp m cb cs->
 ∃hp' code',B154_11 (.ptr d 0 0) (.int .i64 (x:Int)) hp=some (.sc (.int .i64 (x:Int)),hp')/\qE (C.take (eK (zj f s)+4))=eV (zj f s)+code'/\code'<(zj f s).width/\
  hp'.rd d 0=some (DC m b code' (zj f s).width)/\hp'.rd b 0=some (Rc k C (eK (zj f s)+4) 0)/\MW hp' m cb (JT cs x)/\hp'.next=hp.next/\∀c,c≠d->c≠b->c≠m->c≠cb->hp'.get c=hp.get c:=by
 have gs2:∀(x0 x1:AV) (v:Value) (r:List AV),qe (x0::x1::.sc v::r) 2=some v:=fun _ _ _ _=>rfl
 have gs3:∀(x0 x1 x2:AV) (v:Value) (r:List AV),qe (x0::x1::x2::.sc v::r) 3=some v:=fun _ _ _ _ _=>rfl
 have gc1:∀(x0 x1:AV) (r:List AV),qj (x0::x1::r) 1=some x1:=fun _ _ _=>rfl
 have gc0:∀(x0:AV) (r:List AV),qj (x0::r) 0=some x0:=fun _ _=>rfl
 have p2:∀(x0 x1 x2 x3 z:AV),qh [x0,x1,x2,x3] 2 [z]=some [x0,x1,z,x3]:=fun _ _ _ _ _=>rfl
 have p3:∀(x0 x1 x2 x3 z:AV),qh [x0,x1,x2,x3] 3 [z]=some [x0,x1,x2,z]:=fun _ _ _ _ _=>rfl
 have done:∀(s:En) (code:Nat) (hp:Hp),¬(s.width<16777216)->code<s.width->qE (C.take (eK s+4))=eV s+code->hp.rd d 0=some (DC m b code s.width)->hp.rd b 0=some (Rc k C (eK s+4) 0)->MW hp m cb cs->
  ∃hp' code',B154_11 (.ptr d 0 0) (.int .i64 (x:Int)) hp=some (.sc (.int .i64 (x:Int)),hp')/\qE (C.take (eK s+4))=eV s+code'/\code'<s.width/\
   hp'.rd d 0=some (DC m b code' s.width)/\hp'.rd b 0=some (Rc k C (eK s+4) 0)/\MW hp' m cb (JT cs x)/\hp'.next=hp.next/\∀c,c≠d->c≠b->c≠m->c≠cb->hp'.get c=hp.get c:=by
  intro s code hp hw hcode hN hd hb hM
  obtain⟨hp1,a1,a2,a3,a4⟩:=qmb hp m cb x cs hM hm hx
  refine⟨hp1,code,?_,hN,hcode,by rw[rdg (a4 d n2 n3)];exact hd,by rw[rdg (a4 b n4 n5)];exact hb,a2,a3,fun c c1 c2 c3 c4=>a4 c c3 c4⟩
  have er:=zH b k C (eK s+4) 0 hp hb
  have d1:decide ((s.width:Int)<Int.ofNat 16777216)=false:=decide_eq_false (by show ¬((s.width:Int)<((16777216:Nat):Int));omega)
  clear hw hcode hN
  simp only[DC]at hd
  rw[Vl]
  rw[wz hd (gs3 _ _ _ _ _),ZC,d1,cond_false]
  clear d1
  simp[hd,gc1,er,gc0,a1]
 intro f
 induction f with
 |zero=>
  intro s code hp ho hw hf hcode hN hle hd hb hM
  exact done s code hp (by rw[Nat.pow_zero,Nat.mul_one]at hf;omega) hcode hN hd hb hM
 |succ f ih=>
  intro s code hp ho hw hf hcode hN hle hd hb hM
  by_cases hl:s.width<16777216
  ·have en:zj (f+1) s=zj f (sh (JS s (s.width*256))):=by rw[zj,if_pos hl]
   rw[en]at hle⊢
   have ho':Za (JS s (s.width*256)) s.width:=ho
   obtain⟨a1,a2,a3,a4⟩:=Jb (JS s (s.width*256)) s.width ho' (by omega)
   have a4:(sh (JS s (s.width*256))).width=s.width*256:=a4
   rw[(Yo s _).1]at a2
   rw[(Yo s _).2]at a3
   have hf2:4294967296<=s.width*256*256^f*256:=by
    rw[Nat.pow_succ]at hf
    have e:s.width*(256^f*256)*256=s.width*256*256^f*256:=by
     rw[Nat.mul_assoc s.width 256,Nat.mul_comm 256 (256^f)]
    rwa [e]at hf
   generalize sh (JS s (s.width*256))=s1 at*
   rw[<-a4]at a1
   obtain⟨dd,_,_,q3,_⟩:=qmm f s1 a1 (by rw[a4];omega) (by rw[a4];exact hf2)
   have hlt:eK s+4<C.length:=by omega
   have hmem:C.getD (eK s+4) 0∈C:=by rw[List.getD_eq_getElem?_getD,List.getElem?_eq_getElem hlt];exact List.getElem_mem _
   obtain⟨c1,c2⟩:=hC _ hmem
   obtain⟨j,hj⟩:∃j:Nat,C.getD (eK s+4) 0=j:=⟨(C.getD (eK s+4) 0).toNat,by omega⟩
   have bs:=Qw C (eK s+4) hlt
   rw[hj]at bs c1 c2
   rw[hN,Int.toNat_natCast]at bs
   have hdr:C.drop (eK s+4)=(j:Int)::C.drop (eK s+4+1):=by
    rw[List.drop_eq_getElem_cons hlt]
    congr 1
    rw[<-hj,List.getD_eq_getElem?_getD,List.getElem?_eq_getElem hlt];rfl
   let H1:=hp.put d 0 (DC m b code (s.width*256))
   have H1d:H1.rd d 0=some (DC m b code (s.width*256)):=qi _ _ _
   have H1b:H1.rd b 0=some (Rc k C (eK s+4) 0):=by show(hp.put d 0 _).rd b 0=_;rw[qv _ _ (fun e=>n1 e.symm)];exact hb
   have tb:=zM b k C (by omega) hdr H1 (by omega) H1b
   let H2:=H1.put b 0 (Rc k C (eK s+4+1) 0)
   have H2d:H2.rd d 0=some (DC m b code (s.width*256)):=by show(H1.put b 0 _).rd d 0=_;rw[qv _ _ n1];exact H1d
   let H3:=H2.put d 0 (DC m b (code*256+j) (s.width*256))
   have H3d:H3.rd d 0=some (DC m b (code*256+j) s1.width):=by rw[a4];exact qi _ _ _
   have H3b:H3.rd b 0=some (Rc k C (eK s1+4) 0):=by
    show((H1.put b 0 _).put d 0 _).rd b 0=_
    rw[qv _ _ (fun e=>n1 e.symm),qi,a3]
   have H3f:∀c,c≠d->c≠b->H3.get c=hp.get c:=fun c h1 h2=>by
    show(((hp.put d 0 _).put b 0 _).put d 0 _).get c=_
    simp[Hp.put,h1,h2]
   have H3M:MW H3 m cb cs:=by
    obtain⟨m1,m2,m3,m4,m5⟩:=hM
    exact⟨m1,m2,m3,by rw[rdg (H3f cb (fun e=>n3 e.symm) (fun e=>n5 e.symm))];exact m4,by rw[rdg (H3f m (fun e=>n2 e.symm) (fun e=>n4 e.symm))];exact m5⟩
   obtain⟨hp',code',r1,r2,r3,r4,r5,r6,r7,r8⟩:=ih s1 (code*256+j) H3 a1 (by rw[a4];omega) (by rw[a4];exact hf2) (by rw[a4];omega) (by
    have e:eK s1+4=eK s+4+1:=by omega
    rw[e,bs,a2];omega) hle H3d H3b H3M
   refine⟨hp',code',?_,r2,r3,r4,r5,r6,by rw[r7];rfl,fun c h1 h2 h3 h4=>by rw[r8 c h1 h2 h3 h4,H3f c h1 h2]⟩
   have d1:decide ((s.width:Int)<Int.ofNat 16777216)=true:=decide_eq_true (by show((s.width:Int)<((16777216:Nat):Int));omega)
   have s1':=qck s.width hl
   have s2':=qck code (by omega)
   have o:=qvi code j (by omega) (by omega)
   have w1:IntKind.u32.wrap (j:Int)=(j:Int):=qD (by omega) (by omega)
   have g2:H2.get d=H1.get d:=by
    show(H1.put b 0 _).get d=_
    simp[Hp.put,n1]
   have sg:∀q i,yK (AV.ptr d q i,1) H1.get H2.get=some ():=fun q i=>Qd (by unfold yi;simp only[Zj,kG,Option.bind_some,g2])
   have m1:hp.put d 0 (DC m b code (s.width*256))=H1:=rfl
   have m2:H1.put b 0 (Rc k C (eK s+4+1) 0)=H2:=rfl
   have m3:H2.put d 0 (DC m b (code*256+j) (s.width*256))=H3:=rfl
   rw[m2]at tb
   rw[<-r1,Vl]
   clear_value H3 H2 H1
   simp only[DC]at hd H1d H2d m1 m3
   clear a1 a2 a3 a4 hf2 hf hcode hN hle hl ho hw q3 ih r2 r3 r4 r5 r8 H3d bs
   generalize((s.width*256:Nat):Int)=W2 at*
   rw[wz hd (gs3 _ _ _ _ _),ZC,d1,cond_true]
   clear d1
   generalize((s.width:Nat):Int)=W at*
   generalize((code*256+j:Nat):Int)=Q2 at*
   generalize((code*256:Nat):Int)=Q1 at*
   simp[hd,gs3,s1',p3,m1,H1d,gs2,s2',gc1,tb,qng,w1,o,H2d,p2,m3,sg,-zG]
  ·have en:zj (f+1) s=s:=by rw[zj,if_neg hl]
   rw[en]at hle⊢
   exact done s code hp hl hcode hN hd hb hM
theorem qor(s:En)(r:List Nat)(code:Nat)(hp:Hp)(hr:∀y∈r,y<64)(ho:Za s s.width)(hw:16777216<=s.width/\s.width<4294967296)(h1:qE C=eV (enc cs s (x::r)))(h2:C.length=eK (enc cs s (x::r))+4)(hcode:qE (C.take (eK s+4))=eV s+code)
 (hd:hp.rd d 0=some (DC m b code s.width)) (hb:hp.rd b 0=some (Rc k C (eK s+4) 0)) (hM:MW hp m cb cs):
 ∃hp' code',run cxX 154 [.ptr d 0 0] hp=some (.sc (.int .i64 (x:Int)),hp')/\qE (C.take (eK (zj 4 (xg s cs x))+4))=eV (zj 4 (xg s cs x))+code'/\
  hp'.rd d 0=some (DC m b code' (zj 4 (xg s cs x)).width)/\hp'.rd b 0=some (Rc k C (eK (zj 4 (xg s cs x))+4) 0)/\MW hp' m cb (JT cs x)/\hp'.next=hp.next/\∀c,c≠d->c≠b->c≠m->c≠cb->hp'.get c=hp.get c:=by
 have hw':16777216<=s.width/\s.width<=4294967296:=⟨hw.1,Nat.le_of_lt hw.2⟩
 have e1:enc cs s (x::r)=enc (JT cs x) (zj 4 (xg s cs x)) r:=rfl
 rw[e1]at h1 h2
 obtain⟨y1,y2⟩:=zbr C hC s cs x r hm hx hr ho hw' h1 h2
 obtain⟨dd,b1,b2,b3,b4,b5,b6,b7⟩:=ZR s cs x hm hx ho hw'
 obtain⟨y3,_,_⟩:=zbq C hC (zj 4 (xg s cs x)) (JT cs x) r (Zr hm hx) hr b4 ⟨b5,b6⟩ h1 h2
 rw[hcode]at y1 y2
 have hmm:=hm
 obtain⟨m1,m2,m3⟩:=hmm
 have hn1:1<=cs.getD x 0:=by
  rw[List.getD_eq_getElem?_getD,List.getElem?_eq_getElem (by omega)]
  exact m3 _ (List.getElem_mem _)
 have ht:=qI cs x (by omega)
 have hta:=qK cs (x+1)
 have hpart:4096<=s.width/cs.sum:=by
  rw[Nat.le_div_iff_mul_le (by omega)]
  have:4096*cs.sum<=4096*4096:=Nat.mul_le_mul_left _ m2
  omega
 have hmul:s.width/cs.sum*cs.sum<=s.width:=Nat.div_mul_le_self _ _
 have hsum:s.width/cs.sum*(cs.take x).sum+s.width/cs.sum*cs.getD x 0<=s.width:=by
  rw[<-Nat.mul_add,<-ht]
  exact Nat.le_trans (Nat.mul_le_mul_left _ hta) hmul
 have hge:s.width/cs.sum*1<=s.width/cs.sum*cs.getD x 0:=Nat.mul_le_mul_left _ hn1
 have hpw:s.width/cs.sum<=s.width:=Nat.div_le_self _ _
 have okn:Za (xg s cs x) (xg s cs x).width:=by
  obtain⟨o1,o2,o3,o4⟩:=ho
  refine⟨?_,o2,?_,fun q=>?_⟩
  ·show s.low+s.width/cs.sum*(cs.take x).sum+s.width/cs.sum*cs.getD x 0<=_;omega
  ·show 0<s.width/cs.sum*cs.getD x 0;omega
  ·have:=o4 q
   show s.low+s.width/cs.sum*(cs.take x).sum+s.width/cs.sum*cs.getD x 0<=_;omega
 have ev:eV (xg s cs x)=eV s+s.width/cs.sum*(cs.take x).sum:=by
  show qE (bl s)*4294967296+(s.low+_)=qE (bl s)*4294967296+s.low+_
  omega
 have ek:eK (xg s cs x)=eK s:=rfl
 have ew:(xg s cs x).width=s.width/cs.sum*cs.getD x 0:=rfl
 have cdiv:(cs.take x).sum<=code/(s.width/cs.sum)/\code/(s.width/cs.sum)<(cs.take (x+1)).sum:=by
  constructor
  ·rw[Nat.le_div_iff_mul_le (by omega),Nat.mul_comm];omega
  ·rw[Nat.div_lt_iff_lt_mul (by omega),ht,Nat.mul_comm,Nat.mul_add];omega
 let H1:=(hp.put d 0 (DC m b (code-s.width/cs.sum*(cs.take x).sum) s.width)).put d 0 (DC m b (code-s.width/cs.sum*(cs.take x).sum) (s.width/cs.sum*cs.getD x 0))
 have H1d:H1.rd d 0=some (DC m b (code-s.width/cs.sum*(cs.take x).sum) (xg s cs x).width):=qi _ _ _
 have H1f:∀c,c≠d->H1.get c=hp.get c:=fun c h=>by
  show((hp.put d 0 _).put d 0 _).get c=_
  simp[Hp.put,h]
 have H1b:H1.rd b 0=some (Rc k C (eK (xg s cs x)+4) 0):=by rw[rdg (H1f b (fun e=>n1 e.symm)),ek];exact hb
 have H1M:MW H1 m cb cs:=by
  obtain⟨q1,q2,q3,q4,q5⟩:=hM
  exact⟨q1,q2,q3,by rw[rdg (H1f cb (fun e=>n3 e.symm))];exact q4,by rw[rdg (H1f m (fun e=>n2 e.symm))];exact q5⟩
 obtain⟨hp',code',r1,r2,r3,r4,r5,r6,r7,r8⟩:=qk7 d b m cb k x C hC hCl hx cs hm n1 n2 n3 n4 n5 4 (xg s cs x) (code-s.width/cs.sum*(cs.take x).sum) H1 okn (by rw[ew];omega) (by
  rw[ew]
  have e:(256:Nat)^4=4294967296:=by decide
  rw[e]
  omega) (by rw[ew];omega) (by rw[ev,ek,hcode];omega) y3 H1d H1b H1M
 refine⟨hp',code',?_,r2,r4,r5,r6,r7,fun c c1 c2 c3 c4=>by rw[r8 c c1 c2 c3 c4,H1f c c1]⟩
 have er:=zH b k C (eK s+4) 0 hp hb
 have pt:=qes hp m cb cs hM (by omega) m1 x hx
 have al:=XL hp m cb cs hM
 have fd:=qun hp m cb cs hM (by omega) m1 x (code/(s.width/cs.sum)) hx cdiv.1 cdiv.2
 have gs2:∀(x0 x1:AV) (v:Value) (r:List AV),qe (x0::x1::.sc v::r) 2=some v:=fun _ _ _ _=>rfl
 have gs3:∀(x0 x1 x2:AV) (v:Value) (r:List AV),qe (x0::x1::x2::.sc v::r) 3=some v:=fun _ _ _ _ _=>rfl
 have gc1:∀(x0 x1:AV) (r:List AV),qj (x0::x1::r) 1=some x1:=fun _ _ _=>rfl
 have gc0:∀(x0:AV) (r:List AV),qj (x0::r) 0=some x0:=fun _ _=>rfl
 have p2:∀(x0 x1 x2 x3 z:AV),qh [x0,x1,x2,x3] 2 [z]=some [x0,x1,z,x3]:=fun _ _ _ _ _=>rfl
 have p3:∀(x0 x1 x2 x3 z:AV),qh [x0,x1,x2,x3] 3 [z]=some [x0,x1,x2,z]:=fun _ _ _ _ _=>rfl
 have w1:IntKind.u32.wrap ((cs.sum:Nat):Int)=((cs.sum:Nat):Int):=qD (by omega) (by omega)
 have qd:∀t o o',qr Tryz.prog .quo t o o' (.int .u32 (s.width:Int)) (.int .u32 (cs.sum:Nat))=some (.int .u32 ((s.width/cs.sum:Nat):Int)):=by
  intro t o o'
  rw[jU _ _ _ _ _ _ _ (by omega),Int.tdiv_eq_ediv_of_nonneg (by omega)]
  have e:(s.width:Int)/((cs.sum:Nat):Int)=((s.width/cs.sum:Nat):Int):=by simp
  rw[e,qD (by omega) (by omega)]
 have hcd:code/(s.width/cs.sum)<=code:=Nat.div_le_self _ _
 have qc:∀t o o',qr Tryz.prog .quo t o o' (.int .u32 (code:Int)) (.int .u32 ((s.width/cs.sum:Nat):Int))=some (.int .u32 ((code/(s.width/cs.sum):Nat):Int)):=by
  intro t o o'
  rw[jU _ _ _ _ _ _ _ (by omega),Int.tdiv_eq_ediv_of_nonneg (by omega)]
  have e:(code:Int)/((s.width/cs.sum:Nat):Int)=((code/(s.width/cs.sum):Nat):Int):=by simp
  rw[e,qD (by omega) (by omega)]
 have hcx:cs.getD x 0<=4096:=by omega
 have htx:(cs.take x).sum<=4096:=by omega
 have x1:((s.width/cs.sum:Nat):Int)*(((cs.take x).sum:Nat):Int)=((s.width/cs.sum*(cs.take x).sum:Nat):Int):=by simp
 have x2:((s.width/cs.sum:Nat):Int)*((cs.getD x 0:Nat):Int)=((s.width/cs.sum*cs.getD x 0:Nat):Int):=by simp
 have mm:(hp.put d 0 (DC m b (code-s.width/cs.sum*(cs.take x).sum) s.width)).put d 0 (DC m b (code-s.width/cs.sum*(cs.take x).sum) (s.width/cs.sum*cs.getD x 0))=H1:=rfl
 rw[qp]at mm
 clear_value H1
 clear y3 b1 b2 b3 b4 b5 b6 b7 okn ev H1f r2 r3 r4 r5 H1d h1 h2 cdiv hcode H1b
 have ple:s.width/cs.sum<4294967296:=by omega
 generalize hA:s.width/cs.sum*(cs.take x).sum=A at*
 generalize hB:s.width/cs.sum*cs.getD x 0=B at*
 generalize hQ:code/(s.width/cs.sum)=Q at*
 generalize s.width/cs.sum=p at*
 generalize(cs.take x).sum=tk at*
 generalize cs.getD x 0=gx at*
 have w2:IntKind.i64.wrap (Q:Int)=(Q:Int):=qf (by omega) (by omega)
 have w3:IntKind.u32.wrap (tk:Int)=(tk:Int):=qD (by omega) (by omega)
 have w4:IntKind.u32.wrap ((p:Int)*(tk:Int))=(A:Int):=by rw[x1,qD (by omega) (by omega)]
 have w5:IntKind.u32.wrap ((code:Int)-(A:Int))=((code-A:Nat):Int):=by rw[qD]<;>omega
 have w6:IntKind.u32.wrap (gx:Int)=(gx:Int):=qD (by omega) (by omega)
 have w7:IntKind.u32.wrap ((p:Int)*(gx:Int))=(B:Int):=by rw[x2,qD (by omega) (by omega)]
 simp only[DC]at hd mm
 rw[E154]
 generalize((code-A:Nat):Int)=CA at*
 have hx0:¬((x:Int)<0):=by omega
 simp[hd,gc1,er,qr3,gs3,gc0,al,JD,w1,qd,gs2,qc,yO,w2,fd,hx0,pt,w3,w4,w5,p2,w6,w7,qi,p3,qp,mm,r1]
end
section
variable (b k:Nat)(C:List Int)(hC:By C)(hCl:C.length<=1000000)(h4:4<=C.length)
include hC hCl h4
theorem qti:∀(f i:Nat) (hp:Hp),i+f=4->hp.rd b 0=some (Rc k C i 0)->
 B178_3 (.ptr b 0 0) (.int .u32 ((qE (C.take i):Nat):Int)) (.int .i64 (i:Int)) hp=some (.sc (.int .u32 ((qE (C.take 4):Nat):Int)),hp.put b 0 (Rc k C 4 0)):=by
 intro f
 induction f with
 |zero=>
  intro i hp hi hb
  have e:i=4:=by omega
  subst e
  rw[qay,zE hb]
  generalize qE (C.take 4)=N
  simp
 |succ f ih=>
  intro i hp hi hb
  have hlt:i<C.length:=by omega
  have hmem:C.getD i 0∈C:=by rw[List.getD_eq_getElem?_getD,List.getElem?_eq_getElem hlt];exact List.getElem_mem _
  obtain⟨c1,c2⟩:=hC _ hmem
  obtain⟨j,hj⟩:∃j:Nat,C.getD i 0=j:=⟨(C.getD i 0).toNat,by omega⟩
  have bs:=Qw C i hlt
  rw[hj]at bs c1 c2
  rw[Int.toNat_natCast]at bs
  have hdr:C.drop i=(j:Int)::C.drop (i+1):=by
   rw[List.drop_eq_getElem_cons hlt]
   congr 1
   rw[<-hj,List.getD_eq_getElem?_getD,List.getElem?_eq_getElem hlt];rfl
  have tb:=zM b k C (by omega) hdr hp (by omega) hb
  have i2:=ih (i+1) (hp.put b 0 (Rc k C (i+1) 0)) (by omega) (qi _ _ _)
  rw[qp]at i2
  have hsm:qE (C.take i)<16777216:=by
   have a:=Xt (C.take i) fun x hx=>hC x (List.mem_of_mem_take hx)
   have e:(C.take i).length=i:=by simp;omega
   rw[e]at a
   have:(256:Nat)^i<=256^3:=Nat.pow_le_pow_right (by decide) (by omega)
   have e3:(256:Nat)^3=16777216:=by decide
   omega
  have sl:=qck _ hsm
  have o:=qvi _ j hsm (by omega)
  rw[<-bs]at o
  have w1:IntKind.u32.wrap (j:Int)=(j:Int):=qD (by omega) (by omega)
  have w2:IntKind.i64.wrap ((i:Int)+1)=((i+1:Nat):Int):=by rw[qf]<;>omega
  have hl4:(i:Int)<4:=by omega
  rw[<-i2,qay]
  clear bs hsm
  generalize hp.put b 0 (Rc k C (i+1) 0)=H1 at*
  generalize((qE (C.take i)*256:Nat):Int)=N1 at*
  generalize((qE (C.take i):Nat):Int)=N0 at*
  generalize((qE (C.take (i+1)):Nat):Int)=N2 at*
  generalize((i+1:Nat):Int)=I1 at*
  simp[hl4,sl,tb,qng,w1,o,w2,-zG]
theorem qzh(hp:Hp)(hb:hp.rd b 0=some (Rc k C 0 0)):run cxX 178 [.ptr b 0 0] hp=some (.sc (.int .u32 ((qE (C.take 4):Nat):Int)),hp.put b 0 (Rc k C 4 0)):=by
 have t:=qti b k C hC hCl h4 4 0 hp rfl hb
 have t':B178_3 (.ptr b 0 0) (.int .u32 0) (.int .i64 0) hp=some (.sc (.int .u32 ((qE (C.take 4):Nat):Int)),hp.put b 0 (Rc k C 4 0)):=t
 rw[E178]
 generalize qE (C.take 4)=N at*
 simp[t']
theorem qjg(hp:Hp)(hbn:b<hp.next)(hb:hp.rd b 0=some (Rc k C 0 0)):∃hp' d m cb,run cxX 153 [.sc (.int .i64 64),.ptr b 0 0] hp=some (.ptr d 0 0,hp')/\hp'.rd d 0=some (DC m b (qE (C.take 4)) 4294967295)/\hp'.rd b 0=some (Rc k C 4 0)/\MW hp' m cb cs0/\d≠b/\d≠m/\d≠cb/\b≠m/\b≠cb:=by
 obtain⟨hp1,cb,a1,a2,a3,a4,a5⟩:=qev hp
 have hcb:=a2.2.1
 have hm:=a2.1
 have hb1:hp1.rd b 0=some (Rc k C 0 0):=by rw[rdg (a5 b hbn)];exact hb
 have tp:=qzh b k C hC hCl h4 hp1 hb1
 refine⟨(hp1.put b 0 (Rc k C 4 0)).new (DC hp.next b (qE (C.take 4)) 4294967295),hp1.next,hp.next,cb,?_,qz (hp1.put b 0 _) _,?_,?_,by omega,by omega,by omega,by omega,by omega⟩
 ·have p0:∀(x0 x1 x2 x3 z:AV),qh [x0,x1,x2,x3] 0 [z]=some [z,x1,x2,x3]:=fun _ _ _ _ _=>rfl
  have p1:∀(x0 x1 x2 x3 z:AV),qh [x0,x1,x2,x3] 1 [z]=some [x0,z,x2,x3]:=fun _ _ _ _ _=>rfl
  have p2:∀(x0 x1 x2 x3 z:AV),qh [x0,x1,x2,x3] 2 [z]=some [x0,x1,z,x3]:=fun _ _ _ _ _=>rfl
  have p3:∀(x0 x1 x2 x3 z:AV),qh [x0,x1,x2,x3] 3 [z]=some [x0,x1,x2,z]:=fun _ _ _ _ _=>rfl
  have hn:(hp1.put b 0 (Rc k C 4 0)).next=hp1.next:=rfl
  have cp:∀a,qg 1 (.ptr a 0 0)=some [.ptr a 0 0]:=fun _=>rfl
  rw[E153]
  generalize qE (C.take 4)=N at*
  generalize hp1.put b 0 (Rc k C 4 0)=H1 at*
  simp[a1,tp,p0,p1,p2,p3,hn,cp]
  rfl
 ·rw[zX _ _ (show b≠(hp1.put b 0 (Rc k C 4 0)).next from(by omega:b≠hp1.next)),qi]
 ·have f1:Fm [b] hp1 (hp1.put b 0 (Rc k C 4 0)):=Fm.put hp1 b _ (by simp)
  exact(a2.fr f1 (by simp;omega) (by simp;omega)).fr (Fm.new [] (hp1.put b 0 (Rc k C 4 0)) _) (by simp) (by simp)
end
section
variable (d b m cb k:Nat)(C:List Int)(hC:By C)(hCl:C.length<=1000000)(n1:d≠b)(n2:d≠m)(n3:d≠cb)(n4:b≠m)(n5:b≠cb)(L:List Nat)(hL:L.length<=4096)
include hC hCl n1 n2 n3 n4 n5 hL
theorem qxq(X2:AV):∀(r:List Nat) (i:Nat) (s:En) (cs:List Nat) (code:Nat) (hp:Hp),L.drop i=r->i+r.length=L.length->(∀y∈r,y<64)->okM cs->Za s s.width->16777216<=s.width/\s.width<4294967296->qE C=eV (enc cs s r)->C.length=eK (enc cs s r)+4->
 qE (C.take (eK s+4))=eV s+code->hp.rd d 0=some (DC m b code s.width)->hp.rd b 0=some (Rc k C (eK s+4) 0)->MW hp m cb cs->
 ∃hp' p,B101_7 (.int .i64 64) X2 (.ptr b 0 0) (.ptr d 0 0) (S 2 1 (LI .u8 (nz (L.take i)))) (.int .i64 (L.length:Int)) (.int .i64 (i:Int)) hp=B101_12 (.int .i64 64) X2 (.ptr b 0 0) (S 2 1 (LI .u8 (nz L))) hp'/\hp'.rd b 0=some (Rc k C p 0):=by
 intro r
 induction r with
 |nil=>
  intro i s cs code hp h hil hr hm ho hw h1 h2 hcode hd hb hM
  have e:i=L.length:=by simpa using hil
  subst e
  refine⟨hp,_,?_,hb⟩
  rw[List.take_length,qb4]
  generalize nz L=L0
  simp
 |cons x r ih=>
  intro i s cs code hp h hil hr hm ho hw h1 h2 hcode hd hb hM
  obtain⟨e1,e2,hi,e3⟩:=qm h
  simp only[List.length_cons]at hil
  have hx:=hr x (by simp)
  have hr':∀y∈r,y<64:=fun y hy=>hr y (by simp[hy])
  obtain⟨hp1,code1,a1,a2,a3,a4,a5,a6,a7⟩:=qor d b m cb k x C hC hCl hx cs hm n1 n2 n3 n4 n5 s r code hp hr' ho hw h1 h2 hcode hd hb hM
  obtain⟨dd,b1,b2,b3,b4,b5,b6,b7⟩:=ZR s cs x hm hx ho ⟨hw.1,Nat.le_of_lt hw.2⟩
  have hlt2:(zj 4 (xg s cs x)).width<4294967296:=by
   apply qmn
   show s.width/cs.sum*cs.getD x 0<_
   have ht:=qI cs x (by have:=hm.1;omega)
   have hta:=qK cs (x+1)
   have hmul:s.width/cs.sum*cs.sum<=s.width:=Nat.div_mul_le_self _ _
   have hle:s.width/cs.sum*cs.getD x 0<=s.width/cs.sum*cs.sum:=Nat.mul_le_mul_left _ (by omega)
   omega
  obtain⟨hp2,p,c1,c2⟩:=ih (i+1) (zj 4 (xg s cs x)) (JT cs x) code1 hp1 e2 (by omega) hr' (Zr hm hx) b4 ⟨b5,hlt2⟩ h1 h2 a2 a3 a4 a5
  refine⟨hp2,p,?_,c2⟩
  have hlt:(i:Int)<(L.length:Int):=by omega
  have hx0:¬((x:Int)<0):=by omega
  have w1:IntKind.u8.wrap (x:Int)=(x:Int):=qT (by omega) (by omega)
  have w2:IntKind.i64.wrap ((i:Int)+1)=((i+1:Nat):Int):=by rw[qf]<;>omega
  have ap:=ZO .u8 (nz (L.take i)) 2 (.inr rfl) 1 (by decide) (x:Int) (by simp;omega)
  have es:nz (L.take i)++[(x:Int)]=nz (L.take (i+1)):=by
   have a1:L.take (i+1)=L.take i++[x]:=by rw[List.take_add_one,e1];rfl
   rw[a1,vi]
  rw[es]at ap
  rw[<-c1,qb4]
  have hi4:(i<L.length)=True:=by simp[hi]
  generalize nz (L.take (i+1))=L1 at*
  generalize nz (L.take i)=L0 at*
  generalize((i+1:Nat):Int)=I1 at*
  simp[hi4,a1,hx0,jn,w1,xx,ap,w2]
end
theorem qxm{l:List Nat}(hl:l.length<=1000)(h64:∀x∈l,x<64):4<=(xu l).length/\(xu l).length<=1000000:=by
 have a:=qds hl h64
 have b:=(Xr l h64).2
 omega
theorem qjr(L:List Nat)(t:Nat)(hL:L.length<=1000)(h64:∀x∈L,x<64)(hp:Hp):
 ∃hp',run cxX 101 [.sc (.int .i64 64),.sc (.int .i64 (L.length:Int)),S t 1 (LI .u8 (xu L))] hp=some (.tup [S 2 1 (LI .u8 (nz L)),.sc (.int .i64 0)],hp'):=by
 obtain⟨l4,lC⟩:=qxm hL h64
 have hC:By (xu L):=qxn L
 obtain⟨v1,v2⟩:=Xr L h64
 have rd0:=JZ (rk t) (xu L) hp
 rw[Wn]at rd0
 obtain⟨hp1,d,m,cb,a1,a2,a3,a4,n1,n2,n3,n4,n5⟩:=qjg hp.next (rk t) (xu L) hC lC l4 (hp.new (Rc (rk t) (xu L) 0 0)) (by simp) (qz _ _)
 obtain⟨hp2,p,b1,b2⟩:=qxq d hp.next m cb (rk t) (xu L) hC lC n1 n2 n3 n4 n5 L (by omega) (S t 1 (LI .u8 (xu L))) L 0 en0 cs0 (qE ((xu L).take 4)) hp1 rfl (by omega) h64 qv0 qv1 ⟨by decide,by decide⟩ v1 v2 (by
  show qE ((xu L).take (0+4))=0+_
  rw[Nat.zero_add,Nat.zero_add]) a2 a3 a4
 have er:=zH hp.next (rk t) (xu L) p 0 hp2 b2
 obtain⟨hp3,c1,c2⟩:=Wk L 3 (by omega) h64 hp0
 have c3:B101_12 (.int .i64 64) (S t 1 (LI .u8 (xu L))) (.ptr hp.next 0 0) (S 2 1 (LI .u8 (nz L))) hp2=some (.tup [S 2 1 (LI .u8 (nz L)),.sc (.int .i64 0)],hp2):=by
  rw[ql3]
  generalize nz L=L0 at*
  generalize xu L=C0 at*
  simp[er,c1]
 have b1':B101_7 (.int .i64 64) (S t 1 (LI .u8 (xu L))) (.ptr hp.next 0 0) (.ptr d 0 0) (S 2 1 []) (.int .i64 (L.length:Int)) (.int .i64 0) hp1=B101_12 (.int .i64 64) (S t 1 (LI .u8 (xu L))) (.ptr hp.next 0 0) (S 2 1 (LI .u8 (nz L))) hp2:=b1
 have m0:¬((L.length:Int)<0):=by omega
 have m1:¬((4096:Int)<(L.length:Int)):=by omega
 refine⟨hp2,?_⟩
 rw[E101]
 generalize hp.new (Rc (rk t) (xu L) 0 0)=H0 at*
 generalize xu L=C0 at*
 generalize nz L=L0 at*
 have m1':decide ((4096:Int)<(L.length:Int))=false:=decide_eq_false m1
 simp[m0,m1',qs8,rd0,a1,b1',c3]
theorem KG:ZM jw=0:=by simp[ZM,xo,jw,qi3,Xa]
theorem qei(k:Nat)(hp:Hp):run cxX 32 [S k 1 []] hp=some (.tup [S 2 1 [],.sc (.int .i64 0)],hp):=by
 rw[E32]
 simp[JQ]
theorem qcn(b k:Nat)(hp:Hp)(h:hp.rd b 0=some (Wc [])):run cxX 33 [S k 1 [],.ptr b 0 0] hp=some (.tup [],hp.put b 0 (Wc [0])):=by
 have u0:uv 0=[0]:=by rw[ZV (by decide)];rfl
 have wu:=zC b 0 [] (by decide) (by rw[u0];decide) hp h
 rw[u0]at wu
 have lz:∀k,yH (S k 1 [])=some 0:=fun k=>qwg k []
 have bz:∀x hp,B33_2 (.ptr b 0 0) x (.int .i64 0) (.int .i64 0) hp=some (.tup [],hp):=fun x hp=>by rw[Vh];simp
 simp at wu
 rw[E33]
 have w0:IntKind.u64.wrap 0=0:=rfl
 simp[wu,lz,bz,w0]
theorem qcr(hp:Hp):∃hp',run cxX 16 [yq jw gz 2 2 2 2 2 2] hp=some (.tup [S 1 1 (LI .u8 [0]),.sc (.int .i64 0)],hp'):=by
 have ck:=xl (zw (x:=jw) xP rfl 2 2 2 2 2 2) ql8 hp0
 rw[KG]at ck
 have ro:=qei 2 hp0
 have sp:=qcn hp.next 2 (hp.new (Wc [])) (qz _ _)
 have wb:=Zs hp.next [0] (by decide) ((hp.new (Wc [])).put hp.next 0 (Wc [0])) (qi _ _ _)
 refine⟨(hp.new [S 2 1 []]).put hp.next 0 [S 2 1 (LI .u8 [0])],?_⟩
 simp[yq,jw,gz,LF,fl]at ck
 simp only[Wc,nilI]at sp wb
 rw[E16]
 simp[yq,jw,gz,LF,fl,ql,qe,qj,ck,ro,sp,wb,qaz]
theorem XK(b k:Nat)(hp:Hp)(h:hp.rd b 0=some (Rc k [0] 0 0)):run cxX 43 [.ptr b 0 0] hp=some (S 2 1 [],hp.put b 0 (Rc k [0] 1 0)):=by
 have ru:=Ya b k [0] 4096 0 0 (by decide) (by decide) (by simp) (by simp) hp h
 have e:rU [0] 0 0 4096=(0,1,0):=by decide
 rw[e]at ru
 have er:=zH b k [0] 1 0 (hp.put b 0 (Rc k [0] 1 0)) (qi _ _ _)
 rw[E43]
 simp at ru
 simp[ru,Vg,qap,er]
theorem Vs(k:Nat)(hp:Hp):run cxX 44 [S k 1 []] hp=some (S 2 1 [],hp):=by
 have lz:∀k,yH (S k 1 [])=some 0:=fun k=>qwg k []
 rw[E44]
 simp[lz,Vf]
theorem qeh(n:Nat)(h:n<=1048576)(hp:Hp):run cxX 21 [.sc (.int .i64 (n:Int))] hp=some (.sc (.int .i64 (64*(n:Int)+16384)),hp):=by
 have m1:max (n:Int) 0=n:=by omega
 have m2:min (n:Int) 1048576=n:=by omega
 have w1:IntKind.i64.wrap (64*(n:Int))=64*(n:Int):=qf (by omega) (by omega)
 have w2:IntKind.i64.wrap (64*(n:Int)+16384)=64*(n:Int)+16384:=qf (by omega) (by omega)
 rw[E21]
 simp[m1,m2,w1,w2]
theorem Zf(n:Int)(hp:Hp):run cxX 41 [.sc (.pointer none),.sc (.int .i64 n)] hp=some (.sc (.int .i64 0),hp):=by
 rw[E41]
 simp
theorem Vr(k:Nat)(hp:Hp):∃hp',run cxX 17 [.sc (.int .u8 0),S k 1 (LI .u8 [0]),.sc (.pointer none)] hp=some (.tup [yq jw gz 2 2 2 2 2 2,.sc (.int .i64 0)],hp'):=by
 have ck:=xl (zw (x:=jw) xP rfl 2 2 2 2 2 2) ql8 hp0
 rw[KG]at ck
 have rm:=qeh 1 (by decide) hp0
 have mt:=Zf (64*((1:Nat):Int)+16384) hp
 have wr:=JZ (rk k) [0] hp
 have rt:=XK hp.next (rk k) (hp.new (Rc (rk k) [0] 0 0)) (qz _ _)
 have sl:=Vs 2 hp0
 have en:=qel hp.next (rk k) [0] 1 0 ((hp.new (Rc (rk k) [0] 0 0)).put hp.next 0 (Rc (rk k) [0] 1 0)) (by decide) (by decide) (qi _ _ _)
 refine⟨(hp.new (Rc (rk k) [0] 0 0)).put hp.next 0 (Rc (rk k) [0] 1 0),?_⟩
 simp[yq,jw,gz,LF,fl]at ck
 simp at rm mt wr en
 rw[E17]
 simp[yq,jw,gz,LF,fl,ql,qe,qj,qh,ck,rm,mt,wr,rt,sl,en,qaw]
theorem qe4(hp:Hp):∃hp',run cxX 10 [] hp=some (.sc (.bool true),hp'):=by
 obtain⟨h1,p0⟩:=qcr hp0
 obtain⟨h2,t0⟩:=Vr (rk 1) hp
 have bo:zn (LI .u8 [0])=some [0]:=rfl
 refine⟨h2,?_⟩
 simp[yq,jw,gz,LF,fl]at p0 t0
 rw[E10]
 simp[p0,t0,bo,qh,qj]
theorem QD{x:SkN}(f:Fine x)(g:Gs)(gw:g.W)(gn:g.nf=x.g)(a c d e q t:Nat)(b k:Nat)(l:List Int)(hl:l.length<=1000000000)(hp:Hp)(hr:hp.rd b 0=some (Rc k l l.length 0)):
 B17_24 (.ptr b 0 0) QY (Ze x g a c d e q t) hp=some (.tup [yq x g a c d e q t,.sc (.int .i64 0)],hp):=by
 have ck:=xl (zw gw gn (rk a) (rk c) (rk d) (rk e) (rk q) (rk t)) f.w hp0
 have en:=qel b k l l.length 0 hp hl (Nat.le_refl _) hr
 have e0:(if(0:Int)=0/\l.length<l.length then(15:Int)else 0)=0:=by simp
 rw[e0]at en
 rw[f.c]at ck
 rw[qaw]
 unfold yq at ck⊢
 unfold Ze QY
 simp[en,ql,qh,ck]
theorem qt0(b k:Nat)(l:List Int)(hl:l.length<=1000000000)(P:Int)(hP:4<=P/\P<=8)(L:List Nat)(hL:L.length=jA P)(h64:∀x∈L,x<64)(p:Nat)(hd:l.drop p=P::xu L)(hp:Hp)(hpl:p<=l.length)(hr:hp.rd b 0=some (Rc k l p 0)):
 ∃t,run cxX 47 [.ptr b 0 0] hp=some (.agg [.sc (.int .i64 P),S t 1 (LI .u8 (nz L))],hp.put b 0 (Rc k l l.length 0)):=by
 have hp256:jA P<=256:=by
  unfold jA
  exact Nat.le_trans (Nat.pow_le_pow_right (by decide) (show P.toNat<=8 by omega)) (by decide)
 have t0:=zM b k l hl hd hp hpl hr
 obtain⟨_,d0,hi0,_⟩:=qm hd
 have el:l.length=p+1+(xu L).length:=by
  have:=congrArg List.length d0
  simp only[List.length_drop]at this
  omega
 have d0':l.drop (p+1)=xu L++[]:=by rw[List.append_nil];exact d0
 have lf:=Yb b k l (p+1) 0 (hp.put b 0 (Rc k l (p+1) 0)) hl (by omega) (qi _ _ _)
 have eL:rL l (p+1) 0=(xu L).length:=by unfold rL;rw[if_pos rfl];omega
 rw[eL]at lf
 obtain⟨t,t1⟩:=ke b k l hl d0' (hp.put b 0 (Rc k l (p+1) 0)) (by omega) (qi _ _ _)
 rw[qp,<-el]at t1
 obtain⟨hpC,ct⟩:=qjr L (rk t) (by omega) h64 hp0
 have hn:=qey P hP hp0
 have w1:IntKind.i64.wrap P=P:=qf (by omega) (by omega)
 refine⟨3,?_⟩
 rw[E47]
 generalize hp.put b 0 (Rc k l (p+1) 0)=H1 at*
 generalize hp.put b 0 (Rc k l l.length 0)=H2 at*
 generalize xu L=C0 at*
 rw[hL]at ct
 generalize nz L=L0 at*
 simp[t0,yN,w1,hn,qh,qj,lf,t1,ct,qyp,ql]
theorem qw0{x:SkN}{v:AV}(hv:kY x v):kC x.g.lo/\kC x.g.hi/\∀k∈x.g.L,kC k:=by
 obtain⟨g,a,b,c,d,e,t,gw,gn,rfl⟩:=hv
 rw[<-gn]
 refine⟨Kl gw.lo,Kl gw.hi,fun k hk=>?_⟩
 obtain⟨w,hw,rfl⟩:=List.mem_map.mp hk
 exact Kl (gw.L w hw)
def gOf(g:GN):Gs:=⟨g.M,g.e0,g.e1,g.e2,g.e3,g.e4,g.e5,wk g.lo,wk g.hi,g.L.map wk⟩
theorem zes{g:GN}(h1:kC g.lo)(h2:kC g.hi)(h3:∀k∈g.L,kC k):(gOf g).nf=g:=by
 have e:(g.L.map wk).map kw=g.L:=by
  rw[List.map_map]
  have:∀k∈g.L,(kw∘wk) k=id k:=fun k hk=>(h3 k hk).2
  rw[List.map_congr_left this,List.map_id]
 unfold gOf Gs.nf
 simp only[h1.2,h2.2,e]
theorem zhd{g:GN}(p:g.Pos)(h1:kC g.lo)(h2:kC g.hi)(h3:∀k∈g.L,kC k)(hl:g.L.length<=16):(gOf g).W:=by
 obtain⟨p0,p1,p2,p3,p4,p5,p6⟩:=p
 refine⟨p0,p1,p2,p3,p4,p5,p6,VN _ h1.1,VN _ h2.1,fun w hw=>?_,by show(g.L.map wk).length<=_;rw[List.length_map];omega⟩
 obtain⟨k,hk,rfl⟩:=List.mem_map.mp hw
 exact VN _ (h3 k hk).1
theorem qt3{x:SkN}{v:AV}(hv:kY x v)(f:Fine x)(h64:H64 x)(k:Nat)(M:AV)(hro:AI.ro M=M)(hp hp1:Hp)(mt:run cxX 41 [M,.sc (.int .i64 (64*((qM x).length:Int)+16384))] hp=some (.sc (.int .i64 0),hp1)):
 ∃r hp',kY x r/\run cxX 17 [.sc (.int .u8 x.kind),S k 1 (LI .u8 (qM x)),M] hp=some (.tup [r,.sc (.int .i64 0)],hp')/\∀a,a<hp1.next->hp'.get a=hp1.get a:=by
 have nn:=qfh hv f h64
 have by8:=qz4 f h64
 have hk:=f.w.kind
 obtain⟨kd,on,_⟩:=zk.mp f.c
 have six:x.kind=0\/x.kind=1\/x.kind=2\/x.kind=3\/x.kind=4\/x.kind=5:=by omega
 have rm:=qeh (qM x).length (by omega) hp0
 have wr:=JZ (rk k) (qM x) hp1
 rw[Wn]at wr
 have hr0:(hp1.new (Rc (rk k) (qM x) 0 0)).rd hp1.next 0=some (Rc (rk k) (qM x) 0 0):=qz _ _
 have fr0:∀a,a<hp1.next->(hp1.new (Rc (rk k) (qM x) 0 0)).get a=hp1.get a:=fun a ha=>by
  have:a≠hp1.next:=by omega
  simp[Hp.new,this]
 have hn0:(hp1.new (Rc (rk k) (qM x) 0 0)).next=hp1.next+1:=rfl
 have hlen:¬((1048576:Int)<((qM x).length:Int)):=by omega
 have dlen:decide ((1048576:Int)<((qM x).length:Int))=false:=decide_eq_false hlen
 have d0:∀Y:List Int,qM x=Y->(qM x).drop 0=Y++[]:=fun Y h=>by rw[h,List.drop_zero,List.append_nil]
 rcases six with kk|kk|kk|kk|kk|kk
 ·have s:=QG f kk
  have eY:qM x=vx (jG (tn x.set)):=by unfold qM;rw[if_pos kk]
  have cl:=Xs (tn x.set)
  have tc:=qy5 (tn x.set)
  rw[XB]at cl tc
  obtain⟨hp2,a1,a2,a3,a4⟩:=qco hp1.next (rk k) (qM x) (by omega) by8 (jG (tn x.set)) (KE s.2.2.1) (by omega) (by omega) (qgw _ s.2.1) 0 [] (d0 _ eY) (hp1.new (Rc (rk k) (qM x) 0 0)) (by omega) (by rw[hn0];omega) hr0
  rw[<-eY,Nat.zero_add]at a2
  have sl:=qob (jG (tn x.set)) 3 (KE s.2.2.1) (by omega) (by omega) hp0
  rw[za2 _ s.2.1,s.2.2.2]at sl
  have ex:x={jw with kind:=0,set:=x.set}:=by
   rw[xo,if_pos kk,kk]at on;exact on
  have t24:=QD f gz xP (by rw[ex];rfl) 2 2 2 2 2 2 hp1.next (rk k) (qM x) (by omega) hp2 a2
  refine⟨_,hp2,zw xP (by rw[ex];rfl) 2 2 2 2 2 2,?_,fun a ha=>by rw[a4 a (by rw[hn0];omega) (by omega),fr0 a ha]⟩
  rw[<-t24,E17]
  generalize qM x=Y at*
  generalize hp1.new (Rc (rk k) Y 0 0)=H1 at*
  generalize csL (jG (tn x.set))=CL at*
  have e2:Ze x gz 2 2 2 2 2 2=Ze {jw with kind:=0,set:=x.set} gz 2 2 2 2 2 2:=congrArg (fun y=>Ze y gz 2 2 2 2 2 2) ex
  rw[e2]
  simp[dlen,rm,hro,mt,kk,wr,a1,sl,qh]
  rfl
 ·have s:=vH f kk h64
  have eY:qM x=uv x.K.toNat++yc (tn x.hs):=by unfold qM;rw[if_neg (by omega),if_pos kk]
  have eYl:(qM x).length=(uv x.K.toNat).length+(yc (tn x.hs)).length:=by rw[eY,List.length_append]
  have dd:(qM x).drop 0=uv x.K.toNat++(yc (tn x.hs)++[]):=by rw[eY,List.append_nil,List.drop_zero]
  have t0:=zL hp1.next (rk k) (qM x) (by omega) by8 (most:=1024) dd (by omega) (by omega) (hp1.new (Rc (rk k) (qM x) 0 0)) (Nat.zero_le _) hr0
  have d1:=qZ dd
  have q1:=zp (Nat.zero_le _) dd
  rw[Nat.zero_add]at t0 d1 q1
  obtain⟨hp2,a1,a2,a3,a4⟩:=qoc hp1.next (rk k) (qM x) (by omega) by8 (tn x.hs) (by rw[XB];exact s.2.1) s.2.2.2.1 s.2.2.1 (uv x.K.toNat).length [] d1 ((hp1.new (Rc (rk k) (qM x) 0 0)).put hp1.next 0 (Rc (rk k) (qM x) (uv x.K.toNat).length 0)) q1 (by show hp1.next<hp1.next+1;omega) (qi _ _ _)
  rw[<-eYl]at a2
  rw[s.2.2.2.2]at a1
  have ex:x={jw with kind:=1,K:=x.K,hs:=x.hs}:=by
   rw[xo,if_neg (by omega),if_pos kk,kk]at on;exact on
  have t24:=QD f gz xP (by rw[ex];rfl) 2 3 2 2 2 2 hp1.next (rk k) (qM x) (by omega) hp2 a2
  refine⟨_,hp2,zw xP (by rw[ex];rfl) 2 3 2 2 2 2,?_,fun a ha=>by
   have h1:a≠hp1.next:=by omega
   rw[a4 a (by show a<hp1.next+1;omega) h1,<-fr0 a ha];simp[Hp.put,h1]⟩
  have eK:((x.K.toNat:Nat):Int)=x.K:=by omega
  have w1:IntKind.i64.wrap x.K=x.K:=qf (by omega) (by omega)
  have lit:((1024:Nat):Int)=1024:=rfl
  rw[eK,lit]at t0
  rw[<-t24,E17]
  generalize qM x=Y at*
  generalize(hp1.new (Rc (rk k) Y 0 0)).put hp1.next 0 (Rc (rk k) Y (uv x.K.toNat).length 0)=H2 at*
  generalize hp1.new (Rc (rk k) Y 0 0)=H1 at*
  have e2:Ze x gz 2 3 2 2 2 2=Ze {jw with kind:=1,K:=x.K,hs:=x.hs} gz 2 3 2 2 2 2:=congrArg (fun y=>Ze y gz 2 3 2 2 2 2) ex
  rw[e2]
  simp[dlen,rm,hro,mt,kk,wr,t0,xS,w1,a1,qh]
  rfl
 ·have s:=vJ f kk
  have eY:qM x=x.P::xu (tn x.rg):=by unfold qM;rw[if_neg (by omega),if_neg (by omega),if_pos kk]
  obtain⟨t,a1⟩:=qt0 hp1.next (rk k) (qM x) (by omega) x.P s.1 (tn x.rg) (by rw[XB];exact s.2.1) s.2.2.2.1 0 (by rw[List.drop_zero];exact eY) (hp1.new (Rc (rk k) (qM x) 0 0)) (Nat.zero_le _) hr0
  rw[s.2.2.2.2]at a1
  have ex:x={jw with kind:=2,P:=x.P,rg:=x.rg}:=by
   rw[xo,if_neg (by omega),if_neg (by omega),if_pos kk,kk]at on;exact on
  have t24:=QD f gz xP (by rw[ex];rfl) 2 2 t 2 2 2 hp1.next (rk k) (qM x) (by omega) ((hp1.new (Rc (rk k) (qM x) 0 0)).put hp1.next 0 (Rc (rk k) (qM x) (qM x).length 0)) (qi _ _ _)
  refine⟨_,(hp1.new (Rc (rk k) (qM x) 0 0)).put hp1.next 0 (Rc (rk k) (qM x) (qM x).length 0),zw xP (by rw[ex];rfl) 2 2 t 2 2 2,?_,fun a ha=>?_⟩
  ·rw[<-t24,E17]
   generalize qM x=Y at*
   generalize(hp1.new (Rc (rk k) Y 0 0)).put hp1.next 0 (Rc (rk k) Y Y.length 0)=H2 at*
   generalize hp1.new (Rc (rk k) Y 0 0)=H1 at*
   have e2:Ze x gz 2 2 t 2 2 2=Ze {jw with kind:=2,P:=x.P,rg:=x.rg} gz 2 2 t 2 2 2:=congrArg (fun y=>Ze y gz 2 2 t 2 2 2) ex
   rw[e2]
   simp[dlen,rm,hro,mt,kk,wr,a1,qh]
   rfl
  ·have h1:a≠hp1.next:=by omega
   rw[<-fr0 a ha];simp[Hp.put,h1]
 ·have s:=vQ f kk
  have eY:qM x=uv x.B.toNat++[x.H]++yS (tn x.bs):=by unfold qM;rw[if_neg (by omega),if_neg (by omega),if_neg (by omega),if_pos kk]
  have eYl:(qM x).length=(uv x.B.toNat).length+1+(yS (tn x.bs)).length:=by rw[eY];simp only[List.length_append,List.length_singleton]
  have dd:(qM x).drop 0=uv x.B.toNat++(x.H::(yS (tn x.bs)++[])):=by rw[eY,List.append_nil,List.drop_zero];simp
  have t0:=zL hp1.next (rk k) (qM x) (by omega) by8 (most:=4096) dd (by omega) (by omega) (hp1.new (Rc (rk k) (qM x) 0 0)) (Nat.zero_le _) hr0
  have d1:=qZ dd
  have q1:=zp (Nat.zero_le _) dd
  rw[Nat.zero_add]at t0 d1 q1
  have t1:=zM hp1.next (rk k) (qM x) (by omega) d1 ((hp1.new (Rc (rk k) (qM x) 0 0)).put hp1.next 0 (Rc (rk k) (qM x) (uv x.B.toNat).length 0)) q1 (qi _ _ _)
  rw[qp]at t1
  obtain⟨_,d2,hi2,_⟩:=qm d1
  obtain⟨ta,tb,t2⟩:=qon (tn x.bs) (by rw[XB];exact s.2.2.1) s.2.2.2.2.1 s.2.2.2.1 hp1.next (rk k) (qM x) (by omega) by8 ((uv x.B.toNat).length+1) [] d2 ((hp1.new (Rc (rk k) (qM x) 0 0)).put hp1.next 0 (Rc (rk k) (qM x) ((uv x.B.toNat).length+1) 0)) (by omega) (qi _ _ _)
  rw[qp,<-eYl]at t2
  obtain⟨hpL,ls⟩:=Ye (tn x.bs) (by rw[XB];exact s.2.2.1) s.2.2.2.2.1 s.2.2.2.1 (rk ta) (rk tb) hp0
  rw[s.2.2.2.2.2]at ls
  have ex:x={jw with kind:=3,B:=x.B,H:=x.H,bs:=x.bs}:=by
   rw[xo,if_neg (by omega),if_neg (by omega),if_neg (by omega),if_pos kk,kk]at on;exact on
  have t24:=QD f gz xP (by rw[ex];rfl) 2 2 2 2 2 2 hp1.next (rk k) (qM x) (by omega) ((hp1.new (Rc (rk k) (qM x) 0 0)).put hp1.next 0 (Rc (rk k) (qM x) (qM x).length 0)) (qi _ _ _)
  refine⟨_,(hp1.new (Rc (rk k) (qM x) 0 0)).put hp1.next 0 (Rc (rk k) (qM x) (qM x).length 0),zw xP (by rw[ex];rfl) 2 2 2 2 2 2,?_,fun a ha=>?_⟩
  ·have eB:((x.B.toNat:Nat):Int)=x.B:=by omega
   have w1:IntKind.i64.wrap x.B=x.B:=qf (by omega) (by omega)
   have w2:IntKind.i64.wrap x.H=x.H:=qf (by omega) (by omega)
   have lit:((4096:Nat):Int)=4096:=rfl
   rw[eB,lit]at t0
   rw[<-t24,E17]
   unfold wZ at t2 ls
   generalize pk (qY (qy (tn x.bs)) (tn x.bs))=A at*
   generalize pk (qC (qy (tn x.bs)) 0 (tn x.bs))=Bh at*
   generalize qM x=Y at*
   generalize(hp1.new (Rc (rk k) Y 0 0)).put hp1.next 0 (Rc (rk k) Y Y.length 0)=H4 at*
   generalize(hp1.new (Rc (rk k) Y 0 0)).put hp1.next 0 (Rc (rk k) Y ((uv x.B.toNat).length+1) 0)=H3 at*
   generalize(hp1.new (Rc (rk k) Y 0 0)).put hp1.next 0 (Rc (rk k) Y (uv x.B.toNat).length 0)=H2 at*
   generalize hp1.new (Rc (rk k) Y 0 0)=H1 at*
   have e2:Ze x gz 2 2 2 2 2 2=Ze {jw with kind:=3,B:=x.B,H:=x.H,bs:=x.bs} gz 2 2 2 2 2 2:=congrArg (fun y=>Ze y gz 2 2 2 2 2 2) ex
   rw[e2]
   generalize((tn x.bs).length:Int)=N1 at*
   generalize((qA (tn x.bs):Nat):Int)=N2 at*
   generalize((qy (tn x.bs):Nat):Int)=N3 at*
   simp[dlen,rm,hro,mt,kk,wr,t0,xS,w1,t1,yN,w2,t2,ls,qh]
   rfl
  ·have h1:a≠hp1.next:=by omega
   rw[<-fr0 a ha];simp[Hp.put,h1]
 ·have s:=vP f kk
  have eY:qM x=[x.R]++uv x.C.toNat++yd x.C x.cs 0 0:=by unfold qM;rw[if_neg (by omega),if_neg (by omega),if_neg (by omega),if_neg (by omega),if_pos kk]
  obtain⟨hp2,a1,a2,a3⟩:=qt2 hp1.next (rk k) (qM x) (by omega) by8 x.R x.C s.1 s.2.1 x.cs s.2.2.1 f.w.cs 0 [] (d0 _ eY) (hp1.new (Rc (rk k) (qM x) 0 0)) (Nat.zero_le _) (by rw[hn0];omega) hr0
  rw[<-eY,Nat.zero_add]at a2
  have ex:x={jw with kind:=4,R:=x.R,C:=x.C,cs:=x.cs}:=by
   rw[xo,if_neg (by omega),if_neg (by omega),if_neg (by omega),if_neg (by omega),if_pos kk,kk]at on;exact on
  have t24:=QD f gz xP (by rw[ex];rfl) 2 2 2 2 0 2 hp1.next (rk k) (qM x) (by omega) hp2 a2
  refine⟨_,hp2,zw xP (by rw[ex];rfl) 2 2 2 2 0 2,?_,fun a ha=>by
   have h1:a≠hp1.next:=by omega
   rw[a3.2 a (by rw[hn0];omega) (by simp[h1]),fr0 a ha]⟩
  rw[<-t24,E17]
  generalize qM x=Y at*
  generalize hp1.new (Rc (rk k) Y 0 0)=H1 at*
  have e2:Ze x gz 2 2 2 2 0 2=Ze {jw with kind:=4,R:=x.R,C:=x.C,cs:=x.cs} gz 2 2 2 2 0 2:=congrArg (fun y=>Ze y gz 2 2 2 2 0 2) ex
  rw[e2]
  simp[dlen,rm,hro,mt,kk,wr,a1,qh]
  rfl
 ·have s:=vK f kk
  obtain⟨g1,g2,g3⟩:=qw0 hv
  have eY:qM x=vL x.gK x.g:=by unfold qM;rw[if_neg (by omega),if_neg (by omega),if_neg (by omega),if_neg (by omega),if_neg (by omega)]
  have a1:=qt1 hp1.next (rk k) (qM x) (by omega) by8 x.gK (by omega) x.g f.pos g1 g2 g3 (Qj s.2.1) s.2.2 0 [] (d0 _ eY) (hp1.new (Rc (rk k) (qM x) 0 0)) (Nat.zero_le _) hr0
  rw[<-eY,Nat.zero_add]at a1
  have ex:x={jw with kind:=5,gK:=x.gK,g:=x.g}:=by
   rw[xo,if_neg (by omega),if_neg (by omega),if_neg (by omega),if_neg (by omega),if_neg (by omega),if_pos kk,kk]at on;exact on
  have gw:=zhd f.pos g1 g2 g3 s.2.2
  have gn:=zes g1 g2 g3
  have t24:=QD f (gOf x.g) gw gn 2 2 2 2 2 2 hp1.next (rk k) (qM x) (by omega) ((hp1.new (Rc (rk k) (qM x) 0 0)).put hp1.next 0 (Rc (rk k) (qM x) (qM x).length 0)) (qi _ _ _)
  refine⟨_,(hp1.new (Rc (rk k) (qM x) 0 0)).put hp1.next 0 (Rc (rk k) (qM x) (qM x).length 0),zw gw gn 2 2 2 2 2 2,?_,fun a ha=>?_⟩
  ·rw[<-t24,E17]
   generalize qM x=Y at*
   generalize(hp1.new (Rc (rk k) Y 0 0)).put hp1.next 0 (Rc (rk k) Y Y.length 0)=H2 at*
   generalize hp1.new (Rc (rk k) Y 0 0)=H1 at*
   have e2:Ze x (gOf x.g) 2 2 2 2 2 2=Ze {jw with kind:=5,gK:=x.gK,g:=x.g} (gOf x.g) 2 2 2 2 2 2:=congrArg (fun y=>Ze y (gOf x.g) 2 2 2 2 2 2) ex
   rw[e2]
   simp[dlen,rm,hro,mt,kk,wr,a1,qh]
   rfl
  ·have h1:a≠hp1.next:=by omega
   rw[<-fr0 a ha];simp[Hp.put,h1]
end Go.Proofs.YtchmioacjkbfcaaGreat.AI
namespace Go.Proofs.YtchmioacjkbfcaaGreat.AI
open Go Go.RowKit Go.ChangeShapes Go.WideShapes Go.ChangeAt
set_option linter.unusedVariables false
set_option linter.unusedSimpArgs false
theorem vlP:∀(l:List (Int×Int)) (x:AV),x∈LP l->vl x=true
 |[],x,h=>by cases h
 |p::l,x,h=>by
  simp only[LP,List.mem_cons]at h
  rcases h with rfl|rfl|h
  ·rfl
  ·rfl
  ·exact vlP l x h
def VP:List (Int×Int)->List Value
 |[]=>[]
 |p::l=>.int .u64 p.1::.int .u8 p.2::VP l
theorem zcv:∀l,(VP l).length=2*l.length
 |[]=>rfl
 |p::l=>by simp only[VP,List.length_cons,zcv l];omega
theorem zcy:∀(l:List (Int×Int)) (i:Nat) (v:Value),(VP l)[i]?=some v->∃p,l[i/2]?=some p/\v=if i%2=0 then .int .u64 p.1 else .int .u8 p.2
 |[],i,v,h=>by simp[VP]at h
 |p::l,0,v,h=>by
  simp only[VP,List.getElem?_cons_zero,Option.some.injEq]at h
  exact⟨p,rfl,by simp[h]⟩
 |p::l,1,v,h=>by
  simp only[VP,List.getElem?_cons_succ,List.getElem?_cons_zero,Option.some.injEq]at h
  exact⟨p,rfl,by simp[h]⟩
 |p::l,i+2,v,h=>by
  simp only[VP,List.getElem?_cons_succ]at h
  obtain⟨q,h1,h2⟩:=zcy l i v h
  refine⟨q,?_,?_⟩
  ·rw[show(i+2)/2=i/2+1 by omega,List.getElem?_cons_succ];exact h1
  ·rw[show(i+2)%2=i%2 by omega];exact h2
theorem zcm:∀(l:List (Int×Int)) (i:Nat) (x:AV) (v:Value),(LP l)[i]?=some x->(VP l)[i]?=some v->x= .sc v/\v.oneCell'=true
 |[],i,x,v,h,_=>by simp[LP]at h
 |p::l,0,x,v,h,h'=>by
  simp only[LP,VP,List.getElem?_cons_zero,Option.some.injEq]at h h'
  subst h h'
  exact⟨rfl,rfl⟩
 |p::l,1,x,v,h,h'=>by
  simp only[LP,VP,List.getElem?_cons_succ,List.getElem?_cons_zero,Option.some.injEq]at h h'
  subst h h'
  exact⟨rfl,rfl⟩
 |p::l,i+2,x,v,h,h'=>by
  simp only[LP,VP,List.getElem?_cons_succ]at h h'
  exact zcm l i x v h h'
section
variable {H:Type}{enc:TypeId×Value->H}{P:Program}{W:World}{fuel:Nat}{t e tu t8:TypeId}{cs:List Value}{y:DataW H×List MemPlace}{fs:Array Field}
theorem rd_pairs{f0 f1:Field}(ht:P.underlying t=some (.slice e))(he:P.underlying e=some (.struct #[f0,f1])) (h0:P.underlying f0.type=some (.int .u64)) (h1:P.underlying f1.type=some (.int .u8))
 (o0:f0.offset=0) (o1:f1.offset=1) (hc:P.cellsOf e=2) (c0:P.cellsOf f0.type=1) (c1:P.cellsOf f1.type=1) (h:DataW.trod enc P W 0 (fun _=>true) true fuel t cs=some y):
 ∃k l v,cs=[v]/\RelR (Kp W) W (S k 2 (LP l)) v/\∀p∈l,InI p:=by
 rcases DataW.trod_slice ht h with⟨hcs,_⟩|⟨a,len,cap,elems,rest,n,_,hcs,_,_,hl,_,hlen,hel,_,_⟩
 ·exact⟨2,[],_,hcs,.sc nil0 rfl,by simp⟩
 ·have each:∀i,i<len->∃p:Int×Int,InI p/\W.cell? (a.add (i*2))=some (.int .u64 p.1)/\W.cell? (a.add (i*2+1))=some (.int .u8 p.2):=by
   intro i hi
   have hb:=hel i hi
   rw[List.getElem?_eq_getElem (by omega),hc,Option.bind_eq_some_iff]at hb
   obtain⟨cs',hcs',hy'⟩:=hb
   obtain⟨xs,m,_,_,hcl,hxl,hf⟩:=DataW.trod_struct he hy'
   have g0:=hf 0 f0 rfl
   have g1:=hf 1 f1 rfl
   rw[o0,c0]at g0
   rw[o1,c1]at g1
   rw[hc]at hcl
   obtain⟨y0,hy0⟩:∃y,xs[0]?=some y:=⟨_,List.getElem?_eq_getElem (by rw[hxl];simp)⟩
   obtain⟨y1,hy1⟩:∃y,xs[1]?=some y:=⟨_,List.getElem?_eq_getElem (by rw[hxl];simp)⟩
   rw[hy0]at g0
   rw[hy1]at g1
   obtain⟨n0,q0,w0⟩:=rd_int h0 g0
   obtain⟨n1,q1,w1⟩:=rd_int h1 g1
   have z0:=cell_at q0
   have z1:=cell_at q1
   have hc3:=(World.cells?_some hcs').2.2
   refine⟨(n0,n1),⟨w0.u64,w1.u8⟩,?_,?_⟩
   ·have:=hc3 0 (by omega)
    rw[Addr.add_add,Nat.add_zero]at this
    rw[this];exact z0
   ·have:=hc3 1 (by omega)
    rw[Addr.add_add]at this
    rw[this];exact z1
  have ch:∃f:Nat->Int×Int,∀i,i<len->InI (f i)/\W.cell? (a.add (i*2))=some (.int .u64 (f i).1)/\W.cell? (a.add (i*2+1))=some (.int .u8 (f i).2):=by
   refine⟨fun i=>if hi:i<len then(each i hi).choose else(0,0),fun i hi=>?_⟩
   simp only[dif_pos hi]
   exact(each i hi).choose_spec
  obtain⟨f,hf⟩:=ch
  have hg:∀(i:Nat) (p:Int×Int),((List.range len).map f)[i]?=some p->i<len/\p=f i:=by
   intro i p hp
   rw[List.getElem?_map,Option.map_eq_some_iff]at hp
   obtain⟨j,hj,rfl⟩:=hp
   obtain⟨h1,h2⟩:=List.getElem?_eq_some_iff.mp hj
   simp at h1 h2
   subst h2
   exact⟨h1,rfl⟩
  refine⟨0,(List.range len).map f,_,hcs,?_,?_⟩
  ·have:=qxx (W:=W) (a:=a) (n:=len) (cap:=cap) (sz:=2) (cs:=LP ((List.range len).map f)) (vs:=VP ((List.range len).map f)) (by omega) (by rw[qf2];simp;omega) (by rw[qf2,zcv]) hl
    (fun i v hv=>by
     obtain⟨p,hp,rfl⟩:=zcy _ i v hv
     obtain⟨hi,rfl⟩:=hg _ _ hp
     obtain⟨_,q0,q1⟩:=hf _ hi
     by_cases hm:i%2=0
     ·rw[if_pos hm,<-q0]
      congr 2
      omega
     ·rw[if_neg hm,<-q1]
      congr 2
      omega)
    (fun x hx=>vlP _ x hx)
    (fun i x v hx hv=>by
     obtain⟨rfl,ho⟩:=zcm _ i x v hx hv
     exact .sc _ ho)
   exact this (fun _=>.fr)
  ·intro p hp
   obtain⟨i,hi,rfl⟩:=List.mem_map.mp hp
   exact(hf i (by simpa using hi)).1
end
end Go.Proofs.YtchmioacjkbfcaaGreat.AI
namespace Go.Proofs.YtchmioacjkbfcaaGreat.AI
open Go
set_option linter.unusedVariables false
set_option linter.unusedSimpArgs false
set_option maxRecDepth 100000
set_option maxHeartbeats 0
theorem gS7p(a b c d e f g:AV):ql [a,b,c,d,e,f,g] 0 7=some [a,b,c,d,e,f,g]:=rfl
theorem qcs(s:Sm)(k1 k2:Nat)(oks:s.Ok)(hp:Hp):∃hp',run cxX 5 [smA s k1 k2] hp=some (.sc (.bool true),hp'):=by
 have lt:=fun k k' hp=>qoh s k k' hp
 obtain⟨ha,aw⟩:=qe4 hp0
 rw[E5]
 by_cases hs:s.hs.length<=40/\s.fl.length<=40
 ·simp only[eq_true hs,decide_true]at lt
  obtain⟨r,hr,e⟩:=qi8 s (rk k1) (rk k2) oks hs.1 hs.2 hp0
  have fx:=qcj s oks hs.1 hs.2
  have hx:=qeb s oks
  generalize vW s=x at hr fx hx
  obtain⟨M,rfl,ml,mv,mc⟩:=hr.cl
  obtain⟨h1,p1⟩:=qzj mc.sk fx hx hp0
  obtain⟨t,lb,ht⟩:=qct mc.sk fx hx hp0
  obtain⟨r3,hp3,i3,t3,f3⟩:=qt3 mc.sk fx hx 0 (.sc (.pointer none)) rfl hp hp (Zf _ hp)
  obtain⟨M3,rfl,ml3,mv3,mc3⟩:=i3.cl
  have sm:=qi9 mc.sk mc3.sk fx.w fx.w hp0
  have g23:∀(l:List AV),l.length=23->ql l 0 23=some l:=fun l hl=>qp9 l 23 hl
  have l1:=mc.len;have v1:=mc.vl;have r1:=mc.ro
  have l2:=mc3.len;have v2:=mc3.vl;have r2:=mc3.ro
  have k0':qe M 0=some (.int .u8 x.kind):=(qp8 M 0).symm.trans mc.k0
  refine⟨hp3,?_⟩
  generalize qM x=Y at*
  simp[-List.map_map,-List.all_map,-List.all_eq_true,lt,aw,gS7p,e,ml,mv,g23,l1,v1,r1,qpe,p1,k0',t3,ml3,mv3,l2,v2,r2,lb,sm]
 ·simp only[eq_false hs,decide_false]at lt
  exact⟨hp,by simp[lt,aw,gS7p]⟩
theorem law_PackPuts(a:Int)(wa:InK .u8 a)(b:Int)(wb:InK .u8 b)(c:Int)(wc:InK .u8 c)(d:Int)(wd:InK .u16 d)(f:Bool)(k:Nat)(l:List Int)(wl:∀n∈l,InK .u64 n)(k':Nat)(m:List (Int×Int))(wm:∀p∈m,InI p)(hp:Hp):
 ∃hp',run cxX 5 [.agg [.sc (.int .u8 a),.sc (.int .u8 b),.sc (.int .u8 c),.sc (.int .u16 d),.sc (.bool f),S k 1 (LI .u64 l),S k' 2 (LP m)]] hp=some (.sc (.bool true),hp'):=
 qcs ⟨a,b,c,d,f,l,m⟩ k k' ⟨wa.u8,wb.u8,wc.u8,wd.u16,fun n hn=>(wl n hn).u64,wm⟩ hp
end Go.Proofs.YtchmioacjkbfcaaGreat.AI
