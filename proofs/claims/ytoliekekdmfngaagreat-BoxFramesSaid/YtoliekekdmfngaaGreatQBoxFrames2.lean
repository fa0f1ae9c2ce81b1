/- Texts that the proof of BoxFrames rests on, part 2. -/
import Derived.Test.YtoliekekdmfngaaGreatQBoxFrames1
import Derived.Lib.SliceRun
import Derived.Laws.Pointers
import Derived.Laws.BytesString
import Derived.Laws.AppendOwn
import Derived.Laws.IdiomStrings
import Derived.Laws.MakeOwn
import Derived.Great.BuildSlice
import Derived.Lib.ConvBytes
import Derived.MapKept
import Derived.Orders
namespace Go.Proofs.YtoliekekdmfngaaGreat.AI
open Go
set_option linter.unusedVariables false
set_option linter.unusedSimpArgs false
set_option maxRecDepth 100000
set_option maxHeartbeats 0
theorem qd{p:Prop}(h:p:=by kernel_rfl):p:=h
def vG:Operand->Nat
 | .tmp t=>t
 |_=>0
def jk(G:Gh)(w:World)(a:Act)(st':St)(a':Act)(w':World):Prop:=
 ∃G',Inv G' w' st' a'.tmps/\Fr G w G' w'/\a'.tmps.size=a.tmps.size/\a'.defers=a.defers
section
variable {c:Cx}{G:Gh}{w:World}{st:St}{a:Act}{P:Program}{o:Oper}{Q:Exit->Act->World->Prop}
theorem qq{v:Value}{w':World}{K:Act->World->Prop}(hr:(execOp a.eval o).run P w= .ok (.value v) w')(hk:K (a.put o.dst v) w'):o.wp P a w K Q:=by
 unfold Oper.wp;rw[hr];exact hk
theorem Kj{w':World}{K:Act->World->Prop}(hr:(execOp a.eval o).run P w= .ok .skip w')(hk:K (a.put o.dst undef) w'):o.wp P a w K Q:=by
 unfold Oper.wp;rw[hr];exact hk
theorem vz(hI:Inv G w st a.tmps)(x:Operand):qG G w (vG x) (zt st.sl x) (a.eval x):=by
 cases x with
 |tmp t=>exact hI.slots t
 |const v=>
  simp only[zt,vG,Act.eval]
  split
  ·rename_i cs
   split
   ·rename_i hall
    refine⟨cs.toList,qe,qe,fun i x c hx hc=>?_⟩
    obtain⟨y,hy,rfl⟩:=qr _ _ _ _ hx
    have e:y=c:=by rw[hy]at hc;exact zit hc
    subst e
    exact RelR.sc y (zja.mp hall y (zig hy))
   ·trivial
  ·trivial
  ·rename_i h1 h2
   refine⟨rfl,?_⟩
   cases v<;>first|rfl|exact(h1 _ rfl).elim|exact(h2 _ rfl).elim
 |global g=>trivial
 |func f=>exact RelR.fn f [] [] (.inr rfl) rfl (by intro k x c hx;simp at hx)
theorem yq(hI:Inv G w st a.tmps){x:Operand}{v:Value}(h:zt st.sl x= .sv v):a.eval x=v/\v.oneCell'=true:=by
 have:=vz hI x
 rw[h]at this
 exact⟨this.1,this.2⟩
theorem ju{s:SV}{v:Value}(h:xy s=some v):s= .sv v:=by
 cases s<;>simp[xy]at h
 rw[h]
theorem Inv.dn(hI:Inv G w st a.tmps)(ts:List Nat):Inv G w ⟨qB ts st.sl,st.bx,st.hp⟩ a.tmps where
 slots k:=by
  have h:=hI.slots k
  show qG G w k (qA (qB ts st.sl) k) _
  rw[zy]
  split
  ·exact qG.ro (Ev.refl G w) k (fun _ _ _ _ _ h=>h) h
  ·exact h
 boxes:=hI.boxes
 heap:=hI.heap
 next:=hI.next
 hlt:=hI.hlt
 new:=hI.new
 vars:=hI.vars
 lps j k g off h:=by
  have h':qA (qB ts st.sl) j= .lp k g off:=h
  rw[zy]at h'
  split at h'
  ·exact hI.lps j k g off (Jj.mp h')
  ·exact hI.lps j k g off h'
theorem Inv.put(hI:Inv G w st a.tmps)(d:Option Nat)(hd:∀k,d=some k->k<a.tmps.size){s:SV}{v:Value}(hs:∀k,d=some k->qG G w k s v)
 (hl:∀k g off,s= .lp k g off->∃g' cs,zQ st.bx k=some (g',cs)/\g<=g'):Inv G w ⟨wt st.sl d s,st.bx,st.hp⟩ (a.put d v).tmps:=by
 cases d with
 |none=>exact hI
 |some d=>
  exact{
   slots:=fun k=>by
    show qG G w k (qA ((d,s)::st.sl) k) _
    rw[ze,ZS a d v (hd d rfl)]
    split
    ·rename_i e;subst e;exact hs d rfl
    ·exact hI.slots k
   boxes:=hI.boxes
   heap:=hI.heap
   next:=hI.next
   hlt:=hI.hlt
   new:=hI.new
   vars:=hI.vars
   lps:=fun j k g off h=>by
    have h':qA ((d,s)::st.sl) j= .lp k g off:=h
    rw[ze]at h'
    split at h'
    ·exact hl k g off h'
    ·exact hI.lps j k g off h'}
theorem qy(hI:Inv G w st a.tmps)(h:Nat)(ho:qz h o st.sl=qB (qL h o) st.sl)(hd:∀k,o.dst=some k->k<a.tmps.size){s:SV}{v:Value}
 (hs:∀k,qG G w k s v) (hl:∀k g off,s= .lp k g off->∃g' cs,zQ st.bx k=some (g',cs)/\g<=g'):
 jk G w a (after h o st s none st.hp) (a.put o.dst v) w:=by
 refine⟨G,?_,Fr.refl G w,qZ _ _ _,qD _ _ _⟩
 unfold after
 rw[ho]
 exact(hI.dn (qL h o)).put o.dst hd (fun k _=>hs k) hl
def mvR(t d:Nat):Ow->Ow
 | .sl k j i=>if k=t then .sl d j i else .sl k j i
 |p=>p
theorem qz1(t d:Nat):Rho (mvR t d) where
 fr:=rfl
 oth:=rfl
 box p k g h:=by
  cases p<;>simp only[mvR]at h<;>first|exact h|(split at h<;>cases h)
 obj p k g h:=by
  cases p<;>simp only[mvR]at h<;>first|exact h|(split at h<;>cases h)
theorem Inv.relNew(hI:Inv G w st a.tmps){f:Ow->Ow}(hf:Rho f):(∀b,w.heap.size<=b->(G.rel f).Om b= .fr/\(G.rel f).I b=0)/\
 (∀b,(∃k g,(G.rel f).Om b= .box k g)\/(∃k g,(G.rel f).Om b= .obj k g)->(G.rel f).I b=0):=by
 refine⟨fun b hb=>⟨?_,(hI.new b hb).2⟩,fun b hb=>hI.vars b ?_⟩
 ·simp[Gh.rel,(hI.new b hb).1,hf.fr]
 ·rcases hb with⟨k,g,h⟩|⟨k,g,h⟩
  ·exact .inl ⟨k,g,hf.box _ _ _ h⟩
  ·exact .inr ⟨k,g,hf.obj _ _ _ h⟩
theorem qeb{k:TK}{j:Nat}{s:SV}{v:Value}(h:qG G w j s v):qG G w j (Wp k s) v:=by
 cases s with
 |sv u=>
  simp only[Wp]
  split
  ·exact h
  ·obtain⟨rfl,h1⟩:=h
   exact RelR.sc _ h1
 |_=>exact h
theorem qks{k:TK}{s:SV}{j g off:Nat}:Wp k s= .lp j g off↔s= .lp j g off:=by
 cases s<;>simp only[Wp]
 split<;>simp
theorem qiw(hI:Inv G w st a.tmps)(t d:Nat)(k:TK)(hd:d<a.tmps.size)(ts:List Nat)(hts:t∈ts):
 jk G w a ⟨(d,Wp k (qA st.sl t))::qB ts st.sl,st.bx,st.hp⟩ (a.put (some d) (a.tmps.getD t undef)) w:=by
 have hr:=qz1 t d
 have he:Ev G w (G.rel (mvR t d)) w:=(Fr.rel hr).ev
 refine⟨G.rel (mvR t d),?_,Fr.rel hr,qZ _ _ _,qD _ _ _⟩
 obtain⟨hn,hv⟩:=hI.relNew hr
 exact{
  slots:=fun j=>by
   show qG _ w j (qA ((d,Wp k (qA st.sl t))::qB ts st.sl) j) _
   rw[ze,ZS a d _ hd]
   split
   ·rename_i e;subst e
    refine qeb (qG.ev he (k:=t) (k':=d) (fun j i b hb=>⟨rfl,rfl,?_⟩) (fun _ _ _ _ _ h=>h) (hI.slots t))
    simp[Gh.rel,hb,mvR]
   ·rw[zy]
    split
    ·exact qG.ro he (k:=j) j (fun _ _ _ _ _ h=>h) (hI.slots j)
    ·rename_i hne
     refine qG.ev he (k:=j) (k':=j) (fun j' i b hb=>⟨rfl,rfl,?_⟩) (fun _ _ _ _ _ h=>h) (hI.slots j)
     have:j≠t:=by rintro rfl;exact hne hts
     simp[Gh.rel,hb,mvR,this]
  boxes:=fun j g cs h=>by
   obtain⟨blk,h1,h2,h3⟩:=hI.boxes j g cs h
   exact⟨blk,h1,by simp[Gh.rel,h2,mvR],h3.ev he rfl fun i b hb=>⟨rfl,rfl,by simp[Gh.rel,hb,mvR]⟩⟩
  heap:=fun j g cs h=>by
   obtain⟨blk,h1,h2,h3⟩:=hI.heap j g cs h
   exact⟨blk,h1,by simp[Gh.rel,h2,mvR],h3.ev he rfl fun i b hb=>⟨rfl,rfl,by simp[Gh.rel,hb,mvR]⟩⟩
  next:=hI.next
  hlt:=hI.hlt
  new:=hn
  vars:=hv
  lps:=fun i j g off h=>by
   have h':qA ((d,Wp k (qA st.sl t))::qB ts st.sl) i= .lp j g off:=h
   rw[ze]at h'
   split at h'
   ·exact hI.lps t j g off (qks.mp h')
   ·rw[zy]at h'
    split at h'
    ·exact hI.lps i j g off (Jj.mp h')
    ·exact hI.lps i j g off h'}
theorem qzw{x:Operand}(hx:∀t,x≠ .tmp t)(hI:Inv G w st a.tmps)(k:Nat):qG G w k (zt st.sl x) (a.eval x):=by
 have h:=vz hI x
 cases x with
 |tmp t=>exact absurd rfl (hx t)
 |const v=>
  revert h
  simp only[zt,vG,Act.eval]
  split
  ·split
   ·rintro⟨vs,h1,h2,h3⟩
    refine⟨vs,h1,h2,fun i x c hx hc=>?_⟩
    have:=h3 i x c hx hc
    obtain⟨y,hy,rfl⟩:=qr _ _ _ _ hx
    exact this
   ·exact id
  ·exact id
  ·exact id
 |global g=>trivial
 |func f=>exact RelR.fn f [] [] (.inr rfl) rfl (by intro k x c hx;simp at hx)
theorem zer{sl:Slots}{x:Operand}{k g off:Nat}(h:zt sl x= .lp k g off):∃t,x= .tmp t/\qA sl t= .lp k g off:=by
 cases x with
 |tmp t=>exact⟨t,rfl,h⟩
 |const v=>
  simp only[zt]at h
  split at h
  ·split at h<;>cases h
  ·cases h
  ·cases h
 |global g=>cases h
 |func f=>cases h
theorem qa1(hI:Inv G w st a.tmps){x:Operand}{k g off:Nat}(h:zt st.sl x= .lp k g off):∃g' cs,zQ st.bx k=some (g',cs)/\g<=g':=by
 obtain⟨t,rfl,ht⟩:=zer h
 exact hI.lps t k g off ht
theorem VZ(hI:Inv G w st a.tmps)(x:Operand)(k:TK)(h:Nat)(ho:qz h o st.sl=qB (zw [x]) st.sl)(hd:∀k,o.dst=some k->k<a.tmps.size):
 jk G w a (after h o st (Wp k (zt st.sl x)) none st.hp) (a.put o.dst (a.eval x)) w:=by
 unfold after
 rw[ho]
 cases hdst:o.dst with
 |none=>exact⟨G,hI.dn _,Fr.refl G w,rfl,rfl⟩
 |some d=>
  by_cases hx:∃t,x= .tmp t
  ·obtain⟨t,rfl⟩:=hx
   exact qiw hI t d k (hd d hdst) _ (by simp[zw])
  ·have hx':∀t,x≠ .tmp t:=fun t e=>hx ⟨t,e⟩
   have hto:zw [x]=[]:=by cases x<;>first|rfl|exact absurd rfl (hx' _)
   rw[hto]
   refine⟨G,?_,Fr.refl G w,qZ _ _ _,qD _ _ _⟩
   exact hI.put (some d) (fun k hk=>by cases hk;exact hd d hdst) (fun k _=>qeb (qzw hx' hI k)) (fun j g off e=>qa1 hI (qks.mp e))
end
theorem jq{α:Type}{P:Program}:∀{s:Sem α} {x:α},zO P s=some x->∀w,s.run P w= .ok x w:=by
 intro s
 induction s with
 |pure a=>intro x h w;simp only[zO]at h;cases h;rfl
 |program k ih=>intro x h w;simp only[zO]at h;simp only[Sem.run];exact ih P h w
 |mark m k ih=>intro x h w;simp only[zO]at h;simp only[Sem.run];exact ih h w
 |load _ _ _ _=>intro x h;cases h
 |store _ _ _ _ _=>intro x h;cases h
 |new _ _ _=>intro x h;cases h
 |shape _ _ _=>intro x h;cases h
 |freeze _ _ _ _=>intro x h;cases h
 |frozen _ _ _=>intro x h;cases h
 |getObj _ _ _=>intro x h;cases h
 |setObj _ _ _ _=>intro x h;cases h
 |choose _ _ _=>intro x h;cases h
 |sys _ _ _=>intro x h;cases h
 |halt _=>intro x h;cases h
theorem zX{o:Option Value}{z:Value}(h:one o=some z):o=some z/\z.oneCell'=true:=by
 unfold one at h
 obtain⟨y,hy,h⟩:=bsm h
 split at h
 ·cases h;exact⟨hy,by assumption⟩
 ·cases h
theorem JL{v:Value}{b:Bool}(h:asB v=some b):v= .bool b:=by
 cases v<;>simp[asB]at h
 rw[h]
theorem JK{v:Value}{n:Int}(h:ZK v=some n):∃k,v= .int k n:=by
 cases v<;>simp[ZK]at h
 exact⟨_,by rw[h]⟩
theorem qlw{v:Value}{s:ByteArray}(h:Qw v=some s):v= .string s:=by
 cases v<;>simp[Qw]at h
 rw[h]
theorem xq{v:Value}(h:kE v=true):v= .slice none 0 0:=by
 unfold kE at h
 split at h
 ·rfl
 ·cases h
theorem yX{x:AV}{v:Value}(h:vy x=some v):x= .sc v:=by
 cases x<;>simp[vy]at h
 rw[h]
theorem kJ{cs:List AV}{i:Nat}{v:Value}(h:qi cs i=some v):cs[i]?=some (.sc v):=by
 unfold qi at h
 obtain⟨x,hx,h⟩:=bsm h
 rw[hx,yX h]
section
variable {c:Cx}{G:Gh}{w:World}{st:St}{a:Act}{o:Oper}{Q:Exit->Act->World->Prop}
abbrev jy(o:Oper)(a:Act):Prop:=∀k,o.dst=some k->k<a.tmps.size
theorem vc(hI:Inv G w st a.tmps)(h:Nat)(ho:qz h o st.sl=qB (qL h o) st.sl)(hd:jy o a){z:Value}(h1:z.oneCell'=true)
 (hr:(execOp a.eval o).run c.P w= .ok (.value z) w):o.wp c.P a w (jk G w a (after h o st (.sv z) none st.hp)) Q:=
 qq hr (qy hI h ho hd (fun _=>⟨rfl,h1⟩) (fun _ _ _ e=>by cases e))
theorem qm4(hI:Inv G w st a.tmps)(hd:jy o a)(h:Nat){x:Operand}{k:TK}(hop:o.op= .move x):
 o.wp c.P a w (jk G w a (after h o st (if h=1 then Wp k (zt st.sl x)else Wp k (zt st.sl x).ro) none st.hp)) Q:=by
 have hr:(execOp a.eval o).run c.P w= .ok (.value (a.eval x)) w:=by simp only[execOp,hop];rfl
 refine qq hr ?_
 split
 ·rename_i h1
  exact VZ hI x k h (by simp[qz,qL,hop,h1]) hd
 ·rename_i h1
  refine qy hI h (by simp[qz,hop]) hd (fun j=>qeb (qG.ro (Ev.refl G w) j (fun _ _ _ _ _ h=>h) (vz hI x))) (fun j g off e=>qa1 hI (Jj.mp (qks.mp e)))
theorem qax(hI:Inv G w st a.tmps)(hd:jy o a)(h:Nat){x:Operand}{k:TK}(hop:o.op= .assign x):
 o.wp c.P a w (jk G w a (after h o st (Wp k (zt st.sl x)) none st.hp)) Q:=by
 have hr:(execOp a.eval o).run c.P w= .ok (.value (a.eval x)) w:=by simp only[execOp,hop];rfl
 exact qq hr (VZ hI x k h (by simp[qz,qL,hop]) hd)
theorem qzk(hI:Inv G w st a.tmps)(hd:jy o a)(h:Nat){x y z:Operand}(hop:o.op= .pick x y z){r:SV×BE×Hp}
 (hr:(KV (zt st.sl x) (zt st.sl y) (zt st.sl z) fun s=>some (s,none,st.hp))=some r):
 o.wp c.P a w (jk G w a (after h o st r.1 r.2.1 r.2.2)) Q:=by
 unfold KV at hr
 obtain⟨v,hv,hr⟩:=bsm hr
 obtain⟨t,ht,hr⟩:=bsm hr
 obtain⟨hx,_⟩:=yq hI (ju hv)
 rw[JL ht]at hx
 have hrun:(execOp a.eval o).run c.P w= .ok (.value (if t then a.eval y else a.eval z)) w:=by
  simp only[execOp,hop,hx,asBool];cases t<;>rfl
 refine qq hrun ?_
 split at hr
 ·rename_i u u' hy hz
  cases hr
  obtain⟨e1,o1⟩:=yq hI hy
  obtain⟨e2,o2⟩:=yq hI hz
  refine qy hI h (by simp[qz,hop]) hd (fun _=>?_) (fun _ _ _ e=>by cases e)
  rw[e1,e2]
  cases t
  ·exact⟨rfl,o2⟩
  ·exact⟨rfl,o1⟩
 ·cases t
  ·cases hr
   exact qy hI h (by simp[qz,hop]) hd (fun j=>qG.ro (Ev.refl G w) j (fun _ _ _ _ _ h=>h) (vz hI z)) (fun j g off e=>qa1 hI (Jj.mp e))
  ·cases hr
   exact qy hI h (by simp[qz,hop]) hd (fun j=>qG.ro (Ev.refl G w) j (fun _ _ _ _ _ h=>h) (vz hI y)) (fun j g off e=>qa1 hI (Jj.mp e))
theorem qbx:∀{cs:List AV} {vs l:List Value} {p:Nat->Ow},cs.length=vs.length->(∀(i:Nat) (x:AV) (c:Value),cs[i]?=some x->vs[i]?=some c->jx G w (p i) x c)->
 Xp cs=some l->vs=l
 |[],vs,l,p,hl,h,h'=>by
  simp only[Xp]at h';cases h'
  exact zi9.mp hl.symm
 |x::r,[],l,p,hl,h,h'=>by simp at hl
 |x::r,v::vs,l,p,hl,h,h'=>by
  have hx:=h 0 x v rfl rfl
  cases x with
  |sc u=>
   cases hx
   simp only[Xp]at h'
   cases hr:Xp r with
   |none=>rw[hr]at h';cases h'
   |some l'=>
    rw[hr]at h';cases h'
    have:=qbx (p:=fun i=>p (i+1)) (by simpa using hl) (fun i x c hx hc=>h (i+1) x c (by simpa using hx) (by simpa using hc)) hr
    rw[this]
  |_=>simp[Xp]at h'
theorem QS{p:Nat->Ow}{x:AV}{v u:Value}(h:zi G w p x v)(hc:Xl x=some u):v=u:=by
 cases x with
 |sc z=>
  simp only[Xl]at hc;cases hc
  cases h;rfl
 |agg cs=>
  obtain⟨vs,rfl,h2,h3⟩:=h
  simp only[Xl]at hc
  cases hl:Xp cs with
  |none=>rw[hl]at hc;cases hc
  |some l=>rw[hl]at hc;cases hc;rw[qbx h2 h3 hl]
 |_=>simp[Xl]at hc
theorem qqn(hI:Inv G w st a.tmps){x:Operand}{u:Value}(hc:qbg (zt st.sl x)=some u):a.eval x=u:=by
 have h:=vz hI x
 cases hs:zt st.sl x with
 |sv v=>rw[hs]at h hc;simp only[qbg]at hc;cases hc;exact h.1
 |av y=>rw[hs]at h hc;exact QS h hc
 |_=>rw[hs]at hc;simp[qbg]at hc
theorem qyq{op:BinOp}{t:TypeId}{x y:Operand}{u v z:Value}(hz:qs c.P op t x y u v=some z)(w:World):
 (do eqGuard op t x y u v;Go.binOp op t u v:Sem Value).run c.P w= .ok z w/\z.oneCell'=true:=
 ⟨jq (zX hz).1 w,(zX hz).2⟩
theorem qu2{p:Nat->Ow}{x:AV}{v:Value}{n:Bool}(h:zi G w p x v)(hn:qpy x=some n):
 (∃A N C,v= .slice (some A) N C/\n=false)\/(∃N C,v= .slice none N C/\n=true):=by
 cases x with
 |sl s cs=>cases hn;cases h<;>exact .inl ⟨_,_,_,rfl,rfl⟩
 |us s cs=>cases hn;obtain⟨b,_,ht⟩:=h;obtain⟨n,cap,arr,e,m,h1,_⟩:=ht.ex;exact .inl ⟨_,_,_,h1,rfl⟩
 |ms b g off l sz=>cases hn;cases h;exact .inl ⟨_,_,_,rfl,rfl⟩
 |sc u=>
  cases h
  cases v<;>simp[qpy]at hn
  rename_i A N C _
  cases A
  ·exact .inr ⟨_,_,rfl,(zit hn).symm⟩
  ·cases hn
 |_=>simp[qpy]at hn
theorem qu1{p:Nat->Ow}{x:AV}{v:Value}{n:Bool}(h:zi G w p x v)(hn:Yu x=some n):∃A:Option Addr,v= .pointer A/\n=A.isNone:=by
 cases x with
 |ptr b g off=>cases hn;cases h;exact⟨_,rfl,rfl⟩
 |sc u=>
  cases h
  cases v<;>try (simp[Yu]at hn;done)
  rename_i A _
  cases A with
  |none=>exact⟨none,rfl,(zit hn).symm⟩
  |some q=>cases hn
 |_=>simp[Yu]at hn
theorem qp8{v:Value}(h:qk7 v=true):v= .pointer none:=by
 unfold qk7 at h
 split at h
 ·rfl
 ·cases h
theorem qf8{P:Program}{t e:TypeId}(h:P.underlying t=some (.slice e))(x y:Operand)(A:Option Addr)(N C:Nat)(w:World):
 (do eqGuard .eql t x y (.slice A N C) nil0;Go.binOp .eql t (.slice A N C) nil0:Sem Value).run P w= .ok (.bool A.isNone) w:=by
 have h1:eqGuard .eql t x y (.slice A N C) nil0=pure ():=rfl
 rw[h1,pure_bind]
 simp only[Go.binOp,nil0]
 simp[Op.equal,Op.maxDepth,Lib.run_equalIn_slice_nil w 9999 t e A N C 0 0 h]
theorem qfz{P:Program}{t e:TypeId}(h:P.underlying t=some (.slice e))(x y:Operand)(A:Option Addr)(N C:Nat)(w:World):
 (do eqGuard .neq t x y (.slice A N C) nil0;Go.binOp .neq t (.slice A N C) nil0:Sem Value).run P w= .ok (.bool (!A.isNone)) w:=by
 have h1:eqGuard .neq t x y (.slice A N C) nil0=pure ():=rfl
 rw[h1,pure_bind]
 simp only[Go.binOp,nil0]
 simp[Op.equal,Op.maxDepth,Lib.run_equalIn_slice_nil w 9999 t e A N C 0 0 h]
theorem zdv(hc:Ok c)(hI:Inv G w st a.tmps)(hd:jy o a)(h:Nat){op:BinOp}{t yt:TypeId}{x y:Operand}(hop:o.op= .binOp op t x y yt){r:SV×BE×Hp}
 (hr:(qlu c op t x y (zt st.sl x) (zt st.sl y) fun s=>some (s,none,st.hp))=some r):o.wp c.P a w (jk G w a (after h o st r.1 r.2.1 r.2.2)) Q:=by
 have key:∀u v z,a.eval x=u->a.eval y=v->qs c.P op t x y u v=some z->o.wp c.P a w (jk G w a (after h o st (.sv z) none st.hp)) Q:=by
  intro u v z hu hv hz
  obtain⟨h1,h2⟩:=qyq hz w
  refine vc hI h (by simp[qz,hop]) hd h2 ?_
  simp only[execOp,hop,hu,hv]
  rw[Sem.run_bind,h1];rfl
 have hxr:=vz hI x
 have hyr:=vz hI y
 unfold qlu at hr
 split at hr
 ·rename_i u v hx hy
  obtain⟨z,hz,hr⟩:=bsm hr
  cases hr
  exact key u v z (yq hI hx).1 (yq hI hy).1 hz
 ·rename_i u v hx hy
  have hyv:=(yq hI hy).1
  rw[hx]at hxr
  split at hr
  ·rename_i hn
   have hv:=xq hn
   subst hv
   split at hr
   ·rename_i ti hti
    split at hr
    ·rename_i e he
     obtain⟨n,hn',hr⟩:=bsm hr
     obtain⟨d,hd1,hd2⟩:=(hc.tt t ti (qp hti).1).und
     rw[he]at hd2
     have hd2:d= .slice e:=hd2
     subst hd2
     have hform:∃A N C,a.eval x= .slice A N C/\n=A.isNone:=by
      rcases qu2 hxr hn' with⟨A,N,C,h1,rfl⟩|⟨N,C,h1,rfl⟩
      ·exact⟨_,_,_,h1,rfl⟩
      ·exact⟨_,_,_,h1,rfl⟩
     obtain⟨A,N,C,hA,rfl⟩:=hform
     cases op<;>simp only at hr<;>cases hr
     ·refine vc hI h (by simp[qz,hop]) hd rfl ?_
      simp only[execOp,hop,hA,hyv]
      rw[Sem.run_bind]
      have:=qf8 hd1 x y A N C w
      unfold nil0 at this
      rw[this];rfl
     ·refine vc hI h (by simp[qz,hop]) hd rfl ?_
      simp only[execOp,hop,hA,hyv]
      rw[Sem.run_bind]
      have:=qfz hd1 x y A N C w
      unfold nil0 at this
      rw[this];rfl
    ·cases hr
   ·cases hr
  ·split at hr
   ·rename_i hn
    have hv:=qp8 hn
    subst hv
    split at hr
    ·rename_i ti hti
     split at hr
     ·rename_i hp
      obtain⟨n,hn',hr⟩:=bsm hr
      obtain⟨e,he⟩:=hc.tp t ti (qp hti).1 hp
      have he:c.P.underlying t=some (.pointer (c.P.pointee t)):=by simp[Program.pointee,he]
      obtain⟨A,hA,rfl⟩:=qu1 hxr hn'
      cases op<;>simp only at hr<;>cases hr
      ·refine vc hI h (by simp[qz,hop]) hd rfl ?_
       simp only[execOp,hop,hA,hyv]
       have h1:eqGuard .eql t x y (.pointer A) (.pointer none)=pure ():=rfl
       rw[h1,pure_bind,Sem.run_bind,run_eql_pointer_nil w t A he];rfl
      ·refine vc hI h (by simp[qz,hop]) hd rfl ?_
       simp only[execOp,hop,hA,hyv]
       have h1:eqGuard .neq t x y (.pointer A) (.pointer none)=pure ():=rfl
       rw[h1,pure_bind,Sem.run_bind,run_neq_pointer_nil w t A he];rfl
     ·cases hr
    ·cases hr
   ·obtain⟨v',hv',hr⟩:=bsm hr
    obtain⟨z,hz,hr⟩:=bsm hr
    cases hr
    exact key v' v z (QS hxr hv') hyv hz
 ·rename_i u v hx hy
  rw[hx]at hxr
  rw[hy]at hyr
  obtain⟨v',hv',hr⟩:=bsm hr
  obtain⟨w',hw',hr⟩:=bsm hr
  obtain⟨z,hz,hr⟩:=bsm hr
  cases hr
  exact key v' w' z (QS hxr hv') (QS hyr hw') hz
 ·cases hr
theorem zgt(hI:Inv G w st a.tmps)(hd:jy o a)(h:Nat){op:UnOp}{t:TypeId}{x:Operand}(hop:o.op= .unOp op t x){r:SV×BE×Hp}
 (hr:((xy (zt st.sl x)).bind fun v=>(unV c.P op v).bind fun z=>some (SV.sv z,(none:BE),st.hp))=some r):o.wp c.P a w (jk G w a (after h o st r.1 r.2.1 r.2.2)) Q:=by
 obtain⟨v,hv,hr⟩:=bsm hr
 obtain⟨z,hz,hr⟩:=bsm hr
 cases hr
 obtain⟨hx,_⟩:=yq hI (ju hv)
 refine vc hI h (by simp[qz,hop]) hd (zX hz).2 ?_
 simp only[execOp,hop,hx]
 rw[Sem.run_bind,jq (zX hz).1 w];rfl
theorem qup(hI:Inv G w st a.tmps)(hd:jy o a)(h:Nat){t:TypeId}{x i:Operand}(hop:o.op= .index t x i){r:SV×BE×Hp}
 (hr:((qbg (zt st.sl x)).bind fun u=>(xy (zt st.sl i)).bind fun iv=>(ixV c.P t u iv).bind fun z=>some (SV.sv z,(none:BE),st.hp))=some r):
 o.wp c.P a w (jk G w a (after h o st r.1 r.2.1 r.2.2)) Q:=by
 obtain⟨u,hu,hr⟩:=bsm hr
 obtain⟨v,hv,hr⟩:=bsm hr
 obtain⟨z,hz,hr⟩:=bsm hr
 cases hr
 obtain⟨hi,_⟩:=yq hI (ju hv)
 refine vc hI h (by simp[qz,hop]) hd (zX hz).2 ?_
 simp only[execOp,hop,hi,qqn hI hu]
 rw[Sem.run_bind,jq (zX hz).1 w];rfl
theorem qgw(hI:Inv G w st a.tmps)(hd:jy o a)(h:Nat){x:Operand}(hop:o.op= .nilCheck x){r:SV×BE×Hp}
 (hr:(match zt st.sl x with
  | .lp k g off=>some (SV.lp k g off,(none:BE),st.hp)
  | .av y=>(WH y).bind fun _=>some (SV.av y,none,st.hp)
  |_=>none)=some r):o.wp c.P a w (jk G w a (after h o st r.1 r.2.1 r.2.2)) Q:=by
 have hxr:=vz hI x
 split at hr
 ·rename_i k g off hx
  cases hr
  rw[hx]at hxr
  obtain⟨blk,h1,h2⟩:=hxr
  refine qq (v:=a.eval x) (w':=w) (by simp only[execOp,hop,h2];rfl) ?_
  exact qy hI h (by simp[qz,hop]) hd (fun _=>⟨blk,h1,h2⟩) (fun k' g' off' e=>by cases e;exact qa1 hI hx)
 ·rename_i y hx
  rw[hx]at hxr
  obtain⟨u,hu,hr⟩:=bsm hr
  cases hr
  have hrun:(execOp a.eval o).run c.P w= .ok (.value (a.eval x)) w:=by
   have hxr':jx G w (.sl (vG x) 0 0) y (a.eval x):=by
    rw[<-kr (p:=fun i=>.sl (vG x) 0 i)]
    ·exact hxr
    ·rintro cs rfl;simp[WH]at hu
   simp only[execOp,hop]
   cases y with
   |ptr b g off=>
    generalize a.eval x=v at hxr'⊢
    cases hxr';rfl
   |fn f caps=>
    generalize a.eval x=v at hxr'⊢
    cases hxr'<;>rfl
   |_=>simp[WH]at hu
  refine qq hrun (qy hI h (by simp[qz,qL,hop,qB]) hd (fun j=>?_) (fun _ _ _ e=>by cases e))
  cases y with
  |ptr b g off=>exact hxr
  |fn f caps=>exact hxr
  |_=>simp[WH]at hu
 ·cases hr
end
section
variable {c:Cx}{G:Gh}{w:World}{st:St}{a:Act}{o:Oper}{Q:Exit->Act->World->Prop}
theorem qS(b off n:Nat):(⟨b,off,none⟩:Addr).add n=⟨b,off+n,none⟩:=by
 unfold Addr.add;split
 ·subst_vars;simp
 ·simp
theorem xu{x:AV}{p:Nat×Nat×Nat}(h:zP x=some p):x= .ptr p.1 p.2.1 p.2.2:=by
 cases x<;>simp[zP]at h
 subst h;rfl
theorem qM{p:Prop}[Decidable p]{u:Unit}(h:yk p=some u):p:=by
 unfold yk at h
 split at h
 ·assumption
 ·cases h
theorem qbh{a b:Nat}{u:Unit}(h:jf a b=some u):a=b:=qM h
theorem vO{b:Bool}{u:Unit}(h:VB b=some u):b=true:=qM h
theorem qg5{cs:List AV}{u:Unit}(h:vh cs=some u):cs.all vl=true:=qM h
theorem kK{x:AV}{p:Nat×Nat×Nat×Nat×Nat}(h:qN x=some p):x= .ms p.1 p.2.1 p.2.2.1 p.2.2.2.1 p.2.2.2.2:=by
 cases x<;>simp[qN]at h
 subst h;rfl
theorem qy2{b g off:Nat}{p:Nat->Ow}{v:Value}(h:zi G w p (.ptr b g off) v):∃blk,G.mu b g=some blk/\v= .pointer (some ⟨blk,off,none⟩):=by
 have h':RelR G w (.ptr b g off) v:=h
 cases h' with
 |ptr _ _ _ blk h2=>exact⟨blk,h2,rfl⟩
theorem WD{b g off n sz:Nat}{p:Nat->Ow}{v:Value}(h:zi G w p (.ms b g off n sz) v):
 ∃blk cap off' z,G.mu b g=some blk/\n<=cap/\(0<n->off'=off)/\v= .slice (some ⟨blk,off',none⟩) n cap/\VK w blk=some z/\off'+cap*sz<=z:=by
 have h':RelR G w (.ms b g off n sz) v:=h
 cases h' with
 |ms _ _ _ _ _ cap blk off' z h2 h3 h4 h5 h6=>exact⟨blk,cap,off',z,h2,h3,h4,rfl,h5,h6⟩
def shift(n:Nat):SV->Option SV
 | .lp k g off=>some (.lp k g (off+n))
 | .rv cs=>some (.rv (cs.drop n))
 | .av (.ptr b g off)=>some (.av (.ptr b g (off+n)))
 |_=>none
theorem qok{n:Nat}{s s':SV}{k:Nat}{v:Value}(hs:shift n s=some s')(h:qG G w k s v):
 ∃A:Addr,v= .pointer (some A)/\∀j,qG G w j s' (.pointer (some (A.add n))):=by
 cases s with
 |lp k' g off=>
  cases hs
  obtain⟨blk,h1,rfl⟩:=h
  exact⟨_,rfl,fun j=>⟨blk,h1,by rw[qS]⟩⟩
 |rv cs=>
  cases hs
  obtain⟨b,o,vs,rfl,h2,h3,h4,h5⟩:=h
  refine⟨_,rfl,fun j=>⟨b,o+n,vs.drop n,by rw[qS],by simp[h2],fun i hi=>by rw[zkq];exact h3 (n+i) (by simp at hi;omega),fun i c hc=>?_,fun i x c hx hc=>?_⟩⟩
  ·rw[zkq];exact h4 (n+i) c (by rw[<-hc];simp)
  ·exact h5 (n+i) x c (by rw[<-hx];simp) (by rw[<-hc];simp)
 |av x=>
  cases x with
  |ptr b g off=>
   cases hs
   obtain⟨blk,h1,rfl⟩:=qy2 (p:=fun i=>.sl k 0 i) h
   exact⟨_,rfl,fun j=>by rw[qS];exact RelR.ptr b g _ blk h1⟩
  |_=>cases hs
 |_=>cases hs
theorem qta{n:Nat}{s:SV}{k g off:Nat}(hs:shift n s=some (.lp k g off)):∃off',s= .lp k g off':=by
 cases s with
 |lp k' g' off'=>cases hs;exact⟨off',rfl⟩
 |rv cs=>cases hs
 |av x=>cases x<;>cases hs
 |_=>cases hs
theorem qe7(hI:Inv G w st a.tmps)(hd:jy o a)(h:Nat)(ho:qz h o st.sl=st.sl)(hdo:qL h o=[]){x:Operand}{n:Nat}{s':SV}
 (hs:shift n (zt st.sl x)=some s')
 (hr:∀A:Addr,a.eval x= .pointer (some A)->(execOp a.eval o).run c.P w= .ok (.value (.pointer (some (A.add n)))) w):
 o.wp c.P a w (jk G w a (after h o st s' none st.hp)) Q:=by
 obtain⟨A,hA,hj⟩:=qok hs (vz hI x)
 refine qq (hr A hA) (qy hI h (by rw[ho,hdo];rfl) hd hj (fun k g off e=>?_))
 subst e
 obtain⟨off',hx⟩:=qta hs
 exact qa1 hI hx
theorem qd6(hc:Ok c)(hI:Inv G w st a.tmps)(hd:jy o a)(h:Nat){t:TypeId}{ti:TI}(hti:c.tn t=some ti){x:Operand}{f:Nat}(hop:o.op= .fieldAddr t x f){r:SV×BE×Hp}
 (hr:(yh c ti (zt st.sl x) f fun s=>some (s,(none:BE),st.hp))=some r):o.wp c.P a w (jk G w a (after h o st r.1 r.2.1 r.2.2)) Q:=by
 unfold yh at hr
 split at hr
 ·rename_i fs hk
  split at hr
  ·rename_i fo ft hfs
   split at hr
   ·rename_i fi hfi
    split at hr
    ·cases hr
    ·rename_i hsz
     obtain⟨d,hd1,hd2⟩:=(hc.tt t ti (qp hti).1).und
     rw[hk]at hd2
     obtain⟨fields,rfl,hfl⟩:=hd2
     obtain⟨fl,hfl1,hfl2⟩:=qr _ _ _ _ (show(fields.toList.map fun f=>(f.offset,f.type))[f]?=some (fo,ft) by rw[hfl];exact hfs)
     have hfl1':fields[f]?=some fl:=by simpa using hfl1
     cases hfl2
     have key:∀s',shift fl.offset (zt st.sl x)=some s'->o.wp c.P a w (jk G w a (after h o st s' none st.hp)) Q:=by
      intro s' hs
      refine qe7 hI hd h (by simp[qz,qL,hop,qB]) (by simp[qL,hop]) hs (fun A hA=>?_)
      have hsize:=(hc.tt fl.type fi (qp hfi).1).sizeOf (qp hfi).2 w
      simp only[execOp,hop,Instr.fieldAt,hA,Instr.sureAddr,fieldPlace]
      simp[run_underlying hd1,hfl1',hsize,hsz]
     split at hr
     ·rename_i k g off hx
      cases hr
      exact key _ (by rw[hx];rfl)
     ·rename_i cs hx
      cases hr
      exact key _ (by rw[hx];rfl)
     ·rename_i y hx
      obtain⟨p,hp,hr⟩:=bsm hr
      cases hr
      exact key _ (by rw[hx,xu hp];rfl)
     ·cases hr
   ·cases hr
  ·cases hr
 ·cases hr
end
section
variable {c:Cx}{G:Gh}{w:World}{st:St}{a:Act}{o:Oper}{Q:Exit->Act->World->Prop}
theorem XT{s n l:Nat}(hs:0<s)(h:l=n*s):(if s=1 then l else l/s)=n:=by
 subst h
 split
 ·subst_vars;simp
 ·exact Nat.mul_div_cancel n hs
theorem Jv{n i:Nat}{v:Value}(h:idx n v=some i):∃k z,v= .int k z/\0<=z/\z<(n:Int)/\z.toNat=i:=by
 unfold idx at h
 obtain⟨z,hz,h2⟩:=bsm h
 clear h
 obtain⟨k,rfl⟩:=JK hz
 split at h2
 ·cases h2;exact⟨k,z,rfl,qc,qc,rfl⟩
 ·cases h2
theorem zM{cs l:List AV}{i n:Nat}(h:qo cs i n=some l):i+n<=cs.length/\l=(cs.drop i).take n:=by
 unfold qo at h
 split at h
 ·cases h;exact⟨by assumption,rfl⟩
 ·cases h
theorem yy{s:Nat}{cs:List AV}{v:Value}(h:RelR G w (.sl s cs) v):
 ∃A n cap,v= .slice (some A) n cap/\0<s/\cs.length=n*s/\(n=0\/n<=cap)/\(0<n->∃(b o:Nat) (vs:List Value),A=⟨b,o,none⟩/\o+n*s<=G.I b/\vs.length=cs.length/\
  (∀(k:Nat) (c:Value),vs[k]?=some c->w.cell? ⟨b,o+k,none⟩=some c)/\∀(k:Nat) (x:AV) (c:Value),cs[k]?=some x->vs[k]?=some c->RelR G w x c):=by
 cases h with
 |sl0 _ A cap hs=>exact⟨A,0,cap,rfl,hs,qe,.inl rfl,fun h=>absurd h qc⟩
 |sl _ _ n cap b o vs h1 h2 h3 h4 h5 h6 h7 h8 h9=>exact⟨_,n,cap,rfl,h1,h3,.inr h4,fun _=>⟨b,o,vs,rfl,h5,h6,h7,h9⟩⟩
theorem zbw{s:Nat}{cs:List AV}{v:Value}(h:RelR G w (.sl s cs) v):∀x∈cs,vl x=true:=by
 cases h with
 |sl0=>intro x hx;cases hx
 |sl _ _ _ _ _ _ _ h1 h2 h3 h4 h5 h6 h7 h8 h9=>exact h8
theorem qs9{s i:Nat}{cs l:List AV}{v:Value}(h:RelR G w (.sl s cs) v){iv:Value}(hi:idx (if s=1 then cs.length else cs.length/s) iv=some i)(hl:qo cs (i*s) s=some l):
 ∃A n cap k z,v= .slice (some A) n cap/\iv= .int k z/\0<=z/\z<(n:Int)/\z.toNat=i/\∀j,qG G w j (.rv l) (.pointer (some (A.add (i*s)))):=by
 obtain⟨A,n,cap,rfl,h2,h3,h4,h5⟩:=yy h
 rw[XT h2 h3]at hi
 obtain⟨k,z,rfl,hz0,hz1,hz2⟩:=Jv hi
 obtain⟨hle,rfl⟩:=zM hl
 refine⟨A,n,cap,k,z,rfl,rfl,hz0,hz1,hz2,fun j=>?_⟩
 obtain⟨b,o,vs,rfl,hI,hvl,hcell,hrel⟩:=h5 qc
 refine⟨b,o+i*s,(vs.drop (i*s)).take s,by rw[qS],by simp[hvl],fun q hq=>?_,fun q c hc=>?_,fun q x c hx hc=>?_⟩
 ·simp at hq
  have:i*s+s<=n*s:=qc
  omega
 ·rw[zij]at hc
  split at hc
  ·rw[zkq];exact hcell (i*s+q) c (by rw[<-hc];simp)
  ·cases hc
 ·rw[zij]at hc hx
  split at hc
  ·rename_i hq
   simp only[hq,if_true]at hx
   exact hrel (i*s+q) x c (by rw[<-hx];simp) (by rw[<-hc];simp)
  ·cases hc
theorem Jm{p:Nat->Ow}{s:Nat}{cs:List AV}{v:Value}(h:zi G w p (.sl s cs) v):RelR G w (.sl s cs) v:=h
theorem Jl{p:Nat->Ow}{s:Nat}{cs:List AV}{v:Value}(h:zi G w p (.us s cs) v):RelR G w (.sl s cs) v:=by
 obtain⟨b,_,ht⟩:=h;exact ht.ro
theorem qvu{p:Nat->Ow}{sz:Nat}{x:AV}{v iv:Value}{l:List AV}(h:zi G w p x v)(hl:zL sz x iv=some l):
 ∃A n cap k z,v= .slice (some A) n cap/\iv= .int k z/\0<=z/\z<(n:Int)/\∀j,qG G w j (.rv l) (.pointer (some (A.add (z.toNat*sz)))):=by
 cases x with
 |sl s cs=>
  simp only[zL]at hl
  split at hl
  ·rename_i e;subst e
   obtain⟨i,hi,hl⟩:=bsm hl
   obtain⟨A,n,cap,k,z,e1,e2,e3,e4,e5,e6⟩:=qs9 (Jm h) hi hl
   exact⟨A,n,cap,k,z,e1,e2,e3,e4,fun j=>by rw[e5];exact e6 j⟩
  ·cases hl
 |us s cs=>
  simp only[zL]at hl
  split at hl
  ·rename_i e;subst e
   obtain⟨i,hi,hl⟩:=bsm hl
   obtain⟨A,n,cap,k,z,e1,e2,e3,e4,e5,e6⟩:=qs9 (Jl h) hi hl
   exact⟨A,n,cap,k,z,e1,e2,e3,e4,fun j=>by rw[e5];exact e6 j⟩
  ·cases hl
 |_=>simp[zL]at hl
theorem ve{P:Program}{t e:TypeId}{ei:TI}(ht:P.underlying t=some (.slice e))(hz:∀w,(sizeOf e).run P w= .ok ei.size w)(A:Addr)(n cap:Nat)(k:IntKind)(z:Int)
 (h0:0<=z) (h1:z<(n:Int)) (w:World):(Instr.indexAt t (.slice (some A) n cap) (.int k z)).run P w= .ok (.pointer (some (A.add (z.toNat*ei.size)))) w:=by
 simp[Instr.indexAt,asIntOf,run_underlying ht,h0,h1,hz]
theorem Jf{P:Program}{t e:TypeId}{ei:TI}{n:Nat}(ht:P.underlying t=some (.array n e))(hz:∀w,(sizeOf e).run P w= .ok ei.size w)(A:Addr)(k:IntKind)(z:Int)
 (h0:0<=z) (h1:z<(n:Int)) (w:World):(Instr.indexAt t (.pointer (some A)) (.int k z)).run P w= .ok (.pointer (some (A.add (z.toNat*ei.size)))) w:=by
 simp[Instr.indexAt,asIntOf,run_underlying ht,h0,h1,hz,Instr.sureAddr]
theorem qd5(hc:Ok c)(hI:Inv G w st a.tmps)(hd:jy o a)(h:Nat){t:TypeId}{ti:TI}(hti:c.tn t=some ti){x i:Operand}(hop:o.op= .indexAddr t x i){r:SV×BE×Hp}
 (hr:(ye c h ti (zt st.sl x) (zt st.sl i) fun s=>some (s,(none:BE),st.hp))=some r):o.wp c.P a w (jk G w a (after h o st r.1 r.2.1 r.2.2)) Q:=by
 have hdo:qz h o st.sl=qB (qL h o) st.sl:=by simp[qz,hop]
 have hdn:qL h o=[]:=by simp[qL,hop]
 unfold ye at hr
 split at hr
 ·rename_i iv hi
  obtain⟨hiv,_⟩:=yq hI hi
  obtain⟨d,hd1,hd2⟩:=(hc.tt t ti (qp hti).1).und
  split at hr
  ·rename_i e hk
   rw[hk]at hd2
   have hd2:d= .slice e:=hd2
   subst hd2
   split at hr
   ·rename_i ei hei
    have hz:=(hc.tt e ei (qp hei).1).sizeOf (qp hei).2
    split at hr
    ·rename_i y hx
     have hxr:=vz hI x
     rw[hx]at hxr
     split at hr
     ·obtain⟨p,hp,hr⟩:=bsm hr
      obtain⟨j,hj,hr⟩:=bsm hr
      obtain⟨_,_,hr⟩:=bsm hr
      cases hr
      have hy:=kK hp
      subst hy
      obtain⟨blk,cap,off',z',m1,m2,m4,m3,_,_⟩:=WD (p:=fun i=>.sl (vG x) 0 i) hxr
      obtain⟨k,z,rfl,z0,z1,rfl⟩:=Jv hj
      have m5:=m4 qc
      subst m5
      refine qq (v:=.pointer (some ⟨blk,p.2.2.1+z.toNat*ei.size,none⟩)) (w':=w) ?_ (qy hI h hdo hd (fun j=>RelR.ptr _ _ _ blk m1) (fun _ _ _ e=>by cases e))
      simp only[execOp,hop,m3,hiv]
      rw[Sem.run_bind,ve hd1 hz _ _ _ k z z0 z1,qS];rfl
     ·obtain⟨l,hl,hr⟩:=bsm hr
      cases hr
      obtain⟨A,n,cap,k,z,e1,rfl,z0,z1,e5⟩:=qvu (p:=fun i=>.sl (vG x) 0 i) hxr hl
      refine qq (v:=.pointer (some (A.add (z.toNat*ei.size)))) (w':=w) ?_ (qy hI h hdo hd e5 (fun _ _ _ e=>by cases e))
      simp only[execOp,hop,e1,hiv]
      rw[Sem.run_bind,ve hd1 hz _ _ _ k z z0 z1];rfl
    ·cases hr
   ·cases hr
  ·rename_i n e hk
   rw[hk]at hd2
   have hd2:d= .array n e:=hd2
   subst hd2
   split at hr
   ·rename_i ei hei
    have hz:=(hc.tt e ei (qp hei).1).sizeOf (qp hei).2
    have key:∀j s',idx n iv=some j->shift (j*ei.size) (zt st.sl x)=some s'->o.wp c.P a w (jk G w a (after h o st s' none st.hp)) Q:=by
     intro j s' hj hs
     obtain⟨k,z,rfl,z0,z1,rfl⟩:=Jv hj
     refine qe7 hI hd h (by simp[qz,qL,hop,qB]) hdn hs (fun A hA=>?_)
     simp only[execOp,hop,hA,hiv]
     rw[Sem.run_bind,Jf hd1 hz A k z z0 z1];rfl
    split at hr
    ·rename_i k' g off hx
     obtain⟨j,hj,hr⟩:=bsm hr
     cases hr
     exact key j _ hj (by rw[hx];rfl)
    ·rename_i cs hx
     obtain⟨j,hj,hr⟩:=bsm hr
     cases hr
     exact key j _ hj (by rw[hx];rfl)
    ·rename_i y hx
     obtain⟨p,hp,hr⟩:=bsm hr
     obtain⟨j,hj,hr⟩:=bsm hr
     cases hr
     exact key j _ hj (by rw[hx,xu hp];rfl)
    ·cases hr
   ·cases hr
  ·cases hr
 ·cases hr
theorem zq{lo hi:Nat}{v:Option Value}{d n:Nat}(h:qH lo hi v d=some n):
 (v=none/\n=d)\/∃k z,v=some (.int k z)/\(lo:Int)<=z/\z<=(hi:Int)/\z.toNat=n:=by
 cases v with
 |none=>simp only[qH]at h;cases h;exact .inl ⟨rfl,rfl⟩
 |some v=>
  simp only[qH]at h
  obtain⟨z,hz,h2⟩:=bsm h
  clear h
  obtain⟨k,rfl⟩:=JK hz
  split at h2
  ·cases h2;exact .inr ⟨k,z,rfl,qc,qc,rfl⟩
  ·cases h2
end
section
variable {c:Cx}{G:Gh}{w:World}{st:St}{a:Act}{o:Oper}{Q:Exit->Act->World->Prop}
theorem yQ{P:Program}{lo hi:Nat}{k:IntKind}{z:Int}(code:BoundsCode)(h0:0<=z)(h1:z<=(hi:Int))(w:World):
 (Instr.sliceBound (.int k z) hi code).run P w= .ok z.toNat w:=by
 simp[Instr.sliceBound,asIntOf,h0,h1]
theorem KG{P:Program}{n cap l h m:Nat}{lo hi mx:Option Value}(hcap:n<=cap)(hm:qH 0 n mx n=some m)(hh:qH 0 m hi n=some h)(hl:qH 0 h lo 0=some l)
 (hmx:mx.isSome=true->hi.isSome=true) (w:World):∃m',h<=m'/\m'<=cap/\(Instr.sliceBounds true n cap lo hi mx).run P w= .ok (l,h,m') w:=by
 rcases zq hm with⟨rfl,rfl⟩|⟨k1,z1,rfl,a1,b1,rfl⟩
 ·rcases zq hh with⟨rfl,rfl⟩|⟨k2,z2,rfl,a2,b2,rfl⟩
  ·rcases zq hl with⟨rfl,rfl⟩|⟨k3,z3,rfl,a3,b3,rfl⟩
   ·exact⟨cap,hcap,zif _,by simp[Instr.sliceBounds]⟩
   ·exact⟨cap,hcap,zif _,by simp[Instr.sliceBounds,yQ (lo:=0) _ qc b3]⟩
  ·rcases zq hl with⟨rfl,rfl⟩|⟨k3,z3,rfl,a3,b3,rfl⟩
   ·exact⟨cap,qc,zif _,by simp[Instr.sliceBounds,yQ (lo:=0) (hi:=cap) _ (show 0<=z2 by omega) qc]⟩
   ·exact⟨cap,qc,zif _,by simp[Instr.sliceBounds,yQ (lo:=0) (hi:=cap) _ (show 0<=z2 by omega) qc,yQ (lo:=0) _ (show 0<=z3 by omega) b3]⟩
 ·rcases zq hh with⟨rfl,rfl⟩|⟨k2,z2,rfl,a2,b2,rfl⟩
  ·exact absurd (hmx rfl) qe
  ·have e1:=fun code=>yQ (P:=P) (lo:=0) (hi:=cap) (k:=k1) (z:=z1) code qc qc w
   have e2:=fun code=>yQ (P:=P) (lo:=0) (hi:=z1.toNat) (k:=k2) (z:=z2) code qc b2 w
   rcases zq hl with⟨rfl,rfl⟩|⟨k3,z3,rfl,a3,b3,rfl⟩
   ·exact⟨z1.toNat,qc,qc,by simp[Instr.sliceBounds,e1,e2]⟩
   ·have e3:=fun code=>yQ (P:=P) (lo:=0) (hi:=z2.toNat) (k:=k3) (z:=z3) code qc b3 w
    exact⟨z1.toNat,qc,qc,by simp[Instr.sliceBounds,e1,e2,e3]⟩
theorem kS{lo hi d n:Nat}{v:Option Value}(h:qH lo hi v d=some n)(hd:d<=hi):n<=hi:=by
 rcases zq h with⟨_,rfl⟩|⟨k,z,_,_,h2,rfl⟩
 ·exact hd
 ·omega
theorem qyc{s n cap l h m':Nat}{A:Addr}{cs:List AV}(hv:RelR G w (.sl s cs) (.slice (some A) n cap))(hl:l<=h)(hh:h<=n)(hm:h<=m'):
 RelR G w (.sl s ((cs.drop (l*s)).take ((h-l)*s))) (.slice (if m'=l then some A else some (A.add (l*s))) (h-l) (m'-l)):=by
 obtain⟨A',n',cap',e,h2,h3,h4,h5⟩:=yy hv
 cases e
 by_cases h0:h-l=0
 ·rw[h0]
  simp only[zkb,List.take_zero]
  split
  ·exact .sl0 _ _ _ h2
  ·exact .sl0 _ _ _ h2
 ·have hvv:=zbw hv
  obtain⟨b,o,vs,rfl,hI,hvl,hcell,hrel⟩:=h5 qc
  rw[if_neg qc,qS]
  have hmul:l*s+(h-l)*s=h*s:=by rw[<-Nat.add_mul];congr 1;omega
  have hns:h*s<=n*s:=ziq s hh
  refine .sl s _ (h-l) (m'-l) b (o+l*s) ((vs.drop (l*s)).take ((h-l)*s)) h2 qc ?_ qc qc ?_ (fun q c hc=>?_) (fun x hx=>?_) (fun q x c hx hc=>?_)
  ·simp;omega
  ·simp[hvl]
  ·rw[zij]at hc
   split at hc
   ·rw[zkq];exact hcell (l*s+q) c (by rw[<-hc];simp)
   ·cases hc
  ·exact hvv x (zkh (zjs hx))
  ·rw[zij]at hc hx
   split at hc
   ·rename_i hq
    simp only[hq,if_true]at hx
    exact hrel (l*s+q) x c (by rw[<-hx];simp) (by rw[<-hc];simp)
   ·cases hc
theorem ze2{s n cap:Nat}{A:Addr}{cs:List AV}(hv:RelR G w (.sl s cs) (.slice (some A) n cap)):n<=cap:=by
 obtain⟨A',n',cap',e,h2,h3,h4,h5⟩:=yy hv
 cases e
 rcases h4 with h4|h4<;>omega
theorem Jd{P:Program}{t e:TypeId}{ei:TI}(ht:P.underlying t=some (.slice e))(hz:∀w,(sizeOf e).run P w= .ok ei.size w){s:Nat}{cs:List AV}{v:Value}(hs:s=ei.size)
 (hv:RelR G w (.sl s cs) v) {lo hi mx:Option Value} {l h m N:Nat} (hN:N=if s=1 then cs.length else cs.length/s) (hm:qH 0 N mx N=some m)
 (hh:qH 0 m hi N=some h) (hl:qH 0 h lo 0=some l) (hmx:mx.isSome=true->hi.isSome=true):
 ∃v',(Instr.sliceAt t v lo hi mx).run P w= .ok v' w/\RelR G w (.sl s ((cs.drop (l*s)).take ((h-l)*s))) v':=by
 obtain⟨A,n,cap,rfl,h2,h3,h4,h5⟩:=yy hv
 rw[XT h2 h3]at hN
 rw[hN]at hm hh
 have hm1:m<=n:=kS hm (zif _)
 have hcap:=ze2 hv
 obtain⟨m',hm',_,hb⟩:=KG (P:=P) hcap hm hh hl hmx w
 have hhn:h<=n:=by
  rcases zq hh with⟨_,rfl⟩|⟨k,z,_,_,h2,rfl⟩<;>omega
 have hlh:l<=h:=kS hl (ziv _)
 refine⟨_,?_,qyc hv hlh hhn hm'⟩
 simp only[Instr.sliceAt,Instr.slice]
 subst hs
 simp[run_underlying ht,hb,hz]
theorem qgc{P:Program}{l h m:Nat}{lo hi mx:Option Value}(hm:qH 0 (0:Nat) mx 0=some m)(hh:qH 0 m hi 0=some h)(hl:qH 0 h lo 0=some l)
 (hmx:mx.isSome=true->hi.isSome=true) (w:World):∃m',(Instr.sliceBounds true 0 0 lo hi mx).run P w= .ok (0,0,m') w/\m'=0:=by
 have h1:m=0:=by have:=kS hm (zif _);omega
 subst h1
 have h2:h=0:=by have:=kS hh (zif _);omega
 subst h2
 have h3:l=0:=by have:=kS hl (zif _);omega
 subst h3
 rcases zq hm with⟨rfl,_⟩|⟨k1,z1,rfl,a1,b1,_⟩
 ·rcases zq hh with⟨rfl,_⟩|⟨k2,z2,rfl,a2,b2,_⟩<;>rcases zq hl with⟨rfl,_⟩|⟨k3,z3,rfl,a3,b3,_⟩
  ·exact⟨0,by simp[Instr.sliceBounds],rfl⟩
  ·have e3:z3=0:=qc
   subst e3
   exact⟨0,by simp[Instr.sliceBounds,Instr.sliceBound,asIntOf],rfl⟩
  ·have e3:z2=0:=qc
   subst e3
   exact⟨0,by simp[Instr.sliceBounds,Instr.sliceBound,asIntOf],rfl⟩
  ·have e2:z2=0:=qc
   have e3:z3=0:=qc
   subst e2;subst e3
   exact⟨0,by simp[Instr.sliceBounds,Instr.sliceBound,asIntOf],rfl⟩
 ·rcases zq hh with⟨rfl,_⟩|⟨k2,z2,rfl,a2,b2,_⟩
  ·exact absurd (hmx rfl) qe
  ·have e1:z1=0:=qc
   have e2:z2=0:=qc
   subst e1;subst e2
   rcases zq hl with⟨rfl,_⟩|⟨k3,z3,rfl,a3,b3,_⟩
   ·exact⟨0,by simp[Instr.sliceBounds,Instr.sliceBound,asIntOf],rfl⟩
   ·have e3:z3=0:=qc
    subst e3
    exact⟨0,by simp[Instr.sliceBounds,Instr.sliceBound,asIntOf],rfl⟩
theorem qs8{P:Program}{t e:TypeId}{ei:TI}(ht:P.underlying t=some (.slice e))(hz:∀w,(sizeOf e).run P w= .ok ei.size w){p:Nat->Ow}{x y:AV}{v:Value}
 (hv:zi G w p x v) {lo hi mx:Option Value} (hmx:mx.isSome=true->hi.isSome=true) (hy:zS ei.size x lo hi mx=some y):
 ∃v',(Instr.sliceAt t v lo hi mx).run P w= .ok v' w/\RelR G w y v':=by
 cases x with
 |sl s cs=>
  simp only[zS]at hy
  split at hy
  ·rename_i hs
   obtain⟨m,hm,hy⟩:=bsm hy
   obtain⟨h,hh,hy⟩:=bsm hy
   obtain⟨l,hl,hy⟩:=bsm hy
   cases hy
   exact Jd ht hz hs (Jm hv) rfl hm hh hl hmx
  ·cases hy
 |us s cs=>
  simp only[zS]at hy
  split at hy
  ·rename_i hs
   obtain⟨m,hm,hy⟩:=bsm hy
   obtain⟨h,hh,hy⟩:=bsm hy
   obtain⟨l,hl,hy⟩:=bsm hy
   cases hy
   exact Jd ht hz hs (Jl hv) rfl hm hh hl hmx
  ·cases hy
 |sc u=>
  simp only[zS]at hy
  split at hy
  ·rename_i hn
   have:=xq hn
   subst this
   obtain⟨m,hm,hy⟩:=bsm hy
   obtain⟨h,hh,hy⟩:=bsm hy
   obtain⟨l,hl,hy⟩:=bsm hy
   cases hy
   cases hv
   obtain⟨m',hb,rfl⟩:=qgc (P:=P) hm hh hl hmx w
   refine⟨nil0,?_,.sc _ rfl⟩
   simp only[Instr.sliceAt,Instr.slice]
   simp[run_underlying ht,hb,hz,nil0]
  ·cases hy
 |_=>simp[zS]at hy
theorem qip{ev:Operand->SV}{x:Option Operand}{v:Option Value}(h:opV ev x=some v):(x=none/\v=none)\/∃o u,x=some o/\v=some u/\ev o= .sv u:=by
 cases x with
 |none=>simp only[opV]at h;cases h;exact .inl ⟨rfl,rfl⟩
 |some o=>
  simp only[opV]at h
  obtain⟨u,hu,h⟩:=bsm h
  cases h
  exact .inr ⟨o,u,rfl,rfl,ju hu⟩
theorem KZ(hI:Inv G w st a.tmps){x:Option Operand}{v:Option Value}(h:opV (zt st.sl) x=some v):x.map a.eval=v:=by
 rcases qip h with⟨rfl,rfl⟩|⟨o,u,rfl,rfl,hu⟩
 ·rfl
 ·simp[(yq hI hu).1]
theorem KY{ev:Operand->SV}{x:Option Operand}{v:Option Value}(h:opV ev x=some v):v.isSome=x.isSome:=by
 rcases qip h with⟨rfl,rfl⟩|⟨o,u,rfl,rfl,_⟩<;>rfl
theorem qul(hc:Ok c)(hI:Inv G w st a.tmps)(hd:jy o a)(h:Nat){t:TypeId}{ti:TI}(hti:c.tn t=some ti){x:Operand}{lo hi mx:Option Operand}(hop:o.op= .slice t x lo hi mx){r:SV×BE×Hp}
 (hmx:(mx.isSome&&!hi.isSome)=false)
 (hr:((opV (zt st.sl) lo).bind fun l=>(opV (zt st.sl) hi).bind fun u=>(opV (zt st.sl) mx).bind fun m=>Zo c h ti t (zt st.sl x) l u m fun s=>some (s,(none:BE),st.hp))=some r):
 o.wp c.P a w (jk G w a (after h o st r.1 r.2.1 r.2.2)) Q:=by
 obtain⟨l,hl,hr⟩:=bsm hr
 obtain⟨u,hu,hr⟩:=bsm hr
 obtain⟨m,hm,hr⟩:=bsm hr
 have hmx':m.isSome=true->u.isSome=true:=by
  rw[KY hm,KY hu]
  intro h1
  rw[h1]at hmx
  simpa using hmx
 have el:=KZ hI hl
 have eu:=KZ hI hu
 have em:=KZ hI hm
 have hdo:qz h o st.sl=qB (qL h o) st.sl:=by simp[qz,hop]
 obtain⟨d,hd1,hd2⟩:=(hc.tt t ti (qp hti).1).und
 have hxr:=vz hI x
 unfold Zo at hr
 split at hr
 ·rename_i e hk
  rw[hk]at hd2
  have hd2:d= .slice e:=hd2
  subst hd2
  split at hr
  ·rename_i ei hei
   have hz:=(hc.tt e ei (qp hei).1).sizeOf (qp hei).2
   split at hr
   ·rename_i y hx
    rw[hx]at hxr
    split at hr
    ·obtain⟨p,hp,hr⟩:=bsm hr
     obtain⟨m',hm',hr⟩:=bsm hr
     obtain⟨h',hh',hr⟩:=bsm hr
     obtain⟨l',hl',hr⟩:=bsm hr
     obtain⟨_,hsz,hr⟩:=bsm hr
     cases hr
     have hsz:=qbh hsz
     have hy:=kK hp
     subst hy
     obtain⟨blk,cap,off',z,m1,m2,m4,m3,m5,m6⟩:=WD (p:=fun i=>.sl (vG x) 0 i) hxr
     rw[hsz]at m6
     obtain⟨m'',hm'',hmc,hb⟩:=KG (P:=c.P) m2 hm' hh' hl' hmx' w
     have hlh:=kS hl' (ziv _)
     have hhn:h'<=p.2.2.2.1:=by
      have:=kS hm' (zif _)
      rcases zq hh' with⟨_,rfl⟩|⟨k,z,_,_,h2,rfl⟩<;>omega
     by_cases he:m''=l'
     ·refine qq (v:=.slice (some ⟨blk,off',none⟩) (h'-l') (m''-l')) (w':=w) ?_ (qy hI h hdo hd (fun j=>RelR.ms _ _ _ _ _ _ blk _ z m1 qc qc m5 ?_) (fun _ _ _ e=>by cases e))
      ·simp only[execOp,hop,m3,el,eu,em,Instr.sliceAt,Instr.slice]
       simp[run_underlying hd1,hb,hz,he]
      ·have:m''-l'=0:=qc
       rw[this,zkb];omega
     ·refine qq (v:=.slice (some ⟨blk,off'+l'*ei.size,none⟩) (h'-l') (m''-l')) (w':=w) ?_ (qy hI h hdo hd (fun j=>RelR.ms _ _ _ _ _ _ blk _ z m1 qc (fun hpos=>by rw[m4 qc]) m5 ?_) (fun _ _ _ e=>by cases e))
      ·simp only[execOp,hop,m3,el,eu,em,Instr.sliceAt,Instr.slice]
       simp[run_underlying hd1,hb,hz,he,qS]
      ·have e1:l'*ei.size+(m''-l')*ei.size=m''*ei.size:=by rw[<-Nat.add_mul];congr 1;omega
       have e2:m''*ei.size<=cap*ei.size:=ziq _ hmc
       omega
    ·obtain⟨z,hz',hr⟩:=bsm hr
     cases hr
     obtain⟨v',hv1,hv2⟩:=qs8 hd1 hz (p:=fun i=>.sl (vG x) 0 i) hxr hmx' hz'
     refine qq (v:=v') (w':=w) ?_ (qy hI h hdo hd (fun j=>(hv2.c (.sl j 0 0)).v) (fun _ _ _ e=>by cases e))
     simp only[execOp,hop,el,eu,em]
     rw[Sem.run_bind,hv1];rfl
   ·cases hr
  ·cases hr
 ·split at hr
  ·rename_i v hx
   obtain⟨z,hz,hr⟩:=bsm hr
   cases hr
   have hv:=(yq hI hx).1
   refine vc hI h hdo hd (zX hz).2 ?_
   have hk:ti.k=TK.sc:=by assumption
   have hrun:(Instr.sliceAt t v l u m).run c.P w=(Instr.slice t v l u m).run c.P w:=by
    simp only[Instr.sliceAt,Sem.run_bind,run_underlying hd1,Result.andThen_ok]
    rw[hk]at hd2
    cases d<;>first|rfl|(have:=hd2 _ rfl;cases this)
   simp only[execOp,hop,el,eu,em,hv]
   rw[Sem.run_bind,hrun,jq (zX hz).1 w];rfl
  ·cases hr
 ·cases hr
end
section
variable {c:Cx}{G:Gh}{w:World}{st:St}{a:Act}{o:Oper}{Q:Exit->Act->World->Prop}
theorem qve{p:Nat->Ow}{x:AV}{v:Value}{n:Nat}(h:zi G w p x v)(hn:zd x=some n):∃A cap,v= .slice A n cap:=by
 cases x with
 |sl s cs=>
  simp only[zd]at hn;cases hn
  obtain⟨A,m,cap,rfl,h2,h3,_⟩:=yy (Jm h)
  rw[XT h2 h3]
  exact⟨_,_,rfl⟩
 |us s cs=>
  simp only[zd]at hn;cases hn
  obtain⟨A,m,cap,rfl,h2,h3,_⟩:=yy (Jl h)
  rw[XT h2 h3]
  exact⟨_,_,rfl⟩
 |ms b g off m sz=>
  simp only[zd]at hn;cases hn
  obtain⟨blk,cap,off',_,_,_,_,rfl,_,_⟩:=WD h
  exact⟨_,_,rfl⟩
 |sc u=>
  simp only[zd]at hn
  split at hn
  ·rename_i hz
   cases hn
   have:=xq hz
   subst this
   cases h
   exact⟨_,_,rfl⟩
  ·cases hn
 |_=>simp[zd]at hn
theorem JX(hI:Inv G w st a.tmps):∀{xs:List Operand} {vs:List Value},qdd (xs.map (zt st.sl))=some vs->xs.map a.eval=vs
 |[],vs,h=>by simp only[zkc,qdd]at h;cases h;rfl
 |x::xs,vs,h=>by
  simp only[zjc,qdd]at h
  obtain⟨v,hv,h⟩:=bsm h
  obtain⟨l,hl,h⟩:=bsm h
  cases h
  simp[(yq hI (ju hv)).1,JX hI hl]
theorem jl{P:Program}{cl:Call}{b:Builtin}(hcl:cl.callee= .builtin b)(hop:o.op= .call cl){s:Sem Next}(hs:Go.builtin b cl.argTypes o.type (cl.args.map fun| .const _=>true|_=>false) (cl.args.map a.eval)=s)(w:World):
 (execOp a.eval o).run P w=s.run P w:=by
 simp only[execOp,hop,resolve,hcl]
 rw[<-hs]
 simp[invoke]
 rfl
theorem Wv{P:Program}{t e:TypeId}(ht:P.underlying t=some (.slice e))(A:Option Addr)(n cap:Nat)(ts:Array TypeId)(hts:ts[0]?=some t) (ty:TypeId) (w:World):
 (Builtin.len_ ts ty #[.slice A n cap]).run P w= .ok (.int .i64 n) w:=by
 simp[Builtin.len_,hts,run_underlying ht,goInt]
theorem RelR.s{x:AV}{v:Value}(h:RelR G w x v)(k:Nat):qG G w k (.av x) v:=(h.c (.sl k 0 0)).v
theorem Yv{P:Program}{t:TypeId}{ti:TI}(ht:TOk P t ti)(hk:Zb ti.k=false){cs:List AV}{vs:List Value}{A:Addr}{off:Nat}
 (hlen:cs.length=vs.length) (hcell:∀(k:Nat) (u:Value),vs[k]?=some u->w.cell? (A.add k)=some u) (hrel:∀(k:Nat) (x:AV) (u:Value),cs[k]?=some x->vs[k]?=some u->RelR G w (ro1 x) u)
 {r:SV×List AV} (hr:(jz ti 0 cs off fun s l=>some (s,l))=some r):
 r.2=cs/\∃v,(Instr.loadAt t (.pointer (some (A.add off)))).run P w= .ok v w/\(∀k,qG G w k r.1 v)/\∀k g off,r.1≠ .lp k g off:=by
 have vx:∀j,(A.add off).add j=A.add (off+j):=by
  intro j
  unfold Addr.add
  by_cases h1:off=0<;>by_cases h2:j=0<;>simp[h1,h2,zkq]
 have hz:=ht.sizeOf hk w
 have ha:=ht.isAgg hk w
 unfold jz at hr
 split at hr
 ·rename_i hsc
  obtain⟨v,hv,hr⟩:=bsm hr
  cases hr
  have hx:=kJ hv
  obtain⟨u,hu⟩:=qU hlen hx
  have hru:=hrel _ _ _ hx hu
  have hag:yJ ti.k=false:=by cases hkk:ti.k<;>rw[hkk]at hsc<;>first|rfl|cases hsc
  refine⟨rfl,u,?_,fun k=>?_,fun _ _ _ e=>by cases e⟩
  ·simp[Instr.loadAt,Instr.sureAddr,loadVar,ha,hag,hcell _ _ hu]
  ·cases hru with
   |sc _ h1=>exact⟨rfl,h1⟩
 ·split at hr
  ·rename_i hsc hag
   obtain⟨l,hl,hr⟩:=bsm hr
   simp only[show¬(0=1) by decide,if_false]at hr
   cases hr
   obtain⟨hle,rfl⟩:=zM hl
   refine⟨rfl,.agg ((vs.drop off).take ti.size).toArray,?_,fun k=>⟨(vs.drop off).take ti.size,rfl,by simp[hlen],fun i x u hx hu=>?_⟩,fun _ _ _ e=>by cases e⟩
   ·have hload:=run_loadCells_list (P:=P) (w:=w) (A.add off) ((vs.drop off).take ti.size) (fun j v hj=>by
     rw[vx]
     rw[zij]at hj
     split at hj
     ·exact hcell (off+j) v (by rw[<-hj];simp)
     ·cases hj)
    have hll:((vs.drop off).take ti.size).length=ti.size:=qg
    rw[hll]at hload
    simp[Instr.loadAt,Instr.sureAddr,loadVar,ha,hag,hz,hload]
   ·obtain⟨y,hy,rfl⟩:=qr _ _ _ _ hx
    rw[zij]at hy hu
    split at hy
    ·rename_i hq
     simp only[hq,if_true]at hu
     exact(hrel (off+i) y u (by rw[<-hy];simp) (by rw[<-hu];simp)).c _
    ·cases hy
  ·rename_i hsc hag
   obtain⟨x,hx,hr⟩:=bsm hr
   simp only[show¬(0=1) by decide,if_false]at hr
   cases hr
   have hx:cs[off]?=some x:=hx
   obtain⟨u,hu⟩:=qU hlen hx
   have hag':yJ ti.k=false:=by simpa using hag
   refine⟨rfl,u,?_,fun k=>(hrel _ _ _ hx hu).s k,fun _ _ _ e=>by cases e⟩
   simp[Instr.loadAt,Instr.sureAddr,loadVar,ha,hag',hcell _ _ hu]
theorem vp{blk:Nat}{p:Nat->Ow}{cs:List AV}(h:yY G w blk p cs):
 ∃vs:List Value,cs.length=vs.length/\(∀(off k:Nat) (u:Value),vs[off+k]?=some u->w.cell? ((⟨blk,off,none⟩:Addr).add k)=some u)/\
  ∀(k:Nat) (x:AV) (u:Value),cs[k]?=some x->vs[k]?=some u->jx G w (p k) x u:=by
 obtain⟨arr,e,h1,h2,h3⟩:=h
 have key:∀(k:Nat) (u:Value),(arr.toList.take cs.length)[k]?=some u->arr[k]?=some u:=by
  intro k u hu
  rw[zij]at hu
  split at hu
  ·simpa using hu
  ·cases hu
 refine⟨arr.toList.take cs.length,qg,fun off k u hu=>?_,fun k x u hx hu=>h3 k x u hx (key k u hu)⟩
 rw[qS,qR h1]
 exact key _ u hu
theorem qgy(hc:Ok c)(hI:Inv G w st a.tmps)(hd:jy o a)(h:Nat)(h1:h≠1){t:TypeId}{ti:TI}(hti:c.tn t=some ti){x:Operand}(hop:o.op= .load t x){r:SV×BE×Hp}
 (hr:zY h ti (zt st.sl x) (zQ st.bx) st.hp k3=some r):o.wp c.P a w (jk G w a (after h o st r.1 r.2.1 r.2.2)) Q:=by
 have hdo:qz h o st.sl=qB (qL h o) st.sl:=by simp[qz,hop]
 have ht:=hc.tt t ti (qp hti).1
 have hk:=(qp hti).2
 have hl0:∀{R:Type} (cs:List AV) (off:Nat) (K:SV->List AV->Option R),jz ti h cs off K=jz ti 0 cs off K:=by
  intro R cs off K
  unfold jz
  simp[h1]
 have hxr:=vz hI x
 have fin:∀(s:SV) (v:Value),(∃A:Addr,a.eval x= .pointer (some A)/\(Instr.loadAt t (.pointer (some A))).run c.P w= .ok v w)->(∀k,qG G w k s v)->(∀k g off,s≠ .lp k g off)->
  o.wp c.P a w (jk G w a (after h o st s none st.hp)) Q:=by
  rintro s v ⟨A,hA,hrun⟩ hs hl
  refine qq (v:=v) (w':=w) ?_ (qy hI h hdo hd hs (fun k g off e=>absurd e (hl k g off)))
  simp only[execOp,hop,hA]
  rw[Sem.run_bind,hrun];rfl
 unfold zY at hr
 split at hr
 ·rename_i k g off hx
  rw[hx]at hxr
  obtain⟨blk,hla,hv⟩:=hxr
  split at hr
  ·rename_i g' cs hgb
   split at hr
   ·rename_i hg
    subst hg
    obtain⟨blk',b1,b2,b3⟩:=hI.boxes k g cs hgb
    rw[hla]at b1;cases b1
    rw[hl0,qE]at hr
    obtain⟨q,hq,hr⟩:=bsm hr
    have hr':some (q.1,(none:BE),st.hp)=some r:=by first|exact hr|(rw[<-hr,if_neg h1])
    cases hr'
    obtain⟨vs,v1,v2,v3⟩:=vp b3
    obtain⟨_,v,hrun,hs,hl⟩:=Yv (P:=c.P) ht hk (A:=⟨blk,0,none⟩) v1 (fun k u hu=>v2 0 k u (by simpa using hu)) (fun k x u hx hu=>(v3 k x u hx hu).ro) hq
    rw[qS,ziw]at hrun
    exact fin _ v ⟨_,hv,hrun⟩ hs hl
   ·cases hr
  ·cases hr
 ·rename_i cs hx
  rw[hx]at hxr
  rw[if_neg h1,hl0,qE]at hr
  obtain⟨q,hq,hr⟩:=bsm hr
  cases hr
  obtain⟨b,o',vs,hv,h2,h3,h4,h5⟩:=hxr
  obtain⟨_,v,hrun,hs,hl⟩:=Yv (P:=c.P) ht hk (A:=⟨b,o',none⟩) h2.symm (fun k u hu=>by rw[qS];exact h4 k u hu) (fun k x u hx hu=>by rw[KM (h5 k x u hx hu)];exact h5 k x u hx hu) hq
  rw[qS,zjo]at hrun
  exact fin _ v ⟨_,hv,hrun⟩ hs hl
 ·rename_i y hx
  rw[hx]at hxr
  obtain⟨p,hp,hr⟩:=bsm hr
  obtain⟨cs,hcs,hr⟩:=bsm hr
  rw[hl0,qE]at hr
  obtain⟨q,hq,hr⟩:=bsm hr
  have hr':some (q.1,(none:BE),st.hp)=some r:=by first|exact hr|(rw[<-hr,if_neg h1])
  cases hr'
  have hy:=xu hp
  subst hy
  obtain⟨blk,m1,hv⟩:=qy2 (p:=fun i=>.sl (vG x) 0 i) hxr
  unfold Hp.rd at hcs
  obtain⟨e,he,hcs⟩:=bsm hcs
  split at hcs
  ·rename_i hg
   have hcs':e.2=cs:=zit hcs
   have he':st.hp.get p.1=some (p.2.1,cs):=by rw[he,<-hg.1,<-hcs']
   obtain⟨blk',b1,b2,b3⟩:=hI.heap p.1 p.2.1 cs he'
   rw[m1]at b1;cases b1
   rw[hg.2]at b3
   have b3:yY G w blk (.oc p.1 0 ·) cs:=b3
   obtain⟨vs,v1,v2,v3⟩:=vp b3
   obtain⟨_,v,hrun,hs,hl⟩:=Yv (P:=c.P) ht hk (A:=⟨blk,0,none⟩) v1 (fun k u hu=>v2 0 k u (by simpa using hu)) (fun k x u hx hu=>(v3 k x u hx hu).ro) hq
   rw[qS,ziw]at hrun
   exact fin _ v ⟨_,hv,hrun⟩ hs hl
  ·cases hcs
 ·cases hr
theorem Xk{l:List AV}{t i:Nat}{x:AV}{v:Value}(h:qG G w t (.tp l) v)(hx:l[i]?=some x):
 ∃vs:List Value,v= .tuple vs.toArray/\∃u,vs[i]?=some u/\zi G w (.sl t i ·) x u:=by
 obtain⟨vs,rfl,h2,h3⟩:=h
 obtain⟨u,hu⟩:=qU h2 hx
 exact⟨vs,rfl,u,hu,h3 i x u hx hu⟩
def mvX(t i d:Nat):Ow->Ow
 | .sl k j q=>if k=t/\j=i then .sl d 0 q else .sl k j q
 |p=>p
theorem qz0(t i d:Nat):Rho (mvX t i d) where
 fr:=rfl
 oth:=rfl
 box p k g h:=by
  cases p<;>simp only[mvX]at h<;>first|exact h|(split at h<;>cases h)
 obj p k g h:=by
  cases p<;>simp only[mvX]at h<;>first|exact h|(split at h<;>cases h)
end
section
variable {c:Cx}{G:Gh}{w:World}{st:St}{a:Act}{o:Oper}{Q:Exit->Act->World->Prop}
theorem Xb(hI:Inv G w st a.tmps)(hd:jy o a){t i:Nat}(hop:o.op= .extract (.tmp t) i){l:List AV}{y:AV}(hl:qA st.sl t= .tp l)(hy:l[i]?=some y) {s:SV}
 (hs:(∃v,y= .sc v/\s= .sv v)\/s= .av (ro y)):o.wp c.P a w (jk G w a (after 1 o st s none st.hp)) Q:=by
 have hxr:=hI.slots t
 rw[hl]at hxr
 obtain⟨vs,hv,u,hu,hyu⟩:=Xk hxr hy
 have hrun:(execOp a.eval o).run c.P w= .ok (.value u) w:=by
  have he:a.eval (.tmp t)= .tuple vs.toArray:=hv
  simp only[execOp,hop,he,Instr.extract]
  simp[hu]
 refine qq hrun (qy hI 1 (by simp[qz,qL,hop,qB]) hd (fun k=>?_) (fun _ _ _ e=>by rcases hs with⟨v,_,rfl⟩|rfl<;>cases e))
 rcases hs with⟨v,rfl,rfl⟩|rfl
 ·have h1:RelR G w (.sc v) u:=hyu
  cases h1
  exact⟨rfl,by assumption⟩
 ·exact hyu.ro (Ev.refl G w) _
theorem KX(hI:Inv G w st a.tmps)(hd:jy o a)(h:Nat)(hn1:h≠1){t i:Nat}(hop:o.op= .extract (.tmp t) i){l:List AV}{y:AV}(hl:qA st.sl t= .tp l)(hy:l[i]?=some y) {s:SV}
 (hs:(∃v,y= .sc v/\s= .sv v)\/s= .av y):o.wp c.P a w (jk G w a (after h o st s none st.hp)) Q:=by
 have hxr:=hI.slots t
 rw[hl]at hxr
 obtain⟨vs,hv,u,hu,hyu⟩:=Xk hxr hy
 have hrun:(execOp a.eval o).run c.P w= .ok (.value u) w:=by
  have he:a.eval (.tmp t)= .tuple vs.toArray:=hv
  simp only[execOp,hop,he,Instr.extract]
  simp[hu]
 refine qq hrun ?_
 have hdn:qz h o st.sl=(t,.tp (l.set i (ro y)))::st.sl:=by simp[qz,hop,dnX,hl,hy,hn1]
 unfold after
 rw[hdn]
 --the qA that is lowered,under whatever names of owners
 have low:∀(G':Gh),Ev G w G' w->(∀j q,j≠i->zA G w G' w (.sl t j q) (.sl t j q))->qG G' w t (.tp (l.set i (ro y))) (a.tmps.getD t undef):=by
  intro G' he hk
  obtain⟨vs',e1,e2,e3⟩:=hxr
  refine⟨vs',e1,by simp[e2],fun j x u' hx hu'=>?_⟩
  by_cases e:i=j
  ·subst e
   rw[zlx (zih.mp hy).1]at hx
   cases hx
   exact(e3 i y u' hy hu').ro he _
  ·rw[zl5 e]at hx
   exact(e3 j x u' hx hu').ev he (fun q=>hk j q (fun e'=>e e'.symm))
 cases hdst:o.dst with
 |none=>
  refine⟨G,?_,Fr.refl G w,rfl,rfl⟩
  exact{
   slots:=fun k=>by
    show qG G w k (qA ((t,.tp (l.set i (ro y)))::st.sl) k) _
    rw[ze]
    split
    ·rename_i e;subst e;exact low G (Ev.refl G w) (fun j q _ b hb=>⟨rfl,rfl,hb⟩)
    ·exact hI.slots k
   boxes:=hI.boxes
   heap:=hI.heap
   next:=hI.next
   hlt:=hI.hlt
   new:=hI.new
   vars:=hI.vars
   lps:=fun j k g off e=>by
    have e':qA ((t,.tp (l.set i (ro y)))::st.sl) j= .lp k g off:=e
    rw[ze]at e'
    split at e'
    ·cases e'
    ·exact hI.lps j k g off e'}
 |some d=>
  have hdd:=hd d hdst
  have hr:=qz0 t i d
  have he:Ev G w (G.rel (mvX t i d)) w:=(Fr.rel hr).ev
  obtain⟨hn,hvars⟩:=hI.relNew hr
  have keep:∀p q,mvX t i d p=q->zA G w (G.rel (mvX t i d)) w p q:=fun p q hpq b hb=>⟨rfl,rfl,by simp[Gh.rel,hb,hpq]⟩
  refine⟨G.rel (mvX t i d),?_,Fr.rel hr,qZ _ _ _,qD _ _ _⟩
  exact{
   slots:=fun k=>by
    show qG _ w k (qA ((d,s)::(t,.tp (l.set i (ro y)))::st.sl) k) _
    rw[ze,ZS a d _ hdd]
    split
    ·rename_i e;subst e
     have hmv:=zi.ev he (p:=fun q=>.sl t i q) (q:=fun q=>.sl d 0 q) (fun q=>keep _ _ (by simp[mvX])) hyu
     rcases hs with⟨v,rfl,rfl⟩|rfl
     ·have hmv':RelR _ w (.sc v) u:=hmv
      cases hmv' with
      |sc _ h1=>exact⟨rfl,h1⟩
     ·exact hmv
    ·rw[ze]
     split
     ·rename_i e;subst e
      exact low _ he (fun j q hj=>keep _ _ (by simp[mvX,hj]))
     ·rename_i hne
      refine qG.ev he (k:=k) (k':=k) (fun j q=>keep _ _ ?_) (fun _ _ _ _ _ h=>h) (hI.slots k)
      have:k≠t:=fun e=>hne e.symm
      simp[mvX,this]
   boxes:=fun j g cs h=>by
    obtain⟨blk,h1,h2,h3⟩:=hI.boxes j g cs h
    exact⟨blk,h1,by simp[Gh.rel,h2,mvX],h3.ev he rfl fun i=>keep _ _ rfl⟩
   heap:=fun j g cs h=>by
    obtain⟨blk,h1,h2,h3⟩:=hI.heap j g cs h
    exact⟨blk,h1,by simp[Gh.rel,h2,mvX],h3.ev he rfl fun i=>keep _ _ rfl⟩
   next:=hI.next
   hlt:=hI.hlt
   new:=hn
   vars:=hvars
   lps:=fun j k g off e=>by
    have e':qA ((d,s)::(t,.tp (l.set i (ro y)))::st.sl) j= .lp k g off:=e
    rw[ze]at e'
    split at e'
    ·rcases hs with⟨v,_,rfl⟩|rfl<;>cases e'
    ·rw[ze]at e'
     split at e'
     ·cases e'
     ·exact hI.lps j k g off e'}
theorem ya{k:Nat}{s:SV}{x:AV}{v:Value}(h:qG G w k s v)(hx:XF s=some x):zi G w (.sl k 0 ·) x v:=by
 cases s with
 |sv u=>cases hx;obtain⟨rfl,h1⟩:=h;exact RelR.sc _ h1
 |av y=>cases hx;exact h
 |_=>cases hx
theorem vA(hI:Inv G w st a.tmps):∀{xs:List Operand} {l:List AV},JY (xs.map (zt st.sl))=some l->
 l.length=xs.length/\∀(i:Nat) (x:AV),l[i]?=some x->∃o,xs[i]?=some o/\zi G w (.sl (vG o) 0 ·) x (a.eval o)
 |[],l,h=>by simp only[zkc,JY]at h;cases h;exact⟨rfl,fun i x hx=>by simp at hx⟩
 |y::ys,l,h=>by
  simp only[zjc,JY]at h
  obtain⟨x,hx,h⟩:=bsm h
  obtain⟨l',hl',h⟩:=bsm h
  cases h
  obtain⟨h1,h2⟩:=vA hI hl'
  refine⟨by simp[h1],fun i x' hx'=>?_⟩
  cases i with
  |zero=>simp at hx';subst hx';exact⟨y,rfl,ya (vz hI y) hx⟩
  |succ i=>simp at hx';obtain⟨o,ho,hr⟩:=h2 i x' hx';exact⟨o,by simpa using ho,hr⟩
theorem qer{P:Program}{s d:TypeId}{z v:Value}(hz:Zc P s d v=some z)(w:World):(convert s d v).run P w= .ok z w/\z.oneCell'=true:=
 ⟨jq (zX hz).1 w,(zX hz).2⟩
theorem qdh{p:Nat->Ow}{sz:Nat}{x:AV}{v:Value}{l:List AV}(h:zi G w p x v)(hl:yG sz x=some l):
 (v= .slice none 0 0/\l=[])\/
 (∃A n cap,v= .slice (some A) n cap/\RelR G w (.sl sz l) v):=by
 cases x with
 |sl s cs=>
  simp only[yG]at hl
  split at hl
  ·rename_i e;subst e;cases hl
   obtain⟨A,n,cap,e,_⟩:=yy (Jm h)
   exact .inr ⟨A,n,cap,e,Jm h⟩
  ·cases hl
 |us s cs=>
  simp only[yG]at hl
  split at hl
  ·rename_i e;subst e;cases hl
   obtain⟨A,n,cap,e,_⟩:=yy (Jl h)
   exact .inr ⟨A,n,cap,e,Jl h⟩
  ·cases hl
 |sc u=>
  simp only[yG]at hl
  split at hl
  ·cases hl;cases h;exact .inl ⟨rfl,rfl⟩
  ·cases hl
 |_=>simp[yG]at hl
end
structure New (w w' : World) (o : Obj) : Prop where
 heap:w'.heap=w.heap.push o
 rest:ZP w w'
theorem New.old{w w':World}{o:Obj}(h:New w w' o){b:Nat}(hb:b<w.heap.size):w'.heap[b]?=w.heap[b]?:=by
 rw[h.heap,zmb,if_neg qc]
theorem New.at{w w':World}{o:Obj}(h:New w w' o):w'.heap[w.heap.size]?=some o:=by
 rw[h.heap];simp
theorem New.size{w w':World}{o:Obj}(h:New w w' o):w'.heap.size=w.heap.size+1:=by
 rw[h.heap];simp
theorem yC{w w':World}{b:Nat}(h:w'.heap[b]?=w.heap[b]?) (i:Nat):w'.cell? ⟨b,i,none⟩=w.cell? ⟨b,i,none⟩:=by
 simp[World.cell?,h]
theorem ze5{w:World}{b z:Nat}(h:VK w b=some z):b<w.heap.size:=by
 unfold VK at h
 split at h
 ·rename_i e;exact(zj7.mp e).1
 ·cases h
theorem zV{w:World}{b:Nat}{arr:Array Value}{e:TypeId}{fz:Nat×Nat}(h:w.heap[b]?=some (.cells arr e fz)):VK w b=some arr.size:=by
 simp[VK,h]
def Gh.add(G:Gh)(b:Nat)(L:Ow)(n:Nat)(mu la:Nat->Nat->Option Nat):Gh:=
 ⟨fun x=>if x=b then L else G.Om x,fun x=>if x=b then n else G.I x,mu,la⟩
section
variable {c:Cx}{G:Gh}{w w':World}{st:St}{a:Act}{o:Oper}{Q:Exit->Act->World->Prop}
theorem Fr.new(hI:Inv G w st a.tmps){ob:Obj}(hw:New w w' ob)(L:Ow)(n:Nat){mu la:Nat->Nat->Option Nat}(hmu:∀b g x,G.mu b g=some x->mu b g=some x):
 Fr G w (G.add w.heap.size L n mu la) w' where
 size:=by rw[hw.size];omega
 cells b i hi:=by
  have hb:b<w.heap.size:=by
   rcases zk9 b w.heap.size with h|h
   ·exact h
   ·rw[(hI.new b h).2]at hi;omega
  exact yC (hw.old hb) i
 imm b:=by
  simp only[Gh.add]
  split
  ·rename_i e;subst e;rw[(hI.new _ (zif _)).2];omega
  ·exact zif _
 mu:=hmu
 same b hb _:=⟨hw.old hb,by simp[Gh.add,zkd hb],by simp[Gh.add,zkd hb]⟩
 rest:=hw.rest
 bs b z hz:=by rw[ZI (hw.old (ze5 hz))];exact hz
theorem QJ(hI:Inv G w st a.tmps){ob:Obj}(hw:New w w' ob)(L:Ow)(n:Nat)(mu la:Nat->Nat->Option Nat){p:Ow}(hp:p≠ .fr):
 zA G w (G.add w.heap.size L n mu la) w' p p:=by
 intro b hb
 have hlt:b<w.heap.size:=by
  rcases zk9 b w.heap.size with h|h
  ·exact h
  ·rw[(hI.new b h).1]at hb;exact absurd hb.symm hp
 exact⟨hw.old hlt,by simp[Gh.add,zkd hlt],by simp[Gh.add,zkd hlt,hb]⟩
theorem Inv.beside(hI:Inv G w st a.tmps){ob:Obj}(hw:New w w' ob)(L:Ow)(n:Nat)(hL:(∃k g,L= .box k g)\/(∃k g,L= .obj k g)->n=0):
 Inv (G.add w.heap.size L n G.mu G.la) w' st a.tmps:=by
 have hf:=Fr.new hI hw L n (mu:=G.mu) (la:=G.la) (fun _ _ _ h=>h)
 have hk:=fun{p:Ow} (hp:p≠ .fr)=>QJ hI hw L n G.mu G.la hp
 have hlt:∀b p,G.Om b=p->p≠ .fr->b<w.heap.size:=by
  intro b p hb hp
  rcases zk9 b w.heap.size with h|h
  ·exact h
  ·rw[(hI.new b h).1]at hb;exact absurd hb.symm hp
 exact{
  slots:=fun k=>qG.ev hf.ev (fun j i=>hk qe) (fun _ _ _ _ _ h=>h) (hI.slots k)
  boxes:=fun k g cs h=>by
   obtain⟨blk,h1,h2,h3⟩:=hI.boxes k g cs h
   have hb:=hlt blk _ h2 qe
   exact⟨blk,h1,by simp[Gh.add,zkd hb,h2],h3.ev hf.ev (hw.old hb) fun i=>hk qe⟩
  heap:=fun k g cs h=>by
   obtain⟨blk,h1,h2,h3⟩:=hI.heap k g cs h
   have hb:=hlt blk _ h2 qe
   exact⟨blk,h1,by simp[Gh.add,zkd hb,h2],h3.ev hf.ev (hw.old hb) fun i=>hk qe⟩
  next:=hI.next
  hlt:=hI.hlt
  new:=fun b hb=>by
   rw[hw.size]at hb
   have hne:b≠w.heap.size:=qc
   simp only[Gh.add,hne,if_false]
   exact hI.new b qc
  vars:=fun b hb=>by
   by_cases e:b=w.heap.size
   ·simp only[Gh.add,e,if_true]at hb⊢
    exact hL hb
   ·simp only[Gh.add,e,if_false]at hb⊢
    exact hI.vars b hb
  lps:=hI.lps}
theorem qoa(hI:Inv G w st a.tmps)(h:Nat)(ho:qz h o st.sl=st.sl){d g:Nat}(hdst:o.dst=some d)(hd:d<a.tmps.size){cs:List AV}{arr:Array Value}{e:TypeId}
 (hw:New w w' (.cells arr e (0,0))) (hlen:cs.length<=arr.size) (hrel:∀(i:Nat) (x:AV) (u:Value),cs[i]?=some x->arr[i]?=some u->RelR G w x u)
 (hg:g=match zQ st.bx d with|some (g',_)=>g'+1|none=>0):
 jk G w a (after h o st (.lp d g 0) (some (d,g,cs)) st.hp) (a.put o.dst (.pointer (some ⟨w.heap.size,0,none⟩))) w':=by
 let la:Nat->Nat->Option Nat:=fun k g'=>if k=d/\g'=g then some w.heap.size else G.la k g'
 let G':=G.add w.heap.size (.box d g) 0 G.mu la
 have hf:Fr G w G' w':=Fr.new hI hw (.box d g) 0 (fun _ _ _ h=>h)
 have hk:=fun{p:Ow} (hp:p≠ .fr)=>QJ hI hw (.box d g) 0 G.mu la hp
 have hlt:∀b p,G.Om b=p->p≠ .fr->b<w.heap.size:=by
  intro b p hb hp
  rcases zk9 b w.heap.size with h|h
  ·exact h
  ·rw[(hI.new b h).1]at hb;exact absurd hb.symm hp
 have hlp:∀j k g' off,qA st.sl j= .lp k g' off->¬(k=d/\g'=g):=by
  rintro j k g' off hs ⟨rfl,rfl⟩
  obtain⟨g'',cs',h1,h2⟩:=hI.lps j k g' off hs
  rw[h1]at hg
  simp only at hg
  omega
 refine⟨G',?_,hf,qZ _ _ _,qD _ _ _⟩
 unfold after
 rw[ho,hdst]
 exact{
  slots:=fun k=>by
   show qG G' w' k (qA ((d,.lp d g 0)::st.sl) k) _
   rw[ze,ZS a d _ hd]
   split
   ·exact⟨w.heap.size,by simp[G',la,Gh.add],rfl⟩
   ·refine qG.ev hf.ev (fun j i=>hk qe) (fun k' g' off x hs hx=>?_) (hI.slots k)
    have:=hlp k k' g' off hs
    simp[G',la,Gh.add,this,hx]
  boxes:=fun k g' cs' hb=>by
   have hb':zQ (Kx st.bx d g cs) k=some (g',cs'):=hb
   rw[kN]at hb'
   split at hb'
   ·rename_i e;subst e
    cases hb'
    refine⟨w.heap.size,by simp[G',la,Gh.add],by simp[G',Gh.add],arr,e,hw.at,hlen,fun i x u hx hu=>?_⟩
    exact((hrel i x u hx hu).ev hf.ev).c _
   ·rename_i hne
    obtain⟨blk,h1,h2,h3⟩:=hI.boxes k g' cs' hb'
    have hbl:=hlt blk _ h2 qe
    have hne':¬(k=d/\g'=g):=fun e=>hne e.1.symm
    exact⟨blk,by simp[G',la,Gh.add,hne',h1],by simp[G',Gh.add,zkd hbl,h2],h3.ev hf.ev (hw.old hbl) fun i=>hk qe⟩
  heap:=fun k g' cs' hb=>by
   obtain⟨blk,h1,h2,h3⟩:=hI.heap k g' cs' hb
   have hbl:=hlt blk _ h2 qe
   exact⟨blk,h1,by simp[G',Gh.add,zkd hbl,h2],h3.ev hf.ev (hw.old hbl) fun i=>hk qe⟩
  next:=hI.next
  hlt:=hI.hlt
  new:=fun b hb=>by
   rw[hw.size]at hb
   have hne:b≠w.heap.size:=qc
   simp only[G',Gh.add,hne,if_false]
   exact hI.new b qc
  vars:=fun b hb=>by
   by_cases e:b=w.heap.size
   ·simp[G',Gh.add,e]
   ·simp only[G',Gh.add,e,if_false]at hb⊢
    exact hI.vars b hb
  lps:=fun j k g' off hs=>by
   have hs':qA ((d,.lp d g 0)::st.sl) j= .lp k g' off:=hs
   show∃g'' cs',zQ (Kx st.bx d g cs) k=some (g'',cs')/\g'<=g''
   rw[ze]at hs'
   rw[kN]
   split at hs'
   ·cases hs'
    exact⟨g,cs,qe,zif _⟩
   ·obtain⟨g'',cs',h1,h2⟩:=hI.lps j k g' off hs'
    split
    ·rename_i e;subst e
     rw[h1]at hg
     exact⟨g,cs,rfl,by simp only at hg;omega⟩
    ·exact⟨g'',cs',h1,h2⟩}
end
section
variable {c:Cx}{G:Gh}{w w':World}{st:St}{a:Act}{o:Oper}{Q:Exit->Act->World->Prop}
theorem Inv.lt(hI:Inv G w st a.tmps){b:Nat}{p:Ow}(hb:G.Om b=p)(hp:p≠ .fr):b<w.heap.size:=by
 rcases zk9 b w.heap.size with h|h
 ·exact h
 ·rw[(hI.new b h).1]at hb;exact absurd hb.symm hp
theorem JN(hI:Inv G w st a.tmps)(h:Nat)(ts:List Nat)(ho:qz h o st.sl=qB ts st.sl)(hd:jy o a){cs:List AV}{arr:Array Value}{e:TypeId}
 (hw:New w w' (.cells arr e (0,0))) (hlen:cs.length<=arr.size) (hrel:∀(i:Nat) (x:AV) (u:Value),cs[i]?=some x->arr[i]?=some u->RelR G w x u) {s:SV} {v:Value}
 (hs:∀G',G'.mu st.hp.next 0=some w.heap.size->∀k,qG G' w' k s v) (hsl:∀k g off,s≠ .lp k g off) {hp1:Hp} (hn:hp1.next=st.hp.next) (hg1:∀b g cs,hp1.get b=some (g,cs)->st.hp.get b=some (g,cs)):
 jk G w a (after h o st s none (hp1.new cs)) (a.put o.dst v) w':=by
 let mu:Nat->Nat->Option Nat:=fun b g=>if b=st.hp.next/\g=0 then some w.heap.size else G.mu b g
 let G':=G.add w.heap.size (.obj st.hp.next 0) 0 mu G.la
 have hmu:∀b g x,G.mu b g=some x->mu b g=some x:=by
  intro b g x hx
  have hne:¬(b=st.hp.next/\g=0):=by
   rintro⟨rfl,rfl⟩
   rw[hI.next _ 0 (zif _)]at hx;cases hx
  simp[mu,hne,hx]
 have hf:Fr G w G' w':=Fr.new hI hw (.obj st.hp.next 0) 0 hmu
 have hk:=fun{p:Ow} (hp:p≠ .fr)=>QJ hI hw (.obj st.hp.next 0) 0 mu G.la hp
 have hI':Inv G' w' ⟨st.sl,st.bx,hp1.new cs⟩ a.tmps:={
  slots:=fun k=>qG.ev hf.ev (fun j i=>hk qe) (fun _ _ _ _ _ h=>h) (hI.slots k)
  boxes:=fun k g cs h=>by
   obtain⟨blk,h1,h2,h3⟩:=hI.boxes k g cs h
   have hb:=hI.lt h2 qe
   exact⟨blk,h1,by simp[G',Gh.add,zkd hb,h2],h3.ev hf.ev (hw.old hb) fun i=>hk qe⟩
  heap:=fun k g cs' hg=>by
   have hg':(if k=hp1.next then some (0,cs)else hp1.get k)=some (g,cs'):=hg
   rw[hn]at hg'
   split at hg'
   ·rename_i e;subst e
    cases hg'
    refine⟨w.heap.size,by simp[G',Gh.add,mu],by simp[G',Gh.add],?_⟩
    show yY G' w' w.heap.size _ cs
    refine⟨arr,_,hw.at,hlen,fun i x u hx hu=>?_⟩
    exact((hrel i x u hx hu).ev hf.ev).c _
   ·rename_i hne
    obtain⟨blk,h1,h2,h3⟩:=hI.heap k g cs' (hg1 _ _ _ hg')
    have hb:=hI.lt h2 qe
    have hne':¬(k=st.hp.next/\g=0):=fun e=>hne e.1
    exact⟨blk,by simp[G',Gh.add,mu,hne',h1],by simp[G',Gh.add,zkd hb,h2],h3.ev hf.ev (hw.old hb) fun i=>hk qe⟩
  next:=fun b g hb=>by
   have hb':hp1.next+1<=b:=hb
   have hne:¬(b=st.hp.next/\g=0):=fun e=>qc
   show mu b g=none
   simp only[mu,hne,if_false]
   exact hI.next b g qc
  hlt:=fun b g cs' hg=>by
   have hg':(if b=hp1.next then some (0,cs)else hp1.get b)=some (g,cs'):=hg
   show b<hp1.next+1
   split at hg'
   ·omega
   ·have:=hI.hlt b g cs' (hg1 _ _ _ hg');omega
  new:=fun b hb=>by
   rw[hw.size]at hb
   have hne:b≠w.heap.size:=qc
   simp only[G',Gh.add,hne,if_false]
   exact hI.new b qc
  vars:=fun b hb=>by
   by_cases e:b=w.heap.size
   ·simp[G',Gh.add,e]
   ·simp only[G',Gh.add,e,if_false]at hb⊢
    exact hI.vars b hb
  lps:=hI.lps}
 refine⟨G',?_,hf,qZ _ _ _,qD _ _ _⟩
 unfold after
 rw[ho]
 exact(hI'.dn ts).put o.dst hd (fun k _=>hs G' (by simp[G',Gh.add,mu]) k) (fun k g off e=>absurd e (hsl k g off))
theorem qe4(hI:Inv G w st a.tmps)(h:Nat)(ho:qz h o st.sl=st.sl)(hd:jy o a){cs:List AV}{arr:Array Value}{e:TypeId}
 (hw:New w w' (.cells arr e (0,0))) (hlen:cs.length<=arr.size) (hrel:∀(i:Nat) (x:AV) (u:Value),cs[i]?=some x->arr[i]?=some u->RelR G w x u) {s:SV} {v:Value}
 (hs:∀G',G'.mu st.hp.next 0=some w.heap.size->∀k,qG G' w' k s v) (hsl:∀k g off,s≠ .lp k g off):
 jk G w a (after h o st s none (st.hp.new cs)) (a.put o.dst v) w':=
 JN hI h [] (by rw[ho];rfl) hd hw hlen hrel hs hsl rfl (fun _ _ _ h=>h)
def mvF(t:Nat)(f:Nat->Ow):Ow->Ow
 | .sl k j i=>if k=t/\j=0 then f i else .sl k j i
 |p=>p
def Nm(p:Ow):Prop:=match p with| .box _ _=>False| .obj _ _=>False| .fr=>False| .oth=>False|_=>True
theorem qna(t:Nat){f:Nat->Ow}(hf:∀i,Nm (f i)):Rho (mvF t f) where
 fr:=rfl
 oth:=rfl
 box p k g h:=by
  cases p<;>simp only[mvF]at h<;>first|exact h|skip
  split at h
  ·rename_i i _;have:=hf i;rw[h]at this;exact this.elim
  ·cases h
 obj p k g h:=by
  cases p<;>simp only[mvF]at h<;>first|exact h|skip
  split at h
  ·rename_i i _;have:=hf i;rw[h]at this;exact this.elim
  ·cases h
theorem Inv.give(hI:Inv G w st a.tmps)(t:Nat){f:Nat->Ow}(hf:∀i,Nm (f i)):Inv (G.rel (mvF t f)) w ⟨qB [t] st.sl,st.bx,st.hp⟩ a.tmps:=by
 have hr:=qna t hf
 have he:Ev G w (G.rel (mvF t f)) w:=(Fr.rel hr).ev
 have keep:∀p q,mvF t f p=q->zA G w (G.rel (mvF t f)) w p q:=fun p q hpq b hb=>⟨rfl,rfl,by simp[Gh.rel,hb,hpq]⟩
 obtain⟨hn,hv⟩:=hI.relNew hr
 exact{
  slots:=fun j=>by
   show qG _ w j (qA (qB [t] st.sl) j) _
   rw[zy]
   split
   ·exact qG.ro he (k:=j) j (fun _ _ _ _ _ h=>h) (hI.slots j)
   ·rename_i hne
    refine qG.ev he (k:=j) (k':=j) (fun j' i=>keep _ _ ?_) (fun _ _ _ _ _ h=>h) (hI.slots j)
    have:j≠t:=by simpa using hne
    simp[mvF,this]
  boxes:=fun j g cs h=>by
   obtain⟨blk,h1,h2,h3⟩:=hI.boxes j g cs h
   exact⟨blk,h1,by simp[Gh.rel,h2,mvF],h3.ev he rfl fun i=>keep _ _ rfl⟩
  heap:=fun j g cs h=>by
   obtain⟨blk,h1,h2,h3⟩:=hI.heap j g cs h
   exact⟨blk,h1,by simp[Gh.rel,h2,mvF],h3.ev he rfl fun i=>keep _ _ rfl⟩
  next:=hI.next
  hlt:=hI.hlt
  new:=hn
  vars:=hv
  lps:=fun i j g off e=>by
   have e':qA (qB [t] st.sl) i= .lp j g off:=e
   rw[zy]at e'
   split at e'
   ·exact hI.lps i j g off (Jj.mp e')
   ·exact hI.lps i j g off e'}
theorem Inv.giveO(hI:Inv G w st a.tmps)(x:Operand){f:Nat->Ow}(hf:∀i,Nm (f i)){n:Nat}{l:List AV}(hl:valC n (zt st.sl x)=some l):
 ∃G',Fr G w G' w/\Inv G' w ⟨qB (zw [x]) st.sl,st.bx,st.hp⟩ a.tmps/\l.length=n/\XB G' w f l (a.eval x).cells.toList/\G'.la=G.la/\G'.mu=G.mu:=by
 have hv:=qG.valC (vz hI x) hl
 by_cases hx:∃t,x= .tmp t
 ·obtain⟨t,rfl⟩:=hx
  have hr:=qna t hf
  refine⟨G.rel (mvF t f),Fr.rel hr,hI.give t hf,hv.1,hv.2.ev (Fr.rel hr).ev (fun i b hb=>⟨rfl,rfl,?_⟩),rfl,rfl⟩
  simp[Gh.rel,hb,mvF,vG]
 ·have hx':∀t,x≠ .tmp t:=fun t e=>hx ⟨t,e⟩
  have hto:zw [x]=[]:=by cases x<;>first|rfl|exact absurd rfl (hx' _)
  rw[hto]
  refine⟨G,Fr.refl G w,hI,hv.1,⟨hv.2.1,fun i y u hy hu=>?_⟩,rfl,rfl⟩
  have hrel:=hv.2.2 i y u hy hu
  --no token:a constant
  have hnt:RelR G w y u:=by
   cases x with
   |tmp t=>exact absurd rfl (hx' t)
   |const v=>
    revert hl
    simp only[zt]
    split
    ·split
     ·intro hl
      simp only[AI.valC,qk]at hl
      split at hl
      ·cases hl
       obtain⟨z,hz,rfl⟩:=qr _ _ _ _ hy
       exact hrel
      ·cases hl
     ·intro hl;cases hl
    ·intro hl;cases hl
    ·intro hl
     simp only[AI.valC]at hl
     split at hl
     ·cases hl
      match i,hy with
      |0,hy=>simp at hy;subst hy;exact hrel
      |i+1,hy=>simp at hy
     ·cases hl
   |global g=>cases hl
   |func fn=>
    simp only[zt,AI.valC,qk]at hl
    split at hl
    ·cases hl
     match i,hy with
     |0,hy=>simp at hy;subst hy;exact hrel
     |i+1,hy=>simp at hy
    ·cases hl
  exact hnt.c _
structure WrM (w w' : World) (blk : Nat) (ob : Obj) : Prop where
 size:w'.heap.size=w.heap.size
 at_:w'.heap[blk]?=some ob
 other:∀b,b≠blk->w'.heap[b]?=w.heap[b]?
 rest:ZP w w'
 sz:∀z,VK w blk=some z->VK w' blk=some z
abbrev Wr(w w':World)(blk:Nat)(arr:Array Value)(e:TypeId):Prop:=WrM w w' blk (.cells arr e (0,0))
theorem ka{cs vs cs':List AV}{i:Nat}(h:qm cs i vs=some cs'):i+vs.length<=cs.length/\cs'=cs.take i++vs++cs.drop (i+vs.length):=by
 unfold qm at h
 split at h
 ·cases h;exact⟨by assumption,rfl⟩
 ·cases h
theorem xc{α:Type}(cs vs:List α)(i:Nat)(h:i+vs.length<=cs.length)(k:Nat):
 (cs.take i++vs++cs.drop (i+vs.length))[k]?=if i<=k/\k<i+vs.length then vs[k-i]? else cs[k]?:=by
 have hl:(cs.take i).length=i:=qg
 rw[zio]
 by_cases h1:k<i
 ·rw[zin qc,zij,if_pos h1,if_neg qc]
 ·rw[zil qc,hl]
  by_cases h2:k<i+vs.length
  ·rw[zin qc,if_pos ⟨qc,h2⟩]
  ·rw[zil qc,if_neg qc,zi0]
   congr 1;omega
theorem jG(w:World){blk off:Nat}{arr:Array Value}{e:TypeId}{mk:Nat×Nat}(hw:w.heap[blk]?=some (.cells arr e mk)) {us:List Value} (hle:off+us.length<=arr.size):
 WrM w (w.setRow blk (arr.toList.take off++us++arr.toList.drop (off+us.length)).toArray) blk (.cells (arr.toList.take off++us++arr.toList.drop (off+us.length)).toArray e mk):=by
 refine⟨qe,setRow_heap w blk arr _ e _ hw,fun b hb=>setRow_other w blk b _ hb,⟨rfl,rfl,rfl⟩,fun z hz=>?_⟩
 rw[zV hw]at hz
 rw[zV (setRow_heap w blk arr _ e _ hw)]
 rw[<-hz]
 congr 1
 have:arr.toList.length=arr.size:=zjb
 simp only[zis,zh8,ziy,zjt,this]
 omega
theorem wS{P:Program}{t:TypeId}{ti:TI}(ht:TOk P t ti)(hk:Zb ti.k=false){blk off:Nat}{arr:Array Value}{e:TypeId}(hw:w.heap[blk]?=some (.cells arr e (0,0))) {v:Value}
 (hsz:v.cells.size=ti.size) (hle:off+v.cells.size<=arr.size) (hone:∀u∈v.cells.toList,u.oneCell'=true):
 ∃w',(Instr.storeAt t (.pointer (some ⟨blk,off,none⟩)) v).run P w= .ok () w'/\
  Wr w w' blk (arr.toList.take off++v.cells.toList++arr.toList.drop (off+v.cells.toList.length)).toArray e:=by
 have hrun:=run_storeCells_at P blk off e v.cells.toList 0 arr w hw (by simpa using hle) hone
 simp only[zjo]at hrun
 refine⟨w.setRow blk (arr.toList.take off++v.cells.toList++arr.toList.drop (off+v.cells.toList.length)).toArray,?_,
  jG w hw hle⟩
 simp only[Instr.storeAt,Instr.sureAddr,storeVar]
 simp only[Sem.run_bind,Sem.run_pure,Result.andThen_ok,ht.sizeOf hk w,hsz]
 simp only[ne_eq,not_true_eq_false,if_false]
 exact hrun
theorem Fr.wr(hI:Inv G w st a.tmps){blk:Nat}{ob:Obj}(hw:WrM w w' blk ob)(hb:(∃k g,G.Om blk= .box k g)\/(∃k g,G.Om blk= .obj k g)):Fr G w G w' where
 size:=by rw[hw.size];exact zif _
 cells b i hi:=by
  have hne:b≠blk:=by rintro rfl;rw[hI.vars b hb]at hi;omega
  exact yC (hw.other b hne) i
 imm b:=zif _
 mu _ _ _ h:=h
 same b _ ho:=by
  have hne:b≠blk:=by
   rintro rfl
   rcases hb with⟨k,g,h⟩|⟨k,g,h⟩<;>rcases ho with h'|h'<;>rw[h]at h'<;>cases h'
  exact⟨hw.other b hne,rfl,rfl⟩
 rest:=hw.rest
 bs b z hz:=by
  by_cases e:b=blk
  ·subst e;exact hw.sz z hz
  ·rw[ZI (hw.other b e)];exact hz
theorem qhg{blk:Nat}{ob:Obj}(hw:WrM w w' blk ob){p:Ow}(hp:p≠G.Om blk):zA G w G w' p p:=by
 intro b hb
 have hne:b≠blk:=by rintro rfl;exact hp hb.symm
 exact⟨hw.other b hne,rfl,hb⟩
theorem Inv.writeBox(hI:Inv G w st a.tmps){k g:Nat}{cs cs':List AV}(hg:zQ st.bx k=some (g,cs)){blk:Nat}(hla:G.la k g=some blk)(hom:G.Om blk= .box k g)
 {arr:Array Value} {e:TypeId} (hw:Wr w w' blk arr e) (hlen:cs'.length<=arr.size) (hrel:∀(i:Nat) (x:AV) (u:Value),cs'[i]?=some x->arr[i]?=some u->jx G w (.bc k g i) x u):
 Inv G w' ⟨st.sl,Kx st.bx k g cs',st.hp⟩ a.tmps/\Fr G w G w':=by
 have hf:=Fr.wr hI hw (.inl ⟨k,g,hom⟩)
 have hk:∀p,(∀k g,p≠ .box k g)->zA G w G w' p p:=fun p hp=>qhg hw (by rw[hom];exact hp k g)
 refine⟨?_,hf⟩
 exact{
  slots:=fun j=>qG.ev hf.ev (fun j' i=>hk _ qe) (fun _ _ _ _ _ h=>h) (hI.slots j)
  boxes:=fun j g' cs'' hb=>by
   have hb':zQ (Kx st.bx k g cs') j=some (g',cs''):=hb
   rw[kN]at hb'
   split at hb'
   ·rename_i ek;subst ek
    cases hb'
    exact⟨blk,hla,hom,arr,e,hw.at_,hlen,fun i x u hx hu=>(hrel i x u hx hu).ev hf.ev (hk _ qe)⟩
   ·rename_i hne
    obtain⟨blk',h1,h2,h3⟩:=hI.boxes j g' cs'' hb'
    have hbb:blk'≠blk:=by
     rintro rfl;rw[hom]at h2;cases h2;exact hne rfl
    exact⟨blk',h1,h2,h3.ev hf.ev (hw.other _ hbb) fun i=>hk _ qe⟩
  heap:=fun j g' cs'' hb=>by
   obtain⟨blk',h1,h2,h3⟩:=hI.heap j g' cs'' hb
   have hbb:blk'≠blk:=by rintro rfl;rw[hom]at h2;cases h2
   exact⟨blk',h1,h2,h3.ev hf.ev (hw.other _ hbb) fun i=>hk _ qe⟩
  next:=hI.next
  hlt:=hI.hlt
  new:=fun b hb=>hI.new b (by rw[hw.size]at hb;exact hb)
  vars:=hI.vars
  lps:=fun j k' g' off hs=>by
   obtain⟨g'',cs'',h1,h2⟩:=hI.lps j k' g' off hs
   show∃g'' cs'',zQ (Kx st.bx k g cs') k'=some (g'',cs'')/\g'<=g''
   rw[kN]
   split
   ·rename_i ek;subst ek
    rw[hg]at h1;cases h1
    exact⟨g,cs',rfl,h2⟩
   ·exact⟨g'',cs'',h1,h2⟩}
theorem Inv.writeOb(hI:Inv G w st a.tmps){b g:Nat}{cs cs':List AV}(hg:st.hp.get b=some (g,cs)){blk:Nat}(hmu:G.mu b g=some blk)(hom:G.Om blk= .obj b g)
 {ob:Obj} (hw:WrM w w' blk ob) (hob:Fr G w G w'->(∀p,(∀k g,p≠ .obj k g)->zA G w G w' p p)->ObR G w' blk (.oc b g ·) g cs'):
 Inv G w' ⟨st.sl,st.bx,st.hp.put b g cs'⟩ a.tmps/\Fr G w G w':=by
 have hf:=Fr.wr hI hw (.inr ⟨b,g,hom⟩)
 have hk:∀p,(∀k g,p≠ .obj k g)->zA G w G w' p p:=fun p hp=>qhg hw (by rw[hom];exact hp b g)
 refine⟨?_,hf⟩
 exact{
  slots:=fun j=>qG.ev hf.ev (fun j' i=>hk _ qe) (fun _ _ _ _ _ h=>h) (hI.slots j)
  boxes:=fun j g' cs'' hb=>by
   obtain⟨blk',h1,h2,h3⟩:=hI.boxes j g' cs'' hb
   have hbb:blk'≠blk:=by rintro rfl;rw[hom]at h2;cases h2
   exact⟨blk',h1,h2,h3.ev hf.ev (hw.other _ hbb) fun i=>hk _ qe⟩
  heap:=fun j g' cs'' hb=>by
   have hb':(if j=b then some (g,cs')else st.hp.get j)=some (g',cs''):=hb
   split at hb'
   ·rename_i ek;subst ek
    cases hb'
    exact⟨blk,hmu,hom,hob hf hk⟩
   ·rename_i hne
    obtain⟨blk',h1,h2,h3⟩:=hI.heap j g' cs'' hb'
    have hbb:blk'≠blk:=by
     rintro rfl;rw[hom]at h2;cases h2;exact hne rfl
    exact⟨blk',h1,h2,h3.ev hf.ev (hw.other _ hbb) fun i=>hk _ qe⟩
  next:=hI.next
  hlt:=fun j g' cs'' hb=>by
   have hb':(if j=b then some (g,cs')else st.hp.get j)=some (g',cs''):=hb
   show j<st.hp.next
   split at hb'
   ·rename_i ek;subst ek;exact hI.hlt j g cs hg
   ·exact hI.hlt j g' cs'' hb'
  new:=fun b hb=>hI.new b (by rw[hw.size]at hb;exact hb)
  vars:=hI.vars
  lps:=hI.lps}
theorem Inv.writeObj(hI:Inv G w st a.tmps){b g:Nat}{cs cs':List AV}(hg0:g=0)(hg:st.hp.get b=some (g,cs)){blk:Nat}(hmu:G.mu b g=some blk)(hom:G.Om blk= .obj b g)
 {arr:Array Value} {e:TypeId} (hw:Wr w w' blk arr e) (hlen:cs'.length<=arr.size) (hrel:∀(i:Nat) (x:AV) (u:Value),cs'[i]?=some x->arr[i]?=some u->jx G w (.oc b g i) x u):
 Inv G w' ⟨st.sl,st.bx,st.hp.put b g cs'⟩ a.tmps/\Fr G w G w':=by
 subst hg0
 refine hI.writeOb hg hmu hom hw fun hf hk=>?_
 show yY G w' blk _ cs'
 exact⟨arr,e,hw.at_,hlen,fun i x u hx hu=>(hrel i x u hx hu).ev hf.ev (hk _ qe)⟩
theorem kh{p f:Nat->Ow}{cs vs cs':List AV}{off:Nat}{arr:Array Value}{us:List Value}(hp:qm cs off vs=some cs')(hlen:cs.length<=arr.size)(hvl:vs.length=us.length)
 (hc:∀(i:Nat) (x:AV) (u:Value),cs[i]?=some x->arr[i]?=some u->jx G w (p i) x u) (hv:∀(i:Nat) (x:AV) (u:Value),vs[i]?=some x->us[i]?=some u->jx G w (f i) x u) (hf:∀i,f i=p (off+i)):
 let arr':=(arr.toList.take off++us++arr.toList.drop (off+us.length)).toArray
 cs'.length<=arr'.size/\∀(i:Nat) (x:AV) (u:Value),cs'[i]?=some x->arr'[i]?=some u->jx G w (p i) x u:=by
 obtain⟨hle,rfl⟩:=ka hp
 have hle':off+us.length<=arr.toList.length:=qg
 refine⟨qg,fun i x u hx hu=>?_⟩
 have hu':(arr.toList.take off++us++arr.toList.drop (off+us.length))[i]?=some u:=by simpa using hu
 rw[xc _ _ _ hle']at hu'
 rw[xc _ _ _ hle]at hx
 rw[hvl]at hx
 split at hx
 ·rename_i hin
  rw[if_pos hin]at hu'
  have:=hv (i-off) x u hx hu'
  rw[hf]at this
  rwa [show off+(i-off)=i by omega]at this
 ·rename_i hin
  rw[if_neg hin]at hu'
  exact hc i x u hx (by simpa using hu')
end
section
variable {c:Cx}{G:Gh}{w w':World}{st:St}{a:Act}{o:Oper}{Q:Exit->Act->World->Prop}
theorem qkj(d:Option Nat)(hI:Inv G w st a.tmps)(hd:∀k,d=some k->k<a.tmps.size)(v:Value):Inv G w ⟨wt st.sl d .un,st.bx,st.hp⟩ (a.put d v).tmps:=
 hI.put d hd (fun _ _=>trivial) (fun _ _ _ e=>by cases e)
theorem xa{hp:Hp}{b g:Nat}{cs:List AV}(h:hp.rd b g=some cs):hp.get b=some (g,cs)/\g=0:=by
 unfold Hp.rd at h
 obtain⟨e,he,h⟩:=bsm h
 split at h
 ·rename_i hg
  have:e.2=cs:=zit h
  refine⟨?_,hg.2⟩
  rw[he,<-hg.1,<-this]
 ·cases h
theorem qgr{hp:Hp}{b:Nat}{cs:List AV}(h:hp.rdM b=some cs):hp.get b=some (1,cs):=by
 unfold Hp.rdM at h
 obtain⟨e,he,h⟩:=bsm h
 split at h
 ·rename_i hg
  have:e.2=cs:=zit h
  rw[he,<-hg,<-this]
 ·cases h
theorem jU{blk:Nat}{p:Nat->Ow}{g:Nat}{cs:List AV}(h:ObR G w blk p g cs)(hg:g=0):yY G w blk p cs:=by
 subst hg;exact h
theorem quk(hc:Ok c)(hI:Inv G w st a.tmps)(hd:jy o a)(h:Nat){t:TypeId}{ti:TI}(hti:c.tn t=some ti){x y:Operand}(hop:o.op= .store t x y){r:SV×BE×Hp}
 (hr:xf ti (zt st.sl x) (zt st.sl y) (zQ st.bx) st.hp k3=some r):o.wp c.P a w (jk G w a (after h o st r.1 r.2.1 r.2.2)) Q:=by
 have ht:=hc.tt t ti (qp hti).1
 have hk:=(qp hti).2
 have hxr:=vz hI x
 have hdn:qz h o st.sl=qB (zw [y]) st.sl:=by simp[qz,qL,hop]
 unfold xf at hr
 obtain⟨vs,hvs,hr⟩:=bsm hr
 split at hr
 ·rename_i k g off hx
  rw[hx]at hxr
  obtain⟨blk,hla,hv⟩:=hxr
  split at hr
  ·rename_i g' cs hgb
   split at hr
   ·rename_i hg
    subst hg
    obtain⟨cs',hcs',hr⟩:=bsm hr
    cases hr
    obtain⟨G1,hf1,hI1,hl1,hrel1,hla1,hmu1⟩:=hI.giveO y (f:=fun i=>.bc k g (off+i)) (fun i=>trivial) hvs
    obtain⟨blk',b1,b2,arr,e,b3,b4,b5⟩:=hI1.boxes k g cs hgb
    rw[hla1,hla]at b1;cases b1
    have hvl:vs.length=(a.eval y).cells.toList.length:=hrel1.1
    obtain⟨hle,_⟩:=ka hcs'
    have hsz:(a.eval y).cells.size=ti.size:=by rw[<-hl1,hvl];simp
    obtain⟨w',hrun,hwr⟩:=wS (P:=c.P) ht hk (off:=off) b3 hsz (by rw[hvl,zjb]at hle;omega) hrel1.one
    obtain⟨s1,s2⟩:=kh (p:=fun i=>.bc k g i) (f:=fun i=>.bc k g (off+i)) hcs' b4 hvl b5 hrel1.2 (fun i=>rfl)
    obtain⟨hI2,hf2⟩:=hI1.writeBox hgb (by rw[hla1];exact hla) b2 hwr s1 s2
    refine Kj (w':=w') ?_ ⟨G1,?_,hf1.trans hf2,qZ _ _ _,qD _ _ _⟩
    ·simp only[execOp,hop,hv]
     rw[Sem.run_bind,hrun];rfl
    ·unfold after
     rw[hdn]
     exact qkj o.dst hI2 hd undef
   ·cases hr
  ·cases hr
 ·rename_i z hx
  rw[hx]at hxr
  obtain⟨p,hp,hr⟩:=bsm hr
  obtain⟨cs,hcs,hr⟩:=bsm hr
  obtain⟨cs',hcs',hr⟩:=bsm hr
  cases hr
  have hz:=xu hp
  subst hz
  obtain⟨blk,m1,hv⟩:=qy2 (p:=fun i=>.sl (vG x) 0 i) hxr
  obtain⟨hget,hg0⟩:=xa hcs
  obtain⟨G1,hf1,hI1,hl1,hrel1,hla1,hmu1⟩:=hI.giveO y (f:=fun i=>.oc p.1 p.2.1 (p.2.2+i)) (fun i=>trivial) hvs
  obtain⟨blk',b1,b2,b3⟩:=hI1.heap p.1 p.2.1 cs hget
  obtain⟨arr,e,b3,b4,b5⟩:=jU b3 hg0
  rw[hmu1,m1]at b1;cases b1
  have hvl:vs.length=(a.eval y).cells.toList.length:=hrel1.1
  obtain⟨hle,_⟩:=ka hcs'
  have hsz:(a.eval y).cells.size=ti.size:=by rw[<-hl1,hvl];simp
  obtain⟨w',hrun,hwr⟩:=wS (P:=c.P) ht hk (off:=p.2.2) b3 hsz (by rw[hvl,zjb]at hle;omega) hrel1.one
  obtain⟨s1,s2⟩:=kh (p:=fun i=>.oc p.1 p.2.1 i) (f:=fun i=>.oc p.1 p.2.1 (p.2.2+i)) hcs' b4 hvl b5 hrel1.2 (fun i=>rfl)
  obtain⟨hI2,hf2⟩:=hI1.writeObj hg0 hget (by rw[hmu1];exact m1) b2 hwr s1 s2
  refine Kj (w':=w') ?_ ⟨G1,?_,hf1.trans hf2,qZ _ _ _,qD _ _ _⟩
  ·simp only[execOp,hop,hv]
   rw[Sem.run_bind,hrun];rfl
  ·unfold after
   rw[hdn]
   exact qkj o.dst hI2 hd undef
 ·cases hr
theorem qod{l:List Value}{arr:Array Value}(h:arr.toList=l)(h1:∀v∈l,v.oneCell'=true):
 (zJ l).length<=arr.size/\∀(i:Nat) (x:AV) (u:Value),(zJ l)[i]?=some x->arr[i]?=some u->RelR G w x u:=by
 subst h
 refine⟨by simp[zJ],fun i x u hx hu=>?_⟩
 obtain⟨y,hy,rfl⟩:=qr _ _ _ _ hx
 have:arr.toList[i]?=some u:=by simpa using hu
 rw[hy]at this;cases this
 exact .sc _ (h1 _ (zig hy))
theorem yo(w:World)(ob:Obj):New w {w with heap:=w.heap.push ob} ob:=⟨rfl,rfl,rfl,rfl⟩
theorem qut(hc:Ok c)(hI:Inv G w st a.tmps)(hd:jy o a)(h:Nat){t:TypeId}{ti:TI}(hti:c.tn t=some ti)(hop:o.op= .alloc t){r:SV×BE×Hp}
 (hr:(if h=2 then k3 (.av (.ptr st.hp.next 0 0)) none (st.hp.new (zJ ti.zero))else
  match o.dst with
  |some d=>let g:=match zQ st.bx d with|some (g,_)=>g+1|none=>0
   k3 (.lp d g 0) (some (d,g,zJ ti.zero)) st.hp
  |none=>none)=some r):o.wp c.P a w (jk G w a (after h o st r.1 r.2.1 r.2.2)) Q:=by
 have ht:=hc.tt t ti (qp hti).1
 obtain⟨z,z1,z2,z3,z4⟩:=ht.zero (qp hti).2
 have hdn:qz h o st.sl=st.sl:=by simp[qz,qL,hop,qB]
 obtain⟨r1,r2⟩:=qod (G:=G) (w:=w) z1 z3
 have hrun:(execOp a.eval o).run c.P w= .ok (.value (.pointer (some ⟨w.heap.size,0,none⟩))) {w with heap:=w.heap.push (.cells z.cells t (0,0))}:=by
  simp only[execOp,hop,Instr.alloc]
  simp[z4,newVar,newRow]
 split at hr
 ·cases hr
  refine qq hrun (qe4 hI h hdn hd (yo w _) r1 r2 (fun G' hG k=>?_) (fun _ _ _ e=>by cases e))
  exact RelR.ptr _ _ _ _ hG
 ·split at hr
  ·rename_i d hdst
   cases hr
   exact qq hrun (qoa hI h hdn hdst (hd d hdst) (yo w _) r1 r2 rfl)
  ·cases hr
theorem qyx{p:Nat->Ow}{l:List AV}{vs:List Value}{arr:Array Value}(h:XB G w p l vs)(ha:arr.toList=vs):
 (l.map ro1).length<=arr.size/\∀(i:Nat) (x:AV) (u:Value),(l.map ro1)[i]?=some x->arr[i]?=some u->RelR G w x u:=by
 subst ha
 refine⟨by have:=h.1;simp at this⊢;omega,fun i x u hx hu=>?_⟩
 obtain⟨y,hy,rfl⟩:=qr _ _ _ _ hx
 exact(h.2 i y u hy (by simpa using hu)).ro
theorem zdt(hc:Ok c)(hI:Inv G w st a.tmps)(hd:jy o a)(h:Nat){t:TypeId}{ti:TI}(hti:c.tn t=some ti){x:Operand}(hop:o.op= .box t x){r:SV×BE×Hp}
 (hr:((valC ti.size (zt st.sl x)).bind fun vs=>if h=2 then k3 (.av (.ptr st.hp.next 0 0)) none (st.hp.new (vs.map ro1))else
  match o.dst with
  |some d=>let g:=match zQ st.bx d with|some (g,_)=>g+1|none=>0
   k3 (.lp d g 0) (some (d,g,vs.map ro1)) st.hp
  |none=>none)=some r):o.wp c.P a w (jk G w a (after h o st r.1 r.2.1 r.2.2)) Q:=by
 obtain⟨vs,hvs,hr⟩:=bsm hr
 have hv:=qG.valC (vz hI x) hvs
 have hdn:qz h o st.sl=st.sl:=by simp[qz,qL,hop,qB]
 obtain⟨r1,r2⟩:=qyx (arr:=(a.eval x).cells) hv.2 rfl
 have hrun:(execOp a.eval o).run c.P w= .ok (.value (.pointer (some ⟨w.heap.size,0,none⟩))) {w with heap:=w.heap.push (.cells (a.eval x).cells t (0,0))}:=by
  simp only[execOp,hop,Instr.box]
  simp[newVar,newRow]
 split at hr
 ·cases hr
  refine qq hrun (qe4 hI h hdn hd (yo w _) r1 r2 (fun G' hG k=>?_) (fun _ _ _ e=>by cases e))
  exact RelR.ptr _ _ _ _ hG
 ·split at hr
  ·rename_i d hdst
   cases hr
   exact qq hrun (qoa hI h hdn hdst (hd d hdst) (yo w _) r1 r2 rfl)
  ·cases hr
end
section
variable {c:Cx}{G:Gh}{w w':World}{st:St}{a:Act}{o:Oper}{Q:Exit->Act->World->Prop}
theorem qg7(cs:List AV)(off i:Nat)(x:AV)(hx:cs[off]?=some x):(cs.set off (ro1 x))[i]?=if off<=i/\i<off+1 then(cs[i]?).map ro1 else cs[i]?:=by
 have hlt:=(zih.mp hx).1
 by_cases e:off=i
 ·subst e
  rw[zlx hlt,if_pos ⟨zif _,qc⟩,hx];rfl
 ·rw[zl5 e,if_neg qc]
theorem qa6{P:Program}{t:TypeId}{ti:TI}(ht:TOk P t ti)(hk:Zb ti.k=false){cs:List AV}{vs:List Value}{A:Addr}{off:Nat}{p:Nat->Ow}
 (hlen:cs.length=vs.length) (hcell:∀(k:Nat) (u:Value),vs[k]?=some u->w.cell? (A.add k)=some u) (hrel:∀(k:Nat) (x:AV) (u:Value),cs[k]?=some x->vs[k]?=some u->jx G w (p k) x u)
 {r:SV×List AV} (hr:(jz ti 1 cs off fun s l=>some (s,l))=some r):
 ∃n,r.2.length=cs.length/\(∀i:Nat,r.2[i]?=if off<=i/\i<off+n then(cs[i]?).map ro1 else cs[i]?)/\
  ∃v,(Instr.loadAt t (.pointer (some (A.add off)))).run P w= .ok v w/\(∀k g off,r.1≠ .lp k g off)/\
   ∀(G':Gh) k',Ev G w G' w->(∀i,i<n->zA G w G' w (p (off+i)) (.sl k' 0 i))->qG G' w k' r.1 v:=by
 have vx:∀j,(A.add off).add j=A.add (off+j):=by
  intro j
  unfold Addr.add
  by_cases h1:off=0<;>by_cases h2:j=0<;>simp[h1,h2,zkq]
 have hz:=ht.sizeOf hk w
 have ha:=ht.isAgg hk w
 unfold jz at hr
 split at hr
 ·rename_i hsc
  obtain⟨v,hv,hr⟩:=bsm hr
  cases hr
  have hx:=kJ hv
  obtain⟨u,hu⟩:=qU hlen hx
  have hru:=hrel _ _ _ hx hu
  have hag:yJ ti.k=false:=by cases hkk:ti.k<;>rw[hkk]at hsc<;>first|rfl|cases hsc
  refine⟨0,rfl,fun i=>by rw[if_neg qc],u,?_,(fun _ _ _ e=>by cases e),fun G' k' he hke=>?_⟩
  ·simp[Instr.loadAt,Instr.sureAddr,loadVar,ha,hag,hcell _ _ hu]
  ·have hru':RelR G w (.sc v) u:=hru
   cases hru' with
   |sc _ h1=>exact⟨rfl,h1⟩
 ·split at hr
  ·rename_i hsc hag
   obtain⟨l,hl,hr⟩:=bsm hr
   simp only[if_true]at hr
   obtain⟨cs',hcs',hr⟩:=bsm hr
   cases hr
   obtain⟨hle,rfl⟩:=zM hl
   obtain⟨hle2,rfl⟩:=ka hcs'
   have hll:((cs.drop off).take ti.size).length=ti.size:=qg
   refine⟨ti.size,qg,fun i=>?_,.agg ((vs.drop off).take ti.size).toArray,?_,(fun _ _ _ e=>by cases e),fun G' k' he hke=>⟨(vs.drop off).take ti.size,rfl,by simp[hlen],fun i x u hx hu=>?_⟩⟩
   ·rw[xc _ _ _ hle2]
    simp only[zjg,hll]
    split
    ·rename_i hin
     rw[zir,zij,if_pos qc,zi0]
     congr 2;omega
    ·rfl
   ·have hload:=run_loadCells_list (P:=P) (w:=w) (A.add off) ((vs.drop off).take ti.size) (fun j v hj=>by
     rw[vx]
     rw[zij]at hj
     split at hj
     ·exact hcell (off+j) v (by rw[<-hj];simp)
     ·cases hj)
    have hll':((vs.drop off).take ti.size).length=ti.size:=qg
    rw[hll']at hload
    simp[Instr.loadAt,Instr.sureAddr,loadVar,ha,hag,hz,hload]
   ·rw[zij]at hx hu
    split at hx
    ·rename_i hq
     simp only[hq,if_true]at hu
     exact(hrel (off+i) x u (by rw[<-hx];simp) (by rw[<-hu];simp)).ev he (hke i hq)
    ·cases hx
  ·rename_i hsc hag
   obtain⟨x,hx,hr⟩:=bsm hr
   simp only[if_true]at hr
   cases hr
   have hx:cs[off]?=some x:=hx
   obtain⟨u,hu⟩:=qU hlen hx
   have hag':yJ ti.k=false:=by simpa using hag
   refine⟨1,qe,fun i=>qg7 cs off i x hx,u,?_,(fun _ _ _ e=>by cases e),fun G' k' he hke=>?_⟩
   ·simp[Instr.loadAt,Instr.sureAddr,loadVar,ha,hag',hcell _ _ hu]
   ·exact(((hrel _ _ _ hx hu).ev he (by simpa using hke 0 qc)).v (p:=fun i=>.sl k' 0 i))
def Zh(XJ:Ow->Option Nat)(d:Nat)(p:Ow):Ow:=
 match XJ p with
 |some i=>.sl d 0 i
 |none=>p
def Wt(k g off n:Nat):Ow->Option Nat
 | .bc k' g' q=>if k'=k/\g'=g/\off<=q/\q<off+n then some (q-off)else none
 |_=>none
def Ky(k g off n:Nat):Ow->Option Nat
 | .oc k' g' q=>if k'=k/\g'=g/\off<=q/\q<off+n then some (q-off)else none
 |_=>none
structure SelOk (XJ : Ow → Option Nat) : Prop where
 sl:∀k j i,XJ (.sl k j i)=none
 box:∀k g,XJ (.box k g)=none
 obj:∀k g,XJ (.obj k g)=none
 fr:XJ .fr=none
 oth:XJ .oth=none
theorem qyg(k g off n:Nat):SelOk (Wt k g off n):=⟨fun _ _ _=>rfl,fun _ _=>rfl,fun _ _=>rfl,rfl,rfl⟩
theorem qyf(k g off n:Nat):SelOk (Ky k g off n):=⟨fun _ _ _=>rfl,fun _ _=>rfl,fun _ _=>rfl,rfl,rfl⟩
theorem qm9{XJ:Ow->Option Nat}(hs:SelOk XJ)(d:Nat):Rho (Zh XJ d) where
 fr:=by simp[Zh,hs.fr]
 oth:=by simp[Zh,hs.oth]
 box p k g h:=by
  unfold Zh at h
  split at h
  ·cases h
  ·exact h
 obj p k g h:=by
  unfold Zh at h
  split at h
  ·cases h
  ·exact h
theorem qnc{G':Gh}(he:Ev G w G' w){p q:Nat->Ow}{off n:Nat}{cs cs':List AV}{arr:Array Value}(hlen:cs'.length=cs.length)
 (hget:∀i:Nat,cs'[i]?=if off<=i/\i<off+n then(cs[i]?).map ro1 else cs[i]?) (h:∀(i:Nat) (x:AV) (u:Value),cs[i]?=some x->arr[i]?=some u->jx G w (p i) x u)
 (hk:∀i,¬(off<=i/\i<off+n)->zA G w G' w (p i) (q i)) (i:Nat) (x:AV) (u:Value) (hx:cs'[i]?=some x) (hu:arr[i]?=some u):jx G' w (q i) x u:=by
 rw[hget]at hx
 split at hx
 ·cases hc:cs[i]? with
  |none=>rw[hc]at hx;cases hx
  |some y=>
   rw[hc]at hx
   cases hx
   exact((h i y u hc hu).ro.ev he).c _
 ·rename_i hin
  exact(h i x u hx hu).ev he (hk i hin)
theorem qun(hc:Ok c)(hI:Inv G w st a.tmps)(hd:jy o a){t:TypeId}{ti:TI}(hti:c.tn t=some ti){x:Operand}(hop:o.op= .load t x){r:SV×BE×Hp}
 (hr:zY 1 ti (zt st.sl x) (zQ st.bx) st.hp k3=some r):o.wp c.P a w (jk G w a (after 1 o st r.1 r.2.1 r.2.2)) Q:=by
 have hdn:qz 1 o st.sl=st.sl:=by simp[qz,qL,hop,qB]
 have ht:=hc.tt t ti (qp hti).1
 have hkk:=(qp hti).2
 have hxr:=vz hI x
 unfold zY at hr
 split at hr
 ·rename_i k g off hx
  rw[hx]at hxr
  obtain⟨blk,hla,hv⟩:=hxr
  split at hr
  ·rename_i g' cs hgb
   split at hr
   ·rename_i hg
    subst hg
    rw[qE]at hr
    obtain⟨q,hq,hr⟩:=bsm hr
    have hr':some (q.1,(some (k,g,q.2):BE),st.hp)=some r:=hr
    cases hr'
    obtain⟨blk',b1,b2,b3⟩:=hI.boxes k g cs hgb
    rw[hla]at b1;cases b1
    obtain⟨vs,v1,v2,v3⟩:=vp b3
    obtain⟨n,n1,n2,v,hrun,n3,n4⟩:=qa6 (P:=c.P) ht hkk (A:=⟨blk,0,none⟩) v1 (fun k u hu=>v2 0 k u (by simpa using hu)) v3 hq
    rw[qS,ziw]at hrun
    have hrun':(execOp a.eval o).run c.P w= .ok (.value v) w:=by
     simp only[execOp,hop,hv]
     rw[Sem.run_bind,hrun];rfl
    have hso:=qyg k g off n
    let d:=o.dst.getD 0
    have hrho:=qm9 hso d
    have he:Ev G w (G.rel (Zh (Wt k g off n) d)) w:=(Fr.rel hrho).ev
    have keep:∀p q,Zh (Wt k g off n) d p=q->zA G w (G.rel (Zh (Wt k g off n) d)) w p q:=fun p q hpq b hb=>⟨rfl,rfl,by simp[Gh.rel,hb,hpq]⟩
    obtain⟨hnw,hvars⟩:=hI.relNew hrho
    refine qq hrun' ⟨G.rel (Zh (Wt k g off n) d),?_,Fr.rel hrho,qZ _ _ _,qD _ _ _⟩
    have hI2:Inv (G.rel (Zh (Wt k g off n) d)) w ⟨st.sl,Kx st.bx k g q.2,st.hp⟩ a.tmps:={
     slots:=fun j=>qG.ev he (fun j' i=>keep _ _ (by simp[Zh,hso.sl])) (fun _ _ _ _ _ h=>h) (hI.slots j)
     boxes:=fun j g' cs'' hb=>by
      have hb':zQ (Kx st.bx k g q.2) j=some (g',cs''):=hb
      rw[kN]at hb'
      split at hb'
      ·rename_i ek;subst ek
       cases hb'
       obtain⟨arr,e,a1,a2,a3⟩:=b3
       refine⟨blk,hla,by simp[Gh.rel,b2,Zh,hso.box],arr,e,a1,by rw[n1];exact a2,qnc he n1 n2 a3 (fun i hi=>keep _ _ ?_)⟩
       simp only[Zh,Wt]
       rw[if_neg qc]
      ·rename_i hne
       obtain⟨blk',h1,h2,h3⟩:=hI.boxes j g' cs'' hb'
       refine⟨blk',h1,by simp[Gh.rel,h2,Zh,hso.box],h3.ev he rfl fun i=>keep _ _ ?_⟩
       simp only[Zh,Wt]
       rw[if_neg (fun e=>hne e.1.symm)]
     heap:=fun j g' cs'' hb=>by
      obtain⟨blk',h1,h2,h3⟩:=hI.heap j g' cs'' hb
      exact⟨blk',h1,by simp[Gh.rel,h2,Zh,hso.obj],h3.ev he rfl fun i=>keep _ _ (by simp[Zh,Wt])⟩
     next:=hI.next
     hlt:=hI.hlt
     new:=hnw
     vars:=hvars
     lps:=fun j k' g' off hs=>by
      obtain⟨g'',cs'',h1,h2⟩:=hI.lps j k' g' off hs
      show∃g'' cs'',zQ (Kx st.bx k g q.2) k'=some (g'',cs'')/\g'<=g''
      rw[kN]
      split
      ·rename_i ek;subst ek
       rw[hgb]at h1;cases h1
       exact⟨g,q.2,rfl,h2⟩
      ·exact⟨g'',cs'',h1,h2⟩}
    unfold after
    rw[hdn]
    refine hI2.put o.dst hd (fun k' hk'=>n4 _ k' he (fun i hi=>keep _ _ ?_)) (fun k' g' off' e=>absurd e (n3 k' g' off'))
    have hdd:d=k':=by simp[d,hk']
    simp only[Zh,Wt]
    rw[if_pos ⟨trivial,trivial,qc,qc⟩,hdd]
    simp
   ·cases hr
  ·cases hr
 ·simp at hr
 ·rename_i y hx
  rw[hx]at hxr
  obtain⟨p,hp,hr⟩:=bsm hr
  obtain⟨cs,hcs,hr⟩:=bsm hr
  rw[qE]at hr
  obtain⟨q,hq,hr⟩:=bsm hr
  have hr':some (q.1,(none:BE),st.hp.put p.1 p.2.1 q.2)=some r:=hr
  cases hr'
  have hy:=xu hp
  subst hy
  obtain⟨blk,m1,hv⟩:=qy2 (p:=fun i=>.sl (vG x) 0 i) hxr
  obtain⟨hget,hg0⟩:=xa hcs
  obtain⟨blk',b1,b2,b3⟩:=hI.heap p.1 p.2.1 cs hget
  have b3:=jU b3 hg0
  rw[m1]at b1;cases b1
  obtain⟨vs,v1,v2,v3⟩:=vp b3
  obtain⟨n,n1,n2,v,hrun,n3,n4⟩:=qa6 (P:=c.P) ht hkk (A:=⟨blk,0,none⟩) v1 (fun k u hu=>v2 0 k u (by simpa using hu)) v3 hq
  rw[qS,ziw]at hrun
  have hrun':(execOp a.eval o).run c.P w= .ok (.value v) w:=by
   simp only[execOp,hop,hv]
   rw[Sem.run_bind,hrun];rfl
  have hso:=qyf p.1 p.2.1 p.2.2 n
  let d:=o.dst.getD 0
  have hrho:=qm9 hso d
  have he:Ev G w (G.rel (Zh (Ky p.1 p.2.1 p.2.2 n) d)) w:=(Fr.rel hrho).ev
  have keep:∀u v,Zh (Ky p.1 p.2.1 p.2.2 n) d u=v->zA G w (G.rel (Zh (Ky p.1 p.2.1 p.2.2 n) d)) w u v:=fun u v hpq b hb=>⟨rfl,rfl,by simp[Gh.rel,hb,hpq]⟩
  obtain⟨hnw,hvars⟩:=hI.relNew hrho
  refine qq hrun' ⟨G.rel (Zh (Ky p.1 p.2.1 p.2.2 n) d),?_,Fr.rel hrho,qZ _ _ _,qD _ _ _⟩
  have hI2:Inv (G.rel (Zh (Ky p.1 p.2.1 p.2.2 n) d)) w ⟨st.sl,st.bx,st.hp.put p.1 p.2.1 q.2⟩ a.tmps:={
   slots:=fun j=>qG.ev he (fun j' i=>keep _ _ (by simp[Zh,hso.sl])) (fun _ _ _ _ _ h=>h) (hI.slots j)
   boxes:=fun j g' cs'' hb=>by
    obtain⟨blk',h1,h2,h3⟩:=hI.boxes j g' cs'' hb
    exact⟨blk',h1,by simp[Gh.rel,h2,Zh,hso.box],h3.ev he rfl fun i=>keep _ _ (by simp[Zh,Ky])⟩
   heap:=fun j g' cs'' hb=>by
    have hb':(if j=p.1 then some (p.2.1,q.2)else st.hp.get j)=some (g',cs''):=hb
    split at hb'
    ·rename_i ek;subst ek
     cases hb'
     obtain⟨arr,e,a1,a2,a3⟩:=b3
     refine⟨blk,m1,by simp[Gh.rel,b2,Zh,hso.obj],?_⟩
     have key:yY (G.rel (Zh (Ky p.1 p.2.1 p.2.2 n) d)) w blk (.oc p.1 p.2.1 ·) q.2:=by
      refine⟨arr,e,a1,by rw[n1];exact a2,qnc he n1 n2 a3 (fun i hi=>keep _ _ ?_)⟩
      simp only[Zh,Ky]
      rw[if_neg qc]
     rw[hg0]at key⊢
     exact key
    ·rename_i hne
     obtain⟨blk',h1,h2,h3⟩:=hI.heap j g' cs'' hb'
     refine⟨blk',h1,by simp[Gh.rel,h2,Zh,hso.obj],h3.ev he rfl fun i=>keep _ _ ?_⟩
     simp only[Zh,Ky]
     rw[if_neg (fun e=>hne e.1)]
   next:=hI.next
   hlt:=fun j g' cs'' hb=>by
    have hb':(if j=p.1 then some (p.2.1,q.2)else st.hp.get j)=some (g',cs''):=hb
    show j<st.hp.next
    split at hb'
    ·rename_i ek;subst ek;exact hI.hlt _ _ cs hget
    ·exact hI.hlt j g' cs'' hb'
   new:=hnw
   vars:=hvars
   lps:=hI.lps}
  unfold after
  rw[hdn]
  refine hI2.put o.dst hd (fun k' hk'=>n4 _ k' he (fun i hi=>keep _ _ ?_)) (fun k' g' off' e=>absurd e (n3 k' g' off'))
  have hdd:d=k':=by simp[d,hk']
  simp only[Zh,Ky]
  rw[if_pos ⟨trivial,trivial,qc,qc⟩,hdd]
  simp
 ·cases hr
end
section
variable {c:Cx}{G:Gh}{w w':World}{st:St}{a:Act}{o:Oper}{Q:Exit->Act->World->Prop}
theorem we(P:Program)(g o:Nat)(t:TypeId)(z:Nat×Nat):∀(vs:List Value) (i:Nat) (cur:Array Value) (w:World),w.heap[g]?=some (.cells cur t z)->(z=(0,0)\/cur.size<=z.1)->o+i+vs.length<=cur.size->(∀v∈vs,v.oneCell'=true)->
 (storeCells ⟨g,o,none⟩ vs i).run P w= .ok () (w.setRow g (cur.toList.take (o+i)++vs++cur.toList.drop (o+i+vs.length)).toArray)
 |[],i,cur,w,hg,_,_,_=>by
  simp only[storeCells,zi4,zi1,zjo,zlj,Array.toArray_toList]
  rw[setRow_self w g cur t z hg]
  rfl
 |v::rest,i,cur,w,hg,hz,hl,h1=>by
  have hi:o+i<cur.size:=by simp at hl;omega
  have vx:(⟨g,o,none⟩:Addr).add i=⟨g,o+i,none⟩:=by unfold Addr.add;split<;>simp_all
  have hcell:w.cell? ⟨g,o+i,none⟩=some cur[o+i]:=by simp[World.cell?,hg,hi]
  have hfro:w.frozen? ⟨g,o+i,none⟩=false:=by
   rcases hz with rfl|hz
   ·simp[World.frozen?,hg]
   ·obtain⟨z1,z2⟩:=z
    simp only[World.frozen?,hg,Bool.and_eq_false_iff,decide_eq_false_iff_not]
    exact .inl (by simp only at hz;omega)
  have hst:(store ((⟨g,o,none⟩:Addr).add i) v).run P w= .ok () (w.setRow g (cur.setIfInBounds (o+i) v)):=by
   rw[vx,run_store P w _ v _ (h1 v qe),hcell]
   simp[hfro,setCell_eq_setRow w g (o+i) cur t z v hg]
  have ih:=we P g o t z rest (i+1) (cur.setIfInBounds (o+i) v) (w.setRow g (cur.setIfInBounds (o+i) v)) (setRow_heap w g cur _ t _ hg) (by simpa using hz) (by simp at hl⊢;omega) (fun x hx=>h1 x (by simp[hx]))
  simp only[storeCells,Sem.run_bind,hst,Result.andThen_ok,ih,setRow_setRow]
  congr 3
  have e:=list_seg_step cur.toList (o+i) v rest (by simp at hl⊢;omega)
  simpa[Array.toList_setIfInBounds,zkq]using e
theorem wh{P:Program}(t ty e e':TypeId)(i:TypeInfo)(ht:P.underlying t=some (.slice e))(hi:P.info? e=some i)
 (g sLen sCap:Nat) (cur:Array Value) {z:Nat×Nat} (hg:w.heap[g]?=some (.cells cur e' z)) (hz:z=(0,0)\/cur.size<=z.1)
 (A:Addr) (m c:Nat) (news:List Value) (hl:news.length=m*i.size) (hnews:∀j u,news[j]?=some u->w.cell? (A.add j)=some u) (h1:∀u∈news,u.oneCell'=true)
 (hroom:sLen+m<=sCap) (hfit:sLen*i.size+news.length<=cur.size):
 (Builtin.append_ #[t,t] ty #[.slice (some ⟨g,0,none⟩) sLen sCap,.slice (some A) m c]).run P w=
  .ok (.slice (some ⟨g,0,none⟩) (sLen+m) sCap) (w.setRow g (cur.toList.take (sLen*i.size)++news++cur.toList.drop (sLen*i.size+news.length)).toArray):=by
 have hf:=run_firstCells_some (P:=P) w i.size m A m c news hl hnews
 have hst:=we P g (sLen*i.size) e' z news 0 cur w hg hz (by simpa using hfit) h1
 simp only[zjo]at hst
 simp[Builtin.append_,run_underlying ht,sizeOf,typeInfo,hi,Builtin.lenOf,hroom,hf,Addr.add_lit,hst]
theorem Ji{P:Program}(t ty e:TypeId)(i:TypeInfo)(ht:P.underlying t=some (.slice e))(hi:P.info? e=some i)(A:Option Addr)(n cap:Nat)(hn:n<=cap)(w:World):
 (Builtin.append_ #[t,t] ty #[.slice A n cap,.slice none 0 0]).run P w= .ok (.slice A n cap) w:=by
 cases A<;>simp[Builtin.append_,run_underlying ht,sizeOf,typeInfo,hi,Builtin.lenOf,Builtin.firstCells,hn,storeCells]
theorem Jh{P:Program}(t ty e:TypeId)(i:TypeInfo)(ht:P.underlying t=some (.slice e))(hi:P.info? e=some i)(A:Option Addr)(n cap:Nat)(hn:n<=cap)(B:Addr)(c:Nat)(w:World):
 (Builtin.append_ #[t,t] ty #[.slice A n cap,.slice (some B) 0 c]).run P w= .ok (.slice A n cap) w:=by
 cases A<;>simp[Builtin.append_,run_underlying ht,sizeOf,typeInfo,hi,Builtin.lenOf,Builtin.firstCells,hn,storeCells,loadCells,loadCellsFrom]
theorem zcl{s:SV}{z:Nat}{cs:List AV}(h:XF s=some (.us z cs)):s= .av (.us z cs):=by
 cases s<;>simp[XF]at h
 rw[h]
theorem Zm(hI:Inv G w st a.tmps)(t:Nat)(ts:List Nat)(hts:t∈ts){h:Nat}(ho:qz h o st.sl=qB ts st.sl)(hd:jy o a){sz n m cap b:Nat}{cs ys:List AV}
 {arr:Array Value} {e:TypeId} {news:List Value} (hom:G.Om b= .sl t 0 0) (hsz:0<sz) (hcs:cs.length=n*sz) (hib:G.I b=n*sz) {mk:Nat×Nat} (hb:w.heap[b]?=some (.cells arr e mk)) (hmk:mk=(0,0)\/(cs≠[]/\arr.size<=mk.1))
 (harr:arr.size=cap*sz) (hrel:∀(k:Nat) (x:AV),cs[k]?=some x->∃u,arr[k]?=some u/\RelR G w x u) (hroom:n+m<=cap) (hys:ys.length=m*sz) (hnl:news.length=ys.length)
 (hyr:∀(k:Nat) (x:AV) (u:Value),ys[k]?=some x->news[k]?=some u->RelR G w x u) (hvl:∀x∈cs++ys,vl x=true)
 (hw:WrM w w' b (.cells (arr.toList.take (n*sz)++news++arr.toList.drop (n*sz+news.length)).toArray e mk)):
 jk G w a (after h o st (.av (.us sz (cs++ys))) none st.hp) (a.put o.dst (.slice (some ⟨b,0,none⟩) (n+m) cap)) w':=by
 have hlt:b<w.heap.size:=hI.lt hom qe
 let d:=o.dst.getD 0
 let G':Gh:={G with Om:=fun x=>if x=b then .sl d 0 0 else G.Om x,I:=fun x=>if x=b then(n+m)*sz else G.I x}
 have hmul:n*sz+m*sz<=arr.toList.length:=by
  rw[<-Nat.add_mul];simp[harr];exact ziq sz hroom
 have hmulG:(n+m)*sz=n*sz+m*sz:=zk6 n m sz
 have hget:∀k,(arr.toList.take (n*sz)++news++arr.toList.drop (n*sz+news.length))[k]?=if n*sz<=k/\k<n*sz+news.length then news[k-n*sz]? else arr.toList[k]?:=
  fun k=>xc arr.toList news (n*sz) (by rw[hnl,hys];exact hmul) k
 have hf:Fr G w G' w':={
  size:=by rw[hw.size];exact zif _
  cells:=fun x i hi=>by
   by_cases ex:x=b
   ·subst ex
    rw[hib]at hi
    rw[qR hw.at_,qR hb]
    have:=hget i
    rw[if_neg qc]at this
    simpa using this
   ·exact yC (hw.other x ex) i
  imm:=fun x=>by
   simp only[G']
   split
   ·rename_i ex;subst ex;rw[hib];exact ziq sz qc
   ·exact zif _
  mu:=fun _ _ _ h=>h
  rest:=hw.rest
  same:=fun x hx ho'=>by
   have hne:x≠b:=by rintro rfl;rcases ho' with h'|h'<;>rw[hom]at h'<;>cases h'
   exact⟨hw.other x hne,by simp[G',hne],by simp[G',hne]⟩
  bs:=fun x z hz=>by
   by_cases ex:x=b
   ·subst ex;exact hw.sz z hz
   ·rw[ZI (hw.other x ex)];exact hz}
 have hk:∀p,p≠ .sl t 0 0->zA G w G' w' p p:=by
  intro p hp x hx
  have hne:x≠b:=by rintro rfl;rw[hom]at hx;exact hp hx.symm
  exact⟨hw.other x hne,by simp[G',hne],by simp[G',hne,hx]⟩
 have hnew:jx G' w' (.sl d 0 0) (.us sz (cs++ys)) (.slice (some ⟨b,0,none⟩) (n+m) cap):=by
  have hal:arr.toList.length=cap*sz:=by rw[<-harr];exact zjb
  have hsa:(arr.toList.take (n*sz)++news++arr.toList.drop (n*sz+news.length)).toArray.size=cap*sz:=by
   rw[zis,zh8,zh8,ziy,zjt,hnl,hys]
   rw[hal]at hmul⊢
   omega
  refine⟨b,by simp[G'],⟨⟨n+m,cap,_,e,mk,rfl,hsz,by simp[hcs,hys,hmulG],qc,by simp[G'],hw.at_,hsa,fun k x hx=>?_,hmk.imp id fun q=>⟨fun e0=>q.1 (List.append_eq_nil_iff.mp e0).1,by rw[hsa,<-harr];exact q.2⟩⟩,hvl⟩⟩
  ·have hg:=hget k
   by_cases hk1:k<n*sz
   ·rw[zin qc]at hx
    obtain⟨u,hu,hr⟩:=hrel k x hx
    rw[if_neg qc]at hg
    exact⟨u,by simpa using hg.trans (by simpa using hu),hr.ev hf.ev⟩
   ·rw[zil qc,hcs]at hx
    have hlt2:=(zih.mp hx).1
    obtain⟨u,hu⟩:=qU hnl.symm hx
    rw[if_pos qc]at hg
    exact⟨u,by simpa using hg.trans hu,(hyr _ x u hx hu).ev hf.ev⟩
 refine⟨G',?_,hf,qZ _ _ _,qD _ _ _⟩
 have hI2:Inv G' w' ⟨qB ts st.sl,st.bx,st.hp⟩ a.tmps:={
  slots:=fun j=>by
   show qG G' w' j (qA (qB ts st.sl) j) _
   rw[zy]
   split
   ·exact qG.ro hf.ev (k:=j) j (fun _ _ _ _ _ h=>h) (hI.slots j)
   ·rename_i hne
    refine qG.ev hf.ev (fun j' i=>hk _ ?_) (fun _ _ _ _ _ h=>h) (hI.slots j)
    intro e';cases e';exact hne hts
  boxes:=fun j g cs' h'=>by
   obtain⟨blk,h1,h2,h3⟩:=hI.boxes j g cs' h'
   have hne:blk≠b:=by rintro rfl;rw[hom]at h2;cases h2
   exact⟨blk,h1,by simp[G',hne,h2],h3.ev hf.ev (hw.other _ hne) fun i=>hk _ qe⟩
  heap:=fun j g cs' h'=>by
   obtain⟨blk,h1,h2,h3⟩:=hI.heap j g cs' h'
   have hne:blk≠b:=by rintro rfl;rw[hom]at h2;cases h2
   exact⟨blk,h1,by simp[G',hne,h2],h3.ev hf.ev (hw.other _ hne) fun i=>hk _ qe⟩
  next:=hI.next
  hlt:=hI.hlt
  new:=fun x hx=>by
   rw[hw.size]at hx
   have hne:x≠b:=qc
   simp only[G',hne,if_false]
   exact hI.new x hx
  vars:=fun x hx=>by
   by_cases hne:x=b
   ·simp only[G',hne,if_true]at hx
    rcases hx with⟨_,_,hx⟩|⟨_,_,hx⟩<;>cases hx
   ·simp only[G',hne,if_false]at hx⊢
    exact hI.vars x hx
  lps:=fun i j g off e'=>by
   have e'':qA (qB ts st.sl) i= .lp j g off:=e'
   rw[zy]at e''
   split at e''
   ·exact hI.lps i j g off (Jj.mp e'')
   ·exact hI.lps i j g off e''}
 unfold after
 rw[ho]
 refine hI2.put o.dst hd (fun k hk'=>?_) (fun _ _ _ e=>by cases e)
 have hdk:d=k:=by simp[d,hk']
 subst hdk
 exact hnew
theorem yF(hI:Inv G w st a.tmps)(ts:List Nat){h:Nat}(ho:qz h o st.sl=qB ts st.sl)(hd:jy o a){sz n cap:Nat}{cs:List AV}
 {arr:Array Value} {e:TypeId} (hsz:0<sz) (hcs:cs.length=n*sz) (hw:New w w' (.cells arr e (0,0))) (harr:arr.size=cap*sz) (hn:n<=cap)
 (hrel:∀(k:Nat) (x:AV),cs[k]?=some x->∃u,arr[k]?=some u/\RelR G w x u) (hvl:∀x∈cs,vl x=true):
 jk G w a (after h o st (.av (.us sz cs)) none st.hp) (a.put o.dst (.slice (some ⟨w.heap.size,0,none⟩) n cap)) w':=by
 let d:=o.dst.getD 0
 have hf:=Fr.new hI hw (.sl d 0 0) (n*sz) (mu:=G.mu) (la:=G.la) (fun _ _ _ h=>h)
 have hI1:Inv (G.add w.heap.size (.sl d 0 0) (n*sz) G.mu G.la) w' st a.tmps:=hI.beside hw (.sl d 0 0) (n*sz) (by rintro(⟨_,_,h⟩|⟨_,_,h⟩)<;>cases h)
 refine⟨_,?_,hf,qZ _ _ _,qD _ _ _⟩
 unfold after
 rw[ho]
 refine(hI1.dn ts).put o.dst hd (fun k hk'=>?_) (fun _ _ _ e=>by cases e)
 have hdk:d=k:=by simp[d,hk']
 subst hdk
 refine⟨w.heap.size,by simp[Gh.add],⟨⟨n,cap,arr,e,(0,0),rfl,hsz,hcs,hn,by simp[Gh.add],hw.at,harr,fun k x hx=>?_,.inl rfl⟩,hvl⟩⟩
 obtain⟨u,hu,hr⟩:=hrel k x hx
 exact⟨u,hu,hr.ev hf.ev⟩
theorem kf{b sz n:Nat}(h:js b sz n=true):n*b<=140737488355328*sz/\0<b:=by
 unfold js at h
 simpa using h
theorem qz3{ys:List AV}{vs:List Value}(h:∀(k:Nat) (x:AV) (u:Value),ys[k]?=some x->vs[k]?=some u->RelR G w x u) (hl:vs.length=ys.length):ys.map ro1=ys:=by
 apply zkv
 intro i
 rw[zir]
 cases hx:ys[i]? with
 |none=>rfl
 |some x=>
  obtain⟨u,hu⟩:=qU hl.symm hx
  rw[zkm,KM (h i x u hx hu)]
def zfj(G:Gh)(w:World)(sz:Nat)(v:Value)(ys:List AV):Prop:=
 (v= .slice none 0 0/\ys=[])\/∃(B:Addr) (m c':Nat),v= .slice (some B) m c'/\0<sz/\ys.length=m*sz/\
  (0<m->∃vs:List Value,vs.length=ys.length/\(∀(j:Nat) (u:Value),vs[j]?=some u->w.cell? (B.add j)=some u)/\∀(k:Nat) (x:AV) (u:Value),ys[k]?=some x->vs[k]?=some u->RelR G w x u)
theorem qs6{p:Nat->Ow}{sz:Nat}{x:AV}{v:Value}{ys:List AV}(h:zi G w p x v)(hx:yG sz x=some ys):zfj G w sz v ys/\∀y∈ys,vl y=true:=by
 rcases qdh h hx with⟨e1,rfl⟩|⟨B,m,c',hs,hr⟩
 ·exact⟨.inl ⟨e1,rfl⟩,by intro y hy;cases hy⟩
 ·obtain⟨A',m',cap',e1,hsz,hlen,hcap,hform⟩:=yy hr
  rw[hs]at e1;cases e1
  refine⟨.inr ⟨B,m,c',hs,hsz,hlen,fun hm=>?_⟩,zbw hr⟩
  obtain⟨b2,o2,vs,rfl,_,hvl,hcell,hrel⟩:=hform hm
  exact⟨vs,hvl,fun j u hu=>by rw[qS];exact hcell j u hu,hrel⟩
theorem zc4{t:Array Value}(hI:Inv G w st t){p:Nat->Ow}{sz:Nat}{x:AV}{v:Value}{ys:List AV}(h:zi G w p x v)(hx:xg st.hp sz x=some ys):zfj G w sz v ys:=by
 unfold xg at hx
 split at hx
 ·rename_i q hq
  obtain⟨_,hz,hx⟩:=bsm hx
  obtain⟨cs,hcs,hx⟩:=bsm hx
  obtain⟨l,hl,hx⟩:=bsm hx
  cases hx
  obtain⟨hz,hsz⟩:=qM hz
  have hy:=kK hq
  subst hy
  obtain⟨blk,cap,off',z,m1,m2,m4,m3,m5,m6⟩:=WD h
  obtain⟨hget,hg0⟩:=xa hcs
  obtain⟨blk',b1,b2,b3⟩:=hI.heap q.1 q.2.1 cs hget
  rw[m1]at b1;cases b1
  obtain⟨arr,e,c1,c2,c3⟩:=jU b3 hg0
  obtain⟨hle,rfl⟩:=zM hl
  have hll:(((cs.drop q.2.2.1).take (q.2.2.2.1*sz)).map ro1).length=q.2.2.2.1*sz:=qg
  refine .inr ⟨_,q.2.2.2.1,cap,m3,hsz,hll,fun hpos=>⟨(arr.toList.drop q.2.2.1).take (q.2.2.2.1*sz),by rw[hll];simp;omega,fun j u hu=>?_,fun k y u hy hu=>?_⟩⟩
  ·rw[m4 hpos,qS,qR c1]
   rw[zij]at hu
   split at hu
   ·rw[zi0]at hu;simpa using hu
   ·cases hu
  ·obtain⟨q',hq',rfl⟩:=qr _ _ _ _ hy
   rw[zij]at hq' hu
   split at hq'
   ·rename_i hlt'
    rw[if_pos hlt',zi0]at hu
    rw[zi0]at hq'
    exact(c3 _ q' u hq' (by simpa using hu)).ro
   ·cases hq'
 ·exact(qs6 h hx).1
theorem qd8(hc:Ok c)(hI:Inv G w st a.tmps)(hd:jy o a)(h:Nat){cl:Call}(hop:o.op= .call cl)(hcl:cl.callee= .builtin .append){x y:Operand}(hargs:cl.args=#[x,y]) {t:TypeId} (hts:cl.argTypes=#[t,t])
 {ti ei:TI} {e:TypeId} (hti:c.tn t=some ti) (hk:ti.k= .sl e) (hei:c.tn e=some ei) {d' z:AV} (hx:XF (zt st.sl x)=some d') {ys:List AV} (hsrc:zfj G w ei.size (a.eval y) ys) (hyv0:ys≠[]->∀x∈ys,vl x=true)
 (hz:WS ei.bytes ei.size d' ys=some z):o.wp c.P a w (jk G w a (after h o st (.av z) none st.hp)) Q:=by
 have hdn:qz h o st.sl=qB (zw [x,y]) st.sl:=by simp[qz,qL,hop,hcl,hargs]
 obtain⟨dd,hd1,hd2⟩:=(hc.tt t ti (qp hti).1).und
 rw[hk]at hd2
 have hd2:dd= .slice e:=hd2
 subst hd2
 obtain⟨i,z0,hi1,hi2,hi3⟩:∃i d,c.P.info? e=some i/\i.bytes=ei.bytes/\i.size=ei.size/\∃zv,i.zero=some zv/\zv.cells.toList=ei.zero/\ei.zero.length=ei.size:=by
  obtain⟨_,_,info,d,h1,h2,h3,h4,h5⟩:=hc.tt e ei (qp hei).1
  obtain⟨h6,zv,h7,h8,h9,_⟩:=h5 (qp hei).2
  exact⟨info,d,h1,h4,h6,zv,h7,h8,h9⟩
 obtain⟨hi4,zv,hi5,hi6,hi7⟩:=hi3
 have hdr:=ya (vz hI x) hx
 have hrun:∀(v:Value) (w':World),(Builtin.append_ #[t,t] o.type #[a.eval x,a.eval y]).run c.P w= .ok v w'->(execOp a.eval o).run c.P w= .ok (.value v) w':=by
  intro v w' hr
  rw[jl hcl hop rfl,hargs,hts]
  simp only[Go.builtin,zll,zjc,zkc]
  rw[Sem.run_bind,hr];rfl
 unfold WS at hz
 --the token's block,if the slice is one of ours
 have tok:∀{sz:Nat} {cs:List AV},d'= .us sz cs->∃b,x= .tmp (vG x)/\G.Om b= .sl (vG x) 0 0/\TokR G w sz cs (a.eval x) b:=by
  rintro sz cs rfl
  obtain⟨b,hb,ht⟩:=hdr
  refine⟨b,?_,hb,ht⟩
  cases x with
  |tmp t=>rfl
  |const v=>
   simp only[zt]at hx
   split at hx
   ·split at hx<;>simp[XF]at hx
   ·cases hx
   ·cases hx
  |global g=>cases hx
  |func f=>cases hx
 split at hz
 ·--nothing is put behind
  have hval:∃A n cap,a.eval x= .slice A n cap/\n<=cap/\(execOp a.eval o).run c.P w= .ok (.value (a.eval x)) w:=by
   have hform:∃A n cap,a.eval x= .slice A n cap/\n<=cap:=by
    split at hz
    ·obtain⟨b,_,_,ht⟩:=tok rfl
     obtain⟨n,cap,arr,e',mk,h1,_,_,h4,_⟩:=ht.ex
     exact⟨_,n,cap,h1,h4⟩
    ·split at hz
     ·rename_i v hn
      have:=xq hn
      subst this
      have hdr':RelR G w (.sc (.slice none 0 0)) (a.eval x):=hdr
      generalize a.eval x=v at hdr'
      cases hdr'
      exact⟨none,0,0,rfl,zif _⟩
     ·cases hz
    ·cases hz
   obtain⟨A,n,cap,hA,hn⟩:=hform
   refine⟨A,n,cap,hA,hn,hrun _ _ ?_⟩
   rcases hsrc with⟨hs,_⟩|⟨B,m,c',hs,e2,e3,_⟩
   ·rw[hA,hs];exact Ji t o.type e i hd1 hi1 A n cap hn w
   ·have hm:m=0:=by
     rcases zkr m with h|h
     ·exact h
     ·have:=zly h e2;simp at e3;omega
    subst hm
    rw[hA,hs];exact Jh t o.type e i hd1 hi1 A n cap hn B c' w
  obtain⟨A,n,cap,hA,hn,hr⟩:=hval
  refine qq hr ?_
  split at hz
  ·split at hz
   ·cases hz
    obtain⟨b,hxt,_⟩:=tok rfl
    have hslot:=zcl hx
    cases hdst:o.dst with
    |none=>
     refine⟨G,?_,Fr.refl G w,rfl,rfl⟩
     unfold after
     rw[hdn,hdst]
     exact hI.dn _
    |some d=>
     have hm:=qiw hI (vG x) d .ot (hd d hdst) (zw [x,y]) (by rw[hxt];simp[zw,vG])
     unfold after
     rw[hdn,hdst]
     have h1:qA st.sl (vG x)=zt st.sl x:=by conv=>rhs;rw[hxt]
                                            rfl
     have h2:a.tmps.getD (vG x) undef=a.eval x:=by conv=>rhs;rw[hxt]
                                                   rfl
     rw[h1,hslot,h2]at hm
     exact hm
   ·cases hz
  ·split at hz
   ·rename_i v hn
    cases hz
    have:=xq hn
    subst this
    have hdr':RelR G w (.sc (.slice none 0 0)) (a.eval x):=hdr
    refine qy hI h (by simp[qz,hop]) hd (fun k=>?_) (fun _ _ _ e=>by cases e)
    exact hdr'.s k
   ·cases hz
  ·cases hz
 ·rename_i hne
  --something is put behind
  rcases hsrc with⟨_,rfl⟩|⟨B,m,c',hs,hsz,hlen,hform⟩
  ·exact absurd rfl (hne)
  have hm:0<m:=by
   rcases zkr m with h|h
   ·subst h
    simp at hlen
    exact absurd hlen (by simpa using hne)
   ·exact h
  obtain⟨vs,hvl,hnews,hrel⟩:=hform hm
  have hyv:=hyv0 (by intro e;exact hne e)
  have hmap:ys.map ro1=ys:=qz3 hrel hvl
  rw[hmap]at hz
  have h1:∀u∈vs,u.oneCell'=true:=by
   intro u hu
   obtain⟨k,hk',rfl⟩:=zky hu
   have hk2:k<ys.length:=by rw[<-hvl];exact hk'
   exact(hrel k ys[k] vs[k] (zic hk2) (zic hk')).one
  have hnl:vs.length=m*i.size:=by rw[hvl,hlen,hi4]
  split at hz
  ·rename_i sz cs
   split at hz
   ·rename_i hcond
    cases hz
    simp only[zke,beq_iff_eq,decide_eq_true_eq]at hcond
    obtain⟨hszz,hfit⟩:=hcond
    subst hszz
    obtain⟨hf1,hf2⟩:=kf hfit
    obtain⟨b,hxt,hom,ht⟩:=tok rfl
    obtain⟨n,cap,arr,e',mk,t1,t2,t3,t4,t5,t6,t7,t8,t9⟩:=ht.ex
    have hvall:∀x∈cs++ys,vl x=true:=fun x hx=>(zip.mp hx).elim (ht.vl x) (hyv x)
    have hmem:vG x∈zw [x,y]:=by rw[hxt];simp[zw,vG]
    by_cases hroom:n+m<=cap
    ·have hfit':n*i.size+vs.length<=arr.size:=by rw[hnl,hi4,t7,<-Nat.add_mul];exact ziq _ hroom
     have hrr:=wh (P:=c.P) t o.type e e' i hd1 hi1 b n cap arr t6 (t9.imp id And.right) B m c' vs hnl hnews h1 hroom hfit'
     have hwr:=jG w t6 hfit'
     rw[hi4]at hwr
     refine qq (hrun _ _ (by rw[t1,hs];exact hrr)) ?_
     rw[hi4]
     exact Zm hI (vG x) _ hmem hdn hd hom t2 t3 t5 t6 t9 t7 t8 hroom hlen hvl hrel hvall hwr
    ·have hle:n*ei.size<=arr.toList.length:=by
      rw[zjb,t7];exact ziq _ t4
     have hlo:(arr.toList.take (n*ei.size)).length=n*i.size:=by rw[ziy,hi4];omega
     have holds:∀j u,(arr.toList.take (n*ei.size))[j]?=some u->w.cell? ((⟨b,0,none⟩:Addr).add j)=some u:=by
      intro j u hu
      rw[qS,ziw,qR t6]
      rw[zij]at hu
      split at hu
      ·simpa using hu
      ·cases hu
     have hneed:(n+m)*i.bytes<=140737488355328:=by
      rw[hi2]
      rw[t3,hlen,<-Nat.add_mul,zj1,zi3 ei.size,<-Nat.mul_assoc]at hf1
      exact zln hf1 hsz
     have h63:((n+m:Nat):Int)<=9223372036854775807:=by
      have:n+m<=(n+m)*i.bytes:=zkj _ (by rw[hi2];exact hf2)
      omega
     have hrr:=run_append_grow (P:=c.P) w t o.type e i zv hd1 hi1 hi5 ⟨b,0,none⟩ n cap _ hlo holds B m c' vs hnl hnews qc h63 (growslice_fits qc qc)
     refine qq (hrun _ _ (by rw[t1,hs];exact hrr)) ?_
     have hge:=grownCap_ge w (n+m) cap e
     have hzs:zv.cells.size=ei.size:=by rw[<-hi7,<-hi6];simp
     refine yF hI _ hdn hd t2 (by rw[zh8,t3,hlen,<-Nat.add_mul]) ⟨rfl,rfl,rfl,rfl⟩ ?_ hge (fun k z hk'=>?_) hvall
     ·rw[zjk,zjk,zis,zis,size_zeroCells,hlo,hnl,hi4,hzs,<-Nat.add_mul,<-Nat.add_mul]
      congr 1
      omega
     ·have hl2:(arr.toList.take (n*ei.size)).length=cs.length:=by rw[hlo,hi4,t3]
      by_cases hk1:k<cs.length
      ·rw[zin hk1]at hk'
       obtain⟨u,hu,hr'⟩:=t8 k z hk'
       refine⟨u,?_,hr'⟩
       rw[zjf (by rw[zjk,zis,zis,hl2];omega),zjf (by rw[zis,hl2];omega)]
       rw[zks,zij,if_pos qc]
       simpa using hu
      ·rw[zil qc]at hk'
       obtain⟨u,hu⟩:=qU hvl.symm hk'
       refine⟨u,?_,hrel _ _ _ hk' hu⟩
       have hlt:=(zih.mp hu).1
       rw[zjf (by rw[zjk,zis,zis,hl2];omega),Array.getElem?_append_right (by rw[zis,hl2];omega)]
       rw[zks,zis,hl2]
       exact hu
   ·cases hz
  ·split at hz
   ·rename_i v hcond
    cases hz
    simp only[zke]at hcond
    have:=xq hcond.1
    subst this
    obtain⟨hf1,hf2⟩:=kf hcond.2
    have hdr':RelR G w (.sc (.slice none 0 0)) (a.eval x):=hdr
    have hxe:a.eval x= .slice none 0 0:=by
     generalize a.eval x=v at hdr'
     cases hdr';rfl
    have hneed:m*i.bytes<=140737488355328:=by
     rw[hi2]
     rw[hlen,zj1,zi3 ei.size,<-Nat.mul_assoc]at hf1
     exact zln hf1 hsz
    have h63:(m:Int)<=9223372036854775807:=by
     have:m<=m*i.bytes:=zkj _ (by rw[hi2];exact hf2)
     omega
    have hrr:=run_append_nil (P:=c.P) w t o.type e i zv hd1 hi1 hi5 B m c' vs hnl hnews hm h63 qc
    refine qq (hrun _ _ (by rw[hxe,hs];exact hrr)) ?_
    have hge:=grownCap_ge w m 0 e
    have hzs:zv.cells.size=ei.size:=by rw[<-hi7,<-hi6];simp
    refine yF hI _ hdn hd hsz hlen ⟨rfl,rfl,rfl,rfl⟩ ?_ hge (fun k z hk'=>?_) hyv
    ·rw[zjk,zis,size_zeroCells,hnl,hi4,hzs,<-Nat.add_mul]
     congr 1
     omega
    ·obtain⟨u,hu⟩:=qU hvl.symm hk'
     refine⟨u,?_,hrel _ _ _ hk' hu⟩
     have hlt:=(zih.mp hu).1
     rw[zjf qg,zks]
     exact hu
   ·cases hz
  ·cases hz
theorem qpv(hc:Ok c)(hI:Inv G w st a.tmps)(hd:jy o a)(h:Nat){cl:Call}(hop:o.op= .call cl)(hcl:cl.callee= .builtin .append){x y:Operand}(hargs:cl.args=#[x,y]) {t:TypeId} (hts:cl.argTypes=#[t,t])
 {ti ei:TI} {e:TypeId} (hti:c.tn t=some ti) (hk:ti.k= .sl e) (hei:c.tn e=some ei) {d' s' z:AV} (hx:XF (zt st.sl x)=some d') (hy:XF (zt st.sl y)=some s')
 (hz:zh ei.bytes ei.size d' s'=some z):o.wp c.P a w (jk G w a (after h o st (.av z) none st.hp)) Q:=by
 unfold zh at hz
 obtain⟨ys,hys,hz⟩:=bsm hz
 obtain⟨h1,h2⟩:=qs6 (ya (vz hI y) hy) hys
 exact qd8 hc hI hd h hop hcl hargs hts hti hk hei hx h1 (fun _=>h2) hz
end
section
variable {c:Cx}{G:Gh}{w w':World}{st:St}{a:Act}{o:Oper}{Q:Exit->Act->World->Prop}
def ql2(G:Gh)(w:World)(l:List AV)(vs:List Value):Prop:=
 l.length=vs.length/\∀(i:Nat) (x:AV) (u:Value),l[i]?=some x->vs[i]?=some u->RelR G w (ro1 x) u
theorem qye(vs:List Value):∀(off j:Nat) (cs:Array Value),off+j+vs.length<=cs.size->
 ((vs.zipIdx j).foldl (fun cs (c,j)=>cs.setIfInBounds (off+j) c) cs).toList=cs.toList.take (off+j)++vs++cs.toList.drop (off+j+vs.length):=by
 induction vs with
 |nil=>intro off j cs h;simp
 |cons v vs ih=>
  intro off j cs h
  simp only[List.zipIdx_cons,List.foldl_cons]
  rw[ih off (j+1) _ (by simp at h⊢;omega)]
  have hlt:off+j<cs.toList.length:=by simp at h⊢;omega
  rw[Array.toList_setIfInBounds]
  apply zkv
  intro k
  rw[xc _ _ _ (by simp at h⊢;omega),xc _ _ _ (by simp at h⊢;omega)]
  by_cases h1:k=off+j
  ·subst h1
   rw[if_neg qc,if_pos qe,zlx hlt];simp
  ·rw[zl5 qc]
   by_cases h2:off+(j+1)<=k/\k<off+(j+1)+vs.length
   ·rw[if_pos h2,if_pos qg]
    rw[show k-(off+j)=(k-(off+(j+1)))+1 by omega];simp
   ·rw[if_neg h2,if_neg qg]
theorem JC(hI:Inv G w st a.tmps){vg:Nat->Option (Nat×Nat)}:∀{l:List (Nat×Operand)} {cs cs':List AV} {arr:Array Value},
 yA vg (zt st.sl) some l cs=some cs'->ql2 G w cs arr.toList->∃arr',Instr.fill vg arr (l.map fun p=>(p.1,a.eval p.2))=some arr'/\ql2 G w cs' arr'.toList
 |[],cs,cs',arr,h,hl=>by simp only[yA]at h;cases h;exact⟨arr,rfl,hl⟩
 |(i,x)::r,cs,cs',arr,h,hl=>by
  simp only[yA]at h
  split at h
  ·cases h
  ·rename_i off n hp
   obtain⟨vs,hvs,h⟩:=bsm h
   obtain⟨cs1,hcs1,h⟩:=bsm h
   obtain⟨hn,hrel⟩:=qG.valC (vz hI x) hvs
   obtain⟨hle,rfl⟩:=ka hcs1
   have hsz:(a.eval x).cells.size=n:=by have:=hrel.1;simp at this;omega
   have hlen:arr.size=cs.length:=by have:=hl.1;simpa using this.symm
   have hfold:=qye (a.eval x).cells.toList off 0 arr qg
   simp only[zjo]at hfold
   have hlow:ql2 G w (cs.take off++vs++cs.drop (off+vs.length)) ((((a.eval x).cells.zipIdx).foldl (fun cs (c,j)=>cs.setIfInBounds (off+j) c) arr)).toList:=by
    have e1:((a.eval x).cells.zipIdx).foldl (fun cs (c,j)=>cs.setIfInBounds (off+j) c) arr=((a.eval x).cells.toList.zipIdx).foldl (fun cs (c,j)=>cs.setIfInBounds (off+j) c) arr:=by
     rw[<-Array.foldl_toList];simp
    rw[e1,hfold]
    have hvl:vs.length=(a.eval x).cells.toList.length:=hrel.1
    refine⟨qg,fun k z u hz hu=>?_⟩
    rw[xc _ _ _ hle]at hz
    rw[xc _ _ _ qg]at hu
    rw[<-hvl]at hu
    split at hz
    ·rename_i hin
     rw[if_pos hin]at hu
     exact(hrel.2 _ z u hz hu).ro
    ·rename_i hin
     rw[if_neg hin]at hu
     exact hl.2 k z u hz hu
   obtain⟨arr',ha',hl'⟩:=JC hI h hlow
   refine⟨arr',?_,hl'⟩
   simp only[zjc,Instr.fill,hp]
   rw[if_neg (by simp[hsz];omega)]
   exact ha'
theorem qa3{l:List Value}(h1:∀v∈l,v.oneCell'=true):ql2 G w (zJ l) l:=by
 refine⟨by simp[zJ],fun i x u hx hu=>?_⟩
 obtain⟨y,hy,rfl⟩:=qr _ _ _ _ hx
 rw[hy]at hu;cases hu
 exact .sc _ (h1 _ (zig hy))
theorem qva{cs:List AV}{arr:Array Value}(h:ql2 G w cs arr.toList)(k:Nat):qG G w k (.av (.agg (cs.map ro1))) (.agg arr):=by
 refine⟨arr.toList,qe,by simpa using h.1,fun i x u hx hu=>?_⟩
 obtain⟨y,hy,rfl⟩:=qr _ _ _ _ hx
 exact(h.2 i y u hy hu).c _
theorem qg2(hc:Ok c)(hI:Inv G w st a.tmps)(hd:jy o a)(h:Nat){t:TypeId}{ti:TI}(hti:c.tn t=some ti){ps:Array (Nat×Operand)}(hop:o.op= .build t ps){fs:List (Nat×TypeId)}(hk:ti.k= .st fs)
 {cs:List AV} (hr:yA (KU c fs) (zt st.sl) some ps.toList (zJ ti.zero)=some cs) (hall:∀p∈fs,(c.tn p.2).isSome=true):o.wp c.P a w (jk G w a (after h o st (.av (.agg (cs.map ro1))) none st.hp)) Q:=by
 have ht:=hc.tt t ti (qp hti).1
 obtain⟨z,z1,z2,z3,z4⟩:=ht.zero (qp hti).2
 obtain⟨d,hd1,hd2⟩:=ht.und
 rw[hk]at hd2
 obtain⟨fields,rfl,hfl⟩:=hd2
 have hmapM:∀(l:List Field),(∀f∈l,(c.tn f.type).isSome=true)->∀w,(l.mapM fun f=>do pure (f.offset,<-sizeOf f.type):Sem _).run c.P w= .ok (l.map fun f=>(f.offset,((c.tn f.type).map (·.size)).getD 0)) w:=by
  intro l
  induction l with
  |nil=>intro _ w;rfl
  |cons f l ih=>
   intro hl w
   rw[List.mapM_cons]
   cases hf:c.tn f.type with
   |none=>have:=hl f qe;rw[hf]at this;cases this
   |some fi=>
    have hs:=(hc.tt f.type fi (qp hf).1).sizeOf (qp hf).2 w
    simp only[Sem.run_bind,hs,Result.andThen_ok,Sem.run_pure,ih (fun g hg=>hl g (by simp[hg])) w,zjc,hf,zkm,Option.getD_some]
 have hall':∀f∈fields.toList,(c.tn f.type).isSome=true:=by
  intro f hf
  have:(f.offset,f.type)∈fs:=by rw[<-hfl];exact ziu.mpr ⟨f,hf,rfl⟩
  exact hall _ this
 have hplace:(fun i=>(fields.toList.map fun f=>(f.offset,((c.tn f.type).map (·.size)).getD 0))[i]?)=KU c fs:=by
  funext i
  unfold KU
  rw[<-hfl,zir,zir]
  cases hi:fields.toList[i]? with
  |none=>rfl
  |some f=>
   have:=hall' f (zig hi)
   cases hf:c.tn f.type with
   |none=>rw[hf]at this;cases this
   |some fi=>simp[hf]
 obtain⟨arr,ha,hl⟩:=JC hI (arr:=z.cells) hr (by rw[z1];exact qa3 z3)
 refine qq (v:=.agg arr) (w':=w) ?_ (qy hI h (by simp[qz,hop]) hd (fun k=>qva hl k) (fun _ _ _ e=>by cases e))
 simp only[execOp,hop,Instr.build]
 have hm:=hmapM fields.toList hall' w
 have hm2:(fields.mapM fun f=>do pure (f.offset,<-sizeOf f.type):Sem (Array (Nat×Nat))).run c.P w= .ok (fields.toList.map fun f=>(f.offset,((c.tn f.type).map (·.size)).getD 0)).toArray w:=by
  rw[Array.mapM_eq_mapM_toList,Sem.run_map,hm];rfl
 simp only[Sem.run_bind,z4,Result.andThen_ok,run_underlying hd1,hm2]
 have hfill:Instr.fill (fun x=>((fields.toList.map fun f=>(f.offset,((c.tn f.type).map (·.size)).getD 0)).toArray)[x]?) z.cells (ps.map fun p=>(p.1,a.eval p.2)).toList=some arr:=by
  rw[<-ha]
  congr 1
  ·rw[<-hplace];funext i;simp
  ·simp
 have e1:(Array.map (fun x=>match x with|(i,x)=>(i,a.eval x)) ps)=ps.map fun p=>(p.1,a.eval p.2):=rfl
 rw[e1,hfill]
 rfl
end
section
variable {c:Cx}{G:Gh}{w w':World}{st:St}{a:Act}{o:Oper}{Q:Exit->Act->World->Prop}
theorem qau(a:Act)(ps:Array (Nat×Operand)):(ps.map fun(i,x)=>(i,a.eval x)).toList=ps.toList.map fun p=>(p.1,a.eval p.2):=by
 simp
theorem qg3(hc:Ok c)(hI:Inv G w st a.tmps)(hd:jy o a)(h:Nat){t e:TypeId}{ti ei:TI}(hti:c.tn t=some ti){ps:Array (Nat×Operand)}(hop:o.op= .build t ps){n:Nat}(hk:ti.k= .ar n e)(hei:c.tn e=some ei)
 {cs:List AV} (hr:yA (fun i=>some (i*ei.size,ei.size)) (zt st.sl) some ps.toList (zJ ti.zero)=some cs):o.wp c.P a w (jk G w a (after h o st (.av (.agg (cs.map ro1))) none st.hp)) Q:=by
 have ht:=hc.tt t ti (qp hti).1
 obtain⟨z,z1,z2,z3,z4⟩:=ht.zero (qp hti).2
 obtain⟨d,hd1,hd2⟩:=ht.und
 rw[hk]at hd2
 cases hd2
 have hs:=fun w=>(hc.tt e ei (qp hei).1).sizeOf (qp hei).2 w
 obtain⟨arr,ha,hl⟩:=JC hI (arr:=z.cells) hr (by rw[z1];exact qa3 z3)
 refine qq (v:=.agg arr) (w':=w) ?_ (qy hI h (by simp[qz,hop]) hd (fun k=>qva hl k) (fun _ _ _ e=>by cases e))
 simp only[execOp,hop,Instr.build]
 simp only[Sem.run_bind,z4,Result.andThen_ok,run_underlying hd1,hs,qau,ha]
 rfl
theorem qv9{α:Type}(l:List α)(n:Nat):∀(k:Nat),k<n*l.length->(List.replicate n l).flatten[k]?=l[k%l.length]?:=by
 induction n with
 |zero=>intro k hk;simp at hk
 |succ n ih=>
  intro k hk
  rw[zkz,zlv]
  by_cases h:k<l.length
  ·rw[zin h,zju h]
  ·rw[zil qc]
   have h':k-l.length<n*l.length:=by rw[zk6]at hk;omega
   rw[ih _ h',Nat.mod_eq_sub_mod (by omega:k>=l.length)]
theorem qv8{α:Type}(l:List α)(n:Nat):(List.replicate n l).flatten.length=n*l.length:=by
 induction n with
 |zero=>simp
 |succ n ih=>rw[zkz,zlv,zh8,ih,zk6];omega
theorem qg8{z:Array Value}{zs:List Value}{size:Nat}(h1:z.toList=zs)(h2:zs.length=size)(h3:∀v∈zs,v.oneCell'=true)(n:Nat):
 ((List.replicate n (zJ zs)).flatten).length=n*size/\
 (∀(k:Nat) (x:AV),((List.replicate n (zJ zs)).flatten)[k]?=some x->∃u,(madeCells z (n*size))[k]?=some u/\RelR G w x u):=by
 have hzl:(zJ zs).length=size:=by simp[zJ,h2]
 have hl:((List.replicate n (zJ zs)).flatten).length=n*size:=by rw[qv8,hzl]
 refine⟨hl,fun k x hx=>?_⟩
 have hk:k<n*size:=by rw[<-hl];exact(zih.mp hx).1
 rw[qv9 _ _ _ (by rw[hzl];exact hk),hzl]at hx
 obtain⟨y,hy,rfl⟩:=qr _ _ _ _ hx
 have hzs:z.size=size:=by rw[<-h2,<-h1];simp
 refine⟨y,?_,.sc _ (h3 _ (zig hy))⟩
 have hlt:k%size<z.size:=by rw[hzs];exact zl6 _ (zmg (by rintro rfl;simp at hk))
 have:z[k%size]?=some y:=by rw[<-hy,<-h1];simp
 unfold madeCells
 rw[Array.getElem?_map,Array.getElem?_range,if_pos hk,zkm,hzs]
 congr 1
 rw[getElem!_pos z _ hlt]
 rw[zk5 hlt]at this
 exact zit this
theorem qz4{zs:List Value}{n:Nat}{x:AV}(hx:x∈(List.replicate n (zJ zs)).flatten):vl x=true:=by
 obtain⟨l,hl,hx⟩:=List.mem_flatten.mp hx
 rw[zje hl]at hx
 obtain⟨v,_,rfl⟩:=ziu.mp hx
 rfl
theorem qu9{z:Array Value}{zs:List Value}{size:Nat}(h1:z.toList=zs)(h2:zs.length=size)(h3:∀v∈zs,v.oneCell'=true)(n:Nat):
 ql2 G w ((List.replicate n (zJ zs)).flatten) (madeCells z (n*size)).toList:=by
 obtain⟨a1,a2⟩:=qg8 (G:=G) (w:=w) h1 h2 h3 n
 refine⟨by rw[a1];simp[madeCells],fun i x u hx hu=>?_⟩
 obtain⟨u',hu',hr⟩:=a2 i x hx
 have:u'=u:=by
  have hu2:(madeCells z (n*size))[i]?=some u:=by simpa using hu
  rw[hu']at hu2;exact zit hu2
 subst this
 rw[KM hr];exact hr
theorem qz5{cs:List AV}{arr:Array Value}(h:ql2 G w cs arr.toList):∀(k:Nat) (x:AV),(cs.map ro1)[k]?=some x->∃u,arr[k]?=some u/\RelR G w x u:=by
 intro k x hx
 obtain⟨y,hy,rfl⟩:=qr _ _ _ _ hx
 obtain⟨u,hu⟩:=qU h.1 hy
 exact⟨u,by simpa using hu,h.2 k y u hy hu⟩
theorem TOk.info{P:Program}{t:TypeId}{ti:TI}(h:TOk P t ti)(hk:Zb ti.k=false):∃i z,P.info? t=some i/\i.size=ti.size/\i.bytes=ti.bytes/\i.zero=some z/\z.cells.toList=ti.zero/\ti.zero.length=ti.size/\∀v∈ti.zero,v.oneCell'=true:=by
 obtain⟨_,_,info,d,h1,h2,h3,h4,h5⟩:=h
 obtain⟨h6,z,h7,h8,h9,h10⟩:=h5 hk
 exact⟨info,z,h1,h6,h4,h7,h8,h9,h10⟩
theorem qjm(x:AV):vl (ro1 x)=vl x:=by cases x<;>rfl
theorem WG(hc:Ok c)(hI:Inv G w st a.tmps)(hd:jy o a)(h:Nat){t e:TypeId}{ti ei:TI}(hti:c.tn t=some ti){n:Nat}{ps:Array (Nat×Operand)}(hop:o.op= .buildSlice t n ps)(hk:ti.k= .sl e)(hei:c.tn e=some ei)
 (hn:n*ei.size<=4096) (hpos:0<ei.size) {cs:List AV} (hvl:cs.all vl=true) (hr:yA (fun i=>some (i*ei.size,ei.size)) (zt st.sl) some ps.toList (List.replicate n (zJ ei.zero)).flatten=some cs):
 o.wp c.P a w (jk G w a (after h o st (.av (.us ei.size (cs.map ro1))) none st.hp)) Q:=by
 obtain⟨d,hd1,hd2⟩:=(hc.tt t ti (qp hti).1).und
 rw[hk]at hd2
 cases hd2
 obtain⟨i,z,i1,i2,i3,i4,i5,i6,i7⟩:=(hc.tt e ei (qp hei).1).info (qp hei).2
 obtain⟨arr,ha,hl⟩:=JC hI (arr:=madeCells z.cells (n*ei.size)) hr (qu9 i5 i6 i7 n)
 have hsz:arr.size=n*ei.size/\cs.length=n*ei.size:=by
  have hfl:∀{l:List (Nat×Value)} {A B:Array Value} {pl:Nat->Option (Nat×Nat)},Instr.fill pl A l=some B->B.size=A.size:=by
   intro l
   induction l with
   |nil=>intro A B pl h;simp only[Instr.fill]at h;cases h;rfl
   |cons p l ih=>
    intro A B pl h
    simp only[Instr.fill]at h
    split at h
    ·cases h
    ·split at h
     ·cases h
     ·rw[ih h]
      have hf:∀(q:List (Value×Nat)) (off:Nat) (A:Array Value),(q.foldl (fun cs x=>cs.setIfInBounds (off+x.2) x.1) A).size=A.size:=by
       intro q
       induction q with
       |nil=>intro off A;rfl
       |cons x q ihq=>intro off A;simp only[List.foldl_cons];rw[ihq];simp
      rw[<-Array.foldl_toList]
      exact hf _ _ _
  have h1:=hfl ha
  rw[size_madeCells]at h1
  have h2:=hl.1
  simp at h2
  exact⟨h1,qc⟩
 have hrun:(execOp a.eval o).run c.P w= .ok (.value (.slice (some ⟨w.heap.size,0,none⟩) n n)) (w.alloc (.cells arr e)):=by
  simp only[execOp,hop]
  by_cases hz:n*i.size=0
  ·have hn0:n=0:=by
    rw[i2]at hz
    rcases Nat.mul_eq_zero.mp hz with h|h
    ·exact h
    ·omega
   subst hn0
   have ha':Instr.fill (fun i=>some (i*ei.size,ei.size)) #[] (ps.toList.map fun p=>(p.1,a.eval p.2))=some arr:=by
    rw[<-ha];simp[madeCells,Array.range_zero']
   simp[Instr.buildSlice,run_underlying hd1,sizeOf,typeInfo,i1,i2,ha',newRow,Array.range_zero']
  ·have hh:=run_buildSlice (P:=c.P) w t e n (ps.map fun(i,x)=>(i,a.eval x)) arr i z hd1 i1 i4 (by rw[i2];omega) hz (by rw[i2,qau];exact ha)
   rw[Sem.run_bind,hh]
   rfl
 refine qq hrun ?_
 refine yF hI [] (by simp[qz,qL,hop]) hd hpos (by simp[hsz.2]) (yo w (.cells arr e (0,0))) hsz.1 (zif n) (qz5 hl) (fun x hx=>?_)
 obtain⟨y,hy,rfl⟩:=ziu.mp hx
 rw[qjm]
 exact zja.mp hvl y hy
theorem qd2(hc:Ok c)(hI:Inv G w st a.tmps)(hd:jy o a)(h:Nat){t e:TypeId}{ti ei:TI}(hti:c.tn t=some ti){l m:Operand}(hop:o.op= .makeSlice t l m)(hk:ti.k= .sl e)(hei:c.tn e=some ei)
 {lv mv:Value} (hl:zt st.sl l= .sv lv) (hm:zt st.sl m= .sv mv) {n:Int} (hln:ZK lv=some n) (hmn:ZK mv=some n) (h0:0<=n) (hf:js ei.bytes 1 n.toNat=true) (hpos:0<ei.size) {r:SV×BE×Hp}
 (hr:(if h=2 then k3 (.av (.ms st.hp.next 0 0 n.toNat ei.size)) none (st.hp.new ((List.replicate n.toNat (zJ ei.zero)).flatten))
  else k3 (.av (.us ei.size ((List.replicate n.toNat (zJ ei.zero)).flatten))) none st.hp)=some r):o.wp c.P a w (jk G w a (after h o st r.1 r.2.1 r.2.2)) Q:=by
 obtain⟨d,hd1,hd2⟩:=(hc.tt t ti (qp hti).1).und
 rw[hk]at hd2
 cases hd2
 obtain⟨i,z,i1,i2,i3,i4,i5,i6,i7⟩:=(hc.tt e ei (qp hei).1).info (qp hei).2
 obtain⟨kl,rfl⟩:=JK hln
 obtain⟨km,rfl⟩:=JK hmn
 obtain⟨f1,f2⟩:=kf hf
 have h63:n.toNat<=n.toNat*ei.bytes:=zkj _ f2
 obtain⟨N,rfl⟩:=zkw h0
 simp only[zik]at*
 have hrun:(execOp a.eval o).run c.P w= .ok (.value (.slice (some ⟨w.heap.size,0,none⟩) N N)) (w.alloc (.cells (madeCells z.cells (N*ei.size)) e)):=by
  have hh:=run_make (P:=c.P) w t e i z hd1 i1 i4 kl km (N:Int) (N:Int) qc (Int.le_refl _) (by
   rw[i3,Int.mul_comm,<-Int.natCast_mul];omega) qc
  simp only[zik,i2]at hh
  simp only[execOp,hop,(yq hI hl).1,(yq hI hm).1]
  rw[Sem.run_bind,hh];rfl
 obtain⟨a1,a2⟩:=qg8 (G:=G) (w:=w) i5 i6 i7 N
 refine qq hrun ?_
 split at hr
 ·cases hr
  refine qe4 hI h (by simp[qz,qL,hop,qB]) hd (yo w (.cells (madeCells z.cells (N*ei.size)) e (0,0))) (by rw[a1,size_madeCells];exact zif _) (fun i x u hx hu=>?_) (fun G' hG k=>?_) (fun _ _ _ e=>by cases e)
  ·obtain⟨u',hu',hr⟩:=a2 i x hx
   rw[hu']at hu;cases hu;exact hr
  ·refine RelR.ms _ _ _ _ _ _ _ _ _ hG (zif _) (fun _=>rfl) (zV (yo w (.cells (madeCells z.cells (N*ei.size)) e (0,0))).at) ?_
   rw[size_madeCells];omega
 ·cases hr
  exact yF hI [] (by simp[qz,qL,hop]) hd hpos a1 (yo w (.cells (madeCells z.cells (N*ei.size)) e (0,0))) (size_madeCells _ _) (zif N) a2 (fun x hx=>qz4 hx)
end
section
variable {c:Cx}{G:Gh}{w w':World}{st:St}{a:Act}{o:Oper}{Q:Exit->Act->World->Prop}
theorem XE{s d:TypeId}{x:Operand}{v:Value}(hop:o.op= .convert s d x)(hr:(convert s d (a.eval x)).run c.P w= .ok v w'):
 (execOp a.eval o).run c.P w= .ok (.value v) w':=by
 simp only[execOp,hop];rw[Sem.run_bind,hr];rfl
theorem qpz(w:World)(e:TypeId)(s:ByteArray):New w (Lib.bytesWorld w e s) (.cells (Lib.bytesCells w e s) e ((Lib.bytesCells w e s).size,(Lib.bytesCells w e s).size+1)):=by
 refine⟨?_,?_⟩
 case refine_2=>
  unfold Lib.bytesWorld World.freeze
  split<;>exact⟨rfl,rfl,rfl⟩
 apply Array.ext_getElem?
 intro i
 rw[zmb]
 by_cases h:i<w.heap.size
 ·rw[Lib.bytesWorld_at_old w e s i h,if_neg qc]
 ·by_cases h':i=w.heap.size
  ·subst h';rw[Lib.bytesWorld_at_new,if_pos rfl]
  ·rw[if_neg h',zlz (by rw[Lib.bytesWorld_size];omega),zlz qc]
theorem qlz(hI:Inv G w st a.tmps){h:Nat}(ho:qz h o st.sl=qB [] st.sl)(hd:jy o a){ob:Obj}(hw:New w w' ob)(n:Nat){s:SV}{v:Value}
 (hs:∀G',G'.I w.heap.size=n->∀k,qG G' w' k s v) (hsl:∀k g off,s≠ .lp k g off):jk G w a (after h o st s none st.hp) (a.put o.dst v) w':=by
 have hf:=Fr.new hI hw .oth n (mu:=G.mu) (la:=G.la) (fun _ _ _ h=>h)
 have hI1:=hI.beside hw .oth n (by rintro(⟨_,_,h⟩|⟨_,_,h⟩)<;>cases h)
 refine⟨_,?_,hf,qZ _ _ _,qD _ _ _⟩
 unfold after
 rw[ho]
 exact(hI1.dn []).put o.dst hd (fun k _=>hs _ (by simp[Gh.add]) k) (fun k g off e=>absurd e (hsl k g off))
theorem WF(hc:Ok c)(hI:Inv G w st a.tmps)(hd:jy o a)(h:Nat){s d e:TypeId}{si di ei:TI}(hsi:c.tn s=some si)(hdi:c.tn d=some di){x:Operand}(hop:o.op= .convert s d x)
 (hne:s≠d) (hk:di.k= .sl e) (hei:c.tn e=some ei) (hu:qhh ei=true) {b:ByteArray} (hx:zt st.sl x= .sv (.string b)):
 o.wp c.P a w (jk G w a (after h o st (.av (.sl 1 (b.data.toList.map fun x=>.sc (.int .u8 x.toNat)))) none st.hp)) Q:=by
 obtain⟨ud,hd1,hd2⟩:=(hc.tt d di (qp hdi).1).und
 rw[hk]at hd2
 cases hd2
 obtain⟨us,hs1,_⟩:=(hc.tt s si (qp hsi).1).und
 have he:=(hc.tt e ei (qp hei).1).1 hu
 have hrun:=XE (a:=a) (o:=o) hop (by rw[(yq hI hx).1];exact Lib.run_convert_string_bytes (P:=c.P) w s d e b hs1 hd1 he)
 refine qq hrun (qlz hI (by simp[qz,qL,hop,hne]) hd (qpz w e b) b.size (fun G' hG k=>?_) (fun _ _ _ e=>by cases e))
 have hge:=grownCap_ge w b.size 0 e
 by_cases hz:b.size=0
 ·have hnil:b.data.toList=[]:=by
   apply zi9.mp
   simpa using hz
  rw[hnil,hz]
  exact(RelR.sl0 1 _ _ qc).s k
 ·refine(RelR.sl 1 _ b.size _ _ 0 (b.data.toList.map fun x=>.int .u8 x.toNat) qc qc (by rw[zjg,zjb];exact(zi7 _).symm) hge qc qe (fun k u hk=>?_) (fun y hy=>?_) (fun k y u hy hu=>?_)).s k
  ·rw[ziw]
   obtain⟨z,hz,rfl⟩:=qr _ _ _ _ hk
   have hlt:k<b.size:=by have:=(zih.mp hz).1;rw[zjb]at this;exact this
   rw[Lib.bytesWorld_cell w e b k hlt]
   simp[List.getD,hz]
  ·obtain⟨z,_,rfl⟩:=ziu.mp hy;rfl
  ·obtain⟨z,hz,rfl⟩:=qr _ _ _ _ hy
   obtain⟨z',hz',rfl⟩:=qr _ _ _ _ hu
   rw[hz]at hz';cases hz'
   exact .sc _ rfl
theorem Zl:∀{cs:List AV} {l:List UInt8},zp cs=some l->∃ns:List Int,cs=ns.map (fun n=>.sc (.int .u8 n))/\l=ns.map fun n=>UInt8.ofNat n.toNat
 |[],l,h=>by simp only[zp]at h;cases h;exact⟨[],rfl,rfl⟩
 |x::r,l,h=>by
  unfold zp at h
  split at h
  ·rename_i he;cases he
  ·rename_i n r' he
   cases he
   cases hr:zp r with
   |none=>rw[hr]at h;cases h
   |some l'=>
    rw[hr]at h;cases h
    obtain⟨ns,rfl,rfl⟩:=Zl hr
    exact⟨n::ns,rfl,rfl⟩
  ·cases h
theorem wV:∀(l:List Int) (r:ByteArray),l.foldl (fun r n=>r.push (UInt8.ofNat n.toNat)) r=⟨r.data++(l.map fun n=>UInt8.ofNat n.toNat).toArray⟩
 |[],r=>by simp
 |b::l,r=>by
  simp only[List.foldl_cons]
  rw[wV l]
  simp[ByteArray.push]
theorem qgz(hc:Ok c)(hI:Inv G w st a.tmps)(hd:jy o a)(h:Nat){s d e:TypeId}{si di ei:TI}(hsi:c.tn s=some si)(hdi:c.tn d=some di){x:Operand}(hop:o.op= .convert s d x)
 (hk:si.k= .sl e) (hei:c.tn e=some ei) (hu:qhh ei=true) (hu':qa8 di=true) {y:AV} (hx:XF (zt st.sl x)=some y) {cs:List AV} (hcs:yG 1 y=some cs) {l:List UInt8} (hl:zp cs=some l):
 o.wp c.P a w (jk G w a (after h o st (.sv (.string ⟨l.toArray⟩)) none st.hp)) Q:=by
 obtain⟨us,hs1,hs2⟩:=(hc.tt s si (qp hsi).1).und
 rw[hk]at hs2
 cases hs2
 have he:=(hc.tt e ei (qp hei).1).1 hu
 have hds:=(hc.tt d di (qp hdi).1).2.1 hu'
 have hrel:=ya (vz hI x) hx
 refine vc hI h (by simp[qz,hop]) hd rfl (XE hop ?_)
 obtain⟨ns,rfl,rfl⟩:=Zl hl
 rcases qdh hrel hcs with⟨h1,h2⟩|⟨A,n,cap,h1,h2⟩
 ·have:ns=[]:=by simpa using h2
  subst this
  rw[h1,run_convert_bytes_string w s d e none 0 0 hs1 he hds]
  rfl
 ·obtain⟨A',n',cap',e1,_,hlen,_,hform⟩:=yy h2
  rw[h1]at e1;cases e1
  have hn:n=ns.length:=by simpa using hlen.symm
  subst hn
  rw[h1,run_convert_bytes_string w s d e (some A) _ cap hs1 he hds]
  have hload:=run_loadCells_list (P:=c.P) w A (ns.map (Value.int .u8)) (fun j v hj=>by
   have hpos:0<ns.length:=by
    have:=(zih.mp hj).1
    simp at this;omega
   obtain⟨b,o',vs,rfl,_,hvl,hcell,hr⟩:=hform hpos
   rw[qS]
   obtain⟨z,hz,rfl⟩:=qr _ _ _ _ hj
   have hc1:(ns.map (fun n=>AV.sc (.int .u8 n)))[j]?=some (.sc (.int .u8 z)):=by simp[hz]
   obtain⟨u,hu⟩:=qU hvl.symm hc1
   have:=hr j _ u hc1 hu
   cases this
   exact hcell j _ hu)
  simp only[zjg]at hload
  rw[run_bytesToString w A ns.length cap _ hload,wV]
  have he0:ByteArray.empty.data=#[]:=rfl
  rw[he0]
  simp
theorem qko(hI:Inv G w st a.tmps)(hd:jy o a)(h:Nat){s d:TypeId}{x:Operand}(hop:o.op= .convert s d x){v z:Value}(hx:xy (zt st.sl x)=some v)(hz:Zc c.P s d v=some z):
 o.wp c.P a w (jk G w a (after h o st (.sv z) none st.hp)) Q:=by
 obtain⟨h1,h2⟩:=qer hz w
 refine vc hI h (by simp[qz,hop]) hd h2 (XE hop ?_)
 rw[(yq hI (ju hx)).1];exact h1
theorem zd0(hI:Inv G w st a.tmps){t b:Nat}{arr:Array Value}{e:TypeId}{m mk:Nat×Nat}(hb:w.heap[b]?=some (.cells arr e mk)) (hOm:G.Om b= .sl t 0 0)
 (hs:w'.heap.size=w.heap.size) (hb':w'.heap[b]?=some (.cells arr e m)) (ho:∀x,x≠b->w'.heap[x]?=w.heap[x]?) (hr:ZP w w'):Inv G w' ⟨qB [t] st.sl,st.bx,st.hp⟩ a.tmps/\Fr G w G w'/\(qG G w' t (qA st.sl t) (a.tmps.getD t undef)->Inv G w' ⟨st.sl,st.bx,st.hp⟩ a.tmps):=by
 have hce:∀x i,w'.cell? ⟨x,i,none⟩=w.cell? ⟨x,i,none⟩:=fun x i=>by
  by_cases h:x=b
  ·subst h;rw[qR hb,qR hb']
  ·exact yC (ho x h) i
 have hbs:∀x,VK w' x=VK w x:=fun x=>by
  by_cases h:x=b
  ·subst h;rw[zV hb,zV hb']
  ·exact ZI (ho x h)
 have hF:Fr G w G w':=⟨Nat.le_of_eq hs.symm,fun x i _=>hce x i,fun _=>zif _,fun _ _ _ h=>h,fun x _ hx=>⟨ho x (fun e=>by subst e;rw[hOm]at hx;rcases hx with h|h<;>cases h),rfl,rfl⟩,hr,fun x z hz=>(hbs x).trans hz⟩
 have he:=hF.ev
 have kp:∀p,p≠ .sl t 0 0->zA G w G w' p p:=fun p hp x hx=>⟨ho x (fun e=>by subst e;exact hp (hx.symm.trans hOm)),rfl,hx⟩
 have rest:∀sl:Slots,(∀j,qG G w' j (qA sl j) (a.tmps.getD j undef))->(∀i j g off,qA sl i= .lp j g off->qA st.sl i= .lp j g off)->Inv G w' ⟨sl,st.bx,st.hp⟩ a.tmps:=fun sl h1 h2=>{
  slots:=h1
  boxes:=fun j g cs h=>by
   obtain⟨blk,h1,h2,h3⟩:=hI.boxes j g cs h
   have hn:blk≠b:=fun e=>by subst e;rw[hOm]at h2;cases h2
   exact⟨blk,h1,h2,h3.ev he (ho blk hn) fun i=>kp _ (fun e=>by cases e)⟩
  heap:=fun j g cs h=>by
   obtain⟨blk,h1,h2,h3⟩:=hI.heap j g cs h
   have hn:blk≠b:=fun e=>by subst e;rw[hOm]at h2;cases h2
   exact⟨blk,h1,h2,h3.ev he (ho blk hn) fun i=>kp _ (fun e=>by cases e)⟩
  next:=hI.next
  hlt:=hI.hlt
  new:=fun x hx=>hI.new x qc
  vars:=hI.vars
  lps:=fun i j g off h=>hI.lps i j g off (h2 i j g off h)}
 have other:∀j,j≠t->qG G w' j (qA st.sl j) (a.tmps.getD j undef):=fun j hne=>by
  refine qG.ev he (k:=j) (k':=j) (fun j' i=>kp _ ?_) (fun _ _ _ _ _ h=>h) (hI.slots j)
  intro e
  injection e with e1 _ _
  exact hne e1
 refine⟨rest _ (fun j=>?_) (fun i j g off h'=>?_),hF,fun ht=>rest _ (fun j=>?_) (fun _ _ _ _ h=>h)⟩
 ·rw[zy]
  split
  ·exact qG.ro he (k:=j) j (fun _ _ _ _ _ h=>h) (hI.slots j)
  ·rename_i hne
   exact other j (by simpa using hne)
 ·rw[zy]at h'
  split at h'
  ·exact Jj.mp h'
  ·exact h'
 ·by_cases q:j=t
  ·subst q;exact ht
  ·exact other j q
theorem qss{s:SV}{cs:List AV}(h:usA s=some cs):s= .av (.us 1 cs):=by
 unfold usA at h
 split at h
 ·split at h
  ·rename_i z;subst z;injection h with h;rw[h]
  ·cases h
 ·cases h
theorem Wx{P:Program}(w:World)(t e e':TypeId)(C:Array Value)(b n cap:Nat){mk:Nat×Nat}(ht:P.underlying t=some (.slice e))(he:P.underlying e=some (.int .u8))(hb:w.heap[b]?=some (.cells C e' mk)):
 (convert t t (.slice (some ⟨b,0,none⟩) n cap)).run P w= .ok (.slice (some ⟨b,0,none⟩) n cap) (w.freeze ⟨b,C.size,none⟩ 1):=by
 have hsh:w.shape? b=some (e',C.size):=by
  unfold World.shape?
  rw[hb]
 simp[convert,run_underlying ht,run_underlying he,markStringish,hsh]
theorem qd7(hc:Ok c)(hI:Inv G w st a.tmps)(hd:jy o a)(h:Nat){s e:TypeId}{si ei:TI}(hsi:c.tn s=some si){x:Operand}(hop:o.op= .convert s s x)
 (hk:si.k= .sl e) (hei:c.tn e=some ei) (hu:qhh ei=true) {cs:List AV} (hx:zt st.sl x= .av (.us 1 cs)):o.wp c.P a w (jk G w a (after h o st (.av (qoh h cs)) none st.hp)) Q:=by
 obtain⟨ud,hd1,hd2⟩:=(hc.tt s si (qp hsi).1).und
 rw[hk]at hd2
 cases hd2
 have he:=(hc.tt e ei (qp hei).1).1 hu
 obtain⟨t,rfl⟩:∃t,x= .tmp t:=by
  cases x with
  |tmp t=>exact⟨t,rfl⟩
  |const v=>
   exfalso
   simp only[zt]at hx
   split at hx
   ·split at hx<;>cases hx
   ·cases hx
   ·cases hx
  |global g=>cases hx
  |func f=>cases hx
 have hr:=vz hI (.tmp t)
 rw[hx]at hr
 obtain⟨b,hOm,ht⟩:=hr
 have hro:=ht.ro
 obtain⟨n,cap,arr,e',mk,h1,h2,h3,h4,h5,h6,h7,h8,h9⟩:=ht.ex
 have hrun:=Wx (P:=c.P) w s e e' arr b n cap hd1 he h6
 have hlt:b<w.heap.size:=(zj7.mp h6).1
 have z1:(w.freeze ⟨b,arr.size,none⟩ 1).heap.size=w.heap.size:=by
  unfold World.freeze
  rw[if_neg qf]
  simp
 obtain⟨m',z2,z5⟩:∃m':Nat×Nat,(w.freeze ⟨b,arr.size,none⟩ 1).heap[b]?=some (.cells arr e' m')/\arr.size<=m'.1:=by
  unfold World.freeze
  rw[if_neg qf]
  obtain⟨lo,hi⟩:=mk
  refine⟨if lo==hi then(arr.size,arr.size+1)else(min lo arr.size,max hi (arr.size+1)),by simp[zl4,h6],?_⟩
  split
  ·exact zif _
  ·rename_i q
   rcases h9 with h9|h9
   ·injection h9 with a b;subst a;subst b;exact absurd rfl q
   ·exact Nat.le_min.mpr ⟨h9.2,zif _⟩
 have z3:∀x,x≠b->(w.freeze ⟨b,arr.size,none⟩ 1).heap[x]?=w.heap[x]?:=fun x hx=>by
  unfold World.freeze
  rw[if_neg qf]
  have:¬(b=x):=fun e=>hx e.symm
  simp[zl4,this]
 have z4:ZP w (w.freeze ⟨b,arr.size,none⟩ 1):=by
  unfold World.freeze
  rw[if_neg qf]
  exact⟨rfl,rfl,rfl⟩
 obtain⟨m1,m2,m3⟩:=zd0 (w':=w.freeze ⟨b,arr.size,none⟩ 1) (m:=m') hI h6 hOm z1 z2 z3 z4
 have hdn:qz h o st.sl=qB [t] st.sl:=by simp[qz,qL,hop,zw]
 refine qq (v:=a.eval (.tmp t)) (w':=w.freeze ⟨b,arr.size,none⟩ 1) (XE hop (by rw[h1];exact hrun)) ?_
 have keep:∀s',qoh h cs=s'->s'= .sl 1 cs->jk G w a (after h o st (.av (qoh h cs)) none st.hp) (a.put o.dst (a.eval (.tmp t))) (w.freeze ⟨b,arr.size,none⟩ 1):=by
  rintro s' e1 rfl
  refine⟨G,?_,m2,qZ _ _ _,qD _ _ _⟩
  rw[e1]
  unfold after
  rw[hdn]
  exact m1.put o.dst hd (fun k _=>(hro.ev m2.ev).s k) (fun _ _ _ e=>by cases e)
 cases cs with
 |nil=>exact keep _ rfl rfl
 |cons y cs=>
  by_cases h1':h=1
  ·have es:qoh h (y::cs)= .us 1 (y::cs):=if_pos h1'
   have tk:TokR G (w.freeze ⟨b,arr.size,none⟩ 1) 1 (y::cs) (a.eval (.tmp t)) b:=
    ⟨⟨n,cap,arr,e',m',h1,h2,h3,h4,h5,z2,h7,fun k x hx=>(h8 k x hx).imp fun u q=>⟨q.1,q.2.ev m2.ev⟩,.inr ⟨List.cons_ne_nil _ _,z5⟩⟩,ht.vl⟩
   have hst:qA st.sl t= .av (.us 1 (y::cs)):=hx
   have I2:=m3 (by show qG G _ t (qA st.sl t) _;rw[hst];exact⟨b,hOm,tk⟩)
   obtain⟨G',i1,i2,i3,i4⟩:=VZ (o:=o) I2 (.tmp t) (.sl e) h (by rw[hdn];rfl) hd
   have en:Wp (.sl e) (zt st.sl (.tmp t))= .av (qoh h (y::cs)):=by rw[hx,es];rfl
   rw[en]at i1
   exact⟨G',i1,m2.trans i2,i3,i4⟩
  ·exact keep _ rfl (if_neg h1')
theorem qkn(hc:Ok c)(hI:Inv G w st a.tmps)(hd:jy o a)(h:Nat){s d:TypeId}{si di:TI}(hsi:c.tn s=some si)(hdi:c.tn d=some di){x:Operand}(hop:o.op= .convert s d x){r:SV×BE×Hp}
 (hr:(Vy c h s d si di (zt st.sl x) fun s=>some (s,(none:BE),st.hp))=some r):o.wp c.P a w (jk G w a (after h o st r.1 r.2.1 r.2.2)) Q:=by
 unfold Vy at hr
 split at hr
 ·rename_i e hk
  split at hr
  ·rename_i ei hei
   split at hr
   ·rename_i hu
    split at hr
    ·rename_i hsd
     subst hsd
     obtain⟨cs,hcs,hr⟩:=bsm hr
     cases hr
     exact qd7 hc hI hd h hdi hop hk hei hu (qss hcs)
    ·rename_i hne
     obtain⟨v,hv,hr⟩:=bsm hr
     obtain⟨b,hb,hr⟩:=bsm hr
     cases hr
     rw[qlw hb]at hv
     exact WF hc hI hd h hsi hdi hop hne hk hei hu (ju hv)
   ·cases hr
  ·cases hr
 ·split at hr
  ·rename_i e hk
   split at hr
   ·rename_i ei hei
    split at hr
    ·rename_i hu
     obtain⟨y,hy,hr⟩:=bsm hr
     obtain⟨cs,hcs,hr⟩:=bsm hr
     obtain⟨l,hl,hr⟩:=bsm hr
     cases hr
     simp only[zke]at hu
     exact qgz hc hI hd h hsi hdi hop hk hei hu.1 hu.2 hy hcs hl
    ·cases hr
   ·cases hr
  ·obtain⟨v,hv,hr⟩:=bsm hr
   obtain⟨z,hz,hr⟩:=bsm hr
   cases hr
   exact qko hI hd h hop hv hz
theorem qhy{x:AV}(h:qhz x=true):(∀cs,x≠ .agg cs)/\ro x=ro1 x:=by
 cases x<;>first|exact⟨qe,rfl⟩|simp[qhz]at h
theorem qgx(hI:Inv G w st a.tmps)(hd:jy o a)(h:Nat){f:FuncId}{fs cs:Array Operand}(hop:o.op= .makeFunc (.func f) fs cs)(hfs:fs.toList.isEmpty=true){xs:List AV}(hxs:JY (cs.toList.map (zt st.sl))=some xs)
 (hall:xs.all qhz=true) (hK:Nat.blt f 4294967296=true):o.wp c.P a w (jk G w a (after h o st (.av (.fn f (xs.map ro1))) none st.hp)) Q:=by
 obtain⟨h1,h2⟩:=vA hI hxs
 have hfs':fs=#[]:=by
  apply zl7
  have:=List.isEmpty_iff.mp hfs
  simpa using this
 subst hfs'
 refine qq (v:=.func (.func f) #[] (cs.toList.map a.eval).toArray) (w':=w) ?_ (qy hI h (by simp[qz,hop]) hd (fun k=>(RelR.fn f _ _ (.inl hK) (by simp[h1]) (fun i x u hx hu=>?_)).s k) (fun _ _ _ e=>by cases e))
 ·simp only[execOp,hop,Instr.makeFunc]
  have:cs.map a.eval=(cs.toList.map a.eval).toArray:=by apply zl8;simp
  rw[this,show(#[]:Array Operand).map a.eval=#[] by simp];rfl
 ·obtain⟨y,hy,rfl⟩:=qr _ _ _ _ hx
  obtain⟨z,hz,hr⟩:=h2 i y hy
  have hu':a.eval z=u:=by
   rw[zir,hz]at hu
   exact zit hu
  rw[<-hu']
  have hne:=qhy (zja.mp hall y (zig hy))
  rw[kr hne.1]at hr
  exact hr.ro
theorem qd4(hI:Inv G w st a.tmps)(hd:jy o a)(h:Nat){f:FuncId}{fs cs:Array Operand}(hop:o.op= .makeFunc (.func f) fs cs)(hne:¬fs.toList.isEmpty=true)(hfs:cs.toList.isEmpty=true){xs:List AV}(hxs:JY (fs.toList.map (zt st.sl))=some xs)
 (hall:xs.all qhz=true):o.wp c.P a w (jk G w a (after h o st (.av (.fn (4294967296+f) (xs.map ro1))) none st.hp)) Q:=by
 obtain⟨h1,h2⟩:=vA hI hxs
 have hfs':cs=#[]:=by
  apply zl7
  have:=List.isEmpty_iff.mp hfs
  simpa using this
 subst hfs'
 refine qq (v:=.func (.func f) (fs.toList.map a.eval).toArray #[]) (w':=w) ?_ (qy hI h (by simp[qz,hop]) hd (fun k=>(RelR.fnb f _ _ (fun e=>hne (by have h3:=List.map_eq_nil_iff.mp e;subst h3;exact List.isEmpty_iff.mpr (zi9.mp h1.symm))) (by simp[h1]) (fun i x u hx hu=>?_)).s k) (fun _ _ _ e=>by cases e))
 ·simp only[execOp,hop,Instr.makeFunc]
  have:fs.map a.eval=(fs.toList.map a.eval).toArray:=by apply zl8;simp
  rw[this,show(#[]:Array Operand).map a.eval=#[] by simp];rfl
 ·obtain⟨y,hy,rfl⟩:=qr _ _ _ _ hx
  obtain⟨z,hz,hr⟩:=h2 i y hy
  have hu':a.eval z=u:=by
   rw[zir,hz]at hu
   exact zit hu
  rw[<-hu']
  have hne:=qhy (zja.mp hall y (zig hy))
  rw[kr hne.1]at hr
  exact hr.ro
theorem qby{s:SV}{cs:List AV}(h:VW s=some cs):s= .av (.agg cs):=by
 unfold VW at h
 split at h
 ·unfold zbi at h
  split at h
  ·cases h;rfl
  ·cases h
 ·cases h
theorem quq(hc:Ok c)(hI:Inv G w st a.tmps)(hd:jy o a)(h:Nat){t:TypeId}{ti:TI}(hti:c.tn t=some ti){x:Operand}{f:Nat}(hop:o.op= .field t x f){fs:List (Nat×TypeId)}(hk:ti.k= .st fs)
 {fo:Nat} {ft:TypeId} (hfs:fs[f]?=some (fo,ft)) {fi:TI} (hfi:c.tn ft=some fi) {cs:List AV} (hcs:VW (zt st.sl x)=some cs) {r:SV×List AV} (hr:(jz fi 0 cs fo fun s l=>some (s,l))=some r):
 o.wp c.P a w (jk G w a (after h o st r.1 none st.hp)) Q:=by
 obtain⟨d,hd1,hd2⟩:=(hc.tt t ti (qp hti).1).und
 rw[hk]at hd2
 obtain⟨fields,rfl,hfl⟩:=hd2
 obtain⟨fl,hfl1,hfl2⟩:=qr _ _ _ _ (show(fields.toList.map fun f=>(f.offset,f.type))[f]?=some (fo,ft) by rw[hfl];exact hfs)
 have hfl1':fields[f]?=some fl:=by simpa using hfl1
 cases hfl2
 have hxr:=vz hI x
 rw[qby hcs]at hxr
 obtain⟨vs,hv,hlen,hrel⟩:=hxr
 have ht:=hc.tt fl.type fi (qp hfi).1
 have hz:=fun w=>ht.sizeOf (qp hfi).2 w
 have ha:=fun w=>ht.isAgg (qp hfi).2 w
 have hrun:∀v,(part fl.type vs.toArray fl.offset).run c.P w= .ok v w->(execOp a.eval o).run c.P w= .ok (.value v) w:=by
  intro v hp
  simp only[execOp,hop,hv,Instr.field]
  simp[run_underlying hd1,hfl1',asAgg,hp]
 have ho:qz h o st.sl=qB (qL h o) st.sl:=by simp[qz,hop]
 have hro:∀(i:Nat) (y:AV) (u:Value),cs[i]?=some y->vs[i]?=some u->RelR G w (ro1 y) u:=fun i y u hy hu=>(hrel i y u hy hu).ro
 unfold jz at hr
 split at hr
 ·rename_i hsc
  obtain⟨v,hv',hr⟩:=bsm hr
  cases hr
  have hx:=kJ hv'
  obtain⟨u,hu⟩:=qU hlen hx
  have hru:=hro _ _ _ hx hu
  have hag:yJ fi.k=false:=by cases hkk:fi.k<;>rw[hkk]at hsc<;>first|rfl|cases hsc
  have e:u=v:=by cases hru;rfl
  subst e
  refine qq (hrun u ?_) (qy hI h ho hd (fun _=>⟨rfl,hru.one⟩) (fun _ _ _ e=>by cases e))
  simp[part,ha,hag,hu]
 ·split at hr
  ·rename_i hsc hag
   obtain⟨l,hl,hr⟩:=bsm hr
   simp only[show¬(0=1) by decide,if_false]at hr
   cases hr
   obtain⟨hle,rfl⟩:=zM hl
   refine qq (hrun (.agg ((vs.drop fl.offset).take fi.size).toArray) ?_) (qy hI h ho hd (fun k=>⟨_,rfl,by simp[hlen],fun i y u hy hu=>?_⟩) (fun _ _ _ e=>by cases e))
   ·simp[part,ha,hag,hz]
    try (rw[List.drop_take])
   ·obtain⟨y',hy',rfl⟩:=qr _ _ _ _ hy
    rw[zij]at hy' hu
    split at hy'
    ·rename_i hq
     simp only[hq,if_true]at hu
     exact(hro (fl.offset+i) y' u (by rw[<-hy'];simp) (by rw[<-hu];simp)).c _
    ·cases hy'
  ·rename_i hsc hag
   obtain⟨y,hy,hr⟩:=bsm hr
   simp only[show¬(0=1) by decide,if_false]at hr
   cases hr
   have hy:cs[fl.offset]?=some y:=hy
   obtain⟨u,hu⟩:=qU hlen hy
   have hag':yJ fi.k=false:=by simpa using hag
   refine qq (hrun u ?_) (qy hI h ho hd (fun k=>(hro _ _ _ hy hu).s k) (fun k g off e=>by cases e))
   simp[part,ha,hag',hu]
theorem qps(hc:Ok c)(hI:Inv G w st a.tmps)(hd:jy o a)(h:Nat){t:TypeId}{ti:TI}(hti:c.tn t=some ti){x i:Operand}(hop:o.op= .index t x i){n:Nat}{e:TypeId}(hk:ti.k= .ar n e)
 {fi:TI} (hfi:c.tn e=some fi) {cs:List AV} (hcs:VW (zt st.sl x)=some cs) {iv:Value} (hiv:xy (zt st.sl i)=some iv) {j:Nat} (hj:idx n iv=some j) {r:SV×List AV} (hr:(jz fi 0 cs (j*fi.size) fun s l=>some (s,l))=some r):
 o.wp c.P a w (jk G w a (after h o st r.1 none st.hp)) Q:=by
 obtain⟨d,hd1,hd2⟩:=(hc.tt t ti (qp hti).1).und
 rw[hk]at hd2
 have hd2:d= .array n e:=hd2
 subst hd2
 have hxr:=vz hI x
 rw[qby hcs]at hxr
 obtain⟨vs,hv,hlen,hrel⟩:=hxr
 have ht:=hc.tt e fi (qp hfi).1
 have hz:=fun w=>ht.sizeOf (qp hfi).2 w
 have ha:=fun w=>ht.isAgg (qp hfi).2 w
 obtain⟨hi,_⟩:=yq hI (ju hiv)
 obtain⟨k,z,rfl,z0,z1,rfl⟩:=Jv hj
 have hrun:∀v,(part e vs.toArray (z.toNat*fi.size)).run c.P w= .ok v w->(execOp a.eval o).run c.P w= .ok (.value v) w:=by
  intro v hp
  simp only[execOp,hop,hv,hi,Instr.index]
  simp[run_underlying hd1,asIntOf,z0,z1,hz,hp]
 have ho:qz h o st.sl=qB (qL h o) st.sl:=by simp[qz,hop]
 have hro:∀(i:Nat) (y:AV) (u:Value),cs[i]?=some y->vs[i]?=some u->RelR G w (ro1 y) u:=fun i y u hy hu=>(hrel i y u hy hu).ro
 generalize z.toNat*fi.size=off at hr hrun
 unfold jz at hr
 split at hr
 ·rename_i hsc
  obtain⟨v,hv',hr⟩:=bsm hr
  cases hr
  have hx:=kJ hv'
  obtain⟨u,hu⟩:=qU hlen hx
  have hru:=hro _ _ _ hx hu
  have hag:yJ fi.k=false:=by cases hkk:fi.k<;>rw[hkk]at hsc<;>first|rfl|cases hsc
  have e:u=v:=by cases hru;rfl
  subst e
  refine qq (hrun u ?_) (qy hI h ho hd (fun _=>⟨rfl,hru.one⟩) (fun _ _ _ e=>by cases e))
  simp[part,ha,hag,hu]
 ·split at hr
  ·rename_i hsc hag
   obtain⟨l,hl,hr⟩:=bsm hr
   simp only[show¬(0=1) by decide,if_false]at hr
   cases hr
   obtain⟨hle,rfl⟩:=zM hl
   refine qq (hrun (.agg ((vs.drop off).take fi.size).toArray) ?_) (qy hI h ho hd (fun k=>⟨_,rfl,by simp[hlen],fun i y u hy hu=>?_⟩) (fun _ _ _ e=>by cases e))
   ·simp[part,ha,hag,hz]
    try (rw[List.drop_take])
   ·obtain⟨y',hy',rfl⟩:=qr _ _ _ _ hy
    rw[zij]at hy' hu
    split at hy'
    ·rename_i hq
     simp only[hq,if_true]at hu
     exact(hro (off+i) y' u (by rw[<-hy'];simp) (by rw[<-hu];simp)).c _
    ·cases hy'
  ·rename_i hsc hag
   obtain⟨y,hy,hr⟩:=bsm hr
   simp only[show¬(0=1) by decide,if_false]at hr
   cases hr
   have hy:cs[off]?=some y:=hy
   obtain⟨u,hu⟩:=qU hlen hy
   have hag':yJ fi.k=false:=by simpa using hag
   refine qq (hrun u ?_) (qy hI h ho hd (fun k=>(hro _ _ _ hy hu).s k) (fun k g off e=>by cases e))
   simp[part,ha,hag',hu]
theorem zdr(hc:Ok c)(hI:Inv G w st a.tmps)(hd:jy o a)(h:Nat){cl:Call}(hop:o.op= .call cl)(hcl:cl.callee= .builtin .len){x:Operand}(hargs:cl.args=#[x]) {t e:TypeId} {ti:TI} (hts:cl.argTypes[0]?=some t)
 (hti:c.tn t=some ti) (hk:ti.k= .sl e) {y:AV} (hx:zt st.sl x= .av y) {n:Nat} (hn:zd y=some n):o.wp c.P a w (jk G w a (after h o st (.sv (.int .i64 n)) none st.hp)) Q:=by
 obtain⟨d,hd1,hd2⟩:=(hc.tt t ti (qp hti).1).und
 rw[hk]at hd2
 cases hd2
 have hxr:=vz hI x
 rw[hx]at hxr
 obtain⟨A,cap,hv⟩:=qve hxr hn
 refine vc hI h (by simp[qz,qL,hop,hcl]) hd rfl ?_
 rw[jl hcl hop rfl]
 simp only[Go.builtin,hargs]
 have:=Wv (P:=c.P) hd1 A n cap cl.argTypes hts o.type w
 have hm:(#[x]:Array Operand).map a.eval=#[a.eval x]:=qe
 rw[Sem.run_bind,hm,hv,this];rfl
theorem qzp(hI:Inv G w st a.tmps)(hd:jy o a)(h:Nat){cl:Call}(hop:o.op= .call cl){b:Builtin}(hcl:cl.callee= .builtin b){vs:List Value}(hvs:qdd (cl.args.toList.map (zt st.sl))=some vs){z:Value}
 (hz:yK c.P b cl.argTypes o.type vs=some z):o.wp c.P a w (jk G w a (after h o st (.sv z) none st.hp)) Q:=by
 have he:=JX hI hvs
 have hargs:cl.args.map a.eval=vs.toArray:=by rw[<-he];apply zl8;simp
 have hb:b≠ .append:=by rintro rfl;simp[yK]at hz
 have hdn:qz h o st.sl=qB (qL h o) st.sl:=by simp[qz,hop]
 have fin:∀s:Sem Value,one (zO c.P s)=some z->(∀k,Go.builtin b cl.argTypes o.type k vs.toArray=(do pure (.value (<-s))))->o.wp c.P a w (jk G w a (after h o st (.sv z) none st.hp)) Q:=by
  intro s hs he'
  refine vc hI h hdn hd (zX hs).2 ?_
  rw[jl hcl hop rfl,hargs,he',Sem.run_bind,jq (zX hs).1 w];rfl
 cases b<;>simp only[yK]at hz<;>first|cases hz;done|exact fin _ hz (fun _=>rfl)
end
def XD(G:Gh)(w:World)(x:AV)(v:Value):Prop:=∀p,zi G w p x v
structure HpI (G : Gh) (w : World) (hp : Hp) : Prop where
 heap:∀b g cs,hp.get b=some (g,cs)->∃blk,G.mu b g=some blk/\G.Om blk= .obj b g/\ObR G w blk (.oc b g ·) g cs
 next:∀b g,hp.next<=b->G.mu b g=none
 hlt:∀b g cs,hp.get b=some (g,cs)->b<hp.next
 new:∀b,w.heap.size<=b->G.Om b= .fr/\G.I b=0
 vars:∀b,(∃k g,G.Om b= .box k g)\/(∃k g,G.Om b= .obj k g)->G.I b=0
theorem Inv.hpI{G:Gh}{w:World}{st:St}{t:Array Value}(h:Inv G w st t):HpI G w st.hp:=⟨h.heap,h.next,h.hlt,h.new,h.vars⟩
def qq6(G:Gh)(w:World)(y:AV)(v:Value):Prop:=
 match y with
 | .tup l=>∃vs:List Value,v= .tuple vs.toArray/\l.length=vs.length/\∀(j:Nat) (x:AV) (c:Value),l[j]?=some x->vs[j]?=some c->zi G w (.sl 0 j ·) x c
 |x=>zi G w (.sl 0 0 ·) x v
def qw3(G:Gh)(w:World)(y:AV)(hp:Hp)(e:Ending)(w':World):Prop:=
 ∃v G',e= .returned v/\Fr G w G' w'/\HpI G' w' hp/\qq6 G' w' y v
def vq(c:Cx)(R:Orc):Prop:=
 ∀f xs hp y hp',R f xs hp=some (y,hp')->∀G w (vs:List Value),HpI G w hp->xs.length=vs.length->
  (∀(i:Nat) (x:AV) (v:Value),xs[i]?=some x->vs[i]?=some v->XD G w x v)->Calls c.P f vs.toArray w (qw3 G w y hp')
def jD(h:Nat):Ow->Bool
 | .fr=>false
 | .obj _ _=>h !=2
 | .oc _ _ _=>h !=2
 |_=>true
def xU(h:Nat)(p:Ow):Ow:=if jD h p=true then .oth else p
def Zd(h d:Nat):Ow->Ow
 | .fr=>.fr
 | .obj b g=>if h=2 then .obj b g else .oth
 | .oc b g i=>if h=2 then .oc b g i else .oth
 | .sl 0 j i=>.sl d j i
 |_=>.oth
theorem Qs(h:Nat):Rho (xU h) where
 fr:=rfl
 oth:=rfl
 box p k g e:=by
  unfold xU at e
  split at e
  ·cases e
  ·exact e
 obj p k g e:=by
  unfold xU at e
  split at e
  ·cases e
  ·exact e
theorem qin{h d:Nat}{p:Ow}{k g:Nat}(e:Zd h d p= .obj k g):p= .obj k g/\h=2:=by
 unfold Zd at e
 split at e
 ·cases e
 ·split at e
  ·rename_i h2;exact⟨e,h2⟩
  ·cases e
 ·split at e<;>cases e
 ·cases e
 ·cases e
theorem qio{h d:Nat}{p:Ow}{k g:Nat}(e:Zd h d p= .box k g):False:=by
 unfold Zd at e
 split at e
 ·cases e
 ·split at e<;>cases e
 ·split at e<;>cases e
 ·cases e
 ·cases e
section
variable {c:Cx}{G:Gh}{w w':World}{st:St}{a:Act}{o:Oper}{Q:Exit->Act->World->Prop}
theorem HpI.rel{hp:Hp}(hI:HpI G w hp){f:Ow->Ow}(hf:Rho f)(ho:∀b g,f (.obj b g)= .obj b g)(hc:∀b g i,f (.oc b g i)= .oc b g i):HpI (G.rel f) w hp where
 heap b g cs h:=by
  obtain⟨blk,h1,h2,h3⟩:=hI.heap b g cs h
  exact⟨blk,h1,by simp[Gh.rel,h2,ho],h3.ev (Fr.rel hf).ev rfl fun i b hb=>⟨rfl,rfl,by simp[Gh.rel,hb,hc]⟩⟩
 next:=hI.next
 hlt:=hI.hlt
 new b hb:=⟨by simp[Gh.rel,(hI.new b hb).1,hf.fr],(hI.new b hb).2⟩
 vars b hb:=hI.vars b (by
  rcases hb with⟨k,g,h⟩|⟨k,g,h⟩
  ·exact .inl ⟨k,g,hf.box _ _ _ h⟩
  ·exact .inr ⟨k,g,hf.obj _ _ _ h⟩)
def Gh.bare(G:Gh)(f:Ow->Ow):Gh:=⟨fun b=>f (G.Om b),G.I,fun _ _=>none,G.la⟩
theorem HpI.pure{hp:Hp}(hI:HpI G w hp){f:Ow->Ow}(hf:Rho f):HpI (G.bare f) w hp0 where
 heap b g cs h:=by cases h
 next _ _ _:=rfl
 hlt b g cs h:=by cases h
 new b hb:=⟨by simp[Gh.bare,(hI.new b hb).1,hf.fr],(hI.new b hb).2⟩
 vars b hb:=hI.vars b (by
  rcases hb with⟨k,g,h⟩|⟨k,g,h⟩
  ·exact .inl ⟨k,g,hf.box _ _ _ h⟩
  ·exact .inr ⟨k,g,hf.obj _ _ _ h⟩)
def Gh.join(G G':Gh)(h d:Nat):Gh:=⟨fun b=>if jD h (G.Om b)=true then G.Om b else Zd h d (G'.Om b),G'.I,G'.mu,G.la⟩
theorem qix(hI:Inv G w st a.tmps)(h:Nat)(h2:h=2)(hdn:qz h o st.sl=st.sl)(hd:jy o a){G':Gh}(hf:Fr (G.rel (xU h)) w G' w'){hp':Hp}(hH:HpI G' w' hp'){s:SV}{v:Value}
 (hs:∀d Gf,EvL G' w' Gf w'/\(∀b g x,G'.mu b g=some x->Gf.mu b g=some x)/\(∀b z,VK w' b=some z->VK w' b=some z)->(∀j i,zA G' w' Gf w' (.sl 0 j i) (.sl d j i))->qG Gf w' d s v) (hl:∀k g off,s≠ .lp k g off):
 jk G w a (after h o st s none hp') (a.put o.dst v) w':=by
 let d:=o.dst.getD 0
 let Gf:=G.join G' h d
 have hkept:∀b,jD h (G.Om b)=true->b<w.heap.size/\w'.heap[b]?=w.heap[b]?/\G'.Om b= .oth/\G'.I b=G.I b/\Gf.Om b=G.Om b:=by
  intro b hb
  have hlt:b<w.heap.size:=hI.lt rfl (by rintro e;rw[e]at hb;simp[jD]at hb)
  obtain⟨h1,h2,h3⟩:=hf.same b hlt (.inr (by simp[Gh.rel,xU,hb]))
  exact⟨hlt,h1,by rw[h2];simp[Gh.rel,xU,hb],h3,by simp[Gf,Gh.join,hb]⟩
 have hnk:∀b,G'.Om b≠ .oth->Gf.Om b=Zd h d (G'.Om b):=by
  intro b hb
  have:¬jD h (G.Om b)=true:=fun e=>hb (hkept b e).2.2.1
  simp[Gf,Gh.join,this]
 have hev:Ev G' w' Gf w':=⟨fun _ _ _=>rfl,fun _=>zif _,fun _ _ _ h=>h,fun _ _ h=>h⟩
 have hK:∀p,jD h p=true->zA G w Gf w' p p:=by
  intro p hp b hb
  have:=hkept b (by rw[hb];exact hp)
  exact⟨this.2.1,this.2.2.2.1,by rw[this.2.2.2.2,hb]⟩
 have hfr:Fr G w Gf w':={
  size:=hf.size
  cells:=hf.cells
  imm:=hf.imm
  mu:=hf.mu
  rest:=hf.rest
  bs:=hf.bs
  same:=fun b hb ho=>by
   rcases ho with ho|ho
   ·obtain⟨h1,h2,h3⟩:=hf.same b hb (.inl (by simp[Gh.rel,ho,xU,jD]))
    have h2':G'.Om b= .fr:=by rw[h2];simp[Gh.rel,ho,xU,jD]
    exact⟨h1,by rw[hnk b (by rw[h2'];simp),h2',ho];rfl,h3⟩
   ·have:=hkept b (by rw[ho];rfl)
    exact⟨this.2.1,this.2.2.2.2,this.2.2.2.1⟩}
 have hev':Ev G w Gf w':=hfr.ev
 have hback:∀p q,p≠ .oth->Zd h d p=q->zA G' w' Gf w' p q:=fun p q hp hq b hb=>⟨rfl,rfl,by rw[hnk b (by rw[hb];exact hp),hb,hq]⟩
 have hI':Inv Gf w' ⟨st.sl,st.bx,hp'⟩ a.tmps:={
  slots:=fun k=>qG.ev hev' (fun j i=>hK _ rfl) (fun _ _ _ _ _ h=>h) (hI.slots k)
  boxes:=fun k g cs hb=>by
   obtain⟨blk,h1,h2,h3⟩:=hI.boxes k g cs hb
   have hk:=hkept blk (by rw[h2];rfl)
   exact⟨blk,h1,by rw[hk.2.2.2.2,h2],h3.ev hev' hk.2.1 fun i=>hK _ rfl⟩
  heap:=fun b g cs hb=>by
   obtain⟨blk,e1,e2,e3⟩:=hH.heap b g cs hb
   refine⟨blk,e1,?_,e3.ev hev rfl fun i=>hback _ _ qe (by simp[Zd,h2])⟩
   rw[hnk blk (by rw[e2];simp),e2];simp[Zd,h2]
  next:=fun b g hb=>hH.next b g hb
  hlt:=fun b g cs hb=>hH.hlt b g cs hb
  new:=fun b hb=>by
   obtain⟨h1,h2⟩:=hH.new b hb
   exact⟨by rw[hnk b (by rw[h1];simp),h1];rfl,h2⟩
  vars:=fun b hb=>by
   by_cases hk:jD h (G.Om b)=true
   ·have hq:=hkept b hk
    rw[hq.2.2.2.2]at hb
    show G'.I b=0
    rw[hq.2.2.2.1]
    exact hI.vars b hb
   ·have e:Gf.Om b=Zd h d (G'.Om b):=by simp[Gf,Gh.join,hk]
    rw[e]at hb
    rcases hb with⟨k,g,hb⟩|⟨k,g,hb⟩
    ·exact(qio hb).elim
    ·exact hH.vars b (.inr ⟨k,g,(qin hb).1⟩)
  lps:=hI.lps}
 refine⟨Gf,?_,hfr,qZ _ _ _,qD _ _ _⟩
 unfold after
 rw[hdn]
 refine hI'.put o.dst hd (fun k hk=>?_) (fun k g off e=>absurd e (hl k g off))
 have hdk:d=k:=by simp[d,hk]
 subst hdk
 exact hs d Gf ⟨hev.evl,hev.mu,hev.bs⟩ (fun j i=>hback _ _ qe (by simp[Zd]))
def Gh.joinP(G G':Gh)(h d:Nat):Gh:=⟨fun b=>if jD h (G.Om b)=true then G.Om b else Zd h d (G'.Om b),G'.I,G.mu,G.la⟩
theorem qq5(hI:Inv G w st a.tmps)(h:Nat)(h2:h≠2)(hdn:qz h o st.sl=st.sl)(hd:jy o a){G':Gh}(hf:Fr (G.bare (xU h)) w G' w'){hp':Hp}(hH:HpI G' w' hp'){s:SV}{v:Value}
 (hs:∀d Gf,EvL G' w' Gf w'->(∀j i,zA G' w' Gf w' (.sl 0 j i) (.sl d j i))->qG Gf w' d s v) (hl:∀k g off,s≠ .lp k g off):
 jk G w a (after h o st s none st.hp) (a.put o.dst v) w':=by
 let d:=o.dst.getD 0
 let Gf:=G.joinP G' h d
 have hkept:∀b,jD h (G.Om b)=true->b<w.heap.size/\w'.heap[b]?=w.heap[b]?/\G'.Om b= .oth/\G'.I b=G.I b/\Gf.Om b=G.Om b:=by
  intro b hb
  have hlt:b<w.heap.size:=hI.lt rfl (by rintro e;rw[e]at hb;simp[jD]at hb)
  obtain⟨h1,h2,h3⟩:=hf.same b hlt (.inr (by simp[Gh.bare,xU,hb]))
  exact⟨hlt,h1,by rw[h2];simp[Gh.bare,xU,hb],h3,by simp[Gf,Gh.joinP,hb]⟩
 have hnk:∀b,G'.Om b≠ .oth->Gf.Om b=Zd h d (G'.Om b):=by
  intro b hb
  have:¬jD h (G.Om b)=true:=fun e=>hb (hkept b e).2.2.1
  simp[Gf,Gh.joinP,this]
 have hev:EvL G' w' Gf w':=⟨fun _ _ _=>rfl,fun _=>zif _⟩
 have hK:∀p,jD h p=true->zA G w Gf w' p p:=by
  intro p hp b hb
  have:=hkept b (by rw[hb];exact hp)
  exact⟨this.2.1,this.2.2.2.1,by rw[this.2.2.2.2,hb]⟩
 have hfr:Fr G w Gf w':={
  size:=hf.size
  cells:=hf.cells
  imm:=hf.imm
  mu:=fun _ _ _ h=>h
  rest:=hf.rest
  bs:=hf.bs
  same:=fun b hb ho=>by
   rcases ho with ho|ho
   ·obtain⟨h1,h2,h3⟩:=hf.same b hb (.inl (by simp[Gh.bare,ho,xU,jD]))
    have h2':G'.Om b= .fr:=by rw[h2];simp[Gh.bare,ho,xU,jD]
    exact⟨h1,by rw[hnk b (by rw[h2'];simp),h2',ho];rfl,h3⟩
   ·have:=hkept b (by rw[ho];rfl)
    exact⟨this.2.1,this.2.2.2.2,this.2.2.2.1⟩}
 have hev':Ev G w Gf w':=hfr.ev
 have hback:∀p q,p≠ .oth->Zd h d p=q->zA G' w' Gf w' p q:=fun p q hp hq b hb=>⟨rfl,rfl,by rw[hnk b (by rw[hb];exact hp),hb,hq]⟩
 have hI':Inv Gf w' ⟨st.sl,st.bx,st.hp⟩ a.tmps:={
  slots:=fun k=>qG.ev hev' (fun j i=>hK _ rfl) (fun _ _ _ _ _ h=>h) (hI.slots k)
  boxes:=fun k g cs hb=>by
   obtain⟨blk,h1,h2,h3⟩:=hI.boxes k g cs hb
   have hk:=hkept blk (by rw[h2];rfl)
   exact⟨blk,h1,by rw[hk.2.2.2.2,h2],h3.ev hev' hk.2.1 fun i=>hK _ rfl⟩
  heap:=fun b g cs hb=>by
   obtain⟨blk,e1,e2,e3⟩:=hI.heap b g cs hb
   have hk:=hkept blk (by rw[e2];simp[jD,h2])
   exact⟨blk,e1,by rw[hk.2.2.2.2,e2],e3.ev hev' hk.2.1 fun i=>hK _ (by simp[jD,h2])⟩
  next:=hI.next
  hlt:=hI.hlt
  new:=fun b hb=>by
   obtain⟨h1,h2⟩:=hH.new b hb
   exact⟨by rw[hnk b (by rw[h1];simp),h1];rfl,h2⟩
  vars:=fun b hb=>by
   by_cases hk:jD h (G.Om b)=true
   ·have hq:=hkept b hk
    rw[hq.2.2.2.2]at hb
    show G'.I b=0
    rw[hq.2.2.2.1]
    exact hI.vars b hb
   ·have e:Gf.Om b=Zd h d (G'.Om b):=by simp[Gf,Gh.joinP,hk]
    rw[e]at hb
    rcases hb with⟨k,g,hb⟩|⟨k,g,hb⟩
    ·exact(qio hb).elim
    ·exact absurd (qin hb).2 h2
  lps:=hI.lps}
 refine⟨Gf,?_,hfr,qZ _ _ _,qD _ _ _⟩
 unfold after
 rw[hdn]
 refine hI'.put o.dst hd (fun k hk=>?_) (fun k g off e=>absurd e (hl k g off))
 have hdk:d=k:=by simp[d,hk]
 subst hdk
 exact hs d Gf hev (fun j i=>hback _ _ qe (by simp[Zd]))
theorem qgl{ti:TI}{y:AV}{s:SV}{v:Value}(hr:QZ ti y some=some s){G':Gh}(h:qq6 G' w' y v):
 (∀d Gf,EvL G' w' Gf w'/\(∀b g x,G'.mu b g=some x->Gf.mu b g=some x)/\(∀b z,VK w' b=some z->VK w' b=some z)->(∀j i,zA G' w' Gf w' (.sl 0 j i) (.sl d j i))->qG Gf w' d s v)/\∀k g off,s≠ .lp k g off:=by
 unfold QZ at hr
 split at hr
 ·obtain⟨u,hu,hr⟩:=bsm hr
  cases hr
  rw[yX hu]at h
  have h':RelR G' w' (.sc u) v:=h
  cases h' with
  |sc _ h1=>exact⟨fun _ _ _ _=>⟨rfl,h1⟩,qe⟩
 ·obtain⟨u,hu,hr⟩:=bsm hr
  cases hr
  cases y with
  |tup l=>
   simp only[yV]at hu
   split at hu
   ·rename_i hn
    have e:(List.range ti.size).map (jd (.tup l))=l:=by
     apply zkv
     intro i
     by_cases hi:i<ti.size
     ·rw[zir,zko hi]
      have:i<l.length:=qc
      simp[jd,this]
     ·rw[zjd qg,zjd qc]
    rw[e]
    obtain⟨vs,h1,h2,h3⟩:=h
    exact⟨fun d Gf he hk=>⟨vs,h1,h2,fun j x cc hx hc=>zi.ev ⟨he.1.cells,he.1.imm,he.2.1,he.2.2⟩ (fun i=>hk j i) (h3 j x cc hx hc)⟩,qe⟩
   ·cases hu
  |_=>cases hu
 ·obtain⟨u,hu,hr⟩:=bsm hr
  cases hr
  refine⟨fun d Gf he hk=>?_,qe⟩
  have h':zi G' w' (.sl 0 0 ·) y v:=by
   cases y<;>first|exact h|cases hu
  exact zi.ev ⟨he.1.cells,he.1.imm,he.2.1,he.2.2⟩ (fun i=>hk 0 i) h'
theorem qpa{ti:TI}{y:AV}{s:SV}{v:Value}(hr:QZ ti y some=some s){G':Gh}(h:qq6 G' w' y v)(hvl:vlV y=true):
 (∀d Gf,EvL G' w' Gf w'->(∀j i,zA G' w' Gf w' (.sl 0 j i) (.sl d j i))->qG Gf w' d s v)/\∀k g off,s≠ .lp k g off:=by
 unfold QZ at hr
 split at hr
 ·obtain⟨u,hu,hr⟩:=bsm hr
  cases hr
  rw[yX hu]at h
  have h':RelR G' w' (.sc u) v:=h
  cases h' with
  |sc _ h1=>exact⟨fun _ _ _ _=>⟨rfl,h1⟩,qe⟩
 ·obtain⟨u,hu,hr⟩:=bsm hr
  cases hr
  cases y with
  |tup l=>
   simp only[yV]at hu
   split at hu
   ·rename_i hn
    have e:(List.range ti.size).map (jd (.tup l))=l:=by
     apply zkv
     intro i
     by_cases hi:i<ti.size
     ·rw[zir,zko hi]
      have:i<l.length:=qc
      simp[jd,this]
     ·rw[zjd qg,zjd qc]
    rw[e]
    obtain⟨vs,h1,h2,h3⟩:=h
    exact⟨fun d Gf he hk=>⟨vs,h1,h2,fun j x cc hx hc=>zi.evl he (fun i=>hk j i) (h3 j x cc hx hc) (zja.mp hvl x (zig hx))⟩,qe⟩
   ·cases hu
  |_=>cases hu
 ·obtain⟨u,hu,hr⟩:=bsm hr
  cases hr
  refine⟨fun d Gf he hk=>?_,qe⟩
  have h':zi G' w' (.sl 0 0 ·) y v:=by
   cases y<;>first|exact h|cases hu
  have hvl':vlF y=true:=by
   cases y<;>first|exact hvl|cases hu
  exact zi.evl he (fun i=>hk 0 i) h' hvl'
theorem zcg(x:AV):vlF (ro x)=vlF x:=by
 cases x with
 |agg cs=>
  simp only[ro,vlF,List.all_map]
  congr 1;funext y;exact qjm y
 |_=>rfl
theorem qg0{R:Orc}(hR:vq c R)(hI:Inv G w st a.tmps)(hd:jy o a)(h:Nat){ti:TI}{f:FuncId}{caps:List AV}{cvs:List Value}{xs:List Operand}{r:SV×BE×Hp}
 (hr:jm c R h ti f caps (xs.map (zt st.sl)) st.hp k3=some r) (hcl:caps.length=cvs.length) (hcaps:∀(i:Nat) (x:AV) (v:Value),caps[i]?=some x->cvs[i]?=some v->RelR G w x v)
 (h4:h≠4) (hdn:qz h o st.sl=st.sl) (hexec:(execOp a.eval o).run c.P w= .ok (.enter f (xs.map a.eval++cvs).toArray) w):o.wp c.P a w (jk G w a (after h o st r.1 r.2.1 r.2.2)) Q:=by
 unfold jm at hr
 obtain⟨ys,hys,hr⟩:=bsm hr
 have hfr:Fr G w (G.rel (xU h)) w:=Fr.rel (Qs h)
 obtain⟨hl,hargs⟩:=vA hI hys
 have hA:∀(i:Nat) (x:AV) (v:Value),(ys.map ro++caps)[i]?=some x->(xs.map a.eval++cvs)[i]?=some v->XD (G.rel (xU h)) w x v:=by
  intro i x v hx hv p
  by_cases hi:i<ys.length
  ·rw[zin (by simpa using hi)]at hx
   rw[zin qg]at hv
   obtain⟨y,hy,rfl⟩:=qr _ _ _ _ hx
   obtain⟨q,hq,hrel⟩:=hargs i y hy
   rw[zir,hq]at hv
   cases hv
   exact zi.ro hfr.ev p hrel
  ·rw[zil qg]at hx
   rw[zil qg]at hv
   simp only[zjg,<-hl]at hx hv
   exact(((hcaps _ x v hx hv).ev hfr.ev).c (p 0)).v
 have hlen:(ys.map ro++caps).length=(xs.map a.eval++cvs).length:=by simp[hl,hcl]
 split at hr
 ·rename_i h2
  obtain⟨⟨y,hp'⟩,hrun,hr⟩:=bsm hr
  rw[zH]at hr
  obtain⟨s,hs,hr⟩:=bsm hr
  cases hr
  unfold Oper.wp
  rw[hexec,Oper.upon_enter]
  refine(hR f _ _ y hp' hrun _ w _ (hI.hpI.rel (Qs h) (by simp[xU,jD,h2]) (by simp[xU,jD,h2])) hlen hA).mono fun e w' hg=>?_
  obtain⟨v,G',rfl,hf,hH',hres⟩:=hg
  obtain⟨h1,h3⟩:=qgl hs hres
  exact qix hI h h2 hdn hd hf hH' h1 h3
 ·rename_i h2
  obtain⟨_,hvl,hr⟩:=bsm hr
  obtain⟨hv1,hv2⟩:=qM hvl
  obtain⟨⟨y,hp'⟩,hrun,hr⟩:=bsm hr
  obtain⟨_,hvy,hr⟩:=bsm hr
  have hvy:=qM hvy
  rw[zH]at hr
  obtain⟨s,hs,hr⟩:=bsm hr
  cases hr
  have hA':∀(i:Nat) (x:AV) (v:Value),(ys.map ro++caps)[i]?=some x->(xs.map a.eval++cvs)[i]?=some v->XD (G.bare (xU h)) w x v:=by
   intro i x v hx hv p
   have hxm:=zig hx
   have hvx:vlF x=true:=by
    rcases zip.mp hxm with hm|hm
    ·obtain⟨y,hy,rfl⟩:=ziu.mp hm
     rw[zcg]
     exact zja.mp hv1 y hy
    ·have:=zja.mp hv2 x hm
     cases x<;>first|exact this|cases this
   exact zi.evl (G:=G.rel (xU h)) (G':=G.bare (xU h)) (p:=p) (q:=p) ⟨fun _ _ _=>rfl,fun _=>zif _⟩ (fun i b hb=>⟨rfl,rfl,hb⟩) (hA i x v hx hv p) hvx
  unfold Oper.wp
  rw[hexec,Oper.upon_enter]
  refine(hR f _ _ y hp' hrun _ w _ (hI.hpI.pure (Qs h)) hlen hA').mono fun e w' hg=>?_
  obtain⟨v,G',rfl,hf,hH',hres⟩:=hg
  obtain⟨h1,h3⟩:=qpa hs hres hvy
  exact qq5 hI h h2 hdn hd hf hH' h1 h3
theorem qdu{P:Program}{f:FuncId}{fn:Func}(hf:P.funcs[f]?=some fn) (hn:(fn.name== "runtime.NumGoroutine")=false) {b:Code} (hb:fn.body=some b) (args:Array Value) (w:World):
 (callFunc f args).run P w= .ok (.enter f args) w:=by
 have hn':¬fn.name= "runtime.NumGoroutine" :=by simpa using hn
 simp[callFunc,hf,hn',hb]
theorem qg1{R:Orc}(hR:vq c R)(hI:Inv G w st a.tmps)(hd:jy o a){ti:TI}{f:FuncId}{caps:List AV}{cvs:List Value}{xs:List Operand}{r:SV×BE×Hp}
 (hr:jm c R 4 ti f caps (xs.map (zt st.sl)) st.hp k3=some r) (hcl:caps.length=cvs.length) (hcaps:∀(i:Nat) (x:AV) (v:Value),caps[i]?=some x->cvs[i]?=some v->RelR G w x v)
 (hdn:qz 4 o st.sl=st.sl) (hdn2:qz 2 o st.sl=st.sl) (hexec:(execOp a.eval o).run c.P w= .ok (.enter f (cvs++xs.map a.eval).toArray) w):o.wp c.P a w (jk G w a (after 4 o st r.1 r.2.1 r.2.2)) Q:=by
 unfold jm at hr
 obtain⟨ys,hys,hr⟩:=bsm hr
 have hfr:Fr G w (G.rel (xU 2)) w:=Fr.rel (Qs 2)
 obtain⟨hl,hargs⟩:=vA hI hys
 have hA:∀(i:Nat) (x:AV) (v:Value),(caps++ys.map ro)[i]?=some x->(cvs++xs.map a.eval)[i]?=some v->XD (G.rel (xU 2)) w x v:=by
  intro i x v hx hv p
  by_cases hi:i<caps.length
  ·rw[zin hi]at hx
   rw[zin qc]at hv
   exact(((hcaps _ x v hx hv).ev hfr.ev).c (p 0)).v
  ·rw[zil qc]at hx
   rw[zil qc]at hv
   rw[hcl]at hx
   obtain⟨y,hy,rfl⟩:=qr _ _ _ _ hx
   obtain⟨q,hq,hrel⟩:=hargs _ y hy
   rw[zir,hq]at hv
   cases hv
   exact zi.ro hfr.ev p hrel
 have hlen:(caps++ys.map ro).length=(cvs++xs.map a.eval).length:=by simp[hl,hcl]
 rw[if_neg qf,if_pos rfl]at hr
 obtain⟨⟨y,hp'⟩,hrun,hr⟩:=bsm hr
 rw[zH]at hr
 obtain⟨s,hs,hr⟩:=bsm hr
 cases hr
 unfold Oper.wp
 rw[hexec,Oper.upon_enter]
 refine(hR f _ _ y hp' hrun _ w _ (hI.hpI.rel (Qs 2) (by simp[xU,jD]) (by simp[xU,jD])) hlen hA).mono fun e w' hg=>?_
 obtain⟨v,G',rfl,hf,hH',hres⟩:=hg
 obtain⟨h1,h3⟩:=qgl hs hres
 have:=qix hI 2 rfl hdn2 hd hf hH' h1 h3
 have e:after 4 o st s none hp'=after 2 o st s none hp':=by unfold after;rw[hdn,hdn2]
 rw[e]
 exact this
end
section
variable {c:Cx}{G:Gh}{w w':World}{st:St}{a:Act}{o:Oper}{Q:Exit->Act->World->Prop}
theorem wM(hI:Inv G w st a.tmps)(h:Nat)(ts:List Nat)(ho:qz h o st.sl=qB ts st.sl)(hd:jy o a){blk:Nat}{p0:Ow}(hom:G.Om blk=p0)
 (hp0:(∃t∈ts,p0= .sl t 0 0)\/(∃b g,p0= .obj b g)) (hib:G.I blk=0) {arr:Array Value} {e:TypeId} (hw:Wr w w' blk arr e) {cs:List AV} (hlen:cs.length<=arr.size)
 (hrel:∀(i:Nat) (x:AV) (u:Value),cs[i]?=some x->arr[i]?=some u->RelR G w x u) {s:SV} {v:Value}
 (hs:∀G',G'.mu st.hp.next 0=some blk->∀k,qG G' w' k s v) (hsl:∀k g off,s≠ .lp k g off) {hp1:Hp} (hn:hp1.next=st.hp.next)
 (hg1:∀b g cs,hp1.get b=some (g,cs)->st.hp.get b=some (g,cs)/\Ow.obj b g≠p0):
 jk G w a (after h o st s none (hp1.new cs)) (a.put o.dst v) w':=by
 have hfr:p0≠ .fr:=by rcases hp0 with⟨t,_,rfl⟩|⟨b,g,rfl⟩<;>simp
 have hoth:p0≠ .oth:=by rcases hp0 with⟨t,_,rfl⟩|⟨b,g,rfl⟩<;>simp
 have hbox:∀k g,p0≠ .box k g:=by rcases hp0 with⟨t,_,rfl⟩|⟨b,g,rfl⟩<;>simp
 have hbc:∀k g i,p0≠ .bc k g i:=by rcases hp0 with⟨t,_,rfl⟩|⟨b,g,rfl⟩<;>simp
 have hoc:∀k g i,p0≠ .oc k g i:=by rcases hp0 with⟨t,_,rfl⟩|⟨b,g,rfl⟩<;>simp
 have hlt:blk<w.heap.size:=hI.lt hom hfr
 let mu:Nat->Nat->Option Nat:=fun b g=>if b=st.hp.next/\g=0 then some blk else G.mu b g
 let G':Gh:=⟨fun x=>if x=blk then .obj st.hp.next 0 else G.Om x,G.I,mu,G.la⟩
 have hmu:∀b g x,G.mu b g=some x->mu b g=some x:=by
  intro b g x hx
  have hne:¬(b=st.hp.next/\g=0):=by
   rintro⟨rfl,rfl⟩
   rw[hI.next _ 0 (zif _)]at hx;cases hx
  simp[mu,hne,hx]
 have hf:Fr G w G' w':={
  size:=by rw[hw.size];exact zif _
  cells:=fun x i hi=>by
   by_cases ex:x=blk
   ·subst ex;rw[hib]at hi;omega
   ·exact yC (hw.other x ex) i
  imm:=fun x=>zif _
  mu:=hmu
  rest:=hw.rest
  same:=fun x hx ho'=>by
   have hne:x≠blk:=by
    rintro rfl
    rcases ho' with h'|h'<;>rw[hom]at h'
    ·exact hfr h'
    ·exact hoth h'
   exact⟨hw.other x hne,by simp[G',hne],rfl⟩
  bs:=fun x z hz=>by
   by_cases ex:x=blk
   ·subst ex;exact hw.sz z hz
   ·rw[ZI (hw.other x ex)];exact hz}
 have hk:∀p,p≠p0->zA G w G' w' p p:=by
  intro p hp x hx
  have hne:x≠blk:=by rintro rfl;rw[hom]at hx;exact hp hx.symm
  exact⟨hw.other x hne,rfl,by simp[G',hne,hx]⟩
 have hI2:Inv G' w' ⟨qB ts st.sl,st.bx,hp1.new cs⟩ a.tmps:={
  slots:=fun j=>by
   show qG G' w' j (qA (qB ts st.sl) j) _
   rw[zy]
   split
   ·exact qG.ro hf.ev (k:=j) j (fun _ _ _ _ _ h=>h) (hI.slots j)
   ·rename_i hne
    refine qG.ev hf.ev (fun j' i=>hk _ ?_) (fun _ _ _ _ _ h=>h) (hI.slots j)
    rcases hp0 with⟨t,ht,rfl⟩|⟨b,g,rfl⟩
    ·intro e';cases e';exact hne ht
    ·simp
  boxes:=fun j g cs' h'=>by
   obtain⟨bk,h1,h2,h3⟩:=hI.boxes j g cs' h'
   have hne:bk≠blk:=by rintro rfl;rw[hom]at h2;exact hbox _ _ h2
   exact⟨bk,h1,by simp[G',hne,h2],h3.ev hf.ev (hw.other _ hne) fun i=>hk _ (fun e=>hbc _ _ _ e.symm)⟩
  heap:=fun k g cs' hg=>by
   have hg':(if k=hp1.next then some (0,cs)else hp1.get k)=some (g,cs'):=hg
   rw[hn]at hg'
   split at hg'
   ·rename_i e;subst e
    cases hg'
    refine⟨blk,by simp[G',mu],by simp[G'],?_⟩
    show yY G' w' blk _ cs
    refine⟨arr,_,hw.at_,hlen,fun i x u hx hu=>?_⟩
    exact((hrel i x u hx hu).ev hf.ev).c _
   ·rename_i hne
    obtain⟨a1,a2⟩:=hg1 _ _ _ hg'
    obtain⟨bk,h1,h2,h3⟩:=hI.heap k g cs' a1
    have hne2:bk≠blk:=by rintro rfl;rw[hom]at h2;exact a2 h2.symm
    have hne':¬(k=st.hp.next/\g=0):=fun e=>hne e.1
    exact⟨bk,by simp[G',mu,hne',h1],by simp[G',hne2,h2],h3.ev hf.ev (hw.other _ hne2) fun i=>hk _ (fun e=>hoc _ _ _ e.symm)⟩
  next:=fun b g hb=>by
   have hb':hp1.next+1<=b:=hb
   have hne:¬(b=st.hp.next/\g=0):=fun e=>qc
   show mu b g=none
   simp only[mu,hne,if_false]
   exact hI.next b g qc
  hlt:=fun b g cs' hg=>by
   have hg':(if b=hp1.next then some (0,cs)else hp1.get b)=some (g,cs'):=hg
   show b<hp1.next+1
   split at hg'
   ·omega
   ·have:=hI.hlt b g cs' (hg1 _ _ _ hg').1;omega
  new:=fun x hx=>by
   rw[hw.size]at hx
   have hne:x≠blk:=qc
   simp only[G',hne,if_false]
   exact hI.new x hx
  vars:=fun x hx=>by
   by_cases hne:x=blk
   ·subst hne;exact hib
   ·simp only[G',hne,if_false]at hx
    exact hI.vars x hx
  lps:=fun i j g off e'=>by
   have e'':qA (qB ts st.sl) i= .lp j g off:=e'
   rw[zy]at e''
   split at e''
   ·exact hI.lps i j g off (Jj.mp e'')
   ·exact hI.lps i j g off e''}
 refine⟨G',?_,hf,qZ _ _ _,qD _ _ _⟩
 unfold after
 rw[ho]
 exact hI2.put o.dst hd (fun k _=>hs G' (by simp[G',mu]) k) (fun k g off e=>absurd e (hsl k g off))
theorem Jt{sz n:Nat}{cs:List AV}(h:0<sz)(hl:cs.length=n*sz):jV sz cs=n:=by
 unfold jV
 split
 ·rename_i e;rw[hl,e,zi7]
 ·rw[hl];exact Nat.mul_div_cancel n h
theorem QQ{hp:Hp}{b j g:Nat}{cs:List AV}(h:(hp.del b).get j=some (g,cs)):hp.get j=some (g,cs)/\j≠b:=by
 have h':(if j=b then none else hp.get j)=some (g,cs):=h
 split at h'
 ·cases h'
 ·exact⟨h',by assumption⟩
theorem qzs(hc:Ok c)(hI:Inv G w st a.tmps)(hd:jy o a)(h:Nat){cl:Call}(hop:o.op= .call cl)(hcl:cl.callee= .builtin .append){x y:Operand}(hargs:cl.args=#[x,y]) {t:TypeId} (hts:cl.argTypes=#[t,t])
 {ti ei:TI} {e:TypeId} (hti:c.tn t=some ti) (hk:ti.k= .sl e) (hei:c.tn e=some ei) {d' s':AV} (hx:XF (zt st.sl x)=some d') (hy:XF (zt st.sl y)=some s') {r:AV×Hp}
 (hr:zF ei.bytes ei.size d' s' st.hp=some r):o.wp c.P a w (jk G w a (after h o st (.av r.1) none r.2)) Q:=by
 have hdn:qz h o st.sl=qB (zw [x,y]) st.sl:=by simp[qz,qL,hop,hcl,hargs]
 obtain⟨dd,hd1,hd2⟩:=(hc.tt t ti (qp hti).1).und
 rw[hk]at hd2
 have hd2:dd= .slice e:=hd2
 subst hd2
 obtain⟨i,zv,hi1,hi4,hi2,hi5,hi6,hi7,_⟩:=(hc.tt e ei (qp hei).1).info (qp hei).2
 have hdr:=ya (vz hI x) hx
 have hsr:=ya (vz hI y) hy
 have hrun:∀(v:Value) (w':World),(Builtin.append_ #[t,t] o.type #[a.eval x,a.eval y]).run c.P w= .ok v w'->(execOp a.eval o).run c.P w= .ok (.value v) w':=by
  intro v w' hr
  rw[jl hcl hop rfl,hargs,hts]
  simp only[Go.builtin,zll,zjc,zkc]
  rw[Sem.run_bind,hr];rfl
 unfold zF at hr
 obtain⟨ys,hys,hr⟩:=bsm hr
 have hsrc:=zc4 hI (p:=fun i=>.sl (vG y) 0 i) hsr hys
 split at hr
 ·--nothing is put behind
  split at hr
  ·rename_i b g off n z _
   obtain⟨_,_,hr⟩:=bsm hr
   cases hr
   have hdr':RelR G w (.ms b g off n z) (a.eval x):=hdr
   obtain⟨blk,cap,off',z',m1,m2,m4,m3,m5,m6⟩:=WD (p:=fun i=>.sl (vG x) 0 i) hdr
   have hr':(execOp a.eval o).run c.P w= .ok (.value (a.eval x)) w:=by
    refine hrun _ _ ?_
    rcases hsrc with⟨hs,_⟩|⟨B,m,c',hs,e2,e3,_⟩
    ·rw[m3,hs];exact Ji t o.type e i hd1 hi1 _ n cap m2 w
    ·have hm:m=0:=by
      rcases zkr m with h|h
      ·exact h
      ·have:=zly h e2;simp at e3;omega
     subst hm
     rw[m3,hs];exact Jh t o.type e i hd1 hi1 _ n cap m2 B c' w
   refine qq hr' ?_
   exact qy hI h (by simp[qz,hop]) hd (fun k=>hdr'.s k) (fun _ _ _ e=>by cases e)
  ·obtain⟨z,hz,hr⟩:=bsm hr
   cases hr
   exact qd8 hc hI hd h hop hcl hargs hts hti hk hei hx hsrc (fun e=>absurd rfl e) hz
 ·rename_i y0 ys
  have hsrc0:=hsrc
  rcases hsrc with⟨_,e0⟩|⟨B,m,c',hs,hsz,hlen,hform⟩
  ·cases e0
  have hm:0<m:=by
   rcases zkr m with h|h
   ·subst h;simp at hlen
   ·exact h
  obtain⟨vs,hvl,hnews,hrel⟩:=hform hm
  have h1:∀u∈vs,u.oneCell'=true:=by
   intro u hu
   obtain⟨k,hk',rfl⟩:=zky hu
   have hk2:k<(y0::ys).length:=by rw[<-hvl];exact hk'
   exact(hrel k (y0::ys)[k] vs[k] (zic hk2) (zic hk')).one
  have hnl:vs.length=m*i.size:=by rw[hvl,hlen,hi4]
  have hmany:jV ei.size (y0::ys)=m:=Jt hsz hlen
  have hzs:zv.cells.size=ei.size:=by rw[<-hi7,<-hi6];simp
  have need:∀n,js ei.bytes ei.size (n*ei.size+(y0::ys).length)=true->(n+m)*i.bytes<=140737488355328/\((n+m:Nat):Int)<=9223372036854775807:=by
   intro n hfit
   obtain⟨hf1,hf2⟩:=kf hfit
   have hneed:(n+m)*i.bytes<=140737488355328:=by
    rw[hi2]
    rw[hlen,<-Nat.add_mul,zj1,zi3 ei.size,<-Nat.mul_assoc]at hf1
    exact zln hf1 hsz
   have:n+m<=(n+m)*i.bytes:=zkj _ (by rw[hi2];exact hf2)
   exact⟨hneed,qc⟩
  --a new row
  have fin:∀(w':World) (arr:Array Value) (N C:Nat) (cs':List AV) (hp1:Hp),New w w' (.cells arr e (0,0))->arr.size=C*ei.size->N<=C->cs'.length=N*ei.size->
   (∀(k:Nat) (z:AV) (u:Value),cs'[k]?=some z->arr[k]?=some u->RelR G w z u)->hp1.next=st.hp.next->(∀b g cs,hp1.get b=some (g,cs)->st.hp.get b=some (g,cs))->
   jk G w a (after h o st (.av (.ms st.hp.next 0 0 N ei.size)) none (hp1.new cs')) (a.put o.dst (.slice (some ⟨w.heap.size,0,none⟩) N C)) w':=by
   intro w' arr N C cs' hp1 hnew has hNC hcl hr hn hg
   refine JN hI h _ hdn hd hnew (by rw[has,hcl];exact ziq _ hNC) hr (fun G' hG k=>?_) (fun _ _ _ e=>by cases e) hn hg
   exact RelR.ms _ _ _ _ _ _ _ _ _ hG hNC (fun _=>rfl) (zV hnew.at) (by rw[has];omega)
  --the cells of a grown row
  have grown:∀(olds:List Value) (n C:Nat) (os:List AV),olds.length=n*ei.size->os.length=olds.length->n+m<=C->(∀(k:Nat) (z:AV) (u:Value),os[k]?=some z->olds[k]?=some u->RelR G w z u)->
   (olds.toArray++vs.toArray++Builtin.zeroCells zv.cells (C-(n+m))).size=C*ei.size/\
   ∀(k:Nat) (z:AV) (u:Value),(os++(y0::ys))[k]?=some z->(olds.toArray++vs.toArray++Builtin.zeroCells zv.cells (C-(n+m)))[k]?=some u->RelR G w z u:=by
   intro olds n C os hlo hol hC hor
   refine⟨?_,fun k z u hz hu=>?_⟩
   ·rw[zjk,zjk,zis,zis,size_zeroCells,hlo,hnl,hi4,hzs,<-Nat.add_mul,<-Nat.add_mul]
    congr 1;omega
   ·have hsz2:(olds.toArray++vs.toArray).size=olds.length+vs.length:=qe
    have hklt:k<(os++(y0::ys)).length:=(zih.mp hz).1
    rw[zh8,hol,<-hvl]at hklt
    rw[zjf (by rw[hsz2];exact hklt)]at hu
    have hu':(olds++vs)[k]?=some u:=by rw[<-hu];simp
    by_cases hk1:k<olds.length
    ·rw[zin qc]at hz
     rw[zin hk1]at hu'
     exact hor k z u hz hu'
    ·rw[zil qc,hol]at hz
     rw[zil qc]at hu'
     exact hrel _ z u hz hu'
  split at hr
  ·--an owned slice without elements
   rename_i sz
   obtain⟨_,hcond,hr⟩:=bsm hr
   obtain⟨hzz,hfit⟩:=qM hcond
   cases hr
   subst hzz
   obtain⟨b,hom,ht⟩:=hdr
   have hxt:x= .tmp (vG x):=by
    cases x with
    |tmp t=>rfl
    |const v=>
     simp only[zt]at hx
     split at hx
     ·split at hx<;>simp[XF]at hx
     ·cases hx
     ·cases hx
    |global g=>cases hx
    |func f=>cases hx
   obtain⟨n,cap,arr,e',mk,t1,t2,t3,t4,t5,t6,t7,t8,t9⟩:=ht.ex
   obtain rfl:mk=(0,0):=t9.elim id fun q=>absurd rfl q.1
   have hn0:n=0:=by
    rcases zkr n with h|h
    ·exact h
    ·have:=zly h t2;simp at t3;omega
   subst hn0
   obtain⟨hneed,h63⟩:=need 0 (by simpa using hfit)
   have hmem:vG x∈zw [x,y]:=by rw[hxt];simp[zw,vG]
   have hib:G.I b=0:=by rw[t5];simp
   rw[hmany]
   by_cases hroom:0+m<=cap
   ·have hfit':0*i.size+vs.length<=arr.size:=by rw[hnl,hi4,t7,<-Nat.add_mul];exact ziq _ hroom
    have hrr':=wh (P:=c.P) t o.type e e' i hd1 hi1 b 0 cap arr t6 (.inl rfl) B m c' vs hnl hnews h1 hroom hfit'
    have hwr:=jG w t6 hfit'
    have hbs:VK w b=some (cap*ei.size):=by rw[zV t6,t7]
    rw[ziw]at hrr'
    refine qq (hrun _ _ (by rw[t1,hs];exact hrr')) ?_
    refine wM hI h _ hdn hd hom (.inl ⟨vG x,hmem,rfl⟩) hib hwr ?_ (fun k z u hz hu=>?_) (fun G' hG k=>?_) (fun _ _ _ e=>by cases e) rfl (fun b' g' cs' hg=>⟨hg,qe⟩)
    ·have h2:0*i.size+vs.length<=arr.toList.length:=by rw[zjb];exact hfit'
     simp only[zis,zh8,ziy,zjt]
     omega
    ·have hg:=xc arr.toList vs (0*i.size) (by rw[zjb];exact hfit') k
     have hklt:k<(y0::ys).length:=(zih.mp hz).1
     rw[if_pos qc]at hg
     have hu':vs[k-0*i.size]?=some u:=by rw[<-hg];simpa using hu
     rw[zkb,zmp]at hu'
     exact hrel k z u hz hu'
    ·exact RelR.ms _ _ _ _ _ _ _ _ _ hG qc (fun _=>rfl) (hwr.sz _ hbs) qc
   ·have hrr':=run_append_grow (P:=c.P) w t o.type e i zv hd1 hi1 hi5 ⟨b,0,none⟩ 0 cap [] qe qe B m c' vs hnl hnews qc h63 (growslice_fits qc qc)
    have hge:=grownCap_ge w (0+m) cap e
    obtain⟨g1,g2⟩:=grown [] 0 (grownCap w (0+m) cap e) [] qe rfl hge qe
    simp only[ziw]at hrr' g1 g2 hge
    refine qq (hrun _ _ (by rw[t1,hs];exact hrr')) ?_
    exact fin _ _ m _ (y0::ys) st.hp ⟨rfl,rfl,rfl,rfl⟩ g1 hge hlen g2 rfl (fun _ _ _ h=>h)
  ·--an owned slice with elements
   obtain⟨_,hcond,hr⟩:=bsm hr
   obtain⟨z,hz,hr⟩:=bsm hr
   cases hr
   exact qd8 hc hI hd h hop hcl hargs hts hti hk hei hx hsrc0 (fun _ x hx=>zja.mp (qg5 hcond) x hx) hz
  ·--nil
   rename_i v
   obtain⟨_,hcond,hr⟩:=bsm hr
   obtain⟨hnil,hfit⟩:=qM hcond
   cases hr
   have:=xq hnil
   subst this
   obtain⟨hneed,h63⟩:=need 0 (by simpa using hfit)
   have hdr':RelR G w (.sc (.slice none 0 0)) (a.eval x):=hdr
   have hxe:a.eval x= .slice none 0 0:=by
    generalize a.eval x=v at hdr'
    cases hdr';rfl
   rw[ziw]at hneed h63
   have hrr':=run_append_nil (P:=c.P) w t o.type e i zv hd1 hi1 hi5 B m c' vs hnl hnews hm h63 qc
   have hge:=grownCap_ge w m 0 e
   rw[hmany]
   refine qq (hrun _ _ (by rw[hxe,hs];exact hrr')) ?_
   refine fin _ _ m _ (y0::ys) st.hp ⟨rfl,rfl,rfl,rfl⟩ ?_ hge hlen (fun k z u hz hu=>?_) rfl (fun _ _ _ h=>h)
   ·rw[zjk,zis,size_zeroCells,hnl,hi4,hzs,<-Nat.add_mul]
    congr 1;omega
   ·have hklt:k<(y0::ys).length:=(zih.mp hz).1
    rw[<-hvl]at hklt
    rw[zjf (by simpa using hklt)]at hu
    exact hrel k z u hz (by simpa using hu)
  ·--a slice that may be written
   rename_i b g off n sz _
   obtain⟨_,hcond,hr⟩:=bsm hr
   obtain⟨hzz,hoff,hn⟩:=qM hcond
   obtain⟨cs,hcs,hr⟩:=bsm hr
   obtain⟨_,hcond2,hr⟩:=bsm hr
   obtain⟨hle,hfit⟩:=qM hcond2
   cases hr
   subst hzz
   subst hoff
   obtain⟨hneed,h63⟩:=need n hfit
   obtain⟨blk,cap,off',z,m1,m2,m4,m3,m5,m6⟩:=WD (p:=fun i=>.sl (vG x) 0 i) hdr
   have hoff:=m4 hn
   subst hoff
   obtain⟨hget,hg0⟩:=xa hcs
   obtain⟨blk',b1,b2',b3⟩:=hI.heap b g cs hget
   rw[m1]at b1;cases b1
   obtain⟨arr,e',c1,c2,c3⟩:=jU b3 hg0
   have hib:G.I blk=0:=hI.vars blk (.inr ⟨b,g,b2'⟩)
   rw[zV c1]at m5
   have m5:arr.size=z:=zit m5
   rw[hmany]
   have hold:∀(k:Nat) (z:AV) (u:Value),((cs.take (n*ei.size)).map ro1)[k]?=some z->arr[k]?=some u->RelR G w z u:=by
    intro k z u hz hu
    obtain⟨q,hq,rfl⟩:=qr _ _ _ _ hz
    rw[zij]at hq
    split at hq
    ·exact(c3 k q u hq hu).ro
    ·cases hq
   have hol:((cs.take (n*ei.size)).map ro1).length=n*ei.size:=qg
   by_cases hroom:n+m<=cap
   ·have hcap:(n+m)*ei.size<=arr.size:=by
     have:=ziq ei.size hroom
     omega
    have hfit':n*i.size+vs.length<=arr.size:=by rw[hnl,hi4,<-Nat.add_mul];exact hcap
    have hrr':=wh (P:=c.P) t o.type e e' i hd1 hi1 blk n cap arr c1 (.inl rfl) B m c' vs hnl hnews h1 hroom hfit'
    have hwr:=jG w c1 hfit'
    refine qq (hrun _ _ (by rw[m3,hs];exact hrr')) ?_
    refine wM hI h _ hdn hd b2' (.inr ⟨b,g,rfl⟩) hib hwr ?_ (fun k z u hz hu=>?_) (fun G' hG k=>?_) (fun _ _ _ e=>by cases e) rfl (fun b' g' cs' hg=>?_)
    ·have h2:n*i.size+vs.length<=arr.toList.length:=by rw[zjb];exact hfit'
     rw[hi4]at h2⊢
     simp only[zis,zh8,ziy,zjt,zjg]
     omega
    ·have hg:=xc arr.toList vs (n*i.size) (by rw[zjb];exact hfit') k
     have hklt:k<((cs.take (n*ei.size)).map ro1++(y0::ys)).length:=(zih.mp hz).1
     rw[zh8,hol]at hklt
     have hu':(List.take (n*i.size) arr.toList++vs++List.drop (n*i.size+vs.length) arr.toList)[k]?=some u:=by simpa using hu
     rw[hg,hi4]at hu'
     by_cases hk1:k<n*ei.size
     ·rw[zin (by rw[hol];exact hk1)]at hz
      rw[if_neg qc]at hu'
      exact hold k z u hz (by simpa using hu')
     ·rw[zil (by rw[hol];omega),hol]at hz
      rw[if_pos qc]at hu'
      exact hrel _ z u hz hu'
    ·exact RelR.ms _ _ _ _ _ _ _ _ _ hG qc (fun _=>rfl) (hwr.sz _ (by rw[zV c1])) qc
    ·obtain⟨d1,d2⟩:=QQ hg
     exact⟨d1,fun e=>d2 (by cases e;rfl)⟩
   ·have hlo:(arr.toList.take (n*ei.size)).length=n*i.size:=by rw[ziy,hi4,zjb];omega
    have holds:∀j u,(arr.toList.take (n*ei.size))[j]?=some u->w.cell? ((⟨blk,0,none⟩:Addr).add j)=some u:=by
     intro j u hu
     rw[qS,ziw,qR c1]
     rw[zij]at hu
     split at hu
     ·simpa using hu
     ·cases hu
    have hrr':=run_append_grow (P:=c.P) w t o.type e i zv hd1 hi1 hi5 ⟨blk,0,none⟩ n cap _ hlo holds B m c' vs hnl hnews qc h63 (growslice_fits qc qc)
    have hge:=grownCap_ge w (n+m) cap e
    rw[hi4]at hlo
    obtain⟨g1,g2⟩:=grown (arr.toList.take (n*ei.size)) n (grownCap w (n+m) cap e) ((cs.take (n*ei.size)).map ro1) hlo (by rw[hol,hlo]) hge (fun k z u hz hu=>by
     rw[zij]at hu
     split at hu
     ·exact hold k z u hz (by simpa using hu)
     ·cases hu)
    refine qq (hrun _ _ (by rw[m3,hs];exact hrr')) ?_
    exact fin _ _ (n+m) _ _ (st.hp.del b) ⟨rfl,rfl,rfl,rfl⟩ g1 hge (by rw[zh8,hol,hlen,<-Nat.add_mul]) g2 rfl (fun b' g' cs' hg=>(QQ hg).1)
  ·cases hr
end
def qbz(q:Ow):Prop:=∀b g,q≠ .obj b g
section
variable {c:Cx}{G:Gh}{w w':World}{st:St}{a:Act}{o:Oper}{Q:Exit->Act->World->Prop}
theorem qnr{t:Array Value}{sl:Slots}{bx:Boxes}{hp hp':Hp}{x x':AV}(hI:Inv G w ⟨sl,bx,hp⟩ t)(hx:kO hp x=some (x',hp')):
 ∃G',Fr G w G' w/\Inv G' w ⟨sl,bx,hp'⟩ t/\(∀q,qbz q->zA G w G' w q q)/\∀p v,qbz p->jx G w p x v->jx G' w p x' v:=by
 unfold kO at hx
 split at hx
 ·rename_i b g off n z
  obtain⟨_,hz,hx⟩:=bsm hx
  obtain⟨cs,hcs,hx⟩:=bsm hx
  obtain⟨l,hl,hx⟩:=bsm hx
  obtain⟨_,hv,hx⟩:=bsm hx
  cases hx
  have hz:=qM hz
  have hv:=qM hv
  obtain⟨hget,hg0⟩:=xa hcs
  obtain⟨blk,b1,b2,b3⟩:=hI.heap b g cs hget
  obtain⟨arr,e,c1,c2,c3⟩:=jU b3 hg0
  have hib:G.I blk=0:=hI.vars blk (.inr ⟨b,g,b2⟩)
  have hlt:blk<w.heap.size:=(zj7.mp c1).1
  let G':Gh:=⟨fun y=>if y=blk then .oth else G.Om y,fun y=>if y=blk then cs.length else G.I y,G.mu,G.la⟩
  have hf:Fr G w G' w:={
   size:=zif _
   cells:=fun _ _ _=>rfl
   imm:=fun y=>by
    simp only[G']
    split
    ·rename_i e;subst e;rw[hib];omega
    ·exact zif _
   mu:=fun _ _ _ h=>h
   rest:=ZP.refl w
   bs:=fun _ _ h=>h
   same:=fun y hy ho=>by
    have hne:y≠blk:=by rintro rfl;rcases ho with h|h<;>rw[b2]at h<;>cases h
    exact⟨rfl,by simp[G',hne],by simp[G',hne]⟩}
  have hk:∀q,qbz q->zA G w G' w q q:=by
   intro q hq y hy
   have hne:y≠blk:=by rintro rfl;rw[b2]at hy;exact hq _ _ hy.symm
   exact⟨rfl,by simp[G',hne],by simp[G',hne,hy]⟩
  refine⟨G',hf,?_,hk,fun p v hp h=>?_⟩
  ·exact{
    slots:=fun j=>qG.ev hf.ev (fun j' i=>hk _ (fun _ _ e=>by cases e)) (fun _ _ _ _ _ h=>h) (hI.slots j)
    boxes:=fun j g' cs' hb=>by
     obtain⟨bk,h1,h2,h3⟩:=hI.boxes j g' cs' hb
     have hne:bk≠blk:=by rintro rfl;rw[b2]at h2;cases h2
     exact⟨bk,h1,by simp[G',hne,h2],h3.ev hf.ev rfl fun i=>hk _ (fun _ _ e=>by cases e)⟩
    heap:=fun j g' cs' hb=>by
     obtain⟨d1,d2⟩:=QQ hb
     obtain⟨bk,h1,h2,h3⟩:=hI.heap j g' cs' d1
     have hne:bk≠blk:=by rintro rfl;rw[b2]at h2;cases h2;exact d2 rfl
     exact⟨bk,h1,by simp[G',hne,h2],h3.ev hf.ev rfl fun i=>hk _ (fun _ _ e=>by cases e)⟩
    next:=hI.next
    hlt:=fun j g' cs' hb=>hI.hlt j g' cs' (QQ hb).1
    new:=fun y hy=>by
     have hne:y≠blk:=qc
     simp only[G',hne,if_false]
     exact hI.new y hy
    vars:=fun y hy=>by
     by_cases hne:y=blk
     ·simp only[G',hne,if_true]at hy
      rcases hy with⟨_,_,hy⟩|⟨_,_,hy⟩<;>cases hy
     ·simp only[G',hne,if_false]at hy⊢
      exact hI.vars y hy
    lps:=hI.lps}
  ·have h':RelR G w (.ms b g off n z) v:=h
   show RelR G' w (.sl z (l.map ro1)) v
   cases h' with
   |ms _ _ _ _ _ cap blk' off' z' h2 h3 h4 h5 h6=>
   rw[b1]at h2;cases h2
   obtain⟨hle,rfl⟩:=zM hl
   by_cases hn:n=0
   ·subst hn
    rw[zkb]
    exact .sl0 z _ cap hz
   ·rw[h4 qc]
    have hll:(((cs.drop off).take (n*z)).map ro1).length=n*z:=qg
    refine .sl z _ n cap blk off ((arr.toList.drop off).take (n*z)) hz qc hll h3 (by simp[G'];omega) (by rw[hll];simp;omega) (fun k u hk'=>?_) (fun y hy=>?_) (fun k y u hy hu=>?_)
    ·rw[qR c1]
     rw[zij]at hk'
     split at hk'
     ·rw[zi0]at hk';simpa using hk'
     ·cases hk'
    ·obtain⟨q,hq,rfl⟩:=ziu.mp hy
     rw[qjm];exact zja.mp hv q hq
    ·obtain⟨q,hq,rfl⟩:=qr _ _ _ _ hy
     rw[zij]at hq hu
     split at hq
     ·rename_i hlt'
      rw[if_pos hlt',zi0]at hu
      rw[zi0]at hq
      exact((c3 (off+k) q u hq (by simpa using hu)).ro).ev hf.ev
     ·cases hq
 ·cases hx
  exact⟨G,Fr.refl G w,hI,fun q _ b hb=>⟨rfl,rfl,hb⟩,fun p v _ h=>h⟩
theorem qnq{t:Array Value}{sl:Slots}{bx:Boxes}:∀{cs cs':List AV} {hp hp':Hp} {G:Gh},Inv G w ⟨sl,bx,hp⟩ t->Xx hp cs=some (cs',hp')->
 ∃G',Fr G w G' w/\Inv G' w ⟨sl,bx,hp'⟩ t/\(∀q,qbz q->zA G w G' w q q)/\∀(p:Nat->Ow) (vs:List Value),(∀i,qbz (p i))->XB G w p cs vs->XB G' w p cs' vs
 |[],cs',hp,hp',G,hI,h=>by
  simp only[Xx]at h;cases h
  exact⟨G,Fr.refl G w,hI,fun q _ b hb=>⟨rfl,rfl,hb⟩,fun p vs _ h=>h⟩
 |x::r,cs',hp,hp',G,hI,h=>by
  simp only[Xx]at h
  obtain⟨q1,h1,h⟩:=bsm h
  obtain⟨q2,h2,h⟩:=bsm h
  cases h
  obtain⟨G1,f1,i1,k1,r1⟩:=qnr hI h1
  obtain⟨G2,f2,i2,k2,r2⟩:=qnq i1 h2
  have kk:∀q,qbz q->zA G w G2 w q q:=fun q hq b hb=>by
   obtain⟨_,a2,a3⟩:=k1 q hq b hb
   obtain⟨_,b2,b3⟩:=k2 q hq b a3
   exact⟨rfl,b2.trans a2,b3⟩
  refine⟨G2,f1.trans f2,i2,kk,fun p vs hp hr=>?_⟩
  obtain⟨l1,l2⟩:=hr
  match vs,l1,l2 with
  |v::vs,l1,l2=>
   have hx:=r1 (p 0) v (hp 0) (l2 0 x v rfl rfl)
   have hx2:jx G2 w (p 0) q1.1 v:=hx.ev f2.ev (k2 _ (hp 0))
   have hrest:XB G1 w (fun i=>p (i+1)) r vs:=⟨by simpa using l1,fun i y c hy hc=>(l2 (i+1) y c (by simpa using hy) (by simpa using hc)).ev f1.ev (k1 _ (hp _))⟩
   obtain⟨m1,m2⟩:=r2 (fun i=>p (i+1)) vs (fun i=>hp _) hrest
   refine⟨by simp[m1],fun i y c hy hc=>?_⟩
   cases i with
   |zero=>simp at hy hc;subst hy;subst hc;exact hx2
   |succ i=>exact m2 i y c (by simpa using hy) (by simpa using hc)
theorem qv4{hp hp':Hp}{x y:AV}(hx:kO hp x=some (y,hp'))(h:∀cs,x≠ .agg cs):∀cs,y≠ .agg cs:=by
 unfold kO at hx
 split at hx
 ·obtain⟨_,hz,hx⟩:=bsm hx
  obtain⟨cs,hcs,hx⟩:=bsm hx
  obtain⟨l,hl,hx⟩:=bsm hx
  obtain⟨_,hv,hx⟩:=bsm hx
  cases hx
  intro cs e;cases e
 ·cases hx;exact h
theorem zao{t:Array Value}{sl:Slots}{bx:Boxes}{hp hp':Hp}{k0:TK}{s s':SV}(hI:Inv G w ⟨sl,bx,hp⟩ t)(hx:qle k0 hp s=some (s',hp')):
 ∃G',Fr G w G' w/\Inv G' w ⟨sl,bx,hp'⟩ t/\(∀k v,qG G w k s v->qG G' w k s' v)/\∀k g off,s'= .lp k g off->s= .lp k g off:=by
 unfold qle at hx
 split at hx
 ·rename_i x
  split at hx
  ·obtain⟨cs,hcs,hx⟩:=bsm hx
   obtain⟨q,hq,hx⟩:=bsm hx
   cases hx
   have hxa:x= .agg cs:=by cases x<;>simp[VW,zbi]at hcs;rw[hcs]
   subst hxa
   obtain⟨G',h1,h2,h3,h4⟩:=qnq hI hq
   refine⟨G',h1,h2,fun k v hr=>?_,fun _ _ _ e=>by cases e⟩
   obtain⟨vs,e1,e2,e3⟩:=hr
   obtain⟨m1,m2⟩:=h4 (.sl k 0 ·) vs (fun i b g e=>by cases e) ⟨e2,e3⟩
   exact⟨vs,e1,m1,m2⟩
  ·obtain⟨q,hq,hx⟩:=bsm hx
   cases hx
   rcases ZO x with⟨cs,rfl⟩|hna
   ·have hq':some (AV.agg cs,hp)=some q:=hq
    cases hq'
    exact⟨G,Fr.refl G w,hI,fun k v h=>h,fun _ _ _ e=>by cases e⟩
   ·obtain⟨G',h1,h2,h3,h4⟩:=qnr hI hq
    refine⟨G',h1,h2,fun k v hr=>?_,fun _ _ _ e=>by cases e⟩
    have hr':zi G w (.sl k 0 ·) x v:=hr
    rw[kr hna]at hr'
    show zi G' w (.sl k 0 ·) q.1 v
    rw[kr (qv4 hq hna)]
    exact h4 _ v (fun b g e=>by cases e) hr'
 ·cases hx
  exact⟨G,Fr.refl G w,hI,fun k v h=>h,fun _ _ _ h=>h⟩
theorem Inv.reslot{t:Array Value}{sl:Slots}{bx:Boxes}{hp:Hp}{d:Option Nat}{s s':SV}(hI:Inv G w ⟨wt sl d s,bx,hp⟩ t)(hs:∀k,d=some k->qG G w k s' (t.getD k undef))
 (hl:∀k g off,s'= .lp k g off->s= .lp k g off):Inv G w ⟨wt sl d s',bx,hp⟩ t:=by
 cases d with
 |none=>exact hI
 |some d=>
  have key:∀k,d=k/\qA (wt sl (some d) s') k=s'/\qA (wt sl (some d) s) k=s\/qA (wt sl (some d) s') k=qA (wt sl (some d) s) k:=by
   intro k
   show d=k/\qA ((d,s')::sl) k=s'/\qA ((d,s)::sl) k=s\/qA ((d,s')::sl) k=qA ((d,s)::sl) k
   rw[ze,ze]
   by_cases e:d=k
   ·simp[e]
   ·simp[e]
  exact{
   slots:=fun k=>by
    rcases key k with⟨e0,e1,e2⟩|e
    ·show qG G w k (qA (wt sl (some d) s') k) _
     rw[e1]
     exact hs k (by rw[e0])
    ·show qG G w k (qA (wt sl (some d) s') k) _
     rw[e];exact hI.slots k
   boxes:=hI.boxes
   heap:=hI.heap
   next:=hI.next
   hlt:=hI.hlt
   new:=hI.new
   vars:=hI.vars
   lps:=fun j k g off h=>by
    have h':qA (wt sl (some d) s') j= .lp k g off:=h
    rcases key j with⟨_,e1,e2⟩|e
    ·rw[e1]at h'
     exact hI.lps j k g off (e2.trans (hl _ _ _ h'))
    ·rw[e]at h';exact hI.lps j k g off h'}
theorem qe5{h:Nat}{k0:TK}{s s':SV}{b:BE}{hp hp':Hp}{a':Act}(hA:jk G w a (after h o st s b hp) a' w')(hx:qle k0 hp s=some (s',hp')):
 jk G w a (after h o st s' b hp') a' w':=by
 obtain⟨G',h1,h2,h3,h4⟩:=hA
 obtain⟨G2,f1,f2,f3,f4⟩:=zao (sl:=wt (qz h o st.sl) o.dst s) (bx:=(after h o st s b hp).bx) h1 hx
 refine⟨G2,?_,h2.trans f1,h3,h4⟩
 refine Inv.reslot f2 (fun k hk=>f3 k _ ?_) f4
 have:=h1.slots k
 have e:(after h o st s b hp).sl=(k,s)::qz h o st.sl:=by simp[after,wt,hk]
 rw[e,ze,if_pos rfl]at this
 exact this
theorem qs3{sl:Slots}{bx:Boxes}{hp:Hp}{t:Array Value}(hI:Inv G w ⟨sl,bx,hp⟩ t){p:Nat->Ow}{sz:Nat}(hsz:0<sz){x:AV}{v:Value}{ys:List AV}(h:zi G w p x v)(hx:xg hp sz x=some ys):
 ∃(A:Option Addr) (m cap:Nat) (vs:List Value),v= .slice A m cap/\ys.length=m*sz/\vs.length=ys.length/\(0<m->∃B,A=some B/\∀(j:Nat) (u:Value),vs[j]?=some u->w.cell? (B.add j)=some u)/\
  ∀(k:Nat) (y:AV) (u:Value),ys[k]?=some y->vs[k]?=some u->RelR G w y u:=by
 unfold xg at hx
 split at hx
 ·rename_i q hq
  obtain⟨_,hz,hx⟩:=bsm hx
  obtain⟨cs,hcs,hx⟩:=bsm hx
  obtain⟨l,hl,hx⟩:=bsm hx
  cases hx
  have hz:=(qM hz).1
  have hy:=kK hq
  subst hy
  obtain⟨blk,cap,off',z,m1,m2,m4,m3,m5,m6⟩:=WD h
  obtain⟨hget,hg0⟩:=xa hcs
  obtain⟨blk',b1,b2,b3⟩:=hI.heap q.1 q.2.1 cs hget
  rw[m1]at b1;cases b1
  obtain⟨arr,e,c1,c2,c3⟩:=jU b3 hg0
  obtain⟨hle,rfl⟩:=zM hl
  have hll:(((cs.drop q.2.2.1).take (q.2.2.2.1*sz)).map ro1).length=q.2.2.2.1*sz:=qg
  refine⟨_,q.2.2.2.1,cap,(arr.toList.drop q.2.2.1).take (q.2.2.2.1*sz),m3,hll,by rw[hll];simp;omega,fun hpos=>⟨_,rfl,fun j u hu=>?_⟩,fun k y u hy hu=>?_⟩
  ·rw[m4 hpos,qS,qR c1]
   rw[zij]at hu
   split at hu
   ·rw[zi0]at hu;simpa using hu
   ·cases hu
  ·obtain⟨q',hq',rfl⟩:=qr _ _ _ _ hy
   rw[zij]at hq' hu
   split at hq'
   ·rename_i hlt'
    rw[if_pos hlt',zi0]at hu
    rw[zi0]at hq'
    exact(c3 _ q' u hq' (by simpa using hu)).ro
   ·cases hq'
 ·rcases qdh h hx with⟨rfl,rfl⟩|⟨A,n,cap,rfl,hr⟩
  ·exact⟨none,0,0,[],rfl,qe,rfl,fun h=>absurd h qc,qe⟩
  ·obtain⟨A',n',cap',e1,h2,h3,h4,h5⟩:=yy hr
   cases e1
   by_cases hn:0<n
   ·obtain⟨b,o,vs,rfl,_,hvl,hcell,hrel⟩:=h5 hn
    exact⟨_,n,cap,vs,rfl,h3,hvl,fun _=>⟨_,rfl,fun j u hu=>by rw[qS];exact hcell j u hu⟩,hrel⟩
   ·have hn0:n=0:=qc
    subst hn0
    have:ys=[]:=zi9.mp (by simpa using h3)
    subst this
    exact⟨_,0,cap,[],rfl,qe,rfl,fun h=>absurd h qc,qe⟩
theorem KF{P:Program}{t t' e ty:TypeId}{sz:Nat}(ht:P.underlying t=some (.slice e))(hz:∀w,(sizeOf e).run P w= .ok sz w){blk off n cap:Nat}{arr:Array Value}{e':TypeId}(hb:w.heap[blk]?=some (.cells arr e' (0,0)))
 {A:Option Addr} {m cap':Nat} {vs:List Value} (hv:vs.length=min m n*sz) (hsrc:0<min m n->∃B,A=some B/\∀(j:Nat) (u:Value),vs[j]?=some u->w.cell? (B.add j)=some u)
 (hfit:0<min m n->off+vs.length<=arr.size) (h1:∀u∈vs,u.oneCell'=true):
 ∃w',(Builtin.copy_ #[t,t'] ty #[.slice (some ⟨blk,off,none⟩) n cap,.slice A m cap']).run P w= .ok (.int .i64 (min m n:Nat)) w'/\(0<min m n->w'=w.setRow blk (arr.toList.take off++vs++arr.toList.drop (off+vs.length)).toArray)/\(min m n=0->w'=w):=by
 by_cases h0:min m n=0
 ·have hvs:vs=[]:=zi9.mp (by rw[hv,h0,zkb])
  refine⟨w,?_,fun h=>absurd h qc,fun _=>rfl⟩
  have hm:Nat.min m n=0:=h0
  cases A with
  |none=>simp[Builtin.copy_,run_underlying ht,hz,Builtin.lenOf,hm,Builtin.firstCells,storeCells,goInt,h0]
  |some B=>
   have hf:=run_firstCells_some (P:=P) w sz 0 B m cap' [] qe qe
   simp[Builtin.copy_,run_underlying ht,hz,Builtin.lenOf,hm,hf,storeCells,goInt,h0]
 ·obtain⟨B,rfl,hc⟩:=hsrc qc
  have hm:Nat.min m n=min m n:=rfl
  have hf:=run_firstCells_some (P:=P) w sz (min m n) B m cap' vs hv hc
  have hst:=run_storeCells_at P blk off e' vs 0 arr w hb (by have:=hfit qc;omega) h1
  simp only[zjo]at hst
  refine⟨_,?_,fun _=>rfl,fun h=>absurd h h0⟩
  simp only[Builtin.copy_,zis,zid,zi1]
  simp[run_underlying ht,hz,Builtin.lenOf,hm,hf,hst,goInt]
theorem qzo(hc:Ok c)(hI:Inv G w st a.tmps)(hd:jy o a)(h:Nat){cl:Call}(hop:o.op= .call cl)(hcl:cl.callee= .builtin .copy){x y:Operand}(hargs:cl.args=#[x,y]) {t t':TypeId} (hts:cl.argTypes=#[t,t'])
 {ti ei:TI} {e:TypeId} (hti:c.tn t=some ti) (hk:ti.k= .sl e) (hei:c.tn e=some ei) (hsz:0<ei.size) {d s:AV} (hx:zt st.sl x= .av d) (hy:zt st.sl y= .av s)
 {p:Nat×Nat×Nat×Nat×Nat} (hp:qN d=some p) (hpz:p.2.2.2.2=ei.size) {ys cs cs':List AV} (hys:xg st.hp ei.size s=some ys) (hcs:st.hp.rd p.1 p.2.1=some cs)
 (hput:qm cs p.2.2.1 (JF ei.size p.2.2.2.1 ys).2=some cs'):
 o.wp c.P a w (jk G w a (after h o st (.sv (.int .i64 ((JF ei.size p.2.2.2.1 ys).1:Nat))) none (st.hp.put p.1 p.2.1 cs'))) Q:=by
 obtain⟨dd,hd1,hd2⟩:=(hc.tt t ti (qp hti).1).und
 rw[hk]at hd2
 have hd2:dd= .slice e:=hd2
 subst hd2
 have hz:=(hc.tt e ei (qp hei).1).sizeOf (qp hei).2
 have hxr:=vz hI x
 have hyr:=vz hI y
 rw[hx]at hxr
 rw[hy]at hyr
 have hdm:=kK hp
 subst hdm
 obtain⟨blk,cap,off',z,m1,m2,m4,m3,m5,m6⟩:=WD (p:=fun i=>.sl (vG x) 0 i) hxr
 obtain⟨A,m,cap',vs,e1,e2,e3,e4,e5⟩:=qs3 (sl:=st.sl) (bx:=st.bx) (p:=fun i=>.sl (vG y) 0 i) hI hsz hyr hys
 obtain⟨hget,hg0⟩:=xa hcs
 obtain⟨blk',b1,b2,b3⟩:=hI.heap p.1 p.2.1 cs hget
 rw[m1]at b1;cases b1
 obtain⟨arr,e',c1,c2,c3⟩:=jU b3 hg0
 have hmany:jV ei.size ys=m:=Jt hsz e2
 have hcp:JF ei.size p.2.2.2.1 ys=(min m p.2.2.2.1,ys.take (min m p.2.2.2.1*ei.size)):=by simp[JF,hmany]
 rw[hcp]at hput⊢
 simp only at hput⊢
 have hk1:min m p.2.2.2.1*ei.size<=m*ei.size:=ziq _ (Nat.min_le_left _ _)
 have hyl:(ys.take (min m p.2.2.2.1*ei.size)).length=min m p.2.2.2.1*ei.size:=qg
 have hvl:(vs.take (min m p.2.2.2.1*ei.size)).length=min m p.2.2.2.1*ei.size:=qg
 obtain⟨hle,_⟩:=ka hput
 rw[hyl]at hle
 have hrel:∀(k:Nat) (y:AV) (u:Value),(ys.take (min m p.2.2.2.1*ei.size))[k]?=some y->(vs.take (min m p.2.2.2.1*ei.size))[k]?=some u->RelR G w y u:=by
  intro k y u hy hu
  rw[zij]at hy hu
  split at hy
  ·rename_i hq;rw[if_pos hq]at hu;exact e5 k y u hy hu
  ·cases hy
 have h1:∀u∈vs.take (min m p.2.2.2.1*ei.size),u.oneCell'=true:=by
  intro u hu
  obtain⟨k,hk',rfl⟩:=zky hu
  have hk2:k<(ys.take (min m p.2.2.2.1*ei.size)).length:=by rw[hyl,<-hvl];exact hk'
  exact(hrel k _ _ (zic hk2) (zic hk')).one
 obtain⟨w',hr,hw1,hw2⟩:=KF (P:=c.P) (t':=t') (ty:=o.type) (n:=p.2.2.2.1) (cap:=cap) (m:=m) (cap':=cap') (A:=A) (off:=off') hd1 hz c1 hvl (fun hpos=>by
  obtain⟨B,hB,hc⟩:=e4 qc
  refine⟨B,hB,fun j u hu=>hc j u ?_⟩
  rw[zij]at hu
  split at hu
  ·exact hu
  ·cases hu) (fun hpos=>by rw[m4 qc,hvl];omega) h1
 have hrun:(execOp a.eval o).run c.P w= .ok (.value (.int .i64 (min m p.2.2.2.1:Nat))) w':=by
  rw[jl hcl hop rfl,hargs,hts]
  simp only[Go.builtin,zll,zjc,zkc,m3,e1]
  rw[Sem.run_bind,hr];rfl
 have hdn:qz h o st.sl=st.sl:=by simp[qz,qL,hop,hcl,qB]
 obtain⟨s1,s2⟩:=kh (G:=G) (w:=w) (p:=fun i=>.oc p.1 p.2.1 i) (f:=fun i=>.oc p.1 p.2.1 (p.2.2.1+i)) (us:=vs.take (min m p.2.2.2.1*ei.size)) hput c2 (by rw[hyl,hvl]) c3 (fun k y u hy hu=>(hrel k y u hy hu).c _) (fun i=>rfl)
 have hwr:Wr w w' blk (arr.toList.take p.2.2.1++vs.take (min m p.2.2.2.1*ei.size)++arr.toList.drop (p.2.2.1+(vs.take (min m p.2.2.2.1*ei.size)).length)).toArray e':=by
  by_cases h0:min m p.2.2.2.1=0
  ·rw[hw2 h0]
   have e9:(arr.toList.take p.2.2.1++vs.take (min m p.2.2.2.1*ei.size)++arr.toList.drop (p.2.2.1+(vs.take (min m p.2.2.2.1*ei.size)).length)).toArray=arr:=by
    rw[h0,zkb];simp
   rw[e9]
   exact⟨rfl,c1,fun _ _=>rfl,⟨rfl,rfl,rfl⟩,fun _ h=>h⟩
  ·rw[hw1 qc,m4 qc]
   exact jG w c1 (by rw[hvl];omega)
 obtain⟨hI2,hf2⟩:=hI.writeObj hg0 hget m1 b2 hwr s1 s2
 refine qq hrun ⟨G,?_,hf2,qZ _ _ _,qD _ _ _⟩
 unfold after
 rw[hdn]
 exact hI2.put o.dst hd (fun k _=>⟨rfl,rfl⟩) (fun _ _ _ e=>by cases e)
end
def qq7(d:TypeDesc)(k:Value):Prop:=
 match d,k with
 | .int _,.int _ _=>True
 | .string,.string _=>True
 | .bool,.bool _=>True
 |_,_=>False
theorem qvm{c:Cx}(hc:Ok c){t:TypeId}{ti:TI}(hti:c.tt t=some ti){k:Value}(h:qei ti k=true):∃d,c.P.underlying t=some d/\qq7 d k:=by
 cases k<;>simp only[qei]at h<;>try cases h
 ·exact⟨_,hc.tb t ti hti h,trivial⟩
 ·obtain⟨q,hq⟩:=hc.ti t ti hti h
  exact⟨_,hq,trivial⟩
 ·exact⟨_,(hc.tt t ti hti).2.1 h,trivial⟩
theorem qfn{d:TypeDesc}{k q:Value}{t:Bool}(hd:qq7 d k)(h:vH k q=some t):Instr.sameNow d k q=some t:=by
 cases d<;>cases k<;>first|exact hd.elim|skip
 all_goals
  cases q<;>first|(simp only[vH]at h;cases h;done)|exact h
theorem qk6{k q:Value}(h:vH k q=some true):k=q:=by
 cases k<;>cases q<;>simp only[vH]at h<;>try cases h
 ·rename_i a b;have:=zit h;rw[eq_of_beq this]
 ·rename_i j a k b
  split at h
  ·rename_i e;subst e;rw[eq_of_beq (zit h)]
  ·cases h
 ·rename_i a b;rw[(MapKept.bytes_beq a b).mp (zit h)]
theorem xO{P:Program}{w:World}{kt:TypeId}{d:TypeDesc}{k:Value}(hd:P.underlying kt=some d)(hk:qq7 d k)(e:Bool):(Instr.checkKey e 10000 kt k).run P w= .ok () w:=by
 rw[show(10000:Nat)=9999+1 from rfl]
 unfold Instr.checkKey
 simp only[Sem.run_bind,run_underlying hd,Result.andThen]
 cases d<;>cases k<;>first|exact hk.elim|rfl
section
variable {c:Cx}{G:Gh}{w w':World}{st:St}{a:Act}{o:Oper}{Q:Exit->Act->World->Prop}
theorem qbc{d:TypeDesc}{k:Value}(hd:qq7 d k):∀(cs:List AV) (es:List MapEntry) (i:Nat) (f:Option AV),cs.length=es.length->(∀(j:Nat) (x:AV) (e:MapEntry),cs[j]?=some x->es[j]?=some e->Wa G w x e)->
 Zj k cs=some f->∃r,Instr.findNow d k es i=some r/\((f=none/\r=none)\/∃x n v,f=some x/\r=some (n,v)/\XC G w x v)
 |[],[],i,f,_,_,h=>by simp only[Zj]at h;cases h;exact⟨none,rfl,.inl ⟨rfl,rfl⟩⟩
 |x::cs,[],i,f,hl,_,_=>by simp at hl
 |[],e::es,i,f,hl,_,_=>by simp at hl
 |x::cs,e::es,i,f,hl,hr,h=>by
  have he:=hr 0 x e rfl rfl
  unfold Wa at he
  split at he
  ·rename_i q y
   obtain⟨h1,h2,h3⟩:=he
   simp only[Zj]at h
   obtain⟨t,ht,h⟩:=bsm h
   have hs:=qfn hd ht
   rw[<-h1]at hs
   cases t with
   |true=>
    cases h
    exact⟨some (i,e.val),by simp[Instr.findNow,hs],.inr ⟨y,i,e.val,rfl,rfl,h3⟩⟩
   |false=>
    obtain⟨r,r1,r2⟩:=qbc hd cs es (i+1) f (by simpa using hl) (fun j x e hx he=>hr (j+1) x e (by simpa using hx) (by simpa using he)) h
    exact⟨r,by simp[Instr.findNow,hs,r1],r2⟩
  ·exact he.elim
theorem qgt{d:TypeDesc}{k:Value}{v:AV}(hd:qq7 d k):∀(cs:List AV) (es:List MapEntry) (i:Nat) (cs':List AV),cs.length=es.length->(∀(j:Nat) (x:AV) (e:MapEntry),cs[j]?=some x->es[j]?=some e->Wa G w x e)->
 KT k v cs=some cs'->(Instr.findNow d k es i=some none/\cs'=cs++[.tup [.sc k,v]])\/
  ∃j e,Instr.findNow d k es i=some (some (i+j,e.val))/\es[j]?=some e/\e.key=k/\cs'.length=cs.length/\cs'[j]?=some (.tup [.sc k,v])/\∀j',j'≠j->cs'[j']?=cs[j']?
 |[],[],i,f,_,_,h=>by simp only[KT]at h;cases h;exact .inl ⟨rfl,rfl⟩
 |x::cs,[],i,f,hl,_,_=>by simp at hl
 |[],e::es,i,f,hl,_,_=>by simp at hl
 |x::cs,e::es,i,f,hl,hr,h=>by
  have he:=hr 0 x e rfl rfl
  unfold Wa at he
  split at he
  ·rename_i q y
   obtain⟨h1,h2,h3⟩:=he
   simp only[KT]at h
   obtain⟨t,ht,h⟩:=bsm h
   have hs:=qfn hd ht
   rw[<-h1]at hs
   cases t with
   |true=>
    cases h
    have hkq:=qk6 ht
    refine .inr ⟨0,e,by simp[Instr.findNow,hs],rfl,by rw[h1,hkq],rfl,by rw[hkq];rfl,fun j' hj=>?_⟩
    cases j' with
    |zero=>exact absurd rfl hj
    |succ j'=>rfl
   |false=>
    cases hp:KT k v cs with
    |none=>rw[hp]at h;cases h
    |some l=>
     rw[hp]at h
     cases h
     rcases qgt hd cs es (i+1) l (by simpa using hl) (fun j x e hx he=>hr (j+1) x e (by simpa using hx) (by simpa using he)) hp with⟨r1,r2⟩|⟨j,e',r1,r2,r3,r4,r5,r6⟩
     ·exact .inl ⟨by simp[Instr.findNow,hs,r1],by rw[r2];rfl⟩
     ·refine .inr ⟨j+1,e',by simp[Instr.findNow,hs,r1];omega,by simpa using r2,r3,by simp[r4],by simpa using r5,fun j' hj=>?_⟩
      cases j' with
      |zero=>rfl
      |succ j'=>simpa using r6 j' qc
  ·exact he.elim
theorem XC.v{x:AV}{v:Value}(h:XC G w x v)(p:Nat->Ow):zi G w p x v:=by
 rcases ZO x with⟨cs,rfl⟩|hx
 ·obtain⟨vs,h1,h2,h3⟩:=h
  exact⟨vs,h1,h2,fun i x c hx hc=>(h3 i x c hx hc).c _⟩
 ·have h':RelR G w x v:=by
   cases x<;>first|exact h|exact absurd rfl (hx _)
  exact jx.v (h'.c _)
theorem zi.f{x:AV}{v:Value}{p:Nat->Ow}(h:zi G w p x v):XC G w (AI.ro x) v:=by
 rcases ZO x with⟨cs,rfl⟩|hx
 ·obtain⟨vs,h1,h2,h3⟩:=h
  refine⟨vs,h1,by simpa using h2,fun i y c hy hc=>?_⟩
  obtain⟨z,hz,rfl⟩:=qr _ _ _ _ hy
  exact(h3 i z c hz hc).ro
 ·rw[kr hx]at h
  rw[qgg hx]
  have:=h.ro
  cases x<;>first|exact this|exact absurd rfl (hx _)
theorem qk0(hI:Inv G w st a.tmps){x:AV}{p:Nat->Ow}{v:Value}(hr:zi G w p x v){b:Nat}(hb:wF x=some b){cs:List AV}(hcs:st.hp.rdM b=some cs):
 ∃blk es clock,v= .map (some blk)/\G.mu b 1=some blk/\G.Om blk= .obj b 1/\w.heap[blk]?=some (.map es clock)/\es.size=cs.length/\∀(i:Nat) (x:AV) (e:MapEntry),cs[i]?=some x->es[i]?=some e->Wa G w x e:=by
 have hx:x= .map b:=by cases x<;>simp[wF]at hb;rw[hb]
 subst hx
 have hr':RelR G w (.map b) v:=hr
 cases hr' with
 |map _ blk hm=>
 obtain⟨blk',b1,b2,b3⟩:=hI.heap b 1 cs (qgr hcs)
 rw[hm]at b1;cases b1
 have b3:qiz G w blk cs:=b3
 obtain⟨es,clock,e1,e2,e3⟩:=b3
 exact⟨blk,es,clock,rfl,hm,b2,e1,e2,e3⟩
theorem qzl(hc:Ok c)(hI:Inv G w st a.tmps)(hd:jy o a)(h:Nat){cl:Call}(hop:o.op= .call cl)(hcl:cl.callee= .builtin .len){x:Operand}(hargs:cl.args=#[x]) {t:TypeId} (hts:cl.argTypes=#[t])
 {ti:TI} {q e:TypeId} (hti:c.tn t=some ti) (hk:ti.k= .mp q e) {y:AV} (hx:zt st.sl x= .av y) {b:Nat} (hb:wF y=some b) {cs:List AV} (hcs:st.hp.rdM b=some cs):
 o.wp c.P a w (jk G w a (after h o st (.sv (.int .i64 cs.length)) none st.hp)) Q:=by
 obtain⟨d,hd1,hd2⟩:=(hc.tt t ti (qp hti).1).und
 rw[hk]at hd2
 have hd2:d= .map q e:=hd2
 subst hd2
 have hxr:=vz hI x
 rw[hx]at hxr
 obtain⟨blk,es,clock,e1,m1,m2,m3,m4,m5⟩:=qk0 (p:=fun i=>.sl (vG x) 0 i) hI hxr hb hcs
 refine vc hI h (by simp[qz,hop]) hd rfl ?_
 rw[jl hcl hop rfl,hargs,hts]
 simp[Go.builtin,e1,Builtin.len_,run_underlying hd1,MapKept.run_getObj_map m3,goInt,m4]
theorem qkm(hI:Inv G w st a.tmps)(hd:jy o a)(h:Nat){t:TypeId}(hop:o.op= .makeMap t none):
 o.wp c.P a w (jk G w a (after h o st (.av (.map st.hp.next)) none st.hp.newM)) Q:=by
 have hrun:(execOp a.eval o).run c.P w= .ok (.value (.map (some w.heap.size))) {w with heap:=w.heap.push (.map #[] 0)}:=by
  simp only[execOp,hop,Option.map_none]
  rfl
 have hw:New w {w with heap:=w.heap.push (.map #[] 0)} (.map #[] 0):=⟨rfl,rfl,rfl,rfl⟩
 refine qq hrun ?_
 have ho:qz h o st.sl=st.sl:=by simp[qz,qL,hop,qB]
 let mu:Nat->Nat->Option Nat:=fun b g=>if b=st.hp.next/\g=1 then some w.heap.size else G.mu b g
 let G':=G.add w.heap.size (.obj st.hp.next 1) 0 mu G.la
 have hmu:∀b g x,G.mu b g=some x->mu b g=some x:=by
  intro b g x hx
  have hne:¬(b=st.hp.next/\g=1):=by
   rintro⟨rfl,rfl⟩
   rw[hI.next _ 1 (zif _)]at hx;cases hx
  simp[mu,hne,hx]
 have hf:Fr G w G' _:=Fr.new hI hw (.obj st.hp.next 1) 0 hmu
 have hk:=fun{p:Ow} (hp:p≠ .fr)=>QJ hI hw (.obj st.hp.next 1) 0 mu G.la hp
 have hI':Inv G' {w with heap:=w.heap.push (.map #[] 0)} ⟨st.sl,st.bx,st.hp.newM⟩ a.tmps:={
  slots:=fun k=>qG.ev hf.ev (fun j i=>hk qe) (fun _ _ _ _ _ h=>h) (hI.slots k)
  boxes:=fun k g cs h=>by
   obtain⟨blk,h1,h2,h3⟩:=hI.boxes k g cs h
   have hb:=hI.lt h2 qe
   exact⟨blk,h1,by simp[G',Gh.add,zkd hb,h2],h3.ev hf.ev (hw.old hb) fun i=>hk qe⟩
  heap:=fun k g cs' hg=>by
   have hg':(if k=st.hp.next then some (1,[])else st.hp.get k)=some (g,cs'):=hg
   split at hg'
   ·rename_i e;subst e
    cases hg'
    refine⟨w.heap.size,by simp[G',Gh.add,mu],by simp[G',Gh.add],?_⟩
    show qiz G' _ w.heap.size []
    exact⟨#[],0,hw.at,rfl,qe⟩
   ·rename_i hne
    obtain⟨blk,h1,h2,h3⟩:=hI.heap k g cs' hg'
    have hb:=hI.lt h2 qe
    have hne':¬(k=st.hp.next/\g=1):=fun e=>hne e.1
    exact⟨blk,by simp[G',Gh.add,mu,hne',h1],by simp[G',Gh.add,zkd hb,h2],h3.ev hf.ev (hw.old hb) fun i=>hk qe⟩
  next:=fun b g hb=>by
   have hb':st.hp.next+1<=b:=hb
   have hne:¬(b=st.hp.next/\g=1):=fun e=>qc
   show mu b g=none
   simp only[mu,hne,if_false]
   exact hI.next b g qc
  hlt:=fun b g cs' hg=>by
   have hg':(if b=st.hp.next then some (1,[])else st.hp.get b)=some (g,cs'):=hg
   show b<st.hp.next+1
   split at hg'
   ·omega
   ·have:=hI.hlt b g cs' hg';omega
  new:=fun b hb=>by
   rw[hw.size]at hb
   have hne:b≠w.heap.size:=qc
   simp only[G',Gh.add,hne,if_false]
   exact hI.new b qc
  vars:=fun b hb=>by
   by_cases e:b=w.heap.size
   ·simp[G',Gh.add,e]
   ·simp only[G',Gh.add,e,if_false]at hb⊢
    exact hI.vars b hb
  lps:=hI.lps}
 refine⟨G',?_,hf,qZ _ _ _,qD _ _ _⟩
 unfold after
 rw[ho]
 exact hI'.put o.dst hd (fun k _=>RelR.map _ _ (by simp[G',Gh.add,mu])) (fun _ _ _ e=>by cases e)
theorem qoc(hc:Ok c){t:TypeId}{ti:TI}(hti:c.tn t=some ti):∃z,(∀w,(zeroValue t).run c.P w= .ok z w)/\XC G w (Kh ti) z:=by
 obtain⟨i,z,i1,i2,i3,i4,i5,i6,i7⟩:=(hc.tt t ti (qp hti).1).info (qp hti).2
 obtain⟨z1,z2⟩:=hc.zf t ti (qp hti).1 (qp hti).2 i z i1 i4
 refine⟨z,fun w=>by simp[zeroValue,typeInfo,i1,i4],?_⟩
 unfold Kh
 cases hag:yJ ti.k with
 |true=>
  obtain⟨vs,rfl⟩:=z1 hag
  simp only[if_true]
  refine⟨ti.zero,by rw[<-i5];simp[Value.cells],by simp[zJ],fun k x u hx hu=>?_⟩
  obtain⟨y,hy,rfl⟩:=qr _ _ _ _ hx
  rw[hy]at hu;cases hu
  exact .sc _ (i7 _ (zig hy))
 |false=>
  have h1:=z2 hag
  have hz:ti.zero=[z]:=by rw[<-i5,YG h1]
  rw[hz]
  show XC G w (.sc z) z
  exact RelR.sc z h1
theorem qpr(hc:Ok c)(hI:Inv G w st a.tmps)(hd:jy o a)(h:Nat){t:TypeId}{x i:Operand}{ok:Bool}(hop:o.op= .lookup t x i ok){r:SV×BE×Hp}
 (hr:(xQ c t (zt st.sl x) (zt st.sl i) ok st.hp fun s=>some (s,(none:BE),st.hp))=some r):o.wp c.P a w (jk G w a (after h o st r.1 r.2.1 r.2.2)) Q:=by
 unfold xQ at hr
 simp only[qa4]at hr
 split at hr
 ·rename_i ti hti
  split at hr
  ·rename_i kt et hk
   split at hr
   ·rename_i ki ei hki hei
    obtain⟨x',hx,hr⟩:=bsm hr
    obtain⟨b,hb,hr⟩:=bsm hr
    obtain⟨cs,hcs,hr⟩:=bsm hr
    obtain⟨k,hkv,hr⟩:=bsm hr
    obtain⟨_,hkt,hr⟩:=bsm hr
    obtain⟨f,hf,hr⟩:=bsm hr
    obtain⟨s,hs,hr⟩:=bsm hr
    cases hr
    obtain⟨d,hd1,hd2⟩:=(hc.tt t ti (qp hti).1).und
    rw[hk]at hd2
    have hd2:d= .map kt et:=hd2
    subst hd2
    obtain⟨dk,hdk,hkd⟩:=qvm hc (qp hki).1 (vO hkt)
    have hxr:=ya (vz hI x) hx
    obtain⟨blk,es,clock,e1,m1,m2,m3,m4,m5⟩:=qk0 (p:=fun i=>.sl (vG x) 0 i) hI hxr hb hcs
    obtain⟨rr,r1,r2⟩:=qbc hkd cs es.toList 0 f (by simp[m4]) (fun j x e hx he=>m5 j x e hx (by simpa using he)) hf
    obtain⟨z,z1,z2⟩:=qoc (G:=G) (w:=w) hc hei
    have hik:=(yq hI (ju hkv)).1
    have key:∃v,XC G w (orA f (Kh ei)) v/\(Instr.lookup t (a.eval x) (a.eval i) ok).run c.P w= .ok (if ok then .tuple #[v,.bool (isS f)]else v) w:=by
     rw[e1,hik]
     rcases r2 with⟨rfl,rfl⟩|⟨y,n,v,rfl,rfl,hv⟩
     ·refine⟨z,z2,?_⟩
      simp[Instr.lookup,run_underlying hd1,MapKept.run_getObj_map m3,xO hdk hkd,MapKept.run_findKey hdk r1,z1,isS]
     ·refine⟨v,hv,?_⟩
      simp[Instr.lookup,run_underlying hd1,MapKept.run_getObj_map m3,xO hdk hkd,MapKept.run_findKey hdk r1,isS]
    obtain⟨v,hv,hrun⟩:=key
    refine qq (v:=if ok then .tuple #[v,.bool (isS f)]else v) (w':=w) ?_ (qy hI h (by simp[qz,hop]) hd (fun k=>?_) (fun _ _ _ e=>(?_:False).elim))
    ·simp only[execOp,hop]
     rw[Sem.run_bind,hrun];rfl
    ·unfold qnf at hs
     cases ok with
     |true=>
      cases hs
      refine⟨[v,.bool (isS f)],rfl,rfl,fun j y u hy hu=>?_⟩
      match j,hy,hu with
      |0,hy,hu=>simp at hy hu;subst hy;subst hu;exact hv.v _
      |1,hy,hu=>simp at hy hu;subst hy;subst hu;exact RelR.sc _ rfl
      |j+2,hy,hu=>simp at hy
     |false=>
      simp only[ofA]at hs
      split at hs
      ·obtain⟨u,hu,hs⟩:=bsm hs
       cases hs
       rw[yX hu]at hv
       have hv':RelR G w (.sc u) v:=hv
       cases hv' with
       |sc _ h1=>exact⟨rfl,h1⟩
      ·cases hs
       exact hv.v _
    ·have e:s=_:=e
     rw[e]at hs
     unfold qnf ofA at hs
     split at hs
     ·cases hs
     ·split at hs
      ·obtain⟨u,hu,hs⟩:=bsm hs
       cases hs
      ·cases hs
   ·cases hr
  ·cases hr
 ·cases hr
theorem qvn(P:Program)(w:World){d:TypeDesc}{k:Value}(hk:qq7 d k):(Instr.keyThatStays k k).run P w= .ok k w:=by
 have:Instr.sameBits 10000 k k=true:=by
  rw[show(10000:Nat)=9999+1 from rfl]
  cases d<;>cases k<;>first|exact hk.elim|(simp[Instr.sameBits];done)|skip
  rename_i s
  exact(MapKept.bytes_beq s s).mpr rfl
 simp[Instr.keyThatStays,this]
theorem qpq(hc:Ok c)(hI:Inv G w st a.tmps)(hd:jy o a)(h:Nat){t:TypeId}{m k x:Operand}(hop:o.op= .mapUpdate t m k x){r:SV×BE×Hp}
 (hr:(QH c t (zt st.sl m) (zt st.sl k) (zt st.sl x) st.hp fun q=>some (SV.un,(none:BE),q))=some r):o.wp c.P a w (jk G w a (after h o st r.1 r.2.1 r.2.2)) Q:=by
 unfold QH at hr
 split at hr
 ·rename_i ti hti
  split at hr
  ·rename_i kt et hk
   split at hr
   ·rename_i ki ei hki hei
    obtain⟨m',hm,hr⟩:=bsm hr
    obtain⟨b,hb,hr⟩:=bsm hr
    obtain⟨cs,hcs,hr⟩:=bsm hr
    obtain⟨kv,hkv,hr⟩:=bsm hr
    obtain⟨_,hkt,hr⟩:=bsm hr
    obtain⟨v,hv,hr⟩:=bsm hr
    obtain⟨cs',hput,hr⟩:=bsm hr
    cases hr
    obtain⟨d,hd1,hd2⟩:=(hc.tt t ti (qp hti).1).und
    rw[hk]at hd2
    have hd2:d= .map kt et:=hd2
    subst hd2
    obtain⟨dk,hdk,hkd⟩:=qvm hc (qp hki).1 (vO hkt)
    have hmr:=ya (vz hI m) hm
    obtain⟨blk,es,clock,e1,m1,m2,m3,m4,m5⟩:=qk0 (p:=fun i=>.sl (vG m) 0 i) hI hmr hb hcs
    obtain⟨hik,hone⟩:=yq hI (ju hkv)
    have hvr:XC G w v (a.eval x):=by
     have hxr:=vz hI x
     cases hs:zt st.sl x with
     |sv u=>
      rw[hs]at hv hxr
      cases hv
      obtain⟨e2,e3⟩:=hxr
      rw[e2];exact RelR.sc u e3
     |av y=>
      rw[hs]at hv hxr
      cases hv
      exact zi.f (p:=fun i=>.sl (vG x) 0 i) hxr
     |_=>rw[hs]at hv;cases hv
    have hdn:qz h o st.sl=st.sl:=by simp[qz,qL,hop,qB]
    have fin:∀(es':Array MapEntry) (clock':Nat),es'.size=cs'.length->(∀(j:Nat) (y:AV) (e:MapEntry),cs'[j]?=some y->es'[j]?=some e->Wa G w y e)->
     (execOp a.eval o).run c.P w= .ok .skip {w with heap:=w.heap.setIfInBounds blk (.map es' clock')}->
     o.wp c.P a w (jk G w a (after h o st .un none (st.hp.put b 1 cs'))) Q:=by
     intro es' clock' h1 h2 hrun
     obtain⟨s1,s2⟩:=MapKept.heap_set (o':=.map es' clock') m3
     have hwr:WrM w {w with heap:=w.heap.setIfInBounds blk (.map es' clock')} blk (.map es' clock'):=
      ⟨qe,s1,s2,⟨rfl,rfl,rfl⟩,fun z hz=>by simp[VK,m3]at hz⟩
     obtain⟨hI2,hf2⟩:=hI.writeOb (qgr hcs) m1 m2 hwr fun hf hk=>by
      show qiz G _ blk cs'
      exact⟨es',clock',s1,h1,fun j y e hy he=>(h2 j y e hy he).ev hf.ev⟩
     refine Kj hrun ⟨G,?_,hf2,qZ _ _ _,qD _ _ _⟩
     unfold after
     rw[hdn]
     exact qkj o.dst hI2 hd undef
    rcases qgt (v:=v) hkd cs es.toList 0 cs' (by simp[m4]) (fun j x e hx he=>m5 j x e hx (by simpa using he)) hput with⟨r1,r2⟩|⟨j,e,r1,r2,r3,r4,r5,r6⟩
    ·refine fin (es.push {key:=kv,val:=a.eval x,born:=clock}) (clock+1) (by rw[r2];simp[m4]) (fun j y e hy he=>?_) ?_
     ·rw[r2]at hy
      rw[zmb]at he
      by_cases hj:j=es.size
      ·rw[if_pos hj]at he
       cases he
       rw[hj,m4,zil (zif _)]at hy
       simp at hy
       subst hy
       exact⟨rfl,hone,hvr⟩
      ·rw[if_neg hj]at he
       have hlt:=(zj7.mp he).1
       rw[zin qc]at hy
       exact m5 j y e hy he
     ·simp only[execOp,hop,e1,hik]
      simp[Instr.mapUpdate,run_underlying hd1,MapKept.run_getObj_map m3,xO hdk hkd,MapKept.run_findKey hdk r1,MapKept.run_setObj_map _ m3]
    ·rw[ziw]at r1
     have hej:es[j]?=some e:=by simpa using r2
     refine fin (es.modify j fun e=>{e with key:=kv,val:=a.eval x}) clock (by simp[m4,r4]) (fun j' y e' hy he=>?_) ?_
     ·rw[zl4]at he
      by_cases hj:j=j'
      ·subst hj
       rw[r5]at hy
       cases hy
       rw[if_pos rfl,hej]at he
       cases he
       exact⟨rfl,hone,hvr⟩
      ·rw[if_neg hj]at he
       rw[r6 j' (fun e=>hj e.symm)]at hy
       exact m5 j' y e' hy he
     ·simp only[execOp,hop,e1,hik]
      have hks:=qvn c.P w hkd
      simp[Instr.mapUpdate,run_underlying hd1,MapKept.run_getObj_map m3,xO hdk hkd,MapKept.run_findKey hdk r1,MapKept.run_setObj_map _ m3,hej,r3,hks]
   ·cases hr
  ·cases hr
 ·cases hr
end
section
variable {c:Cx}{G:Gh}{w w':World}{st:St}{a:Act}{o:Oper}{Q:Exit->Act->World->Prop}
theorem vd{P:Program}{t e:TypeId}(h:yO P t=some e):∃i,P.info? t=some i/\i.desc= .slice e:=by
 unfold yO at h
 obtain⟨i,hi,h⟩:=bsm h
 split at h
 ·rename_i e' he
  cases h
  exact⟨i,hi,he⟩
 ·cases h
theorem Ja{p:Nat->Ow}{y:AV}{v:Value}(h:zi G w p y v)(hy:vr y=true):RelR G w y v/\∃A n cap,v= .slice A n cap/\zd y=some n:=by
 cases y with
 |ms b g off n sz=>
  have h':RelR G w (.ms b g off n sz) v:=h
  refine⟨h',?_⟩
  cases h' with
  |ms _ _ _ _ _ cap blk off' z _ _ _ _ _=>exact⟨_,n,cap,rfl,rfl⟩
 |sl sz cs=>
  have h':RelR G w (.sl sz cs) v:=h
  refine⟨h',?_⟩
  cases h' with
  |sl0 _ a cap h0=>exact⟨_,0,cap,rfl,by simp[zd]⟩
  |sl _ _ n cap b o vs h0 h1 h2=>
   refine⟨_,n,cap,rfl,?_⟩
   have:=Jt h0 h2
   unfold jV at this
   show some (if sz=1 then cs.length else cs.length/sz)=some n
   rw[this]
 |sc u=>
  have h':RelR G w (.sc u) v:=h
  refine⟨h',?_⟩
  have:=xq hy
  subst this
  cases h'
  exact⟨none,0,0,rfl,rfl⟩
 |_=>simp[vr]at hy
theorem qd3(hI:Inv G w st a.tmps)(hd:jy o a)(h:Nat){t:TypeId}{x:Operand}(hop:o.op= .makeInterface t x){e:TypeId}(ht:yO c.P t=some e){y:AV}(hy:XF (zt st.sl x).ro=some y)(hs:vr y=true):
 o.wp c.P a w (jk G w a (after h o st (.av (.ifc t y)) none st.hp)) Q:=by
 obtain⟨i,hi,hdesc⟩:=vd ht
 have hr:=ya (qG.ro (Ev.refl G w) 0 (fun _ _ _ _ _ h=>h) (vz hI x)) hy
 obtain⟨hr,_⟩:=Ja hr hs
 have hu:c.P.underlying t=some (.slice e):=Lib.rl_underlying t e i hi hdesc
 refine qq (v:=.iface t (a.eval x)) (w':=w) ?_ (qy hI h (by simp[qz,hop]) hd (fun k=>(RelR.ifc t y _ hr).s k) (fun _ _ _ e=>by cases e))
 simp only[execOp,hop]
 simp[Instr.makeInterface,run_underlying hu]
theorem zhd(fn:Func)(h1:fn.name= "internal/reflectlite.ValueOf")(h2:fn.origin= ""):Extern.findNext fn=none/\Extern.find fn=some (fun args=>Extern.ReflectliteValue.unpack (args.getD 0 (.tuple #[]))):=by
 unfold Extern.findNext Extern.find
 rw[h1,h2]
 exact⟨qd,qd⟩
theorem zeo(fn:Func)(h1:fn.name= "internal/reflectlite.Swapper")(h2:fn.origin= ""):Extern.findNext fn=none/\Extern.find fn=some (Extern.ReflectliteSwapper.swapper "internal/reflectlite" (Extern.ReflectliteValue.valueError "Swapper")):=by
 unfold Extern.findNext Extern.find
 rw[h1,h2]
 exact⟨qd,qd⟩
theorem zep(fn:Func)(h1:fn.name= "(internal/reflectlite.Value).Len")(h2:fn.origin= ""):Extern.findNext fn=none/\Extern.find fn=some (Extern.ReflectliteValue.method (Extern.ReflectliteValue.valueError "reflectlite.Value.Len" 0) Extern.ReflectliteValue.len):=by
 unfold Extern.findNext Extern.find
 rw[h1,h2]
 exact⟨qd,qd⟩
theorem zas(fn:Func)(h1:fn.name∈qx6)(h2:fn.origin= ""):Extern.findNext fn=none/\∃g,Extern.find fn=some (Extern.ReflectliteSwapper.swap g):=by
 unfold Extern.findNext Extern.find
 rw[h2]
 simp only[qx6,zie,zla,or_false]at h1
 rcases h1 with h|h|h|h|h|h|h<;>rw[h]
 ·exact⟨qd,true,qd⟩
 ·exact⟨qd,true,qd⟩
 ·exact⟨qd,true,qd⟩
 ·exact⟨qd,true,qd⟩
 ·exact⟨qd,true,qd⟩
 ·exact⟨qd,true,qd⟩
 ·exact⟨qd,false,qd⟩
theorem qsp{P:Program}{L:List AV}{hp:Hp}{p:AV×Hp}(h:voA P L hp=some p):∃t y e,L=[.ifc t y]/\yO P t=some e/\vr y=true/\p=(.agg [.sc (typeHandle P t),.ptr hp.next 0 0,.sc (.int .u64 151)],hp.new [y]):=by
 unfold voA at h
 split at h
 ·obtain⟨e,he,h⟩:=bsm h
  obtain⟨_,hs,h⟩:=bsm h
  cases h
  exact⟨_,_,e,rfl,he,qM hs,rfl⟩
 ·cases h
theorem qog{P:Program}{L:List AV}{hp:Hp}{p:AV×Hp}(h:zcv P L hp=some p):∃t y e ie ke n f,L=[.ifc t y]/\yO P t=some e/\P.info? e=some ie/\zO P (Extern.Rtype.kind e)=some ke/\vr y=true/\zd y=some n/\
 P.funcs.findIdx? (·.name== "internal/reflectlite" ++ ".Swapper$" ++toString (Lib.swapperK n ie ke))=some f/\Nat.blt f 4294967296=true/\p=(.fn f (if Lib.swapperK n ie ke<=2 then []else [y,.sc (typeHandle P e)]),hp):=by
 unfold zcv at h
 split at h
 ·obtain⟨e,he,h⟩:=bsm h
  obtain⟨ie,hie,h⟩:=bsm h
  obtain⟨ke,hke,h⟩:=bsm h
  obtain⟨_,hs,h⟩:=bsm h
  obtain⟨n,hn,h⟩:=bsm h
  obtain⟨f,hf,h⟩:=bsm h
  obtain⟨_,hl,h⟩:=bsm h
  cases h
  exact⟨_,_,e,ie,ke,n,f,rfl,he,hie,hke,qM hs,hn,hf,qM hl,rfl⟩
 ·cases h
theorem qo7{P:Program}{L:List AV}{hp:Hp}{p:AV×Hp}(h:zdk P L hp=some p):∃t b g e y n,L=[.agg [.sc (.pointer (some ⟨P.globals.size,t,none⟩)),.ptr b g 0,.sc (.int .u64 151)]]/\yO P t=some e/\P.packed t=false/\hp.rd b g=some [y]/\vr y=true/\zd y=some n/\p=(.sc (.int .i64 (n:Int)),hp):=by
 unfold zdk at h
 split at h
 ·obtain⟨e,he,h1⟩:=bsm h
  obtain⟨_,hk,h2⟩:=bsm h1
  have hk1:=qM hk
  obtain⟨cs,hc,h3⟩:=bsm h2
  split at h3
  ·obtain⟨_,hs,h4⟩:=bsm h3
   obtain⟨n,hn,h5⟩:=zkp.mp h4
   exact⟨_,_,_,e,_,n,by rw[hk1.1],he,hk1.2,hc,qM hs,hn,h5.symm⟩
  ·cases h3
 ·cases h
theorem qjq{P:Program}{L:List AV}{hp:Hp}{p:AV×Hp}(h:qsx P L hp=some p):∃i j b g off n e ie cs X Y cs1 cs2,L=[.sc (.int .i64 i),.sc (.int .i64 j),.ms b g off n ie.size,.sc (.pointer (some ⟨P.globals.size,e,none⟩))]/\P.info? e=some ie/\zO P (isAgg e)=some true/\
 (0<=i/\i<(n:Int)/\0<=j/\j<(n:Int))/\hp.rd b g=some cs/\qo cs (off+i.toNat*ie.size) ie.size=some X/\qo cs (off+j.toNat*ie.size) ie.size=some Y/\qm cs (off+i.toNat*ie.size) (Y.map ro1)=some cs1/\qm cs1 (off+j.toNat*ie.size) (X.map ro1)=some cs2/\p=(.tup [],hp.put b g cs2):=by
 unfold qsx at h
 split at h
 ·obtain⟨ie,hie,h1⟩:=bsm h
  obtain⟨ag,hag,h2⟩:=bsm h1
  obtain⟨_,hk,h3⟩:=bsm h2
  obtain⟨k1,k2,k3,k4⟩:=qM hk
  obtain⟨cs,hc,h4⟩:=bsm h3
  obtain⟨X,hX,h5⟩:=bsm h4
  obtain⟨Y,hY,h6⟩:=bsm h5
  obtain⟨cs1,hq1,h7⟩:=bsm h6
  obtain⟨cs2,hq2,h8⟩:=zkp.mp h7
  rw[<-k3]at hX hY hq1 hq2
  exact⟨_,_,_,_,_,_,_,ie,cs,X,Y,cs1,cs2,by rw[k1,k3],hie,by rw[hag,k2],k4,hc,hX,hY,hq1,hq2,h8.symm⟩
 ·cases h
theorem Zg{P:Program}{e:TypeId}{ie:TypeInfo}(hie:P.info? e=some ie){blk off:Nat}{arr:Array Value}{e':TypeId}{w:World}(hb:w.heap[blk]?=some (.cells arr e' (0,0))) {vs:List Value} (hs:vs.length=ie.size) (h1:∀v∈vs,v.oneCell'=true) (hfit:off+vs.length<=arr.size):
 (storeVar e ⟨blk,off,none⟩ (.agg vs.toArray)).run P w= .ok () (w.setRow blk (arr.toList.take off++vs++arr.toList.drop (off+vs.length)).toArray):=by
 have hst:=run_storeCells_at P blk off e' vs 0 arr w hb hfit h1
 simp only[zjo]at hst
 simp[storeVar,Value.cells,sizeOf,Lib.rl_info e ie hie,hs,hst,Result.andThen]
def qmj(G:Gh)(w:World)(L:List AV)(V:List Value):Prop:=L.length=V.length/\∀(i:Nat) (x:AV) (v:Value),L[i]?=some x->V[i]?=some v->∃p,zi G w p x v
theorem qmj.cons{x:AV}{L:List AV}{V:List Value}(h:qmj G w (x::L) V):∃p v V',V=v::V'/\zi G w p x v/\qmj G w L V':=by
 cases V with
 |nil=>exact absurd h.1 qe
 |cons v V'=>
  obtain⟨p,hp⟩:=h.2 0 x v rfl rfl
  exact⟨p,v,V',rfl,hp,by simpa using h.1,fun i y u hy hu=>h.2 (i+1) y u (by simpa using hy) (by simpa using hu)⟩
theorem qmj.nil{V:List Value}(h:qmj G w [] V):V=[]:=zi9.mp h.1.symm
theorem qmv{ti:TI}{y:AV}{s:SV}(hr:QZ ti y some=some s)(h1:vy y=none)(h2:∀n,yV n y=none):s= .av y:=by
 unfold QZ at hr
 split at hr
 ·rw[h1]at hr;cases hr
 ·rw[h2]at hr;cases hr
 ·obtain⟨_,_,hr⟩:=bsm hr
  cases hr;rfl
theorem zds(hc:Ok c)(hI:Inv G w st a.tmps)(hd:jy o a)(h:Nat)(hdn:qz h o st.sl=qB [] st.sl)(hdn2:qz h o st.sl=qB (qL h o) st.sl){ti:TI}{f:FuncId}{L:List AV}{V:List Value}(hL:qmj G w L V){p:AV×Hp}(hx:wX c.P f L st.hp=some p){s:SV}(hs:QZ ti p.1 some=some s)
 (hexec:(execOp a.eval o).run c.P w=(callFunc f V.toArray).run c.P w):o.wp c.P a w (jk G w a (after h o st s none p.2)) Q:=by
 unfold wX at hx
 obtain⟨fn,hF,hx⟩:=bsm hx
 obtain⟨_,hck,hx⟩:=bsm hx
 obtain⟨hb,ho⟩:=qM hck
 have hrun:∀{e:Array Value->Sem Value} {z:Value} {w1:World},(fn.name== "runtime.NumGoroutine")=false->Extern.findNext fn=none->Extern.find fn=some e->(e V.toArray).run c.P w= .ok z w1->(execOp a.eval o).run c.P w= .ok (.value z) w1:=by
  intro e z w1 h0 h1 h2 h3
  rw[hexec,run_callFunc_extern hF h0 (by rw[hb];rfl) h1 h2,h3]
  rfl
 split at hx
 ·rename_i hn
  have hnm:(fn.name== "runtime.NumGoroutine")=false:=by rw[hn];rfl
  obtain⟨f1,f2⟩:=zhd fn hn ho
  obtain⟨t,y,e,rfl,he,hsl,rfl⟩:=qsp hx
  obtain⟨i,hi,hdesc⟩:=vd he
  obtain⟨q,v,V',rfl,hv,hV⟩:=hL.cons
  have:=hV.nil
  subst this
  have hv':RelR G w (.ifc t y) v:=hv
  cases hv' with
  |ifc _ _ u hu=>
   obtain⟨hu',A,n,cap,rfl,hln⟩:=Ja (p:=q) ((hu.c _).v) hsl
   have hr:=Lib.run_valueOf_slice (P:=c.P) t e i hi hdesc A n cap w
   have:=qmv hs rfl (fun _=>rfl)
   subst this
   refine qq (hrun hnm f1 f2 hr) ?_
   show jk G w a (after h o st (.av (.agg [.sc (typeHandle c.P t),.ptr st.hp.next 0 0,.sc (.int .u64 151)])) none (st.hp.new [y])) (a.put o.dst (.agg #[typeHandle c.P t,.pointer (some ⟨w.heap.size,0,none⟩),.int .u64 151])) (w.alloc (.cells #[.slice A n cap] t))
   refine JN (w':=w.alloc (.cells #[.slice A n cap] t)) (s:=.av (.agg [.sc (typeHandle c.P t),.ptr st.hp.next 0 0,.sc (.int .u64 151)])) hI h [] hdn hd (cs:=[y]) (arr:=#[.slice A n cap]) (e:=t) ⟨rfl,rfl,rfl,rfl⟩ qe (fun k x u hx hu2=>?_) (fun G' hG k=>?_) (fun _ _ _ e=>by cases e) rfl (fun b g cs hg=>hg)
   ·cases k with
    |zero=>simp at hx hu2;subst hx;subst hu2;exact hu'
    |succ k=>simp at hx
   ·refine⟨[typeHandle c.P t,.pointer (some ⟨w.heap.size,0,none⟩),.int .u64 151],rfl,rfl,fun i x c hx hc=>?_⟩
    match i,hx,hc with
    |0,hx,hc=>simp at hx hc;subst hx;subst hc;exact RelR.sc _ rfl
    |1,hx,hc=>simp at hx hc;subst hx;subst hc;exact RelR.ptr _ _ _ _ hG
    |2,hx,hc=>simp at hx hc;subst hx;subst hc;exact RelR.sc _ rfl
    |i+3,hx,hc=>simp at hx
 ·split at hx
  ·rename_i hn
   have hnm:(fn.name== "runtime.NumGoroutine")=false:=by rw[hn];rfl
   obtain⟨f1,f2⟩:=zeo fn hn ho
   obtain⟨t,y,e,ie,ke,n,g,rfl,he,hie,hke,hsl,hln,hg,hlt,rfl⟩:=qog hx
   obtain⟨i,hi,hdesc⟩:=vd he
   obtain⟨q,v,V',rfl,hv,hV⟩:=hL.cons
   have:=hV.nil
   subst this
   have hv':RelR G w (.ifc t y) v:=hv
   cases hv' with
   |ifc _ _ u hu=>
    obtain⟨hu',A,m,cap,rfl,hln'⟩:=Ja (p:=q) ((hu.c _).v) hsl
    rw[hln]at hln'
    cases hln'
    have hr:=Lib.run_swapper_slice (P:=c.P) t e i ie hi hdesc hie ke (jq hke) A n cap g hg w
    have:=qmv hs rfl (fun _=>rfl)
    subst this
    refine qq (hrun hnm f1 f2 hr) ?_
    refine qy hI h hdn2 hd (fun k=>?_) (fun _ _ _ e=>by cases e)
    by_cases hk:Lib.swapperK n ie ke<=2
    ·rw[if_pos hk,if_pos hk]
     exact RelR.s (RelR.fn g [] [] (.inl hlt) rfl (fun k x c hx=>by simp at hx)) k
    ·rw[if_neg hk,if_neg hk]
     refine RelR.s (RelR.fn g [y,.sc (typeHandle c.P e)] [.slice A n cap,typeHandle c.P e] (.inl hlt) rfl (fun k x u hx hu2=>?_)) k
     match k,hx,hu2 with
     |0,hx,hu2=>simp at hx hu2;subst hx;subst hu2;exact hu'
     |1,hx,hu2=>simp at hx hu2;subst hx;subst hu2;exact RelR.sc _ rfl
     |k+2,hx,hu2=>simp at hx
  ·split at hx
   ·rename_i hn
    have hnm:(fn.name== "runtime.NumGoroutine")=false:=by rw[hn];rfl
    obtain⟨f1,f2⟩:=zep fn hn ho
    obtain⟨t,b,g,e,y,n,rfl,he,hpk,hcs,hsl,hln,rfl⟩:=qo7 hx
    obtain⟨i,hi,hdesc⟩:=vd he
    obtain⟨q,v,V',rfl,hv,hV⟩:=hL.cons
    have:=hV.nil
    subst this
    obtain⟨us,rfl,hul,hrel⟩:=hv
    obtain⟨hget,hg0⟩:=xa hcs
    obtain⟨blk,b1,b2,b3⟩:=hI.heap b g [y] hget
    obtain⟨arr,e',c1,c2,c3⟩:=jU b3 hg0
    have hsz:0<arr.size:=by simp at c2;omega
    have hy:=c3 0 y arr[0] rfl (zk5 hsz)
    obtain⟨_,A,m,cap,hA,hln'⟩:=Ja (p:=fun _=>.oc b g 0) (y:=y) (v:=arr[0]) (by cases y<;>first|exact hy|simp[vr]at hsl) hsl
    rw[hln]at hln'
    cases hln'
    obtain⟨u0,u1,u2,rfl⟩:∃u0 u1 u2,us=[u0,u1,u2]:=by
     match us,hul with
     |[u0,u1,u2],_=>exact⟨u0,u1,u2,rfl⟩
    have q0:RelR G w (.sc (.pointer (some ⟨c.P.globals.size,t,none⟩))) u0:=hrel 0 _ u0 rfl rfl
    have q1:RelR G w (.ptr b g 0) u1:=hrel 1 _ u1 rfl rfl
    have q2:RelR G w (.sc (.int .u64 151)) u2:=hrel 2 _ u2 rfl rfl
    cases q0
    cases q2
    cases q1 with
    |ptr _ _ _ blk' hm=>
     rw[b1]at hm
     cases hm
     have ha:w.cell? ⟨blk,0,none⟩=some (.slice A n cap):=by
      rw[<-hA]
      simp[World.cell?,c1,hsz]
     have hr:=Lib.run_valueLen_slice (P:=c.P) t e i hi hdesc hpk ⟨blk,0,none⟩ A n cap w ha
     have hsv:s= .sv (.int .i64 n)\/s= .av (.sc (.int .i64 n)):=by
      unfold QZ at hs
      split at hs
      ·obtain⟨_,hq,hs⟩:=bsm hs
       cases hq
       cases hs
       exact .inl rfl
      ·cases hs
      ·obtain⟨_,_,hs⟩:=bsm hs
       cases hs
       exact .inr rfl
     refine qq (hrun hnm f1 f2 hr) ?_
     rcases hsv with rfl|rfl
     ·exact qy hI h hdn2 hd (fun k=>⟨rfl,rfl⟩) (fun _ _ _ e=>by cases e)
     ·exact qy hI h hdn2 hd (fun k=>RelR.s (RelR.sc _ rfl) k) (fun _ _ _ e=>by cases e)
   ·split at hx
    ·rename_i hn
     have hnm:(fn.name== "runtime.NumGoroutine")=false:=by
      simp only[qx6,zie,zla,or_false]at hn
      rcases hn with h|h|h|h|h|h|h<;>rw[h]<;>rfl
     obtain⟨f1,gb,f2⟩:=zas fn hn ho
     obtain⟨i,j,b,g,off,n,e,ie,cs,X,Y,cs1,cs2,rfl,hie,hag,⟨hi0,hi1,hj0,hj1⟩,hcs,hX,hY,hp1,hp2,rfl⟩:=qjq hx
     obtain⟨i,rfl⟩:=zkw hi0
     obtain⟨j,rfl⟩:=zkw hj0
     rw[zik]at hX hp1
     rw[zik]at hY hp2
     have hi':i<n:=qc
     have hj':j<n:=qc
     obtain⟨q0,v0,V0,rfl,r0,hL⟩:=hL.cons
     obtain⟨q1,v1,V1,rfl,r1,hL⟩:=hL.cons
     obtain⟨q2,v2,V2,rfl,r2,hL⟩:=hL.cons
     obtain⟨q3,v3,V3,rfl,r3,hL⟩:=hL.cons
     have:=hL.nil
     subst this
     have r0:RelR G w (.sc (.int .i64 (i:Int))) v0:=r0
     have r1:RelR G w (.sc (.int .i64 (j:Int))) v1:=r1
     have r3:RelR G w (.sc (.pointer (some ⟨c.P.globals.size,e,none⟩))) v3:=r3
     cases r0
     cases r1
     cases r3
     obtain⟨blk,cap,off',z,m1,m2,m4,rfl,m5,m6⟩:=WD (p:=q2) r2
     have hoff:=m4 qc
     subst hoff
     obtain⟨hget,hg0⟩:=xa hcs
     obtain⟨blk',b1,b2,b3⟩:=hI.heap b g cs hget
     rw[m1]at b1;cases b1
     obtain⟨arr,e',c1,c2,c3⟩:=jU b3 hg0
     obtain⟨lX,eX⟩:=zM hX
     obtain⟨lY,eY⟩:=zM hY
     have hXl:X.length=ie.size:=by rw[eX];simp;omega
     have hYl:Y.length=ie.size:=by rw[eY];simp;omega
     --the cells as_ the model has them
     have hav:∀o' (Z:List AV),Z=(cs.drop o').take ie.size->o'+ie.size<=cs.length->∀(k:Nat) (x:AV) (u:Value),(Z.map ro1)[k]?=some x->((arr.toList.drop o').take ie.size)[k]?=some u->RelR G w x u:=by
      intro o' Z hZ hle k x u hx hu
      obtain⟨x',hx',rfl⟩:=qr _ _ _ _ hx
      rw[hZ,zij]at hx'
      rw[zij]at hu
      split at hx'
      ·rename_i hk
       rw[if_pos hk]at hu
       rw[zi0]at hx' hu
       exact(c3 (o'+k) x' u hx' (by simpa using hu)).ro
      ·cases hx'
     have len:∀o',o'+ie.size<=cs.length->((arr.toList.drop o').take ie.size).length=ie.size:=by intro o' hle;simp;omega
     have hXr:=hav _ X eX lX
     have hYr:=hav _ Y eY lY
     have hX1:=len _ lX
     have hY1:=len _ lY
     generalize hVX:(arr.toList.drop (off'+i*ie.size)).take ie.size=VX at hXr hX1
     generalize hVY:(arr.toList.drop (off'+j*ie.size)).take ie.size=VY at hYr hY1
     have one:∀(Z:List AV) (U:List Value),Z.length=ie.size->U.length=ie.size->(∀(k:Nat) (x:AV) (u:Value),(Z.map ro1)[k]?=some x->U[k]?=some u->RelR G w x u)->∀u∈U,u.oneCell'=true:=by
      intro Z U h1 h2 h3 u hu
      obtain⟨k,hk,rfl⟩:=zky hu
      exact(h3 k _ _ (zic (by rw[zjg,h1,<-h2];exact hk)) (zic hk)).one
     have oX:=one X VX hXl hX1 hXr
     have oY:=one Y VY hYl hY1 hYr
     --the first write
     obtain⟨s1,s2⟩:=kh (G:=G) (w:=w) (p:=fun i=>.oc b g i) (f:=fun k=>.oc b g (off'+i*ie.size+k)) (us:=VY) hp1 c2 (by rw[zjg,hYl,hY1]) c3 (fun k y u hy hu=>(hYr k y u hy hu).c _) (fun k=>rfl)
     obtain⟨arr1,harr1⟩:∃arr1,arr1=(arr.toList.take (off'+i*ie.size)++VY++arr.toList.drop (off'+i*ie.size+VY.length)).toArray:=⟨_,rfl⟩
     have s1:cs1.length<=arr1.size:=by rw[harr1];exact s1
     have s2:∀(i:Nat) (x:AV) (u:Value),cs1[i]?=some x->arr1[i]?=some u->jx G w (.oc b g i) x u:=by rw[harr1];exact s2
     have hz1:arr1.size=arr.size:=by rw[harr1];simp;omega
     have w1:=jG w (off:=off'+i*ie.size) (us:=VY) c1 (by rw[hY1];omega)
     have st1:=Zg (P:=c.P) hie (off:=off'+i*ie.size) (vs:=VY) c1 hY1 oY (by rw[hY1];omega)
     rw[<-harr1]at w1 st1
     --the second one
     obtain⟨t1,t2⟩:=kh (G:=G) (w:=w) (p:=fun i=>.oc b g i) (f:=fun k=>.oc b g (off'+j*ie.size+k)) (us:=VX) hp2 s1 (by rw[zjg,hXl,hX1]) s2 (fun k y u hy hu=>(hXr k y u hy hu).c _) (fun k=>rfl)
     obtain⟨arr2,harr2⟩:∃arr2,arr2=(arr1.toList.take (off'+j*ie.size)++VX++arr1.toList.drop (off'+j*ie.size+VX.length)).toArray:=⟨_,rfl⟩
     have w2:=jG (w.setRow blk arr1) (off:=off'+j*ie.size) (us:=VX) w1.at_ (by rw[hX1,hz1];omega)
     have st2:=Zg (P:=c.P) hie (off:=off'+j*ie.size) (vs:=VX) w1.at_ hX1 oX (by rw[hX1,hz1];omega)
     rw[<-harr2]at w2 st2 t1 t2
     have hwr:Wr w ((w.setRow blk arr1).setRow blk arr2) blk arr2 e':=⟨w2.size.trans w1.size,w2.at_,fun b hb=>(w2.other b hb).trans (w1.other b hb),w1.rest.trans w2.rest,fun z hz=>w2.sz z (w1.sz z hz)⟩
     --the run
     have cell:∀o' (U:List Value),(arr.toList.drop o').take ie.size=U->∀k v,U[k]?=some v->w.cell? ⟨blk,o'+k,none⟩=some v:=by
      intro o' U hU k v hv
      rw[<-hU,zij]at hv
      split at hv
      ·rw[zi0]at hv
       have:arr[o'+k]?=some v:=by simpa using hv
       simp[World.cell?,c1,this]
      ·cases hv
     have hagg:=jq hag
     have l1:=Lib.rl_loadVar_cells (P:=c.P) e ie hie hagg blk (off'+i*ie.size) VX hX1 w (cell _ _ hVX)
     have l2:=Lib.rl_loadVar_cells (P:=c.P) e ie hie hagg blk (off'+j*ie.size) VY hY1 w (cell _ _ hVY)
     have hr:(Extern.ReflectliteSwapper.swap gb #[.int .i64 (i:Int),.int .i64 (j:Int),.slice (some ⟨blk,off',none⟩) n cap,.pointer (some ⟨c.P.globals.size,e,none⟩)]).run c.P w= .ok (.tuple #[]) ((w.setRow blk arr1).setRow blk arr2):=by
      have i0:¬((i:Int)<0):=qc
      have i1:¬((i:Int)>=n):=qc
      have j0:¬((j:Int)<0):=qc
      have j1:¬((j:Int)>=n):=qc
      rw[Lib.rl_swap]
      cases gb<;>simp[i0,i1,j0,j1,Extern.Rtype.ofHandle,handleType,Extern.ReflectliteSwapper.exchange,sizeOf,Lib.rl_info e ie hie,Addr.add_lit,l1,l2,st1,st2,Result.andThen]
     have hsv:s= .tp []:=by
      unfold QZ at hs
      split at hs
      ·cases hs
      ·obtain⟨_,hq,hs⟩:=bsm hs
       cases hs
       simp only[yV,zi1]at hq
       split at hq
       ·rename_i h0
        rw[<-h0]
        rfl
       ·cases hq
      ·cases hs
     subst hsv
     obtain⟨hI2,hf2⟩:=hI.writeObj hg0 hget m1 b2 hwr t1 t2
     refine qq (hrun hnm f1 f2 hr) ⟨G,?_,hf2,qZ _ _ _,qD _ _ _⟩
     unfold after
     rw[hdn]
     exact hI2.put o.dst hd (fun k _=>⟨[],rfl,rfl,fun j x cc hx=>by simp at hx⟩) (fun _ _ _ e=>by cases e)
    ·cases hx
theorem qdo{P:Program}(t u ty e e':TypeId)(i:TypeInfo)(ht:P.underlying t=some (.slice e))(hu:P.underlying u=some .string)(hi:P.info? e=some i)(hs1:i.size=1)(g n cap:Nat)(cur:Array Value){z:Nat×Nat}(hg:w.heap[g]?=some (.cells cur e' z)) (hz:z=(0,0)\/cur.size<=z.1) (s:ByteArray) (hroom:n+s.size<=cap) (hfit:n+s.size<=cur.size):
 (Builtin.append_ #[t,u] ty #[.slice (some ⟨g,0,none⟩) n cap,.string s]).run P w= .ok (.slice (some ⟨g,0,none⟩) (n+s.size) cap) (w.setRow g (cur.toList.take n++Lib.strCells s++cur.toList.drop (n+s.size)).toArray):=by
 have hf:=Lib.run_firstCells_string (P:=P) w 1 s
 have hst:=we P g n e' z (Lib.strCells s) 0 cur w hg hz (by simpa[Lib.strCells_length]using hfit) (Lib.strCells_oneCell s)
 simp only[zjo,Lib.strCells_length]at hst
 simp[Builtin.append_,run_underlying ht,run_underlying hu,sizeOf,typeInfo,hi,hs1,Builtin.lenOf,hroom,hf,Addr.add_lit,hst]
theorem qis{bytes sz:Nat}{d z:AV}{s:ByteArray}(h:VU bytes sz d s=some z):∃cs,d= .us sz cs/\sz=1/\js bytes sz (cs.length+s.size)=true/\z= .us sz (cs++Kp s):=by
 unfold VU at h
 split at h
 ·obtain⟨_,hk,h1⟩:=bsm h
  obtain⟨k1,k2,k3⟩:=qM hk
  rw[k1]at h1
  exact⟨_,by rw[k1],k2,k3,(zit h1).symm⟩
 ·cases h
theorem qzr(hc:Ok c)(hI:Inv G w st a.tmps)(hd:jy o a)(h:Nat){cl:Call}(hop:o.op= .call cl)(hcl:cl.callee= .builtin .append){x y:Operand}(hargs:cl.args=#[x,y]) {t u:TypeId} (hts:cl.argTypes=#[t,u])
 {z:AV} (hz:qbw c t u (zt st.sl x) (zt st.sl y) some=some z):o.wp c.P a w (jk G w a (after h o st (.av z) none st.hp)) Q:=by
 unfold qbw at hz
 obtain⟨_,hu,hz⟩:=bsm hz
 have hu:c.P.underlying u=some .string:=by
  unfold qx7 at hu
  split at hu
  ·assumption
  ·cases hu
 split at hz
 ·rename_i ti hti
  split at hz
  ·rename_i e hk
   split at hz
   ·rename_i ei hei
    obtain⟨d',hx,hz⟩:=bsm hz
    obtain⟨sv,hsv,hz⟩:=bsm hz
    obtain⟨s,hs,hz⟩:=bsm hz
    obtain⟨z',hz',hz⟩:=bsm hz
    cases hz
    obtain⟨cs,rfl,hs1,hfit,rfl⟩:=qis hz'
    ·have hy:a.eval y= .string s:=by
      have q:=vz hI y
      rw[ju hsv]at q
      rw[q.1]
      cases sv<;>simp[Qw]at hs
      rw[hs]
     have hdn:qz h o st.sl=qB (zw [x,y]) st.sl:=by simp[qz,qL,hop,hcl,hargs]
     obtain⟨dd,hd1,hd2⟩:=(hc.tt t ti (qp hti).1).und
     rw[hk]at hd2
     have hd2:dd= .slice e:=hd2
     subst hd2
     obtain⟨i,z0,hi1,hi2,hi3⟩:∃i d,c.P.info? e=some i/\i.bytes=ei.bytes/\i.size=ei.size/\∃zv,i.zero=some zv/\zv.cells.toList=ei.zero/\ei.zero.length=ei.size:=by
      obtain⟨_,_,info,d,h1,h2,h3,h4,h5⟩:=hc.tt e ei (qp hei).1
      obtain⟨h6,zv,h7,h8,h9,_⟩:=h5 (qp hei).2
      exact⟨info,d,h1,h4,h6,zv,h7,h8,h9⟩
     obtain⟨hi4,zv,hi5,hi6,hi7⟩:=hi3
     have hdr:=ya (vz hI x) hx
     have hrun:∀(v:Value) (w':World),(Builtin.append_ #[t,u] o.type #[a.eval x,.string s]).run c.P w= .ok v w'->(execOp a.eval o).run c.P w= .ok (.value v) w':=by
      intro v w' hr
      rw[jl hcl hop rfl,hargs,hts]
      simp only[Go.builtin,zll,zjc,zkc,hy]
      rw[Sem.run_bind,hr];rfl
     obtain⟨b,hom,ht⟩:=hdr
     have hxt:x= .tmp (vG x):=by
      cases x with
      |tmp t=>rfl
      |const v=>
       simp only[zt]at hx
       split at hx
       ·split at hx<;>simp[XF]at hx
       ·cases hx
       ·cases hx
      |global g=>cases hx
      |func f=>cases hx
     obtain⟨n,cap,arr,e',mk,t1,t2,t3,t4,t5,t6,t7,t8,t9⟩:=ht.ex
     have hsl:(Kp s).length=s.size:=by unfold Kp;rw[zjg,Lib.strCells_length]
     have hrel:∀(k:Nat) (z:AV) (u:Value),(Kp s)[k]?=some z->(Lib.strCells s)[k]?=some u->RelR G w z u:=by
      intro k z u hz hu
      unfold Kp at hz
      rw[zir,hu]at hz
      cases hz
      exact RelR.sc _ (Lib.strCells_oneCell s u (zig hu))
     have hvall:∀x∈cs++Kp s,vl x=true:=by
      intro x hx
      rcases zip.mp hx with q|q
      ·exact ht.vl x q
      ·obtain⟨v,_,rfl⟩:=ziu.mp q
       rfl
     have hmem:vG x∈zw [x,y]:=by rw[hxt];simp[zw,vG]
     obtain⟨hf1,hf2⟩:=kf hfit
     rw[hs1,zi7]at t3 t5 t7 hf1
     by_cases hroom:n+s.size<=cap
     ·have hfit':n+(Lib.strCells s).length<=arr.size:=by rw[Lib.strCells_length,t7];exact hroom
      have hrr:=qdo (P:=c.P) t u o.type e e' i hd1 hu hi1 (by rw[hi4,hs1]) b n cap arr t6 (t9.imp id And.right) s hroom qc
      have hwr:=jG w t6 hfit'
      rw[Lib.strCells_length]at hwr
      refine qq (hrun _ _ (by rw[t1];exact hrr)) ?_
      have:=Zm (ys:=Kp s) (news:=Lib.strCells s) (m:=s.size) hI (vG x) _ hmem hdn hd hom (sz:=1) qf (by rw[t3,zi7]) (by rw[t5,zi7]) t6 t9 (by rw[t7,zi7]) t8 hroom (by rw[hsl,zi7]) (by rw[hsl,Lib.strCells_length]) hrel hvall (by rw[zi7,Lib.strCells_length];exact hwr)
      rw[hs1]
      simpa[Lib.strCells_length]using this
     ·have hle:n<=arr.toList.length:=by rw[zjb,t7];exact t4
      have hlo:(arr.toList.take n).length=n*i.size:=by rw[ziy,hi4,hs1];omega
      have holds:∀j u,(arr.toList.take n)[j]?=some u->w.cell? ((⟨b,0,none⟩:Addr).add j)=some u:=by
       intro j u hu
       rw[qS,ziw,qR t6]
       rw[zij]at hu
       split at hu
       ·simpa using hu
       ·cases hu
      have hneed:(n+s.size)*i.bytes<=140737488355328:=by rw[hi2];rw[t3]at hf1;exact hf1
      have h63:((n+s.size:Nat):Int)<=9223372036854775807:=by
       have:n+s.size<=(n+s.size)*i.bytes:=zkj _ (by rw[hi2];exact hf2)
       omega
      have hrr:=Lib.run_append_grow_string (P:=c.P) w t u o.type e i zv hd1 hu hi1 hi5 ⟨b,0,none⟩ n cap _ hlo holds s qc h63 (growslice_fits qc qc)
      refine qq (hrun _ _ (by rw[t1];exact hrr)) ?_
      have hge:=grownCap_ge w (n+s.size) cap e
      have hzs:zv.cells.size=1:=by rw[<-hs1,<-hi7,<-hi6];simp
      have hl2:(arr.toList.take n).length=cs.length:=by rw[ziy,t3];omega
      rw[hs1]
      refine yF hI _ hdn hd qf (by rw[zh8,t3,hsl,zi7]) ⟨rfl,rfl,rfl,rfl⟩ ?_ hge (fun k z hk'=>?_) hvall
      ·rw[zjk,zjk,zis,zis,size_zeroCells,hl2,Lib.strCells_length,hzs,t3,zi7,zi7]
       omega
      ·by_cases hk1:k<cs.length
       ·rw[zin hk1]at hk'
        obtain⟨v,hv,hr'⟩:=t8 k z hk'
        refine⟨v,?_,hr'⟩
        rw[zjf (by rw[zjk,zis,zis,hl2];omega),zjf (by rw[zis,hl2];omega)]
        rw[zks,zij,if_pos qc]
        simpa using hv
       ·rw[zil qc]at hk'
        obtain⟨v,hv⟩:=qU (show(Kp s).length=(Lib.strCells s).length by rw[hsl,Lib.strCells_length]) hk'
        refine⟨v,?_,hrel _ _ _ hk' hv⟩
        have hlt:=(zih.mp hv).1
        rw[zjf (by rw[zjk,zis,zis,hl2];omega),Array.getElem?_append_right (by rw[zis,hl2];omega)]
        rw[zks,zis,hl2]
        exact hv
   ·cases hz
  ·cases hz
 ·cases hz
theorem Zf{z:Array Value}{z0:Value}(hz:z.toList=[z0])(m:Nat):(Builtin.zeroCells z m).toList=List.replicate m z0:=by
 have hs:z=#[z0]:=Array.toList_inj.mp hz
 subst hs
 unfold Builtin.zeroCells
 apply List.ext_getElem
 ·simp
 ·intro i h1 h2
  simp[Nat.mod_one]
theorem Wu{P:Program}(t u ty e e':TypeId)(i:TypeInfo)(z:Value)(kq kn:IntKind)(ht:P.underlying t=some (.slice e))(hu:P.underlying u=some (.int kn))(hi:P.info? e=some i)(hz:i.zero=some z)(hs1:i.size=1)(g n cap m:Nat)(cur:Array Value)(hg:w.heap[g]?=some (.cells cur e' (0,0)))
 {z0:Value} (hz0:z.cells.toList=[z0]) (h1:z0.oneCell'=true) (hm:0<m) (h63:(m:Int)<=9223372036854775807) (h48:m*i.bytes<=281474976710656) (hroom:n+m<=cap) (hfit:n+m<=cur.size):
 (Builtin.append_ #[t,u] ty #[.slice (some ⟨g,0,none⟩) n cap,.int kq m]).run P w= .ok (.slice (some ⟨g,0,none⟩) (n+m) cap) (w.setRow g (cur.toList.take n++List.replicate m z0++cur.toList.drop (n+m)).toArray):=by
 have hzc:=Zf hz0 m
 have hst:=run_storeCells_at P g n e' (List.replicate m z0) 0 cur w hg (by simpa using hfit) (fun u hu=>by rw[zje hu];exact h1)
 simp only[zjo,zjm]at hst
 have hk:m≠0:=qc
 have hw:IntKind.i64.wrap (m:Int)=m:=by rw[IntKind.wrap_i64];omega
 have h48i:¬(281474976710656<(m:Int)*(i.bytes:Int)):=by
  rw[<-Int.natCast_mul]
  omega
 have hneg:¬((m:Int)<0):=qc
 simp[Builtin.append_,run_underlying ht,run_underlying hu,sizeOf,typeInfo,zeroValue,hi,hz,asInt,asIntOf,hw,hneg,hk,hs1,h48i,hroom,hzc,Addr.add_lit,hst]
theorem qe0{bytes sz:Nat}{z:List Value}{d:AV}{m:Nat}{hp:Hp}{q:AV×Hp}(h:QW bytes sz z d m hp=some q):∃b g n cs,d= .ms b g 0 n sz/\sz=1/\0<n/\0<m/\js bytes sz (n+m)=true/\hp.rd b g=some cs/\n<=cs.length/\
 q=(.ms hp.next 0 0 (n+m) sz,(hp.del b).new ((cs.take n).map ro1++List.replicate m (AV.sc (z.headD undef)))):=by
 unfold QW at h
 split at h
 ·obtain⟨_,hk,h1⟩:=bsm h
  obtain⟨k1,k2,k3,k4,k5,k6⟩:=qM hk
  obtain⟨cs,hc,h2⟩:=bsm h1
  obtain⟨_,hl,h3⟩:=bsm h2
  exact⟨_,_,_,cs,by rw[k1,k3],k2,k4,k5,k6,hc,qM hl,(zit h3).symm⟩
 ·cases h
theorem qzq(hc:Ok c)(hI:Inv G w st a.tmps)(hd:jy o a)(h:Nat){cl:Call}(hop:o.op= .call cl)(hcl:cl.callee= .builtin .append){x y:Operand}(hargs:cl.args=#[x,y]) {t u:TypeId} (hts:cl.argTypes=#[t,u])
 {q:AV×Hp} (hz:qbv c t u (zt st.sl x) (zt st.sl y) st.hp (fun a b=>some (a,b))=some q):o.wp c.P a w (jk G w a (after h o st (.av q.1) none q.2)) Q:=by
 unfold qbv at hz
 obtain⟨_,hu,hz⟩:=bsm hz
 obtain⟨kn,hu⟩:∃kn,c.P.underlying u=some (.int kn):=by
  unfold zac at hu
  split at hu
  ·exact⟨_,by assumption⟩
  ·cases hu
 split at hz
 ·rename_i ti hti
  split at hz
  ·rename_i e hk
   split at hz
   ·rename_i ei hei
    obtain⟨d',hx,hz⟩:=bsm hz
    obtain⟨sv,hsv,hz⟩:=bsm hz
    obtain⟨m',hm',hz⟩:=bsm hz
    obtain⟨_,hm0,hz⟩:=bsm hz
    obtain⟨q',hq',hz⟩:=bsm hz
    cases hz
    obtain⟨m,rfl⟩:=zkw (qM hm0)
    rw[zik]at hq'
    obtain⟨b,g,n,cs,rfl,hs1,hn,hm,hfit,hcs,hll,rfl⟩:=qe0 hq'
    obtain⟨kq,hy⟩:∃kq,a.eval y= .int kq m:=by
     have r:=vz hI y
     rw[ju hsv]at r
     rw[r.1]
     cases sv<;>simp[ZK]at hm'
     rw[hm']
     exact⟨_,rfl⟩
    have hdn:qz h o st.sl=qB (zw [x,y]) st.sl:=by simp[qz,qL,hop,hcl,hargs]
    obtain⟨dd,hd1,hd2⟩:=(hc.tt t ti (qp hti).1).und
    rw[hk]at hd2
    have hd2:dd= .slice e:=hd2
    subst hd2
    obtain⟨i,zv,hi1,hi4,hi2,hi5,hi6,hi7,hi8⟩:=(hc.tt e ei (qp hei).1).info (qp hei).2
    obtain⟨z0,hz0⟩:∃z0,ei.zero=[z0]:=by
     have hl1:ei.zero.length=1:=by rw[hi7,hs1]
     match hzz:ei.zero,hl1 with
     |[z0],_=>exact⟨z0,rfl⟩
    have hone:z0.oneCell'=true:=hi8 z0 (by rw[hz0];simp)
    have hdr:=ya (vz hI x) hx
    have hrun:∀(v:Value) (w':World),(Builtin.append_ #[t,u] o.type #[a.eval x,.int kq m]).run c.P w= .ok v w'->(execOp a.eval o).run c.P w= .ok (.value v) w':=by
     intro v w' hr
     rw[jl hcl hop rfl,hargs,hts]
     simp only[Go.builtin,zll,zjc,zkc,hy]
     rw[Sem.run_bind,hr];rfl
    obtain⟨hf1,hf2⟩:=kf hfit
    rw[hs1,zi7]at hf1
    have hneed:(n+m)*i.bytes<=140737488355328:=by rw[hi2];exact hf1
    have hnm:n+m<=(n+m)*i.bytes:=zkj _ (by rw[hi2];exact hf2)
    have hmb:m*i.bytes<=140737488355328:=zjw (ziq _ qc) hneed
    obtain⟨blk,cap,off',z,m1,m2,m4,m3,m5,m6⟩:=WD (p:=fun i=>.sl (vG x) 0 i) hdr
    have hoff:=m4 hn
    subst hoff
    obtain⟨hget,hg0⟩:=xa hcs
    obtain⟨blk',b1,b2',b3⟩:=hI.heap b g cs hget
    rw[m1]at b1;cases b1
    obtain⟨arr,e',c1,c2,c3⟩:=jU b3 hg0
    have hib:G.I blk=0:=hI.vars blk (.inr ⟨b,g,b2'⟩)
    rw[zV c1]at m5
    have m5:arr.size=z:=zit m5
    rw[hs1,zi7]at m6
    have hzh:ei.zero.headD undef=z0:=by rw[hz0];rfl
    have hold:∀(k:Nat) (z:AV) (u:Value),((cs.take n).map ro1)[k]?=some z->arr[k]?=some u->RelR G w z u:=by
     intro k z u hz hu
     obtain⟨q,hq,rfl⟩:=qr _ _ _ _ hz
     rw[zij]at hq
     split at hq
     ·exact(c3 k q u hq hu).ro
     ·cases hq
    have hol:((cs.take n).map ro1).length=n:=qg
    have hzr:∀(k:Nat) (z:AV) (u:Value),(List.replicate m (AV.sc z0))[k]?=some z->(List.replicate m z0)[k]?=some u->RelR G w z u:=by
     intro k z u hz hu
     rw[zje (zig hz),zje (zig hu)]
     exact RelR.sc _ hone
    have rel:∀(tl:List Value) (k:Nat) (z:AV) (u:Value),((cs.take n).map ro1++List.replicate m (AV.sc z0))[k]?=some z->(arr.toList.take n++List.replicate m z0++tl)[k]?=some u->RelR G w z u:=by
     intro tl k z u hz hu
     have hk:k<n+m:=by
      have:=(zih.mp hz).1
      rw[zh8,hol,zjm]at this
      exact this
     have hta:(arr.toList.take n).length=n:=by rw[ziy,zjb];omega
     rw[zin (by rw[zh8,hta,zjm];exact hk)]at hu
     by_cases hk1:k<n
     ·rw[zin (by rw[hol];exact hk1)]at hz
      rw[zin (by rw[hta];exact hk1),zij,if_pos hk1]at hu
      exact hold k z u hz (by simpa using hu)
     ·rw[zil (by rw[hol];omega),hol]at hz
      rw[zil (by rw[hta];omega),hta]at hu
      exact hzr _ z u hz hu
    rw[hzh,hs1]
    by_cases hroom:n+m<=cap
    ·have hrr:=Wu (P:=c.P) t u o.type e e' i zv kq kn hd1 hu hi1 hi5 (by rw[hi4,hs1]) blk n cap m arr c1 (by rw[hi6,hz0]) hone hm qc qc hroom qc
     have hwr:=jG w (off:=n) (us:=List.replicate m z0) c1 (by rw[zjm];omega)
     rw[zjm]at hwr
     refine qq (hrun _ _ (by rw[m3];exact hrr)) ?_
     refine wM hI h _ hdn hd b2' (.inr ⟨b,g,rfl⟩) hib hwr ?_ (fun k z u hz hu=>rel _ k z u hz (by simpa using hu)) (fun G' hG k=>?_) (fun _ _ _ e=>by cases e) rfl (fun b' g' cs' hg=>?_)
     ·simp only[zis,zh8,ziy,zjt,zjg,zjm,zjb]
      omega
     ·exact RelR.ms _ _ _ _ _ _ _ _ _ hG qc (fun _=>rfl) (hwr.sz _ (zV c1)) qc
     ·obtain⟨d1,d2⟩:=QQ hg
      exact⟨d1,fun e=>d2 (by cases e;rfl)⟩
    ·have hlo:(arr.toList.take n).length=n*i.size:=by rw[ziy,hi4,hs1,zjb];omega
     have holds:∀j u,(arr.toList.take n)[j]?=some u->w.drew.cell? ((⟨blk,0,none⟩:Addr).add j)=some u:=by
      intro j u hu
      rw[qS,ziw]
      show w.cell? ⟨blk,j,none⟩=some u
      rw[qR c1]
      rw[zij]at hu
      split at hu
      ·simpa using hu
      ·cases hu
     have hfo:=run_firstCells_some (P:=c.P) w.drew i.size n ⟨blk,0,none⟩ n cap _ hlo holds
     have hrr:=Lib.run_append_grow_zeros (P:=c.P) w t u o.type e i zv kq kn hd1 hu hi1 hi5 (some ⟨blk,0,none⟩) n cap _ hfo m hm (by rw[hi4,hs1];decide) qc qc qc (growslice_fits qc qc)
     have hge:=grownCap_ge w (n+m) cap e
     have hzc:=Zf (show zv.cells.toList=[z0] by rw[hi6,hz0]) m
     have hzs:zv.cells.size=1:=by
      have:=congrArg List.length (show zv.cells.toList=[z0] by rw[hi6,hz0])
      simpa using this
     obtain⟨ARR,hARR⟩:∃ARR,ARR=(arr.toList.take n).toArray++Builtin.zeroCells zv.cells m++Builtin.zeroCells zv.cells (grownCap w (n+m) cap e-(n+m)):=⟨_,rfl⟩
     rw[<-hARR]at hrr
     have hsz:ARR.size=grownCap w (n+m) cap e:=by
      rw[hARR,zjk,zjk,zis,size_zeroCells,size_zeroCells,hlo,hi4,hs1,hzs]
      omega
     have hnew:New w (w.drew.alloc (.cells ARR e)) (.cells ARR e (0,0)):=⟨rfl,rfl,rfl,rfl⟩
     refine qq (hrun _ _ (by rw[m3];exact hrr)) ?_
     refine JN (s:=.av (.ms st.hp.next 0 0 (n+m) 1)) (hp1:=st.hp.del b) hI h _ hdn hd hnew ?_ (fun k z u hz hu=>?_) (fun G' hG k=>?_) (fun _ _ _ e=>by cases e) rfl (fun b' g' cs' hg=>(QQ hg).1)
     ·rw[zh8,hol,zjm,hsz]
      exact hge
     ·refine rel (Builtin.zeroCells zv.cells (grownCap w (n+m) cap e-(n+m))).toList k z u hz ?_
      have e:ARR.toList=arr.toList.take n++(Builtin.zeroCells zv.cells m).toList++(Builtin.zeroCells zv.cells (grownCap w (n+m) cap e-(n+m))).toList:=by rw[hARR];simp
      rw[<-Array.getElem?_toList,e,hzc]at hu
      exact hu
     ·refine RelR.ms _ _ _ _ _ _ _ _ _ hG hge (fun _=>rfl) (zV hnew.at) ?_
      rw[hsz]
      omega
   ·cases hz
  ·cases hz
 ·cases hz
end
section
variable {c:Cx}{G:Gh}{w w':World}{st:St}{a:Act}{o:Oper}{Q:Exit->Act->World->Prop}
theorem zg2{α β:Type}{l:List α}{f:α->β}{y:β}(h:l.map f=[y]):∃x,l=[x]/\f x=y:=by
 match l,h with
 |[x],h=>simp at h;exact⟨x,rfl,h⟩
theorem zb1{α β:Type}{l:List α}{f:α->β}{y z:β}(h:l.map f=[y,z]):∃x x',l=[x,x']/\f x=y/\f x'=z:=by
 match l,h with
 |[x,x'],h=>simp at h;exact⟨x,x',rfl,h.1,h.2⟩
theorem zb{α:Type}{x:Array α}{l:List α}(h:x.toList=l):x=l.toArray:=by
 subst h;simp
theorem zdu(hc:Ok c)(hI:Inv G w st a.tmps)(hd:jy o a)(h:Nat){cl:Call}(hop:o.op= .call cl){b:Builtin}(hcl:cl.callee= .builtin b){r:SV×BE×Hp}
 (hr:(WQ c h o b cl.argTypes.toList (cl.args.toList.map (zt st.sl)) st.hp fun s q=>some (s,(none:BE),q))=some r):o.wp c.P a w (jk G w a (after h o st r.1 r.2.1 r.2.2)) Q:=by
 unfold WQ at hr
 split at hr
 ·rename_i t x hts has
  obtain⟨x',hx1,hx2⟩:=zg2 has
  split at hr
  ·rename_i ti hti
   split at hr
   ·rename_i e hk
    obtain⟨n,hn,hr⟩:=bsm hr
    cases hr
    exact zdr hc hI hd h hop hcl (zb hx1) (by rw[zb hts];rfl) hti hk hx2 hn
   ·rename_i q e hk
    obtain⟨_,_,hr⟩:=bsm hr
    obtain⟨b',hb',hr⟩:=bsm hr
    obtain⟨cs,hcs,hr⟩:=bsm hr
    cases hr
    exact qzl hc hI hd h hop hcl (zb hx1) (zb hts) hti hk hx2 hb' hcs
   ·cases hr
  ·cases hr
 ·rename_i t t' d s hts has
  obtain⟨x,y,hx1,hx2,hx3⟩:=zb1 has
  split at hr
  ·split at hr
   ·rw[YH]at hr
    obtain⟨q,hq,hr⟩:=bsm hr
    cases hr
    exact qzq hc hI hd h hop hcl (zb hx1) (zb hts) (by rw[hx2,hx3];exact hq)
   ·rw[vR]at hr
    obtain⟨z,hz,hr⟩:=bsm hr
    cases hr
    exact qzr hc hI hd h hop hcl (zb hx1) (zb hts) (by rw[hx2,hx3];exact hz)
  ·rename_i htt
   have htt:t'=t:=Classical.not_not.mp htt
   subst htt
   split at hr
   ·rename_i ti hti
    split at hr
    ·rename_i e hk
     split at hr
     ·rename_i ei hei
      obtain⟨d',hd',hr⟩:=bsm hr
      obtain⟨s',hs',hr⟩:=bsm hr
      split at hr
      ·obtain⟨q,hq,hr⟩:=bsm hr
       cases hr
       exact qzs hc hI hd h hop hcl (zb hx1) (zb hts) hti hk hei (by rw[hx2];exact hd') (by rw[hx3];exact hs') hq
      ·obtain⟨z,hz,hr⟩:=bsm hr
       cases hr
       exact qpv hc hI hd h hop hcl (zb hx1) (zb hts) hti hk hei (by rw[hx2];exact hd') (by rw[hx3];exact hs') hz
     ·cases hr
    ·cases hr
   ·cases hr
 ·rename_i t t' d s hts has
  obtain⟨x,y,hx1,hx2,hx3⟩:=zb1 has
  split at hr
  ·rename_i ti hti
   split at hr
   ·rename_i e hk
    split at hr
    ·rename_i ei hei
     obtain⟨_,hch,hr⟩:=bsm hr
     obtain⟨p,hp,hr⟩:=bsm hr
     obtain⟨_,hpz,hr⟩:=bsm hr
     obtain⟨ys,hys,hr⟩:=bsm hr
     obtain⟨cs,hcs,hr⟩:=bsm hr
     obtain⟨cs',hcs',hr⟩:=bsm hr
     cases hr
     exact qzo hc hI hd h hop hcl (zb hx1) (zb hts) hti hk hei (qM hch).2 hx2 hx3 hp (qbh hpz) hys hcs hcs'
    ·cases hr
   ·cases hr
  ·cases hr
 ·obtain⟨vs,hvs,hr⟩:=bsm hr
  obtain⟨z,hz,hr⟩:=bsm hr
  cases hr
  refine qzp hI hd h hop hcl hvs ?_
  rw[<-hz]
theorem map_toArray(a:Act)(x:Array Operand)(l:List Value):x.map a.eval++l.toArray=(x.toList.map a.eval++l).toArray:=by
 apply zl8;simp
theorem Kq{c:Cx}{f:FuncId}{fn:Func}{b:Code}(hc:Ok c)(hF:c.F f=some fn)(hb:fn.body=some b)(args:Array Value)(w:World):(callFunc f args).run c.P w= .ok (.enter f args) w:=
 qdu (hc.F f fn hF) (hc.nm f fn hF) hb args w
theorem qus(hc:Ok c)(hI:Inv G w st a.tmps)(hd:jy o a)(h:Nat){R:Orc}(hR:vq c R){cl:Call}(hop:o.op= .call cl){f:FuncId}(hcl:cl.callee= .value (.func f)){fn:Func}(hF:c.F f=some fn){b:Code}(hb:fn.body=some b)
 {ti:TI} {r:SV×BE×Hp} (hr:jm c R h ti f [] (cl.args.toList.map (zt st.sl)) st.hp k3=some r):o.wp c.P a w (jk G w a (after h o st r.1 r.2.1 r.2.2)) Q:=by
 have hexec:(execOp a.eval o).run c.P w= .ok (.enter f (cl.args.toList.map a.eval++[]).toArray) w:=by
  simp only[execOp,hop,resolve,hcl,Act.eval,Deferred.ofValue]
  have:=Kq hc hF hb (cl.args.map a.eval++#[]) w
  rw[<-map_toArray,<-this]
  simp[invoke]
 by_cases h4:h=4
 ·subst h4
  refine qg1 hR hI hd hr (cvs:=[]) rfl (by intro i x v hx;simp at hx) (by simp[qz,qL,hop,hcl,qB]) (by simp[qz,qL,hop,hcl,qB]) ?_
  rw[zi4]at hexec
  exact hexec
 refine qg0 hR hI hd h hr (cvs:=[]) rfl (by intro i x v hx;simp at hx) h4 (by simp[qz,qL,hop,hcl,qB]) ?_
 exact hexec
theorem Vk{x:AV}{p:FuncId×List AV}(h:xN x=some p):x= .fn p.1 p.2:=by
 unfold xN at h
 split at h
 ·split at h
  ·cases h;rfl
  ·cases h
 ·cases h
theorem qhr{x:AV}{p:FuncId×List AV}(h:xN x=some p):Nat.blt p.1 4294967296=true:=by
 unfold xN at h
 split at h
 ·split at h
  ·cases h;assumption
  ·cases h
 ·cases h
theorem qev(f:Nat):Nat.blt (4294967296+f) 4294967296=false:=by
 cases e:Nat.blt (4294967296+f) 4294967296 with
 |false=>rfl
 |true=>
  have:4294967296+f<4294967296:=by simpa[Nat.blt_eq]using e
  omega
theorem qaf{c:Cx}{R:Orc}(hS:∀f xs hp r,R f xs hp=some r->∃fn b,c.F f=some fn/\fn.body=some b){h:Nat}{ti:TI}{f:FuncId}{caps:List AV}{as_:List SV}{hp:Hp}{r:SV×BE×Hp}
 (hr:jm c R h ti f caps as_ hp k3=some r):∃fn b,c.F f=some fn/\fn.body=some b:=by
 unfold jm at hr
 obtain⟨xs,hxs,hr⟩:=bsm hr
 split at hr
 ·obtain⟨p,hp',hr⟩:=bsm hr
  exact hS _ _ _ _ hp'
 ·split at hr
  ·obtain⟨p,hp',hr⟩:=bsm hr
   exact hS _ _ _ _ hp'
  ·obtain⟨_,_,hr⟩:=bsm hr
   obtain⟨p,hp',hr⟩:=bsm hr
   exact hS _ _ _ _ hp'
theorem qlb{x:AV}{p:FuncId×List AV}(h:Vm x=some p):x= .fn (4294967296+p.1) p.2:=by
 unfold Vm at h
 split at h
 ·rename_i f b0 c
  split at h
  ·cases h
  ·rename_i hb
   obtain rfl:=zit h
   have:¬(f<4294967296):=by
    intro e
    have:Nat.blt f 4294967296=true:=by simpa[Nat.blt_eq]using e
    rw[this]at hb;cases hb
   have e:4294967296+(f-4294967296)=f:=Nat.add_sub_of_le (Nat.le_of_not_lt this)
   show AV.fn f (b0::c)=AV.fn (4294967296+(f-4294967296)) (b0::c)
   rw[e]
 ·cases h
theorem qv1{x:AV}{p:FuncId×List AV}(h:Vm x=some p):p.2≠[]:=by
 unfold Vm at h
 split at h
 ·split at h
  ·cases h
  ·obtain rfl:=zit h
   exact List.cons_ne_nil _ _
 ·cases h
theorem qlf{F:Nat}{caps:List AV}{v:Value}(h:RelR G w (.fn F caps) v):
 (∃vs:List Value,v= .func (.func F) #[] vs.toArray/\(Nat.blt F 4294967296=true\/caps=[])/\caps.length=vs.length/\∀(k:Nat) (x:AV) (c:Value),caps[k]?=some x->vs[k]?=some c->RelR G w x c)\/
 (∃(f:FuncId) (vs:List Value),F=4294967296+f/\v= .func (.func f) vs.toArray #[]/\caps.length=vs.length/\∀(k:Nat) (x:AV) (c:Value),caps[k]?=some x->vs[k]?=some c->RelR G w x c):=by
 cases h with
 |fn _ _ vs h0 h1 h2=>exact .inl ⟨vs,rfl,h0,h1,h2⟩
 |fnb f _ vs h0 h1 h2=>exact .inr ⟨f,vs,rfl,rfl,h1,h2⟩
theorem qpu(hc:Ok c)(hI:Inv G w st a.tmps)(hd:jy o a){R:Orc}(hR:vq c R)(hS:∀f xs hp r,R f xs hp=some r->∃fn b,c.F f=some fn/\fn.body=some b)
 {cl:Call} (hop:o.op= .call cl) {t:Tmp} (hcl:cl.callee= .value (.tmp t)) {x:AV} (hx:zt st.sl (.tmp t)= .av x) {p:FuncId×List AV} (hp:Vm x=some p)
 {ti:TI} {r:SV×BE×Hp} (hr:jm c R 4 ti p.1 p.2 (cl.args.toList.map (zt st.sl)) st.hp k3=some r):o.wp c.P a w (jk G w a (after 4 o st r.1 r.2.1 r.2.2)) Q:=by
 have hxr:=vz hI (.tmp t)
 rw[hx,qlb hp]at hxr
 obtain⟨fn,b,hF,hb⟩:=qaf hS hr
 have key:∃vs:List Value,a.eval (.tmp t)= .func (.func p.1) vs.toArray #[]/\p.2.length=vs.length/\∀(k:Nat) (x:AV) (c:Value),p.2[k]?=some x->vs[k]?=some c->RelR G w x c:=by
  have hxr':RelR G w (.fn (4294967296+p.1) p.2) (a.eval (.tmp t)):=hxr
  rcases qlf hxr' with⟨vs,e1,h0,h1,h2⟩|⟨f,vs,e0,e1,h1,h2⟩
  ·rcases h0 with h0|h0
   ·rw[qev]at h0;cases h0
   ·exact absurd h0 (qv1 hp)
  ·have:f=p.1:=(Nat.add_left_cancel e0).symm
   subst this
   exact⟨vs,e1,h1,h2⟩
 obtain⟨vs,hv,h1,h2⟩:=key
 refine qg1 hR hI hd hr (cvs:=vs) h1 h2 (by simp[qz,qL,hop,hcl,qB]) (by simp[qz,qL,hop,hcl,qB]) ?_
 simp only[execOp,hop,resolve,hcl,hv,Deferred.ofValue]
 have:=Kq hc hF hb (vs.toArray++cl.args.map a.eval) w
 have e:vs.toArray++cl.args.map a.eval=(vs++cl.args.toList.map a.eval).toArray:=by apply zl8;simp
 rw[<-e,<-this]
 simp[invoke]
theorem qur(hc:Ok c)(hI:Inv G w st a.tmps)(hd:jy o a)(h:Nat)(h4:h≠4){R:Orc}(hR:vq c R)(hS:∀f xs hp r,R f xs hp=some r->∃fn b,c.F f=some fn/\fn.body=some b)
 {cl:Call} (hop:o.op= .call cl) {t:Tmp} (hcl:cl.callee= .value (.tmp t)) {x:AV} (hx:zt st.sl (.tmp t)= .av x) {p:FuncId×List AV} (hp:xN x=some p)
 {ti:TI} {r:SV×BE×Hp} (hr:jm c R h ti p.1 p.2 (cl.args.toList.map (zt st.sl)) st.hp k3=some r):o.wp c.P a w (jk G w a (after h o st r.1 r.2.1 r.2.2)) Q:=by
 have hxr:=vz hI (.tmp t)
 rw[hx,Vk hp]at hxr
 obtain⟨fn,b,hF,hb⟩:=qaf hS hr
 have hlt:=qhr hp
 have key:∃vs:List Value,a.eval (.tmp t)= .func (.func p.1) #[] vs.toArray/\p.2.length=vs.length/\∀(k:Nat) (x:AV) (c:Value),p.2[k]?=some x->vs[k]?=some c->RelR G w x c:=by
  have hxr':RelR G w (.fn p.1 p.2) (a.eval (.tmp t)):=hxr
  rcases qlf hxr' with⟨vs,e1,h0,h1,h2⟩|⟨f,vs,e0,e1,h1,h2⟩
  ·exact⟨vs,e1,h1,h2⟩
  ·rw[e0,qev]at hlt;cases hlt
 obtain⟨vs,hv,h1,h2⟩:=key
 refine qg0 hR hI hd h hr (cvs:=vs) h1 h2 h4 (by simp[qz,qL,hop,hcl,qB]) ?_
 simp only[execOp,hop,resolve,hcl,hv,Deferred.ofValue]
 have:=Kq hc hF hb (cl.args.map a.eval++vs.toArray) w
 rw[<-map_toArray,<-this]
 simp[invoke]
theorem qpt(hc:Ok c)(hI:Inv G w st a.tmps)(hd:jy o a)(h:Nat){cl:Call}(hop:o.op= .call cl){f:FuncId}(hcl:cl.callee= .value (.func f)){fn:Func}(hF:c.F f=some fn)(hb:fn.body=none)
 {vs:List Value} (hvs:qdd (cl.args.toList.map (zt st.sl))=some vs) {z:Value} (hz:one (c.X f vs)=some z):o.wp c.P a w (jk G w a (after h o st (.sv z) none st.hp)) Q:=by
 have he:=JX hI hvs
 refine vc hI h (by simp[qz,hop]) hd (zX hz).2 ?_
 simp only[execOp,hop,resolve,hcl,Act.eval,Deferred.ofValue]
 have:=hc.X f fn vs z hF hb (zX hz).1 w
 have hargs:cl.args.map a.eval=vs.toArray:=by rw[<-he];apply zl8;simp
 rw[<-this,hargs]
 simp[invoke]
theorem qwd(hI:Inv G w st a.tmps){xs:List Operand}{ys caps:List AV}{cvs:List Value}(hys:JY (xs.map (zt st.sl))=some ys)(hcl:caps.length=cvs.length)(hcaps:∀(i:Nat) (x:AV) (v:Value),caps[i]?=some x->cvs[i]?=some v->RelR G w x v):
 qmj G w (ys.map ro++caps) (xs.map a.eval++cvs):=by
 obtain⟨hl,hargs⟩:=vA hI hys
 refine⟨by simp[hl,hcl],fun i x v hx hv=>?_⟩
 by_cases hi:i<ys.length
 ·rw[zin (by simpa using hi)]at hx
  rw[zin qg]at hv
  obtain⟨y,hy,rfl⟩:=qr _ _ _ _ hx
  obtain⟨q,hq,hrel⟩:=hargs i y hy
  rw[zir,hq]at hv
  cases hv
  exact⟨fun _=>.fr,zi.ro (Ev.refl G w) _ hrel⟩
 ·rw[zil qg]at hx
  rw[zil qg]at hv
  simp only[zjg,<-hl]at hx hv
  exact⟨fun _=>.fr,((hcaps _ x v hx hv).c .fr).v⟩
theorem qm5(hc:Ok c)(hI:Inv G w st a.tmps)(hd:jy o a)(h:Nat){cl:Call}(hop:o.op= .call cl){v:Operand}(hcl:cl.callee= .value v){ti:TI}{f:FuncId}{caps:List AV}{cvs:List Value}{r:SV×BE×Hp}
 (hr:Vq c ti f caps (cl.args.toList.map (zt st.sl)) st.hp k3=some r) (h1:caps.length=cvs.length) (h2:∀(i:Nat) (x:AV) (v:Value),caps[i]?=some x->cvs[i]?=some v->RelR G w x v)
 (hexec:(execOp a.eval o).run c.P w=(callFunc f (cl.args.toList.map a.eval++cvs).toArray).run c.P w):o.wp c.P a w (jk G w a (after h o st r.1 r.2.1 r.2.2)) Q:=by
 unfold Vq at hr
 obtain⟨ys,hys,hr⟩:=bsm hr
 obtain⟨p,hp,hr⟩:=bsm hr
 rw[zH]at hr
 obtain⟨s,hs,hr⟩:=bsm hr
 cases hr
 exact zds hc hI hd h (by simp[qz,qL,hop,hcl]) (by simp[qz,hop]) (qwd hI hys h1 h2) hp hs hexec
theorem qzn(hc:Ok c)(hI:Inv G w st a.tmps)(hd:jy o a)(h:Nat){cl:Call}(hop:o.op= .call cl){f:FuncId}(hcl:cl.callee= .value (.func f)){ti:TI}{r:SV×BE×Hp}(hr:Vq c ti f [] (cl.args.toList.map (zt st.sl)) st.hp k3=some r):
 o.wp c.P a w (jk G w a (after h o st r.1 r.2.1 r.2.2)) Q:=by
 refine qm5 hc hI hd h hop hcl hr (cvs:=[]) rfl (fun i x v hx=>by simp at hx) ?_
 simp only[execOp,hop,resolve,hcl,Act.eval,Deferred.ofValue]
 have e:(cl.args.toList.map a.eval++[]).toArray=cl.args.map a.eval:=by rw[<-map_toArray];simp
 rw[e]
 simp[invoke]
theorem qzm(hc:Ok c)(hI:Inv G w st a.tmps)(hd:jy o a)(h:Nat){cl:Call}(hop:o.op= .call cl){t:Tmp}(hcl:cl.callee= .value (.tmp t)){x:AV}(hx:zt st.sl (.tmp t)= .av x){p:FuncId×List AV}(hp:xN x=some p)
 {ti:TI} {r:SV×BE×Hp} (hr:Vq c ti p.1 p.2 (cl.args.toList.map (zt st.sl)) st.hp k3=some r):o.wp c.P a w (jk G w a (after h o st r.1 r.2.1 r.2.2)) Q:=by
 have hxr:=vz hI (.tmp t)
 rw[hx,Vk hp]at hxr
 have hlt:=qhr hp
 have key:∃vs:List Value,a.eval (.tmp t)= .func (.func p.1) #[] vs.toArray/\p.2.length=vs.length/\∀(k:Nat) (x:AV) (c:Value),p.2[k]?=some x->vs[k]?=some c->RelR G w x c:=by
  have hxr':RelR G w (.fn p.1 p.2) (a.eval (.tmp t)):=hxr
  rcases qlf hxr' with⟨vs,e1,h0,h1,h2⟩|⟨f,vs,e0,e1,h1,h2⟩
  ·exact⟨vs,e1,h1,h2⟩
  ·rw[e0,qev]at hlt;cases hlt
 obtain⟨vs,hv,h1,h2⟩:=key
 refine qm5 hc hI hd h hop hcl hr h1 h2 ?_
 simp only[execOp,hop,resolve,hcl,hv,Deferred.ofValue]
 rw[<-map_toArray]
 simp[invoke]
theorem qum(hI:Inv G w st a.tmps)(hd:jy o a)(h:Nat)(h3:h=3){x:Operand}{k:TK}(hop:o.op= .move x){q:SV×Hp}{k0:TK}(hq:qle k0 st.hp (Wp k (zt st.sl x).ro)=some q):
 o.wp c.P a w (jk G w a (after h o st q.1 none q.2)) Q:=by
 have:=qm4 (c:=c) (Q:=Q) hI hd h (k:=k) hop
 rw[if_neg qc]at this
 exact Oper.wp_mono (fun a' w' hA=>qe5 hA hq) this
theorem qkp(hI:Inv G w st a.tmps)(hd:jy o a)(h:Nat){x:Operand}{k:TK}(hop:o.op= .assign x){q:SV×Hp}{k0:TK}(hq:qle k0 st.hp (Wp k (zt st.sl x))=some q):
 o.wp c.P a w (jk G w a (after h o st q.1 none q.2)) Q:=
 Oper.wp_mono (fun a' w' hA=>qe5 hA hq) (qax (c:=c) (Q:=Q) hI hd h (k:=k) hop)
theorem za3(hc:Ok c){R:Orc}(hR:vq c R)(hS:∀f xs hp r,R f xs hp=some r->∃fn b,c.F f=some fn/\fn.body=some b)(hI:Inv G w st a.tmps)(hd:jy o a)(h:Nat){r:SV×BE×Hp}
 (hr:qn c R h o (zt st.sl) (zQ st.bx) st.hp k3=some r):o.wp c.P a w (jk G w a (after h o st r.1 r.2.1 r.2.2)) Q:=by
 unfold qn at hr
 split at hr
 --move
 ·rename_i x hop
  split at hr
  ·rename_i ti hti
   split at hr
   ·rename_i h3
    rw[vm]at hr
    obtain⟨q,hq,hr⟩:=bsm hr
    cases hr
    exact qum hI hd h h3 hop hq
   ·cases hr
    exact qm4 hI hd h hop
  ·cases hr
 --assign
 ·rename_i x hop
  split at hr
  ·rename_i ti hti
   split at hr
   ·rw[vm]at hr
    obtain⟨q,hq,hr⟩:=bsm hr
    cases hr
    exact qkp hI hd h hop hq
   ·cases hr
    exact qax hI hd h hop
  ·cases hr
 --pick
 ·rename_i x y z hop
  exact qzk hI hd h hop hr
 --alloc
 ·rename_i t hop
  split at hr
  ·rename_i ti hti
   exact qut hc hI hd h hti hop hr
  ·cases hr
 --box
 ·rename_i t x hop
  split at hr
  ·rename_i ti hti
   exact zdt hc hI hd h hti hop hr
  ·cases hr
 --build
 ·rename_i t ps hop
  split at hr
  ·rename_i ti hti
   split at hr
   ·rename_i fs hk
    split at hr
    ·rename_i hall
     rw[jJ]at hr
     obtain⟨cs,hcs,hr⟩:=bsm hr
     cases hr
     exact qg2 hc hI hd h hti hop hk hcs (fun p hp=>zja.mp hall p hp)
    ·cases hr
   ·rename_i n e hk
    split at hr
    ·rename_i ei hei
     rw[jJ]at hr
     obtain⟨cs,hcs,hr⟩:=bsm hr
     cases hr
     exact qg3 hc hI hd h hti hop hk hei hcs
    ·cases hr
   ·cases hr
  ·cases hr
 --buildSlice
 ·rename_i t n ps hop
  split at hr
  ·rename_i ti hti
   split at hr
   ·rename_i e hk
    split at hr
    ·rename_i ei hei
     split at hr
     ·rename_i hn
      rw[jJ]at hr
      obtain⟨cs,hcs,hr⟩:=bsm hr
      obtain⟨_,hvl,hr⟩:=bsm hr
      cases hr
      exact WG hc hI hd h hti hop hk hei hn.1 hn.2 (qg5 hvl) hcs
     ·cases hr
    ·cases hr
   ·cases hr
  ·cases hr
 --load
 ·rename_i t x hop
  split at hr
  ·rename_i ti hti
   split at hr
   ·rename_i h3
    simp only[vm]at hr
    rw[xn]at hr
    obtain⟨q,hq,hr⟩:=bsm hr
    obtain⟨q',hq',hr⟩:=bsm hr
    cases hr
    have e:∀{R:Type} (K:Kt R),zY 0 ti (zt st.sl x) (zQ st.bx) st.hp K=zY 3 ti (zt st.sl x) (zQ st.bx) st.hp K:=fun K=>rfl
    subst h3
    exact Oper.wp_mono (fun a' w' hA=>qe5 hA hq') (qgy hc hI hd 3 qf hti hop hq)
   ·by_cases h1:h=1
    ·subst h1
     exact qun hc hI hd hti hop hr
    ·exact qgy hc hI hd h h1 hti hop hr
  ·cases hr
 --store
 ·rename_i t x y hop
  split at hr
  ·rename_i ti hti
   exact quk hc hI hd h hti hop hr
  ·cases hr
 --nilCheck
 ·rename_i x hop
  exact qgw hI hd h hop hr
 --binOp
 ·rename_i op t x y yt hop
  exact zdv hc hI hd h hop hr
 --unOp
 ·rename_i op t x hop
  exact zgt hI hd h hop hr
 --convert
 ·rename_i s d x hop
  split at hr
  ·rename_i si di hsi hdi
   exact qkn hc hI hd h hsi hdi hop hr
  ·cases hr
 --makeFunc
 ·rename_i f fs cs hop
  split at hr
  ·rename_i hfs
   obtain⟨xs,hxs,hr⟩:=bsm hr
   obtain⟨_,hall,hr⟩:=bsm hr
   obtain⟨_,hK,hr⟩:=bsm hr
   cases hr
   exact qgx hI hd h hop hfs hxs (vO hall) (vO hK)
  ·rename_i hfs
   split at hr
   ·rename_i hcs
    obtain⟨xs,hxs,hr⟩:=bsm hr
    obtain⟨_,hall,hr⟩:=bsm hr
    cases hr
    exact qd4 hI hd h hop hfs hcs hxs (vO hall)
   ·cases hr
 --makeSlice
 ·rename_i t l m hop
  split at hr
  ·rename_i ti hti
   split at hr
   ·rename_i e hk
    split at hr
    ·rename_i ei hei
     obtain⟨lv,hlv,hr⟩:=bsm hr
     obtain⟨mv,hmv,hr⟩:=bsm hr
     obtain⟨n,hn,hr⟩:=bsm hr
     obtain⟨n',hn',hr⟩:=bsm hr
     obtain⟨_,hq,hr⟩:=bsm hr
     obtain⟨e1,h0,hf,hpos⟩:=qM hq
     exact qd2 hc hI hd h hti hop hk hei (ju hlv) (ju hmv) hn (by rw[e1];exact hn') h0 hf hpos hr
    ·cases hr
   ·cases hr
  ·cases hr
 --slice
 ·rename_i t x lo hi mx hop
  split at hr
  ·rename_i ti hti
   split at hr
   ·cases hr
   ·rename_i hmx
    exact qul hc hI hd h hti hop (by cases hq:(mx.isSome&&!hi.isSome)<;>first|rfl|exact absurd hq hmx) hr
  ·cases hr
 --fieldAddr
 ·rename_i t x f hop
  split at hr
  ·rename_i ti hti
   exact qd6 hc hI hd h hti hop hr
  ·cases hr
 --field
 ·rename_i t x f hop
  split at hr
  ·rename_i ti hti
   split at hr
   ·rename_i fs hk
    split at hr
    ·rename_i fo ft hfs
     split at hr
     ·rename_i fi hfi
      obtain⟨cs,hcs,hr⟩:=bsm hr
      rw[qE]at hr
      obtain⟨q,hq,hr⟩:=bsm hr
      cases hr
      exact quq hc hI hd h hti hop hk hfs hfi hcs hq
     ·cases hr
    ·cases hr
   ·cases hr
  ·cases hr
 --indexAddr
 ·rename_i t x i hop
  split at hr
  ·rename_i ti hti
   exact qd5 hc hI hd h hti hop hr
  ·cases hr
 --index
 ·rename_i t x i hop
  split at hr
  ·rename_i ti hti
   split at hr
   ·exact qup hI hd h hop hr
   ·split at hr
    ·rename_i xi hxi
     split at hr
     ·rename_i n e hk
      split at hr
      ·rename_i ei hei
       obtain⟨cs,hcs,hr⟩:=bsm hr
       obtain⟨iv,hiv,hr⟩:=bsm hr
       obtain⟨j,hj,hr⟩:=bsm hr
       rw[qE]at hr
       obtain⟨q,hq,hr⟩:=bsm hr
       cases hr
       exact qps hc hI hd h hxi hop hk hei hcs hiv hj hq
      ·cases hr
     ·cases hr
    ·cases hr
  ·cases hr
 --extract
 ·rename_i x i hop
  split at hr
  ·rename_i l hx
   split at hr
   ·rename_i y hy
    have ht:∃t,x= .tmp t:=by
     cases x with
     |tmp t=>exact⟨t,rfl⟩
     |const v=>
      simp only[zt]at hx
      split at hx
      ·split at hx<;>cases hx
      ·cases hx
      ·cases hx
     |global g=>cases hx
     |func f=>cases hx
    obtain⟨t,rfl⟩:=ht
    split at hr
    ·rename_i ti hti
     by_cases h1:h=1
     ·subst h1
      split at hr
      ·obtain⟨v,hv,hr⟩:=bsm hr
       cases hr
       exact Xb hI hd hop hx hy (.inl ⟨v,yX hv,rfl⟩)
      ·rw[if_pos rfl]at hr
       cases hr
       exact Xb hI hd hop hx hy (.inr rfl)
     ·split at hr
      ·obtain⟨v,hv,hr⟩:=bsm hr
       cases hr
       exact KX hI hd h h1 hop hx hy (.inl ⟨v,yX hv,rfl⟩)
      ·cases hr
       exact KX hI hd h h1 hop hx hy (.inr rfl)
    ·cases hr
   ·cases hr
  ·cases hr
 --makeInterface
 ·rename_i t x hop
  obtain⟨e,he,hr⟩:=bsm hr
  obtain⟨y,hy,hr⟩:=bsm hr
  obtain⟨_,hs,hr⟩:=bsm hr
  cases hr
  exact qd3 hI hd h hop he hy (qM hs)
 --makeMap
 ·rename_i t hop
  split at hr
  ·cases hr
   exact qkm hI hd h hop
  ·cases hr
 --lookup
 ·rename_i t x i ok hop
  split at hr
  ·exact qpr hc hI hd h hop hr
  ·cases hr
 --mapUpdate
 ·rename_i t m k x hop
  split at hr
  ·exact qpq hc hI hd h hop hr
  ·cases hr
 --call
 ·rename_i cl hop
  split at hr
  ·rename_i b hcl
   exact zdu hc hI hd h hop hcl hr
  ·rename_i f hcl
   split at hr
   ·rename_i fn ti hF hti
    split at hr
    ·rename_i b hb
     exact qus hc hI hd h hR hop hcl hF hb hr
    ·rename_i hb
     split at hr
     ·exact qzn hc hI hd h hop hcl hr
     ·obtain⟨vs,hvs,hr⟩:=bsm hr
      obtain⟨z,hz,hr⟩:=bsm hr
      cases hr
      exact qpt hc hI hd h hop hcl hF hb hvs hz
   ·cases hr
  ·rename_i t hcl
   split at hr
   ·rename_i ti hti
    split at hr
    ·rename_i x hx
     split at hr
     ·rename_i h4
      subst h4
      obtain⟨p,hp,hr⟩:=bsm hr
      exact qpu hc hI hd hR hS hop hcl hx hp hr
     ·rename_i h4
      split at hr
      ·obtain⟨p,hp,hr⟩:=bsm hr
       exact qzm hc hI hd h hop hcl hx hp hr
      ·obtain⟨p,hp,hr⟩:=bsm hr
       exact qur hc hI hd h h4 hR hS hop hcl hx hp hr
    ·cases hr
   ·cases hr
  ·cases hr
 ·cases hr
end
end Go.Proofs.YtoliekekdmfngaaGreat.AI
