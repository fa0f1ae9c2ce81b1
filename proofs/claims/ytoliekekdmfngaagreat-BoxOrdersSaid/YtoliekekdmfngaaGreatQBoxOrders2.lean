/- Texts that the proof of BoxOrders rests on, part 2. -/
import Derived.Test.YtoliekekdmfngaaGreatQBoxOrders1
import Derived.Lib.SliceRun
import Derived.Laws.Pointers
import Derived.Laws.BytesString
import Derived.Laws.AppendOwn
import Derived.Laws.IdiomStrings
import Derived.Laws.MakeOwn
import Derived.Great.BuildSlice
import Derived.Lib.ConvBytes
import Derived.MapKept
import Derived.Orders
namespace Go.Proofs.YtoliekekdmfngaaGreat.AI
open Go
set_option linter.unusedVariables false
set_option linter.unusedSimpArgs false
set_option maxRecDepth 100000
set_option maxHeartbeats 0
def wn:Operand->Nat
 | .tmp t=>t
 |_=>0
def jx(G:Gh)(w:World)(a:Act)(st':St)(a':Act)(w':World):Prop:=
 ∃G',Inv G' w' st' a'.tmps/\Fr G w G' w'/\a'.tmps.size=a.tmps.size/\a'.defers=a.defers
section
variable {c:Cx}{G:Gh}{w:World}{st:St}{a:Act}{P:Program}{o:Oper}{Q:Exit->Act->World->Prop}
theorem qw{v:Value}{w':World}{K:Act->World->Prop}(hr:(execOp a.eval o).run P w= .ok (.value v) w')(hk:K (a.put o.dst v) w'):o.wp P a w K Q:=by
 unfold Oper.wp;rw[hr];exact hk
theorem Xr{w':World}{K:Act->World->Prop}(hr:(execOp a.eval o).run P w= .ok .skip w')(hk:K (a.put o.dst undef) w'):o.wp P a w K Q:=by
 unfold Oper.wp;rw[hr];exact hk
theorem wo(hI:Inv G w st a.tmps)(x:Operand):qL G w (wn x) (zy st.sl x) (a.eval x):=by
 cases x with
 |tmp t=>exact hI.slots t
 |const v=>
  simp only[zy,wn,Act.eval]
  split
  ·rename_i cs
   split
   ·rename_i hall
    refine⟨cs.toList,qf,qf,fun i x c hx hc=>?_⟩
    obtain⟨y,hy,rfl⟩:=qv _ _ _ _ hx
    have e:y=c:=by rw[hy]at hc;exact zgy hc
    subst e
    exact RelR.sc y (zg9.mp hall y (zgo hy))
   ·trivial
  ·trivial
  ·rename_i h1 h2
   refine⟨rfl,?_⟩
   cases v<;>first|rfl|exact(h1 _ rfl).elim|exact(h2 _ rfl).elim
 |global g=>trivial
 |func f=>exact RelR.fn f [] [] (.inr rfl) rfl (by intro k x c hx;simp at hx)
theorem yd(hI:Inv G w st a.tmps){x:Operand}{v:Value}(h:zy st.sl x= .sv v):a.eval x=v/\v.oneCell'=true:=by
 have:=wo hI x
 rw[h]at this
 exact⟨this.1,this.2⟩
theorem jH{s:SV}{v:Value}(h:xz s=some v):s= .sv v:=by
 cases s<;>simp[xz]at h
 rw[h]
theorem Inv.dn(hI:Inv G w st a.tmps)(ts:List Nat):Inv G w ⟨qG ts st.sl,st.bx,st.hp⟩ a.tmps where
 slots k:=by
  have h:=hI.slots k
  show qL G w k (qE (qG ts st.sl) k) _
  rw[zo]
  split
  ·exact qL.ro (Ev.refl G w) k (fun _ _ _ _ _ h=>h) h
  ·exact h
 boxes:=hI.boxes
 heap:=hI.heap
 next:=hI.next
 hlt:=hI.hlt
 new:=hI.new
 vars:=hI.vars
 lps j k g off h:=by
  have h':qE (qG ts st.sl) j= .lp k g off:=h
  rw[zo]at h'
  split at h'
  ·exact hI.lps j k g off (ZI.mp h')
  ·exact hI.lps j k g off h'
theorem Inv.put(hI:Inv G w st a.tmps)(d:Option Nat)(hd:∀k,d=some k->k<a.tmps.size){s:SV}{v:Value}(hs:∀k,d=some k->qL G w k s v)
 (hl:∀k g off,s= .lp k g off->∃g' cs,zK st.bx k=some (g',cs)/\g<=g'):Inv G w ⟨vD st.sl d s,st.bx,st.hp⟩ (a.put d v).tmps:=by
 cases d with
 |none=>exact hI
 |some d=>
  exact{
   slots:=fun k=>by
    show qL G w k (qE ((d,s)::st.sl) k) _
    rw[za,Zo a d v (hd d rfl)]
    split
    ·rename_i e;subst e;exact hs d rfl
    ·exact hI.slots k
   boxes:=hI.boxes
   heap:=hI.heap
   next:=hI.next
   hlt:=hI.hlt
   new:=hI.new
   vars:=hI.vars
   lps:=fun j k g off h=>by
    have h':qE ((d,s)::st.sl) j= .lp k g off:=h
    rw[za]at h'
    split at h'
    ·exact hl k g off h'
    ·exact hI.lps j k g off h'}
theorem qD(hI:Inv G w st a.tmps)(h:Nat)(ho:qF h o st.sl=qG (qN h o) st.sl)(hd:∀k,o.dst=some k->k<a.tmps.size){s:SV}{v:Value}
 (hs:∀k,qL G w k s v) (hl:∀k g off,s= .lp k g off->∃g' cs,zK st.bx k=some (g',cs)/\g<=g'):
 jx G w a (after h o st s none st.hp) (a.put o.dst v) w:=by
 refine⟨G,?_,Fr.refl G w,zb _ _ _,qI _ _ _⟩
 unfold after
 rw[ho]
 exact(hI.dn (qN h o)).put o.dst hd (fun k _=>hs k) hl
def mvR(t d:Nat):Ow->Ow
 | .sl k j i=>if k=t then .sl d j i else .sl k j i
 |p=>p
theorem qym(t d:Nat):Rho (mvR t d) where
 fr:=rfl
 oth:=rfl
 box p k g h:=by
  cases p<;>simp only[mvR]at h<;>first|exact h|(split at h<;>cases h)
 obj p k g h:=by
  cases p<;>simp only[mvR]at h<;>first|exact h|(split at h<;>cases h)
theorem Inv.relNew(hI:Inv G w st a.tmps){f:Ow->Ow}(hf:Rho f):(∀b,w.heap.size<=b->(G.rel f).Om b= .fr/\(G.rel f).I b=0)/\
 (∀b,(∃k g,(G.rel f).Om b= .box k g)\/(∃k g,(G.rel f).Om b= .obj k g)->(G.rel f).I b=0):=by
 refine⟨fun b hb=>⟨?_,(hI.new b hb).2⟩,fun b hb=>hI.vars b ?_⟩
 ·simp[Gh.rel,(hI.new b hb).1,hf.fr]
 ·rcases hb with⟨k,g,h⟩|⟨k,g,h⟩
  ·exact .inl ⟨k,g,hf.box _ _ _ h⟩
  ·exact .inr ⟨k,g,hf.obj _ _ _ h⟩
theorem qco{k:TK}{j:Nat}{s:SV}{v:Value}(h:qL G w j s v):qL G w j (VG k s) v:=by
 cases s with
 |sv u=>
  simp only[VG]
  split
  ·exact h
  ·obtain⟨rfl,h1⟩:=h
   exact RelR.sc _ h1
 |_=>exact h
theorem qi2{k:TK}{s:SV}{j g off:Nat}:VG k s= .lp j g off↔s= .lp j g off:=by
 cases s<;>simp only[VG]
 split<;>simp
theorem qgs(hI:Inv G w st a.tmps)(t d:Nat)(k:TK)(hd:d<a.tmps.size)(ts:List Nat)(hts:t∈ts):
 jx G w a ⟨(d,VG k (qE st.sl t))::qG ts st.sl,st.bx,st.hp⟩ (a.put (some d) (a.tmps.getD t undef)) w:=by
 have hr:=qym t d
 have he:Ev G w (G.rel (mvR t d)) w:=(Fr.rel hr).ev
 refine⟨G.rel (mvR t d),?_,Fr.rel hr,zb _ _ _,qI _ _ _⟩
 obtain⟨hn,hv⟩:=hI.relNew hr
 exact{
  slots:=fun j=>by
   show qL _ w j (qE ((d,VG k (qE st.sl t))::qG ts st.sl) j) _
   rw[za,Zo a d _ hd]
   split
   ·rename_i e;subst e
    refine qco (qL.ev he (k:=t) (k':=d) (fun j i b hb=>⟨rfl,rfl,?_⟩) (fun _ _ _ _ _ h=>h) (hI.slots t))
    simp[Gh.rel,hb,mvR]
   ·rw[zo]
    split
    ·exact qL.ro he (k:=j) j (fun _ _ _ _ _ h=>h) (hI.slots j)
    ·rename_i hne
     refine qL.ev he (k:=j) (k':=j) (fun j' i b hb=>⟨rfl,rfl,?_⟩) (fun _ _ _ _ _ h=>h) (hI.slots j)
     have:j≠t:=by rintro rfl;exact hne hts
     simp[Gh.rel,hb,mvR,this]
  boxes:=fun j g cs h=>by
   obtain⟨blk,h1,h2,h3⟩:=hI.boxes j g cs h
   exact⟨blk,h1,by simp[Gh.rel,h2,mvR],h3.ev he rfl fun i b hb=>⟨rfl,rfl,by simp[Gh.rel,hb,mvR]⟩⟩
  heap:=fun j g cs h=>by
   obtain⟨blk,h1,h2,h3⟩:=hI.heap j g cs h
   exact⟨blk,h1,by simp[Gh.rel,h2,mvR],h3.ev he rfl fun i b hb=>⟨rfl,rfl,by simp[Gh.rel,hb,mvR]⟩⟩
  next:=hI.next
  hlt:=hI.hlt
  new:=hn
  vars:=hv
  lps:=fun i j g off h=>by
   have h':qE ((d,VG k (qE st.sl t))::qG ts st.sl) i= .lp j g off:=h
   rw[za]at h'
   split at h'
   ·exact hI.lps t j g off (qi2.mp h')
   ·rw[zo]at h'
    split at h'
    ·exact hI.lps i j g off (ZI.mp h')
    ·exact hI.lps i j g off h'}
theorem qyg{x:Operand}(hx:∀t,x≠ .tmp t)(hI:Inv G w st a.tmps)(k:Nat):qL G w k (zy st.sl x) (a.eval x):=by
 have h:=wo hI x
 cases x with
 |tmp t=>exact absurd rfl (hx t)
 |const v=>
  revert h
  simp only[zy,wn,Act.eval]
  split
  ·split
   ·rintro⟨vs,h1,h2,h3⟩
    refine⟨vs,h1,h2,fun i x c hx hc=>?_⟩
    have:=h3 i x c hx hc
    obtain⟨y,hy,rfl⟩:=qv _ _ _ _ hx
    exact this
   ·exact id
  ·exact id
  ·exact id
 |global g=>trivial
 |func f=>exact RelR.fn f [] [] (.inr rfl) rfl (by intro k x c hx;simp at hx)
theorem zct{sl:Slots}{x:Operand}{k g off:Nat}(h:zy sl x= .lp k g off):∃t,x= .tmp t/\qE sl t= .lp k g off:=by
 cases x with
 |tmp t=>exact⟨t,rfl,h⟩
 |const v=>
  simp only[zy]at h
  split at h
  ·split at h<;>cases h
  ·cases h
  ·cases h
 |global g=>cases h
 |func f=>cases h
theorem WH(hI:Inv G w st a.tmps){x:Operand}{k g off:Nat}(h:zy st.sl x= .lp k g off):∃g' cs,zK st.bx k=some (g',cs)/\g<=g':=by
 obtain⟨t,rfl,ht⟩:=zct h
 exact hI.lps t k g off ht
theorem qgt(hI:Inv G w st a.tmps)(x:Operand)(k:TK)(h:Nat)(ho:qF h o st.sl=qG (zF [x]) st.sl)(hd:∀k,o.dst=some k->k<a.tmps.size):
 jx G w a (after h o st (VG k (zy st.sl x)) none st.hp) (a.put o.dst (a.eval x)) w:=by
 unfold after
 rw[ho]
 cases hdst:o.dst with
 |none=>exact⟨G,hI.dn _,Fr.refl G w,rfl,rfl⟩
 |some d=>
  by_cases hx:∃t,x= .tmp t
  ·obtain⟨t,rfl⟩:=hx
   exact qgs hI t d k (hd d hdst) _ (by simp[zF])
  ·have hx':∀t,x≠ .tmp t:=fun t e=>hx ⟨t,e⟩
   have hto:zF [x]=[]:=by cases x<;>first|rfl|exact absurd rfl (hx' _)
   rw[hto]
   refine⟨G,?_,Fr.refl G w,zb _ _ _,qI _ _ _⟩
   exact hI.put (some d) (fun k hk=>by cases hk;exact hd d hdst) (fun k _=>qco (qyg hx' hI k)) (fun j g off e=>WH hI (qi2.mp e))
end
theorem jS{α:Type}{P:Program}:∀{s:Sem α} {x:α},qP P s=some x->∀w,s.run P w= .ok x w:=by
 intro s
 induction s with
 |pure a=>intro x h w;simp only[qP]at h;cases h;rfl
 |program k ih=>intro x h w;simp only[qP]at h;simp only[Sem.run];exact ih P h w
 |mark m k ih=>intro x h w;simp only[qP]at h;simp only[Sem.run];exact ih h w
 |load _ _ _ _=>intro x h;cases h
 |store _ _ _ _ _=>intro x h;cases h
 |new _ _ _=>intro x h;cases h
 |shape _ _ _=>intro x h;cases h
 |freeze _ _ _ _=>intro x h;cases h
 |frozen _ _ _=>intro x h;cases h
 |getObj _ _ _=>intro x h;cases h
 |setObj _ _ _ _=>intro x h;cases h
 |choose _ _ _=>intro x h;cases h
 |sys _ _ _=>intro x h;cases h
 |halt _=>intro x h;cases h
theorem zS{o:Option Value}{z:Value}(h:one o=some z):o=some z/\z.oneCell'=true:=by
 unfold one at h
 obtain⟨y,hy,h⟩:=bsm h
 split at h
 ·cases h;exact⟨hy,by assumption⟩
 ·cases h
theorem Jl{v:Value}{b:Bool}(h:asB v=some b):v= .bool b:=by
 cases v<;>simp[asB]at h
 rw[h]
theorem Jk{v:Value}{n:Int}(h:YP v=some n):∃k,v= .int k n:=by
 cases v<;>simp[YP]at h
 exact⟨_,by rw[h]⟩
theorem qj4{v:Value}{s:ByteArray}(h:KZ v=some s):v= .string s:=by
 cases v<;>simp[KZ]at h
 rw[h]
theorem xV{v:Value}(h:kL v=true):v= .slice none 0 0:=by
 unfold kL at h
 split at h
 ·rfl
 ·cases h
theorem yK{x:AV}{v:Value}(h:vb x=some v):x= .sc v:=by
 cases x<;>simp[vb]at h
 rw[h]
theorem xZ{cs:List AV}{i:Nat}{v:Value}(h:qj cs i=some v):cs[i]?=some (.sc v):=by
 unfold qj at h
 obtain⟨x,hx,h⟩:=bsm h
 rw[hx,yK h]
section
variable {c:Cx}{G:Gh}{w:World}{st:St}{a:Act}{o:Oper}{Q:Exit->Act->World->Prop}
abbrev jJ(o:Oper)(a:Act):Prop:=∀k,o.dst=some k->k<a.tmps.size
theorem kE(hI:Inv G w st a.tmps)(h:Nat)(ho:qF h o st.sl=qG (qN h o) st.sl)(hd:jJ o a){z:Value}(h1:z.oneCell'=true)
 (hr:(execOp a.eval o).run c.P w= .ok (.value z) w):o.wp c.P a w (jx G w a (after h o st (.sv z) none st.hp)) Q:=
 qw hr (qD hI h ho hd (fun _=>⟨rfl,h1⟩) (fun _ _ _ e=>by cases e))
theorem qlb(hI:Inv G w st a.tmps)(hd:jJ o a)(h:Nat){x:Operand}{k:TK}(hop:o.op= .move x):
 o.wp c.P a w (jx G w a (after h o st (if h=1 then VG k (zy st.sl x)else VG k (zy st.sl x).ro) none st.hp)) Q:=by
 have hr:(execOp a.eval o).run c.P w= .ok (.value (a.eval x)) w:=by simp only[execOp,hop];rfl
 refine qw hr ?_
 split
 ·rename_i h1
  exact qgt hI x k h (by simp[qF,qN,hop,h1]) hd
 ·rename_i h1
  refine qD hI h (by simp[qF,hop]) hd (fun j=>qco (qL.ro (Ev.refl G w) j (fun _ _ _ _ _ h=>h) (wo hI x))) (fun j g off e=>WH hI (ZI.mp (qi2.mp e)))
theorem Wy(hI:Inv G w st a.tmps)(hd:jJ o a)(h:Nat){x:Operand}{k:TK}(hop:o.op= .assign x):
 o.wp c.P a w (jx G w a (after h o st (VG k (zy st.sl x)) none st.hp)) Q:=by
 have hr:(execOp a.eval o).run c.P w= .ok (.value (a.eval x)) w:=by simp only[execOp,hop];rfl
 exact qw hr (qgt hI x k h (by simp[qF,qN,hop]) hd)
theorem qx5(hI:Inv G w st a.tmps)(hd:jJ o a)(h:Nat){x y z:Operand}(hop:o.op= .pick x y z){r:SV×BE×Hp}
 (hr:(Ka (zy st.sl x) (zy st.sl y) (zy st.sl z) fun s=>some (s,none,st.hp))=some r):
 o.wp c.P a w (jx G w a (after h o st r.1 r.2.1 r.2.2)) Q:=by
 unfold Ka at hr
 obtain⟨v,hv,hr⟩:=bsm hr
 obtain⟨t,ht,hr⟩:=bsm hr
 obtain⟨hx,_⟩:=yd hI (jH hv)
 rw[Jl ht]at hx
 have hrun:(execOp a.eval o).run c.P w= .ok (.value (if t then a.eval y else a.eval z)) w:=by
  simp only[execOp,hop,hx,asBool];cases t<;>rfl
 refine qw hrun ?_
 split at hr
 ·rename_i u u' hy hz
  cases hr
  obtain⟨e1,o1⟩:=yd hI hy
  obtain⟨e2,o2⟩:=yd hI hz
  refine qD hI h (by simp[qF,hop]) hd (fun _=>?_) (fun _ _ _ e=>by cases e)
  rw[e1,e2]
  cases t
  ·exact⟨rfl,o2⟩
  ·exact⟨rfl,o1⟩
 ·cases t
  ·cases hr
   exact qD hI h (by simp[qF,hop]) hd (fun j=>qL.ro (Ev.refl G w) j (fun _ _ _ _ _ h=>h) (wo hI z)) (fun j g off e=>WH hI (ZI.mp e))
  ·cases hr
   exact qD hI h (by simp[qF,hop]) hd (fun j=>qL.ro (Ev.refl G w) j (fun _ _ _ _ _ h=>h) (wo hI y)) (fun j g off e=>WH hI (ZI.mp e))
theorem qah:∀{cs:List AV} {vs l:List Value} {p:Nat->Ow},cs.length=vs.length->(∀(i:Nat) (x:AV) (c:Value),cs[i]?=some x->vs[i]?=some c->jt G w (p i) x c)->
 kT cs=some l->vs=l
 |[],vs,l,p,hl,h,h'=>by
  simp only[kT]at h';cases h'
  exact zhk.mp hl.symm
 |x::r,[],l,p,hl,h,h'=>by simp at hl
 |x::r,v::vs,l,p,hl,h,h'=>by
  have hx:=h 0 x v rfl rfl
  cases x with
  |sc u=>
   cases hx
   simp only[kT]at h'
   cases hr:kT r with
   |none=>rw[hr]at h';cases h'
   |some l'=>
    rw[hr]at h';cases h'
    have:=qah (p:=fun i=>p (i+1)) (by simpa using hl) (fun i x c hx hc=>h (i+1) x c (by simpa using hx) (by simpa using hc)) hr
    rw[this]
  |_=>simp[kT]at h'
theorem Qo{p:Nat->Ow}{x:AV}{v u:Value}(h:zj G w p x v)(hc:ye x=some u):v=u:=by
 cases x with
 |sc z=>
  simp only[ye]at hc;cases hc
  cases h;rfl
 |agg cs=>
  obtain⟨vs,rfl,h2,h3⟩:=h
  simp only[ye]at hc
  cases hl:kT cs with
  |none=>rw[hl]at hc;cases hc
  |some l=>rw[hl]at hc;cases hc;rw[qah h2 h3 hl]
 |_=>simp[ye]at hc
theorem qow(hI:Inv G w st a.tmps){x:Operand}{u:Value}(hc:WV (zy st.sl x)=some u):a.eval x=u:=by
 have h:=wo hI x
 cases hs:zy st.sl x with
 |sv v=>rw[hs]at h hc;simp only[WV]at hc;cases hc;exact h.1
 |av y=>rw[hs]at h hc;exact Qo h hc
 |_=>rw[hs]at hc;simp[WV]at hc
theorem qxe{op:BinOp}{t:TypeId}{x y:Operand}{u v z:Value}(hz:qt c.P op t x y u v=some z)(w:World):
 (do eqGuard op t x y u v;Go.binOp op t u v:Sem Value).run c.P w= .ok z w/\z.oneCell'=true:=
 ⟨jS (zS hz).1 w,(zS hz).2⟩
theorem qtu{p:Nat->Ow}{x:AV}{v:Value}{n:Bool}(h:zj G w p x v)(hn:qe6 x=some n):
 (∃A N C,v= .slice (some A) N C/\n=false)\/(∃N C,v= .slice none N C/\n=true):=by
 cases x with
 |sl s cs=>cases hn;cases h<;>exact .inl ⟨_,_,_,rfl,rfl⟩
 |us s cs=>cases hn;obtain⟨b,_,ht⟩:=h;obtain⟨n,cap,arr,e,h1,_⟩:=ht.ex;exact .inl ⟨_,_,_,h1,rfl⟩
 |ms b g off l sz=>cases hn;cases h;exact .inl ⟨_,_,_,rfl,rfl⟩
 |sc u=>
  cases h
  cases v<;>simp[qe6]at hn
  rename_i A N C _
  cases A
  ·exact .inr ⟨_,_,rfl,(zgy hn).symm⟩
  ·cases hn
 |_=>simp[qe6]at hn
theorem qtt{p:Nat->Ow}{x:AV}{v:Value}{n:Bool}(h:zj G w p x v)(hn:JN x=some n):∃A:Option Addr,v= .pointer A/\n=A.isNone:=by
 cases x with
 |ptr b g off=>cases hn;cases h;exact⟨_,rfl,rfl⟩
 |sc u=>
  cases h
  cases v<;>try (simp[JN]at hn;done)
  rename_i A _
  cases A with
  |none=>exact⟨none,rfl,(zgy hn).symm⟩
  |some q=>cases hn
 |_=>simp[JN]at hn
theorem qof{v:Value}(h:qjg v=true):v= .pointer none:=by
 unfold qjg at h
 split at h
 ·rfl
 ·cases h
theorem qec{P:Program}{t e:TypeId}(h:P.underlying t=some (.slice e))(x y:Operand)(A:Option Addr)(N C:Nat)(w:World):
 (do eqGuard .eql t x y (.slice A N C) nil0;Go.binOp .eql t (.slice A N C) nil0:Sem Value).run P w= .ok (.bool A.isNone) w:=by
 have h1:eqGuard .eql t x y (.slice A N C) nil0=pure ():=rfl
 rw[h1,pure_bind]
 simp only[Go.binOp,nil0]
 simp[Op.equal,Op.maxDepth,Lib.run_equalIn_slice_nil w 9999 t e A N C 0 0 h]
theorem qd7{P:Program}{t e:TypeId}(h:P.underlying t=some (.slice e))(x y:Operand)(A:Option Addr)(N C:Nat)(w:World):
 (do eqGuard .neq t x y (.slice A N C) nil0;Go.binOp .neq t (.slice A N C) nil0:Sem Value).run P w= .ok (.bool (!A.isNone)) w:=by
 have h1:eqGuard .neq t x y (.slice A N C) nil0=pure ():=rfl
 rw[h1,pure_bind]
 simp only[Go.binOp,nil0]
 simp[Op.equal,Op.maxDepth,Lib.run_equalIn_slice_nil w 9999 t e A N C 0 0 h]
theorem zbx(hc:Ok c)(hI:Inv G w st a.tmps)(hd:jJ o a)(h:Nat){op:BinOp}{t yt:TypeId}{x y:Operand}(hop:o.op= .binOp op t x y yt){r:SV×BE×Hp}
 (hr:(qj3 c op t x y (zy st.sl x) (zy st.sl y) fun s=>some (s,none,st.hp))=some r):o.wp c.P a w (jx G w a (after h o st r.1 r.2.1 r.2.2)) Q:=by
 have key:∀u v z,a.eval x=u->a.eval y=v->qt c.P op t x y u v=some z->o.wp c.P a w (jx G w a (after h o st (.sv z) none st.hp)) Q:=by
  intro u v z hu hv hz
  obtain⟨h1,h2⟩:=qxe hz w
  refine kE hI h (by simp[qF,hop]) hd h2 ?_
  simp only[execOp,hop,hu,hv]
  rw[Sem.run_bind,h1];rfl
 have hxr:=wo hI x
 have hyr:=wo hI y
 unfold qj3 at hr
 split at hr
 ·rename_i u v hx hy
  obtain⟨z,hz,hr⟩:=bsm hr
  cases hr
  exact key u v z (yd hI hx).1 (yd hI hy).1 hz
 ·rename_i u v hx hy
  have hyv:=(yd hI hy).1
  rw[hx]at hxr
  split at hr
  ·rename_i hn
   have hv:=xV hn
   subst hv
   split at hr
   ·rename_i ti hti
    split at hr
    ·rename_i e he
     obtain⟨n,hn',hr⟩:=bsm hr
     obtain⟨d,hd1,hd2⟩:=(hc.tt t ti (qs hti).1).und
     rw[he]at hd2
     have hd2:d= .slice e:=hd2
     subst hd2
     have hform:∃A N C,a.eval x= .slice A N C/\n=A.isNone:=by
      rcases qtu hxr hn' with⟨A,N,C,h1,rfl⟩|⟨N,C,h1,rfl⟩
      ·exact⟨_,_,_,h1,rfl⟩
      ·exact⟨_,_,_,h1,rfl⟩
     obtain⟨A,N,C,hA,rfl⟩:=hform
     cases op<;>simp only at hr<;>cases hr
     ·refine kE hI h (by simp[qF,hop]) hd rfl ?_
      simp only[execOp,hop,hA,hyv]
      rw[Sem.run_bind]
      have:=qec hd1 x y A N C w
      unfold nil0 at this
      rw[this];rfl
     ·refine kE hI h (by simp[qF,hop]) hd rfl ?_
      simp only[execOp,hop,hA,hyv]
      rw[Sem.run_bind]
      have:=qd7 hd1 x y A N C w
      unfold nil0 at this
      rw[this];rfl
    ·cases hr
   ·cases hr
  ·split at hr
   ·rename_i hn
    have hv:=qof hn
    subst hv
    split at hr
    ·rename_i ti hti
     split at hr
     ·rename_i hp
      obtain⟨n,hn',hr⟩:=bsm hr
      obtain⟨e,he⟩:=hc.tp t ti (qs hti).1 hp
      have he:c.P.underlying t=some (.pointer (c.P.pointee t)):=by simp[Program.pointee,he]
      obtain⟨A,hA,rfl⟩:=qtt hxr hn'
      cases op<;>simp only at hr<;>cases hr
      ·refine kE hI h (by simp[qF,hop]) hd rfl ?_
       simp only[execOp,hop,hA,hyv]
       have h1:eqGuard .eql t x y (.pointer A) (.pointer none)=pure ():=rfl
       rw[h1,pure_bind,Sem.run_bind,run_eql_pointer_nil w t A he];rfl
      ·refine kE hI h (by simp[qF,hop]) hd rfl ?_
       simp only[execOp,hop,hA,hyv]
       have h1:eqGuard .neq t x y (.pointer A) (.pointer none)=pure ():=rfl
       rw[h1,pure_bind,Sem.run_bind,run_neq_pointer_nil w t A he];rfl
     ·cases hr
    ·cases hr
   ·obtain⟨v',hv',hr⟩:=bsm hr
    obtain⟨z,hz,hr⟩:=bsm hr
    cases hr
    exact key v' v z (Qo hxr hv') hyv hz
 ·rename_i u v hx hy
  rw[hx]at hxr
  rw[hy]at hyr
  obtain⟨v',hv',hr⟩:=bsm hr
  obtain⟨w',hw',hr⟩:=bsm hr
  obtain⟨z,hz,hr⟩:=bsm hr
  cases hr
  exact key v' w' z (Qo hxr hv') (Qo hyr hw') hz
 ·cases hr
theorem zev(hI:Inv G w st a.tmps)(hd:jJ o a)(h:Nat){op:UnOp}{t:TypeId}{x:Operand}(hop:o.op= .unOp op t x){r:SV×BE×Hp}
 (hr:((xz (zy st.sl x)).bind fun v=>(unV c.P op v).bind fun z=>some (SV.sv z,(none:BE),st.hp))=some r):o.wp c.P a w (jx G w a (after h o st r.1 r.2.1 r.2.2)) Q:=by
 obtain⟨v,hv,hr⟩:=bsm hr
 obtain⟨z,hz,hr⟩:=bsm hr
 cases hr
 obtain⟨hx,_⟩:=yd hI (jH hv)
 refine kE hI h (by simp[qF,hop]) hd (zS hz).2 ?_
 simp only[execOp,hop,hx]
 rw[Sem.run_bind,jS (zS hz).1 w];rfl
theorem qti(hI:Inv G w st a.tmps)(hd:jJ o a)(h:Nat){t:TypeId}{x i:Operand}(hop:o.op= .index t x i){r:SV×BE×Hp}
 (hr:((WV (zy st.sl x)).bind fun u=>(xz (zy st.sl i)).bind fun iv=>(ixV c.P t u iv).bind fun z=>some (SV.sv z,(none:BE),st.hp))=some r):
 o.wp c.P a w (jx G w a (after h o st r.1 r.2.1 r.2.2)) Q:=by
 obtain⟨u,hu,hr⟩:=bsm hr
 obtain⟨v,hv,hr⟩:=bsm hr
 obtain⟨z,hz,hr⟩:=bsm hr
 cases hr
 obtain⟨hi,_⟩:=yd hI (jH hv)
 refine kE hI h (by simp[qF,hop]) hd (zS hz).2 ?_
 simp only[execOp,hop,hi,qow hI hu]
 rw[Sem.run_bind,jS (zS hz).1 w];rfl
theorem qex(hI:Inv G w st a.tmps)(hd:jJ o a)(h:Nat){x:Operand}(hop:o.op= .nilCheck x){r:SV×BE×Hp}
 (hr:(match zy st.sl x with
  | .lp k g off=>some (SV.lp k g off,(none:BE),st.hp)
  | .av y=>(QS y).bind fun _=>some (SV.av y,none,st.hp)
  |_=>none)=some r):o.wp c.P a w (jx G w a (after h o st r.1 r.2.1 r.2.2)) Q:=by
 have hxr:=wo hI x
 split at hr
 ·rename_i k g off hx
  cases hr
  rw[hx]at hxr
  obtain⟨blk,h1,h2⟩:=hxr
  refine qw (v:=a.eval x) (w':=w) (by simp only[execOp,hop,h2];rfl) ?_
  exact qD hI h (by simp[qF,hop]) hd (fun _=>⟨blk,h1,h2⟩) (fun k' g' off' e=>by cases e;exact WH hI hx)
 ·rename_i y hx
  rw[hx]at hxr
  obtain⟨u,hu,hr⟩:=bsm hr
  cases hr
  have hrun:(execOp a.eval o).run c.P w= .ok (.value (a.eval x)) w:=by
   have hxr':jt G w (.sl (wn x) 0 0) y (a.eval x):=by
    rw[<-xQ (p:=fun i=>.sl (wn x) 0 i)]
    ·exact hxr
    ·rintro cs rfl;simp[QS]at hu
   simp only[execOp,hop]
   cases y with
   |ptr b g off=>
    generalize a.eval x=v at hxr'⊢
    cases hxr';rfl
   |fn f caps=>
    generalize a.eval x=v at hxr'⊢
    cases hxr'<;>rfl
   |_=>simp[QS]at hu
  refine qw hrun (qD hI h (by simp[qF,qN,hop,qG]) hd (fun j=>?_) (fun _ _ _ e=>by cases e))
  cases y with
  |ptr b g off=>exact hxr
  |fn f caps=>exact hxr
  |_=>simp[QS]at hu
 ·cases hr
end
section
variable {c:Cx}{G:Gh}{w:World}{st:St}{a:Act}{o:Oper}{Q:Exit->Act->World->Prop}
theorem qT(b off n:Nat):(⟨b,off,none⟩:Addr).add n=⟨b,off+n,none⟩:=by
 unfold Addr.add;split
 ·subst_vars;simp
 ·simp
theorem yZ{x:AV}{p:Nat×Nat×Nat}(h:qW x=some p):x= .ptr p.1 p.2.1 p.2.2:=by
 cases x<;>simp[qW]at h
 subst h;rfl
theorem zL{p:Prop}[Decidable p]{u:Unit}(h:va p=some u):p:=by
 unfold va at h
 split at h
 ·assumption
 ·cases h
theorem WW{a b:Nat}{u:Unit}(h:jo a b=some u):a=b:=zL h
theorem Qq{b:Bool}{u:Unit}(h:qc7 b=some u):b=true:=zL h
theorem qe5{cs:List AV}{u:Unit}(h:kC cs=some u):cs.all vl=true:=zL h
theorem ka{x:AV}{p:Nat×Nat×Nat×Nat×Nat}(h:qK x=some p):x= .ms p.1 p.2.1 p.2.2.1 p.2.2.2.1 p.2.2.2.2:=by
 cases x<;>simp[qK]at h
 subst h;rfl
theorem qxo{b g off:Nat}{p:Nat->Ow}{v:Value}(h:zj G w p (.ptr b g off) v):∃blk,G.mu b g=some blk/\v= .pointer (some ⟨blk,off,none⟩):=by
 have h':RelR G w (.ptr b g off) v:=h
 cases h' with
 |ptr _ _ _ blk h2=>exact⟨blk,h2,rfl⟩
theorem qep{b g off n sz:Nat}{p:Nat->Ow}{v:Value}(h:zj G w p (.ms b g off n sz) v):
 ∃blk cap off' z,G.mu b g=some blk/\n<=cap/\(0<n->off'=off)/\v= .slice (some ⟨blk,off',none⟩) n cap/\KQ w blk=some z/\off'+cap*sz<=z:=by
 have h':RelR G w (.ms b g off n sz) v:=h
 cases h' with
 |ms _ _ _ _ _ cap blk off' z h2 h3 h4 h5 h6=>exact⟨blk,cap,off',z,h2,h3,h4,rfl,h5,h6⟩
def shift(n:Nat):SV->Option SV
 | .lp k g off=>some (.lp k g (off+n))
 | .rv cs=>some (.rv (cs.drop n))
 | .av (.ptr b g off)=>some (.av (.ptr b g (off+n)))
 |_=>none
theorem qmn{n:Nat}{s s':SV}{k:Nat}{v:Value}(hs:shift n s=some s')(h:qL G w k s v):
 ∃A:Addr,v= .pointer (some A)/\∀j,qL G w j s' (.pointer (some (A.add n))):=by
 cases s with
 |lp k' g off=>
  cases hs
  obtain⟨blk,h1,rfl⟩:=h
  exact⟨_,rfl,fun j=>⟨blk,h1,by rw[qT]⟩⟩
 |rv cs=>
  cases hs
  obtain⟨b,o,vs,rfl,h2,h3,h4,h5⟩:=h
  refine⟨_,rfl,fun j=>⟨b,o+n,vs.drop n,by rw[qT],by simp[h2],fun i hi=>by rw[ziq];exact h3 (n+i) (by simp at hi;omega),fun i c hc=>?_,fun i x c hx hc=>?_⟩⟩
  ·rw[ziq];exact h4 (n+i) c (by rw[<-hc];simp)
  ·exact h5 (n+i) x c (by rw[<-hx];simp) (by rw[<-hc];simp)
 |av x=>
  cases x with
  |ptr b g off=>
   cases hs
   obtain⟨blk,h1,rfl⟩:=qxo (p:=fun i=>.sl k 0 i) h
   exact⟨_,rfl,fun j=>by rw[qT];exact RelR.ptr b g _ blk h1⟩
  |_=>cases hs
 |_=>cases hs
theorem qrt{n:Nat}{s:SV}{k g off:Nat}(hs:shift n s=some (.lp k g off)):∃off',s= .lp k g off':=by
 cases s with
 |lp k' g' off'=>cases hs;exact⟨off',rfl⟩
 |rv cs=>cases hs
 |av x=>cases x<;>cases hs
 |_=>cases hs
theorem qdl(hI:Inv G w st a.tmps)(hd:jJ o a)(h:Nat)(ho:qF h o st.sl=st.sl)(hdo:qN h o=[]){x:Operand}{n:Nat}{s':SV}
 (hs:shift n (zy st.sl x)=some s')
 (hr:∀A:Addr,a.eval x= .pointer (some A)->(execOp a.eval o).run c.P w= .ok (.value (.pointer (some (A.add n)))) w):
 o.wp c.P a w (jx G w a (after h o st s' none st.hp)) Q:=by
 obtain⟨A,hA,hj⟩:=qmn hs (wo hI x)
 refine qw (hr A hA) (qD hI h (by rw[ho,hdo];rfl) hd hj (fun k g off e=>?_))
 subst e
 obtain⟨off',hx⟩:=qrt hs
 exact WH hI hx
theorem qcl(hc:Ok c)(hI:Inv G w st a.tmps)(hd:jJ o a)(h:Nat){t:TypeId}{ti:TI}(hti:c.tn t=some ti){x:Operand}{f:Nat}(hop:o.op= .fieldAddr t x f){r:SV×BE×Hp}
 (hr:(jW c ti (zy st.sl x) f fun s=>some (s,(none:BE),st.hp))=some r):o.wp c.P a w (jx G w a (after h o st r.1 r.2.1 r.2.2)) Q:=by
 unfold jW at hr
 split at hr
 ·rename_i fs hk
  split at hr
  ·rename_i fo ft hfs
   split at hr
   ·rename_i fi hfi
    split at hr
    ·cases hr
    ·rename_i hsz
     obtain⟨d,hd1,hd2⟩:=(hc.tt t ti (qs hti).1).und
     rw[hk]at hd2
     obtain⟨fields,rfl,hfl⟩:=hd2
     obtain⟨fl,hfl1,hfl2⟩:=qv _ _ _ _ (show(fields.toList.map fun f=>(f.offset,f.type))[f]?=some (fo,ft) by rw[hfl];exact hfs)
     have hfl1':fields[f]?=some fl:=by simpa using hfl1
     cases hfl2
     have key:∀s',shift fl.offset (zy st.sl x)=some s'->o.wp c.P a w (jx G w a (after h o st s' none st.hp)) Q:=by
      intro s' hs
      refine qdl hI hd h (by simp[qF,qN,hop,qG]) (by simp[qN,hop]) hs (fun A hA=>?_)
      have hsize:=(hc.tt fl.type fi (qs hfi).1).sizeOf (qs hfi).2 w
      simp only[execOp,hop,Instr.fieldAt,hA,Instr.sureAddr,fieldPlace]
      simp[run_underlying hd1,hfl1',hsize,hsz]
     split at hr
     ·rename_i k g off hx
      cases hr
      exact key _ (by rw[hx];rfl)
     ·rename_i cs hx
      cases hr
      exact key _ (by rw[hx];rfl)
     ·rename_i y hx
      obtain⟨p,hp,hr⟩:=bsm hr
      cases hr
      exact key _ (by rw[hx,yZ hp];rfl)
     ·cases hr
   ·cases hr
  ·cases hr
 ·cases hr
end
section
variable {c:Cx}{G:Gh}{w:World}{st:St}{a:Act}{o:Oper}{Q:Exit->Act->World->Prop}
theorem Xc{s n l:Nat}(hs:0<s)(h:l=n*s):(if s=1 then l else l/s)=n:=by
 subst h
 split
 ·subst_vars;simp
 ·exact Nat.mul_div_cancel n hs
theorem ZS{n i:Nat}{v:Value}(h:idx n v=some i):∃k z,v= .int k z/\0<=z/\z<(n:Int)/\z.toNat=i:=by
 unfold idx at h
 obtain⟨z,hz,h2⟩:=bsm h
 clear h
 obtain⟨k,rfl⟩:=Jk hz
 split at h2
 ·cases h2;exact⟨k,z,rfl,qc,qc,rfl⟩
 ·cases h2
theorem zY{cs l:List AV}{i n:Nat}(h:qn cs i n=some l):i+n<=cs.length/\l=(cs.drop i).take n:=by
 unfold qn at h
 split at h
 ·cases h;exact⟨by assumption,rfl⟩
 ·cases h
theorem yk{s:Nat}{cs:List AV}{v:Value}(h:RelR G w (.sl s cs) v):
 ∃A n cap,v= .slice (some A) n cap/\0<s/\cs.length=n*s/\(n=0\/n<=cap)/\(0<n->∃(b o:Nat) (vs:List Value),A=⟨b,o,none⟩/\o+n*s<=G.I b/\vs.length=cs.length/\
  (∀(k:Nat) (c:Value),vs[k]?=some c->w.cell? ⟨b,o+k,none⟩=some c)/\∀(k:Nat) (x:AV) (c:Value),cs[k]?=some x->vs[k]?=some c->RelR G w x c):=by
 cases h with
 |sl0 _ A cap hs=>exact⟨A,0,cap,rfl,hs,qf,.inl rfl,fun h=>absurd h qc⟩
 |sl _ _ n cap b o vs h1 h2 h3 h4 h5 h6 h7 h8 h9=>exact⟨_,n,cap,rfl,h1,h3,.inr h4,fun _=>⟨b,o,vs,rfl,h5,h6,h7,h9⟩⟩
theorem qz8{s:Nat}{cs:List AV}{v:Value}(h:RelR G w (.sl s cs) v):∀x∈cs,vl x=true:=by
 cases h with
 |sl0=>intro x hx;cases hx
 |sl _ _ _ _ _ _ _ h1 h2 h3 h4 h5 h6 h7 h8 h9=>exact h8
theorem qrr{s i:Nat}{cs l:List AV}{v:Value}(h:RelR G w (.sl s cs) v){iv:Value}(hi:idx (if s=1 then cs.length else cs.length/s) iv=some i)(hl:qn cs (i*s) s=some l):
 ∃A n cap k z,v= .slice (some A) n cap/\iv= .int k z/\0<=z/\z<(n:Int)/\z.toNat=i/\∀j,qL G w j (.rv l) (.pointer (some (A.add (i*s)))):=by
 obtain⟨A,n,cap,rfl,h2,h3,h4,h5⟩:=yk h
 rw[Xc h2 h3]at hi
 obtain⟨k,z,rfl,hz0,hz1,hz2⟩:=ZS hi
 obtain⟨hle,rfl⟩:=zY hl
 refine⟨A,n,cap,k,z,rfl,rfl,hz0,hz1,hz2,fun j=>?_⟩
 obtain⟨b,o,vs,rfl,hI,hvl,hcell,hrel⟩:=h5 qc
 refine⟨b,o+i*s,(vs.drop (i*s)).take s,by rw[qT],by simp[hvl],fun q hq=>?_,fun q c hc=>?_,fun q x c hx hc=>?_⟩
 ·simp at hq
  have:i*s+s<=n*s:=qc
  omega
 ·rw[zgt]at hc
  split at hc
  ·rw[ziq];exact hcell (i*s+q) c (by rw[<-hc];simp)
  ·cases hc
 ·rw[zgt]at hc hx
  split at hc
  ·rename_i hq
   simp only[hq,if_true]at hx
   exact hrel (i*s+q) x c (by rw[<-hx];simp) (by rw[<-hc];simp)
  ·cases hc
theorem ZK{p:Nat->Ow}{s:Nat}{cs:List AV}{v:Value}(h:zj G w p (.sl s cs) v):RelR G w (.sl s cs) v:=h
theorem ZJ{p:Nat->Ow}{s:Nat}{cs:List AV}{v:Value}(h:zj G w p (.us s cs) v):RelR G w (.sl s cs) v:=by
 obtain⟨b,_,ht⟩:=h;exact ht.ro
theorem quh{p:Nat->Ow}{sz:Nat}{x:AV}{v iv:Value}{l:List AV}(h:zj G w p x v)(hl:jc sz x iv=some l):
 ∃A n cap k z,v= .slice (some A) n cap/\iv= .int k z/\0<=z/\z<(n:Int)/\∀j,qL G w j (.rv l) (.pointer (some (A.add (z.toNat*sz)))):=by
 cases x with
 |sl s cs=>
  simp only[jc]at hl
  split at hl
  ·rename_i e;subst e
   obtain⟨i,hi,hl⟩:=bsm hl
   obtain⟨A,n,cap,k,z,e1,e2,e3,e4,e5,e6⟩:=qrr (ZK h) hi hl
   exact⟨A,n,cap,k,z,e1,e2,e3,e4,fun j=>by rw[e5];exact e6 j⟩
  ·cases hl
 |us s cs=>
  simp only[jc]at hl
  split at hl
  ·rename_i e;subst e
   obtain⟨i,hi,hl⟩:=bsm hl
   obtain⟨A,n,cap,k,z,e1,e2,e3,e4,e5,e6⟩:=qrr (ZJ h) hi hl
   exact⟨A,n,cap,k,z,e1,e2,e3,e4,fun j=>by rw[e5];exact e6 j⟩
  ·cases hl
 |_=>simp[jc]at hl
theorem kF{P:Program}{t e:TypeId}{ei:TI}(ht:P.underlying t=some (.slice e))(hz:∀w,(sizeOf e).run P w= .ok ei.size w)(A:Addr)(n cap:Nat)(k:IntKind)(z:Int)
 (h0:0<=z) (h1:z<(n:Int)) (w:World):(Instr.indexAt t (.slice (some A) n cap) (.int k z)).run P w= .ok (.pointer (some (A.add (z.toNat*ei.size)))) w:=by
 simp[Instr.indexAt,asIntOf,run_underlying ht,h0,h1,hz]
theorem ZC{P:Program}{t e:TypeId}{ei:TI}{n:Nat}(ht:P.underlying t=some (.array n e))(hz:∀w,(sizeOf e).run P w= .ok ei.size w)(A:Addr)(k:IntKind)(z:Int)
 (h0:0<=z) (h1:z<(n:Int)) (w:World):(Instr.indexAt t (.pointer (some A)) (.int k z)).run P w= .ok (.pointer (some (A.add (z.toNat*ei.size)))) w:=by
 simp[Instr.indexAt,asIntOf,run_underlying ht,h0,h1,hz,Instr.sureAddr]
theorem qck(hc:Ok c)(hI:Inv G w st a.tmps)(hd:jJ o a)(h:Nat){t:TypeId}{ti:TI}(hti:c.tn t=some ti){x i:Operand}(hop:o.op= .indexAddr t x i){r:SV×BE×Hp}
 (hr:(jU c h ti (zy st.sl x) (zy st.sl i) fun s=>some (s,(none:BE),st.hp))=some r):o.wp c.P a w (jx G w a (after h o st r.1 r.2.1 r.2.2)) Q:=by
 have hdo:qF h o st.sl=qG (qN h o) st.sl:=by simp[qF,hop]
 have hdn:qN h o=[]:=by simp[qN,hop]
 unfold jU at hr
 split at hr
 ·rename_i iv hi
  obtain⟨hiv,_⟩:=yd hI hi
  obtain⟨d,hd1,hd2⟩:=(hc.tt t ti (qs hti).1).und
  split at hr
  ·rename_i e hk
   rw[hk]at hd2
   have hd2:d= .slice e:=hd2
   subst hd2
   split at hr
   ·rename_i ei hei
    have hz:=(hc.tt e ei (qs hei).1).sizeOf (qs hei).2
    split at hr
    ·rename_i y hx
     have hxr:=wo hI x
     rw[hx]at hxr
     split at hr
     ·obtain⟨p,hp,hr⟩:=bsm hr
      obtain⟨j,hj,hr⟩:=bsm hr
      obtain⟨_,_,hr⟩:=bsm hr
      cases hr
      have hy:=ka hp
      subst hy
      obtain⟨blk,cap,off',z',m1,m2,m4,m3,_,_⟩:=qep (p:=fun i=>.sl (wn x) 0 i) hxr
      obtain⟨k,z,rfl,z0,z1,rfl⟩:=ZS hj
      have m5:=m4 qc
      subst m5
      refine qw (v:=.pointer (some ⟨blk,p.2.2.1+z.toNat*ei.size,none⟩)) (w':=w) ?_ (qD hI h hdo hd (fun j=>RelR.ptr _ _ _ blk m1) (fun _ _ _ e=>by cases e))
      simp only[execOp,hop,m3,hiv]
      rw[Sem.run_bind,kF hd1 hz _ _ _ k z z0 z1,qT];rfl
     ·obtain⟨l,hl,hr⟩:=bsm hr
      cases hr
      obtain⟨A,n,cap,k,z,e1,rfl,z0,z1,e5⟩:=quh (p:=fun i=>.sl (wn x) 0 i) hxr hl
      refine qw (v:=.pointer (some (A.add (z.toNat*ei.size)))) (w':=w) ?_ (qD hI h hdo hd e5 (fun _ _ _ e=>by cases e))
      simp only[execOp,hop,e1,hiv]
      rw[Sem.run_bind,kF hd1 hz _ _ _ k z z0 z1];rfl
    ·cases hr
   ·cases hr
  ·rename_i n e hk
   rw[hk]at hd2
   have hd2:d= .array n e:=hd2
   subst hd2
   split at hr
   ·rename_i ei hei
    have hz:=(hc.tt e ei (qs hei).1).sizeOf (qs hei).2
    have key:∀j s',idx n iv=some j->shift (j*ei.size) (zy st.sl x)=some s'->o.wp c.P a w (jx G w a (after h o st s' none st.hp)) Q:=by
     intro j s' hj hs
     obtain⟨k,z,rfl,z0,z1,rfl⟩:=ZS hj
     refine qdl hI hd h (by simp[qF,qN,hop,qG]) hdn hs (fun A hA=>?_)
     simp only[execOp,hop,hA,hiv]
     rw[Sem.run_bind,ZC hd1 hz A k z z0 z1];rfl
    split at hr
    ·rename_i k' g off hx
     obtain⟨j,hj,hr⟩:=bsm hr
     cases hr
     exact key j _ hj (by rw[hx];rfl)
    ·rename_i cs hx
     obtain⟨j,hj,hr⟩:=bsm hr
     cases hr
     exact key j _ hj (by rw[hx];rfl)
    ·rename_i y hx
     obtain⟨p,hp,hr⟩:=bsm hr
     obtain⟨j,hj,hr⟩:=bsm hr
     cases hr
     exact key j _ hj (by rw[hx,yZ hp];rfl)
    ·cases hr
   ·cases hr
  ·cases hr
 ·cases hr
theorem zh{lo hi:Nat}{v:Option Value}{d n:Nat}(h:qC lo hi v d=some n):
 (v=none/\n=d)\/∃k z,v=some (.int k z)/\(lo:Int)<=z/\z<=(hi:Int)/\z.toNat=n:=by
 cases v with
 |none=>simp only[qC]at h;cases h;exact .inl ⟨rfl,rfl⟩
 |some v=>
  simp only[qC]at h
  obtain⟨z,hz,h2⟩:=bsm h
  clear h
  obtain⟨k,rfl⟩:=Jk hz
  split at h2
  ·cases h2;exact .inr ⟨k,z,rfl,qc,qc,rfl⟩
  ·cases h2
end
section
variable {c:Cx}{G:Gh}{w:World}{st:St}{a:Act}{o:Oper}{Q:Exit->Act->World->Prop}
theorem yH{P:Program}{lo hi:Nat}{k:IntKind}{z:Int}(code:BoundsCode)(h0:0<=z)(h1:z<=(hi:Int))(w:World):
 (Instr.sliceBound (.int k z) hi code).run P w= .ok z.toNat w:=by
 simp[Instr.sliceBound,asIntOf,h0,h1]
theorem XK{P:Program}{n cap l h m:Nat}{lo hi mx:Option Value}(hcap:n<=cap)(hm:qC 0 n mx n=some m)(hh:qC 0 m hi n=some h)(hl:qC 0 h lo 0=some l)
 (hmx:mx.isSome=true->hi.isSome=true) (w:World):∃m',h<=m'/\m'<=cap/\(Instr.sliceBounds true n cap lo hi mx).run P w= .ok (l,h,m') w:=by
 rcases zh hm with⟨rfl,rfl⟩|⟨k1,z1,rfl,a1,b1,rfl⟩
 ·rcases zh hh with⟨rfl,rfl⟩|⟨k2,z2,rfl,a2,b2,rfl⟩
  ·rcases zh hl with⟨rfl,rfl⟩|⟨k3,z3,rfl,a3,b3,rfl⟩
   ·exact⟨cap,hcap,zgm _,by simp[Instr.sliceBounds]⟩
   ·exact⟨cap,hcap,zgm _,by simp[Instr.sliceBounds,yH (lo:=0) _ qc b3]⟩
  ·rcases zh hl with⟨rfl,rfl⟩|⟨k3,z3,rfl,a3,b3,rfl⟩
   ·exact⟨cap,qc,zgm _,by simp[Instr.sliceBounds,yH (lo:=0) (hi:=cap) _ (show 0<=z2 by omega) qc]⟩
   ·exact⟨cap,qc,zgm _,by simp[Instr.sliceBounds,yH (lo:=0) (hi:=cap) _ (show 0<=z2 by omega) qc,yH (lo:=0) _ (show 0<=z3 by omega) b3]⟩
 ·rcases zh hh with⟨rfl,rfl⟩|⟨k2,z2,rfl,a2,b2,rfl⟩
  ·exact absurd (hmx rfl) qf
  ·have e1:=fun code=>yH (P:=P) (lo:=0) (hi:=cap) (k:=k1) (z:=z1) code qc qc w
   have e2:=fun code=>yH (P:=P) (lo:=0) (hi:=z1.toNat) (k:=k2) (z:=z2) code qc b2 w
   rcases zh hl with⟨rfl,rfl⟩|⟨k3,z3,rfl,a3,b3,rfl⟩
   ·exact⟨z1.toNat,qc,qc,by simp[Instr.sliceBounds,e1,e2]⟩
   ·have e3:=fun code=>yH (P:=P) (lo:=0) (hi:=z2.toNat) (k:=k3) (z:=z3) code qc b3 w
    exact⟨z1.toNat,qc,qc,by simp[Instr.sliceBounds,e1,e2,e3]⟩
theorem kj{lo hi d n:Nat}{v:Option Value}(h:qC lo hi v d=some n)(hd:d<=hi):n<=hi:=by
 rcases zh h with⟨_,rfl⟩|⟨k,z,_,_,h2,rfl⟩
 ·exact hd
 ·omega
theorem qwy{s n cap l h m':Nat}{A:Addr}{cs:List AV}(hv:RelR G w (.sl s cs) (.slice (some A) n cap))(hl:l<=h)(hh:h<=n)(hm:h<=m'):
 RelR G w (.sl s ((cs.drop (l*s)).take ((h-l)*s))) (.slice (if m'=l then some A else some (A.add (l*s))) (h-l) (m'-l)):=by
 obtain⟨A',n',cap',e,h2,h3,h4,h5⟩:=yk hv
 cases e
 by_cases h0:h-l=0
 ·rw[h0]
  simp only[zh7,List.take_zero]
  split
  ·exact .sl0 _ _ _ h2
  ·exact .sl0 _ _ _ h2
 ·have hvv:=qz8 hv
  obtain⟨b,o,vs,rfl,hI,hvl,hcell,hrel⟩:=h5 qc
  rw[if_neg qc,qT]
  have hmul:l*s+(h-l)*s=h*s:=by rw[<-Nat.add_mul];congr 1;omega
  have hns:h*s<=n*s:=zgz s hh
  refine .sl s _ (h-l) (m'-l) b (o+l*s) ((vs.drop (l*s)).take ((h-l)*s)) h2 qc ?_ qc qc ?_ (fun q c hc=>?_) (fun x hx=>?_) (fun q x c hx hc=>?_)
  ·simp;omega
  ·simp[hvl]
  ·rw[zgt]at hc
   split at hc
   ·rw[ziq];exact hcell (l*s+q) c (by rw[<-hc];simp)
   ·cases hc
  ·exact hvv x (zi0 (zhl hx))
  ·rw[zgt]at hc hx
   split at hc
   ·rename_i hq
    simp only[hq,if_true]at hx
    exact hrel (l*s+q) x c (by rw[<-hx];simp) (by rw[<-hc];simp)
   ·cases hc
theorem zc5{s n cap:Nat}{A:Addr}{cs:List AV}(hv:RelR G w (.sl s cs) (.slice (some A) n cap)):n<=cap:=by
 obtain⟨A',n',cap',e,h2,h3,h4,h5⟩:=yk hv
 cases e
 rcases h4 with h4|h4<;>omega
theorem Zv{P:Program}{t e:TypeId}{ei:TI}(ht:P.underlying t=some (.slice e))(hz:∀w,(sizeOf e).run P w= .ok ei.size w){s:Nat}{cs:List AV}{v:Value}(hs:s=ei.size)
 (hv:RelR G w (.sl s cs) v) {lo hi mx:Option Value} {l h m N:Nat} (hN:N=if s=1 then cs.length else cs.length/s) (hm:qC 0 N mx N=some m)
 (hh:qC 0 m hi N=some h) (hl:qC 0 h lo 0=some l) (hmx:mx.isSome=true->hi.isSome=true):
 ∃v',(Instr.sliceAt t v lo hi mx).run P w= .ok v' w/\RelR G w (.sl s ((cs.drop (l*s)).take ((h-l)*s))) v':=by
 obtain⟨A,n,cap,rfl,h2,h3,h4,h5⟩:=yk hv
 rw[Xc h2 h3]at hN
 rw[hN]at hm hh
 have hm1:m<=n:=kj hm (zgm _)
 have hcap:=zc5 hv
 obtain⟨m',hm',_,hb⟩:=XK (P:=P) hcap hm hh hl hmx w
 have hhn:h<=n:=by
  rcases zh hh with⟨_,rfl⟩|⟨k,z,_,_,h2,rfl⟩<;>omega
 have hlh:l<=h:=kj hl (zhf _)
 refine⟨_,?_,qwy hv hlh hhn hm'⟩
 simp only[Instr.sliceAt,Instr.slice]
 subst hs
 simp[run_underlying ht,hb,hz]
theorem qeg{P:Program}{l h m:Nat}{lo hi mx:Option Value}(hm:qC 0 (0:Nat) mx 0=some m)(hh:qC 0 m hi 0=some h)(hl:qC 0 h lo 0=some l)
 (hmx:mx.isSome=true->hi.isSome=true) (w:World):∃m',(Instr.sliceBounds true 0 0 lo hi mx).run P w= .ok (0,0,m') w/\m'=0:=by
 have h1:m=0:=by have:=kj hm (zgm _);omega
 subst h1
 have h2:h=0:=by have:=kj hh (zgm _);omega
 subst h2
 have h3:l=0:=by have:=kj hl (zgm _);omega
 subst h3
 rcases zh hm with⟨rfl,_⟩|⟨k1,z1,rfl,a1,b1,_⟩
 ·rcases zh hh with⟨rfl,_⟩|⟨k2,z2,rfl,a2,b2,_⟩<;>rcases zh hl with⟨rfl,_⟩|⟨k3,z3,rfl,a3,b3,_⟩
  ·exact⟨0,by simp[Instr.sliceBounds],rfl⟩
  ·have e3:z3=0:=qc
   subst e3
   exact⟨0,by simp[Instr.sliceBounds,Instr.sliceBound,asIntOf],rfl⟩
  ·have e3:z2=0:=qc
   subst e3
   exact⟨0,by simp[Instr.sliceBounds,Instr.sliceBound,asIntOf],rfl⟩
  ·have e2:z2=0:=qc
   have e3:z3=0:=qc
   subst e2;subst e3
   exact⟨0,by simp[Instr.sliceBounds,Instr.sliceBound,asIntOf],rfl⟩
 ·rcases zh hh with⟨rfl,_⟩|⟨k2,z2,rfl,a2,b2,_⟩
  ·exact absurd (hmx rfl) qf
  ·have e1:z1=0:=qc
   have e2:z2=0:=qc
   subst e1;subst e2
   rcases zh hl with⟨rfl,_⟩|⟨k3,z3,rfl,a3,b3,_⟩
   ·exact⟨0,by simp[Instr.sliceBounds,Instr.sliceBound,asIntOf],rfl⟩
   ·have e3:z3=0:=qc
    subst e3
    exact⟨0,by simp[Instr.sliceBounds,Instr.sliceBound,asIntOf],rfl⟩
theorem qrq{P:Program}{t e:TypeId}{ei:TI}(ht:P.underlying t=some (.slice e))(hz:∀w,(sizeOf e).run P w= .ok ei.size w){p:Nat->Ow}{x y:AV}{v:Value}
 (hv:zj G w p x v) {lo hi mx:Option Value} (hmx:mx.isSome=true->hi.isSome=true) (hy:jb ei.size x lo hi mx=some y):
 ∃v',(Instr.sliceAt t v lo hi mx).run P w= .ok v' w/\RelR G w y v':=by
 cases x with
 |sl s cs=>
  simp only[jb]at hy
  split at hy
  ·rename_i hs
   obtain⟨m,hm,hy⟩:=bsm hy
   obtain⟨h,hh,hy⟩:=bsm hy
   obtain⟨l,hl,hy⟩:=bsm hy
   cases hy
   exact Zv ht hz hs (ZK hv) rfl hm hh hl hmx
  ·cases hy
 |us s cs=>
  simp only[jb]at hy
  split at hy
  ·rename_i hs
   obtain⟨m,hm,hy⟩:=bsm hy
   obtain⟨h,hh,hy⟩:=bsm hy
   obtain⟨l,hl,hy⟩:=bsm hy
   cases hy
   exact Zv ht hz hs (ZJ hv) rfl hm hh hl hmx
  ·cases hy
 |sc u=>
  simp only[jb]at hy
  split at hy
  ·rename_i hn
   have:=xV hn
   subst this
   obtain⟨m,hm,hy⟩:=bsm hy
   obtain⟨h,hh,hy⟩:=bsm hy
   obtain⟨l,hl,hy⟩:=bsm hy
   cases hy
   cases hv
   obtain⟨m',hb,rfl⟩:=qeg (P:=P) hm hh hl hmx w
   refine⟨nil0,?_,.sc _ rfl⟩
   simp only[Instr.sliceAt,Instr.slice]
   simp[run_underlying ht,hb,hz,nil0]
  ·cases hy
 |_=>simp[jb]at hy
theorem qgp{ev:Operand->SV}{x:Option Operand}{v:Option Value}(h:opV ev x=some v):(x=none/\v=none)\/∃o u,x=some o/\v=some u/\ev o= .sv u:=by
 cases x with
 |none=>simp only[opV]at h;cases h;exact .inl ⟨rfl,rfl⟩
 |some o=>
  simp only[opV]at h
  obtain⟨u,hu,h⟩:=bsm h
  cases h
  exact .inr ⟨o,u,rfl,rfl,jH hu⟩
theorem Kf(hI:Inv G w st a.tmps){x:Option Operand}{v:Option Value}(h:opV (zy st.sl) x=some v):x.map a.eval=v:=by
 rcases qgp h with⟨rfl,rfl⟩|⟨o,u,rfl,rfl,hu⟩
 ·rfl
 ·simp[(yd hI hu).1]
theorem Ke{ev:Operand->SV}{x:Option Operand}{v:Option Value}(h:opV ev x=some v):v.isSome=x.isSome:=by
 rcases qgp h with⟨rfl,rfl⟩|⟨o,u,rfl,rfl,_⟩<;>rfl
theorem qtf(hc:Ok c)(hI:Inv G w st a.tmps)(hd:jJ o a)(h:Nat){t:TypeId}{ti:TI}(hti:c.tn t=some ti){x:Operand}{lo hi mx:Option Operand}(hop:o.op= .slice t x lo hi mx){r:SV×BE×Hp}
 (hmx:(mx.isSome&&!hi.isSome)=false)
 (hr:((opV (zy st.sl) lo).bind fun l=>(opV (zy st.sl) hi).bind fun u=>(opV (zy st.sl) mx).bind fun m=>QI c h ti t (zy st.sl x) l u m fun s=>some (s,(none:BE),st.hp))=some r):
 o.wp c.P a w (jx G w a (after h o st r.1 r.2.1 r.2.2)) Q:=by
 obtain⟨l,hl,hr⟩:=bsm hr
 obtain⟨u,hu,hr⟩:=bsm hr
 obtain⟨m,hm,hr⟩:=bsm hr
 have hmx':m.isSome=true->u.isSome=true:=by
  rw[Ke hm,Ke hu]
  intro h1
  rw[h1]at hmx
  simpa using hmx
 have el:=Kf hI hl
 have eu:=Kf hI hu
 have em:=Kf hI hm
 have hdo:qF h o st.sl=qG (qN h o) st.sl:=by simp[qF,hop]
 obtain⟨d,hd1,hd2⟩:=(hc.tt t ti (qs hti).1).und
 have hxr:=wo hI x
 unfold QI at hr
 split at hr
 ·rename_i e hk
  rw[hk]at hd2
  have hd2:d= .slice e:=hd2
  subst hd2
  split at hr
  ·rename_i ei hei
   have hz:=(hc.tt e ei (qs hei).1).sizeOf (qs hei).2
   split at hr
   ·rename_i y hx
    rw[hx]at hxr
    split at hr
    ·obtain⟨p,hp,hr⟩:=bsm hr
     obtain⟨m',hm',hr⟩:=bsm hr
     obtain⟨h',hh',hr⟩:=bsm hr
     obtain⟨l',hl',hr⟩:=bsm hr
     obtain⟨_,hsz,hr⟩:=bsm hr
     cases hr
     have hsz:=WW hsz
     have hy:=ka hp
     subst hy
     obtain⟨blk,cap,off',z,m1,m2,m4,m3,m5,m6⟩:=qep (p:=fun i=>.sl (wn x) 0 i) hxr
     rw[hsz]at m6
     obtain⟨m'',hm'',hmc,hb⟩:=XK (P:=c.P) m2 hm' hh' hl' hmx' w
     have hlh:=kj hl' (zhf _)
     have hhn:h'<=p.2.2.2.1:=by
      have:=kj hm' (zgm _)
      rcases zh hh' with⟨_,rfl⟩|⟨k,z,_,_,h2,rfl⟩<;>omega
     by_cases he:m''=l'
     ·refine qw (v:=.slice (some ⟨blk,off',none⟩) (h'-l') (m''-l')) (w':=w) ?_ (qD hI h hdo hd (fun j=>RelR.ms _ _ _ _ _ _ blk _ z m1 qc qc m5 ?_) (fun _ _ _ e=>by cases e))
      ·simp only[execOp,hop,m3,el,eu,em,Instr.sliceAt,Instr.slice]
       simp[run_underlying hd1,hb,hz,he]
      ·have:m''-l'=0:=qc
       rw[this,zh7];omega
     ·refine qw (v:=.slice (some ⟨blk,off'+l'*ei.size,none⟩) (h'-l') (m''-l')) (w':=w) ?_ (qD hI h hdo hd (fun j=>RelR.ms _ _ _ _ _ _ blk _ z m1 qc (fun hpos=>by rw[m4 qc]) m5 ?_) (fun _ _ _ e=>by cases e))
      ·simp only[execOp,hop,m3,el,eu,em,Instr.sliceAt,Instr.slice]
       simp[run_underlying hd1,hb,hz,he,qT]
      ·have e1:l'*ei.size+(m''-l')*ei.size=m''*ei.size:=by rw[<-Nat.add_mul];congr 1;omega
       have e2:m''*ei.size<=cap*ei.size:=zgz _ hmc
       omega
    ·obtain⟨z,hz',hr⟩:=bsm hr
     cases hr
     obtain⟨v',hv1,hv2⟩:=qrq hd1 hz (p:=fun i=>.sl (wn x) 0 i) hxr hmx' hz'
     refine qw (v:=v') (w':=w) ?_ (qD hI h hdo hd (fun j=>(hv2.c (.sl j 0 0)).v) (fun _ _ _ e=>by cases e))
     simp only[execOp,hop,el,eu,em]
     rw[Sem.run_bind,hv1];rfl
   ·cases hr
  ·cases hr
 ·split at hr
  ·rename_i v hx
   obtain⟨z,hz,hr⟩:=bsm hr
   cases hr
   have hv:=(yd hI hx).1
   refine kE hI h hdo hd (zS hz).2 ?_
   have hk:ti.k=TK.sc:=by assumption
   have hrun:(Instr.sliceAt t v l u m).run c.P w=(Instr.slice t v l u m).run c.P w:=by
    simp only[Instr.sliceAt,Sem.run_bind,run_underlying hd1,Result.andThen_ok]
    rw[hk]at hd2
    cases d<;>first|rfl|(have:=hd2 _ rfl;cases this)
   simp only[execOp,hop,el,eu,em,hv]
   rw[Sem.run_bind,hrun,jS (zS hz).1 w];rfl
  ·cases hr
 ·cases hr
end
section
variable {c:Cx}{G:Gh}{w:World}{st:St}{a:Act}{o:Oper}{Q:Exit->Act->World->Prop}
theorem qt4{p:Nat->Ow}{x:AV}{v:Value}{n:Nat}(h:zj G w p x v)(hn:zA x=some n):∃A cap,v= .slice A n cap:=by
 cases x with
 |sl s cs=>
  simp only[zA]at hn;cases hn
  obtain⟨A,m,cap,rfl,h2,h3,_⟩:=yk (ZK h)
  rw[Xc h2 h3]
  exact⟨_,_,rfl⟩
 |us s cs=>
  simp only[zA]at hn;cases hn
  obtain⟨A,m,cap,rfl,h2,h3,_⟩:=yk (ZJ h)
  rw[Xc h2 h3]
  exact⟨_,_,rfl⟩
 |ms b g off m sz=>
  simp only[zA]at hn;cases hn
  obtain⟨blk,cap,off',_,_,_,_,rfl,_,_⟩:=qep h
  exact⟨_,_,rfl⟩
 |sc u=>
  simp only[zA]at hn
  split at hn
  ·rename_i hz
   cases hn
   have:=xV hz
   subst this
   cases h
   exact⟨_,_,rfl⟩
  ·cases hn
 |_=>simp[zA]at hn
theorem Jv(hI:Inv G w st a.tmps):∀{xs:List Operand} {vs:List Value},qbw (xs.map (zy st.sl))=some vs->xs.map a.eval=vs
 |[],vs,h=>by simp only[ziv,qbw]at h;cases h;rfl
 |x::xs,vs,h=>by
  simp only[zhc,qbw]at h
  obtain⟨v,hv,h⟩:=bsm h
  obtain⟨l,hl,h⟩:=bsm h
  cases h
  simp[(yd hI (jH hv)).1,Jv hI hl]
theorem jZ{P:Program}{cl:Call}{b:Builtin}(hcl:cl.callee= .builtin b)(hop:o.op= .call cl){s:Sem Next}(hs:Go.builtin b cl.argTypes o.type (cl.args.map fun| .const _=>true|_=>false) (cl.args.map a.eval)=s)(w:World):
 (execOp a.eval o).run P w=s.run P w:=by
 simp only[execOp,hop,resolve,hcl]
 rw[<-hs]
 simp[invoke]
 rfl
theorem Vx{P:Program}{t e:TypeId}(ht:P.underlying t=some (.slice e))(A:Option Addr)(n cap:Nat)(ts:Array TypeId)(hts:ts[0]?=some t) (ty:TypeId) (w:World):
 (Builtin.len_ ts ty #[.slice A n cap]).run P w= .ok (.int .i64 n) w:=by
 simp[Builtin.len_,hts,run_underlying ht,goInt]
theorem RelR.s{x:AV}{v:Value}(h:RelR G w x v)(k:Nat):qL G w k (.av x) v:=(h.c (.sl k 0 0)).v
theorem JO{P:Program}{t:TypeId}{ti:TI}(ht:TOk P t ti)(hk:Qu ti.k=false){cs:List AV}{vs:List Value}{A:Addr}{off:Nat}
 (hlen:cs.length=vs.length) (hcell:∀(k:Nat) (u:Value),vs[k]?=some u->w.cell? (A.add k)=some u) (hrel:∀(k:Nat) (x:AV) (u:Value),cs[k]?=some x->vs[k]?=some u->RelR G w (ro1 x) u)
 {r:SV×List AV} (hr:(ju ti 0 cs off fun s l=>some (s,l))=some r):
 r.2=cs/\∃v,(Instr.loadAt t (.pointer (some (A.add off)))).run P w= .ok v w/\(∀k,qL G w k r.1 v)/\∀k g off,r.1≠ .lp k g off:=by
 have vI:∀j,(A.add off).add j=A.add (off+j):=by
  intro j
  unfold Addr.add
  by_cases h1:off=0<;>by_cases h2:j=0<;>simp[h1,h2,ziq]
 have hz:=ht.sizeOf hk w
 have ha:=ht.isAgg hk w
 unfold ju at hr
 split at hr
 ·rename_i hsc
  obtain⟨v,hv,hr⟩:=bsm hr
  cases hr
  have hx:=xZ hv
  obtain⟨u,hu⟩:=qR hlen hx
  have hru:=hrel _ _ _ hx hu
  have hag:yC ti.k=false:=by cases hkk:ti.k<;>rw[hkk]at hsc<;>first|rfl|cases hsc
  refine⟨rfl,u,?_,fun k=>?_,fun _ _ _ e=>by cases e⟩
  ·simp[Instr.loadAt,Instr.sureAddr,loadVar,ha,hag,hcell _ _ hu]
  ·cases hru with
   |sc _ h1=>exact⟨rfl,h1⟩
 ·split at hr
  ·rename_i hsc hag
   obtain⟨l,hl,hr⟩:=bsm hr
   simp only[show¬(0=1) by decide,if_false]at hr
   cases hr
   obtain⟨hle,rfl⟩:=zY hl
   refine⟨rfl,.agg ((vs.drop off).take ti.size).toArray,?_,fun k=>⟨(vs.drop off).take ti.size,rfl,by simp[hlen],fun i x u hx hu=>?_⟩,fun _ _ _ e=>by cases e⟩
   ·have hload:=run_loadCells_list (P:=P) (w:=w) (A.add off) ((vs.drop off).take ti.size) (fun j v hj=>by
     rw[vI]
     rw[zgt]at hj
     split at hj
     ·exact hcell (off+j) v (by rw[<-hj];simp)
     ·cases hj)
    have hll:((vs.drop off).take ti.size).length=ti.size:=qh
    rw[hll]at hload
    simp[Instr.loadAt,Instr.sureAddr,loadVar,ha,hag,hz,hload]
   ·obtain⟨y,hy,rfl⟩:=qv _ _ _ _ hx
    rw[zgt]at hy hu
    split at hy
    ·rename_i hq
     simp only[hq,if_true]at hu
     exact(hrel (off+i) y u (by rw[<-hy];simp) (by rw[<-hu];simp)).c _
    ·cases hy
  ·rename_i hsc hag
   obtain⟨x,hx,hr⟩:=bsm hr
   simp only[show¬(0=1) by decide,if_false]at hr
   cases hr
   have hx:cs[off]?=some x:=hx
   obtain⟨u,hu⟩:=qR hlen hx
   have hag':yC ti.k=false:=by simpa using hag
   refine⟨rfl,u,?_,fun k=>(hrel _ _ _ hx hu).s k,fun _ _ _ e=>by cases e⟩
   simp[Instr.loadAt,Instr.sureAddr,loadVar,ha,hag',hcell _ _ hu]
theorem kR{blk:Nat}{p:Nat->Ow}{cs:List AV}(h:yL G w blk p cs):
 ∃vs:List Value,cs.length=vs.length/\(∀(off k:Nat) (u:Value),vs[off+k]?=some u->w.cell? ((⟨blk,off,none⟩:Addr).add k)=some u)/\
  ∀(k:Nat) (x:AV) (u:Value),cs[k]?=some x->vs[k]?=some u->jt G w (p k) x u:=by
 obtain⟨arr,e,h1,h2,h3⟩:=h
 have key:∀(k:Nat) (u:Value),(arr.toList.take cs.length)[k]?=some u->arr[k]?=some u:=by
  intro k u hu
  rw[zgt]at hu
  split at hu
  ·simpa using hu
  ·cases hu
 refine⟨arr.toList.take cs.length,qh,fun off k u hu=>?_,fun k x u hx hu=>h3 k x u hx (key k u hu)⟩
 rw[qT,qX h1]
 exact key _ u hu
theorem qez(hc:Ok c)(hI:Inv G w st a.tmps)(hd:jJ o a)(h:Nat)(h1:h≠1){t:TypeId}{ti:TI}(hti:c.tn t=some ti){x:Operand}(hop:o.op= .load t x){r:SV×BE×Hp}
 (hr:zT h ti (zy st.sl x) (zK st.bx) st.hp k3=some r):o.wp c.P a w (jx G w a (after h o st r.1 r.2.1 r.2.2)) Q:=by
 have hdo:qF h o st.sl=qG (qN h o) st.sl:=by simp[qF,hop]
 have ht:=hc.tt t ti (qs hti).1
 have hk:=(qs hti).2
 have hl0:∀{R:Type} (cs:List AV) (off:Nat) (K:SV->List AV->Option R),ju ti h cs off K=ju ti 0 cs off K:=by
  intro R cs off K
  unfold ju
  simp[h1]
 have hxr:=wo hI x
 have fin:∀(s:SV) (v:Value),(∃A:Addr,a.eval x= .pointer (some A)/\(Instr.loadAt t (.pointer (some A))).run c.P w= .ok v w)->(∀k,qL G w k s v)->(∀k g off,s≠ .lp k g off)->
  o.wp c.P a w (jx G w a (after h o st s none st.hp)) Q:=by
  rintro s v ⟨A,hA,hrun⟩ hs hl
  refine qw (v:=v) (w':=w) ?_ (qD hI h hdo hd hs (fun k g off e=>absurd e (hl k g off)))
  simp only[execOp,hop,hA]
  rw[Sem.run_bind,hrun];rfl
 unfold zT at hr
 split at hr
 ·rename_i k g off hx
  rw[hx]at hxr
  obtain⟨blk,hla,hv⟩:=hxr
  split at hr
  ·rename_i g' cs hgb
   split at hr
   ·rename_i hg
    subst hg
    obtain⟨blk',b1,b2,b3⟩:=hI.boxes k g cs hgb
    rw[hla]at b1;cases b1
    rw[hl0,qH]at hr
    obtain⟨q,hq,hr⟩:=bsm hr
    have hr':some (q.1,(none:BE),st.hp)=some r:=by first|exact hr|(rw[<-hr,if_neg h1])
    cases hr'
    obtain⟨vs,v1,v2,v3⟩:=kR b3
    obtain⟨_,v,hrun,hs,hl⟩:=JO (P:=c.P) ht hk (A:=⟨blk,0,none⟩) v1 (fun k u hu=>v2 0 k u (by simpa using hu)) (fun k x u hx hu=>(v3 k x u hx hu).ro) hq
    rw[qT,zha]at hrun
    exact fin _ v ⟨_,hv,hrun⟩ hs hl
   ·cases hr
  ·cases hr
 ·rename_i cs hx
  rw[hx]at hxr
  rw[if_neg h1,hl0,qH]at hr
  obtain⟨q,hq,hr⟩:=bsm hr
  cases hr
  obtain⟨b,o',vs,hv,h2,h3,h4,h5⟩:=hxr
  obtain⟨_,v,hrun,hs,hl⟩:=JO (P:=c.P) ht hk (A:=⟨b,o',none⟩) h2.symm (fun k u hu=>by rw[qT];exact h4 k u hu) (fun k x u hx hu=>by rw[XR (h5 k x u hx hu)];exact h5 k x u hx hu) hq
  rw[qT,zim]at hrun
  exact fin _ v ⟨_,hv,hrun⟩ hs hl
 ·rename_i y hx
  rw[hx]at hxr
  obtain⟨p,hp,hr⟩:=bsm hr
  obtain⟨cs,hcs,hr⟩:=bsm hr
  rw[hl0,qH]at hr
  obtain⟨q,hq,hr⟩:=bsm hr
  have hr':some (q.1,(none:BE),st.hp)=some r:=by first|exact hr|(rw[<-hr,if_neg h1])
  cases hr'
  have hy:=yZ hp
  subst hy
  obtain⟨blk,m1,hv⟩:=qxo (p:=fun i=>.sl (wn x) 0 i) hxr
  unfold Hp.rd at hcs
  obtain⟨e,he,hcs⟩:=bsm hcs
  split at hcs
  ·rename_i hg
   have hcs':e.2=cs:=zgy hcs
   have he':st.hp.get p.1=some (p.2.1,cs):=by rw[he,<-hg.1,<-hcs']
   obtain⟨blk',b1,b2,b3⟩:=hI.heap p.1 p.2.1 cs he'
   rw[m1]at b1;cases b1
   rw[hg.2]at b3
   have b3:yL G w blk (.oc p.1 0 ·) cs:=b3
   obtain⟨vs,v1,v2,v3⟩:=kR b3
   obtain⟨_,v,hrun,hs,hl⟩:=JO (P:=c.P) ht hk (A:=⟨blk,0,none⟩) v1 (fun k u hu=>v2 0 k u (by simpa using hu)) (fun k x u hx hu=>(v3 k x u hx hu).ro) hq
   rw[qT,zha]at hrun
   exact fin _ v ⟨_,hv,hrun⟩ hs hl
  ·cases hcs
 ·cases hr
theorem YC{l:List AV}{t i:Nat}{x:AV}{v:Value}(h:qL G w t (.tp l) v)(hx:l[i]?=some x):
 ∃vs:List Value,v= .tuple vs.toArray/\∃u,vs[i]?=some u/\zj G w (.sl t i ·) x u:=by
 obtain⟨vs,rfl,h2,h3⟩:=h
 obtain⟨u,hu⟩:=qR h2 hx
 exact⟨vs,rfl,u,hu,h3 i x u hx hu⟩
def mvX(t i d:Nat):Ow->Ow
 | .sl k j q=>if k=t/\j=i then .sl d 0 q else .sl k j q
 |p=>p
theorem qyl(t i d:Nat):Rho (mvX t i d) where
 fr:=rfl
 oth:=rfl
 box p k g h:=by
  cases p<;>simp only[mvX]at h<;>first|exact h|(split at h<;>cases h)
 obj p k g h:=by
  cases p<;>simp only[mvX]at h<;>first|exact h|(split at h<;>cases h)
end
section
variable {c:Cx}{G:Gh}{w:World}{st:St}{a:Act}{o:Oper}{Q:Exit->Act->World->Prop}
theorem Yt(hI:Inv G w st a.tmps)(hd:jJ o a){t i:Nat}(hop:o.op= .extract (.tmp t) i){l:List AV}{y:AV}(hl:qE st.sl t= .tp l)(hy:l[i]?=some y) {s:SV}
 (hs:(∃v,y= .sc v/\s= .sv v)\/s= .av (ro y)):o.wp c.P a w (jx G w a (after 1 o st s none st.hp)) Q:=by
 have hxr:=hI.slots t
 rw[hl]at hxr
 obtain⟨vs,hv,u,hu,hyu⟩:=YC hxr hy
 have hrun:(execOp a.eval o).run c.P w= .ok (.value u) w:=by
  have he:a.eval (.tmp t)= .tuple vs.toArray:=hv
  simp only[execOp,hop,he,Instr.extract]
  simp[hu]
 refine qw hrun (qD hI 1 (by simp[qF,qN,hop,qG]) hd (fun k=>?_) (fun _ _ _ e=>by rcases hs with⟨v,_,rfl⟩|rfl<;>cases e))
 rcases hs with⟨v,rfl,rfl⟩|rfl
 ·have h1:RelR G w (.sc v) u:=hyu
  cases h1
  exact⟨rfl,by assumption⟩
 ·exact hyu.ro (Ev.refl G w) _
theorem Kd(hI:Inv G w st a.tmps)(hd:jJ o a)(h:Nat)(hn1:h≠1){t i:Nat}(hop:o.op= .extract (.tmp t) i){l:List AV}{y:AV}(hl:qE st.sl t= .tp l)(hy:l[i]?=some y) {s:SV}
 (hs:(∃v,y= .sc v/\s= .sv v)\/s= .av y):o.wp c.P a w (jx G w a (after h o st s none st.hp)) Q:=by
 have hxr:=hI.slots t
 rw[hl]at hxr
 obtain⟨vs,hv,u,hu,hyu⟩:=YC hxr hy
 have hrun:(execOp a.eval o).run c.P w= .ok (.value u) w:=by
  have he:a.eval (.tmp t)= .tuple vs.toArray:=hv
  simp only[execOp,hop,he,Instr.extract]
  simp[hu]
 refine qw hrun ?_
 have hdn:qF h o st.sl=(t,.tp (l.set i (ro y)))::st.sl:=by simp[qF,hop,dnX,hl,hy,hn1]
 unfold after
 rw[hdn]
 --the qE that is lowered,under whatever names of owners
 have low:∀(G':Gh),Ev G w G' w->(∀j q,j≠i->zq G w G' w (.sl t j q) (.sl t j q))->qL G' w t (.tp (l.set i (ro y))) (a.tmps.getD t undef):=by
  intro G' he hk
  obtain⟨vs',e1,e2,e3⟩:=hxr
  refine⟨vs',e1,by simp[e2],fun j x u' hx hu'=>?_⟩
  by_cases e:i=j
  ·subst e
   rw[zjz (zgq.mp hy).1]at hx
   cases hx
   exact(e3 i y u' hy hu').ro he _
  ·rw[zkc e]at hx
   exact(e3 j x u' hx hu').ev he (fun q=>hk j q (fun e'=>e e'.symm))
 cases hdst:o.dst with
 |none=>
  refine⟨G,?_,Fr.refl G w,rfl,rfl⟩
  exact{
   slots:=fun k=>by
    show qL G w k (qE ((t,.tp (l.set i (ro y)))::st.sl) k) _
    rw[za]
    split
    ·rename_i e;subst e;exact low G (Ev.refl G w) (fun j q _ b hb=>⟨rfl,rfl,hb⟩)
    ·exact hI.slots k
   boxes:=hI.boxes
   heap:=hI.heap
   next:=hI.next
   hlt:=hI.hlt
   new:=hI.new
   vars:=hI.vars
   lps:=fun j k g off e=>by
    have e':qE ((t,.tp (l.set i (ro y)))::st.sl) j= .lp k g off:=e
    rw[za]at e'
    split at e'
    ·cases e'
    ·exact hI.lps j k g off e'}
 |some d=>
  have hdd:=hd d hdst
  have hr:=qyl t i d
  have he:Ev G w (G.rel (mvX t i d)) w:=(Fr.rel hr).ev
  obtain⟨hn,hvars⟩:=hI.relNew hr
  have keep:∀p q,mvX t i d p=q->zq G w (G.rel (mvX t i d)) w p q:=fun p q hpq b hb=>⟨rfl,rfl,by simp[Gh.rel,hb,hpq]⟩
  refine⟨G.rel (mvX t i d),?_,Fr.rel hr,zb _ _ _,qI _ _ _⟩
  exact{
   slots:=fun k=>by
    show qL _ w k (qE ((d,s)::(t,.tp (l.set i (ro y)))::st.sl) k) _
    rw[za,Zo a d _ hdd]
    split
    ·rename_i e;subst e
     have hmv:=zj.ev he (p:=fun q=>.sl t i q) (q:=fun q=>.sl d 0 q) (fun q=>keep _ _ (by simp[mvX])) hyu
     rcases hs with⟨v,rfl,rfl⟩|rfl
     ·have hmv':RelR _ w (.sc v) u:=hmv
      cases hmv' with
      |sc _ h1=>exact⟨rfl,h1⟩
     ·exact hmv
    ·rw[za]
     split
     ·rename_i e;subst e
      exact low _ he (fun j q hj=>keep _ _ (by simp[mvX,hj]))
     ·rename_i hne
      refine qL.ev he (k:=k) (k':=k) (fun j q=>keep _ _ ?_) (fun _ _ _ _ _ h=>h) (hI.slots k)
      have:k≠t:=fun e=>hne e.symm
      simp[mvX,this]
   boxes:=fun j g cs h=>by
    obtain⟨blk,h1,h2,h3⟩:=hI.boxes j g cs h
    exact⟨blk,h1,by simp[Gh.rel,h2,mvX],h3.ev he rfl fun i=>keep _ _ rfl⟩
   heap:=fun j g cs h=>by
    obtain⟨blk,h1,h2,h3⟩:=hI.heap j g cs h
    exact⟨blk,h1,by simp[Gh.rel,h2,mvX],h3.ev he rfl fun i=>keep _ _ rfl⟩
   next:=hI.next
   hlt:=hI.hlt
   new:=hn
   vars:=hvars
   lps:=fun j k g off e=>by
    have e':qE ((d,s)::(t,.tp (l.set i (ro y)))::st.sl) j= .lp k g off:=e
    rw[za]at e'
    split at e'
    ·rcases hs with⟨v,_,rfl⟩|rfl<;>cases e'
    ·rw[za]at e'
     split at e'
     ·cases e'
     ·exact hI.lps j k g off e'}
theorem xk{k:Nat}{s:SV}{x:AV}{v:Value}(h:qL G w k s v)(hx:toA s=some x):zj G w (.sl k 0 ·) x v:=by
 cases s with
 |sv u=>cases hx;obtain⟨rfl,h1⟩:=h;exact RelR.sc _ h1
 |av y=>cases hx;exact h
 |_=>cases hx
theorem wz(hI:Inv G w st a.tmps):∀{xs:List Operand} {l:List AV},Xt (xs.map (zy st.sl))=some l->
 l.length=xs.length/\∀(i:Nat) (x:AV),l[i]?=some x->∃o,xs[i]?=some o/\zj G w (.sl (wn o) 0 ·) x (a.eval o)
 |[],l,h=>by simp only[ziv,Xt]at h;cases h;exact⟨rfl,fun i x hx=>by simp at hx⟩
 |y::ys,l,h=>by
  simp only[zhc,Xt]at h
  obtain⟨x,hx,h⟩:=bsm h
  obtain⟨l',hl',h⟩:=bsm h
  cases h
  obtain⟨h1,h2⟩:=wz hI hl'
  refine⟨by simp[h1],fun i x' hx'=>?_⟩
  cases i with
  |zero=>simp at hx';subst hx';exact⟨y,rfl,xk (wo hI y) hx⟩
  |succ i=>simp at hx';obtain⟨o,ho,hr⟩:=h2 i x' hx';exact⟨o,by simpa using ho,hr⟩
theorem qc5{P:Program}{s d:TypeId}{z v:Value}(hz:QD P s d v=some z)(w:World):(convert s d v).run P w= .ok z w/\z.oneCell'=true:=
 ⟨jS (zS hz).1 w,(zS hz).2⟩
theorem qb0{p:Nat->Ow}{sz:Nat}{x:AV}{v:Value}{l:List AV}(h:zj G w p x v)(hl:yT sz x=some l):
 (v= .slice none 0 0/\l=[])\/
 (∃A n cap,v= .slice (some A) n cap/\RelR G w (.sl sz l) v):=by
 cases x with
 |sl s cs=>
  simp only[yT]at hl
  split at hl
  ·rename_i e;subst e;cases hl
   obtain⟨A,n,cap,e,_⟩:=yk (ZK h)
   exact .inr ⟨A,n,cap,e,ZK h⟩
  ·cases hl
 |us s cs=>
  simp only[yT]at hl
  split at hl
  ·rename_i e;subst e;cases hl
   obtain⟨A,n,cap,e,_⟩:=yk (ZJ h)
   exact .inr ⟨A,n,cap,e,ZJ h⟩
  ·cases hl
 |sc u=>
  simp only[yT]at hl
  split at hl
  ·cases hl;cases h;exact .inl ⟨rfl,rfl⟩
  ·cases hl
 |_=>simp[yT]at hl
end
structure New (w w' : World) (o : Obj) : Prop where
 heap:w'.heap=w.heap.push o
 rest:Zm w w'
theorem New.old{w w':World}{o:Obj}(h:New w w' o){b:Nat}(hb:b<w.heap.size):w'.heap[b]?=w.heap[b]?:=by
 rw[h.heap,zki,if_neg qc]
theorem New.at{w w':World}{o:Obj}(h:New w w' o):w'.heap[w.heap.size]?=some o:=by
 rw[h.heap];simp
theorem New.size{w w':World}{o:Obj}(h:New w w' o):w'.heap.size=w.heap.size+1:=by
 rw[h.heap];simp
theorem yA{w w':World}{b:Nat}(h:w'.heap[b]?=w.heap[b]?) (i:Nat):w'.cell? ⟨b,i,none⟩=w.cell? ⟨b,i,none⟩:=by
 simp[World.cell?,h]
theorem zc8{w:World}{b z:Nat}(h:KQ w b=some z):b<w.heap.size:=by
 unfold KQ at h
 split at h
 ·rename_i e;exact(zh4.mp e).1
 ·cases h
theorem jG{w:World}{b:Nat}{arr:Array Value}{e:TypeId}{fz:Nat×Nat}(h:w.heap[b]?=some (.cells arr e fz)):KQ w b=some arr.size:=by
 simp[KQ,h]
def Gh.add(G:Gh)(b:Nat)(L:Ow)(n:Nat)(mu la:Nat->Nat->Option Nat):Gh:=
 ⟨fun x=>if x=b then L else G.Om x,fun x=>if x=b then n else G.I x,mu,la⟩
section
variable {c:Cx}{G:Gh}{w w':World}{st:St}{a:Act}{o:Oper}{Q:Exit->Act->World->Prop}
theorem Fr.new(hI:Inv G w st a.tmps){ob:Obj}(hw:New w w' ob)(L:Ow)(n:Nat){mu la:Nat->Nat->Option Nat}(hmu:∀b g x,G.mu b g=some x->mu b g=some x):
 Fr G w (G.add w.heap.size L n mu la) w' where
 size:=by rw[hw.size];omega
 cells b i hi:=by
  have hb:b<w.heap.size:=by
   rcases zi3 b w.heap.size with h|h
   ·exact h
   ·rw[(hI.new b h).2]at hi;omega
  exact yA (hw.old hb) i
 imm b:=by
  simp only[Gh.add]
  split
  ·rename_i e;subst e;rw[(hI.new _ (zgm _)).2];omega
  ·exact zgm _
 mu:=hmu
 same b hb _:=⟨hw.old hb,by simp[Gh.add,zh8 hb],by simp[Gh.add,zh8 hb]⟩
 rest:=hw.rest
 bs b z hz:=by rw[Zj (hw.old (zc8 hz))];exact hz
theorem Qh(hI:Inv G w st a.tmps){ob:Obj}(hw:New w w' ob)(L:Ow)(n:Nat)(mu la:Nat->Nat->Option Nat){p:Ow}(hp:p≠ .fr):
 zq G w (G.add w.heap.size L n mu la) w' p p:=by
 intro b hb
 have hlt:b<w.heap.size:=by
  rcases zi3 b w.heap.size with h|h
  ·exact h
  ·rw[(hI.new b h).1]at hb;exact absurd hb.symm hp
 exact⟨hw.old hlt,by simp[Gh.add,zh8 hlt],by simp[Gh.add,zh8 hlt,hb]⟩
theorem Inv.beside(hI:Inv G w st a.tmps){ob:Obj}(hw:New w w' ob)(L:Ow)(n:Nat)(hL:(∃k g,L= .box k g)\/(∃k g,L= .obj k g)->n=0):
 Inv (G.add w.heap.size L n G.mu G.la) w' st a.tmps:=by
 have hf:=Fr.new hI hw L n (mu:=G.mu) (la:=G.la) (fun _ _ _ h=>h)
 have hk:=fun{p:Ow} (hp:p≠ .fr)=>Qh hI hw L n G.mu G.la hp
 have hlt:∀b p,G.Om b=p->p≠ .fr->b<w.heap.size:=by
  intro b p hb hp
  rcases zi3 b w.heap.size with h|h
  ·exact h
  ·rw[(hI.new b h).1]at hb;exact absurd hb.symm hp
 exact{
  slots:=fun k=>qL.ev hf.ev (fun j i=>hk qf) (fun _ _ _ _ _ h=>h) (hI.slots k)
  boxes:=fun k g cs h=>by
   obtain⟨blk,h1,h2,h3⟩:=hI.boxes k g cs h
   have hb:=hlt blk _ h2 qf
   exact⟨blk,h1,by simp[Gh.add,zh8 hb,h2],h3.ev hf.ev (hw.old hb) fun i=>hk qf⟩
  heap:=fun k g cs h=>by
   obtain⟨blk,h1,h2,h3⟩:=hI.heap k g cs h
   have hb:=hlt blk _ h2 qf
   exact⟨blk,h1,by simp[Gh.add,zh8 hb,h2],h3.ev hf.ev (hw.old hb) fun i=>hk qf⟩
  next:=hI.next
  hlt:=hI.hlt
  new:=fun b hb=>by
   rw[hw.size]at hb
   have hne:b≠w.heap.size:=qc
   simp only[Gh.add,hne,if_false]
   exact hI.new b qc
  vars:=fun b hb=>by
   by_cases e:b=w.heap.size
   ·simp only[Gh.add,e,if_true]at hb⊢
    exact hL hb
   ·simp only[Gh.add,e,if_false]at hb⊢
    exact hI.vars b hb
  lps:=hI.lps}
theorem qmf(hI:Inv G w st a.tmps)(h:Nat)(ho:qF h o st.sl=st.sl){d g:Nat}(hdst:o.dst=some d)(hd:d<a.tmps.size){cs:List AV}{arr:Array Value}{e:TypeId}
 (hw:New w w' (.cells arr e (0,0))) (hlen:cs.length<=arr.size) (hrel:∀(i:Nat) (x:AV) (u:Value),cs[i]?=some x->arr[i]?=some u->RelR G w x u)
 (hg:g=match zK st.bx d with|some (g',_)=>g'+1|none=>0):
 jx G w a (after h o st (.lp d g 0) (some (d,g,cs)) st.hp) (a.put o.dst (.pointer (some ⟨w.heap.size,0,none⟩))) w':=by
 let la:Nat->Nat->Option Nat:=fun k g'=>if k=d/\g'=g then some w.heap.size else G.la k g'
 let G':=G.add w.heap.size (.box d g) 0 G.mu la
 have hf:Fr G w G' w':=Fr.new hI hw (.box d g) 0 (fun _ _ _ h=>h)
 have hk:=fun{p:Ow} (hp:p≠ .fr)=>Qh hI hw (.box d g) 0 G.mu la hp
 have hlt:∀b p,G.Om b=p->p≠ .fr->b<w.heap.size:=by
  intro b p hb hp
  rcases zi3 b w.heap.size with h|h
  ·exact h
  ·rw[(hI.new b h).1]at hb;exact absurd hb.symm hp
 have hlp:∀j k g' off,qE st.sl j= .lp k g' off->¬(k=d/\g'=g):=by
  rintro j k g' off hs ⟨rfl,rfl⟩
  obtain⟨g'',cs',h1,h2⟩:=hI.lps j k g' off hs
  rw[h1]at hg
  simp only at hg
  omega
 refine⟨G',?_,hf,zb _ _ _,qI _ _ _⟩
 unfold after
 rw[ho,hdst]
 exact{
  slots:=fun k=>by
   show qL G' w' k (qE ((d,.lp d g 0)::st.sl) k) _
   rw[za,Zo a d _ hd]
   split
   ·exact⟨w.heap.size,by simp[G',la,Gh.add],rfl⟩
   ·refine qL.ev hf.ev (fun j i=>hk qf) (fun k' g' off x hs hx=>?_) (hI.slots k)
    have:=hlp k k' g' off hs
    simp[G',la,Gh.add,this,hx]
  boxes:=fun k g' cs' hb=>by
   have hb':zK (XD st.bx d g cs) k=some (g',cs'):=hb
   rw[ke]at hb'
   split at hb'
   ·rename_i e;subst e
    cases hb'
    refine⟨w.heap.size,by simp[G',la,Gh.add],by simp[G',Gh.add],arr,e,hw.at,hlen,fun i x u hx hu=>?_⟩
    exact((hrel i x u hx hu).ev hf.ev).c _
   ·rename_i hne
    obtain⟨blk,h1,h2,h3⟩:=hI.boxes k g' cs' hb'
    have hbl:=hlt blk _ h2 qf
    have hne':¬(k=d/\g'=g):=fun e=>hne e.1.symm
    exact⟨blk,by simp[G',la,Gh.add,hne',h1],by simp[G',Gh.add,zh8 hbl,h2],h3.ev hf.ev (hw.old hbl) fun i=>hk qf⟩
  heap:=fun k g' cs' hb=>by
   obtain⟨blk,h1,h2,h3⟩:=hI.heap k g' cs' hb
   have hbl:=hlt blk _ h2 qf
   exact⟨blk,h1,by simp[G',Gh.add,zh8 hbl,h2],h3.ev hf.ev (hw.old hbl) fun i=>hk qf⟩
  next:=hI.next
  hlt:=hI.hlt
  new:=fun b hb=>by
   rw[hw.size]at hb
   have hne:b≠w.heap.size:=qc
   simp only[G',Gh.add,hne,if_false]
   exact hI.new b qc
  vars:=fun b hb=>by
   by_cases e:b=w.heap.size
   ·simp[G',Gh.add,e]
   ·simp only[G',Gh.add,e,if_false]at hb⊢
    exact hI.vars b hb
  lps:=fun j k g' off hs=>by
   have hs':qE ((d,.lp d g 0)::st.sl) j= .lp k g' off:=hs
   show∃g'' cs',zK (XD st.bx d g cs) k=some (g'',cs')/\g'<=g''
   rw[za]at hs'
   rw[ke]
   split at hs'
   ·cases hs'
    exact⟨g,cs,qf,zgm _⟩
   ·obtain⟨g'',cs',h1,h2⟩:=hI.lps j k g' off hs'
    split
    ·rename_i e;subst e
     rw[h1]at hg
     exact⟨g,cs,rfl,by simp only at hg;omega⟩
    ·exact⟨g'',cs',h1,h2⟩}
end
section
variable {c:Cx}{G:Gh}{w w':World}{st:St}{a:Act}{o:Oper}{Q:Exit->Act->World->Prop}
theorem Inv.lt(hI:Inv G w st a.tmps){b:Nat}{p:Ow}(hb:G.Om b=p)(hp:p≠ .fr):b<w.heap.size:=by
 rcases zi3 b w.heap.size with h|h
 ·exact h
 ·rw[(hI.new b h).1]at hb;exact absurd hb.symm hp
theorem qgr(hI:Inv G w st a.tmps)(h:Nat)(ts:List Nat)(ho:qF h o st.sl=qG ts st.sl)(hd:jJ o a){cs:List AV}{arr:Array Value}{e:TypeId}
 (hw:New w w' (.cells arr e (0,0))) (hlen:cs.length<=arr.size) (hrel:∀(i:Nat) (x:AV) (u:Value),cs[i]?=some x->arr[i]?=some u->RelR G w x u) {s:SV} {v:Value}
 (hs:∀G',G'.mu st.hp.next 0=some w.heap.size->∀k,qL G' w' k s v) (hsl:∀k g off,s≠ .lp k g off) {hp1:Hp} (hn:hp1.next=st.hp.next) (hg1:∀b g cs,hp1.get b=some (g,cs)->st.hp.get b=some (g,cs)):
 jx G w a (after h o st s none (hp1.new cs)) (a.put o.dst v) w':=by
 let mu:Nat->Nat->Option Nat:=fun b g=>if b=st.hp.next/\g=0 then some w.heap.size else G.mu b g
 let G':=G.add w.heap.size (.obj st.hp.next 0) 0 mu G.la
 have hmu:∀b g x,G.mu b g=some x->mu b g=some x:=by
  intro b g x hx
  have hne:¬(b=st.hp.next/\g=0):=by
   rintro⟨rfl,rfl⟩
   rw[hI.next _ 0 (zgm _)]at hx;cases hx
  simp[mu,hne,hx]
 have hf:Fr G w G' w':=Fr.new hI hw (.obj st.hp.next 0) 0 hmu
 have hk:=fun{p:Ow} (hp:p≠ .fr)=>Qh hI hw (.obj st.hp.next 0) 0 mu G.la hp
 have hI':Inv G' w' ⟨st.sl,st.bx,hp1.new cs⟩ a.tmps:={
  slots:=fun k=>qL.ev hf.ev (fun j i=>hk qf) (fun _ _ _ _ _ h=>h) (hI.slots k)
  boxes:=fun k g cs h=>by
   obtain⟨blk,h1,h2,h3⟩:=hI.boxes k g cs h
   have hb:=hI.lt h2 qf
   exact⟨blk,h1,by simp[G',Gh.add,zh8 hb,h2],h3.ev hf.ev (hw.old hb) fun i=>hk qf⟩
  heap:=fun k g cs' hg=>by
   have hg':(if k=hp1.next then some (0,cs)else hp1.get k)=some (g,cs'):=hg
   rw[hn]at hg'
   split at hg'
   ·rename_i e;subst e
    cases hg'
    refine⟨w.heap.size,by simp[G',Gh.add,mu],by simp[G',Gh.add],?_⟩
    show yL G' w' w.heap.size _ cs
    refine⟨arr,_,hw.at,hlen,fun i x u hx hu=>?_⟩
    exact((hrel i x u hx hu).ev hf.ev).c _
   ·rename_i hne
    obtain⟨blk,h1,h2,h3⟩:=hI.heap k g cs' (hg1 _ _ _ hg')
    have hb:=hI.lt h2 qf
    have hne':¬(k=st.hp.next/\g=0):=fun e=>hne e.1
    exact⟨blk,by simp[G',Gh.add,mu,hne',h1],by simp[G',Gh.add,zh8 hb,h2],h3.ev hf.ev (hw.old hb) fun i=>hk qf⟩
  next:=fun b g hb=>by
   have hb':hp1.next+1<=b:=hb
   have hne:¬(b=st.hp.next/\g=0):=fun e=>qc
   show mu b g=none
   simp only[mu,hne,if_false]
   exact hI.next b g qc
  hlt:=fun b g cs' hg=>by
   have hg':(if b=hp1.next then some (0,cs)else hp1.get b)=some (g,cs'):=hg
   show b<hp1.next+1
   split at hg'
   ·omega
   ·have:=hI.hlt b g cs' (hg1 _ _ _ hg');omega
  new:=fun b hb=>by
   rw[hw.size]at hb
   have hne:b≠w.heap.size:=qc
   simp only[G',Gh.add,hne,if_false]
   exact hI.new b qc
  vars:=fun b hb=>by
   by_cases e:b=w.heap.size
   ·simp[G',Gh.add,e]
   ·simp only[G',Gh.add,e,if_false]at hb⊢
    exact hI.vars b hb
  lps:=hI.lps}
 refine⟨G',?_,hf,zb _ _ _,qI _ _ _⟩
 unfold after
 rw[ho]
 exact(hI'.dn ts).put o.dst hd (fun k _=>hs G' (by simp[G',Gh.add,mu]) k) (fun k g off e=>absurd e (hsl k g off))
theorem qdh(hI:Inv G w st a.tmps)(h:Nat)(ho:qF h o st.sl=st.sl)(hd:jJ o a){cs:List AV}{arr:Array Value}{e:TypeId}
 (hw:New w w' (.cells arr e (0,0))) (hlen:cs.length<=arr.size) (hrel:∀(i:Nat) (x:AV) (u:Value),cs[i]?=some x->arr[i]?=some u->RelR G w x u) {s:SV} {v:Value}
 (hs:∀G',G'.mu st.hp.next 0=some w.heap.size->∀k,qL G' w' k s v) (hsl:∀k g off,s≠ .lp k g off):
 jx G w a (after h o st s none (st.hp.new cs)) (a.put o.dst v) w':=
 qgr hI h [] (by rw[ho];rfl) hd hw hlen hrel hs hsl rfl (fun _ _ _ h=>h)
def mvF(t:Nat)(f:Nat->Ow):Ow->Ow
 | .sl k j i=>if k=t/\j=0 then f i else .sl k j i
 |p=>p
def Nm(p:Ow):Prop:=match p with| .box _ _=>False| .obj _ _=>False| .fr=>False| .oth=>False|_=>True
theorem qlf(t:Nat){f:Nat->Ow}(hf:∀i,Nm (f i)):Rho (mvF t f) where
 fr:=rfl
 oth:=rfl
 box p k g h:=by
  cases p<;>simp only[mvF]at h<;>first|exact h|skip
  split at h
  ·rename_i i _;have:=hf i;rw[h]at this;exact this.elim
  ·cases h
 obj p k g h:=by
  cases p<;>simp only[mvF]at h<;>first|exact h|skip
  split at h
  ·rename_i i _;have:=hf i;rw[h]at this;exact this.elim
  ·cases h
theorem Inv.give(hI:Inv G w st a.tmps)(t:Nat){f:Nat->Ow}(hf:∀i,Nm (f i)):Inv (G.rel (mvF t f)) w ⟨qG [t] st.sl,st.bx,st.hp⟩ a.tmps:=by
 have hr:=qlf t hf
 have he:Ev G w (G.rel (mvF t f)) w:=(Fr.rel hr).ev
 have keep:∀p q,mvF t f p=q->zq G w (G.rel (mvF t f)) w p q:=fun p q hpq b hb=>⟨rfl,rfl,by simp[Gh.rel,hb,hpq]⟩
 obtain⟨hn,hv⟩:=hI.relNew hr
 exact{
  slots:=fun j=>by
   show qL _ w j (qE (qG [t] st.sl) j) _
   rw[zo]
   split
   ·exact qL.ro he (k:=j) j (fun _ _ _ _ _ h=>h) (hI.slots j)
   ·rename_i hne
    refine qL.ev he (k:=j) (k':=j) (fun j' i=>keep _ _ ?_) (fun _ _ _ _ _ h=>h) (hI.slots j)
    have:j≠t:=by simpa using hne
    simp[mvF,this]
  boxes:=fun j g cs h=>by
   obtain⟨blk,h1,h2,h3⟩:=hI.boxes j g cs h
   exact⟨blk,h1,by simp[Gh.rel,h2,mvF],h3.ev he rfl fun i=>keep _ _ rfl⟩
  heap:=fun j g cs h=>by
   obtain⟨blk,h1,h2,h3⟩:=hI.heap j g cs h
   exact⟨blk,h1,by simp[Gh.rel,h2,mvF],h3.ev he rfl fun i=>keep _ _ rfl⟩
  next:=hI.next
  hlt:=hI.hlt
  new:=hn
  vars:=hv
  lps:=fun i j g off e=>by
   have e':qE (qG [t] st.sl) i= .lp j g off:=e
   rw[zo]at e'
   split at e'
   ·exact hI.lps i j g off (ZI.mp e')
   ·exact hI.lps i j g off e'}
theorem Inv.giveO(hI:Inv G w st a.tmps)(x:Operand){f:Nat->Ow}(hf:∀i,Nm (f i)){n:Nat}{l:List AV}(hl:valC n (zy st.sl x)=some l):
 ∃G',Fr G w G' w/\Inv G' w ⟨qG (zF [x]) st.sl,st.bx,st.hp⟩ a.tmps/\l.length=n/\YQ G' w f l (a.eval x).cells.toList/\G'.la=G.la/\G'.mu=G.mu:=by
 have hv:=qL.valC (wo hI x) hl
 by_cases hx:∃t,x= .tmp t
 ·obtain⟨t,rfl⟩:=hx
  have hr:=qlf t hf
  refine⟨G.rel (mvF t f),Fr.rel hr,hI.give t hf,hv.1,hv.2.ev (Fr.rel hr).ev (fun i b hb=>⟨rfl,rfl,?_⟩),rfl,rfl⟩
  simp[Gh.rel,hb,mvF,wn]
 ·have hx':∀t,x≠ .tmp t:=fun t e=>hx ⟨t,e⟩
  have hto:zF [x]=[]:=by cases x<;>first|rfl|exact absurd rfl (hx' _)
  rw[hto]
  refine⟨G,Fr.refl G w,hI,hv.1,⟨hv.2.1,fun i y u hy hu=>?_⟩,rfl,rfl⟩
  have hrel:=hv.2.2 i y u hy hu
  --no token:a constant
  have hnt:RelR G w y u:=by
   cases x with
   |tmp t=>exact absurd rfl (hx' t)
   |const v=>
    revert hl
    simp only[zy]
    split
    ·split
     ·intro hl
      simp only[AI.valC,ql]at hl
      split at hl
      ·cases hl
       obtain⟨z,hz,rfl⟩:=qv _ _ _ _ hy
       exact hrel
      ·cases hl
     ·intro hl;cases hl
    ·intro hl;cases hl
    ·intro hl
     simp only[AI.valC]at hl
     split at hl
     ·cases hl
      match i,hy with
      |0,hy=>simp at hy;subst hy;exact hrel
      |i+1,hy=>simp at hy
     ·cases hl
   |global g=>cases hl
   |func fn=>
    simp only[zy,AI.valC,ql]at hl
    split at hl
    ·cases hl
     match i,hy with
     |0,hy=>simp at hy;subst hy;exact hrel
     |i+1,hy=>simp at hy
    ·cases hl
  exact hnt.c _
structure WrM (w w' : World) (blk : Nat) (ob : Obj) : Prop where
 size:w'.heap.size=w.heap.size
 at_:w'.heap[blk]?=some ob
 other:∀b,b≠blk->w'.heap[b]?=w.heap[b]?
 rest:Zm w w'
 sz:∀z,KQ w blk=some z->KQ w' blk=some z
abbrev Wr(w w':World)(blk:Nat)(arr:Array Value)(e:TypeId):Prop:=WrM w w' blk (.cells arr e (0,0))
theorem xG{cs vs cs':List AV}{i:Nat}(h:qm cs i vs=some cs'):i+vs.length<=cs.length/\cs'=cs.take i++vs++cs.drop (i+vs.length):=by
 unfold qm at h
 split at h
 ·cases h;exact⟨by assumption,rfl⟩
 ·cases h
theorem yO{α:Type}(cs vs:List α)(i:Nat)(h:i+vs.length<=cs.length)(k:Nat):
 (cs.take i++vs++cs.drop (i+vs.length))[k]?=if i<=k/\k<i+vs.length then vs[k-i]? else cs[k]?:=by
 have hl:(cs.take i).length=i:=qh
 rw[zgw]
 by_cases h1:k<i
 ·rw[zg0 qc,zgt,if_pos h1,if_neg qc]
 ·rw[zgv qc,hl]
  by_cases h2:k<i+vs.length
  ·rw[zg0 qc,if_pos ⟨qc,h2⟩]
  ·rw[zgv qc,if_neg qc,zhb]
   congr 1;omega
theorem vc(w:World){blk off:Nat}{arr:Array Value}{e:TypeId}(hw:w.heap[blk]?=some (.cells arr e (0,0))) {us:List Value} (hle:off+us.length<=arr.size):
 Wr w (w.setRow blk (arr.toList.take off++us++arr.toList.drop (off+us.length)).toArray) blk (arr.toList.take off++us++arr.toList.drop (off+us.length)).toArray e:=by
 refine⟨qf,setRow_heap w blk arr _ e _ hw,fun b hb=>setRow_other w blk b _ hb,⟨rfl,rfl,rfl⟩,fun z hz=>?_⟩
 rw[jG hw]at hz
 rw[jG (setRow_heap w blk arr _ e _ hw)]
 rw[<-hz]
 congr 1
 have:arr.toList.length=arr.size:=zho
 simp only[zg7,zgi,zhj,zi4,this]
 omega
theorem vV{P:Program}{t:TypeId}{ti:TI}(ht:TOk P t ti)(hk:Qu ti.k=false){blk off:Nat}{arr:Array Value}{e:TypeId}(hw:w.heap[blk]?=some (.cells arr e (0,0))) {v:Value}
 (hsz:v.cells.size=ti.size) (hle:off+v.cells.size<=arr.size) (hone:∀u∈v.cells.toList,u.oneCell'=true):
 ∃w',(Instr.storeAt t (.pointer (some ⟨blk,off,none⟩)) v).run P w= .ok () w'/\
  Wr w w' blk (arr.toList.take off++v.cells.toList++arr.toList.drop (off+v.cells.toList.length)).toArray e:=by
 have hrun:=run_storeCells_at P blk off e v.cells.toList 0 arr w hw (by simpa using hle) hone
 simp only[zim]at hrun
 refine⟨w.setRow blk (arr.toList.take off++v.cells.toList++arr.toList.drop (off+v.cells.toList.length)).toArray,?_,
  vc w hw hle⟩
 simp only[Instr.storeAt,Instr.sureAddr,storeVar]
 simp only[Sem.run_bind,Sem.run_pure,Result.andThen_ok,ht.sizeOf hk w,hsz]
 simp only[ne_eq,not_true_eq_false,if_false]
 exact hrun
theorem Fr.wr(hI:Inv G w st a.tmps){blk:Nat}{ob:Obj}(hw:WrM w w' blk ob)(hb:(∃k g,G.Om blk= .box k g)\/(∃k g,G.Om blk= .obj k g)):Fr G w G w' where
 size:=by rw[hw.size];exact zgm _
 cells b i hi:=by
  have hne:b≠blk:=by rintro rfl;rw[hI.vars b hb]at hi;omega
  exact yA (hw.other b hne) i
 imm b:=zgm _
 mu _ _ _ h:=h
 same b _ ho:=by
  have hne:b≠blk:=by
   rintro rfl
   rcases hb with⟨k,g,h⟩|⟨k,g,h⟩<;>rcases ho with h'|h'<;>rw[h]at h'<;>cases h'
  exact⟨hw.other b hne,rfl,rfl⟩
 rest:=hw.rest
 bs b z hz:=by
  by_cases e:b=blk
  ·subst e;exact hw.sz z hz
  ·rw[Zj (hw.other b e)];exact hz
theorem qfk{blk:Nat}{ob:Obj}(hw:WrM w w' blk ob){p:Ow}(hp:p≠G.Om blk):zq G w G w' p p:=by
 intro b hb
 have hne:b≠blk:=by rintro rfl;exact hp hb.symm
 exact⟨hw.other b hne,rfl,hb⟩
theorem Inv.writeBox(hI:Inv G w st a.tmps){k g:Nat}{cs cs':List AV}(hg:zK st.bx k=some (g,cs)){blk:Nat}(hla:G.la k g=some blk)(hom:G.Om blk= .box k g)
 {arr:Array Value} {e:TypeId} (hw:Wr w w' blk arr e) (hlen:cs'.length<=arr.size) (hrel:∀(i:Nat) (x:AV) (u:Value),cs'[i]?=some x->arr[i]?=some u->jt G w (.bc k g i) x u):
 Inv G w' ⟨st.sl,XD st.bx k g cs',st.hp⟩ a.tmps/\Fr G w G w':=by
 have hf:=Fr.wr hI hw (.inl ⟨k,g,hom⟩)
 have hk:∀p,(∀k g,p≠ .box k g)->zq G w G w' p p:=fun p hp=>qfk hw (by rw[hom];exact hp k g)
 refine⟨?_,hf⟩
 exact{
  slots:=fun j=>qL.ev hf.ev (fun j' i=>hk _ qf) (fun _ _ _ _ _ h=>h) (hI.slots j)
  boxes:=fun j g' cs'' hb=>by
   have hb':zK (XD st.bx k g cs') j=some (g',cs''):=hb
   rw[ke]at hb'
   split at hb'
   ·rename_i ek;subst ek
    cases hb'
    exact⟨blk,hla,hom,arr,e,hw.at_,hlen,fun i x u hx hu=>(hrel i x u hx hu).ev hf.ev (hk _ qf)⟩
   ·rename_i hne
    obtain⟨blk',h1,h2,h3⟩:=hI.boxes j g' cs'' hb'
    have hbb:blk'≠blk:=by
     rintro rfl;rw[hom]at h2;cases h2;exact hne rfl
    exact⟨blk',h1,h2,h3.ev hf.ev (hw.other _ hbb) fun i=>hk _ qf⟩
  heap:=fun j g' cs'' hb=>by
   obtain⟨blk',h1,h2,h3⟩:=hI.heap j g' cs'' hb
   have hbb:blk'≠blk:=by rintro rfl;rw[hom]at h2;cases h2
   exact⟨blk',h1,h2,h3.ev hf.ev (hw.other _ hbb) fun i=>hk _ qf⟩
  next:=hI.next
  hlt:=hI.hlt
  new:=fun b hb=>hI.new b (by rw[hw.size]at hb;exact hb)
  vars:=hI.vars
  lps:=fun j k' g' off hs=>by
   obtain⟨g'',cs'',h1,h2⟩:=hI.lps j k' g' off hs
   show∃g'' cs'',zK (XD st.bx k g cs') k'=some (g'',cs'')/\g'<=g''
   rw[ke]
   split
   ·rename_i ek;subst ek
    rw[hg]at h1;cases h1
    exact⟨g,cs',rfl,h2⟩
   ·exact⟨g'',cs'',h1,h2⟩}
theorem Inv.writeOb(hI:Inv G w st a.tmps){b g:Nat}{cs cs':List AV}(hg:st.hp.get b=some (g,cs)){blk:Nat}(hmu:G.mu b g=some blk)(hom:G.Om blk= .obj b g)
 {ob:Obj} (hw:WrM w w' blk ob) (hob:Fr G w G w'->(∀p,(∀k g,p≠ .obj k g)->zq G w G w' p p)->ObR G w' blk (.oc b g ·) g cs'):
 Inv G w' ⟨st.sl,st.bx,st.hp.put b g cs'⟩ a.tmps/\Fr G w G w':=by
 have hf:=Fr.wr hI hw (.inr ⟨b,g,hom⟩)
 have hk:∀p,(∀k g,p≠ .obj k g)->zq G w G w' p p:=fun p hp=>qfk hw (by rw[hom];exact hp b g)
 refine⟨?_,hf⟩
 exact{
  slots:=fun j=>qL.ev hf.ev (fun j' i=>hk _ qf) (fun _ _ _ _ _ h=>h) (hI.slots j)
  boxes:=fun j g' cs'' hb=>by
   obtain⟨blk',h1,h2,h3⟩:=hI.boxes j g' cs'' hb
   have hbb:blk'≠blk:=by rintro rfl;rw[hom]at h2;cases h2
   exact⟨blk',h1,h2,h3.ev hf.ev (hw.other _ hbb) fun i=>hk _ qf⟩
  heap:=fun j g' cs'' hb=>by
   have hb':(if j=b then some (g,cs')else st.hp.get j)=some (g',cs''):=hb
   split at hb'
   ·rename_i ek;subst ek
    cases hb'
    exact⟨blk,hmu,hom,hob hf hk⟩
   ·rename_i hne
    obtain⟨blk',h1,h2,h3⟩:=hI.heap j g' cs'' hb'
    have hbb:blk'≠blk:=by
     rintro rfl;rw[hom]at h2;cases h2;exact hne rfl
    exact⟨blk',h1,h2,h3.ev hf.ev (hw.other _ hbb) fun i=>hk _ qf⟩
  next:=hI.next
  hlt:=fun j g' cs'' hb=>by
   have hb':(if j=b then some (g,cs')else st.hp.get j)=some (g',cs''):=hb
   show j<st.hp.next
   split at hb'
   ·rename_i ek;subst ek;exact hI.hlt j g cs hg
   ·exact hI.hlt j g' cs'' hb'
  new:=fun b hb=>hI.new b (by rw[hw.size]at hb;exact hb)
  vars:=hI.vars
  lps:=hI.lps}
theorem Inv.writeObj(hI:Inv G w st a.tmps){b g:Nat}{cs cs':List AV}(hg0:g=0)(hg:st.hp.get b=some (g,cs)){blk:Nat}(hmu:G.mu b g=some blk)(hom:G.Om blk= .obj b g)
 {arr:Array Value} {e:TypeId} (hw:Wr w w' blk arr e) (hlen:cs'.length<=arr.size) (hrel:∀(i:Nat) (x:AV) (u:Value),cs'[i]?=some x->arr[i]?=some u->jt G w (.oc b g i) x u):
 Inv G w' ⟨st.sl,st.bx,st.hp.put b g cs'⟩ a.tmps/\Fr G w G w':=by
 subst hg0
 refine hI.writeOb hg hmu hom hw fun hf hk=>?_
 show yL G w' blk _ cs'
 exact⟨arr,e,hw.at_,hlen,fun i x u hx hu=>(hrel i x u hx hu).ev hf.ev (hk _ qf)⟩
theorem QG{p f:Nat->Ow}{cs vs cs':List AV}{off:Nat}{arr:Array Value}{us:List Value}(hp:qm cs off vs=some cs')(hlen:cs.length<=arr.size)(hvl:vs.length=us.length)
 (hc:∀(i:Nat) (x:AV) (u:Value),cs[i]?=some x->arr[i]?=some u->jt G w (p i) x u) (hv:∀(i:Nat) (x:AV) (u:Value),vs[i]?=some x->us[i]?=some u->jt G w (f i) x u) (hf:∀i,f i=p (off+i)):
 let arr':=(arr.toList.take off++us++arr.toList.drop (off+us.length)).toArray
 cs'.length<=arr'.size/\∀(i:Nat) (x:AV) (u:Value),cs'[i]?=some x->arr'[i]?=some u->jt G w (p i) x u:=by
 obtain⟨hle,rfl⟩:=xG hp
 have hle':off+us.length<=arr.toList.length:=qh
 refine⟨qh,fun i x u hx hu=>?_⟩
 have hu':(arr.toList.take off++us++arr.toList.drop (off+us.length))[i]?=some u:=by simpa using hu
 rw[yO _ _ _ hle']at hu'
 rw[yO _ _ _ hle]at hx
 rw[hvl]at hx
 split at hx
 ·rename_i hin
  rw[if_pos hin]at hu'
  have:=hv (i-off) x u hx hu'
  rw[hf]at this
  rwa [show off+(i-off)=i by omega]at this
 ·rename_i hin
  rw[if_neg hin]at hu'
  exact hc i x u hx (by simpa using hu')
end
section
variable {c:Cx}{G:Gh}{w w':World}{st:St}{a:Act}{o:Oper}{Q:Exit->Act->World->Prop}
theorem qis(d:Option Nat)(hI:Inv G w st a.tmps)(hd:∀k,d=some k->k<a.tmps.size)(v:Value):Inv G w ⟨vD st.sl d .un,st.bx,st.hp⟩ (a.put d v).tmps:=
 hI.put d hd (fun _ _=>trivial) (fun _ _ _ e=>by cases e)
theorem vC{hp:Hp}{b g:Nat}{cs:List AV}(h:hp.rd b g=some cs):hp.get b=some (g,cs)/\g=0:=by
 unfold Hp.rd at h
 obtain⟨e,he,h⟩:=bsm h
 split at h
 ·rename_i hg
  have:e.2=cs:=zgy h
  refine⟨?_,hg.2⟩
  rw[he,<-hg.1,<-this]
 ·cases h
theorem qer{hp:Hp}{b:Nat}{cs:List AV}(h:hp.rdM b=some cs):hp.get b=some (1,cs):=by
 unfold Hp.rdM at h
 obtain⟨e,he,h⟩:=bsm h
 split at h
 ·rename_i hg
  have:e.2=cs:=zgy h
  rw[he,<-hg,<-this]
 ·cases h
theorem xU{blk:Nat}{p:Nat->Ow}{g:Nat}{cs:List AV}(h:ObR G w blk p g cs)(hg:g=0):yL G w blk p cs:=by
 subst hg;exact h
theorem qte(hc:Ok c)(hI:Inv G w st a.tmps)(hd:jJ o a)(h:Nat){t:TypeId}{ti:TI}(hti:c.tn t=some ti){x y:Operand}(hop:o.op= .store t x y){r:SV×BE×Hp}
 (hr:yS ti (zy st.sl x) (zy st.sl y) (zK st.bx) st.hp k3=some r):o.wp c.P a w (jx G w a (after h o st r.1 r.2.1 r.2.2)) Q:=by
 have ht:=hc.tt t ti (qs hti).1
 have hk:=(qs hti).2
 have hxr:=wo hI x
 have hdn:qF h o st.sl=qG (zF [y]) st.sl:=by simp[qF,qN,hop]
 unfold yS at hr
 obtain⟨vs,hvs,hr⟩:=bsm hr
 split at hr
 ·rename_i k g off hx
  rw[hx]at hxr
  obtain⟨blk,hla,hv⟩:=hxr
  split at hr
  ·rename_i g' cs hgb
   split at hr
   ·rename_i hg
    subst hg
    obtain⟨cs',hcs',hr⟩:=bsm hr
    cases hr
    obtain⟨G1,hf1,hI1,hl1,hrel1,hla1,hmu1⟩:=hI.giveO y (f:=fun i=>.bc k g (off+i)) (fun i=>trivial) hvs
    obtain⟨blk',b1,b2,arr,e,b3,b4,b5⟩:=hI1.boxes k g cs hgb
    rw[hla1,hla]at b1;cases b1
    have hvl:vs.length=(a.eval y).cells.toList.length:=hrel1.1
    obtain⟨hle,_⟩:=xG hcs'
    have hsz:(a.eval y).cells.size=ti.size:=by rw[<-hl1,hvl];simp
    obtain⟨w',hrun,hwr⟩:=vV (P:=c.P) ht hk (off:=off) b3 hsz (by rw[hvl,zho]at hle;omega) hrel1.one
    obtain⟨s1,s2⟩:=QG (p:=fun i=>.bc k g i) (f:=fun i=>.bc k g (off+i)) hcs' b4 hvl b5 hrel1.2 (fun i=>rfl)
    obtain⟨hI2,hf2⟩:=hI1.writeBox hgb (by rw[hla1];exact hla) b2 hwr s1 s2
    refine Xr (w':=w') ?_ ⟨G1,?_,hf1.trans hf2,zb _ _ _,qI _ _ _⟩
    ·simp only[execOp,hop,hv]
     rw[Sem.run_bind,hrun];rfl
    ·unfold after
     rw[hdn]
     exact qis o.dst hI2 hd undef
   ·cases hr
  ·cases hr
 ·rename_i z hx
  rw[hx]at hxr
  obtain⟨p,hp,hr⟩:=bsm hr
  obtain⟨cs,hcs,hr⟩:=bsm hr
  obtain⟨cs',hcs',hr⟩:=bsm hr
  cases hr
  have hz:=yZ hp
  subst hz
  obtain⟨blk,m1,hv⟩:=qxo (p:=fun i=>.sl (wn x) 0 i) hxr
  obtain⟨hget,hg0⟩:=vC hcs
  obtain⟨G1,hf1,hI1,hl1,hrel1,hla1,hmu1⟩:=hI.giveO y (f:=fun i=>.oc p.1 p.2.1 (p.2.2+i)) (fun i=>trivial) hvs
  obtain⟨blk',b1,b2,b3⟩:=hI1.heap p.1 p.2.1 cs hget
  obtain⟨arr,e,b3,b4,b5⟩:=xU b3 hg0
  rw[hmu1,m1]at b1;cases b1
  have hvl:vs.length=(a.eval y).cells.toList.length:=hrel1.1
  obtain⟨hle,_⟩:=xG hcs'
  have hsz:(a.eval y).cells.size=ti.size:=by rw[<-hl1,hvl];simp
  obtain⟨w',hrun,hwr⟩:=vV (P:=c.P) ht hk (off:=p.2.2) b3 hsz (by rw[hvl,zho]at hle;omega) hrel1.one
  obtain⟨s1,s2⟩:=QG (p:=fun i=>.oc p.1 p.2.1 i) (f:=fun i=>.oc p.1 p.2.1 (p.2.2+i)) hcs' b4 hvl b5 hrel1.2 (fun i=>rfl)
  obtain⟨hI2,hf2⟩:=hI1.writeObj hg0 hget (by rw[hmu1];exact m1) b2 hwr s1 s2
  refine Xr (w':=w') ?_ ⟨G1,?_,hf1.trans hf2,zb _ _ _,qI _ _ _⟩
  ·simp only[execOp,hop,hv]
   rw[Sem.run_bind,hrun];rfl
  ·unfold after
   rw[hdn]
   exact qis o.dst hI2 hd undef
 ·cases hr
theorem qmi{l:List Value}{arr:Array Value}(h:arr.toList=l)(h1:∀v∈l,v.oneCell'=true):
 (zH l).length<=arr.size/\∀(i:Nat) (x:AV) (u:Value),(zH l)[i]?=some x->arr[i]?=some u->RelR G w x u:=by
 subst h
 refine⟨by simp[zH],fun i x u hx hu=>?_⟩
 obtain⟨y,hy,rfl⟩:=qv _ _ _ _ hx
 have:arr.toList[i]?=some u:=by simpa using hu
 rw[hy]at this;cases this
 exact .sc _ (h1 _ (zgo hy))
theorem yb(w:World)(ob:Obj):New w {w with heap:=w.heap.push ob} ob:=⟨rfl,rfl,rfl,rfl⟩
theorem qtm(hc:Ok c)(hI:Inv G w st a.tmps)(hd:jJ o a)(h:Nat){t:TypeId}{ti:TI}(hti:c.tn t=some ti)(hop:o.op= .alloc t){r:SV×BE×Hp}
 (hr:(if h=2 then k3 (.av (.ptr st.hp.next 0 0)) none (st.hp.new (zH ti.zero))else
  match o.dst with
  |some d=>let g:=match zK st.bx d with|some (g,_)=>g+1|none=>0
   k3 (.lp d g 0) (some (d,g,zH ti.zero)) st.hp
  |none=>none)=some r):o.wp c.P a w (jx G w a (after h o st r.1 r.2.1 r.2.2)) Q:=by
 have ht:=hc.tt t ti (qs hti).1
 obtain⟨z,z1,z2,z3,z4⟩:=ht.zero (qs hti).2
 have hdn:qF h o st.sl=st.sl:=by simp[qF,qN,hop,qG]
 obtain⟨r1,r2⟩:=qmi (G:=G) (w:=w) z1 z3
 have hrun:(execOp a.eval o).run c.P w= .ok (.value (.pointer (some ⟨w.heap.size,0,none⟩))) {w with heap:=w.heap.push (.cells z.cells t (0,0))}:=by
  simp only[execOp,hop,Instr.alloc]
  simp[z4,newVar,newRow]
 split at hr
 ·cases hr
  refine qw hrun (qdh hI h hdn hd (yb w _) r1 r2 (fun G' hG k=>?_) (fun _ _ _ e=>by cases e))
  exact RelR.ptr _ _ _ _ hG
 ·split at hr
  ·rename_i d hdst
   cases hr
   exact qw hrun (qmf hI h hdn hdst (hd d hdst) (yb w _) r1 r2 rfl)
  ·cases hr
theorem qxj{p:Nat->Ow}{l:List AV}{vs:List Value}{arr:Array Value}(h:YQ G w p l vs)(ha:arr.toList=vs):
 (l.map ro1).length<=arr.size/\∀(i:Nat) (x:AV) (u:Value),(l.map ro1)[i]?=some x->arr[i]?=some u->RelR G w x u:=by
 subst ha
 refine⟨by have:=h.1;simp at this⊢;omega,fun i x u hx hu=>?_⟩
 obtain⟨y,hy,rfl⟩:=qv _ _ _ _ hx
 exact(h.2 i y u hy (by simpa using hu)).ro
theorem zbv(hc:Ok c)(hI:Inv G w st a.tmps)(hd:jJ o a)(h:Nat){t:TypeId}{ti:TI}(hti:c.tn t=some ti){x:Operand}(hop:o.op= .box t x){r:SV×BE×Hp}
 (hr:((valC ti.size (zy st.sl x)).bind fun vs=>if h=2 then k3 (.av (.ptr st.hp.next 0 0)) none (st.hp.new (vs.map ro1))else
  match o.dst with
  |some d=>let g:=match zK st.bx d with|some (g,_)=>g+1|none=>0
   k3 (.lp d g 0) (some (d,g,vs.map ro1)) st.hp
  |none=>none)=some r):o.wp c.P a w (jx G w a (after h o st r.1 r.2.1 r.2.2)) Q:=by
 obtain⟨vs,hvs,hr⟩:=bsm hr
 have hv:=qL.valC (wo hI x) hvs
 have hdn:qF h o st.sl=st.sl:=by simp[qF,qN,hop,qG]
 obtain⟨r1,r2⟩:=qxj (arr:=(a.eval x).cells) hv.2 rfl
 have hrun:(execOp a.eval o).run c.P w= .ok (.value (.pointer (some ⟨w.heap.size,0,none⟩))) {w with heap:=w.heap.push (.cells (a.eval x).cells t (0,0))}:=by
  simp only[execOp,hop,Instr.box]
  simp[newVar,newRow]
 split at hr
 ·cases hr
  refine qw hrun (qdh hI h hdn hd (yb w _) r1 r2 (fun G' hG k=>?_) (fun _ _ _ e=>by cases e))
  exact RelR.ptr _ _ _ _ hG
 ·split at hr
  ·rename_i d hdst
   cases hr
   exact qw hrun (qmf hI h hdn hdst (hd d hdst) (yb w _) r1 r2 rfl)
  ·cases hr
end
section
variable {c:Cx}{G:Gh}{w w':World}{st:St}{a:Act}{o:Oper}{Q:Exit->Act->World->Prop}
theorem qe8(cs:List AV)(off i:Nat)(x:AV)(hx:cs[off]?=some x):(cs.set off (ro1 x))[i]?=if off<=i/\i<off+1 then(cs[i]?).map ro1 else cs[i]?:=by
 have hlt:=(zgq.mp hx).1
 by_cases e:off=i
 ·subst e
  rw[zjz hlt,if_pos ⟨zgm _,qc⟩,hx];rfl
 ·rw[zkc e,if_neg qc]
theorem WK{P:Program}{t:TypeId}{ti:TI}(ht:TOk P t ti)(hk:Qu ti.k=false){cs:List AV}{vs:List Value}{A:Addr}{off:Nat}{p:Nat->Ow}
 (hlen:cs.length=vs.length) (hcell:∀(k:Nat) (u:Value),vs[k]?=some u->w.cell? (A.add k)=some u) (hrel:∀(k:Nat) (x:AV) (u:Value),cs[k]?=some x->vs[k]?=some u->jt G w (p k) x u)
 {r:SV×List AV} (hr:(ju ti 1 cs off fun s l=>some (s,l))=some r):
 ∃n,r.2.length=cs.length/\(∀i:Nat,r.2[i]?=if off<=i/\i<off+n then(cs[i]?).map ro1 else cs[i]?)/\
  ∃v,(Instr.loadAt t (.pointer (some (A.add off)))).run P w= .ok v w/\(∀k g off,r.1≠ .lp k g off)/\
   ∀(G':Gh) k',Ev G w G' w->(∀i,i<n->zq G w G' w (p (off+i)) (.sl k' 0 i))->qL G' w k' r.1 v:=by
 have vI:∀j,(A.add off).add j=A.add (off+j):=by
  intro j
  unfold Addr.add
  by_cases h1:off=0<;>by_cases h2:j=0<;>simp[h1,h2,ziq]
 have hz:=ht.sizeOf hk w
 have ha:=ht.isAgg hk w
 unfold ju at hr
 split at hr
 ·rename_i hsc
  obtain⟨v,hv,hr⟩:=bsm hr
  cases hr
  have hx:=xZ hv
  obtain⟨u,hu⟩:=qR hlen hx
  have hru:=hrel _ _ _ hx hu
  have hag:yC ti.k=false:=by cases hkk:ti.k<;>rw[hkk]at hsc<;>first|rfl|cases hsc
  refine⟨0,rfl,fun i=>by rw[if_neg qc],u,?_,(fun _ _ _ e=>by cases e),fun G' k' he hke=>?_⟩
  ·simp[Instr.loadAt,Instr.sureAddr,loadVar,ha,hag,hcell _ _ hu]
  ·have hru':RelR G w (.sc v) u:=hru
   cases hru' with
   |sc _ h1=>exact⟨rfl,h1⟩
 ·split at hr
  ·rename_i hsc hag
   obtain⟨l,hl,hr⟩:=bsm hr
   simp only[if_true]at hr
   obtain⟨cs',hcs',hr⟩:=bsm hr
   cases hr
   obtain⟨hle,rfl⟩:=zY hl
   obtain⟨hle2,rfl⟩:=xG hcs'
   have hll:((cs.drop off).take ti.size).length=ti.size:=qh
   refine⟨ti.size,qh,fun i=>?_,.agg ((vs.drop off).take ti.size).toArray,?_,(fun _ _ _ e=>by cases e),fun G' k' he hke=>⟨(vs.drop off).take ti.size,rfl,by simp[hlen],fun i x u hx hu=>?_⟩⟩
   ·rw[yO _ _ _ hle2]
    simp only[zhv,hll]
    split
    ·rename_i hin
     rw[zgx,zgt,if_pos qc,zhb]
     congr 2;omega
    ·rfl
   ·have hload:=run_loadCells_list (P:=P) (w:=w) (A.add off) ((vs.drop off).take ti.size) (fun j v hj=>by
     rw[vI]
     rw[zgt]at hj
     split at hj
     ·exact hcell (off+j) v (by rw[<-hj];simp)
     ·cases hj)
    have hll':((vs.drop off).take ti.size).length=ti.size:=qh
    rw[hll']at hload
    simp[Instr.loadAt,Instr.sureAddr,loadVar,ha,hag,hz,hload]
   ·rw[zgt]at hx hu
    split at hx
    ·rename_i hq
     simp only[hq,if_true]at hu
     exact(hrel (off+i) x u (by rw[<-hx];simp) (by rw[<-hu];simp)).ev he (hke i hq)
    ·cases hx
  ·rename_i hsc hag
   obtain⟨x,hx,hr⟩:=bsm hr
   simp only[if_true]at hr
   cases hr
   have hx:cs[off]?=some x:=hx
   obtain⟨u,hu⟩:=qR hlen hx
   have hag':yC ti.k=false:=by simpa using hag
   refine⟨1,qf,fun i=>qe8 cs off i x hx,u,?_,(fun _ _ _ e=>by cases e),fun G' k' he hke=>?_⟩
   ·simp[Instr.loadAt,Instr.sureAddr,loadVar,ha,hag',hcell _ _ hu]
   ·exact(((hrel _ _ _ hx hu).ev he (by simpa using hke 0 qc)).v (p:=fun i=>.sl k' 0 i))
def Qz(YW:Ow->Option Nat)(d:Nat)(p:Ow):Ow:=
 match YW p with
 |some i=>.sl d 0 i
 |none=>p
def Vv(k g off n:Nat):Ow->Option Nat
 | .bc k' g' q=>if k'=k/\g'=g/\off<=q/\q<off+n then some (q-off)else none
 |_=>none
def XE(k g off n:Nat):Ow->Option Nat
 | .oc k' g' q=>if k'=k/\g'=g/\off<=q/\q<off+n then some (q-off)else none
 |_=>none
structure SelOk (YW : Ow → Option Nat) : Prop where
 sl:∀k j i,YW (.sl k j i)=none
 box:∀k g,YW (.box k g)=none
 obj:∀k g,YW (.obj k g)=none
 fr:YW .fr=none
 oth:YW .oth=none
theorem qw3(k g off n:Nat):SelOk (Vv k g off n):=⟨fun _ _ _=>rfl,fun _ _=>rfl,fun _ _=>rfl,rfl,rfl⟩
theorem qw2(k g off n:Nat):SelOk (XE k g off n):=⟨fun _ _ _=>rfl,fun _ _=>rfl,fun _ _=>rfl,rfl,rfl⟩
theorem qle{YW:Ow->Option Nat}(hs:SelOk YW)(d:Nat):Rho (Qz YW d) where
 fr:=by simp[Qz,hs.fr]
 oth:=by simp[Qz,hs.oth]
 box p k g h:=by
  unfold Qz at h
  split at h
  ·cases h
  ·exact h
 obj p k g h:=by
  unfold Qz at h
  split at h
  ·cases h
  ·exact h
theorem qlh{G':Gh}(he:Ev G w G' w){p q:Nat->Ow}{off n:Nat}{cs cs':List AV}{arr:Array Value}(hlen:cs'.length=cs.length)
 (hget:∀i:Nat,cs'[i]?=if off<=i/\i<off+n then(cs[i]?).map ro1 else cs[i]?) (h:∀(i:Nat) (x:AV) (u:Value),cs[i]?=some x->arr[i]?=some u->jt G w (p i) x u)
 (hk:∀i,¬(off<=i/\i<off+n)->zq G w G' w (p i) (q i)) (i:Nat) (x:AV) (u:Value) (hx:cs'[i]?=some x) (hu:arr[i]?=some u):jt G' w (q i) x u:=by
 rw[hget]at hx
 split at hx
 ·cases hc:cs[i]? with
  |none=>rw[hc]at hx;cases hx
  |some y=>
   rw[hc]at hx
   cases hx
   exact((h i y u hc hu).ro.ev he).c _
 ·rename_i hin
  exact(h i x u hx hu).ev he (hk i hin)
theorem qth(hc:Ok c)(hI:Inv G w st a.tmps)(hd:jJ o a){t:TypeId}{ti:TI}(hti:c.tn t=some ti){x:Operand}(hop:o.op= .load t x){r:SV×BE×Hp}
 (hr:zT 1 ti (zy st.sl x) (zK st.bx) st.hp k3=some r):o.wp c.P a w (jx G w a (after 1 o st r.1 r.2.1 r.2.2)) Q:=by
 have hdn:qF 1 o st.sl=st.sl:=by simp[qF,qN,hop,qG]
 have ht:=hc.tt t ti (qs hti).1
 have hkk:=(qs hti).2
 have hxr:=wo hI x
 unfold zT at hr
 split at hr
 ·rename_i k g off hx
  rw[hx]at hxr
  obtain⟨blk,hla,hv⟩:=hxr
  split at hr
  ·rename_i g' cs hgb
   split at hr
   ·rename_i hg
    subst hg
    rw[qH]at hr
    obtain⟨q,hq,hr⟩:=bsm hr
    have hr':some (q.1,(some (k,g,q.2):BE),st.hp)=some r:=hr
    cases hr'
    obtain⟨blk',b1,b2,b3⟩:=hI.boxes k g cs hgb
    rw[hla]at b1;cases b1
    obtain⟨vs,v1,v2,v3⟩:=kR b3
    obtain⟨n,n1,n2,v,hrun,n3,n4⟩:=WK (P:=c.P) ht hkk (A:=⟨blk,0,none⟩) v1 (fun k u hu=>v2 0 k u (by simpa using hu)) v3 hq
    rw[qT,zha]at hrun
    have hrun':(execOp a.eval o).run c.P w= .ok (.value v) w:=by
     simp only[execOp,hop,hv]
     rw[Sem.run_bind,hrun];rfl
    have hso:=qw3 k g off n
    let d:=o.dst.getD 0
    have hrho:=qle hso d
    have he:Ev G w (G.rel (Qz (Vv k g off n) d)) w:=(Fr.rel hrho).ev
    have keep:∀p q,Qz (Vv k g off n) d p=q->zq G w (G.rel (Qz (Vv k g off n) d)) w p q:=fun p q hpq b hb=>⟨rfl,rfl,by simp[Gh.rel,hb,hpq]⟩
    obtain⟨hnw,hvars⟩:=hI.relNew hrho
    refine qw hrun' ⟨G.rel (Qz (Vv k g off n) d),?_,Fr.rel hrho,zb _ _ _,qI _ _ _⟩
    have hI2:Inv (G.rel (Qz (Vv k g off n) d)) w ⟨st.sl,XD st.bx k g q.2,st.hp⟩ a.tmps:={
     slots:=fun j=>qL.ev he (fun j' i=>keep _ _ (by simp[Qz,hso.sl])) (fun _ _ _ _ _ h=>h) (hI.slots j)
     boxes:=fun j g' cs'' hb=>by
      have hb':zK (XD st.bx k g q.2) j=some (g',cs''):=hb
      rw[ke]at hb'
      split at hb'
      ·rename_i ek;subst ek
       cases hb'
       obtain⟨arr,e,a1,a2,a3⟩:=b3
       refine⟨blk,hla,by simp[Gh.rel,b2,Qz,hso.box],arr,e,a1,by rw[n1];exact a2,qlh he n1 n2 a3 (fun i hi=>keep _ _ ?_)⟩
       simp only[Qz,Vv]
       rw[if_neg qc]
      ·rename_i hne
       obtain⟨blk',h1,h2,h3⟩:=hI.boxes j g' cs'' hb'
       refine⟨blk',h1,by simp[Gh.rel,h2,Qz,hso.box],h3.ev he rfl fun i=>keep _ _ ?_⟩
       simp only[Qz,Vv]
       rw[if_neg (fun e=>hne e.1.symm)]
     heap:=fun j g' cs'' hb=>by
      obtain⟨blk',h1,h2,h3⟩:=hI.heap j g' cs'' hb
      exact⟨blk',h1,by simp[Gh.rel,h2,Qz,hso.obj],h3.ev he rfl fun i=>keep _ _ (by simp[Qz,Vv])⟩
     next:=hI.next
     hlt:=hI.hlt
     new:=hnw
     vars:=hvars
     lps:=fun j k' g' off hs=>by
      obtain⟨g'',cs'',h1,h2⟩:=hI.lps j k' g' off hs
      show∃g'' cs'',zK (XD st.bx k g q.2) k'=some (g'',cs'')/\g'<=g''
      rw[ke]
      split
      ·rename_i ek;subst ek
       rw[hgb]at h1;cases h1
       exact⟨g,q.2,rfl,h2⟩
      ·exact⟨g'',cs'',h1,h2⟩}
    unfold after
    rw[hdn]
    refine hI2.put o.dst hd (fun k' hk'=>n4 _ k' he (fun i hi=>keep _ _ ?_)) (fun k' g' off' e=>absurd e (n3 k' g' off'))
    have hdd:d=k':=by simp[d,hk']
    simp only[Qz,Vv]
    rw[if_pos ⟨trivial,trivial,qc,qc⟩,hdd]
    simp
   ·cases hr
  ·cases hr
 ·simp at hr
 ·rename_i y hx
  rw[hx]at hxr
  obtain⟨p,hp,hr⟩:=bsm hr
  obtain⟨cs,hcs,hr⟩:=bsm hr
  rw[qH]at hr
  obtain⟨q,hq,hr⟩:=bsm hr
  have hr':some (q.1,(none:BE),st.hp.put p.1 p.2.1 q.2)=some r:=hr
  cases hr'
  have hy:=yZ hp
  subst hy
  obtain⟨blk,m1,hv⟩:=qxo (p:=fun i=>.sl (wn x) 0 i) hxr
  obtain⟨hget,hg0⟩:=vC hcs
  obtain⟨blk',b1,b2,b3⟩:=hI.heap p.1 p.2.1 cs hget
  have b3:=xU b3 hg0
  rw[m1]at b1;cases b1
  obtain⟨vs,v1,v2,v3⟩:=kR b3
  obtain⟨n,n1,n2,v,hrun,n3,n4⟩:=WK (P:=c.P) ht hkk (A:=⟨blk,0,none⟩) v1 (fun k u hu=>v2 0 k u (by simpa using hu)) v3 hq
  rw[qT,zha]at hrun
  have hrun':(execOp a.eval o).run c.P w= .ok (.value v) w:=by
   simp only[execOp,hop,hv]
   rw[Sem.run_bind,hrun];rfl
  have hso:=qw2 p.1 p.2.1 p.2.2 n
  let d:=o.dst.getD 0
  have hrho:=qle hso d
  have he:Ev G w (G.rel (Qz (XE p.1 p.2.1 p.2.2 n) d)) w:=(Fr.rel hrho).ev
  have keep:∀u v,Qz (XE p.1 p.2.1 p.2.2 n) d u=v->zq G w (G.rel (Qz (XE p.1 p.2.1 p.2.2 n) d)) w u v:=fun u v hpq b hb=>⟨rfl,rfl,by simp[Gh.rel,hb,hpq]⟩
  obtain⟨hnw,hvars⟩:=hI.relNew hrho
  refine qw hrun' ⟨G.rel (Qz (XE p.1 p.2.1 p.2.2 n) d),?_,Fr.rel hrho,zb _ _ _,qI _ _ _⟩
  have hI2:Inv (G.rel (Qz (XE p.1 p.2.1 p.2.2 n) d)) w ⟨st.sl,st.bx,st.hp.put p.1 p.2.1 q.2⟩ a.tmps:={
   slots:=fun j=>qL.ev he (fun j' i=>keep _ _ (by simp[Qz,hso.sl])) (fun _ _ _ _ _ h=>h) (hI.slots j)
   boxes:=fun j g' cs'' hb=>by
    obtain⟨blk',h1,h2,h3⟩:=hI.boxes j g' cs'' hb
    exact⟨blk',h1,by simp[Gh.rel,h2,Qz,hso.box],h3.ev he rfl fun i=>keep _ _ (by simp[Qz,XE])⟩
   heap:=fun j g' cs'' hb=>by
    have hb':(if j=p.1 then some (p.2.1,q.2)else st.hp.get j)=some (g',cs''):=hb
    split at hb'
    ·rename_i ek;subst ek
     cases hb'
     obtain⟨arr,e,a1,a2,a3⟩:=b3
     refine⟨blk,m1,by simp[Gh.rel,b2,Qz,hso.obj],?_⟩
     have key:yL (G.rel (Qz (XE p.1 p.2.1 p.2.2 n) d)) w blk (.oc p.1 p.2.1 ·) q.2:=by
      refine⟨arr,e,a1,by rw[n1];exact a2,qlh he n1 n2 a3 (fun i hi=>keep _ _ ?_)⟩
      simp only[Qz,XE]
      rw[if_neg qc]
     rw[hg0]at key⊢
     exact key
    ·rename_i hne
     obtain⟨blk',h1,h2,h3⟩:=hI.heap j g' cs'' hb'
     refine⟨blk',h1,by simp[Gh.rel,h2,Qz,hso.obj],h3.ev he rfl fun i=>keep _ _ ?_⟩
     simp only[Qz,XE]
     rw[if_neg (fun e=>hne e.1)]
   next:=hI.next
   hlt:=fun j g' cs'' hb=>by
    have hb':(if j=p.1 then some (p.2.1,q.2)else st.hp.get j)=some (g',cs''):=hb
    show j<st.hp.next
    split at hb'
    ·rename_i ek;subst ek;exact hI.hlt _ _ cs hget
    ·exact hI.hlt j g' cs'' hb'
   new:=hnw
   vars:=hvars
   lps:=hI.lps}
  unfold after
  rw[hdn]
  refine hI2.put o.dst hd (fun k' hk'=>n4 _ k' he (fun i hi=>keep _ _ ?_)) (fun k' g' off' e=>absurd e (n3 k' g' off'))
  have hdd:d=k':=by simp[d,hk']
  simp only[Qz,XE]
  rw[if_pos ⟨trivial,trivial,qc,qc⟩,hdd]
  simp
 ·cases hr
end
section
variable {c:Cx}{G:Gh}{w w':World}{st:St}{a:Act}{o:Oper}{Q:Exit->Act->World->Prop}
theorem vy{P:Program}(t ty e e':TypeId)(i:TypeInfo)(ht:P.underlying t=some (.slice e))(hi:P.info? e=some i)
 (g sLen sCap:Nat) (cur:Array Value) (hg:w.heap[g]?=some (.cells cur e' (0,0)))
 (A:Addr) (m c:Nat) (news:List Value) (hl:news.length=m*i.size) (hnews:∀j u,news[j]?=some u->w.cell? (A.add j)=some u) (h1:∀u∈news,u.oneCell'=true)
 (hroom:sLen+m<=sCap) (hfit:sLen*i.size+news.length<=cur.size):
 (Builtin.append_ #[t,t] ty #[.slice (some ⟨g,0,none⟩) sLen sCap,.slice (some A) m c]).run P w=
  .ok (.slice (some ⟨g,0,none⟩) (sLen+m) sCap) (w.setRow g (cur.toList.take (sLen*i.size)++news++cur.toList.drop (sLen*i.size+news.length)).toArray):=by
 have hf:=run_firstCells_some (P:=P) w i.size m A m c news hl hnews
 have hst:=run_storeCells_at P g (sLen*i.size) e' news 0 cur w hg (by simpa using hfit) h1
 simp only[zim]at hst
 simp[Builtin.append_,run_underlying ht,sizeOf,typeInfo,hi,Builtin.lenOf,hroom,hf,Addr.add_lit,hst]
theorem ZG{P:Program}(t ty e:TypeId)(i:TypeInfo)(ht:P.underlying t=some (.slice e))(hi:P.info? e=some i)(A:Option Addr)(n cap:Nat)(hn:n<=cap)(w:World):
 (Builtin.append_ #[t,t] ty #[.slice A n cap,.slice none 0 0]).run P w= .ok (.slice A n cap) w:=by
 cases A<;>simp[Builtin.append_,run_underlying ht,sizeOf,typeInfo,hi,Builtin.lenOf,Builtin.firstCells,hn,storeCells]
theorem ZF{P:Program}(t ty e:TypeId)(i:TypeInfo)(ht:P.underlying t=some (.slice e))(hi:P.info? e=some i)(A:Option Addr)(n cap:Nat)(hn:n<=cap)(B:Addr)(c:Nat)(w:World):
 (Builtin.append_ #[t,t] ty #[.slice A n cap,.slice (some B) 0 c]).run P w= .ok (.slice A n cap) w:=by
 cases A<;>simp[Builtin.append_,run_underlying ht,sizeOf,typeInfo,hi,Builtin.lenOf,Builtin.firstCells,hn,storeCells,loadCells,loadCellsFrom]
theorem zaz{s:SV}{z:Nat}{cs:List AV}(h:toA s=some (.us z cs)):s= .av (.us z cs):=by
 cases s<;>simp[toA]at h
 rw[h]
theorem VQ(hI:Inv G w st a.tmps)(t:Nat)(ts:List Nat)(hts:t∈ts){h:Nat}(ho:qF h o st.sl=qG ts st.sl)(hd:jJ o a){sz n m cap b:Nat}{cs ys:List AV}
 {arr:Array Value} {e:TypeId} {news:List Value} (hom:G.Om b= .sl t 0 0) (hsz:0<sz) (hcs:cs.length=n*sz) (hib:G.I b=n*sz) (hb:w.heap[b]?=some (.cells arr e (0,0)))
 (harr:arr.size=cap*sz) (hrel:∀(k:Nat) (x:AV),cs[k]?=some x->∃u,arr[k]?=some u/\RelR G w x u) (hroom:n+m<=cap) (hys:ys.length=m*sz) (hnl:news.length=ys.length)
 (hyr:∀(k:Nat) (x:AV) (u:Value),ys[k]?=some x->news[k]?=some u->RelR G w x u) (hvl:∀x∈cs++ys,vl x=true)
 (hw:Wr w w' b (arr.toList.take (n*sz)++news++arr.toList.drop (n*sz+news.length)).toArray e):
 jx G w a (after h o st (.av (.us sz (cs++ys))) none st.hp) (a.put o.dst (.slice (some ⟨b,0,none⟩) (n+m) cap)) w':=by
 have hlt:b<w.heap.size:=hI.lt hom qf
 let d:=o.dst.getD 0
 let G':Gh:={G with Om:=fun x=>if x=b then .sl d 0 0 else G.Om x,I:=fun x=>if x=b then(n+m)*sz else G.I x}
 have hmul:n*sz+m*sz<=arr.toList.length:=by
  rw[<-Nat.add_mul];simp[harr];exact zgz sz hroom
 have hmulG:(n+m)*sz=n*sz+m*sz:=zj0 n m sz
 have hget:∀k,(arr.toList.take (n*sz)++news++arr.toList.drop (n*sz+news.length))[k]?=if n*sz<=k/\k<n*sz+news.length then news[k-n*sz]? else arr.toList[k]?:=
  fun k=>yO arr.toList news (n*sz) (by rw[hnl,hys];exact hmul) k
 have hf:Fr G w G' w':={
  size:=by rw[hw.size];exact zgm _
  cells:=fun x i hi=>by
   by_cases ex:x=b
   ·subst ex
    rw[hib]at hi
    rw[qX hw.at_,qX hb]
    have:=hget i
    rw[if_neg qc]at this
    simpa using this
   ·exact yA (hw.other x ex) i
  imm:=fun x=>by
   simp only[G']
   split
   ·rename_i ex;subst ex;rw[hib];exact zgz sz qc
   ·exact zgm _
  mu:=fun _ _ _ h=>h
  rest:=hw.rest
  same:=fun x hx ho'=>by
   have hne:x≠b:=by rintro rfl;rcases ho' with h'|h'<;>rw[hom]at h'<;>cases h'
   exact⟨hw.other x hne,by simp[G',hne],by simp[G',hne]⟩
  bs:=fun x z hz=>by
   by_cases ex:x=b
   ·subst ex;exact hw.sz z hz
   ·rw[Zj (hw.other x ex)];exact hz}
 have hk:∀p,p≠ .sl t 0 0->zq G w G' w' p p:=by
  intro p hp x hx
  have hne:x≠b:=by rintro rfl;rw[hom]at hx;exact hp hx.symm
  exact⟨hw.other x hne,by simp[G',hne],by simp[G',hne,hx]⟩
 have hnew:jt G' w' (.sl d 0 0) (.us sz (cs++ys)) (.slice (some ⟨b,0,none⟩) (n+m) cap):=by
  refine⟨b,by simp[G'],⟨⟨n+m,cap,_,e,rfl,hsz,by simp[hcs,hys,hmulG],qc,by simp[G'],hw.at_,?_,fun k x hx=>?_⟩,hvl⟩⟩
  ·have hal:arr.toList.length=cap*sz:=by rw[<-harr];exact zho
   rw[zg7,zgi,zgi,zhj,zi4,hnl,hys]
   rw[hal]at hmul⊢
   omega
  ·have hg:=hget k
   by_cases hk1:k<n*sz
   ·rw[zg0 qc]at hx
    obtain⟨u,hu,hr⟩:=hrel k x hx
    rw[if_neg qc]at hg
    exact⟨u,by simpa using hg.trans (by simpa using hu),hr.ev hf.ev⟩
   ·rw[zgv qc,hcs]at hx
    have hlt2:=(zgq.mp hx).1
    obtain⟨u,hu⟩:=qR hnl.symm hx
    rw[if_pos qc]at hg
    exact⟨u,by simpa using hg.trans hu,(hyr _ x u hx hu).ev hf.ev⟩
 refine⟨G',?_,hf,zb _ _ _,qI _ _ _⟩
 have hI2:Inv G' w' ⟨qG ts st.sl,st.bx,st.hp⟩ a.tmps:={
  slots:=fun j=>by
   show qL G' w' j (qE (qG ts st.sl) j) _
   rw[zo]
   split
   ·exact qL.ro hf.ev (k:=j) j (fun _ _ _ _ _ h=>h) (hI.slots j)
   ·rename_i hne
    refine qL.ev hf.ev (fun j' i=>hk _ ?_) (fun _ _ _ _ _ h=>h) (hI.slots j)
    intro e';cases e';exact hne hts
  boxes:=fun j g cs' h'=>by
   obtain⟨blk,h1,h2,h3⟩:=hI.boxes j g cs' h'
   have hne:blk≠b:=by rintro rfl;rw[hom]at h2;cases h2
   exact⟨blk,h1,by simp[G',hne,h2],h3.ev hf.ev (hw.other _ hne) fun i=>hk _ qf⟩
  heap:=fun j g cs' h'=>by
   obtain⟨blk,h1,h2,h3⟩:=hI.heap j g cs' h'
   have hne:blk≠b:=by rintro rfl;rw[hom]at h2;cases h2
   exact⟨blk,h1,by simp[G',hne,h2],h3.ev hf.ev (hw.other _ hne) fun i=>hk _ qf⟩
  next:=hI.next
  hlt:=hI.hlt
  new:=fun x hx=>by
   rw[hw.size]at hx
   have hne:x≠b:=qc
   simp only[G',hne,if_false]
   exact hI.new x hx
  vars:=fun x hx=>by
   by_cases hne:x=b
   ·simp only[G',hne,if_true]at hx
    rcases hx with⟨_,_,hx⟩|⟨_,_,hx⟩<;>cases hx
   ·simp only[G',hne,if_false]at hx⊢
    exact hI.vars x hx
  lps:=fun i j g off e'=>by
   have e'':qE (qG ts st.sl) i= .lp j g off:=e'
   rw[zo]at e''
   split at e''
   ·exact hI.lps i j g off (ZI.mp e'')
   ·exact hI.lps i j g off e''}
 unfold after
 rw[ho]
 refine hI2.put o.dst hd (fun k hk'=>?_) (fun _ _ _ e=>by cases e)
 have hdk:d=k:=by simp[d,hk']
 subst hdk
 exact hnew
theorem xC(hI:Inv G w st a.tmps)(ts:List Nat){h:Nat}(ho:qF h o st.sl=qG ts st.sl)(hd:jJ o a){sz n cap:Nat}{cs:List AV}
 {arr:Array Value} {e:TypeId} (hsz:0<sz) (hcs:cs.length=n*sz) (hw:New w w' (.cells arr e (0,0))) (harr:arr.size=cap*sz) (hn:n<=cap)
 (hrel:∀(k:Nat) (x:AV),cs[k]?=some x->∃u,arr[k]?=some u/\RelR G w x u) (hvl:∀x∈cs,vl x=true):
 jx G w a (after h o st (.av (.us sz cs)) none st.hp) (a.put o.dst (.slice (some ⟨w.heap.size,0,none⟩) n cap)) w':=by
 let d:=o.dst.getD 0
 have hf:=Fr.new hI hw (.sl d 0 0) (n*sz) (mu:=G.mu) (la:=G.la) (fun _ _ _ h=>h)
 have hI1:Inv (G.add w.heap.size (.sl d 0 0) (n*sz) G.mu G.la) w' st a.tmps:=hI.beside hw (.sl d 0 0) (n*sz) (by rintro(⟨_,_,h⟩|⟨_,_,h⟩)<;>cases h)
 refine⟨_,?_,hf,zb _ _ _,qI _ _ _⟩
 unfold after
 rw[ho]
 refine(hI1.dn ts).put o.dst hd (fun k hk'=>?_) (fun _ _ _ e=>by cases e)
 have hdk:d=k:=by simp[d,hk']
 subst hdk
 refine⟨w.heap.size,by simp[Gh.add],⟨⟨n,cap,arr,e,rfl,hsz,hcs,hn,by simp[Gh.add],hw.at,harr,fun k x hx=>?_⟩,hvl⟩⟩
 obtain⟨u,hu,hr⟩:=hrel k x hx
 exact⟨u,hu,hr.ev hf.ev⟩
theorem Qm{b sz n:Nat}(h:jP b sz n=true):n*b<=140737488355328*sz/\0<b:=by
 unfold jP at h
 simpa using h
theorem qyo{ys:List AV}{vs:List Value}(h:∀(k:Nat) (x:AV) (u:Value),ys[k]?=some x->vs[k]?=some u->RelR G w x u) (hl:vs.length=ys.length):ys.map ro1=ys:=by
 apply ziz
 intro i
 rw[zgx]
 cases hx:ys[i]? with
 |none=>rfl
 |some x=>
  obtain⟨u,hu⟩:=qR hl.symm hx
  rw[zij,XR (h i x u hx hu)]
def zdo(G:Gh)(w:World)(sz:Nat)(v:Value)(ys:List AV):Prop:=
 (v= .slice none 0 0/\ys=[])\/∃(B:Addr) (m c':Nat),v= .slice (some B) m c'/\0<sz/\ys.length=m*sz/\
  (0<m->∃vs:List Value,vs.length=ys.length/\(∀(j:Nat) (u:Value),vs[j]?=some u->w.cell? (B.add j)=some u)/\∀(k:Nat) (x:AV) (u:Value),ys[k]?=some x->vs[k]?=some u->RelR G w x u)
theorem qrn{p:Nat->Ow}{sz:Nat}{x:AV}{v:Value}{ys:List AV}(h:zj G w p x v)(hx:yT sz x=some ys):zdo G w sz v ys/\∀y∈ys,vl y=true:=by
 rcases qb0 h hx with⟨e1,rfl⟩|⟨B,m,c',hs,hr⟩
 ·exact⟨.inl ⟨e1,rfl⟩,by intro y hy;cases hy⟩
 ·obtain⟨A',m',cap',e1,hsz,hlen,hcap,hform⟩:=yk hr
  rw[hs]at e1;cases e1
  refine⟨.inr ⟨B,m,c',hs,hsz,hlen,fun hm=>?_⟩,qz8 hr⟩
  obtain⟨b2,o2,vs,rfl,_,hvl,hcell,hrel⟩:=hform hm
  exact⟨vs,hvl,fun j u hu=>by rw[qT];exact hcell j u hu,hrel⟩
theorem zbb{t:Array Value}(hI:Inv G w st t){p:Nat->Ow}{sz:Nat}{x:AV}{v:Value}{ys:List AV}(h:zj G w p x v)(hx:xm st.hp sz x=some ys):zdo G w sz v ys:=by
 unfold xm at hx
 split at hx
 ·rename_i q hq
  obtain⟨_,hz,hx⟩:=bsm hx
  obtain⟨cs,hcs,hx⟩:=bsm hx
  obtain⟨l,hl,hx⟩:=bsm hx
  cases hx
  obtain⟨hz,hsz⟩:=zL hz
  have hy:=ka hq
  subst hy
  obtain⟨blk,cap,off',z,m1,m2,m4,m3,m5,m6⟩:=qep h
  obtain⟨hget,hg0⟩:=vC hcs
  obtain⟨blk',b1,b2,b3⟩:=hI.heap q.1 q.2.1 cs hget
  rw[m1]at b1;cases b1
  obtain⟨arr,e,c1,c2,c3⟩:=xU b3 hg0
  obtain⟨hle,rfl⟩:=zY hl
  have hll:(((cs.drop q.2.2.1).take (q.2.2.2.1*sz)).map ro1).length=q.2.2.2.1*sz:=qh
  refine .inr ⟨_,q.2.2.2.1,cap,m3,hsz,hll,fun hpos=>⟨(arr.toList.drop q.2.2.1).take (q.2.2.2.1*sz),by rw[hll];simp;omega,fun j u hu=>?_,fun k y u hy hu=>?_⟩⟩
  ·rw[m4 hpos,qT,qX c1]
   rw[zgt]at hu
   split at hu
   ·rw[zhb]at hu;simpa using hu
   ·cases hu
  ·obtain⟨q',hq',rfl⟩:=qv _ _ _ _ hy
   rw[zgt]at hq' hu
   split at hq'
   ·rename_i hlt'
    rw[if_pos hlt',zhb]at hu
    rw[zhb]at hq'
    exact(c3 _ q' u hq' (by simpa using hu)).ro
   ·cases hq'
 ·exact(qrn h hx).1
theorem qcn(hc:Ok c)(hI:Inv G w st a.tmps)(hd:jJ o a)(h:Nat){cl:Call}(hop:o.op= .call cl)(hcl:cl.callee= .builtin .append){x y:Operand}(hargs:cl.args=#[x,y]) {t:TypeId} (hts:cl.argTypes=#[t,t])
 {ti ei:TI} {e:TypeId} (hti:c.tn t=some ti) (hk:ti.k= .sl e) (hei:c.tn e=some ei) {d' z:AV} (hx:toA (zy st.sl x)=some d') {ys:List AV} (hsrc:zdo G w ei.size (a.eval y) ys) (hyv0:ys≠[]->∀x∈ys,vl x=true)
 (hz:qdc ei.bytes ei.size d' ys=some z):o.wp c.P a w (jx G w a (after h o st (.av z) none st.hp)) Q:=by
 have hdn:qF h o st.sl=qG (zF [x,y]) st.sl:=by simp[qF,qN,hop,hcl,hargs]
 obtain⟨dd,hd1,hd2⟩:=(hc.tt t ti (qs hti).1).und
 rw[hk]at hd2
 have hd2:dd= .slice e:=hd2
 subst hd2
 obtain⟨i,z0,hi1,hi2,hi3⟩:∃i d,c.P.info? e=some i/\i.bytes=ei.bytes/\i.size=ei.size/\∃zv,i.zero=some zv/\zv.cells.toList=ei.zero/\ei.zero.length=ei.size:=by
  obtain⟨_,_,info,d,h1,h2,h3,h4,h5⟩:=hc.tt e ei (qs hei).1
  obtain⟨h6,zv,h7,h8,h9,_⟩:=h5 (qs hei).2
  exact⟨info,d,h1,h4,h6,zv,h7,h8,h9⟩
 obtain⟨hi4,zv,hi5,hi6,hi7⟩:=hi3
 have hdr:=xk (wo hI x) hx
 have hrun:∀(v:Value) (w':World),(Builtin.append_ #[t,t] o.type #[a.eval x,a.eval y]).run c.P w= .ok v w'->(execOp a.eval o).run c.P w= .ok (.value v) w':=by
  intro v w' hr
  rw[jZ hcl hop rfl,hargs,hts]
  simp only[Go.builtin,List.map_toArray,zhc,ziv]
  rw[Sem.run_bind,hr];rfl
 unfold qdc at hz
 --the token's block,if the slice is one of ours
 have tok:∀{sz:Nat} {cs:List AV},d'= .us sz cs->∃b,x= .tmp (wn x)/\G.Om b= .sl (wn x) 0 0/\TokR G w sz cs (a.eval x) b:=by
  rintro sz cs rfl
  obtain⟨b,hb,ht⟩:=hdr
  refine⟨b,?_,hb,ht⟩
  cases x with
  |tmp t=>rfl
  |const v=>
   simp only[zy]at hx
   split at hx
   ·split at hx<;>simp[toA]at hx
   ·cases hx
   ·cases hx
  |global g=>cases hx
  |func f=>cases hx
 split at hz
 ·--nothing is put behind
  have hval:∃A n cap,a.eval x= .slice A n cap/\n<=cap/\(execOp a.eval o).run c.P w= .ok (.value (a.eval x)) w:=by
   have hform:∃A n cap,a.eval x= .slice A n cap/\n<=cap:=by
    split at hz
    ·obtain⟨b,_,_,ht⟩:=tok rfl
     obtain⟨n,cap,arr,e',h1,_,_,h4,_⟩:=ht.ex
     exact⟨_,n,cap,h1,h4⟩
    ·split at hz
     ·rename_i v hn
      have:=xV hn
      subst this
      have hdr':RelR G w (.sc (.slice none 0 0)) (a.eval x):=hdr
      generalize a.eval x=v at hdr'
      cases hdr'
      exact⟨none,0,0,rfl,zgm _⟩
     ·cases hz
    ·cases hz
   obtain⟨A,n,cap,hA,hn⟩:=hform
   refine⟨A,n,cap,hA,hn,hrun _ _ ?_⟩
   rcases hsrc with⟨hs,_⟩|⟨B,m,c',hs,e2,e3,_⟩
   ·rw[hA,hs];exact ZG t o.type e i hd1 hi1 A n cap hn w
   ·have hm:m=0:=by
     rcases zi9 m with h|h
     ·exact h
     ·have:=zj1 h e2;simp at e3;omega
    subst hm
    rw[hA,hs];exact ZF t o.type e i hd1 hi1 A n cap hn B c' w
  obtain⟨A,n,cap,hA,hn,hr⟩:=hval
  refine qw hr ?_
  split at hz
  ·split at hz
   ·cases hz
    obtain⟨b,hxt,_⟩:=tok rfl
    have hslot:=zaz hx
    cases hdst:o.dst with
    |none=>
     refine⟨G,?_,Fr.refl G w,rfl,rfl⟩
     unfold after
     rw[hdn,hdst]
     exact hI.dn _
    |some d=>
     have hm:=qgs hI (wn x) d .ot (hd d hdst) (zF [x,y]) (by rw[hxt];simp[zF,wn])
     unfold after
     rw[hdn,hdst]
     have h1:qE st.sl (wn x)=zy st.sl x:=by conv=>rhs;rw[hxt]
                                            rfl
     have h2:a.tmps.getD (wn x) undef=a.eval x:=by conv=>rhs;rw[hxt]
                                                   rfl
     rw[h1,hslot,h2]at hm
     exact hm
   ·cases hz
  ·split at hz
   ·rename_i v hn
    cases hz
    have:=xV hn
    subst this
    have hdr':RelR G w (.sc (.slice none 0 0)) (a.eval x):=hdr
    refine qD hI h (by simp[qF,hop]) hd (fun k=>?_) (fun _ _ _ e=>by cases e)
    exact hdr'.s k
   ·cases hz
  ·cases hz
 ·rename_i hne
  --something is put behind
  rcases hsrc with⟨_,rfl⟩|⟨B,m,c',hs,hsz,hlen,hform⟩
  ·exact absurd rfl (hne)
  have hm:0<m:=by
   rcases zi9 m with h|h
   ·subst h
    simp at hlen
    exact absurd hlen (by simpa using hne)
   ·exact h
  obtain⟨vs,hvl,hnews,hrel⟩:=hform hm
  have hyv:=hyv0 (by intro e;exact hne e)
  have hmap:ys.map ro1=ys:=qyo hrel hvl
  rw[hmap]at hz
  have h1:∀u∈vs,u.oneCell'=true:=by
   intro u hu
   obtain⟨k,hk',rfl⟩:=zjq hu
   have hk2:k<ys.length:=by rw[<-hvl];exact hk'
   exact(hrel k ys[k] vs[k] (zgl hk2) (zgl hk')).one
  have hnl:vs.length=m*i.size:=by rw[hvl,hlen,hi4]
  split at hz
  ·rename_i sz cs
   split at hz
   ·rename_i hcond
    cases hz
    simp only[zh9,beq_iff_eq,decide_eq_true_eq]at hcond
    obtain⟨hszz,hfit⟩:=hcond
    subst hszz
    obtain⟨hf1,hf2⟩:=Qm hfit
    obtain⟨b,hxt,hom,ht⟩:=tok rfl
    obtain⟨n,cap,arr,e',t1,t2,t3,t4,t5,t6,t7,t8⟩:=ht.ex
    have hvall:∀x∈cs++ys,vl x=true:=fun x hx=>(zg1.mp hx).elim (ht.vl x) (hyv x)
    have hmem:wn x∈zF [x,y]:=by rw[hxt];simp[zF,wn]
    by_cases hroom:n+m<=cap
    ·have hfit':n*i.size+vs.length<=arr.size:=by rw[hnl,hi4,t7,<-Nat.add_mul];exact zgz _ hroom
     have hrr:=vy (P:=c.P) t o.type e e' i hd1 hi1 b n cap arr t6 B m c' vs hnl hnews h1 hroom hfit'
     have hwr:=vc w t6 hfit'
     rw[hi4]at hwr
     refine qw (hrun _ _ (by rw[t1,hs];exact hrr)) ?_
     rw[hi4]
     exact VQ hI (wn x) _ hmem hdn hd hom t2 t3 t5 t6 t7 t8 hroom hlen hvl hrel hvall hwr
    ·have hle:n*ei.size<=arr.toList.length:=by
      rw[zho,t7];exact zgz _ t4
     have hlo:(arr.toList.take (n*ei.size)).length=n*i.size:=by rw[zhj,hi4];omega
     have holds:∀j u,(arr.toList.take (n*ei.size))[j]?=some u->w.cell? ((⟨b,0,none⟩:Addr).add j)=some u:=by
      intro j u hu
      rw[qT,zha,qX t6]
      rw[zgt]at hu
      split at hu
      ·simpa using hu
      ·cases hu
     have hneed:(n+m)*i.bytes<=140737488355328:=by
      rw[hi2]
      rw[t3,hlen,<-Nat.add_mul,zic,zhe ei.size,<-Nat.mul_assoc]at hf1
      exact zjm hf1 hsz
     have h63:((n+m:Nat):Int)<=9223372036854775807:=by
      have:n+m<=(n+m)*i.bytes:=zi8 _ (by rw[hi2];exact hf2)
      omega
     have hrr:=run_append_grow (P:=c.P) w t o.type e i zv hd1 hi1 hi5 ⟨b,0,none⟩ n cap _ hlo holds B m c' vs hnl hnews qc h63 (growslice_fits qc qc)
     refine qw (hrun _ _ (by rw[t1,hs];exact hrr)) ?_
     have hge:=grownCap_ge w (n+m) cap e
     have hzs:zv.cells.size=ei.size:=by rw[<-hi7,<-hi6];simp
     refine xC hI _ hdn hd t2 (by rw[zgi,t3,hlen,<-Nat.add_mul]) ⟨rfl,rfl,rfl,rfl⟩ ?_ hge (fun k z hk'=>?_) hvall
     ·rw[zii,zii,zg7,zg7,size_zeroCells,hlo,hnl,hi4,hzs,<-Nat.add_mul,<-Nat.add_mul]
      congr 1
      omega
     ·have hl2:(arr.toList.take (n*ei.size)).length=cs.length:=by rw[hlo,hi4,t3]
      by_cases hk1:k<cs.length
      ·rw[zg0 hk1]at hk'
       obtain⟨u,hu,hr'⟩:=t8 k z hk'
       refine⟨u,?_,hr'⟩
       rw[zhy (by rw[zii,zg7,zg7,hl2];omega),zhy (by rw[zg7,hl2];omega)]
       rw[zjg,zgt,if_pos qc]
       simpa using hu
      ·rw[zgv qc]at hk'
       obtain⟨u,hu⟩:=qR hvl.symm hk'
       refine⟨u,?_,hrel _ _ _ hk' hu⟩
       have hlt:=(zgq.mp hu).1
       rw[zhy (by rw[zii,zg7,zg7,hl2];omega),Array.getElem?_append_right (by rw[zg7,hl2];omega)]
       rw[zjg,zg7,hl2]
       exact hu
   ·cases hz
  ·split at hz
   ·rename_i v hcond
    cases hz
    simp only[zh9]at hcond
    have:=xV hcond.1
    subst this
    obtain⟨hf1,hf2⟩:=Qm hcond.2
    have hdr':RelR G w (.sc (.slice none 0 0)) (a.eval x):=hdr
    have hxe:a.eval x= .slice none 0 0:=by
     generalize a.eval x=v at hdr'
     cases hdr';rfl
    have hneed:m*i.bytes<=140737488355328:=by
     rw[hi2]
     rw[hlen,zic,zhe ei.size,<-Nat.mul_assoc]at hf1
     exact zjm hf1 hsz
    have h63:(m:Int)<=9223372036854775807:=by
     have:m<=m*i.bytes:=zi8 _ (by rw[hi2];exact hf2)
     omega
    have hrr:=run_append_nil (P:=c.P) w t o.type e i zv hd1 hi1 hi5 B m c' vs hnl hnews hm h63 qc
    refine qw (hrun _ _ (by rw[hxe,hs];exact hrr)) ?_
    have hge:=grownCap_ge w m 0 e
    have hzs:zv.cells.size=ei.size:=by rw[<-hi7,<-hi6];simp
    refine xC hI _ hdn hd hsz hlen ⟨rfl,rfl,rfl,rfl⟩ ?_ hge (fun k z hk'=>?_) hyv
    ·rw[zii,zg7,size_zeroCells,hnl,hi4,hzs,<-Nat.add_mul]
     congr 1
     omega
    ·obtain⟨u,hu⟩:=qR hvl.symm hk'
     refine⟨u,?_,hrel _ _ _ hk' hu⟩
     have hlt:=(zgq.mp hu).1
     rw[zhy qh,zjg]
     exact hu
   ·cases hz
  ·cases hz
theorem qny(hc:Ok c)(hI:Inv G w st a.tmps)(hd:jJ o a)(h:Nat){cl:Call}(hop:o.op= .call cl)(hcl:cl.callee= .builtin .append){x y:Operand}(hargs:cl.args=#[x,y]) {t:TypeId} (hts:cl.argTypes=#[t,t])
 {ti ei:TI} {e:TypeId} (hti:c.tn t=some ti) (hk:ti.k= .sl e) (hei:c.tn e=some ei) {d' s' z:AV} (hx:toA (zy st.sl x)=some d') (hy:toA (zy st.sl y)=some s')
 (hz:yB ei.bytes ei.size d' s'=some z):o.wp c.P a w (jx G w a (after h o st (.av z) none st.hp)) Q:=by
 unfold yB at hz
 obtain⟨ys,hys,hz⟩:=bsm hz
 obtain⟨h1,h2⟩:=qrn (xk (wo hI y) hy) hys
 exact qcn hc hI hd h hop hcl hargs hts hti hk hei hx h1 (fun _=>h2) hz
end
section
variable {c:Cx}{G:Gh}{w w':World}{st:St}{a:Act}{o:Oper}{Q:Exit->Act->World->Prop}
def qka(G:Gh)(w:World)(l:List AV)(vs:List Value):Prop:=
 l.length=vs.length/\∀(i:Nat) (x:AV) (u:Value),l[i]?=some x->vs[i]?=some u->RelR G w (ro1 x) u
theorem qw1(vs:List Value):∀(off j:Nat) (cs:Array Value),off+j+vs.length<=cs.size->
 ((vs.zipIdx j).foldl (fun cs (c,j)=>cs.setIfInBounds (off+j) c) cs).toList=cs.toList.take (off+j)++vs++cs.toList.drop (off+j+vs.length):=by
 induction vs with
 |nil=>intro off j cs h;simp
 |cons v vs ih=>
  intro off j cs h
  simp only[List.zipIdx_cons,List.foldl_cons]
  rw[ih off (j+1) _ (by simp at h⊢;omega)]
  have hlt:off+j<cs.toList.length:=by simp at h⊢;omega
  rw[Array.toList_setIfInBounds]
  apply ziz
  intro k
  rw[yO _ _ _ (by simp at h⊢;omega),yO _ _ _ (by simp at h⊢;omega)]
  by_cases h1:k=off+j
  ·subst h1
   rw[if_neg qc,if_pos qf,zjz hlt];simp
  ·rw[zkc qc]
   by_cases h2:off+(j+1)<=k/\k<off+(j+1)+vs.length
   ·rw[if_pos h2,if_pos qh]
    rw[show k-(off+j)=(k-(off+(j+1)))+1 by omega];simp
   ·rw[if_neg h2,if_neg qh]
theorem Ja(hI:Inv G w st a.tmps){kJ:Nat->Option (Nat×Nat)}:∀{l:List (Nat×Operand)} {cs cs':List AV} {arr:Array Value},
 yu kJ (zy st.sl) some l cs=some cs'->qka G w cs arr.toList->∃arr',Instr.fill kJ arr (l.map fun p=>(p.1,a.eval p.2))=some arr'/\qka G w cs' arr'.toList
 |[],cs,cs',arr,h,hl=>by simp only[yu]at h;cases h;exact⟨arr,rfl,hl⟩
 |(i,x)::r,cs,cs',arr,h,hl=>by
  simp only[yu]at h
  split at h
  ·cases h
  ·rename_i off n hp
   obtain⟨vs,hvs,h⟩:=bsm h
   obtain⟨cs1,hcs1,h⟩:=bsm h
   obtain⟨hn,hrel⟩:=qL.valC (wo hI x) hvs
   obtain⟨hle,rfl⟩:=xG hcs1
   have hsz:(a.eval x).cells.size=n:=by have:=hrel.1;simp at this;omega
   have hlen:arr.size=cs.length:=by have:=hl.1;simpa using this.symm
   have hfold:=qw1 (a.eval x).cells.toList off 0 arr qh
   simp only[zim]at hfold
   have hlow:qka G w (cs.take off++vs++cs.drop (off+vs.length)) ((((a.eval x).cells.zipIdx).foldl (fun cs (c,j)=>cs.setIfInBounds (off+j) c) arr)).toList:=by
    have e1:((a.eval x).cells.zipIdx).foldl (fun cs (c,j)=>cs.setIfInBounds (off+j) c) arr=((a.eval x).cells.toList.zipIdx).foldl (fun cs (c,j)=>cs.setIfInBounds (off+j) c) arr:=by
     rw[<-Array.foldl_toList];simp
    rw[e1,hfold]
    have hvl:vs.length=(a.eval x).cells.toList.length:=hrel.1
    refine⟨qh,fun k z u hz hu=>?_⟩
    rw[yO _ _ _ hle]at hz
    rw[yO _ _ _ qh]at hu
    rw[<-hvl]at hu
    split at hz
    ·rename_i hin
     rw[if_pos hin]at hu
     exact(hrel.2 _ z u hz hu).ro
    ·rename_i hin
     rw[if_neg hin]at hu
     exact hl.2 k z u hz hu
   obtain⟨arr',ha',hl'⟩:=Ja hI h hlow
   refine⟨arr',?_,hl'⟩
   simp only[zhc,Instr.fill,hp]
   rw[if_neg (by simp[hsz];omega)]
   exact ha'
theorem WI{l:List Value}(h1:∀v∈l,v.oneCell'=true):qka G w (zH l) l:=by
 refine⟨by simp[zH],fun i x u hx hu=>?_⟩
 obtain⟨y,hy,rfl⟩:=qv _ _ _ _ hx
 rw[hy]at hu;cases hu
 exact .sc _ (h1 _ (zgo hy))
theorem qt0{cs:List AV}{arr:Array Value}(h:qka G w cs arr.toList)(k:Nat):qL G w k (.av (.agg (cs.map ro1))) (.agg arr):=by
 refine⟨arr.toList,qf,by simpa using h.1,fun i x u hx hu=>?_⟩
 obtain⟨y,hy,rfl⟩:=qv _ _ _ _ hx
 exact(h.2 i y u hy hu).c _
theorem qe3(hc:Ok c)(hI:Inv G w st a.tmps)(hd:jJ o a)(h:Nat){t:TypeId}{ti:TI}(hti:c.tn t=some ti){ps:Array (Nat×Operand)}(hop:o.op= .build t ps){fs:List (Nat×TypeId)}(hk:ti.k= .st fs)
 {cs:List AV} (hr:yu (XZ c fs) (zy st.sl) some ps.toList (zH ti.zero)=some cs) (hall:∀p∈fs,(c.tn p.2).isSome=true):o.wp c.P a w (jx G w a (after h o st (.av (.agg (cs.map ro1))) none st.hp)) Q:=by
 have ht:=hc.tt t ti (qs hti).1
 obtain⟨z,z1,z2,z3,z4⟩:=ht.zero (qs hti).2
 obtain⟨d,hd1,hd2⟩:=ht.und
 rw[hk]at hd2
 obtain⟨fields,rfl,hfl⟩:=hd2
 have hmapM:∀(l:List Field),(∀f∈l,(c.tn f.type).isSome=true)->∀w,(l.mapM fun f=>do pure (f.offset,<-sizeOf f.type):Sem _).run c.P w= .ok (l.map fun f=>(f.offset,((c.tn f.type).map (·.size)).getD 0)) w:=by
  intro l
  induction l with
  |nil=>intro _ w;rfl
  |cons f l ih=>
   intro hl w
   rw[List.mapM_cons]
   cases hf:c.tn f.type with
   |none=>have:=hl f qf;rw[hf]at this;cases this
   |some fi=>
    have hs:=(hc.tt f.type fi (qs hf).1).sizeOf (qs hf).2 w
    simp only[Sem.run_bind,hs,Result.andThen_ok,Sem.run_pure,ih (fun g hg=>hl g (by simp[hg])) w,zhc,hf,zij,Option.getD_some]
 have hall':∀f∈fields.toList,(c.tn f.type).isSome=true:=by
  intro f hf
  have:(f.offset,f.type)∈fs:=by rw[<-hfl];exact zg6.mpr ⟨f,hf,rfl⟩
  exact hall _ this
 have hplace:(fun i=>(fields.toList.map fun f=>(f.offset,((c.tn f.type).map (·.size)).getD 0))[i]?)=XZ c fs:=by
  funext i
  unfold XZ
  rw[<-hfl,zgx,zgx]
  cases hi:fields.toList[i]? with
  |none=>rfl
  |some f=>
   have:=hall' f (zgo hi)
   cases hf:c.tn f.type with
   |none=>rw[hf]at this;cases this
   |some fi=>simp[hf]
 obtain⟨arr,ha,hl⟩:=Ja hI (arr:=z.cells) hr (by rw[z1];exact WI z3)
 refine qw (v:=.agg arr) (w':=w) ?_ (qD hI h (by simp[qF,hop]) hd (fun k=>qt0 hl k) (fun _ _ _ e=>by cases e))
 simp only[execOp,hop,Instr.build]
 have hm:=hmapM fields.toList hall' w
 have hm2:(fields.mapM fun f=>do pure (f.offset,<-sizeOf f.type):Sem (Array (Nat×Nat))).run c.P w= .ok (fields.toList.map fun f=>(f.offset,((c.tn f.type).map (·.size)).getD 0)).toArray w:=by
  rw[Array.mapM_eq_mapM_toList,Sem.run_map,hm];rfl
 simp only[Sem.run_bind,z4,Result.andThen_ok,run_underlying hd1,hm2]
 have hfill:Instr.fill (fun x=>((fields.toList.map fun f=>(f.offset,((c.tn f.type).map (·.size)).getD 0)).toArray)[x]?) z.cells (ps.map fun p=>(p.1,a.eval p.2)).toList=some arr:=by
  rw[<-ha]
  congr 1
  ·rw[<-hplace];funext i;simp
  ·simp
 have e1:(Array.map (fun x=>match x with|(i,x)=>(i,a.eval x)) ps)=ps.map fun p=>(p.1,a.eval p.2):=rfl
 rw[e1,hfill]
 rfl
end
section
variable {c:Cx}{G:Gh}{w w':World}{st:St}{a:Act}{o:Oper}{Q:Exit->Act->World->Prop}
theorem Wv(a:Act)(ps:Array (Nat×Operand)):(ps.map fun(i,x)=>(i,a.eval x)).toList=ps.toList.map fun p=>(p.1,a.eval p.2):=by
 simp
theorem qe4(hc:Ok c)(hI:Inv G w st a.tmps)(hd:jJ o a)(h:Nat){t e:TypeId}{ti ei:TI}(hti:c.tn t=some ti){ps:Array (Nat×Operand)}(hop:o.op= .build t ps){n:Nat}(hk:ti.k= .ar n e)(hei:c.tn e=some ei)
 {cs:List AV} (hr:yu (fun i=>some (i*ei.size,ei.size)) (zy st.sl) some ps.toList (zH ti.zero)=some cs):o.wp c.P a w (jx G w a (after h o st (.av (.agg (cs.map ro1))) none st.hp)) Q:=by
 have ht:=hc.tt t ti (qs hti).1
 obtain⟨z,z1,z2,z3,z4⟩:=ht.zero (qs hti).2
 obtain⟨d,hd1,hd2⟩:=ht.und
 rw[hk]at hd2
 cases hd2
 have hs:=fun w=>(hc.tt e ei (qs hei).1).sizeOf (qs hei).2 w
 obtain⟨arr,ha,hl⟩:=Ja hI (arr:=z.cells) hr (by rw[z1];exact WI z3)
 refine qw (v:=.agg arr) (w':=w) ?_ (qD hI h (by simp[qF,hop]) hd (fun k=>qt0 hl k) (fun _ _ _ e=>by cases e))
 simp only[execOp,hop,Instr.build]
 simp only[Sem.run_bind,z4,Result.andThen_ok,run_underlying hd1,hs,Wv,ha]
 rfl
theorem quz{α:Type}(l:List α)(n:Nat):∀(k:Nat),k<n*l.length->(List.replicate n l).flatten[k]?=l[k%l.length]?:=by
 induction n with
 |zero=>intro k hk;simp at hk
 |succ n ih=>
  intro k hk
  rw[zil,zkp]
  by_cases h:k<l.length
  ·rw[zg0 h,zhq h]
  ·rw[zgv qc]
   have h':k-l.length<n*l.length:=by rw[zj0]at hk;omega
   rw[ih _ h',Nat.mod_eq_sub_mod (by omega:k>=l.length)]
theorem quy{α:Type}(l:List α)(n:Nat):(List.replicate n l).flatten.length=n*l.length:=by
 induction n with
 |zero=>simp
 |succ n ih=>rw[zil,zkp,zgi,ih,zj0];omega
theorem qfa{z:Array Value}{zs:List Value}{size:Nat}(h1:z.toList=zs)(h2:zs.length=size)(h3:∀v∈zs,v.oneCell'=true)(n:Nat):
 ((List.replicate n (zH zs)).flatten).length=n*size/\
 (∀(k:Nat) (x:AV),((List.replicate n (zH zs)).flatten)[k]?=some x->∃u,(madeCells z (n*size))[k]?=some u/\RelR G w x u):=by
 have hzl:(zH zs).length=size:=by simp[zH,h2]
 have hl:((List.replicate n (zH zs)).flatten).length=n*size:=by rw[quy,hzl]
 refine⟨hl,fun k x hx=>?_⟩
 have hk:k<n*size:=by rw[<-hl];exact(zgq.mp hx).1
 rw[quz _ _ _ (by rw[hzl];exact hk),hzl]at hx
 obtain⟨y,hy,rfl⟩:=qv _ _ _ _ hx
 have hzs:z.size=size:=by rw[<-h2,<-h1];simp
 refine⟨y,?_,.sc _ (h3 _ (zgo hy))⟩
 have hlt:k%size<z.size:=by rw[hzs];exact zkd _ (zkm (by rintro rfl;simp at hk))
 have:z[k%size]?=some y:=by rw[<-hy,<-h1];simp
 unfold madeCells
 rw[Array.getElem?_map,Array.getElem?_range,if_pos hk,zij,hzs]
 congr 1
 rw[getElem!_pos z _ hlt]
 rw[zjs hlt]at this
 exact zgy this
theorem qyp{zs:List Value}{n:Nat}{x:AV}(hx:x∈(List.replicate n (zH zs)).flatten):vl x=true:=by
 obtain⟨l,hl,hx⟩:=List.mem_flatten.mp hx
 rw[zia hl]at hx
 obtain⟨v,_,rfl⟩:=zg6.mp hx
 rfl
theorem qtz{z:Array Value}{zs:List Value}{size:Nat}(h1:z.toList=zs)(h2:zs.length=size)(h3:∀v∈zs,v.oneCell'=true)(n:Nat):
 qka G w ((List.replicate n (zH zs)).flatten) (madeCells z (n*size)).toList:=by
 obtain⟨a1,a2⟩:=qfa (G:=G) (w:=w) h1 h2 h3 n
 refine⟨by rw[a1];simp[madeCells],fun i x u hx hu=>?_⟩
 obtain⟨u',hu',hr⟩:=a2 i x hx
 have:u'=u:=by
  have hu2:(madeCells z (n*size))[i]?=some u:=by simpa using hu
  rw[hu']at hu2;exact zgy hu2
 subst this
 rw[XR hr];exact hr
theorem qyq{cs:List AV}{arr:Array Value}(h:qka G w cs arr.toList):∀(k:Nat) (x:AV),(cs.map ro1)[k]?=some x->∃u,arr[k]?=some u/\RelR G w x u:=by
 intro k x hx
 obtain⟨y,hy,rfl⟩:=qv _ _ _ _ hx
 obtain⟨u,hu⟩:=qR h.1 hy
 exact⟨u,by simpa using hu,h.2 k y u hy hu⟩
theorem TOk.info{P:Program}{t:TypeId}{ti:TI}(h:TOk P t ti)(hk:Qu ti.k=false):∃i z,P.info? t=some i/\i.size=ti.size/\i.bytes=ti.bytes/\i.zero=some z/\z.cells.toList=ti.zero/\ti.zero.length=ti.size/\∀v∈ti.zero,v.oneCell'=true:=by
 obtain⟨_,_,info,d,h1,h2,h3,h4,h5⟩:=h
 obtain⟨h6,z,h7,h8,h9,h10⟩:=h5 hk
 exact⟨info,z,h1,h6,h4,h7,h8,h9,h10⟩
theorem qhu(x:AV):vl (ro1 x)=vl x:=by cases x<;>rfl
theorem VF(hc:Ok c)(hI:Inv G w st a.tmps)(hd:jJ o a)(h:Nat){t e:TypeId}{ti ei:TI}(hti:c.tn t=some ti){n:Nat}{ps:Array (Nat×Operand)}(hop:o.op= .buildSlice t n ps)(hk:ti.k= .sl e)(hei:c.tn e=some ei)
 (hn:n*ei.size<=4096) (hpos:0<ei.size) {cs:List AV} (hvl:cs.all vl=true) (hr:yu (fun i=>some (i*ei.size,ei.size)) (zy st.sl) some ps.toList (List.replicate n (zH ei.zero)).flatten=some cs):
 o.wp c.P a w (jx G w a (after h o st (.av (.us ei.size (cs.map ro1))) none st.hp)) Q:=by
 obtain⟨d,hd1,hd2⟩:=(hc.tt t ti (qs hti).1).und
 rw[hk]at hd2
 cases hd2
 obtain⟨i,z,i1,i2,i3,i4,i5,i6,i7⟩:=(hc.tt e ei (qs hei).1).info (qs hei).2
 obtain⟨arr,ha,hl⟩:=Ja hI (arr:=madeCells z.cells (n*ei.size)) hr (qtz i5 i6 i7 n)
 have hsz:arr.size=n*ei.size/\cs.length=n*ei.size:=by
  have hfl:∀{l:List (Nat×Value)} {A B:Array Value} {pl:Nat->Option (Nat×Nat)},Instr.fill pl A l=some B->B.size=A.size:=by
   intro l
   induction l with
   |nil=>intro A B pl h;simp only[Instr.fill]at h;cases h;rfl
   |cons p l ih=>
    intro A B pl h
    simp only[Instr.fill]at h
    split at h
    ·cases h
    ·split at h
     ·cases h
     ·rw[ih h]
      have hf:∀(q:List (Value×Nat)) (off:Nat) (A:Array Value),(q.foldl (fun cs x=>cs.setIfInBounds (off+x.2) x.1) A).size=A.size:=by
       intro q
       induction q with
       |nil=>intro off A;rfl
       |cons x q ihq=>intro off A;simp only[List.foldl_cons];rw[ihq];simp
      rw[<-Array.foldl_toList]
      exact hf _ _ _
  have h1:=hfl ha
  rw[size_madeCells]at h1
  have h2:=hl.1
  simp at h2
  exact⟨h1,qc⟩
 have hrun:(execOp a.eval o).run c.P w= .ok (.value (.slice (some ⟨w.heap.size,0,none⟩) n n)) (w.alloc (.cells arr e)):=by
  simp only[execOp,hop]
  by_cases hz:n*i.size=0
  ·have hn0:n=0:=by
    rw[i2]at hz
    rcases Nat.mul_eq_zero.mp hz with h|h
    ·exact h
    ·omega
   subst hn0
   have ha':Instr.fill (fun i=>some (i*ei.size,ei.size)) #[] (ps.toList.map fun p=>(p.1,a.eval p.2))=some arr:=by
    rw[<-ha];simp[madeCells,Array.range_zero']
   simp[Instr.buildSlice,run_underlying hd1,sizeOf,typeInfo,i1,i2,ha',newRow,Array.range_zero']
  ·have hh:=run_buildSlice (P:=c.P) w t e n (ps.map fun(i,x)=>(i,a.eval x)) arr i z hd1 i1 i4 (by rw[i2];omega) hz (by rw[i2,Wv];exact ha)
   rw[Sem.run_bind,hh]
   rfl
 refine qw hrun ?_
 refine xC hI [] (by simp[qF,qN,hop]) hd hpos (by simp[hsz.2]) (yb w (.cells arr e (0,0))) hsz.1 (zgm n) (qyq hl) (fun x hx=>?_)
 obtain⟨y,hy,rfl⟩:=zg6.mp hx
 rw[qhu]
 exact zg9.mp hvl y hy
theorem qci(hc:Ok c)(hI:Inv G w st a.tmps)(hd:jJ o a)(h:Nat){t e:TypeId}{ti ei:TI}(hti:c.tn t=some ti){l m:Operand}(hop:o.op= .makeSlice t l m)(hk:ti.k= .sl e)(hei:c.tn e=some ei)
 {lv mv:Value} (hl:zy st.sl l= .sv lv) (hm:zy st.sl m= .sv mv) {n:Int} (hln:YP lv=some n) (hmn:YP mv=some n) (h0:0<=n) (hf:jP ei.bytes 1 n.toNat=true) (hpos:0<ei.size) {r:SV×BE×Hp}
 (hr:(if h=2 then k3 (.av (.ms st.hp.next 0 0 n.toNat ei.size)) none (st.hp.new ((List.replicate n.toNat (zH ei.zero)).flatten))
  else k3 (.av (.us ei.size ((List.replicate n.toNat (zH ei.zero)).flatten))) none st.hp)=some r):o.wp c.P a w (jx G w a (after h o st r.1 r.2.1 r.2.2)) Q:=by
 obtain⟨d,hd1,hd2⟩:=(hc.tt t ti (qs hti).1).und
 rw[hk]at hd2
 cases hd2
 obtain⟨i,z,i1,i2,i3,i4,i5,i6,i7⟩:=(hc.tt e ei (qs hei).1).info (qs hei).2
 obtain⟨kl,rfl⟩:=Jk hln
 obtain⟨km,rfl⟩:=Jk hmn
 obtain⟨f1,f2⟩:=Qm hf
 have h63:n.toNat<=n.toNat*ei.bytes:=zi8 _ f2
 obtain⟨N,rfl⟩:=Int.eq_ofNat_of_zero_le h0
 simp only[zgu]at*
 have hrun:(execOp a.eval o).run c.P w= .ok (.value (.slice (some ⟨w.heap.size,0,none⟩) N N)) (w.alloc (.cells (madeCells z.cells (N*ei.size)) e)):=by
  have hh:=run_make (P:=c.P) w t e i z hd1 i1 i4 kl km (N:Int) (N:Int) qc (Int.le_refl _) (by
   rw[i3,Int.mul_comm,<-Int.natCast_mul];omega) qc
  simp only[zgu,i2]at hh
  simp only[execOp,hop,(yd hI hl).1,(yd hI hm).1]
  rw[Sem.run_bind,hh];rfl
 obtain⟨a1,a2⟩:=qfa (G:=G) (w:=w) i5 i6 i7 N
 refine qw hrun ?_
 split at hr
 ·cases hr
  refine qdh hI h (by simp[qF,qN,hop,qG]) hd (yb w (.cells (madeCells z.cells (N*ei.size)) e (0,0))) (by rw[a1,size_madeCells];exact zgm _) (fun i x u hx hu=>?_) (fun G' hG k=>?_) (fun _ _ _ e=>by cases e)
  ·obtain⟨u',hu',hr⟩:=a2 i x hx
   rw[hu']at hu;cases hu;exact hr
  ·refine RelR.ms _ _ _ _ _ _ _ _ _ hG (zgm _) (fun _=>rfl) (jG (yb w (.cells (madeCells z.cells (N*ei.size)) e (0,0))).at) ?_
   rw[size_madeCells];omega
 ·cases hr
  exact xC hI [] (by simp[qF,qN,hop]) hd hpos a1 (yb w (.cells (madeCells z.cells (N*ei.size)) e (0,0))) (size_madeCells _ _) (zgm N) a2 (fun x hx=>qyp hx)
end
section
variable {c:Cx}{G:Gh}{w w':World}{st:St}{a:Act}{o:Oper}{Q:Exit->Act->World->Prop}
theorem YT{s d:TypeId}{x:Operand}{v:Value}(hop:o.op= .convert s d x)(hr:(convert s d (a.eval x)).run c.P w= .ok v w'):
 (execOp a.eval o).run c.P w= .ok (.value v) w':=by
 simp only[execOp,hop];rw[Sem.run_bind,hr];rfl
theorem qn2(w:World)(e:TypeId)(s:ByteArray):New w (Lib.bytesWorld w e s) (.cells (Lib.bytesCells w e s) e ((Lib.bytesCells w e s).size,(Lib.bytesCells w e s).size+1)):=by
 refine⟨?_,?_⟩
 case refine_2=>
  unfold Lib.bytesWorld World.freeze
  split<;>exact⟨rfl,rfl,rfl⟩
 apply Array.ext_getElem?
 intro i
 rw[zki]
 by_cases h:i<w.heap.size
 ·rw[Lib.bytesWorld_at_old w e s i h,if_neg qc]
 ·by_cases h':i=w.heap.size
  ·subst h';rw[Lib.bytesWorld_at_new,if_pos rfl]
  ·rw[if_neg h',zj2 (by rw[Lib.bytesWorld_size];omega),zj2 qc]
theorem qj7(hI:Inv G w st a.tmps){h:Nat}(ho:qF h o st.sl=qG [] st.sl)(hd:jJ o a){ob:Obj}(hw:New w w' ob)(n:Nat){s:SV}{v:Value}
 (hs:∀G',G'.I w.heap.size=n->∀k,qL G' w' k s v) (hsl:∀k g off,s≠ .lp k g off):jx G w a (after h o st s none st.hp) (a.put o.dst v) w':=by
 have hf:=Fr.new hI hw .oth n (mu:=G.mu) (la:=G.la) (fun _ _ _ h=>h)
 have hI1:=hI.beside hw .oth n (by rintro(⟨_,_,h⟩|⟨_,_,h⟩)<;>cases h)
 refine⟨_,?_,hf,zb _ _ _,qI _ _ _⟩
 unfold after
 rw[ho]
 exact(hI1.dn []).put o.dst hd (fun k _=>hs _ (by simp[Gh.add]) k) (fun k g off e=>absurd e (hsl k g off))
theorem VE(hc:Ok c)(hI:Inv G w st a.tmps)(hd:jJ o a)(h:Nat){s d e:TypeId}{si di ei:TI}(hsi:c.tn s=some si)(hdi:c.tn d=some di){x:Operand}(hop:o.op= .convert s d x)
 (hne:s≠d) (hk:di.k= .sl e) (hei:c.tn e=some ei) (hu:qfl ei=true) {b:ByteArray} (hx:zy st.sl x= .sv (.string b)):
 o.wp c.P a w (jx G w a (after h o st (.av (.sl 1 (b.data.toList.map fun x=>.sc (.int .u8 x.toNat)))) none st.hp)) Q:=by
 obtain⟨ud,hd1,hd2⟩:=(hc.tt d di (qs hdi).1).und
 rw[hk]at hd2
 cases hd2
 obtain⟨us,hs1,_⟩:=(hc.tt s si (qs hsi).1).und
 have he:=(hc.tt e ei (qs hei).1).1 hu
 have hrun:=YT (a:=a) (o:=o) hop (by rw[(yd hI hx).1];exact Lib.run_convert_string_bytes (P:=c.P) w s d e b hs1 hd1 he)
 refine qw hrun (qj7 hI (by simp[qF,qN,hop,hne]) hd (qn2 w e b) b.size (fun G' hG k=>?_) (fun _ _ _ e=>by cases e))
 have hge:=grownCap_ge w b.size 0 e
 by_cases hz:b.size=0
 ·have hnil:b.data.toList=[]:=by
   apply zhk.mp
   simpa using hz
  rw[hnil,hz]
  exact(RelR.sl0 1 _ _ qc).s k
 ·refine(RelR.sl 1 _ b.size _ _ 0 (b.data.toList.map fun x=>.int .u8 x.toNat) qc qc (by rw[zhv,zho];exact(zhu _).symm) hge qc qf (fun k u hk=>?_) (fun y hy=>?_) (fun k y u hy hu=>?_)).s k
  ·rw[zha]
   obtain⟨z,hz,rfl⟩:=qv _ _ _ _ hk
   have hlt:k<b.size:=by have:=(zgq.mp hz).1;rw[zho]at this;exact this
   rw[Lib.bytesWorld_cell w e b k hlt]
   simp[List.getD,hz]
  ·obtain⟨z,_,rfl⟩:=zg6.mp hy;rfl
  ·obtain⟨z,hz,rfl⟩:=qv _ _ _ _ hy
   obtain⟨z',hz',rfl⟩:=qv _ _ _ _ hu
   rw[hz]at hz';cases hz'
   exact .sc _ rfl
theorem QE:∀{cs:List AV} {l:List UInt8},zw cs=some l->∃ns:List Int,cs=ns.map (fun n=>.sc (.int .u8 n))/\l=ns.map fun n=>UInt8.ofNat n.toNat
 |[],l,h=>by simp only[zw]at h;cases h;exact⟨[],rfl,rfl⟩
 |x::r,l,h=>by
  unfold zw at h
  split at h
  ·rename_i he;cases he
  ·rename_i n r' he
   cases he
   cases hr:zw r with
   |none=>rw[hr]at h;cases h
   |some l'=>
    rw[hr]at h;cases h
    obtain⟨ns,rfl,rfl⟩:=QE hr
    exact⟨n::ns,rfl,rfl⟩
  ·cases h
theorem vY:∀(l:List Int) (r:ByteArray),l.foldl (fun r n=>r.push (UInt8.ofNat n.toNat)) r=⟨r.data++(l.map fun n=>UInt8.ofNat n.toNat).toArray⟩
 |[],r=>by simp
 |b::l,r=>by
  simp only[List.foldl_cons]
  rw[vY l]
  simp[ByteArray.push]
theorem qe0(hc:Ok c)(hI:Inv G w st a.tmps)(hd:jJ o a)(h:Nat){s d e:TypeId}{si di ei:TI}(hsi:c.tn s=some si)(hdi:c.tn d=some di){x:Operand}(hop:o.op= .convert s d x)
 (hk:si.k= .sl e) (hei:c.tn e=some ei) (hu:qfl ei=true) (hu':WM di=true) {y:AV} (hx:toA (zy st.sl x)=some y) {cs:List AV} (hcs:yT 1 y=some cs) {l:List UInt8} (hl:zw cs=some l):
 o.wp c.P a w (jx G w a (after h o st (.sv (.string ⟨l.toArray⟩)) none st.hp)) Q:=by
 obtain⟨us,hs1,hs2⟩:=(hc.tt s si (qs hsi).1).und
 rw[hk]at hs2
 cases hs2
 have he:=(hc.tt e ei (qs hei).1).1 hu
 have hds:=(hc.tt d di (qs hdi).1).2.1 hu'
 have hrel:=xk (wo hI x) hx
 refine kE hI h (by simp[qF,hop]) hd rfl (YT hop ?_)
 obtain⟨ns,rfl,rfl⟩:=QE hl
 rcases qb0 hrel hcs with⟨h1,h2⟩|⟨A,n,cap,h1,h2⟩
 ·have:ns=[]:=by simpa using h2
  subst this
  rw[h1,run_convert_bytes_string w s d e none 0 0 hs1 he hds]
  rfl
 ·obtain⟨A',n',cap',e1,_,hlen,_,hform⟩:=yk h2
  rw[h1]at e1;cases e1
  have hn:n=ns.length:=by simpa using hlen.symm
  subst hn
  rw[h1,run_convert_bytes_string w s d e (some A) _ cap hs1 he hds]
  have hload:=run_loadCells_list (P:=c.P) w A (ns.map (Value.int .u8)) (fun j v hj=>by
   have hpos:0<ns.length:=by
    have:=(zgq.mp hj).1
    simp at this;omega
   obtain⟨b,o',vs,rfl,_,hvl,hcell,hr⟩:=hform hpos
   rw[qT]
   obtain⟨z,hz,rfl⟩:=qv _ _ _ _ hj
   have hc1:(ns.map (fun n=>AV.sc (.int .u8 n)))[j]?=some (.sc (.int .u8 z)):=by simp[hz]
   obtain⟨u,hu⟩:=qR hvl.symm hc1
   have:=hr j _ u hc1 hu
   cases this
   exact hcell j _ hu)
  simp only[zhv]at hload
  rw[run_bytesToString w A ns.length cap _ hload,vY]
  have he0:ByteArray.empty.data=#[]:=rfl
  rw[he0]
  simp
theorem qiz(hI:Inv G w st a.tmps)(hd:jJ o a)(h:Nat){s d:TypeId}{x:Operand}(hop:o.op= .convert s d x){v z:Value}(hx:xz (zy st.sl x)=some v)(hz:QD c.P s d v=some z):
 o.wp c.P a w (jx G w a (after h o st (.sv z) none st.hp)) Q:=by
 obtain⟨h1,h2⟩:=qc5 hz w
 refine kE hI h (by simp[qF,hop]) hd h2 (YT hop ?_)
 rw[(yd hI (jH hx)).1];exact h1
theorem zb2(hI:Inv G w st a.tmps){t b:Nat}{arr:Array Value}{e:TypeId}{m:Nat×Nat}(hb:w.heap[b]?=some (.cells arr e (0,0))) (hOm:G.Om b= .sl t 0 0)
 (hs:w'.heap.size=w.heap.size) (hb':w'.heap[b]?=some (.cells arr e m)) (ho:∀x,x≠b->w'.heap[x]?=w.heap[x]?) (hr:Zm w w'):Inv G w' ⟨qG [t] st.sl,st.bx,st.hp⟩ a.tmps/\Fr G w G w':=by
 have hce:∀x i,w'.cell? ⟨x,i,none⟩=w.cell? ⟨x,i,none⟩:=fun x i=>by
  by_cases h:x=b
  ·subst h;rw[qX hb,qX hb']
  ·exact yA (ho x h) i
 have hbs:∀x,KQ w' x=KQ w x:=fun x=>by
  by_cases h:x=b
  ·subst h;rw[jG hb,jG hb']
  ·exact Zj (ho x h)
 have hF:Fr G w G w':=⟨Nat.le_of_eq hs.symm,fun x i _=>hce x i,fun _=>zgm _,fun _ _ _ h=>h,fun x _ hx=>⟨ho x (fun e=>by subst e;rw[hOm]at hx;rcases hx with h|h<;>cases h),rfl,rfl⟩,hr,fun x z hz=>(hbs x).trans hz⟩
 have he:=hF.ev
 have kp:∀p,p≠ .sl t 0 0->zq G w G w' p p:=fun p hp x hx=>⟨ho x (fun e=>by subst e;exact hp (hx.symm.trans hOm)),rfl,hx⟩
 refine⟨?_,hF⟩
 exact{
  slots:=fun j=>by
   show qL G w' j (qE (qG [t] st.sl) j) _
   rw[zo]
   split
   ·exact qL.ro he (k:=j) j (fun _ _ _ _ _ h=>h) (hI.slots j)
   ·rename_i hne
    refine qL.ev he (k:=j) (k':=j) (fun j' i=>kp _ ?_) (fun _ _ _ _ _ h=>h) (hI.slots j)
    intro e
    injection e with e1 _ _
    exact hne (by simp[e1])
  boxes:=fun j g cs h=>by
   obtain⟨blk,h1,h2,h3⟩:=hI.boxes j g cs h
   have hn:blk≠b:=fun e=>by subst e;rw[hOm]at h2;cases h2
   exact⟨blk,h1,h2,h3.ev he (ho blk hn) fun i=>kp _ (fun e=>by cases e)⟩
  heap:=fun j g cs h=>by
   obtain⟨blk,h1,h2,h3⟩:=hI.heap j g cs h
   have hn:blk≠b:=fun e=>by subst e;rw[hOm]at h2;cases h2
   exact⟨blk,h1,h2,h3.ev he (ho blk hn) fun i=>kp _ (fun e=>by cases e)⟩
  next:=hI.next
  hlt:=hI.hlt
  new:=fun x hx=>hI.new x qc
  vars:=hI.vars
  lps:=fun i j g off h=>by
   have h':qE (qG [t] st.sl) i= .lp j g off:=h
   rw[zo]at h'
   split at h'
   ·exact hI.lps i j g off (ZI.mp h')
   ·exact hI.lps i j g off h'}
theorem qrb{s:SV}{cs:List AV}(h:usA s=some cs):s= .av (.us 1 cs):=by
 unfold usA at h
 split at h
 ·split at h
  ·rename_i z;subst z;injection h with h;rw[h]
  ·cases h
 ·cases h
theorem Vz{P:Program}(w:World)(t e e':TypeId)(C:Array Value)(b n cap:Nat)(ht:P.underlying t=some (.slice e))(he:P.underlying e=some (.int .u8))(hb:w.heap[b]?=some (.cells C e' (0,0))):
 (convert t t (.slice (some ⟨b,0,none⟩) n cap)).run P w= .ok (.slice (some ⟨b,0,none⟩) n cap) (w.freeze ⟨b,C.size,none⟩ 1):=by
 have hsh:w.shape? b=some (e',C.size):=by
  unfold World.shape?
  rw[hb]
 simp[convert,run_underlying ht,run_underlying he,markStringish,hsh]
theorem qcm(hc:Ok c)(hI:Inv G w st a.tmps)(hd:jJ o a)(h:Nat){s e:TypeId}{si ei:TI}(hsi:c.tn s=some si){x:Operand}(hop:o.op= .convert s s x)
 (hk:si.k= .sl e) (hei:c.tn e=some ei) (hu:qfl ei=true) {cs:List AV} (hx:zy st.sl x= .av (.us 1 cs)):o.wp c.P a w (jx G w a (after h o st (.av (.sl 1 cs)) none st.hp)) Q:=by
 obtain⟨ud,hd1,hd2⟩:=(hc.tt s si (qs hsi).1).und
 rw[hk]at hd2
 cases hd2
 have he:=(hc.tt e ei (qs hei).1).1 hu
 obtain⟨t,rfl⟩:∃t,x= .tmp t:=by
  cases x with
  |tmp t=>exact⟨t,rfl⟩
  |const v=>
   exfalso
   simp only[zy]at hx
   split at hx
   ·split at hx<;>cases hx
   ·cases hx
   ·cases hx
  |global g=>cases hx
  |func f=>cases hx
 have hr:=wo hI (.tmp t)
 rw[hx]at hr
 obtain⟨b,hOm,ht⟩:=hr
 have hro:=ht.ro
 obtain⟨n,cap,arr,e',h1,h2,h3,h4,h5,h6,h7,h8⟩:=ht.ex
 have hrun:=Vz (P:=c.P) w s e e' arr b n cap hd1 he h6
 have hlt:b<w.heap.size:=(zh4.mp h6).1
 have z1:(w.freeze ⟨b,arr.size,none⟩ 1).heap.size=w.heap.size:=by
  unfold World.freeze
  rw[if_neg qg]
  simp
 have z2:(w.freeze ⟨b,arr.size,none⟩ 1).heap[b]?=some (.cells arr e' (arr.size,arr.size+1)):=by
  unfold World.freeze
  rw[if_neg qg]
  simp[zj9,h6]
 have z3:∀x,x≠b->(w.freeze ⟨b,arr.size,none⟩ 1).heap[x]?=w.heap[x]?:=fun x hx=>by
  unfold World.freeze
  rw[if_neg qg]
  have:¬(b=x):=fun e=>hx e.symm
  simp[zj9,this]
 have z4:Zm w (w.freeze ⟨b,arr.size,none⟩ 1):=by
  unfold World.freeze
  rw[if_neg qg]
  exact⟨rfl,rfl,rfl⟩
 obtain⟨m1,m2⟩:=zb2 (w':=w.freeze ⟨b,arr.size,none⟩ 1) (m:=(arr.size,arr.size+1)) hI h6 hOm z1 z2 z3 z4
 refine qw (v:=a.eval (.tmp t)) (w':=w.freeze ⟨b,arr.size,none⟩ 1) (YT hop (by rw[h1];exact hrun)) ⟨G,?_,m2,zb _ _ _,qI _ _ _⟩
 unfold after
 have hdn:qF h o st.sl=qG [t] st.sl:=by simp[qF,qN,hop,zF]
 rw[hdn]
 exact m1.put o.dst hd (fun k _=>(hro.ev m2.ev).s k) (fun _ _ _ e=>by cases e)
theorem qiy(hc:Ok c)(hI:Inv G w st a.tmps)(hd:jJ o a)(h:Nat){s d:TypeId}{si di:TI}(hsi:c.tn s=some si)(hdi:c.tn d=some di){x:Operand}(hop:o.op= .convert s d x){r:SV×BE×Hp}
 (hr:(KG c s d si di (zy st.sl x) fun s=>some (s,(none:BE),st.hp))=some r):o.wp c.P a w (jx G w a (after h o st r.1 r.2.1 r.2.2)) Q:=by
 unfold KG at hr
 split at hr
 ·rename_i e hk
  split at hr
  ·rename_i ei hei
   split at hr
   ·rename_i hu
    split at hr
    ·rename_i hsd
     subst hsd
     obtain⟨cs,hcs,hr⟩:=bsm hr
     cases hr
     exact qcm hc hI hd h hdi hop hk hei hu (qrb hcs)
    ·rename_i hne
     obtain⟨v,hv,hr⟩:=bsm hr
     obtain⟨b,hb,hr⟩:=bsm hr
     cases hr
     rw[qj4 hb]at hv
     exact VE hc hI hd h hsi hdi hop hne hk hei hu (jH hv)
   ·cases hr
  ·cases hr
 ·split at hr
  ·rename_i e hk
   split at hr
   ·rename_i ei hei
    split at hr
    ·rename_i hu
     obtain⟨y,hy,hr⟩:=bsm hr
     obtain⟨cs,hcs,hr⟩:=bsm hr
     obtain⟨l,hl,hr⟩:=bsm hr
     cases hr
     simp only[zh9]at hu
     exact qe0 hc hI hd h hsi hdi hop hk hei hu.1 hu.2 hy hcs hl
    ·cases hr
   ·cases hr
  ·obtain⟨v,hv,hr⟩:=bsm hr
   obtain⟨z,hz,hr⟩:=bsm hr
   cases hr
   exact qiz hI hd h hop hv hz
theorem qf4{x:AV}(h:KA x=true):(∀cs,x≠ .agg cs)/\ro x=ro1 x:=by
 cases x<;>first|exact⟨qf,rfl⟩|simp[KA]at h
theorem qey(hI:Inv G w st a.tmps)(hd:jJ o a)(h:Nat){f:FuncId}{fs cs:Array Operand}(hop:o.op= .makeFunc (.func f) fs cs)(hfs:fs.toList.isEmpty=true){xs:List AV}(hxs:Xt (cs.toList.map (zy st.sl))=some xs)
 (hall:xs.all KA=true) (hK:Nat.blt f 4294967296=true):o.wp c.P a w (jx G w a (after h o st (.av (.fn f (xs.map ro1))) none st.hp)) Q:=by
 obtain⟨h1,h2⟩:=wz hI hxs
 have hfs':fs=#[]:=by
  apply zke
  have:=List.isEmpty_iff.mp hfs
  simpa using this
 subst hfs'
 refine qw (v:=.func (.func f) #[] (cs.toList.map a.eval).toArray) (w':=w) ?_ (qD hI h (by simp[qF,hop]) hd (fun k=>(RelR.fn f _ _ (.inl hK) (by simp[h1]) (fun i x u hx hu=>?_)).s k) (fun _ _ _ e=>by cases e))
 ·simp only[execOp,hop,Instr.makeFunc]
  have:cs.map a.eval=(cs.toList.map a.eval).toArray:=by apply zkf;simp
  rw[this,show(#[]:Array Operand).map a.eval=#[] by simp];rfl
 ·obtain⟨y,hy,rfl⟩:=qv _ _ _ _ hx
  obtain⟨z,hz,hr⟩:=h2 i y hy
  have hu':a.eval z=u:=by
   rw[zgx,hz]at hu
   exact zgy hu
  rw[<-hu']
  have hne:=qf4 (zg9.mp hall y (zgo hy))
  rw[xQ hne.1]at hr
  exact hr.ro
theorem qcj(hI:Inv G w st a.tmps)(hd:jJ o a)(h:Nat){f:FuncId}{fs cs:Array Operand}(hop:o.op= .makeFunc (.func f) fs cs)(hne:¬fs.toList.isEmpty=true)(hfs:cs.toList.isEmpty=true){xs:List AV}(hxs:Xt (fs.toList.map (zy st.sl))=some xs)
 (hall:xs.all KA=true):o.wp c.P a w (jx G w a (after h o st (.av (.fn (4294967296+f) (xs.map ro1))) none st.hp)) Q:=by
 obtain⟨h1,h2⟩:=wz hI hxs
 have hfs':cs=#[]:=by
  apply zke
  have:=List.isEmpty_iff.mp hfs
  simpa using this
 subst hfs'
 refine qw (v:=.func (.func f) (fs.toList.map a.eval).toArray #[]) (w':=w) ?_ (qD hI h (by simp[qF,hop]) hd (fun k=>(RelR.fnb f _ _ (fun e=>hne (by have h3:=List.map_eq_nil_iff.mp e;subst h3;exact List.isEmpty_iff.mpr (zhk.mp h1.symm))) (by simp[h1]) (fun i x u hx hu=>?_)).s k) (fun _ _ _ e=>by cases e))
 ·simp only[execOp,hop,Instr.makeFunc]
  have:fs.map a.eval=(fs.toList.map a.eval).toArray:=by apply zkf;simp
  rw[this,show(#[]:Array Operand).map a.eval=#[] by simp];rfl
 ·obtain⟨y,hy,rfl⟩:=qv _ _ _ _ hx
  obtain⟨z,hz,hr⟩:=h2 i y hy
  have hu':a.eval z=u:=by
   rw[zgx,hz]at hu
   exact zgy hu
  rw[<-hu']
  have hne:=qf4 (zg9.mp hall y (zgo hy))
  rw[xQ hne.1]at hr
  exact hr.ro
theorem qai{s:SV}{cs:List AV}(h:Vf s=some cs):s= .av (.agg cs):=by
 unfold Vf at h
 split at h
 ·unfold qzx at h
  split at h
  ·cases h;rfl
  ·cases h
 ·cases h
theorem qtj(hc:Ok c)(hI:Inv G w st a.tmps)(hd:jJ o a)(h:Nat){t:TypeId}{ti:TI}(hti:c.tn t=some ti){x:Operand}{f:Nat}(hop:o.op= .field t x f){fs:List (Nat×TypeId)}(hk:ti.k= .st fs)
 {fo:Nat} {ft:TypeId} (hfs:fs[f]?=some (fo,ft)) {fi:TI} (hfi:c.tn ft=some fi) {cs:List AV} (hcs:Vf (zy st.sl x)=some cs) {r:SV×List AV} (hr:(ju fi 0 cs fo fun s l=>some (s,l))=some r):
 o.wp c.P a w (jx G w a (after h o st r.1 none st.hp)) Q:=by
 obtain⟨d,hd1,hd2⟩:=(hc.tt t ti (qs hti).1).und
 rw[hk]at hd2
 obtain⟨fields,rfl,hfl⟩:=hd2
 obtain⟨fl,hfl1,hfl2⟩:=qv _ _ _ _ (show(fields.toList.map fun f=>(f.offset,f.type))[f]?=some (fo,ft) by rw[hfl];exact hfs)
 have hfl1':fields[f]?=some fl:=by simpa using hfl1
 cases hfl2
 have hxr:=wo hI x
 rw[qai hcs]at hxr
 obtain⟨vs,hv,hlen,hrel⟩:=hxr
 have ht:=hc.tt fl.type fi (qs hfi).1
 have hz:=fun w=>ht.sizeOf (qs hfi).2 w
 have ha:=fun w=>ht.isAgg (qs hfi).2 w
 have hrun:∀v,(part fl.type vs.toArray fl.offset).run c.P w= .ok v w->(execOp a.eval o).run c.P w= .ok (.value v) w:=by
  intro v hp
  simp only[execOp,hop,hv,Instr.field]
  simp[run_underlying hd1,hfl1',asAgg,hp]
 have ho:qF h o st.sl=qG (qN h o) st.sl:=by simp[qF,hop]
 have hro:∀(i:Nat) (y:AV) (u:Value),cs[i]?=some y->vs[i]?=some u->RelR G w (ro1 y) u:=fun i y u hy hu=>(hrel i y u hy hu).ro
 unfold ju at hr
 split at hr
 ·rename_i hsc
  obtain⟨v,hv',hr⟩:=bsm hr
  cases hr
  have hx:=xZ hv'
  obtain⟨u,hu⟩:=qR hlen hx
  have hru:=hro _ _ _ hx hu
  have hag:yC fi.k=false:=by cases hkk:fi.k<;>rw[hkk]at hsc<;>first|rfl|cases hsc
  have e:u=v:=by cases hru;rfl
  subst e
  refine qw (hrun u ?_) (qD hI h ho hd (fun _=>⟨rfl,hru.one⟩) (fun _ _ _ e=>by cases e))
  simp[part,ha,hag,hu]
 ·split at hr
  ·rename_i hsc hag
   obtain⟨l,hl,hr⟩:=bsm hr
   simp only[show¬(0=1) by decide,if_false]at hr
   cases hr
   obtain⟨hle,rfl⟩:=zY hl
   refine qw (hrun (.agg ((vs.drop fl.offset).take fi.size).toArray) ?_) (qD hI h ho hd (fun k=>⟨_,rfl,by simp[hlen],fun i y u hy hu=>?_⟩) (fun _ _ _ e=>by cases e))
   ·simp[part,ha,hag,hz]
    try (rw[List.drop_take])
   ·obtain⟨y',hy',rfl⟩:=qv _ _ _ _ hy
    rw[zgt]at hy' hu
    split at hy'
    ·rename_i hq
     simp only[hq,if_true]at hu
     exact(hro (fl.offset+i) y' u (by rw[<-hy'];simp) (by rw[<-hu];simp)).c _
    ·cases hy'
  ·rename_i hsc hag
   obtain⟨y,hy,hr⟩:=bsm hr
   simp only[show¬(0=1) by decide,if_false]at hr
   cases hr
   have hy:cs[fl.offset]?=some y:=hy
   obtain⟨u,hu⟩:=qR hlen hy
   have hag':yC fi.k=false:=by simpa using hag
   refine qw (hrun u ?_) (qD hI h ho hd (fun k=>(hro _ _ _ hy hu).s k) (fun k g off e=>by cases e))
   simp[part,ha,hag',hu]
theorem qnv(hc:Ok c)(hI:Inv G w st a.tmps)(hd:jJ o a)(h:Nat){t:TypeId}{ti:TI}(hti:c.tn t=some ti){x i:Operand}(hop:o.op= .index t x i){n:Nat}{e:TypeId}(hk:ti.k= .ar n e)
 {fi:TI} (hfi:c.tn e=some fi) {cs:List AV} (hcs:Vf (zy st.sl x)=some cs) {iv:Value} (hiv:xz (zy st.sl i)=some iv) {j:Nat} (hj:idx n iv=some j) {r:SV×List AV} (hr:(ju fi 0 cs (j*fi.size) fun s l=>some (s,l))=some r):
 o.wp c.P a w (jx G w a (after h o st r.1 none st.hp)) Q:=by
 obtain⟨d,hd1,hd2⟩:=(hc.tt t ti (qs hti).1).und
 rw[hk]at hd2
 have hd2:d= .array n e:=hd2
 subst hd2
 have hxr:=wo hI x
 rw[qai hcs]at hxr
 obtain⟨vs,hv,hlen,hrel⟩:=hxr
 have ht:=hc.tt e fi (qs hfi).1
 have hz:=fun w=>ht.sizeOf (qs hfi).2 w
 have ha:=fun w=>ht.isAgg (qs hfi).2 w
 obtain⟨hi,_⟩:=yd hI (jH hiv)
 obtain⟨k,z,rfl,z0,z1,rfl⟩:=ZS hj
 have hrun:∀v,(part e vs.toArray (z.toNat*fi.size)).run c.P w= .ok v w->(execOp a.eval o).run c.P w= .ok (.value v) w:=by
  intro v hp
  simp only[execOp,hop,hv,hi,Instr.index]
  simp[run_underlying hd1,asIntOf,z0,z1,hz,hp]
 have ho:qF h o st.sl=qG (qN h o) st.sl:=by simp[qF,hop]
 have hro:∀(i:Nat) (y:AV) (u:Value),cs[i]?=some y->vs[i]?=some u->RelR G w (ro1 y) u:=fun i y u hy hu=>(hrel i y u hy hu).ro
 generalize z.toNat*fi.size=off at hr hrun
 unfold ju at hr
 split at hr
 ·rename_i hsc
  obtain⟨v,hv',hr⟩:=bsm hr
  cases hr
  have hx:=xZ hv'
  obtain⟨u,hu⟩:=qR hlen hx
  have hru:=hro _ _ _ hx hu
  have hag:yC fi.k=false:=by cases hkk:fi.k<;>rw[hkk]at hsc<;>first|rfl|cases hsc
  have e:u=v:=by cases hru;rfl
  subst e
  refine qw (hrun u ?_) (qD hI h ho hd (fun _=>⟨rfl,hru.one⟩) (fun _ _ _ e=>by cases e))
  simp[part,ha,hag,hu]
 ·split at hr
  ·rename_i hsc hag
   obtain⟨l,hl,hr⟩:=bsm hr
   simp only[show¬(0=1) by decide,if_false]at hr
   cases hr
   obtain⟨hle,rfl⟩:=zY hl
   refine qw (hrun (.agg ((vs.drop off).take fi.size).toArray) ?_) (qD hI h ho hd (fun k=>⟨_,rfl,by simp[hlen],fun i y u hy hu=>?_⟩) (fun _ _ _ e=>by cases e))
   ·simp[part,ha,hag,hz]
    try (rw[List.drop_take])
   ·obtain⟨y',hy',rfl⟩:=qv _ _ _ _ hy
    rw[zgt]at hy' hu
    split at hy'
    ·rename_i hq
     simp only[hq,if_true]at hu
     exact(hro (off+i) y' u (by rw[<-hy'];simp) (by rw[<-hu];simp)).c _
    ·cases hy'
  ·rename_i hsc hag
   obtain⟨y,hy,hr⟩:=bsm hr
   simp only[show¬(0=1) by decide,if_false]at hr
   cases hr
   have hy:cs[off]?=some y:=hy
   obtain⟨u,hu⟩:=qR hlen hy
   have hag':yC fi.k=false:=by simpa using hag
   refine qw (hrun u ?_) (qD hI h ho hd (fun k=>(hro _ _ _ hy hu).s k) (fun k g off e=>by cases e))
   simp[part,ha,hag',hu]
theorem zbu(hc:Ok c)(hI:Inv G w st a.tmps)(hd:jJ o a)(h:Nat){cl:Call}(hop:o.op= .call cl)(hcl:cl.callee= .builtin .len){x:Operand}(hargs:cl.args=#[x]) {t e:TypeId} {ti:TI} (hts:cl.argTypes[0]?=some t)
 (hti:c.tn t=some ti) (hk:ti.k= .sl e) {y:AV} (hx:zy st.sl x= .av y) {n:Nat} (hn:zA y=some n):o.wp c.P a w (jx G w a (after h o st (.sv (.int .i64 n)) none st.hp)) Q:=by
 obtain⟨d,hd1,hd2⟩:=(hc.tt t ti (qs hti).1).und
 rw[hk]at hd2
 cases hd2
 have hxr:=wo hI x
 rw[hx]at hxr
 obtain⟨A,cap,hv⟩:=qt4 hxr hn
 refine kE hI h (by simp[qF,qN,hop,hcl]) hd rfl ?_
 rw[jZ hcl hop rfl]
 simp only[Go.builtin,hargs]
 have:=Vx (P:=c.P) hd1 A n cap cl.argTypes hts o.type w
 have hm:(#[x]:Array Operand).map a.eval=#[a.eval x]:=qf
 rw[Sem.run_bind,hm,hv,this];rfl
theorem qx8(hI:Inv G w st a.tmps)(hd:jJ o a)(h:Nat){cl:Call}(hop:o.op= .call cl){b:Builtin}(hcl:cl.callee= .builtin b){vs:List Value}(hvs:qbw (cl.args.toList.map (zy st.sl))=some vs){z:Value}
 (hz:yE c.P b cl.argTypes o.type vs=some z):o.wp c.P a w (jx G w a (after h o st (.sv z) none st.hp)) Q:=by
 have he:=Jv hI hvs
 have hargs:cl.args.map a.eval=vs.toArray:=by rw[<-he];apply zkf;simp
 have hb:b≠ .append:=by rintro rfl;simp[yE]at hz
 have hdn:qF h o st.sl=qG (qN h o) st.sl:=by simp[qF,hop]
 have fin:∀s:Sem Value,one (qP c.P s)=some z->(∀k,Go.builtin b cl.argTypes o.type k vs.toArray=(do pure (.value (<-s))))->o.wp c.P a w (jx G w a (after h o st (.sv z) none st.hp)) Q:=by
  intro s hs he'
  refine kE hI h hdn hd (zS hs).2 ?_
  rw[jZ hcl hop rfl,hargs,he',Sem.run_bind,jS (zS hs).1 w];rfl
 cases b<;>simp only[yE]at hz<;>first|cases hz;done|exact fin _ hz (fun _=>rfl)
end
def YS(G:Gh)(w:World)(x:AV)(v:Value):Prop:=∀p,zj G w p x v
structure HpI (G : Gh) (w : World) (hp : Hp) : Prop where
 heap:∀b g cs,hp.get b=some (g,cs)->∃blk,G.mu b g=some blk/\G.Om blk= .obj b g/\ObR G w blk (.oc b g ·) g cs
 next:∀b g,hp.next<=b->G.mu b g=none
 hlt:∀b g cs,hp.get b=some (g,cs)->b<hp.next
 new:∀b,w.heap.size<=b->G.Om b= .fr/\G.I b=0
 vars:∀b,(∃k g,G.Om b= .box k g)\/(∃k g,G.Om b= .obj k g)->G.I b=0
theorem Inv.hpI{G:Gh}{w:World}{st:St}{t:Array Value}(h:Inv G w st t):HpI G w st.hp:=⟨h.heap,h.next,h.hlt,h.new,h.vars⟩
def qo8(G:Gh)(w:World)(y:AV)(v:Value):Prop:=
 match y with
 | .tup l=>∃vs:List Value,v= .tuple vs.toArray/\l.length=vs.length/\∀(j:Nat) (x:AV) (c:Value),l[j]?=some x->vs[j]?=some c->zj G w (.sl 0 j ·) x c
 |x=>zj G w (.sl 0 0 ·) x v
def qv0(G:Gh)(w:World)(y:AV)(hp:Hp)(e:Ending)(w':World):Prop:=
 ∃v G',e= .returned v/\Fr G w G' w'/\HpI G' w' hp/\qo8 G' w' y v
def kV(c:Cx)(R:Orc):Prop:=
 ∀f xs hp y hp',R f xs hp=some (y,hp')->∀G w (vs:List Value),HpI G w hp->xs.length=vs.length->
  (∀(i:Nat) (x:AV) (v:Value),xs[i]?=some x->vs[i]?=some v->YS G w x v)->Calls c.P f vs.toArray w (qv0 G w y hp')
def jA(h:Nat):Ow->Bool
 | .fr=>false
 | .obj _ _=>h !=2
 | .oc _ _ _=>h !=2
 |_=>true
def xv(h:Nat)(p:Ow):Ow:=if jA h p=true then .oth else p
def Qw(h d:Nat):Ow->Ow
 | .fr=>.fr
 | .obj b g=>if h=2 then .obj b g else .oth
 | .oc b g i=>if h=2 then .oc b g i else .oth
 | .sl 0 j i=>.sl d j i
 |_=>.oth
theorem wQ(h:Nat):Rho (xv h) where
 fr:=rfl
 oth:=rfl
 box p k g e:=by
  unfold xv at e
  split at e
  ·cases e
  ·exact e
 obj p k g e:=by
  unfold xv at e
  split at e
  ·cases e
  ·exact e
theorem qgn{h d:Nat}{p:Ow}{k g:Nat}(e:Qw h d p= .obj k g):p= .obj k g/\h=2:=by
 unfold Qw at e
 split at e
 ·cases e
 ·split at e
  ·rename_i h2;exact⟨e,h2⟩
  ·cases e
 ·split at e<;>cases e
 ·cases e
 ·cases e
theorem qgo{h d:Nat}{p:Ow}{k g:Nat}(e:Qw h d p= .box k g):False:=by
 unfold Qw at e
 split at e
 ·cases e
 ·split at e<;>cases e
 ·split at e<;>cases e
 ·cases e
 ·cases e
section
variable {c:Cx}{G:Gh}{w w':World}{st:St}{a:Act}{o:Oper}{Q:Exit->Act->World->Prop}
theorem HpI.rel{hp:Hp}(hI:HpI G w hp){f:Ow->Ow}(hf:Rho f)(ho:∀b g,f (.obj b g)= .obj b g)(hc:∀b g i,f (.oc b g i)= .oc b g i):HpI (G.rel f) w hp where
 heap b g cs h:=by
  obtain⟨blk,h1,h2,h3⟩:=hI.heap b g cs h
  exact⟨blk,h1,by simp[Gh.rel,h2,ho],h3.ev (Fr.rel hf).ev rfl fun i b hb=>⟨rfl,rfl,by simp[Gh.rel,hb,hc]⟩⟩
 next:=hI.next
 hlt:=hI.hlt
 new b hb:=⟨by simp[Gh.rel,(hI.new b hb).1,hf.fr],(hI.new b hb).2⟩
 vars b hb:=hI.vars b (by
  rcases hb with⟨k,g,h⟩|⟨k,g,h⟩
  ·exact .inl ⟨k,g,hf.box _ _ _ h⟩
  ·exact .inr ⟨k,g,hf.obj _ _ _ h⟩)
def Gh.bare(G:Gh)(f:Ow->Ow):Gh:=⟨fun b=>f (G.Om b),G.I,fun _ _=>none,G.la⟩
theorem HpI.pure{hp:Hp}(hI:HpI G w hp){f:Ow->Ow}(hf:Rho f):HpI (G.bare f) w hp0 where
 heap b g cs h:=by cases h
 next _ _ _:=rfl
 hlt b g cs h:=by cases h
 new b hb:=⟨by simp[Gh.bare,(hI.new b hb).1,hf.fr],(hI.new b hb).2⟩
 vars b hb:=hI.vars b (by
  rcases hb with⟨k,g,h⟩|⟨k,g,h⟩
  ·exact .inl ⟨k,g,hf.box _ _ _ h⟩
  ·exact .inr ⟨k,g,hf.obj _ _ _ h⟩)
def Gh.join(G G':Gh)(h d:Nat):Gh:=⟨fun b=>if jA h (G.Om b)=true then G.Om b else Qw h d (G'.Om b),G'.I,G'.mu,G.la⟩
theorem qgu(hI:Inv G w st a.tmps)(h:Nat)(h2:h=2)(hdn:qF h o st.sl=st.sl)(hd:jJ o a){G':Gh}(hf:Fr (G.rel (xv h)) w G' w'){hp':Hp}(hH:HpI G' w' hp'){s:SV}{v:Value}
 (hs:∀d Gf,EvL G' w' Gf w'/\(∀b g x,G'.mu b g=some x->Gf.mu b g=some x)/\(∀b z,KQ w' b=some z->KQ w' b=some z)->(∀j i,zq G' w' Gf w' (.sl 0 j i) (.sl d j i))->qL Gf w' d s v) (hl:∀k g off,s≠ .lp k g off):
 jx G w a (after h o st s none hp') (a.put o.dst v) w':=by
 let d:=o.dst.getD 0
 let Gf:=G.join G' h d
 have hkept:∀b,jA h (G.Om b)=true->b<w.heap.size/\w'.heap[b]?=w.heap[b]?/\G'.Om b= .oth/\G'.I b=G.I b/\Gf.Om b=G.Om b:=by
  intro b hb
  have hlt:b<w.heap.size:=hI.lt rfl (by rintro e;rw[e]at hb;simp[jA]at hb)
  obtain⟨h1,h2,h3⟩:=hf.same b hlt (.inr (by simp[Gh.rel,xv,hb]))
  exact⟨hlt,h1,by rw[h2];simp[Gh.rel,xv,hb],h3,by simp[Gf,Gh.join,hb]⟩
 have hnk:∀b,G'.Om b≠ .oth->Gf.Om b=Qw h d (G'.Om b):=by
  intro b hb
  have:¬jA h (G.Om b)=true:=fun e=>hb (hkept b e).2.2.1
  simp[Gf,Gh.join,this]
 have hev:Ev G' w' Gf w':=⟨fun _ _ _=>rfl,fun _=>zgm _,fun _ _ _ h=>h,fun _ _ h=>h⟩
 have hK:∀p,jA h p=true->zq G w Gf w' p p:=by
  intro p hp b hb
  have:=hkept b (by rw[hb];exact hp)
  exact⟨this.2.1,this.2.2.2.1,by rw[this.2.2.2.2,hb]⟩
 have hfr:Fr G w Gf w':={
  size:=hf.size
  cells:=hf.cells
  imm:=hf.imm
  mu:=hf.mu
  rest:=hf.rest
  bs:=hf.bs
  same:=fun b hb ho=>by
   rcases ho with ho|ho
   ·obtain⟨h1,h2,h3⟩:=hf.same b hb (.inl (by simp[Gh.rel,ho,xv,jA]))
    have h2':G'.Om b= .fr:=by rw[h2];simp[Gh.rel,ho,xv,jA]
    exact⟨h1,by rw[hnk b (by rw[h2'];simp),h2',ho];rfl,h3⟩
   ·have:=hkept b (by rw[ho];rfl)
    exact⟨this.2.1,this.2.2.2.2,this.2.2.2.1⟩}
 have hev':Ev G w Gf w':=hfr.ev
 have hback:∀p q,p≠ .oth->Qw h d p=q->zq G' w' Gf w' p q:=fun p q hp hq b hb=>⟨rfl,rfl,by rw[hnk b (by rw[hb];exact hp),hb,hq]⟩
 have hI':Inv Gf w' ⟨st.sl,st.bx,hp'⟩ a.tmps:={
  slots:=fun k=>qL.ev hev' (fun j i=>hK _ rfl) (fun _ _ _ _ _ h=>h) (hI.slots k)
  boxes:=fun k g cs hb=>by
   obtain⟨blk,h1,h2,h3⟩:=hI.boxes k g cs hb
   have hk:=hkept blk (by rw[h2];rfl)
   exact⟨blk,h1,by rw[hk.2.2.2.2,h2],h3.ev hev' hk.2.1 fun i=>hK _ rfl⟩
  heap:=fun b g cs hb=>by
   obtain⟨blk,e1,e2,e3⟩:=hH.heap b g cs hb
   refine⟨blk,e1,?_,e3.ev hev rfl fun i=>hback _ _ qf (by simp[Qw,h2])⟩
   rw[hnk blk (by rw[e2];simp),e2];simp[Qw,h2]
  next:=fun b g hb=>hH.next b g hb
  hlt:=fun b g cs hb=>hH.hlt b g cs hb
  new:=fun b hb=>by
   obtain⟨h1,h2⟩:=hH.new b hb
   exact⟨by rw[hnk b (by rw[h1];simp),h1];rfl,h2⟩
  vars:=fun b hb=>by
   by_cases hk:jA h (G.Om b)=true
   ·have hq:=hkept b hk
    rw[hq.2.2.2.2]at hb
    show G'.I b=0
    rw[hq.2.2.2.1]
    exact hI.vars b hb
   ·have e:Gf.Om b=Qw h d (G'.Om b):=by simp[Gf,Gh.join,hk]
    rw[e]at hb
    rcases hb with⟨k,g,hb⟩|⟨k,g,hb⟩
    ·exact(qgo hb).elim
    ·exact hH.vars b (.inr ⟨k,g,(qgn hb).1⟩)
  lps:=hI.lps}
 refine⟨Gf,?_,hfr,zb _ _ _,qI _ _ _⟩
 unfold after
 rw[hdn]
 refine hI'.put o.dst hd (fun k hk=>?_) (fun k g off e=>absurd e (hl k g off))
 have hdk:d=k:=by simp[d,hk]
 subst hdk
 exact hs d Gf ⟨hev.evl,hev.mu,hev.bs⟩ (fun j i=>hback _ _ qf (by simp[Qw]))
def Gh.joinP(G G':Gh)(h d:Nat):Gh:=⟨fun b=>if jA h (G.Om b)=true then G.Om b else Qw h d (G'.Om b),G'.I,G.mu,G.la⟩
theorem qo7(hI:Inv G w st a.tmps)(h:Nat)(h2:h≠2)(hdn:qF h o st.sl=st.sl)(hd:jJ o a){G':Gh}(hf:Fr (G.bare (xv h)) w G' w'){hp':Hp}(hH:HpI G' w' hp'){s:SV}{v:Value}
 (hs:∀d Gf,EvL G' w' Gf w'->(∀j i,zq G' w' Gf w' (.sl 0 j i) (.sl d j i))->qL Gf w' d s v) (hl:∀k g off,s≠ .lp k g off):
 jx G w a (after h o st s none st.hp) (a.put o.dst v) w':=by
 let d:=o.dst.getD 0
 let Gf:=G.joinP G' h d
 have hkept:∀b,jA h (G.Om b)=true->b<w.heap.size/\w'.heap[b]?=w.heap[b]?/\G'.Om b= .oth/\G'.I b=G.I b/\Gf.Om b=G.Om b:=by
  intro b hb
  have hlt:b<w.heap.size:=hI.lt rfl (by rintro e;rw[e]at hb;simp[jA]at hb)
  obtain⟨h1,h2,h3⟩:=hf.same b hlt (.inr (by simp[Gh.bare,xv,hb]))
  exact⟨hlt,h1,by rw[h2];simp[Gh.bare,xv,hb],h3,by simp[Gf,Gh.joinP,hb]⟩
 have hnk:∀b,G'.Om b≠ .oth->Gf.Om b=Qw h d (G'.Om b):=by
  intro b hb
  have:¬jA h (G.Om b)=true:=fun e=>hb (hkept b e).2.2.1
  simp[Gf,Gh.joinP,this]
 have hev:EvL G' w' Gf w':=⟨fun _ _ _=>rfl,fun _=>zgm _⟩
 have hK:∀p,jA h p=true->zq G w Gf w' p p:=by
  intro p hp b hb
  have:=hkept b (by rw[hb];exact hp)
  exact⟨this.2.1,this.2.2.2.1,by rw[this.2.2.2.2,hb]⟩
 have hfr:Fr G w Gf w':={
  size:=hf.size
  cells:=hf.cells
  imm:=hf.imm
  mu:=fun _ _ _ h=>h
  rest:=hf.rest
  bs:=hf.bs
  same:=fun b hb ho=>by
   rcases ho with ho|ho
   ·obtain⟨h1,h2,h3⟩:=hf.same b hb (.inl (by simp[Gh.bare,ho,xv,jA]))
    have h2':G'.Om b= .fr:=by rw[h2];simp[Gh.bare,ho,xv,jA]
    exact⟨h1,by rw[hnk b (by rw[h2'];simp),h2',ho];rfl,h3⟩
   ·have:=hkept b (by rw[ho];rfl)
    exact⟨this.2.1,this.2.2.2.2,this.2.2.2.1⟩}
 have hev':Ev G w Gf w':=hfr.ev
 have hback:∀p q,p≠ .oth->Qw h d p=q->zq G' w' Gf w' p q:=fun p q hp hq b hb=>⟨rfl,rfl,by rw[hnk b (by rw[hb];exact hp),hb,hq]⟩
 have hI':Inv Gf w' ⟨st.sl,st.bx,st.hp⟩ a.tmps:={
  slots:=fun k=>qL.ev hev' (fun j i=>hK _ rfl) (fun _ _ _ _ _ h=>h) (hI.slots k)
  boxes:=fun k g cs hb=>by
   obtain⟨blk,h1,h2,h3⟩:=hI.boxes k g cs hb
   have hk:=hkept blk (by rw[h2];rfl)
   exact⟨blk,h1,by rw[hk.2.2.2.2,h2],h3.ev hev' hk.2.1 fun i=>hK _ rfl⟩
  heap:=fun b g cs hb=>by
   obtain⟨blk,e1,e2,e3⟩:=hI.heap b g cs hb
   have hk:=hkept blk (by rw[e2];simp[jA,h2])
   exact⟨blk,e1,by rw[hk.2.2.2.2,e2],e3.ev hev' hk.2.1 fun i=>hK _ (by simp[jA,h2])⟩
  next:=hI.next
  hlt:=hI.hlt
  new:=fun b hb=>by
   obtain⟨h1,h2⟩:=hH.new b hb
   exact⟨by rw[hnk b (by rw[h1];simp),h1];rfl,h2⟩
  vars:=fun b hb=>by
   by_cases hk:jA h (G.Om b)=true
   ·have hq:=hkept b hk
    rw[hq.2.2.2.2]at hb
    show G'.I b=0
    rw[hq.2.2.2.1]
    exact hI.vars b hb
   ·have e:Gf.Om b=Qw h d (G'.Om b):=by simp[Gf,Gh.joinP,hk]
    rw[e]at hb
    rcases hb with⟨k,g,hb⟩|⟨k,g,hb⟩
    ·exact(qgo hb).elim
    ·exact absurd (qgn hb).2 h2
  lps:=hI.lps}
 refine⟨Gf,?_,hfr,zb _ _ _,qI _ _ _⟩
 unfold after
 rw[hdn]
 refine hI'.put o.dst hd (fun k hk=>?_) (fun k g off e=>absurd e (hl k g off))
 have hdk:d=k:=by simp[d,hk]
 subst hdk
 exact hs d Gf hev (fun j i=>hback _ _ qf (by simp[Qw]))
theorem qem{ti:TI}{y:AV}{s:SV}{v:Value}(hr:VC ti y some=some s){G':Gh}(h:qo8 G' w' y v):
 (∀d Gf,EvL G' w' Gf w'/\(∀b g x,G'.mu b g=some x->Gf.mu b g=some x)/\(∀b z,KQ w' b=some z->KQ w' b=some z)->(∀j i,zq G' w' Gf w' (.sl 0 j i) (.sl d j i))->qL Gf w' d s v)/\∀k g off,s≠ .lp k g off:=by
 unfold VC at hr
 split at hr
 ·obtain⟨u,hu,hr⟩:=bsm hr
  cases hr
  rw[yK hu]at h
  have h':RelR G' w' (.sc u) v:=h
  cases h' with
  |sc _ h1=>exact⟨fun _ _ _ _=>⟨rfl,h1⟩,qf⟩
 ·obtain⟨u,hu,hr⟩:=bsm hr
  cases hr
  cases y with
  |tup l=>
   simp only[kZ]at hu
   split at hu
   ·rename_i hn
    have e:(List.range ti.size).map (js (.tup l))=l:=by
     apply ziz
     intro i
     by_cases hi:i<ti.size
     ·rw[zgx,zi6 hi]
      have:i<l.length:=qc
      simp[js,this]
     ·rw[zhg qh,zhg qc]
    rw[e]
    obtain⟨vs,h1,h2,h3⟩:=h
    exact⟨fun d Gf he hk=>⟨vs,h1,h2,fun j x cc hx hc=>zj.ev ⟨he.1.cells,he.1.imm,he.2.1,he.2.2⟩ (fun i=>hk j i) (h3 j x cc hx hc)⟩,qf⟩
   ·cases hu
  |_=>cases hu
 ·obtain⟨u,hu,hr⟩:=bsm hr
  cases hr
  refine⟨fun d Gf he hk=>?_,qf⟩
  have h':zj G' w' (.sl 0 0 ·) y v:=by
   cases y<;>first|exact h|cases hu
  exact zj.ev ⟨he.1.cells,he.1.imm,he.2.1,he.2.2⟩ (fun i=>hk 0 i) h'
theorem qnk{ti:TI}{y:AV}{s:SV}{v:Value}(hr:VC ti y some=some s){G':Gh}(h:qo8 G' w' y v)(hvl:vlV y=true):
 (∀d Gf,EvL G' w' Gf w'->(∀j i,zq G' w' Gf w' (.sl 0 j i) (.sl d j i))->qL Gf w' d s v)/\∀k g off,s≠ .lp k g off:=by
 unfold VC at hr
 split at hr
 ·obtain⟨u,hu,hr⟩:=bsm hr
  cases hr
  rw[yK hu]at h
  have h':RelR G' w' (.sc u) v:=h
  cases h' with
  |sc _ h1=>exact⟨fun _ _ _ _=>⟨rfl,h1⟩,qf⟩
 ·obtain⟨u,hu,hr⟩:=bsm hr
  cases hr
  cases y with
  |tup l=>
   simp only[kZ]at hu
   split at hu
   ·rename_i hn
    have e:(List.range ti.size).map (js (.tup l))=l:=by
     apply ziz
     intro i
     by_cases hi:i<ti.size
     ·rw[zgx,zi6 hi]
      have:i<l.length:=qc
      simp[js,this]
     ·rw[zhg qh,zhg qc]
    rw[e]
    obtain⟨vs,h1,h2,h3⟩:=h
    exact⟨fun d Gf he hk=>⟨vs,h1,h2,fun j x cc hx hc=>zj.evl he (fun i=>hk j i) (h3 j x cc hx hc) (zg9.mp hvl x (zgo hx))⟩,qf⟩
   ·cases hu
  |_=>cases hu
 ·obtain⟨u,hu,hr⟩:=bsm hr
  cases hr
  refine⟨fun d Gf he hk=>?_,qf⟩
  have h':zj G' w' (.sl 0 0 ·) y v:=by
   cases y<;>first|exact h|cases hu
  have hvl':vlF y=true:=by
   cases y<;>first|exact hvl|cases hu
  exact zj.evl he (fun i=>hk 0 i) h' hvl'
theorem zaw(x:AV):vlF (ro x)=vlF x:=by
 cases x with
 |agg cs=>
  simp only[ro,vlF,List.all_map]
  congr 1;funext y;exact qhu y
 |_=>rfl
theorem qe1{R:Orc}(hR:kV c R)(hI:Inv G w st a.tmps)(hd:jJ o a)(h:Nat){ti:TI}{f:FuncId}{caps:List AV}{cvs:List Value}{xs:List Operand}{r:SV×BE×Hp}
 (hr:je c R h ti f caps (xs.map (zy st.sl)) st.hp k3=some r) (hcl:caps.length=cvs.length) (hcaps:∀(i:Nat) (x:AV) (v:Value),caps[i]?=some x->cvs[i]?=some v->RelR G w x v)
 (h4:h≠4) (hdn:qF h o st.sl=st.sl) (hexec:(execOp a.eval o).run c.P w= .ok (.enter f (xs.map a.eval++cvs).toArray) w):o.wp c.P a w (jx G w a (after h o st r.1 r.2.1 r.2.2)) Q:=by
 unfold je at hr
 obtain⟨ys,hys,hr⟩:=bsm hr
 have hfr:Fr G w (G.rel (xv h)) w:=Fr.rel (wQ h)
 obtain⟨hl,hargs⟩:=wz hI hys
 have hA:∀(i:Nat) (x:AV) (v:Value),(ys.map ro++caps)[i]?=some x->(xs.map a.eval++cvs)[i]?=some v->YS (G.rel (xv h)) w x v:=by
  intro i x v hx hv p
  by_cases hi:i<ys.length
  ·rw[zg0 (by simpa using hi)]at hx
   rw[zg0 qh]at hv
   obtain⟨y,hy,rfl⟩:=qv _ _ _ _ hx
   obtain⟨q,hq,hrel⟩:=hargs i y hy
   rw[zgx,hq]at hv
   cases hv
   exact zj.ro hfr.ev p hrel
  ·rw[zgv qh]at hx
   rw[zgv qh]at hv
   simp only[zhv,<-hl]at hx hv
   exact(((hcaps _ x v hx hv).ev hfr.ev).c (p 0)).v
 have hlen:(ys.map ro++caps).length=(xs.map a.eval++cvs).length:=by simp[hl,hcl]
 split at hr
 ·rename_i h2
  obtain⟨⟨y,hp'⟩,hrun,hr⟩:=bsm hr
  rw[jm]at hr
  obtain⟨s,hs,hr⟩:=bsm hr
  cases hr
  unfold Oper.wp
  rw[hexec,Oper.upon_enter]
  refine(hR f _ _ y hp' hrun _ w _ (hI.hpI.rel (wQ h) (by simp[xv,jA,h2]) (by simp[xv,jA,h2])) hlen hA).mono fun e w' hg=>?_
  obtain⟨v,G',rfl,hf,hH',hres⟩:=hg
  obtain⟨h1,h3⟩:=qem hs hres
  exact qgu hI h h2 hdn hd hf hH' h1 h3
 ·rename_i h2
  obtain⟨_,hvl,hr⟩:=bsm hr
  obtain⟨hv1,hv2⟩:=zL hvl
  obtain⟨⟨y,hp'⟩,hrun,hr⟩:=bsm hr
  obtain⟨_,hvy,hr⟩:=bsm hr
  have hvy:=zL hvy
  rw[jm]at hr
  obtain⟨s,hs,hr⟩:=bsm hr
  cases hr
  have hA':∀(i:Nat) (x:AV) (v:Value),(ys.map ro++caps)[i]?=some x->(xs.map a.eval++cvs)[i]?=some v->YS (G.bare (xv h)) w x v:=by
   intro i x v hx hv p
   have hxm:=zgo hx
   have hvx:vlF x=true:=by
    rcases zg1.mp hxm with hm|hm
    ·obtain⟨y,hy,rfl⟩:=zg6.mp hm
     rw[zaw]
     exact zg9.mp hv1 y hy
    ·have:=zg9.mp hv2 x hm
     cases x<;>first|exact this|cases this
   exact zj.evl (G:=G.rel (xv h)) (G':=G.bare (xv h)) (p:=p) (q:=p) ⟨fun _ _ _=>rfl,fun _=>zgm _⟩ (fun i b hb=>⟨rfl,rfl,hb⟩) (hA i x v hx hv p) hvx
  unfold Oper.wp
  rw[hexec,Oper.upon_enter]
  refine(hR f _ _ y hp' hrun _ w _ (hI.hpI.pure (wQ h)) hlen hA').mono fun e w' hg=>?_
  obtain⟨v,G',rfl,hf,hH',hres⟩:=hg
  obtain⟨h1,h3⟩:=qnk hs hres hvy
  exact qo7 hI h h2 hdn hd hf hH' h1 h3
theorem qb9{P:Program}{f:FuncId}{fn:Func}(hf:P.funcs[f]?=some fn) (hn:(fn.name== "runtime.NumGoroutine")=false) {b:Code} (hb:fn.body=some b) (args:Array Value) (w:World):
 (callFunc f args).run P w= .ok (.enter f args) w:=by
 have hn':¬fn.name= "runtime.NumGoroutine" :=by simpa using hn
 simp[callFunc,hf,hn',hb]
theorem qe2{R:Orc}(hR:kV c R)(hI:Inv G w st a.tmps)(hd:jJ o a){ti:TI}{f:FuncId}{caps:List AV}{cvs:List Value}{xs:List Operand}{r:SV×BE×Hp}
 (hr:je c R 4 ti f caps (xs.map (zy st.sl)) st.hp k3=some r) (hcl:caps.length=cvs.length) (hcaps:∀(i:Nat) (x:AV) (v:Value),caps[i]?=some x->cvs[i]?=some v->RelR G w x v)
 (hdn:qF 4 o st.sl=st.sl) (hdn2:qF 2 o st.sl=st.sl) (hexec:(execOp a.eval o).run c.P w= .ok (.enter f (cvs++xs.map a.eval).toArray) w):o.wp c.P a w (jx G w a (after 4 o st r.1 r.2.1 r.2.2)) Q:=by
 unfold je at hr
 obtain⟨ys,hys,hr⟩:=bsm hr
 have hfr:Fr G w (G.rel (xv 2)) w:=Fr.rel (wQ 2)
 obtain⟨hl,hargs⟩:=wz hI hys
 have hA:∀(i:Nat) (x:AV) (v:Value),(caps++ys.map ro)[i]?=some x->(cvs++xs.map a.eval)[i]?=some v->YS (G.rel (xv 2)) w x v:=by
  intro i x v hx hv p
  by_cases hi:i<caps.length
  ·rw[zg0 hi]at hx
   rw[zg0 qc]at hv
   exact(((hcaps _ x v hx hv).ev hfr.ev).c (p 0)).v
  ·rw[zgv qc]at hx
   rw[zgv qc]at hv
   rw[hcl]at hx
   obtain⟨y,hy,rfl⟩:=qv _ _ _ _ hx
   obtain⟨q,hq,hrel⟩:=hargs _ y hy
   rw[zgx,hq]at hv
   cases hv
   exact zj.ro hfr.ev p hrel
 have hlen:(caps++ys.map ro).length=(cvs++xs.map a.eval).length:=by simp[hl,hcl]
 rw[if_neg qg,if_pos rfl]at hr
 obtain⟨⟨y,hp'⟩,hrun,hr⟩:=bsm hr
 rw[jm]at hr
 obtain⟨s,hs,hr⟩:=bsm hr
 cases hr
 unfold Oper.wp
 rw[hexec,Oper.upon_enter]
 refine(hR f _ _ y hp' hrun _ w _ (hI.hpI.rel (wQ 2) (by simp[xv,jA]) (by simp[xv,jA])) hlen hA).mono fun e w' hg=>?_
 obtain⟨v,G',rfl,hf,hH',hres⟩:=hg
 obtain⟨h1,h3⟩:=qem hs hres
 have:=qgu hI 2 rfl hdn2 hd hf hH' h1 h3
 have e:after 4 o st s none hp'=after 2 o st s none hp':=by unfold after;rw[hdn,hdn2]
 rw[e]
 exact this
end
section
variable {c:Cx}{G:Gh}{w w':World}{st:St}{a:Act}{o:Oper}{Q:Exit->Act->World->Prop}
theorem Jn(hI:Inv G w st a.tmps)(h:Nat)(ts:List Nat)(ho:qF h o st.sl=qG ts st.sl)(hd:jJ o a){blk:Nat}{p0:Ow}(hom:G.Om blk=p0)
 (hp0:(∃t∈ts,p0= .sl t 0 0)\/(∃b g,p0= .obj b g)) (hib:G.I blk=0) {arr:Array Value} {e:TypeId} (hw:Wr w w' blk arr e) {cs:List AV} (hlen:cs.length<=arr.size)
 (hrel:∀(i:Nat) (x:AV) (u:Value),cs[i]?=some x->arr[i]?=some u->RelR G w x u) {s:SV} {v:Value}
 (hs:∀G',G'.mu st.hp.next 0=some blk->∀k,qL G' w' k s v) (hsl:∀k g off,s≠ .lp k g off) {hp1:Hp} (hn:hp1.next=st.hp.next)
 (hg1:∀b g cs,hp1.get b=some (g,cs)->st.hp.get b=some (g,cs)/\Ow.obj b g≠p0):
 jx G w a (after h o st s none (hp1.new cs)) (a.put o.dst v) w':=by
 have hfr:p0≠ .fr:=by rcases hp0 with⟨t,_,rfl⟩|⟨b,g,rfl⟩<;>simp
 have hoth:p0≠ .oth:=by rcases hp0 with⟨t,_,rfl⟩|⟨b,g,rfl⟩<;>simp
 have hbox:∀k g,p0≠ .box k g:=by rcases hp0 with⟨t,_,rfl⟩|⟨b,g,rfl⟩<;>simp
 have hbc:∀k g i,p0≠ .bc k g i:=by rcases hp0 with⟨t,_,rfl⟩|⟨b,g,rfl⟩<;>simp
 have hoc:∀k g i,p0≠ .oc k g i:=by rcases hp0 with⟨t,_,rfl⟩|⟨b,g,rfl⟩<;>simp
 have hlt:blk<w.heap.size:=hI.lt hom hfr
 let mu:Nat->Nat->Option Nat:=fun b g=>if b=st.hp.next/\g=0 then some blk else G.mu b g
 let G':Gh:=⟨fun x=>if x=blk then .obj st.hp.next 0 else G.Om x,G.I,mu,G.la⟩
 have hmu:∀b g x,G.mu b g=some x->mu b g=some x:=by
  intro b g x hx
  have hne:¬(b=st.hp.next/\g=0):=by
   rintro⟨rfl,rfl⟩
   rw[hI.next _ 0 (zgm _)]at hx;cases hx
  simp[mu,hne,hx]
 have hf:Fr G w G' w':={
  size:=by rw[hw.size];exact zgm _
  cells:=fun x i hi=>by
   by_cases ex:x=blk
   ·subst ex;rw[hib]at hi;omega
   ·exact yA (hw.other x ex) i
  imm:=fun x=>zgm _
  mu:=hmu
  rest:=hw.rest
  same:=fun x hx ho'=>by
   have hne:x≠blk:=by
    rintro rfl
    rcases ho' with h'|h'<;>rw[hom]at h'
    ·exact hfr h'
    ·exact hoth h'
   exact⟨hw.other x hne,by simp[G',hne],rfl⟩
  bs:=fun x z hz=>by
   by_cases ex:x=blk
   ·subst ex;exact hw.sz z hz
   ·rw[Zj (hw.other x ex)];exact hz}
 have hk:∀p,p≠p0->zq G w G' w' p p:=by
  intro p hp x hx
  have hne:x≠blk:=by rintro rfl;rw[hom]at hx;exact hp hx.symm
  exact⟨hw.other x hne,rfl,by simp[G',hne,hx]⟩
 have hI2:Inv G' w' ⟨qG ts st.sl,st.bx,hp1.new cs⟩ a.tmps:={
  slots:=fun j=>by
   show qL G' w' j (qE (qG ts st.sl) j) _
   rw[zo]
   split
   ·exact qL.ro hf.ev (k:=j) j (fun _ _ _ _ _ h=>h) (hI.slots j)
   ·rename_i hne
    refine qL.ev hf.ev (fun j' i=>hk _ ?_) (fun _ _ _ _ _ h=>h) (hI.slots j)
    rcases hp0 with⟨t,ht,rfl⟩|⟨b,g,rfl⟩
    ·intro e';cases e';exact hne ht
    ·simp
  boxes:=fun j g cs' h'=>by
   obtain⟨bk,h1,h2,h3⟩:=hI.boxes j g cs' h'
   have hne:bk≠blk:=by rintro rfl;rw[hom]at h2;exact hbox _ _ h2
   exact⟨bk,h1,by simp[G',hne,h2],h3.ev hf.ev (hw.other _ hne) fun i=>hk _ (fun e=>hbc _ _ _ e.symm)⟩
  heap:=fun k g cs' hg=>by
   have hg':(if k=hp1.next then some (0,cs)else hp1.get k)=some (g,cs'):=hg
   rw[hn]at hg'
   split at hg'
   ·rename_i e;subst e
    cases hg'
    refine⟨blk,by simp[G',mu],by simp[G'],?_⟩
    show yL G' w' blk _ cs
    refine⟨arr,_,hw.at_,hlen,fun i x u hx hu=>?_⟩
    exact((hrel i x u hx hu).ev hf.ev).c _
   ·rename_i hne
    obtain⟨a1,a2⟩:=hg1 _ _ _ hg'
    obtain⟨bk,h1,h2,h3⟩:=hI.heap k g cs' a1
    have hne2:bk≠blk:=by rintro rfl;rw[hom]at h2;exact a2 h2.symm
    have hne':¬(k=st.hp.next/\g=0):=fun e=>hne e.1
    exact⟨bk,by simp[G',mu,hne',h1],by simp[G',hne2,h2],h3.ev hf.ev (hw.other _ hne2) fun i=>hk _ (fun e=>hoc _ _ _ e.symm)⟩
  next:=fun b g hb=>by
   have hb':hp1.next+1<=b:=hb
   have hne:¬(b=st.hp.next/\g=0):=fun e=>qc
   show mu b g=none
   simp only[mu,hne,if_false]
   exact hI.next b g qc
  hlt:=fun b g cs' hg=>by
   have hg':(if b=hp1.next then some (0,cs)else hp1.get b)=some (g,cs'):=hg
   show b<hp1.next+1
   split at hg'
   ·omega
   ·have:=hI.hlt b g cs' (hg1 _ _ _ hg').1;omega
  new:=fun x hx=>by
   rw[hw.size]at hx
   have hne:x≠blk:=qc
   simp only[G',hne,if_false]
   exact hI.new x hx
  vars:=fun x hx=>by
   by_cases hne:x=blk
   ·subst hne;exact hib
   ·simp only[G',hne,if_false]at hx
    exact hI.vars x hx
  lps:=fun i j g off e'=>by
   have e'':qE (qG ts st.sl) i= .lp j g off:=e'
   rw[zo]at e''
   split at e''
   ·exact hI.lps i j g off (ZI.mp e'')
   ·exact hI.lps i j g off e''}
 refine⟨G',?_,hf,zb _ _ _,qI _ _ _⟩
 unfold after
 rw[ho]
 exact hI2.put o.dst hd (fun k _=>hs G' (by simp[G',mu]) k) (fun k g off e=>absurd e (hsl k g off))
theorem Kj{sz n:Nat}{cs:List AV}(h:0<sz)(hl:cs.length=n*sz):wa sz cs=n:=by
 unfold wa
 split
 ·rename_i e;rw[hl,e,zhu]
 ·rw[hl];exact Nat.mul_div_cancel n h
theorem Xm{hp:Hp}{b j g:Nat}{cs:List AV}(h:(hp.del b).get j=some (g,cs)):hp.get j=some (g,cs)/\j≠b:=by
 have h':(if j=b then none else hp.get j)=some (g,cs):=h
 split at h'
 ·cases h'
 ·exact⟨h',by assumption⟩
theorem qx9(hc:Ok c)(hI:Inv G w st a.tmps)(hd:jJ o a)(h:Nat){cl:Call}(hop:o.op= .call cl)(hcl:cl.callee= .builtin .append){x y:Operand}(hargs:cl.args=#[x,y]) {t:TypeId} (hts:cl.argTypes=#[t,t])
 {ti ei:TI} {e:TypeId} (hti:c.tn t=some ti) (hk:ti.k= .sl e) (hei:c.tn e=some ei) {d' s':AV} (hx:toA (zy st.sl x)=some d') (hy:toA (zy st.sl y)=some s') {r:AV×Hp}
 (hr:zV ei.bytes ei.size d' s' st.hp=some r):o.wp c.P a w (jx G w a (after h o st (.av r.1) none r.2)) Q:=by
 have hdn:qF h o st.sl=qG (zF [x,y]) st.sl:=by simp[qF,qN,hop,hcl,hargs]
 obtain⟨dd,hd1,hd2⟩:=(hc.tt t ti (qs hti).1).und
 rw[hk]at hd2
 have hd2:dd= .slice e:=hd2
 subst hd2
 obtain⟨i,zv,hi1,hi4,hi2,hi5,hi6,hi7,_⟩:=(hc.tt e ei (qs hei).1).info (qs hei).2
 have hdr:=xk (wo hI x) hx
 have hsr:=xk (wo hI y) hy
 have hrun:∀(v:Value) (w':World),(Builtin.append_ #[t,t] o.type #[a.eval x,a.eval y]).run c.P w= .ok v w'->(execOp a.eval o).run c.P w= .ok (.value v) w':=by
  intro v w' hr
  rw[jZ hcl hop rfl,hargs,hts]
  simp only[Go.builtin,List.map_toArray,zhc,ziv]
  rw[Sem.run_bind,hr];rfl
 unfold zV at hr
 obtain⟨ys,hys,hr⟩:=bsm hr
 have hsrc:=zbb hI (p:=fun i=>.sl (wn y) 0 i) hsr hys
 split at hr
 ·--nothing is put behind
  split at hr
  ·rename_i b g off n z _
   obtain⟨_,_,hr⟩:=bsm hr
   cases hr
   have hdr':RelR G w (.ms b g off n z) (a.eval x):=hdr
   obtain⟨blk,cap,off',z',m1,m2,m4,m3,m5,m6⟩:=qep (p:=fun i=>.sl (wn x) 0 i) hdr
   have hr':(execOp a.eval o).run c.P w= .ok (.value (a.eval x)) w:=by
    refine hrun _ _ ?_
    rcases hsrc with⟨hs,_⟩|⟨B,m,c',hs,e2,e3,_⟩
    ·rw[m3,hs];exact ZG t o.type e i hd1 hi1 _ n cap m2 w
    ·have hm:m=0:=by
      rcases zi9 m with h|h
      ·exact h
      ·have:=zj1 h e2;simp at e3;omega
     subst hm
     rw[m3,hs];exact ZF t o.type e i hd1 hi1 _ n cap m2 B c' w
   refine qw hr' ?_
   exact qD hI h (by simp[qF,hop]) hd (fun k=>hdr'.s k) (fun _ _ _ e=>by cases e)
  ·obtain⟨z,hz,hr⟩:=bsm hr
   cases hr
   exact qcn hc hI hd h hop hcl hargs hts hti hk hei hx hsrc (fun e=>absurd rfl e) hz
 ·rename_i y0 ys
  have hsrc0:=hsrc
  rcases hsrc with⟨_,e0⟩|⟨B,m,c',hs,hsz,hlen,hform⟩
  ·cases e0
  have hm:0<m:=by
   rcases zi9 m with h|h
   ·subst h;simp at hlen
   ·exact h
  obtain⟨vs,hvl,hnews,hrel⟩:=hform hm
  have h1:∀u∈vs,u.oneCell'=true:=by
   intro u hu
   obtain⟨k,hk',rfl⟩:=zjq hu
   have hk2:k<(y0::ys).length:=by rw[<-hvl];exact hk'
   exact(hrel k (y0::ys)[k] vs[k] (zgl hk2) (zgl hk')).one
  have hnl:vs.length=m*i.size:=by rw[hvl,hlen,hi4]
  have hmany:wa ei.size (y0::ys)=m:=Kj hsz hlen
  have hzs:zv.cells.size=ei.size:=by rw[<-hi7,<-hi6];simp
  have need:∀n,jP ei.bytes ei.size (n*ei.size+(y0::ys).length)=true->(n+m)*i.bytes<=140737488355328/\((n+m:Nat):Int)<=9223372036854775807:=by
   intro n hfit
   obtain⟨hf1,hf2⟩:=Qm hfit
   have hneed:(n+m)*i.bytes<=140737488355328:=by
    rw[hi2]
    rw[hlen,<-Nat.add_mul,zic,zhe ei.size,<-Nat.mul_assoc]at hf1
    exact zjm hf1 hsz
   have:n+m<=(n+m)*i.bytes:=zi8 _ (by rw[hi2];exact hf2)
   exact⟨hneed,qc⟩
  --a new row
  have fin:∀(w':World) (arr:Array Value) (N C:Nat) (cs':List AV) (hp1:Hp),New w w' (.cells arr e (0,0))->arr.size=C*ei.size->N<=C->cs'.length=N*ei.size->
   (∀(k:Nat) (z:AV) (u:Value),cs'[k]?=some z->arr[k]?=some u->RelR G w z u)->hp1.next=st.hp.next->(∀b g cs,hp1.get b=some (g,cs)->st.hp.get b=some (g,cs))->
   jx G w a (after h o st (.av (.ms st.hp.next 0 0 N ei.size)) none (hp1.new cs')) (a.put o.dst (.slice (some ⟨w.heap.size,0,none⟩) N C)) w':=by
   intro w' arr N C cs' hp1 hnew has hNC hcl hr hn hg
   refine qgr hI h _ hdn hd hnew (by rw[has,hcl];exact zgz _ hNC) hr (fun G' hG k=>?_) (fun _ _ _ e=>by cases e) hn hg
   exact RelR.ms _ _ _ _ _ _ _ _ _ hG hNC (fun _=>rfl) (jG hnew.at) (by rw[has];omega)
  --the cells of a grown row
  have grown:∀(olds:List Value) (n C:Nat) (os:List AV),olds.length=n*ei.size->os.length=olds.length->n+m<=C->(∀(k:Nat) (z:AV) (u:Value),os[k]?=some z->olds[k]?=some u->RelR G w z u)->
   (olds.toArray++vs.toArray++Builtin.zeroCells zv.cells (C-(n+m))).size=C*ei.size/\
   ∀(k:Nat) (z:AV) (u:Value),(os++(y0::ys))[k]?=some z->(olds.toArray++vs.toArray++Builtin.zeroCells zv.cells (C-(n+m)))[k]?=some u->RelR G w z u:=by
   intro olds n C os hlo hol hC hor
   refine⟨?_,fun k z u hz hu=>?_⟩
   ·rw[zii,zii,zg7,zg7,size_zeroCells,hlo,hnl,hi4,hzs,<-Nat.add_mul,<-Nat.add_mul]
    congr 1;omega
   ·have hsz2:(olds.toArray++vs.toArray).size=olds.length+vs.length:=qf
    have hklt:k<(os++(y0::ys)).length:=(zgq.mp hz).1
    rw[zgi,hol,<-hvl]at hklt
    rw[zhy (by rw[hsz2];exact hklt)]at hu
    have hu':(olds++vs)[k]?=some u:=by rw[<-hu];simp
    by_cases hk1:k<olds.length
    ·rw[zg0 qc]at hz
     rw[zg0 hk1]at hu'
     exact hor k z u hz hu'
    ·rw[zgv qc,hol]at hz
     rw[zgv qc]at hu'
     exact hrel _ z u hz hu'
  split at hr
  ·--an owned slice without elements
   rename_i sz
   obtain⟨_,hcond,hr⟩:=bsm hr
   obtain⟨hzz,hfit⟩:=zL hcond
   cases hr
   subst hzz
   obtain⟨b,hom,ht⟩:=hdr
   have hxt:x= .tmp (wn x):=by
    cases x with
    |tmp t=>rfl
    |const v=>
     simp only[zy]at hx
     split at hx
     ·split at hx<;>simp[toA]at hx
     ·cases hx
     ·cases hx
    |global g=>cases hx
    |func f=>cases hx
   obtain⟨n,cap,arr,e',t1,t2,t3,t4,t5,t6,t7,t8⟩:=ht.ex
   have hn0:n=0:=by
    rcases zi9 n with h|h
    ·exact h
    ·have:=zj1 h t2;simp at t3;omega
   subst hn0
   obtain⟨hneed,h63⟩:=need 0 (by simpa using hfit)
   have hmem:wn x∈zF [x,y]:=by rw[hxt];simp[zF,wn]
   have hib:G.I b=0:=by rw[t5];simp
   rw[hmany]
   by_cases hroom:0+m<=cap
   ·have hfit':0*i.size+vs.length<=arr.size:=by rw[hnl,hi4,t7,<-Nat.add_mul];exact zgz _ hroom
    have hrr':=vy (P:=c.P) t o.type e e' i hd1 hi1 b 0 cap arr t6 B m c' vs hnl hnews h1 hroom hfit'
    have hwr:=vc w t6 hfit'
    have hbs:KQ w b=some (cap*ei.size):=by rw[jG t6,t7]
    rw[zha]at hrr'
    refine qw (hrun _ _ (by rw[t1,hs];exact hrr')) ?_
    refine Jn hI h _ hdn hd hom (.inl ⟨wn x,hmem,rfl⟩) hib hwr ?_ (fun k z u hz hu=>?_) (fun G' hG k=>?_) (fun _ _ _ e=>by cases e) rfl (fun b' g' cs' hg=>⟨hg,qf⟩)
    ·have h2:0*i.size+vs.length<=arr.toList.length:=by rw[zho];exact hfit'
     simp only[zg7,zgi,zhj,zi4]
     omega
    ·have hg:=yO arr.toList vs (0*i.size) (by rw[zho];exact hfit') k
     have hklt:k<(y0::ys).length:=(zgq.mp hz).1
     rw[if_pos qc]at hg
     have hu':vs[k-0*i.size]?=some u:=by rw[<-hg];simpa using hu
     rw[zh7,Nat.sub_zero]at hu'
     exact hrel k z u hz hu'
    ·exact RelR.ms _ _ _ _ _ _ _ _ _ hG qc (fun _=>rfl) (hwr.sz _ hbs) qc
   ·have hrr':=run_append_grow (P:=c.P) w t o.type e i zv hd1 hi1 hi5 ⟨b,0,none⟩ 0 cap [] qf qf B m c' vs hnl hnews qc h63 (growslice_fits qc qc)
    have hge:=grownCap_ge w (0+m) cap e
    obtain⟨g1,g2⟩:=grown [] 0 (grownCap w (0+m) cap e) [] qf rfl hge qf
    simp only[zha]at hrr' g1 g2 hge
    refine qw (hrun _ _ (by rw[t1,hs];exact hrr')) ?_
    exact fin _ _ m _ (y0::ys) st.hp ⟨rfl,rfl,rfl,rfl⟩ g1 hge hlen g2 rfl (fun _ _ _ h=>h)
  ·--an owned slice with elements
   obtain⟨_,hcond,hr⟩:=bsm hr
   obtain⟨z,hz,hr⟩:=bsm hr
   cases hr
   exact qcn hc hI hd h hop hcl hargs hts hti hk hei hx hsrc0 (fun _ x hx=>zg9.mp (qe5 hcond) x hx) hz
  ·--nil
   rename_i v
   obtain⟨_,hcond,hr⟩:=bsm hr
   obtain⟨hnil,hfit⟩:=zL hcond
   cases hr
   have:=xV hnil
   subst this
   obtain⟨hneed,h63⟩:=need 0 (by simpa using hfit)
   have hdr':RelR G w (.sc (.slice none 0 0)) (a.eval x):=hdr
   have hxe:a.eval x= .slice none 0 0:=by
    generalize a.eval x=v at hdr'
    cases hdr';rfl
   rw[zha]at hneed h63
   have hrr':=run_append_nil (P:=c.P) w t o.type e i zv hd1 hi1 hi5 B m c' vs hnl hnews hm h63 qc
   have hge:=grownCap_ge w m 0 e
   rw[hmany]
   refine qw (hrun _ _ (by rw[hxe,hs];exact hrr')) ?_
   refine fin _ _ m _ (y0::ys) st.hp ⟨rfl,rfl,rfl,rfl⟩ ?_ hge hlen (fun k z u hz hu=>?_) rfl (fun _ _ _ h=>h)
   ·rw[zii,zg7,size_zeroCells,hnl,hi4,hzs,<-Nat.add_mul]
    congr 1;omega
   ·have hklt:k<(y0::ys).length:=(zgq.mp hz).1
    rw[<-hvl]at hklt
    rw[zhy (by simpa using hklt)]at hu
    exact hrel k z u hz (by simpa using hu)
  ·--a slice that may be written
   rename_i b g off n sz _
   obtain⟨_,hcond,hr⟩:=bsm hr
   obtain⟨hzz,hoff,hn⟩:=zL hcond
   obtain⟨cs,hcs,hr⟩:=bsm hr
   obtain⟨_,hcond2,hr⟩:=bsm hr
   obtain⟨hle,hfit⟩:=zL hcond2
   cases hr
   subst hzz
   subst hoff
   obtain⟨hneed,h63⟩:=need n hfit
   obtain⟨blk,cap,off',z,m1,m2,m4,m3,m5,m6⟩:=qep (p:=fun i=>.sl (wn x) 0 i) hdr
   have hoff:=m4 hn
   subst hoff
   obtain⟨hget,hg0⟩:=vC hcs
   obtain⟨blk',b1,b2',b3⟩:=hI.heap b g cs hget
   rw[m1]at b1;cases b1
   obtain⟨arr,e',c1,c2,c3⟩:=xU b3 hg0
   have hib:G.I blk=0:=hI.vars blk (.inr ⟨b,g,b2'⟩)
   rw[jG c1]at m5
   have m5:arr.size=z:=zgy m5
   rw[hmany]
   have hold:∀(k:Nat) (z:AV) (u:Value),((cs.take (n*ei.size)).map ro1)[k]?=some z->arr[k]?=some u->RelR G w z u:=by
    intro k z u hz hu
    obtain⟨q,hq,rfl⟩:=qv _ _ _ _ hz
    rw[zgt]at hq
    split at hq
    ·exact(c3 k q u hq hu).ro
    ·cases hq
   have hol:((cs.take (n*ei.size)).map ro1).length=n*ei.size:=qh
   by_cases hroom:n+m<=cap
   ·have hcap:(n+m)*ei.size<=arr.size:=by
     have:=zgz ei.size hroom
     omega
    have hfit':n*i.size+vs.length<=arr.size:=by rw[hnl,hi4,<-Nat.add_mul];exact hcap
    have hrr':=vy (P:=c.P) t o.type e e' i hd1 hi1 blk n cap arr c1 B m c' vs hnl hnews h1 hroom hfit'
    have hwr:=vc w c1 hfit'
    refine qw (hrun _ _ (by rw[m3,hs];exact hrr')) ?_
    refine Jn hI h _ hdn hd b2' (.inr ⟨b,g,rfl⟩) hib hwr ?_ (fun k z u hz hu=>?_) (fun G' hG k=>?_) (fun _ _ _ e=>by cases e) rfl (fun b' g' cs' hg=>?_)
    ·have h2:n*i.size+vs.length<=arr.toList.length:=by rw[zho];exact hfit'
     rw[hi4]at h2⊢
     simp only[zg7,zgi,zhj,zi4,zhv]
     omega
    ·have hg:=yO arr.toList vs (n*i.size) (by rw[zho];exact hfit') k
     have hklt:k<((cs.take (n*ei.size)).map ro1++(y0::ys)).length:=(zgq.mp hz).1
     rw[zgi,hol]at hklt
     have hu':(List.take (n*i.size) arr.toList++vs++List.drop (n*i.size+vs.length) arr.toList)[k]?=some u:=by simpa using hu
     rw[hg,hi4]at hu'
     by_cases hk1:k<n*ei.size
     ·rw[zg0 (by rw[hol];exact hk1)]at hz
      rw[if_neg qc]at hu'
      exact hold k z u hz (by simpa using hu')
     ·rw[zgv (by rw[hol];omega),hol]at hz
      rw[if_pos qc]at hu'
      exact hrel _ z u hz hu'
    ·exact RelR.ms _ _ _ _ _ _ _ _ _ hG qc (fun _=>rfl) (hwr.sz _ (by rw[jG c1])) qc
    ·obtain⟨d1,d2⟩:=Xm hg
     exact⟨d1,fun e=>d2 (by cases e;rfl)⟩
   ·have hlo:(arr.toList.take (n*ei.size)).length=n*i.size:=by rw[zhj,hi4,zho];omega
    have holds:∀j u,(arr.toList.take (n*ei.size))[j]?=some u->w.cell? ((⟨blk,0,none⟩:Addr).add j)=some u:=by
     intro j u hu
     rw[qT,zha,qX c1]
     rw[zgt]at hu
     split at hu
     ·simpa using hu
     ·cases hu
    have hrr':=run_append_grow (P:=c.P) w t o.type e i zv hd1 hi1 hi5 ⟨blk,0,none⟩ n cap _ hlo holds B m c' vs hnl hnews qc h63 (growslice_fits qc qc)
    have hge:=grownCap_ge w (n+m) cap e
    rw[hi4]at hlo
    obtain⟨g1,g2⟩:=grown (arr.toList.take (n*ei.size)) n (grownCap w (n+m) cap e) ((cs.take (n*ei.size)).map ro1) hlo (by rw[hol,hlo]) hge (fun k z u hz hu=>by
     rw[zgt]at hu
     split at hu
     ·exact hold k z u hz (by simpa using hu)
     ·cases hu)
    refine qw (hrun _ _ (by rw[m3,hs];exact hrr')) ?_
    exact fin _ _ (n+m) _ _ (st.hp.del b) ⟨rfl,rfl,rfl,rfl⟩ g1 hge (by rw[zgi,hol,hlen,<-Nat.add_mul]) g2 rfl (fun b' g' cs' hg=>(Xm hg).1)
  ·cases hr
end
def qaj(q:Ow):Prop:=∀b g,q≠ .obj b g
section
variable {c:Cx}{G:Gh}{w w':World}{st:St}{a:Act}{o:Oper}{Q:Exit->Act->World->Prop}
theorem qly{t:Array Value}{sl:Slots}{bx:Boxes}{hp hp':Hp}{x x':AV}(hI:Inv G w ⟨sl,bx,hp⟩ t)(hx:we hp x=some (x',hp')):
 ∃G',Fr G w G' w/\Inv G' w ⟨sl,bx,hp'⟩ t/\(∀q,qaj q->zq G w G' w q q)/\∀p v,qaj p->jt G w p x v->jt G' w p x' v:=by
 unfold we at hx
 split at hx
 ·rename_i b g off n z
  obtain⟨_,hz,hx⟩:=bsm hx
  obtain⟨cs,hcs,hx⟩:=bsm hx
  obtain⟨l,hl,hx⟩:=bsm hx
  obtain⟨_,hv,hx⟩:=bsm hx
  cases hx
  have hz:=zL hz
  have hv:=zL hv
  obtain⟨hget,hg0⟩:=vC hcs
  obtain⟨blk,b1,b2,b3⟩:=hI.heap b g cs hget
  obtain⟨arr,e,c1,c2,c3⟩:=xU b3 hg0
  have hib:G.I blk=0:=hI.vars blk (.inr ⟨b,g,b2⟩)
  have hlt:blk<w.heap.size:=(zh4.mp c1).1
  let G':Gh:=⟨fun y=>if y=blk then .oth else G.Om y,fun y=>if y=blk then cs.length else G.I y,G.mu,G.la⟩
  have hf:Fr G w G' w:={
   size:=zgm _
   cells:=fun _ _ _=>rfl
   imm:=fun y=>by
    simp only[G']
    split
    ·rename_i e;subst e;rw[hib];omega
    ·exact zgm _
   mu:=fun _ _ _ h=>h
   rest:=Zm.refl w
   bs:=fun _ _ h=>h
   same:=fun y hy ho=>by
    have hne:y≠blk:=by rintro rfl;rcases ho with h|h<;>rw[b2]at h<;>cases h
    exact⟨rfl,by simp[G',hne],by simp[G',hne]⟩}
  have hk:∀q,qaj q->zq G w G' w q q:=by
   intro q hq y hy
   have hne:y≠blk:=by rintro rfl;rw[b2]at hy;exact hq _ _ hy.symm
   exact⟨rfl,by simp[G',hne],by simp[G',hne,hy]⟩
  refine⟨G',hf,?_,hk,fun p v hp h=>?_⟩
  ·exact{
    slots:=fun j=>qL.ev hf.ev (fun j' i=>hk _ (fun _ _ e=>by cases e)) (fun _ _ _ _ _ h=>h) (hI.slots j)
    boxes:=fun j g' cs' hb=>by
     obtain⟨bk,h1,h2,h3⟩:=hI.boxes j g' cs' hb
     have hne:bk≠blk:=by rintro rfl;rw[b2]at h2;cases h2
     exact⟨bk,h1,by simp[G',hne,h2],h3.ev hf.ev rfl fun i=>hk _ (fun _ _ e=>by cases e)⟩
    heap:=fun j g' cs' hb=>by
     obtain⟨d1,d2⟩:=Xm hb
     obtain⟨bk,h1,h2,h3⟩:=hI.heap j g' cs' d1
     have hne:bk≠blk:=by rintro rfl;rw[b2]at h2;cases h2;exact d2 rfl
     exact⟨bk,h1,by simp[G',hne,h2],h3.ev hf.ev rfl fun i=>hk _ (fun _ _ e=>by cases e)⟩
    next:=hI.next
    hlt:=fun j g' cs' hb=>hI.hlt j g' cs' (Xm hb).1
    new:=fun y hy=>by
     have hne:y≠blk:=qc
     simp only[G',hne,if_false]
     exact hI.new y hy
    vars:=fun y hy=>by
     by_cases hne:y=blk
     ·simp only[G',hne,if_true]at hy
      rcases hy with⟨_,_,hy⟩|⟨_,_,hy⟩<;>cases hy
     ·simp only[G',hne,if_false]at hy⊢
      exact hI.vars y hy
    lps:=hI.lps}
  ·have h':RelR G w (.ms b g off n z) v:=h
   show RelR G' w (.sl z (l.map ro1)) v
   cases h' with
   |ms _ _ _ _ _ cap blk' off' z' h2 h3 h4 h5 h6=>
   rw[b1]at h2;cases h2
   obtain⟨hle,rfl⟩:=zY hl
   by_cases hn:n=0
   ·subst hn
    rw[zh7]
    exact .sl0 z _ cap hz
   ·rw[h4 qc]
    have hll:(((cs.drop off).take (n*z)).map ro1).length=n*z:=qh
    refine .sl z _ n cap blk off ((arr.toList.drop off).take (n*z)) hz qc hll h3 (by simp[G'];omega) (by rw[hll];simp;omega) (fun k u hk'=>?_) (fun y hy=>?_) (fun k y u hy hu=>?_)
    ·rw[qX c1]
     rw[zgt]at hk'
     split at hk'
     ·rw[zhb]at hk';simpa using hk'
     ·cases hk'
    ·obtain⟨q,hq,rfl⟩:=zg6.mp hy
     rw[qhu];exact zg9.mp hv q hq
    ·obtain⟨q,hq,rfl⟩:=qv _ _ _ _ hy
     rw[zgt]at hq hu
     split at hq
     ·rename_i hlt'
      rw[if_pos hlt',zhb]at hu
      rw[zhb]at hq
      exact((c3 (off+k) q u hq (by simpa using hu)).ro).ev hf.ev
     ·cases hq
 ·cases hx
  exact⟨G,Fr.refl G w,hI,fun q _ b hb=>⟨rfl,rfl,hb⟩,fun p v _ h=>h⟩
theorem qlx{t:Array Value}{sl:Slots}{bx:Boxes}:∀{cs cs':List AV} {hp hp':Hp} {G:Gh},Inv G w ⟨sl,bx,hp⟩ t->YO hp cs=some (cs',hp')->
 ∃G',Fr G w G' w/\Inv G' w ⟨sl,bx,hp'⟩ t/\(∀q,qaj q->zq G w G' w q q)/\∀(p:Nat->Ow) (vs:List Value),(∀i,qaj (p i))->YQ G w p cs vs->YQ G' w p cs' vs
 |[],cs',hp,hp',G,hI,h=>by
  simp only[YO]at h;cases h
  exact⟨G,Fr.refl G w,hI,fun q _ b hb=>⟨rfl,rfl,hb⟩,fun p vs _ h=>h⟩
 |x::r,cs',hp,hp',G,hI,h=>by
  simp only[YO]at h
  obtain⟨q1,h1,h⟩:=bsm h
  obtain⟨q2,h2,h⟩:=bsm h
  cases h
  obtain⟨G1,f1,i1,k1,r1⟩:=qly hI h1
  obtain⟨G2,f2,i2,k2,r2⟩:=qlx i1 h2
  have kk:∀q,qaj q->zq G w G2 w q q:=fun q hq b hb=>by
   obtain⟨_,a2,a3⟩:=k1 q hq b hb
   obtain⟨_,b2,b3⟩:=k2 q hq b a3
   exact⟨rfl,b2.trans a2,b3⟩
  refine⟨G2,f1.trans f2,i2,kk,fun p vs hp hr=>?_⟩
  obtain⟨l1,l2⟩:=hr
  match vs,l1,l2 with
  |v::vs,l1,l2=>
   have hx:=r1 (p 0) v (hp 0) (l2 0 x v rfl rfl)
   have hx2:jt G2 w (p 0) q1.1 v:=hx.ev f2.ev (k2 _ (hp 0))
   have hrest:YQ G1 w (fun i=>p (i+1)) r vs:=⟨by simpa using l1,fun i y c hy hc=>(l2 (i+1) y c (by simpa using hy) (by simpa using hc)).ev f1.ev (k1 _ (hp _))⟩
   obtain⟨m1,m2⟩:=r2 (fun i=>p (i+1)) vs (fun i=>hp _) hrest
   refine⟨by simp[m1],fun i y c hy hc=>?_⟩
   cases i with
   |zero=>simp at hy hc;subst hy;subst hc;exact hx2
   |succ i=>exact m2 i y c (by simpa using hy) (by simpa using hc)
theorem qut{hp hp':Hp}{x y:AV}(hx:we hp x=some (y,hp'))(h:∀cs,x≠ .agg cs):∀cs,y≠ .agg cs:=by
 unfold we at hx
 split at hx
 ·obtain⟨_,hz,hx⟩:=bsm hx
  obtain⟨cs,hcs,hx⟩:=bsm hx
  obtain⟨l,hl,hx⟩:=bsm hx
  obtain⟨_,hv,hx⟩:=bsm hx
  cases hx
  intro cs e;cases e
 ·cases hx;exact h
theorem qy5{t:Array Value}{sl:Slots}{bx:Boxes}{hp hp':Hp}{k0:TK}{s s':SV}(hI:Inv G w ⟨sl,bx,hp⟩ t)(hx:qjp k0 hp s=some (s',hp')):
 ∃G',Fr G w G' w/\Inv G' w ⟨sl,bx,hp'⟩ t/\(∀k v,qL G w k s v->qL G' w k s' v)/\∀k g off,s'= .lp k g off->s= .lp k g off:=by
 unfold qjp at hx
 split at hx
 ·rename_i x
  split at hx
  ·obtain⟨cs,hcs,hx⟩:=bsm hx
   obtain⟨q,hq,hx⟩:=bsm hx
   cases hx
   have hxa:x= .agg cs:=by cases x<;>simp[Vf,qzx]at hcs;rw[hcs]
   subst hxa
   obtain⟨G',h1,h2,h3,h4⟩:=qlx hI hq
   refine⟨G',h1,h2,fun k v hr=>?_,fun _ _ _ e=>by cases e⟩
   obtain⟨vs,e1,e2,e3⟩:=hr
   obtain⟨m1,m2⟩:=h4 (.sl k 0 ·) vs (fun i b g e=>by cases e) ⟨e2,e3⟩
   exact⟨vs,e1,m1,m2⟩
  ·obtain⟨q,hq,hx⟩:=bsm hx
   cases hx
   rcases Zl x with⟨cs,rfl⟩|hna
   ·have hq':some (AV.agg cs,hp)=some q:=hq
    cases hq'
    exact⟨G,Fr.refl G w,hI,fun k v h=>h,fun _ _ _ e=>by cases e⟩
   ·obtain⟨G',h1,h2,h3,h4⟩:=qly hI hq
    refine⟨G',h1,h2,fun k v hr=>?_,fun _ _ _ e=>by cases e⟩
    have hr':zj G w (.sl k 0 ·) x v:=hr
    rw[xQ hna]at hr'
    show zj G' w (.sl k 0 ·) q.1 v
    rw[xQ (qut hq hna)]
    exact h4 _ v (fun b g e=>by cases e) hr'
 ·cases hx
  exact⟨G,Fr.refl G w,hI,fun k v h=>h,fun _ _ _ h=>h⟩
theorem Inv.reslot{t:Array Value}{sl:Slots}{bx:Boxes}{hp:Hp}{d:Option Nat}{s s':SV}(hI:Inv G w ⟨vD sl d s,bx,hp⟩ t)(hs:∀k,d=some k->qL G w k s' (t.getD k undef))
 (hl:∀k g off,s'= .lp k g off->s= .lp k g off):Inv G w ⟨vD sl d s',bx,hp⟩ t:=by
 cases d with
 |none=>exact hI
 |some d=>
  have key:∀k,d=k/\qE (vD sl (some d) s') k=s'/\qE (vD sl (some d) s) k=s\/qE (vD sl (some d) s') k=qE (vD sl (some d) s) k:=by
   intro k
   show d=k/\qE ((d,s')::sl) k=s'/\qE ((d,s)::sl) k=s\/qE ((d,s')::sl) k=qE ((d,s)::sl) k
   rw[za,za]
   by_cases e:d=k
   ·simp[e]
   ·simp[e]
  exact{
   slots:=fun k=>by
    rcases key k with⟨e0,e1,e2⟩|e
    ·show qL G w k (qE (vD sl (some d) s') k) _
     rw[e1]
     exact hs k (by rw[e0])
    ·show qL G w k (qE (vD sl (some d) s') k) _
     rw[e];exact hI.slots k
   boxes:=hI.boxes
   heap:=hI.heap
   next:=hI.next
   hlt:=hI.hlt
   new:=hI.new
   vars:=hI.vars
   lps:=fun j k g off h=>by
    have h':qE (vD sl (some d) s') j= .lp k g off:=h
    rcases key j with⟨_,e1,e2⟩|e
    ·rw[e1]at h'
     exact hI.lps j k g off (e2.trans (hl _ _ _ h'))
    ·rw[e]at h';exact hI.lps j k g off h'}
theorem qdi{h:Nat}{k0:TK}{s s':SV}{b:BE}{hp hp':Hp}{a':Act}(hA:jx G w a (after h o st s b hp) a' w')(hx:qjp k0 hp s=some (s',hp')):
 jx G w a (after h o st s' b hp') a' w':=by
 obtain⟨G',h1,h2,h3,h4⟩:=hA
 obtain⟨G2,f1,f2,f3,f4⟩:=qy5 (sl:=vD (qF h o st.sl) o.dst s) (bx:=(after h o st s b hp).bx) h1 hx
 refine⟨G2,?_,h2.trans f1,h3,h4⟩
 refine Inv.reslot f2 (fun k hk=>f3 k _ ?_) f4
 have:=h1.slots k
 have e:(after h o st s b hp).sl=(k,s)::qF h o st.sl:=by simp[after,vD,hk]
 rw[e,za,if_pos rfl]at this
 exact this
theorem qrm{sl:Slots}{bx:Boxes}{hp:Hp}{t:Array Value}(hI:Inv G w ⟨sl,bx,hp⟩ t){p:Nat->Ow}{sz:Nat}(hsz:0<sz){x:AV}{v:Value}{ys:List AV}(h:zj G w p x v)(hx:xm hp sz x=some ys):
 ∃(A:Option Addr) (m cap:Nat) (vs:List Value),v= .slice A m cap/\ys.length=m*sz/\vs.length=ys.length/\(0<m->∃B,A=some B/\∀(j:Nat) (u:Value),vs[j]?=some u->w.cell? (B.add j)=some u)/\
  ∀(k:Nat) (y:AV) (u:Value),ys[k]?=some y->vs[k]?=some u->RelR G w y u:=by
 unfold xm at hx
 split at hx
 ·rename_i q hq
  obtain⟨_,hz,hx⟩:=bsm hx
  obtain⟨cs,hcs,hx⟩:=bsm hx
  obtain⟨l,hl,hx⟩:=bsm hx
  cases hx
  have hz:=(zL hz).1
  have hy:=ka hq
  subst hy
  obtain⟨blk,cap,off',z,m1,m2,m4,m3,m5,m6⟩:=qep h
  obtain⟨hget,hg0⟩:=vC hcs
  obtain⟨blk',b1,b2,b3⟩:=hI.heap q.1 q.2.1 cs hget
  rw[m1]at b1;cases b1
  obtain⟨arr,e,c1,c2,c3⟩:=xU b3 hg0
  obtain⟨hle,rfl⟩:=zY hl
  have hll:(((cs.drop q.2.2.1).take (q.2.2.2.1*sz)).map ro1).length=q.2.2.2.1*sz:=qh
  refine⟨_,q.2.2.2.1,cap,(arr.toList.drop q.2.2.1).take (q.2.2.2.1*sz),m3,hll,by rw[hll];simp;omega,fun hpos=>⟨_,rfl,fun j u hu=>?_⟩,fun k y u hy hu=>?_⟩
  ·rw[m4 hpos,qT,qX c1]
   rw[zgt]at hu
   split at hu
   ·rw[zhb]at hu;simpa using hu
   ·cases hu
  ·obtain⟨q',hq',rfl⟩:=qv _ _ _ _ hy
   rw[zgt]at hq' hu
   split at hq'
   ·rename_i hlt'
    rw[if_pos hlt',zhb]at hu
    rw[zhb]at hq'
    exact(c3 _ q' u hq' (by simpa using hu)).ro
   ·cases hq'
 ·rcases qb0 h hx with⟨rfl,rfl⟩|⟨A,n,cap,rfl,hr⟩
  ·exact⟨none,0,0,[],rfl,qf,rfl,fun h=>absurd h qc,qf⟩
  ·obtain⟨A',n',cap',e1,h2,h3,h4,h5⟩:=yk hr
   cases e1
   by_cases hn:0<n
   ·obtain⟨b,o,vs,rfl,_,hvl,hcell,hrel⟩:=h5 hn
    exact⟨_,n,cap,vs,rfl,h3,hvl,fun _=>⟨_,rfl,fun j u hu=>by rw[qT];exact hcell j u hu⟩,hrel⟩
   ·have hn0:n=0:=qc
    subst hn0
    have:ys=[]:=zhk.mp (by simpa using h3)
    subst this
    exact⟨_,0,cap,[],rfl,qf,rfl,fun h=>absurd h qc,qf⟩
theorem XI{P:Program}{t t' e ty:TypeId}{sz:Nat}(ht:P.underlying t=some (.slice e))(hz:∀w,(sizeOf e).run P w= .ok sz w){blk off n cap:Nat}{arr:Array Value}{e':TypeId}(hb:w.heap[blk]?=some (.cells arr e' (0,0)))
 {A:Option Addr} {m cap':Nat} {vs:List Value} (hv:vs.length=min m n*sz) (hsrc:0<min m n->∃B,A=some B/\∀(j:Nat) (u:Value),vs[j]?=some u->w.cell? (B.add j)=some u)
 (hfit:0<min m n->off+vs.length<=arr.size) (h1:∀u∈vs,u.oneCell'=true):
 ∃w',(Builtin.copy_ #[t,t'] ty #[.slice (some ⟨blk,off,none⟩) n cap,.slice A m cap']).run P w= .ok (.int .i64 (min m n:Nat)) w'/\(0<min m n->w'=w.setRow blk (arr.toList.take off++vs++arr.toList.drop (off+vs.length)).toArray)/\(min m n=0->w'=w):=by
 by_cases h0:min m n=0
 ·have hvs:vs=[]:=zhk.mp (by rw[hv,h0,zh7])
  refine⟨w,?_,fun h=>absurd h qc,fun _=>rfl⟩
  have hm:Nat.min m n=0:=h0
  cases A with
  |none=>simp[Builtin.copy_,run_underlying ht,hz,Builtin.lenOf,hm,Builtin.firstCells,storeCells,goInt,h0]
  |some B=>
   have hf:=run_firstCells_some (P:=P) w sz 0 B m cap' [] qf qf
   simp[Builtin.copy_,run_underlying ht,hz,Builtin.lenOf,hm,hf,storeCells,goInt,h0]
 ·obtain⟨B,rfl,hc⟩:=hsrc qc
  have hm:Nat.min m n=min m n:=rfl
  have hf:=run_firstCells_some (P:=P) w sz (min m n) B m cap' vs hv hc
  have hst:=run_storeCells_at P blk off e' vs 0 arr w hb (by have:=hfit qc;omega) h1
  simp only[zim]at hst
  refine⟨_,?_,fun _=>rfl,fun h=>absurd h h0⟩
  simp only[Builtin.copy_,zg7,zgk,zhh]
  simp[run_underlying ht,hz,Builtin.lenOf,hm,hf,hst,goInt]
theorem qx7(hc:Ok c)(hI:Inv G w st a.tmps)(hd:jJ o a)(h:Nat){cl:Call}(hop:o.op= .call cl)(hcl:cl.callee= .builtin .copy){x y:Operand}(hargs:cl.args=#[x,y]) {t t':TypeId} (hts:cl.argTypes=#[t,t'])
 {ti ei:TI} {e:TypeId} (hti:c.tn t=some ti) (hk:ti.k= .sl e) (hei:c.tn e=some ei) (hsz:0<ei.size) {d s:AV} (hx:zy st.sl x= .av d) (hy:zy st.sl y= .av s)
 {p:Nat×Nat×Nat×Nat×Nat} (hp:qK d=some p) (hpz:p.2.2.2.2=ei.size) {ys cs cs':List AV} (hys:xm st.hp ei.size s=some ys) (hcs:st.hp.rd p.1 p.2.1=some cs)
 (hput:qm cs p.2.2.1 (Je ei.size p.2.2.2.1 ys).2=some cs'):
 o.wp c.P a w (jx G w a (after h o st (.sv (.int .i64 ((Je ei.size p.2.2.2.1 ys).1:Nat))) none (st.hp.put p.1 p.2.1 cs'))) Q:=by
 obtain⟨dd,hd1,hd2⟩:=(hc.tt t ti (qs hti).1).und
 rw[hk]at hd2
 have hd2:dd= .slice e:=hd2
 subst hd2
 have hz:=(hc.tt e ei (qs hei).1).sizeOf (qs hei).2
 have hxr:=wo hI x
 have hyr:=wo hI y
 rw[hx]at hxr
 rw[hy]at hyr
 have hdm:=ka hp
 subst hdm
 obtain⟨blk,cap,off',z,m1,m2,m4,m3,m5,m6⟩:=qep (p:=fun i=>.sl (wn x) 0 i) hxr
 obtain⟨A,m,cap',vs,e1,e2,e3,e4,e5⟩:=qrm (sl:=st.sl) (bx:=st.bx) (p:=fun i=>.sl (wn y) 0 i) hI hsz hyr hys
 obtain⟨hget,hg0⟩:=vC hcs
 obtain⟨blk',b1,b2,b3⟩:=hI.heap p.1 p.2.1 cs hget
 rw[m1]at b1;cases b1
 obtain⟨arr,e',c1,c2,c3⟩:=xU b3 hg0
 have hmany:wa ei.size ys=m:=Kj hsz e2
 have hcp:Je ei.size p.2.2.2.1 ys=(min m p.2.2.2.1,ys.take (min m p.2.2.2.1*ei.size)):=by simp[Je,hmany]
 rw[hcp]at hput⊢
 simp only at hput⊢
 have hk1:min m p.2.2.2.1*ei.size<=m*ei.size:=zgz _ (Nat.min_le_left _ _)
 have hyl:(ys.take (min m p.2.2.2.1*ei.size)).length=min m p.2.2.2.1*ei.size:=qh
 have hvl:(vs.take (min m p.2.2.2.1*ei.size)).length=min m p.2.2.2.1*ei.size:=qh
 obtain⟨hle,_⟩:=xG hput
 rw[hyl]at hle
 have hrel:∀(k:Nat) (y:AV) (u:Value),(ys.take (min m p.2.2.2.1*ei.size))[k]?=some y->(vs.take (min m p.2.2.2.1*ei.size))[k]?=some u->RelR G w y u:=by
  intro k y u hy hu
  rw[zgt]at hy hu
  split at hy
  ·rename_i hq;rw[if_pos hq]at hu;exact e5 k y u hy hu
  ·cases hy
 have h1:∀u∈vs.take (min m p.2.2.2.1*ei.size),u.oneCell'=true:=by
  intro u hu
  obtain⟨k,hk',rfl⟩:=zjq hu
  have hk2:k<(ys.take (min m p.2.2.2.1*ei.size)).length:=by rw[hyl,<-hvl];exact hk'
  exact(hrel k _ _ (zgl hk2) (zgl hk')).one
 obtain⟨w',hr,hw1,hw2⟩:=XI (P:=c.P) (t':=t') (ty:=o.type) (n:=p.2.2.2.1) (cap:=cap) (m:=m) (cap':=cap') (A:=A) (off:=off') hd1 hz c1 hvl (fun hpos=>by
  obtain⟨B,hB,hc⟩:=e4 qc
  refine⟨B,hB,fun j u hu=>hc j u ?_⟩
  rw[zgt]at hu
  split at hu
  ·exact hu
  ·cases hu) (fun hpos=>by rw[m4 qc,hvl];omega) h1
 have hrun:(execOp a.eval o).run c.P w= .ok (.value (.int .i64 (min m p.2.2.2.1:Nat))) w':=by
  rw[jZ hcl hop rfl,hargs,hts]
  simp only[Go.builtin,List.map_toArray,zhc,ziv,m3,e1]
  rw[Sem.run_bind,hr];rfl
 have hdn:qF h o st.sl=st.sl:=by simp[qF,qN,hop,hcl,qG]
 obtain⟨s1,s2⟩:=QG (G:=G) (w:=w) (p:=fun i=>.oc p.1 p.2.1 i) (f:=fun i=>.oc p.1 p.2.1 (p.2.2.1+i)) (us:=vs.take (min m p.2.2.2.1*ei.size)) hput c2 (by rw[hyl,hvl]) c3 (fun k y u hy hu=>(hrel k y u hy hu).c _) (fun i=>rfl)
 have hwr:Wr w w' blk (arr.toList.take p.2.2.1++vs.take (min m p.2.2.2.1*ei.size)++arr.toList.drop (p.2.2.1+(vs.take (min m p.2.2.2.1*ei.size)).length)).toArray e':=by
  by_cases h0:min m p.2.2.2.1=0
  ·rw[hw2 h0]
   have e9:(arr.toList.take p.2.2.1++vs.take (min m p.2.2.2.1*ei.size)++arr.toList.drop (p.2.2.1+(vs.take (min m p.2.2.2.1*ei.size)).length)).toArray=arr:=by
    rw[h0,zh7];simp
   rw[e9]
   exact⟨rfl,c1,fun _ _=>rfl,⟨rfl,rfl,rfl⟩,fun _ h=>h⟩
  ·rw[hw1 qc,m4 qc]
   exact vc w c1 (by rw[hvl];omega)
 obtain⟨hI2,hf2⟩:=hI.writeObj hg0 hget m1 b2 hwr s1 s2
 refine qw hrun ⟨G,?_,hf2,zb _ _ _,qI _ _ _⟩
 unfold after
 rw[hdn]
 exact hI2.put o.dst hd (fun k _=>⟨rfl,rfl⟩) (fun _ _ _ e=>by cases e)
end
def qo9(d:TypeDesc)(k:Value):Prop:=
 match d,k with
 | .int _,.int _ _=>True
 | .string,.string _=>True
 | .bool,.bool _=>True
 |_,_=>False
theorem qua{c:Cx}(hc:Ok c){t:TypeId}{ti:TI}(hti:c.tt t=some ti){k:Value}(h:qcw ti k=true):∃d,c.P.underlying t=some d/\qo9 d k:=by
 cases k<;>simp only[qcw]at h<;>try cases h
 ·exact⟨_,hc.tb t ti hti h,trivial⟩
 ·obtain⟨q,hq⟩:=hc.ti t ti hti h
  exact⟨_,hq,trivial⟩
 ·exact⟨_,(hc.tt t ti hti).2.1 h,trivial⟩
theorem qd1{d:TypeDesc}{k q:Value}{t:Bool}(hd:qo9 d k)(h:vg k q=some t):Instr.sameNow d k q=some t:=by
 cases d<;>cases k<;>first|exact hd.elim|skip
 all_goals
  cases q<;>first|(simp only[vg]at h;cases h;done)|exact h
theorem qjf{k q:Value}(h:vg k q=some true):k=q:=by
 cases k<;>cases q<;>simp only[vg]at h<;>try cases h
 ·rename_i a b;have:=zgy h;rw[eq_of_beq this]
 ·rename_i j a k b
  split at h
  ·rename_i e;subst e;rw[eq_of_beq (zgy h)]
  ·cases h
 ·rename_i a b;rw[(MapKept.bytes_beq a b).mp (zgy h)]
theorem xq{P:Program}{w:World}{kt:TypeId}{d:TypeDesc}{k:Value}(hd:P.underlying kt=some d)(hk:qo9 d k)(e:Bool):(Instr.checkKey e 10000 kt k).run P w= .ok () w:=by
 rw[show(10000:Nat)=9999+1 from rfl]
 unfold Instr.checkKey
 simp only[Sem.run_bind,run_underlying hd,Result.andThen]
 cases d<;>cases k<;>first|exact hk.elim|rfl
section
variable {c:Cx}{G:Gh}{w w':World}{st:St}{a:Act}{o:Oper}{Q:Exit->Act->World->Prop}
theorem WR{d:TypeDesc}{k:Value}(hd:qo9 d k):∀(cs:List AV) (es:List MapEntry) (i:Nat) (f:Option AV),cs.length=es.length->(∀(j:Nat) (x:AV) (e:MapEntry),cs[j]?=some x->es[j]?=some e->Vg G w x e)->
 QB k cs=some f->∃r,Instr.findNow d k es i=some r/\((f=none/\r=none)\/∃x n v,f=some x/\r=some (n,v)/\YR G w x v)
 |[],[],i,f,_,_,h=>by simp only[QB]at h;cases h;exact⟨none,rfl,.inl ⟨rfl,rfl⟩⟩
 |x::cs,[],i,f,hl,_,_=>by simp at hl
 |[],e::es,i,f,hl,_,_=>by simp at hl
 |x::cs,e::es,i,f,hl,hr,h=>by
  have he:=hr 0 x e rfl rfl
  unfold Vg at he
  split at he
  ·rename_i q y
   obtain⟨h1,h2,h3⟩:=he
   simp only[QB]at h
   obtain⟨t,ht,h⟩:=bsm h
   have hs:=qd1 hd ht
   rw[<-h1]at hs
   cases t with
   |true=>
    cases h
    exact⟨some (i,e.val),by simp[Instr.findNow,hs],.inr ⟨y,i,e.val,rfl,rfl,h3⟩⟩
   |false=>
    obtain⟨r,r1,r2⟩:=WR hd cs es (i+1) f (by simpa using hl) (fun j x e hx he=>hr (j+1) x e (by simpa using hx) (by simpa using he)) h
    exact⟨r,by simp[Instr.findNow,hs,r1],r2⟩
  ·exact he.elim
theorem qet{d:TypeDesc}{k:Value}{v:AV}(hd:qo9 d k):∀(cs:List AV) (es:List MapEntry) (i:Nat) (cs':List AV),cs.length=es.length->(∀(j:Nat) (x:AV) (e:MapEntry),cs[j]?=some x->es[j]?=some e->Vg G w x e)->
 XY k v cs=some cs'->(Instr.findNow d k es i=some none/\cs'=cs++[.tup [.sc k,v]])\/
  ∃j e,Instr.findNow d k es i=some (some (i+j,e.val))/\es[j]?=some e/\e.key=k/\cs'.length=cs.length/\cs'[j]?=some (.tup [.sc k,v])/\∀j',j'≠j->cs'[j']?=cs[j']?
 |[],[],i,f,_,_,h=>by simp only[XY]at h;cases h;exact .inl ⟨rfl,rfl⟩
 |x::cs,[],i,f,hl,_,_=>by simp at hl
 |[],e::es,i,f,hl,_,_=>by simp at hl
 |x::cs,e::es,i,f,hl,hr,h=>by
  have he:=hr 0 x e rfl rfl
  unfold Vg at he
  split at he
  ·rename_i q y
   obtain⟨h1,h2,h3⟩:=he
   simp only[XY]at h
   obtain⟨t,ht,h⟩:=bsm h
   have hs:=qd1 hd ht
   rw[<-h1]at hs
   cases t with
   |true=>
    cases h
    have hkq:=qjf ht
    refine .inr ⟨0,e,by simp[Instr.findNow,hs],rfl,by rw[h1,hkq],rfl,by rw[hkq];rfl,fun j' hj=>?_⟩
    cases j' with
    |zero=>exact absurd rfl hj
    |succ j'=>rfl
   |false=>
    cases hp:XY k v cs with
    |none=>rw[hp]at h;cases h
    |some l=>
     rw[hp]at h
     cases h
     rcases qet hd cs es (i+1) l (by simpa using hl) (fun j x e hx he=>hr (j+1) x e (by simpa using hx) (by simpa using he)) hp with⟨r1,r2⟩|⟨j,e',r1,r2,r3,r4,r5,r6⟩
     ·exact .inl ⟨by simp[Instr.findNow,hs,r1],by rw[r2];rfl⟩
     ·refine .inr ⟨j+1,e',by simp[Instr.findNow,hs,r1];omega,by simpa using r2,r3,by simp[r4],by simpa using r5,fun j' hj=>?_⟩
      cases j' with
      |zero=>rfl
      |succ j'=>simpa using r6 j' qc
  ·exact he.elim
theorem YR.v{x:AV}{v:Value}(h:YR G w x v)(p:Nat->Ow):zj G w p x v:=by
 rcases Zl x with⟨cs,rfl⟩|hx
 ·obtain⟨vs,h1,h2,h3⟩:=h
  exact⟨vs,h1,h2,fun i x c hx hc=>(h3 i x c hx hc).c _⟩
 ·have h':RelR G w x v:=by
   cases x<;>first|exact h|exact absurd rfl (hx _)
  exact jt.v (h'.c _)
theorem zj.f{x:AV}{v:Value}{p:Nat->Ow}(h:zj G w p x v):YR G w (AI.ro x) v:=by
 rcases Zl x with⟨cs,rfl⟩|hx
 ·obtain⟨vs,h1,h2,h3⟩:=h
  refine⟨vs,h1,by simpa using h2,fun i y c hy hc=>?_⟩
  obtain⟨z,hz,rfl⟩:=qv _ _ _ _ hy
  exact(h3 i z c hz hc).ro
 ·rw[xQ hx]at h
  rw[qei hx]
  have:=h.ro
  cases x<;>first|exact this|exact absurd rfl (hx _)
theorem qi8(hI:Inv G w st a.tmps){x:AV}{p:Nat->Ow}{v:Value}(hr:zj G w p x v){b:Nat}(hb:vL x=some b){cs:List AV}(hcs:st.hp.rdM b=some cs):
 ∃blk es clock,v= .map (some blk)/\G.mu b 1=some blk/\G.Om blk= .obj b 1/\w.heap[blk]?=some (.map es clock)/\es.size=cs.length/\∀(i:Nat) (x:AV) (e:MapEntry),cs[i]?=some x->es[i]?=some e->Vg G w x e:=by
 have hx:x= .map b:=by cases x<;>simp[vL]at hb;rw[hb]
 subst hx
 have hr':RelR G w (.map b) v:=hr
 cases hr' with
 |map _ blk hm=>
 obtain⟨blk',b1,b2,b3⟩:=hI.heap b 1 cs (qer hcs)
 rw[hm]at b1;cases b1
 have b3:qgw G w blk cs:=b3
 obtain⟨es,clock,e1,e2,e3⟩:=b3
 exact⟨blk,es,clock,rfl,hm,b2,e1,e2,e3⟩
theorem qx6(hc:Ok c)(hI:Inv G w st a.tmps)(hd:jJ o a)(h:Nat){cl:Call}(hop:o.op= .call cl)(hcl:cl.callee= .builtin .len){x:Operand}(hargs:cl.args=#[x]) {t:TypeId} (hts:cl.argTypes=#[t])
 {ti:TI} {q e:TypeId} (hti:c.tn t=some ti) (hk:ti.k= .mp q e) {y:AV} (hx:zy st.sl x= .av y) {b:Nat} (hb:vL y=some b) {cs:List AV} (hcs:st.hp.rdM b=some cs):
 o.wp c.P a w (jx G w a (after h o st (.sv (.int .i64 cs.length)) none st.hp)) Q:=by
 obtain⟨d,hd1,hd2⟩:=(hc.tt t ti (qs hti).1).und
 rw[hk]at hd2
 have hd2:d= .map q e:=hd2
 subst hd2
 have hxr:=wo hI x
 rw[hx]at hxr
 obtain⟨blk,es,clock,e1,m1,m2,m3,m4,m5⟩:=qi8 (p:=fun i=>.sl (wn x) 0 i) hI hxr hb hcs
 refine kE hI h (by simp[qF,hop]) hd rfl ?_
 rw[jZ hcl hop rfl,hargs,hts]
 simp[Go.builtin,e1,Builtin.len_,run_underlying hd1,MapKept.run_getObj_map m3,goInt,m4]
theorem qix(hI:Inv G w st a.tmps)(hd:jJ o a)(h:Nat){t:TypeId}(hop:o.op= .makeMap t none):
 o.wp c.P a w (jx G w a (after h o st (.av (.map st.hp.next)) none st.hp.newM)) Q:=by
 have hrun:(execOp a.eval o).run c.P w= .ok (.value (.map (some w.heap.size))) {w with heap:=w.heap.push (.map #[] 0)}:=by
  simp only[execOp,hop,Option.map_none]
  rfl
 have hw:New w {w with heap:=w.heap.push (.map #[] 0)} (.map #[] 0):=⟨rfl,rfl,rfl,rfl⟩
 refine qw hrun ?_
 have ho:qF h o st.sl=st.sl:=by simp[qF,qN,hop,qG]
 let mu:Nat->Nat->Option Nat:=fun b g=>if b=st.hp.next/\g=1 then some w.heap.size else G.mu b g
 let G':=G.add w.heap.size (.obj st.hp.next 1) 0 mu G.la
 have hmu:∀b g x,G.mu b g=some x->mu b g=some x:=by
  intro b g x hx
  have hne:¬(b=st.hp.next/\g=1):=by
   rintro⟨rfl,rfl⟩
   rw[hI.next _ 1 (zgm _)]at hx;cases hx
  simp[mu,hne,hx]
 have hf:Fr G w G' _:=Fr.new hI hw (.obj st.hp.next 1) 0 hmu
 have hk:=fun{p:Ow} (hp:p≠ .fr)=>Qh hI hw (.obj st.hp.next 1) 0 mu G.la hp
 have hI':Inv G' {w with heap:=w.heap.push (.map #[] 0)} ⟨st.sl,st.bx,st.hp.newM⟩ a.tmps:={
  slots:=fun k=>qL.ev hf.ev (fun j i=>hk qf) (fun _ _ _ _ _ h=>h) (hI.slots k)
  boxes:=fun k g cs h=>by
   obtain⟨blk,h1,h2,h3⟩:=hI.boxes k g cs h
   have hb:=hI.lt h2 qf
   exact⟨blk,h1,by simp[G',Gh.add,zh8 hb,h2],h3.ev hf.ev (hw.old hb) fun i=>hk qf⟩
  heap:=fun k g cs' hg=>by
   have hg':(if k=st.hp.next then some (1,[])else st.hp.get k)=some (g,cs'):=hg
   split at hg'
   ·rename_i e;subst e
    cases hg'
    refine⟨w.heap.size,by simp[G',Gh.add,mu],by simp[G',Gh.add],?_⟩
    show qgw G' _ w.heap.size []
    exact⟨#[],0,hw.at,rfl,qf⟩
   ·rename_i hne
    obtain⟨blk,h1,h2,h3⟩:=hI.heap k g cs' hg'
    have hb:=hI.lt h2 qf
    have hne':¬(k=st.hp.next/\g=1):=fun e=>hne e.1
    exact⟨blk,by simp[G',Gh.add,mu,hne',h1],by simp[G',Gh.add,zh8 hb,h2],h3.ev hf.ev (hw.old hb) fun i=>hk qf⟩
  next:=fun b g hb=>by
   have hb':st.hp.next+1<=b:=hb
   have hne:¬(b=st.hp.next/\g=1):=fun e=>qc
   show mu b g=none
   simp only[mu,hne,if_false]
   exact hI.next b g qc
  hlt:=fun b g cs' hg=>by
   have hg':(if b=st.hp.next then some (1,[])else st.hp.get b)=some (g,cs'):=hg
   show b<st.hp.next+1
   split at hg'
   ·omega
   ·have:=hI.hlt b g cs' hg';omega
  new:=fun b hb=>by
   rw[hw.size]at hb
   have hne:b≠w.heap.size:=qc
   simp only[G',Gh.add,hne,if_false]
   exact hI.new b qc
  vars:=fun b hb=>by
   by_cases e:b=w.heap.size
   ·simp[G',Gh.add,e]
   ·simp only[G',Gh.add,e,if_false]at hb⊢
    exact hI.vars b hb
  lps:=hI.lps}
 refine⟨G',?_,hf,zb _ _ _,qI _ _ _⟩
 unfold after
 rw[ho]
 exact hI'.put o.dst hd (fun k _=>RelR.map _ _ (by simp[G',Gh.add,mu])) (fun _ _ _ e=>by cases e)
theorem qmh(hc:Ok c){t:TypeId}{ti:TI}(hti:c.tn t=some ti):∃z,(∀w,(zeroValue t).run c.P w= .ok z w)/\YR G w (Xq ti) z:=by
 obtain⟨i,z,i1,i2,i3,i4,i5,i6,i7⟩:=(hc.tt t ti (qs hti).1).info (qs hti).2
 obtain⟨z1,z2⟩:=hc.zf t ti (qs hti).1 (qs hti).2 i z i1 i4
 refine⟨z,fun w=>by simp[zeroValue,typeInfo,i1,i4],?_⟩
 unfold Xq
 cases hag:yC ti.k with
 |true=>
  obtain⟨vs,rfl⟩:=z1 hag
  simp only[if_true]
  refine⟨ti.zero,by rw[<-i5];simp[Value.cells],by simp[zH],fun k x u hx hu=>?_⟩
  obtain⟨y,hy,rfl⟩:=qv _ _ _ _ hx
  rw[hy]at hu;cases hu
  exact .sc _ (i7 _ (zgo hy))
 |false=>
  have h1:=z2 hag
  have hz:ti.zero=[z]:=by rw[<-i5,JZ h1]
  rw[hz]
  show YR G w (.sc z) z
  exact RelR.sc z h1
theorem qnu(hc:Ok c)(hI:Inv G w st a.tmps)(hd:jJ o a)(h:Nat){t:TypeId}{x i:Operand}{ok:Bool}(hop:o.op= .lookup t x i ok){r:SV×BE×Hp}
 (hr:(xu c t (zy st.sl x) (zy st.sl i) ok st.hp fun s=>some (s,(none:BE),st.hp))=some r):o.wp c.P a w (jx G w a (after h o st r.1 r.2.1 r.2.2)) Q:=by
 unfold xu at hr
 simp only[WJ]at hr
 split at hr
 ·rename_i ti hti
  split at hr
  ·rename_i kt et hk
   split at hr
   ·rename_i ki ei hki hei
    obtain⟨x',hx,hr⟩:=bsm hr
    obtain⟨b,hb,hr⟩:=bsm hr
    obtain⟨cs,hcs,hr⟩:=bsm hr
    obtain⟨k,hkv,hr⟩:=bsm hr
    obtain⟨_,hkt,hr⟩:=bsm hr
    obtain⟨f,hf,hr⟩:=bsm hr
    obtain⟨s,hs,hr⟩:=bsm hr
    cases hr
    obtain⟨d,hd1,hd2⟩:=(hc.tt t ti (qs hti).1).und
    rw[hk]at hd2
    have hd2:d= .map kt et:=hd2
    subst hd2
    obtain⟨dk,hdk,hkd⟩:=qua hc (qs hki).1 (Qq hkt)
    have hxr:=xk (wo hI x) hx
    obtain⟨blk,es,clock,e1,m1,m2,m3,m4,m5⟩:=qi8 (p:=fun i=>.sl (wn x) 0 i) hI hxr hb hcs
    obtain⟨rr,r1,r2⟩:=WR hkd cs es.toList 0 f (by simp[m4]) (fun j x e hx he=>m5 j x e hx (by simpa using he)) hf
    obtain⟨z,z1,z2⟩:=qmh (G:=G) (w:=w) hc hei
    have hik:=(yd hI (jH hkv)).1
    have key:∃v,YR G w (orA f (Xq ei)) v/\(Instr.lookup t (a.eval x) (a.eval i) ok).run c.P w= .ok (if ok then .tuple #[v,.bool (isS f)]else v) w:=by
     rw[e1,hik]
     rcases r2 with⟨rfl,rfl⟩|⟨y,n,v,rfl,rfl,hv⟩
     ·refine⟨z,z2,?_⟩
      simp[Instr.lookup,run_underlying hd1,MapKept.run_getObj_map m3,xq hdk hkd,MapKept.run_findKey hdk r1,z1,isS]
     ·refine⟨v,hv,?_⟩
      simp[Instr.lookup,run_underlying hd1,MapKept.run_getObj_map m3,xq hdk hkd,MapKept.run_findKey hdk r1,isS]
    obtain⟨v,hv,hrun⟩:=key
    refine qw (v:=if ok then .tuple #[v,.bool (isS f)]else v) (w':=w) ?_ (qD hI h (by simp[qF,hop]) hd (fun k=>?_) (fun _ _ _ e=>(?_:False).elim))
    ·simp only[execOp,hop]
     rw[Sem.run_bind,hrun];rfl
    ·unfold qlj at hs
     cases ok with
     |true=>
      cases hs
      refine⟨[v,.bool (isS f)],rfl,rfl,fun j y u hy hu=>?_⟩
      match j,hy,hu with
      |0,hy,hu=>simp at hy hu;subst hy;subst hu;exact hv.v _
      |1,hy,hu=>simp at hy hu;subst hy;subst hu;exact RelR.sc _ rfl
      |j+2,hy,hu=>simp at hy
     |false=>
      simp only[ofA]at hs
      split at hs
      ·obtain⟨u,hu,hs⟩:=bsm hs
       cases hs
       rw[yK hu]at hv
       have hv':RelR G w (.sc u) v:=hv
       cases hv' with
       |sc _ h1=>exact⟨rfl,h1⟩
      ·cases hs
       exact hv.v _
    ·have e:s=_:=e
     rw[e]at hs
     unfold qlj ofA at hs
     split at hs
     ·cases hs
     ·split at hs
      ·obtain⟨u,hu,hs⟩:=bsm hs
       cases hs
      ·cases hs
   ·cases hr
  ·cases hr
 ·cases hr
theorem qub(P:Program)(w:World){d:TypeDesc}{k:Value}(hk:qo9 d k):(Instr.keyThatStays k k).run P w= .ok k w:=by
 have:Instr.sameBits 10000 k k=true:=by
  rw[show(10000:Nat)=9999+1 from rfl]
  cases d<;>cases k<;>first|exact hk.elim|(simp[Instr.sameBits];done)|skip
  rename_i s
  exact(MapKept.bytes_beq s s).mpr rfl
 simp[Instr.keyThatStays,this]
theorem qnt(hc:Ok c)(hI:Inv G w st a.tmps)(hd:jJ o a)(h:Nat){t:TypeId}{m k x:Operand}(hop:o.op= .mapUpdate t m k x){r:SV×BE×Hp}
 (hr:(Qe c t (zy st.sl m) (zy st.sl k) (zy st.sl x) st.hp fun q=>some (SV.un,(none:BE),q))=some r):o.wp c.P a w (jx G w a (after h o st r.1 r.2.1 r.2.2)) Q:=by
 unfold Qe at hr
 split at hr
 ·rename_i ti hti
  split at hr
  ·rename_i kt et hk
   split at hr
   ·rename_i ki ei hki hei
    obtain⟨m',hm,hr⟩:=bsm hr
    obtain⟨b,hb,hr⟩:=bsm hr
    obtain⟨cs,hcs,hr⟩:=bsm hr
    obtain⟨kv,hkv,hr⟩:=bsm hr
    obtain⟨_,hkt,hr⟩:=bsm hr
    obtain⟨v,hv,hr⟩:=bsm hr
    obtain⟨cs',hput,hr⟩:=bsm hr
    cases hr
    obtain⟨d,hd1,hd2⟩:=(hc.tt t ti (qs hti).1).und
    rw[hk]at hd2
    have hd2:d= .map kt et:=hd2
    subst hd2
    obtain⟨dk,hdk,hkd⟩:=qua hc (qs hki).1 (Qq hkt)
    have hmr:=xk (wo hI m) hm
    obtain⟨blk,es,clock,e1,m1,m2,m3,m4,m5⟩:=qi8 (p:=fun i=>.sl (wn m) 0 i) hI hmr hb hcs
    obtain⟨hik,hone⟩:=yd hI (jH hkv)
    have hvr:YR G w v (a.eval x):=by
     have hxr:=wo hI x
     cases hs:zy st.sl x with
     |sv u=>
      rw[hs]at hv hxr
      cases hv
      obtain⟨e2,e3⟩:=hxr
      rw[e2];exact RelR.sc u e3
     |av y=>
      rw[hs]at hv hxr
      cases hv
      exact zj.f (p:=fun i=>.sl (wn x) 0 i) hxr
     |_=>rw[hs]at hv;cases hv
    have hdn:qF h o st.sl=st.sl:=by simp[qF,qN,hop,qG]
    have fin:∀(es':Array MapEntry) (clock':Nat),es'.size=cs'.length->(∀(j:Nat) (y:AV) (e:MapEntry),cs'[j]?=some y->es'[j]?=some e->Vg G w y e)->
     (execOp a.eval o).run c.P w= .ok .skip {w with heap:=w.heap.setIfInBounds blk (.map es' clock')}->
     o.wp c.P a w (jx G w a (after h o st .un none (st.hp.put b 1 cs'))) Q:=by
     intro es' clock' h1 h2 hrun
     obtain⟨s1,s2⟩:=MapKept.heap_set (o':=.map es' clock') m3
     have hwr:WrM w {w with heap:=w.heap.setIfInBounds blk (.map es' clock')} blk (.map es' clock'):=
      ⟨qf,s1,s2,⟨rfl,rfl,rfl⟩,fun z hz=>by simp[KQ,m3]at hz⟩
     obtain⟨hI2,hf2⟩:=hI.writeOb (qer hcs) m1 m2 hwr fun hf hk=>by
      show qgw G _ blk cs'
      exact⟨es',clock',s1,h1,fun j y e hy he=>(h2 j y e hy he).ev hf.ev⟩
     refine Xr hrun ⟨G,?_,hf2,zb _ _ _,qI _ _ _⟩
     unfold after
     rw[hdn]
     exact qis o.dst hI2 hd undef
    rcases qet (v:=v) hkd cs es.toList 0 cs' (by simp[m4]) (fun j x e hx he=>m5 j x e hx (by simpa using he)) hput with⟨r1,r2⟩|⟨j,e,r1,r2,r3,r4,r5,r6⟩
    ·refine fin (es.push {key:=kv,val:=a.eval x,born:=clock}) (clock+1) (by rw[r2];simp[m4]) (fun j y e hy he=>?_) ?_
     ·rw[r2]at hy
      rw[zki]at he
      by_cases hj:j=es.size
      ·rw[if_pos hj]at he
       cases he
       rw[hj,m4,zgv (zgm _)]at hy
       simp at hy
       subst hy
       exact⟨rfl,hone,hvr⟩
      ·rw[if_neg hj]at he
       have hlt:=(zh4.mp he).1
       rw[zg0 qc]at hy
       exact m5 j y e hy he
     ·simp only[execOp,hop,e1,hik]
      simp[Instr.mapUpdate,run_underlying hd1,MapKept.run_getObj_map m3,xq hdk hkd,MapKept.run_findKey hdk r1,MapKept.run_setObj_map _ m3]
    ·rw[zha]at r1
     have hej:es[j]?=some e:=by simpa using r2
     refine fin (es.modify j fun e=>{e with key:=kv,val:=a.eval x}) clock (by simp[m4,r4]) (fun j' y e' hy he=>?_) ?_
     ·rw[zj9]at he
      by_cases hj:j=j'
      ·subst hj
       rw[r5]at hy
       cases hy
       rw[if_pos rfl,hej]at he
       cases he
       exact⟨rfl,hone,hvr⟩
      ·rw[if_neg hj]at he
       rw[r6 j' (fun e=>hj e.symm)]at hy
       exact m5 j' y e' hy he
     ·simp only[execOp,hop,e1,hik]
      have hks:=qub c.P w hkd
      simp[Instr.mapUpdate,run_underlying hd1,MapKept.run_getObj_map m3,xq hdk hkd,MapKept.run_findKey hdk r1,MapKept.run_setObj_map _ m3,hej,r3,hks]
   ·cases hr
  ·cases hr
 ·cases hr
end
section
variable {c:Cx}{G:Gh}{w w':World}{st:St}{a:Act}{o:Oper}{Q:Exit->Act->World->Prop}
theorem ze5{α β:Type}{l:List α}{f:α->β}{y:β}(h:l.map f=[y]):∃x,l=[x]/\f x=y:=by
 match l,h with
 |[x],h=>simp at h;exact⟨x,rfl,h⟩
theorem zah{α β:Type}{l:List α}{f:α->β}{y z:β}(h:l.map f=[y,z]):∃x x',l=[x,x']/\f x=y/\f x'=z:=by
 match l,h with
 |[x,x'],h=>simp at h;exact⟨x,x',rfl,h.1,h.2⟩
theorem zI{α:Type}{x:Array α}{l:List α}(h:x.toList=l):x=l.toArray:=by
 subst h;simp
theorem zbw(hc:Ok c)(hI:Inv G w st a.tmps)(hd:jJ o a)(h:Nat){cl:Call}(hop:o.op= .call cl){b:Builtin}(hcl:cl.callee= .builtin b){r:SV×BE×Hp}
 (hr:(VO c h o b cl.argTypes.toList (cl.args.toList.map (zy st.sl)) st.hp fun s q=>some (s,(none:BE),q))=some r):o.wp c.P a w (jx G w a (after h o st r.1 r.2.1 r.2.2)) Q:=by
 unfold VO at hr
 split at hr
 ·rename_i t x hts has
  obtain⟨x',hx1,hx2⟩:=ze5 has
  split at hr
  ·rename_i ti hti
   split at hr
   ·rename_i e hk
    obtain⟨n,hn,hr⟩:=bsm hr
    cases hr
    exact zbu hc hI hd h hop hcl (zI hx1) (by rw[zI hts];rfl) hti hk hx2 hn
   ·rename_i q e hk
    obtain⟨_,_,hr⟩:=bsm hr
    obtain⟨b',hb',hr⟩:=bsm hr
    obtain⟨cs,hcs,hr⟩:=bsm hr
    cases hr
    exact qx6 hc hI hd h hop hcl (zI hx1) (zI hts) hti hk hx2 hb' hcs
   ·cases hr
  ·cases hr
 ·rename_i t t' d s hts has
  obtain⟨x,y,hx1,hx2,hx3⟩:=zah has
  split at hr
  ·cases hr
  ·rename_i htt
   have htt:t'=t:=Classical.not_not.mp htt
   subst htt
   split at hr
   ·rename_i ti hti
    split at hr
    ·rename_i e hk
     split at hr
     ·rename_i ei hei
      obtain⟨d',hd',hr⟩:=bsm hr
      obtain⟨s',hs',hr⟩:=bsm hr
      split at hr
      ·obtain⟨q,hq,hr⟩:=bsm hr
       cases hr
       exact qx9 hc hI hd h hop hcl (zI hx1) (zI hts) hti hk hei (by rw[hx2];exact hd') (by rw[hx3];exact hs') hq
      ·obtain⟨z,hz,hr⟩:=bsm hr
       cases hr
       exact qny hc hI hd h hop hcl (zI hx1) (zI hts) hti hk hei (by rw[hx2];exact hd') (by rw[hx3];exact hs') hz
     ·cases hr
    ·cases hr
   ·cases hr
 ·rename_i t t' d s hts has
  obtain⟨x,y,hx1,hx2,hx3⟩:=zah has
  split at hr
  ·rename_i ti hti
   split at hr
   ·rename_i e hk
    split at hr
    ·rename_i ei hei
     obtain⟨_,hch,hr⟩:=bsm hr
     obtain⟨p,hp,hr⟩:=bsm hr
     obtain⟨_,hpz,hr⟩:=bsm hr
     obtain⟨ys,hys,hr⟩:=bsm hr
     obtain⟨cs,hcs,hr⟩:=bsm hr
     obtain⟨cs',hcs',hr⟩:=bsm hr
     cases hr
     exact qx7 hc hI hd h hop hcl (zI hx1) (zI hts) hti hk hei (zL hch).2 hx2 hx3 hp (WW hpz) hys hcs hcs'
    ·cases hr
   ·cases hr
  ·cases hr
 ·obtain⟨vs,hvs,hr⟩:=bsm hr
  obtain⟨z,hz,hr⟩:=bsm hr
  cases hr
  refine qx8 hI hd h hop hcl hvs ?_
  rw[<-hz]
theorem map_toArray(a:Act)(x:Array Operand)(l:List Value):x.map a.eval++l.toArray=(x.toList.map a.eval++l).toArray:=by
 apply zkf;simp
theorem Xv{c:Cx}{f:FuncId}{fn:Func}{b:Code}(hc:Ok c)(hF:c.F f=some fn)(hb:fn.body=some b)(args:Array Value)(w:World):(callFunc f args).run c.P w= .ok (.enter f args) w:=
 qb9 (hc.F f fn hF) (hc.nm f fn hF) hb args w
theorem qtl(hc:Ok c)(hI:Inv G w st a.tmps)(hd:jJ o a)(h:Nat){R:Orc}(hR:kV c R){cl:Call}(hop:o.op= .call cl){f:FuncId}(hcl:cl.callee= .value (.func f)){fn:Func}(hF:c.F f=some fn){b:Code}(hb:fn.body=some b)
 {ti:TI} {r:SV×BE×Hp} (hr:je c R h ti f [] (cl.args.toList.map (zy st.sl)) st.hp k3=some r):o.wp c.P a w (jx G w a (after h o st r.1 r.2.1 r.2.2)) Q:=by
 have hexec:(execOp a.eval o).run c.P w= .ok (.enter f (cl.args.toList.map a.eval++[]).toArray) w:=by
  simp only[execOp,hop,resolve,hcl,Act.eval,Deferred.ofValue]
  have:=Xv hc hF hb (cl.args.map a.eval++#[]) w
  rw[<-map_toArray,<-this]
  simp[invoke]
 by_cases h4:h=4
 ·subst h4
  refine qe2 hR hI hd hr (cvs:=[]) rfl (by intro i x v hx;simp at hx) (by simp[qF,qN,hop,hcl,qG]) (by simp[qF,qN,hop,hcl,qG]) ?_
  rw[zhd]at hexec
  exact hexec
 refine qe1 hR hI hd h hr (cvs:=[]) rfl (by intro i x v hx;simp at hx) h4 (by simp[qF,qN,hop,hcl,qG]) ?_
 exact hexec
theorem qjl{x:AV}{p:FuncId×List AV}(h:ZW x=some p):x= .fn p.1 p.2:=by
 unfold ZW at h
 split at h
 ·split at h
  ·cases h;rfl
  ·cases h
 ·cases h
theorem qup{x:AV}{p:FuncId×List AV}(h:ZW x=some p):Nat.blt p.1 4294967296=true:=by
 unfold ZW at h
 split at h
 ·split at h
  ·cases h;assumption
  ·cases h
 ·cases h
theorem qmb(f:Nat):Nat.blt (4294967296+f) 4294967296=false:=by
 cases e:Nat.blt (4294967296+f) 4294967296 with
 |false=>rfl
 |true=>
  have:4294967296+f<4294967296:=by simpa[Nat.blt_eq]using e
  omega
theorem VZ{c:Cx}{R:Orc}(hS:∀f xs hp r,R f xs hp=some r->∃fn b,c.F f=some fn/\fn.body=some b){h:Nat}{ti:TI}{f:FuncId}{caps:List AV}{as_:List SV}{hp:Hp}{r:SV×BE×Hp}
 (hr:je c R h ti f caps as_ hp k3=some r):∃fn b,c.F f=some fn/\fn.body=some b:=by
 unfold je at hr
 obtain⟨xs,hxs,hr⟩:=bsm hr
 split at hr
 ·obtain⟨p,hp',hr⟩:=bsm hr
  exact hS _ _ _ _ hp'
 ·split at hr
  ·obtain⟨p,hp',hr⟩:=bsm hr
   exact hS _ _ _ _ hp'
  ·obtain⟨_,_,hr⟩:=bsm hr
   obtain⟨p,hp',hr⟩:=bsm hr
   exact hS _ _ _ _ hp'
theorem qjm{x:AV}{p:FuncId×List AV}(h:vX x=some p):x= .fn (4294967296+p.1) p.2:=by
 unfold vX at h
 split at h
 ·rename_i f b0 c
  split at h
  ·cases h
  ·rename_i hb
   obtain rfl:=zgy h
   have:¬(f<4294967296):=by
    intro e
    have:Nat.blt f 4294967296=true:=by simpa[Nat.blt_eq]using e
    rw[this]at hb;cases hb
   have e:4294967296+(f-4294967296)=f:=Nat.add_sub_of_le (Nat.le_of_not_lt this)
   show AV.fn f (b0::c)=AV.fn (4294967296+(f-4294967296)) (b0::c)
   rw[e]
 ·cases h
theorem quq{x:AV}{p:FuncId×List AV}(h:vX x=some p):p.2≠[]:=by
 unfold vX at h
 split at h
 ·split at h
  ·cases h
  ·obtain rfl:=zgy h
   exact List.cons_ne_nil _ _
 ·cases h
theorem quw{F:Nat}{caps:List AV}{v:Value}(h:RelR G w (.fn F caps) v):
 (∃vs:List Value,v= .func (.func F) #[] vs.toArray/\(Nat.blt F 4294967296=true\/caps=[])/\caps.length=vs.length/\∀(k:Nat) (x:AV) (c:Value),caps[k]?=some x->vs[k]?=some c->RelR G w x c)\/
 (∃(f:FuncId) (vs:List Value),F=4294967296+f/\v= .func (.func f) vs.toArray #[]/\caps.length=vs.length/\∀(k:Nat) (x:AV) (c:Value),caps[k]?=some x->vs[k]?=some c->RelR G w x c):=by
 cases h with
 |fn _ _ vs h0 h1 h2=>exact .inl ⟨vs,rfl,h0,h1,h2⟩
 |fnb f _ vs h0 h1 h2=>exact .inr ⟨f,vs,rfl,rfl,h1,h2⟩
theorem qnx(hc:Ok c)(hI:Inv G w st a.tmps)(hd:jJ o a){R:Orc}(hR:kV c R)(hS:∀f xs hp r,R f xs hp=some r->∃fn b,c.F f=some fn/\fn.body=some b)
 {cl:Call} (hop:o.op= .call cl) {t:Tmp} (hcl:cl.callee= .value (.tmp t)) {x:AV} (hx:zy st.sl (.tmp t)= .av x) {p:FuncId×List AV} (hp:vX x=some p)
 {ti:TI} {r:SV×BE×Hp} (hr:je c R 4 ti p.1 p.2 (cl.args.toList.map (zy st.sl)) st.hp k3=some r):o.wp c.P a w (jx G w a (after 4 o st r.1 r.2.1 r.2.2)) Q:=by
 have hxr:=wo hI (.tmp t)
 rw[hx,qjm hp]at hxr
 obtain⟨fn,b,hF,hb⟩:=VZ hS hr
 have key:∃vs:List Value,a.eval (.tmp t)= .func (.func p.1) vs.toArray #[]/\p.2.length=vs.length/\∀(k:Nat) (x:AV) (c:Value),p.2[k]?=some x->vs[k]?=some c->RelR G w x c:=by
  have hxr':RelR G w (.fn (4294967296+p.1) p.2) (a.eval (.tmp t)):=hxr
  rcases quw hxr' with⟨vs,e1,h0,h1,h2⟩|⟨f,vs,e0,e1,h1,h2⟩
  ·rcases h0 with h0|h0
   ·rw[qmb]at h0;cases h0
   ·exact absurd h0 (quq hp)
  ·have:f=p.1:=(Nat.add_left_cancel e0).symm
   subst this
   exact⟨vs,e1,h1,h2⟩
 obtain⟨vs,hv,h1,h2⟩:=key
 refine qe2 hR hI hd hr (cvs:=vs) h1 h2 (by simp[qF,qN,hop,hcl,qG]) (by simp[qF,qN,hop,hcl,qG]) ?_
 simp only[execOp,hop,resolve,hcl,hv,Deferred.ofValue]
 have:=Xv hc hF hb (vs.toArray++cl.args.map a.eval) w
 have e:vs.toArray++cl.args.map a.eval=(vs++cl.args.toList.map a.eval).toArray:=by apply zkf;simp
 rw[<-e,<-this]
 simp[invoke]
theorem qtk(hc:Ok c)(hI:Inv G w st a.tmps)(hd:jJ o a)(h:Nat)(h4:h≠4){R:Orc}(hR:kV c R)(hS:∀f xs hp r,R f xs hp=some r->∃fn b,c.F f=some fn/\fn.body=some b)
 {cl:Call} (hop:o.op= .call cl) {t:Tmp} (hcl:cl.callee= .value (.tmp t)) {x:AV} (hx:zy st.sl (.tmp t)= .av x) {p:FuncId×List AV} (hp:ZW x=some p)
 {ti:TI} {r:SV×BE×Hp} (hr:je c R h ti p.1 p.2 (cl.args.toList.map (zy st.sl)) st.hp k3=some r):o.wp c.P a w (jx G w a (after h o st r.1 r.2.1 r.2.2)) Q:=by
 have hxr:=wo hI (.tmp t)
 rw[hx,qjl hp]at hxr
 obtain⟨fn,b,hF,hb⟩:=VZ hS hr
 have hlt:=qup hp
 have key:∃vs:List Value,a.eval (.tmp t)= .func (.func p.1) #[] vs.toArray/\p.2.length=vs.length/\∀(k:Nat) (x:AV) (c:Value),p.2[k]?=some x->vs[k]?=some c->RelR G w x c:=by
  have hxr':RelR G w (.fn p.1 p.2) (a.eval (.tmp t)):=hxr
  rcases quw hxr' with⟨vs,e1,h0,h1,h2⟩|⟨f,vs,e0,e1,h1,h2⟩
  ·exact⟨vs,e1,h1,h2⟩
  ·rw[e0,qmb]at hlt;cases hlt
 obtain⟨vs,hv,h1,h2⟩:=key
 refine qe1 hR hI hd h hr (cvs:=vs) h1 h2 h4 (by simp[qF,qN,hop,hcl,qG]) ?_
 simp only[execOp,hop,resolve,hcl,hv,Deferred.ofValue]
 have:=Xv hc hF hb (cl.args.map a.eval++vs.toArray) w
 rw[<-map_toArray,<-this]
 simp[invoke]
theorem qnw(hc:Ok c)(hI:Inv G w st a.tmps)(hd:jJ o a)(h:Nat){cl:Call}(hop:o.op= .call cl){f:FuncId}(hcl:cl.callee= .value (.func f)){fn:Func}(hF:c.F f=some fn)(hb:fn.body=none)
 {vs:List Value} (hvs:qbw (cl.args.toList.map (zy st.sl))=some vs) {z:Value} (hz:one (c.X f vs)=some z):o.wp c.P a w (jx G w a (after h o st (.sv z) none st.hp)) Q:=by
 have he:=Jv hI hvs
 refine kE hI h (by simp[qF,hop]) hd (zS hz).2 ?_
 simp only[execOp,hop,resolve,hcl,Act.eval,Deferred.ofValue]
 have:=hc.X f fn vs z hF hb (zS hz).1 w
 have hargs:cl.args.map a.eval=vs.toArray:=by rw[<-he];apply zkf;simp
 rw[<-this,hargs]
 simp[invoke]
theorem qtg(hI:Inv G w st a.tmps)(hd:jJ o a)(h:Nat)(h3:h=3){x:Operand}{k:TK}(hop:o.op= .move x){q:SV×Hp}{k0:TK}(hq:qjp k0 st.hp (VG k (zy st.sl x).ro)=some q):
 o.wp c.P a w (jx G w a (after h o st q.1 none q.2)) Q:=by
 have:=qlb (c:=c) (Q:=Q) hI hd h (k:=k) hop
 rw[if_neg qc]at this
 exact Oper.wp_mono (fun a' w' hA=>qdi hA hq) this
theorem qi0(hI:Inv G w st a.tmps)(hd:jJ o a)(h:Nat){x:Operand}{k:TK}(hop:o.op= .assign x){q:SV×Hp}{k0:TK}(hq:qjp k0 st.hp (VG k (zy st.sl x))=some q):
 o.wp c.P a w (jx G w a (after h o st q.1 none q.2)) Q:=
 Oper.wp_mono (fun a' w' hA=>qdi hA hq) (Wy (c:=c) (Q:=Q) hI hd h (k:=k) hop)
theorem qzm(hc:Ok c){R:Orc}(hR:kV c R)(hS:∀f xs hp r,R f xs hp=some r->∃fn b,c.F f=some fn/\fn.body=some b)(hI:Inv G w st a.tmps)(hd:jJ o a)(h:Nat){r:SV×BE×Hp}
 (hr:qq c R h o (zy st.sl) (zK st.bx) st.hp k3=some r):o.wp c.P a w (jx G w a (after h o st r.1 r.2.1 r.2.2)) Q:=by
 unfold qq at hr
 split at hr
 --move
 ·rename_i x hop
  split at hr
  ·rename_i ti hti
   split at hr
   ·rename_i h3
    rw[kN]at hr
    obtain⟨q,hq,hr⟩:=bsm hr
    cases hr
    exact qtg hI hd h h3 hop hq
   ·cases hr
    exact qlb hI hd h hop
  ·cases hr
 --assign
 ·rename_i x hop
  split at hr
  ·rename_i ti hti
   split at hr
   ·rw[kN]at hr
    obtain⟨q,hq,hr⟩:=bsm hr
    cases hr
    exact qi0 hI hd h hop hq
   ·cases hr
    exact Wy hI hd h hop
  ·cases hr
 --pick
 ·rename_i x y z hop
  exact qx5 hI hd h hop hr
 --alloc
 ·rename_i t hop
  split at hr
  ·rename_i ti hti
   exact qtm hc hI hd h hti hop hr
  ·cases hr
 --box
 ·rename_i t x hop
  split at hr
  ·rename_i ti hti
   exact zbv hc hI hd h hti hop hr
  ·cases hr
 --build
 ·rename_i t ps hop
  split at hr
  ·rename_i ti hti
   split at hr
   ·rename_i fs hk
    split at hr
    ·rename_i hall
     rw[jF]at hr
     obtain⟨cs,hcs,hr⟩:=bsm hr
     cases hr
     exact qe3 hc hI hd h hti hop hk hcs (fun p hp=>zg9.mp hall p hp)
    ·cases hr
   ·rename_i n e hk
    split at hr
    ·rename_i ei hei
     rw[jF]at hr
     obtain⟨cs,hcs,hr⟩:=bsm hr
     cases hr
     exact qe4 hc hI hd h hti hop hk hei hcs
    ·cases hr
   ·cases hr
  ·cases hr
 --buildSlice
 ·rename_i t n ps hop
  split at hr
  ·rename_i ti hti
   split at hr
   ·rename_i e hk
    split at hr
    ·rename_i ei hei
     split at hr
     ·rename_i hn
      rw[jF]at hr
      obtain⟨cs,hcs,hr⟩:=bsm hr
      obtain⟨_,hvl,hr⟩:=bsm hr
      cases hr
      exact VF hc hI hd h hti hop hk hei hn.1 hn.2 (qe5 hvl) hcs
     ·cases hr
    ·cases hr
   ·cases hr
  ·cases hr
 --load
 ·rename_i t x hop
  split at hr
  ·rename_i ti hti
   split at hr
   ·rename_i h3
    simp only[kN]at hr
    rw[yX]at hr
    obtain⟨q,hq,hr⟩:=bsm hr
    obtain⟨q',hq',hr⟩:=bsm hr
    cases hr
    have e:∀{R:Type} (K:Kt R),zT 0 ti (zy st.sl x) (zK st.bx) st.hp K=zT 3 ti (zy st.sl x) (zK st.bx) st.hp K:=fun K=>rfl
    subst h3
    exact Oper.wp_mono (fun a' w' hA=>qdi hA hq') (qez hc hI hd 3 qg hti hop hq)
   ·by_cases h1:h=1
    ·subst h1
     exact qth hc hI hd hti hop hr
    ·exact qez hc hI hd h h1 hti hop hr
  ·cases hr
 --store
 ·rename_i t x y hop
  split at hr
  ·rename_i ti hti
   exact qte hc hI hd h hti hop hr
  ·cases hr
 --nilCheck
 ·rename_i x hop
  exact qex hI hd h hop hr
 --binOp
 ·rename_i op t x y yt hop
  exact zbx hc hI hd h hop hr
 --unOp
 ·rename_i op t x hop
  exact zev hI hd h hop hr
 --convert
 ·rename_i s d x hop
  split at hr
  ·rename_i si di hsi hdi
   exact qiy hc hI hd h hsi hdi hop hr
  ·cases hr
 --makeFunc
 ·rename_i f fs cs hop
  split at hr
  ·rename_i hfs
   obtain⟨xs,hxs,hr⟩:=bsm hr
   split at hr
   ·rename_i hall
    obtain⟨_,hK,hr⟩:=bsm hr
    cases hr
    exact qey hI hd h hop hfs hxs hall (Qq hK)
   ·cases hr
  ·rename_i hfs
   split at hr
   ·rename_i hcs
    obtain⟨xs,hxs,hr⟩:=bsm hr
    obtain⟨_,hall,hr⟩:=bsm hr
    cases hr
    exact qcj hI hd h hop hfs hcs hxs (Qq hall)
   ·cases hr
 --makeSlice
 ·rename_i t l m hop
  split at hr
  ·rename_i ti hti
   split at hr
   ·rename_i e hk
    split at hr
    ·rename_i ei hei
     obtain⟨lv,hlv,hr⟩:=bsm hr
     obtain⟨mv,hmv,hr⟩:=bsm hr
     obtain⟨n,hn,hr⟩:=bsm hr
     obtain⟨n',hn',hr⟩:=bsm hr
     obtain⟨_,hq,hr⟩:=bsm hr
     obtain⟨e1,h0,hf,hpos⟩:=zL hq
     exact qci hc hI hd h hti hop hk hei (jH hlv) (jH hmv) hn (by rw[e1];exact hn') h0 hf hpos hr
    ·cases hr
   ·cases hr
  ·cases hr
 --slice
 ·rename_i t x lo hi mx hop
  split at hr
  ·rename_i ti hti
   split at hr
   ·cases hr
   ·rename_i hmx
    exact qtf hc hI hd h hti hop (by cases hq:(mx.isSome&&!hi.isSome)<;>first|rfl|exact absurd hq hmx) hr
  ·cases hr
 --fieldAddr
 ·rename_i t x f hop
  split at hr
  ·rename_i ti hti
   exact qcl hc hI hd h hti hop hr
  ·cases hr
 --field
 ·rename_i t x f hop
  split at hr
  ·rename_i ti hti
   split at hr
   ·rename_i fs hk
    split at hr
    ·rename_i fo ft hfs
     split at hr
     ·rename_i fi hfi
      obtain⟨cs,hcs,hr⟩:=bsm hr
      rw[qH]at hr
      obtain⟨q,hq,hr⟩:=bsm hr
      cases hr
      exact qtj hc hI hd h hti hop hk hfs hfi hcs hq
     ·cases hr
    ·cases hr
   ·cases hr
  ·cases hr
 --indexAddr
 ·rename_i t x i hop
  split at hr
  ·rename_i ti hti
   exact qck hc hI hd h hti hop hr
  ·cases hr
 --index
 ·rename_i t x i hop
  split at hr
  ·rename_i ti hti
   split at hr
   ·exact qti hI hd h hop hr
   ·split at hr
    ·rename_i xi hxi
     split at hr
     ·rename_i n e hk
      split at hr
      ·rename_i ei hei
       obtain⟨cs,hcs,hr⟩:=bsm hr
       obtain⟨iv,hiv,hr⟩:=bsm hr
       obtain⟨j,hj,hr⟩:=bsm hr
       rw[qH]at hr
       obtain⟨q,hq,hr⟩:=bsm hr
       cases hr
       exact qnv hc hI hd h hxi hop hk hei hcs hiv hj hq
      ·cases hr
     ·cases hr
    ·cases hr
  ·cases hr
 --extract
 ·rename_i x i hop
  split at hr
  ·rename_i l hx
   split at hr
   ·rename_i y hy
    have ht:∃t,x= .tmp t:=by
     cases x with
     |tmp t=>exact⟨t,rfl⟩
     |const v=>
      simp only[zy]at hx
      split at hx
      ·split at hx<;>cases hx
      ·cases hx
      ·cases hx
     |global g=>cases hx
     |func f=>cases hx
    obtain⟨t,rfl⟩:=ht
    split at hr
    ·rename_i ti hti
     by_cases h1:h=1
     ·subst h1
      split at hr
      ·obtain⟨v,hv,hr⟩:=bsm hr
       cases hr
       exact Yt hI hd hop hx hy (.inl ⟨v,yK hv,rfl⟩)
      ·rw[if_pos rfl]at hr
       cases hr
       exact Yt hI hd hop hx hy (.inr rfl)
     ·split at hr
      ·obtain⟨v,hv,hr⟩:=bsm hr
       cases hr
       exact Kd hI hd h h1 hop hx hy (.inl ⟨v,yK hv,rfl⟩)
      ·cases hr
       exact Kd hI hd h h1 hop hx hy (.inr rfl)
    ·cases hr
   ·cases hr
  ·cases hr
 --makeMap
 ·rename_i t hop
  split at hr
  ·cases hr
   exact qix hI hd h hop
  ·cases hr
 --lookup
 ·rename_i t x i ok hop
  split at hr
  ·exact qnu hc hI hd h hop hr
  ·cases hr
 --mapUpdate
 ·rename_i t m k x hop
  split at hr
  ·exact qnt hc hI hd h hop hr
  ·cases hr
 --call
 ·rename_i cl hop
  split at hr
  ·rename_i b hcl
   exact zbw hc hI hd h hop hcl hr
  ·rename_i f hcl
   split at hr
   ·rename_i fn ti hF hti
    split at hr
    ·rename_i b hb
     exact qtl hc hI hd h hR hop hcl hF hb hr
    ·rename_i hb
     obtain⟨vs,hvs,hr⟩:=bsm hr
     obtain⟨z,hz,hr⟩:=bsm hr
     cases hr
     exact qnw hc hI hd h hop hcl hF hb hvs hz
   ·cases hr
  ·rename_i t hcl
   split at hr
   ·rename_i ti hti
    split at hr
    ·rename_i x hx
     split at hr
     ·rename_i h4
      subst h4
      obtain⟨p,hp,hr⟩:=bsm hr
      exact qnx hc hI hd hR hS hop hcl hx hp hr
     ·rename_i h4
      obtain⟨p,hp,hr⟩:=bsm hr
      exact qtk hc hI hd h h4 hR hS hop hcl hx hp hr
    ·cases hr
   ·cases hr
  ·cases hr
 ·cases hr
end
end Go.Proofs.YtoliekekdmfngaaGreat.AI
