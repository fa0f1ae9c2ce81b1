/- Texts that the proof of BoxFrames rests on, part 3. -/
import Derived.Test.YtoliekekdmfngaaGreatQBoxFrames2
import Derived.Scope
import Derived.Test.YtoliekekdmfngaaGreatProg
namespace Go.Proofs.YtoliekekdmfngaaGreat.AI
open Go
set_option linter.unusedVariables false
set_option linter.unusedSimpArgs false
set_option maxRecDepth 100000
set_option maxHeartbeats 0
section
variable {c:Cx}{C:Orc}{h:Nat}{ev ev':Operand->SV}
theorem Vo{R:Type}(vg:Nat->Option (Nat×Nat))(K:List AV->Option R):∀(l:List (Nat×Operand)) (cs:List AV),(∀p∈l,ev p.2=ev' p.2)->yA vg ev K l cs=yA vg ev' K l cs
 |[],cs,_=>rfl
 |(i,x)::r,cs,hl=>by
  simp only[yA]
  rw[hl (i,x) qe]
  split
  ·rfl
  ·congr 1;funext vs;congr 1;funext cs'
   exact Vo vg K r cs' fun p hp=>hl p (by simp[hp])
theorem qkq(x:Option Operand)(hx:∀y,x=some y->ev y=ev' y):opV ev x=opV ev' x:=by
 cases x with
 |none=>rfl
 |some y=>simp only[opV];rw[hx y rfl]
theorem qkz{l:List Operand}(hl:∀x∈l,ev x=ev' x):l.map ev=l.map ev':=List.map_congr_left hl
theorem qwm{R:Type}{o:Oper}{gb:Nat->Option (Nat×List AV)}{hp:Hp}{K:Kt R}(h1:∀x∈o.op.operands.toList,ev x=ev' x):
 qn c C h o ev gb hp K=qn c C h o ev' gb hp K:=by
 obtain⟨dst,op,type,pos,after,guard⟩:=o
 cases op<;>simp only[Op.operands]at h1
 case build t ps=>
  simp only[qn]
  have hps:∀p∈ps.toList,ev p.2=ev' p.2:=fun p hp=>h1 _ (ziu.mpr ⟨p,hp,rfl⟩)
  simp only[Vo _ _ ps.toList _ hps]
 case buildSlice t n ps=>
  simp only[qn]
  have hps:∀p∈ps.toList,ev p.2=ev' p.2:=fun p hp=>h1 _ (ziu.mpr ⟨p,hp,rfl⟩)
  simp only[Vo _ _ ps.toList _ hps]
 case makeFunc fn first captured=>
  cases fn<;>simp only[qn]
  rw[qkz (l:=captured.toList) fun x hx=>h1 x (by simp at hx⊢;exact .inr hx),qkz (l:=first.toList) fun x hx=>h1 x (by simp at hx⊢;exact .inl hx)]
 case makeMap t m=>cases m<;>rfl
 case slice t x lo hi mx=>
  simp only[qn]
  rw[h1 x qe,qkq lo (fun y hy=>h1 y (by subst hy;simp)),qkq hi (fun y hy=>h1 y (by subst hy;simp)),qkq mx (fun y hy=>h1 y (by subst hy;simp))]
 case call cl=>
  have ha:cl.args.toList.map ev=cl.args.toList.map ev':=qkz fun x hx=>h1 x (by simp[Call.operands];exact .inr (by simpa using hx))
  cases hc:cl.callee with
  |builtin b=>simp only[qn,hc,ha]
  |invoke r n=>simp only[qn,hc]
  |value f=>
   cases f with
   |tmp t=>
    have:=h1 (.tmp t) (by simp[Call.operands,hc])
    simp only[qn,hc,ha,this]
   |func f=>simp only[qn,hc,ha]
   |const v=>simp only[qn,hc]
   |global g=>simp only[qn,hc]
 all_goals simp only[qn]
 all_goals (first|rfl|(simp only[zie,zla,or_false,forall_eq_or_imp,forall_eq]at h1;(try obtain⟨h1,h2⟩:=h1);(try obtain⟨h2,h3⟩:=h2);simp only[*]))
theorem zfi{o:Oper}(h1:∀x∈o.op.operands.toList,ev x=ev' x):jR h o ev=jR h o ev'/\zn h o ev=zn h o ev':=by
 obtain⟨dst,op,type,pos,after,guard⟩:=o
 cases op<;>simp only[Op.operands]at h1<;>simp only[jR,zn]<;>try exact⟨trivial,trivial⟩
 case load t x=>rw[h1 x qe];exact⟨rfl,rfl⟩
 case store t x y=>rw[h1 x qe];exact⟨rfl,rfl⟩
def Ze(c:Cx)(C:Orc)(h:Nat)(o:Oper)(ev:Operand->SV)(gb gb':Nat->Option (Nat×List AV))(hp hp':Hp)(r:SV×BE×Hp):Prop:=
 qn c C h o ev gb' hp' k3=some (r.1,r.2.1,⟨if(zn h o ev).2.2=true then r.2.2.next else hp'.next,if(zn h o ev).2.1=true then r.2.2.get else hp'.get⟩)/\
 ((zn h o ev).2.2=false->r.2.2.next=hp.next)/\((zn h o ev).2.1=false->r.2.2.get=hp.get)/\∀k g cs,r.2.1=some (k,g,cs)->(jR h o ev).2=some k
theorem qp5{o:Oper}{gb gb':Nat->Option (Nat×List AV)}{hp hp':Hp}{r:SV×BE×Hp}{Z:Option SV}(hH:zn h o ev=(false,false,false))
 (hz:∀gb hp,qn c C h o ev gb hp k3=Z.bind fun s=>some (s,none,hp)) (hr:qn c C h o ev gb hp k3=some r):Ze c C h o ev gb gb' hp hp' r:=by
 rw[hz]at hr
 obtain⟨s,hs,hr⟩:=bsm hr
 cases hr
 unfold Ze
 rw[hz,hs,hH]
 exact⟨rfl,fun _=>rfl,fun _=>rfl,fun _ _ _ e=>by cases e⟩
theorem za5{p:Prop}[Decidable p](h:¬p):yk p=none:=if_neg h
theorem qqz{R:Type}(h2:h≠2){o:Oper}{b:Builtin}{ts:List TypeId}{as_:List SV}{hp:Hp}{K:SV->Hp->Option R}:
 WQ c h o b ts as_ hp K=(WQ c h o b ts as_ hp0 fun s _=>some s).bind fun s=>K s hp:=by
 unfold WQ
 repeat' split
 all_goals first
  |(simp[zh9,h2,za5];done)
  |rfl
  |(rw[vR];conv=>rhs;rw[vR]
    simp[zh9];done)
  |(exact absurd (show h=2 by assumption) h2)
theorem qli{o:Oper}(hop:match o.op with| .load _ _=>False| .store _ _ _=>False| .alloc _=>False| .box _ _=>False| .makeSlice _ _ _=>False| .makeMap _ _=>False| .lookup _ _ _ _=>False| .mapUpdate _ _ _ _=>False| .move _=>h≠3| .assign _=>h≠3| .call cl=>(match cl.callee with| .builtin _=>h≠2|_=>False)|_=>True):
 ∃Z:Option SV,∀gb hp,qn c C h o ev gb hp k3=Z.bind fun s=>some (s,none,hp):=by
 obtain⟨dst,op,type,pos,after,guard⟩:=o
 cases op<;>simp only at hop<;>try exact hop.elim
 case move x=>
  cases hti:c.tt type with
  |none=>exact⟨none,fun gb hp=>by simp only[qn,hti];rfl⟩
  |some ti=>exact⟨some (if h=1 then Wp ti.k (ev x)else Wp ti.k (ev x).ro),fun gb hp=>by simp only[qn,hti,if_neg hop];rfl⟩
 case assign x=>
  cases hti:c.tt type with
  |none=>exact⟨none,fun gb hp=>by simp only[qn,hti];rfl⟩
  |some ti=>exact⟨some (Wp ti.k (ev x)),fun gb hp=>by simp only[qn,hti,if_neg hop];rfl⟩
 case makeInterface t x=>exact⟨(yO c.P t).bind fun _=>(XF (ev x).ro).bind fun y=>(yk (vr y=true)).bind fun _=>some (.av (.ifc t y)),fun gb hp=>by simp only[qn,zh9];rfl⟩
 case pick x y z=>exact⟨KV (ev x) (ev y) (ev z) some,fun gb hp=>by simp only[qn];rw[Ys]⟩
 case build t ps=>
  cases hti:c.tn t with
  |none=>exact⟨none,fun gb hp=>by simp only[qn,hti];rfl⟩
  |some ti=>
   cases hk:ti.k with
   |st fs=>
    by_cases hall:fs.all (fun p=>(c.tn p.2).isSome)=true
    ·exact⟨(yA (KU c fs) ev some ps.toList (zJ ti.zero)).bind fun cs=>some (.av (.agg (cs.map ro1))),fun gb hp=>by
      simp only[qn,hti,hk,if_pos hall];rw[jJ];simp[zh9]⟩
    ·exact⟨none,fun gb hp=>by simp only[qn,hti,hk,if_neg hall];rfl⟩
   |ar n e=>
    cases hei:c.tn e with
    |none=>exact⟨none,fun gb hp=>by simp only[qn,hti,hk,hei];rfl⟩
    |some ei=>exact⟨(yA (fun i=>some (i*ei.size,ei.size)) ev some ps.toList (zJ ti.zero)).bind fun cs=>some (.av (.agg (cs.map ro1))),fun gb hp=>by
     simp only[qn,hti,hk,hei];rw[jJ];simp[zh9]⟩
   |_=>exact⟨none,fun gb hp=>by simp only[qn,hti,hk];rfl⟩
 case buildSlice t n ps=>
  cases hti:c.tn t with
  |none=>exact⟨none,fun gb hp=>by simp only[qn,hti];rfl⟩
  |some ti=>
   cases hk:ti.k with
   |sl e=>
    cases hei:c.tn e with
    |none=>exact⟨none,fun gb hp=>by simp only[qn,hti,hk,hei];rfl⟩
    |some ei=>
     by_cases hn:n*ei.size<=4096/\0<ei.size
     ·exact⟨(yA (fun i=>some (i*ei.size,ei.size)) ev some ps.toList (List.replicate n (zJ ei.zero)).flatten).bind fun cs=>(vh cs).bind fun _=>some (.av (.us ei.size (cs.map ro1))),fun gb hp=>by
       simp only[qn,hti,hk,hei,if_pos hn];rw[jJ];simp[zh9]⟩
     ·exact⟨none,fun gb hp=>by simp only[qn,hti,hk,hei,if_neg hn];rfl⟩
   |_=>exact⟨none,fun gb hp=>by simp only[qn,hti,hk];rfl⟩
 case nilCheck x=>
  cases hx:ev x with
  |lp k g off=>exact⟨some (.lp k g off),fun gb hp=>by simp only[qn,hx];rfl⟩
  |av y=>exact⟨(WH y).bind fun _=>some (.av y),fun gb hp=>by simp only[qn,hx];simp[zh9]⟩
  |_=>exact⟨none,fun gb hp=>by simp only[qn,hx];rfl⟩
 case binOp op t x y yt=>exact⟨qlu c op t x y (ev x) (ev y) some,fun gb hp=>by simp only[qn];rw[VR]⟩
 case unOp op t x=>exact⟨(xy (ev x)).bind fun v=>(unV c.P op v).bind fun z=>some (.sv z),fun gb hp=>by simp only[qn];simp[zh9]⟩
 case convert s d x=>
  cases hs:c.tn s with
  |none=>exact⟨none,fun gb hp=>by simp only[qn,hs];rfl⟩
  |some si=>
   cases hd:c.tn d with
   |none=>exact⟨none,fun gb hp=>by simp only[qn,hs,hd];rfl⟩
   |some di=>exact⟨Vy c h s d si di (ev x) some,fun gb hp=>by simp only[qn,hs,hd];rw[YC]⟩
 case makeFunc fn fs cs=>
  cases fn with
  |func f=>
   by_cases hf:fs.toList.isEmpty=true
   ·exact⟨(JY (cs.toList.map ev)).bind fun xs=>(Xh xs).bind fun _=>(VB (Nat.blt f 4294967296)).bind fun _=>some (.av (.fn f (xs.map ro1))),fun gb hp=>by
     simp only[qn,if_pos hf,zh9]
     congr 1⟩
   ·by_cases hc:cs.toList.isEmpty=true
    ·exact⟨(JY (fs.toList.map ev)).bind fun xs=>(Xh xs).bind fun _=>some (.av (.fn (4294967296+f) (xs.map ro1))),fun gb hp=>by
      simp only[qn,if_neg hf,if_pos hc,zh9]
      congr 1⟩
    ·exact⟨none,fun gb hp=>by simp only[qn,if_neg hf,if_neg hc];rfl⟩
  |_=>exact⟨none,fun gb hp=>rfl⟩
 case slice t x lo hi mx=>
  cases hti:c.tn t with
  |none=>exact⟨none,fun gb hp=>by simp only[qn,hti];rfl⟩
  |some ti=>
   by_cases hm:(mx.isSome&&!hi.isSome)=true
   ·exact⟨none,fun gb hp=>by simp only[qn,hti,if_pos hm];rfl⟩
   ·exact⟨(opV ev lo).bind fun l=>(opV ev hi).bind fun u=>(opV ev mx).bind fun m=>Zo c h ti t (ev x) l u m some,fun gb hp=>by
     simp only[qn,hti,if_neg hm,zh9]
     congr 1;funext l;congr 1;funext u;congr 1;funext m
     rw[Zn]⟩
 case fieldAddr t x f=>
  cases hti:c.tn t with
  |none=>exact⟨none,fun gb hp=>by simp only[qn,hti];rfl⟩
  |some ti=>exact⟨yh c ti (ev x) f some,fun gb hp=>by simp only[qn,hti];rw[kP]⟩
 case field t x f=>
  cases hti:c.tn t with
  |none=>exact⟨none,fun gb hp=>by simp only[qn,hti];rfl⟩
  |some ti=>
   cases hk:ti.k with
   |st fs=>
    cases hf:fs[f]? with
    |none=>exact⟨none,fun gb hp=>by simp only[qn,hti,hk,hf];rfl⟩
    |some q=>
     obtain⟨fo,ft⟩:=q
     cases hfi:c.tn ft with
     |none=>exact⟨none,fun gb hp=>by simp only[qn,hti,hk,hf,hfi];rfl⟩
     |some fi=>exact⟨(VW (ev x)).bind fun cs=>(jz fi 0 cs fo fun s l=>some (s,l)).bind fun p=>some p.1,fun gb hp=>by
      simp only[qn,hti,hk,hf,hfi,zh9]
      congr 1;funext cs;rw[qE];rfl⟩
   |_=>exact⟨none,fun gb hp=>by simp only[qn,hti,hk];rfl⟩
 case indexAddr t x i=>
  cases hti:c.tn t with
  |none=>exact⟨none,fun gb hp=>by simp only[qn,hti];rfl⟩
  |some ti=>exact⟨ye c h ti (ev x) (ev i) some,fun gb hp=>by simp only[qn,hti];rw[kF]⟩
 case index t x i=>
  cases hti:c.tt type with
  |none=>exact⟨none,fun gb hp=>by simp only[qn,hti];rfl⟩
  |some ti=>
   by_cases hs:qek ti.k=true
   ·exact⟨(qbg (ev x)).bind fun a=>(xy (ev i)).bind fun iv=>(ixV c.P t a iv).bind fun z=>some (.sv z),fun gb hp=>by simp only[qn,hti,if_pos hs];simp[zh9]⟩
   ·cases hxi:c.tn t with
    |none=>exact⟨none,fun gb hp=>by simp only[qn,hti,if_neg hs,hxi];rfl⟩
    |some xi=>
     cases hk:xi.k with
     |ar n e=>
      cases hei:c.tn e with
      |none=>exact⟨none,fun gb hp=>by simp only[qn,hti,if_neg hs,hxi,hk,hei];rfl⟩
      |some ei=>exact⟨(VW (ev x)).bind fun cs=>(xy (ev i)).bind fun iv=>(idx n iv).bind fun j=>(jz ei 0 cs (j*ei.size) fun s l=>some (s,l)).bind fun p=>some p.1,fun gb hp=>by
       simp only[qn,hti,if_neg hs,hxi,hk,hei,zh9]
       congr 1;funext cs;congr 1;funext iv;congr 1;funext j;rw[qE];rfl⟩
     |_=>exact⟨none,fun gb hp=>by simp only[qn,hti,if_neg hs,hxi,hk];rfl⟩
 case extract x i=>
  cases hx:ev x with
  |tp l=>
   cases hl:l[i]? with
   |none=>exact⟨none,fun gb hp=>by simp only[qn,hx,hl];rfl⟩
   |some y=>
    cases hti:c.tt type with
    |none=>exact⟨none,fun gb hp=>by simp only[qn,hx,hl,hti];rfl⟩
    |some ti=>
     by_cases hs:qek ti.k=true
     ·exact⟨(vy y).bind fun v=>some (.sv v),fun gb hp=>by simp only[qn,hx,hl,hti,if_pos hs];simp[zh9]⟩
     ·by_cases h1:h=1
      ·exact⟨some (.av (ro y)),fun gb hp=>by simp only[qn,hx,hl,hti,if_neg hs,if_pos h1];rfl⟩
      ·exact⟨some (.av y),fun gb hp=>by simp only[qn,hx,hl,hti,if_neg hs,if_neg h1];rfl⟩
  |_=>exact⟨none,fun gb hp=>by simp only[qn,hx];rfl⟩
 case call cl=>
  cases hc:cl.callee with
  |builtin b=>
   simp only[hc]at hop
   exact⟨WQ c h ⟨dst,.call cl,type,pos,after,guard⟩ b cl.argTypes.toList (cl.args.toList.map ev) hp0 fun s _=>some s,fun gb hp=>by simp only[qn,hc];rw[qqz hop]⟩
  |invoke r n=>simp only[hc]at hop
  |value f=>simp only[hc]at hop
 all_goals exact⟨none,fun gb hp=>rfl⟩
end
section
variable {c:Cx}{C:Orc}{h:Nat}{ev:Operand->SV}
theorem Zv{a b:Hp}(h1:a.next=b.next)(h2:a.get=b.get):a=b:=by
 cases a;cases b;simp only at h1 h2;subst h1;subst h2;rfl
theorem qt5{a b:Hp}(h:a.get=b.get):a.rd=b.rd:=by
 funext x y;simp only[Hp.rd,h]
theorem qgs{a b:Hp}(h:a.get=b.get)(x g:Nat)(cs:List AV):(a.put x g cs).get=(b.put x g cs).get:=by
 simp only[Hp.put,h]
theorem qy5{a b:Hp}(h:a.get=b.get):a.rdM=b.rdM:=by
 funext x;simp only[Hp.rdM,h]
theorem wz{o:Oper}{gb gb':Nat->Option (Nat×List AV)}{hp hp':Hp}{r:SV×BE×Hp}(hH:zn h o ev=(true,true,true))(hg:qn c C h o ev gb' hp k3=qn c C h o ev gb hp k3)
 (hn:r.2.1=none) (hr:qn c C h o ev gb hp k3=some r) (hA:(zn h o ev).1=true\/(zn h o ev).2.1=true->hp'.get=hp.get)
 (hB:(zn h o ev).2.2=true->hp'.next=hp.next):Ze c C h o ev gb gb' hp hp' r:=by
 unfold Ze
 rw[hH]at hA hB⊢
 have e:hp'=hp:=Zv (hB rfl) (hA (.inl rfl))
 subst e
 rw[hg,hr]
 exact⟨rfl,fun e=>(by cases e),fun e=>(by cases e),fun k g cs e=>by rw[hn]at e;cases e⟩
theorem qef{ti:TI}{a:SV}{gb:Nat->Option (Nat×List AV)}{hp:Hp}{r:SV×BE×Hp}(hr:zY 0 ti a gb hp k3=some r):r.2.1=none:=by
 unfold zY at hr
 split at hr
 ·split at hr
  ·split at hr
   ·rw[qE]at hr
    obtain⟨q,hq,hr⟩:=bsm hr
    cases hr;rfl
   ·cases hr
  ·cases hr
 ·rw[if_neg qf,qE]at hr
  obtain⟨q,hq,hr⟩:=bsm hr
  cases hr;rfl
 ·obtain⟨q,hq,hr⟩:=bsm hr
  obtain⟨cs,hcs,hr⟩:=bsm hr
  rw[qE]at hr
  obtain⟨q,hq,hr⟩:=bsm hr
  cases hr;rfl
 ·cases hr
theorem qp4{o:Oper}{t:TypeId}{x:Operand}(hop:o.op= .load t x)(h3:h=3){gb gb':Nat->Option (Nat×List AV)}{hp hp':Hp}{r:SV×BE×Hp}(hr:qn c C h o ev gb hp k3=some r)
 (hb:∀k,(jR h o ev).1=some k\/(jR h o ev).2=some k->gb' k=gb k) (hA:(zn h o ev).1=true\/(zn h o ev).2.1=true->hp'.get=hp.get)
 (hB:(zn h o ev).2.2=true->hp'.next=hp.next):Ze c C h o ev gb gb' hp hp' r:=by
 subst h3
 have e1:∀gb hp,qn c C 3 o ev gb hp k3=(match c.tn t with|some ti=>zY 0 ti (ev x) gb hp fun s b q=>qqe ti.k q s fun s' q'=>k3 s' b q'|none=>none):=fun gb hp=>by simp only[qn,hop]<;>rfl
 have eH:zn 3 o ev=(true,true,true):=by
  simp only[zn,hop]
  cases ev x<;>rfl
 have eB:∀k g off,ev x= .lp k g off->gb' k=gb k:=fun k g off e=>hb k (by simp[jR,hop,e])
 cases hti:c.tn t with
 |none=>rw[e1,hti]at hr;cases hr
 |some ti=>
  refine wz eH ?_ ?_ hr hA hB
  ·rw[e1,e1,hti]
   simp only
   unfold zY
   cases hx:ev x with
   |lp k g off=>simp only[eB k g off hx]
   |_=>rfl
  ·rw[e1,hti]at hr
   simp only[vm]at hr
   rw[xn]at hr
   obtain⟨q,hq,hr⟩:=bsm hr
   obtain⟨q',hq',hr⟩:=bsm hr
   cases hr
   have:=qef hq
   exact this
theorem qvc{ti:TI}{hp hp':Hp}{y:AV}{p:Nat×Nat×Nat}(hy:zP y=some p){cs:List AV}(h1:h≠1)(hcs:hp.rd p.1 p.2.1=some cs){s:SV×List AV}(hs:jz ti h cs p.2.2 (fun s cs'=>some (s,cs'))=some s)
 (hq:yH (y,match yJ ti.k with|true=>ti.size|false=>1) hp'.get=yH (y,match yJ ti.k with|true=>ti.size|false=>1) hp.get):
 ∃cs',hp'.rd p.1 p.2.1=some cs'/\∃s',jz ti h cs' p.2.2 (fun s cs'=>some (s,cs'))=some s'/\s'.1=s.1:=by
 obtain⟨hg,h0⟩:hp.get p.1=some (0,cs)/\p.2.1=0:=by
  unfold Hp.rd at hcs
  obtain⟨z,hz,hcs⟩:=bsm hcs
  split at hcs
  ·rename_i e
   cases hcs
   refine⟨?_,e.2⟩
   rw[hz]
   obtain⟨z1,z2⟩:=z
   have:z1=0:=by have:=e.1;have:=e.2;omega
   subst this;rfl
  ·cases hcs
 have key:∀n,yH (y,n) hp.get=(qo cs p.2.2 n).map (List.map ro1):=by
  intro n
  simp only[yH,hy,hg,zib,if_true]
 have key':∀n l,yH (y,n) hp'.get=some l->∃cs',hp'.rd p.1 p.2.1=some cs'/\∃l',qo cs' p.2.2 n=some l'/\l'.map ro1=l:=by
  intro n l hl
  unfold yH at hl
  simp only[hy,zib]at hl
  obtain⟨z,hz,hl⟩:=bsm hl
  split at hl
  ·rename_i e
   obtain⟨l',hl',rfl⟩:=zkp.mp hl
   refine⟨z.2,?_,l',hl',rfl⟩
   have hz:hp'.get p.1=some z:=hz
   have e:z.1=0:=e
   simp only[Hp.rd,hz,zib,e,h0,and_self,if_true]
  ·cases hl
 unfold jz at hs⊢
 split at hs
 ·rename_i hsc
  have hag:yJ ti.k=false:=by cases hk:ti.k<;>rw[hk]at hsc<;>first|rfl|cases hsc
  rw[hag]at hq
  obtain⟨v,hv,hs⟩:=bsm hs
  cases hs
  have hx:=kJ hv
  have hlt:=(zih.mp hx).1
  have e1:qo cs p.2.2 1=some [.sc v]:=by
   unfold qo
   rw[if_pos qc]
   congr 1
   obtain⟨_,h2⟩:=zih.mp hx
   rw[zi2 hlt,h2];rfl
  rw[key,e1]at hq
  obtain⟨cs',hr,l',hl',e⟩:=key' 1 _ hq
  refine⟨cs',hr,(.sv v,cs'),?_,rfl⟩
  have e2:cs'[p.2.2]?=some (.sc v):=by
   obtain⟨hle,rfl⟩:=zM hl'
   have hlt':p.2.2<cs'.length:=qc
   rw[zi2 hlt']at e
   have e:ro1 cs'[p.2.2]= .sc v:=(List.cons.inj e).1
   rw[zic hlt']
   cases hy:cs'[p.2.2]<;>rw[hy]at e<;>first|exact congrArg some e|cases e
  have e3:qi cs' p.2.2=some v:=by simp[qi,e2,vy]
  rw[if_pos hsc,e3];rfl
 ·rename_i hsc
  simp only[if_neg hsc]
  split at hs
  ·rename_i hag
   rw[hag]at hq
   obtain⟨l,hl,hs⟩:=bsm hs
   cases hs
   rw[key,hl]at hq
   obtain⟨cs',hr,l',hl',e⟩:=key' ti.size _ hq
   refine⟨cs',hr,(.av (.agg (l'.map ro1)),cs'),?_,by rw[e]⟩
   rw[if_pos hag,hl']
   simp only[zib,if_neg h1]
  ·rename_i hag
   have hag':yJ ti.k=false:=by cases h:yJ ti.k<;>first|rfl|exact absurd h hag
   rw[hag']at hq
   obtain⟨x,hx,hs⟩:=bsm hs
   cases hs
   have hx:cs[p.2.2]?=some x:=hx
   have hlt:=(zih.mp hx).1
   have e1:qo cs p.2.2 1=some [x]:=by
    unfold qo
    rw[if_pos qc]
    congr 1
    obtain⟨_,h2⟩:=zih.mp hx
    rw[zi2 hlt,h2];rfl
   rw[key,e1]at hq
   obtain⟨cs',hr,l',hl',e⟩:=key' 1 _ hq
   obtain⟨hle,rfl⟩:=zM hl'
   have hlt':p.2.2<cs'.length:=qc
   rw[zi2 hlt']at e
   have e:ro1 cs'[p.2.2]=ro1 x:=(List.cons.inj e).1
   refine⟨cs',hr,(.av (ro1 cs'[p.2.2]),cs'),?_,by rw[e]⟩
   have e3:qt cs' p.2.2=some cs'[p.2.2]:=zic hlt'
   simp only[if_neg hag,e3,zib,if_neg h1]
theorem qvb{o:Oper}{t:TypeId}{x:Operand}(hop:o.op= .load t x)(h3:h≠3){gb gb':Nat->Option (Nat×List AV)}{hp hp':Hp}{r:SV×BE×Hp}(hr:qn c C h o ev gb hp k3=some r)
 (hb:∀k,(jR h o ev).1=some k\/(jR h o ev).2=some k->gb' k=gb k) (hA:(zn h o ev).1=true\/(zn h o ev).2.1=true->hp'.get=hp.get)
 (hL:∀q,qg9 h o c.tn ev=some q->yH q hp'.get=yH q hp.get):Ze c C h o ev gb gb' hp hp' r:=by
 have e1:∀gb hp,qn c C h o ev gb hp k3=(match c.tn t with|some ti=>zY h ti (ev x) gb hp k3|none=>none):=fun gb hp=>by
  simp only[qn,hop]
  cases c.tn t with
  |none=>rfl
  |some ti=>simp only[if_neg h3]
 have eB:jR h o ev=(match ev x with| .lp k _ _=>if h=1 then(none,some k)else(some k,none)|_=>(none,none)):=by simp only[jR,hop]<;>rfl
 have h3b:(h==3)=false:=by simpa using h3
 have eH:zn h o ev=(match ev x with| .av _=>(h==1,h==1,false)|_=>(false,false,false)):=by
  simp only[zn,hop,h3b,Bool.or_false]
  cases ev x<;>rfl
 unfold Ze
 rw[e1]at hr⊢
 rw[eH]at hA⊢
 rw[eB]at hb⊢
 cases hti:c.tn t with
 |none=>rw[hti]at hr;cases hr
 |some ti=>
  rw[hti]at hr
  simp only at hr⊢
  unfold zY at hr⊢
  cases hx:ev x with
  |lp k g off=>
   rw[hx]at hr hb
   simp only at hr hb⊢
   have hg:gb' k=gb k:=by
    apply hb
    by_cases h1:h=1<;>simp[h1]
   rw[hg]
   cases hgb:gb k with
   |none=>rw[hgb]at hr;cases hr
   |some q=>
    obtain⟨g',cs⟩:=q
    rw[hgb]at hr
    simp only at hr⊢
    by_cases hgg:g=g'
    ·simp only[if_pos hgg]at hr⊢
     rw[qE]at hr⊢
     obtain⟨q,hq,hr⟩:=bsm hr
     cases hr
     rw[hq]
     refine⟨rfl,fun _=>rfl,fun _=>rfl,fun k' g' cs' e=>?_⟩
     by_cases h1:h=1
     ·simp only[h1,if_true]at e⊢
      cases e;rfl
     ·simp only[h1,if_false]at e;cases e
    ·simp only[if_neg hgg]at hr;cases hr
  |rv cs=>
   rw[hx]at hr
   simp only at hr⊢
   by_cases h1:h=1
   ·simp only[if_pos h1]at hr;cases hr
   ·simp only[if_neg h1]at hr⊢
    rw[qE]at hr⊢
    obtain⟨q,hq,hr⟩:=bsm hr
    cases hr
    rw[hq]
    exact⟨rfl,fun _=>rfl,fun _=>rfl,fun _ _ _ e=>by cases e⟩
  |av y=>
   rw[hx]at hr hA
   simp only at hr hA⊢
   obtain⟨p,hp1,hr⟩:=bsm hr
   obtain⟨cs,hcs,hr⟩:=bsm hr
   by_cases h1:h=1
   ·have hne:(h==1)=true:=by simp[h1]
    have hge:hp'.get=hp.get:=hA (.inl hne)
    rw[hp1,qt5 hge]
    simp only[zib,hcs]
    rw[qE]at hr⊢
    obtain⟨q,hq,hr⟩:=bsm hr
    cases hr
    rw[hq]
    refine⟨?_,fun _=>?_,fun e=>?_,fun _ _ _ e=>by cases e⟩
    ·simp only[h1,if_true,zib,beq_self_eq_true,zjl,if_false]
     refine congrArg some (congrArg (Prod.mk _) (congrArg (Prod.mk _) (Zv rfl (qgs hge _ _ _))))
    ·simp only[if_pos h1];rfl
    ·have e':(h==1)=false:=e
     rw[hne]at e';cases e'
   ·have hne:(h==1)=false:=by simpa using h1
    have hq:=hL _ (by simp only[qg9,hop,hx,hne,h3b,Bool.or_false,hti];rfl)
    rw[hp1]
    simp only[zib]
    rw[qE]at hr
    obtain⟨s,hs,hr⟩:=bsm hr
    obtain⟨cs',hcs',hs'⟩:=qvc hp1 h1 hcs hs hq
    rw[hcs']
    simp only[zib]
    rw[qE]
    obtain⟨s',hs'',e⟩:=hs'
    rw[hs'']
    simp only[zib,if_neg h1]at hr⊢
    cases hr
    rw[e]
    refine⟨?_,fun _=>rfl,fun _=>rfl,fun _ _ _ e=>by cases e⟩
    simp only[hne,zjl,if_false]
  |_=>rw[hx]at hr;cases hr
theorem qp3{o:Oper}{t:TypeId}{x y:Operand}(hop:o.op= .store t x y){gb gb':Nat->Option (Nat×List AV)}{hp hp':Hp}{r:SV×BE×Hp}(hr:qn c C h o ev gb hp k3=some r)
 (hb:∀k,(jR h o ev).1=some k\/(jR h o ev).2=some k->gb' k=gb k) (hA:(zn h o ev).1=true\/(zn h o ev).2.1=true->hp'.get=hp.get):Ze c C h o ev gb gb' hp hp' r:=by
 have e1:∀gb hp,qn c C h o ev gb hp k3=(match c.tn t with|some ti=>xf ti (ev x) (ev y) gb hp k3|none=>none):=fun gb hp=>by simp only[qn,hop]<;>rfl
 have eB:jR h o ev=(match ev x with| .lp k _ _=>(none,some k)|_=>(none,none)):=by simp only[jR,hop]<;>rfl
 have eH:zn h o ev=(match ev x with| .av _=>(false,true,false)|_=>(false,false,false)):=by simp only[zn,hop]<;>rfl
 unfold Ze
 rw[e1]at hr⊢
 rw[eH]at hA⊢
 rw[eB]at hb⊢
 cases hti:c.tn t with
 |none=>rw[hti]at hr;cases hr
 |some ti=>
  rw[hti]at hr
  simp only at hr⊢
  unfold xf at hr⊢
  obtain⟨vs,hvs,hr⟩:=bsm hr
  rw[hvs]
  simp only[zib]
  cases hx:ev x with
  |lp k g off=>
   rw[hx]at hr hb
   simp only at hr hb⊢
   have hg:gb' k=gb k:=hb k (.inr rfl)
   rw[hg]
   cases hgb:gb k with
   |none=>rw[hgb]at hr;cases hr
   |some q=>
    obtain⟨g',cs⟩:=q
    rw[hgb]at hr
    simp only at hr⊢
    by_cases hgg:g=g'
    ·simp only[if_pos hgg]at hr⊢
     obtain⟨q,hq,hr⟩:=bsm hr
     cases hr
     rw[hq]
     exact⟨rfl,fun _=>rfl,fun _=>rfl,fun k' g' cs' e=>by cases e;rfl⟩
    ·simp only[if_neg hgg]at hr;cases hr
  |av z=>
   rw[hx]at hr hA
   simp only at hr hA⊢
   have hge:hp'.get=hp.get:=hA (.inr trivial)
   obtain⟨p,hp1,hr⟩:=bsm hr
   obtain⟨cs,hcs,hr⟩:=bsm hr
   obtain⟨q,hq,hr⟩:=bsm hr
   cases hr
   rw[hp1,qt5 hge]
   simp only[zib,hcs,hq,if_true,zjl,if_false]
   refine⟨?_,fun _=>rfl,fun e=>(by cases e),fun _ _ _ e=>by cases e⟩
   exact congrArg some (congrArg (Prod.mk _) (congrArg (Prod.mk _) (Zv rfl (qgs hge _ _ _))))
  |_=>rw[hx]at hr;cases hr
theorem qng{o:Oper}{cs:List AV}{gb gb':Nat->Option (Nat×List AV)}{hp hp':Hp}{r:SV×BE×Hp}{W:Option (List AV)}
 (he:∀gb hp,qn c C h o ev gb hp k3=W.bind fun cs=>if h=2 then k3 (.av (.ptr hp.next 0 0)) none (hp.new cs)else
  match o.dst with
  |some d=>let g:=match gb d with|some (g,_)=>g+1|none=>0
   k3 (.lp d g 0) (some (d,g,cs)) hp
  |none=>none)
 (eB:jR h o ev=if h=2 then(none,none)else(none,o.dst)) (eH:zn h o ev=(false,h==2,h==2))
 (hr:qn c C h o ev gb hp k3=some r) (hb:∀k,(jR h o ev).1=some k\/(jR h o ev).2=some k->gb' k=gb k) (hA:(zn h o ev).1=true\/(zn h o ev).2.1=true->hp'.get=hp.get)
 (hB:(zn h o ev).2.2=true->hp'.next=hp.next):Ze c C h o ev gb gb' hp hp' r:=by
 unfold Ze
 rw[he]at hr⊢
 rw[eH]at hA hB⊢
 rw[eB]at hb⊢
 obtain⟨cs,hcs,hr⟩:=bsm hr
 rw[hcs]
 simp only[zib]
 by_cases h2:h=2
 ·simp only[h2,if_true,beq_self_eq_true]at hr hA hB⊢
  cases hr
  have hg:=hA (.inr trivial)
  have hn:=hB trivial
  refine⟨?_,fun e=>(by cases e),fun e=>(by cases e),fun _ _ _ e=>by cases e⟩
  show some (SV.av (.ptr hp'.next 0 0),(none:BE),hp'.new cs)=some (SV.av (.ptr hp.next 0 0),none,⟨(hp.new cs).next,(hp.new cs).get⟩)
  rw[Zv hn hg]
 ·have hne:(h==2)=false:=by simpa using h2
  simp only[if_neg h2,hne,zjl,if_false]at hr hb⊢
  cases hd:o.dst with
  |none=>rw[hd]at hr;cases hr
  |some d=>
   rw[hd]at hr hb
   simp only at hr hb⊢
   have hg:=hb d (.inr rfl)
   rw[hg]
   cases hr
   exact⟨rfl,fun _=>rfl,fun _=>rfl,fun k g cs e=>by cases e;rfl⟩
theorem qa5{ti:TI}{f:FuncId}{caps:List AV}{as_:List SV}{hp hp':Hp}{r:SV×BE×Hp}(hr:jm c C h ti f caps as_ hp k3=some r)(hA:h=2\/h=4->hp'.get=hp.get)(hB:h=2\/h=4->hp'.next=hp.next):
 jm c C h ti f caps as_ hp' k3=some (r.1,r.2.1,if h=2\/h=4 then r.2.2 else hp')/\(¬(h=2\/h=4)->r.2.2=hp)/\r.2.1=none:=by
 by_cases h24:h=2\/h=4
 ·rw[Zv (hB h24) (hA h24),hr,if_pos h24]
  refine⟨rfl,fun e=>absurd h24 e,?_⟩
  unfold jm at hr
  obtain⟨xs,hxs,hr⟩:=bsm hr
  rcases h24 with h2|h4
  ·rw[if_pos h2]at hr
   obtain⟨p,hp1,hr⟩:=bsm hr
   rw[zH]at hr
   obtain⟨s,hs,hr⟩:=bsm hr
   cases hr;rfl
  ·rw[if_neg qc,if_pos h4]at hr
   obtain⟨p,hp1,hr⟩:=bsm hr
   rw[zH]at hr
   obtain⟨s,hs,hr⟩:=bsm hr
   cases hr;rfl
 ·have h2:h≠2:=fun e=>h24 (.inl e)
  have h4:h≠4:=fun e=>h24 (.inr e)
  unfold jm at hr⊢
  obtain⟨xs,hxs,hr⟩:=bsm hr
  rw[hxs]
  simp only[zib]
  simp only[if_neg h2,if_neg h4,if_neg h24]at hr⊢
  obtain⟨u,hu,hr⟩:=bsm hr
  rw[hu]
  simp only[zib]
  obtain⟨p,hp1,hr⟩:=bsm hr
  rw[hp1]
  simp only[zib]
  obtain⟨u',hu',hr⟩:=bsm hr
  rw[hu']
  simp only[zib]
  rw[zH]at hr⊢
  obtain⟨s,hs,hr⟩:=bsm hr
  cases hr
  rw[hs]
  exact⟨rfl,fun _=>rfl,rfl⟩
theorem qqm{o:Oper}{gb gb':Nat->Option (Nat×List AV)}{hp hp':Hp}{r:SV×BE×Hp}(hr:qn c C h o ev gb hp k3=some r)
 (hb:∀k,(jR h o ev).1=some k\/(jR h o ev).2=some k->gb' k=gb k) (hA:(zn h o ev).1=true\/(zn h o ev).2.1=true->hp'.get=hp.get)
 (hB:(zn h o ev).2.2=true->hp'.next=hp.next) (hL:∀q,qg9 h o c.tn ev=some q->yH q hp'.get=yH q hp.get):Ze c C h o ev gb gb' hp hp' r:=by
 have pure:zn h o ev=(false,false,false)->(match o.op with| .load _ _=>False| .store _ _ _=>False| .alloc _=>False| .box _ _=>False| .makeSlice _ _ _=>False| .makeMap _ _=>False| .lookup _ _ _ _=>False| .mapUpdate _ _ _ _=>False| .move _=>h≠3| .assign _=>h≠3| .call cl=>(match cl.callee with| .builtin _=>h≠2|_=>False)|_=>True)->Ze c C h o ev gb gb' hp hp' r:=by
  intro hH hop
  obtain⟨Z,hz⟩:=qli (c:=c) (C:=C) (h:=h) (ev:=ev) hop
  exact qp5 hH hz hr
 cases hop:o.op
 case load t x=>
  by_cases h3:h=3
  ·exact qp4 hop h3 hr hb hA hB
  ·exact qvb hop h3 hr hb hA hL
 case move x=>
  by_cases h3:h=3
  ·subst h3
   refine wz (by simp only[zn,hop];rfl) (by simp only[qn,hop]) ?_ hr hA hB
   simp only[qn,hop]at hr
   split at hr
   ·rw[if_pos trivial,vm]at hr
    obtain⟨q,hq,hr⟩:=bsm hr
    cases hr;rfl
   ·cases hr
  ·have h3b:(h==3)=false:=by simpa using h3
   exact pure (by simp only[zn,hop,h3b]) (by simp only[hop];exact h3)
 case assign x=>
  by_cases h3:h=3
  ·subst h3
   refine wz (by simp only[zn,hop];rfl) (by simp only[qn,hop]) ?_ hr hA hB
   simp only[qn,hop]at hr
   split at hr
   ·rw[if_pos trivial,vm]at hr
    obtain⟨q,hq,hr⟩:=bsm hr
    cases hr;rfl
   ·cases hr
  ·have h3b:(h==3)=false:=by simpa using h3
   exact pure (by simp only[zn,hop,h3b]) (by simp only[hop];exact h3)
 case makeMap t m=>
  have hm:m=none/\h=2:=by
   cases m with
   |some m=>simp only[qn,hop]at hr;cases hr
   |none=>
    simp only[qn,hop]at hr
    split at hr
    ·exact⟨rfl,by assumption⟩
    ·cases hr
  obtain⟨rfl,h2⟩:=hm
  refine wz (by simp only[zn,hop]) (by simp only[qn,hop]) ?_ hr hA hB
  simp only[qn,hop,if_pos h2]at hr
  cases hr;rfl
 case mapUpdate t m k x=>
  refine wz (by simp only[zn,hop]) (by simp only[qn,hop]) ?_ hr hA hB
  simp only[qn,hop]at hr
  split at hr
  ·rw[Qm]at hr
   obtain⟨q,hq,hr⟩:=bsm hr
   cases hr;rfl
  ·cases hr
 case lookup t x i ok=>
  have eH:zn h o ev=(true,false,false):=by simp only[zn,hop]
  have eB:jR h o ev=(none,none):=by simp only[jR,hop]
  unfold Ze
  rw[eH]at hA⊢
  rw[eB]
  have hge:hp'.get=hp.get:=hA (.inl rfl)
  simp only[qn,hop]at hr⊢
  split at hr
  ·rw[vi]at hr
   obtain⟨s,hs,hr⟩:=bsm hr
   cases hr
   have e:xQ c t (ev x) (ev i) ok hp' some=xQ c t (ev x) (ev i) ok hp some:=by
    unfold xQ
    rw[qy5 hge]
   rename_i h2
   rw[if_pos h2,vi,e,hs]
   exact⟨rfl,fun _=>rfl,fun _=>rfl,fun _ _ _ e=>by cases e⟩
  ·cases hr
 case store t x y=>exact qp3 hop hr hb hA
 case alloc t=>
  refine qng (cs:=[]) (W:=(c.tn t).map fun ti=>zJ ti.zero) (fun gb hp=>?_) (by simp only[jR,hop]) (by simp only[zn,hop]) hr hb hA hB
  simp only[qn,hop]
  cases c.tn t<;>rfl
 case box t x=>
  refine qng (cs:=[]) (W:=(c.tn t).bind fun ti=>(valC ti.size (ev x)).map fun vs=>vs.map ro1) (fun gb hp=>?_) (by simp only[jR,hop]) (by simp only[zn,hop]) hr hb hA hB
  simp only[qn,hop]
  cases c.tn t with
  |none=>rfl
  |some ti=>
   simp only[zib]
   cases valC ti.size (ev x)<;>rfl
 case makeSlice t l m=>
  have eH:zn h o ev=(false,h==2,h==2):=by simp only[zn,hop]
  have eB:jR h o ev=(none,none):=by simp only[jR,hop]
  have key:∃W:Option (Nat×List AV×Nat),∀gb hp,qn c C h o ev gb hp k3=W.bind fun q=>if h=2 then k3 (.av (.ms hp.next 0 0 q.1 q.2.2)) none (hp.new q.2.1)else k3 (.av (.us q.2.2 q.2.1)) none hp:=by
   cases hti:c.tn t with
   |none=>exact⟨none,fun gb hp=>by simp only[qn,hop,hti];rfl⟩
   |some ti=>
    cases hk:ti.k with
    |sl e=>
     cases hei:c.tn e with
     |none=>exact⟨none,fun gb hp=>by simp only[qn,hop,hti,hk,hei];rfl⟩
     |some ei=>
      refine⟨(xy (ev l)).bind fun lv=>(xy (ev m)).bind fun mv=>(ZK lv).bind fun n=>(ZK mv).bind fun n'=>
       (yc ei.bytes ei.size n n').bind fun _=>some (tN n,yM n ei.zero,ei.size),fun gb hp=>?_⟩
      simp only[qn,hop,hti,hk,hei,zh9]
      congr 1
    |_=>exact⟨none,fun gb hp=>by simp only[qn,hop,hti,hk];rfl⟩
  obtain⟨W,he⟩:=key
  unfold Ze
  rw[he]at hr⊢
  rw[eH]at hA hB⊢
  rw[eB]at hb⊢
  obtain⟨q,hq,hr⟩:=bsm hr
  rw[hq]
  simp only[zib]
  by_cases h2:h=2
  ·simp only[h2,if_true,beq_self_eq_true]at hr hA hB⊢
   cases hr
   rw[Zv (hB trivial) (hA (.inr trivial))]
   exact⟨rfl,fun e=>(by cases e),fun e=>(by cases e),fun _ _ _ e=>by cases e⟩
  ·have hne:(h==2)=false:=by simpa using h2
   simp only[if_neg h2,hne,zjl,if_false]at hr⊢
   cases hr
   exact⟨rfl,fun _=>rfl,fun _=>rfl,fun _ _ _ e=>by cases e⟩
 case call cl=>
  cases hcl:cl.callee with
  |builtin b=>
   by_cases h2:h=2
   ·subst h2
    refine wz (by simp only[zn,hop,hcl];rfl) (by simp only[qn,hop,hcl]) ?_ hr hA hB
    simp only[qn,hop,hcl]at hr
    rw[VL]at hr
    obtain⟨q,hq,hr⟩:=bsm hr
    cases hr;rfl
   ·have h2b:(h==2)=false:=by simpa using h2
    exact pure (by simp only[zn,hop,hcl,h2b]) (by simp only[hop,hcl];exact h2)
  |invoke x n=>simp only[qn,hop,hcl]at hr;cases hr
  |value f=>
   have eH:zn h o ev=(h==2||h==4||h==5,h==2||h==4||h==5,h==2||h==4||h==5):=by simp only[zn,hop,hcl]
   have e24:(h==2||h==4||h==5)=true↔(h=2\/h=4)\/h=5:=qe
   have eB:jR h o ev=(none,none):=by simp only[jR,hop]
   have key:(∃ti g caps,∀hp gb,qn c C h o ev gb hp k3=jm c C h ti g caps (cl.args.toList.map ev) hp k3)\/(((h=2\/h=4)\/h=5)/\∃ti g caps,∀hp gb,qn c C h o ev gb hp k3=Vq c ti g caps (cl.args.toList.map ev) hp k3)\/
    ∃Z:Option SV,∀gb hp,qn c C h o ev gb hp k3=Z.bind fun s=>some (s,none,hp):=by
    cases f with
    |tmp t=>
     cases hti:c.tt o.type with
     |none=>exact .inr (.inr ⟨none,fun gb hp=>by simp only[qn,hop,hcl,hti];rfl⟩)
     |some ti=>
      cases hx:ev (.tmp t)with
      |av x=>
       by_cases h4:h=4
       ·cases hf:Vm x with
        |none=>exact .inr (.inr ⟨none,fun gb hp=>by simp only[qn,hop,hcl,hti,hx,if_pos h4,hf];rfl⟩)
        |some p=>exact .inl ⟨ti,p.1,p.2,fun hp gb=>by simp only[qn,hop,hcl,hti,hx,if_pos h4,hf];rfl⟩
       ·cases hf:xN x with
        |none=>exact .inr (.inr ⟨none,fun gb hp=>by simp only[qn,hop,hcl,hti,hx,if_neg h4,hf];simp⟩)
        |some p=>
         by_cases h5:h=5
         ·exact .inr (.inl ⟨.inr h5,ti,p.1,p.2,fun hp gb=>by simp only[qn,hop,hcl,hti,hx,if_neg h4,if_pos h5,hf];rfl⟩)
         ·exact .inl ⟨ti,p.1,p.2,fun hp gb=>by simp only[qn,hop,hcl,hti,hx,if_neg h4,if_neg h5,hf];rfl⟩
      |_=>exact .inr (.inr ⟨none,fun gb hp=>by simp only[qn,hop,hcl,hti,hx];rfl⟩)
    |func g=>
     cases hF:c.F g with
     |none=>exact .inr (.inr ⟨none,fun gb hp=>by simp only[qn,hop,hcl,hF];rfl⟩)
     |some fn=>
      cases hti:c.tt o.type with
      |none=>exact .inr (.inr ⟨none,fun gb hp=>by simp only[qn,hop,hcl,hF,hti];rfl⟩)
      |some ti=>
       cases hb':fn.body with
       |some b=>exact .inl ⟨ti,g,[],fun hp gb=>by simp only[qn,hop,hcl,hF,hti,hb']⟩
       |none=>
        by_cases h2:h=2
        ·exact .inr (.inl ⟨.inl (.inl h2),ti,g,[],fun hp gb=>by simp only[qn,hop,hcl,hF,hti,hb',if_pos h2]⟩)
        ·exact .inr (.inr ⟨(qdd (cl.args.toList.map ev)).bind fun vs=>(one (c.X g vs)).bind fun z=>some (.sv z),fun gb hp=>by
          simp only[qn,hop,hcl,hF,hti,hb',if_neg h2,zh9];rfl⟩)
    |const v=>exact .inr (.inr ⟨none,fun gb hp=>by simp only[qn,hop,hcl];rfl⟩)
    |global g=>exact .inr (.inr ⟨none,fun gb hp=>by simp only[qn,hop,hcl];rfl⟩)
   by_cases h2:(h=2\/h=4)\/h=5
   ·refine wz (by rw[eH,e24.mpr h2]) (by simp only[qn,hop]) ?_ hr hA hB
    rcases key with⟨ti,g,caps,he⟩|⟨_,ti,g,caps,he⟩|⟨Z,hz⟩
    ·rw[he]at hr
     exact(qa5 hr (fun _=>rfl) (fun _=>rfl)).2.2
    ·rw[he]at hr
     unfold Vq at hr
     obtain⟨xs,_,hr⟩:=bsm hr
     obtain⟨p,_,hr⟩:=bsm hr
     rw[zH]at hr
     obtain⟨s,_,hr⟩:=bsm hr
     cases hr;rfl
    ·rw[hz]at hr
     obtain⟨s,_,hr⟩:=bsm hr
     cases hr;rfl
   ·have hne:(h==2||h==4||h==5)=false:=by
     cases e:(h==2||h==4||h==5)with
     |false=>rfl
     |true=>exact absurd (e24.mp e) h2
    have h2':¬(h=2\/h=4):=fun q=>h2 (.inl q)
    unfold Ze
    rw[eH]at hA hB⊢
    rw[eB]
    rcases key with⟨ti,g,caps,he⟩|⟨q,_⟩|⟨Z,hz⟩
    ·rw[he]at hr⊢
     obtain⟨a1,a2,a3⟩:=qa5 (hp':=hp') hr (fun q=>absurd q h2') (fun q=>absurd q h2')
     rw[a1]
     simp only[if_neg h2',hne,zjl,if_false]
     exact⟨trivial,fun _=>by rw[a2 h2'],fun _=>by rw[a2 h2'],fun k g cs e=>by rw[a3]at e;cases e⟩
    ·exact absurd q h2
    ·rw[hz]at hr⊢
     obtain⟨s,hs,hr⟩:=bsm hr
     cases hr
     rw[hs]
     simp only[zib,hne,zjl,if_false]
     exact⟨trivial,fun _=>trivial,fun _=>trivial,fun k g cs e=>by cases e⟩
 all_goals exact pure (by simp only[zn,hop]) (by simp only[hop])
end
structure Vw where
 sl:Nat->SV
 bx:Nat->Option (Nat×List AV)
 hp:Hp
def St.vw(st:St):Vw:=⟨qA st.sl,zQ st.bx,st.hp⟩
def evV(σ:Nat->SV):Operand->SV
 | .tmp t=>σ t
 |x=>zt [] x
theorem Vr(l:Slots):evV (qA l)=zt l:=by
 funext x;cases x<;>rfl
def dnV(h:Nat)(o:Oper)(σ:Nat->SV)(k:Nat):SV:=
 match o.op with
 | .extract (.tmp t) i=>if h=1 then σ k else if k=t then(match σ t with| .tp xs=>.tp (match xs[i]? with|some y=>xs.set i (ro y)|none=>xs)|s=>s)else σ k
 |_=>if k∈qL h o then(σ k).ro else σ k
def Za(σ:Nat->SV)(d:Option Tmp)(s:SV)(k:Nat):SV:=if d=some k then s else σ k
def qdm(β:Nat->Option (Nat×List AV))(b:BE)(k:Nat):Option (Nat×List AV):=
 match b with
 |some (j,g,cs)=>if j=k then some (g,cs)else β k
 |none=>β k
def fpV(tn:TypeId->Option TI)(h:Nat)(ops:Array Oper)(o:Oper)(ev:Operand->SV)(hp hp':Hp):Fp:=
 {rs:=o.looksAt ops,ws:=o.dst.toList++qL h o,br:=(jR h o ev).1,bw:=(jR h o ev).2,hr:=(zn h o ev).1,hw:=(zn h o ev).2.1,nw:=(zn h o ev).2.2,lq:=qg9 h o tn ev,gb:=qla (zn h o ev).2.1 hp,ga:=qla (zn h o ev).2.1 hp'}
theorem zar(tn:TypeId->Option TI)(h:Nat)(ops:Array Oper)(o:Oper)(l:Slots)(hp hp':Hp):zem tn h ops o l hp hp'=fpV tn h ops o (evV (qA l)) hp hp':=by
 rw[Vr];rfl
theorem zax{h:Nat}{o:Oper}(hno:∀t i,o.op≠ .extract (.tmp t) i)(l:Slots):qz h o l=qB (qL h o) l:=by
 unfold qz
 split
 ·rename_i t i hop;exact absurd hop (hno t i)
 ·rfl
theorem zew{h:Nat}{o:Oper}(hno:∀t i,o.op≠ .extract (.tmp t) i)(σ:Nat->SV)(k:Nat):dnV h o σ k=if k∈qL h o then(σ k).ro else σ k:=by
 unfold dnV
 split
 ·rename_i t i hop;exact absurd hop (hno t i)
 ·rfl
theorem zav(h:Nat)(o:Oper)(l:Slots)(k:Nat):qA (qz h o l) k=dnV h o (qA l) k:=by
 by_cases hop:∃t i,o.op= .extract (.tmp t) i
 ·obtain⟨t,i,hop⟩:=hop
  by_cases h1:h=1
  ·have e1:qz h o l=l:=by simp only[qz,hop,if_pos h1]
   have e2:dnV h o (qA l) k=qA l k:=by simp only[dnV,hop,if_pos h1]
   rw[e1,e2]
  have e1:qz h o l=dnX t i l:=by simp only[qz,hop,if_neg h1]
  have e2:dnV h o (qA l) k=if k=t then(match qA l t with| .tp xs=>.tp (match xs[i]? with|some y=>xs.set i (ro y)|none=>xs)|s=>s)else qA l k:=by simp only[dnV,hop,if_neg h1]<;>rfl
  rw[e1,e2]
  simp only[dnX]
  cases hx:qA l t with
  |tp xs=>
   simp only
   rw[ze]
   by_cases e:t=k
   ·subst e;rw[if_pos rfl,if_pos rfl];rfl
   ·have e':¬k=t:=fun h=>e h.symm
    simp[e,e']
  |_=>
   simp only
   by_cases e:k=t
   ·subst e;simp[hx]
   ·simp[e]
 ·have hno:∀t i,o.op≠ .extract (.tmp t) i:=fun t i e=>hop ⟨t,i,e⟩
  rw[zax hno,zew hno,zy]
theorem KS(l:Slots)(d:Option Tmp)(s:SV)(k:Nat):qA (wt l d s) k=Za (qA l) d s k:=by
 cases d with
 |none=>simp[wt,Za]
 |some d=>
  simp only[wt,Za]
  rw[ze]
  by_cases e:d=k
  ·subst e;simp
  ·have:¬some d=some k:=fun h=>e (zit h)
   simp[e]
theorem qiv(h:Nat)(o:Oper)(st:St)(s:SV)(b:BE)(hp:Hp):(after h o st s b hp).vw=⟨Za (dnV h o (qA st.sl)) o.dst s,qdm (zQ st.bx) b,hp⟩:=by
 unfold St.vw after
 congr 1
 ·funext k
  rw[KS]
  unfold Za
  rw[zav]
 ·funext k
  cases b with
  |none=>rfl
  |some q=>obtain⟨j,g,cs⟩:=q;simp only[qdm];rw[kN]
section
variable (c:Cx)(C:Orc)(f:FuncId)(r:Nat)(ops:Array Oper)
def wQ(h:Nat)(o:Oper)(v:Vw):Option (Vw×Fp):=
 (qn c C h o (evV v.sl) v.bx v.hp k3).bind fun q=>some (⟨Za (dnV h o v.sl) o.dst q.1,qdm v.bx q.2.1,q.2.2⟩,fpV c.tn h ops o (evV v.sl) v.hp q.2.2)
def wP(o:Oper)(v:Vw):Vw×Fp:=(⟨Za v.sl o.dst .ud,v.bx,v.hp⟩,Yz ops o)
def vOp(i:Nat)(v:Vw):Option (Vw×Fp):=
 match ops[i]? with
 |none=>none
 |some o=>match xd o ops with
  |none=>none
  |some none=>wQ c C ops (c.H f r i) o v
  |some (some (g,want))=>match v.sl g with
   | .ud=>some (wP ops o v)
   | .sv u=>(asB u).bind fun t=>if t=want then wQ c C ops (c.H f r i) o v else some (wP ops o v)
   |_=>none
def Qc:List Nat->Vw->Option (Vw×List (Nat×Fp))
 |[],v=>some (v,[])
 |i::is,v=>(vOp c C f r ops i v).bind fun p=>(Qc is p.1).bind fun q=>some (q.1,(i,p.2)::q.2)
end
section
variable {c:Cx}{C:Orc}{f:FuncId}{r:Nat}{ops:Array Oper}
theorem XI(st:St)(g:Nat)(b:Bool)(h:qA st.sl g= .sv (.bool b)):(qol st g b).vw=st.vw:=by
 unfold qol St.vw
 congr 1
 funext k
 show qA ((g,.sv (.bool b))::st.sl) k=qA st.sl k
 rw[ze]
 split
 ·rename_i e;subst e;exact h.symm
 ·rfl
theorem qep{G:GoT}{is:List Nat}{d:Bool}{acc:List (Nat×Fp)}{k:List It}{h i:Nat}{o:Oper}{st:St}{q:AV×Hp}(hr:JD c C G r ops is d acc k h i o st=some q):
 ∃st1 F,wQ c C ops h o st.vw=some (st1.vw,F)/\G (.ops r ops is d (ql1 d i F acc)::k) st1=some q:=by
 unfold JD at hr
 rw[vM]at hr
 obtain⟨p,hp,hr⟩:=bsm hr
 refine⟨_,_,?_,hr⟩
 unfold wQ
 show(qn c C h o (evV (qA st.sl)) (zQ st.bx) st.hp k3).bind _=_
 rw[Vr,hp]
 simp only[zib]
 rw[qiv,zar]
 rfl
theorem qdi{G:GoT}{is:List Nat}{d:Bool}{acc:List (Nat×Fp)}{k:List It}{i:Nat}{o:Oper}{st:St}{q:AV×Hp}(hr:qfi G r ops is d acc k i o st=some q):
 ∃st1,wP ops o st.vw=(st1.vw,Yz ops o)/\G (.ops r ops is d (ql1 d i (Yz ops o) acc)::k) st1=some q:=by
 unfold qfi at hr
 refine⟨_,?_,hr⟩
 unfold wP St.vw
 congr 2
 funext k
 exact(KS _ _ _ k).symm
theorem zgu{G:GoT}{is:List Nat}{d:Bool}{acc:List (Nat×Fp)}{k:List It}{i:Nat}{o:Oper}{st:St}{q:AV×Hp}(ho:ops[i]?=some o) (hr:opF c C G r ops is d acc k (c.H f r i) i o st=some q):
 ∃st1 F,vOp c C f r ops i st.vw=some (st1.vw,F)/\G (.ops r ops is d (ql1 d i F acc)::k) st1=some q:=by
 unfold opF at hr
 unfold vOp
 rw[ho]
 simp only
 split at hr
 ·cases hr
 ·rename_i hg
  rw[hg]
  exact qep hr
 ·rename_i g want hg
  rw[hg]
  simp only
  have hs:st.vw.sl g=qA st.sl g:=rfl
  rw[hs]
  split at hr
  ·rename_i hud
   rw[hud]
   obtain⟨st1,h1,h2⟩:=qdi hr
   exact⟨st1,_,by simp only;rw[h1],h2⟩
  ·rename_i u hsv
   rw[hsv]
   simp only
   obtain⟨t,ht,hr⟩:=bsm hr
   rw[ht]
   simp only[zib]
   have hu:=JL ht
   subst hu
   cases want<;>cases t
   ·simp only[cond_false,if_true]at hr⊢
    obtain⟨st1,F,h1,h2⟩:=qep hr
    rw[XI _ _ _ hsv]at h1
    exact⟨st1,F,h1,h2⟩
   ·simp only[cond_true]at hr⊢
    obtain⟨st1,h1,h2⟩:=qdi hr
    rw[XI _ _ _ hsv]at h1
    exact⟨st1,_,by simp[h1],h2⟩
   ·simp only[cond_false]at hr⊢
    obtain⟨st1,h1,h2⟩:=qdi hr
    rw[XI _ _ _ hsv]at h1
    exact⟨st1,_,by simp[h1],h2⟩
   ·simp only[cond_true,if_true]at hr⊢
    obtain⟨st1,F,h1,h2⟩:=qep hr
    rw[XI _ _ _ hsv]at h1
    exact⟨st1,F,h1,h2⟩
  ·cases hr
theorem zb0:∀(n:Nat) (is:List Nat) (d:Bool) (acc:List (Nat×Fp)) (k:List It) (st:St) (q:AV×Hp),wE c C f n (.ops r ops is d acc::k) st=some q->
 ∃n' st' accs,n'<n/\Qc c C f r ops is st.vw=some (st'.vw,accs)/\(d=true->YA ops (accs.reverse++acc)=true/\∀o∈qzf ops (accs.reverse++acc),o=some ())/\wE c C f n' k st'=some q
 |0,_,_,_,_,_,_,h=>by simp[wE]at h
 |n+1,[],d,acc,k,st,q,h=>by
  simp only[wE,jL]at h
  cases ht:(!d||YA ops acc)with
  |false=>rw[ht]at h;cases h
  |true=>
   rw[ht]at h
   obtain⟨h1,h2⟩:=kV h
   exact⟨n,st,[],zj4 n,rfl,fun hd=>by subst hd;exact⟨by simpa using ht,h1⟩,h2⟩
 |n+1,i::is,d,acc,k,st,q,h=>by
  simp only[wE,jL]at h
  obtain⟨o,ho,h⟩:=bsm h
  obtain⟨st1,F,h1,h2⟩:=zgu ho h
  obtain⟨n',st',accs,h3,h4,h5,h6⟩:=zb0 n is d _ k st1 q h2
  refine⟨n',st',(i,F)::accs,qc,?_,fun hd=>?_,h6⟩
  ·simp only[Qc,h1,zib,h4]
  ·have:=h5 hd
   subst hd
   simpa[ql1]using this
end
def Xd(F:Fp)(v1 v:Vw):Vw:=
 ⟨fun k=>if k∈F.ws then v1.sl k else v.sl k,fun k=>if F.bw=some k then v1.bx k else v.bx k,⟨if F.nw=true then v1.hp.next else v.hp.next,if F.hw=true then v1.hp.get else v.hp.get⟩⟩
structure Like (F : Fp) (v' v : Vw) : Prop where
 s:∀k,k∈F.rs\/k∈F.ws->v'.sl k=v.sl k
 b:∀k,F.br=some k\/F.bw=some k->v'.bx k=v.bx k
 A:F.hr=true\/F.hw=true->v'.hp.get=v.hp.get
 B:F.nw=true->v'.hp.next=v.hp.next
 L:∀q,F.lq=some q->yH q v'.hp.get=yH q v.hp.get
theorem qhn{b:Bool}{hp hp':Hp}(h:b=true->hp'.get=hp.get):qla b hp'=qla b hp:=by
 cases b with
 |false=>rfl
 |true=>exact h rfl
theorem zg1{h:Nat}{o:Oper}{tn:TypeId->Option TI}{ev ev':Operand->SV}(h1:∀x∈o.op.operands.toList,ev x=ev' x):qg9 h o tn ev=qg9 h o tn ev':=by
 obtain⟨dst,op,type,pos,after,guard⟩:=o
 cases op<;>simp only[Op.operands]at h1<;>simp only[qg9]
 case load t x=>rw[h1 x qe]
theorem qjl{a b:Vw}(h1:∀k,a.sl k=b.sl k)(h2:∀k,a.bx k=b.bx k)(h3:a.hp.next=b.hp.next)(h4:a.hp.get=b.hp.get):a=b:=by
 obtain⟨s,x,p⟩:=a
 obtain⟨s',x',p'⟩:=b
 have e1:s=s':=funext h1
 have e2:x=x':=funext h2
 have e3:p=p':=Zv h3 h4
 subst e1;subst e2;subst e3;rfl
section
variable {c:Cx}{C:Orc}{f:FuncId}{r:Nat}{ops:Array Oper}
theorem qqj{h:Nat}{o:Oper}{σ σ':Nat->SV}{k:Nat}(hk:σ' k=σ k):dnV h o σ' k=dnV h o σ k:=by
 unfold dnV
 split
 ·rename_i t i hop
  by_cases h1:h=1
  ·rw[if_pos h1,if_pos h1,hk]
  rw[if_neg h1,if_neg h1]
  by_cases e:k=t
  ·subst e;rw[if_pos rfl,if_pos rfl,hk]
  ·rw[if_neg e,if_neg e,hk]
 ·rw[hk]
theorem zaw{h:Nat}{o:Oper}{σ:Nat->SV}{k:Nat}(hk:k∉qL h o):dnV h o σ k=σ k:=by
 unfold dnV
 split
 ·rename_i t i hop
  by_cases h1:h=1
  ·rw[if_pos h1]
  rw[if_neg h1]
  have:k≠t:=by
   rintro rfl
   apply hk
   simp only[qL,hop,if_neg h1,zw,zjh]
  rw[if_neg this]
 ·rw[if_neg hk]
theorem qp2{o:Oper}{t:Nat}(h:Operand.tmp t∈o.op.operands.toList):t∈o.looksAt ops:=
 List.mem_append_left _ (List.mem_filterMap.2 ⟨.tmp t,h,rfl⟩)
theorem WW{h:Nat}{o:Oper}{v v' v1:Vw}{F:Fp}(hr:wQ c C ops h o v=some (v1,F))(hl:Like F v' v):wQ c C ops h o v'=some (Xd F v1 v',F):=by
 unfold wQ at hr⊢
 obtain⟨q,hq,hr⟩:=bsm hr
 have hF:fpV c.tn h ops o (evV v.sl) v.hp q.2.2=F:=(Prod.mk.inj (zit hr)).2
 have hv1:(⟨Za (dnV h o v.sl) o.dst q.1,qdm v.bx q.2.1,q.2.2⟩:Vw)=v1:=(Prod.mk.inj (zit hr)).1
 subst hv1
 subst hF
 have hev:∀x∈o.op.operands.toList,evV v'.sl x=evV v.sl x:=by
  intro x hx
  cases x with
  |tmp t=>exact hl.s t (.inl (qp2 hx))
  |_=>rfl
 have ha:=zfi (h:=h) hev
 obtain⟨l1,l2,l3,l4⟩:=qqm (gb':=v'.bx) (hp':=v'.hp) hq (fun k hk=>hl.b k hk) (fun hk=>hl.A hk) (fun hk=>hl.B hk) (fun q hk=>hl.L q hk)
 rw[qwm hev,l1]
 simp only[zib]
 have hfp:∀g:Hp,((zn h o (evV v.sl)).2.1=true->g.get=q.2.2.get)->fpV c.tn h ops o (evV v'.sl) v'.hp g=fpV c.tn h ops o (evV v.sl) v.hp q.2.2:=by
  intro g hg
  unfold fpV
  rw[ha.1,ha.2,zg1 (h:=h) (tn:=c.tn) hev,qhn (b:=(zn h o (evV v.sl)).2.1) (hp':=v'.hp) (hp:=v.hp) (fun hw=>hl.A (.inr hw)),qhn (b:=(zn h o (evV v.sl)).2.1) hg]
 rw[hfp _ (fun hw=>by simp only[hw,if_true])]
 congr 2
 refine qjl (fun k=>?_) (fun k=>?_) rfl rfl
 ·show Za (dnV h o v'.sl) o.dst q.1 k=if k∈o.dst.toList++qL h o then Za (dnV h o v.sl) o.dst q.1 k else v'.sl k
  by_cases hk:k∈o.dst.toList++qL h o
  ·rw[if_pos hk]
   unfold Za
   rw[qqj (hl.s k (.inr hk))]
  ·rw[if_neg hk]
   unfold Za
   have h1:¬o.dst=some k:=fun e=>hk (by simp[e])
   have h2:k∉qL h o:=fun e=>hk (by simp[e])
   rw[if_neg h1,zaw h2]
 ·show qdm v'.bx q.2.1 k=if(jR h o (evV v.sl)).2=some k then qdm v.bx q.2.1 k else v'.bx k
  by_cases hk:(jR h o (evV v.sl)).2=some k
  ·rw[if_pos hk]
   have:=hl.b k (.inr hk)
   unfold qdm
   rw[this]
  ·rw[if_neg hk]
   unfold qdm
   split
   ·rename_i j g cs e
    have:j≠k:=by
     rintro rfl
     exact hk (l4 _ _ _ e)
    rw[if_neg this]
   ·rfl
theorem WV{o:Oper}{v v' v1:Vw}{F:Fp}(hr:wP ops o v=(v1,F))(hl:Like F v' v):wP ops o v'=(Xd F v1 v',F):=by
 unfold wP at hr⊢
 cases hr
 congr 1
 refine qjl (fun k=>?_) (fun k=>?_) (by simp[Xd,Yz]) (by simp[Xd,Yz])
 ·show Za v'.sl o.dst .ud k=if k∈o.dst.toList then Za v.sl o.dst .ud k else v'.sl k
  unfold Za
  by_cases hk:o.dst=some k
  ·have:k∈o.dst.toList:=by simp[hk]
   rw[if_pos hk,if_pos this,if_pos hk]
  ·have:¬k∈o.dst.toList:=by simpa using hk
   rw[if_neg hk,if_neg this]
 ·show v'.bx k=if(none:Option Nat)=some k then v.bx k else v'.bx k
  rw[if_neg qe]
theorem WJ{o:Oper}{g:Nat}{want:Bool}(h:xd o ops=some (some (g,want))):g∈o.looksAt ops:=by
 unfold xd at h
 split at h
 ·cases h
 ·rename_i j want' hg
  split at h
  ·rename_i oj hj
   split at h
   ·rename_i d hd
    cases h
    refine List.mem_append_right _ ?_
    rw[hg]
    simp[hj,hd]
   ·cases h
  ·cases h
theorem qdb{i:Nat}{v v' v1:Vw}{F:Fp}(hr:vOp c C f r ops i v=some (v1,F))(hl:Like F v' v):vOp c C f r ops i v'=some (Xd F v1 v',F):=by
 unfold vOp at hr⊢
 cases ho:ops[i]? with
 |none=>rw[ho]at hr;cases hr
 |some o=>
  rw[ho]at hr
  simp only at hr⊢
  cases hg:xd o ops with
  |none=>rw[hg]at hr;cases hr
  |some gw=>
   rw[hg]at hr
   cases gw with
   |none=>exact WW hr hl
   |some q=>
    obtain⟨g,want⟩:=q
    simp only at hr⊢
    have hlook:=WJ hg
    have hsl:v'.sl g=v.sl g:=by
     refine hl.s g (.inl ?_)
     cases hvg:v.sl g with
     |ud=>rw[hvg]at hr;simp only at hr;cases hr;exact hlook
     |sv u=>
      rw[hvg]at hr
      simp only at hr
      obtain⟨t,ht,hr⟩:=bsm hr
      split at hr
      ·unfold wQ at hr
       obtain⟨q,hq,hr⟩:=bsm hr
       cases hr;exact hlook
      ·cases hr;exact hlook
     |_=>rw[hvg]at hr;cases hr
    rw[hsl]
    cases hvg:v.sl g with
    |ud=>
     rw[hvg]at hr
     simp only at hr⊢
     exact congrArg some (WV (zit hr) hl)
    |sv u=>
     rw[hvg]at hr
     simp only at hr⊢
     obtain⟨t,ht,hr⟩:=bsm hr
     rw[ht]
     simp only[zib]
     split at hr
     ·rename_i e;rw[if_pos e];exact WW hr hl
     ·rename_i e;rw[if_neg e];exact congrArg some (WV (zit hr) hl)
    |_=>rw[hvg]at hr;cases hr
theorem Like.refl(F:Fp)(v:Vw):Like F v v:=⟨fun _ _=>rfl,fun _ _=>rfl,fun _=>rfl,fun _=>rfl,fun _ _=>rfl⟩
theorem zbq{i:Nat}{v v1:Vw}{F:Fp}(hr:vOp c C f r ops i v=some (v1,F))(hw:F.hw=true):F.gb=v.hp.get/\F.ga=v1.hp.get:=by
 have ex:∀{h:Nat} {o:Oper},wQ c C ops h o v=some (v1,F)->F.gb=v.hp.get/\F.ga=v1.hp.get:=by
  intro h o hr
  unfold wQ at hr
  obtain⟨q,hq,hr⟩:=bsm hr
  cases hr
  have hw:(zn h o (evV v.sl)).2.1=true:=hw
  simp only[fpV,hw,qla,and_self]
 have sk:∀{o:Oper},some (wP ops o v)=some (v1,F)->F.gb=v.hp.get/\F.ga=v1.hp.get:=by
  intro o hr
  cases hr
  cases hw
 unfold vOp at hr
 split at hr
 ·cases hr
 ·split at hr
  ·cases hr
  ·exact ex hr
  ·split at hr
   ·exact sk hr
   ·obtain⟨t,ht,hr⟩:=bsm hr
    split at hr
    ·exact ex hr
    ·exact sk hr
   ·cases hr
theorem qfc{i:Nat}{v v1:Vw}{F:Fp}(hr:vOp c C f r ops i v=some (v1,F)):v1=Xd F v1 v:=by
 have:=qdb hr (Like.refl F v)
 rw[hr]at this
 exact(Prod.mk.inj (zit this)).1
theorem Qk{a b:List Nat}(h:qa0 a b=false){k:Nat}(ha:k∈a):k∉b:=by
 intro hb
 have:qa0 a b=true:=by
  unfold qa0
  rw[List.any_eq_true]
  exact⟨k,ha,by simpa using hb⟩
 rw[this]at h;cases h
structure Apart (a b : Fp) : Prop where
 wr:∀k,k∈a.ws->k∉b.rs
 ww:∀k,k∈a.ws->k∉b.ws
 rw_:∀k,k∈a.rs->k∉b.ws
 bww:∀k,a.bw=some k->b.bw≠some k
 bwr:∀k,a.bw=some k->b.br≠some k
 brw:∀k,a.br=some k->b.bw≠some k
 hwx:a.hw=true->b.hr=false/\b.hw=false
 hrw:a.hr=true->b.hw=false
 nn:a.nw=true->b.nw=false
 qa:∀q,a.lq=some q->b.hw=true->yH q b.gb=yH q b.ga
 qb:∀q,b.lq=some q->a.hw=true->yH q a.gb=yH q a.ga
theorem qwz{a b:Fp}(h:qnx a b=false)(qa:∀q,a.lq=some q->b.hw=true->yH q b.gb=yH q b.ga)(qb:∀q,b.lq=some q->a.hw=true->yH q a.gb=yH q a.ga):Apart a b:=by
 unfold qnx at h
 simp only[Bool.or_eq_false_iff]at h
 obtain⟨⟨⟨⟨⟨⟨⟨⟨h1,h2⟩,h3⟩,h4⟩,h5⟩,h6⟩,h7⟩,h8⟩,h9⟩:=h
 refine⟨fun k hk=>Qk h1 hk,fun k hk=>Qk h2 hk,fun k hk=>Qk h3 hk,fun k e e'=>?_,fun k e e'=>?_,fun k e e'=>?_,fun e=>?_,fun e=>?_,fun e=>?_,qa,qb⟩
 ·rw[e,e']at h4;simp at h4
 ·rw[e,e']at h5;simp at h5
 ·rw[e,e']at h6;simp at h6
 ·rw[e]at h7;simpa using h7
 ·rw[e]at h8;simpa using h8
 ·rw[e]at h9;simpa using h9
theorem qsq{x y:Nat}{v v1 v2:Vw}{Fx Fy:Fp}(hx:vOp c C f r ops x v=some (v1,Fx))(hy:vOp c C f r ops y v1=some (v2,Fy))(ha:Apart Fx Fy):
 ∃v1',vOp c C f r ops y v=some (v1',Fy)/\vOp c C f r ops x v1'=some (v2,Fx):=by
 have kx:=qfc hx
 have ky:=qfc hy
 have xs:∀k,k∉Fx.ws->v1.sl k=v.sl k:=fun k hk=>by rw[kx];simp[Xd,hk]
 have xb:∀k,Fx.bw≠some k->v1.bx k=v.bx k:=fun k hk=>by rw[kx];simp[Xd,hk]
 have xA:Fx.hw=false->v1.hp.get=v.hp.get:=fun h=>by rw[kx];simp[Xd,h]
 have xB:Fx.nw=false->v1.hp.next=v.hp.next:=fun h=>by rw[kx];simp[Xd,h]
 have hy':=qdb hy (v':=v) {
  s:=fun k hk=>(xs k (hk.elim (fun h e=>ha.wr k e h) (fun h e=>ha.ww k e h))).symm
  b:=fun k hk=>(xb k (hk.elim (fun h e=>ha.bwr k e h) (fun h e=>ha.bww k e h))).symm
  A:=fun hk=>(xA (by
   cases hw:Fx.hw with
   |false=>rfl
   |true=>have:=ha.hwx hw;rcases hk with h|h<;>simp[this]at h)).symm
  B:=fun hk=>(xB (by
   cases hw:Fx.nw with
   |false=>rfl
   |true=>have:=ha.nn hw;rw[this]at hk;cases hk)).symm
  L:=fun q hq=>by
   cases hw:Fx.hw with
   |false=>rw[xA hw]
   |true=>
    obtain⟨g1,g2⟩:=zbq hx hw
    rw[<-g1,<-g2]
    exact ha.qb q hq hw}
 refine⟨_,hy',?_⟩
 have hx':=qdb hx (v':=Xd Fy v2 v) {
  s:=fun k hk=>by
   have:k∉Fy.ws:=hk.elim (fun h=>ha.rw_ k h) (fun h=>ha.ww k h)
   simp[Xd,this]
  b:=fun k hk=>by
   have:Fy.bw≠some k:=hk.elim (fun h=>ha.brw k h) (fun h=>ha.bww k h)
   simp[Xd,this]
  A:=fun hk=>by
   have:Fy.hw=false:=hk.elim (fun h=>ha.hrw h) (fun h=>(ha.hwx h).2)
   simp[Xd,this]
  B:=fun hk=>by
   have:Fy.nw=false:=ha.nn hk
   simp[Xd,this]
  L:=fun q hq=>by
   cases hw:Fy.hw with
   |false=>simp[Xd,hw]
   |true=>
    obtain⟨g1,g2⟩:=zbq hy hw
    have hxw:Fx.hw=false:=by
     cases h:Fx.hw with
     |false=>rfl
     |true=>have:=(ha.hwx h).2;rw[hw]at this;cases this
    have e:(Xd Fy v2 v).hp.get=v2.hp.get:=by simp[Xd,hw]
    rw[e,<-g2,<-xA hxw,<-g1]
    exact(ha.qa q hq hw).symm}
 rw[hx']
 congr 2
 refine qjl (fun k=>?_) (fun k=>?_) ?_ ?_
 ·show(if k∈Fx.ws then v1.sl k else if k∈Fy.ws then v2.sl k else v.sl k)=v2.sl k
  by_cases h1:k∈Fx.ws
  ·rw[if_pos h1,ky]
   simp[Xd,ha.ww k h1]
  ·rw[if_neg h1]
   by_cases h2:k∈Fy.ws
   ·rw[if_pos h2]
   ·rw[if_neg h2,ky]
    simp[Xd,h2,xs k h1]
 ·show(if Fx.bw=some k then v1.bx k else if Fy.bw=some k then v2.bx k else v.bx k)=v2.bx k
  by_cases h1:Fx.bw=some k
  ·rw[if_pos h1,ky]
   simp[Xd,ha.bww k h1]
  ·rw[if_neg h1]
   by_cases h2:Fy.bw=some k
   ·rw[if_pos h2]
   ·rw[if_neg h2,ky]
    simp[Xd,h2,xb k h1]
 ·show(if Fx.nw=true then v1.hp.next else if Fy.nw=true then v2.hp.next else v.hp.next)=v2.hp.next
  by_cases h1:Fx.nw=true
  ·rw[if_pos h1,ky]
   simp[Xd,ha.nn h1]
  ·rw[if_neg h1]
   by_cases h2:Fy.nw=true
   ·rw[if_pos h2]
   ·rw[if_neg h2,ky]
    simp[Xd,h2,xB (by simpa using h1)]
 ·show(if Fx.hw=true then v1.hp.get else if Fy.hw=true then v2.hp.get else v.hp.get)=v2.hp.get
  by_cases h1:Fx.hw=true
  ·rw[if_pos h1,ky]
   simp[Xd,(ha.hwx h1).2]
  ·rw[if_neg h1]
   by_cases h2:Fy.hw=true
   ·rw[if_pos h2]
   ·rw[if_neg h2,ky]
    simp[Xd,h2,xA (by simpa using h1)]
theorem Kk{y:Nat}:∀(L1 L2:List Nat) (v v2:Vw) (accs:List (Nat×Fp)),Qc c C f r ops (L1++y::L2) v=some (v2,accs)->
 (∀x Fx Fy,(x,Fx)∈accs.take L1.length->(y,Fy)∈accs->Apart Fx Fy)->
 ∃v1 F acc1 acc2,vOp c C f r ops y v=some (v1,F)/\Qc c C f r ops (L1++L2) v1=some (v2,acc1++acc2)/\accs=acc1++(y,F)::acc2/\acc1.length=L1.length
 |[],L2,v,v2,accs,h,_=>by
  simp only[zi5,Qc]at h
  obtain⟨p,hp,h⟩:=bsm h
  obtain⟨q,hq,h⟩:=bsm h
  cases h
  exact⟨p.1,p.2,[],q.2,hp,hq,rfl,rfl⟩
 |x::L1,L2,v,v2,accs,h,ha=>by
  simp only[zj0,Qc]at h
  obtain⟨⟨v1,Fx⟩,hx,h⟩:=bsm h
  obtain⟨⟨v2',acc'⟩,hrest,h⟩:=bsm h
  cases h
  obtain⟨w1,F,acc1,acc2,h1,h2,h3,h4⟩:=Kk L1 L2 v1 v2' acc' hrest (fun x' Fx' Fy' hx' hy'=>ha x' Fx' Fy' (by simp;exact .inr hx') (by simp[hy']))
  obtain⟨u,hu1,hu2⟩:=qsq hx h1 (ha x Fx F qe (by rw[h3];simp))
  refine⟨u,F,(x,Fx)::acc1,acc2,hu1,?_,by rw[h3];rfl,by simp[h4]⟩
  simp only[zj0,Qc,hu2,zib,h2]
end
def WL(o:Oper):List Nat:=(o.after.toList.filter fun e=>Region.binds .any e).map (·.on)
def qob(all:List Oper)(t:List (List Nat)):Prop:=
 ∀j x,x∈t.getD j []->∃o,all[j]?=some o/\(x∈WL o\/∃d∈WL o,x∈t.getD d [])
theorem kM{α:Type}(t:List α)(e d:α)(j:Nat)(h:j<t.length):(t++[e]).getD j d=t.getD j d:=by
 simp[List.getD,zin h]
theorem Vl{α:Type}(t:List (List α))(j:Nat)(x:α)(h:x∈t.getD j []):j<t.length:=by
 rcases zk9 j t.length with h'|h'
 ·exact h'
 ·simp[List.getD,zjd h']at h
theorem VV(all:List Oper):∀(L done:List Oper) (t:List (List Nat)),all=done++L->t.length=done.length->qob all t->qob all (jv L t)
 |[],done,t,_,_,h=>h
 |o::L,done,t,he,hl,h=>by
  simp only[jv]
  refine VV all L (done++[o]) _ (by rw[he];simp) (by simp[hl]) ?_
  intro j x hx
  by_cases hj:j<t.length
  ·rw[kM _ _ _ _ hj]at hx
   obtain⟨o',h1,h2⟩:=h j x hx
   refine⟨o',h1,h2.imp id ?_⟩
   rintro⟨d,hd,hxd⟩
   exact⟨d,hd,by rw[kM _ _ _ _ (Vl _ _ _ hxd)];exact hxd⟩
  ·have hj':j=t.length:=by
    have:=Vl _ _ _ hx
    simp at this
    omega
   subst hj'
   have hx':x∈((WL o)++(WL o).flatMap fun j=>t.getD j []):=by
    have e:∀E:List Nat,(t++[E]).getD t.length []=E:=fun E=>by simp[List.getD]
    rw[e]at hx
    exact List.mem_eraseDups.mp hx
   refine⟨o,by rw[he,hl];simp,?_⟩
   rw[zip,zl2]at hx'
   refine hx'.imp id ?_
   rintro⟨d,hd,hxd⟩
   exact⟨d,hd,by rw[kM _ _ _ _ (Vl _ _ _ hxd)];exact hxd⟩
theorem Js{o:Oper}{d:Nat}:d∈WL o↔∃e∈o.after,Region.binds .any e=true/\e.on=d:=by
 unfold WL
 rw[ziu]
 constructor
 ·rintro⟨e,he,rfl⟩
  obtain⟨h1,h2⟩:=List.mem_filter.mp he
  exact⟨e,by simpa using h1,h2,rfl⟩
 ·rintro⟨e,h1,h2,rfl⟩
  exact⟨e,List.mem_filter.mpr ⟨by simpa using h1,h2⟩,rfl⟩
theorem kQ{ops:Array Oper}(h:Vs ops=true){i d:Nat}{o:Oper}(ho:ops[i]?=some o) (hd:d∈WL o):d<i:=by
 have hi:i<ops.size:=(zj7.mp ho).1
 have:=zja.mp h i (zls.mpr hi)
 rw[ho]at this
 obtain⟨e,h1,h2,rfl⟩:=Js.mp hd
 have:=zja.mp this e (by simpa using h1)
 simpa[h2]using this
theorem qly{ops:Array Oper}(hdeps:Vs ops=true)(S:Nat->Prop)(hcl:∀j o d,S j->ops[j]?=some o->d∈WL o->S d):
 ∀(n j:Nat),j<=n->(∀o d,ops[j]?=some o->d∈WL o->S d)->∀x,x∈(jv ops.toList []).getD j []->S x:=by
 have hA:qob ops.toList (jv ops.toList []):=VV ops.toList ops.toList [] [] rfl rfl (by intro j x hx;simp[List.getD]at hx)
 intro n
 induction n with
 |zero=>
  intro j hj hdir x hx
  obtain⟨o,ho,hx⟩:=hA j x hx
  have ho':ops[j]?=some o:=by simpa using ho
  rcases hx with hx|⟨d,hd,hx⟩
  ·exact hdir o x ho' hx
  ·have:=kQ hdeps ho' hd;omega
 |succ n ih=>
  intro j hj hdir x hx
  obtain⟨o,ho,hx⟩:=hA j x hx
  have ho':ops[j]?=some o:=by simpa using ho
  rcases hx with hx|⟨d,hd,hx⟩
  ·exact hdir o x ho' hx
  ·have hlt:=kQ hdeps ho' hd
   exact ih d qc (fun o' d' h1 h2=>hcl d o' d' (hdir o d ho' hd) h1 h2) x hx
theorem zfh{ops:Array Oper}(hdeps:Vs ops=true):∀{j x:Nat},x∈(jv ops.toList []).getD j []->x<j:=by
 have hA:qob ops.toList (jv ops.toList []):=VV ops.toList ops.toList [] [] rfl rfl (by intro j x hx;simp[List.getD]at hx)
 have key:∀n j,j<=n->∀x,x∈(jv ops.toList []).getD j []->x<j:=by
  intro n
  induction n with
  |zero=>
   intro j hj x hx
   obtain⟨o,ho,hx⟩:=hA j x hx
   have ho':ops[j]?=some o:=by simpa using ho
   rcases hx with hx|⟨d,hd,hx⟩
   ·exact kQ hdeps ho' hx
   ·have:=kQ hdeps ho' hd;omega
  |succ n ih=>
   intro j hj x hx
   obtain⟨o,ho,hx⟩:=hA j x hx
   have ho':ops[j]?=some o:=by simpa using ho
   rcases hx with hx|⟨d,hd,hx⟩
   ·exact kQ hdeps ho' hx
   ·have h1:=kQ hdeps ho' hd
    have h2:=ih d qc x hx
    omega
 intro j x hx
 exact key j j (zif j) x hx
def qq8(G:Gh)(w:World)(v:Vw)(tmps:Array Value):Prop:=∃st:St,st.vw=v/\Inv G w st tmps
def Wo(G:Gh)(w:World)(a:Act)(v:Vw)(a':Act)(w':World):Prop:=
 ∃G',qq8 G' w' v a'.tmps/\Fr G w G' w'/\a'.tmps.size=a.tmps.size/\a'.defers=a.defers
section
variable {c:Cx}{R:Orc}{f:FuncId}{r:Nat}{ops:Array Oper}{G:Gh}{w:World}{a:Act}{Q:Exit->Act->World->Prop}
abbrev Qx(c:Cx)(R:Orc):Prop:=∀f xs hp r,R f xs hp=some r->∃fn b,c.F f=some fn/\fn.body=some b
theorem qfd(hc:Ok c)(hR:vq c R)(hS:Qx c R){h:Nat}{o:Oper}{v v1:Vw}{F:Fp}(hr:wQ c R ops h o v=some (v1,F))(hI:qq8 G w v a.tmps)(hd:jy o a){K:Act->World->Prop}
 (hK:∀a' w',Wo G w a v1 a' w'->K a' w'):o.wp c.P a w K Q:=by
 obtain⟨st,rfl,hI⟩:=hI
 unfold wQ at hr
 obtain⟨q,hq,hr⟩:=bsm hr
 have hv1:(⟨Za (dnV h o st.vw.sl) o.dst q.1,qdm st.vw.bx q.2.1,q.2.2⟩:Vw)=v1:=(Prod.mk.inj (zit hr)).1
 have hq':qn c R h o (zt st.sl) (zQ st.bx) st.hp k3=some q:=by rw[<-Vr];exact hq
 refine Oper.wp_mono (fun a' w' ha=>?_) (za3 (Q:=Q) hc hR hS hI hd h hq')
 obtain⟨G',h1,h2,h3,h4⟩:=ha
 exact hK a' w' ⟨G',⟨_,by rw[qiv];exact hv1,h1⟩,h2,h3,h4⟩
theorem qfa{o:Oper}{v:Vw}(hI:qq8 G w v a.tmps)(hd:jy o a):Wo G w a (wP ops o v).1 (a.put o.dst undef) w:=by
 obtain⟨st,rfl,hI⟩:=hI
 refine⟨G,⟨⟨wt st.sl o.dst .ud,st.bx,st.hp⟩,?_,?_⟩,Fr.refl G w,qZ _ _ _,qD _ _ _⟩
 ·unfold St.vw wP
  congr 1
  funext k
  exact KS _ _ _ k
 ·exact hI.put o.dst hd (fun k _=>rfl) (fun k g off e=>by cases e)
theorem qc9{o:Oper}{g:Nat}{want:Bool}(hg:xd o ops=some (some (g,want)))(tmps:Array Value):
 Region.wanted o (yielded ops tmps)=((match tmps[g]? with|some (.bool b)=>some b|_=>none)==some want):=by
 unfold xd at hg
 split at hg
 ·cases hg
 ·rename_i j want' hgo
  split at hg
  ·rename_i oj hj
   split at hg
   ·rename_i d hd
    cases hg
    simp only[Region.wanted,hgo,yielded,hj,hd,zib]<;>rfl
   ·cases hg
  ·cases hg
theorem qe8{o:Oper}(hg:xd o ops=some none)(y:Nat->Option Bool):Region.wanted o y=true:=by
 unfold xd at hg
 split at hg
 ·rename_i h;simp only[Region.wanted,h]
 ·split at hg
  ·split at hg<;>cases hg
  ·cases hg
theorem qsr(hc:Ok c)(hR:vq c R)(hS:Qx c R){i:Nat}{v v1:Vw}{F:Fp}(hr:vOp c R f r ops i v=some (v1,F))(hI:qq8 G w v a.tmps)(hd:∀o∈ops,jy o a){K:Act->World->Prop}
 (hK:∀a' w',Wo G w a v1 a' w'->K a' w'):wpOp c.P ops Q i K a w:=by
 unfold vOp at hr
 unfold wpOp
 cases ho:ops[i]? with
 |none=>rw[ho]at hr;cases hr
 |some o=>
  rw[ho]at hr
  simp only at hr⊢
  have hdo:jy o a:=hd o (Array.mem_of_getElem? ho)
  cases hg:xd o ops with
  |none=>rw[hg]at hr;cases hr
  |some gw=>
   rw[hg]at hr
   cases gw with
   |none=>
    rw[qe8 hg]
    simp only[if_true]
    exact .inl (qfd hc hR hS hr hI hdo hK)
   |some q=>
    obtain⟨g,want⟩:=q
    rw[qc9 hg]
    simp only at hr
    have hslot:qG G w g (v.sl g) (a.tmps.getD g undef):=by
     obtain⟨st,rfl,hI⟩:=hI
     exact hI.slots g
    cases hvg:v.sl g with
    |ud=>
     rw[hvg]at hr hslot
     simp only at hr
     have hv1:(wP ops o v).1=v1:=by rw[zit hr]
     have hund:a.tmps.getD g undef=undef:=hslot
     have hy:(match a.tmps[g]? with|some (.bool b)=>some b|_=>none:Option Bool)=none:=by
      cases ht:a.tmps[g]? with
      |none=>rfl
      |some z=>
       have:z=undef:=by simpa[ht]using hund
       subst this;rfl
     rw[hy]
     simp only[show((none:Option Bool)==some want)=false by rfl,zjl,if_false]
     exact hK _ _ (hv1▸qfa hI hdo)
    |sv u=>
     rw[hvg]at hr hslot
     simp only at hr
     obtain⟨t,ht,hr'⟩:=bsm hr
     have hu:=JL ht
     subst hu
     have hval:a.tmps.getD g undef= .bool t:=hslot.1
     have hy:(match a.tmps[g]? with|some (.bool b)=>some b|_=>none:Option Bool)=some t:=by
      cases hz:a.tmps[g]? with
      |none=>simp[hz,undef]at hval
      |some z=>
       have:z= .bool t:=by simpa[hz]using hval
       subst this;rfl
     rw[hy]
     by_cases e:t=want
     ·subst e
      rw[if_pos rfl]at hr'
      simp only[beq_self_eq_true,if_true]
      exact .inl (qfd hc hR hS hr' hI hdo hK)
     ·rw[if_neg e]at hr'
      have hv1:(wP ops o v).1=v1:=by rw[zit hr']
      have hne:((some t:Option Bool)==some want)=false:=by simpa using e
      rw[hne]
      simp only[zjl,if_false]
      exact hK _ _ (hv1▸qfa hI hdo)
    |_=>rw[hvg]at hr;cases hr
theorem Wo.trans{v':Vw}{a' a'':Act}{w' w'':World}{G':Gh}(hf:Fr G w G' w')(hs:a'.tmps.size=a.tmps.size)(hdf:a'.defers=a.defers)(h:Wo G' w' a' v' a'' w''):Wo G w a v' a'' w'':=by
 obtain⟨G'',h1,h2,h3,h4⟩:=h
 exact⟨G'',h1,hf.trans h2,h3.trans hs,h4.trans hdf⟩
theorem quj(hc:Ok c)(hR:vq c R)(hS:Qx c R):∀(is:List Nat) (G:Gh) (w:World) (a:Act) (v v2:Vw) (accs:List (Nat×Fp)),Qc c R f r ops is v=some (v2,accs)->qq8 G w v a.tmps->(∀o∈ops,jy o a)->
 (∀a' w',Wo G w a v2 a' w'->Q .normal a' w')->wpOps c.P ops Q is a w
 |[],G,w,a,v,v2,accs,h,hI,hd,hK=>by
  simp only[Qc]at h
  cases h
  exact hK a w ⟨G,hI,Fr.refl G w,rfl,rfl⟩
 |i::is,G,w,a,v,v2,accs,h,hI,hd,hK=>by
  simp only[Qc]at h
  obtain⟨p,hp,h⟩:=bsm h
  obtain⟨q,hq,h⟩:=bsm h
  cases h
  rw[wpOps_cons]
  refine qsr hc hR hS hp hI hd fun a' w' ha=>?_
  obtain⟨G',h1,h2,h3,h4⟩:=ha
  exact quj hc hR hS is G' w' a' p.1 q.1 q.2 hq h1 (fun o ho k hk=>by rw[h3];exact hd o ho k hk) fun a'' w'' h=>hK a'' w'' (Wo.trans h2 h3 h4 h)
theorem qfb:∀(is:List Nat) (v v2:Vw) (accs:List (Nat×Fp)),Qc c R f r ops is v=some (v2,accs)->accs.map (·.1)=is
 |[],v,v2,accs,h=>by simp only[Qc]at h;cases h;rfl
 |i::is,v,v2,accs,h=>by
  simp only[Qc]at h
  obtain⟨p,hp,h⟩:=bsm h
  obtain⟨q,hq,h⟩:=bsm h
  cases h
  simp[qfb is p.1 q.1 q.2 hq]
theorem qw0(hc:Ok c)(hR:vq c R)(hS:Qx c R)(hdeps:Vs ops=true):∀(fuel:Nat) (L:List Nat) (listed:Array Bool) (G:Gh) (w:World) (a:Act) (v v2:Vw) (accs:List (Nat×Fp)),L.length=fuel->
 (∀i,i∈L↔listed.getD i true=false)->(∀i∈L,i<ops.size)->listed.size=ops.size->L.Pairwise (·<·)->
 (∀j o d,listed.getD j false=true->ops[j]?=some o->d∈WL o->listed.getD d false=true)->
 Qc c R f r ops L v=some (v2,accs)->(∀x Fx y Fy,(x,Fx)∈accs->(y,Fy)∈accs->x<y->x∈(jv ops.toList []).getD y []\/Apart Fx Fy)->
 qq8 G w v a.tmps->(∀o∈ops,jy o a)->(∀a' w',Wo G w a v2 a' w'->Q .normal a' w')->wpAny c.P .any ops Q fuel listed a w
 |0,L,listed,G,w,a,v,v2,accs,hlen,hL,hlt,hsz,hsort,hcl,hrun,hap,hI,hd,hK=>by
  have hnil:L=[]:=zi9.mp hlen
  subst hnil
  simp only[Qc]at hrun
  cases hrun
  refine⟨?_,hK a w ⟨G,hI,Fr.refl G w,rfl,rfl⟩⟩
  apply List.eq_nil_iff_forall_not_mem.mpr
  intro j hj
  have:=(mem_ready.mp hj).1
  rw[<-hL]at this
  simp at this
 |fuel+1,L,listed,G,w,a,v,v2,accs,hlen,hL,hlt,hsz,hsort,hcl,hrun,hap,hI,hd,hK=>by
  have hlist:∀i,i<ops.size->i∉L->listed.getD i false=true:=by
   intro i hi hn
   rw[hL]at hn
   have hi':i<listed.size:=by rw[hsz];exact hi
   simp[Array.getD,hi']at hn⊢
   exact hn
  have hunl:∀i,i∈L->¬listed.getD i false=true:=by
   intro i hi hn
   rw[hL]at hi
   have hi':i<listed.size:=by
    rcases zk9 i listed.size with h|h
    ·exact h
    ·have:¬i<listed.size:=qc
     simp[Array.getD,this]at hi
   simp[Array.getD,hi']at hi hn
   rw[hi]at hn;cases hn
  refine⟨fun hnone=>?_,fun i hi=>?_⟩
  ·exfalso
   match L,hlen,hL,hlt,hsort,hlist with
   |i0::rest,hlen,hL,hlt,hsort,hlist=>
    have hi0:=hlt i0 qe
    have:i0∈Region.ready .any ops listed:=by
     rw[mem_ready]
     refine⟨(hL i0).mp qe,ops[i0],zk5 hi0,fun e he hb=>?_⟩
     have hlt':=kQ hdeps (zk5 hi0) (Js.mpr ⟨e,he,hb,rfl⟩)
     refine hlist e.on qc fun hm=>?_
     rcases zie.mp hm with h|h
     ·omega
     ·have:=(zii.mp hsort).1 _ h;omega
    rw[hnone]at this
    simp at this
  ·obtain⟨hi1,o,ho,hi2⟩:=mem_ready.mp hi
   have hiL:i∈L:=(hL i).mpr hi1
   obtain⟨L1,L2,rfl⟩:=List.append_of_mem hiL
   have hfst:=qfb _ _ _ _ hrun
   have hx1:∀x Fx,(x,Fx)∈accs.take L1.length->x∈L1/\(x,Fx)∈accs:=by
    intro x Fx hx
    have hm:x∈(accs.take L1.length).map (·.1):=ziu.mpr ⟨_,hx,rfl⟩
    rw[zlo,hfst,zlp]at hm
    ·exact⟨hm,zjs hx⟩
    ·rfl
   have hpw:=zjx.mp hsort
   obtain⟨v1,F,acc1,acc2,r1,r2,r3,r4⟩:=Kk L1 L2 v v2 accs hrun (fun x Fx Fy hx hy=>by
    obtain⟨hxL,hxa⟩:=hx1 x Fx hx
    have hlt':x<i:=hpw.2.2 x hxL i qe
    refine(hap x Fx i Fy hxa hy hlt').resolve_left fun hanc=>?_
    have:=qly hdeps (fun j=>listed.getD j false=true) hcl i i (zif i) (fun o' d ho' hdd=>by
     rw[ho]at ho';cases ho'
     obtain⟨e,he,hb,rfl⟩:=Js.mp hdd
     exact hi2 e he hb) x hanc
    exact hunl x (by simp[hxL]) this)
   have hiLt:i<listed.size:=by rw[hsz];exact hlt i qe
   refine qsr hc hR hS r1 hI hd fun a' w' ha=>?_
   obtain⟨G',h1,h2,h3,h4⟩:=ha
   have hsort':(L1++L2).Pairwise (·<·):=by
    refine zjx.mpr ⟨hpw.1,(zii.mp hpw.2.1).2,fun x hx y hy=>hpw.2.2 x hx y (by simp[hy])⟩
   have hni:i∉L1++L2:=by
    intro hm
    rcases zip.mp hm with h|h
    ·have:=hpw.2.2 i h i qe;omega
    ·have:=(zii.mp hpw.2.1).1 i h;omega
   refine qw0 hc hR hS hdeps fuel (L1++L2) (listed.setIfInBounds i true) G' w' a' v1 v2 (acc1++acc2) (by simp at hlen⊢;omega) (fun j=>?_) (fun j hj=>hlt j ?_) (by simp[hsz]) hsort' ?_ r2 ?_ h1
    (fun o ho k hk=>by rw[h3];exact hd o ho k hk) (fun a'' w'' h=>hK a'' w'' (Wo.trans h2 h3 h4 h))
   ·by_cases e:i=j
    ·subst e
     constructor
     ·intro h;exact absurd h hni
     ·intro h;simp[Array.getD,hiLt]at h
    ·rw[getD_set_ne true e,<-hL j]
     simp only[zip,zie]
     have:¬j=i:=fun h=>e h.symm
     simp[this]
   ·simp only[zip,zie]at hj⊢
    rcases hj with h|h
    ·exact .inl h
    ·exact .inr (.inr h)
   ·intro j o' d hj ho' hdd
    by_cases e:i=j
    ·subst e
     rw[ho]at ho';cases ho'
     obtain⟨e,he,hb,rfl⟩:=Js.mp hdd
     exact getD_set_true (hi2 e he hb)
    ·rw[getD_set_ne false e]at hj
     exact getD_set_true (hcl j o' d hj ho' hdd)
   ·intro x Fx y Fy hx hy hxy
    refine hap x Fx y Fy ?_ ?_ hxy
    ·rw[r3]
     rcases zip.mp hx with h|h<;>simp[h]
    ·rw[r3]
     rcases zip.mp hy with h|h<;>simp[h]
end
def wN(key:Nat×Nat)(own:Nat->Ow):Prop:=(key.1=0/\own=fun i=>.sl key.2 0 i)\/(key.1=1/\∃g off,own=fun i=>.bc key.2 g (off+i))
theorem wN.inj{k k':Nat×Nat}{own own':Nat->Ow}(h:wN k own)(h':wN k' own'){i i':Nat}(e:own i=own' i'):k=k':=by
 obtain⟨a,b⟩:=k
 obtain⟨a',b'⟩:=k'
 rcases h with⟨h1,rfl⟩|⟨h1,g,off,rfl⟩<;>rcases h' with⟨h1',rfl⟩|⟨h1',g',off',rfl⟩<;>simp only at h1 h1' e
 ·injection e with e1 e2 e3;subst h1;subst h1';subst e1;rfl
 ·cases e
 ·cases e
 ·injection e with e1 e2 e3;subst h1;subst h1';subst e1;rfl
theorem wN.inj1{k:Nat×Nat}{own:Nat->Ow}(h:wN k own){i i':Nat}(e:own i=own i'):i=i':=by
 rcases h with⟨h1,rfl⟩|⟨h1,g,off,rfl⟩
 ·injection e
 ·injection e with e1 e2 e3;omega
theorem wN.form{k:Nat×Nat}{own:Nat->Ow}(h:wN k own)(i:Nat):(∃a b c,own i= .sl a b c)\/∃a b c,own i= .bc a b c:=by
 rcases h with⟨h1,rfl⟩|⟨h1,g,off,rfl⟩
 ·exact .inl ⟨_,_,_,rfl⟩
 ·exact .inr ⟨_,_,_,rfl⟩
open Classical in
noncomputable def WC(owns:List (Nat->Ow))(p:Ow):Ow:=
 if h:∃ji:Nat×Nat,∃own,owns[ji.1]?=some own/\own ji.2=p then .sl 0 h.choose.1 h.choose.2 else .oth
noncomputable def vf(owns:List (Nat->Ow))(p:Ow):Ow:=
 match p with
 | .fr=>.fr
 | .obj b g=>.obj b g
 | .oc b g i=>.oc b g i
 |p=>WC owns p
theorem qdx{owns:List (Nat->Ow)}(p:Ow):(∃j i,WC owns p= .sl 0 j i)\/WC owns p= .oth:=by
 unfold WC
 split
 ·exact .inl ⟨_,_,rfl⟩
 ·exact .inr rfl
theorem qgm{owns:List (Nat->Ow)}(a b c:Nat):(∃j i,vf owns (.sl a b c)= .sl 0 j i)\/vf owns (.sl a b c)= .oth:=qdx _
theorem qgn{owns:List (Nat->Ow)}(a b c:Nat):(∃j i,vf owns (.bc a b c)= .sl 0 j i)\/vf owns (.bc a b c)= .oth:=qdx _
theorem qar{owns:List (Nat->Ow)}(a b:Nat):(∃j i,vf owns (.box a b)= .sl 0 j i)\/vf owns (.box a b)= .oth:=qdx _
theorem qt2{owns:List (Nat->Ow)}(hinj:∀(j j':Nat) (own own':Nat->Ow) (i i':Nat),owns[j]?=some own->owns[j']?=some own'->own i=own' i'->j=j'/\i=i')
 {j:Nat} {own:Nat->Ow} (hj:owns[j]?=some own) (i:Nat):WC owns (own i)= .sl 0 j i:=by
 have hex:∃ji:Nat×Nat,∃own',owns[ji.1]?=some own'/\own' ji.2=own i:=⟨(j,i),own,hj,rfl⟩
 have key:WC owns (own i)= .sl 0 hex.choose.1 hex.choose.2:=by
  unfold WC
  rw[dif_pos hex]
 rw[key]
 obtain⟨own',h1,h2⟩:=hex.choose_spec
 obtain⟨e1,e2⟩:=hinj _ _ _ _ _ _ h1 hj h2
 rw[e1,e2]
theorem qpc{owns:List (Nat->Ow)}(hinj:∀(j j':Nat) (own own':Nat->Ow) (i i':Nat),owns[j]?=some own->owns[j']?=some own'->own i=own' i'->j=j'/\i=i')
 (hform:∀(j:Nat) (own:Nat->Ow),owns[j]?=some own->∀i,(∃a b c,own i= .sl a b c)\/∃a b c,own i= .bc a b c) {j:Nat} {own:Nat->Ow} (hj:owns[j]?=some own) (i:Nat):
 vf owns (own i)= .sl 0 j i:=by
 have e:vf owns (own i)=WC owns (own i):=by
  rcases hform j own hj i with⟨a,b,c,e⟩|⟨a,b,c,e⟩<;>rw[e]<;>rfl
 rw[e,qt2 hinj hj]
theorem KR{owns:List (Nat->Ow)}(hoth:∀(j:Nat) (own:Nat->Ow),owns[j]?=some own->∀i,(∃a b c,own i= .sl a b c)\/∃a b c,own i= .bc a b c):WC owns .oth= .oth:=by
 unfold WC
 rw[dif_neg]
 rintro⟨ji,own,h1,h2⟩
 rcases hoth _ own h1 ji.2 with⟨a,b,c,e⟩|⟨a,b,c,e⟩<;>rw[e]at h2<;>cases h2
theorem qpb(owns:List (Nat->Ow))(hoth:∀(j:Nat) (own:Nat->Ow),owns[j]?=some own->∀i,(∃a b c,own i= .sl a b c)\/∃a b c,own i= .bc a b c):Rho (vf owns) where
 fr:=rfl
 oth:=KR hoth
 box p k g h:=by
  cases p with
  |fr=>cases h
  |oth=>rw[show vf owns .oth= .oth from KR hoth]at h;cases h
  |box a b=>rcases qar (owns:=owns) a b with⟨j,i,e⟩|e<;>rw[e]at h<;>cases h
  |obj a b=>cases h
  |sl a b d=>rcases qgm (owns:=owns) a b d with⟨j,i,e⟩|e<;>rw[e]at h<;>cases h
  |bc a b d=>rcases qgn (owns:=owns) a b d with⟨j,i,e⟩|e<;>rw[e]at h<;>cases h
  |oc a b d=>cases h
 obj p k g h:=by
  cases p with
  |fr=>cases h
  |oth=>rw[show vf owns .oth= .oth from KR hoth]at h;cases h
  |box a b=>rcases qar (owns:=owns) a b with⟨j,i,e⟩|e<;>rw[e]at h<;>cases h
  |obj a b=>exact h
  |sl a b d=>rcases qgm (owns:=owns) a b d with⟨j,i,e⟩|e<;>rw[e]at h<;>cases h
  |bc a b d=>rcases qgn (owns:=owns) a b d with⟨j,i,e⟩|e<;>rw[e]at h<;>cases h
  |oc a b d=>cases h
theorem Zs{k:Nat×Nat}:∀{l:List (Nat×Nat)},qm7 k l=true->∀j,j∈l->j≠k
 |[],_,j,hj=>by simp at hj
 |x::l,h,j,hj=>by
  simp only[qm7]at h
  split at h
  ·cases h
  ·rename_i hb
   rcases zie.mp hj with rfl|hj
   ·rintro rfl
    simp[JJ]at hb
   ·exact Zs h j hj
theorem Zk:∀{l:List (Nat×Nat)},vL l=true->∀(i j:Nat) (k:Nat×Nat),l[i]?=some k->l[j]?=some k->i=j
 |[],_,i,j,k,hi,_=>by simp at hi
 |x::l,h,i,j,k,hi,hj=>by
  simp only[vL]at h
  split at h
  ·rename_i hn
   cases i with
   |zero=>
    cases j with
    |zero=>rfl
    |succ j=>
     simp at hi hj
     subst hi
     exact absurd rfl (Zs hn _ (zig hj))
   |succ i=>
    cases j with
    |zero=>
     simp at hi hj
     subst hj
     exact absurd rfl (Zs hn _ (zig hi))
    |succ j=>
     simp at hi hj
     rw[Zk h i j k hi hj]
  ·cases h
section
variable {c:Cx}{G:Gh}{w:World}{st:St}{tmps:Array Value}
theorem Yo{R:Type}(st:St)(tt:TypeId->Option TI)(r:ResultVar)(K:AV->Option R):KQ st tt r K=(KQ st tt r some).bind K:=by
 unfold KQ
 repeat' split
 all_goals simp[zh9]
theorem wn{R:Type}(st:St)(tt:TypeId->Option TI):∀(l:List ResultVar) (K:List AV->Option R),wo st tt K l=(wo st tt some l).bind K
 |[],K=>rfl
 |r::l,K=>by
  simp only[wo]
  rw[Yo,Yo (K:=fun x=>wo st tt (fun xs=>some (x::xs)) l)]
  simp only[zh9]
  congr 1;funext x
  rw[wn st tt l,wn st tt l (fun xs=>some (x::xs))]
  simp[zh9]
def wq(tmps:Array Value):ResultVar->Sem Value
 | .tmp t=>pure (tmps.getD t undef)
 | .cell a t=>do loadVar t (<-asAddr (tmps.getD a undef))
theorem res1(hc:Ok c)(hI:Inv G w st tmps){r:ResultVar}{x:AV}(hr:KQ st c.tn r some=some x):
 ∃own v,wN (Zi st r) own/\zi G w own x v/\(wq tmps r).run c.P w= .ok v w:=by
 cases r with
 |tmp t=>exact⟨fun i=>.sl t 0 i,_,.inl ⟨rfl,rfl⟩,ya (hI.slots t) (by simpa[KQ]using hr),rfl⟩
 |cell a ty=>
  simp only[KQ]at hr
  split at hr
  ·rename_i ti hti
   split at hr
   ·rename_i k g off hs
    split at hr
    ·rename_i g' cs hb
     split at hr
     ·rename_i hg
      subst hg
      have hsl:=hI.slots a
      rw[hs]at hsl
      obtain⟨blk,hla,hv⟩:=hsl
      obtain⟨blk',b1,b2,b3⟩:=hI.boxes k g cs hb
      rw[hla]at b1;cases b1
      obtain⟨arr,e,c1,c2,c3⟩:=b3
      have ht:=hc.tt ty ti (qp hti).1
      have hz:=ht.sizeOf (qp hti).2 w
      have ha:=ht.isAgg (qp hti).2 w
      obtain⟨arrL,harr⟩:∃l,l=arr.toList.take cs.length:=⟨_,rfl⟩
      have hlen:cs.length=arrL.length:=by rw[harr];simp;omega
      have hin:∀(k:Nat) (u:Value),arrL[k]?=some u->arr[k]?=some u:=by
       intro k u hu
       rw[harr,zij]at hu
       split at hu
       ·simpa using hu
       ·cases hu
      have hkey:Zi st (.cell a ty)=(1,k):=by simp[Zi,hs]
      split at hr
      ·rename_i hag
       obtain⟨l,hl,hr⟩:=bsm hr
       cases hr
       obtain⟨hle,rfl⟩:=zM hl
       refine⟨fun i=>.bc k g (off+i),.agg ((arrL.drop off).take ti.size).toArray,.inr ⟨by rw[hkey],g,off,by rw[hkey]⟩,⟨(arrL.drop off).take ti.size,rfl,by simp[hlen],fun i y u hy hu=>?_⟩,?_⟩
       ·rw[zij]at hy hu
        split at hy
        ·rename_i hq
         simp only[hq,if_true]at hu
         rw[zi0]at hy hu
         exact c3 (off+i) y u hy (hin _ _ hu)
        ·cases hy
       ·have hload:=run_loadCells_list (P:=c.P) (w:=w) (⟨blk,off,none⟩:Addr) ((arrL.drop off).take ti.size) (fun j v hj=>by
         rw[qS,qR c1]
         rw[zij]at hj
         split at hj
         ·rw[zi0]at hj;exact hin _ _ hj
         ·cases hj)
        have hll:((arrL.drop off).take ti.size).length=ti.size:=qg
        rw[hll]at hload
        simp[wq,hv,asAddr,loadVar,ha,hag,hz,hload]
      ·rename_i hag
       have hx:cs[off]?=some x:=by
        obtain⟨y,hy,hr⟩:=bsm hr
        cases hr;exact hy
       obtain⟨u,hu⟩:=qU hlen hx
       have hu':arr[off]?=some u:=hin _ _ hu
       have hrel:=c3 off x u hx hu'
       have hag':yJ ti.k=false:=by simpa using hag
       refine⟨fun i=>.bc k g (off+i),u,.inr ⟨by rw[hkey],g,off,by rw[hkey]⟩,jx.v hrel,?_⟩
       have hcell:w.cell? (⟨blk,off,none⟩:Addr)=some u:=by rw[qR c1];exact hu'
       simp[wq,hv,asAddr,loadVar,ha,hag',hcell]
     ·cases hr
    ·cases hr
   ·cases hr
  ·cases hr
theorem ress(hc:Ok c)(hI:Inv G w st tmps):∀{rs:List ResultVar} {xs:List AV},wo st c.tn some rs=some xs->
 ∃(owns:List (Nat->Ow)) (vs:List Value),owns.length=rs.length/\vs.length=rs.length/\xs.length=rs.length/\(rs.mapM (wq tmps)).run c.P w= .ok vs w/\
  (∀(j:Nat) (own:Nat->Ow),owns[j]?=some own->∃r,rs[j]?=some r/\wN (Zi st r) own)/\
  ∀(j:Nat) (x:AV) (v:Value),xs[j]?=some x->vs[j]?=some v->∃own,owns[j]?=some own/\zi G w own x v
 |[],xs,h=>by simp only[wo]at h;cases h;exact⟨[],[],rfl,rfl,rfl,rfl,qe,qe⟩
 |r::rs,xs,h=>by
  simp only[wo]at h
  rw[Yo]at h
  obtain⟨x,hx,h⟩:=bsm h
  rw[wn]at h
  obtain⟨xs',hxs,h⟩:=bsm h
  cases h
  obtain⟨own,v,h1,h2,h3⟩:=res1 hc hI hx
  obtain⟨owns,vs,g1,g2,g3,g4,g5,g6⟩:=ress hc hI hxs
  refine⟨own::owns,v::vs,by simp[g1],by simp[g2],by simp[g3],?_,?_,?_⟩
  ·rw[List.mapM_cons]
   simp only[Sem.run_bind,h3,Result.andThen_ok,g4,Sem.run_pure]
  ·intro j own' hj
   cases j with
   |zero=>simp at hj;subst hj;exact⟨r,rfl,h1⟩
   |succ j=>simp at hj;obtain⟨r',a1,a2⟩:=g5 j own' hj;exact⟨r',by simpa using a1,a2⟩
  ·intro j x' v' hx' hv'
   cases j with
   |zero=>simp at hx' hv';subst hx';subst hv';exact⟨own,rfl,h2⟩
   |succ j=>simp at hx' hv';obtain⟨own',a1,a2⟩:=g6 j x' v' hx' hv';exact⟨own',by simpa using a1,a2⟩
theorem qfq{P:Program}{fn:Func}{vs:List Value}(h:(fn.results.toList.mapM (wq tmps)).run P w= .ok vs w):
 (results fn tmps).run P w= .ok (match vs with|[v]=>v|vs=>.tuple vs.toArray) w:=by
 have hm:(fn.results.mapM (wq tmps)).run P w= .ok vs.toArray w:=by
  rw[Array.mapM_eq_mapM_toList,Sem.run_map,h];rfl
 have e:results fn tmps=(do let vs<-fn.results.mapM (wq tmps);pure (if h:vs.size=1 then vs[0]else .tuple vs)):=by
  unfold results
  congr 1
 rw[e,Sem.run_bind,hm]
 simp only[Result.andThen_ok,Sem.run_pure]
 match vs with
 |[]=>rfl
 |[v]=>rfl
 |v::v'::vs=>simp
theorem zen(hc:Ok c){f:FuncId}{fn:Func}(hF:c.F f=some fn)(hI:Inv G w st tmps){y:AV}{hp:Hp}(hr:fin c f st=some (y,hp)):
 ∃v G',(results fn tmps).run c.P w= .ok v w/\Fr G w G' w/\HpI G' w hp/\qq6 G' w y v:=by
 unfold fin at hr
 rw[hF]at hr
 simp only at hr
 cases hd:vL (fn.results.toList.map (Zi st))with
 |false=>rw[hd]at hr;cases hr
 |true=>
  rw[hd]at hr
  simp only[cond_true]at hr
  rw[wn]at hr
  obtain⟨xs,hxs,hr⟩:=bsm hr
  obtain⟨owns,vs,g1,g2,g3,g4,g5,g6⟩:=ress hc hI hxs
  have hform:∀(j:Nat) (own:Nat->Ow),owns[j]?=some own->∀i,(∃a b c,own i= .sl a b c)\/∃a b c,own i= .bc a b c:=by
   intro j own hj i
   obtain⟨r,_,h⟩:=g5 j own hj
   exact h.form i
  have hinj:∀(j j':Nat) (own own':Nat->Ow) (i i':Nat),owns[j]?=some own->owns[j']?=some own'->own i=own' i'->j=j'/\i=i':=by
   intro j j' own own' i i' hj hj' e
   obtain⟨r,hr1,h⟩:=g5 j own hj
   obtain⟨r',hr1',h'⟩:=g5 j' own' hj'
   have hk:=h.inj h' e
   have e1:(fn.results.toList.map (Zi st))[j]?=some (Zi st r):=by rw[zir,hr1];rfl
   have e2:(fn.results.toList.map (Zi st))[j']?=some (Zi st r):=by rw[zir,hr1',hk];rfl
   have ej:=Zk hd j j' _ e1 e2
   subst ej
   rw[hj]at hj';cases hj'
   exact⟨rfl,h.inj1 e⟩
  have hrho:=qpb owns hform
  have hfr:Fr G w (G.rel (vf owns)) w:=Fr.rel hrho
  have hrel:∀(j:Nat) (x:AV) (v:Value),xs[j]?=some x->vs[j]?=some v->zi (G.rel (vf owns)) w (.sl 0 j ·) x v:=by
   intro j x v hx hv
   obtain⟨own,ho,hr⟩:=g6 j x v hx hv
   refine zi.ev hfr.ev (p:=own) (fun i b hb=>⟨rfl,rfl,?_⟩) hr
   simp only[Gh.rel,hb]
   exact qpc hinj hform ho i
  refine⟨_,G.rel (vf owns),qfq g4,hfr,?_,?_⟩
  ·have:hp=st.hp:=by
    split at hr<;>cases hr<;>rfl
   subst this
   exact hI.hpI.rel hrho (fun _ _=>rfl) (fun _ _ _=>rfl)
  ·match xs,vs,hr,g2,g3,hrel with
   |[x],[v],hr,_,_,hrel=>
    cases hr
    have:=hrel 0 _ _ rfl rfl
    unfold qq6
    split
    ·exact this.elim
    ·exact this
   |[],[],hr,_,_,hrel=>cases hr;exact⟨[],rfl,rfl,qe⟩
   |x::x'::xs,v::v'::vs,hr,g2,g3,hrel=>cases hr;exact⟨_,rfl,by simp at g2 g3⊢;omega,hrel⟩
   |[],v::vs,hr,g2,g3,_=>simp at g2 g3;omega
   |[x],[],hr,g2,g3,_=>simp at g2 g3;omega
   |[x],v::v'::vs,hr,g2,g3,_=>simp at g2 g3;omega
   |x::x'::xs,[],hr,g2,g3,_=>simp at g2 g3;omega
   |x::x'::xs,[v],hr,g2,g3,_=>simp at g2 g3;omega
end
def ZE(N:Nat):Code->Bool
 | .region _ ops _=>ops.toList.all fun o=>match o.dst with|some d=>Nat.blt d N|none=>true
 | .seq a b=>ZE N a&&ZE N b
 | .cond _ a b=>ZE N a&&ZE N b
 | .block _ b=>ZE N b
 | .loop b=>ZE N b
 | .scope b=>ZE N b
 |_=>true
def ql4(N:Nat):It->Prop
 | .code c=>ZE N c=true
 | .inBlock _=>True
 | .inLoop b=>ZE N b=true
 | .inScope _=>True
 | .ops _ _ _ _ _=>False
def xC:It->Item
 | .code c=>.code c
 | .inBlock i=>.inBlock i
 | .inLoop b=>.inLoop b
 | .inScope b=>.inScope b
 | .ops _ ops is _ _=>.inRegion ops is
theorem kA{N:Nat}{id:Nat}:∀{k k':List It},qas id k=some k'->(∀it∈k,ql4 N it)->exitTo id (k.map xC)=some (k'.map xC)/\∀it∈k',ql4 N it
 |[],k',h,_=>by simp[qas]at h
 | .inBlock j::k,k',h,hk=>by
  simp only[qas]at h
  by_cases e:j=id
  ·rw[if_pos e]at h;cases h
   subst e
   exact⟨by simp[exitTo,xC],fun it hi=>hk it (by simp[hi])⟩
  ·rw[if_neg e]at h
   obtain⟨h1,h2⟩:=kA h fun it hi=>hk it (by simp[hi])
   have hne:(j==id)=false:=by simpa using e
   exact⟨by simp only[zjc,xC,exitTo,hne];exact h1,h2⟩
 | .code c::k,k',h,hk=>by
  obtain⟨h1,h2⟩:=kA (k:=k) h fun it hi=>hk it (by simp[hi])
  exact⟨h1,h2⟩
 | .inLoop b::k,k',h,hk=>by
  obtain⟨h1,h2⟩:=kA (k:=k) h fun it hi=>hk it (by simp[hi])
  exact⟨h1,h2⟩
 | .inScope b::k,k',h,hk=>by
  obtain⟨h1,h2⟩:=kA (k:=k) h fun it hi=>hk it (by simp[hi])
  exact⟨h1,h2⟩
 | .ops r ops is d acc::k,k',h,hk=>(show False from hk (.ops r ops is d acc) qe).elim
section
variable {c:Cx}{R:Orc}{G:Gh}{w:World}
theorem Inv.mask{st:St}{t:Array Value}(hI:Inv G w st t)(m:Option (List Nat)):Inv G w (AI.mask m st) t:=by
 cases m with
 |none=>exact hI
 |some live=>
  have hb:∀k g cs,zQ (xm st.bx live) k=some (g,cs)->zQ st.bx k=some (g,cs):=by
   intro k g cs h
   rw[Zz]at h
   split at h
   ·exact h
   ·cases h
  exact{
   slots:=fun k=>by
    show qG G w k (qA (Ql (xm st.bx live) st.sl live) k) _
    rw[vX]
    split
    ·have h:=hI.slots k
     cases hs:qA st.sl k with
     |lp j g off=>
      simp only[Va]
      split
      ·rw[hs]at h;exact h
      ·trivial
     |_=>rw[hs]at h;exact h
    ·trivial
   boxes:=fun k g cs h=>hI.boxes k g cs (hb k g cs h)
   heap:=hI.heap
   next:=hI.next
   hlt:=hI.hlt
   new:=hI.new
   vars:=hI.vars
   lps:=fun j k g off h=>by
    have h':qA (Ql (xm st.bx live) st.sl live) j= .lp k g off:=h
    show∃g' cs,zQ (xm st.bx live) k=some (g',cs)/\g<=g'
    rw[vX]at h'
    split at h'
    ·cases hs:qA st.sl j with
     |lp j' g' off'=>
      rw[hs]at h'
      simp only[Va]at h'
      split at h'
      ·rename_i q hq
       cases h'
       obtain⟨g',cs,h1,h2⟩:=hI.lps j k g off hs
       rw[hq]
       have:=hb k q.1 q.2 hq
       rw[h1]at this
       cases this
       exact⟨_,_,rfl,h2⟩
      ·cases h'
     |_=>rw[hs]at h';cases h'
    ·cases h'}
theorem Inv.world{w':World}{st:St}{t:Array Value}(hI:Inv G w st t)(hw:w'.heap=w.heap):Inv G w' st t:=by
 have he:Ev G w G w':=⟨fun b i _=>by simp[World.cell?,hw],fun _=>zif _,fun _ _ _ h=>h,fun b z h=>(ZI (w:=w) (w':=w') (by rw[hw])).trans h⟩
 have hk:∀p,zA G w G w' p p:=fun p b hb=>⟨by rw[hw],rfl,hb⟩
 exact{
  slots:=fun k=>qG.ev he (fun j i=>hk _) (fun _ _ _ _ _ h=>h) (hI.slots k)
  boxes:=fun k g cs h=>by
   obtain⟨blk,h1,h2,h3⟩:=hI.boxes k g cs h
   exact⟨blk,h1,h2,h3.ev he (by rw[hw]) fun i=>hk _⟩
  heap:=fun k g cs h=>by
   obtain⟨blk,h1,h2,h3⟩:=hI.heap k g cs h
   exact⟨blk,h1,h2,h3.ev he (by rw[hw]) fun i=>hk _⟩
  next:=hI.next
  hlt:=hI.hlt
  new:=fun b hb=>hI.new b (by rw[hw]at hb;exact hb)
  vars:=hI.vars
  lps:=hI.lps}
theorem Fr.world{w':World}(hw:w'.heap=w.heap)(hr:ZP w w'):Fr G w G w':=
 ⟨by rw[hw];exact zif _,fun b i _=>by simp[World.cell?,hw],fun _=>zif _,fun _ _ _ h=>h,fun b _ _=>⟨by rw[hw],rfl,rfl⟩,hr,fun b z h=>(ZI (w:=w) (w':=w') (by rw[hw])).trans h⟩
theorem zcf{st st':St}{t:Array Value}(hv:st.vw=st'.vw)(hI:Inv G w st t):Inv G w st' t:=by
 have h1:qA st'.sl=qA st.sl:=(congrArg Vw.sl hv).symm
 have h2:zQ st'.bx=zQ st.bx:=(congrArg Vw.bx hv).symm
 have h3:st'.hp=st.hp:=(congrArg Vw.hp hv).symm
 exact{
  slots:=by rw[h1];exact hI.slots
  boxes:=by rw[h2];exact hI.boxes
  heap:=by rw[h3];exact hI.heap
  next:=by rw[h3];exact hI.next
  hlt:=by rw[h3];exact hI.hlt
  new:=hI.new
  vars:=hI.vars
  lps:=by rw[h1,h2];exact hI.lps}
theorem qpe(hc:Ok c)(hR:vq c R)(hS:Qx c R){f:FuncId}{r:Nat}{ops:Array Oper}{d:Bool}{st st':St}{accs:List (Nat×Fp)}{a:Act}(hI:Inv G w st a.tmps)
 (hd:∀o∈ops,jy o a) (hrun:Qc c R f r ops (List.range ops.size) st.vw=some (st'.vw,accs)) (hok:d=true->YA ops accs.reverse=true/\∀o∈qzf ops accs.reverse,o=some ()):
 (Code.region r ops d).wp c.P (fun e a' w'=>e= .normal/\∃G',Inv G' w' st' a'.tmps/\Fr G w G' w'/\a'.tmps.size=a.tmps.size/\a'.defers=a.defers) a w:=by
 have conv:∀{w0:World} (_:Fr G w G w0) (a':Act) (w':World),Wo G w0 a st'.vw a' w'->∃G',Inv G' w' st' a'.tmps/\Fr G w G' w'/\a'.tmps.size=a.tmps.size/\a'.defers=a.defers:=by
  rintro w0 hf a' w' ⟨G',⟨s,hs,hI'⟩,h2,h3,h4⟩
  exact⟨G',zcf hs hI',hf.trans h2,h3,h4⟩
 cases d with
 |false=>
  exact wp_region (quj hc hR hS _ G w a _ _ _ hrun ⟨st,rfl,hI⟩ hd fun a' w' h=>⟨rfl,conv (Fr.refl G w) a' w' h⟩)
 |true=>
  obtain⟨hdr,hpe⟩:=hok rfl
  unfold YA at hdr
  have hdeps:Vs ops=true:=by
   cases h:Vs ops with
   |true=>rfl
   |false=>rw[h]at hdr;cases hdr
  have hpairs:∀p∈accs.reverse,∀q∈accs.reverse,(!(decide (p.1<q.1))||((jv ops.toList []).getD q.1 []).contains p.1||!(qnx p.2 q.2))=true:=by
   intro p hp q hq
   rw[hdeps,Bool.true_and]at hdr
   exact zja.mp (zja.mp hdr p hp) q hq
  have hw:({w with drawn:=w.drawn+1}:World).heap=w.heap:=rfl
  refine wp_region_any hc.mixed (qw0 hc hR hS hdeps ops.size (List.range ops.size) (Array.replicate ops.size false) G {w with drawn:=w.drawn+1} a st.vw st'.vw accs qe (fun i=>?_) (fun i hi=>zls.mp hi) qe
   List.pairwise_lt_range (fun j o d hj _ _=>?_) hrun (fun x Fx y Fy hx hy hxy=>?_) ⟨st,rfl,hI.world hw⟩ hd fun a' w' h=>⟨rfl,conv (Fr.world hw ⟨rfl,rfl,rfl⟩) a' w' h⟩)
  ·rw[zls]
   by_cases h:i<ops.size<;>simp[Array.getD,h]
  ·exfalso
   by_cases h:j<ops.size<;>simp[Array.getD,h]at hj
  ·have:=hpairs (x,Fx) (by simpa using hx) (y,Fy) (by simpa using hy)
   simp only[hxy,decide_true,Bool.not_true,Bool.false_or,zlf]at this
   rcases this with h|h
   ·exact .inl (by simpa using h)
   ·by_cases hanc:x∈(jv ops.toList []).getD y []
    ·exact .inl hanc
    ·have no:∀j,j∈(jv ops.toList []).getD x []->j<x:=fun j hj=>zfh hdeps hj
     have hord:qd1 (jv ops.toList []) x y=false:=by
      unfold qd1
      have h2:y∉(jv ops.toList []).getD x []:=fun hm=>by have:=no y hm;omega
      rw[Bool.or_eq_false_iff,List.contains_eq_mem,List.contains_eq_mem]
      exact⟨decide_eq_false hanc,decide_eq_false h2⟩
     have hord':qd1 (jv ops.toList []) y x=false:=by
      unfold qd1 at hord⊢
      rw[Bool.or_comm];exact hord
     refine .inr (qwz (by simpa using h) (fun q hq hw=>?_) (fun q hq hw=>?_))
     ·have:=qat hpe (p:=(x,Fx)) (q:=(y,Fy)) (by simpa using hx) (by simpa using hy) hq hw
      rw[hord]at this
      exact this.resolve_left qe
     ·have:=qat hpe (p:=(y,Fy)) (q:=(x,Fx)) (by simpa using hy) (by simpa using hx) hq hw
      rw[hord']at this
      exact this.resolve_left qe
theorem zev{N:Nat}{r:Nat}{ops:Array Oper}{d:Bool}(h:ZE N (.region r ops d)=true){a:Act}(hN:N<=a.tmps.size):∀o∈ops,jy o a:=by
 intro o ho k hk
 simp only[ZE]at h
 have:=zja.mp h o (by simpa using ho)
 rw[hk]at this
 have hlt:k<N:=by simpa[Nat.blt_eq]using this
 exact zi8 hlt hN
def wO(P:Program)(f:FuncId)(G:Gh)(w:World)(y:AV)(hp:Hp)(m:Machine)(cs:List Frame):Prop:=
 ∃v G' w' fr,Steps P m (lone fr cs w')/\fr.fn=f/\fr.leaving P w' (.returned v)/\Fr G w G' w'/\HpI G' w' hp/\qq6 G' w' y v
theorem wO.of{P:Program}{f:FuncId}{G G1:Gh}{w w1:World}{y:AV}{hp:Hp}{m m1:Machine}{cs:List Frame}(hs:Steps P m m1)(hf:Fr G w G1 w1)(h:wO P f G1 w1 y hp m1 cs):wO P f G w y hp m cs:=by
 obtain⟨v,G',w',fr,h1,h2,h3,h4,h5,h6⟩:=h
 exact⟨v,G',w',fr,hs.trans h1,h2,h3,hf.trans h4,h5,h6⟩
theorem zg5(hc:Ok c)(hR:vq c R)(hS:Qx c R){f:FuncId}{fn:Func}(hF:c.F f=some fn){N:Nat}:∀(n:Nat) (its:List It) (st:St) (y:AV) (hp:Hp),wE c R f n its st=some (y,hp)->(∀it∈its,ql4 N it)->
 ∀(G:Gh) (w:World) (a:Act),Inv G w st a.tmps->N<=a.tmps.size->a.defers=[]->∀(b:Frame) (cs:List Frame),b.fn=f->b.kind= .normal->wO c.P f G w y hp (lone (b.at a (its.map xC)) cs w) cs:=by
 intro n
 induction n using Nat.strongRecOn with
 |_ n ih=>
 intro its st y hp hgo hits G w a hI hN hdef b cs hb hk
 cases n with
 |zero=>simp[wE]at hgo
 |succ n=>
 have hP:=hc.F f fn hF
 have ends:∀(todo:List Item),fin c f st=some (y,hp)->Steps c.P (lone (b.at a (its.map xC)) cs w) (lone {b.at a todo with mode:=.returning} cs w)->wO c.P f G w y hp (lone (b.at a (its.map xC)) cs w) cs:=by
  intro todo hfin hs
  obtain⟨v,G',h1,h2,h3,h4⟩:=zen hc hF hI hfin
  exact⟨v,G',w,_,hs,hb,⟨rfl,hdef,hk,fn,by rw[<-hP];exact congrArg _ hb,h1⟩,h2,h3,h4⟩
 have on:∀(its':List It),wE c R f n its' st=some (y,hp)->(∀it∈its',ql4 N it)->step c.P (lone (b.at a (its.map xC)) cs w)= .next (lone (b.at a (its'.map xC)) cs w)->wO c.P f G w y hp (lone (b.at a (its.map xC)) cs w) cs:=by
  intro its' hgo' hits' hs
  exact wO.of (.one hs) (Fr.refl G w) (ih n (zj4 n) its' st y hp hgo' hits' G w a hI hN hdef b cs hb hk)
 simp only[wE]at hgo
 match its,hgo,hits,ends,on with
 |[],hgo,hits,ends,on=>exact ends _ hgo (.one step_end)
 | .inBlock id::k,hgo,hits,ends,on=>exact on _ hgo (fun it hi=>hits it (by simp[hi])) step_inBlock
 | .inScope body::k,hgo,hits,ends,on=>exact on _ hgo (fun it hi=>hits it (by simp[hi])) step_inScope
 | .inLoop body::k,hgo,hits,ends,on=>
  exact on (.code body::.inLoop body::k) hgo (fun it hi=>by
   simp only[zie]at hi
   rcases hi with rfl|rfl|hi
   ·exact hits (.inLoop body) qe
   ·exact hits (.inLoop body) qe
   ·exact hits it (by simp[hi])) step_inLoop
 | .code .skip::k,hgo,hits,ends,on=>exact on _ hgo (fun it hi=>hits it (by simp[hi])) step_skip
 | .code (.label l)::k,hgo,hits,ends,on=>exact on _ hgo (fun it hi=>hits it (by simp[hi])) step_label
 | .code .ret::k,hgo,hits,ends,on=>exact ends _ hgo (.one step_ret)
 | .code (.seq x z)::k,hgo,hits,ends,on=>
  have h:=hits (.code (.seq x z)) qe
  simp only[ql4,ZE,zke]at h
  exact on (.code x::.code z::k) hgo (fun it hi=>by
   simp only[zie]at hi
   rcases hi with rfl|rfl|hi
   ·exact h.1
   ·exact h.2
   ·exact hits it (by simp[hi])) step_seq
 | .code (.block id x)::k,hgo,hits,ends,on=>
  exact on (.code x::.inBlock id::k) hgo (fun it hi=>by
   simp only[zie]at hi
   rcases hi with rfl|rfl|hi
   ·exact hits (.code (.block id x)) qe
   ·trivial
   ·exact hits it (by simp[hi])) step_block
 | .code (.loop x)::k,hgo,hits,ends,on=>
  have hgo:wE c R f n (.inLoop x::k) st=some (y,hp):=hgo
  cases n with
  |zero=>simp[wE]at hgo
  |succ n=>
   simp only[wE,jL]at hgo
   have hits':∀it∈ .code x::.inLoop x::k,ql4 N it:=fun it hi=>by
    simp only[zie]at hi
    rcases hi with rfl|rfl|hi
    ·exact hits (.code (.loop x)) qe
    ·exact hits (.code (.loop x)) qe
    ·exact hits it (by simp[hi])
   exact wO.of (.one step_loop) (Fr.refl G w) (ih n qc _ st y hp hgo hits' G w a hI hN hdef b cs hb hk)
 | .code (.exit id)::k,hgo,hits,ends,on=>
  simp only[jL]at hgo
  obtain⟨k',hk',hgo⟩:=bsm hgo
  obtain⟨h1,h2⟩:=kA (N:=N) hk' (fun it hi=>hits it (by simp[hi]))
  exact on _ hgo h2 (step_exit h1)
 | .code (.cond x p q)::k,hgo,hits,ends,on=>
  simp only[jL]at hgo
  obtain⟨u,hu,hgo⟩:=bsm hgo
  obtain⟨t,ht,hgo⟩:=bsm hgo
  have hx:=(yq hI (ju hu)).1
  rw[JL ht]at hx
  have h:=hits (.code (.cond x p q)) qe
  simp only[ql4,ZE,zke]at h
  have hs:=step_cond (P:=c.P) (b:=b) (k:=k.map xC) (cs:=cs) (w:=w) (x:=p) (y:=q) hx
  cases t with
  |true=>
   exact on (.code p::k) hgo (fun it hi=>by
    simp only[zie]at hi
    rcases hi with rfl|hi
    ·exact h.1
    ·exact hits it (by simp[hi])) hs
  |false=>
   exact on (.code q::k) hgo (fun it hi=>by
    simp only[zie]at hi
    rcases hi with rfl|hi
    ·exact h.2
    ·exact hits it (by simp[hi])) hs
 | .code (.region r ops d)::k,hgo,hits,ends,on=>
  simp only[jL]at hgo
  obtain⟨n',st',accs,h1,h2,h3,h4⟩:=zb0 n _ d [] k _ _ hgo
  have hdst:=zev (hits (.code (.region r ops d)) qe) hN
  have hwp:=qpe hc hR hS (d:=d) (hI.mask (c.M f r)) hdst h2 (fun e=>by simpa using h3 e)
  obtain⟨e,a',w',⟨he,G',i1,i2,i3,i4⟩,harr⟩:=hwp b (k.map xC) cs
  subst he
  exact wO.of harr i2 (ih n' qc k st' y hp h4 (fun it hi=>hits it (by simp[hi])) G' w' a' i1 (by rw[i3];exact hN) (by rw[i4];exact hdef) b cs hb hk)
 | .ops r ops is d acc::k,hgo,hits,ends,on=>exact(show False from hits (.ops r ops is d acc) qe).elim
 | .code (.rangeFunc _ _ _ _)::k,hgo,hits,ends,on=>simp[jL]at hgo
 | .code (.scope x)::k,hgo,hits,ends,on=>
  exact on (.code x::.inScope x::k) hgo (fun it hi=>by
   simp only[zie]at hi
   rcases hi with rfl|rfl|hi
   ·exact hits (.code (.scope x)) qe
   ·trivial
   ·exact hits it (by simp[hi])) step_scope
 | .code (.goto _)::k,hgo,hits,ends,on=>simp[jL]at hgo
 | .code (.refuse _)::k,hgo,hits,ends,on=>simp[jL]at hgo
theorem XW(hc:Ok c):∀(i:Nat) (ts:List TypeId) (xs:List AV) (l:Slots),xr c i ts xs some=some l->
 ∀k,qA l k= .un\/∃x,xs[k-i]?=some x/\i<=k/\(qA l k= .av x\/∃v,x= .sc v/\qA l k= .sv v)
 |i,[],[],l,h,k=>by simp only[xr]at h;cases h;exact .inl rfl
 |i,[],x::xs,l,h,k=>by
  simp only[xr]at h
  rw[zU]at h
  obtain⟨l',h1,h2⟩:=bsm h
  cases h2
  rw[ze]
  by_cases e:i=k
  ·subst e;rw[if_pos rfl];exact .inr ⟨x,qe,zif _,.inl rfl⟩
  ·rw[if_neg e]
   rcases XW hc (i+1) [] xs l' h1 k with h|⟨x',h,h',h''⟩
   ·exact .inl h
   ·refine .inr ⟨x',?_,qc,h''⟩
    rw[show k-i=(k-(i+1))+1 by omega];simpa using h
 |i,t::ts,[],l,h,k=>by simp[xr]at h
 |i,t::ts,x::xs,l,h,k=>by
  simp only[xr]at h
  have rest:∀(l':Slots) (s:SV),xr c (i+1) ts xs some=some l'->(s= .av x\/∃v,x= .sc v/\s= .sv v)->l=(i,s)::l'->
   qA l k= .un\/∃x',(x::xs)[k-i]?=some x'/\i<=k/\(qA l k= .av x'\/∃v,x'= .sc v/\qA l k= .sv v):=by
   rintro l' s h1 hs rfl
   rw[ze]
   by_cases e:i=k
   ·subst e;rw[if_pos rfl];exact .inr ⟨x,qe,zif _,hs⟩
   ·rw[if_neg e]
    rcases XW hc (i+1) ts xs l' h1 k with h|⟨x',h,h',h''⟩
    ·exact .inl h
    ·refine .inr ⟨x',?_,qc,h''⟩
     rw[show k-i=(k-(i+1))+1 by omega];simpa using h
  split at h
  ·split at h
   ·obtain⟨v,hv,h⟩:=bsm h
    rw[zU]at h
    obtain⟨l',h1,h2⟩:=bsm h
    cases h2
    exact rest l' _ h1 (.inr ⟨v,yX hv,rfl⟩) rfl
   ·rw[zU]at h
    obtain⟨l',h1,h2⟩:=bsm h
    cases h2
    exact rest l' _ h1 (.inl rfl) rfl
  ·cases h
def Wb(c:Cx):Prop:=∀f fn b,c.F f=some fn->fn.body=some b->ZE fn.ntmps b=true
theorem qs1(hc:Ok c)(hD:Wb c)(hR:vq c R)(hS:Qx c R){f:FuncId}{xs:List AV}{hp hp':Hp}{y:AV}{n:Nat}(hr:yx c f xs hp (wE c R f n)=some (y,hp'))(G:Gh)(w:World)(vs:List Value)(hH:HpI G w hp)(hlen:xs.length=vs.length)
 (hargs:∀(i:Nat) (x:AV) (v:Value),xs[i]?=some x->vs[i]?=some v->XD G w x v):Calls c.P f vs.toArray w (qw3 G w y hp'):=by
 unfold yx at hr
 cases hF:c.F f with
 |none=>rw[hF]at hr;cases hr
 |some fn=>
  rw[hF]at hr
  simp only at hr
  cases hb:fn.body with
  |none=>rw[hb]at hr;cases hr
  |some body=>
   rw[hb]at hr
   simp only at hr
   rw[zU]at hr
   obtain⟨l,hl,hr⟩:=bsm hr
   let a:Act:={tmps:=vs.toArray++Array.replicate (fn.ntmps-vs.toArray.size) undef,defers:=[]}
   have hget:∀k v,vs[k]?=some v->a.tmps.getD k undef=v:=by
    intro k v hk
    have hlt:k<vs.length:=(zih.mp hk).1
    simp only[a,Array.getD_eq_getD_getElem?]
    rw[zjf (by simpa using hlt),zks,hk];rfl
   have hI:Inv G w ⟨l,[],hp⟩ a.tmps:={
    slots:=fun k=>by
     show qG G w k (qA l k) _
     rcases XW hc 0 _ _ _ hl k with h|⟨x,h1,h2,h3⟩
     ·rw[h];trivial
     ·rw[zmp]at h1
      obtain⟨v,hv⟩:=qU hlen h1
      have hrel:=hargs k x v h1 hv
      rw[hget k v hv]
      rcases h3 with h3|⟨u,rfl,h3⟩
      ·rw[h3];exact hrel _
      ·rw[h3]
       have hr':RelR G w (.sc u) v:=hrel (fun _=>.fr)
       cases hr' with
       |sc _ h1=>exact⟨rfl,h1⟩
    boxes:=fun k g cs h=>by simp[zQ]at h
    heap:=hH.heap
    next:=hH.next
    hlt:=hH.hlt
    new:=hH.new
    vars:=hH.vars
    lps:=fun j k g off h=>by
     have h':qA l j= .lp k g off:=h
     rcases XW hc 0 _ _ _ hl j with e|⟨x,h1,h2,e|⟨v,_,e⟩⟩<;>rw[e]at h'<;>cases h'}
   intro cs
   let b:Frame:={(default:Frame)with fn:=f,kind:=.normal}
   have hP:=hc.F f fn hF
   have henter:Frame.enter c.P f vs.toArray .normal=b.at a [.code body]:=by
    simp[Frame.enter,Frame.at,hP,hb,b,a]
   have:=zg5 hc hR hS hF (N:=fn.ntmps) n [.code body] ⟨l,[],hp⟩ y hp' hr (fun it hi=>by
    simp only[zjh]at hi
    subst hi
    exact hD f fn body hF hb) G w a hI (by simp[a];omega) rfl b cs rfl rfl
   obtain⟨v,G',w',fr,h1,h2,h3,h4,h5,h6⟩:=this
   refine⟨.returned v,w',fr,⟨v,G',rfl,h4,h5,h6⟩,?_,h2,h3⟩
   rw[henter]
   exact h1
theorem qo4:∀n,Qx c (jC c n)
 |0,f,xs,hp,r,h=>by simp[jC]at h
 |n+1,f,xs,hp,r,h=>by
  simp only[jC,yx]at h
  cases hF:c.F f with
  |none=>rw[hF]at h;cases h
  |some fn=>
   rw[hF]at h
   simp only at h
   cases hb:fn.body with
   |none=>rw[hb]at h;cases h
   |some b=>exact⟨fn,b,rfl,hb⟩
theorem KI(hc:Ok c)(hD:Wb c):∀n,vq c (jC c n)
 |0=>fun f xs hp y hp' h=>by simp[jC]at h
 |n+1=>fun f xs hp y hp' h G w vs hH hl ha=>qs1 hc hD (KI hc hD n) (qo4 n) h G w vs hH hl ha
theorem qon(hc:Ok c)(hD:Wb c){f:FuncId}{xs:List AV}{hp hp':Hp}{y:AV}(h:run c f xs hp=some (y,hp')){G:Gh}{w:World}{vs:List Value}(hH:HpI G w hp)(hl:xs.length=vs.length)
 (ha:∀(i:Nat) (x:AV) (v:Value),xs[i]?=some x->vs[i]?=some v->XD G w x v):Calls c.P f vs.toArray w (qw3 G w y hp'):=by
 obtain⟨n,hn⟩:=ko.mp h
 exact KI hc hD n f xs hp y hp' hn G w vs hH hl ha
end
inductive Tr (α : Type) where
 |leaf
 |node (k:Nat) (v:α) (l r:Tr α)
def Tr.get{α:Type}:Tr α->Nat->Option α
 | .leaf,_=>none
 | .node k v l r,x=>match Nat.beq x k with
  |true=>some v
  |false=>match Nat.blt x k with
   |true=>l.get x
   |false=>r.get x
def tkD:TypeDesc->TK
 | .struct fs=>.st (fs.toList.map fun f=>(f.offset,f.type))
 | .slice e=>.sl e
 | .array n e=>.ar n e
 | .map k e=>.mp k e
 | .tuple _=>.tu
 | .bool=>.sc
 | .int _=>.sc
 | .float _=>.sc
 | .complex _=>.sc
 | .string=>.sc
 |_=>.ot
def qvq:Value->Bool
 | .agg _=>true
 |_=>false
def zD:TypeDesc->List Value->Bool
 | .int k,[.int k' _]=>decide (k=k')
 | .bool,[.bool _]=>true
 | .string,[.string _]=>true
 | .pointer _,[.pointer none]=>true
 |_,[.int _ _]=>false
 |_,[.bool _]=>false
 |_,[.string _]=>false
 |_,[.pointer none]=>false
 |_,_=>true
def qvp:TypeDesc->Bool
 | .struct _=>true
 | .array _ _=>true
 |_=>false
def tupN:TypeDesc->Nat
 | .tuple l=>l.size
 |_=>0
def Km(P:Program)(t:TypeId):Option TI:=
 match P.info? t,P.underlying t with
 |some i,some d=>match Zb (tkD d)with
  |true=>some ⟨.tu,tupN d,i.bytes,[]⟩
  |false=>match i.zero with
   |some z=>match Nat.beq z.cells.toList.length i.size&&z.cells.toList.all (·.oneCell')&&(qvp d||zD d z.cells.toList)&&cond (yJ (tkD d)) (qvq z) z.oneCell' with
    |true=>some ⟨tkD d,i.size,i.bytes,z.cells.toList⟩
    |false=>none
   |none=>none
 |_,_=>none
theorem zco(d:TypeDesc):DOk d (tkD d):=by
 cases d<;>first|exact rfl|trivial|(intro x hx;subst hx;rfl)|exact⟨_,rfl,rfl⟩
theorem zcm{d:TypeDesc}(h:tkD d= .sc):qvp d=false:=by cases d<;>first|rfl|cases h
theorem zcn{d:TypeDesc}(h:tkD d= .ot):qvp d=false:=by cases d<;>first|rfl|cases h
theorem JZ{P:Program}{t:TypeId}{ti:TI}(h:Km P t=some ti):∃i d,P.info? t=some i/\P.underlying t=some d/\ti.k=tkD d/\i.bytes=ti.bytes/\
 ((Zb (tkD d)=true/\ti.zero=[])\/(Zb (tkD d)=false/\∃z,i.zero=some z/\z.cells.toList=ti.zero/\i.size=ti.size/\ti.zero.length=ti.size/\(∀v∈ti.zero,v.oneCell'=true)/\(qvp d=true\/zD d ti.zero=true)/\cond (yJ (tkD d)) (qvq z) z.oneCell'=true)):=by
 unfold Km at h
 split at h
 ·rename_i i d h1 h2
  split at h
  ·rename_i e
   cases h
   refine⟨i,d,h1,h2,?_,rfl,.inl ⟨e,rfl⟩⟩
   cases d<;>first|rfl|cases e
  ·rename_i e
   split at h
   ·rename_i z hz
    split at h
    ·rename_i c
     cases h
     simp only[zke,zlf]at c
     exact⟨i,d,h1,h2,rfl,rfl,.inr ⟨e,z,hz,rfl,rfl,Nat.eq_of_beq_eq_true c.1.1.1,fun v hv=>zja.mp c.1.1.2 v hv,c.1.2,c.2⟩⟩
    ·cases h
   ·cases h
 ·cases h
section
variable {P:Program}{t:TypeId}{ti:TI}
theorem ZT(h:Km P t=some ti)(k:TK)(hk:ti.k=k)(k0:k= .sc\/k= .ot):∃d,P.underlying t=some d/\zD d ti.zero=true:=by
 obtain⟨i,d,h1,h2,h3,_,h5⟩:=JZ h
 refine⟨d,h2,?_⟩
 have e:tkD d=k:=by rw[<-h3,hk]
 have e2:qvp d=false:=by
  rcases k0 with q|q
  ·exact zcm (e.trans q)
  ·exact zcn (e.trans q)
 rcases h5 with⟨q,_⟩|⟨_,z,_,_,_,_,_,q,_⟩
 ·rw[e]at q;rcases k0 with rfl|rfl<;>cases q
 ·rcases q with q|q
  ·rw[e2]at q;cases q
  ·exact q
theorem zcr(h:Km P t=some ti)(hi:qnk ti=true):∃k,P.underlying t=some (.int k):=by
 unfold qnk at hi
 split at hi
 ·rename_i k n hk hz
  obtain⟨d,h1,h2⟩:=ZT h _ hk (.inl rfl)
  rw[hz]at h2
  cases d<;>first|exact⟨_,h1⟩|cases h2
 ·cases hi
theorem zgg(h:Km P t=some ti)(hi:qhh ti=true):P.underlying t=some (.int .u8):=by
 unfold qhh at hi
 split at hi
 ·rename_i n hk hz
  obtain⟨d,h1,h2⟩:=ZT h _ hk (.inl rfl)
  rw[hz]at h2
  cases d<;>first|(rename_i k;have:k=IntKind.u8:=of_decide_eq_true h2;rw[h1,this])|cases h2
 ·cases hi
theorem zcp(h:Km P t=some ti)(hi:qa8 ti=true):P.underlying t=some .string:=by
 unfold qa8 at hi
 split at hi
 ·rename_i n hk hz
  obtain⟨d,h1,h2⟩:=ZT h _ hk (.inl rfl)
  rw[hz]at h2
  cases d<;>first|exact h1|cases h2
 ·cases hi
theorem zcs(h:Km P t=some ti)(hi:qnl ti=true):P.underlying t=some .bool:=by
 unfold qnl at hi
 split at hi
 ·rename_i n hk hz
  obtain⟨d,h1,h2⟩:=ZT h _ hk (.inl rfl)
  rw[hz]at h2
  cases d<;>first|exact h1|cases h2
 ·cases hi
theorem zcq(h:Km P t=some ti)(hi:zab ti=true):∃e,P.underlying t=some (.pointer e):=by
 unfold zab at hi
 split at hi
 ·rename_i hk hz
  obtain⟨d,h1,h2⟩:=ZT h _ hk (.inr rfl)
  rw[hz]at h2
  cases d<;>first|exact⟨_,h1⟩|cases h2
 ·cases hi
theorem qx3(h:Km P t=some ti)(hk:Zb ti.k=false){info:TypeInfo}{z:Value}(hi:P.info? t=some info)(hz:info.zero=some z):
 (yJ ti.k=true->∃vs,z= .agg vs)/\(yJ ti.k=false->z.oneCell'=true):=by
 obtain⟨i,d,h1,h2,h3,_,h5⟩:=JZ h
 rw[h1]at hi;cases hi
 rcases h5 with⟨q,_⟩|⟨_,z',hz',_,_,_,_,_,q⟩
 ·rw[h3,q]at hk;cases hk
 ·rw[hz']at hz;cases hz
  rw[h3]
  refine⟨fun e=>?_,fun e=>?_⟩
  ·rw[e]at q
   cases z<;>first|exact⟨_,rfl⟩|cases q
  ·rw[e]at q;exact q
theorem zgh(h:Km P t=some ti):TOk P t ti:=by
 refine⟨zgg h,zcp h,?_⟩
 obtain⟨i,d,h1,h2,h3,h4,h5⟩:=JZ h
 refine⟨i,d,h1,h2,by rw[h3];exact zco d,h4,fun e=>?_⟩
 rcases h5 with⟨q,_⟩|⟨_,z,a1,a2,a3,a4,a5,_⟩
 ·rw[h3,q]at e;cases e
 ·exact⟨a3,z,a1,a2,a4,a5⟩
end
def fnB(fn:Func):Bool:=!(fn.name== "runtime.NumGoroutine")&&match fn.body with|some b=>ZE fn.ntmps b|none=>true
def lkH:List (Nat×Nat×Nat)->Nat->Nat->Nat
 |[],_,_=>0
 |(a,b,h)::l,r,i=>match Nat.beq a r&&Nat.beq b i with|true=>h|false=>lkH l r i
def lkM:List (Nat×List Nat)->Nat->Option (List Nat)
 |[],_=>none
 |(a,m)::l,r=>match Nat.beq a r with|true=>some m|false=>lkM l r
def ZB(P:Program)(f:FuncId)(vs:List Value):Option Value:=
 (zO P (callFunc f vs.toArray)).bind fun n=>match n with
  | .value v=>some v
  |_=>none
def zdz(P:Program)(H:Tr (List (Nat×Nat×Nat)))(M:Tr (List (Nat×List Nat))):Cx:=
 ⟨P,Km P,fun f=>P.funcs[f]?,ZB P,fun f=>match H.get f with|some l=>lkH l|none=>fun _ _=>0,fun f=>match M.get f with|some l=>lkM l|none=>fun _=>none⟩
theorem mkOk{P:Program}{H:Tr (List (Nat×Nat×Nat))}{M:Tr (List (Nat×List Nat))}(hF:P.funcs.toList.all fnB=true)(hm:P.follows .mixedOrders=true):
 Ok (zdz P H M)/\Wb (zdz P H M):=by
 have hB:∀f fn,P.funcs[f]?=some fn->fnB fn=true:=fun f fn h=>zja.mp hF fn (Array.mem_toList_iff.mpr (Array.mem_of_getElem? h))
 refine⟨⟨fun t ti h=>zgh h,fun t ti h=>zcr h,fun t ti h=>zcs h,fun t ti h=>zcq h,fun t ti h hk info z hi hz=>qx3 h hk hi hz,fun f fn h=>h,fun f fn h=>?_,fun f fn vs v h hb hX w=>?_,hm⟩,fun f fn b h hb=>?_⟩
 ·have:=hB f fn h
  simp only[fnB,zke,Bool.not_eq_true']at this
  exact this.1
 ·have hX:ZB P f vs=some v:=hX
  unfold ZB at hX
  obtain⟨n,hn,hX⟩:=bsm hX
  have hr:=jq hn w
  split at hX
  ·cases hX;exact hr
  ·cases hX
 ·have:=hB f fn h
  simp only[fnB,zke,hb]at this
  exact this.2
def hlT:Tr (List (Nat×Nat×Nat)):=
 let n:Nat->List (Nat×Nat×Nat)->Tr (List (Nat×Nat×Nat))->Tr (List (Nat×Nat×Nat))->Tr (List (Nat×Nat×Nat)):=.node
 let o:Tr (List (Nat×Nat×Nat)):=.leaf
 let u:Nat->List (Nat×Nat×Nat)->Tr (List (Nat×Nat×Nat)):=fun k v=>.node k v o o
 (n 125 [(6,6,2),(8,2,2),(11,2,2),(12,3,2),(12,6,2),(12,7,2),(13,3,2),(15,0,3)] (n 61 [(9,0,1)] (n 30 [(9,0,1),(14,0,1),(32,0,1),(35,0,1)] (n 16 [(10,5,2),(11,1,2),(11,4,2),(29,5,2)] (n 10 [(1,1,2),(2,2,2),(3,13,2)] (n 6 [(5,1,2),(6,1,2),(6,3,2),(10,1,2),(13,3,2),(18,2,2),(19,0,2),(21,2,2),(21,6,2),(22,4,2)] (n 4 [(5,1,2),(6,1,2),(9,2,2),(17,2,2),(27,2,2),(28,7,2),(28,10,2),(29,2,2),(30,2,2),(31,6,2),(32,2,2),(33,2,2),(34,6,2),(35,2,2)] (u 3 [(5,1,2),(10,7,2),(10,10,2),(12,2,2),(13,2,2),(19,3,2),(19,4,2),(19,8,2),(19,9,2),(20,2,2)]) o) (u 7 [(5,1,2),(6,2,2),(7,2,2),(8,10,2),(10,1,2),(11,1,2),(18,3,2),(23,2,2),(24,2,2)])) (n 13 [(4,1,2),(5,1,2),(9,1,2),(10,8,2),(15,0,1)] (u 12 [(2,0,2),(9,2,2),(10,2,2),(11,7,2),(13,0,1)]) (u 15 [(1,1,1),(3,1,2),(7,0,1),(8,0,1),(12,0,1),(14,0,1)]))) (n 23 [(1,3,2)] (n 20 [(1,2,2),(4,5,2)] (n 18 [(2,1,2),(5,0,1),(7,0,1)] (u 17 [(1,2,2),(1,3,2),(2,3,2),(3,0,3)]) o) (u 22 [(6,14,1),(6,15,1),(11,0,1)])) (n 26 [(1,2,2),(4,2,2)] (u 25 [(6,0,1),(8,0,1)]) (u 28 [(15,2,2)])))) (n 44 [(5,5,2),(7,1,2),(10,1,2),(12,5,2),(14,2,2),(14,4,2),(14,8,2),(15,0,1),(17,1,2),(23,0,1)] (n 37 [(4,1,2),(5,5,2),(6,4,2),(7,3,2),(8,5,2),(9,1,2)] (n 35 [(4,1,2),(8,2,2),(10,5,2),(12,2,2),(14,5,2),(16,2,2),(18,5,2),(19,5,2),(21,2,2),(23,5,2),(24,5,2),(25,7,2),(27,3,2),(28,1,2)] (n 33 [(0,4,2)] (u 32 [(3,2,2)]) o) (u 36 [(4,1,2),(5,3,2),(13,1,2),(15,0,1),(15,4,2),(16,2,2),(18,1,2),(22,2,2),(23,1,2),(24,3,2),(25,4,2),(26,2,2),(26,4,2),(27,1,2),(29,1,2)])) (n 42 [(1,2,2)] (u 38 [(4,1,2),(5,4,2),(10,4,2),(11,5,2),(12,4,2),(13,4,2),(15,1,2)]) (u 43 [(1,1,2)]))) (n 51 [(1,1,2),(2,2,2),(2,4,2),(3,1,2),(4,1,2),(5,1,2),(6,1,2),(7,1,2),(8,2,2),(19,0,1)] (n 48 [(5,4,2),(8,1,2),(12,1,2),(14,1,2),(14,4,2),(16,1,2),(18,1,2),(18,4,2),(19,1,2),(21,1,2),(23,1,2),(24,1,2),(30,0,1)] (n 46 [(1,2,2),(1,7,2)] (u 45 [(0,1,2),(1,1,2),(2,1,2),(4,5,2)]) o) (u 50 [(0,0,2),(0,1,2),(1,3,2)])) (n 53 [(15,0,1)] (u 52 [(4,1,2),(7,3,2),(10,0,1),(12,0,1)]) (u 60 [(7,0,1)]))))) (n 85 [(8,9,2),(9,1,2),(13,4,2),(13,7,2),(18,2,2),(22,14,2),(22,17,2),(27,4,2)] (n 71 [(5,1,2),(10,5,2),(11,3,2),(13,1,2),(14,4,2),(15,3,2),(16,2,2),(16,5,2),(17,2,2),(17,3,2),(18,1,2)] (n 66 [(3,4,2),(6,4,2),(10,7,2),(15,5,2)] (n 64 [(1,8,2),(5,5,2),(7,0,3)] (n 63 [(7,0,1)] (u 62 [(7,0,1)]) o) (u 65 [(7,0,1)])) (n 69 [(0,4,2),(4,2,2)] (u 68 [(10,6,2),(11,5,2),(12,4,2),(12,7,2),(14,0,3)]) (u 70 [(2,4,2),(3,3,2)]))) (n 76 [(1,4,2),(2,4,2),(3,3,2),(4,5,2),(5,3,2)] (n 74 [(3,1,2),(7,3,2),(10,1,2)] (n 73 [(1,4,1)] (u 72 [(1,4,1)]) o) (u 75 [(5,0,1),(8,1,2),(8,3,2),(15,5,2),(16,8,2),(19,1,2),(19,3,2),(20,0,1)])) (n 78 [(2,4,2),(3,4,4),(7,3,4),(9,4,4),(10,4,4),(11,5,2),(16,5,2)] (u 77 [(6,5,2)]) (u 81 [(0,13,2)])))) (n 105 [(3,1,2),(5,5,2),(7,1,2),(9,4,2),(10,1,2),(13,1,2),(14,0,1),(15,1,2),(17,0,1)] (n 91 [(3,1,2)] (n 88 [(4,1,2),(6,1,2),(7,1,2),(12,1,2)] (n 87 [(1,5,2),(2,1,2)] (u 86 [(1,0,2)]) o) (u 90 [(1,1,2),(2,1,2)])) (n 101 [(8,0,1),(9,0,1)] (u 96 [(5,3,2),(7,3,2),(9,3,2),(11,3,2),(13,3,2),(17,3,2),(18,8,2),(19,4,2),(21,4,2),(27,4,2),(30,5,2)]) (u 102 [(5,0,1),(6,0,1),(7,0,1),(8,0,1),(14,0,1),(16,0,1)]))) (n 110 [(2,1,2),(3,1,2),(5,1,2),(6,0,1),(7,0,1)] (n 108 [(1,1,2),(3,1,2),(4,0,1),(5,5,2),(5,6,2),(5,9,1),(5,10,1),(7,2,2),(9,0,1)] (n 107 [(1,1,2),(3,1,2),(5,0,1),(6,1,2),(8,2,2),(9,1,2),(10,1,2),(11,1,2),(13,0,1)] (u 106 [(9,0,1),(12,0,1)]) o) (u 109 [(1,1,2),(1,4,2),(3,8,2),(4,2,2),(4,4,2),(5,1,2),(10,1,2),(12,0,1)])) (n 112 [(1,1,2),(1,4,2),(5,2,2),(7,2,2),(7,3,2),(8,2,2),(8,3,2),(10,1,2),(12,1,2),(14,1,2),(16,1,1),(16,4,2),(18,0,1)] (u 111 [(1,1,2),(1,4,2),(1,6,2),(3,1,2),(4,0,3),(11,1,2),(14,1,2),(16,1,2),(17,5,2),(19,0,3)]) (u 119 [(4,2,2)])))))) (n 191 [(1,1,2)] (n 168 [(3,2,2),(4,1,2),(8,0,2),(11,6,5)] (n 144 [(5,6,2),(7,9,2),(7,18,2)] (n 136 [(4,7,2),(4,12,2),(6,8,2),(6,12,2),(6,14,2),(6,16,2)] (n 131 [(3,5,2)] (n 130 [(7,0,1)] (u 128 [(1,5,2),(4,6,2),(4,10,2),(5,0,3)]) o) (u 132 [(1,7,2),(2,1,2),(6,7,2),(7,6,2),(7,10,2),(9,0,3)])) (n 140 [(2,4,2),(3,2,2),(5,5,2),(13,8,2),(15,5,2),(20,3,2),(26,11,2)] (u 137 [(5,3,2),(5,7,2),(11,8,2),(11,12,2),(11,14,2),(11,16,2),(17,3,2),(17,7,2),(23,8,2),(23,12,2),(23,14,2),(23,16,2),(35,5,2),(35,9,2),(40,5,2),(42,5,2),(44,5,2)]) (u 143 [(2,1,2),(3,1,2)]))) (n 150 [(0,8,2)] (n 147 [(3,5,2),(6,8,2),(11,1,2),(12,5,2)] (n 146 [(1,1,2),(1,3,2)] (u 145 [(3,5,2),(3,6,3)]) o) (u 148 [(3,3,2),(7,0,2),(9,1,1)])) (n 166 [(5,9,2),(7,5,5)] (u 152 [(1,1,2)]) (u 167 [(7,4,2),(11,6,5),(12,4,2)])))) (n 177 [(1,1,2),(2,0,2),(8,2,2),(9,4,2),(9,7,2),(10,4,2),(13,2,2),(14,2,2),(15,0,3)] (n 173 [(1,4,5),(3,8,2),(5,8,2),(8,4,5),(10,4,5),(13,8,2),(15,8,2),(18,4,5),(21,4,5)] (n 171 [(5,9,2),(11,5,5),(16,5,2),(17,5,5),(22,5,2),(23,5,5)] (n 170 [(4,4,5)] (u 169 [(2,0,2),(8,2,2),(9,2,2),(10,2,2),(11,4,2)]) o) (u 172 [(1,4,5),(3,8,2),(5,8,2),(8,4,5)])) (n 175 [(3,0,1),(5,0,1)] (u 174 [(8,0,1),(10,0,1)]) (u 176 [(7,0,1),(10,0,1)]))) (n 186 [(7,4,2)] (n 184 [(1,1,2),(1,4,2),(1,7,2),(2,2,2),(2,4,2),(4,1,2),(5,1,2),(6,1,2),(7,2,2)] (n 181 [(1,1,2),(1,4,2),(2,1,2),(4,1,2),(6,1,2),(8,1,2),(14,1,2),(15,1,2),(16,1,2),(17,1,2),(19,0,1)] (u 178 [(13,0,1),(14,0,1),(17,0,1),(19,0,1)]) o) (u 185 [(1,1,2),(3,4,2),(4,8,2),(9,4,2)])) (n 189 [(1,3,2),(1,6,2),(1,8,2)] (u 187 [(3,1,2),(4,2,2),(8,1,2),(10,0,1),(12,1,2),(13,1,2),(17,0,1)]) (u 190 [(3,21,2),(4,19,2),(5,4,2),(5,10,2)]))))) (n 225 [(5,1,2),(9,5,2),(11,0,3)] (n 210 [(1,5,2),(4,5,2),(6,0,2),(9,6,2)] (n 201 [(10,1,1),(11,1,1),(12,0,1)] (n 196 [(3,0,1),(7,0,1),(10,0,1)] (n 194 [(4,1,1),(6,1,1),(8,1,1),(9,0,1)] (u 192 [(3,1,2)]) o) (u 197 [(4,1,1),(6,1,1),(8,1,1),(9,0,1)])) (n 204 [(4,7,2),(6,11,2),(8,7,2)] (u 202 [(7,0,1)]) (u 209 [(1,1,2),(4,6,2)]))) (n 220 [(1,4,2),(2,4,2),(3,4,2)] (n 216 [(4,14,2),(6,8,2),(7,8,5)] (n 213 [(0,5,2),(1,5,2),(1,8,2),(7,1,2),(8,8,2),(9,9,2)] (u 212 [(3,4,1),(6,4,1)]) o) (u 219 [(1,7,2)])) (n 223 [(6,0,1),(7,0,1),(8,0,1)] (u 221 [(4,0,2),(9,0,1),(10,12,2),(10,21,2),(12,4,2),(12,7,2),(13,7,2),(17,0,1),(17,6,2),(17,8,2),(17,9,3),(19,0,1),(19,2,2),(19,4,2),(19,5,3),(20,0,1),(20,5,2),(20,7,2),(20,8,3)]) (u 224 [(5,0,1),(6,0,1)])))) (n 235 [(1,2,2)] (n 230 [(5,4,2)] (n 228 [(5,4,2)] (n 227 [(5,3,2),(6,0,1)] (u 226 [(1,4,2),(5,6,2),(5,17,2),(6,0,3)]) o) (u 229 [(5,2,2),(6,5,2),(8,0,1)])) (n 232 [(1,1,2),(3,1,2),(4,1,2),(6,1,2),(7,3,2)] (u 231 [(1,3,2),(2,6,2),(2,9,2),(3,1,2),(7,6,2),(7,10,2),(8,0,1)]) (u 233 [(1,1,2),(3,1,2),(3,4,2),(4,1,2),(6,1,2),(10,3,2)]))) (n 251 [(3,12,2),(3,18,2),(3,20,2),(3,22,2)] (n 241 [(1,1,2),(1,4,2),(1,6,2)] (n 238 [(4,3,2),(6,1,2)] (u 237 [(2,1,2),(5,1,2),(6,1,2)]) o) (u 242 [(1,7,2),(3,8,2),(4,11,2),(6,4,2),(8,5,2),(13,10,2),(14,4,2),(16,5,2)])) (n 256 [(4,3,2)] (u 253 [(1,4,2)]) (u 257 [(1,5,2),(4,6,2),(6,6,2)])))))))
def mlT:Tr (List (Nat×List Nat)):=
 let n:Nat->List (Nat×List Nat)->Tr (List (Nat×List Nat))->Tr (List (Nat×List Nat))->Tr (List (Nat×List Nat)):=.node
 let o:Tr (List (Nat×List Nat)):=.leaf
 let u:Nat->List (Nat×List Nat)->Tr (List (Nat×List Nat)):=fun k v=>.node k v o o
 (n 137 [(3,[0,1,4,10,11]),(9,[0,10,13]),(15,[0,2,4,14,15]),(21,[0,14,17]),(32,[0,1,2,3,4,18,19,20,21]),(33,[0,1,2,3,4,18,19,20,21,22]),(40,[0,1,2,3,4,18,20,24]),(41,[0,1,3,4,18,20,24]),(42,[0,1,3,4,18,20,24]),(43,[0,3,4,18,24]),(44,[0,3,4,18,24])] (n 71 [(7,[0,5,6,20,21])] (n 50 [(3,[4]),(4,[2,4,6])] (n 18 [(3,[3,7,8,9])] (n 11 [(2,[0,5,6,7]),(5,[]),(6,[0,5,6,7])] (n 6 [(4,[]),(5,[0,1]),(11,[1,5,6,8,40,41,42]),(15,[]),(16,[1,5,6,8,10,40,41,42]),(17,[1,5,6,8,40,41,42]),(23,[]),(24,[8,14])] (n 4 [(15,[3,9,10,11,12,13,14,15,16]),(16,[]),(17,[3,9,10,11,12,13]),(23,[3,9,18,19])] (u 3 [(8,[1,5,6,24,25]),(15,[]),(16,[1,5,8])]) o) (u 7 [(4,[]),(5,[0,1]),(9,[]),(10,[1,5,6,8]),(16,[1,6,8,10,11,12,68,69,70]),(20,[]),(21,[1,6,8,10,11,12,14,68,69,70]),(22,[1,6,8,10,11,12,68,69,70])])) (n 15 [(4,[3,4,16,17,18])] (n 13 [(8,[0,3,6,22,23,24]),(11,[]),(12,[0,3,6,8,22,23,24])] (u 12 [(4,[3,4,9,10,11]),(9,[3,4,6,7,9,10,11]),(10,[3,4,6,7,9,10,11]),(12,[3,4,9,10,11])]) o) (u 16 [(13,[]),(14,[0,3,7,8]),(21,[0,7,9,11,86,87,88])]))) (n 36 [(8,[3,6,7,29,30,31])] (n 30 [(7,[1,2,3,4,27,28,29]),(12,[1,2,3,4,6,27,28,29,42,43]),(16,[1,2,3,4,27,28,29]),(27,[1,2,3,8,93,94,95]),(32,[1,2,3,8,10,11,93,94,95]),(35,[2,3])] (n 27 [(4,[0,1,12,13]),(7,[]),(8,[0,1,12,13])] (u 25 [(4,[3,11,12,13]),(8,[3])]) o) (u 35 [(28,[5])])) (n 44 [(11,[4,5,6,7]),(12,[4,5,6,7,8]),(14,[4,5,6,7,8]),(17,[4,5])] (u 38 [(7,[5,20,21,22]),(11,[5,7,20,21,22])]) (u 48 [(24,[6,9,10])])))) (n 61 [(3,[2,6,7,15,16,17]),(7,[2,6,7,9,15,16,17])] (n 56 [(2,[]),(3,[1]),(6,[1,23,24,25])] (n 54 [(4,[0,3])] (n 53 [(15,[2,3])] (u 52 [(5,[0,1,6,14,15,16])]) o) (u 55 [(2,[]),(3,[1])])) (n 59 [(2,[]),(3,[1]),(4,[1,22,23,24]),(7,[]),(8,[1,22,23,24]),(10,[]),(11,[])] (n 58 [(2,[]),(3,[1])] (u 57 [(2,[]),(3,[1]),(4,[1,24,25,26]),(9,[]),(10,[1,24,25,26])]) o) (u 60 [(3,[1,6,9,10,11]),(7,[1,6,8,9,10,11])]))) (n 66 [(2,[0,1,2,6,7,8]),(7,[0,1,2,6]),(9,[0,1,2,6,7,8]),(16,[0,1,2,6])] (n 64 [(3,[6,7,23,24,25])] (n 63 [(3,[6,7,19,20,21])] (u 62 [(3,[4,5,17,18,19])]) o) (u 65 [(3,[4,5,17,18,19])])) (n 69 [(2,[1,11,12,13])] (u 68 [(5,[0,4,11,12,13]),(8,[]),(9,[0,4,6,11,12,13]),(11,[0,4,6,11,12,13]),(12,[0,4,6,11,12,13])]) (u 70 [(0,[0,1])]))))) (n 109 [(10,[0,2]),(12,[2,3])] (n 88 [(4,[0,1,5,6]),(6,[0,1,5,6,7]),(7,[0,1,5,6,7])] (n 83 [(2,[]),(3,[1])] (n 77 [(2,[0,1,6,9,10,11]),(6,[0,1,6,8,9,10,11])] (n 75 [(11,[0,2,4,5,6,7,38,39,40]),(14,[2]),(15,[0,2,4,5,6,7,9,38,39,40])] (u 74 [(2,[]),(3,[0,1]),(5,[6,17,18,19])]) o) (u 78 [(5,[0,3,4,23,24]),(14,[0,7,49,50,51])])) (n 86 [(4,[3,4,8,9,10])] (n 85 [(3,[0,3,4]),(6,[0,3,4,5]),(11,[3,6]),(16,[3,7,8]),(17,[3,7,8]),(20,[3,7,8,9]),(25,[3,10,11])] (u 84 [(4,[0,8,9,10]),(7,[]),(8,[0,3,4,8,9,10]),(9,[]),(10,[0,3,4,8,9,10]),(11,[]),(12,[0,3,4,8,9,10]),(13,[]),(14,[0,8,9,10])]) o) (u 87 [(2,[0]),(4,[0,1])]))) (n 105 [(5,[0,3,4,5,6]),(7,[0,3,4,5,6]),(10,[0,3,4,5,6,7]),(11,[0,3,4,5,6,7]),(14,[0,3,4,5,6,7]),(15,[0,3])] (n 101 [(3,[1,2,7,8]),(8,[1,2,7,8,9])] (n 96 [(3,[1,2,3,4,8,9]),(11,[1,2,3,4,8,9,10]),(16,[1,2,3,4,8,9,10,11,12]),(17,[1,2,3,4,8,9,10,11]),(18,[1,2,3,4,8,9,10,11]),(19,[1,2,3,4,8,9,11]),(21,[1,2,3,4,10,11])] (u 91 [(2,[]),(3,[0])]) o) (u 102 [(3,[3,4,5,8,13,14]),(11,[5,13,15,16])])) (n 107 [(3,[0,3,4]),(9,[0,3,4]),(10,[0,4]),(11,[0,4])] (u 106 [(3,[3,7,8,9]),(6,[3,5,7,8,9,13]),(10,[3,5,7,8,9,13])]) (u 108 [(8,[2,3,5])])))) (n 122 [(4,[0,3])] (n 114 [(2,[]),(3,[2,3]),(4,[2,3,22,23])] (n 112 [(3,[0,2,3,14]),(11,[0,2,3,5,37,38]),(15,[0,2,3,5,6,37,38])] (n 111 [(7,[0,2,3,5,26,27]),(11,[0,2,3,5,6,26,27]),(14,[0,2,3,5,6,26,27]),(15,[0,2,3,6,8,26,27]),(16,[0,2,3,5,6,26,27]),(19,[2,3])] (u 110 [(4,[3,4,5,6])]) o) (u 113 [(4,[0,1,12,13])])) (n 118 [(2,[]),(3,[2,3]),(4,[2,3,52,53])] (n 117 [(2,[]),(3,[2,3]),(4,[2,3,29,30])] (u 116 [(2,[]),(3,[2,3]),(4,[2,3,29,30])]) o) (u 119 [(2,[1,5,6])]))) (n 131 [(2,[4]),(3,[0,1,4])] (n 128 [(5,[4,5])] (n 127 [(2,[2]),(3,[0,2])] (u 125 [(3,[4,8,9,10]),(6,[4,6,7,8,9,10]),(7,[4,6,7,8,9,10]),(9,[4,6,7,8,9,10]),(14,[4,8,9,10])]) o) (u 130 [(3,[2,4,5,11,12,13])])) (n 133 [(2,[2]),(3,[0,2])] (u 132 [(4,[1,2,3,6,7,23,24]),(9,[6,7])]) (u 136 [(1,[0,1,2,3,8]),(2,[0,1,2,3,8]),(4,[0,1,2,3,8,9]),(6,[0,1,2,3,8,9])])))))) (n 200 [(5,[3])] (n 171 [(3,[1,2,3,7,8]),(4,[1,2,3,7,8]),(5,[1,2,3,7,8]),(6,[1,2,3,7,8]),(7,[1,2,3,7,8]),(14,[1,2,3,7,8,9]),(18,[1,2,3,7,8]),(20,[1,2,3,7,8,10])] (n 153 [(2,[]),(3,[0])] (n 147 [(9,[0,1])] (n 143 [(0,[0,1])] (n 141 [(3,[0,3,4,8]),(7,[0,5,6,8]),(8,[0,3,4,8])] (u 140 [(7,[1,2,7]),(8,[1,2,7]),(11,[1,2,7,8]),(12,[1,2,7,8]),(13,[1,2,7,8]),(17,[1,2,64]),(21,[1,2,64]),(24,[1,2,78])]) o) (u 144 [(2,[0,1,6]),(6,[0,1,6]),(8,[0,1,6])])) (n 151 [(7,[3])] (n 149 [(2,[0,1,5]),(3,[0,1,5]),(4,[5])] (u 148 [(6,[3,16])]) o) (u 152 [(3,[1,6]),(7,[1,2,3,6,11])]))) (n 167 [(5,[3,6,7,8,9]),(9,[3,6,7,10])] (n 165 [(4,[0,2]),(7,[0,2]),(10,[0,2])] (n 164 [(4,[0,2]),(7,[0,2])] (u 154 [(1,[0,1])]) o) (u 166 [(2,[1,2,3,6]),(3,[1,2,3,6]),(5,[1,2,3,6,7]),(7,[1,2,3,6,7])])) (n 169 [(11,[3,9,10,11,12]),(12,[9,11])] (u 168 [(6,[1,3,6,7,8,9]),(11,[1,3,6,7,8,9,10])]) (u 170 [(3,[3,6,7])])))) (n 184 [(5,[0,3,4])] (n 176 [(5,[0,3,4,5,6])] (n 174 [(4,[0,3,4,5]),(7,[0,3,4,5,6,7]),(8,[0,3,4,5,6,7]),(10,[0,3,4,5,6,7])] (n 173 [(3,[1,4,10,11]),(4,[1,4,10,11]),(5,[1,4,10,11]),(6,[1,4,10,11]),(7,[1,4,10,11]),(13,[1,4,10,11]),(14,[1,4,10,11]),(15,[1,4,10,11]),(16,[1,4,10,11]),(17,[1,4,10,11])] (u 172 [(3,[1,4,9,10]),(4,[1,4,9,10]),(5,[1,4,9,10]),(6,[1,4,9,10]),(7,[1,4,9,10])]) o) (u 175 [(2,[0,3])])) (n 181 [(9,[0,2,3,4,23,24,25]),(15,[0,2,3,4]),(16,[0,2,3]),(17,[0,2,3])] (n 178 [(5,[0,3,4]),(6,[0,3,4,5]),(7,[0,3,4,5]),(8,[0,3,4,5]),(11,[0,3,4,5,6,7,8,9])] (u 177 [(5,[1,5,6,7,8]),(11,[1,5,6,7,8,9])]) o) (u 182 [(3,[3,7,8])]))) (n 192 [(4,[5])] (n 187 [(2,[]),(3,[0,1,2]),(7,[0,2,8,9,10,33,34]),(12,[0,2,8,10])] (n 186 [(4,[]),(5,[0])] (u 185 [(9,[0,4,7]),(10,[0]),(12,[0,7])]) o) (u 190 [(2,[]),(3,[0]),(6,[0]),(8,[0,4])])) (n 196 [(6,[2,5,6,7,19,20])] (u 194 [(3,[2,4,5,6,7]),(4,[2,4,5,6,7]),(5,[2,4,5,6,7]),(6,[2,4,5,6,7]),(7,[2,4,5,6,7]),(8,[2,4,5,6,7]),(9,[4,5])]) (u 197 [(3,[4,5,6,7]),(4,[4,5,6,7]),(6,[4,5,6,7]),(7,[4,5,6,7]),(8,[4,5,6,7])]))))) (n 227 [(3,[0,2,3,4])] (n 212 [(1,[0]),(4,[0,2]),(8,[0]),(9,[0])] (n 206 [(3,[]),(4,[4])] (n 203 [(10,[0]),(11,[0])] (n 202 [(5,[1,4,5])] (u 201 [(3,[2,3,4,5,27]),(8,[2,4,5,7,8]),(9,[2,4,5,7,8]),(10,[2,4,5,7,8]),(11,[2,4,5,7,8]),(12,[4,5])]) o) (u 204 [(2,[0,2,4,10,11])])) (n 209 [(3,[3,8,9])] (n 208 [(3,[0,1,6,10,11])] (u 207 [(4,[1,3,4,7]),(8,[1,3,6,7]),(9,[1,3,6,7])]) o) (u 210 [(2,[]),(3,[0,1]),(5,[0,1,6,22,23,24])]))) (n 223 [(3,[0,3,4]),(4,[0,3,4])] (n 221 [(7,[1,5,6,7,8,9,10]),(8,[1,5,6,7,8,9,10]),(12,[1,5,6,7,8,9,10]),(13,[1,5,6,7,8,9,10]),(17,[1,5,9]),(18,[5,6,7,8,12])] (n 216 [(2,[2,3,4,8]),(5,[2,3,4,8,9]),(6,[2,3,4,8,9])] (u 213 [(1,[0,1]),(6,[0,41,42,43])]) o) (u 222 [(4,[3,4,5,6]),(5,[3,4,5,6]),(9,[3,4,5,6,7,8,9]),(15,[3,4,5,6,7,8,9,10]),(17,[5,6,7])])) (n 225 [(3,[0,1]),(5,[0,1]),(7,[0,5,6])] (u 224 [(3,[0,3,4])]) (u 226 [(3,[0,3,4])])))) (n 240 [(8,[0,3])] (n 232 [(2,[0,1,4,9,10])] (n 230 [(3,[1,2,5,6])] (n 229 [(3,[0,5,6]),(5,[0,5,6]),(8,[0])] (u 228 [(3,[1,3,4])]) o) (u 231 [(5,[4,5,6]),(8,[4,5])])) (n 237 [(2,[0,1,5])] (n 236 [(2,[]),(3,[0])] (u 233 [(2,[0,1,4,11,12]),(6,[1]),(7,[0,1,5,6,11,12]),(8,[0,1,5,6,7,11,12])]) o) (u 238 [(3,[0,5,8,9])]))) (n 254 [(2,[0]),(4,[]),(5,[0])] (n 248 [(8,[]),(9,[0])] (n 243 [(4,[0,4])] (u 242 [(2,[]),(3,[0]),(11,[0,4])]) o) (u 251 [(1,[0,1,2,3,10])])) (n 257 [(2,[]),(3,[0,1]),(4,[0,1,5])] (u 256 [(3,[0,3,4])]) (u 258 [(5,[0])])))))))
noncomputable def cxX:Cx:=zdz Tryz.prog hlT mlT
theorem okX:Ok cxX/\Wb cxX:=mkOk qd qd
@[simp] theorem zh4(n:Int):Zc Tryz.prog 2 40 (.int .i64 n)=some (.int .u32 (IntKind.u32.wrap n)):=qd
@[simp] theorem zaz(n:Int):Zc Tryz.prog 2 42 (.int .i64 n)=some (.float .f64 (FloatKind.f64.nearest n)):=qd
@[simp] theorem zhi(n:Int):Zc Tryz.prog 2 125 (.int .i64 n)=some (.int .u64 (IntKind.u64.wrap n)):=qd
@[simp] theorem qwi(n:Int):Zc Tryz.prog 3 5 (.int .i64 n)=some (.int .u8 (IntKind.u8.wrap n)):=qd
@[simp] theorem QR(n:Int):Zc Tryz.prog 3 40 (.int .i64 n)=some (.int .u32 (IntKind.u32.wrap n)):=qd
@[simp] theorem Vu(n:Int):Zc Tryz.prog 3 125 (.int .i64 n)=some (.int .u64 (IntKind.u64.wrap n)):=qd
@[simp] theorem qh7(n:Int):Zc Tryz.prog 3 132 (.int .i64 n)=some (.int .u64 (IntKind.u64.wrap n)):=qd
@[simp] theorem zhh(n:Int):Zc Tryz.prog 3 295 (.int .i64 n)=some (.int .u64 (IntKind.u64.wrap n)):=qd
@[simp] theorem Vt(n:Int):Zc Tryz.prog 5 3 (.int .u8 n)=some (.int .i64 (IntKind.i64.wrap n)):=qd
@[simp] theorem qnv(n:Int):Zc Tryz.prog 5 40 (.int .u8 n)=some (.int .u32 (IntKind.u32.wrap n)):=qd
@[simp] theorem zhg(n:Int):Zc Tryz.prog 5 125 (.int .u8 n)=some (.int .u64 (IntKind.u64.wrap n)):=qd
@[simp] theorem zh3(n:Int):Zc Tryz.prog 40 2 (.int .u32 n)=some (.int .i64 (IntKind.i64.wrap n)):=qd
@[simp] theorem yb(n:Int):Zc Tryz.prog 40 3 (.int .u32 n)=some (.int .i64 (IntKind.i64.wrap n)):=qd
@[simp] theorem vo(n:Int):Zc Tryz.prog 40 5 (.int .u32 n)=some (.int .u8 (IntKind.u8.wrap n)):=qd
@[simp] theorem qbe(n:Int):Zc Tryz.prog 40 125 (.int .u32 n)=some (.int .u64 (IntKind.u64.wrap n)):=qd
@[simp] theorem zay(n:Int):Zc Tryz.prog 82 3 (.int .u16 n)=some (.int .i64 (IntKind.i64.wrap n)):=qd
@[simp] theorem qh8(n:Int):Zc Tryz.prog 125 2 (.int .u64 n)=some (.int .i64 (IntKind.i64.wrap n)):=qd
@[simp] theorem Vv(n:Int):Zc Tryz.prog 125 3 (.int .u64 n)=some (.int .i64 (IntKind.i64.wrap n)):=qd
@[simp] theorem qwk(n:Int):Zc Tryz.prog 125 5 (.int .u64 n)=some (.int .u8 (IntKind.u8.wrap n)):=qd
@[simp] theorem qqk(n:Int):Zc Tryz.prog 125 40 (.int .u64 n)=some (.int .u32 (IntKind.u32.wrap n)):=qd
@[simp] theorem qbf(n:Int):Zc Tryz.prog 125 42 (.int .u64 n)=some (.float .f64 (FloatKind.f64.nearest n)):=qd
@[simp] theorem qwj(n:Int):Zc Tryz.prog 132 3 (.int .u64 n)=some (.int .i64 (IntKind.i64.wrap n)):=qd
@[simp] theorem zfv(n:Int):Zc Tryz.prog 132 40 (.int .u64 n)=some (.int .u32 (IntKind.u32.wrap n)):=qd
abbrev RO:=Option (AV×Hp)
@[simp] noncomputable abbrev r2(x:AV):AV:=ro (ro x)
@[simp] noncomputable abbrev nl:AV:=.sc (.slice none 0 0)
@[simp] noncomputable abbrev kI(n:Nat):Value:=.int .i64 (.ofNat n)
@[simp] noncomputable abbrev kU(n:Nat):Value:=.int .u64 (.ofNat n)
@[simp] noncomputable abbrev kW(n:Nat):Value:=.int .u32 (.ofNat n)
@[simp] noncomputable abbrev kH(n:Nat):Value:=.int .u16 (.ofNat n)
@[simp] noncomputable abbrev kB(n:Nat):Value:=.int .u8 (.ofNat n)
@[simp] noncomputable abbrev rQ(x:AV)(h:Hp):RO:=some (x,h)
@[simp] noncomputable def cS(f:Nat)(l:List AV)(h:Hp)(K:Value->Hp->RO):RO:=(run cxX f l h).bind fun y=>(vy y.1).bind fun v=>K v y.2
@[simp] noncomputable def cA(f:Nat)(l:List AV)(h:Hp)(K:AV->Hp->RO):RO:=(run cxX f l h).bind fun y=>(yn y.1).bind fun _=>K y.1 y.2
@[simp] noncomputable def cT(f:Nat)(l:List AV)(h:Hp)(K:Hp->RO):RO:=(run cxX f l h).bind fun y=>(yV 0 y.1).bind fun _=>K y.2
@[simp] noncomputable def cN(n f:Nat)(l:List AV)(h:Hp)(K:AV->Hp->RO):RO:=(run cxX f l h).bind fun y=>(yV n y.1).bind fun _=>K y.1 y.2
@[simp] noncomputable def pS(f:Nat)(l:List AV)(K:Value->RO):RO:=(jN l []).bind fun _=>(run cxX f (l.map ro) hp0).bind fun y=>(xk y.1).bind fun _=>(vy y.1).bind fun v=>K v
@[simp] noncomputable def pA(f:Nat)(l:List AV)(K:AV->RO):RO:=(jN l []).bind fun _=>(run cxX f (l.map ro) hp0).bind fun y=>(xk y.1).bind fun _=>(yn y.1).bind fun _=>K y.1
@[simp] noncomputable def pT(n f:Nat)(l:List AV)(K:AV->RO):RO:=(jN l []).bind fun _=>(run cxX f (l.map ro) hp0).bind fun y=>(xk y.1).bind fun _=>(yV n y.1).bind fun _=>K y.1
@[simp] noncomputable def pR(f:Nat)(l:List AV)(K:AV->RO):RO:=(jN l []).bind fun _=>(run cxX f (l.map ro) hp0).bind fun y=>(xk y.1).bind fun _=>K y.1
@[simp] noncomputable def iB(v:Value)(a b:RO):RO:=(asB v).bind fun d=>cond d a b
@[simp] noncomputable def iN(v:Value)(a b:RO):RO:=(unV Tryz.prog .not v).bind fun w=>(asB w).bind fun d=>cond d a b
@[simp] noncomputable def iZ(x:AV)(a b:RO):RO:=(Yu x).bind fun d=>cond d a b
@[simp] noncomputable def iG(o:BinOp)(t:TypeId)(x y:Operand)(v w:Value)(a b:RO):RO:=(qs Tryz.prog o t x y v w).bind fun c=>(asB c).bind fun d=>cond d a b
@[simp] noncomputable def iC(o:BinOp)(t:TypeId)(n:Tmp)(v w:Value)(a b:RO):RO:=(qs Tryz.prog o t (.tmp n) (.const w) v w).bind fun c=>(asB c).bind fun d=>cond d a b
@[simp] noncomputable def iT(o:BinOp)(t:TypeId)(n m:Tmp)(v w:Value)(a b:RO):RO:=(qs Tryz.prog o t (.tmp n) (.tmp m) v w).bind fun c=>(asB c).bind fun d=>cond d a b
@[simp] noncomputable def bG(o:BinOp)(t:TypeId)(x y:Operand)(v w:Value)(K:Value->RO):RO:=(qs Tryz.prog o t x y v w).bind fun c=>K c
@[simp] noncomputable def bC(o:BinOp)(t:TypeId)(n:Tmp)(v w:Value)(K:Value->RO):RO:=(qs Tryz.prog o t (.tmp n) (.const w) v w).bind fun c=>K c
@[simp] noncomputable def bT(o:BinOp)(t:TypeId)(n m:Tmp)(v w:Value)(K:Value->RO):RO:=(qs Tryz.prog o t (.tmp n) (.tmp m) v w).bind fun c=>K c
@[simp] noncomputable def cV(a b:TypeId)(v:Value)(K:Value->RO):RO:=(Zc Tryz.prog a b v).bind fun c=>K c
@[simp] noncomputable def lpS(k:Nat)(x:AV)(h:Hp)(K:Value->RO):RO:=(zP x).bind fun p=>(Hp.rd h p.1 p.2.1).bind fun l=>(qi l (p.2.2+k)).bind fun v=>K v
@[simp] noncomputable def lpC(k:Nat)(x:AV)(h:Hp)(K:AV->RO):RO:=(zP x).bind fun p=>(Hp.rd h p.1 p.2.1).bind fun l=>(qt l (p.2.2+k)).bind fun v=>K v
@[simp] noncomputable def lpN(n k:Nat)(x:AV)(h:Hp)(K:List AV->RO):RO:=(zP x).bind fun p=>(Hp.rd h p.1 p.2.1).bind fun l=>(qo l (p.2.2+k) n).bind fun v=>K v
@[simp] noncomputable def spN(k:Nat)(x:AV)(h:Hp)(vs:List AV)(K:Hp->RO):RO:=(zP x).bind fun p=>(Hp.rd h p.1 p.2.1).bind fun l=>(qm l (p.2.2+k) vs).bind fun m=>K (Hp.put h p.1 p.2.1 m)
@[simp] noncomputable def ldS(k:Nat)(x:AV)(h:Hp)(K:Value->RO):RO:=(WH x).bind fun _=>lpS k x h K
@[simp] noncomputable def ldC(k:Nat)(x:AV)(h:Hp)(K:AV->RO):RO:=(WH x).bind fun _=>lpC k x h K
@[simp] noncomputable def ldN(n k:Nat)(x:AV)(h:Hp)(K:List AV->RO):RO:=(WH x).bind fun _=>lpN n k x h K
@[simp] noncomputable def stN(k:Nat)(x:AV)(h:Hp)(vs:List AV)(K:Hp->RO):RO:=(WH x).bind fun _=>spN k x h vs K
@[simp] noncomputable def jO(x:AV)(v:Value)(K:Value->RO):RO:=(zL 1 x v).bind fun c=>(qi c 0).bind fun w=>K w
@[simp] noncomputable def ap(b:Nat)(x:AV)(v:Value)(K:AV->RO):RO:=(vh [.sc v]).bind fun _=>(zh b 1 x (.us 1 [.sc v])).bind fun y=>K y
@[simp] noncomputable def aS(x:AV)(K:Value->RO):RO:=(vy x).bind fun v=>K v
@[simp] noncomputable def nS(x:AV)(i:Nat)(K:Value->RO):RO:=(vy (ro (jd x i))).bind fun v=>K v
@[simp] noncomputable def ln(x:AV)(K:Nat->RO):RO:=(zd x).bind fun v=>K v
theorem cmb:(∀(x:AV),r2 x=ro (ro x))/\
 (∀(n:Nat),kI n= .int .i64 (.ofNat n))/\
 (∀(n:Nat),kU n= .int .u64 (.ofNat n))/\
 (∀(n:Nat),kW n= .int .u32 (.ofNat n))/\
 (∀(n:Nat),kH n= .int .u16 (.ofNat n))/\
 (∀(n:Nat),kB n= .int .u8 (.ofNat n))/\
 (∀(x:AV) (h:Hp),rQ x h=some (x,h))/\
 (∀(f:Nat) (l:List AV) (h:Hp) (K:Value->Hp->RO),cS f l h K=(run cxX f l h).bind fun y=>(vy y.1).bind fun v=>K v y.2)/\
 (∀(f:Nat) (l:List AV) (h:Hp) (K:AV->Hp->RO),cA f l h K=(run cxX f l h).bind fun y=>(yn y.1).bind fun _=>K y.1 y.2)/\
 (∀(f:Nat) (l:List AV) (h:Hp) (K:Hp->RO),cT f l h K=(run cxX f l h).bind fun y=>(yV 0 y.1).bind fun _=>K y.2)/\
 (∀(n f:Nat) (l:List AV) (h:Hp) (K:AV->Hp->RO),cN n f l h K=(run cxX f l h).bind fun y=>(yV n y.1).bind fun _=>K y.1 y.2)/\
 (∀(f:Nat) (l:List AV) (K:Value->RO),pS f l K=(jN l []).bind fun _=>(run cxX f (l.map ro) hp0).bind fun y=>(xk y.1).bind fun _=>(vy y.1).bind fun v=>K v)/\
 (∀(f:Nat) (l:List AV) (K:AV->RO),pA f l K=(jN l []).bind fun _=>(run cxX f (l.map ro) hp0).bind fun y=>(xk y.1).bind fun _=>(yn y.1).bind fun _=>K y.1)/\
 (∀(n f:Nat) (l:List AV) (K:AV->RO),pT n f l K=(jN l []).bind fun _=>(run cxX f (l.map ro) hp0).bind fun y=>(xk y.1).bind fun _=>(yV n y.1).bind fun _=>K y.1)/\
 (∀(f:Nat) (l:List AV) (K:AV->RO),pR f l K=(jN l []).bind fun _=>(run cxX f (l.map ro) hp0).bind fun y=>(xk y.1).bind fun _=>K y.1)/\
 (∀(v:Value) (a b:RO),iB v a b=(asB v).bind fun d=>cond d a b)/\
 (∀(v:Value) (a b:RO),iN v a b=(unV Tryz.prog .not v).bind fun w=>(asB w).bind fun d=>cond d a b)/\
 (∀(x:AV) (a b:RO),iZ x a b=(Yu x).bind fun d=>cond d a b)/\
 (∀(o:BinOp) (t:TypeId) (x y:Operand) (v w:Value) (a b:RO),iG o t x y v w a b=(qs Tryz.prog o t x y v w).bind fun c=>(asB c).bind fun d=>cond d a b)/\
 (∀(o:BinOp) (t:TypeId) (n:Tmp) (v w:Value) (a b:RO),iC o t n v w a b=(qs Tryz.prog o t (.tmp n) (.const w) v w).bind fun c=>(asB c).bind fun d=>cond d a b)/\
 (∀(o:BinOp) (t:TypeId) (n m:Tmp) (v w:Value) (a b:RO),iT o t n m v w a b=(qs Tryz.prog o t (.tmp n) (.tmp m) v w).bind fun c=>(asB c).bind fun d=>cond d a b)/\
 (∀(o:BinOp) (t:TypeId) (x y:Operand) (v w:Value) (K:Value->RO),bG o t x y v w K=(qs Tryz.prog o t x y v w).bind fun c=>K c)/\
 (∀(o:BinOp) (t:TypeId) (n:Tmp) (v w:Value) (K:Value->RO),bC o t n v w K=(qs Tryz.prog o t (.tmp n) (.const w) v w).bind fun c=>K c)/\
 (∀(o:BinOp) (t:TypeId) (n m:Tmp) (v w:Value) (K:Value->RO),bT o t n m v w K=(qs Tryz.prog o t (.tmp n) (.tmp m) v w).bind fun c=>K c)/\
 (∀(a b:TypeId) (v:Value) (K:Value->RO),cV a b v K=(Zc Tryz.prog a b v).bind fun c=>K c)/\
 (∀(k:Nat) (x:AV) (h:Hp) (K:Value->RO),lpS k x h K=(zP x).bind fun p=>(Hp.rd h p.1 p.2.1).bind fun l=>(qi l (p.2.2+k)).bind fun v=>K v)/\
 (∀(k:Nat) (x:AV) (h:Hp) (K:AV->RO),lpC k x h K=(zP x).bind fun p=>(Hp.rd h p.1 p.2.1).bind fun l=>(qt l (p.2.2+k)).bind fun v=>K v)/\
 (∀(n k:Nat) (x:AV) (h:Hp) (K:List AV->RO),lpN n k x h K=(zP x).bind fun p=>(Hp.rd h p.1 p.2.1).bind fun l=>(qo l (p.2.2+k) n).bind fun v=>K v)/\
 (∀(k:Nat) (x:AV) (h:Hp) (vs:List AV) (K:Hp->RO),spN k x h vs K=(zP x).bind fun p=>(Hp.rd h p.1 p.2.1).bind fun l=>(qm l (p.2.2+k) vs).bind fun m=>K (Hp.put h p.1 p.2.1 m))/\
 (∀(k:Nat) (x:AV) (h:Hp) (K:Value->RO),ldS k x h K=(WH x).bind fun _=>lpS k x h K)/\
 (∀(k:Nat) (x:AV) (h:Hp) (K:AV->RO),ldC k x h K=(WH x).bind fun _=>lpC k x h K)/\
 (∀(n k:Nat) (x:AV) (h:Hp) (K:List AV->RO),ldN n k x h K=(WH x).bind fun _=>lpN n k x h K)/\
 (∀(k:Nat) (x:AV) (h:Hp) (vs:List AV) (K:Hp->RO),stN k x h vs K=(WH x).bind fun _=>spN k x h vs K)/\
 (∀(x:AV) (v:Value) (K:Value->RO),jO x v K=(zL 1 x v).bind fun c=>(qi c 0).bind fun w=>K w)/\
 (∀(b:Nat) (x:AV) (v:Value) (K:AV->RO),ap b x v K=(vh [.sc v]).bind fun _=>(zh b 1 x (.us 1 [.sc v])).bind fun y=>K y)/\
 (∀(x:AV) (K:Value->RO),aS x K=(vy x).bind fun v=>K v)/\
 (∀(x:AV) (i:Nat) (K:Value->RO),nS x i K=(vy (ro (jd x i))).bind fun v=>K v)/\
 (∀(x:AV) (K:Nat->RO),ln x K=(zd x).bind fun v=>K v):=
 ⟨fun _=>rfl,fun _=>rfl,fun _=>rfl,fun _=>rfl,fun _=>rfl,fun _=>rfl,fun _ _=>rfl,fun _ _ _ _=>rfl,fun _ _ _ _=>rfl,fun _ _ _ _=>rfl,fun _ _ _ _ _=>rfl,fun _ _ _=>rfl,fun _ _ _=>rfl,fun _ _ _ _=>rfl,fun _ _ _=>rfl,fun _ _ _=>rfl,fun _ _ _=>rfl,fun _ _ _=>rfl,fun _ _ _ _ _ _ _ _=>rfl,fun _ _ _ _ _ _ _=>rfl,fun _ _ _ _ _ _ _ _=>rfl,fun _ _ _ _ _ _ _=>rfl,fun _ _ _ _ _ _=>rfl,fun _ _ _ _ _ _ _=>rfl,fun _ _ _ _=>rfl,fun _ _ _ _=>rfl,fun _ _ _ _=>rfl,fun _ _ _ _ _=>rfl,fun _ _ _ _ _=>rfl,fun _ _ _ _=>rfl,fun _ _ _ _=>rfl,fun _ _ _ _ _=>rfl,fun _ _ _ _ _=>rfl,fun _ _ _=>rfl,fun _ _ _ _=>rfl,fun _ _=>rfl,fun _ _ _=>rfl,fun _ _=>rfl⟩
def stk(r:Nat):Code->Option (List It)
 | .seq a b=>match stk r a with
  |some l=>some (l++[.code b])
  |none=>stk r b
 | .cond _ a b=>match stk r a with
  |some l=>some l
  |none=>stk r b
 | .block i b=>match stk r b with
  |some l=>some (l++[.inBlock i])
  |none=>none
 | .loop b=>match stk r b with
  |some l=>some (l++[.inLoop b])
  |none=>none
 | .scope b=>match stk r b with
  |some l=>some (l++[.inScope b])
  |none=>none
 | .region q o d=>match Nat.beq q r with
  |true=>some [.code (.region q o d)]
  |false=>none
 |_=>none
noncomputable def qvo(f r:Nat):List It:=
 match cxX.F f with
 |some fn=>match fn.body with
  |some b=>(stk r b).getD []
  |none=>[]
 |none=>[]
def qs2(f:Nat):List Nat:=
 match mlT.get f with
 |some l=>l.map (·.1)
 |none=>[]
def qsi:List Nat->List SV->Slots
 |k::ks,.un::vs=>qsi ks vs
 |k::ks,v::vs=>(k,v)::qsi ks vs
 |_,_=>[]
instance : Coe AV SV := ⟨.av⟩
instance : Coe Value SV := ⟨.sv⟩
instance : Coe Value AV := ⟨.sc⟩
noncomputable def gx(f r:Nat)(vs:List SV)(bx:List (Nat×Nat×List AV))(hp:Hp):RO:=go cxX f (qvo f r) ⟨qsi ((cxX.M f r).getD []) vs,bx,hp⟩
noncomputable def gb(f r:Nat)(vs:List SV)(hp:Hp):RO:=gx f r vs [] hp
theorem eE{f:Nat}{xs:List AV}{hp:Hp}{y:RO}(h:yx cxX f xs hp (qe9 cxX f (qs2 f) 400)=y):run cxX f xs hp=y:=(qwe cxX f (qs2 f) 400 xs hp).trans h
theorem eX{f r:Nat}{vs:List SV}{bx:List (Nat×Nat×List AV)}{hp:Hp}{y:RO}(h:jL cxX (run cxX) (qe9 cxX f (qs2 f) 400) f (qvo f r) ⟨qsi ((cxX.M f r).getD []) vs,bx,hp⟩=y):gx f r vs bx hp=y:=(qwt cxX f (qs2 f) 400 _ _).trans h
theorem eB{f r:Nat}{vs:List SV}{hp:Hp}{y:RO}(h:jL cxX (run cxX) (qe9 cxX f (qs2 f) 400) f (qvo f r) ⟨qsi ((cxX.M f r).getD []) vs,[],hp⟩=y):gb f r vs hp=y:=eX h
@[simp] noncomputable abbrev zL0:List AV:=[Value.string (ByteArray.mk (Array.mk [])),kB 0,nl]
@[simp] noncomputable abbrev zL1:List AV:=[Value.string (ByteArray.mk (Array.mk [])),kI 0,kI 0]
@[simp] noncomputable abbrev zL2:List AV:=[Value.pointer none,kU 0,kW 0,kI 0,kB 0,.sc (.bool false),nl,kI 0]
@[simp] noncomputable abbrev zL3:List AV:=[kI 0,kW 0,kW 0,kW 0,kW 0,kW 0,kW 0,kW 0,Value.float Go.FloatKind.f64 0,Value.float Go.FloatKind.f64 0,nl]
@[simp] noncomputable abbrev zL4:List AV:=[kB 0,nl,kI 0,nl,kI 0,nl,kI 0,kI 0,nl,kI 0,kI 0,nl,kI 0,kW 0,kW 0,kW 0,kW 0,kW 0,kW 0,kW 0,Value.float Go.FloatKind.f64 0,Value.float Go.FloatKind.f64 0,nl]
@[simp] noncomputable abbrev zL5:List AV:=[Value.string (ByteArray.mk (Array.mk [])),kB 0,nl,kI 0,nl,kI 0,nl,kI 0,kI 0,nl,kI 0,kI 0,nl,kI 0,kW 0,kW 0,kW 0,kW 0,kW 0,kW 0,kW 0,Value.float Go.FloatKind.f64 0,Value.float Go.FloatKind.f64 0,nl]
end Go.Proofs.YtoliekekdmfngaaGreat.AI
