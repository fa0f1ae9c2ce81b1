/- Texts that the proof of BoxOrders rests on, part 3. -/
import Derived.Test.YtoliekekdmfngaaGreatQBoxOrders2
import Derived.Scope
import Derived.Test.YtoliekekdmfngaaGreatProg
namespace Go.Proofs.YtoliekekdmfngaaGreat.AI
open Go
set_option linter.unusedVariables false
set_option linter.unusedSimpArgs false
set_option maxRecDepth 100000
set_option maxHeartbeats 0
section
variable {c:Cx}{C:Orc}{h:Nat}{ev ev':Operand->SV}
theorem KB{R:Type}(kJ:Nat->Option (Nat×Nat))(K:List AV->Option R):∀(l:List (Nat×Operand)) (cs:List AV),(∀p∈l,ev p.2=ev' p.2)->yu kJ ev K l cs=yu kJ ev' K l cs
 |[],cs,_=>rfl
 |(i,x)::r,cs,hl=>by
  simp only[yu]
  rw[hl (i,x) qf]
  split
  ·rfl
  ·congr 1;funext vs;congr 1;funext cs'
   exact KB kJ K r cs' fun p hp=>hl p (by simp[hp])
theorem qi1(x:Option Operand)(hx:∀y,x=some y->ev y=ev' y):opV ev x=opV ev' x:=by
 cases x with
 |none=>rfl
 |some y=>simp only[opV];rw[hx y rfl]
theorem qi7{l:List Operand}(hl:∀x∈l,ev x=ev' x):l.map ev=l.map ev':=List.map_congr_left hl
theorem qvh{R:Type}{o:Oper}{gb:Nat->Option (Nat×List AV)}{hp:Hp}{K:Kt R}(h1:∀x∈o.op.operands.toList,ev x=ev' x):
 qq c C h o ev gb hp K=qq c C h o ev' gb hp K:=by
 obtain⟨dst,op,type,pos,after,guard⟩:=o
 cases op<;>simp only[Op.operands]at h1
 case build t ps=>
  simp only[qq]
  have hps:∀p∈ps.toList,ev p.2=ev' p.2:=fun p hp=>h1 _ (zg6.mpr ⟨p,hp,rfl⟩)
  simp only[KB _ _ ps.toList _ hps]
 case buildSlice t n ps=>
  simp only[qq]
  have hps:∀p∈ps.toList,ev p.2=ev' p.2:=fun p hp=>h1 _ (zg6.mpr ⟨p,hp,rfl⟩)
  simp only[KB _ _ ps.toList _ hps]
 case makeFunc fn first captured=>
  cases fn<;>simp only[qq]
  rw[qi7 (l:=captured.toList) fun x hx=>h1 x (by simp at hx⊢;exact .inr hx),qi7 (l:=first.toList) fun x hx=>h1 x (by simp at hx⊢;exact .inl hx)]
 case makeMap t m=>cases m<;>rfl
 case slice t x lo hi mx=>
  simp only[qq]
  rw[h1 x qf,qi1 lo (fun y hy=>h1 y (by subst hy;simp)),qi1 hi (fun y hy=>h1 y (by subst hy;simp)),qi1 mx (fun y hy=>h1 y (by subst hy;simp))]
 case call cl=>
  have ha:cl.args.toList.map ev=cl.args.toList.map ev':=qi7 fun x hx=>h1 x (by simp[Call.operands];exact .inr (by simpa using hx))
  cases hc:cl.callee with
  |builtin b=>simp only[qq,hc,ha]
  |invoke r n=>simp only[qq,hc]
  |value f=>
   cases f with
   |tmp t=>
    have:=h1 (.tmp t) (by simp[Call.operands,hc])
    simp only[qq,hc,ha,this]
   |func f=>simp only[qq,hc,ha]
   |const v=>simp only[qq,hc]
   |global g=>simp only[qq,hc]
 all_goals simp only[qq]
 all_goals (first|rfl|(simp only[zgn,List.not_mem_nil,or_false,forall_eq_or_imp,forall_eq]at h1;(try obtain⟨h1,h2⟩:=h1);(try obtain⟨h2,h3⟩:=h2);simp only[*]))
theorem zdn{o:Oper}(h1:∀x∈o.op.operands.toList,ev x=ev' x):jL h o ev=jL h o ev'/\zg h o ev=zg h o ev':=by
 obtain⟨dst,op,type,pos,after,guard⟩:=o
 cases op<;>simp only[Op.operands]at h1<;>simp only[jL,zg]<;>try exact⟨trivial,trivial⟩
 case load t x=>rw[h1 x qf];exact⟨rfl,rfl⟩
 case store t x y=>rw[h1 x qf];exact⟨rfl,rfl⟩
def Qx(c:Cx)(C:Orc)(h:Nat)(o:Oper)(ev:Operand->SV)(gb gb':Nat->Option (Nat×List AV))(hp hp':Hp)(r:SV×BE×Hp):Prop:=
 qq c C h o ev gb' hp' k3=some (r.1,r.2.1,⟨if(zg h o ev).2.2=true then r.2.2.next else hp'.next,if(zg h o ev).2.1=true then r.2.2.get else hp'.get⟩)/\
 ((zg h o ev).2.2=false->r.2.2.next=hp.next)/\((zg h o ev).2.1=false->r.2.2.get=hp.get)/\∀k g cs,r.2.1=some (k,g,cs)->(jL h o ev).2=some k
theorem qob{o:Oper}{gb gb':Nat->Option (Nat×List AV)}{hp hp':Hp}{r:SV×BE×Hp}{Z:Option SV}(hH:zg h o ev=(false,false,false))
 (hz:∀gb hp,qq c C h o ev gb hp k3=Z.bind fun s=>some (s,none,hp)) (hr:qq c C h o ev gb hp k3=some r):Qx c C h o ev gb gb' hp hp' r:=by
 rw[hz]at hr
 obtain⟨s,hs,hr⟩:=bsm hr
 cases hr
 unfold Qx
 rw[hz,hs,hH]
 exact⟨rfl,fun _=>rfl,fun _=>rfl,fun _ _ _ e=>by cases e⟩
theorem qzo{p:Prop}[Decidable p](h:¬p):va p=none:=if_neg h
theorem qo3{R:Type}(h2:h≠2){o:Oper}{b:Builtin}{ts:List TypeId}{as_:List SV}{hp:Hp}{K:SV->Hp->Option R}:
 VO c h o b ts as_ hp K=(VO c h o b ts as_ hp0 fun s _=>some s).bind fun s=>K s hp:=by
 unfold VO
 repeat' split
 all_goals first
  |(simp[zgj,h2,qzo];done)
  |rfl
theorem qjs{o:Oper}(hop:match o.op with| .load _ _=>False| .store _ _ _=>False| .alloc _=>False| .box _ _=>False| .makeSlice _ _ _=>False| .makeMap _ _=>False| .lookup _ _ _ _=>False| .mapUpdate _ _ _ _=>False| .move _=>h≠3| .assign _=>h≠3| .call cl=>(match cl.callee with| .builtin _=>h≠2|_=>False)|_=>True):
 ∃Z:Option SV,∀gb hp,qq c C h o ev gb hp k3=Z.bind fun s=>some (s,none,hp):=by
 obtain⟨dst,op,type,pos,after,guard⟩:=o
 cases op<;>simp only at hop<;>try exact hop.elim
 case move x=>
  cases hti:c.tt type with
  |none=>exact⟨none,fun gb hp=>by simp only[qq,hti];rfl⟩
  |some ti=>exact⟨some (if h=1 then VG ti.k (ev x)else VG ti.k (ev x).ro),fun gb hp=>by simp only[qq,hti,if_neg hop];rfl⟩
 case assign x=>
  cases hti:c.tt type with
  |none=>exact⟨none,fun gb hp=>by simp only[qq,hti];rfl⟩
  |some ti=>exact⟨some (VG ti.k (ev x)),fun gb hp=>by simp only[qq,hti,if_neg hop];rfl⟩
 case pick x y z=>exact⟨Ka (ev x) (ev y) (ev z) some,fun gb hp=>by simp only[qq];rw[JK]⟩
 case build t ps=>
  cases hti:c.tn t with
  |none=>exact⟨none,fun gb hp=>by simp only[qq,hti];rfl⟩
  |some ti=>
   cases hk:ti.k with
   |st fs=>
    by_cases hall:fs.all (fun p=>(c.tn p.2).isSome)=true
    ·exact⟨(yu (XZ c fs) ev some ps.toList (zH ti.zero)).bind fun cs=>some (.av (.agg (cs.map ro1))),fun gb hp=>by
      simp only[qq,hti,hk,if_pos hall];rw[jF];simp[zgj]⟩
    ·exact⟨none,fun gb hp=>by simp only[qq,hti,hk,if_neg hall];rfl⟩
   |ar n e=>
    cases hei:c.tn e with
    |none=>exact⟨none,fun gb hp=>by simp only[qq,hti,hk,hei];rfl⟩
    |some ei=>exact⟨(yu (fun i=>some (i*ei.size,ei.size)) ev some ps.toList (zH ti.zero)).bind fun cs=>some (.av (.agg (cs.map ro1))),fun gb hp=>by
     simp only[qq,hti,hk,hei];rw[jF];simp[zgj]⟩
   |_=>exact⟨none,fun gb hp=>by simp only[qq,hti,hk];rfl⟩
 case buildSlice t n ps=>
  cases hti:c.tn t with
  |none=>exact⟨none,fun gb hp=>by simp only[qq,hti];rfl⟩
  |some ti=>
   cases hk:ti.k with
   |sl e=>
    cases hei:c.tn e with
    |none=>exact⟨none,fun gb hp=>by simp only[qq,hti,hk,hei];rfl⟩
    |some ei=>
     by_cases hn:n*ei.size<=4096/\0<ei.size
     ·exact⟨(yu (fun i=>some (i*ei.size,ei.size)) ev some ps.toList (List.replicate n (zH ei.zero)).flatten).bind fun cs=>(kC cs).bind fun _=>some (.av (.us ei.size (cs.map ro1))),fun gb hp=>by
       simp only[qq,hti,hk,hei,if_pos hn];rw[jF];simp[zgj]⟩
     ·exact⟨none,fun gb hp=>by simp only[qq,hti,hk,hei,if_neg hn];rfl⟩
   |_=>exact⟨none,fun gb hp=>by simp only[qq,hti,hk];rfl⟩
 case nilCheck x=>
  cases hx:ev x with
  |lp k g off=>exact⟨some (.lp k g off),fun gb hp=>by simp only[qq,hx];rfl⟩
  |av y=>exact⟨(QS y).bind fun _=>some (.av y),fun gb hp=>by simp only[qq,hx];simp[zgj]⟩
  |_=>exact⟨none,fun gb hp=>by simp only[qq,hx];rfl⟩
 case binOp op t x y yt=>exact⟨qj3 c op t x y (ev x) (ev y) some,fun gb hp=>by simp only[qq];rw[KW]⟩
 case unOp op t x=>exact⟨(xz (ev x)).bind fun v=>(unV c.P op v).bind fun z=>some (.sv z),fun gb hp=>by simp only[qq];simp[zgj]⟩
 case convert s d x=>
  cases hs:c.tn s with
  |none=>exact⟨none,fun gb hp=>by simp only[qq,hs];rfl⟩
  |some si=>
   cases hd:c.tn d with
   |none=>exact⟨none,fun gb hp=>by simp only[qq,hs,hd];rfl⟩
   |some di=>exact⟨KG c s d si di (ev x) some,fun gb hp=>by simp only[qq,hs,hd];rw[JV]⟩
 case makeFunc fn fs cs=>
  cases fn with
  |func f=>
   by_cases hf:fs.toList.isEmpty=true
   ·exact⟨(Xt (cs.toList.map ev)).bind fun xs=>if xs.all KA=true then(qc7 (Nat.blt f 4294967296)).bind fun _=>some (.av (.fn f (xs.map ro1)))else none,fun gb hp=>by
     simp only[qq,if_pos hf,zgj]
     congr 1;funext xs
     split<;>simp[zgj]⟩
   ·by_cases hc:cs.toList.isEmpty=true
    ·exact⟨(Xt (fs.toList.map ev)).bind fun xs=>(ql1 xs).bind fun _=>some (.av (.fn (4294967296+f) (xs.map ro1))),fun gb hp=>by
      simp only[qq,if_neg hf,if_pos hc,zgj]
      congr 1⟩
    ·exact⟨none,fun gb hp=>by simp only[qq,if_neg hf,if_neg hc];rfl⟩
  |_=>exact⟨none,fun gb hp=>rfl⟩
 case slice t x lo hi mx=>
  cases hti:c.tn t with
  |none=>exact⟨none,fun gb hp=>by simp only[qq,hti];rfl⟩
  |some ti=>
   by_cases hm:(mx.isSome&&!hi.isSome)=true
   ·exact⟨none,fun gb hp=>by simp only[qq,hti,if_pos hm];rfl⟩
   ·exact⟨(opV ev lo).bind fun l=>(opV ev hi).bind fun u=>(opV ev mx).bind fun m=>QI c h ti t (ev x) l u m some,fun gb hp=>by
     simp only[qq,hti,if_neg hm,zgj]
     congr 1;funext l;congr 1;funext u;congr 1;funext m
     rw[QH]⟩
 case fieldAddr t x f=>
  cases hti:c.tn t with
  |none=>exact⟨none,fun gb hp=>by simp only[qq,hti];rfl⟩
  |some ti=>exact⟨jW c ti (ev x) f some,fun gb hp=>by simp only[qq,hti];rw[kf]⟩
 case field t x f=>
  cases hti:c.tn t with
  |none=>exact⟨none,fun gb hp=>by simp only[qq,hti];rfl⟩
  |some ti=>
   cases hk:ti.k with
   |st fs=>
    cases hf:fs[f]? with
    |none=>exact⟨none,fun gb hp=>by simp only[qq,hti,hk,hf];rfl⟩
    |some q=>
     obtain⟨fo,ft⟩:=q
     cases hfi:c.tn ft with
     |none=>exact⟨none,fun gb hp=>by simp only[qq,hti,hk,hf,hfi];rfl⟩
     |some fi=>exact⟨(Vf (ev x)).bind fun cs=>(ju fi 0 cs fo fun s l=>some (s,l)).bind fun p=>some p.1,fun gb hp=>by
      simp only[qq,hti,hk,hf,hfi,zgj]
      congr 1;funext cs;rw[qH];rfl⟩
   |_=>exact⟨none,fun gb hp=>by simp only[qq,hti,hk];rfl⟩
 case indexAddr t x i=>
  cases hti:c.tn t with
  |none=>exact⟨none,fun gb hp=>by simp only[qq,hti];rfl⟩
  |some ti=>exact⟨jU c h ti (ev x) (ev i) some,fun gb hp=>by simp only[qq,hti];rw[xW]⟩
 case index t x i=>
  cases hti:c.tt type with
  |none=>exact⟨none,fun gb hp=>by simp only[qq,hti];rfl⟩
  |some ti=>
   by_cases hs:qcy ti.k=true
   ·exact⟨(WV (ev x)).bind fun a=>(xz (ev i)).bind fun iv=>(ixV c.P t a iv).bind fun z=>some (.sv z),fun gb hp=>by simp only[qq,hti,if_pos hs];simp[zgj]⟩
   ·cases hxi:c.tn t with
    |none=>exact⟨none,fun gb hp=>by simp only[qq,hti,if_neg hs,hxi];rfl⟩
    |some xi=>
     cases hk:xi.k with
     |ar n e=>
      cases hei:c.tn e with
      |none=>exact⟨none,fun gb hp=>by simp only[qq,hti,if_neg hs,hxi,hk,hei];rfl⟩
      |some ei=>exact⟨(Vf (ev x)).bind fun cs=>(xz (ev i)).bind fun iv=>(idx n iv).bind fun j=>(ju ei 0 cs (j*ei.size) fun s l=>some (s,l)).bind fun p=>some p.1,fun gb hp=>by
       simp only[qq,hti,if_neg hs,hxi,hk,hei,zgj]
       congr 1;funext cs;congr 1;funext iv;congr 1;funext j;rw[qH];rfl⟩
     |_=>exact⟨none,fun gb hp=>by simp only[qq,hti,if_neg hs,hxi,hk];rfl⟩
 case extract x i=>
  cases hx:ev x with
  |tp l=>
   cases hl:l[i]? with
   |none=>exact⟨none,fun gb hp=>by simp only[qq,hx,hl];rfl⟩
   |some y=>
    cases hti:c.tt type with
    |none=>exact⟨none,fun gb hp=>by simp only[qq,hx,hl,hti];rfl⟩
    |some ti=>
     by_cases hs:qcy ti.k=true
     ·exact⟨(vb y).bind fun v=>some (.sv v),fun gb hp=>by simp only[qq,hx,hl,hti,if_pos hs];simp[zgj]⟩
     ·by_cases h1:h=1
      ·exact⟨some (.av (ro y)),fun gb hp=>by simp only[qq,hx,hl,hti,if_neg hs,if_pos h1];rfl⟩
      ·exact⟨some (.av y),fun gb hp=>by simp only[qq,hx,hl,hti,if_neg hs,if_neg h1];rfl⟩
  |_=>exact⟨none,fun gb hp=>by simp only[qq,hx];rfl⟩
 case call cl=>
  cases hc:cl.callee with
  |builtin b=>
   simp only[hc]at hop
   exact⟨VO c h ⟨dst,.call cl,type,pos,after,guard⟩ b cl.argTypes.toList (cl.args.toList.map ev) hp0 fun s _=>some s,fun gb hp=>by simp only[qq,hc];rw[qo3 hop]⟩
  |invoke r n=>simp only[hc]at hop
  |value f=>simp only[hc]at hop
 all_goals exact⟨none,fun gb hp=>rfl⟩
end
section
variable {c:Cx}{C:Orc}{h:Nat}{ev:Operand->SV}
theorem wO{a b:Hp}(h1:a.next=b.next)(h2:a.get=b.get):a=b:=by
 cases a;cases b;simp only at h1 h2;subst h1;subst h2;rfl
theorem qsx{a b:Hp}(h:a.get=b.get):a.rd=b.rd:=by
 funext x y;simp only[Hp.rd,h]
theorem qes{a b:Hp}(h:a.get=b.get)(x g:Nat)(cs:List AV):(a.put x g cs).get=(b.put x g cs).get:=by
 simp only[Hp.put,h]
theorem qxr{a b:Hp}(h:a.get=b.get):a.rdM=b.rdM:=by
 funext x;simp only[Hp.rdM,h]
theorem Qf{o:Oper}{gb gb':Nat->Option (Nat×List AV)}{hp hp':Hp}{r:SV×BE×Hp}(hH:zg h o ev=(true,true,true))(hg:qq c C h o ev gb' hp k3=qq c C h o ev gb hp k3)
 (hn:r.2.1=none) (hr:qq c C h o ev gb hp k3=some r) (hA:(zg h o ev).1=true\/(zg h o ev).2.1=true->hp'.get=hp.get)
 (hB:(zg h o ev).2.2=true->hp'.next=hp.next):Qx c C h o ev gb gb' hp hp' r:=by
 unfold Qx
 rw[hH]at hA hB⊢
 have e:hp'=hp:=wO (hB rfl) (hA (.inl rfl))
 subst e
 rw[hg,hr]
 exact⟨rfl,fun e=>(by cases e),fun e=>(by cases e),fun k g cs e=>by rw[hn]at e;cases e⟩
theorem qcs{ti:TI}{a:SV}{gb:Nat->Option (Nat×List AV)}{hp:Hp}{r:SV×BE×Hp}(hr:zT 0 ti a gb hp k3=some r):r.2.1=none:=by
 unfold zT at hr
 split at hr
 ·split at hr
  ·split at hr
   ·rw[qH]at hr
    obtain⟨q,hq,hr⟩:=bsm hr
    cases hr;rfl
   ·cases hr
  ·cases hr
 ·rw[if_neg qg,qH]at hr
  obtain⟨q,hq,hr⟩:=bsm hr
  cases hr;rfl
 ·obtain⟨q,hq,hr⟩:=bsm hr
  obtain⟨cs,hcs,hr⟩:=bsm hr
  rw[qH]at hr
  obtain⟨q,hq,hr⟩:=bsm hr
  cases hr;rfl
 ·cases hr
theorem qn9{o:Oper}{t:TypeId}{x:Operand}(hop:o.op= .load t x)(h3:h=3){gb gb':Nat->Option (Nat×List AV)}{hp hp':Hp}{r:SV×BE×Hp}(hr:qq c C h o ev gb hp k3=some r)
 (hb:∀k,(jL h o ev).1=some k\/(jL h o ev).2=some k->gb' k=gb k) (hA:(zg h o ev).1=true\/(zg h o ev).2.1=true->hp'.get=hp.get)
 (hB:(zg h o ev).2.2=true->hp'.next=hp.next):Qx c C h o ev gb gb' hp hp' r:=by
 subst h3
 have e1:∀gb hp,qq c C 3 o ev gb hp k3=(match c.tn t with|some ti=>zT 0 ti (ev x) gb hp fun s b q=>qok ti.k q s fun s' q'=>k3 s' b q'|none=>none):=fun gb hp=>by simp only[qq,hop]<;>rfl
 have eH:zg 3 o ev=(true,true,true):=by
  simp only[zg,hop]
  cases ev x<;>rfl
 have eB:∀k g off,ev x= .lp k g off->gb' k=gb k:=fun k g off e=>hb k (by simp[jL,hop,e])
 cases hti:c.tn t with
 |none=>rw[e1,hti]at hr;cases hr
 |some ti=>
  refine Qf eH ?_ ?_ hr hA hB
  ·rw[e1,e1,hti]
   simp only
   unfold zT
   cases hx:ev x with
   |lp k g off=>simp only[eB k g off hx]
   |_=>rfl
  ·rw[e1,hti]at hr
   simp only[kN]at hr
   rw[yX]at hr
   obtain⟨q,hq,hr⟩:=bsm hr
   obtain⟨q',hq',hr⟩:=bsm hr
   cases hr
   have:=qcs hq
   exact this
theorem qt2{ti:TI}{hp hp':Hp}{y:AV}{p:Nat×Nat×Nat}(hy:qW y=some p){cs:List AV}(h1:h≠1)(hcs:hp.rd p.1 p.2.1=some cs){s:SV×List AV}(hs:ju ti h cs p.2.2 (fun s cs'=>some (s,cs'))=some s)
 (hq:ym (y,match yC ti.k with|true=>ti.size|false=>1) hp'.get=ym (y,match yC ti.k with|true=>ti.size|false=>1) hp.get):
 ∃cs',hp'.rd p.1 p.2.1=some cs'/\∃s',ju ti h cs' p.2.2 (fun s cs'=>some (s,cs'))=some s'/\s'.1=s.1:=by
 obtain⟨hg,h0⟩:hp.get p.1=some (0,cs)/\p.2.1=0:=by
  unfold Hp.rd at hcs
  obtain⟨z,hz,hcs⟩:=bsm hcs
  split at hcs
  ·rename_i e
   cases hcs
   refine⟨?_,e.2⟩
   rw[hz]
   obtain⟨z1,z2⟩:=z
   have:z1=0:=by have:=e.1;have:=e.2;omega
   subst this;rfl
  ·cases hcs
 have key:∀n,ym (y,n) hp.get=(qn cs p.2.2 n).map (List.map ro1):=by
  intro n
  simp only[ym,hy,hg,zgh,if_true]
 have key':∀n l,ym (y,n) hp'.get=some l->∃cs',hp'.rd p.1 p.2.1=some cs'/\∃l',qn cs' p.2.2 n=some l'/\l'.map ro1=l:=by
  intro n l hl
  unfold ym at hl
  simp only[hy,zgh]at hl
  obtain⟨z,hz,hl⟩:=bsm hl
  split at hl
  ·rename_i e
   obtain⟨l',hl',rfl⟩:=zjf.mp hl
   refine⟨z.2,?_,l',hl',rfl⟩
   have hz:hp'.get p.1=some z:=hz
   have e:z.1=0:=e
   simp only[Hp.rd,hz,zgh,e,h0,and_self,if_true]
  ·cases hl
 unfold ju at hs⊢
 split at hs
 ·rename_i hsc
  have hag:yC ti.k=false:=by cases hk:ti.k<;>rw[hk]at hsc<;>first|rfl|cases hsc
  rw[hag]at hq
  obtain⟨v,hv,hs⟩:=bsm hs
  cases hs
  have hx:=xZ hv
  have hlt:=(zgq.mp hx).1
  have e1:qn cs p.2.2 1=some [.sc v]:=by
   unfold qn
   rw[if_pos qc]
   congr 1
   obtain⟨_,h2⟩:=zgq.mp hx
   rw[zhp hlt,h2];rfl
  rw[key,e1]at hq
  obtain⟨cs',hr,l',hl',e⟩:=key' 1 _ hq
  refine⟨cs',hr,(.sv v,cs'),?_,rfl⟩
  have e2:cs'[p.2.2]?=some (.sc v):=by
   obtain⟨hle,rfl⟩:=zY hl'
   have hlt':p.2.2<cs'.length:=qc
   rw[zhp hlt']at e
   have e:ro1 cs'[p.2.2]= .sc v:=(List.cons.inj e).1
   rw[zgl hlt']
   cases hy:cs'[p.2.2]<;>rw[hy]at e<;>first|exact congrArg some e|cases e
  have e3:qj cs' p.2.2=some v:=by simp[qj,e2,vb]
  rw[if_pos hsc,e3];rfl
 ·rename_i hsc
  simp only[if_neg hsc]
  split at hs
  ·rename_i hag
   rw[hag]at hq
   obtain⟨l,hl,hs⟩:=bsm hs
   cases hs
   rw[key,hl]at hq
   obtain⟨cs',hr,l',hl',e⟩:=key' ti.size _ hq
   refine⟨cs',hr,(.av (.agg (l'.map ro1)),cs'),?_,by rw[e]⟩
   rw[if_pos hag,hl']
   simp only[zgh,if_neg h1]
  ·rename_i hag
   have hag':yC ti.k=false:=by cases h:yC ti.k<;>first|rfl|exact absurd h hag
   rw[hag']at hq
   obtain⟨x,hx,hs⟩:=bsm hs
   cases hs
   have hx:cs[p.2.2]?=some x:=hx
   have hlt:=(zgq.mp hx).1
   have e1:qn cs p.2.2 1=some [x]:=by
    unfold qn
    rw[if_pos qc]
    congr 1
    obtain⟨_,h2⟩:=zgq.mp hx
    rw[zhp hlt,h2];rfl
   rw[key,e1]at hq
   obtain⟨cs',hr,l',hl',e⟩:=key' 1 _ hq
   obtain⟨hle,rfl⟩:=zY hl'
   have hlt':p.2.2<cs'.length:=qc
   rw[zhp hlt']at e
   have e:ro1 cs'[p.2.2]=ro1 x:=(List.cons.inj e).1
   refine⟨cs',hr,(.av (ro1 cs'[p.2.2]),cs'),?_,by rw[e]⟩
   have e3:qo cs' p.2.2=some cs'[p.2.2]:=zgl hlt'
   simp only[if_neg hag,e3,zgh,if_neg h1]
theorem qt1{o:Oper}{t:TypeId}{x:Operand}(hop:o.op= .load t x)(h3:h≠3){gb gb':Nat->Option (Nat×List AV)}{hp hp':Hp}{r:SV×BE×Hp}(hr:qq c C h o ev gb hp k3=some r)
 (hb:∀k,(jL h o ev).1=some k\/(jL h o ev).2=some k->gb' k=gb k) (hA:(zg h o ev).1=true\/(zg h o ev).2.1=true->hp'.get=hp.get)
 (hL:∀q,qfb h o c.tn ev=some q->ym q hp'.get=ym q hp.get):Qx c C h o ev gb gb' hp hp' r:=by
 have e1:∀gb hp,qq c C h o ev gb hp k3=(match c.tn t with|some ti=>zT h ti (ev x) gb hp k3|none=>none):=fun gb hp=>by
  simp only[qq,hop]
  cases c.tn t with
  |none=>rfl
  |some ti=>simp only[if_neg h3]
 have eB:jL h o ev=(match ev x with| .lp k _ _=>if h=1 then(none,some k)else(some k,none)|_=>(none,none)):=by simp only[jL,hop]<;>rfl
 have h3b:(h==3)=false:=by simpa using h3
 have eH:zg h o ev=(match ev x with| .av _=>(h==1,h==1,false)|_=>(false,false,false)):=by
  simp only[zg,hop,h3b,Bool.or_false]
  cases ev x<;>rfl
 unfold Qx
 rw[e1]at hr⊢
 rw[eH]at hA⊢
 rw[eB]at hb⊢
 cases hti:c.tn t with
 |none=>rw[hti]at hr;cases hr
 |some ti=>
  rw[hti]at hr
  simp only at hr⊢
  unfold zT at hr⊢
  cases hx:ev x with
  |lp k g off=>
   rw[hx]at hr hb
   simp only at hr hb⊢
   have hg:gb' k=gb k:=by
    apply hb
    by_cases h1:h=1<;>simp[h1]
   rw[hg]
   cases hgb:gb k with
   |none=>rw[hgb]at hr;cases hr
   |some q=>
    obtain⟨g',cs⟩:=q
    rw[hgb]at hr
    simp only at hr⊢
    by_cases hgg:g=g'
    ·simp only[if_pos hgg]at hr⊢
     rw[qH]at hr⊢
     obtain⟨q,hq,hr⟩:=bsm hr
     cases hr
     rw[hq]
     refine⟨rfl,fun _=>rfl,fun _=>rfl,fun k' g' cs' e=>?_⟩
     by_cases h1:h=1
     ·simp only[h1,if_true]at e⊢
      cases e;rfl
     ·simp only[h1,if_false]at e;cases e
    ·simp only[if_neg hgg]at hr;cases hr
  |rv cs=>
   rw[hx]at hr
   simp only at hr⊢
   by_cases h1:h=1
   ·simp only[if_pos h1]at hr;cases hr
   ·simp only[if_neg h1]at hr⊢
    rw[qH]at hr⊢
    obtain⟨q,hq,hr⟩:=bsm hr
    cases hr
    rw[hq]
    exact⟨rfl,fun _=>rfl,fun _=>rfl,fun _ _ _ e=>by cases e⟩
  |av y=>
   rw[hx]at hr hA
   simp only at hr hA⊢
   obtain⟨p,hp1,hr⟩:=bsm hr
   obtain⟨cs,hcs,hr⟩:=bsm hr
   by_cases h1:h=1
   ·have hne:(h==1)=true:=by simp[h1]
    have hge:hp'.get=hp.get:=hA (.inl hne)
    rw[hp1,qsx hge]
    simp only[zgh,hcs]
    rw[qH]at hr⊢
    obtain⟨q,hq,hr⟩:=bsm hr
    cases hr
    rw[hq]
    refine⟨?_,fun _=>?_,fun e=>?_,fun _ _ _ e=>by cases e⟩
    ·simp only[h1,if_true,zgh,beq_self_eq_true,zhm,if_false]
     refine congrArg some (congrArg (Prod.mk _) (congrArg (Prod.mk _) (wO rfl (qes hge _ _ _))))
    ·simp only[if_pos h1];rfl
    ·have e':(h==1)=false:=e
     rw[hne]at e';cases e'
   ·have hne:(h==1)=false:=by simpa using h1
    have hq:=hL _ (by simp only[qfb,hop,hx,hne,h3b,Bool.or_false,hti];rfl)
    rw[hp1]
    simp only[zgh]
    rw[qH]at hr
    obtain⟨s,hs,hr⟩:=bsm hr
    obtain⟨cs',hcs',hs'⟩:=qt2 hp1 h1 hcs hs hq
    rw[hcs']
    simp only[zgh]
    rw[qH]
    obtain⟨s',hs'',e⟩:=hs'
    rw[hs'']
    simp only[zgh,if_neg h1]at hr⊢
    cases hr
    rw[e]
    refine⟨?_,fun _=>rfl,fun _=>rfl,fun _ _ _ e=>by cases e⟩
    simp only[hne,zhm,if_false]
  |_=>rw[hx]at hr;cases hr
theorem qn8{o:Oper}{t:TypeId}{x y:Operand}(hop:o.op= .store t x y){gb gb':Nat->Option (Nat×List AV)}{hp hp':Hp}{r:SV×BE×Hp}(hr:qq c C h o ev gb hp k3=some r)
 (hb:∀k,(jL h o ev).1=some k\/(jL h o ev).2=some k->gb' k=gb k) (hA:(zg h o ev).1=true\/(zg h o ev).2.1=true->hp'.get=hp.get):Qx c C h o ev gb gb' hp hp' r:=by
 have e1:∀gb hp,qq c C h o ev gb hp k3=(match c.tn t with|some ti=>yS ti (ev x) (ev y) gb hp k3|none=>none):=fun gb hp=>by simp only[qq,hop]<;>rfl
 have eB:jL h o ev=(match ev x with| .lp k _ _=>(none,some k)|_=>(none,none)):=by simp only[jL,hop]<;>rfl
 have eH:zg h o ev=(match ev x with| .av _=>(false,true,false)|_=>(false,false,false)):=by simp only[zg,hop]<;>rfl
 unfold Qx
 rw[e1]at hr⊢
 rw[eH]at hA⊢
 rw[eB]at hb⊢
 cases hti:c.tn t with
 |none=>rw[hti]at hr;cases hr
 |some ti=>
  rw[hti]at hr
  simp only at hr⊢
  unfold yS at hr⊢
  obtain⟨vs,hvs,hr⟩:=bsm hr
  rw[hvs]
  simp only[zgh]
  cases hx:ev x with
  |lp k g off=>
   rw[hx]at hr hb
   simp only at hr hb⊢
   have hg:gb' k=gb k:=hb k (.inr rfl)
   rw[hg]
   cases hgb:gb k with
   |none=>rw[hgb]at hr;cases hr
   |some q=>
    obtain⟨g',cs⟩:=q
    rw[hgb]at hr
    simp only at hr⊢
    by_cases hgg:g=g'
    ·simp only[if_pos hgg]at hr⊢
     obtain⟨q,hq,hr⟩:=bsm hr
     cases hr
     rw[hq]
     exact⟨rfl,fun _=>rfl,fun _=>rfl,fun k' g' cs' e=>by cases e;rfl⟩
    ·simp only[if_neg hgg]at hr;cases hr
  |av z=>
   rw[hx]at hr hA
   simp only at hr hA⊢
   have hge:hp'.get=hp.get:=hA (.inr trivial)
   obtain⟨p,hp1,hr⟩:=bsm hr
   obtain⟨cs,hcs,hr⟩:=bsm hr
   obtain⟨q,hq,hr⟩:=bsm hr
   cases hr
   rw[hp1,qsx hge]
   simp only[zgh,hcs,hq,if_true,zhm,if_false]
   refine⟨?_,fun _=>rfl,fun e=>(by cases e),fun _ _ _ e=>by cases e⟩
   exact congrArg some (congrArg (Prod.mk _) (congrArg (Prod.mk _) (wO rfl (qes hge _ _ _))))
  |_=>rw[hx]at hr;cases hr
theorem qlk{o:Oper}{cs:List AV}{gb gb':Nat->Option (Nat×List AV)}{hp hp':Hp}{r:SV×BE×Hp}{W:Option (List AV)}
 (he:∀gb hp,qq c C h o ev gb hp k3=W.bind fun cs=>if h=2 then k3 (.av (.ptr hp.next 0 0)) none (hp.new cs)else
  match o.dst with
  |some d=>let g:=match gb d with|some (g,_)=>g+1|none=>0
   k3 (.lp d g 0) (some (d,g,cs)) hp
  |none=>none)
 (eB:jL h o ev=if h=2 then(none,none)else(none,o.dst)) (eH:zg h o ev=(false,h==2,h==2))
 (hr:qq c C h o ev gb hp k3=some r) (hb:∀k,(jL h o ev).1=some k\/(jL h o ev).2=some k->gb' k=gb k) (hA:(zg h o ev).1=true\/(zg h o ev).2.1=true->hp'.get=hp.get)
 (hB:(zg h o ev).2.2=true->hp'.next=hp.next):Qx c C h o ev gb gb' hp hp' r:=by
 unfold Qx
 rw[he]at hr⊢
 rw[eH]at hA hB⊢
 rw[eB]at hb⊢
 obtain⟨cs,hcs,hr⟩:=bsm hr
 rw[hcs]
 simp only[zgh]
 by_cases h2:h=2
 ·simp only[h2,if_true,beq_self_eq_true]at hr hA hB⊢
  cases hr
  have hg:=hA (.inr trivial)
  have hn:=hB trivial
  refine⟨?_,fun e=>(by cases e),fun e=>(by cases e),fun _ _ _ e=>by cases e⟩
  show some (SV.av (.ptr hp'.next 0 0),(none:BE),hp'.new cs)=some (SV.av (.ptr hp.next 0 0),none,⟨(hp.new cs).next,(hp.new cs).get⟩)
  rw[wO hn hg]
 ·have hne:(h==2)=false:=by simpa using h2
  simp only[if_neg h2,hne,zhm,if_false]at hr hb⊢
  cases hd:o.dst with
  |none=>rw[hd]at hr;cases hr
  |some d=>
   rw[hd]at hr hb
   simp only at hr hb⊢
   have hg:=hb d (.inr rfl)
   rw[hg]
   cases hr
   exact⟨rfl,fun _=>rfl,fun _=>rfl,fun k g cs e=>by cases e;rfl⟩
theorem qoa{ti:TI}{f:FuncId}{caps:List AV}{as_:List SV}{hp hp':Hp}{r:SV×BE×Hp}(hr:je c C h ti f caps as_ hp k3=some r)(hA:h=2\/h=4->hp'.get=hp.get)(hB:h=2\/h=4->hp'.next=hp.next):
 je c C h ti f caps as_ hp' k3=some (r.1,r.2.1,if h=2\/h=4 then r.2.2 else hp')/\(¬(h=2\/h=4)->r.2.2=hp)/\r.2.1=none:=by
 by_cases h24:h=2\/h=4
 ·rw[wO (hB h24) (hA h24),hr,if_pos h24]
  refine⟨rfl,fun e=>absurd h24 e,?_⟩
  unfold je at hr
  obtain⟨xs,hxs,hr⟩:=bsm hr
  rcases h24 with h2|h4
  ·rw[if_pos h2]at hr
   obtain⟨p,hp1,hr⟩:=bsm hr
   rw[jm]at hr
   obtain⟨s,hs,hr⟩:=bsm hr
   cases hr;rfl
  ·rw[if_neg qc,if_pos h4]at hr
   obtain⟨p,hp1,hr⟩:=bsm hr
   rw[jm]at hr
   obtain⟨s,hs,hr⟩:=bsm hr
   cases hr;rfl
 ·have h2:h≠2:=fun e=>h24 (.inl e)
  have h4:h≠4:=fun e=>h24 (.inr e)
  unfold je at hr⊢
  obtain⟨xs,hxs,hr⟩:=bsm hr
  rw[hxs]
  simp only[zgh]
  simp only[if_neg h2,if_neg h4,if_neg h24]at hr⊢
  obtain⟨u,hu,hr⟩:=bsm hr
  rw[hu]
  simp only[zgh]
  obtain⟨p,hp1,hr⟩:=bsm hr
  rw[hp1]
  simp only[zgh]
  obtain⟨u',hu',hr⟩:=bsm hr
  rw[hu']
  simp only[zgh]
  rw[jm]at hr⊢
  obtain⟨s,hs,hr⟩:=bsm hr
  cases hr
  rw[hs]
  exact⟨rfl,fun _=>rfl,rfl⟩
theorem qov{o:Oper}{gb gb':Nat->Option (Nat×List AV)}{hp hp':Hp}{r:SV×BE×Hp}(hr:qq c C h o ev gb hp k3=some r)
 (hb:∀k,(jL h o ev).1=some k\/(jL h o ev).2=some k->gb' k=gb k) (hA:(zg h o ev).1=true\/(zg h o ev).2.1=true->hp'.get=hp.get)
 (hB:(zg h o ev).2.2=true->hp'.next=hp.next) (hL:∀q,qfb h o c.tn ev=some q->ym q hp'.get=ym q hp.get):Qx c C h o ev gb gb' hp hp' r:=by
 have pure:zg h o ev=(false,false,false)->(match o.op with| .load _ _=>False| .store _ _ _=>False| .alloc _=>False| .box _ _=>False| .makeSlice _ _ _=>False| .makeMap _ _=>False| .lookup _ _ _ _=>False| .mapUpdate _ _ _ _=>False| .move _=>h≠3| .assign _=>h≠3| .call cl=>(match cl.callee with| .builtin _=>h≠2|_=>False)|_=>True)->Qx c C h o ev gb gb' hp hp' r:=by
  intro hH hop
  obtain⟨Z,hz⟩:=qjs (c:=c) (C:=C) (h:=h) (ev:=ev) hop
  exact qob hH hz hr
 cases hop:o.op
 case load t x=>
  by_cases h3:h=3
  ·exact qn9 hop h3 hr hb hA hB
  ·exact qt1 hop h3 hr hb hA hL
 case move x=>
  by_cases h3:h=3
  ·subst h3
   refine Qf (by simp only[zg,hop];rfl) (by simp only[qq,hop]) ?_ hr hA hB
   simp only[qq,hop]at hr
   split at hr
   ·rw[if_pos trivial,kN]at hr
    obtain⟨q,hq,hr⟩:=bsm hr
    cases hr;rfl
   ·cases hr
  ·have h3b:(h==3)=false:=by simpa using h3
   exact pure (by simp only[zg,hop,h3b]) (by simp only[hop];exact h3)
 case assign x=>
  by_cases h3:h=3
  ·subst h3
   refine Qf (by simp only[zg,hop];rfl) (by simp only[qq,hop]) ?_ hr hA hB
   simp only[qq,hop]at hr
   split at hr
   ·rw[if_pos trivial,kN]at hr
    obtain⟨q,hq,hr⟩:=bsm hr
    cases hr;rfl
   ·cases hr
  ·have h3b:(h==3)=false:=by simpa using h3
   exact pure (by simp only[zg,hop,h3b]) (by simp only[hop];exact h3)
 case makeMap t m=>
  have hm:m=none/\h=2:=by
   cases m with
   |some m=>simp only[qq,hop]at hr;cases hr
   |none=>
    simp only[qq,hop]at hr
    split at hr
    ·exact⟨rfl,by assumption⟩
    ·cases hr
  obtain⟨rfl,h2⟩:=hm
  refine Qf (by simp only[zg,hop]) (by simp only[qq,hop]) ?_ hr hA hB
  simp only[qq,hop,if_pos h2]at hr
  cases hr;rfl
 case mapUpdate t m k x=>
  refine Qf (by simp only[zg,hop]) (by simp only[qq,hop]) ?_ hr hA hB
  simp only[qq,hop]at hr
  split at hr
  ·rw[wJ]at hr
   obtain⟨q,hq,hr⟩:=bsm hr
   cases hr;rfl
  ·cases hr
 case lookup t x i ok=>
  have eH:zg h o ev=(true,false,false):=by simp only[zg,hop]
  have eB:jL h o ev=(none,none):=by simp only[jL,hop]
  unfold Qx
  rw[eH]at hA⊢
  rw[eB]
  have hge:hp'.get=hp.get:=hA (.inl rfl)
  simp only[qq,hop]at hr⊢
  split at hr
  ·rw[kK]at hr
   obtain⟨s,hs,hr⟩:=bsm hr
   cases hr
   have e:xu c t (ev x) (ev i) ok hp' some=xu c t (ev x) (ev i) ok hp some:=by
    unfold xu
    rw[qxr hge]
   rename_i h2
   rw[if_pos h2,kK,e,hs]
   exact⟨rfl,fun _=>rfl,fun _=>rfl,fun _ _ _ e=>by cases e⟩
  ·cases hr
 case store t x y=>exact qn8 hop hr hb hA
 case alloc t=>
  refine qlk (cs:=[]) (W:=(c.tn t).map fun ti=>zH ti.zero) (fun gb hp=>?_) (by simp only[jL,hop]) (by simp only[zg,hop]) hr hb hA hB
  simp only[qq,hop]
  cases c.tn t<;>rfl
 case box t x=>
  refine qlk (cs:=[]) (W:=(c.tn t).bind fun ti=>(valC ti.size (ev x)).map fun vs=>vs.map ro1) (fun gb hp=>?_) (by simp only[jL,hop]) (by simp only[zg,hop]) hr hb hA hB
  simp only[qq,hop]
  cases c.tn t with
  |none=>rfl
  |some ti=>
   simp only[zgh]
   cases valC ti.size (ev x)<;>rfl
 case makeSlice t l m=>
  have eH:zg h o ev=(false,h==2,h==2):=by simp only[zg,hop]
  have eB:jL h o ev=(none,none):=by simp only[jL,hop]
  have key:∃W:Option (Nat×List AV×Nat),∀gb hp,qq c C h o ev gb hp k3=W.bind fun q=>if h=2 then k3 (.av (.ms hp.next 0 0 q.1 q.2.2)) none (hp.new q.2.1)else k3 (.av (.us q.2.2 q.2.1)) none hp:=by
   cases hti:c.tn t with
   |none=>exact⟨none,fun gb hp=>by simp only[qq,hop,hti];rfl⟩
   |some ti=>
    cases hk:ti.k with
    |sl e=>
     cases hei:c.tn e with
     |none=>exact⟨none,fun gb hp=>by simp only[qq,hop,hti,hk,hei];rfl⟩
     |some ei=>
      refine⟨(xz (ev l)).bind fun lv=>(xz (ev m)).bind fun mv=>(YP lv).bind fun n=>(YP mv).bind fun n'=>
       (QQ ei.bytes ei.size n n').bind fun _=>some (tN n,QF n ei.zero,ei.size),fun gb hp=>?_⟩
      simp only[qq,hop,hti,hk,hei,zgj]
      congr 1
    |_=>exact⟨none,fun gb hp=>by simp only[qq,hop,hti,hk];rfl⟩
  obtain⟨W,he⟩:=key
  unfold Qx
  rw[he]at hr⊢
  rw[eH]at hA hB⊢
  rw[eB]at hb⊢
  obtain⟨q,hq,hr⟩:=bsm hr
  rw[hq]
  simp only[zgh]
  by_cases h2:h=2
  ·simp only[h2,if_true,beq_self_eq_true]at hr hA hB⊢
   cases hr
   rw[wO (hB trivial) (hA (.inr trivial))]
   exact⟨rfl,fun e=>(by cases e),fun e=>(by cases e),fun _ _ _ e=>by cases e⟩
  ·have hne:(h==2)=false:=by simpa using h2
   simp only[if_neg h2,hne,zhm,if_false]at hr⊢
   cases hr
   exact⟨rfl,fun _=>rfl,fun _=>rfl,fun _ _ _ e=>by cases e⟩
 case call cl=>
  cases hcl:cl.callee with
  |builtin b=>
   by_cases h2:h=2
   ·subst h2
    refine Qf (by simp only[zg,hop,hcl];rfl) (by simp only[qq,hop,hcl]) ?_ hr hA hB
    simp only[qq,hop,hcl]at hr
    rw[KR]at hr
    obtain⟨q,hq,hr⟩:=bsm hr
    cases hr;rfl
   ·have h2b:(h==2)=false:=by simpa using h2
    exact pure (by simp only[zg,hop,hcl,h2b]) (by simp only[hop,hcl];exact h2)
  |invoke x n=>simp only[qq,hop,hcl]at hr;cases hr
  |value f=>
   have eH:zg h o ev=(h==2||h==4,h==2||h==4,h==2||h==4):=by simp only[zg,hop,hcl]
   have e24:(h==2||h==4)=true↔h=2\/h=4:=qf
   have eB:jL h o ev=(none,none):=by simp only[jL,hop]
   have key:(∃ti g caps,∀hp gb,qq c C h o ev gb hp k3=je c C h ti g caps (cl.args.toList.map ev) hp k3)\/∃Z:Option SV,∀gb hp,qq c C h o ev gb hp k3=Z.bind fun s=>some (s,none,hp):=by
    cases f with
    |tmp t=>
     cases hti:c.tt o.type with
     |none=>exact .inr ⟨none,fun gb hp=>by simp only[qq,hop,hcl,hti];rfl⟩
     |some ti=>
      cases hx:ev (.tmp t)with
      |av x=>
       by_cases h4:h=4
       ·cases hf:vX x with
        |none=>exact .inr ⟨none,fun gb hp=>by simp only[qq,hop,hcl,hti,hx,if_pos h4,hf];rfl⟩
        |some p=>exact .inl ⟨ti,p.1,p.2,fun hp gb=>by simp only[qq,hop,hcl,hti,hx,if_pos h4,hf];rfl⟩
       ·cases hf:ZW x with
        |none=>exact .inr ⟨none,fun gb hp=>by simp only[qq,hop,hcl,hti,hx,if_neg h4,hf];rfl⟩
        |some p=>exact .inl ⟨ti,p.1,p.2,fun hp gb=>by simp only[qq,hop,hcl,hti,hx,if_neg h4,hf];rfl⟩
      |_=>exact .inr ⟨none,fun gb hp=>by simp only[qq,hop,hcl,hti,hx];rfl⟩
    |func g=>
     cases hF:c.F g with
     |none=>exact .inr ⟨none,fun gb hp=>by simp only[qq,hop,hcl,hF];rfl⟩
     |some fn=>
      cases hti:c.tt o.type with
      |none=>exact .inr ⟨none,fun gb hp=>by simp only[qq,hop,hcl,hF,hti];rfl⟩
      |some ti=>
       cases hb':fn.body with
       |some b=>exact .inl ⟨ti,g,[],fun hp gb=>by simp only[qq,hop,hcl,hF,hti,hb']⟩
       |none=>exact .inr ⟨(qbw (cl.args.toList.map ev)).bind fun vs=>(one (c.X g vs)).bind fun z=>some (.sv z),fun gb hp=>by
        simp only[qq,hop,hcl,hF,hti,hb',zgj];rfl⟩
    |const v=>exact .inr ⟨none,fun gb hp=>by simp only[qq,hop,hcl];rfl⟩
    |global g=>exact .inr ⟨none,fun gb hp=>by simp only[qq,hop,hcl];rfl⟩
   unfold Qx
   rw[eH]at hA hB⊢
   rw[eB]
   rcases key with⟨ti,g,caps,he⟩|⟨Z,hz⟩
   ·rw[he]at hr⊢
    obtain⟨a1,a2,a3⟩:=qoa hr (fun h2=>hA (.inl (e24.mpr h2))) (fun h2=>hB (e24.mpr h2))
    rw[a1]
    by_cases h2:h=2\/h=4
    ·simp only[if_pos h2,e24.mpr h2,if_true]
     exact⟨by trivial,fun e=>(by cases e),fun e=>(by cases e),fun k g cs e=>by rw[a3]at e;cases e⟩
    ·have hne:(h==2||h==4)=false:=by
      cases e:(h==2||h==4)with
      |false=>rfl
      |true=>exact absurd (e24.mp e) h2
     simp only[if_neg h2,hne,zhm,if_false]
     exact⟨trivial,fun _=>by rw[a2 h2],fun _=>by rw[a2 h2],fun k g cs e=>by rw[a3]at e;cases e⟩
   ·rw[hz]at hr⊢
    obtain⟨s,hs,hr⟩:=bsm hr
    cases hr
    rw[hs]
    simp only[zgh]
    by_cases h2:h=2\/h=4
    ·have hb2:(h==2||h==4)=true:=e24.mpr h2
     rw[wO (hB hb2) (hA (.inl hb2))]
     simp only[hb2,if_true]
     exact⟨trivial,fun e=>(by cases e),fun e=>(by cases e),fun k g cs e=>by cases e⟩
    ·have hne:(h==2||h==4)=false:=by
      cases e:(h==2||h==4)with
      |false=>rfl
      |true=>exact absurd (e24.mp e) h2
     simp only[hne,zhm,if_false]
     exact⟨trivial,fun _=>trivial,fun _=>trivial,fun k g cs e=>by cases e⟩
 all_goals exact pure (by simp only[zg,hop]) (by simp only[hop])
end
structure Vw where
 sl:Nat->SV
 bx:Nat->Option (Nat×List AV)
 hp:Hp
def St.vw(st:St):Vw:=⟨qE st.sl,zK st.bx,st.hp⟩
def evV(σ:Nat->SV):Operand->SV
 | .tmp t=>σ t
 |x=>zy [] x
theorem KC(l:Slots):evV (qE l)=zy l:=by
 funext x;cases x<;>rfl
def dnV(h:Nat)(o:Oper)(σ:Nat->SV)(k:Nat):SV:=
 match o.op with
 | .extract (.tmp t) i=>if h=1 then σ k else if k=t then(match σ t with| .tp xs=>.tp (match xs[i]? with|some y=>xs.set i (ro y)|none=>xs)|s=>s)else σ k
 |_=>if k∈qN h o then(σ k).ro else σ k
def Qt(σ:Nat->SV)(d:Option Tmp)(s:SV)(k:Nat):SV:=if d=some k then s else σ k
def qb5(β:Nat->Option (Nat×List AV))(b:BE)(k:Nat):Option (Nat×List AV):=
 match b with
 |some (j,g,cs)=>if j=k then some (g,cs)else β k
 |none=>β k
def fpV(tn:TypeId->Option TI)(h:Nat)(ops:Array Oper)(o:Oper)(ev:Operand->SV)(hp hp':Hp):Fp:=
 {rs:=o.looksAt ops,ws:=o.dst.toList++qN h o,br:=(jL h o ev).1,bw:=(jL h o ev).2,hr:=(zg h o ev).1,hw:=(zg h o ev).2.1,nw:=(zg h o ev).2.2,lq:=qfb h o tn ev,gb:=qjj (zg h o ev).2.1 hp,ga:=qjj (zg h o ev).2.1 hp'}
theorem qy8(tn:TypeId->Option TI)(h:Nat)(ops:Array Oper)(o:Oper)(l:Slots)(hp hp':Hp):zcp tn h ops o l hp hp'=fpV tn h ops o (evV (qE l)) hp hp':=by
 rw[KC];rfl
theorem qze{h:Nat}{o:Oper}(hno:∀t i,o.op≠ .extract (.tmp t) i)(l:Slots):qF h o l=qG (qN h o) l:=by
 unfold qF
 split
 ·rename_i t i hop;exact absurd hop (hno t i)
 ·rfl
theorem zcy{h:Nat}{o:Oper}(hno:∀t i,o.op≠ .extract (.tmp t) i)(σ:Nat->SV)(k:Nat):dnV h o σ k=if k∈qN h o then(σ k).ro else σ k:=by
 unfold dnV
 split
 ·rename_i t i hop;exact absurd hop (hno t i)
 ·rfl
theorem qzc(h:Nat)(o:Oper)(l:Slots)(k:Nat):qE (qF h o l) k=dnV h o (qE l) k:=by
 by_cases hop:∃t i,o.op= .extract (.tmp t) i
 ·obtain⟨t,i,hop⟩:=hop
  by_cases h1:h=1
  ·have e1:qF h o l=l:=by simp only[qF,hop,if_pos h1]
   have e2:dnV h o (qE l) k=qE l k:=by simp only[dnV,hop,if_pos h1]
   rw[e1,e2]
  have e1:qF h o l=dnX t i l:=by simp only[qF,hop,if_neg h1]
  have e2:dnV h o (qE l) k=if k=t then(match qE l t with| .tp xs=>.tp (match xs[i]? with|some y=>xs.set i (ro y)|none=>xs)|s=>s)else qE l k:=by simp only[dnV,hop,if_neg h1]<;>rfl
  rw[e1,e2]
  simp only[dnX]
  cases hx:qE l t with
  |tp xs=>
   simp only
   rw[za]
   by_cases e:t=k
   ·subst e;rw[if_pos rfl,if_pos rfl];rfl
   ·have e':¬k=t:=fun h=>e h.symm
    simp[e,e']
  |_=>
   simp only
   by_cases e:k=t
   ·subst e;simp[hx]
   ·simp[e]
 ·have hno:∀t i,o.op≠ .extract (.tmp t) i:=fun t i e=>hop ⟨t,i,e⟩
  rw[qze hno,zcy hno,zo]
theorem XX(l:Slots)(d:Option Tmp)(s:SV)(k:Nat):qE (vD l d s) k=Qt (qE l) d s k:=by
 cases d with
 |none=>simp[vD,Qt]
 |some d=>
  simp only[vD,Qt]
  rw[za]
  by_cases e:d=k
  ·subst e;simp
  ·have:¬some d=some k:=fun h=>e (zgy h)
   simp[e]
theorem qgq(h:Nat)(o:Oper)(st:St)(s:SV)(b:BE)(hp:Hp):(after h o st s b hp).vw=⟨Qt (dnV h o (qE st.sl)) o.dst s,qb5 (zK st.bx) b,hp⟩:=by
 unfold St.vw after
 congr 1
 ·funext k
  rw[XX]
  unfold Qt
  rw[qzc]
 ·funext k
  cases b with
  |none=>rfl
  |some q=>obtain⟨j,g,cs⟩:=q;simp only[qb5];rw[ke]
section
variable (c:Cx)(C:Orc)(f:FuncId)(r:Nat)(ops:Array Oper)
def vU(h:Nat)(o:Oper)(v:Vw):Option (Vw×Fp):=
 (qq c C h o (evV v.sl) v.bx v.hp k3).bind fun q=>some (⟨Qt (dnV h o v.sl) o.dst q.1,qb5 v.bx q.2.1,q.2.2⟩,fpV c.tn h ops o (evV v.sl) v.hp q.2.2)
def vT(o:Oper)(v:Vw):Vw×Fp:=(⟨Qt v.sl o.dst .ud,v.bx,v.hp⟩,JS ops o)
def vOp(i:Nat)(v:Vw):Option (Vw×Fp):=
 match ops[i]? with
 |none=>none
 |some o=>match yP o ops with
  |none=>none
  |some none=>vU c C ops (c.H f r i) o v
  |some (some (g,want))=>match v.sl g with
   | .ud=>some (vT ops o v)
   | .sv u=>(asB u).bind fun t=>if t=want then vU c C ops (c.H f r i) o v else some (vT ops o v)
   |_=>none
def wv:List Nat->Vw->Option (Vw×List (Nat×Fp))
 |[],v=>some (v,[])
 |i::is,v=>(vOp c C f r ops i v).bind fun p=>(wv is p.1).bind fun q=>some (q.1,(i,p.2)::q.2)
end
section
variable {c:Cx}{C:Orc}{f:FuncId}{r:Nat}{ops:Array Oper}
theorem YV(st:St)(g:Nat)(b:Bool)(h:qE st.sl g= .sv (.bool b)):(qmo st g b).vw=st.vw:=by
 unfold qmo St.vw
 congr 1
 funext k
 show qE ((g,.sv (.bool b))::st.sl) k=qE st.sl k
 rw[za]
 split
 ·rename_i e;subst e;exact h.symm
 ·rfl
theorem qc3{G:GoT}{is:List Nat}{d:Bool}{acc:List (Nat×Fp)}{k:List It}{h i:Nat}{o:Oper}{st:St}{q:AV×Hp}(hr:Jb c C G r ops is d acc k h i o st=some q):
 ∃st1 F,vU c C ops h o st.vw=some (st1.vw,F)/\G (.ops r ops is d (qj9 d i F acc)::k) st1=some q:=by
 unfold Jb at hr
 rw[vj]at hr
 obtain⟨p,hp,hr⟩:=bsm hr
 refine⟨_,_,?_,hr⟩
 unfold vU
 show(qq c C h o (evV (qE st.sl)) (zK st.bx) st.hp k3).bind _=_
 rw[KC,hp]
 simp only[zgh]
 rw[qgq,qy8]
 rfl
theorem qb2{G:GoT}{is:List Nat}{d:Bool}{acc:List (Nat×Fp)}{k:List It}{i:Nat}{o:Oper}{st:St}{q:AV×Hp}(hr:qdx G r ops is d acc k i o st=some q):
 ∃st1,vT ops o st.vw=(st1.vw,JS ops o)/\G (.ops r ops is d (qj9 d i (JS ops o) acc)::k) st1=some q:=by
 unfold qdx at hr
 refine⟨_,?_,hr⟩
 unfold vT St.vw
 congr 2
 funext k
 exact(XX _ _ _ k).symm
theorem zew{G:GoT}{is:List Nat}{d:Bool}{acc:List (Nat×Fp)}{k:List It}{i:Nat}{o:Oper}{st:St}{q:AV×Hp}(ho:ops[i]?=some o) (hr:opF c C G r ops is d acc k (c.H f r i) i o st=some q):
 ∃st1 F,vOp c C f r ops i st.vw=some (st1.vw,F)/\G (.ops r ops is d (qj9 d i F acc)::k) st1=some q:=by
 unfold opF at hr
 unfold vOp
 rw[ho]
 simp only
 split at hr
 ·cases hr
 ·rename_i hg
  rw[hg]
  exact qc3 hr
 ·rename_i g want hg
  rw[hg]
  simp only
  have hs:st.vw.sl g=qE st.sl g:=rfl
  rw[hs]
  split at hr
  ·rename_i hud
   rw[hud]
   obtain⟨st1,h1,h2⟩:=qb2 hr
   exact⟨st1,_,by simp only;rw[h1],h2⟩
  ·rename_i u hsv
   rw[hsv]
   simp only
   obtain⟨t,ht,hr⟩:=bsm hr
   rw[ht]
   simp only[zgh]
   have hu:=Jl ht
   subst hu
   cases want<;>cases t
   ·simp only[cond_false,if_true]at hr⊢
    obtain⟨st1,F,h1,h2⟩:=qc3 hr
    rw[YV _ _ _ hsv]at h1
    exact⟨st1,F,h1,h2⟩
   ·simp only[cond_true]at hr⊢
    obtain⟨st1,h1,h2⟩:=qb2 hr
    rw[YV _ _ _ hsv]at h1
    exact⟨st1,_,by simp[h1],h2⟩
   ·simp only[cond_false]at hr⊢
    obtain⟨st1,h1,h2⟩:=qb2 hr
    rw[YV _ _ _ hsv]at h1
    exact⟨st1,_,by simp[h1],h2⟩
   ·simp only[cond_true,if_true]at hr⊢
    obtain⟨st1,F,h1,h2⟩:=qc3 hr
    rw[YV _ _ _ hsv]at h1
    exact⟨st1,F,h1,h2⟩
  ·cases hr
theorem zae:∀(n:Nat) (is:List Nat) (d:Bool) (acc:List (Nat×Fp)) (k:List It) (st:St) (q:AV×Hp),vJ c C f n (.ops r ops is d acc::k) st=some q->
 ∃n' st' accs,n'<n/\wv c C f r ops is st.vw=some (st'.vw,accs)/\(d=true->JT ops (accs.reverse++acc)=true/\∀o∈qx1 ops (accs.reverse++acc),o=some ())/\vJ c C f n' k st'=some q
 |0,_,_,_,_,_,_,h=>by simp[vJ]at h
 |n+1,[],d,acc,k,st,q,h=>by
  simp only[vJ,jI]at h
  cases ht:(!d||JT ops acc)with
  |false=>rw[ht]at h;cases h
  |true=>
   rw[ht]at h
   obtain⟨h1,h2⟩:=kn h
   exact⟨n,st,[],zh1 n,rfl,fun hd=>by subst hd;exact⟨by simpa using ht,h1⟩,h2⟩
 |n+1,i::is,d,acc,k,st,q,h=>by
  simp only[vJ,jI]at h
  obtain⟨o,ho,h⟩:=bsm h
  obtain⟨st1,F,h1,h2⟩:=zew ho h
  obtain⟨n',st',accs,h3,h4,h5,h6⟩:=zae n is d _ k st1 q h2
  refine⟨n',st',(i,F)::accs,qc,?_,fun hd=>?_,h6⟩
  ·simp only[wv,h1,zgh,h4]
  ·have:=h5 hd
   subst hd
   simpa[qj9]using this
end
def Yu(F:Fp)(v1 v:Vw):Vw:=
 ⟨fun k=>if k∈F.ws then v1.sl k else v.sl k,fun k=>if F.bw=some k then v1.bx k else v.bx k,⟨if F.nw=true then v1.hp.next else v.hp.next,if F.hw=true then v1.hp.get else v.hp.get⟩⟩
structure Like (F : Fp) (v' v : Vw) : Prop where
 s:∀k,k∈F.rs\/k∈F.ws->v'.sl k=v.sl k
 b:∀k,F.br=some k\/F.bw=some k->v'.bx k=v.bx k
 A:F.hr=true\/F.hw=true->v'.hp.get=v.hp.get
 B:F.nw=true->v'.hp.next=v.hp.next
 L:∀q,F.lq=some q->ym q v'.hp.get=ym q v.hp.get
theorem qfs{b:Bool}{hp hp':Hp}(h:b=true->hp'.get=hp.get):qjj b hp'=qjj b hp:=by
 cases b with
 |false=>rfl
 |true=>exact h rfl
theorem ze4{h:Nat}{o:Oper}{tn:TypeId->Option TI}{ev ev':Operand->SV}(h1:∀x∈o.op.operands.toList,ev x=ev' x):qfb h o tn ev=qfb h o tn ev':=by
 obtain⟨dst,op,type,pos,after,guard⟩:=o
 cases op<;>simp only[Op.operands]at h1<;>simp only[qfb]
 case load t x=>rw[h1 x qf]
theorem qht{a b:Vw}(h1:∀k,a.sl k=b.sl k)(h2:∀k,a.bx k=b.bx k)(h3:a.hp.next=b.hp.next)(h4:a.hp.get=b.hp.get):a=b:=by
 obtain⟨s,x,p⟩:=a
 obtain⟨s',x',p'⟩:=b
 have e1:s=s':=funext h1
 have e2:x=x':=funext h2
 have e3:p=p':=wO h3 h4
 subst e1;subst e2;subst e3;rfl
section
variable {c:Cx}{C:Orc}{f:FuncId}{r:Nat}{ops:Array Oper}
theorem qop{h:Nat}{o:Oper}{σ σ':Nat->SV}{k:Nat}(hk:σ' k=σ k):dnV h o σ' k=dnV h o σ k:=by
 unfold dnV
 split
 ·rename_i t i hop
  by_cases h1:h=1
  ·rw[if_pos h1,if_pos h1,hk]
  rw[if_neg h1,if_neg h1]
  by_cases e:k=t
  ·subst e;rw[if_pos rfl,if_pos rfl,hk]
  ·rw[if_neg e,if_neg e,hk]
 ·rw[hk]
theorem qzd{h:Nat}{o:Oper}{σ:Nat->SV}{k:Nat}(hk:k∉qN h o):dnV h o σ k=σ k:=by
 unfold dnV
 split
 ·rename_i t i hop
  by_cases h1:h=1
  ·rw[if_pos h1]
  rw[if_neg h1]
  have:k≠t:=by
   rintro rfl
   apply hk
   simp only[qN,hop,if_neg h1,zF,zhn]
  rw[if_neg this]
 ·rw[if_neg hk]
theorem qn7{o:Oper}{t:Nat}(h:Operand.tmp t∈o.op.operands.toList):t∈o.looksAt ops:=
 List.mem_append_left _ (List.mem_filterMap.2 ⟨.tmp t,h,rfl⟩)
theorem VT{h:Nat}{o:Oper}{v v' v1:Vw}{F:Fp}(hr:vU c C ops h o v=some (v1,F))(hl:Like F v' v):vU c C ops h o v'=some (Yu F v1 v',F):=by
 unfold vU at hr⊢
 obtain⟨q,hq,hr⟩:=bsm hr
 have hF:fpV c.tn h ops o (evV v.sl) v.hp q.2.2=F:=(Prod.mk.inj (zgy hr)).2
 have hv1:(⟨Qt (dnV h o v.sl) o.dst q.1,qb5 v.bx q.2.1,q.2.2⟩:Vw)=v1:=(Prod.mk.inj (zgy hr)).1
 subst hv1
 subst hF
 have hev:∀x∈o.op.operands.toList,evV v'.sl x=evV v.sl x:=by
  intro x hx
  cases x with
  |tmp t=>exact hl.s t (.inl (qn7 hx))
  |_=>rfl
 have ha:=zdn (h:=h) hev
 obtain⟨l1,l2,l3,l4⟩:=qov (gb':=v'.bx) (hp':=v'.hp) hq (fun k hk=>hl.b k hk) (fun hk=>hl.A hk) (fun hk=>hl.B hk) (fun q hk=>hl.L q hk)
 rw[qvh hev,l1]
 simp only[zgh]
 have hfp:∀g:Hp,((zg h o (evV v.sl)).2.1=true->g.get=q.2.2.get)->fpV c.tn h ops o (evV v'.sl) v'.hp g=fpV c.tn h ops o (evV v.sl) v.hp q.2.2:=by
  intro g hg
  unfold fpV
  rw[ha.1,ha.2,ze4 (h:=h) (tn:=c.tn) hev,qfs (b:=(zg h o (evV v.sl)).2.1) (hp':=v'.hp) (hp:=v.hp) (fun hw=>hl.A (.inr hw)),qfs (b:=(zg h o (evV v.sl)).2.1) hg]
 rw[hfp _ (fun hw=>by simp only[hw,if_true])]
 congr 2
 refine qht (fun k=>?_) (fun k=>?_) rfl rfl
 ·show Qt (dnV h o v'.sl) o.dst q.1 k=if k∈o.dst.toList++qN h o then Qt (dnV h o v.sl) o.dst q.1 k else v'.sl k
  by_cases hk:k∈o.dst.toList++qN h o
  ·rw[if_pos hk]
   unfold Qt
   rw[qop (hl.s k (.inr hk))]
  ·rw[if_neg hk]
   unfold Qt
   have h1:¬o.dst=some k:=fun e=>hk (by simp[e])
   have h2:k∉qN h o:=fun e=>hk (by simp[e])
   rw[if_neg h1,qzd h2]
 ·show qb5 v'.bx q.2.1 k=if(jL h o (evV v.sl)).2=some k then qb5 v.bx q.2.1 k else v'.bx k
  by_cases hk:(jL h o (evV v.sl)).2=some k
  ·rw[if_pos hk]
   have:=hl.b k (.inr hk)
   unfold qb5
   rw[this]
  ·rw[if_neg hk]
   unfold qb5
   split
   ·rename_i j g cs e
    have:j≠k:=by
     rintro rfl
     exact hk (l4 _ _ _ e)
    rw[if_neg this]
   ·rfl
theorem VS{o:Oper}{v v' v1:Vw}{F:Fp}(hr:vT ops o v=(v1,F))(hl:Like F v' v):vT ops o v'=(Yu F v1 v',F):=by
 unfold vT at hr⊢
 cases hr
 congr 1
 refine qht (fun k=>?_) (fun k=>?_) (by simp[Yu,JS]) (by simp[Yu,JS])
 ·show Qt v'.sl o.dst .ud k=if k∈o.dst.toList then Qt v.sl o.dst .ud k else v'.sl k
  unfold Qt
  by_cases hk:o.dst=some k
  ·have:k∈o.dst.toList:=by simp[hk]
   rw[if_pos hk,if_pos this,if_pos hk]
  ·have:¬k∈o.dst.toList:=by simpa using hk
   rw[if_neg hk,if_neg this]
 ·show v'.bx k=if(none:Option Nat)=some k then v.bx k else v'.bx k
  rw[if_neg qf]
theorem VI{o:Oper}{g:Nat}{want:Bool}(h:yP o ops=some (some (g,want))):g∈o.looksAt ops:=by
 unfold yP at h
 split at h
 ·cases h
 ·rename_i j want' hg
  split at h
  ·rename_i oj hj
   split at h
   ·rename_i d hd
    cases h
    refine List.mem_append_right _ ?_
    rw[hg]
    simp[hj,hd]
   ·cases h
  ·cases h
theorem qbv{i:Nat}{v v' v1:Vw}{F:Fp}(hr:vOp c C f r ops i v=some (v1,F))(hl:Like F v' v):vOp c C f r ops i v'=some (Yu F v1 v',F):=by
 unfold vOp at hr⊢
 cases ho:ops[i]? with
 |none=>rw[ho]at hr;cases hr
 |some o=>
  rw[ho]at hr
  simp only at hr⊢
  cases hg:yP o ops with
  |none=>rw[hg]at hr;cases hr
  |some gw=>
   rw[hg]at hr
   cases gw with
   |none=>exact VT hr hl
   |some q=>
    obtain⟨g,want⟩:=q
    simp only at hr⊢
    have hlook:=VI hg
    have hsl:v'.sl g=v.sl g:=by
     refine hl.s g (.inl ?_)
     cases hvg:v.sl g with
     |ud=>rw[hvg]at hr;simp only at hr;cases hr;exact hlook
     |sv u=>
      rw[hvg]at hr
      simp only at hr
      obtain⟨t,ht,hr⟩:=bsm hr
      split at hr
      ·unfold vU at hr
       obtain⟨q,hq,hr⟩:=bsm hr
       cases hr;exact hlook
      ·cases hr;exact hlook
     |_=>rw[hvg]at hr;cases hr
    rw[hsl]
    cases hvg:v.sl g with
    |ud=>
     rw[hvg]at hr
     simp only at hr⊢
     exact congrArg some (VS (zgy hr) hl)
    |sv u=>
     rw[hvg]at hr
     simp only at hr⊢
     obtain⟨t,ht,hr⟩:=bsm hr
     rw[ht]
     simp only[zgh]
     split at hr
     ·rename_i e;rw[if_pos e];exact VT hr hl
     ·rename_i e;rw[if_neg e];exact congrArg some (VS (zgy hr) hl)
    |_=>rw[hvg]at hr;cases hr
theorem Like.refl(F:Fp)(v:Vw):Like F v v:=⟨fun _ _=>rfl,fun _ _=>rfl,fun _=>rfl,fun _=>rfl,fun _ _=>rfl⟩
theorem qz1{i:Nat}{v v1:Vw}{F:Fp}(hr:vOp c C f r ops i v=some (v1,F))(hw:F.hw=true):F.gb=v.hp.get/\F.ga=v1.hp.get:=by
 have ex:∀{h:Nat} {o:Oper},vU c C ops h o v=some (v1,F)->F.gb=v.hp.get/\F.ga=v1.hp.get:=by
  intro h o hr
  unfold vU at hr
  obtain⟨q,hq,hr⟩:=bsm hr
  cases hr
  have hw:(zg h o (evV v.sl)).2.1=true:=hw
  simp only[fpV,hw,qjj,and_self]
 have sk:∀{o:Oper},some (vT ops o v)=some (v1,F)->F.gb=v.hp.get/\F.ga=v1.hp.get:=by
  intro o hr
  cases hr
  cases hw
 unfold vOp at hr
 split at hr
 ·cases hr
 ·split at hr
  ·cases hr
  ·exact ex hr
  ·split at hr
   ·exact sk hr
   ·obtain⟨t,ht,hr⟩:=bsm hr
    split at hr
    ·exact ex hr
    ·exact sk hr
   ·cases hr
theorem qdq{i:Nat}{v v1:Vw}{F:Fp}(hr:vOp c C f r ops i v=some (v1,F)):v1=Yu F v1 v:=by
 have:=qbv hr (Like.refl F v)
 rw[hr]at this
 exact(Prod.mk.inj (zgy this)).1
theorem wG{a b:List Nat}(h:WG a b=false){k:Nat}(ha:k∈a):k∉b:=by
 intro hb
 have:WG a b=true:=by
  unfold WG
  rw[List.any_eq_true]
  exact⟨k,ha,by simpa using hb⟩
 rw[this]at h;cases h
structure Apart (a b : Fp) : Prop where
 wr:∀k,k∈a.ws->k∉b.rs
 ww:∀k,k∈a.ws->k∉b.ws
 rw_:∀k,k∈a.rs->k∉b.ws
 bww:∀k,a.bw=some k->b.bw≠some k
 bwr:∀k,a.bw=some k->b.br≠some k
 brw:∀k,a.br=some k->b.bw≠some k
 hwx:a.hw=true->b.hr=false/\b.hw=false
 hrw:a.hr=true->b.hw=false
 nn:a.nw=true->b.nw=false
 qa:∀q,a.lq=some q->b.hw=true->ym q b.gb=ym q b.ga
 qb:∀q,b.lq=some q->a.hw=true->ym q a.gb=ym q a.ga
theorem qvw{a b:Fp}(h:ql9 a b=false)(qa:∀q,a.lq=some q->b.hw=true->ym q b.gb=ym q b.ga)(qb:∀q,b.lq=some q->a.hw=true->ym q a.gb=ym q a.ga):Apart a b:=by
 unfold ql9 at h
 simp only[Bool.or_eq_false_iff]at h
 obtain⟨⟨⟨⟨⟨⟨⟨⟨h1,h2⟩,h3⟩,h4⟩,h5⟩,h6⟩,h7⟩,h8⟩,h9⟩:=h
 refine⟨fun k hk=>wG h1 hk,fun k hk=>wG h2 hk,fun k hk=>wG h3 hk,fun k e e'=>?_,fun k e e'=>?_,fun k e e'=>?_,fun e=>?_,fun e=>?_,fun e=>?_,qa,qb⟩
 ·rw[e,e']at h4;simp at h4
 ·rw[e,e']at h5;simp at h5
 ·rw[e,e']at h6;simp at h6
 ·rw[e]at h7;simpa using h7
 ·rw[e]at h8;simpa using h8
 ·rw[e]at h9;simpa using h9
theorem qq9{x y:Nat}{v v1 v2:Vw}{Fx Fy:Fp}(hx:vOp c C f r ops x v=some (v1,Fx))(hy:vOp c C f r ops y v1=some (v2,Fy))(ha:Apart Fx Fy):
 ∃v1',vOp c C f r ops y v=some (v1',Fy)/\vOp c C f r ops x v1'=some (v2,Fx):=by
 have kx:=qdq hx
 have ky:=qdq hy
 have xs:∀k,k∉Fx.ws->v1.sl k=v.sl k:=fun k hk=>by rw[kx];simp[Yu,hk]
 have xb:∀k,Fx.bw≠some k->v1.bx k=v.bx k:=fun k hk=>by rw[kx];simp[Yu,hk]
 have xA:Fx.hw=false->v1.hp.get=v.hp.get:=fun h=>by rw[kx];simp[Yu,h]
 have xB:Fx.nw=false->v1.hp.next=v.hp.next:=fun h=>by rw[kx];simp[Yu,h]
 have hy':=qbv hy (v':=v) {
  s:=fun k hk=>(xs k (hk.elim (fun h e=>ha.wr k e h) (fun h e=>ha.ww k e h))).symm
  b:=fun k hk=>(xb k (hk.elim (fun h e=>ha.bwr k e h) (fun h e=>ha.bww k e h))).symm
  A:=fun hk=>(xA (by
   cases hw:Fx.hw with
   |false=>rfl
   |true=>have:=ha.hwx hw;rcases hk with h|h<;>simp[this]at h)).symm
  B:=fun hk=>(xB (by
   cases hw:Fx.nw with
   |false=>rfl
   |true=>have:=ha.nn hw;rw[this]at hk;cases hk)).symm
  L:=fun q hq=>by
   cases hw:Fx.hw with
   |false=>rw[xA hw]
   |true=>
    obtain⟨g1,g2⟩:=qz1 hx hw
    rw[<-g1,<-g2]
    exact ha.qb q hq hw}
 refine⟨_,hy',?_⟩
 have hx':=qbv hx (v':=Yu Fy v2 v) {
  s:=fun k hk=>by
   have:k∉Fy.ws:=hk.elim (fun h=>ha.rw_ k h) (fun h=>ha.ww k h)
   simp[Yu,this]
  b:=fun k hk=>by
   have:Fy.bw≠some k:=hk.elim (fun h=>ha.brw k h) (fun h=>ha.bww k h)
   simp[Yu,this]
  A:=fun hk=>by
   have:Fy.hw=false:=hk.elim (fun h=>ha.hrw h) (fun h=>(ha.hwx h).2)
   simp[Yu,this]
  B:=fun hk=>by
   have:Fy.nw=false:=ha.nn hk
   simp[Yu,this]
  L:=fun q hq=>by
   cases hw:Fy.hw with
   |false=>simp[Yu,hw]
   |true=>
    obtain⟨g1,g2⟩:=qz1 hy hw
    have hxw:Fx.hw=false:=by
     cases h:Fx.hw with
     |false=>rfl
     |true=>have:=(ha.hwx h).2;rw[hw]at this;cases this
    have e:(Yu Fy v2 v).hp.get=v2.hp.get:=by simp[Yu,hw]
    rw[e,<-g2,<-xA hxw,<-g1]
    exact(ha.qa q hq hw).symm}
 rw[hx']
 congr 2
 refine qht (fun k=>?_) (fun k=>?_) ?_ ?_
 ·show(if k∈Fx.ws then v1.sl k else if k∈Fy.ws then v2.sl k else v.sl k)=v2.sl k
  by_cases h1:k∈Fx.ws
  ·rw[if_pos h1,ky]
   simp[Yu,ha.ww k h1]
  ·rw[if_neg h1]
   by_cases h2:k∈Fy.ws
   ·rw[if_pos h2]
   ·rw[if_neg h2,ky]
    simp[Yu,h2,xs k h1]
 ·show(if Fx.bw=some k then v1.bx k else if Fy.bw=some k then v2.bx k else v.bx k)=v2.bx k
  by_cases h1:Fx.bw=some k
  ·rw[if_pos h1,ky]
   simp[Yu,ha.bww k h1]
  ·rw[if_neg h1]
   by_cases h2:Fy.bw=some k
   ·rw[if_pos h2]
   ·rw[if_neg h2,ky]
    simp[Yu,h2,xb k h1]
 ·show(if Fx.nw=true then v1.hp.next else if Fy.nw=true then v2.hp.next else v.hp.next)=v2.hp.next
  by_cases h1:Fx.nw=true
  ·rw[if_pos h1,ky]
   simp[Yu,ha.nn h1]
  ·rw[if_neg h1]
   by_cases h2:Fy.nw=true
   ·rw[if_pos h2]
   ·rw[if_neg h2,ky]
    simp[Yu,h2,xB (by simpa using h1)]
 ·show(if Fx.hw=true then v1.hp.get else if Fy.hw=true then v2.hp.get else v.hp.get)=v2.hp.get
  by_cases h1:Fx.hw=true
  ·rw[if_pos h1,ky]
   simp[Yu,(ha.hwx h1).2]
  ·rw[if_neg h1]
   by_cases h2:Fy.hw=true
   ·rw[if_pos h2]
   ·rw[if_neg h2,ky]
    simp[Yu,h2,xA (by simpa using h1)]
theorem Xs{y:Nat}:∀(L1 L2:List Nat) (v v2:Vw) (accs:List (Nat×Fp)),wv c C f r ops (L1++y::L2) v=some (v2,accs)->
 (∀x Fx Fy,(x,Fx)∈accs.take L1.length->(y,Fy)∈accs->Apart Fx Fy)->
 ∃v1 F acc1 acc2,vOp c C f r ops y v=some (v1,F)/\wv c C f r ops (L1++L2) v1=some (v2,acc1++acc2)/\accs=acc1++(y,F)::acc2/\acc1.length=L1.length
 |[],L2,v,v2,accs,h,_=>by
  simp only[zg2,wv]at h
  obtain⟨p,hp,h⟩:=bsm h
  obtain⟨q,hq,h⟩:=bsm h
  cases h
  exact⟨p.1,p.2,[],q.2,hp,hq,rfl,rfl⟩
 |x::L1,L2,v,v2,accs,h,ha=>by
  simp only[zib,wv]at h
  obtain⟨⟨v1,Fx⟩,hx,h⟩:=bsm h
  obtain⟨⟨v2',acc'⟩,hrest,h⟩:=bsm h
  cases h
  obtain⟨w1,F,acc1,acc2,h1,h2,h3,h4⟩:=Xs L1 L2 v1 v2' acc' hrest (fun x' Fx' Fy' hx' hy'=>ha x' Fx' Fy' (by simp;exact .inr hx') (by simp[hy']))
  obtain⟨u,hu1,hu2⟩:=qq9 hx h1 (ha x Fx F qf (by rw[h3];simp))
  refine⟨u,F,(x,Fx)::acc1,acc2,hu1,?_,by rw[h3];rfl,by simp[h4]⟩
  simp only[zib,wv,hu2,zgh,h2]
end
def VL(o:Oper):List Nat:=(o.after.toList.filter fun e=>Region.binds .any e).map (·.on)
def qmg(all:List Oper)(t:List (List Nat)):Prop:=
 ∀j x,x∈t.getD j []->∃o,all[j]?=some o/\(x∈VL o\/∃d∈VL o,x∈t.getD d [])
theorem kc{α:Type}(t:List α)(e d:α)(j:Nat)(h:j<t.length):(t++[e]).getD j d=t.getD j d:=by
 simp[List.getD,zg0 h]
theorem Kx{α:Type}(t:List (List α))(j:Nat)(x:α)(h:x∈t.getD j []):j<t.length:=by
 rcases zi3 j t.length with h'|h'
 ·exact h'
 ·simp[List.getD,zhg h']at h
theorem Ve(all:List Oper):∀(L done:List Oper) (t:List (List Nat)),all=done++L->t.length=done.length->qmg all t->qmg all (jl L t)
 |[],done,t,_,_,h=>h
 |o::L,done,t,he,hl,h=>by
  simp only[jl]
  refine Ve all L (done++[o]) _ (by rw[he];simp) (by simp[hl]) ?_
  intro j x hx
  by_cases hj:j<t.length
  ·rw[kc _ _ _ _ hj]at hx
   obtain⟨o',h1,h2⟩:=h j x hx
   refine⟨o',h1,h2.imp id ?_⟩
   rintro⟨d,hd,hxd⟩
   exact⟨d,hd,by rw[kc _ _ _ _ (Kx _ _ _ hxd)];exact hxd⟩
  ·have hj':j=t.length:=by
    have:=Kx _ _ _ hx
    simp at this
    omega
   subst hj'
   have hx':x∈((VL o)++(VL o).flatMap fun j=>t.getD j []):=by
    have e:∀E:List Nat,(t++[E]).getD t.length []=E:=fun E=>by simp[List.getD]
    rw[e]at hx
    exact List.mem_eraseDups.mp hx
   refine⟨o,by rw[he,hl];simp,?_⟩
   rw[zg1,List.mem_flatMap]at hx'
   refine hx'.imp id ?_
   rintro⟨d,hd,hxd⟩
   exact⟨d,hd,by rw[kc _ _ _ _ (Kx _ _ _ hxd)];exact hxd⟩
theorem ZR{o:Oper}{d:Nat}:d∈VL o↔∃e∈o.after,Region.binds .any e=true/\e.on=d:=by
 unfold VL
 rw[zg6]
 constructor
 ·rintro⟨e,he,rfl⟩
  obtain⟨h1,h2⟩:=List.mem_filter.mp he
  exact⟨e,by simpa using h1,h2,rfl⟩
 ·rintro⟨e,h1,h2,rfl⟩
  exact⟨e,List.mem_filter.mpr ⟨by simpa using h1,h2⟩,rfl⟩
theorem kg{ops:Array Oper}(h:KD ops=true){i d:Nat}{o:Oper}(ho:ops[i]?=some o) (hd:d∈VL o):d<i:=by
 have hi:i<ops.size:=(zh4.mp ho).1
 have:=zg9.mp h i (zjv.mpr hi)
 rw[ho]at this
 obtain⟨e,h1,h2,rfl⟩:=ZR.mp hd
 have:=zg9.mp this e (by simpa using h1)
 simpa[h2]using this
theorem qj6{ops:Array Oper}(hdeps:KD ops=true)(S:Nat->Prop)(hcl:∀j o d,S j->ops[j]?=some o->d∈VL o->S d):
 ∀(n j:Nat),j<=n->(∀o d,ops[j]?=some o->d∈VL o->S d)->∀x,x∈(jl ops.toList []).getD j []->S x:=by
 have hA:qmg ops.toList (jl ops.toList []):=Ve ops.toList ops.toList [] [] rfl rfl (by intro j x hx;simp[List.getD]at hx)
 intro n
 induction n with
 |zero=>
  intro j hj hdir x hx
  obtain⟨o,ho,hx⟩:=hA j x hx
  have ho':ops[j]?=some o:=by simpa using ho
  rcases hx with hx|⟨d,hd,hx⟩
  ·exact hdir o x ho' hx
  ·have:=kg hdeps ho' hd;omega
 |succ n ih=>
  intro j hj hdir x hx
  obtain⟨o,ho,hx⟩:=hA j x hx
  have ho':ops[j]?=some o:=by simpa using ho
  rcases hx with hx|⟨d,hd,hx⟩
  ·exact hdir o x ho' hx
  ·have hlt:=kg hdeps ho' hd
   exact ih d qc (fun o' d' h1 h2=>hcl d o' d' (hdir o d ho' hd) h1 h2) x hx
theorem zdm{ops:Array Oper}(hdeps:KD ops=true):∀{j x:Nat},x∈(jl ops.toList []).getD j []->x<j:=by
 have hA:qmg ops.toList (jl ops.toList []):=Ve ops.toList ops.toList [] [] rfl rfl (by intro j x hx;simp[List.getD]at hx)
 have key:∀n j,j<=n->∀x,x∈(jl ops.toList []).getD j []->x<j:=by
  intro n
  induction n with
  |zero=>
   intro j hj x hx
   obtain⟨o,ho,hx⟩:=hA j x hx
   have ho':ops[j]?=some o:=by simpa using ho
   rcases hx with hx|⟨d,hd,hx⟩
   ·exact kg hdeps ho' hx
   ·have:=kg hdeps ho' hd;omega
  |succ n ih=>
   intro j hj x hx
   obtain⟨o,ho,hx⟩:=hA j x hx
   have ho':ops[j]?=some o:=by simpa using ho
   rcases hx with hx|⟨d,hd,hx⟩
   ·exact kg hdeps ho' hx
   ·have h1:=kg hdeps ho' hd
    have h2:=ih d qc x hx
    omega
 intro j x hx
 exact key j j (zgm j) x hx
def qpa(G:Gh)(w:World)(v:Vw)(tmps:Array Value):Prop:=∃st:St,st.vw=v/\Inv G w st tmps
def Vt(G:Gh)(w:World)(a:Act)(v:Vw)(a':Act)(w':World):Prop:=
 ∃G',qpa G' w' v a'.tmps/\Fr G w G' w'/\a'.tmps.size=a.tmps.size/\a'.defers=a.defers
section
variable {c:Cx}{R:Orc}{f:FuncId}{r:Nat}{ops:Array Oper}{G:Gh}{w:World}{a:Act}{Q:Exit->Act->World->Prop}
abbrev wY(c:Cx)(R:Orc):Prop:=∀f xs hp r,R f xs hp=some r->∃fn b,c.F f=some fn/\fn.body=some b
theorem qdr(hc:Ok c)(hR:kV c R)(hS:wY c R){h:Nat}{o:Oper}{v v1:Vw}{F:Fp}(hr:vU c R ops h o v=some (v1,F))(hI:qpa G w v a.tmps)(hd:jJ o a){K:Act->World->Prop}
 (hK:∀a' w',Vt G w a v1 a' w'->K a' w'):o.wp c.P a w K Q:=by
 obtain⟨st,rfl,hI⟩:=hI
 unfold vU at hr
 obtain⟨q,hq,hr⟩:=bsm hr
 have hv1:(⟨Qt (dnV h o st.vw.sl) o.dst q.1,qb5 st.vw.bx q.2.1,q.2.2⟩:Vw)=v1:=(Prod.mk.inj (zgy hr)).1
 have hq':qq c R h o (zy st.sl) (zK st.bx) st.hp k3=some q:=by rw[<-KC];exact hq
 refine Oper.wp_mono (fun a' w' ha=>?_) (qzm (Q:=Q) hc hR hS hI hd h hq')
 obtain⟨G',h1,h2,h3,h4⟩:=ha
 exact hK a' w' ⟨G',⟨_,by rw[qgq];exact hv1,h1⟩,h2,h3,h4⟩
theorem qdo{o:Oper}{v:Vw}(hI:qpa G w v a.tmps)(hd:jJ o a):Vt G w a (vT ops o v).1 (a.put o.dst undef) w:=by
 obtain⟨st,rfl,hI⟩:=hI
 refine⟨G,⟨⟨vD st.sl o.dst .ud,st.bx,st.hp⟩,?_,?_⟩,Fr.refl G w,zb _ _ _,qI _ _ _⟩
 ·unfold St.vw vT
  congr 1
  funext k
  exact XX _ _ _ k
 ·exact hI.put o.dst hd (fun k _=>rfl) (fun k g off e=>by cases e)
theorem qbt{o:Oper}{g:Nat}{want:Bool}(hg:yP o ops=some (some (g,want)))(tmps:Array Value):
 Region.wanted o (yielded ops tmps)=((match tmps[g]? with|some (.bool b)=>some b|_=>none)==some want):=by
 unfold yP at hg
 split at hg
 ·cases hg
 ·rename_i j want' hgo
  split at hg
  ·rename_i oj hj
   split at hg
   ·rename_i d hd
    cases hg
    simp only[Region.wanted,hgo,yielded,hj,hd,zgh]<;>rfl
   ·cases hg
  ·cases hg
theorem qdm{o:Oper}(hg:yP o ops=some none)(y:Nat->Option Bool):Region.wanted o y=true:=by
 unfold yP at hg
 split at hg
 ·rename_i h;simp only[Region.wanted,h]
 ·split at hg
  ·split at hg<;>cases hg
  ·cases hg
theorem qra(hc:Ok c)(hR:kV c R)(hS:wY c R){i:Nat}{v v1:Vw}{F:Fp}(hr:vOp c R f r ops i v=some (v1,F))(hI:qpa G w v a.tmps)(hd:∀o∈ops,jJ o a){K:Act->World->Prop}
 (hK:∀a' w',Vt G w a v1 a' w'->K a' w'):wpOp c.P ops Q i K a w:=by
 unfold vOp at hr
 unfold wpOp
 cases ho:ops[i]? with
 |none=>rw[ho]at hr;cases hr
 |some o=>
  rw[ho]at hr
  simp only at hr⊢
  have hdo:jJ o a:=hd o (Array.mem_of_getElem? ho)
  cases hg:yP o ops with
  |none=>rw[hg]at hr;cases hr
  |some gw=>
   rw[hg]at hr
   cases gw with
   |none=>
    rw[qdm hg]
    simp only[if_true]
    exact .inl (qdr hc hR hS hr hI hdo hK)
   |some q=>
    obtain⟨g,want⟩:=q
    rw[qbt hg]
    simp only at hr
    have hslot:qL G w g (v.sl g) (a.tmps.getD g undef):=by
     obtain⟨st,rfl,hI⟩:=hI
     exact hI.slots g
    cases hvg:v.sl g with
    |ud=>
     rw[hvg]at hr hslot
     simp only at hr
     have hv1:(vT ops o v).1=v1:=by rw[zgy hr]
     have hund:a.tmps.getD g undef=undef:=hslot
     have hy:(match a.tmps[g]? with|some (.bool b)=>some b|_=>none:Option Bool)=none:=by
      cases ht:a.tmps[g]? with
      |none=>rfl
      |some z=>
       have:z=undef:=by simpa[ht]using hund
       subst this;rfl
     rw[hy]
     simp only[show((none:Option Bool)==some want)=false by rfl,zhm,if_false]
     exact hK _ _ (hv1▸qdo hI hdo)
    |sv u=>
     rw[hvg]at hr hslot
     simp only at hr
     obtain⟨t,ht,hr'⟩:=bsm hr
     have hu:=Jl ht
     subst hu
     have hval:a.tmps.getD g undef= .bool t:=hslot.1
     have hy:(match a.tmps[g]? with|some (.bool b)=>some b|_=>none:Option Bool)=some t:=by
      cases hz:a.tmps[g]? with
      |none=>simp[hz,undef]at hval
      |some z=>
       have:z= .bool t:=by simpa[hz]using hval
       subst this;rfl
     rw[hy]
     by_cases e:t=want
     ·subst e
      rw[if_pos rfl]at hr'
      simp only[beq_self_eq_true,if_true]
      exact .inl (qdr hc hR hS hr' hI hdo hK)
     ·rw[if_neg e]at hr'
      have hv1:(vT ops o v).1=v1:=by rw[zgy hr']
      have hne:((some t:Option Bool)==some want)=false:=by simpa using e
      rw[hne]
      simp only[zhm,if_false]
      exact hK _ _ (hv1▸qdo hI hdo)
    |_=>rw[hvg]at hr;cases hr
theorem Vt.trans{v':Vw}{a' a'':Act}{w' w'':World}{G':Gh}(hf:Fr G w G' w')(hs:a'.tmps.size=a.tmps.size)(hdf:a'.defers=a.defers)(h:Vt G' w' a' v' a'' w''):Vt G w a v' a'' w'':=by
 obtain⟨G'',h1,h2,h3,h4⟩:=h
 exact⟨G'',h1,hf.trans h2,h3.trans hs,h4.trans hdf⟩
theorem qtd(hc:Ok c)(hR:kV c R)(hS:wY c R):∀(is:List Nat) (G:Gh) (w:World) (a:Act) (v v2:Vw) (accs:List (Nat×Fp)),wv c R f r ops is v=some (v2,accs)->qpa G w v a.tmps->(∀o∈ops,jJ o a)->
 (∀a' w',Vt G w a v2 a' w'->Q .normal a' w')->wpOps c.P ops Q is a w
 |[],G,w,a,v,v2,accs,h,hI,hd,hK=>by
  simp only[wv]at h
  cases h
  exact hK a w ⟨G,hI,Fr.refl G w,rfl,rfl⟩
 |i::is,G,w,a,v,v2,accs,h,hI,hd,hK=>by
  simp only[wv]at h
  obtain⟨p,hp,h⟩:=bsm h
  obtain⟨q,hq,h⟩:=bsm h
  cases h
  rw[wpOps_cons]
  refine qra hc hR hS hp hI hd fun a' w' ha=>?_
  obtain⟨G',h1,h2,h3,h4⟩:=ha
  exact qtd hc hR hS is G' w' a' p.1 q.1 q.2 hq h1 (fun o ho k hk=>by rw[h3];exact hd o ho k hk) fun a'' w'' h=>hK a'' w'' (Vt.trans h2 h3 h4 h)
theorem qdp:∀(is:List Nat) (v v2:Vw) (accs:List (Nat×Fp)),wv c R f r ops is v=some (v2,accs)->accs.map (·.1)=is
 |[],v,v2,accs,h=>by simp only[wv]at h;cases h;rfl
 |i::is,v,v2,accs,h=>by
  simp only[wv]at h
  obtain⟨p,hp,h⟩:=bsm h
  obtain⟨q,hq,h⟩:=bsm h
  cases h
  simp[qdp is p.1 q.1 q.2 hq]
theorem qvx(hc:Ok c)(hR:kV c R)(hS:wY c R)(hdeps:KD ops=true):∀(fuel:Nat) (L:List Nat) (listed:Array Bool) (G:Gh) (w:World) (a:Act) (v v2:Vw) (accs:List (Nat×Fp)),L.length=fuel->
 (∀i,i∈L↔listed.getD i true=false)->(∀i∈L,i<ops.size)->listed.size=ops.size->L.Pairwise (·<·)->
 (∀j o d,listed.getD j false=true->ops[j]?=some o->d∈VL o->listed.getD d false=true)->
 wv c R f r ops L v=some (v2,accs)->(∀x Fx y Fy,(x,Fx)∈accs->(y,Fy)∈accs->x<y->x∈(jl ops.toList []).getD y []\/Apart Fx Fy)->
 qpa G w v a.tmps->(∀o∈ops,jJ o a)->(∀a' w',Vt G w a v2 a' w'->Q .normal a' w')->wpAny c.P .any ops Q fuel listed a w
 |0,L,listed,G,w,a,v,v2,accs,hlen,hL,hlt,hsz,hsort,hcl,hrun,hap,hI,hd,hK=>by
  have hnil:L=[]:=zhk.mp hlen
  subst hnil
  simp only[wv]at hrun
  cases hrun
  refine⟨?_,hK a w ⟨G,hI,Fr.refl G w,rfl,rfl⟩⟩
  apply List.eq_nil_iff_forall_not_mem.mpr
  intro j hj
  have:=(mem_ready.mp hj).1
  rw[<-hL]at this
  simp at this
 |fuel+1,L,listed,G,w,a,v,v2,accs,hlen,hL,hlt,hsz,hsort,hcl,hrun,hap,hI,hd,hK=>by
  have hlist:∀i,i<ops.size->i∉L->listed.getD i false=true:=by
   intro i hi hn
   rw[hL]at hn
   have hi':i<listed.size:=by rw[hsz];exact hi
   simp[Array.getD,hi']at hn⊢
   exact hn
  have hunl:∀i,i∈L->¬listed.getD i false=true:=by
   intro i hi hn
   rw[hL]at hi
   have hi':i<listed.size:=by
    rcases zi3 i listed.size with h|h
    ·exact h
    ·have:¬i<listed.size:=qc
     simp[Array.getD,this]at hi
   simp[Array.getD,hi']at hi hn
   rw[hi]at hn;cases hn
  refine⟨fun hnone=>?_,fun i hi=>?_⟩
  ·exfalso
   match L,hlen,hL,hlt,hsort,hlist with
   |i0::rest,hlen,hL,hlt,hsort,hlist=>
    have hi0:=hlt i0 qf
    have:i0∈Region.ready .any ops listed:=by
     rw[mem_ready]
     refine⟨(hL i0).mp qf,ops[i0],zjs hi0,fun e he hb=>?_⟩
     have hlt':=kg hdeps (zjs hi0) (ZR.mpr ⟨e,he,hb,rfl⟩)
     refine hlist e.on qc fun hm=>?_
     rcases zgn.mp hm with h|h
     ·omega
     ·have:=(zgr.mp hsort).1 _ h;omega
    rw[hnone]at this
    simp at this
  ·obtain⟨hi1,o,ho,hi2⟩:=mem_ready.mp hi
   have hiL:i∈L:=(hL i).mpr hi1
   obtain⟨L1,L2,rfl⟩:=List.append_of_mem hiL
   have hfst:=qdp _ _ _ _ hrun
   have hx1:∀x Fx,(x,Fx)∈accs.take L1.length->x∈L1/\(x,Fx)∈accs:=by
    intro x Fx hx
    have hm:x∈(accs.take L1.length).map (·.1):=zg6.mpr ⟨_,hx,rfl⟩
    rw[zjn,hfst,List.take_left']at hm
    ·exact⟨hm,zhl hx⟩
    ·rfl
   have hpw:=zh2.mp hsort
   obtain⟨v1,F,acc1,acc2,r1,r2,r3,r4⟩:=Xs L1 L2 v v2 accs hrun (fun x Fx Fy hx hy=>by
    obtain⟨hxL,hxa⟩:=hx1 x Fx hx
    have hlt':x<i:=hpw.2.2 x hxL i qf
    refine(hap x Fx i Fy hxa hy hlt').resolve_left fun hanc=>?_
    have:=qj6 hdeps (fun j=>listed.getD j false=true) hcl i i (zgm i) (fun o' d ho' hdd=>by
     rw[ho]at ho';cases ho'
     obtain⟨e,he,hb,rfl⟩:=ZR.mp hdd
     exact hi2 e he hb) x hanc
    exact hunl x (by simp[hxL]) this)
   have hiLt:i<listed.size:=by rw[hsz];exact hlt i qf
   refine qra hc hR hS r1 hI hd fun a' w' ha=>?_
   obtain⟨G',h1,h2,h3,h4⟩:=ha
   have hsort':(L1++L2).Pairwise (·<·):=by
    refine zh2.mpr ⟨hpw.1,(zgr.mp hpw.2.1).2,fun x hx y hy=>hpw.2.2 x hx y (by simp[hy])⟩
   have hni:i∉L1++L2:=by
    intro hm
    rcases zg1.mp hm with h|h
    ·have:=hpw.2.2 i h i qf;omega
    ·have:=(zgr.mp hpw.2.1).1 i h;omega
   refine qvx hc hR hS hdeps fuel (L1++L2) (listed.setIfInBounds i true) G' w' a' v1 v2 (acc1++acc2) (by simp at hlen⊢;omega) (fun j=>?_) (fun j hj=>hlt j ?_) (by simp[hsz]) hsort' ?_ r2 ?_ h1
    (fun o ho k hk=>by rw[h3];exact hd o ho k hk) (fun a'' w'' h=>hK a'' w'' (Vt.trans h2 h3 h4 h))
   ·by_cases e:i=j
    ·subst e
     constructor
     ·intro h;exact absurd h hni
     ·intro h;simp[Array.getD,hiLt]at h
    ·rw[getD_set_ne true e,<-hL j]
     simp only[zg1,zgn]
     have:¬j=i:=fun h=>e h.symm
     simp[this]
   ·simp only[zg1,zgn]at hj⊢
    rcases hj with h|h
    ·exact .inl h
    ·exact .inr (.inr h)
   ·intro j o' d hj ho' hdd
    by_cases e:i=j
    ·subst e
     rw[ho]at ho';cases ho'
     obtain⟨e,he,hb,rfl⟩:=ZR.mp hdd
     exact getD_set_true (hi2 e he hb)
    ·rw[getD_set_ne false e]at hj
     exact getD_set_true (hcl j o' d hj ho' hdd)
   ·intro x Fx y Fy hx hy hxy
    refine hap x Fx y Fy ?_ ?_ hxy
    ·rw[r3]
     rcases zg1.mp hx with h|h<;>simp[h]
    ·rw[r3]
     rcases zg1.mp hy with h|h<;>simp[h]
end
def vQ(key:Nat×Nat)(own:Nat->Ow):Prop:=(key.1=0/\own=fun i=>.sl key.2 0 i)\/(key.1=1/\∃g off,own=fun i=>.bc key.2 g (off+i))
theorem vQ.inj{k k':Nat×Nat}{own own':Nat->Ow}(h:vQ k own)(h':vQ k' own'){i i':Nat}(e:own i=own' i'):k=k':=by
 obtain⟨a,b⟩:=k
 obtain⟨a',b'⟩:=k'
 rcases h with⟨h1,rfl⟩|⟨h1,g,off,rfl⟩<;>rcases h' with⟨h1',rfl⟩|⟨h1',g',off',rfl⟩<;>simp only at h1 h1' e
 ·injection e with e1 e2 e3;subst h1;subst h1';subst e1;rfl
 ·cases e
 ·cases e
 ·injection e with e1 e2 e3;subst h1;subst h1';subst e1;rfl
theorem vQ.inj1{k:Nat×Nat}{own:Nat->Ow}(h:vQ k own){i i':Nat}(e:own i=own i'):i=i':=by
 rcases h with⟨h1,rfl⟩|⟨h1,g,off,rfl⟩
 ·injection e
 ·injection e with e1 e2 e3;omega
theorem vQ.form{k:Nat×Nat}{own:Nat->Ow}(h:vQ k own)(i:Nat):(∃a b c,own i= .sl a b c)\/∃a b c,own i= .bc a b c:=by
 rcases h with⟨h1,rfl⟩|⟨h1,g,off,rfl⟩
 ·exact .inl ⟨_,_,_,rfl⟩
 ·exact .inr ⟨_,_,_,rfl⟩
open Classical in
noncomputable def VD(owns:List (Nat->Ow))(p:Ow):Ow:=
 if h:∃ji:Nat×Nat,∃own,owns[ji.1]?=some own/\own ji.2=p then .sl 0 h.choose.1 h.choose.2 else .oth
noncomputable def kG(owns:List (Nat->Ow))(p:Ow):Ow:=
 match p with
 | .fr=>.fr
 | .obj b g=>.obj b g
 | .oc b g i=>.oc b g i
 |p=>VD owns p
theorem qcc{owns:List (Nat->Ow)}(p:Ow):(∃j i,VD owns p= .sl 0 j i)\/VD owns p= .oth:=by
 unfold VD
 split
 ·exact .inl ⟨_,_,rfl⟩
 ·exact .inr rfl
theorem qen{owns:List (Nat->Ow)}(a b c:Nat):(∃j i,kG owns (.sl a b c)= .sl 0 j i)\/kG owns (.sl a b c)= .oth:=qcc _
theorem qeo{owns:List (Nat->Ow)}(a b c:Nat):(∃j i,kG owns (.bc a b c)= .sl 0 j i)\/kG owns (.bc a b c)= .oth:=qcc _
theorem Wp{owns:List (Nat->Ow)}(a b:Nat):(∃j i,kG owns (.box a b)= .sl 0 j i)\/kG owns (.box a b)= .oth:=qcc _
theorem qsv{owns:List (Nat->Ow)}(hinj:∀(j j':Nat) (own own':Nat->Ow) (i i':Nat),owns[j]?=some own->owns[j']?=some own'->own i=own' i'->j=j'/\i=i')
 {j:Nat} {own:Nat->Ow} (hj:owns[j]?=some own) (i:Nat):VD owns (own i)= .sl 0 j i:=by
 have hex:∃ji:Nat×Nat,∃own',owns[ji.1]?=some own'/\own' ji.2=own i:=⟨(j,i),own,hj,rfl⟩
 have key:VD owns (own i)= .sl 0 hex.choose.1 hex.choose.2:=by
  unfold VD
  rw[dif_pos hex]
 rw[key]
 obtain⟨own',h1,h2⟩:=hex.choose_spec
 obtain⟨e1,e2⟩:=hinj _ _ _ _ _ _ h1 hj h2
 rw[e1,e2]
theorem qnm{owns:List (Nat->Ow)}(hinj:∀(j j':Nat) (own own':Nat->Ow) (i i':Nat),owns[j]?=some own->owns[j']?=some own'->own i=own' i'->j=j'/\i=i')
 (hform:∀(j:Nat) (own:Nat->Ow),owns[j]?=some own->∀i,(∃a b c,own i= .sl a b c)\/∃a b c,own i= .bc a b c) {j:Nat} {own:Nat->Ow} (hj:owns[j]?=some own) (i:Nat):
 kG owns (own i)= .sl 0 j i:=by
 have e:kG owns (own i)=VD owns (own i):=by
  rcases hform j own hj i with⟨a,b,c,e⟩|⟨a,b,c,e⟩<;>rw[e]<;>rfl
 rw[e,qsv hinj hj]
theorem XW{owns:List (Nat->Ow)}(hoth:∀(j:Nat) (own:Nat->Ow),owns[j]?=some own->∀i,(∃a b c,own i= .sl a b c)\/∃a b c,own i= .bc a b c):VD owns .oth= .oth:=by
 unfold VD
 rw[dif_neg]
 rintro⟨ji,own,h1,h2⟩
 rcases hoth _ own h1 ji.2 with⟨a,b,c,e⟩|⟨a,b,c,e⟩<;>rw[e]at h2<;>cases h2
theorem qnl(owns:List (Nat->Ow))(hoth:∀(j:Nat) (own:Nat->Ow),owns[j]?=some own->∀i,(∃a b c,own i= .sl a b c)\/∃a b c,own i= .bc a b c):Rho (kG owns) where
 fr:=rfl
 oth:=XW hoth
 box p k g h:=by
  cases p with
  |fr=>cases h
  |oth=>rw[show kG owns .oth= .oth from XW hoth]at h;cases h
  |box a b=>rcases Wp (owns:=owns) a b with⟨j,i,e⟩|e<;>rw[e]at h<;>cases h
  |obj a b=>cases h
  |sl a b d=>rcases qen (owns:=owns) a b d with⟨j,i,e⟩|e<;>rw[e]at h<;>cases h
  |bc a b d=>rcases qeo (owns:=owns) a b d with⟨j,i,e⟩|e<;>rw[e]at h<;>cases h
  |oc a b d=>cases h
 obj p k g h:=by
  cases p with
  |fr=>cases h
  |oth=>rw[show kG owns .oth= .oth from XW hoth]at h;cases h
  |box a b=>rcases Wp (owns:=owns) a b with⟨j,i,e⟩|e<;>rw[e]at h<;>cases h
  |obj a b=>exact h
  |sl a b d=>rcases qen (owns:=owns) a b d with⟨j,i,e⟩|e<;>rw[e]at h<;>cases h
  |bc a b d=>rcases qeo (owns:=owns) a b d with⟨j,i,e⟩|e<;>rw[e]at h<;>cases h
  |oc a b d=>cases h
theorem QR{k:Nat×Nat}:∀{l:List (Nat×Nat)},qld k l=true->∀j,j∈l->j≠k
 |[],_,j,hj=>by simp at hj
 |x::l,h,j,hj=>by
  simp only[qld]at h
  split at h
  ·cases h
  ·rename_i hb
   rcases zgn.mp hj with rfl|hj
   ·rintro rfl
    simp[Jj]at hb
   ·exact QR h j hj
theorem QC:∀{l:List (Nat×Nat)},vi l=true->∀(i j:Nat) (k:Nat×Nat),l[i]?=some k->l[j]?=some k->i=j
 |[],_,i,j,k,hi,_=>by simp at hi
 |x::l,h,i,j,k,hi,hj=>by
  simp only[vi]at h
  split at h
  ·rename_i hn
   cases i with
   |zero=>
    cases j with
    |zero=>rfl
    |succ j=>
     simp at hi hj
     subst hi
     exact absurd rfl (QR hn _ (zgo hj))
   |succ i=>
    cases j with
    |zero=>
     simp at hi hj
     subst hj
     exact absurd rfl (QR hn _ (zgo hi))
    |succ j=>
     simp at hi hj
     rw[QC h i j k hi hj]
  ·cases h
section
variable {c:Cx}{G:Gh}{w:World}{st:St}{tmps:Array Value}
theorem JH{R:Type}(st:St)(tt:TypeId->Option TI)(r:ResultVar)(K:AV->Option R):XV st tt r K=(XV st tt r some).bind K:=by
 unfold XV
 repeat' split
 all_goals simp[zgj]
theorem vz{R:Type}(st:St)(tt:TypeId->Option TI):∀(l:List ResultVar) (K:List AV->Option R),vA st tt K l=(vA st tt some l).bind K
 |[],K=>rfl
 |r::l,K=>by
  simp only[vA]
  rw[JH,JH (K:=fun x=>vA st tt (fun xs=>some (x::xs)) l)]
  simp only[zgj]
  congr 1;funext x
  rw[vz st tt l,vz st tt l (fun xs=>some (x::xs))]
  simp[zgj]
def vB(tmps:Array Value):ResultVar->Sem Value
 | .tmp t=>pure (tmps.getD t undef)
 | .cell a t=>do loadVar t (<-asAddr (tmps.getD a undef))
theorem res1(hc:Ok c)(hI:Inv G w st tmps){r:ResultVar}{x:AV}(hr:XV st c.tn r some=some x):
 ∃own v,vQ (QA st r) own/\zj G w own x v/\(vB tmps r).run c.P w= .ok v w:=by
 cases r with
 |tmp t=>exact⟨fun i=>.sl t 0 i,_,.inl ⟨rfl,rfl⟩,xk (hI.slots t) (by simpa[XV]using hr),rfl⟩
 |cell a ty=>
  simp only[XV]at hr
  split at hr
  ·rename_i ti hti
   split at hr
   ·rename_i k g off hs
    split at hr
    ·rename_i g' cs hb
     split at hr
     ·rename_i hg
      subst hg
      have hsl:=hI.slots a
      rw[hs]at hsl
      obtain⟨blk,hla,hv⟩:=hsl
      obtain⟨blk',b1,b2,b3⟩:=hI.boxes k g cs hb
      rw[hla]at b1;cases b1
      obtain⟨arr,e,c1,c2,c3⟩:=b3
      have ht:=hc.tt ty ti (qs hti).1
      have hz:=ht.sizeOf (qs hti).2 w
      have ha:=ht.isAgg (qs hti).2 w
      obtain⟨arrL,harr⟩:∃l,l=arr.toList.take cs.length:=⟨_,rfl⟩
      have hlen:cs.length=arrL.length:=by rw[harr];simp;omega
      have hin:∀(k:Nat) (u:Value),arrL[k]?=some u->arr[k]?=some u:=by
       intro k u hu
       rw[harr,zgt]at hu
       split at hu
       ·simpa using hu
       ·cases hu
      have hkey:QA st (.cell a ty)=(1,k):=by simp[QA,hs]
      split at hr
      ·rename_i hag
       obtain⟨l,hl,hr⟩:=bsm hr
       cases hr
       obtain⟨hle,rfl⟩:=zY hl
       refine⟨fun i=>.bc k g (off+i),.agg ((arrL.drop off).take ti.size).toArray,.inr ⟨by rw[hkey],g,off,by rw[hkey]⟩,⟨(arrL.drop off).take ti.size,rfl,by simp[hlen],fun i y u hy hu=>?_⟩,?_⟩
       ·rw[zgt]at hy hu
        split at hy
        ·rename_i hq
         simp only[hq,if_true]at hu
         rw[zhb]at hy hu
         exact c3 (off+i) y u hy (hin _ _ hu)
        ·cases hy
       ·have hload:=run_loadCells_list (P:=c.P) (w:=w) (⟨blk,off,none⟩:Addr) ((arrL.drop off).take ti.size) (fun j v hj=>by
         rw[qT,qX c1]
         rw[zgt]at hj
         split at hj
         ·rw[zhb]at hj;exact hin _ _ hj
         ·cases hj)
        have hll:((arrL.drop off).take ti.size).length=ti.size:=qh
        rw[hll]at hload
        simp[vB,hv,asAddr,loadVar,ha,hag,hz,hload]
      ·rename_i hag
       have hx:cs[off]?=some x:=by
        obtain⟨y,hy,hr⟩:=bsm hr
        cases hr;exact hy
       obtain⟨u,hu⟩:=qR hlen hx
       have hu':arr[off]?=some u:=hin _ _ hu
       have hrel:=c3 off x u hx hu'
       have hag':yC ti.k=false:=by simpa using hag
       refine⟨fun i=>.bc k g (off+i),u,.inr ⟨by rw[hkey],g,off,by rw[hkey]⟩,jt.v hrel,?_⟩
       have hcell:w.cell? (⟨blk,off,none⟩:Addr)=some u:=by rw[qX c1];exact hu'
       simp[vB,hv,asAddr,loadVar,ha,hag',hcell]
     ·cases hr
    ·cases hr
   ·cases hr
  ·cases hr
theorem ress(hc:Ok c)(hI:Inv G w st tmps):∀{rs:List ResultVar} {xs:List AV},vA st c.tn some rs=some xs->
 ∃(owns:List (Nat->Ow)) (vs:List Value),owns.length=rs.length/\vs.length=rs.length/\xs.length=rs.length/\(rs.mapM (vB tmps)).run c.P w= .ok vs w/\
  (∀(j:Nat) (own:Nat->Ow),owns[j]?=some own->∃r,rs[j]?=some r/\vQ (QA st r) own)/\
  ∀(j:Nat) (x:AV) (v:Value),xs[j]?=some x->vs[j]?=some v->∃own,owns[j]?=some own/\zj G w own x v
 |[],xs,h=>by simp only[vA]at h;cases h;exact⟨[],[],rfl,rfl,rfl,rfl,qf,qf⟩
 |r::rs,xs,h=>by
  simp only[vA]at h
  rw[JH]at h
  obtain⟨x,hx,h⟩:=bsm h
  rw[vz]at h
  obtain⟨xs',hxs,h⟩:=bsm h
  cases h
  obtain⟨own,v,h1,h2,h3⟩:=res1 hc hI hx
  obtain⟨owns,vs,g1,g2,g3,g4,g5,g6⟩:=ress hc hI hxs
  refine⟨own::owns,v::vs,by simp[g1],by simp[g2],by simp[g3],?_,?_,?_⟩
  ·rw[List.mapM_cons]
   simp only[Sem.run_bind,h3,Result.andThen_ok,g4,Sem.run_pure]
  ·intro j own' hj
   cases j with
   |zero=>simp at hj;subst hj;exact⟨r,rfl,h1⟩
   |succ j=>simp at hj;obtain⟨r',a1,a2⟩:=g5 j own' hj;exact⟨r',by simpa using a1,a2⟩
  ·intro j x' v' hx' hv'
   cases j with
   |zero=>simp at hx' hv';subst hx';subst hv';exact⟨own,rfl,h2⟩
   |succ j=>simp at hx' hv';obtain⟨own',a1,a2⟩:=g6 j x' v' hx' hv';exact⟨own',by simpa using a1,a2⟩
theorem qd6{P:Program}{fn:Func}{vs:List Value}(h:(fn.results.toList.mapM (vB tmps)).run P w= .ok vs w):
 (results fn tmps).run P w= .ok (match vs with|[v]=>v|vs=>.tuple vs.toArray) w:=by
 have hm:(fn.results.mapM (vB tmps)).run P w= .ok vs.toArray w:=by
  rw[Array.mapM_eq_mapM_toList,Sem.run_map,h];rfl
 have e:results fn tmps=(do let vs<-fn.results.mapM (vB tmps);pure (if h:vs.size=1 then vs[0]else .tuple vs)):=by
  unfold results
  congr 1
 rw[e,Sem.run_bind,hm]
 simp only[Result.andThen_ok,Sem.run_pure]
 match vs with
 |[]=>rfl
 |[v]=>rfl
 |v::v'::vs=>simp
theorem zcq(hc:Ok c){f:FuncId}{fn:Func}(hF:c.F f=some fn)(hI:Inv G w st tmps){y:AV}{hp:Hp}(hr:fin c f st=some (y,hp)):
 ∃v G',(results fn tmps).run c.P w= .ok v w/\Fr G w G' w/\HpI G' w hp/\qo8 G' w y v:=by
 unfold fin at hr
 rw[hF]at hr
 simp only at hr
 cases hd:vi (fn.results.toList.map (QA st))with
 |false=>rw[hd]at hr;cases hr
 |true=>
  rw[hd]at hr
  simp only[cond_true]at hr
  rw[vz]at hr
  obtain⟨xs,hxs,hr⟩:=bsm hr
  obtain⟨owns,vs,g1,g2,g3,g4,g5,g6⟩:=ress hc hI hxs
  have hform:∀(j:Nat) (own:Nat->Ow),owns[j]?=some own->∀i,(∃a b c,own i= .sl a b c)\/∃a b c,own i= .bc a b c:=by
   intro j own hj i
   obtain⟨r,_,h⟩:=g5 j own hj
   exact h.form i
  have hinj:∀(j j':Nat) (own own':Nat->Ow) (i i':Nat),owns[j]?=some own->owns[j']?=some own'->own i=own' i'->j=j'/\i=i':=by
   intro j j' own own' i i' hj hj' e
   obtain⟨r,hr1,h⟩:=g5 j own hj
   obtain⟨r',hr1',h'⟩:=g5 j' own' hj'
   have hk:=h.inj h' e
   have e1:(fn.results.toList.map (QA st))[j]?=some (QA st r):=by rw[zgx,hr1];rfl
   have e2:(fn.results.toList.map (QA st))[j']?=some (QA st r):=by rw[zgx,hr1',hk];rfl
   have ej:=QC hd j j' _ e1 e2
   subst ej
   rw[hj]at hj';cases hj'
   exact⟨rfl,h.inj1 e⟩
  have hrho:=qnl owns hform
  have hfr:Fr G w (G.rel (kG owns)) w:=Fr.rel hrho
  have hrel:∀(j:Nat) (x:AV) (v:Value),xs[j]?=some x->vs[j]?=some v->zj (G.rel (kG owns)) w (.sl 0 j ·) x v:=by
   intro j x v hx hv
   obtain⟨own,ho,hr⟩:=g6 j x v hx hv
   refine zj.ev hfr.ev (p:=own) (fun i b hb=>⟨rfl,rfl,?_⟩) hr
   simp only[Gh.rel,hb]
   exact qnm hinj hform ho i
  refine⟨_,G.rel (kG owns),qd6 g4,hfr,?_,?_⟩
  ·have:hp=st.hp:=by
    split at hr<;>cases hr<;>rfl
   subst this
   exact hI.hpI.rel hrho (fun _ _=>rfl) (fun _ _ _=>rfl)
  ·match xs,vs,hr,g2,g3,hrel with
   |[x],[v],hr,_,_,hrel=>
    cases hr
    have:=hrel 0 _ _ rfl rfl
    unfold qo8
    split
    ·exact this.elim
    ·exact this
   |[],[],hr,_,_,hrel=>cases hr;exact⟨[],rfl,rfl,qf⟩
   |x::x'::xs,v::v'::vs,hr,g2,g3,hrel=>cases hr;exact⟨_,rfl,by simp at g2 g3⊢;omega,hrel⟩
   |[],v::vs,hr,g2,g3,_=>simp at g2 g3;omega
   |[x],[],hr,g2,g3,_=>simp at g2 g3;omega
   |[x],v::v'::vs,hr,g2,g3,_=>simp at g2 g3;omega
   |x::x'::xs,[],hr,g2,g3,_=>simp at g2 g3;omega
   |x::x'::xs,[v],hr,g2,g3,_=>simp at g2 g3;omega
end
def Zf(N:Nat):Code->Bool
 | .region _ ops _=>ops.toList.all fun o=>match o.dst with|some d=>Nat.blt d N|none=>true
 | .seq a b=>Zf N a&&Zf N b
 | .cond _ a b=>Zf N a&&Zf N b
 | .block _ b=>Zf N b
 | .loop b=>Zf N b
 | .scope b=>Zf N b
 |_=>true
def qkb(N:Nat):It->Prop
 | .code c=>Zf N c=true
 | .inBlock _=>True
 | .inLoop b=>Zf N b=true
 | .inScope _=>True
 | .ops _ _ _ _ _=>False
def xd:It->Item
 | .code c=>.code c
 | .inBlock i=>.inBlock i
 | .inLoop b=>.inLoop b
 | .inScope b=>.inScope b
 | .ops _ ops is _ _=>.inRegion ops is
theorem xS{N:Nat}{id:Nat}:∀{k k':List It},Wt id k=some k'->(∀it∈k,qkb N it)->exitTo id (k.map xd)=some (k'.map xd)/\∀it∈k',qkb N it
 |[],k',h,_=>by simp[Wt]at h
 | .inBlock j::k,k',h,hk=>by
  simp only[Wt]at h
  by_cases e:j=id
  ·rw[if_pos e]at h;cases h
   subst e
   exact⟨by simp[exitTo,xd],fun it hi=>hk it (by simp[hi])⟩
  ·rw[if_neg e]at h
   obtain⟨h1,h2⟩:=xS h fun it hi=>hk it (by simp[hi])
   have hne:(j==id)=false:=by simpa using e
   exact⟨by simp only[zhc,xd,exitTo,hne];exact h1,h2⟩
 | .code c::k,k',h,hk=>by
  obtain⟨h1,h2⟩:=xS (k:=k) h fun it hi=>hk it (by simp[hi])
  exact⟨h1,h2⟩
 | .inLoop b::k,k',h,hk=>by
  obtain⟨h1,h2⟩:=xS (k:=k) h fun it hi=>hk it (by simp[hi])
  exact⟨h1,h2⟩
 | .inScope b::k,k',h,hk=>by
  obtain⟨h1,h2⟩:=xS (k:=k) h fun it hi=>hk it (by simp[hi])
  exact⟨h1,h2⟩
 | .ops r ops is d acc::k,k',h,hk=>(show False from hk (.ops r ops is d acc) qf).elim
section
variable {c:Cx}{R:Orc}{G:Gh}{w:World}
theorem Inv.mask{st:St}{t:Array Value}(hI:Inv G w st t)(m:Option (List Nat)):Inv G w (AI.mask m st) t:=by
 cases m with
 |none=>exact hI
 |some live=>
  have hb:∀k g cs,zK (yV st.bx live) k=some (g,cs)->zK st.bx k=some (g,cs):=by
   intro k g cs h
   rw[Za]at h
   split at h
   ·exact h
   ·cases h
  exact{
   slots:=fun k=>by
    show qL G w k (qE (wI (yV st.bx live) st.sl live) k) _
    rw[vr]
    split
    ·have h:=hI.slots k
     cases hs:qE st.sl k with
     |lp j g off=>
      simp only[Kg]
      split
      ·rw[hs]at h;exact h
      ·trivial
     |_=>rw[hs]at h;exact h
    ·trivial
   boxes:=fun k g cs h=>hI.boxes k g cs (hb k g cs h)
   heap:=hI.heap
   next:=hI.next
   hlt:=hI.hlt
   new:=hI.new
   vars:=hI.vars
   lps:=fun j k g off h=>by
    have h':qE (wI (yV st.bx live) st.sl live) j= .lp k g off:=h
    show∃g' cs,zK (yV st.bx live) k=some (g',cs)/\g<=g'
    rw[vr]at h'
    split at h'
    ·cases hs:qE st.sl j with
     |lp j' g' off'=>
      rw[hs]at h'
      simp only[Kg]at h'
      split at h'
      ·rename_i q hq
       cases h'
       obtain⟨g',cs,h1,h2⟩:=hI.lps j k g off hs
       rw[hq]
       have:=hb k q.1 q.2 hq
       rw[h1]at this
       cases this
       exact⟨_,_,rfl,h2⟩
      ·cases h'
     |_=>rw[hs]at h';cases h'
    ·cases h'}
theorem Inv.world{w':World}{st:St}{t:Array Value}(hI:Inv G w st t)(hw:w'.heap=w.heap):Inv G w' st t:=by
 have he:Ev G w G w':=⟨fun b i _=>by simp[World.cell?,hw],fun _=>zgm _,fun _ _ _ h=>h,fun b z h=>(Zj (w:=w) (w':=w') (by rw[hw])).trans h⟩
 have hk:∀p,zq G w G w' p p:=fun p b hb=>⟨by rw[hw],rfl,hb⟩
 exact{
  slots:=fun k=>qL.ev he (fun j i=>hk _) (fun _ _ _ _ _ h=>h) (hI.slots k)
  boxes:=fun k g cs h=>by
   obtain⟨blk,h1,h2,h3⟩:=hI.boxes k g cs h
   exact⟨blk,h1,h2,h3.ev he (by rw[hw]) fun i=>hk _⟩
  heap:=fun k g cs h=>by
   obtain⟨blk,h1,h2,h3⟩:=hI.heap k g cs h
   exact⟨blk,h1,h2,h3.ev he (by rw[hw]) fun i=>hk _⟩
  next:=hI.next
  hlt:=hI.hlt
  new:=fun b hb=>hI.new b (by rw[hw]at hb;exact hb)
  vars:=hI.vars
  lps:=hI.lps}
theorem Fr.world{w':World}(hw:w'.heap=w.heap)(hr:Zm w w'):Fr G w G w':=
 ⟨by rw[hw];exact zgm _,fun b i _=>by simp[World.cell?,hw],fun _=>zgm _,fun _ _ _ h=>h,fun b _ _=>⟨by rw[hw],rfl,rfl⟩,hr,fun b z h=>(Zj (w:=w) (w':=w') (by rw[hw])).trans h⟩
theorem zav{st st':St}{t:Array Value}(hv:st.vw=st'.vw)(hI:Inv G w st t):Inv G w st' t:=by
 have h1:qE st'.sl=qE st.sl:=(congrArg Vw.sl hv).symm
 have h2:zK st'.bx=zK st.bx:=(congrArg Vw.bx hv).symm
 have h3:st'.hp=st.hp:=(congrArg Vw.hp hv).symm
 exact{
  slots:=by rw[h1];exact hI.slots
  boxes:=by rw[h2];exact hI.boxes
  heap:=by rw[h3];exact hI.heap
  next:=by rw[h3];exact hI.next
  hlt:=by rw[h3];exact hI.hlt
  new:=hI.new
  vars:=hI.vars
  lps:=by rw[h1,h2];exact hI.lps}
theorem qno(hc:Ok c)(hR:kV c R)(hS:wY c R){f:FuncId}{r:Nat}{ops:Array Oper}{d:Bool}{st st':St}{accs:List (Nat×Fp)}{a:Act}(hI:Inv G w st a.tmps)
 (hd:∀o∈ops,jJ o a) (hrun:wv c R f r ops (List.range ops.size) st.vw=some (st'.vw,accs)) (hok:d=true->JT ops accs.reverse=true/\∀o∈qx1 ops accs.reverse,o=some ()):
 (Code.region r ops d).wp c.P (fun e a' w'=>e= .normal/\∃G',Inv G' w' st' a'.tmps/\Fr G w G' w'/\a'.tmps.size=a.tmps.size/\a'.defers=a.defers) a w:=by
 have conv:∀{w0:World} (_:Fr G w G w0) (a':Act) (w':World),Vt G w0 a st'.vw a' w'->∃G',Inv G' w' st' a'.tmps/\Fr G w G' w'/\a'.tmps.size=a.tmps.size/\a'.defers=a.defers:=by
  rintro w0 hf a' w' ⟨G',⟨s,hs,hI'⟩,h2,h3,h4⟩
  exact⟨G',zav hs hI',hf.trans h2,h3,h4⟩
 cases d with
 |false=>
  exact wp_region (qtd hc hR hS _ G w a _ _ _ hrun ⟨st,rfl,hI⟩ hd fun a' w' h=>⟨rfl,conv (Fr.refl G w) a' w' h⟩)
 |true=>
  obtain⟨hdr,hpe⟩:=hok rfl
  unfold JT at hdr
  have hdeps:KD ops=true:=by
   cases h:KD ops with
   |true=>rfl
   |false=>rw[h]at hdr;cases hdr
  have hpairs:∀p∈accs.reverse,∀q∈accs.reverse,(!(decide (p.1<q.1))||((jl ops.toList []).getD q.1 []).contains p.1||!(ql9 p.2 q.2))=true:=by
   intro p hp q hq
   rw[hdeps,zjo]at hdr
   exact zg9.mp (zg9.mp hdr p hp) q hq
  have hw:({w with drawn:=w.drawn+1}:World).heap=w.heap:=rfl
  refine wp_region_any hc.mixed (qvx hc hR hS hdeps ops.size (List.range ops.size) (Array.replicate ops.size false) G {w with drawn:=w.drawn+1} a st.vw st'.vw accs qf (fun i=>?_) (fun i hi=>zjv.mp hi) qf
   List.pairwise_lt_range (fun j o d hj _ _=>?_) hrun (fun x Fx y Fy hx hy hxy=>?_) ⟨st,rfl,hI.world hw⟩ hd fun a' w' h=>⟨rfl,conv (Fr.world hw ⟨rfl,rfl,rfl⟩) a' w' h⟩)
  ·rw[zjv]
   by_cases h:i<ops.size<;>simp[Array.getD,h]
  ·exfalso
   by_cases h:j<ops.size<;>simp[Array.getD,h]at hj
  ·have:=hpairs (x,Fx) (by simpa using hx) (y,Fy) (by simpa using hy)
   simp only[hxy,decide_true,Bool.not_true,Bool.false_or,Bool.or_eq_true]at this
   rcases this with h|h
   ·exact .inl (by simpa using h)
   ·by_cases hanc:x∈(jl ops.toList []).getD y []
    ·exact .inl hanc
    ·have no:∀j,j∈(jl ops.toList []).getD x []->j<x:=fun j hj=>zdm hdeps hj
     have hord:qch (jl ops.toList []) x y=false:=by
      unfold qch
      have h2:y∉(jl ops.toList []).getD x []:=fun hm=>by have:=no y hm;omega
      rw[Bool.or_eq_false_iff,List.contains_eq_mem,List.contains_eq_mem]
      exact⟨decide_eq_false hanc,decide_eq_false h2⟩
     have hord':qch (jl ops.toList []) y x=false:=by
      unfold qch at hord⊢
      rw[Bool.or_comm];exact hord
     refine .inr (qvw (by simpa using h) (fun q hq hw=>?_) (fun q hq hw=>?_))
     ·have:=Wu hpe (p:=(x,Fx)) (q:=(y,Fy)) (by simpa using hx) (by simpa using hy) hq hw
      rw[hord]at this
      exact this.resolve_left qf
     ·have:=Wu hpe (p:=(y,Fy)) (q:=(x,Fx)) (by simpa using hy) (by simpa using hx) hq hw
      rw[hord']at this
      exact this.resolve_left qf
theorem zcx{N:Nat}{r:Nat}{ops:Array Oper}{d:Bool}(h:Zf N (.region r ops d)=true){a:Act}(hN:N<=a.tmps.size):∀o∈ops,jJ o a:=by
 intro o ho k hk
 simp only[Zf]at h
 have:=zg9.mp h o (by simpa using ho)
 rw[hk]at this
 have hlt:k<N:=by simpa[Nat.blt_eq]using this
 exact zg5 hlt hN
def vR(P:Program)(f:FuncId)(G:Gh)(w:World)(y:AV)(hp:Hp)(m:Machine)(cs:List Frame):Prop:=
 ∃v G' w' fr,Steps P m (lone fr cs w')/\fr.fn=f/\fr.leaving P w' (.returned v)/\Fr G w G' w'/\HpI G' w' hp/\qo8 G' w' y v
theorem vR.of{P:Program}{f:FuncId}{G G1:Gh}{w w1:World}{y:AV}{hp:Hp}{m m1:Machine}{cs:List Frame}(hs:Steps P m m1)(hf:Fr G w G1 w1)(h:vR P f G1 w1 y hp m1 cs):vR P f G w y hp m cs:=by
 obtain⟨v,G',w',fr,h1,h2,h3,h4,h5,h6⟩:=h
 exact⟨v,G',w',fr,hs.trans h1,h2,h3,hf.trans h4,h5,h6⟩
theorem ze8(hc:Ok c)(hR:kV c R)(hS:wY c R){f:FuncId}{fn:Func}(hF:c.F f=some fn){N:Nat}:∀(n:Nat) (its:List It) (st:St) (y:AV) (hp:Hp),vJ c R f n its st=some (y,hp)->(∀it∈its,qkb N it)->
 ∀(G:Gh) (w:World) (a:Act),Inv G w st a.tmps->N<=a.tmps.size->a.defers=[]->∀(b:Frame) (cs:List Frame),b.fn=f->b.kind= .normal->vR c.P f G w y hp (lone (b.at a (its.map xd)) cs w) cs:=by
 intro n
 induction n using Nat.strongRecOn with
 |_ n ih=>
 intro its st y hp hgo hits G w a hI hN hdef b cs hb hk
 cases n with
 |zero=>simp[vJ]at hgo
 |succ n=>
 have hP:=hc.F f fn hF
 have ends:∀(todo:List Item),fin c f st=some (y,hp)->Steps c.P (lone (b.at a (its.map xd)) cs w) (lone {b.at a todo with mode:=.returning} cs w)->vR c.P f G w y hp (lone (b.at a (its.map xd)) cs w) cs:=by
  intro todo hfin hs
  obtain⟨v,G',h1,h2,h3,h4⟩:=zcq hc hF hI hfin
  exact⟨v,G',w,_,hs,hb,⟨rfl,hdef,hk,fn,by rw[<-hP];exact congrArg _ hb,h1⟩,h2,h3,h4⟩
 have on:∀(its':List It),vJ c R f n its' st=some (y,hp)->(∀it∈its',qkb N it)->step c.P (lone (b.at a (its.map xd)) cs w)= .next (lone (b.at a (its'.map xd)) cs w)->vR c.P f G w y hp (lone (b.at a (its.map xd)) cs w) cs:=by
  intro its' hgo' hits' hs
  exact vR.of (.one hs) (Fr.refl G w) (ih n (zh1 n) its' st y hp hgo' hits' G w a hI hN hdef b cs hb hk)
 simp only[vJ]at hgo
 match its,hgo,hits,ends,on with
 |[],hgo,hits,ends,on=>exact ends _ hgo (.one step_end)
 | .inBlock id::k,hgo,hits,ends,on=>exact on _ hgo (fun it hi=>hits it (by simp[hi])) step_inBlock
 | .inScope body::k,hgo,hits,ends,on=>exact on _ hgo (fun it hi=>hits it (by simp[hi])) step_inScope
 | .inLoop body::k,hgo,hits,ends,on=>
  exact on (.code body::.inLoop body::k) hgo (fun it hi=>by
   simp only[zgn]at hi
   rcases hi with rfl|rfl|hi
   ·exact hits (.inLoop body) qf
   ·exact hits (.inLoop body) qf
   ·exact hits it (by simp[hi])) step_inLoop
 | .code .skip::k,hgo,hits,ends,on=>exact on _ hgo (fun it hi=>hits it (by simp[hi])) step_skip
 | .code (.label l)::k,hgo,hits,ends,on=>exact on _ hgo (fun it hi=>hits it (by simp[hi])) step_label
 | .code .ret::k,hgo,hits,ends,on=>exact ends _ hgo (.one step_ret)
 | .code (.seq x z)::k,hgo,hits,ends,on=>
  have h:=hits (.code (.seq x z)) qf
  simp only[qkb,Zf,zh9]at h
  exact on (.code x::.code z::k) hgo (fun it hi=>by
   simp only[zgn]at hi
   rcases hi with rfl|rfl|hi
   ·exact h.1
   ·exact h.2
   ·exact hits it (by simp[hi])) step_seq
 | .code (.block id x)::k,hgo,hits,ends,on=>
  exact on (.code x::.inBlock id::k) hgo (fun it hi=>by
   simp only[zgn]at hi
   rcases hi with rfl|rfl|hi
   ·exact hits (.code (.block id x)) qf
   ·trivial
   ·exact hits it (by simp[hi])) step_block
 | .code (.loop x)::k,hgo,hits,ends,on=>
  have hgo:vJ c R f n (.inLoop x::k) st=some (y,hp):=hgo
  cases n with
  |zero=>simp[vJ]at hgo
  |succ n=>
   simp only[vJ,jI]at hgo
   have hits':∀it∈ .code x::.inLoop x::k,qkb N it:=fun it hi=>by
    simp only[zgn]at hi
    rcases hi with rfl|rfl|hi
    ·exact hits (.code (.loop x)) qf
    ·exact hits (.code (.loop x)) qf
    ·exact hits it (by simp[hi])
   exact vR.of (.one step_loop) (Fr.refl G w) (ih n qc _ st y hp hgo hits' G w a hI hN hdef b cs hb hk)
 | .code (.exit id)::k,hgo,hits,ends,on=>
  simp only[jI]at hgo
  obtain⟨k',hk',hgo⟩:=bsm hgo
  obtain⟨h1,h2⟩:=xS (N:=N) hk' (fun it hi=>hits it (by simp[hi]))
  exact on _ hgo h2 (step_exit h1)
 | .code (.cond x p q)::k,hgo,hits,ends,on=>
  simp only[jI]at hgo
  obtain⟨u,hu,hgo⟩:=bsm hgo
  obtain⟨t,ht,hgo⟩:=bsm hgo
  have hx:=(yd hI (jH hu)).1
  rw[Jl ht]at hx
  have h:=hits (.code (.cond x p q)) qf
  simp only[qkb,Zf,zh9]at h
  have hs:=step_cond (P:=c.P) (b:=b) (k:=k.map xd) (cs:=cs) (w:=w) (x:=p) (y:=q) hx
  cases t with
  |true=>
   exact on (.code p::k) hgo (fun it hi=>by
    simp only[zgn]at hi
    rcases hi with rfl|hi
    ·exact h.1
    ·exact hits it (by simp[hi])) hs
  |false=>
   exact on (.code q::k) hgo (fun it hi=>by
    simp only[zgn]at hi
    rcases hi with rfl|hi
    ·exact h.2
    ·exact hits it (by simp[hi])) hs
 | .code (.region r ops d)::k,hgo,hits,ends,on=>
  simp only[jI]at hgo
  obtain⟨n',st',accs,h1,h2,h3,h4⟩:=zae n _ d [] k _ _ hgo
  have hdst:=zcx (hits (.code (.region r ops d)) qf) hN
  have hwp:=qno hc hR hS (d:=d) (hI.mask (c.M f r)) hdst h2 (fun e=>by simpa using h3 e)
  obtain⟨e,a',w',⟨he,G',i1,i2,i3,i4⟩,harr⟩:=hwp b (k.map xd) cs
  subst he
  exact vR.of harr i2 (ih n' qc k st' y hp h4 (fun it hi=>hits it (by simp[hi])) G' w' a' i1 (by rw[i3];exact hN) (by rw[i4];exact hdef) b cs hb hk)
 | .ops r ops is d acc::k,hgo,hits,ends,on=>exact(show False from hits (.ops r ops is d acc) qf).elim
 | .code (.rangeFunc _ _ _ _)::k,hgo,hits,ends,on=>simp[jI]at hgo
 | .code (.scope x)::k,hgo,hits,ends,on=>
  exact on (.code x::.inScope x::k) hgo (fun it hi=>by
   simp only[zgn]at hi
   rcases hi with rfl|rfl|hi
   ·exact hits (.code (.scope x)) qf
   ·trivial
   ·exact hits it (by simp[hi])) step_scope
 | .code (.goto _)::k,hgo,hits,ends,on=>simp[jI]at hgo
 | .code (.refuse _)::k,hgo,hits,ends,on=>simp[jI]at hgo
theorem Xf(hc:Ok c):∀(i:Nat) (ts:List TypeId) (xs:List AV) (l:Slots),yY c i ts xs some=some l->
 ∀k,qE l k= .un\/∃x,xs[k-i]?=some x/\i<=k/\(qE l k= .av x\/∃v,x= .sc v/\qE l k= .sv v)
 |i,[],[],l,h,k=>by simp only[yY]at h;cases h;exact .inl rfl
 |i,[],x::xs,l,h,k=>by
  simp only[yY]at h
  rw[zO]at h
  obtain⟨l',h1,h2⟩:=bsm h
  cases h2
  rw[za]
  by_cases e:i=k
  ·subst e;rw[if_pos rfl];exact .inr ⟨x,qf,zgm _,.inl rfl⟩
  ·rw[if_neg e]
   rcases Xf hc (i+1) [] xs l' h1 k with h|⟨x',h,h',h''⟩
   ·exact .inl h
   ·refine .inr ⟨x',?_,qc,h''⟩
    rw[show k-i=(k-(i+1))+1 by omega];simpa using h
 |i,t::ts,[],l,h,k=>by simp[yY]at h
 |i,t::ts,x::xs,l,h,k=>by
  simp only[yY]at h
  have rest:∀(l':Slots) (s:SV),yY c (i+1) ts xs some=some l'->(s= .av x\/∃v,x= .sc v/\s= .sv v)->l=(i,s)::l'->
   qE l k= .un\/∃x',(x::xs)[k-i]?=some x'/\i<=k/\(qE l k= .av x'\/∃v,x'= .sc v/\qE l k= .sv v):=by
   rintro l' s h1 hs rfl
   rw[za]
   by_cases e:i=k
   ·subst e;rw[if_pos rfl];exact .inr ⟨x,qf,zgm _,hs⟩
   ·rw[if_neg e]
    rcases Xf hc (i+1) ts xs l' h1 k with h|⟨x',h,h',h''⟩
    ·exact .inl h
    ·refine .inr ⟨x',?_,qc,h''⟩
     rw[show k-i=(k-(i+1))+1 by omega];simpa using h
  split at h
  ·split at h
   ·obtain⟨v,hv,h⟩:=bsm h
    rw[zO]at h
    obtain⟨l',h1,h2⟩:=bsm h
    cases h2
    exact rest l' _ h1 (.inr ⟨v,yK hv,rfl⟩) rfl
   ·rw[zO]at h
    obtain⟨l',h1,h2⟩:=bsm h
    cases h2
    exact rest l' _ h1 (.inl rfl) rfl
  ·cases h
def Vh(c:Cx):Prop:=∀f fn b,c.F f=some fn->fn.body=some b->Zf fn.ntmps b=true
theorem qrj(hc:Ok c)(hD:Vh c)(hR:kV c R)(hS:wY c R){f:FuncId}{xs:List AV}{hp hp':Hp}{y:AV}{n:Nat}(hr:yj c f xs hp (vJ c R f n)=some (y,hp'))(G:Gh)(w:World)(vs:List Value)(hH:HpI G w hp)(hlen:xs.length=vs.length)
 (hargs:∀(i:Nat) (x:AV) (v:Value),xs[i]?=some x->vs[i]?=some v->YS G w x v):Calls c.P f vs.toArray w (qv0 G w y hp'):=by
 unfold yj at hr
 cases hF:c.F f with
 |none=>rw[hF]at hr;cases hr
 |some fn=>
  rw[hF]at hr
  simp only at hr
  cases hb:fn.body with
  |none=>rw[hb]at hr;cases hr
  |some body=>
   rw[hb]at hr
   simp only at hr
   rw[zO]at hr
   obtain⟨l,hl,hr⟩:=bsm hr
   let a:Act:={tmps:=vs.toArray++Array.replicate (fn.ntmps-vs.toArray.size) undef,defers:=[]}
   have hget:∀k v,vs[k]?=some v->a.tmps.getD k undef=v:=by
    intro k v hk
    have hlt:k<vs.length:=(zgq.mp hk).1
    simp only[a,Array.getD_eq_getD_getElem?]
    rw[zhy (by simpa using hlt),zjg,hk];rfl
   have hI:Inv G w ⟨l,[],hp⟩ a.tmps:={
    slots:=fun k=>by
     show qL G w k (qE l k) _
     rcases Xf hc 0 _ _ _ hl k with h|⟨x,h1,h2,h3⟩
     ·rw[h];trivial
     ·rw[Nat.sub_zero]at h1
      obtain⟨v,hv⟩:=qR hlen h1
      have hrel:=hargs k x v h1 hv
      rw[hget k v hv]
      rcases h3 with h3|⟨u,rfl,h3⟩
      ·rw[h3];exact hrel _
      ·rw[h3]
       have hr':RelR G w (.sc u) v:=hrel (fun _=>.fr)
       cases hr' with
       |sc _ h1=>exact⟨rfl,h1⟩
    boxes:=fun k g cs h=>by simp[zK]at h
    heap:=hH.heap
    next:=hH.next
    hlt:=hH.hlt
    new:=hH.new
    vars:=hH.vars
    lps:=fun j k g off h=>by
     have h':qE l j= .lp k g off:=h
     rcases Xf hc 0 _ _ _ hl j with e|⟨x,h1,h2,e|⟨v,_,e⟩⟩<;>rw[e]at h'<;>cases h'}
   intro cs
   let b:Frame:={(default:Frame)with fn:=f,kind:=.normal}
   have hP:=hc.F f fn hF
   have henter:Frame.enter c.P f vs.toArray .normal=b.at a [.code body]:=by
    simp[Frame.enter,Frame.at,hP,hb,b,a]
   have:=ze8 hc hR hS hF (N:=fn.ntmps) n [.code body] ⟨l,[],hp⟩ y hp' hr (fun it hi=>by
    simp only[zhn]at hi
    subst hi
    exact hD f fn body hF hb) G w a hI (by simp[a];omega) rfl b cs rfl rfl
   obtain⟨v,G',w',fr,h1,h2,h3,h4,h5,h6⟩:=this
   refine⟨.returned v,w',fr,⟨v,G',rfl,h4,h5,h6⟩,?_,h2,h3⟩
   rw[henter]
   exact h1
theorem qne:∀n,wY c (jy c n)
 |0,f,xs,hp,r,h=>by simp[jy]at h
 |n+1,f,xs,hp,r,h=>by
  simp only[jy,yj]at h
  cases hF:c.F f with
  |none=>rw[hF]at h;cases h
  |some fn=>
   rw[hF]at h
   simp only at h
   cases hb:fn.body with
   |none=>rw[hb]at h;cases h
   |some b=>exact⟨fn,b,rfl,hb⟩
theorem XL(hc:Ok c)(hD:Vh c):∀n,kV c (jy c n)
 |0=>fun f xs hp y hp' h=>by simp[jy]at h
 |n+1=>fun f xs hp y hp' h G w vs hH hl ha=>qrj hc hD (XL hc hD n) (qne n) h G w vs hH hl ha
theorem qmt(hc:Ok c)(hD:Vh c){f:FuncId}{xs:List AV}{hp hp':Hp}{y:AV}(h:run c f xs hp=some (y,hp')){G:Gh}{w:World}{vs:List Value}(hH:HpI G w hp)(hl:xs.length=vs.length)
 (ha:∀(i:Nat) (x:AV) (v:Value),xs[i]?=some x->vs[i]?=some v->YS G w x v):Calls c.P f vs.toArray w (qv0 G w y hp'):=by
 obtain⟨n,hn⟩:=xO.mp h
 exact XL hc hD n f xs hp y hp' hn G w vs hH hl ha
end
inductive Tr (α : Type) where
 |leaf
 |node (k:Nat) (v:α) (l r:Tr α)
def Tr.get{α:Type}:Tr α->Nat->Option α
 | .leaf,_=>none
 | .node k v l r,x=>match Nat.beq x k with
  |true=>some v
  |false=>match Nat.blt x k with
   |true=>l.get x
   |false=>r.get x
def tkD:TypeDesc->TK
 | .struct fs=>.st (fs.toList.map fun f=>(f.offset,f.type))
 | .slice e=>.sl e
 | .array n e=>.ar n e
 | .map k e=>.mp k e
 | .tuple _=>.tu
 | .bool=>.sc
 | .int _=>.sc
 | .float _=>.sc
 | .complex _=>.sc
 | .string=>.sc
 |_=>.ot
def que:Value->Bool
 | .agg _=>true
 |_=>false
def zD:TypeDesc->List Value->Bool
 | .int k,[.int k' _]=>decide (k=k')
 | .bool,[.bool _]=>true
 | .string,[.string _]=>true
 | .pointer _,[.pointer none]=>true
 |_,[.int _ _]=>false
 |_,[.bool _]=>false
 |_,[.string _]=>false
 |_,[.pointer none]=>false
 |_,_=>true
def qud:TypeDesc->Bool
 | .struct _=>true
 | .array _ _=>true
 |_=>false
def tupN:TypeDesc->Nat
 | .tuple l=>l.size
 |_=>0
def Xu(P:Program)(t:TypeId):Option TI:=
 match P.info? t,P.underlying t with
 |some i,some d=>match Qu (tkD d)with
  |true=>some ⟨.tu,tupN d,i.bytes,[]⟩
  |false=>match i.zero with
   |some z=>match Nat.beq z.cells.toList.length i.size&&z.cells.toList.all (·.oneCell')&&(qud d||zD d z.cells.toList)&&cond (yC (tkD d)) (que z) z.oneCell' with
    |true=>some ⟨tkD d,i.size,i.bytes,z.cells.toList⟩
    |false=>none
   |none=>none
 |_,_=>none
theorem za2(d:TypeDesc):DOk d (tkD d):=by
 cases d<;>first|exact rfl|trivial|(intro x hx;subst hx;rfl)|exact⟨_,rfl,rfl⟩
theorem za0{d:TypeDesc}(h:tkD d= .sc):qud d=false:=by cases d<;>first|rfl|cases h
theorem za1{d:TypeDesc}(h:tkD d= .ot):qud d=false:=by cases d<;>first|rfl|cases h
theorem Jw{P:Program}{t:TypeId}{ti:TI}(h:Xu P t=some ti):∃i d,P.info? t=some i/\P.underlying t=some d/\ti.k=tkD d/\i.bytes=ti.bytes/\
 ((Qu (tkD d)=true/\ti.zero=[])\/(Qu (tkD d)=false/\∃z,i.zero=some z/\z.cells.toList=ti.zero/\i.size=ti.size/\ti.zero.length=ti.size/\(∀v∈ti.zero,v.oneCell'=true)/\(qud d=true\/zD d ti.zero=true)/\cond (yC (tkD d)) (que z) z.oneCell'=true)):=by
 unfold Xu at h
 split at h
 ·rename_i i d h1 h2
  split at h
  ·rename_i e
   cases h
   refine⟨i,d,h1,h2,?_,rfl,.inl ⟨e,rfl⟩⟩
   cases d<;>first|rfl|cases e
  ·rename_i e
   split at h
   ·rename_i z hz
    split at h
    ·rename_i c
     cases h
     simp only[zh9,Bool.or_eq_true]at c
     exact⟨i,d,h1,h2,rfl,rfl,.inr ⟨e,z,hz,rfl,rfl,Nat.eq_of_beq_eq_true c.1.1.1,fun v hv=>zg9.mp c.1.1.2 v hv,c.1.2,c.2⟩⟩
    ·cases h
   ·cases h
 ·cases h
section
variable {P:Program}{t:TypeId}{ti:TI}
theorem Zp(h:Xu P t=some ti)(k:TK)(hk:ti.k=k)(k0:k= .sc\/k= .ot):∃d,P.underlying t=some d/\zD d ti.zero=true:=by
 obtain⟨i,d,h1,h2,h3,_,h5⟩:=Jw h
 refine⟨d,h2,?_⟩
 have e:tkD d=k:=by rw[<-h3,hk]
 have e2:qud d=false:=by
  rcases k0 with q|q
  ·exact za0 (e.trans q)
  ·exact za1 (e.trans q)
 rcases h5 with⟨q,_⟩|⟨_,z,_,_,_,_,_,q,_⟩
 ·rw[e]at q;rcases k0 with rfl|rfl<;>cases q
 ·rcases q with q|q
  ·rw[e2]at q;cases q
  ·exact q
theorem za5(h:Xu P t=some ti)(hi:qlo ti=true):∃k,P.underlying t=some (.int k):=by
 unfold qlo at hi
 split at hi
 ·rename_i k n hk hz
  obtain⟨d,h1,h2⟩:=Zp h _ hk (.inl rfl)
  rw[hz]at h2
  cases d<;>first|exact⟨_,h1⟩|cases h2
 ·cases hi
theorem zek(h:Xu P t=some ti)(hi:qfl ti=true):P.underlying t=some (.int .u8):=by
 unfold qfl at hi
 split at hi
 ·rename_i n hk hz
  obtain⟨d,h1,h2⟩:=Zp h _ hk (.inl rfl)
  rw[hz]at h2
  cases d<;>first|(rename_i k;have:k=IntKind.u8:=of_decide_eq_true h2;rw[h1,this])|cases h2
 ·cases hi
theorem za3(h:Xu P t=some ti)(hi:WM ti=true):P.underlying t=some .string:=by
 unfold WM at hi
 split at hi
 ·rename_i n hk hz
  obtain⟨d,h1,h2⟩:=Zp h _ hk (.inl rfl)
  rw[hz]at h2
  cases d<;>first|exact h1|cases h2
 ·cases hi
theorem za6(h:Xu P t=some ti)(hi:qlp ti=true):P.underlying t=some .bool:=by
 unfold qlp at hi
 split at hi
 ·rename_i n hk hz
  obtain⟨d,h1,h2⟩:=Zp h _ hk (.inl rfl)
  rw[hz]at h2
  cases d<;>first|exact h1|cases h2
 ·cases hi
theorem za4(h:Xu P t=some ti)(hi:qyw ti=true):∃e,P.underlying t=some (.pointer e):=by
 unfold qyw at hi
 split at hi
 ·rename_i hk hz
  obtain⟨d,h1,h2⟩:=Zp h _ hk (.inr rfl)
  rw[hz]at h2
  cases d<;>first|exact⟨_,h1⟩|cases h2
 ·cases hi
theorem qwq(h:Xu P t=some ti)(hk:Qu ti.k=false){info:TypeInfo}{z:Value}(hi:P.info? t=some info)(hz:info.zero=some z):
 (yC ti.k=true->∃vs,z= .agg vs)/\(yC ti.k=false->z.oneCell'=true):=by
 obtain⟨i,d,h1,h2,h3,_,h5⟩:=Jw h
 rw[h1]at hi;cases hi
 rcases h5 with⟨q,_⟩|⟨_,z',hz',_,_,_,_,_,q⟩
 ·rw[h3,q]at hk;cases hk
 ·rw[hz']at hz;cases hz
  rw[h3]
  refine⟨fun e=>?_,fun e=>?_⟩
  ·rw[e]at q
   cases z<;>first|exact⟨_,rfl⟩|cases q
  ·rw[e]at q;exact q
theorem zel(h:Xu P t=some ti):TOk P t ti:=by
 refine⟨zek h,za3 h,?_⟩
 obtain⟨i,d,h1,h2,h3,h4,h5⟩:=Jw h
 refine⟨i,d,h1,h2,by rw[h3];exact za2 d,h4,fun e=>?_⟩
 rcases h5 with⟨q,_⟩|⟨_,z,a1,a2,a3,a4,a5,_⟩
 ·rw[h3,q]at e;cases e
 ·exact⟨a3,z,a1,a2,a4,a5⟩
end
def fnB(fn:Func):Bool:=!(fn.name== "runtime.NumGoroutine")&&match fn.body with|some b=>Zf fn.ntmps b|none=>true
def lkH:List (Nat×Nat×Nat)->Nat->Nat->Nat
 |[],_,_=>0
 |(a,b,h)::l,r,i=>match Nat.beq a r&&Nat.beq b i with|true=>h|false=>lkH l r i
def lkM:List (Nat×List Nat)->Nat->Option (List Nat)
 |[],_=>none
 |(a,m)::l,r=>match Nat.beq a r with|true=>some m|false=>lkM l r
def wR(P:Program)(f:FuncId)(vs:List Value):Option Value:=
 (qP P (callFunc f vs.toArray)).bind fun n=>match n with
  | .value v=>some v
  |_=>none
def zb1(P:Program)(H:Tr (List (Nat×Nat×Nat)))(M:Tr (List (Nat×List Nat))):Cx:=
 ⟨P,Xu P,fun f=>P.funcs[f]?,wR P,fun f=>match H.get f with|some l=>lkH l|none=>fun _ _=>0,fun f=>match M.get f with|some l=>lkM l|none=>fun _=>none⟩
theorem mkOk{P:Program}{H:Tr (List (Nat×Nat×Nat))}{M:Tr (List (Nat×List Nat))}(hF:P.funcs.toList.all fnB=true)(hm:P.follows .mixedOrders=true):
 Ok (zb1 P H M)/\Vh (zb1 P H M):=by
 have hB:∀f fn,P.funcs[f]?=some fn->fnB fn=true:=fun f fn h=>zg9.mp hF fn (Array.mem_toList_iff.mpr (Array.mem_of_getElem? h))
 refine⟨⟨fun t ti h=>zel h,fun t ti h=>za5 h,fun t ti h=>za6 h,fun t ti h=>za4 h,fun t ti h hk info z hi hz=>qwq h hk hi hz,fun f fn h=>h,fun f fn h=>?_,fun f fn vs v h hb hX w=>?_,hm⟩,fun f fn b h hb=>?_⟩
 ·have:=hB f fn h
  simp only[fnB,zh9,Bool.not_eq_true']at this
  exact this.1
 ·have hX:wR P f vs=some v:=hX
  unfold wR at hX
  obtain⟨n,hn,hX⟩:=bsm hX
  have hr:=jS hn w
  split at hX
  ·cases hX;exact hr
  ·cases hX
 ·have:=hB f fn h
  simp only[fnB,zh9,hb]at this
  exact this.2
theorem qe{p:Prop}(h:p:=by kernel_rfl):p:=h
def hlT:Tr (List (Nat×Nat×Nat)):=
 let n:Nat->List (Nat×Nat×Nat)->Tr (List (Nat×Nat×Nat))->Tr (List (Nat×Nat×Nat))->Tr (List (Nat×Nat×Nat)):=.node
 let o:Tr (List (Nat×Nat×Nat)):=.leaf
 let u:Nat->List (Nat×Nat×Nat)->Tr (List (Nat×Nat×Nat)):=fun k v=>.node k v o o
 (n 111 [(1,1,2),(1,4,2),(1,6,2),(3,1,2),(4,0,3),(11,1,2),(14,1,2),(16,1,2),(17,5,2),(19,0,3)] (n 60 [(7,0,1)] (n 28 [(15,2,2)] (n 16 [(10,5,2),(11,1,2),(11,4,2),(29,5,2)] (n 10 [(1,1,2),(2,2,2),(3,13,2)] (n 6 [(5,1,2),(6,1,2),(6,3,2),(10,1,2),(13,3,2),(18,2,2),(19,0,2),(21,2,2),(21,6,2),(22,4,2)] (n 4 [(5,1,2),(6,1,2),(9,2,2),(17,2,2),(27,2,2),(28,7,2),(28,10,2),(29,2,2),(30,2,2),(31,6,2),(32,2,2),(33,2,2),(34,6,2),(35,2,2)] (u 3 [(5,1,2),(10,7,2),(10,10,2),(12,2,2),(13,2,2),(19,3,2),(19,4,2),(19,8,2),(19,9,2),(20,2,2)]) o) (u 7 [(5,1,2),(6,2,2),(7,2,2),(8,10,2),(10,1,2),(11,1,2),(18,3,2),(23,2,2),(24,2,2)])) (n 13 [(4,1,2),(5,1,2),(9,1,2),(10,8,2),(15,0,1)] (u 12 [(2,0,2),(9,2,2),(10,2,2),(11,7,2),(13,0,1)]) (u 15 [(3,1,2),(7,0,1),(8,0,1),(12,0,1),(14,0,1)]))) (n 22 [(6,14,1),(6,15,1),(11,0,1)] (n 18 [(2,1,2),(5,0,1),(7,0,1)] (u 17 [(1,2,2),(1,3,2),(3,0,3)]) (u 20 [(1,2,2),(4,5,2)])) (n 25 [(6,0,1),(8,0,1)] (u 23 [(1,3,2)]) (u 26 [(1,2,2),(4,2,2)])))) (n 43 [(1,1,2)] (n 36 [(4,1,2),(5,3,2),(13,1,2),(15,0,1),(15,4,2),(16,2,2),(18,1,2),(22,2,2),(23,1,2),(24,3,2),(25,4,2),(26,2,2),(26,4,2),(27,1,2),(29,1,2)] (n 33 [(0,4,2)] (n 32 [(3,2,2)] (u 30 [(9,0,1),(14,0,1),(32,0,1),(35,0,1)]) o) (u 35 [(4,1,2),(8,2,2),(10,5,2),(12,2,2),(14,5,2),(16,2,2),(18,5,2),(19,5,2),(21,2,2),(23,5,2),(24,5,2),(25,7,2),(27,3,2),(28,1,2)])) (n 38 [(4,1,2),(5,4,2),(10,4,2),(11,5,2),(12,4,2),(13,4,2),(15,1,2)] (u 37 [(4,1,2),(5,5,2),(6,4,2),(7,3,2),(8,5,2),(9,1,2)]) (u 42 [(1,2,2)]))) (n 50 [(0,0,2),(0,1,2)] (n 46 [(1,2,2),(1,7,2)] (u 44 [(5,5,2),(7,1,2),(10,1,2),(12,5,2),(14,2,2),(14,4,2),(14,8,2),(15,0,1),(17,1,2),(23,0,1)]) (u 48 [(5,4,2),(8,1,2),(12,1,2),(14,1,2),(14,4,2),(16,1,2),(18,1,2),(18,4,2),(19,1,2),(21,1,2),(23,1,2),(24,1,2),(30,0,1)])) (n 52 [(4,1,2),(7,3,2),(10,0,1),(12,0,1)] (u 51 [(1,1,2),(2,2,2),(2,4,2),(3,1,2),(4,1,2),(5,1,2),(6,1,2),(7,1,2),(8,2,2),(19,0,1)]) (u 53 [(15,0,1)]))))) (n 78 [(2,4,2),(3,4,4),(7,3,4),(9,4,4),(10,4,4),(11,5,2),(16,5,2)] (n 70 [(2,4,2),(3,3,2)] (n 65 [(7,0,1)] (n 63 [(7,0,1)] (n 62 [(7,0,1)] (u 61 [(9,0,1)]) o) (u 64 [(1,8,2),(5,5,2),(7,0,3)])) (n 68 [(10,6,2),(11,5,2),(12,4,2),(12,7,2),(14,0,3)] (u 66 [(3,4,2),(6,4,2),(10,7,2),(15,5,2)]) (u 69 [(0,4,2),(4,2,2)]))) (n 74 [(3,1,2),(7,3,2),(10,1,2)] (n 72 [(1,4,1)] (u 71 [(5,1,2),(10,5,2),(11,3,2),(13,1,2),(14,4,2),(15,3,2),(16,2,2),(16,5,2),(17,2,2),(17,3,2),(18,1,2)]) (u 73 [(1,4,1)])) (n 76 [(1,4,2),(2,4,2),(3,3,2),(4,5,2),(5,3,2)] (u 75 [(5,0,1),(8,1,2),(8,3,2),(15,5,2),(16,8,2),(19,1,2),(19,3,2),(20,0,1)]) (u 77 [(6,5,2)])))) (n 101 [(8,0,1),(9,0,1)] (n 87 [(1,5,2),(2,1,2)] (n 85 [(8,9,2),(9,1,2),(13,4,2),(13,7,2),(18,2,2),(22,14,2),(22,17,2),(27,4,2)] (u 81 [(0,13,2)]) (u 86 [(1,0,2)])) (n 90 [(1,1,2),(2,1,2)] (u 88 [(4,1,2),(6,1,2),(7,1,2),(12,1,2)]) (u 91 [(3,1,2)]))) (n 107 [(1,1,2),(3,1,2),(5,0,1),(6,1,2),(8,2,2),(9,1,2),(10,1,2),(11,1,2),(13,0,1)] (n 105 [(3,1,2),(5,5,2),(7,1,2),(9,4,2),(10,1,2),(13,1,2),(14,0,1),(15,1,2),(17,0,1)] (u 102 [(5,0,1),(6,0,1),(7,0,1),(8,0,1),(14,0,1),(16,0,1)]) (u 106 [(9,0,1),(12,0,1)])) (n 109 [(1,1,2),(1,4,2),(3,8,2),(4,2,2),(4,4,2),(5,1,2),(10,1,2),(12,0,1)] (u 108 [(1,1,2),(3,1,2),(4,0,1),(5,5,2),(5,6,2),(5,9,1),(5,10,1),(7,2,2),(9,0,1)]) (u 110 [(2,1,2),(3,1,2),(5,1,2),(6,0,1),(7,0,1)])))))) (n 192 [(3,1,2)] (n 152 [(1,1,2)] (n 140 [(2,4,2),(3,2,2),(5,5,2),(13,8,2),(15,5,2),(20,3,2),(26,11,2)] (n 131 [(3,5,2)] (n 128 [(1,5,2),(4,6,2),(4,10,2),(5,0,3)] (n 125 [(6,6,2),(8,2,2),(11,2,2),(12,3,2),(12,6,2),(12,7,2),(13,3,2),(15,0,3)] (u 112 [(1,1,2),(1,4,2),(5,2,2),(7,2,2),(7,3,2),(8,2,2),(8,3,2),(10,1,2),(12,1,2),(14,1,2),(16,1,1),(16,4,2),(18,0,1)]) o) (u 130 [(7,0,1)])) (n 136 [(4,7,2),(4,12,2),(6,8,2),(6,12,2),(6,14,2),(6,16,2)] (u 132 [(1,7,2),(2,1,2),(6,7,2),(7,6,2),(7,10,2),(9,0,3)]) (u 137 [(5,3,2),(5,7,2),(11,8,2),(11,12,2),(11,14,2),(11,16,2),(17,3,2),(17,7,2),(23,8,2),(23,12,2),(23,14,2),(23,16,2),(35,5,2),(35,9,2),(40,5,2),(42,5,2),(44,5,2)]))) (n 146 [(1,1,2),(1,3,2)] (n 144 [(5,6,2),(7,9,2),(7,18,2)] (u 143 [(2,1,2),(3,1,2)]) (u 145 [(3,5,2),(3,6,3)])) (n 148 [(3,3,2),(7,0,2),(9,1,1)] (u 147 [(3,5,2),(6,8,2),(11,1,2),(12,5,2)]) (u 150 [(0,8,2)])))) (n 181 [(1,1,2),(1,4,2),(2,1,2),(4,1,2),(6,1,2),(8,1,2),(14,1,2),(15,1,2),(16,1,2),(17,1,2),(19,0,1)] (n 175 [(3,0,1),(5,0,1)] (n 169 [(2,0,2),(8,2,2),(9,2,2),(10,2,2),(11,4,2)] (u 168 [(3,2,2),(8,0,2)]) (u 174 [(8,0,1),(10,0,1)])) (n 177 [(1,1,2),(2,0,2),(8,2,2),(9,4,2),(9,7,2),(10,4,2),(13,2,2),(14,2,2),(15,0,3)] (u 176 [(7,0,1),(10,0,1)]) (u 178 [(13,0,1),(14,0,1),(17,0,1),(19,0,1)]))) (n 187 [(3,1,2),(4,2,2),(8,1,2),(10,0,1),(12,1,2),(13,1,2),(17,0,1)] (n 185 [(1,1,2),(3,4,2),(4,8,2),(9,4,2)] (u 184 [(1,1,2),(1,4,2),(1,7,2),(2,2,2),(2,4,2),(4,1,2),(5,1,2),(6,1,2),(7,2,2)]) (u 186 [(7,4,2)])) (n 190 [(3,21,2),(4,19,2),(5,4,2),(5,10,2)] (u 189 [(1,3,2),(1,6,2),(1,8,2)]) (u 191 [(1,1,2)]))))) (n 226 [(1,4,2),(5,6,2),(5,17,2),(6,0,3)] (n 212 [(3,4,1),(6,4,1)] (n 202 [(7,0,1)] (n 197 [(4,1,1),(6,1,1),(8,1,1),(9,0,1)] (n 196 [(3,0,1),(7,0,1),(10,0,1)] (u 194 [(4,1,1),(6,1,1),(8,1,1),(9,0,1)]) o) (u 201 [(10,1,1),(11,1,1),(12,0,1)])) (n 209 [(1,1,2),(4,6,2)] (u 204 [(4,7,2),(6,11,2),(8,7,2)]) (u 210 [(1,5,2),(4,5,2),(6,0,2),(9,6,2)]))) (n 221 [(4,0,2),(9,0,1),(10,12,2),(10,21,2),(12,4,2),(12,7,2),(13,7,2),(17,0,1),(17,6,2),(17,8,2),(17,9,3),(19,0,1),(19,2,2),(19,4,2),(19,5,3),(20,0,1),(20,5,2),(20,7,2),(20,8,3)] (n 219 [(1,7,2)] (u 213 [(0,5,2),(1,5,2),(1,8,2),(7,1,2),(8,8,2),(9,9,2)]) (u 220 [(1,4,2),(2,4,2),(3,4,2)])) (n 224 [(5,0,1),(6,0,1)] (u 223 [(6,0,1),(7,0,1),(8,0,1)]) (u 225 [(5,1,2),(9,5,2),(11,0,3)])))) (n 235 [(1,2,2)] (n 230 [(5,4,2)] (n 228 [(5,4,2)] (u 227 [(5,3,2),(6,0,1)]) (u 229 [(5,2,2),(6,5,2),(8,0,1)])) (n 232 [(1,1,2),(3,1,2),(4,1,2),(6,1,2),(7,3,2)] (u 231 [(1,3,2),(2,6,2),(2,9,2),(3,1,2),(7,6,2),(7,10,2),(8,0,1)]) (u 233 [(1,1,2),(3,1,2),(3,4,2),(4,1,2),(6,1,2),(10,3,2)]))) (n 242 [(1,7,2),(3,8,2),(4,11,2),(6,4,2),(8,5,2),(13,10,2),(14,4,2),(16,5,2)] (n 238 [(4,3,2),(6,1,2)] (u 237 [(2,1,2),(5,1,2),(6,1,2)]) (u 241 [(1,1,2),(1,4,2),(1,6,2)])) (n 256 [(4,3,2)] (u 251 [(3,12,2),(3,18,2),(3,20,2),(3,22,2)]) (u 257 [(1,5,2),(4,6,2),(6,6,2)])))))))
def mlT:Tr (List (Nat×List Nat)):=
 let n:Nat->List (Nat×List Nat)->Tr (List (Nat×List Nat))->Tr (List (Nat×List Nat))->Tr (List (Nat×List Nat)):=.node
 let o:Tr (List (Nat×List Nat)):=.leaf
 let u:Nat->List (Nat×List Nat)->Tr (List (Nat×List Nat)):=fun k v=>.node k v o o
 (n 137 [(3,[0,1,4,10,11]),(9,[0,10,13]),(15,[0,2,4,14,15]),(21,[0,14,17]),(32,[0,1,2,3,4,18,19,20,21]),(33,[0,1,2,3,4,18,19,20,21,22]),(40,[0,1,2,3,4,18,20,24]),(41,[0,1,3,4,18,20,24]),(42,[0,1,3,4,18,20,24]),(43,[0,3,4,18,24]),(44,[0,3,4,18,24])] (n 71 [(7,[0,5,6,20,21])] (n 50 [(3,[4]),(4,[2,4,6])] (n 18 [(3,[3,7,8,9])] (n 11 [(2,[0,5,6,7]),(5,[]),(6,[0,5,6,7])] (n 6 [(4,[]),(5,[0,1]),(11,[1,5,6,8,40,41,42]),(15,[]),(16,[1,5,6,8,10,40,41,42]),(17,[1,5,6,8,40,41,42]),(23,[]),(24,[8,14])] (n 4 [(15,[3,9,10,11,12,13,14,15,16]),(16,[]),(17,[3,9,10,11,12,13]),(23,[3,9,18,19])] (u 3 [(8,[1,5,6,24,25]),(15,[]),(16,[1,5,8])]) o) (u 7 [(4,[]),(5,[0,1]),(9,[]),(10,[1,5,6,8]),(16,[1,6,8,10,11,12,68,69,70]),(20,[]),(21,[1,6,8,10,11,12,14,68,69,70]),(22,[1,6,8,10,11,12,68,69,70])])) (n 15 [(4,[3,4,16,17,18])] (n 13 [(8,[0,3,6,22,23,24]),(11,[]),(12,[0,3,6,8,22,23,24])] (u 12 [(4,[3,4,9,10,11]),(9,[3,4,6,7,9,10,11]),(10,[3,4,6,7,9,10,11]),(12,[3,4,9,10,11])]) o) (u 16 [(13,[]),(14,[0,3,7,8]),(21,[0,7,9,11,86,87,88])]))) (n 36 [(8,[3,6,7,29,30,31])] (n 30 [(7,[1,2,3,4,27,28,29]),(12,[1,2,3,4,6,27,28,29,42,43]),(16,[1,2,3,4,27,28,29]),(27,[1,2,3,8,93,94,95]),(32,[1,2,3,8,10,11,93,94,95]),(35,[2,3])] (n 27 [(4,[0,1,12,13]),(7,[]),(8,[0,1,12,13])] (u 25 [(4,[3,11,12,13]),(8,[3])]) o) (u 35 [(28,[5])])) (n 44 [(11,[4,5,6,7]),(12,[4,5,6,7,8]),(14,[4,5,6,7,8]),(17,[4,5])] (u 38 [(7,[5,20,21,22]),(11,[5,7,20,21,22])]) (u 48 [(24,[6,9,10])])))) (n 61 [(3,[2,6,7,15,16,17]),(7,[2,6,7,9,15,16,17])] (n 56 [(2,[]),(3,[1]),(6,[1,23,24,25])] (n 54 [(4,[0,3])] (n 53 [(15,[2,3])] (u 52 [(5,[0,1,6,14,15,16])]) o) (u 55 [(2,[]),(3,[1])])) (n 59 [(2,[]),(3,[1]),(4,[1,22,23,24]),(7,[]),(8,[1,22,23,24]),(10,[]),(11,[])] (n 58 [(2,[]),(3,[1])] (u 57 [(2,[]),(3,[1]),(4,[1,24,25,26]),(9,[]),(10,[1,24,25,26])]) o) (u 60 [(3,[1,6,9,10,11]),(7,[1,6,8,9,10,11])]))) (n 66 [(2,[0,1,2,6,7,8]),(7,[0,1,2,6]),(9,[0,1,2,6,7,8]),(16,[0,1,2,6])] (n 64 [(3,[6,7,23,24,25])] (n 63 [(3,[6,7,19,20,21])] (u 62 [(3,[4,5,17,18,19])]) o) (u 65 [(3,[4,5,17,18,19])])) (n 69 [(2,[1,11,12,13])] (u 68 [(5,[0,4,11,12,13]),(8,[]),(9,[0,4,6,11,12,13]),(11,[0,4,6,11,12,13]),(12,[0,4,6,11,12,13])]) (u 70 [(0,[0,1])]))))) (n 109 [(10,[0,2]),(12,[2,3])] (n 88 [(4,[0,1,5,6]),(6,[0,1,5,6,7]),(7,[0,1,5,6,7])] (n 83 [(2,[]),(3,[1])] (n 77 [(2,[0,1,6,9,10,11]),(6,[0,1,6,8,9,10,11])] (n 75 [(11,[0,2,4,5,6,7,38,39,40]),(14,[2]),(15,[0,2,4,5,6,7,9,38,39,40])] (u 74 [(2,[]),(3,[0,1]),(5,[6,17,18,19])]) o) (u 78 [(5,[0,3,4,23,24]),(14,[0,7,49,50,51])])) (n 86 [(4,[3,4,8,9,10])] (n 85 [(3,[0,3,4]),(6,[0,3,4,5]),(11,[3,6]),(16,[3,7,8]),(17,[3,7,8]),(20,[3,7,8,9]),(25,[3,10,11])] (u 84 [(4,[0,8,9,10]),(7,[]),(8,[0,3,4,8,9,10]),(9,[]),(10,[0,3,4,8,9,10]),(11,[]),(12,[0,3,4,8,9,10]),(13,[]),(14,[0,8,9,10])]) o) (u 87 [(2,[0]),(4,[0,1])]))) (n 105 [(5,[0,3,4,5,6]),(7,[0,3,4,5,6]),(10,[0,3,4,5,6,7]),(11,[0,3,4,5,6,7]),(14,[0,3,4,5,6,7]),(15,[0,3])] (n 101 [(3,[1,2,7,8]),(8,[1,2,7,8,9])] (n 96 [(3,[1,2,3,4,8,9]),(11,[1,2,3,4,8,9,10]),(16,[1,2,3,4,8,9,10,11,12]),(17,[1,2,3,4,8,9,10,11]),(18,[1,2,3,4,8,9,10,11]),(19,[1,2,3,4,8,9,11]),(21,[1,2,3,4,10,11])] (u 91 [(2,[]),(3,[0])]) o) (u 102 [(3,[3,4,5,8,13,14]),(11,[5,13,15,16])])) (n 107 [(3,[0,3,4]),(9,[0,3,4]),(10,[0,4]),(11,[0,4])] (u 106 [(3,[3,7,8,9]),(6,[3,5,7,8,9,13]),(10,[3,5,7,8,9,13])]) (u 108 [(8,[2,3,5])])))) (n 122 [(4,[0,3])] (n 114 [(2,[]),(3,[2,3]),(4,[2,3,22,23])] (n 112 [(3,[0,2,3,14]),(11,[0,2,3,5,37,38]),(15,[0,2,3,5,6,37,38])] (n 111 [(7,[0,2,3,5,26,27]),(11,[0,2,3,5,6,26,27]),(14,[0,2,3,5,6,26,27]),(15,[0,2,3,6,8,26,27]),(16,[0,2,3,5,6,26,27]),(19,[2,3])] (u 110 [(4,[3,4,5,6])]) o) (u 113 [(4,[0,1,12,13])])) (n 118 [(2,[]),(3,[2,3]),(4,[2,3,52,53])] (n 117 [(2,[]),(3,[2,3]),(4,[2,3,29,30])] (u 116 [(2,[]),(3,[2,3]),(4,[2,3,29,30])]) o) (u 119 [(2,[1,5,6])]))) (n 131 [(2,[4]),(3,[0,1,4])] (n 128 [(5,[4,5])] (n 127 [(2,[2]),(3,[0,2])] (u 125 [(3,[4,8,9,10]),(6,[4,6,7,8,9,10]),(7,[4,6,7,8,9,10]),(9,[4,6,7,8,9,10]),(14,[4,8,9,10])]) o) (u 130 [(3,[2,4,5,11,12,13])])) (n 133 [(2,[2]),(3,[0,2])] (u 132 [(4,[1,2,3,6,7,23,24]),(9,[6,7])]) (u 136 [(1,[0,1,2,3,8]),(2,[0,1,2,3,8]),(4,[0,1,2,3,8,9]),(6,[0,1,2,3,8,9])])))))) (n 200 [(5,[3])] (n 171 [(3,[1,2,3,7,8]),(4,[1,2,3,7,8]),(5,[1,2,3,7,8]),(6,[1,2,3,7,8]),(7,[1,2,3,7,8]),(14,[1,2,3,7,8,9]),(18,[1,2,3,7,8]),(20,[1,2,3,7,8,10])] (n 153 [(2,[]),(3,[0])] (n 147 [(9,[0,1])] (n 143 [(0,[0,1])] (n 141 [(3,[0,3,4,8]),(7,[0,5,6,8]),(8,[0,3,4,8])] (u 140 [(7,[1,2,7]),(8,[1,2,7]),(11,[1,2,7,8]),(12,[1,2,7,8]),(13,[1,2,7,8]),(17,[1,2,64]),(21,[1,2,64]),(24,[1,2,78])]) o) (u 144 [(2,[0,1,6]),(6,[0,1,6]),(8,[0,1,6])])) (n 151 [(7,[3])] (n 149 [(2,[0,1,5]),(3,[0,1,5]),(4,[5])] (u 148 [(6,[3,16])]) o) (u 152 [(3,[1,6]),(7,[1,2,3,6,11])]))) (n 167 [(5,[3,6,7,8,9]),(9,[3,6,7,10])] (n 165 [(4,[0,2]),(7,[0,2]),(10,[0,2])] (n 164 [(4,[0,2]),(7,[0,2])] (u 154 [(1,[0,1])]) o) (u 166 [(2,[1,2,3,6]),(3,[1,2,3,6]),(5,[1,2,3,6,7]),(7,[1,2,3,6,7])])) (n 169 [(11,[3,9,10,11,12]),(12,[9,11])] (u 168 [(6,[1,3,6,7,8,9]),(11,[1,3,6,7,8,9,10])]) (u 170 [(3,[3,6,7])])))) (n 184 [(5,[0,3,4])] (n 176 [(5,[0,3,4,5,6])] (n 174 [(4,[0,3,4,5]),(7,[0,3,4,5,6,7]),(8,[0,3,4,5,6,7]),(10,[0,3,4,5,6,7])] (n 173 [(3,[1,4,10,11]),(4,[1,4,10,11]),(5,[1,4,10,11]),(6,[1,4,10,11]),(7,[1,4,10,11]),(13,[1,4,10,11]),(14,[1,4,10,11]),(15,[1,4,10,11]),(16,[1,4,10,11]),(17,[1,4,10,11])] (u 172 [(3,[1,4,9,10]),(4,[1,4,9,10]),(5,[1,4,9,10]),(6,[1,4,9,10]),(7,[1,4,9,10])]) o) (u 175 [(2,[0,3])])) (n 181 [(9,[0,2,3,4,23,24,25]),(15,[0,2,3,4]),(16,[0,2,3]),(17,[0,2,3])] (n 178 [(5,[0,3,4]),(6,[0,3,4,5]),(7,[0,3,4,5]),(8,[0,3,4,5]),(11,[0,3,4,5,6,7,8,9])] (u 177 [(5,[1,5,6,7,8]),(11,[1,5,6,7,8,9])]) o) (u 182 [(3,[3,7,8])]))) (n 192 [(4,[5])] (n 187 [(2,[]),(3,[0,1,2]),(7,[0,2,8,9,10,33,34]),(12,[0,2,8,10])] (n 186 [(4,[]),(5,[0])] (u 185 [(9,[0,4,7]),(10,[0]),(12,[0,7])]) o) (u 190 [(2,[]),(3,[0]),(6,[0]),(8,[0,4])])) (n 196 [(6,[2,5,6,7,19,20])] (u 194 [(3,[2,4,5,6,7]),(4,[2,4,5,6,7]),(5,[2,4,5,6,7]),(6,[2,4,5,6,7]),(7,[2,4,5,6,7]),(8,[2,4,5,6,7]),(9,[4,5])]) (u 197 [(3,[4,5,6,7]),(4,[4,5,6,7]),(6,[4,5,6,7]),(7,[4,5,6,7]),(8,[4,5,6,7])]))))) (n 227 [(3,[0,2,3,4])] (n 212 [(1,[0]),(4,[0,2]),(8,[0]),(9,[0])] (n 206 [(3,[]),(4,[4])] (n 203 [(10,[0]),(11,[0])] (n 202 [(5,[1,4,5])] (u 201 [(3,[2,3,4,5,27]),(8,[2,4,5,7,8]),(9,[2,4,5,7,8]),(10,[2,4,5,7,8]),(11,[2,4,5,7,8]),(12,[4,5])]) o) (u 204 [(2,[0,2,4,10,11])])) (n 209 [(3,[3,8,9])] (n 208 [(3,[0,1,6,10,11])] (u 207 [(4,[1,3,4,7]),(8,[1,3,6,7]),(9,[1,3,6,7])]) o) (u 210 [(2,[]),(3,[0,1]),(5,[0,1,6,22,23,24])]))) (n 223 [(3,[0,3,4]),(4,[0,3,4])] (n 221 [(7,[1,5,6,7,8,9,10]),(8,[1,5,6,7,8,9,10]),(12,[1,5,6,7,8,9,10]),(13,[1,5,6,7,8,9,10]),(17,[1,5,9]),(18,[5,6,7,8,12])] (n 216 [(2,[2,3,4,8]),(5,[2,3,4,8,9]),(6,[2,3,4,8,9])] (u 213 [(1,[0,1]),(6,[0,41,42,43])]) o) (u 222 [(4,[3,4,5,6]),(5,[3,4,5,6]),(9,[3,4,5,6,7,8,9]),(15,[3,4,5,6,7,8,9,10]),(17,[5,6,7])])) (n 225 [(3,[0,1]),(5,[0,1]),(7,[0,5,6])] (u 224 [(3,[0,3,4])]) (u 226 [(3,[0,3,4])])))) (n 240 [(8,[0,3])] (n 232 [(2,[0,1,4,9,10])] (n 230 [(3,[1,2,5,6])] (n 229 [(3,[0,5,6]),(5,[0,5,6]),(8,[0])] (u 228 [(3,[1,3,4])]) o) (u 231 [(5,[4,5,6]),(8,[4,5])])) (n 237 [(2,[0,1,5])] (n 236 [(2,[]),(3,[0])] (u 233 [(2,[0,1,4,11,12]),(6,[1]),(7,[0,1,5,6,11,12]),(8,[0,1,5,6,7,11,12])]) o) (u 238 [(3,[0,5,8,9])]))) (n 254 [(2,[0]),(4,[]),(5,[0])] (n 248 [(8,[]),(9,[0])] (n 243 [(4,[0,4])] (u 242 [(2,[]),(3,[0]),(11,[0,4])]) o) (u 251 [(1,[0,1,2,3,10])])) (n 257 [(2,[]),(3,[0,1]),(4,[0,1,5])] (u 256 [(3,[0,3,4])]) (u 258 [(5,[0])])))))))
noncomputable def cxX:Cx:=zb1 Tryz.prog hlT mlT
theorem okX:Ok cxX/\Vh cxX:=mkOk qe qe
@[simp] theorem zge(n:Int):QD Tryz.prog 2 40 (.int .i64 n)=some (.int .u32 (IntKind.u32.wrap n)):=qe
@[simp] theorem qzh(n:Int):QD Tryz.prog 2 42 (.int .i64 n)=some (.float .f64 (FloatKind.f64.nearest n)):=qe
@[simp] theorem zfq(n:Int):QD Tryz.prog 2 125 (.int .i64 n)=some (.int .u64 (IntKind.u64.wrap n)):=qe
@[simp] theorem jg(n:Int):QD Tryz.prog 3 5 (.int .i64 n)=some (.int .u8 (IntKind.u8.wrap n)):=qe
@[simp] theorem Jc(n:Int):QD Tryz.prog 3 40 (.int .i64 n)=some (.int .u32 (IntKind.u32.wrap n)):=qe
@[simp] theorem jB(n:Int):QD Tryz.prog 3 125 (.int .i64 n)=some (.int .u64 (IntKind.u64.wrap n)):=qe
@[simp] theorem zfp(n:Int):QD Tryz.prog 3 132 (.int .i64 n)=some (.int .u64 (IntKind.u64.wrap n)):=qe
@[simp] theorem zfo(n:Int):QD Tryz.prog 3 295 (.int .i64 n)=some (.int .u64 (IntKind.u64.wrap n)):=qe
@[simp] theorem KE(n:Int):QD Tryz.prog 5 3 (.int .u8 n)=some (.int .i64 (IntKind.i64.wrap n)):=qe
@[simp] theorem qzg(n:Int):QD Tryz.prog 5 40 (.int .u8 n)=some (.int .u32 (IntKind.u32.wrap n)):=qe
@[simp] theorem zfn(n:Int):QD Tryz.prog 5 125 (.int .u8 n)=some (.int .u64 (IntKind.u64.wrap n)):=qe
@[simp] theorem zgd(n:Int):QD Tryz.prog 40 2 (.int .u32 n)=some (.int .i64 (IntKind.i64.wrap n)):=qe
@[simp] theorem Qn(n:Int):QD Tryz.prog 40 3 (.int .u32 n)=some (.int .i64 (IntKind.i64.wrap n)):=qe
@[simp] theorem kO(n:Int):QD Tryz.prog 40 5 (.int .u32 n)=some (.int .u8 (IntKind.u8.wrap n)):=qe
@[simp] theorem zp(n:Int):QD Tryz.prog 40 125 (.int .u32 n)=some (.int .u64 (IntKind.u64.wrap n)):=qe
@[simp] theorem qzf(n:Int):QD Tryz.prog 82 3 (.int .u16 n)=some (.int .i64 (IntKind.i64.wrap n)):=qe
@[simp] theorem qgb(n:Int):QD Tryz.prog 125 2 (.int .u64 n)=some (.int .i64 (IntKind.i64.wrap n)):=qe
@[simp] theorem Jd(n:Int):QD Tryz.prog 125 3 (.int .u64 n)=some (.int .i64 (IntKind.i64.wrap n)):=qe
@[simp] theorem wU(n:Int):QD Tryz.prog 125 5 (.int .u64 n)=some (.int .u8 (IntKind.u8.wrap n)):=qe
@[simp] theorem qoq(n:Int):QD Tryz.prog 125 40 (.int .u64 n)=some (.int .u32 (IntKind.u32.wrap n)):=qe
@[simp] theorem WU(n:Int):QD Tryz.prog 125 42 (.int .u64 n)=some (.float .f64 (FloatKind.f64.nearest n)):=qe
@[simp] theorem zfr(n:Int):QD Tryz.prog 132 3 (.int .u64 n)=some (.int .i64 (IntKind.i64.wrap n)):=qe
@[simp] theorem zd0(n:Int):QD Tryz.prog 132 40 (.int .u64 n)=some (.int .u32 (IntKind.u32.wrap n)):=qe
abbrev RO:=Option (AV×Hp)
@[simp] noncomputable abbrev r2(x:AV):AV:=ro (ro x)
@[simp] noncomputable abbrev nl:AV:=.sc (.slice none 0 0)
@[simp] noncomputable abbrev kI(n:Nat):Value:=.int .i64 (.ofNat n)
@[simp] noncomputable abbrev kU(n:Nat):Value:=.int .u64 (.ofNat n)
@[simp] noncomputable abbrev kW(n:Nat):Value:=.int .u32 (.ofNat n)
@[simp] noncomputable abbrev kH(n:Nat):Value:=.int .u16 (.ofNat n)
@[simp] noncomputable abbrev kB(n:Nat):Value:=.int .u8 (.ofNat n)
@[simp] noncomputable abbrev rQ(x:AV)(h:Hp):RO:=some (x,h)
@[simp] noncomputable def cS(f:Nat)(l:List AV)(h:Hp)(K:Value->Hp->RO):RO:=(run cxX f l h).bind fun y=>(vb y.1).bind fun v=>K v y.2
@[simp] noncomputable def cA(f:Nat)(l:List AV)(h:Hp)(K:AV->Hp->RO):RO:=(run cxX f l h).bind fun y=>(yr y.1).bind fun _=>K y.1 y.2
@[simp] noncomputable def cT(f:Nat)(l:List AV)(h:Hp)(K:Hp->RO):RO:=(run cxX f l h).bind fun y=>(kZ 0 y.1).bind fun _=>K y.2
@[simp] noncomputable def cN(n f:Nat)(l:List AV)(h:Hp)(K:AV->Hp->RO):RO:=(run cxX f l h).bind fun y=>(kZ n y.1).bind fun _=>K y.1 y.2
@[simp] noncomputable def pS(f:Nat)(l:List AV)(K:Value->RO):RO:=(jf l []).bind fun _=>(run cxX f (l.map ro) hp0).bind fun y=>(yp y.1).bind fun _=>(vb y.1).bind fun v=>K v
@[simp] noncomputable def pA(f:Nat)(l:List AV)(K:AV->RO):RO:=(jf l []).bind fun _=>(run cxX f (l.map ro) hp0).bind fun y=>(yp y.1).bind fun _=>(yr y.1).bind fun _=>K y.1
@[simp] noncomputable def pT(n f:Nat)(l:List AV)(K:AV->RO):RO:=(jf l []).bind fun _=>(run cxX f (l.map ro) hp0).bind fun y=>(yp y.1).bind fun _=>(kZ n y.1).bind fun _=>K y.1
@[simp] noncomputable def pR(f:Nat)(l:List AV)(K:AV->RO):RO:=(jf l []).bind fun _=>(run cxX f (l.map ro) hp0).bind fun y=>(yp y.1).bind fun _=>K y.1
@[simp] noncomputable def iB(v:Value)(a b:RO):RO:=(asB v).bind fun d=>cond d a b
@[simp] noncomputable def iN(v:Value)(a b:RO):RO:=(unV Tryz.prog .not v).bind fun w=>(asB w).bind fun d=>cond d a b
@[simp] noncomputable def iZ(x:AV)(a b:RO):RO:=(JN x).bind fun d=>cond d a b
@[simp] noncomputable def iG(o:BinOp)(t:TypeId)(x y:Operand)(v w:Value)(a b:RO):RO:=(qt Tryz.prog o t x y v w).bind fun c=>(asB c).bind fun d=>cond d a b
@[simp] noncomputable def iC(o:BinOp)(t:TypeId)(n:Tmp)(v w:Value)(a b:RO):RO:=(qt Tryz.prog o t (.tmp n) (.const w) v w).bind fun c=>(asB c).bind fun d=>cond d a b
@[simp] noncomputable def iT(o:BinOp)(t:TypeId)(n m:Tmp)(v w:Value)(a b:RO):RO:=(qt Tryz.prog o t (.tmp n) (.tmp m) v w).bind fun c=>(asB c).bind fun d=>cond d a b
@[simp] noncomputable def bG(o:BinOp)(t:TypeId)(x y:Operand)(v w:Value)(K:Value->RO):RO:=(qt Tryz.prog o t x y v w).bind fun c=>K c
@[simp] noncomputable def bC(o:BinOp)(t:TypeId)(n:Tmp)(v w:Value)(K:Value->RO):RO:=(qt Tryz.prog o t (.tmp n) (.const w) v w).bind fun c=>K c
@[simp] noncomputable def bT(o:BinOp)(t:TypeId)(n m:Tmp)(v w:Value)(K:Value->RO):RO:=(qt Tryz.prog o t (.tmp n) (.tmp m) v w).bind fun c=>K c
@[simp] noncomputable def cV(a b:TypeId)(v:Value)(K:Value->RO):RO:=(QD Tryz.prog a b v).bind fun c=>K c
@[simp] noncomputable def lpS(k:Nat)(x:AV)(h:Hp)(K:Value->RO):RO:=(qW x).bind fun p=>(Hp.rd h p.1 p.2.1).bind fun l=>(qj l (p.2.2+k)).bind fun v=>K v
@[simp] noncomputable def lpC(k:Nat)(x:AV)(h:Hp)(K:AV->RO):RO:=(qW x).bind fun p=>(Hp.rd h p.1 p.2.1).bind fun l=>(qo l (p.2.2+k)).bind fun v=>K v
@[simp] noncomputable def lpN(n k:Nat)(x:AV)(h:Hp)(K:List AV->RO):RO:=(qW x).bind fun p=>(Hp.rd h p.1 p.2.1).bind fun l=>(qn l (p.2.2+k) n).bind fun v=>K v
@[simp] noncomputable def spN(k:Nat)(x:AV)(h:Hp)(vs:List AV)(K:Hp->RO):RO:=(qW x).bind fun p=>(Hp.rd h p.1 p.2.1).bind fun l=>(qm l (p.2.2+k) vs).bind fun m=>K (Hp.put h p.1 p.2.1 m)
@[simp] noncomputable def wc(k:Nat)(x:AV)(h:Hp)(K:Value->RO):RO:=(QS x).bind fun _=>lpS k x h K
@[simp] noncomputable def Kl(k:Nat)(x:AV)(h:Hp)(K:AV->RO):RO:=(QS x).bind fun _=>lpC k x h K
@[simp] noncomputable def ldN(n k:Nat)(x:AV)(h:Hp)(K:List AV->RO):RO:=(QS x).bind fun _=>lpN n k x h K
@[simp] noncomputable def stN(k:Nat)(x:AV)(h:Hp)(vs:List AV)(K:Hp->RO):RO:=(QS x).bind fun _=>spN k x h vs K
@[simp] noncomputable def jK(x:AV)(v:Value)(K:Value->RO):RO:=(jc 1 x v).bind fun c=>(qj c 0).bind fun w=>K w
@[simp] noncomputable def ap(b:Nat)(x:AV)(v:Value)(K:AV->RO):RO:=(kC [.sc v]).bind fun _=>(yB b 1 x (.us 1 [.sc v])).bind fun y=>K y
@[simp] noncomputable def aS(x:AV)(K:Value->RO):RO:=(vb x).bind fun v=>K v
@[simp] noncomputable def nS(x:AV)(i:Nat)(K:Value->RO):RO:=(vb (ro (js x i))).bind fun v=>K v
@[simp] noncomputable def ln(x:AV)(K:Nat->RO):RO:=(zA x).bind fun v=>K v
theorem wV:(∀(x:AV),r2 x=ro (ro x))/\
 (∀(n:Nat),kI n= .int .i64 (.ofNat n))/\
 (∀(n:Nat),kU n= .int .u64 (.ofNat n))/\
 (∀(n:Nat),kW n= .int .u32 (.ofNat n))/\
 (∀(n:Nat),kH n= .int .u16 (.ofNat n))/\
 (∀(n:Nat),kB n= .int .u8 (.ofNat n))/\
 (∀(x:AV) (h:Hp),rQ x h=some (x,h))/\
 (∀(f:Nat) (l:List AV) (h:Hp) (K:Value->Hp->RO),cS f l h K=(run cxX f l h).bind fun y=>(vb y.1).bind fun v=>K v y.2)/\
 (∀(f:Nat) (l:List AV) (h:Hp) (K:AV->Hp->RO),cA f l h K=(run cxX f l h).bind fun y=>(yr y.1).bind fun _=>K y.1 y.2)/\
 (∀(f:Nat) (l:List AV) (h:Hp) (K:Hp->RO),cT f l h K=(run cxX f l h).bind fun y=>(kZ 0 y.1).bind fun _=>K y.2)/\
 (∀(n f:Nat) (l:List AV) (h:Hp) (K:AV->Hp->RO),cN n f l h K=(run cxX f l h).bind fun y=>(kZ n y.1).bind fun _=>K y.1 y.2)/\
 (∀(f:Nat) (l:List AV) (K:Value->RO),pS f l K=(jf l []).bind fun _=>(run cxX f (l.map ro) hp0).bind fun y=>(yp y.1).bind fun _=>(vb y.1).bind fun v=>K v)/\
 (∀(f:Nat) (l:List AV) (K:AV->RO),pA f l K=(jf l []).bind fun _=>(run cxX f (l.map ro) hp0).bind fun y=>(yp y.1).bind fun _=>(yr y.1).bind fun _=>K y.1)/\
 (∀(n f:Nat) (l:List AV) (K:AV->RO),pT n f l K=(jf l []).bind fun _=>(run cxX f (l.map ro) hp0).bind fun y=>(yp y.1).bind fun _=>(kZ n y.1).bind fun _=>K y.1)/\
 (∀(f:Nat) (l:List AV) (K:AV->RO),pR f l K=(jf l []).bind fun _=>(run cxX f (l.map ro) hp0).bind fun y=>(yp y.1).bind fun _=>K y.1)/\
 (∀(v:Value) (a b:RO),iB v a b=(asB v).bind fun d=>cond d a b)/\
 (∀(v:Value) (a b:RO),iN v a b=(unV Tryz.prog .not v).bind fun w=>(asB w).bind fun d=>cond d a b)/\
 (∀(x:AV) (a b:RO),iZ x a b=(JN x).bind fun d=>cond d a b)/\
 (∀(o:BinOp) (t:TypeId) (x y:Operand) (v w:Value) (a b:RO),iG o t x y v w a b=(qt Tryz.prog o t x y v w).bind fun c=>(asB c).bind fun d=>cond d a b)/\
 (∀(o:BinOp) (t:TypeId) (n:Tmp) (v w:Value) (a b:RO),iC o t n v w a b=(qt Tryz.prog o t (.tmp n) (.const w) v w).bind fun c=>(asB c).bind fun d=>cond d a b)/\
 (∀(o:BinOp) (t:TypeId) (n m:Tmp) (v w:Value) (a b:RO),iT o t n m v w a b=(qt Tryz.prog o t (.tmp n) (.tmp m) v w).bind fun c=>(asB c).bind fun d=>cond d a b)/\
 (∀(o:BinOp) (t:TypeId) (x y:Operand) (v w:Value) (K:Value->RO),bG o t x y v w K=(qt Tryz.prog o t x y v w).bind fun c=>K c)/\
 (∀(o:BinOp) (t:TypeId) (n:Tmp) (v w:Value) (K:Value->RO),bC o t n v w K=(qt Tryz.prog o t (.tmp n) (.const w) v w).bind fun c=>K c)/\
 (∀(o:BinOp) (t:TypeId) (n m:Tmp) (v w:Value) (K:Value->RO),bT o t n m v w K=(qt Tryz.prog o t (.tmp n) (.tmp m) v w).bind fun c=>K c)/\
 (∀(a b:TypeId) (v:Value) (K:Value->RO),cV a b v K=(QD Tryz.prog a b v).bind fun c=>K c)/\
 (∀(k:Nat) (x:AV) (h:Hp) (K:Value->RO),lpS k x h K=(qW x).bind fun p=>(Hp.rd h p.1 p.2.1).bind fun l=>(qj l (p.2.2+k)).bind fun v=>K v)/\
 (∀(k:Nat) (x:AV) (h:Hp) (K:AV->RO),lpC k x h K=(qW x).bind fun p=>(Hp.rd h p.1 p.2.1).bind fun l=>(qo l (p.2.2+k)).bind fun v=>K v)/\
 (∀(n k:Nat) (x:AV) (h:Hp) (K:List AV->RO),lpN n k x h K=(qW x).bind fun p=>(Hp.rd h p.1 p.2.1).bind fun l=>(qn l (p.2.2+k) n).bind fun v=>K v)/\
 (∀(k:Nat) (x:AV) (h:Hp) (vs:List AV) (K:Hp->RO),spN k x h vs K=(qW x).bind fun p=>(Hp.rd h p.1 p.2.1).bind fun l=>(qm l (p.2.2+k) vs).bind fun m=>K (Hp.put h p.1 p.2.1 m))/\
 (∀(k:Nat) (x:AV) (h:Hp) (K:Value->RO),wc k x h K=(QS x).bind fun _=>lpS k x h K)/\
 (∀(k:Nat) (x:AV) (h:Hp) (K:AV->RO),Kl k x h K=(QS x).bind fun _=>lpC k x h K)/\
 (∀(n k:Nat) (x:AV) (h:Hp) (K:List AV->RO),ldN n k x h K=(QS x).bind fun _=>lpN n k x h K)/\
 (∀(k:Nat) (x:AV) (h:Hp) (vs:List AV) (K:Hp->RO),stN k x h vs K=(QS x).bind fun _=>spN k x h vs K)/\
 (∀(x:AV) (v:Value) (K:Value->RO),jK x v K=(jc 1 x v).bind fun c=>(qj c 0).bind fun w=>K w)/\
 (∀(b:Nat) (x:AV) (v:Value) (K:AV->RO),ap b x v K=(kC [.sc v]).bind fun _=>(yB b 1 x (.us 1 [.sc v])).bind fun y=>K y)/\
 (∀(x:AV) (K:Value->RO),aS x K=(vb x).bind fun v=>K v)/\
 (∀(x:AV) (i:Nat) (K:Value->RO),nS x i K=(vb (ro (js x i))).bind fun v=>K v)/\
 (∀(x:AV) (K:Nat->RO),ln x K=(zA x).bind fun v=>K v):=
 ⟨fun _=>rfl,fun _=>rfl,fun _=>rfl,fun _=>rfl,fun _=>rfl,fun _=>rfl,fun _ _=>rfl,fun _ _ _ _=>rfl,fun _ _ _ _=>rfl,fun _ _ _ _=>rfl,fun _ _ _ _ _=>rfl,fun _ _ _=>rfl,fun _ _ _=>rfl,fun _ _ _ _=>rfl,fun _ _ _=>rfl,fun _ _ _=>rfl,fun _ _ _=>rfl,fun _ _ _=>rfl,fun _ _ _ _ _ _ _ _=>rfl,fun _ _ _ _ _ _ _=>rfl,fun _ _ _ _ _ _ _ _=>rfl,fun _ _ _ _ _ _ _=>rfl,fun _ _ _ _ _ _=>rfl,fun _ _ _ _ _ _ _=>rfl,fun _ _ _ _=>rfl,fun _ _ _ _=>rfl,fun _ _ _ _=>rfl,fun _ _ _ _ _=>rfl,fun _ _ _ _ _=>rfl,fun _ _ _ _=>rfl,fun _ _ _ _=>rfl,fun _ _ _ _ _=>rfl,fun _ _ _ _ _=>rfl,fun _ _ _=>rfl,fun _ _ _ _=>rfl,fun _ _=>rfl,fun _ _ _=>rfl,fun _ _=>rfl⟩
def stk(r:Nat):Code->Option (List It)
 | .seq a b=>match stk r a with
  |some l=>some (l++[.code b])
  |none=>stk r b
 | .cond _ a b=>match stk r a with
  |some l=>some l
  |none=>stk r b
 | .block i b=>match stk r b with
  |some l=>some (l++[.inBlock i])
  |none=>none
 | .loop b=>match stk r b with
  |some l=>some (l++[.inLoop b])
  |none=>none
 | .scope b=>match stk r b with
  |some l=>some (l++[.inScope b])
  |none=>none
 | .region q o d=>match Nat.beq q r with
  |true=>some [.code (.region q o d)]
  |false=>none
 |_=>none
noncomputable def quc(f r:Nat):List It:=
 match cxX.F f with
 |some fn=>match fn.body with
  |some b=>(stk r b).getD []
  |none=>[]
 |none=>[]
def qrk(f:Nat):List Nat:=
 match mlT.get f with
 |some l=>l.map (·.1)
 |none=>[]
def qqz:List Nat->List SV->Slots
 |k::ks,.un::vs=>qqz ks vs
 |k::ks,v::vs=>(k,v)::qqz ks vs
 |_,_=>[]
instance : Coe AV SV := ⟨.av⟩
instance : Coe Value SV := ⟨.sv⟩
instance : Coe Value AV := ⟨.sc⟩
noncomputable def gx(f r:Nat)(vs:List SV)(bx:List (Nat×Nat×List AV))(hp:Hp):RO:=go cxX f (quc f r) ⟨qqz ((cxX.M f r).getD []) vs,bx,hp⟩
noncomputable def gb(f r:Nat)(vs:List SV)(hp:Hp):RO:=gx f r vs [] hp
theorem eE{f:Nat}{xs:List AV}{hp:Hp}{y:RO}(h:yj cxX f xs hp (qdn cxX f (qrk f) 400)=y):run cxX f xs hp=y:=(qu7 cxX f (qrk f) 400 xs hp).trans h
theorem eX{f r:Nat}{vs:List SV}{bx:List (Nat×Nat×List AV)}{hp:Hp}{y:RO}(h:jI cxX (run cxX) (qdn cxX f (qrk f) 400) f (quc f r) ⟨qqz ((cxX.M f r).getD []) vs,bx,hp⟩=y):gx f r vs bx hp=y:=(qvo cxX f (qrk f) 400 _ _).trans h
theorem eB{f r:Nat}{vs:List SV}{hp:Hp}{y:RO}(h:jI cxX (run cxX) (qdn cxX f (qrk f) 400) f (quc f r) ⟨qqz ((cxX.M f r).getD []) vs,[],hp⟩=y):gb f r vs hp=y:=eX h
@[simp] noncomputable abbrev zL0:List AV:=[Value.string (ByteArray.mk (Array.mk [])),kB 0,nl]
@[simp] noncomputable abbrev zL1:List AV:=[Value.pointer none,kU 0,kW 0,kI 0,kB 0,.sc (.bool false),nl,kI 0]
@[simp] noncomputable abbrev zL2:List AV:=[kI 0,kW 0,kW 0,kW 0,kW 0,kW 0,kW 0,kW 0,Value.float Go.FloatKind.f64 0,Value.float Go.FloatKind.f64 0,nl]
@[simp] noncomputable abbrev zL3:List AV:=[kB 0,nl,kI 0,nl,kI 0,nl,kI 0,kI 0,nl,kI 0,kI 0,nl,kI 0,kW 0,kW 0,kW 0,kW 0,kW 0,kW 0,kW 0,Value.float Go.FloatKind.f64 0,Value.float Go.FloatKind.f64 0,nl]
@[simp] noncomputable abbrev zL4:List AV:=[Value.string (ByteArray.mk (Array.mk [])),kB 0,nl,kI 0,nl,kI 0,nl,kI 0,kI 0,nl,kI 0,kI 0,nl,kI 0,kW 0,kW 0,kW 0,kW 0,kW 0,kW 0,kW 0,Value.float Go.FloatKind.f64 0,Value.float Go.FloatKind.f64 0,nl]
end Go.Proofs.YtoliekekdmfngaaGreat.AI
