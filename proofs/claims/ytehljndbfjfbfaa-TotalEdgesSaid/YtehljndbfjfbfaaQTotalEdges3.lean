/- Texts that the proof of TotalEdges rests on, part 3. -/
import Derived.Test.YtehljndbfjfbfaaQTotalEdges2
import Derived.Scope
import Derived.Test.YtehljndbfjfbfaaProg
namespace Go.Proofs.Ytehljndbfjfbfaa.AI
open Go
set_option linter.unusedVariables false
set_option linter.unusedSimpArgs false
set_option maxRecDepth 100000
set_option maxHeartbeats 0
section
variable {c:Cx}{C:Orc}{h:Nat}{ev ev':Operand->SV}
theorem kX{R:Type}(zq:Nat->Option (Nat×Nat))(K:List AV->Option R):∀(l:List (Nat×Operand)) (cs:List AV),(∀p∈l,ev p.2=ev' p.2)->zy zq ev K l cs=zy zq ev' K l cs
 |[],cs,_=>rfl
 |(i,x)::r,cs,hl=>by
  simp only[zy]
  rw[hl (i,x) qe]
  split
  ·rfl
  ·congr 1;funext vs;congr 1;funext cs'
   exact kX zq K r cs' fun p hp=>hl p (by simp[hp])
theorem ZF(x:Option Operand)(hx:∀y,x=some y->ev y=ev' y):QJ ev x=QJ ev' x:=by
 cases x with
 |none=>rfl
 |some y=>simp only[QJ];rw[hx y rfl]
theorem ZJ{l:List Operand}(hl:∀x∈l,ev x=ev' x):l.map ev=l.map ev':=List.map_congr_left hl
theorem XT{R:Type}{o:Oper}{gb:Nat->Option (Nat×List AV)}{hp:Hp}{K:Kt R}(h1:∀x∈o.op.operands.toList,ev x=ev' x):
 qi c C h o ev gb hp K=qi c C h o ev' gb hp K:=by
 obtain⟨dst,op,type,pos,after,guard⟩:=o
 cases op<;>simp only[Op.operands]at h1
 case build t ps=>
  simp only[qi]
  have hps:∀p∈ps.toList,ev p.2=ev' p.2:=fun p hp=>h1 _ (qcf.mpr ⟨p,hp,rfl⟩)
  simp only[kX _ _ ps.toList _ hps]
 case buildSlice t n ps=>
  simp only[qi]
  have hps:∀p∈ps.toList,ev p.2=ev' p.2:=fun p hp=>h1 _ (qcf.mpr ⟨p,hp,rfl⟩)
  simp only[kX _ _ ps.toList _ hps]
 case makeFunc fn first captured=>
  cases fn<;>simp only[qi]
  rw[ZJ (l:=captured.toList) fun x hx=>h1 x (by simp at hx⊢;exact .inr hx),ZJ (l:=first.toList) fun x hx=>h1 x (by simp at hx⊢;exact .inl hx)]
 case makeMap t m=>cases m<;>rfl
 case slice t x lo hi mx=>
  simp only[qi]
  rw[h1 x qe,ZF lo (fun y hy=>h1 y (by subst hy;simp)),ZF hi (fun y hy=>h1 y (by subst hy;simp)),ZF mx (fun y hy=>h1 y (by subst hy;simp))]
 case call cl=>
  have ha:cl.args.toList.map ev=cl.args.toList.map ev':=ZJ fun x hx=>h1 x (by simp[Call.operands];exact .inr (by simpa using hx))
  cases hc:cl.callee with
  |builtin b=>simp only[qi,hc,ha]
  |invoke r n=>simp only[qi,hc]
  |value f=>
   cases f with
   |tmp t=>
    have:=h1 (.tmp t) (by simp[Call.operands,hc])
    simp only[qi,hc,ha,this]
   |func f=>simp only[qi,hc,ha]
   |const v=>simp only[qi,hc]
   |global g=>simp only[qi,hc]
 all_goals simp only[qi]
 all_goals (first|rfl|(simp only[qb3,List.not_mem_nil,or_false,forall_eq_or_imp,forall_eq]at h1;(try obtain⟨h1,h2⟩:=h1);(try obtain⟨h2,h3⟩:=h2);simp only[*]))
theorem Ws{o:Oper}(h1:∀x∈o.op.operands.toList,ev x=ev' x):zk h o ev=zk h o ev'/\qA h o ev=qA h o ev':=by
 obtain⟨dst,op,type,pos,after,guard⟩:=o
 cases op<;>simp only[Op.operands]at h1<;>simp only[zk,qA]<;>try exact⟨trivial,trivial⟩
 case load t x=>rw[h1 x qe];exact⟨rfl,rfl⟩
 case store t x y=>rw[h1 x qe];exact⟨rfl,rfl⟩
def yx(c:Cx)(C:Orc)(h:Nat)(o:Oper)(ev:Operand->SV)(gb gb':Nat->Option (Nat×List AV))(hp hp':Hp)(r:SV×BE×Hp):Prop:=
 qi c C h o ev gb' hp' k3=some (r.1,r.2.1,⟨if(qA h o ev).2.2=true then r.2.2.next else hp'.next,if(qA h o ev).2.1=true then r.2.2.get else hp'.get⟩)/\
 ((qA h o ev).2.2=false->r.2.2.next=hp.next)/\((qA h o ev).2.1=false->r.2.2.get=hp.get)/\∀k g cs,r.2.1=some (k,g,cs)->(zk h o ev).2=some k
theorem Yh{o:Oper}{gb gb':Nat->Option (Nat×List AV)}{hp hp':Hp}{r:SV×BE×Hp}{Z:Option SV}(hH:qA h o ev=(false,false,false))
 (hz:∀gb hp,qi c C h o ev gb hp k3=Z.bind fun s=>some (s,none,hp)) (hr:qi c C h o ev gb hp k3=some r):yx c C h o ev gb gb' hp hp' r:=by
 rw[hz]at hr
 obtain⟨s,hs,hr⟩:=bsm hr
 cases hr
 unfold yx
 rw[hz,hs,hH]
 exact⟨rfl,fun _=>rfl,fun _=>rfl,fun _ _ _ e=>by cases e⟩
theorem Ve{p:Prop}[Decidable p](h:¬p):xT p=none:=if_neg h
theorem Yu{R:Type}(h2:h≠2){o:Oper}{b:Builtin}{ts:List TypeId}{as_:List SV}{hp:Hp}{K:SV->Hp->Option R}:
 vH c h o b ts as_ hp K=(vH c h o b ts as_ hp0 fun s _=>some s).bind fun s=>K s hp:=by
 unfold vH
 repeat' split
 all_goals first
  |(simp[qbl,h2,Ve];done)
  |rfl
theorem ZU{o:Oper}(hop:match o.op with| .load _ _=>False| .store _ _ _=>False| .alloc _=>False| .box _ _=>False| .makeSlice _ _ _=>False| .makeMap _ _=>False| .lookup _ _ _ _=>False| .mapUpdate _ _ _ _=>False| .move _=>h≠3| .assign _=>h≠3| .call cl=>(match cl.callee with| .builtin _=>h≠2|_=>False)|_=>True):
 ∃Z:Option SV,∀gb hp,qi c C h o ev gb hp k3=Z.bind fun s=>some (s,none,hp):=by
 obtain⟨dst,op,type,pos,after,guard⟩:=o
 cases op<;>simp only at hop<;>try exact hop.elim
 case move x=>
  cases hti:c.tt type with
  |none=>exact⟨none,fun gb hp=>by simp only[qi,hti];rfl⟩
  |some ti=>exact⟨some (if h=1 then vy ti.k (ev x)else vy ti.k (ev x).ro),fun gb hp=>by simp only[qi,hti,if_neg hop];rfl⟩
 case assign x=>
  cases hti:c.tt type with
  |none=>exact⟨none,fun gb hp=>by simp only[qi,hti];rfl⟩
  |some ti=>exact⟨some (vy ti.k (ev x)),fun gb hp=>by simp only[qi,hti,if_neg hop];rfl⟩
 case pick x y z=>exact⟨kG (ev x) (ev y) (ev z) some,fun gb hp=>by simp only[qi];rw[xp]⟩
 case build t ps=>
  cases hti:c.tn t with
  |none=>exact⟨none,fun gb hp=>by simp only[qi,hti];rfl⟩
  |some ti=>
   cases hk:ti.k with
   |st fs=>
    by_cases hall:fs.all (fun p=>(c.tn p.2).isSome)=true
    ·exact⟨(zy (kF c fs) ev some ps.toList (qH ti.zero)).bind fun cs=>some (.av (.agg (cs.map ro1))),fun gb hp=>by
      simp only[qi,hti,hk,if_pos hall];rw[zh];simp[qbl]⟩
    ·exact⟨none,fun gb hp=>by simp only[qi,hti,hk,if_neg hall];rfl⟩
   |ar n e=>
    cases hei:c.tn e with
    |none=>exact⟨none,fun gb hp=>by simp only[qi,hti,hk,hei];rfl⟩
    |some ei=>exact⟨(zy (fun i=>some (i*ei.size,ei.size)) ev some ps.toList (qH ti.zero)).bind fun cs=>some (.av (.agg (cs.map ro1))),fun gb hp=>by
     simp only[qi,hti,hk,hei];rw[zh];simp[qbl]⟩
   |_=>exact⟨none,fun gb hp=>by simp only[qi,hti,hk];rfl⟩
 case buildSlice t n ps=>
  cases hti:c.tn t with
  |none=>exact⟨none,fun gb hp=>by simp only[qi,hti];rfl⟩
  |some ti=>
   cases hk:ti.k with
   |sl e=>
    cases hei:c.tn e with
    |none=>exact⟨none,fun gb hp=>by simp only[qi,hti,hk,hei];rfl⟩
    |some ei=>
     by_cases hn:n*ei.size<=4096/\0<ei.size
     ·exact⟨(zy (fun i=>some (i*ei.size,ei.size)) ev some ps.toList (List.replicate n (qH ei.zero)).flatten).bind fun cs=>(VP cs).bind fun _=>some (.av (.us ei.size (cs.map ro1))),fun gb hp=>by
       simp only[qi,hti,hk,hei,if_pos hn];rw[zh];simp[qbl]⟩
     ·exact⟨none,fun gb hp=>by simp only[qi,hti,hk,hei,if_neg hn];rfl⟩
   |_=>exact⟨none,fun gb hp=>by simp only[qi,hti,hk];rfl⟩
 case nilCheck x=>
  cases hx:ev x with
  |lp k g off=>exact⟨some (.lp k g off),fun gb hp=>by simp only[qi,hx];rfl⟩
  |av y=>exact⟨(Kg y).bind fun _=>some (.av y),fun gb hp=>by simp only[qi,hx];simp[qbl]⟩
  |_=>exact⟨none,fun gb hp=>by simp only[qi,hx];rfl⟩
 case binOp op t x y yt=>exact⟨ZX c op t x y (ev x) (ev y) some,fun gb hp=>by simp only[qi];rw[vh]⟩
 case unOp op t x=>exact⟨(zY (ev x)).bind fun v=>(Kn c.P op v).bind fun z=>some (.sv z),fun gb hp=>by simp only[qi];simp[qbl]⟩
 case convert s d x=>
  cases hs:c.tn s with
  |none=>exact⟨none,fun gb hp=>by simp only[qi,hs];rfl⟩
  |some si=>
   cases hd:c.tn d with
   |none=>exact⟨none,fun gb hp=>by simp only[qi,hs,hd];rfl⟩
   |some di=>exact⟨vb c s d si di (ev x) some,fun gb hp=>by simp only[qi,hs,hd];rw[xy]⟩
 case makeFunc fn fs cs=>
  cases fn with
  |func f=>
   by_cases hf:fs.toList.isEmpty=true
   ·exact⟨(kg (cs.toList.map ev)).bind fun xs=>if xs.all kV=true then(ZW (Nat.blt f 4294967296)).bind fun _=>some (.av (.fn f (xs.map ro1)))else none,fun gb hp=>by
     simp only[qi,if_pos hf,qbl]
     congr 1;funext xs
     split<;>simp[qbl]⟩
   ·by_cases hc:cs.toList.isEmpty=true
    ·exact⟨(kg (fs.toList.map ev)).bind fun xs=>(Vr xs).bind fun _=>some (.av (.fn (4294967296+f) (xs.map ro1))),fun gb hp=>by
      simp only[qi,if_neg hf,if_pos hc,qbl]
      congr 1⟩
    ·exact⟨none,fun gb hp=>by simp only[qi,if_neg hf,if_neg hc];rfl⟩
  |_=>exact⟨none,fun gb hp=>rfl⟩
 case slice t x lo hi mx=>
  cases hti:c.tn t with
  |none=>exact⟨none,fun gb hp=>by simp only[qi,hti];rfl⟩
  |some ti=>
   by_cases hm:(mx.isSome&&!hi.isSome)=true
   ·exact⟨none,fun gb hp=>by simp only[qi,hti,if_pos hm];rfl⟩
   ·exact⟨(QJ ev lo).bind fun l=>(QJ ev hi).bind fun u=>(QJ ev mx).bind fun m=>yF c h ti t (ev x) l u m some,fun gb hp=>by
     simp only[qi,hti,if_neg hm,qbl]
     congr 1;funext l;congr 1;funext u;congr 1;funext m
     rw[yE]⟩
 case fieldAddr t x f=>
  cases hti:c.tn t with
  |none=>exact⟨none,fun gb hp=>by simp only[qi,hti];rfl⟩
  |some ti=>exact⟨zo c ti (ev x) f some,fun gb hp=>by simp only[qi,hti];rw[jo]⟩
 case field t x f=>
  cases hti:c.tn t with
  |none=>exact⟨none,fun gb hp=>by simp only[qi,hti];rfl⟩
  |some ti=>
   cases hk:ti.k with
   |st fs=>
    cases hf:fs[f]? with
    |none=>exact⟨none,fun gb hp=>by simp only[qi,hti,hk,hf];rfl⟩
    |some q=>
     obtain⟨fo,ft⟩:=q
     cases hfi:c.tn ft with
     |none=>exact⟨none,fun gb hp=>by simp only[qi,hti,hk,hf,hfi];rfl⟩
     |some fi=>exact⟨(vj (ev x)).bind fun cs=>(zb fi 0 cs fo fun s l=>some (s,l)).bind fun p=>some p.1,fun gb hp=>by
      simp only[qi,hti,hk,hf,hfi,qbl]
      congr 1;funext cs;rw[qp];rfl⟩
   |_=>exact⟨none,fun gb hp=>by simp only[qi,hti,hk];rfl⟩
 case indexAddr t x i=>
  cases hti:c.tn t with
  |none=>exact⟨none,fun gb hp=>by simp only[qi,hti];rfl⟩
  |some ti=>exact⟨zn c h ti (ev x) (ev i) some,fun gb hp=>by simp only[qi,hti];rw[jj]⟩
 case index t x i=>
  cases hti:c.tt type with
  |none=>exact⟨none,fun gb hp=>by simp only[qi,hti];rfl⟩
  |some ti=>
   by_cases hs:wP ti.k=true
   ·exact⟨(wc (ev x)).bind fun a=>(zY (ev i)).bind fun iv=>(ixV c.P t a iv).bind fun z=>some (.sv z),fun gb hp=>by simp only[qi,hti,if_pos hs];simp[qbl]⟩
   ·cases hxi:c.tn t with
    |none=>exact⟨none,fun gb hp=>by simp only[qi,hti,if_neg hs,hxi];rfl⟩
    |some xi=>
     cases hk:xi.k with
     |ar n e=>
      cases hei:c.tn e with
      |none=>exact⟨none,fun gb hp=>by simp only[qi,hti,if_neg hs,hxi,hk,hei];rfl⟩
      |some ei=>exact⟨(vj (ev x)).bind fun cs=>(zY (ev i)).bind fun iv=>(idx n iv).bind fun j=>(zb ei 0 cs (j*ei.size) fun s l=>some (s,l)).bind fun p=>some p.1,fun gb hp=>by
       simp only[qi,hti,if_neg hs,hxi,hk,hei,qbl]
       congr 1;funext cs;congr 1;funext iv;congr 1;funext j;rw[qp];rfl⟩
     |_=>exact⟨none,fun gb hp=>by simp only[qi,hti,if_neg hs,hxi,hk];rfl⟩
 case extract x i=>
  cases hx:ev x with
  |tp l=>
   cases hl:l[i]? with
   |none=>exact⟨none,fun gb hp=>by simp only[qi,hx,hl];rfl⟩
   |some y=>
    cases hti:c.tt type with
    |none=>exact⟨none,fun gb hp=>by simp only[qi,hx,hl,hti];rfl⟩
    |some ti=>
     by_cases hs:wP ti.k=true
     ·exact⟨(yw y).bind fun v=>some (.sv v),fun gb hp=>by simp only[qi,hx,hl,hti,if_pos hs];simp[qbl]⟩
     ·by_cases h1:h=1
      ·exact⟨some (.av (ro y)),fun gb hp=>by simp only[qi,hx,hl,hti,if_neg hs,if_pos h1];rfl⟩
      ·exact⟨some (.av y),fun gb hp=>by simp only[qi,hx,hl,hti,if_neg hs,if_neg h1];rfl⟩
  |_=>exact⟨none,fun gb hp=>by simp only[qi,hx];rfl⟩
 case call cl=>
  cases hc:cl.callee with
  |builtin b=>
   simp only[hc]at hop
   exact⟨vH c h ⟨dst,.call cl,type,pos,after,guard⟩ b cl.argTypes.toList (cl.args.toList.map ev) hp0 fun s _=>some s,fun gb hp=>by simp only[qi,hc];rw[Yu hop]⟩
  |invoke r n=>simp only[hc]at hop
  |value f=>simp only[hc]at hop
 all_goals exact⟨none,fun gb hp=>rfl⟩
end
section
variable {c:Cx}{C:Orc}{h:Nat}{ev:Operand->SV}
theorem ye{a b:Hp}(h1:a.next=b.next)(h2:a.get=b.get):a=b:=by
 cases a;cases b;simp only at h1 h2;subst h1;subst h2;rfl
theorem YZ{a b:Hp}(h:a.get=b.get):a.rd=b.rd:=by
 funext x y;simp only[Hp.rd,h]
theorem Qz{a b:Hp}(h:a.get=b.get)(x g:Nat)(cs:List AV):(a.put x g cs).get=(b.put x g cs).get:=by
 simp only[Hp.put,h]
theorem KD{a b:Hp}(h:a.get=b.get):a.rdM=b.rdM:=by
 funext x;simp only[Hp.rdM,h]
theorem yk{o:Oper}{gb gb':Nat->Option (Nat×List AV)}{hp hp':Hp}{r:SV×BE×Hp}(hH:qA h o ev=(true,true,true))(hg:qi c C h o ev gb' hp k3=qi c C h o ev gb hp k3)
 (hn:r.2.1=none) (hr:qi c C h o ev gb hp k3=some r) (hA:(qA h o ev).1=true\/(qA h o ev).2.1=true->hp'.get=hp.get)
 (hB:(qA h o ev).2.2=true->hp'.next=hp.next):yx c C h o ev gb gb' hp hp' r:=by
 unfold yx
 rw[hH]at hA hB⊢
 have e:hp'=hp:=ye (hB rfl) (hA (.inl rfl))
 subst e
 rw[hg,hr]
 exact⟨rfl,fun e=>(by cases e),fun e=>(by cases e),fun k g cs e=>by rw[hn]at e;cases e⟩
theorem wN{ti:TI}{a:SV}{gb:Nat->Option (Nat×List AV)}{hp:Hp}{r:SV×BE×Hp}(hr:qR 0 ti a gb hp k3=some r):r.2.1=none:=by
 unfold qR at hr
 split at hr
 ·split at hr
  ·split at hr
   ·rw[qp]at hr
    obtain⟨q,hq,hr⟩:=bsm hr
    cases hr;rfl
   ·cases hr
  ·cases hr
 ·rw[if_neg qf,qp]at hr
  obtain⟨q,hq,hr⟩:=bsm hr
  cases hr;rfl
 ·obtain⟨q,hq,hr⟩:=bsm hr
  obtain⟨cs,hcs,hr⟩:=bsm hr
  rw[qp]at hr
  obtain⟨q,hq,hr⟩:=bsm hr
  cases hr;rfl
 ·cases hr
theorem Yf{o:Oper}{t:TypeId}{x:Operand}(hop:o.op= .load t x)(h3:h=3){gb gb':Nat->Option (Nat×List AV)}{hp hp':Hp}{r:SV×BE×Hp}(hr:qi c C h o ev gb hp k3=some r)
 (hb:∀k,(zk h o ev).1=some k\/(zk h o ev).2=some k->gb' k=gb k) (hA:(qA h o ev).1=true\/(qA h o ev).2.1=true->hp'.get=hp.get)
 (hB:(qA h o ev).2.2=true->hp'.next=hp.next):yx c C h o ev gb gb' hp hp' r:=by
 subst h3
 have e1:∀gb hp,qi c C 3 o ev gb hp k3=(match c.tn t with|some ti=>qR 0 ti (ev x) gb hp fun s b q=>Yj ti.k q s fun s' q'=>k3 s' b q'|none=>none):=fun gb hp=>by simp only[qi,hop]<;>rfl
 have eH:qA 3 o ev=(true,true,true):=by
  simp only[qA,hop]
  cases ev x<;>rfl
 have eB:∀k g off,ev x= .lp k g off->gb' k=gb k:=fun k g off e=>hb k (by simp[zk,hop,e])
 cases hti:c.tn t with
 |none=>rw[e1,hti]at hr;cases hr
 |some ti=>
  refine yk eH ?_ ?_ hr hA hB
  ·rw[e1,e1,hti]
   simp only
   unfold qR
   cases hx:ev x with
   |lp k g off=>simp only[eB k g off hx]
   |_=>rfl
  ·rw[e1,hti]at hr
   simp only[jx]at hr
   rw[zO]at hr
   obtain⟨q,hq,hr⟩:=bsm hr
   obtain⟨q',hq',hr⟩:=bsm hr
   cases hr
   have:=wN hq
   exact this
theorem Xx{ti:TI}{hp hp':Hp}{y:AV}{p:Nat×Nat×Nat}(hy:zS y=some p){cs:List AV}(h1:h≠1)(hcs:hp.rd p.1 p.2.1=some cs){s:SV×List AV}(hs:zb ti h cs p.2.2 (fun s cs'=>some (s,cs'))=some s)
 (hq:zz (y,match zA ti.k with|true=>ti.size|false=>1) hp'.get=zz (y,match zA ti.k with|true=>ti.size|false=>1) hp.get):
 ∃cs',hp'.rd p.1 p.2.1=some cs'/\∃s',zb ti h cs' p.2.2 (fun s cs'=>some (s,cs'))=some s'/\s'.1=s.1:=by
 obtain⟨hg,h0⟩:hp.get p.1=some (0,cs)/\p.2.1=0:=by
  unfold Hp.rd at hcs
  obtain⟨z,hz,hcs⟩:=bsm hcs
  split at hcs
  ·rename_i e
   cases hcs
   refine⟨?_,e.2⟩
   rw[hz]
   obtain⟨z1,z2⟩:=z
   have:z1=0:=by have:=e.1;have:=e.2;omega
   subst this;rfl
  ·cases hcs
 have key:∀n,zz (y,n) hp.get=(jN cs p.2.2 n).map (List.map ro1):=by
  intro n
  simp only[zz,hy,hg,qbp,if_true]
 have key':∀n l,zz (y,n) hp'.get=some l->∃cs',hp'.rd p.1 p.2.1=some cs'/\∃l',jN cs' p.2.2 n=some l'/\l'.map ro1=l:=by
  intro n l hl
  unfold zz at hl
  simp only[hy,qbp]at hl
  obtain⟨z,hz,hl⟩:=bsm hl
  split at hl
  ·rename_i e
   obtain⟨l',hl',rfl⟩:=Option.map_eq_some_iff.mp hl
   refine⟨z.2,?_,l',hl',rfl⟩
   have hz:hp'.get p.1=some z:=hz
   have e:z.1=0:=e
   simp only[Hp.rd,hz,qbp,e,h0,and_self,if_true]
  ·cases hl
 unfold zb at hs⊢
 split at hs
 ·rename_i hsc
  have hag:zA ti.k=false:=by cases hk:ti.k<;>rw[hk]at hsc<;>first|rfl|cases hsc
  rw[hag]at hq
  obtain⟨v,hv,hs⟩:=bsm hs
  cases hs
  have hx:=jk hv
  have hlt:=(qbm.mp hx).1
  have e1:jN cs p.2.2 1=some [.sc v]:=by
   unfold jN
   rw[if_pos qc]
   congr 1
   obtain⟨_,h2⟩:=qbm.mp hx
   rw[qcd hlt,h2];rfl
  rw[key,e1]at hq
  obtain⟨cs',hr,l',hl',e⟩:=key' 1 _ hq
  refine⟨cs',hr,(.sv v,cs'),?_,rfl⟩
  have e2:cs'[p.2.2]?=some (.sc v):=by
   obtain⟨hle,rfl⟩:=qT hl'
   have hlt':p.2.2<cs'.length:=qc
   rw[qcd hlt']at e
   have e:ro1 cs'[p.2.2]= .sc v:=(List.cons.inj e).1
   rw[qbw hlt']
   cases hy:cs'[p.2.2]<;>rw[hy]at e<;>first|exact congrArg some e|cases e
  have e3:xO cs' p.2.2=some v:=by simp[xO,e2,yw]
  rw[if_pos hsc,e3];rfl
 ·rename_i hsc
  simp only[if_neg hsc]
  split at hs
  ·rename_i hag
   rw[hag]at hq
   obtain⟨l,hl,hs⟩:=bsm hs
   cases hs
   rw[key,hl]at hq
   obtain⟨cs',hr,l',hl',e⟩:=key' ti.size _ hq
   refine⟨cs',hr,(.av (.agg (l'.map ro1)),cs'),?_,by rw[e]⟩
   rw[if_pos hag,hl']
   simp only[qbp,if_neg h1]
  ·rename_i hag
   have hag':zA ti.k=false:=by cases h:zA ti.k<;>first|rfl|exact absurd h hag
   rw[hag']at hq
   obtain⟨x,hx,hs⟩:=bsm hs
   cases hs
   have hx:cs[p.2.2]?=some x:=hx
   have hlt:=(qbm.mp hx).1
   have e1:jN cs p.2.2 1=some [x]:=by
    unfold jN
    rw[if_pos qc]
    congr 1
    obtain⟨_,h2⟩:=qbm.mp hx
    rw[qcd hlt,h2];rfl
   rw[key,e1]at hq
   obtain⟨cs',hr,l',hl',e⟩:=key' 1 _ hq
   obtain⟨hle,rfl⟩:=qT hl'
   have hlt':p.2.2<cs'.length:=qc
   rw[qcd hlt']at e
   have e:ro1 cs'[p.2.2]=ro1 x:=(List.cons.inj e).1
   refine⟨cs',hr,(.av (ro1 cs'[p.2.2]),cs'),?_,by rw[e]⟩
   have e3:KV cs' p.2.2=some cs'[p.2.2]:=qbw hlt'
   simp only[if_neg hag,e3,qbp,if_neg h1]
theorem Xw{o:Oper}{t:TypeId}{x:Operand}(hop:o.op= .load t x)(h3:h≠3){gb gb':Nat->Option (Nat×List AV)}{hp hp':Hp}{r:SV×BE×Hp}(hr:qi c C h o ev gb hp k3=some r)
 (hb:∀k,(zk h o ev).1=some k\/(zk h o ev).2=some k->gb' k=gb k) (hA:(qA h o ev).1=true\/(qA h o ev).2.1=true->hp'.get=hp.get)
 (hL:∀q,QO h o c.tn ev=some q->zz q hp'.get=zz q hp.get):yx c C h o ev gb gb' hp hp' r:=by
 have e1:∀gb hp,qi c C h o ev gb hp k3=(match c.tn t with|some ti=>qR h ti (ev x) gb hp k3|none=>none):=fun gb hp=>by
  simp only[qi,hop]
  cases c.tn t with
  |none=>rfl
  |some ti=>simp only[if_neg h3]
 have eB:zk h o ev=(match ev x with| .lp k _ _=>if h=1 then(none,some k)else(some k,none)|_=>(none,none)):=by simp only[zk,hop]<;>rfl
 have h3b:(h==3)=false:=by simpa using h3
 have eH:qA h o ev=(match ev x with| .av _=>(h==1,h==1,false)|_=>(false,false,false)):=by
  simp only[qA,hop,h3b,Bool.or_false]
  cases ev x<;>rfl
 unfold yx
 rw[e1]at hr⊢
 rw[eH]at hA⊢
 rw[eB]at hb⊢
 cases hti:c.tn t with
 |none=>rw[hti]at hr;cases hr
 |some ti=>
  rw[hti]at hr
  simp only at hr⊢
  unfold qR at hr⊢
  cases hx:ev x with
  |lp k g off=>
   rw[hx]at hr hb
   simp only at hr hb⊢
   have hg:gb' k=gb k:=by
    apply hb
    by_cases h1:h=1<;>simp[h1]
   rw[hg]
   cases hgb:gb k with
   |none=>rw[hgb]at hr;cases hr
   |some q=>
    obtain⟨g',cs⟩:=q
    rw[hgb]at hr
    simp only at hr⊢
    by_cases hgg:g=g'
    ·simp only[if_pos hgg]at hr⊢
     rw[qp]at hr⊢
     obtain⟨q,hq,hr⟩:=bsm hr
     cases hr
     rw[hq]
     refine⟨rfl,fun _=>rfl,fun _=>rfl,fun k' g' cs' e=>?_⟩
     by_cases h1:h=1
     ·simp only[h1,if_true]at e⊢
      cases e;rfl
     ·simp only[h1,if_false]at e;cases e
    ·simp only[if_neg hgg]at hr;cases hr
  |rv cs=>
   rw[hx]at hr
   simp only at hr⊢
   by_cases h1:h=1
   ·simp only[if_pos h1]at hr;cases hr
   ·simp only[if_neg h1]at hr⊢
    rw[qp]at hr⊢
    obtain⟨q,hq,hr⟩:=bsm hr
    cases hr
    rw[hq]
    exact⟨rfl,fun _=>rfl,fun _=>rfl,fun _ _ _ e=>by cases e⟩
  |av y=>
   rw[hx]at hr hA
   simp only at hr hA⊢
   obtain⟨p,hp1,hr⟩:=bsm hr
   obtain⟨cs,hcs,hr⟩:=bsm hr
   by_cases h1:h=1
   ·have hne:(h==1)=true:=by simp[h1]
    have hge:hp'.get=hp.get:=hA (.inl hne)
    rw[hp1,YZ hge]
    simp only[qbp,hcs]
    rw[qp]at hr⊢
    obtain⟨q,hq,hr⟩:=bsm hr
    cases hr
    rw[hq]
    refine⟨?_,fun _=>?_,fun e=>?_,fun _ _ _ e=>by cases e⟩
    ·simp only[h1,if_true,qbp,beq_self_eq_true,qbz,if_false]
     refine congrArg some (congrArg (Prod.mk _) (congrArg (Prod.mk _) (ye rfl (Qz hge _ _ _))))
    ·simp only[if_pos h1];rfl
    ·have e':(h==1)=false:=e
     rw[hne]at e';cases e'
   ·have hne:(h==1)=false:=by simpa using h1
    have hq:=hL _ (by simp only[QO,hop,hx,hne,h3b,Bool.or_false,hti];rfl)
    rw[hp1]
    simp only[qbp]
    rw[qp]at hr
    obtain⟨s,hs,hr⟩:=bsm hr
    obtain⟨cs',hcs',hs'⟩:=Xx hp1 h1 hcs hs hq
    rw[hcs']
    simp only[qbp]
    rw[qp]
    obtain⟨s',hs'',e⟩:=hs'
    rw[hs'']
    simp only[qbp,if_neg h1]at hr⊢
    cases hr
    rw[e]
    refine⟨?_,fun _=>rfl,fun _=>rfl,fun _ _ _ e=>by cases e⟩
    simp only[hne,qbz,if_false]
  |_=>rw[hx]at hr;cases hr
theorem Ye{o:Oper}{t:TypeId}{x y:Operand}(hop:o.op= .store t x y){gb gb':Nat->Option (Nat×List AV)}{hp hp':Hp}{r:SV×BE×Hp}(hr:qi c C h o ev gb hp k3=some r)
 (hb:∀k,(zk h o ev).1=some k\/(zk h o ev).2=some k->gb' k=gb k) (hA:(qA h o ev).1=true\/(qA h o ev).2.1=true->hp'.get=hp.get):yx c C h o ev gb gb' hp hp' r:=by
 have e1:∀gb hp,qi c C h o ev gb hp k3=(match c.tn t with|some ti=>zM ti (ev x) (ev y) gb hp k3|none=>none):=fun gb hp=>by simp only[qi,hop]<;>rfl
 have eB:zk h o ev=(match ev x with| .lp k _ _=>(none,some k)|_=>(none,none)):=by simp only[zk,hop]<;>rfl
 have eH:qA h o ev=(match ev x with| .av _=>(false,true,false)|_=>(false,false,false)):=by simp only[qA,hop]<;>rfl
 unfold yx
 rw[e1]at hr⊢
 rw[eH]at hA⊢
 rw[eB]at hb⊢
 cases hti:c.tn t with
 |none=>rw[hti]at hr;cases hr
 |some ti=>
  rw[hti]at hr
  simp only at hr⊢
  unfold zM at hr⊢
  obtain⟨vs,hvs,hr⟩:=bsm hr
  rw[hvs]
  simp only[qbp]
  cases hx:ev x with
  |lp k g off=>
   rw[hx]at hr hb
   simp only at hr hb⊢
   have hg:gb' k=gb k:=hb k (.inr rfl)
   rw[hg]
   cases hgb:gb k with
   |none=>rw[hgb]at hr;cases hr
   |some q=>
    obtain⟨g',cs⟩:=q
    rw[hgb]at hr
    simp only at hr⊢
    by_cases hgg:g=g'
    ·simp only[if_pos hgg]at hr⊢
     obtain⟨q,hq,hr⟩:=bsm hr
     cases hr
     rw[hq]
     exact⟨rfl,fun _=>rfl,fun _=>rfl,fun k' g' cs' e=>by cases e;rfl⟩
    ·simp only[if_neg hgg]at hr;cases hr
  |av z=>
   rw[hx]at hr hA
   simp only at hr hA⊢
   have hge:hp'.get=hp.get:=hA (.inr trivial)
   obtain⟨p,hp1,hr⟩:=bsm hr
   obtain⟨cs,hcs,hr⟩:=bsm hr
   obtain⟨q,hq,hr⟩:=bsm hr
   cases hr
   rw[hp1,YZ hge]
   simp only[qbp,hcs,hq,if_true,qbz,if_false]
   refine⟨?_,fun _=>rfl,fun e=>(by cases e),fun _ _ _ e=>by cases e⟩
   exact congrArg some (congrArg (Prod.mk _) (congrArg (Prod.mk _) (ye rfl (Qz hge _ _ _))))
  |_=>rw[hx]at hr;cases hr
theorem Jm{o:Oper}{cs:List AV}{gb gb':Nat->Option (Nat×List AV)}{hp hp':Hp}{r:SV×BE×Hp}{W:Option (List AV)}
 (he:∀gb hp,qi c C h o ev gb hp k3=W.bind fun cs=>if h=2 then k3 (.av (.ptr hp.next 0 0)) none (hp.new cs)else
  match o.dst with
  |some d=>let g:=match gb d with|some (g,_)=>g+1|none=>0
   k3 (.lp d g 0) (some (d,g,cs)) hp
  |none=>none)
 (eB:zk h o ev=if h=2 then(none,none)else(none,o.dst)) (eH:qA h o ev=(false,h==2,h==2))
 (hr:qi c C h o ev gb hp k3=some r) (hb:∀k,(zk h o ev).1=some k\/(zk h o ev).2=some k->gb' k=gb k) (hA:(qA h o ev).1=true\/(qA h o ev).2.1=true->hp'.get=hp.get)
 (hB:(qA h o ev).2.2=true->hp'.next=hp.next):yx c C h o ev gb gb' hp hp' r:=by
 unfold yx
 rw[he]at hr⊢
 rw[eH]at hA hB⊢
 rw[eB]at hb⊢
 obtain⟨cs,hcs,hr⟩:=bsm hr
 rw[hcs]
 simp only[qbp]
 by_cases h2:h=2
 ·simp only[h2,if_true,beq_self_eq_true]at hr hA hB⊢
  cases hr
  have hg:=hA (.inr trivial)
  have hn:=hB trivial
  refine⟨?_,fun e=>(by cases e),fun e=>(by cases e),fun _ _ _ e=>by cases e⟩
  show some (SV.av (.ptr hp'.next 0 0),(none:BE),hp'.new cs)=some (SV.av (.ptr hp.next 0 0),none,⟨(hp.new cs).next,(hp.new cs).get⟩)
  rw[ye hn hg]
 ·have hne:(h==2)=false:=by simpa using h2
  simp only[if_neg h2,hne,qbz,if_false]at hr hb⊢
  cases hd:o.dst with
  |none=>rw[hd]at hr;cases hr
  |some d=>
   rw[hd]at hr hb
   simp only at hr hb⊢
   have hg:=hb d (.inr rfl)
   rw[hg]
   cases hr
   exact⟨rfl,fun _=>rfl,fun _=>rfl,fun k g cs e=>by cases e;rfl⟩
theorem Yg{ti:TI}{f:FuncId}{caps:List AV}{as_:List SV}{hp hp':Hp}{r:SV×BE×Hp}(hr:qW c C h ti f caps as_ hp k3=some r)(hA:h=2\/h=4->hp'.get=hp.get)(hB:h=2\/h=4->hp'.next=hp.next):
 qW c C h ti f caps as_ hp' k3=some (r.1,r.2.1,if h=2\/h=4 then r.2.2 else hp')/\(¬(h=2\/h=4)->r.2.2=hp)/\r.2.1=none:=by
 by_cases h24:h=2\/h=4
 ·rw[ye (hB h24) (hA h24),hr,if_pos h24]
  refine⟨rfl,fun e=>absurd h24 e,?_⟩
  unfold qW at hr
  obtain⟨xs,hxs,hr⟩:=bsm hr
  rcases h24 with h2|h4
  ·rw[if_pos h2]at hr
   obtain⟨p,hp1,hr⟩:=bsm hr
   rw[qZ]at hr
   obtain⟨s,hs,hr⟩:=bsm hr
   cases hr;rfl
  ·rw[if_neg qc,if_pos h4]at hr
   obtain⟨p,hp1,hr⟩:=bsm hr
   rw[qZ]at hr
   obtain⟨s,hs,hr⟩:=bsm hr
   cases hr;rfl
 ·have h2:h≠2:=fun e=>h24 (.inl e)
  have h4:h≠4:=fun e=>h24 (.inr e)
  unfold qW at hr⊢
  obtain⟨xs,hxs,hr⟩:=bsm hr
  rw[hxs]
  simp only[qbp]
  simp only[if_neg h2,if_neg h4,if_neg h24]at hr⊢
  obtain⟨u,hu,hr⟩:=bsm hr
  rw[hu]
  simp only[qbp]
  obtain⟨p,hp1,hr⟩:=bsm hr
  rw[hp1]
  simp only[qbp]
  obtain⟨u',hu',hr⟩:=bsm hr
  rw[hu']
  simp only[qbp]
  rw[qZ]at hr⊢
  obtain⟨s,hs,hr⟩:=bsm hr
  cases hr
  rw[hs]
  exact⟨rfl,fun _=>rfl,rfl⟩
theorem Yp{o:Oper}{gb gb':Nat->Option (Nat×List AV)}{hp hp':Hp}{r:SV×BE×Hp}(hr:qi c C h o ev gb hp k3=some r)
 (hb:∀k,(zk h o ev).1=some k\/(zk h o ev).2=some k->gb' k=gb k) (hA:(qA h o ev).1=true\/(qA h o ev).2.1=true->hp'.get=hp.get)
 (hB:(qA h o ev).2.2=true->hp'.next=hp.next) (hL:∀q,QO h o c.tn ev=some q->zz q hp'.get=zz q hp.get):yx c C h o ev gb gb' hp hp' r:=by
 have pure:qA h o ev=(false,false,false)->(match o.op with| .load _ _=>False| .store _ _ _=>False| .alloc _=>False| .box _ _=>False| .makeSlice _ _ _=>False| .makeMap _ _=>False| .lookup _ _ _ _=>False| .mapUpdate _ _ _ _=>False| .move _=>h≠3| .assign _=>h≠3| .call cl=>(match cl.callee with| .builtin _=>h≠2|_=>False)|_=>True)->yx c C h o ev gb gb' hp hp' r:=by
  intro hH hop
  obtain⟨Z,hz⟩:=ZU (c:=c) (C:=C) (h:=h) (ev:=ev) hop
  exact Yh hH hz hr
 cases hop:o.op
 case load t x=>
  by_cases h3:h=3
  ·exact Yf hop h3 hr hb hA hB
  ·exact Xw hop h3 hr hb hA hL
 case move x=>
  by_cases h3:h=3
  ·subst h3
   refine yk (by simp only[qA,hop];rfl) (by simp only[qi,hop]) ?_ hr hA hB
   simp only[qi,hop]at hr
   split at hr
   ·rw[if_pos trivial,jx]at hr
    obtain⟨q,hq,hr⟩:=bsm hr
    cases hr;rfl
   ·cases hr
  ·have h3b:(h==3)=false:=by simpa using h3
   exact pure (by simp only[qA,hop,h3b]) (by simp only[hop];exact h3)
 case assign x=>
  by_cases h3:h=3
  ·subst h3
   refine yk (by simp only[qA,hop];rfl) (by simp only[qi,hop]) ?_ hr hA hB
   simp only[qi,hop]at hr
   split at hr
   ·rw[if_pos trivial,jx]at hr
    obtain⟨q,hq,hr⟩:=bsm hr
    cases hr;rfl
   ·cases hr
  ·have h3b:(h==3)=false:=by simpa using h3
   exact pure (by simp only[qA,hop,h3b]) (by simp only[hop];exact h3)
 case makeMap t m=>
  have hm:m=none/\h=2:=by
   cases m with
   |some m=>simp only[qi,hop]at hr;cases hr
   |none=>
    simp only[qi,hop]at hr
    split at hr
    ·exact⟨rfl,by assumption⟩
    ·cases hr
  obtain⟨rfl,h2⟩:=hm
  refine yk (by simp only[qA,hop]) (by simp only[qi,hop]) ?_ hr hA hB
  simp only[qi,hop,if_pos h2]at hr
  cases hr;rfl
 case mapUpdate t m k x=>
  refine yk (by simp only[qA,hop]) (by simp only[qi,hop]) ?_ hr hA hB
  simp only[qi,hop]at hr
  split at hr
  ·rw[yd]at hr
   obtain⟨q,hq,hr⟩:=bsm hr
   cases hr;rfl
  ·cases hr
 case lookup t x i ok=>
  have eH:qA h o ev=(true,false,false):=by simp only[qA,hop]
  have eB:zk h o ev=(none,none):=by simp only[zk,hop]
  unfold yx
  rw[eH]at hA⊢
  rw[eB]
  have hge:hp'.get=hp.get:=hA (.inl rfl)
  simp only[qi,hop]at hr⊢
  split at hr
  ·rw[jw]at hr
   obtain⟨s,hs,hr⟩:=bsm hr
   cases hr
   have e:zV c t (ev x) (ev i) ok hp' some=zV c t (ev x) (ev i) ok hp some:=by
    unfold zV
    rw[KD hge]
   rename_i h2
   rw[if_pos h2,jw,e,hs]
   exact⟨rfl,fun _=>rfl,fun _=>rfl,fun _ _ _ e=>by cases e⟩
  ·cases hr
 case store t x y=>exact Ye hop hr hb hA
 case alloc t=>
  refine Jm (cs:=[]) (W:=(c.tn t).map fun ti=>qH ti.zero) (fun gb hp=>?_) (by simp only[zk,hop]) (by simp only[qA,hop]) hr hb hA hB
  simp only[qi,hop]
  cases c.tn t<;>rfl
 case box t x=>
  refine Jm (cs:=[]) (W:=(c.tn t).bind fun ti=>(valC ti.size (ev x)).map fun vs=>vs.map ro1) (fun gb hp=>?_) (by simp only[zk,hop]) (by simp only[qA,hop]) hr hb hA hB
  simp only[qi,hop]
  cases c.tn t with
  |none=>rfl
  |some ti=>
   simp only[qbp]
   cases valC ti.size (ev x)<;>rfl
 case makeSlice t l m=>
  have eH:qA h o ev=(false,h==2,h==2):=by simp only[qA,hop]
  have eB:zk h o ev=(none,none):=by simp only[zk,hop]
  have key:∃W:Option (Nat×List AV×Nat),∀gb hp,qi c C h o ev gb hp k3=W.bind fun q=>if h=2 then k3 (.av (.ms hp.next 0 0 q.1 q.2.2)) none (hp.new q.2.1)else k3 (.av (.us q.2.2 q.2.1)) none hp:=by
   cases hti:c.tn t with
   |none=>exact⟨none,fun gb hp=>by simp only[qi,hop,hti];rfl⟩
   |some ti=>
    cases hk:ti.k with
    |sl e=>
     cases hei:c.tn e with
     |none=>exact⟨none,fun gb hp=>by simp only[qi,hop,hti,hk,hei];rfl⟩
     |some ei=>
      refine⟨(zY (ev l)).bind fun lv=>(zY (ev m)).bind fun mv=>(Zq lv).bind fun n=>(Zq mv).bind fun n'=>
       (Xm ei.bytes ei.size n n').bind fun _=>some (tN n,Zr n ei.zero,ei.size),fun gb hp=>?_⟩
      simp only[qi,hop,hti,hk,hei,qbl]
      congr 1
    |_=>exact⟨none,fun gb hp=>by simp only[qi,hop,hti,hk];rfl⟩
  obtain⟨W,he⟩:=key
  unfold yx
  rw[he]at hr⊢
  rw[eH]at hA hB⊢
  rw[eB]at hb⊢
  obtain⟨q,hq,hr⟩:=bsm hr
  rw[hq]
  simp only[qbp]
  by_cases h2:h=2
  ·simp only[h2,if_true,beq_self_eq_true]at hr hA hB⊢
   cases hr
   rw[ye (hB trivial) (hA (.inr trivial))]
   exact⟨rfl,fun e=>(by cases e),fun e=>(by cases e),fun _ _ _ e=>by cases e⟩
  ·have hne:(h==2)=false:=by simpa using h2
   simp only[if_neg h2,hne,qbz,if_false]at hr⊢
   cases hr
   exact⟨rfl,fun _=>rfl,fun _=>rfl,fun _ _ _ e=>by cases e⟩
 case call cl=>
  cases hcl:cl.callee with
  |builtin b=>
   by_cases h2:h=2
   ·subst h2
    refine yk (by simp only[qA,hop,hcl];rfl) (by simp only[qi,hop,hcl]) ?_ hr hA hB
    simp only[qi,hop,hcl]at hr
    rw[ve]at hr
    obtain⟨q,hq,hr⟩:=bsm hr
    cases hr;rfl
   ·have h2b:(h==2)=false:=by simpa using h2
    exact pure (by simp only[qA,hop,hcl,h2b]) (by simp only[hop,hcl];exact h2)
  |invoke x n=>simp only[qi,hop,hcl]at hr;cases hr
  |value f=>
   have eH:qA h o ev=(h==2||h==4,h==2||h==4,h==2||h==4):=by simp only[qA,hop,hcl]
   have e24:(h==2||h==4)=true↔h=2\/h=4:=qe
   have eB:zk h o ev=(none,none):=by simp only[zk,hop]
   have key:(∃ti g caps,∀hp gb,qi c C h o ev gb hp k3=qW c C h ti g caps (cl.args.toList.map ev) hp k3)\/∃Z:Option SV,∀gb hp,qi c C h o ev gb hp k3=Z.bind fun s=>some (s,none,hp):=by
    cases f with
    |tmp t=>
     cases hti:c.tt o.type with
     |none=>exact .inr ⟨none,fun gb hp=>by simp only[qi,hop,hcl,hti];rfl⟩
     |some ti=>
      cases hx:ev (.tmp t)with
      |av x=>
       by_cases h4:h=4
       ·cases hf:kS x with
        |none=>exact .inr ⟨none,fun gb hp=>by simp only[qi,hop,hcl,hti,hx,if_pos h4,hf];rfl⟩
        |some p=>exact .inl ⟨ti,p.1,p.2,fun hp gb=>by simp only[qi,hop,hcl,hti,hx,if_pos h4,hf];rfl⟩
       ·cases hf:kQ x with
        |none=>exact .inr ⟨none,fun gb hp=>by simp only[qi,hop,hcl,hti,hx,if_neg h4,hf];rfl⟩
        |some p=>exact .inl ⟨ti,p.1,p.2,fun hp gb=>by simp only[qi,hop,hcl,hti,hx,if_neg h4,hf];rfl⟩
      |_=>exact .inr ⟨none,fun gb hp=>by simp only[qi,hop,hcl,hti,hx];rfl⟩
    |func g=>
     cases hF:c.F g with
     |none=>exact .inr ⟨none,fun gb hp=>by simp only[qi,hop,hcl,hF];rfl⟩
     |some fn=>
      cases hti:c.tt o.type with
      |none=>exact .inr ⟨none,fun gb hp=>by simp only[qi,hop,hcl,hF,hti];rfl⟩
      |some ti=>
       cases hb':fn.body with
       |some b=>exact .inl ⟨ti,g,[],fun hp gb=>by simp only[qi,hop,hcl,hF,hti,hb']⟩
       |none=>exact .inr ⟨(wu (cl.args.toList.map ev)).bind fun vs=>(one (c.X g vs)).bind fun z=>some (.sv z),fun gb hp=>by
        simp only[qi,hop,hcl,hF,hti,hb',qbl];rfl⟩
    |const v=>exact .inr ⟨none,fun gb hp=>by simp only[qi,hop,hcl];rfl⟩
    |global g=>exact .inr ⟨none,fun gb hp=>by simp only[qi,hop,hcl];rfl⟩
   unfold yx
   rw[eH]at hA hB⊢
   rw[eB]
   rcases key with⟨ti,g,caps,he⟩|⟨Z,hz⟩
   ·rw[he]at hr⊢
    obtain⟨a1,a2,a3⟩:=Yg hr (fun h2=>hA (.inl (e24.mpr h2))) (fun h2=>hB (e24.mpr h2))
    rw[a1]
    by_cases h2:h=2\/h=4
    ·simp only[if_pos h2,e24.mpr h2,if_true]
     exact⟨by trivial,fun e=>(by cases e),fun e=>(by cases e),fun k g cs e=>by rw[a3]at e;cases e⟩
    ·have hne:(h==2||h==4)=false:=by
      cases e:(h==2||h==4)with
      |false=>rfl
      |true=>exact absurd (e24.mp e) h2
     simp only[if_neg h2,hne,qbz,if_false]
     exact⟨trivial,fun _=>by rw[a2 h2],fun _=>by rw[a2 h2],fun k g cs e=>by rw[a3]at e;cases e⟩
   ·rw[hz]at hr⊢
    obtain⟨s,hs,hr⟩:=bsm hr
    cases hr
    rw[hs]
    simp only[qbp]
    by_cases h2:h=2\/h=4
    ·have hb2:(h==2||h==4)=true:=e24.mpr h2
     rw[ye (hB hb2) (hA (.inl hb2))]
     simp only[hb2,if_true]
     exact⟨trivial,fun e=>(by cases e),fun e=>(by cases e),fun k g cs e=>by cases e⟩
    ·have hne:(h==2||h==4)=false:=by
      cases e:(h==2||h==4)with
      |false=>rfl
      |true=>exact absurd (e24.mp e) h2
     simp only[hne,qbz,if_false]
     exact⟨trivial,fun _=>trivial,fun _=>trivial,fun k g cs e=>by cases e⟩
 all_goals exact pure (by simp only[qA,hop]) (by simp only[hop])
end
structure Vw where
 sl:Nat->SV
 bx:Nat->Option (Nat×List AV)
 hp:Hp
def St.vw(st:St):Vw:=⟨qm st.sl,qL st.bx,st.hp⟩
def Zp(σ:Nat->SV):Operand->SV
 | .tmp t=>σ t
 |x=>qG [] x
theorem kY(l:Slots):Zp (qm l)=qG l:=by
 funext x;cases x<;>rfl
def Qa(h:Nat)(o:Oper)(σ:Nat->SV)(k:Nat):SV:=
 match o.op with
 | .extract (.tmp t) i=>if h=1 then σ k else if k=t then(match σ t with| .tp xs=>.tp (match xs[i]? with|some y=>xs.set i (ro y)|none=>xs)|s=>s)else σ k
 |_=>if k∈qu h o then(σ k).ro else σ k
def yp(σ:Nat->SV)(d:Option Tmp)(s:SV)(k:Nat):SV:=if d=some k then s else σ k
def wz(β:Nat->Option (Nat×List AV))(b:BE)(k:Nat):Option (Nat×List AV):=
 match b with
 |some (j,g,cs)=>if j=k then some (g,cs)else β k
 |none=>β k
def VV(tn:TypeId->Option TI)(h:Nat)(ops:Array Oper)(o:Oper)(ev:Operand->SV)(hp hp':Hp):Fp:=
 {rs:=o.looksAt ops,ws:=o.dst.toList++qu h o,br:=(zk h o ev).1,bw:=(zk h o ev).2,hr:=(qA h o ev).1,hw:=(qA h o ev).2.1,nw:=(qA h o ev).2.2,lq:=QO h o tn ev,gb:=ZP (qA h o ev).2.1 hp,ga:=ZP (qA h o ev).2.1 hp'}
theorem KX(tn:TypeId->Option TI)(h:Nat)(ops:Array Oper)(o:Oper)(l:Slots)(hp hp':Hp):VW tn h ops o l hp hp'=VV tn h ops o (Zp (qm l)) hp hp':=by
 rw[kY];rfl
theorem Vb{h:Nat}{o:Oper}(hno:∀t i,o.op≠ .extract (.tmp t) i)(l:Slots):qn h o l=qr (qu h o) l:=by
 unfold qn
 split
 ·rename_i t i hop;exact absurd hop (hno t i)
 ·rfl
theorem We{h:Nat}{o:Oper}(hno:∀t i,o.op≠ .extract (.tmp t) i)(σ:Nat->SV)(k:Nat):Qa h o σ k=if k∈qu h o then(σ k).ro else σ k:=by
 unfold Qa
 split
 ·rename_i t i hop;exact absurd hop (hno t i)
 ·rfl
theorem KZ(h:Nat)(o:Oper)(l:Slots)(k:Nat):qm (qn h o l) k=Qa h o (qm l) k:=by
 by_cases hop:∃t i,o.op= .extract (.tmp t) i
 ·obtain⟨t,i,hop⟩:=hop
  by_cases h1:h=1
  ·have e1:qn h o l=l:=by simp only[qn,hop,if_pos h1]
   have e2:Qa h o (qm l) k=qm l k:=by simp only[Qa,hop,if_pos h1]
   rw[e1,e2]
  have e1:qn h o l=dnX t i l:=by simp only[qn,hop,if_neg h1]
  have e2:Qa h o (qm l) k=if k=t then(match qm l t with| .tp xs=>.tp (match xs[i]? with|some y=>xs.set i (ro y)|none=>xs)|s=>s)else qm l k:=by simp only[Qa,hop,if_neg h1]<;>rfl
  rw[e1,e2]
  simp only[dnX]
  cases hx:qm l t with
  |tp xs=>
   simp only
   rw[qy]
   by_cases e:t=k
   ·subst e;rw[if_pos rfl,if_pos rfl];rfl
   ·have e':¬k=t:=fun h=>e h.symm
    simp[e,e']
  |_=>
   simp only
   by_cases e:k=t
   ·subst e;simp[hx]
   ·simp[e]
 ·have hno:∀t i,o.op≠ .extract (.tmp t) i:=fun t i e=>hop ⟨t,i,e⟩
  rw[Vb hno,We hno,qJ]
theorem kE(l:Slots)(d:Option Tmp)(s:SV)(k:Nat):qm (jL l d s) k=yp (qm l) d s k:=by
 cases d with
 |none=>simp[jL,yp]
 |some d=>
  simp only[jL,yp]
  rw[qy]
  by_cases e:d=k
  ·subst e;simp
  ·have:¬some d=some k:=fun h=>e (qbq h)
   simp[e]
theorem Zf(h:Nat)(o:Oper)(st:St)(s:SV)(b:BE)(hp:Hp):(after h o st s b hp).vw=⟨yp (Qa h o (qm st.sl)) o.dst s,wz (qL st.bx) b,hp⟩:=by
 unfold St.vw after
 congr 1
 ·funext k
  rw[kE]
  unfold yp
  rw[KZ]
 ·funext k
  cases b with
  |none=>rfl
  |some q=>obtain⟨j,g,cs⟩:=q;simp only[wz];rw[jn]
section
variable (c:Cx)(C:Orc)(f:FuncId)(r:Nat)(ops:Array Oper)
def jS(h:Nat)(o:Oper)(v:Vw):Option (Vw×Fp):=
 (qi c C h o (Zp v.sl) v.bx v.hp k3).bind fun q=>some (⟨yp (Qa h o v.sl) o.dst q.1,wz v.bx q.2.1,q.2.2⟩,VV c.tn h ops o (Zp v.sl) v.hp q.2.2)
def jR(o:Oper)(v:Vw):Vw×Fp:=(⟨yp v.sl o.dst .ud,v.bx,v.hp⟩,xw ops o)
def Zn(i:Nat)(v:Vw):Option (Vw×Fp):=
 match ops[i]? with
 |none=>none
 |some o=>match zI o ops with
  |none=>none
  |some none=>jS c C ops (c.H f r i) o v
  |some (some (g,want))=>match v.sl g with
   | .ud=>some (jR ops o v)
   | .sv u=>(YE u).bind fun t=>if t=want then jS c C ops (c.H f r i) o v else some (jR ops o v)
   |_=>none
def jV:List Nat->Vw->Option (Vw×List (Nat×Fp))
 |[],v=>some (v,[])
 |i::is,v=>(Zn c C f r ops i v).bind fun p=>(jV is p.1).bind fun q=>some (q.1,(i,p.2)::q.2)
end
section
variable {c:Cx}{C:Orc}{f:FuncId}{r:Nat}{ops:Array Oper}
theorem xY(st:St)(g:Nat)(b:Bool)(h:qm st.sl g= .sv (.bool b)):(JI st g b).vw=st.vw:=by
 unfold JI St.vw
 congr 1
 funext k
 show qm ((g,.sv (.bool b))::st.sl) k=qm st.sl k
 rw[qy]
 split
 ·rename_i e;subst e;exact h.symm
 ·rfl
theorem wS{G:GoT}{is:List Nat}{d:Bool}{acc:List (Nat×Fp)}{k:List It}{h i:Nat}{o:Oper}{st:St}{q:AV×Hp}(hr:xd c C G r ops is d acc k h i o st=some q):
 ∃st1 F,jS c C ops h o st.vw=some (st1.vw,F)/\G (.ops r ops is d (Jb d i F acc)::k) st1=some q:=by
 unfold xd at hr
 rw[jD]at hr
 obtain⟨p,hp,hr⟩:=bsm hr
 refine⟨_,_,?_,hr⟩
 unfold jS
 show(qi c C h o (Zp (qm st.sl)) (qL st.bx) st.hp k3).bind _=_
 rw[kY,hp]
 simp only[qbp]
 rw[Zf,KX]
 rfl
theorem wy{G:GoT}{is:List Nat}{d:Bool}{acc:List (Nat×Fp)}{k:List It}{i:Nat}{o:Oper}{st:St}{q:AV×Hp}(hr:Qi G r ops is d acc k i o st=some q):
 ∃st1,jR ops o st.vw=(st1.vw,xw ops o)/\G (.ops r ops is d (Jb d i (xw ops o) acc)::k) st1=some q:=by
 unfold Qi at hr
 refine⟨_,?_,hr⟩
 unfold jR St.vw
 congr 2
 funext k
 exact(kE _ _ _ k).symm
theorem qae{G:GoT}{is:List Nat}{d:Bool}{acc:List (Nat×Fp)}{k:List It}{i:Nat}{o:Oper}{st:St}{q:AV×Hp}(ho:ops[i]?=some o) (hr:KK c C G r ops is d acc k (c.H f r i) i o st=some q):
 ∃st1 F,Zn c C f r ops i st.vw=some (st1.vw,F)/\G (.ops r ops is d (Jb d i F acc)::k) st1=some q:=by
 unfold KK at hr
 unfold Zn
 rw[ho]
 simp only
 split at hr
 ·cases hr
 ·rename_i hg
  rw[hg]
  exact wS hr
 ·rename_i g want hg
  rw[hg]
  simp only
  have hs:st.vw.sl g=qm st.sl g:=rfl
  rw[hs]
  split at hr
  ·rename_i hud
   rw[hud]
   obtain⟨st1,h1,h2⟩:=wy hr
   exact⟨st1,_,by simp only;rw[h1],h2⟩
  ·rename_i u hsv
   rw[hsv]
   simp only
   obtain⟨t,ht,hr⟩:=bsm hr
   rw[ht]
   simp only[qbp]
   have hu:=xg ht
   subst hu
   cases want<;>cases t
   ·simp only[cond_false,if_true]at hr⊢
    obtain⟨st1,F,h1,h2⟩:=wS hr
    rw[xY _ _ _ hsv]at h1
    exact⟨st1,F,h1,h2⟩
   ·simp only[cond_true]at hr⊢
    obtain⟨st1,h1,h2⟩:=wy hr
    rw[xY _ _ _ hsv]at h1
    exact⟨st1,_,by simp[h1],h2⟩
   ·simp only[cond_false]at hr⊢
    obtain⟨st1,h1,h2⟩:=wy hr
    rw[xY _ _ _ hsv]at h1
    exact⟨st1,_,by simp[h1],h2⟩
   ·simp only[cond_true,if_true]at hr⊢
    obtain⟨st1,F,h1,h2⟩:=wS hr
    rw[xY _ _ _ hsv]at h1
    exact⟨st1,F,h1,h2⟩
  ·cases hr
theorem Vo:∀(n:Nat) (is:List Nat) (d:Bool) (acc:List (Nat×Fp)) (k:List It) (st:St) (q:AV×Hp),yf c C f n (.ops r ops is d acc::k) st=some q->
 ∃n' st' accs,n'<n/\jV c C f r ops is st.vw=some (st'.vw,accs)/\(d=true->xx ops (accs.reverse++acc)=true/\∀o∈KE ops (accs.reverse++acc),o=some ())/\yf c C f n' k st'=some q
 |0,_,_,_,_,_,_,h=>by simp[yf]at h
 |n+1,[],d,acc,k,st,q,h=>by
  simp only[yf,zj]at h
  cases ht:(!d||xx ops acc)with
  |false=>rw[ht]at h;cases h
  |true=>
   rw[ht]at h
   obtain⟨h1,h2⟩:=js h
   exact⟨n,st,[],Nat.lt_succ_self n,rfl,fun hd=>by subst hd;exact⟨by simpa using ht,h1⟩,h2⟩
 |n+1,i::is,d,acc,k,st,q,h=>by
  simp only[yf,zj]at h
  obtain⟨o,ho,h⟩:=bsm h
  obtain⟨st1,F,h1,h2⟩:=qae ho h
  obtain⟨n',st',accs,h3,h4,h5,h6⟩:=Vo n is d _ k st1 q h2
  refine⟨n',st',(i,F)::accs,qc,?_,fun hd=>?_,h6⟩
  ·simp only[jV,h1,qbp,h4]
  ·have:=h5 hd
   subst hd
   simpa[Jb]using this
end
def xK(F:Fp)(v1 v:Vw):Vw:=
 ⟨fun k=>if k∈F.ws then v1.sl k else v.sl k,fun k=>if F.bw=some k then v1.bx k else v.bx k,⟨if F.nw=true then v1.hp.next else v.hp.next,if F.hw=true then v1.hp.get else v.hp.get⟩⟩
structure Like (F : Fp) (v' v : Vw) : Prop where
 s:∀k,k∈F.rs\/k∈F.ws->v'.sl k=v.sl k
 b:∀k,F.br=some k\/F.bw=some k->v'.bx k=v.bx k
 A:F.hr=true\/F.hw=true->v'.hp.get=v.hp.get
 B:F.nw=true->v'.hp.next=v.hp.next
 L:∀q,F.lq=some q->zz q v'.hp.get=zz q v.hp.get
theorem QR{b:Bool}{hp hp':Hp}(h:b=true->hp'.get=hp.get):ZP b hp'=ZP b hp:=by
 cases b with
 |false=>rfl
 |true=>exact h rfl
theorem qak{h:Nat}{o:Oper}{tn:TypeId->Option TI}{ev ev':Operand->SV}(h1:∀x∈o.op.operands.toList,ev x=ev' x):QO h o tn ev=QO h o tn ev':=by
 obtain⟨dst,op,type,pos,after,guard⟩:=o
 cases op<;>simp only[Op.operands]at h1<;>simp only[QO]
 case load t x=>rw[h1 x qe]
theorem Zt{a b:Vw}(h1:∀k,a.sl k=b.sl k)(h2:∀k,a.bx k=b.bx k)(h3:a.hp.next=b.hp.next)(h4:a.hp.get=b.hp.get):a=b:=by
 obtain⟨s,x,p⟩:=a
 obtain⟨s',x',p'⟩:=b
 have e1:s=s':=funext h1
 have e2:x=x':=funext h2
 have e3:p=p':=ye h3 h4
 subst e1;subst e2;subst e3;rfl
section
variable {c:Cx}{C:Orc}{f:FuncId}{r:Nat}{ops:Array Oper}
theorem Yo{h:Nat}{o:Oper}{σ σ':Nat->SV}{k:Nat}(hk:σ' k=σ k):Qa h o σ' k=Qa h o σ k:=by
 unfold Qa
 split
 ·rename_i t i hop
  by_cases h1:h=1
  ·rw[if_pos h1,if_pos h1,hk]
  rw[if_neg h1,if_neg h1]
  by_cases e:k=t
  ·subst e;rw[if_pos rfl,if_pos rfl,hk]
  ·rw[if_neg e,if_neg e,hk]
 ·rw[hk]
theorem Va{h:Nat}{o:Oper}{σ:Nat->SV}{k:Nat}(hk:k∉qu h o):Qa h o σ k=σ k:=by
 unfold Qa
 split
 ·rename_i t i hop
  by_cases h1:h=1
  ·rw[if_pos h1]
  rw[if_neg h1]
  have:k≠t:=by
   rintro rfl
   apply hk
   simp only[qu,hop,if_neg h1,qN,List.mem_singleton]
  rw[if_neg this]
 ·rw[if_neg hk]
theorem Yd{o:Oper}{t:Nat}(h:Operand.tmp t∈o.op.operands.toList):t∈o.looksAt ops:=
 List.mem_append_left _ (List.mem_filterMap.2 ⟨.tmp t,h,rfl⟩)
theorem vL{h:Nat}{o:Oper}{v v' v1:Vw}{F:Fp}(hr:jS c C ops h o v=some (v1,F))(hl:Like F v' v):jS c C ops h o v'=some (xK F v1 v',F):=by
 unfold jS at hr⊢
 obtain⟨q,hq,hr⟩:=bsm hr
 have hF:VV c.tn h ops o (Zp v.sl) v.hp q.2.2=F:=(Prod.mk.inj (qbq hr)).2
 have hv1:(⟨yp (Qa h o v.sl) o.dst q.1,wz v.bx q.2.1,q.2.2⟩:Vw)=v1:=(Prod.mk.inj (qbq hr)).1
 subst hv1
 subst hF
 have hev:∀x∈o.op.operands.toList,Zp v'.sl x=Zp v.sl x:=by
  intro x hx
  cases x with
  |tmp t=>exact hl.s t (.inl (Yd hx))
  |_=>rfl
 have ha:=Ws (h:=h) hev
 obtain⟨l1,l2,l3,l4⟩:=Yp (gb':=v'.bx) (hp':=v'.hp) hq (fun k hk=>hl.b k hk) (fun hk=>hl.A hk) (fun hk=>hl.B hk) (fun q hk=>hl.L q hk)
 rw[XT hev,l1]
 simp only[qbp]
 have hfp:∀g:Hp,((qA h o (Zp v.sl)).2.1=true->g.get=q.2.2.get)->VV c.tn h ops o (Zp v'.sl) v'.hp g=VV c.tn h ops o (Zp v.sl) v.hp q.2.2:=by
  intro g hg
  unfold VV
  rw[ha.1,ha.2,qak (h:=h) (tn:=c.tn) hev,QR (b:=(qA h o (Zp v.sl)).2.1) (hp':=v'.hp) (hp:=v.hp) (fun hw=>hl.A (.inr hw)),QR (b:=(qA h o (Zp v.sl)).2.1) hg]
 rw[hfp _ (fun hw=>by simp only[hw,if_true])]
 congr 2
 refine Zt (fun k=>?_) (fun k=>?_) rfl rfl
 ·show yp (Qa h o v'.sl) o.dst q.1 k=if k∈o.dst.toList++qu h o then yp (Qa h o v.sl) o.dst q.1 k else v'.sl k
  by_cases hk:k∈o.dst.toList++qu h o
  ·rw[if_pos hk]
   unfold yp
   rw[Yo (hl.s k (.inr hk))]
  ·rw[if_neg hk]
   unfold yp
   have h1:¬o.dst=some k:=fun e=>hk (by simp[e])
   have h2:k∉qu h o:=fun e=>hk (by simp[e])
   rw[if_neg h1,Va h2]
 ·show wz v'.bx q.2.1 k=if(zk h o (Zp v.sl)).2=some k then wz v.bx q.2.1 k else v'.bx k
  by_cases hk:(zk h o (Zp v.sl)).2=some k
  ·rw[if_pos hk]
   have:=hl.b k (.inr hk)
   unfold wz
   rw[this]
  ·rw[if_neg hk]
   unfold wz
   split
   ·rename_i j g cs e
    have:j≠k:=by
     rintro rfl
     exact hk (l4 _ _ _ e)
    rw[if_neg this]
   ·rfl
theorem vK{o:Oper}{v v' v1:Vw}{F:Fp}(hr:jR ops o v=(v1,F))(hl:Like F v' v):jR ops o v'=(xK F v1 v',F):=by
 unfold jR at hr⊢
 cases hr
 congr 1
 refine Zt (fun k=>?_) (fun k=>?_) (by simp[xK,xw]) (by simp[xK,xw])
 ·show yp v'.sl o.dst .ud k=if k∈o.dst.toList then yp v.sl o.dst .ud k else v'.sl k
  unfold yp
  by_cases hk:o.dst=some k
  ·have:k∈o.dst.toList:=by simp[hk]
   rw[if_pos hk,if_pos this,if_pos hk]
  ·have:¬k∈o.dst.toList:=by simpa using hk
   rw[if_neg hk,if_neg this]
 ·show v'.bx k=if(none:Option Nat)=some k then v.bx k else v'.bx k
  rw[if_neg qe]
theorem vA{o:Oper}{g:Nat}{want:Bool}(h:zI o ops=some (some (g,want))):g∈o.looksAt ops:=by
 unfold zI at h
 split at h
 ·cases h
 ·rename_i j want' hg
  split at h
  ·rename_i oj hj
   split at h
   ·rename_i d hd
    cases h
    refine List.mem_append_right _ ?_
    rw[hg]
    simp[hj,hd]
   ·cases h
  ·cases h
theorem wt{i:Nat}{v v' v1:Vw}{F:Fp}(hr:Zn c C f r ops i v=some (v1,F))(hl:Like F v' v):Zn c C f r ops i v'=some (xK F v1 v',F):=by
 unfold Zn at hr⊢
 cases ho:ops[i]? with
 |none=>rw[ho]at hr;cases hr
 |some o=>
  rw[ho]at hr
  simp only at hr⊢
  cases hg:zI o ops with
  |none=>rw[hg]at hr;cases hr
  |some gw=>
   rw[hg]at hr
   cases gw with
   |none=>exact vL hr hl
   |some q=>
    obtain⟨g,want⟩:=q
    simp only at hr⊢
    have hlook:=vA hg
    have hsl:v'.sl g=v.sl g:=by
     refine hl.s g (.inl ?_)
     cases hvg:v.sl g with
     |ud=>rw[hvg]at hr;simp only at hr;cases hr;exact hlook
     |sv u=>
      rw[hvg]at hr
      simp only at hr
      obtain⟨t,ht,hr⟩:=bsm hr
      split at hr
      ·unfold jS at hr
       obtain⟨q,hq,hr⟩:=bsm hr
       cases hr;exact hlook
      ·cases hr;exact hlook
     |_=>rw[hvg]at hr;cases hr
    rw[hsl]
    cases hvg:v.sl g with
    |ud=>
     rw[hvg]at hr
     simp only at hr⊢
     exact congrArg some (vK (qbq hr) hl)
    |sv u=>
     rw[hvg]at hr
     simp only at hr⊢
     obtain⟨t,ht,hr⟩:=bsm hr
     rw[ht]
     simp only[qbp]
     split at hr
     ·rename_i e;rw[if_pos e];exact vL hr hl
     ·rename_i e;rw[if_neg e];exact congrArg some (vK (qbq hr) hl)
    |_=>rw[hvg]at hr;cases hr
theorem Like.refl(F:Fp)(v:Vw):Like F v v:=⟨fun _ _=>rfl,fun _ _=>rfl,fun _=>rfl,fun _=>rfl,fun _ _=>rfl⟩
theorem Vk{i:Nat}{v v1:Vw}{F:Fp}(hr:Zn c C f r ops i v=some (v1,F))(hw:F.hw=true):F.gb=v.hp.get/\F.ga=v1.hp.get:=by
 have ex:∀{h:Nat} {o:Oper},jS c C ops h o v=some (v1,F)->F.gb=v.hp.get/\F.ga=v1.hp.get:=by
  intro h o hr
  unfold jS at hr
  obtain⟨q,hq,hr⟩:=bsm hr
  cases hr
  have hw:(qA h o (Zp v.sl)).2.1=true:=hw
  simp only[VV,hw,ZP,and_self]
 have sk:∀{o:Oper},some (jR ops o v)=some (v1,F)->F.gb=v.hp.get/\F.ga=v1.hp.get:=by
  intro o hr
  cases hr
  cases hw
 unfold Zn at hr
 split at hr
 ·cases hr
 ·split at hr
  ·cases hr
  ·exact ex hr
  ·split at hr
   ·exact sk hr
   ·obtain⟨t,ht,hr⟩:=bsm hr
    split at hr
    ·exact ex hr
    ·exact sk hr
   ·cases hr
theorem Qg{i:Nat}{v v1:Vw}{F:Fp}(hr:Zn c C f r ops i v=some (v1,F)):v1=xK F v1 v:=by
 have:=wt hr (Like.refl F v)
 rw[hr]at this
 exact(Prod.mk.inj (qbq this)).1
theorem yb{a b:List Nat}(h:vS a b=false){k:Nat}(ha:k∈a):k∉b:=by
 intro hb
 have:vS a b=true:=by
  unfold vS
  rw[List.any_eq_true]
  exact⟨k,ha,by simpa using hb⟩
 rw[this]at h;cases h
structure Apart (a b : Fp) : Prop where
 wr:∀k,k∈a.ws->k∉b.rs
 ww:∀k,k∈a.ws->k∉b.ws
 rw_:∀k,k∈a.rs->k∉b.ws
 bww:∀k,a.bw=some k->b.bw≠some k
 bwr:∀k,a.bw=some k->b.br≠some k
 brw:∀k,a.br=some k->b.bw≠some k
 hwx:a.hw=true->b.hr=false/\b.hw=false
 hrw:a.hr=true->b.hw=false
 nn:a.nw=true->b.nw=false
 qa:∀q,a.lq=some q->b.hw=true->zz q b.gb=zz q b.ga
 qb:∀q,b.lq=some q->a.hw=true->zz q a.gb=zz q a.ga
theorem Ka{a b:Fp}(h:Jw a b=false)(qa:∀q,a.lq=some q->b.hw=true->zz q b.gb=zz q b.ga)(qb:∀q,b.lq=some q->a.hw=true->zz q a.gb=zz q a.ga):Apart a b:=by
 unfold Jw at h
 simp only[Bool.or_eq_false_iff]at h
 obtain⟨⟨⟨⟨⟨⟨⟨⟨h1,h2⟩,h3⟩,h4⟩,h5⟩,h6⟩,h7⟩,h8⟩,h9⟩:=h
 refine⟨fun k hk=>yb h1 hk,fun k hk=>yb h2 hk,fun k hk=>yb h3 hk,fun k e e'=>?_,fun k e e'=>?_,fun k e e'=>?_,fun e=>?_,fun e=>?_,fun e=>?_,qa,qb⟩
 ·rw[e,e']at h4;simp at h4
 ·rw[e,e']at h5;simp at h5
 ·rw[e,e']at h6;simp at h6
 ·rw[e]at h7;simpa using h7
 ·rw[e]at h8;simpa using h8
 ·rw[e]at h9;simpa using h9
theorem YI{x y:Nat}{v v1 v2:Vw}{Fx Fy:Fp}(hx:Zn c C f r ops x v=some (v1,Fx))(hy:Zn c C f r ops y v1=some (v2,Fy))(ha:Apart Fx Fy):
 ∃v1',Zn c C f r ops y v=some (v1',Fy)/\Zn c C f r ops x v1'=some (v2,Fx):=by
 have kx:=Qg hx
 have ky:=Qg hy
 have xs:∀k,k∉Fx.ws->v1.sl k=v.sl k:=fun k hk=>by rw[kx];simp[xK,hk]
 have xb:∀k,Fx.bw≠some k->v1.bx k=v.bx k:=fun k hk=>by rw[kx];simp[xK,hk]
 have xA:Fx.hw=false->v1.hp.get=v.hp.get:=fun h=>by rw[kx];simp[xK,h]
 have xB:Fx.nw=false->v1.hp.next=v.hp.next:=fun h=>by rw[kx];simp[xK,h]
 have hy':=wt hy (v':=v) {
  s:=fun k hk=>(xs k (hk.elim (fun h e=>ha.wr k e h) (fun h e=>ha.ww k e h))).symm
  b:=fun k hk=>(xb k (hk.elim (fun h e=>ha.bwr k e h) (fun h e=>ha.bww k e h))).symm
  A:=fun hk=>(xA (by
   cases hw:Fx.hw with
   |false=>rfl
   |true=>have:=ha.hwx hw;rcases hk with h|h<;>simp[this]at h)).symm
  B:=fun hk=>(xB (by
   cases hw:Fx.nw with
   |false=>rfl
   |true=>have:=ha.nn hw;rw[this]at hk;cases hk)).symm
  L:=fun q hq=>by
   cases hw:Fx.hw with
   |false=>rw[xA hw]
   |true=>
    obtain⟨g1,g2⟩:=Vk hx hw
    rw[<-g1,<-g2]
    exact ha.qb q hq hw}
 refine⟨_,hy',?_⟩
 have hx':=wt hx (v':=xK Fy v2 v) {
  s:=fun k hk=>by
   have:k∉Fy.ws:=hk.elim (fun h=>ha.rw_ k h) (fun h=>ha.ww k h)
   simp[xK,this]
  b:=fun k hk=>by
   have:Fy.bw≠some k:=hk.elim (fun h=>ha.brw k h) (fun h=>ha.bww k h)
   simp[xK,this]
  A:=fun hk=>by
   have:Fy.hw=false:=hk.elim (fun h=>ha.hrw h) (fun h=>(ha.hwx h).2)
   simp[xK,this]
  B:=fun hk=>by
   have:Fy.nw=false:=ha.nn hk
   simp[xK,this]
  L:=fun q hq=>by
   cases hw:Fy.hw with
   |false=>simp[xK,hw]
   |true=>
    obtain⟨g1,g2⟩:=Vk hy hw
    have hxw:Fx.hw=false:=by
     cases h:Fx.hw with
     |false=>rfl
     |true=>have:=(ha.hwx h).2;rw[hw]at this;cases this
    have e:(xK Fy v2 v).hp.get=v2.hp.get:=by simp[xK,hw]
    rw[e,<-g2,<-xA hxw,<-g1]
    exact(ha.qa q hq hw).symm}
 rw[hx']
 congr 2
 refine Zt (fun k=>?_) (fun k=>?_) ?_ ?_
 ·show(if k∈Fx.ws then v1.sl k else if k∈Fy.ws then v2.sl k else v.sl k)=v2.sl k
  by_cases h1:k∈Fx.ws
  ·rw[if_pos h1,ky]
   simp[xK,ha.ww k h1]
  ·rw[if_neg h1]
   by_cases h2:k∈Fy.ws
   ·rw[if_pos h2]
   ·rw[if_neg h2,ky]
    simp[xK,h2,xs k h1]
 ·show(if Fx.bw=some k then v1.bx k else if Fy.bw=some k then v2.bx k else v.bx k)=v2.bx k
  by_cases h1:Fx.bw=some k
  ·rw[if_pos h1,ky]
   simp[xK,ha.bww k h1]
  ·rw[if_neg h1]
   by_cases h2:Fy.bw=some k
   ·rw[if_pos h2]
   ·rw[if_neg h2,ky]
    simp[xK,h2,xb k h1]
 ·show(if Fx.nw=true then v1.hp.next else if Fy.nw=true then v2.hp.next else v.hp.next)=v2.hp.next
  by_cases h1:Fx.nw=true
  ·rw[if_pos h1,ky]
   simp[xK,ha.nn h1]
  ·rw[if_neg h1]
   by_cases h2:Fy.nw=true
   ·rw[if_pos h2]
   ·rw[if_neg h2,ky]
    simp[xK,h2,xB (by simpa using h1)]
 ·show(if Fx.hw=true then v1.hp.get else if Fy.hw=true then v2.hp.get else v.hp.get)=v2.hp.get
  by_cases h1:Fx.hw=true
  ·rw[if_pos h1,ky]
   simp[xK,(ha.hwx h1).2]
  ·rw[if_neg h1]
   by_cases h2:Fy.hw=true
   ·rw[if_pos h2]
   ·rw[if_neg h2,ky]
    simp[xK,h2,xA (by simpa using h1)]
theorem kf{y:Nat}:∀(L1 L2:List Nat) (v v2:Vw) (accs:List (Nat×Fp)),jV c C f r ops (L1++y::L2) v=some (v2,accs)->
 (∀x Fx Fy,(x,Fx)∈accs.take L1.length->(y,Fy)∈accs->Apart Fx Fy)->
 ∃v1 F acc1 acc2,Zn c C f r ops y v=some (v1,F)/\jV c C f r ops (L1++L2) v1=some (v2,acc1++acc2)/\accs=acc1++(y,F)::acc2/\acc1.length=L1.length
 |[],L2,v,v2,accs,h,_=>by
  simp only[List.nil_append,jV]at h
  obtain⟨p,hp,h⟩:=bsm h
  obtain⟨q,hq,h⟩:=bsm h
  cases h
  exact⟨p.1,p.2,[],q.2,hp,hq,rfl,rfl⟩
 |x::L1,L2,v,v2,accs,h,ha=>by
  simp only[List.cons_append,jV]at h
  obtain⟨⟨v1,Fx⟩,hx,h⟩:=bsm h
  obtain⟨⟨v2',acc'⟩,hrest,h⟩:=bsm h
  cases h
  obtain⟨w1,F,acc1,acc2,h1,h2,h3,h4⟩:=kf L1 L2 v1 v2' acc' hrest (fun x' Fx' Fy' hx' hy'=>ha x' Fx' Fy' (by simp;exact .inr hx') (by simp[hy']))
  obtain⟨u,hu1,hu2⟩:=YI hx h1 (ha x Fx F qe (by rw[h3];simp))
  refine⟨u,F,(x,Fx)::acc1,acc2,hu1,?_,by rw[h3];rfl,by simp[h4]⟩
  simp only[List.cons_append,jV,hu2,qbp,h2]
end
def vD(o:Oper):List Nat:=(o.after.toList.filter fun e=>Region.binds .any e).map (·.on)
def JA(all:List Oper)(t:List (List Nat)):Prop:=
 ∀j x,x∈t.getD j []->∃o,all[j]?=some o/\(x∈vD o\/∃d∈vD o,x∈t.getD d [])
theorem jm{α:Type}(t:List α)(e d:α)(j:Nat)(h:j<t.length):(t++[e]).getD j d=t.getD j d:=by
 simp[List.getD,qbr h]
theorem kR{α:Type}(t:List (List α))(j:Nat)(x:α)(h:x∈t.getD j []):j<t.length:=by
 rcases qci j t.length with h'|h'
 ·exact h'
 ·simp[List.getD,qck h']at h
theorem vi(all:List Oper):∀(L done:List Oper) (t:List (List Nat)),all=done++L->t.length=done.length->JA all t->JA all (qY L t)
 |[],done,t,_,_,h=>h
 |o::L,done,t,he,hl,h=>by
  simp only[qY]
  refine vi all L (done++[o]) _ (by rw[he];simp) (by simp[hl]) ?_
  intro j x hx
  by_cases hj:j<t.length
  ·rw[jm _ _ _ _ hj]at hx
   obtain⟨o',h1,h2⟩:=h j x hx
   refine⟨o',h1,h2.imp id ?_⟩
   rintro⟨d,hd,hxd⟩
   exact⟨d,hd,by rw[jm _ _ _ _ (kR _ _ _ hxd)];exact hxd⟩
  ·have hj':j=t.length:=by
    have:=kR _ _ _ hx
    simp at this
    omega
   subst hj'
   have hx':x∈((vD o)++(vD o).flatMap fun j=>t.getD j []):=by
    have e:∀E:List Nat,(t++[E]).getD t.length []=E:=fun E=>by simp[List.getD]
    rw[e]at hx
    exact List.mem_eraseDups.mp hx
   refine⟨o,by rw[he,hl];simp,?_⟩
   rw[qce,List.mem_flatMap]at hx'
   refine hx'.imp id ?_
   rintro⟨d,hd,hxd⟩
   exact⟨d,hd,by rw[jm _ _ _ _ (kR _ _ _ hxd)];exact hxd⟩
theorem yW{o:Oper}{d:Nat}:d∈vD o↔∃e∈o.after,Region.binds .any e=true/\e.on=d:=by
 unfold vD
 rw[qcf]
 constructor
 ·rintro⟨e,he,rfl⟩
  obtain⟨h1,h2⟩:=List.mem_filter.mp he
  exact⟨e,by simpa using h1,h2,rfl⟩
 ·rintro⟨e,h1,h2,rfl⟩
  exact⟨e,List.mem_filter.mpr ⟨by simpa using h1,h2⟩,rfl⟩
theorem jp{ops:Array Oper}(h:kZ ops=true){i d:Nat}{o:Oper}(ho:ops[i]?=some o) (hd:d∈vD o):d<i:=by
 have hi:i<ops.size:=(qcm.mp ho).1
 have:=qbv.mp h i (List.mem_range.mpr hi)
 rw[ho]at this
 obtain⟨e,h1,h2,rfl⟩:=yW.mp hd
 have:=qbv.mp this e (by simpa using h1)
 simpa[h2]using this
theorem ZZ{ops:Array Oper}(hdeps:kZ ops=true)(S:Nat->Prop)(hcl:∀j o d,S j->ops[j]?=some o->d∈vD o->S d):
 ∀(n j:Nat),j<=n->(∀o d,ops[j]?=some o->d∈vD o->S d)->∀x,x∈(qY ops.toList []).getD j []->S x:=by
 have hA:JA ops.toList (qY ops.toList []):=vi ops.toList ops.toList [] [] rfl rfl (by intro j x hx;simp[List.getD]at hx)
 intro n
 induction n with
 |zero=>
  intro j hj hdir x hx
  obtain⟨o,ho,hx⟩:=hA j x hx
  have ho':ops[j]?=some o:=by simpa using ho
  rcases hx with hx|⟨d,hd,hx⟩
  ·exact hdir o x ho' hx
  ·have:=jp hdeps ho' hd;omega
 |succ n ih=>
  intro j hj hdir x hx
  obtain⟨o,ho,hx⟩:=hA j x hx
  have ho':ops[j]?=some o:=by simpa using ho
  rcases hx with hx|⟨d,hd,hx⟩
  ·exact hdir o x ho' hx
  ·have hlt:=jp hdeps ho' hd
   exact ih d qc (fun o' d' h1 h2=>hcl d o' d' (hdir o d ho' hd) h1 h2) x hx
theorem Wq{ops:Array Oper}(hdeps:kZ ops=true):∀{j x:Nat},x∈(qY ops.toList []).getD j []->x<j:=by
 have hA:JA ops.toList (qY ops.toList []):=vi ops.toList ops.toList [] [] rfl rfl (by intro j x hx;simp[List.getD]at hx)
 have key:∀n j,j<=n->∀x,x∈(qY ops.toList []).getD j []->x<j:=by
  intro n
  induction n with
  |zero=>
   intro j hj x hx
   obtain⟨o,ho,hx⟩:=hA j x hx
   have ho':ops[j]?=some o:=by simpa using ho
   rcases hx with hx|⟨d,hd,hx⟩
   ·exact jp hdeps ho' hx
   ·have:=jp hdeps ho' hd;omega
  |succ n ih=>
   intro j hj x hx
   obtain⟨o,ho,hx⟩:=hA j x hx
   have ho':ops[j]?=some o:=by simpa using ho
   rcases hx with hx|⟨d,hd,hx⟩
   ·exact jp hdeps ho' hx
   ·have h1:=jp hdeps ho' hd
    have h2:=ih d qc x hx
    omega
 intro j x hx
 exact key j j (qbo j) x hx
def YA(G:Gh)(w:World)(v:Vw)(tmps:Array Value):Prop:=∃st:St,st.vw=v/\Inv G w st tmps
def vn(G:Gh)(w:World)(a:Act)(v:Vw)(a':Act)(w':World):Prop:=
 ∃G',YA G' w' v a'.tmps/\Fr G w G' w'/\a'.tmps.size=a.tmps.size/\a'.defers=a.defers
section
variable {c:Cx}{R:Orc}{f:FuncId}{r:Nat}{ops:Array Oper}{G:Gh}{w:World}{a:Act}{Q:Exit->Act->World->Prop}
abbrev yi(c:Cx)(R:Orc):Prop:=∀f xs hp r,R f xs hp=some r->∃fn b,c.F f=some fn/\fn.body=some b
theorem Qh(hc:Ok c)(hR:jz c R)(hS:yi c R){h:Nat}{o:Oper}{v v1:Vw}{F:Fp}(hr:jS c R ops h o v=some (v1,F))(hI:YA G w v a.tmps)(hd:zl o a){K:Act->World->Prop}
 (hK:∀a' w',vn G w a v1 a' w'->K a' w'):o.wp c.P a w K Q:=by
 obtain⟨st,rfl,hI⟩:=hI
 unfold jS at hr
 obtain⟨q,hq,hr⟩:=bsm hr
 have hv1:(⟨yp (Qa h o st.vw.sl) o.dst q.1,wz st.vw.bx q.2.1,q.2.2⟩:Vw)=v1:=(Prod.mk.inj (qbq hr)).1
 have hq':qi c R h o (qG st.sl) (qL st.bx) st.hp k3=some q:=by rw[<-kY];exact hq
 refine Oper.wp_mono (fun a' w' ha=>?_) (Vd (Q:=Q) hc hR hS hI hd h hq')
 obtain⟨G',h1,h2,h3,h4⟩:=ha
 exact hK a' w' ⟨G',⟨_,by rw[Zf];exact hv1,h1⟩,h2,h3,h4⟩
theorem Qe{o:Oper}{v:Vw}(hI:YA G w v a.tmps)(hd:zl o a):vn G w a (jR ops o v).1 (a.put o.dst undef) w:=by
 obtain⟨st,rfl,hI⟩:=hI
 refine⟨G,⟨⟨jL st.sl o.dst .ud,st.bx,st.hp⟩,?_,?_⟩,Fr.refl G w,qz _ _ _,qs _ _ _⟩
 ·unfold St.vw jR
  congr 1
  funext k
  exact kE _ _ _ k
 ·exact hI.put o.dst hd (fun k _=>rfl) (fun k g off e=>by cases e)
theorem wo{o:Oper}{g:Nat}{want:Bool}(hg:zI o ops=some (some (g,want)))(tmps:Array Value):
 Region.wanted o (yielded ops tmps)=((match tmps[g]? with|some (.bool b)=>some b|_=>none)==some want):=by
 unfold zI at hg
 split at hg
 ·cases hg
 ·rename_i j want' hgo
  split at hg
  ·rename_i oj hj
   split at hg
   ·rename_i d hd
    cases hg
    simp only[Region.wanted,hgo,yielded,hj,hd,qbp]<;>rfl
   ·cases hg
  ·cases hg
theorem Qc{o:Oper}(hg:zI o ops=some none)(y:Nat->Option Bool):Region.wanted o y=true:=by
 unfold zI at hg
 split at hg
 ·rename_i h;simp only[Region.wanted,h]
 ·split at hg
  ·split at hg<;>cases hg
  ·cases hg
theorem YJ(hc:Ok c)(hR:jz c R)(hS:yi c R){i:Nat}{v v1:Vw}{F:Fp}(hr:Zn c R f r ops i v=some (v1,F))(hI:YA G w v a.tmps)(hd:∀o∈ops,zl o a){K:Act->World->Prop}
 (hK:∀a' w',vn G w a v1 a' w'->K a' w'):wpOp c.P ops Q i K a w:=by
 unfold Zn at hr
 unfold wpOp
 cases ho:ops[i]? with
 |none=>rw[ho]at hr;cases hr
 |some o=>
  rw[ho]at hr
  simp only at hr⊢
  have hdo:zl o a:=hd o (Array.mem_of_getElem? ho)
  cases hg:zI o ops with
  |none=>rw[hg]at hr;cases hr
  |some gw=>
   rw[hg]at hr
   cases gw with
   |none=>
    rw[Qc hg]
    simp only[if_true]
    exact .inl (Qh hc hR hS hr hI hdo hK)
   |some q=>
    obtain⟨g,want⟩:=q
    rw[wo hg]
    simp only at hr
    have hslot:qt G w g (v.sl g) (a.tmps.getD g undef):=by
     obtain⟨st,rfl,hI⟩:=hI
     exact hI.slots g
    cases hvg:v.sl g with
    |ud=>
     rw[hvg]at hr hslot
     simp only at hr
     have hv1:(jR ops o v).1=v1:=by rw[qbq hr]
     have hund:a.tmps.getD g undef=undef:=hslot
     have hy:(match a.tmps[g]? with|some (.bool b)=>some b|_=>none:Option Bool)=none:=by
      cases ht:a.tmps[g]? with
      |none=>rfl
      |some z=>
       have:z=undef:=by simpa[ht]using hund
       subst this;rfl
     rw[hy]
     simp only[show((none:Option Bool)==some want)=false by rfl,qbz,if_false]
     exact hK _ _ (hv1▸Qe hI hdo)
    |sv u=>
     rw[hvg]at hr hslot
     simp only at hr
     obtain⟨t,ht,hr'⟩:=bsm hr
     have hu:=xg ht
     subst hu
     have hval:a.tmps.getD g undef= .bool t:=hslot.1
     have hy:(match a.tmps[g]? with|some (.bool b)=>some b|_=>none:Option Bool)=some t:=by
      cases hz:a.tmps[g]? with
      |none=>simp[hz,undef]at hval
      |some z=>
       have:z= .bool t:=by simpa[hz]using hval
       subst this;rfl
     rw[hy]
     by_cases e:t=want
     ·subst e
      rw[if_pos rfl]at hr'
      simp only[beq_self_eq_true,if_true]
      exact .inl (Qh hc hR hS hr' hI hdo hK)
     ·rw[if_neg e]at hr'
      have hv1:(jR ops o v).1=v1:=by rw[qbq hr']
      have hne:((some t:Option Bool)==some want)=false:=by simpa using e
      rw[hne]
      simp only[qbz,if_false]
      exact hK _ _ (hv1▸Qe hI hdo)
    |_=>rw[hvg]at hr;cases hr
theorem vn.trans{v':Vw}{a' a'':Act}{w' w'':World}{G':Gh}(hf:Fr G w G' w')(hs:a'.tmps.size=a.tmps.size)(hdf:a'.defers=a.defers)(h:vn G' w' a' v' a'' w''):vn G w a v' a'' w'':=by
 obtain⟨G'',h1,h2,h3,h4⟩:=h
 exact⟨G'',h1,hf.trans h2,h3.trans hs,h4.trans hdf⟩
theorem Xa(hc:Ok c)(hR:jz c R)(hS:yi c R):∀(is:List Nat) (G:Gh) (w:World) (a:Act) (v v2:Vw) (accs:List (Nat×Fp)),jV c R f r ops is v=some (v2,accs)->YA G w v a.tmps->(∀o∈ops,zl o a)->
 (∀a' w',vn G w a v2 a' w'->Q .normal a' w')->wpOps c.P ops Q is a w
 |[],G,w,a,v,v2,accs,h,hI,hd,hK=>by
  simp only[jV]at h
  cases h
  exact hK a w ⟨G,hI,Fr.refl G w,rfl,rfl⟩
 |i::is,G,w,a,v,v2,accs,h,hI,hd,hK=>by
  simp only[jV]at h
  obtain⟨p,hp,h⟩:=bsm h
  obtain⟨q,hq,h⟩:=bsm h
  cases h
  rw[wpOps_cons]
  refine YJ hc hR hS hp hI hd fun a' w' ha=>?_
  obtain⟨G',h1,h2,h3,h4⟩:=ha
  exact Xa hc hR hS is G' w' a' p.1 q.1 q.2 hq h1 (fun o ho k hk=>by rw[h3];exact hd o ho k hk) fun a'' w'' h=>hK a'' w'' (vn.trans h2 h3 h4 h)
theorem Qf:∀(is:List Nat) (v v2:Vw) (accs:List (Nat×Fp)),jV c R f r ops is v=some (v2,accs)->accs.map (·.1)=is
 |[],v,v2,accs,h=>by simp only[jV]at h;cases h;rfl
 |i::is,v,v2,accs,h=>by
  simp only[jV]at h
  obtain⟨p,hp,h⟩:=bsm h
  obtain⟨q,hq,h⟩:=bsm h
  cases h
  simp[Qf is p.1 q.1 q.2 hq]
theorem Kb(hc:Ok c)(hR:jz c R)(hS:yi c R)(hdeps:kZ ops=true):∀(fuel:Nat) (L:List Nat) (listed:Array Bool) (G:Gh) (w:World) (a:Act) (v v2:Vw) (accs:List (Nat×Fp)),L.length=fuel->
 (∀i,i∈L↔listed.getD i true=false)->(∀i∈L,i<ops.size)->listed.size=ops.size->L.Pairwise (·<·)->
 (∀j o d,listed.getD j false=true->ops[j]?=some o->d∈vD o->listed.getD d false=true)->
 jV c R f r ops L v=some (v2,accs)->(∀x Fx y Fy,(x,Fx)∈accs->(y,Fy)∈accs->x<y->x∈(qY ops.toList []).getD y []\/Apart Fx Fy)->
 YA G w v a.tmps->(∀o∈ops,zl o a)->(∀a' w',vn G w a v2 a' w'->Q .normal a' w')->wpAny c.P .any ops Q fuel listed a w
 |0,L,listed,G,w,a,v,v2,accs,hlen,hL,hlt,hsz,hsort,hcl,hrun,hap,hI,hd,hK=>by
  have hnil:L=[]:=qb6.mp hlen
  subst hnil
  simp only[jV]at hrun
  cases hrun
  refine⟨?_,hK a w ⟨G,hI,Fr.refl G w,rfl,rfl⟩⟩
  apply List.eq_nil_iff_forall_not_mem.mpr
  intro j hj
  have:=(mem_ready.mp hj).1
  rw[<-hL]at this
  simp at this
 |fuel+1,L,listed,G,w,a,v,v2,accs,hlen,hL,hlt,hsz,hsort,hcl,hrun,hap,hI,hd,hK=>by
  have hlist:∀i,i<ops.size->i∉L->listed.getD i false=true:=by
   intro i hi hn
   rw[hL]at hn
   have hi':i<listed.size:=by rw[hsz];exact hi
   simp[Array.getD,hi']at hn⊢
   exact hn
  have hunl:∀i,i∈L->¬listed.getD i false=true:=by
   intro i hi hn
   rw[hL]at hi
   have hi':i<listed.size:=by
    rcases qci i listed.size with h|h
    ·exact h
    ·have:¬i<listed.size:=qc
     simp[Array.getD,this]at hi
   simp[Array.getD,hi']at hi hn
   rw[hi]at hn;cases hn
  refine⟨fun hnone=>?_,fun i hi=>?_⟩
  ·exfalso
   match L,hlen,hL,hlt,hsort,hlist with
   |i0::rest,hlen,hL,hlt,hsort,hlist=>
    have hi0:=hlt i0 qe
    have:i0∈Region.ready .any ops listed:=by
     rw[mem_ready]
     refine⟨(hL i0).mp qe,ops[i0],qc4 hi0,fun e he hb=>?_⟩
     have hlt':=jp hdeps (qc4 hi0) (yW.mpr ⟨e,he,hb,rfl⟩)
     refine hlist e.on qc fun hm=>?_
     rcases qb3.mp hm with h|h
     ·omega
     ·have:=(qdk.mp hsort).1 _ h;omega
    rw[hnone]at this
    simp at this
  ·obtain⟨hi1,o,ho,hi2⟩:=mem_ready.mp hi
   have hiL:i∈L:=(hL i).mpr hi1
   obtain⟨L1,L2,rfl⟩:=List.append_of_mem hiL
   have hfst:=Qf _ _ _ _ hrun
   have hx1:∀x Fx,(x,Fx)∈accs.take L1.length->x∈L1/\(x,Fx)∈accs:=by
    intro x Fx hx
    have hm:x∈(accs.take L1.length).map (·.1):=qcf.mpr ⟨_,hx,rfl⟩
    rw[List.map_take,hfst,List.take_left']at hm
    ·exact⟨hm,List.mem_of_mem_take hx⟩
    ·rfl
   have hpw:=List.pairwise_append.mp hsort
   obtain⟨v1,F,acc1,acc2,r1,r2,r3,r4⟩:=kf L1 L2 v v2 accs hrun (fun x Fx Fy hx hy=>by
    obtain⟨hxL,hxa⟩:=hx1 x Fx hx
    have hlt':x<i:=hpw.2.2 x hxL i qe
    refine(hap x Fx i Fy hxa hy hlt').resolve_left fun hanc=>?_
    have:=ZZ hdeps (fun j=>listed.getD j false=true) hcl i i (qbo i) (fun o' d ho' hdd=>by
     rw[ho]at ho';cases ho'
     obtain⟨e,he,hb,rfl⟩:=yW.mp hdd
     exact hi2 e he hb) x hanc
    exact hunl x (by simp[hxL]) this)
   have hiLt:i<listed.size:=by rw[hsz];exact hlt i qe
   refine YJ hc hR hS r1 hI hd fun a' w' ha=>?_
   obtain⟨G',h1,h2,h3,h4⟩:=ha
   have hsort':(L1++L2).Pairwise (·<·):=by
    refine List.pairwise_append.mpr ⟨hpw.1,(qdk.mp hpw.2.1).2,fun x hx y hy=>hpw.2.2 x hx y (by simp[hy])⟩
   have hni:i∉L1++L2:=by
    intro hm
    rcases qce.mp hm with h|h
    ·have:=hpw.2.2 i h i qe;omega
    ·have:=(qdk.mp hpw.2.1).1 i h;omega
   refine Kb hc hR hS hdeps fuel (L1++L2) (listed.setIfInBounds i true) G' w' a' v1 v2 (acc1++acc2) (by simp at hlen⊢;omega) (fun j=>?_) (fun j hj=>hlt j ?_) (by simp[hsz]) hsort' ?_ r2 ?_ h1
    (fun o ho k hk=>by rw[h3];exact hd o ho k hk) (fun a'' w'' h=>hK a'' w'' (vn.trans h2 h3 h4 h))
   ·by_cases e:i=j
    ·subst e
     constructor
     ·intro h;exact absurd h hni
     ·intro h;simp[Array.getD,hiLt]at h
    ·rw[getD_set_ne true e,<-hL j]
     simp only[qce,qb3]
     have:¬j=i:=fun h=>e h.symm
     simp[this]
   ·simp only[qce,qb3]at hj⊢
    rcases hj with h|h
    ·exact .inl h
    ·exact .inr (.inr h)
   ·intro j o' d hj ho' hdd
    by_cases e:i=j
    ·subst e
     rw[ho]at ho';cases ho'
     obtain⟨e,he,hb,rfl⟩:=yW.mp hdd
     exact getD_set_true (hi2 e he hb)
    ·rw[getD_set_ne false e]at hj
     exact getD_set_true (hcl j o' d hj ho' hdd)
   ·intro x Fx y Fy hx hy hxy
    refine hap x Fx y Fy ?_ ?_ hxy
    ·rw[r3]
     rcases qce.mp hx with h|h<;>simp[h]
    ·rw[r3]
     rcases qce.mp hy with h|h<;>simp[h]
end
def jP(key:Nat×Nat)(own:Nat->Ow):Prop:=(key.1=0/\own=fun i=>.sl key.2 0 i)\/(key.1=1/\∃g off,own=fun i=>.bc key.2 g (off+i))
theorem jP.inj{k k':Nat×Nat}{own own':Nat->Ow}(h:jP k own)(h':jP k' own'){i i':Nat}(e:own i=own' i'):k=k':=by
 obtain⟨a,b⟩:=k
 obtain⟨a',b'⟩:=k'
 rcases h with⟨h1,rfl⟩|⟨h1,g,off,rfl⟩<;>rcases h' with⟨h1',rfl⟩|⟨h1',g',off',rfl⟩<;>simp only at h1 h1' e
 ·injection e with e1 e2 e3;subst h1;subst h1';subst e1;rfl
 ·cases e
 ·cases e
 ·injection e with e1 e2 e3;subst h1;subst h1';subst e1;rfl
theorem jP.inj1{k:Nat×Nat}{own:Nat->Ow}(h:jP k own){i i':Nat}(e:own i=own i'):i=i':=by
 rcases h with⟨h1,rfl⟩|⟨h1,g,off,rfl⟩
 ·injection e
 ·injection e with e1 e2 e3;omega
theorem jP.form{k:Nat×Nat}{own:Nat->Ow}(h:jP k own)(i:Nat):(∃a b c,own i= .sl a b c)\/∃a b c,own i= .bc a b c:=by
 rcases h with⟨h1,rfl⟩|⟨h1,g,off,rfl⟩
 ·exact .inl ⟨_,_,_,rfl⟩
 ·exact .inr ⟨_,_,_,rfl⟩
open Classical in
noncomputable def vt(owns:List (Nat->Ow))(p:Ow):Ow:=
 if h:∃ji:Nat×Nat,∃own,owns[ji.1]?=some own/\own ji.2=p then .sl 0 h.choose.1 h.choose.2 else .oth
noncomputable def jv(owns:List (Nat->Ow))(p:Ow):Ow:=
 match p with
 | .fr=>.fr
 | .obj b g=>.obj b g
 | .oc b g i=>.oc b g i
 |p=>vt owns p
theorem wF{owns:List (Nat->Ow)}(p:Ow):(∃j i,vt owns p= .sl 0 j i)\/vt owns p= .oth:=by
 unfold vt
 split
 ·exact .inl ⟨_,_,rfl⟩
 ·exact .inr rfl
theorem Qv{owns:List (Nat->Ow)}(a b c:Nat):(∃j i,jv owns (.sl a b c)= .sl 0 j i)\/jv owns (.sl a b c)= .oth:=wF _
theorem Qw{owns:List (Nat->Ow)}(a b c:Nat):(∃j i,jv owns (.bc a b c)= .sl 0 j i)\/jv owns (.bc a b c)= .oth:=wF _
theorem vN{owns:List (Nat->Ow)}(a b:Nat):(∃j i,jv owns (.box a b)= .sl 0 j i)\/jv owns (.box a b)= .oth:=wF _
theorem YY{owns:List (Nat->Ow)}(hinj:∀(j j':Nat) (own own':Nat->Ow) (i i':Nat),owns[j]?=some own->owns[j']?=some own'->own i=own' i'->j=j'/\i=i')
 {j:Nat} {own:Nat->Ow} (hj:owns[j]?=some own) (i:Nat):vt owns (own i)= .sl 0 j i:=by
 have hex:∃ji:Nat×Nat,∃own',owns[ji.1]?=some own'/\own' ji.2=own i:=⟨(j,i),own,hj,rfl⟩
 have key:vt owns (own i)= .sl 0 hex.choose.1 hex.choose.2:=by
  unfold vt
  rw[dif_pos hex]
 rw[key]
 obtain⟨own',h1,h2⟩:=hex.choose_spec
 obtain⟨e1,e2⟩:=hinj _ _ _ _ _ _ h1 hj h2
 rw[e1,e2]
theorem JQ{owns:List (Nat->Ow)}(hinj:∀(j j':Nat) (own own':Nat->Ow) (i i':Nat),owns[j]?=some own->owns[j']?=some own'->own i=own' i'->j=j'/\i=i')
 (hform:∀(j:Nat) (own:Nat->Ow),owns[j]?=some own->∀i,(∃a b c,own i= .sl a b c)\/∃a b c,own i= .bc a b c) {j:Nat} {own:Nat->Ow} (hj:owns[j]?=some own) (i:Nat):
 jv owns (own i)= .sl 0 j i:=by
 have e:jv owns (own i)=vt owns (own i):=by
  rcases hform j own hj i with⟨a,b,c,e⟩|⟨a,b,c,e⟩<;>rw[e]<;>rfl
 rw[e,YY hinj hj]
theorem kD{owns:List (Nat->Ow)}(hoth:∀(j:Nat) (own:Nat->Ow),owns[j]?=some own->∀i,(∃a b c,own i= .sl a b c)\/∃a b c,own i= .bc a b c):vt owns .oth= .oth:=by
 unfold vt
 rw[dif_neg]
 rintro⟨ji,own,h1,h2⟩
 rcases hoth _ own h1 ji.2 with⟨a,b,c,e⟩|⟨a,b,c,e⟩<;>rw[e]at h2<;>cases h2
theorem JP(owns:List (Nat->Ow))(hoth:∀(j:Nat) (own:Nat->Ow),owns[j]?=some own->∀i,(∃a b c,own i= .sl a b c)\/∃a b c,own i= .bc a b c):Rho (jv owns) where
 fr:=rfl
 oth:=kD hoth
 box p k g h:=by
  cases p with
  |fr=>cases h
  |oth=>rw[show jv owns .oth= .oth from kD hoth]at h;cases h
  |box a b=>rcases vN (owns:=owns) a b with⟨j,i,e⟩|e<;>rw[e]at h<;>cases h
  |obj a b=>cases h
  |sl a b d=>rcases Qv (owns:=owns) a b d with⟨j,i,e⟩|e<;>rw[e]at h<;>cases h
  |bc a b d=>rcases Qw (owns:=owns) a b d with⟨j,i,e⟩|e<;>rw[e]at h<;>cases h
  |oc a b d=>cases h
 obj p k g h:=by
  cases p with
  |fr=>cases h
  |oth=>rw[show jv owns .oth= .oth from kD hoth]at h;cases h
  |box a b=>rcases vN (owns:=owns) a b with⟨j,i,e⟩|e<;>rw[e]at h<;>cases h
  |obj a b=>exact h
  |sl a b d=>rcases Qv (owns:=owns) a b d with⟨j,i,e⟩|e<;>rw[e]at h<;>cases h
  |bc a b d=>rcases Qw (owns:=owns) a b d with⟨j,i,e⟩|e<;>rw[e]at h<;>cases h
  |oc a b d=>cases h
theorem yG{k:Nat×Nat}:∀{l:List (Nat×Nat)},Jg k l=true->∀j,j∈l->j≠k
 |[],_,j,hj=>by simp at hj
 |x::l,h,j,hj=>by
  simp only[Jg]at h
  split at h
  ·cases h
  ·rename_i hb
   rcases qb3.mp hj with rfl|hj
   ·rintro rfl
    simp[xe]at hb
   ·exact yG h j hj
theorem yB:∀{l:List (Nat×Nat)},jC l=true->∀(i j:Nat) (k:Nat×Nat),l[i]?=some k->l[j]?=some k->i=j
 |[],_,i,j,k,hi,_=>by simp at hi
 |x::l,h,i,j,k,hi,hj=>by
  simp only[jC]at h
  split at h
  ·rename_i hn
   cases i with
   |zero=>
    cases j with
    |zero=>rfl
    |succ j=>
     simp at hi hj
     subst hi
     exact absurd rfl (yG hn _ (qbu hj))
   |succ i=>
    cases j with
    |zero=>
     simp at hi hj
     subst hj
     exact absurd rfl (yG hn _ (qbu hi))
    |succ j=>
     simp at hi hj
     rw[yB h i j k hi hj]
  ·cases h
section
variable {c:Cx}{G:Gh}{w:World}{st:St}{tmps:Array Value}
theorem xo{R:Type}(st:St)(tt:TypeId->Option TI)(r:ResultVar)(K:AV->Option R):kC st tt r K=(kC st tt r some).bind K:=by
 unfold kC
 repeat' split
 all_goals simp[qbl]
theorem jH{R:Type}(st:St)(tt:TypeId->Option TI):∀(l:List ResultVar) (K:List AV->Option R),jI st tt K l=(jI st tt some l).bind K
 |[],K=>rfl
 |r::l,K=>by
  simp only[jI]
  rw[xo,xo (K:=fun x=>jI st tt (fun xs=>some (x::xs)) l)]
  simp only[qbl]
  congr 1;funext x
  rw[jH st tt l,jH st tt l (fun xs=>some (x::xs))]
  simp[qbl]
def jJ(tmps:Array Value):ResultVar->Sem Value
 | .tmp t=>pure (tmps.getD t undef)
 | .cell a t=>do loadVar t (<-asAddr (tmps.getD a undef))
theorem res1(hc:Ok c)(hI:Inv G w st tmps){r:ResultVar}{x:AV}(hr:kC st c.tn r some=some x):
 ∃own v,jP (yA st r) own/\qE G w own x v/\(jJ tmps r).run c.P w= .ok v w:=by
 cases r with
 |tmp t=>exact⟨fun i=>.sl t 0 i,_,.inl ⟨rfl,rfl⟩,zT (hI.slots t) (by simpa[kC]using hr),rfl⟩
 |cell a ty=>
  simp only[kC]at hr
  split at hr
  ·rename_i ti hti
   split at hr
   ·rename_i k g off hs
    split at hr
    ·rename_i g' cs hb
     split at hr
     ·rename_i hg
      subst hg
      have hsl:=hI.slots a
      rw[hs]at hsl
      obtain⟨blk,hla,hv⟩:=hsl
      obtain⟨blk',b1,b2,b3⟩:=hI.boxes k g cs hb
      rw[hla]at b1;cases b1
      obtain⟨arr,e,c1,c2,c3⟩:=b3
      have ht:=hc.tt ty ti (qj hti).1
      have hz:=ht.sizeOf (qj hti).2 w
      have ha:=ht.isAgg (qj hti).2 w
      obtain⟨arrL,harr⟩:∃l,l=arr.toList.take cs.length:=⟨_,rfl⟩
      have hlen:cs.length=arrL.length:=by rw[harr];simp;omega
      have hin:∀(k:Nat) (u:Value),arrL[k]?=some u->arr[k]?=some u:=by
       intro k u hu
       rw[harr,qbn]at hu
       split at hu
       ·simpa using hu
       ·cases hu
      have hkey:yA st (.cell a ty)=(1,k):=by simp[yA,hs]
      split at hr
      ·rename_i hag
       obtain⟨l,hl,hr⟩:=bsm hr
       cases hr
       obtain⟨hle,rfl⟩:=qT hl
       refine⟨fun i=>.bc k g (off+i),.agg ((arrL.drop off).take ti.size).toArray,.inr ⟨by rw[hkey],g,off,by rw[hkey]⟩,⟨(arrL.drop off).take ti.size,rfl,by simp[hlen],fun i y u hy hu=>?_⟩,?_⟩
       ·rw[qbn]at hy hu
        split at hy
        ·rename_i hq
         simp only[hq,if_true]at hu
         rw[qby]at hy hu
         exact c3 (off+i) y u hy (hin _ _ hu)
        ·cases hy
       ·have hload:=run_loadCells_list (P:=c.P) (w:=w) (⟨blk,off,none⟩:Addr) ((arrL.drop off).take ti.size) (fun j v hj=>by
         rw[qx,qB c1]
         rw[qbn]at hj
         split at hj
         ·rw[qby]at hj;exact hin _ _ hj
         ·cases hj)
        have hll:((arrL.drop off).take ti.size).length=ti.size:=qg
        rw[hll]at hload
        simp[jJ,hv,asAddr,loadVar,ha,hag,hz,hload]
      ·rename_i hag
       have hx:cs[off]?=some x:=by
        obtain⟨y,hy,hr⟩:=bsm hr
        cases hr;exact hy
       obtain⟨u,hu⟩:=qv hlen hx
       have hu':arr[off]?=some u:=hin _ _ hu
       have hrel:=c3 off x u hx hu'
       have hag':zA ti.k=false:=by simpa using hag
       refine⟨fun i=>.bc k g (off+i),u,.inr ⟨by rw[hkey],g,off,by rw[hkey]⟩,za.v hrel,?_⟩
       have hcell:w.cell? (⟨blk,off,none⟩:Addr)=some u:=by rw[qB c1];exact hu'
       simp[jJ,hv,asAddr,loadVar,ha,hag',hcell]
     ·cases hr
    ·cases hr
   ·cases hr
  ·cases hr
theorem ress(hc:Ok c)(hI:Inv G w st tmps):∀{rs:List ResultVar} {xs:List AV},jI st c.tn some rs=some xs->
 ∃(owns:List (Nat->Ow)) (vs:List Value),owns.length=rs.length/\vs.length=rs.length/\xs.length=rs.length/\(rs.mapM (jJ tmps)).run c.P w= .ok vs w/\
  (∀(j:Nat) (own:Nat->Ow),owns[j]?=some own->∃r,rs[j]?=some r/\jP (yA st r) own)/\
  ∀(j:Nat) (x:AV) (v:Value),xs[j]?=some x->vs[j]?=some v->∃own,owns[j]?=some own/\qE G w own x v
 |[],xs,h=>by simp only[jI]at h;cases h;exact⟨[],[],rfl,rfl,rfl,rfl,qe,qe⟩
 |r::rs,xs,h=>by
  simp only[jI]at h
  rw[xo]at h
  obtain⟨x,hx,h⟩:=bsm h
  rw[jH]at h
  obtain⟨xs',hxs,h⟩:=bsm h
  cases h
  obtain⟨own,v,h1,h2,h3⟩:=res1 hc hI hx
  obtain⟨owns,vs,g1,g2,g3,g4,g5,g6⟩:=ress hc hI hxs
  refine⟨own::owns,v::vs,by simp[g1],by simp[g2],by simp[g3],?_,?_,?_⟩
  ·rw[List.mapM_cons]
   simp only[Sem.run_bind,h3,Result.andThen_ok,g4,Sem.run_pure]
  ·intro j own' hj
   cases j with
   |zero=>simp at hj;subst hj;exact⟨r,rfl,h1⟩
   |succ j=>simp at hj;obtain⟨r',a1,a2⟩:=g5 j own' hj;exact⟨r',by simpa using a1,a2⟩
  ·intro j x' v' hx' hv'
   cases j with
   |zero=>simp at hx' hv';subst hx';subst hv';exact⟨own,rfl,h2⟩
   |succ j=>simp at hx' hv';obtain⟨own',a1,a2⟩:=g6 j x' v' hx' hv';exact⟨own',by simpa using a1,a2⟩
theorem Qm{P:Program}{fn:Func}{vs:List Value}(h:(fn.results.toList.mapM (jJ tmps)).run P w= .ok vs w):
 (results fn tmps).run P w= .ok (match vs with|[v]=>v|vs=>.tuple vs.toArray) w:=by
 have hm:(fn.results.mapM (jJ tmps)).run P w= .ok vs.toArray w:=by
  rw[Array.mapM_eq_mapM_toList,Sem.run_map,h];rfl
 have e:results fn tmps=(do let vs<-fn.results.mapM (jJ tmps);pure (if h:vs.size=1 then vs[0]else .tuple vs)):=by
  unfold results
  congr 1
 rw[e,Sem.run_bind,hm]
 simp only[Result.andThen_ok,Sem.run_pure]
 match vs with
 |[]=>rfl
 |[v]=>rfl
 |v::v'::vs=>simp
theorem VX(hc:Ok c){f:FuncId}{fn:Func}(hF:c.F f=some fn)(hI:Inv G w st tmps){y:AV}{hp:Hp}(hr:wZ c f st=some (y,hp)):
 ∃v G',(results fn tmps).run c.P w= .ok v w/\Fr G w G' w/\HpI G' w hp/\Yy G' w y v:=by
 unfold wZ at hr
 rw[hF]at hr
 simp only at hr
 cases hd:jC (fn.results.toList.map (yA st))with
 |false=>rw[hd]at hr;cases hr
 |true=>
  rw[hd]at hr
  simp only[cond_true]at hr
  rw[jH]at hr
  obtain⟨xs,hxs,hr⟩:=bsm hr
  obtain⟨owns,vs,g1,g2,g3,g4,g5,g6⟩:=ress hc hI hxs
  have hform:∀(j:Nat) (own:Nat->Ow),owns[j]?=some own->∀i,(∃a b c,own i= .sl a b c)\/∃a b c,own i= .bc a b c:=by
   intro j own hj i
   obtain⟨r,_,h⟩:=g5 j own hj
   exact h.form i
  have hinj:∀(j j':Nat) (own own':Nat->Ow) (i i':Nat),owns[j]?=some own->owns[j']?=some own'->own i=own' i'->j=j'/\i=i':=by
   intro j j' own own' i i' hj hj' e
   obtain⟨r,hr1,h⟩:=g5 j own hj
   obtain⟨r',hr1',h'⟩:=g5 j' own' hj'
   have hk:=h.inj h' e
   have e1:(fn.results.toList.map (yA st))[j]?=some (yA st r):=by rw[qb1,hr1];rfl
   have e2:(fn.results.toList.map (yA st))[j']?=some (yA st r):=by rw[qb1,hr1',hk];rfl
   have ej:=yB hd j j' _ e1 e2
   subst ej
   rw[hj]at hj';cases hj'
   exact⟨rfl,h.inj1 e⟩
  have hrho:=JP owns hform
  have hfr:Fr G w (G.rel (jv owns)) w:=Fr.rel hrho
  have hrel:∀(j:Nat) (x:AV) (v:Value),xs[j]?=some x->vs[j]?=some v->qE (G.rel (jv owns)) w (.sl 0 j ·) x v:=by
   intro j x v hx hv
   obtain⟨own,ho,hr⟩:=g6 j x v hx hv
   refine qE.ev hfr.ev (p:=own) (fun i b hb=>⟨rfl,rfl,?_⟩) hr
   simp only[Gh.rel,hb]
   exact JQ hinj hform ho i
  refine⟨_,G.rel (jv owns),Qm g4,hfr,?_,?_⟩
  ·have:hp=st.hp:=by
    split at hr<;>cases hr<;>rfl
   subst this
   exact hI.hpI.rel hrho (fun _ _=>rfl) (fun _ _ _=>rfl)
  ·match xs,vs,hr,g2,g3,hrel with
   |[x],[v],hr,_,_,hrel=>
    cases hr
    have:=hrel 0 _ _ rfl rfl
    unfold Yy
    split
    ·exact this.elim
    ·exact this
   |[],[],hr,_,_,hrel=>cases hr;exact⟨[],rfl,rfl,qe⟩
   |x::x'::xs,v::v'::vs,hr,g2,g3,hrel=>cases hr;exact⟨_,rfl,by simp at g2 g3⊢;omega,hrel⟩
   |[],v::vs,hr,g2,g3,_=>simp at g2 g3;omega
   |[x],[],hr,g2,g3,_=>simp at g2 g3;omega
   |[x],v::v'::vs,hr,g2,g3,_=>simp at g2 g3;omega
   |x::x'::xs,[],hr,g2,g3,_=>simp at g2 g3;omega
   |x::x'::xs,[v],hr,g2,g3,_=>simp at g2 g3;omega
end
def yL(N:Nat):Code->Bool
 | .region _ ops _=>ops.toList.all fun o=>match o.dst with|some d=>Nat.blt d N|none=>true
 | .seq a b=>yL N a&&yL N b
 | .cond _ a b=>yL N a&&yL N b
 | .block _ b=>yL N b
 | .loop b=>yL N b
 | .scope b=>yL N b
 |_=>true
def Jd(N:Nat):It->Prop
 | .code c=>yL N c=true
 | .inBlock _=>True
 | .inLoop b=>yL N b=true
 | .inScope _=>True
 | .ops _ _ _ _ _=>False
def zR:It->Item
 | .code c=>.code c
 | .inBlock i=>.inBlock i
 | .inLoop b=>.inLoop b
 | .inScope b=>.inScope b
 | .ops _ ops is _ _=>.inRegion ops is
theorem jf{N:Nat}{id:Nat}:∀{k k':List It},vO id k=some k'->(∀it∈k,Jd N it)->exitTo id (k.map zR)=some (k'.map zR)/\∀it∈k',Jd N it
 |[],k',h,_=>by simp[vO]at h
 | .inBlock j::k,k',h,hk=>by
  simp only[vO]at h
  by_cases e:j=id
  ·rw[if_pos e]at h;cases h
   subst e
   exact⟨by simp[exitTo,zR],fun it hi=>hk it (by simp[hi])⟩
  ·rw[if_neg e]at h
   obtain⟨h1,h2⟩:=jf h fun it hi=>hk it (by simp[hi])
   have hne:(j==id)=false:=by simpa using e
   exact⟨by simp only[qcl,zR,exitTo,hne];exact h1,h2⟩
 | .code c::k,k',h,hk=>by
  obtain⟨h1,h2⟩:=jf (k:=k) h fun it hi=>hk it (by simp[hi])
  exact⟨h1,h2⟩
 | .inLoop b::k,k',h,hk=>by
  obtain⟨h1,h2⟩:=jf (k:=k) h fun it hi=>hk it (by simp[hi])
  exact⟨h1,h2⟩
 | .inScope b::k,k',h,hk=>by
  obtain⟨h1,h2⟩:=jf (k:=k) h fun it hi=>hk it (by simp[hi])
  exact⟨h1,h2⟩
 | .ops r ops is d acc::k,k',h,hk=>(show False from hk (.ops r ops is d acc) qe).elim
section
variable {c:Cx}{R:Orc}{G:Gh}{w:World}
theorem Inv.mask{st:St}{t:Array Value}(hI:Inv G w st t)(m:Option (List Nat)):Inv G w (AI.mask m st) t:=by
 cases m with
 |none=>exact hI
 |some live=>
  have hb:∀k g cs,qL (zN st.bx live) k=some (g,cs)->qL st.bx k=some (g,cs):=by
   intro k g cs h
   rw[yH]at h
   split at h
   ·exact h
   ·cases h
  exact{
   slots:=fun k=>by
    show qt G w k (qm (yc (zN st.bx live) st.sl live) k) _
    rw[jF]
    split
    ·have h:=hI.slots k
     cases hs:qm st.sl k with
     |lp j g off=>
      simp only[kM]
      split
      ·rw[hs]at h;exact h
      ·trivial
     |_=>rw[hs]at h;exact h
    ·trivial
   boxes:=fun k g cs h=>hI.boxes k g cs (hb k g cs h)
   heap:=hI.heap
   next:=hI.next
   hlt:=hI.hlt
   new:=hI.new
   vars:=hI.vars
   lps:=fun j k g off h=>by
    have h':qm (yc (zN st.bx live) st.sl live) j= .lp k g off:=h
    show∃g' cs,qL (zN st.bx live) k=some (g',cs)/\g<=g'
    rw[jF]at h'
    split at h'
    ·cases hs:qm st.sl j with
     |lp j' g' off'=>
      rw[hs]at h'
      simp only[kM]at h'
      split at h'
      ·rename_i q hq
       cases h'
       obtain⟨g',cs,h1,h2⟩:=hI.lps j k g off hs
       rw[hq]
       have:=hb k q.1 q.2 hq
       rw[h1]at this
       cases this
       exact⟨_,_,rfl,h2⟩
      ·cases h'
     |_=>rw[hs]at h';cases h'
    ·cases h'}
theorem Inv.world{w':World}{st:St}{t:Array Value}(hI:Inv G w st t)(hw:w'.heap=w.heap):Inv G w' st t:=by
 have he:Ev G w G w':=⟨fun b i _=>by simp[World.cell?,hw],fun _=>qbo _,fun _ _ _ h=>h,fun b z h=>(xC (w:=w) (w':=w') (by rw[hw])).trans h⟩
 have hk:∀p,qF G w G w' p p:=fun p b hb=>⟨by rw[hw],rfl,hb⟩
 exact{
  slots:=fun k=>qt.ev he (fun j i=>hk _) (fun _ _ _ _ _ h=>h) (hI.slots k)
  boxes:=fun k g cs h=>by
   obtain⟨blk,h1,h2,h3⟩:=hI.boxes k g cs h
   exact⟨blk,h1,h2,h3.ev he (by rw[hw]) fun i=>hk _⟩
  heap:=fun k g cs h=>by
   obtain⟨blk,h1,h2,h3⟩:=hI.heap k g cs h
   exact⟨blk,h1,h2,h3.ev he (by rw[hw]) fun i=>hk _⟩
  next:=hI.next
  hlt:=hI.hlt
  new:=fun b hb=>hI.new b (by rw[hw]at hb;exact hb)
  vars:=hI.vars
  lps:=hI.lps}
theorem Fr.world{w':World}(hw:w'.heap=w.heap)(hr:xD w w'):Fr G w G w':=
 ⟨by rw[hw];exact qbo _,fun b i _=>by simp[World.cell?,hw],fun _=>qbo _,fun _ _ _ h=>h,fun b _ _=>⟨by rw[hw],rfl,rfl⟩,hr,fun b z h=>(xC (w:=w) (w':=w') (by rw[hw])).trans h⟩
theorem Vv{st st':St}{t:Array Value}(hv:st.vw=st'.vw)(hI:Inv G w st t):Inv G w st' t:=by
 have h1:qm st'.sl=qm st.sl:=(congrArg Vw.sl hv).symm
 have h2:qL st'.bx=qL st.bx:=(congrArg Vw.bx hv).symm
 have h3:st'.hp=st.hp:=(congrArg Vw.hp hv).symm
 exact{
  slots:=by rw[h1];exact hI.slots
  boxes:=by rw[h2];exact hI.boxes
  heap:=by rw[h3];exact hI.heap
  next:=by rw[h3];exact hI.next
  hlt:=by rw[h3];exact hI.hlt
  new:=hI.new
  vars:=hI.vars
  lps:=by rw[h1,h2];exact hI.lps}
theorem JR(hc:Ok c)(hR:jz c R)(hS:yi c R){f:FuncId}{r:Nat}{ops:Array Oper}{d:Bool}{st st':St}{accs:List (Nat×Fp)}{a:Act}(hI:Inv G w st a.tmps)
 (hd:∀o∈ops,zl o a) (hrun:jV c R f r ops (List.range ops.size) st.vw=some (st'.vw,accs)) (hok:d=true->xx ops accs.reverse=true/\∀o∈KE ops accs.reverse,o=some ()):
 (Code.region r ops d).wp c.P (fun e a' w'=>e= .normal/\∃G',Inv G' w' st' a'.tmps/\Fr G w G' w'/\a'.tmps.size=a.tmps.size/\a'.defers=a.defers) a w:=by
 have conv:∀{w0:World} (_:Fr G w G w0) (a':Act) (w':World),vn G w0 a st'.vw a' w'->∃G',Inv G' w' st' a'.tmps/\Fr G w G' w'/\a'.tmps.size=a.tmps.size/\a'.defers=a.defers:=by
  rintro w0 hf a' w' ⟨G',⟨s,hs,hI'⟩,h2,h3,h4⟩
  exact⟨G',Vv hs hI',hf.trans h2,h3,h4⟩
 cases d with
 |false=>
  exact wp_region (Xa hc hR hS _ G w a _ _ _ hrun ⟨st,rfl,hI⟩ hd fun a' w' h=>⟨rfl,conv (Fr.refl G w) a' w' h⟩)
 |true=>
  obtain⟨hdr,hpe⟩:=hok rfl
  unfold xx at hdr
  have hdeps:kZ ops=true:=by
   cases h:kZ ops with
   |true=>rfl
   |false=>rw[h]at hdr;cases hdr
  have hpairs:∀p∈accs.reverse,∀q∈accs.reverse,(!(decide (p.1<q.1))||((qY ops.toList []).getD q.1 []).contains p.1||!(Jw p.2 q.2))=true:=by
   intro p hp q hq
   rw[hdeps,Bool.true_and]at hdr
   exact qbv.mp (qbv.mp hdr p hp) q hq
  have hw:({w with drawn:=w.drawn+1}:World).heap=w.heap:=rfl
  refine wp_region_any hc.mixed (Kb hc hR hS hdeps ops.size (List.range ops.size) (Array.replicate ops.size false) G {w with drawn:=w.drawn+1} a st.vw st'.vw accs qe (fun i=>?_) (fun i hi=>List.mem_range.mp hi) qe
   List.pairwise_lt_range (fun j o d hj _ _=>?_) hrun (fun x Fx y Fy hx hy hxy=>?_) ⟨st,rfl,hI.world hw⟩ hd fun a' w' h=>⟨rfl,conv (Fr.world hw ⟨rfl,rfl,rfl⟩) a' w' h⟩)
  ·rw[List.mem_range]
   by_cases h:i<ops.size<;>simp[Array.getD,h]
  ·exfalso
   by_cases h:j<ops.size<;>simp[Array.getD,h]at hj
  ·have:=hpairs (x,Fx) (by simpa using hx) (y,Fy) (by simpa using hy)
   simp only[hxy,decide_true,Bool.not_true,Bool.false_or,Bool.or_eq_true]at this
   rcases this with h|h
   ·exact .inl (by simpa using h)
   ·by_cases hanc:x∈(qY ops.toList []).getD y []
    ·exact .inl hanc
    ·have no:∀j,j∈(qY ops.toList []).getD x []->j<x:=fun j hj=>Wq hdeps hj
     have hord:wG (qY ops.toList []) x y=false:=by
      unfold wG
      have h2:y∉(qY ops.toList []).getD x []:=fun hm=>by have:=no y hm;omega
      rw[Bool.or_eq_false_iff,List.contains_eq_mem,List.contains_eq_mem]
      exact⟨decide_eq_false hanc,decide_eq_false h2⟩
     have hord':wG (qY ops.toList []) y x=false:=by
      unfold wG at hord⊢
      rw[Bool.or_comm];exact hord
     refine .inr (Ka (by simpa using h) (fun q hq hw=>?_) (fun q hq hw=>?_))
     ·have:=vP hpe (p:=(x,Fx)) (q:=(y,Fy)) (by simpa using hx) (by simpa using hy) hq hw
      rw[hord]at this
      exact this.resolve_left qe
     ·have:=vP hpe (p:=(y,Fy)) (q:=(x,Fx)) (by simpa using hy) (by simpa using hx) hq hw
      rw[hord']at this
      exact this.resolve_left qe
theorem Wc{N:Nat}{r:Nat}{ops:Array Oper}{d:Bool}(h:yL N (.region r ops d)=true){a:Act}(hN:N<=a.tmps.size):∀o∈ops,zl o a:=by
 intro o ho k hk
 simp only[yL]at h
 have:=qbv.mp h o (by simpa using ho)
 rw[hk]at this
 have hlt:k<N:=by simpa[Nat.blt_eq]using this
 exact qcb hlt hN
def jQ(P:Program)(f:FuncId)(G:Gh)(w:World)(y:AV)(hp:Hp)(m:Machine)(cs:List Frame):Prop:=
 ∃v G' w' fr,Steps P m (lone fr cs w')/\fr.fn=f/\fr.leaving P w' (.returned v)/\Fr G w G' w'/\HpI G' w' hp/\Yy G' w' y v
theorem jQ.of{P:Program}{f:FuncId}{G G1:Gh}{w w1:World}{y:AV}{hp:Hp}{m m1:Machine}{cs:List Frame}(hs:Steps P m m1)(hf:Fr G w G1 w1)(h:jQ P f G1 w1 y hp m1 cs):jQ P f G w y hp m cs:=by
 obtain⟨v,G',w',fr,h1,h2,h3,h4,h5,h6⟩:=h
 exact⟨v,G',w',fr,hs.trans h1,h2,h3,hf.trans h4,h5,h6⟩
theorem qam(hc:Ok c)(hR:jz c R)(hS:yi c R){f:FuncId}{fn:Func}(hF:c.F f=some fn){N:Nat}:∀(n:Nat) (its:List It) (st:St) (y:AV) (hp:Hp),yf c R f n its st=some (y,hp)->(∀it∈its,Jd N it)->
 ∀(G:Gh) (w:World) (a:Act),Inv G w st a.tmps->N<=a.tmps.size->a.defers=[]->∀(b:Frame) (cs:List Frame),b.fn=f->b.kind= .normal->jQ c.P f G w y hp (lone (b.at a (its.map zR)) cs w) cs:=by
 intro n
 induction n using Nat.strongRecOn with
 |_ n ih=>
 intro its st y hp hgo hits G w a hI hN hdef b cs hb hk
 cases n with
 |zero=>simp[yf]at hgo
 |succ n=>
 have hP:=hc.F f fn hF
 have ends:∀(todo:List Item),wZ c f st=some (y,hp)->Steps c.P (lone (b.at a (its.map zR)) cs w) (lone {b.at a todo with mode:=.returning} cs w)->jQ c.P f G w y hp (lone (b.at a (its.map zR)) cs w) cs:=by
  intro todo hfin hs
  obtain⟨v,G',h1,h2,h3,h4⟩:=VX hc hF hI hfin
  exact⟨v,G',w,_,hs,hb,⟨rfl,hdef,hk,fn,by rw[<-hP];exact congrArg _ hb,h1⟩,h2,h3,h4⟩
 have on:∀(its':List It),yf c R f n its' st=some (y,hp)->(∀it∈its',Jd N it)->step c.P (lone (b.at a (its.map zR)) cs w)= .next (lone (b.at a (its'.map zR)) cs w)->jQ c.P f G w y hp (lone (b.at a (its.map zR)) cs w) cs:=by
  intro its' hgo' hits' hs
  exact jQ.of (.one hs) (Fr.refl G w) (ih n (Nat.lt_succ_self n) its' st y hp hgo' hits' G w a hI hN hdef b cs hb hk)
 simp only[yf]at hgo
 match its,hgo,hits,ends,on with
 |[],hgo,hits,ends,on=>exact ends _ hgo (.one step_end)
 | .inBlock id::k,hgo,hits,ends,on=>exact on _ hgo (fun it hi=>hits it (by simp[hi])) step_inBlock
 | .inScope body::k,hgo,hits,ends,on=>exact on _ hgo (fun it hi=>hits it (by simp[hi])) step_inScope
 | .inLoop body::k,hgo,hits,ends,on=>
  exact on (.code body::.inLoop body::k) hgo (fun it hi=>by
   simp only[qb3]at hi
   rcases hi with rfl|rfl|hi
   ·exact hits (.inLoop body) qe
   ·exact hits (.inLoop body) qe
   ·exact hits it (by simp[hi])) step_inLoop
 | .code .skip::k,hgo,hits,ends,on=>exact on _ hgo (fun it hi=>hits it (by simp[hi])) step_skip
 | .code (.label l)::k,hgo,hits,ends,on=>exact on _ hgo (fun it hi=>hits it (by simp[hi])) step_label
 | .code .ret::k,hgo,hits,ends,on=>exact ends _ hgo (.one step_ret)
 | .code (.seq x z)::k,hgo,hits,ends,on=>
  have h:=hits (.code (.seq x z)) qe
  simp only[Jd,yL,qca]at h
  exact on (.code x::.code z::k) hgo (fun it hi=>by
   simp only[qb3]at hi
   rcases hi with rfl|rfl|hi
   ·exact h.1
   ·exact h.2
   ·exact hits it (by simp[hi])) step_seq
 | .code (.block id x)::k,hgo,hits,ends,on=>
  exact on (.code x::.inBlock id::k) hgo (fun it hi=>by
   simp only[qb3]at hi
   rcases hi with rfl|rfl|hi
   ·exact hits (.code (.block id x)) qe
   ·trivial
   ·exact hits it (by simp[hi])) step_block
 | .code (.loop x)::k,hgo,hits,ends,on=>
  have hgo:yf c R f n (.inLoop x::k) st=some (y,hp):=hgo
  cases n with
  |zero=>simp[yf]at hgo
  |succ n=>
   simp only[yf,zj]at hgo
   have hits':∀it∈ .code x::.inLoop x::k,Jd N it:=fun it hi=>by
    simp only[qb3]at hi
    rcases hi with rfl|rfl|hi
    ·exact hits (.code (.loop x)) qe
    ·exact hits (.code (.loop x)) qe
    ·exact hits it (by simp[hi])
   exact jQ.of (.one step_loop) (Fr.refl G w) (ih n qc _ st y hp hgo hits' G w a hI hN hdef b cs hb hk)
 | .code (.exit id)::k,hgo,hits,ends,on=>
  simp only[zj]at hgo
  obtain⟨k',hk',hgo⟩:=bsm hgo
  obtain⟨h1,h2⟩:=jf (N:=N) hk' (fun it hi=>hits it (by simp[hi]))
  exact on _ hgo h2 (step_exit h1)
 | .code (.cond x p q)::k,hgo,hits,ends,on=>
  simp only[zj]at hgo
  obtain⟨u,hu,hgo⟩:=bsm hgo
  obtain⟨t,ht,hgo⟩:=bsm hgo
  have hx:=(zt hI (zi hu)).1
  rw[xg ht]at hx
  have h:=hits (.code (.cond x p q)) qe
  simp only[Jd,yL,qca]at h
  have hs:=step_cond (P:=c.P) (b:=b) (k:=k.map zR) (cs:=cs) (w:=w) (x:=p) (y:=q) hx
  cases t with
  |true=>
   exact on (.code p::k) hgo (fun it hi=>by
    simp only[qb3]at hi
    rcases hi with rfl|hi
    ·exact h.1
    ·exact hits it (by simp[hi])) hs
  |false=>
   exact on (.code q::k) hgo (fun it hi=>by
    simp only[qb3]at hi
    rcases hi with rfl|hi
    ·exact h.2
    ·exact hits it (by simp[hi])) hs
 | .code (.region r ops d)::k,hgo,hits,ends,on=>
  simp only[zj]at hgo
  obtain⟨n',st',accs,h1,h2,h3,h4⟩:=Vo n _ d [] k _ _ hgo
  have hdst:=Wc (hits (.code (.region r ops d)) qe) hN
  have hwp:=JR hc hR hS (d:=d) (hI.mask (c.M f r)) hdst h2 (fun e=>by simpa using h3 e)
  obtain⟨e,a',w',⟨he,G',i1,i2,i3,i4⟩,harr⟩:=hwp b (k.map zR) cs
  subst he
  exact jQ.of harr i2 (ih n' qc k st' y hp h4 (fun it hi=>hits it (by simp[hi])) G' w' a' i1 (by rw[i3];exact hN) (by rw[i4];exact hdef) b cs hb hk)
 | .ops r ops is d acc::k,hgo,hits,ends,on=>exact(show False from hits (.ops r ops is d acc) qe).elim
 | .code (.rangeFunc _ _ _ _)::k,hgo,hits,ends,on=>simp[zj]at hgo
 | .code (.scope x)::k,hgo,hits,ends,on=>
  exact on (.code x::.inScope x::k) hgo (fun it hi=>by
   simp only[qb3]at hi
   rcases hi with rfl|rfl|hi
   ·exact hits (.code (.scope x)) qe
   ·trivial
   ·exact hits it (by simp[hi])) step_scope
 | .code (.goto _)::k,hgo,hits,ends,on=>simp[zj]at hgo
 | .code (.refuse _)::k,hgo,hits,ends,on=>simp[zj]at hgo
theorem ka(hc:Ok c):∀(i:Nat) (ts:List TypeId) (xs:List AV) (l:Slots),zP c i ts xs some=some l->
 ∀k,qm l k= .un\/∃x,xs[k-i]?=some x/\i<=k/\(qm l k= .av x\/∃v,x= .sc v/\qm l k= .sv v)
 |i,[],[],l,h,k=>by simp only[zP]at h;cases h;exact .inl rfl
 |i,[],x::xs,l,h,k=>by
  simp only[zP]at h
  rw[qP]at h
  obtain⟨l',h1,h2⟩:=bsm h
  cases h2
  rw[qy]
  by_cases e:i=k
  ·subst e;rw[if_pos rfl];exact .inr ⟨x,qe,qbo _,.inl rfl⟩
  ·rw[if_neg e]
   rcases ka hc (i+1) [] xs l' h1 k with h|⟨x',h,h',h''⟩
   ·exact .inl h
   ·refine .inr ⟨x',?_,qc,h''⟩
    rw[show k-i=(k-(i+1))+1 by omega];simpa using h
 |i,t::ts,[],l,h,k=>by simp[zP]at h
 |i,t::ts,x::xs,l,h,k=>by
  simp only[zP]at h
  have rest:∀(l':Slots) (s:SV),zP c (i+1) ts xs some=some l'->(s= .av x\/∃v,x= .sc v/\s= .sv v)->l=(i,s)::l'->
   qm l k= .un\/∃x',(x::xs)[k-i]?=some x'/\i<=k/\(qm l k= .av x'\/∃v,x'= .sc v/\qm l k= .sv v):=by
   rintro l' s h1 hs rfl
   rw[qy]
   by_cases e:i=k
   ·subst e;rw[if_pos rfl];exact .inr ⟨x,qe,qbo _,hs⟩
   ·rw[if_neg e]
    rcases ka hc (i+1) ts xs l' h1 k with h|⟨x',h,h',h''⟩
    ·exact .inl h
    ·refine .inr ⟨x',?_,qc,h''⟩
     rw[show k-i=(k-(i+1))+1 by omega];simpa using h
  split at h
  ·split at h
   ·obtain⟨v,hv,h⟩:=bsm h
    rw[qP]at h
    obtain⟨l',h1,h2⟩:=bsm h
    cases h2
    exact rest l' _ h1 (.inr ⟨v,zF hv,rfl⟩) rfl
   ·rw[qP]at h
    obtain⟨l',h1,h2⟩:=bsm h
    cases h2
    exact rest l' _ h1 (.inl rfl) rfl
  ·cases h
def vm(c:Cx):Prop:=∀f fn b,c.F f=some fn->fn.body=some b->yL fn.ntmps b=true
theorem YN(hc:Ok c)(hD:vm c)(hR:jz c R)(hS:yi c R){f:FuncId}{xs:List AV}{hp hp':Hp}{y:AV}{n:Nat}(hr:zu c f xs hp (yf c R f n)=some (y,hp'))(G:Gh)(w:World)(vs:List Value)(hH:HpI G w hp)(hlen:xs.length=vs.length)
 (hargs:∀(i:Nat) (x:AV) (v:Value),xs[i]?=some x->vs[i]?=some v->vJ G w x v):Calls c.P f vs.toArray w (Kc G w y hp'):=by
 unfold zu at hr
 cases hF:c.F f with
 |none=>rw[hF]at hr;cases hr
 |some fn=>
  rw[hF]at hr
  simp only at hr
  cases hb:fn.body with
  |none=>rw[hb]at hr;cases hr
  |some body=>
   rw[hb]at hr
   simp only at hr
   rw[qP]at hr
   obtain⟨l,hl,hr⟩:=bsm hr
   let a:Act:={tmps:=vs.toArray++Array.replicate (fn.ntmps-vs.toArray.size) undef,defers:=[]}
   have hget:∀k v,vs[k]?=some v->a.tmps.getD k undef=v:=by
    intro k v hk
    have hlt:k<vs.length:=(qbm.mp hk).1
    simp only[a,Array.getD_eq_getD_getElem?]
    rw[qb4 (by simpa using hlt),qcu,hk];rfl
   have hI:Inv G w ⟨l,[],hp⟩ a.tmps:={
    slots:=fun k=>by
     show qt G w k (qm l k) _
     rcases ka hc 0 _ _ _ hl k with h|⟨x,h1,h2,h3⟩
     ·rw[h];trivial
     ·rw[Nat.sub_zero]at h1
      obtain⟨v,hv⟩:=qv hlen h1
      have hrel:=hargs k x v h1 hv
      rw[hget k v hv]
      rcases h3 with h3|⟨u,rfl,h3⟩
      ·rw[h3];exact hrel _
      ·rw[h3]
       have hr':RelR G w (.sc u) v:=hrel (fun _=>.fr)
       cases hr' with
       |sc _ h1=>exact⟨rfl,h1⟩
    boxes:=fun k g cs h=>by simp[qL]at h
    heap:=hH.heap
    next:=hH.next
    hlt:=hH.hlt
    new:=hH.new
    vars:=hH.vars
    lps:=fun j k g off h=>by
     have h':qm l j= .lp k g off:=h
     rcases ka hc 0 _ _ _ hl j with e|⟨x,h1,h2,e|⟨v,_,e⟩⟩<;>rw[e]at h'<;>cases h'}
   intro cs
   let b:Frame:={(default:Frame)with fn:=f,kind:=.normal}
   have hP:=hc.F f fn hF
   have henter:Frame.enter c.P f vs.toArray .normal=b.at a [.code body]:=by
    simp[Frame.enter,Frame.at,hP,hb,b,a]
   have:=qam hc hR hS hF (N:=fn.ntmps) n [.code body] ⟨l,[],hp⟩ y hp' hr (fun it hi=>by
    simp only[List.mem_singleton]at hi
    subst hi
    exact hD f fn body hF hb) G w a hI (by simp[a];omega) rfl b cs rfl rfl
   obtain⟨v,G',w',fr,h1,h2,h3,h4,h5,h6⟩:=this
   refine⟨.returned v,w',fr,⟨v,G',rfl,h4,h5,h6⟩,?_,h2,h3⟩
   rw[henter]
   exact h1
theorem JN:∀n,yi c (ze c n)
 |0,f,xs,hp,r,h=>by simp[ze]at h
 |n+1,f,xs,hp,r,h=>by
  simp only[ze,zu]at h
  cases hF:c.F f with
  |none=>rw[hF]at h;cases h
  |some fn=>
   rw[hF]at h
   simp only at h
   cases hb:fn.body with
   |none=>rw[hb]at h;cases h
   |some b=>exact⟨fn,b,rfl,hb⟩
theorem kz(hc:Ok c)(hD:vm c):∀n,jz c (ze c n)
 |0=>fun f xs hp y hp' h=>by simp[ze]at h
 |n+1=>fun f xs hp y hp' h G w vs hH hl ha=>YN hc hD (kz hc hD n) (JN n) h G w vs hH hl ha
theorem JJ(hc:Ok c)(hD:vm c){f:FuncId}{xs:List AV}{hp hp':Hp}{y:AV}(h:run c f xs hp=some (y,hp')){G:Gh}{w:World}{vs:List Value}(hH:HpI G w hp)(hl:xs.length=vs.length)
 (ha:∀(i:Nat) (x:AV) (v:Value),xs[i]?=some x->vs[i]?=some v->vJ G w x v):Calls c.P f vs.toArray w (Kc G w y hp'):=by
 obtain⟨n,hn⟩:=jc.mp h
 exact kz hc hD n f xs hp y hp' hn G w vs hH hl ha
end
inductive Tr (α : Type) where
 |leaf
 |node (k:Nat) (v:α) (l r:Tr α)
def Tr.get{α:Type}:Tr α->Nat->Option α
 | .leaf,_=>none
 | .node k v l r,x=>match Nat.beq x k with
  |true=>some v
  |false=>match Nat.blt x k with
   |true=>l.get x
   |false=>r.get x
def YL:TypeDesc->TK
 | .struct fs=>.st (fs.toList.map fun f=>(f.offset,f.type))
 | .slice e=>.sl e
 | .array n e=>.ar n e
 | .map k e=>.mp k e
 | .tuple _=>.tu
 | .bool=>.sc
 | .int _=>.sc
 | .float _=>.sc
 | .complex _=>.sc
 | .string=>.sc
 |_=>.ot
def XE:Value->Bool
 | .agg _=>true
 |_=>false
def zD:TypeDesc->List Value->Bool
 | .int k,[.int k' _]=>decide (k=k')
 | .bool,[.bool _]=>true
 | .string,[.string _]=>true
 | .pointer _,[.pointer none]=>true
 |_,[.int _ _]=>false
 |_,[.bool _]=>false
 |_,[.string _]=>false
 |_,[.pointer none]=>false
 |_,_=>true
def XD:TypeDesc->Bool
 | .struct _=>true
 | .array _ _=>true
 |_=>false
def tupN:TypeDesc->Nat
 | .tuple l=>l.size
 |_=>0
def kj(P:Program)(t:TypeId):Option TI:=
 match P.info? t,P.underlying t with
 |some i,some d=>match yq (YL d)with
  |true=>some ⟨.tu,tupN d,i.bytes,[]⟩
  |false=>match i.zero with
   |some z=>match Nat.beq z.cells.toList.length i.size&&z.cells.toList.all (·.oneCell')&&(XD d||zD d z.cells.toList)&&cond (zA (YL d)) (XE z) z.oneCell' with
    |true=>some ⟨YL d,i.size,i.bytes,z.cells.toList⟩
    |false=>none
   |none=>none
 |_,_=>none
theorem VC(d:TypeDesc):DOk d (YL d):=by
 cases d<;>first|exact rfl|trivial|(intro x hx;subst hx;rfl)|exact⟨_,rfl,rfl⟩
theorem VA{d:TypeDesc}(h:YL d= .sc):XD d=false:=by cases d<;>first|rfl|cases h
theorem VB{d:TypeDesc}(h:YL d= .ot):XD d=false:=by cases d<;>first|rfl|cases h
theorem xl{P:Program}{t:TypeId}{ti:TI}(h:kj P t=some ti):∃i d,P.info? t=some i/\P.underlying t=some d/\ti.k=YL d/\i.bytes=ti.bytes/\
 ((yq (YL d)=true/\ti.zero=[])\/(yq (YL d)=false/\∃z,i.zero=some z/\z.cells.toList=ti.zero/\i.size=ti.size/\ti.zero.length=ti.size/\(∀v∈ti.zero,v.oneCell'=true)/\(XD d=true\/zD d ti.zero=true)/\cond (zA (YL d)) (XE z) z.oneCell'=true)):=by
 unfold kj at h
 split at h
 ·rename_i i d h1 h2
  split at h
  ·rename_i e
   cases h
   refine⟨i,d,h1,h2,?_,rfl,.inl ⟨e,rfl⟩⟩
   cases d<;>first|rfl|cases e
  ·rename_i e
   split at h
   ·rename_i z hz
    split at h
    ·rename_i c
     cases h
     simp only[qca,Bool.or_eq_true]at c
     exact⟨i,d,h1,h2,rfl,rfl,.inr ⟨e,z,hz,rfl,rfl,Nat.eq_of_beq_eq_true c.1.1.1,fun v hv=>qbv.mp c.1.1.2 v hv,c.1.2,c.2⟩⟩
    ·cases h
   ·cases h
 ·cases h
section
variable {P:Program}{t:TypeId}{ti:TI}
theorem yP(h:kj P t=some ti)(k:TK)(hk:ti.k=k)(k0:k= .sc\/k= .ot):∃d,P.underlying t=some d/\zD d ti.zero=true:=by
 obtain⟨i,d,h1,h2,h3,_,h5⟩:=xl h
 refine⟨d,h2,?_⟩
 have e:YL d=k:=by rw[<-h3,hk]
 have e2:XD d=false:=by
  rcases k0 with q|q
  ·exact VA (e.trans q)
  ·exact VB (e.trans q)
 rcases h5 with⟨q,_⟩|⟨_,z,_,_,_,_,_,q,_⟩
 ·rw[e]at q;rcases k0 with rfl|rfl<;>cases q
 ·rcases q with q|q
  ·rw[e2]at q;cases q
  ·exact q
theorem VF(h:kj P t=some ti)(hi:Jn ti=true):∃k,P.underlying t=some (.int k):=by
 unfold Jn at hi
 split at hi
 ·rename_i k n hk hz
  obtain⟨d,h1,h2⟩:=yP h _ hk (.inl rfl)
  rw[hz]at h2
  cases d<;>first|exact⟨_,h1⟩|cases h2
 ·cases hi
theorem qab(h:kj P t=some ti)(hi:ZN ti=true):P.underlying t=some (.int .u8):=by
 unfold ZN at hi
 split at hi
 ·rename_i n hk hz
  obtain⟨d,h1,h2⟩:=yP h _ hk (.inl rfl)
  rw[hz]at h2
  cases d<;>first|(rename_i k;have:k=IntKind.u8:=of_decide_eq_true h2;rw[h1,this])|cases h2
 ·cases hi
theorem VD(h:kj P t=some ti)(hi:vY ti=true):P.underlying t=some .string:=by
 unfold vY at hi
 split at hi
 ·rename_i n hk hz
  obtain⟨d,h1,h2⟩:=yP h _ hk (.inl rfl)
  rw[hz]at h2
  cases d<;>first|exact h1|cases h2
 ·cases hi
theorem VG(h:kj P t=some ti)(hi:Jo ti=true):P.underlying t=some .bool:=by
 unfold Jo at hi
 split at hi
 ·rename_i n hk hz
  obtain⟨d,h1,h2⟩:=yP h _ hk (.inl rfl)
  rw[hz]at h2
  cases d<;>first|exact h1|cases h2
 ·cases hi
theorem VE(h:kj P t=some ti)(hi:KT ti=true):∃e,P.underlying t=some (.pointer e):=by
 unfold KT at hi
 split at hi
 ·rename_i hk hz
  obtain⟨d,h1,h2⟩:=yP h _ hk (.inr rfl)
  rw[hz]at h2
  cases d<;>first|exact⟨_,h1⟩|cases h2
 ·cases hi
theorem Ko(h:kj P t=some ti)(hk:yq ti.k=false){info:TypeInfo}{z:Value}(hi:P.info? t=some info)(hz:info.zero=some z):
 (zA ti.k=true->∃vs,z= .agg vs)/\(zA ti.k=false->z.oneCell'=true):=by
 obtain⟨i,d,h1,h2,h3,_,h5⟩:=xl h
 rw[h1]at hi;cases hi
 rcases h5 with⟨q,_⟩|⟨_,z',hz',_,_,_,_,_,q⟩
 ·rw[h3,q]at hk;cases hk
 ·rw[hz']at hz;cases hz
  rw[h3]
  refine⟨fun e=>?_,fun e=>?_⟩
  ·rw[e]at q
   cases z<;>first|exact⟨_,rfl⟩|cases q
  ·rw[e]at q;exact q
theorem qac(h:kj P t=some ti):Zk P t ti:=by
 refine⟨qab h,VD h,?_⟩
 obtain⟨i,d,h1,h2,h3,h4,h5⟩:=xl h
 refine⟨i,d,h1,h2,by rw[h3];exact VC d,h4,fun e=>?_⟩
 rcases h5 with⟨q,_⟩|⟨_,z,a1,a2,a3,a4,a5,_⟩
 ·rw[h3,q]at e;cases e
 ·exact⟨a3,z,a1,a2,a4,a5⟩
end
def fnB(fn:Func):Bool:=!(fn.name== "runtime.NumGoroutine")&&match fn.body with|some b=>yL fn.ntmps b|none=>true
def lkH:List (Nat×Nat×Nat)->Nat->Nat->Nat
 |[],_,_=>0
 |(a,b,h)::l,r,i=>match Nat.beq a r&&Nat.beq b i with|true=>h|false=>lkH l r i
def lkM:List (Nat×List Nat)->Nat->Option (List Nat)
 |[],_=>none
 |(a,m)::l,r=>match Nat.beq a r with|true=>some m|false=>lkM l r
def yu(P:Program)(f:FuncId)(vs:List Value):Option Value:=
 (qO P (callFunc f vs.toArray)).bind fun n=>match n with
  | .value v=>some v
  |_=>none
def VR(P:Program)(H:Tr (List (Nat×Nat×Nat)))(M:Tr (List (Nat×List Nat))):Cx:=
 ⟨P,kj P,fun f=>P.funcs[f]?,yu P,fun f=>match H.get f with|some l=>lkH l|none=>fun _ _=>0,fun f=>match M.get f with|some l=>lkM l|none=>fun _=>none⟩
theorem mkOk{P:Program}{H:Tr (List (Nat×Nat×Nat))}{M:Tr (List (Nat×List Nat))}(hF:P.funcs.toList.all fnB=true)(hm:P.follows .mixedOrders=true):
 Ok (VR P H M)/\vm (VR P H M):=by
 have hB:∀f fn,P.funcs[f]?=some fn->fnB fn=true:=fun f fn h=>qbv.mp hF fn (Array.mem_toList_iff.mpr (Array.mem_of_getElem? h))
 refine⟨⟨fun t ti h=>qac h,fun t ti h=>VF h,fun t ti h=>VG h,fun t ti h=>VE h,fun t ti h hk info z hi hz=>Ko h hk hi hz,fun f fn h=>h,fun f fn h=>?_,fun f fn vs v h hb hX w=>?_,hm⟩,fun f fn b h hb=>?_⟩
 ·have:=hB f fn h
  simp only[fnB,qca,Bool.not_eq_true']at this
  exact this.1
 ·have hX:yu P f vs=some v:=hX
  unfold yu at hX
  obtain⟨n,hn,hX⟩:=bsm hX
  have hr:=zm hn w
  split at hX
  ·cases hX;exact hr
  ·cases hX
 ·have:=hB f fn h
  simp only[fnB,qca,hb]at this
  exact this.2
theorem qd{p:Prop}(h:p:=by kernel_rfl):p:=h
def hlT:Tr (List (Nat×Nat×Nat)):=
 let n:Nat->List (Nat×Nat×Nat)->Tr (List (Nat×Nat×Nat))->Tr (List (Nat×Nat×Nat))->Tr (List (Nat×Nat×Nat)):=.node
 let o:Tr (List (Nat×Nat×Nat)):=.leaf
 let u:Nat->List (Nat×Nat×Nat)->Tr (List (Nat×Nat×Nat)):=fun k v=>.node k v o o
 o
def mlT:Tr (List (Nat×List Nat)):=
 let n:Nat->List (Nat×List Nat)->Tr (List (Nat×List Nat))->Tr (List (Nat×List Nat))->Tr (List (Nat×List Nat)):=.node
 let o:Tr (List (Nat×List Nat)):=.leaf
 let u:Nat->List (Nat×List Nat)->Tr (List (Nat×List Nat)):=fun k v=>.node k v o o
 (n 13 [(5,[3])] (n 8 [(8,[]),(9,[0])] (u 5 [(10,[0]),(11,[0])]) (u 9 [(7,[3])])) (n 21 [(2,[0]),(3,[0]),(7,[3])] (u 16 [(5,[0])]) (u 26 [(7,[3])])))
noncomputable def cxX:Cx:=VR Try.prog hlT mlT
theorem okX:Ok cxX/\vm cxX:=mkOk qd qd
@[simp] theorem Ju(n:Int):Ki Try.prog 2 24 (.int .i64 n)=some (.float .f64 (FloatKind.f64.nearest n)):=qd
@[simp] theorem Jv(n:Int):Ki Try.prog 22 2 (.int .u64 n)=some (.int .i64 (IntKind.i64.wrap n)):=qd
@[simp] theorem Vc(n:Int):Ki Try.prog 22 3 (.int .u64 n)=some (.int .i64 (IntKind.i64.wrap n)):=qd
@[simp] theorem QX(n:Int):Ki Try.prog 22 24 (.int .u64 n)=some (.float .f64 (FloatKind.f64.nearest n)):=qd
abbrev RO:=Option (AV×Hp)
@[simp] noncomputable abbrev r2(x:AV):AV:=ro (ro x)
@[simp] noncomputable abbrev nl:AV:=.sc (.slice none 0 0)
@[simp] noncomputable abbrev kI(n:Nat):Value:=.int .i64 (.ofNat n)
@[simp] noncomputable abbrev kU(n:Nat):Value:=.int .u64 (.ofNat n)
@[simp] noncomputable abbrev kW(n:Nat):Value:=.int .u32 (.ofNat n)
@[simp] noncomputable abbrev kH(n:Nat):Value:=.int .u16 (.ofNat n)
@[simp] noncomputable abbrev kB(n:Nat):Value:=.int .u8 (.ofNat n)
@[simp] noncomputable abbrev rQ(x:AV)(h:Hp):RO:=some (x,h)
@[simp] noncomputable def cS(f:Nat)(l:List AV)(h:Hp)(K:Value->Hp->RO):RO:=(run cxX f l h).bind fun y=>(yw y.1).bind fun v=>K v y.2
@[simp] noncomputable def cA(f:Nat)(l:List AV)(h:Hp)(K:AV->Hp->RO):RO:=(run cxX f l h).bind fun y=>(kN y.1).bind fun _=>K y.1 y.2
@[simp] noncomputable def cT(f:Nat)(l:List AV)(h:Hp)(K:Hp->RO):RO:=(run cxX f l h).bind fun y=>(yM 0 y.1).bind fun _=>K y.2
@[simp] noncomputable def cN(n f:Nat)(l:List AV)(h:Hp)(K:AV->Hp->RO):RO:=(run cxX f l h).bind fun y=>(yM n y.1).bind fun _=>K y.1 y.2
@[simp] noncomputable def pS(f:Nat)(l:List AV)(K:Value->RO):RO:=(jZ l []).bind fun _=>(run cxX f (l.map ro) hp0).bind fun y=>(xJ y.1).bind fun _=>(yw y.1).bind fun v=>K v
@[simp] noncomputable def pA(f:Nat)(l:List AV)(K:AV->RO):RO:=(jZ l []).bind fun _=>(run cxX f (l.map ro) hp0).bind fun y=>(xJ y.1).bind fun _=>(kN y.1).bind fun _=>K y.1
@[simp] noncomputable def pT(n f:Nat)(l:List AV)(K:AV->RO):RO:=(jZ l []).bind fun _=>(run cxX f (l.map ro) hp0).bind fun y=>(xJ y.1).bind fun _=>(yM n y.1).bind fun _=>K y.1
@[simp] noncomputable def pR(f:Nat)(l:List AV)(K:AV->RO):RO:=(jZ l []).bind fun _=>(run cxX f (l.map ro) hp0).bind fun y=>(xJ y.1).bind fun _=>K y.1
@[simp] noncomputable def iB(v:Value)(a b:RO):RO:=(YE v).bind fun d=>cond d a b
@[simp] noncomputable def iN(v:Value)(a b:RO):RO:=(Kn Try.prog .not v).bind fun w=>(YE w).bind fun d=>cond d a b
@[simp] noncomputable def iZ(x:AV)(a b:RO):RO:=(Xo x).bind fun d=>cond d a b
@[simp] noncomputable def iG(o:BinOp)(t:TypeId)(x y:Operand)(v w:Value)(a b:RO):RO:=(qD Try.prog o t x y v w).bind fun c=>(YE c).bind fun d=>cond d a b
@[simp] noncomputable def iC(o:BinOp)(t:TypeId)(n:Tmp)(v w:Value)(a b:RO):RO:=(qD Try.prog o t (.tmp n) (.const w) v w).bind fun c=>(YE c).bind fun d=>cond d a b
@[simp] noncomputable def iT(o:BinOp)(t:TypeId)(n m:Tmp)(v w:Value)(a b:RO):RO:=(qD Try.prog o t (.tmp n) (.tmp m) v w).bind fun c=>(YE c).bind fun d=>cond d a b
@[simp] noncomputable def bG(o:BinOp)(t:TypeId)(x y:Operand)(v w:Value)(K:Value->RO):RO:=(qD Try.prog o t x y v w).bind fun c=>K c
@[simp] noncomputable def bC(o:BinOp)(t:TypeId)(n:Tmp)(v w:Value)(K:Value->RO):RO:=(qD Try.prog o t (.tmp n) (.const w) v w).bind fun c=>K c
@[simp] noncomputable def bT(o:BinOp)(t:TypeId)(n m:Tmp)(v w:Value)(K:Value->RO):RO:=(qD Try.prog o t (.tmp n) (.tmp m) v w).bind fun c=>K c
@[simp] noncomputable def cV(a b:TypeId)(v:Value)(K:Value->RO):RO:=(Ki Try.prog a b v).bind fun c=>K c
@[simp] noncomputable def lpS(k:Nat)(x:AV)(h:Hp)(K:Value->RO):RO:=(zS x).bind fun p=>(Hp.rd h p.1 p.2.1).bind fun l=>(xO l (p.2.2+k)).bind fun v=>K v
@[simp] noncomputable def lpC(k:Nat)(x:AV)(h:Hp)(K:AV->RO):RO:=(zS x).bind fun p=>(Hp.rd h p.1 p.2.1).bind fun l=>(KV l (p.2.2+k)).bind fun v=>K v
@[simp] noncomputable def lpN(n k:Nat)(x:AV)(h:Hp)(K:List AV->RO):RO:=(zS x).bind fun p=>(Hp.rd h p.1 p.2.1).bind fun l=>(jN l (p.2.2+k) n).bind fun v=>K v
@[simp] noncomputable def spN(k:Nat)(x:AV)(h:Hp)(vs:List AV)(K:Hp->RO):RO:=(zS x).bind fun p=>(Hp.rd h p.1 p.2.1).bind fun l=>(vu l (p.2.2+k) vs).bind fun m=>K (Hp.put h p.1 p.2.1 m)
@[simp] noncomputable def ldS(k:Nat)(x:AV)(h:Hp)(K:Value->RO):RO:=(Kg x).bind fun _=>lpS k x h K
@[simp] noncomputable def ldC(k:Nat)(x:AV)(h:Hp)(K:AV->RO):RO:=(Kg x).bind fun _=>lpC k x h K
@[simp] noncomputable def ldN(n k:Nat)(x:AV)(h:Hp)(K:List AV->RO):RO:=(Kg x).bind fun _=>lpN n k x h K
@[simp] noncomputable def stN(k:Nat)(x:AV)(h:Hp)(vs:List AV)(K:Hp->RO):RO:=(Kg x).bind fun _=>spN k x h vs K
@[simp] noncomputable def ixS(x:AV)(v:Value)(K:Value->RO):RO:=(yr 1 x v).bind fun c=>(xO c 0).bind fun w=>K w
@[simp] noncomputable def ap(b:Nat)(x:AV)(v:Value)(K:AV->RO):RO:=(VP [.sc v]).bind fun _=>(Vg b 1 x (.us 1 [.sc v])).bind fun y=>K y
@[simp] noncomputable def aS(x:AV)(K:Value->RO):RO:=(yw x).bind fun v=>K v
@[simp] noncomputable def nS(x:AV)(i:Nat)(K:Value->RO):RO:=(yw (ro (ZG x i))).bind fun v=>K v
@[simp] noncomputable def ln(x:AV)(K:Nat->RO):RO:=(xV x).bind fun v=>K v
def Vl(r:Nat):Code->Option (List It)
 | .seq a b=>match Vl r a with
  |some l=>some (l++[.code b])
  |none=>Vl r b
 | .cond _ a b=>match Vl r a with
  |some l=>some l
  |none=>Vl r b
 | .block i b=>match Vl r b with
  |some l=>some (l++[.inBlock i])
  |none=>none
 | .loop b=>match Vl r b with
  |some l=>some (l++[.inLoop b])
  |none=>none
 | .scope b=>match Vl r b with
  |some l=>some (l++[.inScope b])
  |none=>none
 | .region q o d=>match Nat.beq q r with
  |true=>some [.code (.region q o d)]
  |false=>none
 |_=>none
noncomputable def XC(f r:Nat):List It:=
 match cxX.F f with
 |some fn=>match fn.body with
  |some b=>(Vl r b).getD []
  |none=>[]
 |none=>[]
def YO(f:Nat):List Nat:=
 match mlT.get f with
 |some l=>l.map (·.1)
 |none=>[]
def YF:List Nat->List SV->Slots
 |k::ks,.un::vs=>YF ks vs
 |k::ks,v::vs=>(k,v)::YF ks vs
 |_,_=>[]
instance : Coe AV SV := ⟨.av⟩
instance : Coe Value SV := ⟨.sv⟩
instance : Coe Value AV := ⟨.sc⟩
noncomputable def gx(f r:Nat)(vs:List SV)(bx:List (Nat×Nat×List AV))(hp:Hp):RO:=go cxX f (XC f r) ⟨YF ((cxX.M f r).getD []) vs,bx,hp⟩
noncomputable def gb(f r:Nat)(vs:List SV)(hp:Hp):RO:=gx f r vs [] hp
theorem eE{f:Nat}{xs:List AV}{hp:Hp}{y:RO}(h:zu cxX f xs hp (Qd cxX f (YO f) 400)=y):run cxX f xs hp=y:=(XO cxX f (YO f) 400 xs hp).trans h
theorem eX{f r:Nat}{vs:List SV}{bx:List (Nat×Nat×List AV)}{hp:Hp}{y:RO}(h:zj cxX (run cxX) (Qd cxX f (YO f) 400) f (XC f r) ⟨YF ((cxX.M f r).getD []) vs,bx,hp⟩=y):gx f r vs bx hp=y:=(XX cxX f (YO f) 400 _ _).trans h
theorem eB{f r:Nat}{vs:List SV}{hp:Hp}{y:RO}(h:zj cxX (run cxX) (Qd cxX f (YO f) 400) f (XC f r) ⟨YF ((cxX.M f r).getD []) vs,[],hp⟩=y):gb f r vs hp=y:=eX h
end Go.Proofs.Ytehljndbfjfbfaa.AI
