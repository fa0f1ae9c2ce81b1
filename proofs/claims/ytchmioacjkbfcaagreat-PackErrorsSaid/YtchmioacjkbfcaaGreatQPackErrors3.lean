/- Texts that the proof of PackErrors rests on, part 3. -/
import Derived.Test.YtchmioacjkbfcaaGreatQPackErrors2
import Derived.Scope
import Derived.Test.YtchmioacjkbfcaaGreatProg
import Derived.Below
import Derived.ProofKit
import Derived.RowKit
import Derived.OpenShut
import Derived.ChangeOld
import Derived.SizedLaws
import Derived.Carry
namespace Go.Proofs.YtchmioacjkbfcaaGreat.AI
open Go
set_option linter.unusedVariables false
set_option linter.unusedSimpArgs false
set_option maxRecDepth 100000
set_option maxHeartbeats 0
section
variable {c : Cx} {C : Orc} {h : Nat} {ev ev' : Operand → SV}
theorem fillK_ev{R:Type}(yX:Nat->Option (Nat×Nat))(K:List AV->Option R):∀(l:List (Nat×Operand)) (cs:List AV),(∀p∈l,ev p.2=ev' p.2)->jx yX ev K l cs=jx yX ev' K l cs
 |[],cs,_=>rfl
 | (i,x)::r,cs,hl=>by
  simp only[jx]
  rw[hl (i,x) (by simp)]
  split
  ·rfl
  ·congr 1;funext vs;congr 1;funext cs'
   exact fillK_ev yX K r cs' fun p hp=>hl p (by simp[hp])
theorem opV_ev(x:Option Operand)(hx:∀y,x=some y->ev y=ev' y):opV ev x=opV ev' x:=by
 cases x with
 |none=>rfl
 |some y=>simp only[opV];rw[hx y rfl]
theorem map_ev{l:List Operand}(hl:∀x∈l,ev x=ev' x):l.map ev=l.map ev':=List.map_congr_left hl
theorem coreK_ev{R:Type}{o:Oper}{gb:Nat->Option (Nat×List AV)}{hp:Hp}{K:Kt R}(h1:∀x∈o.op.operands.toList,ev x=ev' x):
  qi c C h o ev gb hp K=qi c C h o ev' gb hp K:=by
 obtain⟨dst,op,type,pos,after,guard⟩:=o
 cases op<;>simp only[Op.operands]at h1
 case build t ps=>
  simp only[qi]
  have hps:∀p∈ps.toList,ev p.2=ev' p.2:=fun p hp=>h1 _ (List.mem_map.mpr ⟨p,hp,rfl⟩)
  simp only[fillK_ev _ _ ps.toList _ hps]
 case buildSlice t n ps=>
  simp only[qi]
  have hps:∀p∈ps.toList,ev p.2=ev' p.2:=fun p hp=>h1 _ (List.mem_map.mpr ⟨p,hp,rfl⟩)
  simp only[fillK_ev _ _ ps.toList _ hps]
 case makeFunc fn first captured=>
  cases fn<;>simp only[qi]
  rw[map_ev (l:=captured.toList) fun x hx=>h1 x (by simp at hx⊢;exact .inr hx),map_ev (l:=first.toList) fun x hx=>h1 x (by simp at hx⊢;exact .inl hx)]
 case makeMap t m=>cases m<;>rfl
 case slice t x lo hi mx=>
  simp only[qi]
  rw[h1 x (by simp),opV_ev lo (fun y hy=>h1 y (by subst hy;simp)),opV_ev hi (fun y hy=>h1 y (by subst hy;simp)),opV_ev mx (fun y hy=>h1 y (by subst hy;simp))]
 case call cl=>
  have ha:cl.args.toList.map ev=cl.args.toList.map ev':=map_ev fun x hx=>h1 x (by simp[Call.operands];exact .inr (by simpa using hx))
  cases hc:cl.callee with
  |builtin b=>simp only[qi,hc,ha]
  |invoke r n=>simp only[qi,hc]
  | value f=>
   cases f with
   |tmp t=>
    have:=h1 (.tmp t) (by simp[Call.operands,hc])
    simp only[qi,hc,ha,this]
   |func f=>simp only[qi,hc,ha]
   |const v=>simp only[qi,hc]
   |global g=>simp only[qi,hc]
 all_goals simp only[qi]
 all_goals (first|rfl|(simp only[List.mem_cons,List.not_mem_nil,or_false,forall_eq_or_imp,forall_eq]at h1;(try obtain⟨h1,h2⟩:=h1);(try obtain⟨h2,h3⟩:=h2);simp only[*]))
theorem acc_ev{o:Oper}(h1:∀x∈o.op.operands.toList,ev x=ev' x):accB h o ev=accB h o ev'/\accH h o ev=accH h o ev':=by
 obtain⟨dst,op,type,pos,after,guard⟩:=o
 cases op<;>simp only[Op.operands]at h1<;>simp only[accB,accH]<;>try exact⟨trivial,trivial⟩
 case load t x=>rw[h1 x (by simp)];exact⟨rfl,rfl⟩
 case store t x y=>rw[h1 x (by simp)];exact⟨rfl,rfl⟩
def LocM(c:Cx)(C:Orc)(h:Nat)(o:Oper)(ev:Operand->SV)(gb gb':Nat->Option (Nat×List AV))(hp hp':Hp)(r:SV×BE×Hp):Prop:=
 qi c C h o ev gb' hp' k3=some (r.1,r.2.1,⟨if(accH h o ev).2.2=true then r.2.2.next else hp'.next,if(accH h o ev).2.1=true then r.2.2.get else hp'.get⟩)/\
 ((accH h o ev).2.2=false->r.2.2.next=hp.next)/\((accH h o ev).2.1=false->r.2.2.get=hp.get)/\∀k g cs,r.2.1=some (k,g,cs)->(accB h o ev).2=some k
theorem locM_pure{o:Oper}{gb gb':Nat->Option (Nat×List AV)}{hp hp':Hp}{r:SV×BE×Hp}{Z:Option SV}(hH:accH h o ev=(false,false,false))
  (hz:∀gb hp,qi c C h o ev gb hp k3=Z.bind fun s=>some (s,none,hp)) (hr:qi c C h o ev gb hp k3=some r):LocM c C h o ev gb gb' hp hp' r:=by
 rw[hz]at hr
 obtain⟨s,hs,hr⟩:=bsm hr
 cases hr
 unfold LocM
 rw[hz,hs,hH]
 exact⟨rfl,fun _=>rfl,fun _=>rfl,fun _ _ _ e=>by cases e⟩
theorem chk_neg{p:Prop}[Decidable p](h:¬p):chk p=none:=if_neg h
theorem bltK_pure{R:Type}(h2:h≠2){o:Oper}{b:Builtin}{ts:List TypeId}{as_:List SV}{hp:Hp}{K:SV->Hp->Option R}:
  bltK c h o b ts as_ hp K=(bltK c h o b ts as_ hp0 fun s _=>some s).bind fun s=>K s hp:=by
 unfold bltK
 repeat' split
 all_goals first
  |(simp[Option.bind_assoc,h2,chk_neg];done)
  |rfl
theorem coreK_pure{o:Oper}(hop:match o.op with| .load _ _=>False| .store _ _ _=>False| .alloc _=>False| .box _ _=>False| .makeSlice _ _ _=>False| .makeMap _ _=>False| .lookup _ _ _ _=>False| .mapUpdate _ _ _ _=>False| .move _=>h≠3| .assign _=>h≠3| .call cl=>(match cl.callee with| .builtin _=>h≠2|_=>False)|_=>True):
    ∃Z:Option SV,∀gb hp,qi c C h o ev gb hp k3=Z.bind fun s=>some (s,none,hp):=by
  obtain⟨dst,op,type,pos,after,guard⟩:=o
  cases op<;>simp only at hop<;>try exact hop.elim
  case move x=>
    cases hti:c.tt type with
    |none=>exact⟨none,fun gb hp=>by simp only[qi,hti];rfl⟩
    |some ti=>exact⟨some (if h=1 then nrm ti.k (ev x)else nrm ti.k (ev x).ro),fun gb hp=>by simp only[qi,hti,if_neg hop];rfl⟩
  case assign x=>
    cases hti:c.tt type with
    |none=>exact⟨none,fun gb hp=>by simp only[qi,hti];rfl⟩
    |some ti=>exact⟨some (nrm ti.k (ev x)),fun gb hp=>by simp only[qi,hti,if_neg hop];rfl⟩
  case pick x y z=>exact⟨pickK (ev x) (ev y) (ev z) some,fun gb hp=>by simp only[qi];rw[pickK_nat]⟩
  case build t ps=>
    cases hti:c.tn t with
    |none=>exact⟨none,fun gb hp=>by simp only[qi,hti];rfl⟩
    | some ti=>
      cases hk:ti.k with
      | st fs=>
        by_cases hall:fs.all (fun p=>(c.tn p.2).isSome)=true
        ·exact⟨(jx (placeS c fs) ev some ps.toList (zp ti.zero)).bind fun cs=>some (.av (.agg (cs.map ro1))),fun gb hp=>by
            simp only[qi,hti,hk,if_pos hall];rw[jb];simp[Option.bind_assoc]⟩
        ·exact⟨none,fun gb hp=>by simp only[qi,hti,hk,if_neg hall];rfl⟩
      | ar n e=>
        cases hei:c.tn e with
        |none=>exact⟨none,fun gb hp=>by simp only[qi,hti,hk,hei];rfl⟩
        |some ei=>exact⟨(jx (fun i=>some (i*ei.size,ei.size)) ev some ps.toList (zp ti.zero)).bind fun cs=>some (.av (.agg (cs.map ro1))),fun gb hp=>by
            simp only[qi,hti,hk,hei];rw[jb];simp[Option.bind_assoc]⟩
      |_=>exact⟨none,fun gb hp=>by simp only[qi,hti,hk];rfl⟩
  case buildSlice t n ps=>
    cases hti:c.tn t with
    |none=>exact⟨none,fun gb hp=>by simp only[qi,hti];rfl⟩
    | some ti =>
      cases hk:ti.k with
      | sl e=>
        cases hei:c.tn e with
        |none=>exact⟨none,fun gb hp=>by simp only[qi,hti,hk,hei];rfl⟩
        | some ei=>
          by_cases hn:n*ei.size<=4096/\0<ei.size
          ·exact⟨(jx (fun i=>some (i*ei.size,ei.size)) ev some ps.toList (List.replicate n (zp ei.zero)).flatten).bind fun cs=>(okV cs).bind fun _=>some (.av (.us ei.size (cs.map ro1))),fun gb hp=>by
              simp only[qi,hti,hk,hei,if_pos hn];rw[jb];simp[Option.bind_assoc]⟩
          ·exact⟨none,fun gb hp=>by simp only[qi,hti,hk,hei,if_neg hn];rfl⟩
      |_=>exact⟨none,fun gb hp=>by simp only[qi,hti,hk];rfl⟩
  case nilCheck x=>
    cases hx:ev x with
    |lp k g off=>exact⟨some (.lp k g off),fun gb hp=>by simp only[qi,hx];rfl⟩
    |av y=>exact⟨(nnA y).bind fun _=>some (.av y),fun gb hp=>by simp only[qi,hx];simp[Option.bind_assoc]⟩
    |_=>exact⟨none,fun gb hp=>by simp only[qi,hx];rfl⟩
  case binOp op t x y yt=>exact⟨binK c op t x y (ev x) (ev y) some,fun gb hp=>by simp only[qi];rw[binK_nat]⟩
  case unOp op t x=>exact⟨(asSV (ev x)).bind fun v=>(unV c.P op v).bind fun z=>some (.sv z),fun gb hp=>by simp only[qi];simp[Option.bind_assoc]⟩
  case convert s d x=>
    cases hs:c.tn s with
    |none=>exact⟨none,fun gb hp=>by simp only[qi,hs];rfl⟩
    | some si=>
      cases hd:c.tn d with
      |none=>exact⟨none,fun gb hp=>by simp only[qi,hs,hd];rfl⟩
      |some di=>exact⟨convK c s d si di (ev x) some,fun gb hp=>by simp only[qi,hs,hd];rw[convK_nat]⟩
  case makeFunc fn fs cs=>
    cases fn with
    | func f=>
      by_cases hf:fs.toList.isEmpty=true
      ·exact⟨(toAs (cs.toList.map ev)).bind fun xs=>if xs.all flatA=true then(chkB (Nat.blt f 4294967296)).bind fun _=>some (.av (.fn f (xs.map ro1)))else none,fun gb hp=>by
          simp only[qi,if_pos hf,Option.bind_assoc]
          congr 1;funext xs
          split<;>simp[Option.bind_assoc]⟩
      · by_cases hc:cs.toList.isEmpty=true
        ·exact⟨(toAs (fs.toList.map ev)).bind fun xs=>(flatL xs).bind fun _=>some (.av (.fn (4294967296+f) (xs.map ro1))),fun gb hp=>by
            simp only[qi,if_neg hf,if_pos hc,Option.bind_assoc]
            congr 1⟩
        ·exact⟨none,fun gb hp=>by simp only[qi,if_neg hf,if_neg hc];rfl⟩
    |_=>exact⟨none,fun gb hp=>rfl⟩
  case slice t x lo hi mx=>
    cases hti:c.tn t with
    |none=>exact⟨none,fun gb hp=>by simp only[qi,hti];rfl⟩
    | some ti=>
      by_cases hm:(mx.isSome&&!hi.isSome)=true
      ·exact⟨none,fun gb hp=>by simp only[qi,hti,if_pos hm];rfl⟩
      ·exact⟨(opV ev lo).bind fun l=>(opV ev hi).bind fun u=>(opV ev mx).bind fun m=>sliceK c h ti t (ev x) l u m some,fun gb hp=>by
          simp only[qi,hti,if_neg hm,Option.bind_assoc]
          congr 1;funext l;congr 1;funext u;congr 1;funext m
          rw[sliceK_nat]⟩
  case fieldAddr t x f=>
    cases hti:c.tn t with
    |none=>exact⟨none,fun gb hp=>by simp only[qi,hti];rfl⟩
    |some ti=>exact⟨jm c ti (ev x) f some,fun gb hp=>by simp only[qi,hti];rw[yK]⟩
  case field t x f=>
    cases hti:c.tn t with
    |none=>exact⟨none,fun gb hp=>by simp only[qi,hti];rfl⟩
    | some ti =>
      cases hk:ti.k with
      | st fs =>
        cases hf:fs[f]? with
        |none=>exact⟨none,fun gb hp=>by simp only[qi,hti,hk,hf];rfl⟩
        | some q=>
          obtain⟨fo,ft⟩:=q
          cases hfi:c.tn ft with
          |none=>exact⟨none,fun gb hp=>by simp only[qi,hti,hk,hf,hfi];rfl⟩
          |some fi=>exact⟨(aggC (ev x)).bind fun cs=>(zW fi 0 cs fo fun s l=>some (s,l)).bind fun p=>some p.1,fun gb hp=>by
              simp only[qi,hti,hk,hf,hfi,Option.bind_assoc]
              congr 1;funext cs;rw[qw];rfl⟩
      |_=>exact⟨none,fun gb hp=>by simp only[qi,hti,hk];rfl⟩
  case indexAddr t x i=>
    cases hti:c.tn t with
    |none=>exact⟨none,fun gb hp=>by simp only[qi,hti];rfl⟩
    |some ti=>exact⟨jl c h ti (ev x) (ev i) some,fun gb hp=>by simp only[qi,hti];rw[yC]⟩
  case index t x i=>
    cases hti:c.tt type with
    |none=>exact⟨none,fun gb hp=>by simp only[qi,hti];rfl⟩
    | some ti=>
      by_cases hs:isSc ti.k=true
      ·exact⟨(concS (ev x)).bind fun a=>(asSV (ev i)).bind fun iv=>(ixV c.P t a iv).bind fun z=>some (.sv z),fun gb hp=>by simp only[qi,hti,if_pos hs];simp[Option.bind_assoc]⟩
      · cases hxi:c.tn t with
        |none=>exact⟨none,fun gb hp=>by simp only[qi,hti,if_neg hs,hxi];rfl⟩
        | some xi=>
          cases hk:xi.k with
          | ar n e=>
            cases hei:c.tn e with
            |none=>exact⟨none,fun gb hp=>by simp only[qi,hti,if_neg hs,hxi,hk,hei];rfl⟩
            |some ei=>exact⟨(aggC (ev x)).bind fun cs=>(asSV (ev i)).bind fun iv=>(idx n iv).bind fun j=>(zW ei 0 cs (j*ei.size) fun s l=>some (s,l)).bind fun p=>some p.1,fun gb hp=>by
                simp only[qi,hti,if_neg hs,hxi,hk,hei,Option.bind_assoc]
                congr 1;funext cs;congr 1;funext iv;congr 1;funext j;rw[qw];rfl⟩
          |_=>exact⟨none,fun gb hp=>by simp only[qi,hti,if_neg hs,hxi,hk];rfl⟩
  case extract x i=>
    cases hx:ev x with
    | tp l=>
      cases hl:l[i]? with
      |none=>exact⟨none,fun gb hp=>by simp only[qi,hx,hl];rfl⟩
      | some y=>
        cases hti:c.tt type with
        |none=>exact⟨none,fun gb hp=>by simp only[qi,hx,hl,hti];rfl⟩
        | some ti=>
          by_cases hs:isSc ti.k=true
          ·exact⟨(asSc y).bind fun v=>some (.sv v),fun gb hp=>by simp only[qi,hx,hl,hti,if_pos hs];simp[Option.bind_assoc]⟩
          · by_cases h1:h=1
            ·exact⟨some (.av (ro y)),fun gb hp=>by simp only[qi,hx,hl,hti,if_neg hs,if_pos h1];rfl⟩
            ·exact⟨some (.av y),fun gb hp=>by simp only[qi,hx,hl,hti,if_neg hs,if_neg h1];rfl⟩
    |_=>exact⟨none,fun gb hp=>by simp only[qi,hx];rfl⟩
  case call cl=>
    cases hc:cl.callee with
    | builtin b=>
      simp only[hc]at hop
      exact⟨bltK c h ⟨dst,.call cl,type,pos,after,guard⟩ b cl.argTypes.toList (cl.args.toList.map ev) hp0 fun s _=>some s,fun gb hp=>by simp only[qi,hc];rw[bltK_pure hop]⟩
    |invoke r n=>simp only[hc]at hop
    |value f=>simp only[hc]at hop
  all_goals exact⟨none,fun gb hp=>rfl⟩
end
section
variable {c : Cx} {C : Orc} {h : Nat} {ev : Operand → SV}
theorem hp_ext{a b:Hp}(h1:a.next=b.next)(h2:a.get=b.get):a=b:=by
 cases a;cases b;simp only at h1 h2;subst h1;subst h2;rfl
theorem rd_get{a b:Hp}(h:a.get=b.get):a.rd=b.rd:=by
 funext x y;simp only[Hp.rd,h]
theorem put_get'{a b:Hp}(h:a.get=b.get)(x g:Nat)(cs:List AV):(a.put x g cs).get=(b.put x g cs).get:=by
 simp only[Hp.put,h]
theorem rdM_get{a b:Hp}(h:a.get=b.get):a.rdM=b.rdM:=by
 funext x;simp only[Hp.rdM,h]
theorem loc_all{o:Oper}{gb gb':Nat->Option (Nat×List AV)}{hp hp':Hp}{r:SV×BE×Hp}(hH:accH h o ev=(true,true,true))(hg:qi c C h o ev gb' hp k3=qi c C h o ev gb hp k3)
  (hn:r.2.1=none) (hr:qi c C h o ev gb hp k3=some r) (hA:(accH h o ev).1=true\/(accH h o ev).2.1=true->hp'.get=hp.get)
  (hB:(accH h o ev).2.2=true->hp'.next=hp.next):LocM c C h o ev gb gb' hp hp' r:=by
 unfold LocM
 rw[hH]at hA hB⊢
 have e:hp'=hp:=hp_ext (hB rfl) (hA (.inl rfl))
 subst e
 rw[hg,hr]
 exact⟨rfl,fun e=>(by cases e),fun e=>(by cases e),fun k g cs e=>by rw[hn]at e;cases e⟩
theorem loadOpK_none{ti:TI}{a:SV}{gb:Nat->Option (Nat×List AV)}{hp:Hp}{r:SV×BE×Hp}(hr:zI 0 ti a gb hp k3=some r):r.2.1=none:=by
 unfold zI at hr
 split at hr
 ·split at hr
  ·split at hr
   ·rw[qw]at hr
    obtain⟨q,hq,hr⟩:=bsm hr
    cases hr;rfl
   ·cases hr
  ·cases hr
 ·rw[if_neg (by decide),qw]at hr
  obtain⟨q,hq,hr⟩:=bsm hr
  cases hr;rfl
 ·obtain⟨q,hq,hr⟩:=bsm hr
  obtain⟨cs,hcs,hr⟩:=bsm hr
  rw[qw]at hr
  obtain⟨q,hq,hr⟩:=bsm hr
  cases hr;rfl
 ·cases hr
theorem loc_load3{o:Oper}{t:TypeId}{x:Operand}(hop:o.op= .load t x)(h3:h=3){gb gb':Nat->Option (Nat×List AV)}{hp hp':Hp}{r:SV×BE×Hp}(hr:qi c C h o ev gb hp k3=some r)
  (hb:∀k,(accB h o ev).1=some k\/(accB h o ev).2=some k->gb' k=gb k) (hA:(accH h o ev).1=true\/(accH h o ev).2.1=true->hp'.get=hp.get)
  (hB:(accH h o ev).2.2=true->hp'.next=hp.next):LocM c C h o ev gb gb' hp hp' r:=by
 subst h3
 have e1:∀gb hp,qi c C 3 o ev gb hp k3=(match c.tn t with|some ti=>zI 0 ti (ev x) gb hp fun s b q=>frzK ti.k q s fun s' q'=>k3 s' b q'|none=>none):=fun gb hp=>by simp only[qi,hop]<;>rfl
 have eH:accH 3 o ev=(true,true,true):=by
  simp only[accH,hop]
  cases ev x<;>rfl
 have eB:∀k g off,ev x= .lp k g off->gb' k=gb k:=fun k g off e=>hb k (by simp[accB,hop,e])
 cases hti:c.tn t with
 |none=>rw[e1,hti]at hr;cases hr
 | some ti=>
  refine loc_all eH ?_ ?_ hr hA hB
  ·rw[e1,e1,hti]
   simp only
   unfold zI
   cases hx:ev x with
   |lp k g off=>simp only[eB k g off hx]
   |_=>rfl
  ·rw[e1,hti]at hr
   simp only[xc]at hr
   rw[jV]at hr
   obtain⟨q,hq,hr⟩:=bsm hr
   obtain⟨q',hq',hr⟩:=bsm hr
   cases hr
   have:=loadOpK_none hq
   exact this
theorem load_see{ti:TI}{hp hp':Hp}{y:AV}{p:Nat×Nat×Nat}(hy:qz y=some p){cs:List AV}(h1:h≠1)(hcs:hp.rd p.1 p.2.1=some cs){s:SV×List AV}(hs:zW ti h cs p.2.2 (fun s cs'=>some (s,cs'))=some s)
  (hq:seeG (y,match isAg ti.k with|true=>ti.size|false=>1) hp'.get=seeG (y,match isAg ti.k with|true=>ti.size|false=>1) hp.get):
  ∃cs',hp'.rd p.1 p.2.1=some cs'/\∃s',zW ti h cs' p.2.2 (fun s cs'=>some (s,cs'))=some s'/\s'.1=s.1:=by
 obtain⟨hg,h0⟩:hp.get p.1=some (0,cs)/\p.2.1=0:=by
  unfold Hp.rd at hcs
  obtain⟨z,hz,hcs⟩:=bsm hcs
  split at hcs
  ·rename_i e
   cases hcs
   refine⟨?_,e.2⟩
   rw[hz]
   obtain⟨z1,z2⟩:=z
   have:z1=0:=by have:=e.1;have:=e.2;omega
   subst this;rfl
  ·cases hcs
 have key:∀n,seeG (y,n) hp.get=(getN cs p.2.2 n).map (List.map ro1):=by
  intro n
  simp only[seeG,hy,hg,Option.bind_some,if_true]
 have key':∀n l,seeG (y,n) hp'.get=some l->∃cs',hp'.rd p.1 p.2.1=some cs'/\∃l',getN cs' p.2.2 n=some l'/\l'.map ro1=l:=by
  intro n l hl
  unfold seeG at hl
  simp only[hy,Option.bind_some]at hl
  obtain⟨z,hz,hl⟩:=bsm hl
  split at hl
  ·rename_i e
   obtain⟨l',hl',rfl⟩:=Option.map_eq_some_iff.mp hl
   refine⟨z.2,?_,l',hl',rfl⟩
   have hz:hp'.get p.1=some z:=hz
   have e:z.1=0:=e
   simp only[Hp.rd,hz,Option.bind_some,e,h0,and_self,if_true]
  ·cases hl
 unfold zW at hs⊢
 split at hs
 ·rename_i hsc
  have hag:isAg ti.k=false:=by cases hk:ti.k<;>rw[hk]at hsc<;>first|rfl|cases hsc
  rw[hag]at hq
  obtain⟨v,hv,hs⟩:=bsm hs
  cases hs
  have hx:=yE hv
  have hlt:=(List.getElem?_eq_some_iff.mp hx).1
  have e1:getN cs p.2.2 1=some [.sc v]:=by
   unfold getN
   rw[if_pos (by omega)]
   congr 1
   obtain⟨_,h2⟩:=List.getElem?_eq_some_iff.mp hx
   rw[List.drop_eq_getElem_cons hlt,h2];rfl
  rw[key,e1]at hq
  obtain⟨cs',hr,l',hl',e⟩:=key' 1 _ hq
  refine⟨cs',hr,(.sv v,cs'),?_,rfl⟩
  have e2:cs'[p.2.2]?=some (.sc v):=by
   obtain⟨hle,rfl⟩:=zL hl'
   have hlt':p.2.2<cs'.length:=by omega
   rw[List.drop_eq_getElem_cons hlt']at e
   have e:ro1 cs'[p.2.2]= .sc v:=(List.cons.inj e).1
   rw[List.getElem?_eq_getElem hlt']
   cases hy:cs'[p.2.2]<;>rw[hy]at e<;>first|exact congrArg some e|cases e
  have e3:qe cs' p.2.2=some v:=by simp[qe,e2,asSc]
  rw[if_pos hsc,e3];rfl
 ·rename_i hsc
  simp only[if_neg hsc]
  split at hs
  ·rename_i hag
   rw[hag]at hq
   obtain⟨l,hl,hs⟩:=bsm hs
   cases hs
   rw[key,hl]at hq
   obtain⟨cs',hr,l',hl',e⟩:=key' ti.size _ hq
   refine⟨cs',hr,(.av (.agg (l'.map ro1)),cs'),?_,by rw[e]⟩
   rw[if_pos hag,hl']
   simp only[Option.bind_some,if_neg h1]
  ·rename_i hag
   have hag':isAg ti.k=false:=by cases h:isAg ti.k<;>first|rfl|exact absurd h hag
   rw[hag']at hq
   obtain⟨x,hx,hs⟩:=bsm hs
   cases hs
   have hx:cs[p.2.2]?=some x:=hx
   have hlt:=(List.getElem?_eq_some_iff.mp hx).1
   have e1:getN cs p.2.2 1=some [x]:=by
    unfold getN
    rw[if_pos (by omega)]
    congr 1
    obtain⟨_,h2⟩:=List.getElem?_eq_some_iff.mp hx
    rw[List.drop_eq_getElem_cons hlt,h2];rfl
   rw[key,e1]at hq
   obtain⟨cs',hr,l',hl',e⟩:=key' 1 _ hq
   obtain⟨hle,rfl⟩:=zL hl'
   have hlt':p.2.2<cs'.length:=by omega
   rw[List.drop_eq_getElem_cons hlt']at e
   have e:ro1 cs'[p.2.2]=ro1 x:=(List.cons.inj e).1
   refine⟨cs',hr,(.av (ro1 cs'[p.2.2]),cs'),?_,by rw[e]⟩
   have e3:getC cs' p.2.2=some cs'[p.2.2]:=List.getElem?_eq_getElem hlt'
   simp only[if_neg hag,e3,Option.bind_some,if_neg h1]
theorem loc_load{o:Oper}{t:TypeId}{x:Operand}(hop:o.op= .load t x)(h3:h≠3){gb gb':Nat->Option (Nat×List AV)}{hp hp':Hp}{r:SV×BE×Hp}(hr:qi c C h o ev gb hp k3=some r)
  (hb:∀k,(accB h o ev).1=some k\/(accB h o ev).2=some k->gb' k=gb k) (hA:(accH h o ev).1=true\/(accH h o ev).2.1=true->hp'.get=hp.get)
  (hL:∀q,lqOf h o c.tn ev=some q->seeG q hp'.get=seeG q hp.get):LocM c C h o ev gb gb' hp hp' r:=by
 have e1:∀gb hp,qi c C h o ev gb hp k3=(match c.tn t with|some ti=>zI h ti (ev x) gb hp k3|none=>none):=fun gb hp=>by
  simp only[qi,hop]
  cases c.tn t with
  |none=>rfl
  |some ti=>simp only[if_neg h3]
 have eB:accB h o ev=(match ev x with| .lp k _ _=>if h=1 then(none,some k)else(some k,none)|_=>(none,none)):=by simp only[accB,hop]<;>rfl
 have h3b:(h==3)=false:=by simpa using h3
 have eH:accH h o ev=(match ev x with| .av _=>(h==1,h==1,false)|_=>(false,false,false)):=by
  simp only[accH,hop,h3b,Bool.or_false]
  cases ev x<;>rfl
 unfold LocM
 rw[e1]at hr⊢
 rw[eH]at hA⊢
 rw[eB]at hb⊢
 cases hti:c.tn t with
 |none=>rw[hti]at hr;cases hr
 | some ti=>
  rw[hti]at hr
  simp only at hr⊢
  unfold zI at hr⊢
  cases hx:ev x with
  | lp k g off=>
   rw[hx]at hr hb
   simp only at hr hb⊢
   have hg:gb' k=gb k:=by
    apply hb
    by_cases h1:h=1<;>simp[h1]
   rw[hg]
   cases hgb:gb k with
   |none=>rw[hgb]at hr;cases hr
   | some q=>
    obtain⟨g',cs⟩:=q
    rw[hgb]at hr
    simp only at hr⊢
    by_cases hgg:g=g'
    ·simp only[if_pos hgg]at hr⊢
     rw[qw]at hr⊢
     obtain⟨q,hq,hr⟩:=bsm hr
     cases hr
     rw[hq]
     refine⟨rfl,fun _=>rfl,fun _=>rfl,fun k' g' cs' e=>?_⟩
     by_cases h1:h=1
     ·simp only[h1,if_true]at e⊢
      cases e;rfl
     ·simp only[h1,if_false]at e;cases e
    ·simp only[if_neg hgg]at hr;cases hr
  | rv cs=>
   rw[hx]at hr
   simp only at hr⊢
   by_cases h1:h=1
   ·simp only[if_pos h1]at hr;cases hr
   ·simp only[if_neg h1]at hr⊢
    rw[qw]at hr⊢
    obtain⟨q,hq,hr⟩:=bsm hr
    cases hr
    rw[hq]
    exact⟨rfl,fun _=>rfl,fun _=>rfl,fun _ _ _ e=>by cases e⟩
  | av y=>
   rw[hx]at hr hA
   simp only at hr hA⊢
   obtain⟨p,hp1,hr⟩:=bsm hr
   obtain⟨cs,hcs,hr⟩:=bsm hr
   by_cases h1:h=1
   ·have hne:(h==1)=true:=by simp[h1]
    have hge:hp'.get=hp.get:=hA (.inl hne)
    rw[hp1,rd_get hge]
    simp only[Option.bind_some,hcs]
    rw[qw]at hr⊢
    obtain⟨q,hq,hr⟩:=bsm hr
    cases hr
    rw[hq]
    refine⟨?_,fun _=>?_,fun e=>?_,fun _ _ _ e=>by cases e⟩
    ·simp only[h1,if_true,Option.bind_some,beq_self_eq_true,Bool.false_eq_true,if_false]
     refine congrArg some (congrArg (Prod.mk _) (congrArg (Prod.mk _) (hp_ext rfl (put_get' hge _ _ _))))
    ·simp only[if_pos h1];rfl
    ·have e':(h==1)=false:=e
     rw[hne]at e';cases e'
   ·have hne:(h==1)=false:=by simpa using h1
    have hq:=hL _ (by simp only[lqOf,hop,hx,hne,h3b,Bool.or_false,hti];rfl)
    rw[hp1]
    simp only[Option.bind_some]
    rw[qw]at hr
    obtain⟨s,hs,hr⟩:=bsm hr
    obtain⟨cs',hcs',hs'⟩:=load_see hp1 h1 hcs hs hq
    rw[hcs']
    simp only[Option.bind_some]
    rw[qw]
    obtain⟨s',hs'',e⟩:=hs'
    rw[hs'']
    simp only[Option.bind_some,if_neg h1]at hr⊢
    cases hr
    rw[e]
    refine⟨?_,fun _=>rfl,fun _=>rfl,fun _ _ _ e=>by cases e⟩
    simp only[hne,Bool.false_eq_true,if_false]
  |_=>rw[hx]at hr;cases hr
theorem loc_store{o:Oper}{t:TypeId}{x y:Operand}(hop:o.op= .store t x y){gb gb':Nat->Option (Nat×List AV)}{hp hp':Hp}{r:SV×BE×Hp}(hr:qi c C h o ev gb hp k3=some r)
  (hb:∀k,(accB h o ev).1=some k\/(accB h o ev).2=some k->gb' k=gb k) (hA:(accH h o ev).1=true\/(accH h o ev).2.1=true->hp'.get=hp.get):LocM c C h o ev gb gb' hp hp' r:=by
 have e1:∀gb hp,qi c C h o ev gb hp k3=(match c.tn t with|some ti=>jN ti (ev x) (ev y) gb hp k3|none=>none):=fun gb hp=>by simp only[qi,hop]<;>rfl
 have eB:accB h o ev=(match ev x with| .lp k _ _=>(none,some k)|_=>(none,none)):=by simp only[accB,hop]<;>rfl
 have eH:accH h o ev=(match ev x with| .av _=>(false,true,false)|_=>(false,false,false)):=by simp only[accH,hop]<;>rfl
 unfold LocM
 rw[e1]at hr⊢
 rw[eH]at hA⊢
 rw[eB]at hb⊢
 cases hti:c.tn t with
 |none=>rw[hti]at hr;cases hr
 | some ti=>
  rw[hti]at hr
  simp only at hr⊢
  unfold jN at hr⊢
  obtain⟨vs,hvs,hr⟩:=bsm hr
  rw[hvs]
  simp only[Option.bind_some]
  cases hx:ev x with
  | lp k g off=>
   rw[hx]at hr hb
   simp only at hr hb⊢
   have hg:gb' k=gb k:=hb k (.inr rfl)
   rw[hg]
   cases hgb:gb k with
   |none=>rw[hgb]at hr;cases hr
   | some q=>
    obtain⟨g',cs⟩:=q
    rw[hgb]at hr
    simp only at hr⊢
    by_cases hgg:g=g'
    ·simp only[if_pos hgg]at hr⊢
     obtain⟨q,hq,hr⟩:=bsm hr
     cases hr
     rw[hq]
     exact⟨rfl,fun _=>rfl,fun _=>rfl,fun k' g' cs' e=>by cases e;rfl⟩
    ·simp only[if_neg hgg]at hr;cases hr
  |av z=>
   rw[hx]at hr hA
   simp only at hr hA⊢
   have hge:hp'.get=hp.get:=hA (.inr trivial)
   obtain⟨p,hp1,hr⟩:=bsm hr
   obtain⟨cs,hcs,hr⟩:=bsm hr
   obtain⟨q,hq,hr⟩:=bsm hr
   cases hr
   rw[hp1,rd_get hge]
   simp only[Option.bind_some,hcs,hq,if_true,Bool.false_eq_true,if_false]
   refine⟨?_,fun _=>rfl,fun e=>(by cases e),fun _ _ _ e=>by cases e⟩
   exact congrArg some (congrArg (Prod.mk _) (congrArg (Prod.mk _) (hp_ext rfl (put_get' hge _ _ _))))
  |_=>rw[hx]at hr;cases hr
theorem loc_new{o:Oper}{cs:List AV}{gb gb':Nat->Option (Nat×List AV)}{hp hp':Hp}{r:SV×BE×Hp}{W:Option (List AV)}
  (he:∀gb hp,qi c C h o ev gb hp k3=W.bind fun cs=>if h=2 then k3 (.av (.ptr hp.next 0 0)) none (hp.new cs)else
   match o.dst with
   |some d=>let g:=match gb d with|some (g,_)=>g+1|none=>0
    k3 (.lp d g 0) (some (d,g,cs)) hp
   |none=>none)
  (eB:accB h o ev=if h=2 then(none,none)else(none,o.dst)) (eH:accH h o ev=(false,h==2,h==2))
  (hr:qi c C h o ev gb hp k3=some r) (hb:∀k,(accB h o ev).1=some k\/(accB h o ev).2=some k->gb' k=gb k) (hA:(accH h o ev).1=true\/(accH h o ev).2.1=true->hp'.get=hp.get)
  (hB:(accH h o ev).2.2=true->hp'.next=hp.next):LocM c C h o ev gb gb' hp hp' r:=by
 unfold LocM
 rw[he]at hr⊢
 rw[eH]at hA hB⊢
 rw[eB]at hb⊢
 obtain⟨cs,hcs,hr⟩:=bsm hr
 rw[hcs]
 simp only[Option.bind_some]
 by_cases h2:h=2
 ·simp only[h2,if_true,beq_self_eq_true]at hr hA hB⊢
  cases hr
  have hg:=hA (.inr trivial)
  have hn:=hB trivial
  refine⟨?_,fun e=>(by cases e),fun e=>(by cases e),fun _ _ _ e=>by cases e⟩
  show some (SV.av (.ptr hp'.next 0 0),(none:BE),hp'.new cs)=some (SV.av (.ptr hp.next 0 0),none,⟨(hp.new cs).next,(hp.new cs).get⟩)
  rw[hp_ext hn hg]
 ·have hne:(h==2)=false:=by simpa using h2
  simp only[if_neg h2,hne,Bool.false_eq_true,if_false]at hr hb⊢
  cases hd:o.dst with
  |none=>rw[hd]at hr;cases hr
  |some d=>
   rw[hd]at hr hb
   simp only at hr hb⊢
   have hg:=hb d (.inr rfl)
   rw[hg]
   cases hr
   exact⟨rfl,fun _=>rfl,fun _=>rfl,fun k g cs e=>by cases e;rfl⟩
theorem loc_callK{ti:TI}{f:FuncId}{caps:List AV}{as_:List SV}{hp hp':Hp}{r:SV×BE×Hp}(hr:zO c C h ti f caps as_ hp k3=some r)(hA:h=2\/h=4->hp'.get=hp.get)(hB:h=2\/h=4->hp'.next=hp.next):
  zO c C h ti f caps as_ hp' k3=some (r.1,r.2.1,if h=2\/h=4 then r.2.2 else hp')/\(¬(h=2\/h=4)->r.2.2=hp)/\r.2.1=none:=by
 by_cases h24:h=2\/h=4
 ·rw[hp_ext (hB h24) (hA h24),hr,if_pos h24]
  refine⟨rfl,fun e=>absurd h24 e,?_⟩
  unfold zO at hr
  obtain⟨xs,hxs,hr⟩:=bsm hr
  rcases h24 with h2|h4
  ·rw[if_pos h2]at hr
   obtain⟨p,hp1,hr⟩:=bsm hr
   rw[zT]at hr
   obtain⟨s,hs,hr⟩:=bsm hr
   cases hr;rfl
  ·rw[if_neg (by omega),if_pos h4]at hr
   obtain⟨p,hp1,hr⟩:=bsm hr
   rw[zT]at hr
   obtain⟨s,hs,hr⟩:=bsm hr
   cases hr;rfl
 ·have h2:h≠2:=fun e=>h24 (.inl e)
  have h4:h≠4:=fun e=>h24 (.inr e)
  unfold zO at hr⊢
  obtain⟨xs,hxs,hr⟩:=bsm hr
  rw[hxs]
  simp only[Option.bind_some]
  simp only[if_neg h2,if_neg h4,if_neg h24]at hr⊢
  obtain⟨u,hu,hr⟩:=bsm hr
  rw[hu]
  simp only[Option.bind_some]
  obtain⟨p,hp1,hr⟩:=bsm hr
  rw[hp1]
  simp only[Option.bind_some]
  obtain⟨u',hu',hr⟩:=bsm hr
  rw[hu']
  simp only[Option.bind_some]
  rw[zT]at hr⊢
  obtain⟨s,hs,hr⟩:=bsm hr
  cases hr
  rw[hs]
  exact⟨rfl,fun _=>rfl,rfl⟩
theorem coreK_loc {o:Oper}{gb gb':Nat->Option (Nat×List AV)}{hp hp':Hp}{r:SV×BE×Hp}(hr:qi c C h o ev gb hp k3=some r)
    (hb:∀k,(accB h o ev).1=some k\/(accB h o ev).2=some k->gb' k=gb k) (hA:(accH h o ev).1=true\/(accH h o ev).2.1=true->hp'.get=hp.get)
    (hB:(accH h o ev).2.2=true->hp'.next=hp.next) (hL:∀q,lqOf h o c.tn ev=some q->seeG q hp'.get=seeG q hp.get):LocM c C h o ev gb gb' hp hp' r:=by
  have pure:accH h o ev=(false,false,false)->(match o.op with| .load _ _=>False| .store _ _ _=>False| .alloc _=>False| .box _ _=>False| .makeSlice _ _ _=>False| .makeMap _ _=>False| .lookup _ _ _ _=>False| .mapUpdate _ _ _ _=>False| .move _=>h≠3| .assign _=>h≠3| .call cl=>(match cl.callee with| .builtin _=>h≠2|_=>False)|_=>True)->LocM c C h o ev gb gb' hp hp' r:=by
    intro hH hop
    obtain⟨Z,hz⟩:=coreK_pure (c:=c) (C:=C) (h:=h) (ev:=ev) hop
    exact locM_pure hH hz hr
  cases hop:o.op
  case load t x=>
    by_cases h3:h=3
    ·exact loc_load3 hop h3 hr hb hA hB
    ·exact loc_load hop h3 hr hb hA hL
  case move x=>
    by_cases h3:h=3
    · subst h3
      refine loc_all (by simp only[accH,hop];rfl) (by simp only[qi,hop]) ?_ hr hA hB
      simp only[qi,hop]at hr
      split at hr
      · rw[if_pos trivial,xc]at hr
        obtain⟨q,hq,hr⟩:=bsm hr
        cases hr;rfl
      ·cases hr
    · have h3b:(h==3)=false:=by simpa using h3
      exact pure (by simp only[accH,hop,h3b]) (by simp only[hop];exact h3)
  case assign x=>
    by_cases h3:h=3
    · subst h3
      refine loc_all (by simp only[accH,hop];rfl) (by simp only[qi,hop]) ?_ hr hA hB
      simp only[qi,hop]at hr
      split at hr
      · rw[if_pos trivial,xc]at hr
        obtain⟨q,hq,hr⟩:=bsm hr
        cases hr;rfl
      ·cases hr
    · have h3b:(h==3)=false:=by simpa using h3
      exact pure (by simp only[accH,hop,h3b]) (by simp only[hop];exact h3)
  case makeMap t m=>
    have hm:m=none/\h=2:=by
      cases m with
      |some m=>simp only[qi,hop]at hr;cases hr
      | none=>
        simp only[qi,hop]at hr
        split at hr
        ·exact⟨rfl,by assumption⟩
        ·cases hr
    obtain⟨rfl,h2⟩:=hm
    refine loc_all (by simp only[accH,hop]) (by simp only[qi,hop]) ?_ hr hA hB
    simp only[qi,hop,if_pos h2]at hr
    cases hr;rfl
  case mapUpdate t m k x=>
    refine loc_all (by simp only[accH,hop]) (by simp only[qi,hop]) ?_ hr hA hB
    simp only[qi,hop]at hr
    split at hr
    · rw[mapPutK_nat]at hr
      obtain⟨q,hq,hr⟩:=bsm hr
      cases hr;rfl
    ·cases hr
  case lookup t x i ok=>
    have eH:accH h o ev=(true,false,false):=by simp only[accH,hop]
    have eB:accB h o ev=(none,none):=by simp only[accB,hop]
    unfold LocM
    rw[eH]at hA⊢
    rw[eB]
    have hge:hp'.get=hp.get:=hA (.inl rfl)
    simp only[qi,hop]at hr⊢
    split at hr
    · rw[yY]at hr
      obtain⟨s,hs,hr⟩:=bsm hr
      cases hr
      have e:yf c t (ev x) (ev i) ok hp' some=yf c t (ev x) (ev i) ok hp some:=by
        unfold yf
        rw[rdM_get hge]
      rename_i h2
      rw[if_pos h2,yY,e,hs]
      exact⟨rfl,fun _=>rfl,fun _=>rfl,fun _ _ _ e=>by cases e⟩
    ·cases hr
  case store t x y=>exact loc_store hop hr hb hA
  case alloc t=>
    refine loc_new (cs:=[]) (W:=(c.tn t).map fun ti=>zp ti.zero) (fun gb hp=>?_) (by simp only[accB,hop]) (by simp only[accH,hop]) hr hb hA hB
    simp only[qi,hop]
    cases c.tn t<;>rfl
  case box t x=>
    refine loc_new (cs:=[]) (W:=(c.tn t).bind fun ti=>(valC ti.size (ev x)).map fun vs=>vs.map ro1) (fun gb hp=>?_) (by simp only[accB,hop]) (by simp only[accH,hop]) hr hb hA hB
    simp only[qi,hop]
    cases c.tn t with
    |none=>rfl
    | some ti=>
      simp only[Option.bind_some]
      cases valC ti.size (ev x)<;>rfl
  case makeSlice t l m=>
    have eH:accH h o ev=(false,h==2,h==2):=by simp only[accH,hop]
    have eB:accB h o ev=(none,none):=by simp only[accB,hop]
    have key:∃W:Option (Nat×List AV×Nat),∀gb hp,qi c C h o ev gb hp k3=W.bind fun q=>if h=2 then k3 (.av (.ms hp.next 0 0 q.1 q.2.2)) none (hp.new q.2.1)else k3 (.av (.us q.2.2 q.2.1)) none hp:=by
      cases hti:c.tn t with
      |none=>exact⟨none,fun gb hp=>by simp only[qi,hop,hti];rfl⟩
      | some ti=>
        cases hk:ti.k with
        | sl e=>
          cases hei:c.tn e with
          |none=>exact⟨none,fun gb hp=>by simp only[qi,hop,hti,hk,hei];rfl⟩
          | some ei=>
            refine⟨(asSV (ev l)).bind fun lv=>(asSV (ev m)).bind fun mv=>(asI lv).bind fun n=>(asI mv).bind fun n'=>
              (xM ei.bytes ei.size n n').bind fun _=>some (tN n,xx n ei.zero,ei.size),fun gb hp=>?_⟩
            simp only[qi,hop,hti,hk,hei,Option.bind_assoc]
            congr 1
        |_=>exact⟨none,fun gb hp=>by simp only[qi,hop,hti,hk];rfl⟩
    obtain⟨W,he⟩:=key
    unfold LocM
    rw[he]at hr⊢
    rw[eH]at hA hB⊢
    rw[eB]at hb⊢
    obtain⟨q,hq,hr⟩:=bsm hr
    rw[hq]
    simp only[Option.bind_some]
    by_cases h2:h=2
    · simp only[h2,if_true,beq_self_eq_true]at hr hA hB⊢
      cases hr
      rw[hp_ext (hB trivial) (hA (.inr trivial))]
      exact⟨rfl,fun e=>(by cases e),fun e=>(by cases e),fun _ _ _ e=>by cases e⟩
    · have hne:(h==2)=false:=by simpa using h2
      simp only[if_neg h2,hne,Bool.false_eq_true,if_false]at hr⊢
      cases hr
      exact⟨rfl,fun _=>rfl,fun _=>rfl,fun _ _ _ e=>by cases e⟩
  case call cl=>
    cases hcl:cl.callee with
    | builtin b=>
      by_cases h2:h=2
      · subst h2
        refine loc_all (by simp only[accH,hop,hcl];rfl) (by simp only[qi,hop,hcl]) ?_ hr hA hB
        simp only[qi,hop,hcl]at hr
        rw[bltK_nat]at hr
        obtain⟨q,hq,hr⟩:=bsm hr
        cases hr;rfl
      · have h2b:(h==2)=false:=by simpa using h2
        exact pure (by simp only[accH,hop,hcl,h2b]) (by simp only[hop,hcl];exact h2)
    |invoke x n=>simp only[qi,hop,hcl]at hr;cases hr
    | value f =>
      have eH:accH h o ev=(h==2||h==4,h==2||h==4,h==2||h==4):=by simp only[accH,hop,hcl]
      have e24:(h==2||h==4)=true↔h=2\/h=4:=by simp
      have eB:accB h o ev=(none,none):=by simp only[accB,hop]
      have key : (∃ti g caps,∀hp gb,qi c C h o ev gb hp k3=zO c C h ti g caps (cl.args.toList.map ev) hp k3)\/∃Z:Option SV,∀gb hp,qi c C h o ev gb hp k3=Z.bind fun s=>some (s,none,hp):=by
        cases f with
        | tmp t =>
          cases hti:c.tt o.type with
          |none=>exact .inr ⟨none,fun gb hp=>by simp only[qi,hop,hcl,hti];rfl⟩
          | some ti=>
            cases hx:ev (.tmp t)with
            | av x=>
              by_cases h4:h=4
              · cases hf:getBd x with
                |none=>exact .inr ⟨none,fun gb hp=>by simp only[qi,hop,hcl,hti,hx,if_pos h4,hf];rfl⟩
                |some p=>exact .inl ⟨ti,p.1,p.2,fun hp gb=>by simp only[qi,hop,hcl,hti,hx,if_pos h4,hf];rfl⟩
              · cases hf:getFn x with
                |none=>exact .inr ⟨none,fun gb hp=>by simp only[qi,hop,hcl,hti,hx,if_neg h4,hf];rfl⟩
                |some p=>exact .inl ⟨ti,p.1,p.2,fun hp gb=>by simp only[qi,hop,hcl,hti,hx,if_neg h4,hf];rfl⟩
            |_=>exact .inr ⟨none,fun gb hp=>by simp only[qi,hop,hcl,hti,hx];rfl⟩
        | func g=>
          cases hF:c.F g with
          |none=>exact .inr ⟨none,fun gb hp=>by simp only[qi,hop,hcl,hF];rfl⟩
          | some fn=>
            cases hti:c.tt o.type with
            |none=>exact .inr ⟨none,fun gb hp=>by simp only[qi,hop,hcl,hF,hti];rfl⟩
            | some ti=>
              cases hb':fn.body with
              |some b=>exact .inl ⟨ti,g,[],fun hp gb=>by simp only[qi,hop,hcl,hF,hti,hb']⟩
              |none=>exact .inr ⟨(toVs (cl.args.toList.map ev)).bind fun vs=>(one (c.X g vs)).bind fun z=>some (.sv z),fun gb hp=>by
                  simp only[qi,hop,hcl,hF,hti,hb',Option.bind_assoc];rfl⟩
        |const v=>exact .inr ⟨none,fun gb hp=>by simp only[qi,hop,hcl];rfl⟩
        |global g=>exact .inr ⟨none,fun gb hp=>by simp only[qi,hop,hcl];rfl⟩
      unfold LocM
      rw[eH]at hA hB⊢
      rw[eB]
      rcases key with⟨ti,g,caps,he⟩|⟨Z,hz⟩
      · rw [he]at hr⊢
        obtain⟨a1,a2,a3⟩:=loc_callK hr (fun h2=>hA (.inl (e24.mpr h2))) (fun h2=>hB (e24.mpr h2))
        rw[a1]
        by_cases h2:h=2\/h=4
        · simp only[if_pos h2,e24.mpr h2,if_true]
          exact⟨by trivial,fun e=>(by cases e),fun e=>(by cases e),fun k g cs e=>by rw[a3]at e;cases e⟩
        · have hne:(h==2||h==4)=false:=by
            cases e:(h==2||h==4)with
            |false=>rfl
            |true=>exact absurd (e24.mp e) h2
          simp only[if_neg h2,hne,Bool.false_eq_true,if_false]
          exact⟨trivial,fun _=>by rw[a2 h2],fun _=>by rw[a2 h2],fun k g cs e=>by rw[a3]at e;cases e⟩
      · rw [hz]at hr⊢
        obtain⟨s,hs,hr⟩:=bsm hr
        cases hr
        rw[hs]
        simp only[Option.bind_some]
        by_cases h2:h=2\/h=4
        · have hb2:(h==2||h==4)=true:=e24.mpr h2
          rw[hp_ext (hB hb2) (hA (.inl hb2))]
          simp only[hb2,if_true]
          exact⟨trivial,fun e=>(by cases e),fun e=>(by cases e),fun k g cs e=>by cases e⟩
        · have hne:(h==2||h==4)=false:=by
            cases e:(h==2||h==4)with
            |false=>rfl
            |true=>exact absurd (e24.mp e) h2
          simp only[hne,Bool.false_eq_true,if_false]
          exact⟨trivial,fun _=>trivial,fun _=>trivial,fun k g cs e=>by cases e⟩
  all_goals exact pure (by simp only[accH,hop]) (by simp only[hop])
end
structure Vw where
 sl:Nat->SV
 bx:Nat->Option (Nat×List AV)
 hp:Hp
def St.vw(st:St):Vw:=⟨slot st.sl,getB st.bx,st.hp⟩
def evV(σ:Nat->SV):Operand->SV
 | .tmp t=>σ t
 |x=>evS [] x
theorem evV_slot(l:Slots):evV (slot l)=evS l:=by
 funext x;cases x<;>rfl
def dnV(h:Nat)(o:Oper)(σ:Nat->SV)(k:Nat):SV:=
 match o.op with
 | .extract (.tmp t) i=>if h=1 then σ k else if k=t then(match σ t with| .tp xs=>.tp (match xs[i]? with|some y=>xs.set i (ro y)|none=>xs)|s=>s)else σ k
 |_=>if k∈qF h o then(σ k).ro else σ k
def putV(σ:Nat->SV)(d:Option Tmp)(s:SV)(k:Nat):SV:=if d=some k then s else σ k
def setV(β:Nat->Option (Nat×List AV))(b:BE)(k:Nat):Option (Nat×List AV):=
 match b with
 |some (j,g,cs)=>if j=k then some (g,cs)else β k
 |none=>β k
def fpV(tn:TypeId->Option TI)(h:Nat)(ops:Array Oper)(o:Oper)(ev:Operand->SV)(hp hp':Hp):Fp:=
 {rs:=o.looksAt ops,ws:=o.dst.toList++qF h o,br:=(accB h o ev).1,bw:=(accB h o ev).2,hr:=(accH h o ev).1,hw:=(accH h o ev).2.1,nw:=(accH h o ev).2.2,lq:=lqOf h o tn ev,gb:=gsel (accH h o ev).2.1 hp,ga:=gsel (accH h o ev).2.1 hp'}
theorem fpOf_eq(tn:TypeId->Option TI)(h:Nat)(ops:Array Oper)(o:Oper)(l:Slots)(hp hp':Hp):fpOf tn h ops o l hp hp'=fpV tn h ops o (evV (slot l)) hp hp':=by
 rw[evV_slot];rfl
theorem dnOp_no{h:Nat}{o:Oper}(hno:∀t i,o.op≠ .extract (.tmp t) i)(l:Slots):dnOp h o l=qB (qF h o) l:=by
 unfold dnOp
 split
 ·rename_i t i hop;exact absurd hop (hno t i)
 ·rfl
theorem dnV_no{h:Nat}{o:Oper}(hno:∀t i,o.op≠ .extract (.tmp t) i)(σ:Nat->SV)(k:Nat):dnV h o σ k=if k∈qF h o then(σ k).ro else σ k:=by
 unfold dnV
 split
 ·rename_i t i hop;exact absurd hop (hno t i)
 ·rfl
theorem dn_slot(h:Nat)(o:Oper)(l:Slots)(k:Nat):slot (dnOp h o l) k=dnV h o (slot l) k:=by
 by_cases hop:∃t i,o.op= .extract (.tmp t) i
 ·obtain⟨t,i,hop⟩:=hop
  by_cases h1:h=1
  ·have e1:dnOp h o l=l:=by simp only[dnOp,hop,if_pos h1]
   have e2:dnV h o (slot l) k=slot l k:=by simp only[dnV,hop,if_pos h1]
   rw[e1,e2]
  have e1:dnOp h o l=dnX t i l:=by simp only[dnOp,hop,if_neg h1]
  have e2:dnV h o (slot l) k=if k=t then(match slot l t with| .tp xs=>.tp (match xs[i]? with|some y=>xs.set i (ro y)|none=>xs)|s=>s)else slot l k:=by simp only[dnV,hop,if_neg h1]<;>rfl
  rw[e1,e2]
  simp only[dnX]
  cases hx:slot l t with
  | tp xs=>
   simp only
   rw[qQ]
   by_cases e:t=k
   ·subst e;rw[if_pos rfl,if_pos rfl];rfl
   ·have e':¬k=t:=fun h=>e h.symm
    simp[e,e']
  |_=>
   simp only
   by_cases e:k=t
   ·subst e;simp[hx]
   ·simp[e]
 ·have hno:∀t i,o.op≠ .extract (.tmp t) i:=fun t i e=>hop ⟨t,i,e⟩
  rw[dnOp_no hno,dnV_no hno,zw]
theorem put_slot(l:Slots)(d:Option Tmp)(s:SV)(k:Nat):slot (putS l d s) k=putV (slot l) d s k:=by
 cases d with
 |none=>simp[putS,putV]
 | some d=>
  simp only[putS,putV]
  rw[qQ]
  by_cases e:d=k
  ·subst e;simp
  ·have:¬some d=some k:=fun h=>e (Option.some.inj h)
   simp[e]
theorem after_vw(h:Nat)(o:Oper)(st:St)(s:SV)(b:BE)(hp:Hp):(after h o st s b hp).vw=⟨putV (dnV h o (slot st.sl)) o.dst s,setV (getB st.bx) b,hp⟩:=by
 unfold St.vw after
 congr 1
 ·funext k
  rw[put_slot]
  unfold putV
  rw[dn_slot]
 ·funext k
  cases b with
  |none=>rfl
  |some q=>obtain⟨j,g,cs⟩:=q;simp only[setV];rw[yJ]
section
variable (c : Cx) (C : Orc) (f : FuncId) (r : Nat) (ops : Array Oper)
def vExec(h:Nat)(o:Oper)(v:Vw):Option (Vw×Fp):=
 (qi c C h o (evV v.sl) v.bx v.hp k3).bind fun q=>some (⟨putV (dnV h o v.sl) o.dst q.1,setV v.bx q.2.1,q.2.2⟩,fpV c.tn h ops o (evV v.sl) v.hp q.2.2)
def vSkip(o:Oper)(v:Vw):Vw×Fp:=(⟨putV v.sl o.dst .ud,v.bx,v.hp⟩,fpSkip ops o)
def vOp(i:Nat)(v:Vw):Option (Vw×Fp):=
 match ops[i]? with
 |none=>none
 | some o=>match jL o ops with
  |none=>none
  |some none=>vExec c C ops (c.H f r i) o v
  |some (some (g,want))=>match v.sl g with
   | .ud=>some (vSkip ops o v)
   | .sv u=>(asB u).bind fun t=>if t=want then vExec c C ops (c.H f r i) o v else some (vSkip ops o v)
   |_=>none
def vRun:List Nat->Vw->Option (Vw×List (Nat×Fp))
 |[],v=>some (v,[])
 |i::is,v=>(vOp c C f r ops i v).bind fun p=>(vRun is p.1).bind fun q=>some (q.1,(i,p.2)::q.2)
end
section
variable {c : Cx} {C : Orc} {f : FuncId} {r : Nat} {ops : Array Oper}
theorem setT_vw(st:St)(g:Nat)(b:Bool)(h:slot st.sl g= .sv (.bool b)):(setT st g b).vw=st.vw:=by
 unfold setT St.vw
 congr 1
 funext k
 show slot ((g,.sv (.bool b))::st.sl) k=slot st.sl k
 rw[qQ]
 split
 ·rename_i e;subst e;exact h.symm
 ·rfl
theorem execF_v{G:GoT}{is:List Nat}{d:Bool}{acc:List (Nat×Fp)}{k:List It}{h i:Nat}{o:Oper}{st:St}{q:AV×Hp}(hr:execF c C G r ops is d acc k h i o st=some q):
  ∃st1 F,vExec c C ops h o st.vw=some (st1.vw,F)/\G (.ops r ops is d (accP d i F acc)::k) st1=some q:=by
 unfold execF at hr
 rw[xq]at hr
 obtain⟨p,hp,hr⟩:=bsm hr
 refine⟨_,_,?_,hr⟩
 unfold vExec
 show(qi c C h o (evV (slot st.sl)) (getB st.bx) st.hp k3).bind _=_
 rw[evV_slot,hp]
 simp only[Option.bind_some]
 rw[after_vw,fpOf_eq]
 rfl
theorem skipF_v{G:GoT}{is:List Nat}{d:Bool}{acc:List (Nat×Fp)}{k:List It}{i:Nat}{o:Oper}{st:St}{q:AV×Hp}(hr:skipF G r ops is d acc k i o st=some q):
  ∃st1,vSkip ops o st.vw=(st1.vw,fpSkip ops o)/\G (.ops r ops is d (accP d i (fpSkip ops o) acc)::k) st1=some q:=by
 unfold skipF at hr
 refine⟨_,?_,hr⟩
 unfold vSkip St.vw
 congr 2
 funext k
 exact(put_slot _ _ _ k).symm
theorem opF_v{G:GoT}{is:List Nat}{d:Bool}{acc:List (Nat×Fp)}{k:List It}{i:Nat}{o:Oper}{st:St}{q:AV×Hp}(ho:ops[i]?=some o) (hr:opF c C G r ops is d acc k (c.H f r i) i o st=some q):
  ∃st1 F,vOp c C f r ops i st.vw=some (st1.vw,F)/\G (.ops r ops is d (accP d i F acc)::k) st1=some q:=by
 unfold opF at hr
 unfold vOp
 rw[ho]
 simp only
 split at hr
 ·cases hr
 ·rename_i hg
  rw[hg]
  exact execF_v hr
 ·rename_i g want hg
  rw[hg]
  simp only
  have hs:st.vw.sl g=slot st.sl g:=rfl
  rw[hs]
  split at hr
  ·rename_i hud
   rw[hud]
   obtain⟨st1,h1,h2⟩:=skipF_v hr
   exact⟨st1,_,by simp only;rw[h1],h2⟩
  ·rename_i u hsv
   rw[hsv]
   simp only
   obtain⟨t,ht,hr⟩:=bsm hr
   rw[ht]
   simp only[Option.bind_some]
   have hu:=asB_some ht
   subst hu
   cases want<;>cases t
   ·simp only[cond_false,if_true]at hr⊢
    obtain⟨st1,F,h1,h2⟩:=execF_v hr
    rw[setT_vw _ _ _ hsv]at h1
    exact⟨st1,F,h1,h2⟩
   ·simp only[cond_true]at hr⊢
    obtain⟨st1,h1,h2⟩:=skipF_v hr
    rw[setT_vw _ _ _ hsv]at h1
    exact⟨st1,_,by simp[h1],h2⟩
   ·simp only[cond_false]at hr⊢
    obtain⟨st1,h1,h2⟩:=skipF_v hr
    rw[setT_vw _ _ _ hsv]at h1
    exact⟨st1,_,by simp[h1],h2⟩
   ·simp only[cond_true,if_true]at hr⊢
    obtain⟨st1,F,h1,h2⟩:=execF_v hr
    rw[setT_vw _ _ _ hsv]at h1
    exact⟨st1,F,h1,h2⟩
  ·cases hr
theorem ops_v:∀(n:Nat) (is:List Nat) (d:Bool) (acc:List (Nat×Fp)) (k:List It) (st:St) (q:AV×Hp),goC c C f n (.ops r ops is d acc::k) st=some q->
  ∃n' st' accs,n'<n/\vRun c C f r ops is st.vw=some (st'.vw,accs)/\(d=true->drawOk ops (accs.reverse++acc)=true/\∀o∈pend ops (accs.reverse++acc),o=some ())/\goC c C f n' k st'=some q
 |0,_,_,_,_,_,_,h=>by simp[goC]at h
 | n+1,[],d,acc,k,st,q,h=>by
  simp only[goC,je]at h
  cases ht:(!d||drawOk ops acc)with
  |false=>rw[ht]at h;cases h
  |true=>
   rw[ht]at h
   obtain⟨h1,h2⟩:=yP h
   exact⟨n,st,[],Nat.lt_succ_self n,rfl,fun hd=>by subst hd;exact⟨by simpa using ht,h1⟩,h2⟩
 | n+1,i::is,d,acc,k,st,q,h=>by
  simp only[goC,je]at h
  obtain⟨o,ho,h⟩:=bsm h
  obtain⟨st1,F,h1,h2⟩:=opF_v ho h
  obtain⟨n',st',accs,h3,h4,h5,h6⟩:=ops_v n is d _ k st1 q h2
  refine⟨n',st',(i,F)::accs,by omega,?_,fun hd=>?_,h6⟩
  ·simp only[vRun,h1,Option.bind_some,h4]
  ·have:=h5 hd
   subst hd
   simpa[accP]using this
end
def mix(F:Fp)(v1 v:Vw):Vw:=
 ⟨fun k=>if k∈F.ws then v1.sl k else v.sl k,fun k=>if F.bw=some k then v1.bx k else v.bx k,⟨if F.nw=true then v1.hp.next else v.hp.next,if F.hw=true then v1.hp.get else v.hp.get⟩⟩
structure Like (F:Fp) (v' v:Vw):Prop where
 s:∀k,k∈F.rs\/k∈F.ws->v'.sl k=v.sl k
 b:∀k,F.br=some k\/F.bw=some k->v'.bx k=v.bx k
 A:F.hr=true\/F.hw=true->v'.hp.get=v.hp.get
 B:F.nw=true->v'.hp.next=v.hp.next
 L:∀q,F.lq=some q->seeG q v'.hp.get=seeG q v.hp.get
theorem gsel_get{b:Bool}{hp hp':Hp}(h:b=true->hp'.get=hp.get):gsel b hp'=gsel b hp:=by
 cases b with
 |false=>rfl
 |true=>exact h rfl
theorem lq_ev{h:Nat}{o:Oper}{tn:TypeId->Option TI}{ev ev':Operand->SV}(h1:∀x∈o.op.operands.toList,ev x=ev' x):lqOf h o tn ev=lqOf h o tn ev':=by
 obtain⟨dst,op,type,pos,after,guard⟩:=o
 cases op<;>simp only[Op.operands]at h1<;>simp only[lqOf]
 case load t x=>rw[h1 x (by simp)]
theorem vw_ext{a b:Vw}(h1:∀k,a.sl k=b.sl k)(h2:∀k,a.bx k=b.bx k)(h3:a.hp.next=b.hp.next)(h4:a.hp.get=b.hp.get):a=b:=by
 obtain⟨s,x,p⟩:=a
 obtain⟨s',x',p'⟩:=b
 have e1:s=s':=funext h1
 have e2:x=x':=funext h2
 have e3:p=p':=hp_ext h3 h4
 subst e1;subst e2;subst e3;rfl
section
variable {c : Cx} {C : Orc} {f : FuncId} {r : Nat} {ops : Array Oper}
theorem dnV_congr{h:Nat}{o:Oper}{σ σ':Nat->SV}{k:Nat}(hk:σ' k=σ k):dnV h o σ' k=dnV h o σ k:=by
 unfold dnV
 split
 ·rename_i t i hop
  by_cases h1:h=1
  ·rw[if_pos h1,if_pos h1,hk]
  rw[if_neg h1,if_neg h1]
  by_cases e:k=t
  ·subst e;rw[if_pos rfl,if_pos rfl,hk]
  ·rw[if_neg e,if_neg e,hk]
 ·rw[hk]
theorem dnV_out{h:Nat}{o:Oper}{σ:Nat->SV}{k:Nat}(hk:k∉qF h o):dnV h o σ k=σ k:=by
 unfold dnV
 split
 ·rename_i t i hop
  by_cases h1:h=1
  ·rw[if_pos h1]
  rw[if_neg h1]
  have:k≠t:=by
   rintro rfl
   apply hk
   simp only[qF,hop,if_neg h1,zC,List.mem_singleton]
  rw[if_neg this]
 ·rw[if_neg hk]
theorem looks_tmp{o:Oper}{t:Nat}(h:Operand.tmp t∈o.op.operands.toList):t∈o.looksAt ops:=
 List.mem_append_left _ (List.mem_filterMap.2 ⟨.tmp t,h,rfl⟩)
theorem vExec_loc{h:Nat}{o:Oper}{v v' v1:Vw}{F:Fp}(hr:vExec c C ops h o v=some (v1,F))(hl:Like F v' v):vExec c C ops h o v'=some (mix F v1 v',F):=by
 unfold vExec at hr⊢
 obtain⟨q,hq,hr⟩:=bsm hr
 have hF:fpV c.tn h ops o (evV v.sl) v.hp q.2.2=F:=(Prod.mk.inj (Option.some.inj hr)).2
 have hv1:(⟨putV (dnV h o v.sl) o.dst q.1,setV v.bx q.2.1,q.2.2⟩:Vw)=v1:=(Prod.mk.inj (Option.some.inj hr)).1
 subst hv1
 subst hF
 have hev:∀x∈o.op.operands.toList,evV v'.sl x=evV v.sl x:=by
  intro x hx
  cases x with
  |tmp t=>exact hl.s t (.inl (looks_tmp hx))
  |_=>rfl
 have ha:=acc_ev (h:=h) hev
 obtain⟨l1,l2,l3,l4⟩:=coreK_loc (gb':=v'.bx) (hp':=v'.hp) hq (fun k hk=>hl.b k hk) (fun hk=>hl.A hk) (fun hk=>hl.B hk) (fun q hk=>hl.L q hk)
 rw[coreK_ev hev,l1]
 simp only[Option.bind_some]
 have hfp:∀g:Hp,((accH h o (evV v.sl)).2.1=true->g.get=q.2.2.get)->fpV c.tn h ops o (evV v'.sl) v'.hp g=fpV c.tn h ops o (evV v.sl) v.hp q.2.2:=by
  intro g hg
  unfold fpV
  rw[ha.1,ha.2,lq_ev (h:=h) (tn:=c.tn) hev,gsel_get (b:=(accH h o (evV v.sl)).2.1) (hp':=v'.hp) (hp:=v.hp) (fun hw=>hl.A (.inr hw)),gsel_get (b:=(accH h o (evV v.sl)).2.1) hg]
 rw[hfp _ (fun hw=>by simp only[hw,if_true])]
 congr 2
 refine vw_ext (fun k=>?_) (fun k=>?_) rfl rfl
 ·show putV (dnV h o v'.sl) o.dst q.1 k=if k∈o.dst.toList++qF h o then putV (dnV h o v.sl) o.dst q.1 k else v'.sl k
  by_cases hk:k∈o.dst.toList++qF h o
  ·rw[if_pos hk]
   unfold putV
   rw[dnV_congr (hl.s k (.inr hk))]
  ·rw[if_neg hk]
   unfold putV
   have h1:¬o.dst=some k:=fun e=>hk (by simp[e])
   have h2:k∉qF h o:=fun e=>hk (by simp[e])
   rw[if_neg h1,dnV_out h2]
 ·show setV v'.bx q.2.1 k=if(accB h o (evV v.sl)).2=some k then setV v.bx q.2.1 k else v'.bx k
  by_cases hk:(accB h o (evV v.sl)).2=some k
  ·rw[if_pos hk]
   have:=hl.b k (.inr hk)
   unfold setV
   rw[this]
  ·rw[if_neg hk]
   unfold setV
   split
   ·rename_i j g cs e
    have:j≠k:=by
     rintro rfl
     exact hk (l4 _ _ _ e)
    rw[if_neg this]
   ·rfl
theorem vSkip_loc{o:Oper}{v v' v1:Vw}{F:Fp}(hr:vSkip ops o v=(v1,F))(hl:Like F v' v):vSkip ops o v'=(mix F v1 v',F):=by
 unfold vSkip at hr⊢
 cases hr
 congr 1
 refine vw_ext (fun k=>?_) (fun k=>?_) (by simp[mix,fpSkip]) (by simp[mix,fpSkip])
 ·show putV v'.sl o.dst .ud k=if k∈o.dst.toList then putV v.sl o.dst .ud k else v'.sl k
  unfold putV
  by_cases hk:o.dst=some k
  ·have:k∈o.dst.toList:=by simp[hk]
   rw[if_pos hk,if_pos this,if_pos hk]
  ·have:¬k∈o.dst.toList:=by simpa using hk
   rw[if_neg hk,if_neg this]
 ·show v'.bx k=if(none:Option Nat)=some k then v.bx k else v'.bx k
  rw[if_neg (by simp)]
theorem guarded_looks{o:Oper}{g:Nat}{want:Bool}(h:jL o ops=some (some (g,want))):g∈o.looksAt ops:=by
 unfold jL at h
 split at h
 ·cases h
 ·rename_i j want' hg
  split at h
  ·rename_i oj hj
   split at h
   ·rename_i d hd
    cases h
    refine List.mem_append_right _ ?_
    rw[hg]
    simp[hj,hd]
   ·cases h
  ·cases h
theorem vOp_loc{i:Nat}{v v' v1:Vw}{F:Fp}(hr:vOp c C f r ops i v=some (v1,F))(hl:Like F v' v):vOp c C f r ops i v'=some (mix F v1 v',F):=by
 unfold vOp at hr⊢
 cases ho:ops[i]? with
 |none=>rw[ho]at hr;cases hr
 | some o=>
  rw[ho]at hr
  simp only at hr⊢
  cases hg:jL o ops with
  |none=>rw[hg]at hr;cases hr
  | some gw=>
   rw[hg]at hr
   cases gw with
   |none=>exact vExec_loc hr hl
   | some q=>
    obtain⟨g,want⟩:=q
    simp only at hr⊢
    have hlook:=guarded_looks hg
    have hsl:v'.sl g=v.sl g:=by
     refine hl.s g (.inl ?_)
     cases hvg:v.sl g with
     |ud=>rw[hvg]at hr;simp only at hr;cases hr;exact hlook
     | sv u=>
      rw[hvg]at hr
      simp only at hr
      obtain⟨t,ht,hr⟩:=bsm hr
      split at hr
      ·unfold vExec at hr
       obtain⟨q,hq,hr⟩:=bsm hr
       cases hr;exact hlook
      ·cases hr;exact hlook
     |_=>rw[hvg]at hr;cases hr
    rw[hsl]
    cases hvg:v.sl g with
    |ud=>
     rw[hvg]at hr
     simp only at hr⊢
     exact congrArg some (vSkip_loc (Option.some.inj hr) hl)
    |sv u=>
     rw[hvg]at hr
     simp only at hr⊢
     obtain⟨t,ht,hr⟩:=bsm hr
     rw[ht]
     simp only[Option.bind_some]
     split at hr
     ·rename_i e;rw[if_pos e];exact vExec_loc hr hl
     ·rename_i e;rw[if_neg e];exact congrArg some (vSkip_loc (Option.some.inj hr) hl)
    |_=>rw[hvg]at hr;cases hr
theorem Like.refl(F:Fp)(v:Vw):Like F v v:=⟨fun _ _=>rfl,fun _ _=>rfl,fun _=>rfl,fun _=>rfl,fun _ _=>rfl⟩
theorem vOp_g{i:Nat}{v v1:Vw}{F:Fp}(hr:vOp c C f r ops i v=some (v1,F))(hw:F.hw=true):F.gb=v.hp.get/\F.ga=v1.hp.get:=by
 have ex:∀{h:Nat} {o:Oper},vExec c C ops h o v=some (v1,F)->F.gb=v.hp.get/\F.ga=v1.hp.get:=by
  intro h o hr
  unfold vExec at hr
  obtain⟨q,hq,hr⟩:=bsm hr
  cases hr
  have hw:(accH h o (evV v.sl)).2.1=true:=hw
  simp only[fpV,hw,gsel,and_self]
 have sk:∀{o:Oper},some (vSkip ops o v)=some (v1,F)->F.gb=v.hp.get/\F.ga=v1.hp.get:=by
  intro o hr
  cases hr
  cases hw
 unfold vOp at hr
 split at hr
 ·cases hr
 ·split at hr
  ·cases hr
  ·exact ex hr
  ·split at hr
   ·exact sk hr
   ·obtain⟨t,ht,hr⟩:=bsm hr
    split at hr
    ·exact ex hr
    ·exact sk hr
   ·cases hr
theorem vOp_keep{i:Nat}{v v1:Vw}{F:Fp}(hr:vOp c C f r ops i v=some (v1,F)):v1=mix F v1 v:=by
 have:=vOp_loc hr (Like.refl F v)
 rw[hr]at this
 exact(Prod.mk.inj (Option.some.inj this)).1
theorem meets_false{a b:List Nat}(h:meets a b=false){k:Nat}(ha:k∈a):k∉b:=by
 intro hb
 have:meets a b=true:=by
  unfold meets
  rw[List.any_eq_true]
  exact⟨k,ha,by simpa using hb⟩
 rw[this]at h;cases h
structure Apart (a b:Fp):Prop where
 wr:∀k,k∈a.ws->k∉b.rs
 ww:∀k,k∈a.ws->k∉b.ws
 rw_:∀k,k∈a.rs->k∉b.ws
 bww:∀k,a.bw=some k->b.bw≠some k
 bwr:∀k,a.bw=some k->b.br≠some k
 brw:∀k,a.br=some k->b.bw≠some k
 hwx:a.hw=true->b.hr=false/\b.hw=false
 hrw:a.hr=true->b.hw=false
 nn:a.nw=true->b.nw=false
 qa:∀q,a.lq=some q->b.hw=true->seeG q b.gb=seeG q b.ga
 qb:∀q,b.lq=some q->a.hw=true->seeG q a.gb=seeG q a.ga
theorem apart_of{a b:Fp}(h:clash a b=false)(qa:∀q,a.lq=some q->b.hw=true->seeG q b.gb=seeG q b.ga)(qb:∀q,b.lq=some q->a.hw=true->seeG q a.gb=seeG q a.ga):Apart a b:=by
 unfold clash at h
 simp only[Bool.or_eq_false_iff]at h
 obtain⟨⟨⟨⟨⟨⟨⟨⟨h1,h2⟩,h3⟩,h4⟩,h5⟩,h6⟩,h7⟩,h8⟩,h9⟩:=h
 refine⟨fun k hk=>meets_false h1 hk,fun k hk=>meets_false h2 hk,fun k hk=>meets_false h3 hk,fun k e e'=>?_,fun k e e'=>?_,fun k e e'=>?_,fun e=>?_,fun e=>?_,fun e=>?_,qa,qb⟩
 ·rw[e,e']at h4;simp at h4
 ·rw[e,e']at h5;simp at h5
 ·rw[e,e']at h6;simp at h6
 ·rw[e]at h7;simpa using h7
 ·rw[e]at h8;simpa using h8
 ·rw[e]at h9;simpa using h9
theorem vOp_swap{x y:Nat}{v v1 v2:Vw}{Fx Fy:Fp}(hx:vOp c C f r ops x v=some (v1,Fx))(hy:vOp c C f r ops y v1=some (v2,Fy))(ha:Apart Fx Fy):
    ∃v1',vOp c C f r ops y v=some (v1',Fy)/\vOp c C f r ops x v1'=some (v2,Fx):=by
  have kx:=vOp_keep hx
  have ky:=vOp_keep hy
  have xs:∀k,k∉Fx.ws->v1.sl k=v.sl k:=fun k hk=>by rw[kx];simp[mix,hk]
  have xb:∀k,Fx.bw≠some k->v1.bx k=v.bx k:=fun k hk=>by rw[kx];simp[mix,hk]
  have xA:Fx.hw=false->v1.hp.get=v.hp.get:=fun h=>by rw[kx];simp[mix,h]
  have xB:Fx.nw=false->v1.hp.next=v.hp.next:=fun h=>by rw[kx];simp[mix,h]
  have hy':=vOp_loc hy (v':=v) {
    s:=fun k hk=>(xs k (hk.elim (fun h e=>ha.wr k e h) (fun h e=>ha.ww k e h))).symm
    b:=fun k hk=>(xb k (hk.elim (fun h e=>ha.bwr k e h) (fun h e=>ha.bww k e h))).symm
    A :=fun hk=>(xA (by
      cases hw:Fx.hw with
      |false=>rfl
      |true=>have:=ha.hwx hw;rcases hk with h|h<;>simp[this]at h)).symm
    B :=fun hk=>(xB (by
      cases hw:Fx.nw with
      |false=>rfl
      |true=>have:=ha.nn hw;rw[this]at hk;cases hk)).symm
    L :=fun q hq=>by
      cases hw:Fx.hw with
      |false=>rw[xA hw]
      | true=>
        obtain⟨g1,g2⟩:=vOp_g hx hw
        rw[<-g1,<-g2]
        exact ha.qb q hq hw}
  refine⟨_,hy',?_⟩
  have hx':=vOp_loc hx (v':=mix Fy v2 v) {
    s :=fun k hk=>by
      have:k∉Fy.ws:=hk.elim (fun h=>ha.rw_ k h) (fun h=>ha.ww k h)
      simp[mix,this]
    b :=fun k hk=>by
      have:Fy.bw≠some k:=hk.elim (fun h=>ha.brw k h) (fun h=>ha.bww k h)
      simp[mix,this]
    A :=fun hk=>by
      have:Fy.hw=false:=hk.elim (fun h=>ha.hrw h) (fun h=>(ha.hwx h).2)
      simp[mix,this]
    B :=fun hk=>by
      have:Fy.nw=false:=ha.nn hk
      simp[mix,this]
    L :=fun q hq=>by
      cases hw:Fy.hw with
      |false=>simp[mix,hw]
      | true=>
        obtain⟨g1,g2⟩:=vOp_g hy hw
        have hxw:Fx.hw=false:=by
          cases h:Fx.hw with
          |false=>rfl
          |true=>have:=(ha.hwx h).2;rw[hw]at this;cases this
        have e:(mix Fy v2 v).hp.get=v2.hp.get:=by simp[mix,hw]
        rw[e,<-g2,<-xA hxw,<-g1]
        exact(ha.qa q hq hw).symm}
  rw[hx']
  congr 2
  refine vw_ext (fun k=>?_) (fun k=>?_) ?_ ?_
  · show(if k∈Fx.ws then v1.sl k else if k∈Fy.ws then v2.sl k else v.sl k)=v2.sl k
    by_cases h1:k∈Fx.ws
    · rw[if_pos h1,ky]
      simp[mix,ha.ww k h1]
    · rw[if_neg h1]
      by_cases h2:k∈Fy.ws
      ·rw[if_pos h2]
      · rw[if_neg h2,ky]
        simp[mix,h2,xs k h1]
  · show(if Fx.bw=some k then v1.bx k else if Fy.bw=some k then v2.bx k else v.bx k)=v2.bx k
    by_cases h1:Fx.bw=some k
    · rw[if_pos h1,ky]
      simp[mix,ha.bww k h1]
    · rw[if_neg h1]
      by_cases h2:Fy.bw=some k
      ·rw[if_pos h2]
      · rw[if_neg h2,ky]
        simp[mix,h2,xb k h1]
  · show(if Fx.nw=true then v1.hp.next else if Fy.nw=true then v2.hp.next else v.hp.next)=v2.hp.next
    by_cases h1:Fx.nw=true
    · rw[if_pos h1,ky]
      simp[mix,ha.nn h1]
    · rw[if_neg h1]
      by_cases h2:Fy.nw=true
      ·rw[if_pos h2]
      · rw[if_neg h2,ky]
        simp[mix,h2,xB (by simpa using h1)]
  · show(if Fx.hw=true then v1.hp.get else if Fy.hw=true then v2.hp.get else v.hp.get)=v2.hp.get
    by_cases h1:Fx.hw=true
    · rw[if_pos h1,ky]
      simp[mix,(ha.hwx h1).2]
    · rw[if_neg h1]
      by_cases h2:Fy.hw=true
      ·rw[if_pos h2]
      · rw[if_neg h2,ky]
        simp[mix,h2,xA (by simpa using h1)]
theorem vRun_front{y:Nat}:∀(L1 L2:List Nat) (v v2:Vw) (accs:List (Nat×Fp)),vRun c C f r ops (L1++y::L2) v=some (v2,accs)->
  (∀x Fx Fy,(x,Fx)∈accs.take L1.length->(y,Fy)∈accs->Apart Fx Fy)->
  ∃v1 F acc1 acc2,vOp c C f r ops y v=some (v1,F)/\vRun c C f r ops (L1++L2) v1=some (v2,acc1++acc2)/\accs=acc1++(y,F)::acc2/\acc1.length=L1.length
 |[],L2,v,v2,accs,h,_=>by
  simp only[List.nil_append,vRun]at h
  obtain⟨p,hp,h⟩:=bsm h
  obtain⟨q,hq,h⟩:=bsm h
  cases h
  exact⟨p.1,p.2,[],q.2,hp,hq,rfl,rfl⟩
 |x::L1,L2,v,v2,accs,h,ha=>by
  simp only[List.cons_append,vRun]at h
  obtain⟨⟨v1,Fx⟩,hx,h⟩:=bsm h
  obtain⟨⟨v2',acc'⟩,hrest,h⟩:=bsm h
  cases h
  obtain⟨w1,F,acc1,acc2,h1,h2,h3,h4⟩:=vRun_front L1 L2 v1 v2' acc' hrest (fun x' Fx' Fy' hx' hy'=>ha x' Fx' Fy' (by simp;exact .inr hx') (by simp[hy']))
  obtain⟨u,hu1,hu2⟩:=vOp_swap hx h1 (ha x Fx F (by simp) (by rw[h3];simp))
  refine⟨u,F,(x,Fx)::acc1,acc2,hu1,?_,by rw[h3];rfl,by simp[h4]⟩
  simp only[List.cons_append,vRun,hu2,Option.bind_some,h2]
end
def dsOf(o:Oper):List Nat:=(o.after.toList.filter fun e=>Region.binds .any e).map (·.on)
def AncOk(all:List Oper)(t:List (List Nat)):Prop:=
 ∀j x,x∈t.getD j []->∃o,all[j]?=some o/\(x∈dsOf o\/∃d∈dsOf o,x∈t.getD d [])
theorem yI{α:Type}(t:List α)(e d:α)(j:Nat)(h:j<t.length):(t++[e]).getD j d=t.getD j d:=by
 simp[List.getD,List.getElem?_append_left h]
theorem getD_len{α:Type}(t:List (List α))(j:Nat)(x:α)(h:x∈t.getD j []):j<t.length:=by
 rcases Nat.lt_or_ge j t.length with h'|h'
 ·exact h'
 ·simp[List.getD,List.getElem?_eq_none h']at h
theorem anc_spec(all:List Oper):∀(L done:List Oper) (t:List (List Nat)),all=done++L->t.length=done.length->AncOk all t->AncOk all (zS L t)
 |[],done,t,_,_,h=>h
 | o::L,done,t,he,hl,h=>by
  simp only[zS]
  refine anc_spec all L (done++[o]) _ (by rw[he];simp) (by simp[hl]) ?_
  intro j x hx
  by_cases hj:j<t.length
  ·rw[yI _ _ _ _ hj]at hx
   obtain⟨o',h1,h2⟩:=h j x hx
   refine⟨o',h1,h2.imp id ?_⟩
   rintro⟨d,hd,hxd⟩
   exact⟨d,hd,by rw[yI _ _ _ _ (getD_len _ _ _ hxd)];exact hxd⟩
  ·have hj':j=t.length:=by
    have:=getD_len _ _ _ hx
    simp at this
    omega
   subst hj'
   have hx':x∈((dsOf o)++(dsOf o).flatMap fun j=>t.getD j []):=by
    have e:∀E:List Nat,(t++[E]).getD t.length []=E:=fun E=>by simp[List.getD]
    rw[e]at hx
    exact List.mem_eraseDups.mp hx
   refine⟨o,by rw[he,hl];simp,?_⟩
   rw[List.mem_append,List.mem_flatMap]at hx'
   refine hx'.imp id ?_
   rintro⟨d,hd,hxd⟩
   exact⟨d,hd,by rw[yI _ _ _ _ (getD_len _ _ _ hxd)];exact hxd⟩
theorem mem_dsOf{o:Oper}{d:Nat}:d∈dsOf o↔∃e∈o.after,Region.binds .any e=true/\e.on=d:=by
 unfold dsOf
 rw[List.mem_map]
 constructor
 ·rintro⟨e,he,rfl⟩
  obtain⟨h1,h2⟩:=List.mem_filter.mp he
  exact⟨e,by simpa using h1,h2,rfl⟩
 ·rintro⟨e,h1,h2,rfl⟩
  exact⟨e,List.mem_filter.mpr ⟨by simpa using h1,h2⟩,rfl⟩
theorem yM{ops:Array Oper}(h:depsB ops=true){i d:Nat}{o:Oper}(ho:ops[i]?=some o) (hd:d∈dsOf o):d<i:=by
 have hi:i<ops.size:=(Array.getElem?_eq_some_iff.mp ho).1
 have:=List.all_eq_true.mp h i (List.mem_range.mpr hi)
 rw[ho]at this
 obtain⟨e,h1,h2,rfl⟩:=mem_dsOf.mp hd
 have:=List.all_eq_true.mp this e (by simpa using h1)
 simpa[h2]using this
theorem anc_listed{ops:Array Oper}(hdeps:depsB ops=true)(S:Nat->Prop)(hcl:∀j o d,S j->ops[j]?=some o->d∈dsOf o->S d):
  ∀(n j:Nat),j<=n->(∀o d,ops[j]?=some o->d∈dsOf o->S d)->∀x,x∈(zS ops.toList []).getD j []->S x:=by
 have hA:AncOk ops.toList (zS ops.toList []):=anc_spec ops.toList ops.toList [] [] rfl rfl (by intro j x hx;simp[List.getD]at hx)
 intro n
 induction n with
 |zero=>
  intro j hj hdir x hx
  obtain⟨o,ho,hx⟩:=hA j x hx
  have ho':ops[j]?=some o:=by simpa using ho
  rcases hx with hx|⟨d,hd,hx⟩
  ·exact hdir o x ho' hx
  ·have:=yM hdeps ho' hd;omega
 | succ n ih=>
  intro j hj hdir x hx
  obtain⟨o,ho,hx⟩:=hA j x hx
  have ho':ops[j]?=some o:=by simpa using ho
  rcases hx with hx|⟨d,hd,hx⟩
  ·exact hdir o x ho' hx
  ·have hlt:=yM hdeps ho' hd
   exact ih d (by omega) (fun o' d' h1 h2=>hcl d o' d' (hdir o d ho' hd) h1 h2) x hx
theorem anc_lt{ops:Array Oper}(hdeps:depsB ops=true):∀{j x:Nat},x∈(zS ops.toList []).getD j []->x<j:=by
 have hA:AncOk ops.toList (zS ops.toList []):=anc_spec ops.toList ops.toList [] [] rfl rfl (by intro j x hx;simp[List.getD]at hx)
 have key:∀n j,j<=n->∀x,x∈(zS ops.toList []).getD j []->x<j:=by
  intro n
  induction n with
  |zero=>
   intro j hj x hx
   obtain⟨o,ho,hx⟩:=hA j x hx
   have ho':ops[j]?=some o:=by simpa using ho
   rcases hx with hx|⟨d,hd,hx⟩
   ·exact yM hdeps ho' hx
   ·have:=yM hdeps ho' hd;omega
  | succ n ih=>
   intro j hj x hx
   obtain⟨o,ho,hx⟩:=hA j x hx
   have ho':ops[j]?=some o:=by simpa using ho
   rcases hx with hx|⟨d,hd,hx⟩
   ·exact yM hdeps ho' hx
   ·have h1:=yM hdeps ho' hd
    have h2:=ih d (by omega) x hx
    omega
 intro j x hx
 exact key j j (Nat.le_refl j) x hx
def InvV(G:Gh)(w:World)(v:Vw)(tmps:Array Value):Prop:=∃st:St,st.vw=v/\Inv G w st tmps
def AftV(G:Gh)(w:World)(a:Act)(v:Vw)(a':Act)(w':World):Prop:=
 ∃G',InvV G' w' v a'.tmps/\Fr G w G' w'/\a'.tmps.size=a.tmps.size/\a'.defers=a.defers
section
variable {c : Cx} {R : Orc} {f : FuncId} {r : Nat} {ops : Array Oper} {G : Gh} {w : World} {a : Act} {Q : Exit → Act → World → Prop}
abbrev Bodies(c:Cx)(R:Orc):Prop:=∀f xs hp r,R f xs hp=some r->∃fn b,c.F f=some fn/\fn.body=some b
theorem vExec_ok(hc:Ok c)(hR:xh c R)(hS:Bodies c R){h:Nat}{o:Oper}{v v1:Vw}{F:Fp}(hr:vExec c R ops h o v=some (v1,F))(hI:InvV G w v a.tmps)(hd:Dst o a){K:Act->World->Prop}
  (hK:∀a' w',AftV G w a v1 a' w'->K a' w'):o.wp c.P a w K Q:=by
 obtain⟨st,rfl,hI⟩:=hI
 unfold vExec at hr
 obtain⟨q,hq,hr⟩:=bsm hr
 have hv1:(⟨putV (dnV h o st.vw.sl) o.dst q.1,setV st.vw.bx q.2.1,q.2.2⟩:Vw)=v1:=(Prod.mk.inj (Option.some.inj hr)).1
 have hq':qi c R h o (evS st.sl) (getB st.bx) st.hp k3=some q:=by rw[<-evV_slot];exact hq
 refine Oper.wp_mono (fun a' w' ha=>?_) (core_ok (Q:=Q) hc hR hS hI hd h hq')
 obtain⟨G',h1,h2,h3,h4⟩:=ha
 exact hK a' w' ⟨G',⟨_,by rw[after_vw];exact hv1,h1⟩,h2,h3,h4⟩
theorem vSkip_ok{o:Oper}{v:Vw}(hI:InvV G w v a.tmps)(hd:Dst o a):AftV G w a (vSkip ops o v).1 (a.put o.dst undef) w:=by
 obtain⟨st,rfl,hI⟩:=hI
 refine⟨G,⟨⟨putS st.sl o.dst .ud,st.bx,st.hp⟩,?_,?_⟩,Fr.refl G w,qU _ _ _,qC _ _ _⟩
 ·unfold St.vw vSkip
  congr 1
  funext k
  exact put_slot _ _ _ k
 ·exact hI.put o.dst hd (fun k _=>rfl) (fun k g off e=>by cases e)
theorem wanted_guard{o:Oper}{g:Nat}{want:Bool}(hg:jL o ops=some (some (g,want)))(tmps:Array Value):
  Region.wanted o (yielded ops tmps)=((match tmps[g]? with|some (.bool b)=>some b|_=>none)==some want):=by
 unfold jL at hg
 split at hg
 ·cases hg
 ·rename_i j want' hgo
  split at hg
  ·rename_i oj hj
   split at hg
   ·rename_i d hd
    cases hg
    simp only[Region.wanted,hgo,yielded,hj,hd,Option.bind_some]<;>rfl
   ·cases hg
  ·cases hg
theorem wanted_none{o:Oper}(hg:jL o ops=some none)(y:Nat->Option Bool):Region.wanted o y=true:=by
 unfold jL at hg
 split at hg
 ·rename_i h;simp only[Region.wanted,h]
 ·split at hg
  ·split at hg<;>cases hg
  ·cases hg
theorem vOp_ok(hc:Ok c)(hR:xh c R)(hS:Bodies c R){i:Nat}{v v1:Vw}{F:Fp}(hr:vOp c R f r ops i v=some (v1,F))(hI:InvV G w v a.tmps)(hd:∀o∈ops,Dst o a){K:Act->World->Prop}
  (hK:∀a' w',AftV G w a v1 a' w'->K a' w'):wpOp c.P ops Q i K a w:=by
 unfold vOp at hr
 unfold wpOp
 cases ho:ops[i]? with
 |none=>rw[ho]at hr;cases hr
 | some o=>
  rw[ho]at hr
  simp only at hr⊢
  have hdo:Dst o a:=hd o (Array.mem_of_getElem? ho)
  cases hg:jL o ops with
  |none=>rw[hg]at hr;cases hr
  | some gw=>
   rw[hg]at hr
   cases gw with
   |none=>
    rw[wanted_none hg]
    simp only[if_true]
    exact .inl (vExec_ok hc hR hS hr hI hdo hK)
   | some q=>
    obtain⟨g,want⟩:=q
    rw[wanted_guard hg]
    simp only at hr
    have hslot:RelS G w g (v.sl g) (a.tmps.getD g undef):=by
     obtain⟨st,rfl,hI⟩:=hI
     exact hI.slots g
    cases hvg:v.sl g with
    | ud=>
     rw[hvg]at hr hslot
     simp only at hr
     have hv1:(vSkip ops o v).1=v1:=by rw[Option.some.inj hr]
     have hund:a.tmps.getD g undef=undef:=hslot
     have hy:(match a.tmps[g]? with|some (.bool b)=>some b|_=>none:Option Bool)=none:=by
      cases ht:a.tmps[g]? with
      |none=>rfl
      |some z=>
       have:z=undef:=by simpa[ht]using hund
       subst this;rfl
     rw[hy]
     simp only[show((none:Option Bool)==some want)=false by rfl,Bool.false_eq_true,if_false]
     exact hK _ _ (hv1▸vSkip_ok hI hdo)
    | sv u=>
     rw[hvg]at hr hslot
     simp only at hr
     obtain⟨t,ht,hr'⟩:=bsm hr
     have hu:=asB_some ht
     subst hu
     have hval:a.tmps.getD g undef= .bool t:=hslot.1
     have hy:(match a.tmps[g]? with|some (.bool b)=>some b|_=>none:Option Bool)=some t:=by
      cases hz:a.tmps[g]? with
      |none=>simp[hz,undef]at hval
      |some z=>
       have:z= .bool t:=by simpa[hz]using hval
       subst this;rfl
     rw[hy]
     by_cases e:t=want
     ·subst e
      rw[if_pos rfl]at hr'
      simp only[beq_self_eq_true,if_true]
      exact .inl (vExec_ok hc hR hS hr' hI hdo hK)
     ·rw[if_neg e]at hr'
      have hv1:(vSkip ops o v).1=v1:=by rw[Option.some.inj hr']
      have hne:((some t:Option Bool)==some want)=false:=by simpa using e
      rw[hne]
      simp only[Bool.false_eq_true,if_false]
      exact hK _ _ (hv1▸vSkip_ok hI hdo)
    |_=>rw[hvg]at hr;cases hr
theorem AftV.trans{v':Vw}{a' a'':Act}{w' w'':World}{G':Gh}(hf:Fr G w G' w')(hs:a'.tmps.size=a.tmps.size)(hdf:a'.defers=a.defers)(h:AftV G' w' a' v' a'' w''):AftV G w a v' a'' w'':=by
 obtain⟨G'',h1,h2,h3,h4⟩:=h
 exact⟨G'',h1,hf.trans h2,h3.trans hs,h4.trans hdf⟩
theorem ops_ok(hc:Ok c)(hR:xh c R)(hS:Bodies c R):∀(is:List Nat) (G:Gh) (w:World) (a:Act) (v v2:Vw) (accs:List (Nat×Fp)),vRun c R f r ops is v=some (v2,accs)->InvV G w v a.tmps->(∀o∈ops,Dst o a)->
  (∀a' w',AftV G w a v2 a' w'->Q .normal a' w')->wpOps c.P ops Q is a w
 |[],G,w,a,v,v2,accs,h,hI,hd,hK=>by
  simp only[vRun]at h
  cases h
  exact hK a w ⟨G,hI,Fr.refl G w,rfl,rfl⟩
 |i::is,G,w,a,v,v2,accs,h,hI,hd,hK=>by
  simp only[vRun]at h
  obtain⟨p,hp,h⟩:=bsm h
  obtain⟨q,hq,h⟩:=bsm h
  cases h
  rw[wpOps_cons]
  refine vOp_ok hc hR hS hp hI hd fun a' w' ha=>?_
  obtain⟨G',h1,h2,h3,h4⟩:=ha
  exact ops_ok hc hR hS is G' w' a' p.1 q.1 q.2 hq h1 (fun o ho k hk=>by rw[h3];exact hd o ho k hk) fun a'' w'' h=>hK a'' w'' (AftV.trans h2 h3 h4 h)
theorem vRun_fst:∀(is:List Nat) (v v2:Vw) (accs:List (Nat×Fp)),vRun c R f r ops is v=some (v2,accs)->accs.map (·.1)=is
 |[],v,v2,accs,h=>by simp only[vRun]at h;cases h;rfl
 |i::is,v,v2,accs,h=>by
  simp only[vRun]at h
  obtain⟨p,hp,h⟩:=bsm h
  obtain⟨q,hq,h⟩:=bsm h
  cases h
  simp[vRun_fst is p.1 q.1 q.2 hq]
theorem any_ok(hc:Ok c)(hR:xh c R)(hS:Bodies c R)(hdeps:depsB ops=true):∀(fuel:Nat) (L:List Nat) (listed:Array Bool) (G:Gh) (w:World) (a:Act) (v v2:Vw) (accs:List (Nat×Fp)),L.length=fuel->
    (∀i,i∈L↔listed.getD i true=false)->(∀i∈L,i<ops.size)->listed.size=ops.size->L.Pairwise (·<·)->
    (∀j o d,listed.getD j false=true->ops[j]?=some o->d∈dsOf o->listed.getD d false=true)->
    vRun c R f r ops L v=some (v2,accs)->(∀x Fx y Fy,(x,Fx)∈accs->(y,Fy)∈accs->x<y->x∈(zS ops.toList []).getD y []\/Apart Fx Fy)->
    InvV G w v a.tmps->(∀o∈ops,Dst o a)->(∀a' w',AftV G w a v2 a' w'->Q .normal a' w')->wpAny c.P .any ops Q fuel listed a w
  | 0,L,listed,G,w,a,v,v2,accs,hlen,hL,hlt,hsz,hsort,hcl,hrun,hap,hI,hd,hK=>by
    have hnil:L=[]:=List.length_eq_zero_iff.mp hlen
    subst hnil
    simp only[vRun]at hrun
    cases hrun
    refine⟨?_,hK a w ⟨G,hI,Fr.refl G w,rfl,rfl⟩⟩
    apply List.eq_nil_iff_forall_not_mem.mpr
    intro j hj
    have:=(mem_ready.mp hj).1
    rw[<-hL]at this
    simp at this
  | fuel+1,L,listed,G,w,a,v,v2,accs,hlen,hL,hlt,hsz,hsort,hcl,hrun,hap,hI,hd,hK=>by
    have hlist:∀i,i<ops.size->i∉L->listed.getD i false=true:=by
      intro i hi hn
      rw[hL]at hn
      have hi':i<listed.size:=by rw[hsz];exact hi
      simp[Array.getD,hi']at hn⊢
      exact hn
    have hunl:∀i,i∈L->¬listed.getD i false=true:=by
      intro i hi hn
      rw[hL]at hi
      have hi':i<listed.size:=by
        rcases Nat.lt_or_ge i listed.size with h|h
        ·exact h
        · have:¬i<listed.size:=by omega
          simp[Array.getD,this]at hi
      simp[Array.getD,hi']at hi hn
      rw[hi]at hn;cases hn
    refine⟨fun hnone=>?_,fun i hi=>?_⟩
    · exfalso
      match L,hlen,hL,hlt,hsort,hlist with
      | i0::rest,hlen,hL,hlt,hsort,hlist=>
        have hi0:=hlt i0 (by simp)
        have:i0∈Region.ready .any ops listed:=by
          rw[mem_ready]
          refine⟨(hL i0).mp (by simp),ops[i0],Array.getElem?_eq_getElem hi0,fun e he hb=>?_⟩
          have hlt':=yM hdeps (Array.getElem?_eq_getElem hi0) (mem_dsOf.mpr ⟨e,he,hb,rfl⟩)
          refine hlist e.on (by omega) fun hm=>?_
          rcases List.mem_cons.mp hm with h|h
          ·omega
          ·have:=(List.pairwise_cons.mp hsort).1 _ h;omega
        rw[hnone]at this
        simp at this
    · obtain⟨hi1,o,ho,hi2⟩:=mem_ready.mp hi
      have hiL:i∈L:=(hL i).mpr hi1
      obtain⟨L1,L2,rfl⟩:=List.append_of_mem hiL
      have hfst:=vRun_fst _ _ _ _ hrun
      have hx1:∀x Fx,(x,Fx)∈accs.take L1.length->x∈L1/\(x,Fx)∈accs:=by
        intro x Fx hx
        have hm:x∈(accs.take L1.length).map (·.1):=List.mem_map.mpr ⟨_,hx,rfl⟩
        rw[List.map_take,hfst,List.take_left']at hm
        ·exact⟨hm,List.mem_of_mem_take hx⟩
        ·rfl
      have hpw:=List.pairwise_append.mp hsort
      obtain⟨v1,F,acc1,acc2,r1,r2,r3,r4⟩:=vRun_front L1 L2 v v2 accs hrun (fun x Fx Fy hx hy=>by
        obtain⟨hxL,hxa⟩:=hx1 x Fx hx
        have hlt':x<i:=hpw.2.2 x hxL i (by simp)
        refine(hap x Fx i Fy hxa hy hlt').resolve_left fun hanc=>?_
        have:=anc_listed hdeps (fun j=>listed.getD j false=true) hcl i i (Nat.le_refl i) (fun o' d ho' hdd=>by
          rw[ho]at ho';cases ho'
          obtain⟨e,he,hb,rfl⟩:=mem_dsOf.mp hdd
          exact hi2 e he hb) x hanc
        exact hunl x (by simp[hxL]) this)
      have hiLt:i<listed.size:=by rw[hsz];exact hlt i (by simp)
      refine vOp_ok hc hR hS r1 hI hd fun a' w' ha=>?_
      obtain⟨G',h1,h2,h3,h4⟩:=ha
      have hsort':(L1++L2).Pairwise (·<·):=by
        refine List.pairwise_append.mpr ⟨hpw.1,(List.pairwise_cons.mp hpw.2.1).2,fun x hx y hy=>hpw.2.2 x hx y (by simp[hy])⟩
      have hni:i∉L1++L2:=by
        intro hm
        rcases List.mem_append.mp hm with h|h
        ·have:=hpw.2.2 i h i (by simp);omega
        ·have:=(List.pairwise_cons.mp hpw.2.1).1 i h;omega
      refine any_ok hc hR hS hdeps fuel (L1++L2) (listed.setIfInBounds i true) G' w' a' v1 v2 (acc1++acc2) (by simp at hlen⊢;omega) (fun j=>?_) (fun j hj=>hlt j ?_) (by simp[hsz]) hsort' ?_ r2 ?_ h1
        (fun o ho k hk=>by rw[h3];exact hd o ho k hk) (fun a'' w'' h=>hK a'' w'' (AftV.trans h2 h3 h4 h))
      · by_cases e:i=j
        · subst e
          constructor
          ·intro h;exact absurd h hni
          ·intro h;simp[Array.getD,hiLt]at h
        · rw[getD_set_ne true e,<-hL j]
          simp only[List.mem_append,List.mem_cons]
          have:¬j=i:=fun h=>e h.symm
          simp[this]
      · simp only[List.mem_append,List.mem_cons]at hj⊢
        rcases hj with h|h
        ·exact .inl h
        ·exact .inr (.inr h)
      · intro j o' d hj ho' hdd
        by_cases e:i=j
        · subst e
          rw[ho]at ho';cases ho'
          obtain⟨e,he,hb,rfl⟩:=mem_dsOf.mp hdd
          exact getD_set_true (hi2 e he hb)
        · rw[getD_set_ne false e]at hj
          exact getD_set_true (hcl j o' d hj ho' hdd)
      · intro x Fx y Fy hx hy hxy
        refine hap x Fx y Fy ?_ ?_ hxy
        · rw[r3]
          rcases List.mem_append.mp hx with h|h<;>simp[h]
        · rw[r3]
          rcases List.mem_append.mp hy with h|h<;>simp[h]
end
def xU(key:Nat×Nat)(own:Nat->Ow):Prop:=(key.1=0/\own=fun i=>.sl key.2 0 i)\/(key.1=1/\∃g off,own=fun i=>.bc key.2 g (off+i))
theorem xU.inj{k k':Nat×Nat}{own own':Nat->Ow}(h:xU k own)(h':xU k' own'){i i':Nat}(e:own i=own' i'):k=k':=by
 obtain⟨a,b⟩:=k
 obtain⟨a',b'⟩:=k'
 rcases h with⟨h1,rfl⟩|⟨h1,g,off,rfl⟩<;>rcases h' with⟨h1',rfl⟩|⟨h1',g',off',rfl⟩<;>simp only at h1 h1' e
 ·injection e with e1 e2 e3;subst h1;subst h1';subst e1;rfl
 ·cases e
 ·cases e
 ·injection e with e1 e2 e3;subst h1;subst h1';subst e1;rfl
theorem xU.inj1{k:Nat×Nat}{own:Nat->Ow}(h:xU k own){i i':Nat}(e:own i=own i'):i=i':=by
 rcases h with⟨h1,rfl⟩|⟨h1,g,off,rfl⟩
 ·injection e
 ·injection e with e1 e2 e3;omega
theorem xU.form{k:Nat×Nat}{own:Nat->Ow}(h:xU k own)(i:Nat):(∃a b c,own i= .sl a b c)\/∃a b c,own i= .bc a b c:=by
 rcases h with⟨h1,rfl⟩|⟨h1,g,off,rfl⟩
 ·exact .inl ⟨_,_,_,rfl⟩
 ·exact .inr ⟨_,_,_,rfl⟩
open Classical in
noncomputable def relx(owns:List (Nat->Ow))(p:Ow):Ow:=
 if h:∃ji:Nat×Nat,∃own,owns[ji.1]?=some own/\own ji.2=p then .sl 0 h.choose.1 h.choose.2 else .oth
noncomputable def yW(owns:List (Nat->Ow))(p:Ow):Ow:=
 match p with
 | .fr=>.fr
 | .obj b g=>.obj b g
 | .oc b g i=>.oc b g i
 |p=>relx owns p
theorem relx_or{owns:List (Nat->Ow)}(p:Ow):(∃j i,relx owns p= .sl 0 j i)\/relx owns p= .oth:=by
 unfold relx
 split
 ·exact .inl ⟨_,_,rfl⟩
 ·exact .inr rfl
theorem relab_sl{owns:List (Nat->Ow)}(a b c:Nat):(∃j i,yW owns (.sl a b c)= .sl 0 j i)\/yW owns (.sl a b c)= .oth:=relx_or _
theorem relab_bc{owns:List (Nat->Ow)}(a b c:Nat):(∃j i,yW owns (.bc a b c)= .sl 0 j i)\/yW owns (.bc a b c)= .oth:=relx_or _
theorem relab_box{owns:List (Nat->Ow)}(a b:Nat):(∃j i,yW owns (.box a b)= .sl 0 j i)\/yW owns (.box a b)= .oth:=relx_or _
theorem relx_own{owns:List (Nat->Ow)}(hinj:∀(j j':Nat) (own own':Nat->Ow) (i i':Nat),owns[j]?=some own->owns[j']?=some own'->own i=own' i'->j=j'/\i=i')
  {j:Nat} {own:Nat->Ow} (hj:owns[j]?=some own) (i:Nat):relx owns (own i)= .sl 0 j i:=by
 have hex:∃ji:Nat×Nat,∃own',owns[ji.1]?=some own'/\own' ji.2=own i:=⟨(j,i),own,hj,rfl⟩
 have key:relx owns (own i)= .sl 0 hex.choose.1 hex.choose.2:=by
  unfold relx
  rw[dif_pos hex]
 rw[key]
 obtain⟨own',h1,h2⟩:=hex.choose_spec
 obtain⟨e1,e2⟩:=hinj _ _ _ _ _ _ h1 hj h2
 rw[e1,e2]
theorem relab_own{owns:List (Nat->Ow)}(hinj:∀(j j':Nat) (own own':Nat->Ow) (i i':Nat),owns[j]?=some own->owns[j']?=some own'->own i=own' i'->j=j'/\i=i')
  (hform:∀(j:Nat) (own:Nat->Ow),owns[j]?=some own->∀i,(∃a b c,own i= .sl a b c)\/∃a b c,own i= .bc a b c) {j:Nat} {own:Nat->Ow} (hj:owns[j]?=some own) (i:Nat):
  yW owns (own i)= .sl 0 j i:=by
 have e:yW owns (own i)=relx owns (own i):=by
  rcases hform j own hj i with⟨a,b,c,e⟩|⟨a,b,c,e⟩<;>rw[e]<;>rfl
 rw[e,relx_own hinj hj]
theorem relx_oth{owns:List (Nat->Ow)}(hoth:∀(j:Nat) (own:Nat->Ow),owns[j]?=some own->∀i,(∃a b c,own i= .sl a b c)\/∃a b c,own i= .bc a b c):relx owns .oth= .oth:=by
 unfold relx
 rw[dif_neg]
 rintro⟨ji,own,h1,h2⟩
 rcases hoth _ own h1 ji.2 with⟨a,b,c,e⟩|⟨a,b,c,e⟩<;>rw[e]at h2<;>cases h2
theorem relab_rho(owns:List (Nat->Ow))(hoth:∀(j:Nat) (own:Nat->Ow),owns[j]?=some own->∀i,(∃a b c,own i= .sl a b c)\/∃a b c,own i= .bc a b c):Rho (yW owns) where
 fr:=rfl
 oth:=relx_oth hoth
 box p k g h:=by
  cases p with
  |fr=>cases h
  |oth=>rw[show yW owns .oth= .oth from relx_oth hoth]at h;cases h
  |box a b=>rcases relab_box (owns:=owns) a b with⟨j,i,e⟩|e<;>rw[e]at h<;>cases h
  |obj a b=>cases h
  |sl a b d=>rcases relab_sl (owns:=owns) a b d with⟨j,i,e⟩|e<;>rw[e]at h<;>cases h
  |bc a b d=>rcases relab_bc (owns:=owns) a b d with⟨j,i,e⟩|e<;>rw[e]at h<;>cases h
  |oc a b d=>cases h
 obj p k g h:=by
  cases p with
  |fr=>cases h
  |oth=>rw[show yW owns .oth= .oth from relx_oth hoth]at h;cases h
  |box a b=>rcases relab_box (owns:=owns) a b with⟨j,i,e⟩|e<;>rw[e]at h<;>cases h
  |obj a b=>exact h
  |sl a b d=>rcases relab_sl (owns:=owns) a b d with⟨j,i,e⟩|e<;>rw[e]at h<;>cases h
  |bc a b d=>rcases relab_bc (owns:=owns) a b d with⟨j,i,e⟩|e<;>rw[e]at h<;>cases h
  |oc a b d=>cases h
theorem noKey_spec{k:Nat×Nat}:∀{l:List (Nat×Nat)},noKey k l=true->∀j,j∈l->j≠k
 |[],_,j,hj=>by simp at hj
 | x::l,h,j,hj=>by
  simp only[noKey]at h
  split at h
  ·cases h
  ·rename_i hb
   rcases List.mem_cons.mp hj with rfl|hj
   ·rintro rfl
    simp[beq_self]at hb
   ·exact noKey_spec h j hj
theorem distinct_spec:∀{l:List (Nat×Nat)},xp l=true->∀(i j:Nat) (k:Nat×Nat),l[i]?=some k->l[j]?=some k->i=j
 |[],_,i,j,k,hi,_=>by simp at hi
 | x ::l,h,i,j,k,hi,hj=>by
  simp only[xp]at h
  split at h
  ·rename_i hn
   cases i with
   | zero=>
    cases j with
    |zero=>rfl
    |succ j=>
     simp at hi hj
     subst hi
     exact absurd rfl (noKey_spec hn _ (List.mem_of_getElem? hj))
   | succ i=>
    cases j with
    |zero=>
     simp at hi hj
     subst hj
     exact absurd rfl (noKey_spec hn _ (List.mem_of_getElem? hi))
    |succ j=>
     simp at hi hj
     rw[distinct_spec h i j k hi hj]
  ·cases h
section
variable {c : Cx} {G : Gh} {w : World} {st : St} {tmps : Array Value}
theorem resVK_nat{R:Type}(st:St)(tt:TypeId->Option TI)(r:ResultVar)(K:AV->Option R):resVK st tt r K=(resVK st tt r some).bind K:=by
 unfold resVK
 repeat' split
 all_goals simp[Option.bind_assoc]
theorem xH{R:Type}(st:St)(tt:TypeId->Option TI):∀(l:List ResultVar) (K:List AV->Option R),xI st tt K l=(xI st tt some l).bind K
 |[],K=>rfl
 |r::l,K=>by
  simp only[xI]
  rw[resVK_nat,resVK_nat (K:=fun x=>xI st tt (fun xs=>some (x::xs)) l)]
  simp only[Option.bind_assoc]
  congr 1;funext x
  rw[xH st tt l,xH st tt l (fun xs=>some (x::xs))]
  simp[Option.bind_assoc]
def xJ(tmps:Array Value):ResultVar->Sem Value
 | .tmp t=>pure (tmps.getD t undef)
 | .cell a t=>do loadVar t (<-asAddr (tmps.getD a undef))
theorem res1 (hc:Ok c)(hI:Inv G w st tmps){r:ResultVar}{x:AV}(hr:resVK st c.tn r some=some x):
    ∃own v,xU (keyOf st r) own/\RelV G w own x v/\(xJ tmps r).run c.P w= .ok v w:=by
  cases r with
  |tmp t=>exact⟨fun i=>.sl t 0 i,_,.inl ⟨rfl,rfl⟩,yb (hI.slots t) (by simpa[resVK]using hr),rfl⟩
  | cell a ty =>
    simp only[resVK]at hr
    split at hr
    · rename_i ti hti
      split at hr
      · rename_i k g off hs
        split at hr
        · rename_i g' cs hb
          split at hr
          · rename_i hg
            subst hg
            have hsl:=hI.slots a
            rw[hs]at hsl
            obtain⟨blk,hla,hv⟩:=hsl
            obtain⟨blk',b1,b2,b3⟩:=hI.boxes k g cs hb
            rw[hla]at b1;cases b1
            obtain⟨arr,e,c1,c2,c3⟩:=b3
            have ht:=hc.tt ty ti (qm hti).1
            have hz:=ht.sizeOf (qm hti).2 w
            have ha:=ht.isAgg (qm hti).2 w
            obtain⟨arrL,harr⟩:∃l,l=arr.toList.take cs.length:=⟨_,rfl⟩
            have hlen:cs.length=arrL.length:=by rw[harr];simp;omega
            have hin:∀(k:Nat) (u:Value),arrL[k]?=some u->arr[k]?=some u:=by
              intro k u hu
              rw[harr,List.getElem?_take]at hu
              split at hu
              ·simpa using hu
              ·cases hu
            have hkey:keyOf st (.cell a ty)=(1,k):=by simp[keyOf,hs]
            split at hr
            · rename_i hag
              obtain⟨l,hl,hr⟩:=bsm hr
              cases hr
              obtain⟨hle,rfl⟩:=zL hl
              refine⟨fun i=>.bc k g (off+i),.agg ((arrL.drop off).take ti.size).toArray,.inr ⟨by rw[hkey],g,off,by rw[hkey]⟩,⟨(arrL.drop off).take ti.size,rfl,by simp[hlen],fun i y u hy hu=>?_⟩,?_⟩
              · rw[List.getElem?_take]at hy hu
                split at hy
                · rename_i hq
                  simp only[hq,if_true]at hu
                  rw[List.getElem?_drop]at hy hu
                  exact c3 (off+i) y u hy (hin _ _ hu)
                ·cases hy
              · have hload:=run_loadCells_list (P:=c.P) (w:=w) (⟨blk,off,none⟩:Addr) ((arrL.drop off).take ti.size) (fun j v hj=>by
                  rw[qK,qW c1]
                  rw[List.getElem?_take]at hj
                  split at hj
                  ·rw[List.getElem?_drop]at hj;exact hin _ _ hj
                  ·cases hj)
                have hll:((arrL.drop off).take ti.size).length=ti.size:=by simp;omega
                rw[hll]at hload
                simp[xJ,hv,asAddr,loadVar,ha,hag,hz,hload]
            · rename_i hag
              have hx:cs[off]?=some x:=by
                obtain⟨y,hy,hr⟩:=bsm hr
                cases hr;exact hy
              obtain⟨u,hu⟩:=qJ hlen hx
              have hu':arr[off]?=some u:=hin _ _ hu
              have hrel:=c3 off x u hx hu'
              have hag':isAg ti.k=false:=by simpa using hag
              refine⟨fun i=>.bc k g (off+i),u,.inr ⟨by rw[hkey],g,off,by rw[hkey]⟩,RelC.v hrel,?_⟩
              have hcell:w.cell? (⟨blk,off,none⟩:Addr)=some u:=by rw[qW c1];exact hu'
              simp[xJ,hv,asAddr,loadVar,ha,hag',hcell]
          ·cases hr
        ·cases hr
      ·cases hr
    ·cases hr
theorem ress(hc:Ok c)(hI:Inv G w st tmps):∀{rs:List ResultVar} {xs:List AV},xI st c.tn some rs=some xs->
  ∃(owns:List (Nat->Ow)) (vs:List Value),owns.length=rs.length/\vs.length=rs.length/\xs.length=rs.length/\(rs.mapM (xJ tmps)).run c.P w= .ok vs w/\
   (∀(j:Nat) (own:Nat->Ow),owns[j]?=some own->∃r,rs[j]?=some r/\xU (keyOf st r) own)/\
   ∀(j:Nat) (x:AV) (v:Value),xs[j]?=some x->vs[j]?=some v->∃own,owns[j]?=some own/\RelV G w own x v
 |[],xs,h=>by simp only[xI]at h;cases h;exact⟨[],[],rfl,rfl,rfl,rfl,by simp,by simp⟩
 | r::rs,xs,h=>by
  simp only[xI]at h
  rw[resVK_nat]at h
  obtain⟨x,hx,h⟩:=bsm h
  rw[xH]at h
  obtain⟨xs',hxs,h⟩:=bsm h
  cases h
  obtain⟨own,v,h1,h2,h3⟩:=res1 hc hI hx
  obtain⟨owns,vs,g1,g2,g3,g4,g5,g6⟩:=ress hc hI hxs
  refine⟨own::owns,v::vs,by simp[g1],by simp[g2],by simp[g3],?_,?_,?_⟩
  ·rw[List.mapM_cons]
   simp only[Sem.run_bind,h3,Result.andThen_ok,g4,Sem.run_pure]
  ·intro j own' hj
   cases j with
   |zero=>simp at hj;subst hj;exact⟨r,rfl,h1⟩
   |succ j=>simp at hj;obtain⟨r',a1,a2⟩:=g5 j own' hj;exact⟨r',by simpa using a1,a2⟩
  ·intro j x' v' hx' hv'
   cases j with
   |zero=>simp at hx' hv';subst hx';subst hv';exact⟨own,rfl,h2⟩
   |succ j=>simp at hx' hv';obtain⟨own',a1,a2⟩:=g6 j x' v' hx' hv';exact⟨own',by simpa using a1,a2⟩
theorem run_results{P:Program}{fn:Func}{vs:List Value}(h:(fn.results.toList.mapM (xJ tmps)).run P w= .ok vs w):
  (results fn tmps).run P w= .ok (match vs with|[v]=>v|vs=>.tuple vs.toArray) w:=by
 have hm:(fn.results.mapM (xJ tmps)).run P w= .ok vs.toArray w:=by
  rw[Array.mapM_eq_mapM_toList,Sem.run_map,h];rfl
 have e:results fn tmps=(do let vs<-fn.results.mapM (xJ tmps);pure (if h:vs.size=1 then vs[0]else .tuple vs)):=by
  unfold results
  congr 1
 rw[e,Sem.run_bind,hm]
 simp only[Result.andThen_ok,Sem.run_pure]
 match vs with
 |[]=>rfl
 |[v]=>rfl
 |v::v'::vs=>simp
theorem fin_ok(hc:Ok c){f:FuncId}{fn:Func}(hF:c.F f=some fn)(hI:Inv G w st tmps){y:AV}{hp:Hp}(hr:fin c f st=some (y,hp)):
  ∃v G',(results fn tmps).run c.P w= .ok v w/\Fr G w G' w/\HpI G' w hp/\ResR G' w y v:=by
 unfold fin at hr
 rw[hF]at hr
 simp only at hr
 cases hd:xp (fn.results.toList.map (keyOf st))with
 |false=>rw[hd]at hr;cases hr
 | true=>
  rw[hd]at hr
  simp only[cond_true]at hr
  rw[xH]at hr
  obtain⟨xs,hxs,hr⟩:=bsm hr
  obtain⟨owns,vs,g1,g2,g3,g4,g5,g6⟩:=ress hc hI hxs
  have hform:∀(j:Nat) (own:Nat->Ow),owns[j]?=some own->∀i,(∃a b c,own i= .sl a b c)\/∃a b c,own i= .bc a b c:=by
   intro j own hj i
   obtain⟨r,_,h⟩:=g5 j own hj
   exact h.form i
  have hinj:∀(j j':Nat) (own own':Nat->Ow) (i i':Nat),owns[j]?=some own->owns[j']?=some own'->own i=own' i'->j=j'/\i=i':=by
   intro j j' own own' i i' hj hj' e
   obtain⟨r,hr1,h⟩:=g5 j own hj
   obtain⟨r',hr1',h'⟩:=g5 j' own' hj'
   have hk:=h.inj h' e
   have e1:(fn.results.toList.map (keyOf st))[j]?=some (keyOf st r):=by rw[List.getElem?_map,hr1];rfl
   have e2:(fn.results.toList.map (keyOf st))[j']?=some (keyOf st r):=by rw[List.getElem?_map,hr1',hk];rfl
   have ej:=distinct_spec hd j j' _ e1 e2
   subst ej
   rw[hj]at hj';cases hj'
   exact⟨rfl,h.inj1 e⟩
  have hrho:=relab_rho owns hform
  have hfr:Fr G w (G.rel (yW owns)) w:=Fr.rel hrho
  have hrel:∀(j:Nat) (x:AV) (v:Value),xs[j]?=some x->vs[j]?=some v->RelV (G.rel (yW owns)) w (.sl 0 j ·) x v:=by
   intro j x v hx hv
   obtain⟨own,ho,hr⟩:=g6 j x v hx hv
   refine RelV.ev hfr.ev (p:=own) (fun i b hb=>⟨rfl,rfl,?_⟩) hr
   simp only[Gh.rel,hb]
   exact relab_own hinj hform ho i
  refine⟨_,G.rel (yW owns),run_results g4,hfr,?_,?_⟩
  ·have:hp=st.hp:=by
    split at hr<;>cases hr<;>rfl
   subst this
   exact hI.hpI.rel hrho (fun _ _=>rfl) (fun _ _ _=>rfl)
  ·match xs,vs,hr,g2,g3,hrel with
   |[x],[v],hr,_,_,hrel=>
    cases hr
    have:=hrel 0 _ _ rfl rfl
    unfold ResR
    split
    ·exact this.elim
    ·exact this
   |[],[],hr,_,_,hrel=>cases hr;exact⟨[],rfl,rfl,by simp⟩
   |x::x'::xs,v::v'::vs,hr,g2,g3,hrel=>cases hr;exact⟨_,rfl,by simp at g2 g3⊢;omega,hrel⟩
   |[],v::vs,hr,g2,g3,_=>simp at g2 g3;omega
   |[x],[],hr,g2,g3,_=>simp at g2 g3;omega
   |[x],v::v'::vs,hr,g2,g3,_=>simp at g2 g3;omega
   |x::x'::xs,[],hr,g2,g3,_=>simp at g2 g3;omega
   |x::x'::xs,[v],hr,g2,g3,_=>simp at g2 g3;omega
end
def dstB(N:Nat):Code->Bool
 | .region _ ops _=>ops.toList.all fun o=>match o.dst with|some d=>Nat.blt d N|none=>true
 | .seq a b=>dstB N a&&dstB N b
 | .cond _ a b=>dstB N a&&dstB N b
 | .block _ b=>dstB N b
 | .loop b=>dstB N b
 | .scope b=>dstB N b
 |_=>true
def ItOk(N:Nat):It->Prop
 | .code c=>dstB N c=true
 | .inBlock _=>True
 | .inLoop b=>dstB N b=true
 | .inScope _=>True
 | .ops _ _ _ _ _=>False
def jY:It->Item
 | .code c=>.code c
 | .inBlock i=>.inBlock i
 | .inLoop b=>.inLoop b
 | .inScope b=>.inScope b
 | .ops _ ops is _ _=>.inRegion ops is
theorem yw{N:Nat}{id:Nat}:∀{k k':List It},popTo id k=some k'->(∀it∈k,ItOk N it)->exitTo id (k.map jY)=some (k'.map jY)/\∀it∈k',ItOk N it
 |[],k',h,_=>by simp[popTo]at h
 | .inBlock j::k,k',h,hk=>by
  simp only[popTo]at h
  by_cases e:j=id
  ·rw[if_pos e]at h;cases h
   subst e
   exact⟨by simp[exitTo,jY],fun it hi=>hk it (by simp[hi])⟩
  ·rw[if_neg e]at h
   obtain⟨h1,h2⟩:=yw h fun it hi=>hk it (by simp[hi])
   have hne:(j==id)=false:=by simpa using e
   exact⟨by simp only[List.map_cons,jY,exitTo,hne];exact h1,h2⟩
 | .code c::k,k',h,hk=>by
  obtain⟨h1,h2⟩:=yw (k:=k) h fun it hi=>hk it (by simp[hi])
  exact⟨h1,h2⟩
 | .inLoop b::k,k',h,hk=>by
  obtain⟨h1,h2⟩:=yw (k:=k) h fun it hi=>hk it (by simp[hi])
  exact⟨h1,h2⟩
 | .inScope b::k,k',h,hk=>by
  obtain⟨h1,h2⟩:=yw (k:=k) h fun it hi=>hk it (by simp[hi])
  exact⟨h1,h2⟩
 | .ops r ops is d acc::k,k',h,hk=>(show False from hk (.ops r ops is d acc) (by simp)).elim
section
variable {c : Cx} {R : Orc} {G : Gh} {w : World}
theorem Inv.mask{st:St}{t:Array Value}(hI:Inv G w st t)(m:Option (List Nat)):Inv G w (AI.mask m st) t:=by
 cases m with
 |none=>exact hI
 | some live=>
  have hb:∀k g cs,getB (jU st.bx live) k=some (g,cs)->getB st.bx k=some (g,cs):=by
   intro k g cs h
   rw[getB_maskB]at h
   split at h
   ·exact h
   ·cases h
  exact{
   slots:=fun k=>by
    show RelS G w k (slot (maskS (jU st.bx live) st.sl live) k) _
    rw[xz]
    split
    ·have h:=hI.slots k
     cases hs:slot st.sl k with
     |lp j g off=>
      simp only[okLp]
      split
      ·rw[hs]at h;exact h
      ·trivial
     |_=>rw[hs]at h;exact h
    ·trivial
   boxes:=fun k g cs h=>hI.boxes k g cs (hb k g cs h)
   heap:=hI.heap
   next:=hI.next
   hlt:=hI.hlt
   new:=hI.new
   vars:=hI.vars
   lps :=fun j k g off h=>by
    have h':slot (maskS (jU st.bx live) st.sl live) j= .lp k g off:=h
    show∃g' cs,getB (jU st.bx live) k=some (g',cs)/\g<=g'
    rw[xz]at h'
    split at h'
    ·cases hs:slot st.sl j with
     | lp j' g' off'=>
      rw[hs]at h'
      simp only[okLp]at h'
      split at h'
      ·rename_i q hq
       cases h'
       obtain⟨g',cs,h1,h2⟩:=hI.lps j k g off hs
       rw[hq]
       have:=hb k q.1 q.2 hq
       rw[h1]at this
       cases this
       exact⟨_,_,rfl,h2⟩
      ·cases h'
     |_=>rw[hs]at h';cases h'
    ·cases h'}
theorem Inv.world{w':World}{st:St}{t:Array Value}(hI:Inv G w st t)(hw:w'.heap=w.heap):Inv G w' st t:=by
 have he:Ev G w G w':=⟨fun b i _=>by simp[World.cell?,hw],fun _=>Nat.le_refl _,fun _ _ _ h=>h,fun b z h=>(bsz_of (w:=w) (w':=w') (by rw[hw])).trans h⟩
 have hk:∀p,zi G w G w' p p:=fun p b hb=>⟨by rw[hw],rfl,hb⟩
 exact{
  slots:=fun k=>RelS.ev he (fun j i=>hk _) (fun _ _ _ _ _ h=>h) (hI.slots k)
  boxes:=fun k g cs h=>by
   obtain⟨blk,h1,h2,h3⟩:=hI.boxes k g cs h
   exact⟨blk,h1,h2,h3.ev he (by rw[hw]) fun i=>hk _⟩
  heap:=fun k g cs h=>by
   obtain⟨blk,h1,h2,h3⟩:=hI.heap k g cs h
   exact⟨blk,h1,h2,h3.ev he (by rw[hw]) fun i=>hk _⟩
  next:=hI.next
  hlt:=hI.hlt
  new:=fun b hb=>hI.new b (by rw[hw]at hb;exact hb)
  vars:=hI.vars
  lps:=hI.lps}
theorem Fr.world{w':World}(hw:w'.heap=w.heap)(hr:Rest w w'):Fr G w G w':=
 ⟨by rw[hw];exact Nat.le_refl _,fun b i _=>by simp[World.cell?,hw],fun _=>Nat.le_refl _,fun _ _ _ h=>h,fun b _ _=>⟨by rw[hw],rfl,rfl⟩,hr,fun b z h=>(bsz_of (w:=w) (w':=w') (by rw[hw])).trans h⟩
theorem vw_inv{st st':St}{t:Array Value}(hv:st.vw=st'.vw)(hI:Inv G w st t):Inv G w st' t:=by
 have h1:slot st'.sl=slot st.sl:=(congrArg Vw.sl hv).symm
 have h2:getB st'.bx=getB st.bx:=(congrArg Vw.bx hv).symm
 have h3:st'.hp=st.hp:=(congrArg Vw.hp hv).symm
 exact{
  slots:=by rw[h1];exact hI.slots
  boxes:=by rw[h2];exact hI.boxes
  heap:=by rw[h3];exact hI.heap
  next:=by rw[h3];exact hI.next
  hlt:=by rw[h3];exact hI.hlt
  new:=hI.new
  vars:=hI.vars
  lps:=by rw[h1,h2];exact hI.lps}
theorem region_ok(hc:Ok c)(hR:xh c R)(hS:Bodies c R){f:FuncId}{r:Nat}{ops:Array Oper}{d:Bool}{st st':St}{accs:List (Nat×Fp)}{a:Act}(hI:Inv G w st a.tmps)
    (hd:∀o∈ops,Dst o a) (hrun:vRun c R f r ops (List.range ops.size) st.vw=some (st'.vw,accs)) (hok:d=true->drawOk ops accs.reverse=true/\∀o∈pend ops accs.reverse,o=some ()):
    (Code.region r ops d).wp c.P (fun e a' w'=>e= .normal/\∃G',Inv G' w' st' a'.tmps/\Fr G w G' w'/\a'.tmps.size=a.tmps.size/\a'.defers=a.defers) a w:=by
  have conv:∀{w0:World} (_:Fr G w G w0) (a':Act) (w':World),AftV G w0 a st'.vw a' w'->∃G',Inv G' w' st' a'.tmps/\Fr G w G' w'/\a'.tmps.size=a.tmps.size/\a'.defers=a.defers:=by
    rintro w0 hf a' w' ⟨G',⟨s,hs,hI'⟩,h2,h3,h4⟩
    exact⟨G',vw_inv hs hI',hf.trans h2,h3,h4⟩
  cases d with
  | false=>
    exact wp_region (ops_ok hc hR hS _ G w a _ _ _ hrun ⟨st,rfl,hI⟩ hd fun a' w' h=>⟨rfl,conv (Fr.refl G w) a' w' h⟩)
  | true=>
    obtain⟨hdr,hpe⟩:=hok rfl
    unfold drawOk at hdr
    have hdeps:depsB ops=true:=by
      cases h:depsB ops with
      |true=>rfl
      |false=>rw[h]at hdr;cases hdr
    have hpairs:∀p∈accs.reverse,∀q∈accs.reverse,(!(decide (p.1<q.1))||((zS ops.toList []).getD q.1 []).contains p.1||!(clash p.2 q.2))=true:=by
      intro p hp q hq
      rw[hdeps,Bool.true_and]at hdr
      exact List.all_eq_true.mp (List.all_eq_true.mp hdr p hp) q hq
    have hw:({w with drawn:=w.drawn+1}:World).heap=w.heap:=rfl
    refine wp_region_any hc.mixed (any_ok hc hR hS hdeps ops.size (List.range ops.size) (Array.replicate ops.size false) G {w with drawn:=w.drawn+1} a st.vw st'.vw accs (by simp) (fun i=>?_) (fun i hi=>List.mem_range.mp hi) (by simp)
      List.pairwise_lt_range (fun j o d hj _ _=>?_) hrun (fun x Fx y Fy hx hy hxy=>?_) ⟨st,rfl,hI.world hw⟩ hd fun a' w' h=>⟨rfl,conv (Fr.world hw ⟨rfl,rfl,rfl⟩) a' w' h⟩)
    · rw[List.mem_range]
      by_cases h:i<ops.size<;>simp[Array.getD,h]
    · exfalso
      by_cases h:j<ops.size<;>simp[Array.getD,h]at hj
    · have:=hpairs (x,Fx) (by simpa using hx) (y,Fy) (by simpa using hy)
      simp only[hxy,decide_true,Bool.not_true,Bool.false_or,Bool.or_eq_true]at this
      rcases this with h|h
      ·exact .inl (by simpa using h)
      · by_cases hanc:x∈(zS ops.toList []).getD y []
        ·exact .inl hanc
        · have no:∀j,j∈(zS ops.toList []).getD x []->j<x:=fun j hj=>anc_lt hdeps hj
          have hord:ordB (zS ops.toList []) x y=false:=by
            unfold ordB
            have h2:y∉(zS ops.toList []).getD x []:=fun hm=>by have:=no y hm;omega
            rw[Bool.or_eq_false_iff,List.contains_eq_mem,List.contains_eq_mem]
            exact⟨decide_eq_false hanc,decide_eq_false h2⟩
          have hord':ordB (zS ops.toList []) y x=false:=by
            unfold ordB at hord⊢
            rw[Bool.or_comm];exact hord
          refine .inr (apart_of (by simpa using h) (fun q hq hw=>?_) (fun q hq hw=>?_))
          · have:=pend_same hpe (p:=(x,Fx)) (q:=(y,Fy)) (by simpa using hx) (by simpa using hy) hq hw
            rw[hord]at this
            exact this.resolve_left (by simp)
          · have:=pend_same hpe (p:=(y,Fy)) (q:=(x,Fx)) (by simpa using hy) (by simpa using hx) hq hw
            rw[hord']at this
            exact this.resolve_left (by simp)
theorem dst_ok{N:Nat}{r:Nat}{ops:Array Oper}{d:Bool}(h:dstB N (.region r ops d)=true){a:Act}(hN:N<=a.tmps.size):∀o∈ops,Dst o a:=by
 intro o ho k hk
 simp only[dstB]at h
 have:=List.all_eq_true.mp h o (by simpa using ho)
 rw[hk]at this
 have hlt:k<N:=by simpa[Nat.blt_eq]using this
 exact Nat.lt_of_lt_of_le hlt hN
def xV(P:Program)(f:FuncId)(G:Gh)(w:World)(y:AV)(hp:Hp)(m:Machine)(cs:List Frame):Prop:=
 ∃v G' w' fr,Steps P m (lone fr cs w')/\fr.fn=f/\fr.leaving P w' (.returned v)/\Fr G w G' w'/\HpI G' w' hp/\ResR G' w' y v
theorem xV.of{P:Program}{f:FuncId}{G G1:Gh}{w w1:World}{y:AV}{hp:Hp}{m m1:Machine}{cs:List Frame}(hs:Steps P m m1)(hf:Fr G w G1 w1)(h:xV P f G1 w1 y hp m1 cs):xV P f G w y hp m cs:=by
 obtain⟨v,G',w',fr,h1,h2,h3,h4,h5,h6⟩:=h
 exact⟨v,G',w',fr,hs.trans h1,h2,h3,hf.trans h4,h5,h6⟩
theorem go_ok(hc:Ok c)(hR:xh c R)(hS:Bodies c R){f:FuncId}{fn:Func}(hF:c.F f=some fn){N:Nat}:∀(n:Nat) (its:List It) (st:St) (y:AV) (hp:Hp),goC c R f n its st=some (y,hp)->(∀it∈its,ItOk N it)->
    ∀(G:Gh) (w:World) (a:Act),Inv G w st a.tmps->N<=a.tmps.size->a.defers=[]->∀(b:Frame) (cs:List Frame),b.fn=f->b.kind= .normal->xV c.P f G w y hp (lone (b.at a (its.map jY)) cs w) cs:=by
  intro n
  induction n using Nat.strongRecOn with
  |_ n ih=>
  intro its st y hp hgo hits G w a hI hN hdef b cs hb hk
  cases n with
  |zero=>simp[goC]at hgo
  |succ n=>
  have hP:=hc.F f fn hF
  have ends:∀(todo:List Item),fin c f st=some (y,hp)->Steps c.P (lone (b.at a (its.map jY)) cs w) (lone {b.at a todo with mode:=.returning} cs w)->xV c.P f G w y hp (lone (b.at a (its.map jY)) cs w) cs:=by
    intro todo hfin hs
    obtain⟨v,G',h1,h2,h3,h4⟩:=fin_ok hc hF hI hfin
    exact⟨v,G',w,_,hs,hb,⟨rfl,hdef,hk,fn,by rw[<-hP];exact congrArg _ hb,h1⟩,h2,h3,h4⟩
  have on:∀(its':List It),goC c R f n its' st=some (y,hp)->(∀it∈its',ItOk N it)->step c.P (lone (b.at a (its.map jY)) cs w)= .next (lone (b.at a (its'.map jY)) cs w)->xV c.P f G w y hp (lone (b.at a (its.map jY)) cs w) cs:=by
    intro its' hgo' hits' hs
    exact xV.of (.one hs) (Fr.refl G w) (ih n (Nat.lt_succ_self n) its' st y hp hgo' hits' G w a hI hN hdef b cs hb hk)
  simp only[goC]at hgo
  match its,hgo,hits,ends,on with
  |[],hgo,hits,ends,on=>exact ends _ hgo (.one step_end)
  | .inBlock id::k,hgo,hits,ends,on=>exact on _ hgo (fun it hi=>hits it (by simp[hi])) step_inBlock
  | .inScope body::k,hgo,hits,ends,on=>exact on _ hgo (fun it hi=>hits it (by simp[hi])) step_inScope
  | .inLoop body::k,hgo,hits,ends,on=>
    exact on (.code body::.inLoop body::k) hgo (fun it hi=>by
      simp only[List.mem_cons]at hi
      rcases hi with rfl|rfl|hi
      ·exact hits (.inLoop body) (by simp)
      ·exact hits (.inLoop body) (by simp)
      ·exact hits it (by simp[hi])) step_inLoop
  | .code .skip::k,hgo,hits,ends,on=>exact on _ hgo (fun it hi=>hits it (by simp[hi])) step_skip
  | .code (.label l)::k,hgo,hits,ends,on=>exact on _ hgo (fun it hi=>hits it (by simp[hi])) step_label
  | .code .ret::k,hgo,hits,ends,on=>exact ends _ hgo (.one step_ret)
  | .code (.seq x z)::k,hgo,hits,ends,on=>
    have h:=hits (.code (.seq x z)) (by simp)
    simp only[ItOk,dstB,Bool.and_eq_true]at h
    exact on (.code x::.code z::k) hgo (fun it hi=>by
      simp only[List.mem_cons]at hi
      rcases hi with rfl|rfl|hi
      ·exact h.1
      ·exact h.2
      ·exact hits it (by simp[hi])) step_seq
  | .code (.block id x)::k,hgo,hits,ends,on=>
    exact on (.code x::.inBlock id::k) hgo (fun it hi=>by
      simp only[List.mem_cons]at hi
      rcases hi with rfl|rfl|hi
      ·exact hits (.code (.block id x)) (by simp)
      ·trivial
      ·exact hits it (by simp[hi])) step_block
  | .code (.loop x)::k,hgo,hits,ends,on=>
    have hgo:goC c R f n (.inLoop x::k) st=some (y,hp):=hgo
    cases n with
    |zero=>simp[goC]at hgo
    | succ n=>
      simp only[goC,je]at hgo
      have hits':∀it∈ .code x::.inLoop x::k,ItOk N it:=fun it hi=>by
        simp only[List.mem_cons]at hi
        rcases hi with rfl|rfl|hi
        ·exact hits (.code (.loop x)) (by simp)
        ·exact hits (.code (.loop x)) (by simp)
        ·exact hits it (by simp[hi])
      exact xV.of (.one step_loop) (Fr.refl G w) (ih n (by omega) _ st y hp hgo hits' G w a hI hN hdef b cs hb hk)
  | .code (.exit id)::k,hgo,hits,ends,on=>
    simp only[je]at hgo
    obtain⟨k',hk',hgo⟩:=bsm hgo
    obtain⟨h1,h2⟩:=yw (N:=N) hk' (fun it hi=>hits it (by simp[hi]))
    exact on _ hgo h2 (step_exit h1)
  | .code (.cond x p q)::k,hgo,hits,ends,on=>
    simp only[je]at hgo
    obtain⟨u,hu,hgo⟩:=bsm hgo
    obtain⟨t,ht,hgo⟩:=bsm hgo
    have hx:=(jr hI (jd hu)).1
    rw[asB_some ht]at hx
    have h:=hits (.code (.cond x p q)) (by simp)
    simp only[ItOk,dstB,Bool.and_eq_true]at h
    have hs:=step_cond (P:=c.P) (b:=b) (k:=k.map jY) (cs:=cs) (w:=w) (x:=p) (y:=q) hx
    cases t with
    | true=>
      exact on (.code p::k) hgo (fun it hi=>by
        simp only[List.mem_cons]at hi
        rcases hi with rfl|hi
        ·exact h.1
        ·exact hits it (by simp[hi])) hs
    | false=>
      exact on (.code q::k) hgo (fun it hi=>by
        simp only[List.mem_cons]at hi
        rcases hi with rfl|hi
        ·exact h.2
        ·exact hits it (by simp[hi])) hs
  | .code (.region r ops d)::k,hgo,hits,ends,on=>
    simp only[je]at hgo
    obtain⟨n',st',accs,h1,h2,h3,h4⟩:=ops_v n _ d [] k _ _ hgo
    have hdst:=dst_ok (hits (.code (.region r ops d)) (by simp)) hN
    have hwp:=region_ok hc hR hS (d:=d) (hI.mask (c.M f r)) hdst h2 (fun e=>by simpa using h3 e)
    obtain⟨e,a',w',⟨he,G',i1,i2,i3,i4⟩,harr⟩:=hwp b (k.map jY) cs
    subst he
    exact xV.of harr i2 (ih n' (by omega) k st' y hp h4 (fun it hi=>hits it (by simp[hi])) G' w' a' i1 (by rw[i3];exact hN) (by rw[i4];exact hdef) b cs hb hk)
  | .ops r ops is d acc::k,hgo,hits,ends,on=>exact(show False from hits (.ops r ops is d acc) (by simp)).elim
  | .code (.rangeFunc _ _ _ _)::k,hgo,hits,ends,on=>simp[je]at hgo
  | .code (.scope x)::k,hgo,hits,ends,on=>
    exact on (.code x::.inScope x::k) hgo (fun it hi=>by
      simp only[List.mem_cons]at hi
      rcases hi with rfl|rfl|hi
      ·exact hits (.code (.scope x)) (by simp)
      ·trivial
      ·exact hits it (by simp[hi])) step_scope
  | .code (.goto _)::k,hgo,hits,ends,on=>simp[je]at hgo
  | .code (.refuse _)::k,hgo,hits,ends,on=>simp[je]at hgo
theorem init_ok(hc:Ok c):∀(i:Nat) (ts:List TypeId) (xs:List AV) (l:Slots),jW c i ts xs some=some l->
  ∀k,slot l k= .un\/∃x,xs[k-i]?=some x/\i<=k/\(slot l k= .av x\/∃v,x= .sc v/\slot l k= .sv v)
 |i,[],[],l,h,k=>by simp only[jW]at h;cases h;exact .inl rfl
 | i,[],x::xs,l,h,k=>by
  simp only[jW]at h
  rw[zG]at h
  obtain⟨l',h1,h2⟩:=bsm h
  cases h2
  rw[qQ]
  by_cases e:i=k
  ·subst e;rw[if_pos rfl];exact .inr ⟨x,by simp,Nat.le_refl _,.inl rfl⟩
  ·rw[if_neg e]
   rcases init_ok hc (i+1) [] xs l' h1 k with h|⟨x',h,h',h''⟩
   ·exact .inl h
   ·refine .inr ⟨x',?_,by omega,h''⟩
    rw[show k-i=(k-(i+1))+1 by omega];simpa using h
 |i,t::ts,[],l,h,k=>by simp[jW]at h
 | i,t::ts,x::xs,l,h,k=>by
  simp only[jW]at h
  have rest:∀(l':Slots) (s:SV),jW c (i+1) ts xs some=some l'->(s= .av x\/∃v,x= .sc v/\s= .sv v)->l=(i,s)::l'->
    slot l k= .un\/∃x',(x::xs)[k-i]?=some x'/\i<=k/\(slot l k= .av x'\/∃v,x'= .sc v/\slot l k= .sv v):=by
   rintro l' s h1 hs rfl
   rw[qQ]
   by_cases e:i=k
   ·subst e;rw[if_pos rfl];exact .inr ⟨x,by simp,Nat.le_refl _,hs⟩
   ·rw[if_neg e]
    rcases init_ok hc (i+1) ts xs l' h1 k with h|⟨x',h,h',h''⟩
    ·exact .inl h
    ·refine .inr ⟨x',?_,by omega,h''⟩
     rw[show k-i=(k-(i+1))+1 by omega];simpa using h
  split at h
  ·split at h
   ·obtain⟨v,hv,h⟩:=bsm h
    rw[zG]at h
    obtain⟨l',h1,h2⟩:=bsm h
    cases h2
    exact rest l' _ h1 (.inr ⟨v,jG hv,rfl⟩) rfl
   ·rw[zG]at h
    obtain⟨l',h1,h2⟩:=bsm h
    cases h2
    exact rest l' _ h1 (.inl rfl) rfl
  ·cases h
def DstOk(c:Cx):Prop:=∀f fn b,c.F f=some fn->fn.body=some b->dstB fn.ntmps b=true
theorem start_ok(hc:Ok c)(hD:DstOk c)(hR:xh c R)(hS:Bodies c R){f:FuncId}{xs:List AV}{hp hp':Hp}{y:AV}{n:Nat}(hr:ju c f xs hp (goC c R f n)=some (y,hp'))(G:Gh)(w:World)(vs:List Value)(hH:HpI G w hp)(hlen:xs.length=vs.length)
    (hargs:∀(i:Nat) (x:AV) (v:Value),xs[i]?=some x->vs[i]?=some v->ArgR G w x v):Calls c.P f vs.toArray w (Gives G w y hp'):=by
  unfold ju at hr
  cases hF:c.F f with
  |none=>rw[hF]at hr;cases hr
  | some fn =>
    rw[hF]at hr
    simp only at hr
    cases hb:fn.body with
    |none=>rw[hb]at hr;cases hr
    | some body=>
      rw[hb]at hr
      simp only at hr
      rw[zG]at hr
      obtain⟨l,hl,hr⟩:=bsm hr
      let a:Act:={tmps:=vs.toArray++Array.replicate (fn.ntmps-vs.toArray.size) undef,defers:=[]}
      have hget:∀k v,vs[k]?=some v->a.tmps.getD k undef=v:=by
        intro k v hk
        have hlt:k<vs.length:=(List.getElem?_eq_some_iff.mp hk).1
        simp only[a,Array.getD_eq_getD_getElem?]
        rw[Array.getElem?_append_left (by simpa using hlt),List.getElem?_toArray,hk];rfl
      have hI :Inv G w ⟨l,[],hp⟩ a.tmps:={
        slots :=fun k=>by
          show RelS G w k (slot l k) _
          rcases init_ok hc 0 _ _ _ hl k with h|⟨x,h1,h2,h3⟩
          ·rw[h];trivial
          · rw[Nat.sub_zero]at h1
            obtain⟨v,hv⟩:=qJ hlen h1
            have hrel:=hargs k x v h1 hv
            rw[hget k v hv]
            rcases h3 with h3|⟨u,rfl,h3⟩
            ·rw[h3];exact hrel _
            · rw[h3]
              have hr':RelR G w (.sc u) v:=hrel (fun _=>.fr)
              cases hr' with
              |sc _ h1=>exact⟨rfl,h1⟩
        boxes:=fun k g cs h=>by simp[getB]at h
        heap:=hH.heap
        next:=hH.next
        hlt:=hH.hlt
        new:=hH.new
        vars:=hH.vars
        lps:=fun j k g off h=>by
          have h':slot l j= .lp k g off:=h
          rcases init_ok hc 0 _ _ _ hl j with e|⟨x,h1,h2,e|⟨v,_,e⟩⟩<;>rw[e]at h'<;>cases h'}
      intro cs
      let b:Frame:={(default:Frame)with fn:=f,kind:=.normal}
      have hP:=hc.F f fn hF
      have henter:Frame.enter c.P f vs.toArray .normal=b.at a [.code body]:=by
        simp[Frame.enter,Frame.at,hP,hb,b,a]
      have:=go_ok hc hR hS hF (N:=fn.ntmps) n [.code body] ⟨l,[],hp⟩ y hp' hr (fun it hi=>by
        simp only[List.mem_singleton]at hi
        subst hi
        exact hD f fn body hF hb) G w a hI (by simp[a];omega) rfl b cs rfl rfl
      obtain⟨v,G',w',fr,h1,h2,h3,h4,h5,h6⟩:=this
      refine⟨.returned v,w',fr,⟨v,G',rfl,h4,h5,h6⟩,?_,h2,h3⟩
      rw[henter]
      exact h1
theorem runN_body:∀n,Bodies c (runN c n)
 |0,f,xs,hp,r,h=>by simp[runN]at h
 | n+1,f,xs,hp,r,h=>by
  simp only[runN,ju]at h
  cases hF:c.F f with
  |none=>rw[hF]at h;cases h
  |some fn=>
   rw[hF]at h
   simp only at h
   cases hb:fn.body with
   |none=>rw[hb]at h;cases h
   |some b=>exact⟨fn,b,rfl,hb⟩
theorem runN_sound(hc:Ok c)(hD:DstOk c):∀n,xh c (runN c n)
 |0=>fun f xs hp y hp' h=>by simp[runN]at h
 |n+1=>fun f xs hp y hp' h G w vs hH hl ha=>start_ok hc hD (runN_sound hc hD n) (runN_body n) h G w vs hH hl ha
theorem run_sound(hc:Ok c)(hD:DstOk c){f:FuncId}{xs:List AV}{hp hp':Hp}{y:AV}(h:run c f xs hp=some (y,hp')){G:Gh}{w:World}{vs:List Value}(hH:HpI G w hp)(hl:xs.length=vs.length)
  (ha:∀(i:Nat) (x:AV) (v:Value),xs[i]?=some x->vs[i]?=some v->ArgR G w x v):Calls c.P f vs.toArray w (Gives G w y hp'):=by
 obtain⟨n,hn⟩:=yr.mp h
 exact runN_sound hc hD n f xs hp y hp' hn G w vs hH hl ha
end
inductive Tr (α:Type) where
 |leaf
 |node (k:Nat) (v:α) (l r:Tr α)
def Tr.get{α:Type}:Tr α->Nat->Option α
 | .leaf,_=>none
 | .node k v l r,x=>match Nat.beq x k with
  |true=>some v
  |false=>match Nat.blt x k with
   |true=>l.get x
   |false=>r.get x
def Tr.all{α:Type}(p:Nat->α->Bool):Tr α->Bool
 | .leaf=>true
 | .node k v l r=>p k v&&l.all p&&r.all p
def Tr.AllP{α:Type}(p:Nat->α->Prop):Tr α->Prop
 | .leaf=>True
 | .node k v l r=>p k v/\l.AllP p/\r.AllP p
theorem Tr.get_all{α:Type}{p:Nat->α->Bool}:∀{t:Tr α} {x:Nat} {v:α},t.all p=true->t.get x=some v->p x v=true
 | .leaf,_,_,_,h=>by cases h
 | .node k v l r,x,u,h,hg=>by
  simp only[Tr.all,Bool.and_eq_true]at h
  simp only[Tr.get]at hg
  split at hg
  ·rename_i e
   cases hg
   rw[Nat.eq_of_beq_eq_true e];exact h.1.1
  ·split at hg
   ·exact Tr.get_all h.1.2 hg
   ·exact Tr.get_all h.2 hg
theorem Tr.get_allP{α:Type}{p:Nat->α->Prop}:∀{t:Tr α} {x:Nat} {v:α},t.AllP p->t.get x=some v->p x v
 | .leaf,_,_,_,h=>by cases h
 | .node k v l r,x,u,h,hg=>by
  simp only[Tr.AllP]at h
  simp only[Tr.get]at hg
  split at hg
  ·rename_i e
   cases hg
   rw[Nat.eq_of_beq_eq_true e];exact h.1
  ·split at hg
   ·exact Tr.get_allP h.2.1 hg
   ·exact Tr.get_allP h.2.2 hg
def zeqB:Value->Value->Bool
 | .bool a,.bool b=>a==b
 | .int k a,.int k' b=>decide (k=k')&&decide (a=b)
 | .float k a,.float k' b=>decide (k=k')&&Nat.beq a b
 | .string a,.string b=>decide (a.data.toList=b.data.toList)
 | .pointer none,.pointer none=>true
 | .slice none a b,.slice none a' b'=>Nat.beq a a'&&Nat.beq b b'
 | .map none,.map none=>true
 | .nilFunc,.nilFunc=>true
 | .nilIface,.nilIface=>true
 |_,_=>false
theorem zeqB_eq{a b:Value}(h:zeqB a b=true):a=b:=by
 unfold zeqB at h
 split at h
 ·rw[eq_of_beq h]
 ·simp only[Bool.and_eq_true,decide_eq_true_eq]at h;rw[h.1,h.2]
 ·simp only[Bool.and_eq_true,decide_eq_true_eq]at h;rw[h.1,Nat.eq_of_beq_eq_true h.2]
 ·rename_i a b
  obtain⟨⟨x⟩⟩:=a
  obtain⟨⟨y⟩⟩:=b
  have h:x=y:=of_decide_eq_true h
  rw[h]
 ·rfl
 ·simp only[Bool.and_eq_true]at h;rw[Nat.eq_of_beq_eq_true h.1,Nat.eq_of_beq_eq_true h.2]
 ·rfl
 ·rfl
 ·rfl
 ·cases h
def zsB:List Value->List Value->Bool
 |[],[]=>true
 |a::l,b::m=>zeqB a b&&zsB l m
 |_,_=>false
theorem zsB_eq:∀{l m:List Value},zsB l m=true->l=m
 |[],[],_=>rfl
 |a::l,b::m,h=>by
  simp only[zsB,Bool.and_eq_true]at h
  rw[zeqB_eq h.1,zsB_eq h.2]
 |[],b::m,h=>by cases h
 |a::l,[],h=>by cases h
def dB(d:TypeDesc)(k:TK):Bool:=
 match k with
 | .sc=>!(d matches .struct _| .array _ _| .slice _)
 | .ot=>!(d matches .struct _| .array _ _| .slice _)
 | .tu=>true
 | .sl e=>match d with| .slice e'=>Nat.beq e' e|_=>false
 | .mp q e=>match d with| .map q' e'=>Nat.beq q' q&&Nat.beq e' e|_=>false
 | .ar n e=>match d with| .array n' e'=>Nat.beq n' n&&Nat.beq e' e|_=>false
 | .st fs=>match d with| .struct fields=>decide (fields.toList.map (fun f=>(f.offset,f.type))=fs)|_=>false
theorem dB_ok{d:TypeDesc}{k:TK}(h:dB d k=true):DOk d k:=by
 cases k with
 |sc=>intro x hx;subst hx;cases d<;>first|rfl|cases h
 |ot=>intro x hx;subst hx;cases d<;>first|rfl|cases h
 |tu=>trivial
 |sl e=>
  simp only[dB]at h
  split at h
  ·show _=_;rw[Nat.eq_of_beq_eq_true h]
  ·cases h
 |mp q e=>
  simp only[dB]at h
  split at h
  ·simp only[Bool.and_eq_true]at h;show _=_;rw[Nat.eq_of_beq_eq_true h.1,Nat.eq_of_beq_eq_true h.2]
  ·cases h
 |ar n e=>
  simp only[dB]at h
  split at h
  ·simp only[Bool.and_eq_true]at h;show _=_;rw[Nat.eq_of_beq_eq_true h.1,Nat.eq_of_beq_eq_true h.2]
  ·cases h
 |st fs=>
  simp only[dB]at h
  split at h
  ·exact⟨_,rfl,of_decide_eq_true h⟩
  ·cases h
def isU8D:TypeDesc->Bool
 | .int .u8=>true
 |_=>false
def isStrD:TypeDesc->Bool
 | .string=>true
 |_=>false
def tokB(P:Program)(t:TypeId)(ti:TI):Bool:=
 match P.info? t,P.underlying t with
 |some info,some d=>(!isU8 ti||isU8D d)&&(!isStr ti||isStrD d)&&dB d ti.k&&Nat.beq info.bytes ti.bytes&&
  (isTu ti.k||(Nat.beq info.size ti.size&&Nat.beq ti.zero.length ti.size&&ti.zero.all (·.oneCell')&&match info.zero with|some z=>zsB z.cells.toList ti.zero|none=>false))
 |_,_=>false
theorem isU8D_eq{d:TypeDesc}(h:isU8D d=true):d= .int .u8:=by
 unfold isU8D at h;split at h
 ·rfl
 ·cases h
theorem isStrD_eq{d:TypeDesc}(h:isStrD d=true):d= .string:=by
 unfold isStrD at h;split at h
 ·rfl
 ·cases h
theorem tokB_ok{P:Program}{t:TypeId}{ti:TI}(h:tokB P t ti=true):TOk P t ti:=by
 unfold tokB at h
 split at h
 ·rename_i info d h1 h2
  simp only[Bool.and_eq_true,Bool.or_eq_true]at h
  obtain⟨⟨⟨⟨a1,a2⟩,a3⟩,a4⟩,a5⟩:=h
  refine⟨fun e=>?_,fun e=>?_,info,d,h1,h2,dB_ok a3,Nat.eq_of_beq_eq_true a4,fun e=>?_⟩
  ·rcases a1 with h|h
   ·rw[e]at h;cases h
   ·rw[h2,isU8D_eq h]
  ·rcases a2 with h|h
   ·rw[e]at h;cases h
   ·rw[h2,isStrD_eq h]
  ·rcases a5 with h|⟨⟨⟨b1,b2⟩,b3⟩,b4⟩
   ·rw[e]at h;cases h
   ·refine⟨Nat.eq_of_beq_eq_true b1,?_⟩
    split at b4
    ·rename_i z hz
     exact⟨z,hz,zsB_eq b4,Nat.eq_of_beq_eq_true b2,fun v hv=>List.all_eq_true.mp b3 v hv⟩
    ·cases b4
 ·cases h
def isIntD:TypeDesc->Bool
 | .int _=>true
 |_=>false
def isBooD:TypeDesc->Bool
 | .bool=>true
 |_=>false
def isAggV:Value->Bool
 | .agg _=>true
 |_=>false
def isPtD:TypeDesc->Bool
 | .pointer _=>true
 |_=>false
def tok2B(P:Program)(t:TypeId)(ti:TI):Bool:=
 match P.info? t,P.underlying t with
 |some info,some d=>(!isInt ti||isIntD d)&&(!isBoo ti||isBooD d)&&(!isPt ti||isPtD d)&&(isTu ti.k||match info.zero with|some z=>cond (isAg ti.k) (isAggV z) z.oneCell'|none=>true)
 |_,_=>false
theorem tok2_int{P:Program}{t:TypeId}{ti:TI}(h:tok2B P t ti=true)(hi:isInt ti=true):∃k,P.underlying t=some (.int k):=by
 unfold tok2B at h
 split at h
 ·rename_i info d h1 h2
  simp only[Bool.and_eq_true,Bool.or_eq_true,hi,Bool.not_true,Bool.false_eq_true,false_or]at h
  have:=h.1.1.1
  cases d<;>first|exact⟨_,h2⟩|cases this
 ·cases h
theorem tok2_boo{P:Program}{t:TypeId}{ti:TI}(h:tok2B P t ti=true)(hi:isBoo ti=true):P.underlying t=some .bool:=by
 unfold tok2B at h
 split at h
 ·rename_i info d h1 h2
  simp only[Bool.and_eq_true,Bool.or_eq_true,hi,Bool.not_true,Bool.false_eq_true,false_or]at h
  have:=h.1.1.2
  cases d<;>first|exact h2|cases this
 ·cases h
theorem tok2_ptr{P:Program}{t:TypeId}{ti:TI}(h:tok2B P t ti=true)(hi:isPt ti=true):∃e,P.underlying t=some (.pointer e):=by
 unfold tok2B at h
 split at h
 ·rename_i info d h1 h2
  simp only[Bool.and_eq_true,Bool.or_eq_true,hi,Bool.not_true,Bool.false_eq_true,false_or]at h
  have:=h.1.2
  cases d<;>first|exact⟨_,h2⟩|cases this
 ·cases h
theorem tok2_zero{P:Program}{t:TypeId}{ti:TI}(h:tok2B P t ti=true)(hk:isTu ti.k=false){info:TypeInfo}{z:Value}(hi:P.info? t=some info)(hz:info.zero=some z):
  (isAg ti.k=true->∃vs,z= .agg vs)/\(isAg ti.k=false->z.oneCell'=true):=by
 unfold tok2B at h
 split at h
 ·rename_i info' d h1 h2
  rw[hi]at h1;cases h1
  simp only[Bool.and_eq_true,hk,Bool.false_or,hz]at h
  have:=h.2
  constructor
  ·intro e
   rw[e]at this
   cases z<;>first|exact⟨_,rfl⟩|cases this
  ·intro e
   rw[e]at this
   exact this
 ·cases h
def fnB(fn:Func):Bool:=!(fn.name== "runtime.NumGoroutine")&&match fn.body with|some b=>dstB fn.ntmps b|none=>true
def FnP(P:Program)(f:Nat)(fn:Func):Prop:=P.funcs[f]?=some fn/\fnB fn=true
def lkH:List (Nat×Nat×Nat)->Nat->Nat->Nat
 |[],_,_=>0
 |(a,b,h)::l,r,i=>match Nat.beq a r&&Nat.beq b i with|true=>h|false=>lkH l r i
def lkM:List (Nat×List Nat)->Nat->Option (List Nat)
 |[],_=>none
 |(a,m)::l,r=>match Nat.beq a r with|true=>some m|false=>lkM l r
def extX(P:Program)(f:FuncId)(vs:List Value):Option Value:=
 (qH P (callFunc f vs.toArray)).bind fun n=>match n with
  | .value v=>some v
  |_=>none
def mkCx(P:Program)(T:Tr TI)(F:Tr Func)(H:Tr (List (Nat×Nat×Nat)))(M:Tr (List (Nat×List Nat))):Cx:=
 ⟨P,T.get,F.get,extX P,fun f=>match H.get f with|some l=>lkH l|none=>fun _ _=>0,fun f=>match M.get f with|some l=>lkM l|none=>fun _=>none⟩
theorem mkOk{P:Program}{T:Tr TI}{F:Tr Func}{H:Tr (List (Nat×Nat×Nat))}{M:Tr (List (Nat×List Nat))}(hT:T.all (tokB P)=true)(hT2:T.all (tok2B P)=true)(hF:F.AllP (FnP P))(hm:P.follows .mixedOrders=true):
  Ok (mkCx P T F H M)/\DstOk (mkCx P T F H M):=by
 refine⟨⟨fun t ti h=>tokB_ok (Tr.get_all hT h),fun t ti h=>tok2_int (Tr.get_all hT2 h),fun t ti h=>tok2_boo (Tr.get_all hT2 h),fun t ti h=>tok2_ptr (Tr.get_all hT2 h),fun t ti h hk info z hi hz=>tok2_zero (Tr.get_all hT2 h) hk hi hz,fun f fn h=>(Tr.get_allP hF h).1,fun f fn h=>?_,fun f fn vs v h hb hX w=>?_,hm⟩,fun f fn b h hb=>?_⟩
 ·have:=(Tr.get_allP hF h).2
  simp only[fnB,Bool.and_eq_true,Bool.not_eq_true']at this
  exact this.1
 ·have hX:extX P f vs=some v:=hX
  unfold extX at hX
  obtain⟨n,hn,hX⟩:=bsm hX
  have hr:=jk hn w
  split at hX
  ·cases hX;exact hr
  ·cases hX
 ·have:=(Tr.get_allP hF h).2
  simp only[fnB,Bool.and_eq_true,hb]at this
  exact this.2
noncomputable def tyT:Tr TI:=(.node 92 ⟨.tu,2,0,[]⟩ (.node 45 ⟨(.st [(0,3),(1,3),(2,22)]),3,40,[.int .i64 0,.int .i64 0,.slice none 0 0]⟩ (.node 30 ⟨.sc,1,4,[.int .u32 0]⟩ (.node 22 ⟨(.sl 30),1,24,[.slice none 0 0]⟩ (.node 4 ⟨.sc,1,1,[.bool false]⟩ (.node 2 ⟨.sc,1,8,[.int .i64 0]⟩ (.node 0 ⟨.tu,0,0,[]⟩ .leaf .leaf) (.node 3 ⟨.sc,1,8,[.int .i64 0]⟩ .leaf .leaf)) (.node 9 ⟨.sc,1,16,[.string ⟨#[]⟩]⟩ (.node 5 ⟨.sc,1,1,[.int .u8 0]⟩ .leaf .leaf) .leaf)) (.node 26 ⟨(.sl 5),1,24,[.slice none 0 0]⟩ (.node 25 ⟨.ot,1,8,[.pointer none]⟩ (.node 24 ⟨(.sl 3),1,24,[.slice none 0 0]⟩ .leaf .leaf) .leaf) (.node 28 ⟨(.st [(0,26)]),1,24,[.slice none 0 0]⟩ (.node 27 ⟨(.st [(0,26)]),1,24,[.slice none 0 0]⟩ .leaf .leaf) .leaf))) (.node 39 ⟨.sc,1,1,[.int .u8 0]⟩ (.node 36 ⟨(.sl 136),1,24,[.slice none 0 0]⟩ (.node 35 ⟨(.sl 76),1,24,[.slice none 0 0]⟩ (.node 34 ⟨.sc,1,2,[.int .u16 0]⟩ .leaf .leaf) .leaf) (.node 38 ⟨(.st [(0,5),(1,5),(2,5),(3,34),(4,4),(5,35),(6,36)]),7,56,[.int .u8 0,.int .u8 0,.int .u8 0,.int .u16 0,.bool false,.slice none 0 0,.slice none 0 0]⟩ (.node 37 ⟨(.st [(0,5),(1,5),(2,5),(3,34),(4,4),(5,35),(6,36)]),7,56,[.int .u8 0,.int .u8 0,.int .u8 0,.int .u16 0,.bool false,.slice none 0 0,.slice none 0 0]⟩ .leaf .leaf) .leaf)) (.node 42 ⟨(.st [(0,3),(1,35)]),2,32,[.int .i64 0,.slice none 0 0]⟩ (.node 41 ⟨(.st [(0,3),(1,35)]),2,32,[.int .i64 0,.slice none 0 0]⟩ (.node 40 ⟨(.sl 30),1,24,[.slice none 0 0]⟩ .leaf .leaf) .leaf) (.node 44 ⟨(.st [(0,3),(1,26)]),2,32,[.int .i64 0,.slice none 0 0]⟩ (.node 43 ⟨(.st [(0,3),(1,26)]),2,32,[.int .i64 0,.slice none 0 0]⟩ .leaf .leaf) .leaf)))) (.node 58 ⟨.tu,2,0,[]⟩ (.node 51 ⟨(.sl 50),1,24,[.slice none 0 0]⟩ (.node 48 ⟨(.st [(0,3),(1,3),(2,22)]),3,40,[.int .i64 0,.int .i64 0,.slice none 0 0]⟩ (.node 47 ⟨(.st [(0,3),(1,3),(2,22)]),3,40,[.int .i64 0,.int .i64 0,.slice none 0 0]⟩ (.node 46 ⟨(.st [(0,3),(1,3),(2,22)]),3,40,[.int .i64 0,.int .i64 0,.slice none 0 0]⟩ .leaf .leaf) .leaf) (.node 50 ⟨.sc,1,8,[.float .f64 0]⟩ (.node 49 ⟨(.ar 6 30),6,24,[.int .u32 0,.int .u32 0,.int .u32 0,.int .u32 0,.int .u32 0,.int .u32 0]⟩ .leaf .leaf) .leaf)) (.node 54 ⟨(.st [(0,39),(1,40),(2,42),(4,44),(6,46),(9,48),(12,53)]),23,256,[.int .u8 0,.slice none 0 0,.int .i64 0,.slice none 0 0,.int .i64 0,.slice none 0 0,.int .i64 0,.int .i64 0,.slice none 0 0,.int .i64 0,.int .i64 0,.slice none 0 0,.int .i64 0,.int .u32 0,.int .u32 0,.int .u32 0,.int .u32 0,.int .u32 0,.int .u32 0,.int .u32 0,.float .f64 0,.float .f64 0,.slice none 0 0]⟩ (.node 53 ⟨(.st [(0,3),(1,30),(2,49),(8,50),(9,50),(10,51)]),11,80,[.int .i64 0,.int .u32 0,.int .u32 0,.int .u32 0,.int .u32 0,.int .u32 0,.int .u32 0,.int .u32 0,.float .f64 0,.float .f64 0,.slice none 0 0]⟩ (.node 52 ⟨(.st [(0,3),(1,30),(2,49),(8,50),(9,50),(10,51)]),11,80,[.int .i64 0,.int .u32 0,.int .u32 0,.int .u32 0,.int .u32 0,.int .u32 0,.int .u32 0,.int .u32 0,.float .f64 0,.float .f64 0,.slice none 0 0]⟩ .leaf .leaf) .leaf) (.node 57 ⟨.sc,1,8,[.int .i64 0]⟩ (.node 55 ⟨(.st [(0,39),(1,40),(2,42),(4,44),(6,46),(9,48),(12,53)]),23,256,[.int .u8 0,.slice none 0 0,.int .i64 0,.slice none 0 0,.int .i64 0,.slice none 0 0,.int .i64 0,.int .i64 0,.slice none 0 0,.int .i64 0,.int .i64 0,.slice none 0 0,.int .i64 0,.int .u32 0,.int .u32 0,.int .u32 0,.int .u32 0,.int .u32 0,.int .u32 0,.int .u32 0,.float .f64 0,.float .f64 0,.slice none 0 0]⟩ .leaf .leaf) .leaf))) (.node 80 ⟨.tu,2,0,[]⟩ (.node 73 ⟨(.sl 26),1,24,[.slice none 0 0]⟩ (.node 68 ⟨.ot,1,8,[.pointer none]⟩ (.node 62 ⟨.tu,2,0,[]⟩ .leaf .leaf) .leaf) (.node 79 ⟨.ot,1,8,[.nilFunc]⟩ (.node 76 ⟨.sc,1,8,[.int .u64 0]⟩ .leaf .leaf) .leaf)) (.node 87 ⟨(.st [(0,76),(1,30)]),2,16,[.int .u64 0,.int .u32 0]⟩ (.node 86 ⟨(.st [(0,76),(1,30)]),2,16,[.int .u64 0,.int .u32 0]⟩ (.node 85 ⟨(.sl 87),1,24,[.slice none 0 0]⟩ .leaf .leaf) .leaf) (.node 91 ⟨(.sl 141),1,24,[.slice none 0 0]⟩ (.node 90 ⟨(.sl 141),1,24,[.slice none 0 0]⟩ .leaf .leaf) .leaf))))) (.node 166 ⟨(.st [(0,164),(1,3),(2,3),(3,3),(4,76),(5,4)]),6,48,[.pointer none,.int .i64 0,.int .i64 0,.int .i64 0,.int .u64 0,.bool false]⟩ (.node 140 ⟨(.st [(0,30),(1,139)]),5,40,[.int .u32 0,.int .u64 0,.int .u64 0,.int .u64 0,.int .u64 0]⟩ (.node 129 ⟨.tu,2,0,[]⟩ (.node 105 ⟨.ot,1,8,[.pointer none]⟩ (.node 100 ⟨(.st [(0,3),(1,30),(2,3),(3,26),(4,26)]),5,72,[.int .i64 0,.int .u32 0,.int .i64 0,.slice none 0 0,.slice none 0 0]⟩ (.node 99 ⟨(.st [(0,3),(1,30),(2,3),(3,26),(4,26)]),5,72,[.int .i64 0,.int .u32 0,.int .i64 0,.slice none 0 0,.slice none 0 0]⟩ .leaf .leaf) (.node 101 ⟨.tu,2,0,[]⟩ .leaf .leaf)) (.node 122 ⟨(.st [(0,3),(1,3)]),2,16,[.int .i64 0,.int .i64 0]⟩ (.node 121 ⟨(.st [(0,3),(1,3)]),2,16,[.int .i64 0,.int .i64 0]⟩ .leaf .leaf) .leaf)) (.node 135 ⟨(.st [(0,76),(1,5)]),2,16,[.int .u64 0,.int .u8 0]⟩ (.node 133 ⟨.tu,2,0,[]⟩ (.node 131 ⟨.tu,2,0,[]⟩ .leaf .leaf) .leaf) (.node 139 ⟨(.ar 4 76),4,32,[.int .u64 0,.int .u64 0,.int .u64 0,.int .u64 0]⟩ (.node 136 ⟨(.st [(0,76),(1,5)]),2,16,[.int .u64 0,.int .u8 0]⟩ .leaf .leaf) .leaf))) (.node 155 ⟨(.st [(0,26),(1,3),(2,57)]),3,40,[.slice none 0 0,.int .i64 0,.int .i64 0]⟩ (.node 145 ⟨(.st [(0,26),(1,3)]),2,32,[.slice none 0 0,.int .i64 0]⟩ (.node 144 ⟨.ot,1,8,[.pointer none]⟩ (.node 141 ⟨(.st [(0,30),(1,139)]),5,40,[.int .u32 0,.int .u64 0,.int .u64 0,.int .u64 0,.int .u64 0]⟩ .leaf .leaf) .leaf) (.node 150 ⟨.ot,1,8,[.pointer none]⟩ (.node 146 ⟨(.st [(0,26),(1,3)]),2,32,[.slice none 0 0,.int .i64 0]⟩ .leaf .leaf) .leaf)) (.node 162 ⟨.tu,2,0,[]⟩ (.node 160 ⟨.ot,1,8,[.pointer none]⟩ (.node 156 ⟨(.st [(0,26),(1,3),(2,57)]),3,40,[.slice none 0 0,.int .i64 0,.int .i64 0]⟩ .leaf .leaf) .leaf) (.node 165 ⟨(.st [(0,164),(1,3),(2,3),(3,3),(4,76),(5,4)]),6,48,[.pointer none,.int .i64 0,.int .i64 0,.int .i64 0,.int .u64 0,.bool false]⟩ (.node 164 ⟨.ot,1,8,[.pointer none]⟩ .leaf .leaf) .leaf)))) (.node 215 ⟨(.st [(0,100),(5,164),(6,164),(7,3),(8,30)]),9,104,[.int .i64 0,.int .u32 0,.int .i64 0,.slice none 0 0,.slice none 0 0,.pointer none,.pointer none,.int .i64 0,.int .u32 0]⟩ (.node 200 ⟨.tu,2,0,[]⟩ (.node 187 ⟨.tu,2,0,[]⟩ (.node 172 ⟨.tu,2,0,[]⟩ (.node 170 ⟨.ot,1,8,[.pointer none]⟩ .leaf .leaf) .leaf) (.node 198 ⟨.sc,1,1,[.int .u8 0]⟩ (.node 197 ⟨.ot,1,8,[.pointer none]⟩ .leaf .leaf) .leaf)) (.node 205 ⟨(.st [(0,202),(1,76),(2,30),(3,3),(4,5),(5,4),(6,26),(7,3)]),8,72,[.pointer none,.int .u64 0,.int .u32 0,.int .i64 0,.int .u8 0,.bool false,.slice none 0 0,.int .i64 0]⟩ (.node 204 ⟨(.st [(0,202),(1,76),(2,30),(3,3),(4,5),(5,4),(6,26),(7,3)]),8,72,[.pointer none,.int .u64 0,.int .u32 0,.int .i64 0,.int .u8 0,.bool false,.slice none 0 0,.int .i64 0]⟩ (.node 202 ⟨.ot,1,8,[.pointer none]⟩ .leaf .leaf) .leaf) (.node 213 ⟨.ot,1,8,[.pointer none]⟩ (.node 206 ⟨.tu,2,0,[]⟩ .leaf .leaf) .leaf))) (.node 234 ⟨(.st [(0,24),(1,3)]),2,32,[.slice none 0 0,.int .i64 0]⟩ (.node 223 ⟨(.st [(0,24)]),1,24,[.slice none 0 0]⟩ (.node 217 ⟨.tu,2,0,[]⟩ (.node 216 ⟨(.st [(0,100),(5,164),(6,164),(7,3),(8,30)]),9,104,[.int .i64 0,.int .u32 0,.int .i64 0,.slice none 0 0,.slice none 0 0,.pointer none,.pointer none,.int .i64 0,.int .u32 0]⟩ .leaf .leaf) .leaf) (.node 232 ⟨.sc,1,1,[.int .u8 0]⟩ (.node 224 ⟨(.st [(0,24)]),1,24,[.slice none 0 0]⟩ .leaf .leaf) .leaf)) (.node 237 ⟨(.st [(0,26),(1,3),(2,4)]),3,40,[.slice none 0 0,.int .i64 0,.bool false]⟩ (.node 236 ⟨(.st [(0,26),(1,3),(2,4)]),3,40,[.slice none 0 0,.int .i64 0,.bool false]⟩ (.node 235 ⟨(.st [(0,24),(1,3)]),2,32,[.slice none 0 0,.int .i64 0]⟩ .leaf .leaf) .leaf) (.node 240 ⟨(.st [(0,202),(1,105),(2,30),(3,30)]),4,24,[.pointer none,.pointer none,.int .u32 0,.int .u32 0]⟩ (.node 239 ⟨(.st [(0,202),(1,105),(2,30),(3,30)]),4,24,[.pointer none,.pointer none,.int .u32 0,.int .u32 0]⟩ .leaf .leaf) .leaf))))))
noncomputable def fnT:Tr Func:=(.node 95 Tryz.f95 (.node 49 Tryz.f49 (.node 27 Tryz.f27 (.node 15 Tryz.f15 (.node 8 Tryz.f8 (.node 5 Tryz.f5 (.node 4 Tryz.f4 (.node 3 Tryz.f3 .leaf .leaf) .leaf) (.node 7 Tryz.f7 (.node 6 Tryz.f6 .leaf .leaf) .leaf)) (.node 12 Tryz.f12 (.node 11 Tryz.f11 (.node 10 Tryz.f10 .leaf .leaf) .leaf) (.node 14 Tryz.f14 (.node 13 Tryz.f13 .leaf .leaf) .leaf))) (.node 21 Tryz.f21 (.node 18 Tryz.f18 (.node 17 Tryz.f17 (.node 16 Tryz.f16 .leaf .leaf) .leaf) (.node 20 Tryz.f20 (.node 19 Tryz.f19 .leaf .leaf) .leaf)) (.node 25 Tryz.f25 (.node 23 Tryz.f23 (.node 22 Tryz.f22 .leaf .leaf) .leaf) (.node 26 Tryz.f26 .leaf .leaf)))) (.node 38 Tryz.f38 (.node 33 Tryz.f33 (.node 30 Tryz.f30 (.node 29 Tryz.f29 (.node 28 Tryz.f28 .leaf .leaf) .leaf) (.node 32 Tryz.f32 (.node 31 Tryz.f31 .leaf .leaf) .leaf)) (.node 36 Tryz.f36 (.node 35 Tryz.f35 (.node 34 Tryz.f34 .leaf .leaf) .leaf) (.node 37 Tryz.f37 .leaf .leaf))) (.node 44 Tryz.f44 (.node 41 Tryz.f41 (.node 40 Tryz.f40 (.node 39 Tryz.f39 .leaf .leaf) .leaf) (.node 43 Tryz.f43 (.node 42 Tryz.f42 .leaf .leaf) .leaf)) (.node 47 Tryz.f47 (.node 46 Tryz.f46 (.node 45 Tryz.f45 .leaf .leaf) .leaf) (.node 48 Tryz.f48 .leaf .leaf))))) (.node 73 Tryz.f73 (.node 61 Tryz.f61 (.node 55 Tryz.f55 (.node 52 Tryz.f52 (.node 51 Tryz.f51 (.node 50 Tryz.f50 .leaf .leaf) .leaf) (.node 54 Tryz.f54 (.node 53 Tryz.f53 .leaf .leaf) .leaf)) (.node 58 Tryz.f58 (.node 57 Tryz.f57 (.node 56 Tryz.f56 .leaf .leaf) .leaf) (.node 60 Tryz.f60 (.node 59 Tryz.f59 .leaf .leaf) .leaf))) (.node 67 Tryz.f67 (.node 64 Tryz.f64 (.node 63 Tryz.f63 (.node 62 Tryz.f62 .leaf .leaf) .leaf) (.node 66 Tryz.f66 (.node 65 Tryz.f65 .leaf .leaf) .leaf)) (.node 71 Tryz.f71 (.node 70 Tryz.f70 (.node 69 Tryz.f69 .leaf .leaf) .leaf) (.node 72 Tryz.f72 .leaf .leaf)))) (.node 84 Tryz.f84 (.node 79 Tryz.f79 (.node 76 Tryz.f76 (.node 75 Tryz.f75 (.node 74 Tryz.f74 .leaf .leaf) .leaf) (.node 78 Tryz.f78 (.node 77 Tryz.f77 .leaf .leaf) .leaf)) (.node 82 Tryz.f82 (.node 81 Tryz.f81 (.node 80 Tryz.f80 .leaf .leaf) .leaf) (.node 83 Tryz.f83 .leaf .leaf))) (.node 90 Tryz.f90 (.node 87 Tryz.f87 (.node 86 Tryz.f86 (.node 85 Tryz.f85 .leaf .leaf) .leaf) (.node 89 Tryz.f89 (.node 88 Tryz.f88 .leaf .leaf) .leaf)) (.node 93 Tryz.f93 (.node 92 Tryz.f92 (.node 91 Tryz.f91 .leaf .leaf) .leaf) (.node 94 Tryz.f94 .leaf .leaf)))))) (.node 140 Tryz.f140 (.node 118 Tryz.f118 (.node 107 Tryz.f107 (.node 101 Tryz.f101 (.node 98 Tryz.f98 (.node 97 Tryz.f97 (.node 96 Tryz.f96 .leaf .leaf) .leaf) (.node 100 Tryz.f100 (.node 99 Tryz.f99 .leaf .leaf) .leaf)) (.node 104 Tryz.f104 (.node 103 Tryz.f103 (.node 102 Tryz.f102 .leaf .leaf) .leaf) (.node 106 Tryz.f106 (.node 105 Tryz.f105 .leaf .leaf) .leaf))) (.node 113 Tryz.f113 (.node 110 Tryz.f110 (.node 109 Tryz.f109 (.node 108 Tryz.f108 .leaf .leaf) .leaf) (.node 112 Tryz.f112 (.node 111 Tryz.f111 .leaf .leaf) .leaf)) (.node 116 Tryz.f116 (.node 115 Tryz.f115 (.node 114 Tryz.f114 .leaf .leaf) .leaf) (.node 117 Tryz.f117 .leaf .leaf)))) (.node 129 Tryz.f129 (.node 124 Tryz.f124 (.node 121 Tryz.f121 (.node 120 Tryz.f120 (.node 119 Tryz.f119 .leaf .leaf) .leaf) (.node 123 Tryz.f123 (.node 122 Tryz.f122 .leaf .leaf) .leaf)) (.node 127 Tryz.f127 (.node 126 Tryz.f126 (.node 125 Tryz.f125 .leaf .leaf) .leaf) (.node 128 Tryz.f128 .leaf .leaf))) (.node 135 Tryz.f135 (.node 132 Tryz.f132 (.node 131 Tryz.f131 (.node 130 Tryz.f130 .leaf .leaf) .leaf) (.node 134 Tryz.f134 (.node 133 Tryz.f133 .leaf .leaf) .leaf)) (.node 138 Tryz.f138 (.node 137 Tryz.f137 (.node 136 Tryz.f136 .leaf .leaf) .leaf) (.node 139 Tryz.f139 .leaf .leaf))))) (.node 162 Tryz.f162 (.node 151 Tryz.f151 (.node 146 Tryz.f146 (.node 143 Tryz.f143 (.node 142 Tryz.f142 (.node 141 Tryz.f141 .leaf .leaf) .leaf) (.node 145 Tryz.f145 (.node 144 Tryz.f144 .leaf .leaf) .leaf)) (.node 149 Tryz.f149 (.node 148 Tryz.f148 (.node 147 Tryz.f147 .leaf .leaf) .leaf) (.node 150 Tryz.f150 .leaf .leaf))) (.node 157 Tryz.f157 (.node 154 Tryz.f154 (.node 153 Tryz.f153 (.node 152 Tryz.f152 .leaf .leaf) .leaf) (.node 156 Tryz.f156 (.node 155 Tryz.f155 .leaf .leaf) .leaf)) (.node 160 Tryz.f160 (.node 159 Tryz.f159 (.node 158 Tryz.f158 .leaf .leaf) .leaf) (.node 161 Tryz.f161 .leaf .leaf)))) (.node 173 Tryz.f173 (.node 168 Tryz.f168 (.node 165 Tryz.f165 (.node 164 Tryz.f164 (.node 163 Tryz.f163 .leaf .leaf) .leaf) (.node 167 Tryz.f167 (.node 166 Tryz.f166 .leaf .leaf) .leaf)) (.node 171 Tryz.f171 (.node 170 Tryz.f170 (.node 169 Tryz.f169 .leaf .leaf) .leaf) (.node 172 Tryz.f172 .leaf .leaf))) (.node 179 Tryz.f179 (.node 176 Tryz.f176 (.node 175 Tryz.f175 (.node 174 Tryz.f174 .leaf .leaf) .leaf) (.node 178 Tryz.f178 (.node 177 Tryz.f177 .leaf .leaf) .leaf)) (.node 182 Tryz.f182 (.node 181 Tryz.f181 (.node 180 Tryz.f180 .leaf .leaf) .leaf) (.node 183 Tryz.f183 .leaf .leaf)))))))
def hlT:Tr (List (Nat×Nat×Nat)):=(.node 81 [(2,4,2),(3,2,2),(5,5,2),(13,8,2),(15,5,2),(20,3,2),(26,11,2)] (.node 36 [(1,4,1)] (.node 23 [(15,2,2)] (.node 11 [(6,5,2)] (.node 7 [(7,2,2),(8,4,2),(15,3,2),(15,5,1),(15,6,1),(16,5,2)] (.node 4 [(12,1,1)] (.node 3 [(8,1,2),(8,3,2),(9,3,2),(16,6,2),(18,1,2),(18,4,2)] .leaf .leaf) (.node 5 [(7,3,2)] .leaf .leaf)) (.node 10 [(2,1,2)] (.node 8 [(9,2,2),(10,6,2),(10,10,2),(11,1,3),(17,0,2),(18,3,2),(19,4,2),(19,18,2)] .leaf .leaf) .leaf)) (.node 16 [(4,1,2),(8,2,2),(10,5,2),(12,2,2),(14,5,2),(16,2,2),(18,5,2),(19,5,2),(21,2,2),(23,5,2),(24,5,2),(25,7,2),(27,3,2),(28,1,2)] (.node 15 [(9,0,1),(14,0,1),(32,0,1),(35,0,1)] (.node 12 [(0,8,2)] .leaf .leaf) .leaf) (.node 20 [(1,3,2)] (.node 17 [(5,4,2),(8,1,2),(12,1,2),(14,1,2),(14,4,2),(16,1,2),(18,1,2),(18,4,2),(19,1,2),(21,1,2),(23,1,2),(24,1,2),(30,0,1)] .leaf .leaf) .leaf))) (.node 30 [(1,8,2),(5,5,2),(7,0,3)] (.node 27 [(9,0,1)] (.node 26 [(7,0,1)] (.node 25 [(2,4,2),(3,3,2)] .leaf .leaf) .leaf) (.node 29 [(7,0,1)] (.node 28 [(7,0,1)] .leaf .leaf) .leaf)) (.node 33 [(0,4,2),(4,2,2)] (.node 32 [(10,6,2),(11,5,2),(12,4,2),(12,7,2),(14,0,3)] (.node 31 [(7,0,1)] .leaf .leaf) .leaf) (.node 35 [(1,4,1)] (.node 34 [(5,1,2),(10,5,2),(11,3,2),(13,1,2),(14,4,2),(15,3,2),(16,2,2),(16,5,2),(17,2,2),(17,3,2),(18,1,2)] .leaf .leaf) .leaf)))) (.node 50 [(2,1,2),(3,1,2),(5,1,2),(6,0,1),(7,0,1)] (.node 44 [(9,0,1),(12,0,1)] (.node 40 [(2,4,2),(3,4,4),(7,3,4),(9,4,4),(10,4,4),(11,5,2),(16,5,2)] (.node 38 [(5,0,1),(8,1,2),(8,3,2),(15,5,2),(16,8,2),(19,1,2),(19,3,2),(20,0,1)] (.node 37 [(3,1,2),(7,3,2),(10,1,2)] .leaf .leaf) (.node 39 [(1,4,2),(2,4,2),(3,3,2),(4,5,2),(5,3,2)] .leaf .leaf)) (.node 43 [(3,1,2),(5,5,2),(7,1,2),(9,4,2),(10,1,2),(13,1,2),(14,0,1),(15,1,2),(17,0,1)] (.node 42 [(1,2,2)] .leaf .leaf) .leaf)) (.node 47 [(1,1,2),(3,1,2),(4,0,1),(5,5,2),(5,6,2),(5,9,1),(5,10,1),(7,2,2),(9,0,1)] (.node 46 [(1,1,2),(3,1,2),(5,0,1),(6,1,2),(8,2,2),(9,1,2),(10,1,2),(11,1,2),(13,0,1)] (.node 45 [(4,1,2),(6,1,2),(7,1,2),(12,1,2)] .leaf .leaf) .leaf) (.node 49 [(1,1,2),(1,4,2),(3,8,2),(4,2,2),(4,4,2),(5,1,2),(10,1,2),(12,0,1)] (.node 48 [(1,1,2),(2,1,2)] .leaf .leaf) .leaf))) (.node 61 [(15,0,1)] (.node 53 [(3,1,2)] (.node 52 [(1,1,2),(1,4,2),(5,2,2),(7,2,2),(7,3,2),(8,2,2),(8,3,2),(10,1,2),(12,1,2),(14,1,2),(16,1,1),(16,4,2),(18,0,1)] (.node 51 [(1,1,2),(1,4,2),(1,6,2),(3,1,2),(4,0,3),(11,1,2),(14,1,2),(16,1,2),(17,5,2),(19,0,3)] .leaf .leaf) .leaf) (.node 59 [(5,0,1),(6,0,1),(7,0,1),(8,0,1),(14,0,1),(16,0,1)] (.node 58 [(8,0,1),(9,0,1)] .leaf .leaf) .leaf)) (.node 72 [(1,7,2),(2,1,2),(6,7,2),(7,6,2),(7,10,2),(9,0,3)] (.node 71 [(7,0,1)] (.node 70 [(1,5,2),(4,6,2),(4,10,2),(5,0,3)] .leaf .leaf) .leaf) (.node 76 [(3,5,2)] (.node 73 [(6,6,2),(8,2,2),(11,2,2),(12,3,2),(12,6,2),(12,7,2),(13,3,2),(15,0,3)] .leaf .leaf) .leaf))))) (.node 131 [(10,1,1),(11,1,1),(12,0,1)] (.node 105 [(1,3,2),(1,6,2),(1,8,2)] (.node 94 [(1,1,2),(1,4,2),(2,1,2),(4,1,2),(6,1,2),(8,1,2),(14,1,2),(15,1,2),(16,1,2),(17,1,2),(19,0,1)] (.node 88 [(1,1,2),(1,3,2)] (.node 86 [(5,6,2),(7,9,2),(7,18,2)] (.node 85 [(2,1,2),(3,1,2)] .leaf .leaf) (.node 87 [(3,5,2),(3,6,3)] .leaf .leaf)) (.node 90 [(3,3,2),(7,0,2),(9,1,1)] (.node 89 [(3,5,2),(6,8,2),(11,1,2),(12,5,2)] .leaf .leaf) .leaf)) (.node 100 [(7,4,2)] (.node 99 [(1,1,2),(3,4,2),(4,8,2),(9,4,2)] (.node 98 [(1,1,2),(1,4,2),(1,7,2),(2,2,2),(2,4,2),(4,1,2),(5,1,2),(6,1,2),(7,2,2)] .leaf .leaf) .leaf) (.node 102 [(1,5,2),(2,1,2)] (.node 101 [(3,1,2),(4,2,2),(8,1,2),(10,0,1),(12,1,2),(13,1,2),(17,0,1)] .leaf .leaf) .leaf))) (.node 111 [(7,0,1),(10,0,1)] (.node 108 [(3,1,2)] (.node 107 [(1,1,2)] (.node 106 [(3,21,2),(4,19,2),(5,4,2),(5,10,2)] .leaf .leaf) .leaf) (.node 110 [(3,0,1),(5,0,1)] (.node 109 [(8,0,1),(10,0,1)] .leaf .leaf) .leaf)) (.node 124 [(4,1,1),(6,1,1),(8,1,1),(9,0,1)] (.node 113 [(13,0,1),(14,0,1),(17,0,1),(19,0,1)] (.node 112 [(1,1,2),(2,0,2),(8,2,2),(9,4,2),(9,7,2),(10,4,2),(13,2,2),(14,2,2),(15,0,3)] .leaf .leaf) .leaf) (.node 127 [(4,1,1),(6,1,1),(8,1,1),(9,0,1)] (.node 126 [(3,0,1),(7,0,1),(10,0,1)] .leaf .leaf) .leaf)))) (.node 156 [(4,0,2),(9,0,1),(10,12,2),(10,21,2),(12,4,2),(12,7,2),(13,7,2),(17,6,2),(17,8,2),(17,9,3),(19,2,2),(19,4,2),(19,5,3),(20,5,2),(20,7,2),(20,8,3)] (.node 145 [(1,1,2),(3,1,2),(3,4,2),(4,1,2),(6,1,2),(10,3,2)] (.node 140 [(3,4,1),(6,4,1)] (.node 137 [(1,1,2),(4,6,2)] (.node 132 [(7,0,1)] .leaf .leaf) (.node 138 [(1,5,2),(4,5,2),(6,0,2),(9,6,2)] .leaf .leaf)) (.node 144 [(1,1,2),(3,1,2),(4,1,2),(6,1,2),(7,3,2)] (.node 141 [(0,5,2),(1,5,2),(1,8,2),(7,1,2),(8,8,2),(9,9,2)] .leaf .leaf) .leaf)) (.node 150 [(4,3,2),(6,1,2)] (.node 149 [(2,1,2),(5,1,2),(6,1,2)] (.node 147 [(1,2,2)] .leaf .leaf) .leaf) (.node 154 [(1,7,2),(3,8,2),(4,11,2),(6,4,2),(8,5,2),(13,10,2),(14,4,2),(16,5,2)] (.node 153 [(1,1,2),(1,4,2),(1,6,2)] .leaf .leaf) .leaf))) (.node 163 [(5,4,2)] (.node 160 [(5,1,2),(9,5,2),(11,0,3)] (.node 159 [(5,0,1),(6,0,1)] (.node 158 [(6,0,1),(7,0,1),(8,0,1)] .leaf .leaf) .leaf) (.node 162 [(5,3,2),(6,0,1)] (.node 161 [(1,4,2),(5,6,2),(5,17,2),(6,0,3)] .leaf .leaf) .leaf)) (.node 166 [(1,3,2),(2,6,2),(2,9,2),(3,1,2),(7,6,2),(7,10,2),(8,0,1)] (.node 165 [(5,4,2)] (.node 164 [(5,2,2),(6,5,2),(8,0,1)] .leaf .leaf) .leaf) (.node 179 [(1,5,2),(4,6,2),(6,6,2)] (.node 178 [(4,3,2)] .leaf .leaf) .leaf))))))
def mlT:Tr (List (Nat×List Nat)):=(.node 95 [(1,[0,1])] (.node 51 [(7,[0,2,3,5,26,27]),(11,[0,2,3,5,6,26,27]),(14,[0,2,3,5,6,26,27]),(15,[0,2,3,6,8,26,27]),(16,[0,2,3,5,6,26,27]),(19,[2,3])] (.node 30 [(3,[6,7,23,24,25])] (.node 16 [(28,[5])] (.node 7 [(12,[1,2,7,10,12,13])] (.node 4 [(10,[1,7,8,9,10,30,31])] (.node 3 [(6,[1,24,25,26]),(11,[1,8,9,10,24,25,26,38,39,40]),(16,[1,8,9,10,12,13,24,25,26,38,39,40])] .leaf .leaf) (.node 6 [(4,[]),(5,[2,3,4]),(8,[3,4])] .leaf .leaf)) (.node 11 [(2,[0,1,6,9,10,11]),(6,[0,1,6,8,9,10,11])] (.node 8 [(4,[]),(5,[1,2,3,4,5]),(12,[1,11,72,73,74]),(16,[1,11,16,72,73,74]),(17,[1,11,16,17,72,73,74]),(20,[]),(21,[1,11,16,17,19,20,72,73,74]),(26,[]),(27,[1,11,72,73,74])] .leaf .leaf) (.node 15 [(7,[1,2,3,4,27,28,29]),(12,[1,2,3,4,6,27,28,29,42,43]),(16,[1,2,3,4,27,28,29]),(27,[1,2,3,8,93,94,95]),(32,[1,2,3,8,10,11,93,94,95]),(35,[2,3])] .leaf .leaf))) (.node 27 [(3,[2,6,7,15,16,17]),(7,[2,6,7,9,15,16,17])] (.node 25 [(0,[0,1])] (.node 17 [(24,[6,9,10])] .leaf .leaf) (.node 26 [(3,[1,6,9,10,11]),(7,[1,6,8,9,10,11])] .leaf .leaf)) (.node 29 [(3,[6,7,19,20,21])] (.node 28 [(3,[4,5,17,18,19])] .leaf .leaf) .leaf))) (.node 43 [(5,[0,3,4,5,6]),(7,[0,3,4,5,6]),(10,[0,3,4,5,6,7]),(11,[0,3,4,5,6,7]),(14,[0,3,4,5,6,7]),(15,[0,3])] (.node 34 [(7,[0,5,6,20,21])] (.node 32 [(5,[0,4,11,12,13]),(8,[]),(9,[0,4,6,11,12,13]),(11,[0,4,6,11,12,13]),(12,[0,4,6,11,12,13])] (.node 31 [(3,[4,5,17,18,19])] .leaf .leaf) (.node 33 [(2,[1,11,12,13])] .leaf .leaf)) (.node 38 [(11,[0,2,4,5,6,7,38,39,40]),(14,[2]),(15,[0,2,4,5,6,7,9,38,39,40])] (.node 37 [(2,[]),(3,[0,1]),(5,[6,17,18,19])] .leaf .leaf) (.node 40 [(5,[0,3,4,23,24]),(14,[0,7,49,50,51])] .leaf .leaf))) (.node 47 [(8,[2,3,5])] (.node 45 [(4,[0,1,5,6]),(6,[0,1,5,6,7]),(7,[0,1,5,6,7])] (.node 44 [(3,[3,7,8,9]),(6,[3,5,7,8,9,13]),(10,[3,5,7,8,9,13])] .leaf .leaf) (.node 46 [(3,[0,3,4]),(9,[0,3,4]),(10,[0,4]),(11,[0,4])] .leaf .leaf)) (.node 50 [(4,[3,4,5,6])] (.node 49 [(10,[0,2]),(12,[2,3])] .leaf .leaf) .leaf)))) (.node 73 [(3,[4,8,9,10]),(6,[4,6,7,8,9,10]),(7,[4,6,7,8,9,10]),(9,[4,6,7,8,9,10]),(14,[4,8,9,10])] (.node 64 [(2,[]),(3,[1]),(6,[1,23,24,25])] (.node 59 [(3,[3,4,5,8,13,14]),(11,[5,13,15,16])] (.node 53 [(2,[]),(3,[0])] (.node 52 [(3,[0,2,3,14]),(11,[0,2,3,5,37,38]),(15,[0,2,3,5,6,37,38])] .leaf .leaf) (.node 58 [(3,[1,2,7,8]),(8,[1,2,7,8,9])] .leaf .leaf)) (.node 62 [(4,[0,3])] (.node 61 [(15,[2,3])] .leaf .leaf) (.node 63 [(2,[]),(3,[1])] .leaf .leaf))) (.node 70 [(5,[4,5])] (.node 66 [(2,[]),(3,[1])] (.node 65 [(2,[]),(3,[1]),(4,[1,24,25,26]),(9,[]),(10,[1,24,25,26])] .leaf .leaf) (.node 67 [(2,[]),(3,[1]),(4,[1,22,23,24]),(7,[]),(8,[1,22,23,24]),(10,[]),(11,[])] .leaf .leaf)) (.node 72 [(4,[1,2,3,6,7,23,24]),(9,[6,7])] (.node 71 [(3,[2,4,5,11,12,13])] .leaf .leaf) .leaf))) (.node 85 [(0,[0,1])] (.node 81 [(7,[1,2,7]),(8,[1,2,7]),(11,[1,2,7,8]),(12,[1,2,7,8]),(13,[1,2,7,8]),(17,[1,2,64]),(21,[1,2,64]),(24,[1,2,78])] (.node 76 [(2,[4]),(3,[0,1,4])] (.node 74 [(2,[2]),(3,[0,2])] .leaf .leaf) (.node 77 [(2,[2]),(3,[0,2])] .leaf .leaf)) (.node 83 [(3,[0,3,4,8]),(7,[0,5,6,8]),(8,[0,3,4,8])] (.node 82 [(4,[0,3])] .leaf .leaf) .leaf)) (.node 91 [(2,[0,1,5]),(3,[0,1,5]),(4,[5])] (.node 89 [(9,[0,1])] (.node 86 [(2,[0,1,6]),(6,[0,1,6]),(8,[0,1,6])] .leaf .leaf) (.node 90 [(6,[3,16])] .leaf .leaf)) (.node 94 [(9,[0,2,3,4,23,24,25]),(15,[0,2,3,4]),(16,[0,2,3]),(17,[0,2,3])] (.node 92 [(7,[3])] .leaf .leaf) .leaf))))) (.node 137 [(3,[3,8,9])] (.node 116 [(4,[0,1,12,13])] (.node 106 [(2,[]),(3,[0]),(6,[0]),(8,[0,4])] (.node 100 [(4,[]),(5,[0])] (.node 98 [(5,[0,3,4])] (.node 96 [(3,[3,7,8])] .leaf .leaf) (.node 99 [(9,[0,4,7]),(10,[0]),(12,[0,7])] .leaf .leaf)) (.node 102 [(2,[0]),(4,[0,1])] (.node 101 [(2,[]),(3,[0,1,2]),(7,[0,2,8,9,10,33,34]),(12,[0,2,8,10])] .leaf .leaf) (.node 103 [(2,[]),(3,[0])] .leaf .leaf))) (.node 111 [(5,[0,3,4,5,6])] (.node 109 [(4,[0,3,4,5]),(7,[0,3,4,5,6,7]),(8,[0,3,4,5,6,7]),(10,[0,3,4,5,6,7])] (.node 108 [(4,[5])] .leaf .leaf) (.node 110 [(2,[0,3])] .leaf .leaf)) (.node 113 [(5,[0,3,4]),(6,[0,3,4,5]),(7,[0,3,4,5]),(8,[0,3,4,5]),(11,[0,3,4,5,6,7,8,9])] (.node 112 [(5,[1,5,6,7,8]),(11,[1,5,6,7,8,9])] .leaf .leaf) .leaf))) (.node 130 [(5,[3])] (.node 121 [(2,[]),(3,[2,3]),(4,[2,3,52,53])] (.node 119 [(2,[]),(3,[2,3]),(4,[2,3,29,30])] (.node 117 [(2,[]),(3,[2,3]),(4,[2,3,22,23])] .leaf .leaf) (.node 120 [(2,[]),(3,[2,3]),(4,[2,3,29,30])] .leaf .leaf)) (.node 126 [(6,[2,5,6,7,19,20])] (.node 124 [(3,[2,4,5,6,7]),(4,[2,4,5,6,7]),(5,[2,4,5,6,7]),(6,[2,4,5,6,7]),(7,[2,4,5,6,7]),(8,[2,4,5,6,7]),(9,[4,5])] .leaf .leaf) (.node 127 [(3,[4,5,6,7]),(4,[4,5,6,7]),(6,[4,5,6,7]),(7,[4,5,6,7]),(8,[4,5,6,7])] .leaf .leaf))) (.node 134 [(3,[]),(4,[4])] (.node 132 [(5,[1,4,5])] (.node 131 [(3,[2,3,4,5,27]),(8,[2,4,5,7,8]),(9,[2,4,5,7,8]),(10,[2,4,5,7,8]),(11,[2,4,5,7,8]),(12,[4,5])] .leaf .leaf) (.node 133 [(10,[0]),(11,[0])] .leaf .leaf)) (.node 136 [(3,[0,1,6,10,11])] (.node 135 [(4,[1,3,4,7]),(8,[1,3,6,7]),(9,[1,3,6,7])] .leaf .leaf) .leaf)))) (.node 159 [(3,[0,3,4])] (.node 150 [(3,[0,5,8,9])] (.node 144 [(2,[0,1,4,9,10])] (.node 140 [(1,[0]),(4,[0,2]),(8,[0]),(9,[0])] (.node 138 [(2,[]),(3,[0,1]),(5,[0,1,6,22,23,24])] .leaf .leaf) (.node 141 [(1,[0,1]),(6,[0,41,42,43])] .leaf .leaf)) (.node 148 [(2,[]),(3,[0])] (.node 145 [(2,[0,1,4,11,12]),(6,[1]),(7,[0,1,5,6,11,12]),(8,[0,1,5,6,7,11,12])] .leaf .leaf) (.node 149 [(2,[0,1,5])] .leaf .leaf))) (.node 156 [(7,[1,5,6,7,8,9,10]),(8,[1,5,6,7,8,9,10]),(12,[1,5,6,7,8,9,10]),(13,[1,5,6,7,8,9,10]),(17,[1,5,9]),(18,[5,6,7,8,12])] (.node 154 [(2,[]),(3,[0]),(11,[0,4])] (.node 152 [(8,[0,3])] .leaf .leaf) (.node 155 [(4,[0,4])] .leaf .leaf)) (.node 158 [(3,[0,3,4]),(4,[0,3,4])] (.node 157 [(4,[3,4,5,6]),(5,[3,4,5,6]),(9,[3,4,5,6,7,8,9]),(15,[3,4,5,6,7,8,9,10]),(17,[5,6,7])] .leaf .leaf) .leaf))) (.node 166 [(5,[4,5,6]),(8,[4,5])] (.node 163 [(3,[1,3,4])] (.node 161 [(3,[0,3,4])] (.node 160 [(3,[0,1]),(5,[0,1]),(7,[0,5,6])] .leaf .leaf) (.node 162 [(3,[0,2,3,4])] .leaf .leaf)) (.node 165 [(3,[1,2,5,6])] (.node 164 [(3,[0,5,6]),(5,[0,5,6]),(8,[0])] .leaf .leaf) .leaf)) (.node 179 [(2,[]),(3,[0,1]),(4,[0,1,5])] (.node 176 [(2,[0]),(4,[]),(5,[0])] (.node 172 [(8,[]),(9,[0])] .leaf .leaf) (.node 178 [(3,[0,3,4])] .leaf .leaf)) (.node 181 [(5,[0])] (.node 180 [(4,[0,2]),(7,[0,2]),(10,[0,2])] .leaf .leaf) .leaf))))))
noncomputable def cxX:Cx:=mkCx Tryz.prog tyT fnT hlT mlT
theorem fnp3:FnP Tryz.prog 3 Tryz.f3:=⟨by kernel_rfl,by kernel_rfl⟩
theorem fnp4:FnP Tryz.prog 4 Tryz.f4:=⟨by kernel_rfl,by kernel_rfl⟩
theorem fnp5:FnP Tryz.prog 5 Tryz.f5:=⟨by kernel_rfl,by kernel_rfl⟩
theorem fnp6:FnP Tryz.prog 6 Tryz.f6:=⟨by kernel_rfl,by kernel_rfl⟩
theorem fnp7:FnP Tryz.prog 7 Tryz.f7:=⟨by kernel_rfl,by kernel_rfl⟩
theorem fnp8:FnP Tryz.prog 8 Tryz.f8:=⟨by kernel_rfl,by kernel_rfl⟩
theorem fnp10:FnP Tryz.prog 10 Tryz.f10:=⟨by kernel_rfl,by kernel_rfl⟩
theorem fnp11:FnP Tryz.prog 11 Tryz.f11:=⟨by kernel_rfl,by kernel_rfl⟩
theorem fnp12:FnP Tryz.prog 12 Tryz.f12:=⟨by kernel_rfl,by kernel_rfl⟩
theorem fnp13:FnP Tryz.prog 13 Tryz.f13:=⟨by kernel_rfl,by kernel_rfl⟩
theorem fnp14:FnP Tryz.prog 14 Tryz.f14:=⟨by kernel_rfl,by kernel_rfl⟩
theorem fnp15:FnP Tryz.prog 15 Tryz.f15:=⟨by kernel_rfl,by kernel_rfl⟩
theorem fnp16:FnP Tryz.prog 16 Tryz.f16:=⟨by kernel_rfl,by kernel_rfl⟩
theorem fnp17:FnP Tryz.prog 17 Tryz.f17:=⟨by kernel_rfl,by kernel_rfl⟩
theorem fnp18:FnP Tryz.prog 18 Tryz.f18:=⟨by kernel_rfl,by kernel_rfl⟩
theorem fnp19:FnP Tryz.prog 19 Tryz.f19:=⟨by kernel_rfl,by kernel_rfl⟩
theorem fnp20:FnP Tryz.prog 20 Tryz.f20:=⟨by kernel_rfl,by kernel_rfl⟩
theorem fnp21:FnP Tryz.prog 21 Tryz.f21:=⟨by kernel_rfl,by kernel_rfl⟩
theorem fnp22:FnP Tryz.prog 22 Tryz.f22:=⟨by kernel_rfl,by kernel_rfl⟩
theorem fnp23:FnP Tryz.prog 23 Tryz.f23:=⟨by kernel_rfl,by kernel_rfl⟩
theorem fnp25:FnP Tryz.prog 25 Tryz.f25:=⟨by kernel_rfl,by kernel_rfl⟩
theorem fnp26:FnP Tryz.prog 26 Tryz.f26:=⟨by kernel_rfl,by kernel_rfl⟩
theorem fnp27:FnP Tryz.prog 27 Tryz.f27:=⟨by kernel_rfl,by kernel_rfl⟩
theorem fnp28:FnP Tryz.prog 28 Tryz.f28:=⟨by kernel_rfl,by kernel_rfl⟩
theorem fnp29:FnP Tryz.prog 29 Tryz.f29:=⟨by kernel_rfl,by kernel_rfl⟩
theorem fnp30:FnP Tryz.prog 30 Tryz.f30:=⟨by kernel_rfl,by kernel_rfl⟩
theorem fnp31:FnP Tryz.prog 31 Tryz.f31:=⟨by kernel_rfl,by kernel_rfl⟩
theorem fnp32:FnP Tryz.prog 32 Tryz.f32:=⟨by kernel_rfl,by kernel_rfl⟩
theorem fnp33:FnP Tryz.prog 33 Tryz.f33:=⟨by kernel_rfl,by kernel_rfl⟩
theorem fnp34:FnP Tryz.prog 34 Tryz.f34:=⟨by kernel_rfl,by kernel_rfl⟩
theorem fnp35:FnP Tryz.prog 35 Tryz.f35:=⟨by kernel_rfl,by kernel_rfl⟩
theorem fnp36:FnP Tryz.prog 36 Tryz.f36:=⟨by kernel_rfl,by kernel_rfl⟩
theorem fnp37:FnP Tryz.prog 37 Tryz.f37:=⟨by kernel_rfl,by kernel_rfl⟩
theorem fnp38:FnP Tryz.prog 38 Tryz.f38:=⟨by kernel_rfl,by kernel_rfl⟩
theorem fnp39:FnP Tryz.prog 39 Tryz.f39:=⟨by kernel_rfl,by kernel_rfl⟩
theorem fnp40:FnP Tryz.prog 40 Tryz.f40:=⟨by kernel_rfl,by kernel_rfl⟩
theorem fnp41:FnP Tryz.prog 41 Tryz.f41:=⟨by kernel_rfl,by kernel_rfl⟩
theorem fnp42:FnP Tryz.prog 42 Tryz.f42:=⟨by kernel_rfl,by kernel_rfl⟩
theorem fnp43:FnP Tryz.prog 43 Tryz.f43:=⟨by kernel_rfl,by kernel_rfl⟩
theorem fnp44:FnP Tryz.prog 44 Tryz.f44:=⟨by kernel_rfl,by kernel_rfl⟩
theorem fnp45:FnP Tryz.prog 45 Tryz.f45:=⟨by kernel_rfl,by kernel_rfl⟩
theorem fnp46:FnP Tryz.prog 46 Tryz.f46:=⟨by kernel_rfl,by kernel_rfl⟩
theorem fnp47:FnP Tryz.prog 47 Tryz.f47:=⟨by kernel_rfl,by kernel_rfl⟩
theorem fnp48:FnP Tryz.prog 48 Tryz.f48:=⟨by kernel_rfl,by kernel_rfl⟩
theorem fnp49:FnP Tryz.prog 49 Tryz.f49:=⟨by kernel_rfl,by kernel_rfl⟩
theorem fnp50:FnP Tryz.prog 50 Tryz.f50:=⟨by kernel_rfl,by kernel_rfl⟩
theorem fnp51:FnP Tryz.prog 51 Tryz.f51:=⟨by kernel_rfl,by kernel_rfl⟩
theorem fnp52:FnP Tryz.prog 52 Tryz.f52:=⟨by kernel_rfl,by kernel_rfl⟩
theorem fnp53:FnP Tryz.prog 53 Tryz.f53:=⟨by kernel_rfl,by kernel_rfl⟩
theorem fnp54:FnP Tryz.prog 54 Tryz.f54:=⟨by kernel_rfl,by kernel_rfl⟩
theorem fnp55:FnP Tryz.prog 55 Tryz.f55:=⟨by kernel_rfl,by kernel_rfl⟩
theorem fnp56:FnP Tryz.prog 56 Tryz.f56:=⟨by kernel_rfl,by kernel_rfl⟩
theorem fnp57:FnP Tryz.prog 57 Tryz.f57:=⟨by kernel_rfl,by kernel_rfl⟩
theorem fnp58:FnP Tryz.prog 58 Tryz.f58:=⟨by kernel_rfl,by kernel_rfl⟩
theorem fnp59:FnP Tryz.prog 59 Tryz.f59:=⟨by kernel_rfl,by kernel_rfl⟩
theorem fnp60:FnP Tryz.prog 60 Tryz.f60:=⟨by kernel_rfl,by kernel_rfl⟩
theorem fnp61:FnP Tryz.prog 61 Tryz.f61:=⟨by kernel_rfl,by kernel_rfl⟩
theorem fnp62:FnP Tryz.prog 62 Tryz.f62:=⟨by kernel_rfl,by kernel_rfl⟩
theorem fnp63:FnP Tryz.prog 63 Tryz.f63:=⟨by kernel_rfl,by kernel_rfl⟩
theorem fnp64:FnP Tryz.prog 64 Tryz.f64:=⟨by kernel_rfl,by kernel_rfl⟩
theorem fnp65:FnP Tryz.prog 65 Tryz.f65:=⟨by kernel_rfl,by kernel_rfl⟩
theorem fnp66:FnP Tryz.prog 66 Tryz.f66:=⟨by kernel_rfl,by kernel_rfl⟩
theorem fnp67:FnP Tryz.prog 67 Tryz.f67:=⟨by kernel_rfl,by kernel_rfl⟩
theorem fnp69:FnP Tryz.prog 69 Tryz.f69:=⟨by kernel_rfl,by kernel_rfl⟩
theorem fnp70:FnP Tryz.prog 70 Tryz.f70:=⟨by kernel_rfl,by kernel_rfl⟩
theorem fnp71:FnP Tryz.prog 71 Tryz.f71:=⟨by kernel_rfl,by kernel_rfl⟩
theorem fnp72:FnP Tryz.prog 72 Tryz.f72:=⟨by kernel_rfl,by kernel_rfl⟩
theorem fnp73:FnP Tryz.prog 73 Tryz.f73:=⟨by kernel_rfl,by kernel_rfl⟩
theorem fnp74:FnP Tryz.prog 74 Tryz.f74:=⟨by kernel_rfl,by kernel_rfl⟩
theorem fnp75:FnP Tryz.prog 75 Tryz.f75:=⟨by kernel_rfl,by kernel_rfl⟩
theorem fnp76:FnP Tryz.prog 76 Tryz.f76:=⟨by kernel_rfl,by kernel_rfl⟩
theorem fnp77:FnP Tryz.prog 77 Tryz.f77:=⟨by kernel_rfl,by kernel_rfl⟩
theorem fnp78:FnP Tryz.prog 78 Tryz.f78:=⟨by kernel_rfl,by kernel_rfl⟩
theorem fnp79:FnP Tryz.prog 79 Tryz.f79:=⟨by kernel_rfl,by kernel_rfl⟩
theorem fnp80:FnP Tryz.prog 80 Tryz.f80:=⟨by kernel_rfl,by kernel_rfl⟩
theorem fnp81:FnP Tryz.prog 81 Tryz.f81:=⟨by kernel_rfl,by kernel_rfl⟩
theorem fnp82:FnP Tryz.prog 82 Tryz.f82:=⟨by kernel_rfl,by kernel_rfl⟩
theorem fnp83:FnP Tryz.prog 83 Tryz.f83:=⟨by kernel_rfl,by kernel_rfl⟩
theorem fnp84:FnP Tryz.prog 84 Tryz.f84:=⟨by kernel_rfl,by kernel_rfl⟩
theorem fnp85:FnP Tryz.prog 85 Tryz.f85:=⟨by kernel_rfl,by kernel_rfl⟩
theorem fnp86:FnP Tryz.prog 86 Tryz.f86:=⟨by kernel_rfl,by kernel_rfl⟩
theorem fnp87:FnP Tryz.prog 87 Tryz.f87:=⟨by kernel_rfl,by kernel_rfl⟩
theorem fnp88:FnP Tryz.prog 88 Tryz.f88:=⟨by kernel_rfl,by kernel_rfl⟩
theorem fnp89:FnP Tryz.prog 89 Tryz.f89:=⟨by kernel_rfl,by kernel_rfl⟩
theorem fnp90:FnP Tryz.prog 90 Tryz.f90:=⟨by kernel_rfl,by kernel_rfl⟩
theorem fnp91:FnP Tryz.prog 91 Tryz.f91:=⟨by kernel_rfl,by kernel_rfl⟩
theorem fnp92:FnP Tryz.prog 92 Tryz.f92:=⟨by kernel_rfl,by kernel_rfl⟩
theorem fnp93:FnP Tryz.prog 93 Tryz.f93:=⟨by kernel_rfl,by kernel_rfl⟩
theorem fnp94:FnP Tryz.prog 94 Tryz.f94:=⟨by kernel_rfl,by kernel_rfl⟩
theorem fnp95:FnP Tryz.prog 95 Tryz.f95:=⟨by kernel_rfl,by kernel_rfl⟩
theorem fnp96:FnP Tryz.prog 96 Tryz.f96:=⟨by kernel_rfl,by kernel_rfl⟩
theorem fnp97:FnP Tryz.prog 97 Tryz.f97:=⟨by kernel_rfl,by kernel_rfl⟩
theorem fnp98:FnP Tryz.prog 98 Tryz.f98:=⟨by kernel_rfl,by kernel_rfl⟩
theorem fnp99:FnP Tryz.prog 99 Tryz.f99:=⟨by kernel_rfl,by kernel_rfl⟩
theorem fnp100:FnP Tryz.prog 100 Tryz.f100:=⟨by kernel_rfl,by kernel_rfl⟩
theorem fnp101:FnP Tryz.prog 101 Tryz.f101:=⟨by kernel_rfl,by kernel_rfl⟩
theorem fnp102:FnP Tryz.prog 102 Tryz.f102:=⟨by kernel_rfl,by kernel_rfl⟩
theorem fnp103:FnP Tryz.prog 103 Tryz.f103:=⟨by kernel_rfl,by kernel_rfl⟩
theorem fnp104:FnP Tryz.prog 104 Tryz.f104:=⟨by kernel_rfl,by kernel_rfl⟩
theorem fnp105:FnP Tryz.prog 105 Tryz.f105:=⟨by kernel_rfl,by kernel_rfl⟩
theorem fnp106:FnP Tryz.prog 106 Tryz.f106:=⟨by kernel_rfl,by kernel_rfl⟩
theorem fnp107:FnP Tryz.prog 107 Tryz.f107:=⟨by kernel_rfl,by kernel_rfl⟩
theorem fnp108:FnP Tryz.prog 108 Tryz.f108:=⟨by kernel_rfl,by kernel_rfl⟩
theorem fnp109:FnP Tryz.prog 109 Tryz.f109:=⟨by kernel_rfl,by kernel_rfl⟩
theorem fnp110:FnP Tryz.prog 110 Tryz.f110:=⟨by kernel_rfl,by kernel_rfl⟩
theorem fnp111:FnP Tryz.prog 111 Tryz.f111:=⟨by kernel_rfl,by kernel_rfl⟩
theorem fnp112:FnP Tryz.prog 112 Tryz.f112:=⟨by kernel_rfl,by kernel_rfl⟩
theorem fnp113:FnP Tryz.prog 113 Tryz.f113:=⟨by kernel_rfl,by kernel_rfl⟩
theorem fnp114:FnP Tryz.prog 114 Tryz.f114:=⟨by kernel_rfl,by kernel_rfl⟩
theorem fnp115:FnP Tryz.prog 115 Tryz.f115:=⟨by kernel_rfl,by kernel_rfl⟩
theorem fnp116:FnP Tryz.prog 116 Tryz.f116:=⟨by kernel_rfl,by kernel_rfl⟩
theorem fnp117:FnP Tryz.prog 117 Tryz.f117:=⟨by kernel_rfl,by kernel_rfl⟩
theorem fnp118:FnP Tryz.prog 118 Tryz.f118:=⟨by kernel_rfl,by kernel_rfl⟩
theorem fnp119:FnP Tryz.prog 119 Tryz.f119:=⟨by kernel_rfl,by kernel_rfl⟩
theorem fnp120:FnP Tryz.prog 120 Tryz.f120:=⟨by kernel_rfl,by kernel_rfl⟩
theorem fnp121:FnP Tryz.prog 121 Tryz.f121:=⟨by kernel_rfl,by kernel_rfl⟩
theorem fnp122:FnP Tryz.prog 122 Tryz.f122:=⟨by kernel_rfl,by kernel_rfl⟩
theorem fnp123:FnP Tryz.prog 123 Tryz.f123:=⟨by kernel_rfl,by kernel_rfl⟩
theorem fnp124:FnP Tryz.prog 124 Tryz.f124:=⟨by kernel_rfl,by kernel_rfl⟩
theorem fnp125:FnP Tryz.prog 125 Tryz.f125:=⟨by kernel_rfl,by kernel_rfl⟩
theorem fnp126:FnP Tryz.prog 126 Tryz.f126:=⟨by kernel_rfl,by kernel_rfl⟩
theorem fnp127:FnP Tryz.prog 127 Tryz.f127:=⟨by kernel_rfl,by kernel_rfl⟩
theorem fnp128:FnP Tryz.prog 128 Tryz.f128:=⟨by kernel_rfl,by kernel_rfl⟩
theorem fnp129:FnP Tryz.prog 129 Tryz.f129:=⟨by kernel_rfl,by kernel_rfl⟩
theorem fnp130:FnP Tryz.prog 130 Tryz.f130:=⟨by kernel_rfl,by kernel_rfl⟩
theorem fnp131:FnP Tryz.prog 131 Tryz.f131:=⟨by kernel_rfl,by kernel_rfl⟩
theorem fnp132:FnP Tryz.prog 132 Tryz.f132:=⟨by kernel_rfl,by kernel_rfl⟩
theorem fnp133:FnP Tryz.prog 133 Tryz.f133:=⟨by kernel_rfl,by kernel_rfl⟩
theorem fnp134:FnP Tryz.prog 134 Tryz.f134:=⟨by kernel_rfl,by kernel_rfl⟩
theorem fnp135:FnP Tryz.prog 135 Tryz.f135:=⟨by kernel_rfl,by kernel_rfl⟩
theorem fnp136:FnP Tryz.prog 136 Tryz.f136:=⟨by kernel_rfl,by kernel_rfl⟩
theorem fnp137:FnP Tryz.prog 137 Tryz.f137:=⟨by kernel_rfl,by kernel_rfl⟩
theorem fnp138:FnP Tryz.prog 138 Tryz.f138:=⟨by kernel_rfl,by kernel_rfl⟩
theorem fnp139:FnP Tryz.prog 139 Tryz.f139:=⟨by kernel_rfl,by kernel_rfl⟩
theorem fnp140:FnP Tryz.prog 140 Tryz.f140:=⟨by kernel_rfl,by kernel_rfl⟩
theorem fnp141:FnP Tryz.prog 141 Tryz.f141:=⟨by kernel_rfl,by kernel_rfl⟩
theorem fnp142:FnP Tryz.prog 142 Tryz.f142:=⟨by kernel_rfl,by kernel_rfl⟩
theorem fnp143:FnP Tryz.prog 143 Tryz.f143:=⟨by kernel_rfl,by kernel_rfl⟩
theorem fnp144:FnP Tryz.prog 144 Tryz.f144:=⟨by kernel_rfl,by kernel_rfl⟩
theorem fnp145:FnP Tryz.prog 145 Tryz.f145:=⟨by kernel_rfl,by kernel_rfl⟩
theorem fnp146:FnP Tryz.prog 146 Tryz.f146:=⟨by kernel_rfl,by kernel_rfl⟩
theorem fnp147:FnP Tryz.prog 147 Tryz.f147:=⟨by kernel_rfl,by kernel_rfl⟩
theorem fnp148:FnP Tryz.prog 148 Tryz.f148:=⟨by kernel_rfl,by kernel_rfl⟩
theorem fnp149:FnP Tryz.prog 149 Tryz.f149:=⟨by kernel_rfl,by kernel_rfl⟩
theorem fnp150:FnP Tryz.prog 150 Tryz.f150:=⟨by kernel_rfl,by kernel_rfl⟩
theorem fnp151:FnP Tryz.prog 151 Tryz.f151:=⟨by kernel_rfl,by kernel_rfl⟩
theorem fnp152:FnP Tryz.prog 152 Tryz.f152:=⟨by kernel_rfl,by kernel_rfl⟩
theorem fnp153:FnP Tryz.prog 153 Tryz.f153:=⟨by kernel_rfl,by kernel_rfl⟩
theorem fnp154:FnP Tryz.prog 154 Tryz.f154:=⟨by kernel_rfl,by kernel_rfl⟩
theorem fnp155:FnP Tryz.prog 155 Tryz.f155:=⟨by kernel_rfl,by kernel_rfl⟩
theorem fnp156:FnP Tryz.prog 156 Tryz.f156:=⟨by kernel_rfl,by kernel_rfl⟩
theorem fnp157:FnP Tryz.prog 157 Tryz.f157:=⟨by kernel_rfl,by kernel_rfl⟩
theorem fnp158:FnP Tryz.prog 158 Tryz.f158:=⟨by kernel_rfl,by kernel_rfl⟩
theorem fnp159:FnP Tryz.prog 159 Tryz.f159:=⟨by kernel_rfl,by kernel_rfl⟩
theorem fnp160:FnP Tryz.prog 160 Tryz.f160:=⟨by kernel_rfl,by kernel_rfl⟩
theorem fnp161:FnP Tryz.prog 161 Tryz.f161:=⟨by kernel_rfl,by kernel_rfl⟩
theorem fnp162:FnP Tryz.prog 162 Tryz.f162:=⟨by kernel_rfl,by kernel_rfl⟩
theorem fnp163:FnP Tryz.prog 163 Tryz.f163:=⟨by kernel_rfl,by kernel_rfl⟩
theorem fnp164:FnP Tryz.prog 164 Tryz.f164:=⟨by kernel_rfl,by kernel_rfl⟩
theorem fnp165:FnP Tryz.prog 165 Tryz.f165:=⟨by kernel_rfl,by kernel_rfl⟩
theorem fnp166:FnP Tryz.prog 166 Tryz.f166:=⟨by kernel_rfl,by kernel_rfl⟩
theorem fnp167:FnP Tryz.prog 167 Tryz.f167:=⟨by kernel_rfl,by kernel_rfl⟩
theorem fnp168:FnP Tryz.prog 168 Tryz.f168:=⟨by kernel_rfl,by kernel_rfl⟩
theorem fnp169:FnP Tryz.prog 169 Tryz.f169:=⟨by kernel_rfl,by kernel_rfl⟩
theorem fnp170:FnP Tryz.prog 170 Tryz.f170:=⟨by kernel_rfl,by kernel_rfl⟩
theorem fnp171:FnP Tryz.prog 171 Tryz.f171:=⟨by kernel_rfl,by kernel_rfl⟩
theorem fnp172:FnP Tryz.prog 172 Tryz.f172:=⟨by kernel_rfl,by kernel_rfl⟩
theorem fnp173:FnP Tryz.prog 173 Tryz.f173:=⟨by kernel_rfl,by kernel_rfl⟩
theorem fnp174:FnP Tryz.prog 174 Tryz.f174:=⟨by kernel_rfl,by kernel_rfl⟩
theorem fnp175:FnP Tryz.prog 175 Tryz.f175:=⟨by kernel_rfl,by kernel_rfl⟩
theorem fnp176:FnP Tryz.prog 176 Tryz.f176:=⟨by kernel_rfl,by kernel_rfl⟩
theorem fnp177:FnP Tryz.prog 177 Tryz.f177:=⟨by kernel_rfl,by kernel_rfl⟩
theorem fnp178:FnP Tryz.prog 178 Tryz.f178:=⟨by kernel_rfl,by kernel_rfl⟩
theorem fnp179:FnP Tryz.prog 179 Tryz.f179:=⟨by kernel_rfl,by kernel_rfl⟩
theorem fnp180:FnP Tryz.prog 180 Tryz.f180:=⟨by kernel_rfl,by kernel_rfl⟩
theorem fnp181:FnP Tryz.prog 181 Tryz.f181:=⟨by kernel_rfl,by kernel_rfl⟩
theorem fnp182:FnP Tryz.prog 182 Tryz.f182:=⟨by kernel_rfl,by kernel_rfl⟩
theorem fnp183:FnP Tryz.prog 183 Tryz.f183:=⟨by kernel_rfl,by kernel_rfl⟩
theorem okX:Ok cxX/\DstOk cxX:=mkOk (by kernel_rfl) (by kernel_rfl) ⟨fnp95,⟨fnp49,⟨fnp27,⟨fnp15,⟨fnp8,⟨fnp5,⟨fnp4,⟨fnp3,trivial,trivial⟩,trivial⟩,⟨fnp7,⟨fnp6,trivial,trivial⟩,trivial⟩⟩,⟨fnp12,⟨fnp11,⟨fnp10,trivial,trivial⟩,trivial⟩,⟨fnp14,⟨fnp13,trivial,trivial⟩,trivial⟩⟩⟩,⟨fnp21,⟨fnp18,⟨fnp17,⟨fnp16,trivial,trivial⟩,trivial⟩,⟨fnp20,⟨fnp19,trivial,trivial⟩,trivial⟩⟩,⟨fnp25,⟨fnp23,⟨fnp22,trivial,trivial⟩,trivial⟩,⟨fnp26,trivial,trivial⟩⟩⟩⟩,⟨fnp38,⟨fnp33,⟨fnp30,⟨fnp29,⟨fnp28,trivial,trivial⟩,trivial⟩,⟨fnp32,⟨fnp31,trivial,trivial⟩,trivial⟩⟩,⟨fnp36,⟨fnp35,⟨fnp34,trivial,trivial⟩,trivial⟩,⟨fnp37,trivial,trivial⟩⟩⟩,⟨fnp44,⟨fnp41,⟨fnp40,⟨fnp39,trivial,trivial⟩,trivial⟩,⟨fnp43,⟨fnp42,trivial,trivial⟩,trivial⟩⟩,⟨fnp47,⟨fnp46,⟨fnp45,trivial,trivial⟩,trivial⟩,⟨fnp48,trivial,trivial⟩⟩⟩⟩⟩,⟨fnp73,⟨fnp61,⟨fnp55,⟨fnp52,⟨fnp51,⟨fnp50,trivial,trivial⟩,trivial⟩,⟨fnp54,⟨fnp53,trivial,trivial⟩,trivial⟩⟩,⟨fnp58,⟨fnp57,⟨fnp56,trivial,trivial⟩,trivial⟩,⟨fnp60,⟨fnp59,trivial,trivial⟩,trivial⟩⟩⟩,⟨fnp67,⟨fnp64,⟨fnp63,⟨fnp62,trivial,trivial⟩,trivial⟩,⟨fnp66,⟨fnp65,trivial,trivial⟩,trivial⟩⟩,⟨fnp71,⟨fnp70,⟨fnp69,trivial,trivial⟩,trivial⟩,⟨fnp72,trivial,trivial⟩⟩⟩⟩,⟨fnp84,⟨fnp79,⟨fnp76,⟨fnp75,⟨fnp74,trivial,trivial⟩,trivial⟩,⟨fnp78,⟨fnp77,trivial,trivial⟩,trivial⟩⟩,⟨fnp82,⟨fnp81,⟨fnp80,trivial,trivial⟩,trivial⟩,⟨fnp83,trivial,trivial⟩⟩⟩,⟨fnp90,⟨fnp87,⟨fnp86,⟨fnp85,trivial,trivial⟩,trivial⟩,⟨fnp89,⟨fnp88,trivial,trivial⟩,trivial⟩⟩,⟨fnp93,⟨fnp92,⟨fnp91,trivial,trivial⟩,trivial⟩,⟨fnp94,trivial,trivial⟩⟩⟩⟩⟩⟩,⟨fnp140,⟨fnp118,⟨fnp107,⟨fnp101,⟨fnp98,⟨fnp97,⟨fnp96,trivial,trivial⟩,trivial⟩,⟨fnp100,⟨fnp99,trivial,trivial⟩,trivial⟩⟩,⟨fnp104,⟨fnp103,⟨fnp102,trivial,trivial⟩,trivial⟩,⟨fnp106,⟨fnp105,trivial,trivial⟩,trivial⟩⟩⟩,⟨fnp113,⟨fnp110,⟨fnp109,⟨fnp108,trivial,trivial⟩,trivial⟩,⟨fnp112,⟨fnp111,trivial,trivial⟩,trivial⟩⟩,⟨fnp116,⟨fnp115,⟨fnp114,trivial,trivial⟩,trivial⟩,⟨fnp117,trivial,trivial⟩⟩⟩⟩,⟨fnp129,⟨fnp124,⟨fnp121,⟨fnp120,⟨fnp119,trivial,trivial⟩,trivial⟩,⟨fnp123,⟨fnp122,trivial,trivial⟩,trivial⟩⟩,⟨fnp127,⟨fnp126,⟨fnp125,trivial,trivial⟩,trivial⟩,⟨fnp128,trivial,trivial⟩⟩⟩,⟨fnp135,⟨fnp132,⟨fnp131,⟨fnp130,trivial,trivial⟩,trivial⟩,⟨fnp134,⟨fnp133,trivial,trivial⟩,trivial⟩⟩,⟨fnp138,⟨fnp137,⟨fnp136,trivial,trivial⟩,trivial⟩,⟨fnp139,trivial,trivial⟩⟩⟩⟩⟩,⟨fnp162,⟨fnp151,⟨fnp146,⟨fnp143,⟨fnp142,⟨fnp141,trivial,trivial⟩,trivial⟩,⟨fnp145,⟨fnp144,trivial,trivial⟩,trivial⟩⟩,⟨fnp149,⟨fnp148,⟨fnp147,trivial,trivial⟩,trivial⟩,⟨fnp150,trivial,trivial⟩⟩⟩,⟨fnp157,⟨fnp154,⟨fnp153,⟨fnp152,trivial,trivial⟩,trivial⟩,⟨fnp156,⟨fnp155,trivial,trivial⟩,trivial⟩⟩,⟨fnp160,⟨fnp159,⟨fnp158,trivial,trivial⟩,trivial⟩,⟨fnp161,trivial,trivial⟩⟩⟩⟩,⟨fnp173,⟨fnp168,⟨fnp165,⟨fnp164,⟨fnp163,trivial,trivial⟩,trivial⟩,⟨fnp167,⟨fnp166,trivial,trivial⟩,trivial⟩⟩,⟨fnp171,⟨fnp170,⟨fnp169,trivial,trivial⟩,trivial⟩,⟨fnp172,trivial,trivial⟩⟩⟩,⟨fnp179,⟨fnp176,⟨fnp175,⟨fnp174,trivial,trivial⟩,trivial⟩,⟨fnp178,⟨fnp177,trivial,trivial⟩,trivial⟩⟩,⟨fnp182,⟨fnp181,⟨fnp180,trivial,trivial⟩,trivial⟩,⟨fnp183,trivial,trivial⟩⟩⟩⟩⟩⟩⟩ (by kernel_rfl)
noncomputable def cd7:Code:=(Tryz.f7.body).getD .skip
def ss7:List Nat:=[12]
def ss10:List Nat:=[]
noncomputable def cd11:Code:=(Tryz.f11.body).getD .skip
def ss11:List Nat:=[2,6]
def ss12:List Nat:=[]
def ss13:List Nat:=[]
def ss14:List Nat:=[]
noncomputable def cd15:Code:=(Tryz.f15.body).getD .skip
def ss15:List Nat:=[7,12,16,27,32,35]
noncomputable def cd16:Code:=(Tryz.f16.body).getD .skip
def ss16:List Nat:=[28]
noncomputable def cd17:Code:=(Tryz.f17.body).getD .skip
def ss17:List Nat:=[24]
def ss20:List Nat:=[]
def ss21:List Nat:=[]
def ss22:List Nat:=[]
def ss23:List Nat:=[]
noncomputable def cd25:Code:=(Tryz.f25.body).getD .skip
def ss25:List Nat:=[0]
noncomputable def cd26:Code:=(Tryz.f26.body).getD .skip
def ss26:List Nat:=[3,7]
noncomputable def cd27:Code:=(Tryz.f27.body).getD .skip
def ss27:List Nat:=[3,7]
noncomputable def cd28:Code:=(Tryz.f28.body).getD .skip
def ss28:List Nat:=[3]
noncomputable def cd29:Code:=(Tryz.f29.body).getD .skip
def ss29:List Nat:=[3]
noncomputable def cd30:Code:=(Tryz.f30.body).getD .skip
def ss30:List Nat:=[3]
noncomputable def cd31:Code:=(Tryz.f31.body).getD .skip
def ss31:List Nat:=[3]
noncomputable def cd32:Code:=(Tryz.f32.body).getD .skip
def ss32:List Nat:=[5,8,9,11,12]
noncomputable def cd33:Code:=(Tryz.f33.body).getD .skip
def ss33:List Nat:=[2]
noncomputable def cd34:Code:=(Tryz.f34.body).getD .skip
def ss34:List Nat:=[7]
def ss35:List Nat:=[]
def ss36:List Nat:=[]
noncomputable def cd37:Code:=(Tryz.f37.body).getD .skip
def ss37:List Nat:=[2,3,5]
noncomputable def cd38:Code:=(Tryz.f38.body).getD .skip
def ss38:List Nat:=[11,14,15]
def ss39:List Nat:=[]
noncomputable def cd40:Code:=(Tryz.f40.body).getD .skip
def ss40:List Nat:=[5,14]
def ss41:List Nat:=[]
def ss42:List Nat:=[]
noncomputable def cd43:Code:=(Tryz.f43.body).getD .skip
def ss43:List Nat:=[5,7,10,11,14,15]
noncomputable def cd44:Code:=(Tryz.f44.body).getD .skip
def ss44:List Nat:=[3,6,10]
noncomputable def cd45:Code:=(Tryz.f45.body).getD .skip
def ss45:List Nat:=[4,6,7]
noncomputable def cd46:Code:=(Tryz.f46.body).getD .skip
def ss46:List Nat:=[3,9,10,11]
noncomputable def cd47:Code:=(Tryz.f47.body).getD .skip
def ss47:List Nat:=[8]
def ss48:List Nat:=[]
noncomputable def cd49:Code:=(Tryz.f49.body).getD .skip
def ss49:List Nat:=[10,12]
noncomputable def cd50:Code:=(Tryz.f50.body).getD .skip
def ss50:List Nat:=[4]
noncomputable def cd51:Code:=(Tryz.f51.body).getD .skip
def ss51:List Nat:=[7,11,14,15,16,19]
noncomputable def cd52:Code:=(Tryz.f52.body).getD .skip
def ss52:List Nat:=[3,11,15]
noncomputable def cd53:Code:=(Tryz.f53.body).getD .skip
def ss53:List Nat:=[2,3]
def ss60:List Nat:=[]
noncomputable def cd61:Code:=(Tryz.f61.body).getD .skip
def ss61:List Nat:=[15]
noncomputable def cd62:Code:=(Tryz.f62.body).getD .skip
def ss62:List Nat:=[4]
noncomputable def cd63:Code:=(Tryz.f63.body).getD .skip
def ss63:List Nat:=[2,3]
noncomputable def cd64:Code:=(Tryz.f64.body).getD .skip
def ss64:List Nat:=[2,3,6]
noncomputable def cd65:Code:=(Tryz.f65.body).getD .skip
def ss65:List Nat:=[2,3,4,9,10]
noncomputable def cd66:Code:=(Tryz.f66.body).getD .skip
def ss66:List Nat:=[2,3]
noncomputable def cd67:Code:=(Tryz.f67.body).getD .skip
def ss67:List Nat:=[2,3,4,7,8,10,11]
def ss69:List Nat:=[]
noncomputable def cd70:Code:=(Tryz.f70.body).getD .skip
def ss70:List Nat:=[5]
noncomputable def cd71:Code:=(Tryz.f71.body).getD .skip
def ss71:List Nat:=[3]
noncomputable def cd72:Code:=(Tryz.f72.body).getD .skip
def ss72:List Nat:=[4,9]
noncomputable def cd73:Code:=(Tryz.f73.body).getD .skip
def ss73:List Nat:=[3,6,7,9,14]
noncomputable def cd74:Code:=(Tryz.f74.body).getD .skip
def ss74:List Nat:=[2,3]
def ss75:List Nat:=[]
noncomputable def cd76:Code:=(Tryz.f76.body).getD .skip
def ss76:List Nat:=[2,3]
noncomputable def cd77:Code:=(Tryz.f77.body).getD .skip
def ss77:List Nat:=[2,3]
def ss78:List Nat:=[]
def ss79:List Nat:=[]
def ss80:List Nat:=[]
noncomputable def cd81:Code:=(Tryz.f81.body).getD .skip
def ss81:List Nat:=[7,8,11,12,13,17,21,24]
noncomputable def cd82:Code:=(Tryz.f82.body).getD .skip
def ss82:List Nat:=[4]
noncomputable def cd83:Code:=(Tryz.f83.body).getD .skip
def ss83:List Nat:=[3,7,8]
def ss84:List Nat:=[]
noncomputable def cd85:Code:=(Tryz.f85.body).getD .skip
def ss85:List Nat:=[0]
noncomputable def cd86:Code:=(Tryz.f86.body).getD .skip
def ss86:List Nat:=[2,6,8]
def ss87:List Nat:=[]
def ss88:List Nat:=[]
noncomputable def cd89:Code:=(Tryz.f89.body).getD .skip
def ss89:List Nat:=[9]
noncomputable def cd90:Code:=(Tryz.f90.body).getD .skip
def ss90:List Nat:=[6]
noncomputable def cd91:Code:=(Tryz.f91.body).getD .skip
def ss91:List Nat:=[2,3,4]
noncomputable def cd92:Code:=(Tryz.f92.body).getD .skip
def ss92:List Nat:=[7]
def ss93:List Nat:=[]
noncomputable def cd94:Code:=(Tryz.f94.body).getD .skip
def ss94:List Nat:=[9,15,16,17]
noncomputable def cd95:Code:=(Tryz.f95.body).getD .skip
def ss95:List Nat:=[1]
noncomputable def cd96:Code:=(Tryz.f96.body).getD .skip
def ss96:List Nat:=[3]
def ss97:List Nat:=[]
noncomputable def cd98:Code:=(Tryz.f98.body).getD .skip
def ss98:List Nat:=[5]
noncomputable def cd99:Code:=(Tryz.f99.body).getD .skip
def ss99:List Nat:=[9,10,12]
noncomputable def cd100:Code:=(Tryz.f100.body).getD .skip
def ss100:List Nat:=[4,5]
noncomputable def cd101:Code:=(Tryz.f101.body).getD .skip
def ss101:List Nat:=[2,3,7,12]
noncomputable def cd102:Code:=(Tryz.f102.body).getD .skip
def ss102:List Nat:=[2,4]
noncomputable def cd103:Code:=(Tryz.f103.body).getD .skip
def ss103:List Nat:=[2,3]
def ss104:List Nat:=[]
def ss105:List Nat:=[]
noncomputable def cd106:Code:=(Tryz.f106.body).getD .skip
def ss106:List Nat:=[2,3,6,8]
def ss107:List Nat:=[]
noncomputable def cd108:Code:=(Tryz.f108.body).getD .skip
def ss108:List Nat:=[4]
noncomputable def cd116:Code:=(Tryz.f116.body).getD .skip
def ss116:List Nat:=[4]
noncomputable def cd117:Code:=(Tryz.f117.body).getD .skip
def ss117:List Nat:=[2,3,4]
def ss118:List Nat:=[]
noncomputable def cd119:Code:=(Tryz.f119.body).getD .skip
def ss119:List Nat:=[2,3,4]
noncomputable def cd120:Code:=(Tryz.f120.body).getD .skip
def ss120:List Nat:=[2,3,4]
noncomputable def cd121:Code:=(Tryz.f121.body).getD .skip
def ss121:List Nat:=[2,3,4]
def ss122:List Nat:=[]
def ss123:List Nat:=[]
noncomputable def zY:Code:=(Tryz.f124.body).getD .skip
def ss124:List Nat:=[3,4,5,6,7,8,9]
def ss125:List Nat:=[]
noncomputable def cd126:Code:=(Tryz.f126.body).getD .skip
def ss126:List Nat:=[6]
noncomputable def jB:Code:=(Tryz.f127.body).getD .skip
def ss127:List Nat:=[3,4,6,7,8]
def ss128:List Nat:=[]
def ss129:List Nat:=[]
noncomputable def cd130:Code:=(Tryz.f130.body).getD .skip
def ss130:List Nat:=[5]
noncomputable def jg:Code:=(Tryz.f131.body).getD .skip
def ss131:List Nat:=[3,8,9,10,11,12]
noncomputable def cd132:Code:=(Tryz.f132.body).getD .skip
def ss132:List Nat:=[5]
noncomputable def cd133:Code:=(Tryz.f133.body).getD .skip
def ss133:List Nat:=[10,11]
noncomputable def cd134:Code:=(Tryz.f134.body).getD .skip
def ss134:List Nat:=[3,4]
noncomputable def xt:Code:=(Tryz.f135.body).getD .skip
def ss135:List Nat:=[4,8,9]
noncomputable def cd136:Code:=(Tryz.f136.body).getD .skip
def ss136:List Nat:=[3]
noncomputable def cd137:Code:=(Tryz.f137.body).getD .skip
def ss137:List Nat:=[3]
noncomputable def cd138:Code:=(Tryz.f138.body).getD .skip
def ss138:List Nat:=[2,3,5]
def ss139:List Nat:=[]
noncomputable def cd140:Code:=(Tryz.f140.body).getD .skip
def ss140:List Nat:=[1,4,8,9]
noncomputable def cd141:Code:=(Tryz.f141.body).getD .skip
def ss141:List Nat:=[1,6]
def ss143:List Nat:=[]
noncomputable def cd144:Code:=(Tryz.f144.body).getD .skip
def ss144:List Nat:=[2]
noncomputable def jt:Code:=(Tryz.f145.body).getD .skip
def ss145:List Nat:=[2,6,7,8]
def ss146:List Nat:=[]
def ss147:List Nat:=[]
noncomputable def cd148:Code:=(Tryz.f148.body).getD .skip
def ss148:List Nat:=[2,3]
noncomputable def cd149:Code:=(Tryz.f149.body).getD .skip
def ss149:List Nat:=[2]
noncomputable def cd150:Code:=(Tryz.f150.body).getD .skip
def ss150:List Nat:=[3]
def ss151:List Nat:=[]
noncomputable def cd152:Code:=(Tryz.f152.body).getD .skip
def ss152:List Nat:=[8]
def ss153:List Nat:=[]
noncomputable def cd154:Code:=(Tryz.f154.body).getD .skip
def ss154:List Nat:=[2,3,11]
noncomputable def cd155:Code:=(Tryz.f155.body).getD .skip
def ss155:List Nat:=[4]
def ss167:List Nat:=[]
def ss168:List Nat:=[]
def ss170:List Nat:=[]
def ss171:List Nat:=[]
noncomputable def cd172:Code:=(Tryz.f172.body).getD .skip
def ss172:List Nat:=[8,9]
def ss173:List Nat:=[]
def ss174:List Nat:=[]
def ss175:List Nat:=[]
noncomputable def cd176:Code:=(Tryz.f176.body).getD .skip
def ss176:List Nat:=[2,4,5]
def ss177:List Nat:=[]
noncomputable def cd178:Code:=(Tryz.f178.body).getD .skip
def ss178:List Nat:=[3]
noncomputable def cd179:Code:=(Tryz.f179.body).getD .skip
def ss179:List Nat:=[2,3,4]
noncomputable def cd180:Code:=(Tryz.f180.body).getD .skip
def ss180:List Nat:=[4,7,10]
noncomputable def cd181:Code:=(Tryz.f181.body).getD .skip
def ss181:List Nat:=[5]
def ss182:List Nat:=[]
@[simp] theorem cv_2_30 (n : Int) : cvV Tryz.prog 2 30 (.int .i64 n) = some (.int .u32 (IntKind.u32.wrap n)) := by kernel_rfl
@[simp] theorem cv_2_50 (n : Int) : cvV Tryz.prog 2 50 (.int .i64 n) = some (.float .f64 (FloatKind.f64.nearest n)) := by kernel_rfl
@[simp] theorem cv_2_76 (n : Int) : cvV Tryz.prog 2 76 (.int .i64 n) = some (.int .u64 (IntKind.u64.wrap n)) := by kernel_rfl
@[simp] theorem zD (n : Int) : cvV Tryz.prog 3 5 (.int .i64 n) = some (.int .u8 (IntKind.u8.wrap n)) := by kernel_rfl
@[simp] theorem cv_3_30 (n : Int) : cvV Tryz.prog 3 30 (.int .i64 n) = some (.int .u32 (IntKind.u32.wrap n)) := by kernel_rfl
@[simp] theorem jM (n : Int) : cvV Tryz.prog 3 76 (.int .i64 n) = some (.int .u64 (IntKind.u64.wrap n)) := by kernel_rfl
@[simp] theorem jy (n : Int) : cvV Tryz.prog 5 3 (.int .u8 n) = some (.int .i64 (IntKind.i64.wrap n)) := by kernel_rfl
@[simp] theorem cv_5_30 (n : Int) : cvV Tryz.prog 5 30 (.int .u8 n) = some (.int .u32 (IntKind.u32.wrap n)) := by kernel_rfl
@[simp] theorem cv_5_76 (n : Int) : cvV Tryz.prog 5 76 (.int .u8 n) = some (.int .u64 (IntKind.u64.wrap n)) := by kernel_rfl
@[simp] theorem cv_30_2 (n : Int) : cvV Tryz.prog 30 2 (.int .u32 n) = some (.int .i64 (IntKind.i64.wrap n)) := by kernel_rfl
@[simp] theorem xR (n : Int) : cvV Tryz.prog 30 3 (.int .u32 n) = some (.int .i64 (IntKind.i64.wrap n)) := by kernel_rfl
@[simp] theorem cv_30_5 (n : Int) : cvV Tryz.prog 30 5 (.int .u32 n) = some (.int .u8 (IntKind.u8.wrap n)) := by kernel_rfl
@[simp] theorem zx (n : Int) : cvV Tryz.prog 30 76 (.int .u32 n) = some (.int .u64 (IntKind.u64.wrap n)) := by kernel_rfl
@[simp] theorem cv_34_3 (n : Int) : cvV Tryz.prog 34 3 (.int .u16 n) = some (.int .i64 (IntKind.i64.wrap n)) := by kernel_rfl
@[simp] theorem cv_76_2 (n : Int) : cvV Tryz.prog 76 2 (.int .u64 n) = some (.int .i64 (IntKind.i64.wrap n)) := by kernel_rfl
@[simp] theorem yg (n : Int) : cvV Tryz.prog 76 3 (.int .u64 n) = some (.int .i64 (IntKind.i64.wrap n)) := by kernel_rfl
@[simp] theorem cv_76_5 (n : Int) : cvV Tryz.prog 76 5 (.int .u64 n) = some (.int .u8 (IntKind.u8.wrap n)) := by kernel_rfl
@[simp] theorem zM (n : Int) : cvV Tryz.prog 76 30 (.int .u64 n) = some (.int .u32 (IntKind.u32.wrap n)) := by kernel_rfl
@[simp] theorem cv_76_50 (n : Int) : cvV Tryz.prog 76 50 (.int .u64 n) = some (.float .f64 (FloatKind.f64.nearest n)) := by kernel_rfl
abbrev RO:=Option (AV×Hp)
@[simp] noncomputable abbrev r2 (x : AV) : AV := ro (ro x)
@[simp] noncomputable abbrev nl : AV := .sc (.slice none 0 0)
@[simp] noncomputable abbrev kI (n : Nat) : Value := .int .i64 (.ofNat n)
@[simp] noncomputable abbrev kU (n : Nat) : Value := .int .u64 (.ofNat n)
@[simp] noncomputable abbrev kW (n : Nat) : Value := .int .u32 (.ofNat n)
@[simp] noncomputable abbrev kH (n : Nat) : Value := .int .u16 (.ofNat n)
@[simp] noncomputable abbrev kB (n : Nat) : Value := .int .u8 (.ofNat n)
@[simp] noncomputable abbrev rQ (x : AV) (h : Hp) : RO := some (x, h)
@[simp] noncomputable def cS (f : Nat) (l : List AV) (h : Hp) (K : Value → Hp → RO) : RO := (run cxX f l h).bind fun y => (asSc y.1).bind fun v => K v y.2
@[simp] noncomputable def cA (f : Nat) (l : List AV) (h : Hp) (K : AV → Hp → RO) : RO := (run cxX f l h).bind fun y => (noTup y.1).bind fun _ => K y.1 y.2
@[simp] noncomputable def cT (f : Nat) (l : List AV) (h : Hp) (K : Hp → RO) : RO := (run cxX f l h).bind fun y => (xk 0 y.1).bind fun _ => K y.2
@[simp] noncomputable def cN (n f : Nat) (l : List AV) (h : Hp) (K : AV → Hp → RO) : RO := (run cxX f l h).bind fun y => (xk n y.1).bind fun _ => K y.1 y.2
@[simp] noncomputable def pS (f : Nat) (l : List AV) (K : Value → RO) : RO := (jD l []).bind fun _ => (run cxX f (l.map ro) hp0).bind fun y => (xo y.1).bind fun _ => (asSc y.1).bind fun v => K v
@[simp] noncomputable def pA (f : Nat) (l : List AV) (K : AV → RO) : RO := (jD l []).bind fun _ => (run cxX f (l.map ro) hp0).bind fun y => (xo y.1).bind fun _ => (noTup y.1).bind fun _ => K y.1
@[simp] noncomputable def pT (n f : Nat) (l : List AV) (K : AV → RO) : RO := (jD l []).bind fun _ => (run cxX f (l.map ro) hp0).bind fun y => (xo y.1).bind fun _ => (xk n y.1).bind fun _ => K y.1
@[simp] noncomputable def pR (f : Nat) (l : List AV) (K : AV → RO) : RO := (jD l []).bind fun _ => (run cxX f (l.map ro) hp0).bind fun y => (xo y.1).bind fun _ => K y.1
@[simp] noncomputable def iB (v : Value) (a b : RO) : RO := (asB v).bind fun d => cond d a b
@[simp] noncomputable def iN (v : Value) (a b : RO) : RO := (unV Tryz.prog .not v).bind fun w => (asB w).bind fun d => cond d a b
@[simp] noncomputable def iZ (x : AV) (a b : RO) : RO := (nilP x).bind fun d => cond d a b
@[simp] noncomputable def iG (o : BinOp) (t : TypeId) (x y : Operand) (v w : Value) (a b : RO) : RO := (binV Tryz.prog o t x y v w).bind fun c => (asB c).bind fun d => cond d a b
@[simp] noncomputable def iC (o : BinOp) (t : TypeId) (n : Tmp) (v w : Value) (a b : RO) : RO := (binV Tryz.prog o t (.tmp n) (.const w) v w).bind fun c => (asB c).bind fun d => cond d a b
@[simp] noncomputable def iT (o : BinOp) (t : TypeId) (n m : Tmp) (v w : Value) (a b : RO) : RO := (binV Tryz.prog o t (.tmp n) (.tmp m) v w).bind fun c => (asB c).bind fun d => cond d a b
@[simp] noncomputable def bG (o : BinOp) (t : TypeId) (x y : Operand) (v w : Value) (K : Value → RO) : RO := (binV Tryz.prog o t x y v w).bind fun c => K c
@[simp] noncomputable def bC (o : BinOp) (t : TypeId) (n : Tmp) (v w : Value) (K : Value → RO) : RO := (binV Tryz.prog o t (.tmp n) (.const w) v w).bind fun c => K c
@[simp] noncomputable def bT (o : BinOp) (t : TypeId) (n m : Tmp) (v w : Value) (K : Value → RO) : RO := (binV Tryz.prog o t (.tmp n) (.tmp m) v w).bind fun c => K c
@[simp] noncomputable def cV (a b : TypeId) (v : Value) (K : Value → RO) : RO := (cvV Tryz.prog a b v).bind fun c => K c
@[simp] noncomputable def lpS (k : Nat) (x : AV) (h : Hp) (K : Value → RO) : RO := (qz x).bind fun p => (Hp.rd h p.1 p.2.1).bind fun l => (qe l (p.2.2 + k)).bind fun v => K v
@[simp] noncomputable def lpC (k : Nat) (x : AV) (h : Hp) (K : AV → RO) : RO := (qz x).bind fun p => (Hp.rd h p.1 p.2.1).bind fun l => (getC l (p.2.2 + k)).bind fun v => K v
@[simp] noncomputable def lpN (n k : Nat) (x : AV) (h : Hp) (K : List AV → RO) : RO := (qz x).bind fun p => (Hp.rd h p.1 p.2.1).bind fun l => (getN l (p.2.2 + k) n).bind fun v => K v
@[simp] noncomputable def spN (k : Nat) (x : AV) (h : Hp) (vs : List AV) (K : Hp → RO) : RO := (qz x).bind fun p => (Hp.rd h p.1 p.2.1).bind fun l => (putN l (p.2.2 + k) vs).bind fun m => K (Hp.put h p.1 p.2.1 m)
@[simp] noncomputable def ldS (k : Nat) (x : AV) (h : Hp) (K : Value → RO) : RO := (nnA x).bind fun _ => lpS k x h K
@[simp] noncomputable def ldC (k : Nat) (x : AV) (h : Hp) (K : AV → RO) : RO := (nnA x).bind fun _ => lpC k x h K
@[simp] noncomputable def ldN (n k : Nat) (x : AV) (h : Hp) (K : List AV → RO) : RO := (nnA x).bind fun _ => lpN n k x h K
@[simp] noncomputable def stN (k : Nat) (x : AV) (h : Hp) (vs : List AV) (K : Hp → RO) : RO := (nnA x).bind fun _ => spN k x h vs K
@[simp] noncomputable def ixS (x : AV) (v : Value) (K : Value → RO) : RO := (idxA 1 x v).bind fun c => (qe c 0).bind fun w => K w
@[simp] noncomputable def ap (b : Nat) (x : AV) (v : Value) (K : AV → RO) : RO := (okV [.sc v]).bind fun _ => (appA b 1 x (.us 1 [.sc v])).bind fun y => K y
@[simp] noncomputable def aS (x : AV) (K : Value → RO) : RO := (asSc x).bind fun v => K v
@[simp] noncomputable def nS (x : AV) (i : Nat) (K : Value → RO) : RO := (asSc (ro (nthA x i))).bind fun v => K v
@[simp] noncomputable def ln (x : AV) (K : Nat → RO) : RO := (lenA x).bind fun v => K v
theorem cmb:(∀(x:AV),r2 x=ro (ro x))/\
 (∀(n:Nat),kI n= .int .i64 (.ofNat n))/\
 (∀(n:Nat),kU n= .int .u64 (.ofNat n))/\
 (∀(n:Nat),kW n= .int .u32 (.ofNat n))/\
 (∀(n:Nat),kH n= .int .u16 (.ofNat n))/\
 (∀(n:Nat),kB n= .int .u8 (.ofNat n))/\
 (∀(x:AV) (h:Hp),rQ x h=some (x,h))/\
 (∀(f:Nat) (l:List AV) (h:Hp) (K:Value->Hp->RO),cS f l h K=(run cxX f l h).bind fun y=>(asSc y.1).bind fun v=>K v y.2)/\
 (∀(f:Nat) (l:List AV) (h:Hp) (K:AV->Hp->RO),cA f l h K=(run cxX f l h).bind fun y=>(noTup y.1).bind fun _=>K y.1 y.2)/\
 (∀(f:Nat) (l:List AV) (h:Hp) (K:Hp->RO),cT f l h K=(run cxX f l h).bind fun y=>(xk 0 y.1).bind fun _=>K y.2)/\
 (∀(n f:Nat) (l:List AV) (h:Hp) (K:AV->Hp->RO),cN n f l h K=(run cxX f l h).bind fun y=>(xk n y.1).bind fun _=>K y.1 y.2)/\
 (∀(f:Nat) (l:List AV) (K:Value->RO),pS f l K=(jD l []).bind fun _=>(run cxX f (l.map ro) hp0).bind fun y=>(xo y.1).bind fun _=>(asSc y.1).bind fun v=>K v)/\
 (∀(f:Nat) (l:List AV) (K:AV->RO),pA f l K=(jD l []).bind fun _=>(run cxX f (l.map ro) hp0).bind fun y=>(xo y.1).bind fun _=>(noTup y.1).bind fun _=>K y.1)/\
 (∀(n f:Nat) (l:List AV) (K:AV->RO),pT n f l K=(jD l []).bind fun _=>(run cxX f (l.map ro) hp0).bind fun y=>(xo y.1).bind fun _=>(xk n y.1).bind fun _=>K y.1)/\
 (∀(f:Nat) (l:List AV) (K:AV->RO),pR f l K=(jD l []).bind fun _=>(run cxX f (l.map ro) hp0).bind fun y=>(xo y.1).bind fun _=>K y.1)/\
 (∀(v:Value) (a b:RO),iB v a b=(asB v).bind fun d=>cond d a b)/\
 (∀(v:Value) (a b:RO),iN v a b=(unV Tryz.prog .not v).bind fun w=>(asB w).bind fun d=>cond d a b)/\
 (∀(x:AV) (a b:RO),iZ x a b=(nilP x).bind fun d=>cond d a b)/\
 (∀(o:BinOp) (t:TypeId) (x y:Operand) (v w:Value) (a b:RO),iG o t x y v w a b=(binV Tryz.prog o t x y v w).bind fun c=>(asB c).bind fun d=>cond d a b)/\
 (∀(o:BinOp) (t:TypeId) (n:Tmp) (v w:Value) (a b:RO),iC o t n v w a b=(binV Tryz.prog o t (.tmp n) (.const w) v w).bind fun c=>(asB c).bind fun d=>cond d a b)/\
 (∀(o:BinOp) (t:TypeId) (n m:Tmp) (v w:Value) (a b:RO),iT o t n m v w a b=(binV Tryz.prog o t (.tmp n) (.tmp m) v w).bind fun c=>(asB c).bind fun d=>cond d a b)/\
 (∀(o:BinOp) (t:TypeId) (x y:Operand) (v w:Value) (K:Value->RO),bG o t x y v w K=(binV Tryz.prog o t x y v w).bind fun c=>K c)/\
 (∀(o:BinOp) (t:TypeId) (n:Tmp) (v w:Value) (K:Value->RO),bC o t n v w K=(binV Tryz.prog o t (.tmp n) (.const w) v w).bind fun c=>K c)/\
 (∀(o:BinOp) (t:TypeId) (n m:Tmp) (v w:Value) (K:Value->RO),bT o t n m v w K=(binV Tryz.prog o t (.tmp n) (.tmp m) v w).bind fun c=>K c)/\
 (∀(a b:TypeId) (v:Value) (K:Value->RO),cV a b v K=(cvV Tryz.prog a b v).bind fun c=>K c)/\
 (∀(k:Nat) (x:AV) (h:Hp) (K:Value->RO),lpS k x h K=(qz x).bind fun p=>(Hp.rd h p.1 p.2.1).bind fun l=>(qe l (p.2.2+k)).bind fun v=>K v)/\
 (∀(k:Nat) (x:AV) (h:Hp) (K:AV->RO),lpC k x h K=(qz x).bind fun p=>(Hp.rd h p.1 p.2.1).bind fun l=>(getC l (p.2.2+k)).bind fun v=>K v)/\
 (∀(n k:Nat) (x:AV) (h:Hp) (K:List AV->RO),lpN n k x h K=(qz x).bind fun p=>(Hp.rd h p.1 p.2.1).bind fun l=>(getN l (p.2.2+k) n).bind fun v=>K v)/\
 (∀(k:Nat) (x:AV) (h:Hp) (vs:List AV) (K:Hp->RO),spN k x h vs K=(qz x).bind fun p=>(Hp.rd h p.1 p.2.1).bind fun l=>(putN l (p.2.2+k) vs).bind fun m=>K (Hp.put h p.1 p.2.1 m))/\
 (∀(k:Nat) (x:AV) (h:Hp) (K:Value->RO),ldS k x h K=(nnA x).bind fun _=>lpS k x h K)/\
 (∀(k:Nat) (x:AV) (h:Hp) (K:AV->RO),ldC k x h K=(nnA x).bind fun _=>lpC k x h K)/\
 (∀(n k:Nat) (x:AV) (h:Hp) (K:List AV->RO),ldN n k x h K=(nnA x).bind fun _=>lpN n k x h K)/\
 (∀(k:Nat) (x:AV) (h:Hp) (vs:List AV) (K:Hp->RO),stN k x h vs K=(nnA x).bind fun _=>spN k x h vs K)/\
 (∀(x:AV) (v:Value) (K:Value->RO),ixS x v K=(idxA 1 x v).bind fun c=>(qe c 0).bind fun w=>K w)/\
 (∀(b:Nat) (x:AV) (v:Value) (K:AV->RO),ap b x v K=(okV [.sc v]).bind fun _=>(appA b 1 x (.us 1 [.sc v])).bind fun y=>K y)/\
 (∀(x:AV) (K:Value->RO),aS x K=(asSc x).bind fun v=>K v)/\
 (∀(x:AV) (i:Nat) (K:Value->RO),nS x i K=(asSc (ro (nthA x i))).bind fun v=>K v)/\
 (∀(x:AV) (K:Nat->RO),ln x K=(lenA x).bind fun v=>K v):=
 ⟨fun _=>rfl,fun _=>rfl,fun _=>rfl,fun _=>rfl,fun _=>rfl,fun _=>rfl,fun _ _=>rfl,fun _ _ _ _=>rfl,fun _ _ _ _=>rfl,fun _ _ _ _=>rfl,fun _ _ _ _ _=>rfl,fun _ _ _=>rfl,fun _ _ _=>rfl,fun _ _ _ _=>rfl,fun _ _ _=>rfl,fun _ _ _=>rfl,fun _ _ _=>rfl,fun _ _ _=>rfl,fun _ _ _ _ _ _ _ _=>rfl,fun _ _ _ _ _ _ _=>rfl,fun _ _ _ _ _ _ _ _=>rfl,fun _ _ _ _ _ _ _=>rfl,fun _ _ _ _ _ _=>rfl,fun _ _ _ _ _ _ _=>rfl,fun _ _ _ _=>rfl,fun _ _ _ _=>rfl,fun _ _ _ _=>rfl,fun _ _ _ _ _=>rfl,fun _ _ _ _ _=>rfl,fun _ _ _ _=>rfl,fun _ _ _ _=>rfl,fun _ _ _ _ _=>rfl,fun _ _ _ _ _=>rfl,fun _ _ _=>rfl,fun _ _ _ _=>rfl,fun _ _=>rfl,fun _ _ _=>rfl,fun _ _=>rfl⟩
noncomputable def pt:Nat->Nat->List Nat
 |0,_=>[]
 |f+1,n=>cond (Nat.ble n 1) [] (pt f (n/2)++[n%2])
noncomputable def cc(n:Nat)(c:Code):It:=.code (sub (pt 200 n) c)
noncomputable def cl(n:Nat)(c:Code):It:=.inLoop (sub (pt 200 n) c)
noncomputable def cz(n:Nat)(c:Code):It:=.inScope (sub (pt 200 n) c)
noncomputable def va(k:Nat)(x:AV):Nat×SV:=(k,.av x)
noncomputable def vs(k:Nat)(x:Value):Nat×SV:=(k,.sv x)
noncomputable def gb(f:Nat)(its:List It)(sl:List (Nat×SV))(bx:List (Nat×Nat×List AV))(hp:Hp):RO:=go cxX f its ⟨sl,bx,hp⟩
theorem eE(f:Nat)(ss:List Nat)(xs:List AV)(hp:Hp):run cxX f xs hp=ju cxX f xs hp (walk cxX f ss 400):=entry_eq cxX f ss 400 xs hp
theorem eB(f:Nat)(ss:List Nat)(its:List It)(st:St):go cxX f its st=je cxX (run cxX) (walk cxX f ss 400) f its st:=block_eq cxX f ss 400 its st
noncomputable section
def B7_12(v1 v2:Value)(x10:AV)(v12 v13:Value)(b7:List AV)(hp:Hp):=gb 7 [cc 2046 cd7,cc 2047 cd7] [vs 1 v1,vs 2 v2,(7,.lp 7 0 0),va 10 x10,vs 12 v12,vs 13 v13] [(7,0,b7)] hp
theorem E7(a0 a1 a2:AV)(hp:Hp):run cxX 7 [a0,a1,a2] hp=aS a1 fun y0=>aS a2 fun y1=>(qg 7 a0).bind fun y2=>(jD [] []).bind fun y3=>(run cxX 10 [] hp0).bind fun y4=>(xo y4.1).bind fun y5=>aS y4.1 fun y6=>iN y6 (rQ (.sc (.bool false)) hp) ((getN (List.map ro1 y2) 0 7).bind fun y9=>pS 14 [.agg (List.map ro1 y9)] fun y13=>iN y13 (rQ (.sc (.bool true)) hp) ((getN (List.map ro1 y2) 0 7).bind fun y16=>pA 15 [.agg (List.map ro1 y16)] fun z1=>(qg 23 z1).bind fun y21=>(putN [.sc (kB 0),nl,.sc (kI 0),nl,.sc (kI 0),nl,.sc (kI 0),.sc (kI 0),nl,.sc (kI 0),.sc (kI 0),nl,.sc (kI 0),.sc (kW 0),.sc (kW 0),.sc (kW 0),.sc (kW 0),.sc (kW 0),.sc (kW 0),.sc (kW 0),.sc (Value.float Go.FloatKind.f64 0),.sc (Value.float Go.FloatKind.f64 0),nl] 0 y21).bind fun y22=>(getN y22 0 23).bind fun y23=>pT 2 16 [.agg (List.map ro1 y23)] fun z2=>nS z2 1 fun y28=>cV 34 3 y0 fun y29=>cA 20 [.sc y29] hp fun z3 h4=>(qe y22 0).bind fun y32=>cN 2 17 [.sc y32,ro (r2 (nthA z2 0)),r2 z3] h4 fun z5 h6=>nS z5 1 fun y35=>(qg 23 (ro (nthA z5 0))).bind fun y36=>(putN [.sc (kB 0),nl,.sc (kI 0),nl,.sc (kI 0),nl,.sc (kI 0),.sc (kI 0),nl,.sc (kI 0),.sc (kI 0),nl,.sc (kI 0),.sc (kW 0),.sc (kW 0),.sc (kW 0),.sc (kW 0),.sc (kW 0),.sc (kW 0),.sc (kW 0),.sc (Value.float Go.FloatKind.f64 0),.sc (Value.float Go.FloatKind.f64 0),nl] 0 y36).bind fun y37=>ln (r2 (nthA z2 0)) fun y38=>pS 21 [.sc (kI y38)] fun y42=>cV 34 3 y0 fun y43=>iT .gtr 3 44 46 y42 y43 (B7_12 y0 y1 z3 y35 (kI 14) y22 h6) (B7_12 y0 y1 z3 y35 (kI 0) y22 h6))):=
 (eE 7 ss7 _ _).trans (by kernel_rfl)
theorem B7_12_eq(v1 v2:Value)(x10:AV)(v12 v13:Value)(b7:List AV)(hp:Hp):B7_12 v1 v2 x10 v12 v13 b7 hp=(getN b7 0 23).bind fun y46=>(qg 23 (.agg (List.map ro1 y46))).bind fun y47=>(putN [.sc (kB 0),nl,.sc (kI 0),nl,.sc (kI 0),nl,.sc (kI 0),.sc (kI 0),nl,.sc (kI 0),.sc (kI 0),nl,.sc (kI 0),.sc (kW 0),.sc (kW 0),.sc (kW 0),.sc (kW 0),.sc (kW 0),.sc (kW 0),.sc (kW 0),.sc (Value.float Go.FloatKind.f64 0),.sc (Value.float Go.FloatKind.f64 0),nl] 0 y47).bind fun y48=>(putN y48 0 [.sc (kB 6)]).bind fun y49=>(getN y49 0 23).bind fun y50=>pT 2 16 [.agg (List.map ro1 y50)] fun z1=>nS z1 1 fun y55=>(qe b7 0).bind fun y56=>(xM 1 1 (.ofNat 1048577) (.ofNat 1048577)).bind fun y57=>cN 2 17 [.sc y56,ro (AV.us 1 (xx (.ofNat 1048577) [kB 0])),.sc (Value.pointer none)] hp fun z2 h3=>nS z2 1 fun y60=>(qg 23 (r2 (nthA z2 0))).bind fun y61=>(putN [.sc (kB 0),nl,.sc (kI 0),nl,.sc (kI 0),nl,.sc (kI 0),.sc (kI 0),nl,.sc (kI 0),.sc (kI 0),nl,.sc (kI 0),.sc (kW 0),.sc (kW 0),.sc (kW 0),.sc (kW 0),.sc (kW 0),.sc (kW 0),.sc (kW 0),.sc (Value.float Go.FloatKind.f64 0),.sc (Value.float Go.FloatKind.f64 0),nl] 0 y61).bind fun y62=>iT .eql 57 62 63 v12 v13 (cS 22 [r2 x10] h3 fun y66 h4=>cV 34 3 v1 fun y67=>iT .leq 3 67 69 y66 y67 (iC .eql 57 73 y55 (kI 5) (iC .eql 57 77 y60 (kI 6) (pS 21 [.sc v2] fun y77=>(bltV Tryz.prog Go.Builtin.max (Array.mk [3,3]) 3 [v2,kI 0]).bind fun y78=>(bltV Tryz.prog Go.Builtin.min (Array.mk [3,3]) 3 [y78,kI 1048576]).bind fun y79=>bG .mul 3 (.const (kI 64)) (.tmp 85) (kI 64) y79 fun y80=>bC .add 3 86 y80 (kI 16384) fun y81=>bT .eql 3 82 87 y77 y81 fun y82=>rQ (.sc y82) h4) (rQ (.sc (.bool false)) h4)) (rQ (.sc (.bool false)) h4)) (rQ (.sc (.bool false)) h4)) (rQ (.sc (.bool false)) h3):=
 (eB 7 ss7 _ _).trans (by kernel_rfl)
end
noncomputable section
def B11_2(x0:AV)(v1 v6:Value)(x9:AV)(v10 v11:Value)(hp:Hp):=gb 11 [cc 56 cd11,cc 57 cd11,cl 28 cd11,.inBlock 0] [va 0 x0,vs 1 v1,vs 6 v6,va 9 x9,vs 10 v10,vs 11 v11] [] hp
def B11_6(x0:AV)(v1 v6 v8:Value)(x9:AV)(v10 v11:Value)(hp:Hp):=gb 11 [cc 3686 cd11,cc 3687 cd11,.inBlock 1,cc 231 cd11,cl 28 cd11,.inBlock 0] [va 0 x0,vs 1 v1,vs 6 v6,vs 8 v8,va 9 x9,vs 10 v10,vs 11 v11] [] hp
theorem E11(a0 a1 a2:AV)(hp:Hp):run cxX 11 [a0,a1,a2] hp=aS a1 fun y0=>ln (ro a2) fun y1=>B11_2 a0 y0 (kI 0) (ro a2) (kI y1) (kI 0) hp:=
 (eE 11 ss11 _ _).trans (by kernel_rfl)
theorem B11_2_eq(x0:AV)(v1 v6:Value)(x9:AV)(v10 v11:Value)(hp:Hp):B11_2 x0 v1 v6 x9 v10 v11 hp=iT .lss 3 11 10 v11 v10 (ixS x9 v11 fun y5=>(bltV Tryz.prog Go.Builtin.max (Array.mk [3,3]) 3 [v1,kI 1]).bind fun y6=>bT .rem 3 16 18 v11 y6 fun y7=>iC .eql 3 19 y7 (kI 0) (B11_6 x0 v1 (kI 0) y5 x9 v10 v11 hp) (B11_6 x0 v1 v6 y5 x9 v10 v11 hp)) (rQ (.tup []) hp):=
 (eB 11 ss11 _ _).trans (by kernel_rfl)
theorem B11_6_eq(x0:AV)(v1 v6 v8:Value)(x9:AV)(v10 v11:Value)(hp:Hp):B11_6 x0 v1 v6 v8 x9 v10 v11 hp=cV 30 2 v8 fun y10=>bT .sub 2 23 24 y10 v6 fun y11=>cT 12 [r2 x0,.sc y11] hp fun h1=>cV 30 2 v8 fun y14=>bC .add 3 11 v11 (kI 1) fun y15=>B11_2 x0 v1 y14 x9 v10 y15 h1:=
 (eB 11 ss11 _ _).trans (by kernel_rfl)
def xX(x5:AV)(hp:Hp):=gb 16 [cc 62 cd16,cc 109 cd16] [va 5 x5] [] hp
theorem E16(a0:AV)(hp:Hp):run cxX 16 [a0] hp=(qg 23 a0).bind fun y0=>(getN (List.map ro1 y0) 0 23).bind fun y1=>pS 23 [.agg (List.map ro1 y1)] fun y5=>iC .neq 57 16 y5 (kI 0) (rQ (.tup [nl,.sc y5]) hp) ((qe (List.map ro1 y0) 0).bind fun y8=>iC .eql 39 22 y8 (kB 0) ((getC (List.map ro1 y0) 1).bind fun y11=>pT 2 32 [ro1 y11] fun z1=>nS z1 1 fun y16=>cT 33 [ro (r2 (nthA z1 0)),r2 (AV.ptr hp.1 0 0)] (Hp.new hp [nl]) fun h2=>xX (AV.ptr hp.1 0 0) h2) (iC .eql 39 22 y8 (kB 1) ((qe (List.map ro1 y0) 2).bind fun y21=>cV 3 76 y21 fun y22=>cT 25 [r2 (AV.ptr hp.1 0 0),.sc y22] (Hp.new hp [nl]) fun h3=>(getC (List.map ro1 y0) 3).bind fun y25=>pT 2 34 [ro1 y25] fun z4=>nS z4 1 fun y30=>cT 35 [r2 (AV.ptr hp.1 0 0),ro (r2 (nthA z4 0))] h3 fun h5=>xX (AV.ptr hp.1 0 0) h5) (iC .eql 39 22 y8 (kB 2) ((qe (List.map ro1 y0) 4).bind fun y35=>cV 3 5 y35 fun y36=>cT 36 [r2 (AV.ptr hp.1 0 0),.sc y36] (Hp.new hp [nl]) fun h6=>(getC (List.map ro1 y0) 5).bind fun y39=>pT 2 37 [.sc (kI 64),ro1 y39] fun z7=>nS z7 1 fun y44=>cT 35 [r2 (AV.ptr hp.1 0 0),ro (r2 (nthA z7 0))] h6 fun h8=>xX (AV.ptr hp.1 0 0) h8) (iC .eql 39 22 y8 (kB 3) ((qe (List.map ro1 y0) 6).bind fun y49=>cV 3 76 y49 fun y50=>cT 25 [r2 (AV.ptr hp.1 0 0),.sc y50] (Hp.new hp [nl]) fun h9=>(qe (List.map ro1 y0) 7).bind fun y53=>cV 3 5 y53 fun y54=>cT 36 [r2 (AV.ptr hp.1 0 0),.sc y54] h9 fun h10=>(getC (List.map ro1 y0) 8).bind fun y57=>pT 2 38 [ro1 y57] fun z11=>nS z11 1 fun y62=>(qg 5 (ro (nthA z11 0))).bind fun y63=>(putN [.sc (kI 0),.sc (kW 0),.sc (kI 0),nl,nl] 0 y63).bind fun y64=>(getN y64 0 5).bind fun y65=>cT 39 [ro (.agg (List.map ro1 y65)),r2 (AV.ptr hp.1 0 0)] h10 fun h12=>xX (AV.ptr hp.1 0 0) h12) (iC .eql 39 22 y8 (kB 4) ((qe (List.map ro1 y0) 9).bind fun y70=>cV 3 5 y70 fun y71=>cT 36 [r2 (AV.ptr hp.1 0 0),.sc y71] (Hp.new hp [nl]) fun h13=>(qe (List.map ro1 y0) 10).bind fun y74=>cV 3 76 y74 fun y75=>cT 25 [r2 (AV.ptr hp.1 0 0),.sc y75] h13 fun h14=>(qe (List.map ro1 y0) 10).bind fun y78=>(getC (List.map ro1 y0) 11).bind fun y79=>cT 11 [r2 (AV.ptr hp.1 0 0),.sc y78,ro (ro1 y79)] h14 fun h15=>xX (AV.ptr hp.1 0 0) h15) (iC .eql 39 22 y8 (kB 5) ((getN (List.map ro1 y0) 12 11).bind fun y84=>cT 40 [r2 (AV.ptr hp.1 0 0),ro (.agg (List.map ro1 y84))] (Hp.new hp [nl]) fun h16=>xX (AV.ptr hp.1 0 0) h16) (xX (AV.ptr hp.1 0 0) (Hp.new hp [nl])))))))):=
 (eE 16 ss16 _ _).trans (by kernel_rfl)
theorem B16_28_eq(x5:AV)(hp:Hp):xX x5 hp=cA 13 [r2 x5] hp fun z1 h2=>rQ (.tup [z1,.sc (kI 0)]) h2:=
 (eB 16 ss16 _ _).trans (by kernel_rfl)
def xW(x9:AV)(b6 b10:List AV)(hp:Hp):=gb 17 [cc 1020 cd17,cc 1021 cd17,cc 511 cd17] [(6,.lp 6 0 0),va 9 x9,(10,.lp 10 0 0)] [(6,0,b6),(10,0,b10)] hp
theorem E17(a0 a1 a2:AV)(hp:Hp):run cxX 17 [a0,a1,a2] hp=aS a0 fun y0=>iC .geq 39 13 y0 (kB 6) (rQ (.tup [.agg [.sc (kB 0),nl,.sc (kI 0),nl,.sc (kI 0),nl,.sc (kI 0),.sc (kI 0),nl,.sc (kI 0),.sc (kI 0),nl,.sc (kI 0),.sc (kW 0),.sc (kW 0),.sc (kW 0),.sc (kW 0),.sc (kW 0),.sc (kW 0),.sc (kW 0),.sc (Value.float Go.FloatKind.f64 0),.sc (Value.float Go.FloatKind.f64 0),nl],.sc (kI 5)]) hp) (ln (ro a1) fun y3=>iC .gtr 3 17 (kI y3) (kI 1048576) (rQ (.tup [.agg [.sc (kB 0),nl,.sc (kI 0),nl,.sc (kI 0),nl,.sc (kI 0),.sc (kI 0),nl,.sc (kI 0),.sc (kI 0),nl,.sc (kI 0),.sc (kW 0),.sc (kW 0),.sc (kW 0),.sc (kW 0),.sc (kW 0),.sc (kW 0),.sc (kW 0),.sc (Value.float Go.FloatKind.f64 0),.sc (Value.float Go.FloatKind.f64 0),nl],.sc (kI 6)]) hp) (ln (ro a1) fun y6=>pS 21 [.sc (kI y6)] fun y10=>cS 41 [r2 a2,.sc y10] hp fun y12 h1=>iC .neq 57 25 y12 (kI 0) (rQ (.tup [.agg [.sc (kB 0),nl,.sc (kI 0),nl,.sc (kI 0),nl,.sc (kI 0),.sc (kI 0),nl,.sc (kI 0),.sc (kI 0),nl,.sc (kI 0),.sc (kW 0),.sc (kW 0),.sc (kW 0),.sc (kW 0),.sc (kW 0),.sc (kW 0),.sc (kW 0),.sc (Value.float Go.FloatKind.f64 0),.sc (Value.float Go.FloatKind.f64 0),nl],.sc y12]) h1) (cA 42 [r2 a1] h1 fun z2 h3=>iC .eql 39 33 y0 (kB 0) (cA 43 [r2 z2] h3 fun z4 h5=>pA 44 [z4] fun z6=>(qg 1 z6).bind fun y25=>(putN [.sc y0,nl,.sc (kI 0),nl,.sc (kI 0),nl,.sc (kI 0),.sc (kI 0),nl,.sc (kI 0),.sc (kI 0),nl,.sc (kI 0),.sc (kW 0),.sc (kW 0),.sc (kW 0),.sc (kW 0),.sc (kW 0),.sc (kW 0),.sc (kW 0),.sc (Value.float Go.FloatKind.f64 0),.sc (Value.float Go.FloatKind.f64 0),nl] 1 y25).bind fun y26=>xW z2 [.sc (kB 0),nl,.sc (kI 0),nl,.sc (kI 0),nl,.sc (kI 0),.sc (kI 0),nl,.sc (kI 0),.sc (kI 0),nl,.sc (kI 0),.sc (kW 0),.sc (kW 0),.sc (kW 0),.sc (kW 0),.sc (kW 0),.sc (kW 0),.sc (kW 0),.sc (Value.float Go.FloatKind.f64 0),.sc (Value.float Go.FloatKind.f64 0),nl] y26 h5) (iC .eql 39 33 y0 (kB 1) (cS 45 [r2 z2,.sc (kU 1024)] h3 fun y30 h7=>cV 76 3 y30 fun y31=>cA 46 [r2 z2] h7 fun z8 h9=>(qg 1 z8).bind fun y34=>(putN [.sc y31,nl] 1 y34).bind fun y35=>(qg 2 (.agg (List.map ro1 y35))).bind fun y36=>(putN [.sc y0,nl,.sc (kI 0),nl,.sc (kI 0),nl,.sc (kI 0),.sc (kI 0),nl,.sc (kI 0),.sc (kI 0),nl,.sc (kI 0),.sc (kW 0),.sc (kW 0),.sc (kW 0),.sc (kW 0),.sc (kW 0),.sc (kW 0),.sc (kW 0),.sc (Value.float Go.FloatKind.f64 0),.sc (Value.float Go.FloatKind.f64 0),nl] 2 y36).bind fun y37=>xW z2 [.sc (kB 0),nl,.sc (kI 0),nl,.sc (kI 0),nl,.sc (kI 0),.sc (kI 0),nl,.sc (kI 0),.sc (kI 0),nl,.sc (kI 0),.sc (kW 0),.sc (kW 0),.sc (kW 0),.sc (kW 0),.sc (kW 0),.sc (kW 0),.sc (kW 0),.sc (Value.float Go.FloatKind.f64 0),.sc (Value.float Go.FloatKind.f64 0),nl] y37 h9) (iC .eql 39 33 y0 (kB 2) (cA 47 [r2 z2] h3 fun z10 h11=>(qg 2 z10).bind fun y42=>(putN [.sc y0,nl,.sc (kI 0),nl,.sc (kI 0),nl,.sc (kI 0),.sc (kI 0),nl,.sc (kI 0),.sc (kI 0),nl,.sc (kI 0),.sc (kW 0),.sc (kW 0),.sc (kW 0),.sc (kW 0),.sc (kW 0),.sc (kW 0),.sc (kW 0),.sc (Value.float Go.FloatKind.f64 0),.sc (Value.float Go.FloatKind.f64 0),nl] 4 y42).bind fun y43=>xW z2 [.sc (kB 0),nl,.sc (kI 0),nl,.sc (kI 0),nl,.sc (kI 0),.sc (kI 0),nl,.sc (kI 0),.sc (kI 0),nl,.sc (kI 0),.sc (kW 0),.sc (kW 0),.sc (kW 0),.sc (kW 0),.sc (kW 0),.sc (kW 0),.sc (kW 0),.sc (Value.float Go.FloatKind.f64 0),.sc (Value.float Go.FloatKind.f64 0),nl] y43 h11) (iC .eql 39 33 y0 (kB 3) (cS 45 [r2 z2,.sc (kU 4096)] h3 fun y47 h12=>cV 76 3 y47 fun y48=>cS 48 [r2 z2] h12 fun y50 h13=>cV 5 3 y50 fun y51=>cA 49 [r2 z2] h13 fun z14 h15=>pA 50 [z14] fun z16=>(qg 1 z16).bind fun y58=>(putN [.sc y0,nl,.sc (kI 0),nl,.sc (kI 0),nl,.sc y48,.sc y51,nl,.sc (kI 0),.sc (kI 0),nl,.sc (kI 0),.sc (kW 0),.sc (kW 0),.sc (kW 0),.sc (kW 0),.sc (kW 0),.sc (kW 0),.sc (kW 0),.sc (Value.float Go.FloatKind.f64 0),.sc (Value.float Go.FloatKind.f64 0),nl] 8 y58).bind fun y59=>xW z2 [.sc (kB 0),nl,.sc (kI 0),nl,.sc (kI 0),nl,.sc (kI 0),.sc (kI 0),nl,.sc (kI 0),.sc (kI 0),nl,.sc (kI 0),.sc (kW 0),.sc (kW 0),.sc (kW 0),.sc (kW 0),.sc (kW 0),.sc (kW 0),.sc (kW 0),.sc (Value.float Go.FloatKind.f64 0),.sc (Value.float Go.FloatKind.f64 0),nl] y59 h15) (iC .eql 39 33 y0 (kB 4) (cA 51 [r2 z2] h3 fun z17 h18=>(qg 3 z17).bind fun y64=>(putN [.sc y0,nl,.sc (kI 0),nl,.sc (kI 0),nl,.sc (kI 0),.sc (kI 0),nl,.sc (kI 0),.sc (kI 0),nl,.sc (kI 0),.sc (kW 0),.sc (kW 0),.sc (kW 0),.sc (kW 0),.sc (kW 0),.sc (kW 0),.sc (kW 0),.sc (Value.float Go.FloatKind.f64 0),.sc (Value.float Go.FloatKind.f64 0),nl] 9 y64).bind fun y65=>xW z2 [.sc (kB 0),nl,.sc (kI 0),nl,.sc (kI 0),nl,.sc (kI 0),.sc (kI 0),nl,.sc (kI 0),.sc (kI 0),nl,.sc (kI 0),.sc (kW 0),.sc (kW 0),.sc (kW 0),.sc (kW 0),.sc (kW 0),.sc (kW 0),.sc (kW 0),.sc (Value.float Go.FloatKind.f64 0),.sc (Value.float Go.FloatKind.f64 0),nl] y65 h18) (iC .eql 39 33 y0 (kB 5) (cA 52 [r2 z2] h3 fun z19 h20=>(qg 11 z19).bind fun y70=>(putN [.sc y0,nl,.sc (kI 0),nl,.sc (kI 0),nl,.sc (kI 0),.sc (kI 0),nl,.sc (kI 0),.sc (kI 0),nl,.sc (kI 0),.sc (kW 0),.sc (kW 0),.sc (kW 0),.sc (kW 0),.sc (kW 0),.sc (kW 0),.sc (kW 0),.sc (Value.float Go.FloatKind.f64 0),.sc (Value.float Go.FloatKind.f64 0),nl] 12 y70).bind fun y71=>xW z2 [.sc (kB 0),nl,.sc (kI 0),nl,.sc (kI 0),nl,.sc (kI 0),.sc (kI 0),nl,.sc (kI 0),.sc (kI 0),nl,.sc (kI 0),.sc (kW 0),.sc (kW 0),.sc (kW 0),.sc (kW 0),.sc (kW 0),.sc (kW 0),.sc (kW 0),.sc (Value.float Go.FloatKind.f64 0),.sc (Value.float Go.FloatKind.f64 0),nl] y71 h20) (xW z2 [.sc (kB 0),nl,.sc (kI 0),nl,.sc (kI 0),nl,.sc (kI 0),.sc (kI 0),nl,.sc (kI 0),.sc (kI 0),nl,.sc (kI 0),.sc (kW 0),.sc (kW 0),.sc (kW 0),.sc (kW 0),.sc (kW 0),.sc (kW 0),.sc (kW 0),.sc (Value.float Go.FloatKind.f64 0),.sc (Value.float Go.FloatKind.f64 0),nl] [.sc y0,nl,.sc (kI 0),nl,.sc (kI 0),nl,.sc (kI 0),.sc (kI 0),nl,.sc (kI 0),.sc (kI 0),nl,.sc (kI 0),.sc (kW 0),.sc (kW 0),.sc (kW 0),.sc (kW 0),.sc (kW 0),.sc (kW 0),.sc (kW 0),.sc (Value.float Go.FloatKind.f64 0),.sc (Value.float Go.FloatKind.f64 0),nl] h3))))))))):=
 (eE 17 ss17 _ _).trans (by kernel_rfl)
theorem B17_24_eq(x9:AV)(b6 b10:List AV)(hp:Hp):xW x9 b6 b10 hp=cS 53 [r2 x9] hp fun y73 h1=>iC .neq 57 81 y73 (kI 0) ((putN b6 0 [.sc (kB 0),nl,.sc (kI 0),nl,.sc (kI 0),nl,.sc (kI 0),.sc (kI 0),nl,.sc (kI 0),.sc (kI 0),nl,.sc (kI 0),.sc (kW 0),.sc (kW 0),.sc (kW 0),.sc (kW 0),.sc (kW 0),.sc (kW 0),.sc (kW 0),.sc (Value.float Go.FloatKind.f64 0),.sc (Value.float Go.FloatKind.f64 0),nl]).bind fun y76=>(getN y76 0 23).bind fun y77=>rQ (.tup [.agg y77,.sc y73]) h1) ((getN b10 0 23).bind fun y78=>pS 23 [.agg (List.map ro1 y78)] fun y82=>iC .neq 57 87 y82 (kI 0) ((putN b6 0 [.sc (kB 0),nl,.sc (kI 0),nl,.sc (kI 0),nl,.sc (kI 0),.sc (kI 0),nl,.sc (kI 0),.sc (kI 0),nl,.sc (kI 0),.sc (kW 0),.sc (kW 0),.sc (kW 0),.sc (kW 0),.sc (kW 0),.sc (kW 0),.sc (kW 0),.sc (Value.float Go.FloatKind.f64 0),.sc (Value.float Go.FloatKind.f64 0),nl]).bind fun y85=>(getN y85 0 23).bind fun y86=>rQ (.tup [.agg y86,.sc y82]) h1) ((getN b10 0 23).bind fun y87=>(putN b10 0 (List.map ro1 y87)).bind fun y88=>(qg 23 (.agg y87)).bind fun y89=>(putN b6 0 y89).bind fun y90=>(getN y90 0 23).bind fun y91=>rQ (.tup [.agg y91,.sc (kI 0)]) h1)):=
 (eB 17 ss17 _ _).trans (by kernel_rfl)
theorem E21(a0:AV)(hp:Hp):run cxX 21 [a0] hp=aS a0 fun y0=>(bltV Tryz.prog Go.Builtin.max (Array.mk [3,3]) 3 [y0,kI 0]).bind fun y1=>(bltV Tryz.prog Go.Builtin.min (Array.mk [3,3]) 3 [y1,kI 1048576]).bind fun y2=>bG .mul 3 (.const (kI 64)) (.tmp 5) (kI 64) y2 fun y3=>bC .add 3 6 y3 (kI 16384) fun y4=>rQ (.sc y4) hp:=
 (eE 21 ss21 _ _).trans (by kernel_rfl)
def B40_5(x0 x4 x23:AV)(v24:Value)(b3:List AV)(hp:Hp):=gb 40 [cc 1000 cd40,cc 1001 cd40,cl 500 cd40,.inBlock 0,cc 63 cd40] [va 0 x0,(3,.lp 3 0 0),va 4 x4,va 23 x23,vs 24 v24] [(3,0,b3)] hp
def B40_14(x0:AV)(v7:Value)(x49:AV)(v50 v51:Value)(hp:Hp):=gb 40 [cc 16376 cd40,cc 16377 cd40,cl 8188 cd40,.inBlock 2] [va 0 x0,vs 7 v7,va 49 x49,vs 50 v50,vs 51 v51] [] hp
theorem E40(a0 a1:AV)(hp:Hp):run cxX 40 [a0,a1] hp=(qg 11 a1).bind fun y0=>(flatL [ro a0]).bind fun y1=>(qe (List.map ro1 y0) 0).bind fun y2=>cV 3 5 y2 fun y3=>cT 36 [r2 a0,.sc y3] hp fun h1=>(qe (List.map ro1 y0) 1).bind fun y6=>cV 30 76 y6 fun y7=>(getBd (ro (AV.fn 4294967321 [ro1 (ro a0)]))).bind fun y8=>cT y8.1 (List.append y8.2 [.sc y7]) h1 fun h2=>(getN (List.map ro1 y0) 2 6).bind fun y11=>B40_5 a0 (AV.fn 4294967321 [ro1 (ro a0)]) (.agg (List.map ro1 y11)) (kI 0) (List.map ro1 y0) h2:=
 (eE 40 ss40 _ _).trans (by kernel_rfl)
theorem yS(x0 x4 x23:AV)(v24:Value)(b3:List AV)(hp:Hp):B40_5 x0 x4 x23 v24 b3 hp=iC .lss 3 24 v24 (kI 6) ((js x23).bind fun y14=>(ixV Tryz.prog 49 y14 v24).bind fun y15=>cV 30 76 y15 fun y16=>(getBd (ro x4)).bind fun y17=>cT y17.1 (List.append y17.2 [.sc y16]) hp fun h1=>bC .add 3 24 v24 (kI 1) fun y20=>B40_5 x0 x4 x23 y20 b3 h1) ((qe b3 8).bind fun y21=>pS 92 [.sc y21] fun y25=>(getBd (ro x4)).bind fun y26=>cT y26.1 (List.append y26.2 [.sc y25]) hp fun h2=>(qe b3 9).bind fun y29=>pS 92 [.sc y29] fun y33=>(getBd (ro x4)).bind fun y34=>cT y34.1 (List.append y34.2 [.sc y33]) h2 fun h3=>(getC b3 10).bind fun y37=>ln (ro1 y37) fun y38=>cV 3 5 (kI y38) fun y39=>cT 36 [r2 x0,.sc y39] h3 fun h4=>(getC b3 10).bind fun y42=>ln (ro1 y42) fun y43=>B40_14 x0 (kU 0) (ro1 y42) (kI y43) (kI 0) h4):=
 (eB 40 ss40 _ _).trans (by kernel_rfl)
theorem B40_14_eq(x0:AV)(v7:Value)(x49:AV)(v50 v51:Value)(hp:Hp):B40_14 x0 v7 x49 v50 v51 hp=iT .lss 3 51 50 v51 v50 (ixS x49 v51 fun y47=>pS 92 [.sc y47] fun y51=>bT .sub 76 57 58 y51 v7 fun y52=>cT 25 [r2 x0,.sc y52] hp fun h1=>pS 92 [.sc y47] fun y58=>bC .add 3 51 v51 (kI 1) fun y59=>B40_14 x0 y58 x49 v50 y59 h1) (rQ (.tup []) hp):=
 (eB 40 ss40 _ _).trans (by kernel_rfl)
def B47_8(x5:AV)(b2 b3:List AV)(hp:Hp):=gb 47 [cc 126 cd47,cc 127 cd47] [(2,.lp 2 0 0),(3,.lp 3 0 0),va 5 x5] [(2,0,b2),(3,0,b3)] hp
theorem E47(a0:AV)(hp:Hp):run cxX 47 [a0] hp=cS 48 [r2 a0] hp fun y1 h1=>cV 5 3 y1 fun y2=>pT 2 74 [.sc y2] fun z2=>nS z2 1 fun y7=>(qg 2 (ro (nthA z2 0))).bind fun y8=>(putN [.sc (kI 0),nl] 0 y8).bind fun y9=>iN y7 (cT 95 [r2 a0,.sc (kI 2)] h1 fun h3=>(getN y9 0 2).bind fun y14=>(putN y9 0 (List.map ro1 y14)).bind fun y15=>(qg 2 (.agg y14)).bind fun y16=>(putN [.sc (kI 0),nl] 0 y16).bind fun y17=>(getN y17 0 2).bind fun y18=>rQ (.agg y18) h3) ((getC y9 1).bind fun y19=>ln (ro1 y19) fun y20=>cS 103 [r2 a0] h1 fun y22 h4=>cA 102 [r2 a0,.sc y22] h4 fun z5 h6=>pT 2 101 [.sc (kI 64),.sc (kI y20),z5] fun z7=>nS z7 1 fun y29=>iC .neq 57 30 y29 (kI 0) (cT 95 [r2 a0,.sc y29] h6 fun h8=>B47_8 (r2 (nthA z7 0)) [.sc (kI 0),nl] y9 h8) (B47_8 (r2 (nthA z7 0)) [.sc (kI 0),nl] y9 h6)):=
 (eE 47 ss47 _ _).trans (by kernel_rfl)
theorem B47_8_eq(x5:AV)(b2 b3:List AV)(hp:Hp):B47_8 x5 b2 b3 hp=(qg 1 (ro x5)).bind fun y34=>(putN b3 1 y34).bind fun y35=>(getN y35 0 2).bind fun y36=>(putN y35 0 (List.map ro1 y36)).bind fun y37=>(qg 2 (.agg y36)).bind fun y38=>(putN b2 0 y38).bind fun y39=>(getN y39 0 2).bind fun y40=>rQ (.agg y40) hp:=
 (eB 47 ss47 _ _).trans (by kernel_rfl)
def B51_7(x0:AV)(v5 v26 v27:Value)(b2 b3:List AV)(hp:Hp):=gb 51 [cc 1000 cd51,cc 1001 cd51,cl 500 cd51,.inBlock 0,cc 63 cd51] [va 0 x0,(2,.lp 2 0 0),(3,.lp 3 0 0),vs 5 v5,vs 26 v26,vs 27 v27] [(2,0,b2),(3,0,b3)] hp
def B51_11(x0:AV)(v5 v6 v26 v27:Value)(b2 b3:List AV)(hp:Hp):=gb 51 [cc 64102 cd51,cc 64103 cd51,.inBlock 1,cc 4007 cd51,cl 500 cd51,.inBlock 0,cc 63 cd51] [va 0 x0,(2,.lp 2 0 0),(3,.lp 3 0 0),vs 5 v5,vs 6 v6,vs 26 v26,vs 27 v27] [(2,0,b2),(3,0,b3)] hp
def B51_19(b2 b3:List AV)(hp:Hp):=gb 51 [cc 126 cd51,cc 235 cd51] [(2,.lp 2 0 0),(3,.lp 3 0 0)] [(2,0,b2),(3,0,b3)] hp
def B51_14(x0:AV)(v5 v6 v26 v27:Value)(b2 b3:List AV)(hp:Hp):=gb 51 [cc 1025654 cd51,cc 128207 cd51,.inBlock 1,cc 4007 cd51,cl 500 cd51,.inBlock 0,cc 63 cd51] [va 0 x0,(2,.lp 2 0 0),(3,.lp 3 0 0),vs 5 v5,vs 6 v6,vs 26 v26,vs 27 v27] [(2,0,b2),(3,0,b3)] hp
def B51_15(x0:AV)(v6 v8 v26 v27:Value)(b2 b3:List AV)(hp:Hp):=gb 51 [cc 1025655 cd51,cc 128207 cd51,.inBlock 1,cc 4007 cd51,cl 500 cd51,.inBlock 0,cc 63 cd51] [va 0 x0,(2,.lp 2 0 0),(3,.lp 3 0 0),vs 6 v6,vs 8 v8,vs 26 v26,vs 27 v27] [(2,0,b2),(3,0,b3)] hp
def B51_16(x0:AV)(v5 v6 v26 v27:Value)(b2 b3:List AV)(hp:Hp):=gb 51 [cc 512828 cd51,cc 512829 cd51,cc 256415 cd51,.inBlock 1,cc 4007 cd51,cl 500 cd51,.inBlock 0,cc 63 cd51] [va 0 x0,(2,.lp 2 0 0),(3,.lp 3 0 0),vs 5 v5,vs 6 v6,vs 26 v26,vs 27 v27] [(2,0,b2),(3,0,b3)] hp
theorem E51(a0:AV)(hp:Hp):run cxX 51 [a0] hp=cS 48 [r2 a0] hp fun y1 h1=>cV 5 3 y1 fun y2=>cS 45 [r2 a0,.sc (kU 256)] h1 fun y4 h2=>cV 76 3 y4 fun y5=>cN 2 76 [.sc y2,.sc y5] h2 fun z3 h4=>nS z3 1 fun y8=>(qg 3 (ro (nthA z3 0))).bind fun y9=>(putN [.sc (kI 0),.sc (kI 0),nl] 0 y9).bind fun y10=>iN y8 (cT 95 [r2 a0,.sc (kI 2)] h4 fun h5=>(getN y10 0 3).bind fun y15=>(frzL h5 (List.map ro1 y15)).bind fun y16=>(qg 3 (.agg y16.1)).bind fun y17=>(putN [.sc (kI 0),.sc (kI 0),nl] 0 y17).bind fun y18=>(getN y18 0 3).bind fun y19=>rQ (.agg y19) y16.2) ((getC y10 2).bind fun y20=>ln (ro1 y20) fun y21=>B51_7 a0 (kI 0) (kI y21) (kI 0) [.sc (kI 0),.sc (kI 0),nl] y10 h4):=
 (eE 51 ss51 _ _).trans (by kernel_rfl)
theorem B51_7_eq(x0:AV)(v5 v26 v27:Value)(b2 b3:List AV)(hp:Hp):B51_7 x0 v5 v26 v27 b2 b3 hp=iT .lss 3 27 26 v27 v26 ((qe b3 1).bind fun y24=>bT .rem 3 30 32 v27 y24 fun y25=>iC .eql 3 33 y25 (kI 0) (B51_11 x0 (kI 0) v27 v26 v27 b2 b3 hp) (B51_11 x0 v5 v27 v26 v27 b2 b3 hp)) (B51_19 b2 b3 hp):=
 (eB 51 ss51 _ _).trans (by kernel_rfl)
theorem B51_11_eq(x0:AV)(v5 v6 v26 v27:Value)(b2 b3:List AV)(hp:Hp):B51_11 x0 v5 v6 v26 v27 b2 b3 hp=cS 107 [r2 x0] hp fun y29 h1=>bT .add 2 37 38 v5 y29 fun y30=>iC .lss 2 40 y30 (kI 0) (B51_14 x0 v5 v6 v26 v27 b2 b3 h1) (iC .gtr 2 43 y30 (kI 4294967295) (B51_14 x0 v5 v6 v26 v27 b2 b3 h1) (iC .lss 2 47 y29 (.int .i64 (.negSucc 4294967295)) (B51_14 x0 v5 v6 v26 v27 b2 b3 h1) (iC .gtr 2 51 y29 (kI 4294967296) (B51_14 x0 v5 v6 v26 v27 b2 b3 h1) (B51_15 x0 v6 y30 v26 v27 b2 b3 h1)))):=
 (eB 51 ss51 _ _).trans (by kernel_rfl)
theorem B51_19_eq(b2 b3:List AV)(hp:Hp):B51_19 b2 b3 hp=(getN b3 0 3).bind fun y39=>(frzL hp (List.map ro1 y39)).bind fun y40=>(qg 3 (.agg y40.1)).bind fun y41=>(putN b2 0 y41).bind fun y42=>(getN y42 0 3).bind fun y43=>rQ (.agg y43) y40.2:=
 (eB 51 ss51 _ _).trans (by kernel_rfl)
theorem B51_15_eq(x0:AV)(v6 v8 v26 v27:Value)(b2 b3:List AV)(hp:Hp):B51_15 x0 v6 v8 v26 v27 b2 b3 hp=B51_16 x0 v8 v6 v26 v27 b2 b3 hp:=
 (eB 51 ss51 _ _).trans (by kernel_rfl)
theorem B51_16_eq(x0:AV)(v5 v6 v26 v27:Value)(b2 b3:List AV)(hp:Hp):B51_16 x0 v5 v6 v26 v27 b2 b3 hp=cS 93 [r2 x0] hp fun y47 h1=>iC .neq 57 58 y47 (kI 0) (B51_19 b2 b3 h1) ((getC b3 2).bind fun y50=>cV 2 30 v5 fun y51=>(qR (ro1 y50)).bind fun y52=>(idx y52.2.2.2.1 v6).bind fun y53=>(chkN y52.2.2.2.2 1).bind fun y54=>(Hp.rd h1 y52.1 y52.2.1).bind fun y55=>(putN y55 (Nat.add y52.2.2.1 (Nat.add 0 y53)) [.sc y51]).bind fun y56=>bC .add 3 27 v27 (kI 1) fun y57=>B51_7 x0 v5 v26 y57 b2 b3 (Hp.put h1 y52.1 y52.2.1 y56)):=
 (eB 51 ss51 _ _).trans (by kernel_rfl)
def B52_3(x0:AV)(v14:Value)(b2 b3:List AV)(hp:Hp):=gb 52 [cc 232 cd52,cc 233 cd52,cl 116 cd52,.inBlock 0,cc 15 cd52] [va 0 x0,(2,.lp 2 0 0),(3,.lp 3 0 0),vs 14 v14] [(2,0,b2),(3,0,b3)] hp
def B52_11(x0:AV)(v5 v37 v38:Value)(b2 b3:List AV)(hp:Hp):=gb 52 [cc 4072 cd52,cc 4073 cd52,cl 2036 cd52,.inBlock 2,cc 255 cd52] [va 0 x0,(2,.lp 2 0 0),(3,.lp 3 0 0),vs 5 v5,vs 37 v37,vs 38 v38] [(2,0,b2),(3,0,b3)] hp
def B52_15(x0:AV)(v5 v6 v37 v38:Value)(b2 b3:List AV)(hp:Hp):=gb 52 [cc 260710 cd52,cc 260711 cd52,.inBlock 3,cc 16295 cd52,cl 2036 cd52,.inBlock 2,cc 255 cd52] [va 0 x0,(2,.lp 2 0 0),(3,.lp 3 0 0),vs 5 v5,vs 6 v6,vs 37 v37,vs 38 v38] [(2,0,b2),(3,0,b3)] hp
theorem E52(a0:AV)(hp:Hp):run cxX 52 [a0] hp=cS 48 [r2 a0] hp fun y1 h1=>cV 5 3 y1 fun y2=>cS 45 [r2 a0,.sc (kU 4294967295)] h1 fun y4 h2=>cV 76 30 y4 fun y5=>B52_3 a0 (kI 0) [.sc (kI 0),.sc (kW 0),.sc (kW 0),.sc (kW 0),.sc (kW 0),.sc (kW 0),.sc (kW 0),.sc (kW 0),.sc (Value.float Go.FloatKind.f64 0),.sc (Value.float Go.FloatKind.f64 0),nl] [.sc y2,.sc y5,.sc (kW 0),.sc (kW 0),.sc (kW 0),.sc (kW 0),.sc (kW 0),.sc (kW 0),.sc (Value.float Go.FloatKind.f64 0),.sc (Value.float Go.FloatKind.f64 0),nl] h2:=
 (eE 52 ss52 _ _).trans (by kernel_rfl)
theorem yR(x0:AV)(v14:Value)(b2 b3:List AV)(hp:Hp):B52_3 x0 v14 b2 b3 hp=iC .lss 3 14 v14 (kI 6) (cS 45 [r2 x0,.sc (kU 4294967295)] hp fun y9 h1=>cV 76 30 y9 fun y10=>(idx 6 v14).bind fun y11=>(putN b3 (Nat.add 2 (Nat.add 0 y11)) [.sc y10]).bind fun y12=>bC .add 3 14 v14 (kI 1) fun y13=>B52_3 x0 y13 b2 y12 h1) (cS 45 [r2 x0,.sc (kU 18446744073709551615)] hp fun y15 h2=>cS 108 [r2 x0,.sc y15] h2 fun y17 h3=>(putN b3 8 [.sc y17]).bind fun y18=>cS 45 [r2 x0,.sc (kU 18446744073709551615)] h3 fun y20 h4=>cS 108 [r2 x0,.sc y20] h4 fun y22 h5=>(putN y18 9 [.sc y22]).bind fun y23=>cS 48 [r2 x0] h5 fun y25 h6=>cV 5 3 y25 fun y26=>(bltV Tryz.prog Go.Builtin.min (Array.mk [3,3]) 3 [y26,kI 17]).bind fun y27=>B52_11 x0 (kU 0) y27 (kI 0) b2 y23 h6):=
 (eB 52 ss52 _ _).trans (by kernel_rfl)
theorem B52_11_eq(x0:AV)(v5 v37 v38:Value)(b2 b3:List AV)(hp:Hp):B52_11 x0 v5 v37 v38 b2 b3 hp=iT .lss 3 38 37 v38 v37 (cS 45 [r2 x0,.sc (kU 18446744073709551615)] hp fun y31 h1=>bT .add 76 42 43 v5 y31 fun y32=>iT .lss 76 44 45 y32 v5 (cT 95 [r2 x0,.sc (kI 2)] h1 fun h2=>B52_15 x0 v5 y31 v37 v38 b2 b3 h2) (B52_15 x0 v5 y31 v37 v38 b2 b3 h1)) ((getN b3 0 11).bind fun y37=>(putN b3 0 (List.map ro1 y37)).bind fun y38=>(qg 11 (.agg y37)).bind fun y39=>(putN b2 0 y39).bind fun y40=>(getN y40 0 11).bind fun y41=>rQ (.agg y41) hp):=
 (eB 52 ss52 _ _).trans (by kernel_rfl)
theorem B52_15_eq(x0:AV)(v5 v6 v37 v38:Value)(b2 b3:List AV)(hp:Hp):B52_15 x0 v5 v6 v37 v38 b2 b3 hp=bT .add 76 49 50 v5 v6 fun y42=>(getC b3 10).bind fun y43=>cS 108 [r2 x0,.sc y42] hp fun y45 h1=>ap 8 y43 y45 fun y47=>(qg 1 y47).bind fun y48=>(putN (List.set b3 10 (ro1 y43)) 10 y48).bind fun y49=>bC .add 3 38 v38 (kI 1) fun y50=>B52_11 x0 y42 v37 y50 b2 y49 h1:=
 (eB 52 ss52 _ _).trans (by kernel_rfl)
def B108_4(v5:Value)(hp:Hp):=gb 108 [cc 30 cd108,cc 31 cd108] [vs 5 v5] [] hp
theorem E108(a0 a1:AV)(hp:Hp):run cxX 108 [a0,a1] hp=aS a1 fun y0=>pT 2 155 [.sc y0] fun z1=>nS z1 0 fun y5=>nS z1 1 fun y6=>iN y6 (cT 95 [r2 a0,.sc (kI 4)] hp fun h2=>B108_4 y5 h2) (B108_4 y5 hp):=
 (eE 108 ss108 _ _).trans (by kernel_rfl)
theorem B108_4_eq(v5:Value)(hp:Hp):B108_4 v5 hp=rQ (.sc v5) hp:=
 (eB 108 ss108 _ _).trans (by kernel_rfl)
end
noncomputable section
def B37_2(hp:Hp):=gb 37 [cc 52 cd37,cc 53 cd37,cc 7 cd37] [] [] hp
def B37_3(v0:Value)(x1:AV)(hp:Hp):=gb 37 [cc 14 cd37,cc 15 cd37] [vs 0 v0,va 1 x1] [] hp
def B37_5(x6 x17:AV)(v18 v19:Value)(hp:Hp):=gb 37 [cc 488 cd37,cc 489 cd37,cl 244 cd37,.inBlock 0,cc 31 cd37] [va 6 x6,va 17 x17,vs 18 v18,vs 19 v19] [] hp
theorem E37(a0 a1:AV)(hp:Hp):run cxX 37 [a0,a1] hp=aS a0 fun y0=>iC .lss 3 9 y0 (kI 1) (B37_2 hp) (iC .gtr 3 12 y0 (kI 64) (B37_2 hp) (B37_3 y0 a1 hp)):=
 (eE 37 ss37 _ _).trans (by kernel_rfl)
theorem B37_3_eq(v0:Value)(x1:AV)(hp:Hp):B37_3 v0 x1 hp=cA 88 [.sc v0] hp fun z1 h2=>ln (ro x1) fun y7=>B37_5 z1 (ro x1) (kI y7) (kI 0) h2:=
 (eB 37 ss37 _ _).trans (by kernel_rfl)
theorem B37_5_eq(x6 x17:AV)(v18 v19:Value)(hp:Hp):B37_5 x6 x17 v18 v19 hp=iT .lss 3 19 18 v19 v18 (ixS x17 v19 fun y11=>cV 5 3 y11 fun y12=>cS 89 [r2 x6,.sc y12] hp fun y14 h1=>iN y14 (rQ (.tup [nl,.sc (kI 2)]) h1) (bC .add 3 19 v19 (kI 1) fun y17=>B37_5 x6 x17 v18 y17 h1)) (cA 90 [r2 x6] hp fun z2 h3=>rQ (.tup [z2,.sc (kI 0)]) h3):=
 (eB 37 ss37 _ _).trans (by kernel_rfl)
theorem E88(a0:AV)(hp:Hp):run cxX 88 [a0] hp=aS a0 fun y0=>cA 137 [.sc y0] hp fun z1 h2=>(qg 1 z1).bind fun y3=>(putN [.sc (Value.pointer none),.sc (kU 0),.sc (kW 0),.sc (kI 0),.sc (kB 0),.sc (.bool false),nl,.sc (kI 0)] 0 y3).bind fun y4=>(putN y4 2 [.sc (kW 4294967295)]).bind fun y5=>(qg 8 (.agg (List.map ro1 y5))).bind fun y6=>rQ (AV.ptr h2.1 0 0) (Hp.new h2 (List.map ro1 y6)):=
 (eE 88 ss88 _ _).trans (by kernel_rfl)
def B89_9(x0:AV)(v1:Value)(hp:Hp):=gb 89 [cc 8160 cd89,cc 8161 cd89,cc 4081 cd89,cl 2040 cd89,.inBlock 0,cc 511 cd89] [va 0 x0,vs 1 v1] [] hp
theorem E89(a0 a1:AV)(hp:Hp):run cxX 89 [a0,a1] hp=aS a1 fun y0=>iZ (ro a0) (rQ (.sc (.bool false)) hp) (ldC 0 (ro a0) hp fun y5=>cN 2 138 [ro (ro1 y5),.sc y0] hp fun z1 h2=>nS z1 0 fun y8=>nS z1 1 fun y9=>iC .eql 3 19 y9 (kI 0) (rQ (.sc (.bool false)) h2) ((nnA (ro a0)).bind fun y12=>(qz (ro a0)).bind fun y13=>(Hp.rd h2 y13.1 y13.2.1).bind fun y14=>(qe y14 (Nat.succ (Nat.succ y13.2.2))).bind fun y15=>ldC 0 (ro a0) h2 fun y19=>cS 139 [ro (ro1 y19)] h2 fun y21 h3=>cV 3 30 y21 fun y22=>bT .quo 30 24 30 y15 y22 fun y23=>(jw (Prod.mk (AV.ptr y13.1 y13.2.1 (Nat.succ (Nat.succ y13.2.2))) 1) h2.2 h3.2).bind fun y24=>ldS 1 (ro a0) h3 fun y28=>cV 30 76 y23 fun y29=>cV 3 76 y8 fun y30=>bT .mul 76 37 39 y29 y30 fun y31=>bT .add 76 35 40 y28 y31 fun y32=>stN 1 (ro a0) h3 [.sc y32] fun h4=>cV 3 30 y9 fun y37=>bT .mul 30 45 47 y23 y37 fun y38=>stN 2 (ro a0) h4 [.sc y38] fun h5=>B89_9 a0 y0 h5)):=
 (eE 89 ss89 _ _).trans (by kernel_rfl)
theorem B89_9_eq(x0:AV)(v1:Value)(hp:Hp):B89_9 x0 v1 hp=ldS 2 (ro x0) hp fun y46=>iC .lss 30 54 y46 (kW 16777216) (ldS 2 (ro x0) hp fun y52=>bC .shl 30 59 y52 (kU 8) fun y53=>stN 2 (ro x0) hp [.sc y53] fun h1=>cT 140 [r2 x0] h1 fun h2=>B89_9 x0 v1 h2) (ldC 0 (ro x0) hp fun y63=>cT 141 [ro (ro1 y63),.sc v1] hp fun h3=>ldS 7 (ro x0) h3 fun y69=>bC .add 3 74 y69 (kI 1) fun y70=>stN 7 (ro x0) h3 [.sc y70] fun h4=>rQ (.sc (.bool true)) h4):=
 (eB 89 ss89 _ _).trans (by kernel_rfl)
def B90_6(x3:AV)(v16:Value)(hp:Hp):=gb 90 [cc 1000 cd90,cc 1001 cd90,cl 500 cd90,.inBlock 0,cc 63 cd90] [va 3 x3,vs 16 v16] [] hp
theorem E90(a0:AV)(hp:Hp):run cxX 90 [a0] hp=iZ (ro a0) (rQ nl hp) (ldN 8 0 (ro a0) hp fun y4=>(qg 8 (.agg (List.map ro1 y4))).bind fun y5=>(Hp.rd (Hp.new hp [.sc (Value.pointer none),.sc (kU 0),.sc (kW 0),.sc (kI 0),.sc (kB 0),.sc (.bool false),nl,.sc (kI 0)]) hp.1 0).bind fun y6=>(putN y6 0 y5).bind fun y7=>(okV []).bind fun y8=>ldC 6 (ro a0) (Hp.put (Hp.new hp [.sc (Value.pointer none),.sc (kU 0),.sc (kW 0),.sc (kI 0),.sc (kB 0),.sc (.bool false),nl,.sc (kI 0)]) hp.1 0 y7) fun y12=>(appA 1 1 (AV.us 1 []) (ro1 y12)).bind fun y13=>(qg 1 y13).bind fun y14=>(Hp.rd (Hp.put (Hp.new hp [.sc (Value.pointer none),.sc (kU 0),.sc (kW 0),.sc (kI 0),.sc (kB 0),.sc (.bool false),nl,.sc (kI 0)]) hp.1 0 y7) hp.1 0).bind fun y15=>(putN y15 6 y14).bind fun y16=>B90_6 (AV.ptr hp.1 0 0) (kI 0) (Hp.put (Hp.put (Hp.new hp [.sc (Value.pointer none),.sc (kU 0),.sc (kW 0),.sc (kI 0),.sc (kB 0),.sc (.bool false),nl,.sc (kI 0)]) hp.1 0 y7) hp.1 0 y16)):=
 (eE 90 ss90 _ _).trans (by kernel_rfl)
theorem B90_6_eq(x3:AV)(v16:Value)(hp:Hp):B90_6 x3 v16 hp=iC .lss 3 16 v16 (kI 5) (cT 140 [ro x3] hp fun h1=>bC .add 3 16 v16 (kI 1) fun y21=>B90_6 x3 y21 h1) ((qz x3).bind fun y22=>(Hp.rd hp y22.1 y22.2.1).bind fun y23=>(getC y23 (Nat.succ (Nat.succ (Nat.succ (Nat.succ (Nat.succ (Nat.succ y22.2.2))))))).bind fun y24=>rQ y24 (Hp.put hp y22.1 y22.2.1 (List.set y23 (Nat.succ (Nat.succ (Nat.succ (Nat.succ (Nat.succ (Nat.succ y22.2.2)))))) (ro1 y24)))):=
 (eB 90 ss90 _ _).trans (by kernel_rfl)
def B101_2(hp:Hp):=gb 101 [cc 52 cd101,cc 53 cd101,cc 7 cd101] [] [] hp
def B101_3(v0 v1:Value)(x2:AV)(hp:Hp):=gb 101 [cc 14 cd101,cc 15 cd101] [vs 0 v0,vs 1 v1,va 2 x2] [] hp
def B101_7(v0:Value)(x2 x8 x9 x10:AV)(v33 v34:Value)(hp:Hp):=gb 101 [cc 2024 cd101,cc 2025 cd101,cl 1012 cd101,.inBlock 0,cc 127 cd101] [vs 0 v0,va 2 x2,va 8 x8,va 9 x9,va 10 x10,vs 33 v33,vs 34 v34] [] hp
def B101_12(v0:Value)(x2 x8 x10:AV)(hp:Hp):=gb 101 [cc 508 cd101,cc 509 cd101,cc 255 cd101] [vs 0 v0,va 2 x2,va 8 x8,va 10 x10] [] hp
theorem E101(a0 a1 a2:AV)(hp:Hp):run cxX 101 [a0,a1,a2] hp=aS a0 fun y0=>aS a1 fun y1=>iC .lss 3 14 y0 (kI 1) (B101_2 hp) (iC .gtr 3 17 y0 (kI 64) (B101_2 hp) (iC .lss 3 21 y1 (kI 0) (B101_2 hp) (iC .gtr 3 25 y1 (kI 4096) (B101_2 hp) (B101_3 y0 y1 a2 hp)))):=
 (eE 101 ss101 _ _).trans (by kernel_rfl)
theorem B101_3_eq(v0 v1:Value)(x2:AV)(hp:Hp):B101_3 v0 v1 x2 hp=cA 42 [r2 x2] hp fun z1 h2=>cA 153 [.sc v0,r2 z1] h2 fun z3 h4=>B101_7 v0 x2 z1 z3 nl v1 (kI 0) h4:=
 (eB 101 ss101 _ _).trans (by kernel_rfl)
theorem B101_7_eq(v0:Value)(x2 x8 x9 x10:AV)(v33 v34:Value)(hp:Hp):B101_7 v0 x2 x8 x9 x10 v33 v34 hp=iT .lss 3 34 33 v34 v33 (cS 154 [r2 x9] hp fun y17 h1=>iC .lss 3 38 y17 (kI 0) (B101_12 v0 x2 x8 x10 h1) (cV 3 5 y17 fun y20=>ap 1 x10 y20 fun y22=>bC .add 3 34 v34 (kI 1) fun y23=>B101_7 v0 x2 x8 x9 y22 v33 y23 h1)) (B101_12 v0 x2 x8 x10 hp):=
 (eB 101 ss101 _ _).trans (by kernel_rfl)
theorem B101_12_eq(v0:Value)(x2 x8 x10:AV)(hp:Hp):B101_12 v0 x2 x8 x10 hp=cS 93 [r2 x8] hp fun y25 h1=>iC .neq 57 47 y25 (kI 0) (cS 93 [r2 x8] h1 fun y29 h2=>rQ (.tup [nl,.sc y29]) h2) (pT 2 37 [.sc v0,ro x10] fun z3=>nS z3 1 fun y34=>(srcA 1 (r2 (nthA z3 0))).bind fun y35=>(qX y35).bind fun y36=>(srcA 1 (ro x2)).bind fun y37=>(qX y37).bind fun y38=>iT .neq 9 58 60 (Value.string (ByteArray.mk (Array.mk y36))) (Value.string (ByteArray.mk (Array.mk y38))) (rQ (.tup [nl,.sc (kI 4)]) h1) (rQ (.tup [x10,.sc (kI 0)]) h1)):=
 (eB 101 ss101 _ _).trans (by kernel_rfl)
def B140_1(x0:AV)(hp:Hp):=gb 140 [cc 20 cd140,cc 21 cd140,cc 3 cd140] [va 0 x0] [] hp
def B140_8(x0:AV)(hp:Hp):=gb 140 [cc 11 cd140,cc 3 cd140] [va 0 x0] [] hp
def B140_4(x0:AV)(v2:Value)(hp:Hp):=gb 140 [cc 1376 cd140,cc 1377 cd140,cc 689 cd140,cl 344 cd140,.inBlock 0,cc 87 cd140,cc 3 cd140] [va 0 x0,vs 2 v2] [] hp
def B140_9(x0:AV)(hp:Hp):=gb 140 [cc 3 cd140] [va 0 x0] [] hp
theorem E140(a0:AV)(hp:Hp):run cxX 140 [a0] hp=ldS 1 (ro a0) hp fun y3=>iC .lss 76 6 y3 (kU 4278190080) (B140_1 a0 hp) (ldS 1 (ro a0) hp fun y9=>iC .geq 76 12 y9 (kU 4294967296) (B140_1 a0 hp) (B140_8 a0 hp)):=
 (eE 140 ss140 _ _).trans (by kernel_rfl)
theorem B140_1_eq(x0:AV)(hp:Hp):B140_1 x0 hp=ldS 1 (ro x0) hp fun y15=>bC .shr 76 18 y15 (kU 32) fun y16=>cV 76 5 y16 fun y17=>ldS 5 (ro x0) hp fun y21=>iB y21 ((nnA (ro x0)).bind fun y23=>(qz (ro x0)).bind fun y24=>(Hp.rd hp y24.1 y24.2.1).bind fun y25=>(getC y25 (Nat.succ (Nat.succ (Nat.succ (Nat.succ (Nat.succ (Nat.succ y24.2.2))))))).bind fun y26=>(nnA (ro x0)).bind fun y27=>(qz (ro x0)).bind fun y28=>(Hp.rd (Hp.put hp y24.1 y24.2.1 (List.set y25 (Nat.succ (Nat.succ (Nat.succ (Nat.succ (Nat.succ (Nat.succ y24.2.2)))))) (ro1 y26))) y28.1 y28.2.1).bind fun y29=>(qe y29 (Nat.succ (Nat.succ (Nat.succ (Nat.succ y28.2.2))))).bind fun y30=>bT .add 5 33 34 y30 y17 fun y31=>ap 1 y26 y31 fun y33=>(nnA (ro x0)).bind fun y34=>(qz (ro x0)).bind fun y35=>(qg 1 y33).bind fun y36=>(Hp.rd (Hp.put hp y24.1 y24.2.1 (List.set y25 (Nat.succ (Nat.succ (Nat.succ (Nat.succ (Nat.succ (Nat.succ y24.2.2)))))) (ro1 y26))) y35.1 y35.2.1).bind fun y37=>(putN y37 (Nat.succ (Nat.succ (Nat.succ (Nat.succ (Nat.succ (Nat.succ y35.2.2)))))) y36).bind fun y38=>(jw (Prod.mk (AV.ptr y28.1 y28.2.1 (Nat.succ (Nat.succ (Nat.succ (Nat.succ y28.2.2))))) 1) hp.2 (Hp.put hp y24.1 y24.2.1 (List.set y25 (Nat.succ (Nat.succ (Nat.succ (Nat.succ (Nat.succ (Nat.succ y24.2.2)))))) (ro1 y26))).2).bind fun y39=>B140_4 x0 y17 (Hp.put (Hp.put hp y24.1 y24.2.1 (List.set y25 (Nat.succ (Nat.succ (Nat.succ (Nat.succ (Nat.succ (Nat.succ y24.2.2)))))) (ro1 y26))) y35.1 y35.2.1 y38)) (B140_4 x0 y17 hp):=
 (eB 140 ss140 _ _).trans (by kernel_rfl)
theorem B140_8_eq(x0:AV)(hp:Hp):B140_8 x0 hp=ldS 3 (ro x0) hp fun y43=>bC .add 3 78 y43 (kI 1) fun y44=>stN 3 (ro x0) hp [.sc y44] fun h1=>B140_9 x0 h1:=
 (eB 140 ss140 _ _).trans (by kernel_rfl)
theorem B140_4_eq(x0:AV)(v2:Value)(hp:Hp):B140_4 x0 v2 hp=ldS 3 (ro x0) hp fun y52=>iC .gtr 3 43 y52 (kI 0) ((nnA (ro x0)).bind fun y55=>(qz (ro x0)).bind fun y56=>(Hp.rd hp y56.1 y56.2.1).bind fun y57=>(getC y57 (Nat.succ (Nat.succ (Nat.succ (Nat.succ (Nat.succ (Nat.succ y56.2.2))))))).bind fun y58=>bG .add 5 (.const (kB 255)) (.tmp 57) (kB 255) v2 fun y59=>ap 1 y58 y59 fun y61=>(nnA (ro x0)).bind fun y62=>(qz (ro x0)).bind fun y63=>(qg 1 y61).bind fun y64=>(Hp.rd (Hp.put hp y56.1 y56.2.1 (List.set y57 (Nat.succ (Nat.succ (Nat.succ (Nat.succ (Nat.succ (Nat.succ y56.2.2)))))) (ro1 y58))) y63.1 y63.2.1).bind fun y65=>(putN y65 (Nat.succ (Nat.succ (Nat.succ (Nat.succ (Nat.succ (Nat.succ y63.2.2)))))) y64).bind fun y66=>ldS 3 (ro x0) (Hp.put (Hp.put hp y56.1 y56.2.1 (List.set y57 (Nat.succ (Nat.succ (Nat.succ (Nat.succ (Nat.succ (Nat.succ y56.2.2)))))) (ro1 y58))) y63.1 y63.2.1 y66) fun y70=>bC .sub 3 48 y70 (kI 1) fun y71=>stN 3 (ro x0) (Hp.put (Hp.put hp y56.1 y56.2.1 (List.set y57 (Nat.succ (Nat.succ (Nat.succ (Nat.succ (Nat.succ (Nat.succ y56.2.2)))))) (ro1 y58))) y63.1 y63.2.1 y66) [.sc y71] fun h1=>B140_4 x0 v2 h1) (ldS 1 (ro x0) hp fun y79=>bC .shr 76 68 y79 (kU 24) fun y80=>cV 76 5 y80 fun y81=>stN 5 (ro x0) hp [.sc (.bool true)] fun h2=>stN 4 (ro x0) h2 [.sc y81] fun h3=>B140_9 x0 h3):=
 (eB 140 ss140 _ _).trans (by kernel_rfl)
theorem B140_9_eq(x0:AV)(hp:Hp):B140_9 x0 hp=ldS 1 (ro x0) hp fun y93=>bC .and 76 86 y93 (kU 16777215) fun y94=>bC .shl 76 87 y94 (kU 8) fun y95=>stN 1 (ro x0) hp [.sc y95] fun h1=>rQ (.tup []) h1:=
 (eB 140 ss140 _ _).trans (by kernel_rfl)
theorem E153(a0 a1:AV)(hp:Hp):run cxX 153 [a0,a1] hp=aS a0 fun y0=>cA 137 [.sc y0] hp fun z1 h2=>cS 178 [r2 a1] h2 fun y4 h3=>(qg 1 z1).bind fun y5=>(putN [.sc (Value.pointer none),.sc (Value.pointer none),.sc (kW 0),.sc (kW 0)] 0 y5).bind fun y6=>(qg 1 (ro a1)).bind fun y7=>(putN y6 1 y7).bind fun y8=>(putN y8 2 [.sc y4]).bind fun y9=>(putN y9 3 [.sc (kW 4294967295)]).bind fun y10=>(qg 4 (.agg (List.map ro1 y10))).bind fun y11=>rQ (AV.ptr h3.1 0 0) (Hp.new h3 (List.map ro1 y11)):=
 (eE 153 ss153 _ _).trans (by kernel_rfl)
def B154_2(hp:Hp):=gb 154 [cc 52 cd154,cc 53 cd154,cc 7 cd154] [] [] hp
def B154_3(x0:AV)(hp:Hp):=gb 154 [cc 14 cd154,cc 15 cd154] [va 0 x0] [] hp
def B154_11(x0:AV)(v4:Value)(hp:Hp):=gb 154 [cc 16352 cd154,cc 16353 cd154,cc 8177 cd154,cl 4088 cd154,.inBlock 0,cc 1023 cd154] [va 0 x0,vs 4 v4] [] hp
theorem E154(a0:AV)(hp:Hp):run cxX 154 [a0] hp=iZ (ro a0) (B154_2 hp) (ldC 1 (ro a0) hp fun y4=>cS 93 [ro (ro1 y4)] hp fun y6 h1=>iC .neq 57 14 y6 (kI 0) (B154_2 h1) (B154_3 a0 h1)):=
 (eE 154 ss154 _ _).trans (by kernel_rfl)
theorem B154_3_eq(x0:AV)(hp:Hp):B154_3 x0 hp=(nnA (ro x0)).bind fun y9=>(qz (ro x0)).bind fun y10=>(Hp.rd hp y10.1 y10.2.1).bind fun y11=>(qe y11 (Nat.succ (Nat.succ (Nat.succ y10.2.2)))).bind fun y12=>ldC 0 (ro x0) hp fun y16=>cS 139 [ro (ro1 y16)] hp fun y18 h1=>cV 3 30 y18 fun y19=>bT .quo 30 20 26 y12 y19 fun y20=>(jw (Prod.mk (AV.ptr y10.1 y10.2.1 (Nat.succ (Nat.succ (Nat.succ y10.2.2)))) 1) hp.2 h1.2).bind fun y21=>ldC 0 (ro x0) h1 fun y25=>ldS 2 (ro x0) h1 fun y29=>bT .quo 30 35 36 y29 y20 fun y30=>cV 30 3 y30 fun y31=>cS 179 [ro (ro1 y25),.sc y31] h1 fun y33 h2=>iC .lss 3 40 y33 (kI 0) (ldC 1 (ro x0) h2 fun y39=>cT 95 [ro (ro1 y39),.sc (kI 4)] h2 fun h3=>rQ (.sc (.int .i64 (.negSucc 0))) h3) (ldC 0 (ro x0) h2 fun y45=>cN 2 138 [ro (ro1 y45),.sc y33] h2 fun z4 h5=>nS z4 0 fun y48=>nS z4 1 fun y49=>ldS 2 (ro x0) h5 fun y53=>cV 3 30 y48 fun y54=>bT .mul 30 60 62 y20 y54 fun y55=>bT .sub 30 59 63 y53 y55 fun y56=>stN 2 (ro x0) h5 [.sc y56] fun h6=>cV 3 30 y49 fun y61=>bT .mul 30 68 70 y20 y61 fun y62=>stN 3 (ro x0) h6 [.sc y62] fun h7=>B154_11 x0 y33 h7):=
 (eB 154 ss154 _ _).trans (by kernel_rfl)
theorem B154_11_eq(x0:AV)(v4:Value)(hp:Hp):B154_11 x0 v4 hp=ldS 3 (ro x0) hp fun y70=>iC .lss 30 77 y70 (kW 16777216) (ldS 3 (ro x0) hp fun y76=>bC .shl 30 82 y76 (kU 8) fun y77=>stN 3 (ro x0) hp [.sc y77] fun h1=>(nnA (ro x0)).bind fun y82=>(qz (ro x0)).bind fun y83=>(Hp.rd h1 y83.1 y83.2.1).bind fun y84=>(qe y84 (Nat.succ (Nat.succ y83.2.2))).bind fun y85=>bC .shl 30 90 y85 (kU 8) fun y86=>ldC 1 (ro x0) h1 fun y90=>cS 48 [ro (ro1 y90)] h1 fun y92 h2=>cV 5 30 y92 fun y93=>bT .or 30 91 97 y86 y93 fun y94=>stN 2 (ro x0) h2 [.sc y94] fun h3=>(jw (Prod.mk (AV.ptr y83.1 y83.2.1 (Nat.succ (Nat.succ y83.2.2))) 1) h1.2 h2.2).bind fun y99=>B154_11 x0 v4 h3) (ldC 1 (ro x0) hp fun y103=>cS 93 [ro (ro1 y103)] hp fun y105 h4=>iC .neq 57 105 y105 (kI 0) (rQ (.sc (.int .i64 (.negSucc 0))) h4) (ldC 0 (ro x0) h4 fun y111=>cT 141 [ro (ro1 y111),.sc v4] h4 fun h5=>rQ (.sc v4) h5)):=
 (eB 154 ss154 _ _).trans (by kernel_rfl)
def B178_3(x0:AV)(v3 v4:Value)(hp:Hp):=gb 178 [cc 232 cd178,cc 233 cd178,cl 116 cd178,.inBlock 0,cc 15 cd178] [va 0 x0,vs 3 v3,vs 4 v4] [] hp
theorem E178(a0:AV)(hp:Hp):run cxX 178 [a0] hp=B178_3 a0 (kW 0) (kI 0) hp:=
 (eE 178 ss178 _ _).trans (by kernel_rfl)
theorem B178_3_eq(x0:AV)(v3 v4:Value)(hp:Hp):B178_3 x0 v3 v4 hp=iC .lss 3 4 v4 (kI 4) (bC .shl 30 6 v3 (kU 8) fun y2=>cS 48 [r2 x0] hp fun y4 h1=>cV 5 30 y4 fun y5=>bT .or 30 7 10 y2 y5 fun y6=>bC .add 3 4 v4 (kI 1) fun y7=>B178_3 x0 y6 y7 h1) (rQ (.sc v3) hp):=
 (eB 178 ss178 _ _).trans (by kernel_rfl)
end
noncomputable section
def B137_3(x3:AV)(v8 v9:Value)(hp:Hp):=gb 137 [cc 232 cd137,cc 233 cd137,cl 116 cd137,.inBlock 0,cc 15 cd137] [va 3 x3,vs 8 v8,vs 9 v9] [] hp
theorem E137(a0:AV)(hp:Hp):run cxX 137 [a0] hp=aS a0 fun y0=>(bltV Tryz.prog Go.Builtin.max (Array.mk [3,3]) 3 [y0,kI 1]).bind fun y1=>(bltV Tryz.prog Go.Builtin.min (Array.mk [3,3]) 3 [y1,kI 64]).bind fun y2=>B137_3 (AV.ptr hp.1 0 0) y2 (kI 0) (Hp.new hp [nl,.sc (kI 0)]):=
 (eE 137 ss137 _ _).trans (by kernel_rfl)
theorem B137_3_eq(x3:AV)(v8 v9:Value)(hp:Hp):B137_3 x3 v8 v9 hp=iT .lss 3 9 8 v9 v8 (ldC 0 (ro x3) hp fun y8=>(okV [.sc (kI 1)]).bind fun y9=>(appM 8 1 (ro1 y8) (AV.us 1 [.sc (kI 1)]) hp).bind fun y10=>(nnA (ro x3)).bind fun y11=>(qz (ro x3)).bind fun y12=>(qg 1 y10.1).bind fun y13=>(Hp.rd y10.2 y12.1 y12.2.1).bind fun y14=>(putN y14 y12.2.2 y13).bind fun y15=>ldS 1 (ro x3) (Hp.put y10.2 y12.1 y12.2.1 y15) fun y19=>bC .add 3 23 y19 (kI 1) fun y20=>stN 1 (ro x3) (Hp.put y10.2 y12.1 y12.2.1 y15) [.sc y20] fun h1=>bC .add 3 9 v9 (kI 1) fun y25=>B137_3 x3 v8 y25 h1) (rQ (ro x3) hp):=
 (eB 137 ss137 _ _).trans (by kernel_rfl)
def B138_2(hp:Hp):=gb 138 [cc 52 cd138,cc 53 cd138,cc 7 cd138] [] [] hp
def B138_3(x0:AV)(v1:Value)(hp:Hp):=gb 138 [cc 14 cd138,cc 15 cd138] [va 0 x0,vs 1 v1] [] hp
def B138_5(x0:AV)(v1 v6:Value)(x22:AV)(v23 v24:Value)(hp:Hp):=gb 138 [cc 488 cd138,cc 489 cd138,cl 244 cd138,.inBlock 0,cc 31 cd138] [va 0 x0,vs 1 v1,vs 6 v6,va 22 x22,vs 23 v23,vs 24 v24] [] hp
theorem E138(a0 a1:AV)(hp:Hp):run cxX 138 [a0,a1] hp=aS a1 fun y0=>iC .lss 3 9 y0 (kI 0) (B138_2 hp) (cS 175 [r2 a0] hp fun y4 h1=>iT .geq 3 12 14 y0 y4 (B138_2 h1) (B138_3 a0 y0 h1)):=
 (eE 138 ss138 _ _).trans (by kernel_rfl)
theorem B138_3_eq(x0:AV)(v1:Value)(hp:Hp):B138_3 x0 v1 hp=ldC 0 (ro x0) hp fun y10=>(qR (ro1 y10)).bind fun y11=>(qI (.ofNat 0) (.ofNat y11.2.2.2.1) none y11.2.2.2.1).bind fun y12=>(qI (.ofNat 0) (.ofNat y12) (Option.some v1) y11.2.2.2.1).bind fun y13=>(qI (.ofNat 0) (.ofNat y13) none 0).bind fun y14=>(chkN y11.2.2.2.2 1).bind fun y15=>ln (AV.ms y11.1 y11.2.1 (Nat.add y11.2.2.1 (Nat.add 0 y14)) (Nat.sub y13 y14) 1) fun y16=>B138_5 x0 v1 (kI 0) (AV.ms y11.1 y11.2.1 (Nat.add y11.2.2.1 (Nat.add 0 y14)) (Nat.sub y13 y14) 1) (kI y16) (kI 0) hp:=
 (eB 138 ss138 _ _).trans (by kernel_rfl)
theorem B138_5_eq(x0:AV)(v1 v6:Value)(x22:AV)(v23 v24:Value)(hp:Hp):B138_5 x0 v1 v6 x22 v23 v24 hp=iT .lss 3 24 23 v24 v23 ((qR x22).bind fun y19=>(idx y19.2.2.2.1 v24).bind fun y20=>(chkN y19.2.2.2.2 1).bind fun y21=>(Hp.rd hp y19.1 y19.2.1).bind fun y22=>(qe y22 (Nat.add y19.2.2.1 (Nat.add 0 y20))).bind fun y23=>bT .add 3 28 29 v6 y23 fun y24=>bC .add 3 24 v24 (kI 1) fun y25=>B138_5 x0 v1 y24 x22 v23 y25 hp) (ldC 0 (ro x0) hp fun y29=>(qR (ro1 y29)).bind fun y30=>(idx y30.2.2.2.1 v1).bind fun y31=>(chkN y30.2.2.2.2 1).bind fun y32=>(Hp.rd hp y30.1 y30.2.1).bind fun y33=>(qe y33 (Nat.add y30.2.2.1 (Nat.add 0 y31))).bind fun y34=>rQ (.tup [.sc v6,.sc y34]) hp):=
 (eB 138 ss138 _ _).trans (by kernel_rfl)
theorem E139(a0:AV)(hp:Hp):run cxX 139 [a0] hp=iZ (ro a0) (rQ (.sc (kI 0)) hp) (ldS 1 (ro a0) hp fun y4=>rQ (.sc y4) hp):=
 (eE 139 ss139 _ _).trans (by kernel_rfl)
def B141_1(x0:AV)(v1:Value)(hp:Hp):=gb 141 [cc 6 cd141,cc 7 cd141] [va 0 x0,vs 1 v1] [] hp
def B141_6(x0 x41:AV)(v42 v43:Value)(hp:Hp):=gb 141 [cc 1016 cd141,cc 1017 cd141,cl 508 cd141,.inBlock 0] [va 0 x0,va 41 x41,vs 42 v42,vs 43 v43] [] hp
theorem E141(a0 a1:AV)(hp:Hp):run cxX 141 [a0,a1] hp=aS a1 fun y0=>iC .lss 3 6 y0 (kI 0) (rQ (.tup []) hp) (cS 175 [r2 a0] hp fun y4 h1=>iT .geq 3 9 11 y0 y4 (rQ (.tup []) h1) (B141_1 a0 y0 h1)):=
 (eE 141 ss141 _ _).trans (by kernel_rfl)
theorem B141_1_eq(x0:AV)(v1:Value)(hp:Hp):B141_1 x0 v1 hp=ldC 0 (ro x0) hp fun y10=>(qR (ro1 y10)).bind fun y11=>(idx y11.2.2.2.1 v1).bind fun y12=>(chkN y11.2.2.2.2 1).bind fun y13=>(Hp.rd hp y11.1 y11.2.1).bind fun y14=>(qe y14 (Nat.add y11.2.2.1 (Nat.add 0 y12))).bind fun y15=>bC .add 3 20 y15 (kI 24) fun y16=>(qR (ro1 y10)).bind fun y17=>(idx y17.2.2.2.1 v1).bind fun y18=>(chkN y17.2.2.2.2 1).bind fun y19=>(Hp.rd hp y17.1 y17.2.1).bind fun y20=>(putN y20 (Nat.add y17.2.2.1 (Nat.add 0 y18)) [.sc y16]).bind fun y21=>ldS 1 (ro x0) (Hp.put hp y17.1 y17.2.1 y21) fun y25=>bC .add 3 26 y25 (kI 24) fun y26=>stN 1 (ro x0) (Hp.put hp y17.1 y17.2.1 y21) [.sc y26] fun h1=>ldS 1 (ro x0) h1 fun y34=>iC .leq 3 33 y34 (kI 4096) (rQ (.tup []) h1) (stN 1 (ro x0) h1 [.sc (kI 0)] fun h2=>ldC 0 (ro x0) h2 fun y44=>ln (ro1 y44) fun y45=>B141_6 x0 (ro1 y44) (kI y45) (kI 0) h2):=
 (eB 141 ss141 _ _).trans (by kernel_rfl)
theorem B141_6_eq(x0 x41:AV)(v42 v43:Value)(hp:Hp):B141_6 x0 x41 v42 v43 hp=iT .lss 3 43 42 v43 v42 ((qR x41).bind fun y48=>(idx y48.2.2.2.1 v43).bind fun y49=>(chkN y48.2.2.2.2 1).bind fun y50=>(Hp.rd hp y48.1 y48.2.1).bind fun y51=>(qe y51 (Nat.add y48.2.2.1 (Nat.add 0 y49))).bind fun y52=>ldC 0 (ro x0) hp fun y56=>bC .add 3 53 y52 (kI 1) fun y57=>bC .quo 3 54 y57 (kI 2) fun y58=>(qR (ro1 y56)).bind fun y59=>(idx y59.2.2.2.1 v43).bind fun y60=>(chkN y59.2.2.2.2 1).bind fun y61=>(Hp.rd hp y59.1 y59.2.1).bind fun y62=>(putN y62 (Nat.add y59.2.2.1 (Nat.add 0 y60)) [.sc y58]).bind fun y63=>ldS 1 (ro x0) (Hp.put hp y59.1 y59.2.1 y63) fun y67=>ldC 0 (ro x0) (Hp.put hp y59.1 y59.2.1 y63) fun y71=>(qR (ro1 y71)).bind fun y72=>(idx y72.2.2.2.1 v43).bind fun y73=>(chkN y72.2.2.2.2 1).bind fun y74=>(Hp.rd (Hp.put hp y59.1 y59.2.1 y63) y72.1 y72.2.1).bind fun y75=>(qe y75 (Nat.add y72.2.2.1 (Nat.add 0 y73))).bind fun y76=>bT .add 3 60 67 y67 y76 fun y77=>stN 1 (ro x0) (Hp.put hp y59.1 y59.2.1 y63) [.sc y77] fun h1=>bC .add 3 43 v43 (kI 1) fun y82=>B141_6 x0 x41 v42 y82 h1) (rQ (.tup []) hp):=
 (eB 141 ss141 _ _).trans (by kernel_rfl)
theorem E175(a0:AV)(hp:Hp):run cxX 175 [a0] hp=iZ (ro a0) (rQ (.sc (kI 0)) hp) (ldC 0 (ro a0) hp fun y4=>ln (ro1 y4) fun y5=>rQ (.sc (kI y5)) hp):=
 (eE 175 ss175 _ _).trans (by kernel_rfl)
def B179_2(hp:Hp):=gb 179 [cc 52 cd179,cc 53 cd179,cc 7 cd179] [] [] hp
def B179_3(x0:AV)(v1:Value)(hp:Hp):=gb 179 [cc 14 cd179,cc 15 cd179] [va 0 x0,vs 1 v1] [] hp
def B179_4(x0:AV)(v1 v5:Value)(hp:Hp):=gb 179 [cc 480 cd179,cc 481 cd179,cc 241 cd179,cl 120 cd179,.inBlock 0,cc 31 cd179] [va 0 x0,vs 1 v1,vs 5 v5] [] hp
theorem E179(a0 a1:AV)(hp:Hp):run cxX 179 [a0,a1] hp=aS a1 fun y0=>iC .lss 3 6 y0 (kI 0) (B179_2 hp) (cS 139 [r2 a0] hp fun y4 h1=>iT .geq 3 9 11 y0 y4 (B179_2 h1) (B179_3 a0 y0 h1)):=
 (eE 179 ss179 _ _).trans (by kernel_rfl)
theorem B179_3_eq(x0:AV)(v1:Value)(hp:Hp):B179_3 x0 v1 hp=B179_4 x0 v1 (kI 0) hp:=
 (eB 179 ss179 _ _).trans (by kernel_rfl)
theorem B179_4_eq(x0:AV)(v1 v5:Value)(hp:Hp):B179_4 x0 v1 v5 hp=ldC 0 (ro x0) hp fun y10=>(qR (ro1 y10)).bind fun y11=>(idx y11.2.2.2.1 v5).bind fun y12=>(chkN y11.2.2.2.2 1).bind fun y13=>(Hp.rd hp y11.1 y11.2.1).bind fun y14=>(qe y14 (Nat.add y11.2.2.1 (Nat.add 0 y12))).bind fun y15=>iT .geq 3 14 21 v1 y15 (ldC 0 (ro x0) hp fun y21=>(qR (ro1 y21)).bind fun y22=>(idx y22.2.2.2.1 v5).bind fun y23=>(chkN y22.2.2.2.2 1).bind fun y24=>(Hp.rd hp y22.1 y22.2.1).bind fun y25=>(qe y25 (Nat.add y22.2.2.1 (Nat.add 0 y23))).bind fun y26=>bT .sub 3 25 32 v1 y26 fun y27=>bC .add 3 23 v5 (kI 1) fun y28=>B179_4 x0 y27 y28 hp) (rQ (.sc v5) hp):=
 (eB 179 ss179 _ _).trans (by kernel_rfl)
end
end Go.Proofs.YtchmioacjkbfcaaGreat.AI
namespace Go.Proofs.YtchmioacjkbfcaaGreat.AI
open Go Go.RowKit
set_option linter.unusedVariables false
set_option linter.unusedSimpArgs false
def gh0(W:World):Gh where
 Om b:=if b<W.heap.size then .oth else .fr
 I b:=match W.heap[b]? with
  |some (.cells arr _ _)=>arr.size
  |_=>0
 mu _ _:=none
 la _ _:=none
theorem hpI0(W:World):HpI (gh0 W) W hp0 where
 heap b g cs h:=by cases h
 next b g _:=rfl
 hlt b g cs h:=by cases h
 new b hb:=⟨by simp[gh0];omega,by simp[gh0,Array.getElem?_eq_none hb]⟩
 vars b hb:=by
  exfalso
  rcases hb with⟨k,g,h⟩|⟨k,g,h⟩<;>simp only[gh0]at h<;>split at h<;>cases h
theorem fr_below{W W':World}{G':Gh}(h:Fr (gh0 W) W G' W'):Below W.heap.size W W':=
 ⟨h.rest.1,h.rest.2.1,h.rest.2.2,h.size,fun k hk=>(h.same k hk (.inr (by simp[gh0,hk]))).1⟩
theorem arg_sc(W:World)(v:Value)(h:v.oneCell'=true):ArgR (gh0 W) W (.sc v) v:=fun _=>RelR.sc v h
theorem cell_lt{W:World}{b i:Nat}{c:Value}(h:W.cell? ⟨b,i,none⟩=some c):i<(gh0 W).I b:=by
 simp only[World.cell?]at h
 simp only[gh0]
 split at h
 ·rename_i arr t fz e
  rw[e]
  exact(Array.getElem?_eq_some_iff.mp (by simpa using h)).1
 ·cases h
theorem arg_sl{W:World}{a:Addr}{n cap sz:Nat}{cs:List AV}{vs:List Value}(hsz:0<sz)(hcs:cs.length=n*sz)(hlen:vs.length=cs.length)(hcap:n<=cap)
  (hcell:∀(i:Nat) (v:Value),vs[i]?=some v->W.cell? (a.add i)=some v) (hvl:∀x∈cs,vl x=true) (hrel:∀(i:Nat) (x:AV) (v:Value),cs[i]?=some x->vs[i]?=some v->RelR (gh0 W) W x v):
  ArgR (gh0 W) W (.sl sz cs) (.slice (some a) n cap):=by
 intro p
 have key:RelR (gh0 W) W (.sl sz cs) (.slice (some a) n cap):=by
  by_cases hn:n=0
  ·subst hn
   have:cs=[]:=List.length_eq_zero_iff.mp (by simpa using hcs)
   subst this
   exact .sl0 sz a cap hsz
  ·obtain⟨b,o,sp⟩:=a
   have hpos:0<vs.length:=by rw[hlen,hcs];exact Nat.mul_pos (Nat.pos_of_ne_zero hn) hsz
   have hsp:sp=none:=by
    have h0:=hcell 0 vs[0] (List.getElem?_eq_getElem hpos)
    have e:(⟨b,o,sp⟩:Addr).add 0=⟨b,o,sp⟩:=rfl
    rw[e]at h0
    simp only[World.cell?]at h0
    split at h0
    ·cases sp with
     |none=>rfl
     |some q=>simp at h0
    ·cases h0
   subst hsp
   have hc':∀k c,vs[k]?=some c->W.cell? ⟨b,o+k,none⟩=some c:=fun k c hk=>by rw[<-qK];exact hcell k c hk
   refine .sl sz cs n cap b o vs hsz (Nat.pos_of_ne_zero hn) hcs hcap ?_ hlen hc' hvl hrel
   have hl:vs.length-1<vs.length:=by omega
   have:=cell_lt (hc' (vs.length-1) _ (List.getElem?_eq_getElem hl))
   omega
 exact(key.c (p 0)).v
theorem law_bool{c:Cx}(hc:Ok c/\DstOk c){f:FuncId}{xs:List AV}{vs:List Value}{v:Value}{hp':Hp}{W:World}(h:run c f xs hp0=some (.sc v,hp'))(hl:xs.length=vs.length)
  (ha:∀(i:Nat) (x:AV) (u:Value),xs[i]?=some x->vs[i]?=some u->ArgR (gh0 W) W x u):Calls c.P f vs.toArray W fun e W'=>e= .returned v/\Below W.heap.size W W':=by
 refine(run_sound hc.1 hc.2 h (hpI0 W) hl ha).mono fun e W' hg=>?_
 obtain⟨u,G',rfl,hf,_,hr⟩:=hg
 have hr':RelR G' W' (.sc v) u:=hr
 cases hr' with
 |sc _ _=>exact⟨rfl,fr_below hf⟩
end Go.Proofs.YtchmioacjkbfcaaGreat.AI
namespace Go.Proofs.YtchmioacjkbfcaaGreat.AI
open Go
set_option linter.unusedVariables false
set_option linter.unusedSimpArgs false
set_option maxRecDepth 100000
set_option maxHeartbeats 0
section
variable (P : Program) (t : TypeId) (x y : Operand) (k k' : IntKind) (a b : Int)
theorem eqGuard_int(op:BinOp):eqGuard op t x y (.int k a) (.int k' b)=pure ():=by
 cases op<;>rfl
theorem zA(op:BinOp)(h:op≠ .shl)(h':op≠ .shr):binV P op t x y (.int k a) (.int k b)=one (qH P (match op with
  | .add| .sub| .mul=>Op.intArith op k a b
  | .quo| .rem=>Op.intDiv op k a b
  | .and| .or| .xor| .andNot=>Op.intBits op k a b
  |_=>Op.intCmp op a b)):=by
 unfold binV
 rw[eqGuard_int]
 cases op<;>simp[Go.binOp]<;>first|rfl|exact absurd rfl h|exact absurd rfl h'
@[simp] theorem zV : binV P .add t x y (.int k a) (.int k b) = some (.int k (k.wrap (a + b))) := by rw [zA P t x y k a b .add (by decide) (by decide)]; rfl
@[simp] theorem yQ : binV P .sub t x y (.int k a) (.int k b) = some (.int k (k.wrap (a - b))) := by rw [zA P t x y k a b .sub (by decide) (by decide)]; rfl
@[simp] theorem binV_mul : binV P .mul t x y (.int k a) (.int k b) = some (.int k (k.wrap (a * b))) := by rw [zA P t x y k a b .mul (by decide) (by decide)]; rfl
@[simp] theorem binV_eql : binV P .eql t x y (.int k a) (.int k b) = some (.bool (decide (a = b))) := by rw [zA P t x y k a b .eql (by decide) (by decide)]; show some (Value.bool (a == b)) = _; congr 2
@[simp] theorem binV_neq : binV P .neq t x y (.int k a) (.int k b) = some (.bool (!decide (a = b))) := by rw [zA P t x y k a b .neq (by decide) (by decide)]; show some (Value.bool (a != b)) = _; rfl
@[simp] theorem binV_lss : binV P .lss t x y (.int k a) (.int k b) = some (.bool (decide (a < b))) := by rw [zA P t x y k a b .lss (by decide) (by decide)]; rfl
@[simp] theorem binV_leq : binV P .leq t x y (.int k a) (.int k b) = some (.bool (decide (a ≤ b))) := by rw [zA P t x y k a b .leq (by decide) (by decide)]; rfl
@[simp] theorem binV_gtr : binV P .gtr t x y (.int k a) (.int k b) = some (.bool (decide (a > b))) := by rw [zA P t x y k a b .gtr (by decide) (by decide)]; rfl
@[simp] theorem binV_geq : binV P .geq t x y (.int k a) (.int k b) = some (.bool (decide (a ≥ b))) := by rw [zA P t x y k a b .geq (by decide) (by decide)]; rfl
theorem xu(h:b≠0):binV P .quo t x y (.int k a) (.int k b)=some (.int k (k.wrap (a.tdiv b))):=by
 rw[zA P t x y k a b .quo (by decide) (by decide)];simp only[Op.intDiv,h,if_false];rfl
theorem qO(h:b≠0):binV P .rem t x y (.int k a) (.int k b)=some (.int k (a.tmod b)):=by
 rw[zA P t x y k a b .rem (by decide) (by decide)];simp only[Op.intDiv,h,if_false];rfl
@[simp] theorem qE : binV P .and t x y (.int k a) (.int k b) = some (.int k (k.wrap (BitVec.ofInt k.bits a &&& BitVec.ofInt k.bits b).toNat)) := by rw [zA P t x y k a b .and (by decide) (by decide)]; rfl
@[simp] theorem ze : binV P .or t x y (.int k a) (.int k b) = some (.int k (k.wrap (BitVec.ofInt k.bits a ||| BitVec.ofInt k.bits b).toNat)) := by rw [zA P t x y k a b .or (by decide) (by decide)]; rfl
@[simp] theorem jA : binV P .xor t x y (.int k a) (.int k b) = some (.int k (k.wrap (BitVec.ofInt k.bits a ^^^ BitVec.ofInt k.bits b).toNat)) := by rw [zA P t x y k a b .xor (by decide) (by decide)]; rfl
@[simp] theorem unV_not (c : Bool) : unV P .not (.bool c) = some (.bool !c) := rfl
@[simp] theorem zN (c : Bool) : asB (.bool c) = some c := rfl
@[simp] theorem asI_int : asI (.int k a) = some a := rfl
@[simp] theorem yj (v : Value) : asSc (.sc v) = some v := rfl
end
theorem qA{α β:Type}(P:Program)(s:Sem α)(f:α->Sem β):qH P (s>>=f)=(qH P s).bind fun a=>qH P (f a):=by
 show qH P (Sem.bind s f)=_
 induction s with
 |pure a=>rfl
 |program k ih=>simp only[Sem.bind,qH];exact ih P
 |mark x k ih=>simp only[Sem.bind,qH];exact ih
 |_=>rfl
@[simp] theorem pureOf_pure {α : Type} (P : Program) (a : α) : qH P (pure a : Sem α) = some a := rfl
theorem eqGuard_str(P:Program)(t:TypeId)(x y:Operand)(op:BinOp)(a b:ByteArray):eqGuard op t x y (.string a) (.string b)=pure ():=by
 cases op<;>rfl
theorem ba_eq(a b:ByteArray):(a.toList==b.toList)=decide (a.data.toList=b.data.toList):=by
 rw[ByteArray.toList_eq,ByteArray.toList_eq]
 by_cases h:a.data.toList=b.data.toList
 ·rw[h];simp
 ·rw[decide_eq_false h];exact beq_eq_false_iff_ne.mpr h
@[simp] theorem binV_seql (P : Program) (t : TypeId) (x y : Operand) (a b : ByteArray) : binV P .eql t x y (.string a) (.string b) = some (.bool (decide (a.data.toList = b.data.toList))) := by
 unfold binV
 rw[eqGuard_str P]
 show some (Value.bool (a.toList==b.toList))=_
 rw[ba_eq]
@[simp] theorem binV_sneq (P : Program) (t : TypeId) (x y : Operand) (a b : ByteArray) : binV P .neq t x y (.string a) (.string b) = some (.bool (!decide (a.data.toList = b.data.toList))) := by
 unfold binV
 rw[eqGuard_str P]
 show some (Value.bool (!(a.toList==b.toList)))=_
 rw[ba_eq]
def Rd(sz:Nat)(x:AV)(cs:List AV):Prop:=x= .sl sz cs\/x= .us sz cs\/(x= .sc nil0/\cs=[])
section
variable {sz : Nat} {x : AV} {cs : List AV}
theorem Rd.ro(h:Rd sz x cs):Rd sz (AI.ro x) cs:=by
 rcases h with rfl|rfl|⟨rfl,rfl⟩
 ·exact .inl rfl
 ·exact .inl rfl
 ·exact .inr (.inr ⟨rfl,rfl⟩)
theorem Rd.ro1(h:Rd sz x cs):Rd sz (AI.ro1 x) cs:=by
 rcases h with rfl|rfl|⟨rfl,rfl⟩
 ·exact .inl rfl
 ·exact .inl rfl
 ·exact .inr (.inr ⟨rfl,rfl⟩)
theorem Rd.len(h:Rd 1 x cs):lenA x=some cs.length:=by
 rcases h with rfl|rfl|⟨rfl,rfl⟩<;>rfl
theorem Rd.idx(h:Rd 1 x cs){k:IntKind}{z:Int}{i:Nat}{y:AV}(hz:z=(i:Int))(hy:cs[i]?=some y):idxA 1 x (.int k z)=some [y]:=by
 subst hz
 have hlt:=(List.getElem?_eq_some_iff.mp hy).1
 have key:((AI.idx (if 1=1 then cs.length else cs.length/1) (.int k (i:Int))).bind fun i=>getN cs (i*1) 1)=some [y]:=by
  have hc:(0:Int)<=(i:Int)/\(i:Int)<(cs.length:Int):=⟨Int.natCast_nonneg i,by omega⟩
  simp only[if_true,AI.idx,asI,Option.bind_some,hc,and_self,Int.toNat_natCast,Nat.mul_one]
  unfold getN
  rw[if_pos (by omega)]
  congr 1
  obtain⟨h1,h2⟩:=List.getElem?_eq_some_iff.mp hy
  rw[List.drop_eq_getElem_cons h1,h2]
  rfl
 rcases h with rfl|rfl|⟨rfl,rfl⟩
 ·simp only[idxA,if_true];simpa using key
 ·simp only[idxA,if_true];simpa using key
 ·simp at hy
end
def Wd(sz:Nat)(x:AV)(cs:List AV):Prop:=x= .us sz cs\/(x= .sc nil0/\cs=[])
theorem Wd.rd{sz:Nat}{x:AV}{cs:List AV}(h:Wd sz x cs):Rd sz x cs:=by
 rcases h with rfl|⟨rfl,rfl⟩
 ·exact .inr (.inl rfl)
 ·exact .inr (.inr ⟨rfl,rfl⟩)
def Flat(ys:List AV):Prop:=ys.map ro1=ys
theorem Wd.app{bytes sz:Nat}{d s:AV}{cs ys:List AV}(hd:Wd sz d cs)(hs:Rd sz s ys)(hf:Flat ys)(hfit:ys≠[]->fits bytes sz (cs.length+ys.length)=true):
  ∃z,appA bytes sz d s=some z/\Wd sz z (cs++ys):=by
 have hsrc:srcA sz s=some ys:=by
  rcases hs with rfl|rfl|⟨rfl,rfl⟩
  ·simp[srcA]
  ·simp[srcA]
  ·rfl
 unfold appA appY
 rw[hsrc]
 simp only[Option.bind_some]
 cases ys with
 |nil=>
  rw[List.append_nil]
  rcases hd with rfl|⟨rfl,rfl⟩
  ·exact⟨.us sz cs,by simp,.inl rfl⟩
  ·exact⟨.sc nil0,rfl,.inr ⟨rfl,rfl⟩⟩
 | cons y ys=>
  have hfit:=hfit (by simp)
  rcases hd with rfl|⟨rfl,rfl⟩
  ·refine⟨.us sz (cs++(y::ys)),?_,.inl rfl⟩
   have hf':(y::ys).map ro1=y::ys:=hf
   have hfit2:fits bytes sz (cs.length+(ys.length+1))=true:=by simpa using hfit
   have hm:ro1 y::List.map ro1 ys=y::ys:=hf'
   simp[hfit2,hm]
  ·refine⟨.us sz (y::ys),?_,.inl rfl⟩
   have hf':(y::ys).map ro1=y::ys:=hf
   have hfit':fits bytes sz (y::ys).length=true:=by simpa using hfit
   have hn:isNil nil0=true:=rfl
   simp only[hn,Bool.true_and,hfit',if_true,hf',List.nil_append]
theorem qf{z:Int}(h1:-9223372036854775808<=z)(h2:z<9223372036854775808):IntKind.i64.wrap z=z:=by
 rw[IntKind.wrap_i64];omega
@[simp] theorem wrap64_0 : IntKind.i64.wrap 0 = 0 := rfl
@[simp] theorem wrap64_1 : IntKind.i64.wrap 1 = 1 := rfl
@[simp] theorem wrap64_2 : IntKind.i64.wrap 2 = 2 := rfl
@[simp] theorem wrap64_3 : IntKind.i64.wrap 3 = 3 := rfl
@[simp] theorem wrap64_4 : IntKind.i64.wrap 4 = 4 := rfl
@[simp] theorem wrap64_5 : IntKind.i64.wrap 5 = 5 := rfl
@[simp] theorem wrap64_6 : IntKind.i64.wrap 6 = 6 := rfl
@[simp] theorem wrap64_7 : IntKind.i64.wrap 7 = 7 := rfl
@[simp] theorem wrap64_8 : IntKind.i64.wrap 8 = 8 := rfl
@[simp] theorem wrap64_9 : IntKind.i64.wrap 9 = 9 := rfl
@[simp] theorem wrap64_10 : IntKind.i64.wrap 10 = 10 := rfl
@[simp] theorem wrap64_11 : IntKind.i64.wrap 11 = 11 := rfl
@[simp] theorem wrap64_12 : IntKind.i64.wrap 12 = 12 := rfl
@[simp] theorem wrap64_13 : IntKind.i64.wrap 13 = 13 := rfl
@[simp] theorem wrap64_14 : IntKind.i64.wrap 14 = 14 := rfl
@[simp] theorem wrap64_15 : IntKind.i64.wrap 15 = 15 := rfl
@[simp] theorem wrap64_16 : IntKind.i64.wrap 16 = 16 := rfl
def S(k sz:Nat)(cs:List AV):AV:=
 match k with
 |0=>.sl sz cs
 |1=>.us sz cs
 |2=>match cs with
  |[]=>.sc nil0
  |_=>.us sz cs
 |_=>match cs with
  |[]=>.sc nil0
  |_=>.sl sz cs
def rk:Nat->Nat
 |0=>0
 |1=>0
 |_=>3
def tg(k:Nat)(cs:List AV):Nat:=
 match cs with
 |[]=>rk k
 |_=>0
@[simp] theorem rk_rk (k : Nat) : rk (rk k) = rk k := by
 match k with
 |0=>rfl
 |1=>rfl
 |n+2=>rfl
@[simp] theorem rk0 : rk 0 = 0 := rfl
@[simp] theorem rk1 : rk 1 = 0 := rfl
@[simp] theorem rk2 : rk 2 = 3 := rfl
@[simp] theorem rk3 : rk 3 = 3 := rfl
section
variable (k sz : Nat) (cs : List AV)
theorem zB:S k sz cs= .sl sz cs\/S k sz cs= .us sz cs\/(S k sz cs= .sc nil0/\cs=[]):=by
 unfold S
 match k,cs with
 |0,_=>exact .inl rfl
 |1,_=>exact .inr (.inl rfl)
 |2,[]=>exact .inr (.inr ⟨rfl,rfl⟩)
 |2,_::_=>exact .inr (.inl rfl)
 |n+3,[]=>exact .inr (.inr ⟨rfl,rfl⟩)
 |n+3,_::_=>exact .inl rfl
@[simp] theorem ro1_S : ro1 (S k sz cs) = S (rk k) sz cs := by
 match k,cs with
 |0,_=>rfl
 |1,_=>rfl
 |2,[]=>rfl
 |2,_::_=>rfl
 |n+3,[]=>rfl
 |n+3,_::_=>rfl
@[simp] theorem ro_S : ro (S k sz cs) = S (rk k) sz cs := by
 match k,cs with
 |0,_=>rfl
 |1,_=>rfl
 |2,[]=>rfl
 |2,_::_=>rfl
 |n+3,[]=>rfl
 |n+3,_::_=>rfl
theorem rd_S:Rd sz (S k sz cs) cs:=zB k sz cs
@[simp] theorem lenA_S : lenA (S k 1 cs) = some cs.length := (rd_S k 1 cs).len
@[simp] theorem idxA_S (K : IntKind) (z : Int) : idxA 1 (S k 1 cs) (.int K z) = if 0 ≤ z then (cs[z.toNat]?).map fun c => [c] else none := by
 by_cases hz:0<=z
 ·rw[if_pos hz]
  cases h:cs[z.toNat]? with
  |some y=>exact(rd_S k 1 cs).idx (by omega) h
  |none=>
   have hl:cs.length<=z.toNat:=by simpa using h
   have hn:¬(z<(cs.length:Int)):=by omega
   rcases zB k 1 cs with e|e|⟨e,e'⟩
   ·rw[e];simp[idxA,idx,asI,hn]
   ·rw[e];simp[idxA,idx,asI,hn]
   ·rw[e];rfl
 ·rw[if_neg hz]
  rcases zB k 1 cs with e|e|⟨e,e'⟩
  ·rw[e];simp[idxA,idx,asI,hz]
  ·rw[e];simp[idxA,idx,asI,hz]
  ·rw[e];rfl
@[simp] theorem cellsN_S : qg 1 (S k sz cs) = some [S k sz cs] := by
 rcases zB k sz cs with e|e|⟨e,e'⟩<;>rw[e]<;>rfl
@[simp] theorem noTup_S : noTup (S k sz cs) = some () := by
 rcases zB k sz cs with e|e|⟨e,e'⟩<;>rw[e]<;>rfl
@[simp] theorem srcA_S : srcA sz (S k sz cs) = some cs := by
 rcases zB k sz cs with e|e|⟨e,e'⟩
 ·rw[e];simp[srcA]
 ·rw[e];simp[srcA]
 ·rw[e,e'];rfl
@[simp] theorem us_S : AV.us sz cs = S 1 sz cs := rfl
@[simp] theorem sl_S : AV.sl sz cs = S 0 sz cs := rfl
end
@[simp] theorem nil_S1 : AV.sc (Value.slice none 0 0) = S 2 1 [] := rfl
@[simp] theorem S3_nil (sz : Nat) : S 3 sz [] = S 2 sz [] := rfl
theorem xj(k:Nat)(cs:List AV)(K:IntKind)(z:Int)(h:0<=z)(h':z<=cs.length):slcA 1 (S k 1 cs) (some (.int K z)) none none=some (S (tg k cs) 1 (cs.drop z.toNat)):=by
  obtain⟨i,rfl⟩:∃i:Nat,z=i:=⟨z.toNat,by omega⟩
  have hi:i<=cs.length:=by omega
  have hb:∀n:Nat,i<=n->qI 0 (n:Int) (some (.int K (i:Int))) 0=some i:=by
    intro n hn
    have:(0:Int)<=(i:Int)/\(i:Int)<=(n:Int):=⟨Int.natCast_nonneg i,by omega⟩
    simp only[qI,asI,Option.bind_some,this,and_self,if_true,Int.toNat_natCast]
  have key:(cs.drop (i*1)).take ((cs.length-i)*1)=cs.drop i:=by
    rw[Nat.mul_one,Nat.mul_one]
    exact List.take_of_length_le (by simp)
  have this:=hb cs.length hi
  simp only[qI]at this
  have a:slcA 1 (.sl 1 cs) (some (.int K i)) none none=some (.sl 1 (cs.drop i)):=by
    simp only[slcA,if_true]
    show(qI 0 _ none _).bind _=_
    simp only[qI,Option.bind_some]
    rw[this]
    simp only[Option.bind_some,key]
  have b:slcA 1 (.us 1 cs) (some (.int K i)) none none=some (.sl 1 (cs.drop i)):=by
    simp only[slcA,if_true]
    show(qI 0 _ none _).bind _=_
    simp only[qI,Option.bind_some]
    rw[this]
    simp only[Option.bind_some,key]
  rw[Int.toNat_natCast]
  match k,cs with
  |0,[]=>exact a
  |0,_::_=>exact a
  |1,[]=>exact b
  |1,_::_=>exact b
  | 2, [] => obtain rfl:i=0:=by simpa using hi
             rfl
  |2,_::_=>exact b
  | n + 3, [] => obtain rfl:i=0:=by simpa using hi
                 rfl
  |n+3,_::_=>exact a
theorem appA_S(b sz k:Nat)(cs ys:List AV)(k':Nat)(hk:k=1\/k=2)(hf:Flat ys)(hfit:ys=[]\/fits b sz (cs.length+ys.length)=true):
  appA b sz (S k sz cs) (S k' sz ys)=some (S k sz (cs++ys)):=by
 unfold appA appY
 rw[srcA_S]
 simp only[Option.bind_some]
 have hf':ys.map ro1=ys:=hf
 match ys,hf',hfit with
 | [],_,_=>
  rw[List.append_nil]
  rcases hk with rfl|rfl
  ·show(if sz=sz then some (AV.us sz cs)else none)=_
   rw[if_pos rfl];rfl
  ·cases cs with
   |nil=>rfl
   |cons c cs=>exact if_pos rfl
 | y::ys,hf',hfit=>
  have hfit:fits b sz (cs.length+(y::ys).length)=true:=hfit.resolve_left (by simp)
  rcases hk with rfl|rfl
  ·simp only[S,hf',hfit,Bool.and_true,decide_true,if_true]
  ·cases cs with
   |nil=>
    have h0:fits b sz (y::ys).length=true:=by simpa using hfit
    simp only[S,hf',h0,isNil,nil0,Bool.and_true,if_true,List.nil_append]
   |cons c cs=>simp only[S,hf',hfit,Bool.and_true,decide_true,if_true,List.cons_append]
theorem xd{b sz n:Nat}(hb:0<b)(h:n*b<=140737488355328*sz):fits b sz n=true:=by
 simp[fits,h,hb]
@[simp] theorem flat_one (v : Value) : Flat [.sc v] := rfl
theorem flat_map{α:Type}(f:α->Value)(l:List α):Flat (l.map fun x=>.sc (f x)):=by
 unfold Flat;rw[List.map_map];rfl
@[simp] theorem ro1_sc (v : Value) : ro1 (.sc v) = .sc v := rfl
@[simp] theorem ro_sc (v : Value) : ro (.sc v) = .sc v := rfl
@[simp] theorem ro_agg (l : List AV) : ro (.agg l) = .agg (l.map ro1) := rfl
@[simp] theorem noTup_sc (v : Value) : noTup (.sc v) = some () := rfl
@[simp] theorem noTup_agg (l : List AV) : noTup (.agg l) = some () := rfl
@[simp] theorem vl_S (k sz : Nat) (cs : List AV) : vl (S k sz cs) = true := by
 rcases zB k sz cs with e|e|⟨e,e'⟩<;>rw[e]<;>rfl
@[simp] theorem vlF_S (k sz : Nat) (cs : List AV) : vlF (S k sz cs) = true := by
 rcases zB k sz cs with e|e|⟨e,e'⟩<;>rw[e]<;>rfl
@[simp] theorem vlV_S (k sz : Nat) (cs : List AV) : vlV (S k sz cs) = true := by
 rcases zB k sz cs with e|e|⟨e,e'⟩<;>rw[e]<;>rfl
@[simp] theorem vl_sc (v : Value) : vl (.sc v) = true := rfl
@[simp] theorem vlF_sc (v : Value) : vlF (.sc v) = true := rfl
@[simp] theorem vlV_sc (v : Value) : vlV (.sc v) = true := rfl
@[simp] theorem vlF_agg (l : List AV) : vlF (.agg l) = l.all vl := rfl
@[simp] theorem vlV_agg (l : List AV) : vlV (.agg l) = l.all vl := rfl
@[simp] theorem vlV_tup (l : List AV) : vlV (.tup l) = l.all vlF := rfl
@[simp] theorem vl_fn (f : FuncId) : vl (.fn f []) = true := rfl
@[simp] theorem vlF_fn (f : FuncId) : vlF (.fn f []) = true := rfl
@[simp] theorem okArgs_eq (xs caps : List AV) : jD xs caps = chk (xs.all vlF = true ∧ caps.all vl = true) := rfl
@[simp] theorem xS (a b : Nat) : chkN a b = chk (a = b) := rfl
@[simp] theorem chkB_eq (b : Bool) : chkB b = chk (b = true) := rfl
@[simp] theorem okV_eq (cs : List AV) : okV cs = chk (cs.all vl = true) := rfl
@[simp] theorem tN_eq (n : Int) : tN n = n.toNat := rfl
theorem okMake_ok{b z:Nat}{n:Int}(h0:0<=n)(hf:n.toNat*b<=140737488355328)(hb:0<b)(hz:0<z):xM b z n n=some ():=
 if_pos ⟨rfl,h0,by simp[fits];omega,hz⟩
@[simp] theorem okRes_eq (y : AV) : xo y = chk (vlV y = true) := rfl
theorem chk_ok{p:Prop}[Decidable p](h:p):chk p=some ():=if_pos h
@[simp] theorem yN : chk True = some () := rfl
@[simp] theorem chk_eq {α : Type} [DecidableEq α] (a : α) : chk (a = a) = some () := if_pos rfl
@[simp] theorem aggX_agg (l : List AV) : aggX (.agg l) = some l := rfl
@[simp] theorem chkTup_tup (n : Nat) (l : List AV) : xk n (.tup l) = if l.length = n then some () else none := rfl
@[simp] theorem nthA_tup (l : List AV) (i : Nat) : nthA (.tup l) i = l.getD i (.tup []) := rfl
theorem okRes_sc(v:Value):xo (.sc v)=some ():=by rw[okRes_eq];exact if_pos (by simp)
@[simp] theorem chk_and2 : chk (True ∧ True) = some () := rfl
@[simp] theorem cellsN_agg (n : Nat) (l : List AV) : qg n (.agg l) = if l.length = n then some l else none := rfl
@[simp] theorem asSc_nil : asSc (.sc nil0) = some nil0 := rfl
theorem ql{α:Type}{l:List α}{i:Nat}{x:α}{r:List α}(h:l.drop i=x::r):l[i]?=some x/\l.drop (i+1)=r/\∃h:i<l.length,l[i]=x:=by
 have hi:i<l.length:=by
  by_cases hi:i<l.length
  ·exact hi
  ·rw[List.drop_eq_nil_of_le (by omega)]at h;cases h
 rw[List.drop_eq_getElem_cons hi]at h
 injection h with h1 h2
 exact⟨by rw[List.getElem?_eq_getElem hi,h1],h2,hi,h1⟩
theorem qt{α:Type}{l:List α}{i:Nat}(h:l.drop i=[]):l.length<=i:=by simpa using h
def LI(K:IntKind)(l:List Int):List AV:=l.map fun n=>.sc (.int K n)
section
variable (K : IntKind) (l : List Int)
theorem flatI:Flat (LI K l):=flat_map _ l
@[simp] theorem vlI : (LI K l).all vl = true := by simp [LI, List.all_map]
@[simp] theorem lenI : (LI K l).length = l.length := by simp [LI]
@[simp] theorem getI? (i : Nat) : (LI K l)[i]? = (l[i]?).map fun n => .sc (.int K n) := by simp [LI]
@[simp] theorem getI (i : Nat) (h : i < (LI K l).length) : (LI K l)[i] = .sc (.int K (l[i]'(by simpa using h))) := by simp [LI]
@[simp] theorem dropI (i : Nat) : (LI K l).drop i = LI K (l.drop i) := by simp [LI]
@[simp] theorem tailI : (LI K l).tail = LI K l.tail := by simp [LI]
@[simp] theorem nilI : LI K [] = [] := rfl
theorem appI(k:Nat)(hk:k=1\/k=2)(b:Nat)(hb:0<b/\b<=1000)(n:Int)(h:l.length<=1000000):appA b 1 (S k 1 (LI K l)) (S 1 1 [.sc (.int K n)])=some (S k 1 (LI K (l++[n]))):=by
 rw[appA_S b 1 k _ _ 1 hk (flat_one _) (.inr (xd hb.1 ?_))]
 ·simp[LI]
 ·simp only[lenI,List.length_cons,List.length_nil]
  have:(l.length+(0+1))*b<=1000001*1000:=Nat.mul_le_mul (by omega) hb.2
  omega
theorem appsI(k:Nat)(hk:k=1\/k=2)(b:Nat)(hb:0<b/\b<=1000)(k':Nat)(m:List Int)(h:l.length+m.length<=1000000):appA b 1 (S k 1 (LI K l)) (S k' 1 (LI K m))=some (S k 1 (LI K (l++m))):=by
 rw[appA_S b 1 k _ _ k' hk (flatI _ _) (.inr (xd hb.1 ?_))]
 ·simp[LI]
 ·simp only[lenI]
  have:(l.length+m.length)*b<=1000000*1000:=Nat.mul_le_mul (by omega) hb.2
  omega
end
section
variable (P : Program) (t : TypeId) (x y : Operand) (k k' : IntKind) (a b : Int)
theorem zJ(h:0<=b):binV P .shr t x y (.int k a) (.int k' b)=some (.int k (a.fdiv (2^(min b.toNat k.bits)))):=by
 unfold binV
 rw[eqGuard_int]
 simp only[Go.binOp,Op.shift]
 rw[if_neg (by omega)]
 rfl
theorem zn(h:0<=b):binV P .shl t x y (.int k a) (.int k' b)=some (.int k (k.wrap (a*2^(min b.toNat k.bits)))):=by
 unfold binV
 rw[eqGuard_int]
 simp only[Go.binOp,Op.shift]
 rw[if_neg (by omega)]
 rfl
end
theorem zo{z:Int}(h1:0<=z)(h2:z<256):IntKind.u8.wrap z=z:=by rw[IntKind.wrap_u8];omega
theorem qv{z:Int}(h1:0<=z)(h2:z<4294967296):IntKind.u32.wrap z=z:=by rw[IntKind.wrap_u32];omega
theorem qr{z:Int}(h1:0<=z)(h2:z<18446744073709551616):IntKind.u64.wrap z=z:=by rw[IntKind.wrap_u64];omega
theorem qN{a b:Int}(h:0<=a):a.tmod b=a%b:=Int.tmod_eq_emod_of_nonneg h
@[simp] theorem bltV_max (P : Program) (ts : Array TypeId) (t : TypeId) (k k' : IntKind) (a b : Int) : bltV P .max ts t [.int k a, .int k' b] = some (.int k (max a b)) := by
 show some (Value.int k (if b>a then b else a))=_
 congr 2
 split<;>omega
@[simp] theorem bltV_min (P : Program) (ts : Array TypeId) (t : TypeId) (k k' : IntKind) (a b : Int) : bltV P .min ts t [.int k a, .int k' b] = some (.int k (min a b)) := by
 show some (Value.int k (if b<a then b else a))=_
 congr 2
 split<;>omega
@[simp] theorem yH (b g o n z : Nat) : qR (.ms b g o n z) = some (b, g, o, n, z) := rfl
@[simp] theorem ro_ms (b g o n z : Nat) : ro (.ms b g o n z) = .ms b g o n z := rfl
@[simp] theorem ro1_ms (b g o n z : Nat) : ro1 (.ms b g o n z) = .ms b g o n z := rfl
@[simp] theorem lenA_ms (b g o n z : Nat) : lenA (.ms b g o n z) = some n := rfl
@[simp] theorem cellsN_ms (b g o n z : Nat) : qg 1 (.ms b g o n z) = some [.ms b g o n z] := rfl
@[simp] theorem noTup_ms (b g o n z : Nat) : noTup (.ms b g o n z) = some () := rfl
theorem zm{n i:Nat}(K:IntKind)(h:i<n):idx n (.int K (i:Int))=some i:=by
 have h1:(i:Int)<(n:Int):=by omega
 simp[idx,h1]
theorem qs(hp:Hp)(cs:List AV):(hp.new cs).rd hp.next 0=some cs:=by simp[Hp.rd,Hp.new]
theorem qh(hp:Hp)(b:Nat)(cs:List AV):(hp.put b 0 cs).rd b 0=some cs:=by simp[Hp.rd,Hp.put]
theorem putN_I(K:IntKind)(l:List Int)(i:Nat)(n:Int)(h:i<l.length):putN (LI K l) i [.sc (.int K n)]=some (LI K (l.set i n)):=by
 unfold putN
 rw[if_pos (by simp;omega)]
 congr 1
 apply List.ext_getElem?
 intro j
 simp only[List.length_cons,List.length_nil,LI,List.getElem?_map,List.getElem?_append,List.length_append,List.length_take,List.length_map,List.getElem?_take,List.getElem?_drop,List.getElem?_set,List.length_cons,List.length_nil]
 by_cases h1:j<i
 ·have e1:j<min i l.length+(0+1):=by omega
  have e2:j<min i l.length:=by omega
  have e3:¬(i=j):=by omega
  simp[e1,e2,e3,h1]
 ·by_cases h2:j=i
  ·subst h2
   have e2:¬(j<min j l.length):=by omega
   have e3:j-min j l.length=0:=by omega
   have e4:min j l.length=j:=by omega
   simp[e2,e3,e4,h]
  ·have e1:¬(j<min i l.length+(0+1)):=by omega
   have e2:¬(i=j):=by omega
   have e3:i+(0+1)+(j-(min i l.length+(0+1)))=j:=by omega
   have e4:¬(j<min i l.length):=by omega
   simp only[e1,e2,e3,if_false]
theorem getN_all(cs:List AV):getN cs 0 cs.length=some cs:=by simp[getN]
theorem frz1_ms(hp:Hp)(b:Nat)(cs:List AV)(hb:hp.rd b 0=some cs)(hv:cs.all vl=true):frz1 hp (.ms b 0 0 cs.length 1)=some (.sl 1 (cs.map ro1),hp.del b):=by
 have e:getN cs 0 (cs.length*1)=some cs:=by rw[Nat.mul_one];exact getN_all cs
 simp only[frz1,hb,Option.bind_some,e,hv,chk]
 rfl
theorem frz1_I(K:IntKind)(l:List Int)(hp:Hp)(b:Nat)(hb:hp.rd b 0=some (LI K l)):frz1 hp (.ms b 0 0 l.length 1)=some (S 0 1 (LI K l),hp.del b):=by
 have h:=frz1_ms hp b (LI K l) hb (vlI K l)
 rw[lenI]at h
 rw[h,flatI K l]
 rfl
@[simp] theorem frz1_S (k sz : Nat) (cs : List AV) (hp : Hp) : frz1 hp (S k sz cs) = some (S k sz cs, hp) := by
 rcases zB k sz cs with e|e|⟨e,e'⟩<;>rw[e]<;>rfl
@[simp] theorem frz1_sc (v : Value) (hp : Hp) : frz1 hp (.sc v) = some (.sc v, hp) := rfl
@[simp] theorem frzL_nil (hp : Hp) : frzL hp [] = some ([], hp) := rfl
@[simp] theorem frzL_cons (hp : Hp) (x : AV) (r : List AV) : frzL hp (x :: r) = (frz1 hp x).bind fun p => (frzL p.2 r).bind fun q => some (p.1 :: q.1, q.2) := rfl
@[simp] theorem many_one (cs : List AV) : many 1 cs = cs.length := rfl
theorem srcM_S(hp:Hp)(k sz:Nat)(cs:List AV):srcM hp sz (S k sz cs)=some cs:=by
 unfold srcM
 rcases zB k sz cs with e|e|⟨e,e'⟩<;>rw[e]
 ·simp[qR,srcA]
 ·simp[qR,srcA]
 ·simp[qR,srcA,e',nil0]
theorem xT(K:IntKind)(l:List Int)(k:Nat)(b:Nat)(hb:0<b/\b<=1000)(hl:l.length<=1000000)(hne:l≠[])(hp:Hp):appM b 1 (S 1 1 []) (S k 1 (LI K l)) hp=some (.ms hp.next 0 0 l.length 1,hp.new (LI K l)):=by
 unfold appM
 rw[srcM_S]
 simp only[Option.bind_some]
 cases l with
 |nil=>exact absurd rfl hne
 | cons x l=>
  have hf:fits b 1 (LI K (x::l)).length=true:=xd hb.1 (by
   rw[lenI]
   have:(x::l).length*b<=1000000*1000:=Nat.mul_le_mul hl hb.2
   omega)
  have e:LI K (x::l)= .sc (.int K x)::LI K l:=rfl
  rw[e]at hf⊢
  show(chk (1=1/\fits b 1 (AV.sc (Value.int K x)::LI K l).length=true)).bind _=_
  rw[chk_ok ⟨rfl,hf⟩]
  simp[lenI]
theorem appM_nil(b:Nat)(k:Nat)(hp:Hp):appM b 1 (S 1 1 []) (S k 1 []) hp=some (S 1 1 [],hp):=by
 unfold appM
 rw[srcM_S]
 rfl
theorem appM_one(K:IntKind)(l:List Int)(n:Int)(b x:Nat)(hb:0<b/\b<=1000)(hl:l.length<=1000000)(hne:l≠[])(hp:Hp)(hx:hp.rd x 0=some (LI K l)):
  appM b 1 (.ms x 0 0 l.length 1) (S 1 1 [.sc (.int K n)]) hp=some (.ms hp.next 0 0 (l.length+1) 1,(hp.del x).new (LI K (l++[n]))):=by
 have hpos:0<l.length:=List.length_pos_iff.mpr hne
 have hf:fits b 1 (l.length*1+1)=true:=xd hb.1 (by
  have:(l.length*1+1)*b<=1000001*1000:=Nat.mul_le_mul (by omega) hb.2
  omega)
 unfold appM
 rw[srcM_S]
 simp only[Option.bind_some,hx,List.length_cons,List.length_nil,many_one]
 rw[chk_ok (by simp[hpos])]
 simp only[Option.bind_some]
 rw[chk_ok ⟨by rw[lenI];omega,hf⟩]
 have e:((LI K l).take (l.length*1)).map ro1++[AV.sc (.int K n)]=LI K (l++[n]):=by
  rw[Nat.mul_one,List.take_of_length_le (by simp),flatI]
  simp[LI]
 simp only[Option.bind_some,e]
theorem appM_first(K:IntKind)(n:Int)(b:Nat)(hb:0<b/\b<=1000)(hp:Hp):appM b 1 (S 2 1 []) (S 1 1 [.sc (.int K n)]) hp=some (.ms hp.next 0 0 1 1,hp.new (LI K [n])):=by
 have hf:fits b 1 1=true:=xd hb.1 (by omega)
 unfold appM
 rw[srcM_S]
 show(chk (isNil nil0=true/\fits b 1 1=true)).bind _=_
 rw[chk_ok ⟨rfl,hf⟩]
 rfl
theorem zeros_I(K:IntKind)(n:Nat):xx (n:Int) [.int K 0]=LI K (List.replicate n 0):=by
 unfold xx LI
 rw[Int.toNat_natCast]
 induction n with
 |zero=>rfl
 |succ n ih=>
  rw[List.replicate_succ,List.replicate_succ,List.flatten_cons,ih]
  rfl
@[simp] theorem bound_none (lo hi : Int) (d : Nat) : qI lo hi none d = some d := rfl
theorem yn{hi d n:Nat}(K:IntKind)(h:n<=hi):qI 0 (hi:Int) (some (.int K (n:Int))) d=some n:=by
 have h1:(n:Int)<=(hi:Int):=by omega
 simp[qI,h1]
theorem getN_I(K:IntKind)(l:List Int)(i n:Nat)(h:i+n<=l.length):getN (LI K l) i n=some (LI K ((l.drop i).take n)):=by
 unfold getN
 rw[if_pos (by simpa using h)]
 simp[LI,List.map_drop,List.map_take]
theorem putNs_I(K:IntKind)(l m:List Int)(i:Nat)(h:i+m.length<=l.length):putN (LI K l) i (LI K m)=some (LI K (l.take i++m++l.drop (i+m.length))):=by
 unfold putN
 rw[if_pos (by simpa using h)]
 simp[LI,List.map_drop,List.map_take]
theorem takeI(K:IntKind)(l:List Int)(n:Nat):(LI K l).take n=LI K (l.take n):=by simp[LI,List.map_take]
theorem srcM_ms(K:IntKind)(l:List Int)(hp:Hp)(b o n:Nat)(hb:hp.rd b 0=some (LI K l))(h:o+n<=l.length):srcM hp 1 (.ms b 0 o n 1)=some (LI K ((l.drop o).take n)):=by
 unfold srcM
 have e:=getN_I K l o n h
 have e1:chk (1=1/\0<1)=some ():=chk_ok ⟨rfl,by decide⟩
 show(chk (1=1/\0<1)).bind _=_
 rw[e1]
 simp only[Option.bind_some,hb,Nat.mul_one,e]
 rw[flatI]
theorem sameG_ok{q:AV×Nat}{g g':Nat->Option (Nat×List AV)}(h:seeG q g=seeG q g'):jw q g g'=some ():=by
 unfold jw
 exact if_pos h
@[simp] theorem sameG_self (q : AV × Nat) (g : Nat → Option (Nat × List AV)) : jw q g g = some () := sameG_ok rfl
theorem appM_freshM(K:IntKind)(l:List Int)(x:AV)(b:Nat)(hb:0<b/\b<=1000)(hl:l.length<=1000000)(hne:l≠[])(hp:Hp)(hx:srcM hp 1 x=some (LI K l)):appM b 1 (S 1 1 []) x hp=some (.ms hp.next 0 0 l.length 1,hp.new (LI K l)):=by
 have h:=xT K l 0 b hb hl hne hp
 unfold appM at h⊢
 rw[srcM_S]at h
 rw[hx]
 exact h
theorem srcM_all(K:IntKind)(l:List Int)(hp:Hp)(b:Nat)(hb:hp.rd b 0=some (LI K l)):srcM hp 1 (.ms b 0 0 l.length 1)=some (LI K l):=by
 have h:=srcM_ms K l hp b 0 l.length hb (by omega)
 rwa [List.drop_zero,List.take_of_length_le (Nat.le_refl _)]at h
end Go.Proofs.YtchmioacjkbfcaaGreat.AI
namespace Go.Proofs.YtchmioacjkbfcaaGreat.AI
open Go Go.RowKit Go.ChangeShapes Go.WideShapes Go.ChangeAt
set_option linter.unusedVariables false
set_option linter.unusedSimpArgs false
def InK(k:IntKind)(n:Int):Prop:=(Lit.int k n).wf=true
theorem InK.le{k:IntKind}{n:Int}(h:InK k n):k.min<=n/\n<=k.max:=by
 simpa[InK,Lit.wf]using h
theorem InK.u8{n:Int}(h:InK .u8 n):0<=n/\n<256:=by
 have:=h.le;simp[IntKind.min,IntKind.max,IntKind.signed,IntKind.bits]at this;omega
theorem InK.u16{n:Int}(h:InK .u16 n):0<=n/\n<65536:=by
 have:=h.le;simp[IntKind.min,IntKind.max,IntKind.signed,IntKind.bits]at this;omega
theorem InK.u32{n:Int}(h:InK .u32 n):0<=n/\n<4294967296:=by
 have:=h.le;simp[IntKind.min,IntKind.max,IntKind.signed,IntKind.bits]at this;omega
theorem InK.u64{n:Int}(h:InK .u64 n):0<=n/\n<18446744073709551616:=by
 have:=h.le;simp[IntKind.min,IntKind.max,IntKind.signed,IntKind.bits]at this;omega
theorem InK.i64{n:Int}(h:InK .i64 n):-9223372036854775808<=n/\n<9223372036854775808:=by
 have:=h.le;simp[IntKind.min,IntKind.max,IntKind.signed,IntKind.bits]at this;omega
def ArgsR(W:World)(xs:List AV)(vs:List Value):Prop:=xs.length=vs.length/\∀(i:Nat) (x:AV) (u:Value),xs[i]?=some x->vs[i]?=some u->ArgR (gh0 W) W x u
theorem ArgsR.nil(W:World):ArgsR W [] []:=⟨rfl,by simp⟩
theorem ArgsR.cons{W:World}{x:AV}{v:Value}{xs:List AV}{vs:List Value}(h:ArgR (gh0 W) W x v)(t:ArgsR W xs vs):ArgsR W (x::xs) (v::vs):=by
 refine⟨by simp[t.1],fun i y u hx hu=>?_⟩
 cases i with
 |zero=>
  simp at hx hu
  subst hx hu
  exact h
 |succ i=>exact t.2 i y u (by simpa using hx) (by simpa using hu)
theorem law_args{c:Cx}(hc:Ok c/\DstOk c){f:FuncId}{xs:List AV}{vs:List Value}{v:Value}{hp':Hp}{W:World}(ha:ArgsR W xs vs)(h:run c f xs hp0=some (.sc v,hp')):Calls c.P f vs.toArray W fun e W'=>e= .returned v/\Below W.heap.size W W':=
 law_bool hc h ha.1 ha.2
section
variable {H : Type} {enc : TypeId × Value → H} {P : Program} {W : World} {fuel : Nat} {t e : TypeId} {cs : List Value} {y : DataW H × List MemPlace} {K : IntKind}
theorem rd_int(ht:P.underlying t=some (.int K))(h:DataW.trod enc P W 0 (fun _=>true) true fuel t cs=some y):∃n,cs=[.int K n]/\InK K n:=by
 obtain⟨n,h1,h2,h3⟩:=DataW.trod_int ht h
 exact⟨n,h1,h3⟩
theorem rd_bool(ht:P.underlying t=some .bool)(h:DataW.trod enc P W 0 (fun _=>true) true fuel t cs=some y):∃b:Bool,cs=[.bool b]:=by
 obtain⟨n,h1,h2⟩:=DataW.trod_bool ht h
 exact⟨n,h1⟩
theorem relR_ints{a:Addr}{len cap:Nat}{zs:List Int}(hl:len<=cap)(hz:zs.length=cap)(hcell:∀i,i<zs.length->W.cell? (a.add i)=some (.int K (zs.getD i 0))):
    RelR (gh0 W) W (S 0 1 (LI K (zs.take len))) (.slice (some a) len cap):=by
  have hg:∀i,i<zs.length->zs.getD i 0=zs[i]?.getD 0:=fun i _=>by simp
  have:=arg_sl (W:=W) (a:=a) (n:=len) (cap:=cap) (sz:=1) (cs:=LI K (zs.take len)) (vs:=(zs.take len).map fun n=>.int K n) (by omega) (by simp;omega) (by simp) hl
    (fun i v hv=>by
      simp only[List.getElem?_map,Option.map_eq_some_iff]at hv
      obtain⟨n,hn,rfl⟩:=hv
      have hi:i<(zs.take len).length:=(List.getElem?_eq_some_iff.mp hn).1
      simp at hi
      rw[hcell i (by omega)]
      rw[List.getElem?_take_of_lt (by omega)]at hn
      simp[hn])
    (fun x hx=>by
      obtain⟨n,_,rfl⟩:=List.mem_map.mp hx
      rfl)
    (fun i x v hx hv=>by
      simp only[LI,List.getElem?_map,Option.map_eq_some_iff]at hx hv
      obtain⟨n,hn,rfl⟩:=hx
      obtain⟨m,hm,rfl⟩:=hv
      rw[hn]at hm
      cases hm
      exact .sc _ rfl)
  exact this (fun _=>.fr)
theorem rd_ints(ht:P.underlying t=some (.slice e))(he:P.underlying e=some (.int K))(hc:P.cellsOf e=1)(h:DataW.trod enc P W 0 (fun _=>true) true fuel t cs=some y):
  ∃k l v,cs=[v]/\RelR (gh0 W) W (S k 1 (LI K l)) v/\(k=0\/(k=2/\l=[]))/\∀n∈l,InK K n:=by
 rcases open_ints ht he hc h with⟨hcs,_⟩|⟨a,len,cap,zs,hcs,_,hl,hm,hz,_,hcell,hwz⟩
 ·exact⟨2,[],_,hcs,.sc nil0 rfl,.inr ⟨rfl,rfl⟩,by simp⟩
 ·exact⟨0,zs.take len,_,hcs,relR_ints hl (by simpa using hz) hcell,.inl rfl,fun n hn=>hwz n (List.mem_of_mem_take hn)⟩
theorem arg_agg{xs:List AV}{vs:List Value}(hl:xs.length=vs.length)(h:∀(i:Nat) (x:AV) (v:Value),xs[i]?=some x->vs[i]?=some v->RelR (gh0 W) W x v):ArgR (gh0 W) W (.agg xs) (.agg vs.toArray):=
 fun p=>⟨vs,rfl,hl,fun i x v hx hv=>(h i x v hx hv).c (p i)⟩
theorem cells_nil:∀(i:Nat) (x:AV) (v:Value),([]:List AV)[i]?=some x->([]:List Value)[i]?=some v->RelR (gh0 W) W x v:=by simp
theorem cells_cons{x:AV}{v:Value}{xs:List AV}{vs:List Value}(h:RelR (gh0 W) W x v)(t:∀(i:Nat) (x:AV) (v:Value),xs[i]?=some x->vs[i]?=some v->RelR (gh0 W) W x v):
  ∀(i:Nat) (y:AV) (u:Value),(x::xs)[i]?=some y->(v::vs)[i]?=some u->RelR (gh0 W) W y u:=by
 intro i y u hx hu
 cases i with
 |zero=>
  simp at hx hu
  subst hx hu
  exact h
 |succ i=>exact t i y u (by simpa using hx) (by simpa using hu)
end
theorem cell_at{l:List Value}{o n:Nat}{a:Value}(h:(l.drop o).take n=[a]):l[o]?=some a:=by
 have h0:((l.drop o).take n)[0]?=some a:=by rw[h];rfl
 have hn:0<n:=by
  cases n with
  |zero=>simp at h
  |succ n=>omega
 rw[List.getElem?_take_of_lt hn]at h0
 simpa using h0
theorem list_eq7{l:List Value}{a0 a1 a2 a3 a4 a5 a6:Value}(h:l.length=7)(h0:l[0]?=some a0) (h1:l[1]?=some a1) (h2:l[2]?=some a2) (h3:l[3]?=some a3) (h4:l[4]?=some a4) (h5:l[5]?=some a5) (h6:l[6]?=some a6):l=[a0,a1,a2,a3,a4,a5,a6]:=by
 apply List.ext_getElem?
 intro i
 match i with
 |0=>rw[h0];rfl
 |1=>rw[h1];rfl
 |2=>rw[h2];rfl
 |3=>rw[h3];rfl
 |4=>rw[h4];rfl
 |5=>rw[h5];rfl
 |6=>rw[h6];rfl
 |i+7=>rw[List.getElem?_eq_none (by omega),List.getElem?_eq_none (by simp)]
end Go.Proofs.YtchmioacjkbfcaaGreat.AI
namespace Go.Proofs.YtchmioacjkbfcaaGreat.AI
open Go
set_option linter.unusedVariables false
set_option linter.unusedSimpArgs false
set_option maxRecDepth 100000
set_option maxHeartbeats 0
def nbs(n:Nat):Nat->List Bool
 |0=>[]
 |k+1=>n.testBit k::nbs n k
def una(n:Nat):List Bool:=List.replicate n true++[false]
def by8(l:List Bool)(s:Nat):Nat:=
 (l.getD s false).toNat*128+(l.getD (s+1) false).toNat*64+(l.getD (s+2) false).toNat*32+(l.getD (s+3) false).toNat*16
  +(l.getD (s+4) false).toNat*8+(l.getD (s+5) false).toNat*4+(l.getD (s+6) false).toNat*2+(l.getD (s+7) false).toNat
def pk(l:List Bool):List Int:=(List.range ((l.length+7)/8)).map fun i=>(by8 l (8*i):Int)
def zZ(b:List Int)(i:Nat):Bool:=(b.getD (i/8) 0).toNat.testBit (7-i%8)
@[simp] theorem nbs_len (n k : Nat) : (nbs n k).length = k := by
 induction k with
 |zero=>rfl
 |succ k ih=>simp[nbs,ih]
@[simp] theorem una_len (n : Nat) : (una n).length = n + 1 := by simp [una]
@[simp] theorem zK (l : List Bool) : (pk l).length = (l.length + 7) / 8 := by simp [pk]
theorem pk_nil:pk []=[]:=rfl
theorem b2n(b:Bool):b.toNat<=1:=by cases b<;>decide
theorem by8_lt(l:List Bool)(s:Nat):by8 l s<256:=by
 unfold by8
 have:=b2n (l.getD s false);have:=b2n (l.getD (s+1) false);have:=b2n (l.getD (s+2) false);have:=b2n (l.getD (s+3) false)
 have:=b2n (l.getD (s+4) false);have:=b2n (l.getD (s+5) false);have:=b2n (l.getD (s+6) false);have:=b2n (l.getD (s+7) false)
 omega
theorem pk_getD(l:List Bool)(i:Nat)(h:i<(l.length+7)/8):(pk l).getD i 0=(by8 l (8*i):Int):=by
 unfold pk
 rw[List.getD_eq_getElem?_getD,List.getElem?_map,List.getElem?_range h]
 rfl
theorem pk_rng{l:List Bool}{x:Int}(h:x∈pk l):0<=x/\x<256:=by
 unfold pk at h
 obtain⟨i,_,rfl⟩:=List.mem_map.mp h
 have:=by8_lt l (8*i)
 omega
theorem by8_bits(a b c d e f g h:Bool)(k:Nat)(hk:k<8):
  (a.toNat*128+b.toNat*64+c.toNat*32+d.toNat*16+e.toNat*8+f.toNat*4+g.toNat*2+h.toNat).testBit (7-k)=[a,b,c,d,e,f,g,h].getD k false:=by
 have:k=0\/k=1\/k=2\/k=3\/k=4\/k=5\/k=6\/k=7:=by omega
 rcases this with r|r|r|r|r|r|r|r<;>subst r<;>revert a b c d e f g h<;>decide
theorem bitAt_pk(l:List Bool)(i:Nat)(h:i<l.length):zZ (pk l) i=l.getD i false:=by
 unfold zZ
 rw[pk_getD l (i/8) (by omega),Int.toNat_natCast]
 unfold by8
 rw[by8_bits _ _ _ _ _ _ _ _ _ (by omega)]
 have hi:i=8*(i/8)+i%8:=by omega
 generalize hq:8*(i/8)=q at*
 have:i%8=0\/i%8=1\/i%8=2\/i%8=3\/i%8=4\/i%8=5\/i%8=6\/i%8=7:=by omega
 rcases this with r|r|r|r|r|r|r|r<;>(rw[r]at hi⊢;rw[hi];rfl)
theorem bitAt_pk_end(l:List Bool)(i:Nat)(h:l.length<=i):zZ (pk l) i=false:=by
 unfold zZ
 by_cases h1:i/8<(l.length+7)/8
 ·rw[pk_getD l (i/8) h1,Int.toNat_natCast]
  unfold by8
  rw[by8_bits _ _ _ _ _ _ _ _ _ (by omega)]
  have hi:i=8*(i/8)+i%8:=by omega
  have hz:∀j,l.length<=j->l.getD j false=false:=fun j hj=>by
   rw[List.getD_eq_getElem?_getD,List.getElem?_eq_none hj];rfl
  generalize hq:8*(i/8)=q at*
  have:i%8=0\/i%8=1\/i%8=2\/i%8=3\/i%8=4\/i%8=5\/i%8=6\/i%8=7:=by omega
  rcases this with r|r|r|r|r|r|r|r<;>(rw[r]at hi⊢;rw[hi]at h;first|exact hz _ h|exact hz _ (by omega))
 ·rw[List.getD_eq_getElem?_getD,List.getElem?_eq_none (by rw[zK];omega)]
  exact Nat.zero_testBit _
theorem getD_snoc(l:List Bool)(b:Bool)(j:Nat):(l++[b]).getD j false=if j<l.length then l.getD j false else if j=l.length then b else false:=by
 rw[List.getD_eq_getElem?_getD,List.getD_eq_getElem?_getD]
 by_cases h:j<l.length
 ·rw[if_pos h,List.getElem?_append_left h]
 ·rw[if_neg h,List.getElem?_append_right (by omega)]
  by_cases h1:j=l.length
  ·simp[h1]
  ·rw[if_neg h1,List.getElem?_eq_none (by simp;omega)];rfl
theorem pk_false(l:List Bool):pk (l++[false])=if l.length%8=0 then pk l++[0]else pk l:=by
 have hb:∀s,by8 (l++[false]) s=by8 l s:=by
  intro s
  have hg:∀j,(l++[false]).getD j false=l.getD j false:=by
   intro j
   rw[getD_snoc]
   by_cases h:j<l.length
   ·rw[if_pos h]
   ·rw[if_neg h]
    have:l.getD j false=false:=by rw[List.getD_eq_getElem?_getD,List.getElem?_eq_none (by omega)];rfl
    rw[this];simp
  unfold by8
  simp only[hg]
 unfold pk
 simp only[hb,List.length_append,List.length_singleton]
 by_cases h:l.length%8=0
 ·rw[if_pos h]
  have e:(l.length+1+7)/8=(l.length+7)/8+1:=by omega
  have e2:8*((l.length+7)/8)=l.length:=by omega
  rw[e,List.range_succ,List.map_append]
  congr 1
  simp only[List.map_cons,List.map_nil,e2]
  have hz:∀j,l.getD (l.length+j) false=false:=fun j=>by
   rw[List.getD_eq_getElem?_getD,List.getElem?_eq_none (by omega)];rfl
  have hz0:=hz 0
  rw[Nat.add_zero]at hz0
  unfold by8
  simp only[hz,hz0]
  rfl
 ·rw[if_neg h]
  have e:(l.length+1+7)/8=(l.length+7)/8:=by omega
  rw[e]
theorem pk_true(l:List Bool):pk (l++[true])=(pk (l++[false])).set (l.length/8) (by8 (l++[true]) (8*(l.length/8)):Int):=by
 apply List.ext_getElem?
 intro i
 rw[List.getElem?_set]
 by_cases hi:i<(l.length+1+7)/8
 ·have e:∀b,(pk (l++[b]))[i]?=some (by8 (l++[b]) (8*i):Int):=by
   intro b
   unfold pk
   rw[List.getElem?_map,List.getElem?_range (by simpa using hi)]
   rfl
  rw[e,e,zK,List.length_append,List.length_singleton]
  by_cases h1:l.length/8=i
  ·rw[if_pos h1,if_pos (by omega),h1]
  ·rw[if_neg h1]
   have hg:∀j,j<8->(l++[true]).getD (8*i+j) false=(l++[false]).getD (8*i+j) false:=by
    intro j hj
    rw[getD_snoc,getD_snoc]
    have:8*i+j≠l.length:=by omega
    simp[this]
   have h0:=hg 0 (by omega)
   rw[Nat.add_zero]at h0
   unfold by8
   rw[h0,hg 1 (by omega),hg 2 (by omega),hg 3 (by omega),hg 4 (by omega),hg 5 (by omega),hg 6 (by omega),hg 7 (by omega)]
 ·have e:∀b,(pk (l++[b]))[i]?=none:=by
   intro b
   rw[List.getElem?_eq_none]
   rw[zK,List.length_append,List.length_singleton]
   omega
  rw[e,e,zK,List.length_append,List.length_singleton]
  by_cases h1:l.length/8=i
  ·omega
  ·rw[if_neg h1]
theorem by8_or(l:List Bool):(BitVec.ofNat 8 (by8 (l++[false]) (8*(l.length/8)))|||BitVec.ofNat 8 (2^(7-l.length%8))).toNat=by8 (l++[true]) (8*(l.length/8)):=by
 have hi:l.length=8*(l.length/8)+l.length%8:=by omega
 unfold by8
 simp only[getD_snoc]
 generalize hq:8*(l.length/8)=q at*
 have hr:l.length%8=0\/l.length%8=1\/l.length%8=2\/l.length%8=3\/l.length%8=4\/l.length%8=5\/l.length%8=6\/l.length%8=7:=by omega
 generalize l.getD q false=a0
 generalize l.getD (q+1) false=a1
 generalize l.getD (q+2) false=a2
 generalize l.getD (q+3) false=a3
 generalize l.getD (q+4) false=a4
 generalize l.getD (q+5) false=a5
 generalize l.getD (q+6) false=a6
 generalize l.getD (q+7) false=a7
 generalize l.length%8=r at*
 rw[hi]
 rcases hr with e|e|e|e|e|e|e|e<;>subst e<;>simp[show∀j,¬(q+j<q)from fun j=>by omega]
 ·cases a0<;>rfl
 ·cases a0<;>cases a1<;>rfl
 ·cases a0<;>cases a1<;>cases a2<;>rfl
 ·cases a0<;>cases a1<;>cases a2<;>cases a3<;>rfl
 ·cases a0<;>cases a1<;>cases a2<;>cases a3<;>cases a4<;>rfl
 ·cases a0<;>cases a1<;>cases a2<;>cases a3<;>cases a4<;>cases a5<;>rfl
 ·cases a0<;>cases a1<;>cases a2<;>cases a3<;>cases a4<;>cases a5<;>cases a6<;>rfl
end Go.Proofs.YtchmioacjkbfcaaGreat.AI
