/- Texts that the proof of PackPuts rests on, part 1. -/
import Derived.WalkKit
import Derived.KernelRfl
import Derived.Laws.CopyRow
namespace Go.Proofs.YtchmioacjkbfcaaGreat.AI
open Go
theorem bsm {A B : Type} {x : Option A} {f : A → Option B} {b : B} (h : x.bind f = some b) : ∃ a, x = some a ∧ f a = some b := Option.bind_eq_some_iff.mp h
end Go.Proofs.YtchmioacjkbfcaaGreat.AI
namespace Go.Proofs.YtchmioacjkbfcaaGreat.AI
open Go
set_option linter.unusedVariables false
set_option linter.unusedSimpArgs false
set_option maxRecDepth 100000
set_option maxHeartbeats 0
inductive AV where
 |sc (v:Value)
 |sl (sz:Nat) (cs:List AV)
 |us (sz:Nat) (cs:List AV)
 |agg (cs:List AV)
 |tup (vs:List AV)
 |ptr (b g off:Nat)
 |ms (b g off len sz:Nat)
 |fn (f:FuncId) (cap:List AV)
 |map (b:Nat)
structure Hp where
 next:Nat
 get:Nat->Option (Nat×List AV)
def hp0:Hp:=⟨0,fun _=>none⟩
def Hp.rd(h:Hp)(b g:Nat):Option (List AV):=(h.get b).bind fun p=>if p.1=g/\g=0 then some p.2 else none
def Hp.rdM(h:Hp)(b:Nat):Option (List AV):=(h.get b).bind fun p=>if p.1=1 then some p.2 else none
def Hp.del(h:Hp)(b:Nat):Hp:=⟨h.next,fun x=>if x=b then none else h.get x⟩
def Hp.newM(h:Hp):Hp:=⟨h.next+1,fun x=>if x=h.next then some (1,[])else h.get x⟩
def Hp.put(h:Hp)(b g:Nat)(cs:List AV):Hp:=⟨h.next,fun x=>if x=b then some (g,cs)else h.get x⟩
def Hp.new(h:Hp)(cs:List AV):Hp:=⟨h.next+1,fun x=>if x=h.next then some (0,cs)else h.get x⟩
inductive SV where
 |sv (v:Value)
 |av (x:AV)
 |lp (k g off:Nat)
 |rv (cs:List AV)
 |tp (l:List AV)
 |un
 |ud
inductive TK where
 |sc|ot|tu
 |sl (e:TypeId)
 |mp (k e:TypeId)
 |ar (n:Nat) (e:TypeId)
 |st (fs:List (Nat×TypeId))
structure TI where
 k:TK
 size:Nat
 bytes:Nat
 zero:List Value
abbrev Boxes:=List (Nat×Nat×List AV)
abbrev Slots:=List (Nat×SV)
structure St where
 sl:Slots
 bx:Boxes
 hp:Hp
structure Cx where
 P:Program
 tt:TypeId->Option TI
 F:FuncId->Option Func
 X:FuncId->List Value->Option Value
 H:FuncId->Nat->Nat->Nat
 M:FuncId->Nat->Option (List Nat)
def zb{α:Type}(P:Program):Sem α->Option α
 | .pure a=>some a
 | .program k=>zb P (k P)
 | .mark _ k=>zb P k
 |_=>none
def ro1:AV->AV
 | .us s c=>.sl s c
 |x=>x
def ro:AV->AV
 | .us s c=>.sl s c
 | .agg cs=>.agg (cs.map ro1)
 |x=>x
def vl:AV->Bool
 | .sc _=>true
 | .sl _ _=>true
 | .us _ _=>true
 | .fn _ c=>c.isEmpty
 |_=>false
def vlF:AV->Bool
 | .agg cs=>cs.all vl
 |x=>vl x
def vlV:AV->Bool
 | .tup l=>l.all vlF
 |x=>vlF x
def SV.ro:SV->SV
 | .av x=>.av (AI.ro x)
 | .tp l=>.tp (l.map AI.ro)
 |s=>s
def vA:AV->Option Value
 | .sc v=>some v
 |_=>none
def asB:Value->Option Bool
 | .bool b=>some b
 |_=>none
def YW:Value->Option Int
 | .int _ n=>some n
 |_=>none
def qj(cs:List AV)(i:Nat):Option AV:=cs[i]?
def qe(cs:List AV)(i:Nat):Option Value:=(cs[i]?).bind vA
def ql(cs:List AV)(i n:Nat):Option (List AV):=if i+n<=cs.length then some ((cs.drop i).take n)else none
def qh(cs:List AV)(i:Nat)(vs:List AV):Option (List AV):=
 if i+vs.length<=cs.length then some (cs.take i++vs++cs.drop (i+vs.length))else none
def qg(n:Nat):AV->Option (List AV)
 | .agg cs=>if cs.length=n then some cs else none
 | .tup _=>none
 |x=>if n=1 then some [x]else none
def qdl:TK->Bool
 | .sc=>true
 |_=>false
def yR:TK->Bool
 | .ar _ _=>true
 | .st _=>true
 |_=>false
def toA:SV->Option AV
 | .sv v=>some (.sc v)
 | .av x=>some x
 |_=>none
def yG(r:AV)(i:Nat):AV:=
 match r with
 | .tup vs=>vs.getD i (.tup [])
 |_=>.tup []
def vz(n:Nat):AV->Option Unit
 | .tup vs=>if vs.length=n then some ()else none
 |_=>none
def nil0:Value:=.slice none 0 0
def vI:Value->Bool
 | .slice none 0 0=>true
 |_=>false
def yH:AV->Option Nat
 | .sl s cs=>some (if s=1 then cs.length else cs.length/s)
 | .us s cs=>some (if s=1 then cs.length else cs.length/s)
 | .ms _ _ _ n _=>some n
 | .sc v=>if vI v then some 0 else none
 |_=>none
def idx(n:Nat)(v:Value):Option Nat:=(YW v).bind fun i=>if 0<=i/\i<(n:Int)then some i.toNat else none
def yw(sz:Nat)(x:AV)(v:Value):Option (List AV):=
 match x with
 | .sl s cs=>if s=sz then(idx (if s=1 then cs.length else cs.length/s) v).bind fun i=>ql cs (i*sz) sz else none
 | .us s cs=>if s=sz then(idx (if s=1 then cs.length else cs.length/s) v).bind fun i=>ql cs (i*sz) sz else none
 |_=>none
def zd(lo hi:Int)(v:Option Value)(dflt:Nat):Option Nat:=
 match v with
 |none=>some dflt
 |some v=>(YW v).bind fun i=>if lo<=i/\i<=hi then some i.toNat else none
def xC(sz:Nat)(x:AV)(lo hi mx:Option Value):Option AV:=
 match x with
 | .sl s cs=>if s=sz then
  let n:=if s=1 then cs.length else cs.length/s
  (zd 0 n mx n).bind fun m=>(zd 0 m hi n).bind fun h=>(zd 0 h lo 0).bind fun l=>some (.sl s ((cs.drop (l*s)).take ((h-l)*s)))
  else none
 | .us s cs=>if s=sz then
  let n:=if s=1 then cs.length else cs.length/s
  (zd 0 n mx n).bind fun m=>(zd 0 m hi n).bind fun h=>(zd 0 h lo 0).bind fun l=>some (.sl s ((cs.drop (l*s)).take ((h-l)*s)))
  else none
 | .sc v=>if vI v then
  (zd 0 0 mx 0).bind fun m=>(zd 0 m hi 0).bind fun h=>(zd 0 h lo 0).bind fun _=>some (.sc nil0)
  else none
 |_=>none
def yF(sz:Nat):AV->Option (List AV)
 | .sl s cs=>if s=sz then some cs else none
 | .us s cs=>if s=sz then some cs else none
 | .sc v=>match v with
  | .slice none 0 0=>some []
  |_=>none
 |_=>none
def yk(bytes sz n:Nat):Bool:=decide (n*bytes<=140737488355328*sz)&&decide (0<bytes)
def zt(sz:Nat)(cs:List AV):Nat:=if sz=1 then cs.length else cs.length/sz
def WL:Value->Value->Option Bool
 | .int j a,.int k b=>if j=k then some (a==b)else none
 | .string a,.string b=>some (a==b)
 | .bool a,.bool b=>some (a==b)
 |_,_=>none
def qgo(k:Value):List AV->Option (Option AV)
 |[]=>some none
 | .tup [.sc q,x]::r=>(WL k q).bind fun t=>cond t (some (some x)) (qgo k r)
 |_=>none
def qpf(k:Value)(v:AV):List AV->Option (List AV)
 |[]=>some [.tup [.sc k,v]]
 | .tup [.sc q,x]::r=>(WL k q).bind fun t=>cond t (some (.tup [.sc q,v]::r)) ((qpf k v r).map fun l=>.tup [.sc q,x]::l)
 |_=>none
def qhb(bytes sz:Nat)(d:AV)(ys:List AV):Option AV:=
 match ys with
  |[]=>match d with
   | .us z cs=>if z=sz then some (.us z cs)else none
   | .sc v=>if vI v then some (.sc nil0)else none
   |_=>none
  |ys=>match d with
   | .us z cs=>if z=sz&&yk bytes sz (cs.length+ys.length)then some (.us z (cs++ys.map ro1))else none
   | .sc v=>if vI v&&yk bytes sz ys.length then some (.us sz (ys.map ro1))else none
   |_=>none
def zZ(bytes sz:Nat)(d s:AV):Option AV:=(yF sz s).bind fun ys=>qhb bytes sz d ys
def zn:List AV->Option (List UInt8)
 |[]=>some []
 | .sc (.int .u8 n)::r=>(zn r).map fun l=>UInt8.ofNat n.toNat::l
 |_=>none
def vq:List AV->Option (List Value)
 |[]=>some []
 | .sc v::r=>(vq r).map fun l=>v::l
 |_=>none
def yE:AV->Option Value
 | .sc v=>some v
 | .agg cs=>(vq cs).map fun l=>.agg l.toArray
 |_=>none
def WT:SV->Option Value
 | .sv v=>some v
 | .av x=>yE x
 |_=>none
def qN:AV->Option (Nat×Nat×Nat)
 | .ptr b g o=>some (b,g,o)
 |_=>none
def Kq:AV->Option (FuncId×List AV)
 | .fn f c=>match Nat.blt f 4294967296 with
  |true=>some (f,c)
  |false=>none
 |_=>none
def wU:AV->Option (FuncId×List AV)
 | .fn f (b::c)=>match Nat.blt f 4294967296 with
  |true=>none
  |false=>some (f-4294967296,b::c)
 |_=>none
def one(o:Option Value):Option Value:=o.bind fun z=>if z.oneCell'=true then some z else none
def qr(P:Program)(op:BinOp)(t:TypeId)(x y:Operand)(a b:Value):Option Value:=
 one (zb P (do eqGuard op t x y a b;Go.binOp op t a b))
def unV(P:Program)(op:UnOp)(a:Value):Option Value:=one (zb P (Op.unary op a))
def JU(P:Program)(s d:TypeId)(a:Value):Option Value:=one (zb P (convert s d a))
def ixV(P:Program)(t:TypeId)(a i:Value):Option Value:=one (zb P (Instr.index t a i))
def scV(P:Program)(t:TypeId)(a:Value)(lo hi mx:Option Value):Option Value:=one (zb P (Instr.slice t a lo hi mx))
def vc(P:Program)(b:Builtin)(ts:Array TypeId)(t:TypeId)(as_:List Value):Option Value:=
 match b with
 | .min=>one (zb P (Builtin.min_ ts t as_.toArray))
 | .max=>one (zb P (Builtin.max_ ts t as_.toArray))
 | .len=>one (zb P (Builtin.len_ ts t as_.toArray))
 |_=>none
def zav:AV->Option Bool
 | .sl _ _=>some false
 | .us _ _=>some false
 | .ms _ _ _ _ _=>some false
 | .sc (.slice none _ _)=>some true
 |_=>none
def Jp:AV->Option Bool
 | .ptr _ _ _=>some false
 | .sc (.pointer none)=>some true
 |_=>none
def qkv:Value->Bool
 | .pointer none=>true
 |_=>false
def qF(l:Slots)(k:Nat):SV:=
 match l with
 |[]=>.un
 |(j,s)::r=>match Nat.beq j k with|true=>s|false=>qF r k
def wn(l:Slots)(d:Option Tmp)(s:SV):Slots:=
 match d with
 |some k=>(k,s)::l
 |none=>l
def jd(b:Boxes)(k:Nat):Option (Nat×List AV):=
 match b with
 |[]=>none
 |(j,g,cs)::r=>match Nat.beq j k with|true=>some (g,cs)|false=>jd r k
def XH(b:Boxes)(k g:Nat)(cs:List AV):Boxes:=(k,g,cs)::b
def zP(l:Slots):Operand->SV
 | .tmp t=>qF l t
 | .const v=>match v with
  | .agg cs=>if cs.toList.all (·.oneCell')=true then .av (.agg (cs.toList.map .sc))else .un
  | .tuple _=>.un
  |v=>.sv v
 | .global _=>.un
 | .func f=>.av (.fn f [])
def VC(k:TK):SV->SV
 | .sv v=>if qdl k then .sv v else .av (.sc v)
 |s=>s
def zS(l:List Value):List AV:=l.map .sc
def Zb:TK->Bool
 | .tu=>true
 |_=>false
def Cx.tn(c:Cx)(t:TypeId):Option TI:=
 match c.tt t with
 |some ti=>if Zb ti.k then none else some ti
 |none=>none
def wI(p:Prop)[Decidable p]:Option Unit:=if p then some ()else none
def jl(a b:Nat):Option Unit:=wI (a=b)
def qlc(b:Bool):Option Unit:=wI (b=true)
def xx(cs:List AV):Option Unit:=wI (cs.all vl=true)
abbrev Orc:=FuncId->List AV->Hp->Option (AV×Hp)
abbrev BE:=Option (Nat×Nat×List AV)
abbrev Kt(R:Type):=SV->BE->Hp->Option R
def qku(ti:TI):Bool:=
 match ti.k,ti.zero with
 | .sc,[.int .u8 _]=>true
 |_,_=>false
def WM(ti:TI):Bool:=
 match ti.k,ti.zero with
 | .sc,[.string _]=>true
 |_,_=>false
def za7(ti:TI):Bool:=
 match ti.k,ti.zero with
 | .ot,[.pointer none]=>true
 |_,_=>false
def zce:AV->Option (List AV)
 | .agg cs=>some cs
 |_=>none
def KW:SV->Option (List AV)
 | .av x=>zce x
 |_=>none
def Kx:AV->Bool
 | .agg _=>false
 | .tup _=>false
 |_=>true
def qnd(xs:List AV):Option Unit:=qlc (xs.all Kx)
def qxw:Value->Option ByteArray
 | .string s=>some s
 |_=>none
def xW:SV->Option Value
 | .sv v=>some v
 |_=>none
def Qm:AV->Option Unit
 | .ptr _ _ _=>some ()
 | .fn _ _=>some ()
 |_=>none
def qL:AV->Option (Nat×Nat×Nat×Nat×Nat)
 | .ms b g o n z=>some (b,g,o,n,z)
 |_=>none
def valC(n:Nat):SV->Option (List AV)
 | .sv v=>if n=1 then some [.sc v]else none
 | .av x=>qg n x
 |_=>none
def opV(ev:Operand->SV):Option Operand->Option (Option Value)
 |none=>some none
 |some o=>(xW (ev o)).bind fun v=>some (some v)
def XA:List SV->Option (List AV)
 |[]=>some []
 |s::r=>(toA s).bind fun x=>(XA r).bind fun l=>some (x::l)
def qcd:List SV->Option (List Value)
 |[]=>some []
 |s::r=>(xW s).bind fun x=>(qcd r).bind fun l=>some (x::l)
def XZ(c:Cx)(fs:List (Nat×TypeId))(i:Nat):Option (Nat×Nat):=
 match fs[i]? with
 |some p=>match c.tn p.2 with
  |some fi=>some (p.1,fi.size)
  |none=>none
 |none=>none
def yM{R:Type}(vh:Nat->Option (Nat×Nat))(ev:Operand->SV)(K:List AV->Option R):List (Nat×Operand)->List AV->Option R
 |[],cs=>K cs
 |(i,x)::r,cs=>
  match vh i with
  |none=>none
  |some (off,n)=>(valC n (ev x)).bind fun vs=>(qh cs off vs).bind fun cs'=>yM vh ev K r cs'
def jL{R:Type}(ti:TI)(h:Nat)(cs:List AV)(off:Nat)(K:SV->List AV->Option R):Option R:=
 if qdl ti.k then(qe cs off).bind fun v=>K (.sv v) cs
 else if yR ti.k then(ql cs off ti.size).bind fun l=>
  if h=1 then(qh cs off (l.map ro1)).bind fun cs'=>K (.av (.agg l)) cs' else K (.av (.agg (l.map ro1))) cs
 else(qj cs off).bind fun x=>if h=1 then K (.av x) (cs.set off (ro1 x))else K (.av (ro1 x)) cs
def Ql:AV->Option Unit
 | .tup _=>none
 |_=>some ()
def Vy{R:Type}(ti:TI)(r:AV)(K:SV->Option R):Option R:=
 match ti.k with
 | .sc=>(vA r).bind fun v=>K (.sv v)
 | .tu=>(vz ti.size r).bind fun _=>K (.tp ((List.range ti.size).map (yG r)))
 |_=>(Ql r).bind fun _=>K (.av r)
def jr{R:Type}(h:Nat)(ti:TI)(a:SV)(gb:Nat->Option (Nat×List AV))(hp:Hp)(K:Kt R):Option R:=
 match a with
 | .lp k g off=>match gb k with
  |some (g',cs)=>if g=g' then jL ti h cs off fun s cs'=>K s (if h=1 then some (k,g,cs')else none) hp else none
  |none=>none
 | .rv cs=>if h=1 then none else jL ti h cs 0 fun s _=>K s none hp
 | .av x=>(qN x).bind fun p=>(hp.rd p.1 p.2.1).bind fun cs=>jL ti h cs p.2.2 fun s cs'=>K s none (if h=1 then hp.put p.1 p.2.1 cs' else hp)
 |_=>none
def xk{R:Type}(ti:TI)(a x:SV)(gb:Nat->Option (Nat×List AV))(hp:Hp)(K:Kt R):Option R:=
 (valC ti.size x).bind fun vs=>
 match a with
 | .lp k g off=>match gb k with
  |some (g',cs)=>if g=g' then(qh cs off vs).bind fun cs'=>K .un (some (k,g,cs')) hp else none
  |none=>none
 | .av x=>(qN x).bind fun p=>(hp.rd p.1 p.2.1).bind fun cs=>(qh cs p.2.2 vs).bind fun cs'=>K .un none (hp.put p.1 p.2.1 cs')
 |_=>none
def yy{R:Type}(c:Cx)(ti:TI)(a:SV)(f:Nat)(K:SV->Option R):Option R:=
 match ti.k with
 | .st fs=>match fs[f]? with
  |some (fo,ft)=>match c.tn ft with
   |some fi=>if fi.size=0 then none else
    match a with
    | .lp k g off=>K (.lp k g (off+fo))
    | .rv cs=>K (.rv (cs.drop fo))
    | .av x=>(qN x).bind fun p=>K (.av (.ptr p.1 p.2.1 (p.2.2+fo)))
    |_=>none
   |none=>none
  |none=>none
 |_=>none
def yv{R:Type}(c:Cx)(h:Nat)(ti:TI)(a i:SV)(K:SV->Option R):Option R:=
 match i with
 | .sv iv=>match ti.k with
  | .sl e=>match c.tn e with
   |some ei=>match a with
    | .av x=>
     if h=2 then(qL x).bind fun p=>(idx p.2.2.2.1 iv).bind fun j=>(jl p.2.2.2.2 ei.size).bind fun _=>K (.av (.ptr p.1 p.2.1 (p.2.2.1+j*ei.size)))
     else(yw ei.size x iv).bind fun cs=>K (.rv cs)
    |_=>none
   |none=>none
  | .ar n e=>match c.tn e with
   |some ei=>match a with
    | .lp k g off=>(idx n iv).bind fun j=>K (.lp k g (off+j*ei.size))
    | .rv cs=>(idx n iv).bind fun j=>K (.rv (cs.drop (j*ei.size)))
    | .av x=>(qN x).bind fun p=>(idx n iv).bind fun j=>K (.av (.ptr p.1 p.2.1 (p.2.2+j*ei.size)))
    |_=>none
   |none=>none
  |_=>none
 |_=>none
def Zq{R:Type}(c:Cx)(h:Nat)(ti:TI)(t:TypeId)(a:SV)(lo hi mx:Option Value)(K:SV->Option R):Option R:=
 match ti.k with
 | .sl e=>match c.tn e with
  |some ei=>match a with
   | .av x=>
    if h=2 then(qL x).bind fun p=>(zd 0 p.2.2.2.1 mx p.2.2.2.1).bind fun m=>(zd 0 m hi p.2.2.2.1).bind fun hh=>(zd 0 hh lo 0).bind fun l=>
     (jl p.2.2.2.2 ei.size).bind fun _=>K (.av (.ms p.1 p.2.1 (p.2.2.1+l*ei.size) (hh-l) ei.size))
    else(xC ei.size x lo hi mx).bind fun z=>K (.av z)
   |_=>none
  |none=>none
 | .sc=>match a with
  | .sv v=>(scV c.P t v lo hi mx).bind fun z=>K (.sv z)
  |_=>none
 |_=>none
def KC{R:Type}(c:Cx)(s d:TypeId)(si di:TI)(a:SV)(K:SV->Option R):Option R:=
 match di.k with
 | .sl e=>match c.tn e with
  |some ei=>if qku ei=true then(xW a).bind fun v=>(qxw v).bind fun b=>K (.av (.sl 1 (b.data.toList.map fun x=>.sc (.int .u8 x.toNat))))else none
  |none=>none
 |_=>match si.k with
  | .sl e=>match c.tn e with
   |some ei=>if(qku ei&&WM di)=true then(toA a).bind fun x=>(yF 1 x).bind fun cs=>(zn cs).bind fun l=>K (.sv (.string ⟨l.toArray⟩))else none
   |none=>none
  |_=>(xW a).bind fun v=>(JU c.P s d v).bind fun z=>K (.sv z)
def qlj{R:Type}(c:Cx)(op:BinOp)(t:TypeId)(x y:Operand)(a b:SV)(K:SV->Option R):Option R:=
 match a,b with
 | .sv v,.sv w=>(qr c.P op t x y v w).bind fun z=>K (.sv z)
 | .av v,.sv w=>if vI w then
  match c.tn t with
  |some ti=>match ti.k with
   | .sl _=>(zav v).bind fun n=>(match op with| .eql=>K (.sv (.bool n))| .neq=>K (.sv (.bool !n))|_=>none)
   |_=>none
  |none=>none
  else if qkv w then
  match c.tn t with
  |some ti=>if za7 ti=true then(Jp v).bind fun n=>(match op with| .eql=>K (.sv (.bool n))| .neq=>K (.sv (.bool !n))|_=>none)else none
  |none=>none
  else(yE v).bind fun v'=>(qr c.P op t x y v' w).bind fun z=>K (.sv z)
 | .av v,.av w=>(yE v).bind fun v'=>(yE w).bind fun w'=>(qr c.P op t x y v' w').bind fun z=>K (.sv z)
 |_,_=>none
def selV(t:Bool)(x y:Value):Value:=
 match t with
 |true=>x
 |false=>y
def Kb{R:Type}(c a b:SV)(K:SV->Option R):Option R:=
 (xW c).bind fun v=>(asB v).bind fun t=>
  match a,b with
  | .sv x,.sv y=>K (.sv (selV t x y))
  |s,r=>cond t (K s.ro) (K r.ro)
def Yl:AV->Option Nat
 | .map b=>some b
 |_=>none
def JF(sz:Nat)(n:Nat)(cs:List AV):Nat×List AV:=(min (zt sz cs) n,cs.take (min (zt sz cs) n*sz))
def wW(hp:Hp)(sz:Nat)(x:AV):Option (List AV):=
 match qL x with
 |some p=>(wI (p.2.2.2.2=sz/\0<sz)).bind fun _=>(hp.rd p.1 p.2.1).bind fun cs=>(ql cs p.2.2.1 (p.2.2.2.1*sz)).bind fun l=>some (l.map ro1)
 |none=>yF sz x
def jo(bytes sz:Nat)(d s:AV)(hp:Hp):Option (AV×Hp):=
 (wW hp sz s).bind fun ys=>match ys with
 |[]=>(qhb bytes sz d []).bind fun y=>some (y,hp)
 |y::ys=>match d with
  | .us z []=>(wI (z=sz/\yk bytes sz (y::ys).length=true)).bind fun _=>some (.ms hp.next 0 0 (zt sz (y::ys)) sz,hp.new (y::ys))
  | .us z (q::cs)=>(xx (y::ys)).bind fun _=>(qhb bytes sz (.us z (q::cs)) (y::ys)).bind fun r=>some (r,hp)
  | .sc v=>(wI (vI v=true/\yk bytes sz (y::ys).length=true)).bind fun _=>some (.ms hp.next 0 0 (zt sz (y::ys)) sz,hp.new (y::ys))
  | .ms b g off n z=>(wI (z=sz/\off=0/\0<n)).bind fun _=>(hp.rd b g).bind fun cs=>
   (wI (n*sz<=cs.length/\yk bytes sz (n*sz+(y::ys).length)=true)).bind fun _=>some (.ms hp.next 0 0 (n+zt sz (y::ys)) sz,(hp.del b).new ((cs.take (n*sz)).map ro1++(y::ys)))
  |_=>none
def VJ{R:Type}(c:Cx)(h:Nat)(o:Oper)(b:Builtin)(ts:List TypeId)(as_:List SV)(hp:Hp)(K:SV->Hp->Option R):Option R:=
 match b,ts,as_ with
 | .len,[t],[.av x]=>match c.tn t with
  |some ti=>match ti.k with
   | .sl _=>(yH x).bind fun n=>K (.sv (.int .i64 n)) hp
   | .mp _ _=>(wI (h=2)).bind fun _=>(Yl x).bind fun b=>(hp.rdM b).bind fun es=>K (.sv (.int .i64 es.length)) hp
   |_=>none
  |none=>none
 | .append,[t,t'],[d,s]=>if t'≠t then none else match c.tn t with
  |some ti=>match ti.k with
   | .sl e=>match c.tn e with
    |some ei=>(toA d).bind fun d'=>(toA s).bind fun s'=>if h=2 then(jo ei.bytes ei.size d' s' hp).bind fun q=>K (.av q.1) q.2 else(zZ ei.bytes ei.size d' s').bind fun y=>K (.av y) hp
    |none=>none
   |_=>none
  |none=>none
 | .copy,[t,_],[.av d,.av s]=>match c.tn t with
  |some ti=>match ti.k with
   | .sl e=>match c.tn e with
    |some ei=>(wI (h=2/\0<ei.size)).bind fun _=>(qL d).bind fun p=>(jl p.2.2.2.2 ei.size).bind fun _=>(wW hp ei.size s).bind fun ys=>(hp.rd p.1 p.2.1).bind fun cs=>
     (qh cs p.2.2.1 (JF ei.size p.2.2.2.1 ys).2).bind fun cs'=>K (.sv (.int .i64 ((JF ei.size p.2.2.2.1 ys).1:Nat))) (hp.put p.1 p.2.1 cs')
    |none=>none
   |_=>none
  |none=>none
 |b,ts,as_=>(qcd as_).bind fun vs=>(vc c.P b ts.toArray o.type vs).bind fun z=>K (.sv z) hp
def tN(n:Int):Nat:=n.toNat
def yu(bytes size:Nat)(n n':Int):Option Unit:=wI (n=n'/\0<=n/\yk bytes 1 n.toNat=true/\0<size)
def yU(n:Int)(z:List Value):List AV:=(List.replicate n.toNat (zS z)).flatten
def xQ(hp:Hp)(x:AV):Option (AV×Hp):=
 match x with
 | .ms b g off n z=>(wI (0<z)).bind fun _=>(hp.rd b g).bind fun cs=>(ql cs off (n*z)).bind fun l=>(wI (l.all vl=true)).bind fun _=>some (.sl z (l.map ro1),hp.del b)
 |x=>some (x,hp)
def Jz(hp:Hp):List AV->Option (List AV×Hp)
 |[]=>some ([],hp)
 |x::r=>(xQ hp x).bind fun p=>(Jz p.2 r).bind fun q=>some (p.1::q.1,q.2)
def qk4(k:TK)(hp:Hp)(s:SV):Option (SV×Hp):=
 match s with
 | .av x=>if yR k then(KW (.av x)).bind fun cs=>(Jz hp cs).bind fun q=>some (.av (.agg q.1),q.2)else(xQ hp x).bind fun q=>some (.av q.1,q.2)
 |s=>some (s,hp)
def qqb{R:Type}(k:TK)(hp:Hp)(s:SV)(K:SV->Hp->Option R):Option R:=
 match s with
 | .av x=>if yR k then(KW (.av x)).bind fun cs=>(Jz hp cs).bind fun q=>K (.av (.agg q.1)) q.2 else(xQ hp x).bind fun q=>K (.av q.1) q.2
 |s=>K s hp
def orA(f:Option AV)(x:AV):AV:=f.getD x
def isS(f:Option AV):Bool:=f.isSome
def qm1(ti:TI):Bool:=
 match ti.k,ti.zero with
 | .sc,[.int _ _]=>true
 |_,_=>false
def qm2(ti:TI):Bool:=
 match ti.k,ti.zero with
 | .sc,[.bool _]=>true
 |_,_=>false
def za6(ti:TI):Value->Bool
 | .int _ _=>qm1 ti
 | .string _=>WM ti
 | .bool _=>qm2 ti
 |_=>false
def Xv(ti:TI):AV:=if yR ti.k then .agg (zS ti.zero)else(zS ti.zero).headD (.agg [])
def mapV:SV->Option AV
 | .sv v=>some (.sc v)
 | .av x=>some (ro x)
 |_=>none
def ofA(k:TK)(x:AV):Option SV:=if qdl k then(vA x).bind fun v=>some (.sv v)else some (.av x)
def qmw(ok:Bool)(ei:TI)(f:Option AV):Option SV:=
 match ok with
 |true=>some (.tp [orA f (Xv ei),.sc (.bool (isS f))])
 |false=>ofA ei.k (orA f (Xv ei))
def ofAK{R:Type}(k:TK)(x:AV)(K:SV->Option R):Option R:=if qdl k then(vA x).bind fun v=>K (.sv v)else K (.av x)
def qko{R:Type}(ok:Bool)(ei:TI)(f:Option AV)(K:SV->Option R):Option R:=
 match ok with
 |true=>K (.tp [orA f (Xv ei),.sc (.bool (isS f))])
 |false=>ofAK ei.k (orA f (Xv ei)) K
def xO{R:Type}(c:Cx)(t:TypeId)(x i:SV)(ok:Bool)(hp:Hp)(K:SV->Option R):Option R:=
 match c.tn t with
 |some ti=>match ti.k with
  | .mp kt et=>match c.tn kt,c.tn et with
   |some ki,some ei=>(toA x).bind fun x'=>(Yl x').bind fun b=>(hp.rdM b).bind fun es=>(xW i).bind fun k=>(qlc (za6 ki k)).bind fun _=>(qgo k es).bind fun f=>qko ok ei f K
   |_,_=>none
  |_=>none
 |none=>none
def QO{R:Type}(c:Cx)(t:TypeId)(m k x:SV)(hp:Hp)(K:Hp->Option R):Option R:=
 match c.tn t with
 |some ti=>match ti.k with
  | .mp kt et=>match c.tn kt,c.tn et with
   |some ki,some ei=>(toA m).bind fun m'=>(Yl m').bind fun b=>(hp.rdM b).bind fun es=>(xW k).bind fun kv=>(qlc (za6 ki kv)).bind fun _=>(mapV x).bind fun v=>
    (qpf kv v es).bind fun es'=>K (hp.put b 1 es')
   |_,_=>none
  |_=>none
 |none=>none
def yW(xs caps:List AV):Option Unit:=wI (xs.all vlF=true/\caps.all vl=true)
def vF(y:AV):Option Unit:=wI (vlV y=true)
def jB{R:Type}(c:Cx)(C:Orc)(h:Nat)(ti:TI)(f:FuncId)(caps:List AV)(as_:List SV)(hp:Hp)(K:Kt R):Option R:=
 (XA as_).bind fun xs=>
 if h=2 then(C f ((xs.map ro)++caps) hp).bind fun p=>Vy ti p.1 fun s=>K s none p.2
 else if h=4 then(C f (caps++(xs.map ro)) hp).bind fun p=>Vy ti p.1 fun s=>K s none p.2
 else(yW xs caps).bind fun _=>(C f ((xs.map ro)++caps) hp0).bind fun p=>(vF p.1).bind fun _=>Vy ti p.1 fun s=>K s none hp
def qo{R:Type}(c:Cx)(C:Orc)(h:Nat)(o:Oper)(ev:Operand->SV)(gb:Nat->Option (Nat×List AV))(hp:Hp)(K:Kt R):Option R:=
 match o.op with
 | .move x=>match c.tt o.type with
  |some ti=>if h=3 then qqb ti.k hp (VC ti.k (ev x).ro) fun s q=>K s none q else K (if h=1 then VC ti.k (ev x)else VC ti.k (ev x).ro) none hp
  |none=>none
 | .assign x=>match c.tt o.type with
  |some ti=>if h=3 then qqb ti.k hp (VC ti.k (ev x)) fun s q=>K s none q else K (VC ti.k (ev x)) none hp
  |none=>none
 | .pick a x y=>Kb (ev a) (ev x) (ev y) fun s=>K s none hp
 | .alloc t=>match c.tn t with
  |some ti=>if h=2 then K (.av (.ptr hp.next 0 0)) none (hp.new (zS ti.zero))else
   match o.dst with
   |some d=>let g:=match gb d with|some (g,_)=>g+1|none=>0
    K (.lp d g 0) (some (d,g,zS ti.zero)) hp
   |none=>none
  |none=>none
 | .box t x=>match c.tn t with
  |some ti=>(valC ti.size (ev x)).bind fun vs=>if h=2 then K (.av (.ptr hp.next 0 0)) none (hp.new (vs.map ro1))else
   match o.dst with
   |some d=>let g:=match gb d with|some (g,_)=>g+1|none=>0
    K (.lp d g 0) (some (d,g,vs.map ro1)) hp
   |none=>none
  |none=>none
 | .build t ps=>match c.tn t with
  |some ti=>match ti.k with
   | .st fs=>if fs.all (fun p=>(c.tn p.2).isSome)=true then yM (XZ c fs) ev (fun cs=>K (.av (.agg (cs.map ro1))) none hp) ps.toList (zS ti.zero)else none
   | .ar _ e=>match c.tn e with
    |some ei=>yM (fun i=>some (i*ei.size,ei.size)) ev (fun cs=>K (.av (.agg (cs.map ro1))) none hp) ps.toList (zS ti.zero)
    |none=>none
   |_=>none
  |none=>none
 | .buildSlice t n ps=>match c.tn t with
  |some ti=>match ti.k with
   | .sl e=>match c.tn e with
    |some ei=>if n*ei.size<=4096/\0<ei.size then
     yM (fun i=>some (i*ei.size,ei.size)) ev (fun cs=>(xx cs).bind fun _=>K (.av (.us ei.size (cs.map ro1))) none hp) ps.toList (List.replicate n (zS ei.zero)).flatten
     else none
    |none=>none
   |_=>none
  |none=>none
 | .load t a=>match c.tn t with
  |some ti=>if h=3 then jr 0 ti (ev a) gb hp fun s b q=>qqb ti.k q s fun s' q'=>K s' b q' else jr h ti (ev a) gb hp K
  |none=>none
 | .store t a x=>match c.tn t with
  |some ti=>xk ti (ev a) (ev x) gb hp K
  |none=>none
 | .nilCheck x=>match ev x with
  | .lp k g off=>K (.lp k g off) none hp
  | .av y=>(Qm y).bind fun _=>K (.av y) none hp
  |_=>none
 | .binOp op t x y _=>qlj c op t x y (ev x) (ev y) fun s=>K s none hp
 | .unOp op _ x=>(xW (ev x)).bind fun v=>(unV c.P op v).bind fun z=>K (.sv z) none hp
 | .convert s d x=>match c.tn s,c.tn d with
  |some si,some di=>KC c s d si di (ev x) fun s=>K s none hp
  |_,_=>none
 | .makeFunc (.func f) fs cs=>if fs.toList.isEmpty=true then(XA (cs.toList.map ev)).bind fun xs=>if xs.all Kx=true then(qlc (Nat.blt f 4294967296)).bind fun _=>K (.av (.fn f (xs.map ro1))) none hp else none
  else if cs.toList.isEmpty=true then(XA (fs.toList.map ev)).bind fun xs=>(qnd xs).bind fun _=>K (.av (.fn (4294967296+f) (xs.map ro1))) none hp else none
 | .makeSlice t l m=>match c.tn t with
  |some ti=>match ti.k with
   | .sl e=>match c.tn e with
    |some ei=>(xW (ev l)).bind fun lv=>(xW (ev m)).bind fun mv=>(YW lv).bind fun n=>(YW mv).bind fun n'=>
     (yu ei.bytes ei.size n n').bind fun _=>
      (if h=2 then K (.av (.ms hp.next 0 0 (tN n) ei.size)) none (hp.new (yU n ei.zero))
       else K (.av (.us ei.size (yU n ei.zero))) none hp)
    |none=>none
   |_=>none
  |none=>none
 | .slice t x lo hi mx=>match c.tn t with
  |some ti=>if mx.isSome&&!hi.isSome then none else(opV ev lo).bind fun l=>(opV ev hi).bind fun u=>(opV ev mx).bind fun m=>Zq c h ti t (ev x) l u m fun s=>K s none hp
  |none=>none
 | .fieldAddr t x f=>match c.tn t with
  |some ti=>yy c ti (ev x) f fun s=>K s none hp
  |none=>none
 | .field t x f=>match c.tn t with
  |some ti=>match ti.k with
   | .st fs=>match fs[f]? with
    |some (fo,ft)=>match c.tn ft with
     |some fi=>(KW (ev x)).bind fun cs=>jL fi 0 cs fo fun s _=>K s none hp
     |none=>none
    |none=>none
   |_=>none
  |none=>none
 | .indexAddr t x i=>match c.tn t with
  |some ti=>yv c h ti (ev x) (ev i) fun s=>K s none hp
  |none=>none
 | .index t x i=>match c.tt o.type with
  |some ti=>if qdl ti.k then(WT (ev x)).bind fun a=>(xW (ev i)).bind fun iv=>(ixV c.P t a iv).bind fun z=>K (.sv z) none hp else
   match c.tn t with
   |some xi=>match xi.k with
    | .ar n e=>match c.tn e with
     |some ei=>(KW (ev x)).bind fun cs=>(xW (ev i)).bind fun iv=>(idx n iv).bind fun j=>jL ei 0 cs (j*ei.size) fun s _=>K s none hp
     |none=>none
    |_=>none
   |none=>none
  |none=>none
 | .extract x i=>match ev x with
  | .tp l=>match l[i]? with
   |some y=>match c.tt o.type with
    |some ti=>if qdl ti.k then(vA y).bind fun v=>K (.sv v) none hp else if h=1 then K (.av (ro y)) none hp else K (.av y) none hp
    |none=>none
   |none=>none
  |_=>none
 | .makeMap t none=>if h=2 then K (.av (.map hp.next)) none hp.newM else none
 | .lookup t x i ok=>if h=2 then xO c t (ev x) (ev i) ok hp fun s=>K s none hp else none
 | .mapUpdate t m k x=>if h=2 then QO c t (ev m) (ev k) (ev x) hp fun q=>K .un none q else none
 | .call cl=>match cl.callee with
  | .builtin b=>VJ c h o b cl.argTypes.toList (cl.args.toList.map ev) hp fun s q=>K s none q
  | .value (.func f)=>match c.F f,c.tt o.type with
   |some fn,some ti=>match fn.body with
    |some _=>jB c C h ti f [] (cl.args.toList.map ev) hp K
    |none=>(qcd (cl.args.toList.map ev)).bind fun vs=>(one (c.X f vs)).bind fun z=>K (.sv z) none hp
   |_,_=>none
  | .value (.tmp t)=>match c.tt o.type with
   |some ti=>match ev (.tmp t)with
    | .av x=>if h=4 then(wU x).bind fun p=>jB c C h ti p.1 p.2 (cl.args.toList.map ev) hp K else(Kq x).bind fun p=>jB c C h ti p.1 p.2 (cl.args.toList.map ev) hp K
    |_=>none
   |none=>none
  |_=>none
 |_=>none
structure Fp where
 rs:List Nat
 ws:List Nat
 br:Option Nat
 bw:Option Nat
 hr:Bool
 hw:Bool
 nw:Bool
 lq:Option (AV×Nat)
 gb:Nat->Option (Nat×List AV)
 ga:Nat->Option (Nat×List AV)
def yi(q:AV×Nat)(g:Nat->Option (Nat×List AV)):Option (List AV):=
 (qN q.1).bind fun p=>(g p.1).bind fun z=>if z.1=0 then(ql z.2 p.2.2 q.2).map (List.map ro1)else none
noncomputable def yK(q:AV×Nat)(g g':Nat->Option (Nat×List AV)):Option Unit:=
 @ite _ (yi q g=yi q g') (Classical.propDecidable _) (some ()) none
def qf0(h:Nat)(o:Oper)(tn:TypeId->Option TI)(ev:Operand->SV):Option (AV×Nat):=
 match o.op with
 | .load t a=>match ev a with
  | .av x=>match h==1||h==3 with
   |true=>none
   |false=>match tn t with
    |some ti=>some (x,match yR ti.k with|true=>ti.size|false=>1)
    |none=>none
  |_=>none
 |_=>none
def qkz(b:Bool)(hp:Hp):Nat->Option (Nat×List AV):=
 match b with
 |true=>hp.get
 |false=>fun _=>none
inductive It where
 |code (c:Code)
 |inBlock (id:Nat)
 |inLoop (body:Code)
 |inScope (body:Code)
 |ops (r:Nat) (ops:Array Oper) (is:List Nat) (d:Bool) (acc:List (Nat×Fp))
def dn(t:Tmp)(l:Slots):Slots:=(t,(qF l t).ro)::l
def dnX(t:Tmp)(i:Nat)(l:Slots):Slots:=
 match qF l t with
 | .tp xs=>(t,.tp (match xs[i]? with|some y=>xs.set i (ro y)|none=>xs))::l
 |_=>l
def jm:List Operand->List Nat
 |[]=>[]
 | .tmp t::r=>t::jm r
 |_::r=>jm r
def qX(h:Nat)(o:Oper):List Nat:=
 match o.op with
 | .move x=>if h=1 then jm [x]else []
 | .assign x=>jm [x]
 | .store _ _ x=>jm [x]
 | .extract x _=>if h=1 then []else jm [x]
 | .call c=>match c.callee with
  | .builtin .append=>jm c.args.toList
  |_=>[]
 |_=>[]
def qP(ts:List Nat)(l:Slots):Slots:=ts.foldl (fun l t=>dn t l) l
def qG(h:Nat)(o:Oper)(l:Slots):Slots:=
 match o.op with
 | .extract (.tmp t) i=>if h=1 then l else dnX t i l
 |_=>qP (qX h o) l
def ye(h:Nat)(o:Oper)(ev:Operand->SV):Option Nat×Option Nat:=
 match o.op with
 | .load _ a=>match ev a with
  | .lp k _ _=>if h=1 then(none,some k)else(some k,none)
  |_=>(none,none)
 | .store _ a _=>match ev a with
  | .lp k _ _=>(none,some k)
  |_=>(none,none)
 | .alloc _=>if h=2 then(none,none)else(none,o.dst)
 | .box _ _=>if h=2 then(none,none)else(none,o.dst)
 |_=>(none,none)
def zx(h:Nat)(o:Oper)(ev:Operand->SV):Bool×Bool×Bool:=
 match o.op with
 | .load _ a=>match ev a with
  | .av _=>(h==1||h==3,h==1||h==3,h==3)
  |_=>(h==3,h==3,h==3)
 | .move _=>(h==3,h==3,h==3)
 | .assign _=>(h==3,h==3,h==3)
 | .makeMap _ _=>(true,true,true)
 | .lookup _ _ _ _=>(true,false,false)
 | .mapUpdate _ _ _ _=>(true,true,true)
 | .store _ a _=>match ev a with
  | .av _=>(false,true,false)
  |_=>(false,false,false)
 | .alloc _=>(false,h==2,h==2)
 | .box _ _=>(false,h==2,h==2)
 | .makeSlice _ _ _=>(false,h==2,h==2)
 | .call c=>match c.callee with
  | .builtin _=>(h==2,h==2,h==2)
  |_=>(h==2||h==4,h==2||h==4,h==2||h==4)
 |_=>(false,false,false)
def zet(tn:TypeId->Option TI)(h:Nat)(ops:Array Oper)(o:Oper)(l:Slots)(hp hp':Hp):Fp:=
 let b:=ye h o (zP l)
 let q:=zx h o (zP l)
 {rs:=o.looksAt ops,ws:=o.dst.toList++qX h o,br:=b.1,bw:=b.2,hr:=q.1,hw:=q.2.1,nw:=q.2.2,lq:=qf0 h o tn (zP l),gb:=qkz q.2.1 hp,ga:=qkz q.2.1 hp'}
def Yn(ops:Array Oper)(o:Oper):Fp:=
 {rs:=o.looksAt ops,ws:=o.dst.toList,br:=none,bw:=none,hr:=false,hw:=false,nw:=false,lq:=none,gb:=fun _=>none,ga:=fun _=>none}
def WG(a b:List Nat):Bool:=a.any fun x=>b.contains x
def qni(a b:Fp):Bool:=
 WG a.ws b.rs||WG a.ws b.ws||WG a.rs b.ws||
 (match a.bw,b.bw with|some x,some y=>x==y|_,_=>false)||
 (match a.bw,b.br with|some x,some y=>x==y|_,_=>false)||
 (match a.br,b.bw with|some x,some y=>x==y|_,_=>false)||
 (a.hw&&(b.hr||b.hw))||(a.hr&&b.hw)||(a.nw&&b.nw)
def jE:List Oper->List (List Nat)->List (List Nat)
 |[],t=>t
 |o::r,t=>
  let ds:=(o.after.toList.filter fun e=>Region.binds .any e).map (·.on)
  jE r (t++[(ds++ds.flatMap fun j=>t.getD j []).eraseDups])
def KA(ops:Array Oper):Bool:=(List.range ops.size).all fun i=>match ops[i]? with
 |some o=>o.after.toList.all fun e=>!Region.binds .any e||decide (e.on<i)
 |none=>true
def Yp(ops:Array Oper)(acc:List (Nat×Fp)):Bool:=
 let t:=jE ops.toList []
 KA ops&&acc.all fun p=>acc.all fun q=>!(decide (p.1<q.1))||(t.getD q.1 []).contains p.1||!(qni p.2 q.2)
def qc4(t:List (List Nat))(i j:Nat):Bool:=(t.getD j []).contains i||(t.getD i []).contains j
noncomputable def qqg(t:List (List Nat))(p q:Nat×Fp)(r:List (Option Unit)):List (Option Unit):=
 match p.2.lq with
 |none=>r
 |some x=>match q.2.hw with
  |false=>r
  |true=>match qc4 t p.1 q.1 with
   |true=>r
   |false=>yK x q.2.gb q.2.ga::r
noncomputable def qxf(t:List (List Nat))(p:Nat×Fp):List (Nat×Fp)->List (Option Unit)->List (Option Unit)
 |[],r=>r
 |q::l,r=>qqg t p q (qxf t p l r)
noncomputable def zez(t:List (List Nat))(acc:List (Nat×Fp)):List (Nat×Fp)->List (Option Unit)
 |[]=>[]
 |p::l=>qxf t p acc (zez t acc l)
noncomputable def zae(ops:Array Oper)(acc:List (Nat×Fp)):List (Option Unit):=zez (jE ops.toList []) acc acc
def qno{R:Type}:List (Option Unit)->Option R->Option R
 |[],X=>X
 |o::l,X=>o.bind fun _=>qno l X
def xp(b:Boxes):List Nat->Boxes
 |[]=>[]
 |k::r=>match jd b k with
  |some (g,cs)=>(k,g,cs)::xp b r
  |none=>xp b r
def Kf(b:Boxes)(s:SV):SV:=
 match s with
 | .lp k g o=>match jd b k with
  |some _=>.lp k g o
  |none=>.un
 |s=>s
def Qo(b:Boxes)(l:Slots):List Nat->Slots
 |[]=>[]
 |k::r=>match Kf b (qF l k)with
  | .un=>Qo b l r
  |s=>(k,s)::Qo b l r
def mask(m:Option (List Nat))(st:St):St:=
 match m with
 |none=>st
 |some live=>⟨Qo (xp st.bx live) st.sl live,xp st.bx live,st.hp⟩
def Wu(id:Nat):List It->Option (List It)
 |[]=>none
 | .inBlock j::k=>if j=id then some k else Wu id k
 |_::k=>Wu id k
def XW{R:Type}(st:St)(tt:TypeId->Option TI)(r:ResultVar)(K:AV->Option R):Option R:=
 match r with
 | .tmp t=>(toA (qF st.sl t)).bind K
 | .cell a ty=>match tt ty with
  |some ti=>match qF st.sl a with
   | .lp k g off=>match jd st.bx k with
    |some (g',cs)=>if g=g' then
     (if yR ti.k then(ql cs off ti.size).bind fun l=>K (.agg l)else(qj cs off).bind K)
     else none
    |none=>none
   |_=>none
  |none=>none
def wg{R:Type}(st:St)(tt:TypeId->Option TI)(K:List AV->Option R):List ResultVar->Option R
 |[]=>K []
 |r::l=>XW st tt r fun x=>wg st tt (fun xs=>K (x::xs)) l
def Zh(st:St):ResultVar->Nat×Nat
 | .tmp t=>(0,t)
 | .cell a _=>match qF st.sl a with
  | .lp k _ _=>(1,k)
  |_=>(2,0)
def qmo(k:Nat×Nat):List (Nat×Nat)->Bool
 |[]=>true
 |j::r=>match Nat.beq j.1 k.1&&Nat.beq j.2 k.2 with|true=>false|false=>qmo k r
def vM:List (Nat×Nat)->Bool
 |[]=>true
 |k::r=>match qmo k r with|true=>vM r|false=>false
def fin(c:Cx)(f:FuncId)(st:St):Option (AV×Hp):=
 match c.F f with
 |some fn=>cond (vM (fn.results.toList.map (Zh st))) (wg st c.tn (fun l=>match l with
  |[x]=>some (x,st.hp)
  |l=>some (.tup l,st.hp)) fn.results.toList) none
 |none=>none
def xr{R:Type}(c:Cx):Nat->List TypeId->List AV->(Slots->Option R)->Option R
 |_,[],[],K=>K []
 |i,[],x::xs,K=>xr c (i+1) [] xs fun l=>K ((i,.av x)::l)
 |_,_::_,[],_=>none
 |i,t::ts,x::xs,K=>match c.tn t with
  |some ti=>if qdl ti.k then(vA x).bind fun v=>xr c (i+1) ts xs fun l=>K ((i,.sv v)::l)else xr c (i+1) ts xs fun l=>K ((i,.av x)::l)
  |none=>none
def after(h:Nat)(o:Oper)(st:St)(s:SV)(b:BE)(hp:Hp):St:=
 ⟨wn (qG h o st.sl) o.dst s,(match b with|some (k,g,cs)=>XH st.bx k g cs|none=>st.bx),hp⟩
def xh(o:Oper)(ops:Array Oper):Option (Option (Nat×Bool)):=
 match o.guard with
 |none=>some none
 |some (j,want)=>match ops[j]? with
  |some oj=>match oj.dst with
   |some d=>some (some (d,want))
   |none=>none
  |none=>none
def qln(d:Bool)(i:Nat)(p:Fp)(acc:List (Nat×Fp)):List (Nat×Fp):=if d then(i,p)::acc else acc
theorem kT{R:Type}:∀{l:List (Option Unit)} {X:Option R} {r:R},qno l X=some r->(∀o∈l,o=some ())/\X=some r
 |[],X,r,h=>⟨by simp,h⟩
 |o::l,X,r,h=>by
  obtain⟨u,hu,h⟩:=bsm h
  obtain⟨h1,h2⟩:=kT h
  refine⟨fun o' ho=>?_,h2⟩
  rcases List.mem_cons.mp ho with rfl|ho
  ·exact hu
  ·exact h1 o' ho
theorem KQ{R:Type}:∀{l:List (Option Unit)} {X:Option R} {r:R},(∀o∈l,o=some ())->X=some r->qno l X=some r
 |[],X,r,_,h=>h
 |o::l,X,r,h1,h=>by
  show o.bind _=_
  rw[h1 o (by simp)]
  exact KQ (fun o ho=>h1 o (by simp[ho])) h
theorem qi4{q:AV×Nat}{g g':Nat->Option (Nat×List AV)}(h:yK q g g'=some ()):yi q g=yi q g':=by
 unfold yK at h
 split at h
 ·assumption
 ·cases h
theorem qgs{t:List (List Nat)}{p q:Nat×Fp}{x:AV×Nat}(hx:p.2.lq=some x)(hw:q.2.hw=true)(ho:qc4 t p.1 q.1=false):
 ∀{l:List (Nat×Fp)} {r:List (Option Unit)},q∈l->yK x q.2.gb q.2.ga∈qxf t p l r
 |q'::l,r,hq=>by
  show _∈qqg t p q' (qxf t p l r)
  rcases List.mem_cons.mp hq with rfl|hq
  ·simp only[qqg,hx,hw,ho]
   exact List.mem_cons_self ..
  ·have ih:=qgs hx hw ho (r:=r) hq
   unfold qqg
   split
   ·exact ih
   ·split
    ·exact ih
    ·split
     ·exact ih
     ·exact List.mem_cons_of_mem _ ih
theorem qqf{t:List (List Nat)}{p q:Nat×Fp}{r:List (Option Unit)}{o:Option Unit}(h:o∈r):o∈qqg t p q r:=by
 unfold qqg
 split
 ·exact h
 ·split
  ·exact h
  ·split
   ·exact h
   ·exact List.mem_cons_of_mem _ h
theorem WS{t:List (List Nat)}{p:Nat×Fp}{o:Option Unit}:∀{l:List (Nat×Fp)} {r:List (Option Unit)},o∈r->o∈qxf t p l r
 |[],r,h=>h
 |q::l,r,h=>qqf (WS h)
theorem qgr{t:List (List Nat)}{acc:List (Nat×Fp)}{p q:Nat×Fp}{x:AV×Nat}(hx:p.2.lq=some x)(hw:q.2.hw=true)(ho:qc4 t p.1 q.1=false)(hq:q∈acc):
 ∀{l:List (Nat×Fp)},p∈l->yK x q.2.gb q.2.ga∈zez t acc l
 |p'::l,hp=>by
  rcases List.mem_cons.mp hp with rfl|hp
  ·exact qgs hx hw ho hq
  ·exact WS (qgr hx hw ho hq hp)
theorem Wv{ops:Array Oper}{acc:List (Nat×Fp)}(h:∀o∈zae ops acc,o=some ()){p q:Nat×Fp}(hp:p∈acc)(hq:q∈acc){x:AV×Nat}(hx:p.2.lq=some x)(hw:q.2.hw=true):
 qc4 (jE ops.toList []) p.1 q.1=true\/yi x q.2.gb=yi x q.2.ga:=by
 cases ho:qc4 (jE ops.toList []) p.1 q.1 with
 |true=>exact .inl rfl
 |false=>exact .inr (qi4 (h _ (qgr hx hw ho hq hp)))
abbrev GoT:=List It->St->Option (AV×Hp)
def JB(c:Cx)(C:Orc)(G:GoT)(r:Nat)(ops:Array Oper)(is:List Nat)(d:Bool)(acc:List (Nat×Fp))(k:List It)(h i:Nat)(o:Oper)(st:St):Option (AV×Hp):=
 qo c C h o (zP st.sl) (jd st.bx) st.hp fun s b hp=>G (.ops r ops is d (qln d i (zet c.tn h ops o st.sl st.hp hp) acc)::k) (after h o st s b hp)
def qea(G:GoT)(r:Nat)(ops:Array Oper)(is:List Nat)(d:Bool)(acc:List (Nat×Fp))(k:List It)(i:Nat)(o:Oper)(st:St):Option (AV×Hp):=
 G (.ops r ops is d (qln d i (Yn ops o) acc)::k) ⟨wn st.sl o.dst .ud,st.bx,st.hp⟩
def qn5(st:St)(g:Nat)(b:Bool):St:=⟨(g,.sv (.bool b))::st.sl,st.bx,st.hp⟩
def opF(c:Cx)(C:Orc)(G:GoT)(r:Nat)(ops:Array Oper)(is:List Nat)(d:Bool)(acc:List (Nat×Fp))(k:List It)(h i:Nat)(o:Oper)(st:St):Option (AV×Hp):=
 match xh o ops with
 |none=>none
 |some none=>JB c C G r ops is d acc k h i o st
 |some (some (g,want))=>match qF st.sl g with
  | .ud=>qea G r ops is d acc k i o st
  | .sv v=>(asB v).bind fun t=>match want with
   |true=>cond t (JB c C G r ops is d acc k h i o (qn5 st g true)) (qea G r ops is d acc k i o (qn5 st g false))
   |false=>cond t (qea G r ops is d acc k i o (qn5 st g true)) (JB c C G r ops is d acc k h i o (qn5 st g false))
  |_=>none
noncomputable def ya(c:Cx)(C:Orc)(G:GoT)(f:FuncId)(its:List It)(st:St):Option (AV×Hp):=
 match its with
 |[]=>fin c f st
 | .inBlock _::k=>G k st
 | .inLoop b::k=>G (.code b::.inLoop b::k) st
 | .inScope _::k=>G k st
 | .code (.scope b)::k=>G (.code b::.inScope b::k) st
 | .code .skip::k=>G k st
 | .code (.label _)::k=>G k st
 | .code .ret::_=>fin c f st
 | .code (.seq a b)::k=>G (.code a::.code b::k) st
 | .code (.block id b)::k=>G (.code b::.inBlock id::k) st
 | .code (.loop b)::k=>G (.inLoop b::k) st
 | .code (.exit id)::k=>(Wu id k).bind fun k'=>G k' st
 | .code (.cond x a b)::k=>(xW (zP st.sl x)).bind fun v=>(asB v).bind fun t=>cond t (G (.code a::k) st) (G (.code b::k) st)
 | .code (.region r ops d)::k=>G (.ops r ops (List.range ops.size) d []::k) (mask (c.M f r) st)
 | .ops r ops [] d acc::k=>cond (!d||Yp ops acc) (qno (zae ops acc) (G k st)) none
 | .ops r ops (i::is) d acc::k=>(ops[i]?).bind fun o=>opF c C G r ops is d acc k (c.H f r i) i o st
 |_=>none
noncomputable def wD(c:Cx)(C:Orc)(f:FuncId):Nat->List It->St->Option (AV×Hp)
 |0=>fun _ _=>none
 |n+1=>ya c C (wD c C f n) f
def yI{R:Type}(c:Cx)(f:FuncId)(xs:List AV)(hp:Hp)(K:List It->St->Option R):Option R:=
 match c.F f with
 |some fn=>match fn.body with
  |some b=>xr c 0 fn.params.toList xs fun l=>K [.code b] ⟨l,[],hp⟩
  |none=>none
 |none=>none
noncomputable def jQ(c:Cx):Nat->Orc
 |0=>fun _ _ _=>none
 |n+1=>fun f xs hp=>yI c f xs hp (wD c (jQ c n) f n)
def Le{α:Type}(a b:Option α):Prop:=∀r,a=some r->b=some r
theorem Le.refl{α:Type}(a:Option α):Le a a:=fun _ h=>h
theorem Le.trans{α:Type}{a b c:Option α}(h:Le a b)(h':Le b c):Le a c:=fun r hr=>h' r (h r hr)
abbrev k3:Kt (SV×BE×Hp):=fun s b hp=>some (s,b,hp)
section nat
variable {R:Type}
theorem qJ(ti:TI)(h:Nat)(cs:List AV)(off:Nat)(K:SV->List AV->Option R):
 jL ti h cs off K=(jL ti h cs off fun s c=>some (s,c)).bind fun p=>K p.1 p.2:=by
 unfold jL
 repeat' split
 all_goals simp[Option.bind_assoc]
theorem jF(ti:TI)(r:AV)(K:SV->Option R):Vy ti r K=(Vy ti r some).bind K:=by
 unfold Vy
 repeat' split
 all_goals simp[Option.bind_assoc]
theorem xq(h:Nat)(ti:TI)(a:SV)(gb:Nat->Option (Nat×List AV))(hp:Hp)(K:Kt R):
 jr h ti a gb hp K=(jr h ti a gb hp k3).bind fun p=>K p.1 p.2.1 p.2.2:=by
 unfold jr
 repeat' split
 all_goals first
  |(rw[qJ];conv=>rhs;rw[qJ]
    simp[Option.bind_assoc])
  |(simp only[Option.bind_assoc];congr 1;funext p;congr 1;funext cs;rw[qJ];conv=>rhs;rw[qJ]
    simp[Option.bind_assoc])
  |simp
theorem qcg(ti:TI)(a x:SV)(gb:Nat->Option (Nat×List AV))(hp:Hp)(K:Kt R):
 xk ti a x gb hp K=(xk ti a x gb hp k3).bind fun p=>K p.1 p.2.1 p.2.2:=by
 unfold xk
 simp only[Option.bind_assoc]
 congr 1;funext vs
 repeat' split
 all_goals simp[Option.bind_assoc]
theorem kO(c:Cx)(ti:TI)(a:SV)(f:Nat)(K:SV->Option R):yy c ti a f K=(yy c ti a f some).bind K:=by
 unfold yy
 repeat' split
 all_goals simp[Option.bind_assoc]
theorem kD(c:Cx)(h:Nat)(ti:TI)(a i:SV)(K:SV->Option R):yv c h ti a i K=(yv c h ti a i some).bind K:=by
 unfold yv
 repeat' split
 all_goals simp[Option.bind_assoc]
theorem Zp(c:Cx)(h:Nat)(ti:TI)(t:TypeId)(a:SV)(lo hi mx:Option Value)(K:SV->Option R):
 Zq c h ti t a lo hi mx K=(Zq c h ti t a lo hi mx some).bind K:=by
 unfold Zq
 repeat' split
 all_goals simp[Option.bind_assoc]
theorem Yq(c:Cx)(s d:TypeId)(si di:TI)(a:SV)(K:SV->Option R):KC c s d si di a K=(KC c s d si di a some).bind K:=by
 unfold KC
 repeat' split
 all_goals simp[Option.bind_assoc]
theorem KS(c:Cx)(op:BinOp)(t:TypeId)(x y:Operand)(a b:SV)(K:SV->Option R):qlj c op t x y a b K=(qlj c op t x y a b some).bind K:=by
 unfold qlj
 repeat' split
 all_goals simp[Option.bind_assoc]
theorem Yh(c a b:SV)(K:SV->Option R):Kb c a b K=(Kb c a b some).bind K:=by
 unfold Kb
 simp only[Option.bind_assoc]
 congr 1;funext v;congr 1;funext t
 repeat' split
 all_goals first|simp|(cases t<;>simp)
theorem KP(c:Cx)(h:Nat)(o:Oper)(b:Builtin)(ts:List TypeId)(as_:List SV)(hp:Hp)(K:SV->Hp->Option R):VJ c h o b ts as_ hp K=(VJ c h o b ts as_ hp fun s q=>some (s,q)).bind fun p=>K p.1 p.2:=by
 unfold VJ
 repeat' split
 all_goals first
  |(simp[Option.bind_assoc];done)
  |(simp only[Option.bind_assoc];congr 1;funext d;congr 1;funext s
    split<;>simp[Option.bind_assoc])
theorem WJ(ok:Bool)(ei:TI)(f:Option AV)(K:SV->Option R):qko ok ei f K=(qmw ok ei f).bind K:=by
 cases ok
 ·unfold qko qmw ofAK ofA
  dsimp only
  split<;>simp[Option.bind_assoc]
 ·rfl
theorem vj(c:Cx)(t:TypeId)(x i:SV)(ok:Bool)(hp:Hp)(K:SV->Option R):xO c t x i ok hp K=(xO c t x i ok hp some).bind K:=by
 unfold xO
 simp only[WJ]
 repeat' split
 all_goals simp[Option.bind_assoc]
theorem Qp(c:Cx)(t:TypeId)(m k x:SV)(hp:Hp)(K:Hp->Option R):QO c t m k x hp K=(QO c t m k x hp some).bind K:=by
 unfold QO
 repeat' split
 all_goals simp[Option.bind_assoc]
theorem vn(k:TK)(hp:Hp)(s:SV)(K:SV->Hp->Option R):qqb k hp s K=(qk4 k hp s).bind fun p=>K p.1 p.2:=by
 unfold qqb qk4
 split
 ·split<;>simp[Option.bind_assoc]
 ·simp only[Option.bind_some]
theorem WX(c:Cx)(C:Orc)(h:Nat)(ti:TI)(f:FuncId)(caps:List AV)(as_:List SV)(hp:Hp)(K:Kt R):
 jB c C h ti f caps as_ hp K=(jB c C h ti f caps as_ hp k3).bind fun p=>K p.1 p.2.1 p.2.2:=by
 unfold jB
 simp only[Option.bind_assoc]
 congr 1;funext xs
 split
 ·simp only[Option.bind_assoc]
  congr 1;funext p
  rw[jF];conv=>rhs;rw[jF]
  simp[Option.bind_assoc]
 ·split
  ·simp only[Option.bind_assoc]
   congr 1;funext p
   rw[jF];conv=>rhs;rw[jF]
   simp[Option.bind_assoc]
  ·simp only[Option.bind_assoc]
   congr 1;funext u;congr 1;funext p;congr 1;funext u
   rw[jF];conv=>rhs;rw[jF]
   simp[Option.bind_assoc]
theorem jV(vh:Nat->Option (Nat×Nat))(ev:Operand->SV)(K:List AV->Option R):∀(l:List (Nat×Operand)) (cs:List AV),
 yM vh ev K l cs=(yM vh ev some l cs).bind K
 |[],cs=>rfl
 |(i,x)::r,cs=>by
  unfold yM
  split
  ·rfl
  ·simp only[Option.bind_assoc]
   congr 1;funext vs;congr 1;funext cs'
   exact jV vh ev K r cs'
theorem vN(c:Cx)(C:Orc)(h:Nat)(o:Oper)(ev:Operand->SV)(gb:Nat->Option (Nat×List AV))(hp:Hp)(K:Kt R):
 qo c C h o ev gb hp K=(qo c C h o ev gb hp k3).bind fun p=>K p.1 p.2.1 p.2.2:=by
 unfold qo
 repeat' split
 all_goals first
  |rfl
  |(simp[Option.bind_assoc];done)
  |exact xq _ _ _ _ _ _
  |exact qcg _ _ _ _ _ _
  |exact WX _ _ _ _ _ _ _ _ _
  |(rw[jV];conv=>rhs;rw[jV]
    simp[Option.bind_assoc];done)
  |(rw[Yh];conv=>rhs;rw[Yh]
    simp[Option.bind_assoc];done)
  |(rw[KS];conv=>rhs;rw[KS]
    simp[Option.bind_assoc];done)
  |(rw[Yq];conv=>rhs;rw[Yq]
    simp[Option.bind_assoc];done)
  |(rw[kO];conv=>rhs;rw[kO]
    simp[Option.bind_assoc];done)
  |(rw[kD];conv=>rhs;rw[kD]
    simp[Option.bind_assoc];done)
  |(rw[KP];conv=>rhs;rw[KP]
    simp[Option.bind_assoc];done)
  |(rw[vj];conv=>rhs;rw[vj]
    simp[Option.bind_assoc];done)
  |(rw[Qp];conv=>rhs;rw[Qp]
    simp[Option.bind_assoc];done)
  |(simp only[vn];rw[xq];conv=>rhs;rw[xq]
    simp[Option.bind_assoc];done)
  |(simp only[vn];simp[Option.bind_assoc];done)
  |(simp only[Option.bind_assoc];congr 1;funext cs;rw[qJ];conv=>rhs;rw[qJ]
    simp[Option.bind_assoc];done)
  |(simp only[Option.bind_assoc];congr 1;funext cs;congr 1;funext iv;congr 1;funext j;rw[qJ];conv=>rhs;rw[qJ]
    simp[Option.bind_assoc];done)
  |(simp only[Option.bind_assoc];congr 1;funext l;congr 1;funext u;congr 1;funext m;rw[Zp];conv=>rhs;rw[Zp]
    simp[Option.bind_assoc];done)
  |(simp only[Option.bind_assoc];congr 1;funext p;exact WX _ _ _ _ _ _ _ _ _)
  |(simp only[Option.bind_assoc];congr 1;funext l;congr 1;funext u;congr 1;funext m;congr 1;funext q;repeat' split
    all_goals simp)
  |(simp only[Option.bind_assoc];congr 1;funext l;repeat' split
    all_goals first
     |rfl
     |(simp[Option.bind_assoc];done))
end nat
def OLe(C C':Orc):Prop:=∀f xs hp,Le (C f xs hp) (C' f xs hp)
theorem Le.bind{α β:Type}{a b:Option α}{f g:α->Option β}(h:Le a b)(hf:∀x,Le (f x) (g x)):Le (a.bind f) (b.bind g):=by
 intro r hr
 cases a with
 |none=>simp at hr
 |some x=>rw[h x rfl];exact hf x r hr
theorem Le.cond{α:Type}{a b a' b':Option α}{t:Bool}(h:Le a a')(h':Le b b'):Le (cond t a b) (cond t a' b'):=by cases t<;>assumption
theorem KH(c:Cx){C C':Orc}(hC:OLe C C')(h:Nat)(ti:TI)(f:FuncId)(caps:List AV)(as_:List SV)(hp:Hp):
 Le (jB c C h ti f caps as_ hp k3) (jB c C' h ti f caps as_ hp k3):=by
 unfold jB
 refine Le.bind (Le.refl _) fun xs=>?_
 split
 ·exact Le.bind (hC _ _ _) fun p=>Le.refl _
 ·split
  ·exact Le.bind (hC _ _ _) fun p=>Le.refl _
  ·exact Le.bind (Le.refl _) fun _=>Le.bind (hC _ _ _) fun p=>Le.refl _
theorem KB(c:Cx){C C':Orc}(hC:OLe C C')(h:Nat)(o:Oper)(ev:Operand->SV)(gb:Nat->Option (Nat×List AV))(hp:Hp):
 Le (qo c C h o ev gb hp k3) (qo c C' h o ev gb hp k3):=by
 unfold qo
 repeat' split
 all_goals first
  |exact Le.refl _
  |exact KH c hC _ _ _ _ _ _
  |exact Le.bind (Le.refl _) fun p=>KH c hC _ _ _ _ _ _
noncomputable def lim{α:Type}(s:Nat->Option α):Option α:=
 open Classical in if h:∃n r,s n=some r then s h.choose else none
theorem qf1{α:Type}{s:Nat->Option α}(hs:∀n,Le (s n) (s (n+1)))(r:α):lim s=some r↔∃n,s n=some r:=by
 have up:∀n m,Le (s n) (s (n+m)):=by
  intro n m
  induction m with
  |zero=>exact Le.refl _
  |succ m ih=>exact ih.trans (hs (n+m))
 constructor
 ·intro h
  unfold lim at h
  split at h
  ·exact⟨_,h⟩
  ·cases h
 ·rintro⟨n,hn⟩
  unfold lim
  have h:∃n r,s n=some r:=⟨n,r,hn⟩
  rw[dif_pos h]
  obtain⟨r',hr'⟩:=h.choose_spec
  have a:=up n h.choose r hn
  have b:=up h.choose n r' hr'
  rw[Nat.add_comm]at b
  rw[a]at b
  cases b
  exact hr'
theorem Le.ite{α:Type}{p:Prop}[Decidable p]{a b a' b':Option α}(h:Le a a')(h':Le b b'):Le (if p then a else b) (if p then a' else b'):=by
 split<;>assumption
def GLe(G G':List It->St->Option (AV×Hp)):Prop:=∀its st,Le (G its st) (G' its st)
theorem qqd(c:Cx){C C':Orc}(hC:OLe C C'){G G':List It->St->Option (AV×Hp)}(hG:GLe G G')(h:Nat)(o:Oper)(ev:Operand->SV)
 (gb:Nat->Option (Nat×List AV)) (hp:Hp) (its:SV->BE->Hp->List It) (sts:SV->BE->Hp->St):
 Le (qo c C h o ev gb hp fun s b q=>G (its s b q) (sts s b q)) (qo c C' h o ev gb hp fun s b q=>G' (its s b q) (sts s b q)):=by
 rw[vN (K:=fun s b q=>G (its s b q) (sts s b q)),vN (K:=fun s b q=>G' (its s b q) (sts s b q))]
 exact Le.bind (KB c hC _ _ _ _ _) fun p=>hG _ _
theorem ZH(c:Cx){C C':Orc}(hC:OLe C C'){G G':GoT}(hG:GLe G G')(r:Nat)(ops:Array Oper)(is:List Nat)(d:Bool)(acc:List (Nat×Fp))(k:List It)(h i:Nat)(o:Oper)(st:St):
 Le (JB c C G r ops is d acc k h i o st) (JB c C' G' r ops is d acc k h i o st):=qqd c hC hG _ _ _ _ _ _ _
theorem qvu(c:Cx){C C':Orc}(hC:OLe C C'){G G':GoT}(hG:GLe G G')(r:Nat)(ops:Array Oper)(is:List Nat)(d:Bool)(acc:List (Nat×Fp))(k:List It)(h i:Nat)(o:Oper)(st:St):
 Le (opF c C G r ops is d acc k h i o st) (opF c C' G' r ops is d acc k h i o st):=by
 unfold opF
 split
 ·exact Le.refl _
 ·exact ZH c hC hG _ _ _ _ _ _ _ _ _ _
 ·split
  ·exact hG _ _
  ·refine Le.bind (Le.refl _) fun t=>?_
   split
   ·exact Le.cond (ZH c hC hG _ _ _ _ _ _ _ _ _ _) (hG _ _)
   ·exact Le.cond (hG _ _) (ZH c hC hG _ _ _ _ _ _ _ _ _ _)
  ·exact Le.refl _
theorem vU(c:Cx){C C':Orc}(hC:OLe C C'){G G':GoT}(hG:GLe G G')(f:FuncId)(its:List It)(st:St):
 Le (ya c C G f its st) (ya c C' G' f its st):=by
 unfold ya
 split
 all_goals first
  |exact Le.refl _
  |exact hG _ _
  |exact Le.bind (Le.refl _) fun v=>Le.bind (Le.refl _) fun t=>Le.cond (hG _ _) (hG _ _)
  |exact Le.bind (Le.refl _) fun v=>hG _ _
  |exact Le.cond (fun r h=>KQ (kT h).1 (hG _ _ r (kT h).2)) (Le.refl _)
  |exact Le.bind (Le.refl _) fun v=>qvu c hC hG _ _ _ _ _ _ _ _ _ _
theorem Jx(c:Cx){C C':Orc}(hC:OLe C C')(f:FuncId):∀n its st,Le (wD c C f n its st) (wD c C' f n its st)
 |0,_,_=>Le.refl _
 |n+1,its,st=>vU c hC (fun its st=>Jx c hC f n its st) f its st
theorem Jw(c:Cx)(C:Orc)(f:FuncId):∀n its st,Le (wD c C f n its st) (wD c C f (n+1) its st)
 |0,_,_=>fun r h=>by simp[wD]at h
 |n+1,its,st=>vU c (fun f xs hp=>Le.refl _) (fun its st=>Jw c C f n its st) f its st
theorem wA{R:Type}(c:Cx):∀(i:Nat) (ts:List TypeId) (xs:List AV) (K K':Slots->Option R),(∀l,Le (K l) (K' l))->Le (xr c i ts xs K) (xr c i ts xs K')
 |_,[],[],_,_,h=>h _
 |i,[],_::xs,_,_,h=>wA c (i+1) [] xs _ _ fun l=>h _
 |_,_::_,[],_,_,_=>Le.refl _
 |i,t::ts,x::xs,_,_,h=>by
  unfold xr
  split
  ·split
   ·exact Le.bind (Le.refl _) fun v=>wA c (i+1) ts xs _ _ fun l=>h _
   ·exact wA c (i+1) ts xs _ _ fun l=>h _
  ·exact Le.refl _
theorem YG{R:Type}(c:Cx)(f:FuncId)(xs:List AV)(hp:Hp){K K':List It->St->Option R}(h:∀its st,Le (K its st) (K' its st)):
 Le (yI c f xs hp K) (yI c f xs hp K'):=by
 unfold yI
 repeat' split
 all_goals first
  |exact Le.refl _
  |exact wA c _ _ _ _ _ (fun l=>h _ _)
theorem xY(c:Cx):∀n,OLe (jQ c n) (jQ c (n+1))
 |0=>fun f xs hp r h=>by simp[jQ]at h
 |n+1=>fun f xs hp=>by
  show Le (yI c f xs hp (wD c (jQ c n) f n)) (yI c f xs hp (wD c (jQ c (n+1)) f (n+1)))
  exact YG c f xs hp fun its st=>(Jx c (xY c n) f n its st).trans (Jw c _ f n its st)
noncomputable def run(c:Cx):Orc:=fun f xs hp=>lim fun n=>jQ c n f xs hp
noncomputable def go(c:Cx)(f:FuncId)(its:List It)(st:St):Option (AV×Hp):=lim fun n=>wD c (jQ c n) f n its st
theorem kg{c:Cx}{f:FuncId}{xs:List AV}{hp:Hp}{r:AV×Hp}:run c f xs hp=some r↔∃n,jQ c n f xs hp=some r:=
 qf1 (fun n=>xY c n f xs hp) r
theorem zcx(c:Cx)(f:FuncId)(its:List It)(st:St)(n:Nat):Le (wD c (jQ c n) f n its st) (wD c (jQ c (n+1)) f (n+1) its st):=
 (Jx c (xY c n) f n its st).trans (Jw c _ f n its st)
theorem jM{c:Cx}{f:FuncId}{its:List It}{st:St}{r:AV×Hp}:go c f its st=some r↔∃n,wD c (jQ c n) f n its st=some r:=
 qf1 (zcx c f its st) r
theorem qzs(c:Cx){n m:Nat}(h:n<=m):OLe (jQ c n) (jQ c m):=by
 obtain⟨d,rfl⟩:=Nat.exists_eq_add_of_le h
 intro f xs hp
 induction d with
 |zero=>exact Le.refl _
 |succ d ih=>exact(ih (by omega)).trans (xY c (n+d) f xs hp)
theorem zep(c:Cx)(f:FuncId){n m:Nat}(h:n<=m):GLe (wD c (jQ c n) f n) (wD c (jQ c m) f m):=by
 obtain⟨d,rfl⟩:=Nat.exists_eq_add_of_le h
 intro its st
 induction d with
 |zero=>exact Le.refl _
 |succ d ih=>exact(ih (by omega)).trans (zcx c f its st (n+d))
theorem yZ{α β:Type}{o:Option α}{f:α->Option β}{fs:Nat->α->Option β}(h:∀x r,f x=some r->∃n,fs n x=some r){r:β}
 (hr:o.bind f=some r):∃n,o.bind (fs n)=some r:=by
 cases o with
 |none=>simp at hr
 |some x=>exact h x r hr
theorem KJ(c:Cx)(h:Nat)(ti:TI)(f:FuncId)(caps:List AV)(as_:List SV)(hp:Hp){r:SV×BE×Hp}
 (hr:jB c (run c) h ti f caps as_ hp k3=some r):∃n,jB c (jQ c n) h ti f caps as_ hp k3=some r:=by
 unfold jB at hr⊢
 refine yZ (fun xs r hr=>?_) hr
 by_cases e:h=2
 ·simp only[if_pos e]at hr⊢
  obtain⟨p,hp',hr⟩:=bsm hr
  obtain⟨n,hn⟩:=kg.mp hp'
  exact⟨n,by rw[hn];exact hr⟩
 ·simp only[if_neg e]at hr⊢
  by_cases e4:h=4
  ·simp only[if_pos e4]at hr⊢
   obtain⟨p,hp',hr⟩:=bsm hr
   obtain⟨n,hn⟩:=kg.mp hp'
   exact⟨n,by rw[hn];exact hr⟩
  ·simp only[if_neg e4]at hr⊢
   obtain⟨u,hu,hr⟩:=bsm hr
   obtain⟨p,hp',hr⟩:=bsm hr
   obtain⟨n,hn⟩:=kg.mp hp'
   exact⟨n,by rw[hu];simp only[Option.bind_some];rw[hn];exact hr⟩
theorem qla(c:Cx)(h:Nat)(o:Oper)(ev:Operand->SV)(gb:Nat->Option (Nat×List AV))(hp:Hp){r:SV×BE×Hp}
 (hr:qo c (run c) h o ev gb hp k3=some r):∃n,qo c (jQ c n) h o ev gb hp k3=some r:=by
 revert hr
 unfold qo
 split
 all_goals try exact fun hr=>⟨0,hr⟩
 repeat' split
 all_goals intro hr
 all_goals first
  |exact⟨0,hr⟩
  |exact KJ c _ _ _ _ _ hp hr
  |exact yZ (fun p r hr=>KJ c _ _ _ _ _ hp hr) hr
theorem qqe(c:Cx)(f:FuncId)(h:Nat)(o:Oper)(ev:Operand->SV)
 (gb:Nat->Option (Nat×List AV)) (hp:Hp) (its:SV->BE->Hp->List It) (sts:SV->BE->Hp->St) {r:AV×Hp}
 (hr:(qo c (run c) h o ev gb hp fun s b q=>go c f (its s b q) (sts s b q))=some r):
 ∃n,(qo c (jQ c n) h o ev gb hp fun s b q=>wD c (jQ c n) f n (its s b q) (sts s b q))=some r:=by
 rw[vN]at hr
 obtain⟨p,h1,h2⟩:=bsm hr
 obtain⟨n,hn⟩:=qla c h o ev gb hp h1
 obtain⟨m,hm⟩:=jM.mp h2
 refine⟨max n m,?_⟩
 rw[vN]
 rw[KB c (qzs c (Nat.le_max_left n m)) h o ev gb hp p hn]
 exact zep c f (Nat.le_max_right n m) _ _ r hm
theorem ZI(c:Cx)(f:FuncId)(r:Nat)(ops:Array Oper)(is:List Nat)(d:Bool)(acc:List (Nat×Fp))(k:List It)(h i:Nat)(o:Oper)(st:St){q:AV×Hp}
 (hr:JB c (run c) (go c f) r ops is d acc k h i o st=some q):∃n,JB c (jQ c n) (wD c (jQ c n) f n) r ops is d acc k h i o st=some q:=
 qqe c f h o (zP st.sl) (jd st.bx) st.hp (fun s b hp=>.ops r ops is d (qln d i (zet c.tn h ops o st.sl st.hp hp) acc)::k) (fun s b hp=>after h o st s b hp) hr
theorem qvv(c:Cx)(f:FuncId)(r:Nat)(ops:Array Oper)(is:List Nat)(d:Bool)(acc:List (Nat×Fp))(k:List It)(h i:Nat)(o:Oper)(st:St){q:AV×Hp}
 (hr:opF c (run c) (go c f) r ops is d acc k h i o st=some q):∃n,opF c (jQ c n) (wD c (jQ c n) f n) r ops is d acc k h i o st=some q:=by
 revert hr
 unfold opF
 split
 ·intro hr;cases hr
 ·intro hr;exact ZI c f _ _ _ _ _ _ _ _ _ _ hr
 ·split
  ·intro hr;exact jM.mp hr
  ·intro hr
   refine yZ (fun t r hr=>?_) hr
   revert hr
   split
   ·intro hr
    cases t
    ·exact jM.mp hr
    ·exact ZI c f _ _ _ _ _ _ _ _ _ _ hr
   ·intro hr
    cases t
    ·exact ZI c f _ _ _ _ _ _ _ _ _ _ hr
    ·exact jM.mp hr
  ·intro hr;cases hr
theorem qiz(c:Cx)(f:FuncId)(its:List It)(st:St){r:AV×Hp}(hr:ya c (run c) (go c f) f its st=some r):
 ∃n,ya c (jQ c n) (wD c (jQ c n) f n) f its st=some r:=by
 unfold ya at hr⊢
 split at hr
 all_goals first
  |exact⟨0,hr⟩
  |exact jM.mp hr
  |exact yZ (fun v r hr=>jM.mp hr) hr
  |exact yZ (fun v r hr=>qvv c f _ _ _ _ _ _ _ _ _ _ hr) hr
  |skip
 ·refine yZ (fun v r hr=>yZ (fun t r hr=>?_) hr) hr
  cases t
  ·exact jM.mp hr
  ·exact jM.mp hr
 ·rename_i d acc k
  generalize(!d||Yp _ acc)=t at hr⊢
  cases t
  ·cases hr
  ·obtain⟨h1,h2⟩:=kT hr
   obtain⟨n,hn⟩:=jM.mp h2
   exact⟨n,KQ h1 hn⟩
theorem qm5(c:Cx)(f:FuncId)(its:List It)(st:St):go c f its st=ya c (run c) (go c f) f its st:=by
 apply Option.ext
 intro r
 constructor
 ·intro h
  obtain⟨n,hn⟩:=jM.mp h
  cases n with
  |zero=>simp[wD]at hn
  |succ n=>
   have hC:OLe (jQ c (n+1)) (run c):=fun f xs hp r hr=>kg.mpr ⟨n+1,hr⟩
   have hG:GLe (wD c (jQ c (n+1)) f n) (go c f):=fun its st r hr=>jM.mpr ⟨n+1,Jw c _ f n its st r hr⟩
   exact vU c hC hG f its st r hn
 ·intro h
  obtain⟨n,hn⟩:=qiz c f its st h
  refine jM.mpr ⟨n+1,?_⟩
  exact vU c (xY c n) (fun its st=>Jx c (xY c n) f n its st) f its st r hn
theorem jp{R:Type}(c:Cx):∀(i:Nat) (ts:List TypeId) (xs:List AV) (K:Slots->Option R),xr c i ts xs K=(xr c i ts xs some).bind K
 |_,[],[],_=>rfl
 |i,[],x::xs,K=>by
  simp only[xr]
  rw[jp c (i+1) [] xs]
  conv=>rhs;rw[jp c (i+1) [] xs]
  simp[Option.bind_assoc]
 |_,_::_,[],_=>rfl
 |i,t::ts,x::xs,K=>by
  simp only[xr]
  split
  ·split
   ·simp only[Option.bind_assoc]
    congr 1;funext v
    rw[jp c (i+1) ts xs]
    conv=>rhs;rw[jp c (i+1) ts xs]
    simp[Option.bind_assoc]
   ·rw[jp c (i+1) ts xs]
    conv=>rhs;rw[jp c (i+1) ts xs]
    simp[Option.bind_assoc]
  ·rfl
theorem zdt(c:Cx)(f:FuncId)(xs:List AV)(hp:Hp):run c f xs hp=yI c f xs hp (go c f):=by
 apply Option.ext
 intro r
 constructor
 ·intro h
  obtain⟨n,hn⟩:=kg.mp h
  cases n with
  |zero=>simp[jQ]at hn
  |succ n=>exact YG c f xs hp (fun its st r hr=>jM.mpr ⟨n,hr⟩) r hn
 ·intro h
  have key:∃n,yI c f xs hp (wD c (jQ c n) f n)=some r:=by
   revert h
   unfold yI
   split
   ·split
    ·intro h
     rw[jp]at h
     obtain⟨l,h1,h2⟩:=bsm h
     obtain⟨n,hn⟩:=jM.mp h2
     exact⟨n,by rw[jp,h1];exact hn⟩
    ·intro h;cases h
   ·intro h;cases h
  obtain⟨n,hn⟩:=key
  exact kg.mpr ⟨n+1,hn⟩
theorem JJ(k:Nat):Nat.beq k k=true:=by simp
theorem qdu{j k:Nat}(h:j≠k):Nat.beq j k=false:=by
 cases hb:Nat.beq j k
 ·rfl
 ·exact absurd (Nat.eq_of_beq_eq_true hb) h
theorem ZE(b:Boxes):∀(live:List Nat) (k:Nat),jd (xp b live) k=if k∈live then jd b k else none
 |[],k=>by simp[xp,jd]
 |j::r,k=>by
  have ih:=ZE b r k
  simp only[xp]
  split
  ·rename_i g cs h
   simp only[jd]
   by_cases e:j=k
   ·subst e;simp[h]
   ·rw[qdu e];simp only[ih,List.mem_cons]
    have:k≠j:=fun h=>e h.symm
    simp[this]
  ·rename_i h
   rw[ih]
   by_cases e:j=k
   ·subst e;simp[h]
   ·have:k≠j:=fun h=>e h.symm
    simp[this]
theorem YN(b b':Boxes):∀(live:List Nat),(∀k∈live,jd b' k=jd b k)->xp b' live=xp b live
 |[],_=>rfl
 |j::r,h=>by
  simp only[xp]
  rw[h j (by simp),YN b b' r fun k hk=>h k (by simp[hk])]
theorem vV(b:Boxes)(l:Slots):∀(live:List Nat) (k:Nat),qF (Qo b l live) k=if k∈live then Kf b (qF l k)else .un
 |[],k=>by simp[Qo,qF]
 |j::r,k=>by
  have ih:=vV b l r k
  simp only[Qo]
  by_cases e:j=k
  ·subst e
   split
   ·rename_i h
    rw[ih];simp[h]
   ·rename_i s h
    simp[qF,JJ]
  ·have e':k≠j:=fun h=>e h.symm
   split
   ·rw[ih];simp[e']
   ·simp[qF,qdu e,ih,e']
theorem YM(b:Boxes)(l l':Slots):∀(live:List Nat),(∀k∈live,Kf b (qF l' k)=Kf b (qF l k))->Qo b l' live=Qo b l live
 |[],_=>rfl
 |j::r,h=>by
  simp only[Qo]
  rw[h j (by simp),YM b l l' r fun k hk=>h k (by simp[hk])]
theorem qpq(b:Boxes)(s:SV):Kf b (Kf b s)=Kf b s:=by
 cases s<;>simp only[Kf]
 rename_i k g o
 cases h:jd b k<;>simp[Kf,h]
theorem qpv(m:Option (List Nat))(st:St):mask m (mask m st)=mask m st:=by
 cases m with
 |none=>rfl
 |some live=>
  simp only[mask]
  have hB:xp (xp st.bx live) live=xp st.bx live:=YN _ _ _ fun k hk=>by rw[ZE,if_pos hk]
  rw[hB]
  congr 1
  refine YM _ _ _ _ fun k hk=>?_
  rw[vV,if_pos hk,qpq]
def qtl(ss:List Nat):List It->Bool
 | .code (.region r _ _)::_=>ss.contains r
 |_=>false
def qkj(c:Cx)(f:FuncId):List It->St->St
 | .code (.region r _ _)::_,st=>mask (c.M f r) st
 |_,st=>st
theorem zbc(c:Cx)(f:FuncId)(its:List It)(st:St):go c f its (qkj c f its st)=go c f its st:=by
 unfold qkj
 split
 ·rw[qm5,qm5 c f _ st]
  simp only[ya,qpv]
 ·rfl
noncomputable def qd3(c:Cx)(f:FuncId)(ss:List Nat):Nat->GoT
 |0=>go c f
 |n+1=>fun its st=>cond (qtl ss its) (go c f its (qkj c f its st)) (ya c (run c) (qd3 c f ss n) f its st)
theorem qca(c:Cx)(f:FuncId)(ss:List Nat):∀n,qd3 c f ss n=go c f
 |0=>rfl
 |n+1=>by
  funext its st
  simp only[qd3,qca c f ss n]
  cases qtl ss its
  ·exact(qm5 c f its st).symm
  ·exact zbc c f its st
theorem qxt(c:Cx)(f:FuncId)(ss:List Nat)(n:Nat)(its:List It)(st:St):go c f its st=ya c (run c) (qd3 c f ss n) f its st:=by
 rw[qca];exact qm5 c f its st
theorem qxe(c:Cx)(f:FuncId)(ss:List Nat)(n:Nat)(xs:List AV)(hp:Hp):run c f xs hp=yI c f xs hp (qd3 c f ss n):=by
 rw[qca];exact zdt c f xs hp
def sub:List Nat->Code->Code
 |[],c=>c
 |0::p,.seq a _=>sub p a
 |_::p,.seq _ b=>sub p b
 |0::p,.cond _ a _=>sub p a
 |_::p,.cond _ _ b=>sub p b
 |_::p,.block _ b=>sub p b
 |_::p,.loop b=>sub p b
 |_::p,.scope b=>sub p b
 |_,c=>c
inductive Ow where
 |fr|oth
 |box (k g:Nat)
 |obj (b g:Nat)
 |sl (k j i:Nat)
 |bc (k g i:Nat)
 |oc (b g i:Nat)
structure Gh where
 Om:Nat->Ow
 I:Nat->Nat
 mu:Nat->Nat->Option Nat
 la:Nat->Nat->Option Nat
def VI(w:World)(b:Nat):Option Nat:=
 match w.heap[b]? with
 |some (.cells arr _ _)=>some arr.size
 |_=>none
theorem Yv{w w':World}{b:Nat}(h:w'.heap[b]?=w.heap[b]?):VI w' b=VI w b:=by simp[VI,h]
inductive RelR (G : Gh) (w : World) : AV → Value → Prop where
 |sc (v:Value):v.oneCell'=true->RelR G w (.sc v) v
 |sl0 (sz:Nat) (a:Addr) (cap:Nat):0<sz->RelR G w (.sl sz []) (.slice (some a) 0 cap)
 |sl (sz:Nat) (cs:List AV) (n cap b o:Nat) (vs:List Value):0<sz->0<n->cs.length=n*sz->n<=cap->o+n*sz<=G.I b->vs.length=cs.length->
  (∀k c,vs[k]?=some c->w.cell? ⟨b,o+k,none⟩=some c)->(∀x∈cs,vl x=true)->(∀(k:Nat) (x:AV) (c:Value),cs[k]?=some x->vs[k]?=some c->RelR G w x c)->
  RelR G w (.sl sz cs) (.slice (some ⟨b,o,none⟩) n cap)
 |ptr (b g off blk:Nat):G.mu b g=some blk->RelR G w (.ptr b g off) (.pointer (some ⟨blk,off,none⟩))
 |ms (b g off n sz cap blk off' z:Nat):G.mu b g=some blk->n<=cap->(0<n->off'=off)->VI w blk=some z->off'+cap*sz<=z->RelR G w (.ms b g off n sz) (.slice (some ⟨blk,off',none⟩) n cap)
 |fn (f:FuncId) (caps:List AV) (vs:List Value):(Nat.blt f 4294967296=true\/caps=[])->caps.length=vs.length->
  (∀(k:Nat) (x:AV) (c:Value),caps[k]?=some x->vs[k]?=some c->RelR G w x c)->RelR G w (.fn f caps) (.func (.func f) #[] vs.toArray)
 |map (b blk:Nat):G.mu b 1=some blk->RelR G w (.map b) (.map (some blk))
 |fnb (f:FuncId) (bs:List AV) (vs:List Value):bs≠[]->bs.length=vs.length->
  (∀(k:Nat) (x:AV) (c:Value),bs[k]?=some x->vs[k]?=some c->RelR G w x c)->RelR G w (.fn (4294967296+f) bs) (.func (.func f) vs.toArray #[])
structure TokR (G : Gh) (w : World) (sz : Nat) (cs : List AV) (v : Value) (b : Nat) : Prop where
 ex:∃n cap arr e,v= .slice (some ⟨b,0,none⟩) n cap/\0<sz/\cs.length=n*sz/\n<=cap/\G.I b=n*sz/\
  w.heap[b]?=some (.cells arr e (0,0))/\arr.size=cap*sz/\∀(k:Nat) (x:AV),cs[k]?=some x->∃c,arr[k]?=some c/\RelR G w x c
 vl:∀x∈cs,vl x=true
def jK(G:Gh)(w:World)(p:Ow)(x:AV)(v:Value):Prop:=
 match x with
 | .us sz cs=>∃b,G.Om b=p/\TokR G w sz cs v b
 | .agg _=>False
 | .tup _=>False
 |x=>RelR G w x v
def zB(G:Gh)(w:World)(p:Nat->Ow)(x:AV)(v:Value):Prop:=
 match x with
 | .agg cs=>∃vs:List Value,v= .agg vs.toArray/\cs.length=vs.length/\∀(i:Nat) (x:AV) (c:Value),cs[i]?=some x->vs[i]?=some c->jK G w (p i) x c
 |x=>jK G w (p 0) x v
def qR(G:Gh)(w:World)(k:Nat)(s:SV)(v:Value):Prop:=
 match s with
 | .sv u=>v=u/\u.oneCell'=true
 | .av x=>zB G w (.sl k 0 ·) x v
 | .tp l=>∃vs:List Value,v= .tuple vs.toArray/\l.length=vs.length/\∀(j:Nat) (x:AV) (c:Value),l[j]?=some x->vs[j]?=some c->zB G w (.sl k j ·) x c
 | .lp k' g off=>∃blk,G.la k' g=some blk/\v= .pointer (some ⟨blk,off,none⟩)
 | .rv cs=>∃(b o:Nat) (vs:List Value),v= .pointer (some ⟨b,o,none⟩)/\vs.length=cs.length/\(∀i,i<cs.length->o+i<G.I b)/\
  (∀(k:Nat) (c:Value),vs[k]?=some c->w.cell? ⟨b,o+k,none⟩=some c)/\∀(k:Nat) (x:AV) (c:Value),cs[k]?=some x->vs[k]?=some c->RelR G w x c
 | .un=>True
 | .ud=>v=undef
def xc(G:Gh)(w:World)(blk:Nat)(p:Nat->Ow)(cs:List AV):Prop:=
 ∃arr e,w.heap[blk]?=some (.cells arr e (0,0))/\cs.length<=arr.size/\∀(i:Nat) (x:AV) (c:Value),cs[i]?=some x->arr[i]?=some c->jK G w (p i) x c
def Xf(G:Gh)(w:World)(x:AV)(v:Value):Prop:=
 match x with
 | .agg cs=>∃vs:List Value,v= .agg vs.toArray/\cs.length=vs.length/\∀(i:Nat) (x:AV) (c:Value),cs[i]?=some x->vs[i]?=some c->RelR G w x c
 |x=>RelR G w x v
def KX(G:Gh)(w:World)(x:AV)(e:MapEntry):Prop:=
 match x with
 | .tup [.sc k,y]=>e.key=k/\k.oneCell'=true/\Xf G w y e.val
 |_=>False
def qhj(G:Gh)(w:World)(blk:Nat)(cs:List AV):Prop:=
 ∃es clock,w.heap[blk]?=some (.map es clock)/\es.size=cs.length/\∀(i:Nat) (x:AV) (e:MapEntry),cs[i]?=some x->es[i]?=some e->KX G w x e
def ObR(G:Gh)(w:World)(blk:Nat)(p:Nat->Ow)(g:Nat)(cs:List AV):Prop:=
 match g with
 |0=>xc G w blk p cs
 |_+1=>qhj G w blk cs
structure Inv (G : Gh) (w : World) (st : St) (tmps : Array Value) : Prop where
 slots:∀k,qR G w k (qF st.sl k) (tmps.getD k undef)
 boxes:∀k g cs,jd st.bx k=some (g,cs)->∃blk,G.la k g=some blk/\G.Om blk= .box k g/\xc G w blk (.bc k g ·) cs
 heap:∀b g cs,st.hp.get b=some (g,cs)->∃blk,G.mu b g=some blk/\G.Om blk= .obj b g/\ObR G w blk (.oc b g ·) g cs
 next:∀b g,st.hp.next<=b->G.mu b g=none
 hlt:∀b g cs,st.hp.get b=some (g,cs)->b<st.hp.next
 new:∀b,w.heap.size<=b->G.Om b= .fr/\G.I b=0
 vars:∀b,(∃k g,G.Om b= .box k g)\/(∃k g,G.Om b= .obj k g)->G.I b=0
 lps:∀j k g off,qF st.sl j= .lp k g off->∃g' cs,jd st.bx k=some (g',cs)/\g<=g'
def Yy(w w':World):Prop:=w'.os=w.os/\w'.tape=w.tape/\w'.output=w.output
theorem Yy.refl(w:World):Yy w w:=⟨rfl,rfl,rfl⟩
theorem Yy.trans{w w' w'':World}(h:Yy w w')(h':Yy w' w''):Yy w w'':=⟨h'.1.trans h.1,h'.2.1.trans h.2.1,h'.2.2.trans h.2.2⟩
structure Fr (G : Gh) (w : World) (G' : Gh) (w' : World) : Prop where
 size:w.heap.size<=w'.heap.size
 cells:∀b i,i<G.I b->w'.cell? ⟨b,i,none⟩=w.cell? ⟨b,i,none⟩
 imm:∀b,G.I b<=G'.I b
 mu:∀b g x,G.mu b g=some x->G'.mu b g=some x
 same:∀b,b<w.heap.size->G.Om b= .fr\/G.Om b= .oth->w'.heap[b]?=w.heap[b]?/\G'.Om b=G.Om b/\G'.I b=G.I b
 rest:Yy w w'
 bs:∀b z,VI w b=some z->VI w' b=some z
theorem Fr.refl(G:Gh)(w:World):Fr G w G w:=⟨Nat.le_refl _,fun _ _ _=>rfl,fun _=>Nat.le_refl _,fun _ _ _ h=>h,fun _ _ _=>⟨rfl,rfl,rfl⟩,Yy.refl w,fun _ _ h=>h⟩
theorem Fr.trans{G G' G'':Gh}{w w' w'':World}(h:Fr G w G' w')(h':Fr G' w' G'' w''):Fr G w G'' w'':=by
 refine⟨Nat.le_trans h.size h'.size,fun b i hi=>?_,fun b=>Nat.le_trans (h.imm b) (h'.imm b),fun b g x hx=>h'.mu b g x (h.mu b g x hx),fun b hb ho=>?_,h.rest.trans h'.rest,fun b z hz=>h'.bs b z (h.bs b z hz)⟩
 ·rw[h'.cells b i (Nat.lt_of_lt_of_le hi (h.imm b)),h.cells b i hi]
 ·obtain⟨a1,a2,a3⟩:=h.same b hb ho
  obtain⟨b1,b2,b3⟩:=h'.same b (Nat.lt_of_lt_of_le hb h.size) (by rw[a2];exact ho)
  exact⟨b1.trans a1,b2.trans a2,b3.trans a3⟩
structure Ev (G : Gh) (w : World) (G' : Gh) (w' : World) : Prop where
 cells:∀b i,i<G.I b->w'.cell? ⟨b,i,none⟩=w.cell? ⟨b,i,none⟩
 imm:∀b,G.I b<=G'.I b
 mu:∀b g x,G.mu b g=some x->G'.mu b g=some x
 bs:∀b z,VI w b=some z->VI w' b=some z
theorem Fr.ev{G G':Gh}{w w':World}(h:Fr G w G' w'):Ev G w G' w':=⟨h.cells,h.imm,h.mu,h.bs⟩
theorem Ev.refl(G:Gh)(w:World):Ev G w G w:=(Fr.refl G w).ev
theorem RelR.ev{G G':Gh}{w w':World}(he:Ev G w G' w'){x:AV}{v:Value}(h:RelR G w x v):RelR G' w' x v:=by
 induction h with
 |sc v h=>exact .sc v h
 |sl0 sz a cap h=>exact .sl0 sz a cap h
 |sl sz cs n cap b o vs h1 h2 h3 h4 h5 h6 h7 hv _ ih=>
  refine .sl sz cs n cap b o vs h1 h2 h3 h4 (Nat.le_trans h5 (he.imm b)) h6 (fun k c hk=>?_) hv ih
  have hlt:k<vs.length:=(List.getElem?_eq_some_iff.mp hk).1
  rw[he.cells b (o+k) (by omega)]
  exact h7 k c hk
 |ptr b g off blk h=>exact .ptr b g off blk (he.mu _ _ _ h)
 |ms b g off n sz cap blk off' z h h' h'' h3 h4=>exact .ms b g off n sz cap blk off' z (he.mu _ _ _ h) h' h'' (he.bs _ _ h3) h4
 |fn f caps vs h0 h _ ih=>exact .fn f caps vs h0 h ih
 |map b blk h=>exact .map b blk (he.mu _ _ _ h)
 |fnb f bs vs h0 h _ ih=>exact .fnb f bs vs h0 h ih
theorem TokR.ev{G G':Gh}{w w':World}(he:Ev G w G' w'){sz:Nat}{cs:List AV}{v:Value}{b:Nat}(hb:w'.heap[b]?=w.heap[b]?) (hi:G'.I b=G.I b)
 (h:TokR G w sz cs v b):TokR G' w' sz cs v b:=by
 obtain⟨n,cap,arr,e,h1,h2,h3,h4,h5,h6,h7,h9⟩:=h.ex
 refine⟨⟨n,cap,arr,e,h1,h2,h3,h4,hi.trans h5,hb.trans h6,h7,fun k x hk=>?_⟩,h.vl⟩
 obtain⟨c,hc,hr⟩:=h9 k x hk
 exact⟨c,hc,hr.ev he⟩
def zK(G:Gh)(w:World)(G':Gh)(w':World)(p q:Ow):Prop:=∀b,G.Om b=p->w'.heap[b]?=w.heap[b]?/\G'.I b=G.I b/\G'.Om b=q
theorem jK.ev{G G':Gh}{w w':World}(he:Ev G w G' w'){p q:Ow}(hk:zK G w G' w' p q){x:AV}{v:Value}(h:jK G w p x v):jK G' w' q x v:=by
 cases x with
 |us sz cs=>
  obtain⟨b,hb,ht⟩:=h
  obtain⟨h1,h2,h3⟩:=hk b hb
  exact⟨b,h3,ht.ev he h1 h2⟩
 |agg _=>exact h
 |tup _=>exact h
 |sc _=>exact RelR.ev he h
 |sl _ _=>exact RelR.ev he h
 |ptr _ _ _=>exact RelR.ev he h
 |ms _ _ _ _ _=>exact RelR.ev he h
 |fn _ _=>exact RelR.ev he h
 |map _=>exact RelR.ev he h
theorem ko{G:Gh}{w:World}{p:Nat->Ow}{x:AV}{v:Value}(hx:∀cs,x≠ .agg cs):zB G w p x v=jK G w (p 0) x v:=by
 cases x<;>first|rfl|exact absurd rfl (hx _)
theorem ZQ(x:AV):(∃cs,x= .agg cs)\/∀cs,x≠ .agg cs:=by
 cases x<;>first|exact .inl ⟨_,rfl⟩|exact .inr fun _ h=>by cases h
theorem zB.ev{G G':Gh}{w w':World}(he:Ev G w G' w'){p q:Nat->Ow}(hk:∀i,zK G w G' w' (p i) (q i)){x:AV}{v:Value}(h:zB G w p x v):zB G' w' q x v:=by
 rcases ZQ x with⟨cs,rfl⟩|hx
 ·obtain⟨vs,h1,h2,h3⟩:=h
  exact⟨vs,h1,h2,fun i x c hx hc=>(h3 i x c hx hc).ev he (hk i)⟩
 ·rw[ko hx]at h⊢
  exact h.ev he (hk 0)
theorem qR.ev{G G':Gh}{w w':World}(he:Ev G w G' w'){k k':Nat}{s:SV}(hk:∀j i,zK G w G' w' (.sl k j i) (.sl k' j i))
 (hl:∀a g off x,s= .lp a g off->G.la a g=some x->G'.la a g=some x) {v:Value} (h:qR G w k s v):qR G' w' k' s v:=by
 cases s with
 |sv u=>exact h
 |av x=>exact zB.ev he (hk 0) h
 |tp l=>
  obtain⟨vs,h1,h2,h3⟩:=h
  exact⟨vs,h1,h2,fun j x c hx hc=>(h3 j x c hx hc).ev he (hk j)⟩
 |lp a g off=>
  obtain⟨blk,h1,h2⟩:=h
  exact⟨blk,hl a g off blk rfl h1,h2⟩
 |rv cs=>
  obtain⟨b,o,vs,h1,h2,h3,h4,h5⟩:=h
  refine⟨b,o,vs,h1,h2,fun i hi=>Nat.lt_of_lt_of_le (h3 i hi) (he.imm b),fun k c hk=>?_,fun k x c hx hc=>(h5 k x c hx hc).ev he⟩
  have hlt:k<vs.length:=(List.getElem?_eq_some_iff.mp hk).1
  rw[he.cells b (o+k) (h3 k (by omega))]
  exact h4 k c hk
 |un=>trivial
 |ud=>exact h
theorem xc.ev{G G':Gh}{w w':World}(he:Ev G w G' w'){blk:Nat}{p q:Nat->Ow}{cs:List AV}(hb:w'.heap[blk]?=w.heap[blk]?)
 (hk:∀i,zK G w G' w' (p i) (q i)) (h:xc G w blk p cs):xc G' w' blk q cs:=by
 obtain⟨arr,e,h1,h2,h3⟩:=h
 exact⟨arr,e,hb.trans h1,h2,fun i x c hx hc=>(h3 i x c hx hc).ev he (hk i)⟩
theorem Xf.ev{G G':Gh}{w w':World}(he:Ev G w G' w'){x:AV}{v:Value}(h:Xf G w x v):Xf G' w' x v:=by
 cases x with
 |agg cs=>
  obtain⟨vs,h1,h2,h3⟩:=h
  exact⟨vs,h1,h2,fun i x c hx hc=>(h3 i x c hx hc).ev he⟩
 |tup _=>exact RelR.ev he h
 |us _ _=>exact RelR.ev he h
 |sc _=>exact RelR.ev he h
 |sl _ _=>exact RelR.ev he h
 |ptr _ _ _=>exact RelR.ev he h
 |ms _ _ _ _ _=>exact RelR.ev he h
 |fn _ _=>exact RelR.ev he h
 |map _=>exact RelR.ev he h
theorem KX.ev{G G':Gh}{w w':World}(he:Ev G w G' w'){x:AV}{e:MapEntry}(h:KX G w x e):KX G' w' x e:=by
 unfold KX at h⊢
 split at h
 ·exact⟨h.1,h.2.1,h.2.2.ev he⟩
 ·exact h.elim
theorem qhj.ev{G G':Gh}{w w':World}(he:Ev G w G' w'){blk:Nat}{cs:List AV}(hb:w'.heap[blk]?=w.heap[blk]?) (h:qhj G w blk cs):qhj G' w' blk cs:=by
 obtain⟨es,clock,h1,h2,h3⟩:=h
 exact⟨es,clock,hb.trans h1,h2,fun i x e hx hc=>(h3 i x e hx hc).ev he⟩
theorem ObR.ev{G G':Gh}{w w':World}(he:Ev G w G' w'){blk:Nat}{p q:Nat->Ow}{g:Nat}{cs:List AV}(hb:w'.heap[blk]?=w.heap[blk]?)
 (hk:∀i,zK G w G' w' (p i) (q i)) (h:ObR G w blk p g cs):ObR G' w' blk q g cs:=by
 cases g with
 |zero=>exact xc.ev he hb hk h
 |succ g=>exact qhj.ev he hb h
structure EvL (G : Gh) (w : World) (G' : Gh) (w' : World) : Prop where
 cells:∀b i,i<G.I b->w'.cell? ⟨b,i,none⟩=w.cell? ⟨b,i,none⟩
 imm:∀b,G.I b<=G'.I b
theorem RelR.evl{G G':Gh}{w w':World}(he:EvL G w G' w'){x:AV}{v:Value}(h:RelR G w x v)(hv:vl x=true):RelR G' w' x v:=by
 induction h with
 |sc v h=>exact .sc v h
 |sl0 sz a cap h=>exact .sl0 sz a cap h
 |sl sz cs n cap b o vs h1 h2 h3 h4 h5 h6 h7 hvl _ ih=>
  refine .sl sz cs n cap b o vs h1 h2 h3 h4 (Nat.le_trans h5 (he.imm b)) h6 (fun k c hk=>?_) hvl (fun k x c hx hc=>ih k x c hx hc (hvl x (List.mem_of_getElem? hx)))
  have hlt:k<vs.length:=(List.getElem?_eq_some_iff.mp hk).1
  rw[he.cells b (o+k) (by omega)]
  exact h7 k c hk
 |ptr b g off blk h=>cases hv
 |ms b g off n sz cap blk off' z h h' h'' h3 h4=>cases hv
 |fn f caps vs h0 h h' ih=>
  have:caps=[]:=by simpa[AI.vl]using hv
  subst this
  exact .fn f [] vs h0 h (by intro k x c hx;simp at hx)
 |map b blk h=>cases hv
 |fnb f bs vs h0 h h' ih=>
  have:bs=[]:=by simpa[AI.vl]using hv
  exact absurd this h0
theorem TokR.evl{G G':Gh}{w w':World}(he:EvL G w G' w'){sz:Nat}{cs:List AV}{v:Value}{b:Nat}(hb:w'.heap[b]?=w.heap[b]?) (hi:G'.I b=G.I b)
 (h:TokR G w sz cs v b):TokR G' w' sz cs v b:=by
 obtain⟨n,cap,arr,e,h1,h2,h3,h4,h5,h6,h7,h9⟩:=h.ex
 refine⟨⟨n,cap,arr,e,h1,h2,h3,h4,hi.trans h5,hb.trans h6,h7,fun k x hk=>?_⟩,h.vl⟩
 obtain⟨c,hc,hr⟩:=h9 k x hk
 exact⟨c,hc,hr.evl he (h.vl x (List.mem_of_getElem? hk))⟩
theorem jK.evl{G G':Gh}{w w':World}(he:EvL G w G' w'){p q:Ow}(hk:zK G w G' w' p q){x:AV}{v:Value}(h:jK G w p x v)(hv:vl x=true):jK G' w' q x v:=by
 cases x with
 |us sz cs=>
  obtain⟨b,hb,ht⟩:=h
  obtain⟨h1,h2,h3⟩:=hk b hb
  exact⟨b,h3,ht.evl he h1 h2⟩
 |agg _=>exact h
 |tup _=>exact h
 |sc _=>exact RelR.evl he h hv
 |sl _ _=>exact RelR.evl he h hv
 |ptr _ _ _=>exact RelR.evl he h hv
 |ms _ _ _ _ _=>exact RelR.evl he h hv
 |fn _ _=>exact RelR.evl he h hv
 |map _=>exact RelR.evl he h hv
theorem zB.evl{G G':Gh}{w w':World}(he:EvL G w G' w'){p q:Nat->Ow}(hk:∀i,zK G w G' w' (p i) (q i)){x:AV}{v:Value}(h:zB G w p x v)(hv:vlF x=true):zB G' w' q x v:=by
 rcases ZQ x with⟨cs,rfl⟩|hx
 ·obtain⟨vs,h1,h2,h3⟩:=h
  exact⟨vs,h1,h2,fun i x c hx hc=>(h3 i x c hx hc).evl he (hk i) (List.all_eq_true.mp hv x (List.mem_of_getElem? hx))⟩
 ·rw[ko hx]at h⊢
  have hv':vl x=true:=by
   cases x<;>first|exact hv|exact absurd rfl (hx _)
  exact h.evl he (hk 0) hv'
theorem Ev.evl{G G':Gh}{w w':World}(h:Ev G w G' w'):EvL G w G' w':=⟨h.cells,h.imm⟩
theorem zy{w:World}{b:Nat}{arr:Array Value}{e:TypeId}{fz:Nat×Nat}(h:w.heap[b]?=some (.cells arr e fz)) (i:Nat):w.cell? ⟨b,i,none⟩=arr[i]?:=by
 simp[World.cell?,h]
theorem qu{α β:Type}(f:α->β)(l:List α)(i:Nat)(y:β)(h:(l.map f)[i]?=some y):∃x,l[i]?=some x/\f x=y:=by
 rw[List.getElem?_map]at h
 cases hx:l[i]? with
 |none=>rw[hx]at h;cases h
 |some x=>rw[hx]at h;cases h;exact⟨x,rfl,rfl⟩
theorem ze{α β:Type}{l:List α}{m:List β}(h:l.length=m.length){i:Nat}{x:α}(hx:l[i]?=some x):∃y,m[i]?=some y:=by
 have:i<m.length:=by rw[<-h];exact(List.getElem?_eq_some_iff.mp hx).1
 exact⟨m[i],List.getElem?_eq_getElem this⟩
theorem TokR.ro{G:Gh}{w:World}{sz:Nat}{cs:List AV}{v:Value}{b:Nat}(h:TokR G w sz cs v b):RelR G w (.sl sz cs) v:=by
 obtain⟨n,cap,arr,e,rfl,h2,h3,h4,h5,h6,h7,h9⟩:=h.ex
 by_cases hn:n=0
 ·subst hn
  have:cs=[]:=List.length_eq_zero_iff.mp (by simpa using h3)
  subst this
  exact .sl0 sz _ cap h2
 ·have hle:cs.length<=arr.size:=by rw[h3,h7];exact Nat.mul_le_mul_right sz h4
  refine .sl sz cs n cap b 0 (arr.toList.take cs.length) h2 (by omega) h3 h4 (by omega) (by simp;omega) (fun k c hk=>?_) h.vl (fun k x c hx hc=>?_)
  ·rw[Nat.zero_add,zy h6]
   rw[List.getElem?_take]at hk
   split at hk
   ·simpa using hk
   ·cases hk
  ·obtain⟨c',hc',hr⟩:=h9 k x hx
   rw[List.getElem?_take]at hc
   split at hc
   ·have:arr[k]?=some c:=by simpa using hc
    rw[this]at hc';cases hc';exact hr
   ·cases hc
theorem jK.ro{G:Gh}{w:World}{p:Ow}{x:AV}{v:Value}(h:jK G w p x v):RelR G w (ro1 x) v:=by
 cases x with
 |us sz cs=>obtain⟨b,_,ht⟩:=h;exact ht.ro
 |agg _=>exact h.elim
 |tup _=>exact h.elim
 |sc _=>exact h
 |sl _ _=>exact h
 |ptr _ _ _=>exact h
 |ms _ _ _ _ _=>exact h
 |fn _ _=>exact h
 |map _=>exact h
theorem RelR.c{G:Gh}{w:World}{x:AV}{v:Value}(h:RelR G w x v)(p:Ow):jK G w p x v:=by
 cases h with
 |sc v h=>exact .sc v h
 |sl0 sz a cap h=>exact .sl0 sz a cap h
 |sl sz cs n cap b o vs h1 h2 h3 h4 h5 h6 h7 h8 h9=>exact RelR.sl sz cs n cap b o vs h1 h2 h3 h4 h5 h6 h7 h8 h9
 |ptr b g off blk h=>exact RelR.ptr b g off blk h
 |ms b g off n sz cap blk off' z h h' h'' h3 h4=>exact RelR.ms b g off n sz cap blk off' z h h' h'' h3 h4
 |fn f caps vs h0 h h'=>exact RelR.fn f caps vs h0 h h'
 |map b blk h=>exact RelR.map b blk h
 |fnb f bs vs h0 h h'=>exact RelR.fnb f bs vs h0 h h'
theorem XT{G:Gh}{w:World}{x:AV}{v:Value}(h:RelR G w x v):ro1 x=x:=by cases h<;>rfl
theorem RelR.ne_agg{G:Gh}{w:World}{x:AV}{v:Value}(h:RelR G w x v):∀cs,x≠ .agg cs:=by cases h<;>intro cs h<;>cases h
theorem jK.ne_agg{G:Gh}{w:World}{p:Ow}{x:AV}{v:Value}(h:jK G w p x v):∀cs,x≠ .agg cs:=by
 rintro cs rfl;exact h
theorem qe5{x:AV}(hx:∀cs,x≠ .agg cs):ro x=ro1 x:=by
 cases x<;>first|rfl|exact absurd rfl (hx _)
theorem jK.v{G:Gh}{w:World}{p:Nat->Ow}{x:AV}{v:Value}(h:jK G w (p 0) x v):zB G w p x v:=by
 rw[ko h.ne_agg];exact h
theorem zB.ro{G G':Gh}{w w':World}(he:Ev G w G' w'){p:Nat->Ow}(q:Nat->Ow){x:AV}{v:Value}(h:zB G w p x v):zB G' w' q (AI.ro x) v:=by
 rcases ZQ x with⟨cs,rfl⟩|hx
 ·obtain⟨vs,h1,h2,h3⟩:=h
  refine⟨vs,h1,by simpa using h2,fun i x c hx hc=>?_⟩
  obtain⟨y,hy,rfl⟩:=qu _ _ _ _ hx
  exact((h3 i y c hy hc).ro.ev he).c _
 ·rw[ko hx]at h
  rw[qe5 hx]
  exact((h.ro.ev he).c (q 0)).v
theorem qR.ro{G G':Gh}{w w':World}(he:Ev G w G' w'){k:Nat}(k':Nat){s:SV}{v:Value}
 (hl:∀a g off x,s= .lp a g off->G.la a g=some x->G'.la a g=some x) (h:qR G w k s v):qR G' w' k' s.ro v:=by
 cases s with
 |sv u=>exact h
 |av x=>exact zB.ro he _ h
 |tp l=>
  obtain⟨vs,h1,h2,h3⟩:=h
  refine⟨vs,h1,by simpa using h2,fun j x c hx hc=>?_⟩
  obtain⟨y,hy,rfl⟩:=qu _ _ _ _ hx
  exact(h3 j y c hy hc).ro he _
 |lp a g off=>
  obtain⟨blk,h1,h2⟩:=h
  exact⟨blk,hl a g off blk rfl h1,h2⟩
 |rv cs=>
  obtain⟨b,o,vs,h1,h2,h3,h4,h5⟩:=h
  refine⟨b,o,vs,h1,h2,fun i hi=>Nat.lt_of_lt_of_le (h3 i hi) (he.imm b),fun k c hk=>?_,fun k x c hx hc=>(h5 k x c hx hc).ev he⟩
  have hlt:k<vs.length:=(List.getElem?_eq_some_iff.mp hk).1
  rw[he.cells b (o+k) (h3 k (by omega))]
  exact h4 k c hk
 |un=>trivial
 |ud=>exact h
theorem zm(l:Slots)(d:Nat)(s:SV)(k:Nat):qF ((d,s)::l) k=if d=k then s else qF l k:=by
 simp only[qF]
 by_cases e:d=k
 ·subst e;simp[JJ]
 ·simp[qdu e,e]
theorem kM(l:Boxes)(d g:Nat)(cs:List AV)(k:Nat):jd (XH l d g cs) k=if d=k then some (g,cs)else jd l k:=by
 simp only[XH,jd]
 by_cases e:d=k
 ·subst e;simp[JJ]
 ·simp[qdu e,e]
theorem ZX(a:Act)(d:Nat)(v:Value)(hd:d<a.tmps.size)(k:Nat):((a.put (some d) v).tmps).getD k undef=if d=k then v else a.tmps.getD k undef:=by
 simp only[Act.put]
 by_cases e:d=k
 ·subst e
  simp[Array.getD,hd]
 ·simp only[Array.getD_eq_getD_getElem?,e,if_false]
  rw[Array.getElem?_setIfInBounds_ne e]
theorem zq(a:Act)(d:Option Nat)(v:Value):(a.put d v).tmps.size=a.tmps.size:=by
 cases d<;>simp[Act.put]
theorem qQ(a:Act)(d:Option Nat)(v:Value):(a.put d v).defers=a.defers:=by
 cases d<;>rfl
theorem qy9(t:Nat)(l:Slots)(k:Nat):qF (dn t l) k=if t=k then(qF l k).ro else qF l k:=by
 unfold dn
 rw[zm]
 by_cases e:t=k
 ·subst e;simp
 ·simp[e]
theorem qzx(x:AV):ro1 (ro1 x)=ro1 x:=by cases x<;>rfl
theorem ro_ro(x:AV):ro (ro x)=ro x:=by
 cases x with
 |agg cs=>simp[ro,List.map_map,Function.comp_def,qzx]
 |_=>rfl
theorem SV.ro_ro(s:SV):s.ro.ro=s.ro:=by
 cases s with
 |av x=>simp[SV.ro,AI.ro_ro]
 |tp l=>simp[SV.ro,List.map_map,Function.comp_def,AI.ro_ro]
 |_=>rfl
theorem ja(ts:List Nat):∀(l:Slots) (k:Nat),qF (qP ts l) k=if k∈ts then(qF l k).ro else qF l k:=by
 induction ts with
 |nil=>intro l k;simp[qP]
 |cons t ts ih=>
  intro l k
  have:qP (t::ts) l=qP ts (dn t l):=rfl
  rw[this,ih,qy9]
  by_cases h1:t=k
  ·subst h1
   by_cases h2:t∈ts<;>simp[h2,SV.ro_ro]
  ·have h1':¬k=t:=fun h=>h1 h.symm
   by_cases h2:k∈ts<;>simp[h1,h1',h2]
theorem YJ{s:SV}{k g off:Nat}:s.ro= .lp k g off↔s= .lp k g off:=by
 cases s<;>simp[SV.ro]
def Gh.rel(G:Gh)(f:Ow->Ow):Gh:={G with Om:=fun b=>f (G.Om b)}
structure Rho (f : Ow → Ow) : Prop where
 fr:f .fr= .fr
 oth:f .oth= .oth
 box:∀p k g,f p= .box k g->p= .box k g
 obj:∀p k g,f p= .obj k g->p= .obj k g
theorem Fr.rel{G:Gh}{w:World}{f:Ow->Ow}(hf:Rho f):Fr G w (G.rel f) w:=
 ⟨Nat.le_refl _,fun _ _ _=>rfl,fun _=>Nat.le_refl _,fun _ _ _ h=>h,fun b _ ho=>⟨rfl,by
  simp only[Gh.rel]
  rcases ho with h|h<;>rw[h]
  ·exact hf.fr
  ·exact hf.oth,rfl⟩,Yy.refl w,fun _ _ h=>h⟩
def DOk(d:TypeDesc)(k:TK):Prop:=
 match k with
 | .sc=>∀x,(d matches .struct _| .array _ _| .slice _)=x->x=false
 | .ot=>∀x,(d matches .struct _| .array _ _| .slice _)=x->x=false
 | .tu=>True
 | .sl e=>d= .slice e
 | .mp q e=>d= .map q e
 | .ar n e=>d= .array n e
 | .st fs=>∃fields:Array Field,d= .struct fields/\fields.toList.map (fun f=>(f.offset,f.type))=fs
def TOk(P:Program)(t:TypeId)(ti:TI):Prop:=
 (qku ti=true->P.underlying t=some (.int .u8))/\(WM ti=true->P.underlying t=some .string)/\
 ∃info d,P.info? t=some info/\P.underlying t=some d/\DOk d ti.k/\info.bytes=ti.bytes/\
  (Zb ti.k=false->info.size=ti.size/\∃z,info.zero=some z/\z.cells.toList=ti.zero/\ti.zero.length=ti.size/\∀v∈ti.zero,v.oneCell'=true)
structure Ok (c : Cx) : Prop where
 tt:∀t ti,c.tt t=some ti->TOk c.P t ti
 ti:∀t ti,c.tt t=some ti->qm1 ti=true->∃k,c.P.underlying t=some (.int k)
 tb:∀t ti,c.tt t=some ti->qm2 ti=true->c.P.underlying t=some .bool
 tp:∀t ti,c.tt t=some ti->za7 ti=true->∃e,c.P.underlying t=some (.pointer e)
 zf:∀t ti,c.tt t=some ti->Zb ti.k=false->∀info z,c.P.info? t=some info->info.zero=some z->(yR ti.k=true->∃vs,z= .agg vs)/\(yR ti.k=false->z.oneCell'=true)
 F:∀f fn,c.F f=some fn->c.P.funcs[f]?=some fn
 nm:∀f fn,c.F f=some fn->(fn.name== "runtime.NumGoroutine")=false
 X:∀f fn vs v,c.F f=some fn->fn.body=none->c.X f vs=some v->∀w,(callFunc f vs.toArray).run c.P w= .ok (.value v) w
 mixed:c.P.follows .mixedOrders=true
theorem qs{c:Cx}{t:TypeId}{ti:TI}(h:c.tn t=some ti):c.tt t=some ti/\Zb ti.k=false:=by
 unfold Cx.tn at h
 split at h
 ·rename_i ti' h'
  cases hk:Zb ti'.k with
  |true=>simp[hk]at h
  |false=>simp[hk]at h;subst h;exact⟨h',hk⟩
 ·cases h
section
variable {P:Program}{t:TypeId}{ti:TI}{w:World}
theorem TOk.sizeOf(h:TOk P t ti)(hk:Zb ti.k=false)(w:World):(sizeOf t).run P w= .ok ti.size w:=by
 obtain⟨_,_,info,d,h1,h2,h3,h4,h5⟩:=h
 rw[run_sizeOf w h1]
 have:P.cellsOf t=ti.size:=by simp[Program.cellsOf,h1,(h5 hk).1]
 rw[this]
theorem TOk.zero(h:TOk P t ti)(hk:Zb ti.k=false):∃z,z.cells.toList=ti.zero/\ti.zero.length=ti.size/\(∀v∈ti.zero,v.oneCell'=true)/\∀w,(zeroValue t).run P w= .ok z w:=by
 obtain⟨_,_,info,d,h1,h2,h3,h4,h5⟩:=h
 obtain⟨h6,z,h7,h8,h9,h10⟩:=h5 hk
 exact⟨z,h8,h9,h10,fun w=>by simp[zeroValue,typeInfo,h1,h7]⟩
theorem TOk.isAgg(h:TOk P t ti)(hk:Zb ti.k=false)(w:World):(Go.isAgg t).run P w= .ok (yR ti.k) w:=by
 obtain⟨_,_,info,d,h1,h2,h3,h4,h5⟩:=h
 unfold Go.isAgg
 simp only[Sem.run_bind,run_underlying h2,Result.andThen_ok]
 cases hti:ti.k with
 |sc=>
  rw[hti]at h3
  cases d<;>first|rfl|(have:=h3 _ rfl;cases this)
 |ot=>
  rw[hti]at h3
  cases d<;>first|rfl|(have:=h3 _ rfl;cases this)
 |tu=>rw[hti]at hk;cases hk
 |sl e=>rw[hti]at h3;cases h3;rfl
 |mp q e=>rw[hti]at h3;cases h3;rfl
 |ar n e=>rw[hti]at h3;cases h3;rfl
 |st fs=>rw[hti]at h3;obtain⟨fields,rfl,_⟩:=h3;rfl
theorem TOk.bytes(h:TOk P t ti):∃info,P.info? t=some info/\info.bytes=ti.bytes:=by
 obtain⟨_,_,info,d,h1,h2,h3,h4,h5⟩:=h
 exact⟨info,h1,h4⟩
theorem TOk.und(h:TOk P t ti):∃d,P.underlying t=some d/\DOk d ti.k:=by
 obtain⟨_,_,info,d,h1,h2,h3,h4,h5⟩:=h
 exact⟨d,h2,h3⟩
end
theorem RelR.one{G:Gh}{w:World}{x:AV}{v:Value}(h:RelR G w x v):v.oneCell'=true:=by
 cases h<;>first|rfl|assumption
theorem jK.one{G:Gh}{w:World}{p:Ow}{x:AV}{v:Value}(h:jK G w p x v):v.oneCell'=true:=by
 cases x with
 |us sz cs=>
  obtain⟨b,_,ht⟩:=h
  obtain⟨n,cap,arr,e,rfl,_⟩:=ht.ex
  rfl
 |agg _=>exact h.elim
 |tup _=>exact h.elim
 |sc _=>exact RelR.one h
 |sl _ _=>exact RelR.one h
 |ptr _ _ _=>exact RelR.one h
 |ms _ _ _ _ _=>exact RelR.one h
 |fn _ _=>exact RelR.one h
 |map _=>exact RelR.one h
theorem Yu{v:Value}(h:v.oneCell'=true):v.cells=#[v]:=by cases v<;>first|rfl|cases h
def Xe(G:Gh)(w:World)(p:Nat->Ow)(l:List AV)(vs:List Value):Prop:=
 l.length=vs.length/\∀(i:Nat) (x:AV) (c:Value),l[i]?=some x->vs[i]?=some c->jK G w (p i) x c
theorem Xe.ev{G G':Gh}{w w':World}(he:Ev G w G' w'){p q:Nat->Ow}(hk:∀i,zK G w G' w' (p i) (q i)){l:List AV}{vs:List Value}(h:Xe G w p l vs):Xe G' w' q l vs:=
 ⟨h.1,fun i x c hx hc=>(h.2 i x c hx hc).ev he (hk i)⟩
theorem Xe.one{G:Gh}{w:World}{p:Nat->Ow}{l:List AV}{vs:List Value}(h:Xe G w p l vs):∀v∈vs,v.oneCell'=true:=by
 intro v hv
 obtain⟨i,hi,rfl⟩:=List.getElem_of_mem hv
 have hl:i<l.length:=by rw[h.1];exact hi
 exact(h.2 i l[i] vs[i] (List.getElem?_eq_getElem hl) (List.getElem?_eq_getElem hi)).one
theorem zB.cells{G:Gh}{w:World}{p:Nat->Ow}{x:AV}{v:Value}{n:Nat}{l:List AV}(h:zB G w p x v)(hl:qg n x=some l):
 l.length=n/\Xe G w p l v.cells.toList:=by
 rcases ZQ x with⟨cs,rfl⟩|hx
 ·obtain⟨vs,rfl,h2,h3⟩:=h
  simp only[qg]at hl
  split at hl
  ·cases hl
   rename_i hn
   exact⟨hn,by simpa[Value.cells]using h2,fun i x c hx hc=>h3 i x c hx (by simpa[Value.cells]using hc)⟩
  ·cases hl
 ·rw[ko hx]at h
  have h1:qg n x=if n=1 then some [x]else none:=by
   cases x<;>first|rfl|exact absurd rfl (hx _)|exact h.elim
  rw[h1]at hl
  split at hl
  ·cases hl
   rename_i hn
   rw[Yu h.one]
   refine⟨by simp[hn],by simp,fun i x c hx hc=>?_⟩
   match i,hx,hc with
   |0,hx,hc=>simp at hx hc;subst hx;subst hc;exact h
   |i+1,hx,hc=>simp at hx
  ·cases hl
theorem qR.valC{G:Gh}{w:World}{k:Nat}{s:SV}{v:Value}{n:Nat}{l:List AV}(h:qR G w k s v)(hl:valC n s=some l):
 l.length=n/\Xe G w (.sl k 0 ·) l v.cells.toList:=by
 cases s with
 |sv u=>
  obtain⟨rfl,h1⟩:=h
  simp only[AI.valC]at hl
  split at hl
  ·cases hl
   rename_i hn
   rw[Yu h1]
   refine⟨by simp[hn],by simp,fun i x c hx hc=>?_⟩
   match i,hx,hc with
   |0,hx,hc=>simp at hx hc;subst hx;subst hc;exact .sc _ h1
   |i+1,hx,hc=>simp at hx
  ·cases hl
 |av x=>exact zB.cells h hl
 |lp _ _ _=>cases hl
 |rv _=>cases hl
 |tp _=>cases hl
 |un=>cases hl
 |ud=>cases hl
end Go.Proofs.YtchmioacjkbfcaaGreat.AI
