/- Texts that the proof of TotalEdges rests on, part 1. -/
import Derived.WalkKit
import Derived.KernelRfl
import Derived.Laws.CopyRow
namespace Go.Proofs.Ytehljndbfjfbfaa.AI
open Go
theorem bsm {A B : Type} {x : Option A} {f : A → Option B} {b : B} (h : x.bind f = some b) : ∃ a, x = some a ∧ f a = some b := Option.bind_eq_some_iff.mp h
theorem qc{p:Prop}(h:p:=by omega):p:=h
theorem qe{p:Prop}(h:p:=by simp):p:=h
theorem qf{p:Prop}(h:p:=by decide):p:=h
theorem qg{p:Prop}(h:p:=by simp;omega):p:=h
abbrev qbl:=@Option.bind_assoc
abbrev qbm:=@List.getElem?_eq_some_iff
abbrev qbn:=@List.getElem?_take
abbrev qbo:=@Nat.le_refl
abbrev qbp:=@Option.bind_some
abbrev qbq:=@Option.some.inj
abbrev qbr:=@List.getElem?_append_left
abbrev qbs:=@List.getElem?_append_right
abbrev qbt:=@List.size_toArray
abbrev qbu:=@List.mem_of_getElem?
abbrev qbv:=@List.all_eq_true
abbrev qbw:=@List.getElem?_eq_getElem
abbrev qbx:=@Nat.mul_le_mul_right
abbrev qby:=@List.getElem?_drop
abbrev qbz:=@Bool.false_eq_true
abbrev qb0:=@Array.length_toList
abbrev qb1:=@List.getElem?_map
abbrev qb2:=@Nat.two_pow_pos
abbrev qb3:=@List.mem_cons
abbrev qb4:=@Array.getElem?_append_left
abbrev qb5:=@List.length_append
abbrev qb6:=@List.length_eq_zero_iff
abbrev qb7:=@Nat.zero_add
abbrev qb8:=@Nat.ne_of_lt
abbrev qb9:=@Array.size_append
abbrev qca:=@Bool.and_eq_true
abbrev qcb:=@Nat.lt_of_lt_of_le
abbrev qcc:=@BitVec.toNat_ofInt
abbrev qcd:=@List.drop_eq_getElem_cons
abbrev qce:=@List.mem_append
abbrev qcf:=@List.mem_map
abbrev qcg:=@Nat.mul_assoc
abbrev qch:=@Nat.add_zero
abbrev qci:=@Nat.lt_or_ge
abbrev qcj:=@Nat.mul_lt_mul_of_pos_right
abbrev qck:=@List.getElem?_eq_none
abbrev qcl:=@List.map_cons
abbrev qcm:=@Array.getElem?_eq_some_iff
abbrev qcn:=@Nat.mul_one
abbrev qco:=@List.length_take
abbrev qcp:=@Nat.le_mul_of_pos_right
abbrev qcq:=@Nat.mul_div_cancel
abbrev qcr:=@Nat.eq_zero_or_pos
abbrev qcs:=@Int.lt_trichotomy
abbrev qct:=@Nat.zero_mul
abbrev qcu:=@List.getElem?_toArray
abbrev qcv:=@Nat.two_pow_add_eq_or_of_lt
abbrev qcw:=@Nat.pow_le_pow_right
abbrev qcx:=@Nat.shiftLeft_eq
abbrev qcy:=@Nat.eq_of_testBit_eq
abbrev qcz:=@Nat.add_assoc
abbrev qc0:=@Nat.le_of_mul_le_mul_right
abbrev qc1:=@List.getElem_of_mem
abbrev qc2:=@Nat.testBit_two_pow
abbrev qc3:=@List.length_map
abbrev qc4:=@Array.getElem?_eq_getElem
abbrev qc5:=@List.ext_getElem?
abbrev qc6:=@List.getElem?_set_self
abbrev qc7:=@Array.getElem?_eq_none
abbrev qc8:=@Nat.testBit_lt_two_pow
abbrev qc9:=@List.length_drop
abbrev qda:=@List.map_nil
abbrev qdb:=@List.getElem?_set_ne
abbrev qdc:=@Option.map_some
abbrev qdd:=@Array.eq_empty_of_size_eq_zero
abbrev qde:=@Array.ext'
abbrev qdf:=@Int.natCast_mul
abbrev qdg:=@Nat.pow_zero
abbrev qdh:=@Array.getElem?_push
abbrev qdi:=@Nat.pow_add
abbrev qdj:=@Int.neg_mul
abbrev qdk:=@List.pairwise_cons
abbrev qdl:=@Int.toNat_natCast
abbrev qdm:=@Nat.le_trans
end Go.Proofs.Ytehljndbfjfbfaa.AI
namespace Go.Proofs.Ytehljndbfjfbfaa.AI
open Go
set_option linter.unusedVariables false
set_option linter.unusedSimpArgs false
set_option maxRecDepth 100000
set_option maxHeartbeats 0
inductive AV where
 |sc (v:Value)
 |sl (sz:Nat) (cs:List AV)
 |us (sz:Nat) (cs:List AV)
 |agg (cs:List AV)
 |tup (vs:List AV)
 |ptr (b g off:Nat)
 |ms (b g off len sz:Nat)
 |fn (f:FuncId) (cap:List AV)
 |map (b:Nat)
structure Hp where
 next:Nat
 get:Nat->Option (Nat×List AV)
def hp0:Hp:=⟨0,fun _=>none⟩
def Hp.rd(h:Hp)(b g:Nat):Option (List AV):=(h.get b).bind fun p=>if p.1=g/\g=0 then some p.2 else none
def Hp.rdM(h:Hp)(b:Nat):Option (List AV):=(h.get b).bind fun p=>if p.1=1 then some p.2 else none
def Hp.del(h:Hp)(b:Nat):Hp:=⟨h.next,fun x=>if x=b then none else h.get x⟩
def Hp.newM(h:Hp):Hp:=⟨h.next+1,fun x=>if x=h.next then some (1,[])else h.get x⟩
def Hp.put(h:Hp)(b g:Nat)(cs:List AV):Hp:=⟨h.next,fun x=>if x=b then some (g,cs)else h.get x⟩
def Hp.new(h:Hp)(cs:List AV):Hp:=⟨h.next+1,fun x=>if x=h.next then some (0,cs)else h.get x⟩
inductive SV where
 |sv (v:Value)
 |av (x:AV)
 |lp (k g off:Nat)
 |rv (cs:List AV)
 |tp (l:List AV)
 |un
 |ud
inductive TK where
 |sc|ot|tu
 |sl (e:TypeId)
 |mp (k e:TypeId)
 |ar (n:Nat) (e:TypeId)
 |st (fs:List (Nat×TypeId))
structure TI where
 k:TK
 size:Nat
 bytes:Nat
 zero:List Value
abbrev Boxes:=List (Nat×Nat×List AV)
abbrev Slots:=List (Nat×SV)
structure St where
 sl:Slots
 bx:Boxes
 hp:Hp
structure Cx where
 P:Program
 tt:TypeId->Option TI
 F:FuncId->Option Func
 X:FuncId->List Value->Option Value
 H:FuncId->Nat->Nat->Nat
 M:FuncId->Nat->Option (List Nat)
def qO{α:Type}(P:Program):Sem α->Option α
 | .pure a=>some a
 | .program k=>qO P (k P)
 | .mark _ k=>qO P k
 |_=>none
def ro1:AV->AV
 | .us s c=>.sl s c
 |x=>x
def ro:AV->AV
 | .us s c=>.sl s c
 | .agg cs=>.agg (cs.map ro1)
 |x=>x
def vl:AV->Bool
 | .sc _=>true
 | .sl _ _=>true
 | .us _ _=>true
 | .fn _ c=>c.isEmpty
 |_=>false
def vlF:AV->Bool
 | .agg cs=>cs.all vl
 |x=>vl x
def Vx:AV->Bool
 | .tup l=>l.all vlF
 |x=>vlF x
def SV.ro:SV->SV
 | .av x=>.av (AI.ro x)
 | .tp l=>.tp (l.map AI.ro)
 |s=>s
def yw:AV->Option Value
 | .sc v=>some v
 |_=>none
def YE:Value->Option Bool
 | .bool b=>some b
 |_=>none
def Zq:Value->Option Int
 | .int _ n=>some n
 |_=>none
def KV(cs:List AV)(i:Nat):Option AV:=cs[i]?
def xO(cs:List AV)(i:Nat):Option Value:=(cs[i]?).bind yw
def jN(cs:List AV)(i n:Nat):Option (List AV):=if i+n<=cs.length then some ((cs.drop i).take n)else none
def vu(cs:List AV)(i:Nat)(vs:List AV):Option (List AV):=
 if i+vs.length<=cs.length then some (cs.take i++vs++cs.drop (i+vs.length))else none
def jO(n:Nat):AV->Option (List AV)
 | .agg cs=>if cs.length=n then some cs else none
 | .tup _=>none
 |x=>if n=1 then some [x]else none
def wP:TK->Bool
 | .sc=>true
 |_=>false
def zA:TK->Bool
 | .ar _ _=>true
 | .st _=>true
 |_=>false
def wY:SV->Option AV
 | .sv v=>some (.sc v)
 | .av x=>some x
 |_=>none
def ZG(r:AV)(i:Nat):AV:=
 match r with
 | .tup vs=>vs.getD i (.tup [])
 |_=>.tup []
def yM(n:Nat):AV->Option Unit
 | .tup vs=>if vs.length=n then some ()else none
 |_=>none
def nil0:Value:=.slice none 0 0
def xN:Value->Bool
 | .slice none 0 0=>true
 |_=>false
def xV:AV->Option Nat
 | .sl s cs=>some (if s=1 then cs.length else cs.length/s)
 | .us s cs=>some (if s=1 then cs.length else cs.length/s)
 | .ms _ _ _ n _=>some n
 | .sc v=>if xN v then some 0 else none
 |_=>none
def idx(n:Nat)(v:Value):Option Nat:=(Zq v).bind fun i=>if 0<=i/\i<(n:Int)then some i.toNat else none
def yr(sz:Nat)(x:AV)(v:Value):Option (List AV):=
 match x with
 | .sl s cs=>if s=sz then(idx (if s=1 then cs.length else cs.length/s) v).bind fun i=>jN cs (i*sz) sz else none
 | .us s cs=>if s=sz then(idx (if s=1 then cs.length else cs.length/s) v).bind fun i=>jN cs (i*sz) sz else none
 |_=>none
def qX(lo hi:Int)(v:Option Value)(dflt:Nat):Option Nat:=
 match v with
 |none=>some dflt
 |some v=>(Zq v).bind fun i=>if lo<=i/\i<=hi then some i.toNat else none
def JG(sz:Nat)(x:AV)(lo hi mx:Option Value):Option AV:=
 match x with
 | .sl s cs=>if s=sz then
  let n:=if s=1 then cs.length else cs.length/s
  (qX 0 n mx n).bind fun m=>(qX 0 m hi n).bind fun h=>(qX 0 h lo 0).bind fun l=>some (.sl s ((cs.drop (l*s)).take ((h-l)*s)))
  else none
 | .us s cs=>if s=sz then
  let n:=if s=1 then cs.length else cs.length/s
  (qX 0 n mx n).bind fun m=>(qX 0 m hi n).bind fun h=>(qX 0 h lo 0).bind fun l=>some (.sl s ((cs.drop (l*s)).take ((h-l)*s)))
  else none
 | .sc v=>if xN v then
  (qX 0 0 mx 0).bind fun m=>(qX 0 m hi 0).bind fun h=>(qX 0 h lo 0).bind fun _=>some (.sc nil0)
  else none
 |_=>none
def xm(sz:Nat):AV->Option (List AV)
 | .sl s cs=>if s=sz then some cs else none
 | .us s cs=>if s=sz then some cs else none
 | .sc v=>match v with
  | .slice none 0 0=>some []
  |_=>none
 |_=>none
def vC(bytes sz n:Nat):Bool:=decide (n*bytes<=140737488355328*sz)&&decide (0<bytes)
def vz(sz:Nat)(cs:List AV):Nat:=if sz=1 then cs.length else cs.length/sz
def vX:Value->Value->Option Bool
 | .int j a,.int k b=>if j=k then some (a==b)else none
 | .string a,.string b=>some (a==b)
 | .bool a,.bool b=>some (a==b)
 |_,_=>none
def QT(k:Value):List AV->Option (Option AV)
 |[]=>some none
 | .tup [.sc q,x]::r=>(vX k q).bind fun t=>cond t (some (some x)) (QT k r)
 |_=>none
def JS(k:Value)(v:AV):List AV->Option (List AV)
 |[]=>some [.tup [.sc k,v]]
 | .tup [.sc q,x]::r=>(vX k q).bind fun t=>cond t (some (.tup [.sc q,v]::r)) ((JS k v r).map fun l=>.tup [.sc q,x]::l)
 |_=>none
def XZ(bytes sz:Nat)(d:AV)(ys:List AV):Option AV:=
 match ys with
  |[]=>match d with
   | .us z cs=>if z=sz then some (.us z cs)else none
   | .sc v=>if xN v then some (.sc nil0)else none
   |_=>none
  |ys=>match d with
   | .us z cs=>if z=sz&&vC bytes sz (cs.length+ys.length)then some (.us z (cs++ys.map ro1))else none
   | .sc v=>if xN v&&vC bytes sz ys.length then some (.us sz (ys.map ro1))else none
   |_=>none
def Vg(bytes sz:Nat)(d s:AV):Option AV:=(xm sz s).bind fun ys=>XZ bytes sz d ys
def jq:List AV->Option (List UInt8)
 |[]=>some []
 | .sc (.int .u8 n)::r=>(jq r).map fun l=>UInt8.ofNat n.toNat::l
 |_=>none
def xU:List AV->Option (List Value)
 |[]=>some []
 | .sc v::r=>(xU r).map fun l=>v::l
 |_=>none
def xS:AV->Option Value
 | .sc v=>some v
 | .agg cs=>(xU cs).map fun l=>.agg l.toArray
 |_=>none
def wc:SV->Option Value
 | .sv v=>some v
 | .av x=>xS x
 |_=>none
def zS:AV->Option (Nat×Nat×Nat)
 | .ptr b g o=>some (b,g,o)
 |_=>none
def kQ:AV->Option (FuncId×List AV)
 | .fn f c=>match Nat.blt f 4294967296 with
  |true=>some (f,c)
  |false=>none
 |_=>none
def kS:AV->Option (FuncId×List AV)
 | .fn f (b::c)=>match Nat.blt f 4294967296 with
  |true=>none
  |false=>some (f-4294967296,b::c)
 |_=>none
def one(o:Option Value):Option Value:=o.bind fun z=>if z.oneCell'=true then some z else none
def qD(P:Program)(op:BinOp)(t:TypeId)(x y:Operand)(a b:Value):Option Value:=
 one (qO P (do eqGuard op t x y a b;Go.binOp op t a b))
def Kn(P:Program)(op:UnOp)(a:Value):Option Value:=one (qO P (Op.unary op a))
def Ki(P:Program)(s d:TypeId)(a:Value):Option Value:=one (qO P (convert s d a))
def ixV(P:Program)(t:TypeId)(a i:Value):Option Value:=one (qO P (Instr.index t a i))
def scV(P:Program)(t:TypeId)(a:Value)(lo hi mx:Option Value):Option Value:=one (qO P (Instr.slice t a lo hi mx))
def Yt(P:Program)(b:Builtin)(ts:Array TypeId)(t:TypeId)(as_:List Value):Option Value:=
 match b with
 | .min=>one (qO P (Builtin.min_ ts t as_.toArray))
 | .max=>one (qO P (Builtin.max_ ts t as_.toArray))
 | .len=>one (qO P (Builtin.len_ ts t as_.toArray))
 |_=>none
def KM:AV->Option Bool
 | .sl _ _=>some false
 | .us _ _=>some false
 | .ms _ _ _ _ _=>some false
 | .sc (.slice none _ _)=>some true
 |_=>none
def Xo:AV->Option Bool
 | .ptr _ _ _=>some false
 | .sc (.pointer none)=>some true
 |_=>none
def ZO:Value->Bool
 | .pointer none=>true
 |_=>false
def qm(l:Slots)(k:Nat):SV:=
 match l with
 |[]=>.un
 |(j,s)::r=>match Nat.beq j k with|true=>s|false=>qm r k
def jL(l:Slots)(d:Option Tmp)(s:SV):Slots:=
 match d with
 |some k=>(k,s)::l
 |none=>l
def qL(b:Boxes)(k:Nat):Option (Nat×List AV):=
 match b with
 |[]=>none
 |(j,g,cs)::r=>match Nat.beq j k with|true=>some (g,cs)|false=>qL r k
def ko(b:Boxes)(k g:Nat)(cs:List AV):Boxes:=(k,g,cs)::b
def qG(l:Slots):Operand->SV
 | .tmp t=>qm l t
 | .const v=>match v with
  | .agg cs=>if cs.toList.all (·.oneCell')=true then .av (.agg (cs.toList.map .sc))else .un
  | .tuple _=>.un
  |v=>.sv v
 | .global _=>.un
 | .func f=>.av (.fn f [])
def vy(k:TK):SV->SV
 | .sv v=>if wP k then .sv v else .av (.sc v)
 |s=>s
def qH(l:List Value):List AV:=l.map .sc
def yq:TK->Bool
 | .tu=>true
 |_=>false
def Cx.tn(c:Cx)(t:TypeId):Option TI:=
 match c.tt t with
 |some ti=>if yq ti.k then none else some ti
 |none=>none
def xT(p:Prop)[Decidable p]:Option Unit:=if p then some ()else none
def XW(a b:Nat):Option Unit:=xT (a=b)
def ZW(b:Bool):Option Unit:=xT (b=true)
def VP(cs:List AV):Option Unit:=xT (cs.all vl=true)
abbrev Orc:=FuncId->List AV->Hp->Option (AV×Hp)
abbrev BE:=Option (Nat×Nat×List AV)
abbrev Kt(R:Type):=SV->BE->Hp->Option R
def ZN(ti:TI):Bool:=
 match ti.k,ti.zero with
 | .sc,[.int .u8 _]=>true
 |_,_=>false
def vY(ti:TI):Bool:=
 match ti.k,ti.zero with
 | .sc,[.string _]=>true
 |_,_=>false
def KT(ti:TI):Bool:=
 match ti.k,ti.zero with
 | .ot,[.pointer none]=>true
 |_,_=>false
def Vh:AV->Option (List AV)
 | .agg cs=>some cs
 |_=>none
def vj:SV->Option (List AV)
 | .av x=>Vh x
 |_=>none
def kV:AV->Bool
 | .agg _=>false
 | .tup _=>false
 |_=>true
def Vr(xs:List AV):Option Unit:=ZW (xs.all kV)
def XY:Value->Option ByteArray
 | .string s=>some s
 |_=>none
def zY:SV->Option Value
 | .sv v=>some v
 |_=>none
def Kg:AV->Option Unit
 | .ptr _ _ _=>some ()
 | .fn _ _=>some ()
 |_=>none
def xP:AV->Option (Nat×Nat×Nat×Nat×Nat)
 | .ms b g o n z=>some (b,g,o,n,z)
 |_=>none
def valC(n:Nat):SV->Option (List AV)
 | .sv v=>if n=1 then some [.sc v]else none
 | .av x=>jO n x
 |_=>none
def QJ(ev:Operand->SV):Option Operand->Option (Option Value)
 |none=>some none
 |some o=>(zY (ev o)).bind fun v=>some (some v)
def kg:List SV->Option (List AV)
 |[]=>some []
 |s::r=>(wY s).bind fun x=>(kg r).bind fun l=>some (x::l)
def wu:List SV->Option (List Value)
 |[]=>some []
 |s::r=>(zY s).bind fun x=>(wu r).bind fun l=>some (x::l)
def kF(c:Cx)(fs:List (Nat×TypeId))(i:Nat):Option (Nat×Nat):=
 match fs[i]? with
 |some p=>match c.tn p.2 with
  |some fi=>some (p.1,fi.size)
  |none=>none
 |none=>none
def zy{R:Type}(zq:Nat->Option (Nat×Nat))(ev:Operand->SV)(K:List AV->Option R):List (Nat×Operand)->List AV->Option R
 |[],cs=>K cs
 |(i,x)::r,cs=>
  match zq i with
  |none=>none
  |some (off,n)=>(valC n (ev x)).bind fun vs=>(vu cs off vs).bind fun cs'=>zy zq ev K r cs'
def zb{R:Type}(ti:TI)(h:Nat)(cs:List AV)(off:Nat)(K:SV->List AV->Option R):Option R:=
 if wP ti.k then(xO cs off).bind fun v=>K (.sv v) cs
 else if zA ti.k then(jN cs off ti.size).bind fun l=>
  if h=1 then(vu cs off (l.map ro1)).bind fun cs'=>K (.av (.agg l)) cs' else K (.av (.agg (l.map ro1))) cs
 else(KV cs off).bind fun x=>if h=1 then K (.av x) (cs.set off (ro1 x))else K (.av (ro1 x)) cs
def kN:AV->Option Unit
 | .tup _=>none
 |_=>some ()
def vr{R:Type}(ti:TI)(r:AV)(K:SV->Option R):Option R:=
 match ti.k with
 | .sc=>(yw r).bind fun v=>K (.sv v)
 | .tu=>(yM ti.size r).bind fun _=>K (.tp ((List.range ti.size).map (ZG r)))
 |_=>(kN r).bind fun _=>K (.av r)
def qR{R:Type}(h:Nat)(ti:TI)(a:SV)(gb:Nat->Option (Nat×List AV))(hp:Hp)(K:Kt R):Option R:=
 match a with
 | .lp k g off=>match gb k with
  |some (g',cs)=>if g=g' then zb ti h cs off fun s cs'=>K s (if h=1 then some (k,g,cs')else none) hp else none
  |none=>none
 | .rv cs=>if h=1 then none else zb ti h cs 0 fun s _=>K s none hp
 | .av x=>(zS x).bind fun p=>(hp.rd p.1 p.2.1).bind fun cs=>zb ti h cs p.2.2 fun s cs'=>K s none (if h=1 then hp.put p.1 p.2.1 cs' else hp)
 |_=>none
def zM{R:Type}(ti:TI)(a x:SV)(gb:Nat->Option (Nat×List AV))(hp:Hp)(K:Kt R):Option R:=
 (valC ti.size x).bind fun vs=>
 match a with
 | .lp k g off=>match gb k with
  |some (g',cs)=>if g=g' then(vu cs off vs).bind fun cs'=>K .un (some (k,g,cs')) hp else none
  |none=>none
 | .av x=>(zS x).bind fun p=>(hp.rd p.1 p.2.1).bind fun cs=>(vu cs p.2.2 vs).bind fun cs'=>K .un none (hp.put p.1 p.2.1 cs')
 |_=>none
def zo{R:Type}(c:Cx)(ti:TI)(a:SV)(f:Nat)(K:SV->Option R):Option R:=
 match ti.k with
 | .st fs=>match fs[f]? with
  |some (fo,ft)=>match c.tn ft with
   |some fi=>if fi.size=0 then none else
    match a with
    | .lp k g off=>K (.lp k g (off+fo))
    | .rv cs=>K (.rv (cs.drop fo))
    | .av x=>(zS x).bind fun p=>K (.av (.ptr p.1 p.2.1 (p.2.2+fo)))
    |_=>none
   |none=>none
  |none=>none
 |_=>none
def zn{R:Type}(c:Cx)(h:Nat)(ti:TI)(a i:SV)(K:SV->Option R):Option R:=
 match i with
 | .sv iv=>match ti.k with
  | .sl e=>match c.tn e with
   |some ei=>match a with
    | .av x=>
     if h=2 then(xP x).bind fun p=>(idx p.2.2.2.1 iv).bind fun j=>(XW p.2.2.2.2 ei.size).bind fun _=>K (.av (.ptr p.1 p.2.1 (p.2.2.1+j*ei.size)))
     else(yr ei.size x iv).bind fun cs=>K (.rv cs)
    |_=>none
   |none=>none
  | .ar n e=>match c.tn e with
   |some ei=>match a with
    | .lp k g off=>(idx n iv).bind fun j=>K (.lp k g (off+j*ei.size))
    | .rv cs=>(idx n iv).bind fun j=>K (.rv (cs.drop (j*ei.size)))
    | .av x=>(zS x).bind fun p=>(idx n iv).bind fun j=>K (.av (.ptr p.1 p.2.1 (p.2.2+j*ei.size)))
    |_=>none
   |none=>none
  |_=>none
 |_=>none
def yF{R:Type}(c:Cx)(h:Nat)(ti:TI)(t:TypeId)(a:SV)(lo hi mx:Option Value)(K:SV->Option R):Option R:=
 match ti.k with
 | .sl e=>match c.tn e with
  |some ei=>match a with
   | .av x=>
    if h=2 then(xP x).bind fun p=>(qX 0 p.2.2.2.1 mx p.2.2.2.1).bind fun m=>(qX 0 m hi p.2.2.2.1).bind fun hh=>(qX 0 hh lo 0).bind fun l=>
     (XW p.2.2.2.2 ei.size).bind fun _=>K (.av (.ms p.1 p.2.1 (p.2.2.1+l*ei.size) (hh-l) ei.size))
    else(JG ei.size x lo hi mx).bind fun z=>K (.av z)
   |_=>none
  |none=>none
 | .sc=>match a with
  | .sv v=>(scV c.P t v lo hi mx).bind fun z=>K (.sv z)
  |_=>none
 |_=>none
def vb{R:Type}(c:Cx)(s d:TypeId)(si di:TI)(a:SV)(K:SV->Option R):Option R:=
 match di.k with
 | .sl e=>match c.tn e with
  |some ei=>if ZN ei=true then(zY a).bind fun v=>(XY v).bind fun b=>K (.av (.sl 1 (b.data.toList.map fun x=>.sc (.int .u8 x.toNat))))else none
  |none=>none
 |_=>match si.k with
  | .sl e=>match c.tn e with
   |some ei=>if(ZN ei&&vY di)=true then(wY a).bind fun x=>(xm 1 x).bind fun cs=>(jq cs).bind fun l=>K (.sv (.string ⟨l.toArray⟩))else none
   |none=>none
  |_=>(zY a).bind fun v=>(Ki c.P s d v).bind fun z=>K (.sv z)
def ZX{R:Type}(c:Cx)(op:BinOp)(t:TypeId)(x y:Operand)(a b:SV)(K:SV->Option R):Option R:=
 match a,b with
 | .sv v,.sv w=>(qD c.P op t x y v w).bind fun z=>K (.sv z)
 | .av v,.sv w=>if xN w then
  match c.tn t with
  |some ti=>match ti.k with
   | .sl _=>(KM v).bind fun n=>(match op with| .eql=>K (.sv (.bool n))| .neq=>K (.sv (.bool !n))|_=>none)
   |_=>none
  |none=>none
  else if ZO w then
  match c.tn t with
  |some ti=>if KT ti=true then(Xo v).bind fun n=>(match op with| .eql=>K (.sv (.bool n))| .neq=>K (.sv (.bool !n))|_=>none)else none
  |none=>none
  else(xS v).bind fun v'=>(qD c.P op t x y v' w).bind fun z=>K (.sv z)
 | .av v,.av w=>(xS v).bind fun v'=>(xS w).bind fun w'=>(qD c.P op t x y v' w').bind fun z=>K (.sv z)
 |_,_=>none
def selV(t:Bool)(x y:Value):Value:=
 match t with
 |true=>x
 |false=>y
def kG{R:Type}(c a b:SV)(K:SV->Option R):Option R:=
 (zY c).bind fun v=>(YE v).bind fun t=>
  match a,b with
  | .sv x,.sv y=>K (.sv (selV t x y))
  |s,r=>cond t (K s.ro) (K r.ro)
def xu:AV->Option Nat
 | .map b=>some b
 |_=>none
def wb(sz:Nat)(n:Nat)(cs:List AV):Nat×List AV:=(min (vz sz cs) n,cs.take (min (vz sz cs) n*sz))
def Zw(hp:Hp)(sz:Nat)(x:AV):Option (List AV):=
 match xP x with
 |some p=>(xT (p.2.2.2.2=sz/\0<sz)).bind fun _=>(hp.rd p.1 p.2.1).bind fun cs=>(jN cs p.2.2.1 (p.2.2.2.1*sz)).bind fun l=>some (l.map ro1)
 |none=>xm sz x
def Wp(bytes sz:Nat)(d s:AV)(hp:Hp):Option (AV×Hp):=
 (Zw hp sz s).bind fun ys=>match ys with
 |[]=>(XZ bytes sz d []).bind fun y=>some (y,hp)
 |y::ys=>match d with
  | .us z []=>(xT (z=sz/\vC bytes sz (y::ys).length=true)).bind fun _=>some (.ms hp.next 0 0 (vz sz (y::ys)) sz,hp.new (y::ys))
  | .us z (q::cs)=>(VP (y::ys)).bind fun _=>(XZ bytes sz (.us z (q::cs)) (y::ys)).bind fun r=>some (r,hp)
  | .sc v=>(xT (xN v=true/\vC bytes sz (y::ys).length=true)).bind fun _=>some (.ms hp.next 0 0 (vz sz (y::ys)) sz,hp.new (y::ys))
  | .ms b g off n z=>(xT (z=sz/\off=0/\0<n)).bind fun _=>(hp.rd b g).bind fun cs=>
   (xT (n*sz<=cs.length/\vC bytes sz (n*sz+(y::ys).length)=true)).bind fun _=>some (.ms hp.next 0 0 (n+vz sz (y::ys)) sz,(hp.del b).new ((cs.take (n*sz)).map ro1++(y::ys)))
  |_=>none
def vH{R:Type}(c:Cx)(h:Nat)(o:Oper)(b:Builtin)(ts:List TypeId)(as_:List SV)(hp:Hp)(K:SV->Hp->Option R):Option R:=
 match b,ts,as_ with
 | .len,[t],[.av x]=>match c.tn t with
  |some ti=>match ti.k with
   | .sl _=>(xV x).bind fun n=>K (.sv (.int .i64 n)) hp
   | .mp _ _=>(xT (h=2)).bind fun _=>(xu x).bind fun b=>(hp.rdM b).bind fun es=>K (.sv (.int .i64 es.length)) hp
   |_=>none
  |none=>none
 | .append,[t,t'],[d,s]=>if t'≠t then none else match c.tn t with
  |some ti=>match ti.k with
   | .sl e=>match c.tn e with
    |some ei=>(wY d).bind fun d'=>(wY s).bind fun s'=>if h=2 then(Wp ei.bytes ei.size d' s' hp).bind fun q=>K (.av q.1) q.2 else(Vg ei.bytes ei.size d' s').bind fun y=>K (.av y) hp
    |none=>none
   |_=>none
  |none=>none
 | .copy,[t,_],[.av d,.av s]=>match c.tn t with
  |some ti=>match ti.k with
   | .sl e=>match c.tn e with
    |some ei=>(xT (h=2/\0<ei.size)).bind fun _=>(xP d).bind fun p=>(XW p.2.2.2.2 ei.size).bind fun _=>(Zw hp ei.size s).bind fun ys=>(hp.rd p.1 p.2.1).bind fun cs=>
     (vu cs p.2.2.1 (wb ei.size p.2.2.2.1 ys).2).bind fun cs'=>K (.sv (.int .i64 ((wb ei.size p.2.2.2.1 ys).1:Nat))) (hp.put p.1 p.2.1 cs')
    |none=>none
   |_=>none
  |none=>none
 |b,ts,as_=>(wu as_).bind fun vs=>(Yt c.P b ts.toArray o.type vs).bind fun z=>K (.sv z) hp
def tN(n:Int):Nat:=n.toNat
def Xm(bytes size:Nat)(n n':Int):Option Unit:=xT (n=n'/\0<=n/\vC bytes 1 n.toNat=true/\0<size)
def Zr(n:Int)(z:List Value):List AV:=(List.replicate n.toNat (qH z)).flatten
def vB(hp:Hp)(x:AV):Option (AV×Hp):=
 match x with
 | .ms b g off n z=>(xT (0<z)).bind fun _=>(hp.rd b g).bind fun cs=>(jN cs off (n*z)).bind fun l=>(xT (l.all vl=true)).bind fun _=>some (.sl z (l.map ro1),hp.del b)
 |x=>some (x,hp)
def wR(hp:Hp):List AV->Option (List AV×Hp)
 |[]=>some ([],hp)
 |x::r=>(vB hp x).bind fun p=>(wR p.2 r).bind fun q=>some (p.1::q.1,q.2)
def ZS(k:TK)(hp:Hp)(s:SV):Option (SV×Hp):=
 match s with
 | .av x=>if zA k then(vj (.av x)).bind fun cs=>(wR hp cs).bind fun q=>some (.av (.agg q.1),q.2)else(vB hp x).bind fun q=>some (.av q.1,q.2)
 |s=>some (s,hp)
def Yj{R:Type}(k:TK)(hp:Hp)(s:SV)(K:SV->Hp->Option R):Option R:=
 match s with
 | .av x=>if zA k then(vj (.av x)).bind fun cs=>(wR hp cs).bind fun q=>K (.av (.agg q.1)) q.2 else(vB hp x).bind fun q=>K (.av q.1) q.2
 |s=>K s hp
def orA(f:Option AV)(x:AV):AV:=f.getD x
def VS(f:Option AV):Bool:=f.isSome
def Jn(ti:TI):Bool:=
 match ti.k,ti.zero with
 | .sc,[.int _ _]=>true
 |_,_=>false
def Jo(ti:TI):Bool:=
 match ti.k,ti.zero with
 | .sc,[.bool _]=>true
 |_,_=>false
def KS(ti:TI):Value->Bool
 | .int _ _=>Jn ti
 | .string _=>vY ti
 | .bool _=>Jo ti
 |_=>false
def kd(ti:TI):AV:=if zA ti.k then .agg (qH ti.zero)else(qH ti.zero).headD (.agg [])
def mapV:SV->Option AV
 | .sv v=>some (.sc v)
 | .av x=>some (ro x)
 |_=>none
def ofA(k:TK)(x:AV):Option SV:=if wP k then(yw x).bind fun v=>some (.sv v)else some (.av x)
def Jl(ok:Bool)(ei:TI)(f:Option AV):Option SV:=
 match ok with
 |true=>some (.tp [orA f (kd ei),.sc (.bool (VS f))])
 |false=>ofA ei.k (orA f (kd ei))
def ofAK{R:Type}(k:TK)(x:AV)(K:SV->Option R):Option R:=if wP k then(yw x).bind fun v=>K (.sv v)else K (.av x)
def ZL{R:Type}(ok:Bool)(ei:TI)(f:Option AV)(K:SV->Option R):Option R:=
 match ok with
 |true=>K (.tp [orA f (kd ei),.sc (.bool (VS f))])
 |false=>ofAK ei.k (orA f (kd ei)) K
def zV{R:Type}(c:Cx)(t:TypeId)(x i:SV)(ok:Bool)(hp:Hp)(K:SV->Option R):Option R:=
 match c.tn t with
 |some ti=>match ti.k with
  | .mp kt et=>match c.tn kt,c.tn et with
   |some ki,some ei=>(wY x).bind fun x'=>(xu x').bind fun b=>(hp.rdM b).bind fun es=>(zY i).bind fun k=>(ZW (KS ki k)).bind fun _=>(QT k es).bind fun f=>ZL ok ei f K
   |_,_=>none
  |_=>none
 |none=>none
def yj{R:Type}(c:Cx)(t:TypeId)(m k x:SV)(hp:Hp)(K:Hp->Option R):Option R:=
 match c.tn t with
 |some ti=>match ti.k with
  | .mp kt et=>match c.tn kt,c.tn et with
   |some ki,some ei=>(wY m).bind fun m'=>(xu m').bind fun b=>(hp.rdM b).bind fun es=>(zY k).bind fun kv=>(ZW (KS ki kv)).bind fun _=>(mapV x).bind fun v=>
    (JS kv v es).bind fun es'=>K (hp.put b 1 es')
   |_,_=>none
  |_=>none
 |none=>none
def jZ(xs caps:List AV):Option Unit:=xT (xs.all vlF=true/\caps.all vl=true)
def xJ(y:AV):Option Unit:=xT (Vx y=true)
def qW{R:Type}(c:Cx)(C:Orc)(h:Nat)(ti:TI)(f:FuncId)(caps:List AV)(as_:List SV)(hp:Hp)(K:Kt R):Option R:=
 (kg as_).bind fun xs=>
 if h=2 then(C f ((xs.map ro)++caps) hp).bind fun p=>vr ti p.1 fun s=>K s none p.2
 else if h=4 then(C f (caps++(xs.map ro)) hp).bind fun p=>vr ti p.1 fun s=>K s none p.2
 else(jZ xs caps).bind fun _=>(C f ((xs.map ro)++caps) hp0).bind fun p=>(xJ p.1).bind fun _=>vr ti p.1 fun s=>K s none hp
def qi{R:Type}(c:Cx)(C:Orc)(h:Nat)(o:Oper)(ev:Operand->SV)(gb:Nat->Option (Nat×List AV))(hp:Hp)(K:Kt R):Option R:=
 match o.op with
 | .move x=>match c.tt o.type with
  |some ti=>if h=3 then Yj ti.k hp (vy ti.k (ev x).ro) fun s q=>K s none q else K (if h=1 then vy ti.k (ev x)else vy ti.k (ev x).ro) none hp
  |none=>none
 | .assign x=>match c.tt o.type with
  |some ti=>if h=3 then Yj ti.k hp (vy ti.k (ev x)) fun s q=>K s none q else K (vy ti.k (ev x)) none hp
  |none=>none
 | .pick a x y=>kG (ev a) (ev x) (ev y) fun s=>K s none hp
 | .alloc t=>match c.tn t with
  |some ti=>if h=2 then K (.av (.ptr hp.next 0 0)) none (hp.new (qH ti.zero))else
   match o.dst with
   |some d=>let g:=match gb d with|some (g,_)=>g+1|none=>0
    K (.lp d g 0) (some (d,g,qH ti.zero)) hp
   |none=>none
  |none=>none
 | .box t x=>match c.tn t with
  |some ti=>(valC ti.size (ev x)).bind fun vs=>if h=2 then K (.av (.ptr hp.next 0 0)) none (hp.new (vs.map ro1))else
   match o.dst with
   |some d=>let g:=match gb d with|some (g,_)=>g+1|none=>0
    K (.lp d g 0) (some (d,g,vs.map ro1)) hp
   |none=>none
  |none=>none
 | .build t ps=>match c.tn t with
  |some ti=>match ti.k with
   | .st fs=>if fs.all (fun p=>(c.tn p.2).isSome)=true then zy (kF c fs) ev (fun cs=>K (.av (.agg (cs.map ro1))) none hp) ps.toList (qH ti.zero)else none
   | .ar _ e=>match c.tn e with
    |some ei=>zy (fun i=>some (i*ei.size,ei.size)) ev (fun cs=>K (.av (.agg (cs.map ro1))) none hp) ps.toList (qH ti.zero)
    |none=>none
   |_=>none
  |none=>none
 | .buildSlice t n ps=>match c.tn t with
  |some ti=>match ti.k with
   | .sl e=>match c.tn e with
    |some ei=>if n*ei.size<=4096/\0<ei.size then
     zy (fun i=>some (i*ei.size,ei.size)) ev (fun cs=>(VP cs).bind fun _=>K (.av (.us ei.size (cs.map ro1))) none hp) ps.toList (List.replicate n (qH ei.zero)).flatten
     else none
    |none=>none
   |_=>none
  |none=>none
 | .load t a=>match c.tn t with
  |some ti=>if h=3 then qR 0 ti (ev a) gb hp fun s b q=>Yj ti.k q s fun s' q'=>K s' b q' else qR h ti (ev a) gb hp K
  |none=>none
 | .store t a x=>match c.tn t with
  |some ti=>zM ti (ev a) (ev x) gb hp K
  |none=>none
 | .nilCheck x=>match ev x with
  | .lp k g off=>K (.lp k g off) none hp
  | .av y=>(Kg y).bind fun _=>K (.av y) none hp
  |_=>none
 | .binOp op t x y _=>ZX c op t x y (ev x) (ev y) fun s=>K s none hp
 | .unOp op _ x=>(zY (ev x)).bind fun v=>(Kn c.P op v).bind fun z=>K (.sv z) none hp
 | .convert s d x=>match c.tn s,c.tn d with
  |some si,some di=>vb c s d si di (ev x) fun s=>K s none hp
  |_,_=>none
 | .makeFunc (.func f) fs cs=>if fs.toList.isEmpty=true then(kg (cs.toList.map ev)).bind fun xs=>if xs.all kV=true then(ZW (Nat.blt f 4294967296)).bind fun _=>K (.av (.fn f (xs.map ro1))) none hp else none
  else if cs.toList.isEmpty=true then(kg (fs.toList.map ev)).bind fun xs=>(Vr xs).bind fun _=>K (.av (.fn (4294967296+f) (xs.map ro1))) none hp else none
 | .makeSlice t l m=>match c.tn t with
  |some ti=>match ti.k with
   | .sl e=>match c.tn e with
    |some ei=>(zY (ev l)).bind fun lv=>(zY (ev m)).bind fun mv=>(Zq lv).bind fun n=>(Zq mv).bind fun n'=>
     (Xm ei.bytes ei.size n n').bind fun _=>
      (if h=2 then K (.av (.ms hp.next 0 0 (tN n) ei.size)) none (hp.new (Zr n ei.zero))
       else K (.av (.us ei.size (Zr n ei.zero))) none hp)
    |none=>none
   |_=>none
  |none=>none
 | .slice t x lo hi mx=>match c.tn t with
  |some ti=>if mx.isSome&&!hi.isSome then none else(QJ ev lo).bind fun l=>(QJ ev hi).bind fun u=>(QJ ev mx).bind fun m=>yF c h ti t (ev x) l u m fun s=>K s none hp
  |none=>none
 | .fieldAddr t x f=>match c.tn t with
  |some ti=>zo c ti (ev x) f fun s=>K s none hp
  |none=>none
 | .field t x f=>match c.tn t with
  |some ti=>match ti.k with
   | .st fs=>match fs[f]? with
    |some (fo,ft)=>match c.tn ft with
     |some fi=>(vj (ev x)).bind fun cs=>zb fi 0 cs fo fun s _=>K s none hp
     |none=>none
    |none=>none
   |_=>none
  |none=>none
 | .indexAddr t x i=>match c.tn t with
  |some ti=>zn c h ti (ev x) (ev i) fun s=>K s none hp
  |none=>none
 | .index t x i=>match c.tt o.type with
  |some ti=>if wP ti.k then(wc (ev x)).bind fun a=>(zY (ev i)).bind fun iv=>(ixV c.P t a iv).bind fun z=>K (.sv z) none hp else
   match c.tn t with
   |some xi=>match xi.k with
    | .ar n e=>match c.tn e with
     |some ei=>(vj (ev x)).bind fun cs=>(zY (ev i)).bind fun iv=>(idx n iv).bind fun j=>zb ei 0 cs (j*ei.size) fun s _=>K s none hp
     |none=>none
    |_=>none
   |none=>none
  |none=>none
 | .extract x i=>match ev x with
  | .tp l=>match l[i]? with
   |some y=>match c.tt o.type with
    |some ti=>if wP ti.k then(yw y).bind fun v=>K (.sv v) none hp else if h=1 then K (.av (ro y)) none hp else K (.av y) none hp
    |none=>none
   |none=>none
  |_=>none
 | .makeMap t none=>if h=2 then K (.av (.map hp.next)) none hp.newM else none
 | .lookup t x i ok=>if h=2 then zV c t (ev x) (ev i) ok hp fun s=>K s none hp else none
 | .mapUpdate t m k x=>if h=2 then yj c t (ev m) (ev k) (ev x) hp fun q=>K .un none q else none
 | .call cl=>match cl.callee with
  | .builtin b=>vH c h o b cl.argTypes.toList (cl.args.toList.map ev) hp fun s q=>K s none q
  | .value (.func f)=>match c.F f,c.tt o.type with
   |some fn,some ti=>match fn.body with
    |some _=>qW c C h ti f [] (cl.args.toList.map ev) hp K
    |none=>(wu (cl.args.toList.map ev)).bind fun vs=>(one (c.X f vs)).bind fun z=>K (.sv z) none hp
   |_,_=>none
  | .value (.tmp t)=>match c.tt o.type with
   |some ti=>match ev (.tmp t)with
    | .av x=>if h=4 then(kS x).bind fun p=>qW c C h ti p.1 p.2 (cl.args.toList.map ev) hp K else(kQ x).bind fun p=>qW c C h ti p.1 p.2 (cl.args.toList.map ev) hp K
    |_=>none
   |none=>none
  |_=>none
 |_=>none
structure Fp where
 rs:List Nat
 ws:List Nat
 br:Option Nat
 bw:Option Nat
 hr:Bool
 hw:Bool
 nw:Bool
 lq:Option (AV×Nat)
 gb:Nat->Option (Nat×List AV)
 ga:Nat->Option (Nat×List AV)
def zz(q:AV×Nat)(g:Nat->Option (Nat×List AV)):Option (List AV):=
 (zS q.1).bind fun p=>(g p.1).bind fun z=>if z.1=0 then(jN z.2 p.2.2 q.2).map (List.map ro1)else none
noncomputable def xG(q:AV×Nat)(g g':Nat->Option (Nat×List AV)):Option Unit:=
 @ite _ (zz q g=zz q g') (Classical.propDecidable _) (some ()) none
def QO(h:Nat)(o:Oper)(tn:TypeId->Option TI)(ev:Operand->SV):Option (AV×Nat):=
 match o.op with
 | .load t a=>match ev a with
  | .av x=>match h==1||h==3 with
   |true=>none
   |false=>match tn t with
    |some ti=>some (x,match zA ti.k with|true=>ti.size|false=>1)
    |none=>none
  |_=>none
 |_=>none
def ZP(b:Bool)(hp:Hp):Nat->Option (Nat×List AV):=
 match b with
 |true=>hp.get
 |false=>fun _=>none
inductive It where
 |code (c:Code)
 |inBlock (id:Nat)
 |inLoop (body:Code)
 |inScope (body:Code)
 |ops (r:Nat) (ops:Array Oper) (is:List Nat) (d:Bool) (acc:List (Nat×Fp))
def dn(t:Tmp)(l:Slots):Slots:=(t,(qm l t).ro)::l
def dnX(t:Tmp)(i:Nat)(l:Slots):Slots:=
 match qm l t with
 | .tp xs=>(t,.tp (match xs[i]? with|some y=>xs.set i (ro y)|none=>xs))::l
 |_=>l
def qN:List Operand->List Nat
 |[]=>[]
 | .tmp t::r=>t::qN r
 |_::r=>qN r
def qu(h:Nat)(o:Oper):List Nat:=
 match o.op with
 | .move x=>if h=1 then qN [x]else []
 | .assign x=>qN [x]
 | .store _ _ x=>qN [x]
 | .extract x _=>if h=1 then []else qN [x]
 | .call c=>match c.callee with
  | .builtin .append=>qN c.args.toList
  |_=>[]
 |_=>[]
def qr(ts:List Nat)(l:Slots):Slots:=ts.foldl (fun l t=>dn t l) l
def qn(h:Nat)(o:Oper)(l:Slots):Slots:=
 match o.op with
 | .extract (.tmp t) i=>if h=1 then l else dnX t i l
 |_=>qr (qu h o) l
def zk(h:Nat)(o:Oper)(ev:Operand->SV):Option Nat×Option Nat:=
 match o.op with
 | .load _ a=>match ev a with
  | .lp k _ _=>if h=1 then(none,some k)else(some k,none)
  |_=>(none,none)
 | .store _ a _=>match ev a with
  | .lp k _ _=>(none,some k)
  |_=>(none,none)
 | .alloc _=>if h=2 then(none,none)else(none,o.dst)
 | .box _ _=>if h=2 then(none,none)else(none,o.dst)
 |_=>(none,none)
def qA(h:Nat)(o:Oper)(ev:Operand->SV):Bool×Bool×Bool:=
 match o.op with
 | .load _ a=>match ev a with
  | .av _=>(h==1||h==3,h==1||h==3,h==3)
  |_=>(h==3,h==3,h==3)
 | .move _=>(h==3,h==3,h==3)
 | .assign _=>(h==3,h==3,h==3)
 | .makeMap _ _=>(true,true,true)
 | .lookup _ _ _ _=>(true,false,false)
 | .mapUpdate _ _ _ _=>(true,true,true)
 | .store _ a _=>match ev a with
  | .av _=>(false,true,false)
  |_=>(false,false,false)
 | .alloc _=>(false,h==2,h==2)
 | .box _ _=>(false,h==2,h==2)
 | .makeSlice _ _ _=>(false,h==2,h==2)
 | .call c=>match c.callee with
  | .builtin _=>(h==2,h==2,h==2)
  |_=>(h==2||h==4,h==2||h==4,h==2||h==4)
 |_=>(false,false,false)
def VW(tn:TypeId->Option TI)(h:Nat)(ops:Array Oper)(o:Oper)(l:Slots)(hp hp':Hp):Fp:=
 let b:=zk h o (qG l)
 let q:=qA h o (qG l)
 {rs:=o.looksAt ops,ws:=o.dst.toList++qu h o,br:=b.1,bw:=b.2,hr:=q.1,hw:=q.2.1,nw:=q.2.2,lq:=QO h o tn (qG l),gb:=ZP q.2.1 hp,ga:=ZP q.2.1 hp'}
def xw(ops:Array Oper)(o:Oper):Fp:=
 {rs:=o.looksAt ops,ws:=o.dst.toList,br:=none,bw:=none,hr:=false,hw:=false,nw:=false,lq:=none,gb:=fun _=>none,ga:=fun _=>none}
def vS(a b:List Nat):Bool:=a.any fun x=>b.contains x
def Jw(a b:Fp):Bool:=
 vS a.ws b.rs||vS a.ws b.ws||vS a.rs b.ws||
 (match a.bw,b.bw with|some x,some y=>x==y|_,_=>false)||
 (match a.bw,b.br with|some x,some y=>x==y|_,_=>false)||
 (match a.br,b.bw with|some x,some y=>x==y|_,_=>false)||
 (a.hw&&(b.hr||b.hw))||(a.hr&&b.hw)||(a.nw&&b.nw)
def qY:List Oper->List (List Nat)->List (List Nat)
 |[],t=>t
 |o::r,t=>
  let ds:=(o.after.toList.filter fun e=>Region.binds .any e).map (·.on)
  qY r (t++[(ds++ds.flatMap fun j=>t.getD j []).eraseDups])
def kZ(ops:Array Oper):Bool:=(List.range ops.size).all fun i=>match ops[i]? with
 |some o=>o.after.toList.all fun e=>!Region.binds .any e||decide (e.on<i)
 |none=>true
def xx(ops:Array Oper)(acc:List (Nat×Fp)):Bool:=
 let t:=qY ops.toList []
 kZ ops&&acc.all fun p=>acc.all fun q=>!(decide (p.1<q.1))||(t.getD q.1 []).contains p.1||!(Jw p.2 q.2)
def wG(t:List (List Nat))(i j:Nat):Bool:=(t.getD j []).contains i||(t.getD i []).contains j
noncomputable def Yn(t:List (List Nat))(p q:Nat×Fp)(r:List (Option Unit)):List (Option Unit):=
 match p.2.lq with
 |none=>r
 |some x=>match q.2.hw with
  |false=>r
  |true=>match wG t p.1 q.1 with
   |true=>r
   |false=>xG x q.2.gb q.2.ga::r
noncomputable def XP(t:List (List Nat))(p:Nat×Fp):List (Nat×Fp)->List (Option Unit)->List (Option Unit)
 |[],r=>r
 |q::l,r=>Yn t p q (XP t p l r)
noncomputable def Wb(t:List (List Nat))(acc:List (Nat×Fp)):List (Nat×Fp)->List (Option Unit)
 |[]=>[]
 |p::l=>XP t p acc (Wb t acc l)
noncomputable def KE(ops:Array Oper)(acc:List (Nat×Fp)):List (Option Unit):=Wb (qY ops.toList []) acc acc
def Jy{R:Type}:List (Option Unit)->Option R->Option R
 |[],X=>X
 |o::l,X=>o.bind fun _=>Jy l X
def zN(b:Boxes):List Nat->Boxes
 |[]=>[]
 |k::r=>match qL b k with
  |some (g,cs)=>(k,g,cs)::zN b r
  |none=>zN b r
def kM(b:Boxes)(s:SV):SV:=
 match s with
 | .lp k g o=>match qL b k with
  |some _=>.lp k g o
  |none=>.un
 |s=>s
def yc(b:Boxes)(l:Slots):List Nat->Slots
 |[]=>[]
 |k::r=>match kM b (qm l k)with
  | .un=>yc b l r
  |s=>(k,s)::yc b l r
def mask(m:Option (List Nat))(st:St):St:=
 match m with
 |none=>st
 |some live=>⟨yc (zN st.bx live) st.sl live,zN st.bx live,st.hp⟩
def vO(id:Nat):List It->Option (List It)
 |[]=>none
 | .inBlock j::k=>if j=id then some k else vO id k
 |_::k=>vO id k
def kC{R:Type}(st:St)(tt:TypeId->Option TI)(r:ResultVar)(K:AV->Option R):Option R:=
 match r with
 | .tmp t=>(wY (qm st.sl t)).bind K
 | .cell a ty=>match tt ty with
  |some ti=>match qm st.sl a with
   | .lp k g off=>match qL st.bx k with
    |some (g',cs)=>if g=g' then
     (if zA ti.k then(jN cs off ti.size).bind fun l=>K (.agg l)else(KV cs off).bind K)
     else none
    |none=>none
   |_=>none
  |none=>none
def jI{R:Type}(st:St)(tt:TypeId->Option TI)(K:List AV->Option R):List ResultVar->Option R
 |[]=>K []
 |r::l=>kC st tt r fun x=>jI st tt (fun xs=>K (x::xs)) l
def yA(st:St):ResultVar->Nat×Nat
 | .tmp t=>(0,t)
 | .cell a _=>match qm st.sl a with
  | .lp k _ _=>(1,k)
  |_=>(2,0)
def Jg(k:Nat×Nat):List (Nat×Nat)->Bool
 |[]=>true
 |j::r=>match Nat.beq j.1 k.1&&Nat.beq j.2 k.2 with|true=>false|false=>Jg k r
def jC:List (Nat×Nat)->Bool
 |[]=>true
 |k::r=>match Jg k r with|true=>jC r|false=>false
def wZ(c:Cx)(f:FuncId)(st:St):Option (AV×Hp):=
 match c.F f with
 |some fn=>cond (jC (fn.results.toList.map (yA st))) (jI st c.tn (fun l=>match l with
  |[x]=>some (x,st.hp)
  |l=>some (.tup l,st.hp)) fn.results.toList) none
 |none=>none
def zP{R:Type}(c:Cx):Nat->List TypeId->List AV->(Slots->Option R)->Option R
 |_,[],[],K=>K []
 |i,[],x::xs,K=>zP c (i+1) [] xs fun l=>K ((i,.av x)::l)
 |_,_::_,[],_=>none
 |i,t::ts,x::xs,K=>match c.tn t with
  |some ti=>if wP ti.k then(yw x).bind fun v=>zP c (i+1) ts xs fun l=>K ((i,.sv v)::l)else zP c (i+1) ts xs fun l=>K ((i,.av x)::l)
  |none=>none
def after(h:Nat)(o:Oper)(st:St)(s:SV)(b:BE)(hp:Hp):St:=
 ⟨jL (qn h o st.sl) o.dst s,(match b with|some (k,g,cs)=>ko st.bx k g cs|none=>st.bx),hp⟩
def zI(o:Oper)(ops:Array Oper):Option (Option (Nat×Bool)):=
 match o.guard with
 |none=>some none
 |some (j,want)=>match ops[j]? with
  |some oj=>match oj.dst with
   |some d=>some (some (d,want))
   |none=>none
  |none=>none
def Jb(d:Bool)(i:Nat)(p:Fp)(acc:List (Nat×Fp)):List (Nat×Fp):=if d then(i,p)::acc else acc
theorem js{R:Type}:∀{l:List (Option Unit)} {X:Option R} {r:R},Jy l X=some r->(∀o∈l,o=some ())/\X=some r
 |[],X,r,h=>⟨qe,h⟩
 |o::l,X,r,h=>by
  obtain⟨u,hu,h⟩:=bsm h
  obtain⟨h1,h2⟩:=js h
  refine⟨fun o' ho=>?_,h2⟩
  rcases qb3.mp ho with rfl|ho
  ·exact hu
  ·exact h1 o' ho
theorem vf{R:Type}:∀{l:List (Option Unit)} {X:Option R} {r:R},(∀o∈l,o=some ())->X=some r->Jy l X=some r
 |[],X,r,_,h=>h
 |o::l,X,r,h1,h=>by
  show o.bind _=_
  rw[h1 o qe]
  exact vf (fun o ho=>h1 o (by simp[ho])) h
theorem Zx{q:AV×Nat}{g g':Nat->Option (Nat×List AV)}(h:xG q g g'=some ()):zz q g=zz q g':=by
 unfold xG at h
 split at h
 ·assumption
 ·cases h
theorem QW{t:List (List Nat)}{p q:Nat×Fp}{x:AV×Nat}(hx:p.2.lq=some x)(hw:q.2.hw=true)(ho:wG t p.1 q.1=false):
 ∀{l:List (Nat×Fp)} {r:List (Option Unit)},q∈l->xG x q.2.gb q.2.ga∈XP t p l r
 |q'::l,r,hq=>by
  show _∈Yn t p q' (XP t p l r)
  rcases qb3.mp hq with rfl|hq
  ·simp only[Yn,hx,hw,ho]
   exact List.mem_cons_self ..
  ·have ih:=QW hx hw ho (r:=r) hq
   unfold Yn
   split
   ·exact ih
   ·split
    ·exact ih
    ·split
     ·exact ih
     ·exact List.mem_cons_of_mem _ ih
theorem Ym{t:List (List Nat)}{p q:Nat×Fp}{r:List (Option Unit)}{o:Option Unit}(h:o∈r):o∈Yn t p q r:=by
 unfold Yn
 split
 ·exact h
 ·split
  ·exact h
  ·split
   ·exact h
   ·exact List.mem_cons_of_mem _ h
theorem wa{t:List (List Nat)}{p:Nat×Fp}{o:Option Unit}:∀{l:List (Nat×Fp)} {r:List (Option Unit)},o∈r->o∈XP t p l r
 |[],r,h=>h
 |q::l,r,h=>Ym (wa h)
theorem QV{t:List (List Nat)}{acc:List (Nat×Fp)}{p q:Nat×Fp}{x:AV×Nat}(hx:p.2.lq=some x)(hw:q.2.hw=true)(ho:wG t p.1 q.1=false)(hq:q∈acc):
 ∀{l:List (Nat×Fp)},p∈l->xG x q.2.gb q.2.ga∈Wb t acc l
 |p'::l,hp=>by
  rcases qb3.mp hp with rfl|hp
  ·exact QW hx hw ho hq
  ·exact wa (QV hx hw ho hq hp)
theorem vP{ops:Array Oper}{acc:List (Nat×Fp)}(h:∀o∈KE ops acc,o=some ()){p q:Nat×Fp}(hp:p∈acc)(hq:q∈acc){x:AV×Nat}(hx:p.2.lq=some x)(hw:q.2.hw=true):
 wG (qY ops.toList []) p.1 q.1=true\/zz x q.2.gb=zz x q.2.ga:=by
 cases ho:wG (qY ops.toList []) p.1 q.1 with
 |true=>exact .inl rfl
 |false=>exact .inr (Zx (h _ (QV hx hw ho hq hp)))
abbrev GoT:=List It->St->Option (AV×Hp)
def xd(c:Cx)(C:Orc)(G:GoT)(r:Nat)(ops:Array Oper)(is:List Nat)(d:Bool)(acc:List (Nat×Fp))(k:List It)(h i:Nat)(o:Oper)(st:St):Option (AV×Hp):=
 qi c C h o (qG st.sl) (qL st.bx) st.hp fun s b hp=>G (.ops r ops is d (Jb d i (VW c.tn h ops o st.sl st.hp hp) acc)::k) (after h o st s b hp)
def Qi(G:GoT)(r:Nat)(ops:Array Oper)(is:List Nat)(d:Bool)(acc:List (Nat×Fp))(k:List It)(i:Nat)(o:Oper)(st:St):Option (AV×Hp):=
 G (.ops r ops is d (Jb d i (xw ops o) acc)::k) ⟨jL st.sl o.dst .ud,st.bx,st.hp⟩
def JI(st:St)(g:Nat)(b:Bool):St:=⟨(g,.sv (.bool b))::st.sl,st.bx,st.hp⟩
def KK(c:Cx)(C:Orc)(G:GoT)(r:Nat)(ops:Array Oper)(is:List Nat)(d:Bool)(acc:List (Nat×Fp))(k:List It)(h i:Nat)(o:Oper)(st:St):Option (AV×Hp):=
 match zI o ops with
 |none=>none
 |some none=>xd c C G r ops is d acc k h i o st
 |some (some (g,want))=>match qm st.sl g with
  | .ud=>Qi G r ops is d acc k i o st
  | .sv v=>(YE v).bind fun t=>match want with
   |true=>cond t (xd c C G r ops is d acc k h i o (JI st g true)) (Qi G r ops is d acc k i o (JI st g false))
   |false=>cond t (Qi G r ops is d acc k i o (JI st g true)) (xd c C G r ops is d acc k h i o (JI st g false))
  |_=>none
noncomputable def zj(c:Cx)(C:Orc)(G:GoT)(f:FuncId)(its:List It)(st:St):Option (AV×Hp):=
 match its with
 |[]=>wZ c f st
 | .inBlock _::k=>G k st
 | .inLoop b::k=>G (.code b::.inLoop b::k) st
 | .inScope _::k=>G k st
 | .code (.scope b)::k=>G (.code b::.inScope b::k) st
 | .code .skip::k=>G k st
 | .code (.label _)::k=>G k st
 | .code .ret::_=>wZ c f st
 | .code (.seq a b)::k=>G (.code a::.code b::k) st
 | .code (.block id b)::k=>G (.code b::.inBlock id::k) st
 | .code (.loop b)::k=>G (.inLoop b::k) st
 | .code (.exit id)::k=>(vO id k).bind fun k'=>G k' st
 | .code (.cond x a b)::k=>(zY (qG st.sl x)).bind fun v=>(YE v).bind fun t=>cond t (G (.code a::k) st) (G (.code b::k) st)
 | .code (.region r ops d)::k=>G (.ops r ops (List.range ops.size) d []::k) (mask (c.M f r) st)
 | .ops r ops [] d acc::k=>cond (!d||xx ops acc) (Jy (KE ops acc) (G k st)) none
 | .ops r ops (i::is) d acc::k=>(ops[i]?).bind fun o=>KK c C G r ops is d acc k (c.H f r i) i o st
 |_=>none
noncomputable def yf(c:Cx)(C:Orc)(f:FuncId):Nat->List It->St->Option (AV×Hp)
 |0=>fun _ _=>none
 |n+1=>zj c C (yf c C f n) f
def zu{R:Type}(c:Cx)(f:FuncId)(xs:List AV)(hp:Hp)(K:List It->St->Option R):Option R:=
 match c.F f with
 |some fn=>match fn.body with
  |some b=>zP c 0 fn.params.toList xs fun l=>K [.code b] ⟨l,[],hp⟩
  |none=>none
 |none=>none
noncomputable def ze(c:Cx):Nat->Orc
 |0=>fun _ _ _=>none
 |n+1=>fun f xs hp=>zu c f xs hp (yf c (ze c n) f n)
def Le{α:Type}(a b:Option α):Prop:=∀r,a=some r->b=some r
theorem Le.refl{α:Type}(a:Option α):Le a a:=fun _ h=>h
theorem Le.trans{α:Type}{a b c:Option α}(h:Le a b)(h':Le b c):Le a c:=fun r hr=>h' r (h r hr)
abbrev k3:Kt (SV×BE×Hp):=fun s b hp=>some (s,b,hp)
section nat
variable {R:Type}
theorem qp(ti:TI)(h:Nat)(cs:List AV)(off:Nat)(K:SV->List AV->Option R):
 zb ti h cs off K=(zb ti h cs off fun s c=>some (s,c)).bind fun p=>K p.1 p.2:=by
 unfold zb
 repeat' split
 all_goals simp[qbl]
theorem qZ(ti:TI)(r:AV)(K:SV->Option R):vr ti r K=(vr ti r some).bind K:=by
 unfold vr
 repeat' split
 all_goals simp[qbl]
theorem zO(h:Nat)(ti:TI)(a:SV)(gb:Nat->Option (Nat×List AV))(hp:Hp)(K:Kt R):
 qR h ti a gb hp K=(qR h ti a gb hp k3).bind fun p=>K p.1 p.2.1 p.2.2:=by
 unfold qR
 repeat' split
 all_goals first
  |(rw[qp];conv=>rhs;rw[qp]
    simp[qbl])
  |(simp only[qbl];congr 1;funext p;congr 1;funext cs;rw[qp];conv=>rhs;rw[qp]
    simp[qbl])
  |simp
theorem wv(ti:TI)(a x:SV)(gb:Nat->Option (Nat×List AV))(hp:Hp)(K:Kt R):
 zM ti a x gb hp K=(zM ti a x gb hp k3).bind fun p=>K p.1 p.2.1 p.2.2:=by
 unfold zM
 simp only[qbl]
 congr 1;funext vs
 repeat' split
 all_goals simp[qbl]
theorem jo(c:Cx)(ti:TI)(a:SV)(f:Nat)(K:SV->Option R):zo c ti a f K=(zo c ti a f some).bind K:=by
 unfold zo
 repeat' split
 all_goals simp[qbl]
theorem jj(c:Cx)(h:Nat)(ti:TI)(a i:SV)(K:SV->Option R):zn c h ti a i K=(zn c h ti a i some).bind K:=by
 unfold zn
 repeat' split
 all_goals simp[qbl]
theorem yE(c:Cx)(h:Nat)(ti:TI)(t:TypeId)(a:SV)(lo hi mx:Option Value)(K:SV->Option R):
 yF c h ti t a lo hi mx K=(yF c h ti t a lo hi mx some).bind K:=by
 unfold yF
 repeat' split
 all_goals simp[qbl]
theorem xy(c:Cx)(s d:TypeId)(si di:TI)(a:SV)(K:SV->Option R):vb c s d si di a K=(vb c s d si di a some).bind K:=by
 unfold vb
 repeat' split
 all_goals simp[qbl]
theorem vh(c:Cx)(op:BinOp)(t:TypeId)(x y:Operand)(a b:SV)(K:SV->Option R):ZX c op t x y a b K=(ZX c op t x y a b some).bind K:=by
 unfold ZX
 repeat' split
 all_goals simp[qbl]
theorem xp(c a b:SV)(K:SV->Option R):kG c a b K=(kG c a b some).bind K:=by
 unfold kG
 simp only[qbl]
 congr 1;funext v;congr 1;funext t
 repeat' split
 all_goals first|simp|(cases t<;>simp)
theorem ve(c:Cx)(h:Nat)(o:Oper)(b:Builtin)(ts:List TypeId)(as_:List SV)(hp:Hp)(K:SV->Hp->Option R):vH c h o b ts as_ hp K=(vH c h o b ts as_ hp fun s q=>some (s,q)).bind fun p=>K p.1 p.2:=by
 unfold vH
 repeat' split
 all_goals first
  |(simp[qbl];done)
  |(simp only[qbl];congr 1;funext d;congr 1;funext s
    split<;>simp[qbl])
theorem vV(ok:Bool)(ei:TI)(f:Option AV)(K:SV->Option R):ZL ok ei f K=(Jl ok ei f).bind K:=by
 cases ok
 ·unfold ZL Jl ofAK ofA
  dsimp only
  split<;>simp[qbl]
 ·rfl
theorem jw(c:Cx)(t:TypeId)(x i:SV)(ok:Bool)(hp:Hp)(K:SV->Option R):zV c t x i ok hp K=(zV c t x i ok hp some).bind K:=by
 unfold zV
 simp only[vV]
 repeat' split
 all_goals simp[qbl]
theorem yd(c:Cx)(t:TypeId)(m k x:SV)(hp:Hp)(K:Hp->Option R):yj c t m k x hp K=(yj c t m k x hp some).bind K:=by
 unfold yj
 repeat' split
 all_goals simp[qbl]
theorem jx(k:TK)(hp:Hp)(s:SV)(K:SV->Hp->Option R):Yj k hp s K=(ZS k hp s).bind fun p=>K p.1 p.2:=by
 unfold Yj ZS
 split
 ·split<;>simp[qbl]
 ·simp only[qbp]
theorem wg(c:Cx)(C:Orc)(h:Nat)(ti:TI)(f:FuncId)(caps:List AV)(as_:List SV)(hp:Hp)(K:Kt R):
 qW c C h ti f caps as_ hp K=(qW c C h ti f caps as_ hp k3).bind fun p=>K p.1 p.2.1 p.2.2:=by
 unfold qW
 simp only[qbl]
 congr 1;funext xs
 split
 ·simp only[qbl]
  congr 1;funext p
  rw[qZ];conv=>rhs;rw[qZ]
  simp[qbl]
 ·split
  ·simp only[qbl]
   congr 1;funext p
   rw[qZ];conv=>rhs;rw[qZ]
   simp[qbl]
  ·simp only[qbl]
   congr 1;funext u;congr 1;funext p;congr 1;funext u
   rw[qZ];conv=>rhs;rw[qZ]
   simp[qbl]
theorem zh(zq:Nat->Option (Nat×Nat))(ev:Operand->SV)(K:List AV->Option R):∀(l:List (Nat×Operand)) (cs:List AV),
 zy zq ev K l cs=(zy zq ev some l cs).bind K
 |[],cs=>rfl
 |(i,x)::r,cs=>by
  unfold zy
  split
  ·rfl
  ·simp only[qbl]
   congr 1;funext vs;congr 1;funext cs'
   exact zh zq ev K r cs'
theorem jD(c:Cx)(C:Orc)(h:Nat)(o:Oper)(ev:Operand->SV)(gb:Nat->Option (Nat×List AV))(hp:Hp)(K:Kt R):
 qi c C h o ev gb hp K=(qi c C h o ev gb hp k3).bind fun p=>K p.1 p.2.1 p.2.2:=by
 unfold qi
 repeat' split
 all_goals first
  |rfl
  |(simp[qbl];done)
  |exact zO _ _ _ _ _ _
  |exact wv _ _ _ _ _ _
  |exact wg _ _ _ _ _ _ _ _ _
  |(rw[zh];conv=>rhs;rw[zh]
    simp[qbl];done)
  |(rw[xp];conv=>rhs;rw[xp]
    simp[qbl];done)
  |(rw[vh];conv=>rhs;rw[vh]
    simp[qbl];done)
  |(rw[xy];conv=>rhs;rw[xy]
    simp[qbl];done)
  |(rw[jo];conv=>rhs;rw[jo]
    simp[qbl];done)
  |(rw[jj];conv=>rhs;rw[jj]
    simp[qbl];done)
  |(rw[ve];conv=>rhs;rw[ve]
    simp[qbl];done)
  |(rw[jw];conv=>rhs;rw[jw]
    simp[qbl];done)
  |(rw[yd];conv=>rhs;rw[yd]
    simp[qbl];done)
  |(simp only[jx];rw[zO];conv=>rhs;rw[zO]
    simp[qbl];done)
  |(simp only[jx];simp[qbl];done)
  |(simp only[qbl];congr 1;funext cs;rw[qp];conv=>rhs;rw[qp]
    simp[qbl];done)
  |(simp only[qbl];congr 1;funext cs;congr 1;funext iv;congr 1;funext j;rw[qp];conv=>rhs;rw[qp]
    simp[qbl];done)
  |(simp only[qbl];congr 1;funext l;congr 1;funext u;congr 1;funext m;rw[yE];conv=>rhs;rw[yE]
    simp[qbl];done)
  |(simp only[qbl];congr 1;funext p;exact wg _ _ _ _ _ _ _ _ _)
  |(simp only[qbl];congr 1;funext l;congr 1;funext u;congr 1;funext m;congr 1;funext q;repeat' split
    all_goals simp)
  |(simp only[qbl];congr 1;funext l;repeat' split
    all_goals first
     |rfl
     |(simp[qbl];done))
end nat
def Kj(C C':Orc):Prop:=∀f xs hp,Le (C f xs hp) (C' f xs hp)
theorem Le.bind{α β:Type}{a b:Option α}{f g:α->Option β}(h:Le a b)(hf:∀x,Le (f x) (g x)):Le (a.bind f) (b.bind g):=by
 intro r hr
 cases a with
 |none=>simp at hr
 |some x=>rw[h x rfl];exact hf x r hr
theorem Le.cond{α:Type}{a b a' b':Option α}{t:Bool}(h:Le a a')(h':Le b b'):Le (cond t a b) (cond t a' b'):=by cases t<;>assumption
theorem vc(c:Cx){C C':Orc}(hC:Kj C C')(h:Nat)(ti:TI)(f:FuncId)(caps:List AV)(as_:List SV)(hp:Hp):
 Le (qW c C h ti f caps as_ hp k3) (qW c C' h ti f caps as_ hp k3):=by
 unfold qW
 refine Le.bind (Le.refl _) fun xs=>?_
 split
 ·exact Le.bind (hC _ _ _) fun p=>Le.refl _
 ·split
  ·exact Le.bind (hC _ _ _) fun p=>Le.refl _
  ·exact Le.bind (Le.refl _) fun _=>Le.bind (hC _ _ _) fun p=>Le.refl _
theorem va(c:Cx){C C':Orc}(hC:Kj C C')(h:Nat)(o:Oper)(ev:Operand->SV)(gb:Nat->Option (Nat×List AV))(hp:Hp):
 Le (qi c C h o ev gb hp k3) (qi c C' h o ev gb hp k3):=by
 unfold qi
 repeat' split
 all_goals first
  |exact Le.refl _
  |exact vc c hC _ _ _ _ _ _
  |exact Le.bind (Le.refl _) fun p=>vc c hC _ _ _ _ _ _
noncomputable def lim{α:Type}(s:Nat->Option α):Option α:=
 open Classical in if h:∃n r,s n=some r then s h.choose else none
theorem QP{α:Type}{s:Nat->Option α}(hs:∀n,Le (s n) (s (n+1)))(r:α):lim s=some r↔∃n,s n=some r:=by
 have up:∀n m,Le (s n) (s (n+m)):=by
  intro n m
  induction m with
  |zero=>exact Le.refl _
  |succ m ih=>exact ih.trans (hs (n+m))
 constructor
 ·intro h
  unfold lim at h
  split at h
  ·exact⟨_,h⟩
  ·cases h
 ·rintro⟨n,hn⟩
  unfold lim
  have h:∃n r,s n=some r:=⟨n,r,hn⟩
  rw[dif_pos h]
  obtain⟨r',hr'⟩:=h.choose_spec
  have a:=up n h.choose r hn
  have b:=up h.choose n r' hr'
  rw[Nat.add_comm]at b
  rw[a]at b
  cases b
  exact hr'
theorem Le.ite{α:Type}{p:Prop}[Decidable p]{a b a' b':Option α}(h:Le a a')(h':Le b b'):Le (if p then a else b) (if p then a' else b'):=by
 split<;>assumption
def WQ(G G':List It->St->Option (AV×Hp)):Prop:=∀its st,Le (G its st) (G' its st)
theorem Yk(c:Cx){C C':Orc}(hC:Kj C C'){G G':List It->St->Option (AV×Hp)}(hG:WQ G G')(h:Nat)(o:Oper)(ev:Operand->SV)
 (gb:Nat->Option (Nat×List AV)) (hp:Hp) (its:SV->BE->Hp->List It) (sts:SV->BE->Hp->St):
 Le (qi c C h o ev gb hp fun s b q=>G (its s b q) (sts s b q)) (qi c C' h o ev gb hp fun s b q=>G' (its s b q) (sts s b q)):=by
 rw[jD (K:=fun s b q=>G (its s b q) (sts s b q)),jD (K:=fun s b q=>G' (its s b q) (sts s b q))]
 exact Le.bind (va c hC _ _ _ _ _) fun p=>hG _ _
theorem yJ(c:Cx){C C':Orc}(hC:Kj C C'){G G':GoT}(hG:WQ G G')(r:Nat)(ops:Array Oper)(is:List Nat)(d:Bool)(acc:List (Nat×Fp))(k:List It)(h i:Nat)(o:Oper)(st:St):
 Le (xd c C G r ops is d acc k h i o st) (xd c C' G' r ops is d acc k h i o st):=Yk c hC hG _ _ _ _ _ _ _
theorem Xk(c:Cx){C C':Orc}(hC:Kj C C'){G G':GoT}(hG:WQ G G')(r:Nat)(ops:Array Oper)(is:List Nat)(d:Bool)(acc:List (Nat×Fp))(k:List It)(h i:Nat)(o:Oper)(st:St):
 Le (KK c C G r ops is d acc k h i o st) (KK c C' G' r ops is d acc k h i o st):=by
 unfold KK
 split
 ·exact Le.refl _
 ·exact yJ c hC hG _ _ _ _ _ _ _ _ _ _
 ·split
  ·exact hG _ _
  ·refine Le.bind (Le.refl _) fun t=>?_
   split
   ·exact Le.cond (yJ c hC hG _ _ _ _ _ _ _ _ _ _) (hG _ _)
   ·exact Le.cond (hG _ _) (yJ c hC hG _ _ _ _ _ _ _ _ _ _)
  ·exact Le.refl _
theorem jE(c:Cx){C C':Orc}(hC:Kj C C'){G G':GoT}(hG:WQ G G')(f:FuncId)(its:List It)(st:St):
 Le (zj c C G f its st) (zj c C' G' f its st):=by
 unfold zj
 split
 all_goals first
  |exact Le.refl _
  |exact hG _ _
  |exact Le.bind (Le.refl _) fun v=>Le.bind (Le.refl _) fun t=>Le.cond (hG _ _) (hG _ _)
  |exact Le.bind (Le.refl _) fun v=>hG _ _
  |exact Le.cond (fun r h=>vf (js h).1 (hG _ _ r (js h).2)) (Le.refl _)
  |exact Le.bind (Le.refl _) fun v=>Xk c hC hG _ _ _ _ _ _ _ _ _ _
theorem xa(c:Cx){C C':Orc}(hC:Kj C C')(f:FuncId):∀n its st,Le (yf c C f n its st) (yf c C' f n its st)
 |0,_,_=>Le.refl _
 |n+1,its,st=>jE c hC (fun its st=>xa c hC f n its st) f its st
theorem yZ(c:Cx)(C:Orc)(f:FuncId):∀n its st,Le (yf c C f n its st) (yf c C f (n+1) its st)
 |0,_,_=>fun r h=>by simp[yf]at h
 |n+1,its,st=>jE c (fun f xs hp=>Le.refl _) (fun its st=>yZ c C f n its st) f its st
theorem jM{R:Type}(c:Cx):∀(i:Nat) (ts:List TypeId) (xs:List AV) (K K':Slots->Option R),(∀l,Le (K l) (K' l))->Le (zP c i ts xs K) (zP c i ts xs K')
 |_,[],[],_,_,h=>h _
 |i,[],_::xs,_,_,h=>jM c (i+1) [] xs _ _ fun l=>h _
 |_,_::_,[],_,_,_=>Le.refl _
 |i,t::ts,x::xs,_,_,h=>by
  unfold zP
  split
  ·split
   ·exact Le.bind (Le.refl _) fun v=>jM c (i+1) ts xs _ _ fun l=>h _
   ·exact jM c (i+1) ts xs _ _ fun l=>h _
  ·exact Le.refl _
theorem xF{R:Type}(c:Cx)(f:FuncId)(xs:List AV)(hp:Hp){K K':List It->St->Option R}(h:∀its st,Le (K its st) (K' its st)):
 Le (zu c f xs hp K) (zu c f xs hp K'):=by
 unfold zu
 repeat' split
 all_goals first
  |exact Le.refl _
  |exact jM c _ _ _ _ _ (fun l=>h _ _)
theorem ja(c:Cx):∀n,Kj (ze c n) (ze c (n+1))
 |0=>fun f xs hp r h=>by simp[ze]at h
 |n+1=>fun f xs hp=>by
  show Le (zu c f xs hp (yf c (ze c n) f n)) (zu c f xs hp (yf c (ze c (n+1)) f (n+1)))
  exact xF c f xs hp fun its st=>(xa c (ja c n) f n its st).trans (yZ c _ f n its st)
noncomputable def run(c:Cx):Orc:=fun f xs hp=>lim fun n=>ze c n f xs hp
noncomputable def go(c:Cx)(f:FuncId)(its:List It)(st:St):Option (AV×Hp):=lim fun n=>yf c (ze c n) f n its st
theorem jc{c:Cx}{f:FuncId}{xs:List AV}{hp:Hp}{r:AV×Hp}:run c f xs hp=some r↔∃n,ze c n f xs hp=some r:=
 QP (fun n=>ja c n f xs hp) r
theorem Vq(c:Cx)(f:FuncId)(its:List It)(st:St)(n:Nat):Le (yf c (ze c n) f n its st) (yf c (ze c (n+1)) f (n+1) its st):=
 (xa c (ja c n) f n its st).trans (yZ c _ f n its st)
theorem zc{c:Cx}{f:FuncId}{its:List It}{st:St}{r:AV×Hp}:go c f its st=some r↔∃n,yf c (ze c n) f n its st=some r:=
 QP (Vq c f its st) r
theorem Kz(c:Cx){n m:Nat}(h:n<=m):Kj (ze c n) (ze c m):=by
 obtain⟨d,rfl⟩:=Nat.exists_eq_add_of_le h
 intro f xs hp
 induction d with
 |zero=>exact Le.refl _
 |succ d ih=>exact(ih qc).trans (ja c (n+d) f xs hp)
theorem VU(c:Cx)(f:FuncId){n m:Nat}(h:n<=m):WQ (yf c (ze c n) f n) (yf c (ze c m) f m):=by
 obtain⟨d,rfl⟩:=Nat.exists_eq_add_of_le h
 intro its st
 induction d with
 |zero=>exact Le.refl _
 |succ d ih=>exact(ih qc).trans (Vq c f its st (n+d))
theorem zE{α β:Type}{o:Option α}{f:α->Option β}{fs:Nat->α->Option β}(h:∀x r,f x=some r->∃n,fs n x=some r){r:β}
 (hr:o.bind f=some r):∃n,o.bind (fs n)=some r:=by
 cases o with
 |none=>simp at hr
 |some x=>exact h x r hr
theorem vd(c:Cx)(h:Nat)(ti:TI)(f:FuncId)(caps:List AV)(as_:List SV)(hp:Hp){r:SV×BE×Hp}
 (hr:qW c (run c) h ti f caps as_ hp k3=some r):∃n,qW c (ze c n) h ti f caps as_ hp k3=some r:=by
 unfold qW at hr⊢
 refine zE (fun xs r hr=>?_) hr
 by_cases e:h=2
 ·simp only[if_pos e]at hr⊢
  obtain⟨p,hp',hr⟩:=bsm hr
  obtain⟨n,hn⟩:=jc.mp hp'
  exact⟨n,by rw[hn];exact hr⟩
 ·simp only[if_neg e]at hr⊢
  by_cases e4:h=4
  ·simp only[if_pos e4]at hr⊢
   obtain⟨p,hp',hr⟩:=bsm hr
   obtain⟨n,hn⟩:=jc.mp hp'
   exact⟨n,by rw[hn];exact hr⟩
  ·simp only[if_neg e4]at hr⊢
   obtain⟨u,hu,hr⟩:=bsm hr
   obtain⟨p,hp',hr⟩:=bsm hr
   obtain⟨n,hn⟩:=jc.mp hp'
   exact⟨n,by rw[hu];simp only[qbp];rw[hn];exact hr⟩
theorem ZV(c:Cx)(h:Nat)(o:Oper)(ev:Operand->SV)(gb:Nat->Option (Nat×List AV))(hp:Hp){r:SV×BE×Hp}
 (hr:qi c (run c) h o ev gb hp k3=some r):∃n,qi c (ze c n) h o ev gb hp k3=some r:=by
 revert hr
 unfold qi
 split
 all_goals try exact fun hr=>⟨0,hr⟩
 repeat' split
 all_goals intro hr
 all_goals first
  |exact⟨0,hr⟩
  |exact vd c _ _ _ _ _ hp hr
  |exact zE (fun p r hr=>vd c _ _ _ _ _ hp hr) hr
theorem Yl(c:Cx)(f:FuncId)(h:Nat)(o:Oper)(ev:Operand->SV)
 (gb:Nat->Option (Nat×List AV)) (hp:Hp) (its:SV->BE->Hp->List It) (sts:SV->BE->Hp->St) {r:AV×Hp}
 (hr:(qi c (run c) h o ev gb hp fun s b q=>go c f (its s b q) (sts s b q))=some r):
 ∃n,(qi c (ze c n) h o ev gb hp fun s b q=>yf c (ze c n) f n (its s b q) (sts s b q))=some r:=by
 rw[jD]at hr
 obtain⟨p,h1,h2⟩:=bsm hr
 obtain⟨n,hn⟩:=ZV c h o ev gb hp h1
 obtain⟨m,hm⟩:=zc.mp h2
 refine⟨max n m,?_⟩
 rw[jD]
 rw[va c (Kz c (Nat.le_max_left n m)) h o ev gb hp p hn]
 exact VU c f (Nat.le_max_right n m) _ _ r hm
theorem yK(c:Cx)(f:FuncId)(r:Nat)(ops:Array Oper)(is:List Nat)(d:Bool)(acc:List (Nat×Fp))(k:List It)(h i:Nat)(o:Oper)(st:St){q:AV×Hp}
 (hr:xd c (run c) (go c f) r ops is d acc k h i o st=some q):∃n,xd c (ze c n) (yf c (ze c n) f n) r ops is d acc k h i o st=some q:=
 Yl c f h o (qG st.sl) (qL st.bx) st.hp (fun s b hp=>.ops r ops is d (Jb d i (VW c.tn h ops o st.sl st.hp hp) acc)::k) (fun s b hp=>after h o st s b hp) hr
theorem Xl(c:Cx)(f:FuncId)(r:Nat)(ops:Array Oper)(is:List Nat)(d:Bool)(acc:List (Nat×Fp))(k:List It)(h i:Nat)(o:Oper)(st:St){q:AV×Hp}
 (hr:KK c (run c) (go c f) r ops is d acc k h i o st=some q):∃n,KK c (ze c n) (yf c (ze c n) f n) r ops is d acc k h i o st=some q:=by
 revert hr
 unfold KK
 split
 ·intro hr;cases hr
 ·intro hr;exact yK c f _ _ _ _ _ _ _ _ _ _ hr
 ·split
  ·intro hr;exact zc.mp hr
  ·intro hr
   refine zE (fun t r hr=>?_) hr
   revert hr
   split
   ·intro hr
    cases t
    ·exact zc.mp hr
    ·exact yK c f _ _ _ _ _ _ _ _ _ _ hr
   ·intro hr
    cases t
    ·exact yK c f _ _ _ _ _ _ _ _ _ _ hr
    ·exact zc.mp hr
  ·intro hr;cases hr
theorem Zv(c:Cx)(f:FuncId)(its:List It)(st:St){r:AV×Hp}(hr:zj c (run c) (go c f) f its st=some r):
 ∃n,zj c (ze c n) (yf c (ze c n) f n) f its st=some r:=by
 unfold zj at hr⊢
 split at hr
 all_goals first
  |exact⟨0,hr⟩
  |exact zc.mp hr
  |exact zE (fun v r hr=>zc.mp hr) hr
  |exact zE (fun v r hr=>Xl c f _ _ _ _ _ _ _ _ _ _ hr) hr
  |skip
 ·refine zE (fun v r hr=>zE (fun t r hr=>?_) hr) hr
  cases t
  ·exact zc.mp hr
  ·exact zc.mp hr
 ·rename_i d acc k
  generalize(!d||xx _ acc)=t at hr⊢
  cases t
  ·cases hr
  ·obtain⟨h1,h2⟩:=js hr
   obtain⟨n,hn⟩:=zc.mp h2
   exact⟨n,vf h1 hn⟩
theorem Jp(c:Cx)(f:FuncId)(its:List It)(st:St):go c f its st=zj c (run c) (go c f) f its st:=by
 apply Option.ext
 intro r
 constructor
 ·intro h
  obtain⟨n,hn⟩:=zc.mp h
  cases n with
  |zero=>simp[yf]at hn
  |succ n=>
   have hC:Kj (ze c (n+1)) (run c):=fun f xs hp r hr=>jc.mpr ⟨n+1,hr⟩
   have hG:WQ (yf c (ze c (n+1)) f n) (go c f):=fun its st r hr=>zc.mpr ⟨n+1,yZ c _ f n its st r hr⟩
   exact jE c hC hG f its st r hn
 ·intro h
  obtain⟨n,hn⟩:=Zv c f its st h
  refine zc.mpr ⟨n+1,?_⟩
  exact jE c (ja c n) (fun its st=>xa c (ja c n) f n its st) f its st r hn
theorem qP{R:Type}(c:Cx):∀(i:Nat) (ts:List TypeId) (xs:List AV) (K:Slots->Option R),zP c i ts xs K=(zP c i ts xs some).bind K
 |_,[],[],_=>rfl
 |i,[],x::xs,K=>by
  simp only[zP]
  rw[qP c (i+1) [] xs]
  conv=>rhs;rw[qP c (i+1) [] xs]
  simp[qbl]
 |_,_::_,[],_=>rfl
 |i,t::ts,x::xs,K=>by
  simp only[zP]
  split
  ·split
   ·simp only[qbl]
    congr 1;funext v
    rw[qP c (i+1) ts xs]
    conv=>rhs;rw[qP c (i+1) ts xs]
    simp[qbl]
   ·rw[qP c (i+1) ts xs]
    conv=>rhs;rw[qP c (i+1) ts xs]
    simp[qbl]
  ·rfl
theorem VJ(c:Cx)(f:FuncId)(xs:List AV)(hp:Hp):run c f xs hp=zu c f xs hp (go c f):=by
 apply Option.ext
 intro r
 constructor
 ·intro h
  obtain⟨n,hn⟩:=jc.mp h
  cases n with
  |zero=>simp[ze]at hn
  |succ n=>exact xF c f xs hp (fun its st r hr=>zc.mpr ⟨n,hr⟩) r hn
 ·intro h
  have key:∃n,zu c f xs hp (yf c (ze c n) f n)=some r:=by
   revert h
   unfold zu
   split
   ·split
    ·intro h
     rw[qP]at h
     obtain⟨l,h1,h2⟩:=bsm h
     obtain⟨n,hn⟩:=zc.mp h2
     exact⟨n,by rw[qP,h1];exact hn⟩
    ·intro h;cases h
   ·intro h;cases h
  obtain⟨n,hn⟩:=key
  exact jc.mpr ⟨n+1,hn⟩
theorem xe(k:Nat):Nat.beq k k=true:=qe
theorem wU{j k:Nat}(h:j≠k):Nat.beq j k=false:=by
 cases hb:Nat.beq j k
 ·rfl
 ·exact absurd (Nat.eq_of_beq_eq_true hb) h
theorem yH(b:Boxes):∀(live:List Nat) (k:Nat),qL (zN b live) k=if k∈live then qL b k else none
 |[],k=>by simp[zN,qL]
 |j::r,k=>by
  have ih:=yH b r k
  simp only[zN]
  split
  ·rename_i g cs h
   simp only[qL]
   by_cases e:j=k
   ·subst e;simp[h]
   ·rw[wU e];simp only[ih,qb3]
    have:k≠j:=fun h=>e h.symm
    simp[this]
  ·rename_i h
   rw[ih]
   by_cases e:j=k
   ·subst e;simp[h]
   ·have:k≠j:=fun h=>e h.symm
    simp[this]
theorem xM(b b':Boxes):∀(live:List Nat),(∀k∈live,qL b' k=qL b k)->zN b' live=zN b live
 |[],_=>rfl
 |j::r,h=>by
  simp only[zN]
  rw[h j qe,xM b b' r fun k hk=>h k (by simp[hk])]
theorem jF(b:Boxes)(l:Slots):∀(live:List Nat) (k:Nat),qm (yc b l live) k=if k∈live then kM b (qm l k)else .un
 |[],k=>by simp[yc,qm]
 |j::r,k=>by
  have ih:=jF b l r k
  simp only[yc]
  by_cases e:j=k
  ·subst e
   split
   ·rename_i h
    rw[ih];simp[h]
   ·rename_i s h
    simp[qm,xe]
  ·have e':k≠j:=fun h=>e h.symm
   split
   ·rw[ih];simp[e']
   ·simp[qm,wU e,ih,e']
theorem xL(b:Boxes)(l l':Slots):∀(live:List Nat),(∀k∈live,kM b (qm l' k)=kM b (qm l k))->yc b l' live=yc b l live
 |[],_=>rfl
 |j::r,h=>by
  simp only[yc]
  rw[h j qe,xL b l l' r fun k hk=>h k (by simp[hk])]
theorem Ya(b:Boxes)(s:SV):kM b (kM b s)=kM b s:=by
 cases s<;>simp only[kM]
 rename_i k g o
 cases h:qL b k<;>simp[kM,h]
theorem Yc(m:Option (List Nat))(st:St):mask m (mask m st)=mask m st:=by
 cases m with
 |none=>rfl
 |some live=>
  simp only[mask]
  have hB:zN (zN st.bx live) live=zN st.bx live:=xM _ _ _ fun k hk=>by rw[yH,if_pos hk]
  rw[hB]
  congr 1
  refine xL _ _ _ _ fun k hk=>?_
  rw[jF,if_pos hk,Ya]
def YM(ss:List Nat):List It->Bool
 | .code (.region r _ _)::_=>ss.contains r
 |_=>false
def ZI(c:Cx)(f:FuncId):List It->St->St
 | .code (.region r _ _)::_,st=>mask (c.M f r) st
 |_,st=>st
theorem KU(c:Cx)(f:FuncId)(its:List It)(st:St):go c f its (ZI c f its st)=go c f its st:=by
 unfold ZI
 split
 ·rw[Jp,Jp c f _ st]
  simp only[zj,Yc]
 ·rfl
noncomputable def Qd(c:Cx)(f:FuncId)(ss:List Nat):Nat->GoT
 |0=>go c f
 |n+1=>fun its st=>cond (YM ss its) (go c f its (ZI c f its st)) (zj c (run c) (Qd c f ss n) f its st)
theorem wq(c:Cx)(f:FuncId)(ss:List Nat):∀n,Qd c f ss n=go c f
 |0=>rfl
 |n+1=>by
  funext its st
  simp only[Qd,wq c f ss n]
  cases YM ss its
  ·exact(Jp c f its st).symm
  ·exact KU c f its st
theorem XX(c:Cx)(f:FuncId)(ss:List Nat)(n:Nat)(its:List It)(st:St):go c f its st=zj c (run c) (Qd c f ss n) f its st:=by
 rw[wq];exact Jp c f its st
theorem XO(c:Cx)(f:FuncId)(ss:List Nat)(n:Nat)(xs:List AV)(hp:Hp):run c f xs hp=zu c f xs hp (Qd c f ss n):=by
 rw[wq];exact VJ c f xs hp
def sub:List Nat->Code->Code
 |[],c=>c
 |0::p,.seq a _=>sub p a
 |_::p,.seq _ b=>sub p b
 |0::p,.cond _ a _=>sub p a
 |_::p,.cond _ _ b=>sub p b
 |_::p,.block _ b=>sub p b
 |_::p,.loop b=>sub p b
 |_::p,.scope b=>sub p b
 |_,c=>c
inductive Ow where
 |fr|oth
 |box (k g:Nat)
 |obj (b g:Nat)
 |sl (k j i:Nat)
 |bc (k g i:Nat)
 |oc (b g i:Nat)
structure Gh where
 Om:Nat->Ow
 I:Nat->Nat
 mu:Nat->Nat->Option Nat
 la:Nat->Nat->Option Nat
def vG(w:World)(b:Nat):Option Nat:=
 match w.heap[b]? with
 |some (.cells arr _ _)=>some arr.size
 |_=>none
theorem xC{w w':World}{b:Nat}(h:w'.heap[b]?=w.heap[b]?):vG w' b=vG w b:=by simp[vG,h]
inductive RelR (G : Gh) (w : World) : AV → Value → Prop where
 |sc (v:Value):v.oneCell'=true->RelR G w (.sc v) v
 |sl0 (sz:Nat) (a:Addr) (cap:Nat):0<sz->RelR G w (.sl sz []) (.slice (some a) 0 cap)
 |sl (sz:Nat) (cs:List AV) (n cap b o:Nat) (vs:List Value):0<sz->0<n->cs.length=n*sz->n<=cap->o+n*sz<=G.I b->vs.length=cs.length->
  (∀k c,vs[k]?=some c->w.cell? ⟨b,o+k,none⟩=some c)->(∀x∈cs,vl x=true)->(∀(k:Nat) (x:AV) (c:Value),cs[k]?=some x->vs[k]?=some c->RelR G w x c)->
  RelR G w (.sl sz cs) (.slice (some ⟨b,o,none⟩) n cap)
 |ptr (b g off blk:Nat):G.mu b g=some blk->RelR G w (.ptr b g off) (.pointer (some ⟨blk,off,none⟩))
 |ms (b g off n sz cap blk off' z:Nat):G.mu b g=some blk->n<=cap->(0<n->off'=off)->vG w blk=some z->off'+cap*sz<=z->RelR G w (.ms b g off n sz) (.slice (some ⟨blk,off',none⟩) n cap)
 |fn (f:FuncId) (caps:List AV) (vs:List Value):(Nat.blt f 4294967296=true\/caps=[])->caps.length=vs.length->
  (∀(k:Nat) (x:AV) (c:Value),caps[k]?=some x->vs[k]?=some c->RelR G w x c)->RelR G w (.fn f caps) (.func (.func f) #[] vs.toArray)
 |map (b blk:Nat):G.mu b 1=some blk->RelR G w (.map b) (.map (some blk))
 |fnb (f:FuncId) (bs:List AV) (vs:List Value):bs≠[]->bs.length=vs.length->
  (∀(k:Nat) (x:AV) (c:Value),bs[k]?=some x->vs[k]?=some c->RelR G w x c)->RelR G w (.fn (4294967296+f) bs) (.func (.func f) vs.toArray #[])
structure TokR (G : Gh) (w : World) (sz : Nat) (cs : List AV) (v : Value) (b : Nat) : Prop where
 ex:∃n cap arr e,v= .slice (some ⟨b,0,none⟩) n cap/\0<sz/\cs.length=n*sz/\n<=cap/\G.I b=n*sz/\
  w.heap[b]?=some (.cells arr e (0,0))/\arr.size=cap*sz/\∀(k:Nat) (x:AV),cs[k]?=some x->∃c,arr[k]?=some c/\RelR G w x c
 vl:∀x∈cs,vl x=true
def za(G:Gh)(w:World)(p:Ow)(x:AV)(v:Value):Prop:=
 match x with
 | .us sz cs=>∃b,G.Om b=p/\TokR G w sz cs v b
 | .agg _=>False
 | .tup _=>False
 |x=>RelR G w x v
def qE(G:Gh)(w:World)(p:Nat->Ow)(x:AV)(v:Value):Prop:=
 match x with
 | .agg cs=>∃vs:List Value,v= .agg vs.toArray/\cs.length=vs.length/\∀(i:Nat) (x:AV) (c:Value),cs[i]?=some x->vs[i]?=some c->za G w (p i) x c
 |x=>za G w (p 0) x v
def qt(G:Gh)(w:World)(k:Nat)(s:SV)(v:Value):Prop:=
 match s with
 | .sv u=>v=u/\u.oneCell'=true
 | .av x=>qE G w (.sl k 0 ·) x v
 | .tp l=>∃vs:List Value,v= .tuple vs.toArray/\l.length=vs.length/\∀(j:Nat) (x:AV) (c:Value),l[j]?=some x->vs[j]?=some c->qE G w (.sl k j ·) x c
 | .lp k' g off=>∃blk,G.la k' g=some blk/\v= .pointer (some ⟨blk,off,none⟩)
 | .rv cs=>∃(b o:Nat) (vs:List Value),v= .pointer (some ⟨b,o,none⟩)/\vs.length=cs.length/\(∀i,i<cs.length->o+i<G.I b)/\
  (∀(k:Nat) (c:Value),vs[k]?=some c->w.cell? ⟨b,o+k,none⟩=some c)/\∀(k:Nat) (x:AV) (c:Value),cs[k]?=some x->vs[k]?=some c->RelR G w x c
 | .un=>True
 | .ud=>v=undef
def zG(G:Gh)(w:World)(blk:Nat)(p:Nat->Ow)(cs:List AV):Prop:=
 ∃arr e,w.heap[blk]?=some (.cells arr e (0,0))/\cs.length<=arr.size/\∀(i:Nat) (x:AV) (c:Value),cs[i]?=some x->arr[i]?=some c->za G w (p i) x c
def xX(G:Gh)(w:World)(x:AV)(v:Value):Prop:=
 match x with
 | .agg cs=>∃vs:List Value,v= .agg vs.toArray/\cs.length=vs.length/\∀(i:Nat) (x:AV) (c:Value),cs[i]?=some x->vs[i]?=some c->RelR G w x c
 |x=>RelR G w x v
def vk(G:Gh)(w:World)(x:AV)(e:MapEntry):Prop:=
 match x with
 | .tup [.sc k,y]=>e.key=k/\k.oneCell'=true/\xX G w y e.val
 |_=>False
def Zl(G:Gh)(w:World)(blk:Nat)(cs:List AV):Prop:=
 ∃es clock,w.heap[blk]?=some (.map es clock)/\es.size=cs.length/\∀(i:Nat) (x:AV) (e:MapEntry),cs[i]?=some x->es[i]?=some e->vk G w x e
def Wu(G:Gh)(w:World)(blk:Nat)(p:Nat->Ow)(g:Nat)(cs:List AV):Prop:=
 match g with
 |0=>zG G w blk p cs
 |_+1=>Zl G w blk cs
structure Inv (G : Gh) (w : World) (st : St) (tmps : Array Value) : Prop where
 slots:∀k,qt G w k (qm st.sl k) (tmps.getD k undef)
 boxes:∀k g cs,qL st.bx k=some (g,cs)->∃blk,G.la k g=some blk/\G.Om blk= .box k g/\zG G w blk (.bc k g ·) cs
 heap:∀b g cs,st.hp.get b=some (g,cs)->∃blk,G.mu b g=some blk/\G.Om blk= .obj b g/\Wu G w blk (.oc b g ·) g cs
 next:∀b g,st.hp.next<=b->G.mu b g=none
 hlt:∀b g cs,st.hp.get b=some (g,cs)->b<st.hp.next
 new:∀b,w.heap.size<=b->G.Om b= .fr/\G.I b=0
 vars:∀b,(∃k g,G.Om b= .box k g)\/(∃k g,G.Om b= .obj k g)->G.I b=0
 lps:∀j k g off,qm st.sl j= .lp k g off->∃g' cs,qL st.bx k=some (g',cs)/\g<=g'
def xD(w w':World):Prop:=w'.os=w.os/\w'.tape=w.tape/\w'.output=w.output
theorem xD.refl(w:World):xD w w:=⟨rfl,rfl,rfl⟩
theorem xD.trans{w w' w'':World}(h:xD w w')(h':xD w' w''):xD w w'':=⟨h'.1.trans h.1,h'.2.1.trans h.2.1,h'.2.2.trans h.2.2⟩
structure Fr (G : Gh) (w : World) (G' : Gh) (w' : World) : Prop where
 size:w.heap.size<=w'.heap.size
 cells:∀b i,i<G.I b->w'.cell? ⟨b,i,none⟩=w.cell? ⟨b,i,none⟩
 imm:∀b,G.I b<=G'.I b
 mu:∀b g x,G.mu b g=some x->G'.mu b g=some x
 same:∀b,b<w.heap.size->G.Om b= .fr\/G.Om b= .oth->w'.heap[b]?=w.heap[b]?/\G'.Om b=G.Om b/\G'.I b=G.I b
 rest:xD w w'
 bs:∀b z,vG w b=some z->vG w' b=some z
theorem Fr.refl(G:Gh)(w:World):Fr G w G w:=⟨qbo _,fun _ _ _=>rfl,fun _=>qbo _,fun _ _ _ h=>h,fun _ _ _=>⟨rfl,rfl,rfl⟩,xD.refl w,fun _ _ h=>h⟩
theorem Fr.trans{G G' G'':Gh}{w w' w'':World}(h:Fr G w G' w')(h':Fr G' w' G'' w''):Fr G w G'' w'':=by
 refine⟨qdm h.size h'.size,fun b i hi=>?_,fun b=>qdm (h.imm b) (h'.imm b),fun b g x hx=>h'.mu b g x (h.mu b g x hx),fun b hb ho=>?_,h.rest.trans h'.rest,fun b z hz=>h'.bs b z (h.bs b z hz)⟩
 ·rw[h'.cells b i (qcb hi (h.imm b)),h.cells b i hi]
 ·obtain⟨a1,a2,a3⟩:=h.same b hb ho
  obtain⟨b1,b2,b3⟩:=h'.same b (qcb hb h.size) (by rw[a2];exact ho)
  exact⟨b1.trans a1,b2.trans a2,b3.trans a3⟩
structure Ev (G : Gh) (w : World) (G' : Gh) (w' : World) : Prop where
 cells:∀b i,i<G.I b->w'.cell? ⟨b,i,none⟩=w.cell? ⟨b,i,none⟩
 imm:∀b,G.I b<=G'.I b
 mu:∀b g x,G.mu b g=some x->G'.mu b g=some x
 bs:∀b z,vG w b=some z->vG w' b=some z
theorem Fr.ev{G G':Gh}{w w':World}(h:Fr G w G' w'):Ev G w G' w':=⟨h.cells,h.imm,h.mu,h.bs⟩
theorem Ev.refl(G:Gh)(w:World):Ev G w G w:=(Fr.refl G w).ev
theorem RelR.ev{G G':Gh}{w w':World}(he:Ev G w G' w'){x:AV}{v:Value}(h:RelR G w x v):RelR G' w' x v:=by
 induction h with
 |sc v h=>exact .sc v h
 |sl0 sz a cap h=>exact .sl0 sz a cap h
 |sl sz cs n cap b o vs h1 h2 h3 h4 h5 h6 h7 hv _ ih=>
  refine .sl sz cs n cap b o vs h1 h2 h3 h4 (qdm h5 (he.imm b)) h6 (fun k c hk=>?_) hv ih
  have hlt:k<vs.length:=(qbm.mp hk).1
  rw[he.cells b (o+k) qc]
  exact h7 k c hk
 |ptr b g off blk h=>exact .ptr b g off blk (he.mu _ _ _ h)
 |ms b g off n sz cap blk off' z h h' h'' h3 h4=>exact .ms b g off n sz cap blk off' z (he.mu _ _ _ h) h' h'' (he.bs _ _ h3) h4
 |fn f caps vs h0 h _ ih=>exact .fn f caps vs h0 h ih
 |map b blk h=>exact .map b blk (he.mu _ _ _ h)
 |fnb f bs vs h0 h _ ih=>exact .fnb f bs vs h0 h ih
theorem TokR.ev{G G':Gh}{w w':World}(he:Ev G w G' w'){sz:Nat}{cs:List AV}{v:Value}{b:Nat}(hb:w'.heap[b]?=w.heap[b]?) (hi:G'.I b=G.I b)
 (h:TokR G w sz cs v b):TokR G' w' sz cs v b:=by
 obtain⟨n,cap,arr,e,h1,h2,h3,h4,h5,h6,h7,h9⟩:=h.ex
 refine⟨⟨n,cap,arr,e,h1,h2,h3,h4,hi.trans h5,hb.trans h6,h7,fun k x hk=>?_⟩,h.vl⟩
 obtain⟨c,hc,hr⟩:=h9 k x hk
 exact⟨c,hc,hr.ev he⟩
def qF(G:Gh)(w:World)(G':Gh)(w':World)(p q:Ow):Prop:=∀b,G.Om b=p->w'.heap[b]?=w.heap[b]?/\G'.I b=G.I b/\G'.Om b=q
theorem za.ev{G G':Gh}{w w':World}(he:Ev G w G' w'){p q:Ow}(hk:qF G w G' w' p q){x:AV}{v:Value}(h:za G w p x v):za G' w' q x v:=by
 cases x with
 |us sz cs=>
  obtain⟨b,hb,ht⟩:=h
  obtain⟨h1,h2,h3⟩:=hk b hb
  exact⟨b,h3,ht.ev he h1 h2⟩
 |agg _=>exact h
 |tup _=>exact h
 |sc _=>exact RelR.ev he h
 |sl _ _=>exact RelR.ev he h
 |ptr _ _ _=>exact RelR.ev he h
 |ms _ _ _ _ _=>exact RelR.ev he h
 |fn _ _=>exact RelR.ev he h
 |map _=>exact RelR.ev he h
theorem jd{G:Gh}{w:World}{p:Nat->Ow}{x:AV}{v:Value}(hx:∀cs,x≠ .agg cs):qE G w p x v=za G w (p 0) x v:=by
 cases x<;>first|rfl|exact absurd rfl (hx _)
theorem yN(x:AV):(∃cs,x= .agg cs)\/∀cs,x≠ .agg cs:=by
 cases x<;>first|exact .inl ⟨_,rfl⟩|exact .inr fun _ h=>by cases h
theorem qE.ev{G G':Gh}{w w':World}(he:Ev G w G' w'){p q:Nat->Ow}(hk:∀i,qF G w G' w' (p i) (q i)){x:AV}{v:Value}(h:qE G w p x v):qE G' w' q x v:=by
 rcases yN x with⟨cs,rfl⟩|hx
 ·obtain⟨vs,h1,h2,h3⟩:=h
  exact⟨vs,h1,h2,fun i x c hx hc=>(h3 i x c hx hc).ev he (hk i)⟩
 ·rw[jd hx]at h⊢
  exact h.ev he (hk 0)
theorem qt.ev{G G':Gh}{w w':World}(he:Ev G w G' w'){k k':Nat}{s:SV}(hk:∀j i,qF G w G' w' (.sl k j i) (.sl k' j i))
 (hl:∀a g off x,s= .lp a g off->G.la a g=some x->G'.la a g=some x) {v:Value} (h:qt G w k s v):qt G' w' k' s v:=by
 cases s with
 |sv u=>exact h
 |av x=>exact qE.ev he (hk 0) h
 |tp l=>
  obtain⟨vs,h1,h2,h3⟩:=h
  exact⟨vs,h1,h2,fun j x c hx hc=>(h3 j x c hx hc).ev he (hk j)⟩
 |lp a g off=>
  obtain⟨blk,h1,h2⟩:=h
  exact⟨blk,hl a g off blk rfl h1,h2⟩
 |rv cs=>
  obtain⟨b,o,vs,h1,h2,h3,h4,h5⟩:=h
  refine⟨b,o,vs,h1,h2,fun i hi=>qcb (h3 i hi) (he.imm b),fun k c hk=>?_,fun k x c hx hc=>(h5 k x c hx hc).ev he⟩
  have hlt:k<vs.length:=(qbm.mp hk).1
  rw[he.cells b (o+k) (h3 k qc)]
  exact h4 k c hk
 |un=>trivial
 |ud=>exact h
theorem zG.ev{G G':Gh}{w w':World}(he:Ev G w G' w'){blk:Nat}{p q:Nat->Ow}{cs:List AV}(hb:w'.heap[blk]?=w.heap[blk]?)
 (hk:∀i,qF G w G' w' (p i) (q i)) (h:zG G w blk p cs):zG G' w' blk q cs:=by
 obtain⟨arr,e,h1,h2,h3⟩:=h
 exact⟨arr,e,hb.trans h1,h2,fun i x c hx hc=>(h3 i x c hx hc).ev he (hk i)⟩
theorem xX.ev{G G':Gh}{w w':World}(he:Ev G w G' w'){x:AV}{v:Value}(h:xX G w x v):xX G' w' x v:=by
 cases x with
 |agg cs=>
  obtain⟨vs,h1,h2,h3⟩:=h
  exact⟨vs,h1,h2,fun i x c hx hc=>(h3 i x c hx hc).ev he⟩
 |tup _=>exact RelR.ev he h
 |us _ _=>exact RelR.ev he h
 |sc _=>exact RelR.ev he h
 |sl _ _=>exact RelR.ev he h
 |ptr _ _ _=>exact RelR.ev he h
 |ms _ _ _ _ _=>exact RelR.ev he h
 |fn _ _=>exact RelR.ev he h
 |map _=>exact RelR.ev he h
theorem vk.ev{G G':Gh}{w w':World}(he:Ev G w G' w'){x:AV}{e:MapEntry}(h:vk G w x e):vk G' w' x e:=by
 unfold vk at h⊢
 split at h
 ·exact⟨h.1,h.2.1,h.2.2.ev he⟩
 ·exact h.elim
theorem Zl.ev{G G':Gh}{w w':World}(he:Ev G w G' w'){blk:Nat}{cs:List AV}(hb:w'.heap[blk]?=w.heap[blk]?) (h:Zl G w blk cs):Zl G' w' blk cs:=by
 obtain⟨es,clock,h1,h2,h3⟩:=h
 exact⟨es,clock,hb.trans h1,h2,fun i x e hx hc=>(h3 i x e hx hc).ev he⟩
theorem Wu.ev{G G':Gh}{w w':World}(he:Ev G w G' w'){blk:Nat}{p q:Nat->Ow}{g:Nat}{cs:List AV}(hb:w'.heap[blk]?=w.heap[blk]?)
 (hk:∀i,qF G w G' w' (p i) (q i)) (h:Wu G w blk p g cs):Wu G' w' blk q g cs:=by
 cases g with
 |zero=>exact zG.ev he hb hk h
 |succ g=>exact Zl.ev he hb h
structure EvL (G : Gh) (w : World) (G' : Gh) (w' : World) : Prop where
 cells:∀b i,i<G.I b->w'.cell? ⟨b,i,none⟩=w.cell? ⟨b,i,none⟩
 imm:∀b,G.I b<=G'.I b
theorem RelR.evl{G G':Gh}{w w':World}(he:EvL G w G' w'){x:AV}{v:Value}(h:RelR G w x v)(hv:vl x=true):RelR G' w' x v:=by
 induction h with
 |sc v h=>exact .sc v h
 |sl0 sz a cap h=>exact .sl0 sz a cap h
 |sl sz cs n cap b o vs h1 h2 h3 h4 h5 h6 h7 hvl _ ih=>
  refine .sl sz cs n cap b o vs h1 h2 h3 h4 (qdm h5 (he.imm b)) h6 (fun k c hk=>?_) hvl (fun k x c hx hc=>ih k x c hx hc (hvl x (qbu hx)))
  have hlt:k<vs.length:=(qbm.mp hk).1
  rw[he.cells b (o+k) qc]
  exact h7 k c hk
 |ptr b g off blk h=>cases hv
 |ms b g off n sz cap blk off' z h h' h'' h3 h4=>cases hv
 |fn f caps vs h0 h h' ih=>
  have:caps=[]:=by simpa[AI.vl]using hv
  subst this
  exact .fn f [] vs h0 h (by intro k x c hx;simp at hx)
 |map b blk h=>cases hv
 |fnb f bs vs h0 h h' ih=>
  have:bs=[]:=by simpa[AI.vl]using hv
  exact absurd this h0
theorem TokR.evl{G G':Gh}{w w':World}(he:EvL G w G' w'){sz:Nat}{cs:List AV}{v:Value}{b:Nat}(hb:w'.heap[b]?=w.heap[b]?) (hi:G'.I b=G.I b)
 (h:TokR G w sz cs v b):TokR G' w' sz cs v b:=by
 obtain⟨n,cap,arr,e,h1,h2,h3,h4,h5,h6,h7,h9⟩:=h.ex
 refine⟨⟨n,cap,arr,e,h1,h2,h3,h4,hi.trans h5,hb.trans h6,h7,fun k x hk=>?_⟩,h.vl⟩
 obtain⟨c,hc,hr⟩:=h9 k x hk
 exact⟨c,hc,hr.evl he (h.vl x (qbu hk))⟩
theorem za.evl{G G':Gh}{w w':World}(he:EvL G w G' w'){p q:Ow}(hk:qF G w G' w' p q){x:AV}{v:Value}(h:za G w p x v)(hv:vl x=true):za G' w' q x v:=by
 cases x with
 |us sz cs=>
  obtain⟨b,hb,ht⟩:=h
  obtain⟨h1,h2,h3⟩:=hk b hb
  exact⟨b,h3,ht.evl he h1 h2⟩
 |agg _=>exact h
 |tup _=>exact h
 |sc _=>exact RelR.evl he h hv
 |sl _ _=>exact RelR.evl he h hv
 |ptr _ _ _=>exact RelR.evl he h hv
 |ms _ _ _ _ _=>exact RelR.evl he h hv
 |fn _ _=>exact RelR.evl he h hv
 |map _=>exact RelR.evl he h hv
theorem qE.evl{G G':Gh}{w w':World}(he:EvL G w G' w'){p q:Nat->Ow}(hk:∀i,qF G w G' w' (p i) (q i)){x:AV}{v:Value}(h:qE G w p x v)(hv:vlF x=true):qE G' w' q x v:=by
 rcases yN x with⟨cs,rfl⟩|hx
 ·obtain⟨vs,h1,h2,h3⟩:=h
  exact⟨vs,h1,h2,fun i x c hx hc=>(h3 i x c hx hc).evl he (hk i) (qbv.mp hv x (qbu hx))⟩
 ·rw[jd hx]at h⊢
  have hv':vl x=true:=by
   cases x<;>first|exact hv|exact absurd rfl (hx _)
  exact h.evl he (hk 0) hv'
theorem Ev.evl{G G':Gh}{w w':World}(h:Ev G w G' w'):EvL G w G' w':=⟨h.cells,h.imm⟩
theorem qB{w:World}{b:Nat}{arr:Array Value}{e:TypeId}{fz:Nat×Nat}(h:w.heap[b]?=some (.cells arr e fz)) (i:Nat):w.cell? ⟨b,i,none⟩=arr[i]?:=by
 simp[World.cell?,h]
theorem qk{α β:Type}(f:α->β)(l:List α)(i:Nat)(y:β)(h:(l.map f)[i]?=some y):∃x,l[i]?=some x/\f x=y:=by
 rw[qb1]at h
 cases hx:l[i]? with
 |none=>rw[hx]at h;cases h
 |some x=>rw[hx]at h;cases h;exact⟨x,rfl,rfl⟩
theorem qv{α β:Type}{l:List α}{m:List β}(h:l.length=m.length){i:Nat}{x:α}(hx:l[i]?=some x):∃y,m[i]?=some y:=by
 have:i<m.length:=by rw[<-h];exact(qbm.mp hx).1
 exact⟨m[i],qbw this⟩
theorem TokR.ro{G:Gh}{w:World}{sz:Nat}{cs:List AV}{v:Value}{b:Nat}(h:TokR G w sz cs v b):RelR G w (.sl sz cs) v:=by
 obtain⟨n,cap,arr,e,rfl,h2,h3,h4,h5,h6,h7,h9⟩:=h.ex
 by_cases hn:n=0
 ·subst hn
  have:cs=[]:=qb6.mp (by simpa using h3)
  subst this
  exact .sl0 sz _ cap h2
 ·have hle:cs.length<=arr.size:=by rw[h3,h7];exact qbx sz h4
  refine .sl sz cs n cap b 0 (arr.toList.take cs.length) h2 qc h3 h4 qc qg (fun k c hk=>?_) h.vl (fun k x c hx hc=>?_)
  ·rw[qb7,qB h6]
   rw[qbn]at hk
   split at hk
   ·simpa using hk
   ·cases hk
  ·obtain⟨c',hc',hr⟩:=h9 k x hx
   rw[qbn]at hc
   split at hc
   ·have:arr[k]?=some c:=by simpa using hc
    rw[this]at hc';cases hc';exact hr
   ·cases hc
theorem za.ro{G:Gh}{w:World}{p:Ow}{x:AV}{v:Value}(h:za G w p x v):RelR G w (ro1 x) v:=by
 cases x with
 |us sz cs=>obtain⟨b,_,ht⟩:=h;exact ht.ro
 |agg _=>exact h.elim
 |tup _=>exact h.elim
 |sc _=>exact h
 |sl _ _=>exact h
 |ptr _ _ _=>exact h
 |ms _ _ _ _ _=>exact h
 |fn _ _=>exact h
 |map _=>exact h
theorem RelR.c{G:Gh}{w:World}{x:AV}{v:Value}(h:RelR G w x v)(p:Ow):za G w p x v:=by
 cases h with
 |sc v h=>exact .sc v h
 |sl0 sz a cap h=>exact .sl0 sz a cap h
 |sl sz cs n cap b o vs h1 h2 h3 h4 h5 h6 h7 h8 h9=>exact RelR.sl sz cs n cap b o vs h1 h2 h3 h4 h5 h6 h7 h8 h9
 |ptr b g off blk h=>exact RelR.ptr b g off blk h
 |ms b g off n sz cap blk off' z h h' h'' h3 h4=>exact RelR.ms b g off n sz cap blk off' z h h' h'' h3 h4
 |fn f caps vs h0 h h'=>exact RelR.fn f caps vs h0 h h'
 |map b blk h=>exact RelR.map b blk h
 |fnb f bs vs h0 h h'=>exact RelR.fnb f bs vs h0 h h'
theorem kA{G:Gh}{w:World}{x:AV}{v:Value}(h:RelR G w x v):ro1 x=x:=by cases h<;>rfl
theorem RelR.ne_agg{G:Gh}{w:World}{x:AV}{v:Value}(h:RelR G w x v):∀cs,x≠ .agg cs:=by cases h<;>intro cs h<;>cases h
theorem za.ne_agg{G:Gh}{w:World}{p:Ow}{x:AV}{v:Value}(h:za G w p x v):∀cs,x≠ .agg cs:=by
 rintro cs rfl;exact h
theorem Qt{x:AV}(hx:∀cs,x≠ .agg cs):ro x=ro1 x:=by
 cases x<;>first|rfl|exact absurd rfl (hx _)
theorem za.v{G:Gh}{w:World}{p:Nat->Ow}{x:AV}{v:Value}(h:za G w (p 0) x v):qE G w p x v:=by
 rw[jd h.ne_agg];exact h
theorem qE.ro{G G':Gh}{w w':World}(he:Ev G w G' w'){p:Nat->Ow}(q:Nat->Ow){x:AV}{v:Value}(h:qE G w p x v):qE G' w' q (AI.ro x) v:=by
 rcases yN x with⟨cs,rfl⟩|hx
 ·obtain⟨vs,h1,h2,h3⟩:=h
  refine⟨vs,h1,by simpa using h2,fun i x c hx hc=>?_⟩
  obtain⟨y,hy,rfl⟩:=qk _ _ _ _ hx
  exact((h3 i y c hy hc).ro.ev he).c _
 ·rw[jd hx]at h
  rw[Qt hx]
  exact((h.ro.ev he).c (q 0)).v
theorem qt.ro{G G':Gh}{w w':World}(he:Ev G w G' w'){k:Nat}(k':Nat){s:SV}{v:Value}
 (hl:∀a g off x,s= .lp a g off->G.la a g=some x->G'.la a g=some x) (h:qt G w k s v):qt G' w' k' s.ro v:=by
 cases s with
 |sv u=>exact h
 |av x=>exact qE.ro he _ h
 |tp l=>
  obtain⟨vs,h1,h2,h3⟩:=h
  refine⟨vs,h1,by simpa using h2,fun j x c hx hc=>?_⟩
  obtain⟨y,hy,rfl⟩:=qk _ _ _ _ hx
  exact(h3 j y c hy hc).ro he _
 |lp a g off=>
  obtain⟨blk,h1,h2⟩:=h
  exact⟨blk,hl a g off blk rfl h1,h2⟩
 |rv cs=>
  obtain⟨b,o,vs,h1,h2,h3,h4,h5⟩:=h
  refine⟨b,o,vs,h1,h2,fun i hi=>qcb (h3 i hi) (he.imm b),fun k c hk=>?_,fun k x c hx hc=>(h5 k x c hx hc).ev he⟩
  have hlt:k<vs.length:=(qbm.mp hk).1
  rw[he.cells b (o+k) (h3 k qc)]
  exact h4 k c hk
 |un=>trivial
 |ud=>exact h
theorem qy(l:Slots)(d:Nat)(s:SV)(k:Nat):qm ((d,s)::l) k=if d=k then s else qm l k:=by
 simp only[qm]
 by_cases e:d=k
 ·subst e;simp[xe]
 ·simp[wU e,e]
theorem jn(l:Boxes)(d g:Nat)(cs:List AV)(k:Nat):qL (ko l d g cs) k=if d=k then some (g,cs)else qL l k:=by
 simp only[ko,qL]
 by_cases e:d=k
 ·subst e;simp[xe]
 ·simp[wU e,e]
theorem yO(a:Act)(d:Nat)(v:Value)(hd:d<a.tmps.size)(k:Nat):((a.put (some d) v).tmps).getD k undef=if d=k then v else a.tmps.getD k undef:=by
 simp only[Act.put]
 by_cases e:d=k
 ·subst e
  simp[Array.getD,hd]
 ·simp only[Array.getD_eq_getD_getElem?,e,if_false]
  rw[Array.getElem?_setIfInBounds_ne e]
theorem qz(a:Act)(d:Option Nat)(v:Value):(a.put d v).tmps.size=a.tmps.size:=by
 cases d<;>simp[Act.put]
theorem qs(a:Act)(d:Option Nat)(v:Value):(a.put d v).defers=a.defers:=by
 cases d<;>rfl
theorem Kp(t:Nat)(l:Slots)(k:Nat):qm (dn t l) k=if t=k then(qm l k).ro else qm l k:=by
 unfold dn
 rw[qy]
 by_cases e:t=k
 ·subst e;simp
 ·simp[e]
theorem KB(x:AV):ro1 (ro1 x)=ro1 x:=by cases x<;>rfl
theorem ro_ro(x:AV):ro (ro x)=ro x:=by
 cases x with
 |agg cs=>simp[ro,List.map_map,Function.comp_def,KB]
 |_=>rfl
theorem SV.ro_ro(s:SV):s.ro.ro=s.ro:=by
 cases s with
 |av x=>simp[SV.ro,AI.ro_ro]
 |tp l=>simp[SV.ro,List.map_map,Function.comp_def,AI.ro_ro]
 |_=>rfl
theorem qJ(ts:List Nat):∀(l:Slots) (k:Nat),qm (qr ts l) k=if k∈ts then(qm l k).ro else qm l k:=by
 induction ts with
 |nil=>intro l k;simp[qr]
 |cons t ts ih=>
  intro l k
  have:qr (t::ts) l=qr ts (dn t l):=rfl
  rw[this,ih,Kp]
  by_cases h1:t=k
  ·subst h1
   by_cases h2:t∈ts<;>simp[h2,SV.ro_ro]
  ·have h1':¬k=t:=fun h=>h1 h.symm
   by_cases h2:k∈ts<;>simp[h1,h1',h2]
theorem xH{s:SV}{k g off:Nat}:s.ro= .lp k g off↔s= .lp k g off:=by
 cases s<;>simp[SV.ro]
def Gh.rel(G:Gh)(f:Ow->Ow):Gh:={G with Om:=fun b=>f (G.Om b)}
structure Rho (f : Ow → Ow) : Prop where
 fr:f .fr= .fr
 oth:f .oth= .oth
 box:∀p k g,f p= .box k g->p= .box k g
 obj:∀p k g,f p= .obj k g->p= .obj k g
theorem Fr.rel{G:Gh}{w:World}{f:Ow->Ow}(hf:Rho f):Fr G w (G.rel f) w:=
 ⟨qbo _,fun _ _ _=>rfl,fun _=>qbo _,fun _ _ _ h=>h,fun b _ ho=>⟨rfl,by
  simp only[Gh.rel]
  rcases ho with h|h<;>rw[h]
  ·exact hf.fr
  ·exact hf.oth,rfl⟩,xD.refl w,fun _ _ h=>h⟩
def DOk(d:TypeDesc)(k:TK):Prop:=
 match k with
 | .sc=>∀x,(d matches .struct _| .array _ _| .slice _)=x->x=false
 | .ot=>∀x,(d matches .struct _| .array _ _| .slice _)=x->x=false
 | .tu=>True
 | .sl e=>d= .slice e
 | .mp q e=>d= .map q e
 | .ar n e=>d= .array n e
 | .st fs=>∃fields:Array Field,d= .struct fields/\fields.toList.map (fun f=>(f.offset,f.type))=fs
def Zk(P:Program)(t:TypeId)(ti:TI):Prop:=
 (ZN ti=true->P.underlying t=some (.int .u8))/\(vY ti=true->P.underlying t=some .string)/\
 ∃info d,P.info? t=some info/\P.underlying t=some d/\DOk d ti.k/\info.bytes=ti.bytes/\
  (yq ti.k=false->info.size=ti.size/\∃z,info.zero=some z/\z.cells.toList=ti.zero/\ti.zero.length=ti.size/\∀v∈ti.zero,v.oneCell'=true)
structure Ok (c : Cx) : Prop where
 tt:∀t ti,c.tt t=some ti->Zk c.P t ti
 ti:∀t ti,c.tt t=some ti->Jn ti=true->∃k,c.P.underlying t=some (.int k)
 tb:∀t ti,c.tt t=some ti->Jo ti=true->c.P.underlying t=some .bool
 tp:∀t ti,c.tt t=some ti->KT ti=true->∃e,c.P.underlying t=some (.pointer e)
 zf:∀t ti,c.tt t=some ti->yq ti.k=false->∀info z,c.P.info? t=some info->info.zero=some z->(zA ti.k=true->∃vs,z= .agg vs)/\(zA ti.k=false->z.oneCell'=true)
 F:∀f fn,c.F f=some fn->c.P.funcs[f]?=some fn
 nm:∀f fn,c.F f=some fn->(fn.name== "runtime.NumGoroutine")=false
 X:∀f fn vs v,c.F f=some fn->fn.body=none->c.X f vs=some v->∀w,(callFunc f vs.toArray).run c.P w= .ok (.value v) w
 mixed:c.P.follows .mixedOrders=true
theorem qj{c:Cx}{t:TypeId}{ti:TI}(h:c.tn t=some ti):c.tt t=some ti/\yq ti.k=false:=by
 unfold Cx.tn at h
 split at h
 ·rename_i ti' h'
  cases hk:yq ti'.k with
  |true=>simp[hk]at h
  |false=>simp[hk]at h;subst h;exact⟨h',hk⟩
 ·cases h
section
variable {P:Program}{t:TypeId}{ti:TI}{w:World}
theorem Zk.sizeOf(h:Zk P t ti)(hk:yq ti.k=false)(w:World):(sizeOf t).run P w= .ok ti.size w:=by
 obtain⟨_,_,info,d,h1,h2,h3,h4,h5⟩:=h
 rw[run_sizeOf w h1]
 have:P.cellsOf t=ti.size:=by simp[Program.cellsOf,h1,(h5 hk).1]
 rw[this]
theorem Zk.zero(h:Zk P t ti)(hk:yq ti.k=false):∃z,z.cells.toList=ti.zero/\ti.zero.length=ti.size/\(∀v∈ti.zero,v.oneCell'=true)/\∀w,(zeroValue t).run P w= .ok z w:=by
 obtain⟨_,_,info,d,h1,h2,h3,h4,h5⟩:=h
 obtain⟨h6,z,h7,h8,h9,h10⟩:=h5 hk
 exact⟨z,h8,h9,h10,fun w=>by simp[zeroValue,typeInfo,h1,h7]⟩
theorem Zk.isAgg(h:Zk P t ti)(hk:yq ti.k=false)(w:World):(Go.isAgg t).run P w= .ok (zA ti.k) w:=by
 obtain⟨_,_,info,d,h1,h2,h3,h4,h5⟩:=h
 unfold Go.isAgg
 simp only[Sem.run_bind,run_underlying h2,Result.andThen_ok]
 cases hti:ti.k with
 |sc=>
  rw[hti]at h3
  cases d<;>first|rfl|(have:=h3 _ rfl;cases this)
 |ot=>
  rw[hti]at h3
  cases d<;>first|rfl|(have:=h3 _ rfl;cases this)
 |tu=>rw[hti]at hk;cases hk
 |sl e=>rw[hti]at h3;cases h3;rfl
 |mp q e=>rw[hti]at h3;cases h3;rfl
 |ar n e=>rw[hti]at h3;cases h3;rfl
 |st fs=>rw[hti]at h3;obtain⟨fields,rfl,_⟩:=h3;rfl
theorem Zk.bytes(h:Zk P t ti):∃info,P.info? t=some info/\info.bytes=ti.bytes:=by
 obtain⟨_,_,info,d,h1,h2,h3,h4,h5⟩:=h
 exact⟨info,h1,h4⟩
theorem Zk.und(h:Zk P t ti):∃d,P.underlying t=some d/\DOk d ti.k:=by
 obtain⟨_,_,info,d,h1,h2,h3,h4,h5⟩:=h
 exact⟨d,h2,h3⟩
end
theorem RelR.one{G:Gh}{w:World}{x:AV}{v:Value}(h:RelR G w x v):v.oneCell'=true:=by
 cases h<;>first|rfl|assumption
theorem za.one{G:Gh}{w:World}{p:Ow}{x:AV}{v:Value}(h:za G w p x v):v.oneCell'=true:=by
 cases x with
 |us sz cs=>
  obtain⟨b,_,ht⟩:=h
  obtain⟨n,cap,arr,e,rfl,_⟩:=ht.ex
  rfl
 |agg _=>exact h.elim
 |tup _=>exact h.elim
 |sc _=>exact RelR.one h
 |sl _ _=>exact RelR.one h
 |ptr _ _ _=>exact RelR.one h
 |ms _ _ _ _ _=>exact RelR.one h
 |fn _ _=>exact RelR.one h
 |map _=>exact RelR.one h
theorem xz{v:Value}(h:v.oneCell'=true):v.cells=#[v]:=by cases v<;>first|rfl|cases h
def xW(G:Gh)(w:World)(p:Nat->Ow)(l:List AV)(vs:List Value):Prop:=
 l.length=vs.length/\∀(i:Nat) (x:AV) (c:Value),l[i]?=some x->vs[i]?=some c->za G w (p i) x c
theorem xW.ev{G G':Gh}{w w':World}(he:Ev G w G' w'){p q:Nat->Ow}(hk:∀i,qF G w G' w' (p i) (q i)){l:List AV}{vs:List Value}(h:xW G w p l vs):xW G' w' q l vs:=
 ⟨h.1,fun i x c hx hc=>(h.2 i x c hx hc).ev he (hk i)⟩
theorem xW.one{G:Gh}{w:World}{p:Nat->Ow}{l:List AV}{vs:List Value}(h:xW G w p l vs):∀v∈vs,v.oneCell'=true:=by
 intro v hv
 obtain⟨i,hi,rfl⟩:=qc1 hv
 have hl:i<l.length:=by rw[h.1];exact hi
 exact(h.2 i l[i] vs[i] (qbw hl) (qbw hi)).one
theorem qE.cells{G:Gh}{w:World}{p:Nat->Ow}{x:AV}{v:Value}{n:Nat}{l:List AV}(h:qE G w p x v)(hl:jO n x=some l):
 l.length=n/\xW G w p l v.cells.toList:=by
 rcases yN x with⟨cs,rfl⟩|hx
 ·obtain⟨vs,rfl,h2,h3⟩:=h
  simp only[jO]at hl
  split at hl
  ·cases hl
   rename_i hn
   exact⟨hn,by simpa[Value.cells]using h2,fun i x c hx hc=>h3 i x c hx (by simpa[Value.cells]using hc)⟩
  ·cases hl
 ·rw[jd hx]at h
  have h1:jO n x=if n=1 then some [x]else none:=by
   cases x<;>first|rfl|exact absurd rfl (hx _)|exact h.elim
  rw[h1]at hl
  split at hl
  ·cases hl
   rename_i hn
   rw[xz h.one]
   refine⟨by simp[hn],qe,fun i x c hx hc=>?_⟩
   match i,hx,hc with
   |0,hx,hc=>simp at hx hc;subst hx;subst hc;exact h
   |i+1,hx,hc=>simp at hx
  ·cases hl
theorem qt.valC{G:Gh}{w:World}{k:Nat}{s:SV}{v:Value}{n:Nat}{l:List AV}(h:qt G w k s v)(hl:valC n s=some l):
 l.length=n/\xW G w (.sl k 0 ·) l v.cells.toList:=by
 cases s with
 |sv u=>
  obtain⟨rfl,h1⟩:=h
  simp only[AI.valC]at hl
  split at hl
  ·cases hl
   rename_i hn
   rw[xz h1]
   refine⟨by simp[hn],qe,fun i x c hx hc=>?_⟩
   match i,hx,hc with
   |0,hx,hc=>simp at hx hc;subst hx;subst hc;exact .sc _ h1
   |i+1,hx,hc=>simp at hx
  ·cases hl
 |av x=>exact qE.cells h hl
 |lp _ _ _=>cases hl
 |rv _=>cases hl
 |tp _=>cases hl
 |un=>cases hl
 |ud=>cases hl
end Go.Proofs.Ytehljndbfjfbfaa.AI
