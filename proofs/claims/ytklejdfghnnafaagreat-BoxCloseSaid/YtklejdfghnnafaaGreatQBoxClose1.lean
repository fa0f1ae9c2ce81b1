/- Texts that the proof of BoxClose rests on, part 1. -/
import Derived.WalkKit
import Derived.KernelRfl
import Derived.Laws.CopyRow
namespace Go.Proofs.YtklejdfghnnafaaGreat.AI
open Go
theorem bsm {A B : Type} {x : Option A} {f : A → Option B} {b : B} (h : x.bind f = some b) : ∃ a, x = some a ∧ f a = some b := Option.bind_eq_some_iff.mp h
theorem qc{p:Prop}(h:p:=by omega):p:=h
theorem qe{p:Prop}(h:p:=by simp):p:=h
theorem qf{p:Prop}(h:p:=by decide):p:=h
theorem qg{p:Prop}(h:p:=by simp;omega):p:=h
abbrev qjb:=@Option.bind_assoc
abbrev qjc:=@Option.bind_some
abbrev qjd:=@List.getElem?_eq_some_iff
abbrev qje:=@List.length_append
abbrev qjf:=@List.mem_cons
abbrev qjg:=@List.getElem?_take
abbrev qjh:=@List.pairwise_cons
abbrev qji:=@Nat.le_refl
abbrev qjj:=@List.mem_of_getElem?
abbrev qjk:=@List.getElem?_eq_getElem
abbrev qjl:=@List.getElem?_append_right
abbrev qjm:=@Option.some.inj
abbrev qjn:=@List.getElem?_append_left
abbrev qjo:=@List.getElem?_map
abbrev qjp:=@List.mem_append
abbrev qjq:=@List.size_toArray
abbrev qjr:=@Nat.mul_le_mul_right
abbrev qjs:=@List.all_eq_true
abbrev qjt:=@List.getD_eq_getElem?_getD
abbrev qju:=@List.length_cons
abbrev qjv:=@Int.toNat_natCast
abbrev qjw:=@List.getElem?_drop
abbrev qjx:=@Bool.false_eq_true
abbrev qjy:=@Array.length_toList
abbrev qjz:=@Nat.lt_of_lt_of_le
abbrev qj0:=@List.getElem?_eq_none
abbrev qj1:=@List.length_eq_zero_iff
abbrev qj2:=@Array.getElem?_append_left
abbrev qj3:=@List.nil_append
abbrev qj4:=@Nat.zero_le
abbrev qj5:=@Nat.zero_add
abbrev qj6:=@List.mem_map
abbrev qj7:=@Array.getElem?_eq_some_iff
abbrev qj8:=@List.drop_eq_getElem_cons
abbrev qj9:=@Nat.ne_of_lt
abbrev qka:=@Array.size_append
abbrev qkb:=@List.length_take
abbrev qkc:=@Bool.and_eq_true
abbrev qkd:=@Nat.mod_eq_of_lt
abbrev qke:=@List.mem_singleton
abbrev qkf:=@Nat.mul_one
abbrev qkg:=@List.length_map
abbrev qkh:=@List.map_cons
abbrev qki:=@Nat.mul_comm
abbrev qkj:=@Nat.add_assoc
abbrev qkk:=@List.append_assoc
abbrev qkl:=@Nat.zero_mul
abbrev qkm:=@Nat.lt_or_ge
abbrev qkn:=@Nat.le_mul_of_pos_right
abbrev qko:=@List.append_nil
abbrev qkp:=@Int.natCast_nonneg
abbrev qkq:=@BitVec.toNat_ofInt
abbrev qkr:=@List.ext_getElem?
abbrev qks:=@List.getElem?_toArray
abbrev qkt:=@Nat.mul_le_mul
abbrev qku:=@List.length_drop
abbrev qkv:=@List.cons_append
abbrev qkw:=@Nat.le_of_mul_le_mul_right
abbrev qkx:=@List.getElem_of_mem
abbrev qky:=@List.getElem?_range
abbrev qkz:=@Array.getElem?_eq_getElem
abbrev qk0:=@List.length_nil
abbrev qk1:=@Nat.two_pow_pos
abbrev qk2:=@Nat.le_trans
abbrev qk3:=@List.map_nil
abbrev qk4:=@Nat.eq_zero_or_pos
abbrev qk5:=@List.getElem?_set_self
abbrev qk6:=@Array.getElem?_eq_none
abbrev qk7:=@Option.map_eq_some_iff
abbrev qk8:=@Nat.mul_assoc
abbrev qk9:=@Array.getElem?_modify
abbrev qla:=@List.length_singleton
abbrev qlb:=@List.mem_of_mem_take
abbrev qlc:=@Nat.add_zero
abbrev qld:=@List.getElem?_set_ne
abbrev qle:=@Array.eq_empty_of_size_eq_zero
abbrev qlf:=@Array.ext'
abbrev qlg:=@Array.getElem?_push
abbrev qlh:=@List.replicate_succ
abbrev qli:=@Nat.pow_add
abbrev qlj:=@Nat.pos_of_ne_zero
abbrev qlk:=@Int.lt_trichotomy
end Go.Proofs.YtklejdfghnnafaaGreat.AI
namespace Go.Proofs.YtklejdfghnnafaaGreat.AI
open Go
set_option linter.unusedVariables false
set_option linter.unusedSimpArgs false
set_option maxRecDepth 100000
set_option maxHeartbeats 0
inductive AV where
 |sc (v:Value)
 |sl (sz:Nat) (cs:List AV)
 |us (sz:Nat) (cs:List AV)
 |agg (cs:List AV)
 |tup (vs:List AV)
 |ptr (b g off:Nat)
 |ms (b g off len sz:Nat)
 |fn (f:FuncId) (cap:List AV)
 |map (b:Nat)
structure Hp where
 next:Nat
 get:Nat->Option (Nat×List AV)
def hp0:Hp:=⟨0,fun _=>none⟩
def Hp.rd(h:Hp)(b g:Nat):Option (List AV):=(h.get b).bind fun p=>if p.1=g/\g=0 then some p.2 else none
def Hp.rdM(h:Hp)(b:Nat):Option (List AV):=(h.get b).bind fun p=>if p.1=1 then some p.2 else none
def Hp.del(h:Hp)(b:Nat):Hp:=⟨h.next,fun x=>if x=b then none else h.get x⟩
def Hp.newM(h:Hp):Hp:=⟨h.next+1,fun x=>if x=h.next then some (1,[])else h.get x⟩
def Hp.put(h:Hp)(b g:Nat)(cs:List AV):Hp:=⟨h.next,fun x=>if x=b then some (g,cs)else h.get x⟩
def Hp.new(h:Hp)(cs:List AV):Hp:=⟨h.next+1,fun x=>if x=h.next then some (0,cs)else h.get x⟩
inductive SV where
 |sv (v:Value)
 |av (x:AV)
 |lp (k g off:Nat)
 |rv (cs:List AV)
 |tp (l:List AV)
 |un
 |ud
inductive TK where
 |sc|ot|tu
 |sl (e:TypeId)
 |mp (k e:TypeId)
 |ar (n:Nat) (e:TypeId)
 |st (fs:List (Nat×TypeId))
structure TI where
 k:TK
 size:Nat
 bytes:Nat
 zero:List Value
abbrev Boxes:=List (Nat×Nat×List AV)
abbrev Slots:=List (Nat×SV)
structure St where
 sl:Slots
 bx:Boxes
 hp:Hp
structure Cx where
 P:Program
 tt:TypeId->Option TI
 F:FuncId->Option Func
 X:FuncId->List Value->Option Value
 H:FuncId->Nat->Nat->Nat
 M:FuncId->Nat->Option (List Nat)
def ze{α:Type}(P:Program):Sem α->Option α
 | .pure a=>some a
 | .program k=>ze P (k P)
 | .mark _ k=>ze P k
 |_=>none
def ro1:AV->AV
 | .us s c=>.sl s c
 |x=>x
def ro:AV->AV
 | .us s c=>.sl s c
 | .agg cs=>.agg (cs.map ro1)
 |x=>x
def vl:AV->Bool
 | .sc _=>true
 | .sl _ _=>true
 | .us _ _=>true
 | .fn _ c=>c.isEmpty
 |_=>false
def vlF:AV->Bool
 | .agg cs=>cs.all vl
 |x=>vl x
def vlV:AV->Bool
 | .tup l=>l.all vlF
 |x=>vlF x
def SV.ro:SV->SV
 | .av x=>.av (AI.ro x)
 | .tp l=>.tp (l.map AI.ro)
 |s=>s
def yw:AV->Option Value
 | .sc v=>some v
 |_=>none
def YH:Value->Option Bool
 | .bool b=>some b
 |_=>none
def Zp:Value->Option Int
 | .int _ n=>some n
 |_=>none
def zH(cs:List AV)(i:Nat):Option AV:=cs[i]?
def qm(cs:List AV)(i:Nat):Option Value:=(cs[i]?).bind yw
def qJ(cs:List AV)(i n:Nat):Option (List AV):=if i+n<=cs.length then some ((cs.drop i).take n)else none
def qC(cs:List AV)(i:Nat)(vs:List AV):Option (List AV):=
 if i+vs.length<=cs.length then some (cs.take i++vs++cs.drop (i+vs.length))else none
def qu(n:Nat):AV->Option (List AV)
 | .agg cs=>if cs.length=n then some cs else none
 | .tup _=>none
 |x=>if n=1 then some [x]else none
def Ja:TK->Bool
 | .sc=>true
 |_=>false
def zU:TK->Bool
 | .ar _ _=>true
 | .st _=>true
 |_=>false
def Jr:SV->Option AV
 | .sv v=>some (.sc v)
 | .av x=>some x
 |_=>none
def zM(r:AV)(i:Nat):AV:=
 match r with
 | .tup vs=>vs.getD i (.tup [])
 |_=>.tup []
def yf(n:Nat):AV->Option Unit
 | .tup vs=>if vs.length=n then some ()else none
 |_=>none
def nil0:Value:=.slice none 0 0
def xM:Value->Bool
 | .slice none 0 0=>true
 |_=>false
def jq:AV->Option Nat
 | .sl s cs=>some (if s=1 then cs.length else cs.length/s)
 | .us s cs=>some (if s=1 then cs.length else cs.length/s)
 | .ms _ _ _ n _=>some n
 | .sc v=>if xM v then some 0 else none
 |_=>none
def idx(n:Nat)(v:Value):Option Nat:=(Zp v).bind fun i=>if 0<=i/\i<(n:Int)then some i.toNat else none
def zN(sz:Nat)(x:AV)(v:Value):Option (List AV):=
 match x with
 | .sl s cs=>if s=sz then(idx (if s=1 then cs.length else cs.length/s) v).bind fun i=>qJ cs (i*sz) sz else none
 | .us s cs=>if s=sz then(idx (if s=1 then cs.length else cs.length/s) v).bind fun i=>qJ cs (i*sz) sz else none
 |_=>none
def qx(lo hi:Int)(v:Option Value)(dflt:Nat):Option Nat:=
 match v with
 |none=>some dflt
 |some v=>(Zp v).bind fun i=>if lo<=i/\i<=hi then some i.toNat else none
def zE(sz:Nat)(x:AV)(lo hi mx:Option Value):Option AV:=
 match x with
 | .sl s cs=>if s=sz then
  let n:=if s=1 then cs.length else cs.length/s
  (qx 0 n mx n).bind fun m=>(qx 0 m hi n).bind fun h=>(qx 0 h lo 0).bind fun l=>some (.sl s ((cs.drop (l*s)).take ((h-l)*s)))
  else none
 | .us s cs=>if s=sz then
  let n:=if s=1 then cs.length else cs.length/s
  (qx 0 n mx n).bind fun m=>(qx 0 m hi n).bind fun h=>(qx 0 h lo 0).bind fun l=>some (.sl s ((cs.drop (l*s)).take ((h-l)*s)))
  else none
 | .sc v=>if xM v then
  (qx 0 0 mx 0).bind fun m=>(qx 0 m hi 0).bind fun h=>(qx 0 h lo 0).bind fun _=>some (.sc nil0)
  else none
 |_=>none
def yR(sz:Nat):AV->Option (List AV)
 | .sl s cs=>if s=sz then some cs else none
 | .us s cs=>if s=sz then some cs else none
 | .sc v=>match v with
  | .slice none 0 0=>some []
  |_=>none
 |_=>none
def yS(bytes sz n:Nat):Bool:=decide (n*bytes<=140737488355328*sz)&&decide (0<bytes)
def vI(sz:Nat)(cs:List AV):Nat:=if sz=1 then cs.length else cs.length/sz
def Zf:Value->Value->Option Bool
 | .int j a,.int k b=>if j=k then some (a==b)else none
 | .string a,.string b=>some (a==b)
 | .bool a,.bool b=>some (a==b)
 |_,_=>none
def Yu(k:Value):List AV->Option (Option AV)
 |[]=>some none
 | .tup [.sc q,x]::r=>(Zf k q).bind fun t=>cond t (some (some x)) (Yu k r)
 |_=>none
def Vn(k:Value)(v:AV):List AV->Option (List AV)
 |[]=>some [.tup [.sc k,v]]
 | .tup [.sc q,x]::r=>(Zf k q).bind fun t=>cond t (some (.tup [.sc q,v]::r)) ((Vn k v r).map fun l=>.tup [.sc q,x]::l)
 |_=>none
def Ka(bytes sz:Nat)(d:AV)(ys:List AV):Option AV:=
 match ys with
  |[]=>match d with
   | .us z cs=>if z=sz then some (.us z cs)else none
   | .sc v=>if xM v then some (.sc nil0)else none
   |_=>none
  |ys=>match d with
   | .us z cs=>if z=sz&&yS bytes sz (cs.length+ys.length)then some (.us z (cs++ys.map ro1))else none
   | .sc v=>if xM v&&yS bytes sz ys.length then some (.us sz (ys.map ro1))else none
   |_=>none
def yg(bytes sz:Nat)(d s:AV):Option AV:=(yR sz s).bind fun ys=>Ka bytes sz d ys
def zb:List AV->Option (List UInt8)
 |[]=>some []
 | .sc (.int .u8 n)::r=>(zb r).map fun l=>UInt8.ofNat n.toNat::l
 |_=>none
def vH:List AV->Option (List Value)
 |[]=>some []
 | .sc v::r=>(vH r).map fun l=>v::l
 |_=>none
def vF:AV->Option Value
 | .sc v=>some v
 | .agg cs=>(vH cs).map fun l=>.agg l.toArray
 |_=>none
def Zl:SV->Option Value
 | .sv v=>some v
 | .av x=>vF x
 |_=>none
def qT:AV->Option (Nat×Nat×Nat)
 | .ptr b g o=>some (b,g,o)
 |_=>none
def wP:AV->Option (FuncId×List AV)
 | .fn f c=>match Nat.blt f 4294967296 with
  |true=>some (f,c)
  |false=>none
 |_=>none
def wR:AV->Option (FuncId×List AV)
 | .fn f (b::c)=>match Nat.blt f 4294967296 with
  |true=>none
  |false=>some (f-4294967296,b::c)
 |_=>none
def one(o:Option Value):Option Value:=o.bind fun z=>if z.oneCell'=true then some z else none
def qq(P:Program)(op:BinOp)(t:TypeId)(x y:Operand)(a b:Value):Option Value:=
 one (ze P (do eqGuard op t x y a b;Go.binOp op t a b))
def WE(P:Program)(op:UnOp)(a:Value):Option Value:=one (ze P (Op.unary op a))
def wY(P:Program)(s d:TypeId)(a:Value):Option Value:=one (ze P (convert s d a))
def ixV(P:Program)(t:TypeId)(a i:Value):Option Value:=one (ze P (Instr.index t a i))
def scV(P:Program)(t:TypeId)(a:Value)(lo hi mx:Option Value):Option Value:=one (ze P (Instr.slice t a lo hi mx))
def yv(P:Program)(b:Builtin)(ts:Array TypeId)(t:TypeId)(as_:List Value):Option Value:=
 match b with
 | .min=>one (ze P (Builtin.min_ ts t as_.toArray))
 | .max=>one (ze P (Builtin.max_ ts t as_.toArray))
 | .len=>one (ze P (Builtin.len_ ts t as_.toArray))
 |_=>none
def VA:AV->Option Bool
 | .sl _ _=>some false
 | .us _ _=>some false
 | .ms _ _ _ _ _=>some false
 | .sc (.slice none _ _)=>some true
 |_=>none
def vg:AV->Option Bool
 | .ptr _ _ _=>some false
 | .sc (.pointer none)=>some true
 |_=>none
def XJ:Value->Bool
 | .pointer none=>true
 |_=>false
def qn(l:Slots)(k:Nat):SV:=
 match l with
 |[]=>.un
 |(j,s)::r=>match Nat.beq j k with|true=>s|false=>qn r k
def yH(l:Slots)(d:Option Tmp)(s:SV):Slots:=
 match d with
 |some k=>(k,s)::l
 |none=>l
def qU(b:Boxes)(k:Nat):Option (Nat×List AV):=
 match b with
 |[]=>none
 |(j,g,cs)::r=>match Nat.beq j k with|true=>some (g,cs)|false=>qU r k
def wn(b:Boxes)(k g:Nat)(cs:List AV):Boxes:=(k,g,cs)::b
def qO(l:Slots):Operand->SV
 | .tmp t=>qn l t
 | .const v=>match v with
  | .agg cs=>if cs.toList.all (·.oneCell')=true then .av (.agg (cs.toList.map .sc))else .un
  | .tuple _=>.un
  |v=>.sv v
 | .global _=>.un
 | .func f=>.av (.fn f [])
def QA(k:TK):SV->SV
 | .sv v=>if Ja k then .sv v else .av (.sc v)
 |s=>s
def qR(l:List Value):List AV:=l.map .sc
def xG:TK->Bool
 | .tu=>true
 |_=>false
def Cx.tn(c:Cx)(t:TypeId):Option TI:=
 match c.tt t with
 |some ti=>if xG ti.k then none else some ti
 |none=>none
def vG(p:Prop)[Decidable p]:Option Unit:=if p then some ()else none
def XU(a b:Nat):Option Unit:=vG (a=b)
def XV(b:Bool):Option Unit:=vG (b=true)
def YY(cs:List AV):Option Unit:=vG (cs.all vl=true)
abbrev Orc:=FuncId->List AV->Hp->Option (AV×Hp)
abbrev BE:=Option (Nat×Nat×List AV)
abbrev Kt(R:Type):=SV->BE->Hp->Option R
def Yp(ti:TI):Bool:=
 match ti.k,ti.zero with
 | .sc,[.int .u8 _]=>true
 |_,_=>false
def Zg(ti:TI):Bool:=
 match ti.k,ti.zero with
 | .sc,[.string _]=>true
 |_,_=>false
def qdd(ti:TI):Bool:=
 match ti.k,ti.zero with
 | .ot,[.pointer none]=>true
 |_,_=>false
def qd0:AV->Option (List AV)
 | .agg cs=>some cs
 |_=>none
def Qm:SV->Option (List AV)
 | .av x=>qd0 x
 |_=>none
def wT:AV->Bool
 | .agg _=>false
 | .tup _=>false
 |_=>true
def qed(xs:List AV):Option Unit:=XV (xs.all wT)
def Qk:Value->Option ByteArray
 | .string s=>some s
 |_=>none
def jx:SV->Option Value
 | .sv v=>some v
 |_=>none
def QB:AV->Option Unit
 | .ptr _ _ _=>some ()
 | .fn _ _=>some ()
 |_=>none
def xN:AV->Option (Nat×Nat×Nat×Nat×Nat)
 | .ms b g o n z=>some (b,g,o,n,z)
 |_=>none
def valC(n:Nat):SV->Option (List AV)
 | .sv v=>if n=1 then some [.sc v]else none
 | .av x=>qu n x
 |_=>none
def Yg(ev:Operand->SV):Option Operand->Option (Option Value)
 |none=>some none
 |some o=>(jx (ev o)).bind fun v=>some (some v)
def wh:List SV->Option (List AV)
 |[]=>some []
 |s::r=>(Jr s).bind fun x=>(wh r).bind fun l=>some (x::l)
def ZA:List SV->Option (List Value)
 |[]=>some []
 |s::r=>(jx s).bind fun x=>(ZA r).bind fun l=>some (x::l)
def wF(c:Cx)(fs:List (Nat×TypeId))(i:Nat):Option (Nat×Nat):=
 match fs[i]? with
 |some p=>match c.tn p.2 with
  |some fi=>some (p.1,fi.size)
  |none=>none
 |none=>none
def zR{R:Type}(jW:Nat->Option (Nat×Nat))(ev:Operand->SV)(K:List AV->Option R):List (Nat×Operand)->List AV->Option R
 |[],cs=>K cs
 |(i,x)::r,cs=>
  match jW i with
  |none=>none
  |some (off,n)=>(valC n (ev x)).bind fun vs=>(qC cs off vs).bind fun cs'=>zR jW ev K r cs'
def zl{R:Type}(ti:TI)(h:Nat)(cs:List AV)(off:Nat)(K:SV->List AV->Option R):Option R:=
 if Ja ti.k then(qm cs off).bind fun v=>K (.sv v) cs
 else if zU ti.k then(qJ cs off ti.size).bind fun l=>
  if h=1 then(qC cs off (l.map ro1)).bind fun cs'=>K (.av (.agg l)) cs' else K (.av (.agg (l.map ro1))) cs
 else(zH cs off).bind fun x=>if h=1 then K (.av x) (cs.set off (ro1 x))else K (.av (ro1 x)) cs
def yn:AV->Option Unit
 | .tup _=>none
 |_=>some ()
def Qw{R:Type}(ti:TI)(r:AV)(K:SV->Option R):Option R:=
 match ti.k with
 | .sc=>(yw r).bind fun v=>K (.sv v)
 | .tu=>(yf ti.size r).bind fun _=>K (.tp ((List.range ti.size).map (zM r)))
 |_=>(yn r).bind fun _=>K (.av r)
def qY{R:Type}(h:Nat)(ti:TI)(a:SV)(gb:Nat->Option (Nat×List AV))(hp:Hp)(K:Kt R):Option R:=
 match a with
 | .lp k g off=>match gb k with
  |some (g',cs)=>if g=g' then zl ti h cs off fun s cs'=>K s (if h=1 then some (k,g,cs')else none) hp else none
  |none=>none
 | .rv cs=>if h=1 then none else zl ti h cs 0 fun s _=>K s none hp
 | .av x=>(qT x).bind fun p=>(hp.rd p.1 p.2.1).bind fun cs=>zl ti h cs p.2.2 fun s cs'=>K s none (if h=1 then hp.put p.1 p.2.1 cs' else hp)
 |_=>none
def je{R:Type}(ti:TI)(a x:SV)(gb:Nat->Option (Nat×List AV))(hp:Hp)(K:Kt R):Option R:=
 (valC ti.size x).bind fun vs=>
 match a with
 | .lp k g off=>match gb k with
  |some (g',cs)=>if g=g' then(qC cs off vs).bind fun cs'=>K .un (some (k,g,cs')) hp else none
  |none=>none
 | .av x=>(qT x).bind fun p=>(hp.rd p.1 p.2.1).bind fun cs=>(qC cs p.2.2 vs).bind fun cs'=>K .un none (hp.put p.1 p.2.1 cs')
 |_=>none
def zI{R:Type}(c:Cx)(ti:TI)(a:SV)(f:Nat)(K:SV->Option R):Option R:=
 match ti.k with
 | .st fs=>match fs[f]? with
  |some (fo,ft)=>match c.tn ft with
   |some fi=>if fi.size=0 then none else
    match a with
    | .lp k g off=>K (.lp k g (off+fo))
    | .rv cs=>K (.rv (cs.drop fo))
    | .av x=>(qT x).bind fun p=>K (.av (.ptr p.1 p.2.1 (p.2.2+fo)))
    |_=>none
   |none=>none
  |none=>none
 |_=>none
def zG{R:Type}(c:Cx)(h:Nat)(ti:TI)(a i:SV)(K:SV->Option R):Option R:=
 match i with
 | .sv iv=>match ti.k with
  | .sl e=>match c.tn e with
   |some ei=>match a with
    | .av x=>
     if h=2 then(xN x).bind fun p=>(idx p.2.2.2.1 iv).bind fun j=>(XU p.2.2.2.2 ei.size).bind fun _=>K (.av (.ptr p.1 p.2.1 (p.2.2.1+j*ei.size)))
     else(zN ei.size x iv).bind fun cs=>K (.rv cs)
    |_=>none
   |none=>none
  | .ar n e=>match c.tn e with
   |some ei=>match a with
    | .lp k g off=>(idx n iv).bind fun j=>K (.lp k g (off+j*ei.size))
    | .rv cs=>(idx n iv).bind fun j=>K (.rv (cs.drop (j*ei.size)))
    | .av x=>(qT x).bind fun p=>(idx n iv).bind fun j=>K (.av (.ptr p.1 p.2.1 (p.2.2+j*ei.size)))
    |_=>none
   |none=>none
  |_=>none
 |_=>none
def xT{R:Type}(c:Cx)(h:Nat)(ti:TI)(t:TypeId)(a:SV)(lo hi mx:Option Value)(K:SV->Option R):Option R:=
 match ti.k with
 | .sl e=>match c.tn e with
  |some ei=>match a with
   | .av x=>
    if h=2 then(xN x).bind fun p=>(qx 0 p.2.2.2.1 mx p.2.2.2.1).bind fun m=>(qx 0 m hi p.2.2.2.1).bind fun hh=>(qx 0 hh lo 0).bind fun l=>
     (XU p.2.2.2.2 ei.size).bind fun _=>K (.av (.ms p.1 p.2.1 (p.2.2.1+l*ei.size) (hh-l) ei.size))
    else(zE ei.size x lo hi mx).bind fun z=>K (.av z)
   |_=>none
  |none=>none
 | .sc=>match a with
  | .sv v=>(scV c.P t v lo hi mx).bind fun z=>K (.sv z)
  |_=>none
 |_=>none
def usA:SV->Option (List AV)
 | .av (.us z cs)=>if z=1 then some cs else none
 |_=>none
def Qa{R:Type}(c:Cx)(s d:TypeId)(si di:TI)(a:SV)(K:SV->Option R):Option R:=
 match di.k with
 | .sl e=>match c.tn e with
  |some ei=>if Yp ei=true then(if s=d then(usA a).bind fun cs=>K (.av (.sl 1 cs))else(jx a).bind fun v=>(Qk v).bind fun b=>K (.av (.sl 1 (b.data.toList.map fun x=>.sc (.int .u8 x.toNat)))))else none
  |none=>none
 |_=>match si.k with
  | .sl e=>match c.tn e with
   |some ei=>if(Yp ei&&Zg di)=true then(Jr a).bind fun x=>(yR 1 x).bind fun cs=>(zb cs).bind fun l=>K (.sv (.string ⟨l.toArray⟩))else none
   |none=>none
  |_=>(jx a).bind fun v=>(wY c.P s d v).bind fun z=>K (.sv z)
def XX{R:Type}(c:Cx)(op:BinOp)(t:TypeId)(x y:Operand)(a b:SV)(K:SV->Option R):Option R:=
 match a,b with
 | .sv v,.sv w=>(qq c.P op t x y v w).bind fun z=>K (.sv z)
 | .av v,.sv w=>if xM w then
  match c.tn t with
  |some ti=>match ti.k with
   | .sl _=>(VA v).bind fun n=>(match op with| .eql=>K (.sv (.bool n))| .neq=>K (.sv (.bool !n))|_=>none)
   |_=>none
  |none=>none
  else if XJ w then
  match c.tn t with
  |some ti=>if qdd ti=true then(vg v).bind fun n=>(match op with| .eql=>K (.sv (.bool n))| .neq=>K (.sv (.bool !n))|_=>none)else none
  |none=>none
  else(vF v).bind fun v'=>(qq c.P op t x y v' w).bind fun z=>K (.sv z)
 | .av v,.av w=>(vF v).bind fun v'=>(vF w).bind fun w'=>(qq c.P op t x y v' w').bind fun z=>K (.sv z)
 |_,_=>none
def selV(t:Bool)(x y:Value):Value:=
 match t with
 |true=>x
 |false=>y
def wG{R:Type}(c a b:SV)(K:SV->Option R):Option R:=
 (jx c).bind fun v=>(YH v).bind fun t=>
  match a,b with
  | .sv x,.sv y=>K (.sv (selV t x y))
  |s,r=>cond t (K s.ro) (K r.ro)
def vi:AV->Option Nat
 | .map b=>some b
 |_=>none
def Zk(sz:Nat)(n:Nat)(cs:List AV):Nat×List AV:=(min (vI sz cs) n,cs.take (min (vI sz cs) n*sz))
def Xi(hp:Hp)(sz:Nat)(x:AV):Option (List AV):=
 match xN x with
 |some p=>(vG (p.2.2.2.2=sz/\0<sz)).bind fun _=>(hp.rd p.1 p.2.1).bind fun cs=>(qJ cs p.2.2.1 (p.2.2.2.1*sz)).bind fun l=>some (l.map ro1)
 |none=>yR sz x
def qdz(bytes sz:Nat)(d s:AV)(hp:Hp):Option (AV×Hp):=
 (Xi hp sz s).bind fun ys=>match ys with
 |[]=>(Ka bytes sz d []).bind fun y=>some (y,hp)
 |y::ys=>match d with
  | .us z []=>(vG (z=sz/\yS bytes sz (y::ys).length=true)).bind fun _=>some (.ms hp.next 0 0 (vI sz (y::ys)) sz,hp.new (y::ys))
  | .us z (q::cs)=>(YY (y::ys)).bind fun _=>(Ka bytes sz (.us z (q::cs)) (y::ys)).bind fun r=>some (r,hp)
  | .sc v=>(vG (xM v=true/\yS bytes sz (y::ys).length=true)).bind fun _=>some (.ms hp.next 0 0 (vI sz (y::ys)) sz,hp.new (y::ys))
  | .ms b g off n z=>(vG (z=sz/\off=0/\0<n)).bind fun _=>(hp.rd b g).bind fun cs=>
   (vG (n*sz<=cs.length/\yS bytes sz (n*sz+(y::ys).length)=true)).bind fun _=>some (.ms hp.next 0 0 (n+vI sz (y::ys)) sz,(hp.del b).new ((cs.take (n*sz)).map ro1++(y::ys)))
  |_=>none
def QF{R:Type}(c:Cx)(h:Nat)(o:Oper)(b:Builtin)(ts:List TypeId)(as_:List SV)(hp:Hp)(K:SV->Hp->Option R):Option R:=
 match b,ts,as_ with
 | .len,[t],[.av x]=>match c.tn t with
  |some ti=>match ti.k with
   | .sl _=>(jq x).bind fun n=>K (.sv (.int .i64 n)) hp
   | .mp _ _=>(vG (h=2)).bind fun _=>(vi x).bind fun b=>(hp.rdM b).bind fun es=>K (.sv (.int .i64 es.length)) hp
   |_=>none
  |none=>none
 | .append,[t,t'],[d,s]=>if t'≠t then none else match c.tn t with
  |some ti=>match ti.k with
   | .sl e=>match c.tn e with
    |some ei=>(Jr d).bind fun d'=>(Jr s).bind fun s'=>if h=2 then(qdz ei.bytes ei.size d' s' hp).bind fun q=>K (.av q.1) q.2 else(yg ei.bytes ei.size d' s').bind fun y=>K (.av y) hp
    |none=>none
   |_=>none
  |none=>none
 | .copy,[t,_],[.av d,.av s]=>match c.tn t with
  |some ti=>match ti.k with
   | .sl e=>match c.tn e with
    |some ei=>(vG (h=2/\0<ei.size)).bind fun _=>(xN d).bind fun p=>(XU p.2.2.2.2 ei.size).bind fun _=>(Xi hp ei.size s).bind fun ys=>(hp.rd p.1 p.2.1).bind fun cs=>
     (qC cs p.2.2.1 (Zk ei.size p.2.2.2.1 ys).2).bind fun cs'=>K (.sv (.int .i64 ((Zk ei.size p.2.2.2.1 ys).1:Nat))) (hp.put p.1 p.2.1 cs')
    |none=>none
   |_=>none
  |none=>none
 |b,ts,as_=>(ZA as_).bind fun vs=>(yv c.P b ts.toArray o.type vs).bind fun z=>K (.sv z) hp
def tN(n:Int):Nat:=n.toNat
def qat(bytes size:Nat)(n n':Int):Option Unit:=vG (n=n'/\0<=n/\yS bytes 1 n.toNat=true/\0<size)
def Xb(n:Int)(z:List Value):List AV:=(List.replicate n.toNat (qR z)).flatten
def QD(hp:Hp)(x:AV):Option (AV×Hp):=
 match x with
 | .ms b g off n z=>(vG (0<z)).bind fun _=>(hp.rd b g).bind fun cs=>(qJ cs off (n*z)).bind fun l=>(vG (l.all vl=true)).bind fun _=>some (.sl z (l.map ro1),hp.del b)
 |x=>some (x,hp)
def Jc(hp:Hp):List AV->Option (List AV×Hp)
 |[]=>some ([],hp)
 |x::r=>(QD hp x).bind fun p=>(Jc p.2 r).bind fun q=>some (p.1::q.1,q.2)
def XO(k:TK)(hp:Hp)(s:SV):Option (SV×Hp):=
 match s with
 | .av x=>if zU k then(Qm (.av x)).bind fun cs=>(Jc hp cs).bind fun q=>some (.av (.agg q.1),q.2)else(QD hp x).bind fun q=>some (.av q.1,q.2)
 |s=>some (s,hp)
def VL{R:Type}(k:TK)(hp:Hp)(s:SV)(K:SV->Hp->Option R):Option R:=
 match s with
 | .av x=>if zU k then(Qm (.av x)).bind fun cs=>(Jc hp cs).bind fun q=>K (.av (.agg q.1)) q.2 else(QD hp x).bind fun q=>K (.av q.1) q.2
 |s=>K s hp
def orA(f:Option AV)(x:AV):AV:=f.getD x
def isS(f:Option AV):Bool:=f.isSome
def KC(ti:TI):Bool:=
 match ti.k,ti.zero with
 | .sc,[.int _ _]=>true
 |_,_=>false
def KD(ti:TI):Bool:=
 match ti.k,ti.zero with
 | .sc,[.bool _]=>true
 |_,_=>false
def qda(ti:TI):Value->Bool
 | .int _ _=>KC ti
 | .string _=>Zg ti
 | .bool _=>KD ti
 |_=>false
def wd(ti:TI):AV:=if zU ti.k then .agg (qR ti.zero)else(qR ti.zero).headD (.agg [])
def mapV:SV->Option AV
 | .sv v=>some (.sc v)
 | .av x=>some (ro x)
 |_=>none
def ofA(k:TK)(x:AV):Option SV:=if Ja k then(yw x).bind fun v=>some (.sv v)else some (.av x)
def KA(ok:Bool)(ei:TI)(f:Option AV):Option SV:=
 match ok with
 |true=>some (.tp [orA f (wd ei),.sc (.bool (isS f))])
 |false=>ofA ei.k (orA f (wd ei))
def ofAK{R:Type}(k:TK)(x:AV)(K:SV->Option R):Option R:=if Ja k then(yw x).bind fun v=>K (.sv v)else K (.av x)
def XG{R:Type}(ok:Bool)(ei:TI)(f:Option AV)(K:SV->Option R):Option R:=
 match ok with
 |true=>K (.tp [orA f (wd ei),.sc (.bool (isS f))])
 |false=>ofAK ei.k (orA f (wd ei)) K
def ju{R:Type}(c:Cx)(t:TypeId)(x i:SV)(ok:Bool)(hp:Hp)(K:SV->Option R):Option R:=
 match c.tn t with
 |some ti=>match ti.k with
  | .mp kt et=>match c.tn kt,c.tn et with
   |some ki,some ei=>(Jr x).bind fun x'=>(vi x').bind fun b=>(hp.rdM b).bind fun es=>(jx i).bind fun k=>(XV (qda ki k)).bind fun _=>(Yu k es).bind fun f=>XG ok ei f K
   |_,_=>none
  |_=>none
 |none=>none
def xx{R:Type}(c:Cx)(t:TypeId)(m k x:SV)(hp:Hp)(K:Hp->Option R):Option R:=
 match c.tn t with
 |some ti=>match ti.k with
  | .mp kt et=>match c.tn kt,c.tn et with
   |some ki,some ei=>(Jr m).bind fun m'=>(vi m').bind fun b=>(hp.rdM b).bind fun es=>(jx k).bind fun kv=>(XV (qda ki kv)).bind fun _=>(mapV x).bind fun v=>
    (Vn kv v es).bind fun es'=>K (hp.put b 1 es')
   |_,_=>none
  |_=>none
 |none=>none
def zQ(xs caps:List AV):Option Unit:=vG (xs.all vlF=true/\caps.all vl=true)
def jX(y:AV):Option Unit:=vG (vlV y=true)
def zd{R:Type}(c:Cx)(C:Orc)(h:Nat)(ti:TI)(f:FuncId)(caps:List AV)(as_:List SV)(hp:Hp)(K:Kt R):Option R:=
 (wh as_).bind fun xs=>
 if h=2 then(C f ((xs.map ro)++caps) hp).bind fun p=>Qw ti p.1 fun s=>K s none p.2
 else if h=4 then(C f (caps++(xs.map ro)) hp).bind fun p=>Qw ti p.1 fun s=>K s none p.2
 else(zQ xs caps).bind fun _=>(C f ((xs.map ro)++caps) hp0).bind fun p=>(jX p.1).bind fun _=>Qw ti p.1 fun s=>K s none hp
def qi{R:Type}(c:Cx)(C:Orc)(h:Nat)(o:Oper)(ev:Operand->SV)(gb:Nat->Option (Nat×List AV))(hp:Hp)(K:Kt R):Option R:=
 match o.op with
 | .move x=>match c.tt o.type with
  |some ti=>if h=3 then VL ti.k hp (QA ti.k (ev x).ro) fun s q=>K s none q else K (if h=1 then QA ti.k (ev x)else QA ti.k (ev x).ro) none hp
  |none=>none
 | .assign x=>match c.tt o.type with
  |some ti=>if h=3 then VL ti.k hp (QA ti.k (ev x)) fun s q=>K s none q else K (QA ti.k (ev x)) none hp
  |none=>none
 | .pick a x y=>wG (ev a) (ev x) (ev y) fun s=>K s none hp
 | .alloc t=>match c.tn t with
  |some ti=>if h=2 then K (.av (.ptr hp.next 0 0)) none (hp.new (qR ti.zero))else
   match o.dst with
   |some d=>let g:=match gb d with|some (g,_)=>g+1|none=>0
    K (.lp d g 0) (some (d,g,qR ti.zero)) hp
   |none=>none
  |none=>none
 | .box t x=>match c.tn t with
  |some ti=>(valC ti.size (ev x)).bind fun vs=>if h=2 then K (.av (.ptr hp.next 0 0)) none (hp.new (vs.map ro1))else
   match o.dst with
   |some d=>let g:=match gb d with|some (g,_)=>g+1|none=>0
    K (.lp d g 0) (some (d,g,vs.map ro1)) hp
   |none=>none
  |none=>none
 | .build t ps=>match c.tn t with
  |some ti=>match ti.k with
   | .st fs=>if fs.all (fun p=>(c.tn p.2).isSome)=true then zR (wF c fs) ev (fun cs=>K (.av (.agg (cs.map ro1))) none hp) ps.toList (qR ti.zero)else none
   | .ar _ e=>match c.tn e with
    |some ei=>zR (fun i=>some (i*ei.size,ei.size)) ev (fun cs=>K (.av (.agg (cs.map ro1))) none hp) ps.toList (qR ti.zero)
    |none=>none
   |_=>none
  |none=>none
 | .buildSlice t n ps=>match c.tn t with
  |some ti=>match ti.k with
   | .sl e=>match c.tn e with
    |some ei=>if n*ei.size<=4096/\0<ei.size then
     zR (fun i=>some (i*ei.size,ei.size)) ev (fun cs=>(YY cs).bind fun _=>K (.av (.us ei.size (cs.map ro1))) none hp) ps.toList (List.replicate n (qR ei.zero)).flatten
     else none
    |none=>none
   |_=>none
  |none=>none
 | .load t a=>match c.tn t with
  |some ti=>if h=3 then qY 0 ti (ev a) gb hp fun s b q=>VL ti.k q s fun s' q'=>K s' b q' else qY h ti (ev a) gb hp K
  |none=>none
 | .store t a x=>match c.tn t with
  |some ti=>je ti (ev a) (ev x) gb hp K
  |none=>none
 | .nilCheck x=>match ev x with
  | .lp k g off=>K (.lp k g off) none hp
  | .av y=>(QB y).bind fun _=>K (.av y) none hp
  |_=>none
 | .binOp op t x y _=>XX c op t x y (ev x) (ev y) fun s=>K s none hp
 | .unOp op _ x=>(jx (ev x)).bind fun v=>(WE c.P op v).bind fun z=>K (.sv z) none hp
 | .convert s d x=>match c.tn s,c.tn d with
  |some si,some di=>Qa c s d si di (ev x) fun s=>K s none hp
  |_,_=>none
 | .makeFunc (.func f) fs cs=>if fs.toList.isEmpty=true then(wh (cs.toList.map ev)).bind fun xs=>if xs.all wT=true then(XV (Nat.blt f 4294967296)).bind fun _=>K (.av (.fn f (xs.map ro1))) none hp else none
  else if cs.toList.isEmpty=true then(wh (fs.toList.map ev)).bind fun xs=>(qed xs).bind fun _=>K (.av (.fn (4294967296+f) (xs.map ro1))) none hp else none
 | .makeSlice t l m=>match c.tn t with
  |some ti=>match ti.k with
   | .sl e=>match c.tn e with
    |some ei=>(jx (ev l)).bind fun lv=>(jx (ev m)).bind fun mv=>(Zp lv).bind fun n=>(Zp mv).bind fun n'=>
     (qat ei.bytes ei.size n n').bind fun _=>
      (if h=2 then K (.av (.ms hp.next 0 0 (tN n) ei.size)) none (hp.new (Xb n ei.zero))
       else K (.av (.us ei.size (Xb n ei.zero))) none hp)
    |none=>none
   |_=>none
  |none=>none
 | .slice t x lo hi mx=>match c.tn t with
  |some ti=>if mx.isSome&&!hi.isSome then none else(Yg ev lo).bind fun l=>(Yg ev hi).bind fun u=>(Yg ev mx).bind fun m=>xT c h ti t (ev x) l u m fun s=>K s none hp
  |none=>none
 | .fieldAddr t x f=>match c.tn t with
  |some ti=>zI c ti (ev x) f fun s=>K s none hp
  |none=>none
 | .field t x f=>match c.tn t with
  |some ti=>match ti.k with
   | .st fs=>match fs[f]? with
    |some (fo,ft)=>match c.tn ft with
     |some fi=>(Qm (ev x)).bind fun cs=>zl fi 0 cs fo fun s _=>K s none hp
     |none=>none
    |none=>none
   |_=>none
  |none=>none
 | .indexAddr t x i=>match c.tn t with
  |some ti=>zG c h ti (ev x) (ev i) fun s=>K s none hp
  |none=>none
 | .index t x i=>match c.tt o.type with
  |some ti=>if Ja ti.k then(Zl (ev x)).bind fun a=>(jx (ev i)).bind fun iv=>(ixV c.P t a iv).bind fun z=>K (.sv z) none hp else
   match c.tn t with
   |some xi=>match xi.k with
    | .ar n e=>match c.tn e with
     |some ei=>(Qm (ev x)).bind fun cs=>(jx (ev i)).bind fun iv=>(idx n iv).bind fun j=>zl ei 0 cs (j*ei.size) fun s _=>K s none hp
     |none=>none
    |_=>none
   |none=>none
  |none=>none
 | .extract x i=>match ev x with
  | .tp l=>match l[i]? with
   |some y=>match c.tt o.type with
    |some ti=>if Ja ti.k then(yw y).bind fun v=>K (.sv v) none hp else if h=1 then K (.av (ro y)) none hp else K (.av y) none hp
    |none=>none
   |none=>none
  |_=>none
 | .makeMap t none=>if h=2 then K (.av (.map hp.next)) none hp.newM else none
 | .lookup t x i ok=>if h=2 then ju c t (ev x) (ev i) ok hp fun s=>K s none hp else none
 | .mapUpdate t m k x=>if h=2 then xx c t (ev m) (ev k) (ev x) hp fun q=>K .un none q else none
 | .call cl=>match cl.callee with
  | .builtin b=>QF c h o b cl.argTypes.toList (cl.args.toList.map ev) hp fun s q=>K s none q
  | .value (.func f)=>match c.F f,c.tt o.type with
   |some fn,some ti=>match fn.body with
    |some _=>zd c C h ti f [] (cl.args.toList.map ev) hp K
    |none=>(ZA (cl.args.toList.map ev)).bind fun vs=>(one (c.X f vs)).bind fun z=>K (.sv z) none hp
   |_,_=>none
  | .value (.tmp t)=>match c.tt o.type with
   |some ti=>match ev (.tmp t)with
    | .av x=>if h=4 then(wR x).bind fun p=>zd c C h ti p.1 p.2 (cl.args.toList.map ev) hp K else(wP x).bind fun p=>zd c C h ti p.1 p.2 (cl.args.toList.map ev) hp K
    |_=>none
   |none=>none
  |_=>none
 |_=>none
structure Fp where
 rs:List Nat
 ws:List Nat
 br:Option Nat
 bw:Option Nat
 hr:Bool
 hw:Bool
 nw:Bool
 lq:Option (AV×Nat)
 gb:Nat->Option (Nat×List AV)
 ga:Nat->Option (Nat×List AV)
def zT(q:AV×Nat)(g:Nat->Option (Nat×List AV)):Option (List AV):=
 (qT q.1).bind fun p=>(g p.1).bind fun z=>if z.1=0 then(qJ z.2 p.2.2 q.2).map (List.map ro1)else none
noncomputable def vx(q:AV×Nat)(g g':Nat->Option (Nat×List AV)):Option Unit:=
 @ite _ (zT q g=zT q g') (Classical.propDecidable _) (some ()) none
def Ym(h:Nat)(o:Oper)(tn:TypeId->Option TI)(ev:Operand->SV):Option (AV×Nat):=
 match o.op with
 | .load t a=>match ev a with
  | .av x=>match h==1||h==3 with
   |true=>none
   |false=>match tn t with
    |some ti=>some (x,match zU ti.k with|true=>ti.size|false=>1)
    |none=>none
  |_=>none
 |_=>none
def XL(b:Bool)(hp:Hp):Nat->Option (Nat×List AV):=
 match b with
 |true=>hp.get
 |false=>fun _=>none
inductive It where
 |code (c:Code)
 |inBlock (id:Nat)
 |inLoop (body:Code)
 |inScope (body:Code)
 |ops (r:Nat) (ops:Array Oper) (is:List Nat) (d:Bool) (acc:List (Nat×Fp))
def dn(t:Tmp)(l:Slots):Slots:=(t,(qn l t).ro)::l
def dnX(t:Tmp)(i:Nat)(l:Slots):Slots:=
 match qn l t with
 | .tp xs=>(t,.tp (match xs[i]? with|some y=>xs.set i (ro y)|none=>xs))::l
 |_=>l
def qQ:List Operand->List Nat
 |[]=>[]
 | .tmp t::r=>t::qQ r
 |_::r=>qQ r
def qy(h:Nat)(o:Oper):List Nat:=
 match o.op with
 | .move x=>if h=1 then qQ [x]else []
 | .assign x=>qQ [x]
 | .store _ _ x=>qQ [x]
 | .extract x _=>if h=1 then []else qQ [x]
 | .convert s d x=>if s=d then qQ [x]else []
 | .call c=>match c.callee with
  | .builtin .append=>qQ c.args.toList
  |_=>[]
 |_=>[]
def qs(ts:List Nat)(l:Slots):Slots:=ts.foldl (fun l t=>dn t l) l
def qo(h:Nat)(o:Oper)(l:Slots):Slots:=
 match o.op with
 | .extract (.tmp t) i=>if h=1 then l else dnX t i l
 |_=>qs (qy h o) l
def zz(h:Nat)(o:Oper)(ev:Operand->SV):Option Nat×Option Nat:=
 match o.op with
 | .load _ a=>match ev a with
  | .lp k _ _=>if h=1 then(none,some k)else(some k,none)
  |_=>(none,none)
 | .store _ a _=>match ev a with
  | .lp k _ _=>(none,some k)
  |_=>(none,none)
 | .alloc _=>if h=2 then(none,none)else(none,o.dst)
 | .box _ _=>if h=2 then(none,none)else(none,o.dst)
 |_=>(none,none)
def qG(h:Nat)(o:Oper)(ev:Operand->SV):Bool×Bool×Bool:=
 match o.op with
 | .load _ a=>match ev a with
  | .av _=>(h==1||h==3,h==1||h==3,h==3)
  |_=>(h==3,h==3,h==3)
 | .move _=>(h==3,h==3,h==3)
 | .assign _=>(h==3,h==3,h==3)
 | .makeMap _ _=>(true,true,true)
 | .lookup _ _ _ _=>(true,false,false)
 | .mapUpdate _ _ _ _=>(true,true,true)
 | .store _ a _=>match ev a with
  | .av _=>(false,true,false)
  |_=>(false,false,false)
 | .alloc _=>(false,h==2,h==2)
 | .box _ _=>(false,h==2,h==2)
 | .makeSlice _ _ _=>(false,h==2,h==2)
 | .call c=>match c.callee with
  | .builtin _=>(h==2,h==2,h==2)
  |_=>(h==2||h==4,h==2||h==4,h==2||h==4)
 |_=>(false,false,false)
def qfi(tn:TypeId->Option TI)(h:Nat)(ops:Array Oper)(o:Oper)(l:Slots)(hp hp':Hp):Fp:=
 let b:=zz h o (qO l)
 let q:=qG h o (qO l)
 {rs:=o.looksAt ops,ws:=o.dst.toList++qy h o,br:=b.1,bw:=b.2,hr:=q.1,hw:=q.2.1,nw:=q.2.2,lq:=Ym h o tn (qO l),gb:=XL q.2.1 hp,ga:=XL q.2.1 hp'}
def vm(ops:Array Oper)(o:Oper):Fp:=
 {rs:=o.looksAt ops,ws:=o.dst.toList,br:=none,bw:=none,hr:=false,hw:=false,nw:=false,lq:=none,gb:=fun _=>none,ga:=fun _=>none}
def Za(a b:List Nat):Bool:=a.any fun x=>b.contains x
def KM(a b:Fp):Bool:=
 Za a.ws b.rs||Za a.ws b.ws||Za a.rs b.ws||
 (match a.bw,b.bw with|some x,some y=>x==y|_,_=>false)||
 (match a.bw,b.br with|some x,some y=>x==y|_,_=>false)||
 (match a.br,b.bw with|some x,some y=>x==y|_,_=>false)||
 (a.hw&&(b.hr||b.hw))||(a.hr&&b.hw)||(a.nw&&b.nw)
def zh:List Oper->List (List Nat)->List (List Nat)
 |[],t=>t
 |o::r,t=>
  let ds:=(o.after.toList.filter fun e=>Region.binds .any e).map (·.on)
  zh r (t++[(ds++ds.flatMap fun j=>t.getD j []).eraseDups])
def wW(ops:Array Oper):Bool:=(List.range ops.size).all fun i=>match ops[i]? with
 |some o=>o.after.toList.all fun e=>!Region.binds .any e||decide (e.on<i)
 |none=>true
def vn(ops:Array Oper)(acc:List (Nat×Fp)):Bool:=
 let t:=zh ops.toList []
 wW ops&&acc.all fun p=>acc.all fun q=>!(decide (p.1<q.1))||(t.getD q.1 []).contains p.1||!(KM p.2 q.2)
def ZO(t:List (List Nat))(i j:Nat):Bool:=(t.getD j []).contains i||(t.getD i []).contains j
noncomputable def VQ(t:List (List Nat))(p q:Nat×Fp)(r:List (Option Unit)):List (Option Unit):=
 match p.2.lq with
 |none=>r
 |some x=>match q.2.hw with
  |false=>r
  |true=>match ZO t p.1 q.1 with
   |true=>r
   |false=>vx x q.2.gb q.2.ga::r
noncomputable def qbk(t:List (List Nat))(p:Nat×Fp):List (Nat×Fp)->List (Option Unit)->List (Option Unit)
 |[],r=>r
 |q::l,r=>VQ t p q (qbk t p l r)
noncomputable def qfn(t:List (List Nat))(acc:List (Nat×Fp)):List (Nat×Fp)->List (Option Unit)
 |[]=>[]
 |p::l=>qbk t p acc (qfn t acc l)
noncomputable def qcy(ops:Array Oper)(acc:List (Nat×Fp)):List (Option Unit):=qfn (zh ops.toList []) acc acc
def KO{R:Type}:List (Option Unit)->Option R->Option R
 |[],X=>X
 |o::l,X=>o.bind fun _=>KO l X
def jf(b:Boxes):List Nat->Boxes
 |[]=>[]
 |k::r=>match qU b k with
  |some (g,cs)=>(k,g,cs)::jf b r
  |none=>jf b r
def wK(b:Boxes)(s:SV):SV:=
 match s with
 | .lp k g o=>match qU b k with
  |some _=>.lp k g o
  |none=>.un
 |s=>s
def xa(b:Boxes)(l:Slots):List Nat->Slots
 |[]=>[]
 |k::r=>match wK b (qn l k)with
  | .un=>xa b l r
  |s=>(k,s)::xa b l r
def mask(m:Option (List Nat))(st:St):St:=
 match m with
 |none=>st
 |some live=>⟨xa (jf st.bx live) st.sl live,jf st.bx live,st.hp⟩
def QU(id:Nat):List It->Option (List It)
 |[]=>none
 | .inBlock j::k=>if j=id then some k else QU id k
 |_::k=>QU id k
def wC{R:Type}(st:St)(tt:TypeId->Option TI)(r:ResultVar)(K:AV->Option R):Option R:=
 match r with
 | .tmp t=>(Jr (qn st.sl t)).bind K
 | .cell a ty=>match tt ty with
  |some ti=>match qn st.sl a with
   | .lp k g off=>match qU st.bx k with
    |some (g',cs)=>if g=g' then
     (if zU ti.k then(qJ cs off ti.size).bind fun l=>K (.agg l)else(zH cs off).bind K)
     else none
    |none=>none
   |_=>none
  |none=>none
def yD{R:Type}(st:St)(tt:TypeId->Option TI)(K:List AV->Option R):List ResultVar->Option R
 |[]=>K []
 |r::l=>wC st tt r fun x=>yD st tt (fun xs=>K (x::xs)) l
def xL(st:St):ResultVar->Nat×Nat
 | .tmp t=>(0,t)
 | .cell a _=>match qn st.sl a with
  | .lp k _ _=>(1,k)
  |_=>(2,0)
def Ku(k:Nat×Nat):List (Nat×Nat)->Bool
 |[]=>true
 |j::r=>match Nat.beq j.1 k.1&&Nat.beq j.2 k.2 with|true=>false|false=>Ku k r
def yq:List (Nat×Nat)->Bool
 |[]=>true
 |k::r=>match Ku k r with|true=>yq r|false=>false
def Js(c:Cx)(f:FuncId)(st:St):Option (AV×Hp):=
 match c.F f with
 |some fn=>cond (yq (fn.results.toList.map (xL st))) (yD st c.tn (fun l=>match l with
  |[x]=>some (x,st.hp)
  |l=>some (.tup l,st.hp)) fn.results.toList) none
 |none=>none
def jh{R:Type}(c:Cx):Nat->List TypeId->List AV->(Slots->Option R)->Option R
 |_,[],[],K=>K []
 |i,[],x::xs,K=>jh c (i+1) [] xs fun l=>K ((i,.av x)::l)
 |_,_::_,[],_=>none
 |i,t::ts,x::xs,K=>match c.tn t with
  |some ti=>if Ja ti.k then(yw x).bind fun v=>jh c (i+1) ts xs fun l=>K ((i,.sv v)::l)else jh c (i+1) ts xs fun l=>K ((i,.av x)::l)
  |none=>none
def after(h:Nat)(o:Oper)(st:St)(s:SV)(b:BE)(hp:Hp):St:=
 ⟨yH (qo h o st.sl) o.dst s,(match b with|some (k,g,cs)=>wn st.bx k g cs|none=>st.bx),hp⟩
def jd(o:Oper)(ops:Array Oper):Option (Option (Nat×Bool)):=
 match o.guard with
 |none=>some none
 |some (j,want)=>match ops[j]? with
  |some oj=>match oj.dst with
   |some d=>some (some (d,want))
   |none=>none
  |none=>none
def Ke(d:Bool)(i:Nat)(p:Fp)(acc:List (Nat×Fp)):List (Nat×Fp):=if d then(i,p)::acc else acc
theorem jR{R:Type}:∀{l:List (Option Unit)} {X:Option R} {r:R},KO l X=some r->(∀o∈l,o=some ())/\X=some r
 |[],X,r,h=>⟨qe,h⟩
 |o::l,X,r,h=>by
  obtain⟨u,hu,h⟩:=bsm h
  obtain⟨h1,h2⟩:=jR h
  refine⟨fun o' ho=>?_,h2⟩
  rcases qjf.mp ho with rfl|ho
  ·exact hu
  ·exact h1 o' ho
theorem Qi{R:Type}:∀{l:List (Option Unit)} {X:Option R} {r:R},(∀o∈l,o=some ())->X=some r->KO l X=some r
 |[],X,r,_,h=>h
 |o::l,X,r,h1,h=>by
  show o.bind _=_
  rw[h1 o qe]
  exact Qi (fun o ho=>h1 o (by simp[ho])) h
theorem Xk{q:AV×Nat}{g g':Nat->Option (Nat×List AV)}(h:vx q g g'=some ()):zT q g=zT q g':=by
 unfold vx at h
 split at h
 ·assumption
 ·cases h
theorem Yw{t:List (List Nat)}{p q:Nat×Fp}{x:AV×Nat}(hx:p.2.lq=some x)(hw:q.2.hw=true)(ho:ZO t p.1 q.1=false):
 ∀{l:List (Nat×Fp)} {r:List (Option Unit)},q∈l->vx x q.2.gb q.2.ga∈qbk t p l r
 |q'::l,r,hq=>by
  show _∈VQ t p q' (qbk t p l r)
  rcases qjf.mp hq with rfl|hq
  ·simp only[VQ,hx,hw,ho]
   exact List.mem_cons_self ..
  ·have ih:=Yw hx hw ho (r:=r) hq
   unfold VQ
   split
   ·exact ih
   ·split
    ·exact ih
    ·split
     ·exact ih
     ·exact List.mem_cons_of_mem _ ih
theorem VP{t:List (List Nat)}{p q:Nat×Fp}{r:List (Option Unit)}{o:Option Unit}(h:o∈r):o∈VQ t p q r:=by
 unfold VQ
 split
 ·exact h
 ·split
  ·exact h
  ·split
   ·exact h
   ·exact List.mem_cons_of_mem _ h
theorem Zj{t:List (List Nat)}{p:Nat×Fp}{o:Option Unit}:∀{l:List (Nat×Fp)} {r:List (Option Unit)},o∈r->o∈qbk t p l r
 |[],r,h=>h
 |q::l,r,h=>VP (Zj h)
theorem Yv{t:List (List Nat)}{acc:List (Nat×Fp)}{p q:Nat×Fp}{x:AV×Nat}(hx:p.2.lq=some x)(hw:q.2.hw=true)(ho:ZO t p.1 q.1=false)(hq:q∈acc):
 ∀{l:List (Nat×Fp)},p∈l->vx x q.2.gb q.2.ga∈qfn t acc l
 |p'::l,hp=>by
  rcases qjf.mp hp with rfl|hp
  ·exact Yw hx hw ho hq
  ·exact Zj (Yv hx hw ho hq hp)
theorem QV{ops:Array Oper}{acc:List (Nat×Fp)}(h:∀o∈qcy ops acc,o=some ()){p q:Nat×Fp}(hp:p∈acc)(hq:q∈acc){x:AV×Nat}(hx:p.2.lq=some x)(hw:q.2.hw=true):
 ZO (zh ops.toList []) p.1 q.1=true\/zT x q.2.gb=zT x q.2.ga:=by
 cases ho:ZO (zh ops.toList []) p.1 q.1 with
 |true=>exact .inl rfl
 |false=>exact .inr (Xk (h _ (Yv hx hw ho hq hp)))
abbrev GoT:=List It->St->Option (AV×Hp)
def kL(c:Cx)(C:Orc)(G:GoT)(r:Nat)(ops:Array Oper)(is:List Nat)(d:Bool)(acc:List (Nat×Fp))(k:List It)(h i:Nat)(o:Oper)(st:St):Option (AV×Hp):=
 qi c C h o (qO st.sl) (qU st.bx) st.hp fun s b hp=>G (.ops r ops is d (Ke d i (qfi c.tn h ops o st.sl st.hp hp) acc)::k) (after h o st s b hp)
def JE(G:GoT)(r:Nat)(ops:Array Oper)(is:List Nat)(d:Bool)(acc:List (Nat×Fp))(k:List It)(i:Nat)(o:Oper)(st:St):Option (AV×Hp):=
 G (.ops r ops is d (Ke d i (vm ops o) acc)::k) ⟨yH st.sl o.dst .ud,st.bx,st.hp⟩
def KX(st:St)(g:Nat)(b:Bool):St:=⟨(g,.sv (.bool b))::st.sl,st.bx,st.hp⟩
def opF(c:Cx)(C:Orc)(G:GoT)(r:Nat)(ops:Array Oper)(is:List Nat)(d:Bool)(acc:List (Nat×Fp))(k:List It)(h i:Nat)(o:Oper)(st:St):Option (AV×Hp):=
 match jd o ops with
 |none=>none
 |some none=>kL c C G r ops is d acc k h i o st
 |some (some (g,want))=>match qn st.sl g with
  | .ud=>JE G r ops is d acc k i o st
  | .sv v=>(YH v).bind fun t=>match want with
   |true=>cond t (kL c C G r ops is d acc k h i o (KX st g true)) (JE G r ops is d acc k i o (KX st g false))
   |false=>cond t (JE G r ops is d acc k i o (KX st g true)) (kL c C G r ops is d acc k h i o (KX st g false))
  |_=>none
noncomputable def zx(c:Cx)(C:Orc)(G:GoT)(f:FuncId)(its:List It)(st:St):Option (AV×Hp):=
 match its with
 |[]=>Js c f st
 | .inBlock _::k=>G k st
 | .inLoop b::k=>G (.code b::.inLoop b::k) st
 | .inScope _::k=>G k st
 | .code (.scope b)::k=>G (.code b::.inScope b::k) st
 | .code .skip::k=>G k st
 | .code (.label _)::k=>G k st
 | .code .ret::_=>Js c f st
 | .code (.seq a b)::k=>G (.code a::.code b::k) st
 | .code (.block id b)::k=>G (.code b::.inBlock id::k) st
 | .code (.loop b)::k=>G (.inLoop b::k) st
 | .code (.exit id)::k=>(QU id k).bind fun k'=>G k' st
 | .code (.cond x a b)::k=>(jx (qO st.sl x)).bind fun v=>(YH v).bind fun t=>cond t (G (.code a::k) st) (G (.code b::k) st)
 | .code (.region r ops d)::k=>G (.ops r ops (List.range ops.size) d []::k) (mask (c.M f r) st)
 | .ops r ops [] d acc::k=>cond (!d||vn ops acc) (KO (qcy ops acc) (G k st)) none
 | .ops r ops (i::is) d acc::k=>(ops[i]?).bind fun o=>opF c C G r ops is d acc k (c.H f r i) i o st
 |_=>none
noncomputable def xg(c:Cx)(C:Orc)(f:FuncId):Nat->List It->St->Option (AV×Hp)
 |0=>fun _ _=>none
 |n+1=>zx c C (xg c C f n) f
def zO{R:Type}(c:Cx)(f:FuncId)(xs:List AV)(hp:Hp)(K:List It->St->Option R):Option R:=
 match c.F f with
 |some fn=>match fn.body with
  |some b=>jh c 0 fn.params.toList xs fun l=>K [.code b] ⟨l,[],hp⟩
  |none=>none
 |none=>none
noncomputable def zo(c:Cx):Nat->Orc
 |0=>fun _ _ _=>none
 |n+1=>fun f xs hp=>zO c f xs hp (xg c (zo c n) f n)
def Le{α:Type}(a b:Option α):Prop:=∀r,a=some r->b=some r
theorem Le.refl{α:Type}(a:Option α):Le a a:=fun _ h=>h
theorem Le.trans{α:Type}{a b c:Option α}(h:Le a b)(h':Le b c):Le a c:=fun r hr=>h' r (h r hr)
abbrev k3:Kt (SV×BE×Hp):=fun s b hp=>some (s,b,hp)
section nat
variable {R:Type}
theorem qt(ti:TI)(h:Nat)(cs:List AV)(off:Nat)(K:SV->List AV->Option R):
 zl ti h cs off K=(zl ti h cs off fun s c=>some (s,c)).bind fun p=>K p.1 p.2:=by
 unfold zl
 repeat' split
 all_goals simp[qjb]
theorem zj(ti:TI)(r:AV)(K:SV->Option R):Qw ti r K=(Qw ti r some).bind K:=by
 unfold Qw
 repeat' split
 all_goals simp[qjb]
theorem jg(h:Nat)(ti:TI)(a:SV)(gb:Nat->Option (Nat×List AV))(hp:Hp)(K:Kt R):
 qY h ti a gb hp K=(qY h ti a gb hp k3).bind fun p=>K p.1 p.2.1 p.2.2:=by
 unfold qY
 repeat' split
 all_goals first
  |(rw[qt];conv=>rhs;rw[qt]
    simp[qjb])
  |(simp only[qjb];congr 1;funext p;congr 1;funext cs;rw[qt];conv=>rhs;rw[qt]
    simp[qjb])
  |simp
theorem ZB(ti:TI)(a x:SV)(gb:Nat->Option (Nat×List AV))(hp:Hp)(K:Kt R):
 je ti a x gb hp K=(je ti a x gb hp k3).bind fun p=>K p.1 p.2.1 p.2.2:=by
 unfold je
 simp only[qjb]
 congr 1;funext vs
 repeat' split
 all_goals simp[qjb]
theorem jO(c:Cx)(ti:TI)(a:SV)(f:Nat)(K:SV->Option R):zI c ti a f K=(zI c ti a f some).bind K:=by
 unfold zI
 repeat' split
 all_goals simp[qjb]
theorem jI(c:Cx)(h:Nat)(ti:TI)(a i:SV)(K:SV->Option R):zG c h ti a i K=(zG c h ti a i some).bind K:=by
 unfold zG
 repeat' split
 all_goals simp[qjb]
theorem xS(c:Cx)(h:Nat)(ti:TI)(t:TypeId)(a:SV)(lo hi mx:Option Value)(K:SV->Option R):
 xT c h ti t a lo hi mx K=(xT c h ti t a lo hi mx some).bind K:=by
 unfold xT
 repeat' split
 all_goals simp[qjb]
theorem vp(c:Cx)(s d:TypeId)(si di:TI)(a:SV)(K:SV->Option R):Qa c s d si di a K=(Qa c s d si di a some).bind K:=by
 unfold Qa
 repeat' split
 all_goals simp[qjb]
theorem Qj(c:Cx)(op:BinOp)(t:TypeId)(x y:Operand)(a b:SV)(K:SV->Option R):XX c op t x y a b K=(XX c op t x y a b some).bind K:=by
 unfold XX
 repeat' split
 all_goals simp[qjb]
theorem ve(c a b:SV)(K:SV->Option R):wG c a b K=(wG c a b some).bind K:=by
 unfold wG
 simp only[qjb]
 congr 1;funext v;congr 1;funext t
 repeat' split
 all_goals first|simp|(cases t<;>simp)
theorem Qg(c:Cx)(h:Nat)(o:Oper)(b:Builtin)(ts:List TypeId)(as_:List SV)(hp:Hp)(K:SV->Hp->Option R):QF c h o b ts as_ hp K=(QF c h o b ts as_ hp fun s q=>some (s,q)).bind fun p=>K p.1 p.2:=by
 unfold QF
 repeat' split
 all_goals first
  |(simp[qjb];done)
  |(simp only[qjb];congr 1;funext d;congr 1;funext s
    split<;>simp[qjb])
theorem Zd(ok:Bool)(ei:TI)(f:Option AV)(K:SV->Option R):XG ok ei f K=(KA ok ei f).bind K:=by
 cases ok
 ·unfold XG KA ofAK ofA
  dsimp only
  split<;>simp[qjb]
 ·rfl
theorem jY(c:Cx)(t:TypeId)(x i:SV)(ok:Bool)(hp:Hp)(K:SV->Option R):ju c t x i ok hp K=(ju c t x i ok hp some).bind K:=by
 unfold ju
 simp only[Zd]
 repeat' split
 all_goals simp[qjb]
theorem xc(c:Cx)(t:TypeId)(m k x:SV)(hp:Hp)(K:Hp->Option R):xx c t m k x hp K=(xx c t m k x hp some).bind K:=by
 unfold xx
 repeat' split
 all_goals simp[qjb]
theorem ya(k:TK)(hp:Hp)(s:SV)(K:SV->Hp->Option R):VL k hp s K=(XO k hp s).bind fun p=>K p.1 p.2:=by
 unfold VL XO
 split
 ·split<;>simp[qjb]
 ·simp only[qjc]
theorem Zn(c:Cx)(C:Orc)(h:Nat)(ti:TI)(f:FuncId)(caps:List AV)(as_:List SV)(hp:Hp)(K:Kt R):
 zd c C h ti f caps as_ hp K=(zd c C h ti f caps as_ hp k3).bind fun p=>K p.1 p.2.1 p.2.2:=by
 unfold zd
 simp only[qjb]
 congr 1;funext xs
 split
 ·simp only[qjb]
  congr 1;funext p
  rw[zj];conv=>rhs;rw[zj]
  simp[qjb]
 ·split
  ·simp only[qjb]
   congr 1;funext p
   rw[zj];conv=>rhs;rw[zj]
   simp[qjb]
  ·simp only[qjb]
   congr 1;funext u;congr 1;funext p;congr 1;funext u
   rw[zj];conv=>rhs;rw[zj]
   simp[qjb]
theorem zt(jW:Nat->Option (Nat×Nat))(ev:Operand->SV)(K:List AV->Option R):∀(l:List (Nat×Operand)) (cs:List AV),
 zR jW ev K l cs=(zR jW ev some l cs).bind K
 |[],cs=>rfl
 |(i,x)::r,cs=>by
  unfold zR
  split
  ·rfl
  ·simp only[qjb]
   congr 1;funext vs;congr 1;funext cs'
   exact zt jW ev K r cs'
theorem yr(c:Cx)(C:Orc)(h:Nat)(o:Oper)(ev:Operand->SV)(gb:Nat->Option (Nat×List AV))(hp:Hp)(K:Kt R):
 qi c C h o ev gb hp K=(qi c C h o ev gb hp k3).bind fun p=>K p.1 p.2.1 p.2.2:=by
 unfold qi
 repeat' split
 all_goals first
  |rfl
  |(simp[qjb];done)
  |exact jg _ _ _ _ _ _
  |exact ZB _ _ _ _ _ _
  |exact Zn _ _ _ _ _ _ _ _ _
  |(rw[zt];conv=>rhs;rw[zt]
    simp[qjb];done)
  |(rw[ve];conv=>rhs;rw[ve]
    simp[qjb];done)
  |(rw[Qj];conv=>rhs;rw[Qj]
    simp[qjb];done)
  |(rw[vp];conv=>rhs;rw[vp]
    simp[qjb];done)
  |(rw[jO];conv=>rhs;rw[jO]
    simp[qjb];done)
  |(rw[jI];conv=>rhs;rw[jI]
    simp[qjb];done)
  |(rw[Qg];conv=>rhs;rw[Qg]
    simp[qjb];done)
  |(rw[jY];conv=>rhs;rw[jY]
    simp[qjb];done)
  |(rw[xc];conv=>rhs;rw[xc]
    simp[qjb];done)
  |(simp only[ya];rw[jg];conv=>rhs;rw[jg]
    simp[qjb];done)
  |(simp only[ya];simp[qjb];done)
  |(simp only[qjb];congr 1;funext cs;rw[qt];conv=>rhs;rw[qt]
    simp[qjb];done)
  |(simp only[qjb];congr 1;funext cs;congr 1;funext iv;congr 1;funext j;rw[qt];conv=>rhs;rw[qt]
    simp[qjb];done)
  |(simp only[qjb];congr 1;funext l;congr 1;funext u;congr 1;funext m;rw[xS];conv=>rhs;rw[xS]
    simp[qjb];done)
  |(simp only[qjb];congr 1;funext p;exact Zn _ _ _ _ _ _ _ _ _)
  |(simp only[qjb];congr 1;funext l;congr 1;funext u;congr 1;funext m;congr 1;funext q;repeat' split
    all_goals simp)
  |(simp only[qjb];congr 1;funext l;repeat' split
    all_goals first
     |rfl
     |(simp[qjb];done))
end nat
def OLe(C C':Orc):Prop:=∀f xs hp,Le (C f xs hp) (C' f xs hp)
theorem Le.bind{α β:Type}{a b:Option α}{f g:α->Option β}(h:Le a b)(hf:∀x,Le (f x) (g x)):Le (a.bind f) (b.bind g):=by
 intro r hr
 cases a with
 |none=>simp at hr
 |some x=>rw[h x rfl];exact hf x r hr
theorem Le.cond{α:Type}{a b a' b':Option α}{t:Bool}(h:Le a a')(h':Le b b'):Le (cond t a b) (cond t a' b'):=by cases t<;>assumption
theorem Qb(c:Cx){C C':Orc}(hC:OLe C C')(h:Nat)(ti:TI)(f:FuncId)(caps:List AV)(as_:List SV)(hp:Hp):
 Le (zd c C h ti f caps as_ hp k3) (zd c C' h ti f caps as_ hp k3):=by
 unfold zd
 refine Le.bind (Le.refl _) fun xs=>?_
 split
 ·exact Le.bind (hC _ _ _) fun p=>Le.refl _
 ·split
  ·exact Le.bind (hC _ _ _) fun p=>Le.refl _
  ·exact Le.bind (Le.refl _) fun _=>Le.bind (hC _ _ _) fun p=>Le.refl _
theorem wZ(c:Cx){C C':Orc}(hC:OLe C C')(h:Nat)(o:Oper)(ev:Operand->SV)(gb:Nat->Option (Nat×List AV))(hp:Hp):
 Le (qi c C h o ev gb hp k3) (qi c C' h o ev gb hp k3):=by
 unfold qi
 repeat' split
 all_goals first
  |exact Le.refl _
  |exact Qb c hC _ _ _ _ _ _
  |exact Le.bind (Le.refl _) fun p=>Qb c hC _ _ _ _ _ _
noncomputable def lim{α:Type}(s:Nat->Option α):Option α:=
 open Classical in if h:∃n r,s n=some r then s h.choose else none
theorem Yn{α:Type}{s:Nat->Option α}(hs:∀n,Le (s n) (s (n+1)))(r:α):lim s=some r↔∃n,s n=some r:=by
 have up:∀n m,Le (s n) (s (n+m)):=by
  intro n m
  induction m with
  |zero=>exact Le.refl _
  |succ m ih=>exact ih.trans (hs (n+m))
 constructor
 ·intro h
  unfold lim at h
  split at h
  ·exact⟨_,h⟩
  ·cases h
 ·rintro⟨n,hn⟩
  unfold lim
  have h:∃n r,s n=some r:=⟨n,r,hn⟩
  rw[dif_pos h]
  obtain⟨r',hr'⟩:=h.choose_spec
  have a:=up n h.choose r hn
  have b:=up h.choose n r' hr'
  rw[Nat.add_comm]at b
  rw[a]at b
  cases b
  exact hr'
theorem Le.ite{α:Type}{p:Prop}[Decidable p]{a b a' b':Option α}(h:Le a a')(h':Le b b'):Le (if p then a else b) (if p then a' else b'):=by
 split<;>assumption
def GLe(G G':List It->St->Option (AV×Hp)):Prop:=∀its st,Le (G its st) (G' its st)
theorem VN(c:Cx){C C':Orc}(hC:OLe C C'){G G':List It->St->Option (AV×Hp)}(hG:GLe G G')(h:Nat)(o:Oper)(ev:Operand->SV)
 (gb:Nat->Option (Nat×List AV)) (hp:Hp) (its:SV->BE->Hp->List It) (sts:SV->BE->Hp->St):
 Le (qi c C h o ev gb hp fun s b q=>G (its s b q) (sts s b q)) (qi c C' h o ev gb hp fun s b q=>G' (its s b q) (sts s b q)):=by
 rw[yr (K:=fun s b q=>G (its s b q) (sts s b q)),yr (K:=fun s b q=>G' (its s b q) (sts s b q))]
 exact Le.bind (wZ c hC _ _ _ _ _) fun p=>hG _ _
theorem xZ(c:Cx){C C':Orc}(hC:OLe C C'){G G':GoT}(hG:GLe G G')(r:Nat)(ops:Array Oper)(is:List Nat)(d:Bool)(acc:List (Nat×Fp))(k:List It)(h i:Nat)(o:Oper)(st:St):
 Le (kL c C G r ops is d acc k h i o st) (kL c C' G' r ops is d acc k h i o st):=VN c hC hG _ _ _ _ _ _ _
theorem qar(c:Cx){C C':Orc}(hC:OLe C C'){G G':GoT}(hG:GLe G G')(r:Nat)(ops:Array Oper)(is:List Nat)(d:Bool)(acc:List (Nat×Fp))(k:List It)(h i:Nat)(o:Oper)(st:St):
 Le (opF c C G r ops is d acc k h i o st) (opF c C' G' r ops is d acc k h i o st):=by
 unfold opF
 split
 ·exact Le.refl _
 ·exact xZ c hC hG _ _ _ _ _ _ _ _ _ _
 ·split
  ·exact hG _ _
  ·refine Le.bind (Le.refl _) fun t=>?_
   split
   ·exact Le.cond (xZ c hC hG _ _ _ _ _ _ _ _ _ _) (hG _ _)
   ·exact Le.cond (hG _ _) (xZ c hC hG _ _ _ _ _ _ _ _ _ _)
  ·exact Le.refl _
theorem yx(c:Cx){C C':Orc}(hC:OLe C C'){G G':GoT}(hG:GLe G G')(f:FuncId)(its:List It)(st:St):
 Le (zx c C G f its st) (zx c C' G' f its st):=by
 unfold zx
 split
 all_goals first
  |exact Le.refl _
  |exact hG _ _
  |exact Le.bind (Le.refl _) fun v=>Le.bind (Le.refl _) fun t=>Le.cond (hG _ _) (hG _ _)
  |exact Le.bind (Le.refl _) fun v=>hG _ _
  |exact Le.cond (fun r h=>Qi (jR h).1 (hG _ _ r (jR h).2)) (Le.refl _)
  |exact Le.bind (Le.refl _) fun v=>qar c hC hG _ _ _ _ _ _ _ _ _ _
theorem kJ(c:Cx){C C':Orc}(hC:OLe C C')(f:FuncId):∀n its st,Le (xg c C f n its st) (xg c C' f n its st)
 |0,_,_=>Le.refl _
 |n+1,its,st=>yx c hC (fun its st=>kJ c hC f n its st) f its st
theorem kG(c:Cx)(C:Orc)(f:FuncId):∀n its st,Le (xg c C f n its st) (xg c C f (n+1) its st)
 |0,_,_=>fun r h=>by simp[xg]at h
 |n+1,its,st=>yx c (fun f xs hp=>Le.refl _) (fun its st=>kG c C f n its st) f its st
theorem yI{R:Type}(c:Cx):∀(i:Nat) (ts:List TypeId) (xs:List AV) (K K':Slots->Option R),(∀l,Le (K l) (K' l))->Le (jh c i ts xs K) (jh c i ts xs K')
 |_,[],[],_,_,h=>h _
 |i,[],_::xs,_,_,h=>yI c (i+1) [] xs _ _ fun l=>h _
 |_,_::_,[],_,_,_=>Le.refl _
 |i,t::ts,x::xs,_,_,h=>by
  unfold jh
  split
  ·split
   ·exact Le.bind (Le.refl _) fun v=>yI c (i+1) ts xs _ _ fun l=>h _
   ·exact yI c (i+1) ts xs _ _ fun l=>h _
  ·exact Le.refl _
theorem vv{R:Type}(c:Cx)(f:FuncId)(xs:List AV)(hp:Hp){K K':List It->St->Option R}(h:∀its st,Le (K its st) (K' its st)):
 Le (zO c f xs hp K) (zO c f xs hp K'):=by
 unfold zO
 repeat' split
 all_goals first
  |exact Le.refl _
  |exact yI c _ _ _ _ _ (fun l=>h _ _)
theorem jz(c:Cx):∀n,OLe (zo c n) (zo c (n+1))
 |0=>fun f xs hp r h=>by simp[zo]at h
 |n+1=>fun f xs hp=>by
  show Le (zO c f xs hp (xg c (zo c n) f n)) (zO c f xs hp (xg c (zo c (n+1)) f (n+1)))
  exact vv c f xs hp fun its st=>(kJ c (jz c n) f n its st).trans (kG c _ f n its st)
noncomputable def run(c:Cx):Orc:=fun f xs hp=>lim fun n=>zo c n f xs hp
noncomputable def go(c:Cx)(f:FuncId)(its:List It)(st:St):Option (AV×Hp):=lim fun n=>xg c (zo c n) f n its st
theorem jD{c:Cx}{f:FuncId}{xs:List AV}{hp:Hp}{r:AV×Hp}:run c f xs hp=some r↔∃n,zo c n f xs hp=some r:=
 Yn (fun n=>jz c n f xs hp) r
theorem qeb(c:Cx)(f:FuncId)(its:List It)(st:St)(n:Nat):Le (xg c (zo c n) f n its st) (xg c (zo c (n+1)) f (n+1) its st):=
 (kJ c (jz c n) f n its st).trans (kG c _ f n its st)
theorem zm{c:Cx}{f:FuncId}{its:List It}{st:St}{r:AV×Hp}:go c f its st=some r↔∃n,xg c (zo c n) f n its st=some r:=
 Yn (qeb c f its st) r
theorem qcs(c:Cx){n m:Nat}(h:n<=m):OLe (zo c n) (zo c m):=by
 obtain⟨d,rfl⟩:=Nat.exists_eq_add_of_le h
 intro f xs hp
 induction d with
 |zero=>exact Le.refl _
 |succ d ih=>exact(ih qc).trans (jz c (n+d) f xs hp)
theorem qff(c:Cx)(f:FuncId){n m:Nat}(h:n<=m):GLe (xg c (zo c n) f n) (xg c (zo c m) f m):=by
 obtain⟨d,rfl⟩:=Nat.exists_eq_add_of_le h
 intro its st
 induction d with
 |zero=>exact Le.refl _
 |succ d ih=>exact(ih qc).trans (qeb c f its st (n+d))
theorem zZ{α β:Type}{o:Option α}{f:α->Option β}{fs:Nat->α->Option β}(h:∀x r,f x=some r->∃n,fs n x=some r){r:β}
 (hr:o.bind f=some r):∃n,o.bind (fs n)=some r:=by
 cases o with
 |none=>simp at hr
 |some x=>exact h x r hr
theorem Qc(c:Cx)(h:Nat)(ti:TI)(f:FuncId)(caps:List AV)(as_:List SV)(hp:Hp){r:SV×BE×Hp}
 (hr:zd c (run c) h ti f caps as_ hp k3=some r):∃n,zd c (zo c n) h ti f caps as_ hp k3=some r:=by
 unfold zd at hr⊢
 refine zZ (fun xs r hr=>?_) hr
 by_cases e:h=2
 ·simp only[if_pos e]at hr⊢
  obtain⟨p,hp',hr⟩:=bsm hr
  obtain⟨n,hn⟩:=jD.mp hp'
  exact⟨n,by rw[hn];exact hr⟩
 ·simp only[if_neg e]at hr⊢
  by_cases e4:h=4
  ·simp only[if_pos e4]at hr⊢
   obtain⟨p,hp',hr⟩:=bsm hr
   obtain⟨n,hn⟩:=jD.mp hp'
   exact⟨n,by rw[hn];exact hr⟩
  ·simp only[if_neg e4]at hr⊢
   obtain⟨u,hu,hr⟩:=bsm hr
   obtain⟨p,hp',hr⟩:=bsm hr
   obtain⟨n,hn⟩:=jD.mp hp'
   exact⟨n,by rw[hu];simp only[qjc];rw[hn];exact hr⟩
theorem XR(c:Cx)(h:Nat)(o:Oper)(ev:Operand->SV)(gb:Nat->Option (Nat×List AV))(hp:Hp){r:SV×BE×Hp}
 (hr:qi c (run c) h o ev gb hp k3=some r):∃n,qi c (zo c n) h o ev gb hp k3=some r:=by
 revert hr
 unfold qi
 split
 all_goals try exact fun hr=>⟨0,hr⟩
 repeat' split
 all_goals intro hr
 all_goals first
  |exact⟨0,hr⟩
  |exact Qc c _ _ _ _ _ hp hr
  |exact zZ (fun p r hr=>Qc c _ _ _ _ _ hp hr) hr
theorem VO(c:Cx)(f:FuncId)(h:Nat)(o:Oper)(ev:Operand->SV)
 (gb:Nat->Option (Nat×List AV)) (hp:Hp) (its:SV->BE->Hp->List It) (sts:SV->BE->Hp->St) {r:AV×Hp}
 (hr:(qi c (run c) h o ev gb hp fun s b q=>go c f (its s b q) (sts s b q))=some r):
 ∃n,(qi c (zo c n) h o ev gb hp fun s b q=>xg c (zo c n) f n (its s b q) (sts s b q))=some r:=by
 rw[yr]at hr
 obtain⟨p,h1,h2⟩:=bsm hr
 obtain⟨n,hn⟩:=XR c h o ev gb hp h1
 obtain⟨m,hm⟩:=zm.mp h2
 refine⟨max n m,?_⟩
 rw[yr]
 rw[wZ c (qcs c (Nat.le_max_left n m)) h o ev gb hp p hn]
 exact qff c f (Nat.le_max_right n m) _ _ r hm
theorem ka(c:Cx)(f:FuncId)(r:Nat)(ops:Array Oper)(is:List Nat)(d:Bool)(acc:List (Nat×Fp))(k:List It)(h i:Nat)(o:Oper)(st:St){q:AV×Hp}
 (hr:kL c (run c) (go c f) r ops is d acc k h i o st=some q):∃n,kL c (zo c n) (xg c (zo c n) f n) r ops is d acc k h i o st=some q:=
 VO c f h o (qO st.sl) (qU st.bx) st.hp (fun s b hp=>.ops r ops is d (Ke d i (qfi c.tn h ops o st.sl st.hp hp) acc)::k) (fun s b hp=>after h o st s b hp) hr
theorem qas(c:Cx)(f:FuncId)(r:Nat)(ops:Array Oper)(is:List Nat)(d:Bool)(acc:List (Nat×Fp))(k:List It)(h i:Nat)(o:Oper)(st:St){q:AV×Hp}
 (hr:opF c (run c) (go c f) r ops is d acc k h i o st=some q):∃n,opF c (zo c n) (xg c (zo c n) f n) r ops is d acc k h i o st=some q:=by
 revert hr
 unfold opF
 split
 ·intro hr;cases hr
 ·intro hr;exact ka c f _ _ _ _ _ _ _ _ _ _ hr
 ·split
  ·intro hr;exact zm.mp hr
  ·intro hr
   refine zZ (fun t r hr=>?_) hr
   revert hr
   split
   ·intro hr
    cases t
    ·exact zm.mp hr
    ·exact ka c f _ _ _ _ _ _ _ _ _ _ hr
   ·intro hr
    cases t
    ·exact ka c f _ _ _ _ _ _ _ _ _ _ hr
    ·exact zm.mp hr
  ·intro hr;cases hr
theorem Xh(c:Cx)(f:FuncId)(its:List It)(st:St){r:AV×Hp}(hr:zx c (run c) (go c f) f its st=some r):
 ∃n,zx c (zo c n) (xg c (zo c n) f n) f its st=some r:=by
 unfold zx at hr⊢
 split at hr
 all_goals first
  |exact⟨0,hr⟩
  |exact zm.mp hr
  |exact zZ (fun v r hr=>zm.mp hr) hr
  |exact zZ (fun v r hr=>qas c f _ _ _ _ _ _ _ _ _ _ hr) hr
  |skip
 ·refine zZ (fun v r hr=>zZ (fun t r hr=>?_) hr) hr
  cases t
  ·exact zm.mp hr
  ·exact zm.mp hr
 ·rename_i d acc k
  generalize(!d||vn _ acc)=t at hr⊢
  cases t
  ·cases hr
  ·obtain⟨h1,h2⟩:=jR hr
   obtain⟨n,hn⟩:=zm.mp h2
   exact⟨n,Qi h1 hn⟩
theorem KE(c:Cx)(f:FuncId)(its:List It)(st:St):go c f its st=zx c (run c) (go c f) f its st:=by
 apply Option.ext
 intro r
 constructor
 ·intro h
  obtain⟨n,hn⟩:=zm.mp h
  cases n with
  |zero=>simp[xg]at hn
  |succ n=>
   have hC:OLe (zo c (n+1)) (run c):=fun f xs hp r hr=>jD.mpr ⟨n+1,hr⟩
   have hG:GLe (xg c (zo c (n+1)) f n) (go c f):=fun its st r hr=>zm.mpr ⟨n+1,kG c _ f n its st r hr⟩
   exact yx c hC hG f its st r hn
 ·intro h
  obtain⟨n,hn⟩:=Xh c f its st h
  refine zm.mpr ⟨n+1,?_⟩
  exact yx c (jz c n) (fun its st=>kJ c (jz c n) f n its st) f its st r hn
theorem qW{R:Type}(c:Cx):∀(i:Nat) (ts:List TypeId) (xs:List AV) (K:Slots->Option R),jh c i ts xs K=(jh c i ts xs some).bind K
 |_,[],[],_=>rfl
 |i,[],x::xs,K=>by
  simp only[jh]
  rw[qW c (i+1) [] xs]
  conv=>rhs;rw[qW c (i+1) [] xs]
  simp[qjb]
 |_,_::_,[],_=>rfl
 |i,t::ts,x::xs,K=>by
  simp only[jh]
  split
  ·split
   ·simp only[qjb]
    congr 1;funext v
    rw[qW c (i+1) ts xs]
    conv=>rhs;rw[qW c (i+1) ts xs]
    simp[qjb]
   ·rw[qW c (i+1) ts xs]
    conv=>rhs;rw[qW c (i+1) ts xs]
    simp[qjb]
  ·rfl
theorem qe1(c:Cx)(f:FuncId)(xs:List AV)(hp:Hp):run c f xs hp=zO c f xs hp (go c f):=by
 apply Option.ext
 intro r
 constructor
 ·intro h
  obtain⟨n,hn⟩:=jD.mp h
  cases n with
  |zero=>simp[zo]at hn
  |succ n=>exact vv c f xs hp (fun its st r hr=>zm.mpr ⟨n,hr⟩) r hn
 ·intro h
  have key:∃n,zO c f xs hp (xg c (zo c n) f n)=some r:=by
   revert h
   unfold zO
   split
   ·split
    ·intro h
     rw[qW]at h
     obtain⟨l,h1,h2⟩:=bsm h
     obtain⟨n,hn⟩:=zm.mp h2
     exact⟨n,by rw[qW,h1];exact hn⟩
    ·intro h;cases h
   ·intro h;cases h
  obtain⟨n,hn⟩:=key
  exact jD.mpr ⟨n+1,hn⟩
theorem kM(k:Nat):Nat.beq k k=true:=qe
theorem Jm{j k:Nat}(h:j≠k):Nat.beq j k=false:=by
 cases hb:Nat.beq j k
 ·rfl
 ·exact absurd (Nat.eq_of_beq_eq_true hb) h
theorem xX(b:Boxes):∀(live:List Nat) (k:Nat),qU (jf b live) k=if k∈live then qU b k else none
 |[],k=>by simp[jf,qU]
 |j::r,k=>by
  have ih:=xX b r k
  simp only[jf]
  split
  ·rename_i g cs h
   simp only[qU]
   by_cases e:j=k
   ·subst e;simp[h]
   ·rw[Jm e];simp only[ih,qjf]
    have:k≠j:=fun h=>e h.symm
    simp[this]
  ·rename_i h
   rw[ih]
   by_cases e:j=k
   ·subst e;simp[h]
   ·have:k≠j:=fun h=>e h.symm
    simp[this]
theorem vD(b b':Boxes):∀(live:List Nat),(∀k∈live,qU b' k=qU b k)->jf b' live=jf b live
 |[],_=>rfl
 |j::r,h=>by
  simp only[jf]
  rw[h j qe,vD b b' r fun k hk=>h k (by simp[hk])]
theorem yy(b:Boxes)(l:Slots):∀(live:List Nat) (k:Nat),qn (xa b l live) k=if k∈live then wK b (qn l k)else .un
 |[],k=>by simp[xa,qn]
 |j::r,k=>by
  have ih:=yy b l r k
  simp only[xa]
  by_cases e:j=k
  ·subst e
   split
   ·rename_i h
    rw[ih];simp[h]
   ·rename_i s h
    simp[qn,kM]
  ·have e':k≠j:=fun h=>e h.symm
   split
   ·rw[ih];simp[e']
   ·simp[qn,Jm e,ih,e']
theorem vC(b:Boxes)(l l':Slots):∀(live:List Nat),(∀k∈live,wK b (qn l' k)=wK b (qn l k))->xa b l' live=xa b l live
 |[],_=>rfl
 |j::r,h=>by
  simp only[xa]
  rw[h j qe,vC b l l' r fun k hk=>h k (by simp[hk])]
theorem Vz(b:Boxes)(s:SV):wK b (wK b s)=wK b s:=by
 cases s<;>simp only[wK]
 rename_i k g o
 cases h:qU b k<;>simp[wK,h]
theorem VC(m:Option (List Nat))(st:St):mask m (mask m st)=mask m st:=by
 cases m with
 |none=>rfl
 |some live=>
  simp only[mask]
  have hB:jf (jf st.bx live) live=jf st.bx live:=vD _ _ _ fun k hk=>by rw[xX,if_pos hk]
  rw[hB]
  congr 1
  refine vC _ _ _ _ fun k hk=>?_
  rw[yy,if_pos hk,Vz]
def WK(ss:List Nat):List It->Bool
 | .code (.region r _ _)::_=>ss.contains r
 |_=>false
def XC(c:Cx)(f:FuncId):List It->St->St
 | .code (.region r _ _)::_,st=>mask (c.M f r) st
 |_,st=>st
theorem qdg(c:Cx)(f:FuncId)(its:List It)(st:St):go c f its (XC c f its st)=go c f its st:=by
 unfold XC
 split
 ·rw[KE,KE c f _ st]
  simp only[zx,VC]
 ·rfl
noncomputable def Jx(c:Cx)(f:FuncId)(ss:List Nat):Nat->GoT
 |0=>go c f
 |n+1=>fun its st=>cond (WK ss its) (go c f its (XC c f its st)) (zx c (run c) (Jx c f ss n) f its st)
theorem Zy(c:Cx)(f:FuncId)(ss:List Nat):∀n,Jx c f ss n=go c f
 |0=>rfl
 |n+1=>by
  funext its st
  simp only[Jx,Zy c f ss n]
  cases WK ss its
  ·exact(KE c f its st).symm
  ·exact qdg c f its st
theorem qbq(c:Cx)(f:FuncId)(ss:List Nat)(n:Nat)(its:List It)(st:St):go c f its st=zx c (run c) (Jx c f ss n) f its st:=by
 rw[Zy];exact KE c f its st
theorem qbj(c:Cx)(f:FuncId)(ss:List Nat)(n:Nat)(xs:List AV)(hp:Hp):run c f xs hp=zO c f xs hp (Jx c f ss n):=by
 rw[Zy];exact qe1 c f xs hp
def sub:List Nat->Code->Code
 |[],c=>c
 |0::p,.seq a _=>sub p a
 |_::p,.seq _ b=>sub p b
 |0::p,.cond _ a _=>sub p a
 |_::p,.cond _ _ b=>sub p b
 |_::p,.block _ b=>sub p b
 |_::p,.loop b=>sub p b
 |_::p,.scope b=>sub p b
 |_,c=>c
inductive Ow where
 |fr|oth
 |box (k g:Nat)
 |obj (b g:Nat)
 |sl (k j i:Nat)
 |bc (k g i:Nat)
 |oc (b g i:Nat)
structure Gh where
 Om:Nat->Ow
 I:Nat->Nat
 mu:Nat->Nat->Option Nat
 la:Nat->Nat->Option Nat
def Qf(w:World)(b:Nat):Option Nat:=
 match w.heap[b]? with
 |some (.cells arr _ _)=>some arr.size
 |_=>none
theorem kc{w w':World}{b:Nat}(h:w'.heap[b]?=w.heap[b]?):Qf w' b=Qf w b:=by simp[Qf,h]
inductive RelR (G : Gh) (w : World) : AV → Value → Prop where
 |sc (v:Value):v.oneCell'=true->RelR G w (.sc v) v
 |sl0 (sz:Nat) (a:Addr) (cap:Nat):0<sz->RelR G w (.sl sz []) (.slice (some a) 0 cap)
 |sl (sz:Nat) (cs:List AV) (n cap b o:Nat) (vs:List Value):0<sz->0<n->cs.length=n*sz->n<=cap->o+n*sz<=G.I b->vs.length=cs.length->
  (∀k c,vs[k]?=some c->w.cell? ⟨b,o+k,none⟩=some c)->(∀x∈cs,vl x=true)->(∀(k:Nat) (x:AV) (c:Value),cs[k]?=some x->vs[k]?=some c->RelR G w x c)->
  RelR G w (.sl sz cs) (.slice (some ⟨b,o,none⟩) n cap)
 |ptr (b g off blk:Nat):G.mu b g=some blk->RelR G w (.ptr b g off) (.pointer (some ⟨blk,off,none⟩))
 |ms (b g off n sz cap blk off' z:Nat):G.mu b g=some blk->n<=cap->(0<n->off'=off)->Qf w blk=some z->off'+cap*sz<=z->RelR G w (.ms b g off n sz) (.slice (some ⟨blk,off',none⟩) n cap)
 |fn (f:FuncId) (caps:List AV) (vs:List Value):(Nat.blt f 4294967296=true\/caps=[])->caps.length=vs.length->
  (∀(k:Nat) (x:AV) (c:Value),caps[k]?=some x->vs[k]?=some c->RelR G w x c)->RelR G w (.fn f caps) (.func (.func f) #[] vs.toArray)
 |map (b blk:Nat):G.mu b 1=some blk->RelR G w (.map b) (.map (some blk))
 |fnb (f:FuncId) (bs:List AV) (vs:List Value):bs≠[]->bs.length=vs.length->
  (∀(k:Nat) (x:AV) (c:Value),bs[k]?=some x->vs[k]?=some c->RelR G w x c)->RelR G w (.fn (4294967296+f) bs) (.func (.func f) vs.toArray #[])
structure TokR (G : Gh) (w : World) (sz : Nat) (cs : List AV) (v : Value) (b : Nat) : Prop where
 ex:∃n cap arr e,v= .slice (some ⟨b,0,none⟩) n cap/\0<sz/\cs.length=n*sz/\n<=cap/\G.I b=n*sz/\
  w.heap[b]?=some (.cells arr e (0,0))/\arr.size=cap*sz/\∀(k:Nat) (x:AV),cs[k]?=some x->∃c,arr[k]?=some c/\RelR G w x c
 vl:∀x∈cs,vl x=true
def zk(G:Gh)(w:World)(p:Ow)(x:AV)(v:Value):Prop:=
 match x with
 | .us sz cs=>∃b,G.Om b=p/\TokR G w sz cs v b
 | .agg _=>False
 | .tup _=>False
 |x=>RelR G w x v
def qI(G:Gh)(w:World)(p:Nat->Ow)(x:AV)(v:Value):Prop:=
 match x with
 | .agg cs=>∃vs:List Value,v= .agg vs.toArray/\cs.length=vs.length/\∀(i:Nat) (x:AV) (c:Value),cs[i]?=some x->vs[i]?=some c->zk G w (p i) x c
 |x=>zk G w (p 0) x v
def qw(G:Gh)(w:World)(k:Nat)(s:SV)(v:Value):Prop:=
 match s with
 | .sv u=>v=u/\u.oneCell'=true
 | .av x=>qI G w (.sl k 0 ·) x v
 | .tp l=>∃vs:List Value,v= .tuple vs.toArray/\l.length=vs.length/\∀(j:Nat) (x:AV) (c:Value),l[j]?=some x->vs[j]?=some c->qI G w (.sl k j ·) x c
 | .lp k' g off=>∃blk,G.la k' g=some blk/\v= .pointer (some ⟨blk,off,none⟩)
 | .rv cs=>∃(b o:Nat) (vs:List Value),v= .pointer (some ⟨b,o,none⟩)/\vs.length=cs.length/\(∀i,i<cs.length->o+i<G.I b)/\
  (∀(k:Nat) (c:Value),vs[k]?=some c->w.cell? ⟨b,o+k,none⟩=some c)/\∀(k:Nat) (x:AV) (c:Value),cs[k]?=some x->vs[k]?=some c->RelR G w x c
 | .un=>True
 | .ud=>v=undef
def jb(G:Gh)(w:World)(blk:Nat)(p:Nat->Ow)(cs:List AV):Prop:=
 ∃arr e,w.heap[blk]?=some (.cells arr e (0,0))/\cs.length<=arr.size/\∀(i:Nat) (x:AV) (c:Value),cs[i]?=some x->arr[i]?=some c->zk G w (p i) x c
def vK(G:Gh)(w:World)(x:AV)(v:Value):Prop:=
 match x with
 | .agg cs=>∃vs:List Value,v= .agg vs.toArray/\cs.length=vs.length/\∀(i:Nat) (x:AV) (c:Value),cs[i]?=some x->vs[i]?=some c->RelR G w x c
 |x=>RelR G w x v
def Qn(G:Gh)(w:World)(x:AV)(e:MapEntry):Prop:=
 match x with
 | .tup [.sc k,y]=>e.key=k/\k.oneCell'=true/\vK G w y e.val
 |_=>False
def YO(G:Gh)(w:World)(blk:Nat)(cs:List AV):Prop:=
 ∃es clock,w.heap[blk]?=some (.map es clock)/\es.size=cs.length/\∀(i:Nat) (x:AV) (e:MapEntry),cs[i]?=some x->es[i]?=some e->Qn G w x e
def ObR(G:Gh)(w:World)(blk:Nat)(p:Nat->Ow)(g:Nat)(cs:List AV):Prop:=
 match g with
 |0=>jb G w blk p cs
 |_+1=>YO G w blk cs
structure Inv (G : Gh) (w : World) (st : St) (tmps : Array Value) : Prop where
 slots:∀k,qw G w k (qn st.sl k) (tmps.getD k undef)
 boxes:∀k g cs,qU st.bx k=some (g,cs)->∃blk,G.la k g=some blk/\G.Om blk= .box k g/\jb G w blk (.bc k g ·) cs
 heap:∀b g cs,st.hp.get b=some (g,cs)->∃blk,G.mu b g=some blk/\G.Om blk= .obj b g/\ObR G w blk (.oc b g ·) g cs
 next:∀b g,st.hp.next<=b->G.mu b g=none
 hlt:∀b g cs,st.hp.get b=some (g,cs)->b<st.hp.next
 new:∀b,w.heap.size<=b->G.Om b= .fr/\G.I b=0
 vars:∀b,(∃k g,G.Om b= .box k g)\/(∃k g,G.Om b= .obj k g)->G.I b=0
 lps:∀j k g off,qn st.sl j= .lp k g off->∃g' cs,qU st.bx k=some (g',cs)/\g<=g'
def kf(w w':World):Prop:=w'.os=w.os/\w'.tape=w.tape/\w'.output=w.output
theorem kf.refl(w:World):kf w w:=⟨rfl,rfl,rfl⟩
theorem kf.trans{w w' w'':World}(h:kf w w')(h':kf w' w''):kf w w'':=⟨h'.1.trans h.1,h'.2.1.trans h.2.1,h'.2.2.trans h.2.2⟩
structure Fr (G : Gh) (w : World) (G' : Gh) (w' : World) : Prop where
 size:w.heap.size<=w'.heap.size
 cells:∀b i,i<G.I b->w'.cell? ⟨b,i,none⟩=w.cell? ⟨b,i,none⟩
 imm:∀b,G.I b<=G'.I b
 mu:∀b g x,G.mu b g=some x->G'.mu b g=some x
 same:∀b,b<w.heap.size->G.Om b= .fr\/G.Om b= .oth->w'.heap[b]?=w.heap[b]?/\G'.Om b=G.Om b/\G'.I b=G.I b
 rest:kf w w'
 bs:∀b z,Qf w b=some z->Qf w' b=some z
theorem Fr.refl(G:Gh)(w:World):Fr G w G w:=⟨qji _,fun _ _ _=>rfl,fun _=>qji _,fun _ _ _ h=>h,fun _ _ _=>⟨rfl,rfl,rfl⟩,kf.refl w,fun _ _ h=>h⟩
theorem Fr.trans{G G' G'':Gh}{w w' w'':World}(h:Fr G w G' w')(h':Fr G' w' G'' w''):Fr G w G'' w'':=by
 refine⟨qk2 h.size h'.size,fun b i hi=>?_,fun b=>qk2 (h.imm b) (h'.imm b),fun b g x hx=>h'.mu b g x (h.mu b g x hx),fun b hb ho=>?_,h.rest.trans h'.rest,fun b z hz=>h'.bs b z (h.bs b z hz)⟩
 ·rw[h'.cells b i (qjz hi (h.imm b)),h.cells b i hi]
 ·obtain⟨a1,a2,a3⟩:=h.same b hb ho
  obtain⟨b1,b2,b3⟩:=h'.same b (qjz hb h.size) (by rw[a2];exact ho)
  exact⟨b1.trans a1,b2.trans a2,b3.trans a3⟩
structure Ev (G : Gh) (w : World) (G' : Gh) (w' : World) : Prop where
 cells:∀b i,i<G.I b->w'.cell? ⟨b,i,none⟩=w.cell? ⟨b,i,none⟩
 imm:∀b,G.I b<=G'.I b
 mu:∀b g x,G.mu b g=some x->G'.mu b g=some x
 bs:∀b z,Qf w b=some z->Qf w' b=some z
theorem Fr.ev{G G':Gh}{w w':World}(h:Fr G w G' w'):Ev G w G' w':=⟨h.cells,h.imm,h.mu,h.bs⟩
theorem Ev.refl(G:Gh)(w:World):Ev G w G w:=(Fr.refl G w).ev
theorem RelR.ev{G G':Gh}{w w':World}(he:Ev G w G' w'){x:AV}{v:Value}(h:RelR G w x v):RelR G' w' x v:=by
 induction h with
 |sc v h=>exact .sc v h
 |sl0 sz a cap h=>exact .sl0 sz a cap h
 |sl sz cs n cap b o vs h1 h2 h3 h4 h5 h6 h7 hv _ ih=>
  refine .sl sz cs n cap b o vs h1 h2 h3 h4 (qk2 h5 (he.imm b)) h6 (fun k c hk=>?_) hv ih
  have hlt:k<vs.length:=(qjd.mp hk).1
  rw[he.cells b (o+k) qc]
  exact h7 k c hk
 |ptr b g off blk h=>exact .ptr b g off blk (he.mu _ _ _ h)
 |ms b g off n sz cap blk off' z h h' h'' h3 h4=>exact .ms b g off n sz cap blk off' z (he.mu _ _ _ h) h' h'' (he.bs _ _ h3) h4
 |fn f caps vs h0 h _ ih=>exact .fn f caps vs h0 h ih
 |map b blk h=>exact .map b blk (he.mu _ _ _ h)
 |fnb f bs vs h0 h _ ih=>exact .fnb f bs vs h0 h ih
theorem TokR.ev{G G':Gh}{w w':World}(he:Ev G w G' w'){sz:Nat}{cs:List AV}{v:Value}{b:Nat}(hb:w'.heap[b]?=w.heap[b]?) (hi:G'.I b=G.I b)
 (h:TokR G w sz cs v b):TokR G' w' sz cs v b:=by
 obtain⟨n,cap,arr,e,h1,h2,h3,h4,h5,h6,h7,h9⟩:=h.ex
 refine⟨⟨n,cap,arr,e,h1,h2,h3,h4,hi.trans h5,hb.trans h6,h7,fun k x hk=>?_⟩,h.vl⟩
 obtain⟨c,hc,hr⟩:=h9 k x hk
 exact⟨c,hc,hr.ev he⟩
def qM(G:Gh)(w:World)(G':Gh)(w':World)(p q:Ow):Prop:=∀b,G.Om b=p->w'.heap[b]?=w.heap[b]?/\G'.I b=G.I b/\G'.Om b=q
theorem zk.ev{G G':Gh}{w w':World}(he:Ev G w G' w'){p q:Ow}(hk:qM G w G' w' p q){x:AV}{v:Value}(h:zk G w p x v):zk G' w' q x v:=by
 cases x with
 |us sz cs=>
  obtain⟨b,hb,ht⟩:=h
  obtain⟨h1,h2,h3⟩:=hk b hb
  exact⟨b,h3,ht.ev he h1 h2⟩
 |agg _=>exact h
 |tup _=>exact h
 |sc _=>exact RelR.ev he h
 |sl _ _=>exact RelR.ev he h
 |ptr _ _ _=>exact RelR.ev he h
 |ms _ _ _ _ _=>exact RelR.ev he h
 |fn _ _=>exact RelR.ev he h
 |map _=>exact RelR.ev he h
theorem jE{G:Gh}{w:World}{p:Nat->Ow}{x:AV}{v:Value}(hx:∀cs,x≠ .agg cs):qI G w p x v=zk G w (p 0) x v:=by
 cases x<;>first|rfl|exact absurd rfl (hx _)
theorem ke(x:AV):(∃cs,x= .agg cs)\/∀cs,x≠ .agg cs:=by
 cases x<;>first|exact .inl ⟨_,rfl⟩|exact .inr fun _ h=>by cases h
theorem qI.ev{G G':Gh}{w w':World}(he:Ev G w G' w'){p q:Nat->Ow}(hk:∀i,qM G w G' w' (p i) (q i)){x:AV}{v:Value}(h:qI G w p x v):qI G' w' q x v:=by
 rcases ke x with⟨cs,rfl⟩|hx
 ·obtain⟨vs,h1,h2,h3⟩:=h
  exact⟨vs,h1,h2,fun i x c hx hc=>(h3 i x c hx hc).ev he (hk i)⟩
 ·rw[jE hx]at h⊢
  exact h.ev he (hk 0)
theorem qw.ev{G G':Gh}{w w':World}(he:Ev G w G' w'){k k':Nat}{s:SV}(hk:∀j i,qM G w G' w' (.sl k j i) (.sl k' j i))
 (hl:∀a g off x,s= .lp a g off->G.la a g=some x->G'.la a g=some x) {v:Value} (h:qw G w k s v):qw G' w' k' s v:=by
 cases s with
 |sv u=>exact h
 |av x=>exact qI.ev he (hk 0) h
 |tp l=>
  obtain⟨vs,h1,h2,h3⟩:=h
  exact⟨vs,h1,h2,fun j x c hx hc=>(h3 j x c hx hc).ev he (hk j)⟩
 |lp a g off=>
  obtain⟨blk,h1,h2⟩:=h
  exact⟨blk,hl a g off blk rfl h1,h2⟩
 |rv cs=>
  obtain⟨b,o,vs,h1,h2,h3,h4,h5⟩:=h
  refine⟨b,o,vs,h1,h2,fun i hi=>qjz (h3 i hi) (he.imm b),fun k c hk=>?_,fun k x c hx hc=>(h5 k x c hx hc).ev he⟩
  have hlt:k<vs.length:=(qjd.mp hk).1
  rw[he.cells b (o+k) (h3 k qc)]
  exact h4 k c hk
 |un=>trivial
 |ud=>exact h
theorem jb.ev{G G':Gh}{w w':World}(he:Ev G w G' w'){blk:Nat}{p q:Nat->Ow}{cs:List AV}(hb:w'.heap[blk]?=w.heap[blk]?)
 (hk:∀i,qM G w G' w' (p i) (q i)) (h:jb G w blk p cs):jb G' w' blk q cs:=by
 obtain⟨arr,e,h1,h2,h3⟩:=h
 exact⟨arr,e,hb.trans h1,h2,fun i x c hx hc=>(h3 i x c hx hc).ev he (hk i)⟩
theorem vK.ev{G G':Gh}{w w':World}(he:Ev G w G' w'){x:AV}{v:Value}(h:vK G w x v):vK G' w' x v:=by
 cases x with
 |agg cs=>
  obtain⟨vs,h1,h2,h3⟩:=h
  exact⟨vs,h1,h2,fun i x c hx hc=>(h3 i x c hx hc).ev he⟩
 |tup _=>exact RelR.ev he h
 |us _ _=>exact RelR.ev he h
 |sc _=>exact RelR.ev he h
 |sl _ _=>exact RelR.ev he h
 |ptr _ _ _=>exact RelR.ev he h
 |ms _ _ _ _ _=>exact RelR.ev he h
 |fn _ _=>exact RelR.ev he h
 |map _=>exact RelR.ev he h
theorem Qn.ev{G G':Gh}{w w':World}(he:Ev G w G' w'){x:AV}{e:MapEntry}(h:Qn G w x e):Qn G' w' x e:=by
 unfold Qn at h⊢
 split at h
 ·exact⟨h.1,h.2.1,h.2.2.ev he⟩
 ·exact h.elim
theorem YO.ev{G G':Gh}{w w':World}(he:Ev G w G' w'){blk:Nat}{cs:List AV}(hb:w'.heap[blk]?=w.heap[blk]?) (h:YO G w blk cs):YO G' w' blk cs:=by
 obtain⟨es,clock,h1,h2,h3⟩:=h
 exact⟨es,clock,hb.trans h1,h2,fun i x e hx hc=>(h3 i x e hx hc).ev he⟩
theorem ObR.ev{G G':Gh}{w w':World}(he:Ev G w G' w'){blk:Nat}{p q:Nat->Ow}{g:Nat}{cs:List AV}(hb:w'.heap[blk]?=w.heap[blk]?)
 (hk:∀i,qM G w G' w' (p i) (q i)) (h:ObR G w blk p g cs):ObR G' w' blk q g cs:=by
 cases g with
 |zero=>exact jb.ev he hb hk h
 |succ g=>exact YO.ev he hb h
structure EvL (G : Gh) (w : World) (G' : Gh) (w' : World) : Prop where
 cells:∀b i,i<G.I b->w'.cell? ⟨b,i,none⟩=w.cell? ⟨b,i,none⟩
 imm:∀b,G.I b<=G'.I b
theorem RelR.evl{G G':Gh}{w w':World}(he:EvL G w G' w'){x:AV}{v:Value}(h:RelR G w x v)(hv:vl x=true):RelR G' w' x v:=by
 induction h with
 |sc v h=>exact .sc v h
 |sl0 sz a cap h=>exact .sl0 sz a cap h
 |sl sz cs n cap b o vs h1 h2 h3 h4 h5 h6 h7 hvl _ ih=>
  refine .sl sz cs n cap b o vs h1 h2 h3 h4 (qk2 h5 (he.imm b)) h6 (fun k c hk=>?_) hvl (fun k x c hx hc=>ih k x c hx hc (hvl x (qjj hx)))
  have hlt:k<vs.length:=(qjd.mp hk).1
  rw[he.cells b (o+k) qc]
  exact h7 k c hk
 |ptr b g off blk h=>cases hv
 |ms b g off n sz cap blk off' z h h' h'' h3 h4=>cases hv
 |fn f caps vs h0 h h' ih=>
  have:caps=[]:=by simpa[AI.vl]using hv
  subst this
  exact .fn f [] vs h0 h (by intro k x c hx;simp at hx)
 |map b blk h=>cases hv
 |fnb f bs vs h0 h h' ih=>
  have:bs=[]:=by simpa[AI.vl]using hv
  exact absurd this h0
theorem TokR.evl{G G':Gh}{w w':World}(he:EvL G w G' w'){sz:Nat}{cs:List AV}{v:Value}{b:Nat}(hb:w'.heap[b]?=w.heap[b]?) (hi:G'.I b=G.I b)
 (h:TokR G w sz cs v b):TokR G' w' sz cs v b:=by
 obtain⟨n,cap,arr,e,h1,h2,h3,h4,h5,h6,h7,h9⟩:=h.ex
 refine⟨⟨n,cap,arr,e,h1,h2,h3,h4,hi.trans h5,hb.trans h6,h7,fun k x hk=>?_⟩,h.vl⟩
 obtain⟨c,hc,hr⟩:=h9 k x hk
 exact⟨c,hc,hr.evl he (h.vl x (qjj hk))⟩
theorem zk.evl{G G':Gh}{w w':World}(he:EvL G w G' w'){p q:Ow}(hk:qM G w G' w' p q){x:AV}{v:Value}(h:zk G w p x v)(hv:vl x=true):zk G' w' q x v:=by
 cases x with
 |us sz cs=>
  obtain⟨b,hb,ht⟩:=h
  obtain⟨h1,h2,h3⟩:=hk b hb
  exact⟨b,h3,ht.evl he h1 h2⟩
 |agg _=>exact h
 |tup _=>exact h
 |sc _=>exact RelR.evl he h hv
 |sl _ _=>exact RelR.evl he h hv
 |ptr _ _ _=>exact RelR.evl he h hv
 |ms _ _ _ _ _=>exact RelR.evl he h hv
 |fn _ _=>exact RelR.evl he h hv
 |map _=>exact RelR.evl he h hv
theorem qI.evl{G G':Gh}{w w':World}(he:EvL G w G' w'){p q:Nat->Ow}(hk:∀i,qM G w G' w' (p i) (q i)){x:AV}{v:Value}(h:qI G w p x v)(hv:vlF x=true):qI G' w' q x v:=by
 rcases ke x with⟨cs,rfl⟩|hx
 ·obtain⟨vs,h1,h2,h3⟩:=h
  exact⟨vs,h1,h2,fun i x c hx hc=>(h3 i x c hx hc).evl he (hk i) (qjs.mp hv x (qjj hx))⟩
 ·rw[jE hx]at h⊢
  have hv':vl x=true:=by
   cases x<;>first|exact hv|exact absurd rfl (hx _)
  exact h.evl he (hk 0) hv'
theorem Ev.evl{G G':Gh}{w w':World}(h:Ev G w G' w'):EvL G w G' w':=⟨h.cells,h.imm⟩
theorem qB{w:World}{b:Nat}{arr:Array Value}{e:TypeId}{fz:Nat×Nat}(h:w.heap[b]?=some (.cells arr e fz)) (i:Nat):w.cell? ⟨b,i,none⟩=arr[i]?:=by
 simp[World.cell?,h]
theorem qk{α β:Type}(f:α->β)(l:List α)(i:Nat)(y:β)(h:(l.map f)[i]?=some y):∃x,l[i]?=some x/\f x=y:=by
 rw[qjo]at h
 cases hx:l[i]? with
 |none=>rw[hx]at h;cases h
 |some x=>rw[hx]at h;cases h;exact⟨x,rfl,rfl⟩
theorem qz{α β:Type}{l:List α}{m:List β}(h:l.length=m.length){i:Nat}{x:α}(hx:l[i]?=some x):∃y,m[i]?=some y:=by
 have:i<m.length:=by rw[<-h];exact(qjd.mp hx).1
 exact⟨m[i],qjk this⟩
theorem TokR.ro{G:Gh}{w:World}{sz:Nat}{cs:List AV}{v:Value}{b:Nat}(h:TokR G w sz cs v b):RelR G w (.sl sz cs) v:=by
 obtain⟨n,cap,arr,e,rfl,h2,h3,h4,h5,h6,h7,h9⟩:=h.ex
 by_cases hn:n=0
 ·subst hn
  have:cs=[]:=qj1.mp (by simpa using h3)
  subst this
  exact .sl0 sz _ cap h2
 ·have hle:cs.length<=arr.size:=by rw[h3,h7];exact qjr sz h4
  refine .sl sz cs n cap b 0 (arr.toList.take cs.length) h2 qc h3 h4 qc qg (fun k c hk=>?_) h.vl (fun k x c hx hc=>?_)
  ·rw[qj5,qB h6]
   rw[qjg]at hk
   split at hk
   ·simpa using hk
   ·cases hk
  ·obtain⟨c',hc',hr⟩:=h9 k x hx
   rw[qjg]at hc
   split at hc
   ·have:arr[k]?=some c:=by simpa using hc
    rw[this]at hc';cases hc';exact hr
   ·cases hc
theorem zk.ro{G:Gh}{w:World}{p:Ow}{x:AV}{v:Value}(h:zk G w p x v):RelR G w (ro1 x) v:=by
 cases x with
 |us sz cs=>obtain⟨b,_,ht⟩:=h;exact ht.ro
 |agg _=>exact h.elim
 |tup _=>exact h.elim
 |sc _=>exact h
 |sl _ _=>exact h
 |ptr _ _ _=>exact h
 |ms _ _ _ _ _=>exact h
 |fn _ _=>exact h
 |map _=>exact h
theorem RelR.c{G:Gh}{w:World}{x:AV}{v:Value}(h:RelR G w x v)(p:Ow):zk G w p x v:=by
 cases h with
 |sc v h=>exact .sc v h
 |sl0 sz a cap h=>exact .sl0 sz a cap h
 |sl sz cs n cap b o vs h1 h2 h3 h4 h5 h6 h7 h8 h9=>exact RelR.sl sz cs n cap b o vs h1 h2 h3 h4 h5 h6 h7 h8 h9
 |ptr b g off blk h=>exact RelR.ptr b g off blk h
 |ms b g off n sz cap blk off' z h h' h'' h3 h4=>exact RelR.ms b g off n sz cap blk off' z h h' h'' h3 h4
 |fn f caps vs h0 h h'=>exact RelR.fn f caps vs h0 h h'
 |map b blk h=>exact RelR.map b blk h
 |fnb f bs vs h0 h h'=>exact RelR.fnb f bs vs h0 h h'
theorem wB{G:Gh}{w:World}{x:AV}{v:Value}(h:RelR G w x v):ro1 x=x:=by cases h<;>rfl
theorem RelR.ne_agg{G:Gh}{w:World}{x:AV}{v:Value}(h:RelR G w x v):∀cs,x≠ .agg cs:=by cases h<;>intro cs h<;>cases h
theorem zk.ne_agg{G:Gh}{w:World}{p:Ow}{x:AV}{v:Value}(h:zk G w p x v):∀cs,x≠ .agg cs:=by
 rintro cs rfl;exact h
theorem JP{x:AV}(hx:∀cs,x≠ .agg cs):ro x=ro1 x:=by
 cases x<;>first|rfl|exact absurd rfl (hx _)
theorem zk.v{G:Gh}{w:World}{p:Nat->Ow}{x:AV}{v:Value}(h:zk G w (p 0) x v):qI G w p x v:=by
 rw[jE h.ne_agg];exact h
theorem qI.ro{G G':Gh}{w w':World}(he:Ev G w G' w'){p:Nat->Ow}(q:Nat->Ow){x:AV}{v:Value}(h:qI G w p x v):qI G' w' q (AI.ro x) v:=by
 rcases ke x with⟨cs,rfl⟩|hx
 ·obtain⟨vs,h1,h2,h3⟩:=h
  refine⟨vs,h1,by simpa using h2,fun i x c hx hc=>?_⟩
  obtain⟨y,hy,rfl⟩:=qk _ _ _ _ hx
  exact((h3 i y c hy hc).ro.ev he).c _
 ·rw[jE hx]at h
  rw[JP hx]
  exact((h.ro.ev he).c (q 0)).v
theorem qw.ro{G G':Gh}{w w':World}(he:Ev G w G' w'){k:Nat}(k':Nat){s:SV}{v:Value}
 (hl:∀a g off x,s= .lp a g off->G.la a g=some x->G'.la a g=some x) (h:qw G w k s v):qw G' w' k' s.ro v:=by
 cases s with
 |sv u=>exact h
 |av x=>exact qI.ro he _ h
 |tp l=>
  obtain⟨vs,h1,h2,h3⟩:=h
  refine⟨vs,h1,by simpa using h2,fun j x c hx hc=>?_⟩
  obtain⟨y,hy,rfl⟩:=qk _ _ _ _ hx
  exact(h3 j y c hy hc).ro he _
 |lp a g off=>
  obtain⟨blk,h1,h2⟩:=h
  exact⟨blk,hl a g off blk rfl h1,h2⟩
 |rv cs=>
  obtain⟨b,o,vs,h1,h2,h3,h4,h5⟩:=h
  refine⟨b,o,vs,h1,h2,fun i hi=>qjz (h3 i hi) (he.imm b),fun k c hk=>?_,fun k x c hx hc=>(h5 k x c hx hc).ev he⟩
  have hlt:k<vs.length:=(qjd.mp hk).1
  rw[he.cells b (o+k) (h3 k qc)]
  exact h4 k c hk
 |un=>trivial
 |ud=>exact h
theorem qD(l:Slots)(d:Nat)(s:SV)(k:Nat):qn ((d,s)::l) k=if d=k then s else qn l k:=by
 simp only[qn]
 by_cases e:d=k
 ·subst e;simp[kM]
 ·simp[Jm e,e]
theorem jM(l:Boxes)(d g:Nat)(cs:List AV)(k:Nat):qU (wn l d g cs) k=if d=k then some (g,cs)else qU l k:=by
 simp only[wn,qU]
 by_cases e:d=k
 ·subst e;simp[kM]
 ·simp[Jm e,e]
theorem kj(a:Act)(d:Nat)(v:Value)(hd:d<a.tmps.size)(k:Nat):((a.put (some d) v).tmps).getD k undef=if d=k then v else a.tmps.getD k undef:=by
 simp only[Act.put]
 by_cases e:d=k
 ·subst e
  simp[Array.getD,hd]
 ·simp only[Array.getD_eq_getD_getElem?,e,if_false]
  rw[Array.getElem?_setIfInBounds_ne e]
theorem qE(a:Act)(d:Option Nat)(v:Value):(a.put d v).tmps.size=a.tmps.size:=by
 cases d<;>simp[Act.put]
theorem qv(a:Act)(d:Option Nat)(v:Value):(a.put d v).defers=a.defers:=by
 cases d<;>rfl
theorem qci(t:Nat)(l:Slots)(k:Nat):qn (dn t l) k=if t=k then(qn l k).ro else qn l k:=by
 unfold dn
 rw[qD]
 by_cases e:t=k
 ·subst e;simp
 ·simp[e]
theorem qcv(x:AV):ro1 (ro1 x)=ro1 x:=by cases x<;>rfl
theorem ro_ro(x:AV):ro (ro x)=ro x:=by
 cases x with
 |agg cs=>simp[ro,List.map_map,Function.comp_def,qcv]
 |_=>rfl
theorem SV.ro_ro(s:SV):s.ro.ro=s.ro:=by
 cases s with
 |av x=>simp[SV.ro,AI.ro_ro]
 |tp l=>simp[SV.ro,List.map_map,Function.comp_def,AI.ro_ro]
 |_=>rfl
theorem qL(ts:List Nat):∀(l:Slots) (k:Nat),qn (qs ts l) k=if k∈ts then(qn l k).ro else qn l k:=by
 induction ts with
 |nil=>intro l k;simp[qs]
 |cons t ts ih=>
  intro l k
  have:qs (t::ts) l=qs ts (dn t l):=rfl
  rw[this,ih,qci]
  by_cases h1:t=k
  ·subst h1
   by_cases h2:t∈ts<;>simp[h2,SV.ro_ro]
  ·have h1':¬k=t:=fun h=>h1 h.symm
   by_cases h2:k∈ts<;>simp[h1,h1',h2]
theorem kr{s:SV}{k g off:Nat}:s.ro= .lp k g off↔s= .lp k g off:=by
 cases s<;>simp[SV.ro]
def Gh.rel(G:Gh)(f:Ow->Ow):Gh:={G with Om:=fun b=>f (G.Om b)}
structure Rho (f : Ow → Ow) : Prop where
 fr:f .fr= .fr
 oth:f .oth= .oth
 box:∀p k g,f p= .box k g->p= .box k g
 obj:∀p k g,f p= .obj k g->p= .obj k g
theorem Fr.rel{G:Gh}{w:World}{f:Ow->Ow}(hf:Rho f):Fr G w (G.rel f) w:=
 ⟨qji _,fun _ _ _=>rfl,fun _=>qji _,fun _ _ _ h=>h,fun b _ ho=>⟨rfl,by
  simp only[Gh.rel]
  rcases ho with h|h<;>rw[h]
  ·exact hf.fr
  ·exact hf.oth,rfl⟩,kf.refl w,fun _ _ h=>h⟩
def DOk(d:TypeDesc)(k:TK):Prop:=
 match k with
 | .sc=>∀x,(d matches .struct _| .array _ _| .slice _)=x->x=false
 | .ot=>∀x,(d matches .struct _| .array _ _| .slice _)=x->x=false
 | .tu=>True
 | .sl e=>d= .slice e
 | .mp q e=>d= .map q e
 | .ar n e=>d= .array n e
 | .st fs=>∃fields:Array Field,d= .struct fields/\fields.toList.map (fun f=>(f.offset,f.type))=fs
def YN(P:Program)(t:TypeId)(ti:TI):Prop:=
 (Yp ti=true->P.underlying t=some (.int .u8))/\(Zg ti=true->P.underlying t=some .string)/\
 ∃info d,P.info? t=some info/\P.underlying t=some d/\DOk d ti.k/\info.bytes=ti.bytes/\
  (xG ti.k=false->info.size=ti.size/\∃z,info.zero=some z/\z.cells.toList=ti.zero/\ti.zero.length=ti.size/\∀v∈ti.zero,v.oneCell'=true)
structure Ok (c : Cx) : Prop where
 tt:∀t ti,c.tt t=some ti->YN c.P t ti
 ti:∀t ti,c.tt t=some ti->KC ti=true->∃k,c.P.underlying t=some (.int k)
 tb:∀t ti,c.tt t=some ti->KD ti=true->c.P.underlying t=some .bool
 tp:∀t ti,c.tt t=some ti->qdd ti=true->∃e,c.P.underlying t=some (.pointer e)
 zf:∀t ti,c.tt t=some ti->xG ti.k=false->∀info z,c.P.info? t=some info->info.zero=some z->(zU ti.k=true->∃vs,z= .agg vs)/\(zU ti.k=false->z.oneCell'=true)
 F:∀f fn,c.F f=some fn->c.P.funcs[f]?=some fn
 nm:∀f fn,c.F f=some fn->(fn.name== "runtime.NumGoroutine")=false
 X:∀f fn vs v,c.F f=some fn->fn.body=none->c.X f vs=some v->∀w,(callFunc f vs.toArray).run c.P w= .ok (.value v) w
 mixed:c.P.follows .mixedOrders=true
theorem qj{c:Cx}{t:TypeId}{ti:TI}(h:c.tn t=some ti):c.tt t=some ti/\xG ti.k=false:=by
 unfold Cx.tn at h
 split at h
 ·rename_i ti' h'
  cases hk:xG ti'.k with
  |true=>simp[hk]at h
  |false=>simp[hk]at h;subst h;exact⟨h',hk⟩
 ·cases h
section
variable {P:Program}{t:TypeId}{ti:TI}{w:World}
theorem YN.sizeOf(h:YN P t ti)(hk:xG ti.k=false)(w:World):(sizeOf t).run P w= .ok ti.size w:=by
 obtain⟨_,_,info,d,h1,h2,h3,h4,h5⟩:=h
 rw[run_sizeOf w h1]
 have:P.cellsOf t=ti.size:=by simp[Program.cellsOf,h1,(h5 hk).1]
 rw[this]
theorem YN.zero(h:YN P t ti)(hk:xG ti.k=false):∃z,z.cells.toList=ti.zero/\ti.zero.length=ti.size/\(∀v∈ti.zero,v.oneCell'=true)/\∀w,(zeroValue t).run P w= .ok z w:=by
 obtain⟨_,_,info,d,h1,h2,h3,h4,h5⟩:=h
 obtain⟨h6,z,h7,h8,h9,h10⟩:=h5 hk
 exact⟨z,h8,h9,h10,fun w=>by simp[zeroValue,typeInfo,h1,h7]⟩
theorem YN.isAgg(h:YN P t ti)(hk:xG ti.k=false)(w:World):(Go.isAgg t).run P w= .ok (zU ti.k) w:=by
 obtain⟨_,_,info,d,h1,h2,h3,h4,h5⟩:=h
 unfold Go.isAgg
 simp only[Sem.run_bind,run_underlying h2,Result.andThen_ok]
 cases hti:ti.k with
 |sc=>
  rw[hti]at h3
  cases d<;>first|rfl|(have:=h3 _ rfl;cases this)
 |ot=>
  rw[hti]at h3
  cases d<;>first|rfl|(have:=h3 _ rfl;cases this)
 |tu=>rw[hti]at hk;cases hk
 |sl e=>rw[hti]at h3;cases h3;rfl
 |mp q e=>rw[hti]at h3;cases h3;rfl
 |ar n e=>rw[hti]at h3;cases h3;rfl
 |st fs=>rw[hti]at h3;obtain⟨fields,rfl,_⟩:=h3;rfl
theorem YN.bytes(h:YN P t ti):∃info,P.info? t=some info/\info.bytes=ti.bytes:=by
 obtain⟨_,_,info,d,h1,h2,h3,h4,h5⟩:=h
 exact⟨info,h1,h4⟩
theorem YN.und(h:YN P t ti):∃d,P.underlying t=some d/\DOk d ti.k:=by
 obtain⟨_,_,info,d,h1,h2,h3,h4,h5⟩:=h
 exact⟨d,h2,h3⟩
end
theorem RelR.one{G:Gh}{w:World}{x:AV}{v:Value}(h:RelR G w x v):v.oneCell'=true:=by
 cases h<;>first|rfl|assumption
theorem zk.one{G:Gh}{w:World}{p:Ow}{x:AV}{v:Value}(h:zk G w p x v):v.oneCell'=true:=by
 cases x with
 |us sz cs=>
  obtain⟨b,_,ht⟩:=h
  obtain⟨n,cap,arr,e,rfl,_⟩:=ht.ex
  rfl
 |agg _=>exact h.elim
 |tup _=>exact h.elim
 |sc _=>exact RelR.one h
 |sl _ _=>exact RelR.one h
 |ptr _ _ _=>exact RelR.one h
 |ms _ _ _ _ _=>exact RelR.one h
 |fn _ _=>exact RelR.one h
 |map _=>exact RelR.one h
theorem vr{v:Value}(h:v.oneCell'=true):v.cells=#[v]:=by cases v<;>first|rfl|cases h
def vJ(G:Gh)(w:World)(p:Nat->Ow)(l:List AV)(vs:List Value):Prop:=
 l.length=vs.length/\∀(i:Nat) (x:AV) (c:Value),l[i]?=some x->vs[i]?=some c->zk G w (p i) x c
theorem vJ.ev{G G':Gh}{w w':World}(he:Ev G w G' w'){p q:Nat->Ow}(hk:∀i,qM G w G' w' (p i) (q i)){l:List AV}{vs:List Value}(h:vJ G w p l vs):vJ G' w' q l vs:=
 ⟨h.1,fun i x c hx hc=>(h.2 i x c hx hc).ev he (hk i)⟩
theorem vJ.one{G:Gh}{w:World}{p:Nat->Ow}{l:List AV}{vs:List Value}(h:vJ G w p l vs):∀v∈vs,v.oneCell'=true:=by
 intro v hv
 obtain⟨i,hi,rfl⟩:=qkx hv
 have hl:i<l.length:=by rw[h.1];exact hi
 exact(h.2 i l[i] vs[i] (qjk hl) (qjk hi)).one
theorem qI.cells{G:Gh}{w:World}{p:Nat->Ow}{x:AV}{v:Value}{n:Nat}{l:List AV}(h:qI G w p x v)(hl:qu n x=some l):
 l.length=n/\vJ G w p l v.cells.toList:=by
 rcases ke x with⟨cs,rfl⟩|hx
 ·obtain⟨vs,rfl,h2,h3⟩:=h
  simp only[qu]at hl
  split at hl
  ·cases hl
   rename_i hn
   exact⟨hn,by simpa[Value.cells]using h2,fun i x c hx hc=>h3 i x c hx (by simpa[Value.cells]using hc)⟩
  ·cases hl
 ·rw[jE hx]at h
  have h1:qu n x=if n=1 then some [x]else none:=by
   cases x<;>first|rfl|exact absurd rfl (hx _)|exact h.elim
  rw[h1]at hl
  split at hl
  ·cases hl
   rename_i hn
   rw[vr h.one]
   refine⟨by simp[hn],qe,fun i x c hx hc=>?_⟩
   match i,hx,hc with
   |0,hx,hc=>simp at hx hc;subst hx;subst hc;exact h
   |i+1,hx,hc=>simp at hx
  ·cases hl
theorem qw.valC{G:Gh}{w:World}{k:Nat}{s:SV}{v:Value}{n:Nat}{l:List AV}(h:qw G w k s v)(hl:valC n s=some l):
 l.length=n/\vJ G w (.sl k 0 ·) l v.cells.toList:=by
 cases s with
 |sv u=>
  obtain⟨rfl,h1⟩:=h
  simp only[AI.valC]at hl
  split at hl
  ·cases hl
   rename_i hn
   rw[vr h1]
   refine⟨by simp[hn],qe,fun i x c hx hc=>?_⟩
   match i,hx,hc with
   |0,hx,hc=>simp at hx hc;subst hx;subst hc;exact .sc _ h1
   |i+1,hx,hc=>simp at hx
  ·cases hl
 |av x=>exact qI.cells h hl
 |lp _ _ _=>cases hl
 |rv _=>cases hl
 |tp _=>cases hl
 |un=>cases hl
 |ud=>cases hl
end Go.Proofs.YtklejdfghnnafaaGreat.AI
