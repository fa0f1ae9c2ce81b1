/- Texts that the proof of BoxFrames rests on, part 1. -/
import Derived.WalkKit
import Derived.KernelRfl
import Derived.Lib.ReflectliteSwap
import Derived.Lib.ReflectliteSlice
import Derived.Laws.Externs
import Derived.Lib.AppendStr
import Derived.Lib.AppendZerosOnto
import Derived.Laws.CopyRow
namespace Go.Proofs.YtoliekekdmfngaaGreat.AI
open Go
theorem bsm {A B : Type} {x : Option A} {f : A → Option B} {b : B} (h : x.bind f = some b) : ∃ a, x = some a ∧ f a = some b := Option.bind_eq_some_iff.mp h
theorem qc{p:Prop}(h:p:=by omega):p:=h
theorem qe{p:Prop}(h:p:=by simp):p:=h
theorem qf{p:Prop}(h:p:=by decide):p:=h
theorem qg{p:Prop}(h:p:=by simp;omega):p:=h
abbrev zh8:=@List.length_append
abbrev zh9:=@Option.bind_assoc
abbrev zia:=@List.getD_eq_getElem?_getD
abbrev zib:=@Option.bind_some
abbrev zic:=@List.getElem?_eq_getElem
abbrev zid:=@List.length_cons
abbrev zie:=@List.mem_cons
abbrev zif:=@Nat.le_refl
abbrev zig:=@List.mem_of_getElem?
abbrev zih:=@List.getElem?_eq_some_iff
abbrev zii:=@List.pairwise_cons
abbrev zij:=@List.getElem?_take
abbrev zik:=@Int.toNat_natCast
abbrev zil:=@List.getElem?_append_right
abbrev zim:=@List.take_succ_cons
abbrev zin:=@List.getElem?_append_left
abbrev zio:=@List.append_assoc
abbrev zip:=@List.mem_append
abbrev ziq:=@Nat.mul_le_mul_right
abbrev zir:=@List.getElem?_map
abbrev zis:=@List.size_toArray
abbrev zit:=@Option.some.inj
abbrev ziu:=@List.mem_map
abbrev ziv:=@Nat.zero_le
abbrev ziw:=@Nat.zero_add
abbrev zix:=@List.take_of_length_le
abbrev ziy:=@List.length_take
abbrev ziz:=@List.length_singleton
abbrev zi0:=@List.getElem?_drop
abbrev zi1:=@List.length_nil
abbrev zi2:=@List.drop_eq_getElem_cons
abbrev zi3:=@Nat.mul_comm
abbrev zi4:=@List.append_nil
abbrev zi5:=@List.nil_append
abbrev zi6:=@List.getElem_mem
abbrev zi7:=@Nat.mul_one
abbrev zi8:=@Nat.lt_of_lt_of_le
abbrev zi9:=@List.length_eq_zero_iff
abbrev zja:=@List.all_eq_true
abbrev zjb:=@Array.length_toList
abbrev zjc:=@List.map_cons
abbrev zjd:=@List.getElem?_eq_none
abbrev zje:=@List.eq_of_mem_replicate
abbrev zjf:=@Array.getElem?_append_left
abbrev zjg:=@List.length_map
abbrev zjh:=@List.mem_singleton
abbrev zji:=@BitVec.toNat_ofInt
abbrev zjj:=@List.length_pos_iff
abbrev zjk:=@Array.size_append
abbrev zjl:=@Bool.false_eq_true
abbrev zjm:=@List.length_replicate
abbrev zjn:=@Nat.mul_le_mul
abbrev zjo:=@Nat.add_zero
abbrev zjp:=@List.map_append
abbrev zjq:=@Nat.testBit_two_pow
abbrev zjr:=@Int.tdiv_eq_ediv_of_nonneg
abbrev zjs:=@List.mem_of_mem_take
abbrev zjt:=@List.length_drop
abbrev zju:=@Nat.mod_eq_of_lt
abbrev zjv:=@Int.fdiv_eq_ediv_of_nonneg
abbrev zjw:=@Nat.le_trans
abbrev zjx:=@List.pairwise_append
abbrev zjy:=@Int.natCast_nonneg
abbrev zjz:=@Nat.pow_le_pow_right
abbrev zj0:=@List.cons_append
abbrev zj1:=@Nat.mul_assoc
abbrev zj2:=@List.drop_zero
abbrev zj3:=@Nat.pow_succ
abbrev zj4:=@Nat.lt_succ_self
abbrev zj5:=@Nat.eq_of_testBit_eq
abbrev zj6:=@Int.ofNat_eq_natCast
abbrev zj7:=@Array.getElem?_eq_some_iff
abbrev zj8:=@List.drop_eq_nil_of_le
abbrev zj9:=@Int.toNat_of_nonneg
abbrev zka:=@List.mem_or_eq_of_mem_set
abbrev zkb:=@Nat.zero_mul
abbrev zkc:=@List.map_nil
abbrev zkd:=@Nat.ne_of_lt
abbrev zke:=@Bool.and_eq_true
abbrev zkf:=@Int.cast_ofNat_Int
abbrev zkg:=@List.mem_cons_of_mem
abbrev zkh:=@List.mem_of_mem_drop
abbrev zki:=@Nat.testBit_or
abbrev zkj:=@Nat.le_mul_of_pos_right
abbrev zkk:=@Nat.testBit_mod_two_pow
abbrev zkl:=@List.getElem?_cons_succ
abbrev zkm:=@Option.map_some
abbrev zkn:=@Nat.two_pow_add_eq_or_of_lt
abbrev zko:=@List.getElem?_range
abbrev zkp:=@Option.map_eq_some_iff
abbrev zkq:=@Nat.add_assoc
abbrev zkr:=@Nat.eq_zero_or_pos
abbrev zks:=@List.getElem?_toArray
abbrev zkt:=@Nat.min_eq_left
abbrev zku:=@List.replicate_succ'
abbrev zkv:=@List.ext_getElem?
abbrev zkw:=@Int.eq_ofNat_of_zero_le
abbrev zkx:=@List.getElem?_cons_zero
abbrev zky:=@List.getElem_of_mem
abbrev zkz:=@List.replicate_succ
abbrev zk0:=@Nat.mul_le_mul_left
abbrev zk1:=@List.drop_succ_cons
abbrev zk2:=@List.take_left
abbrev zk3:=@Nat.two_pow_pos
abbrev zk4:=@List.take_add_one
abbrev zk5:=@Array.getElem?_eq_getElem
abbrev zk6:=@Nat.add_mul
abbrev zk7:=@Nat.pow_add
abbrev zk8:=@List.drop_left
abbrev zk9:=@Nat.lt_or_ge
abbrev zla:=@List.not_mem_nil
abbrev zlb:=@List.getElem?_take_of_lt
abbrev zlc:=@List.take_length
abbrev zld:=@Nat.div_eq_of_lt
abbrev zle:=@Nat.testBit_div_two_pow
abbrev zlf:=@Bool.or_eq_true
abbrev zlg:=@Nat.testBit_xor
abbrev zlh:=@Nat.testBit_lt_two_pow
abbrev zli:=@List.map_map
abbrev zlj:=@List.take_append_drop
abbrev zlk:=@List.set_append_right
abbrev zll:=@List.map_toArray
abbrev zlm:=@List.perm_middle
abbrev zln:=@Nat.le_of_mul_le_mul_right
abbrev zlo:=@List.map_take
abbrev zlp:=@List.take_left'
abbrev zlq:=@List.pairwise_iff_getElem
abbrev zlr:=@Nat.lt_of_le_of_lt
abbrev zls:=@List.mem_range
abbrev zlt:=@Nat.add_eq
abbrev zlu:=@Function.comp_def
abbrev zlv:=@List.flatten_cons
abbrev zlw:=@Option.some.injEq
abbrev zlx:=@List.getElem?_set_self
abbrev zly:=@Nat.mul_pos
abbrev zlz:=@Array.getElem?_eq_none
abbrev zl0:=@Nat.div_div_eq_div_mul
abbrev zl1:=@List.take_nil
abbrev zl2:=@List.mem_flatMap
abbrev zl3:=@BitVec.toNat_and
abbrev zl4:=@Array.getElem?_modify
abbrev zl5:=@List.getElem?_set_ne
abbrev zl6:=@Nat.mod_lt
abbrev zl7:=@Array.eq_empty_of_size_eq_zero
abbrev zl8:=@Array.ext'
abbrev zl9:=@BitVec.toNat_or
abbrev zma:=@Nat.div_le_self
abbrev zmb:=@Array.getElem?_push
abbrev zmc:=@Nat.div_mul_le_self
abbrev zmd:=@List.take_take
abbrev zme:=@Nat.le_succ
abbrev zmf:=@List.mem_cons_self
abbrev zmg:=@Nat.pos_of_ne_zero
abbrev zmh:=@BitVec.toNat_ofNat
abbrev zmi:=@Bool.and_true
abbrev zmj:=@List.sum_cons
abbrev zmk:=@List.getElem?_set
abbrev zml:=@List.take_sublist
abbrev zmm:=@Nat.lt_trichotomy
abbrev zmn:=@Int.lt_trichotomy
abbrev zmo:=@Nat.add_comm
abbrev zmp:=@Nat.sub_zero
end Go.Proofs.YtoliekekdmfngaaGreat.AI
namespace Go.Proofs.YtoliekekdmfngaaGreat.AI
open Go
set_option linter.unusedVariables false
set_option linter.unusedSimpArgs false
set_option maxRecDepth 100000
set_option maxHeartbeats 0
inductive AV where
 |sc (v:Value)
 |sl (sz:Nat) (cs:List AV)
 |us (sz:Nat) (cs:List AV)
 |agg (cs:List AV)
 |tup (vs:List AV)
 |ptr (b g off:Nat)
 |ms (b g off len sz:Nat)
 |fn (f:FuncId) (cap:List AV)
 |map (b:Nat)
 |ifc (t:TypeId) (x:AV)
structure Hp where
 next:Nat
 get:Nat->Option (Nat×List AV)
def hp0:Hp:=⟨0,fun _=>none⟩
def Hp.rd(h:Hp)(b g:Nat):Option (List AV):=(h.get b).bind fun p=>if p.1=g/\g=0 then some p.2 else none
def Hp.rdM(h:Hp)(b:Nat):Option (List AV):=(h.get b).bind fun p=>if p.1=1 then some p.2 else none
def Hp.del(h:Hp)(b:Nat):Hp:=⟨h.next,fun x=>if x=b then none else h.get x⟩
def Hp.newM(h:Hp):Hp:=⟨h.next+1,fun x=>if x=h.next then some (1,[])else h.get x⟩
def Hp.put(h:Hp)(b g:Nat)(cs:List AV):Hp:=⟨h.next,fun x=>if x=b then some (g,cs)else h.get x⟩
def Hp.new(h:Hp)(cs:List AV):Hp:=⟨h.next+1,fun x=>if x=h.next then some (0,cs)else h.get x⟩
inductive SV where
 |sv (v:Value)
 |av (x:AV)
 |lp (k g off:Nat)
 |rv (cs:List AV)
 |tp (l:List AV)
 |un
 |ud
inductive TK where
 |sc|ot|tu
 |sl (e:TypeId)
 |mp (k e:TypeId)
 |ar (n:Nat) (e:TypeId)
 |st (fs:List (Nat×TypeId))
structure TI where
 k:TK
 size:Nat
 bytes:Nat
 zero:List Value
abbrev Boxes:=List (Nat×Nat×List AV)
abbrev Slots:=List (Nat×SV)
structure St where
 sl:Slots
 bx:Boxes
 hp:Hp
structure Cx where
 P:Program
 tt:TypeId->Option TI
 F:FuncId->Option Func
 X:FuncId->List Value->Option Value
 H:FuncId->Nat->Nat->Nat
 M:FuncId->Nat->Option (List Nat)
def zO{α:Type}(P:Program):Sem α->Option α
 | .pure a=>some a
 | .program k=>zO P (k P)
 | .mark _ k=>zO P k
 |_=>none
def ro1:AV->AV
 | .us s c=>.sl s c
 |x=>x
def ro:AV->AV
 | .us s c=>.sl s c
 | .agg cs=>.agg (cs.map ro1)
 |x=>x
def vl:AV->Bool
 | .sc _=>true
 | .sl _ _=>true
 | .us _ _=>true
 | .fn _ c=>c.isEmpty
 |_=>false
def vlF:AV->Bool
 | .agg cs=>cs.all vl
 |x=>vl x
def vlV:AV->Bool
 | .tup l=>l.all vlF
 |x=>vlF x
def SV.ro:SV->SV
 | .av x=>.av (AI.ro x)
 | .tp l=>.tp (l.map AI.ro)
 |s=>s
def vy:AV->Option Value
 | .sc v=>some v
 |_=>none
def asB:Value->Option Bool
 | .bool b=>some b
 |_=>none
def ZK:Value->Option Int
 | .int _ n=>some n
 |_=>none
def qt(cs:List AV)(i:Nat):Option AV:=cs[i]?
def qi(cs:List AV)(i:Nat):Option Value:=(cs[i]?).bind vy
def qo(cs:List AV)(i n:Nat):Option (List AV):=if i+n<=cs.length then some ((cs.drop i).take n)else none
def qm(cs:List AV)(i:Nat)(vs:List AV):Option (List AV):=
 if i+vs.length<=cs.length then some (cs.take i++vs++cs.drop (i+vs.length))else none
def qk(n:Nat):AV->Option (List AV)
 | .agg cs=>if cs.length=n then some cs else none
 | .tup _=>none
 |x=>if n=1 then some [x]else none
def qek:TK->Bool
 | .sc=>true
 |_=>false
def yJ:TK->Bool
 | .ar _ _=>true
 | .st _=>true
 |_=>false
def XF:SV->Option AV
 | .sv v=>some (.sc v)
 | .av x=>some x
 |_=>none
def jd(r:AV)(i:Nat):AV:=
 match r with
 | .tup vs=>vs.getD i (.tup [])
 |_=>.tup []
def yV(n:Nat):AV->Option Unit
 | .tup vs=>if vs.length=n then some ()else none
 |_=>none
def nil0:Value:=.slice none 0 0
def kE:Value->Bool
 | .slice none 0 0=>true
 |_=>false
def zd:AV->Option Nat
 | .sl s cs=>some (if s=1 then cs.length else cs.length/s)
 | .us s cs=>some (if s=1 then cs.length else cs.length/s)
 | .ms _ _ _ n _=>some n
 | .sc v=>if kE v then some 0 else none
 |_=>none
def idx(n:Nat)(v:Value):Option Nat:=(ZK v).bind fun i=>if 0<=i/\i<(n:Int)then some i.toNat else none
def zL(sz:Nat)(x:AV)(v:Value):Option (List AV):=
 match x with
 | .sl s cs=>if s=sz then(idx (if s=1 then cs.length else cs.length/s) v).bind fun i=>qo cs (i*sz) sz else none
 | .us s cs=>if s=sz then(idx (if s=1 then cs.length else cs.length/s) v).bind fun i=>qo cs (i*sz) sz else none
 |_=>none
def qH(lo hi:Int)(v:Option Value)(dflt:Nat):Option Nat:=
 match v with
 |none=>some dflt
 |some v=>(ZK v).bind fun i=>if lo<=i/\i<=hi then some i.toNat else none
def zS(sz:Nat)(x:AV)(lo hi mx:Option Value):Option AV:=
 match x with
 | .sl s cs=>if s=sz then
  let n:=if s=1 then cs.length else cs.length/s
  (qH 0 n mx n).bind fun m=>(qH 0 m hi n).bind fun h=>(qH 0 h lo 0).bind fun l=>some (.sl s ((cs.drop (l*s)).take ((h-l)*s)))
  else none
 | .us s cs=>if s=sz then
  let n:=if s=1 then cs.length else cs.length/s
  (qH 0 n mx n).bind fun m=>(qH 0 m hi n).bind fun h=>(qH 0 h lo 0).bind fun l=>some (.sl s ((cs.drop (l*s)).take ((h-l)*s)))
  else none
 | .sc v=>if kE v then
  (qH 0 0 mx 0).bind fun m=>(qH 0 m hi 0).bind fun h=>(qH 0 h lo 0).bind fun _=>some (.sc nil0)
  else none
 |_=>none
def yG(sz:Nat):AV->Option (List AV)
 | .sl s cs=>if s=sz then some cs else none
 | .us s cs=>if s=sz then some cs else none
 | .sc v=>match v with
  | .slice none 0 0=>some []
  |_=>none
 |_=>none
def js(bytes sz n:Nat):Bool:=decide (n*bytes<=140737488355328*sz)&&decide (0<bytes)
def jV(sz:Nat)(cs:List AV):Nat:=if sz=1 then cs.length else cs.length/sz
def vH:Value->Value->Option Bool
 | .int j a,.int k b=>if j=k then some (a==b)else none
 | .string a,.string b=>some (a==b)
 | .bool a,.bool b=>some (a==b)
 |_,_=>none
def Zj(k:Value):List AV->Option (Option AV)
 |[]=>some none
 | .tup [.sc q,x]::r=>(vH k q).bind fun t=>cond t (some (some x)) (Zj k r)
 |_=>none
def KT(k:Value)(v:AV):List AV->Option (List AV)
 |[]=>some [.tup [.sc k,v]]
 | .tup [.sc q,x]::r=>(vH k q).bind fun t=>cond t (some (.tup [.sc q,v]::r)) ((KT k v r).map fun l=>.tup [.sc q,x]::l)
 |_=>none
def WS(bytes sz:Nat)(d:AV)(ys:List AV):Option AV:=
 match ys with
  |[]=>match d with
   | .us z cs=>if z=sz then some (.us z cs)else none
   | .sc v=>if kE v then some (.sc nil0)else none
   |_=>none
  |ys=>match d with
   | .us z cs=>if z=sz&&js bytes sz (cs.length+ys.length)then some (.us z (cs++ys.map ro1))else none
   | .sc v=>if kE v&&js bytes sz ys.length then some (.us sz (ys.map ro1))else none
   |_=>none
def zh(bytes sz:Nat)(d s:AV):Option AV:=(yG sz s).bind fun ys=>WS bytes sz d ys
def zp:List AV->Option (List UInt8)
 |[]=>some []
 | .sc (.int .u8 n)::r=>(zp r).map fun l=>UInt8.ofNat n.toNat::l
 |_=>none
def Xp:List AV->Option (List Value)
 |[]=>some []
 | .sc v::r=>(Xp r).map fun l=>v::l
 |_=>none
def Xl:AV->Option Value
 | .sc v=>some v
 | .agg cs=>(Xp cs).map fun l=>.agg l.toArray
 |_=>none
def qbg:SV->Option Value
 | .sv v=>some v
 | .av x=>Xl x
 |_=>none
def zP:AV->Option (Nat×Nat×Nat)
 | .ptr b g o=>some (b,g,o)
 |_=>none
def xN:AV->Option (FuncId×List AV)
 | .fn f c=>match Nat.blt f 4294967296 with
  |true=>some (f,c)
  |false=>none
 |_=>none
def Vm:AV->Option (FuncId×List AV)
 | .fn f (b::c)=>match Nat.blt f 4294967296 with
  |true=>none
  |false=>some (f-4294967296,b::c)
 |_=>none
def one(o:Option Value):Option Value:=o.bind fun z=>if z.oneCell'=true then some z else none
def qs(P:Program)(op:BinOp)(t:TypeId)(x y:Operand)(a b:Value):Option Value:=
 one (zO P (do eqGuard op t x y a b;Go.binOp op t a b))
def unV(P:Program)(op:UnOp)(a:Value):Option Value:=one (zO P (Op.unary op a))
def Zc(P:Program)(s d:TypeId)(a:Value):Option Value:=one (zO P (convert s d a))
def ixV(P:Program)(t:TypeId)(a i:Value):Option Value:=one (zO P (Instr.index t a i))
def scV(P:Program)(t:TypeId)(a:Value)(lo hi mx:Option Value):Option Value:=one (zO P (Instr.slice t a lo hi mx))
def yK(P:Program)(b:Builtin)(ts:Array TypeId)(t:TypeId)(as_:List Value):Option Value:=
 match b with
 | .min=>one (zO P (Builtin.min_ ts t as_.toArray))
 | .max=>one (zO P (Builtin.max_ ts t as_.toArray))
 | .len=>one (zO P (Builtin.len_ ts t as_.toArray))
 |_=>none
def qpy:AV->Option Bool
 | .sl _ _=>some false
 | .us _ _=>some false
 | .ms _ _ _ _ _=>some false
 | .sc (.slice none _ _)=>some true
 |_=>none
def Yu:AV->Option Bool
 | .ptr _ _ _=>some false
 | .sc (.pointer none)=>some true
 |_=>none
def qk7:Value->Bool
 | .pointer none=>true
 |_=>false
def qA(l:Slots)(k:Nat):SV:=
 match l with
 |[]=>.un
 |(j,s)::r=>match Nat.beq j k with|true=>s|false=>qA r k
def wt(l:Slots)(d:Option Tmp)(s:SV):Slots:=
 match d with
 |some k=>(k,s)::l
 |none=>l
def zQ(b:Boxes)(k:Nat):Option (Nat×List AV):=
 match b with
 |[]=>none
 |(j,g,cs)::r=>match Nat.beq j k with|true=>some (g,cs)|false=>zQ r k
def Kx(b:Boxes)(k g:Nat)(cs:List AV):Boxes:=(k,g,cs)::b
def zt(l:Slots):Operand->SV
 | .tmp t=>qA l t
 | .const v=>match v with
  | .agg cs=>if cs.toList.all (·.oneCell')=true then .av (.agg (cs.toList.map .sc))else .un
  | .tuple _=>.un
  |v=>.sv v
 | .global _=>.un
 | .func f=>.av (.fn f [])
def Wp(k:TK):SV->SV
 | .sv v=>if qek k then .sv v else .av (.sc v)
 |s=>s
def zJ(l:List Value):List AV:=l.map .sc
def Zb:TK->Bool
 | .tu=>true
 |_=>false
def Cx.tn(c:Cx)(t:TypeId):Option TI:=
 match c.tt t with
 |some ti=>if Zb ti.k then none else some ti
 |none=>none
def yk(p:Prop)[Decidable p]:Option Unit:=if p then some ()else none
def jf(a b:Nat):Option Unit:=yk (a=b)
def VB(b:Bool):Option Unit:=yk (b=true)
def vh(cs:List AV):Option Unit:=yk (cs.all vl=true)
abbrev Orc:=FuncId->List AV->Hp->Option (AV×Hp)
abbrev BE:=Option (Nat×Nat×List AV)
abbrev Kt(R:Type):=SV->BE->Hp->Option R
def qhh(ti:TI):Bool:=
 match ti.k,ti.zero with
 | .sc,[.int .u8 _]=>true
 |_,_=>false
def qa8(ti:TI):Bool:=
 match ti.k,ti.zero with
 | .sc,[.string _]=>true
 |_,_=>false
def zab(ti:TI):Bool:=
 match ti.k,ti.zero with
 | .ot,[.pointer none]=>true
 |_,_=>false
def zbi:AV->Option (List AV)
 | .agg cs=>some cs
 |_=>none
def VW:SV->Option (List AV)
 | .av x=>zbi x
 |_=>none
def qhz:AV->Bool
 | .agg _=>false
 | .tup _=>false
 |_=>true
def Xh(xs:List AV):Option Unit:=VB (xs.all qhz)
def Qw:Value->Option ByteArray
 | .string s=>some s
 |_=>none
def xy:SV->Option Value
 | .sv v=>some v
 |_=>none
def WH:AV->Option Unit
 | .ptr _ _ _=>some ()
 | .fn _ _=>some ()
 |_=>none
def qN:AV->Option (Nat×Nat×Nat×Nat×Nat)
 | .ms b g o n z=>some (b,g,o,n,z)
 |_=>none
def valC(n:Nat):SV->Option (List AV)
 | .sv v=>if n=1 then some [.sc v]else none
 | .av x=>qk n x
 |_=>none
def opV(ev:Operand->SV):Option Operand->Option (Option Value)
 |none=>some none
 |some o=>(xy (ev o)).bind fun v=>some (some v)
def JY:List SV->Option (List AV)
 |[]=>some []
 |s::r=>(XF s).bind fun x=>(JY r).bind fun l=>some (x::l)
def qdd:List SV->Option (List Value)
 |[]=>some []
 |s::r=>(xy s).bind fun x=>(qdd r).bind fun l=>some (x::l)
def KU(c:Cx)(fs:List (Nat×TypeId))(i:Nat):Option (Nat×Nat):=
 match fs[i]? with
 |some p=>match c.tn p.2 with
  |some fi=>some (p.1,fi.size)
  |none=>none
 |none=>none
def yA{R:Type}(vg:Nat->Option (Nat×Nat))(ev:Operand->SV)(K:List AV->Option R):List (Nat×Operand)->List AV->Option R
 |[],cs=>K cs
 |(i,x)::r,cs=>
  match vg i with
  |none=>none
  |some (off,n)=>(valC n (ev x)).bind fun vs=>(qm cs off vs).bind fun cs'=>yA vg ev K r cs'
def jz{R:Type}(ti:TI)(h:Nat)(cs:List AV)(off:Nat)(K:SV->List AV->Option R):Option R:=
 if qek ti.k then(qi cs off).bind fun v=>K (.sv v) cs
 else if yJ ti.k then(qo cs off ti.size).bind fun l=>
  if h=1 then(qm cs off (l.map ro1)).bind fun cs'=>K (.av (.agg l)) cs' else K (.av (.agg (l.map ro1))) cs
 else(qt cs off).bind fun x=>if h=1 then K (.av x) (cs.set off (ro1 x))else K (.av (ro1 x)) cs
def yn:AV->Option Unit
 | .tup _=>none
 |_=>some ()
def QZ{R:Type}(ti:TI)(r:AV)(K:SV->Option R):Option R:=
 match ti.k with
 | .sc=>(vy r).bind fun v=>K (.sv v)
 | .tu=>(yV ti.size r).bind fun _=>K (.tp ((List.range ti.size).map (jd r)))
 |_=>(yn r).bind fun _=>K (.av r)
def zY{R:Type}(h:Nat)(ti:TI)(a:SV)(gb:Nat->Option (Nat×List AV))(hp:Hp)(K:Kt R):Option R:=
 match a with
 | .lp k g off=>match gb k with
  |some (g',cs)=>if g=g' then jz ti h cs off fun s cs'=>K s (if h=1 then some (k,g,cs')else none) hp else none
  |none=>none
 | .rv cs=>if h=1 then none else jz ti h cs 0 fun s _=>K s none hp
 | .av x=>(zP x).bind fun p=>(hp.rd p.1 p.2.1).bind fun cs=>jz ti h cs p.2.2 fun s cs'=>K s none (if h=1 then hp.put p.1 p.2.1 cs' else hp)
 |_=>none
def xf{R:Type}(ti:TI)(a x:SV)(gb:Nat->Option (Nat×List AV))(hp:Hp)(K:Kt R):Option R:=
 (valC ti.size x).bind fun vs=>
 match a with
 | .lp k g off=>match gb k with
  |some (g',cs)=>if g=g' then(qm cs off vs).bind fun cs'=>K .un (some (k,g,cs')) hp else none
  |none=>none
 | .av x=>(zP x).bind fun p=>(hp.rd p.1 p.2.1).bind fun cs=>(qm cs p.2.2 vs).bind fun cs'=>K .un none (hp.put p.1 p.2.1 cs')
 |_=>none
def yh{R:Type}(c:Cx)(ti:TI)(a:SV)(f:Nat)(K:SV->Option R):Option R:=
 match ti.k with
 | .st fs=>match fs[f]? with
  |some (fo,ft)=>match c.tn ft with
   |some fi=>if fi.size=0 then none else
    match a with
    | .lp k g off=>K (.lp k g (off+fo))
    | .rv cs=>K (.rv (cs.drop fo))
    | .av x=>(zP x).bind fun p=>K (.av (.ptr p.1 p.2.1 (p.2.2+fo)))
    |_=>none
   |none=>none
  |none=>none
 |_=>none
def ye{R:Type}(c:Cx)(h:Nat)(ti:TI)(a i:SV)(K:SV->Option R):Option R:=
 match i with
 | .sv iv=>match ti.k with
  | .sl e=>match c.tn e with
   |some ei=>match a with
    | .av x=>
     if h=2 then(qN x).bind fun p=>(idx p.2.2.2.1 iv).bind fun j=>(jf p.2.2.2.2 ei.size).bind fun _=>K (.av (.ptr p.1 p.2.1 (p.2.2.1+j*ei.size)))
     else(zL ei.size x iv).bind fun cs=>K (.rv cs)
    |_=>none
   |none=>none
  | .ar n e=>match c.tn e with
   |some ei=>match a with
    | .lp k g off=>(idx n iv).bind fun j=>K (.lp k g (off+j*ei.size))
    | .rv cs=>(idx n iv).bind fun j=>K (.rv (cs.drop (j*ei.size)))
    | .av x=>(zP x).bind fun p=>(idx n iv).bind fun j=>K (.av (.ptr p.1 p.2.1 (p.2.2+j*ei.size)))
    |_=>none
   |none=>none
  |_=>none
 |_=>none
def Zo{R:Type}(c:Cx)(h:Nat)(ti:TI)(t:TypeId)(a:SV)(lo hi mx:Option Value)(K:SV->Option R):Option R:=
 match ti.k with
 | .sl e=>match c.tn e with
  |some ei=>match a with
   | .av x=>
    if h=2 then(qN x).bind fun p=>(qH 0 p.2.2.2.1 mx p.2.2.2.1).bind fun m=>(qH 0 m hi p.2.2.2.1).bind fun hh=>(qH 0 hh lo 0).bind fun l=>
     (jf p.2.2.2.2 ei.size).bind fun _=>K (.av (.ms p.1 p.2.1 (p.2.2.1+l*ei.size) (hh-l) ei.size))
    else(zS ei.size x lo hi mx).bind fun z=>K (.av z)
   |_=>none
  |none=>none
 | .sc=>match a with
  | .sv v=>(scV c.P t v lo hi mx).bind fun z=>K (.sv z)
  |_=>none
 |_=>none
def usA:SV->Option (List AV)
 | .av (.us z cs)=>if z=1 then some cs else none
 |_=>none
def qoh(h:Nat):List AV->AV
 |[]=>.sl 1 []
 |y::cs=>if h=1 then .us 1 (y::cs)else .sl 1 (y::cs)
def Vy{R:Type}(c:Cx)(h:Nat)(s d:TypeId)(si di:TI)(a:SV)(K:SV->Option R):Option R:=
 match di.k with
 | .sl e=>match c.tn e with
  |some ei=>if qhh ei=true then(if s=d then(usA a).bind fun cs=>K (.av (qoh h cs))else(xy a).bind fun v=>(Qw v).bind fun b=>K (.av (.sl 1 (b.data.toList.map fun x=>.sc (.int .u8 x.toNat)))))else none
  |none=>none
 |_=>match si.k with
  | .sl e=>match c.tn e with
   |some ei=>if(qhh ei&&qa8 di)=true then(XF a).bind fun x=>(yG 1 x).bind fun cs=>(zp cs).bind fun l=>K (.sv (.string ⟨l.toArray⟩))else none
   |none=>none
  |_=>(xy a).bind fun v=>(Zc c.P s d v).bind fun z=>K (.sv z)
def qlu{R:Type}(c:Cx)(op:BinOp)(t:TypeId)(x y:Operand)(a b:SV)(K:SV->Option R):Option R:=
 match a,b with
 | .sv v,.sv w=>(qs c.P op t x y v w).bind fun z=>K (.sv z)
 | .av v,.sv w=>if kE w then
  match c.tn t with
  |some ti=>match ti.k with
   | .sl _=>(qpy v).bind fun n=>(match op with| .eql=>K (.sv (.bool n))| .neq=>K (.sv (.bool !n))|_=>none)
   |_=>none
  |none=>none
  else if qk7 w then
  match c.tn t with
  |some ti=>if zab ti=true then(Yu v).bind fun n=>(match op with| .eql=>K (.sv (.bool n))| .neq=>K (.sv (.bool !n))|_=>none)else none
  |none=>none
  else(Xl v).bind fun v'=>(qs c.P op t x y v' w).bind fun z=>K (.sv z)
 | .av v,.av w=>(Xl v).bind fun v'=>(Xl w).bind fun w'=>(qs c.P op t x y v' w').bind fun z=>K (.sv z)
 |_,_=>none
def selV(t:Bool)(x y:Value):Value:=
 match t with
 |true=>x
 |false=>y
def KV{R:Type}(c a b:SV)(K:SV->Option R):Option R:=
 (xy c).bind fun v=>(asB v).bind fun t=>
  match a,b with
  | .sv x,.sv y=>K (.sv (selV t x y))
  |s,r=>cond t (K s.ro) (K r.ro)
def wF:AV->Option Nat
 | .map b=>some b
 |_=>none
def JF(sz:Nat)(n:Nat)(cs:List AV):Nat×List AV:=(min (jV sz cs) n,cs.take (min (jV sz cs) n*sz))
def xg(hp:Hp)(sz:Nat)(x:AV):Option (List AV):=
 match qN x with
 |some p=>(yk (p.2.2.2.2=sz/\0<sz)).bind fun _=>(hp.rd p.1 p.2.1).bind fun cs=>(qo cs p.2.2.1 (p.2.2.2.1*sz)).bind fun l=>some (l.map ro1)
 |none=>yG sz x
def zF(bytes sz:Nat)(d s:AV)(hp:Hp):Option (AV×Hp):=
 (xg hp sz s).bind fun ys=>match ys with
 |[]=>match d with
  | .ms b g off n z=>(yk (z=sz)).bind fun _=>some (.ms b g off n z,hp)
  |d=>(WS bytes sz d []).bind fun y=>some (y,hp)
 |y::ys=>match d with
  | .us z []=>(yk (z=sz/\js bytes sz (y::ys).length=true)).bind fun _=>some (.ms hp.next 0 0 (jV sz (y::ys)) sz,hp.new (y::ys))
  | .us z (q::cs)=>(vh (y::ys)).bind fun _=>(WS bytes sz (.us z (q::cs)) (y::ys)).bind fun r=>some (r,hp)
  | .sc v=>(yk (kE v=true/\js bytes sz (y::ys).length=true)).bind fun _=>some (.ms hp.next 0 0 (jV sz (y::ys)) sz,hp.new (y::ys))
  | .ms b g off n z=>(yk (z=sz/\off=0/\0<n)).bind fun _=>(hp.rd b g).bind fun cs=>
   (yk (n*sz<=cs.length/\js bytes sz (n*sz+(y::ys).length)=true)).bind fun _=>some (.ms hp.next 0 0 (n+jV sz (y::ys)) sz,(hp.del b).new ((cs.take (n*sz)).map ro1++(y::ys)))
  |_=>none
def Kp(b:ByteArray):List AV:=(Lib.strCells b).map .sc
def qx7(P:Program)(t:TypeId):Option Unit:=match P.underlying t with
 |some .string=>some ()
 |_=>none
def VU(bytes sz:Nat)(d:AV)(b:ByteArray):Option AV:=
 match d with
 | .us z cs=>(yk (z=sz/\sz=1/\js bytes sz (cs.length+b.size)=true)).bind fun _=>some (.us z (cs++Kp b))
 |_=>none
def qbw{R:Type}(c:Cx)(t t':TypeId)(d s:SV)(K:AV->Option R):Option R:=
 (qx7 c.P t').bind fun _=>match c.tn t with
  |some ti=>match ti.k with
   | .sl e=>match c.tn e with
    |some ei=>(XF d).bind fun d'=>(xy s).bind fun sv=>(Qw sv).bind fun b=>(VU ei.bytes ei.size d' b).bind K
    |none=>none
   |_=>none
  |none=>none
def zac(P:Program)(t:TypeId):Option Unit:=match P.underlying t with
 |some (.int _)=>some ()
 |_=>none
def QW(bytes sz:Nat)(z:List Value)(d:AV)(m:Nat)(hp:Hp):Option (AV×Hp):=
 match d with
 | .ms b g off n zz=>(yk (zz=sz/\sz=1/\off=0/\0<n/\0<m/\js bytes sz (n+m)=true)).bind fun _=>(hp.rd b g).bind fun cs=>(yk (n<=cs.length)).bind fun _=>some (.ms hp.next 0 0 (n+m) sz,(hp.del b).new ((cs.take n).map ro1++List.replicate m (AV.sc (z.headD undef))))
 |_=>none
def qbv{R:Type}(c:Cx)(t t':TypeId)(d s:SV)(hp:Hp)(K:AV->Hp->Option R):Option R:=
 (zac c.P t').bind fun _=>match c.tn t with
  |some ti=>match ti.k with
   | .sl e=>match c.tn e with
    |some ei=>(XF d).bind fun d'=>(xy s).bind fun sv=>(ZK sv).bind fun m=>(yk (0<=m)).bind fun _=>(QW ei.bytes ei.size ei.zero d' m.toNat hp).bind fun q=>K q.1 q.2
    |none=>none
   |_=>none
  |none=>none
def WQ{R:Type}(c:Cx)(h:Nat)(o:Oper)(b:Builtin)(ts:List TypeId)(as_:List SV)(hp:Hp)(K:SV->Hp->Option R):Option R:=
 match b,ts,as_ with
 | .len,[t],[.av x]=>match c.tn t with
  |some ti=>match ti.k with
   | .sl _=>(zd x).bind fun n=>K (.sv (.int .i64 n)) hp
   | .mp _ _=>(yk (h=2)).bind fun _=>(wF x).bind fun b=>(hp.rdM b).bind fun es=>K (.sv (.int .i64 es.length)) hp
   |_=>none
  |none=>none
 | .append,[t,t'],[d,s]=>if t'≠t then(if h=2 then qbv c t t' d s hp fun z q=>K (.av z) q else qbw c t t' d s fun z=>K (.av z) hp)else match c.tn t with
  |some ti=>match ti.k with
   | .sl e=>match c.tn e with
    |some ei=>(XF d).bind fun d'=>(XF s).bind fun s'=>if h=2 then(zF ei.bytes ei.size d' s' hp).bind fun q=>K (.av q.1) q.2 else(zh ei.bytes ei.size d' s').bind fun y=>K (.av y) hp
    |none=>none
   |_=>none
  |none=>none
 | .copy,[t,_],[.av d,.av s]=>match c.tn t with
  |some ti=>match ti.k with
   | .sl e=>match c.tn e with
    |some ei=>(yk (h=2/\0<ei.size)).bind fun _=>(qN d).bind fun p=>(jf p.2.2.2.2 ei.size).bind fun _=>(xg hp ei.size s).bind fun ys=>(hp.rd p.1 p.2.1).bind fun cs=>
     (qm cs p.2.2.1 (JF ei.size p.2.2.2.1 ys).2).bind fun cs'=>K (.sv (.int .i64 ((JF ei.size p.2.2.2.1 ys).1:Nat))) (hp.put p.1 p.2.1 cs')
    |none=>none
   |_=>none
  |none=>none
 |b,ts,as_=>(qdd as_).bind fun vs=>(yK c.P b ts.toArray o.type vs).bind fun z=>K (.sv z) hp
def tN(n:Int):Nat:=n.toNat
def yc(bytes size:Nat)(n n':Int):Option Unit:=yk (n=n'/\0<=n/\js bytes 1 n.toNat=true/\0<size)
def yM(n:Int)(z:List Value):List AV:=(List.replicate n.toNat (zJ z)).flatten
def kO(hp:Hp)(x:AV):Option (AV×Hp):=
 match x with
 | .ms b g off n z=>(yk (0<z)).bind fun _=>(hp.rd b g).bind fun cs=>(qo cs off (n*z)).bind fun l=>(yk (l.all vl=true)).bind fun _=>some (.sl z (l.map ro1),hp.del b)
 |x=>some (x,hp)
def Xx(hp:Hp):List AV->Option (List AV×Hp)
 |[]=>some ([],hp)
 |x::r=>(kO hp x).bind fun p=>(Xx p.2 r).bind fun q=>some (p.1::q.1,q.2)
def qle(k:TK)(hp:Hp)(s:SV):Option (SV×Hp):=
 match s with
 | .av x=>if yJ k then(VW (.av x)).bind fun cs=>(Xx hp cs).bind fun q=>some (.av (.agg q.1),q.2)else(kO hp x).bind fun q=>some (.av q.1,q.2)
 |s=>some (s,hp)
def qqe{R:Type}(k:TK)(hp:Hp)(s:SV)(K:SV->Hp->Option R):Option R:=
 match s with
 | .av x=>if yJ k then(VW (.av x)).bind fun cs=>(Xx hp cs).bind fun q=>K (.av (.agg q.1)) q.2 else(kO hp x).bind fun q=>K (.av q.1) q.2
 |s=>K s hp
def orA(f:Option AV)(x:AV):AV:=f.getD x
def isS(f:Option AV):Bool:=f.isSome
def qnk(ti:TI):Bool:=
 match ti.k,ti.zero with
 | .sc,[.int _ _]=>true
 |_,_=>false
def qnl(ti:TI):Bool:=
 match ti.k,ti.zero with
 | .sc,[.bool _]=>true
 |_,_=>false
def qei(ti:TI):Value->Bool
 | .int _ _=>qnk ti
 | .string _=>qa8 ti
 | .bool _=>qnl ti
 |_=>false
def Kh(ti:TI):AV:=if yJ ti.k then .agg (zJ ti.zero)else(zJ ti.zero).headD (.agg [])
def mapV:SV->Option AV
 | .sv v=>some (.sc v)
 | .av x=>some (ro x)
 |_=>none
def ofA(k:TK)(x:AV):Option SV:=if qek k then(vy x).bind fun v=>some (.sv v)else some (.av x)
def qnf(ok:Bool)(ei:TI)(f:Option AV):Option SV:=
 match ok with
 |true=>some (.tp [orA f (Kh ei),.sc (.bool (isS f))])
 |false=>ofA ei.k (orA f (Kh ei))
def ofAK{R:Type}(k:TK)(x:AV)(K:SV->Option R):Option R:=if qek k then(vy x).bind fun v=>K (.sv v)else K (.av x)
def qk2{R:Type}(ok:Bool)(ei:TI)(f:Option AV)(K:SV->Option R):Option R:=
 match ok with
 |true=>K (.tp [orA f (Kh ei),.sc (.bool (isS f))])
 |false=>ofAK ei.k (orA f (Kh ei)) K
def xQ{R:Type}(c:Cx)(t:TypeId)(x i:SV)(ok:Bool)(hp:Hp)(K:SV->Option R):Option R:=
 match c.tn t with
 |some ti=>match ti.k with
  | .mp kt et=>match c.tn kt,c.tn et with
   |some ki,some ei=>(XF x).bind fun x'=>(wF x').bind fun b=>(hp.rdM b).bind fun es=>(xy i).bind fun k=>(VB (qei ki k)).bind fun _=>(Zj k es).bind fun f=>qk2 ok ei f K
   |_,_=>none
  |_=>none
 |none=>none
def QH{R:Type}(c:Cx)(t:TypeId)(m k x:SV)(hp:Hp)(K:Hp->Option R):Option R:=
 match c.tn t with
 |some ti=>match ti.k with
  | .mp kt et=>match c.tn kt,c.tn et with
   |some ki,some ei=>(XF m).bind fun m'=>(wF m').bind fun b=>(hp.rdM b).bind fun es=>(xy k).bind fun kv=>(VB (qei ki kv)).bind fun _=>(mapV x).bind fun v=>
    (KT kv v es).bind fun es'=>K (hp.put b 1 es')
   |_,_=>none
  |_=>none
 |none=>none
def jN(xs caps:List AV):Option Unit:=yk (xs.all vlF=true/\caps.all vl=true)
def xk(y:AV):Option Unit:=yk (vlV y=true)
def jm{R:Type}(c:Cx)(C:Orc)(h:Nat)(ti:TI)(f:FuncId)(caps:List AV)(as_:List SV)(hp:Hp)(K:Kt R):Option R:=
 (JY as_).bind fun xs=>
 if h=2 then(C f ((xs.map ro)++caps) hp).bind fun p=>QZ ti p.1 fun s=>K s none p.2
 else if h=4 then(C f (caps++(xs.map ro)) hp).bind fun p=>QZ ti p.1 fun s=>K s none p.2
 else(jN xs caps).bind fun _=>(C f ((xs.map ro)++caps) hp0).bind fun p=>(xk p.1).bind fun _=>QZ ti p.1 fun s=>K s none hp
def yO(P:Program)(t:TypeId):Option TypeId:=(P.info? t).bind fun i=>match i.desc with
 | .slice e=>some e
 |_=>none
def vr:AV->Bool
 | .ms _ _ _ _ _=>true
 | .sl _ _=>true
 | .sc v=>kE v
 |_=>false
def voA(P:Program)(xs:List AV)(hp:Hp):Option (AV×Hp):=
 match xs with
 |[.ifc t y]=>(yO P t).bind fun _=>(yk (vr y=true)).bind fun _=>some (.agg [.sc (typeHandle P t),.ptr hp.next 0 0,.sc (.int .u64 151)],hp.new [y])
 |_=>none
def zcv(P:Program)(xs:List AV)(hp:Hp):Option (AV×Hp):=
 match xs with
 |[.ifc t y]=>(yO P t).bind fun e=>(P.info? e).bind fun ie=>(zO P (Extern.Rtype.kind e)).bind fun ke=>(yk (vr y=true)).bind fun _=>(zd y).bind fun n=>
  (P.funcs.findIdx? (·.name== "internal/reflectlite" ++ ".Swapper$" ++toString (Lib.swapperK n ie ke))).bind fun f=>(yk (Nat.blt f 4294967296=true)).bind fun _=>
  some (.fn f (if Lib.swapperK n ie ke<=2 then []else [y,.sc (typeHandle P e)]),hp)
 |_=>none
def zdk(P:Program)(xs:List AV)(hp:Hp):Option (AV×Hp):=
 match xs with
 |[.agg [.sc (.pointer (some ⟨gl,t,none⟩)),.ptr b g 0,.sc (.int .u64 151)]]=>(yO P t).bind fun _=>(yk (gl=P.globals.size/\P.packed t=false)).bind fun _=>(hp.rd b g).bind fun cs=>match cs with
  |[y]=>(yk (vr y=true)).bind fun _=>(zd y).map fun(n:Nat)=>(.sc (.int .i64 (n:Int)),hp)
  |_=>none
 |_=>none
def qsx(P:Program)(xs:List AV)(hp:Hp):Option (AV×Hp):=
 match xs with
 |[.sc (.int .i64 i),.sc (.int .i64 j),.ms b g off n z,.sc (.pointer (some ⟨gl,e,none⟩))]=>(P.info? e).bind fun ie=>(zO P (isAgg e)).bind fun ag=>
  (yk (gl=P.globals.size/\ag=true/\ie.size=z/\0<=i/\i<(n:Int)/\0<=j/\j<(n:Int))).bind fun _=>(hp.rd b g).bind fun cs=>
  (qo cs (off+i.toNat*z) z).bind fun X=>(qo cs (off+j.toNat*z) z).bind fun Y=>(qm cs (off+i.toNat*z) (Y.map ro1)).bind fun cs1=>(qm cs1 (off+j.toNat*z) (X.map ro1)).map fun cs2=>(.tup [],hp.put b g cs2)
 |_=>none
def qx6:List String:=["internal/reflectlite.Swapper$3", "internal/reflectlite.Swapper$4", "internal/reflectlite.Swapper$5", "internal/reflectlite.Swapper$6", "internal/reflectlite.Swapper$7", "internal/reflectlite.Swapper$8", "internal/reflectlite.Swapper$9"]
def wX(P:Program)(f:FuncId)(xs:List AV)(hp:Hp):Option (AV×Hp):=
 (P.funcs[f]?).bind fun fn=>(yk (fn.body=none/\fn.origin= "")).bind fun _=>
  if fn.name= "internal/reflectlite.ValueOf" then voA P xs hp
  else if fn.name= "internal/reflectlite.Swapper" then zcv P xs hp
  else if fn.name= "(internal/reflectlite.Value).Len" then zdk P xs hp
  else if fn.name∈qx6 then qsx P xs hp
  else none
def Vq{R:Type}(c:Cx)(ti:TI)(f:FuncId)(caps:List AV)(as_:List SV)(hp:Hp)(K:Kt R):Option R:=
 (JY as_).bind fun xs=>(wX c.P f (xs.map ro++caps) hp).bind fun p=>QZ ti p.1 fun s=>K s none p.2
def qn{R:Type}(c:Cx)(C:Orc)(h:Nat)(o:Oper)(ev:Operand->SV)(gb:Nat->Option (Nat×List AV))(hp:Hp)(K:Kt R):Option R:=
 match o.op with
 | .move x=>match c.tt o.type with
  |some ti=>if h=3 then qqe ti.k hp (Wp ti.k (ev x).ro) fun s q=>K s none q else K (if h=1 then Wp ti.k (ev x)else Wp ti.k (ev x).ro) none hp
  |none=>none
 | .assign x=>match c.tt o.type with
  |some ti=>if h=3 then qqe ti.k hp (Wp ti.k (ev x)) fun s q=>K s none q else K (Wp ti.k (ev x)) none hp
  |none=>none
 | .pick a x y=>KV (ev a) (ev x) (ev y) fun s=>K s none hp
 | .alloc t=>match c.tn t with
  |some ti=>if h=2 then K (.av (.ptr hp.next 0 0)) none (hp.new (zJ ti.zero))else
   match o.dst with
   |some d=>let g:=match gb d with|some (g,_)=>g+1|none=>0
    K (.lp d g 0) (some (d,g,zJ ti.zero)) hp
   |none=>none
  |none=>none
 | .box t x=>match c.tn t with
  |some ti=>(valC ti.size (ev x)).bind fun vs=>if h=2 then K (.av (.ptr hp.next 0 0)) none (hp.new (vs.map ro1))else
   match o.dst with
   |some d=>let g:=match gb d with|some (g,_)=>g+1|none=>0
    K (.lp d g 0) (some (d,g,vs.map ro1)) hp
   |none=>none
  |none=>none
 | .build t ps=>match c.tn t with
  |some ti=>match ti.k with
   | .st fs=>if fs.all (fun p=>(c.tn p.2).isSome)=true then yA (KU c fs) ev (fun cs=>K (.av (.agg (cs.map ro1))) none hp) ps.toList (zJ ti.zero)else none
   | .ar _ e=>match c.tn e with
    |some ei=>yA (fun i=>some (i*ei.size,ei.size)) ev (fun cs=>K (.av (.agg (cs.map ro1))) none hp) ps.toList (zJ ti.zero)
    |none=>none
   |_=>none
  |none=>none
 | .buildSlice t n ps=>match c.tn t with
  |some ti=>match ti.k with
   | .sl e=>match c.tn e with
    |some ei=>if n*ei.size<=4096/\0<ei.size then
     yA (fun i=>some (i*ei.size,ei.size)) ev (fun cs=>(vh cs).bind fun _=>K (.av (.us ei.size (cs.map ro1))) none hp) ps.toList (List.replicate n (zJ ei.zero)).flatten
     else none
    |none=>none
   |_=>none
  |none=>none
 | .load t a=>match c.tn t with
  |some ti=>if h=3 then zY 0 ti (ev a) gb hp fun s b q=>qqe ti.k q s fun s' q'=>K s' b q' else zY h ti (ev a) gb hp K
  |none=>none
 | .store t a x=>match c.tn t with
  |some ti=>xf ti (ev a) (ev x) gb hp K
  |none=>none
 | .nilCheck x=>match ev x with
  | .lp k g off=>K (.lp k g off) none hp
  | .av y=>(WH y).bind fun _=>K (.av y) none hp
  |_=>none
 | .binOp op t x y _=>qlu c op t x y (ev x) (ev y) fun s=>K s none hp
 | .unOp op _ x=>(xy (ev x)).bind fun v=>(unV c.P op v).bind fun z=>K (.sv z) none hp
 | .convert s d x=>match c.tn s,c.tn d with
  |some si,some di=>Vy c h s d si di (ev x) fun s=>K s none hp
  |_,_=>none
 | .makeFunc (.func f) fs cs=>if fs.toList.isEmpty=true then(JY (cs.toList.map ev)).bind fun xs=>(Xh xs).bind fun _=>(VB (Nat.blt f 4294967296)).bind fun _=>K (.av (.fn f (xs.map ro1))) none hp
  else if cs.toList.isEmpty=true then(JY (fs.toList.map ev)).bind fun xs=>(Xh xs).bind fun _=>K (.av (.fn (4294967296+f) (xs.map ro1))) none hp else none
 | .makeSlice t l m=>match c.tn t with
  |some ti=>match ti.k with
   | .sl e=>match c.tn e with
    |some ei=>(xy (ev l)).bind fun lv=>(xy (ev m)).bind fun mv=>(ZK lv).bind fun n=>(ZK mv).bind fun n'=>
     (yc ei.bytes ei.size n n').bind fun _=>
      (if h=2 then K (.av (.ms hp.next 0 0 (tN n) ei.size)) none (hp.new (yM n ei.zero))
       else K (.av (.us ei.size (yM n ei.zero))) none hp)
    |none=>none
   |_=>none
  |none=>none
 | .slice t x lo hi mx=>match c.tn t with
  |some ti=>if mx.isSome&&!hi.isSome then none else(opV ev lo).bind fun l=>(opV ev hi).bind fun u=>(opV ev mx).bind fun m=>Zo c h ti t (ev x) l u m fun s=>K s none hp
  |none=>none
 | .fieldAddr t x f=>match c.tn t with
  |some ti=>yh c ti (ev x) f fun s=>K s none hp
  |none=>none
 | .field t x f=>match c.tn t with
  |some ti=>match ti.k with
   | .st fs=>match fs[f]? with
    |some (fo,ft)=>match c.tn ft with
     |some fi=>(VW (ev x)).bind fun cs=>jz fi 0 cs fo fun s _=>K s none hp
     |none=>none
    |none=>none
   |_=>none
  |none=>none
 | .indexAddr t x i=>match c.tn t with
  |some ti=>ye c h ti (ev x) (ev i) fun s=>K s none hp
  |none=>none
 | .index t x i=>match c.tt o.type with
  |some ti=>if qek ti.k then(qbg (ev x)).bind fun a=>(xy (ev i)).bind fun iv=>(ixV c.P t a iv).bind fun z=>K (.sv z) none hp else
   match c.tn t with
   |some xi=>match xi.k with
    | .ar n e=>match c.tn e with
     |some ei=>(VW (ev x)).bind fun cs=>(xy (ev i)).bind fun iv=>(idx n iv).bind fun j=>jz ei 0 cs (j*ei.size) fun s _=>K s none hp
     |none=>none
    |_=>none
   |none=>none
  |none=>none
 | .extract x i=>match ev x with
  | .tp l=>match l[i]? with
   |some y=>match c.tt o.type with
    |some ti=>if qek ti.k then(vy y).bind fun v=>K (.sv v) none hp else if h=1 then K (.av (ro y)) none hp else K (.av y) none hp
    |none=>none
   |none=>none
  |_=>none
 | .makeInterface t x=>(yO c.P t).bind fun _=>(XF (ev x).ro).bind fun y=>(yk (vr y=true)).bind fun _=>K (.av (.ifc t y)) none hp
 | .makeMap t none=>if h=2 then K (.av (.map hp.next)) none hp.newM else none
 | .lookup t x i ok=>if h=2 then xQ c t (ev x) (ev i) ok hp fun s=>K s none hp else none
 | .mapUpdate t m k x=>if h=2 then QH c t (ev m) (ev k) (ev x) hp fun q=>K .un none q else none
 | .call cl=>match cl.callee with
  | .builtin b=>WQ c h o b cl.argTypes.toList (cl.args.toList.map ev) hp fun s q=>K s none q
  | .value (.func f)=>match c.F f,c.tt o.type with
   |some fn,some ti=>match fn.body with
    |some _=>jm c C h ti f [] (cl.args.toList.map ev) hp K
    |none=>if h=2 then Vq c ti f [] (cl.args.toList.map ev) hp K else(qdd (cl.args.toList.map ev)).bind fun vs=>(one (c.X f vs)).bind fun z=>K (.sv z) none hp
   |_,_=>none
  | .value (.tmp t)=>match c.tt o.type with
   |some ti=>match ev (.tmp t)with
    | .av x=>if h=4 then(Vm x).bind fun p=>jm c C h ti p.1 p.2 (cl.args.toList.map ev) hp K else if h=5 then(xN x).bind fun p=>Vq c ti p.1 p.2 (cl.args.toList.map ev) hp K else(xN x).bind fun p=>jm c C h ti p.1 p.2 (cl.args.toList.map ev) hp K
    |_=>none
   |none=>none
  |_=>none
 |_=>none
structure Fp where
 rs:List Nat
 ws:List Nat
 br:Option Nat
 bw:Option Nat
 hr:Bool
 hw:Bool
 nw:Bool
 lq:Option (AV×Nat)
 gb:Nat->Option (Nat×List AV)
 ga:Nat->Option (Nat×List AV)
def yH(q:AV×Nat)(g:Nat->Option (Nat×List AV)):Option (List AV):=
 (zP q.1).bind fun p=>(g p.1).bind fun z=>if z.1=0 then(qo z.2 p.2.2 q.2).map (List.map ro1)else none
noncomputable def YZ(q:AV×Nat)(g g':Nat->Option (Nat×List AV)):Option Unit:=
 @ite _ (yH q g=yH q g') (Classical.propDecidable _) (some ()) none
def qg9(h:Nat)(o:Oper)(tn:TypeId->Option TI)(ev:Operand->SV):Option (AV×Nat):=
 match o.op with
 | .load t a=>match ev a with
  | .av x=>match h==1||h==3 with
   |true=>none
   |false=>match tn t with
    |some ti=>some (x,match yJ ti.k with|true=>ti.size|false=>1)
    |none=>none
  |_=>none
 |_=>none
def qla(b:Bool)(hp:Hp):Nat->Option (Nat×List AV):=
 match b with
 |true=>hp.get
 |false=>fun _=>none
inductive It where
 |code (c:Code)
 |inBlock (id:Nat)
 |inLoop (body:Code)
 |inScope (body:Code)
 |ops (r:Nat) (ops:Array Oper) (is:List Nat) (d:Bool) (acc:List (Nat×Fp))
def dn(t:Tmp)(l:Slots):Slots:=(t,(qA l t).ro)::l
def dnX(t:Tmp)(i:Nat)(l:Slots):Slots:=
 match qA l t with
 | .tp xs=>(t,.tp (match xs[i]? with|some y=>xs.set i (ro y)|none=>xs))::l
 |_=>l
def zw:List Operand->List Nat
 |[]=>[]
 | .tmp t::r=>t::zw r
 |_::r=>zw r
def qL(h:Nat)(o:Oper):List Nat:=
 match o.op with
 | .move x=>if h=1 then zw [x]else []
 | .assign x=>zw [x]
 | .store _ _ x=>zw [x]
 | .extract x _=>if h=1 then []else zw [x]
 | .convert s d x=>if s=d then zw [x]else []
 | .call c=>match c.callee with
  | .builtin .append=>zw c.args.toList
  |_=>[]
 |_=>[]
def qB(ts:List Nat)(l:Slots):Slots:=ts.foldl (fun l t=>dn t l) l
def qz(h:Nat)(o:Oper)(l:Slots):Slots:=
 match o.op with
 | .extract (.tmp t) i=>if h=1 then l else dnX t i l
 |_=>qB (qL h o) l
def jR(h:Nat)(o:Oper)(ev:Operand->SV):Option Nat×Option Nat:=
 match o.op with
 | .load _ a=>match ev a with
  | .lp k _ _=>if h=1 then(none,some k)else(some k,none)
  |_=>(none,none)
 | .store _ a _=>match ev a with
  | .lp k _ _=>(none,some k)
  |_=>(none,none)
 | .alloc _=>if h=2 then(none,none)else(none,o.dst)
 | .box _ _=>if h=2 then(none,none)else(none,o.dst)
 |_=>(none,none)
def zn(h:Nat)(o:Oper)(ev:Operand->SV):Bool×Bool×Bool:=
 match o.op with
 | .load _ a=>match ev a with
  | .av _=>(h==1||h==3,h==1||h==3,h==3)
  |_=>(h==3,h==3,h==3)
 | .move _=>(h==3,h==3,h==3)
 | .assign _=>(h==3,h==3,h==3)
 | .makeMap _ _=>(true,true,true)
 | .lookup _ _ _ _=>(true,false,false)
 | .mapUpdate _ _ _ _=>(true,true,true)
 | .store _ a _=>match ev a with
  | .av _=>(false,true,false)
  |_=>(false,false,false)
 | .alloc _=>(false,h==2,h==2)
 | .box _ _=>(false,h==2,h==2)
 | .makeSlice _ _ _=>(false,h==2,h==2)
 | .call c=>match c.callee with
  | .builtin _=>(h==2,h==2,h==2)
  |_=>(h==2||h==4||h==5,h==2||h==4||h==5,h==2||h==4||h==5)
 |_=>(false,false,false)
def zem(tn:TypeId->Option TI)(h:Nat)(ops:Array Oper)(o:Oper)(l:Slots)(hp hp':Hp):Fp:=
 let b:=jR h o (zt l)
 let q:=zn h o (zt l)
 {rs:=o.looksAt ops,ws:=o.dst.toList++qL h o,br:=b.1,bw:=b.2,hr:=q.1,hw:=q.2.1,nw:=q.2.2,lq:=qg9 h o tn (zt l),gb:=qla q.2.1 hp,ga:=qla q.2.1 hp'}
def Yz(ops:Array Oper)(o:Oper):Fp:=
 {rs:=o.looksAt ops,ws:=o.dst.toList,br:=none,bw:=none,hr:=false,hw:=false,nw:=false,lq:=none,gb:=fun _=>none,ga:=fun _=>none}
def qa0(a b:List Nat):Bool:=a.any fun x=>b.contains x
def qnx(a b:Fp):Bool:=
 qa0 a.ws b.rs||qa0 a.ws b.ws||qa0 a.rs b.ws||
 (match a.bw,b.bw with|some x,some y=>x==y|_,_=>false)||
 (match a.bw,b.br with|some x,some y=>x==y|_,_=>false)||
 (match a.br,b.bw with|some x,some y=>x==y|_,_=>false)||
 (a.hw&&(b.hr||b.hw))||(a.hr&&b.hw)||(a.nw&&b.nw)
def jv:List Oper->List (List Nat)->List (List Nat)
 |[],t=>t
 |o::r,t=>
  let ds:=(o.after.toList.filter fun e=>Region.binds .any e).map (·.on)
  jv r (t++[(ds++ds.flatMap fun j=>t.getD j []).eraseDups])
def Vs(ops:Array Oper):Bool:=(List.range ops.size).all fun i=>match ops[i]? with
 |some o=>o.after.toList.all fun e=>!Region.binds .any e||decide (e.on<i)
 |none=>true
def YA(ops:Array Oper)(acc:List (Nat×Fp)):Bool:=
 let t:=jv ops.toList []
 Vs ops&&acc.all fun p=>acc.all fun q=>!(decide (p.1<q.1))||(t.getD q.1 []).contains p.1||!(qnx p.2 q.2)
def qd1(t:List (List Nat))(i j:Nat):Bool:=(t.getD j []).contains i||(t.getD i []).contains j
noncomputable def qqi(t:List (List Nat))(p q:Nat×Fp)(r:List (Option Unit)):List (Option Unit):=
 match p.2.lq with
 |none=>r
 |some x=>match q.2.hw with
  |false=>r
  |true=>match qd1 t p.1 q.1 with
   |true=>r
   |false=>YZ x q.2.gb q.2.ga::r
noncomputable def qwg(t:List (List Nat))(p:Nat×Fp):List (Nat×Fp)->List (Option Unit)->List (Option Unit)
 |[],r=>r
 |q::l,r=>qqi t p q (qwg t p l r)
noncomputable def zeu(t:List (List Nat))(acc:List (Nat×Fp)):List (Nat×Fp)->List (Option Unit)
 |[]=>[]
 |p::l=>qwg t p acc (zeu t acc l)
noncomputable def qzf(ops:Array Oper)(acc:List (Nat×Fp)):List (Option Unit):=zeu (jv ops.toList []) acc acc
def qn5{R:Type}:List (Option Unit)->Option R->Option R
 |[],X=>X
 |o::l,X=>o.bind fun _=>qn5 l X
def xm(b:Boxes):List Nat->Boxes
 |[]=>[]
 |k::r=>match zQ b k with
  |some (g,cs)=>(k,g,cs)::xm b r
  |none=>xm b r
def Va(b:Boxes)(s:SV):SV:=
 match s with
 | .lp k g o=>match zQ b k with
  |some _=>.lp k g o
  |none=>.un
 |s=>s
def Ql(b:Boxes)(l:Slots):List Nat->Slots
 |[]=>[]
 |k::r=>match Va b (qA l k)with
  | .un=>Ql b l r
  |s=>(k,s)::Ql b l r
def mask(m:Option (List Nat))(st:St):St:=
 match m with
 |none=>st
 |some live=>⟨Ql (xm st.bx live) st.sl live,xm st.bx live,st.hp⟩
def qas(id:Nat):List It->Option (List It)
 |[]=>none
 | .inBlock j::k=>if j=id then some k else qas id k
 |_::k=>qas id k
def KQ{R:Type}(st:St)(tt:TypeId->Option TI)(r:ResultVar)(K:AV->Option R):Option R:=
 match r with
 | .tmp t=>(XF (qA st.sl t)).bind K
 | .cell a ty=>match tt ty with
  |some ti=>match qA st.sl a with
   | .lp k g off=>match zQ st.bx k with
    |some (g',cs)=>if g=g' then
     (if yJ ti.k then(qo cs off ti.size).bind fun l=>K (.agg l)else(qt cs off).bind K)
     else none
    |none=>none
   |_=>none
  |none=>none
def wo{R:Type}(st:St)(tt:TypeId->Option TI)(K:List AV->Option R):List ResultVar->Option R
 |[]=>K []
 |r::l=>KQ st tt r fun x=>wo st tt (fun xs=>K (x::xs)) l
def Zi(st:St):ResultVar->Nat×Nat
 | .tmp t=>(0,t)
 | .cell a _=>match qA st.sl a with
  | .lp k _ _=>(1,k)
  |_=>(2,0)
def qm7(k:Nat×Nat):List (Nat×Nat)->Bool
 |[]=>true
 |j::r=>match Nat.beq j.1 k.1&&Nat.beq j.2 k.2 with|true=>false|false=>qm7 k r
def vL:List (Nat×Nat)->Bool
 |[]=>true
 |k::r=>match qm7 k r with|true=>vL r|false=>false
def fin(c:Cx)(f:FuncId)(st:St):Option (AV×Hp):=
 match c.F f with
 |some fn=>cond (vL (fn.results.toList.map (Zi st))) (wo st c.tn (fun l=>match l with
  |[x]=>some (x,st.hp)
  |l=>some (.tup l,st.hp)) fn.results.toList) none
 |none=>none
def xr{R:Type}(c:Cx):Nat->List TypeId->List AV->(Slots->Option R)->Option R
 |_,[],[],K=>K []
 |i,[],x::xs,K=>xr c (i+1) [] xs fun l=>K ((i,.av x)::l)
 |_,_::_,[],_=>none
 |i,t::ts,x::xs,K=>match c.tn t with
  |some ti=>if qek ti.k then(vy x).bind fun v=>xr c (i+1) ts xs fun l=>K ((i,.sv v)::l)else xr c (i+1) ts xs fun l=>K ((i,.av x)::l)
  |none=>none
def after(h:Nat)(o:Oper)(st:St)(s:SV)(b:BE)(hp:Hp):St:=
 ⟨wt (qz h o st.sl) o.dst s,(match b with|some (k,g,cs)=>Kx st.bx k g cs|none=>st.bx),hp⟩
def xd(o:Oper)(ops:Array Oper):Option (Option (Nat×Bool)):=
 match o.guard with
 |none=>some none
 |some (j,want)=>match ops[j]? with
  |some oj=>match oj.dst with
   |some d=>some (some (d,want))
   |none=>none
  |none=>none
def ql1(d:Bool)(i:Nat)(p:Fp)(acc:List (Nat×Fp)):List (Nat×Fp):=if d then(i,p)::acc else acc
theorem kV{R:Type}:∀{l:List (Option Unit)} {X:Option R} {r:R},qn5 l X=some r->(∀o∈l,o=some ())/\X=some r
 |[],X,r,h=>⟨qe,h⟩
 |o::l,X,r,h=>by
  obtain⟨u,hu,h⟩:=bsm h
  obtain⟨h1,h2⟩:=kV h
  refine⟨fun o' ho=>?_,h2⟩
  rcases zie.mp ho with rfl|ho
  ·exact hu
  ·exact h1 o' ho
theorem VN{R:Type}:∀{l:List (Option Unit)} {X:Option R} {r:R},(∀o∈l,o=some ())->X=some r->qn5 l X=some r
 |[],X,r,_,h=>h
 |o::l,X,r,h1,h=>by
  show o.bind _=_
  rw[h1 o qe]
  exact VN (fun o ho=>h1 o (by simp[ho])) h
theorem qjw{q:AV×Nat}{g g':Nat->Option (Nat×List AV)}(h:YZ q g g'=some ()):yH q g=yH q g':=by
 unfold YZ at h
 split at h
 ·assumption
 ·cases h
theorem qh5{t:List (List Nat)}{p q:Nat×Fp}{x:AV×Nat}(hx:p.2.lq=some x)(hw:q.2.hw=true)(ho:qd1 t p.1 q.1=false):
 ∀{l:List (Nat×Fp)} {r:List (Option Unit)},q∈l->YZ x q.2.gb q.2.ga∈qwg t p l r
 |q'::l,r,hq=>by
  show _∈qqi t p q' (qwg t p l r)
  rcases zie.mp hq with rfl|hq
  ·simp only[qqi,hx,hw,ho]
   exact zmf ..
  ·have ih:=qh5 hx hw ho (r:=r) hq
   unfold qqi
   split
   ·exact ih
   ·split
    ·exact ih
    ·split
     ·exact ih
     ·exact zkg _ ih
theorem qqh{t:List (List Nat)}{p q:Nat×Fp}{r:List (Option Unit)}{o:Option Unit}(h:o∈r):o∈qqi t p q r:=by
 unfold qqi
 split
 ·exact h
 ·split
  ·exact h
  ·split
   ·exact h
   ·exact zkg _ h
theorem qbd{t:List (List Nat)}{p:Nat×Fp}{o:Option Unit}:∀{l:List (Nat×Fp)} {r:List (Option Unit)},o∈r->o∈qwg t p l r
 |[],r,h=>h
 |q::l,r,h=>qqh (qbd h)
theorem qh4{t:List (List Nat)}{acc:List (Nat×Fp)}{p q:Nat×Fp}{x:AV×Nat}(hx:p.2.lq=some x)(hw:q.2.hw=true)(ho:qd1 t p.1 q.1=false)(hq:q∈acc):
 ∀{l:List (Nat×Fp)},p∈l->YZ x q.2.gb q.2.ga∈zeu t acc l
 |p'::l,hp=>by
  rcases zie.mp hp with rfl|hp
  ·exact qh5 hx hw ho hq
  ·exact qbd (qh4 hx hw ho hq hp)
theorem qat{ops:Array Oper}{acc:List (Nat×Fp)}(h:∀o∈qzf ops acc,o=some ()){p q:Nat×Fp}(hp:p∈acc)(hq:q∈acc){x:AV×Nat}(hx:p.2.lq=some x)(hw:q.2.hw=true):
 qd1 (jv ops.toList []) p.1 q.1=true\/yH x q.2.gb=yH x q.2.ga:=by
 cases ho:qd1 (jv ops.toList []) p.1 q.1 with
 |true=>exact .inl rfl
 |false=>exact .inr (qjw (h _ (qh4 hx hw ho hq hp)))
abbrev GoT:=List It->St->Option (AV×Hp)
def JD(c:Cx)(C:Orc)(G:GoT)(r:Nat)(ops:Array Oper)(is:List Nat)(d:Bool)(acc:List (Nat×Fp))(k:List It)(h i:Nat)(o:Oper)(st:St):Option (AV×Hp):=
 qn c C h o (zt st.sl) (zQ st.bx) st.hp fun s b hp=>G (.ops r ops is d (ql1 d i (zem c.tn h ops o st.sl st.hp hp) acc)::k) (after h o st s b hp)
def qfi(G:GoT)(r:Nat)(ops:Array Oper)(is:List Nat)(d:Bool)(acc:List (Nat×Fp))(k:List It)(i:Nat)(o:Oper)(st:St):Option (AV×Hp):=
 G (.ops r ops is d (ql1 d i (Yz ops o) acc)::k) ⟨wt st.sl o.dst .ud,st.bx,st.hp⟩
def qol(st:St)(g:Nat)(b:Bool):St:=⟨(g,.sv (.bool b))::st.sl,st.bx,st.hp⟩
def opF(c:Cx)(C:Orc)(G:GoT)(r:Nat)(ops:Array Oper)(is:List Nat)(d:Bool)(acc:List (Nat×Fp))(k:List It)(h i:Nat)(o:Oper)(st:St):Option (AV×Hp):=
 match xd o ops with
 |none=>none
 |some none=>JD c C G r ops is d acc k h i o st
 |some (some (g,want))=>match qA st.sl g with
  | .ud=>qfi G r ops is d acc k i o st
  | .sv v=>(asB v).bind fun t=>match want with
   |true=>cond t (JD c C G r ops is d acc k h i o (qol st g true)) (qfi G r ops is d acc k i o (qol st g false))
   |false=>cond t (qfi G r ops is d acc k i o (qol st g true)) (JD c C G r ops is d acc k h i o (qol st g false))
  |_=>none
noncomputable def jL(c:Cx)(C:Orc)(G:GoT)(f:FuncId)(its:List It)(st:St):Option (AV×Hp):=
 match its with
 |[]=>fin c f st
 | .inBlock _::k=>G k st
 | .inLoop b::k=>G (.code b::.inLoop b::k) st
 | .inScope _::k=>G k st
 | .code (.scope b)::k=>G (.code b::.inScope b::k) st
 | .code .skip::k=>G k st
 | .code (.label _)::k=>G k st
 | .code .ret::_=>fin c f st
 | .code (.seq a b)::k=>G (.code a::.code b::k) st
 | .code (.block id b)::k=>G (.code b::.inBlock id::k) st
 | .code (.loop b)::k=>G (.inLoop b::k) st
 | .code (.exit id)::k=>(qas id k).bind fun k'=>G k' st
 | .code (.cond x a b)::k=>(xy (zt st.sl x)).bind fun v=>(asB v).bind fun t=>cond t (G (.code a::k) st) (G (.code b::k) st)
 | .code (.region r ops d)::k=>G (.ops r ops (List.range ops.size) d []::k) (mask (c.M f r) st)
 | .ops r ops [] d acc::k=>cond (!d||YA ops acc) (qn5 (qzf ops acc) (G k st)) none
 | .ops r ops (i::is) d acc::k=>(ops[i]?).bind fun o=>opF c C G r ops is d acc k (c.H f r i) i o st
 |_=>none
noncomputable def wE(c:Cx)(C:Orc)(f:FuncId):Nat->List It->St->Option (AV×Hp)
 |0=>fun _ _=>none
 |n+1=>jL c C (wE c C f n) f
def yx{R:Type}(c:Cx)(f:FuncId)(xs:List AV)(hp:Hp)(K:List It->St->Option R):Option R:=
 match c.F f with
 |some fn=>match fn.body with
  |some b=>xr c 0 fn.params.toList xs fun l=>K [.code b] ⟨l,[],hp⟩
  |none=>none
 |none=>none
noncomputable def jC(c:Cx):Nat->Orc
 |0=>fun _ _ _=>none
 |n+1=>fun f xs hp=>yx c f xs hp (wE c (jC c n) f n)
def Le{α:Type}(a b:Option α):Prop:=∀r,a=some r->b=some r
theorem Le.refl{α:Type}(a:Option α):Le a a:=fun _ h=>h
theorem Le.trans{α:Type}{a b c:Option α}(h:Le a b)(h':Le b c):Le a c:=fun r hr=>h' r (h r hr)
abbrev k3:Kt (SV×BE×Hp):=fun s b hp=>some (s,b,hp)
section nat
variable {R:Type}
theorem qE(ti:TI)(h:Nat)(cs:List AV)(off:Nat)(K:SV->List AV->Option R):
 jz ti h cs off K=(jz ti h cs off fun s c=>some (s,c)).bind fun p=>K p.1 p.2:=by
 unfold jz
 repeat' split
 all_goals simp[zh9]
theorem zH(ti:TI)(r:AV)(K:SV->Option R):QZ ti r K=(QZ ti r some).bind K:=by
 unfold QZ
 repeat' split
 all_goals simp[zh9]
theorem xn(h:Nat)(ti:TI)(a:SV)(gb:Nat->Option (Nat×List AV))(hp:Hp)(K:Kt R):
 zY h ti a gb hp K=(zY h ti a gb hp k3).bind fun p=>K p.1 p.2.1 p.2.2:=by
 unfold zY
 repeat' split
 all_goals first
  |(rw[qE];conv=>rhs;rw[qE]
    simp[zh9])
  |(simp only[zh9];congr 1;funext p;congr 1;funext cs;rw[qE];conv=>rhs;rw[qE]
    simp[zh9])
  |simp
theorem qdf(ti:TI)(a x:SV)(gb:Nat->Option (Nat×List AV))(hp:Hp)(K:Kt R):
 xf ti a x gb hp K=(xf ti a x gb hp k3).bind fun p=>K p.1 p.2.1 p.2.2:=by
 unfold xf
 simp only[zh9]
 congr 1;funext vs
 repeat' split
 all_goals simp[zh9]
theorem kP(c:Cx)(ti:TI)(a:SV)(f:Nat)(K:SV->Option R):yh c ti a f K=(yh c ti a f some).bind K:=by
 unfold yh
 repeat' split
 all_goals simp[zh9]
theorem kF(c:Cx)(h:Nat)(ti:TI)(a i:SV)(K:SV->Option R):ye c h ti a i K=(ye c h ti a i some).bind K:=by
 unfold ye
 repeat' split
 all_goals simp[zh9]
theorem Zn(c:Cx)(h:Nat)(ti:TI)(t:TypeId)(a:SV)(lo hi mx:Option Value)(K:SV->Option R):
 Zo c h ti t a lo hi mx K=(Zo c h ti t a lo hi mx some).bind K:=by
 unfold Zo
 repeat' split
 all_goals simp[zh9]
theorem YC(c:Cx)(h:Nat)(s d:TypeId)(si di:TI)(a:SV)(K:SV->Option R):Vy c h s d si di a K=(Vy c h s d si di a some).bind K:=by
 unfold Vy
 repeat' split
 all_goals simp[zh9]
theorem VR(c:Cx)(op:BinOp)(t:TypeId)(x y:Operand)(a b:SV)(K:SV->Option R):qlu c op t x y a b K=(qlu c op t x y a b some).bind K:=by
 unfold qlu
 repeat' split
 all_goals simp[zh9]
theorem Ys(c a b:SV)(K:SV->Option R):KV c a b K=(KV c a b some).bind K:=by
 unfold KV
 simp only[zh9]
 congr 1;funext v;congr 1;funext t
 repeat' split
 all_goals first|simp|(cases t<;>simp)
theorem vR(c:Cx)(t t':TypeId)(d s:SV)(K:AV->Option R):qbw c t t' d s K=(qbw c t t' d s some).bind K:=by
 unfold qbw
 rw[zh9]
 congr 1;funext _
 repeat' split
 all_goals simp[zh9]
theorem YH(c:Cx)(t t':TypeId)(d s:SV)(hp:Hp)(K:AV->Hp->Option R):qbv c t t' d s hp K=(qbv c t t' d s hp fun a b=>some (a,b)).bind fun q=>K q.1 q.2:=by
 unfold qbv
 rw[zh9]
 congr 1;funext _
 repeat' split
 all_goals simp[zh9]
theorem VL(c:Cx)(h:Nat)(o:Oper)(b:Builtin)(ts:List TypeId)(as_:List SV)(hp:Hp)(K:SV->Hp->Option R):WQ c h o b ts as_ hp K=(WQ c h o b ts as_ hp fun s q=>some (s,q)).bind fun p=>K p.1 p.2:=by
 unfold WQ
 repeat' split
 all_goals first
  |(simp[zh9];done)
  |(rw[vR];conv=>rhs;rw[vR]
    simp[zh9];done)
  |(rw[YH];conv=>rhs;rw[YH]
    simp[zh9];done)
  |(simp only[zh9];congr 1;funext d;congr 1;funext s
    split<;>simp[zh9])
theorem qa4(ok:Bool)(ei:TI)(f:Option AV)(K:SV->Option R):qk2 ok ei f K=(qnf ok ei f).bind K:=by
 cases ok
 ·unfold qk2 qnf ofAK ofA
  dsimp only
  split<;>simp[zh9]
 ·rfl
theorem vi(c:Cx)(t:TypeId)(x i:SV)(ok:Bool)(hp:Hp)(K:SV->Option R):xQ c t x i ok hp K=(xQ c t x i ok hp some).bind K:=by
 unfold xQ
 simp only[qa4]
 repeat' split
 all_goals simp[zh9]
theorem Qm(c:Cx)(t:TypeId)(m k x:SV)(hp:Hp)(K:Hp->Option R):QH c t m k x hp K=(QH c t m k x hp some).bind K:=by
 unfold QH
 repeat' split
 all_goals simp[zh9]
theorem vm(k:TK)(hp:Hp)(s:SV)(K:SV->Hp->Option R):qqe k hp s K=(qle k hp s).bind fun p=>K p.1 p.2:=by
 unfold qqe qle
 split
 ·split<;>simp[zh9]
 ·simp only[zib]
theorem qbk(c:Cx)(C:Orc)(h:Nat)(ti:TI)(f:FuncId)(caps:List AV)(as_:List SV)(hp:Hp)(K:Kt R):
 jm c C h ti f caps as_ hp K=(jm c C h ti f caps as_ hp k3).bind fun p=>K p.1 p.2.1 p.2.2:=by
 unfold jm
 simp only[zh9]
 congr 1;funext xs
 split
 ·simp only[zh9]
  congr 1;funext p
  rw[zH];conv=>rhs;rw[zH]
  simp[zh9]
 ·split
  ·simp only[zh9]
   congr 1;funext p
   rw[zH];conv=>rhs;rw[zH]
   simp[zh9]
  ·simp only[zh9]
   congr 1;funext u;congr 1;funext p;congr 1;funext u
   rw[zH];conv=>rhs;rw[zH]
   simp[zh9]
theorem jJ(vg:Nat->Option (Nat×Nat))(ev:Operand->SV)(K:List AV->Option R):∀(l:List (Nat×Operand)) (cs:List AV),
 yA vg ev K l cs=(yA vg ev some l cs).bind K
 |[],cs=>rfl
 |(i,x)::r,cs=>by
  unfold yA
  split
  ·rfl
  ·simp only[zh9]
   congr 1;funext vs;congr 1;funext cs'
   exact jJ vg ev K r cs'
theorem qh1(c:Cx)(ti:TI)(f:FuncId)(caps:List AV)(as_:List SV)(hp:Hp)(K:Kt R):
 Vq c ti f caps as_ hp K=(Vq c ti f caps as_ hp k3).bind fun p=>K p.1 p.2.1 p.2.2:=by
 unfold Vq
 simp only[zh9]
 congr 1;funext xs;congr 1;funext p
 rw[zH];conv=>rhs;rw[zH]
 simp[zh9]
theorem vM(c:Cx)(C:Orc)(h:Nat)(o:Oper)(ev:Operand->SV)(gb:Nat->Option (Nat×List AV))(hp:Hp)(K:Kt R):
 qn c C h o ev gb hp K=(qn c C h o ev gb hp k3).bind fun p=>K p.1 p.2.1 p.2.2:=by
 unfold qn
 repeat' split
 all_goals first
  |rfl
  |(simp[zh9];done)
  |exact xn _ _ _ _ _ _
  |exact qdf _ _ _ _ _ _
  |exact qbk _ _ _ _ _ _ _ _ _
  |exact qh1 _ _ _ _ _ _ _
  |(rw[jJ];conv=>rhs;rw[jJ]
    simp[zh9];done)
  |(rw[Ys];conv=>rhs;rw[Ys]
    simp[zh9];done)
  |(rw[VR];conv=>rhs;rw[VR]
    simp[zh9];done)
  |(rw[YC];conv=>rhs;rw[YC]
    simp[zh9];done)
  |(rw[kP];conv=>rhs;rw[kP]
    simp[zh9];done)
  |(rw[kF];conv=>rhs;rw[kF]
    simp[zh9];done)
  |(rw[VL];conv=>rhs;rw[VL]
    simp[zh9];done)
  |(rw[vi];conv=>rhs;rw[vi]
    simp[zh9];done)
  |(rw[Qm];conv=>rhs;rw[Qm]
    simp[zh9];done)
  |(simp only[vm];rw[xn];conv=>rhs;rw[xn]
    simp[zh9];done)
  |(simp only[vm];simp[zh9];done)
  |(simp only[zh9];congr 1;funext cs;rw[qE];conv=>rhs;rw[qE]
    simp[zh9];done)
  |(simp only[zh9];congr 1;funext cs;congr 1;funext iv;congr 1;funext j;rw[qE];conv=>rhs;rw[qE]
    simp[zh9];done)
  |(simp only[zh9];congr 1;funext l;congr 1;funext u;congr 1;funext m;rw[Zn];conv=>rhs;rw[Zn]
    simp[zh9];done)
  |(simp only[zh9];congr 1;funext p;exact qbk _ _ _ _ _ _ _ _ _)
  |(simp only[zh9];congr 1;funext p;exact qh1 _ _ _ _ _ _ _)
  |(simp only[zh9];congr 1;funext l;congr 1;funext u;congr 1;funext m;congr 1;funext q;repeat' split
    all_goals simp)
  |(simp only[zh9];congr 1;funext l;repeat' split
    all_goals first
     |rfl
     |(simp[zh9];done))
end nat
def OLe(C C':Orc):Prop:=∀f xs hp,Le (C f xs hp) (C' f xs hp)
theorem Le.bind{α β:Type}{a b:Option α}{f g:α->Option β}(h:Le a b)(hf:∀x,Le (f x) (g x)):Le (a.bind f) (b.bind g):=by
 intro r hr
 cases a with
 |none=>simp at hr
 |some x=>rw[h x rfl];exact hf x r hr
theorem Le.cond{α:Type}{a b a' b':Option α}{t:Bool}(h:Le a a')(h':Le b b'):Le (cond t a b) (cond t a' b'):=by cases t<;>assumption
theorem VC(c:Cx){C C':Orc}(hC:OLe C C')(h:Nat)(ti:TI)(f:FuncId)(caps:List AV)(as_:List SV)(hp:Hp):
 Le (jm c C h ti f caps as_ hp k3) (jm c C' h ti f caps as_ hp k3):=by
 unfold jm
 refine Le.bind (Le.refl _) fun xs=>?_
 split
 ·exact Le.bind (hC _ _ _) fun p=>Le.refl _
 ·split
  ·exact Le.bind (hC _ _ _) fun p=>Le.refl _
  ·exact Le.bind (Le.refl _) fun _=>Le.bind (hC _ _ _) fun p=>Le.refl _
theorem Vx(c:Cx){C C':Orc}(hC:OLe C C')(h:Nat)(o:Oper)(ev:Operand->SV)(gb:Nat->Option (Nat×List AV))(hp:Hp):
 Le (qn c C h o ev gb hp k3) (qn c C' h o ev gb hp k3):=by
 unfold qn
 repeat' split
 all_goals first
  |exact Le.refl _
  |exact VC c hC _ _ _ _ _ _
  |exact Le.bind (Le.refl _) fun p=>VC c hC _ _ _ _ _ _
noncomputable def lim{α:Type}(s:Nat->Option α):Option α:=
 open Classical in if h:∃n r,s n=some r then s h.choose else none
theorem qhb{α:Type}{s:Nat->Option α}(hs:∀n,Le (s n) (s (n+1)))(r:α):lim s=some r↔∃n,s n=some r:=by
 have up:∀n m,Le (s n) (s (n+m)):=by
  intro n m
  induction m with
  |zero=>exact Le.refl _
  |succ m ih=>exact ih.trans (hs (n+m))
 constructor
 ·intro h
  unfold lim at h
  split at h
  ·exact⟨_,h⟩
  ·cases h
 ·rintro⟨n,hn⟩
  unfold lim
  have h:∃n r,s n=some r:=⟨n,r,hn⟩
  rw[dif_pos h]
  obtain⟨r',hr'⟩:=h.choose_spec
  have a:=up n h.choose r hn
  have b:=up h.choose n r' hr'
  rw[zmo]at b
  rw[a]at b
  cases b
  exact hr'
theorem Le.ite{α:Type}{p:Prop}[Decidable p]{a b a' b':Option α}(h:Le a a')(h':Le b b'):Le (if p then a else b) (if p then a' else b'):=by
 split<;>assumption
def GLe(G G':List It->St->Option (AV×Hp)):Prop:=∀its st,Le (G its st) (G' its st)
theorem qqf(c:Cx){C C':Orc}(hC:OLe C C'){G G':List It->St->Option (AV×Hp)}(hG:GLe G G')(h:Nat)(o:Oper)(ev:Operand->SV)
 (gb:Nat->Option (Nat×List AV)) (hp:Hp) (its:SV->BE->Hp->List It) (sts:SV->BE->Hp->St):
 Le (qn c C h o ev gb hp fun s b q=>G (its s b q) (sts s b q)) (qn c C' h o ev gb hp fun s b q=>G' (its s b q) (sts s b q)):=by
 rw[vM (K:=fun s b q=>G (its s b q) (sts s b q)),vM (K:=fun s b q=>G' (its s b q) (sts s b q))]
 exact Le.bind (Vx c hC _ _ _ _ _) fun p=>hG _ _
theorem ZC(c:Cx){C C':Orc}(hC:OLe C C'){G G':GoT}(hG:GLe G G')(r:Nat)(ops:Array Oper)(is:List Nat)(d:Bool)(acc:List (Nat×Fp))(k:List It)(h i:Nat)(o:Oper)(st:St):
 Le (JD c C G r ops is d acc k h i o st) (JD c C' G' r ops is d acc k h i o st):=qqf c hC hG _ _ _ _ _ _ _
theorem quu(c:Cx){C C':Orc}(hC:OLe C C'){G G':GoT}(hG:GLe G G')(r:Nat)(ops:Array Oper)(is:List Nat)(d:Bool)(acc:List (Nat×Fp))(k:List It)(h i:Nat)(o:Oper)(st:St):
 Le (opF c C G r ops is d acc k h i o st) (opF c C' G' r ops is d acc k h i o st):=by
 unfold opF
 split
 ·exact Le.refl _
 ·exact ZC c hC hG _ _ _ _ _ _ _ _ _ _
 ·split
  ·exact hG _ _
  ·refine Le.bind (Le.refl _) fun t=>?_
   split
   ·exact Le.cond (ZC c hC hG _ _ _ _ _ _ _ _ _ _) (hG _ _)
   ·exact Le.cond (hG _ _) (ZC c hC hG _ _ _ _ _ _ _ _ _ _)
  ·exact Le.refl _
theorem vV(c:Cx){C C':Orc}(hC:OLe C C'){G G':GoT}(hG:GLe G G')(f:FuncId)(its:List It)(st:St):
 Le (jL c C G f its st) (jL c C' G' f its st):=by
 unfold jL
 split
 all_goals first
  |exact Le.refl _
  |exact hG _ _
  |exact Le.bind (Le.refl _) fun v=>Le.bind (Le.refl _) fun t=>Le.cond (hG _ _) (hG _ _)
  |exact Le.bind (Le.refl _) fun v=>hG _ _
  |exact Le.cond (fun r h=>VN (kV h).1 (hG _ _ r (kV h).2)) (Le.refl _)
  |exact Le.bind (Le.refl _) fun v=>quu c hC hG _ _ _ _ _ _ _ _ _ _
theorem Jy(c:Cx){C C':Orc}(hC:OLe C C')(f:FuncId):∀n its st,Le (wE c C f n its st) (wE c C' f n its st)
 |0,_,_=>Le.refl _
 |n+1,its,st=>vV c hC (fun its st=>Jy c hC f n its st) f its st
theorem Jx(c:Cx)(C:Orc)(f:FuncId):∀n its st,Le (wE c C f n its st) (wE c C f (n+1) its st)
 |0,_,_=>fun r h=>by simp[wE]at h
 |n+1,its,st=>vV c (fun f xs hp=>Le.refl _) (fun its st=>Jx c C f n its st) f its st
theorem wC{R:Type}(c:Cx):∀(i:Nat) (ts:List TypeId) (xs:List AV) (K K':Slots->Option R),(∀l,Le (K l) (K' l))->Le (xr c i ts xs K) (xr c i ts xs K')
 |_,[],[],_,_,h=>h _
 |i,[],_::xs,_,_,h=>wC c (i+1) [] xs _ _ fun l=>h _
 |_,_::_,[],_,_,_=>Le.refl _
 |i,t::ts,x::xs,_,_,h=>by
  unfold xr
  split
  ·split
   ·exact Le.bind (Le.refl _) fun v=>wC c (i+1) ts xs _ _ fun l=>h _
   ·exact wC c (i+1) ts xs _ _ fun l=>h _
  ·exact Le.refl _
theorem YW{R:Type}(c:Cx)(f:FuncId)(xs:List AV)(hp:Hp){K K':List It->St->Option R}(h:∀its st,Le (K its st) (K' its st)):
 Le (yx c f xs hp K) (yx c f xs hp K'):=by
 unfold yx
 repeat' split
 all_goals first
  |exact Le.refl _
  |exact wC c _ _ _ _ _ (fun l=>h _ _)
theorem xZ(c:Cx):∀n,OLe (jC c n) (jC c (n+1))
 |0=>fun f xs hp r h=>by simp[jC]at h
 |n+1=>fun f xs hp=>by
  show Le (yx c f xs hp (wE c (jC c n) f n)) (yx c f xs hp (wE c (jC c (n+1)) f (n+1)))
  exact YW c f xs hp fun its st=>(Jy c (xZ c n) f n its st).trans (Jx c _ f n its st)
noncomputable def run(c:Cx):Orc:=fun f xs hp=>lim fun n=>jC c n f xs hp
noncomputable def go(c:Cx)(f:FuncId)(its:List It)(st:St):Option (AV×Hp):=lim fun n=>wE c (jC c n) f n its st
theorem ko{c:Cx}{f:FuncId}{xs:List AV}{hp:Hp}{r:AV×Hp}:run c f xs hp=some r↔∃n,jC c n f xs hp=some r:=
 qhb (fun n=>xZ c n f xs hp) r
theorem zb5(c:Cx)(f:FuncId)(its:List It)(st:St)(n:Nat):Le (wE c (jC c n) f n its st) (wE c (jC c (n+1)) f (n+1) its st):=
 (Jy c (xZ c n) f n its st).trans (Jx c _ f n its st)
theorem jA{c:Cx}{f:FuncId}{its:List It}{st:St}{r:AV×Hp}:go c f its st=some r↔∃n,wE c (jC c n) f n its st=some r:=
 qhb (zb5 c f its st) r
theorem qys(c:Cx){n m:Nat}(h:n<=m):OLe (jC c n) (jC c m):=by
 obtain⟨d,rfl⟩:=Nat.exists_eq_add_of_le h
 intro f xs hp
 induction d with
 |zero=>exact Le.refl _
 |succ d ih=>exact(ih qc).trans (xZ c (n+d) f xs hp)
theorem zeg(c:Cx)(f:FuncId){n m:Nat}(h:n<=m):GLe (wE c (jC c n) f n) (wE c (jC c m) f m):=by
 obtain⟨d,rfl⟩:=Nat.exists_eq_add_of_le h
 intro its st
 induction d with
 |zero=>exact Le.refl _
 |succ d ih=>exact(ih qc).trans (zb5 c f its st (n+d))
theorem yW{α β:Type}{o:Option α}{f:α->Option β}{fs:Nat->α->Option β}(h:∀x r,f x=some r->∃n,fs n x=some r){r:β}
 (hr:o.bind f=some r):∃n,o.bind (fs n)=some r:=by
 cases o with
 |none=>simp at hr
 |some x=>exact h x r hr
theorem VD(c:Cx)(h:Nat)(ti:TI)(f:FuncId)(caps:List AV)(as_:List SV)(hp:Hp){r:SV×BE×Hp}
 (hr:jm c (run c) h ti f caps as_ hp k3=some r):∃n,jm c (jC c n) h ti f caps as_ hp k3=some r:=by
 unfold jm at hr⊢
 refine yW (fun xs r hr=>?_) hr
 by_cases e:h=2
 ·simp only[if_pos e]at hr⊢
  obtain⟨p,hp',hr⟩:=bsm hr
  obtain⟨n,hn⟩:=ko.mp hp'
  exact⟨n,by rw[hn];exact hr⟩
 ·simp only[if_neg e]at hr⊢
  by_cases e4:h=4
  ·simp only[if_pos e4]at hr⊢
   obtain⟨p,hp',hr⟩:=bsm hr
   obtain⟨n,hn⟩:=ko.mp hp'
   exact⟨n,by rw[hn];exact hr⟩
  ·simp only[if_neg e4]at hr⊢
   obtain⟨u,hu,hr⟩:=bsm hr
   obtain⟨p,hp',hr⟩:=bsm hr
   obtain⟨n,hn⟩:=ko.mp hp'
   exact⟨n,by rw[hu];simp only[zib];rw[hn];exact hr⟩
theorem qlj(c:Cx)(h:Nat)(o:Oper)(ev:Operand->SV)(gb:Nat->Option (Nat×List AV))(hp:Hp){r:SV×BE×Hp}
 (hr:qn c (run c) h o ev gb hp k3=some r):∃n,qn c (jC c n) h o ev gb hp k3=some r:=by
 revert hr
 unfold qn
 split
 all_goals try exact fun hr=>⟨0,hr⟩
 repeat' split
 all_goals intro hr
 all_goals first
  |exact⟨0,hr⟩
  |exact VD c _ _ _ _ _ hp hr
  |exact yW (fun p r hr=>VD c _ _ _ _ _ hp hr) hr
theorem qqg(c:Cx)(f:FuncId)(h:Nat)(o:Oper)(ev:Operand->SV)
 (gb:Nat->Option (Nat×List AV)) (hp:Hp) (its:SV->BE->Hp->List It) (sts:SV->BE->Hp->St) {r:AV×Hp}
 (hr:(qn c (run c) h o ev gb hp fun s b q=>go c f (its s b q) (sts s b q))=some r):
 ∃n,(qn c (jC c n) h o ev gb hp fun s b q=>wE c (jC c n) f n (its s b q) (sts s b q))=some r:=by
 rw[vM]at hr
 obtain⟨p,h1,h2⟩:=bsm hr
 obtain⟨n,hn⟩:=qlj c h o ev gb hp h1
 obtain⟨m,hm⟩:=jA.mp h2
 refine⟨max n m,?_⟩
 rw[vM]
 rw[Vx c (qys c (Nat.le_max_left n m)) h o ev gb hp p hn]
 exact zeg c f (Nat.le_max_right n m) _ _ r hm
theorem ZD(c:Cx)(f:FuncId)(r:Nat)(ops:Array Oper)(is:List Nat)(d:Bool)(acc:List (Nat×Fp))(k:List It)(h i:Nat)(o:Oper)(st:St){q:AV×Hp}
 (hr:JD c (run c) (go c f) r ops is d acc k h i o st=some q):∃n,JD c (jC c n) (wE c (jC c n) f n) r ops is d acc k h i o st=some q:=
 qqg c f h o (zt st.sl) (zQ st.bx) st.hp (fun s b hp=>.ops r ops is d (ql1 d i (zem c.tn h ops o st.sl st.hp hp) acc)::k) (fun s b hp=>after h o st s b hp) hr
theorem quv(c:Cx)(f:FuncId)(r:Nat)(ops:Array Oper)(is:List Nat)(d:Bool)(acc:List (Nat×Fp))(k:List It)(h i:Nat)(o:Oper)(st:St){q:AV×Hp}
 (hr:opF c (run c) (go c f) r ops is d acc k h i o st=some q):∃n,opF c (jC c n) (wE c (jC c n) f n) r ops is d acc k h i o st=some q:=by
 revert hr
 unfold opF
 split
 ·intro hr;cases hr
 ·intro hr;exact ZD c f _ _ _ _ _ _ _ _ _ _ hr
 ·split
  ·intro hr;exact jA.mp hr
  ·intro hr
   refine yW (fun t r hr=>?_) hr
   revert hr
   split
   ·intro hr
    cases t
    ·exact jA.mp hr
    ·exact ZD c f _ _ _ _ _ _ _ _ _ _ hr
   ·intro hr
    cases t
    ·exact ZD c f _ _ _ _ _ _ _ _ _ _ hr
    ·exact jA.mp hr
  ·intro hr;cases hr
theorem qjs(c:Cx)(f:FuncId)(its:List It)(st:St){r:AV×Hp}(hr:jL c (run c) (go c f) f its st=some r):
 ∃n,jL c (jC c n) (wE c (jC c n) f n) f its st=some r:=by
 unfold jL at hr⊢
 split at hr
 all_goals first
  |exact⟨0,hr⟩
  |exact jA.mp hr
  |exact yW (fun v r hr=>jA.mp hr) hr
  |exact yW (fun v r hr=>quv c f _ _ _ _ _ _ _ _ _ _ hr) hr
  |skip
 ·refine yW (fun v r hr=>yW (fun t r hr=>?_) hr) hr
  cases t
  ·exact jA.mp hr
  ·exact jA.mp hr
 ·rename_i d acc k
  generalize(!d||YA _ acc)=t at hr⊢
  cases t
  ·cases hr
  ·obtain⟨h1,h2⟩:=kV hr
   obtain⟨n,hn⟩:=jA.mp h2
   exact⟨n,VN h1 hn⟩
theorem qno(c:Cx)(f:FuncId)(its:List It)(st:St):go c f its st=jL c (run c) (go c f) f its st:=by
 apply Option.ext
 intro r
 constructor
 ·intro h
  obtain⟨n,hn⟩:=jA.mp h
  cases n with
  |zero=>simp[wE]at hn
  |succ n=>
   have hC:OLe (jC c (n+1)) (run c):=fun f xs hp r hr=>ko.mpr ⟨n+1,hr⟩
   have hG:GLe (wE c (jC c (n+1)) f n) (go c f):=fun its st r hr=>jA.mpr ⟨n+1,Jx c _ f n its st r hr⟩
   exact vV c hC hG f its st r hn
 ·intro h
  obtain⟨n,hn⟩:=qjs c f its st h
  refine jA.mpr ⟨n+1,?_⟩
  exact vV c (xZ c n) (fun its st=>Jy c (xZ c n) f n its st) f its st r hn
theorem zU{R:Type}(c:Cx):∀(i:Nat) (ts:List TypeId) (xs:List AV) (K:Slots->Option R),xr c i ts xs K=(xr c i ts xs some).bind K
 |_,[],[],_=>rfl
 |i,[],x::xs,K=>by
  simp only[xr]
  rw[zU c (i+1) [] xs]
  conv=>rhs;rw[zU c (i+1) [] xs]
  simp[zh9]
 |_,_::_,[],_=>rfl
 |i,t::ts,x::xs,K=>by
  simp only[xr]
  split
  ·split
   ·simp only[zh9]
    congr 1;funext v
    rw[zU c (i+1) ts xs]
    conv=>rhs;rw[zU c (i+1) ts xs]
    simp[zh9]
   ·rw[zU c (i+1) ts xs]
    conv=>rhs;rw[zU c (i+1) ts xs]
    simp[zh9]
  ·rfl
theorem zdd(c:Cx)(f:FuncId)(xs:List AV)(hp:Hp):run c f xs hp=yx c f xs hp (go c f):=by
 apply Option.ext
 intro r
 constructor
 ·intro h
  obtain⟨n,hn⟩:=ko.mp h
  cases n with
  |zero=>simp[jC]at hn
  |succ n=>exact YW c f xs hp (fun its st r hr=>jA.mpr ⟨n,hr⟩) r hn
 ·intro h
  have key:∃n,yx c f xs hp (wE c (jC c n) f n)=some r:=by
   revert h
   unfold yx
   split
   ·split
    ·intro h
     rw[zU]at h
     obtain⟨l,h1,h2⟩:=bsm h
     obtain⟨n,hn⟩:=jA.mp h2
     exact⟨n,by rw[zU,h1];exact hn⟩
    ·intro h;cases h
   ·intro h;cases h
  obtain⟨n,hn⟩:=key
  exact ko.mpr ⟨n+1,hn⟩
theorem JJ(k:Nat):Nat.beq k k=true:=qe
theorem qey{j k:Nat}(h:j≠k):Nat.beq j k=false:=by
 cases hb:Nat.beq j k
 ·rfl
 ·exact absurd (Nat.eq_of_beq_eq_true hb) h
theorem Zz(b:Boxes):∀(live:List Nat) (k:Nat),zQ (xm b live) k=if k∈live then zQ b k else none
 |[],k=>by simp[xm,zQ]
 |j::r,k=>by
  have ih:=Zz b r k
  simp only[xm]
  split
  ·rename_i g cs h
   simp only[zQ]
   by_cases e:j=k
   ·subst e;simp[h]
   ·rw[qey e];simp only[ih,zie]
    have:k≠j:=fun h=>e h.symm
    simp[this]
  ·rename_i h
   rw[ih]
   by_cases e:j=k
   ·subst e;simp[h]
   ·have:k≠j:=fun h=>e h.symm
    simp[this]
theorem Xf(b b':Boxes):∀(live:List Nat),(∀k∈live,zQ b' k=zQ b k)->xm b' live=xm b live
 |[],_=>rfl
 |j::r,h=>by
  simp only[xm]
  rw[h j qe,Xf b b' r fun k hk=>h k (by simp[hk])]
theorem vX(b:Boxes)(l:Slots):∀(live:List Nat) (k:Nat),qA (Ql b l live) k=if k∈live then Va b (qA l k)else .un
 |[],k=>by simp[Ql,qA]
 |j::r,k=>by
  have ih:=vX b l r k
  simp only[Ql]
  by_cases e:j=k
  ·subst e
   split
   ·rename_i h
    rw[ih];simp[h]
   ·rename_i s h
    simp[qA,JJ]
  ·have e':k≠j:=fun h=>e h.symm
   split
   ·rw[ih];simp[e']
   ·simp[qA,qey e,ih,e']
theorem Xe(b:Boxes)(l l':Slots):∀(live:List Nat),(∀k∈live,Va b (qA l' k)=Va b (qA l k))->Ql b l' live=Ql b l live
 |[],_=>rfl
 |j::r,h=>by
  simp only[Ql]
  rw[h j qe,Xe b l l' r fun k hk=>h k (by simp[hk])]
theorem qpw(b:Boxes)(s:SV):Va b (Va b s)=Va b s:=by
 cases s<;>simp only[Va]
 rename_i k g o
 cases h:zQ b k<;>simp[Va,h]
theorem qp0(m:Option (List Nat))(st:St):mask m (mask m st)=mask m st:=by
 cases m with
 |none=>rfl
 |some live=>
  simp only[mask]
  have hB:xm (xm st.bx live) live=xm st.bx live:=Xf _ _ _ fun k hk=>by rw[Zz,if_pos hk]
  rw[hB]
  congr 1
  refine Xe _ _ _ _ fun k hk=>?_
  rw[vX,if_pos hk,qpw]
def qs0(ss:List Nat):List It->Bool
 | .code (.region r _ _)::_=>ss.contains r
 |_=>false
def qky(c:Cx)(f:FuncId):List It->St->St
 | .code (.region r _ _)::_,st=>mask (c.M f r) st
 |_,st=>st
theorem zaj(c:Cx)(f:FuncId)(its:List It)(st:St):go c f its (qky c f its st)=go c f its st:=by
 unfold qky
 split
 ·rw[qno,qno c f _ st]
  simp only[jL,qp0]
 ·rfl
noncomputable def qe9(c:Cx)(f:FuncId)(ss:List Nat):Nat->GoT
 |0=>go c f
 |n+1=>fun its st=>cond (qs0 ss its) (go c f its (qky c f its st)) (jL c (run c) (qe9 c f ss n) f its st)
theorem qda(c:Cx)(f:FuncId)(ss:List Nat):∀n,qe9 c f ss n=go c f
 |0=>rfl
 |n+1=>by
  funext its st
  simp only[qe9,qda c f ss n]
  cases qs0 ss its
  ·exact(qno c f its st).symm
  ·exact zaj c f its st
theorem qwt(c:Cx)(f:FuncId)(ss:List Nat)(n:Nat)(its:List It)(st:St):go c f its st=jL c (run c) (qe9 c f ss n) f its st:=by
 rw[qda];exact qno c f its st
theorem qwe(c:Cx)(f:FuncId)(ss:List Nat)(n:Nat)(xs:List AV)(hp:Hp):run c f xs hp=yx c f xs hp (qe9 c f ss n):=by
 rw[qda];exact zdd c f xs hp
def sub:List Nat->Code->Code
 |[],c=>c
 |0::p,.seq a _=>sub p a
 |_::p,.seq _ b=>sub p b
 |0::p,.cond _ a _=>sub p a
 |_::p,.cond _ _ b=>sub p b
 |_::p,.block _ b=>sub p b
 |_::p,.loop b=>sub p b
 |_::p,.scope b=>sub p b
 |_,c=>c
inductive Ow where
 |fr|oth
 |box (k g:Nat)
 |obj (b g:Nat)
 |sl (k j i:Nat)
 |bc (k g i:Nat)
 |oc (b g i:Nat)
structure Gh where
 Om:Nat->Ow
 I:Nat->Nat
 mu:Nat->Nat->Option Nat
 la:Nat->Nat->Option Nat
def VK(w:World)(b:Nat):Option Nat:=
 match w.heap[b]? with
 |some (.cells arr _ _)=>some arr.size
 |_=>none
theorem ZI{w w':World}{b:Nat}(h:w'.heap[b]?=w.heap[b]?):VK w' b=VK w b:=by simp[VK,h]
inductive RelR (G : Gh) (w : World) : AV → Value → Prop where
 |sc (v:Value):v.oneCell'=true->RelR G w (.sc v) v
 |sl0 (sz:Nat) (a:Addr) (cap:Nat):0<sz->RelR G w (.sl sz []) (.slice (some a) 0 cap)
 |sl (sz:Nat) (cs:List AV) (n cap b o:Nat) (vs:List Value):0<sz->0<n->cs.length=n*sz->n<=cap->o+n*sz<=G.I b->vs.length=cs.length->
  (∀k c,vs[k]?=some c->w.cell? ⟨b,o+k,none⟩=some c)->(∀x∈cs,vl x=true)->(∀(k:Nat) (x:AV) (c:Value),cs[k]?=some x->vs[k]?=some c->RelR G w x c)->
  RelR G w (.sl sz cs) (.slice (some ⟨b,o,none⟩) n cap)
 |ptr (b g off blk:Nat):G.mu b g=some blk->RelR G w (.ptr b g off) (.pointer (some ⟨blk,off,none⟩))
 |ms (b g off n sz cap blk off' z:Nat):G.mu b g=some blk->n<=cap->(0<n->off'=off)->VK w blk=some z->off'+cap*sz<=z->RelR G w (.ms b g off n sz) (.slice (some ⟨blk,off',none⟩) n cap)
 |fn (f:FuncId) (caps:List AV) (vs:List Value):(Nat.blt f 4294967296=true\/caps=[])->caps.length=vs.length->
  (∀(k:Nat) (x:AV) (c:Value),caps[k]?=some x->vs[k]?=some c->RelR G w x c)->RelR G w (.fn f caps) (.func (.func f) #[] vs.toArray)
 |map (b blk:Nat):G.mu b 1=some blk->RelR G w (.map b) (.map (some blk))
 |fnb (f:FuncId) (bs:List AV) (vs:List Value):bs≠[]->bs.length=vs.length->
  (∀(k:Nat) (x:AV) (c:Value),bs[k]?=some x->vs[k]?=some c->RelR G w x c)->RelR G w (.fn (4294967296+f) bs) (.func (.func f) vs.toArray #[])
 |ifc (t:TypeId) (x:AV) (v:Value):RelR G w x v->RelR G w (.ifc t x) (.iface t v)
structure TokR (G : Gh) (w : World) (sz : Nat) (cs : List AV) (v : Value) (b : Nat) : Prop where
 ex:∃n cap arr e m,v= .slice (some ⟨b,0,none⟩) n cap/\0<sz/\cs.length=n*sz/\n<=cap/\G.I b=n*sz/\
  w.heap[b]?=some (.cells arr e m)/\arr.size=cap*sz/\(∀(k:Nat) (x:AV),cs[k]?=some x->∃c,arr[k]?=some c/\RelR G w x c)/\(m=(0,0)\/(cs≠[]/\arr.size<=m.1))
 vl:∀x∈cs,vl x=true
def jx(G:Gh)(w:World)(p:Ow)(x:AV)(v:Value):Prop:=
 match x with
 | .us sz cs=>∃b,G.Om b=p/\TokR G w sz cs v b
 | .agg _=>False
 | .tup _=>False
 |x=>RelR G w x v
def zi(G:Gh)(w:World)(p:Nat->Ow)(x:AV)(v:Value):Prop:=
 match x with
 | .agg cs=>∃vs:List Value,v= .agg vs.toArray/\cs.length=vs.length/\∀(i:Nat) (x:AV) (c:Value),cs[i]?=some x->vs[i]?=some c->jx G w (p i) x c
 |x=>jx G w (p 0) x v
def qG(G:Gh)(w:World)(k:Nat)(s:SV)(v:Value):Prop:=
 match s with
 | .sv u=>v=u/\u.oneCell'=true
 | .av x=>zi G w (.sl k 0 ·) x v
 | .tp l=>∃vs:List Value,v= .tuple vs.toArray/\l.length=vs.length/\∀(j:Nat) (x:AV) (c:Value),l[j]?=some x->vs[j]?=some c->zi G w (.sl k j ·) x c
 | .lp k' g off=>∃blk,G.la k' g=some blk/\v= .pointer (some ⟨blk,off,none⟩)
 | .rv cs=>∃(b o:Nat) (vs:List Value),v= .pointer (some ⟨b,o,none⟩)/\vs.length=cs.length/\(∀i,i<cs.length->o+i<G.I b)/\
  (∀(k:Nat) (c:Value),vs[k]?=some c->w.cell? ⟨b,o+k,none⟩=some c)/\∀(k:Nat) (x:AV) (c:Value),cs[k]?=some x->vs[k]?=some c->RelR G w x c
 | .un=>True
 | .ud=>v=undef
def yY(G:Gh)(w:World)(blk:Nat)(p:Nat->Ow)(cs:List AV):Prop:=
 ∃arr e,w.heap[blk]?=some (.cells arr e (0,0))/\cs.length<=arr.size/\∀(i:Nat) (x:AV) (c:Value),cs[i]?=some x->arr[i]?=some c->jx G w (p i) x c
def XC(G:Gh)(w:World)(x:AV)(v:Value):Prop:=
 match x with
 | .agg cs=>∃vs:List Value,v= .agg vs.toArray/\cs.length=vs.length/\∀(i:Nat) (x:AV) (c:Value),cs[i]?=some x->vs[i]?=some c->RelR G w x c
 |x=>RelR G w x v
def Wa(G:Gh)(w:World)(x:AV)(e:MapEntry):Prop:=
 match x with
 | .tup [.sc k,y]=>e.key=k/\k.oneCell'=true/\XC G w y e.val
 |_=>False
def qiz(G:Gh)(w:World)(blk:Nat)(cs:List AV):Prop:=
 ∃es clock,w.heap[blk]?=some (.map es clock)/\es.size=cs.length/\∀(i:Nat) (x:AV) (e:MapEntry),cs[i]?=some x->es[i]?=some e->Wa G w x e
def ObR(G:Gh)(w:World)(blk:Nat)(p:Nat->Ow)(g:Nat)(cs:List AV):Prop:=
 match g with
 |0=>yY G w blk p cs
 |_+1=>qiz G w blk cs
structure Inv (G : Gh) (w : World) (st : St) (tmps : Array Value) : Prop where
 slots:∀k,qG G w k (qA st.sl k) (tmps.getD k undef)
 boxes:∀k g cs,zQ st.bx k=some (g,cs)->∃blk,G.la k g=some blk/\G.Om blk= .box k g/\yY G w blk (.bc k g ·) cs
 heap:∀b g cs,st.hp.get b=some (g,cs)->∃blk,G.mu b g=some blk/\G.Om blk= .obj b g/\ObR G w blk (.oc b g ·) g cs
 next:∀b g,st.hp.next<=b->G.mu b g=none
 hlt:∀b g cs,st.hp.get b=some (g,cs)->b<st.hp.next
 new:∀b,w.heap.size<=b->G.Om b= .fr/\G.I b=0
 vars:∀b,(∃k g,G.Om b= .box k g)\/(∃k g,G.Om b= .obj k g)->G.I b=0
 lps:∀j k g off,qA st.sl j= .lp k g off->∃g' cs,zQ st.bx k=some (g',cs)/\g<=g'
def ZP(w w':World):Prop:=w'.os=w.os/\w'.tape=w.tape/\w'.output=w.output
theorem ZP.refl(w:World):ZP w w:=⟨rfl,rfl,rfl⟩
theorem ZP.trans{w w' w'':World}(h:ZP w w')(h':ZP w' w''):ZP w w'':=⟨h'.1.trans h.1,h'.2.1.trans h.2.1,h'.2.2.trans h.2.2⟩
structure Fr (G : Gh) (w : World) (G' : Gh) (w' : World) : Prop where
 size:w.heap.size<=w'.heap.size
 cells:∀b i,i<G.I b->w'.cell? ⟨b,i,none⟩=w.cell? ⟨b,i,none⟩
 imm:∀b,G.I b<=G'.I b
 mu:∀b g x,G.mu b g=some x->G'.mu b g=some x
 same:∀b,b<w.heap.size->G.Om b= .fr\/G.Om b= .oth->w'.heap[b]?=w.heap[b]?/\G'.Om b=G.Om b/\G'.I b=G.I b
 rest:ZP w w'
 bs:∀b z,VK w b=some z->VK w' b=some z
theorem Fr.refl(G:Gh)(w:World):Fr G w G w:=⟨zif _,fun _ _ _=>rfl,fun _=>zif _,fun _ _ _ h=>h,fun _ _ _=>⟨rfl,rfl,rfl⟩,ZP.refl w,fun _ _ h=>h⟩
theorem Fr.trans{G G' G'':Gh}{w w' w'':World}(h:Fr G w G' w')(h':Fr G' w' G'' w''):Fr G w G'' w'':=by
 refine⟨zjw h.size h'.size,fun b i hi=>?_,fun b=>zjw (h.imm b) (h'.imm b),fun b g x hx=>h'.mu b g x (h.mu b g x hx),fun b hb ho=>?_,h.rest.trans h'.rest,fun b z hz=>h'.bs b z (h.bs b z hz)⟩
 ·rw[h'.cells b i (zi8 hi (h.imm b)),h.cells b i hi]
 ·obtain⟨a1,a2,a3⟩:=h.same b hb ho
  obtain⟨b1,b2,b3⟩:=h'.same b (zi8 hb h.size) (by rw[a2];exact ho)
  exact⟨b1.trans a1,b2.trans a2,b3.trans a3⟩
structure Ev (G : Gh) (w : World) (G' : Gh) (w' : World) : Prop where
 cells:∀b i,i<G.I b->w'.cell? ⟨b,i,none⟩=w.cell? ⟨b,i,none⟩
 imm:∀b,G.I b<=G'.I b
 mu:∀b g x,G.mu b g=some x->G'.mu b g=some x
 bs:∀b z,VK w b=some z->VK w' b=some z
theorem Fr.ev{G G':Gh}{w w':World}(h:Fr G w G' w'):Ev G w G' w':=⟨h.cells,h.imm,h.mu,h.bs⟩
theorem Ev.refl(G:Gh)(w:World):Ev G w G w:=(Fr.refl G w).ev
theorem RelR.ev{G G':Gh}{w w':World}(he:Ev G w G' w'){x:AV}{v:Value}(h:RelR G w x v):RelR G' w' x v:=by
 induction h with
 |sc v h=>exact .sc v h
 |sl0 sz a cap h=>exact .sl0 sz a cap h
 |sl sz cs n cap b o vs h1 h2 h3 h4 h5 h6 h7 hv _ ih=>
  refine .sl sz cs n cap b o vs h1 h2 h3 h4 (zjw h5 (he.imm b)) h6 (fun k c hk=>?_) hv ih
  have hlt:k<vs.length:=(zih.mp hk).1
  rw[he.cells b (o+k) qc]
  exact h7 k c hk
 |ptr b g off blk h=>exact .ptr b g off blk (he.mu _ _ _ h)
 |ms b g off n sz cap blk off' z h h' h'' h3 h4=>exact .ms b g off n sz cap blk off' z (he.mu _ _ _ h) h' h'' (he.bs _ _ h3) h4
 |fn f caps vs h0 h _ ih=>exact .fn f caps vs h0 h ih
 |map b blk h=>exact .map b blk (he.mu _ _ _ h)
 |ifc t x v _ ih=>exact .ifc t x v ih
 |fnb f bs vs h0 h _ ih=>exact .fnb f bs vs h0 h ih
theorem TokR.ev{G G':Gh}{w w':World}(he:Ev G w G' w'){sz:Nat}{cs:List AV}{v:Value}{b:Nat}(hb:w'.heap[b]?=w.heap[b]?) (hi:G'.I b=G.I b)
 (h:TokR G w sz cs v b):TokR G' w' sz cs v b:=by
 obtain⟨n,cap,arr,e,m,h1,h2,h3,h4,h5,h6,h7,h9,hm⟩:=h.ex
 refine⟨⟨n,cap,arr,e,m,h1,h2,h3,h4,hi.trans h5,hb.trans h6,h7,fun k x hk=>?_,hm⟩,h.vl⟩
 obtain⟨c,hc,hr⟩:=h9 k x hk
 exact⟨c,hc,hr.ev he⟩
def zA(G:Gh)(w:World)(G':Gh)(w':World)(p q:Ow):Prop:=∀b,G.Om b=p->w'.heap[b]?=w.heap[b]?/\G'.I b=G.I b/\G'.Om b=q
theorem jx.ev{G G':Gh}{w w':World}(he:Ev G w G' w'){p q:Ow}(hk:zA G w G' w' p q){x:AV}{v:Value}(h:jx G w p x v):jx G' w' q x v:=by
 cases x with
 |us sz cs=>
  obtain⟨b,hb,ht⟩:=h
  obtain⟨h1,h2,h3⟩:=hk b hb
  exact⟨b,h3,ht.ev he h1 h2⟩
 |agg _=>exact h
 |tup _=>exact h
 |sc _=>exact RelR.ev he h
 |sl _ _=>exact RelR.ev he h
 |ptr _ _ _=>exact RelR.ev he h
 |ms _ _ _ _ _=>exact RelR.ev he h
 |fn _ _=>exact RelR.ev he h
 |map _=>exact RelR.ev he h
 |ifc _ _=>exact RelR.ev he h
theorem kr{G:Gh}{w:World}{p:Nat->Ow}{x:AV}{v:Value}(hx:∀cs,x≠ .agg cs):zi G w p x v=jx G w (p 0) x v:=by
 cases x<;>first|rfl|exact absurd rfl (hx _)
theorem ZO(x:AV):(∃cs,x= .agg cs)\/∀cs,x≠ .agg cs:=by
 cases x<;>first|exact .inl ⟨_,rfl⟩|exact .inr fun _ h=>by cases h
theorem zi.ev{G G':Gh}{w w':World}(he:Ev G w G' w'){p q:Nat->Ow}(hk:∀i,zA G w G' w' (p i) (q i)){x:AV}{v:Value}(h:zi G w p x v):zi G' w' q x v:=by
 rcases ZO x with⟨cs,rfl⟩|hx
 ·obtain⟨vs,h1,h2,h3⟩:=h
  exact⟨vs,h1,h2,fun i x c hx hc=>(h3 i x c hx hc).ev he (hk i)⟩
 ·rw[kr hx]at h⊢
  exact h.ev he (hk 0)
theorem qG.ev{G G':Gh}{w w':World}(he:Ev G w G' w'){k k':Nat}{s:SV}(hk:∀j i,zA G w G' w' (.sl k j i) (.sl k' j i))
 (hl:∀a g off x,s= .lp a g off->G.la a g=some x->G'.la a g=some x) {v:Value} (h:qG G w k s v):qG G' w' k' s v:=by
 cases s with
 |sv u=>exact h
 |av x=>exact zi.ev he (hk 0) h
 |tp l=>
  obtain⟨vs,h1,h2,h3⟩:=h
  exact⟨vs,h1,h2,fun j x c hx hc=>(h3 j x c hx hc).ev he (hk j)⟩
 |lp a g off=>
  obtain⟨blk,h1,h2⟩:=h
  exact⟨blk,hl a g off blk rfl h1,h2⟩
 |rv cs=>
  obtain⟨b,o,vs,h1,h2,h3,h4,h5⟩:=h
  refine⟨b,o,vs,h1,h2,fun i hi=>zi8 (h3 i hi) (he.imm b),fun k c hk=>?_,fun k x c hx hc=>(h5 k x c hx hc).ev he⟩
  have hlt:k<vs.length:=(zih.mp hk).1
  rw[he.cells b (o+k) (h3 k qc)]
  exact h4 k c hk
 |un=>trivial
 |ud=>exact h
theorem yY.ev{G G':Gh}{w w':World}(he:Ev G w G' w'){blk:Nat}{p q:Nat->Ow}{cs:List AV}(hb:w'.heap[blk]?=w.heap[blk]?)
 (hk:∀i,zA G w G' w' (p i) (q i)) (h:yY G w blk p cs):yY G' w' blk q cs:=by
 obtain⟨arr,e,h1,h2,h3⟩:=h
 exact⟨arr,e,hb.trans h1,h2,fun i x c hx hc=>(h3 i x c hx hc).ev he (hk i)⟩
theorem XC.ev{G G':Gh}{w w':World}(he:Ev G w G' w'){x:AV}{v:Value}(h:XC G w x v):XC G' w' x v:=by
 cases x with
 |agg cs=>
  obtain⟨vs,h1,h2,h3⟩:=h
  exact⟨vs,h1,h2,fun i x c hx hc=>(h3 i x c hx hc).ev he⟩
 |tup _=>exact RelR.ev he h
 |us _ _=>exact RelR.ev he h
 |sc _=>exact RelR.ev he h
 |sl _ _=>exact RelR.ev he h
 |ptr _ _ _=>exact RelR.ev he h
 |ms _ _ _ _ _=>exact RelR.ev he h
 |fn _ _=>exact RelR.ev he h
 |map _=>exact RelR.ev he h
 |ifc _ _=>exact RelR.ev he h
theorem Wa.ev{G G':Gh}{w w':World}(he:Ev G w G' w'){x:AV}{e:MapEntry}(h:Wa G w x e):Wa G' w' x e:=by
 unfold Wa at h⊢
 split at h
 ·exact⟨h.1,h.2.1,h.2.2.ev he⟩
 ·exact h.elim
theorem qiz.ev{G G':Gh}{w w':World}(he:Ev G w G' w'){blk:Nat}{cs:List AV}(hb:w'.heap[blk]?=w.heap[blk]?) (h:qiz G w blk cs):qiz G' w' blk cs:=by
 obtain⟨es,clock,h1,h2,h3⟩:=h
 exact⟨es,clock,hb.trans h1,h2,fun i x e hx hc=>(h3 i x e hx hc).ev he⟩
theorem ObR.ev{G G':Gh}{w w':World}(he:Ev G w G' w'){blk:Nat}{p q:Nat->Ow}{g:Nat}{cs:List AV}(hb:w'.heap[blk]?=w.heap[blk]?)
 (hk:∀i,zA G w G' w' (p i) (q i)) (h:ObR G w blk p g cs):ObR G' w' blk q g cs:=by
 cases g with
 |zero=>exact yY.ev he hb hk h
 |succ g=>exact qiz.ev he hb h
structure EvL (G : Gh) (w : World) (G' : Gh) (w' : World) : Prop where
 cells:∀b i,i<G.I b->w'.cell? ⟨b,i,none⟩=w.cell? ⟨b,i,none⟩
 imm:∀b,G.I b<=G'.I b
theorem RelR.evl{G G':Gh}{w w':World}(he:EvL G w G' w'){x:AV}{v:Value}(h:RelR G w x v)(hv:vl x=true):RelR G' w' x v:=by
 induction h with
 |sc v h=>exact .sc v h
 |sl0 sz a cap h=>exact .sl0 sz a cap h
 |sl sz cs n cap b o vs h1 h2 h3 h4 h5 h6 h7 hvl _ ih=>
  refine .sl sz cs n cap b o vs h1 h2 h3 h4 (zjw h5 (he.imm b)) h6 (fun k c hk=>?_) hvl (fun k x c hx hc=>ih k x c hx hc (hvl x (zig hx)))
  have hlt:k<vs.length:=(zih.mp hk).1
  rw[he.cells b (o+k) qc]
  exact h7 k c hk
 |ptr b g off blk h=>cases hv
 |ms b g off n sz cap blk off' z h h' h'' h3 h4=>cases hv
 |fn f caps vs h0 h h' ih=>
  have:caps=[]:=by simpa[AI.vl]using hv
  subst this
  exact .fn f [] vs h0 h (by intro k x c hx;simp at hx)
 |map b blk h=>cases hv
 |ifc t x v _ _=>cases hv
 |fnb f bs vs h0 h h' ih=>
  have:bs=[]:=by simpa[AI.vl]using hv
  exact absurd this h0
theorem TokR.evl{G G':Gh}{w w':World}(he:EvL G w G' w'){sz:Nat}{cs:List AV}{v:Value}{b:Nat}(hb:w'.heap[b]?=w.heap[b]?) (hi:G'.I b=G.I b)
 (h:TokR G w sz cs v b):TokR G' w' sz cs v b:=by
 obtain⟨n,cap,arr,e,m,h1,h2,h3,h4,h5,h6,h7,h9,hm⟩:=h.ex
 refine⟨⟨n,cap,arr,e,m,h1,h2,h3,h4,hi.trans h5,hb.trans h6,h7,fun k x hk=>?_,hm⟩,h.vl⟩
 obtain⟨c,hc,hr⟩:=h9 k x hk
 exact⟨c,hc,hr.evl he (h.vl x (zig hk))⟩
theorem jx.evl{G G':Gh}{w w':World}(he:EvL G w G' w'){p q:Ow}(hk:zA G w G' w' p q){x:AV}{v:Value}(h:jx G w p x v)(hv:vl x=true):jx G' w' q x v:=by
 cases x with
 |us sz cs=>
  obtain⟨b,hb,ht⟩:=h
  obtain⟨h1,h2,h3⟩:=hk b hb
  exact⟨b,h3,ht.evl he h1 h2⟩
 |agg _=>exact h
 |tup _=>exact h
 |sc _=>exact RelR.evl he h hv
 |sl _ _=>exact RelR.evl he h hv
 |ptr _ _ _=>exact RelR.evl he h hv
 |ms _ _ _ _ _=>exact RelR.evl he h hv
 |fn _ _=>exact RelR.evl he h hv
 |map _=>exact RelR.evl he h hv
 |ifc _ _=>exact RelR.evl he h hv
theorem zi.evl{G G':Gh}{w w':World}(he:EvL G w G' w'){p q:Nat->Ow}(hk:∀i,zA G w G' w' (p i) (q i)){x:AV}{v:Value}(h:zi G w p x v)(hv:vlF x=true):zi G' w' q x v:=by
 rcases ZO x with⟨cs,rfl⟩|hx
 ·obtain⟨vs,h1,h2,h3⟩:=h
  exact⟨vs,h1,h2,fun i x c hx hc=>(h3 i x c hx hc).evl he (hk i) (zja.mp hv x (zig hx))⟩
 ·rw[kr hx]at h⊢
  have hv':vl x=true:=by
   cases x<;>first|exact hv|exact absurd rfl (hx _)
  exact h.evl he (hk 0) hv'
theorem Ev.evl{G G':Gh}{w w':World}(h:Ev G w G' w'):EvL G w G' w':=⟨h.cells,h.imm⟩
theorem qR{w:World}{b:Nat}{arr:Array Value}{e:TypeId}{fz:Nat×Nat}(h:w.heap[b]?=some (.cells arr e fz)) (i:Nat):w.cell? ⟨b,i,none⟩=arr[i]?:=by
 simp[World.cell?,h]
theorem qr{α β:Type}(f:α->β)(l:List α)(i:Nat)(y:β)(h:(l.map f)[i]?=some y):∃x,l[i]?=some x/\f x=y:=by
 rw[zir]at h
 cases hx:l[i]? with
 |none=>rw[hx]at h;cases h
 |some x=>rw[hx]at h;cases h;exact⟨x,rfl,rfl⟩
theorem qU{α β:Type}{l:List α}{m:List β}(h:l.length=m.length){i:Nat}{x:α}(hx:l[i]?=some x):∃y,m[i]?=some y:=by
 have:i<m.length:=by rw[<-h];exact(zih.mp hx).1
 exact⟨m[i],zic this⟩
theorem TokR.ro{G:Gh}{w:World}{sz:Nat}{cs:List AV}{v:Value}{b:Nat}(h:TokR G w sz cs v b):RelR G w (.sl sz cs) v:=by
 obtain⟨n,cap,arr,e,m,rfl,h2,h3,h4,h5,h6,h7,h9,_⟩:=h.ex
 by_cases hn:n=0
 ·subst hn
  have:cs=[]:=zi9.mp (by simpa using h3)
  subst this
  exact .sl0 sz _ cap h2
 ·have hle:cs.length<=arr.size:=by rw[h3,h7];exact ziq sz h4
  refine .sl sz cs n cap b 0 (arr.toList.take cs.length) h2 qc h3 h4 qc qg (fun k c hk=>?_) h.vl (fun k x c hx hc=>?_)
  ·rw[ziw,qR h6]
   rw[zij]at hk
   split at hk
   ·simpa using hk
   ·cases hk
  ·obtain⟨c',hc',hr⟩:=h9 k x hx
   rw[zij]at hc
   split at hc
   ·have:arr[k]?=some c:=by simpa using hc
    rw[this]at hc';cases hc';exact hr
   ·cases hc
theorem jx.ro{G:Gh}{w:World}{p:Ow}{x:AV}{v:Value}(h:jx G w p x v):RelR G w (ro1 x) v:=by
 cases x with
 |us sz cs=>obtain⟨b,_,ht⟩:=h;exact ht.ro
 |agg _=>exact h.elim
 |tup _=>exact h.elim
 |sc _=>exact h
 |sl _ _=>exact h
 |ptr _ _ _=>exact h
 |ms _ _ _ _ _=>exact h
 |fn _ _=>exact h
 |map _=>exact h
 |ifc _ _=>exact h
theorem RelR.c{G:Gh}{w:World}{x:AV}{v:Value}(h:RelR G w x v)(p:Ow):jx G w p x v:=by
 cases h with
 |sc v h=>exact .sc v h
 |sl0 sz a cap h=>exact .sl0 sz a cap h
 |sl sz cs n cap b o vs h1 h2 h3 h4 h5 h6 h7 h8 h9=>exact RelR.sl sz cs n cap b o vs h1 h2 h3 h4 h5 h6 h7 h8 h9
 |ptr b g off blk h=>exact RelR.ptr b g off blk h
 |ms b g off n sz cap blk off' z h h' h'' h3 h4=>exact RelR.ms b g off n sz cap blk off' z h h' h'' h3 h4
 |fn f caps vs h0 h h'=>exact RelR.fn f caps vs h0 h h'
 |map b blk h=>exact RelR.map b blk h
 |ifc t x v h=>exact RelR.ifc t x v h
 |fnb f bs vs h0 h h'=>exact RelR.fnb f bs vs h0 h h'
theorem KM{G:Gh}{w:World}{x:AV}{v:Value}(h:RelR G w x v):ro1 x=x:=by cases h<;>rfl
theorem RelR.ne_agg{G:Gh}{w:World}{x:AV}{v:Value}(h:RelR G w x v):∀cs,x≠ .agg cs:=by cases h<;>intro cs h<;>cases h
theorem jx.ne_agg{G:Gh}{w:World}{p:Ow}{x:AV}{v:Value}(h:jx G w p x v):∀cs,x≠ .agg cs:=by
 rintro cs rfl;exact h
theorem qgg{x:AV}(hx:∀cs,x≠ .agg cs):ro x=ro1 x:=by
 cases x<;>first|rfl|exact absurd rfl (hx _)
theorem jx.v{G:Gh}{w:World}{p:Nat->Ow}{x:AV}{v:Value}(h:jx G w (p 0) x v):zi G w p x v:=by
 rw[kr h.ne_agg];exact h
theorem zi.ro{G G':Gh}{w w':World}(he:Ev G w G' w'){p:Nat->Ow}(q:Nat->Ow){x:AV}{v:Value}(h:zi G w p x v):zi G' w' q (AI.ro x) v:=by
 rcases ZO x with⟨cs,rfl⟩|hx
 ·obtain⟨vs,h1,h2,h3⟩:=h
  refine⟨vs,h1,by simpa using h2,fun i x c hx hc=>?_⟩
  obtain⟨y,hy,rfl⟩:=qr _ _ _ _ hx
  exact((h3 i y c hy hc).ro.ev he).c _
 ·rw[kr hx]at h
  rw[qgg hx]
  exact((h.ro.ev he).c (q 0)).v
theorem qG.ro{G G':Gh}{w w':World}(he:Ev G w G' w'){k:Nat}(k':Nat){s:SV}{v:Value}
 (hl:∀a g off x,s= .lp a g off->G.la a g=some x->G'.la a g=some x) (h:qG G w k s v):qG G' w' k' s.ro v:=by
 cases s with
 |sv u=>exact h
 |av x=>exact zi.ro he _ h
 |tp l=>
  obtain⟨vs,h1,h2,h3⟩:=h
  refine⟨vs,h1,by simpa using h2,fun j x c hx hc=>?_⟩
  obtain⟨y,hy,rfl⟩:=qr _ _ _ _ hx
  exact(h3 j y c hy hc).ro he _
 |lp a g off=>
  obtain⟨blk,h1,h2⟩:=h
  exact⟨blk,hl a g off blk rfl h1,h2⟩
 |rv cs=>
  obtain⟨b,o,vs,h1,h2,h3,h4,h5⟩:=h
  refine⟨b,o,vs,h1,h2,fun i hi=>zi8 (h3 i hi) (he.imm b),fun k c hk=>?_,fun k x c hx hc=>(h5 k x c hx hc).ev he⟩
  have hlt:k<vs.length:=(zih.mp hk).1
  rw[he.cells b (o+k) (h3 k qc)]
  exact h4 k c hk
 |un=>trivial
 |ud=>exact h
theorem ze(l:Slots)(d:Nat)(s:SV)(k:Nat):qA ((d,s)::l) k=if d=k then s else qA l k:=by
 simp only[qA]
 by_cases e:d=k
 ·subst e;simp[JJ]
 ·simp[qey e,e]
theorem kN(l:Boxes)(d g:Nat)(cs:List AV)(k:Nat):zQ (Kx l d g cs) k=if d=k then some (g,cs)else zQ l k:=by
 simp only[Kx,zQ]
 by_cases e:d=k
 ·subst e;simp[JJ]
 ·simp[qey e,e]
theorem ZS(a:Act)(d:Nat)(v:Value)(hd:d<a.tmps.size)(k:Nat):((a.put (some d) v).tmps).getD k undef=if d=k then v else a.tmps.getD k undef:=by
 simp only[Act.put]
 by_cases e:d=k
 ·subst e
  simp[Array.getD,hd]
 ·simp only[Array.getD_eq_getD_getElem?,e,if_false]
  rw[Array.getElem?_setIfInBounds_ne e]
theorem qZ(a:Act)(d:Option Nat)(v:Value):(a.put d v).tmps.size=a.tmps.size:=by
 cases d<;>simp[Act.put]
theorem qD(a:Act)(d:Option Nat)(v:Value):(a.put d v).defers=a.defers:=by
 cases d<;>rfl
theorem qya(t:Nat)(l:Slots)(k:Nat):qA (dn t l) k=if t=k then(qA l k).ro else qA l k:=by
 unfold dn
 rw[ze]
 by_cases e:t=k
 ·subst e;simp
 ·simp[e]
theorem qyy(x:AV):ro1 (ro1 x)=ro1 x:=by cases x<;>rfl
theorem ro_ro(x:AV):ro (ro x)=ro x:=by
 cases x with
 |agg cs=>simp[ro,zli,zlu,qyy]
 |_=>rfl
theorem SV.ro_ro(s:SV):s.ro.ro=s.ro:=by
 cases s with
 |av x=>simp[SV.ro,AI.ro_ro]
 |tp l=>simp[SV.ro,zli,zlu,AI.ro_ro]
 |_=>rfl
theorem zy(ts:List Nat):∀(l:Slots) (k:Nat),qA (qB ts l) k=if k∈ts then(qA l k).ro else qA l k:=by
 induction ts with
 |nil=>intro l k;simp[qB]
 |cons t ts ih=>
  intro l k
  have:qB (t::ts) l=qB ts (dn t l):=rfl
  rw[this,ih,qya]
  by_cases h1:t=k
  ·subst h1
   by_cases h2:t∈ts<;>simp[h2,SV.ro_ro]
  ·have h1':¬k=t:=fun h=>h1 h.symm
   by_cases h2:k∈ts<;>simp[h1,h1',h2]
theorem Jj{s:SV}{k g off:Nat}:s.ro= .lp k g off↔s= .lp k g off:=by
 cases s<;>simp[SV.ro]
def Gh.rel(G:Gh)(f:Ow->Ow):Gh:={G with Om:=fun b=>f (G.Om b)}
structure Rho (f : Ow → Ow) : Prop where
 fr:f .fr= .fr
 oth:f .oth= .oth
 box:∀p k g,f p= .box k g->p= .box k g
 obj:∀p k g,f p= .obj k g->p= .obj k g
theorem Fr.rel{G:Gh}{w:World}{f:Ow->Ow}(hf:Rho f):Fr G w (G.rel f) w:=
 ⟨zif _,fun _ _ _=>rfl,fun _=>zif _,fun _ _ _ h=>h,fun b _ ho=>⟨rfl,by
  simp only[Gh.rel]
  rcases ho with h|h<;>rw[h]
  ·exact hf.fr
  ·exact hf.oth,rfl⟩,ZP.refl w,fun _ _ h=>h⟩
def DOk(d:TypeDesc)(k:TK):Prop:=
 match k with
 | .sc=>∀x,(d matches .struct _| .array _ _| .slice _)=x->x=false
 | .ot=>∀x,(d matches .struct _| .array _ _| .slice _)=x->x=false
 | .tu=>True
 | .sl e=>d= .slice e
 | .mp q e=>d= .map q e
 | .ar n e=>d= .array n e
 | .st fs=>∃fields:Array Field,d= .struct fields/\fields.toList.map (fun f=>(f.offset,f.type))=fs
def TOk(P:Program)(t:TypeId)(ti:TI):Prop:=
 (qhh ti=true->P.underlying t=some (.int .u8))/\(qa8 ti=true->P.underlying t=some .string)/\
 ∃info d,P.info? t=some info/\P.underlying t=some d/\DOk d ti.k/\info.bytes=ti.bytes/\
  (Zb ti.k=false->info.size=ti.size/\∃z,info.zero=some z/\z.cells.toList=ti.zero/\ti.zero.length=ti.size/\∀v∈ti.zero,v.oneCell'=true)
structure Ok (c : Cx) : Prop where
 tt:∀t ti,c.tt t=some ti->TOk c.P t ti
 ti:∀t ti,c.tt t=some ti->qnk ti=true->∃k,c.P.underlying t=some (.int k)
 tb:∀t ti,c.tt t=some ti->qnl ti=true->c.P.underlying t=some .bool
 tp:∀t ti,c.tt t=some ti->zab ti=true->∃e,c.P.underlying t=some (.pointer e)
 zf:∀t ti,c.tt t=some ti->Zb ti.k=false->∀info z,c.P.info? t=some info->info.zero=some z->(yJ ti.k=true->∃vs,z= .agg vs)/\(yJ ti.k=false->z.oneCell'=true)
 F:∀f fn,c.F f=some fn->c.P.funcs[f]?=some fn
 nm:∀f fn,c.F f=some fn->(fn.name== "runtime.NumGoroutine")=false
 X:∀f fn vs v,c.F f=some fn->fn.body=none->c.X f vs=some v->∀w,(callFunc f vs.toArray).run c.P w= .ok (.value v) w
 mixed:c.P.follows .mixedOrders=true
theorem qp{c:Cx}{t:TypeId}{ti:TI}(h:c.tn t=some ti):c.tt t=some ti/\Zb ti.k=false:=by
 unfold Cx.tn at h
 split at h
 ·rename_i ti' h'
  cases hk:Zb ti'.k with
  |true=>simp[hk]at h
  |false=>simp[hk]at h;subst h;exact⟨h',hk⟩
 ·cases h
section
variable {P:Program}{t:TypeId}{ti:TI}{w:World}
theorem TOk.sizeOf(h:TOk P t ti)(hk:Zb ti.k=false)(w:World):(sizeOf t).run P w= .ok ti.size w:=by
 obtain⟨_,_,info,d,h1,h2,h3,h4,h5⟩:=h
 rw[run_sizeOf w h1]
 have:P.cellsOf t=ti.size:=by simp[Program.cellsOf,h1,(h5 hk).1]
 rw[this]
theorem TOk.zero(h:TOk P t ti)(hk:Zb ti.k=false):∃z,z.cells.toList=ti.zero/\ti.zero.length=ti.size/\(∀v∈ti.zero,v.oneCell'=true)/\∀w,(zeroValue t).run P w= .ok z w:=by
 obtain⟨_,_,info,d,h1,h2,h3,h4,h5⟩:=h
 obtain⟨h6,z,h7,h8,h9,h10⟩:=h5 hk
 exact⟨z,h8,h9,h10,fun w=>by simp[zeroValue,typeInfo,h1,h7]⟩
theorem TOk.isAgg(h:TOk P t ti)(hk:Zb ti.k=false)(w:World):(Go.isAgg t).run P w= .ok (yJ ti.k) w:=by
 obtain⟨_,_,info,d,h1,h2,h3,h4,h5⟩:=h
 unfold Go.isAgg
 simp only[Sem.run_bind,run_underlying h2,Result.andThen_ok]
 cases hti:ti.k with
 |sc=>
  rw[hti]at h3
  cases d<;>first|rfl|(have:=h3 _ rfl;cases this)
 |ot=>
  rw[hti]at h3
  cases d<;>first|rfl|(have:=h3 _ rfl;cases this)
 |tu=>rw[hti]at hk;cases hk
 |sl e=>rw[hti]at h3;cases h3;rfl
 |mp q e=>rw[hti]at h3;cases h3;rfl
 |ar n e=>rw[hti]at h3;cases h3;rfl
 |st fs=>rw[hti]at h3;obtain⟨fields,rfl,_⟩:=h3;rfl
theorem TOk.bytes(h:TOk P t ti):∃info,P.info? t=some info/\info.bytes=ti.bytes:=by
 obtain⟨_,_,info,d,h1,h2,h3,h4,h5⟩:=h
 exact⟨info,h1,h4⟩
theorem TOk.und(h:TOk P t ti):∃d,P.underlying t=some d/\DOk d ti.k:=by
 obtain⟨_,_,info,d,h1,h2,h3,h4,h5⟩:=h
 exact⟨d,h2,h3⟩
end
theorem RelR.one{G:Gh}{w:World}{x:AV}{v:Value}(h:RelR G w x v):v.oneCell'=true:=by
 cases h<;>first|rfl|assumption
theorem jx.one{G:Gh}{w:World}{p:Ow}{x:AV}{v:Value}(h:jx G w p x v):v.oneCell'=true:=by
 cases x with
 |us sz cs=>
  obtain⟨b,_,ht⟩:=h
  obtain⟨n,cap,arr,e,m,rfl,_⟩:=ht.ex
  rfl
 |agg _=>exact h.elim
 |tup _=>exact h.elim
 |sc _=>exact RelR.one h
 |sl _ _=>exact RelR.one h
 |ptr _ _ _=>exact RelR.one h
 |ms _ _ _ _ _=>exact RelR.one h
 |fn _ _=>exact RelR.one h
 |map _=>exact RelR.one h
 |ifc _ _=>exact RelR.one h
theorem YG{v:Value}(h:v.oneCell'=true):v.cells=#[v]:=by cases v<;>first|rfl|cases h
def XB(G:Gh)(w:World)(p:Nat->Ow)(l:List AV)(vs:List Value):Prop:=
 l.length=vs.length/\∀(i:Nat) (x:AV) (c:Value),l[i]?=some x->vs[i]?=some c->jx G w (p i) x c
theorem XB.ev{G G':Gh}{w w':World}(he:Ev G w G' w'){p q:Nat->Ow}(hk:∀i,zA G w G' w' (p i) (q i)){l:List AV}{vs:List Value}(h:XB G w p l vs):XB G' w' q l vs:=
 ⟨h.1,fun i x c hx hc=>(h.2 i x c hx hc).ev he (hk i)⟩
theorem XB.one{G:Gh}{w:World}{p:Nat->Ow}{l:List AV}{vs:List Value}(h:XB G w p l vs):∀v∈vs,v.oneCell'=true:=by
 intro v hv
 obtain⟨i,hi,rfl⟩:=zky hv
 have hl:i<l.length:=by rw[h.1];exact hi
 exact(h.2 i l[i] vs[i] (zic hl) (zic hi)).one
theorem zi.cells{G:Gh}{w:World}{p:Nat->Ow}{x:AV}{v:Value}{n:Nat}{l:List AV}(h:zi G w p x v)(hl:qk n x=some l):
 l.length=n/\XB G w p l v.cells.toList:=by
 rcases ZO x with⟨cs,rfl⟩|hx
 ·obtain⟨vs,rfl,h2,h3⟩:=h
  simp only[qk]at hl
  split at hl
  ·cases hl
   rename_i hn
   exact⟨hn,by simpa[Value.cells]using h2,fun i x c hx hc=>h3 i x c hx (by simpa[Value.cells]using hc)⟩
  ·cases hl
 ·rw[kr hx]at h
  have h1:qk n x=if n=1 then some [x]else none:=by
   cases x<;>first|rfl|exact absurd rfl (hx _)|exact h.elim
  rw[h1]at hl
  split at hl
  ·cases hl
   rename_i hn
   rw[YG h.one]
   refine⟨by simp[hn],qe,fun i x c hx hc=>?_⟩
   match i,hx,hc with
   |0,hx,hc=>simp at hx hc;subst hx;subst hc;exact h
   |i+1,hx,hc=>simp at hx
  ·cases hl
theorem qG.valC{G:Gh}{w:World}{k:Nat}{s:SV}{v:Value}{n:Nat}{l:List AV}(h:qG G w k s v)(hl:valC n s=some l):
 l.length=n/\XB G w (.sl k 0 ·) l v.cells.toList:=by
 cases s with
 |sv u=>
  obtain⟨rfl,h1⟩:=h
  simp only[AI.valC]at hl
  split at hl
  ·cases hl
   rename_i hn
   rw[YG h1]
   refine⟨by simp[hn],qe,fun i x c hx hc=>?_⟩
   match i,hx,hc with
   |0,hx,hc=>simp at hx hc;subst hx;subst hc;exact .sc _ h1
   |i+1,hx,hc=>simp at hx
  ·cases hl
 |av x=>exact zi.cells h hl
 |lp _ _ _=>cases hl
 |rv _=>cases hl
 |tp _=>cases hl
 |un=>cases hl
 |ud=>cases hl
end Go.Proofs.YtoliekekdmfngaaGreat.AI
