/- Texts that the proof of FuseMerges rests on, part 1. -/
import Derived.WalkKit
import Derived.KernelRfl
import Derived.Laws.CopyRow
namespace Go.Proofs.YtmajcennjgjlnaaGreat.AI
open Go
theorem bsm {A B : Type} {x : Option A} {f : A → Option B} {b : B} (h : x.bind f = some b) : ∃ a, x = some a ∧ f a = some b := Option.bind_eq_some_iff.mp h
theorem qe{p:Prop}(h:p:=by omega):p:=h
theorem qg{p:Prop}(h:p:=by simp):p:=h
theorem qh{p:Prop}(h:p:=by decide):p:=h
theorem qi{p:Prop}(h:p:=by simp;omega):p:=h
abbrev zm4:=@List.length_append
abbrev zm5:=@List.length_cons
abbrev zm6:=@List.getD_eq_getElem?_getD
abbrev zm7:=@Option.bind_some
abbrev zm8:=@Nat.le_refl
abbrev zm9:=@List.mem_cons
abbrev zna:=@Option.bind_assoc
abbrev znb:=@List.getElem?_eq_getElem
abbrev znc:=@Int.toNat_natCast
abbrev znd:=@List.pairwise_cons
abbrev zne:=@List.getElem?_eq_some_iff
abbrev znf:=@Nat.zero_add
abbrev zng:=@List.length_singleton
abbrev znh:=@List.mem_of_getElem?
abbrev zni:=@Nat.testBit_mod_two_pow
abbrev znj:=@List.getElem?_take
abbrev znk:=@List.length_eq_zero_iff
abbrev znl:=@List.take_succ_cons
abbrev znm:=@List.getElem_mem
abbrev znn:=@List.length_nil
abbrev zno:=@List.getElem?_map
abbrev znp:=@Nat.lt_of_lt_of_le
abbrev znq:=@List.append_assoc
abbrev znr:=@Nat.mul_le_mul_right
abbrev zns:=@List.append_nil
abbrev znt:=@BitVec.toNat_ofInt
abbrev znu:=@List.getElem?_append_right
abbrev znv:=@Option.some.inj
abbrev znw:=@Nat.zero_le
abbrev znx:=@List.getElem?_append_left
abbrev zny:=@List.nil_append
abbrev znz:=@Nat.mul_le_mul
abbrev zn0:=@List.drop_eq_getElem_cons
abbrev zn1:=@List.getElem?_eq_none
abbrev zn2:=@List.take_of_length_le
abbrev zn3:=@List.mem_map
abbrev zn4:=@Nat.testBit_or
abbrev zn5:=@Nat.testBit_div_two_pow
abbrev zn6:=@Nat.pow_le_pow_right
abbrev zn7:=@List.size_toArray
abbrev zn8:=@List.all_eq_true
abbrev zn9:=@List.length_take
abbrev zoa:=@List.map_cons
abbrev zob:=@Nat.mul_comm
abbrev zoc:=@List.drop_eq_nil_of_le
abbrev zod:=@Int.tdiv_eq_ediv_of_nonneg
abbrev zoe:=@List.mem_append
abbrev zof:=@Nat.mul_le_mul_left
abbrev zog:=@Nat.eq_of_testBit_eq
abbrev zoh:=@Nat.testBit_two_pow
abbrev zoi:=@Nat.le_trans
abbrev zoj:=@List.getElem?_drop
abbrev zok:=@Nat.div_mul_le_self
abbrev zol:=@Nat.mod_eq_of_lt
abbrev zom:=@Bool.false_eq_true
abbrev zon:=@Int.fdiv_eq_ediv_of_nonneg
abbrev zoo:=@Array.length_toList
abbrev zop:=@List.length_pos_iff
abbrev zoq:=@List.mem_of_mem_take
abbrev zor:=@Nat.lt_of_le_of_lt
abbrev zos:=@Int.toNat_of_nonneg
abbrev zot:=@Nat.add_zero
abbrev zou:=@Int.ofNat_eq_natCast
abbrev zov:=@Nat.add_assoc
abbrev zow:=@Bool.and_eq_true
abbrev zox:=@List.cons_append
abbrev zoy:=@Nat.mul_one
abbrev zoz:=@List.getElem?_cons_succ
abbrev zo0:=@Array.getElem?_append_left
abbrev zo1:=@Nat.pow_succ
abbrev zo2:=@BitVec.toNat_ofNat
abbrev zo3:=@BitVec.ofInt_natCast
abbrev zo4:=@List.length_drop
abbrev zo5:=@Nat.mul_assoc
abbrev zo6:=@List.eq_of_mem_replicate
abbrev zo7:=@List.drop_zero
abbrev zo8:=@List.length_map
abbrev zo9:=@Option.map_some
abbrev zpa:=@List.getElem?_cons_zero
abbrev zpb:=@List.pairwise_append
abbrev zpc:=@Nat.testBit_eq_decide_div_mod_eq
abbrev zpd:=@Nat.ne_of_lt
abbrev zpe:=@Nat.div_div_eq_div_mul
abbrev zpf:=@List.ext_getElem?
abbrev zpg:=@List.take_add_one
abbrev zph:=@List.replicate_succ
abbrev zpi:=@Nat.two_pow_pos
abbrev zpj:=@Nat.div_le_self
abbrev zpk:=@List.take_length
abbrev zpl:=@List.mem_cons_of_mem
abbrev zpm:=@List.replicate_succ'
abbrev zpn:=@Nat.div_le_div_right
abbrev zpo:=@Array.size_append
abbrev zpp:=@BitVec.toNat_or
abbrev zpq:=@Nat.two_pow_add_eq_or_of_lt
abbrev zpr:=@List.getElem_of_mem
abbrev zps:=@List.getElem?_range
abbrev zpt:=@List.drop_succ_cons
abbrev zpu:=@List.map_nil
abbrev zpv:=@Nat.add_mul
abbrev zpw:=@Nat.pow_add
abbrev zpx:=@Array.getElem?_eq_some_iff
abbrev zpy:=@Int.cast_ofNat_Int
abbrev zpz:=@List.mem_or_eq_of_mem_set
abbrev zp0:=@Nat.min_eq_left
abbrev zp1:=@Nat.and_two_pow_sub_one_eq_mod
abbrev zp2:=@BitVec.toNat_and
abbrev zp3:=@List.tail_cons
abbrev zp4:=@Nat.mod_lt
abbrev zp5:=@Nat.zero_mul
abbrev zp6:=@Nat.lt_or_ge
abbrev zp7:=@Nat.eq_zero_or_pos
abbrev zp8:=@List.mem_singleton
abbrev zp9:=@Nat.le_of_lt
abbrev zqa:=@Nat.le_div_iff_mul_le
abbrev zqb:=@Nat.add_eq
abbrev zqc:=@List.drop_left
abbrev zqd:=@Nat.div_eq_of_lt
abbrev zqe:=@Nat.le_mul_of_pos_right
abbrev zqf:=@List.mem_cons_self
abbrev zqg:=@Bool.or_eq_true
abbrev zqh:=@Int.natCast_nonneg
abbrev zqi:=@Option.map_eq_some_iff
abbrev zqj:=@Nat.testBit_lt_two_pow
abbrev zqk:=@List.getElem?_set
abbrev zql:=@List.getElem?_toArray
abbrev zqm:=@List.set_append_right
abbrev zqn:=@Nat.mul_lt_mul_of_pos_right
abbrev zqo:=@Nat.testBit_two_pow_mul_add
abbrev zqp:=@List.mem_of_mem_drop
abbrev zqq:=@Nat.lt_succ_self
abbrev zqr:=@Nat.pow_lt_pow_right
abbrev zqs:=@Nat.le_of_mul_le_mul_right
abbrev zqt:=@List.map_take
abbrev zqu:=@Bool.true_and
abbrev zqv:=@Nat.lt_of_mul_lt_mul_right
abbrev zqw:=@Array.getElem?_eq_getElem
abbrev zqx:=@Nat.testBit_and
abbrev zqy:=@Nat.add_comm
abbrev zqz:=@Nat.zero_div
abbrev zq0:=@List.mem_range
abbrev zq1:=@List.flatten_cons
abbrev zq2:=@List.take_sublist
abbrev zq3:=@Option.some.injEq
abbrev zq4:=@List.getElem?_set_self
abbrev zq5:=@Array.getElem?_eq_none
abbrev zq6:=@List.take_nil
abbrev zq7:=@List.not_mem_nil
abbrev zq8:=@Nat.and_le_right
abbrev zq9:=@List.drop_append
abbrev zra:=@List.append_cons
abbrev zrb:=@List.take_append_drop
abbrev zrc:=@List.length_replicate
abbrev zrd:=@List.map_map
abbrev zre:=@List.getElem?_set_ne
abbrev zrf:=@Array.eq_empty_of_size_eq_zero
abbrev zrg:=@Array.ext'
abbrev zrh:=@Int.natCast_add
abbrev zri:=@Int.natCast_one
abbrev zrj:=@Array.getElem?_push
abbrev zrk:=@List.map_congr_left
abbrev zrl:=@List.take_take
abbrev zrm:=@List.take_left
abbrev zrn:=@Nat.mul_pos
abbrev zro:=@Nat.mul_div_cancel
abbrev zrp:=@Nat.pos_of_ne_zero
abbrev zrq:=@List.sum_cons
abbrev zrr:=@Int.lt_trichotomy
abbrev zrs:=@Nat.or_lt_two_pow
abbrev zrt:=@Nat.sub_zero
abbrev zru:=@List.map_set
end Go.Proofs.YtmajcennjgjlnaaGreat.AI
namespace Go.Proofs.YtmajcennjgjlnaaGreat.AI
open Go
set_option linter.unusedVariables false
set_option linter.unusedSimpArgs false
set_option maxRecDepth 100000
set_option maxHeartbeats 0
inductive AV where
 |sc (v:Value)
 |sl (sz:Nat) (cs:List AV)
 |us (sz:Nat) (cs:List AV)
 |agg (cs:List AV)
 |tup (vs:List AV)
 |ptr (b g off:Nat)
 |ms (b g off len sz:Nat)
 |fn (f:FuncId) (cap:List AV)
 |map (b:Nat)
structure Hp where
 next:Nat
 get:Nat->Option (Nat×List AV)
def hp0:Hp:=⟨0,fun _=>none⟩
def Hp.rd(h:Hp)(b g:Nat):Option (List AV):=(h.get b).bind fun p=>if p.1=g/\g=0 then some p.2 else none
def Hp.rdM(h:Hp)(b:Nat):Option (List AV):=(h.get b).bind fun p=>if p.1=1 then some p.2 else none
def Hp.del(h:Hp)(b:Nat):Hp:=⟨h.next,fun x=>if x=b then none else h.get x⟩
def Hp.newM(h:Hp):Hp:=⟨h.next+1,fun x=>if x=h.next then some (1,[])else h.get x⟩
def Hp.put(h:Hp)(b g:Nat)(cs:List AV):Hp:=⟨h.next,fun x=>if x=b then some (g,cs)else h.get x⟩
def Hp.new(h:Hp)(cs:List AV):Hp:=⟨h.next+1,fun x=>if x=h.next then some (0,cs)else h.get x⟩
inductive SV where
 |sv (v:Value)
 |av (x:AV)
 |lp (k g off:Nat)
 |rv (cs:List AV)
 |tp (l:List AV)
 |un
 |ud
inductive TK where
 |sc|ot|tu
 |sl (e:TypeId)
 |mp (k e:TypeId)
 |ar (n:Nat) (e:TypeId)
 |st (fs:List (Nat×TypeId))
structure TI where
 k:TK
 size:Nat
 bytes:Nat
 zero:List Value
abbrev Boxes:=List (Nat×Nat×List AV)
abbrev Slots:=List (Nat×SV)
structure St where
 sl:Slots
 bx:Boxes
 hp:Hp
structure Cx where
 P:Program
 tt:TypeId->Option TI
 F:FuncId->Option Func
 X:FuncId->List Value->Option Value
 H:FuncId->Nat->Nat->Nat
 M:FuncId->Nat->Option (List Nat)
def zy{α:Type}(P:Program):Sem α->Option α
 | .pure a=>some a
 | .program k=>zy P (k P)
 | .mark _ k=>zy P k
 |_=>none
def ro1:AV->AV
 | .us s c=>.sl s c
 |x=>x
def ro:AV->AV
 | .us s c=>.sl s c
 | .agg cs=>.agg (cs.map ro1)
 |x=>x
def vl:AV->Bool
 | .sc _=>true
 | .sl _ _=>true
 | .us _ _=>true
 | .fn _ c=>c.isEmpty
 |_=>false
def vlF:AV->Bool
 | .agg cs=>cs.all vl
 |x=>vl x
def vlV:AV->Bool
 | .tup l=>l.all vlF
 |x=>vlF x
def SV.ro:SV->SV
 | .av x=>.av (AI.ro x)
 | .tp l=>.tp (l.map AI.ro)
 |s=>s
def Qt:AV->Option Value
 | .sc v=>some v
 |_=>none
def asB:Value->Option Bool
 | .bool b=>some b
 |_=>none
def Vb:Value->Option Int
 | .int _ n=>some n
 |_=>none
def qs(cs:List AV)(i:Nat):Option AV:=cs[i]?
def ql(cs:List AV)(i:Nat):Option Value:=(cs[i]?).bind Qt
def qp(cs:List AV)(i n:Nat):Option (List AV):=if i+n<=cs.length then some ((cs.drop i).take n)else none
def qo(cs:List AV)(i:Nat)(vs:List AV):Option (List AV):=
 if i+vs.length<=cs.length then some (cs.take i++vs++cs.drop (i+vs.length))else none
def qn(n:Nat):AV->Option (List AV)
 | .agg cs=>if cs.length=n then some cs else none
 | .tup _=>none
 |x=>if n=1 then some [x]else none
def qg7:TK->Bool
 | .sc=>true
 |_=>false
def xL:TK->Bool
 | .ar _ _=>true
 | .st _=>true
 |_=>false
def toA:SV->Option AV
 | .sv v=>some (.sc v)
 | .av x=>some x
 |_=>none
def yx(r:AV)(i:Nat):AV:=
 match r with
 | .tup vs=>vs.getD i (.tup [])
 |_=>.tup []
def wZ(n:Nat):AV->Option Unit
 | .tup vs=>if vs.length=n then some ()else none
 |_=>none
def nil0:Value:=.slice none 0 0
def Zm:Value->Bool
 | .slice none 0 0=>true
 |_=>false
def xU:AV->Option Nat
 | .sl s cs=>some (if s=1 then cs.length else cs.length/s)
 | .us s cs=>some (if s=1 then cs.length else cs.length/s)
 | .ms _ _ _ n _=>some n
 | .sc v=>if Zm v then some 0 else none
 |_=>none
def idx(n:Nat)(v:Value):Option Nat:=(Vb v).bind fun i=>if 0<=i/\i<(n:Int)then some i.toNat else none
def jE(sz:Nat)(x:AV)(v:Value):Option (List AV):=
 match x with
 | .sl s cs=>if s=sz then(idx (if s=1 then cs.length else cs.length/s) v).bind fun i=>qp cs (i*sz) sz else none
 | .us s cs=>if s=sz then(idx (if s=1 then cs.length else cs.length/s) v).bind fun i=>qp cs (i*sz) sz else none
 |_=>none
def zp(lo hi:Int)(v:Option Value)(dflt:Nat):Option Nat:=
 match v with
 |none=>some dflt
 |some v=>(Vb v).bind fun i=>if lo<=i/\i<=hi then some i.toNat else none
def jZ(sz:Nat)(x:AV)(lo hi mx:Option Value):Option AV:=
 match x with
 | .sl s cs=>if s=sz then
  let n:=if s=1 then cs.length else cs.length/s
  (zp 0 n mx n).bind fun m=>(zp 0 m hi n).bind fun h=>(zp 0 h lo 0).bind fun l=>some (.sl s ((cs.drop (l*s)).take ((h-l)*s)))
  else none
 | .us s cs=>if s=sz then
  let n:=if s=1 then cs.length else cs.length/s
  (zp 0 n mx n).bind fun m=>(zp 0 m hi n).bind fun h=>(zp 0 h lo 0).bind fun l=>some (.sl s ((cs.drop (l*s)).take ((h-l)*s)))
  else none
 | .sc v=>if Zm v then
  (zp 0 0 mx 0).bind fun m=>(zp 0 m hi 0).bind fun h=>(zp 0 h lo 0).bind fun _=>some (.sc nil0)
  else none
 |_=>none
def yO(sz:Nat):AV->Option (List AV)
 | .sl s cs=>if s=sz then some cs else none
 | .us s cs=>if s=sz then some cs else none
 | .sc v=>match v with
  | .slice none 0 0=>some []
  |_=>none
 |_=>none
def xM(bytes sz n:Nat):Bool:=decide (n*bytes<=140737488355328*sz)&&decide (0<bytes)
def zU(sz:Nat)(cs:List AV):Nat:=if sz=1 then cs.length else cs.length/sz
def qdb:Value->Value->Option Bool
 | .int j a,.int k b=>if j=k then some (a==b)else none
 | .string a,.string b=>some (a==b)
 | .bool a,.bool b=>some (a==b)
 |_,_=>none
def qkk(k:Value):List AV->Option (Option AV)
 |[]=>some none
 | .tup [.sc q,x]::r=>(qdb k q).bind fun t=>cond t (some (some x)) (qkk k r)
 |_=>none
def qtc(k:Value)(v:AV):List AV->Option (List AV)
 |[]=>some [.tup [.sc k,v]]
 | .tup [.sc q,x]::r=>(qdb k q).bind fun t=>cond t (some (.tup [.sc q,v]::r)) ((qtc k v r).map fun l=>.tup [.sc q,x]::l)
 |_=>none
def qk7(bytes sz:Nat)(d:AV)(ys:List AV):Option AV:=
 match ys with
  |[]=>match d with
   | .us z cs=>if z=sz then some (.us z cs)else none
   | .sc v=>if Zm v then some (.sc nil0)else none
   |_=>none
  |ys=>match d with
   | .us z cs=>if z=sz&&xM bytes sz (cs.length+ys.length)then some (.us z (cs++ys.map ro1))else none
   | .sc v=>if Zm v&&xM bytes sz ys.length then some (.us sz (ys.map ro1))else none
   |_=>none
def jn(bytes sz:Nat)(d s:AV):Option AV:=(yO sz s).bind fun ys=>qk7 bytes sz d ys
def zI:List AV->Option (List UInt8)
 |[]=>some []
 | .sc (.int .u8 n)::r=>(zI r).map fun l=>UInt8.ofNat n.toNat::l
 |_=>none
def wQ:List AV->Option (List Value)
 |[]=>some []
 | .sc v::r=>(wQ r).map fun l=>v::l
 |_=>none
def xP:AV->Option Value
 | .sc v=>some v
 | .agg cs=>(wQ cs).map fun l=>.agg l.toArray
 |_=>none
def qdi:SV->Option Value
 | .sv v=>some v
 | .av x=>xP x
 |_=>none
def qZ:AV->Option (Nat×Nat×Nat)
 | .ptr b g o=>some (b,g,o)
 |_=>none
def Xi:AV->Option (FuncId×List AV)
 | .fn f c=>match Nat.blt f 4294967296 with
  |true=>some (f,c)
  |false=>none
 |_=>none
def WQ:AV->Option (FuncId×List AV)
 | .fn f (b::c)=>match Nat.blt f 4294967296 with
  |true=>none
  |false=>some (f-4294967296,b::c)
 |_=>none
def one(o:Option Value):Option Value:=o.bind fun z=>if z.oneCell'=true then some z else none
def qx(P:Program)(op:BinOp)(t:TypeId)(x y:Operand)(a b:Value):Option Value:=
 one (zy P (do eqGuard op t x y a b;Go.binOp op t a b))
def unV(P:Program)(op:UnOp)(a:Value):Option Value:=one (zy P (Op.unary op a))
def Kh(P:Program)(s d:TypeId)(a:Value):Option Value:=one (zy P (convert s d a))
def ixV(P:Program)(t:TypeId)(a i:Value):Option Value:=one (zy P (Instr.index t a i))
def scV(P:Program)(t:TypeId)(a:Value)(lo hi mx:Option Value):Option Value:=one (zy P (Instr.slice t a lo hi mx))
def xZ(P:Program)(b:Builtin)(ts:Array TypeId)(t:TypeId)(as_:List Value):Option Value:=
 match b with
 | .min=>one (zy P (Builtin.min_ ts t as_.toArray))
 | .max=>one (zy P (Builtin.max_ ts t as_.toArray))
 | .len=>one (zy P (Builtin.len_ ts t as_.toArray))
 |_=>none
def zfq:AV->Option Bool
 | .sl _ _=>some false
 | .us _ _=>some false
 | .ms _ _ _ _ _=>some false
 | .sc (.slice none _ _)=>some true
 |_=>none
def YW:AV->Option Bool
 | .ptr _ _ _=>some false
 | .sc (.pointer none)=>some true
 |_=>none
def qok:Value->Bool
 | .pointer none=>true
 |_=>false
def qS(l:Slots)(k:Nat):SV:=
 match l with
 |[]=>.un
 |(j,s)::r=>match Nat.beq j k with|true=>s|false=>qS r k
def QQ(l:Slots)(d:Option Tmp)(s:SV):Slots:=
 match d with
 |some k=>(k,s)::l
 |none=>l
def jz(b:Boxes)(k:Nat):Option (Nat×List AV):=
 match b with
 |[]=>none
 |(j,g,cs)::r=>match Nat.beq j k with|true=>some (g,cs)|false=>jz r k
def VQ(b:Boxes)(k g:Nat)(cs:List AV):Boxes:=(k,g,cs)::b
def jg(l:Slots):Operand->SV
 | .tmp t=>qS l t
 | .const v=>match v with
  | .agg cs=>if cs.toList.all (·.oneCell')=true then .av (.agg (cs.toList.map .sc))else .un
  | .tuple _=>.un
  |v=>.sv v
 | .global _=>.un
 | .func f=>.av (.fn f [])
def nrm(k:TK):SV->SV
 | .sv v=>if qg7 k then .sv v else .av (.sc v)
 |s=>s
def jq(l:List Value):List AV:=l.map .sc
def JH:TK->Bool
 | .tu=>true
 |_=>false
def Cx.tn(c:Cx)(t:TypeId):Option TI:=
 match c.tt t with
 |some ti=>if JH ti.k then none else some ti
 |none=>none
def ZS(p:Prop)[Decidable p]:Option Unit:=if p then some ()else none
def jv(a b:Nat):Option Unit:=ZS (a=b)
def qo1(b:Bool):Option Unit:=ZS (b=true)
def yC(cs:List AV):Option Unit:=ZS (cs.all vl=true)
abbrev Orc:=FuncId->List AV->Hp->Option (AV×Hp)
abbrev BE:=Option (Nat×Nat×List AV)
abbrev Kt(R:Type):=SV->BE->Hp->Option R
def qoj(ti:TI):Bool:=
 match ti.k,ti.zero with
 | .sc,[.int .u8 _]=>true
 |_,_=>false
def qdc(ti:TI):Bool:=
 match ti.k,ti.zero with
 | .sc,[.string _]=>true
 |_,_=>false
def zf1(ti:TI):Bool:=
 match ti.k,ti.zero with
 | .ot,[.pointer none]=>true
 |_,_=>false
def zch:AV->Option (List AV)
 | .agg cs=>some cs
 |_=>none
def qav:SV->Option (List AV)
 | .av x=>zch x
 |_=>none
def WW:AV->Bool
 | .agg _=>false
 | .tup _=>false
 |_=>true
def zhr(xs:List AV):Option Unit:=qo1 (xs.all WW)
def zca:Value->Option ByteArray
 | .string s=>some s
 |_=>none
def vh:SV->Option Value
 | .sv v=>some v
 |_=>none
def ZE:AV->Option Unit
 | .ptr _ _ _=>some ()
 | .fn _ _=>some ()
 |_=>none
def qY:AV->Option (Nat×Nat×Nat×Nat×Nat)
 | .ms b g o n z=>some (b,g,o,n,z)
 |_=>none
def valC(n:Nat):SV->Option (List AV)
 | .sv v=>if n=1 then some [.sc v]else none
 | .av x=>qn n x
 |_=>none
def opV(ev:Operand->SV):Option Operand->Option (Option Value)
 |none=>some none
 |some o=>(vh (ev o)).bind fun v=>some (some v)
def VI:List SV->Option (List AV)
 |[]=>some []
 |s::r=>(toA s).bind fun x=>(VI r).bind fun l=>some (x::l)
def qfz:List SV->Option (List Value)
 |[]=>some []
 |s::r=>(vh s).bind fun x=>(qfz r).bind fun l=>some (x::l)
def Wu(c:Cx)(fs:List (Nat×TypeId))(i:Nat):Option (Nat×Nat):=
 match fs[i]? with
 |some p=>match c.tn p.2 with
  |some fi=>some (p.1,fi.size)
  |none=>none
 |none=>none
def xD{R:Type}(wF:Nat->Option (Nat×Nat))(ev:Operand->SV)(K:List AV->Option R):List (Nat×Operand)->List AV->Option R
 |[],cs=>K cs
 |(i,x)::r,cs=>
  match wF i with
  |none=>none
  |some (off,n)=>(valC n (ev x)).bind fun vs=>(qo cs off vs).bind fun cs'=>xD wF ev K r cs'
def ym{R:Type}(ti:TI)(h:Nat)(cs:List AV)(off:Nat)(K:SV->List AV->Option R):Option R:=
 if qg7 ti.k then(ql cs off).bind fun v=>K (.sv v) cs
 else if xL ti.k then(qp cs off ti.size).bind fun l=>
  if h=1 then(qo cs off (l.map ro1)).bind fun cs'=>K (.av (.agg l)) cs' else K (.av (.agg (l.map ro1))) cs
 else(qs cs off).bind fun x=>if h=1 then K (.av x) (cs.set off (ro1 x))else K (.av (ro1 x)) cs
def Zl:AV->Option Unit
 | .tup _=>none
 |_=>some ()
def qbl{R:Type}(ti:TI)(r:AV)(K:SV->Option R):Option R:=
 match ti.k with
 | .sc=>(Qt r).bind fun v=>K (.sv v)
 | .tu=>(wZ ti.size r).bind fun _=>K (.tp ((List.range ti.size).map (yx r)))
 |_=>(Zl r).bind fun _=>K (.av r)
def jJ{R:Type}(h:Nat)(ti:TI)(a:SV)(gb:Nat->Option (Nat×List AV))(hp:Hp)(K:Kt R):Option R:=
 match a with
 | .lp k g off=>match gb k with
  |some (g',cs)=>if g=g' then ym ti h cs off fun s cs'=>K s (if h=1 then some (k,g,cs')else none) hp else none
  |none=>none
 | .rv cs=>if h=1 then none else ym ti h cs 0 fun s _=>K s none hp
 | .av x=>(qZ x).bind fun p=>(hp.rd p.1 p.2.1).bind fun cs=>ym ti h cs p.2.2 fun s cs'=>K s none (if h=1 then hp.put p.1 p.2.1 cs' else hp)
 |_=>none
def kr{R:Type}(ti:TI)(a x:SV)(gb:Nat->Option (Nat×List AV))(hp:Hp)(K:Kt R):Option R:=
 (valC ti.size x).bind fun vs=>
 match a with
 | .lp k g off=>match gb k with
  |some (g',cs)=>if g=g' then(qo cs off vs).bind fun cs'=>K .un (some (k,g,cs')) hp else none
  |none=>none
 | .av x=>(qZ x).bind fun p=>(hp.rd p.1 p.2.1).bind fun cs=>(qo cs p.2.2 vs).bind fun cs'=>K .un none (hp.put p.1 p.2.1 cs')
 |_=>none
def xd{R:Type}(c:Cx)(ti:TI)(a:SV)(f:Nat)(K:SV->Option R):Option R:=
 match ti.k with
 | .st fs=>match fs[f]? with
  |some (fo,ft)=>match c.tn ft with
   |some fi=>if fi.size=0 then none else
    match a with
    | .lp k g off=>K (.lp k g (off+fo))
    | .rv cs=>K (.rv (cs.drop fo))
    | .av x=>(qZ x).bind fun p=>K (.av (.ptr p.1 p.2.1 (p.2.2+fo)))
    |_=>none
   |none=>none
  |none=>none
 |_=>none
def xa{R:Type}(c:Cx)(h:Nat)(ti:TI)(a i:SV)(K:SV->Option R):Option R:=
 match i with
 | .sv iv=>match ti.k with
  | .sl e=>match c.tn e with
   |some ei=>match a with
    | .av x=>
     if h=2 then(qY x).bind fun p=>(idx p.2.2.2.1 iv).bind fun j=>(jv p.2.2.2.2 ei.size).bind fun _=>K (.av (.ptr p.1 p.2.1 (p.2.2.1+j*ei.size)))
     else(jE ei.size x iv).bind fun cs=>K (.rv cs)
    |_=>none
   |none=>none
  | .ar n e=>match c.tn e with
   |some ei=>match a with
    | .lp k g off=>(idx n iv).bind fun j=>K (.lp k g (off+j*ei.size))
    | .rv cs=>(idx n iv).bind fun j=>K (.rv (cs.drop (j*ei.size)))
    | .av x=>(qZ x).bind fun p=>(idx n iv).bind fun j=>K (.av (.ptr p.1 p.2.1 (p.2.2+j*ei.size)))
    |_=>none
   |none=>none
  |_=>none
 |_=>none
def JX{R:Type}(c:Cx)(h:Nat)(ti:TI)(t:TypeId)(a:SV)(lo hi mx:Option Value)(K:SV->Option R):Option R:=
 match ti.k with
 | .sl e=>match c.tn e with
  |some ei=>match a with
   | .av x=>
    if h=2 then(qY x).bind fun p=>(zp 0 p.2.2.2.1 mx p.2.2.2.1).bind fun m=>(zp 0 m hi p.2.2.2.1).bind fun hh=>(zp 0 hh lo 0).bind fun l=>
     (jv p.2.2.2.2 ei.size).bind fun _=>K (.av (.ms p.1 p.2.1 (p.2.2.1+l*ei.size) (hh-l) ei.size))
    else(jZ ei.size x lo hi mx).bind fun z=>K (.av z)
   |_=>none
  |none=>none
 | .sc=>match a with
  | .sv v=>(scV c.P t v lo hi mx).bind fun z=>K (.sv z)
  |_=>none
 |_=>none
def qab{R:Type}(c:Cx)(s d:TypeId)(si di:TI)(a:SV)(K:SV->Option R):Option R:=
 match di.k with
 | .sl e=>match c.tn e with
  |some ei=>if qoj ei=true then(vh a).bind fun v=>(zca v).bind fun b=>K (.av (.sl 1 (b.data.toList.map fun x=>.sc (.int .u8 x.toNat))))else none
  |none=>none
 |_=>match si.k with
  | .sl e=>match c.tn e with
   |some ei=>if(qoj ei&&qdc di)=true then(toA a).bind fun x=>(yO 1 x).bind fun cs=>(zI cs).bind fun l=>K (.sv (.string ⟨l.toArray⟩))else none
   |none=>none
  |_=>(vh a).bind fun v=>(Kh c.P s d v).bind fun z=>K (.sv z)
def qo7{R:Type}(c:Cx)(op:BinOp)(t:TypeId)(x y:Operand)(a b:SV)(K:SV->Option R):Option R:=
 match a,b with
 | .sv v,.sv w=>(qx c.P op t x y v w).bind fun z=>K (.sv z)
 | .av v,.sv w=>if Zm w then
  match c.tn t with
  |some ti=>match ti.k with
   | .sl _=>(zfq v).bind fun n=>(match op with| .eql=>K (.sv (.bool n))| .neq=>K (.sv (.bool !n))|_=>none)
   |_=>none
  |none=>none
  else if qok w then
  match c.tn t with
  |some ti=>if zf1 ti=true then(YW v).bind fun n=>(match op with| .eql=>K (.sv (.bool n))| .neq=>K (.sv (.bool !n))|_=>none)else none
  |none=>none
  else(xP v).bind fun v'=>(qx c.P op t x y v' w).bind fun z=>K (.sv z)
 | .av v,.av w=>(xP v).bind fun v'=>(xP w).bind fun w'=>(qx c.P op t x y v' w').bind fun z=>K (.sv z)
 |_,_=>none
def selV(t:Bool)(x y:Value):Value:=
 match t with
 |true=>x
 |false=>y
def Ww{R:Type}(c a b:SV)(K:SV->Option R):Option R:=
 (vh c).bind fun v=>(asB v).bind fun t=>
  match a,b with
  | .sv x,.sv y=>K (.sv (selV t x y))
  |s,r=>cond t (K s.ro) (K r.ro)
def Kb:AV->Option Nat
 | .map b=>some b
 |_=>none
def Xq(sz:Nat)(n:Nat)(cs:List AV):Nat×List AV:=(min (zU sz cs) n,cs.take (min (zU sz cs) n*sz))
def JE(hp:Hp)(sz:Nat)(x:AV):Option (List AV):=
 match qY x with
 |some p=>(ZS (p.2.2.2.2=sz/\0<sz)).bind fun _=>(hp.rd p.1 p.2.1).bind fun cs=>(qp cs p.2.2.1 (p.2.2.2.1*sz)).bind fun l=>some (l.map ro1)
 |none=>yO sz x
def jP(bytes sz:Nat)(d s:AV)(hp:Hp):Option (AV×Hp):=
 (JE hp sz s).bind fun ys=>match ys with
 |[]=>(qk7 bytes sz d []).bind fun y=>some (y,hp)
 |y::ys=>match d with
  | .us z []=>(ZS (z=sz/\xM bytes sz (y::ys).length=true)).bind fun _=>some (.ms hp.next 0 0 (zU sz (y::ys)) sz,hp.new (y::ys))
  | .us z (q::cs)=>(yC (y::ys)).bind fun _=>(qk7 bytes sz (.us z (q::cs)) (y::ys)).bind fun r=>some (r,hp)
  | .sc v=>(ZS (Zm v=true/\xM bytes sz (y::ys).length=true)).bind fun _=>some (.ms hp.next 0 0 (zU sz (y::ys)) sz,hp.new (y::ys))
  | .ms b g off n z=>(ZS (z=sz/\off=0/\0<n)).bind fun _=>(hp.rd b g).bind fun cs=>
   (ZS (n*sz<=cs.length/\xM bytes sz (n*sz+(y::ys).length)=true)).bind fun _=>some (.ms hp.next 0 0 (n+zU sz (y::ys)) sz,(hp.del b).new ((cs.take (n*sz)).map ro1++(y::ys)))
  |_=>none
def qbt{R:Type}(c:Cx)(h:Nat)(o:Oper)(b:Builtin)(ts:List TypeId)(as_:List SV)(hp:Hp)(K:SV->Hp->Option R):Option R:=
 match b,ts,as_ with
 | .len,[t],[.av x]=>match c.tn t with
  |some ti=>match ti.k with
   | .sl _=>(xU x).bind fun n=>K (.sv (.int .i64 n)) hp
   | .mp _ _=>(ZS (h=2)).bind fun _=>(Kb x).bind fun b=>(hp.rdM b).bind fun es=>K (.sv (.int .i64 es.length)) hp
   |_=>none
  |none=>none
 | .append,[t,t'],[d,s]=>if t'≠t then none else match c.tn t with
  |some ti=>match ti.k with
   | .sl e=>match c.tn e with
    |some ei=>(toA d).bind fun d'=>(toA s).bind fun s'=>if h=2 then(jP ei.bytes ei.size d' s' hp).bind fun q=>K (.av q.1) q.2 else(jn ei.bytes ei.size d' s').bind fun y=>K (.av y) hp
    |none=>none
   |_=>none
  |none=>none
 | .copy,[t,_],[.av d,.av s]=>match c.tn t with
  |some ti=>match ti.k with
   | .sl e=>match c.tn e with
    |some ei=>(ZS (h=2/\0<ei.size)).bind fun _=>(qY d).bind fun p=>(jv p.2.2.2.2 ei.size).bind fun _=>(JE hp ei.size s).bind fun ys=>(hp.rd p.1 p.2.1).bind fun cs=>
     (qo cs p.2.2.1 (Xq ei.size p.2.2.2.1 ys).2).bind fun cs'=>K (.sv (.int .i64 ((Xq ei.size p.2.2.2.1 ys).1:Nat))) (hp.put p.1 p.2.1 cs')
    |none=>none
   |_=>none
  |none=>none
 |b,ts,as_=>(qfz as_).bind fun vs=>(xZ c.P b ts.toArray o.type vs).bind fun z=>K (.sv z) hp
def tN(n:Int):Nat:=n.toNat
def yY(bytes size:Nat)(n n':Int):Option Unit:=ZS (n=n'/\0<=n/\xM bytes 1 n.toNat=true/\0<size)
def xQ(n:Int)(z:List Value):List AV:=(List.replicate n.toNat (jq z)).flatten
def wX(hp:Hp)(x:AV):Option (AV×Hp):=
 match x with
 | .ms b g off n z=>(ZS (0<z)).bind fun _=>(hp.rd b g).bind fun cs=>(qp cs off (n*z)).bind fun l=>(ZS (l.all vl=true)).bind fun _=>some (.sl z (l.map ro1),hp.del b)
 |x=>some (x,hp)
def JK(hp:Hp):List AV->Option (List AV×Hp)
 |[]=>some ([],hp)
 |x::r=>(wX hp x).bind fun p=>(JK p.2 r).bind fun q=>some (p.1::q.1,q.2)
def qos(k:TK)(hp:Hp)(s:SV):Option (SV×Hp):=
 match s with
 | .av x=>if xL k then(qav (.av x)).bind fun cs=>(JK hp cs).bind fun q=>some (.av (.agg q.1),q.2)else(wX hp x).bind fun q=>some (.av q.1,q.2)
 |s=>some (s,hp)
def que{R:Type}(k:TK)(hp:Hp)(s:SV)(K:SV->Hp->Option R):Option R:=
 match s with
 | .av x=>if xL k then(qav (.av x)).bind fun cs=>(JK hp cs).bind fun q=>K (.av (.agg q.1)) q.2 else(wX hp x).bind fun q=>K (.av q.1) q.2
 |s=>K s hp
def orA(f:Option AV)(x:AV):AV:=f.getD x
def isS(f:Option AV):Bool:=f.isSome
def qqy(ti:TI):Bool:=
 match ti.k,ti.zero with
 | .sc,[.int _ _]=>true
 |_,_=>false
def qqz(ti:TI):Bool:=
 match ti.k,ti.zero with
 | .sc,[.bool _]=>true
 |_,_=>false
def zf0(ti:TI):Value->Bool
 | .int _ _=>qqy ti
 | .string _=>qdc ti
 | .bool _=>qqz ti
 |_=>false
def VD(ti:TI):AV:=if xL ti.k then .agg (jq ti.zero)else(jq ti.zero).headD (.agg [])
def mapV:SV->Option AV
 | .sv v=>some (.sc v)
 | .av x=>some (ro x)
 |_=>none
def ofA(k:TK)(x:AV):Option SV:=if qg7 k then(Qt x).bind fun v=>some (.sv v)else some (.av x)
def qqs(ok:Bool)(ei:TI)(f:Option AV):Option SV:=
 match ok with
 |true=>some (.tp [orA f (VD ei),.sc (.bool (isS f))])
 |false=>ofA ei.k (orA f (VD ei))
def ofAK{R:Type}(k:TK)(x:AV)(K:SV->Option R):Option R:=if qg7 k then(Qt x).bind fun v=>K (.sv v)else K (.av x)
def qoe{R:Type}(ok:Bool)(ei:TI)(f:Option AV)(K:SV->Option R):Option R:=
 match ok with
 |true=>K (.tp [orA f (VD ei),.sc (.bool (isS f))])
 |false=>ofAK ei.k (orA f (VD ei)) K
def kY{R:Type}(c:Cx)(t:TypeId)(x i:SV)(ok:Bool)(hp:Hp)(K:SV->Option R):Option R:=
 match c.tn t with
 |some ti=>match ti.k with
  | .mp kt et=>match c.tn kt,c.tn et with
   |some ki,some ei=>(toA x).bind fun x'=>(Kb x').bind fun b=>(hp.rdM b).bind fun es=>(vh i).bind fun k=>(qo1 (zf0 ki k)).bind fun _=>(qkk k es).bind fun f=>qoe ok ei f K
   |_,_=>none
  |_=>none
 |none=>none
def Jq{R:Type}(c:Cx)(t:TypeId)(m k x:SV)(hp:Hp)(K:Hp->Option R):Option R:=
 match c.tn t with
 |some ti=>match ti.k with
  | .mp kt et=>match c.tn kt,c.tn et with
   |some ki,some ei=>(toA m).bind fun m'=>(Kb m').bind fun b=>(hp.rdM b).bind fun es=>(vh k).bind fun kv=>(qo1 (zf0 ki kv)).bind fun _=>(mapV x).bind fun v=>
    (qtc kv v es).bind fun es'=>K (hp.put b 1 es')
   |_,_=>none
  |_=>none
 |none=>none
def yZ(xs caps:List AV):Option Unit:=ZS (xs.all vlF=true/\caps.all vl=true)
def wG(y:AV):Option Unit:=ZS (vlV y=true)
def jY{R:Type}(c:Cx)(C:Orc)(h:Nat)(ti:TI)(f:FuncId)(caps:List AV)(as_:List SV)(hp:Hp)(K:Kt R):Option R:=
 (VI as_).bind fun xs=>
 if h=2 then(C f ((xs.map ro)++caps) hp).bind fun p=>qbl ti p.1 fun s=>K s none p.2
 else if h=4 then(C f (caps++(xs.map ro)) hp).bind fun p=>qbl ti p.1 fun s=>K s none p.2
 else(yZ xs caps).bind fun _=>(C f ((xs.map ro)++caps) hp0).bind fun p=>(wG p.1).bind fun _=>qbl ti p.1 fun s=>K s none hp
def qv{R:Type}(c:Cx)(C:Orc)(h:Nat)(o:Oper)(ev:Operand->SV)(gb:Nat->Option (Nat×List AV))(hp:Hp)(K:Kt R):Option R:=
 match o.op with
 | .move x=>match c.tt o.type with
  |some ti=>if h=3 then que ti.k hp (nrm ti.k (ev x).ro) fun s q=>K s none q else K (if h=1 then nrm ti.k (ev x)else nrm ti.k (ev x).ro) none hp
  |none=>none
 | .assign x=>match c.tt o.type with
  |some ti=>if h=3 then que ti.k hp (nrm ti.k (ev x)) fun s q=>K s none q else K (nrm ti.k (ev x)) none hp
  |none=>none
 | .pick a x y=>Ww (ev a) (ev x) (ev y) fun s=>K s none hp
 | .alloc t=>match c.tn t with
  |some ti=>if h=2 then K (.av (.ptr hp.next 0 0)) none (hp.new (jq ti.zero))else
   match o.dst with
   |some d=>let g:=match gb d with|some (g,_)=>g+1|none=>0
    K (.lp d g 0) (some (d,g,jq ti.zero)) hp
   |none=>none
  |none=>none
 | .box t x=>match c.tn t with
  |some ti=>(valC ti.size (ev x)).bind fun vs=>if h=2 then K (.av (.ptr hp.next 0 0)) none (hp.new (vs.map ro1))else
   match o.dst with
   |some d=>let g:=match gb d with|some (g,_)=>g+1|none=>0
    K (.lp d g 0) (some (d,g,vs.map ro1)) hp
   |none=>none
  |none=>none
 | .build t ps=>match c.tn t with
  |some ti=>match ti.k with
   | .st fs=>if fs.all (fun p=>(c.tn p.2).isSome)=true then xD (Wu c fs) ev (fun cs=>K (.av (.agg (cs.map ro1))) none hp) ps.toList (jq ti.zero)else none
   | .ar _ e=>match c.tn e with
    |some ei=>xD (fun i=>some (i*ei.size,ei.size)) ev (fun cs=>K (.av (.agg (cs.map ro1))) none hp) ps.toList (jq ti.zero)
    |none=>none
   |_=>none
  |none=>none
 | .buildSlice t n ps=>match c.tn t with
  |some ti=>match ti.k with
   | .sl e=>match c.tn e with
    |some ei=>if n*ei.size<=4096/\0<ei.size then
     xD (fun i=>some (i*ei.size,ei.size)) ev (fun cs=>(yC cs).bind fun _=>K (.av (.us ei.size (cs.map ro1))) none hp) ps.toList (List.replicate n (jq ei.zero)).flatten
     else none
    |none=>none
   |_=>none
  |none=>none
 | .load t a=>match c.tn t with
  |some ti=>if h=3 then jJ 0 ti (ev a) gb hp fun s b q=>que ti.k q s fun s' q'=>K s' b q' else jJ h ti (ev a) gb hp K
  |none=>none
 | .store t a x=>match c.tn t with
  |some ti=>kr ti (ev a) (ev x) gb hp K
  |none=>none
 | .nilCheck x=>match ev x with
  | .lp k g off=>K (.lp k g off) none hp
  | .av y=>(ZE y).bind fun _=>K (.av y) none hp
  |_=>none
 | .binOp op t x y _=>qo7 c op t x y (ev x) (ev y) fun s=>K s none hp
 | .unOp op _ x=>(vh (ev x)).bind fun v=>(unV c.P op v).bind fun z=>K (.sv z) none hp
 | .convert s d x=>match c.tn s,c.tn d with
  |some si,some di=>qab c s d si di (ev x) fun s=>K s none hp
  |_,_=>none
 | .makeFunc (.func f) fs cs=>if fs.toList.isEmpty=true then(VI (cs.toList.map ev)).bind fun xs=>if xs.all WW=true then(qo1 (Nat.blt f 4294967296)).bind fun _=>K (.av (.fn f (xs.map ro1))) none hp else none
  else if cs.toList.isEmpty=true then(VI (fs.toList.map ev)).bind fun xs=>(zhr xs).bind fun _=>K (.av (.fn (4294967296+f) (xs.map ro1))) none hp else none
 | .makeSlice t l m=>match c.tn t with
  |some ti=>match ti.k with
   | .sl e=>match c.tn e with
    |some ei=>(vh (ev l)).bind fun lv=>(vh (ev m)).bind fun mv=>(Vb lv).bind fun n=>(Vb mv).bind fun n'=>
     (yY ei.bytes ei.size n n').bind fun _=>
      (if h=2 then K (.av (.ms hp.next 0 0 (tN n) ei.size)) none (hp.new (xQ n ei.zero))
       else K (.av (.us ei.size (xQ n ei.zero))) none hp)
    |none=>none
   |_=>none
  |none=>none
 | .slice t x lo hi mx=>match c.tn t with
  |some ti=>if mx.isSome&&!hi.isSome then none else(opV ev lo).bind fun l=>(opV ev hi).bind fun u=>(opV ev mx).bind fun m=>JX c h ti t (ev x) l u m fun s=>K s none hp
  |none=>none
 | .fieldAddr t x f=>match c.tn t with
  |some ti=>xd c ti (ev x) f fun s=>K s none hp
  |none=>none
 | .field t x f=>match c.tn t with
  |some ti=>match ti.k with
   | .st fs=>match fs[f]? with
    |some (fo,ft)=>match c.tn ft with
     |some fi=>(qav (ev x)).bind fun cs=>ym fi 0 cs fo fun s _=>K s none hp
     |none=>none
    |none=>none
   |_=>none
  |none=>none
 | .indexAddr t x i=>match c.tn t with
  |some ti=>xa c h ti (ev x) (ev i) fun s=>K s none hp
  |none=>none
 | .index t x i=>match c.tt o.type with
  |some ti=>if qg7 ti.k then(qdi (ev x)).bind fun a=>(vh (ev i)).bind fun iv=>(ixV c.P t a iv).bind fun z=>K (.sv z) none hp else
   match c.tn t with
   |some xi=>match xi.k with
    | .ar n e=>match c.tn e with
     |some ei=>(qav (ev x)).bind fun cs=>(vh (ev i)).bind fun iv=>(idx n iv).bind fun j=>ym ei 0 cs (j*ei.size) fun s _=>K s none hp
     |none=>none
    |_=>none
   |none=>none
  |none=>none
 | .extract x i=>match ev x with
  | .tp l=>match l[i]? with
   |some y=>match c.tt o.type with
    |some ti=>if qg7 ti.k then(Qt y).bind fun v=>K (.sv v) none hp else if h=1 then K (.av (ro y)) none hp else K (.av y) none hp
    |none=>none
   |none=>none
  |_=>none
 | .makeMap t none=>if h=2 then K (.av (.map hp.next)) none hp.newM else none
 | .lookup t x i ok=>if h=2 then kY c t (ev x) (ev i) ok hp fun s=>K s none hp else none
 | .mapUpdate t m k x=>if h=2 then Jq c t (ev m) (ev k) (ev x) hp fun q=>K .un none q else none
 | .call cl=>match cl.callee with
  | .builtin b=>qbt c h o b cl.argTypes.toList (cl.args.toList.map ev) hp fun s q=>K s none q
  | .value (.func f)=>match c.F f,c.tt o.type with
   |some fn,some ti=>match fn.body with
    |some _=>jY c C h ti f [] (cl.args.toList.map ev) hp K
    |none=>(qfz (cl.args.toList.map ev)).bind fun vs=>(one (c.X f vs)).bind fun z=>K (.sv z) none hp
   |_,_=>none
  | .value (.tmp t)=>match c.tt o.type with
   |some ti=>match ev (.tmp t)with
    | .av x=>if h=4 then(WQ x).bind fun p=>jY c C h ti p.1 p.2 (cl.args.toList.map ev) hp K else(Xi x).bind fun p=>jY c C h ti p.1 p.2 (cl.args.toList.map ev) hp K
    |_=>none
   |none=>none
  |_=>none
 |_=>none
structure Fp where
 rs:List Nat
 ws:List Nat
 br:Option Nat
 bw:Option Nat
 hr:Bool
 hw:Bool
 nw:Bool
 lq:Option (AV×Nat)
 gb:Nat->Option (Nat×List AV)
 ga:Nat->Option (Nat×List AV)
def yP(q:AV×Nat)(g:Nat->Option (Nat×List AV)):Option (List AV):=
 (qZ q.1).bind fun p=>(g p.1).bind fun z=>if z.1=0 then(qp z.2 p.2.2 q.2).map (List.map ro1)else none
noncomputable def xu(q:AV×Nat)(g g':Nat->Option (Nat×List AV)):Option Unit:=
 @ite _ (yP q g=yP q g') (Classical.propDecidable _) (some ()) none
def qjv(h:Nat)(o:Oper)(tn:TypeId->Option TI)(ev:Operand->SV):Option (AV×Nat):=
 match o.op with
 | .load t a=>match ev a with
  | .av x=>match h==1||h==3 with
   |true=>none
   |false=>match tn t with
    |some ti=>some (x,match xL ti.k with|true=>ti.size|false=>1)
    |none=>none
  |_=>none
 |_=>none
def qom(b:Bool)(hp:Hp):Nat->Option (Nat×List AV):=
 match b with
 |true=>hp.get
 |false=>fun _=>none
inductive It where
 |code (c:Code)
 |inBlock (id:Nat)
 |inLoop (body:Code)
 |inScope (body:Code)
 |ops (r:Nat) (ops:Array Oper) (is:List Nat) (d:Bool) (acc:List (Nat×Fp))
def dn(t:Tmp)(l:Slots):Slots:=(t,(qS l t).ro)::l
def dnX(t:Tmp)(i:Nat)(l:Slots):Slots:=
 match qS l t with
 | .tp xs=>(t,.tp (match xs[i]? with|some y=>xs.set i (ro y)|none=>xs))::l
 |_=>l
def jF:List Operand->List Nat
 |[]=>[]
 | .tmp t::r=>t::jF r
 |_::r=>jF r
def zt(h:Nat)(o:Oper):List Nat:=
 match o.op with
 | .move x=>if h=1 then jF [x]else []
 | .assign x=>jF [x]
 | .store _ _ x=>jF [x]
 | .extract x _=>if h=1 then []else jF [x]
 | .call c=>match c.callee with
  | .builtin .append=>jF c.args.toList
  |_=>[]
 |_=>[]
def zb(ts:List Nat)(l:Slots):Slots:=ts.foldl (fun l t=>dn t l) l
def qT(h:Nat)(o:Oper)(l:Slots):Slots:=
 match o.op with
 | .extract (.tmp t) i=>if h=1 then l else dnX t i l
 |_=>zb (zt h o) l
def yM(h:Nat)(o:Oper)(ev:Operand->SV):Option Nat×Option Nat:=
 match o.op with
 | .load _ a=>match ev a with
  | .lp k _ _=>if h=1 then(none,some k)else(some k,none)
  |_=>(none,none)
 | .store _ a _=>match ev a with
  | .lp k _ _=>(none,some k)
  |_=>(none,none)
 | .alloc _=>if h=2 then(none,none)else(none,o.dst)
 | .box _ _=>if h=2 then(none,none)else(none,o.dst)
 |_=>(none,none)
def zN(h:Nat)(o:Oper)(ev:Operand->SV):Bool×Bool×Bool:=
 match o.op with
 | .load _ a=>match ev a with
  | .av _=>(h==1||h==3,h==1||h==3,h==3)
  |_=>(h==3,h==3,h==3)
 | .move _=>(h==3,h==3,h==3)
 | .assign _=>(h==3,h==3,h==3)
 | .makeMap _ _=>(true,true,true)
 | .lookup _ _ _ _=>(true,false,false)
 | .mapUpdate _ _ _ _=>(true,true,true)
 | .store _ a _=>match ev a with
  | .av _=>(false,true,false)
  |_=>(false,false,false)
 | .alloc _=>(false,h==2,h==2)
 | .box _ _=>(false,h==2,h==2)
 | .makeSlice _ _ _=>(false,h==2,h==2)
 | .call c=>match c.callee with
  | .builtin _=>(h==2,h==2,h==2)
  |_=>(h==2||h==4,h==2||h==4,h==2||h==4)
 |_=>(false,false,false)
def zjl(tn:TypeId->Option TI)(h:Nat)(ops:Array Oper)(o:Oper)(l:Slots)(hp hp':Hp):Fp:=
 let b:=yM h o (jg l)
 let q:=zN h o (jg l)
 {rs:=o.looksAt ops,ws:=o.dst.toList++zt h o,br:=b.1,bw:=b.2,hr:=q.1,hw:=q.2.1,nw:=q.2.2,lq:=qjv h o tn (jg l),gb:=qom q.2.1 hp,ga:=qom q.2.1 hp'}
def Kd(ops:Array Oper)(o:Oper):Fp:=
 {rs:=o.looksAt ops,ws:=o.dst.toList,br:=none,bw:=none,hr:=false,hw:=false,nw:=false,lq:=none,gb:=fun _=>none,ga:=fun _=>none}
def qc5(a b:List Nat):Bool:=a.any fun x=>b.contains x
def qrk(a b:Fp):Bool:=
 qc5 a.ws b.rs||qc5 a.ws b.ws||qc5 a.rs b.ws||
 (match a.bw,b.bw with|some x,some y=>x==y|_,_=>false)||
 (match a.bw,b.br with|some x,some y=>x==y|_,_=>false)||
 (match a.br,b.bw with|some x,some y=>x==y|_,_=>false)||
 (a.hw&&(b.hr||b.hw))||(a.hr&&b.hw)||(a.nw&&b.nw)
def ye:List Oper->List (List Nat)->List (List Nat)
 |[],t=>t
 |o::r,t=>
  let ds:=(o.after.toList.filter fun e=>Region.binds .any e).map (·.on)
  ye r (t++[(ds++ds.flatMap fun j=>t.getD j []).eraseDups])
def WZ(ops:Array Oper):Bool:=(List.range ops.size).all fun i=>match ops[i]? with
 |some o=>o.after.toList.all fun e=>!Region.binds .any e||decide (e.on<i)
 |none=>true
def Kg(ops:Array Oper)(acc:List (Nat×Fp)):Bool:=
 let t:=ye ops.toList []
 WZ ops&&acc.all fun p=>acc.all fun q=>!(decide (p.1<q.1))||(t.getD q.1 []).contains p.1||!(qrk p.2 q.2)
def qgn(t:List (List Nat))(i j:Nat):Bool:=(t.getD j []).contains i||(t.getD i []).contains j
noncomputable def quj(t:List (List Nat))(p q:Nat×Fp)(r:List (Option Unit)):List (Option Unit):=
 match p.2.lq with
 |none=>r
 |some x=>match q.2.hw with
  |false=>r
  |true=>match qgn t p.1 q.1 with
   |true=>r
   |false=>xu x q.2.gb q.2.ga::r
noncomputable def zbt(t:List (List Nat))(p:Nat×Fp):List (Nat×Fp)->List (Option Unit)->List (Option Unit)
 |[],r=>r
 |q::l,r=>quj t p q (zbt t p l r)
noncomputable def zjz(t:List (List Nat))(acc:List (Nat×Fp)):List (Nat×Fp)->List (Option Unit)
 |[]=>[]
 |p::l=>zbt t p acc (zjz t acc l)
noncomputable def ze8(ops:Array Oper)(acc:List (Nat×Fp)):List (Option Unit):=zjz (ye ops.toList []) acc acc
def qro{R:Type}:List (Option Unit)->Option R->Option R
 |[],X=>X
 |o::l,X=>o.bind fun _=>qro l X
def kC(b:Boxes):List Nat->Boxes
 |[]=>[]
 |k::r=>match jz b k with
  |some (g,cs)=>(k,g,cs)::kC b r
  |none=>kC b r
def WB(b:Boxes)(s:SV):SV:=
 match s with
 | .lp k g o=>match jz b k with
  |some _=>.lp k g o
  |none=>.un
 |s=>s
def ZI(b:Boxes)(l:Slots):List Nat->Slots
 |[]=>[]
 |k::r=>match WB b (qS l k)with
  | .un=>ZI b l r
  |s=>(k,s)::ZI b l r
def mask(m:Option (List Nat))(st:St):St:=
 match m with
 |none=>st
 |some live=>⟨ZI (kC st.bx live) st.sl live,kC st.bx live,st.hp⟩
def qcw(id:Nat):List It->Option (List It)
 |[]=>none
 | .inBlock j::k=>if j=id then some k else qcw id k
 |_::k=>qcw id k
def Wp{R:Type}(st:St)(tt:TypeId->Option TI)(r:ResultVar)(K:AV->Option R):Option R:=
 match r with
 | .tmp t=>(toA (qS st.sl t)).bind K
 | .cell a ty=>match tt ty with
  |some ti=>match qS st.sl a with
   | .lp k g off=>match jz st.bx k with
    |some (g',cs)=>if g=g' then
     (if xL ti.k then(qp cs off ti.size).bind fun l=>K (.agg l)else(qs cs off).bind K)
     else none
    |none=>none
   |_=>none
  |none=>none
def QN{R:Type}(st:St)(tt:TypeId->Option TI)(K:List AV->Option R):List ResultVar->Option R
 |[]=>K []
 |r::l=>Wp st tt r fun x=>QN st tt (fun xs=>K (x::xs)) l
def JP(st:St):ResultVar->Nat×Nat
 | .tmp t=>(0,t)
 | .cell a _=>match qS st.sl a with
  | .lp k _ _=>(1,k)
  |_=>(2,0)
def qqi(k:Nat×Nat):List (Nat×Nat)->Bool
 |[]=>true
 |j::r=>match Nat.beq j.1 k.1&&Nat.beq j.2 k.2 with|true=>false|false=>qqi k r
def Qp:List (Nat×Nat)->Bool
 |[]=>true
 |k::r=>match qqi k r with|true=>Qp r|false=>false
def fin(c:Cx)(f:FuncId)(st:St):Option (AV×Hp):=
 match c.F f with
 |some fn=>cond (Qp (fn.results.toList.map (JP st))) (QN st c.tn (fun l=>match l with
  |[x]=>some (x,st.hp)
  |l=>some (.tup l,st.hp)) fn.results.toList) none
 |none=>none
def kE{R:Type}(c:Cx):Nat->List TypeId->List AV->(Slots->Option R)->Option R
 |_,[],[],K=>K []
 |i,[],x::xs,K=>kE c (i+1) [] xs fun l=>K ((i,.av x)::l)
 |_,_::_,[],_=>none
 |i,t::ts,x::xs,K=>match c.tn t with
  |some ti=>if qg7 ti.k then(Qt x).bind fun v=>kE c (i+1) ts xs fun l=>K ((i,.sv v)::l)else kE c (i+1) ts xs fun l=>K ((i,.av x)::l)
  |none=>none
def after(h:Nat)(o:Oper)(st:St)(s:SV)(b:BE)(hp:Hp):St:=
 ⟨QQ (qT h o st.sl) o.dst s,(match b with|some (k,g,cs)=>VQ st.bx k g cs|none=>st.bx),hp⟩
def kq(o:Oper)(ops:Array Oper):Option (Option (Nat×Bool)):=
 match o.guard with
 |none=>some none
 |some (j,want)=>match ops[j]? with
  |some oj=>match oj.dst with
   |some d=>some (some (d,want))
   |none=>none
  |none=>none
def qpb(d:Bool)(i:Nat)(p:Fp)(acc:List (Nat×Fp)):List (Nat×Fp):=if d then(i,p)::acc else acc
theorem vX{R:Type}:∀{l:List (Option Unit)} {X:Option R} {r:R},qro l X=some r->(∀o∈l,o=some ())/\X=some r
 |[],X,r,h=>⟨qg,h⟩
 |o::l,X,r,h=>by
  obtain⟨u,hu,h⟩:=bsm h
  obtain⟨h1,h2⟩:=vX h
  refine⟨fun o' ho=>?_,h2⟩
  rcases zm9.mp ho with rfl|ho
  ·exact hu
  ·exact h1 o' ho
theorem qaq{R:Type}:∀{l:List (Option Unit)} {X:Option R} {r:R},(∀o∈l,o=some ())->X=some r->qro l X=some r
 |[],X,r,_,h=>h
 |o::l,X,r,h1,h=>by
  show o.bind _=_
  rw[h1 o qg]
  exact qaq (fun o ho=>h1 o (by simp[ho])) h
theorem qmw{q:AV×Nat}{g g':Nat->Option (Nat×List AV)}(h:xu q g g'=some ()):yP q g=yP q g':=by
 unfold xu at h
 split at h
 ·assumption
 ·cases h
theorem qkn{t:List (List Nat)}{p q:Nat×Fp}{x:AV×Nat}(hx:p.2.lq=some x)(hw:q.2.hw=true)(ho:qgn t p.1 q.1=false):
 ∀{l:List (Nat×Fp)} {r:List (Option Unit)},q∈l->xu x q.2.gb q.2.ga∈zbt t p l r
 |q'::l,r,hq=>by
  show _∈quj t p q' (zbt t p l r)
  rcases zm9.mp hq with rfl|hq
  ·simp only[quj,hx,hw,ho]
   exact zqf ..
  ·have ih:=qkn hx hw ho (r:=r) hq
   unfold quj
   split
   ·exact ih
   ·split
    ·exact ih
    ·split
     ·exact ih
     ·exact zpl _ ih
theorem qui{t:List (List Nat)}{p q:Nat×Fp}{r:List (Option Unit)}{o:Option Unit}(h:o∈r):o∈quj t p q r:=by
 unfold quj
 split
 ·exact h
 ·split
  ·exact h
  ·split
   ·exact h
   ·exact zpl _ h
theorem qdh{t:List (List Nat)}{p:Nat×Fp}{o:Option Unit}:∀{l:List (Nat×Fp)} {r:List (Option Unit)},o∈r->o∈zbt t p l r
 |[],r,h=>h
 |q::l,r,h=>qui (qdh h)
theorem qkm{t:List (List Nat)}{acc:List (Nat×Fp)}{p q:Nat×Fp}{x:AV×Nat}(hx:p.2.lq=some x)(hw:q.2.hw=true)(ho:qgn t p.1 q.1=false)(hq:q∈acc):
 ∀{l:List (Nat×Fp)},p∈l->xu x q.2.gb q.2.ga∈zjz t acc l
 |p'::l,hp=>by
  rcases zm9.mp hp with rfl|hp
  ·exact qkn hx hw ho hq
  ·exact qdh (qkm hx hw ho hq hp)
theorem qcx{ops:Array Oper}{acc:List (Nat×Fp)}(h:∀o∈ze8 ops acc,o=some ()){p q:Nat×Fp}(hp:p∈acc)(hq:q∈acc){x:AV×Nat}(hx:p.2.lq=some x)(hw:q.2.hw=true):
 qgn (ye ops.toList []) p.1 q.1=true\/yP x q.2.gb=yP x q.2.ga:=by
 cases ho:qgn (ye ops.toList []) p.1 q.1 with
 |true=>exact .inl rfl
 |false=>exact .inr (qmw (h _ (qkm hx hw ho hq hp)))
abbrev GoT:=List It->St->Option (AV×Hp)
def Xm(c:Cx)(C:Orc)(G:GoT)(r:Nat)(ops:Array Oper)(is:List Nat)(d:Bool)(acc:List (Nat×Fp))(k:List It)(h i:Nat)(o:Oper)(st:St):Option (AV×Hp):=
 qv c C h o (jg st.sl) (jz st.bx) st.hp fun s b hp=>G (.ops r ops is d (qpb d i (zjl c.tn h ops o st.sl st.hp hp) acc)::k) (after h o st s b hp)
def qh0(G:GoT)(r:Nat)(ops:Array Oper)(is:List Nat)(d:Bool)(acc:List (Nat×Fp))(k:List It)(i:Nat)(o:Oper)(st:St):Option (AV×Hp):=
 G (.ops r ops is d (qpb d i (Kd ops o) acc)::k) ⟨QQ st.sl o.dst .ud,st.bx,st.hp⟩
def qr6(st:St)(g:Nat)(b:Bool):St:=⟨(g,.sv (.bool b))::st.sl,st.bx,st.hp⟩
def opF(c:Cx)(C:Orc)(G:GoT)(r:Nat)(ops:Array Oper)(is:List Nat)(d:Bool)(acc:List (Nat×Fp))(k:List It)(h i:Nat)(o:Oper)(st:St):Option (AV×Hp):=
 match kq o ops with
 |none=>none
 |some none=>Xm c C G r ops is d acc k h i o st
 |some (some (g,want))=>match qS st.sl g with
  | .ud=>qh0 G r ops is d acc k i o st
  | .sv v=>(asB v).bind fun t=>match want with
   |true=>cond t (Xm c C G r ops is d acc k h i o (qr6 st g true)) (qh0 G r ops is d acc k i o (qr6 st g false))
   |false=>cond t (qh0 G r ops is d acc k i o (qr6 st g true)) (Xm c C G r ops is d acc k h i o (qr6 st g false))
  |_=>none
noncomputable def yJ(c:Cx)(C:Orc)(G:GoT)(f:FuncId)(its:List It)(st:St):Option (AV×Hp):=
 match its with
 |[]=>fin c f st
 | .inBlock _::k=>G k st
 | .inLoop b::k=>G (.code b::.inLoop b::k) st
 | .inScope _::k=>G k st
 | .code (.scope b)::k=>G (.code b::.inScope b::k) st
 | .code .skip::k=>G k st
 | .code (.label _)::k=>G k st
 | .code .ret::_=>fin c f st
 | .code (.seq a b)::k=>G (.code a::.code b::k) st
 | .code (.block id b)::k=>G (.code b::.inBlock id::k) st
 | .code (.loop b)::k=>G (.inLoop b::k) st
 | .code (.exit id)::k=>(qcw id k).bind fun k'=>G k' st
 | .code (.cond x a b)::k=>(vh (jg st.sl x)).bind fun v=>(asB v).bind fun t=>cond t (G (.code a::k) st) (G (.code b::k) st)
 | .code (.region r ops d)::k=>G (.ops r ops (List.range ops.size) d []::k) (mask (c.M f r) st)
 | .ops r ops [] d acc::k=>cond (!d||Kg ops acc) (qro (ze8 ops acc) (G k st)) none
 | .ops r ops (i::is) d acc::k=>(ops[i]?).bind fun o=>opF c C G r ops is d acc k (c.H f r i) i o st
 |_=>none
noncomputable def wW(c:Cx)(C:Orc)(f:FuncId):Nat->List It->St->Option (AV×Hp)
 |0=>fun _ _=>none
 |n+1=>yJ c C (wW c C f n) f
def xr{R:Type}(c:Cx)(f:FuncId)(xs:List AV)(hp:Hp)(K:List It->St->Option R):Option R:=
 match c.F f with
 |some fn=>match fn.body with
  |some b=>kE c 0 fn.params.toList xs fun l=>K [.code b] ⟨l,[],hp⟩
  |none=>none
 |none=>none
noncomputable def yv(c:Cx):Nat->Orc
 |0=>fun _ _ _=>none
 |n+1=>fun f xs hp=>xr c f xs hp (wW c (yv c n) f n)
def Le{α:Type}(a b:Option α):Prop:=∀r,a=some r->b=some r
theorem Le.refl{α:Type}(a:Option α):Le a a:=fun _ h=>h
theorem Le.trans{α:Type}{a b c:Option α}(h:Le a b)(h':Le b c):Le a c:=fun r hr=>h' r (h r hr)
abbrev k3:Kt (SV×BE×Hp):=fun s b hp=>some (s,b,hp)
section nat
variable {R:Type}
theorem qX(ti:TI)(h:Nat)(cs:List AV)(off:Nat)(K:SV->List AV->Option R):
 ym ti h cs off K=(ym ti h cs off fun s c=>some (s,c)).bind fun p=>K p.1 p.2:=by
 unfold ym
 repeat' split
 all_goals simp[zna]
theorem yg(ti:TI)(r:AV)(K:SV->Option R):qbl ti r K=(qbl ti r some).bind K:=by
 unfold qbl
 repeat' split
 all_goals simp[zna]
theorem kD(h:Nat)(ti:TI)(a:SV)(gb:Nat->Option (Nat×List AV))(hp:Hp)(K:Kt R):
 jJ h ti a gb hp K=(jJ h ti a gb hp k3).bind fun p=>K p.1 p.2.1 p.2.2:=by
 unfold jJ
 repeat' split
 all_goals first
  |(rw[qX];conv=>rhs;rw[qX]
    simp[zna])
  |(simp only[zna];congr 1;funext p;congr 1;funext cs;rw[qX];conv=>rhs;rw[qX]
    simp[zna])
  |simp
theorem qf2(ti:TI)(a x:SV)(gb:Nat->Option (Nat×List AV))(hp:Hp)(K:Kt R):
 kr ti a x gb hp K=(kr ti a x gb hp k3).bind fun p=>K p.1 p.2.1 p.2.2:=by
 unfold kr
 simp only[zna]
 congr 1;funext vs
 repeat' split
 all_goals simp[zna]
theorem vT(c:Cx)(ti:TI)(a:SV)(f:Nat)(K:SV->Option R):xd c ti a f K=(xd c ti a f some).bind K:=by
 unfold xd
 repeat' split
 all_goals simp[zna]
theorem vL(c:Cx)(h:Nat)(ti:TI)(a i:SV)(K:SV->Option R):xa c h ti a i K=(xa c h ti a i some).bind K:=by
 unfold xa
 repeat' split
 all_goals simp[zna]
theorem JW(c:Cx)(h:Nat)(ti:TI)(t:TypeId)(a:SV)(lo hi mx:Option Value)(K:SV->Option R):
 JX c h ti t a lo hi mx K=(JX c h ti t a lo hi mx some).bind K:=by
 unfold JX
 repeat' split
 all_goals simp[zna]
theorem Ki(c:Cx)(s d:TypeId)(si di:TI)(a:SV)(K:SV->Option R):qab c s d si di a K=(qab c s d si di a some).bind K:=by
 unfold qab
 repeat' split
 all_goals simp[zna]
theorem qas(c:Cx)(op:BinOp)(t:TypeId)(x y:Operand)(a b:SV)(K:SV->Option R):qo7 c op t x y a b K=(qo7 c op t x y a b some).bind K:=by
 unfold qo7
 repeat' split
 all_goals simp[zna]
theorem XT(c a b:SV)(K:SV->Option R):Ww c a b K=(Ww c a b some).bind K:=by
 unfold Ww
 simp only[zna]
 congr 1;funext v;congr 1;funext t
 repeat' split
 all_goals first|simp|(cases t<;>simp)
theorem qap(c:Cx)(h:Nat)(o:Oper)(b:Builtin)(ts:List TypeId)(as_:List SV)(hp:Hp)(K:SV->Hp->Option R):qbt c h o b ts as_ hp K=(qbt c h o b ts as_ hp fun s q=>some (s,q)).bind fun p=>K p.1 p.2:=by
 unfold qbt
 repeat' split
 all_goals first
  |(simp[zna];done)
  |(simp only[zna];congr 1;funext d;congr 1;funext s
    split<;>simp[zna])
theorem qc8(ok:Bool)(ei:TI)(f:Option AV)(K:SV->Option R):qoe ok ei f K=(qqs ok ei f).bind K:=by
 cases ok
 ·unfold qoe qqs ofAK ofA
  dsimp only
  split<;>simp[zna]
 ·rfl
theorem wI(c:Cx)(t:TypeId)(x i:SV)(ok:Bool)(hp:Hp)(K:SV->Option R):kY c t x i ok hp K=(kY c t x i ok hp some).bind K:=by
 unfold kY
 simp only[qc8]
 repeat' split
 all_goals simp[zna]
theorem ZJ(c:Cx)(t:TypeId)(m k x:SV)(hp:Hp)(K:Hp->Option R):Jq c t m k x hp K=(Jq c t m k x hp some).bind K:=by
 unfold Jq
 repeat' split
 all_goals simp[zna]
theorem wO(k:TK)(hp:Hp)(s:SV)(K:SV->Hp->Option R):que k hp s K=(qos k hp s).bind fun p=>K p.1 p.2:=by
 unfold que qos
 split
 ·split<;>simp[zna]
 ·simp only[zm7]
theorem qdm(c:Cx)(C:Orc)(h:Nat)(ti:TI)(f:FuncId)(caps:List AV)(as_:List SV)(hp:Hp)(K:Kt R):
 jY c C h ti f caps as_ hp K=(jY c C h ti f caps as_ hp k3).bind fun p=>K p.1 p.2.1 p.2.2:=by
 unfold jY
 simp only[zna]
 congr 1;funext xs
 split
 ·simp only[zna]
  congr 1;funext p
  rw[yg];conv=>rhs;rw[yg]
  simp[zna]
 ·split
  ·simp only[zna]
   congr 1;funext p
   rw[yg];conv=>rhs;rw[yg]
   simp[zna]
  ·simp only[zna]
   congr 1;funext u;congr 1;funext p;congr 1;funext u
   rw[yg];conv=>rhs;rw[yg]
   simp[zna]
theorem yE(wF:Nat->Option (Nat×Nat))(ev:Operand->SV)(K:List AV->Option R):∀(l:List (Nat×Operand)) (cs:List AV),
 xD wF ev K l cs=(xD wF ev some l cs).bind K
 |[],cs=>rfl
 |(i,x)::r,cs=>by
  unfold xD
  split
  ·rfl
  ·simp only[zna]
   congr 1;funext vs;congr 1;funext cs'
   exact yE wF ev K r cs'
theorem Qq(c:Cx)(C:Orc)(h:Nat)(o:Oper)(ev:Operand->SV)(gb:Nat->Option (Nat×List AV))(hp:Hp)(K:Kt R):
 qv c C h o ev gb hp K=(qv c C h o ev gb hp k3).bind fun p=>K p.1 p.2.1 p.2.2:=by
 unfold qv
 repeat' split
 all_goals first
  |rfl
  |(simp[zna];done)
  |exact kD _ _ _ _ _ _
  |exact qf2 _ _ _ _ _ _
  |exact qdm _ _ _ _ _ _ _ _ _
  |(rw[yE];conv=>rhs;rw[yE]
    simp[zna];done)
  |(rw[XT];conv=>rhs;rw[XT]
    simp[zna];done)
  |(rw[qas];conv=>rhs;rw[qas]
    simp[zna];done)
  |(rw[Ki];conv=>rhs;rw[Ki]
    simp[zna];done)
  |(rw[vT];conv=>rhs;rw[vT]
    simp[zna];done)
  |(rw[vL];conv=>rhs;rw[vL]
    simp[zna];done)
  |(rw[qap];conv=>rhs;rw[qap]
    simp[zna];done)
  |(rw[wI];conv=>rhs;rw[wI]
    simp[zna];done)
  |(rw[ZJ];conv=>rhs;rw[ZJ]
    simp[zna];done)
  |(simp only[wO];rw[kD];conv=>rhs;rw[kD]
    simp[zna];done)
  |(simp only[wO];simp[zna];done)
  |(simp only[zna];congr 1;funext cs;rw[qX];conv=>rhs;rw[qX]
    simp[zna];done)
  |(simp only[zna];congr 1;funext cs;congr 1;funext iv;congr 1;funext j;rw[qX];conv=>rhs;rw[qX]
    simp[zna];done)
  |(simp only[zna];congr 1;funext l;congr 1;funext u;congr 1;funext m;rw[JW];conv=>rhs;rw[JW]
    simp[zna];done)
  |(simp only[zna];congr 1;funext p;exact qdm _ _ _ _ _ _ _ _ _)
  |(simp only[zna];congr 1;funext l;congr 1;funext u;congr 1;funext m;congr 1;funext q;repeat' split
    all_goals simp)
  |(simp only[zna];congr 1;funext l;repeat' split
    all_goals first
     |rfl
     |(simp[zna];done))
end nat
def OLe(C C':Orc):Prop:=∀f xs hp,Le (C f xs hp) (C' f xs hp)
theorem Le.bind{α β:Type}{a b:Option α}{f g:α->Option β}(h:Le a b)(hf:∀x,Le (f x) (g x)):Le (a.bind f) (b.bind g):=by
 intro r hr
 cases a with
 |none=>simp at hr
 |some x=>rw[h x rfl];exact hf x r hr
theorem Le.cond{α:Type}{a b a' b':Option α}{t:Bool}(h:Le a a')(h':Le b b'):Le (cond t a b) (cond t a' b'):=by cases t<;>assumption
theorem qah(c:Cx){C C':Orc}(hC:OLe C C')(h:Nat)(ti:TI)(f:FuncId)(caps:List AV)(as_:List SV)(hp:Hp):
 Le (jY c C h ti f caps as_ hp k3) (jY c C' h ti f caps as_ hp k3):=by
 unfold jY
 refine Le.bind (Le.refl _) fun xs=>?_
 split
 ·exact Le.bind (hC _ _ _) fun p=>Le.refl _
 ·split
  ·exact Le.bind (hC _ _ _) fun p=>Le.refl _
  ·exact Le.bind (Le.refl _) fun _=>Le.bind (hC _ _ _) fun p=>Le.refl _
theorem qaa(c:Cx){C C':Orc}(hC:OLe C C')(h:Nat)(o:Oper)(ev:Operand->SV)(gb:Nat->Option (Nat×List AV))(hp:Hp):
 Le (qv c C h o ev gb hp k3) (qv c C' h o ev gb hp k3):=by
 unfold qv
 repeat' split
 all_goals first
  |exact Le.refl _
  |exact qah c hC _ _ _ _ _ _
  |exact Le.bind (Le.refl _) fun p=>qah c hC _ _ _ _ _ _
noncomputable def lim{α:Type}(s:Nat->Option α):Option α:=
 open Classical in if h:∃n r,s n=some r then s h.choose else none
theorem qjw{α:Type}{s:Nat->Option α}(hs:∀n,Le (s n) (s (n+1)))(r:α):lim s=some r↔∃n,s n=some r:=by
 have up:∀n m,Le (s n) (s (n+m)):=by
  intro n m
  induction m with
  |zero=>exact Le.refl _
  |succ m ih=>exact ih.trans (hs (n+m))
 constructor
 ·intro h
  unfold lim at h
  split at h
  ·exact⟨_,h⟩
  ·cases h
 ·rintro⟨n,hn⟩
  unfold lim
  have h:∃n r,s n=some r:=⟨n,r,hn⟩
  rw[dif_pos h]
  obtain⟨r',hr'⟩:=h.choose_spec
  have a:=up n h.choose r hn
  have b:=up h.choose n r' hr'
  rw[zqy]at b
  rw[a]at b
  cases b
  exact hr'
theorem Le.ite{α:Type}{p:Prop}[Decidable p]{a b a' b':Option α}(h:Le a a')(h':Le b b'):Le (if p then a else b) (if p then a' else b'):=by
 split<;>assumption
def GLe(G G':List It->St->Option (AV×Hp)):Prop:=∀its st,Le (G its st) (G' its st)
theorem qug(c:Cx){C C':Orc}(hC:OLe C C'){G G':List It->St->Option (AV×Hp)}(hG:GLe G G')(h:Nat)(o:Oper)(ev:Operand->SV)
 (gb:Nat->Option (Nat×List AV)) (hp:Hp) (its:SV->BE->Hp->List It) (sts:SV->BE->Hp->St):
 Le (qv c C h o ev gb hp fun s b q=>G (its s b q) (sts s b q)) (qv c C' h o ev gb hp fun s b q=>G' (its s b q) (sts s b q)):=by
 rw[Qq (K:=fun s b q=>G (its s b q) (sts s b q)),Qq (K:=fun s b q=>G' (its s b q) (sts s b q))]
 exact Le.bind (qaa c hC _ _ _ _ _) fun p=>hG _ _
theorem Yq(c:Cx){C C':Orc}(hC:OLe C C'){G G':GoT}(hG:GLe G G')(r:Nat)(ops:Array Oper)(is:List Nat)(d:Bool)(acc:List (Nat×Fp))(k:List It)(h i:Nat)(o:Oper)(st:St):
 Le (Xm c C G r ops is d acc k h i o st) (Xm c C' G' r ops is d acc k h i o st):=qug c hC hG _ _ _ _ _ _ _
theorem qz6(c:Cx){C C':Orc}(hC:OLe C C'){G G':GoT}(hG:GLe G G')(r:Nat)(ops:Array Oper)(is:List Nat)(d:Bool)(acc:List (Nat×Fp))(k:List It)(h i:Nat)(o:Oper)(st:St):
 Le (opF c C G r ops is d acc k h i o st) (opF c C' G' r ops is d acc k h i o st):=by
 unfold opF
 split
 ·exact Le.refl _
 ·exact Yq c hC hG _ _ _ _ _ _ _ _ _ _
 ·split
  ·exact hG _ _
  ·refine Le.bind (Le.refl _) fun t=>?_
   split
   ·exact Le.cond (Yq c hC hG _ _ _ _ _ _ _ _ _ _) (hG _ _)
   ·exact Le.cond (hG _ _) (Yq c hC hG _ _ _ _ _ _ _ _ _ _)
  ·exact Le.refl _
theorem QD(c:Cx){C C':Orc}(hC:OLe C C'){G G':GoT}(hG:GLe G G')(f:FuncId)(its:List It)(st:St):
 Le (yJ c C G f its st) (yJ c C' G' f its st):=by
 unfold yJ
 split
 all_goals first
  |exact Le.refl _
  |exact hG _ _
  |exact Le.bind (Le.refl _) fun v=>Le.bind (Le.refl _) fun t=>Le.cond (hG _ _) (hG _ _)
  |exact Le.bind (Le.refl _) fun v=>hG _ _
  |exact Le.cond (fun r h=>qaq (vX h).1 (hG _ _ r (vX h).2)) (Le.refl _)
  |exact Le.bind (Le.refl _) fun v=>qz6 c hC hG _ _ _ _ _ _ _ _ _ _
theorem Xh(c:Cx){C C':Orc}(hC:OLe C C')(f:FuncId):∀n its st,Le (wW c C f n its st) (wW c C' f n its st)
 |0,_,_=>Le.refl _
 |n+1,its,st=>QD c hC (fun its st=>Xh c hC f n its st) f its st
theorem Xg(c:Cx)(C:Orc)(f:FuncId):∀n its st,Le (wW c C f n its st) (wW c C f (n+1) its st)
 |0,_,_=>fun r h=>by simp[wW]at h
 |n+1,its,st=>QD c (fun f xs hp=>Le.refl _) (fun its st=>Xg c C f n its st) f its st
theorem QX{R:Type}(c:Cx):∀(i:Nat) (ts:List TypeId) (xs:List AV) (K K':Slots->Option R),(∀l,Le (K l) (K' l))->Le (kE c i ts xs K) (kE c i ts xs K')
 |_,[],[],_,_,h=>h _
 |i,[],_::xs,_,_,h=>QX c (i+1) [] xs _ _ fun l=>h _
 |_,_::_,[],_,_,_=>Le.refl _
 |i,t::ts,x::xs,_,_,h=>by
  unfold kE
  split
  ·split
   ·exact Le.bind (Le.refl _) fun v=>QX c (i+1) ts xs _ _ fun l=>h _
   ·exact QX c (i+1) ts xs _ _ fun l=>h _
  ·exact Le.refl _
theorem KF{R:Type}(c:Cx)(f:FuncId)(xs:List AV)(hp:Hp){K K':List It->St->Option R}(h:∀its st,Le (K its st) (K' its st)):
 Le (xr c f xs hp K) (xr c f xs hp K'):=by
 unfold xr
 repeat' split
 all_goals first
  |exact Le.refl _
  |exact QX c _ _ _ _ _ (fun l=>h _ _)
theorem vj(c:Cx):∀n,OLe (yv c n) (yv c (n+1))
 |0=>fun f xs hp r h=>by simp[yv]at h
 |n+1=>fun f xs hp=>by
  show Le (xr c f xs hp (wW c (yv c n) f n)) (xr c f xs hp (wW c (yv c (n+1)) f (n+1)))
  exact KF c f xs hp fun its st=>(Xh c (vj c n) f n its st).trans (Xg c _ f n its st)
noncomputable def run(c:Cx):Orc:=fun f xs hp=>lim fun n=>yv c n f xs hp
noncomputable def go(c:Cx)(f:FuncId)(its:List It)(st:St):Option (AV×Hp):=lim fun n=>wW c (yv c n) f n its st
theorem vy{c:Cx}{f:FuncId}{xs:List AV}{hp:Hp}{r:AV×Hp}:run c f xs hp=some r↔∃n,yv c n f xs hp=some r:=
 qjw (fun n=>vj c n f xs hp) r
theorem zho(c:Cx)(f:FuncId)(its:List It)(st:St)(n:Nat):Le (wW c (yv c n) f n its st) (wW c (yv c (n+1)) f (n+1) its st):=
 (Xh c (vj c n) f n its st).trans (Xg c _ f n its st)
theorem yn{c:Cx}{f:FuncId}{its:List It}{st:St}{r:AV×Hp}:go c f its st=some r↔∃n,wW c (yv c n) f n its st=some r:=
 qjw (zho c f its st) r
theorem zel(c:Cx){n m:Nat}(h:n<=m):OLe (yv c n) (yv c m):=by
 obtain⟨d,rfl⟩:=Nat.exists_eq_add_of_le h
 intro f xs hp
 induction d with
 |zero=>exact Le.refl _
 |succ d ih=>exact(ih qe).trans (vj c (n+d) f xs hp)
theorem zji(c:Cx)(f:FuncId){n m:Nat}(h:n<=m):GLe (wW c (yv c n) f n) (wW c (yv c m) f m):=by
 obtain⟨d,rfl⟩:=Nat.exists_eq_add_of_le h
 intro its st
 induction d with
 |zero=>exact Le.refl _
 |succ d ih=>exact(ih qe).trans (zho c f its st (n+d))
theorem kf{α β:Type}{o:Option α}{f:α->Option β}{fs:Nat->α->Option β}(h:∀x r,f x=some r->∃n,fs n x=some r){r:β}
 (hr:o.bind f=some r):∃n,o.bind (fs n)=some r:=by
 cases o with
 |none=>simp at hr
 |some x=>exact h x r hr
theorem qai(c:Cx)(h:Nat)(ti:TI)(f:FuncId)(caps:List AV)(as_:List SV)(hp:Hp){r:SV×BE×Hp}
 (hr:jY c (run c) h ti f caps as_ hp k3=some r):∃n,jY c (yv c n) h ti f caps as_ hp k3=some r:=by
 unfold jY at hr⊢
 refine kf (fun xs r hr=>?_) hr
 by_cases e:h=2
 ·simp only[if_pos e]at hr⊢
  obtain⟨p,hp',hr⟩:=bsm hr
  obtain⟨n,hn⟩:=vy.mp hp'
  exact⟨n,by rw[hn];exact hr⟩
 ·simp only[if_neg e]at hr⊢
  by_cases e4:h=4
  ·simp only[if_pos e4]at hr⊢
   obtain⟨p,hp',hr⟩:=bsm hr
   obtain⟨n,hn⟩:=vy.mp hp'
   exact⟨n,by rw[hn];exact hr⟩
  ·simp only[if_neg e4]at hr⊢
   obtain⟨u,hu,hr⟩:=bsm hr
   obtain⟨p,hp',hr⟩:=bsm hr
   obtain⟨n,hn⟩:=vy.mp hp'
   exact⟨n,by rw[hu];simp only[zm7];rw[hn];exact hr⟩
theorem qoz(c:Cx)(h:Nat)(o:Oper)(ev:Operand->SV)(gb:Nat->Option (Nat×List AV))(hp:Hp){r:SV×BE×Hp}
 (hr:qv c (run c) h o ev gb hp k3=some r):∃n,qv c (yv c n) h o ev gb hp k3=some r:=by
 revert hr
 unfold qv
 split
 all_goals try exact fun hr=>⟨0,hr⟩
 repeat' split
 all_goals intro hr
 all_goals first
  |exact⟨0,hr⟩
  |exact qai c _ _ _ _ _ hp hr
  |exact kf (fun p r hr=>qai c _ _ _ _ _ hp hr) hr
theorem quh(c:Cx)(f:FuncId)(h:Nat)(o:Oper)(ev:Operand->SV)
 (gb:Nat->Option (Nat×List AV)) (hp:Hp) (its:SV->BE->Hp->List It) (sts:SV->BE->Hp->St) {r:AV×Hp}
 (hr:(qv c (run c) h o ev gb hp fun s b q=>go c f (its s b q) (sts s b q))=some r):
 ∃n,(qv c (yv c n) h o ev gb hp fun s b q=>wW c (yv c n) f n (its s b q) (sts s b q))=some r:=by
 rw[Qq]at hr
 obtain⟨p,h1,h2⟩:=bsm hr
 obtain⟨n,hn⟩:=qoz c h o ev gb hp h1
 obtain⟨m,hm⟩:=yn.mp h2
 refine⟨max n m,?_⟩
 rw[Qq]
 rw[qaa c (zel c (Nat.le_max_left n m)) h o ev gb hp p hn]
 exact zji c f (Nat.le_max_right n m) _ _ r hm
theorem Yr(c:Cx)(f:FuncId)(r:Nat)(ops:Array Oper)(is:List Nat)(d:Bool)(acc:List (Nat×Fp))(k:List It)(h i:Nat)(o:Oper)(st:St){q:AV×Hp}
 (hr:Xm c (run c) (go c f) r ops is d acc k h i o st=some q):∃n,Xm c (yv c n) (wW c (yv c n) f n) r ops is d acc k h i o st=some q:=
 quh c f h o (jg st.sl) (jz st.bx) st.hp (fun s b hp=>.ops r ops is d (qpb d i (zjl c.tn h ops o st.sl st.hp hp) acc)::k) (fun s b hp=>after h o st s b hp) hr
theorem qz7(c:Cx)(f:FuncId)(r:Nat)(ops:Array Oper)(is:List Nat)(d:Bool)(acc:List (Nat×Fp))(k:List It)(h i:Nat)(o:Oper)(st:St){q:AV×Hp}
 (hr:opF c (run c) (go c f) r ops is d acc k h i o st=some q):∃n,opF c (yv c n) (wW c (yv c n) f n) r ops is d acc k h i o st=some q:=by
 revert hr
 unfold opF
 split
 ·intro hr;cases hr
 ·intro hr;exact Yr c f _ _ _ _ _ _ _ _ _ _ hr
 ·split
  ·intro hr;exact yn.mp hr
  ·intro hr
   refine kf (fun t r hr=>?_) hr
   revert hr
   split
   ·intro hr
    cases t
    ·exact yn.mp hr
    ·exact Yr c f _ _ _ _ _ _ _ _ _ _ hr
   ·intro hr
    cases t
    ·exact Yr c f _ _ _ _ _ _ _ _ _ _ hr
    ·exact yn.mp hr
  ·intro hr;cases hr
theorem qms(c:Cx)(f:FuncId)(its:List It)(st:St){r:AV×Hp}(hr:yJ c (run c) (go c f) f its st=some r):
 ∃n,yJ c (yv c n) (wW c (yv c n) f n) f its st=some r:=by
 unfold yJ at hr⊢
 split at hr
 all_goals first
  |exact⟨0,hr⟩
  |exact yn.mp hr
  |exact kf (fun v r hr=>yn.mp hr) hr
  |exact kf (fun v r hr=>qz7 c f _ _ _ _ _ _ _ _ _ _ hr) hr
  |skip
 ·refine kf (fun v r hr=>kf (fun t r hr=>?_) hr) hr
  cases t
  ·exact yn.mp hr
  ·exact yn.mp hr
 ·rename_i d acc k
  generalize(!d||Kg _ acc)=t at hr⊢
  cases t
  ·cases hr
  ·obtain⟨h1,h2⟩:=vX hr
   obtain⟨n,hn⟩:=yn.mp h2
   exact⟨n,qaq h1 hn⟩
theorem qq3(c:Cx)(f:FuncId)(its:List It)(st:St):go c f its st=yJ c (run c) (go c f) f its st:=by
 apply Option.ext
 intro r
 constructor
 ·intro h
  obtain⟨n,hn⟩:=yn.mp h
  cases n with
  |zero=>simp[wW]at hn
  |succ n=>
   have hC:OLe (yv c (n+1)) (run c):=fun f xs hp r hr=>vy.mpr ⟨n+1,hr⟩
   have hG:GLe (wW c (yv c (n+1)) f n) (go c f):=fun its st r hr=>yn.mpr ⟨n+1,Xg c _ f n its st r hr⟩
   exact QD c hC hG f its st r hn
 ·intro h
  obtain⟨n,hn⟩:=qms c f its st h
  refine yn.mpr ⟨n+1,?_⟩
  exact QD c (vj c n) (fun its st=>Xh c (vj c n) f n its st) f its st r hn
theorem jG{R:Type}(c:Cx):∀(i:Nat) (ts:List TypeId) (xs:List AV) (K:Slots->Option R),kE c i ts xs K=(kE c i ts xs some).bind K
 |_,[],[],_=>rfl
 |i,[],x::xs,K=>by
  simp only[kE]
  rw[jG c (i+1) [] xs]
  conv=>rhs;rw[jG c (i+1) [] xs]
  simp[zna]
 |_,_::_,[],_=>rfl
 |i,t::ts,x::xs,K=>by
  simp only[kE]
  split
  ·split
   ·simp only[zna]
    congr 1;funext v
    rw[jG c (i+1) ts xs]
    conv=>rhs;rw[jG c (i+1) ts xs]
    simp[zna]
   ·rw[jG c (i+1) ts xs]
    conv=>rhs;rw[jG c (i+1) ts xs]
    simp[zna]
  ·rfl
theorem zim(c:Cx)(f:FuncId)(xs:List AV)(hp:Hp):run c f xs hp=xr c f xs hp (go c f):=by
 apply Option.ext
 intro r
 constructor
 ·intro h
  obtain⟨n,hn⟩:=vy.mp h
  cases n with
  |zero=>simp[yv]at hn
  |succ n=>exact KF c f xs hp (fun its st r hr=>yn.mpr ⟨n,hr⟩) r hn
 ·intro h
  have key:∃n,xr c f xs hp (wW c (yv c n) f n)=some r:=by
   revert h
   unfold xr
   split
   ·split
    ·intro h
     rw[jG]at h
     obtain⟨l,h1,h2⟩:=bsm h
     obtain⟨n,hn⟩:=yn.mp h2
     exact⟨n,by rw[jG,h1];exact hn⟩
    ·intro h;cases h
   ·intro h;cases h
  obtain⟨n,hn⟩:=key
  exact vy.mpr ⟨n+1,hn⟩
theorem Xw(k:Nat):Nat.beq k k=true:=qg
theorem qhk{j k:Nat}(h:j≠k):Nat.beq j k=false:=by
 cases hb:Nat.beq j k
 ·rfl
 ·exact absurd (Nat.eq_of_beq_eq_true hb) h
theorem Yn(b:Boxes):∀(live:List Nat) (k:Nat),jz (kC b live) k=if k∈live then jz b k else none
 |[],k=>by simp[kC,jz]
 |j::r,k=>by
  have ih:=Yn b r k
  simp only[kC]
  split
  ·rename_i g cs h
   simp only[jz]
   by_cases e:j=k
   ·subst e;simp[h]
   ·rw[qhk e];simp only[ih,zm9]
    have:k≠j:=fun h=>e h.symm
    simp[this]
  ·rename_i h
   rw[ih]
   by_cases e:j=k
   ·subst e;simp[h]
   ·have:k≠j:=fun h=>e h.symm
    simp[this]
theorem KQ(b b':Boxes):∀(live:List Nat),(∀k∈live,jz b' k=jz b k)->kC b' live=kC b live
 |[],_=>rfl
 |j::r,h=>by
  simp only[kC]
  rw[h j qg,KQ b b' r fun k hk=>h k (by simp[hk])]
theorem QE(b:Boxes)(l:Slots):∀(live:List Nat) (k:Nat),qS (ZI b l live) k=if k∈live then WB b (qS l k)else .un
 |[],k=>by simp[ZI,qS]
 |j::r,k=>by
  have ih:=QE b l r k
  simp only[ZI]
  by_cases e:j=k
  ·subst e
   split
   ·rename_i h
    rw[ih];simp[h]
   ·rename_i s h
    simp[qS,Xw]
  ·have e':k≠j:=fun h=>e h.symm
   split
   ·rw[ih];simp[e']
   ·simp[qS,qhk e,ih,e']
theorem KP(b:Boxes)(l l':Slots):∀(live:List Nat),(∀k∈live,WB b (qS l' k)=WB b (qS l k))->ZI b l' live=ZI b l live
 |[],_=>rfl
 |j::r,h=>by
  simp only[ZI]
  rw[h j qg,KP b l l' r fun k hk=>h k (by simp[hk])]
theorem qtp(b:Boxes)(s:SV):WB b (WB b s)=WB b s:=by
 cases s<;>simp only[WB]
 rename_i k g o
 cases h:jz b k<;>simp[WB,h]
theorem qtv(m:Option (List Nat))(st:St):mask m (mask m st)=mask m st:=by
 cases m with
 |none=>rfl
 |some live=>
  simp only[mask]
  have hB:kC (kC st.bx live) live=kC st.bx live:=KQ _ _ _ fun k hk=>by rw[Yn,if_pos hk]
  rw[hB]
  congr 1
  refine KP _ _ _ _ fun k hk=>?_
  rw[QE,if_pos hk,qtp]
def qxz(ss:List Nat):List It->Bool
 | .code (.region r _ _)::_=>ss.contains r
 |_=>false
def qn9(c:Cx)(f:FuncId):List It->St->St
 | .code (.region r _ _)::_,st=>mask (c.M f r) st
 |_,st=>st
theorem zf5(c:Cx)(f:FuncId)(its:List It)(st:St):go c f its (qn9 c f its st)=go c f its st:=by
 unfold qn9
 split
 ·rw[qq3,qq3 c f _ st]
  simp only[yJ,qtv]
 ·rfl
noncomputable def qhs(c:Cx)(f:FuncId)(ss:List Nat):Nat->GoT
 |0=>go c f
 |n+1=>fun its st=>cond (qxz ss its) (go c f its (qn9 c f its st)) (yJ c (run c) (qhs c f ss n) f its st)
theorem qfv(c:Cx)(f:FuncId)(ss:List Nat):∀n,qhs c f ss n=go c f
 |0=>rfl
 |n+1=>by
  funext its st
  simp only[qhs,qfv c f ss n]
  cases qxz ss its
  ·exact(qq3 c f its st).symm
  ·exact zf5 c f its st
theorem zb7(c:Cx)(f:FuncId)(ss:List Nat)(n:Nat)(its:List It)(st:St):go c f its st=yJ c (run c) (qhs c f ss n) f its st:=by
 rw[qfv];exact qq3 c f its st
theorem zbs(c:Cx)(f:FuncId)(ss:List Nat)(n:Nat)(xs:List AV)(hp:Hp):run c f xs hp=xr c f xs hp (qhs c f ss n):=by
 rw[qfv];exact zim c f xs hp
def sub:List Nat->Code->Code
 |[],c=>c
 |0::p,.seq a _=>sub p a
 |_::p,.seq _ b=>sub p b
 |0::p,.cond _ a _=>sub p a
 |_::p,.cond _ _ b=>sub p b
 |_::p,.block _ b=>sub p b
 |_::p,.loop b=>sub p b
 |_::p,.scope b=>sub p b
 |_,c=>c
inductive Ow where
 |fr|oth
 |box (k g:Nat)
 |obj (b g:Nat)
 |sl (k j i:Nat)
 |bc (k g i:Nat)
 |oc (b g i:Nat)
structure Gh where
 Om:Nat->Ow
 I:Nat->Nat
 mu:Nat->Nat->Option Nat
 la:Nat->Nat->Option Nat
def bsz(w:World)(b:Nat):Option Nat:=
 match w.heap[b]? with
 |some (.cells arr _ _)=>some arr.size
 |_=>none
theorem Kn{w w':World}{b:Nat}(h:w'.heap[b]?=w.heap[b]?):bsz w' b=bsz w b:=by simp[bsz,h]
inductive RelR (G : Gh) (w : World) : AV → Value → Prop where
 |sc (v:Value):v.oneCell'=true->RelR G w (.sc v) v
 |sl0 (sz:Nat) (a:Addr) (cap:Nat):0<sz->RelR G w (.sl sz []) (.slice (some a) 0 cap)
 |sl (sz:Nat) (cs:List AV) (n cap b o:Nat) (vs:List Value):0<sz->0<n->cs.length=n*sz->n<=cap->o+n*sz<=G.I b->vs.length=cs.length->
  (∀k c,vs[k]?=some c->w.cell? ⟨b,o+k,none⟩=some c)->(∀x∈cs,vl x=true)->(∀(k:Nat) (x:AV) (c:Value),cs[k]?=some x->vs[k]?=some c->RelR G w x c)->
  RelR G w (.sl sz cs) (.slice (some ⟨b,o,none⟩) n cap)
 |ptr (b g off blk:Nat):G.mu b g=some blk->RelR G w (.ptr b g off) (.pointer (some ⟨blk,off,none⟩))
 |ms (b g off n sz cap blk off' z:Nat):G.mu b g=some blk->n<=cap->(0<n->off'=off)->bsz w blk=some z->off'+cap*sz<=z->RelR G w (.ms b g off n sz) (.slice (some ⟨blk,off',none⟩) n cap)
 |fn (f:FuncId) (caps:List AV) (vs:List Value):(Nat.blt f 4294967296=true\/caps=[])->caps.length=vs.length->
  (∀(k:Nat) (x:AV) (c:Value),caps[k]?=some x->vs[k]?=some c->RelR G w x c)->RelR G w (.fn f caps) (.func (.func f) #[] vs.toArray)
 |map (b blk:Nat):G.mu b 1=some blk->RelR G w (.map b) (.map (some blk))
 |fnb (f:FuncId) (bs:List AV) (vs:List Value):bs≠[]->bs.length=vs.length->
  (∀(k:Nat) (x:AV) (c:Value),bs[k]?=some x->vs[k]?=some c->RelR G w x c)->RelR G w (.fn (4294967296+f) bs) (.func (.func f) vs.toArray #[])
structure TokR (G : Gh) (w : World) (sz : Nat) (cs : List AV) (v : Value) (b : Nat) : Prop where
 ex:∃n cap arr e,v= .slice (some ⟨b,0,none⟩) n cap/\0<sz/\cs.length=n*sz/\n<=cap/\G.I b=n*sz/\
  w.heap[b]?=some (.cells arr e (0,0))/\arr.size=cap*sz/\∀(k:Nat) (x:AV),cs[k]?=some x->∃c,arr[k]?=some c/\RelR G w x c
 vl:∀x∈cs,vl x=true
def yl(G:Gh)(w:World)(p:Ow)(x:AV)(v:Value):Prop:=
 match x with
 | .us sz cs=>∃b,G.Om b=p/\TokR G w sz cs v b
 | .agg _=>False
 | .tup _=>False
 |x=>RelR G w x v
def zT(G:Gh)(w:World)(p:Nat->Ow)(x:AV)(v:Value):Prop:=
 match x with
 | .agg cs=>∃vs:List Value,v= .agg vs.toArray/\cs.length=vs.length/\∀(i:Nat) (x:AV) (c:Value),cs[i]?=some x->vs[i]?=some c->yl G w (p i) x c
 |x=>yl G w (p 0) x v
def zk(G:Gh)(w:World)(k:Nat)(s:SV)(v:Value):Prop:=
 match s with
 | .sv u=>v=u/\u.oneCell'=true
 | .av x=>zT G w (.sl k 0 ·) x v
 | .tp l=>∃vs:List Value,v= .tuple vs.toArray/\l.length=vs.length/\∀(j:Nat) (x:AV) (c:Value),l[j]?=some x->vs[j]?=some c->zT G w (.sl k j ·) x c
 | .lp k' g off=>∃blk,G.la k' g=some blk/\v= .pointer (some ⟨blk,off,none⟩)
 | .rv cs=>∃(b o:Nat) (vs:List Value),v= .pointer (some ⟨b,o,none⟩)/\vs.length=cs.length/\(∀i,i<cs.length->o+i<G.I b)/\
  (∀(k:Nat) (c:Value),vs[k]?=some c->w.cell? ⟨b,o+k,none⟩=some c)/\∀(k:Nat) (x:AV) (c:Value),cs[k]?=some x->vs[k]?=some c->RelR G w x c
 | .un=>True
 | .ud=>v=undef
def kh(G:Gh)(w:World)(blk:Nat)(p:Nat->Ow)(cs:List AV):Prop:=
 ∃arr e,w.heap[blk]?=some (.cells arr e (0,0))/\cs.length<=arr.size/\∀(i:Nat) (x:AV) (c:Value),cs[i]?=some x->arr[i]?=some c->yl G w (p i) x c
def Vj(G:Gh)(w:World)(x:AV)(v:Value):Prop:=
 match x with
 | .agg cs=>∃vs:List Value,v= .agg vs.toArray/\cs.length=vs.length/\∀(i:Nat) (x:AV) (c:Value),cs[i]?=some x->vs[i]?=some c->RelR G w x c
 |x=>RelR G w x v
def qaw(G:Gh)(w:World)(x:AV)(e:MapEntry):Prop:=
 match x with
 | .tup [.sc k,y]=>e.key=k/\k.oneCell'=true/\Vj G w y e.val
 |_=>False
def qlf(G:Gh)(w:World)(blk:Nat)(cs:List AV):Prop:=
 ∃es clock,w.heap[blk]?=some (.map es clock)/\es.size=cs.length/\∀(i:Nat) (x:AV) (e:MapEntry),cs[i]?=some x->es[i]?=some e->qaw G w x e
def ObR(G:Gh)(w:World)(blk:Nat)(p:Nat->Ow)(g:Nat)(cs:List AV):Prop:=
 match g with
 |0=>kh G w blk p cs
 |_+1=>qlf G w blk cs
structure Inv (G : Gh) (w : World) (st : St) (tmps : Array Value) : Prop where
 slots:∀k,zk G w k (qS st.sl k) (tmps.getD k undef)
 boxes:∀k g cs,jz st.bx k=some (g,cs)->∃blk,G.la k g=some blk/\G.Om blk= .box k g/\kh G w blk (.bc k g ·) cs
 heap:∀b g cs,st.hp.get b=some (g,cs)->∃blk,G.mu b g=some blk/\G.Om blk= .obj b g/\ObR G w blk (.oc b g ·) g cs
 next:∀b g,st.hp.next<=b->G.mu b g=none
 hlt:∀b g cs,st.hp.get b=some (g,cs)->b<st.hp.next
 new:∀b,w.heap.size<=b->G.Om b= .fr/\G.I b=0
 vars:∀b,(∃k g,G.Om b= .box k g)\/(∃k g,G.Om b= .obj k g)->G.I b=0
 lps:∀j k g off,qS st.sl j= .lp k g off->∃g' cs,jz st.bx k=some (g',cs)/\g<=g'
def Kq(w w':World):Prop:=w'.os=w.os/\w'.tape=w.tape/\w'.output=w.output
theorem Kq.refl(w:World):Kq w w:=⟨rfl,rfl,rfl⟩
theorem Kq.trans{w w' w'':World}(h:Kq w w')(h':Kq w' w''):Kq w w'':=⟨h'.1.trans h.1,h'.2.1.trans h.2.1,h'.2.2.trans h.2.2⟩
structure Fr (G : Gh) (w : World) (G' : Gh) (w' : World) : Prop where
 size:w.heap.size<=w'.heap.size
 cells:∀b i,i<G.I b->w'.cell? ⟨b,i,none⟩=w.cell? ⟨b,i,none⟩
 imm:∀b,G.I b<=G'.I b
 mu:∀b g x,G.mu b g=some x->G'.mu b g=some x
 same:∀b,b<w.heap.size->G.Om b= .fr\/G.Om b= .oth->w'.heap[b]?=w.heap[b]?/\G'.Om b=G.Om b/\G'.I b=G.I b
 rest:Kq w w'
 bs:∀b z,bsz w b=some z->bsz w' b=some z
theorem Fr.refl(G:Gh)(w:World):Fr G w G w:=⟨zm8 _,fun _ _ _=>rfl,fun _=>zm8 _,fun _ _ _ h=>h,fun _ _ _=>⟨rfl,rfl,rfl⟩,Kq.refl w,fun _ _ h=>h⟩
theorem Fr.trans{G G' G'':Gh}{w w' w'':World}(h:Fr G w G' w')(h':Fr G' w' G'' w''):Fr G w G'' w'':=by
 refine⟨zoi h.size h'.size,fun b i hi=>?_,fun b=>zoi (h.imm b) (h'.imm b),fun b g x hx=>h'.mu b g x (h.mu b g x hx),fun b hb ho=>?_,h.rest.trans h'.rest,fun b z hz=>h'.bs b z (h.bs b z hz)⟩
 ·rw[h'.cells b i (znp hi (h.imm b)),h.cells b i hi]
 ·obtain⟨a1,a2,a3⟩:=h.same b hb ho
  obtain⟨b1,b2,b3⟩:=h'.same b (znp hb h.size) (by rw[a2];exact ho)
  exact⟨b1.trans a1,b2.trans a2,b3.trans a3⟩
structure Ev (G : Gh) (w : World) (G' : Gh) (w' : World) : Prop where
 cells:∀b i,i<G.I b->w'.cell? ⟨b,i,none⟩=w.cell? ⟨b,i,none⟩
 imm:∀b,G.I b<=G'.I b
 mu:∀b g x,G.mu b g=some x->G'.mu b g=some x
 bs:∀b z,bsz w b=some z->bsz w' b=some z
theorem Fr.ev{G G':Gh}{w w':World}(h:Fr G w G' w'):Ev G w G' w':=⟨h.cells,h.imm,h.mu,h.bs⟩
theorem Ev.refl(G:Gh)(w:World):Ev G w G w:=(Fr.refl G w).ev
theorem RelR.ev{G G':Gh}{w w':World}(he:Ev G w G' w'){x:AV}{v:Value}(h:RelR G w x v):RelR G' w' x v:=by
 induction h with
 |sc v h=>exact .sc v h
 |sl0 sz a cap h=>exact .sl0 sz a cap h
 |sl sz cs n cap b o vs h1 h2 h3 h4 h5 h6 h7 hv _ ih=>
  refine .sl sz cs n cap b o vs h1 h2 h3 h4 (zoi h5 (he.imm b)) h6 (fun k c hk=>?_) hv ih
  have hlt:k<vs.length:=(zne.mp hk).1
  rw[he.cells b (o+k) qe]
  exact h7 k c hk
 |ptr b g off blk h=>exact .ptr b g off blk (he.mu _ _ _ h)
 |ms b g off n sz cap blk off' z h h' h'' h3 h4=>exact .ms b g off n sz cap blk off' z (he.mu _ _ _ h) h' h'' (he.bs _ _ h3) h4
 |fn f caps vs h0 h _ ih=>exact .fn f caps vs h0 h ih
 |map b blk h=>exact .map b blk (he.mu _ _ _ h)
 |fnb f bs vs h0 h _ ih=>exact .fnb f bs vs h0 h ih
theorem TokR.ev{G G':Gh}{w w':World}(he:Ev G w G' w'){sz:Nat}{cs:List AV}{v:Value}{b:Nat}(hb:w'.heap[b]?=w.heap[b]?) (hi:G'.I b=G.I b)
 (h:TokR G w sz cs v b):TokR G' w' sz cs v b:=by
 obtain⟨n,cap,arr,e,h1,h2,h3,h4,h5,h6,h7,h9⟩:=h.ex
 refine⟨⟨n,cap,arr,e,h1,h2,h3,h4,hi.trans h5,hb.trans h6,h7,fun k x hk=>?_⟩,h.vl⟩
 obtain⟨c,hc,hr⟩:=h9 k x hk
 exact⟨c,hc,hr.ev he⟩
def jf(G:Gh)(w:World)(G':Gh)(w':World)(p q:Ow):Prop:=∀b,G.Om b=p->w'.heap[b]?=w.heap[b]?/\G'.I b=G.I b/\G'.Om b=q
theorem yl.ev{G G':Gh}{w w':World}(he:Ev G w G' w'){p q:Ow}(hk:jf G w G' w' p q){x:AV}{v:Value}(h:yl G w p x v):yl G' w' q x v:=by
 cases x with
 |us sz cs=>
  obtain⟨b,hb,ht⟩:=h
  obtain⟨h1,h2,h3⟩:=hk b hb
  exact⟨b,h3,ht.ev he h1 h2⟩
 |agg _=>exact h
 |tup _=>exact h
 |sc _=>exact RelR.ev he h
 |sl _ _=>exact RelR.ev he h
 |ptr _ _ _=>exact RelR.ev he h
 |ms _ _ _ _ _=>exact RelR.ev he h
 |fn _ _=>exact RelR.ev he h
 |map _=>exact RelR.ev he h
theorem vC{G:Gh}{w:World}{p:Nat->Ow}{x:AV}{v:Value}(hx:∀cs,x≠ .agg cs):zT G w p x v=yl G w (p 0) x v:=by
 cases x<;>first|rfl|exact absurd rfl (hx _)
theorem Yw(x:AV):(∃cs,x= .agg cs)\/∀cs,x≠ .agg cs:=by
 cases x<;>first|exact .inl ⟨_,rfl⟩|exact .inr fun _ h=>by cases h
theorem zT.ev{G G':Gh}{w w':World}(he:Ev G w G' w'){p q:Nat->Ow}(hk:∀i,jf G w G' w' (p i) (q i)){x:AV}{v:Value}(h:zT G w p x v):zT G' w' q x v:=by
 rcases Yw x with⟨cs,rfl⟩|hx
 ·obtain⟨vs,h1,h2,h3⟩:=h
  exact⟨vs,h1,h2,fun i x c hx hc=>(h3 i x c hx hc).ev he (hk i)⟩
 ·rw[vC hx]at h⊢
  exact h.ev he (hk 0)
theorem zk.ev{G G':Gh}{w w':World}(he:Ev G w G' w'){k k':Nat}{s:SV}(hk:∀j i,jf G w G' w' (.sl k j i) (.sl k' j i))
 (hl:∀a g off x,s= .lp a g off->G.la a g=some x->G'.la a g=some x) {v:Value} (h:zk G w k s v):zk G' w' k' s v:=by
 cases s with
 |sv u=>exact h
 |av x=>exact zT.ev he (hk 0) h
 |tp l=>
  obtain⟨vs,h1,h2,h3⟩:=h
  exact⟨vs,h1,h2,fun j x c hx hc=>(h3 j x c hx hc).ev he (hk j)⟩
 |lp a g off=>
  obtain⟨blk,h1,h2⟩:=h
  exact⟨blk,hl a g off blk rfl h1,h2⟩
 |rv cs=>
  obtain⟨b,o,vs,h1,h2,h3,h4,h5⟩:=h
  refine⟨b,o,vs,h1,h2,fun i hi=>znp (h3 i hi) (he.imm b),fun k c hk=>?_,fun k x c hx hc=>(h5 k x c hx hc).ev he⟩
  have hlt:k<vs.length:=(zne.mp hk).1
  rw[he.cells b (o+k) (h3 k qe)]
  exact h4 k c hk
 |un=>trivial
 |ud=>exact h
theorem kh.ev{G G':Gh}{w w':World}(he:Ev G w G' w'){blk:Nat}{p q:Nat->Ow}{cs:List AV}(hb:w'.heap[blk]?=w.heap[blk]?)
 (hk:∀i,jf G w G' w' (p i) (q i)) (h:kh G w blk p cs):kh G' w' blk q cs:=by
 obtain⟨arr,e,h1,h2,h3⟩:=h
 exact⟨arr,e,hb.trans h1,h2,fun i x c hx hc=>(h3 i x c hx hc).ev he (hk i)⟩
theorem Vj.ev{G G':Gh}{w w':World}(he:Ev G w G' w'){x:AV}{v:Value}(h:Vj G w x v):Vj G' w' x v:=by
 cases x with
 |agg cs=>
  obtain⟨vs,h1,h2,h3⟩:=h
  exact⟨vs,h1,h2,fun i x c hx hc=>(h3 i x c hx hc).ev he⟩
 |tup _=>exact RelR.ev he h
 |us _ _=>exact RelR.ev he h
 |sc _=>exact RelR.ev he h
 |sl _ _=>exact RelR.ev he h
 |ptr _ _ _=>exact RelR.ev he h
 |ms _ _ _ _ _=>exact RelR.ev he h
 |fn _ _=>exact RelR.ev he h
 |map _=>exact RelR.ev he h
theorem qaw.ev{G G':Gh}{w w':World}(he:Ev G w G' w'){x:AV}{e:MapEntry}(h:qaw G w x e):qaw G' w' x e:=by
 unfold qaw at h⊢
 split at h
 ·exact⟨h.1,h.2.1,h.2.2.ev he⟩
 ·exact h.elim
theorem qlf.ev{G G':Gh}{w w':World}(he:Ev G w G' w'){blk:Nat}{cs:List AV}(hb:w'.heap[blk]?=w.heap[blk]?) (h:qlf G w blk cs):qlf G' w' blk cs:=by
 obtain⟨es,clock,h1,h2,h3⟩:=h
 exact⟨es,clock,hb.trans h1,h2,fun i x e hx hc=>(h3 i x e hx hc).ev he⟩
theorem ObR.ev{G G':Gh}{w w':World}(he:Ev G w G' w'){blk:Nat}{p q:Nat->Ow}{g:Nat}{cs:List AV}(hb:w'.heap[blk]?=w.heap[blk]?)
 (hk:∀i,jf G w G' w' (p i) (q i)) (h:ObR G w blk p g cs):ObR G' w' blk q g cs:=by
 cases g with
 |zero=>exact kh.ev he hb hk h
 |succ g=>exact qlf.ev he hb h
structure EvL (G : Gh) (w : World) (G' : Gh) (w' : World) : Prop where
 cells:∀b i,i<G.I b->w'.cell? ⟨b,i,none⟩=w.cell? ⟨b,i,none⟩
 imm:∀b,G.I b<=G'.I b
theorem RelR.evl{G G':Gh}{w w':World}(he:EvL G w G' w'){x:AV}{v:Value}(h:RelR G w x v)(hv:vl x=true):RelR G' w' x v:=by
 induction h with
 |sc v h=>exact .sc v h
 |sl0 sz a cap h=>exact .sl0 sz a cap h
 |sl sz cs n cap b o vs h1 h2 h3 h4 h5 h6 h7 hvl _ ih=>
  refine .sl sz cs n cap b o vs h1 h2 h3 h4 (zoi h5 (he.imm b)) h6 (fun k c hk=>?_) hvl (fun k x c hx hc=>ih k x c hx hc (hvl x (znh hx)))
  have hlt:k<vs.length:=(zne.mp hk).1
  rw[he.cells b (o+k) qe]
  exact h7 k c hk
 |ptr b g off blk h=>cases hv
 |ms b g off n sz cap blk off' z h h' h'' h3 h4=>cases hv
 |fn f caps vs h0 h h' ih=>
  have:caps=[]:=by simpa[AI.vl]using hv
  subst this
  exact .fn f [] vs h0 h (by intro k x c hx;simp at hx)
 |map b blk h=>cases hv
 |fnb f bs vs h0 h h' ih=>
  have:bs=[]:=by simpa[AI.vl]using hv
  exact absurd this h0
theorem TokR.evl{G G':Gh}{w w':World}(he:EvL G w G' w'){sz:Nat}{cs:List AV}{v:Value}{b:Nat}(hb:w'.heap[b]?=w.heap[b]?) (hi:G'.I b=G.I b)
 (h:TokR G w sz cs v b):TokR G' w' sz cs v b:=by
 obtain⟨n,cap,arr,e,h1,h2,h3,h4,h5,h6,h7,h9⟩:=h.ex
 refine⟨⟨n,cap,arr,e,h1,h2,h3,h4,hi.trans h5,hb.trans h6,h7,fun k x hk=>?_⟩,h.vl⟩
 obtain⟨c,hc,hr⟩:=h9 k x hk
 exact⟨c,hc,hr.evl he (h.vl x (znh hk))⟩
theorem yl.evl{G G':Gh}{w w':World}(he:EvL G w G' w'){p q:Ow}(hk:jf G w G' w' p q){x:AV}{v:Value}(h:yl G w p x v)(hv:vl x=true):yl G' w' q x v:=by
 cases x with
 |us sz cs=>
  obtain⟨b,hb,ht⟩:=h
  obtain⟨h1,h2,h3⟩:=hk b hb
  exact⟨b,h3,ht.evl he h1 h2⟩
 |agg _=>exact h
 |tup _=>exact h
 |sc _=>exact RelR.evl he h hv
 |sl _ _=>exact RelR.evl he h hv
 |ptr _ _ _=>exact RelR.evl he h hv
 |ms _ _ _ _ _=>exact RelR.evl he h hv
 |fn _ _=>exact RelR.evl he h hv
 |map _=>exact RelR.evl he h hv
theorem zT.evl{G G':Gh}{w w':World}(he:EvL G w G' w'){p q:Nat->Ow}(hk:∀i,jf G w G' w' (p i) (q i)){x:AV}{v:Value}(h:zT G w p x v)(hv:vlF x=true):zT G' w' q x v:=by
 rcases Yw x with⟨cs,rfl⟩|hx
 ·obtain⟨vs,h1,h2,h3⟩:=h
  exact⟨vs,h1,h2,fun i x c hx hc=>(h3 i x c hx hc).evl he (hk i) (zn8.mp hv x (znh hx))⟩
 ·rw[vC hx]at h⊢
  have hv':vl x=true:=by
   cases x<;>first|exact hv|exact absurd rfl (hx _)
  exact h.evl he (hk 0) hv'
theorem Ev.evl{G G':Gh}{w w':World}(h:Ev G w G' w'):EvL G w G' w':=⟨h.cells,h.imm⟩
theorem zQ{w:World}{b:Nat}{arr:Array Value}{e:TypeId}{fz:Nat×Nat}(h:w.heap[b]?=some (.cells arr e fz)) (i:Nat):w.cell? ⟨b,i,none⟩=arr[i]?:=by
 simp[World.cell?,h]
theorem qF{α β:Type}(f:α->β)(l:List α)(i:Nat)(y:β)(h:(l.map f)[i]?=some y):∃x,l[i]?=some x/\f x=y:=by
 rw[zno]at h
 cases hx:l[i]? with
 |none=>rw[hx]at h;cases h
 |some x=>rw[hx]at h;cases h;exact⟨x,rfl,rfl⟩
theorem zC{α β:Type}{l:List α}{m:List β}(h:l.length=m.length){i:Nat}{x:α}(hx:l[i]?=some x):∃y,m[i]?=some y:=by
 have:i<m.length:=by rw[<-h];exact(zne.mp hx).1
 exact⟨m[i],znb this⟩
theorem TokR.ro{G:Gh}{w:World}{sz:Nat}{cs:List AV}{v:Value}{b:Nat}(h:TokR G w sz cs v b):RelR G w (.sl sz cs) v:=by
 obtain⟨n,cap,arr,e,rfl,h2,h3,h4,h5,h6,h7,h9⟩:=h.ex
 by_cases hn:n=0
 ·subst hn
  have:cs=[]:=znk.mp (by simpa using h3)
  subst this
  exact .sl0 sz _ cap h2
 ·have hle:cs.length<=arr.size:=by rw[h3,h7];exact znr sz h4
  refine .sl sz cs n cap b 0 (arr.toList.take cs.length) h2 qe h3 h4 qe qi (fun k c hk=>?_) h.vl (fun k x c hx hc=>?_)
  ·rw[znf,zQ h6]
   rw[znj]at hk
   split at hk
   ·simpa using hk
   ·cases hk
  ·obtain⟨c',hc',hr⟩:=h9 k x hx
   rw[znj]at hc
   split at hc
   ·have:arr[k]?=some c:=by simpa using hc
    rw[this]at hc';cases hc';exact hr
   ·cases hc
theorem yl.ro{G:Gh}{w:World}{p:Ow}{x:AV}{v:Value}(h:yl G w p x v):RelR G w (ro1 x) v:=by
 cases x with
 |us sz cs=>obtain⟨b,_,ht⟩:=h;exact ht.ro
 |agg _=>exact h.elim
 |tup _=>exact h.elim
 |sc _=>exact h
 |sl _ _=>exact h
 |ptr _ _ _=>exact h
 |ms _ _ _ _ _=>exact h
 |fn _ _=>exact h
 |map _=>exact h
theorem RelR.c{G:Gh}{w:World}{x:AV}{v:Value}(h:RelR G w x v)(p:Ow):yl G w p x v:=by
 cases h with
 |sc v h=>exact .sc v h
 |sl0 sz a cap h=>exact .sl0 sz a cap h
 |sl sz cs n cap b o vs h1 h2 h3 h4 h5 h6 h7 h8 h9=>exact RelR.sl sz cs n cap b o vs h1 h2 h3 h4 h5 h6 h7 h8 h9
 |ptr b g off blk h=>exact RelR.ptr b g off blk h
 |ms b g off n sz cap blk off' z h h' h'' h3 h4=>exact RelR.ms b g off n sz cap blk off' z h h' h'' h3 h4
 |fn f caps vs h0 h h'=>exact RelR.fn f caps vs h0 h h'
 |map b blk h=>exact RelR.map b blk h
 |fnb f bs vs h0 h h'=>exact RelR.fnb f bs vs h0 h h'
theorem Wm{G:Gh}{w:World}{x:AV}{v:Value}(h:RelR G w x v):ro1 x=x:=by cases h<;>rfl
theorem RelR.ne_agg{G:Gh}{w:World}{x:AV}{v:Value}(h:RelR G w x v):∀cs,x≠ .agg cs:=by cases h<;>intro cs h<;>cases h
theorem yl.ne_agg{G:Gh}{w:World}{p:Ow}{x:AV}{v:Value}(h:yl G w p x v):∀cs,x≠ .agg cs:=by
 rintro cs rfl;exact h
theorem qiy{x:AV}(hx:∀cs,x≠ .agg cs):ro x=ro1 x:=by
 cases x<;>first|rfl|exact absurd rfl (hx _)
theorem yl.v{G:Gh}{w:World}{p:Nat->Ow}{x:AV}{v:Value}(h:yl G w (p 0) x v):zT G w p x v:=by
 rw[vC h.ne_agg];exact h
theorem zT.ro{G G':Gh}{w w':World}(he:Ev G w G' w'){p:Nat->Ow}(q:Nat->Ow){x:AV}{v:Value}(h:zT G w p x v):zT G' w' q (AI.ro x) v:=by
 rcases Yw x with⟨cs,rfl⟩|hx
 ·obtain⟨vs,h1,h2,h3⟩:=h
  refine⟨vs,h1,by simpa using h2,fun i x c hx hc=>?_⟩
  obtain⟨y,hy,rfl⟩:=qF _ _ _ _ hx
  exact((h3 i y c hy hc).ro.ev he).c _
 ·rw[vC hx]at h
  rw[qiy hx]
  exact((h.ro.ev he).c (q 0)).v
theorem zk.ro{G G':Gh}{w w':World}(he:Ev G w G' w'){k:Nat}(k':Nat){s:SV}{v:Value}
 (hl:∀a g off x,s= .lp a g off->G.la a g=some x->G'.la a g=some x) (h:zk G w k s v):zk G' w' k' s.ro v:=by
 cases s with
 |sv u=>exact h
 |av x=>exact zT.ro he _ h
 |tp l=>
  obtain⟨vs,h1,h2,h3⟩:=h
  refine⟨vs,h1,by simpa using h2,fun j x c hx hc=>?_⟩
  obtain⟨y,hy,rfl⟩:=qF _ _ _ _ hx
  exact(h3 j y c hy hc).ro he _
 |lp a g off=>
  obtain⟨blk,h1,h2⟩:=h
  exact⟨blk,hl a g off blk rfl h1,h2⟩
 |rv cs=>
  obtain⟨b,o,vs,h1,h2,h3,h4,h5⟩:=h
  refine⟨b,o,vs,h1,h2,fun i hi=>znp (h3 i hi) (he.imm b),fun k c hk=>?_,fun k x c hx hc=>(h5 k x c hx hc).ev he⟩
  have hlt:k<vs.length:=(zne.mp hk).1
  rw[he.cells b (o+k) (h3 k qe)]
  exact h4 k c hk
 |un=>trivial
 |ud=>exact h
theorem zJ(l:Slots)(d:Nat)(s:SV)(k:Nat):qS ((d,s)::l) k=if d=k then s else qS l k:=by
 simp only[qS]
 by_cases e:d=k
 ·subst e;simp[Xw]
 ·simp[qhk e,e]
theorem vR(l:Boxes)(d g:Nat)(cs:List AV)(k:Nat):jz (VQ l d g cs) k=if d=k then some (g,cs)else jz l k:=by
 simp only[VQ,jz]
 by_cases e:d=k
 ·subst e;simp[Xw]
 ·simp[qhk e,e]
theorem YC(a:Act)(d:Nat)(v:Value)(hd:d<a.tmps.size)(k:Nat):((a.put (some d) v).tmps).getD k undef=if d=k then v else a.tmps.getD k undef:=by
 simp only[Act.put]
 by_cases e:d=k
 ·subst e
  simp[Array.getD,hd]
 ·simp only[Array.getD_eq_getD_getElem?,e,if_false]
  rw[Array.getElem?_setIfInBounds_ne e]
theorem zK(a:Act)(d:Option Nat)(v:Value):(a.put d v).tmps.size=a.tmps.size:=by
 cases d<;>simp[Act.put]
theorem ze(a:Act)(d:Option Nat)(v:Value):(a.put d v).defers=a.defers:=by
 cases d<;>rfl
theorem zd1(t:Nat)(l:Slots)(k:Nat):qS (dn t l) k=if t=k then(qS l k).ro else qS l k:=by
 unfold dn
 rw[zJ]
 by_cases e:t=k
 ·subst e;simp
 ·simp[e]
theorem zeq(x:AV):ro1 (ro1 x)=ro1 x:=by cases x<;>rfl
theorem ro_ro(x:AV):ro (ro x)=ro x:=by
 cases x with
 |agg cs=>simp[ro,zrd,Function.comp_def,zeq]
 |_=>rfl
theorem SV.ro_ro(s:SV):s.ro.ro=s.ro:=by
 cases s with
 |av x=>simp[SV.ro,AI.ro_ro]
 |tp l=>simp[SV.ro,zrd,Function.comp_def,AI.ro_ro]
 |_=>rfl
theorem jw(ts:List Nat):∀(l:Slots) (k:Nat),qS (zb ts l) k=if k∈ts then(qS l k).ro else qS l k:=by
 induction ts with
 |nil=>intro l k;simp[zb]
 |cons t ts ih=>
  intro l k
  have:zb (t::ts) l=zb ts (dn t l):=rfl
  rw[this,ih,zd1]
  by_cases h1:t=k
  ·subst h1
   by_cases h2:t∈ts<;>simp[h2,SV.ro_ro]
  ·have h1':¬k=t:=fun h=>h1 h.symm
   by_cases h2:k∈ts<;>simp[h1,h1',h2]
theorem KK{s:SV}{k g off:Nat}:s.ro= .lp k g off↔s= .lp k g off:=by
 cases s<;>simp[SV.ro]
def Gh.rel(G:Gh)(f:Ow->Ow):Gh:={G with Om:=fun b=>f (G.Om b)}
structure Rho (f : Ow → Ow) : Prop where
 fr:f .fr= .fr
 oth:f .oth= .oth
 box:∀p k g,f p= .box k g->p= .box k g
 obj:∀p k g,f p= .obj k g->p= .obj k g
theorem Fr.rel{G:Gh}{w:World}{f:Ow->Ow}(hf:Rho f):Fr G w (G.rel f) w:=
 ⟨zm8 _,fun _ _ _=>rfl,fun _=>zm8 _,fun _ _ _ h=>h,fun b _ ho=>⟨rfl,by
  simp only[Gh.rel]
  rcases ho with h|h<;>rw[h]
  ·exact hf.fr
  ·exact hf.oth,rfl⟩,Kq.refl w,fun _ _ h=>h⟩
def DOk(d:TypeDesc)(k:TK):Prop:=
 match k with
 | .sc=>∀x,(d matches .struct _| .array _ _| .slice _)=x->x=false
 | .ot=>∀x,(d matches .struct _| .array _ _| .slice _)=x->x=false
 | .tu=>True
 | .sl e=>d= .slice e
 | .mp q e=>d= .map q e
 | .ar n e=>d= .array n e
 | .st fs=>∃fields:Array Field,d= .struct fields/\fields.toList.map (fun f=>(f.offset,f.type))=fs
def TOk(P:Program)(t:TypeId)(ti:TI):Prop:=
 (qoj ti=true->P.underlying t=some (.int .u8))/\(qdc ti=true->P.underlying t=some .string)/\
 ∃info d,P.info? t=some info/\P.underlying t=some d/\DOk d ti.k/\info.bytes=ti.bytes/\
  (JH ti.k=false->info.size=ti.size/\∃z,info.zero=some z/\z.cells.toList=ti.zero/\ti.zero.length=ti.size/\∀v∈ti.zero,v.oneCell'=true)
structure Ok (c : Cx) : Prop where
 tt:∀t ti,c.tt t=some ti->TOk c.P t ti
 ti:∀t ti,c.tt t=some ti->qqy ti=true->∃k,c.P.underlying t=some (.int k)
 tb:∀t ti,c.tt t=some ti->qqz ti=true->c.P.underlying t=some .bool
 tp:∀t ti,c.tt t=some ti->zf1 ti=true->∃e,c.P.underlying t=some (.pointer e)
 zf:∀t ti,c.tt t=some ti->JH ti.k=false->∀info z,c.P.info? t=some info->info.zero=some z->(xL ti.k=true->∃vs,z= .agg vs)/\(xL ti.k=false->z.oneCell'=true)
 F:∀f fn,c.F f=some fn->c.P.funcs[f]?=some fn
 nm:∀f fn,c.F f=some fn->(fn.name== "runtime.NumGoroutine")=false
 X:∀f fn vs v,c.F f=some fn->fn.body=none->c.X f vs=some v->∀w,(callFunc f vs.toArray).run c.P w= .ok (.value v) w
 mixed:c.P.follows .mixedOrders=true
theorem qy{c:Cx}{t:TypeId}{ti:TI}(h:c.tn t=some ti):c.tt t=some ti/\JH ti.k=false:=by
 unfold Cx.tn at h
 split at h
 ·rename_i ti' h'
  cases hk:JH ti'.k with
  |true=>simp[hk]at h
  |false=>simp[hk]at h;subst h;exact⟨h',hk⟩
 ·cases h
section
variable {P:Program}{t:TypeId}{ti:TI}{w:World}
theorem TOk.sizeOf(h:TOk P t ti)(hk:JH ti.k=false)(w:World):(sizeOf t).run P w= .ok ti.size w:=by
 obtain⟨_,_,info,d,h1,h2,h3,h4,h5⟩:=h
 rw[run_sizeOf w h1]
 have:P.cellsOf t=ti.size:=by simp[Program.cellsOf,h1,(h5 hk).1]
 rw[this]
theorem TOk.zero(h:TOk P t ti)(hk:JH ti.k=false):∃z,z.cells.toList=ti.zero/\ti.zero.length=ti.size/\(∀v∈ti.zero,v.oneCell'=true)/\∀w,(zeroValue t).run P w= .ok z w:=by
 obtain⟨_,_,info,d,h1,h2,h3,h4,h5⟩:=h
 obtain⟨h6,z,h7,h8,h9,h10⟩:=h5 hk
 exact⟨z,h8,h9,h10,fun w=>by simp[zeroValue,typeInfo,h1,h7]⟩
theorem TOk.isAgg(h:TOk P t ti)(hk:JH ti.k=false)(w:World):(Go.isAgg t).run P w= .ok (xL ti.k) w:=by
 obtain⟨_,_,info,d,h1,h2,h3,h4,h5⟩:=h
 unfold Go.isAgg
 simp only[Sem.run_bind,run_underlying h2,Result.andThen_ok]
 cases hti:ti.k with
 |sc=>
  rw[hti]at h3
  cases d<;>first|rfl|(have:=h3 _ rfl;cases this)
 |ot=>
  rw[hti]at h3
  cases d<;>first|rfl|(have:=h3 _ rfl;cases this)
 |tu=>rw[hti]at hk;cases hk
 |sl e=>rw[hti]at h3;cases h3;rfl
 |mp q e=>rw[hti]at h3;cases h3;rfl
 |ar n e=>rw[hti]at h3;cases h3;rfl
 |st fs=>rw[hti]at h3;obtain⟨fields,rfl,_⟩:=h3;rfl
theorem TOk.bytes(h:TOk P t ti):∃info,P.info? t=some info/\info.bytes=ti.bytes:=by
 obtain⟨_,_,info,d,h1,h2,h3,h4,h5⟩:=h
 exact⟨info,h1,h4⟩
theorem TOk.und(h:TOk P t ti):∃d,P.underlying t=some d/\DOk d ti.k:=by
 obtain⟨_,_,info,d,h1,h2,h3,h4,h5⟩:=h
 exact⟨d,h2,h3⟩
end
theorem RelR.one{G:Gh}{w:World}{x:AV}{v:Value}(h:RelR G w x v):v.oneCell'=true:=by
 cases h<;>first|rfl|assumption
theorem yl.one{G:Gh}{w:World}{p:Ow}{x:AV}{v:Value}(h:yl G w p x v):v.oneCell'=true:=by
 cases x with
 |us sz cs=>
  obtain⟨b,_,ht⟩:=h
  obtain⟨n,cap,arr,e,rfl,_⟩:=ht.ex
  rfl
 |agg _=>exact h.elim
 |tup _=>exact h.elim
 |sc _=>exact RelR.one h
 |sl _ _=>exact RelR.one h
 |ptr _ _ _=>exact RelR.one h
 |ms _ _ _ _ _=>exact RelR.one h
 |fn _ _=>exact RelR.one h
 |map _=>exact RelR.one h
theorem Km{v:Value}(h:v.oneCell'=true):v.cells=#[v]:=by cases v<;>first|rfl|cases h
def Vi(G:Gh)(w:World)(p:Nat->Ow)(l:List AV)(vs:List Value):Prop:=
 l.length=vs.length/\∀(i:Nat) (x:AV) (c:Value),l[i]?=some x->vs[i]?=some c->yl G w (p i) x c
theorem Vi.ev{G G':Gh}{w w':World}(he:Ev G w G' w'){p q:Nat->Ow}(hk:∀i,jf G w G' w' (p i) (q i)){l:List AV}{vs:List Value}(h:Vi G w p l vs):Vi G' w' q l vs:=
 ⟨h.1,fun i x c hx hc=>(h.2 i x c hx hc).ev he (hk i)⟩
theorem Vi.one{G:Gh}{w:World}{p:Nat->Ow}{l:List AV}{vs:List Value}(h:Vi G w p l vs):∀v∈vs,v.oneCell'=true:=by
 intro v hv
 obtain⟨i,hi,rfl⟩:=zpr hv
 have hl:i<l.length:=by rw[h.1];exact hi
 exact(h.2 i l[i] vs[i] (znb hl) (znb hi)).one
theorem zT.cells{G:Gh}{w:World}{p:Nat->Ow}{x:AV}{v:Value}{n:Nat}{l:List AV}(h:zT G w p x v)(hl:qn n x=some l):
 l.length=n/\Vi G w p l v.cells.toList:=by
 rcases Yw x with⟨cs,rfl⟩|hx
 ·obtain⟨vs,rfl,h2,h3⟩:=h
  simp only[qn]at hl
  split at hl
  ·cases hl
   rename_i hn
   exact⟨hn,by simpa[Value.cells]using h2,fun i x c hx hc=>h3 i x c hx (by simpa[Value.cells]using hc)⟩
  ·cases hl
 ·rw[vC hx]at h
  have h1:qn n x=if n=1 then some [x]else none:=by
   cases x<;>first|rfl|exact absurd rfl (hx _)|exact h.elim
  rw[h1]at hl
  split at hl
  ·cases hl
   rename_i hn
   rw[Km h.one]
   refine⟨by simp[hn],qg,fun i x c hx hc=>?_⟩
   match i,hx,hc with
   |0,hx,hc=>simp at hx hc;subst hx;subst hc;exact h
   |i+1,hx,hc=>simp at hx
  ·cases hl
theorem zk.valC{G:Gh}{w:World}{k:Nat}{s:SV}{v:Value}{n:Nat}{l:List AV}(h:zk G w k s v)(hl:valC n s=some l):
 l.length=n/\Vi G w (.sl k 0 ·) l v.cells.toList:=by
 cases s with
 |sv u=>
  obtain⟨rfl,h1⟩:=h
  simp only[AI.valC]at hl
  split at hl
  ·cases hl
   rename_i hn
   rw[Km h1]
   refine⟨by simp[hn],qg,fun i x c hx hc=>?_⟩
   match i,hx,hc with
   |0,hx,hc=>simp at hx hc;subst hx;subst hc;exact .sc _ h1
   |i+1,hx,hc=>simp at hx
  ·cases hl
 |av x=>exact zT.cells h hl
 |lp _ _ _=>cases hl
 |rv _=>cases hl
 |tp _=>cases hl
 |un=>cases hl
 |ud=>cases hl
end Go.Proofs.YtmajcennjgjlnaaGreat.AI
