/- Texts that the proof of FuseThree rests on, part 1. -/
import Derived.WalkKit
import Derived.KernelRfl
import Derived.Laws.CopyRow
namespace Go.Proofs.YtmajcennjgjlnaaGreat.AI
open Go
theorem bsm {A B : Type} {x : Option A} {f : A → Option B} {b : B} (h : x.bind f = some b) : ∃ a, x = some a ∧ f a = some b := Option.bind_eq_some_iff.mp h
theorem qe{p:Prop}(h:p:=by omega):p:=h
theorem qg{p:Prop}(h:p:=by simp):p:=h
theorem qh{p:Prop}(h:p:=by decide):p:=h
theorem qi{p:Prop}(h:p:=by simp;omega):p:=h
abbrev zm9:=@List.length_append
abbrev zna:=@List.length_cons
abbrev znb:=@List.getD_eq_getElem?_getD
abbrev znc:=@Option.bind_some
abbrev znd:=@Nat.le_refl
abbrev zne:=@List.mem_cons
abbrev znf:=@Option.bind_assoc
abbrev zng:=@List.getElem?_eq_getElem
abbrev znh:=@List.pairwise_cons
abbrev zni:=@List.getElem?_eq_some_iff
abbrev znj:=@Int.toNat_natCast
abbrev znk:=@Nat.zero_add
abbrev znl:=@List.length_singleton
abbrev znm:=@List.mem_of_getElem?
abbrev znn:=@Nat.testBit_mod_two_pow
abbrev zno:=@List.getElem?_take
abbrev znp:=@List.length_eq_zero_iff
abbrev znq:=@List.take_succ_cons
abbrev znr:=@List.getElem_mem
abbrev zns:=@List.length_nil
abbrev znt:=@List.getElem?_map
abbrev znu:=@Nat.lt_of_lt_of_le
abbrev znv:=@List.append_assoc
abbrev znw:=@Nat.mul_le_mul_right
abbrev znx:=@BitVec.toNat_ofInt
abbrev zny:=@List.getElem?_append_right
abbrev znz:=@List.append_nil
abbrev zn0:=@List.take_of_length_le
abbrev zn1:=@Option.some.inj
abbrev zn2:=@Nat.zero_le
abbrev zn3:=@List.getElem?_append_left
abbrev zn4:=@List.nil_append
abbrev zn5:=@Nat.mul_le_mul
abbrev zn6:=@List.drop_eq_getElem_cons
abbrev zn7:=@List.getElem?_eq_none
abbrev zn8:=@List.mem_map
abbrev zn9:=@Nat.testBit_or
abbrev zoa:=@Nat.testBit_div_two_pow
abbrev zob:=@Nat.pow_le_pow_right
abbrev zoc:=@List.size_toArray
abbrev zod:=@List.all_eq_true
abbrev zoe:=@List.length_take
abbrev zof:=@Nat.mul_comm
abbrev zog:=@List.map_cons
abbrev zoh:=@List.drop_eq_nil_of_le
abbrev zoi:=@Int.tdiv_eq_ediv_of_nonneg
abbrev zoj:=@List.mem_append
abbrev zok:=@Nat.mul_le_mul_left
abbrev zol:=@Nat.eq_of_testBit_eq
abbrev zom:=@Nat.testBit_two_pow
abbrev zon:=@Nat.le_trans
abbrev zoo:=@List.getElem?_drop
abbrev zop:=@Nat.div_mul_le_self
abbrev zoq:=@Nat.mod_eq_of_lt
abbrev zor:=@Bool.false_eq_true
abbrev zos:=@Int.fdiv_eq_ediv_of_nonneg
abbrev zot:=@Array.length_toList
abbrev zou:=@List.length_pos_iff
abbrev zov:=@List.mem_of_mem_take
abbrev zow:=@Nat.lt_of_le_of_lt
abbrev zox:=@Int.toNat_of_nonneg
abbrev zoy:=@Nat.add_zero
abbrev zoz:=@Nat.add_assoc
abbrev zo0:=@Bool.and_eq_true
abbrev zo1:=@List.cons_append
abbrev zo2:=@Nat.mul_one
abbrev zo3:=@Array.getElem?_append_left
abbrev zo4:=@Nat.pow_succ
abbrev zo5:=@BitVec.toNat_ofNat
abbrev zo6:=@BitVec.ofInt_natCast
abbrev zo7:=@List.length_drop
abbrev zo8:=@Nat.mul_assoc
abbrev zo9:=@List.eq_of_mem_replicate
abbrev zpa:=@List.drop_zero
abbrev zpb:=@List.length_map
abbrev zpc:=@List.pairwise_append
abbrev zpd:=@Nat.testBit_eq_decide_div_mod_eq
abbrev zpe:=@Int.ofNat_eq_natCast
abbrev zpf:=@Nat.ne_of_lt
abbrev zpg:=@Nat.div_div_eq_div_mul
abbrev zph:=@List.ext_getElem?
abbrev zpi:=@List.take_add_one
abbrev zpj:=@List.replicate_succ
abbrev zpk:=@Nat.two_pow_pos
abbrev zpl:=@Nat.div_le_self
abbrev zpm:=@List.take_length
abbrev zpn:=@List.mem_cons_of_mem
abbrev zpo:=@List.replicate_succ'
abbrev zpp:=@Nat.div_le_div_right
abbrev zpq:=@List.getElem?_cons_succ
abbrev zpr:=@Array.size_append
abbrev zps:=@Option.map_some
abbrev zpt:=@BitVec.toNat_or
abbrev zpu:=@Nat.two_pow_add_eq_or_of_lt
abbrev zpv:=@List.getElem_of_mem
abbrev zpw:=@List.getElem?_range
abbrev zpx:=@List.drop_succ_cons
abbrev zpy:=@Nat.add_mul
abbrev zpz:=@Nat.pow_add
abbrev zp0:=@Array.getElem?_eq_some_iff
abbrev zp1:=@Int.cast_ofNat_Int
abbrev zp2:=@List.mem_or_eq_of_mem_set
abbrev zp3:=@List.map_nil
abbrev zp4:=@Nat.min_eq_left
abbrev zp5:=@Nat.and_two_pow_sub_one_eq_mod
abbrev zp6:=@List.getElem?_cons_zero
abbrev zp7:=@BitVec.toNat_and
abbrev zp8:=@List.tail_cons
abbrev zp9:=@Nat.mod_lt
abbrev zqa:=@Nat.zero_mul
abbrev zqb:=@Nat.lt_or_ge
abbrev zqc:=@Nat.eq_zero_or_pos
abbrev zqd:=@List.mem_singleton
abbrev zqe:=@Nat.le_of_lt
abbrev zqf:=@Nat.le_div_iff_mul_le
abbrev zqg:=@List.drop_left
abbrev zqh:=@Nat.div_eq_of_lt
abbrev zqi:=@Nat.le_mul_of_pos_right
abbrev zqj:=@List.mem_cons_self
abbrev zqk:=@Bool.or_eq_true
abbrev zql:=@Option.map_eq_some_iff
abbrev zqm:=@Nat.testBit_lt_two_pow
abbrev zqn:=@List.getElem?_set
abbrev zqo:=@List.getElem?_toArray
abbrev zqp:=@List.set_append_right
abbrev zqq:=@Nat.mul_lt_mul_of_pos_right
abbrev zqr:=@Nat.testBit_two_pow_mul_add
abbrev zqs:=@List.mem_of_mem_drop
abbrev zqt:=@Nat.lt_succ_self
abbrev zqu:=@Nat.pow_lt_pow_right
abbrev zqv:=@Nat.add_eq
abbrev zqw:=@Nat.le_of_mul_le_mul_right
abbrev zqx:=@List.map_take
abbrev zqy:=@Bool.true_and
abbrev zqz:=@Nat.lt_of_mul_lt_mul_right
abbrev zq0:=@Array.getElem?_eq_getElem
abbrev zq1:=@Nat.testBit_and
abbrev zq2:=@Nat.add_comm
abbrev zq3:=@Nat.zero_div
abbrev zq4:=@List.mem_range
abbrev zq5:=@List.flatten_cons
abbrev zq6:=@List.take_sublist
abbrev zq7:=@Option.some.injEq
abbrev zq8:=@List.getElem?_set_self
abbrev zq9:=@Array.getElem?_eq_none
abbrev zra:=@List.take_nil
abbrev zrb:=@List.not_mem_nil
abbrev zrc:=@Nat.and_le_right
abbrev zrd:=@List.drop_append
abbrev zre:=@List.append_cons
abbrev zrf:=@List.take_append_drop
abbrev zrg:=@List.length_replicate
abbrev zrh:=@List.map_map
abbrev zri:=@List.getElem?_set_ne
abbrev zrj:=@Array.eq_empty_of_size_eq_zero
abbrev zrk:=@Array.ext'
abbrev zrl:=@Int.natCast_add
abbrev zrm:=@Int.natCast_one
abbrev zrn:=@Array.getElem?_push
abbrev zro:=@List.map_congr_left
abbrev zrp:=@List.take_take
abbrev zrq:=@List.take_left
abbrev zrr:=@Nat.mul_pos
abbrev zrs:=@Nat.mul_div_cancel
abbrev zrt:=@Nat.pos_of_ne_zero
abbrev zru:=@Int.natCast_nonneg
abbrev zrv:=@List.sum_cons
abbrev zrw:=@Int.lt_trichotomy
abbrev zrx:=@Nat.or_lt_two_pow
abbrev zry:=@Nat.sub_zero
abbrev zrz:=@List.map_set
end Go.Proofs.YtmajcennjgjlnaaGreat.AI
namespace Go.Proofs.YtmajcennjgjlnaaGreat.AI
open Go
set_option linter.unusedVariables false
set_option linter.unusedSimpArgs false
set_option maxRecDepth 100000
set_option maxHeartbeats 0
inductive AV where
 |sc (v:Value)
 |sl (sz:Nat) (cs:List AV)
 |us (sz:Nat) (cs:List AV)
 |agg (cs:List AV)
 |tup (vs:List AV)
 |ptr (b g off:Nat)
 |ms (b g off len sz:Nat)
 |fn (f:FuncId) (cap:List AV)
 |map (b:Nat)
structure Hp where
 next:Nat
 get:Nat->Option (Nat×List AV)
def hp0:Hp:=⟨0,fun _=>none⟩
def Hp.rd(h:Hp)(b g:Nat):Option (List AV):=(h.get b).bind fun p=>if p.1=g/\g=0 then some p.2 else none
def Hp.rdM(h:Hp)(b:Nat):Option (List AV):=(h.get b).bind fun p=>if p.1=1 then some p.2 else none
def Hp.del(h:Hp)(b:Nat):Hp:=⟨h.next,fun x=>if x=b then none else h.get x⟩
def Hp.newM(h:Hp):Hp:=⟨h.next+1,fun x=>if x=h.next then some (1,[])else h.get x⟩
def Hp.put(h:Hp)(b g:Nat)(cs:List AV):Hp:=⟨h.next,fun x=>if x=b then some (g,cs)else h.get x⟩
def Hp.new(h:Hp)(cs:List AV):Hp:=⟨h.next+1,fun x=>if x=h.next then some (0,cs)else h.get x⟩
inductive SV where
 |sv (v:Value)
 |av (x:AV)
 |lp (k g off:Nat)
 |rv (cs:List AV)
 |tp (l:List AV)
 |un
 |ud
inductive TK where
 |sc|ot|tu
 |sl (e:TypeId)
 |mp (k e:TypeId)
 |ar (n:Nat) (e:TypeId)
 |st (fs:List (Nat×TypeId))
structure TI where
 k:TK
 size:Nat
 bytes:Nat
 zero:List Value
abbrev Boxes:=List (Nat×Nat×List AV)
abbrev Slots:=List (Nat×SV)
structure St where
 sl:Slots
 bx:Boxes
 hp:Hp
structure Cx where
 P:Program
 tt:TypeId->Option TI
 F:FuncId->Option Func
 X:FuncId->List Value->Option Value
 H:FuncId->Nat->Nat->Nat
 M:FuncId->Nat->Option (List Nat)
def zB{α:Type}(P:Program):Sem α->Option α
 | .pure a=>some a
 | .program k=>zB P (k P)
 | .mark _ k=>zB P k
 |_=>none
def ro1:AV->AV
 | .us s c=>.sl s c
 |x=>x
def ro:AV->AV
 | .us s c=>.sl s c
 | .agg cs=>.agg (cs.map ro1)
 |x=>x
def vl:AV->Bool
 | .sc _=>true
 | .sl _ _=>true
 | .us _ _=>true
 | .fn _ c=>c.isEmpty
 |_=>false
def vlF:AV->Bool
 | .agg cs=>cs.all vl
 |x=>vl x
def vlV:AV->Bool
 | .tup l=>l.all vlF
 |x=>vlF x
def SV.ro:SV->SV
 | .av x=>.av (AI.ro x)
 | .tp l=>.tp (l.map AI.ro)
 |s=>s
def Qz:AV->Option Value
 | .sc v=>some v
 |_=>none
def asB:Value->Option Bool
 | .bool b=>some b
 |_=>none
def Vn:Value->Option Int
 | .int _ n=>some n
 |_=>none
def qs(cs:List AV)(i:Nat):Option AV:=cs[i]?
def ql(cs:List AV)(i:Nat):Option Value:=(cs[i]?).bind Qz
def qr(cs:List AV)(i n:Nat):Option (List AV):=if i+n<=cs.length then some ((cs.drop i).take n)else none
def qo(cs:List AV)(i:Nat)(vs:List AV):Option (List AV):=
 if i+vs.length<=cs.length then some (cs.take i++vs++cs.drop (i+vs.length))else none
def qn(n:Nat):AV->Option (List AV)
 | .agg cs=>if cs.length=n then some cs else none
 | .tup _=>none
 |x=>if n=1 then some [x]else none
def qhk:TK->Bool
 | .sc=>true
 |_=>false
def xK:TK->Bool
 | .ar _ _=>true
 | .st _=>true
 |_=>false
def toA:SV->Option AV
 | .sv v=>some (.sc v)
 | .av x=>some x
 |_=>none
def yr(r:AV)(i:Nat):AV:=
 match r with
 | .tup vs=>vs.getD i (.tup [])
 |_=>.tup []
def Qe(n:Nat):AV->Option Unit
 | .tup vs=>if vs.length=n then some ()else none
 |_=>none
def nil0:Value:=.slice none 0 0
def Zx:Value->Bool
 | .slice none 0 0=>true
 |_=>false
def xS:AV->Option Nat
 | .sl s cs=>some (if s=1 then cs.length else cs.length/s)
 | .us s cs=>some (if s=1 then cs.length else cs.length/s)
 | .ms _ _ _ n _=>some n
 | .sc v=>if Zx v then some 0 else none
 |_=>none
def idx(n:Nat)(v:Value):Option Nat:=(Vn v).bind fun i=>if 0<=i/\i<(n:Int)then some i.toNat else none
def jC(sz:Nat)(x:AV)(v:Value):Option (List AV):=
 match x with
 | .sl s cs=>if s=sz then(idx (if s=1 then cs.length else cs.length/s) v).bind fun i=>qr cs (i*sz) sz else none
 | .us s cs=>if s=sz then(idx (if s=1 then cs.length else cs.length/s) v).bind fun i=>qr cs (i*sz) sz else none
 |_=>none
def zp(lo hi:Int)(v:Option Value)(dflt:Nat):Option Nat:=
 match v with
 |none=>some dflt
 |some v=>(Vn v).bind fun i=>if lo<=i/\i<=hi then some i.toNat else none
def yv(sz:Nat)(x:AV)(lo hi mx:Option Value):Option AV:=
 match x with
 | .sl s cs=>if s=sz then
  let n:=if s=1 then cs.length else cs.length/s
  (zp 0 n mx n).bind fun m=>(zp 0 m hi n).bind fun h=>(zp 0 h lo 0).bind fun l=>some (.sl s ((cs.drop (l*s)).take ((h-l)*s)))
  else none
 | .us s cs=>if s=sz then
  let n:=if s=1 then cs.length else cs.length/s
  (zp 0 n mx n).bind fun m=>(zp 0 m hi n).bind fun h=>(zp 0 h lo 0).bind fun l=>some (.sl s ((cs.drop (l*s)).take ((h-l)*s)))
  else none
 | .sc v=>if Zx v then
  (zp 0 0 mx 0).bind fun m=>(zp 0 m hi 0).bind fun h=>(zp 0 h lo 0).bind fun _=>some (.sc nil0)
  else none
 |_=>none
def yP(sz:Nat):AV->Option (List AV)
 | .sl s cs=>if s=sz then some cs else none
 | .us s cs=>if s=sz then some cs else none
 | .sc v=>match v with
  | .slice none 0 0=>some []
  |_=>none
 |_=>none
def xL(bytes sz n:Nat):Bool:=decide (n*bytes<=140737488355328*sz)&&decide (0<bytes)
def zV(sz:Nat)(cs:List AV):Nat:=if sz=1 then cs.length else cs.length/sz
def qdm:Value->Value->Option Bool
 | .int j a,.int k b=>if j=k then some (a==b)else none
 | .string a,.string b=>some (a==b)
 | .bool a,.bool b=>some (a==b)
 |_,_=>none
def qkt(k:Value):List AV->Option (Option AV)
 |[]=>some none
 | .tup [.sc q,x]::r=>(qdm k q).bind fun t=>cond t (some (some x)) (qkt k r)
 |_=>none
def qti(k:Value)(v:AV):List AV->Option (List AV)
 |[]=>some [.tup [.sc k,v]]
 | .tup [.sc q,x]::r=>(qdm k q).bind fun t=>cond t (some (.tup [.sc q,v]::r)) ((qti k v r).map fun l=>.tup [.sc q,x]::l)
 |_=>none
def qlf(bytes sz:Nat)(d:AV)(ys:List AV):Option AV:=
 match ys with
  |[]=>match d with
   | .us z cs=>if z=sz then some (.us z cs)else none
   | .sc v=>if Zx v then some (.sc nil0)else none
   |_=>none
  |ys=>match d with
   | .us z cs=>if z=sz&&xL bytes sz (cs.length+ys.length)then some (.us z (cs++ys.map ro1))else none
   | .sc v=>if Zx v&&xL bytes sz ys.length then some (.us sz (ys.map ro1))else none
   |_=>none
def jo(bytes sz:Nat)(d s:AV):Option AV:=(yP sz s).bind fun ys=>qlf bytes sz d ys
def zK:List AV->Option (List UInt8)
 |[]=>some []
 | .sc (.int .u8 n)::r=>(zK r).map fun l=>UInt8.ofNat n.toNat::l
 |_=>none
def wU:List AV->Option (List Value)
 |[]=>some []
 | .sc v::r=>(wU r).map fun l=>v::l
 |_=>none
def xO:AV->Option Value
 | .sc v=>some v
 | .agg cs=>(wU cs).map fun l=>.agg l.toArray
 |_=>none
def qdu:SV->Option Value
 | .sv v=>some v
 | .av x=>xO x
 |_=>none
def za:AV->Option (Nat×Nat×Nat)
 | .ptr b g o=>some (b,g,o)
 |_=>none
def Xq:AV->Option (FuncId×List AV)
 | .fn f c=>match Nat.blt f 4294967296 with
  |true=>some (f,c)
  |false=>none
 |_=>none
def qaa:AV->Option (FuncId×List AV)
 | .fn f (b::c)=>match Nat.blt f 4294967296 with
  |true=>none
  |false=>some (f-4294967296,b::c)
 |_=>none
def one(o:Option Value):Option Value:=o.bind fun z=>if z.oneCell'=true then some z else none
def qy(P:Program)(op:BinOp)(t:TypeId)(x y:Operand)(a b:Value):Option Value:=
 one (zB P (do eqGuard op t x y a b;Go.binOp op t a b))
def unV(P:Program)(op:UnOp)(a:Value):Option Value:=one (zB P (Op.unary op a))
def Kx(P:Program)(s d:TypeId)(a:Value):Option Value:=one (zB P (convert s d a))
def ixV(P:Program)(t:TypeId)(a i:Value):Option Value:=one (zB P (Instr.index t a i))
def scV(P:Program)(t:TypeId)(a:Value)(lo hi mx:Option Value):Option Value:=one (zB P (Instr.slice t a lo hi mx))
def vg(P:Program)(b:Builtin)(ts:Array TypeId)(t:TypeId)(as_:List Value):Option Value:=
 match b with
 | .min=>one (zB P (Builtin.min_ ts t as_.toArray))
 | .max=>one (zB P (Builtin.max_ ts t as_.toArray))
 | .len=>one (zB P (Builtin.len_ ts t as_.toArray))
 |_=>none
def zfu:AV->Option Bool
 | .sl _ _=>some false
 | .us _ _=>some false
 | .ms _ _ _ _ _=>some false
 | .sc (.slice none _ _)=>some true
 |_=>none
def Xf:AV->Option Bool
 | .ptr _ _ _=>some false
 | .sc (.pointer none)=>some true
 |_=>none
def qoq:Value->Bool
 | .pointer none=>true
 |_=>false
def qS(l:Slots)(k:Nat):SV:=
 match l with
 |[]=>.un
 |(j,s)::r=>match Nat.beq j k with|true=>s|false=>qS r k
def QV(l:Slots)(d:Option Tmp)(s:SV):Slots:=
 match d with
 |some k=>(k,s)::l
 |none=>l
def jx(b:Boxes)(k:Nat):Option (Nat×List AV):=
 match b with
 |[]=>none
 |(j,g,cs)::r=>match Nat.beq j k with|true=>some (g,cs)|false=>jx r k
def Wb(b:Boxes)(k g:Nat)(cs:List AV):Boxes:=(k,g,cs)::b
def jk(l:Slots):Operand->SV
 | .tmp t=>qS l t
 | .const v=>match v with
  | .agg cs=>if cs.toList.all (·.oneCell')=true then .av (.agg (cs.toList.map .sc))else .un
  | .tuple _=>.un
  |v=>.sv v
 | .global _=>.un
 | .func f=>.av (.fn f [])
def nrm(k:TK):SV->SV
 | .sv v=>if qhk k then .sv v else .av (.sc v)
 |s=>s
def jq(l:List Value):List AV:=l.map .sc
def JT:TK->Bool
 | .tu=>true
 |_=>false
def Cx.tn(c:Cx)(t:TypeId):Option TI:=
 match c.tt t with
 |some ti=>if JT ti.k then none else some ti
 |none=>none
def Jd(p:Prop)[Decidable p]:Option Unit:=if p then some ()else none
def jJ(a b:Nat):Option Unit:=Jd (a=b)
def qo9(b:Bool):Option Unit:=Jd (b=true)
def yK(cs:List AV):Option Unit:=Jd (cs.all vl=true)
abbrev Orc:=FuncId->List AV->Hp->Option (AV×Hp)
abbrev BE:=Option (Nat×Nat×List AV)
abbrev Kt(R:Type):=SV->BE->Hp->Option R
def qop(ti:TI):Bool:=
 match ti.k,ti.zero with
 | .sc,[.int .u8 _]=>true
 |_,_=>false
def qdn(ti:TI):Bool:=
 match ti.k,ti.zero with
 | .sc,[.string _]=>true
 |_,_=>false
def zf5(ti:TI):Bool:=
 match ti.k,ti.zero with
 | .ot,[.pointer none]=>true
 |_,_=>false
def zg9:AV->Option (List AV)
 | .agg cs=>some cs
 |_=>none
def qa7:SV->Option (List AV)
 | .av x=>zg9 x
 |_=>none
def qag:AV->Bool
 | .agg _=>false
 | .tup _=>false
 |_=>true
def zhu(xs:List AV):Option Unit:=qo9 (xs.all qag)
def zcj:Value->Option ByteArray
 | .string s=>some s
 |_=>none
def vi:SV->Option Value
 | .sv v=>some v
 |_=>none
def ZS:AV->Option Unit
 | .ptr _ _ _=>some ()
 | .fn _ _=>some ()
 |_=>none
def zh:AV->Option (Nat×Nat×Nat×Nat×Nat)
 | .ms b g o n z=>some (b,g,o,n,z)
 |_=>none
def valC(n:Nat):SV->Option (List AV)
 | .sv v=>if n=1 then some [.sc v]else none
 | .av x=>qn n x
 |_=>none
def opV(ev:Operand->SV):Option Operand->Option (Option Value)
 |none=>some none
 |some o=>(vi (ev o)).bind fun v=>some (some v)
def VT:List SV->Option (List AV)
 |[]=>some []
 |s::r=>(toA s).bind fun x=>(VT r).bind fun l=>some (x::l)
def qgd:List SV->Option (List Value)
 |[]=>some []
 |s::r=>(vi s).bind fun x=>(qgd r).bind fun l=>some (x::l)
def WA(c:Cx)(fs:List (Nat×TypeId))(i:Nat):Option (Nat×Nat):=
 match fs[i]? with
 |some p=>match c.tn p.2 with
  |some fi=>some (p.1,fi.size)
  |none=>none
 |none=>none
def xF{R:Type}(wF:Nat->Option (Nat×Nat))(ev:Operand->SV)(K:List AV->Option R):List (Nat×Operand)->List AV->Option R
 |[],cs=>K cs
 |(i,x)::r,cs=>
  match wF i with
  |none=>none
  |some (off,n)=>(valC n (ev x)).bind fun vs=>(qo cs off vs).bind fun cs'=>xF wF ev K r cs'
def yn{R:Type}(ti:TI)(h:Nat)(cs:List AV)(off:Nat)(K:SV->List AV->Option R):Option R:=
 if qhk ti.k then(ql cs off).bind fun v=>K (.sv v) cs
 else if xK ti.k then(qr cs off ti.size).bind fun l=>
  if h=1 then(qo cs off (l.map ro1)).bind fun cs'=>K (.av (.agg l)) cs' else K (.av (.agg (l.map ro1))) cs
 else(qs cs off).bind fun x=>if h=1 then K (.av x) (cs.set off (ro1 x))else K (.av (ro1 x)) cs
def Zw:AV->Option Unit
 | .tup _=>none
 |_=>some ()
def qbv{R:Type}(ti:TI)(r:AV)(K:SV->Option R):Option R:=
 match ti.k with
 | .sc=>(Qz r).bind fun v=>K (.sv v)
 | .tu=>(Qe ti.size r).bind fun _=>K (.tp ((List.range ti.size).map (yr r)))
 |_=>(Zw r).bind fun _=>K (.av r)
def jH{R:Type}(h:Nat)(ti:TI)(a:SV)(gb:Nat->Option (Nat×List AV))(hp:Hp)(K:Kt R):Option R:=
 match a with
 | .lp k g off=>match gb k with
  |some (g',cs)=>if g=g' then yn ti h cs off fun s cs'=>K s (if h=1 then some (k,g,cs')else none) hp else none
  |none=>none
 | .rv cs=>if h=1 then none else yn ti h cs 0 fun s _=>K s none hp
 | .av x=>(za x).bind fun p=>(hp.rd p.1 p.2.1).bind fun cs=>yn ti h cs p.2.2 fun s cs'=>K s none (if h=1 then hp.put p.1 p.2.1 cs' else hp)
 |_=>none
def kp{R:Type}(ti:TI)(a x:SV)(gb:Nat->Option (Nat×List AV))(hp:Hp)(K:Kt R):Option R:=
 (valC ti.size x).bind fun vs=>
 match a with
 | .lp k g off=>match gb k with
  |some (g',cs)=>if g=g' then(qo cs off vs).bind fun cs'=>K .un (some (k,g,cs')) hp else none
  |none=>none
 | .av x=>(za x).bind fun p=>(hp.rd p.1 p.2.1).bind fun cs=>(qo cs p.2.2 vs).bind fun cs'=>K .un none (hp.put p.1 p.2.1 cs')
 |_=>none
def xf{R:Type}(c:Cx)(ti:TI)(a:SV)(f:Nat)(K:SV->Option R):Option R:=
 match ti.k with
 | .st fs=>match fs[f]? with
  |some (fo,ft)=>match c.tn ft with
   |some fi=>if fi.size=0 then none else
    match a with
    | .lp k g off=>K (.lp k g (off+fo))
    | .rv cs=>K (.rv (cs.drop fo))
    | .av x=>(za x).bind fun p=>K (.av (.ptr p.1 p.2.1 (p.2.2+fo)))
    |_=>none
   |none=>none
  |none=>none
 |_=>none
def xd{R:Type}(c:Cx)(h:Nat)(ti:TI)(a i:SV)(K:SV->Option R):Option R:=
 match i with
 | .sv iv=>match ti.k with
  | .sl e=>match c.tn e with
   |some ei=>match a with
    | .av x=>
     if h=2 then(zh x).bind fun p=>(idx p.2.2.2.1 iv).bind fun j=>(jJ p.2.2.2.2 ei.size).bind fun _=>K (.av (.ptr p.1 p.2.1 (p.2.2.1+j*ei.size)))
     else(jC ei.size x iv).bind fun cs=>K (.rv cs)
    |_=>none
   |none=>none
  | .ar n e=>match c.tn e with
   |some ei=>match a with
    | .lp k g off=>(idx n iv).bind fun j=>K (.lp k g (off+j*ei.size))
    | .rv cs=>(idx n iv).bind fun j=>K (.rv (cs.drop (j*ei.size)))
    | .av x=>(za x).bind fun p=>(idx n iv).bind fun j=>K (.av (.ptr p.1 p.2.1 (p.2.2+j*ei.size)))
    |_=>none
   |none=>none
  |_=>none
 |_=>none
def Yi{R:Type}(c:Cx)(h:Nat)(ti:TI)(t:TypeId)(a:SV)(lo hi mx:Option Value)(K:SV->Option R):Option R:=
 match ti.k with
 | .sl e=>match c.tn e with
  |some ei=>match a with
   | .av x=>
    if h=2 then(zh x).bind fun p=>(zp 0 p.2.2.2.1 mx p.2.2.2.1).bind fun m=>(zp 0 m hi p.2.2.2.1).bind fun hh=>(zp 0 hh lo 0).bind fun l=>
     (jJ p.2.2.2.2 ei.size).bind fun _=>K (.av (.ms p.1 p.2.1 (p.2.2.1+l*ei.size) (hh-l) ei.size))
    else(yv ei.size x lo hi mx).bind fun z=>K (.av z)
   |_=>none
  |none=>none
 | .sc=>match a with
  | .sv v=>(scV c.P t v lo hi mx).bind fun z=>K (.sv z)
  |_=>none
 |_=>none
def qal{R:Type}(c:Cx)(s d:TypeId)(si di:TI)(a:SV)(K:SV->Option R):Option R:=
 match di.k with
 | .sl e=>match c.tn e with
  |some ei=>if qop ei=true then(vi a).bind fun v=>(zcj v).bind fun b=>K (.av (.sl 1 (b.data.toList.map fun x=>.sc (.int .u8 x.toNat))))else none
  |none=>none
 |_=>match si.k with
  | .sl e=>match c.tn e with
   |some ei=>if(qop ei&&qdn di)=true then(toA a).bind fun x=>(yP 1 x).bind fun cs=>(zK cs).bind fun l=>K (.sv (.string ⟨l.toArray⟩))else none
   |none=>none
  |_=>(vi a).bind fun v=>(Kx c.P s d v).bind fun z=>K (.sv z)
def qpf{R:Type}(c:Cx)(op:BinOp)(t:TypeId)(x y:Operand)(a b:SV)(K:SV->Option R):Option R:=
 match a,b with
 | .sv v,.sv w=>(qy c.P op t x y v w).bind fun z=>K (.sv z)
 | .av v,.sv w=>if Zx w then
  match c.tn t with
  |some ti=>match ti.k with
   | .sl _=>(zfu v).bind fun n=>(match op with| .eql=>K (.sv (.bool n))| .neq=>K (.sv (.bool !n))|_=>none)
   |_=>none
  |none=>none
  else if qoq w then
  match c.tn t with
  |some ti=>if zf5 ti=true then(Xf v).bind fun n=>(match op with| .eql=>K (.sv (.bool n))| .neq=>K (.sv (.bool !n))|_=>none)else none
  |none=>none
  else(xO v).bind fun v'=>(qy c.P op t x y v' w).bind fun z=>K (.sv z)
 | .av v,.av w=>(xO v).bind fun v'=>(xO w).bind fun w'=>(qy c.P op t x y v' w').bind fun z=>K (.sv z)
 |_,_=>none
def selV(t:Bool)(x y:Value):Value:=
 match t with
 |true=>x
 |false=>y
def WC{R:Type}(c a b:SV)(K:SV->Option R):Option R:=
 (vi c).bind fun v=>(asB v).bind fun t=>
  match a,b with
  | .sv x,.sv y=>K (.sv (selV t x y))
  |s,r=>cond t (K s.ro) (K r.ro)
def Kp:AV->Option Nat
 | .map b=>some b
 |_=>none
def Xz(sz:Nat)(n:Nat)(cs:List AV):Nat×List AV:=(min (zV sz cs) n,cs.take (min (zV sz cs) n*sz))
def JQ(hp:Hp)(sz:Nat)(x:AV):Option (List AV):=
 match zh x with
 |some p=>(Jd (p.2.2.2.2=sz/\0<sz)).bind fun _=>(hp.rd p.1 p.2.1).bind fun cs=>(qr cs p.2.2.1 (p.2.2.2.1*sz)).bind fun l=>some (l.map ro1)
 |none=>yP sz x
def jY(bytes sz:Nat)(d s:AV)(hp:Hp):Option (AV×Hp):=
 (JQ hp sz s).bind fun ys=>match ys with
 |[]=>(qlf bytes sz d []).bind fun y=>some (y,hp)
 |y::ys=>match d with
  | .us z []=>(Jd (z=sz/\xL bytes sz (y::ys).length=true)).bind fun _=>some (.ms hp.next 0 0 (zV sz (y::ys)) sz,hp.new (y::ys))
  | .us z (q::cs)=>(yK (y::ys)).bind fun _=>(qlf bytes sz (.us z (q::cs)) (y::ys)).bind fun r=>some (r,hp)
  | .sc v=>(Jd (Zx v=true/\xL bytes sz (y::ys).length=true)).bind fun _=>some (.ms hp.next 0 0 (zV sz (y::ys)) sz,hp.new (y::ys))
  | .ms b g off n z=>(Jd (z=sz/\off=0/\0<n)).bind fun _=>(hp.rd b g).bind fun cs=>
   (Jd (n*sz<=cs.length/\xL bytes sz (n*sz+(y::ys).length)=true)).bind fun _=>some (.ms hp.next 0 0 (n+zV sz (y::ys)) sz,(hp.del b).new ((cs.take (n*sz)).map ro1++(y::ys)))
  |_=>none
def qb4{R:Type}(c:Cx)(h:Nat)(o:Oper)(b:Builtin)(ts:List TypeId)(as_:List SV)(hp:Hp)(K:SV->Hp->Option R):Option R:=
 match b,ts,as_ with
 | .len,[t],[.av x]=>match c.tn t with
  |some ti=>match ti.k with
   | .sl _=>(xS x).bind fun n=>K (.sv (.int .i64 n)) hp
   | .mp _ _=>(Jd (h=2)).bind fun _=>(Kp x).bind fun b=>(hp.rdM b).bind fun es=>K (.sv (.int .i64 es.length)) hp
   |_=>none
  |none=>none
 | .append,[t,t'],[d,s]=>if t'≠t then none else match c.tn t with
  |some ti=>match ti.k with
   | .sl e=>match c.tn e with
    |some ei=>(toA d).bind fun d'=>(toA s).bind fun s'=>if h=2 then(jY ei.bytes ei.size d' s' hp).bind fun q=>K (.av q.1) q.2 else(jo ei.bytes ei.size d' s').bind fun y=>K (.av y) hp
    |none=>none
   |_=>none
  |none=>none
 | .copy,[t,_],[.av d,.av s]=>match c.tn t with
  |some ti=>match ti.k with
   | .sl e=>match c.tn e with
    |some ei=>(Jd (h=2/\0<ei.size)).bind fun _=>(zh d).bind fun p=>(jJ p.2.2.2.2 ei.size).bind fun _=>(JQ hp ei.size s).bind fun ys=>(hp.rd p.1 p.2.1).bind fun cs=>
     (qo cs p.2.2.1 (Xz ei.size p.2.2.2.1 ys).2).bind fun cs'=>K (.sv (.int .i64 ((Xz ei.size p.2.2.2.1 ys).1:Nat))) (hp.put p.1 p.2.1 cs')
    |none=>none
   |_=>none
  |none=>none
 |b,ts,as_=>(qgd as_).bind fun vs=>(vg c.P b ts.toArray o.type vs).bind fun z=>K (.sv z) hp
def tN(n:Int):Nat:=n.toNat
def xc(bytes size:Nat)(n n':Int):Option Unit:=Jd (n=n'/\0<=n/\xL bytes 1 n.toNat=true/\0<size)
def xP(n:Int)(z:List Value):List AV:=(List.replicate n.toNat (jq z)).flatten
def Qc(hp:Hp)(x:AV):Option (AV×Hp):=
 match x with
 | .ms b g off n z=>(Jd (0<z)).bind fun _=>(hp.rd b g).bind fun cs=>(qr cs off (n*z)).bind fun l=>(Jd (l.all vl=true)).bind fun _=>some (.sl z (l.map ro1),hp.del b)
 |x=>some (x,hp)
def Xs(hp:Hp):List AV->Option (List AV×Hp)
 |[]=>some ([],hp)
 |x::r=>(Qc hp x).bind fun p=>(Xs p.2 r).bind fun q=>some (p.1::q.1,q.2)
def qo0(k:TK)(hp:Hp)(s:SV):Option (SV×Hp):=
 match s with
 | .av x=>if xK k then(qa7 (.av x)).bind fun cs=>(Xs hp cs).bind fun q=>some (.av (.agg q.1),q.2)else(Qc hp x).bind fun q=>some (.av q.1,q.2)
 |s=>some (s,hp)
def qun{R:Type}(k:TK)(hp:Hp)(s:SV)(K:SV->Hp->Option R):Option R:=
 match s with
 | .av x=>if xK k then(qa7 (.av x)).bind fun cs=>(Xs hp cs).bind fun q=>K (.av (.agg q.1)) q.2 else(Qc hp x).bind fun q=>K (.av q.1) q.2
 |s=>K s hp
def orA(f:Option AV)(x:AV):AV:=f.getD x
def isS(f:Option AV):Bool:=f.isSome
def qq3(ti:TI):Bool:=
 match ti.k,ti.zero with
 | .sc,[.int _ _]=>true
 |_,_=>false
def qq4(ti:TI):Bool:=
 match ti.k,ti.zero with
 | .sc,[.bool _]=>true
 |_,_=>false
def zf4(ti:TI):Value->Bool
 | .int _ _=>qq3 ti
 | .string _=>qdn ti
 | .bool _=>qq4 ti
 |_=>false
def VN(ti:TI):AV:=if xK ti.k then .agg (jq ti.zero)else(jq ti.zero).headD (.agg [])
def mapV:SV->Option AV
 | .sv v=>some (.sc v)
 | .av x=>some (ro x)
 |_=>none
def ofA(k:TK)(x:AV):Option SV:=if qhk k then(Qz x).bind fun v=>some (.sv v)else some (.av x)
def qqz(ok:Bool)(ei:TI)(f:Option AV):Option SV:=
 match ok with
 |true=>some (.tp [orA f (VN ei),.sc (.bool (isS f))])
 |false=>ofA ei.k (orA f (VN ei))
def ofAK{R:Type}(k:TK)(x:AV)(K:SV->Option R):Option R:=if qhk k then(Qz x).bind fun v=>K (.sv v)else K (.av x)
def qok{R:Type}(ok:Bool)(ei:TI)(f:Option AV)(K:SV->Option R):Option R:=
 match ok with
 |true=>K (.tp [orA f (VN ei),.sc (.bool (isS f))])
 |false=>ofAK ei.k (orA f (VN ei)) K
def kV{R:Type}(c:Cx)(t:TypeId)(x i:SV)(ok:Bool)(hp:Hp)(K:SV->Option R):Option R:=
 match c.tn t with
 |some ti=>match ti.k with
  | .mp kt et=>match c.tn kt,c.tn et with
   |some ki,some ei=>(toA x).bind fun x'=>(Kp x').bind fun b=>(hp.rdM b).bind fun es=>(vi i).bind fun k=>(qo9 (zf4 ki k)).bind fun _=>(qkt k es).bind fun f=>qok ok ei f K
   |_,_=>none
  |_=>none
 |none=>none
def JB{R:Type}(c:Cx)(t:TypeId)(m k x:SV)(hp:Hp)(K:Hp->Option R):Option R:=
 match c.tn t with
 |some ti=>match ti.k with
  | .mp kt et=>match c.tn kt,c.tn et with
   |some ki,some ei=>(toA m).bind fun m'=>(Kp m').bind fun b=>(hp.rdM b).bind fun es=>(vi k).bind fun kv=>(qo9 (zf4 ki kv)).bind fun _=>(mapV x).bind fun v=>
    (qti kv v es).bind fun es'=>K (hp.put b 1 es')
   |_,_=>none
  |_=>none
 |none=>none
def xy(xs caps:List AV):Option Unit:=Jd (xs.all vlF=true/\caps.all vl=true)
def wG(y:AV):Option Unit:=Jd (vlV y=true)
def ya{R:Type}(c:Cx)(C:Orc)(h:Nat)(ti:TI)(f:FuncId)(caps:List AV)(as_:List SV)(hp:Hp)(K:Kt R):Option R:=
 (VT as_).bind fun xs=>
 if h=2 then(C f ((xs.map ro)++caps) hp).bind fun p=>qbv ti p.1 fun s=>K s none p.2
 else if h=4 then(C f (caps++(xs.map ro)) hp).bind fun p=>qbv ti p.1 fun s=>K s none p.2
 else(xy xs caps).bind fun _=>(C f ((xs.map ro)++caps) hp0).bind fun p=>(wG p.1).bind fun _=>qbv ti p.1 fun s=>K s none hp
def qw{R:Type}(c:Cx)(C:Orc)(h:Nat)(o:Oper)(ev:Operand->SV)(gb:Nat->Option (Nat×List AV))(hp:Hp)(K:Kt R):Option R:=
 match o.op with
 | .move x=>match c.tt o.type with
  |some ti=>if h=3 then qun ti.k hp (nrm ti.k (ev x).ro) fun s q=>K s none q else K (if h=1 then nrm ti.k (ev x)else nrm ti.k (ev x).ro) none hp
  |none=>none
 | .assign x=>match c.tt o.type with
  |some ti=>if h=3 then qun ti.k hp (nrm ti.k (ev x)) fun s q=>K s none q else K (nrm ti.k (ev x)) none hp
  |none=>none
 | .pick a x y=>WC (ev a) (ev x) (ev y) fun s=>K s none hp
 | .alloc t=>match c.tn t with
  |some ti=>if h=2 then K (.av (.ptr hp.next 0 0)) none (hp.new (jq ti.zero))else
   match o.dst with
   |some d=>let g:=match gb d with|some (g,_)=>g+1|none=>0
    K (.lp d g 0) (some (d,g,jq ti.zero)) hp
   |none=>none
  |none=>none
 | .box t x=>match c.tn t with
  |some ti=>(valC ti.size (ev x)).bind fun vs=>if h=2 then K (.av (.ptr hp.next 0 0)) none (hp.new (vs.map ro1))else
   match o.dst with
   |some d=>let g:=match gb d with|some (g,_)=>g+1|none=>0
    K (.lp d g 0) (some (d,g,vs.map ro1)) hp
   |none=>none
  |none=>none
 | .build t ps=>match c.tn t with
  |some ti=>match ti.k with
   | .st fs=>if fs.all (fun p=>(c.tn p.2).isSome)=true then xF (WA c fs) ev (fun cs=>K (.av (.agg (cs.map ro1))) none hp) ps.toList (jq ti.zero)else none
   | .ar _ e=>match c.tn e with
    |some ei=>xF (fun i=>some (i*ei.size,ei.size)) ev (fun cs=>K (.av (.agg (cs.map ro1))) none hp) ps.toList (jq ti.zero)
    |none=>none
   |_=>none
  |none=>none
 | .buildSlice t n ps=>match c.tn t with
  |some ti=>match ti.k with
   | .sl e=>match c.tn e with
    |some ei=>if n*ei.size<=4096/\0<ei.size then
     xF (fun i=>some (i*ei.size,ei.size)) ev (fun cs=>(yK cs).bind fun _=>K (.av (.us ei.size (cs.map ro1))) none hp) ps.toList (List.replicate n (jq ei.zero)).flatten
     else none
    |none=>none
   |_=>none
  |none=>none
 | .load t a=>match c.tn t with
  |some ti=>if h=3 then jH 0 ti (ev a) gb hp fun s b q=>qun ti.k q s fun s' q'=>K s' b q' else jH h ti (ev a) gb hp K
  |none=>none
 | .store t a x=>match c.tn t with
  |some ti=>kp ti (ev a) (ev x) gb hp K
  |none=>none
 | .nilCheck x=>match ev x with
  | .lp k g off=>K (.lp k g off) none hp
  | .av y=>(ZS y).bind fun _=>K (.av y) none hp
  |_=>none
 | .binOp op t x y _=>qpf c op t x y (ev x) (ev y) fun s=>K s none hp
 | .unOp op _ x=>(vi (ev x)).bind fun v=>(unV c.P op v).bind fun z=>K (.sv z) none hp
 | .convert s d x=>match c.tn s,c.tn d with
  |some si,some di=>qal c s d si di (ev x) fun s=>K s none hp
  |_,_=>none
 | .makeFunc (.func f) fs cs=>if fs.toList.isEmpty=true then(VT (cs.toList.map ev)).bind fun xs=>if xs.all qag=true then(qo9 (Nat.blt f 4294967296)).bind fun _=>K (.av (.fn f (xs.map ro1))) none hp else none
  else if cs.toList.isEmpty=true then(VT (fs.toList.map ev)).bind fun xs=>(zhu xs).bind fun _=>K (.av (.fn (4294967296+f) (xs.map ro1))) none hp else none
 | .makeSlice t l m=>match c.tn t with
  |some ti=>match ti.k with
   | .sl e=>match c.tn e with
    |some ei=>(vi (ev l)).bind fun lv=>(vi (ev m)).bind fun mv=>(Vn lv).bind fun n=>(Vn mv).bind fun n'=>
     (xc ei.bytes ei.size n n').bind fun _=>
      (if h=2 then K (.av (.ms hp.next 0 0 (tN n) ei.size)) none (hp.new (xP n ei.zero))
       else K (.av (.us ei.size (xP n ei.zero))) none hp)
    |none=>none
   |_=>none
  |none=>none
 | .slice t x lo hi mx=>match c.tn t with
  |some ti=>if mx.isSome&&!hi.isSome then none else(opV ev lo).bind fun l=>(opV ev hi).bind fun u=>(opV ev mx).bind fun m=>Yi c h ti t (ev x) l u m fun s=>K s none hp
  |none=>none
 | .fieldAddr t x f=>match c.tn t with
  |some ti=>xf c ti (ev x) f fun s=>K s none hp
  |none=>none
 | .field t x f=>match c.tn t with
  |some ti=>match ti.k with
   | .st fs=>match fs[f]? with
    |some (fo,ft)=>match c.tn ft with
     |some fi=>(qa7 (ev x)).bind fun cs=>yn fi 0 cs fo fun s _=>K s none hp
     |none=>none
    |none=>none
   |_=>none
  |none=>none
 | .indexAddr t x i=>match c.tn t with
  |some ti=>xd c h ti (ev x) (ev i) fun s=>K s none hp
  |none=>none
 | .index t x i=>match c.tt o.type with
  |some ti=>if qhk ti.k then(qdu (ev x)).bind fun a=>(vi (ev i)).bind fun iv=>(ixV c.P t a iv).bind fun z=>K (.sv z) none hp else
   match c.tn t with
   |some xi=>match xi.k with
    | .ar n e=>match c.tn e with
     |some ei=>(qa7 (ev x)).bind fun cs=>(vi (ev i)).bind fun iv=>(idx n iv).bind fun j=>yn ei 0 cs (j*ei.size) fun s _=>K s none hp
     |none=>none
    |_=>none
   |none=>none
  |none=>none
 | .extract x i=>match ev x with
  | .tp l=>match l[i]? with
   |some y=>match c.tt o.type with
    |some ti=>if qhk ti.k then(Qz y).bind fun v=>K (.sv v) none hp else if h=1 then K (.av (ro y)) none hp else K (.av y) none hp
    |none=>none
   |none=>none
  |_=>none
 | .makeMap t none=>if h=2 then K (.av (.map hp.next)) none hp.newM else none
 | .lookup t x i ok=>if h=2 then kV c t (ev x) (ev i) ok hp fun s=>K s none hp else none
 | .mapUpdate t m k x=>if h=2 then JB c t (ev m) (ev k) (ev x) hp fun q=>K .un none q else none
 | .call cl=>match cl.callee with
  | .builtin b=>qb4 c h o b cl.argTypes.toList (cl.args.toList.map ev) hp fun s q=>K s none q
  | .value (.func f)=>match c.F f,c.tt o.type with
   |some fn,some ti=>match fn.body with
    |some _=>ya c C h ti f [] (cl.args.toList.map ev) hp K
    |none=>(qgd (cl.args.toList.map ev)).bind fun vs=>(one (c.X f vs)).bind fun z=>K (.sv z) none hp
   |_,_=>none
  | .value (.tmp t)=>match c.tt o.type with
   |some ti=>match ev (.tmp t)with
    | .av x=>if h=4 then(qaa x).bind fun p=>ya c C h ti p.1 p.2 (cl.args.toList.map ev) hp K else(Xq x).bind fun p=>ya c C h ti p.1 p.2 (cl.args.toList.map ev) hp K
    |_=>none
   |none=>none
  |_=>none
 |_=>none
structure Fp where
 rs:List Nat
 ws:List Nat
 br:Option Nat
 bw:Option Nat
 hr:Bool
 hw:Bool
 nw:Bool
 lq:Option (AV×Nat)
 gb:Nat->Option (Nat×List AV)
 ga:Nat->Option (Nat×List AV)
def yQ(q:AV×Nat)(g:Nat->Option (Nat×List AV)):Option (List AV):=
 (za q.1).bind fun p=>(g p.1).bind fun z=>if z.1=0 then(qr z.2 p.2.2 q.2).map (List.map ro1)else none
noncomputable def xw(q:AV×Nat)(g g':Nat->Option (Nat×List AV)):Option Unit:=
 @ite _ (yQ q g=yQ q g') (Classical.propDecidable _) (some ()) none
def qj6(h:Nat)(o:Oper)(tn:TypeId->Option TI)(ev:Operand->SV):Option (AV×Nat):=
 match o.op with
 | .load t a=>match ev a with
  | .av x=>match h==1||h==3 with
   |true=>none
   |false=>match tn t with
    |some ti=>some (x,match xK ti.k with|true=>ti.size|false=>1)
    |none=>none
  |_=>none
 |_=>none
def qos(b:Bool)(hp:Hp):Nat->Option (Nat×List AV):=
 match b with
 |true=>hp.get
 |false=>fun _=>none
inductive It where
 |code (c:Code)
 |inBlock (id:Nat)
 |inLoop (body:Code)
 |inScope (body:Code)
 |ops (r:Nat) (ops:Array Oper) (is:List Nat) (d:Bool) (acc:List (Nat×Fp))
def dn(t:Tmp)(l:Slots):Slots:=(t,(qS l t).ro)::l
def dnX(t:Tmp)(i:Nat)(l:Slots):Slots:=
 match qS l t with
 | .tp xs=>(t,.tp (match xs[i]? with|some y=>xs.set i (ro y)|none=>xs))::l
 |_=>l
def jD:List Operand->List Nat
 |[]=>[]
 | .tmp t::r=>t::jD r
 |_::r=>jD r
def zw(h:Nat)(o:Oper):List Nat:=
 match o.op with
 | .move x=>if h=1 then jD [x]else []
 | .assign x=>jD [x]
 | .store _ _ x=>jD [x]
 | .extract x _=>if h=1 then []else jD [x]
 | .call c=>match c.callee with
  | .builtin .append=>jD c.args.toList
  |_=>[]
 |_=>[]
def zd(ts:List Nat)(l:Slots):Slots:=ts.foldl (fun l t=>dn t l) l
def qU(h:Nat)(o:Oper)(l:Slots):Slots:=
 match o.op with
 | .extract (.tmp t) i=>if h=1 then l else dnX t i l
 |_=>zd (zw h o) l
def yN(h:Nat)(o:Oper)(ev:Operand->SV):Option Nat×Option Nat:=
 match o.op with
 | .load _ a=>match ev a with
  | .lp k _ _=>if h=1 then(none,some k)else(some k,none)
  |_=>(none,none)
 | .store _ a _=>match ev a with
  | .lp k _ _=>(none,some k)
  |_=>(none,none)
 | .alloc _=>if h=2 then(none,none)else(none,o.dst)
 | .box _ _=>if h=2 then(none,none)else(none,o.dst)
 |_=>(none,none)
def zP(h:Nat)(o:Oper)(ev:Operand->SV):Bool×Bool×Bool:=
 match o.op with
 | .load _ a=>match ev a with
  | .av _=>(h==1||h==3,h==1||h==3,h==3)
  |_=>(h==3,h==3,h==3)
 | .move _=>(h==3,h==3,h==3)
 | .assign _=>(h==3,h==3,h==3)
 | .makeMap _ _=>(true,true,true)
 | .lookup _ _ _ _=>(true,false,false)
 | .mapUpdate _ _ _ _=>(true,true,true)
 | .store _ a _=>match ev a with
  | .av _=>(false,true,false)
  |_=>(false,false,false)
 | .alloc _=>(false,h==2,h==2)
 | .box _ _=>(false,h==2,h==2)
 | .makeSlice _ _ _=>(false,h==2,h==2)
 | .call c=>match c.callee with
  | .builtin _=>(h==2,h==2,h==2)
  |_=>(h==2||h==4,h==2||h==4,h==2||h==4)
 |_=>(false,false,false)
def zjo(tn:TypeId->Option TI)(h:Nat)(ops:Array Oper)(o:Oper)(l:Slots)(hp hp':Hp):Fp:=
 let b:=yN h o (jk l)
 let q:=zP h o (jk l)
 {rs:=o.looksAt ops,ws:=o.dst.toList++zw h o,br:=b.1,bw:=b.2,hr:=q.1,hw:=q.2.1,nw:=q.2.2,lq:=qj6 h o tn (jk l),gb:=qos q.2.1 hp,ga:=qos q.2.1 hp'}
def Kr(ops:Array Oper)(o:Oper):Fp:=
 {rs:=o.looksAt ops,ws:=o.dst.toList,br:=none,bw:=none,hr:=false,hw:=false,nw:=false,lq:=none,gb:=fun _=>none,ga:=fun _=>none}
def qde(a b:List Nat):Bool:=a.any fun x=>b.contains x
def qrp(a b:Fp):Bool:=
 qde a.ws b.rs||qde a.ws b.ws||qde a.rs b.ws||
 (match a.bw,b.bw with|some x,some y=>x==y|_,_=>false)||
 (match a.bw,b.br with|some x,some y=>x==y|_,_=>false)||
 (match a.br,b.bw with|some x,some y=>x==y|_,_=>false)||
 (a.hw&&(b.hr||b.hw))||(a.hr&&b.hw)||(a.nw&&b.nw)
def yf:List Oper->List (List Nat)->List (List Nat)
 |[],t=>t
 |o::r,t=>
  let ds:=(o.after.toList.filter fun e=>Region.binds .any e).map (·.on)
  yf r (t++[(ds++ds.flatMap fun j=>t.getD j []).eraseDups])
def qaj(ops:Array Oper):Bool:=(List.range ops.size).all fun i=>match ops[i]? with
 |some o=>o.after.toList.all fun e=>!Region.binds .any e||decide (e.on<i)
 |none=>true
def Kw(ops:Array Oper)(acc:List (Nat×Fp)):Bool:=
 let t:=yf ops.toList []
 qaj ops&&acc.all fun p=>acc.all fun q=>!(decide (p.1<q.1))||(t.getD q.1 []).contains p.1||!(qrp p.2 q.2)
def qg1(t:List (List Nat))(i j:Nat):Bool:=(t.getD j []).contains i||(t.getD i []).contains j
noncomputable def qut(t:List (List Nat))(p q:Nat×Fp)(r:List (Option Unit)):List (Option Unit):=
 match p.2.lq with
 |none=>r
 |some x=>match q.2.hw with
  |false=>r
  |true=>match qg1 t p.1 q.1 with
   |true=>r
   |false=>xw x q.2.gb q.2.ga::r
noncomputable def zb3(t:List (List Nat))(p:Nat×Fp):List (Nat×Fp)->List (Option Unit)->List (Option Unit)
 |[],r=>r
 |q::l,r=>qut t p q (zb3 t p l r)
noncomputable def zj2(t:List (List Nat))(acc:List (Nat×Fp)):List (Nat×Fp)->List (Option Unit)
 |[]=>[]
 |p::l=>zb3 t p acc (zj2 t acc l)
noncomputable def zfd(ops:Array Oper)(acc:List (Nat×Fp)):List (Option Unit):=zj2 (yf ops.toList []) acc acc
def qrt{R:Type}:List (Option Unit)->Option R->Option R
 |[],X=>X
 |o::l,X=>o.bind fun _=>qrt l X
def kA(b:Boxes):List Nat->Boxes
 |[]=>[]
 |k::r=>match jx b k with
  |some (g,cs)=>(k,g,cs)::kA b r
  |none=>kA b r
def WH(b:Boxes)(s:SV):SV:=
 match s with
 | .lp k g o=>match jx b k with
  |some _=>.lp k g o
  |none=>.un
 |s=>s
def ZV(b:Boxes)(l:Slots):List Nat->Slots
 |[]=>[]
 |k::r=>match WH b (qS l k)with
  | .un=>ZV b l r
  |s=>(k,s)::ZV b l r
def mask(m:Option (List Nat))(st:St):St:=
 match m with
 |none=>st
 |some live=>⟨ZV (kA st.bx live) st.sl live,kA st.bx live,st.hp⟩
def qc7(id:Nat):List It->Option (List It)
 |[]=>none
 | .inBlock j::k=>if j=id then some k else qc7 id k
 |_::k=>qc7 id k
def Wx{R:Type}(st:St)(tt:TypeId->Option TI)(r:ResultVar)(K:AV->Option R):Option R:=
 match r with
 | .tmp t=>(toA (qS st.sl t)).bind K
 | .cell a ty=>match tt ty with
  |some ti=>match qS st.sl a with
   | .lp k g off=>match jx st.bx k with
    |some (g',cs)=>if g=g' then
     (if xK ti.k then(qr cs off ti.size).bind fun l=>K (.agg l)else(qs cs off).bind K)
     else none
    |none=>none
   |_=>none
  |none=>none
def QS{R:Type}(st:St)(tt:TypeId->Option TI)(K:List AV->Option R):List ResultVar->Option R
 |[]=>K []
 |r::l=>Wx st tt r fun x=>QS st tt (fun xs=>K (x::xs)) l
def Ya(st:St):ResultVar->Nat×Nat
 | .tmp t=>(0,t)
 | .cell a _=>match qS st.sl a with
  | .lp k _ _=>(1,k)
  |_=>(2,0)
def qqp(k:Nat×Nat):List (Nat×Nat)->Bool
 |[]=>true
 |j::r=>match Nat.beq j.1 k.1&&Nat.beq j.2 k.2 with|true=>false|false=>qqp k r
def Qv:List (Nat×Nat)->Bool
 |[]=>true
 |k::r=>match qqp k r with|true=>Qv r|false=>false
def fin(c:Cx)(f:FuncId)(st:St):Option (AV×Hp):=
 match c.F f with
 |some fn=>cond (Qv (fn.results.toList.map (Ya st))) (QS st c.tn (fun l=>match l with
  |[x]=>some (x,st.hp)
  |l=>some (.tup l,st.hp)) fn.results.toList) none
 |none=>none
def kD{R:Type}(c:Cx):Nat->List TypeId->List AV->(Slots->Option R)->Option R
 |_,[],[],K=>K []
 |i,[],x::xs,K=>kD c (i+1) [] xs fun l=>K ((i,.av x)::l)
 |_,_::_,[],_=>none
 |i,t::ts,x::xs,K=>match c.tn t with
  |some ti=>if qhk ti.k then(Qz x).bind fun v=>kD c (i+1) ts xs fun l=>K ((i,.sv v)::l)else kD c (i+1) ts xs fun l=>K ((i,.av x)::l)
  |none=>none
def after(h:Nat)(o:Oper)(st:St)(s:SV)(b:BE)(hp:Hp):St:=
 ⟨QV (qU h o st.sl) o.dst s,(match b with|some (k,g,cs)=>Wb st.bx k g cs|none=>st.bx),hp⟩
def ko(o:Oper)(ops:Array Oper):Option (Option (Nat×Bool)):=
 match o.guard with
 |none=>some none
 |some (j,want)=>match ops[j]? with
  |some oj=>match oj.dst with
   |some d=>some (some (d,want))
   |none=>none
  |none=>none
def qpj(d:Bool)(i:Nat)(p:Fp)(acc:List (Nat×Fp)):List (Nat×Fp):=if d then(i,p)::acc else acc
theorem vY{R:Type}:∀{l:List (Option Unit)} {X:Option R} {r:R},qrt l X=some r->(∀o∈l,o=some ())/\X=some r
 |[],X,r,h=>⟨qg,h⟩
 |o::l,X,r,h=>by
  obtain⟨u,hu,h⟩:=bsm h
  obtain⟨h1,h2⟩:=vY h
  refine⟨fun o' ho=>?_,h2⟩
  rcases zne.mp ho with rfl|ho
  ·exact hu
  ·exact h1 o' ho
theorem qa1{R:Type}:∀{l:List (Option Unit)} {X:Option R} {r:R},(∀o∈l,o=some ())->X=some r->qrt l X=some r
 |[],X,r,_,h=>h
 |o::l,X,r,h1,h=>by
  show o.bind _=_
  rw[h1 o qg]
  exact qa1 (fun o ho=>h1 o (by simp[ho])) h
theorem qm2{q:AV×Nat}{g g':Nat->Option (Nat×List AV)}(h:xw q g g'=some ()):yQ q g=yQ q g':=by
 unfold xw at h
 split at h
 ·assumption
 ·cases h
theorem qkw{t:List (List Nat)}{p q:Nat×Fp}{x:AV×Nat}(hx:p.2.lq=some x)(hw:q.2.hw=true)(ho:qg1 t p.1 q.1=false):
 ∀{l:List (Nat×Fp)} {r:List (Option Unit)},q∈l->xw x q.2.gb q.2.ga∈zb3 t p l r
 |q'::l,r,hq=>by
  show _∈qut t p q' (zb3 t p l r)
  rcases zne.mp hq with rfl|hq
  ·simp only[qut,hx,hw,ho]
   exact zqj ..
  ·have ih:=qkw hx hw ho (r:=r) hq
   unfold qut
   split
   ·exact ih
   ·split
    ·exact ih
    ·split
     ·exact ih
     ·exact zpn _ ih
theorem qus{t:List (List Nat)}{p q:Nat×Fp}{r:List (Option Unit)}{o:Option Unit}(h:o∈r):o∈qut t p q r:=by
 unfold qut
 split
 ·exact h
 ·split
  ·exact h
  ·split
   ·exact h
   ·exact zpn _ h
theorem qdt{t:List (List Nat)}{p:Nat×Fp}{o:Option Unit}:∀{l:List (Nat×Fp)} {r:List (Option Unit)},o∈r->o∈zb3 t p l r
 |[],r,h=>h
 |q::l,r,h=>qus (qdt h)
theorem qkv{t:List (List Nat)}{acc:List (Nat×Fp)}{p q:Nat×Fp}{x:AV×Nat}(hx:p.2.lq=some x)(hw:q.2.hw=true)(ho:qg1 t p.1 q.1=false)(hq:q∈acc):
 ∀{l:List (Nat×Fp)},p∈l->xw x q.2.gb q.2.ga∈zj2 t acc l
 |p'::l,hp=>by
  rcases zne.mp hp with rfl|hp
  ·exact qkw hx hw ho hq
  ·exact qdt (qkv hx hw ho hq hp)
theorem qc8{ops:Array Oper}{acc:List (Nat×Fp)}(h:∀o∈zfd ops acc,o=some ()){p q:Nat×Fp}(hp:p∈acc)(hq:q∈acc){x:AV×Nat}(hx:p.2.lq=some x)(hw:q.2.hw=true):
 qg1 (yf ops.toList []) p.1 q.1=true\/yQ x q.2.gb=yQ x q.2.ga:=by
 cases ho:qg1 (yf ops.toList []) p.1 q.1 with
 |true=>exact .inl rfl
 |false=>exact .inr (qm2 (h _ (qkv hx hw ho hq hp)))
abbrev GoT:=List It->St->Option (AV×Hp)
def Xv(c:Cx)(C:Orc)(G:GoT)(r:Nat)(ops:Array Oper)(is:List Nat)(d:Bool)(acc:List (Nat×Fp))(k:List It)(h i:Nat)(o:Oper)(st:St):Option (AV×Hp):=
 qw c C h o (jk st.sl) (jx st.bx) st.hp fun s b hp=>G (.ops r ops is d (qpj d i (zjo c.tn h ops o st.sl st.hp hp) acc)::k) (after h o st s b hp)
def qie(G:GoT)(r:Nat)(ops:Array Oper)(is:List Nat)(d:Bool)(acc:List (Nat×Fp))(k:List It)(i:Nat)(o:Oper)(st:St):Option (AV×Hp):=
 G (.ops r ops is d (qpj d i (Kr ops o) acc)::k) ⟨QV st.sl o.dst .ud,st.bx,st.hp⟩
def qsd(st:St)(g:Nat)(b:Bool):St:=⟨(g,.sv (.bool b))::st.sl,st.bx,st.hp⟩
def opF(c:Cx)(C:Orc)(G:GoT)(r:Nat)(ops:Array Oper)(is:List Nat)(d:Bool)(acc:List (Nat×Fp))(k:List It)(h i:Nat)(o:Oper)(st:St):Option (AV×Hp):=
 match ko o ops with
 |none=>none
 |some none=>Xv c C G r ops is d acc k h i o st
 |some (some (g,want))=>match qS st.sl g with
  | .ud=>qie G r ops is d acc k i o st
  | .sv v=>(asB v).bind fun t=>match want with
   |true=>cond t (Xv c C G r ops is d acc k h i o (qsd st g true)) (qie G r ops is d acc k i o (qsd st g false))
   |false=>cond t (qie G r ops is d acc k i o (qsd st g true)) (Xv c C G r ops is d acc k h i o (qsd st g false))
  |_=>none
noncomputable def yJ(c:Cx)(C:Orc)(G:GoT)(f:FuncId)(its:List It)(st:St):Option (AV×Hp):=
 match its with
 |[]=>fin c f st
 | .inBlock _::k=>G k st
 | .inLoop b::k=>G (.code b::.inLoop b::k) st
 | .inScope _::k=>G k st
 | .code (.scope b)::k=>G (.code b::.inScope b::k) st
 | .code .skip::k=>G k st
 | .code (.label _)::k=>G k st
 | .code .ret::_=>fin c f st
 | .code (.seq a b)::k=>G (.code a::.code b::k) st
 | .code (.block id b)::k=>G (.code b::.inBlock id::k) st
 | .code (.loop b)::k=>G (.inLoop b::k) st
 | .code (.exit id)::k=>(qc7 id k).bind fun k'=>G k' st
 | .code (.cond x a b)::k=>(vi (jk st.sl x)).bind fun v=>(asB v).bind fun t=>cond t (G (.code a::k) st) (G (.code b::k) st)
 | .code (.region r ops d)::k=>G (.ops r ops (List.range ops.size) d []::k) (mask (c.M f r) st)
 | .ops r ops [] d acc::k=>cond (!d||Kw ops acc) (qrt (zfd ops acc) (G k st)) none
 | .ops r ops (i::is) d acc::k=>(ops[i]?).bind fun o=>opF c C G r ops is d acc k (c.H f r i) i o st
 |_=>none
noncomputable def Qt(c:Cx)(C:Orc)(f:FuncId):Nat->List It->St->Option (AV×Hp)
 |0=>fun _ _=>none
 |n+1=>yJ c C (Qt c C f n) f
def xt{R:Type}(c:Cx)(f:FuncId)(xs:List AV)(hp:Hp)(K:List It->St->Option R):Option R:=
 match c.F f with
 |some fn=>match fn.body with
  |some b=>kD c 0 fn.params.toList xs fun l=>K [.code b] ⟨l,[],hp⟩
  |none=>none
 |none=>none
noncomputable def yw(c:Cx):Nat->Orc
 |0=>fun _ _ _=>none
 |n+1=>fun f xs hp=>xt c f xs hp (Qt c (yw c n) f n)
def Le{α:Type}(a b:Option α):Prop:=∀r,a=some r->b=some r
theorem Le.refl{α:Type}(a:Option α):Le a a:=fun _ h=>h
theorem Le.trans{α:Type}{a b c:Option α}(h:Le a b)(h':Le b c):Le a c:=fun r hr=>h' r (h r hr)
abbrev k3:Kt (SV×BE×Hp):=fun s b hp=>some (s,b,hp)
section nat
variable {R:Type}
theorem qZ(ti:TI)(h:Nat)(cs:List AV)(off:Nat)(K:SV->List AV->Option R):
 yn ti h cs off K=(yn ti h cs off fun s c=>some (s,c)).bind fun p=>K p.1 p.2:=by
 unfold yn
 repeat' split
 all_goals simp[znf]
theorem yh(ti:TI)(r:AV)(K:SV->Option R):qbv ti r K=(qbv ti r some).bind K:=by
 unfold qbv
 repeat' split
 all_goals simp[znf]
theorem kC(h:Nat)(ti:TI)(a:SV)(gb:Nat->Option (Nat×List AV))(hp:Hp)(K:Kt R):
 jH h ti a gb hp K=(jH h ti a gb hp k3).bind fun p=>K p.1 p.2.1 p.2.2:=by
 unfold jH
 repeat' split
 all_goals first
  |(rw[qZ];conv=>rhs;rw[qZ]
    simp[znf])
  |(simp only[znf];congr 1;funext p;congr 1;funext cs;rw[qZ];conv=>rhs;rw[qZ]
    simp[znf])
  |simp
theorem qgh(ti:TI)(a x:SV)(gb:Nat->Option (Nat×List AV))(hp:Hp)(K:Kt R):
 kp ti a x gb hp K=(kp ti a x gb hp k3).bind fun p=>K p.1 p.2.1 p.2.2:=by
 unfold kp
 simp only[znf]
 congr 1;funext vs
 repeat' split
 all_goals simp[znf]
theorem vT(c:Cx)(ti:TI)(a:SV)(f:Nat)(K:SV->Option R):xf c ti a f K=(xf c ti a f some).bind K:=by
 unfold xf
 repeat' split
 all_goals simp[znf]
theorem vL(c:Cx)(h:Nat)(ti:TI)(a i:SV)(K:SV->Option R):xd c h ti a i K=(xd c h ti a i some).bind K:=by
 unfold xd
 repeat' split
 all_goals simp[znf]
theorem Yh(c:Cx)(h:Nat)(ti:TI)(t:TypeId)(a:SV)(lo hi mx:Option Value)(K:SV->Option R):
 Yi c h ti t a lo hi mx K=(Yi c h ti t a lo hi mx some).bind K:=by
 unfold Yi
 repeat' split
 all_goals simp[znf]
theorem Ky(c:Cx)(s d:TypeId)(si di:TI)(a:SV)(K:SV->Option R):qal c s d si di a K=(qal c s d si di a some).bind K:=by
 unfold qal
 repeat' split
 all_goals simp[znf]
theorem qa3(c:Cx)(op:BinOp)(t:TypeId)(x y:Operand)(a b:SV)(K:SV->Option R):qpf c op t x y a b K=(qpf c op t x y a b some).bind K:=by
 unfold qpf
 repeat' split
 all_goals simp[znf]
theorem Kf(c a b:SV)(K:SV->Option R):WC c a b K=(WC c a b some).bind K:=by
 unfold WC
 simp only[znf]
 congr 1;funext v;congr 1;funext t
 repeat' split
 all_goals first|simp|(cases t<;>simp)
theorem qa0(c:Cx)(h:Nat)(o:Oper)(b:Builtin)(ts:List TypeId)(as_:List SV)(hp:Hp)(K:SV->Hp->Option R):qb4 c h o b ts as_ hp K=(qb4 c h o b ts as_ hp fun s q=>some (s,q)).bind fun p=>K p.1 p.2:=by
 unfold qb4
 repeat' split
 all_goals first
  |(simp[znf];done)
  |(simp only[znf];congr 1;funext d;congr 1;funext s
    split<;>simp[znf])
theorem qdh(ok:Bool)(ei:TI)(f:Option AV)(K:SV->Option R):qok ok ei f K=(qqz ok ei f).bind K:=by
 cases ok
 ·unfold qok qqz ofAK ofA
  dsimp only
  split<;>simp[znf]
 ·rfl
theorem wJ(c:Cx)(t:TypeId)(x i:SV)(ok:Bool)(hp:Hp)(K:SV->Option R):kV c t x i ok hp K=(kV c t x i ok hp some).bind K:=by
 unfold kV
 simp only[qdh]
 repeat' split
 all_goals simp[znf]
theorem ZW(c:Cx)(t:TypeId)(m k x:SV)(hp:Hp)(K:Hp->Option R):JB c t m k x hp K=(JB c t m k x hp some).bind K:=by
 unfold JB
 repeat' split
 all_goals simp[znf]
theorem wQ(k:TK)(hp:Hp)(s:SV)(K:SV->Hp->Option R):qun k hp s K=(qo0 k hp s).bind fun p=>K p.1 p.2:=by
 unfold qun qo0
 split
 ·split<;>simp[znf]
 ·simp only[znc]
theorem qdz(c:Cx)(C:Orc)(h:Nat)(ti:TI)(f:FuncId)(caps:List AV)(as_:List SV)(hp:Hp)(K:Kt R):
 ya c C h ti f caps as_ hp K=(ya c C h ti f caps as_ hp k3).bind fun p=>K p.1 p.2.1 p.2.2:=by
 unfold ya
 simp only[znf]
 congr 1;funext xs
 split
 ·simp only[znf]
  congr 1;funext p
  rw[yh];conv=>rhs;rw[yh]
  simp[znf]
 ·split
  ·simp only[znf]
   congr 1;funext p
   rw[yh];conv=>rhs;rw[yh]
   simp[znf]
  ·simp only[znf]
   congr 1;funext u;congr 1;funext p;congr 1;funext u
   rw[yh];conv=>rhs;rw[yh]
   simp[znf]
theorem yD(wF:Nat->Option (Nat×Nat))(ev:Operand->SV)(K:List AV->Option R):∀(l:List (Nat×Operand)) (cs:List AV),
 xF wF ev K l cs=(xF wF ev some l cs).bind K
 |[],cs=>rfl
 |(i,x)::r,cs=>by
  unfold xF
  split
  ·rfl
  ·simp only[znf]
   congr 1;funext vs;congr 1;funext cs'
   exact yD wF ev K r cs'
theorem Qw(c:Cx)(C:Orc)(h:Nat)(o:Oper)(ev:Operand->SV)(gb:Nat->Option (Nat×List AV))(hp:Hp)(K:Kt R):
 qw c C h o ev gb hp K=(qw c C h o ev gb hp k3).bind fun p=>K p.1 p.2.1 p.2.2:=by
 unfold qw
 repeat' split
 all_goals first
  |rfl
  |(simp[znf];done)
  |exact kC _ _ _ _ _ _
  |exact qgh _ _ _ _ _ _
  |exact qdz _ _ _ _ _ _ _ _ _
  |(rw[yD];conv=>rhs;rw[yD]
    simp[znf];done)
  |(rw[Kf];conv=>rhs;rw[Kf]
    simp[znf];done)
  |(rw[qa3];conv=>rhs;rw[qa3]
    simp[znf];done)
  |(rw[Ky];conv=>rhs;rw[Ky]
    simp[znf];done)
  |(rw[vT];conv=>rhs;rw[vT]
    simp[znf];done)
  |(rw[vL];conv=>rhs;rw[vL]
    simp[znf];done)
  |(rw[qa0];conv=>rhs;rw[qa0]
    simp[znf];done)
  |(rw[wJ];conv=>rhs;rw[wJ]
    simp[znf];done)
  |(rw[ZW];conv=>rhs;rw[ZW]
    simp[znf];done)
  |(simp only[wQ];rw[kC];conv=>rhs;rw[kC]
    simp[znf];done)
  |(simp only[wQ];simp[znf];done)
  |(simp only[znf];congr 1;funext cs;rw[qZ];conv=>rhs;rw[qZ]
    simp[znf];done)
  |(simp only[znf];congr 1;funext cs;congr 1;funext iv;congr 1;funext j;rw[qZ];conv=>rhs;rw[qZ]
    simp[znf];done)
  |(simp only[znf];congr 1;funext l;congr 1;funext u;congr 1;funext m;rw[Yh];conv=>rhs;rw[Yh]
    simp[znf];done)
  |(simp only[znf];congr 1;funext p;exact qdz _ _ _ _ _ _ _ _ _)
  |(simp only[znf];congr 1;funext l;congr 1;funext u;congr 1;funext m;congr 1;funext q;repeat' split
    all_goals simp)
  |(simp only[znf];congr 1;funext l;repeat' split
    all_goals first
     |rfl
     |(simp[znf];done))
end nat
def OLe(C C':Orc):Prop:=∀f xs hp,Le (C f xs hp) (C' f xs hp)
theorem Le.bind{α β:Type}{a b:Option α}{f g:α->Option β}(h:Le a b)(hf:∀x,Le (f x) (g x)):Le (a.bind f) (b.bind g):=by
 intro r hr
 cases a with
 |none=>simp at hr
 |some x=>rw[h x rfl];exact hf x r hr
theorem Le.cond{α:Type}{a b a' b':Option α}{t:Bool}(h:Le a a')(h':Le b b'):Le (cond t a b) (cond t a' b'):=by cases t<;>assumption
theorem qas(c:Cx){C C':Orc}(hC:OLe C C')(h:Nat)(ti:TI)(f:FuncId)(caps:List AV)(as_:List SV)(hp:Hp):
 Le (ya c C h ti f caps as_ hp k3) (ya c C' h ti f caps as_ hp k3):=by
 unfold ya
 refine Le.bind (Le.refl _) fun xs=>?_
 split
 ·exact Le.bind (hC _ _ _) fun p=>Le.refl _
 ·split
  ·exact Le.bind (hC _ _ _) fun p=>Le.refl _
  ·exact Le.bind (Le.refl _) fun _=>Le.bind (hC _ _ _) fun p=>Le.refl _
theorem qak(c:Cx){C C':Orc}(hC:OLe C C')(h:Nat)(o:Oper)(ev:Operand->SV)(gb:Nat->Option (Nat×List AV))(hp:Hp):
 Le (qw c C h o ev gb hp k3) (qw c C' h o ev gb hp k3):=by
 unfold qw
 repeat' split
 all_goals first
  |exact Le.refl _
  |exact qas c hC _ _ _ _ _ _
  |exact Le.bind (Le.refl _) fun p=>qas c hC _ _ _ _ _ _
noncomputable def lim{α:Type}(s:Nat->Option α):Option α:=
 open Classical in if h:∃n r,s n=some r then s h.choose else none
theorem qj7{α:Type}{s:Nat->Option α}(hs:∀n,Le (s n) (s (n+1)))(r:α):lim s=some r↔∃n,s n=some r:=by
 have up:∀n m,Le (s n) (s (n+m)):=by
  intro n m
  induction m with
  |zero=>exact Le.refl _
  |succ m ih=>exact ih.trans (hs (n+m))
 constructor
 ·intro h
  unfold lim at h
  split at h
  ·exact⟨_,h⟩
  ·cases h
 ·rintro⟨n,hn⟩
  unfold lim
  have h:∃n r,s n=some r:=⟨n,r,hn⟩
  rw[dif_pos h]
  obtain⟨r',hr'⟩:=h.choose_spec
  have a:=up n h.choose r hn
  have b:=up h.choose n r' hr'
  rw[zq2]at b
  rw[a]at b
  cases b
  exact hr'
theorem Le.ite{α:Type}{p:Prop}[Decidable p]{a b a' b':Option α}(h:Le a a')(h':Le b b'):Le (if p then a else b) (if p then a' else b'):=by
 split<;>assumption
def GLe(G G':List It->St->Option (AV×Hp)):Prop:=∀its st,Le (G its st) (G' its st)
theorem quq(c:Cx){C C':Orc}(hC:OLe C C'){G G':List It->St->Option (AV×Hp)}(hG:GLe G G')(h:Nat)(o:Oper)(ev:Operand->SV)
 (gb:Nat->Option (Nat×List AV)) (hp:Hp) (its:SV->BE->Hp->List It) (sts:SV->BE->Hp->St):
 Le (qw c C h o ev gb hp fun s b q=>G (its s b q) (sts s b q)) (qw c C' h o ev gb hp fun s b q=>G' (its s b q) (sts s b q)):=by
 rw[Qw (K:=fun s b q=>G (its s b q) (sts s b q)),Qw (K:=fun s b q=>G' (its s b q) (sts s b q))]
 exact Le.bind (qak c hC _ _ _ _ _) fun p=>hG _ _
theorem Yz(c:Cx){C C':Orc}(hC:OLe C C'){G G':GoT}(hG:GLe G G')(r:Nat)(ops:Array Oper)(is:List Nat)(d:Bool)(acc:List (Nat×Fp))(k:List It)(h i:Nat)(o:Oper)(st:St):
 Le (Xv c C G r ops is d acc k h i o st) (Xv c C' G' r ops is d acc k h i o st):=quq c hC hG _ _ _ _ _ _ _
theorem zaf(c:Cx){C C':Orc}(hC:OLe C C'){G G':GoT}(hG:GLe G G')(r:Nat)(ops:Array Oper)(is:List Nat)(d:Bool)(acc:List (Nat×Fp))(k:List It)(h i:Nat)(o:Oper)(st:St):
 Le (opF c C G r ops is d acc k h i o st) (opF c C' G' r ops is d acc k h i o st):=by
 unfold opF
 split
 ·exact Le.refl _
 ·exact Yz c hC hG _ _ _ _ _ _ _ _ _ _
 ·split
  ·exact hG _ _
  ·refine Le.bind (Le.refl _) fun t=>?_
   split
   ·exact Le.cond (Yz c hC hG _ _ _ _ _ _ _ _ _ _) (hG _ _)
   ·exact Le.cond (hG _ _) (Yz c hC hG _ _ _ _ _ _ _ _ _ _)
  ·exact Le.refl _
theorem QH(c:Cx){C C':Orc}(hC:OLe C C'){G G':GoT}(hG:GLe G G')(f:FuncId)(its:List It)(st:St):
 Le (yJ c C G f its st) (yJ c C' G' f its st):=by
 unfold yJ
 split
 all_goals first
  |exact Le.refl _
  |exact hG _ _
  |exact Le.bind (Le.refl _) fun v=>Le.bind (Le.refl _) fun t=>Le.cond (hG _ _) (hG _ _)
  |exact Le.bind (Le.refl _) fun v=>hG _ _
  |exact Le.cond (fun r h=>qa1 (vY h).1 (hG _ _ r (vY h).2)) (Le.refl _)
  |exact Le.bind (Le.refl _) fun v=>zaf c hC hG _ _ _ _ _ _ _ _ _ _
theorem Xp(c:Cx){C C':Orc}(hC:OLe C C')(f:FuncId):∀n its st,Le (Qt c C f n its st) (Qt c C' f n its st)
 |0,_,_=>Le.refl _
 |n+1,its,st=>QH c hC (fun its st=>Xp c hC f n its st) f its st
theorem Xo(c:Cx)(C:Orc)(f:FuncId):∀n its st,Le (Qt c C f n its st) (Qt c C f (n+1) its st)
 |0,_,_=>fun r h=>by simp[Qt]at h
 |n+1,its,st=>QH c (fun f xs hp=>Le.refl _) (fun its st=>Xo c C f n its st) f its st
theorem Ze{R:Type}(c:Cx):∀(i:Nat) (ts:List TypeId) (xs:List AV) (K K':Slots->Option R),(∀l,Le (K l) (K' l))->Le (kD c i ts xs K) (kD c i ts xs K')
 |_,[],[],_,_,h=>h _
 |i,[],_::xs,_,_,h=>Ze c (i+1) [] xs _ _ fun l=>h _
 |_,_::_,[],_,_,_=>Le.refl _
 |i,t::ts,x::xs,_,_,h=>by
  unfold kD
  split
  ·split
   ·exact Le.bind (Le.refl _) fun v=>Ze c (i+1) ts xs _ _ fun l=>h _
   ·exact Ze c (i+1) ts xs _ _ fun l=>h _
  ·exact Le.refl _
theorem KU{R:Type}(c:Cx)(f:FuncId)(xs:List AV)(hp:Hp){K K':List It->St->Option R}(h:∀its st,Le (K its st) (K' its st)):
 Le (xt c f xs hp K) (xt c f xs hp K'):=by
 unfold xt
 repeat' split
 all_goals first
  |exact Le.refl _
  |exact Ze c _ _ _ _ _ (fun l=>h _ _)
theorem vk(c:Cx):∀n,OLe (yw c n) (yw c (n+1))
 |0=>fun f xs hp r h=>by simp[yw]at h
 |n+1=>fun f xs hp=>by
  show Le (xt c f xs hp (Qt c (yw c n) f n)) (xt c f xs hp (Qt c (yw c (n+1)) f (n+1)))
  exact KU c f xs hp fun its st=>(Xp c (vk c n) f n its st).trans (Xo c _ f n its st)
noncomputable def run(c:Cx):Orc:=fun f xs hp=>lim fun n=>yw c n f xs hp
noncomputable def go(c:Cx)(f:FuncId)(its:List It)(st:St):Option (AV×Hp):=lim fun n=>Qt c (yw c n) f n its st
theorem vy{c:Cx}{f:FuncId}{xs:List AV}{hp:Hp}{r:AV×Hp}:run c f xs hp=some r↔∃n,yw c n f xs hp=some r:=
 qj7 (fun n=>vk c n f xs hp) r
theorem zhr(c:Cx)(f:FuncId)(its:List It)(st:St)(n:Nat):Le (Qt c (yw c n) f n its st) (Qt c (yw c (n+1)) f (n+1) its st):=
 (Xp c (vk c n) f n its st).trans (Xo c _ f n its st)
theorem yo{c:Cx}{f:FuncId}{its:List It}{st:St}{r:AV×Hp}:go c f its st=some r↔∃n,Qt c (yw c n) f n its st=some r:=
 qj7 (zhr c f its st) r
theorem zeq(c:Cx){n m:Nat}(h:n<=m):OLe (yw c n) (yw c m):=by
 obtain⟨d,rfl⟩:=Nat.exists_eq_add_of_le h
 intro f xs hp
 induction d with
 |zero=>exact Le.refl _
 |succ d ih=>exact(ih qe).trans (vk c (n+d) f xs hp)
theorem zjl(c:Cx)(f:FuncId){n m:Nat}(h:n<=m):GLe (Qt c (yw c n) f n) (Qt c (yw c m) f m):=by
 obtain⟨d,rfl⟩:=Nat.exists_eq_add_of_le h
 intro its st
 induction d with
 |zero=>exact Le.refl _
 |succ d ih=>exact(ih qe).trans (zhr c f its st (n+d))
theorem xY{α β:Type}{o:Option α}{f:α->Option β}{fs:Nat->α->Option β}(h:∀x r,f x=some r->∃n,fs n x=some r){r:β}
 (hr:o.bind f=some r):∃n,o.bind (fs n)=some r:=by
 cases o with
 |none=>simp at hr
 |some x=>exact h x r hr
theorem qat(c:Cx)(h:Nat)(ti:TI)(f:FuncId)(caps:List AV)(as_:List SV)(hp:Hp){r:SV×BE×Hp}
 (hr:ya c (run c) h ti f caps as_ hp k3=some r):∃n,ya c (yw c n) h ti f caps as_ hp k3=some r:=by
 unfold ya at hr⊢
 refine xY (fun xs r hr=>?_) hr
 by_cases e:h=2
 ·simp only[if_pos e]at hr⊢
  obtain⟨p,hp',hr⟩:=bsm hr
  obtain⟨n,hn⟩:=vy.mp hp'
  exact⟨n,by rw[hn];exact hr⟩
 ·simp only[if_neg e]at hr⊢
  by_cases e4:h=4
  ·simp only[if_pos e4]at hr⊢
   obtain⟨p,hp',hr⟩:=bsm hr
   obtain⟨n,hn⟩:=vy.mp hp'
   exact⟨n,by rw[hn];exact hr⟩
  ·simp only[if_neg e4]at hr⊢
   obtain⟨u,hu,hr⟩:=bsm hr
   obtain⟨p,hp',hr⟩:=bsm hr
   obtain⟨n,hn⟩:=vy.mp hp'
   exact⟨n,by rw[hu];simp only[znc];rw[hn];exact hr⟩
theorem qo7(c:Cx)(h:Nat)(o:Oper)(ev:Operand->SV)(gb:Nat->Option (Nat×List AV))(hp:Hp){r:SV×BE×Hp}
 (hr:qw c (run c) h o ev gb hp k3=some r):∃n,qw c (yw c n) h o ev gb hp k3=some r:=by
 revert hr
 unfold qw
 split
 all_goals try exact fun hr=>⟨0,hr⟩
 repeat' split
 all_goals intro hr
 all_goals first
  |exact⟨0,hr⟩
  |exact qat c _ _ _ _ _ hp hr
  |exact xY (fun p r hr=>qat c _ _ _ _ _ hp hr) hr
theorem qur(c:Cx)(f:FuncId)(h:Nat)(o:Oper)(ev:Operand->SV)
 (gb:Nat->Option (Nat×List AV)) (hp:Hp) (its:SV->BE->Hp->List It) (sts:SV->BE->Hp->St) {r:AV×Hp}
 (hr:(qw c (run c) h o ev gb hp fun s b q=>go c f (its s b q) (sts s b q))=some r):
 ∃n,(qw c (yw c n) h o ev gb hp fun s b q=>Qt c (yw c n) f n (its s b q) (sts s b q))=some r:=by
 rw[Qw]at hr
 obtain⟨p,h1,h2⟩:=bsm hr
 obtain⟨n,hn⟩:=qo7 c h o ev gb hp h1
 obtain⟨m,hm⟩:=yo.mp h2
 refine⟨max n m,?_⟩
 rw[Qw]
 rw[qak c (zeq c (Nat.le_max_left n m)) h o ev gb hp p hn]
 exact zjl c f (Nat.le_max_right n m) _ _ r hm
theorem YA(c:Cx)(f:FuncId)(r:Nat)(ops:Array Oper)(is:List Nat)(d:Bool)(acc:List (Nat×Fp))(k:List It)(h i:Nat)(o:Oper)(st:St){q:AV×Hp}
 (hr:Xv c (run c) (go c f) r ops is d acc k h i o st=some q):∃n,Xv c (yw c n) (Qt c (yw c n) f n) r ops is d acc k h i o st=some q:=
 qur c f h o (jk st.sl) (jx st.bx) st.hp (fun s b hp=>.ops r ops is d (qpj d i (zjo c.tn h ops o st.sl st.hp hp) acc)::k) (fun s b hp=>after h o st s b hp) hr
theorem zag(c:Cx)(f:FuncId)(r:Nat)(ops:Array Oper)(is:List Nat)(d:Bool)(acc:List (Nat×Fp))(k:List It)(h i:Nat)(o:Oper)(st:St){q:AV×Hp}
 (hr:opF c (run c) (go c f) r ops is d acc k h i o st=some q):∃n,opF c (yw c n) (Qt c (yw c n) f n) r ops is d acc k h i o st=some q:=by
 revert hr
 unfold opF
 split
 ·intro hr;cases hr
 ·intro hr;exact YA c f _ _ _ _ _ _ _ _ _ _ hr
 ·split
  ·intro hr;exact yo.mp hr
  ·intro hr
   refine xY (fun t r hr=>?_) hr
   revert hr
   split
   ·intro hr
    cases t
    ·exact yo.mp hr
    ·exact YA c f _ _ _ _ _ _ _ _ _ _ hr
   ·intro hr
    cases t
    ·exact YA c f _ _ _ _ _ _ _ _ _ _ hr
    ·exact yo.mp hr
  ·intro hr;cases hr
theorem qmy(c:Cx)(f:FuncId)(its:List It)(st:St){r:AV×Hp}(hr:yJ c (run c) (go c f) f its st=some r):
 ∃n,yJ c (yw c n) (Qt c (yw c n) f n) f its st=some r:=by
 unfold yJ at hr⊢
 split at hr
 all_goals first
  |exact⟨0,hr⟩
  |exact yo.mp hr
  |exact xY (fun v r hr=>yo.mp hr) hr
  |exact xY (fun v r hr=>zag c f _ _ _ _ _ _ _ _ _ _ hr) hr
  |skip
 ·refine xY (fun v r hr=>xY (fun t r hr=>?_) hr) hr
  cases t
  ·exact yo.mp hr
  ·exact yo.mp hr
 ·rename_i d acc k
  generalize(!d||Kw _ acc)=t at hr⊢
  cases t
  ·cases hr
  ·obtain⟨h1,h2⟩:=vY hr
   obtain⟨n,hn⟩:=yo.mp h2
   exact⟨n,qa1 h1 hn⟩
theorem qq8(c:Cx)(f:FuncId)(its:List It)(st:St):go c f its st=yJ c (run c) (go c f) f its st:=by
 apply Option.ext
 intro r
 constructor
 ·intro h
  obtain⟨n,hn⟩:=yo.mp h
  cases n with
  |zero=>simp[Qt]at hn
  |succ n=>
   have hC:OLe (yw c (n+1)) (run c):=fun f xs hp r hr=>vy.mpr ⟨n+1,hr⟩
   have hG:GLe (Qt c (yw c (n+1)) f n) (go c f):=fun its st r hr=>yo.mpr ⟨n+1,Xo c _ f n its st r hr⟩
   exact QH c hC hG f its st r hn
 ·intro h
  obtain⟨n,hn⟩:=qmy c f its st h
  refine yo.mpr ⟨n+1,?_⟩
  exact QH c (vk c n) (fun its st=>Xp c (vk c n) f n its st) f its st r hn
theorem jE{R:Type}(c:Cx):∀(i:Nat) (ts:List TypeId) (xs:List AV) (K:Slots->Option R),kD c i ts xs K=(kD c i ts xs some).bind K
 |_,[],[],_=>rfl
 |i,[],x::xs,K=>by
  simp only[kD]
  rw[jE c (i+1) [] xs]
  conv=>rhs;rw[jE c (i+1) [] xs]
  simp[znf]
 |_,_::_,[],_=>rfl
 |i,t::ts,x::xs,K=>by
  simp only[kD]
  split
  ·split
   ·simp only[znf]
    congr 1;funext v
    rw[jE c (i+1) ts xs]
    conv=>rhs;rw[jE c (i+1) ts xs]
    simp[znf]
   ·rw[jE c (i+1) ts xs]
    conv=>rhs;rw[jE c (i+1) ts xs]
    simp[znf]
  ·rfl
theorem zio(c:Cx)(f:FuncId)(xs:List AV)(hp:Hp):run c f xs hp=xt c f xs hp (go c f):=by
 apply Option.ext
 intro r
 constructor
 ·intro h
  obtain⟨n,hn⟩:=vy.mp h
  cases n with
  |zero=>simp[yw]at hn
  |succ n=>exact KU c f xs hp (fun its st r hr=>yo.mpr ⟨n,hr⟩) r hn
 ·intro h
  have key:∃n,xt c f xs hp (Qt c (yw c n) f n)=some r:=by
   revert h
   unfold xt
   split
   ·split
    ·intro h
     rw[jE]at h
     obtain⟨l,h1,h2⟩:=bsm h
     obtain⟨n,hn⟩:=yo.mp h2
     exact⟨n,by rw[jE,h1];exact hn⟩
    ·intro h;cases h
   ·intro h;cases h
  obtain⟨n,hn⟩:=key
  exact vy.mpr ⟨n+1,hn⟩
theorem XG(k:Nat):Nat.beq k k=true:=qg
theorem qhx{j k:Nat}(h:j≠k):Nat.beq j k=false:=by
 cases hb:Nat.beq j k
 ·rfl
 ·exact absurd (Nat.eq_of_beq_eq_true hb) h
theorem Yx(b:Boxes):∀(live:List Nat) (k:Nat),jx (kA b live) k=if k∈live then jx b k else none
 |[],k=>by simp[kA,jx]
 |j::r,k=>by
  have ih:=Yx b r k
  simp only[kA]
  split
  ·rename_i g cs h
   simp only[jx]
   by_cases e:j=k
   ·subst e;simp[h]
   ·rw[qhx e];simp only[ih,zne]
    have:k≠j:=fun h=>e h.symm
    simp[this]
  ·rename_i h
   rw[ih]
   by_cases e:j=k
   ·subst e;simp[h]
   ·have:k≠j:=fun h=>e h.symm
    simp[this]
theorem Vd(b b':Boxes):∀(live:List Nat),(∀k∈live,jx b' k=jx b k)->kA b' live=kA b live
 |[],_=>rfl
 |j::r,h=>by
  simp only[kA]
  rw[h j qg,Vd b b' r fun k hk=>h k (by simp[hk])]
theorem QI(b:Boxes)(l:Slots):∀(live:List Nat) (k:Nat),qS (ZV b l live) k=if k∈live then WH b (qS l k)else .un
 |[],k=>by simp[ZV,qS]
 |j::r,k=>by
  have ih:=QI b l r k
  simp only[ZV]
  by_cases e:j=k
  ·subst e
   split
   ·rename_i h
    rw[ih];simp[h]
   ·rename_i s h
    simp[qS,XG]
  ·have e':k≠j:=fun h=>e h.symm
   split
   ·rw[ih];simp[e']
   ·simp[qS,qhx e,ih,e']
theorem Vc(b:Boxes)(l l':Slots):∀(live:List Nat),(∀k∈live,WH b (qS l' k)=WH b (qS l k))->ZV b l' live=ZV b l live
 |[],_=>rfl
 |j::r,h=>by
  simp only[ZV]
  rw[h j qg,Vc b l l' r fun k hk=>h k (by simp[hk])]
theorem qtv(b:Boxes)(s:SV):WH b (WH b s)=WH b s:=by
 cases s<;>simp only[WH]
 rename_i k g o
 cases h:jx b k<;>simp[WH,h]
theorem qt3(m:Option (List Nat))(st:St):mask m (mask m st)=mask m st:=by
 cases m with
 |none=>rfl
 |some live=>
  simp only[mask]
  have hB:kA (kA st.bx live) live=kA st.bx live:=Vd _ _ _ fun k hk=>by rw[Yx,if_pos hk]
  rw[hB]
  congr 1
  refine Vc _ _ _ _ fun k hk=>?_
  rw[QI,if_pos hk,qtv]
def qx7(ss:List Nat):List It->Bool
 | .code (.region r _ _)::_=>ss.contains r
 |_=>false
def qof(c:Cx)(f:FuncId):List It->St->St
 | .code (.region r _ _)::_,st=>mask (c.M f r) st
 |_,st=>st
theorem zf9(c:Cx)(f:FuncId)(its:List It)(st:St):go c f its (qof c f its st)=go c f its st:=by
 unfold qof
 split
 ·rw[qq8,qq8 c f _ st]
  simp only[yJ,qt3]
 ·rfl
noncomputable def qh5(c:Cx)(f:FuncId)(ss:List Nat):Nat->GoT
 |0=>go c f
 |n+1=>fun its st=>cond (qx7 ss its) (go c f its (qof c f its st)) (yJ c (run c) (qh5 c f ss n) f its st)
theorem qf8(c:Cx)(f:FuncId)(ss:List Nat):∀n,qh5 c f ss n=go c f
 |0=>rfl
 |n+1=>by
  funext its st
  simp only[qh5,qf8 c f ss n]
  cases qx7 ss its
  ·exact(qq8 c f its st).symm
  ·exact zf9 c f its st
theorem zcg(c:Cx)(f:FuncId)(ss:List Nat)(n:Nat)(its:List It)(st:St):go c f its st=yJ c (run c) (qh5 c f ss n) f its st:=by
 rw[qf8];exact qq8 c f its st
theorem zb2(c:Cx)(f:FuncId)(ss:List Nat)(n:Nat)(xs:List AV)(hp:Hp):run c f xs hp=xt c f xs hp (qh5 c f ss n):=by
 rw[qf8];exact zio c f xs hp
def sub:List Nat->Code->Code
 |[],c=>c
 |0::p,.seq a _=>sub p a
 |_::p,.seq _ b=>sub p b
 |0::p,.cond _ a _=>sub p a
 |_::p,.cond _ _ b=>sub p b
 |_::p,.block _ b=>sub p b
 |_::p,.loop b=>sub p b
 |_::p,.scope b=>sub p b
 |_,c=>c
inductive Ow where
 |fr|oth
 |box (k g:Nat)
 |obj (b g:Nat)
 |sl (k j i:Nat)
 |bc (k g i:Nat)
 |oc (b g i:Nat)
structure Gh where
 Om:Nat->Ow
 I:Nat->Nat
 mu:Nat->Nat->Option Nat
 la:Nat->Nat->Option Nat
def bsz(w:World)(b:Nat):Option Nat:=
 match w.heap[b]? with
 |some (.cells arr _ _)=>some arr.size
 |_=>none
theorem KD{w w':World}{b:Nat}(h:w'.heap[b]?=w.heap[b]?):bsz w' b=bsz w b:=by simp[bsz,h]
inductive RelR (G : Gh) (w : World) : AV → Value → Prop where
 |sc (v:Value):v.oneCell'=true->RelR G w (.sc v) v
 |sl0 (sz:Nat) (a:Addr) (cap:Nat):0<sz->RelR G w (.sl sz []) (.slice (some a) 0 cap)
 |sl (sz:Nat) (cs:List AV) (n cap b o:Nat) (vs:List Value):0<sz->0<n->cs.length=n*sz->n<=cap->o+n*sz<=G.I b->vs.length=cs.length->
  (∀k c,vs[k]?=some c->w.cell? ⟨b,o+k,none⟩=some c)->(∀x∈cs,vl x=true)->(∀(k:Nat) (x:AV) (c:Value),cs[k]?=some x->vs[k]?=some c->RelR G w x c)->
  RelR G w (.sl sz cs) (.slice (some ⟨b,o,none⟩) n cap)
 |ptr (b g off blk:Nat):G.mu b g=some blk->RelR G w (.ptr b g off) (.pointer (some ⟨blk,off,none⟩))
 |ms (b g off n sz cap blk off' z:Nat):G.mu b g=some blk->n<=cap->(0<n->off'=off)->bsz w blk=some z->off'+cap*sz<=z->RelR G w (.ms b g off n sz) (.slice (some ⟨blk,off',none⟩) n cap)
 |fn (f:FuncId) (caps:List AV) (vs:List Value):(Nat.blt f 4294967296=true\/caps=[])->caps.length=vs.length->
  (∀(k:Nat) (x:AV) (c:Value),caps[k]?=some x->vs[k]?=some c->RelR G w x c)->RelR G w (.fn f caps) (.func (.func f) #[] vs.toArray)
 |map (b blk:Nat):G.mu b 1=some blk->RelR G w (.map b) (.map (some blk))
 |fnb (f:FuncId) (bs:List AV) (vs:List Value):bs≠[]->bs.length=vs.length->
  (∀(k:Nat) (x:AV) (c:Value),bs[k]?=some x->vs[k]?=some c->RelR G w x c)->RelR G w (.fn (4294967296+f) bs) (.func (.func f) vs.toArray #[])
structure TokR (G : Gh) (w : World) (sz : Nat) (cs : List AV) (v : Value) (b : Nat) : Prop where
 ex:∃n cap arr e,v= .slice (some ⟨b,0,none⟩) n cap/\0<sz/\cs.length=n*sz/\n<=cap/\G.I b=n*sz/\
  w.heap[b]?=some (.cells arr e (0,0))/\arr.size=cap*sz/\∀(k:Nat) (x:AV),cs[k]?=some x->∃c,arr[k]?=some c/\RelR G w x c
 vl:∀x∈cs,vl x=true
def ym(G:Gh)(w:World)(p:Ow)(x:AV)(v:Value):Prop:=
 match x with
 | .us sz cs=>∃b,G.Om b=p/\TokR G w sz cs v b
 | .agg _=>False
 | .tup _=>False
 |x=>RelR G w x v
def zU(G:Gh)(w:World)(p:Nat->Ow)(x:AV)(v:Value):Prop:=
 match x with
 | .agg cs=>∃vs:List Value,v= .agg vs.toArray/\cs.length=vs.length/\∀(i:Nat) (x:AV) (c:Value),cs[i]?=some x->vs[i]?=some c->ym G w (p i) x c
 |x=>ym G w (p 0) x v
def zk(G:Gh)(w:World)(k:Nat)(s:SV)(v:Value):Prop:=
 match s with
 | .sv u=>v=u/\u.oneCell'=true
 | .av x=>zU G w (.sl k 0 ·) x v
 | .tp l=>∃vs:List Value,v= .tuple vs.toArray/\l.length=vs.length/\∀(j:Nat) (x:AV) (c:Value),l[j]?=some x->vs[j]?=some c->zU G w (.sl k j ·) x c
 | .lp k' g off=>∃blk,G.la k' g=some blk/\v= .pointer (some ⟨blk,off,none⟩)
 | .rv cs=>∃(b o:Nat) (vs:List Value),v= .pointer (some ⟨b,o,none⟩)/\vs.length=cs.length/\(∀i,i<cs.length->o+i<G.I b)/\
  (∀(k:Nat) (c:Value),vs[k]?=some c->w.cell? ⟨b,o+k,none⟩=some c)/\∀(k:Nat) (x:AV) (c:Value),cs[k]?=some x->vs[k]?=some c->RelR G w x c
 | .un=>True
 | .ud=>v=undef
def ke(G:Gh)(w:World)(blk:Nat)(p:Nat->Ow)(cs:List AV):Prop:=
 ∃arr e,w.heap[blk]?=some (.cells arr e (0,0))/\cs.length<=arr.size/\∀(i:Nat) (x:AV) (c:Value),cs[i]?=some x->arr[i]?=some c->ym G w (p i) x c
def Vx(G:Gh)(w:World)(x:AV)(v:Value):Prop:=
 match x with
 | .agg cs=>∃vs:List Value,v= .agg vs.toArray/\cs.length=vs.length/\∀(i:Nat) (x:AV) (c:Value),cs[i]?=some x->vs[i]?=some c->RelR G w x c
 |x=>RelR G w x v
def qa8(G:Gh)(w:World)(x:AV)(e:MapEntry):Prop:=
 match x with
 | .tup [.sc k,y]=>e.key=k/\k.oneCell'=true/\Vx G w y e.val
 |_=>False
def qln(G:Gh)(w:World)(blk:Nat)(cs:List AV):Prop:=
 ∃es clock,w.heap[blk]?=some (.map es clock)/\es.size=cs.length/\∀(i:Nat) (x:AV) (e:MapEntry),cs[i]?=some x->es[i]?=some e->qa8 G w x e
def ObR(G:Gh)(w:World)(blk:Nat)(p:Nat->Ow)(g:Nat)(cs:List AV):Prop:=
 match g with
 |0=>ke G w blk p cs
 |_+1=>qln G w blk cs
structure Inv (G : Gh) (w : World) (st : St) (tmps : Array Value) : Prop where
 slots:∀k,zk G w k (qS st.sl k) (tmps.getD k undef)
 boxes:∀k g cs,jx st.bx k=some (g,cs)->∃blk,G.la k g=some blk/\G.Om blk= .box k g/\ke G w blk (.bc k g ·) cs
 heap:∀b g cs,st.hp.get b=some (g,cs)->∃blk,G.mu b g=some blk/\G.Om blk= .obj b g/\ObR G w blk (.oc b g ·) g cs
 next:∀b g,st.hp.next<=b->G.mu b g=none
 hlt:∀b g cs,st.hp.get b=some (g,cs)->b<st.hp.next
 new:∀b,w.heap.size<=b->G.Om b= .fr/\G.I b=0
 vars:∀b,(∃k g,G.Om b= .box k g)\/(∃k g,G.Om b= .obj k g)->G.I b=0
 lps:∀j k g off,qS st.sl j= .lp k g off->∃g' cs,jx st.bx k=some (g',cs)/\g<=g'
def KG(w w':World):Prop:=w'.os=w.os/\w'.tape=w.tape/\w'.output=w.output
theorem KG.refl(w:World):KG w w:=⟨rfl,rfl,rfl⟩
theorem KG.trans{w w' w'':World}(h:KG w w')(h':KG w' w''):KG w w'':=⟨h'.1.trans h.1,h'.2.1.trans h.2.1,h'.2.2.trans h.2.2⟩
structure Fr (G : Gh) (w : World) (G' : Gh) (w' : World) : Prop where
 size:w.heap.size<=w'.heap.size
 cells:∀b i,i<G.I b->w'.cell? ⟨b,i,none⟩=w.cell? ⟨b,i,none⟩
 imm:∀b,G.I b<=G'.I b
 mu:∀b g x,G.mu b g=some x->G'.mu b g=some x
 same:∀b,b<w.heap.size->G.Om b= .fr\/G.Om b= .oth->w'.heap[b]?=w.heap[b]?/\G'.Om b=G.Om b/\G'.I b=G.I b
 rest:KG w w'
 bs:∀b z,bsz w b=some z->bsz w' b=some z
theorem Fr.refl(G:Gh)(w:World):Fr G w G w:=⟨znd _,fun _ _ _=>rfl,fun _=>znd _,fun _ _ _ h=>h,fun _ _ _=>⟨rfl,rfl,rfl⟩,KG.refl w,fun _ _ h=>h⟩
theorem Fr.trans{G G' G'':Gh}{w w' w'':World}(h:Fr G w G' w')(h':Fr G' w' G'' w''):Fr G w G'' w'':=by
 refine⟨zon h.size h'.size,fun b i hi=>?_,fun b=>zon (h.imm b) (h'.imm b),fun b g x hx=>h'.mu b g x (h.mu b g x hx),fun b hb ho=>?_,h.rest.trans h'.rest,fun b z hz=>h'.bs b z (h.bs b z hz)⟩
 ·rw[h'.cells b i (znu hi (h.imm b)),h.cells b i hi]
 ·obtain⟨a1,a2,a3⟩:=h.same b hb ho
  obtain⟨b1,b2,b3⟩:=h'.same b (znu hb h.size) (by rw[a2];exact ho)
  exact⟨b1.trans a1,b2.trans a2,b3.trans a3⟩
structure Ev (G : Gh) (w : World) (G' : Gh) (w' : World) : Prop where
 cells:∀b i,i<G.I b->w'.cell? ⟨b,i,none⟩=w.cell? ⟨b,i,none⟩
 imm:∀b,G.I b<=G'.I b
 mu:∀b g x,G.mu b g=some x->G'.mu b g=some x
 bs:∀b z,bsz w b=some z->bsz w' b=some z
theorem Fr.ev{G G':Gh}{w w':World}(h:Fr G w G' w'):Ev G w G' w':=⟨h.cells,h.imm,h.mu,h.bs⟩
theorem Ev.refl(G:Gh)(w:World):Ev G w G w:=(Fr.refl G w).ev
theorem RelR.ev{G G':Gh}{w w':World}(he:Ev G w G' w'){x:AV}{v:Value}(h:RelR G w x v):RelR G' w' x v:=by
 induction h with
 |sc v h=>exact .sc v h
 |sl0 sz a cap h=>exact .sl0 sz a cap h
 |sl sz cs n cap b o vs h1 h2 h3 h4 h5 h6 h7 hv _ ih=>
  refine .sl sz cs n cap b o vs h1 h2 h3 h4 (zon h5 (he.imm b)) h6 (fun k c hk=>?_) hv ih
  have hlt:k<vs.length:=(zni.mp hk).1
  rw[he.cells b (o+k) qe]
  exact h7 k c hk
 |ptr b g off blk h=>exact .ptr b g off blk (he.mu _ _ _ h)
 |ms b g off n sz cap blk off' z h h' h'' h3 h4=>exact .ms b g off n sz cap blk off' z (he.mu _ _ _ h) h' h'' (he.bs _ _ h3) h4
 |fn f caps vs h0 h _ ih=>exact .fn f caps vs h0 h ih
 |map b blk h=>exact .map b blk (he.mu _ _ _ h)
 |fnb f bs vs h0 h _ ih=>exact .fnb f bs vs h0 h ih
theorem TokR.ev{G G':Gh}{w w':World}(he:Ev G w G' w'){sz:Nat}{cs:List AV}{v:Value}{b:Nat}(hb:w'.heap[b]?=w.heap[b]?) (hi:G'.I b=G.I b)
 (h:TokR G w sz cs v b):TokR G' w' sz cs v b:=by
 obtain⟨n,cap,arr,e,h1,h2,h3,h4,h5,h6,h7,h9⟩:=h.ex
 refine⟨⟨n,cap,arr,e,h1,h2,h3,h4,hi.trans h5,hb.trans h6,h7,fun k x hk=>?_⟩,h.vl⟩
 obtain⟨c,hc,hr⟩:=h9 k x hk
 exact⟨c,hc,hr.ev he⟩
def jh(G:Gh)(w:World)(G':Gh)(w':World)(p q:Ow):Prop:=∀b,G.Om b=p->w'.heap[b]?=w.heap[b]?/\G'.I b=G.I b/\G'.Om b=q
theorem ym.ev{G G':Gh}{w w':World}(he:Ev G w G' w'){p q:Ow}(hk:jh G w G' w' p q){x:AV}{v:Value}(h:ym G w p x v):ym G' w' q x v:=by
 cases x with
 |us sz cs=>
  obtain⟨b,hb,ht⟩:=h
  obtain⟨h1,h2,h3⟩:=hk b hb
  exact⟨b,h3,ht.ev he h1 h2⟩
 |agg _=>exact h
 |tup _=>exact h
 |sc _=>exact RelR.ev he h
 |sl _ _=>exact RelR.ev he h
 |ptr _ _ _=>exact RelR.ev he h
 |ms _ _ _ _ _=>exact RelR.ev he h
 |fn _ _=>exact RelR.ev he h
 |map _=>exact RelR.ev he h
theorem vC{G:Gh}{w:World}{p:Nat->Ow}{x:AV}{v:Value}(hx:∀cs,x≠ .agg cs):zU G w p x v=ym G w (p 0) x v:=by
 cases x<;>first|rfl|exact absurd rfl (hx _)
theorem YI(x:AV):(∃cs,x= .agg cs)\/∀cs,x≠ .agg cs:=by
 cases x<;>first|exact .inl ⟨_,rfl⟩|exact .inr fun _ h=>by cases h
theorem zU.ev{G G':Gh}{w w':World}(he:Ev G w G' w'){p q:Nat->Ow}(hk:∀i,jh G w G' w' (p i) (q i)){x:AV}{v:Value}(h:zU G w p x v):zU G' w' q x v:=by
 rcases YI x with⟨cs,rfl⟩|hx
 ·obtain⟨vs,h1,h2,h3⟩:=h
  exact⟨vs,h1,h2,fun i x c hx hc=>(h3 i x c hx hc).ev he (hk i)⟩
 ·rw[vC hx]at h⊢
  exact h.ev he (hk 0)
theorem zk.ev{G G':Gh}{w w':World}(he:Ev G w G' w'){k k':Nat}{s:SV}(hk:∀j i,jh G w G' w' (.sl k j i) (.sl k' j i))
 (hl:∀a g off x,s= .lp a g off->G.la a g=some x->G'.la a g=some x) {v:Value} (h:zk G w k s v):zk G' w' k' s v:=by
 cases s with
 |sv u=>exact h
 |av x=>exact zU.ev he (hk 0) h
 |tp l=>
  obtain⟨vs,h1,h2,h3⟩:=h
  exact⟨vs,h1,h2,fun j x c hx hc=>(h3 j x c hx hc).ev he (hk j)⟩
 |lp a g off=>
  obtain⟨blk,h1,h2⟩:=h
  exact⟨blk,hl a g off blk rfl h1,h2⟩
 |rv cs=>
  obtain⟨b,o,vs,h1,h2,h3,h4,h5⟩:=h
  refine⟨b,o,vs,h1,h2,fun i hi=>znu (h3 i hi) (he.imm b),fun k c hk=>?_,fun k x c hx hc=>(h5 k x c hx hc).ev he⟩
  have hlt:k<vs.length:=(zni.mp hk).1
  rw[he.cells b (o+k) (h3 k qe)]
  exact h4 k c hk
 |un=>trivial
 |ud=>exact h
theorem ke.ev{G G':Gh}{w w':World}(he:Ev G w G' w'){blk:Nat}{p q:Nat->Ow}{cs:List AV}(hb:w'.heap[blk]?=w.heap[blk]?)
 (hk:∀i,jh G w G' w' (p i) (q i)) (h:ke G w blk p cs):ke G' w' blk q cs:=by
 obtain⟨arr,e,h1,h2,h3⟩:=h
 exact⟨arr,e,hb.trans h1,h2,fun i x c hx hc=>(h3 i x c hx hc).ev he (hk i)⟩
theorem Vx.ev{G G':Gh}{w w':World}(he:Ev G w G' w'){x:AV}{v:Value}(h:Vx G w x v):Vx G' w' x v:=by
 cases x with
 |agg cs=>
  obtain⟨vs,h1,h2,h3⟩:=h
  exact⟨vs,h1,h2,fun i x c hx hc=>(h3 i x c hx hc).ev he⟩
 |tup _=>exact RelR.ev he h
 |us _ _=>exact RelR.ev he h
 |sc _=>exact RelR.ev he h
 |sl _ _=>exact RelR.ev he h
 |ptr _ _ _=>exact RelR.ev he h
 |ms _ _ _ _ _=>exact RelR.ev he h
 |fn _ _=>exact RelR.ev he h
 |map _=>exact RelR.ev he h
theorem qa8.ev{G G':Gh}{w w':World}(he:Ev G w G' w'){x:AV}{e:MapEntry}(h:qa8 G w x e):qa8 G' w' x e:=by
 unfold qa8 at h⊢
 split at h
 ·exact⟨h.1,h.2.1,h.2.2.ev he⟩
 ·exact h.elim
theorem qln.ev{G G':Gh}{w w':World}(he:Ev G w G' w'){blk:Nat}{cs:List AV}(hb:w'.heap[blk]?=w.heap[blk]?) (h:qln G w blk cs):qln G' w' blk cs:=by
 obtain⟨es,clock,h1,h2,h3⟩:=h
 exact⟨es,clock,hb.trans h1,h2,fun i x e hx hc=>(h3 i x e hx hc).ev he⟩
theorem ObR.ev{G G':Gh}{w w':World}(he:Ev G w G' w'){blk:Nat}{p q:Nat->Ow}{g:Nat}{cs:List AV}(hb:w'.heap[blk]?=w.heap[blk]?)
 (hk:∀i,jh G w G' w' (p i) (q i)) (h:ObR G w blk p g cs):ObR G' w' blk q g cs:=by
 cases g with
 |zero=>exact ke.ev he hb hk h
 |succ g=>exact qln.ev he hb h
structure EvL (G : Gh) (w : World) (G' : Gh) (w' : World) : Prop where
 cells:∀b i,i<G.I b->w'.cell? ⟨b,i,none⟩=w.cell? ⟨b,i,none⟩
 imm:∀b,G.I b<=G'.I b
theorem RelR.evl{G G':Gh}{w w':World}(he:EvL G w G' w'){x:AV}{v:Value}(h:RelR G w x v)(hv:vl x=true):RelR G' w' x v:=by
 induction h with
 |sc v h=>exact .sc v h
 |sl0 sz a cap h=>exact .sl0 sz a cap h
 |sl sz cs n cap b o vs h1 h2 h3 h4 h5 h6 h7 hvl _ ih=>
  refine .sl sz cs n cap b o vs h1 h2 h3 h4 (zon h5 (he.imm b)) h6 (fun k c hk=>?_) hvl (fun k x c hx hc=>ih k x c hx hc (hvl x (znm hx)))
  have hlt:k<vs.length:=(zni.mp hk).1
  rw[he.cells b (o+k) qe]
  exact h7 k c hk
 |ptr b g off blk h=>cases hv
 |ms b g off n sz cap blk off' z h h' h'' h3 h4=>cases hv
 |fn f caps vs h0 h h' ih=>
  have:caps=[]:=by simpa[AI.vl]using hv
  subst this
  exact .fn f [] vs h0 h (by intro k x c hx;simp at hx)
 |map b blk h=>cases hv
 |fnb f bs vs h0 h h' ih=>
  have:bs=[]:=by simpa[AI.vl]using hv
  exact absurd this h0
theorem TokR.evl{G G':Gh}{w w':World}(he:EvL G w G' w'){sz:Nat}{cs:List AV}{v:Value}{b:Nat}(hb:w'.heap[b]?=w.heap[b]?) (hi:G'.I b=G.I b)
 (h:TokR G w sz cs v b):TokR G' w' sz cs v b:=by
 obtain⟨n,cap,arr,e,h1,h2,h3,h4,h5,h6,h7,h9⟩:=h.ex
 refine⟨⟨n,cap,arr,e,h1,h2,h3,h4,hi.trans h5,hb.trans h6,h7,fun k x hk=>?_⟩,h.vl⟩
 obtain⟨c,hc,hr⟩:=h9 k x hk
 exact⟨c,hc,hr.evl he (h.vl x (znm hk))⟩
theorem ym.evl{G G':Gh}{w w':World}(he:EvL G w G' w'){p q:Ow}(hk:jh G w G' w' p q){x:AV}{v:Value}(h:ym G w p x v)(hv:vl x=true):ym G' w' q x v:=by
 cases x with
 |us sz cs=>
  obtain⟨b,hb,ht⟩:=h
  obtain⟨h1,h2,h3⟩:=hk b hb
  exact⟨b,h3,ht.evl he h1 h2⟩
 |agg _=>exact h
 |tup _=>exact h
 |sc _=>exact RelR.evl he h hv
 |sl _ _=>exact RelR.evl he h hv
 |ptr _ _ _=>exact RelR.evl he h hv
 |ms _ _ _ _ _=>exact RelR.evl he h hv
 |fn _ _=>exact RelR.evl he h hv
 |map _=>exact RelR.evl he h hv
theorem zU.evl{G G':Gh}{w w':World}(he:EvL G w G' w'){p q:Nat->Ow}(hk:∀i,jh G w G' w' (p i) (q i)){x:AV}{v:Value}(h:zU G w p x v)(hv:vlF x=true):zU G' w' q x v:=by
 rcases YI x with⟨cs,rfl⟩|hx
 ·obtain⟨vs,h1,h2,h3⟩:=h
  exact⟨vs,h1,h2,fun i x c hx hc=>(h3 i x c hx hc).evl he (hk i) (zod.mp hv x (znm hx))⟩
 ·rw[vC hx]at h⊢
  have hv':vl x=true:=by
   cases x<;>first|exact hv|exact absurd rfl (hx _)
  exact h.evl he (hk 0) hv'
theorem Ev.evl{G G':Gh}{w w':World}(h:Ev G w G' w'):EvL G w G' w':=⟨h.cells,h.imm⟩
theorem zR{w:World}{b:Nat}{arr:Array Value}{e:TypeId}{fz:Nat×Nat}(h:w.heap[b]?=some (.cells arr e fz)) (i:Nat):w.cell? ⟨b,i,none⟩=arr[i]?:=by
 simp[World.cell?,h]
theorem qF{α β:Type}(f:α->β)(l:List α)(i:Nat)(y:β)(h:(l.map f)[i]?=some y):∃x,l[i]?=some x/\f x=y:=by
 rw[znt]at h
 cases hx:l[i]? with
 |none=>rw[hx]at h;cases h
 |some x=>rw[hx]at h;cases h;exact⟨x,rfl,rfl⟩
theorem zF{α β:Type}{l:List α}{m:List β}(h:l.length=m.length){i:Nat}{x:α}(hx:l[i]?=some x):∃y,m[i]?=some y:=by
 have:i<m.length:=by rw[<-h];exact(zni.mp hx).1
 exact⟨m[i],zng this⟩
theorem TokR.ro{G:Gh}{w:World}{sz:Nat}{cs:List AV}{v:Value}{b:Nat}(h:TokR G w sz cs v b):RelR G w (.sl sz cs) v:=by
 obtain⟨n,cap,arr,e,rfl,h2,h3,h4,h5,h6,h7,h9⟩:=h.ex
 by_cases hn:n=0
 ·subst hn
  have:cs=[]:=znp.mp (by simpa using h3)
  subst this
  exact .sl0 sz _ cap h2
 ·have hle:cs.length<=arr.size:=by rw[h3,h7];exact znw sz h4
  refine .sl sz cs n cap b 0 (arr.toList.take cs.length) h2 qe h3 h4 qe qi (fun k c hk=>?_) h.vl (fun k x c hx hc=>?_)
  ·rw[znk,zR h6]
   rw[zno]at hk
   split at hk
   ·simpa using hk
   ·cases hk
  ·obtain⟨c',hc',hr⟩:=h9 k x hx
   rw[zno]at hc
   split at hc
   ·have:arr[k]?=some c:=by simpa using hc
    rw[this]at hc';cases hc';exact hr
   ·cases hc
theorem ym.ro{G:Gh}{w:World}{p:Ow}{x:AV}{v:Value}(h:ym G w p x v):RelR G w (ro1 x) v:=by
 cases x with
 |us sz cs=>obtain⟨b,_,ht⟩:=h;exact ht.ro
 |agg _=>exact h.elim
 |tup _=>exact h.elim
 |sc _=>exact h
 |sl _ _=>exact h
 |ptr _ _ _=>exact h
 |ms _ _ _ _ _=>exact h
 |fn _ _=>exact h
 |map _=>exact h
theorem RelR.c{G:Gh}{w:World}{x:AV}{v:Value}(h:RelR G w x v)(p:Ow):ym G w p x v:=by
 cases h with
 |sc v h=>exact .sc v h
 |sl0 sz a cap h=>exact .sl0 sz a cap h
 |sl sz cs n cap b o vs h1 h2 h3 h4 h5 h6 h7 h8 h9=>exact RelR.sl sz cs n cap b o vs h1 h2 h3 h4 h5 h6 h7 h8 h9
 |ptr b g off blk h=>exact RelR.ptr b g off blk h
 |ms b g off n sz cap blk off' z h h' h'' h3 h4=>exact RelR.ms b g off n sz cap blk off' z h h' h'' h3 h4
 |fn f caps vs h0 h h'=>exact RelR.fn f caps vs h0 h h'
 |map b blk h=>exact RelR.map b blk h
 |fnb f bs vs h0 h h'=>exact RelR.fnb f bs vs h0 h h'
theorem Wu{G:Gh}{w:World}{x:AV}{v:Value}(h:RelR G w x v):ro1 x=x:=by cases h<;>rfl
theorem RelR.ne_agg{G:Gh}{w:World}{x:AV}{v:Value}(h:RelR G w x v):∀cs,x≠ .agg cs:=by cases h<;>intro cs h<;>cases h
theorem ym.ne_agg{G:Gh}{w:World}{p:Ow}{x:AV}{v:Value}(h:ym G w p x v):∀cs,x≠ .agg cs:=by
 rintro cs rfl;exact h
theorem qjb{x:AV}(hx:∀cs,x≠ .agg cs):ro x=ro1 x:=by
 cases x<;>first|rfl|exact absurd rfl (hx _)
theorem ym.v{G:Gh}{w:World}{p:Nat->Ow}{x:AV}{v:Value}(h:ym G w (p 0) x v):zU G w p x v:=by
 rw[vC h.ne_agg];exact h
theorem zU.ro{G G':Gh}{w w':World}(he:Ev G w G' w'){p:Nat->Ow}(q:Nat->Ow){x:AV}{v:Value}(h:zU G w p x v):zU G' w' q (AI.ro x) v:=by
 rcases YI x with⟨cs,rfl⟩|hx
 ·obtain⟨vs,h1,h2,h3⟩:=h
  refine⟨vs,h1,by simpa using h2,fun i x c hx hc=>?_⟩
  obtain⟨y,hy,rfl⟩:=qF _ _ _ _ hx
  exact((h3 i y c hy hc).ro.ev he).c _
 ·rw[vC hx]at h
  rw[qjb hx]
  exact((h.ro.ev he).c (q 0)).v
theorem zk.ro{G G':Gh}{w w':World}(he:Ev G w G' w'){k:Nat}(k':Nat){s:SV}{v:Value}
 (hl:∀a g off x,s= .lp a g off->G.la a g=some x->G'.la a g=some x) (h:zk G w k s v):zk G' w' k' s.ro v:=by
 cases s with
 |sv u=>exact h
 |av x=>exact zU.ro he _ h
 |tp l=>
  obtain⟨vs,h1,h2,h3⟩:=h
  refine⟨vs,h1,by simpa using h2,fun j x c hx hc=>?_⟩
  obtain⟨y,hy,rfl⟩:=qF _ _ _ _ hx
  exact(h3 j y c hy hc).ro he _
 |lp a g off=>
  obtain⟨blk,h1,h2⟩:=h
  exact⟨blk,hl a g off blk rfl h1,h2⟩
 |rv cs=>
  obtain⟨b,o,vs,h1,h2,h3,h4,h5⟩:=h
  refine⟨b,o,vs,h1,h2,fun i hi=>znu (h3 i hi) (he.imm b),fun k c hk=>?_,fun k x c hx hc=>(h5 k x c hx hc).ev he⟩
  have hlt:k<vs.length:=(zni.mp hk).1
  rw[he.cells b (o+k) (h3 k qe)]
  exact h4 k c hk
 |un=>trivial
 |ud=>exact h
theorem zL(l:Slots)(d:Nat)(s:SV)(k:Nat):qS ((d,s)::l) k=if d=k then s else qS l k:=by
 simp only[qS]
 by_cases e:d=k
 ·subst e;simp[XG]
 ·simp[qhx e,e]
theorem vS(l:Boxes)(d g:Nat)(cs:List AV)(k:Nat):jx (Wb l d g cs) k=if d=k then some (g,cs)else jx l k:=by
 simp only[Wb,jx]
 by_cases e:d=k
 ·subst e;simp[XG]
 ·simp[qhx e,e]
theorem YO(a:Act)(d:Nat)(v:Value)(hd:d<a.tmps.size)(k:Nat):((a.put (some d) v).tmps).getD k undef=if d=k then v else a.tmps.getD k undef:=by
 simp only[Act.put]
 by_cases e:d=k
 ·subst e
  simp[Array.getD,hd]
 ·simp only[Array.getD_eq_getD_getElem?,e,if_false]
  rw[Array.getElem?_setIfInBounds_ne e]
theorem zM(a:Act)(d:Option Nat)(v:Value):(a.put d v).tmps.size=a.tmps.size:=by
 cases d<;>simp[Act.put]
theorem zg(a:Act)(d:Option Nat)(v:Value):(a.put d v).defers=a.defers:=by
 cases d<;>rfl
theorem zd7(t:Nat)(l:Slots)(k:Nat):qS (dn t l) k=if t=k then(qS l k).ro else qS l k:=by
 unfold dn
 rw[zL]
 by_cases e:t=k
 ·subst e;simp
 ·simp[e]
theorem zev(x:AV):ro1 (ro1 x)=ro1 x:=by cases x<;>rfl
theorem ro_ro(x:AV):ro (ro x)=ro x:=by
 cases x with
 |agg cs=>simp[ro,zrh,Function.comp_def,zev]
 |_=>rfl
theorem SV.ro_ro(s:SV):s.ro.ro=s.ro:=by
 cases s with
 |av x=>simp[SV.ro,AI.ro_ro]
 |tp l=>simp[SV.ro,zrh,Function.comp_def,AI.ro_ro]
 |_=>rfl
theorem ju(ts:List Nat):∀(l:Slots) (k:Nat),qS (zd ts l) k=if k∈ts then(qS l k).ro else qS l k:=by
 induction ts with
 |nil=>intro l k;simp[zd]
 |cons t ts ih=>
  intro l k
  have:zd (t::ts) l=zd ts (dn t l):=rfl
  rw[this,ih,zd7]
  by_cases h1:t=k
  ·subst h1
   by_cases h2:t∈ts<;>simp[h2,SV.ro_ro]
  ·have h1':¬k=t:=fun h=>h1 h.symm
   by_cases h2:k∈ts<;>simp[h1,h1',h2]
theorem KW{s:SV}{k g off:Nat}:s.ro= .lp k g off↔s= .lp k g off:=by
 cases s<;>simp[SV.ro]
def Gh.rel(G:Gh)(f:Ow->Ow):Gh:={G with Om:=fun b=>f (G.Om b)}
structure Rho (f : Ow → Ow) : Prop where
 fr:f .fr= .fr
 oth:f .oth= .oth
 box:∀p k g,f p= .box k g->p= .box k g
 obj:∀p k g,f p= .obj k g->p= .obj k g
theorem Fr.rel{G:Gh}{w:World}{f:Ow->Ow}(hf:Rho f):Fr G w (G.rel f) w:=
 ⟨znd _,fun _ _ _=>rfl,fun _=>znd _,fun _ _ _ h=>h,fun b _ ho=>⟨rfl,by
  simp only[Gh.rel]
  rcases ho with h|h<;>rw[h]
  ·exact hf.fr
  ·exact hf.oth,rfl⟩,KG.refl w,fun _ _ h=>h⟩
def DOk(d:TypeDesc)(k:TK):Prop:=
 match k with
 | .sc=>∀x,(d matches .struct _| .array _ _| .slice _)=x->x=false
 | .ot=>∀x,(d matches .struct _| .array _ _| .slice _)=x->x=false
 | .tu=>True
 | .sl e=>d= .slice e
 | .mp q e=>d= .map q e
 | .ar n e=>d= .array n e
 | .st fs=>∃fields:Array Field,d= .struct fields/\fields.toList.map (fun f=>(f.offset,f.type))=fs
def TOk(P:Program)(t:TypeId)(ti:TI):Prop:=
 (qop ti=true->P.underlying t=some (.int .u8))/\(qdn ti=true->P.underlying t=some .string)/\
 ∃info d,P.info? t=some info/\P.underlying t=some d/\DOk d ti.k/\info.bytes=ti.bytes/\
  (JT ti.k=false->info.size=ti.size/\∃z,info.zero=some z/\z.cells.toList=ti.zero/\ti.zero.length=ti.size/\∀v∈ti.zero,v.oneCell'=true)
structure Ok (c : Cx) : Prop where
 tt:∀t ti,c.tt t=some ti->TOk c.P t ti
 ti:∀t ti,c.tt t=some ti->qq3 ti=true->∃k,c.P.underlying t=some (.int k)
 tb:∀t ti,c.tt t=some ti->qq4 ti=true->c.P.underlying t=some .bool
 tp:∀t ti,c.tt t=some ti->zf5 ti=true->∃e,c.P.underlying t=some (.pointer e)
 zf:∀t ti,c.tt t=some ti->JT ti.k=false->∀info z,c.P.info? t=some info->info.zero=some z->(xK ti.k=true->∃vs,z= .agg vs)/\(xK ti.k=false->z.oneCell'=true)
 F:∀f fn,c.F f=some fn->c.P.funcs[f]?=some fn
 nm:∀f fn,c.F f=some fn->(fn.name== "runtime.NumGoroutine")=false
 X:∀f fn vs v,c.F f=some fn->fn.body=none->c.X f vs=some v->∀w,(callFunc f vs.toArray).run c.P w= .ok (.value v) w
 mixed:c.P.follows .mixedOrders=true
theorem qz{c:Cx}{t:TypeId}{ti:TI}(h:c.tn t=some ti):c.tt t=some ti/\JT ti.k=false:=by
 unfold Cx.tn at h
 split at h
 ·rename_i ti' h'
  cases hk:JT ti'.k with
  |true=>simp[hk]at h
  |false=>simp[hk]at h;subst h;exact⟨h',hk⟩
 ·cases h
section
variable {P:Program}{t:TypeId}{ti:TI}{w:World}
theorem TOk.sizeOf(h:TOk P t ti)(hk:JT ti.k=false)(w:World):(sizeOf t).run P w= .ok ti.size w:=by
 obtain⟨_,_,info,d,h1,h2,h3,h4,h5⟩:=h
 rw[run_sizeOf w h1]
 have:P.cellsOf t=ti.size:=by simp[Program.cellsOf,h1,(h5 hk).1]
 rw[this]
theorem TOk.zero(h:TOk P t ti)(hk:JT ti.k=false):∃z,z.cells.toList=ti.zero/\ti.zero.length=ti.size/\(∀v∈ti.zero,v.oneCell'=true)/\∀w,(zeroValue t).run P w= .ok z w:=by
 obtain⟨_,_,info,d,h1,h2,h3,h4,h5⟩:=h
 obtain⟨h6,z,h7,h8,h9,h10⟩:=h5 hk
 exact⟨z,h8,h9,h10,fun w=>by simp[zeroValue,typeInfo,h1,h7]⟩
theorem TOk.isAgg(h:TOk P t ti)(hk:JT ti.k=false)(w:World):(Go.isAgg t).run P w= .ok (xK ti.k) w:=by
 obtain⟨_,_,info,d,h1,h2,h3,h4,h5⟩:=h
 unfold Go.isAgg
 simp only[Sem.run_bind,run_underlying h2,Result.andThen_ok]
 cases hti:ti.k with
 |sc=>
  rw[hti]at h3
  cases d<;>first|rfl|(have:=h3 _ rfl;cases this)
 |ot=>
  rw[hti]at h3
  cases d<;>first|rfl|(have:=h3 _ rfl;cases this)
 |tu=>rw[hti]at hk;cases hk
 |sl e=>rw[hti]at h3;cases h3;rfl
 |mp q e=>rw[hti]at h3;cases h3;rfl
 |ar n e=>rw[hti]at h3;cases h3;rfl
 |st fs=>rw[hti]at h3;obtain⟨fields,rfl,_⟩:=h3;rfl
theorem TOk.bytes(h:TOk P t ti):∃info,P.info? t=some info/\info.bytes=ti.bytes:=by
 obtain⟨_,_,info,d,h1,h2,h3,h4,h5⟩:=h
 exact⟨info,h1,h4⟩
theorem TOk.und(h:TOk P t ti):∃d,P.underlying t=some d/\DOk d ti.k:=by
 obtain⟨_,_,info,d,h1,h2,h3,h4,h5⟩:=h
 exact⟨d,h2,h3⟩
end
theorem RelR.one{G:Gh}{w:World}{x:AV}{v:Value}(h:RelR G w x v):v.oneCell'=true:=by
 cases h<;>first|rfl|assumption
theorem ym.one{G:Gh}{w:World}{p:Ow}{x:AV}{v:Value}(h:ym G w p x v):v.oneCell'=true:=by
 cases x with
 |us sz cs=>
  obtain⟨b,_,ht⟩:=h
  obtain⟨n,cap,arr,e,rfl,_⟩:=ht.ex
  rfl
 |agg _=>exact h.elim
 |tup _=>exact h.elim
 |sc _=>exact RelR.one h
 |sl _ _=>exact RelR.one h
 |ptr _ _ _=>exact RelR.one h
 |ms _ _ _ _ _=>exact RelR.one h
 |fn _ _=>exact RelR.one h
 |map _=>exact RelR.one h
theorem KC{v:Value}(h:v.oneCell'=true):v.cells=#[v]:=by cases v<;>first|rfl|cases h
def Vv(G:Gh)(w:World)(p:Nat->Ow)(l:List AV)(vs:List Value):Prop:=
 l.length=vs.length/\∀(i:Nat) (x:AV) (c:Value),l[i]?=some x->vs[i]?=some c->ym G w (p i) x c
theorem Vv.ev{G G':Gh}{w w':World}(he:Ev G w G' w'){p q:Nat->Ow}(hk:∀i,jh G w G' w' (p i) (q i)){l:List AV}{vs:List Value}(h:Vv G w p l vs):Vv G' w' q l vs:=
 ⟨h.1,fun i x c hx hc=>(h.2 i x c hx hc).ev he (hk i)⟩
theorem Vv.one{G:Gh}{w:World}{p:Nat->Ow}{l:List AV}{vs:List Value}(h:Vv G w p l vs):∀v∈vs,v.oneCell'=true:=by
 intro v hv
 obtain⟨i,hi,rfl⟩:=zpv hv
 have hl:i<l.length:=by rw[h.1];exact hi
 exact(h.2 i l[i] vs[i] (zng hl) (zng hi)).one
theorem zU.cells{G:Gh}{w:World}{p:Nat->Ow}{x:AV}{v:Value}{n:Nat}{l:List AV}(h:zU G w p x v)(hl:qn n x=some l):
 l.length=n/\Vv G w p l v.cells.toList:=by
 rcases YI x with⟨cs,rfl⟩|hx
 ·obtain⟨vs,rfl,h2,h3⟩:=h
  simp only[qn]at hl
  split at hl
  ·cases hl
   rename_i hn
   exact⟨hn,by simpa[Value.cells]using h2,fun i x c hx hc=>h3 i x c hx (by simpa[Value.cells]using hc)⟩
  ·cases hl
 ·rw[vC hx]at h
  have h1:qn n x=if n=1 then some [x]else none:=by
   cases x<;>first|rfl|exact absurd rfl (hx _)|exact h.elim
  rw[h1]at hl
  split at hl
  ·cases hl
   rename_i hn
   rw[KC h.one]
   refine⟨by simp[hn],qg,fun i x c hx hc=>?_⟩
   match i,hx,hc with
   |0,hx,hc=>simp at hx hc;subst hx;subst hc;exact h
   |i+1,hx,hc=>simp at hx
  ·cases hl
theorem zk.valC{G:Gh}{w:World}{k:Nat}{s:SV}{v:Value}{n:Nat}{l:List AV}(h:zk G w k s v)(hl:valC n s=some l):
 l.length=n/\Vv G w (.sl k 0 ·) l v.cells.toList:=by
 cases s with
 |sv u=>
  obtain⟨rfl,h1⟩:=h
  simp only[AI.valC]at hl
  split at hl
  ·cases hl
   rename_i hn
   rw[KC h1]
   refine⟨by simp[hn],qg,fun i x c hx hc=>?_⟩
   match i,hx,hc with
   |0,hx,hc=>simp at hx hc;subst hx;subst hc;exact .sc _ h1
   |i+1,hx,hc=>simp at hx
  ·cases hl
 |av x=>exact zU.cells h hl
 |lp _ _ _=>cases hl
 |rv _=>cases hl
 |tp _=>cases hl
 |un=>cases hl
 |ud=>cases hl
end Go.Proofs.YtmajcennjgjlnaaGreat.AI
