/- Texts that the proof of FuseBudget rests on, part 1. -/
import Derived.WalkKit
import Derived.KernelRfl
import Derived.Laws.CopyRow
namespace Go.Proofs.YtmajcennjgjlnaaGreat.AI
open Go
theorem bsm {A B : Type} {x : Option A} {f : A → Option B} {b : B} (h : x.bind f = some b) : ∃ a, x = some a ∧ f a = some b := Option.bind_eq_some_iff.mp h
theorem qe{p:Prop}(h:p:=by omega):p:=h
theorem qg{p:Prop}(h:p:=by simp):p:=h
theorem qh{p:Prop}(h:p:=by decide):p:=h
theorem qi{p:Prop}(h:p:=by simp;omega):p:=h
abbrev zmt:=@List.length_append
abbrev zmu:=@List.length_cons
abbrev zmv:=@List.getD_eq_getElem?_getD
abbrev zmw:=@Option.bind_some
abbrev zmx:=@Nat.le_refl
abbrev zmy:=@List.mem_cons
abbrev zmz:=@Option.bind_assoc
abbrev zm0:=@List.getElem?_eq_getElem
abbrev zm1:=@List.pairwise_cons
abbrev zm2:=@List.getElem?_eq_some_iff
abbrev zm3:=@Int.toNat_natCast
abbrev zm4:=@Nat.zero_add
abbrev zm5:=@List.length_singleton
abbrev zm6:=@List.mem_of_getElem?
abbrev zm7:=@Nat.testBit_mod_two_pow
abbrev zm8:=@List.getElem?_take
abbrev zm9:=@List.length_eq_zero_iff
abbrev zna:=@List.take_succ_cons
abbrev znb:=@List.getElem_mem
abbrev znc:=@Nat.lt_of_lt_of_le
abbrev znd:=@List.length_nil
abbrev zne:=@List.getElem?_map
abbrev znf:=@List.append_assoc
abbrev zng:=@Nat.mul_le_mul_right
abbrev znh:=@BitVec.toNat_ofInt
abbrev zni:=@List.getElem?_append_right
abbrev znj:=@List.append_nil
abbrev znk:=@Option.some.inj
abbrev znl:=@Nat.zero_le
abbrev znm:=@List.getElem?_append_left
abbrev znn:=@List.nil_append
abbrev zno:=@Nat.mul_le_mul
abbrev znp:=@List.drop_eq_getElem_cons
abbrev znq:=@List.getElem?_eq_none
abbrev znr:=@List.take_of_length_le
abbrev zns:=@List.mem_map
abbrev znt:=@Nat.testBit_or
abbrev znu:=@Nat.testBit_div_two_pow
abbrev znv:=@Nat.pow_le_pow_right
abbrev znw:=@List.size_toArray
abbrev znx:=@List.all_eq_true
abbrev zny:=@List.length_take
abbrev znz:=@Nat.mul_comm
abbrev zn0:=@List.map_cons
abbrev zn1:=@List.drop_eq_nil_of_le
abbrev zn2:=@Int.tdiv_eq_ediv_of_nonneg
abbrev zn3:=@List.mem_append
abbrev zn4:=@Nat.mul_le_mul_left
abbrev zn5:=@Nat.eq_of_testBit_eq
abbrev zn6:=@Nat.testBit_two_pow
abbrev zn7:=@Nat.le_trans
abbrev zn8:=@List.getElem?_drop
abbrev zn9:=@Nat.div_mul_le_self
abbrev zoa:=@Nat.mod_eq_of_lt
abbrev zob:=@Bool.false_eq_true
abbrev zoc:=@Int.fdiv_eq_ediv_of_nonneg
abbrev zod:=@Array.length_toList
abbrev zoe:=@List.length_pos_iff
abbrev zof:=@List.mem_of_mem_take
abbrev zog:=@Nat.lt_of_le_of_lt
abbrev zoh:=@Int.toNat_of_nonneg
abbrev zoi:=@Nat.add_zero
abbrev zoj:=@Nat.add_assoc
abbrev zok:=@Bool.and_eq_true
abbrev zol:=@List.cons_append
abbrev zom:=@Nat.mul_one
abbrev zon:=@Array.getElem?_append_left
abbrev zoo:=@Nat.pow_succ
abbrev zop:=@BitVec.toNat_ofNat
abbrev zoq:=@BitVec.ofInt_natCast
abbrev zor:=@List.length_drop
abbrev zos:=@Nat.mul_assoc
abbrev zot:=@List.eq_of_mem_replicate
abbrev zou:=@List.drop_zero
abbrev zov:=@List.length_map
abbrev zow:=@List.pairwise_append
abbrev zox:=@Nat.testBit_eq_decide_div_mod_eq
abbrev zoy:=@Int.ofNat_eq_natCast
abbrev zoz:=@Nat.ne_of_lt
abbrev zo0:=@Nat.div_div_eq_div_mul
abbrev zo1:=@List.ext_getElem?
abbrev zo2:=@List.take_add_one
abbrev zo3:=@List.replicate_succ
abbrev zo4:=@Nat.two_pow_pos
abbrev zo5:=@Nat.div_le_self
abbrev zo6:=@List.take_length
abbrev zo7:=@List.mem_cons_of_mem
abbrev zo8:=@List.replicate_succ'
abbrev zo9:=@Nat.div_le_div_right
abbrev zpa:=@List.getElem?_cons_succ
abbrev zpb:=@Array.size_append
abbrev zpc:=@Option.map_some
abbrev zpd:=@BitVec.toNat_or
abbrev zpe:=@Nat.two_pow_add_eq_or_of_lt
abbrev zpf:=@List.getElem_of_mem
abbrev zpg:=@List.getElem?_range
abbrev zph:=@List.drop_succ_cons
abbrev zpi:=@Nat.add_mul
abbrev zpj:=@Nat.pow_add
abbrev zpk:=@Array.getElem?_eq_some_iff
abbrev zpl:=@Int.cast_ofNat_Int
abbrev zpm:=@List.mem_or_eq_of_mem_set
abbrev zpn:=@List.map_nil
abbrev zpo:=@Nat.min_eq_left
abbrev zpp:=@Nat.and_two_pow_sub_one_eq_mod
abbrev zpq:=@List.getElem?_cons_zero
abbrev zpr:=@BitVec.toNat_and
abbrev zps:=@List.tail_cons
abbrev zpt:=@Nat.mod_lt
abbrev zpu:=@Nat.zero_mul
abbrev zpv:=@Nat.lt_or_ge
abbrev zpw:=@Nat.eq_zero_or_pos
abbrev zpx:=@List.mem_singleton
abbrev zpy:=@Nat.le_of_lt
abbrev zpz:=@Nat.le_div_iff_mul_le
abbrev zp0:=@List.drop_left
abbrev zp1:=@Nat.div_eq_of_lt
abbrev zp2:=@Nat.le_mul_of_pos_right
abbrev zp3:=@List.mem_cons_self
abbrev zp4:=@Bool.or_eq_true
abbrev zp5:=@Option.map_eq_some_iff
abbrev zp6:=@Nat.testBit_lt_two_pow
abbrev zp7:=@List.getElem?_set
abbrev zp8:=@List.getElem?_toArray
abbrev zp9:=@List.set_append_right
abbrev zqa:=@Nat.mul_lt_mul_of_pos_right
abbrev zqb:=@Nat.testBit_two_pow_mul_add
abbrev zqc:=@List.mem_of_mem_drop
abbrev zqd:=@Nat.lt_succ_self
abbrev zqe:=@Nat.pow_lt_pow_right
abbrev zqf:=@Nat.add_eq
abbrev zqg:=@Nat.le_of_mul_le_mul_right
abbrev zqh:=@List.map_take
abbrev zqi:=@Bool.true_and
abbrev zqj:=@Nat.lt_of_mul_lt_mul_right
abbrev zqk:=@Array.getElem?_eq_getElem
abbrev zql:=@Nat.testBit_and
abbrev zqm:=@Nat.add_comm
abbrev zqn:=@Nat.zero_div
abbrev zqo:=@List.mem_range
abbrev zqp:=@List.flatten_cons
abbrev zqq:=@List.take_sublist
abbrev zqr:=@Option.some.injEq
abbrev zqs:=@List.getElem?_set_self
abbrev zqt:=@Array.getElem?_eq_none
abbrev zqu:=@List.take_nil
abbrev zqv:=@List.not_mem_nil
abbrev zqw:=@Nat.and_le_right
abbrev zqx:=@List.drop_append
abbrev zqy:=@List.append_cons
abbrev zqz:=@List.take_append_drop
abbrev zq0:=@List.length_replicate
abbrev zq1:=@List.map_map
abbrev zq2:=@List.getElem?_set_ne
abbrev zq3:=@Array.eq_empty_of_size_eq_zero
abbrev zq4:=@Array.ext'
abbrev zq5:=@Int.natCast_add
abbrev zq6:=@Int.natCast_one
abbrev zq7:=@Array.getElem?_push
abbrev zq8:=@List.map_congr_left
abbrev zq9:=@List.take_take
abbrev zra:=@List.take_left
abbrev zrb:=@Nat.mul_pos
abbrev zrc:=@Nat.mul_div_cancel
abbrev zrd:=@Nat.pos_of_ne_zero
abbrev zre:=@Int.natCast_nonneg
abbrev zrf:=@List.sum_cons
abbrev zrg:=@Int.lt_trichotomy
abbrev zrh:=@Nat.or_lt_two_pow
abbrev zri:=@Nat.sub_zero
abbrev zrj:=@List.map_set
end Go.Proofs.YtmajcennjgjlnaaGreat.AI
namespace Go.Proofs.YtmajcennjgjlnaaGreat.AI
open Go
set_option linter.unusedVariables false
set_option linter.unusedSimpArgs false
set_option maxRecDepth 100000
set_option maxHeartbeats 0
inductive AV where
 |sc (v:Value)
 |sl (sz:Nat) (cs:List AV)
 |us (sz:Nat) (cs:List AV)
 |agg (cs:List AV)
 |tup (vs:List AV)
 |ptr (b g off:Nat)
 |ms (b g off len sz:Nat)
 |fn (f:FuncId) (cap:List AV)
 |map (b:Nat)
structure Hp where
 next:Nat
 get:Nat->Option (Nat×List AV)
def hp0:Hp:=⟨0,fun _=>none⟩
def Hp.rd(h:Hp)(b g:Nat):Option (List AV):=(h.get b).bind fun p=>if p.1=g/\g=0 then some p.2 else none
def Hp.rdM(h:Hp)(b:Nat):Option (List AV):=(h.get b).bind fun p=>if p.1=1 then some p.2 else none
def Hp.del(h:Hp)(b:Nat):Hp:=⟨h.next,fun x=>if x=b then none else h.get x⟩
def Hp.newM(h:Hp):Hp:=⟨h.next+1,fun x=>if x=h.next then some (1,[])else h.get x⟩
def Hp.put(h:Hp)(b g:Nat)(cs:List AV):Hp:=⟨h.next,fun x=>if x=b then some (g,cs)else h.get x⟩
def Hp.new(h:Hp)(cs:List AV):Hp:=⟨h.next+1,fun x=>if x=h.next then some (0,cs)else h.get x⟩
inductive SV where
 |sv (v:Value)
 |av (x:AV)
 |lp (k g off:Nat)
 |rv (cs:List AV)
 |tp (l:List AV)
 |un
 |ud
inductive TK where
 |sc|ot|tu
 |sl (e:TypeId)
 |mp (k e:TypeId)
 |ar (n:Nat) (e:TypeId)
 |st (fs:List (Nat×TypeId))
structure TI where
 k:TK
 size:Nat
 bytes:Nat
 zero:List Value
abbrev Boxes:=List (Nat×Nat×List AV)
abbrev Slots:=List (Nat×SV)
structure St where
 sl:Slots
 bx:Boxes
 hp:Hp
structure Cx where
 P:Program
 tt:TypeId->Option TI
 F:FuncId->Option Func
 X:FuncId->List Value->Option Value
 H:FuncId->Nat->Nat->Nat
 M:FuncId->Nat->Option (List Nat)
def zx{α:Type}(P:Program):Sem α->Option α
 | .pure a=>some a
 | .program k=>zx P (k P)
 | .mark _ k=>zx P k
 |_=>none
def ro1:AV->AV
 | .us s c=>.sl s c
 |x=>x
def ro:AV->AV
 | .us s c=>.sl s c
 | .agg cs=>.agg (cs.map ro1)
 |x=>x
def vl:AV->Bool
 | .sc _=>true
 | .sl _ _=>true
 | .us _ _=>true
 | .fn _ c=>c.isEmpty
 |_=>false
def vlF:AV->Bool
 | .agg cs=>cs.all vl
 |x=>vl x
def vlV:AV->Bool
 | .tup l=>l.all vlF
 |x=>vlF x
def SV.ro:SV->SV
 | .av x=>.av (AI.ro x)
 | .tp l=>.tp (l.map AI.ro)
 |s=>s
def Qo:AV->Option Value
 | .sc v=>some v
 |_=>none
def asB:Value->Option Bool
 | .bool b=>some b
 |_=>none
def Vd:Value->Option Int
 | .int _ n=>some n
 |_=>none
def qs(cs:List AV)(i:Nat):Option AV:=cs[i]?
def ql(cs:List AV)(i:Nat):Option Value:=(cs[i]?).bind Qo
def qr(cs:List AV)(i n:Nat):Option (List AV):=if i+n<=cs.length then some ((cs.drop i).take n)else none
def qo(cs:List AV)(i:Nat)(vs:List AV):Option (List AV):=
 if i+vs.length<=cs.length then some (cs.take i++vs++cs.drop (i+vs.length))else none
def qn(n:Nat):AV->Option (List AV)
 | .agg cs=>if cs.length=n then some cs else none
 | .tup _=>none
 |x=>if n=1 then some [x]else none
def qg2:TK->Bool
 | .sc=>true
 |_=>false
def xD:TK->Bool
 | .ar _ _=>true
 | .st _=>true
 |_=>false
def toA:SV->Option AV
 | .sv v=>some (.sc v)
 | .av x=>some x
 |_=>none
def yH(r:AV)(i:Nat):AV:=
 match r with
 | .tup vs=>vs.getD i (.tup [])
 |_=>.tup []
def wQ(n:Nat):AV->Option Unit
 | .tup vs=>if vs.length=n then some ()else none
 |_=>none
def nil0:Value:=.slice none 0 0
def Zi:Value->Bool
 | .slice none 0 0=>true
 |_=>false
def xK:AV->Option Nat
 | .sl s cs=>some (if s=1 then cs.length else cs.length/s)
 | .us s cs=>some (if s=1 then cs.length else cs.length/s)
 | .ms _ _ _ n _=>some n
 | .sc v=>if Zi v then some 0 else none
 |_=>none
def idx(n:Nat)(v:Value):Option Nat:=(Vd v).bind fun i=>if 0<=i/\i<(n:Int)then some i.toNat else none
def jA(sz:Nat)(x:AV)(v:Value):Option (List AV):=
 match x with
 | .sl s cs=>if s=sz then(idx (if s=1 then cs.length else cs.length/s) v).bind fun i=>qr cs (i*sz) sz else none
 | .us s cs=>if s=sz then(idx (if s=1 then cs.length else cs.length/s) v).bind fun i=>qr cs (i*sz) sz else none
 |_=>none
def zo(lo hi:Int)(v:Option Value)(dflt:Nat):Option Nat:=
 match v with
 |none=>some dflt
 |some v=>(Vd v).bind fun i=>if lo<=i/\i<=hi then some i.toNat else none
def yq(sz:Nat)(x:AV)(lo hi mx:Option Value):Option AV:=
 match x with
 | .sl s cs=>if s=sz then
  let n:=if s=1 then cs.length else cs.length/s
  (zo 0 n mx n).bind fun m=>(zo 0 m hi n).bind fun h=>(zo 0 h lo 0).bind fun l=>some (.sl s ((cs.drop (l*s)).take ((h-l)*s)))
  else none
 | .us s cs=>if s=sz then
  let n:=if s=1 then cs.length else cs.length/s
  (zo 0 n mx n).bind fun m=>(zo 0 m hi n).bind fun h=>(zo 0 h lo 0).bind fun l=>some (.sl s ((cs.drop (l*s)).take ((h-l)*s)))
  else none
 | .sc v=>if Zi v then
  (zo 0 0 mx 0).bind fun m=>(zo 0 m hi 0).bind fun h=>(zo 0 h lo 0).bind fun _=>some (.sc nil0)
  else none
 |_=>none
def xj(sz:Nat):AV->Option (List AV)
 | .sl s cs=>if s=sz then some cs else none
 | .us s cs=>if s=sz then some cs else none
 | .sc v=>match v with
  | .slice none 0 0=>some []
  |_=>none
 |_=>none
def xE(bytes sz n:Nat):Bool:=decide (n*bytes<=140737488355328*sz)&&decide (0<bytes)
def zT(sz:Nat)(cs:List AV):Nat:=if sz=1 then cs.length else cs.length/sz
def qc6:Value->Value->Option Bool
 | .int j a,.int k b=>if j=k then some (a==b)else none
 | .string a,.string b=>some (a==b)
 | .bool a,.bool b=>some (a==b)
 |_,_=>none
def qkc(k:Value):List AV->Option (Option AV)
 |[]=>some none
 | .tup [.sc q,x]::r=>(qc6 k q).bind fun t=>cond t (some (some x)) (qkc k r)
 |_=>none
def qs5(k:Value)(v:AV):List AV->Option (List AV)
 |[]=>some [.tup [.sc k,v]]
 | .tup [.sc q,x]::r=>(qc6 k q).bind fun t=>cond t (some (.tup [.sc q,v]::r)) ((qs5 k v r).map fun l=>.tup [.sc q,x]::l)
 |_=>none
def qky(bytes sz:Nat)(d:AV)(ys:List AV):Option AV:=
 match ys with
  |[]=>match d with
   | .us z cs=>if z=sz then some (.us z cs)else none
   | .sc v=>if Zi v then some (.sc nil0)else none
   |_=>none
  |ys=>match d with
   | .us z cs=>if z=sz&&xE bytes sz (cs.length+ys.length)then some (.us z (cs++ys.map ro1))else none
   | .sc v=>if Zi v&&xE bytes sz ys.length then some (.us sz (ys.map ro1))else none
   |_=>none
def jm(bytes sz:Nat)(d s:AV):Option AV:=(xj sz s).bind fun ys=>qky bytes sz d ys
def zM:List AV->Option (List UInt8)
 |[]=>some []
 | .sc (.int .u8 n)::r=>(zM r).map fun l=>UInt8.ofNat n.toNat::l
 |_=>none
def wD:List AV->Option (List Value)
 |[]=>some []
 | .sc v::r=>(wD r).map fun l=>v::l
 |_=>none
def xG:AV->Option Value
 | .sc v=>some v
 | .agg cs=>(wD cs).map fun l=>.agg l.toArray
 |_=>none
def qdd:SV->Option Value
 | .sv v=>some v
 | .av x=>xG x
 |_=>none
def qY:AV->Option (Nat×Nat×Nat)
 | .ptr b g o=>some (b,g,o)
 |_=>none
def Xf:AV->Option (FuncId×List AV)
 | .fn f c=>match Nat.blt f 4294967296 with
  |true=>some (f,c)
  |false=>none
 |_=>none
def WQ:AV->Option (FuncId×List AV)
 | .fn f (b::c)=>match Nat.blt f 4294967296 with
  |true=>none
  |false=>some (f-4294967296,b::c)
 |_=>none
def one(o:Option Value):Option Value:=o.bind fun z=>if z.oneCell'=true then some z else none
def qx(P:Program)(op:BinOp)(t:TypeId)(x y:Operand)(a b:Value):Option Value:=
 one (zx P (do eqGuard op t x y a b;Go.binOp op t a b))
def unV(P:Program)(op:UnOp)(a:Value):Option Value:=one (zx P (Op.unary op a))
def Ki(P:Program)(s d:TypeId)(a:Value):Option Value:=one (zx P (convert s d a))
def ixV(P:Program)(t:TypeId)(a i:Value):Option Value:=one (zx P (Instr.index t a i))
def scV(P:Program)(t:TypeId)(a:Value)(lo hi mx:Option Value):Option Value:=one (zx P (Instr.slice t a lo hi mx))
def kF(P:Program)(b:Builtin)(ts:Array TypeId)(t:TypeId)(as_:List Value):Option Value:=
 match b with
 | .min=>one (zx P (Builtin.min_ ts t as_.toArray))
 | .max=>one (zx P (Builtin.max_ ts t as_.toArray))
 | .len=>one (zx P (Builtin.len_ ts t as_.toArray))
 |_=>none
def zfd:AV->Option Bool
 | .sl _ _=>some false
 | .us _ _=>some false
 | .ms _ _ _ _ _=>some false
 | .sc (.slice none _ _)=>some true
 |_=>none
def YU:AV->Option Bool
 | .ptr _ _ _=>some false
 | .sc (.pointer none)=>some true
 |_=>none
def qoe:Value->Bool
 | .pointer none=>true
 |_=>false
def qS(l:Slots)(k:Nat):SV:=
 match l with
 |[]=>.un
 |(j,s)::r=>match Nat.beq j k with|true=>s|false=>qS r k
def QJ(l:Slots)(d:Option Tmp)(s:SV):Slots:=
 match d with
 |some k=>(k,s)::l
 |none=>l
def jv(b:Boxes)(k:Nat):Option (Nat×List AV):=
 match b with
 |[]=>none
 |(j,g,cs)::r=>match Nat.beq j k with|true=>some (g,cs)|false=>jv r k
def VV(b:Boxes)(k g:Nat)(cs:List AV):Boxes:=(k,g,cs)::b
def jg(l:Slots):Operand->SV
 | .tmp t=>qS l t
 | .const v=>match v with
  | .agg cs=>if cs.toList.all (·.oneCell')=true then .av (.agg (cs.toList.map .sc))else .un
  | .tuple _=>.un
  |v=>.sv v
 | .global _=>.un
 | .func f=>.av (.fn f [])
def nrm(k:TK):SV->SV
 | .sv v=>if qg2 k then .sv v else .av (.sc v)
 |s=>s
def jo(l:List Value):List AV:=l.map .sc
def JC:TK->Bool
 | .tu=>true
 |_=>false
def Cx.tn(c:Cx)(t:TypeId):Option TI:=
 match c.tt t with
 |some ti=>if JC ti.k then none else some ti
 |none=>none
def ZN(p:Prop)[Decidable p]:Option Unit:=if p then some ()else none
def jH(a b:Nat):Option Unit:=ZN (a=b)
def qov(b:Bool):Option Unit:=ZN (b=true)
def yF(cs:List AV):Option Unit:=ZN (cs.all vl=true)
abbrev Orc:=FuncId->List AV->Hp->Option (AV×Hp)
abbrev BE:=Option (Nat×Nat×List AV)
abbrev Kt(R:Type):=SV->BE->Hp->Option R
def qoc(ti:TI):Bool:=
 match ti.k,ti.zero with
 | .sc,[.int .u8 _]=>true
 |_,_=>false
def qc7(ti:TI):Bool:=
 match ti.k,ti.zero with
 | .sc,[.string _]=>true
 |_,_=>false
def zfo(ti:TI):Bool:=
 match ti.k,ti.zero with
 | .ot,[.pointer none]=>true
 |_,_=>false
def zgs:AV->Option (List AV)
 | .agg cs=>some cs
 |_=>none
def qaw:SV->Option (List AV)
 | .av x=>zgs x
 |_=>none
def WW:AV->Bool
 | .agg _=>false
 | .tup _=>false
 |_=>true
def zhe(xs:List AV):Option Unit:=qov (xs.all WW)
def zb2:Value->Option ByteArray
 | .string s=>some s
 |_=>none
def kV:SV->Option Value
 | .sv v=>some v
 |_=>none
def ZA:AV->Option Unit
 | .ptr _ _ _=>some ()
 | .fn _ _=>some ()
 |_=>none
def zg:AV->Option (Nat×Nat×Nat×Nat×Nat)
 | .ms b g o n z=>some (b,g,o,n,z)
 |_=>none
def valC(n:Nat):SV->Option (List AV)
 | .sv v=>if n=1 then some [.sc v]else none
 | .av x=>qn n x
 |_=>none
def opV(ev:Operand->SV):Option Operand->Option (Option Value)
 |none=>some none
 |some o=>(kV (ev o)).bind fun v=>some (some v)
def VN:List SV->Option (List AV)
 |[]=>some []
 |s::r=>(toA s).bind fun x=>(VN r).bind fun l=>some (x::l)
def qfu:List SV->Option (List Value)
 |[]=>some []
 |s::r=>(kV s).bind fun x=>(qfu r).bind fun l=>some (x::l)
def Ww(c:Cx)(fs:List (Nat×TypeId))(i:Nat):Option (Nat×Nat):=
 match fs[i]? with
 |some p=>match c.tn p.2 with
  |some fi=>some (p.1,fi.size)
  |none=>none
 |none=>none
def xv{R:Type}(wj:Nat->Option (Nat×Nat))(ev:Operand->SV)(K:List AV->Option R):List (Nat×Operand)->List AV->Option R
 |[],cs=>K cs
 |(i,x)::r,cs=>
  match wj i with
  |none=>none
  |some (off,n)=>(valC n (ev x)).bind fun vs=>(qo cs off vs).bind fun cs'=>xv wj ev K r cs'
def yk{R:Type}(ti:TI)(h:Nat)(cs:List AV)(off:Nat)(K:SV->List AV->Option R):Option R:=
 if qg2 ti.k then(ql cs off).bind fun v=>K (.sv v) cs
 else if xD ti.k then(qr cs off ti.size).bind fun l=>
  if h=1 then(qo cs off (l.map ro1)).bind fun cs'=>K (.av (.agg l)) cs' else K (.av (.agg (l.map ro1))) cs
 else(qs cs off).bind fun x=>if h=1 then K (.av x) (cs.set off (ro1 x))else K (.av (ro1 x)) cs
def Zh:AV->Option Unit
 | .tup _=>none
 |_=>some ()
def qbi{R:Type}(ti:TI)(r:AV)(K:SV->Option R):Option R:=
 match ti.k with
 | .sc=>(Qo r).bind fun v=>K (.sv v)
 | .tu=>(wQ ti.size r).bind fun _=>K (.tp ((List.range ti.size).map (yH r)))
 |_=>(Zh r).bind fun _=>K (.av r)
def jF{R:Type}(h:Nat)(ti:TI)(a:SV)(gb:Nat->Option (Nat×List AV))(hp:Hp)(K:Kt R):Option R:=
 match a with
 | .lp k g off=>match gb k with
  |some (g',cs)=>if g=g' then yk ti h cs off fun s cs'=>K s (if h=1 then some (k,g,cs')else none) hp else none
  |none=>none
 | .rv cs=>if h=1 then none else yk ti h cs 0 fun s _=>K s none hp
 | .av x=>(qY x).bind fun p=>(hp.rd p.1 p.2.1).bind fun cs=>yk ti h cs p.2.2 fun s cs'=>K s none (if h=1 then hp.put p.1 p.2.1 cs' else hp)
 |_=>none
def xY{R:Type}(ti:TI)(a x:SV)(gb:Nat->Option (Nat×List AV))(hp:Hp)(K:Kt R):Option R:=
 (valC ti.size x).bind fun vs=>
 match a with
 | .lp k g off=>match gb k with
  |some (g',cs)=>if g=g' then(qo cs off vs).bind fun cs'=>K .un (some (k,g,cs')) hp else none
  |none=>none
 | .av x=>(qY x).bind fun p=>(hp.rd p.1 p.2.1).bind fun cs=>(qo cs p.2.2 vs).bind fun cs'=>K .un none (hp.put p.1 p.2.1 cs')
 |_=>none
def yW{R:Type}(c:Cx)(ti:TI)(a:SV)(f:Nat)(K:SV->Option R):Option R:=
 match ti.k with
 | .st fs=>match fs[f]? with
  |some (fo,ft)=>match c.tn ft with
   |some fi=>if fi.size=0 then none else
    match a with
    | .lp k g off=>K (.lp k g (off+fo))
    | .rv cs=>K (.rv (cs.drop fo))
    | .av x=>(qY x).bind fun p=>K (.av (.ptr p.1 p.2.1 (p.2.2+fo)))
    |_=>none
   |none=>none
  |none=>none
 |_=>none
def yU{R:Type}(c:Cx)(h:Nat)(ti:TI)(a i:SV)(K:SV->Option R):Option R:=
 match i with
 | .sv iv=>match ti.k with
  | .sl e=>match c.tn e with
   |some ei=>match a with
    | .av x=>
     if h=2 then(zg x).bind fun p=>(idx p.2.2.2.1 iv).bind fun j=>(jH p.2.2.2.2 ei.size).bind fun _=>K (.av (.ptr p.1 p.2.1 (p.2.2.1+j*ei.size)))
     else(jA ei.size x iv).bind fun cs=>K (.rv cs)
    |_=>none
   |none=>none
  | .ar n e=>match c.tn e with
   |some ei=>match a with
    | .lp k g off=>(idx n iv).bind fun j=>K (.lp k g (off+j*ei.size))
    | .rv cs=>(idx n iv).bind fun j=>K (.rv (cs.drop (j*ei.size)))
    | .av x=>(qY x).bind fun p=>(idx n iv).bind fun j=>K (.av (.ptr p.1 p.2.1 (p.2.2+j*ei.size)))
    |_=>none
   |none=>none
  |_=>none
 |_=>none
def JS{R:Type}(c:Cx)(h:Nat)(ti:TI)(t:TypeId)(a:SV)(lo hi mx:Option Value)(K:SV->Option R):Option R:=
 match ti.k with
 | .sl e=>match c.tn e with
  |some ei=>match a with
   | .av x=>
    if h=2 then(zg x).bind fun p=>(zo 0 p.2.2.2.1 mx p.2.2.2.1).bind fun m=>(zo 0 m hi p.2.2.2.1).bind fun hh=>(zo 0 hh lo 0).bind fun l=>
     (jH p.2.2.2.2 ei.size).bind fun _=>K (.av (.ms p.1 p.2.1 (p.2.2.1+l*ei.size) (hh-l) ei.size))
    else(yq ei.size x lo hi mx).bind fun z=>K (.av z)
   |_=>none
  |none=>none
 | .sc=>match a with
  | .sv v=>(scV c.P t v lo hi mx).bind fun z=>K (.sv z)
  |_=>none
 |_=>none
def qab{R:Type}(c:Cx)(s d:TypeId)(si di:TI)(a:SV)(K:SV->Option R):Option R:=
 match di.k with
 | .sl e=>match c.tn e with
  |some ei=>if qoc ei=true then(kV a).bind fun v=>(zb2 v).bind fun b=>K (.av (.sl 1 (b.data.toList.map fun x=>.sc (.int .u8 x.toNat))))else none
  |none=>none
 |_=>match si.k with
  | .sl e=>match c.tn e with
   |some ei=>if(qoc ei&&qc7 di)=true then(toA a).bind fun x=>(xj 1 x).bind fun cs=>(zM cs).bind fun l=>K (.sv (.string ⟨l.toArray⟩))else none
   |none=>none
  |_=>(kV a).bind fun v=>(Ki c.P s d v).bind fun z=>K (.sv z)
def qo1{R:Type}(c:Cx)(op:BinOp)(t:TypeId)(x y:Operand)(a b:SV)(K:SV->Option R):Option R:=
 match a,b with
 | .sv v,.sv w=>(qx c.P op t x y v w).bind fun z=>K (.sv z)
 | .av v,.sv w=>if Zi w then
  match c.tn t with
  |some ti=>match ti.k with
   | .sl _=>(zfd v).bind fun n=>(match op with| .eql=>K (.sv (.bool n))| .neq=>K (.sv (.bool !n))|_=>none)
   |_=>none
  |none=>none
  else if qoe w then
  match c.tn t with
  |some ti=>if zfo ti=true then(YU v).bind fun n=>(match op with| .eql=>K (.sv (.bool n))| .neq=>K (.sv (.bool !n))|_=>none)else none
  |none=>none
  else(xG v).bind fun v'=>(qx c.P op t x y v' w).bind fun z=>K (.sv z)
 | .av v,.av w=>(xG v).bind fun v'=>(xG w).bind fun w'=>(qx c.P op t x y v' w').bind fun z=>K (.sv z)
 |_,_=>none
def selV(t:Bool)(x y:Value):Value:=
 match t with
 |true=>x
 |false=>y
def Wy{R:Type}(c a b:SV)(K:SV->Option R):Option R:=
 (kV c).bind fun v=>(asB v).bind fun t=>
  match a,b with
  | .sv x,.sv y=>K (.sv (selV t x y))
  |s,r=>cond t (K s.ro) (K r.ro)
def Kc:AV->Option Nat
 | .map b=>some b
 |_=>none
def Xp(sz:Nat)(n:Nat)(cs:List AV):Nat×List AV:=(min (zT sz cs) n,cs.take (min (zT sz cs) n*sz))
def Jz(hp:Hp)(sz:Nat)(x:AV):Option (List AV):=
 match zg x with
 |some p=>(ZN (p.2.2.2.2=sz/\0<sz)).bind fun _=>(hp.rd p.1 p.2.1).bind fun cs=>(qr cs p.2.2.1 (p.2.2.2.1*sz)).bind fun l=>some (l.map ro1)
 |none=>xj sz x
def jX(bytes sz:Nat)(d s:AV)(hp:Hp):Option (AV×Hp):=
 (Jz hp sz s).bind fun ys=>match ys with
 |[]=>(qky bytes sz d []).bind fun y=>some (y,hp)
 |y::ys=>match d with
  | .us z []=>(ZN (z=sz/\xE bytes sz (y::ys).length=true)).bind fun _=>some (.ms hp.next 0 0 (zT sz (y::ys)) sz,hp.new (y::ys))
  | .us z (q::cs)=>(yF (y::ys)).bind fun _=>(qky bytes sz (.us z (q::cs)) (y::ys)).bind fun r=>some (r,hp)
  | .sc v=>(ZN (Zi v=true/\xE bytes sz (y::ys).length=true)).bind fun _=>some (.ms hp.next 0 0 (zT sz (y::ys)) sz,hp.new (y::ys))
  | .ms b g off n z=>(ZN (z=sz/\off=0/\0<n)).bind fun _=>(hp.rd b g).bind fun cs=>
   (ZN (n*sz<=cs.length/\xE bytes sz (n*sz+(y::ys).length)=true)).bind fun _=>some (.ms hp.next 0 0 (n+zT sz (y::ys)) sz,(hp.del b).new ((cs.take (n*sz)).map ro1++(y::ys)))
  |_=>none
def qbr{R:Type}(c:Cx)(h:Nat)(o:Oper)(b:Builtin)(ts:List TypeId)(as_:List SV)(hp:Hp)(K:SV->Hp->Option R):Option R:=
 match b,ts,as_ with
 | .len,[t],[.av x]=>match c.tn t with
  |some ti=>match ti.k with
   | .sl _=>(xK x).bind fun n=>K (.sv (.int .i64 n)) hp
   | .mp _ _=>(ZN (h=2)).bind fun _=>(Kc x).bind fun b=>(hp.rdM b).bind fun es=>K (.sv (.int .i64 es.length)) hp
   |_=>none
  |none=>none
 | .append,[t,t'],[d,s]=>if t'≠t then none else match c.tn t with
  |some ti=>match ti.k with
   | .sl e=>match c.tn e with
    |some ei=>(toA d).bind fun d'=>(toA s).bind fun s'=>if h=2 then(jX ei.bytes ei.size d' s' hp).bind fun q=>K (.av q.1) q.2 else(jm ei.bytes ei.size d' s').bind fun y=>K (.av y) hp
    |none=>none
   |_=>none
  |none=>none
 | .copy,[t,_],[.av d,.av s]=>match c.tn t with
  |some ti=>match ti.k with
   | .sl e=>match c.tn e with
    |some ei=>(ZN (h=2/\0<ei.size)).bind fun _=>(zg d).bind fun p=>(jH p.2.2.2.2 ei.size).bind fun _=>(Jz hp ei.size s).bind fun ys=>(hp.rd p.1 p.2.1).bind fun cs=>
     (qo cs p.2.2.1 (Xp ei.size p.2.2.2.1 ys).2).bind fun cs'=>K (.sv (.int .i64 ((Xp ei.size p.2.2.2.1 ys).1:Nat))) (hp.put p.1 p.2.1 cs')
    |none=>none
   |_=>none
  |none=>none
 |b,ts,as_=>(qfu as_).bind fun vs=>(kF c.P b ts.toArray o.type vs).bind fun z=>K (.sv z) hp
def tN(n:Int):Nat:=n.toNat
def yT(bytes size:Nat)(n n':Int):Option Unit:=ZN (n=n'/\0<=n/\xE bytes 1 n.toNat=true/\0<size)
def xH(n:Int)(z:List Value):List AV:=(List.replicate n.toNat (jo z)).flatten
def wO(hp:Hp)(x:AV):Option (AV×Hp):=
 match x with
 | .ms b g off n z=>(ZN (0<z)).bind fun _=>(hp.rd b g).bind fun cs=>(qr cs off (n*z)).bind fun l=>(ZN (l.all vl=true)).bind fun _=>some (.sl z (l.map ro1),hp.del b)
 |x=>some (x,hp)
def Xh(hp:Hp):List AV->Option (List AV×Hp)
 |[]=>some ([],hp)
 |x::r=>(wO hp x).bind fun p=>(Xh p.2 r).bind fun q=>some (p.1::q.1,q.2)
def qom(k:TK)(hp:Hp)(s:SV):Option (SV×Hp):=
 match s with
 | .av x=>if xD k then(qaw (.av x)).bind fun cs=>(Xh hp cs).bind fun q=>some (.av (.agg q.1),q.2)else(wO hp x).bind fun q=>some (.av q.1,q.2)
 |s=>some (s,hp)
def qt9{R:Type}(k:TK)(hp:Hp)(s:SV)(K:SV->Hp->Option R):Option R:=
 match s with
 | .av x=>if xD k then(qaw (.av x)).bind fun cs=>(Xh hp cs).bind fun q=>K (.av (.agg q.1)) q.2 else(wO hp x).bind fun q=>K (.av q.1) q.2
 |s=>K s hp
def orA(f:Option AV)(x:AV):AV:=f.getD x
def isS(f:Option AV):Bool:=f.isSome
def qqr(ti:TI):Bool:=
 match ti.k,ti.zero with
 | .sc,[.int _ _]=>true
 |_,_=>false
def qqs(ti:TI):Bool:=
 match ti.k,ti.zero with
 | .sc,[.bool _]=>true
 |_,_=>false
def zfn(ti:TI):Value->Bool
 | .int _ _=>qqr ti
 | .string _=>qc7 ti
 | .bool _=>qqs ti
 |_=>false
def VI(ti:TI):AV:=if xD ti.k then .agg (jo ti.zero)else(jo ti.zero).headD (.agg [])
def mapV:SV->Option AV
 | .sv v=>some (.sc v)
 | .av x=>some (ro x)
 |_=>none
def ofA(k:TK)(x:AV):Option SV:=if qg2 k then(Qo x).bind fun v=>some (.sv v)else some (.av x)
def qql(ok:Bool)(ei:TI)(f:Option AV):Option SV:=
 match ok with
 |true=>some (.tp [orA f (VI ei),.sc (.bool (isS f))])
 |false=>ofA ei.k (orA f (VI ei))
def ofAK{R:Type}(k:TK)(x:AV)(K:SV->Option R):Option R:=if qg2 k then(Qo x).bind fun v=>K (.sv v)else K (.av x)
def qn7{R:Type}(ok:Bool)(ei:TI)(f:Option AV)(K:SV->Option R):Option R:=
 match ok with
 |true=>K (.tp [orA f (VI ei),.sc (.bool (isS f))])
 |false=>ofAK ei.k (orA f (VI ei)) K
def kM{R:Type}(c:Cx)(t:TypeId)(x i:SV)(ok:Bool)(hp:Hp)(K:SV->Option R):Option R:=
 match c.tn t with
 |some ti=>match ti.k with
  | .mp kt et=>match c.tn kt,c.tn et with
   |some ki,some ei=>(toA x).bind fun x'=>(Kc x').bind fun b=>(hp.rdM b).bind fun es=>(kV i).bind fun k=>(qov (zfn ki k)).bind fun _=>(qkc k es).bind fun f=>qn7 ok ei f K
   |_,_=>none
  |_=>none
 |none=>none
def Jl{R:Type}(c:Cx)(t:TypeId)(m k x:SV)(hp:Hp)(K:Hp->Option R):Option R:=
 match c.tn t with
 |some ti=>match ti.k with
  | .mp kt et=>match c.tn kt,c.tn et with
   |some ki,some ei=>(toA m).bind fun m'=>(Kc m').bind fun b=>(hp.rdM b).bind fun es=>(kV k).bind fun kv=>(qov (zfn ki kv)).bind fun _=>(mapV x).bind fun v=>
    (qs5 kv v es).bind fun es'=>K (hp.put b 1 es')
   |_,_=>none
  |_=>none
 |none=>none
def xq(xs caps:List AV):Option Unit:=ZN (xs.all vlF=true/\caps.all vl=true)
def wo(y:AV):Option Unit:=ZN (vlV y=true)
def jY{R:Type}(c:Cx)(C:Orc)(h:Nat)(ti:TI)(f:FuncId)(caps:List AV)(as_:List SV)(hp:Hp)(K:Kt R):Option R:=
 (VN as_).bind fun xs=>
 if h=2 then(C f ((xs.map ro)++caps) hp).bind fun p=>qbi ti p.1 fun s=>K s none p.2
 else if h=4 then(C f (caps++(xs.map ro)) hp).bind fun p=>qbi ti p.1 fun s=>K s none p.2
 else(xq xs caps).bind fun _=>(C f ((xs.map ro)++caps) hp0).bind fun p=>(wo p.1).bind fun _=>qbi ti p.1 fun s=>K s none hp
def qv{R:Type}(c:Cx)(C:Orc)(h:Nat)(o:Oper)(ev:Operand->SV)(gb:Nat->Option (Nat×List AV))(hp:Hp)(K:Kt R):Option R:=
 match o.op with
 | .move x=>match c.tt o.type with
  |some ti=>if h=3 then qt9 ti.k hp (nrm ti.k (ev x).ro) fun s q=>K s none q else K (if h=1 then nrm ti.k (ev x)else nrm ti.k (ev x).ro) none hp
  |none=>none
 | .assign x=>match c.tt o.type with
  |some ti=>if h=3 then qt9 ti.k hp (nrm ti.k (ev x)) fun s q=>K s none q else K (nrm ti.k (ev x)) none hp
  |none=>none
 | .pick a x y=>Wy (ev a) (ev x) (ev y) fun s=>K s none hp
 | .alloc t=>match c.tn t with
  |some ti=>if h=2 then K (.av (.ptr hp.next 0 0)) none (hp.new (jo ti.zero))else
   match o.dst with
   |some d=>let g:=match gb d with|some (g,_)=>g+1|none=>0
    K (.lp d g 0) (some (d,g,jo ti.zero)) hp
   |none=>none
  |none=>none
 | .box t x=>match c.tn t with
  |some ti=>(valC ti.size (ev x)).bind fun vs=>if h=2 then K (.av (.ptr hp.next 0 0)) none (hp.new (vs.map ro1))else
   match o.dst with
   |some d=>let g:=match gb d with|some (g,_)=>g+1|none=>0
    K (.lp d g 0) (some (d,g,vs.map ro1)) hp
   |none=>none
  |none=>none
 | .build t ps=>match c.tn t with
  |some ti=>match ti.k with
   | .st fs=>if fs.all (fun p=>(c.tn p.2).isSome)=true then xv (Ww c fs) ev (fun cs=>K (.av (.agg (cs.map ro1))) none hp) ps.toList (jo ti.zero)else none
   | .ar _ e=>match c.tn e with
    |some ei=>xv (fun i=>some (i*ei.size,ei.size)) ev (fun cs=>K (.av (.agg (cs.map ro1))) none hp) ps.toList (jo ti.zero)
    |none=>none
   |_=>none
  |none=>none
 | .buildSlice t n ps=>match c.tn t with
  |some ti=>match ti.k with
   | .sl e=>match c.tn e with
    |some ei=>if n*ei.size<=4096/\0<ei.size then
     xv (fun i=>some (i*ei.size,ei.size)) ev (fun cs=>(yF cs).bind fun _=>K (.av (.us ei.size (cs.map ro1))) none hp) ps.toList (List.replicate n (jo ei.zero)).flatten
     else none
    |none=>none
   |_=>none
  |none=>none
 | .load t a=>match c.tn t with
  |some ti=>if h=3 then jF 0 ti (ev a) gb hp fun s b q=>qt9 ti.k q s fun s' q'=>K s' b q' else jF h ti (ev a) gb hp K
  |none=>none
 | .store t a x=>match c.tn t with
  |some ti=>xY ti (ev a) (ev x) gb hp K
  |none=>none
 | .nilCheck x=>match ev x with
  | .lp k g off=>K (.lp k g off) none hp
  | .av y=>(ZA y).bind fun _=>K (.av y) none hp
  |_=>none
 | .binOp op t x y _=>qo1 c op t x y (ev x) (ev y) fun s=>K s none hp
 | .unOp op _ x=>(kV (ev x)).bind fun v=>(unV c.P op v).bind fun z=>K (.sv z) none hp
 | .convert s d x=>match c.tn s,c.tn d with
  |some si,some di=>qab c s d si di (ev x) fun s=>K s none hp
  |_,_=>none
 | .makeFunc (.func f) fs cs=>if fs.toList.isEmpty=true then(VN (cs.toList.map ev)).bind fun xs=>if xs.all WW=true then(qov (Nat.blt f 4294967296)).bind fun _=>K (.av (.fn f (xs.map ro1))) none hp else none
  else if cs.toList.isEmpty=true then(VN (fs.toList.map ev)).bind fun xs=>(zhe xs).bind fun _=>K (.av (.fn (4294967296+f) (xs.map ro1))) none hp else none
 | .makeSlice t l m=>match c.tn t with
  |some ti=>match ti.k with
   | .sl e=>match c.tn e with
    |some ei=>(kV (ev l)).bind fun lv=>(kV (ev m)).bind fun mv=>(Vd lv).bind fun n=>(Vd mv).bind fun n'=>
     (yT ei.bytes ei.size n n').bind fun _=>
      (if h=2 then K (.av (.ms hp.next 0 0 (tN n) ei.size)) none (hp.new (xH n ei.zero))
       else K (.av (.us ei.size (xH n ei.zero))) none hp)
    |none=>none
   |_=>none
  |none=>none
 | .slice t x lo hi mx=>match c.tn t with
  |some ti=>if mx.isSome&&!hi.isSome then none else(opV ev lo).bind fun l=>(opV ev hi).bind fun u=>(opV ev mx).bind fun m=>JS c h ti t (ev x) l u m fun s=>K s none hp
  |none=>none
 | .fieldAddr t x f=>match c.tn t with
  |some ti=>yW c ti (ev x) f fun s=>K s none hp
  |none=>none
 | .field t x f=>match c.tn t with
  |some ti=>match ti.k with
   | .st fs=>match fs[f]? with
    |some (fo,ft)=>match c.tn ft with
     |some fi=>(qaw (ev x)).bind fun cs=>yk fi 0 cs fo fun s _=>K s none hp
     |none=>none
    |none=>none
   |_=>none
  |none=>none
 | .indexAddr t x i=>match c.tn t with
  |some ti=>yU c h ti (ev x) (ev i) fun s=>K s none hp
  |none=>none
 | .index t x i=>match c.tt o.type with
  |some ti=>if qg2 ti.k then(qdd (ev x)).bind fun a=>(kV (ev i)).bind fun iv=>(ixV c.P t a iv).bind fun z=>K (.sv z) none hp else
   match c.tn t with
   |some xi=>match xi.k with
    | .ar n e=>match c.tn e with
     |some ei=>(qaw (ev x)).bind fun cs=>(kV (ev i)).bind fun iv=>(idx n iv).bind fun j=>yk ei 0 cs (j*ei.size) fun s _=>K s none hp
     |none=>none
    |_=>none
   |none=>none
  |none=>none
 | .extract x i=>match ev x with
  | .tp l=>match l[i]? with
   |some y=>match c.tt o.type with
    |some ti=>if qg2 ti.k then(Qo y).bind fun v=>K (.sv v) none hp else if h=1 then K (.av (ro y)) none hp else K (.av y) none hp
    |none=>none
   |none=>none
  |_=>none
 | .makeMap t none=>if h=2 then K (.av (.map hp.next)) none hp.newM else none
 | .lookup t x i ok=>if h=2 then kM c t (ev x) (ev i) ok hp fun s=>K s none hp else none
 | .mapUpdate t m k x=>if h=2 then Jl c t (ev m) (ev k) (ev x) hp fun q=>K .un none q else none
 | .call cl=>match cl.callee with
  | .builtin b=>qbr c h o b cl.argTypes.toList (cl.args.toList.map ev) hp fun s q=>K s none q
  | .value (.func f)=>match c.F f,c.tt o.type with
   |some fn,some ti=>match fn.body with
    |some _=>jY c C h ti f [] (cl.args.toList.map ev) hp K
    |none=>(qfu (cl.args.toList.map ev)).bind fun vs=>(one (c.X f vs)).bind fun z=>K (.sv z) none hp
   |_,_=>none
  | .value (.tmp t)=>match c.tt o.type with
   |some ti=>match ev (.tmp t)with
    | .av x=>if h=4 then(WQ x).bind fun p=>jY c C h ti p.1 p.2 (cl.args.toList.map ev) hp K else(Xf x).bind fun p=>jY c C h ti p.1 p.2 (cl.args.toList.map ev) hp K
    |_=>none
   |none=>none
  |_=>none
 |_=>none
structure Fp where
 rs:List Nat
 ws:List Nat
 br:Option Nat
 bw:Option Nat
 hr:Bool
 hw:Bool
 nw:Bool
 lq:Option (AV×Nat)
 gb:Nat->Option (Nat×List AV)
 ga:Nat->Option (Nat×List AV)
def yK(q:AV×Nat)(g:Nat->Option (Nat×List AV)):Option (List AV):=
 (qY q.1).bind fun p=>(g p.1).bind fun z=>if z.1=0 then(qr z.2 p.2.2 q.2).map (List.map ro1)else none
noncomputable def xm(q:AV×Nat)(g g':Nat->Option (Nat×List AV)):Option Unit:=
 @ite _ (yK q g=yK q g') (Classical.propDecidable _) (some ()) none
def qjp(h:Nat)(o:Oper)(tn:TypeId->Option TI)(ev:Operand->SV):Option (AV×Nat):=
 match o.op with
 | .load t a=>match ev a with
  | .av x=>match h==1||h==3 with
   |true=>none
   |false=>match tn t with
    |some ti=>some (x,match xD ti.k with|true=>ti.size|false=>1)
    |none=>none
  |_=>none
 |_=>none
def qog(b:Bool)(hp:Hp):Nat->Option (Nat×List AV):=
 match b with
 |true=>hp.get
 |false=>fun _=>none
inductive It where
 |code (c:Code)
 |inBlock (id:Nat)
 |inLoop (body:Code)
 |inScope (body:Code)
 |ops (r:Nat) (ops:Array Oper) (is:List Nat) (d:Bool) (acc:List (Nat×Fp))
def dn(t:Tmp)(l:Slots):Slots:=(t,(qS l t).ro)::l
def dnX(t:Tmp)(i:Nat)(l:Slots):Slots:=
 match qS l t with
 | .tp xs=>(t,.tp (match xs[i]? with|some y=>xs.set i (ro y)|none=>xs))::l
 |_=>l
def jB:List Operand->List Nat
 |[]=>[]
 | .tmp t::r=>t::jB r
 |_::r=>jB r
def zr(h:Nat)(o:Oper):List Nat:=
 match o.op with
 | .move x=>if h=1 then jB [x]else []
 | .assign x=>jB [x]
 | .store _ _ x=>jB [x]
 | .extract x _=>if h=1 then []else jB [x]
 | .call c=>match c.callee with
  | .builtin .append=>jB c.args.toList
  |_=>[]
 |_=>[]
def zb(ts:List Nat)(l:Slots):Slots:=ts.foldl (fun l t=>dn t l) l
def qT(h:Nat)(o:Oper)(l:Slots):Slots:=
 match o.op with
 | .extract (.tmp t) i=>if h=1 then l else dnX t i l
 |_=>zb (zr h o) l
def yI(h:Nat)(o:Oper)(ev:Operand->SV):Option Nat×Option Nat:=
 match o.op with
 | .load _ a=>match ev a with
  | .lp k _ _=>if h=1 then(none,some k)else(some k,none)
  |_=>(none,none)
 | .store _ a _=>match ev a with
  | .lp k _ _=>(none,some k)
  |_=>(none,none)
 | .alloc _=>if h=2 then(none,none)else(none,o.dst)
 | .box _ _=>if h=2 then(none,none)else(none,o.dst)
 |_=>(none,none)
def zN(h:Nat)(o:Oper)(ev:Operand->SV):Bool×Bool×Bool:=
 match o.op with
 | .load _ a=>match ev a with
  | .av _=>(h==1||h==3,h==1||h==3,h==3)
  |_=>(h==3,h==3,h==3)
 | .move _=>(h==3,h==3,h==3)
 | .assign _=>(h==3,h==3,h==3)
 | .makeMap _ _=>(true,true,true)
 | .lookup _ _ _ _=>(true,false,false)
 | .mapUpdate _ _ _ _=>(true,true,true)
 | .store _ a _=>match ev a with
  | .av _=>(false,true,false)
  |_=>(false,false,false)
 | .alloc _=>(false,h==2,h==2)
 | .box _ _=>(false,h==2,h==2)
 | .makeSlice _ _ _=>(false,h==2,h==2)
 | .call c=>match c.callee with
  | .builtin _=>(h==2,h==2,h==2)
  |_=>(h==2||h==4,h==2||h==4,h==2||h==4)
 |_=>(false,false,false)
def zi8(tn:TypeId->Option TI)(h:Nat)(ops:Array Oper)(o:Oper)(l:Slots)(hp hp':Hp):Fp:=
 let b:=yI h o (jg l)
 let q:=zN h o (jg l)
 {rs:=o.looksAt ops,ws:=o.dst.toList++zr h o,br:=b.1,bw:=b.2,hr:=q.1,hw:=q.2.1,nw:=q.2.2,lq:=qjp h o tn (jg l),gb:=qog q.2.1 hp,ga:=qog q.2.1 hp'}
def Ke(ops:Array Oper)(o:Oper):Fp:=
 {rs:=o.looksAt ops,ws:=o.dst.toList,br:=none,bw:=none,hr:=false,hw:=false,nw:=false,lq:=none,gb:=fun _=>none,ga:=fun _=>none}
def qc0(a b:List Nat):Bool:=a.any fun x=>b.contains x
def qrd(a b:Fp):Bool:=
 qc0 a.ws b.rs||qc0 a.ws b.ws||qc0 a.rs b.ws||
 (match a.bw,b.bw with|some x,some y=>x==y|_,_=>false)||
 (match a.bw,b.br with|some x,some y=>x==y|_,_=>false)||
 (match a.br,b.bw with|some x,some y=>x==y|_,_=>false)||
 (a.hw&&(b.hr||b.hw))||(a.hr&&b.hw)||(a.nw&&b.nw)
def yd:List Oper->List (List Nat)->List (List Nat)
 |[],t=>t
 |o::r,t=>
  let ds:=(o.after.toList.filter fun e=>Region.binds .any e).map (·.on)
  yd r (t++[(ds++ds.flatMap fun j=>t.getD j []).eraseDups])
def WZ(ops:Array Oper):Bool:=(List.range ops.size).all fun i=>match ops[i]? with
 |some o=>o.after.toList.all fun e=>!Region.binds .any e||decide (e.on<i)
 |none=>true
def Kh(ops:Array Oper)(acc:List (Nat×Fp)):Bool:=
 let t:=yd ops.toList []
 WZ ops&&acc.all fun p=>acc.all fun q=>!(decide (p.1<q.1))||(t.getD q.1 []).contains p.1||!(qrd p.2 q.2)
def qgi(t:List (List Nat))(i j:Nat):Bool:=(t.getD j []).contains i||(t.getD i []).contains j
noncomputable def que(t:List (List Nat))(p q:Nat×Fp)(r:List (Option Unit)):List (Option Unit):=
 match p.2.lq with
 |none=>r
 |some x=>match q.2.hw with
  |false=>r
  |true=>match qgi t p.1 q.1 with
   |true=>r
   |false=>xm x q.2.gb q.2.ga::r
noncomputable def zbm(t:List (List Nat))(p:Nat×Fp):List (Nat×Fp)->List (Option Unit)->List (Option Unit)
 |[],r=>r
 |q::l,r=>que t p q (zbm t p l r)
noncomputable def zjm(t:List (List Nat))(acc:List (Nat×Fp)):List (Nat×Fp)->List (Option Unit)
 |[]=>[]
 |p::l=>zbm t p acc (zjm t acc l)
noncomputable def zew(ops:Array Oper)(acc:List (Nat×Fp)):List (Option Unit):=zjm (yd ops.toList []) acc acc
def qrh{R:Type}:List (Option Unit)->Option R->Option R
 |[],X=>X
 |o::l,X=>o.bind fun _=>qrh l X
def kg(b:Boxes):List Nat->Boxes
 |[]=>[]
 |k::r=>match jv b k with
  |some (g,cs)=>(k,g,cs)::kg b r
  |none=>kg b r
def WD(b:Boxes)(s:SV):SV:=
 match s with
 | .lp k g o=>match jv b k with
  |some _=>.lp k g o
  |none=>.un
 |s=>s
def ZE(b:Boxes)(l:Slots):List Nat->Slots
 |[]=>[]
 |k::r=>match WD b (qS l k)with
  | .un=>ZE b l r
  |s=>(k,s)::ZE b l r
def mask(m:Option (List Nat))(st:St):St:=
 match m with
 |none=>st
 |some live=>⟨ZE (kg st.bx live) st.sl live,kg st.bx live,st.hp⟩
def qct(id:Nat):List It->Option (List It)
 |[]=>none
 | .inBlock j::k=>if j=id then some k else qct id k
 |_::k=>qct id k
def Wt{R:Type}(st:St)(tt:TypeId->Option TI)(r:ResultVar)(K:AV->Option R):Option R:=
 match r with
 | .tmp t=>(toA (qS st.sl t)).bind K
 | .cell a ty=>match tt ty with
  |some ti=>match qS st.sl a with
   | .lp k g off=>match jv st.bx k with
    |some (g',cs)=>if g=g' then
     (if xD ti.k then(qr cs off ti.size).bind fun l=>K (.agg l)else(qs cs off).bind K)
     else none
    |none=>none
   |_=>none
  |none=>none
def QG{R:Type}(st:St)(tt:TypeId->Option TI)(K:List AV->Option R):List ResultVar->Option R
 |[]=>K []
 |r::l=>Wt st tt r fun x=>QG st tt (fun xs=>K (x::xs)) l
def JJ(st:St):ResultVar->Nat×Nat
 | .tmp t=>(0,t)
 | .cell a _=>match qS st.sl a with
  | .lp k _ _=>(1,k)
  |_=>(2,0)
def qqb(k:Nat×Nat):List (Nat×Nat)->Bool
 |[]=>true
 |j::r=>match Nat.beq j.1 k.1&&Nat.beq j.2 k.2 with|true=>false|false=>qqb k r
def Qk:List (Nat×Nat)->Bool
 |[]=>true
 |k::r=>match qqb k r with|true=>Qk r|false=>false
def fin(c:Cx)(f:FuncId)(st:St):Option (AV×Hp):=
 match c.F f with
 |some fn=>cond (Qk (fn.results.toList.map (JJ st))) (QG st c.tn (fun l=>match l with
  |[x]=>some (x,st.hp)
  |l=>some (.tup l,st.hp)) fn.results.toList) none
 |none=>none
def kj{R:Type}(c:Cx):Nat->List TypeId->List AV->(Slots->Option R)->Option R
 |_,[],[],K=>K []
 |i,[],x::xs,K=>kj c (i+1) [] xs fun l=>K ((i,.av x)::l)
 |_,_::_,[],_=>none
 |i,t::ts,x::xs,K=>match c.tn t with
  |some ti=>if qg2 ti.k then(Qo x).bind fun v=>kj c (i+1) ts xs fun l=>K ((i,.sv v)::l)else kj c (i+1) ts xs fun l=>K ((i,.av x)::l)
  |none=>none
def after(h:Nat)(o:Oper)(st:St)(s:SV)(b:BE)(hp:Hp):St:=
 ⟨QJ (qT h o st.sl) o.dst s,(match b with|some (k,g,cs)=>VV st.bx k g cs|none=>st.bx),hp⟩
def xX(o:Oper)(ops:Array Oper):Option (Option (Nat×Bool)):=
 match o.guard with
 |none=>some none
 |some (j,want)=>match ops[j]? with
  |some oj=>match oj.dst with
   |some d=>some (some (d,want))
   |none=>none
  |none=>none
def qo5(d:Bool)(i:Nat)(p:Fp)(acc:List (Nat×Fp)):List (Nat×Fp):=if d then(i,p)::acc else acc
theorem vQ{R:Type}:∀{l:List (Option Unit)} {X:Option R} {r:R},qrh l X=some r->(∀o∈l,o=some ())/\X=some r
 |[],X,r,h=>⟨qg,h⟩
 |o::l,X,r,h=>by
  obtain⟨u,hu,h⟩:=bsm h
  obtain⟨h1,h2⟩:=vQ h
  refine⟨fun o' ho=>?_,h2⟩
  rcases zmy.mp ho with rfl|ho
  ·exact hu
  ·exact h1 o' ho
theorem qaq{R:Type}:∀{l:List (Option Unit)} {X:Option R} {r:R},(∀o∈l,o=some ())->X=some r->qrh l X=some r
 |[],X,r,_,h=>h
 |o::l,X,r,h1,h=>by
  show o.bind _=_
  rw[h1 o qg]
  exact qaq (fun o ho=>h1 o (by simp[ho])) h
theorem qmn{q:AV×Nat}{g g':Nat->Option (Nat×List AV)}(h:xm q g g'=some ()):yK q g=yK q g':=by
 unfold xm at h
 split at h
 ·assumption
 ·cases h
theorem qkf{t:List (List Nat)}{p q:Nat×Fp}{x:AV×Nat}(hx:p.2.lq=some x)(hw:q.2.hw=true)(ho:qgi t p.1 q.1=false):
 ∀{l:List (Nat×Fp)} {r:List (Option Unit)},q∈l->xm x q.2.gb q.2.ga∈zbm t p l r
 |q'::l,r,hq=>by
  show _∈que t p q' (zbm t p l r)
  rcases zmy.mp hq with rfl|hq
  ·simp only[que,hx,hw,ho]
   exact zp3 ..
  ·have ih:=qkf hx hw ho (r:=r) hq
   unfold que
   split
   ·exact ih
   ·split
    ·exact ih
    ·split
     ·exact ih
     ·exact zo7 _ ih
theorem qud{t:List (List Nat)}{p q:Nat×Fp}{r:List (Option Unit)}{o:Option Unit}(h:o∈r):o∈que t p q r:=by
 unfold que
 split
 ·exact h
 ·split
  ·exact h
  ·split
   ·exact h
   ·exact zo7 _ h
theorem qdc{t:List (List Nat)}{p:Nat×Fp}{o:Option Unit}:∀{l:List (Nat×Fp)} {r:List (Option Unit)},o∈r->o∈zbm t p l r
 |[],r,h=>h
 |q::l,r,h=>qud (qdc h)
theorem qke{t:List (List Nat)}{acc:List (Nat×Fp)}{p q:Nat×Fp}{x:AV×Nat}(hx:p.2.lq=some x)(hw:q.2.hw=true)(ho:qgi t p.1 q.1=false)(hq:q∈acc):
 ∀{l:List (Nat×Fp)},p∈l->xm x q.2.gb q.2.ga∈zjm t acc l
 |p'::l,hp=>by
  rcases zmy.mp hp with rfl|hp
  ·exact qkf hx hw ho hq
  ·exact qdc (qke hx hw ho hq hp)
theorem qcu{ops:Array Oper}{acc:List (Nat×Fp)}(h:∀o∈zew ops acc,o=some ()){p q:Nat×Fp}(hp:p∈acc)(hq:q∈acc){x:AV×Nat}(hx:p.2.lq=some x)(hw:q.2.hw=true):
 qgi (yd ops.toList []) p.1 q.1=true\/yK x q.2.gb=yK x q.2.ga:=by
 cases ho:qgi (yd ops.toList []) p.1 q.1 with
 |true=>exact .inl rfl
 |false=>exact .inr (qmn (h _ (qke hx hw ho hq hp)))
abbrev GoT:=List It->St->Option (AV×Hp)
def Xl(c:Cx)(C:Orc)(G:GoT)(r:Nat)(ops:Array Oper)(is:List Nat)(d:Bool)(acc:List (Nat×Fp))(k:List It)(h i:Nat)(o:Oper)(st:St):Option (AV×Hp):=
 qv c C h o (jg st.sl) (jv st.bx) st.hp fun s b hp=>G (.ops r ops is d (qo5 d i (zi8 c.tn h ops o st.sl st.hp hp) acc)::k) (after h o st s b hp)
def qhv(G:GoT)(r:Nat)(ops:Array Oper)(is:List Nat)(d:Bool)(acc:List (Nat×Fp))(k:List It)(i:Nat)(o:Oper)(st:St):Option (AV×Hp):=
 G (.ops r ops is d (qo5 d i (Ke ops o) acc)::k) ⟨QJ st.sl o.dst .ud,st.bx,st.hp⟩
def qrz(st:St)(g:Nat)(b:Bool):St:=⟨(g,.sv (.bool b))::st.sl,st.bx,st.hp⟩
def opF(c:Cx)(C:Orc)(G:GoT)(r:Nat)(ops:Array Oper)(is:List Nat)(d:Bool)(acc:List (Nat×Fp))(k:List It)(h i:Nat)(o:Oper)(st:St):Option (AV×Hp):=
 match xX o ops with
 |none=>none
 |some none=>Xl c C G r ops is d acc k h i o st
 |some (some (g,want))=>match qS st.sl g with
  | .ud=>qhv G r ops is d acc k i o st
  | .sv v=>(asB v).bind fun t=>match want with
   |true=>cond t (Xl c C G r ops is d acc k h i o (qrz st g true)) (qhv G r ops is d acc k i o (qrz st g false))
   |false=>cond t (qhv G r ops is d acc k i o (qrz st g true)) (Xl c C G r ops is d acc k h i o (qrz st g false))
  |_=>none
noncomputable def yE(c:Cx)(C:Orc)(G:GoT)(f:FuncId)(its:List It)(st:St):Option (AV×Hp):=
 match its with
 |[]=>fin c f st
 | .inBlock _::k=>G k st
 | .inLoop b::k=>G (.code b::.inLoop b::k) st
 | .inScope _::k=>G k st
 | .code (.scope b)::k=>G (.code b::.inScope b::k) st
 | .code .skip::k=>G k st
 | .code (.label _)::k=>G k st
 | .code .ret::_=>fin c f st
 | .code (.seq a b)::k=>G (.code a::.code b::k) st
 | .code (.block id b)::k=>G (.code b::.inBlock id::k) st
 | .code (.loop b)::k=>G (.inLoop b::k) st
 | .code (.exit id)::k=>(qct id k).bind fun k'=>G k' st
 | .code (.cond x a b)::k=>(kV (jg st.sl x)).bind fun v=>(asB v).bind fun t=>cond t (G (.code a::k) st) (G (.code b::k) st)
 | .code (.region r ops d)::k=>G (.ops r ops (List.range ops.size) d []::k) (mask (c.M f r) st)
 | .ops r ops [] d acc::k=>cond (!d||Kh ops acc) (qrh (zew ops acc) (G k st)) none
 | .ops r ops (i::is) d acc::k=>(ops[i]?).bind fun o=>opF c C G r ops is d acc k (c.H f r i) i o st
 |_=>none
noncomputable def Qi(c:Cx)(C:Orc)(f:FuncId):Nat->List It->St->Option (AV×Hp)
 |0=>fun _ _=>none
 |n+1=>yE c C (Qi c C f n) f
def xk{R:Type}(c:Cx)(f:FuncId)(xs:List AV)(hp:Hp)(K:List It->St->Option R):Option R:=
 match c.F f with
 |some fn=>match fn.body with
  |some b=>kj c 0 fn.params.toList xs fun l=>K [.code b] ⟨l,[],hp⟩
  |none=>none
 |none=>none
noncomputable def yr(c:Cx):Nat->Orc
 |0=>fun _ _ _=>none
 |n+1=>fun f xs hp=>xk c f xs hp (Qi c (yr c n) f n)
def Le{α:Type}(a b:Option α):Prop:=∀r,a=some r->b=some r
theorem Le.refl{α:Type}(a:Option α):Le a a:=fun _ h=>h
theorem Le.trans{α:Type}{a b c:Option α}(h:Le a b)(h':Le b c):Le a c:=fun r hr=>h' r (h r hr)
abbrev k3:Kt (SV×BE×Hp):=fun s b hp=>some (s,b,hp)
section nat
variable {R:Type}
theorem qX(ti:TI)(h:Nat)(cs:List AV)(off:Nat)(K:SV->List AV->Option R):
 yk ti h cs off K=(yk ti h cs off fun s c=>some (s,c)).bind fun p=>K p.1 p.2:=by
 unfold yk
 repeat' split
 all_goals simp[zmz]
theorem ye(ti:TI)(r:AV)(K:SV->Option R):qbi ti r K=(qbi ti r some).bind K:=by
 unfold qbi
 repeat' split
 all_goals simp[zmz]
theorem kh(h:Nat)(ti:TI)(a:SV)(gb:Nat->Option (Nat×List AV))(hp:Hp)(K:Kt R):
 jF h ti a gb hp K=(jF h ti a gb hp k3).bind fun p=>K p.1 p.2.1 p.2.2:=by
 unfold jF
 repeat' split
 all_goals first
  |(rw[qX];conv=>rhs;rw[qX]
    simp[zmz])
  |(simp only[zmz];congr 1;funext p;congr 1;funext cs;rw[qX];conv=>rhs;rw[qX]
    simp[zmz])
  |simp
theorem qfx(ti:TI)(a x:SV)(gb:Nat->Option (Nat×List AV))(hp:Hp)(K:Kt R):
 xY ti a x gb hp K=(xY ti a x gb hp k3).bind fun p=>K p.1 p.2.1 p.2.2:=by
 unfold xY
 simp only[zmz]
 congr 1;funext vs
 repeat' split
 all_goals simp[zmz]
theorem vL(c:Cx)(ti:TI)(a:SV)(f:Nat)(K:SV->Option R):yW c ti a f K=(yW c ti a f some).bind K:=by
 unfold yW
 repeat' split
 all_goals simp[zmz]
theorem vC(c:Cx)(h:Nat)(ti:TI)(a i:SV)(K:SV->Option R):yU c h ti a i K=(yU c h ti a i some).bind K:=by
 unfold yU
 repeat' split
 all_goals simp[zmz]
theorem JR(c:Cx)(h:Nat)(ti:TI)(t:TypeId)(a:SV)(lo hi mx:Option Value)(K:SV->Option R):
 JS c h ti t a lo hi mx K=(JS c h ti t a lo hi mx some).bind K:=by
 unfold JS
 repeat' split
 all_goals simp[zmz]
theorem Kj(c:Cx)(s d:TypeId)(si di:TI)(a:SV)(K:SV->Option R):qab c s d si di a K=(qab c s d si di a some).bind K:=by
 unfold qab
 repeat' split
 all_goals simp[zmz]
theorem qas(c:Cx)(op:BinOp)(t:TypeId)(x y:Operand)(a b:SV)(K:SV->Option R):qo1 c op t x y a b K=(qo1 c op t x y a b some).bind K:=by
 unfold qo1
 repeat' split
 all_goals simp[zmz]
theorem XT(c a b:SV)(K:SV->Option R):Wy c a b K=(Wy c a b some).bind K:=by
 unfold Wy
 simp only[zmz]
 congr 1;funext v;congr 1;funext t
 repeat' split
 all_goals first|simp|(cases t<;>simp)
theorem qap(c:Cx)(h:Nat)(o:Oper)(b:Builtin)(ts:List TypeId)(as_:List SV)(hp:Hp)(K:SV->Hp->Option R):qbr c h o b ts as_ hp K=(qbr c h o b ts as_ hp fun s q=>some (s,q)).bind fun p=>K p.1 p.2:=by
 unfold qbr
 repeat' split
 all_goals first
  |(simp[zmz];done)
  |(simp only[zmz];congr 1;funext d;congr 1;funext s
    split<;>simp[zmz])
theorem qc3(ok:Bool)(ei:TI)(f:Option AV)(K:SV->Option R):qn7 ok ei f K=(qql ok ei f).bind K:=by
 cases ok
 ·unfold qn7 qql ofAK ofA
  dsimp only
  split<;>simp[zmz]
 ·rfl
theorem wt(c:Cx)(t:TypeId)(x i:SV)(ok:Bool)(hp:Hp)(K:SV->Option R):kM c t x i ok hp K=(kM c t x i ok hp some).bind K:=by
 unfold kM
 simp only[qc3]
 repeat' split
 all_goals simp[zmz]
theorem ZF(c:Cx)(t:TypeId)(m k x:SV)(hp:Hp)(K:Hp->Option R):Jl c t m k x hp K=(Jl c t m k x hp some).bind K:=by
 unfold Jl
 repeat' split
 all_goals simp[zmz]
theorem wz(k:TK)(hp:Hp)(s:SV)(K:SV->Hp->Option R):qt9 k hp s K=(qom k hp s).bind fun p=>K p.1 p.2:=by
 unfold qt9 qom
 split
 ·split<;>simp[zmz]
 ·simp only[zmw]
theorem qdh(c:Cx)(C:Orc)(h:Nat)(ti:TI)(f:FuncId)(caps:List AV)(as_:List SV)(hp:Hp)(K:Kt R):
 jY c C h ti f caps as_ hp K=(jY c C h ti f caps as_ hp k3).bind fun p=>K p.1 p.2.1 p.2.2:=by
 unfold jY
 simp only[zmz]
 congr 1;funext xs
 split
 ·simp only[zmz]
  congr 1;funext p
  rw[ye];conv=>rhs;rw[ye]
  simp[zmz]
 ·split
  ·simp only[zmz]
   congr 1;funext p
   rw[ye];conv=>rhs;rw[ye]
   simp[zmz]
  ·simp only[zmz]
   congr 1;funext u;congr 1;funext p;congr 1;funext u
   rw[ye];conv=>rhs;rw[ye]
   simp[zmz]
theorem yz(wj:Nat->Option (Nat×Nat))(ev:Operand->SV)(K:List AV->Option R):∀(l:List (Nat×Operand)) (cs:List AV),
 xv wj ev K l cs=(xv wj ev some l cs).bind K
 |[],cs=>rfl
 |(i,x)::r,cs=>by
  unfold xv
  split
  ·rfl
  ·simp only[zmz]
   congr 1;funext vs;congr 1;funext cs'
   exact yz wj ev K r cs'
theorem Ql(c:Cx)(C:Orc)(h:Nat)(o:Oper)(ev:Operand->SV)(gb:Nat->Option (Nat×List AV))(hp:Hp)(K:Kt R):
 qv c C h o ev gb hp K=(qv c C h o ev gb hp k3).bind fun p=>K p.1 p.2.1 p.2.2:=by
 unfold qv
 repeat' split
 all_goals first
  |rfl
  |(simp[zmz];done)
  |exact kh _ _ _ _ _ _
  |exact qfx _ _ _ _ _ _
  |exact qdh _ _ _ _ _ _ _ _ _
  |(rw[yz];conv=>rhs;rw[yz]
    simp[zmz];done)
  |(rw[XT];conv=>rhs;rw[XT]
    simp[zmz];done)
  |(rw[qas];conv=>rhs;rw[qas]
    simp[zmz];done)
  |(rw[Kj];conv=>rhs;rw[Kj]
    simp[zmz];done)
  |(rw[vL];conv=>rhs;rw[vL]
    simp[zmz];done)
  |(rw[vC];conv=>rhs;rw[vC]
    simp[zmz];done)
  |(rw[qap];conv=>rhs;rw[qap]
    simp[zmz];done)
  |(rw[wt];conv=>rhs;rw[wt]
    simp[zmz];done)
  |(rw[ZF];conv=>rhs;rw[ZF]
    simp[zmz];done)
  |(simp only[wz];rw[kh];conv=>rhs;rw[kh]
    simp[zmz];done)
  |(simp only[wz];simp[zmz];done)
  |(simp only[zmz];congr 1;funext cs;rw[qX];conv=>rhs;rw[qX]
    simp[zmz];done)
  |(simp only[zmz];congr 1;funext cs;congr 1;funext iv;congr 1;funext j;rw[qX];conv=>rhs;rw[qX]
    simp[zmz];done)
  |(simp only[zmz];congr 1;funext l;congr 1;funext u;congr 1;funext m;rw[JR];conv=>rhs;rw[JR]
    simp[zmz];done)
  |(simp only[zmz];congr 1;funext p;exact qdh _ _ _ _ _ _ _ _ _)
  |(simp only[zmz];congr 1;funext l;congr 1;funext u;congr 1;funext m;congr 1;funext q;repeat' split
    all_goals simp)
  |(simp only[zmz];congr 1;funext l;repeat' split
    all_goals first
     |rfl
     |(simp[zmz];done))
end nat
def OLe(C C':Orc):Prop:=∀f xs hp,Le (C f xs hp) (C' f xs hp)
theorem Le.bind{α β:Type}{a b:Option α}{f g:α->Option β}(h:Le a b)(hf:∀x,Le (f x) (g x)):Le (a.bind f) (b.bind g):=by
 intro r hr
 cases a with
 |none=>simp at hr
 |some x=>rw[h x rfl];exact hf x r hr
theorem Le.cond{α:Type}{a b a' b':Option α}{t:Bool}(h:Le a a')(h':Le b b'):Le (cond t a b) (cond t a' b'):=by cases t<;>assumption
theorem qah(c:Cx){C C':Orc}(hC:OLe C C')(h:Nat)(ti:TI)(f:FuncId)(caps:List AV)(as_:List SV)(hp:Hp):
 Le (jY c C h ti f caps as_ hp k3) (jY c C' h ti f caps as_ hp k3):=by
 unfold jY
 refine Le.bind (Le.refl _) fun xs=>?_
 split
 ·exact Le.bind (hC _ _ _) fun p=>Le.refl _
 ·split
  ·exact Le.bind (hC _ _ _) fun p=>Le.refl _
  ·exact Le.bind (Le.refl _) fun _=>Le.bind (hC _ _ _) fun p=>Le.refl _
theorem qaa(c:Cx){C C':Orc}(hC:OLe C C')(h:Nat)(o:Oper)(ev:Operand->SV)(gb:Nat->Option (Nat×List AV))(hp:Hp):
 Le (qv c C h o ev gb hp k3) (qv c C' h o ev gb hp k3):=by
 unfold qv
 repeat' split
 all_goals first
  |exact Le.refl _
  |exact qah c hC _ _ _ _ _ _
  |exact Le.bind (Le.refl _) fun p=>qah c hC _ _ _ _ _ _
noncomputable def lim{α:Type}(s:Nat->Option α):Option α:=
 open Classical in if h:∃n r,s n=some r then s h.choose else none
theorem qjq{α:Type}{s:Nat->Option α}(hs:∀n,Le (s n) (s (n+1)))(r:α):lim s=some r↔∃n,s n=some r:=by
 have up:∀n m,Le (s n) (s (n+m)):=by
  intro n m
  induction m with
  |zero=>exact Le.refl _
  |succ m ih=>exact ih.trans (hs (n+m))
 constructor
 ·intro h
  unfold lim at h
  split at h
  ·exact⟨_,h⟩
  ·cases h
 ·rintro⟨n,hn⟩
  unfold lim
  have h:∃n r,s n=some r:=⟨n,r,hn⟩
  rw[dif_pos h]
  obtain⟨r',hr'⟩:=h.choose_spec
  have a:=up n h.choose r hn
  have b:=up h.choose n r' hr'
  rw[zqm]at b
  rw[a]at b
  cases b
  exact hr'
theorem Le.ite{α:Type}{p:Prop}[Decidable p]{a b a' b':Option α}(h:Le a a')(h':Le b b'):Le (if p then a else b) (if p then a' else b'):=by
 split<;>assumption
def GLe(G G':List It->St->Option (AV×Hp)):Prop:=∀its st,Le (G its st) (G' its st)
theorem qub(c:Cx){C C':Orc}(hC:OLe C C'){G G':List It->St->Option (AV×Hp)}(hG:GLe G G')(h:Nat)(o:Oper)(ev:Operand->SV)
 (gb:Nat->Option (Nat×List AV)) (hp:Hp) (its:SV->BE->Hp->List It) (sts:SV->BE->Hp->St):
 Le (qv c C h o ev gb hp fun s b q=>G (its s b q) (sts s b q)) (qv c C' h o ev gb hp fun s b q=>G' (its s b q) (sts s b q)):=by
 rw[Ql (K:=fun s b q=>G (its s b q) (sts s b q)),Ql (K:=fun s b q=>G' (its s b q) (sts s b q))]
 exact Le.bind (qaa c hC _ _ _ _ _) fun p=>hG _ _
theorem Yk(c:Cx){C C':Orc}(hC:OLe C C'){G G':GoT}(hG:GLe G G')(r:Nat)(ops:Array Oper)(is:List Nat)(d:Bool)(acc:List (Nat×Fp))(k:List It)(h i:Nat)(o:Oper)(st:St):
 Le (Xl c C G r ops is d acc k h i o st) (Xl c C' G' r ops is d acc k h i o st):=qub c hC hG _ _ _ _ _ _ _
theorem qzy(c:Cx){C C':Orc}(hC:OLe C C'){G G':GoT}(hG:GLe G G')(r:Nat)(ops:Array Oper)(is:List Nat)(d:Bool)(acc:List (Nat×Fp))(k:List It)(h i:Nat)(o:Oper)(st:St):
 Le (opF c C G r ops is d acc k h i o st) (opF c C' G' r ops is d acc k h i o st):=by
 unfold opF
 split
 ·exact Le.refl _
 ·exact Yk c hC hG _ _ _ _ _ _ _ _ _ _
 ·split
  ·exact hG _ _
  ·refine Le.bind (Le.refl _) fun t=>?_
   split
   ·exact Le.cond (Yk c hC hG _ _ _ _ _ _ _ _ _ _) (hG _ _)
   ·exact Le.cond (hG _ _) (Yk c hC hG _ _ _ _ _ _ _ _ _ _)
  ·exact Le.refl _
theorem Qu(c:Cx){C C':Orc}(hC:OLe C C'){G G':GoT}(hG:GLe G G')(f:FuncId)(its:List It)(st:St):
 Le (yE c C G f its st) (yE c C' G' f its st):=by
 unfold yE
 split
 all_goals first
  |exact Le.refl _
  |exact hG _ _
  |exact Le.bind (Le.refl _) fun v=>Le.bind (Le.refl _) fun t=>Le.cond (hG _ _) (hG _ _)
  |exact Le.bind (Le.refl _) fun v=>hG _ _
  |exact Le.cond (fun r h=>qaq (vQ h).1 (hG _ _ r (vQ h).2)) (Le.refl _)
  |exact Le.bind (Le.refl _) fun v=>qzy c hC hG _ _ _ _ _ _ _ _ _ _
theorem Xe(c:Cx){C C':Orc}(hC:OLe C C')(f:FuncId):∀n its st,Le (Qi c C f n its st) (Qi c C' f n its st)
 |0,_,_=>Le.refl _
 |n+1,its,st=>Qu c hC (fun its st=>Xe c hC f n its st) f its st
theorem Xd(c:Cx)(C:Orc)(f:FuncId):∀n its st,Le (Qi c C f n its st) (Qi c C f (n+1) its st)
 |0,_,_=>fun r h=>by simp[Qi]at h
 |n+1,its,st=>Qu c (fun f xs hp=>Le.refl _) (fun its st=>Xd c C f n its st) f its st
theorem QQ{R:Type}(c:Cx):∀(i:Nat) (ts:List TypeId) (xs:List AV) (K K':Slots->Option R),(∀l,Le (K l) (K' l))->Le (kj c i ts xs K) (kj c i ts xs K')
 |_,[],[],_,_,h=>h _
 |i,[],_::xs,_,_,h=>QQ c (i+1) [] xs _ _ fun l=>h _
 |_,_::_,[],_,_,_=>Le.refl _
 |i,t::ts,x::xs,_,_,h=>by
  unfold kj
  split
  ·split
   ·exact Le.bind (Le.refl _) fun v=>QQ c (i+1) ts xs _ _ fun l=>h _
   ·exact QQ c (i+1) ts xs _ _ fun l=>h _
  ·exact Le.refl _
theorem KG{R:Type}(c:Cx)(f:FuncId)(xs:List AV)(hp:Hp){K K':List It->St->Option R}(h:∀its st,Le (K its st) (K' its st)):
 Le (xk c f xs hp K) (xk c f xs hp K'):=by
 unfold xk
 repeat' split
 all_goals first
  |exact Le.refl _
  |exact QQ c _ _ _ _ _ (fun l=>h _ _)
theorem kZ(c:Cx):∀n,OLe (yr c n) (yr c (n+1))
 |0=>fun f xs hp r h=>by simp[yr]at h
 |n+1=>fun f xs hp=>by
  show Le (xk c f xs hp (Qi c (yr c n) f n)) (xk c f xs hp (Qi c (yr c (n+1)) f (n+1)))
  exact KG c f xs hp fun its st=>(Xe c (kZ c n) f n its st).trans (Xd c _ f n its st)
noncomputable def run(c:Cx):Orc:=fun f xs hp=>lim fun n=>yr c n f xs hp
noncomputable def go(c:Cx)(f:FuncId)(its:List It)(st:St):Option (AV×Hp):=lim fun n=>Qi c (yr c n) f n its st
theorem vk{c:Cx}{f:FuncId}{xs:List AV}{hp:Hp}{r:AV×Hp}:run c f xs hp=some r↔∃n,yr c n f xs hp=some r:=
 qjq (fun n=>kZ c n f xs hp) r
theorem zhb(c:Cx)(f:FuncId)(its:List It)(st:St)(n:Nat):Le (Qi c (yr c n) f n its st) (Qi c (yr c (n+1)) f (n+1) its st):=
 (Xe c (kZ c n) f n its st).trans (Xd c _ f n its st)
theorem yl{c:Cx}{f:FuncId}{its:List It}{st:St}{r:AV×Hp}:go c f its st=some r↔∃n,Qi c (yr c n) f n its st=some r:=
 qjq (zhb c f its st) r
theorem zd9(c:Cx){n m:Nat}(h:n<=m):OLe (yr c n) (yr c m):=by
 obtain⟨d,rfl⟩:=Nat.exists_eq_add_of_le h
 intro f xs hp
 induction d with
 |zero=>exact Le.refl _
 |succ d ih=>exact(ih qe).trans (kZ c (n+d) f xs hp)
theorem zi5(c:Cx)(f:FuncId){n m:Nat}(h:n<=m):GLe (Qi c (yr c n) f n) (Qi c (yr c m) f m):=by
 obtain⟨d,rfl⟩:=Nat.exists_eq_add_of_le h
 intro its st
 induction d with
 |zero=>exact Le.refl _
 |succ d ih=>exact(ih qe).trans (zhb c f its st (n+d))
theorem xQ{α β:Type}{o:Option α}{f:α->Option β}{fs:Nat->α->Option β}(h:∀x r,f x=some r->∃n,fs n x=some r){r:β}
 (hr:o.bind f=some r):∃n,o.bind (fs n)=some r:=by
 cases o with
 |none=>simp at hr
 |some x=>exact h x r hr
theorem qai(c:Cx)(h:Nat)(ti:TI)(f:FuncId)(caps:List AV)(as_:List SV)(hp:Hp){r:SV×BE×Hp}
 (hr:jY c (run c) h ti f caps as_ hp k3=some r):∃n,jY c (yr c n) h ti f caps as_ hp k3=some r:=by
 unfold jY at hr⊢
 refine xQ (fun xs r hr=>?_) hr
 by_cases e:h=2
 ·simp only[if_pos e]at hr⊢
  obtain⟨p,hp',hr⟩:=bsm hr
  obtain⟨n,hn⟩:=vk.mp hp'
  exact⟨n,by rw[hn];exact hr⟩
 ·simp only[if_neg e]at hr⊢
  by_cases e4:h=4
  ·simp only[if_pos e4]at hr⊢
   obtain⟨p,hp',hr⟩:=bsm hr
   obtain⟨n,hn⟩:=vk.mp hp'
   exact⟨n,by rw[hn];exact hr⟩
  ·simp only[if_neg e4]at hr⊢
   obtain⟨u,hu,hr⟩:=bsm hr
   obtain⟨p,hp',hr⟩:=bsm hr
   obtain⟨n,hn⟩:=vk.mp hp'
   exact⟨n,by rw[hu];simp only[zmw];rw[hn];exact hr⟩
theorem qot(c:Cx)(h:Nat)(o:Oper)(ev:Operand->SV)(gb:Nat->Option (Nat×List AV))(hp:Hp){r:SV×BE×Hp}
 (hr:qv c (run c) h o ev gb hp k3=some r):∃n,qv c (yr c n) h o ev gb hp k3=some r:=by
 revert hr
 unfold qv
 split
 all_goals try exact fun hr=>⟨0,hr⟩
 repeat' split
 all_goals intro hr
 all_goals first
  |exact⟨0,hr⟩
  |exact qai c _ _ _ _ _ hp hr
  |exact xQ (fun p r hr=>qai c _ _ _ _ _ hp hr) hr
theorem quc(c:Cx)(f:FuncId)(h:Nat)(o:Oper)(ev:Operand->SV)
 (gb:Nat->Option (Nat×List AV)) (hp:Hp) (its:SV->BE->Hp->List It) (sts:SV->BE->Hp->St) {r:AV×Hp}
 (hr:(qv c (run c) h o ev gb hp fun s b q=>go c f (its s b q) (sts s b q))=some r):
 ∃n,(qv c (yr c n) h o ev gb hp fun s b q=>Qi c (yr c n) f n (its s b q) (sts s b q))=some r:=by
 rw[Ql]at hr
 obtain⟨p,h1,h2⟩:=bsm hr
 obtain⟨n,hn⟩:=qot c h o ev gb hp h1
 obtain⟨m,hm⟩:=yl.mp h2
 refine⟨max n m,?_⟩
 rw[Ql]
 rw[qaa c (zd9 c (Nat.le_max_left n m)) h o ev gb hp p hn]
 exact zi5 c f (Nat.le_max_right n m) _ _ r hm
theorem Yl(c:Cx)(f:FuncId)(r:Nat)(ops:Array Oper)(is:List Nat)(d:Bool)(acc:List (Nat×Fp))(k:List It)(h i:Nat)(o:Oper)(st:St){q:AV×Hp}
 (hr:Xl c (run c) (go c f) r ops is d acc k h i o st=some q):∃n,Xl c (yr c n) (Qi c (yr c n) f n) r ops is d acc k h i o st=some q:=
 quc c f h o (jg st.sl) (jv st.bx) st.hp (fun s b hp=>.ops r ops is d (qo5 d i (zi8 c.tn h ops o st.sl st.hp hp) acc)::k) (fun s b hp=>after h o st s b hp) hr
theorem qzz(c:Cx)(f:FuncId)(r:Nat)(ops:Array Oper)(is:List Nat)(d:Bool)(acc:List (Nat×Fp))(k:List It)(h i:Nat)(o:Oper)(st:St){q:AV×Hp}
 (hr:opF c (run c) (go c f) r ops is d acc k h i o st=some q):∃n,opF c (yr c n) (Qi c (yr c n) f n) r ops is d acc k h i o st=some q:=by
 revert hr
 unfold opF
 split
 ·intro hr;cases hr
 ·intro hr;exact Yl c f _ _ _ _ _ _ _ _ _ _ hr
 ·split
  ·intro hr;exact yl.mp hr
  ·intro hr
   refine xQ (fun t r hr=>?_) hr
   revert hr
   split
   ·intro hr
    cases t
    ·exact yl.mp hr
    ·exact Yl c f _ _ _ _ _ _ _ _ _ _ hr
   ·intro hr
    cases t
    ·exact Yl c f _ _ _ _ _ _ _ _ _ _ hr
    ·exact yl.mp hr
  ·intro hr;cases hr
theorem qmj(c:Cx)(f:FuncId)(its:List It)(st:St){r:AV×Hp}(hr:yE c (run c) (go c f) f its st=some r):
 ∃n,yE c (yr c n) (Qi c (yr c n) f n) f its st=some r:=by
 unfold yE at hr⊢
 split at hr
 all_goals first
  |exact⟨0,hr⟩
  |exact yl.mp hr
  |exact xQ (fun v r hr=>yl.mp hr) hr
  |exact xQ (fun v r hr=>qzz c f _ _ _ _ _ _ _ _ _ _ hr) hr
  |skip
 ·refine xQ (fun v r hr=>xQ (fun t r hr=>?_) hr) hr
  cases t
  ·exact yl.mp hr
  ·exact yl.mp hr
 ·rename_i d acc k
  generalize(!d||Kh _ acc)=t at hr⊢
  cases t
  ·cases hr
  ·obtain⟨h1,h2⟩:=vQ hr
   obtain⟨n,hn⟩:=yl.mp h2
   exact⟨n,qaq h1 hn⟩
theorem qqw(c:Cx)(f:FuncId)(its:List It)(st:St):go c f its st=yE c (run c) (go c f) f its st:=by
 apply Option.ext
 intro r
 constructor
 ·intro h
  obtain⟨n,hn⟩:=yl.mp h
  cases n with
  |zero=>simp[Qi]at hn
  |succ n=>
   have hC:OLe (yr c (n+1)) (run c):=fun f xs hp r hr=>vk.mpr ⟨n+1,hr⟩
   have hG:GLe (Qi c (yr c (n+1)) f n) (go c f):=fun its st r hr=>yl.mpr ⟨n+1,Xd c _ f n its st r hr⟩
   exact Qu c hC hG f its st r hn
 ·intro h
  obtain⟨n,hn⟩:=qmj c f its st h
  refine yl.mpr ⟨n+1,?_⟩
  exact Qu c (kZ c n) (fun its st=>Xe c (kZ c n) f n its st) f its st r hn
theorem jC{R:Type}(c:Cx):∀(i:Nat) (ts:List TypeId) (xs:List AV) (K:Slots->Option R),kj c i ts xs K=(kj c i ts xs some).bind K
 |_,[],[],_=>rfl
 |i,[],x::xs,K=>by
  simp only[kj]
  rw[jC c (i+1) [] xs]
  conv=>rhs;rw[jC c (i+1) [] xs]
  simp[zmz]
 |_,_::_,[],_=>rfl
 |i,t::ts,x::xs,K=>by
  simp only[kj]
  split
  ·split
   ·simp only[zmz]
    congr 1;funext v
    rw[jC c (i+1) ts xs]
    conv=>rhs;rw[jC c (i+1) ts xs]
    simp[zmz]
   ·rw[jC c (i+1) ts xs]
    conv=>rhs;rw[jC c (i+1) ts xs]
    simp[zmz]
  ·rfl
theorem zh8(c:Cx)(f:FuncId)(xs:List AV)(hp:Hp):run c f xs hp=xk c f xs hp (go c f):=by
 apply Option.ext
 intro r
 constructor
 ·intro h
  obtain⟨n,hn⟩:=vk.mp h
  cases n with
  |zero=>simp[yr]at hn
  |succ n=>exact KG c f xs hp (fun its st r hr=>yl.mpr ⟨n,hr⟩) r hn
 ·intro h
  have key:∃n,xk c f xs hp (Qi c (yr c n) f n)=some r:=by
   revert h
   unfold xk
   split
   ·split
    ·intro h
     rw[jC]at h
     obtain⟨l,h1,h2⟩:=bsm h
     obtain⟨n,hn⟩:=yl.mp h2
     exact⟨n,by rw[jC,h1];exact hn⟩
    ·intro h;cases h
   ·intro h;cases h
  obtain⟨n,hn⟩:=key
  exact vk.mpr ⟨n+1,hn⟩
theorem Xv(k:Nat):Nat.beq k k=true:=qg
theorem qhf{j k:Nat}(h:j≠k):Nat.beq j k=false:=by
 cases hb:Nat.beq j k
 ·rfl
 ·exact absurd (Nat.eq_of_beq_eq_true hb) h
theorem Yh(b:Boxes):∀(live:List Nat) (k:Nat),jv (kg b live) k=if k∈live then jv b k else none
 |[],k=>by simp[kg,jv]
 |j::r,k=>by
  have ih:=Yh b r k
  simp only[kg]
  split
  ·rename_i g cs h
   simp only[jv]
   by_cases e:j=k
   ·subst e;simp[h]
   ·rw[qhf e];simp only[ih,zmy]
    have:k≠j:=fun h=>e h.symm
    simp[this]
  ·rename_i h
   rw[ih]
   by_cases e:j=k
   ·subst e;simp[h]
   ·have:k≠j:=fun h=>e h.symm
    simp[this]
theorem KR(b b':Boxes):∀(live:List Nat),(∀k∈live,jv b' k=jv b k)->kg b' live=kg b live
 |[],_=>rfl
 |j::r,h=>by
  simp only[kg]
  rw[h j qg,KR b b' r fun k hk=>h k (by simp[hk])]
theorem Qv(b:Boxes)(l:Slots):∀(live:List Nat) (k:Nat),qS (ZE b l live) k=if k∈live then WD b (qS l k)else .un
 |[],k=>by simp[ZE,qS]
 |j::r,k=>by
  have ih:=Qv b l r k
  simp only[ZE]
  by_cases e:j=k
  ·subst e
   split
   ·rename_i h
    rw[ih];simp[h]
   ·rename_i s h
    simp[qS,Xv]
  ·have e':k≠j:=fun h=>e h.symm
   split
   ·rw[ih];simp[e']
   ·simp[qS,qhf e,ih,e']
theorem KQ(b:Boxes)(l l':Slots):∀(live:List Nat),(∀k∈live,WD b (qS l' k)=WD b (qS l k))->ZE b l' live=ZE b l live
 |[],_=>rfl
 |j::r,h=>by
  simp only[ZE]
  rw[h j qg,KQ b l l' r fun k hk=>h k (by simp[hk])]
theorem qti(b:Boxes)(s:SV):WD b (WD b s)=WD b s:=by
 cases s<;>simp only[WD]
 rename_i k g o
 cases h:jv b k<;>simp[WD,h]
theorem qtq(m:Option (List Nat))(st:St):mask m (mask m st)=mask m st:=by
 cases m with
 |none=>rfl
 |some live=>
  simp only[mask]
  have hB:kg (kg st.bx live) live=kg st.bx live:=KR _ _ _ fun k hk=>by rw[Yh,if_pos hk]
  rw[hB]
  congr 1
  refine KQ _ _ _ _ fun k hk=>?_
  rw[Qv,if_pos hk,qti]
def qxt(ss:List Nat):List It->Bool
 | .code (.region r _ _)::_=>ss.contains r
 |_=>false
def qn2(c:Cx)(f:FuncId):List It->St->St
 | .code (.region r _ _)::_,st=>mask (c.M f r) st
 |_,st=>st
theorem zfs(c:Cx)(f:FuncId)(its:List It)(st:St):go c f its (qn2 c f its st)=go c f its st:=by
 unfold qn2
 split
 ·rw[qqw,qqw c f _ st]
  simp only[yE,qtq]
 ·rfl
noncomputable def qhn(c:Cx)(f:FuncId)(ss:List Nat):Nat->GoT
 |0=>go c f
 |n+1=>fun its st=>cond (qxt ss its) (go c f its (qn2 c f its st)) (yE c (run c) (qhn c f ss n) f its st)
theorem qfq(c:Cx)(f:FuncId)(ss:List Nat):∀n,qhn c f ss n=go c f
 |0=>rfl
 |n+1=>by
  funext its st
  simp only[qhn,qfq c f ss n]
  cases qxt ss its
  ·exact(qqw c f its st).symm
  ·exact zfs c f its st
theorem zbz(c:Cx)(f:FuncId)(ss:List Nat)(n:Nat)(its:List It)(st:St):go c f its st=yE c (run c) (qhn c f ss n) f its st:=by
 rw[qfq];exact qqw c f its st
theorem zbl(c:Cx)(f:FuncId)(ss:List Nat)(n:Nat)(xs:List AV)(hp:Hp):run c f xs hp=xk c f xs hp (qhn c f ss n):=by
 rw[qfq];exact zh8 c f xs hp
def sub:List Nat->Code->Code
 |[],c=>c
 |0::p,.seq a _=>sub p a
 |_::p,.seq _ b=>sub p b
 |0::p,.cond _ a _=>sub p a
 |_::p,.cond _ _ b=>sub p b
 |_::p,.block _ b=>sub p b
 |_::p,.loop b=>sub p b
 |_::p,.scope b=>sub p b
 |_,c=>c
inductive Ow where
 |fr|oth
 |box (k g:Nat)
 |obj (b g:Nat)
 |sl (k j i:Nat)
 |bc (k g i:Nat)
 |oc (b g i:Nat)
structure Gh where
 Om:Nat->Ow
 I:Nat->Nat
 mu:Nat->Nat->Option Nat
 la:Nat->Nat->Option Nat
def bsz(w:World)(b:Nat):Option Nat:=
 match w.heap[b]? with
 |some (.cells arr _ _)=>some arr.size
 |_=>none
theorem Ko{w w':World}{b:Nat}(h:w'.heap[b]?=w.heap[b]?):bsz w' b=bsz w b:=by simp[bsz,h]
inductive RelR (G : Gh) (w : World) : AV → Value → Prop where
 |sc (v:Value):v.oneCell'=true->RelR G w (.sc v) v
 |sl0 (sz:Nat) (a:Addr) (cap:Nat):0<sz->RelR G w (.sl sz []) (.slice (some a) 0 cap)
 |sl (sz:Nat) (cs:List AV) (n cap b o:Nat) (vs:List Value):0<sz->0<n->cs.length=n*sz->n<=cap->o+n*sz<=G.I b->vs.length=cs.length->
  (∀k c,vs[k]?=some c->w.cell? ⟨b,o+k,none⟩=some c)->(∀x∈cs,vl x=true)->(∀(k:Nat) (x:AV) (c:Value),cs[k]?=some x->vs[k]?=some c->RelR G w x c)->
  RelR G w (.sl sz cs) (.slice (some ⟨b,o,none⟩) n cap)
 |ptr (b g off blk:Nat):G.mu b g=some blk->RelR G w (.ptr b g off) (.pointer (some ⟨blk,off,none⟩))
 |ms (b g off n sz cap blk off' z:Nat):G.mu b g=some blk->n<=cap->(0<n->off'=off)->bsz w blk=some z->off'+cap*sz<=z->RelR G w (.ms b g off n sz) (.slice (some ⟨blk,off',none⟩) n cap)
 |fn (f:FuncId) (caps:List AV) (vs:List Value):(Nat.blt f 4294967296=true\/caps=[])->caps.length=vs.length->
  (∀(k:Nat) (x:AV) (c:Value),caps[k]?=some x->vs[k]?=some c->RelR G w x c)->RelR G w (.fn f caps) (.func (.func f) #[] vs.toArray)
 |map (b blk:Nat):G.mu b 1=some blk->RelR G w (.map b) (.map (some blk))
 |fnb (f:FuncId) (bs:List AV) (vs:List Value):bs≠[]->bs.length=vs.length->
  (∀(k:Nat) (x:AV) (c:Value),bs[k]?=some x->vs[k]?=some c->RelR G w x c)->RelR G w (.fn (4294967296+f) bs) (.func (.func f) vs.toArray #[])
structure TokR (G : Gh) (w : World) (sz : Nat) (cs : List AV) (v : Value) (b : Nat) : Prop where
 ex:∃n cap arr e,v= .slice (some ⟨b,0,none⟩) n cap/\0<sz/\cs.length=n*sz/\n<=cap/\G.I b=n*sz/\
  w.heap[b]?=some (.cells arr e (0,0))/\arr.size=cap*sz/\∀(k:Nat) (x:AV),cs[k]?=some x->∃c,arr[k]?=some c/\RelR G w x c
 vl:∀x∈cs,vl x=true
def yj(G:Gh)(w:World)(p:Ow)(x:AV)(v:Value):Prop:=
 match x with
 | .us sz cs=>∃b,G.Om b=p/\TokR G w sz cs v b
 | .agg _=>False
 | .tup _=>False
 |x=>RelR G w x v
def zS(G:Gh)(w:World)(p:Nat->Ow)(x:AV)(v:Value):Prop:=
 match x with
 | .agg cs=>∃vs:List Value,v= .agg vs.toArray/\cs.length=vs.length/\∀(i:Nat) (x:AV) (c:Value),cs[i]?=some x->vs[i]?=some c->yj G w (p i) x c
 |x=>yj G w (p 0) x v
def zi(G:Gh)(w:World)(k:Nat)(s:SV)(v:Value):Prop:=
 match s with
 | .sv u=>v=u/\u.oneCell'=true
 | .av x=>zS G w (.sl k 0 ·) x v
 | .tp l=>∃vs:List Value,v= .tuple vs.toArray/\l.length=vs.length/\∀(j:Nat) (x:AV) (c:Value),l[j]?=some x->vs[j]?=some c->zS G w (.sl k j ·) x c
 | .lp k' g off=>∃blk,G.la k' g=some blk/\v= .pointer (some ⟨blk,off,none⟩)
 | .rv cs=>∃(b o:Nat) (vs:List Value),v= .pointer (some ⟨b,o,none⟩)/\vs.length=cs.length/\(∀i,i<cs.length->o+i<G.I b)/\
  (∀(k:Nat) (c:Value),vs[k]?=some c->w.cell? ⟨b,o+k,none⟩=some c)/\∀(k:Nat) (x:AV) (c:Value),cs[k]?=some x->vs[k]?=some c->RelR G w x c
 | .un=>True
 | .ud=>v=undef
def xS(G:Gh)(w:World)(blk:Nat)(p:Nat->Ow)(cs:List AV):Prop:=
 ∃arr e,w.heap[blk]?=some (.cells arr e (0,0))/\cs.length<=arr.size/\∀(i:Nat) (x:AV) (c:Value),cs[i]?=some x->arr[i]?=some c->yj G w (p i) x c
def Vm(G:Gh)(w:World)(x:AV)(v:Value):Prop:=
 match x with
 | .agg cs=>∃vs:List Value,v= .agg vs.toArray/\cs.length=vs.length/\∀(i:Nat) (x:AV) (c:Value),cs[i]?=some x->vs[i]?=some c->RelR G w x c
 |x=>RelR G w x v
def qax(G:Gh)(w:World)(x:AV)(e:MapEntry):Prop:=
 match x with
 | .tup [.sc k,y]=>e.key=k/\k.oneCell'=true/\Vm G w y e.val
 |_=>False
def qk6(G:Gh)(w:World)(blk:Nat)(cs:List AV):Prop:=
 ∃es clock,w.heap[blk]?=some (.map es clock)/\es.size=cs.length/\∀(i:Nat) (x:AV) (e:MapEntry),cs[i]?=some x->es[i]?=some e->qax G w x e
def ObR(G:Gh)(w:World)(blk:Nat)(p:Nat->Ow)(g:Nat)(cs:List AV):Prop:=
 match g with
 |0=>xS G w blk p cs
 |_+1=>qk6 G w blk cs
structure Inv (G : Gh) (w : World) (st : St) (tmps : Array Value) : Prop where
 slots:∀k,zi G w k (qS st.sl k) (tmps.getD k undef)
 boxes:∀k g cs,jv st.bx k=some (g,cs)->∃blk,G.la k g=some blk/\G.Om blk= .box k g/\xS G w blk (.bc k g ·) cs
 heap:∀b g cs,st.hp.get b=some (g,cs)->∃blk,G.mu b g=some blk/\G.Om blk= .obj b g/\ObR G w blk (.oc b g ·) g cs
 next:∀b g,st.hp.next<=b->G.mu b g=none
 hlt:∀b g cs,st.hp.get b=some (g,cs)->b<st.hp.next
 new:∀b,w.heap.size<=b->G.Om b= .fr/\G.I b=0
 vars:∀b,(∃k g,G.Om b= .box k g)\/(∃k g,G.Om b= .obj k g)->G.I b=0
 lps:∀j k g off,qS st.sl j= .lp k g off->∃g' cs,jv st.bx k=some (g',cs)/\g<=g'
def Kr(w w':World):Prop:=w'.os=w.os/\w'.tape=w.tape/\w'.output=w.output
theorem Kr.refl(w:World):Kr w w:=⟨rfl,rfl,rfl⟩
theorem Kr.trans{w w' w'':World}(h:Kr w w')(h':Kr w' w''):Kr w w'':=⟨h'.1.trans h.1,h'.2.1.trans h.2.1,h'.2.2.trans h.2.2⟩
structure Fr (G : Gh) (w : World) (G' : Gh) (w' : World) : Prop where
 size:w.heap.size<=w'.heap.size
 cells:∀b i,i<G.I b->w'.cell? ⟨b,i,none⟩=w.cell? ⟨b,i,none⟩
 imm:∀b,G.I b<=G'.I b
 mu:∀b g x,G.mu b g=some x->G'.mu b g=some x
 same:∀b,b<w.heap.size->G.Om b= .fr\/G.Om b= .oth->w'.heap[b]?=w.heap[b]?/\G'.Om b=G.Om b/\G'.I b=G.I b
 rest:Kr w w'
 bs:∀b z,bsz w b=some z->bsz w' b=some z
theorem Fr.refl(G:Gh)(w:World):Fr G w G w:=⟨zmx _,fun _ _ _=>rfl,fun _=>zmx _,fun _ _ _ h=>h,fun _ _ _=>⟨rfl,rfl,rfl⟩,Kr.refl w,fun _ _ h=>h⟩
theorem Fr.trans{G G' G'':Gh}{w w' w'':World}(h:Fr G w G' w')(h':Fr G' w' G'' w''):Fr G w G'' w'':=by
 refine⟨zn7 h.size h'.size,fun b i hi=>?_,fun b=>zn7 (h.imm b) (h'.imm b),fun b g x hx=>h'.mu b g x (h.mu b g x hx),fun b hb ho=>?_,h.rest.trans h'.rest,fun b z hz=>h'.bs b z (h.bs b z hz)⟩
 ·rw[h'.cells b i (znc hi (h.imm b)),h.cells b i hi]
 ·obtain⟨a1,a2,a3⟩:=h.same b hb ho
  obtain⟨b1,b2,b3⟩:=h'.same b (znc hb h.size) (by rw[a2];exact ho)
  exact⟨b1.trans a1,b2.trans a2,b3.trans a3⟩
structure Ev (G : Gh) (w : World) (G' : Gh) (w' : World) : Prop where
 cells:∀b i,i<G.I b->w'.cell? ⟨b,i,none⟩=w.cell? ⟨b,i,none⟩
 imm:∀b,G.I b<=G'.I b
 mu:∀b g x,G.mu b g=some x->G'.mu b g=some x
 bs:∀b z,bsz w b=some z->bsz w' b=some z
theorem Fr.ev{G G':Gh}{w w':World}(h:Fr G w G' w'):Ev G w G' w':=⟨h.cells,h.imm,h.mu,h.bs⟩
theorem Ev.refl(G:Gh)(w:World):Ev G w G w:=(Fr.refl G w).ev
theorem RelR.ev{G G':Gh}{w w':World}(he:Ev G w G' w'){x:AV}{v:Value}(h:RelR G w x v):RelR G' w' x v:=by
 induction h with
 |sc v h=>exact .sc v h
 |sl0 sz a cap h=>exact .sl0 sz a cap h
 |sl sz cs n cap b o vs h1 h2 h3 h4 h5 h6 h7 hv _ ih=>
  refine .sl sz cs n cap b o vs h1 h2 h3 h4 (zn7 h5 (he.imm b)) h6 (fun k c hk=>?_) hv ih
  have hlt:k<vs.length:=(zm2.mp hk).1
  rw[he.cells b (o+k) qe]
  exact h7 k c hk
 |ptr b g off blk h=>exact .ptr b g off blk (he.mu _ _ _ h)
 |ms b g off n sz cap blk off' z h h' h'' h3 h4=>exact .ms b g off n sz cap blk off' z (he.mu _ _ _ h) h' h'' (he.bs _ _ h3) h4
 |fn f caps vs h0 h _ ih=>exact .fn f caps vs h0 h ih
 |map b blk h=>exact .map b blk (he.mu _ _ _ h)
 |fnb f bs vs h0 h _ ih=>exact .fnb f bs vs h0 h ih
theorem TokR.ev{G G':Gh}{w w':World}(he:Ev G w G' w'){sz:Nat}{cs:List AV}{v:Value}{b:Nat}(hb:w'.heap[b]?=w.heap[b]?) (hi:G'.I b=G.I b)
 (h:TokR G w sz cs v b):TokR G' w' sz cs v b:=by
 obtain⟨n,cap,arr,e,h1,h2,h3,h4,h5,h6,h7,h9⟩:=h.ex
 refine⟨⟨n,cap,arr,e,h1,h2,h3,h4,hi.trans h5,hb.trans h6,h7,fun k x hk=>?_⟩,h.vl⟩
 obtain⟨c,hc,hr⟩:=h9 k x hk
 exact⟨c,hc,hr.ev he⟩
def jf(G:Gh)(w:World)(G':Gh)(w':World)(p q:Ow):Prop:=∀b,G.Om b=p->w'.heap[b]?=w.heap[b]?/\G'.I b=G.I b/\G'.Om b=q
theorem yj.ev{G G':Gh}{w w':World}(he:Ev G w G' w'){p q:Ow}(hk:jf G w G' w' p q){x:AV}{v:Value}(h:yj G w p x v):yj G' w' q x v:=by
 cases x with
 |us sz cs=>
  obtain⟨b,hb,ht⟩:=h
  obtain⟨h1,h2,h3⟩:=hk b hb
  exact⟨b,h3,ht.ev he h1 h2⟩
 |agg _=>exact h
 |tup _=>exact h
 |sc _=>exact RelR.ev he h
 |sl _ _=>exact RelR.ev he h
 |ptr _ _ _=>exact RelR.ev he h
 |ms _ _ _ _ _=>exact RelR.ev he h
 |fn _ _=>exact RelR.ev he h
 |map _=>exact RelR.ev he h
theorem vq{G:Gh}{w:World}{p:Nat->Ow}{x:AV}{v:Value}(hx:∀cs,x≠ .agg cs):zS G w p x v=yj G w (p 0) x v:=by
 cases x<;>first|rfl|exact absurd rfl (hx _)
theorem Ys(x:AV):(∃cs,x= .agg cs)\/∀cs,x≠ .agg cs:=by
 cases x<;>first|exact .inl ⟨_,rfl⟩|exact .inr fun _ h=>by cases h
theorem zS.ev{G G':Gh}{w w':World}(he:Ev G w G' w'){p q:Nat->Ow}(hk:∀i,jf G w G' w' (p i) (q i)){x:AV}{v:Value}(h:zS G w p x v):zS G' w' q x v:=by
 rcases Ys x with⟨cs,rfl⟩|hx
 ·obtain⟨vs,h1,h2,h3⟩:=h
  exact⟨vs,h1,h2,fun i x c hx hc=>(h3 i x c hx hc).ev he (hk i)⟩
 ·rw[vq hx]at h⊢
  exact h.ev he (hk 0)
theorem zi.ev{G G':Gh}{w w':World}(he:Ev G w G' w'){k k':Nat}{s:SV}(hk:∀j i,jf G w G' w' (.sl k j i) (.sl k' j i))
 (hl:∀a g off x,s= .lp a g off->G.la a g=some x->G'.la a g=some x) {v:Value} (h:zi G w k s v):zi G' w' k' s v:=by
 cases s with
 |sv u=>exact h
 |av x=>exact zS.ev he (hk 0) h
 |tp l=>
  obtain⟨vs,h1,h2,h3⟩:=h
  exact⟨vs,h1,h2,fun j x c hx hc=>(h3 j x c hx hc).ev he (hk j)⟩
 |lp a g off=>
  obtain⟨blk,h1,h2⟩:=h
  exact⟨blk,hl a g off blk rfl h1,h2⟩
 |rv cs=>
  obtain⟨b,o,vs,h1,h2,h3,h4,h5⟩:=h
  refine⟨b,o,vs,h1,h2,fun i hi=>znc (h3 i hi) (he.imm b),fun k c hk=>?_,fun k x c hx hc=>(h5 k x c hx hc).ev he⟩
  have hlt:k<vs.length:=(zm2.mp hk).1
  rw[he.cells b (o+k) (h3 k qe)]
  exact h4 k c hk
 |un=>trivial
 |ud=>exact h
theorem xS.ev{G G':Gh}{w w':World}(he:Ev G w G' w'){blk:Nat}{p q:Nat->Ow}{cs:List AV}(hb:w'.heap[blk]?=w.heap[blk]?)
 (hk:∀i,jf G w G' w' (p i) (q i)) (h:xS G w blk p cs):xS G' w' blk q cs:=by
 obtain⟨arr,e,h1,h2,h3⟩:=h
 exact⟨arr,e,hb.trans h1,h2,fun i x c hx hc=>(h3 i x c hx hc).ev he (hk i)⟩
theorem Vm.ev{G G':Gh}{w w':World}(he:Ev G w G' w'){x:AV}{v:Value}(h:Vm G w x v):Vm G' w' x v:=by
 cases x with
 |agg cs=>
  obtain⟨vs,h1,h2,h3⟩:=h
  exact⟨vs,h1,h2,fun i x c hx hc=>(h3 i x c hx hc).ev he⟩
 |tup _=>exact RelR.ev he h
 |us _ _=>exact RelR.ev he h
 |sc _=>exact RelR.ev he h
 |sl _ _=>exact RelR.ev he h
 |ptr _ _ _=>exact RelR.ev he h
 |ms _ _ _ _ _=>exact RelR.ev he h
 |fn _ _=>exact RelR.ev he h
 |map _=>exact RelR.ev he h
theorem qax.ev{G G':Gh}{w w':World}(he:Ev G w G' w'){x:AV}{e:MapEntry}(h:qax G w x e):qax G' w' x e:=by
 unfold qax at h⊢
 split at h
 ·exact⟨h.1,h.2.1,h.2.2.ev he⟩
 ·exact h.elim
theorem qk6.ev{G G':Gh}{w w':World}(he:Ev G w G' w'){blk:Nat}{cs:List AV}(hb:w'.heap[blk]?=w.heap[blk]?) (h:qk6 G w blk cs):qk6 G' w' blk cs:=by
 obtain⟨es,clock,h1,h2,h3⟩:=h
 exact⟨es,clock,hb.trans h1,h2,fun i x e hx hc=>(h3 i x e hx hc).ev he⟩
theorem ObR.ev{G G':Gh}{w w':World}(he:Ev G w G' w'){blk:Nat}{p q:Nat->Ow}{g:Nat}{cs:List AV}(hb:w'.heap[blk]?=w.heap[blk]?)
 (hk:∀i,jf G w G' w' (p i) (q i)) (h:ObR G w blk p g cs):ObR G' w' blk q g cs:=by
 cases g with
 |zero=>exact xS.ev he hb hk h
 |succ g=>exact qk6.ev he hb h
structure EvL (G : Gh) (w : World) (G' : Gh) (w' : World) : Prop where
 cells:∀b i,i<G.I b->w'.cell? ⟨b,i,none⟩=w.cell? ⟨b,i,none⟩
 imm:∀b,G.I b<=G'.I b
theorem RelR.evl{G G':Gh}{w w':World}(he:EvL G w G' w'){x:AV}{v:Value}(h:RelR G w x v)(hv:vl x=true):RelR G' w' x v:=by
 induction h with
 |sc v h=>exact .sc v h
 |sl0 sz a cap h=>exact .sl0 sz a cap h
 |sl sz cs n cap b o vs h1 h2 h3 h4 h5 h6 h7 hvl _ ih=>
  refine .sl sz cs n cap b o vs h1 h2 h3 h4 (zn7 h5 (he.imm b)) h6 (fun k c hk=>?_) hvl (fun k x c hx hc=>ih k x c hx hc (hvl x (zm6 hx)))
  have hlt:k<vs.length:=(zm2.mp hk).1
  rw[he.cells b (o+k) qe]
  exact h7 k c hk
 |ptr b g off blk h=>cases hv
 |ms b g off n sz cap blk off' z h h' h'' h3 h4=>cases hv
 |fn f caps vs h0 h h' ih=>
  have:caps=[]:=by simpa[AI.vl]using hv
  subst this
  exact .fn f [] vs h0 h (by intro k x c hx;simp at hx)
 |map b blk h=>cases hv
 |fnb f bs vs h0 h h' ih=>
  have:bs=[]:=by simpa[AI.vl]using hv
  exact absurd this h0
theorem TokR.evl{G G':Gh}{w w':World}(he:EvL G w G' w'){sz:Nat}{cs:List AV}{v:Value}{b:Nat}(hb:w'.heap[b]?=w.heap[b]?) (hi:G'.I b=G.I b)
 (h:TokR G w sz cs v b):TokR G' w' sz cs v b:=by
 obtain⟨n,cap,arr,e,h1,h2,h3,h4,h5,h6,h7,h9⟩:=h.ex
 refine⟨⟨n,cap,arr,e,h1,h2,h3,h4,hi.trans h5,hb.trans h6,h7,fun k x hk=>?_⟩,h.vl⟩
 obtain⟨c,hc,hr⟩:=h9 k x hk
 exact⟨c,hc,hr.evl he (h.vl x (zm6 hk))⟩
theorem yj.evl{G G':Gh}{w w':World}(he:EvL G w G' w'){p q:Ow}(hk:jf G w G' w' p q){x:AV}{v:Value}(h:yj G w p x v)(hv:vl x=true):yj G' w' q x v:=by
 cases x with
 |us sz cs=>
  obtain⟨b,hb,ht⟩:=h
  obtain⟨h1,h2,h3⟩:=hk b hb
  exact⟨b,h3,ht.evl he h1 h2⟩
 |agg _=>exact h
 |tup _=>exact h
 |sc _=>exact RelR.evl he h hv
 |sl _ _=>exact RelR.evl he h hv
 |ptr _ _ _=>exact RelR.evl he h hv
 |ms _ _ _ _ _=>exact RelR.evl he h hv
 |fn _ _=>exact RelR.evl he h hv
 |map _=>exact RelR.evl he h hv
theorem zS.evl{G G':Gh}{w w':World}(he:EvL G w G' w'){p q:Nat->Ow}(hk:∀i,jf G w G' w' (p i) (q i)){x:AV}{v:Value}(h:zS G w p x v)(hv:vlF x=true):zS G' w' q x v:=by
 rcases Ys x with⟨cs,rfl⟩|hx
 ·obtain⟨vs,h1,h2,h3⟩:=h
  exact⟨vs,h1,h2,fun i x c hx hc=>(h3 i x c hx hc).evl he (hk i) (znx.mp hv x (zm6 hx))⟩
 ·rw[vq hx]at h⊢
  have hv':vl x=true:=by
   cases x<;>first|exact hv|exact absurd rfl (hx _)
  exact h.evl he (hk 0) hv'
theorem Ev.evl{G G':Gh}{w w':World}(h:Ev G w G' w'):EvL G w G' w':=⟨h.cells,h.imm⟩
theorem zP{w:World}{b:Nat}{arr:Array Value}{e:TypeId}{fz:Nat×Nat}(h:w.heap[b]?=some (.cells arr e fz)) (i:Nat):w.cell? ⟨b,i,none⟩=arr[i]?:=by
 simp[World.cell?,h]
theorem qF{α β:Type}(f:α->β)(l:List α)(i:Nat)(y:β)(h:(l.map f)[i]?=some y):∃x,l[i]?=some x/\f x=y:=by
 rw[zne]at h
 cases hx:l[i]? with
 |none=>rw[hx]at h;cases h
 |some x=>rw[hx]at h;cases h;exact⟨x,rfl,rfl⟩
theorem zA{α β:Type}{l:List α}{m:List β}(h:l.length=m.length){i:Nat}{x:α}(hx:l[i]?=some x):∃y,m[i]?=some y:=by
 have:i<m.length:=by rw[<-h];exact(zm2.mp hx).1
 exact⟨m[i],zm0 this⟩
theorem TokR.ro{G:Gh}{w:World}{sz:Nat}{cs:List AV}{v:Value}{b:Nat}(h:TokR G w sz cs v b):RelR G w (.sl sz cs) v:=by
 obtain⟨n,cap,arr,e,rfl,h2,h3,h4,h5,h6,h7,h9⟩:=h.ex
 by_cases hn:n=0
 ·subst hn
  have:cs=[]:=zm9.mp (by simpa using h3)
  subst this
  exact .sl0 sz _ cap h2
 ·have hle:cs.length<=arr.size:=by rw[h3,h7];exact zng sz h4
  refine .sl sz cs n cap b 0 (arr.toList.take cs.length) h2 qe h3 h4 qe qi (fun k c hk=>?_) h.vl (fun k x c hx hc=>?_)
  ·rw[zm4,zP h6]
   rw[zm8]at hk
   split at hk
   ·simpa using hk
   ·cases hk
  ·obtain⟨c',hc',hr⟩:=h9 k x hx
   rw[zm8]at hc
   split at hc
   ·have:arr[k]?=some c:=by simpa using hc
    rw[this]at hc';cases hc';exact hr
   ·cases hc
theorem yj.ro{G:Gh}{w:World}{p:Ow}{x:AV}{v:Value}(h:yj G w p x v):RelR G w (ro1 x) v:=by
 cases x with
 |us sz cs=>obtain⟨b,_,ht⟩:=h;exact ht.ro
 |agg _=>exact h.elim
 |tup _=>exact h.elim
 |sc _=>exact h
 |sl _ _=>exact h
 |ptr _ _ _=>exact h
 |ms _ _ _ _ _=>exact h
 |fn _ _=>exact h
 |map _=>exact h
theorem RelR.c{G:Gh}{w:World}{x:AV}{v:Value}(h:RelR G w x v)(p:Ow):yj G w p x v:=by
 cases h with
 |sc v h=>exact .sc v h
 |sl0 sz a cap h=>exact .sl0 sz a cap h
 |sl sz cs n cap b o vs h1 h2 h3 h4 h5 h6 h7 h8 h9=>exact RelR.sl sz cs n cap b o vs h1 h2 h3 h4 h5 h6 h7 h8 h9
 |ptr b g off blk h=>exact RelR.ptr b g off blk h
 |ms b g off n sz cap blk off' z h h' h'' h3 h4=>exact RelR.ms b g off n sz cap blk off' z h h' h'' h3 h4
 |fn f caps vs h0 h h'=>exact RelR.fn f caps vs h0 h h'
 |map b blk h=>exact RelR.map b blk h
 |fnb f bs vs h0 h h'=>exact RelR.fnb f bs vs h0 h h'
theorem Wo{G:Gh}{w:World}{x:AV}{v:Value}(h:RelR G w x v):ro1 x=x:=by cases h<;>rfl
theorem RelR.ne_agg{G:Gh}{w:World}{x:AV}{v:Value}(h:RelR G w x v):∀cs,x≠ .agg cs:=by cases h<;>intro cs h<;>cases h
theorem yj.ne_agg{G:Gh}{w:World}{p:Ow}{x:AV}{v:Value}(h:yj G w p x v):∀cs,x≠ .agg cs:=by
 rintro cs rfl;exact h
theorem qiu{x:AV}(hx:∀cs,x≠ .agg cs):ro x=ro1 x:=by
 cases x<;>first|rfl|exact absurd rfl (hx _)
theorem yj.v{G:Gh}{w:World}{p:Nat->Ow}{x:AV}{v:Value}(h:yj G w (p 0) x v):zS G w p x v:=by
 rw[vq h.ne_agg];exact h
theorem zS.ro{G G':Gh}{w w':World}(he:Ev G w G' w'){p:Nat->Ow}(q:Nat->Ow){x:AV}{v:Value}(h:zS G w p x v):zS G' w' q (AI.ro x) v:=by
 rcases Ys x with⟨cs,rfl⟩|hx
 ·obtain⟨vs,h1,h2,h3⟩:=h
  refine⟨vs,h1,by simpa using h2,fun i x c hx hc=>?_⟩
  obtain⟨y,hy,rfl⟩:=qF _ _ _ _ hx
  exact((h3 i y c hy hc).ro.ev he).c _
 ·rw[vq hx]at h
  rw[qiu hx]
  exact((h.ro.ev he).c (q 0)).v
theorem zi.ro{G G':Gh}{w w':World}(he:Ev G w G' w'){k:Nat}(k':Nat){s:SV}{v:Value}
 (hl:∀a g off x,s= .lp a g off->G.la a g=some x->G'.la a g=some x) (h:zi G w k s v):zi G' w' k' s.ro v:=by
 cases s with
 |sv u=>exact h
 |av x=>exact zS.ro he _ h
 |tp l=>
  obtain⟨vs,h1,h2,h3⟩:=h
  refine⟨vs,h1,by simpa using h2,fun j x c hx hc=>?_⟩
  obtain⟨y,hy,rfl⟩:=qF _ _ _ _ hx
  exact(h3 j y c hy hc).ro he _
 |lp a g off=>
  obtain⟨blk,h1,h2⟩:=h
  exact⟨blk,hl a g off blk rfl h1,h2⟩
 |rv cs=>
  obtain⟨b,o,vs,h1,h2,h3,h4,h5⟩:=h
  refine⟨b,o,vs,h1,h2,fun i hi=>znc (h3 i hi) (he.imm b),fun k c hk=>?_,fun k x c hx hc=>(h5 k x c hx hc).ev he⟩
  have hlt:k<vs.length:=(zm2.mp hk).1
  rw[he.cells b (o+k) (h3 k qe)]
  exact h4 k c hk
 |un=>trivial
 |ud=>exact h
theorem zG(l:Slots)(d:Nat)(s:SV)(k:Nat):qS ((d,s)::l) k=if d=k then s else qS l k:=by
 simp only[qS]
 by_cases e:d=k
 ·subst e;simp[Xv]
 ·simp[qhf e,e]
theorem vK(l:Boxes)(d g:Nat)(cs:List AV)(k:Nat):jv (VV l d g cs) k=if d=k then some (g,cs)else jv l k:=by
 simp only[VV,jv]
 by_cases e:d=k
 ·subst e;simp[Xv]
 ·simp[qhf e,e]
theorem Yx(a:Act)(d:Nat)(v:Value)(hd:d<a.tmps.size)(k:Nat):((a.put (some d) v).tmps).getD k undef=if d=k then v else a.tmps.getD k undef:=by
 simp only[Act.put]
 by_cases e:d=k
 ·subst e
  simp[Array.getD,hd]
 ·simp only[Array.getD_eq_getD_getElem?,e,if_false]
  rw[Array.getElem?_setIfInBounds_ne e]
theorem zJ(a:Act)(d:Option Nat)(v:Value):(a.put d v).tmps.size=a.tmps.size:=by
 cases d<;>simp[Act.put]
theorem ze(a:Act)(d:Option Nat)(v:Value):(a.put d v).defers=a.defers:=by
 cases d<;>rfl
theorem zdo(t:Nat)(l:Slots)(k:Nat):qS (dn t l) k=if t=k then(qS l k).ro else qS l k:=by
 unfold dn
 rw[zG]
 by_cases e:t=k
 ·subst e;simp
 ·simp[e]
theorem zee(x:AV):ro1 (ro1 x)=ro1 x:=by cases x<;>rfl
theorem ro_ro(x:AV):ro (ro x)=ro x:=by
 cases x with
 |agg cs=>simp[ro,zq1,Function.comp_def,zee]
 |_=>rfl
theorem SV.ro_ro(s:SV):s.ro.ro=s.ro:=by
 cases s with
 |av x=>simp[SV.ro,AI.ro_ro]
 |tp l=>simp[SV.ro,zq1,Function.comp_def,AI.ro_ro]
 |_=>rfl
theorem js(ts:List Nat):∀(l:Slots) (k:Nat),qS (zb ts l) k=if k∈ts then(qS l k).ro else qS l k:=by
 induction ts with
 |nil=>intro l k;simp[zb]
 |cons t ts ih=>
  intro l k
  have:zb (t::ts) l=zb ts (dn t l):=rfl
  rw[this,ih,zdo]
  by_cases h1:t=k
  ·subst h1
   by_cases h2:t∈ts<;>simp[h2,SV.ro_ro]
  ·have h1':¬k=t:=fun h=>h1 h.symm
   by_cases h2:k∈ts<;>simp[h1,h1',h2]
theorem KL{s:SV}{k g off:Nat}:s.ro= .lp k g off↔s= .lp k g off:=by
 cases s<;>simp[SV.ro]
def Gh.rel(G:Gh)(f:Ow->Ow):Gh:={G with Om:=fun b=>f (G.Om b)}
structure Rho (f : Ow → Ow) : Prop where
 fr:f .fr= .fr
 oth:f .oth= .oth
 box:∀p k g,f p= .box k g->p= .box k g
 obj:∀p k g,f p= .obj k g->p= .obj k g
theorem Fr.rel{G:Gh}{w:World}{f:Ow->Ow}(hf:Rho f):Fr G w (G.rel f) w:=
 ⟨zmx _,fun _ _ _=>rfl,fun _=>zmx _,fun _ _ _ h=>h,fun b _ ho=>⟨rfl,by
  simp only[Gh.rel]
  rcases ho with h|h<;>rw[h]
  ·exact hf.fr
  ·exact hf.oth,rfl⟩,Kr.refl w,fun _ _ h=>h⟩
def DOk(d:TypeDesc)(k:TK):Prop:=
 match k with
 | .sc=>∀x,(d matches .struct _| .array _ _| .slice _)=x->x=false
 | .ot=>∀x,(d matches .struct _| .array _ _| .slice _)=x->x=false
 | .tu=>True
 | .sl e=>d= .slice e
 | .mp q e=>d= .map q e
 | .ar n e=>d= .array n e
 | .st fs=>∃fields:Array Field,d= .struct fields/\fields.toList.map (fun f=>(f.offset,f.type))=fs
def TOk(P:Program)(t:TypeId)(ti:TI):Prop:=
 (qoc ti=true->P.underlying t=some (.int .u8))/\(qc7 ti=true->P.underlying t=some .string)/\
 ∃info d,P.info? t=some info/\P.underlying t=some d/\DOk d ti.k/\info.bytes=ti.bytes/\
  (JC ti.k=false->info.size=ti.size/\∃z,info.zero=some z/\z.cells.toList=ti.zero/\ti.zero.length=ti.size/\∀v∈ti.zero,v.oneCell'=true)
structure Ok (c : Cx) : Prop where
 tt:∀t ti,c.tt t=some ti->TOk c.P t ti
 ti:∀t ti,c.tt t=some ti->qqr ti=true->∃k,c.P.underlying t=some (.int k)
 tb:∀t ti,c.tt t=some ti->qqs ti=true->c.P.underlying t=some .bool
 tp:∀t ti,c.tt t=some ti->zfo ti=true->∃e,c.P.underlying t=some (.pointer e)
 zf:∀t ti,c.tt t=some ti->JC ti.k=false->∀info z,c.P.info? t=some info->info.zero=some z->(xD ti.k=true->∃vs,z= .agg vs)/\(xD ti.k=false->z.oneCell'=true)
 F:∀f fn,c.F f=some fn->c.P.funcs[f]?=some fn
 nm:∀f fn,c.F f=some fn->(fn.name== "runtime.NumGoroutine")=false
 X:∀f fn vs v,c.F f=some fn->fn.body=none->c.X f vs=some v->∀w,(callFunc f vs.toArray).run c.P w= .ok (.value v) w
 mixed:c.P.follows .mixedOrders=true
theorem qz{c:Cx}{t:TypeId}{ti:TI}(h:c.tn t=some ti):c.tt t=some ti/\JC ti.k=false:=by
 unfold Cx.tn at h
 split at h
 ·rename_i ti' h'
  cases hk:JC ti'.k with
  |true=>simp[hk]at h
  |false=>simp[hk]at h;subst h;exact⟨h',hk⟩
 ·cases h
section
variable {P:Program}{t:TypeId}{ti:TI}{w:World}
theorem TOk.sizeOf(h:TOk P t ti)(hk:JC ti.k=false)(w:World):(sizeOf t).run P w= .ok ti.size w:=by
 obtain⟨_,_,info,d,h1,h2,h3,h4,h5⟩:=h
 rw[run_sizeOf w h1]
 have:P.cellsOf t=ti.size:=by simp[Program.cellsOf,h1,(h5 hk).1]
 rw[this]
theorem TOk.zero(h:TOk P t ti)(hk:JC ti.k=false):∃z,z.cells.toList=ti.zero/\ti.zero.length=ti.size/\(∀v∈ti.zero,v.oneCell'=true)/\∀w,(zeroValue t).run P w= .ok z w:=by
 obtain⟨_,_,info,d,h1,h2,h3,h4,h5⟩:=h
 obtain⟨h6,z,h7,h8,h9,h10⟩:=h5 hk
 exact⟨z,h8,h9,h10,fun w=>by simp[zeroValue,typeInfo,h1,h7]⟩
theorem TOk.isAgg(h:TOk P t ti)(hk:JC ti.k=false)(w:World):(Go.isAgg t).run P w= .ok (xD ti.k) w:=by
 obtain⟨_,_,info,d,h1,h2,h3,h4,h5⟩:=h
 unfold Go.isAgg
 simp only[Sem.run_bind,run_underlying h2,Result.andThen_ok]
 cases hti:ti.k with
 |sc=>
  rw[hti]at h3
  cases d<;>first|rfl|(have:=h3 _ rfl;cases this)
 |ot=>
  rw[hti]at h3
  cases d<;>first|rfl|(have:=h3 _ rfl;cases this)
 |tu=>rw[hti]at hk;cases hk
 |sl e=>rw[hti]at h3;cases h3;rfl
 |mp q e=>rw[hti]at h3;cases h3;rfl
 |ar n e=>rw[hti]at h3;cases h3;rfl
 |st fs=>rw[hti]at h3;obtain⟨fields,rfl,_⟩:=h3;rfl
theorem TOk.bytes(h:TOk P t ti):∃info,P.info? t=some info/\info.bytes=ti.bytes:=by
 obtain⟨_,_,info,d,h1,h2,h3,h4,h5⟩:=h
 exact⟨info,h1,h4⟩
theorem TOk.und(h:TOk P t ti):∃d,P.underlying t=some d/\DOk d ti.k:=by
 obtain⟨_,_,info,d,h1,h2,h3,h4,h5⟩:=h
 exact⟨d,h2,h3⟩
end
theorem RelR.one{G:Gh}{w:World}{x:AV}{v:Value}(h:RelR G w x v):v.oneCell'=true:=by
 cases h<;>first|rfl|assumption
theorem yj.one{G:Gh}{w:World}{p:Ow}{x:AV}{v:Value}(h:yj G w p x v):v.oneCell'=true:=by
 cases x with
 |us sz cs=>
  obtain⟨b,_,ht⟩:=h
  obtain⟨n,cap,arr,e,rfl,_⟩:=ht.ex
  rfl
 |agg _=>exact h.elim
 |tup _=>exact h.elim
 |sc _=>exact RelR.one h
 |sl _ _=>exact RelR.one h
 |ptr _ _ _=>exact RelR.one h
 |ms _ _ _ _ _=>exact RelR.one h
 |fn _ _=>exact RelR.one h
 |map _=>exact RelR.one h
theorem Kn{v:Value}(h:v.oneCell'=true):v.cells=#[v]:=by cases v<;>first|rfl|cases h
def Vl(G:Gh)(w:World)(p:Nat->Ow)(l:List AV)(vs:List Value):Prop:=
 l.length=vs.length/\∀(i:Nat) (x:AV) (c:Value),l[i]?=some x->vs[i]?=some c->yj G w (p i) x c
theorem Vl.ev{G G':Gh}{w w':World}(he:Ev G w G' w'){p q:Nat->Ow}(hk:∀i,jf G w G' w' (p i) (q i)){l:List AV}{vs:List Value}(h:Vl G w p l vs):Vl G' w' q l vs:=
 ⟨h.1,fun i x c hx hc=>(h.2 i x c hx hc).ev he (hk i)⟩
theorem Vl.one{G:Gh}{w:World}{p:Nat->Ow}{l:List AV}{vs:List Value}(h:Vl G w p l vs):∀v∈vs,v.oneCell'=true:=by
 intro v hv
 obtain⟨i,hi,rfl⟩:=zpf hv
 have hl:i<l.length:=by rw[h.1];exact hi
 exact(h.2 i l[i] vs[i] (zm0 hl) (zm0 hi)).one
theorem zS.cells{G:Gh}{w:World}{p:Nat->Ow}{x:AV}{v:Value}{n:Nat}{l:List AV}(h:zS G w p x v)(hl:qn n x=some l):
 l.length=n/\Vl G w p l v.cells.toList:=by
 rcases Ys x with⟨cs,rfl⟩|hx
 ·obtain⟨vs,rfl,h2,h3⟩:=h
  simp only[qn]at hl
  split at hl
  ·cases hl
   rename_i hn
   exact⟨hn,by simpa[Value.cells]using h2,fun i x c hx hc=>h3 i x c hx (by simpa[Value.cells]using hc)⟩
  ·cases hl
 ·rw[vq hx]at h
  have h1:qn n x=if n=1 then some [x]else none:=by
   cases x<;>first|rfl|exact absurd rfl (hx _)|exact h.elim
  rw[h1]at hl
  split at hl
  ·cases hl
   rename_i hn
   rw[Kn h.one]
   refine⟨by simp[hn],qg,fun i x c hx hc=>?_⟩
   match i,hx,hc with
   |0,hx,hc=>simp at hx hc;subst hx;subst hc;exact h
   |i+1,hx,hc=>simp at hx
  ·cases hl
theorem zi.valC{G:Gh}{w:World}{k:Nat}{s:SV}{v:Value}{n:Nat}{l:List AV}(h:zi G w k s v)(hl:valC n s=some l):
 l.length=n/\Vl G w (.sl k 0 ·) l v.cells.toList:=by
 cases s with
 |sv u=>
  obtain⟨rfl,h1⟩:=h
  simp only[AI.valC]at hl
  split at hl
  ·cases hl
   rename_i hn
   rw[Kn h1]
   refine⟨by simp[hn],qg,fun i x c hx hc=>?_⟩
   match i,hx,hc with
   |0,hx,hc=>simp at hx hc;subst hx;subst hc;exact .sc _ h1
   |i+1,hx,hc=>simp at hx
  ·cases hl
 |av x=>exact zS.cells h hl
 |lp _ _ _=>cases hl
 |rv _=>cases hl
 |tp _=>cases hl
 |un=>cases hl
 |ud=>cases hl
end Go.Proofs.YtmajcennjgjlnaaGreat.AI
