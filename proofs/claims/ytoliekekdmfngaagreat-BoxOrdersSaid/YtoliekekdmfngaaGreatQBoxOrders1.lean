/- Texts that the proof of BoxOrders rests on, part 1. -/
import Derived.WalkKit
import Derived.KernelRfl
import Derived.Laws.CopyRow
namespace Go.Proofs.YtoliekekdmfngaaGreat.AI
open Go
theorem bsm {A B : Type} {x : Option A} {f : A → Option B} {b : B} (h : x.bind f = some b) : ∃ a, x = some a ∧ f a = some b := Option.bind_eq_some_iff.mp h
theorem qc{p:Prop}(h:p:=by omega):p:=h
theorem qf{p:Prop}(h:p:=by simp):p:=h
theorem qg{p:Prop}(h:p:=by decide):p:=h
theorem qh{p:Prop}(h:p:=by simp;omega):p:=h
abbrev zgh:=@Option.bind_some
abbrev zgi:=@List.length_append
abbrev zgj:=@Option.bind_assoc
abbrev zgk:=@List.length_cons
abbrev zgl:=@List.getElem?_eq_getElem
abbrev zgm:=@Nat.le_refl
abbrev zgn:=@List.mem_cons
abbrev zgo:=@List.mem_of_getElem?
abbrev zgp:=@List.getD_eq_getElem?_getD
abbrev zgq:=@List.getElem?_eq_some_iff
abbrev zgr:=@List.pairwise_cons
abbrev zgs:=@List.take_succ_cons
abbrev zgt:=@List.getElem?_take
abbrev zgu:=@Int.toNat_natCast
abbrev zgv:=@List.getElem?_append_right
abbrev zgw:=@List.append_assoc
abbrev zgx:=@List.getElem?_map
abbrev zgy:=@Option.some.inj
abbrev zgz:=@Nat.mul_le_mul_right
abbrev zg0:=@List.getElem?_append_left
abbrev zg1:=@List.mem_append
abbrev zg2:=@List.nil_append
abbrev zg3:=@List.length_singleton
abbrev zg4:=@List.take_of_length_le
abbrev zg5:=@Nat.lt_of_lt_of_le
abbrev zg6:=@List.mem_map
abbrev zg7:=@List.size_toArray
abbrev zg8:=@BitVec.toNat_ofInt
abbrev zg9:=@List.all_eq_true
abbrev zha:=@Nat.zero_add
abbrev zhb:=@List.getElem?_drop
abbrev zhc:=@List.map_cons
abbrev zhd:=@List.append_nil
abbrev zhe:=@Nat.mul_comm
abbrev zhf:=@Nat.zero_le
abbrev zhg:=@List.getElem?_eq_none
abbrev zhh:=@List.length_nil
abbrev zhi:=@List.drop_eq_nil_of_le
abbrev zhj:=@List.length_take
abbrev zhk:=@List.length_eq_zero_iff
abbrev zhl:=@List.mem_of_mem_take
abbrev zhm:=@Bool.false_eq_true
abbrev zhn:=@List.mem_singleton
abbrev zho:=@Array.length_toList
abbrev zhp:=@List.drop_eq_getElem_cons
abbrev zhq:=@Nat.mod_eq_of_lt
abbrev zhr:=@Int.fdiv_eq_ediv_of_nonneg
abbrev zhs:=@Nat.testBit_div_two_pow
abbrev zht:=@Nat.testBit_mod_two_pow
abbrev zhu:=@Nat.mul_one
abbrev zhv:=@List.length_map
abbrev zhw:=@Nat.le_trans
abbrev zhx:=@List.getElem_mem
abbrev zhy:=@Array.getElem?_append_left
abbrev zhz:=@Nat.mul_le_mul_left
abbrev zh0:=@Nat.mul_le_mul
abbrev zh1:=@Nat.lt_succ_self
abbrev zh2:=@List.pairwise_append
abbrev zh3:=@BitVec.ofInt_natCast
abbrev zh4:=@Array.getElem?_eq_some_iff
abbrev zh5:=@List.length_pos_iff
abbrev zh6:=@Int.toNat_of_nonneg
abbrev zh7:=@Nat.zero_mul
abbrev zh8:=@Nat.ne_of_lt
abbrev zh9:=@Bool.and_eq_true
abbrev zia:=@List.eq_of_mem_replicate
abbrev zib:=@List.cons_append
abbrev zic:=@Nat.mul_assoc
abbrev zid:=@List.mem_cons_of_mem
abbrev zie:=@Nat.pow_le_pow_right
abbrev zif:=@Nat.eq_of_testBit_eq
abbrev zig:=@Int.ofNat_eq_natCast
abbrev zih:=@List.getElem?_cons_succ
abbrev zii:=@Array.size_append
abbrev zij:=@Option.map_some
abbrev zik:=@Nat.two_pow_add_eq_or_of_lt
abbrev zil:=@List.replicate_succ
abbrev zim:=@Nat.add_zero
abbrev zin:=@List.map_append
abbrev zio:=@Nat.min_eq_left
abbrev zip:=@Nat.and_two_pow_sub_one_eq_mod
abbrev ziq:=@Nat.add_assoc
abbrev zir:=@List.getElem?_cons_zero
abbrev zis:=@List.drop_succ_cons
abbrev zit:=@BitVec.toNat_and
abbrev ziu:=@Nat.div_div_eq_div_mul
abbrev ziv:=@List.map_nil
abbrev ziw:=@Nat.pow_succ
abbrev zix:=@BitVec.toNat_ofNat
abbrev ziy:=@Int.tdiv_eq_ediv_of_nonneg
abbrev ziz:=@List.ext_getElem?
abbrev zi0:=@List.mem_of_mem_drop
abbrev zi1:=@List.mem_or_eq_of_mem_set
abbrev zi2:=@Nat.testBit_or
abbrev zi3:=@Nat.lt_or_ge
abbrev zi4:=@List.length_drop
abbrev zi5:=@List.perm_middle
abbrev zi6:=@List.getElem?_range
abbrev zi7:=@Nat.testBit_two_pow
abbrev zi8:=@Nat.le_mul_of_pos_right
abbrev zi9:=@Nat.eq_zero_or_pos
abbrev zja:=@Int.natCast_nonneg
abbrev zjb:=@Nat.two_pow_pos
abbrev zjc:=@Nat.lt_of_le_of_lt
abbrev zjd:=@Int.natCast_add
abbrev zje:=@Int.natCast_one
abbrev zjf:=@Option.map_eq_some_iff
abbrev zjg:=@List.getElem?_toArray
abbrev zjh:=@List.drop_zero
abbrev zji:=@List.take_left
abbrev zjj:=@Nat.testBit_two_pow_mul_add
abbrev zjk:=@List.replicate_succ'
abbrev zjl:=@Nat.pow_lt_pow_right
abbrev zjm:=@Nat.le_of_mul_le_mul_right
abbrev zjn:=@List.map_take
abbrev zjo:=@Bool.true_and
abbrev zjp:=@Nat.pow_add
abbrev zjq:=@List.getElem_of_mem
abbrev zjr:=@Nat.div_mul_le_self
abbrev zjs:=@Array.getElem?_eq_getElem
abbrev zjt:=@Nat.testBit_and
abbrev zju:=@List.getElem?_take_of_lt
abbrev zjv:=@List.mem_range
abbrev zjw:=@Nat.add_eq
abbrev zjx:=@List.take_add_one
abbrev zjy:=@Option.some.injEq
abbrev zjz:=@List.getElem?_set_self
abbrev zj0:=@Nat.add_mul
abbrev zj1:=@Nat.mul_pos
abbrev zj2:=@Array.getElem?_eq_none
abbrev zj3:=@Nat.testBit_lt_two_pow
abbrev zj4:=@List.take_nil
abbrev zj5:=@List.sum_cons
abbrev zj6:=@Nat.div_eq_of_lt
abbrev zj7:=@Nat.testBit_eq_decide_div_mod_eq
abbrev zj8:=@Nat.and_le_right
abbrev zj9:=@Array.getElem?_modify
abbrev zka:=@Nat.le_div_iff_mul_le
abbrev zkb:=@List.take_append_drop
abbrev zkc:=@List.getElem?_set_ne
abbrev zkd:=@Nat.mod_lt
abbrev zke:=@Array.eq_empty_of_size_eq_zero
abbrev zkf:=@Array.ext'
abbrev zkg:=@BitVec.toNat_or
abbrev zkh:=@Nat.div_le_self
abbrev zki:=@Array.getElem?_push
abbrev zkj:=@List.take_take
abbrev zkk:=@List.drop_left
abbrev zkl:=@Nat.or_comm
abbrev zkm:=@Nat.pos_of_ne_zero
abbrev zkn:=@Int.emod_lt_of_pos
abbrev zko:=@Function.comp_def
abbrev zkp:=@List.flatten_cons
abbrev zkq:=@List.getElem?_set
abbrev zkr:=@Int.lt_trichotomy
abbrev zks:=@Nat.or_lt_two_pow
abbrev zkt:=@List.map_map
end Go.Proofs.YtoliekekdmfngaaGreat.AI
namespace Go.Proofs.YtoliekekdmfngaaGreat.AI
open Go
set_option linter.unusedVariables false
set_option linter.unusedSimpArgs false
set_option maxRecDepth 100000
set_option maxHeartbeats 0
inductive AV where
 |sc (v:Value)
 |sl (sz:Nat) (cs:List AV)
 |us (sz:Nat) (cs:List AV)
 |agg (cs:List AV)
 |tup (vs:List AV)
 |ptr (b g off:Nat)
 |ms (b g off len sz:Nat)
 |fn (f:FuncId) (cap:List AV)
 |map (b:Nat)
structure Hp where
 next:Nat
 get:Nat->Option (Nat×List AV)
def hp0:Hp:=⟨0,fun _=>none⟩
def Hp.rd(h:Hp)(b g:Nat):Option (List AV):=(h.get b).bind fun p=>if p.1=g/\g=0 then some p.2 else none
def Hp.rdM(h:Hp)(b:Nat):Option (List AV):=(h.get b).bind fun p=>if p.1=1 then some p.2 else none
def Hp.del(h:Hp)(b:Nat):Hp:=⟨h.next,fun x=>if x=b then none else h.get x⟩
def Hp.newM(h:Hp):Hp:=⟨h.next+1,fun x=>if x=h.next then some (1,[])else h.get x⟩
def Hp.put(h:Hp)(b g:Nat)(cs:List AV):Hp:=⟨h.next,fun x=>if x=b then some (g,cs)else h.get x⟩
def Hp.new(h:Hp)(cs:List AV):Hp:=⟨h.next+1,fun x=>if x=h.next then some (0,cs)else h.get x⟩
inductive SV where
 |sv (v:Value)
 |av (x:AV)
 |lp (k g off:Nat)
 |rv (cs:List AV)
 |tp (l:List AV)
 |un
 |ud
inductive TK where
 |sc|ot|tu
 |sl (e:TypeId)
 |mp (k e:TypeId)
 |ar (n:Nat) (e:TypeId)
 |st (fs:List (Nat×TypeId))
structure TI where
 k:TK
 size:Nat
 bytes:Nat
 zero:List Value
abbrev Boxes:=List (Nat×Nat×List AV)
abbrev Slots:=List (Nat×SV)
structure St where
 sl:Slots
 bx:Boxes
 hp:Hp
structure Cx where
 P:Program
 tt:TypeId->Option TI
 F:FuncId->Option Func
 X:FuncId->List Value->Option Value
 H:FuncId->Nat->Nat->Nat
 M:FuncId->Nat->Option (List Nat)
def qP{α:Type}(P:Program):Sem α->Option α
 | .pure a=>some a
 | .program k=>qP P (k P)
 | .mark _ k=>qP P k
 |_=>none
def ro1:AV->AV
 | .us s c=>.sl s c
 |x=>x
def ro:AV->AV
 | .us s c=>.sl s c
 | .agg cs=>.agg (cs.map ro1)
 |x=>x
def vl:AV->Bool
 | .sc _=>true
 | .sl _ _=>true
 | .us _ _=>true
 | .fn _ c=>c.isEmpty
 |_=>false
def vlF:AV->Bool
 | .agg cs=>cs.all vl
 |x=>vl x
def vlV:AV->Bool
 | .tup l=>l.all vlF
 |x=>vlF x
def SV.ro:SV->SV
 | .av x=>.av (AI.ro x)
 | .tp l=>.tp (l.map AI.ro)
 |s=>s
def vb:AV->Option Value
 | .sc v=>some v
 |_=>none
def asB:Value->Option Bool
 | .bool b=>some b
 |_=>none
def YP:Value->Option Int
 | .int _ n=>some n
 |_=>none
def qo(cs:List AV)(i:Nat):Option AV:=cs[i]?
def qj(cs:List AV)(i:Nat):Option Value:=(cs[i]?).bind vb
def qn(cs:List AV)(i n:Nat):Option (List AV):=if i+n<=cs.length then some ((cs.drop i).take n)else none
def qm(cs:List AV)(i:Nat)(vs:List AV):Option (List AV):=
 if i+vs.length<=cs.length then some (cs.take i++vs++cs.drop (i+vs.length))else none
def ql(n:Nat):AV->Option (List AV)
 | .agg cs=>if cs.length=n then some cs else none
 | .tup _=>none
 |x=>if n=1 then some [x]else none
def qcy:TK->Bool
 | .sc=>true
 |_=>false
def yC:TK->Bool
 | .ar _ _=>true
 | .st _=>true
 |_=>false
def toA:SV->Option AV
 | .sv v=>some (.sc v)
 | .av x=>some x
 |_=>none
def js(r:AV)(i:Nat):AV:=
 match r with
 | .tup vs=>vs.getD i (.tup [])
 |_=>.tup []
def kZ(n:Nat):AV->Option Unit
 | .tup vs=>if vs.length=n then some ()else none
 |_=>none
def nil0:Value:=.slice none 0 0
def kL:Value->Bool
 | .slice none 0 0=>true
 |_=>false
def zA:AV->Option Nat
 | .sl s cs=>some (if s=1 then cs.length else cs.length/s)
 | .us s cs=>some (if s=1 then cs.length else cs.length/s)
 | .ms _ _ _ n _=>some n
 | .sc v=>if kL v then some 0 else none
 |_=>none
def idx(n:Nat)(v:Value):Option Nat:=(YP v).bind fun i=>if 0<=i/\i<(n:Int)then some i.toNat else none
def jc(sz:Nat)(x:AV)(v:Value):Option (List AV):=
 match x with
 | .sl s cs=>if s=sz then(idx (if s=1 then cs.length else cs.length/s) v).bind fun i=>qn cs (i*sz) sz else none
 | .us s cs=>if s=sz then(idx (if s=1 then cs.length else cs.length/s) v).bind fun i=>qn cs (i*sz) sz else none
 |_=>none
def qC(lo hi:Int)(v:Option Value)(dflt:Nat):Option Nat:=
 match v with
 |none=>some dflt
 |some v=>(YP v).bind fun i=>if lo<=i/\i<=hi then some i.toNat else none
def jb(sz:Nat)(x:AV)(lo hi mx:Option Value):Option AV:=
 match x with
 | .sl s cs=>if s=sz then
  let n:=if s=1 then cs.length else cs.length/s
  (qC 0 n mx n).bind fun m=>(qC 0 m hi n).bind fun h=>(qC 0 h lo 0).bind fun l=>some (.sl s ((cs.drop (l*s)).take ((h-l)*s)))
  else none
 | .us s cs=>if s=sz then
  let n:=if s=1 then cs.length else cs.length/s
  (qC 0 n mx n).bind fun m=>(qC 0 m hi n).bind fun h=>(qC 0 h lo 0).bind fun l=>some (.sl s ((cs.drop (l*s)).take ((h-l)*s)))
  else none
 | .sc v=>if kL v then
  (qC 0 0 mx 0).bind fun m=>(qC 0 m hi 0).bind fun h=>(qC 0 h lo 0).bind fun _=>some (.sc nil0)
  else none
 |_=>none
def yT(sz:Nat):AV->Option (List AV)
 | .sl s cs=>if s=sz then some cs else none
 | .us s cs=>if s=sz then some cs else none
 | .sc v=>match v with
  | .slice none 0 0=>some []
  |_=>none
 |_=>none
def jP(bytes sz n:Nat):Bool:=decide (n*bytes<=140737488355328*sz)&&decide (0<bytes)
def wa(sz:Nat)(cs:List AV):Nat:=if sz=1 then cs.length else cs.length/sz
def vg:Value->Value->Option Bool
 | .int j a,.int k b=>if j=k then some (a==b)else none
 | .string a,.string b=>some (a==b)
 | .bool a,.bool b=>some (a==b)
 |_,_=>none
def QB(k:Value):List AV->Option (Option AV)
 |[]=>some none
 | .tup [.sc q,x]::r=>(vg k q).bind fun t=>cond t (some (some x)) (QB k r)
 |_=>none
def XY(k:Value)(v:AV):List AV->Option (List AV)
 |[]=>some [.tup [.sc k,v]]
 | .tup [.sc q,x]::r=>(vg k q).bind fun t=>cond t (some (.tup [.sc q,v]::r)) ((XY k v r).map fun l=>.tup [.sc q,x]::l)
 |_=>none
def qdc(bytes sz:Nat)(d:AV)(ys:List AV):Option AV:=
 match ys with
  |[]=>match d with
   | .us z cs=>if z=sz then some (.us z cs)else none
   | .sc v=>if kL v then some (.sc nil0)else none
   |_=>none
  |ys=>match d with
   | .us z cs=>if z=sz&&jP bytes sz (cs.length+ys.length)then some (.us z (cs++ys.map ro1))else none
   | .sc v=>if kL v&&jP bytes sz ys.length then some (.us sz (ys.map ro1))else none
   |_=>none
def yB(bytes sz:Nat)(d s:AV):Option AV:=(yT sz s).bind fun ys=>qdc bytes sz d ys
def zw:List AV->Option (List UInt8)
 |[]=>some []
 | .sc (.int .u8 n)::r=>(zw r).map fun l=>UInt8.ofNat n.toNat::l
 |_=>none
def kT:List AV->Option (List Value)
 |[]=>some []
 | .sc v::r=>(kT r).map fun l=>v::l
 |_=>none
def ye:AV->Option Value
 | .sc v=>some v
 | .agg cs=>(kT cs).map fun l=>.agg l.toArray
 |_=>none
def WV:SV->Option Value
 | .sv v=>some v
 | .av x=>ye x
 |_=>none
def qW:AV->Option (Nat×Nat×Nat)
 | .ptr b g o=>some (b,g,o)
 |_=>none
def ZW:AV->Option (FuncId×List AV)
 | .fn f c=>match Nat.blt f 4294967296 with
  |true=>some (f,c)
  |false=>none
 |_=>none
def vX:AV->Option (FuncId×List AV)
 | .fn f (b::c)=>match Nat.blt f 4294967296 with
  |true=>none
  |false=>some (f-4294967296,b::c)
 |_=>none
def one(o:Option Value):Option Value:=o.bind fun z=>if z.oneCell'=true then some z else none
def qt(P:Program)(op:BinOp)(t:TypeId)(x y:Operand)(a b:Value):Option Value:=
 one (qP P (do eqGuard op t x y a b;Go.binOp op t a b))
def unV(P:Program)(op:UnOp)(a:Value):Option Value:=one (qP P (Op.unary op a))
def QD(P:Program)(s d:TypeId)(a:Value):Option Value:=one (qP P (convert s d a))
def ixV(P:Program)(t:TypeId)(a i:Value):Option Value:=one (qP P (Instr.index t a i))
def scV(P:Program)(t:TypeId)(a:Value)(lo hi mx:Option Value):Option Value:=one (qP P (Instr.slice t a lo hi mx))
def yE(P:Program)(b:Builtin)(ts:Array TypeId)(t:TypeId)(as_:List Value):Option Value:=
 match b with
 | .min=>one (qP P (Builtin.min_ ts t as_.toArray))
 | .max=>one (qP P (Builtin.max_ ts t as_.toArray))
 | .len=>one (qP P (Builtin.len_ ts t as_.toArray))
 |_=>none
def qe6:AV->Option Bool
 | .sl _ _=>some false
 | .us _ _=>some false
 | .ms _ _ _ _ _=>some false
 | .sc (.slice none _ _)=>some true
 |_=>none
def JN:AV->Option Bool
 | .ptr _ _ _=>some false
 | .sc (.pointer none)=>some true
 |_=>none
def qjg:Value->Bool
 | .pointer none=>true
 |_=>false
def qE(l:Slots)(k:Nat):SV:=
 match l with
 |[]=>.un
 |(j,s)::r=>match Nat.beq j k with|true=>s|false=>qE r k
def vD(l:Slots)(d:Option Tmp)(s:SV):Slots:=
 match d with
 |some k=>(k,s)::l
 |none=>l
def zK(b:Boxes)(k:Nat):Option (Nat×List AV):=
 match b with
 |[]=>none
 |(j,g,cs)::r=>match Nat.beq j k with|true=>some (g,cs)|false=>zK r k
def XD(b:Boxes)(k g:Nat)(cs:List AV):Boxes:=(k,g,cs)::b
def zy(l:Slots):Operand->SV
 | .tmp t=>qE l t
 | .const v=>match v with
  | .agg cs=>if cs.toList.all (·.oneCell')=true then .av (.agg (cs.toList.map .sc))else .un
  | .tuple _=>.un
  |v=>.sv v
 | .global _=>.un
 | .func f=>.av (.fn f [])
def VG(k:TK):SV->SV
 | .sv v=>if qcy k then .sv v else .av (.sc v)
 |s=>s
def zH(l:List Value):List AV:=l.map .sc
def Qu:TK->Bool
 | .tu=>true
 |_=>false
def Cx.tn(c:Cx)(t:TypeId):Option TI:=
 match c.tt t with
 |some ti=>if Qu ti.k then none else some ti
 |none=>none
def va(p:Prop)[Decidable p]:Option Unit:=if p then some ()else none
def jo(a b:Nat):Option Unit:=va (a=b)
def qc7(b:Bool):Option Unit:=va (b=true)
def kC(cs:List AV):Option Unit:=va (cs.all vl=true)
abbrev Orc:=FuncId->List AV->Hp->Option (AV×Hp)
abbrev BE:=Option (Nat×Nat×List AV)
abbrev Kt(R:Type):=SV->BE->Hp->Option R
def qfl(ti:TI):Bool:=
 match ti.k,ti.zero with
 | .sc,[.int .u8 _]=>true
 |_,_=>false
def WM(ti:TI):Bool:=
 match ti.k,ti.zero with
 | .sc,[.string _]=>true
 |_,_=>false
def qyw(ti:TI):Bool:=
 match ti.k,ti.zero with
 | .ot,[.pointer none]=>true
 |_,_=>false
def qzx:AV->Option (List AV)
 | .agg cs=>some cs
 |_=>none
def Vf:SV->Option (List AV)
 | .av x=>qzx x
 |_=>none
def KA:AV->Bool
 | .agg _=>false
 | .tup _=>false
 |_=>true
def ql1(xs:List AV):Option Unit:=qc7 (xs.all KA)
def KZ:Value->Option ByteArray
 | .string s=>some s
 |_=>none
def xz:SV->Option Value
 | .sv v=>some v
 |_=>none
def QS:AV->Option Unit
 | .ptr _ _ _=>some ()
 | .fn _ _=>some ()
 |_=>none
def qK:AV->Option (Nat×Nat×Nat×Nat×Nat)
 | .ms b g o n z=>some (b,g,o,n,z)
 |_=>none
def valC(n:Nat):SV->Option (List AV)
 | .sv v=>if n=1 then some [.sc v]else none
 | .av x=>ql n x
 |_=>none
def opV(ev:Operand->SV):Option Operand->Option (Option Value)
 |none=>some none
 |some o=>(xz (ev o)).bind fun v=>some (some v)
def Xt:List SV->Option (List AV)
 |[]=>some []
 |s::r=>(toA s).bind fun x=>(Xt r).bind fun l=>some (x::l)
def qbw:List SV->Option (List Value)
 |[]=>some []
 |s::r=>(xz s).bind fun x=>(qbw r).bind fun l=>some (x::l)
def XZ(c:Cx)(fs:List (Nat×TypeId))(i:Nat):Option (Nat×Nat):=
 match fs[i]? with
 |some p=>match c.tn p.2 with
  |some fi=>some (p.1,fi.size)
  |none=>none
 |none=>none
def yu{R:Type}(kJ:Nat->Option (Nat×Nat))(ev:Operand->SV)(K:List AV->Option R):List (Nat×Operand)->List AV->Option R
 |[],cs=>K cs
 |(i,x)::r,cs=>
  match kJ i with
  |none=>none
  |some (off,n)=>(valC n (ev x)).bind fun vs=>(qm cs off vs).bind fun cs'=>yu kJ ev K r cs'
def ju{R:Type}(ti:TI)(h:Nat)(cs:List AV)(off:Nat)(K:SV->List AV->Option R):Option R:=
 if qcy ti.k then(qj cs off).bind fun v=>K (.sv v) cs
 else if yC ti.k then(qn cs off ti.size).bind fun l=>
  if h=1 then(qm cs off (l.map ro1)).bind fun cs'=>K (.av (.agg l)) cs' else K (.av (.agg (l.map ro1))) cs
 else(qo cs off).bind fun x=>if h=1 then K (.av x) (cs.set off (ro1 x))else K (.av (ro1 x)) cs
def yr:AV->Option Unit
 | .tup _=>none
 |_=>some ()
def VC{R:Type}(ti:TI)(r:AV)(K:SV->Option R):Option R:=
 match ti.k with
 | .sc=>(vb r).bind fun v=>K (.sv v)
 | .tu=>(kZ ti.size r).bind fun _=>K (.tp ((List.range ti.size).map (js r)))
 |_=>(yr r).bind fun _=>K (.av r)
def zT{R:Type}(h:Nat)(ti:TI)(a:SV)(gb:Nat->Option (Nat×List AV))(hp:Hp)(K:Kt R):Option R:=
 match a with
 | .lp k g off=>match gb k with
  |some (g',cs)=>if g=g' then ju ti h cs off fun s cs'=>K s (if h=1 then some (k,g,cs')else none) hp else none
  |none=>none
 | .rv cs=>if h=1 then none else ju ti h cs 0 fun s _=>K s none hp
 | .av x=>(qW x).bind fun p=>(hp.rd p.1 p.2.1).bind fun cs=>ju ti h cs p.2.2 fun s cs'=>K s none (if h=1 then hp.put p.1 p.2.1 cs' else hp)
 |_=>none
def yS{R:Type}(ti:TI)(a x:SV)(gb:Nat->Option (Nat×List AV))(hp:Hp)(K:Kt R):Option R:=
 (valC ti.size x).bind fun vs=>
 match a with
 | .lp k g off=>match gb k with
  |some (g',cs)=>if g=g' then(qm cs off vs).bind fun cs'=>K .un (some (k,g,cs')) hp else none
  |none=>none
 | .av x=>(qW x).bind fun p=>(hp.rd p.1 p.2.1).bind fun cs=>(qm cs p.2.2 vs).bind fun cs'=>K .un none (hp.put p.1 p.2.1 cs')
 |_=>none
def jW{R:Type}(c:Cx)(ti:TI)(a:SV)(f:Nat)(K:SV->Option R):Option R:=
 match ti.k with
 | .st fs=>match fs[f]? with
  |some (fo,ft)=>match c.tn ft with
   |some fi=>if fi.size=0 then none else
    match a with
    | .lp k g off=>K (.lp k g (off+fo))
    | .rv cs=>K (.rv (cs.drop fo))
    | .av x=>(qW x).bind fun p=>K (.av (.ptr p.1 p.2.1 (p.2.2+fo)))
    |_=>none
   |none=>none
  |none=>none
 |_=>none
def jU{R:Type}(c:Cx)(h:Nat)(ti:TI)(a i:SV)(K:SV->Option R):Option R:=
 match i with
 | .sv iv=>match ti.k with
  | .sl e=>match c.tn e with
   |some ei=>match a with
    | .av x=>
     if h=2 then(qK x).bind fun p=>(idx p.2.2.2.1 iv).bind fun j=>(jo p.2.2.2.2 ei.size).bind fun _=>K (.av (.ptr p.1 p.2.1 (p.2.2.1+j*ei.size)))
     else(jc ei.size x iv).bind fun cs=>K (.rv cs)
    |_=>none
   |none=>none
  | .ar n e=>match c.tn e with
   |some ei=>match a with
    | .lp k g off=>(idx n iv).bind fun j=>K (.lp k g (off+j*ei.size))
    | .rv cs=>(idx n iv).bind fun j=>K (.rv (cs.drop (j*ei.size)))
    | .av x=>(qW x).bind fun p=>(idx n iv).bind fun j=>K (.av (.ptr p.1 p.2.1 (p.2.2+j*ei.size)))
    |_=>none
   |none=>none
  |_=>none
 |_=>none
def QI{R:Type}(c:Cx)(h:Nat)(ti:TI)(t:TypeId)(a:SV)(lo hi mx:Option Value)(K:SV->Option R):Option R:=
 match ti.k with
 | .sl e=>match c.tn e with
  |some ei=>match a with
   | .av x=>
    if h=2 then(qK x).bind fun p=>(qC 0 p.2.2.2.1 mx p.2.2.2.1).bind fun m=>(qC 0 m hi p.2.2.2.1).bind fun hh=>(qC 0 hh lo 0).bind fun l=>
     (jo p.2.2.2.2 ei.size).bind fun _=>K (.av (.ms p.1 p.2.1 (p.2.2.1+l*ei.size) (hh-l) ei.size))
    else(jb ei.size x lo hi mx).bind fun z=>K (.av z)
   |_=>none
  |none=>none
 | .sc=>match a with
  | .sv v=>(scV c.P t v lo hi mx).bind fun z=>K (.sv z)
  |_=>none
 |_=>none
def usA:SV->Option (List AV)
 | .av (.us z cs)=>if z=1 then some cs else none
 |_=>none
def KG{R:Type}(c:Cx)(s d:TypeId)(si di:TI)(a:SV)(K:SV->Option R):Option R:=
 match di.k with
 | .sl e=>match c.tn e with
  |some ei=>if qfl ei=true then(if s=d then(usA a).bind fun cs=>K (.av (.sl 1 cs))else(xz a).bind fun v=>(KZ v).bind fun b=>K (.av (.sl 1 (b.data.toList.map fun x=>.sc (.int .u8 x.toNat)))))else none
  |none=>none
 |_=>match si.k with
  | .sl e=>match c.tn e with
   |some ei=>if(qfl ei&&WM di)=true then(toA a).bind fun x=>(yT 1 x).bind fun cs=>(zw cs).bind fun l=>K (.sv (.string ⟨l.toArray⟩))else none
   |none=>none
  |_=>(xz a).bind fun v=>(QD c.P s d v).bind fun z=>K (.sv z)
def qj3{R:Type}(c:Cx)(op:BinOp)(t:TypeId)(x y:Operand)(a b:SV)(K:SV->Option R):Option R:=
 match a,b with
 | .sv v,.sv w=>(qt c.P op t x y v w).bind fun z=>K (.sv z)
 | .av v,.sv w=>if kL w then
  match c.tn t with
  |some ti=>match ti.k with
   | .sl _=>(qe6 v).bind fun n=>(match op with| .eql=>K (.sv (.bool n))| .neq=>K (.sv (.bool !n))|_=>none)
   |_=>none
  |none=>none
  else if qjg w then
  match c.tn t with
  |some ti=>if qyw ti=true then(JN v).bind fun n=>(match op with| .eql=>K (.sv (.bool n))| .neq=>K (.sv (.bool !n))|_=>none)else none
  |none=>none
  else(ye v).bind fun v'=>(qt c.P op t x y v' w).bind fun z=>K (.sv z)
 | .av v,.av w=>(ye v).bind fun v'=>(ye w).bind fun w'=>(qt c.P op t x y v' w').bind fun z=>K (.sv z)
 |_,_=>none
def selV(t:Bool)(x y:Value):Value:=
 match t with
 |true=>x
 |false=>y
def Ka{R:Type}(c a b:SV)(K:SV->Option R):Option R:=
 (xz c).bind fun v=>(asB v).bind fun t=>
  match a,b with
  | .sv x,.sv y=>K (.sv (selV t x y))
  |s,r=>cond t (K s.ro) (K r.ro)
def vL:AV->Option Nat
 | .map b=>some b
 |_=>none
def Je(sz:Nat)(n:Nat)(cs:List AV):Nat×List AV:=(min (wa sz cs) n,cs.take (min (wa sz cs) n*sz))
def xm(hp:Hp)(sz:Nat)(x:AV):Option (List AV):=
 match qK x with
 |some p=>(va (p.2.2.2.2=sz/\0<sz)).bind fun _=>(hp.rd p.1 p.2.1).bind fun cs=>(qn cs p.2.2.1 (p.2.2.2.1*sz)).bind fun l=>some (l.map ro1)
 |none=>yT sz x
def zV(bytes sz:Nat)(d s:AV)(hp:Hp):Option (AV×Hp):=
 (xm hp sz s).bind fun ys=>match ys with
 |[]=>match d with
  | .ms b g off n z=>(va (z=sz)).bind fun _=>some (.ms b g off n z,hp)
  |d=>(qdc bytes sz d []).bind fun y=>some (y,hp)
 |y::ys=>match d with
  | .us z []=>(va (z=sz/\jP bytes sz (y::ys).length=true)).bind fun _=>some (.ms hp.next 0 0 (wa sz (y::ys)) sz,hp.new (y::ys))
  | .us z (q::cs)=>(kC (y::ys)).bind fun _=>(qdc bytes sz (.us z (q::cs)) (y::ys)).bind fun r=>some (r,hp)
  | .sc v=>(va (kL v=true/\jP bytes sz (y::ys).length=true)).bind fun _=>some (.ms hp.next 0 0 (wa sz (y::ys)) sz,hp.new (y::ys))
  | .ms b g off n z=>(va (z=sz/\off=0/\0<n)).bind fun _=>(hp.rd b g).bind fun cs=>
   (va (n*sz<=cs.length/\jP bytes sz (n*sz+(y::ys).length)=true)).bind fun _=>some (.ms hp.next 0 0 (n+wa sz (y::ys)) sz,(hp.del b).new ((cs.take (n*sz)).map ro1++(y::ys)))
  |_=>none
def VO{R:Type}(c:Cx)(h:Nat)(o:Oper)(b:Builtin)(ts:List TypeId)(as_:List SV)(hp:Hp)(K:SV->Hp->Option R):Option R:=
 match b,ts,as_ with
 | .len,[t],[.av x]=>match c.tn t with
  |some ti=>match ti.k with
   | .sl _=>(zA x).bind fun n=>K (.sv (.int .i64 n)) hp
   | .mp _ _=>(va (h=2)).bind fun _=>(vL x).bind fun b=>(hp.rdM b).bind fun es=>K (.sv (.int .i64 es.length)) hp
   |_=>none
  |none=>none
 | .append,[t,t'],[d,s]=>if t'≠t then none else match c.tn t with
  |some ti=>match ti.k with
   | .sl e=>match c.tn e with
    |some ei=>(toA d).bind fun d'=>(toA s).bind fun s'=>if h=2 then(zV ei.bytes ei.size d' s' hp).bind fun q=>K (.av q.1) q.2 else(yB ei.bytes ei.size d' s').bind fun y=>K (.av y) hp
    |none=>none
   |_=>none
  |none=>none
 | .copy,[t,_],[.av d,.av s]=>match c.tn t with
  |some ti=>match ti.k with
   | .sl e=>match c.tn e with
    |some ei=>(va (h=2/\0<ei.size)).bind fun _=>(qK d).bind fun p=>(jo p.2.2.2.2 ei.size).bind fun _=>(xm hp ei.size s).bind fun ys=>(hp.rd p.1 p.2.1).bind fun cs=>
     (qm cs p.2.2.1 (Je ei.size p.2.2.2.1 ys).2).bind fun cs'=>K (.sv (.int .i64 ((Je ei.size p.2.2.2.1 ys).1:Nat))) (hp.put p.1 p.2.1 cs')
    |none=>none
   |_=>none
  |none=>none
 |b,ts,as_=>(qbw as_).bind fun vs=>(yE c.P b ts.toArray o.type vs).bind fun z=>K (.sv z) hp
def tN(n:Int):Nat:=n.toNat
def QQ(bytes size:Nat)(n n':Int):Option Unit:=va (n=n'/\0<=n/\jP bytes 1 n.toNat=true/\0<size)
def QF(n:Int)(z:List Value):List AV:=(List.replicate n.toNat (zH z)).flatten
def we(hp:Hp)(x:AV):Option (AV×Hp):=
 match x with
 | .ms b g off n z=>(va (0<z)).bind fun _=>(hp.rd b g).bind fun cs=>(qn cs off (n*z)).bind fun l=>(va (l.all vl=true)).bind fun _=>some (.sl z (l.map ro1),hp.del b)
 |x=>some (x,hp)
def YO(hp:Hp):List AV->Option (List AV×Hp)
 |[]=>some ([],hp)
 |x::r=>(we hp x).bind fun p=>(YO p.2 r).bind fun q=>some (p.1::q.1,q.2)
def qjp(k:TK)(hp:Hp)(s:SV):Option (SV×Hp):=
 match s with
 | .av x=>if yC k then(Vf (.av x)).bind fun cs=>(YO hp cs).bind fun q=>some (.av (.agg q.1),q.2)else(we hp x).bind fun q=>some (.av q.1,q.2)
 |s=>some (s,hp)
def qok{R:Type}(k:TK)(hp:Hp)(s:SV)(K:SV->Hp->Option R):Option R:=
 match s with
 | .av x=>if yC k then(Vf (.av x)).bind fun cs=>(YO hp cs).bind fun q=>K (.av (.agg q.1)) q.2 else(we hp x).bind fun q=>K (.av q.1) q.2
 |s=>K s hp
def orA(f:Option AV)(x:AV):AV:=f.getD x
def isS(f:Option AV):Bool:=f.isSome
def qlo(ti:TI):Bool:=
 match ti.k,ti.zero with
 | .sc,[.int _ _]=>true
 |_,_=>false
def qlp(ti:TI):Bool:=
 match ti.k,ti.zero with
 | .sc,[.bool _]=>true
 |_,_=>false
def qcw(ti:TI):Value->Bool
 | .int _ _=>qlo ti
 | .string _=>WM ti
 | .bool _=>qlp ti
 |_=>false
def Xq(ti:TI):AV:=if yC ti.k then .agg (zH ti.zero)else(zH ti.zero).headD (.agg [])
def mapV:SV->Option AV
 | .sv v=>some (.sc v)
 | .av x=>some (ro x)
 |_=>none
def ofA(k:TK)(x:AV):Option SV:=if qcy k then(vb x).bind fun v=>some (.sv v)else some (.av x)
def qlj(ok:Bool)(ei:TI)(f:Option AV):Option SV:=
 match ok with
 |true=>some (.tp [orA f (Xq ei),.sc (.bool (isS f))])
 |false=>ofA ei.k (orA f (Xq ei))
def ofAK{R:Type}(k:TK)(x:AV)(K:SV->Option R):Option R:=if qcy k then(vb x).bind fun v=>K (.sv v)else K (.av x)
def qja{R:Type}(ok:Bool)(ei:TI)(f:Option AV)(K:SV->Option R):Option R:=
 match ok with
 |true=>K (.tp [orA f (Xq ei),.sc (.bool (isS f))])
 |false=>ofAK ei.k (orA f (Xq ei)) K
def xu{R:Type}(c:Cx)(t:TypeId)(x i:SV)(ok:Bool)(hp:Hp)(K:SV->Option R):Option R:=
 match c.tn t with
 |some ti=>match ti.k with
  | .mp kt et=>match c.tn kt,c.tn et with
   |some ki,some ei=>(toA x).bind fun x'=>(vL x').bind fun b=>(hp.rdM b).bind fun es=>(xz i).bind fun k=>(qc7 (qcw ki k)).bind fun _=>(QB k es).bind fun f=>qja ok ei f K
   |_,_=>none
  |_=>none
 |none=>none
def Qe{R:Type}(c:Cx)(t:TypeId)(m k x:SV)(hp:Hp)(K:Hp->Option R):Option R:=
 match c.tn t with
 |some ti=>match ti.k with
  | .mp kt et=>match c.tn kt,c.tn et with
   |some ki,some ei=>(toA m).bind fun m'=>(vL m').bind fun b=>(hp.rdM b).bind fun es=>(xz k).bind fun kv=>(qc7 (qcw ki kv)).bind fun _=>(mapV x).bind fun v=>
    (XY kv v es).bind fun es'=>K (hp.put b 1 es')
   |_,_=>none
  |_=>none
 |none=>none
def jf(xs caps:List AV):Option Unit:=va (xs.all vlF=true/\caps.all vl=true)
def yp(y:AV):Option Unit:=va (vlV y=true)
def je{R:Type}(c:Cx)(C:Orc)(h:Nat)(ti:TI)(f:FuncId)(caps:List AV)(as_:List SV)(hp:Hp)(K:Kt R):Option R:=
 (Xt as_).bind fun xs=>
 if h=2 then(C f ((xs.map ro)++caps) hp).bind fun p=>VC ti p.1 fun s=>K s none p.2
 else if h=4 then(C f (caps++(xs.map ro)) hp).bind fun p=>VC ti p.1 fun s=>K s none p.2
 else(jf xs caps).bind fun _=>(C f ((xs.map ro)++caps) hp0).bind fun p=>(yp p.1).bind fun _=>VC ti p.1 fun s=>K s none hp
def qq{R:Type}(c:Cx)(C:Orc)(h:Nat)(o:Oper)(ev:Operand->SV)(gb:Nat->Option (Nat×List AV))(hp:Hp)(K:Kt R):Option R:=
 match o.op with
 | .move x=>match c.tt o.type with
  |some ti=>if h=3 then qok ti.k hp (VG ti.k (ev x).ro) fun s q=>K s none q else K (if h=1 then VG ti.k (ev x)else VG ti.k (ev x).ro) none hp
  |none=>none
 | .assign x=>match c.tt o.type with
  |some ti=>if h=3 then qok ti.k hp (VG ti.k (ev x)) fun s q=>K s none q else K (VG ti.k (ev x)) none hp
  |none=>none
 | .pick a x y=>Ka (ev a) (ev x) (ev y) fun s=>K s none hp
 | .alloc t=>match c.tn t with
  |some ti=>if h=2 then K (.av (.ptr hp.next 0 0)) none (hp.new (zH ti.zero))else
   match o.dst with
   |some d=>let g:=match gb d with|some (g,_)=>g+1|none=>0
    K (.lp d g 0) (some (d,g,zH ti.zero)) hp
   |none=>none
  |none=>none
 | .box t x=>match c.tn t with
  |some ti=>(valC ti.size (ev x)).bind fun vs=>if h=2 then K (.av (.ptr hp.next 0 0)) none (hp.new (vs.map ro1))else
   match o.dst with
   |some d=>let g:=match gb d with|some (g,_)=>g+1|none=>0
    K (.lp d g 0) (some (d,g,vs.map ro1)) hp
   |none=>none
  |none=>none
 | .build t ps=>match c.tn t with
  |some ti=>match ti.k with
   | .st fs=>if fs.all (fun p=>(c.tn p.2).isSome)=true then yu (XZ c fs) ev (fun cs=>K (.av (.agg (cs.map ro1))) none hp) ps.toList (zH ti.zero)else none
   | .ar _ e=>match c.tn e with
    |some ei=>yu (fun i=>some (i*ei.size,ei.size)) ev (fun cs=>K (.av (.agg (cs.map ro1))) none hp) ps.toList (zH ti.zero)
    |none=>none
   |_=>none
  |none=>none
 | .buildSlice t n ps=>match c.tn t with
  |some ti=>match ti.k with
   | .sl e=>match c.tn e with
    |some ei=>if n*ei.size<=4096/\0<ei.size then
     yu (fun i=>some (i*ei.size,ei.size)) ev (fun cs=>(kC cs).bind fun _=>K (.av (.us ei.size (cs.map ro1))) none hp) ps.toList (List.replicate n (zH ei.zero)).flatten
     else none
    |none=>none
   |_=>none
  |none=>none
 | .load t a=>match c.tn t with
  |some ti=>if h=3 then zT 0 ti (ev a) gb hp fun s b q=>qok ti.k q s fun s' q'=>K s' b q' else zT h ti (ev a) gb hp K
  |none=>none
 | .store t a x=>match c.tn t with
  |some ti=>yS ti (ev a) (ev x) gb hp K
  |none=>none
 | .nilCheck x=>match ev x with
  | .lp k g off=>K (.lp k g off) none hp
  | .av y=>(QS y).bind fun _=>K (.av y) none hp
  |_=>none
 | .binOp op t x y _=>qj3 c op t x y (ev x) (ev y) fun s=>K s none hp
 | .unOp op _ x=>(xz (ev x)).bind fun v=>(unV c.P op v).bind fun z=>K (.sv z) none hp
 | .convert s d x=>match c.tn s,c.tn d with
  |some si,some di=>KG c s d si di (ev x) fun s=>K s none hp
  |_,_=>none
 | .makeFunc (.func f) fs cs=>if fs.toList.isEmpty=true then(Xt (cs.toList.map ev)).bind fun xs=>if xs.all KA=true then(qc7 (Nat.blt f 4294967296)).bind fun _=>K (.av (.fn f (xs.map ro1))) none hp else none
  else if cs.toList.isEmpty=true then(Xt (fs.toList.map ev)).bind fun xs=>(ql1 xs).bind fun _=>K (.av (.fn (4294967296+f) (xs.map ro1))) none hp else none
 | .makeSlice t l m=>match c.tn t with
  |some ti=>match ti.k with
   | .sl e=>match c.tn e with
    |some ei=>(xz (ev l)).bind fun lv=>(xz (ev m)).bind fun mv=>(YP lv).bind fun n=>(YP mv).bind fun n'=>
     (QQ ei.bytes ei.size n n').bind fun _=>
      (if h=2 then K (.av (.ms hp.next 0 0 (tN n) ei.size)) none (hp.new (QF n ei.zero))
       else K (.av (.us ei.size (QF n ei.zero))) none hp)
    |none=>none
   |_=>none
  |none=>none
 | .slice t x lo hi mx=>match c.tn t with
  |some ti=>if mx.isSome&&!hi.isSome then none else(opV ev lo).bind fun l=>(opV ev hi).bind fun u=>(opV ev mx).bind fun m=>QI c h ti t (ev x) l u m fun s=>K s none hp
  |none=>none
 | .fieldAddr t x f=>match c.tn t with
  |some ti=>jW c ti (ev x) f fun s=>K s none hp
  |none=>none
 | .field t x f=>match c.tn t with
  |some ti=>match ti.k with
   | .st fs=>match fs[f]? with
    |some (fo,ft)=>match c.tn ft with
     |some fi=>(Vf (ev x)).bind fun cs=>ju fi 0 cs fo fun s _=>K s none hp
     |none=>none
    |none=>none
   |_=>none
  |none=>none
 | .indexAddr t x i=>match c.tn t with
  |some ti=>jU c h ti (ev x) (ev i) fun s=>K s none hp
  |none=>none
 | .index t x i=>match c.tt o.type with
  |some ti=>if qcy ti.k then(WV (ev x)).bind fun a=>(xz (ev i)).bind fun iv=>(ixV c.P t a iv).bind fun z=>K (.sv z) none hp else
   match c.tn t with
   |some xi=>match xi.k with
    | .ar n e=>match c.tn e with
     |some ei=>(Vf (ev x)).bind fun cs=>(xz (ev i)).bind fun iv=>(idx n iv).bind fun j=>ju ei 0 cs (j*ei.size) fun s _=>K s none hp
     |none=>none
    |_=>none
   |none=>none
  |none=>none
 | .extract x i=>match ev x with
  | .tp l=>match l[i]? with
   |some y=>match c.tt o.type with
    |some ti=>if qcy ti.k then(vb y).bind fun v=>K (.sv v) none hp else if h=1 then K (.av (ro y)) none hp else K (.av y) none hp
    |none=>none
   |none=>none
  |_=>none
 | .makeMap t none=>if h=2 then K (.av (.map hp.next)) none hp.newM else none
 | .lookup t x i ok=>if h=2 then xu c t (ev x) (ev i) ok hp fun s=>K s none hp else none
 | .mapUpdate t m k x=>if h=2 then Qe c t (ev m) (ev k) (ev x) hp fun q=>K .un none q else none
 | .call cl=>match cl.callee with
  | .builtin b=>VO c h o b cl.argTypes.toList (cl.args.toList.map ev) hp fun s q=>K s none q
  | .value (.func f)=>match c.F f,c.tt o.type with
   |some fn,some ti=>match fn.body with
    |some _=>je c C h ti f [] (cl.args.toList.map ev) hp K
    |none=>(qbw (cl.args.toList.map ev)).bind fun vs=>(one (c.X f vs)).bind fun z=>K (.sv z) none hp
   |_,_=>none
  | .value (.tmp t)=>match c.tt o.type with
   |some ti=>match ev (.tmp t)with
    | .av x=>if h=4 then(vX x).bind fun p=>je c C h ti p.1 p.2 (cl.args.toList.map ev) hp K else(ZW x).bind fun p=>je c C h ti p.1 p.2 (cl.args.toList.map ev) hp K
    |_=>none
   |none=>none
  |_=>none
 |_=>none
structure Fp where
 rs:List Nat
 ws:List Nat
 br:Option Nat
 bw:Option Nat
 hr:Bool
 hw:Bool
 nw:Bool
 lq:Option (AV×Nat)
 gb:Nat->Option (Nat×List AV)
 ga:Nat->Option (Nat×List AV)
def ym(q:AV×Nat)(g:Nat->Option (Nat×List AV)):Option (List AV):=
 (qW q.1).bind fun p=>(g p.1).bind fun z=>if z.1=0 then(qn z.2 p.2.2 q.2).map (List.map ro1)else none
noncomputable def wB(q:AV×Nat)(g g':Nat->Option (Nat×List AV)):Option Unit:=
 @ite _ (ym q g=ym q g') (Classical.propDecidable _) (some ()) none
def qfb(h:Nat)(o:Oper)(tn:TypeId->Option TI)(ev:Operand->SV):Option (AV×Nat):=
 match o.op with
 | .load t a=>match ev a with
  | .av x=>match h==1||h==3 with
   |true=>none
   |false=>match tn t with
    |some ti=>some (x,match yC ti.k with|true=>ti.size|false=>1)
    |none=>none
  |_=>none
 |_=>none
def qjj(b:Bool)(hp:Hp):Nat->Option (Nat×List AV):=
 match b with
 |true=>hp.get
 |false=>fun _=>none
inductive It where
 |code (c:Code)
 |inBlock (id:Nat)
 |inLoop (body:Code)
 |inScope (body:Code)
 |ops (r:Nat) (ops:Array Oper) (is:List Nat) (d:Bool) (acc:List (Nat×Fp))
def dn(t:Tmp)(l:Slots):Slots:=(t,(qE l t).ro)::l
def dnX(t:Tmp)(i:Nat)(l:Slots):Slots:=
 match qE l t with
 | .tp xs=>(t,.tp (match xs[i]? with|some y=>xs.set i (ro y)|none=>xs))::l
 |_=>l
def zF:List Operand->List Nat
 |[]=>[]
 | .tmp t::r=>t::zF r
 |_::r=>zF r
def qN(h:Nat)(o:Oper):List Nat:=
 match o.op with
 | .move x=>if h=1 then zF [x]else []
 | .assign x=>zF [x]
 | .store _ _ x=>zF [x]
 | .extract x _=>if h=1 then []else zF [x]
 | .convert s d x=>if s=d then zF [x]else []
 | .call c=>match c.callee with
  | .builtin .append=>zF c.args.toList
  |_=>[]
 |_=>[]
def qG(ts:List Nat)(l:Slots):Slots:=ts.foldl (fun l t=>dn t l) l
def qF(h:Nat)(o:Oper)(l:Slots):Slots:=
 match o.op with
 | .extract (.tmp t) i=>if h=1 then l else dnX t i l
 |_=>qG (qN h o) l
def jL(h:Nat)(o:Oper)(ev:Operand->SV):Option Nat×Option Nat:=
 match o.op with
 | .load _ a=>match ev a with
  | .lp k _ _=>if h=1 then(none,some k)else(some k,none)
  |_=>(none,none)
 | .store _ a _=>match ev a with
  | .lp k _ _=>(none,some k)
  |_=>(none,none)
 | .alloc _=>if h=2 then(none,none)else(none,o.dst)
 | .box _ _=>if h=2 then(none,none)else(none,o.dst)
 |_=>(none,none)
def zg(h:Nat)(o:Oper)(ev:Operand->SV):Bool×Bool×Bool:=
 match o.op with
 | .load _ a=>match ev a with
  | .av _=>(h==1||h==3,h==1||h==3,h==3)
  |_=>(h==3,h==3,h==3)
 | .move _=>(h==3,h==3,h==3)
 | .assign _=>(h==3,h==3,h==3)
 | .makeMap _ _=>(true,true,true)
 | .lookup _ _ _ _=>(true,false,false)
 | .mapUpdate _ _ _ _=>(true,true,true)
 | .store _ a _=>match ev a with
  | .av _=>(false,true,false)
  |_=>(false,false,false)
 | .alloc _=>(false,h==2,h==2)
 | .box _ _=>(false,h==2,h==2)
 | .makeSlice _ _ _=>(false,h==2,h==2)
 | .call c=>match c.callee with
  | .builtin _=>(h==2,h==2,h==2)
  |_=>(h==2||h==4,h==2||h==4,h==2||h==4)
 |_=>(false,false,false)
def zcp(tn:TypeId->Option TI)(h:Nat)(ops:Array Oper)(o:Oper)(l:Slots)(hp hp':Hp):Fp:=
 let b:=jL h o (zy l)
 let q:=zg h o (zy l)
 {rs:=o.looksAt ops,ws:=o.dst.toList++qN h o,br:=b.1,bw:=b.2,hr:=q.1,hw:=q.2.1,nw:=q.2.2,lq:=qfb h o tn (zy l),gb:=qjj q.2.1 hp,ga:=qjj q.2.1 hp'}
def JS(ops:Array Oper)(o:Oper):Fp:=
 {rs:=o.looksAt ops,ws:=o.dst.toList,br:=none,bw:=none,hr:=false,hw:=false,nw:=false,lq:=none,gb:=fun _=>none,ga:=fun _=>none}
def WG(a b:List Nat):Bool:=a.any fun x=>b.contains x
def ql9(a b:Fp):Bool:=
 WG a.ws b.rs||WG a.ws b.ws||WG a.rs b.ws||
 (match a.bw,b.bw with|some x,some y=>x==y|_,_=>false)||
 (match a.bw,b.br with|some x,some y=>x==y|_,_=>false)||
 (match a.br,b.bw with|some x,some y=>x==y|_,_=>false)||
 (a.hw&&(b.hr||b.hw))||(a.hr&&b.hw)||(a.nw&&b.nw)
def jl:List Oper->List (List Nat)->List (List Nat)
 |[],t=>t
 |o::r,t=>
  let ds:=(o.after.toList.filter fun e=>Region.binds .any e).map (·.on)
  jl r (t++[(ds++ds.flatMap fun j=>t.getD j []).eraseDups])
def KD(ops:Array Oper):Bool:=(List.range ops.size).all fun i=>match ops[i]? with
 |some o=>o.after.toList.all fun e=>!Region.binds .any e||decide (e.on<i)
 |none=>true
def JT(ops:Array Oper)(acc:List (Nat×Fp)):Bool:=
 let t:=jl ops.toList []
 KD ops&&acc.all fun p=>acc.all fun q=>!(decide (p.1<q.1))||(t.getD q.1 []).contains p.1||!(ql9 p.2 q.2)
def qch(t:List (List Nat))(i j:Nat):Bool:=(t.getD j []).contains i||(t.getD i []).contains j
noncomputable def qoo(t:List (List Nat))(p q:Nat×Fp)(r:List (Option Unit)):List (Option Unit):=
 match p.2.lq with
 |none=>r
 |some x=>match q.2.hw with
  |false=>r
  |true=>match qch t p.1 q.1 with
   |true=>r
   |false=>wB x q.2.gb q.2.ga::r
noncomputable def qva(t:List (List Nat))(p:Nat×Fp):List (Nat×Fp)->List (Option Unit)->List (Option Unit)
 |[],r=>r
 |q::l,r=>qoo t p q (qva t p l r)
noncomputable def zcw(t:List (List Nat))(acc:List (Nat×Fp)):List (Nat×Fp)->List (Option Unit)
 |[]=>[]
 |p::l=>qva t p acc (zcw t acc l)
noncomputable def qx1(ops:Array Oper)(acc:List (Nat×Fp)):List (Option Unit):=zcw (jl ops.toList []) acc acc
def qmc{R:Type}:List (Option Unit)->Option R->Option R
 |[],X=>X
 |o::l,X=>o.bind fun _=>qmc l X
def yV(b:Boxes):List Nat->Boxes
 |[]=>[]
 |k::r=>match zK b k with
  |some (g,cs)=>(k,g,cs)::yV b r
  |none=>yV b r
def Kg(b:Boxes)(s:SV):SV:=
 match s with
 | .lp k g o=>match zK b k with
  |some _=>.lp k g o
  |none=>.un
 |s=>s
def wI(b:Boxes)(l:Slots):List Nat->Slots
 |[]=>[]
 |k::r=>match Kg b (qE l k)with
  | .un=>wI b l r
  |s=>(k,s)::wI b l r
def mask(m:Option (List Nat))(st:St):St:=
 match m with
 |none=>st
 |some live=>⟨wI (yV st.bx live) st.sl live,yV st.bx live,st.hp⟩
def Wt(id:Nat):List It->Option (List It)
 |[]=>none
 | .inBlock j::k=>if j=id then some k else Wt id k
 |_::k=>Wt id k
def XV{R:Type}(st:St)(tt:TypeId->Option TI)(r:ResultVar)(K:AV->Option R):Option R:=
 match r with
 | .tmp t=>(toA (qE st.sl t)).bind K
 | .cell a ty=>match tt ty with
  |some ti=>match qE st.sl a with
   | .lp k g off=>match zK st.bx k with
    |some (g',cs)=>if g=g' then
     (if yC ti.k then(qn cs off ti.size).bind fun l=>K (.agg l)else(qo cs off).bind K)
     else none
    |none=>none
   |_=>none
  |none=>none
def vA{R:Type}(st:St)(tt:TypeId->Option TI)(K:List AV->Option R):List ResultVar->Option R
 |[]=>K []
 |r::l=>XV st tt r fun x=>vA st tt (fun xs=>K (x::xs)) l
def QA(st:St):ResultVar->Nat×Nat
 | .tmp t=>(0,t)
 | .cell a _=>match qE st.sl a with
  | .lp k _ _=>(1,k)
  |_=>(2,0)
def qld(k:Nat×Nat):List (Nat×Nat)->Bool
 |[]=>true
 |j::r=>match Nat.beq j.1 k.1&&Nat.beq j.2 k.2 with|true=>false|false=>qld k r
def vi:List (Nat×Nat)->Bool
 |[]=>true
 |k::r=>match qld k r with|true=>vi r|false=>false
def fin(c:Cx)(f:FuncId)(st:St):Option (AV×Hp):=
 match c.F f with
 |some fn=>cond (vi (fn.results.toList.map (QA st))) (vA st c.tn (fun l=>match l with
  |[x]=>some (x,st.hp)
  |l=>some (.tup l,st.hp)) fn.results.toList) none
 |none=>none
def yY{R:Type}(c:Cx):Nat->List TypeId->List AV->(Slots->Option R)->Option R
 |_,[],[],K=>K []
 |i,[],x::xs,K=>yY c (i+1) [] xs fun l=>K ((i,.av x)::l)
 |_,_::_,[],_=>none
 |i,t::ts,x::xs,K=>match c.tn t with
  |some ti=>if qcy ti.k then(vb x).bind fun v=>yY c (i+1) ts xs fun l=>K ((i,.sv v)::l)else yY c (i+1) ts xs fun l=>K ((i,.av x)::l)
  |none=>none
def after(h:Nat)(o:Oper)(st:St)(s:SV)(b:BE)(hp:Hp):St:=
 ⟨vD (qF h o st.sl) o.dst s,(match b with|some (k,g,cs)=>XD st.bx k g cs|none=>st.bx),hp⟩
def yP(o:Oper)(ops:Array Oper):Option (Option (Nat×Bool)):=
 match o.guard with
 |none=>some none
 |some (j,want)=>match ops[j]? with
  |some oj=>match oj.dst with
   |some d=>some (some (d,want))
   |none=>none
  |none=>none
def qj9(d:Bool)(i:Nat)(p:Fp)(acc:List (Nat×Fp)):List (Nat×Fp):=if d then(i,p)::acc else acc
theorem kn{R:Type}:∀{l:List (Option Unit)} {X:Option R} {r:R},qmc l X=some r->(∀o∈l,o=some ())/\X=some r
 |[],X,r,h=>⟨qf,h⟩
 |o::l,X,r,h=>by
  obtain⟨u,hu,h⟩:=bsm h
  obtain⟨h1,h2⟩:=kn h
  refine⟨fun o' ho=>?_,h2⟩
  rcases zgn.mp ho with rfl|ho
  ·exact hu
  ·exact h1 o' ho
theorem KT{R:Type}:∀{l:List (Option Unit)} {X:Option R} {r:R},(∀o∈l,o=some ())->X=some r->qmc l X=some r
 |[],X,r,_,h=>h
 |o::l,X,r,h1,h=>by
  show o.bind _=_
  rw[h1 o qf]
  exact KT (fun o ho=>h1 o (by simp[ho])) h
theorem qh5{q:AV×Nat}{g g':Nat->Option (Nat×List AV)}(h:wB q g g'=some ()):ym q g=ym q g':=by
 unfold wB at h
 split at h
 ·assumption
 ·cases h
theorem qga{t:List (List Nat)}{p q:Nat×Fp}{x:AV×Nat}(hx:p.2.lq=some x)(hw:q.2.hw=true)(ho:qch t p.1 q.1=false):
 ∀{l:List (Nat×Fp)} {r:List (Option Unit)},q∈l->wB x q.2.gb q.2.ga∈qva t p l r
 |q'::l,r,hq=>by
  show _∈qoo t p q' (qva t p l r)
  rcases zgn.mp hq with rfl|hq
  ·simp only[qoo,hx,hw,ho]
   exact List.mem_cons_self ..
  ·have ih:=qga hx hw ho (r:=r) hq
   unfold qoo
   split
   ·exact ih
   ·split
    ·exact ih
    ·split
     ·exact ih
     ·exact zid _ ih
theorem qon{t:List (List Nat)}{p q:Nat×Fp}{r:List (Option Unit)}{o:Option Unit}(h:o∈r):o∈qoo t p q r:=by
 unfold qoo
 split
 ·exact h
 ·split
  ·exact h
  ·split
   ·exact h
   ·exact zid _ h
theorem WT{t:List (List Nat)}{p:Nat×Fp}{o:Option Unit}:∀{l:List (Nat×Fp)} {r:List (Option Unit)},o∈r->o∈qva t p l r
 |[],r,h=>h
 |q::l,r,h=>qon (WT h)
theorem qf9{t:List (List Nat)}{acc:List (Nat×Fp)}{p q:Nat×Fp}{x:AV×Nat}(hx:p.2.lq=some x)(hw:q.2.hw=true)(ho:qch t p.1 q.1=false)(hq:q∈acc):
 ∀{l:List (Nat×Fp)},p∈l->wB x q.2.gb q.2.ga∈zcw t acc l
 |p'::l,hp=>by
  rcases zgn.mp hp with rfl|hp
  ·exact qga hx hw ho hq
  ·exact WT (qf9 hx hw ho hq hp)
theorem Wu{ops:Array Oper}{acc:List (Nat×Fp)}(h:∀o∈qx1 ops acc,o=some ()){p q:Nat×Fp}(hp:p∈acc)(hq:q∈acc){x:AV×Nat}(hx:p.2.lq=some x)(hw:q.2.hw=true):
 qch (jl ops.toList []) p.1 q.1=true\/ym x q.2.gb=ym x q.2.ga:=by
 cases ho:qch (jl ops.toList []) p.1 q.1 with
 |true=>exact .inl rfl
 |false=>exact .inr (qh5 (h _ (qf9 hx hw ho hq hp)))
abbrev GoT:=List It->St->Option (AV×Hp)
def Jb(c:Cx)(C:Orc)(G:GoT)(r:Nat)(ops:Array Oper)(is:List Nat)(d:Bool)(acc:List (Nat×Fp))(k:List It)(h i:Nat)(o:Oper)(st:St):Option (AV×Hp):=
 qq c C h o (zy st.sl) (zK st.bx) st.hp fun s b hp=>G (.ops r ops is d (qj9 d i (zcp c.tn h ops o st.sl st.hp hp) acc)::k) (after h o st s b hp)
def qdx(G:GoT)(r:Nat)(ops:Array Oper)(is:List Nat)(d:Bool)(acc:List (Nat×Fp))(k:List It)(i:Nat)(o:Oper)(st:St):Option (AV×Hp):=
 G (.ops r ops is d (qj9 d i (JS ops o) acc)::k) ⟨vD st.sl o.dst .ud,st.bx,st.hp⟩
def qmo(st:St)(g:Nat)(b:Bool):St:=⟨(g,.sv (.bool b))::st.sl,st.bx,st.hp⟩
def opF(c:Cx)(C:Orc)(G:GoT)(r:Nat)(ops:Array Oper)(is:List Nat)(d:Bool)(acc:List (Nat×Fp))(k:List It)(h i:Nat)(o:Oper)(st:St):Option (AV×Hp):=
 match yP o ops with
 |none=>none
 |some none=>Jb c C G r ops is d acc k h i o st
 |some (some (g,want))=>match qE st.sl g with
  | .ud=>qdx G r ops is d acc k i o st
  | .sv v=>(asB v).bind fun t=>match want with
   |true=>cond t (Jb c C G r ops is d acc k h i o (qmo st g true)) (qdx G r ops is d acc k i o (qmo st g false))
   |false=>cond t (qdx G r ops is d acc k i o (qmo st g true)) (Jb c C G r ops is d acc k h i o (qmo st g false))
  |_=>none
noncomputable def jI(c:Cx)(C:Orc)(G:GoT)(f:FuncId)(its:List It)(st:St):Option (AV×Hp):=
 match its with
 |[]=>fin c f st
 | .inBlock _::k=>G k st
 | .inLoop b::k=>G (.code b::.inLoop b::k) st
 | .inScope _::k=>G k st
 | .code (.scope b)::k=>G (.code b::.inScope b::k) st
 | .code .skip::k=>G k st
 | .code (.label _)::k=>G k st
 | .code .ret::_=>fin c f st
 | .code (.seq a b)::k=>G (.code a::.code b::k) st
 | .code (.block id b)::k=>G (.code b::.inBlock id::k) st
 | .code (.loop b)::k=>G (.inLoop b::k) st
 | .code (.exit id)::k=>(Wt id k).bind fun k'=>G k' st
 | .code (.cond x a b)::k=>(xz (zy st.sl x)).bind fun v=>(asB v).bind fun t=>cond t (G (.code a::k) st) (G (.code b::k) st)
 | .code (.region r ops d)::k=>G (.ops r ops (List.range ops.size) d []::k) (mask (c.M f r) st)
 | .ops r ops [] d acc::k=>cond (!d||JT ops acc) (qmc (qx1 ops acc) (G k st)) none
 | .ops r ops (i::is) d acc::k=>(ops[i]?).bind fun o=>opF c C G r ops is d acc k (c.H f r i) i o st
 |_=>none
noncomputable def vJ(c:Cx)(C:Orc)(f:FuncId):Nat->List It->St->Option (AV×Hp)
 |0=>fun _ _=>none
 |n+1=>jI c C (vJ c C f n) f
def yj{R:Type}(c:Cx)(f:FuncId)(xs:List AV)(hp:Hp)(K:List It->St->Option R):Option R:=
 match c.F f with
 |some fn=>match fn.body with
  |some b=>yY c 0 fn.params.toList xs fun l=>K [.code b] ⟨l,[],hp⟩
  |none=>none
 |none=>none
noncomputable def jy(c:Cx):Nat->Orc
 |0=>fun _ _ _=>none
 |n+1=>fun f xs hp=>yj c f xs hp (vJ c (jy c n) f n)
def Le{α:Type}(a b:Option α):Prop:=∀r,a=some r->b=some r
theorem Le.refl{α:Type}(a:Option α):Le a a:=fun _ h=>h
theorem Le.trans{α:Type}{a b c:Option α}(h:Le a b)(h':Le b c):Le a c:=fun r hr=>h' r (h r hr)
abbrev k3:Kt (SV×BE×Hp):=fun s b hp=>some (s,b,hp)
section nat
variable {R:Type}
theorem qH(ti:TI)(h:Nat)(cs:List AV)(off:Nat)(K:SV->List AV->Option R):
 ju ti h cs off K=(ju ti h cs off fun s c=>some (s,c)).bind fun p=>K p.1 p.2:=by
 unfold ju
 repeat' split
 all_goals simp[zgj]
theorem jm(ti:TI)(r:AV)(K:SV->Option R):VC ti r K=(VC ti r some).bind K:=by
 unfold VC
 repeat' split
 all_goals simp[zgj]
theorem yX(h:Nat)(ti:TI)(a:SV)(gb:Nat->Option (Nat×List AV))(hp:Hp)(K:Kt R):
 zT h ti a gb hp K=(zT h ti a gb hp k3).bind fun p=>K p.1 p.2.1 p.2.2:=by
 unfold zT
 repeat' split
 all_goals first
  |(rw[qH];conv=>rhs;rw[qH]
    simp[zgj])
  |(simp only[zgj];congr 1;funext p;congr 1;funext cs;rw[qH];conv=>rhs;rw[qH]
    simp[zgj])
  |simp
theorem qby(ti:TI)(a x:SV)(gb:Nat->Option (Nat×List AV))(hp:Hp)(K:Kt R):
 yS ti a x gb hp K=(yS ti a x gb hp k3).bind fun p=>K p.1 p.2.1 p.2.2:=by
 unfold yS
 simp only[zgj]
 congr 1;funext vs
 repeat' split
 all_goals simp[zgj]
theorem kf(c:Cx)(ti:TI)(a:SV)(f:Nat)(K:SV->Option R):jW c ti a f K=(jW c ti a f some).bind K:=by
 unfold jW
 repeat' split
 all_goals simp[zgj]
theorem xW(c:Cx)(h:Nat)(ti:TI)(a i:SV)(K:SV->Option R):jU c h ti a i K=(jU c h ti a i some).bind K:=by
 unfold jU
 repeat' split
 all_goals simp[zgj]
theorem QH(c:Cx)(h:Nat)(ti:TI)(t:TypeId)(a:SV)(lo hi mx:Option Value)(K:SV->Option R):
 QI c h ti t a lo hi mx K=(QI c h ti t a lo hi mx some).bind K:=by
 unfold QI
 repeat' split
 all_goals simp[zgj]
theorem JV(c:Cx)(s d:TypeId)(si di:TI)(a:SV)(K:SV->Option R):KG c s d si di a K=(KG c s d si di a some).bind K:=by
 unfold KG
 repeat' split
 all_goals simp[zgj]
theorem KW(c:Cx)(op:BinOp)(t:TypeId)(x y:Operand)(a b:SV)(K:SV->Option R):qj3 c op t x y a b K=(qj3 c op t x y a b some).bind K:=by
 unfold qj3
 repeat' split
 all_goals simp[zgj]
theorem JK(c a b:SV)(K:SV->Option R):Ka c a b K=(Ka c a b some).bind K:=by
 unfold Ka
 simp only[zgj]
 congr 1;funext v;congr 1;funext t
 repeat' split
 all_goals first|simp|(cases t<;>simp)
theorem KR(c:Cx)(h:Nat)(o:Oper)(b:Builtin)(ts:List TypeId)(as_:List SV)(hp:Hp)(K:SV->Hp->Option R):VO c h o b ts as_ hp K=(VO c h o b ts as_ hp fun s q=>some (s,q)).bind fun p=>K p.1 p.2:=by
 unfold VO
 repeat' split
 all_goals first
  |(simp[zgj];done)
  |(simp only[zgj];congr 1;funext d;congr 1;funext s
    split<;>simp[zgj])
theorem WJ(ok:Bool)(ei:TI)(f:Option AV)(K:SV->Option R):qja ok ei f K=(qlj ok ei f).bind K:=by
 cases ok
 ·unfold qja qlj ofAK ofA
  dsimp only
  split<;>simp[zgj]
 ·rfl
theorem kK(c:Cx)(t:TypeId)(x i:SV)(ok:Bool)(hp:Hp)(K:SV->Option R):xu c t x i ok hp K=(xu c t x i ok hp some).bind K:=by
 unfold xu
 simp only[WJ]
 repeat' split
 all_goals simp[zgj]
theorem wJ(c:Cx)(t:TypeId)(m k x:SV)(hp:Hp)(K:Hp->Option R):Qe c t m k x hp K=(Qe c t m k x hp some).bind K:=by
 unfold Qe
 repeat' split
 all_goals simp[zgj]
theorem kN(k:TK)(hp:Hp)(s:SV)(K:SV->Hp->Option R):qok k hp s K=(qjp k hp s).bind fun p=>K p.1 p.2:=by
 unfold qok qjp
 split
 ·split<;>simp[zgj]
 ·simp only[zgh]
theorem WZ(c:Cx)(C:Orc)(h:Nat)(ti:TI)(f:FuncId)(caps:List AV)(as_:List SV)(hp:Hp)(K:Kt R):
 je c C h ti f caps as_ hp K=(je c C h ti f caps as_ hp k3).bind fun p=>K p.1 p.2.1 p.2.2:=by
 unfold je
 simp only[zgj]
 congr 1;funext xs
 split
 ·simp only[zgj]
  congr 1;funext p
  rw[jm];conv=>rhs;rw[jm]
  simp[zgj]
 ·split
  ·simp only[zgj]
   congr 1;funext p
   rw[jm];conv=>rhs;rw[jm]
   simp[zgj]
  ·simp only[zgj]
   congr 1;funext u;congr 1;funext p;congr 1;funext u
   rw[jm];conv=>rhs;rw[jm]
   simp[zgj]
theorem jF(kJ:Nat->Option (Nat×Nat))(ev:Operand->SV)(K:List AV->Option R):∀(l:List (Nat×Operand)) (cs:List AV),
 yu kJ ev K l cs=(yu kJ ev some l cs).bind K
 |[],cs=>rfl
 |(i,x)::r,cs=>by
  unfold yu
  split
  ·rfl
  ·simp only[zgj]
   congr 1;funext vs;congr 1;funext cs'
   exact jF kJ ev K r cs'
theorem vj(c:Cx)(C:Orc)(h:Nat)(o:Oper)(ev:Operand->SV)(gb:Nat->Option (Nat×List AV))(hp:Hp)(K:Kt R):
 qq c C h o ev gb hp K=(qq c C h o ev gb hp k3).bind fun p=>K p.1 p.2.1 p.2.2:=by
 unfold qq
 repeat' split
 all_goals first
  |rfl
  |(simp[zgj];done)
  |exact yX _ _ _ _ _ _
  |exact qby _ _ _ _ _ _
  |exact WZ _ _ _ _ _ _ _ _ _
  |(rw[jF];conv=>rhs;rw[jF]
    simp[zgj];done)
  |(rw[JK];conv=>rhs;rw[JK]
    simp[zgj];done)
  |(rw[KW];conv=>rhs;rw[KW]
    simp[zgj];done)
  |(rw[JV];conv=>rhs;rw[JV]
    simp[zgj];done)
  |(rw[kf];conv=>rhs;rw[kf]
    simp[zgj];done)
  |(rw[xW];conv=>rhs;rw[xW]
    simp[zgj];done)
  |(rw[KR];conv=>rhs;rw[KR]
    simp[zgj];done)
  |(rw[kK];conv=>rhs;rw[kK]
    simp[zgj];done)
  |(rw[wJ];conv=>rhs;rw[wJ]
    simp[zgj];done)
  |(simp only[kN];rw[yX];conv=>rhs;rw[yX]
    simp[zgj];done)
  |(simp only[kN];simp[zgj];done)
  |(simp only[zgj];congr 1;funext cs;rw[qH];conv=>rhs;rw[qH]
    simp[zgj];done)
  |(simp only[zgj];congr 1;funext cs;congr 1;funext iv;congr 1;funext j;rw[qH];conv=>rhs;rw[qH]
    simp[zgj];done)
  |(simp only[zgj];congr 1;funext l;congr 1;funext u;congr 1;funext m;rw[QH];conv=>rhs;rw[QH]
    simp[zgj];done)
  |(simp only[zgj];congr 1;funext p;exact WZ _ _ _ _ _ _ _ _ _)
  |(simp only[zgj];congr 1;funext l;congr 1;funext u;congr 1;funext m;congr 1;funext q;repeat' split
    all_goals simp)
  |(simp only[zgj];congr 1;funext l;repeat' split
    all_goals first
     |rfl
     |(simp[zgj];done))
end nat
def OLe(C C':Orc):Prop:=∀f xs hp,Le (C f xs hp) (C' f xs hp)
theorem Le.bind{α β:Type}{a b:Option α}{f g:α->Option β}(h:Le a b)(hf:∀x,Le (f x) (g x)):Le (a.bind f) (b.bind g):=by
 intro r hr
 cases a with
 |none=>simp at hr
 |some x=>rw[h x rfl];exact hf x r hr
theorem Le.cond{α:Type}{a b a' b':Option α}{t:Bool}(h:Le a a')(h':Le b b'):Le (cond t a b) (cond t a' b'):=by cases t<;>assumption
theorem KJ(c:Cx){C C':Orc}(hC:OLe C C')(h:Nat)(ti:TI)(f:FuncId)(caps:List AV)(as_:List SV)(hp:Hp):
 Le (je c C h ti f caps as_ hp k3) (je c C' h ti f caps as_ hp k3):=by
 unfold je
 refine Le.bind (Le.refl _) fun xs=>?_
 split
 ·exact Le.bind (hC _ _ _) fun p=>Le.refl _
 ·split
  ·exact Le.bind (hC _ _ _) fun p=>Le.refl _
  ·exact Le.bind (Le.refl _) fun _=>Le.bind (hC _ _ _) fun p=>Le.refl _
theorem KF(c:Cx){C C':Orc}(hC:OLe C C')(h:Nat)(o:Oper)(ev:Operand->SV)(gb:Nat->Option (Nat×List AV))(hp:Hp):
 Le (qq c C h o ev gb hp k3) (qq c C' h o ev gb hp k3):=by
 unfold qq
 repeat' split
 all_goals first
  |exact Le.refl _
  |exact KJ c hC _ _ _ _ _ _
  |exact Le.bind (Le.refl _) fun p=>KJ c hC _ _ _ _ _ _
noncomputable def lim{α:Type}(s:Nat->Option α):Option α:=
 open Classical in if h:∃n r,s n=some r then s h.choose else none
theorem qfd{α:Type}{s:Nat->Option α}(hs:∀n,Le (s n) (s (n+1)))(r:α):lim s=some r↔∃n,s n=some r:=by
 have up:∀n m,Le (s n) (s (n+m)):=by
  intro n m
  induction m with
  |zero=>exact Le.refl _
  |succ m ih=>exact ih.trans (hs (n+m))
 constructor
 ·intro h
  unfold lim at h
  split at h
  ·exact⟨_,h⟩
  ·cases h
 ·rintro⟨n,hn⟩
  unfold lim
  have h:∃n r,s n=some r:=⟨n,r,hn⟩
  rw[dif_pos h]
  obtain⟨r',hr'⟩:=h.choose_spec
  have a:=up n h.choose r hn
  have b:=up h.choose n r' hr'
  rw[Nat.add_comm]at b
  rw[a]at b
  cases b
  exact hr'
theorem Le.ite{α:Type}{p:Prop}[Decidable p]{a b a' b':Option α}(h:Le a a')(h':Le b b'):Le (if p then a else b) (if p then a' else b'):=by
 split<;>assumption
def GLe(G G':List It->St->Option (AV×Hp)):Prop:=∀its st,Le (G its st) (G' its st)
theorem qol(c:Cx){C C':Orc}(hC:OLe C C'){G G':List It->St->Option (AV×Hp)}(hG:GLe G G')(h:Nat)(o:Oper)(ev:Operand->SV)
 (gb:Nat->Option (Nat×List AV)) (hp:Hp) (its:SV->BE->Hp->List It) (sts:SV->BE->Hp->St):
 Le (qq c C h o ev gb hp fun s b q=>G (its s b q) (sts s b q)) (qq c C' h o ev gb hp fun s b q=>G' (its s b q) (sts s b q)):=by
 rw[vj (K:=fun s b q=>G (its s b q) (sts s b q)),vj (K:=fun s b q=>G' (its s b q) (sts s b q))]
 exact Le.bind (KF c hC _ _ _ _ _) fun p=>hG _ _
theorem Zd(c:Cx){C C':Orc}(hC:OLe C C'){G G':GoT}(hG:GLe G G')(r:Nat)(ops:Array Oper)(is:List Nat)(d:Bool)(acc:List (Nat×Fp))(k:List It)(h i:Nat)(o:Oper)(st:St):
 Le (Jb c C G r ops is d acc k h i o st) (Jb c C' G' r ops is d acc k h i o st):=qol c hC hG _ _ _ _ _ _ _
theorem qtn(c:Cx){C C':Orc}(hC:OLe C C'){G G':GoT}(hG:GLe G G')(r:Nat)(ops:Array Oper)(is:List Nat)(d:Bool)(acc:List (Nat×Fp))(k:List It)(h i:Nat)(o:Oper)(st:St):
 Le (opF c C G r ops is d acc k h i o st) (opF c C' G' r ops is d acc k h i o st):=by
 unfold opF
 split
 ·exact Le.refl _
 ·exact Zd c hC hG _ _ _ _ _ _ _ _ _ _
 ·split
  ·exact hG _ _
  ·refine Le.bind (Le.refl _) fun t=>?_
   split
   ·exact Le.cond (Zd c hC hG _ _ _ _ _ _ _ _ _ _) (hG _ _)
   ·exact Le.cond (hG _ _) (Zd c hC hG _ _ _ _ _ _ _ _ _ _)
  ·exact Le.refl _
theorem vq(c:Cx){C C':Orc}(hC:OLe C C'){G G':GoT}(hG:GLe G G')(f:FuncId)(its:List It)(st:St):
 Le (jI c C G f its st) (jI c C' G' f its st):=by
 unfold jI
 split
 all_goals first
  |exact Le.refl _
  |exact hG _ _
  |exact Le.bind (Le.refl _) fun v=>Le.bind (Le.refl _) fun t=>Le.cond (hG _ _) (hG _ _)
  |exact Le.bind (Le.refl _) fun v=>hG _ _
  |exact Le.cond (fun r h=>KT (kn h).1 (hG _ _ r (kn h).2)) (Le.refl _)
  |exact Le.bind (Le.refl _) fun v=>qtn c hC hG _ _ _ _ _ _ _ _ _ _
theorem ZV(c:Cx){C C':Orc}(hC:OLe C C')(f:FuncId):∀n its st,Le (vJ c C f n its st) (vJ c C' f n its st)
 |0,_,_=>Le.refl _
 |n+1,its,st=>vq c hC (fun its st=>ZV c hC f n its st) f its st
theorem ZU(c:Cx)(C:Orc)(f:FuncId):∀n its st,Le (vJ c C f n its st) (vJ c C f (n+1) its st)
 |0,_,_=>fun r h=>by simp[vJ]at h
 |n+1,its,st=>vq c (fun f xs hp=>Le.refl _) (fun its st=>ZU c C f n its st) f its st
theorem vH{R:Type}(c:Cx):∀(i:Nat) (ts:List TypeId) (xs:List AV) (K K':Slots->Option R),(∀l,Le (K l) (K' l))->Le (yY c i ts xs K) (yY c i ts xs K')
 |_,[],[],_,_,h=>h _
 |i,[],_::xs,_,_,h=>vH c (i+1) [] xs _ _ fun l=>h _
 |_,_::_,[],_,_,_=>Le.refl _
 |i,t::ts,x::xs,_,_,h=>by
  unfold yY
  split
  ·split
   ·exact Le.bind (Le.refl _) fun v=>vH c (i+1) ts xs _ _ fun l=>h _
   ·exact vH c (i+1) ts xs _ _ fun l=>h _
  ·exact Le.refl _
theorem Yo{R:Type}(c:Cx)(f:FuncId)(xs:List AV)(hp:Hp){K K':List It->St->Option R}(h:∀its st,Le (K its st) (K' its st)):
 Le (yj c f xs hp K) (yj c f xs hp K'):=by
 unfold yj
 repeat' split
 all_goals first
  |exact Le.refl _
  |exact vH c _ _ _ _ _ (fun l=>h _ _)
theorem xE(c:Cx):∀n,OLe (jy c n) (jy c (n+1))
 |0=>fun f xs hp r h=>by simp[jy]at h
 |n+1=>fun f xs hp=>by
  show Le (yj c f xs hp (vJ c (jy c n) f n)) (yj c f xs hp (vJ c (jy c (n+1)) f (n+1)))
  exact Yo c f xs hp fun its st=>(ZV c (xE c n) f n its st).trans (ZU c _ f n its st)
noncomputable def run(c:Cx):Orc:=fun f xs hp=>lim fun n=>jy c n f xs hp
noncomputable def go(c:Cx)(f:FuncId)(its:List It)(st:St):Option (AV×Hp):=lim fun n=>vJ c (jy c n) f n its st
theorem xO{c:Cx}{f:FuncId}{xs:List AV}{hp:Hp}{r:AV×Hp}:run c f xs hp=some r↔∃n,jy c n f xs hp=some r:=
 qfd (fun n=>xE c n f xs hp) r
theorem zak(c:Cx)(f:FuncId)(its:List It)(st:St)(n:Nat):Le (vJ c (jy c n) f n its st) (vJ c (jy c (n+1)) f (n+1) its st):=
 (ZV c (xE c n) f n its st).trans (ZU c _ f n its st)
theorem jv{c:Cx}{f:FuncId}{its:List It}{st:St}{r:AV×Hp}:go c f its st=some r↔∃n,vJ c (jy c n) f n its st=some r:=
 qfd (zak c f its st) r
theorem qxg(c:Cx){n m:Nat}(h:n<=m):OLe (jy c n) (jy c m):=by
 obtain⟨d,rfl⟩:=Nat.exists_eq_add_of_le h
 intro f xs hp
 induction d with
 |zero=>exact Le.refl _
 |succ d ih=>exact(ih qc).trans (xE c (n+d) f xs hp)
theorem zck(c:Cx)(f:FuncId){n m:Nat}(h:n<=m):GLe (vJ c (jy c n) f n) (vJ c (jy c m) f m):=by
 obtain⟨d,rfl⟩:=Nat.exists_eq_add_of_le h
 intro its st
 induction d with
 |zero=>exact Le.refl _
 |succ d ih=>exact(ih qc).trans (zak c f its st (n+d))
theorem yJ{α β:Type}{o:Option α}{f:α->Option β}{fs:Nat->α->Option β}(h:∀x r,f x=some r->∃n,fs n x=some r){r:β}
 (hr:o.bind f=some r):∃n,o.bind (fs n)=some r:=by
 cases o with
 |none=>simp at hr
 |some x=>exact h x r hr
theorem KK(c:Cx)(h:Nat)(ti:TI)(f:FuncId)(caps:List AV)(as_:List SV)(hp:Hp){r:SV×BE×Hp}
 (hr:je c (run c) h ti f caps as_ hp k3=some r):∃n,je c (jy c n) h ti f caps as_ hp k3=some r:=by
 unfold je at hr⊢
 refine yJ (fun xs r hr=>?_) hr
 by_cases e:h=2
 ·simp only[if_pos e]at hr⊢
  obtain⟨p,hp',hr⟩:=bsm hr
  obtain⟨n,hn⟩:=xO.mp hp'
  exact⟨n,by rw[hn];exact hr⟩
 ·simp only[if_neg e]at hr⊢
  by_cases e4:h=4
  ·simp only[if_pos e4]at hr⊢
   obtain⟨p,hp',hr⟩:=bsm hr
   obtain⟨n,hn⟩:=xO.mp hp'
   exact⟨n,by rw[hn];exact hr⟩
  ·simp only[if_neg e4]at hr⊢
   obtain⟨u,hu,hr⟩:=bsm hr
   obtain⟨p,hp',hr⟩:=bsm hr
   obtain⟨n,hn⟩:=xO.mp hp'
   exact⟨n,by rw[hu];simp only[zgh];rw[hn];exact hr⟩
theorem qjt(c:Cx)(h:Nat)(o:Oper)(ev:Operand->SV)(gb:Nat->Option (Nat×List AV))(hp:Hp){r:SV×BE×Hp}
 (hr:qq c (run c) h o ev gb hp k3=some r):∃n,qq c (jy c n) h o ev gb hp k3=some r:=by
 revert hr
 unfold qq
 split
 all_goals try exact fun hr=>⟨0,hr⟩
 repeat' split
 all_goals intro hr
 all_goals first
  |exact⟨0,hr⟩
  |exact KK c _ _ _ _ _ hp hr
  |exact yJ (fun p r hr=>KK c _ _ _ _ _ hp hr) hr
theorem qom(c:Cx)(f:FuncId)(h:Nat)(o:Oper)(ev:Operand->SV)
 (gb:Nat->Option (Nat×List AV)) (hp:Hp) (its:SV->BE->Hp->List It) (sts:SV->BE->Hp->St) {r:AV×Hp}
 (hr:(qq c (run c) h o ev gb hp fun s b q=>go c f (its s b q) (sts s b q))=some r):
 ∃n,(qq c (jy c n) h o ev gb hp fun s b q=>vJ c (jy c n) f n (its s b q) (sts s b q))=some r:=by
 rw[vj]at hr
 obtain⟨p,h1,h2⟩:=bsm hr
 obtain⟨n,hn⟩:=qjt c h o ev gb hp h1
 obtain⟨m,hm⟩:=jv.mp h2
 refine⟨max n m,?_⟩
 rw[vj]
 rw[KF c (qxg c (Nat.le_max_left n m)) h o ev gb hp p hn]
 exact zck c f (Nat.le_max_right n m) _ _ r hm
theorem Ze(c:Cx)(f:FuncId)(r:Nat)(ops:Array Oper)(is:List Nat)(d:Bool)(acc:List (Nat×Fp))(k:List It)(h i:Nat)(o:Oper)(st:St){q:AV×Hp}
 (hr:Jb c (run c) (go c f) r ops is d acc k h i o st=some q):∃n,Jb c (jy c n) (vJ c (jy c n) f n) r ops is d acc k h i o st=some q:=
 qom c f h o (zy st.sl) (zK st.bx) st.hp (fun s b hp=>.ops r ops is d (qj9 d i (zcp c.tn h ops o st.sl st.hp hp) acc)::k) (fun s b hp=>after h o st s b hp) hr
theorem qto(c:Cx)(f:FuncId)(r:Nat)(ops:Array Oper)(is:List Nat)(d:Bool)(acc:List (Nat×Fp))(k:List It)(h i:Nat)(o:Oper)(st:St){q:AV×Hp}
 (hr:opF c (run c) (go c f) r ops is d acc k h i o st=some q):∃n,opF c (jy c n) (vJ c (jy c n) f n) r ops is d acc k h i o st=some q:=by
 revert hr
 unfold opF
 split
 ·intro hr;cases hr
 ·intro hr;exact Ze c f _ _ _ _ _ _ _ _ _ _ hr
 ·split
  ·intro hr;exact jv.mp hr
  ·intro hr
   refine yJ (fun t r hr=>?_) hr
   revert hr
   split
   ·intro hr
    cases t
    ·exact jv.mp hr
    ·exact Ze c f _ _ _ _ _ _ _ _ _ _ hr
   ·intro hr
    cases t
    ·exact Ze c f _ _ _ _ _ _ _ _ _ _ hr
    ·exact jv.mp hr
  ·intro hr;cases hr
theorem qhz(c:Cx)(f:FuncId)(its:List It)(st:St){r:AV×Hp}(hr:jI c (run c) (go c f) f its st=some r):
 ∃n,jI c (jy c n) (vJ c (jy c n) f n) f its st=some r:=by
 unfold jI at hr⊢
 split at hr
 all_goals first
  |exact⟨0,hr⟩
  |exact jv.mp hr
  |exact yJ (fun v r hr=>jv.mp hr) hr
  |exact yJ (fun v r hr=>qto c f _ _ _ _ _ _ _ _ _ _ hr) hr
  |skip
 ·refine yJ (fun v r hr=>yJ (fun t r hr=>?_) hr) hr
  cases t
  ·exact jv.mp hr
  ·exact jv.mp hr
 ·rename_i d acc k
  generalize(!d||JT _ acc)=t at hr⊢
  cases t
  ·cases hr
  ·obtain⟨h1,h2⟩:=kn hr
   obtain⟨n,hn⟩:=jv.mp h2
   exact⟨n,KT h1 hn⟩
theorem qlt(c:Cx)(f:FuncId)(its:List It)(st:St):go c f its st=jI c (run c) (go c f) f its st:=by
 apply Option.ext
 intro r
 constructor
 ·intro h
  obtain⟨n,hn⟩:=jv.mp h
  cases n with
  |zero=>simp[vJ]at hn
  |succ n=>
   have hC:OLe (jy c (n+1)) (run c):=fun f xs hp r hr=>xO.mpr ⟨n+1,hr⟩
   have hG:GLe (vJ c (jy c (n+1)) f n) (go c f):=fun its st r hr=>jv.mpr ⟨n+1,ZU c _ f n its st r hr⟩
   exact vq c hC hG f its st r hn
 ·intro h
  obtain⟨n,hn⟩:=qhz c f its st h
  refine jv.mpr ⟨n+1,?_⟩
  exact vq c (xE c n) (fun its st=>ZV c (xE c n) f n its st) f its st r hn
theorem zO{R:Type}(c:Cx):∀(i:Nat) (ts:List TypeId) (xs:List AV) (K:Slots->Option R),yY c i ts xs K=(yY c i ts xs some).bind K
 |_,[],[],_=>rfl
 |i,[],x::xs,K=>by
  simp only[yY]
  rw[zO c (i+1) [] xs]
  conv=>rhs;rw[zO c (i+1) [] xs]
  simp[zgj]
 |_,_::_,[],_=>rfl
 |i,t::ts,x::xs,K=>by
  simp only[yY]
  split
  ·split
   ·simp only[zgj]
    congr 1;funext v
    rw[zO c (i+1) ts xs]
    conv=>rhs;rw[zO c (i+1) ts xs]
    simp[zgj]
   ·rw[zO c (i+1) ts xs]
    conv=>rhs;rw[zO c (i+1) ts xs]
    simp[zgj]
  ·rfl
theorem zbl(c:Cx)(f:FuncId)(xs:List AV)(hp:Hp):run c f xs hp=yj c f xs hp (go c f):=by
 apply Option.ext
 intro r
 constructor
 ·intro h
  obtain⟨n,hn⟩:=xO.mp h
  cases n with
  |zero=>simp[jy]at hn
  |succ n=>exact Yo c f xs hp (fun its st r hr=>jv.mpr ⟨n,hr⟩) r hn
 ·intro h
  have key:∃n,yj c f xs hp (vJ c (jy c n) f n)=some r:=by
   revert h
   unfold yj
   split
   ·split
    ·intro h
     rw[zO]at h
     obtain⟨l,h1,h2⟩:=bsm h
     obtain⟨n,hn⟩:=jv.mp h2
     exact⟨n,by rw[zO,h1];exact hn⟩
    ·intro h;cases h
   ·intro h;cases h
  obtain⟨n,hn⟩:=key
  exact xO.mpr ⟨n+1,hn⟩
theorem Jj(k:Nat):Nat.beq k k=true:=qf
theorem qdb{j k:Nat}(h:j≠k):Nat.beq j k=false:=by
 cases hb:Nat.beq j k
 ·rfl
 ·exact absurd (Nat.eq_of_beq_eq_true hb) h
theorem Za(b:Boxes):∀(live:List Nat) (k:Nat),zK (yV b live) k=if k∈live then zK b k else none
 |[],k=>by simp[yV,zK]
 |j::r,k=>by
  have ih:=Za b r k
  simp only[yV]
  split
  ·rename_i g cs h
   simp only[zK]
   by_cases e:j=k
   ·subst e;simp[h]
   ·rw[qdb e];simp only[ih,zgn]
    have:k≠j:=fun h=>e h.symm
    simp[this]
  ·rename_i h
   rw[ih]
   by_cases e:j=k
   ·subst e;simp[h]
   ·have:k≠j:=fun h=>e h.symm
    simp[this]
theorem Yw(b b':Boxes):∀(live:List Nat),(∀k∈live,zK b' k=zK b k)->yV b' live=yV b live
 |[],_=>rfl
 |j::r,h=>by
  simp only[yV]
  rw[h j qf,Yw b b' r fun k hk=>h k (by simp[hk])]
theorem vr(b:Boxes)(l:Slots):∀(live:List Nat) (k:Nat),qE (wI b l live) k=if k∈live then Kg b (qE l k)else .un
 |[],k=>by simp[wI,qE]
 |j::r,k=>by
  have ih:=vr b l r k
  simp only[wI]
  by_cases e:j=k
  ·subst e
   split
   ·rename_i h
    rw[ih];simp[h]
   ·rename_i s h
    simp[qE,Jj]
  ·have e':k≠j:=fun h=>e h.symm
   split
   ·rw[ih];simp[e']
   ·simp[qE,qdb e,ih,e']
theorem Yv(b:Boxes)(l l':Slots):∀(live:List Nat),(∀k∈live,Kg b (qE l' k)=Kg b (qE l k))->wI b l' live=wI b l live
 |[],_=>rfl
 |j::r,h=>by
  simp only[wI]
  rw[h j qf,Yv b l l' r fun k hk=>h k (by simp[hk])]
theorem qnz(b:Boxes)(s:SV):Kg b (Kg b s)=Kg b s:=by
 cases s<;>simp only[Kg]
 rename_i k g o
 cases h:zK b k<;>simp[Kg,h]
theorem qn4(m:Option (List Nat))(st:St):mask m (mask m st)=mask m st:=by
 cases m with
 |none=>rfl
 |some live=>
  simp only[mask]
  have hB:yV (yV st.bx live) live=yV st.bx live:=Yw _ _ _ fun k hk=>by rw[Za,if_pos hk]
  rw[hB]
  congr 1
  refine Yv _ _ _ _ fun k hk=>?_
  rw[vr,if_pos hk,qnz]
def qri(ss:List Nat):List It->Bool
 | .code (.region r _ _)::_=>ss.contains r
 |_=>false
def qi6(c:Cx)(f:FuncId):List It->St->St
 | .code (.region r _ _)::_,st=>mask (c.M f r) st
 |_,st=>st
theorem qy1(c:Cx)(f:FuncId)(its:List It)(st:St):go c f its (qi6 c f its st)=go c f its st:=by
 unfold qi6
 split
 ·rw[qlt,qlt c f _ st]
  simp only[jI,qn4]
 ·rfl
noncomputable def qdn(c:Cx)(f:FuncId)(ss:List Nat):Nat->GoT
 |0=>go c f
 |n+1=>fun its st=>cond (qri ss its) (go c f its (qi6 c f its st)) (jI c (run c) (qdn c f ss n) f its st)
theorem qbu(c:Cx)(f:FuncId)(ss:List Nat):∀n,qdn c f ss n=go c f
 |0=>rfl
 |n+1=>by
  funext its st
  simp only[qdn,qbu c f ss n]
  cases qri ss its
  ·exact(qlt c f its st).symm
  ·exact qy1 c f its st
theorem qvo(c:Cx)(f:FuncId)(ss:List Nat)(n:Nat)(its:List It)(st:St):go c f its st=jI c (run c) (qdn c f ss n) f its st:=by
 rw[qbu];exact qlt c f its st
theorem qu7(c:Cx)(f:FuncId)(ss:List Nat)(n:Nat)(xs:List AV)(hp:Hp):run c f xs hp=yj c f xs hp (qdn c f ss n):=by
 rw[qbu];exact zbl c f xs hp
def sub:List Nat->Code->Code
 |[],c=>c
 |0::p,.seq a _=>sub p a
 |_::p,.seq _ b=>sub p b
 |0::p,.cond _ a _=>sub p a
 |_::p,.cond _ _ b=>sub p b
 |_::p,.block _ b=>sub p b
 |_::p,.loop b=>sub p b
 |_::p,.scope b=>sub p b
 |_,c=>c
inductive Ow where
 |fr|oth
 |box (k g:Nat)
 |obj (b g:Nat)
 |sl (k j i:Nat)
 |bc (k g i:Nat)
 |oc (b g i:Nat)
structure Gh where
 Om:Nat->Ow
 I:Nat->Nat
 mu:Nat->Nat->Option Nat
 la:Nat->Nat->Option Nat
def KQ(w:World)(b:Nat):Option Nat:=
 match w.heap[b]? with
 |some (.cells arr _ _)=>some arr.size
 |_=>none
theorem Zj{w w':World}{b:Nat}(h:w'.heap[b]?=w.heap[b]?):KQ w' b=KQ w b:=by simp[KQ,h]
inductive RelR (G : Gh) (w : World) : AV → Value → Prop where
 |sc (v:Value):v.oneCell'=true->RelR G w (.sc v) v
 |sl0 (sz:Nat) (a:Addr) (cap:Nat):0<sz->RelR G w (.sl sz []) (.slice (some a) 0 cap)
 |sl (sz:Nat) (cs:List AV) (n cap b o:Nat) (vs:List Value):0<sz->0<n->cs.length=n*sz->n<=cap->o+n*sz<=G.I b->vs.length=cs.length->
  (∀k c,vs[k]?=some c->w.cell? ⟨b,o+k,none⟩=some c)->(∀x∈cs,vl x=true)->(∀(k:Nat) (x:AV) (c:Value),cs[k]?=some x->vs[k]?=some c->RelR G w x c)->
  RelR G w (.sl sz cs) (.slice (some ⟨b,o,none⟩) n cap)
 |ptr (b g off blk:Nat):G.mu b g=some blk->RelR G w (.ptr b g off) (.pointer (some ⟨blk,off,none⟩))
 |ms (b g off n sz cap blk off' z:Nat):G.mu b g=some blk->n<=cap->(0<n->off'=off)->KQ w blk=some z->off'+cap*sz<=z->RelR G w (.ms b g off n sz) (.slice (some ⟨blk,off',none⟩) n cap)
 |fn (f:FuncId) (caps:List AV) (vs:List Value):(Nat.blt f 4294967296=true\/caps=[])->caps.length=vs.length->
  (∀(k:Nat) (x:AV) (c:Value),caps[k]?=some x->vs[k]?=some c->RelR G w x c)->RelR G w (.fn f caps) (.func (.func f) #[] vs.toArray)
 |map (b blk:Nat):G.mu b 1=some blk->RelR G w (.map b) (.map (some blk))
 |fnb (f:FuncId) (bs:List AV) (vs:List Value):bs≠[]->bs.length=vs.length->
  (∀(k:Nat) (x:AV) (c:Value),bs[k]?=some x->vs[k]?=some c->RelR G w x c)->RelR G w (.fn (4294967296+f) bs) (.func (.func f) vs.toArray #[])
structure TokR (G : Gh) (w : World) (sz : Nat) (cs : List AV) (v : Value) (b : Nat) : Prop where
 ex:∃n cap arr e,v= .slice (some ⟨b,0,none⟩) n cap/\0<sz/\cs.length=n*sz/\n<=cap/\G.I b=n*sz/\
  w.heap[b]?=some (.cells arr e (0,0))/\arr.size=cap*sz/\∀(k:Nat) (x:AV),cs[k]?=some x->∃c,arr[k]?=some c/\RelR G w x c
 vl:∀x∈cs,vl x=true
def jt(G:Gh)(w:World)(p:Ow)(x:AV)(v:Value):Prop:=
 match x with
 | .us sz cs=>∃b,G.Om b=p/\TokR G w sz cs v b
 | .agg _=>False
 | .tup _=>False
 |x=>RelR G w x v
def zj(G:Gh)(w:World)(p:Nat->Ow)(x:AV)(v:Value):Prop:=
 match x with
 | .agg cs=>∃vs:List Value,v= .agg vs.toArray/\cs.length=vs.length/\∀(i:Nat) (x:AV) (c:Value),cs[i]?=some x->vs[i]?=some c->jt G w (p i) x c
 |x=>jt G w (p 0) x v
def qL(G:Gh)(w:World)(k:Nat)(s:SV)(v:Value):Prop:=
 match s with
 | .sv u=>v=u/\u.oneCell'=true
 | .av x=>zj G w (.sl k 0 ·) x v
 | .tp l=>∃vs:List Value,v= .tuple vs.toArray/\l.length=vs.length/\∀(j:Nat) (x:AV) (c:Value),l[j]?=some x->vs[j]?=some c->zj G w (.sl k j ·) x c
 | .lp k' g off=>∃blk,G.la k' g=some blk/\v= .pointer (some ⟨blk,off,none⟩)
 | .rv cs=>∃(b o:Nat) (vs:List Value),v= .pointer (some ⟨b,o,none⟩)/\vs.length=cs.length/\(∀i,i<cs.length->o+i<G.I b)/\
  (∀(k:Nat) (c:Value),vs[k]?=some c->w.cell? ⟨b,o+k,none⟩=some c)/\∀(k:Nat) (x:AV) (c:Value),cs[k]?=some x->vs[k]?=some c->RelR G w x c
 | .un=>True
 | .ud=>v=undef
def yL(G:Gh)(w:World)(blk:Nat)(p:Nat->Ow)(cs:List AV):Prop:=
 ∃arr e,w.heap[blk]?=some (.cells arr e (0,0))/\cs.length<=arr.size/\∀(i:Nat) (x:AV) (c:Value),cs[i]?=some x->arr[i]?=some c->jt G w (p i) x c
def YR(G:Gh)(w:World)(x:AV)(v:Value):Prop:=
 match x with
 | .agg cs=>∃vs:List Value,v= .agg vs.toArray/\cs.length=vs.length/\∀(i:Nat) (x:AV) (c:Value),cs[i]?=some x->vs[i]?=some c->RelR G w x c
 |x=>RelR G w x v
def Vg(G:Gh)(w:World)(x:AV)(e:MapEntry):Prop:=
 match x with
 | .tup [.sc k,y]=>e.key=k/\k.oneCell'=true/\YR G w y e.val
 |_=>False
def qgw(G:Gh)(w:World)(blk:Nat)(cs:List AV):Prop:=
 ∃es clock,w.heap[blk]?=some (.map es clock)/\es.size=cs.length/\∀(i:Nat) (x:AV) (e:MapEntry),cs[i]?=some x->es[i]?=some e->Vg G w x e
def ObR(G:Gh)(w:World)(blk:Nat)(p:Nat->Ow)(g:Nat)(cs:List AV):Prop:=
 match g with
 |0=>yL G w blk p cs
 |_+1=>qgw G w blk cs
structure Inv (G : Gh) (w : World) (st : St) (tmps : Array Value) : Prop where
 slots:∀k,qL G w k (qE st.sl k) (tmps.getD k undef)
 boxes:∀k g cs,zK st.bx k=some (g,cs)->∃blk,G.la k g=some blk/\G.Om blk= .box k g/\yL G w blk (.bc k g ·) cs
 heap:∀b g cs,st.hp.get b=some (g,cs)->∃blk,G.mu b g=some blk/\G.Om blk= .obj b g/\ObR G w blk (.oc b g ·) g cs
 next:∀b g,st.hp.next<=b->G.mu b g=none
 hlt:∀b g cs,st.hp.get b=some (g,cs)->b<st.hp.next
 new:∀b,w.heap.size<=b->G.Om b= .fr/\G.I b=0
 vars:∀b,(∃k g,G.Om b= .box k g)\/(∃k g,G.Om b= .obj k g)->G.I b=0
 lps:∀j k g off,qE st.sl j= .lp k g off->∃g' cs,zK st.bx k=some (g',cs)/\g<=g'
def Zm(w w':World):Prop:=w'.os=w.os/\w'.tape=w.tape/\w'.output=w.output
theorem Zm.refl(w:World):Zm w w:=⟨rfl,rfl,rfl⟩
theorem Zm.trans{w w' w'':World}(h:Zm w w')(h':Zm w' w''):Zm w w'':=⟨h'.1.trans h.1,h'.2.1.trans h.2.1,h'.2.2.trans h.2.2⟩
structure Fr (G : Gh) (w : World) (G' : Gh) (w' : World) : Prop where
 size:w.heap.size<=w'.heap.size
 cells:∀b i,i<G.I b->w'.cell? ⟨b,i,none⟩=w.cell? ⟨b,i,none⟩
 imm:∀b,G.I b<=G'.I b
 mu:∀b g x,G.mu b g=some x->G'.mu b g=some x
 same:∀b,b<w.heap.size->G.Om b= .fr\/G.Om b= .oth->w'.heap[b]?=w.heap[b]?/\G'.Om b=G.Om b/\G'.I b=G.I b
 rest:Zm w w'
 bs:∀b z,KQ w b=some z->KQ w' b=some z
theorem Fr.refl(G:Gh)(w:World):Fr G w G w:=⟨zgm _,fun _ _ _=>rfl,fun _=>zgm _,fun _ _ _ h=>h,fun _ _ _=>⟨rfl,rfl,rfl⟩,Zm.refl w,fun _ _ h=>h⟩
theorem Fr.trans{G G' G'':Gh}{w w' w'':World}(h:Fr G w G' w')(h':Fr G' w' G'' w''):Fr G w G'' w'':=by
 refine⟨zhw h.size h'.size,fun b i hi=>?_,fun b=>zhw (h.imm b) (h'.imm b),fun b g x hx=>h'.mu b g x (h.mu b g x hx),fun b hb ho=>?_,h.rest.trans h'.rest,fun b z hz=>h'.bs b z (h.bs b z hz)⟩
 ·rw[h'.cells b i (zg5 hi (h.imm b)),h.cells b i hi]
 ·obtain⟨a1,a2,a3⟩:=h.same b hb ho
  obtain⟨b1,b2,b3⟩:=h'.same b (zg5 hb h.size) (by rw[a2];exact ho)
  exact⟨b1.trans a1,b2.trans a2,b3.trans a3⟩
structure Ev (G : Gh) (w : World) (G' : Gh) (w' : World) : Prop where
 cells:∀b i,i<G.I b->w'.cell? ⟨b,i,none⟩=w.cell? ⟨b,i,none⟩
 imm:∀b,G.I b<=G'.I b
 mu:∀b g x,G.mu b g=some x->G'.mu b g=some x
 bs:∀b z,KQ w b=some z->KQ w' b=some z
theorem Fr.ev{G G':Gh}{w w':World}(h:Fr G w G' w'):Ev G w G' w':=⟨h.cells,h.imm,h.mu,h.bs⟩
theorem Ev.refl(G:Gh)(w:World):Ev G w G w:=(Fr.refl G w).ev
theorem RelR.ev{G G':Gh}{w w':World}(he:Ev G w G' w'){x:AV}{v:Value}(h:RelR G w x v):RelR G' w' x v:=by
 induction h with
 |sc v h=>exact .sc v h
 |sl0 sz a cap h=>exact .sl0 sz a cap h
 |sl sz cs n cap b o vs h1 h2 h3 h4 h5 h6 h7 hv _ ih=>
  refine .sl sz cs n cap b o vs h1 h2 h3 h4 (zhw h5 (he.imm b)) h6 (fun k c hk=>?_) hv ih
  have hlt:k<vs.length:=(zgq.mp hk).1
  rw[he.cells b (o+k) qc]
  exact h7 k c hk
 |ptr b g off blk h=>exact .ptr b g off blk (he.mu _ _ _ h)
 |ms b g off n sz cap blk off' z h h' h'' h3 h4=>exact .ms b g off n sz cap blk off' z (he.mu _ _ _ h) h' h'' (he.bs _ _ h3) h4
 |fn f caps vs h0 h _ ih=>exact .fn f caps vs h0 h ih
 |map b blk h=>exact .map b blk (he.mu _ _ _ h)
 |fnb f bs vs h0 h _ ih=>exact .fnb f bs vs h0 h ih
theorem TokR.ev{G G':Gh}{w w':World}(he:Ev G w G' w'){sz:Nat}{cs:List AV}{v:Value}{b:Nat}(hb:w'.heap[b]?=w.heap[b]?) (hi:G'.I b=G.I b)
 (h:TokR G w sz cs v b):TokR G' w' sz cs v b:=by
 obtain⟨n,cap,arr,e,h1,h2,h3,h4,h5,h6,h7,h9⟩:=h.ex
 refine⟨⟨n,cap,arr,e,h1,h2,h3,h4,hi.trans h5,hb.trans h6,h7,fun k x hk=>?_⟩,h.vl⟩
 obtain⟨c,hc,hr⟩:=h9 k x hk
 exact⟨c,hc,hr.ev he⟩
def zq(G:Gh)(w:World)(G':Gh)(w':World)(p q:Ow):Prop:=∀b,G.Om b=p->w'.heap[b]?=w.heap[b]?/\G'.I b=G.I b/\G'.Om b=q
theorem jt.ev{G G':Gh}{w w':World}(he:Ev G w G' w'){p q:Ow}(hk:zq G w G' w' p q){x:AV}{v:Value}(h:jt G w p x v):jt G' w' q x v:=by
 cases x with
 |us sz cs=>
  obtain⟨b,hb,ht⟩:=h
  obtain⟨h1,h2,h3⟩:=hk b hb
  exact⟨b,h3,ht.ev he h1 h2⟩
 |agg _=>exact h
 |tup _=>exact h
 |sc _=>exact RelR.ev he h
 |sl _ _=>exact RelR.ev he h
 |ptr _ _ _=>exact RelR.ev he h
 |ms _ _ _ _ _=>exact RelR.ev he h
 |fn _ _=>exact RelR.ev he h
 |map _=>exact RelR.ev he h
theorem xQ{G:Gh}{w:World}{p:Nat->Ow}{x:AV}{v:Value}(hx:∀cs,x≠ .agg cs):zj G w p x v=jt G w (p 0) x v:=by
 cases x<;>first|rfl|exact absurd rfl (hx _)
theorem Zl(x:AV):(∃cs,x= .agg cs)\/∀cs,x≠ .agg cs:=by
 cases x<;>first|exact .inl ⟨_,rfl⟩|exact .inr fun _ h=>by cases h
theorem zj.ev{G G':Gh}{w w':World}(he:Ev G w G' w'){p q:Nat->Ow}(hk:∀i,zq G w G' w' (p i) (q i)){x:AV}{v:Value}(h:zj G w p x v):zj G' w' q x v:=by
 rcases Zl x with⟨cs,rfl⟩|hx
 ·obtain⟨vs,h1,h2,h3⟩:=h
  exact⟨vs,h1,h2,fun i x c hx hc=>(h3 i x c hx hc).ev he (hk i)⟩
 ·rw[xQ hx]at h⊢
  exact h.ev he (hk 0)
theorem qL.ev{G G':Gh}{w w':World}(he:Ev G w G' w'){k k':Nat}{s:SV}(hk:∀j i,zq G w G' w' (.sl k j i) (.sl k' j i))
 (hl:∀a g off x,s= .lp a g off->G.la a g=some x->G'.la a g=some x) {v:Value} (h:qL G w k s v):qL G' w' k' s v:=by
 cases s with
 |sv u=>exact h
 |av x=>exact zj.ev he (hk 0) h
 |tp l=>
  obtain⟨vs,h1,h2,h3⟩:=h
  exact⟨vs,h1,h2,fun j x c hx hc=>(h3 j x c hx hc).ev he (hk j)⟩
 |lp a g off=>
  obtain⟨blk,h1,h2⟩:=h
  exact⟨blk,hl a g off blk rfl h1,h2⟩
 |rv cs=>
  obtain⟨b,o,vs,h1,h2,h3,h4,h5⟩:=h
  refine⟨b,o,vs,h1,h2,fun i hi=>zg5 (h3 i hi) (he.imm b),fun k c hk=>?_,fun k x c hx hc=>(h5 k x c hx hc).ev he⟩
  have hlt:k<vs.length:=(zgq.mp hk).1
  rw[he.cells b (o+k) (h3 k qc)]
  exact h4 k c hk
 |un=>trivial
 |ud=>exact h
theorem yL.ev{G G':Gh}{w w':World}(he:Ev G w G' w'){blk:Nat}{p q:Nat->Ow}{cs:List AV}(hb:w'.heap[blk]?=w.heap[blk]?)
 (hk:∀i,zq G w G' w' (p i) (q i)) (h:yL G w blk p cs):yL G' w' blk q cs:=by
 obtain⟨arr,e,h1,h2,h3⟩:=h
 exact⟨arr,e,hb.trans h1,h2,fun i x c hx hc=>(h3 i x c hx hc).ev he (hk i)⟩
theorem YR.ev{G G':Gh}{w w':World}(he:Ev G w G' w'){x:AV}{v:Value}(h:YR G w x v):YR G' w' x v:=by
 cases x with
 |agg cs=>
  obtain⟨vs,h1,h2,h3⟩:=h
  exact⟨vs,h1,h2,fun i x c hx hc=>(h3 i x c hx hc).ev he⟩
 |tup _=>exact RelR.ev he h
 |us _ _=>exact RelR.ev he h
 |sc _=>exact RelR.ev he h
 |sl _ _=>exact RelR.ev he h
 |ptr _ _ _=>exact RelR.ev he h
 |ms _ _ _ _ _=>exact RelR.ev he h
 |fn _ _=>exact RelR.ev he h
 |map _=>exact RelR.ev he h
theorem Vg.ev{G G':Gh}{w w':World}(he:Ev G w G' w'){x:AV}{e:MapEntry}(h:Vg G w x e):Vg G' w' x e:=by
 unfold Vg at h⊢
 split at h
 ·exact⟨h.1,h.2.1,h.2.2.ev he⟩
 ·exact h.elim
theorem qgw.ev{G G':Gh}{w w':World}(he:Ev G w G' w'){blk:Nat}{cs:List AV}(hb:w'.heap[blk]?=w.heap[blk]?) (h:qgw G w blk cs):qgw G' w' blk cs:=by
 obtain⟨es,clock,h1,h2,h3⟩:=h
 exact⟨es,clock,hb.trans h1,h2,fun i x e hx hc=>(h3 i x e hx hc).ev he⟩
theorem ObR.ev{G G':Gh}{w w':World}(he:Ev G w G' w'){blk:Nat}{p q:Nat->Ow}{g:Nat}{cs:List AV}(hb:w'.heap[blk]?=w.heap[blk]?)
 (hk:∀i,zq G w G' w' (p i) (q i)) (h:ObR G w blk p g cs):ObR G' w' blk q g cs:=by
 cases g with
 |zero=>exact yL.ev he hb hk h
 |succ g=>exact qgw.ev he hb h
structure EvL (G : Gh) (w : World) (G' : Gh) (w' : World) : Prop where
 cells:∀b i,i<G.I b->w'.cell? ⟨b,i,none⟩=w.cell? ⟨b,i,none⟩
 imm:∀b,G.I b<=G'.I b
theorem RelR.evl{G G':Gh}{w w':World}(he:EvL G w G' w'){x:AV}{v:Value}(h:RelR G w x v)(hv:vl x=true):RelR G' w' x v:=by
 induction h with
 |sc v h=>exact .sc v h
 |sl0 sz a cap h=>exact .sl0 sz a cap h
 |sl sz cs n cap b o vs h1 h2 h3 h4 h5 h6 h7 hvl _ ih=>
  refine .sl sz cs n cap b o vs h1 h2 h3 h4 (zhw h5 (he.imm b)) h6 (fun k c hk=>?_) hvl (fun k x c hx hc=>ih k x c hx hc (hvl x (zgo hx)))
  have hlt:k<vs.length:=(zgq.mp hk).1
  rw[he.cells b (o+k) qc]
  exact h7 k c hk
 |ptr b g off blk h=>cases hv
 |ms b g off n sz cap blk off' z h h' h'' h3 h4=>cases hv
 |fn f caps vs h0 h h' ih=>
  have:caps=[]:=by simpa[AI.vl]using hv
  subst this
  exact .fn f [] vs h0 h (by intro k x c hx;simp at hx)
 |map b blk h=>cases hv
 |fnb f bs vs h0 h h' ih=>
  have:bs=[]:=by simpa[AI.vl]using hv
  exact absurd this h0
theorem TokR.evl{G G':Gh}{w w':World}(he:EvL G w G' w'){sz:Nat}{cs:List AV}{v:Value}{b:Nat}(hb:w'.heap[b]?=w.heap[b]?) (hi:G'.I b=G.I b)
 (h:TokR G w sz cs v b):TokR G' w' sz cs v b:=by
 obtain⟨n,cap,arr,e,h1,h2,h3,h4,h5,h6,h7,h9⟩:=h.ex
 refine⟨⟨n,cap,arr,e,h1,h2,h3,h4,hi.trans h5,hb.trans h6,h7,fun k x hk=>?_⟩,h.vl⟩
 obtain⟨c,hc,hr⟩:=h9 k x hk
 exact⟨c,hc,hr.evl he (h.vl x (zgo hk))⟩
theorem jt.evl{G G':Gh}{w w':World}(he:EvL G w G' w'){p q:Ow}(hk:zq G w G' w' p q){x:AV}{v:Value}(h:jt G w p x v)(hv:vl x=true):jt G' w' q x v:=by
 cases x with
 |us sz cs=>
  obtain⟨b,hb,ht⟩:=h
  obtain⟨h1,h2,h3⟩:=hk b hb
  exact⟨b,h3,ht.evl he h1 h2⟩
 |agg _=>exact h
 |tup _=>exact h
 |sc _=>exact RelR.evl he h hv
 |sl _ _=>exact RelR.evl he h hv
 |ptr _ _ _=>exact RelR.evl he h hv
 |ms _ _ _ _ _=>exact RelR.evl he h hv
 |fn _ _=>exact RelR.evl he h hv
 |map _=>exact RelR.evl he h hv
theorem zj.evl{G G':Gh}{w w':World}(he:EvL G w G' w'){p q:Nat->Ow}(hk:∀i,zq G w G' w' (p i) (q i)){x:AV}{v:Value}(h:zj G w p x v)(hv:vlF x=true):zj G' w' q x v:=by
 rcases Zl x with⟨cs,rfl⟩|hx
 ·obtain⟨vs,h1,h2,h3⟩:=h
  exact⟨vs,h1,h2,fun i x c hx hc=>(h3 i x c hx hc).evl he (hk i) (zg9.mp hv x (zgo hx))⟩
 ·rw[xQ hx]at h⊢
  have hv':vl x=true:=by
   cases x<;>first|exact hv|exact absurd rfl (hx _)
  exact h.evl he (hk 0) hv'
theorem Ev.evl{G G':Gh}{w w':World}(h:Ev G w G' w'):EvL G w G' w':=⟨h.cells,h.imm⟩
theorem qX{w:World}{b:Nat}{arr:Array Value}{e:TypeId}{fz:Nat×Nat}(h:w.heap[b]?=some (.cells arr e fz)) (i:Nat):w.cell? ⟨b,i,none⟩=arr[i]?:=by
 simp[World.cell?,h]
theorem qv{α β:Type}(f:α->β)(l:List α)(i:Nat)(y:β)(h:(l.map f)[i]?=some y):∃x,l[i]?=some x/\f x=y:=by
 rw[zgx]at h
 cases hx:l[i]? with
 |none=>rw[hx]at h;cases h
 |some x=>rw[hx]at h;cases h;exact⟨x,rfl,rfl⟩
theorem qR{α β:Type}{l:List α}{m:List β}(h:l.length=m.length){i:Nat}{x:α}(hx:l[i]?=some x):∃y,m[i]?=some y:=by
 have:i<m.length:=by rw[<-h];exact(zgq.mp hx).1
 exact⟨m[i],zgl this⟩
theorem TokR.ro{G:Gh}{w:World}{sz:Nat}{cs:List AV}{v:Value}{b:Nat}(h:TokR G w sz cs v b):RelR G w (.sl sz cs) v:=by
 obtain⟨n,cap,arr,e,rfl,h2,h3,h4,h5,h6,h7,h9⟩:=h.ex
 by_cases hn:n=0
 ·subst hn
  have:cs=[]:=zhk.mp (by simpa using h3)
  subst this
  exact .sl0 sz _ cap h2
 ·have hle:cs.length<=arr.size:=by rw[h3,h7];exact zgz sz h4
  refine .sl sz cs n cap b 0 (arr.toList.take cs.length) h2 qc h3 h4 qc qh (fun k c hk=>?_) h.vl (fun k x c hx hc=>?_)
  ·rw[zha,qX h6]
   rw[zgt]at hk
   split at hk
   ·simpa using hk
   ·cases hk
  ·obtain⟨c',hc',hr⟩:=h9 k x hx
   rw[zgt]at hc
   split at hc
   ·have:arr[k]?=some c:=by simpa using hc
    rw[this]at hc';cases hc';exact hr
   ·cases hc
theorem jt.ro{G:Gh}{w:World}{p:Ow}{x:AV}{v:Value}(h:jt G w p x v):RelR G w (ro1 x) v:=by
 cases x with
 |us sz cs=>obtain⟨b,_,ht⟩:=h;exact ht.ro
 |agg _=>exact h.elim
 |tup _=>exact h.elim
 |sc _=>exact h
 |sl _ _=>exact h
 |ptr _ _ _=>exact h
 |ms _ _ _ _ _=>exact h
 |fn _ _=>exact h
 |map _=>exact h
theorem RelR.c{G:Gh}{w:World}{x:AV}{v:Value}(h:RelR G w x v)(p:Ow):jt G w p x v:=by
 cases h with
 |sc v h=>exact .sc v h
 |sl0 sz a cap h=>exact .sl0 sz a cap h
 |sl sz cs n cap b o vs h1 h2 h3 h4 h5 h6 h7 h8 h9=>exact RelR.sl sz cs n cap b o vs h1 h2 h3 h4 h5 h6 h7 h8 h9
 |ptr b g off blk h=>exact RelR.ptr b g off blk h
 |ms b g off n sz cap blk off' z h h' h'' h3 h4=>exact RelR.ms b g off n sz cap blk off' z h h' h'' h3 h4
 |fn f caps vs h0 h h'=>exact RelR.fn f caps vs h0 h h'
 |map b blk h=>exact RelR.map b blk h
 |fnb f bs vs h0 h h'=>exact RelR.fnb f bs vs h0 h h'
theorem XR{G:Gh}{w:World}{x:AV}{v:Value}(h:RelR G w x v):ro1 x=x:=by cases h<;>rfl
theorem RelR.ne_agg{G:Gh}{w:World}{x:AV}{v:Value}(h:RelR G w x v):∀cs,x≠ .agg cs:=by cases h<;>intro cs h<;>cases h
theorem jt.ne_agg{G:Gh}{w:World}{p:Ow}{x:AV}{v:Value}(h:jt G w p x v):∀cs,x≠ .agg cs:=by
 rintro cs rfl;exact h
theorem qei{x:AV}(hx:∀cs,x≠ .agg cs):ro x=ro1 x:=by
 cases x<;>first|rfl|exact absurd rfl (hx _)
theorem jt.v{G:Gh}{w:World}{p:Nat->Ow}{x:AV}{v:Value}(h:jt G w (p 0) x v):zj G w p x v:=by
 rw[xQ h.ne_agg];exact h
theorem zj.ro{G G':Gh}{w w':World}(he:Ev G w G' w'){p:Nat->Ow}(q:Nat->Ow){x:AV}{v:Value}(h:zj G w p x v):zj G' w' q (AI.ro x) v:=by
 rcases Zl x with⟨cs,rfl⟩|hx
 ·obtain⟨vs,h1,h2,h3⟩:=h
  refine⟨vs,h1,by simpa using h2,fun i x c hx hc=>?_⟩
  obtain⟨y,hy,rfl⟩:=qv _ _ _ _ hx
  exact((h3 i y c hy hc).ro.ev he).c _
 ·rw[xQ hx]at h
  rw[qei hx]
  exact((h.ro.ev he).c (q 0)).v
theorem qL.ro{G G':Gh}{w w':World}(he:Ev G w G' w'){k:Nat}(k':Nat){s:SV}{v:Value}
 (hl:∀a g off x,s= .lp a g off->G.la a g=some x->G'.la a g=some x) (h:qL G w k s v):qL G' w' k' s.ro v:=by
 cases s with
 |sv u=>exact h
 |av x=>exact zj.ro he _ h
 |tp l=>
  obtain⟨vs,h1,h2,h3⟩:=h
  refine⟨vs,h1,by simpa using h2,fun j x c hx hc=>?_⟩
  obtain⟨y,hy,rfl⟩:=qv _ _ _ _ hx
  exact(h3 j y c hy hc).ro he _
 |lp a g off=>
  obtain⟨blk,h1,h2⟩:=h
  exact⟨blk,hl a g off blk rfl h1,h2⟩
 |rv cs=>
  obtain⟨b,o,vs,h1,h2,h3,h4,h5⟩:=h
  refine⟨b,o,vs,h1,h2,fun i hi=>zg5 (h3 i hi) (he.imm b),fun k c hk=>?_,fun k x c hx hc=>(h5 k x c hx hc).ev he⟩
  have hlt:k<vs.length:=(zgq.mp hk).1
  rw[he.cells b (o+k) (h3 k qc)]
  exact h4 k c hk
 |un=>trivial
 |ud=>exact h
theorem za(l:Slots)(d:Nat)(s:SV)(k:Nat):qE ((d,s)::l) k=if d=k then s else qE l k:=by
 simp only[qE]
 by_cases e:d=k
 ·subst e;simp[Jj]
 ·simp[qdb e,e]
theorem ke(l:Boxes)(d g:Nat)(cs:List AV)(k:Nat):zK (XD l d g cs) k=if d=k then some (g,cs)else zK l k:=by
 simp only[XD,zK]
 by_cases e:d=k
 ·subst e;simp[Jj]
 ·simp[qdb e,e]
theorem Zo(a:Act)(d:Nat)(v:Value)(hd:d<a.tmps.size)(k:Nat):((a.put (some d) v).tmps).getD k undef=if d=k then v else a.tmps.getD k undef:=by
 simp only[Act.put]
 by_cases e:d=k
 ·subst e
  simp[Array.getD,hd]
 ·simp only[Array.getD_eq_getD_getElem?,e,if_false]
  rw[Array.getElem?_setIfInBounds_ne e]
theorem zb(a:Act)(d:Option Nat)(v:Value):(a.put d v).tmps.size=a.tmps.size:=by
 cases d<;>simp[Act.put]
theorem qI(a:Act)(d:Option Nat)(v:Value):(a.put d v).defers=a.defers:=by
 cases d<;>rfl
theorem qwv(t:Nat)(l:Slots)(k:Nat):qE (dn t l) k=if t=k then(qE l k).ro else qE l k:=by
 unfold dn
 rw[za]
 by_cases e:t=k
 ·subst e;simp
 ·simp[e]
theorem qxk(x:AV):ro1 (ro1 x)=ro1 x:=by cases x<;>rfl
theorem ro_ro(x:AV):ro (ro x)=ro x:=by
 cases x with
 |agg cs=>simp[ro,zkt,zko,qxk]
 |_=>rfl
theorem SV.ro_ro(s:SV):s.ro.ro=s.ro:=by
 cases s with
 |av x=>simp[SV.ro,AI.ro_ro]
 |tp l=>simp[SV.ro,zkt,zko,AI.ro_ro]
 |_=>rfl
theorem zo(ts:List Nat):∀(l:Slots) (k:Nat),qE (qG ts l) k=if k∈ts then(qE l k).ro else qE l k:=by
 induction ts with
 |nil=>intro l k;simp[qG]
 |cons t ts ih=>
  intro l k
  have:qG (t::ts) l=qG ts (dn t l):=rfl
  rw[this,ih,qwv]
  by_cases h1:t=k
  ·subst h1
   by_cases h2:t∈ts<;>simp[h2,SV.ro_ro]
  ·have h1':¬k=t:=fun h=>h1 h.symm
   by_cases h2:k∈ts<;>simp[h1,h1',h2]
theorem ZI{s:SV}{k g off:Nat}:s.ro= .lp k g off↔s= .lp k g off:=by
 cases s<;>simp[SV.ro]
def Gh.rel(G:Gh)(f:Ow->Ow):Gh:={G with Om:=fun b=>f (G.Om b)}
structure Rho (f : Ow → Ow) : Prop where
 fr:f .fr= .fr
 oth:f .oth= .oth
 box:∀p k g,f p= .box k g->p= .box k g
 obj:∀p k g,f p= .obj k g->p= .obj k g
theorem Fr.rel{G:Gh}{w:World}{f:Ow->Ow}(hf:Rho f):Fr G w (G.rel f) w:=
 ⟨zgm _,fun _ _ _=>rfl,fun _=>zgm _,fun _ _ _ h=>h,fun b _ ho=>⟨rfl,by
  simp only[Gh.rel]
  rcases ho with h|h<;>rw[h]
  ·exact hf.fr
  ·exact hf.oth,rfl⟩,Zm.refl w,fun _ _ h=>h⟩
def DOk(d:TypeDesc)(k:TK):Prop:=
 match k with
 | .sc=>∀x,(d matches .struct _| .array _ _| .slice _)=x->x=false
 | .ot=>∀x,(d matches .struct _| .array _ _| .slice _)=x->x=false
 | .tu=>True
 | .sl e=>d= .slice e
 | .mp q e=>d= .map q e
 | .ar n e=>d= .array n e
 | .st fs=>∃fields:Array Field,d= .struct fields/\fields.toList.map (fun f=>(f.offset,f.type))=fs
def TOk(P:Program)(t:TypeId)(ti:TI):Prop:=
 (qfl ti=true->P.underlying t=some (.int .u8))/\(WM ti=true->P.underlying t=some .string)/\
 ∃info d,P.info? t=some info/\P.underlying t=some d/\DOk d ti.k/\info.bytes=ti.bytes/\
  (Qu ti.k=false->info.size=ti.size/\∃z,info.zero=some z/\z.cells.toList=ti.zero/\ti.zero.length=ti.size/\∀v∈ti.zero,v.oneCell'=true)
structure Ok (c : Cx) : Prop where
 tt:∀t ti,c.tt t=some ti->TOk c.P t ti
 ti:∀t ti,c.tt t=some ti->qlo ti=true->∃k,c.P.underlying t=some (.int k)
 tb:∀t ti,c.tt t=some ti->qlp ti=true->c.P.underlying t=some .bool
 tp:∀t ti,c.tt t=some ti->qyw ti=true->∃e,c.P.underlying t=some (.pointer e)
 zf:∀t ti,c.tt t=some ti->Qu ti.k=false->∀info z,c.P.info? t=some info->info.zero=some z->(yC ti.k=true->∃vs,z= .agg vs)/\(yC ti.k=false->z.oneCell'=true)
 F:∀f fn,c.F f=some fn->c.P.funcs[f]?=some fn
 nm:∀f fn,c.F f=some fn->(fn.name== "runtime.NumGoroutine")=false
 X:∀f fn vs v,c.F f=some fn->fn.body=none->c.X f vs=some v->∀w,(callFunc f vs.toArray).run c.P w= .ok (.value v) w
 mixed:c.P.follows .mixedOrders=true
theorem qs{c:Cx}{t:TypeId}{ti:TI}(h:c.tn t=some ti):c.tt t=some ti/\Qu ti.k=false:=by
 unfold Cx.tn at h
 split at h
 ·rename_i ti' h'
  cases hk:Qu ti'.k with
  |true=>simp[hk]at h
  |false=>simp[hk]at h;subst h;exact⟨h',hk⟩
 ·cases h
section
variable {P:Program}{t:TypeId}{ti:TI}{w:World}
theorem TOk.sizeOf(h:TOk P t ti)(hk:Qu ti.k=false)(w:World):(sizeOf t).run P w= .ok ti.size w:=by
 obtain⟨_,_,info,d,h1,h2,h3,h4,h5⟩:=h
 rw[run_sizeOf w h1]
 have:P.cellsOf t=ti.size:=by simp[Program.cellsOf,h1,(h5 hk).1]
 rw[this]
theorem TOk.zero(h:TOk P t ti)(hk:Qu ti.k=false):∃z,z.cells.toList=ti.zero/\ti.zero.length=ti.size/\(∀v∈ti.zero,v.oneCell'=true)/\∀w,(zeroValue t).run P w= .ok z w:=by
 obtain⟨_,_,info,d,h1,h2,h3,h4,h5⟩:=h
 obtain⟨h6,z,h7,h8,h9,h10⟩:=h5 hk
 exact⟨z,h8,h9,h10,fun w=>by simp[zeroValue,typeInfo,h1,h7]⟩
theorem TOk.isAgg(h:TOk P t ti)(hk:Qu ti.k=false)(w:World):(Go.isAgg t).run P w= .ok (yC ti.k) w:=by
 obtain⟨_,_,info,d,h1,h2,h3,h4,h5⟩:=h
 unfold Go.isAgg
 simp only[Sem.run_bind,run_underlying h2,Result.andThen_ok]
 cases hti:ti.k with
 |sc=>
  rw[hti]at h3
  cases d<;>first|rfl|(have:=h3 _ rfl;cases this)
 |ot=>
  rw[hti]at h3
  cases d<;>first|rfl|(have:=h3 _ rfl;cases this)
 |tu=>rw[hti]at hk;cases hk
 |sl e=>rw[hti]at h3;cases h3;rfl
 |mp q e=>rw[hti]at h3;cases h3;rfl
 |ar n e=>rw[hti]at h3;cases h3;rfl
 |st fs=>rw[hti]at h3;obtain⟨fields,rfl,_⟩:=h3;rfl
theorem TOk.bytes(h:TOk P t ti):∃info,P.info? t=some info/\info.bytes=ti.bytes:=by
 obtain⟨_,_,info,d,h1,h2,h3,h4,h5⟩:=h
 exact⟨info,h1,h4⟩
theorem TOk.und(h:TOk P t ti):∃d,P.underlying t=some d/\DOk d ti.k:=by
 obtain⟨_,_,info,d,h1,h2,h3,h4,h5⟩:=h
 exact⟨d,h2,h3⟩
end
theorem RelR.one{G:Gh}{w:World}{x:AV}{v:Value}(h:RelR G w x v):v.oneCell'=true:=by
 cases h<;>first|rfl|assumption
theorem jt.one{G:Gh}{w:World}{p:Ow}{x:AV}{v:Value}(h:jt G w p x v):v.oneCell'=true:=by
 cases x with
 |us sz cs=>
  obtain⟨b,_,ht⟩:=h
  obtain⟨n,cap,arr,e,rfl,_⟩:=ht.ex
  rfl
 |agg _=>exact h.elim
 |tup _=>exact h.elim
 |sc _=>exact RelR.one h
 |sl _ _=>exact RelR.one h
 |ptr _ _ _=>exact RelR.one h
 |ms _ _ _ _ _=>exact RelR.one h
 |fn _ _=>exact RelR.one h
 |map _=>exact RelR.one h
theorem JZ{v:Value}(h:v.oneCell'=true):v.cells=#[v]:=by cases v<;>first|rfl|cases h
def YQ(G:Gh)(w:World)(p:Nat->Ow)(l:List AV)(vs:List Value):Prop:=
 l.length=vs.length/\∀(i:Nat) (x:AV) (c:Value),l[i]?=some x->vs[i]?=some c->jt G w (p i) x c
theorem YQ.ev{G G':Gh}{w w':World}(he:Ev G w G' w'){p q:Nat->Ow}(hk:∀i,zq G w G' w' (p i) (q i)){l:List AV}{vs:List Value}(h:YQ G w p l vs):YQ G' w' q l vs:=
 ⟨h.1,fun i x c hx hc=>(h.2 i x c hx hc).ev he (hk i)⟩
theorem YQ.one{G:Gh}{w:World}{p:Nat->Ow}{l:List AV}{vs:List Value}(h:YQ G w p l vs):∀v∈vs,v.oneCell'=true:=by
 intro v hv
 obtain⟨i,hi,rfl⟩:=zjq hv
 have hl:i<l.length:=by rw[h.1];exact hi
 exact(h.2 i l[i] vs[i] (zgl hl) (zgl hi)).one
theorem zj.cells{G:Gh}{w:World}{p:Nat->Ow}{x:AV}{v:Value}{n:Nat}{l:List AV}(h:zj G w p x v)(hl:ql n x=some l):
 l.length=n/\YQ G w p l v.cells.toList:=by
 rcases Zl x with⟨cs,rfl⟩|hx
 ·obtain⟨vs,rfl,h2,h3⟩:=h
  simp only[ql]at hl
  split at hl
  ·cases hl
   rename_i hn
   exact⟨hn,by simpa[Value.cells]using h2,fun i x c hx hc=>h3 i x c hx (by simpa[Value.cells]using hc)⟩
  ·cases hl
 ·rw[xQ hx]at h
  have h1:ql n x=if n=1 then some [x]else none:=by
   cases x<;>first|rfl|exact absurd rfl (hx _)|exact h.elim
  rw[h1]at hl
  split at hl
  ·cases hl
   rename_i hn
   rw[JZ h.one]
   refine⟨by simp[hn],qf,fun i x c hx hc=>?_⟩
   match i,hx,hc with
   |0,hx,hc=>simp at hx hc;subst hx;subst hc;exact h
   |i+1,hx,hc=>simp at hx
  ·cases hl
theorem qL.valC{G:Gh}{w:World}{k:Nat}{s:SV}{v:Value}{n:Nat}{l:List AV}(h:qL G w k s v)(hl:valC n s=some l):
 l.length=n/\YQ G w (.sl k 0 ·) l v.cells.toList:=by
 cases s with
 |sv u=>
  obtain⟨rfl,h1⟩:=h
  simp only[AI.valC]at hl
  split at hl
  ·cases hl
   rename_i hn
   rw[JZ h1]
   refine⟨by simp[hn],qf,fun i x c hx hc=>?_⟩
   match i,hx,hc with
   |0,hx,hc=>simp at hx hc;subst hx;subst hc;exact .sc _ h1
   |i+1,hx,hc=>simp at hx
  ·cases hl
 |av x=>exact zj.cells h hl
 |lp _ _ _=>cases hl
 |rv _=>cases hl
 |tp _=>cases hl
 |un=>cases hl
 |ud=>cases hl
end Go.Proofs.YtoliekekdmfngaaGreat.AI
