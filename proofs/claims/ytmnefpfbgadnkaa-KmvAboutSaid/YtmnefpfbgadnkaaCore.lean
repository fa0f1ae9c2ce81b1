/- The abstract machine's operations. Nothing is claimed here. -/
import Derived.Test.YtmnefpfbgadnkaaAbs
namespace Go.Proofs.Ytmnefpfbgadnkaa.AI
open Go
set_option linter.unusedVariables false

def isTu : TK → Bool
  | .tu => true
  | _ => false
/-- A type that a variable can have. -/
def Cx.tn (c : Cx) (t : TypeId) : Option TI :=
  match c.tt t with
  | some ti => if isTu ti.k then none else some ti
  | none => none
abbrev Orc := FuncId → List AV → Hp → Option (AV × Hp)
abbrev BE := Option (Nat × Nat × List AV)
abbrev Kt (R : Type) := SV → BE → Hp → Option R

def isU8 (ti : TI) : Bool :=
  match ti.k, ti.zero with
  | .sc, [.int .u8 _] => true
  | _, _ => false
def isStr (ti : TI) : Bool :=
  match ti.k, ti.zero with
  | .sc, [.string _] => true
  | _, _ => false
/-- Cells of a struct, an array. -/
def aggC : SV → Option (List AV)
  | .av (.agg cs) => some cs
  | _ => none
def flatA : AV → Bool
  | .agg _ => false
  | .tup _ => false
  | _ => true
def asStr : Value → Option ByteArray
  | .string s => some s
  | _ => none
def asSV : SV → Option Value
  | .sv v => some v
  | _ => none
def nnA : AV → Option Unit
  | .ptr _ _ _ => some ()
  | .fn _ _ => some ()
  | _ => none
def getMs : AV → Option (Nat × Nat × Nat × Nat)
  | .ms b g o n => some (b, g, o, n)
  | _ => none
def valC (n : Nat) : SV → Option (List AV)
  | .sv v => if n = 1 then some [.sc v] else none
  | .av x => cellsN n x
  | _ => none
def opV (ev : Operand → SV) : Option Operand → Option (Option Value)
  | none => some none
  | some o => (asSV (ev o)).bind fun v => some (some v)
def toAs : List SV → Option (List AV)
  | [] => some []
  | s :: r => (toA s).bind fun x => (toAs r).bind fun l => some (x :: l)
def toVs : List SV → Option (List Value)
  | [] => some []
  | s :: r => (asSV s).bind fun x => (toVs r).bind fun l => some (x :: l)
/-- Where a struct's part lies. -/
def placeS (c : Cx) (fs : List (Nat × TypeId)) (i : Nat) : Option (Nat × Nat) :=
  match fs[i]? with
  | some p => match c.tn p.2 with
    | some fi => some (p.1, fi.size)
    | none => none
  | none => none
/-- Cells of parts laid over zero cells. -/
def fillK {R : Type} (place : Nat → Option (Nat × Nat)) (ev : Operand → SV) (K : List AV → Option R) : List (Nat × Operand) → List AV → Option R
  | [], cs => K cs
  | (i, x) :: r, cs =>
    match place i with
    | none => none
    | some (off, n) => (valC n (ev x)).bind fun vs => (putN cs off vs).bind fun cs' => fillK place ev K r cs'

def loadK {R : Type} (ti : TI) (h : Nat) (cs : List AV) (off : Nat) (K : SV → List AV → Option R) : Option R :=
  if isSc ti.k then (getSc cs off).bind fun v => K (.sv v) cs
  else if isAg ti.k then (getN cs off ti.size).bind fun l =>
    if h = 1 then (putN cs off (l.map ro1)).bind fun cs' => K (.av (.agg l)) cs' else K (.av (.agg (l.map ro1))) cs
  else (getC cs off).bind fun x => if h = 1 then K (.av x) (cs.set off (ro1 x)) else K (.av (ro1 x)) cs

def noTup : AV → Option Unit
  | .tup _ => none
  | _ => some ()
def resK {R : Type} (ti : TI) (r : AV) (K : SV → Option R) : Option R :=
  match ti.k with
  | .sc => (asSc r).bind fun v => K (.sv v)
  | .tu => (chkTup ti.size r).bind fun _ => K (.tp ((List.range ti.size).map (nthA r)))
  | _ => (noTup r).bind fun _ => K (.av r)

def loadOpK {R : Type} (h : Nat) (ti : TI) (a : SV) (gb : Nat → Option (Nat × List AV)) (hp : Hp) (K : Kt R) : Option R :=
  match a with
  | .lp k g off => match gb k with
    | some (g', cs) => if g = g' then loadK ti h cs off fun s cs' => K s (if h = 1 then some (k, g, cs') else none) hp else none
    | none => none
  | .rv cs => if h = 1 then none else loadK ti h cs 0 fun s _ => K s none hp
  | .av x => (getPtr x).bind fun p => (hp.rd p.1 p.2.1).bind fun cs => loadK ti h cs p.2.2 fun s cs' => K s none (if h = 1 then hp.put p.1 p.2.1 cs' else hp)
  | _ => none

def storeOpK {R : Type} (ti : TI) (a x : SV) (gb : Nat → Option (Nat × List AV)) (hp : Hp) (K : Kt R) : Option R :=
  (valC ti.size x).bind fun vs =>
  match a with
  | .lp k g off => match gb k with
    | some (g', cs) => if g = g' then (putN cs off vs).bind fun cs' => K .un (some (k, g, cs')) hp else none
    | none => none
  | .av x => (getPtr x).bind fun p => (hp.rd p.1 p.2.1).bind fun cs => (putN cs p.2.2 vs).bind fun cs' => K .un none (hp.put p.1 p.2.1 cs')
  | _ => none

def fieldAddrK {R : Type} (c : Cx) (ti : TI) (a : SV) (f : Nat) (K : SV → Option R) : Option R :=
  match ti.k with
  | .st fs => match fs[f]? with
    | some (fo, ft) => match c.tn ft with
      | some fi => if fi.size = 0 then none else
        match a with
        | .lp k g off => K (.lp k g (off + fo))
        | .rv cs => K (.rv (cs.drop fo))
        | .av x => (getPtr x).bind fun p => K (.av (.ptr p.1 p.2.1 (p.2.2 + fo)))
        | _ => none
      | none => none
    | none => none
  | _ => none

def indexAddrK {R : Type} (c : Cx) (h : Nat) (ti : TI) (a i : SV) (K : SV → Option R) : Option R :=
  match i with
  | .sv iv => match ti.k with
    | .sl e => match c.tn e with
      | some ei => match a with
        | .av x =>
          if h = 2 then (getMs x).bind fun p => (idx p.2.2.2 iv).bind fun j => K (.av (.ptr p.1 p.2.1 (p.2.2.1 + j * ei.size)))
          else (idxA ei.size x iv).bind fun cs => K (.rv cs)
        | _ => none
      | none => none
    | .ar n e => match c.tn e with
      | some ei => match a with
        | .lp k g off => (idx n iv).bind fun j => K (.lp k g (off + j * ei.size))
        | .rv cs => (idx n iv).bind fun j => K (.rv (cs.drop (j * ei.size)))
        | .av x => (getPtr x).bind fun p => (idx n iv).bind fun j => K (.av (.ptr p.1 p.2.1 (p.2.2 + j * ei.size)))
        | _ => none
      | none => none
    | _ => none
  | _ => none

def sliceK {R : Type} (c : Cx) (h : Nat) (ti : TI) (t : TypeId) (a : SV) (lo hi mx : Option Value) (K : SV → Option R) : Option R :=
  match ti.k with
  | .sl e => match c.tn e with
    | some ei => match a with
      | .av x =>
        if h = 2 then (getMs x).bind fun p => (bound 0 p.2.2.2 mx p.2.2.2).bind fun m => (bound 0 m hi p.2.2.2).bind fun hh => (bound 0 hh lo 0).bind fun l =>
          K (.av (.ms p.1 p.2.1 (p.2.2.1 + l * ei.size) (hh - l)))
        else (slcA ei.size x lo hi mx).bind fun z => K (.av z)
      | _ => none
    | none => none
  | .sc => match a with
    | .sv v => (scV c.P t v lo hi mx).bind fun z => K (.sv z)
    | _ => none
  | _ => none

def convK {R : Type} (c : Cx) (s d : TypeId) (si di : TI) (a : SV) (K : SV → Option R) : Option R :=
  match di.k with
  | .sl e => match c.tn e with
    | some ei => if isU8 ei = true then (asSV a).bind fun v => (asStr v).bind fun b => K (.av (.sl 1 (b.data.toList.map fun x => .sc (.int .u8 x.toNat)))) else none
    | none => none
  | _ => match si.k with
    | .sl e => match c.tn e with
      | some ei => if (isU8 ei && isStr di) = true then (toA a).bind fun x => (srcA 1 x).bind fun cs => (bytesOfA cs).bind fun l => K (.sv (.string ⟨l.toArray⟩)) else none
      | none => none
    | _ => (asSV a).bind fun v => (cvV c.P s d v).bind fun z => K (.sv z)

def binK {R : Type} (c : Cx) (op : BinOp) (t : TypeId) (x y : Operand) (a b : SV) (K : SV → Option R) : Option R :=
  match a, b with
  | .sv v, .sv w => (binV c.P op t x y v w).bind fun z => K (.sv z)
  | .av v, .sv w => if isNil w then
      match c.tn t with
      | some ti => match ti.k with
        | .sl _ => (nilA v).bind fun n => (match op with | .eql => K (.sv (.bool n)) | .neq => K (.sv (.bool !n)) | _ => none)
        | _ => none
      | none => none
      else (concA v).bind fun v' => (binV c.P op t x y v' w).bind fun z => K (.sv z)
  | .av v, .av w => (concA v).bind fun v' => (concA w).bind fun w' => (binV c.P op t x y v' w').bind fun z => K (.sv z)
  | _, _ => none

def selV (t : Bool) (x y : Value) : Value :=
  match t with
  | true => x
  | false => y
def pickK {R : Type} (c a b : SV) (K : SV → Option R) : Option R :=
  (asSV c).bind fun v => (asB v).bind fun t =>
    match a, b with
    | .sv x, .sv y => K (.sv (selV t x y))
    | s, r => cond t (K s.ro) (K r.ro)

def bltK {R : Type} (c : Cx) (h : Nat) (o : Oper) (b : Builtin) (ts : List TypeId) (as : List SV) (K : SV → Option R) : Option R :=
  match b, ts, as with
  | .len, [t], [.av x] => match c.tn t with
    | some ti => match ti.k with
      | .sl _ => (lenA x).bind fun n => K (.sv (.int .i64 n))
      | _ => none
    | none => none
  | .append, [t, t'], [d, s] => if t' ≠ t then none else match c.tn t with
    | some ti => match ti.k with
      | .sl e => match c.tn e with
        | some ei => (toA d).bind fun d' => (toA s).bind fun s' => (appA ei.bytes ei.size d' s').bind fun y => K (.av y)
        | none => none
      | _ => none
    | none => none
  | b, ts, as => (toVs as).bind fun vs => (bltV c.P b ts.toArray o.type vs).bind fun z => K (.sv z)

def callK {R : Type} (c : Cx) (C : Orc) (h : Nat) (ti : TI) (f : FuncId) (caps : List AV) (as : List SV) (hp : Hp) (K : Kt R) : Option R :=
  (toAs as).bind fun xs =>
  if h = 2 then (C f ((xs.map ro) ++ caps) hp).bind fun p => resK ti p.1 fun s => K s none p.2
  else (C f ((xs.map ro) ++ caps) hp.emp).bind fun p => resK ti p.1 fun s => K s none (hp.adv p.2.next)

/-- One operation: 'K dst box-written heap'. -/
def coreK {R : Type} (c : Cx) (C : Orc) (h : Nat) (o : Oper) (ev : Operand → SV) (gb : Nat → Option (Nat × List AV)) (hp : Hp) (K : Kt R) : Option R :=
  match o.op with
  | .move x => match c.tt o.type with
    | some ti => K (if h = 1 then nrm ti.k (ev x) else nrm ti.k (ev x).ro) none hp
    | none => none
  | .assign x => match c.tt o.type with
    | some ti => K (nrm ti.k (ev x)) none hp
    | none => none
  | .pick a x y => pickK (ev a) (ev x) (ev y) fun s => K s none hp
  | .alloc t => match c.tn t with
    | some ti => if h = 2 then K (.av (.ptr hp.next 0 0)) none (hp.new (zeroA ti.zero)) else
      match o.dst with
      | some d => let g := match gb d with | some (g, _) => g + 1 | none => 0
        K (.lp d g 0) (some (d, g, zeroA ti.zero)) hp
      | none => none
    | none => none
  | .box t x => match c.tn t with
    | some ti => (valC ti.size (ev x)).bind fun vs => if h = 2 then K (.av (.ptr hp.next 0 0)) none (hp.new (vs.map ro1)) else
      match o.dst with
      | some d => let g := match gb d with | some (g, _) => g + 1 | none => 0
        K (.lp d g 0) (some (d, g, vs.map ro1)) hp
      | none => none
    | none => none
  | .build t ps => match c.tn t with
    | some ti => match ti.k with
      | .st fs => if fs.all (fun p => (c.tn p.2).isSome) = true then fillK (placeS c fs) ev (fun cs => K (.av (.agg (cs.map ro1))) none hp) ps.toList (zeroA ti.zero) else none
      | .ar _ e => match c.tn e with
        | some ei => fillK (fun i => some (i * ei.size, ei.size)) ev (fun cs => K (.av (.agg (cs.map ro1))) none hp) ps.toList (zeroA ti.zero)
        | none => none
      | _ => none
    | none => none
  | .buildSlice t n ps => match c.tn t with
    | some ti => match ti.k with
      | .sl e => match c.tn e with
        | some ei => if n * ei.size ≤ 4096 ∧ 0 < ei.size then
            fillK (fun i => some (i * ei.size, ei.size)) ev (fun cs => K (.av (.us ei.size (cs.map ro1))) none hp) ps.toList (List.replicate n (zeroA ei.zero)).flatten
          else none
        | none => none
      | _ => none
    | none => none
  | .load t a => match c.tn t with
    | some ti => loadOpK h ti (ev a) gb hp K
    | none => none
  | .store t a x => match c.tn t with
    | some ti => storeOpK ti (ev a) (ev x) gb hp K
    | none => none
  | .nilCheck x => match ev x with
    | .lp k g off => K (.lp k g off) none hp
    | .av y => (nnA y).bind fun _ => K (.av y) none hp
    | _ => none
  | .binOp op t x y _ => binK c op t x y (ev x) (ev y) fun s => K s none hp
  | .unOp op _ x => (asSV (ev x)).bind fun v => (unV c.P op v).bind fun z => K (.sv z) none hp
  | .convert s d x => match c.tn s, c.tn d with
    | some si, some di => convK c s d si di (ev x) fun s => K s none hp
    | _, _ => none
  | .makeFunc (.func f) fs cs => if fs.toList.isEmpty = true then (toAs (cs.toList.map ev)).bind fun xs => if xs.all flatA = true then K (.av (.fn f (xs.map ro1))) none hp else none else none
  | .makeSlice t l m => match c.tn t with
    | some ti => match ti.k with
      | .sl e => match c.tn e with
        | some ei => (asSV (ev l)).bind fun lv => (asSV (ev m)).bind fun mv => (asI lv).bind fun n => (asI mv).bind fun n' =>
          if n = n' ∧ 0 ≤ n ∧ fits ei.bytes 1 n.toNat = true ∧ 0 < ei.size then
            (if h = 2 then K (.av (.ms hp.next 0 0 n.toNat)) none (hp.new ((List.replicate n.toNat (zeroA ei.zero)).flatten))
             else K (.av (.us ei.size ((List.replicate n.toNat (zeroA ei.zero)).flatten))) none hp)
          else none
        | none => none
      | _ => none
    | none => none
  | .slice t x lo hi mx => match c.tn t with
    | some ti => if mx.isSome && !hi.isSome then none else (opV ev lo).bind fun l => (opV ev hi).bind fun u => (opV ev mx).bind fun m => sliceK c h ti t (ev x) l u m fun s => K s none hp
    | none => none
  | .fieldAddr t x f => match c.tn t with
    | some ti => fieldAddrK c ti (ev x) f fun s => K s none hp
    | none => none
  | .field t x f => match c.tn t with
    | some ti => match ti.k with
      | .st fs => match fs[f]? with
        | some (fo, ft) => match c.tn ft with
          | some fi => (aggC (ev x)).bind fun cs => loadK fi 0 cs fo fun s _ => K s none hp
          | none => none
        | none => none
      | _ => none
    | none => none
  | .indexAddr t x i => match c.tn t with
    | some ti => indexAddrK c h ti (ev x) (ev i) fun s => K s none hp
    | none => none
  | .index t x i => match c.tt o.type with
    | some ti => if isSc ti.k then (concS (ev x)).bind fun a => (asSV (ev i)).bind fun iv => (ixV c.P t a iv).bind fun z => K (.sv z) none hp else none
    | none => none
  | .extract x i => match ev x with
    | .tp l => match l[i]? with
      | some y => match c.tt o.type with
        | some ti => if isSc ti.k then (asSc y).bind fun v => K (.sv v) none hp else K (.av y) none hp
        | none => none
      | none => none
    | _ => none
  | .call cl => match cl.callee with
    | .builtin b => bltK c h o b cl.argTypes.toList (cl.args.toList.map ev) fun s => K s none hp
    | .value (.func f) => match c.F f, c.tt o.type with
      | some fn, some ti => match fn.body with
        | some _ => callK c C h ti f [] (cl.args.toList.map ev) hp K
        | none => (toVs (cl.args.toList.map ev)).bind fun vs => (one (c.X f vs)).bind fun z => K (.sv z) none hp
      | _, _ => none
    | .value (.tmp t) => match c.tt o.type with
      | some ti => match ev (.tmp t) with
        | .av x => (getFn x).bind fun p => callK c C h ti p.1 p.2 (cl.args.toList.map ev) hp K
        | _ => none
      | none => none
    | _ => none
  | _ => none
end Go.Proofs.Ytmnefpfbgadnkaa.AI
