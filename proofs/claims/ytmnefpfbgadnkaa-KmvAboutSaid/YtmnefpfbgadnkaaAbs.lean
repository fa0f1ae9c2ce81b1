/- The abstract machine: a deterministic run of the dump's own code over values in which a slice is the list of its cells. Nothing is claimed here. -/
import Derived.WalkKit
import Derived.KernelRfl
namespace Go.Proofs.Ytmnefpfbgadnkaa.AI
open Go
set_option linter.unusedVariables false

/-- Abstract values. A slice is the flat list of its cells ('sz' cells an element): 'sl' may be read alone, 'us' is owned and may be appended to. -/
inductive AV where
  | sc (v : Value)
  | sl (sz : Nat) (cs : List AV)
  | us (sz : Nat) (cs : List AV)
  | agg (cs : List AV)
  | tup (vs : List AV)
  | ptr (b g off : Nat)
  | ms (b g off len : Nat)
  | fn (f : FuncId) (cap : List AV)
  | map (b : Nat)

structure Hp where
  next : Nat
  get : Nat → Option (Nat × List AV)

def Hp.emp (h : Hp) : Hp := ⟨h.next, fun _ => none⟩
def Hp.adv (h : Hp) (n : Nat) : Hp := ⟨n, h.get⟩
def Hp.rd (h : Hp) (b g : Nat) : Option (List AV) := (h.get b).bind fun p => if p.1 = g then some p.2 else none
def Hp.put (h : Hp) (b g : Nat) (cs : List AV) : Hp := ⟨h.next, fun x => if x = b then some (g, cs) else h.get x⟩
def Hp.new (h : Hp) (cs : List AV) : Hp := ⟨h.next + 1, fun x => if x = h.next then some (0, cs) else h.get x⟩

/-- What a slot holds. -/
inductive SV where
  | sv (v : Value)
  | av (x : AV)
  | lp (k g off : Nat)
  | rv (cs : List AV)
  | tp (l : List AV)
  | un
  | ud

inductive TK where
  | sc | ot | tu
  | sl (e : TypeId)
  | ar (n : Nat) (e : TypeId)
  | st (fs : List (Nat × TypeId))

structure TI where
  k : TK
  size : Nat
  bytes : Nat
  zero : List Value

abbrev Boxes := List (Nat × Nat × List AV)
abbrev Slots := List (Nat × SV)

structure St where
  sl : Slots
  bx : Boxes
  hp : Hp

/-- The context: the program, and tables that repeat parts of it. -/
structure Cx where
  P : Program
  tt : TypeId → Option TI
  F : FuncId → Option Func
  X : FuncId → List Value → Option Value
  H : FuncId → Nat → Nat → Nat
  M : FuncId → Nat → Option (List Nat)

def pureOf {α : Type} (P : Program) : Sem α → Option α
  | .pure a => some a
  | .program k => pureOf P (k P)
  | .mark _ k => pureOf P k
  | _ => none

def ro1 : AV → AV
  | .us s c => .sl s c
  | x => x
def ro : AV → AV
  | .us s c => .sl s c
  | .agg cs => .agg (cs.map ro1)
  | x => x
def SV.ro : SV → SV
  | .av x => .av (AI.ro x)
  | .tp l => .tp (l.map AI.ro)
  | s => s

def asSc : AV → Option Value
  | .sc v => some v
  | _ => none
def asB : Value → Option Bool
  | .bool b => some b
  | _ => none
def asI : Value → Option Int
  | .int _ n => some n
  | _ => none
def getC (cs : List AV) (i : Nat) : Option AV := cs[i]?
def getSc (cs : List AV) (i : Nat) : Option Value := (cs[i]?).bind asSc
def getN (cs : List AV) (i n : Nat) : Option (List AV) := if i + n ≤ cs.length then some ((cs.drop i).take n) else none
def putN (cs : List AV) (i : Nat) (vs : List AV) : Option (List AV) :=
  if i + vs.length ≤ cs.length then some (cs.take i ++ vs ++ cs.drop (i + vs.length)) else none
def cellsN (n : Nat) : AV → Option (List AV)
  | .agg cs => if cs.length = n then some cs else none
  | .tup _ => none
  | x => if n = 1 then some [x] else none
def isSc : TK → Bool
  | .sc => true
  | _ => false
def isAg : TK → Bool
  | .ar _ _ => true
  | .st _ => true
  | _ => false
def toA : SV → Option AV
  | .sv v => some (.sc v)
  | .av x => some x
  | _ => none
def nthA (r : AV) (i : Nat) : AV :=
  match r with
  | .tup vs => vs.getD i (.tup [])
  | _ => .tup []
def chkTup (n : Nat) : AV → Option Unit
  | .tup vs => if vs.length = n then some () else none
  | _ => none
def nil0 : Value := .slice none 0 0
def isNil : Value → Bool
  | .slice none 0 0 => true
  | _ => false
def lenA : AV → Option Nat
  | .sl s cs => some (if s = 1 then cs.length else cs.length / s)
  | .us s cs => some (if s = 1 then cs.length else cs.length / s)
  | .ms _ _ _ n => some n
  | .sc v => if isNil v then some 0 else none
  | _ => none
def idx (n : Nat) (v : Value) : Option Nat := (asI v).bind fun i => if 0 ≤ i ∧ i < (n : Int) then some i.toNat else none
/-- An element's cells. -/
def idxA (sz : Nat) (x : AV) (v : Value) : Option (List AV) :=
  match x with
  | .sl s cs => if s = sz then (idx (if s = 1 then cs.length else cs.length / s) v).bind fun i => getN cs (i * sz) sz else none
  | .us s cs => if s = sz then (idx (if s = 1 then cs.length else cs.length / s) v).bind fun i => getN cs (i * sz) sz else none
  | _ => none
def bound (lo hi : Int) (v : Option Value) (dflt : Nat) : Option Nat :=
  match v with
  | none => some dflt
  | some v => (asI v).bind fun i => if lo ≤ i ∧ i ≤ hi then some i.toNat else none
/-- x[lo:hi:max] of a slice. -/
def slcA (sz : Nat) (x : AV) (lo hi mx : Option Value) : Option AV :=
  match x with
  | .sl s cs => if s = sz then
      let n := if s = 1 then cs.length else cs.length / s
      (bound 0 n mx n).bind fun m => (bound 0 m hi n).bind fun h => (bound 0 h lo 0).bind fun l => some (.sl s ((cs.drop (l * s)).take ((h - l) * s)))
    else none
  | .us s cs => if s = sz then
      let n := if s = 1 then cs.length else cs.length / s
      (bound 0 n mx n).bind fun m => (bound 0 m hi n).bind fun h => (bound 0 h lo 0).bind fun l => some (.sl s ((cs.drop (l * s)).take ((h - l) * s)))
    else none
  | .sc v => if isNil v then
      (bound 0 0 mx 0).bind fun m => (bound 0 m hi 0).bind fun h => (bound 0 h lo 0).bind fun _ => some (.sc nil0)
    else none
  | _ => none
/-- The cells of a slice that is read. -/
def srcA (sz : Nat) : AV → Option (List AV)
  | .sl s cs => if s = sz then some cs else none
  | .us s cs => if s = sz then some cs else none
  | .sc v => match v with
    | .slice none 0 0 => some []
    | _ => none
  | _ => none
/-- n cells, of elements of 'sz' cells and 'bytes' bytes: no more bytes than 2^47. -/
def fits (bytes sz n : Nat) : Bool := decide (n * bytes ≤ 140737488355328 * sz) && decide (0 < bytes)
def appA (bytes sz : Nat) (d s : AV) : Option AV :=
  (srcA sz s).bind fun ys => match ys with
    | [] => match d with
      | .us z cs => if z = sz then some (.us z cs) else none
      | .sc v => if isNil v then some (.sc nil0) else none
      | _ => none
    | ys => match d with
      | .us z cs => if z = sz && fits bytes sz (cs.length + ys.length) then some (.us z (cs ++ ys.map ro1)) else none
      | .sc v => if isNil v && fits bytes sz ys.length then some (.us sz (ys.map ro1)) else none
      | _ => none
def bytesOfA : List AV → Option (List UInt8)
  | [] => some []
  | .sc (.int .u8 n) :: r => (bytesOfA r).map fun l => UInt8.ofNat n.toNat :: l
  | _ => none
def allSc : List AV → Option (List Value)
  | [] => some []
  | .sc v :: r => (allSc r).map fun l => v :: l
  | _ => none
def concA : AV → Option Value
  | .sc v => some v
  | .agg cs => (allSc cs).map fun l => .agg l.toArray
  | _ => none
def concS : SV → Option Value
  | .sv v => some v
  | .av x => concA x
  | _ => none
def getPtr : AV → Option (Nat × Nat × Nat)
  | .ptr b g o => some (b, g, o)
  | _ => none
def getFn : AV → Option (FuncId × List AV)
  | .fn f c => some (f, c)
  | _ => none

/-- What fills one cell. -/
def one (o : Option Value) : Option Value := o.bind fun z => if z.oneCell' = true then some z else none
def binV (P : Program) (op : BinOp) (t : TypeId) (x y : Operand) (a b : Value) : Option Value :=
  one (pureOf P (do eqGuard op t x y a b; Go.binOp op t a b))
def unV (P : Program) (op : UnOp) (a : Value) : Option Value := one (pureOf P (Op.unary op a))
def cvV (P : Program) (s d : TypeId) (a : Value) : Option Value := one (pureOf P (convert s d a))
def ixV (P : Program) (t : TypeId) (a i : Value) : Option Value := one (pureOf P (Instr.index t a i))
def scV (P : Program) (t : TypeId) (a : Value) (lo hi mx : Option Value) : Option Value := one (pureOf P (Instr.slice t a lo hi mx))
def bltV (P : Program) (b : Builtin) (ts : Array TypeId) (t : TypeId) (as : List Value) : Option Value :=
  match b with
  | .min => one (pureOf P (Builtin.min_ ts t as.toArray))
  | .max => one (pureOf P (Builtin.max_ ts t as.toArray))
  | .len => one (pureOf P (Builtin.len_ ts t as.toArray))
  | _ => none
/-- Is a slice nil? -/
def nilA : AV → Option Bool
  | .sl _ _ => some false
  | .us _ _ => some false
  | .ms _ _ _ _ => some false
  | .sc (.slice none _ _) => some true
  | _ => none

/-! ### the state's parts -/
def slot (l : Slots) (k : Nat) : SV :=
  match l with
  | [] => .un
  | (j, s) :: r => match Nat.beq j k with | true => s | false => slot r k
def putS (l : Slots) (d : Option Tmp) (s : SV) : Slots :=
  match d with
  | some k => (k, s) :: l
  | none => l
def getB (b : Boxes) (k : Nat) : Option (Nat × List AV) :=
  match b with
  | [] => none
  | (j, g, cs) :: r => match Nat.beq j k with | true => some (g, cs) | false => getB r k
def setB (b : Boxes) (k g : Nat) (cs : List AV) : Boxes := (k, g, cs) :: b
def evS (l : Slots) : Operand → SV
  | .tmp t => slot l t
  | .const v => match v with
    | .agg cs => if cs.toList.all (·.oneCell') = true then .av (.agg (cs.toList.map .sc)) else .un
    | .tuple _ => .un
    | v => .sv v
  | .global _ => .un
  | .func f => .av (.fn f [])
/-- A constant of a type that is no scalar one stands as an abstract value. -/
def nrm (k : TK) : SV → SV
  | .sv v => if isSc k then .sv v else .av (.sc v)
  | s => s
def zeroA (l : List Value) : List AV := l.map .sc
end Go.Proofs.Ytmnefpfbgadnkaa.AI
