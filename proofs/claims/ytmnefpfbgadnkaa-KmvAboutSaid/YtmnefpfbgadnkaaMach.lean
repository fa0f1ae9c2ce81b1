/- The abstract machine: the walk through the code, with bounded steps. Nothing is claimed here. -/
import Derived.Test.YtmnefpfbgadnkaaCore
namespace Go.Proofs.Ytmnefpfbgadnkaa.AI
open Go
set_option linter.unusedVariables false

/-- What an operation looks at and turns: slots, boxes, the heap, the count of objects. -/
structure Fp where
  rs : List Nat
  ws : List Nat
  br : Option Nat
  bw : Option Nat
  hr : Bool
  hw : Bool
  nw : Bool

inductive It where
  | code (c : Code)
  | inBlock (id : Nat)
  | inLoop (body : Code)
  | ops (r : Nat) (ops : Array Oper) (is : List Nat) (d : Bool) (acc : List (Nat × Fp))

def dn (t : Tmp) (l : Slots) : Slots := (t, (slot l t).ro) :: l
def dnX (t : Tmp) (i : Nat) (l : Slots) : Slots :=
  match slot l t with
  | .tp xs => (t, .tp (match xs[i]? with | some y => xs.set i (ro y) | none => xs)) :: l
  | _ => l
def tmpsOf : List Operand → List Nat
  | [] => []
  | .tmp t :: r => t :: tmpsOf r
  | _ :: r => tmpsOf r
/-- The slots whose hold an operation takes over. -/
def downs (h : Nat) (o : Oper) : List Nat :=
  match o.op with
  | .move x => if h = 1 then tmpsOf [x] else []
  | .assign x => tmpsOf [x]
  | .store _ _ x => tmpsOf [x]
  | .extract x _ => tmpsOf [x]
  | .call c => match c.callee with
    | .builtin .append => tmpsOf c.args.toList
    | _ => []
  | _ => []
def dnAll (ts : List Nat) (l : Slots) : Slots := ts.foldl (fun l t => dn t l) l
def dnOp (h : Nat) (o : Oper) (l : Slots) : Slots :=
  match o.op with
  | .extract (.tmp t) i => dnX t i l
  | _ => dnAll (downs h o) l
def accB (h : Nat) (o : Oper) (ev : Operand → SV) : Option Nat × Option Nat :=
  match o.op with
  | .load _ a => match ev a with
    | .lp k _ _ => if h = 1 then (none, some k) else (some k, none)
    | _ => (none, none)
  | .store _ a _ => match ev a with
    | .lp k _ _ => (none, some k)
    | _ => (none, none)
  | .alloc _ => if h = 2 then (none, none) else (none, o.dst)
  | .box _ _ => if h = 2 then (none, none) else (none, o.dst)
  | _ => (none, none)
def accH (h : Nat) (o : Oper) (ev : Operand → SV) : Bool × Bool × Bool :=
  match o.op with
  | .load _ a => match ev a with
    | .av _ => (true, h == 1, false)
    | _ => (false, false, false)
  | .store _ a _ => match ev a with
    | .av _ => (false, true, false)
    | _ => (false, false, false)
  | .alloc _ => (false, h == 2, h == 2)
  | .box _ _ => (false, h == 2, h == 2)
  | .makeSlice _ _ _ => (false, h == 2, h == 2)
  | .call c => match c.callee with
    | .builtin _ => (false, false, false)
    | _ => (h == 2, h == 2, true)
  | _ => (false, false, false)
def fpOf (h : Nat) (ops : Array Oper) (o : Oper) (l : Slots) : Fp :=
  let b := accB h o (evS l)
  let q := accH h o (evS l)
  { rs := o.looksAt ops, ws := o.dst.toList ++ downs h o, br := b.1, bw := b.2, hr := q.1, hw := q.2.1, nw := q.2.2 }
def fpSkip (ops : Array Oper) (o : Oper) : Fp :=
  { rs := o.looksAt ops, ws := o.dst.toList, br := none, bw := none, hr := false, hw := false, nw := false }
def meets (a b : List Nat) : Bool := a.any fun x => b.contains x
def clash (a b : Fp) : Bool :=
  meets a.ws b.rs || meets a.ws b.ws || meets a.rs b.ws ||
  (match a.bw, b.bw with | some x, some y => x == y | _, _ => false) ||
  (match a.bw, b.br with | some x, some y => x == y | _, _ => false) ||
  (match a.br, b.bw with | some x, some y => x == y | _, _ => false) ||
  (a.hw && (b.hr || b.hw)) || (a.hr && b.hw) || (a.nw && b.nw)
/-- For each operation those that must stand ahead of it. -/
def ancTab : List Oper → List (List Nat) → List (List Nat)
  | [], t => t
  | o :: r, t =>
    let ds := (o.after.toList.filter fun e => Region.binds .any e).map (·.on)
    ancTab r (t ++ [(ds ++ ds.flatMap fun j => t.getD j []).eraseDups])
/-- An operation waits for earlier ones alone. -/
def depsB (ops : Array Oper) : Bool := (List.range ops.size).all fun i => match ops[i]? with
  | some o => o.after.toList.all fun e => !Region.binds .any e || decide (e.on < i)
  | none => true
def drawOk (ops : Array Oper) (acc : List (Nat × Fp)) : Bool :=
  let t := ancTab ops.toList []
  depsB ops && acc.all fun p => acc.all fun q => !(decide (p.1 < q.1)) || (t.getD q.1 []).contains p.1 || !(clash p.2 q.2)

def maskB (b : Boxes) : List Nat → Boxes
  | [] => []
  | k :: r => match getB b k with
    | some (g, cs) => (k, g, cs) :: maskB b r
    | none => maskB b r
def okLp (b : Boxes) (s : SV) : SV :=
  match s with
  | .lp k g o => match getB b k with
    | some _ => .lp k g o
    | none => .un
  | s => s
def maskS (b : Boxes) (l : Slots) : List Nat → Slots
  | [] => []
  | k :: r => match okLp b (slot l k) with
    | .un => maskS b l r
    | s => (k, s) :: maskS b l r
def mask (m : Option (List Nat)) (st : St) : St :=
  match m with
  | none => st
  | some live => ⟨maskS (maskB st.bx live) st.sl live, maskB st.bx live, st.hp⟩

def popTo (id : Nat) : List It → Option (List It)
  | [] => none
  | .inBlock j :: k => if j = id then some k else popTo id k
  | _ :: k => popTo id k

def resVK {R : Type} (st : St) (tt : TypeId → Option TI) (r : ResultVar) (K : AV → Option R) : Option R :=
  match r with
  | .tmp t => (toA (slot st.sl t)).bind K
  | .cell a ty => match tt ty with
    | some ti => match slot st.sl a with
      | .lp k g off => match getB st.bx k with
        | some (g', cs) => if g = g' then
            (if isAg ti.k then (getN cs off ti.size).bind fun l => K (.agg l) else (getC cs off).bind K)
          else none
        | none => none
      | _ => none
    | none => none
def resVsK {R : Type} (st : St) (tt : TypeId → Option TI) (K : List AV → Option R) : List ResultVar → Option R
  | [] => K []
  | r :: l => resVK st tt r fun x => resVsK st tt (fun xs => K (x :: xs)) l
/-- Where a result stands. -/
def keyOf (st : St) : ResultVar → Nat × Nat
  | .tmp t => (0, t)
  | .cell a _ => match slot st.sl a with
    | .lp k _ _ => (1, k)
    | _ => (2, 0)
def noKey (k : Nat × Nat) : List (Nat × Nat) → Bool
  | [] => true
  | j :: r => match Nat.beq j.1 k.1 && Nat.beq j.2 k.2 with | true => false | false => noKey k r
def distinctB : List (Nat × Nat) → Bool
  | [] => true
  | k :: r => match noKey k r with | true => distinctB r | false => false
def fin (c : Cx) (f : FuncId) (st : St) : Option (AV × Hp) :=
  match c.F f with
  | some fn => cond (distinctB (fn.results.toList.map (keyOf st))) (resVsK st c.tn (fun l => match l with
    | [x] => some (x, st.hp)
    | l => some (.tup l, st.hp)) fn.results.toList) none
  | none => none

def initK {R : Type} (c : Cx) : Nat → List TypeId → List AV → (Slots → Option R) → Option R
  | _, [], [], K => K []
  | i, [], x :: xs, K => initK c (i + 1) [] xs fun l => K ((i, .av x) :: l)
  | _, _ :: _, [], _ => none
  | i, t :: ts, x :: xs, K => match c.tn t with
    | some ti => if isSc ti.k then (asSc x).bind fun v => initK c (i + 1) ts xs fun l => K ((i, .sv v) :: l) else initK c (i + 1) ts xs fun l => K ((i, .av x) :: l)
    | none => none

/-- The state behind an operation. -/
def after (h : Nat) (o : Oper) (st : St) (s : SV) (b : BE) (hp : Hp) : St :=
  ⟨putS (dnOp h o st.sl) o.dst s, (match b with | some (k, g, cs) => setB st.bx k g cs | none => st.bx), hp⟩

def guarded (o : Oper) (ops : Array Oper) : Option (Option (Nat × Bool)) :=
  match o.guard with
  | none => some none
  | some (j, want) => match ops[j]? with
    | some oj => match oj.dst with
      | some d => some (some (d, want))
      | none => none
    | none => none

def accP (d : Bool) (i : Nat) (p : Fp) (acc : List (Nat × Fp)) : List (Nat × Fp) := if d then (i, p) :: acc else acc
abbrev GoT := List It → St → Option (AV × Hp)
def execF (c : Cx) (C : Orc) (G : GoT) (r : Nat) (ops : Array Oper) (is : List Nat) (d : Bool) (acc : List (Nat × Fp)) (k : List It) (h i : Nat) (o : Oper) (st : St) : Option (AV × Hp) :=
  coreK c C h o (evS st.sl) (getB st.bx) st.hp fun s b hp => G (.ops r ops is d (accP d i (fpOf h ops o st.sl) acc) :: k) (after h o st s b hp)
def skipF (G : GoT) (r : Nat) (ops : Array Oper) (is : List Nat) (d : Bool) (acc : List (Nat × Fp)) (k : List It) (i : Nat) (o : Oper) (st : St) : Option (AV × Hp) :=
  G (.ops r ops is d (accP d i (fpSkip ops o) acc) :: k) ⟨putS st.sl o.dst .ud, st.bx, st.hp⟩
def setT (st : St) (g : Nat) (b : Bool) : St := ⟨(g, .sv (.bool b)) :: st.sl, st.bx, st.hp⟩
def opF (c : Cx) (C : Orc) (G : GoT) (r : Nat) (ops : Array Oper) (is : List Nat) (d : Bool) (acc : List (Nat × Fp)) (k : List It) (h i : Nat) (o : Oper) (st : St) : Option (AV × Hp) :=
  match guarded o ops with
  | none => none
  | some none => execF c C G r ops is d acc k h i o st
  | some (some (g, want)) => match slot st.sl g with
    | .ud => skipF G r ops is d acc k i o st
    | .sv v => (asB v).bind fun t => match want with
      | true => cond t (execF c C G r ops is d acc k h i o (setT st g true)) (skipF G r ops is d acc k i o (setT st g false))
      | false => cond t (skipF G r ops is d acc k i o (setT st g true)) (execF c C G r ops is d acc k h i o (setT st g false))
    | _ => none

/-- One step, by what calls answer (C) and what the rest answers (G). -/
def stepF (c : Cx) (C : Orc) (G : GoT) (f : FuncId) (its : List It) (st : St) : Option (AV × Hp) :=
  match its with
  | [] => fin c f st
  | .inBlock _ :: k => G k st
  | .inLoop b :: k => G (.code b :: .inLoop b :: k) st
  | .code .skip :: k => G k st
  | .code (.label _) :: k => G k st
  | .code .ret :: _ => fin c f st
  | .code (.seq a b) :: k => G (.code a :: .code b :: k) st
  | .code (.block id b) :: k => G (.code b :: .inBlock id :: k) st
  | .code (.loop b) :: k => G (.inLoop b :: k) st
  | .code (.exit id) :: k => (popTo id k).bind fun k' => G k' st
  | .code (.cond x a b) :: k => (asSV (evS st.sl x)).bind fun v => (asB v).bind fun t => cond t (G (.code a :: k) st) (G (.code b :: k) st)
  | .code (.region r ops d) :: k => G (.ops r ops (List.range ops.size) d [] :: k) (mask (c.M f r) st)
  | .ops r ops [] d acc :: k => cond (!d || drawOk ops acc) (G k st) none
  | .ops r ops (i :: is) d acc :: k => (ops[i]?).bind fun o => opF c C G r ops is d acc k (c.H f r i) i o st
  | _ => none

def goC (c : Cx) (C : Orc) (f : FuncId) : Nat → List It → St → Option (AV × Hp)
  | 0 => fun _ _ => none
  | n + 1 => stepF c C (goC c C f n) f

def startK {R : Type} (c : Cx) (f : FuncId) (xs : List AV) (hp : Hp) (K : List It → St → Option R) : Option R :=
  match c.F f with
  | some fn => match fn.body with
    | some b => initK c 0 fn.params.toList xs fun l => K [.code b] ⟨l, [], hp⟩
    | none => none
  | none => none

def runN (c : Cx) : Nat → Orc
  | 0 => fun _ _ _ => none
  | n + 1 => fun f xs hp => startK c f xs hp (goC c (runN c n) f n)
end Go.Proofs.Ytmnefpfbgadnkaa.AI
