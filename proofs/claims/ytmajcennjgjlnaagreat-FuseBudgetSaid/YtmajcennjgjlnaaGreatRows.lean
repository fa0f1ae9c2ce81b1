/-
  No cell of these rows narrows 'for every input' (looked for: loops, veiled, ifaces, maps, wideKeys, modest, calm, conditions, laid).
  DERIVED. THE GIVEN ROWS OF THIS SEAT. 6 by the template 'for every input the law returns true; each argument reads behind the call as it read before'; 0 by the template 'total and deterministic' (their statements: YtmajcennjgjlnaaGreatTotals.lean).
  GIVEN WITH THE SEED: the statements are not yours to turn. If you find one false, say at which input.
  Laid BY PROGRAM, IN A SANDBOX (cutbox-rows.mjs): the forced cells as the released guide's own fill.sh prints them over the translation 0d1f6facccd69f5e… (all of the seat's roots in one cut). By AI agents, Wed Nov 11 2026. No macro, syntax, notation, axiom, sorry.
-/
import Derived.Test.YtmajcennjgjlnaaGreatChecked
import GoSem.Claim
import GoSem.ClaimJoined
import GoSem.ClaimMapViews
import Derived.JoinedTies
import Derived.KernelRfl
namespace Go.Proofs.YtmajcennjgjlnaaGreat
/- THE CELL 'sum', in the pinned program and in every row, IS THE sha256 OF THE DUMP (.gsa) THAT YtmajcennjgjlnaaGreatProg.lean LOADS. Nothing in Lean hashes anything: it is a label: what it is worth is what the hold of that sum in a sandbox is worth. -/
noncomputable def Tryz.pinned : Pinned := { name := "ytmajcennjgjlnaagreat", sum := "0d1f6facccd69f5ee78c4d96d96d49eec7da2d0e2ba24071229a66bd16f367d0", checked := Tryz.checked }
namespace Rows
def none {H : Type} : Left H := { results := [], args := [] }

/-- 'herbariumlaw19.FuseTurns': WHATEVER THE INPUT: true; the input reads as it did. -/
def fuseTurnsSpec : ChangeSpec := { name := "fuseTurns", fn := fun _ => fun
  | [d1, d2] => { results := [.lit (.bool true)], args := [d1, d2] }
  | _ => none }
def fuseTurnsRow : OpenClaim := { program := "ytmajcennjgjlnaagreat", sum := "0d1f6facccd69f5ee78c4d96d96d49eec7da2d0e2ba24071229a66bd16f367d0", func := "herbarium/herbariumlaw19.FuseTurns", spec := "fuseTurns", inPlace := ["math.Float64frombits", "math.Float64bits"], unfollowed := true, recurses := true, apart := false }
def FuseTurnsSaid : Prop := fuseTurnsRow.holds Tryz.pinned (OpenSpec.ofChange fuseTurnsSpec)

/-- ITS FALSE NEIGHBOUR: 'it returns false'. Refute it at one input. -/
def fuseTurnsWrong : ChangeSpec := { name := "fuseTurns", fn := fun _ => fun
  | [d1, d2] => { results := [.lit (.bool false)], args := [d1, d2] }
  | _ => none }
def FuseTurnsWrongFalsely : Prop := fuseTurnsRow.holds Tryz.pinned (OpenSpec.ofChange fuseTurnsWrong)

/-- 'herbariumlaw19.FuseThree': WHATEVER THE INPUT: true; the input reads as it did. -/
def fuseThreeSpec : ChangeSpec := { name := "fuseThree", fn := fun _ => fun
  | [d1, d2, d3] => { results := [.lit (.bool true)], args := [d1, d2, d3] }
  | _ => none }
def fuseThreeRow : OpenClaim := { program := "ytmajcennjgjlnaagreat", sum := "0d1f6facccd69f5ee78c4d96d96d49eec7da2d0e2ba24071229a66bd16f367d0", func := "herbarium/herbariumlaw19.FuseThree", spec := "fuseThree", inPlace := ["math.Float64frombits", "math.Float64bits"], unfollowed := true, recurses := true, apart := false }
def FuseThreeSaid : Prop := fuseThreeRow.holds Tryz.pinned (OpenSpec.ofChange fuseThreeSpec)

/-- ITS FALSE NEIGHBOUR: 'it returns false'. Refute it at one input. -/
def fuseThreeWrong : ChangeSpec := { name := "fuseThree", fn := fun _ => fun
  | [d1, d2, d3] => { results := [.lit (.bool false)], args := [d1, d2, d3] }
  | _ => none }
def FuseThreeWrongFalsely : Prop := fuseThreeRow.holds Tryz.pinned (OpenSpec.ofChange fuseThreeWrong)

/-- 'herbariumlaw19.FuseBudget': WHATEVER THE INPUT: true; the input reads as it did. -/
def fuseBudgetSpec : ChangeSpec := { name := "fuseBudget", fn := fun _ => fun
  | [d1, d2, d3] => { results := [.lit (.bool true)], args := [d1, d2, d3] }
  | _ => none }
def fuseBudgetRow : OpenClaim := { program := "ytmajcennjgjlnaagreat", sum := "0d1f6facccd69f5ee78c4d96d96d49eec7da2d0e2ba24071229a66bd16f367d0", func := "herbarium/herbariumlaw19.FuseBudget", spec := "fuseBudget", inPlace := ["math.Float64frombits", "math.Float64bits"], unfollowed := true, recurses := true, apart := false }
def FuseBudgetSaid : Prop := fuseBudgetRow.holds Tryz.pinned (OpenSpec.ofChange fuseBudgetSpec)

/-- ITS FALSE NEIGHBOUR: 'it returns false'. Refute it at one input. -/
def fuseBudgetWrong : ChangeSpec := { name := "fuseBudget", fn := fun _ => fun
  | [d1, d2, d3] => { results := [.lit (.bool false)], args := [d1, d2, d3] }
  | _ => none }
def FuseBudgetWrongFalsely : Prop := fuseBudgetRow.holds Tryz.pinned (OpenSpec.ofChange fuseBudgetWrong)

/-- 'herbariumlaw19.FuseSees': WHATEVER THE INPUT: true; the input reads as it did. -/
def fuseSeesSpec : ChangeSpec := { name := "fuseSees", fn := fun _ => fun
  | [d1, d2] => { results := [.lit (.bool true)], args := [d1, d2] }
  | _ => none }
def fuseSeesRow : OpenClaim := { program := "ytmajcennjgjlnaagreat", sum := "0d1f6facccd69f5ee78c4d96d96d49eec7da2d0e2ba24071229a66bd16f367d0", func := "herbarium/herbariumlaw19.FuseSees", spec := "fuseSees", inPlace := ["math.Float64frombits", "math.Float64bits"], unfollowed := true, recurses := true, apart := false }
def FuseSeesSaid : Prop := fuseSeesRow.holds Tryz.pinned (OpenSpec.ofChange fuseSeesSpec)

/-- ITS FALSE NEIGHBOUR: 'it returns false'. Refute it at one input. -/
def fuseSeesWrong : ChangeSpec := { name := "fuseSees", fn := fun _ => fun
  | [d1, d2] => { results := [.lit (.bool false)], args := [d1, d2] }
  | _ => none }
def FuseSeesWrongFalsely : Prop := fuseSeesRow.holds Tryz.pinned (OpenSpec.ofChange fuseSeesWrong)

/-- 'herbariumlaw19.FuseMerges': WHATEVER THE INPUT: true; the input reads as it did. -/
def fuseMergesSpec : ChangeSpec := { name := "fuseMerges", fn := fun _ => fun
  | [d1, d2] => { results := [.lit (.bool true)], args := [d1, d2] }
  | _ => none }
def fuseMergesRow : OpenClaim := { program := "ytmajcennjgjlnaagreat", sum := "0d1f6facccd69f5ee78c4d96d96d49eec7da2d0e2ba24071229a66bd16f367d0", func := "herbarium/herbariumlaw19.FuseMerges", spec := "fuseMerges", inPlace := ["math.Float64frombits", "math.Float64bits"], unfollowed := true, recurses := true, apart := false }
def FuseMergesSaid : Prop := fuseMergesRow.holds Tryz.pinned (OpenSpec.ofChange fuseMergesSpec)

/-- ITS FALSE NEIGHBOUR: 'it returns false'. Refute it at one input. -/
def fuseMergesWrong : ChangeSpec := { name := "fuseMerges", fn := fun _ => fun
  | [d1, d2] => { results := [.lit (.bool false)], args := [d1, d2] }
  | _ => none }
def FuseMergesWrongFalsely : Prop := fuseMergesRow.holds Tryz.pinned (OpenSpec.ofChange fuseMergesWrong)

/-- 'herbariumlaw19.FuseAny': WHATEVER THE INPUT: true; the input reads as it did. -/
def fuseAnySpec : ChangeSpec := { name := "fuseAny", fn := fun _ => fun
  | [d1, d2, d3, d4, d5, d6] => { results := [.lit (.bool true)], args := [d1, d2, d3, d4, d5, d6] }
  | _ => none }
def fuseAnyRow : OpenClaim := { program := "ytmajcennjgjlnaagreat", sum := "0d1f6facccd69f5ee78c4d96d96d49eec7da2d0e2ba24071229a66bd16f367d0", func := "herbarium/herbariumlaw19.FuseAny", spec := "fuseAny", inPlace := ["math.Float64frombits", "math.Float64bits"], unfollowed := true, recurses := true, apart := false }
def FuseAnySaid : Prop := fuseAnyRow.holds Tryz.pinned (OpenSpec.ofChange fuseAnySpec)

/-- ITS FALSE NEIGHBOUR: 'it returns false'. Refute it at one input. -/
def fuseAnyWrong : ChangeSpec := { name := "fuseAny", fn := fun _ => fun
  | [d1, d2, d3, d4, d5, d6] => { results := [.lit (.bool false)], args := [d1, d2, d3, d4, d5, d6] }
  | _ => none }
def FuseAnyWrongFalsely : Prop := fuseAnyRow.holds Tryz.pinned (OpenSpec.ofChange fuseAnyWrong)

/- THE SECOND FORM. 'bulk': how many values and letters a reading holds, each counted each time it is reached (what is shared counts as often as it is met; a slice's spare places count too). A statement '..UptoSaid' is the law's where the arguments, and the package variables that the reading takes, are together of bulk at most 1048576: NARROWER than '..Said'. Prove '..Said' where nothing that the law and all that it calls make is longer than what came in: it says more and counts as full. Else prove '..UptoSaid'. A law counts once. -/
mutual
def uptoBulk {H : Type} : DataW H → Nat
  | .lit (.string bytes) => bytes.length + 1
  | .lit _ => 1
  | .nil => 1
  | .ptr d => uptoBulk d + 1
  | .slice elems spare => uptoBulkAll elems + uptoBulkAll spare + 1
  | .agg parts => uptoBulkAll parts + 1
  | .iface _ d => uptoBulk d + 1
  | .map entries => uptoBulkEntries entries + 1
  | .held _ => 1
def uptoBulkAll {H : Type} : List (DataW H) → Nat
  | [] => 0
  | d :: r => uptoBulk d + uptoBulkAll r
def uptoBulkEntries {H : Type} : List (Lit × DataW H) → Nat
  | [] => 0
  | x :: r => uptoBulkEntry x + uptoBulkEntries r
def uptoBulkEntry {H : Type} : Lit × DataW H → Nat
  | (.string bytes, d) => bytes.length + uptoBulk d + 1
  | (_, d) => uptoBulk d + 1
 end
def uptoSmall : (H : Type) → List (DataW H) → Bool := fun _ ds => decide (uptoBulkAll ds ≤ 1048576)
def OpenSpec.upto (s : _root_.Go.ChangeSpec) : _root_.Go.OpenSpec := { _root_.Go.OpenSpec.ofChange s with cond := some uptoSmall }

/-- 'herbariumlaw19.FuseTurns', WHERE WHAT IT READS IS OF BULK AT MOST 1048576: true; the input reads as it did. -/
def fuseTurnsUptoRow : OpenClaim := { program := "ytmajcennjgjlnaagreat", sum := "0d1f6facccd69f5ee78c4d96d96d49eec7da2d0e2ba24071229a66bd16f367d0", func := "herbarium/herbariumlaw19.FuseTurns", spec := "fuseTurns", inPlace := ["math.Float64frombits", "math.Float64bits"], unfollowed := true, recurses := true, apart := false, narrowed := true }
def FuseTurnsUptoSaid : Prop := fuseTurnsUptoRow.holds Tryz.pinned (OpenSpec.upto fuseTurnsSpec)

/-- 'herbariumlaw19.FuseThree', WHERE WHAT IT READS IS OF BULK AT MOST 1048576: true; the input reads as it did. -/
def fuseThreeUptoRow : OpenClaim := { program := "ytmajcennjgjlnaagreat", sum := "0d1f6facccd69f5ee78c4d96d96d49eec7da2d0e2ba24071229a66bd16f367d0", func := "herbarium/herbariumlaw19.FuseThree", spec := "fuseThree", inPlace := ["math.Float64frombits", "math.Float64bits"], unfollowed := true, recurses := true, apart := false, narrowed := true }
def FuseThreeUptoSaid : Prop := fuseThreeUptoRow.holds Tryz.pinned (OpenSpec.upto fuseThreeSpec)

/-- 'herbariumlaw19.FuseBudget', WHERE WHAT IT READS IS OF BULK AT MOST 1048576: true; the input reads as it did. -/
def fuseBudgetUptoRow : OpenClaim := { program := "ytmajcennjgjlnaagreat", sum := "0d1f6facccd69f5ee78c4d96d96d49eec7da2d0e2ba24071229a66bd16f367d0", func := "herbarium/herbariumlaw19.FuseBudget", spec := "fuseBudget", inPlace := ["math.Float64frombits", "math.Float64bits"], unfollowed := true, recurses := true, apart := false, narrowed := true }
def FuseBudgetUptoSaid : Prop := fuseBudgetUptoRow.holds Tryz.pinned (OpenSpec.upto fuseBudgetSpec)

/-- 'herbariumlaw19.FuseSees', WHERE WHAT IT READS IS OF BULK AT MOST 1048576: true; the input reads as it did. -/
def fuseSeesUptoRow : OpenClaim := { program := "ytmajcennjgjlnaagreat", sum := "0d1f6facccd69f5ee78c4d96d96d49eec7da2d0e2ba24071229a66bd16f367d0", func := "herbarium/herbariumlaw19.FuseSees", spec := "fuseSees", inPlace := ["math.Float64frombits", "math.Float64bits"], unfollowed := true, recurses := true, apart := false, narrowed := true }
def FuseSeesUptoSaid : Prop := fuseSeesUptoRow.holds Tryz.pinned (OpenSpec.upto fuseSeesSpec)

/-- 'herbariumlaw19.FuseMerges', WHERE WHAT IT READS IS OF BULK AT MOST 1048576: true; the input reads as it did. -/
def fuseMergesUptoRow : OpenClaim := { program := "ytmajcennjgjlnaagreat", sum := "0d1f6facccd69f5ee78c4d96d96d49eec7da2d0e2ba24071229a66bd16f367d0", func := "herbarium/herbariumlaw19.FuseMerges", spec := "fuseMerges", inPlace := ["math.Float64frombits", "math.Float64bits"], unfollowed := true, recurses := true, apart := false, narrowed := true }
def FuseMergesUptoSaid : Prop := fuseMergesUptoRow.holds Tryz.pinned (OpenSpec.upto fuseMergesSpec)

/-- 'herbariumlaw19.FuseAny', WHERE WHAT IT READS IS OF BULK AT MOST 1048576: true; the input reads as it did. -/
def fuseAnyUptoRow : OpenClaim := { program := "ytmajcennjgjlnaagreat", sum := "0d1f6facccd69f5ee78c4d96d96d49eec7da2d0e2ba24071229a66bd16f367d0", func := "herbarium/herbariumlaw19.FuseAny", spec := "fuseAny", inPlace := ["math.Float64frombits", "math.Float64bits"], unfollowed := true, recurses := true, apart := false, narrowed := true }
def FuseAnyUptoSaid : Prop := fuseAnyUptoRow.holds Tryz.pinned (OpenSpec.upto fuseAnySpec)

end Rows
end Go.Proofs.YtmajcennjgjlnaaGreat
