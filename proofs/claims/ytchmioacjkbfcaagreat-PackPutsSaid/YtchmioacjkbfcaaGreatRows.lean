/-
  No cell of these rows narrows 'for every input' (looked for: loops, veiled, ifaces, maps, wideKeys, modest, calm, conditions, laid).
  DERIVED. THE GIVEN ROWS OF THIS SEAT. 7 by the template 'for every input the law returns true; each argument reads behind the call as it read before'; 0 by the template 'total and deterministic' (their statements: YtchmioacjkbfcaaGreatTotals.lean).
  GIVEN WITH THE SEED: the statements are not yours to turn. If you find one false, say at which input.
  Laid BY PROGRAM, IN A SANDBOX (cutbox-rows.mjs): the forced cells as the released guide's own fill.sh prints them over the translation a8ba5d50dd7cdf7e… (all of the seat's roots in one cut). By AI agents, Wed Nov 11 2026. No macro, syntax, notation, axiom, sorry.
-/
import Derived.Test.YtchmioacjkbfcaaGreatChecked
import GoSem.Claim
import GoSem.ClaimJoined
import GoSem.ClaimMapViews
import Derived.JoinedTies
import Derived.KernelRfl
namespace Go.Proofs.YtchmioacjkbfcaaGreat
/- THE CELL 'sum', in the pinned program and in every row, IS THE sha256 OF THE DUMP (.gsa) THAT YtchmioacjkbfcaaGreatProg.lean LOADS. Nothing in Lean hashes anything: it is a label: what it is worth is what the hold of that sum in a sandbox is worth. -/
noncomputable def Tryz.pinned : Pinned := { name := "ytchmioacjkbfcaagreat", sum := "a8ba5d50dd7cdf7e7398adf3001fb0b6cc328798f8fed8c137df7d4c4846d61a", checked := Tryz.checked }
namespace Rows
def none {H : Type} : Left H := { results := [], args := [] }

/-- 'herbariumlaw18.PackCounts': WHATEVER THE INPUT: true; the input reads as it did. -/
def packCountsSpec : ChangeSpec := { name := "packCounts", fn := fun _ => fun
  | [d1, d2, d3] => { results := [.lit (.bool true)], args := [d1, d2, d3] }
  | _ => none }
def packCountsRow : OpenClaim := { program := "ytchmioacjkbfcaagreat", sum := "a8ba5d50dd7cdf7e7398adf3001fb0b6cc328798f8fed8c137df7d4c4846d61a", func := "herbarium/herbariumlaw18.PackCounts", spec := "packCounts", inPlace := ["math.Float64bits", "math.Float64frombits"], unfollowed := true, recurses := true, apart := false }
def PackCountsSaid : Prop := packCountsRow.holds Tryz.pinned (OpenSpec.ofChange packCountsSpec)

/-- ITS FALSE NEIGHBOUR: 'it returns false'. Refute it at one input. -/
def packCountsWrong : ChangeSpec := { name := "packCounts", fn := fun _ => fun
  | [d1, d2, d3] => { results := [.lit (.bool false)], args := [d1, d2, d3] }
  | _ => none }
def PackCountsWrongFalsely : Prop := packCountsRow.holds Tryz.pinned (OpenSpec.ofChange packCountsWrong)

/-- 'herbariumlaw18.PackSmall': WHATEVER THE INPUT: true; the input reads as it did. -/
def packSmallSpec : ChangeSpec := { name := "packSmall", fn := fun _ => fun
  | [d1, d2, d3] => { results := [.lit (.bool true)], args := [d1, d2, d3] }
  | _ => none }
def packSmallRow : OpenClaim := { program := "ytchmioacjkbfcaagreat", sum := "a8ba5d50dd7cdf7e7398adf3001fb0b6cc328798f8fed8c137df7d4c4846d61a", func := "herbarium/herbariumlaw18.PackSmall", spec := "packSmall", inPlace := ["math.Float64bits", "math.Float64frombits"], unfollowed := true, recurses := true, apart := false }
def PackSmallSaid : Prop := packSmallRow.holds Tryz.pinned (OpenSpec.ofChange packSmallSpec)

/-- ITS FALSE NEIGHBOUR: 'it returns false'. Refute it at one input. -/
def packSmallWrong : ChangeSpec := { name := "packSmall", fn := fun _ => fun
  | [d1, d2, d3] => { results := [.lit (.bool false)], args := [d1, d2, d3] }
  | _ => none }
def PackSmallWrongFalsely : Prop := packSmallRow.holds Tryz.pinned (OpenSpec.ofChange packSmallWrong)

/-- 'herbariumlaw18.PackPuts': WHATEVER THE INPUT: true; the input reads as it did. -/
def packPutsSpec : ChangeSpec := { name := "packPuts", fn := fun _ => fun
  | [d] => { results := [.lit (.bool true)], args := [d] }
  | _ => none }
def packPutsRow : OpenClaim := { program := "ytchmioacjkbfcaagreat", sum := "a8ba5d50dd7cdf7e7398adf3001fb0b6cc328798f8fed8c137df7d4c4846d61a", func := "herbarium/herbariumlaw18.PackPuts", spec := "packPuts", inPlace := ["math.Float64bits", "math.Float64frombits"], unfollowed := true, recurses := true, apart := false }
def PackPutsSaid : Prop := packPutsRow.holds Tryz.pinned (OpenSpec.ofChange packPutsSpec)

/-- ITS FALSE NEIGHBOUR: 'it returns false'. Refute it at one input. -/
def packPutsWrong : ChangeSpec := { name := "packPuts", fn := fun _ => fun
  | [d] => { results := [.lit (.bool false)], args := [d] }
  | _ => none }
def PackPutsWrongFalsely : Prop := packPutsRow.holds Tryz.pinned (OpenSpec.ofChange packPutsWrong)

/-- 'herbariumlaw18.PackApart': WHATEVER THE INPUT: true; the input reads as it did. -/
def packApartSpec : ChangeSpec := { name := "packApart", fn := fun _ => fun
  | [d1, d2, d3] => { results := [.lit (.bool true)], args := [d1, d2, d3] }
  | _ => none }
def packApartRow : OpenClaim := { program := "ytchmioacjkbfcaagreat", sum := "a8ba5d50dd7cdf7e7398adf3001fb0b6cc328798f8fed8c137df7d4c4846d61a", func := "herbarium/herbariumlaw18.PackApart", spec := "packApart", inPlace := ["math.Float64bits", "math.Float64frombits"], unfollowed := true, recurses := true, apart := false }
def PackApartSaid : Prop := packApartRow.holds Tryz.pinned (OpenSpec.ofChange packApartSpec)

/-- ITS FALSE NEIGHBOUR: 'it returns false'. Refute it at one input. -/
def packApartWrong : ChangeSpec := { name := "packApart", fn := fun _ => fun
  | [d1, d2, d3] => { results := [.lit (.bool false)], args := [d1, d2, d3] }
  | _ => none }
def PackApartWrongFalsely : Prop := packApartRow.holds Tryz.pinned (OpenSpec.ofChange packApartWrong)

/-- 'herbariumlaw18.PackErrors': WHATEVER THE INPUT: true; the input reads as it did. -/
def packErrorsSpec : ChangeSpec := { name := "packErrors", fn := fun _ => fun
  | [d1, d2, d3] => { results := [.lit (.bool true)], args := [d1, d2, d3] }
  | _ => none }
def packErrorsRow : OpenClaim := { program := "ytchmioacjkbfcaagreat", sum := "a8ba5d50dd7cdf7e7398adf3001fb0b6cc328798f8fed8c137df7d4c4846d61a", func := "herbarium/herbariumlaw18.PackErrors", spec := "packErrors", inPlace := ["math.Float64bits", "math.Float64frombits"], unfollowed := true, recurses := true, apart := false }
def PackErrorsSaid : Prop := packErrorsRow.holds Tryz.pinned (OpenSpec.ofChange packErrorsSpec)

/-- ITS FALSE NEIGHBOUR: 'it returns false'. Refute it at one input. -/
def packErrorsWrong : ChangeSpec := { name := "packErrors", fn := fun _ => fun
  | [d1, d2, d3] => { results := [.lit (.bool false)], args := [d1, d2, d3] }
  | _ => none }
def PackErrorsWrongFalsely : Prop := packErrorsRow.holds Tryz.pinned (OpenSpec.ofChange packErrorsWrong)

/-- 'herbariumlaw18.PackAny': WHATEVER THE INPUT: true; the input reads as it did. -/
def packAnySpec : ChangeSpec := { name := "packAny", fn := fun _ => fun
  | [d1, d2, d3, d4, d5] => { results := [.lit (.bool true)], args := [d1, d2, d3, d4, d5] }
  | _ => none }
def packAnyRow : OpenClaim := { program := "ytchmioacjkbfcaagreat", sum := "a8ba5d50dd7cdf7e7398adf3001fb0b6cc328798f8fed8c137df7d4c4846d61a", func := "herbarium/herbariumlaw18.PackAny", spec := "packAny", inPlace := ["math.Float64bits", "math.Float64frombits"], unfollowed := true, recurses := true, apart := false }
def PackAnySaid : Prop := packAnyRow.holds Tryz.pinned (OpenSpec.ofChange packAnySpec)

/-- ITS FALSE NEIGHBOUR: 'it returns false'. Refute it at one input. -/
def packAnyWrong : ChangeSpec := { name := "packAny", fn := fun _ => fun
  | [d1, d2, d3, d4, d5] => { results := [.lit (.bool false)], args := [d1, d2, d3, d4, d5] }
  | _ => none }
def PackAnyWrongFalsely : Prop := packAnyRow.holds Tryz.pinned (OpenSpec.ofChange packAnyWrong)

/-- 'herbariumlaw18.PackTwice': WHATEVER THE INPUT: true; the input reads as it did. -/
def packTwiceSpec : ChangeSpec := { name := "packTwice", fn := fun _ => fun
  | [d1, d2] => { results := [.lit (.bool true)], args := [d1, d2] }
  | _ => none }
def packTwiceRow : OpenClaim := { program := "ytchmioacjkbfcaagreat", sum := "a8ba5d50dd7cdf7e7398adf3001fb0b6cc328798f8fed8c137df7d4c4846d61a", func := "herbarium/herbariumlaw18.PackTwice", spec := "packTwice", inPlace := ["math.Float64bits", "math.Float64frombits"], unfollowed := true, recurses := true, apart := false }
def PackTwiceSaid : Prop := packTwiceRow.holds Tryz.pinned (OpenSpec.ofChange packTwiceSpec)

/-- ITS FALSE NEIGHBOUR: 'it returns false'. Refute it at one input. -/
def packTwiceWrong : ChangeSpec := { name := "packTwice", fn := fun _ => fun
  | [d1, d2] => { results := [.lit (.bool false)], args := [d1, d2] }
  | _ => none }
def PackTwiceWrongFalsely : Prop := packTwiceRow.holds Tryz.pinned (OpenSpec.ofChange packTwiceWrong)

/- THE SECOND FORM. 'bulk': how many values and letters a reading holds, each counted each time it is reached (what is shared counts as often as it is met; a slice's spare places count too). A statement '..UptoSaid' is the law's where the arguments, and the package variables that the reading takes, are together of bulk at most 1048576: NARROWER than '..Said'. Prove '..Said' where nothing that the law and all that it calls make is longer than what came in: it says more and counts as full. Else prove '..UptoSaid'. A law counts once. -/
mutual
def uptoBulk {H : Type} : DataW H → Nat
  | .lit (.string bytes) => bytes.length + 1
  | .lit _ => 1
  | .nil => 1
  | .ptr d => uptoBulk d + 1
  | .slice elems spare => uptoBulkAll elems + uptoBulkAll spare + 1
  | .agg parts => uptoBulkAll parts + 1
  | .iface _ d => uptoBulk d + 1
  | .map entries => uptoBulkEntries entries + 1
  | .held _ => 1
def uptoBulkAll {H : Type} : List (DataW H) → Nat
  | [] => 0
  | d :: r => uptoBulk d + uptoBulkAll r
def uptoBulkEntries {H : Type} : List (Lit × DataW H) → Nat
  | [] => 0
  | x :: r => uptoBulkEntry x + uptoBulkEntries r
def uptoBulkEntry {H : Type} : Lit × DataW H → Nat
  | (.string bytes, d) => bytes.length + uptoBulk d + 1
  | (_, d) => uptoBulk d + 1
 end
def uptoSmall : (H : Type) → List (DataW H) → Bool := fun _ ds => decide (uptoBulkAll ds ≤ 1048576)
def OpenSpec.upto (s : _root_.Go.ChangeSpec) : _root_.Go.OpenSpec := { _root_.Go.OpenSpec.ofChange s with cond := some uptoSmall }

/-- 'herbariumlaw18.PackCounts', WHERE WHAT IT READS IS OF BULK AT MOST 1048576: true; the input reads as it did. -/
def packCountsUptoRow : OpenClaim := { program := "ytchmioacjkbfcaagreat", sum := "a8ba5d50dd7cdf7e7398adf3001fb0b6cc328798f8fed8c137df7d4c4846d61a", func := "herbarium/herbariumlaw18.PackCounts", spec := "packCounts", inPlace := ["math.Float64bits", "math.Float64frombits"], unfollowed := true, recurses := true, apart := false, narrowed := true }
def PackCountsUptoSaid : Prop := packCountsUptoRow.holds Tryz.pinned (OpenSpec.upto packCountsSpec)

/-- 'herbariumlaw18.PackSmall', WHERE WHAT IT READS IS OF BULK AT MOST 1048576: true; the input reads as it did. -/
def packSmallUptoRow : OpenClaim := { program := "ytchmioacjkbfcaagreat", sum := "a8ba5d50dd7cdf7e7398adf3001fb0b6cc328798f8fed8c137df7d4c4846d61a", func := "herbarium/herbariumlaw18.PackSmall", spec := "packSmall", inPlace := ["math.Float64bits", "math.Float64frombits"], unfollowed := true, recurses := true, apart := false, narrowed := true }
def PackSmallUptoSaid : Prop := packSmallUptoRow.holds Tryz.pinned (OpenSpec.upto packSmallSpec)

/-- 'herbariumlaw18.PackPuts', WHERE WHAT IT READS IS OF BULK AT MOST 1048576: true; the input reads as it did. -/
def packPutsUptoRow : OpenClaim := { program := "ytchmioacjkbfcaagreat", sum := "a8ba5d50dd7cdf7e7398adf3001fb0b6cc328798f8fed8c137df7d4c4846d61a", func := "herbarium/herbariumlaw18.PackPuts", spec := "packPuts", inPlace := ["math.Float64bits", "math.Float64frombits"], unfollowed := true, recurses := true, apart := false, narrowed := true }
def PackPutsUptoSaid : Prop := packPutsUptoRow.holds Tryz.pinned (OpenSpec.upto packPutsSpec)

/-- 'herbariumlaw18.PackApart', WHERE WHAT IT READS IS OF BULK AT MOST 1048576: true; the input reads as it did. -/
def packApartUptoRow : OpenClaim := { program := "ytchmioacjkbfcaagreat", sum := "a8ba5d50dd7cdf7e7398adf3001fb0b6cc328798f8fed8c137df7d4c4846d61a", func := "herbarium/herbariumlaw18.PackApart", spec := "packApart", inPlace := ["math.Float64bits", "math.Float64frombits"], unfollowed := true, recurses := true, apart := false, narrowed := true }
def PackApartUptoSaid : Prop := packApartUptoRow.holds Tryz.pinned (OpenSpec.upto packApartSpec)

/-- 'herbariumlaw18.PackErrors', WHERE WHAT IT READS IS OF BULK AT MOST 1048576: true; the input reads as it did. -/
def packErrorsUptoRow : OpenClaim := { program := "ytchmioacjkbfcaagreat", sum := "a8ba5d50dd7cdf7e7398adf3001fb0b6cc328798f8fed8c137df7d4c4846d61a", func := "herbarium/herbariumlaw18.PackErrors", spec := "packErrors", inPlace := ["math.Float64bits", "math.Float64frombits"], unfollowed := true, recurses := true, apart := false, narrowed := true }
def PackErrorsUptoSaid : Prop := packErrorsUptoRow.holds Tryz.pinned (OpenSpec.upto packErrorsSpec)

/-- 'herbariumlaw18.PackAny', WHERE WHAT IT READS IS OF BULK AT MOST 1048576: true; the input reads as it did. -/
def packAnyUptoRow : OpenClaim := { program := "ytchmioacjkbfcaagreat", sum := "a8ba5d50dd7cdf7e7398adf3001fb0b6cc328798f8fed8c137df7d4c4846d61a", func := "herbarium/herbariumlaw18.PackAny", spec := "packAny", inPlace := ["math.Float64bits", "math.Float64frombits"], unfollowed := true, recurses := true, apart := false, narrowed := true }
def PackAnyUptoSaid : Prop := packAnyUptoRow.holds Tryz.pinned (OpenSpec.upto packAnySpec)

/-- 'herbariumlaw18.PackTwice', WHERE WHAT IT READS IS OF BULK AT MOST 1048576: true; the input reads as it did. -/
def packTwiceUptoRow : OpenClaim := { program := "ytchmioacjkbfcaagreat", sum := "a8ba5d50dd7cdf7e7398adf3001fb0b6cc328798f8fed8c137df7d4c4846d61a", func := "herbarium/herbariumlaw18.PackTwice", spec := "packTwice", inPlace := ["math.Float64bits", "math.Float64frombits"], unfollowed := true, recurses := true, apart := false, narrowed := true }
def PackTwiceUptoSaid : Prop := packTwiceUptoRow.holds Tryz.pinned (OpenSpec.upto packTwiceSpec)

end Rows
end Go.Proofs.YtchmioacjkbfcaaGreat
