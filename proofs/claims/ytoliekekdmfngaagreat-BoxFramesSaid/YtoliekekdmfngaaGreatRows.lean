/-
  No cell of these rows narrows 'for every input' (looked for: loops, veiled, ifaces, maps, wideKeys, modest, calm, conditions, laid).
  DERIVED. THE GIVEN ROWS OF THIS SEAT. 7 by the template 'for every input the law returns true; each argument reads behind the call as it read before'; 0 by the template 'total and deterministic' (their statements: YtoliekekdmfngaaGreatTotals.lean).
  GIVEN WITH THE SEED: the statements are not yours to turn. If you find one false, say at which input.
  Laid BY PROGRAM, IN A SANDBOX (cutbox-rows.mjs): the forced cells as the released guide's own fill.sh prints them over the translation c805815647c51a6e… (all of the seat's roots in one cut). By AI agents, Wed Nov 11 2026. No macro, syntax, notation, axiom, sorry.
-/
import Derived.Test.YtoliekekdmfngaaGreatChecked
import GoSem.Claim
import GoSem.ClaimJoined
import GoSem.ClaimMapViews
import Derived.JoinedTies
import Derived.KernelRfl
namespace Go.Proofs.YtoliekekdmfngaaGreat
/- THE CELL 'sum', in the pinned program and in every row, IS THE sha256 OF THE DUMP (.gsa) THAT YtoliekekdmfngaaGreatProg.lean LOADS. Nothing in Lean hashes anything: it is a label: what it is worth is what the hold of that sum in a sandbox is worth. -/
noncomputable def Tryz.pinned : Pinned := { name := "ytoliekekdmfngaagreat", sum := "c805815647c51a6ea59cccc3591bff875517bcfc9a99713f407f905bcfe88307", checked := Tryz.checked }
namespace Rows
def none {H : Type} : Left H := { results := [], args := [] }

/-- 'herbariumlaw22.BoxOrders': WHATEVER THE INPUT: true; the input reads as it did. -/
def boxOrdersSpec : ChangeSpec := { name := "boxOrders", fn := fun _ => fun
  | [d1, d2] => { results := [.lit (.bool true)], args := [d1, d2] }
  | _ => none }
def boxOrdersRow : OpenClaim := { program := "ytoliekekdmfngaagreat", sum := "c805815647c51a6ea59cccc3591bff875517bcfc9a99713f407f905bcfe88307", func := "herbarium/herbariumlaw22.BoxOrders", spec := "boxOrders", inPlace := ["internal/bytealg.abigen_runtime_cmpstring", "math.Float64bits", "math.Float64frombits"], unfollowed := true, recurses := true, apart := false }
def BoxOrdersSaid : Prop := boxOrdersRow.holds Tryz.pinned (OpenSpec.ofChange boxOrdersSpec)

/-- ITS FALSE NEIGHBOUR: 'it returns false'. Refute it at one input. -/
def boxOrdersWrong : ChangeSpec := { name := "boxOrders", fn := fun _ => fun
  | [d1, d2] => { results := [.lit (.bool false)], args := [d1, d2] }
  | _ => none }
def BoxOrdersWrongFalsely : Prop := boxOrdersRow.holds Tryz.pinned (OpenSpec.ofChange boxOrdersWrong)

/-- 'herbariumlaw22.BoxLimits': WHATEVER THE INPUT: true; the input reads as it did. -/
def boxLimitsSpec : ChangeSpec := { name := "boxLimits", fn := fun _ => fun
  | [d1, d2, d3, d4] => { results := [.lit (.bool true)], args := [d1, d2, d3, d4] }
  | _ => none }
def boxLimitsRow : OpenClaim := { program := "ytoliekekdmfngaagreat", sum := "c805815647c51a6ea59cccc3591bff875517bcfc9a99713f407f905bcfe88307", func := "herbarium/herbariumlaw22.BoxLimits", spec := "boxLimits", inPlace := ["internal/bytealg.abigen_runtime_cmpstring", "math.Float64bits", "math.Float64frombits", "internal/reflectlite.ValueOf", "internal/reflectlite.Swapper", "(internal/reflectlite.Value).Len"], unfollowed := true, recurses := true, apart := false }
def BoxLimitsSaid : Prop := boxLimitsRow.holds Tryz.pinned (OpenSpec.ofChange boxLimitsSpec)

/-- ITS FALSE NEIGHBOUR: 'it returns false'. Refute it at one input. -/
def boxLimitsWrong : ChangeSpec := { name := "boxLimits", fn := fun _ => fun
  | [d1, d2, d3, d4] => { results := [.lit (.bool false)], args := [d1, d2, d3, d4] }
  | _ => none }
def BoxLimitsWrongFalsely : Prop := boxLimitsRow.holds Tryz.pinned (OpenSpec.ofChange boxLimitsWrong)

/-- 'herbariumlaw22.BoxApart': WHATEVER THE INPUT: true; the input reads as it did. -/
def boxApartSpec : ChangeSpec := { name := "boxApart", fn := fun _ => fun
  | [d1, d2, d3] => { results := [.lit (.bool true)], args := [d1, d2, d3] }
  | _ => none }
def boxApartRow : OpenClaim := { program := "ytoliekekdmfngaagreat", sum := "c805815647c51a6ea59cccc3591bff875517bcfc9a99713f407f905bcfe88307", func := "herbarium/herbariumlaw22.BoxApart", spec := "boxApart", inPlace := ["internal/bytealg.abigen_runtime_cmpstring", "math.Float64bits", "math.Float64frombits", "internal/reflectlite.ValueOf", "internal/reflectlite.Swapper", "(internal/reflectlite.Value).Len"], unfollowed := true, recurses := true, apart := false }
def BoxApartSaid : Prop := boxApartRow.holds Tryz.pinned (OpenSpec.ofChange boxApartSpec)

/-- ITS FALSE NEIGHBOUR: 'it returns false'. Refute it at one input. -/
def boxApartWrong : ChangeSpec := { name := "boxApart", fn := fun _ => fun
  | [d1, d2, d3] => { results := [.lit (.bool false)], args := [d1, d2, d3] }
  | _ => none }
def BoxApartWrongFalsely : Prop := boxApartRow.holds Tryz.pinned (OpenSpec.ofChange boxApartWrong)

/-- 'herbariumlaw22.BoxFrames': WHATEVER THE INPUT: true; the input reads as it did. -/
def boxFramesSpec : ChangeSpec := { name := "boxFrames", fn := fun _ => fun
  | [d1, d2] => { results := [.lit (.bool true)], args := [d1, d2] }
  | _ => none }
def boxFramesRow : OpenClaim := { program := "ytoliekekdmfngaagreat", sum := "c805815647c51a6ea59cccc3591bff875517bcfc9a99713f407f905bcfe88307", func := "herbarium/herbariumlaw22.BoxFrames", spec := "boxFrames", inPlace := ["internal/bytealg.abigen_runtime_cmpstring", "math.Float64bits", "math.Float64frombits", "internal/reflectlite.ValueOf", "internal/reflectlite.Swapper", "(internal/reflectlite.Value).Len"], unfollowed := true, recurses := true, apart := false }
def BoxFramesSaid : Prop := boxFramesRow.holds Tryz.pinned (OpenSpec.ofChange boxFramesSpec)

/-- ITS FALSE NEIGHBOUR: 'it returns false'. Refute it at one input. -/
def boxFramesWrong : ChangeSpec := { name := "boxFrames", fn := fun _ => fun
  | [d1, d2] => { results := [.lit (.bool false)], args := [d1, d2] }
  | _ => none }
def BoxFramesWrongFalsely : Prop := boxFramesRow.holds Tryz.pinned (OpenSpec.ofChange boxFramesWrong)

/-- 'herbariumlaw22.BoxBuilds': WHATEVER THE INPUT: true; the input reads as it did. -/
def boxBuildsSpec : ChangeSpec := { name := "boxBuilds", fn := fun _ => fun
  | [d1, d2] => { results := [.lit (.bool true)], args := [d1, d2] }
  | _ => none }
def boxBuildsRow : OpenClaim := { program := "ytoliekekdmfngaagreat", sum := "c805815647c51a6ea59cccc3591bff875517bcfc9a99713f407f905bcfe88307", func := "herbarium/herbariumlaw22.BoxBuilds", spec := "boxBuilds", inPlace := ["internal/bytealg.abigen_runtime_cmpstring", "math.Float64bits", "math.Float64frombits", "internal/reflectlite.ValueOf", "internal/reflectlite.Swapper", "(internal/reflectlite.Value).Len"], unfollowed := true, recurses := true, apart := false }
def BoxBuildsSaid : Prop := boxBuildsRow.holds Tryz.pinned (OpenSpec.ofChange boxBuildsSpec)

/-- ITS FALSE NEIGHBOUR: 'it returns false'. Refute it at one input. -/
def boxBuildsWrong : ChangeSpec := { name := "boxBuilds", fn := fun _ => fun
  | [d1, d2] => { results := [.lit (.bool false)], args := [d1, d2] }
  | _ => none }
def BoxBuildsWrongFalsely : Prop := boxBuildsRow.holds Tryz.pinned (OpenSpec.ofChange boxBuildsWrong)

/-- 'herbariumlaw22.BoxSpoilt': WHATEVER THE INPUT: true; the input reads as it did. -/
def boxSpoiltSpec : ChangeSpec := { name := "boxSpoilt", fn := fun _ => fun
  | [d1, d2, d3, d4] => { results := [.lit (.bool true)], args := [d1, d2, d3, d4] }
  | _ => none }
def boxSpoiltRow : OpenClaim := { program := "ytoliekekdmfngaagreat", sum := "c805815647c51a6ea59cccc3591bff875517bcfc9a99713f407f905bcfe88307", func := "herbarium/herbariumlaw22.BoxSpoilt", spec := "boxSpoilt", inPlace := ["internal/bytealg.abigen_runtime_cmpstring", "math.Float64bits", "math.Float64frombits", "internal/reflectlite.ValueOf", "internal/reflectlite.Swapper", "(internal/reflectlite.Value).Len"], unfollowed := true, recurses := true, apart := false }
def BoxSpoiltSaid : Prop := boxSpoiltRow.holds Tryz.pinned (OpenSpec.ofChange boxSpoiltSpec)

/-- ITS FALSE NEIGHBOUR: 'it returns false'. Refute it at one input. -/
def boxSpoiltWrong : ChangeSpec := { name := "boxSpoilt", fn := fun _ => fun
  | [d1, d2, d3, d4] => { results := [.lit (.bool false)], args := [d1, d2, d3, d4] }
  | _ => none }
def BoxSpoiltWrongFalsely : Prop := boxSpoiltRow.holds Tryz.pinned (OpenSpec.ofChange boxSpoiltWrong)

/-- 'herbariumlaw22.BoxAny': WHATEVER THE INPUT: true; the input reads as it did. -/
def boxAnySpec : ChangeSpec := { name := "boxAny", fn := fun _ => fun
  | [d1, d2, d3, d4, d5] => { results := [.lit (.bool true)], args := [d1, d2, d3, d4, d5] }
  | _ => none }
def boxAnyRow : OpenClaim := { program := "ytoliekekdmfngaagreat", sum := "c805815647c51a6ea59cccc3591bff875517bcfc9a99713f407f905bcfe88307", func := "herbarium/herbariumlaw22.BoxAny", spec := "boxAny", inPlace := ["internal/bytealg.abigen_runtime_cmpstring", "math.Float64bits", "math.Float64frombits", "internal/reflectlite.ValueOf", "internal/reflectlite.Swapper", "(internal/reflectlite.Value).Len"], unfollowed := true, recurses := true, apart := false }
def BoxAnySaid : Prop := boxAnyRow.holds Tryz.pinned (OpenSpec.ofChange boxAnySpec)

/-- ITS FALSE NEIGHBOUR: 'it returns false'. Refute it at one input. -/
def boxAnyWrong : ChangeSpec := { name := "boxAny", fn := fun _ => fun
  | [d1, d2, d3, d4, d5] => { results := [.lit (.bool false)], args := [d1, d2, d3, d4, d5] }
  | _ => none }
def BoxAnyWrongFalsely : Prop := boxAnyRow.holds Tryz.pinned (OpenSpec.ofChange boxAnyWrong)

/- THE SECOND FORM. 'bulk': how many values and letters a reading holds, each counted each time it is reached (what is shared counts as often as it is met; a slice's spare places count too). A statement '..UptoSaid' is the law's where the arguments, and the package variables that the reading takes, are together of bulk at most 1048576: NARROWER than '..Said'. Prove '..Said' where nothing that the law and all that it calls make is longer than what came in: it says more and counts as full. Else prove '..UptoSaid'. A law counts once. -/
mutual
def uptoBulk {H : Type} : DataW H → Nat
  | .lit (.string bytes) => bytes.length + 1
  | .lit _ => 1
  | .nil => 1
  | .ptr d => uptoBulk d + 1
  | .slice elems spare => uptoBulkAll elems + uptoBulkAll spare + 1
  | .agg parts => uptoBulkAll parts + 1
  | .iface _ d => uptoBulk d + 1
  | .map entries => uptoBulkEntries entries + 1
  | .held _ => 1
def uptoBulkAll {H : Type} : List (DataW H) → Nat
  | [] => 0
  | d :: r => uptoBulk d + uptoBulkAll r
def uptoBulkEntries {H : Type} : List (Lit × DataW H) → Nat
  | [] => 0
  | x :: r => uptoBulkEntry x + uptoBulkEntries r
def uptoBulkEntry {H : Type} : Lit × DataW H → Nat
  | (.string bytes, d) => bytes.length + uptoBulk d + 1
  | (_, d) => uptoBulk d + 1
 end
def uptoSmall : (H : Type) → List (DataW H) → Bool := fun _ ds => decide (uptoBulkAll ds ≤ 1048576)
def OpenSpec.upto (s : _root_.Go.ChangeSpec) : _root_.Go.OpenSpec := { _root_.Go.OpenSpec.ofChange s with cond := some uptoSmall }

/-- 'herbariumlaw22.BoxOrders', WHERE WHAT IT READS IS OF BULK AT MOST 1048576: true; the input reads as it did. -/
def boxOrdersUptoRow : OpenClaim := { program := "ytoliekekdmfngaagreat", sum := "c805815647c51a6ea59cccc3591bff875517bcfc9a99713f407f905bcfe88307", func := "herbarium/herbariumlaw22.BoxOrders", spec := "boxOrders", inPlace := ["internal/bytealg.abigen_runtime_cmpstring", "math.Float64bits", "math.Float64frombits"], unfollowed := true, recurses := true, apart := false, narrowed := true }
def BoxOrdersUptoSaid : Prop := boxOrdersUptoRow.holds Tryz.pinned (OpenSpec.upto boxOrdersSpec)

/-- 'herbariumlaw22.BoxLimits', WHERE WHAT IT READS IS OF BULK AT MOST 1048576: true; the input reads as it did. -/
def boxLimitsUptoRow : OpenClaim := { program := "ytoliekekdmfngaagreat", sum := "c805815647c51a6ea59cccc3591bff875517bcfc9a99713f407f905bcfe88307", func := "herbarium/herbariumlaw22.BoxLimits", spec := "boxLimits", inPlace := ["internal/bytealg.abigen_runtime_cmpstring", "math.Float64bits", "math.Float64frombits", "internal/reflectlite.ValueOf", "internal/reflectlite.Swapper", "(internal/reflectlite.Value).Len"], unfollowed := true, recurses := true, apart := false, narrowed := true }
def BoxLimitsUptoSaid : Prop := boxLimitsUptoRow.holds Tryz.pinned (OpenSpec.upto boxLimitsSpec)

/-- 'herbariumlaw22.BoxApart', WHERE WHAT IT READS IS OF BULK AT MOST 1048576: true; the input reads as it did. -/
def boxApartUptoRow : OpenClaim := { program := "ytoliekekdmfngaagreat", sum := "c805815647c51a6ea59cccc3591bff875517bcfc9a99713f407f905bcfe88307", func := "herbarium/herbariumlaw22.BoxApart", spec := "boxApart", inPlace := ["internal/bytealg.abigen_runtime_cmpstring", "math.Float64bits", "math.Float64frombits", "internal/reflectlite.ValueOf", "internal/reflectlite.Swapper", "(internal/reflectlite.Value).Len"], unfollowed := true, recurses := true, apart := false, narrowed := true }
def BoxApartUptoSaid : Prop := boxApartUptoRow.holds Tryz.pinned (OpenSpec.upto boxApartSpec)

/-- 'herbariumlaw22.BoxFrames', WHERE WHAT IT READS IS OF BULK AT MOST 1048576: true; the input reads as it did. -/
def boxFramesUptoRow : OpenClaim := { program := "ytoliekekdmfngaagreat", sum := "c805815647c51a6ea59cccc3591bff875517bcfc9a99713f407f905bcfe88307", func := "herbarium/herbariumlaw22.BoxFrames", spec := "boxFrames", inPlace := ["internal/bytealg.abigen_runtime_cmpstring", "math.Float64bits", "math.Float64frombits", "internal/reflectlite.ValueOf", "internal/reflectlite.Swapper", "(internal/reflectlite.Value).Len"], unfollowed := true, recurses := true, apart := false, narrowed := true }
def BoxFramesUptoSaid : Prop := boxFramesUptoRow.holds Tryz.pinned (OpenSpec.upto boxFramesSpec)

/-- 'herbariumlaw22.BoxBuilds', WHERE WHAT IT READS IS OF BULK AT MOST 1048576: true; the input reads as it did. -/
def boxBuildsUptoRow : OpenClaim := { program := "ytoliekekdmfngaagreat", sum := "c805815647c51a6ea59cccc3591bff875517bcfc9a99713f407f905bcfe88307", func := "herbarium/herbariumlaw22.BoxBuilds", spec := "boxBuilds", inPlace := ["internal/bytealg.abigen_runtime_cmpstring", "math.Float64bits", "math.Float64frombits", "internal/reflectlite.ValueOf", "internal/reflectlite.Swapper", "(internal/reflectlite.Value).Len"], unfollowed := true, recurses := true, apart := false, narrowed := true }
def BoxBuildsUptoSaid : Prop := boxBuildsUptoRow.holds Tryz.pinned (OpenSpec.upto boxBuildsSpec)

/-- 'herbariumlaw22.BoxSpoilt', WHERE WHAT IT READS IS OF BULK AT MOST 1048576: true; the input reads as it did. -/
def boxSpoiltUptoRow : OpenClaim := { program := "ytoliekekdmfngaagreat", sum := "c805815647c51a6ea59cccc3591bff875517bcfc9a99713f407f905bcfe88307", func := "herbarium/herbariumlaw22.BoxSpoilt", spec := "boxSpoilt", inPlace := ["internal/bytealg.abigen_runtime_cmpstring", "math.Float64bits", "math.Float64frombits", "internal/reflectlite.ValueOf", "internal/reflectlite.Swapper", "(internal/reflectlite.Value).Len"], unfollowed := true, recurses := true, apart := false, narrowed := true }
def BoxSpoiltUptoSaid : Prop := boxSpoiltUptoRow.holds Tryz.pinned (OpenSpec.upto boxSpoiltSpec)

/-- 'herbariumlaw22.BoxAny', WHERE WHAT IT READS IS OF BULK AT MOST 1048576: true; the input reads as it did. -/
def boxAnyUptoRow : OpenClaim := { program := "ytoliekekdmfngaagreat", sum := "c805815647c51a6ea59cccc3591bff875517bcfc9a99713f407f905bcfe88307", func := "herbarium/herbariumlaw22.BoxAny", spec := "boxAny", inPlace := ["internal/bytealg.abigen_runtime_cmpstring", "math.Float64bits", "math.Float64frombits", "internal/reflectlite.ValueOf", "internal/reflectlite.Swapper", "(internal/reflectlite.Value).Len"], unfollowed := true, recurses := true, apart := false, narrowed := true }
def BoxAnyUptoSaid : Prop := boxAnyUptoRow.holds Tryz.pinned (OpenSpec.upto boxAnySpec)

end Rows
end Go.Proofs.YtoliekekdmfngaaGreat
