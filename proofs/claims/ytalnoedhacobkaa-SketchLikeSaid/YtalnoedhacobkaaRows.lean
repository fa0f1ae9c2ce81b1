/-
  No cell of these rows narrows 'for every input' (looked for: loops, veiled, ifaces, maps, wideKeys, modest, calm, conditions, laid).
  DERIVED. THE GIVEN ROWS OF THIS SEAT. 12 by the template 'for every input the law returns true; each argument reads behind the call as it read before'; 0 by the template 'total and deterministic' (their statements: YtalnoedhacobkaaTotals.lean).
  GIVEN WITH THE SEED: the statements are not yours to turn. If you find one false, say at which input.
  Laid BY PROGRAM, IN A SANDBOX (cutbox-rows.mjs): the forced cells as the released guide's own fill.sh prints them over the translation 57fce7f98b5abb79… (all of the seat's roots in one cut). By AI agents, Wed Nov 11 2026. No macro, syntax, notation, axiom, sorry.
-/
import Derived.Test.YtalnoedhacobkaaChecked
import GoSem.Claim
import GoSem.ClaimJoined
import GoSem.ClaimMapViews
import Derived.JoinedTies
import Derived.KernelRfl
namespace Go.Proofs.Ytalnoedhacobkaa
/- THE CELL 'sum', in the pinned program and in every row, IS THE sha256 OF THE DUMP (.gsa) THAT YtalnoedhacobkaaProg.lean LOADS. Nothing in Lean hashes anything: it is a label: what it is worth is what the hold of that sum in a sandbox is worth. -/
noncomputable def Try.pinned : Pinned := { name := "ytalnoedhacobkaa", sum := "57fce7f98b5abb79db5212bbdab6a96f675856899035be0e8b6d97028b305b56", checked := Try.checked }
namespace Rows
def none {H : Type} : Left H := { results := [], args := [] }

/-- 'herbariumlaw14.BloomAdds': WHATEVER THE INPUT: true; the input reads as it did. -/
def bloomAddsSpec : ChangeSpec := { name := "bloomAdds", fn := fun _ => fun
  | [d1, d2, d3, d4] => { results := [.lit (.bool true)], args := [d1, d2, d3, d4] }
  | _ => none }
def bloomAddsRow : OpenClaim := { program := "ytalnoedhacobkaa", sum := "57fce7f98b5abb79db5212bbdab6a96f675856899035be0e8b6d97028b305b56", func := "herbarium/herbariumlaw14.BloomAdds", spec := "bloomAdds", apart := false }
def BloomAddsSaid : Prop := bloomAddsRow.holds Try.pinned (OpenSpec.ofChange bloomAddsSpec)

/-- ITS FALSE NEIGHBOUR: 'it returns false'. Refute it at one input. -/
def bloomAddsWrong : ChangeSpec := { name := "bloomAdds", fn := fun _ => fun
  | [d1, d2, d3, d4] => { results := [.lit (.bool false)], args := [d1, d2, d3, d4] }
  | _ => none }
def BloomAddsWrongFalsely : Prop := bloomAddsRow.holds Try.pinned (OpenSpec.ofChange bloomAddsWrong)

/-- 'herbariumlaw12.KmvAlone': WHATEVER THE INPUT: true; the input reads as it did. -/
def kmvAloneSpec : ChangeSpec := { name := "kmvAlone", fn := fun _ => fun
  | [d1, d2] => { results := [.lit (.bool true)], args := [d1, d2] }
  | _ => none }
def kmvAloneRow : OpenClaim := { program := "ytalnoedhacobkaa", sum := "57fce7f98b5abb79db5212bbdab6a96f675856899035be0e8b6d97028b305b56", func := "herbarium/herbariumlaw12.KmvAlone", spec := "kmvAlone", named := ["math/bits.divideError", "math/bits.overflowError"], apart := false }
def KmvAloneSaid : Prop := kmvAloneRow.holds Try.pinned (OpenSpec.ofChange kmvAloneSpec)

/-- ITS FALSE NEIGHBOUR: 'it returns false'. Refute it at one input. -/
def kmvAloneWrong : ChangeSpec := { name := "kmvAlone", fn := fun _ => fun
  | [d1, d2] => { results := [.lit (.bool false)], args := [d1, d2] }
  | _ => none }
def KmvAloneWrongFalsely : Prop := kmvAloneRow.holds Try.pinned (OpenSpec.ofChange kmvAloneWrong)

/-- 'herbariumlaw09.TotalEdges': WHATEVER THE INPUT: true; the input reads as it did. -/
def totalEdgesSpec : ChangeSpec := { name := "totalEdges", fn := fun _ => fun
  | [d1, d2] => { results := [.lit (.bool true)], args := [d1, d2] }
  | _ => none }
def totalEdgesRow : OpenClaim := { program := "ytalnoedhacobkaa", sum := "57fce7f98b5abb79db5212bbdab6a96f675856899035be0e8b6d97028b305b56", func := "herbarium/herbariumlaw09.TotalEdges", spec := "totalEdges", inPlace := ["math.Float64bits", "math.Float64frombits", "math.archFloor", "math.archTrunc"], apart := false }
def TotalEdgesSaid : Prop := totalEdgesRow.holds Try.pinned (OpenSpec.ofChange totalEdgesSpec)

/-- ITS FALSE NEIGHBOUR: 'it returns false'. Refute it at one input. -/
def totalEdgesWrong : ChangeSpec := { name := "totalEdges", fn := fun _ => fun
  | [d1, d2] => { results := [.lit (.bool false)], args := [d1, d2] }
  | _ => none }
def TotalEdgesWrongFalsely : Prop := totalEdgesRow.holds Try.pinned (OpenSpec.ofChange totalEdgesWrong)

/-- 'herbariumlaw16.GaugeAdds': WHATEVER THE INPUT: true; the input reads as it did. -/
def gaugeAddsSpec : ChangeSpec := { name := "gaugeAdds", fn := fun _ => fun
  | [d1, d2] => { results := [.lit (.bool true)], args := [d1, d2] }
  | _ => none }
def gaugeAddsRow : OpenClaim := { program := "ytalnoedhacobkaa", sum := "57fce7f98b5abb79db5212bbdab6a96f675856899035be0e8b6d97028b305b56", func := "herbarium/herbariumlaw16.GaugeAdds", spec := "gaugeAdds", inPlace := ["math.Float64frombits", "math.Float64bits", "internal/reflectlite.ValueOf", "internal/reflectlite.Swapper", "(internal/reflectlite.Value).Len"], unfollowed := true, recurses := true, apart := false }
def GaugeAddsSaid : Prop := gaugeAddsRow.holds Try.pinned (OpenSpec.ofChange gaugeAddsSpec)

/-- ITS FALSE NEIGHBOUR: 'it returns false'. Refute it at one input. -/
def gaugeAddsWrong : ChangeSpec := { name := "gaugeAdds", fn := fun _ => fun
  | [d1, d2] => { results := [.lit (.bool false)], args := [d1, d2] }
  | _ => none }
def GaugeAddsWrongFalsely : Prop := gaugeAddsRow.holds Try.pinned (OpenSpec.ofChange gaugeAddsWrong)

/-- 'herbariumlaw16.GaugeChecks': WHATEVER THE INPUT: true; the input reads as it did. -/
def gaugeChecksSpec : ChangeSpec := { name := "gaugeChecks", fn := fun _ => fun
  | [d1, d2, d3, d4, d5, d6] => { results := [.lit (.bool true)], args := [d1, d2, d3, d4, d5, d6] }
  | _ => none }
def gaugeChecksRow : OpenClaim := { program := "ytalnoedhacobkaa", sum := "57fce7f98b5abb79db5212bbdab6a96f675856899035be0e8b6d97028b305b56", func := "herbarium/herbariumlaw16.GaugeChecks", spec := "gaugeChecks", inPlace := ["math.Float64frombits", "math.Float64bits", "internal/reflectlite.ValueOf", "internal/reflectlite.Swapper", "(internal/reflectlite.Value).Len"], unfollowed := true, recurses := true, apart := false }
def GaugeChecksSaid : Prop := gaugeChecksRow.holds Try.pinned (OpenSpec.ofChange gaugeChecksSpec)

/-- ITS FALSE NEIGHBOUR: 'it returns false'. Refute it at one input. -/
def gaugeChecksWrong : ChangeSpec := { name := "gaugeChecks", fn := fun _ => fun
  | [d1, d2, d3, d4, d5, d6] => { results := [.lit (.bool false)], args := [d1, d2, d3, d4, d5, d6] }
  | _ => none }
def GaugeChecksWrongFalsely : Prop := gaugeChecksRow.holds Try.pinned (OpenSpec.ofChange gaugeChecksWrong)

/-- 'herbariumlaw12.KmvAdds': WHATEVER THE INPUT: true; the input reads as it did. -/
def kmvAddsSpec : ChangeSpec := { name := "kmvAdds", fn := fun _ => fun
  | [d1, d2, d3] => { results := [.lit (.bool true)], args := [d1, d2, d3] }
  | _ => none }
def kmvAddsRow : OpenClaim := { program := "ytalnoedhacobkaa", sum := "57fce7f98b5abb79db5212bbdab6a96f675856899035be0e8b6d97028b305b56", func := "herbarium/herbariumlaw12.KmvAdds", spec := "kmvAdds", inPlace := ["internal/reflectlite.ValueOf", "internal/reflectlite.Swapper", "(internal/reflectlite.Value).Len"], unfollowed := true, recurses := true, named := ["math/bits.divideError", "math/bits.overflowError"], apart := false }
def KmvAddsSaid : Prop := kmvAddsRow.holds Try.pinned (OpenSpec.ofChange kmvAddsSpec)

/-- ITS FALSE NEIGHBOUR: 'it returns false'. Refute it at one input. -/
def kmvAddsWrong : ChangeSpec := { name := "kmvAdds", fn := fun _ => fun
  | [d1, d2, d3] => { results := [.lit (.bool false)], args := [d1, d2, d3] }
  | _ => none }
def KmvAddsWrongFalsely : Prop := kmvAddsRow.holds Try.pinned (OpenSpec.ofChange kmvAddsWrong)

/-- 'herbariumlaw17.SketchMerges': WHATEVER THE INPUT: true; the input reads as it did. -/
def sketchMergesSpec : ChangeSpec := { name := "sketchMerges", fn := fun _ => fun
  | [d1, d2, d3] => { results := [.lit (.bool true)], args := [d1, d2, d3] }
  | _ => none }
def sketchMergesRow : OpenClaim := { program := "ytalnoedhacobkaa", sum := "57fce7f98b5abb79db5212bbdab6a96f675856899035be0e8b6d97028b305b56", func := "herbarium/herbariumlaw17.SketchMerges", spec := "sketchMerges", inPlace := ["math.Float64bits", "math.Float64frombits"], apart := false }
def SketchMergesSaid : Prop := sketchMergesRow.holds Try.pinned (OpenSpec.ofChange sketchMergesSpec)

/-- ITS FALSE NEIGHBOUR: 'it returns false'. Refute it at one input. -/
def sketchMergesWrong : ChangeSpec := { name := "sketchMerges", fn := fun _ => fun
  | [d1, d2, d3] => { results := [.lit (.bool false)], args := [d1, d2, d3] }
  | _ => none }
def SketchMergesWrongFalsely : Prop := sketchMergesRow.holds Try.pinned (OpenSpec.ofChange sketchMergesWrong)

/-- 'herbariumlaw17.SketchTurns': WHATEVER THE INPUT: true; the input reads as it did. -/
def sketchTurnsSpec : ChangeSpec := { name := "sketchTurns", fn := fun _ => fun
  | [d1, d2, d3] => { results := [.lit (.bool true)], args := [d1, d2, d3] }
  | _ => none }
def sketchTurnsRow : OpenClaim := { program := "ytalnoedhacobkaa", sum := "57fce7f98b5abb79db5212bbdab6a96f675856899035be0e8b6d97028b305b56", func := "herbarium/herbariumlaw17.SketchTurns", spec := "sketchTurns", inPlace := ["math.Float64bits", "math.Float64frombits"], apart := false }
def SketchTurnsSaid : Prop := sketchTurnsRow.holds Try.pinned (OpenSpec.ofChange sketchTurnsSpec)

/-- ITS FALSE NEIGHBOUR: 'it returns false'. Refute it at one input. -/
def sketchTurnsWrong : ChangeSpec := { name := "sketchTurns", fn := fun _ => fun
  | [d1, d2, d3] => { results := [.lit (.bool false)], args := [d1, d2, d3] }
  | _ => none }
def SketchTurnsWrongFalsely : Prop := sketchTurnsRow.holds Try.pinned (OpenSpec.ofChange sketchTurnsWrong)

/-- 'herbariumlaw17.SketchChecks': WHATEVER THE INPUT: true; the input reads as it did. -/
def sketchChecksSpec : ChangeSpec := { name := "sketchChecks", fn := fun _ => fun
  | [d1, d2, d3] => { results := [.lit (.bool true)], args := [d1, d2, d3] }
  | _ => none }
def sketchChecksRow : OpenClaim := { program := "ytalnoedhacobkaa", sum := "57fce7f98b5abb79db5212bbdab6a96f675856899035be0e8b6d97028b305b56", func := "herbarium/herbariumlaw17.SketchChecks", spec := "sketchChecks", inPlace := ["math.Float64bits", "math.Float64frombits"], apart := false }
def SketchChecksSaid : Prop := sketchChecksRow.holds Try.pinned (OpenSpec.ofChange sketchChecksSpec)

/-- ITS FALSE NEIGHBOUR: 'it returns false'. Refute it at one input. -/
def sketchChecksWrong : ChangeSpec := { name := "sketchChecks", fn := fun _ => fun
  | [d1, d2, d3] => { results := [.lit (.bool false)], args := [d1, d2, d3] }
  | _ => none }
def SketchChecksWrongFalsely : Prop := sketchChecksRow.holds Try.pinned (OpenSpec.ofChange sketchChecksWrong)

/-- 'herbariumlaw17.SketchNone': WHATEVER THE INPUT: true; the input reads as it did. -/
def sketchNoneSpec : ChangeSpec := { name := "sketchNone", fn := fun _ => fun
  | [d] => { results := [.lit (.bool true)], args := [d] }
  | _ => none }
def sketchNoneRow : OpenClaim := { program := "ytalnoedhacobkaa", sum := "57fce7f98b5abb79db5212bbdab6a96f675856899035be0e8b6d97028b305b56", func := "herbarium/herbariumlaw17.SketchNone", spec := "sketchNone", inPlace := ["math.Float64bits", "math.Float64frombits"], apart := false }
def SketchNoneSaid : Prop := sketchNoneRow.holds Try.pinned (OpenSpec.ofChange sketchNoneSpec)

/-- ITS FALSE NEIGHBOUR: 'it returns false'. Refute it at one input. -/
def sketchNoneWrong : ChangeSpec := { name := "sketchNone", fn := fun _ => fun
  | [d] => { results := [.lit (.bool false)], args := [d] }
  | _ => none }
def SketchNoneWrongFalsely : Prop := sketchNoneRow.holds Try.pinned (OpenSpec.ofChange sketchNoneWrong)

/-- 'herbariumlaw17.SketchSees': WHATEVER THE INPUT: true; the input reads as it did. -/
def sketchSeesSpec : ChangeSpec := { name := "sketchSees", fn := fun _ => fun
  | [d1, d2] => { results := [.lit (.bool true)], args := [d1, d2] }
  | _ => none }
def sketchSeesRow : OpenClaim := { program := "ytalnoedhacobkaa", sum := "57fce7f98b5abb79db5212bbdab6a96f675856899035be0e8b6d97028b305b56", func := "herbarium/herbariumlaw17.SketchSees", spec := "sketchSees", inPlace := ["math.Float64bits", "math.Float64frombits"], apart := false }
def SketchSeesSaid : Prop := sketchSeesRow.holds Try.pinned (OpenSpec.ofChange sketchSeesSpec)

/-- ITS FALSE NEIGHBOUR: 'it returns false'. Refute it at one input. -/
def sketchSeesWrong : ChangeSpec := { name := "sketchSees", fn := fun _ => fun
  | [d1, d2] => { results := [.lit (.bool false)], args := [d1, d2] }
  | _ => none }
def SketchSeesWrongFalsely : Prop := sketchSeesRow.holds Try.pinned (OpenSpec.ofChange sketchSeesWrong)

/-- 'herbariumlaw17.SketchLike': WHATEVER THE INPUT: true; the input reads as it did. -/
def sketchLikeSpec : ChangeSpec := { name := "sketchLike", fn := fun _ => fun
  | [d1, d2, d3] => { results := [.lit (.bool true)], args := [d1, d2, d3] }
  | _ => none }
def sketchLikeRow : OpenClaim := { program := "ytalnoedhacobkaa", sum := "57fce7f98b5abb79db5212bbdab6a96f675856899035be0e8b6d97028b305b56", func := "herbarium/herbariumlaw17.SketchLike", spec := "sketchLike", inPlace := ["math.Float64bits", "math.Float64frombits"], apart := false }
def SketchLikeSaid : Prop := sketchLikeRow.holds Try.pinned (OpenSpec.ofChange sketchLikeSpec)

/-- ITS FALSE NEIGHBOUR: 'it returns false'. Refute it at one input. -/
def sketchLikeWrong : ChangeSpec := { name := "sketchLike", fn := fun _ => fun
  | [d1, d2, d3] => { results := [.lit (.bool false)], args := [d1, d2, d3] }
  | _ => none }
def SketchLikeWrongFalsely : Prop := sketchLikeRow.holds Try.pinned (OpenSpec.ofChange sketchLikeWrong)

/- THE SECOND FORM. 'bulk': how many values and letters a reading holds, each counted each time it is reached (what is shared counts as often as it is met; a slice's spare places count too). A statement '..UptoSaid' is the law's where the arguments, and the package variables that the reading takes, are together of bulk at most 1048576: NARROWER than '..Said'. Prove '..Said' where nothing that the law and all that it calls make is longer than what came in: it says more and counts as full. Else prove '..UptoSaid'. A law counts once. -/
mutual
def uptoBulk {H : Type} : DataW H → Nat
  | .lit (.string bytes) => bytes.length + 1
  | .lit _ => 1
  | .nil => 1
  | .ptr d => uptoBulk d + 1
  | .slice elems spare => uptoBulkAll elems + uptoBulkAll spare + 1
  | .agg parts => uptoBulkAll parts + 1
  | .iface _ d => uptoBulk d + 1
  | .map entries => uptoBulkEntries entries + 1
  | .held _ => 1
def uptoBulkAll {H : Type} : List (DataW H) → Nat
  | [] => 0
  | d :: r => uptoBulk d + uptoBulkAll r
def uptoBulkEntries {H : Type} : List (Lit × DataW H) → Nat
  | [] => 0
  | x :: r => uptoBulkEntry x + uptoBulkEntries r
def uptoBulkEntry {H : Type} : Lit × DataW H → Nat
  | (.string bytes, d) => bytes.length + uptoBulk d + 1
  | (_, d) => uptoBulk d + 1
 end
def uptoSmall : (H : Type) → List (DataW H) → Bool := fun _ ds => decide (uptoBulkAll ds ≤ 1048576)
def OpenSpec.upto (s : _root_.Go.ChangeSpec) : _root_.Go.OpenSpec := { _root_.Go.OpenSpec.ofChange s with cond := some uptoSmall }

/-- 'herbariumlaw14.BloomAdds', WHERE WHAT IT READS IS OF BULK AT MOST 1048576: true; the input reads as it did. -/
def bloomAddsUptoRow : OpenClaim := { program := "ytalnoedhacobkaa", sum := "57fce7f98b5abb79db5212bbdab6a96f675856899035be0e8b6d97028b305b56", func := "herbarium/herbariumlaw14.BloomAdds", spec := "bloomAdds", apart := false, narrowed := true }
def BloomAddsUptoSaid : Prop := bloomAddsUptoRow.holds Try.pinned (OpenSpec.upto bloomAddsSpec)

/-- 'herbariumlaw12.KmvAlone', WHERE WHAT IT READS IS OF BULK AT MOST 1048576: true; the input reads as it did. -/
def kmvAloneUptoRow : OpenClaim := { program := "ytalnoedhacobkaa", sum := "57fce7f98b5abb79db5212bbdab6a96f675856899035be0e8b6d97028b305b56", func := "herbarium/herbariumlaw12.KmvAlone", spec := "kmvAlone", named := ["math/bits.divideError", "math/bits.overflowError"], apart := false, narrowed := true }
def KmvAloneUptoSaid : Prop := kmvAloneUptoRow.holds Try.pinned (OpenSpec.upto kmvAloneSpec)

/-- 'herbariumlaw09.TotalEdges', WHERE WHAT IT READS IS OF BULK AT MOST 1048576: true; the input reads as it did. -/
def totalEdgesUptoRow : OpenClaim := { program := "ytalnoedhacobkaa", sum := "57fce7f98b5abb79db5212bbdab6a96f675856899035be0e8b6d97028b305b56", func := "herbarium/herbariumlaw09.TotalEdges", spec := "totalEdges", inPlace := ["math.Float64bits", "math.Float64frombits", "math.archFloor", "math.archTrunc"], apart := false, narrowed := true }
def TotalEdgesUptoSaid : Prop := totalEdgesUptoRow.holds Try.pinned (OpenSpec.upto totalEdgesSpec)

/-- 'herbariumlaw16.GaugeAdds', WHERE WHAT IT READS IS OF BULK AT MOST 1048576: true; the input reads as it did. -/
def gaugeAddsUptoRow : OpenClaim := { program := "ytalnoedhacobkaa", sum := "57fce7f98b5abb79db5212bbdab6a96f675856899035be0e8b6d97028b305b56", func := "herbarium/herbariumlaw16.GaugeAdds", spec := "gaugeAdds", inPlace := ["math.Float64frombits", "math.Float64bits", "internal/reflectlite.ValueOf", "internal/reflectlite.Swapper", "(internal/reflectlite.Value).Len"], unfollowed := true, recurses := true, apart := false, narrowed := true }
def GaugeAddsUptoSaid : Prop := gaugeAddsUptoRow.holds Try.pinned (OpenSpec.upto gaugeAddsSpec)

/-- 'herbariumlaw16.GaugeChecks', WHERE WHAT IT READS IS OF BULK AT MOST 1048576: true; the input reads as it did. -/
def gaugeChecksUptoRow : OpenClaim := { program := "ytalnoedhacobkaa", sum := "57fce7f98b5abb79db5212bbdab6a96f675856899035be0e8b6d97028b305b56", func := "herbarium/herbariumlaw16.GaugeChecks", spec := "gaugeChecks", inPlace := ["math.Float64frombits", "math.Float64bits", "internal/reflectlite.ValueOf", "internal/reflectlite.Swapper", "(internal/reflectlite.Value).Len"], unfollowed := true, recurses := true, apart := false, narrowed := true }
def GaugeChecksUptoSaid : Prop := gaugeChecksUptoRow.holds Try.pinned (OpenSpec.upto gaugeChecksSpec)

/-- 'herbariumlaw12.KmvAdds', WHERE WHAT IT READS IS OF BULK AT MOST 1048576: true; the input reads as it did. -/
def kmvAddsUptoRow : OpenClaim := { program := "ytalnoedhacobkaa", sum := "57fce7f98b5abb79db5212bbdab6a96f675856899035be0e8b6d97028b305b56", func := "herbarium/herbariumlaw12.KmvAdds", spec := "kmvAdds", inPlace := ["internal/reflectlite.ValueOf", "internal/reflectlite.Swapper", "(internal/reflectlite.Value).Len"], unfollowed := true, recurses := true, named := ["math/bits.divideError", "math/bits.overflowError"], apart := false, narrowed := true }
def KmvAddsUptoSaid : Prop := kmvAddsUptoRow.holds Try.pinned (OpenSpec.upto kmvAddsSpec)

/-- 'herbariumlaw17.SketchMerges', WHERE WHAT IT READS IS OF BULK AT MOST 1048576: true; the input reads as it did. -/
def sketchMergesUptoRow : OpenClaim := { program := "ytalnoedhacobkaa", sum := "57fce7f98b5abb79db5212bbdab6a96f675856899035be0e8b6d97028b305b56", func := "herbarium/herbariumlaw17.SketchMerges", spec := "sketchMerges", inPlace := ["math.Float64bits", "math.Float64frombits"], apart := false, narrowed := true }
def SketchMergesUptoSaid : Prop := sketchMergesUptoRow.holds Try.pinned (OpenSpec.upto sketchMergesSpec)

/-- 'herbariumlaw17.SketchTurns', WHERE WHAT IT READS IS OF BULK AT MOST 1048576: true; the input reads as it did. -/
def sketchTurnsUptoRow : OpenClaim := { program := "ytalnoedhacobkaa", sum := "57fce7f98b5abb79db5212bbdab6a96f675856899035be0e8b6d97028b305b56", func := "herbarium/herbariumlaw17.SketchTurns", spec := "sketchTurns", inPlace := ["math.Float64bits", "math.Float64frombits"], apart := false, narrowed := true }
def SketchTurnsUptoSaid : Prop := sketchTurnsUptoRow.holds Try.pinned (OpenSpec.upto sketchTurnsSpec)

/-- 'herbariumlaw17.SketchChecks', WHERE WHAT IT READS IS OF BULK AT MOST 1048576: true; the input reads as it did. -/
def sketchChecksUptoRow : OpenClaim := { program := "ytalnoedhacobkaa", sum := "57fce7f98b5abb79db5212bbdab6a96f675856899035be0e8b6d97028b305b56", func := "herbarium/herbariumlaw17.SketchChecks", spec := "sketchChecks", inPlace := ["math.Float64bits", "math.Float64frombits"], apart := false, narrowed := true }
def SketchChecksUptoSaid : Prop := sketchChecksUptoRow.holds Try.pinned (OpenSpec.upto sketchChecksSpec)

/-- 'herbariumlaw17.SketchNone', WHERE WHAT IT READS IS OF BULK AT MOST 1048576: true; the input reads as it did. -/
def sketchNoneUptoRow : OpenClaim := { program := "ytalnoedhacobkaa", sum := "57fce7f98b5abb79db5212bbdab6a96f675856899035be0e8b6d97028b305b56", func := "herbarium/herbariumlaw17.SketchNone", spec := "sketchNone", inPlace := ["math.Float64bits", "math.Float64frombits"], apart := false, narrowed := true }
def SketchNoneUptoSaid : Prop := sketchNoneUptoRow.holds Try.pinned (OpenSpec.upto sketchNoneSpec)

/-- 'herbariumlaw17.SketchSees', WHERE WHAT IT READS IS OF BULK AT MOST 1048576: true; the input reads as it did. -/
def sketchSeesUptoRow : OpenClaim := { program := "ytalnoedhacobkaa", sum := "57fce7f98b5abb79db5212bbdab6a96f675856899035be0e8b6d97028b305b56", func := "herbarium/herbariumlaw17.SketchSees", spec := "sketchSees", inPlace := ["math.Float64bits", "math.Float64frombits"], apart := false, narrowed := true }
def SketchSeesUptoSaid : Prop := sketchSeesUptoRow.holds Try.pinned (OpenSpec.upto sketchSeesSpec)

/-- 'herbariumlaw17.SketchLike', WHERE WHAT IT READS IS OF BULK AT MOST 1048576: true; the input reads as it did. -/
def sketchLikeUptoRow : OpenClaim := { program := "ytalnoedhacobkaa", sum := "57fce7f98b5abb79db5212bbdab6a96f675856899035be0e8b6d97028b305b56", func := "herbarium/herbariumlaw17.SketchLike", spec := "sketchLike", inPlace := ["math.Float64bits", "math.Float64frombits"], apart := false, narrowed := true }
def SketchLikeUptoSaid : Prop := sketchLikeUptoRow.holds Try.pinned (OpenSpec.upto sketchLikeSpec)

end Rows
end Go.Proofs.Ytalnoedhacobkaa
