/-
  No cell of these rows narrows 'for every input' (looked for: loops, veiled, ifaces, maps, wideKeys, modest, calm, conditions, laid).
  DERIVED. THE GIVEN ROWS OF THIS SEAT. 10 by the template 'for every input the law returns true; each argument reads behind the call as it read before'; 0 by the template 'total and deterministic' (their statements: YtdmpcbealegicaaTotals.lean).
  GIVEN WITH THE SEED: the statements are not yours to turn. If you find one false, say at which input.
  Laid BY PROGRAM, IN A SANDBOX (cutbox-rows.mjs): the forced cells as the released guide's own fill.sh prints them over the translation ea045fa9817d00f4… (all of the seat's roots in one cut). By AI agents, Wed Nov 11 2026. No macro, syntax, notation, axiom, sorry.
-/
import Derived.Test.YtdmpcbealegicaaChecked
import GoSem.Claim
import GoSem.ClaimJoined
import GoSem.ClaimMapViews
import Derived.JoinedTies
import Derived.KernelRfl
namespace Go.Proofs.Ytdmpcbealegicaa
/- THE CELL 'sum', in the pinned program and in every row, IS THE sha256 OF THE DUMP (.gsa) THAT YtdmpcbealegicaaProg.lean LOADS. Nothing in Lean hashes anything: it is a label: what it is worth is what the hold of that sum in a sandbox is worth. -/
noncomputable def Try.pinned : Pinned := { name := "ytdmpcbealegicaa", sum := "ea045fa9817d00f4c35da8150e712cc0fd525b20bd12f3121437203ef63793fd", checked := Try.checked }
namespace Rows
def none {H : Type} : Left H := { results := [], args := [] }

/-- 'herbariumlaw09.TotalOf': WHATEVER THE INPUT: true; the input reads as it did. -/
def totalOfSpec : ChangeSpec := { name := "totalOf", fn := fun _ => fun
  | [d1, d2, d3] => { results := [.lit (.bool true)], args := [d1, d2, d3] }
  | _ => none }
def totalOfRow : OpenClaim := { program := "ytdmpcbealegicaa", sum := "ea045fa9817d00f4c35da8150e712cc0fd525b20bd12f3121437203ef63793fd", func := "herbarium/herbariumlaw09.TotalOf", spec := "totalOf", inPlace := ["math.Float64bits", "math.Float64frombits"], apart := false }
def TotalOfSaid : Prop := totalOfRow.holds Try.pinned (OpenSpec.ofChange totalOfSpec)

/-- ITS FALSE NEIGHBOUR: 'it returns false'. Refute it at one input. -/
def totalOfWrong : ChangeSpec := { name := "totalOf", fn := fun _ => fun
  | [d1, d2, d3] => { results := [.lit (.bool false)], args := [d1, d2, d3] }
  | _ => none }
def TotalOfWrongFalsely : Prop := totalOfRow.holds Try.pinned (OpenSpec.ofChange totalOfWrong)

/-- 'herbariumlaw09.TotalKeys': WHATEVER THE INPUT: true; the input reads as it did. -/
def totalKeysSpec : ChangeSpec := { name := "totalKeys", fn := fun _ => fun
  | [d1, d2, d3, d4] => { results := [.lit (.bool true)], args := [d1, d2, d3, d4] }
  | _ => none }
def totalKeysRow : OpenClaim := { program := "ytdmpcbealegicaa", sum := "ea045fa9817d00f4c35da8150e712cc0fd525b20bd12f3121437203ef63793fd", func := "herbarium/herbariumlaw09.TotalKeys", spec := "totalKeys", inPlace := ["math.Float64bits", "math.Float64frombits"], apart := false }
def TotalKeysSaid : Prop := totalKeysRow.holds Try.pinned (OpenSpec.ofChange totalKeysSpec)

/-- ITS FALSE NEIGHBOUR: 'it returns false'. Refute it at one input. -/
def totalKeysWrong : ChangeSpec := { name := "totalKeys", fn := fun _ => fun
  | [d1, d2, d3, d4] => { results := [.lit (.bool false)], args := [d1, d2, d3, d4] }
  | _ => none }
def TotalKeysWrongFalsely : Prop := totalKeysRow.holds Try.pinned (OpenSpec.ofChange totalKeysWrong)

/-- 'herbariumlaw09.TotalBest': WHATEVER THE INPUT: true; the input reads as it did. -/
def totalBestSpec : ChangeSpec := { name := "totalBest", fn := fun _ => fun
  | [d1, d2, d3, d4, d5, d6] => { results := [.lit (.bool true)], args := [d1, d2, d3, d4, d5, d6] }
  | _ => none }
def totalBestRow : OpenClaim := { program := "ytdmpcbealegicaa", sum := "ea045fa9817d00f4c35da8150e712cc0fd525b20bd12f3121437203ef63793fd", func := "herbarium/herbariumlaw09.TotalBest", spec := "totalBest", inPlace := ["math.Float64bits", "math.Float64frombits"], apart := false }
def TotalBestSaid : Prop := totalBestRow.holds Try.pinned (OpenSpec.ofChange totalBestSpec)

/-- ITS FALSE NEIGHBOUR: 'it returns false'. Refute it at one input. -/
def totalBestWrong : ChangeSpec := { name := "totalBest", fn := fun _ => fun
  | [d1, d2, d3, d4, d5, d6] => { results := [.lit (.bool false)], args := [d1, d2, d3, d4, d5, d6] }
  | _ => none }
def TotalBestWrongFalsely : Prop := totalBestRow.holds Try.pinned (OpenSpec.ofChange totalBestWrong)

/-- 'herbariumlaw09.TotalSigns': WHATEVER THE INPUT: true; the input reads as it did. -/
def totalSignsSpec : ChangeSpec := { name := "totalSigns", fn := fun _ => fun
  | [d1, d2, d3, d4] => { results := [.lit (.bool true)], args := [d1, d2, d3, d4] }
  | _ => none }
def totalSignsRow : OpenClaim := { program := "ytdmpcbealegicaa", sum := "ea045fa9817d00f4c35da8150e712cc0fd525b20bd12f3121437203ef63793fd", func := "herbarium/herbariumlaw09.TotalSigns", spec := "totalSigns", inPlace := ["math.Float64bits", "math.Float64frombits"], apart := false }
def TotalSignsSaid : Prop := totalSignsRow.holds Try.pinned (OpenSpec.ofChange totalSignsSpec)

/-- ITS FALSE NEIGHBOUR: 'it returns false'. Refute it at one input. -/
def totalSignsWrong : ChangeSpec := { name := "totalSigns", fn := fun _ => fun
  | [d1, d2, d3, d4] => { results := [.lit (.bool false)], args := [d1, d2, d3, d4] }
  | _ => none }
def TotalSignsWrongFalsely : Prop := totalSignsRow.holds Try.pinned (OpenSpec.ofChange totalSignsWrong)

/-- 'herbariumlaw09.TotalEdges': WHATEVER THE INPUT: true; the input reads as it did. -/
def totalEdgesSpec : ChangeSpec := { name := "totalEdges", fn := fun _ => fun
  | [d1, d2] => { results := [.lit (.bool true)], args := [d1, d2] }
  | _ => none }
def totalEdgesRow : OpenClaim := { program := "ytdmpcbealegicaa", sum := "ea045fa9817d00f4c35da8150e712cc0fd525b20bd12f3121437203ef63793fd", func := "herbarium/herbariumlaw09.TotalEdges", spec := "totalEdges", inPlace := ["math.Float64bits", "math.Float64frombits", "math.archFloor", "math.archTrunc"], apart := false }
def TotalEdgesSaid : Prop := totalEdgesRow.holds Try.pinned (OpenSpec.ofChange totalEdgesSpec)

/-- ITS FALSE NEIGHBOUR: 'it returns false'. Refute it at one input. -/
def totalEdgesWrong : ChangeSpec := { name := "totalEdges", fn := fun _ => fun
  | [d1, d2] => { results := [.lit (.bool false)], args := [d1, d2] }
  | _ => none }
def TotalEdgesWrongFalsely : Prop := totalEdgesRow.holds Try.pinned (OpenSpec.ofChange totalEdgesWrong)

/-- 'herbariumlaw16.GaugeBounds': WHATEVER THE INPUT: true; the input reads as it did. -/
def gaugeBoundsSpec : ChangeSpec := { name := "gaugeBounds", fn := fun _ => fun
  | [d1, d2, d3] => { results := [.lit (.bool true)], args := [d1, d2, d3] }
  | _ => none }
def gaugeBoundsRow : OpenClaim := { program := "ytdmpcbealegicaa", sum := "ea045fa9817d00f4c35da8150e712cc0fd525b20bd12f3121437203ef63793fd", func := "herbarium/herbariumlaw16.GaugeBounds", spec := "gaugeBounds", inPlace := ["math.Float64frombits", "math.Float64bits"], apart := false }
def GaugeBoundsSaid : Prop := gaugeBoundsRow.holds Try.pinned (OpenSpec.ofChange gaugeBoundsSpec)

/-- ITS FALSE NEIGHBOUR: 'it returns false'. Refute it at one input. -/
def gaugeBoundsWrong : ChangeSpec := { name := "gaugeBounds", fn := fun _ => fun
  | [d1, d2, d3] => { results := [.lit (.bool false)], args := [d1, d2, d3] }
  | _ => none }
def GaugeBoundsWrongFalsely : Prop := gaugeBoundsRow.holds Try.pinned (OpenSpec.ofChange gaugeBoundsWrong)

/-- 'herbariumlaw16.GaugeMerges': WHATEVER THE INPUT: true; the input reads as it did. -/
def gaugeMergesSpec : ChangeSpec := { name := "gaugeMerges", fn := fun _ => fun
  | [d1, d2, d3] => { results := [.lit (.bool true)], args := [d1, d2, d3] }
  | _ => none }
def gaugeMergesRow : OpenClaim := { program := "ytdmpcbealegicaa", sum := "ea045fa9817d00f4c35da8150e712cc0fd525b20bd12f3121437203ef63793fd", func := "herbarium/herbariumlaw16.GaugeMerges", spec := "gaugeMerges", inPlace := ["math.Float64frombits", "math.Float64bits"], apart := false }
def GaugeMergesSaid : Prop := gaugeMergesRow.holds Try.pinned (OpenSpec.ofChange gaugeMergesSpec)

/-- ITS FALSE NEIGHBOUR: 'it returns false'. Refute it at one input. -/
def gaugeMergesWrong : ChangeSpec := { name := "gaugeMerges", fn := fun _ => fun
  | [d1, d2, d3] => { results := [.lit (.bool false)], args := [d1, d2, d3] }
  | _ => none }
def GaugeMergesWrongFalsely : Prop := gaugeMergesRow.holds Try.pinned (OpenSpec.ofChange gaugeMergesWrong)

/-- 'herbariumlaw16.GaugeOrders': WHATEVER THE INPUT: true; the input reads as it did. -/
def gaugeOrdersSpec : ChangeSpec := { name := "gaugeOrders", fn := fun _ => fun
  | [d1, d2, d3] => { results := [.lit (.bool true)], args := [d1, d2, d3] }
  | _ => none }
def gaugeOrdersRow : OpenClaim := { program := "ytdmpcbealegicaa", sum := "ea045fa9817d00f4c35da8150e712cc0fd525b20bd12f3121437203ef63793fd", func := "herbarium/herbariumlaw16.GaugeOrders", spec := "gaugeOrders", inPlace := ["math.Float64frombits", "math.Float64bits"], apart := false }
def GaugeOrdersSaid : Prop := gaugeOrdersRow.holds Try.pinned (OpenSpec.ofChange gaugeOrdersSpec)

/-- ITS FALSE NEIGHBOUR: 'it returns false'. Refute it at one input. -/
def gaugeOrdersWrong : ChangeSpec := { name := "gaugeOrders", fn := fun _ => fun
  | [d1, d2, d3] => { results := [.lit (.bool false)], args := [d1, d2, d3] }
  | _ => none }
def GaugeOrdersWrongFalsely : Prop := gaugeOrdersRow.holds Try.pinned (OpenSpec.ofChange gaugeOrdersWrong)

/-- 'herbariumlaw16.GaugeAdds': WHATEVER THE INPUT: true; the input reads as it did. -/
def gaugeAddsSpec : ChangeSpec := { name := "gaugeAdds", fn := fun _ => fun
  | [d1, d2] => { results := [.lit (.bool true)], args := [d1, d2] }
  | _ => none }
def gaugeAddsRow : OpenClaim := { program := "ytdmpcbealegicaa", sum := "ea045fa9817d00f4c35da8150e712cc0fd525b20bd12f3121437203ef63793fd", func := "herbarium/herbariumlaw16.GaugeAdds", spec := "gaugeAdds", inPlace := ["math.Float64frombits", "math.Float64bits", "internal/reflectlite.ValueOf", "internal/reflectlite.Swapper", "(internal/reflectlite.Value).Len"], unfollowed := true, recurses := true, apart := false }
def GaugeAddsSaid : Prop := gaugeAddsRow.holds Try.pinned (OpenSpec.ofChange gaugeAddsSpec)

/-- ITS FALSE NEIGHBOUR: 'it returns false'. Refute it at one input. -/
def gaugeAddsWrong : ChangeSpec := { name := "gaugeAdds", fn := fun _ => fun
  | [d1, d2] => { results := [.lit (.bool false)], args := [d1, d2] }
  | _ => none }
def GaugeAddsWrongFalsely : Prop := gaugeAddsRow.holds Try.pinned (OpenSpec.ofChange gaugeAddsWrong)

/-- 'herbariumlaw16.GaugeChecks': WHATEVER THE INPUT: true; the input reads as it did. -/
def gaugeChecksSpec : ChangeSpec := { name := "gaugeChecks", fn := fun _ => fun
  | [d1, d2, d3, d4, d5, d6] => { results := [.lit (.bool true)], args := [d1, d2, d3, d4, d5, d6] }
  | _ => none }
def gaugeChecksRow : OpenClaim := { program := "ytdmpcbealegicaa", sum := "ea045fa9817d00f4c35da8150e712cc0fd525b20bd12f3121437203ef63793fd", func := "herbarium/herbariumlaw16.GaugeChecks", spec := "gaugeChecks", inPlace := ["math.Float64frombits", "math.Float64bits", "internal/reflectlite.ValueOf", "internal/reflectlite.Swapper", "(internal/reflectlite.Value).Len"], unfollowed := true, recurses := true, apart := false }
def GaugeChecksSaid : Prop := gaugeChecksRow.holds Try.pinned (OpenSpec.ofChange gaugeChecksSpec)

/-- ITS FALSE NEIGHBOUR: 'it returns false'. Refute it at one input. -/
def gaugeChecksWrong : ChangeSpec := { name := "gaugeChecks", fn := fun _ => fun
  | [d1, d2, d3, d4, d5, d6] => { results := [.lit (.bool false)], args := [d1, d2, d3, d4, d5, d6] }
  | _ => none }
def GaugeChecksWrongFalsely : Prop := gaugeChecksRow.holds Try.pinned (OpenSpec.ofChange gaugeChecksWrong)

/- THE SECOND FORM. 'bulk': how many values and letters a reading holds, each counted each time it is reached (what is shared counts as often as it is met; a slice's spare places count too). A statement '..UptoSaid' is the law's where the arguments, and the package variables that the reading takes, are together of bulk at most 1048576: NARROWER than '..Said'. Prove '..Said' where nothing that the law and all that it calls make is longer than what came in: it says more and counts as full. Else prove '..UptoSaid'. A law counts once. -/
mutual
def uptoBulk {H : Type} : DataW H → Nat
  | .lit (.string bytes) => bytes.length + 1
  | .lit _ => 1
  | .nil => 1
  | .ptr d => uptoBulk d + 1
  | .slice elems spare => uptoBulkAll elems + uptoBulkAll spare + 1
  | .agg parts => uptoBulkAll parts + 1
  | .iface _ d => uptoBulk d + 1
  | .map entries => uptoBulkEntries entries + 1
  | .held _ => 1
def uptoBulkAll {H : Type} : List (DataW H) → Nat
  | [] => 0
  | d :: r => uptoBulk d + uptoBulkAll r
def uptoBulkEntries {H : Type} : List (Lit × DataW H) → Nat
  | [] => 0
  | x :: r => uptoBulkEntry x + uptoBulkEntries r
def uptoBulkEntry {H : Type} : Lit × DataW H → Nat
  | (.string bytes, d) => bytes.length + uptoBulk d + 1
  | (_, d) => uptoBulk d + 1
 end
def uptoSmall : (H : Type) → List (DataW H) → Bool := fun _ ds => decide (uptoBulkAll ds ≤ 1048576)
def OpenSpec.upto (s : _root_.Go.ChangeSpec) : _root_.Go.OpenSpec := { _root_.Go.OpenSpec.ofChange s with cond := some uptoSmall }

/-- 'herbariumlaw09.TotalOf', WHERE WHAT IT READS IS OF BULK AT MOST 1048576: true; the input reads as it did. -/
def totalOfUptoRow : OpenClaim := { program := "ytdmpcbealegicaa", sum := "ea045fa9817d00f4c35da8150e712cc0fd525b20bd12f3121437203ef63793fd", func := "herbarium/herbariumlaw09.TotalOf", spec := "totalOf", inPlace := ["math.Float64bits", "math.Float64frombits"], apart := false, narrowed := true }
def TotalOfUptoSaid : Prop := totalOfUptoRow.holds Try.pinned (OpenSpec.upto totalOfSpec)

/-- 'herbariumlaw09.TotalKeys', WHERE WHAT IT READS IS OF BULK AT MOST 1048576: true; the input reads as it did. -/
def totalKeysUptoRow : OpenClaim := { program := "ytdmpcbealegicaa", sum := "ea045fa9817d00f4c35da8150e712cc0fd525b20bd12f3121437203ef63793fd", func := "herbarium/herbariumlaw09.TotalKeys", spec := "totalKeys", inPlace := ["math.Float64bits", "math.Float64frombits"], apart := false, narrowed := true }
def TotalKeysUptoSaid : Prop := totalKeysUptoRow.holds Try.pinned (OpenSpec.upto totalKeysSpec)

/-- 'herbariumlaw09.TotalBest', WHERE WHAT IT READS IS OF BULK AT MOST 1048576: true; the input reads as it did. -/
def totalBestUptoRow : OpenClaim := { program := "ytdmpcbealegicaa", sum := "ea045fa9817d00f4c35da8150e712cc0fd525b20bd12f3121437203ef63793fd", func := "herbarium/herbariumlaw09.TotalBest", spec := "totalBest", inPlace := ["math.Float64bits", "math.Float64frombits"], apart := false, narrowed := true }
def TotalBestUptoSaid : Prop := totalBestUptoRow.holds Try.pinned (OpenSpec.upto totalBestSpec)

/-- 'herbariumlaw09.TotalSigns', WHERE WHAT IT READS IS OF BULK AT MOST 1048576: true; the input reads as it did. -/
def totalSignsUptoRow : OpenClaim := { program := "ytdmpcbealegicaa", sum := "ea045fa9817d00f4c35da8150e712cc0fd525b20bd12f3121437203ef63793fd", func := "herbarium/herbariumlaw09.TotalSigns", spec := "totalSigns", inPlace := ["math.Float64bits", "math.Float64frombits"], apart := false, narrowed := true }
def TotalSignsUptoSaid : Prop := totalSignsUptoRow.holds Try.pinned (OpenSpec.upto totalSignsSpec)

/-- 'herbariumlaw09.TotalEdges', WHERE WHAT IT READS IS OF BULK AT MOST 1048576: true; the input reads as it did. -/
def totalEdgesUptoRow : OpenClaim := { program := "ytdmpcbealegicaa", sum := "ea045fa9817d00f4c35da8150e712cc0fd525b20bd12f3121437203ef63793fd", func := "herbarium/herbariumlaw09.TotalEdges", spec := "totalEdges", inPlace := ["math.Float64bits", "math.Float64frombits", "math.archFloor", "math.archTrunc"], apart := false, narrowed := true }
def TotalEdgesUptoSaid : Prop := totalEdgesUptoRow.holds Try.pinned (OpenSpec.upto totalEdgesSpec)

/-- 'herbariumlaw16.GaugeBounds', WHERE WHAT IT READS IS OF BULK AT MOST 1048576: true; the input reads as it did. -/
def gaugeBoundsUptoRow : OpenClaim := { program := "ytdmpcbealegicaa", sum := "ea045fa9817d00f4c35da8150e712cc0fd525b20bd12f3121437203ef63793fd", func := "herbarium/herbariumlaw16.GaugeBounds", spec := "gaugeBounds", inPlace := ["math.Float64frombits", "math.Float64bits"], apart := false, narrowed := true }
def GaugeBoundsUptoSaid : Prop := gaugeBoundsUptoRow.holds Try.pinned (OpenSpec.upto gaugeBoundsSpec)

/-- 'herbariumlaw16.GaugeMerges', WHERE WHAT IT READS IS OF BULK AT MOST 1048576: true; the input reads as it did. -/
def gaugeMergesUptoRow : OpenClaim := { program := "ytdmpcbealegicaa", sum := "ea045fa9817d00f4c35da8150e712cc0fd525b20bd12f3121437203ef63793fd", func := "herbarium/herbariumlaw16.GaugeMerges", spec := "gaugeMerges", inPlace := ["math.Float64frombits", "math.Float64bits"], apart := false, narrowed := true }
def GaugeMergesUptoSaid : Prop := gaugeMergesUptoRow.holds Try.pinned (OpenSpec.upto gaugeMergesSpec)

/-- 'herbariumlaw16.GaugeOrders', WHERE WHAT IT READS IS OF BULK AT MOST 1048576: true; the input reads as it did. -/
def gaugeOrdersUptoRow : OpenClaim := { program := "ytdmpcbealegicaa", sum := "ea045fa9817d00f4c35da8150e712cc0fd525b20bd12f3121437203ef63793fd", func := "herbarium/herbariumlaw16.GaugeOrders", spec := "gaugeOrders", inPlace := ["math.Float64frombits", "math.Float64bits"], apart := false, narrowed := true }
def GaugeOrdersUptoSaid : Prop := gaugeOrdersUptoRow.holds Try.pinned (OpenSpec.upto gaugeOrdersSpec)

/-- 'herbariumlaw16.GaugeAdds', WHERE WHAT IT READS IS OF BULK AT MOST 1048576: true; the input reads as it did. -/
def gaugeAddsUptoRow : OpenClaim := { program := "ytdmpcbealegicaa", sum := "ea045fa9817d00f4c35da8150e712cc0fd525b20bd12f3121437203ef63793fd", func := "herbarium/herbariumlaw16.GaugeAdds", spec := "gaugeAdds", inPlace := ["math.Float64frombits", "math.Float64bits", "internal/reflectlite.ValueOf", "internal/reflectlite.Swapper", "(internal/reflectlite.Value).Len"], unfollowed := true, recurses := true, apart := false, narrowed := true }
def GaugeAddsUptoSaid : Prop := gaugeAddsUptoRow.holds Try.pinned (OpenSpec.upto gaugeAddsSpec)

/-- 'herbariumlaw16.GaugeChecks', WHERE WHAT IT READS IS OF BULK AT MOST 1048576: true; the input reads as it did. -/
def gaugeChecksUptoRow : OpenClaim := { program := "ytdmpcbealegicaa", sum := "ea045fa9817d00f4c35da8150e712cc0fd525b20bd12f3121437203ef63793fd", func := "herbarium/herbariumlaw16.GaugeChecks", spec := "gaugeChecks", inPlace := ["math.Float64frombits", "math.Float64bits", "internal/reflectlite.ValueOf", "internal/reflectlite.Swapper", "(internal/reflectlite.Value).Len"], unfollowed := true, recurses := true, apart := false, narrowed := true }
def GaugeChecksUptoSaid : Prop := gaugeChecksUptoRow.holds Try.pinned (OpenSpec.upto gaugeChecksSpec)

end Rows
end Go.Proofs.Ytdmpcbealegicaa
