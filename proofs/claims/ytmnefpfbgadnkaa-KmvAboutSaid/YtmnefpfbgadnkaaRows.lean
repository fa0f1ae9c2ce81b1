/-
  No cell of these rows narrows 'for every input' (looked for: loops, veiled, ifaces, maps, wideKeys, modest, calm, conditions, laid).
  DERIVED. THE GIVEN ROWS OF THIS SEAT. 11 by the template 'for every input the law returns true; each argument reads behind the call as it read before'; 0 by the template 'total and deterministic' (their statements: YtmnefpfbgadnkaaTotals.lean).
  GIVEN WITH THE SEED: the statements are not yours to turn. If you find one false, say at which input.
  Laid BY PROGRAM, IN A SANDBOX (cutbox-rows.mjs): the forced cells as the released guide's own fill.sh prints them over the translation 774473313388a4a6… (all of the seat's roots in one cut). By AI agents, Wed Nov 11 2026. No macro, syntax, notation, axiom, sorry.
-/
import Derived.Test.YtmnefpfbgadnkaaChecked
import GoSem.Claim
import GoSem.ClaimJoined
import GoSem.ClaimMapViews
import Derived.JoinedTies
import Derived.KernelRfl
namespace Go.Proofs.Ytmnefpfbgadnkaa
/- THE CELL 'sum', in the pinned program and in every row, IS THE sha256 OF THE DUMP (.gsa) THAT YtmnefpfbgadnkaaProg.lean LOADS. Nothing in Lean hashes anything: it is a label: what it is worth is what the hold of that sum in a sandbox is worth. -/
noncomputable def Try.pinned : Pinned := { name := "ytmnefpfbgadnkaa", sum := "774473313388a4a69f835a1be4a005603f09450b03b11f188f020e444b972f3c", checked := Try.checked }
namespace Rows
def none {H : Type} : Left H := { results := [], args := [] }

/-- 'herbariumlaw14.BloomChecks': WHATEVER THE INPUT: true; the input reads as it did. -/
def bloomChecksSpec : ChangeSpec := { name := "bloomChecks", fn := fun _ => fun
  | [d1, d2, d3, d4, d5] => { results := [.lit (.bool true)], args := [d1, d2, d3, d4, d5] }
  | _ => none }
def bloomChecksRow : OpenClaim := { program := "ytmnefpfbgadnkaa", sum := "774473313388a4a69f835a1be4a005603f09450b03b11f188f020e444b972f3c", func := "herbarium/herbariumlaw14.BloomChecks", spec := "bloomChecks", apart := false }
def BloomChecksSaid : Prop := bloomChecksRow.holds Try.pinned (OpenSpec.ofChange bloomChecksSpec)

/-- ITS FALSE NEIGHBOUR: 'it returns false'. Refute it at one input. -/
def bloomChecksWrong : ChangeSpec := { name := "bloomChecks", fn := fun _ => fun
  | [d1, d2, d3, d4, d5] => { results := [.lit (.bool false)], args := [d1, d2, d3, d4, d5] }
  | _ => none }
def BloomChecksWrongFalsely : Prop := bloomChecksRow.holds Try.pinned (OpenSpec.ofChange bloomChecksWrong)

/-- 'herbariumlaw14.BloomMerges': WHATEVER THE INPUT: true; the input reads as it did. -/
def bloomMergesSpec : ChangeSpec := { name := "bloomMerges", fn := fun _ => fun
  | [d1, d2, d3, d4] => { results := [.lit (.bool true)], args := [d1, d2, d3, d4] }
  | _ => none }
def bloomMergesRow : OpenClaim := { program := "ytmnefpfbgadnkaa", sum := "774473313388a4a69f835a1be4a005603f09450b03b11f188f020e444b972f3c", func := "herbarium/herbariumlaw14.BloomMerges", spec := "bloomMerges", apart := false }
def BloomMergesSaid : Prop := bloomMergesRow.holds Try.pinned (OpenSpec.ofChange bloomMergesSpec)

/-- ITS FALSE NEIGHBOUR: 'it returns false'. Refute it at one input. -/
def bloomMergesWrong : ChangeSpec := { name := "bloomMerges", fn := fun _ => fun
  | [d1, d2, d3, d4] => { results := [.lit (.bool false)], args := [d1, d2, d3, d4] }
  | _ => none }
def BloomMergesWrongFalsely : Prop := bloomMergesRow.holds Try.pinned (OpenSpec.ofChange bloomMergesWrong)

/-- 'herbariumlaw14.BloomAdds': WHATEVER THE INPUT: true; the input reads as it did. -/
def bloomAddsSpec : ChangeSpec := { name := "bloomAdds", fn := fun _ => fun
  | [d1, d2, d3, d4] => { results := [.lit (.bool true)], args := [d1, d2, d3, d4] }
  | _ => none }
def bloomAddsRow : OpenClaim := { program := "ytmnefpfbgadnkaa", sum := "774473313388a4a69f835a1be4a005603f09450b03b11f188f020e444b972f3c", func := "herbarium/herbariumlaw14.BloomAdds", spec := "bloomAdds", apart := false }
def BloomAddsSaid : Prop := bloomAddsRow.holds Try.pinned (OpenSpec.ofChange bloomAddsSpec)

/-- ITS FALSE NEIGHBOUR: 'it returns false'. Refute it at one input. -/
def bloomAddsWrong : ChangeSpec := { name := "bloomAdds", fn := fun _ => fun
  | [d1, d2, d3, d4] => { results := [.lit (.bool false)], args := [d1, d2, d3, d4] }
  | _ => none }
def BloomAddsWrongFalsely : Prop := bloomAddsRow.holds Try.pinned (OpenSpec.ofChange bloomAddsWrong)

/-- 'herbariumlaw14.BloomTwice': WHATEVER THE INPUT: true; the input reads as it did. -/
def bloomTwiceSpec : ChangeSpec := { name := "bloomTwice", fn := fun _ => fun
  | [d1, d2, d3, d4, d5] => { results := [.lit (.bool true)], args := [d1, d2, d3, d4, d5] }
  | _ => none }
def bloomTwiceRow : OpenClaim := { program := "ytmnefpfbgadnkaa", sum := "774473313388a4a69f835a1be4a005603f09450b03b11f188f020e444b972f3c", func := "herbarium/herbariumlaw14.BloomTwice", spec := "bloomTwice", apart := false }
def BloomTwiceSaid : Prop := bloomTwiceRow.holds Try.pinned (OpenSpec.ofChange bloomTwiceSpec)

/-- ITS FALSE NEIGHBOUR: 'it returns false'. Refute it at one input. -/
def bloomTwiceWrong : ChangeSpec := { name := "bloomTwice", fn := fun _ => fun
  | [d1, d2, d3, d4, d5] => { results := [.lit (.bool false)], args := [d1, d2, d3, d4, d5] }
  | _ => none }
def BloomTwiceWrongFalsely : Prop := bloomTwiceRow.holds Try.pinned (OpenSpec.ofChange bloomTwiceWrong)

/-- 'herbariumlaw14.BloomFull': WHATEVER THE INPUT: true; the input reads as it did. -/
def bloomFullSpec : ChangeSpec := { name := "bloomFull", fn := fun _ => fun
  | [d1, d2, d3] => { results := [.lit (.bool true)], args := [d1, d2, d3] }
  | _ => none }
def bloomFullRow : OpenClaim := { program := "ytmnefpfbgadnkaa", sum := "774473313388a4a69f835a1be4a005603f09450b03b11f188f020e444b972f3c", func := "herbarium/herbariumlaw14.BloomFull", spec := "bloomFull", apart := false }
def BloomFullSaid : Prop := bloomFullRow.holds Try.pinned (OpenSpec.ofChange bloomFullSpec)

/-- ITS FALSE NEIGHBOUR: 'it returns false'. Refute it at one input. -/
def bloomFullWrong : ChangeSpec := { name := "bloomFull", fn := fun _ => fun
  | [d1, d2, d3] => { results := [.lit (.bool false)], args := [d1, d2, d3] }
  | _ => none }
def BloomFullWrongFalsely : Prop := bloomFullRow.holds Try.pinned (OpenSpec.ofChange bloomFullWrong)

/-- 'herbariumlaw12.KmvAbout': WHATEVER THE INPUT: true; the input reads as it did. -/
def kmvAboutSpec : ChangeSpec := { name := "kmvAbout", fn := fun _ => fun
  | [d1, d2, d3, d4] => { results := [.lit (.bool true)], args := [d1, d2, d3, d4] }
  | _ => none }
def kmvAboutRow : OpenClaim := { program := "ytmnefpfbgadnkaa", sum := "774473313388a4a69f835a1be4a005603f09450b03b11f188f020e444b972f3c", func := "herbarium/herbariumlaw12.KmvAbout", spec := "kmvAbout", named := ["math/bits.divideError", "math/bits.overflowError"], apart := false }
def KmvAboutSaid : Prop := kmvAboutRow.holds Try.pinned (OpenSpec.ofChange kmvAboutSpec)

/-- ITS FALSE NEIGHBOUR: 'it returns false'. Refute it at one input. -/
def kmvAboutWrong : ChangeSpec := { name := "kmvAbout", fn := fun _ => fun
  | [d1, d2, d3, d4] => { results := [.lit (.bool false)], args := [d1, d2, d3, d4] }
  | _ => none }
def KmvAboutWrongFalsely : Prop := kmvAboutRow.holds Try.pinned (OpenSpec.ofChange kmvAboutWrong)

/-- 'herbariumlaw12.KmvMerges': WHATEVER THE INPUT: true; the input reads as it did. -/
def kmvMergesSpec : ChangeSpec := { name := "kmvMerges", fn := fun _ => fun
  | [d1, d2, d3, d4] => { results := [.lit (.bool true)], args := [d1, d2, d3, d4] }
  | _ => none }
def kmvMergesRow : OpenClaim := { program := "ytmnefpfbgadnkaa", sum := "774473313388a4a69f835a1be4a005603f09450b03b11f188f020e444b972f3c", func := "herbarium/herbariumlaw12.KmvMerges", spec := "kmvMerges", named := ["math/bits.divideError", "math/bits.overflowError"], apart := false }
def KmvMergesSaid : Prop := kmvMergesRow.holds Try.pinned (OpenSpec.ofChange kmvMergesSpec)

/-- ITS FALSE NEIGHBOUR: 'it returns false'. Refute it at one input. -/
def kmvMergesWrong : ChangeSpec := { name := "kmvMerges", fn := fun _ => fun
  | [d1, d2, d3, d4] => { results := [.lit (.bool false)], args := [d1, d2, d3, d4] }
  | _ => none }
def KmvMergesWrongFalsely : Prop := kmvMergesRow.holds Try.pinned (OpenSpec.ofChange kmvMergesWrong)

/-- 'herbariumlaw12.KmvFewer': WHATEVER THE INPUT: true; the input reads as it did. -/
def kmvFewerSpec : ChangeSpec := { name := "kmvFewer", fn := fun _ => fun
  | [d1, d2, d3, d4] => { results := [.lit (.bool true)], args := [d1, d2, d3, d4] }
  | _ => none }
def kmvFewerRow : OpenClaim := { program := "ytmnefpfbgadnkaa", sum := "774473313388a4a69f835a1be4a005603f09450b03b11f188f020e444b972f3c", func := "herbarium/herbariumlaw12.KmvFewer", spec := "kmvFewer", named := ["math/bits.divideError", "math/bits.overflowError"], apart := false }
def KmvFewerSaid : Prop := kmvFewerRow.holds Try.pinned (OpenSpec.ofChange kmvFewerSpec)

/-- ITS FALSE NEIGHBOUR: 'it returns false'. Refute it at one input. -/
def kmvFewerWrong : ChangeSpec := { name := "kmvFewer", fn := fun _ => fun
  | [d1, d2, d3, d4] => { results := [.lit (.bool false)], args := [d1, d2, d3, d4] }
  | _ => none }
def KmvFewerWrongFalsely : Prop := kmvFewerRow.holds Try.pinned (OpenSpec.ofChange kmvFewerWrong)

/-- 'herbariumlaw12.KmvAlone': WHATEVER THE INPUT: true; the input reads as it did. -/
def kmvAloneSpec : ChangeSpec := { name := "kmvAlone", fn := fun _ => fun
  | [d1, d2] => { results := [.lit (.bool true)], args := [d1, d2] }
  | _ => none }
def kmvAloneRow : OpenClaim := { program := "ytmnefpfbgadnkaa", sum := "774473313388a4a69f835a1be4a005603f09450b03b11f188f020e444b972f3c", func := "herbarium/herbariumlaw12.KmvAlone", spec := "kmvAlone", named := ["math/bits.divideError", "math/bits.overflowError"], apart := false }
def KmvAloneSaid : Prop := kmvAloneRow.holds Try.pinned (OpenSpec.ofChange kmvAloneSpec)

/-- ITS FALSE NEIGHBOUR: 'it returns false'. Refute it at one input. -/
def kmvAloneWrong : ChangeSpec := { name := "kmvAlone", fn := fun _ => fun
  | [d1, d2] => { results := [.lit (.bool false)], args := [d1, d2] }
  | _ => none }
def KmvAloneWrongFalsely : Prop := kmvAloneRow.holds Try.pinned (OpenSpec.ofChange kmvAloneWrong)

/-- 'herbariumlaw12.KmvChecks': WHATEVER THE INPUT: true; the input reads as it did. -/
def kmvChecksSpec : ChangeSpec := { name := "kmvChecks", fn := fun _ => fun
  | [d1, d2, d3] => { results := [.lit (.bool true)], args := [d1, d2, d3] }
  | _ => none }
def kmvChecksRow : OpenClaim := { program := "ytmnefpfbgadnkaa", sum := "774473313388a4a69f835a1be4a005603f09450b03b11f188f020e444b972f3c", func := "herbarium/herbariumlaw12.KmvChecks", spec := "kmvChecks", unfollowed := true, recurses := true, named := ["math/bits.divideError", "math/bits.overflowError"], apart := false }
def KmvChecksSaid : Prop := kmvChecksRow.holds Try.pinned (OpenSpec.ofChange kmvChecksSpec)

/-- ITS FALSE NEIGHBOUR: 'it returns false'. Refute it at one input. -/
def kmvChecksWrong : ChangeSpec := { name := "kmvChecks", fn := fun _ => fun
  | [d1, d2, d3] => { results := [.lit (.bool false)], args := [d1, d2, d3] }
  | _ => none }
def KmvChecksWrongFalsely : Prop := kmvChecksRow.holds Try.pinned (OpenSpec.ofChange kmvChecksWrong)

/-- 'herbariumlaw12.KmvAdds': WHATEVER THE INPUT: true; the input reads as it did. -/
def kmvAddsSpec : ChangeSpec := { name := "kmvAdds", fn := fun _ => fun
  | [d1, d2, d3] => { results := [.lit (.bool true)], args := [d1, d2, d3] }
  | _ => none }
def kmvAddsRow : OpenClaim := { program := "ytmnefpfbgadnkaa", sum := "774473313388a4a69f835a1be4a005603f09450b03b11f188f020e444b972f3c", func := "herbarium/herbariumlaw12.KmvAdds", spec := "kmvAdds", inPlace := ["internal/reflectlite.ValueOf", "internal/reflectlite.Swapper", "(internal/reflectlite.Value).Len"], unfollowed := true, recurses := true, named := ["math/bits.divideError", "math/bits.overflowError"], apart := false }
def KmvAddsSaid : Prop := kmvAddsRow.holds Try.pinned (OpenSpec.ofChange kmvAddsSpec)

/-- ITS FALSE NEIGHBOUR: 'it returns false'. Refute it at one input. -/
def kmvAddsWrong : ChangeSpec := { name := "kmvAdds", fn := fun _ => fun
  | [d1, d2, d3] => { results := [.lit (.bool false)], args := [d1, d2, d3] }
  | _ => none }
def KmvAddsWrongFalsely : Prop := kmvAddsRow.holds Try.pinned (OpenSpec.ofChange kmvAddsWrong)

/- THE SECOND FORM. 'bulk': how many values and letters a reading holds, each counted each time it is reached (what is shared counts as often as it is met; a slice's spare places count too). A statement '..UptoSaid' is the law's where the arguments, and the package variables that the reading takes, are together of bulk at most 1048576: NARROWER than '..Said'. Prove '..Said' where nothing that the law and all that it calls make is longer than what came in: it says more and counts as full. Else prove '..UptoSaid'. A law counts once. -/
mutual
def uptoBulk {H : Type} : DataW H → Nat
  | .lit (.string bytes) => bytes.length + 1
  | .lit _ => 1
  | .nil => 1
  | .ptr d => uptoBulk d + 1
  | .slice elems spare => uptoBulkAll elems + uptoBulkAll spare + 1
  | .agg parts => uptoBulkAll parts + 1
  | .iface _ d => uptoBulk d + 1
  | .map entries => uptoBulkEntries entries + 1
  | .held _ => 1
def uptoBulkAll {H : Type} : List (DataW H) → Nat
  | [] => 0
  | d :: r => uptoBulk d + uptoBulkAll r
def uptoBulkEntries {H : Type} : List (Lit × DataW H) → Nat
  | [] => 0
  | x :: r => uptoBulkEntry x + uptoBulkEntries r
def uptoBulkEntry {H : Type} : Lit × DataW H → Nat
  | (.string bytes, d) => bytes.length + uptoBulk d + 1
  | (_, d) => uptoBulk d + 1
 end
def uptoSmall : (H : Type) → List (DataW H) → Bool := fun _ ds => decide (uptoBulkAll ds ≤ 1048576)
def OpenSpec.upto (s : _root_.Go.ChangeSpec) : _root_.Go.OpenSpec := { _root_.Go.OpenSpec.ofChange s with cond := some uptoSmall }

/-- 'herbariumlaw14.BloomChecks', WHERE WHAT IT READS IS OF BULK AT MOST 1048576: true; the input reads as it did. -/
def bloomChecksUptoRow : OpenClaim := { program := "ytmnefpfbgadnkaa", sum := "774473313388a4a69f835a1be4a005603f09450b03b11f188f020e444b972f3c", func := "herbarium/herbariumlaw14.BloomChecks", spec := "bloomChecks", apart := false, narrowed := true }
def BloomChecksUptoSaid : Prop := bloomChecksUptoRow.holds Try.pinned (OpenSpec.upto bloomChecksSpec)

/-- 'herbariumlaw14.BloomMerges', WHERE WHAT IT READS IS OF BULK AT MOST 1048576: true; the input reads as it did. -/
def bloomMergesUptoRow : OpenClaim := { program := "ytmnefpfbgadnkaa", sum := "774473313388a4a69f835a1be4a005603f09450b03b11f188f020e444b972f3c", func := "herbarium/herbariumlaw14.BloomMerges", spec := "bloomMerges", apart := false, narrowed := true }
def BloomMergesUptoSaid : Prop := bloomMergesUptoRow.holds Try.pinned (OpenSpec.upto bloomMergesSpec)

/-- 'herbariumlaw14.BloomAdds', WHERE WHAT IT READS IS OF BULK AT MOST 1048576: true; the input reads as it did. -/
def bloomAddsUptoRow : OpenClaim := { program := "ytmnefpfbgadnkaa", sum := "774473313388a4a69f835a1be4a005603f09450b03b11f188f020e444b972f3c", func := "herbarium/herbariumlaw14.BloomAdds", spec := "bloomAdds", apart := false, narrowed := true }
def BloomAddsUptoSaid : Prop := bloomAddsUptoRow.holds Try.pinned (OpenSpec.upto bloomAddsSpec)

/-- 'herbariumlaw14.BloomTwice', WHERE WHAT IT READS IS OF BULK AT MOST 1048576: true; the input reads as it did. -/
def bloomTwiceUptoRow : OpenClaim := { program := "ytmnefpfbgadnkaa", sum := "774473313388a4a69f835a1be4a005603f09450b03b11f188f020e444b972f3c", func := "herbarium/herbariumlaw14.BloomTwice", spec := "bloomTwice", apart := false, narrowed := true }
def BloomTwiceUptoSaid : Prop := bloomTwiceUptoRow.holds Try.pinned (OpenSpec.upto bloomTwiceSpec)

/-- 'herbariumlaw14.BloomFull', WHERE WHAT IT READS IS OF BULK AT MOST 1048576: true; the input reads as it did. -/
def bloomFullUptoRow : OpenClaim := { program := "ytmnefpfbgadnkaa", sum := "774473313388a4a69f835a1be4a005603f09450b03b11f188f020e444b972f3c", func := "herbarium/herbariumlaw14.BloomFull", spec := "bloomFull", apart := false, narrowed := true }
def BloomFullUptoSaid : Prop := bloomFullUptoRow.holds Try.pinned (OpenSpec.upto bloomFullSpec)

/-- 'herbariumlaw12.KmvAbout', WHERE WHAT IT READS IS OF BULK AT MOST 1048576: true; the input reads as it did. -/
def kmvAboutUptoRow : OpenClaim := { program := "ytmnefpfbgadnkaa", sum := "774473313388a4a69f835a1be4a005603f09450b03b11f188f020e444b972f3c", func := "herbarium/herbariumlaw12.KmvAbout", spec := "kmvAbout", named := ["math/bits.divideError", "math/bits.overflowError"], apart := false, narrowed := true }
def KmvAboutUptoSaid : Prop := kmvAboutUptoRow.holds Try.pinned (OpenSpec.upto kmvAboutSpec)

/-- 'herbariumlaw12.KmvMerges', WHERE WHAT IT READS IS OF BULK AT MOST 1048576: true; the input reads as it did. -/
def kmvMergesUptoRow : OpenClaim := { program := "ytmnefpfbgadnkaa", sum := "774473313388a4a69f835a1be4a005603f09450b03b11f188f020e444b972f3c", func := "herbarium/herbariumlaw12.KmvMerges", spec := "kmvMerges", named := ["math/bits.divideError", "math/bits.overflowError"], apart := false, narrowed := true }
def KmvMergesUptoSaid : Prop := kmvMergesUptoRow.holds Try.pinned (OpenSpec.upto kmvMergesSpec)

/-- 'herbariumlaw12.KmvFewer', WHERE WHAT IT READS IS OF BULK AT MOST 1048576: true; the input reads as it did. -/
def kmvFewerUptoRow : OpenClaim := { program := "ytmnefpfbgadnkaa", sum := "774473313388a4a69f835a1be4a005603f09450b03b11f188f020e444b972f3c", func := "herbarium/herbariumlaw12.KmvFewer", spec := "kmvFewer", named := ["math/bits.divideError", "math/bits.overflowError"], apart := false, narrowed := true }
def KmvFewerUptoSaid : Prop := kmvFewerUptoRow.holds Try.pinned (OpenSpec.upto kmvFewerSpec)

/-- 'herbariumlaw12.KmvAlone', WHERE WHAT IT READS IS OF BULK AT MOST 1048576: true; the input reads as it did. -/
def kmvAloneUptoRow : OpenClaim := { program := "ytmnefpfbgadnkaa", sum := "774473313388a4a69f835a1be4a005603f09450b03b11f188f020e444b972f3c", func := "herbarium/herbariumlaw12.KmvAlone", spec := "kmvAlone", named := ["math/bits.divideError", "math/bits.overflowError"], apart := false, narrowed := true }
def KmvAloneUptoSaid : Prop := kmvAloneUptoRow.holds Try.pinned (OpenSpec.upto kmvAloneSpec)

/-- 'herbariumlaw12.KmvChecks', WHERE WHAT IT READS IS OF BULK AT MOST 1048576: true; the input reads as it did. -/
def kmvChecksUptoRow : OpenClaim := { program := "ytmnefpfbgadnkaa", sum := "774473313388a4a69f835a1be4a005603f09450b03b11f188f020e444b972f3c", func := "herbarium/herbariumlaw12.KmvChecks", spec := "kmvChecks", unfollowed := true, recurses := true, named := ["math/bits.divideError", "math/bits.overflowError"], apart := false, narrowed := true }
def KmvChecksUptoSaid : Prop := kmvChecksUptoRow.holds Try.pinned (OpenSpec.upto kmvChecksSpec)

/-- 'herbariumlaw12.KmvAdds', WHERE WHAT IT READS IS OF BULK AT MOST 1048576: true; the input reads as it did. -/
def kmvAddsUptoRow : OpenClaim := { program := "ytmnefpfbgadnkaa", sum := "774473313388a4a69f835a1be4a005603f09450b03b11f188f020e444b972f3c", func := "herbarium/herbariumlaw12.KmvAdds", spec := "kmvAdds", inPlace := ["internal/reflectlite.ValueOf", "internal/reflectlite.Swapper", "(internal/reflectlite.Value).Len"], unfollowed := true, recurses := true, named := ["math/bits.divideError", "math/bits.overflowError"], apart := false, narrowed := true }
def KmvAddsUptoSaid : Prop := kmvAddsUptoRow.holds Try.pinned (OpenSpec.upto kmvAddsSpec)

end Rows
end Go.Proofs.Ytmnefpfbgadnkaa
