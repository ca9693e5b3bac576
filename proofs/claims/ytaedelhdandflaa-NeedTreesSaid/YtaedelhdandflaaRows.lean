/-
  No cell of these rows narrows 'for every input' (looked for: loops, veiled, ifaces, maps, wideKeys, modest, calm, conditions, laid).
  DERIVED. THE GIVEN ROWS OF THIS SEAT. 8 by the template 'for every input the law returns true; each argument reads behind the call as it read before'; 0 by the template 'total and deterministic' (their statements: YtaedelhdandflaaTotals.lean).
  GIVEN WITH THE SEED: the statements are not yours to turn. If you find one false, say at which input.
  Laid BY PROGRAM, IN A SANDBOX (cutbox-rows.mjs): the forced cells as the released guide's own fill.sh prints them over the translation 3e8a91ab93548a65… (all of the seat's roots in one cut). By AI agents, Wed Nov 11 2026. No macro, syntax, notation, axiom, sorry.
-/
import Derived.Test.YtaedelhdandflaaChecked
import GoSem.Claim
import GoSem.ClaimJoined
import GoSem.ClaimMapViews
import Derived.JoinedTies
import Derived.KernelRfl
namespace Go.Proofs.Ytaedelhdandflaa
/- THE CELL 'sum', in the pinned program and in every row, IS THE sha256 OF THE DUMP (.gsa) THAT YtaedelhdandflaaProg.lean LOADS. Nothing in Lean hashes anything: it is a label: what it is worth is what the hold of that sum in a sandbox is worth. -/
noncomputable def Try.pinned : Pinned := { name := "ytaedelhdandflaa", sum := "3e8a91ab93548a65b878b9c5c9cd2880058da5e421bba7f1b5df3d184e2a8a20", checked := Try.checked }
namespace Rows
def none {H : Type} : Left H := { results := [], args := [] }

/-- 'overdublaw24.NeedNodes': WHATEVER THE INPUT: true; the input reads as it did. -/
def needNodesSpec : ChangeSpec := { name := "needNodes", fn := fun _ => fun
  | [d1, d2] => { results := [.lit (.bool true)], args := [d1, d2] }
  | _ => none }
def needNodesRow : OpenClaim := { program := "ytaedelhdandflaa", sum := "3e8a91ab93548a65b878b9c5c9cd2880058da5e421bba7f1b5df3d184e2a8a20", func := "overdub/overdublaw24.NeedNodes", spec := "needNodes", recurses := true, apart := false }
def NeedNodesSaid : Prop := needNodesRow.holds Try.pinned (OpenSpec.ofChange needNodesSpec)

/-- ITS FALSE NEIGHBOUR: 'it returns false'. Refute it at one input. -/
def needNodesWrong : ChangeSpec := { name := "needNodes", fn := fun _ => fun
  | [d1, d2] => { results := [.lit (.bool false)], args := [d1, d2] }
  | _ => none }
def NeedNodesWrongFalsely : Prop := needNodesRow.holds Try.pinned (OpenSpec.ofChange needNodesWrong)

/-- 'overdublaw24.NeedCounts': WHATEVER THE INPUT: true; the input reads as it did. -/
def needCountsSpec : ChangeSpec := { name := "needCounts", fn := fun _ => fun
  | [d1, d2, d3, d4, d5] => { results := [.lit (.bool true)], args := [d1, d2, d3, d4, d5] }
  | _ => none }
def needCountsRow : OpenClaim := { program := "ytaedelhdandflaa", sum := "3e8a91ab93548a65b878b9c5c9cd2880058da5e421bba7f1b5df3d184e2a8a20", func := "overdub/overdublaw24.NeedCounts", spec := "needCounts", recurses := true, apart := false }
def NeedCountsSaid : Prop := needCountsRow.holds Try.pinned (OpenSpec.ofChange needCountsSpec)

/-- ITS FALSE NEIGHBOUR: 'it returns false'. Refute it at one input. -/
def needCountsWrong : ChangeSpec := { name := "needCounts", fn := fun _ => fun
  | [d1, d2, d3, d4, d5] => { results := [.lit (.bool false)], args := [d1, d2, d3, d4, d5] }
  | _ => none }
def NeedCountsWrongFalsely : Prop := needCountsRow.holds Try.pinned (OpenSpec.ofChange needCountsWrong)

/-- 'overdublaw18.ExtentNothing': WHATEVER THE INPUT: true; the input reads as it did. -/
def extentNothingSpec : ChangeSpec := { name := "extentNothing", fn := fun _ => fun
  | [d1, d2, d3] => { results := [.lit (.bool true)], args := [d1, d2, d3] }
  | _ => none }
def extentNothingRow : OpenClaim := { program := "ytaedelhdandflaa", sum := "3e8a91ab93548a65b878b9c5c9cd2880058da5e421bba7f1b5df3d184e2a8a20", func := "overdub/overdublaw18.ExtentNothing", spec := "extentNothing", apart := false }
def ExtentNothingSaid : Prop := extentNothingRow.holds Try.pinned (OpenSpec.ofChange extentNothingSpec)

/-- ITS FALSE NEIGHBOUR: 'it returns false'. Refute it at one input. -/
def extentNothingWrong : ChangeSpec := { name := "extentNothing", fn := fun _ => fun
  | [d1, d2, d3] => { results := [.lit (.bool false)], args := [d1, d2, d3] }
  | _ => none }
def ExtentNothingWrongFalsely : Prop := extentNothingRow.holds Try.pinned (OpenSpec.ofChange extentNothingWrong)

/-- 'overdublaw18.ExtentSplices': WHATEVER THE INPUT: true; the input reads as it did. -/
def extentSplicesSpec : ChangeSpec := { name := "extentSplices", fn := fun _ => fun
  | [d1, d2, d3, d4, d5] => { results := [.lit (.bool true)], args := [d1, d2, d3, d4, d5] }
  | _ => none }
def extentSplicesRow : OpenClaim := { program := "ytaedelhdandflaa", sum := "3e8a91ab93548a65b878b9c5c9cd2880058da5e421bba7f1b5df3d184e2a8a20", func := "overdub/overdublaw18.ExtentSplices", spec := "extentSplices", apart := false }
def ExtentSplicesSaid : Prop := extentSplicesRow.holds Try.pinned (OpenSpec.ofChange extentSplicesSpec)

/-- ITS FALSE NEIGHBOUR: 'it returns false'. Refute it at one input. -/
def extentSplicesWrong : ChangeSpec := { name := "extentSplices", fn := fun _ => fun
  | [d1, d2, d3, d4, d5] => { results := [.lit (.bool false)], args := [d1, d2, d3, d4, d5] }
  | _ => none }
def ExtentSplicesWrongFalsely : Prop := extentSplicesRow.holds Try.pinned (OpenSpec.ofChange extentSplicesWrong)

/-- 'overdublaw18.ExtentSamples': WHATEVER THE INPUT: true; the input reads as it did. -/
def extentSamplesSpec : ChangeSpec := { name := "extentSamples", fn := fun _ => fun
  | [d1, d2, d3, d4] => { results := [.lit (.bool true)], args := [d1, d2, d3, d4] }
  | _ => none }
def extentSamplesRow : OpenClaim := { program := "ytaedelhdandflaa", sum := "3e8a91ab93548a65b878b9c5c9cd2880058da5e421bba7f1b5df3d184e2a8a20", func := "overdub/overdublaw18.ExtentSamples", spec := "extentSamples", apart := false }
def ExtentSamplesSaid : Prop := extentSamplesRow.holds Try.pinned (OpenSpec.ofChange extentSamplesSpec)

/-- ITS FALSE NEIGHBOUR: 'it returns false'. Refute it at one input. -/
def extentSamplesWrong : ChangeSpec := { name := "extentSamples", fn := fun _ => fun
  | [d1, d2, d3, d4] => { results := [.lit (.bool false)], args := [d1, d2, d3, d4] }
  | _ => none }
def ExtentSamplesWrongFalsely : Prop := extentSamplesRow.holds Try.pinned (OpenSpec.ofChange extentSamplesWrong)

/-- 'overdublaw24.NeedTrees': WHATEVER THE INPUT: true; the input reads as it did. -/
def needTreesSpec : ChangeSpec := { name := "needTrees", fn := fun _ => fun
  | [d1, d2] => { results := [.lit (.bool true)], args := [d1, d2] }
  | _ => none }
def needTreesRow : OpenClaim := { program := "ytaedelhdandflaa", sum := "3e8a91ab93548a65b878b9c5c9cd2880058da5e421bba7f1b5df3d184e2a8a20", func := "overdub/overdublaw24.NeedTrees", spec := "needTrees", recurses := true, apart := false }
def NeedTreesSaid : Prop := needTreesRow.holds Try.pinned (OpenSpec.ofChange needTreesSpec)

/-- ITS FALSE NEIGHBOUR: 'it returns false'. Refute it at one input. -/
def needTreesWrong : ChangeSpec := { name := "needTrees", fn := fun _ => fun
  | [d1, d2] => { results := [.lit (.bool false)], args := [d1, d2] }
  | _ => none }
def NeedTreesWrongFalsely : Prop := needTreesRow.holds Try.pinned (OpenSpec.ofChange needTreesWrong)

/-- 'overdublaw18.ExtentFinds': WHATEVER THE INPUT: true; the input reads as it did. -/
def extentFindsSpec : ChangeSpec := { name := "extentFinds", fn := fun _ => fun
  | [d] => { results := [.lit (.bool true)], args := [d] }
  | _ => none }
def extentFindsRow : OpenClaim := { program := "ytaedelhdandflaa", sum := "3e8a91ab93548a65b878b9c5c9cd2880058da5e421bba7f1b5df3d184e2a8a20", func := "overdub/overdublaw18.ExtentFinds", spec := "extentFinds", recurses := true, apart := false }
def ExtentFindsSaid : Prop := extentFindsRow.holds Try.pinned (OpenSpec.ofChange extentFindsSpec)

/-- ITS FALSE NEIGHBOUR: 'it returns false'. Refute it at one input. -/
def extentFindsWrong : ChangeSpec := { name := "extentFinds", fn := fun _ => fun
  | [d] => { results := [.lit (.bool false)], args := [d] }
  | _ => none }
def ExtentFindsWrongFalsely : Prop := extentFindsRow.holds Try.pinned (OpenSpec.ofChange extentFindsWrong)

/-- 'overdublaw18.ExtentCuts': WHATEVER THE INPUT: true; the input reads as it did. -/
def extentCutsSpec : ChangeSpec := { name := "extentCuts", fn := fun _ => fun
  | [d1, d2, d3, d4, d5] => { results := [.lit (.bool true)], args := [d1, d2, d3, d4, d5] }
  | _ => none }
def extentCutsRow : OpenClaim := { program := "ytaedelhdandflaa", sum := "3e8a91ab93548a65b878b9c5c9cd2880058da5e421bba7f1b5df3d184e2a8a20", func := "overdub/overdublaw18.ExtentCuts", spec := "extentCuts", recurses := true, apart := false }
def ExtentCutsSaid : Prop := extentCutsRow.holds Try.pinned (OpenSpec.ofChange extentCutsSpec)

/-- ITS FALSE NEIGHBOUR: 'it returns false'. Refute it at one input. -/
def extentCutsWrong : ChangeSpec := { name := "extentCuts", fn := fun _ => fun
  | [d1, d2, d3, d4, d5] => { results := [.lit (.bool false)], args := [d1, d2, d3, d4, d5] }
  | _ => none }
def ExtentCutsWrongFalsely : Prop := extentCutsRow.holds Try.pinned (OpenSpec.ofChange extentCutsWrong)

/- THE SECOND FORM. 'bulk': how many values and letters a reading holds, each counted each time it is reached (what is shared counts as often as it is met; a slice's spare places count too). A statement '..UptoSaid' is the law's where the arguments, and the package variables that the reading takes, are together of bulk at most 1048576: NARROWER than '..Said'. Prove '..Said' where nothing that the law and all that it calls make is longer than what came in: it says more and counts as full. Else prove '..UptoSaid'. A law counts once. -/
mutual
def uptoBulk {H : Type} : DataW H → Nat
  | .lit (.string bytes) => bytes.length + 1
  | .lit _ => 1
  | .nil => 1
  | .ptr d => uptoBulk d + 1
  | .slice elems spare => uptoBulkAll elems + uptoBulkAll spare + 1
  | .agg parts => uptoBulkAll parts + 1
  | .iface _ d => uptoBulk d + 1
  | .map entries => uptoBulkEntries entries + 1
  | .held _ => 1
def uptoBulkAll {H : Type} : List (DataW H) → Nat
  | [] => 0
  | d :: r => uptoBulk d + uptoBulkAll r
def uptoBulkEntries {H : Type} : List (Lit × DataW H) → Nat
  | [] => 0
  | x :: r => uptoBulkEntry x + uptoBulkEntries r
def uptoBulkEntry {H : Type} : Lit × DataW H → Nat
  | (.string bytes, d) => bytes.length + uptoBulk d + 1
  | (_, d) => uptoBulk d + 1
 end
def uptoSmall : (H : Type) → List (DataW H) → Bool := fun _ ds => decide (uptoBulkAll ds ≤ 1048576)
def OpenSpec.upto (s : _root_.Go.ChangeSpec) : _root_.Go.OpenSpec := { _root_.Go.OpenSpec.ofChange s with cond := some uptoSmall }

/-- 'overdublaw24.NeedNodes', WHERE WHAT IT READS IS OF BULK AT MOST 1048576: true; the input reads as it did. -/
def needNodesUptoRow : OpenClaim := { program := "ytaedelhdandflaa", sum := "3e8a91ab93548a65b878b9c5c9cd2880058da5e421bba7f1b5df3d184e2a8a20", func := "overdub/overdublaw24.NeedNodes", spec := "needNodes", recurses := true, apart := false, narrowed := true }
def NeedNodesUptoSaid : Prop := needNodesUptoRow.holds Try.pinned (OpenSpec.upto needNodesSpec)

/-- 'overdublaw24.NeedCounts', WHERE WHAT IT READS IS OF BULK AT MOST 1048576: true; the input reads as it did. -/
def needCountsUptoRow : OpenClaim := { program := "ytaedelhdandflaa", sum := "3e8a91ab93548a65b878b9c5c9cd2880058da5e421bba7f1b5df3d184e2a8a20", func := "overdub/overdublaw24.NeedCounts", spec := "needCounts", recurses := true, apart := false, narrowed := true }
def NeedCountsUptoSaid : Prop := needCountsUptoRow.holds Try.pinned (OpenSpec.upto needCountsSpec)

/-- 'overdublaw18.ExtentNothing', WHERE WHAT IT READS IS OF BULK AT MOST 1048576: true; the input reads as it did. -/
def extentNothingUptoRow : OpenClaim := { program := "ytaedelhdandflaa", sum := "3e8a91ab93548a65b878b9c5c9cd2880058da5e421bba7f1b5df3d184e2a8a20", func := "overdub/overdublaw18.ExtentNothing", spec := "extentNothing", apart := false, narrowed := true }
def ExtentNothingUptoSaid : Prop := extentNothingUptoRow.holds Try.pinned (OpenSpec.upto extentNothingSpec)

/-- 'overdublaw18.ExtentSplices', WHERE WHAT IT READS IS OF BULK AT MOST 1048576: true; the input reads as it did. -/
def extentSplicesUptoRow : OpenClaim := { program := "ytaedelhdandflaa", sum := "3e8a91ab93548a65b878b9c5c9cd2880058da5e421bba7f1b5df3d184e2a8a20", func := "overdub/overdublaw18.ExtentSplices", spec := "extentSplices", apart := false, narrowed := true }
def ExtentSplicesUptoSaid : Prop := extentSplicesUptoRow.holds Try.pinned (OpenSpec.upto extentSplicesSpec)

/-- 'overdublaw18.ExtentSamples', WHERE WHAT IT READS IS OF BULK AT MOST 1048576: true; the input reads as it did. -/
def extentSamplesUptoRow : OpenClaim := { program := "ytaedelhdandflaa", sum := "3e8a91ab93548a65b878b9c5c9cd2880058da5e421bba7f1b5df3d184e2a8a20", func := "overdub/overdublaw18.ExtentSamples", spec := "extentSamples", apart := false, narrowed := true }
def ExtentSamplesUptoSaid : Prop := extentSamplesUptoRow.holds Try.pinned (OpenSpec.upto extentSamplesSpec)

/-- 'overdublaw24.NeedTrees', WHERE WHAT IT READS IS OF BULK AT MOST 1048576: true; the input reads as it did. -/
def needTreesUptoRow : OpenClaim := { program := "ytaedelhdandflaa", sum := "3e8a91ab93548a65b878b9c5c9cd2880058da5e421bba7f1b5df3d184e2a8a20", func := "overdub/overdublaw24.NeedTrees", spec := "needTrees", recurses := true, apart := false, narrowed := true }
def NeedTreesUptoSaid : Prop := needTreesUptoRow.holds Try.pinned (OpenSpec.upto needTreesSpec)

/-- 'overdublaw18.ExtentFinds', WHERE WHAT IT READS IS OF BULK AT MOST 1048576: true; the input reads as it did. -/
def extentFindsUptoRow : OpenClaim := { program := "ytaedelhdandflaa", sum := "3e8a91ab93548a65b878b9c5c9cd2880058da5e421bba7f1b5df3d184e2a8a20", func := "overdub/overdublaw18.ExtentFinds", spec := "extentFinds", recurses := true, apart := false, narrowed := true }
def ExtentFindsUptoSaid : Prop := extentFindsUptoRow.holds Try.pinned (OpenSpec.upto extentFindsSpec)

/-- 'overdublaw18.ExtentCuts', WHERE WHAT IT READS IS OF BULK AT MOST 1048576: true; the input reads as it did. -/
def extentCutsUptoRow : OpenClaim := { program := "ytaedelhdandflaa", sum := "3e8a91ab93548a65b878b9c5c9cd2880058da5e421bba7f1b5df3d184e2a8a20", func := "overdub/overdublaw18.ExtentCuts", spec := "extentCuts", recurses := true, apart := false, narrowed := true }
def ExtentCutsUptoSaid : Prop := extentCutsUptoRow.holds Try.pinned (OpenSpec.upto extentCutsSpec)

end Rows
end Go.Proofs.Ytaedelhdandflaa
