/-
  No cell of these rows narrows 'for every input' (looked for: loops, veiled, ifaces, maps, wideKeys, modest, calm, conditions, laid).
  DERIVED. THE GIVEN ROWS OF THIS SEAT. 4 by the template 'for every input the law returns true; each argument reads behind the call as it read before'; 0 by the template 'total and deterministic' (their statements: YtddcjekkimajpaaGreatTotals.lean).
  GIVEN WITH THE SEED: the statements are not yours to turn. If you find one false, say at which input.
  Laid BY PROGRAM, IN A SANDBOX (cutbox-rows.mjs): the forced cells as the released guide's own fill.sh prints them over the translation 1d3759a6bb14a2bd… (all of the seat's roots in one cut). By AI agents, Wed Nov 11 2026. No macro, syntax, notation, axiom, sorry.
-/
import Derived.Test.YtddcjekkimajpaaGreatChecked
import GoSem.Claim
import GoSem.ClaimJoined
import GoSem.ClaimMapViews
import Derived.JoinedTies
import Derived.KernelRfl
namespace Go.Proofs.YtddcjekkimajpaaGreat
/- THE CELL 'sum', in the pinned program and in every row, IS THE sha256 OF THE DUMP (.gsa) THAT YtddcjekkimajpaaGreatProg.lean LOADS. Nothing in Lean hashes anything: it is a label: what it is worth is what the hold of that sum in a sandbox is worth. -/
noncomputable def Tryz.pinned : Pinned := { name := "ytddcjekkimajpaagreat", sum := "1d3759a6bb14a2bdaab5a1cd6b08a0d13615c95e11e679a532eff06032211281", checked := Tryz.checked }
namespace Rows
def none {H : Type} : Left H := { results := [], args := [] }

/-- 'overdublaw22.HistorySectors': WHATEVER THE INPUT: true; the input reads as it did. -/
def historySectorsSpec : ChangeSpec := { name := "historySectors", fn := fun _ => fun
  | [d1, d2] => { results := [.lit (.bool true)], args := [d1, d2] }
  | _ => none }
def historySectorsRow : OpenClaim := { program := "ytddcjekkimajpaagreat", sum := "1d3759a6bb14a2bdaab5a1cd6b08a0d13615c95e11e679a532eff06032211281", func := "overdub/overdublaw22.HistorySectors", spec := "historySectors", inPlace := ["slices.overlaps[overdub/state.track]"], unfollowed := true, recurses := true, apart := false }
def HistorySectorsSaid : Prop := historySectorsRow.holds Tryz.pinned (OpenSpec.ofChange historySectorsSpec)

/-- ITS FALSE NEIGHBOUR: 'it returns false'. Refute it at one input. -/
def historySectorsWrong : ChangeSpec := { name := "historySectors", fn := fun _ => fun
  | [d1, d2] => { results := [.lit (.bool false)], args := [d1, d2] }
  | _ => none }
def HistorySectorsWrongFalsely : Prop := historySectorsRow.holds Tryz.pinned (OpenSpec.ofChange historySectorsWrong)

/-- 'overdublaw22.HistoryErrors': WHATEVER THE INPUT: true; the input reads as it did. -/
def historyErrorsSpec : ChangeSpec := { name := "historyErrors", fn := fun _ => fun
  | [d1, d2, d3] => { results := [.lit (.bool true)], args := [d1, d2, d3] }
  | _ => none }
def historyErrorsRow : OpenClaim := { program := "ytddcjekkimajpaagreat", sum := "1d3759a6bb14a2bdaab5a1cd6b08a0d13615c95e11e679a532eff06032211281", func := "overdub/overdublaw22.HistoryErrors", spec := "historyErrors", inPlace := ["slices.overlaps[overdub/state.track]"], unfollowed := true, recurses := true, apart := false }
def HistoryErrorsSaid : Prop := historyErrorsRow.holds Tryz.pinned (OpenSpec.ofChange historyErrorsSpec)

/-- ITS FALSE NEIGHBOUR: 'it returns false'. Refute it at one input. -/
def historyErrorsWrong : ChangeSpec := { name := "historyErrors", fn := fun _ => fun
  | [d1, d2, d3] => { results := [.lit (.bool false)], args := [d1, d2, d3] }
  | _ => none }
def HistoryErrorsWrongFalsely : Prop := historyErrorsRow.holds Tryz.pinned (OpenSpec.ofChange historyErrorsWrong)

/-- 'overdublaw22.HistoryPlays': WHATEVER THE INPUT: true; the input reads as it did. -/
def historyPlaysSpec : ChangeSpec := { name := "historyPlays", fn := fun _ => fun
  | [d1, d2, d3] => { results := [.lit (.bool true)], args := [d1, d2, d3] }
  | _ => none }
def historyPlaysRow : OpenClaim := { program := "ytddcjekkimajpaagreat", sum := "1d3759a6bb14a2bdaab5a1cd6b08a0d13615c95e11e679a532eff06032211281", func := "overdub/overdublaw22.HistoryPlays", spec := "historyPlays", inPlace := ["slices.overlaps[overdub/state.track]"], unfollowed := true, recurses := true, apart := false }
def HistoryPlaysSaid : Prop := historyPlaysRow.holds Tryz.pinned (OpenSpec.ofChange historyPlaysSpec)

/-- ITS FALSE NEIGHBOUR: 'it returns false'. Refute it at one input. -/
def historyPlaysWrong : ChangeSpec := { name := "historyPlays", fn := fun _ => fun
  | [d1, d2, d3] => { results := [.lit (.bool false)], args := [d1, d2, d3] }
  | _ => none }
def HistoryPlaysWrongFalsely : Prop := historyPlaysRow.holds Tryz.pinned (OpenSpec.ofChange historyPlaysWrong)

/-- 'overdublaw22.HistoryApart': WHATEVER THE INPUT: true; the input reads as it did. -/
def historyApartSpec : ChangeSpec := { name := "historyApart", fn := fun _ => fun
  | [d1, d2, d3] => { results := [.lit (.bool true)], args := [d1, d2, d3] }
  | _ => none }
def historyApartRow : OpenClaim := { program := "ytddcjekkimajpaagreat", sum := "1d3759a6bb14a2bdaab5a1cd6b08a0d13615c95e11e679a532eff06032211281", func := "overdub/overdublaw22.HistoryApart", spec := "historyApart", inPlace := ["slices.overlaps[overdub/state.track]"], unfollowed := true, recurses := true, apart := false }
def HistoryApartSaid : Prop := historyApartRow.holds Tryz.pinned (OpenSpec.ofChange historyApartSpec)

/-- ITS FALSE NEIGHBOUR: 'it returns false'. Refute it at one input. -/
def historyApartWrong : ChangeSpec := { name := "historyApart", fn := fun _ => fun
  | [d1, d2, d3] => { results := [.lit (.bool false)], args := [d1, d2, d3] }
  | _ => none }
def HistoryApartWrongFalsely : Prop := historyApartRow.holds Tryz.pinned (OpenSpec.ofChange historyApartWrong)

/- THE SECOND FORM. 'bulk': how many values and letters a reading holds, each counted each time it is reached (what is shared counts as often as it is met; a slice's spare places count too). A statement '..UptoSaid' is the law's where the arguments, and the package variables that the reading takes, are together of bulk at most 1048576: NARROWER than '..Said'. Prove '..Said' where nothing that the law and all that it calls make is longer than what came in: it says more and counts as full. Else prove '..UptoSaid'. A law counts once. -/
mutual
def uptoBulk {H : Type} : DataW H → Nat
  | .lit (.string bytes) => bytes.length + 1
  | .lit _ => 1
  | .nil => 1
  | .ptr d => uptoBulk d + 1
  | .slice elems spare => uptoBulkAll elems + uptoBulkAll spare + 1
  | .agg parts => uptoBulkAll parts + 1
  | .iface _ d => uptoBulk d + 1
  | .map entries => uptoBulkEntries entries + 1
  | .held _ => 1
def uptoBulkAll {H : Type} : List (DataW H) → Nat
  | [] => 0
  | d :: r => uptoBulk d + uptoBulkAll r
def uptoBulkEntries {H : Type} : List (Lit × DataW H) → Nat
  | [] => 0
  | x :: r => uptoBulkEntry x + uptoBulkEntries r
def uptoBulkEntry {H : Type} : Lit × DataW H → Nat
  | (.string bytes, d) => bytes.length + uptoBulk d + 1
  | (_, d) => uptoBulk d + 1
 end
def uptoSmall : (H : Type) → List (DataW H) → Bool := fun _ ds => decide (uptoBulkAll ds ≤ 1048576)
def OpenSpec.upto (s : _root_.Go.ChangeSpec) : _root_.Go.OpenSpec := { _root_.Go.OpenSpec.ofChange s with cond := some uptoSmall }

/-- 'overdublaw22.HistorySectors', WHERE WHAT IT READS IS OF BULK AT MOST 1048576: true; the input reads as it did. -/
def historySectorsUptoRow : OpenClaim := { program := "ytddcjekkimajpaagreat", sum := "1d3759a6bb14a2bdaab5a1cd6b08a0d13615c95e11e679a532eff06032211281", func := "overdub/overdublaw22.HistorySectors", spec := "historySectors", inPlace := ["slices.overlaps[overdub/state.track]"], unfollowed := true, recurses := true, apart := false, narrowed := true }
def HistorySectorsUptoSaid : Prop := historySectorsUptoRow.holds Tryz.pinned (OpenSpec.upto historySectorsSpec)

/-- 'overdublaw22.HistoryErrors', WHERE WHAT IT READS IS OF BULK AT MOST 1048576: true; the input reads as it did. -/
def historyErrorsUptoRow : OpenClaim := { program := "ytddcjekkimajpaagreat", sum := "1d3759a6bb14a2bdaab5a1cd6b08a0d13615c95e11e679a532eff06032211281", func := "overdub/overdublaw22.HistoryErrors", spec := "historyErrors", inPlace := ["slices.overlaps[overdub/state.track]"], unfollowed := true, recurses := true, apart := false, narrowed := true }
def HistoryErrorsUptoSaid : Prop := historyErrorsUptoRow.holds Tryz.pinned (OpenSpec.upto historyErrorsSpec)

/-- 'overdublaw22.HistoryPlays', WHERE WHAT IT READS IS OF BULK AT MOST 1048576: true; the input reads as it did. -/
def historyPlaysUptoRow : OpenClaim := { program := "ytddcjekkimajpaagreat", sum := "1d3759a6bb14a2bdaab5a1cd6b08a0d13615c95e11e679a532eff06032211281", func := "overdub/overdublaw22.HistoryPlays", spec := "historyPlays", inPlace := ["slices.overlaps[overdub/state.track]"], unfollowed := true, recurses := true, apart := false, narrowed := true }
def HistoryPlaysUptoSaid : Prop := historyPlaysUptoRow.holds Tryz.pinned (OpenSpec.upto historyPlaysSpec)

/-- 'overdublaw22.HistoryApart', WHERE WHAT IT READS IS OF BULK AT MOST 1048576: true; the input reads as it did. -/
def historyApartUptoRow : OpenClaim := { program := "ytddcjekkimajpaagreat", sum := "1d3759a6bb14a2bdaab5a1cd6b08a0d13615c95e11e679a532eff06032211281", func := "overdub/overdublaw22.HistoryApart", spec := "historyApart", inPlace := ["slices.overlaps[overdub/state.track]"], unfollowed := true, recurses := true, apart := false, narrowed := true }
def HistoryApartUptoSaid : Prop := historyApartUptoRow.holds Tryz.pinned (OpenSpec.upto historyApartSpec)

end Rows
end Go.Proofs.YtddcjekkimajpaaGreat
