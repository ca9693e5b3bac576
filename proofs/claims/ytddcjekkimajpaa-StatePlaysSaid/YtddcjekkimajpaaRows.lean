/-
  No cell of these rows narrows 'for every input' (looked for: loops, veiled, ifaces, maps, wideKeys, modest, calm, conditions, laid).
  DERIVED. THE GIVEN ROWS OF THIS SEAT. 8 by the template 'for every input the law returns true; each argument reads behind the call as it read before'; 0 by the template 'total and deterministic' (their statements: YtddcjekkimajpaaTotals.lean).
  GIVEN WITH THE SEED: the statements are not yours to turn. If you find one false, say at which input.
  Laid BY PROGRAM, IN A SANDBOX (cutbox-rows.mjs): the forced cells as the released guide's own fill.sh prints them over the translation 85427170f1c0421e… (all of the seat's roots in one cut). By AI agents, Wed Nov 11 2026. No macro, syntax, notation, axiom, sorry.
-/
import Derived.Test.YtddcjekkimajpaaChecked
import GoSem.Claim
import GoSem.ClaimJoined
import GoSem.ClaimMapViews
import Derived.JoinedTies
import Derived.KernelRfl
namespace Go.Proofs.Ytddcjekkimajpaa
/- THE CELL 'sum', in the pinned program and in every row, IS THE sha256 OF THE DUMP (.gsa) THAT YtddcjekkimajpaaProg.lean LOADS. Nothing in Lean hashes anything: it is a label: what it is worth is what the hold of that sum in a sandbox is worth. -/
noncomputable def Try.pinned : Pinned := { name := "ytddcjekkimajpaa", sum := "85427170f1c0421ea93daaeed98507ab781f98cbad9cf1d51c8487a8184f9e5d", checked := Try.checked }
namespace Rows
def none {H : Type} : Left H := { results := [], args := [] }

/-- 'overdublaw21.StateTracks': WHATEVER THE INPUT: true; the input reads as it did. -/
def stateTracksSpec : ChangeSpec := { name := "stateTracks", fn := fun _ => fun
  | [d] => { results := [.lit (.bool true)], args := [d] }
  | _ => none }
def stateTracksRow : OpenClaim := { program := "ytddcjekkimajpaa", sum := "85427170f1c0421ea93daaeed98507ab781f98cbad9cf1d51c8487a8184f9e5d", func := "overdub/overdublaw21.StateTracks", spec := "stateTracks", inPlace := ["slices.overlaps[overdub/state.track]"], unfollowed := true, recurses := true, apart := false }
def StateTracksSaid : Prop := stateTracksRow.holds Try.pinned (OpenSpec.ofChange stateTracksSpec)

/-- ITS FALSE NEIGHBOUR: 'it returns false'. Refute it at one input. -/
def stateTracksWrong : ChangeSpec := { name := "stateTracks", fn := fun _ => fun
  | [d] => { results := [.lit (.bool false)], args := [d] }
  | _ => none }
def StateTracksWrongFalsely : Prop := stateTracksRow.holds Try.pinned (OpenSpec.ofChange stateTracksWrong)

/-- 'overdublaw21.StateErrors': WHATEVER THE INPUT: true; the input reads as it did. -/
def stateErrorsSpec : ChangeSpec := { name := "stateErrors", fn := fun _ => fun
  | [d1, d2] => { results := [.lit (.bool true)], args := [d1, d2] }
  | _ => none }
def stateErrorsRow : OpenClaim := { program := "ytddcjekkimajpaa", sum := "85427170f1c0421ea93daaeed98507ab781f98cbad9cf1d51c8487a8184f9e5d", func := "overdub/overdublaw21.StateErrors", spec := "stateErrors", inPlace := ["slices.overlaps[overdub/state.track]"], unfollowed := true, recurses := true, apart := false }
def StateErrorsSaid : Prop := stateErrorsRow.holds Try.pinned (OpenSpec.ofChange stateErrorsSpec)

/-- ITS FALSE NEIGHBOUR: 'it returns false'. Refute it at one input. -/
def stateErrorsWrong : ChangeSpec := { name := "stateErrors", fn := fun _ => fun
  | [d1, d2] => { results := [.lit (.bool false)], args := [d1, d2] }
  | _ => none }
def StateErrorsWrongFalsely : Prop := stateErrorsRow.holds Try.pinned (OpenSpec.ofChange stateErrorsWrong)

/-- 'overdublaw21.StateSplices': WHATEVER THE INPUT: true; the input reads as it did. -/
def stateSplicesSpec : ChangeSpec := { name := "stateSplices", fn := fun _ => fun
  | [d1, d2] => { results := [.lit (.bool true)], args := [d1, d2] }
  | _ => none }
def stateSplicesRow : OpenClaim := { program := "ytddcjekkimajpaa", sum := "85427170f1c0421ea93daaeed98507ab781f98cbad9cf1d51c8487a8184f9e5d", func := "overdub/overdublaw21.StateSplices", spec := "stateSplices", inPlace := ["slices.overlaps[overdub/state.track]"], unfollowed := true, recurses := true, apart := false }
def StateSplicesSaid : Prop := stateSplicesRow.holds Try.pinned (OpenSpec.ofChange stateSplicesSpec)

/-- ITS FALSE NEIGHBOUR: 'it returns false'. Refute it at one input. -/
def stateSplicesWrong : ChangeSpec := { name := "stateSplices", fn := fun _ => fun
  | [d1, d2] => { results := [.lit (.bool false)], args := [d1, d2] }
  | _ => none }
def StateSplicesWrongFalsely : Prop := stateSplicesRow.holds Try.pinned (OpenSpec.ofChange stateSplicesWrong)

/-- 'overdublaw21.StateSame': WHATEVER THE INPUT: true; the input reads as it did. -/
def stateSameSpec : ChangeSpec := { name := "stateSame", fn := fun _ => fun
  | [d1, d2] => { results := [.lit (.bool true)], args := [d1, d2] }
  | _ => none }
def stateSameRow : OpenClaim := { program := "ytddcjekkimajpaa", sum := "85427170f1c0421ea93daaeed98507ab781f98cbad9cf1d51c8487a8184f9e5d", func := "overdub/overdublaw21.StateSame", spec := "stateSame", inPlace := ["slices.overlaps[overdub/state.track]"], unfollowed := true, recurses := true, apart := false }
def StateSameSaid : Prop := stateSameRow.holds Try.pinned (OpenSpec.ofChange stateSameSpec)

/-- ITS FALSE NEIGHBOUR: 'it returns false'. Refute it at one input. -/
def stateSameWrong : ChangeSpec := { name := "stateSame", fn := fun _ => fun
  | [d1, d2] => { results := [.lit (.bool false)], args := [d1, d2] }
  | _ => none }
def StateSameWrongFalsely : Prop := stateSameRow.holds Try.pinned (OpenSpec.ofChange stateSameWrong)

/-- 'overdublaw22.HistoryBounds': WHATEVER THE INPUT: true; the input reads as it did. -/
def historyBoundsSpec : ChangeSpec := { name := "historyBounds", fn := fun _ => fun
  | [d] => { results := [.lit (.bool true)], args := [d] }
  | _ => none }
def historyBoundsRow : OpenClaim := { program := "ytddcjekkimajpaa", sum := "85427170f1c0421ea93daaeed98507ab781f98cbad9cf1d51c8487a8184f9e5d", func := "overdub/overdublaw22.HistoryBounds", spec := "historyBounds", inPlace := ["slices.overlaps[overdub/state.track]"], unfollowed := true, recurses := true, apart := false }
def HistoryBoundsSaid : Prop := historyBoundsRow.holds Try.pinned (OpenSpec.ofChange historyBoundsSpec)

/-- ITS FALSE NEIGHBOUR: 'it returns false'. Refute it at one input. -/
def historyBoundsWrong : ChangeSpec := { name := "historyBounds", fn := fun _ => fun
  | [d] => { results := [.lit (.bool false)], args := [d] }
  | _ => none }
def HistoryBoundsWrongFalsely : Prop := historyBoundsRow.holds Try.pinned (OpenSpec.ofChange historyBoundsWrong)

/-- 'overdublaw22.HistoryBack': WHATEVER THE INPUT: true; the input reads as it did. -/
def historyBackSpec : ChangeSpec := { name := "historyBack", fn := fun _ => fun
  | [d1, d2] => { results := [.lit (.bool true)], args := [d1, d2] }
  | _ => none }
def historyBackRow : OpenClaim := { program := "ytddcjekkimajpaa", sum := "85427170f1c0421ea93daaeed98507ab781f98cbad9cf1d51c8487a8184f9e5d", func := "overdub/overdublaw22.HistoryBack", spec := "historyBack", inPlace := ["slices.overlaps[overdub/state.track]"], unfollowed := true, recurses := true, apart := false }
def HistoryBackSaid : Prop := historyBackRow.holds Try.pinned (OpenSpec.ofChange historyBackSpec)

/-- ITS FALSE NEIGHBOUR: 'it returns false'. Refute it at one input. -/
def historyBackWrong : ChangeSpec := { name := "historyBack", fn := fun _ => fun
  | [d1, d2] => { results := [.lit (.bool false)], args := [d1, d2] }
  | _ => none }
def HistoryBackWrongFalsely : Prop := historyBackRow.holds Try.pinned (OpenSpec.ofChange historyBackWrong)

/-- 'overdublaw22.HistorySets': WHATEVER THE INPUT: true; the input reads as it did. -/
def historySetsSpec : ChangeSpec := { name := "historySets", fn := fun _ => fun
  | [d1, d2, d3] => { results := [.lit (.bool true)], args := [d1, d2, d3] }
  | _ => none }
def historySetsRow : OpenClaim := { program := "ytddcjekkimajpaa", sum := "85427170f1c0421ea93daaeed98507ab781f98cbad9cf1d51c8487a8184f9e5d", func := "overdub/overdublaw22.HistorySets", spec := "historySets", inPlace := ["slices.overlaps[overdub/state.track]"], unfollowed := true, recurses := true, apart := false }
def HistorySetsSaid : Prop := historySetsRow.holds Try.pinned (OpenSpec.ofChange historySetsSpec)

/-- ITS FALSE NEIGHBOUR: 'it returns false'. Refute it at one input. -/
def historySetsWrong : ChangeSpec := { name := "historySets", fn := fun _ => fun
  | [d1, d2, d3] => { results := [.lit (.bool false)], args := [d1, d2, d3] }
  | _ => none }
def HistorySetsWrongFalsely : Prop := historySetsRow.holds Try.pinned (OpenSpec.ofChange historySetsWrong)

/-- 'overdublaw21.StatePlays': WHATEVER THE INPUT: true; the input reads as it did. -/
def statePlaysSpec : ChangeSpec := { name := "statePlays", fn := fun _ => fun
  | [d1, d2] => { results := [.lit (.bool true)], args := [d1, d2] }
  | _ => none }
def statePlaysRow : OpenClaim := { program := "ytddcjekkimajpaa", sum := "85427170f1c0421ea93daaeed98507ab781f98cbad9cf1d51c8487a8184f9e5d", func := "overdub/overdublaw21.StatePlays", spec := "statePlays", inPlace := ["slices.overlaps[overdub/state.track]"], unfollowed := true, recurses := true, apart := false }
def StatePlaysSaid : Prop := statePlaysRow.holds Try.pinned (OpenSpec.ofChange statePlaysSpec)

/-- ITS FALSE NEIGHBOUR: 'it returns false'. Refute it at one input. -/
def statePlaysWrong : ChangeSpec := { name := "statePlays", fn := fun _ => fun
  | [d1, d2] => { results := [.lit (.bool false)], args := [d1, d2] }
  | _ => none }
def StatePlaysWrongFalsely : Prop := statePlaysRow.holds Try.pinned (OpenSpec.ofChange statePlaysWrong)

/- THE SECOND FORM. 'bulk': how many values and letters a reading holds, each counted each time it is reached (what is shared counts as often as it is met; a slice's spare places count too). A statement '..UptoSaid' is the law's where the arguments, and the package variables that the reading takes, are together of bulk at most 1048576: NARROWER than '..Said'. Prove '..Said' where nothing that the law and all that it calls make is longer than what came in: it says more and counts as full. Else prove '..UptoSaid'. A law counts once. -/
mutual
def uptoBulk {H : Type} : DataW H → Nat
  | .lit (.string bytes) => bytes.length + 1
  | .lit _ => 1
  | .nil => 1
  | .ptr d => uptoBulk d + 1
  | .slice elems spare => uptoBulkAll elems + uptoBulkAll spare + 1
  | .agg parts => uptoBulkAll parts + 1
  | .iface _ d => uptoBulk d + 1
  | .map entries => uptoBulkEntries entries + 1
  | .held _ => 1
def uptoBulkAll {H : Type} : List (DataW H) → Nat
  | [] => 0
  | d :: r => uptoBulk d + uptoBulkAll r
def uptoBulkEntries {H : Type} : List (Lit × DataW H) → Nat
  | [] => 0
  | x :: r => uptoBulkEntry x + uptoBulkEntries r
def uptoBulkEntry {H : Type} : Lit × DataW H → Nat
  | (.string bytes, d) => bytes.length + uptoBulk d + 1
  | (_, d) => uptoBulk d + 1
 end
def uptoSmall : (H : Type) → List (DataW H) → Bool := fun _ ds => decide (uptoBulkAll ds ≤ 1048576)
def OpenSpec.upto (s : _root_.Go.ChangeSpec) : _root_.Go.OpenSpec := { _root_.Go.OpenSpec.ofChange s with cond := some uptoSmall }

/-- 'overdublaw21.StateTracks', WHERE WHAT IT READS IS OF BULK AT MOST 1048576: true; the input reads as it did. -/
def stateTracksUptoRow : OpenClaim := { program := "ytddcjekkimajpaa", sum := "85427170f1c0421ea93daaeed98507ab781f98cbad9cf1d51c8487a8184f9e5d", func := "overdub/overdublaw21.StateTracks", spec := "stateTracks", inPlace := ["slices.overlaps[overdub/state.track]"], unfollowed := true, recurses := true, apart := false, narrowed := true }
def StateTracksUptoSaid : Prop := stateTracksUptoRow.holds Try.pinned (OpenSpec.upto stateTracksSpec)

/-- 'overdublaw21.StateErrors', WHERE WHAT IT READS IS OF BULK AT MOST 1048576: true; the input reads as it did. -/
def stateErrorsUptoRow : OpenClaim := { program := "ytddcjekkimajpaa", sum := "85427170f1c0421ea93daaeed98507ab781f98cbad9cf1d51c8487a8184f9e5d", func := "overdub/overdublaw21.StateErrors", spec := "stateErrors", inPlace := ["slices.overlaps[overdub/state.track]"], unfollowed := true, recurses := true, apart := false, narrowed := true }
def StateErrorsUptoSaid : Prop := stateErrorsUptoRow.holds Try.pinned (OpenSpec.upto stateErrorsSpec)

/-- 'overdublaw21.StateSplices', WHERE WHAT IT READS IS OF BULK AT MOST 1048576: true; the input reads as it did. -/
def stateSplicesUptoRow : OpenClaim := { program := "ytddcjekkimajpaa", sum := "85427170f1c0421ea93daaeed98507ab781f98cbad9cf1d51c8487a8184f9e5d", func := "overdub/overdublaw21.StateSplices", spec := "stateSplices", inPlace := ["slices.overlaps[overdub/state.track]"], unfollowed := true, recurses := true, apart := false, narrowed := true }
def StateSplicesUptoSaid : Prop := stateSplicesUptoRow.holds Try.pinned (OpenSpec.upto stateSplicesSpec)

/-- 'overdublaw21.StateSame', WHERE WHAT IT READS IS OF BULK AT MOST 1048576: true; the input reads as it did. -/
def stateSameUptoRow : OpenClaim := { program := "ytddcjekkimajpaa", sum := "85427170f1c0421ea93daaeed98507ab781f98cbad9cf1d51c8487a8184f9e5d", func := "overdub/overdublaw21.StateSame", spec := "stateSame", inPlace := ["slices.overlaps[overdub/state.track]"], unfollowed := true, recurses := true, apart := false, narrowed := true }
def StateSameUptoSaid : Prop := stateSameUptoRow.holds Try.pinned (OpenSpec.upto stateSameSpec)

/-- 'overdublaw22.HistoryBounds', WHERE WHAT IT READS IS OF BULK AT MOST 1048576: true; the input reads as it did. -/
def historyBoundsUptoRow : OpenClaim := { program := "ytddcjekkimajpaa", sum := "85427170f1c0421ea93daaeed98507ab781f98cbad9cf1d51c8487a8184f9e5d", func := "overdub/overdublaw22.HistoryBounds", spec := "historyBounds", inPlace := ["slices.overlaps[overdub/state.track]"], unfollowed := true, recurses := true, apart := false, narrowed := true }
def HistoryBoundsUptoSaid : Prop := historyBoundsUptoRow.holds Try.pinned (OpenSpec.upto historyBoundsSpec)

/-- 'overdublaw22.HistoryBack', WHERE WHAT IT READS IS OF BULK AT MOST 1048576: true; the input reads as it did. -/
def historyBackUptoRow : OpenClaim := { program := "ytddcjekkimajpaa", sum := "85427170f1c0421ea93daaeed98507ab781f98cbad9cf1d51c8487a8184f9e5d", func := "overdub/overdublaw22.HistoryBack", spec := "historyBack", inPlace := ["slices.overlaps[overdub/state.track]"], unfollowed := true, recurses := true, apart := false, narrowed := true }
def HistoryBackUptoSaid : Prop := historyBackUptoRow.holds Try.pinned (OpenSpec.upto historyBackSpec)

/-- 'overdublaw22.HistorySets', WHERE WHAT IT READS IS OF BULK AT MOST 1048576: true; the input reads as it did. -/
def historySetsUptoRow : OpenClaim := { program := "ytddcjekkimajpaa", sum := "85427170f1c0421ea93daaeed98507ab781f98cbad9cf1d51c8487a8184f9e5d", func := "overdub/overdublaw22.HistorySets", spec := "historySets", inPlace := ["slices.overlaps[overdub/state.track]"], unfollowed := true, recurses := true, apart := false, narrowed := true }
def HistorySetsUptoSaid : Prop := historySetsUptoRow.holds Try.pinned (OpenSpec.upto historySetsSpec)

/-- 'overdublaw21.StatePlays', WHERE WHAT IT READS IS OF BULK AT MOST 1048576: true; the input reads as it did. -/
def statePlaysUptoRow : OpenClaim := { program := "ytddcjekkimajpaa", sum := "85427170f1c0421ea93daaeed98507ab781f98cbad9cf1d51c8487a8184f9e5d", func := "overdub/overdublaw21.StatePlays", spec := "statePlays", inPlace := ["slices.overlaps[overdub/state.track]"], unfollowed := true, recurses := true, apart := false, narrowed := true }
def StatePlaysUptoSaid : Prop := statePlaysUptoRow.holds Try.pinned (OpenSpec.upto statePlaysSpec)

end Rows
end Go.Proofs.Ytddcjekkimajpaa
