/-
  No cell of these rows narrows 'for every input' (looked for: loops, veiled, ifaces, maps, wideKeys, modest, calm, conditions, laid).
  DERIVED. THE GIVEN ROWS OF THIS SEAT. 3 by the template 'for every input the law returns true; each argument reads behind the call as it read before'; 0 by the template 'total and deterministic' (their statements: YtmkcjopacmadhaaTotals.lean).
  GIVEN WITH THE SEED: the statements are not yours to turn. If you find one false, say at which input.
  Laid BY PROGRAM, IN A SANDBOX (cutbox-rows.mjs): the forced cells as the released guide's own fill.sh prints them over the translation 1a1cbb1463b019f0… (all of the seat's roots in one cut). By AI agents, Wed Nov 11 2026. No macro, syntax, notation, axiom, sorry.
-/
import Derived.Test.YtmkcjopacmadhaaChecked
import GoSem.Claim
import GoSem.ClaimJoined
import GoSem.ClaimMapViews
import Derived.JoinedTies
import Derived.KernelRfl
namespace Go.Proofs.Ytmkcjopacmadhaa
/- THE CELL 'sum', in the pinned program and in every row, IS THE sha256 OF THE DUMP (.gsa) THAT YtmkcjopacmadhaaProg.lean LOADS. Nothing in Lean hashes anything: it is a label: what it is worth is what the hold of that sum in a sandbox is worth. -/
noncomputable def Try.pinned : Pinned := { name := "ytmkcjopacmadhaa", sum := "1a1cbb1463b019f02fb80986d5a49f87090fbe1588994f00ba0ccf226b2af0ef", checked := Try.checked }
namespace Rows
def none {H : Type} : Left H := { results := [], args := [] }

/-- 'orpimentlaw11.ChannelsSorted': WHATEVER THE INPUT: true; the input reads as it did. -/
def channelsSortedSpec : ChangeSpec := { name := "channelsSorted", fn := fun _ => fun
  | [d] => { results := [.lit (.bool true)], args := [d] }
  | _ => none }
def channelsSortedRow : OpenClaim := { program := "ytmkcjopacmadhaa", sum := "1a1cbb1463b019f02fb80986d5a49f87090fbe1588994f00ba0ccf226b2af0ef", func := "orpiment/orpimentlaw11.ChannelsSorted", spec := "channelsSorted", inPlace := ["slices.overlaps[orpiment/channels.entry]", "slices.overlaps[orpiment/channels.receiver]"], unfollowed := true, recurses := true, plainKeys := false, apart := false }
def ChannelsSortedSaid : Prop := channelsSortedRow.holds Try.pinned (OpenSpec.ofChange channelsSortedSpec)

/-- ITS FALSE NEIGHBOUR: 'it returns false'. Refute it at one input. -/
def channelsSortedWrong : ChangeSpec := { name := "channelsSorted", fn := fun _ => fun
  | [d] => { results := [.lit (.bool false)], args := [d] }
  | _ => none }
def ChannelsSortedWrongFalsely : Prop := channelsSortedRow.holds Try.pinned (OpenSpec.ofChange channelsSortedWrong)

/-- 'orpimentlaw11.ChannelsBytes': WHATEVER THE INPUT: true; the input reads as it did. -/
def channelsBytesSpec : ChangeSpec := { name := "channelsBytes", fn := fun _ => fun
  | [d1, d2, d3] => { results := [.lit (.bool true)], args := [d1, d2, d3] }
  | _ => none }
def channelsBytesRow : OpenClaim := { program := "ytmkcjopacmadhaa", sum := "1a1cbb1463b019f02fb80986d5a49f87090fbe1588994f00ba0ccf226b2af0ef", func := "orpiment/orpimentlaw11.ChannelsBytes", spec := "channelsBytes", inPlace := ["slices.overlaps[orpiment/channels.entry]", "slices.overlaps[orpiment/channels.receiver]"], unfollowed := true, recurses := true, plainKeys := false, apart := false }
def ChannelsBytesSaid : Prop := channelsBytesRow.holds Try.pinned (OpenSpec.ofChange channelsBytesSpec)

/-- ITS FALSE NEIGHBOUR: 'it returns false'. Refute it at one input. -/
def channelsBytesWrong : ChangeSpec := { name := "channelsBytes", fn := fun _ => fun
  | [d1, d2, d3] => { results := [.lit (.bool false)], args := [d1, d2, d3] }
  | _ => none }
def ChannelsBytesWrongFalsely : Prop := channelsBytesRow.holds Try.pinned (OpenSpec.ofChange channelsBytesWrong)

/-- 'orpimentlaw11.ChannelsPulses': WHATEVER THE INPUT: true; the input reads as it did. -/
def channelsPulsesSpec : ChangeSpec := { name := "channelsPulses", fn := fun _ => fun
  | [d] => { results := [.lit (.bool true)], args := [d] }
  | _ => none }
def channelsPulsesRow : OpenClaim := { program := "ytmkcjopacmadhaa", sum := "1a1cbb1463b019f02fb80986d5a49f87090fbe1588994f00ba0ccf226b2af0ef", func := "orpiment/orpimentlaw11.ChannelsPulses", spec := "channelsPulses", inPlace := ["slices.overlaps[orpiment/channels.entry]", "slices.overlaps[orpiment/channels.receiver]"], unfollowed := true, recurses := true, plainKeys := false, apart := false }
def ChannelsPulsesSaid : Prop := channelsPulsesRow.holds Try.pinned (OpenSpec.ofChange channelsPulsesSpec)

/-- ITS FALSE NEIGHBOUR: 'it returns false'. Refute it at one input. -/
def channelsPulsesWrong : ChangeSpec := { name := "channelsPulses", fn := fun _ => fun
  | [d] => { results := [.lit (.bool false)], args := [d] }
  | _ => none }
def ChannelsPulsesWrongFalsely : Prop := channelsPulsesRow.holds Try.pinned (OpenSpec.ofChange channelsPulsesWrong)

/- THE SECOND FORM. 'bulk': how many values and letters a reading holds, each counted each time it is reached (what is shared counts as often as it is met; a slice's spare places count too). A statement '..UptoSaid' is the law's where the arguments, and the package variables that the reading takes, are together of bulk at most 1048576: NARROWER than '..Said'. Prove '..Said' where nothing that the law and all that it calls make is longer than what came in: it says more and counts as full. Else prove '..UptoSaid'. A law counts once. -/
mutual
def uptoBulk {H : Type} : DataW H → Nat
  | .lit (.string bytes) => bytes.length + 1
  | .lit _ => 1
  | .nil => 1
  | .ptr d => uptoBulk d + 1
  | .slice elems spare => uptoBulkAll elems + uptoBulkAll spare + 1
  | .agg parts => uptoBulkAll parts + 1
  | .iface _ d => uptoBulk d + 1
  | .map entries => uptoBulkEntries entries + 1
  | .held _ => 1
def uptoBulkAll {H : Type} : List (DataW H) → Nat
  | [] => 0
  | d :: r => uptoBulk d + uptoBulkAll r
def uptoBulkEntries {H : Type} : List (Lit × DataW H) → Nat
  | [] => 0
  | x :: r => uptoBulkEntry x + uptoBulkEntries r
def uptoBulkEntry {H : Type} : Lit × DataW H → Nat
  | (.string bytes, d) => bytes.length + uptoBulk d + 1
  | (_, d) => uptoBulk d + 1
 end
def uptoSmall : (H : Type) → List (DataW H) → Bool := fun _ ds => decide (uptoBulkAll ds ≤ 1048576)
def OpenSpec.upto (s : _root_.Go.ChangeSpec) : _root_.Go.OpenSpec := { _root_.Go.OpenSpec.ofChange s with cond := some uptoSmall }

/-- 'orpimentlaw11.ChannelsSorted', WHERE WHAT IT READS IS OF BULK AT MOST 1048576: true; the input reads as it did. -/
def channelsSortedUptoRow : OpenClaim := { program := "ytmkcjopacmadhaa", sum := "1a1cbb1463b019f02fb80986d5a49f87090fbe1588994f00ba0ccf226b2af0ef", func := "orpiment/orpimentlaw11.ChannelsSorted", spec := "channelsSorted", inPlace := ["slices.overlaps[orpiment/channels.entry]", "slices.overlaps[orpiment/channels.receiver]"], unfollowed := true, recurses := true, plainKeys := false, apart := false, narrowed := true }
def ChannelsSortedUptoSaid : Prop := channelsSortedUptoRow.holds Try.pinned (OpenSpec.upto channelsSortedSpec)

/-- 'orpimentlaw11.ChannelsBytes', WHERE WHAT IT READS IS OF BULK AT MOST 1048576: true; the input reads as it did. -/
def channelsBytesUptoRow : OpenClaim := { program := "ytmkcjopacmadhaa", sum := "1a1cbb1463b019f02fb80986d5a49f87090fbe1588994f00ba0ccf226b2af0ef", func := "orpiment/orpimentlaw11.ChannelsBytes", spec := "channelsBytes", inPlace := ["slices.overlaps[orpiment/channels.entry]", "slices.overlaps[orpiment/channels.receiver]"], unfollowed := true, recurses := true, plainKeys := false, apart := false, narrowed := true }
def ChannelsBytesUptoSaid : Prop := channelsBytesUptoRow.holds Try.pinned (OpenSpec.upto channelsBytesSpec)

/-- 'orpimentlaw11.ChannelsPulses', WHERE WHAT IT READS IS OF BULK AT MOST 1048576: true; the input reads as it did. -/
def channelsPulsesUptoRow : OpenClaim := { program := "ytmkcjopacmadhaa", sum := "1a1cbb1463b019f02fb80986d5a49f87090fbe1588994f00ba0ccf226b2af0ef", func := "orpiment/orpimentlaw11.ChannelsPulses", spec := "channelsPulses", inPlace := ["slices.overlaps[orpiment/channels.entry]", "slices.overlaps[orpiment/channels.receiver]"], unfollowed := true, recurses := true, plainKeys := false, apart := false, narrowed := true }
def ChannelsPulsesUptoSaid : Prop := channelsPulsesUptoRow.holds Try.pinned (OpenSpec.upto channelsPulsesSpec)

end Rows
end Go.Proofs.Ytmkcjopacmadhaa
