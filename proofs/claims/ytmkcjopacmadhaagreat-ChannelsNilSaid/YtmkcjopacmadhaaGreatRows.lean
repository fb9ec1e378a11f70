/-
  No cell of these rows narrows 'for every input' (looked for: loops, veiled, ifaces, maps, wideKeys, modest, calm, conditions, laid).
  DERIVED. THE GIVEN ROWS OF THIS SEAT. 5 by the template 'for every input the law returns true; each argument reads behind the call as it read before'; 0 by the template 'total and deterministic' (their statements: YtmkcjopacmadhaaGreatTotals.lean).
  GIVEN WITH THE SEED: the statements are not yours to turn. If you find one false, say at which input.
  Laid BY PROGRAM, IN A SANDBOX (cutbox-rows.mjs): the forced cells as the released guide's own fill.sh prints them over the translation 771708ce2aafb7ff… (all of the seat's roots in one cut). By AI agents, Wed Nov 11 2026. No macro, syntax, notation, axiom, sorry.
-/
import Derived.Test.YtmkcjopacmadhaaGreatChecked
import GoSem.Claim
import GoSem.ClaimJoined
import GoSem.ClaimMapViews
import Derived.JoinedTies
import Derived.KernelRfl
namespace Go.Proofs.YtmkcjopacmadhaaGreat
/- THE CELL 'sum', in the pinned program and in every row, IS THE sha256 OF THE DUMP (.gsa) THAT YtmkcjopacmadhaaGreatProg.lean LOADS. Nothing in Lean hashes anything: it is a label: what it is worth is what the hold of that sum in a sandbox is worth. -/
noncomputable def Tryz.pinned : Pinned := { name := "ytmkcjopacmadhaagreat", sum := "771708ce2aafb7ff52fe26ac640ed5ecf5e3997453d1d9c7b970a5c5b8077e01", checked := Tryz.checked }
namespace Rows
def none {H : Type} : Left H := { results := [], args := [] }

/-- 'orpimentlaw11.ChannelsOnce': WHATEVER THE INPUT: true; the input reads as it did. -/
def channelsOnceSpec : ChangeSpec := { name := "channelsOnce", fn := fun _ => fun
  | [d] => { results := [.lit (.bool true)], args := [d] }
  | _ => none }
def channelsOnceRow : OpenClaim := { program := "ytmkcjopacmadhaagreat", sum := "771708ce2aafb7ff52fe26ac640ed5ecf5e3997453d1d9c7b970a5c5b8077e01", func := "orpiment/orpimentlaw11.ChannelsOnce", spec := "channelsOnce", inPlace := ["slices.overlaps[orpiment/channels.entry]", "slices.overlaps[orpiment/channels.receiver]"], unfollowed := true, recurses := true, plainKeys := false, apart := false }
def ChannelsOnceSaid : Prop := channelsOnceRow.holds Tryz.pinned (OpenSpec.ofChange channelsOnceSpec)

/-- ITS FALSE NEIGHBOUR: 'it returns false'. Refute it at one input. -/
def channelsOnceWrong : ChangeSpec := { name := "channelsOnce", fn := fun _ => fun
  | [d] => { results := [.lit (.bool false)], args := [d] }
  | _ => none }
def ChannelsOnceWrongFalsely : Prop := channelsOnceRow.holds Tryz.pinned (OpenSpec.ofChange channelsOnceWrong)

/-- 'orpimentlaw11.ChannelsEither': WHATEVER THE INPUT: true; the input reads as it did. -/
def channelsEitherSpec : ChangeSpec := { name := "channelsEither", fn := fun _ => fun
  | [d] => { results := [.lit (.bool true)], args := [d] }
  | _ => none }
def channelsEitherRow : OpenClaim := { program := "ytmkcjopacmadhaagreat", sum := "771708ce2aafb7ff52fe26ac640ed5ecf5e3997453d1d9c7b970a5c5b8077e01", func := "orpiment/orpimentlaw11.ChannelsEither", spec := "channelsEither", inPlace := ["slices.overlaps[orpiment/channels.entry]", "slices.overlaps[orpiment/channels.receiver]"], unfollowed := true, recurses := true, plainKeys := false, apart := false }
def ChannelsEitherSaid : Prop := channelsEitherRow.holds Tryz.pinned (OpenSpec.ofChange channelsEitherSpec)

/-- ITS FALSE NEIGHBOUR: 'it returns false'. Refute it at one input. -/
def channelsEitherWrong : ChangeSpec := { name := "channelsEither", fn := fun _ => fun
  | [d] => { results := [.lit (.bool false)], args := [d] }
  | _ => none }
def ChannelsEitherWrongFalsely : Prop := channelsEitherRow.holds Tryz.pinned (OpenSpec.ofChange channelsEitherWrong)

/-- 'orpimentlaw11.ChannelsNil': WHATEVER THE INPUT: true; the input reads as it did. -/
def channelsNilSpec : ChangeSpec := { name := "channelsNil", fn := fun _ => fun
  | [d] => { results := [.lit (.bool true)], args := [d] }
  | _ => none }
def channelsNilRow : OpenClaim := { program := "ytmkcjopacmadhaagreat", sum := "771708ce2aafb7ff52fe26ac640ed5ecf5e3997453d1d9c7b970a5c5b8077e01", func := "orpiment/orpimentlaw11.ChannelsNil", spec := "channelsNil", inPlace := ["slices.overlaps[orpiment/channels.entry]", "slices.overlaps[orpiment/channels.receiver]"], unfollowed := true, recurses := true, plainKeys := false, apart := false }
def ChannelsNilSaid : Prop := channelsNilRow.holds Tryz.pinned (OpenSpec.ofChange channelsNilSpec)

/-- ITS FALSE NEIGHBOUR: 'it returns false'. Refute it at one input. -/
def channelsNilWrong : ChangeSpec := { name := "channelsNil", fn := fun _ => fun
  | [d] => { results := [.lit (.bool false)], args := [d] }
  | _ => none }
def ChannelsNilWrongFalsely : Prop := channelsNilRow.holds Tryz.pinned (OpenSpec.ofChange channelsNilWrong)

/-- 'orpimentlaw11.ChannelsCalls': WHATEVER THE INPUT: true; the input reads as it did. -/
def channelsCallsSpec : ChangeSpec := { name := "channelsCalls", fn := fun _ => fun
  | [d] => { results := [.lit (.bool true)], args := [d] }
  | _ => none }
def channelsCallsRow : OpenClaim := { program := "ytmkcjopacmadhaagreat", sum := "771708ce2aafb7ff52fe26ac640ed5ecf5e3997453d1d9c7b970a5c5b8077e01", func := "orpiment/orpimentlaw11.ChannelsCalls", spec := "channelsCalls", inPlace := ["slices.overlaps[orpiment/channels.entry]", "slices.overlaps[orpiment/channels.receiver]"], unfollowed := true, recurses := true, plainKeys := false, apart := false }
def ChannelsCallsSaid : Prop := channelsCallsRow.holds Tryz.pinned (OpenSpec.ofChange channelsCallsSpec)

/-- ITS FALSE NEIGHBOUR: 'it returns false'. Refute it at one input. -/
def channelsCallsWrong : ChangeSpec := { name := "channelsCalls", fn := fun _ => fun
  | [d] => { results := [.lit (.bool false)], args := [d] }
  | _ => none }
def ChannelsCallsWrongFalsely : Prop := channelsCallsRow.holds Tryz.pinned (OpenSpec.ofChange channelsCallsWrong)

/-- 'orpimentlaw11.ChannelsTalks': WHATEVER THE INPUT: true; the input reads as it did. -/
def channelsTalksSpec : ChangeSpec := { name := "channelsTalks", fn := fun _ => fun
  | [d] => { results := [.lit (.bool true)], args := [d] }
  | _ => none }
def channelsTalksRow : OpenClaim := { program := "ytmkcjopacmadhaagreat", sum := "771708ce2aafb7ff52fe26ac640ed5ecf5e3997453d1d9c7b970a5c5b8077e01", func := "orpiment/orpimentlaw11.ChannelsTalks", spec := "channelsTalks", inPlace := ["slices.overlaps[orpiment/channels.entry]", "slices.overlaps[orpiment/channels.receiver]"], unfollowed := true, recurses := true, plainKeys := false, apart := false }
def ChannelsTalksSaid : Prop := channelsTalksRow.holds Tryz.pinned (OpenSpec.ofChange channelsTalksSpec)

/-- ITS FALSE NEIGHBOUR: 'it returns false'. Refute it at one input. -/
def channelsTalksWrong : ChangeSpec := { name := "channelsTalks", fn := fun _ => fun
  | [d] => { results := [.lit (.bool false)], args := [d] }
  | _ => none }
def ChannelsTalksWrongFalsely : Prop := channelsTalksRow.holds Tryz.pinned (OpenSpec.ofChange channelsTalksWrong)

/- THE SECOND FORM. 'bulk': how many values and letters a reading holds, each counted each time it is reached (what is shared counts as often as it is met; a slice's spare places count too). A statement '..UptoSaid' is the law's where the arguments, and the package variables that the reading takes, are together of bulk at most 1048576: NARROWER than '..Said'. Prove '..Said' where nothing that the law and all that it calls make is longer than what came in: it says more and counts as full. Else prove '..UptoSaid'. A law counts once. -/
mutual
def uptoBulk {H : Type} : DataW H → Nat
  | .lit (.string bytes) => bytes.length + 1
  | .lit _ => 1
  | .nil => 1
  | .ptr d => uptoBulk d + 1
  | .slice elems spare => uptoBulkAll elems + uptoBulkAll spare + 1
  | .agg parts => uptoBulkAll parts + 1
  | .iface _ d => uptoBulk d + 1
  | .map entries => uptoBulkEntries entries + 1
  | .held _ => 1
def uptoBulkAll {H : Type} : List (DataW H) → Nat
  | [] => 0
  | d :: r => uptoBulk d + uptoBulkAll r
def uptoBulkEntries {H : Type} : List (Lit × DataW H) → Nat
  | [] => 0
  | x :: r => uptoBulkEntry x + uptoBulkEntries r
def uptoBulkEntry {H : Type} : Lit × DataW H → Nat
  | (.string bytes, d) => bytes.length + uptoBulk d + 1
  | (_, d) => uptoBulk d + 1
 end
def uptoSmall : (H : Type) → List (DataW H) → Bool := fun _ ds => decide (uptoBulkAll ds ≤ 1048576)
def OpenSpec.upto (s : _root_.Go.ChangeSpec) : _root_.Go.OpenSpec := { _root_.Go.OpenSpec.ofChange s with cond := some uptoSmall }

/-- 'orpimentlaw11.ChannelsOnce', WHERE WHAT IT READS IS OF BULK AT MOST 1048576: true; the input reads as it did. -/
def channelsOnceUptoRow : OpenClaim := { program := "ytmkcjopacmadhaagreat", sum := "771708ce2aafb7ff52fe26ac640ed5ecf5e3997453d1d9c7b970a5c5b8077e01", func := "orpiment/orpimentlaw11.ChannelsOnce", spec := "channelsOnce", inPlace := ["slices.overlaps[orpiment/channels.entry]", "slices.overlaps[orpiment/channels.receiver]"], unfollowed := true, recurses := true, plainKeys := false, apart := false, narrowed := true }
def ChannelsOnceUptoSaid : Prop := channelsOnceUptoRow.holds Tryz.pinned (OpenSpec.upto channelsOnceSpec)

/-- 'orpimentlaw11.ChannelsEither', WHERE WHAT IT READS IS OF BULK AT MOST 1048576: true; the input reads as it did. -/
def channelsEitherUptoRow : OpenClaim := { program := "ytmkcjopacmadhaagreat", sum := "771708ce2aafb7ff52fe26ac640ed5ecf5e3997453d1d9c7b970a5c5b8077e01", func := "orpiment/orpimentlaw11.ChannelsEither", spec := "channelsEither", inPlace := ["slices.overlaps[orpiment/channels.entry]", "slices.overlaps[orpiment/channels.receiver]"], unfollowed := true, recurses := true, plainKeys := false, apart := false, narrowed := true }
def ChannelsEitherUptoSaid : Prop := channelsEitherUptoRow.holds Tryz.pinned (OpenSpec.upto channelsEitherSpec)

/-- 'orpimentlaw11.ChannelsNil', WHERE WHAT IT READS IS OF BULK AT MOST 1048576: true; the input reads as it did. -/
def channelsNilUptoRow : OpenClaim := { program := "ytmkcjopacmadhaagreat", sum := "771708ce2aafb7ff52fe26ac640ed5ecf5e3997453d1d9c7b970a5c5b8077e01", func := "orpiment/orpimentlaw11.ChannelsNil", spec := "channelsNil", inPlace := ["slices.overlaps[orpiment/channels.entry]", "slices.overlaps[orpiment/channels.receiver]"], unfollowed := true, recurses := true, plainKeys := false, apart := false, narrowed := true }
def ChannelsNilUptoSaid : Prop := channelsNilUptoRow.holds Tryz.pinned (OpenSpec.upto channelsNilSpec)

/-- 'orpimentlaw11.ChannelsCalls', WHERE WHAT IT READS IS OF BULK AT MOST 1048576: true; the input reads as it did. -/
def channelsCallsUptoRow : OpenClaim := { program := "ytmkcjopacmadhaagreat", sum := "771708ce2aafb7ff52fe26ac640ed5ecf5e3997453d1d9c7b970a5c5b8077e01", func := "orpiment/orpimentlaw11.ChannelsCalls", spec := "channelsCalls", inPlace := ["slices.overlaps[orpiment/channels.entry]", "slices.overlaps[orpiment/channels.receiver]"], unfollowed := true, recurses := true, plainKeys := false, apart := false, narrowed := true }
def ChannelsCallsUptoSaid : Prop := channelsCallsUptoRow.holds Tryz.pinned (OpenSpec.upto channelsCallsSpec)

/-- 'orpimentlaw11.ChannelsTalks', WHERE WHAT IT READS IS OF BULK AT MOST 1048576: true; the input reads as it did. -/
def channelsTalksUptoRow : OpenClaim := { program := "ytmkcjopacmadhaagreat", sum := "771708ce2aafb7ff52fe26ac640ed5ecf5e3997453d1d9c7b970a5c5b8077e01", func := "orpiment/orpimentlaw11.ChannelsTalks", spec := "channelsTalks", inPlace := ["slices.overlaps[orpiment/channels.entry]", "slices.overlaps[orpiment/channels.receiver]"], unfollowed := true, recurses := true, plainKeys := false, apart := false, narrowed := true }
def ChannelsTalksUptoSaid : Prop := channelsTalksUptoRow.holds Tryz.pinned (OpenSpec.upto channelsTalksSpec)

end Rows
end Go.Proofs.YtmkcjopacmadhaaGreat
