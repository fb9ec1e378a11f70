/-
  No cell of these rows narrows 'for every input' (looked for: loops, veiled, ifaces, maps, wideKeys, modest, calm, conditions, laid).
  DERIVED. THE GIVEN ROWS OF THIS SEAT. 7 by the template 'for every input the law returns true; each argument reads behind the call as it read before'; 0 by the template 'total and deterministic' (their statements: YtmnpndgmfmjfhaaTotals.lean).
  GIVEN WITH THE SEED: the statements are not yours to turn. If you find one false, say at which input.
  Laid BY PROGRAM, IN A SANDBOX (cutbox-rows.mjs): the forced cells as the released guide's own fill.sh prints them over the translation d2d80c5b953ab67d… (all of the seat's roots in one cut). By AI agents, Wed Nov 11 2026. No macro, syntax, notation, axiom, sorry.
-/
import Derived.Test.YtmnpndgmfmjfhaaChecked
import GoSem.Claim
import GoSem.ClaimJoined
import GoSem.ClaimMapViews
import Derived.JoinedTies
import Derived.KernelRfl
namespace Go.Proofs.Ytmnpndgmfmjfhaa
/- THE CELL 'sum', in the pinned program and in every row, IS THE sha256 OF THE DUMP (.gsa) THAT YtmnpndgmfmjfhaaProg.lean LOADS. Nothing in Lean hashes anything: it is a label: what it is worth is what the hold of that sum in a sandbox is worth. -/
noncomputable def Try.pinned : Pinned := { name := "ytmnpndgmfmjfhaa", sum := "d2d80c5b953ab67d70dee0f521643da0d32f99001e8e3ed3e25b1f503f6fbd5f", checked := Try.checked }
namespace Rows
def none {H : Type} : Left H := { results := [], args := [] }

/-- 'orpimentlaw35.LinksBreaks': WHATEVER THE INPUT: true; the input reads as it did. -/
def linksBreaksSpec : ChangeSpec := { name := "linksBreaks", fn := fun _ => fun
  | [d1, d2] => { results := [.lit (.bool true)], args := [d1, d2] }
  | _ => none }
def linksBreaksRow : OpenClaim := { program := "ytmnpndgmfmjfhaa", sum := "d2d80c5b953ab67d70dee0f521643da0d32f99001e8e3ed3e25b1f503f6fbd5f", func := "orpiment/orpimentlaw35.LinksBreaks", spec := "linksBreaks", unfollowed := true, recurses := true, apart := false }
def LinksBreaksSaid : Prop := linksBreaksRow.holds Try.pinned (OpenSpec.ofChange linksBreaksSpec)

/-- ITS FALSE NEIGHBOUR: 'it returns false'. Refute it at one input. -/
def linksBreaksWrong : ChangeSpec := { name := "linksBreaks", fn := fun _ => fun
  | [d1, d2] => { results := [.lit (.bool false)], args := [d1, d2] }
  | _ => none }
def LinksBreaksWrongFalsely : Prop := linksBreaksRow.holds Try.pinned (OpenSpec.ofChange linksBreaksWrong)

/-- 'orpimentlaw35.LinksEncode': WHATEVER THE INPUT: true; the input reads as it did. -/
def linksEncodeSpec : ChangeSpec := { name := "linksEncode", fn := fun _ => fun
  | [d] => { results := [.lit (.bool true)], args := [d] }
  | _ => none }
def linksEncodeRow : OpenClaim := { program := "ytmnpndgmfmjfhaa", sum := "d2d80c5b953ab67d70dee0f521643da0d32f99001e8e3ed3e25b1f503f6fbd5f", func := "orpiment/orpimentlaw35.LinksEncode", spec := "linksEncode", unfollowed := true, recurses := true, apart := false }
def LinksEncodeSaid : Prop := linksEncodeRow.holds Try.pinned (OpenSpec.ofChange linksEncodeSpec)

/-- ITS FALSE NEIGHBOUR: 'it returns false'. Refute it at one input. -/
def linksEncodeWrong : ChangeSpec := { name := "linksEncode", fn := fun _ => fun
  | [d] => { results := [.lit (.bool false)], args := [d] }
  | _ => none }
def LinksEncodeWrongFalsely : Prop := linksEncodeRow.holds Try.pinned (OpenSpec.ofChange linksEncodeWrong)

/-- 'orpimentlaw35.LinksDecode': WHATEVER THE INPUT: true; the input reads as it did. -/
def linksDecodeSpec : ChangeSpec := { name := "linksDecode", fn := fun _ => fun
  | [d1, d2, d3] => { results := [.lit (.bool true)], args := [d1, d2, d3] }
  | _ => none }
def linksDecodeRow : OpenClaim := { program := "ytmnpndgmfmjfhaa", sum := "d2d80c5b953ab67d70dee0f521643da0d32f99001e8e3ed3e25b1f503f6fbd5f", func := "orpiment/orpimentlaw35.LinksDecode", spec := "linksDecode", unfollowed := true, recurses := true, apart := false }
def LinksDecodeSaid : Prop := linksDecodeRow.holds Try.pinned (OpenSpec.ofChange linksDecodeSpec)

/-- ITS FALSE NEIGHBOUR: 'it returns false'. Refute it at one input. -/
def linksDecodeWrong : ChangeSpec := { name := "linksDecode", fn := fun _ => fun
  | [d1, d2, d3] => { results := [.lit (.bool false)], args := [d1, d2, d3] }
  | _ => none }
def LinksDecodeWrongFalsely : Prop := linksDecodeRow.holds Try.pinned (OpenSpec.ofChange linksDecodeWrong)

/-- 'orpimentlaw35.LinksNil': WHATEVER THE INPUT: true; the input reads as it did. -/
def linksNilSpec : ChangeSpec := { name := "linksNil", fn := fun _ => fun
  | [d] => { results := [.lit (.bool true)], args := [d] }
  | _ => none }
def linksNilRow : OpenClaim := { program := "ytmnpndgmfmjfhaa", sum := "d2d80c5b953ab67d70dee0f521643da0d32f99001e8e3ed3e25b1f503f6fbd5f", func := "orpiment/orpimentlaw35.LinksNil", spec := "linksNil", unfollowed := true, recurses := true, apart := false }
def LinksNilSaid : Prop := linksNilRow.holds Try.pinned (OpenSpec.ofChange linksNilSpec)

/-- ITS FALSE NEIGHBOUR: 'it returns false'. Refute it at one input. -/
def linksNilWrong : ChangeSpec := { name := "linksNil", fn := fun _ => fun
  | [d] => { results := [.lit (.bool false)], args := [d] }
  | _ => none }
def LinksNilWrongFalsely : Prop := linksNilRow.holds Try.pinned (OpenSpec.ofChange linksNilWrong)

/-- 'orpimentlaw35.LinksDelivered': WHATEVER THE INPUT: true; the input reads as it did. -/
def linksDeliveredSpec : ChangeSpec := { name := "linksDelivered", fn := fun _ => fun
  | [d1, d2] => { results := [.lit (.bool true)], args := [d1, d2] }
  | _ => none }
def linksDeliveredRow : OpenClaim := { program := "ytmnpndgmfmjfhaa", sum := "d2d80c5b953ab67d70dee0f521643da0d32f99001e8e3ed3e25b1f503f6fbd5f", func := "orpiment/orpimentlaw35.LinksDelivered", spec := "linksDelivered", unfollowed := true, recurses := true, apart := false }
def LinksDeliveredSaid : Prop := linksDeliveredRow.holds Try.pinned (OpenSpec.ofChange linksDeliveredSpec)

/-- ITS FALSE NEIGHBOUR: 'it returns false'. Refute it at one input. -/
def linksDeliveredWrong : ChangeSpec := { name := "linksDelivered", fn := fun _ => fun
  | [d1, d2] => { results := [.lit (.bool false)], args := [d1, d2] }
  | _ => none }
def LinksDeliveredWrongFalsely : Prop := linksDeliveredRow.holds Try.pinned (OpenSpec.ofChange linksDeliveredWrong)

/-- 'orpimentlaw35.LinksCalls': WHATEVER THE INPUT: true; the input reads as it did. -/
def linksCallsSpec : ChangeSpec := { name := "linksCalls", fn := fun _ => fun
  | [d1, d2] => { results := [.lit (.bool true)], args := [d1, d2] }
  | _ => none }
def linksCallsRow : OpenClaim := { program := "ytmnpndgmfmjfhaa", sum := "d2d80c5b953ab67d70dee0f521643da0d32f99001e8e3ed3e25b1f503f6fbd5f", func := "orpiment/orpimentlaw35.LinksCalls", spec := "linksCalls", unfollowed := true, recurses := true, apart := false }
def LinksCallsSaid : Prop := linksCallsRow.holds Try.pinned (OpenSpec.ofChange linksCallsSpec)

/-- ITS FALSE NEIGHBOUR: 'it returns false'. Refute it at one input. -/
def linksCallsWrong : ChangeSpec := { name := "linksCalls", fn := fun _ => fun
  | [d1, d2] => { results := [.lit (.bool false)], args := [d1, d2] }
  | _ => none }
def LinksCallsWrongFalsely : Prop := linksCallsRow.holds Try.pinned (OpenSpec.ofChange linksCallsWrong)

/-- 'orpimentlaw35.LinksTalks': WHATEVER THE INPUT: true; the input reads as it did. -/
def linksTalksSpec : ChangeSpec := { name := "linksTalks", fn := fun _ => fun
  | [d1, d2] => { results := [.lit (.bool true)], args := [d1, d2] }
  | _ => none }
def linksTalksRow : OpenClaim := { program := "ytmnpndgmfmjfhaa", sum := "d2d80c5b953ab67d70dee0f521643da0d32f99001e8e3ed3e25b1f503f6fbd5f", func := "orpiment/orpimentlaw35.LinksTalks", spec := "linksTalks", unfollowed := true, recurses := true, apart := false }
def LinksTalksSaid : Prop := linksTalksRow.holds Try.pinned (OpenSpec.ofChange linksTalksSpec)

/-- ITS FALSE NEIGHBOUR: 'it returns false'. Refute it at one input. -/
def linksTalksWrong : ChangeSpec := { name := "linksTalks", fn := fun _ => fun
  | [d1, d2] => { results := [.lit (.bool false)], args := [d1, d2] }
  | _ => none }
def LinksTalksWrongFalsely : Prop := linksTalksRow.holds Try.pinned (OpenSpec.ofChange linksTalksWrong)

/- THE SECOND FORM. 'bulk': how many values and letters a reading holds, each counted each time it is reached (what is shared counts as often as it is met; a slice's spare places count too). A statement '..UptoSaid' is the law's where the arguments, and the package variables that the reading takes, are together of bulk at most 1048576: NARROWER than '..Said'. Prove '..Said' where nothing that the law and all that it calls make is longer than what came in: it says more and counts as full. Else prove '..UptoSaid'. A law counts once. -/
mutual
def uptoBulk {H : Type} : DataW H → Nat
  | .lit (.string bytes) => bytes.length + 1
  | .lit _ => 1
  | .nil => 1
  | .ptr d => uptoBulk d + 1
  | .slice elems spare => uptoBulkAll elems + uptoBulkAll spare + 1
  | .agg parts => uptoBulkAll parts + 1
  | .iface _ d => uptoBulk d + 1
  | .map entries => uptoBulkEntries entries + 1
  | .held _ => 1
def uptoBulkAll {H : Type} : List (DataW H) → Nat
  | [] => 0
  | d :: r => uptoBulk d + uptoBulkAll r
def uptoBulkEntries {H : Type} : List (Lit × DataW H) → Nat
  | [] => 0
  | x :: r => uptoBulkEntry x + uptoBulkEntries r
def uptoBulkEntry {H : Type} : Lit × DataW H → Nat
  | (.string bytes, d) => bytes.length + uptoBulk d + 1
  | (_, d) => uptoBulk d + 1
 end
def uptoSmall : (H : Type) → List (DataW H) → Bool := fun _ ds => decide (uptoBulkAll ds ≤ 1048576)
def OpenSpec.upto (s : _root_.Go.ChangeSpec) : _root_.Go.OpenSpec := { _root_.Go.OpenSpec.ofChange s with cond := some uptoSmall }

/-- 'orpimentlaw35.LinksBreaks', WHERE WHAT IT READS IS OF BULK AT MOST 1048576: true; the input reads as it did. -/
def linksBreaksUptoRow : OpenClaim := { program := "ytmnpndgmfmjfhaa", sum := "d2d80c5b953ab67d70dee0f521643da0d32f99001e8e3ed3e25b1f503f6fbd5f", func := "orpiment/orpimentlaw35.LinksBreaks", spec := "linksBreaks", unfollowed := true, recurses := true, apart := false, narrowed := true }
def LinksBreaksUptoSaid : Prop := linksBreaksUptoRow.holds Try.pinned (OpenSpec.upto linksBreaksSpec)

/-- 'orpimentlaw35.LinksEncode', WHERE WHAT IT READS IS OF BULK AT MOST 1048576: true; the input reads as it did. -/
def linksEncodeUptoRow : OpenClaim := { program := "ytmnpndgmfmjfhaa", sum := "d2d80c5b953ab67d70dee0f521643da0d32f99001e8e3ed3e25b1f503f6fbd5f", func := "orpiment/orpimentlaw35.LinksEncode", spec := "linksEncode", unfollowed := true, recurses := true, apart := false, narrowed := true }
def LinksEncodeUptoSaid : Prop := linksEncodeUptoRow.holds Try.pinned (OpenSpec.upto linksEncodeSpec)

/-- 'orpimentlaw35.LinksDecode', WHERE WHAT IT READS IS OF BULK AT MOST 1048576: true; the input reads as it did. -/
def linksDecodeUptoRow : OpenClaim := { program := "ytmnpndgmfmjfhaa", sum := "d2d80c5b953ab67d70dee0f521643da0d32f99001e8e3ed3e25b1f503f6fbd5f", func := "orpiment/orpimentlaw35.LinksDecode", spec := "linksDecode", unfollowed := true, recurses := true, apart := false, narrowed := true }
def LinksDecodeUptoSaid : Prop := linksDecodeUptoRow.holds Try.pinned (OpenSpec.upto linksDecodeSpec)

/-- 'orpimentlaw35.LinksNil', WHERE WHAT IT READS IS OF BULK AT MOST 1048576: true; the input reads as it did. -/
def linksNilUptoRow : OpenClaim := { program := "ytmnpndgmfmjfhaa", sum := "d2d80c5b953ab67d70dee0f521643da0d32f99001e8e3ed3e25b1f503f6fbd5f", func := "orpiment/orpimentlaw35.LinksNil", spec := "linksNil", unfollowed := true, recurses := true, apart := false, narrowed := true }
def LinksNilUptoSaid : Prop := linksNilUptoRow.holds Try.pinned (OpenSpec.upto linksNilSpec)

/-- 'orpimentlaw35.LinksDelivered', WHERE WHAT IT READS IS OF BULK AT MOST 1048576: true; the input reads as it did. -/
def linksDeliveredUptoRow : OpenClaim := { program := "ytmnpndgmfmjfhaa", sum := "d2d80c5b953ab67d70dee0f521643da0d32f99001e8e3ed3e25b1f503f6fbd5f", func := "orpiment/orpimentlaw35.LinksDelivered", spec := "linksDelivered", unfollowed := true, recurses := true, apart := false, narrowed := true }
def LinksDeliveredUptoSaid : Prop := linksDeliveredUptoRow.holds Try.pinned (OpenSpec.upto linksDeliveredSpec)

/-- 'orpimentlaw35.LinksCalls', WHERE WHAT IT READS IS OF BULK AT MOST 1048576: true; the input reads as it did. -/
def linksCallsUptoRow : OpenClaim := { program := "ytmnpndgmfmjfhaa", sum := "d2d80c5b953ab67d70dee0f521643da0d32f99001e8e3ed3e25b1f503f6fbd5f", func := "orpiment/orpimentlaw35.LinksCalls", spec := "linksCalls", unfollowed := true, recurses := true, apart := false, narrowed := true }
def LinksCallsUptoSaid : Prop := linksCallsUptoRow.holds Try.pinned (OpenSpec.upto linksCallsSpec)

/-- 'orpimentlaw35.LinksTalks', WHERE WHAT IT READS IS OF BULK AT MOST 1048576: true; the input reads as it did. -/
def linksTalksUptoRow : OpenClaim := { program := "ytmnpndgmfmjfhaa", sum := "d2d80c5b953ab67d70dee0f521643da0d32f99001e8e3ed3e25b1f503f6fbd5f", func := "orpiment/orpimentlaw35.LinksTalks", spec := "linksTalks", unfollowed := true, recurses := true, apart := false, narrowed := true }
def LinksTalksUptoSaid : Prop := linksTalksUptoRow.holds Try.pinned (OpenSpec.upto linksTalksSpec)

end Rows
end Go.Proofs.Ytmnpndgmfmjfhaa
