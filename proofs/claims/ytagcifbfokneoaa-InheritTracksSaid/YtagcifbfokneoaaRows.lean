/-
  No cell of these rows narrows 'for every input' (looked for: loops, veiled, ifaces, maps, wideKeys, modest, calm, conditions, laid).
  DERIVED. THE GIVEN ROWS OF THIS SEAT. 8 by the template 'for every input the law returns true; each argument reads behind the call as it read before'; 0 by the template 'total and deterministic' (their statements: YtagcifbfokneoaaTotals.lean).
  GIVEN WITH THE SEED: the statements are not yours to turn. If you find one false, say at which input.
  Laid BY PROGRAM, IN A SANDBOX (cutbox-rows.mjs): the forced cells as the released guide's own fill.sh prints them over the translation 8e54f397fb858335… (all of the seat's roots in one cut). By AI agents, Wed Nov 11 2026. No macro, syntax, notation, axiom, sorry.
-/
import Derived.Test.YtagcifbfokneoaaChecked
import GoSem.Claim
import GoSem.ClaimJoined
import GoSem.ClaimMapViews
import Derived.JoinedTies
import Derived.KernelRfl
namespace Go.Proofs.Ytagcifbfokneoaa
/- THE CELL 'sum', in the pinned program and in every row, IS THE sha256 OF THE DUMP (.gsa) THAT YtagcifbfokneoaaProg.lean LOADS. Nothing in Lean hashes anything: it is a label: what it is worth is what the hold of that sum in a sandbox is worth. -/
noncomputable def Try.pinned : Pinned := { name := "ytagcifbfokneoaa", sum := "8e54f397fb858335ae81d1cce2af9b141db04cdcba7bb3f513790d261b9f0df1", checked := Try.checked }
namespace Rows
def none {H : Type} : Left H := { results := [], args := [] }

/-- 'orpimentlaw05.InheritEffective': WHATEVER THE INPUT: true; the input reads as it did. -/
def inheritEffectiveSpec : ChangeSpec := { name := "inheritEffective", fn := fun _ => fun
  | [d] => { results := [.lit (.bool true)], args := [d] }
  | _ => none }
def inheritEffectiveRow : OpenClaim := { program := "ytagcifbfokneoaa", sum := "8e54f397fb858335ae81d1cce2af9b141db04cdcba7bb3f513790d261b9f0df1", func := "orpiment/orpimentlaw05.InheritEffective", spec := "inheritEffective", unfollowed := true, recurses := true, plainKeys := false, apart := false }
def InheritEffectiveSaid : Prop := inheritEffectiveRow.holds Try.pinned (OpenSpec.ofChange inheritEffectiveSpec)

/-- ITS FALSE NEIGHBOUR: 'it returns false'. Refute it at one input. -/
def inheritEffectiveWrong : ChangeSpec := { name := "inheritEffective", fn := fun _ => fun
  | [d] => { results := [.lit (.bool false)], args := [d] }
  | _ => none }
def InheritEffectiveWrongFalsely : Prop := inheritEffectiveRow.holds Try.pinned (OpenSpec.ofChange inheritEffectiveWrong)

/-- 'orpimentlaw05.InheritLimits': WHATEVER THE INPUT: true; the input reads as it did. -/
def inheritLimitsSpec : ChangeSpec := { name := "inheritLimits", fn := fun _ => fun
  | [d1, d2] => { results := [.lit (.bool true)], args := [d1, d2] }
  | _ => none }
def inheritLimitsRow : OpenClaim := { program := "ytagcifbfokneoaa", sum := "8e54f397fb858335ae81d1cce2af9b141db04cdcba7bb3f513790d261b9f0df1", func := "orpiment/orpimentlaw05.InheritLimits", spec := "inheritLimits", unfollowed := true, recurses := true, plainKeys := false, apart := false }
def InheritLimitsSaid : Prop := inheritLimitsRow.holds Try.pinned (OpenSpec.ofChange inheritLimitsSpec)

/-- ITS FALSE NEIGHBOUR: 'it returns false'. Refute it at one input. -/
def inheritLimitsWrong : ChangeSpec := { name := "inheritLimits", fn := fun _ => fun
  | [d1, d2] => { results := [.lit (.bool false)], args := [d1, d2] }
  | _ => none }
def InheritLimitsWrongFalsely : Prop := inheritLimitsRow.holds Try.pinned (OpenSpec.ofChange inheritLimitsWrong)

/-- 'orpimentlaw05.InheritReasons': WHATEVER THE INPUT: true; the input reads as it did. -/
def inheritReasonsSpec : ChangeSpec := { name := "inheritReasons", fn := fun _ => fun
  | [d1, d2] => { results := [.lit (.bool true)], args := [d1, d2] }
  | _ => none }
def inheritReasonsRow : OpenClaim := { program := "ytagcifbfokneoaa", sum := "8e54f397fb858335ae81d1cce2af9b141db04cdcba7bb3f513790d261b9f0df1", func := "orpiment/orpimentlaw05.InheritReasons", spec := "inheritReasons", unfollowed := true, recurses := true, plainKeys := false, apart := false }
def InheritReasonsSaid : Prop := inheritReasonsRow.holds Try.pinned (OpenSpec.ofChange inheritReasonsSpec)

/-- ITS FALSE NEIGHBOUR: 'it returns false'. Refute it at one input. -/
def inheritReasonsWrong : ChangeSpec := { name := "inheritReasons", fn := fun _ => fun
  | [d1, d2] => { results := [.lit (.bool false)], args := [d1, d2] }
  | _ => none }
def InheritReasonsWrongFalsely : Prop := inheritReasonsRow.holds Try.pinned (OpenSpec.ofChange inheritReasonsWrong)

/-- 'orpimentlaw05.InheritCycles': WHATEVER THE INPUT: true; the input reads as it did. -/
def inheritCyclesSpec : ChangeSpec := { name := "inheritCycles", fn := fun _ => fun
  | [d] => { results := [.lit (.bool true)], args := [d] }
  | _ => none }
def inheritCyclesRow : OpenClaim := { program := "ytagcifbfokneoaa", sum := "8e54f397fb858335ae81d1cce2af9b141db04cdcba7bb3f513790d261b9f0df1", func := "orpiment/orpimentlaw05.InheritCycles", spec := "inheritCycles", unfollowed := true, recurses := true, plainKeys := false, apart := false }
def InheritCyclesSaid : Prop := inheritCyclesRow.holds Try.pinned (OpenSpec.ofChange inheritCyclesSpec)

/-- ITS FALSE NEIGHBOUR: 'it returns false'. Refute it at one input. -/
def inheritCyclesWrong : ChangeSpec := { name := "inheritCycles", fn := fun _ => fun
  | [d] => { results := [.lit (.bool false)], args := [d] }
  | _ => none }
def InheritCyclesWrongFalsely : Prop := inheritCyclesRow.holds Try.pinned (OpenSpec.ofChange inheritCyclesWrong)

/-- 'orpimentlaw05.InheritMonotone': WHATEVER THE INPUT: true; the input reads as it did. -/
def inheritMonotoneSpec : ChangeSpec := { name := "inheritMonotone", fn := fun _ => fun
  | [d1, d2] => { results := [.lit (.bool true)], args := [d1, d2] }
  | _ => none }
def inheritMonotoneRow : OpenClaim := { program := "ytagcifbfokneoaa", sum := "8e54f397fb858335ae81d1cce2af9b141db04cdcba7bb3f513790d261b9f0df1", func := "orpiment/orpimentlaw05.InheritMonotone", spec := "inheritMonotone", unfollowed := true, recurses := true, plainKeys := false, apart := false }
def InheritMonotoneSaid : Prop := inheritMonotoneRow.holds Try.pinned (OpenSpec.ofChange inheritMonotoneSpec)

/-- ITS FALSE NEIGHBOUR: 'it returns false'. Refute it at one input. -/
def inheritMonotoneWrong : ChangeSpec := { name := "inheritMonotone", fn := fun _ => fun
  | [d1, d2] => { results := [.lit (.bool false)], args := [d1, d2] }
  | _ => none }
def InheritMonotoneWrongFalsely : Prop := inheritMonotoneRow.holds Try.pinned (OpenSpec.ofChange inheritMonotoneWrong)

/-- 'orpimentlaw05.InheritNil': WHATEVER THE INPUT: true; the input reads as it did. -/
def inheritNilSpec : ChangeSpec := { name := "inheritNil", fn := fun _ => fun
  | [d] => { results := [.lit (.bool true)], args := [d] }
  | _ => none }
def inheritNilRow : OpenClaim := { program := "ytagcifbfokneoaa", sum := "8e54f397fb858335ae81d1cce2af9b141db04cdcba7bb3f513790d261b9f0df1", func := "orpiment/orpimentlaw05.InheritNil", spec := "inheritNil", unfollowed := true, recurses := true, plainKeys := false, apart := false }
def InheritNilSaid : Prop := inheritNilRow.holds Try.pinned (OpenSpec.ofChange inheritNilSpec)

/-- ITS FALSE NEIGHBOUR: 'it returns false'. Refute it at one input. -/
def inheritNilWrong : ChangeSpec := { name := "inheritNil", fn := fun _ => fun
  | [d] => { results := [.lit (.bool false)], args := [d] }
  | _ => none }
def InheritNilWrongFalsely : Prop := inheritNilRow.holds Try.pinned (OpenSpec.ofChange inheritNilWrong)

/-- 'orpimentlaw05.InheritTracks': WHATEVER THE INPUT: true; the input reads as it did. -/
def inheritTracksSpec : ChangeSpec := { name := "inheritTracks", fn := fun _ => fun
  | [d1, d2] => { results := [.lit (.bool true)], args := [d1, d2] }
  | _ => none }
def inheritTracksRow : OpenClaim := { program := "ytagcifbfokneoaa", sum := "8e54f397fb858335ae81d1cce2af9b141db04cdcba7bb3f513790d261b9f0df1", func := "orpiment/orpimentlaw05.InheritTracks", spec := "inheritTracks", unfollowed := true, recurses := true, plainKeys := false, apart := false }
def InheritTracksSaid : Prop := inheritTracksRow.holds Try.pinned (OpenSpec.ofChange inheritTracksSpec)

/-- ITS FALSE NEIGHBOUR: 'it returns false'. Refute it at one input. -/
def inheritTracksWrong : ChangeSpec := { name := "inheritTracks", fn := fun _ => fun
  | [d1, d2] => { results := [.lit (.bool false)], args := [d1, d2] }
  | _ => none }
def InheritTracksWrongFalsely : Prop := inheritTracksRow.holds Try.pinned (OpenSpec.ofChange inheritTracksWrong)

/-- 'orpimentlaw05.InheritAgrees': WHATEVER THE INPUT: true; the input reads as it did. -/
def inheritAgreesSpec : ChangeSpec := { name := "inheritAgrees", fn := fun _ => fun
  | [d1, d2] => { results := [.lit (.bool true)], args := [d1, d2] }
  | _ => none }
def inheritAgreesRow : OpenClaim := { program := "ytagcifbfokneoaa", sum := "8e54f397fb858335ae81d1cce2af9b141db04cdcba7bb3f513790d261b9f0df1", func := "orpiment/orpimentlaw05.InheritAgrees", spec := "inheritAgrees", unfollowed := true, recurses := true, plainKeys := false, apart := false }
def InheritAgreesSaid : Prop := inheritAgreesRow.holds Try.pinned (OpenSpec.ofChange inheritAgreesSpec)

/-- ITS FALSE NEIGHBOUR: 'it returns false'. Refute it at one input. -/
def inheritAgreesWrong : ChangeSpec := { name := "inheritAgrees", fn := fun _ => fun
  | [d1, d2] => { results := [.lit (.bool false)], args := [d1, d2] }
  | _ => none }
def InheritAgreesWrongFalsely : Prop := inheritAgreesRow.holds Try.pinned (OpenSpec.ofChange inheritAgreesWrong)

/- THE SECOND FORM. 'bulk': how many values and letters a reading holds, each counted each time it is reached (what is shared counts as often as it is met; a slice's spare places count too). A statement '..UptoSaid' is the law's where the arguments, and the package variables that the reading takes, are together of bulk at most 1048576: NARROWER than '..Said'. Prove '..Said' where nothing that the law and all that it calls make is longer than what came in: it says more and counts as full. Else prove '..UptoSaid'. A law counts once. -/
mutual
def uptoBulk {H : Type} : DataW H → Nat
  | .lit (.string bytes) => bytes.length + 1
  | .lit _ => 1
  | .nil => 1
  | .ptr d => uptoBulk d + 1
  | .slice elems spare => uptoBulkAll elems + uptoBulkAll spare + 1
  | .agg parts => uptoBulkAll parts + 1
  | .iface _ d => uptoBulk d + 1
  | .map entries => uptoBulkEntries entries + 1
  | .held _ => 1
def uptoBulkAll {H : Type} : List (DataW H) → Nat
  | [] => 0
  | d :: r => uptoBulk d + uptoBulkAll r
def uptoBulkEntries {H : Type} : List (Lit × DataW H) → Nat
  | [] => 0
  | x :: r => uptoBulkEntry x + uptoBulkEntries r
def uptoBulkEntry {H : Type} : Lit × DataW H → Nat
  | (.string bytes, d) => bytes.length + uptoBulk d + 1
  | (_, d) => uptoBulk d + 1
 end
def uptoSmall : (H : Type) → List (DataW H) → Bool := fun _ ds => decide (uptoBulkAll ds ≤ 1048576)
def OpenSpec.upto (s : _root_.Go.ChangeSpec) : _root_.Go.OpenSpec := { _root_.Go.OpenSpec.ofChange s with cond := some uptoSmall }

/-- 'orpimentlaw05.InheritEffective', WHERE WHAT IT READS IS OF BULK AT MOST 1048576: true; the input reads as it did. -/
def inheritEffectiveUptoRow : OpenClaim := { program := "ytagcifbfokneoaa", sum := "8e54f397fb858335ae81d1cce2af9b141db04cdcba7bb3f513790d261b9f0df1", func := "orpiment/orpimentlaw05.InheritEffective", spec := "inheritEffective", unfollowed := true, recurses := true, plainKeys := false, apart := false, narrowed := true }
def InheritEffectiveUptoSaid : Prop := inheritEffectiveUptoRow.holds Try.pinned (OpenSpec.upto inheritEffectiveSpec)

/-- 'orpimentlaw05.InheritLimits', WHERE WHAT IT READS IS OF BULK AT MOST 1048576: true; the input reads as it did. -/
def inheritLimitsUptoRow : OpenClaim := { program := "ytagcifbfokneoaa", sum := "8e54f397fb858335ae81d1cce2af9b141db04cdcba7bb3f513790d261b9f0df1", func := "orpiment/orpimentlaw05.InheritLimits", spec := "inheritLimits", unfollowed := true, recurses := true, plainKeys := false, apart := false, narrowed := true }
def InheritLimitsUptoSaid : Prop := inheritLimitsUptoRow.holds Try.pinned (OpenSpec.upto inheritLimitsSpec)

/-- 'orpimentlaw05.InheritReasons', WHERE WHAT IT READS IS OF BULK AT MOST 1048576: true; the input reads as it did. -/
def inheritReasonsUptoRow : OpenClaim := { program := "ytagcifbfokneoaa", sum := "8e54f397fb858335ae81d1cce2af9b141db04cdcba7bb3f513790d261b9f0df1", func := "orpiment/orpimentlaw05.InheritReasons", spec := "inheritReasons", unfollowed := true, recurses := true, plainKeys := false, apart := false, narrowed := true }
def InheritReasonsUptoSaid : Prop := inheritReasonsUptoRow.holds Try.pinned (OpenSpec.upto inheritReasonsSpec)

/-- 'orpimentlaw05.InheritCycles', WHERE WHAT IT READS IS OF BULK AT MOST 1048576: true; the input reads as it did. -/
def inheritCyclesUptoRow : OpenClaim := { program := "ytagcifbfokneoaa", sum := "8e54f397fb858335ae81d1cce2af9b141db04cdcba7bb3f513790d261b9f0df1", func := "orpiment/orpimentlaw05.InheritCycles", spec := "inheritCycles", unfollowed := true, recurses := true, plainKeys := false, apart := false, narrowed := true }
def InheritCyclesUptoSaid : Prop := inheritCyclesUptoRow.holds Try.pinned (OpenSpec.upto inheritCyclesSpec)

/-- 'orpimentlaw05.InheritMonotone', WHERE WHAT IT READS IS OF BULK AT MOST 1048576: true; the input reads as it did. -/
def inheritMonotoneUptoRow : OpenClaim := { program := "ytagcifbfokneoaa", sum := "8e54f397fb858335ae81d1cce2af9b141db04cdcba7bb3f513790d261b9f0df1", func := "orpiment/orpimentlaw05.InheritMonotone", spec := "inheritMonotone", unfollowed := true, recurses := true, plainKeys := false, apart := false, narrowed := true }
def InheritMonotoneUptoSaid : Prop := inheritMonotoneUptoRow.holds Try.pinned (OpenSpec.upto inheritMonotoneSpec)

/-- 'orpimentlaw05.InheritNil', WHERE WHAT IT READS IS OF BULK AT MOST 1048576: true; the input reads as it did. -/
def inheritNilUptoRow : OpenClaim := { program := "ytagcifbfokneoaa", sum := "8e54f397fb858335ae81d1cce2af9b141db04cdcba7bb3f513790d261b9f0df1", func := "orpiment/orpimentlaw05.InheritNil", spec := "inheritNil", unfollowed := true, recurses := true, plainKeys := false, apart := false, narrowed := true }
def InheritNilUptoSaid : Prop := inheritNilUptoRow.holds Try.pinned (OpenSpec.upto inheritNilSpec)

/-- 'orpimentlaw05.InheritTracks', WHERE WHAT IT READS IS OF BULK AT MOST 1048576: true; the input reads as it did. -/
def inheritTracksUptoRow : OpenClaim := { program := "ytagcifbfokneoaa", sum := "8e54f397fb858335ae81d1cce2af9b141db04cdcba7bb3f513790d261b9f0df1", func := "orpiment/orpimentlaw05.InheritTracks", spec := "inheritTracks", unfollowed := true, recurses := true, plainKeys := false, apart := false, narrowed := true }
def InheritTracksUptoSaid : Prop := inheritTracksUptoRow.holds Try.pinned (OpenSpec.upto inheritTracksSpec)

/-- 'orpimentlaw05.InheritAgrees', WHERE WHAT IT READS IS OF BULK AT MOST 1048576: true; the input reads as it did. -/
def inheritAgreesUptoRow : OpenClaim := { program := "ytagcifbfokneoaa", sum := "8e54f397fb858335ae81d1cce2af9b141db04cdcba7bb3f513790d261b9f0df1", func := "orpiment/orpimentlaw05.InheritAgrees", spec := "inheritAgrees", unfollowed := true, recurses := true, plainKeys := false, apart := false, narrowed := true }
def InheritAgreesUptoSaid : Prop := inheritAgreesUptoRow.holds Try.pinned (OpenSpec.upto inheritAgreesSpec)

end Rows
end Go.Proofs.Ytagcifbfokneoaa
