/-
  No cell of these rows narrows 'for every input' (looked for: loops, veiled, ifaces, maps, wideKeys, modest, calm, conditions, laid).
  DERIVED. THE GIVEN ROWS OF THIS SEAT. 4 by the template 'for every input the law returns true; each argument reads behind the call as it read before'; 0 by the template 'total and deterministic' (their statements: YthcekppbbanfeaaTotals.lean).
  GIVEN WITH THE SEED: the statements are not yours to turn. If you find one false, say at which input.
  Laid BY PROGRAM, IN A SANDBOX (cutbox-rows.mjs): the forced cells as the released guide's own fill.sh prints them over the translation 4e6cc1a4aee99b8b… (all of the seat's roots in one cut). By AI agents, Wed Nov 11 2026. No macro, syntax, notation, axiom, sorry.
-/
import Derived.Test.YthcekppbbanfeaaChecked
import GoSem.Claim
import GoSem.ClaimJoined
import GoSem.ClaimMapViews
import Derived.JoinedTies
import Derived.KernelRfl
namespace Go.Proofs.Ythcekppbbanfeaa
/- THE CELL 'sum', in the pinned program and in every row, IS THE sha256 OF THE DUMP (.gsa) THAT YthcekppbbanfeaaProg.lean LOADS. Nothing in Lean hashes anything: it is a label: what it is worth is what the hold of that sum in a sandbox is worth. -/
noncomputable def Try.pinned : Pinned := { name := "ythcekppbbanfeaa", sum := "4e6cc1a4aee99b8bf31542ffb763245ec22a2c16b5349af1ec6152132c57cb57", checked := Try.checked }
namespace Rows
def none {H : Type} : Left H := { results := [], args := [] }

/-- 'orpimentlaw25.MqueueOnce': WHATEVER THE INPUT: true; the input reads as it did. -/
def mqueueOnceSpec : ChangeSpec := { name := "mqueueOnce", fn := fun _ => fun
  | [d1, d2] => { results := [.lit (.bool true)], args := [d1, d2] }
  | _ => none }
def mqueueOnceRow : OpenClaim := { program := "ythcekppbbanfeaa", sum := "4e6cc1a4aee99b8bf31542ffb763245ec22a2c16b5349af1ec6152132c57cb57", func := "orpiment/orpimentlaw25.MqueueOnce", spec := "mqueueOnce", unfollowed := true, recurses := true, apart := false }
def MqueueOnceSaid : Prop := mqueueOnceRow.holds Try.pinned (OpenSpec.ofChange mqueueOnceSpec)

/-- ITS FALSE NEIGHBOUR: 'it returns false'. Refute it at one input. -/
def mqueueOnceWrong : ChangeSpec := { name := "mqueueOnce", fn := fun _ => fun
  | [d1, d2] => { results := [.lit (.bool false)], args := [d1, d2] }
  | _ => none }
def MqueueOnceWrongFalsely : Prop := mqueueOnceRow.holds Try.pinned (OpenSpec.ofChange mqueueOnceWrong)

/-- 'orpimentlaw25.MqueueOrders': WHATEVER THE INPUT: true; the input reads as it did. -/
def mqueueOrdersSpec : ChangeSpec := { name := "mqueueOrders", fn := fun _ => fun
  | [d] => { results := [.lit (.bool true)], args := [d] }
  | _ => none }
def mqueueOrdersRow : OpenClaim := { program := "ythcekppbbanfeaa", sum := "4e6cc1a4aee99b8bf31542ffb763245ec22a2c16b5349af1ec6152132c57cb57", func := "orpiment/orpimentlaw25.MqueueOrders", spec := "mqueueOrders", unfollowed := true, recurses := true, apart := false }
def MqueueOrdersSaid : Prop := mqueueOrdersRow.holds Try.pinned (OpenSpec.ofChange mqueueOrdersSpec)

/-- ITS FALSE NEIGHBOUR: 'it returns false'. Refute it at one input. -/
def mqueueOrdersWrong : ChangeSpec := { name := "mqueueOrders", fn := fun _ => fun
  | [d] => { results := [.lit (.bool false)], args := [d] }
  | _ => none }
def MqueueOrdersWrongFalsely : Prop := mqueueOrdersRow.holds Try.pinned (OpenSpec.ofChange mqueueOrdersWrong)

/-- 'orpimentlaw25.MqueueTimes': WHATEVER THE INPUT: true; the input reads as it did. -/
def mqueueTimesSpec : ChangeSpec := { name := "mqueueTimes", fn := fun _ => fun
  | [d1, d2] => { results := [.lit (.bool true)], args := [d1, d2] }
  | _ => none }
def mqueueTimesRow : OpenClaim := { program := "ythcekppbbanfeaa", sum := "4e6cc1a4aee99b8bf31542ffb763245ec22a2c16b5349af1ec6152132c57cb57", func := "orpiment/orpimentlaw25.MqueueTimes", spec := "mqueueTimes", unfollowed := true, recurses := true, apart := false }
def MqueueTimesSaid : Prop := mqueueTimesRow.holds Try.pinned (OpenSpec.ofChange mqueueTimesSpec)

/-- ITS FALSE NEIGHBOUR: 'it returns false'. Refute it at one input. -/
def mqueueTimesWrong : ChangeSpec := { name := "mqueueTimes", fn := fun _ => fun
  | [d1, d2] => { results := [.lit (.bool false)], args := [d1, d2] }
  | _ => none }
def MqueueTimesWrongFalsely : Prop := mqueueTimesRow.holds Try.pinned (OpenSpec.ofChange mqueueTimesWrong)

/-- 'orpimentlaw25.MqueueNil': WHATEVER THE INPUT: true; the input reads as it did. -/
def mqueueNilSpec : ChangeSpec := { name := "mqueueNil", fn := fun _ => fun
  | [d] => { results := [.lit (.bool true)], args := [d] }
  | _ => none }
def mqueueNilRow : OpenClaim := { program := "ythcekppbbanfeaa", sum := "4e6cc1a4aee99b8bf31542ffb763245ec22a2c16b5349af1ec6152132c57cb57", func := "orpiment/orpimentlaw25.MqueueNil", spec := "mqueueNil", unfollowed := true, recurses := true, apart := false }
def MqueueNilSaid : Prop := mqueueNilRow.holds Try.pinned (OpenSpec.ofChange mqueueNilSpec)

/-- ITS FALSE NEIGHBOUR: 'it returns false'. Refute it at one input. -/
def mqueueNilWrong : ChangeSpec := { name := "mqueueNil", fn := fun _ => fun
  | [d] => { results := [.lit (.bool false)], args := [d] }
  | _ => none }
def MqueueNilWrongFalsely : Prop := mqueueNilRow.holds Try.pinned (OpenSpec.ofChange mqueueNilWrong)

/- THE SECOND FORM. 'bulk': how many values and letters a reading holds, each counted each time it is reached (what is shared counts as often as it is met; a slice's spare places count too). A statement '..UptoSaid' is the law's where the arguments, and the package variables that the reading takes, are together of bulk at most 1048576: NARROWER than '..Said'. Prove '..Said' where nothing that the law and all that it calls make is longer than what came in: it says more and counts as full. Else prove '..UptoSaid'. A law counts once. -/
mutual
def uptoBulk {H : Type} : DataW H → Nat
  | .lit (.string bytes) => bytes.length + 1
  | .lit _ => 1
  | .nil => 1
  | .ptr d => uptoBulk d + 1
  | .slice elems spare => uptoBulkAll elems + uptoBulkAll spare + 1
  | .agg parts => uptoBulkAll parts + 1
  | .iface _ d => uptoBulk d + 1
  | .map entries => uptoBulkEntries entries + 1
  | .held _ => 1
def uptoBulkAll {H : Type} : List (DataW H) → Nat
  | [] => 0
  | d :: r => uptoBulk d + uptoBulkAll r
def uptoBulkEntries {H : Type} : List (Lit × DataW H) → Nat
  | [] => 0
  | x :: r => uptoBulkEntry x + uptoBulkEntries r
def uptoBulkEntry {H : Type} : Lit × DataW H → Nat
  | (.string bytes, d) => bytes.length + uptoBulk d + 1
  | (_, d) => uptoBulk d + 1
 end
def uptoSmall : (H : Type) → List (DataW H) → Bool := fun _ ds => decide (uptoBulkAll ds ≤ 1048576)
def OpenSpec.upto (s : _root_.Go.ChangeSpec) : _root_.Go.OpenSpec := { _root_.Go.OpenSpec.ofChange s with cond := some uptoSmall }

/-- 'orpimentlaw25.MqueueOnce', WHERE WHAT IT READS IS OF BULK AT MOST 1048576: true; the input reads as it did. -/
def mqueueOnceUptoRow : OpenClaim := { program := "ythcekppbbanfeaa", sum := "4e6cc1a4aee99b8bf31542ffb763245ec22a2c16b5349af1ec6152132c57cb57", func := "orpiment/orpimentlaw25.MqueueOnce", spec := "mqueueOnce", unfollowed := true, recurses := true, apart := false, narrowed := true }
def MqueueOnceUptoSaid : Prop := mqueueOnceUptoRow.holds Try.pinned (OpenSpec.upto mqueueOnceSpec)

/-- 'orpimentlaw25.MqueueOrders', WHERE WHAT IT READS IS OF BULK AT MOST 1048576: true; the input reads as it did. -/
def mqueueOrdersUptoRow : OpenClaim := { program := "ythcekppbbanfeaa", sum := "4e6cc1a4aee99b8bf31542ffb763245ec22a2c16b5349af1ec6152132c57cb57", func := "orpiment/orpimentlaw25.MqueueOrders", spec := "mqueueOrders", unfollowed := true, recurses := true, apart := false, narrowed := true }
def MqueueOrdersUptoSaid : Prop := mqueueOrdersUptoRow.holds Try.pinned (OpenSpec.upto mqueueOrdersSpec)

/-- 'orpimentlaw25.MqueueTimes', WHERE WHAT IT READS IS OF BULK AT MOST 1048576: true; the input reads as it did. -/
def mqueueTimesUptoRow : OpenClaim := { program := "ythcekppbbanfeaa", sum := "4e6cc1a4aee99b8bf31542ffb763245ec22a2c16b5349af1ec6152132c57cb57", func := "orpiment/orpimentlaw25.MqueueTimes", spec := "mqueueTimes", unfollowed := true, recurses := true, apart := false, narrowed := true }
def MqueueTimesUptoSaid : Prop := mqueueTimesUptoRow.holds Try.pinned (OpenSpec.upto mqueueTimesSpec)

/-- 'orpimentlaw25.MqueueNil', WHERE WHAT IT READS IS OF BULK AT MOST 1048576: true; the input reads as it did. -/
def mqueueNilUptoRow : OpenClaim := { program := "ythcekppbbanfeaa", sum := "4e6cc1a4aee99b8bf31542ffb763245ec22a2c16b5349af1ec6152132c57cb57", func := "orpiment/orpimentlaw25.MqueueNil", spec := "mqueueNil", unfollowed := true, recurses := true, apart := false, narrowed := true }
def MqueueNilUptoSaid : Prop := mqueueNilUptoRow.holds Try.pinned (OpenSpec.upto mqueueNilSpec)

end Rows
end Go.Proofs.Ythcekppbbanfeaa
