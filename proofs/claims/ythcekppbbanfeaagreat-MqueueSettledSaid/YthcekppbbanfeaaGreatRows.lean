/-
  No cell of these rows narrows 'for every input' (looked for: loops, veiled, ifaces, maps, wideKeys, modest, calm, conditions, laid).
  DERIVED. THE GIVEN ROWS OF THIS SEAT. 2 by the template 'for every input the law returns true; each argument reads behind the call as it read before'; 0 by the template 'total and deterministic' (their statements: YthcekppbbanfeaaGreatTotals.lean).
  GIVEN WITH THE SEED: the statements are not yours to turn. If you find one false, say at which input.
  Laid BY PROGRAM, IN A SANDBOX (cutbox-rows.mjs): the forced cells as the released guide's own fill.sh prints them over the translation d9b92f017579ee99… (all of the seat's roots in one cut). By AI agents, Wed Nov 11 2026. No macro, syntax, notation, axiom, sorry.
-/
import Derived.Test.YthcekppbbanfeaaGreatChecked
import GoSem.Claim
import GoSem.ClaimJoined
import GoSem.ClaimMapViews
import Derived.JoinedTies
import Derived.KernelRfl
namespace Go.Proofs.YthcekppbbanfeaaGreat
/- THE CELL 'sum', in the pinned program and in every row, IS THE sha256 OF THE DUMP (.gsa) THAT YthcekppbbanfeaaGreatProg.lean LOADS. Nothing in Lean hashes anything: it is a label: what it is worth is what the hold of that sum in a sandbox is worth. -/
noncomputable def Tryz.pinned : Pinned := { name := "ythcekppbbanfeaagreat", sum := "d9b92f017579ee9910b3fade54e58e75ff24260ce3354d89fde6521f13a5748f", checked := Tryz.checked }
namespace Rows
def none {H : Type} : Left H := { results := [], args := [] }

/-- 'orpimentlaw25.MqueueSettled': WHATEVER THE INPUT: true; the input reads as it did. -/
def mqueueSettledSpec : ChangeSpec := { name := "mqueueSettled", fn := fun _ => fun
  | [d1, d2, d3] => { results := [.lit (.bool true)], args := [d1, d2, d3] }
  | _ => none }
def mqueueSettledRow : OpenClaim := { program := "ythcekppbbanfeaagreat", sum := "d9b92f017579ee9910b3fade54e58e75ff24260ce3354d89fde6521f13a5748f", func := "orpiment/orpimentlaw25.MqueueSettled", spec := "mqueueSettled", unfollowed := true, recurses := true, apart := false }
def MqueueSettledSaid : Prop := mqueueSettledRow.holds Tryz.pinned (OpenSpec.ofChange mqueueSettledSpec)

/-- ITS FALSE NEIGHBOUR: 'it returns false'. Refute it at one input. -/
def mqueueSettledWrong : ChangeSpec := { name := "mqueueSettled", fn := fun _ => fun
  | [d1, d2, d3] => { results := [.lit (.bool false)], args := [d1, d2, d3] }
  | _ => none }
def MqueueSettledWrongFalsely : Prop := mqueueSettledRow.holds Tryz.pinned (OpenSpec.ofChange mqueueSettledWrong)

/-- 'orpimentlaw25.MqueuePlays': WHATEVER THE INPUT: true; the input reads as it did. -/
def mqueuePlaysSpec : ChangeSpec := { name := "mqueuePlays", fn := fun _ => fun
  | [d1, d2, d3] => { results := [.lit (.bool true)], args := [d1, d2, d3] }
  | _ => none }
def mqueuePlaysRow : OpenClaim := { program := "ythcekppbbanfeaagreat", sum := "d9b92f017579ee9910b3fade54e58e75ff24260ce3354d89fde6521f13a5748f", func := "orpiment/orpimentlaw25.MqueuePlays", spec := "mqueuePlays", unfollowed := true, recurses := true, apart := false }
def MqueuePlaysSaid : Prop := mqueuePlaysRow.holds Tryz.pinned (OpenSpec.ofChange mqueuePlaysSpec)

/-- ITS FALSE NEIGHBOUR: 'it returns false'. Refute it at one input. -/
def mqueuePlaysWrong : ChangeSpec := { name := "mqueuePlays", fn := fun _ => fun
  | [d1, d2, d3] => { results := [.lit (.bool false)], args := [d1, d2, d3] }
  | _ => none }
def MqueuePlaysWrongFalsely : Prop := mqueuePlaysRow.holds Tryz.pinned (OpenSpec.ofChange mqueuePlaysWrong)

/- THE SECOND FORM. 'bulk': how many values and letters a reading holds, each counted each time it is reached (what is shared counts as often as it is met; a slice's spare places count too). A statement '..UptoSaid' is the law's where the arguments, and the package variables that the reading takes, are together of bulk at most 1048576: NARROWER than '..Said'. Prove '..Said' where nothing that the law and all that it calls make is longer than what came in: it says more and counts as full. Else prove '..UptoSaid'. A law counts once. -/
mutual
def uptoBulk {H : Type} : DataW H → Nat
  | .lit (.string bytes) => bytes.length + 1
  | .lit _ => 1
  | .nil => 1
  | .ptr d => uptoBulk d + 1
  | .slice elems spare => uptoBulkAll elems + uptoBulkAll spare + 1
  | .agg parts => uptoBulkAll parts + 1
  | .iface _ d => uptoBulk d + 1
  | .map entries => uptoBulkEntries entries + 1
  | .held _ => 1
def uptoBulkAll {H : Type} : List (DataW H) → Nat
  | [] => 0
  | d :: r => uptoBulk d + uptoBulkAll r
def uptoBulkEntries {H : Type} : List (Lit × DataW H) → Nat
  | [] => 0
  | x :: r => uptoBulkEntry x + uptoBulkEntries r
def uptoBulkEntry {H : Type} : Lit × DataW H → Nat
  | (.string bytes, d) => bytes.length + uptoBulk d + 1
  | (_, d) => uptoBulk d + 1
 end
def uptoSmall : (H : Type) → List (DataW H) → Bool := fun _ ds => decide (uptoBulkAll ds ≤ 1048576)
def OpenSpec.upto (s : _root_.Go.ChangeSpec) : _root_.Go.OpenSpec := { _root_.Go.OpenSpec.ofChange s with cond := some uptoSmall }

/-- 'orpimentlaw25.MqueueSettled', WHERE WHAT IT READS IS OF BULK AT MOST 1048576: true; the input reads as it did. -/
def mqueueSettledUptoRow : OpenClaim := { program := "ythcekppbbanfeaagreat", sum := "d9b92f017579ee9910b3fade54e58e75ff24260ce3354d89fde6521f13a5748f", func := "orpiment/orpimentlaw25.MqueueSettled", spec := "mqueueSettled", unfollowed := true, recurses := true, apart := false, narrowed := true }
def MqueueSettledUptoSaid : Prop := mqueueSettledUptoRow.holds Tryz.pinned (OpenSpec.upto mqueueSettledSpec)

/-- 'orpimentlaw25.MqueuePlays', WHERE WHAT IT READS IS OF BULK AT MOST 1048576: true; the input reads as it did. -/
def mqueuePlaysUptoRow : OpenClaim := { program := "ythcekppbbanfeaagreat", sum := "d9b92f017579ee9910b3fade54e58e75ff24260ce3354d89fde6521f13a5748f", func := "orpiment/orpimentlaw25.MqueuePlays", spec := "mqueuePlays", unfollowed := true, recurses := true, apart := false, narrowed := true }
def MqueuePlaysUptoSaid : Prop := mqueuePlaysUptoRow.holds Tryz.pinned (OpenSpec.upto mqueuePlaysSpec)

end Rows
end Go.Proofs.YthcekppbbanfeaaGreat
