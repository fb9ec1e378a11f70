/-
  No cell of these rows narrows 'for every input' (looked for: loops, veiled, ifaces, maps, wideKeys, modest, calm, conditions, laid).
  DERIVED. THE GIVEN ROWS OF THIS SEAT. 5 by the template 'for every input the law returns true; each argument reads behind the call as it read before'; 0 by the template 'total and deterministic' (their statements: YticnobfmpogcoaaTotals.lean).
  GIVEN WITH THE SEED: the statements are not yours to turn. If you find one false, say at which input.
  Laid BY PROGRAM, IN A SANDBOX (cutbox-rows.mjs): the forced cells as the released guide's own fill.sh prints them over the translation a780ccf5e9f8edbb… (all of the seat's roots in one cut). By AI agents, Wed Nov 11 2026. No macro, syntax, notation, axiom, sorry.
-/
import Derived.Test.YticnobfmpogcoaaChecked
import GoSem.Claim
import GoSem.ClaimJoined
import GoSem.ClaimMapViews
import Derived.JoinedTies
import Derived.KernelRfl
namespace Go.Proofs.Yticnobfmpogcoaa
/- THE CELL 'sum', in the pinned program and in every row, IS THE sha256 OF THE DUMP (.gsa) THAT YticnobfmpogcoaaProg.lean LOADS. Nothing in Lean hashes anything: it is a label: what it is worth is what the hold of that sum in a sandbox is worth. -/
noncomputable def Try.pinned : Pinned := { name := "yticnobfmpogcoaa", sum := "a780ccf5e9f8edbb2a8487c067c238e0893c1cecb0a9c9a5dfe9c110a7508ce4", checked := Try.checked }
namespace Rows
def none {H : Type} : Left H := { results := [], args := [] }

/-- 'orpimentlaw02.ReadyRotates': WHATEVER THE INPUT: true; the input reads as it did. -/
def readyRotatesSpec : ChangeSpec := { name := "readyRotates", fn := fun _ => fun
  | [d1, d2] => { results := [.lit (.bool true)], args := [d1, d2] }
  | _ => none }
def readyRotatesRow : OpenClaim := { program := "yticnobfmpogcoaa", sum := "a780ccf5e9f8edbb2a8487c067c238e0893c1cecb0a9c9a5dfe9c110a7508ce4", func := "orpiment/orpimentlaw02.ReadyRotates", spec := "readyRotates", apart := false }
def ReadyRotatesSaid : Prop := readyRotatesRow.holds Try.pinned (OpenSpec.ofChange readyRotatesSpec)

/-- ITS FALSE NEIGHBOUR: 'it returns false'. Refute it at one input. -/
def readyRotatesWrong : ChangeSpec := { name := "readyRotates", fn := fun _ => fun
  | [d1, d2] => { results := [.lit (.bool false)], args := [d1, d2] }
  | _ => none }
def ReadyRotatesWrongFalsely : Prop := readyRotatesRow.holds Try.pinned (OpenSpec.ofChange readyRotatesWrong)

/-- 'orpimentlaw02.ReadyTakes': WHATEVER THE INPUT: true; the input reads as it did. -/
def readyTakesSpec : ChangeSpec := { name := "readyTakes", fn := fun _ => fun
  | [d1, d2] => { results := [.lit (.bool true)], args := [d1, d2] }
  | _ => none }
def readyTakesRow : OpenClaim := { program := "yticnobfmpogcoaa", sum := "a780ccf5e9f8edbb2a8487c067c238e0893c1cecb0a9c9a5dfe9c110a7508ce4", func := "orpiment/orpimentlaw02.ReadyTakes", spec := "readyTakes", apart := false }
def ReadyTakesSaid : Prop := readyTakesRow.holds Try.pinned (OpenSpec.ofChange readyTakesSpec)

/-- ITS FALSE NEIGHBOUR: 'it returns false'. Refute it at one input. -/
def readyTakesWrong : ChangeSpec := { name := "readyTakes", fn := fun _ => fun
  | [d1, d2] => { results := [.lit (.bool false)], args := [d1, d2] }
  | _ => none }
def ReadyTakesWrongFalsely : Prop := readyTakesRow.holds Try.pinned (OpenSpec.ofChange readyTakesWrong)

/-- 'orpimentlaw02.ReadyFIFO': WHATEVER THE INPUT: true; the input reads as it did. -/
def readyFIFOSpec : ChangeSpec := { name := "readyFIFO", fn := fun _ => fun
  | [d1, d2] => { results := [.lit (.bool true)], args := [d1, d2] }
  | _ => none }
def readyFIFORow : OpenClaim := { program := "yticnobfmpogcoaa", sum := "a780ccf5e9f8edbb2a8487c067c238e0893c1cecb0a9c9a5dfe9c110a7508ce4", func := "orpiment/orpimentlaw02.ReadyFIFO", spec := "readyFIFO", apart := false }
def ReadyFIFOSaid : Prop := readyFIFORow.holds Try.pinned (OpenSpec.ofChange readyFIFOSpec)

/-- ITS FALSE NEIGHBOUR: 'it returns false'. Refute it at one input. -/
def readyFIFOWrong : ChangeSpec := { name := "readyFIFO", fn := fun _ => fun
  | [d1, d2] => { results := [.lit (.bool false)], args := [d1, d2] }
  | _ => none }
def ReadyFIFOWrongFalsely : Prop := readyFIFORow.holds Try.pinned (OpenSpec.ofChange readyFIFOWrong)

/-- 'orpimentlaw02.ReadyPlays': WHATEVER THE INPUT: true; the input reads as it did. -/
def readyPlaysSpec : ChangeSpec := { name := "readyPlays", fn := fun _ => fun
  | [d] => { results := [.lit (.bool true)], args := [d] }
  | _ => none }
def readyPlaysRow : OpenClaim := { program := "yticnobfmpogcoaa", sum := "a780ccf5e9f8edbb2a8487c067c238e0893c1cecb0a9c9a5dfe9c110a7508ce4", func := "orpiment/orpimentlaw02.ReadyPlays", spec := "readyPlays", apart := false }
def ReadyPlaysSaid : Prop := readyPlaysRow.holds Try.pinned (OpenSpec.ofChange readyPlaysSpec)

/-- ITS FALSE NEIGHBOUR: 'it returns false'. Refute it at one input. -/
def readyPlaysWrong : ChangeSpec := { name := "readyPlays", fn := fun _ => fun
  | [d] => { results := [.lit (.bool false)], args := [d] }
  | _ => none }
def ReadyPlaysWrongFalsely : Prop := readyPlaysRow.holds Try.pinned (OpenSpec.ofChange readyPlaysWrong)

/-- 'orpimentlaw02.ReadyNil': WHATEVER THE INPUT: true; the input reads as it did. -/
def readyNilSpec : ChangeSpec := { name := "readyNil", fn := fun _ => fun
  | [d] => { results := [.lit (.bool true)], args := [d] }
  | _ => none }
def readyNilRow : OpenClaim := { program := "yticnobfmpogcoaa", sum := "a780ccf5e9f8edbb2a8487c067c238e0893c1cecb0a9c9a5dfe9c110a7508ce4", func := "orpiment/orpimentlaw02.ReadyNil", spec := "readyNil", apart := false }
def ReadyNilSaid : Prop := readyNilRow.holds Try.pinned (OpenSpec.ofChange readyNilSpec)

/-- ITS FALSE NEIGHBOUR: 'it returns false'. Refute it at one input. -/
def readyNilWrong : ChangeSpec := { name := "readyNil", fn := fun _ => fun
  | [d] => { results := [.lit (.bool false)], args := [d] }
  | _ => none }
def ReadyNilWrongFalsely : Prop := readyNilRow.holds Try.pinned (OpenSpec.ofChange readyNilWrong)

/- THE SECOND FORM. 'bulk': how many values and letters a reading holds, each counted each time it is reached (what is shared counts as often as it is met; a slice's spare places count too). A statement '..UptoSaid' is the law's where the arguments, and the package variables that the reading takes, are together of bulk at most 1048576: NARROWER than '..Said'. Prove '..Said' where nothing that the law and all that it calls make is longer than what came in: it says more and counts as full. Else prove '..UptoSaid'. A law counts once. -/
mutual
def uptoBulk {H : Type} : DataW H → Nat
  | .lit (.string bytes) => bytes.length + 1
  | .lit _ => 1
  | .nil => 1
  | .ptr d => uptoBulk d + 1
  | .slice elems spare => uptoBulkAll elems + uptoBulkAll spare + 1
  | .agg parts => uptoBulkAll parts + 1
  | .iface _ d => uptoBulk d + 1
  | .map entries => uptoBulkEntries entries + 1
  | .held _ => 1
def uptoBulkAll {H : Type} : List (DataW H) → Nat
  | [] => 0
  | d :: r => uptoBulk d + uptoBulkAll r
def uptoBulkEntries {H : Type} : List (Lit × DataW H) → Nat
  | [] => 0
  | x :: r => uptoBulkEntry x + uptoBulkEntries r
def uptoBulkEntry {H : Type} : Lit × DataW H → Nat
  | (.string bytes, d) => bytes.length + uptoBulk d + 1
  | (_, d) => uptoBulk d + 1
 end
def uptoSmall : (H : Type) → List (DataW H) → Bool := fun _ ds => decide (uptoBulkAll ds ≤ 1048576)
def OpenSpec.upto (s : _root_.Go.ChangeSpec) : _root_.Go.OpenSpec := { _root_.Go.OpenSpec.ofChange s with cond := some uptoSmall }

/-- 'orpimentlaw02.ReadyRotates', WHERE WHAT IT READS IS OF BULK AT MOST 1048576: true; the input reads as it did. -/
def readyRotatesUptoRow : OpenClaim := { program := "yticnobfmpogcoaa", sum := "a780ccf5e9f8edbb2a8487c067c238e0893c1cecb0a9c9a5dfe9c110a7508ce4", func := "orpiment/orpimentlaw02.ReadyRotates", spec := "readyRotates", apart := false, narrowed := true }
def ReadyRotatesUptoSaid : Prop := readyRotatesUptoRow.holds Try.pinned (OpenSpec.upto readyRotatesSpec)

/-- 'orpimentlaw02.ReadyTakes', WHERE WHAT IT READS IS OF BULK AT MOST 1048576: true; the input reads as it did. -/
def readyTakesUptoRow : OpenClaim := { program := "yticnobfmpogcoaa", sum := "a780ccf5e9f8edbb2a8487c067c238e0893c1cecb0a9c9a5dfe9c110a7508ce4", func := "orpiment/orpimentlaw02.ReadyTakes", spec := "readyTakes", apart := false, narrowed := true }
def ReadyTakesUptoSaid : Prop := readyTakesUptoRow.holds Try.pinned (OpenSpec.upto readyTakesSpec)

/-- 'orpimentlaw02.ReadyFIFO', WHERE WHAT IT READS IS OF BULK AT MOST 1048576: true; the input reads as it did. -/
def readyFIFOUptoRow : OpenClaim := { program := "yticnobfmpogcoaa", sum := "a780ccf5e9f8edbb2a8487c067c238e0893c1cecb0a9c9a5dfe9c110a7508ce4", func := "orpiment/orpimentlaw02.ReadyFIFO", spec := "readyFIFO", apart := false, narrowed := true }
def ReadyFIFOUptoSaid : Prop := readyFIFOUptoRow.holds Try.pinned (OpenSpec.upto readyFIFOSpec)

/-- 'orpimentlaw02.ReadyPlays', WHERE WHAT IT READS IS OF BULK AT MOST 1048576: true; the input reads as it did. -/
def readyPlaysUptoRow : OpenClaim := { program := "yticnobfmpogcoaa", sum := "a780ccf5e9f8edbb2a8487c067c238e0893c1cecb0a9c9a5dfe9c110a7508ce4", func := "orpiment/orpimentlaw02.ReadyPlays", spec := "readyPlays", apart := false, narrowed := true }
def ReadyPlaysUptoSaid : Prop := readyPlaysUptoRow.holds Try.pinned (OpenSpec.upto readyPlaysSpec)

/-- 'orpimentlaw02.ReadyNil', WHERE WHAT IT READS IS OF BULK AT MOST 1048576: true; the input reads as it did. -/
def readyNilUptoRow : OpenClaim := { program := "yticnobfmpogcoaa", sum := "a780ccf5e9f8edbb2a8487c067c238e0893c1cecb0a9c9a5dfe9c110a7508ce4", func := "orpiment/orpimentlaw02.ReadyNil", spec := "readyNil", apart := false, narrowed := true }
def ReadyNilUptoSaid : Prop := readyNilUptoRow.holds Try.pinned (OpenSpec.upto readyNilSpec)

end Rows
end Go.Proofs.Yticnobfmpogcoaa
