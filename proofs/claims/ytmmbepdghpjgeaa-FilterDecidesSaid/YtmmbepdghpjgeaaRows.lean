/-
  No cell of these rows narrows 'for every input' (looked for: loops, veiled, ifaces, maps, wideKeys, modest, calm, conditions, laid).
  DERIVED. THE GIVEN ROWS OF THIS SEAT. 7 by the template 'for every input the law returns true; each argument reads behind the call as it read before'; 0 by the template 'total and deterministic' (their statements: YtmmbepdghpjgeaaTotals.lean).
  GIVEN WITH THE SEED: the statements are not yours to turn. If you find one false, say at which input.
  Laid BY PROGRAM, IN A SANDBOX (cutbox-rows.mjs): the forced cells as the released guide's own fill.sh prints them over the translation be25d01a5cde0a29… (all of the seat's roots in one cut). By AI agents, Wed Nov 11 2026. No macro, syntax, notation, axiom, sorry.
-/
import Derived.Test.YtmmbepdghpjgeaaChecked
import GoSem.Claim
import GoSem.ClaimJoined
import GoSem.ClaimMapViews
import Derived.JoinedTies
import Derived.KernelRfl
namespace Go.Proofs.Ytmmbepdghpjgeaa
/- THE CELL 'sum', in the pinned program and in every row, IS THE sha256 OF THE DUMP (.gsa) THAT YtmmbepdghpjgeaaProg.lean LOADS. Nothing in Lean hashes anything: it is a label: what it is worth is what the hold of that sum in a sandbox is worth. -/
noncomputable def Try.pinned : Pinned := { name := "ytmmbepdghpjgeaa", sum := "be25d01a5cde0a2905ba020245e6a511a3affe46b12f2e6b1714afe521650dcf", checked := Try.checked }
namespace Rows
def none {H : Type} : Left H := { results := [], args := [] }

/-- 'orpimentlaw39.FilterParses': WHATEVER THE INPUT: true; the input reads as it did. -/
def filterParsesSpec : ChangeSpec := { name := "filterParses", fn := fun _ => fun
  | [d] => { results := [.lit (.bool true)], args := [d] }
  | _ => none }
def filterParsesRow : OpenClaim := { program := "ytmmbepdghpjgeaa", sum := "be25d01a5cde0a2905ba020245e6a511a3affe46b12f2e6b1714afe521650dcf", func := "orpiment/orpimentlaw39.FilterParses", spec := "filterParses", unfollowed := true, recurses := true, plainKeys := false, apart := false }
def FilterParsesSaid : Prop := filterParsesRow.holds Try.pinned (OpenSpec.ofChange filterParsesSpec)

/-- ITS FALSE NEIGHBOUR: 'it returns false'. Refute it at one input. -/
def filterParsesWrong : ChangeSpec := { name := "filterParses", fn := fun _ => fun
  | [d] => { results := [.lit (.bool false)], args := [d] }
  | _ => none }
def FilterParsesWrongFalsely : Prop := filterParsesRow.holds Try.pinned (OpenSpec.ofChange filterParsesWrong)

/-- 'orpimentlaw39.FilterQuick': WHATEVER THE INPUT: true; the input reads as it did. -/
def filterQuickSpec : ChangeSpec := { name := "filterQuick", fn := fun _ => fun
  | [d1, d2, d3] => { results := [.lit (.bool true)], args := [d1, d2, d3] }
  | _ => none }
def filterQuickRow : OpenClaim := { program := "ytmmbepdghpjgeaa", sum := "be25d01a5cde0a2905ba020245e6a511a3affe46b12f2e6b1714afe521650dcf", func := "orpiment/orpimentlaw39.FilterQuick", spec := "filterQuick", unfollowed := true, recurses := true, plainKeys := false, apart := false }
def FilterQuickSaid : Prop := filterQuickRow.holds Try.pinned (OpenSpec.ofChange filterQuickSpec)

/-- ITS FALSE NEIGHBOUR: 'it returns false'. Refute it at one input. -/
def filterQuickWrong : ChangeSpec := { name := "filterQuick", fn := fun _ => fun
  | [d1, d2, d3] => { results := [.lit (.bool false)], args := [d1, d2, d3] }
  | _ => none }
def FilterQuickWrongFalsely : Prop := filterQuickRow.holds Try.pinned (OpenSpec.ofChange filterQuickWrong)

/-- 'orpimentlaw39.FilterOrder': WHATEVER THE INPUT: true; the input reads as it did. -/
def filterOrderSpec : ChangeSpec := { name := "filterOrder", fn := fun _ => fun
  | [d1, d2] => { results := [.lit (.bool true)], args := [d1, d2] }
  | _ => none }
def filterOrderRow : OpenClaim := { program := "ytmmbepdghpjgeaa", sum := "be25d01a5cde0a2905ba020245e6a511a3affe46b12f2e6b1714afe521650dcf", func := "orpiment/orpimentlaw39.FilterOrder", spec := "filterOrder", unfollowed := true, recurses := true, plainKeys := false, apart := false }
def FilterOrderSaid : Prop := filterOrderRow.holds Try.pinned (OpenSpec.ofChange filterOrderSpec)

/-- ITS FALSE NEIGHBOUR: 'it returns false'. Refute it at one input. -/
def filterOrderWrong : ChangeSpec := { name := "filterOrder", fn := fun _ => fun
  | [d1, d2] => { results := [.lit (.bool false)], args := [d1, d2] }
  | _ => none }
def FilterOrderWrongFalsely : Prop := filterOrderRow.holds Try.pinned (OpenSpec.ofChange filterOrderWrong)

/-- 'orpimentlaw39.FilterReversed': WHATEVER THE INPUT: true; the input reads as it did. -/
def filterReversedSpec : ChangeSpec := { name := "filterReversed", fn := fun _ => fun
  | [d1, d2] => { results := [.lit (.bool true)], args := [d1, d2] }
  | _ => none }
def filterReversedRow : OpenClaim := { program := "ytmmbepdghpjgeaa", sum := "be25d01a5cde0a2905ba020245e6a511a3affe46b12f2e6b1714afe521650dcf", func := "orpiment/orpimentlaw39.FilterReversed", spec := "filterReversed", unfollowed := true, recurses := true, plainKeys := false, apart := false }
def FilterReversedSaid : Prop := filterReversedRow.holds Try.pinned (OpenSpec.ofChange filterReversedSpec)

/-- ITS FALSE NEIGHBOUR: 'it returns false'. Refute it at one input. -/
def filterReversedWrong : ChangeSpec := { name := "filterReversed", fn := fun _ => fun
  | [d1, d2] => { results := [.lit (.bool false)], args := [d1, d2] }
  | _ => none }
def FilterReversedWrongFalsely : Prop := filterReversedRow.holds Try.pinned (OpenSpec.ofChange filterReversedWrong)

/-- 'orpimentlaw39.FilterAnswers': WHATEVER THE INPUT: true; the input reads as it did. -/
def filterAnswersSpec : ChangeSpec := { name := "filterAnswers", fn := fun _ => fun
  | [d1, d2, d3] => { results := [.lit (.bool true)], args := [d1, d2, d3] }
  | _ => none }
def filterAnswersRow : OpenClaim := { program := "ytmmbepdghpjgeaa", sum := "be25d01a5cde0a2905ba020245e6a511a3affe46b12f2e6b1714afe521650dcf", func := "orpiment/orpimentlaw39.FilterAnswers", spec := "filterAnswers", unfollowed := true, recurses := true, plainKeys := false, apart := false }
def FilterAnswersSaid : Prop := filterAnswersRow.holds Try.pinned (OpenSpec.ofChange filterAnswersSpec)

/-- ITS FALSE NEIGHBOUR: 'it returns false'. Refute it at one input. -/
def filterAnswersWrong : ChangeSpec := { name := "filterAnswers", fn := fun _ => fun
  | [d1, d2, d3] => { results := [.lit (.bool false)], args := [d1, d2, d3] }
  | _ => none }
def FilterAnswersWrongFalsely : Prop := filterAnswersRow.holds Try.pinned (OpenSpec.ofChange filterAnswersWrong)

/-- 'orpimentlaw39.FilterEquivalent': WHATEVER THE INPUT: true; the input reads as it did. -/
def filterEquivalentSpec : ChangeSpec := { name := "filterEquivalent", fn := fun _ => fun
  | [d1, d2, d3] => { results := [.lit (.bool true)], args := [d1, d2, d3] }
  | _ => none }
def filterEquivalentRow : OpenClaim := { program := "ytmmbepdghpjgeaa", sum := "be25d01a5cde0a2905ba020245e6a511a3affe46b12f2e6b1714afe521650dcf", func := "orpiment/orpimentlaw39.FilterEquivalent", spec := "filterEquivalent", unfollowed := true, recurses := true, plainKeys := false, apart := false }
def FilterEquivalentSaid : Prop := filterEquivalentRow.holds Try.pinned (OpenSpec.ofChange filterEquivalentSpec)

/-- ITS FALSE NEIGHBOUR: 'it returns false'. Refute it at one input. -/
def filterEquivalentWrong : ChangeSpec := { name := "filterEquivalent", fn := fun _ => fun
  | [d1, d2, d3] => { results := [.lit (.bool false)], args := [d1, d2, d3] }
  | _ => none }
def FilterEquivalentWrongFalsely : Prop := filterEquivalentRow.holds Try.pinned (OpenSpec.ofChange filterEquivalentWrong)

/-- 'orpimentlaw39.FilterDecides': WHATEVER THE INPUT: true; the input reads as it did. -/
def filterDecidesSpec : ChangeSpec := { name := "filterDecides", fn := fun _ => fun
  | [d1, d2, d3] => { results := [.lit (.bool true)], args := [d1, d2, d3] }
  | _ => none }
def filterDecidesRow : OpenClaim := { program := "ytmmbepdghpjgeaa", sum := "be25d01a5cde0a2905ba020245e6a511a3affe46b12f2e6b1714afe521650dcf", func := "orpiment/orpimentlaw39.FilterDecides", spec := "filterDecides", unfollowed := true, recurses := true, plainKeys := false, apart := false }
def FilterDecidesSaid : Prop := filterDecidesRow.holds Try.pinned (OpenSpec.ofChange filterDecidesSpec)

/-- ITS FALSE NEIGHBOUR: 'it returns false'. Refute it at one input. -/
def filterDecidesWrong : ChangeSpec := { name := "filterDecides", fn := fun _ => fun
  | [d1, d2, d3] => { results := [.lit (.bool false)], args := [d1, d2, d3] }
  | _ => none }
def FilterDecidesWrongFalsely : Prop := filterDecidesRow.holds Try.pinned (OpenSpec.ofChange filterDecidesWrong)

/- THE SECOND FORM. 'bulk': how many values and letters a reading holds, each counted each time it is reached (what is shared counts as often as it is met; a slice's spare places count too). A statement '..UptoSaid' is the law's where the arguments, and the package variables that the reading takes, are together of bulk at most 1048576: NARROWER than '..Said'. Prove '..Said' where nothing that the law and all that it calls make is longer than what came in: it says more and counts as full. Else prove '..UptoSaid'. A law counts once. -/
mutual
def uptoBulk {H : Type} : DataW H → Nat
  | .lit (.string bytes) => bytes.length + 1
  | .lit _ => 1
  | .nil => 1
  | .ptr d => uptoBulk d + 1
  | .slice elems spare => uptoBulkAll elems + uptoBulkAll spare + 1
  | .agg parts => uptoBulkAll parts + 1
  | .iface _ d => uptoBulk d + 1
  | .map entries => uptoBulkEntries entries + 1
  | .held _ => 1
def uptoBulkAll {H : Type} : List (DataW H) → Nat
  | [] => 0
  | d :: r => uptoBulk d + uptoBulkAll r
def uptoBulkEntries {H : Type} : List (Lit × DataW H) → Nat
  | [] => 0
  | x :: r => uptoBulkEntry x + uptoBulkEntries r
def uptoBulkEntry {H : Type} : Lit × DataW H → Nat
  | (.string bytes, d) => bytes.length + uptoBulk d + 1
  | (_, d) => uptoBulk d + 1
 end
def uptoSmall : (H : Type) → List (DataW H) → Bool := fun _ ds => decide (uptoBulkAll ds ≤ 1048576)
def OpenSpec.upto (s : _root_.Go.ChangeSpec) : _root_.Go.OpenSpec := { _root_.Go.OpenSpec.ofChange s with cond := some uptoSmall }

/-- 'orpimentlaw39.FilterParses', WHERE WHAT IT READS IS OF BULK AT MOST 1048576: true; the input reads as it did. -/
def filterParsesUptoRow : OpenClaim := { program := "ytmmbepdghpjgeaa", sum := "be25d01a5cde0a2905ba020245e6a511a3affe46b12f2e6b1714afe521650dcf", func := "orpiment/orpimentlaw39.FilterParses", spec := "filterParses", unfollowed := true, recurses := true, plainKeys := false, apart := false, narrowed := true }
def FilterParsesUptoSaid : Prop := filterParsesUptoRow.holds Try.pinned (OpenSpec.upto filterParsesSpec)

/-- 'orpimentlaw39.FilterQuick', WHERE WHAT IT READS IS OF BULK AT MOST 1048576: true; the input reads as it did. -/
def filterQuickUptoRow : OpenClaim := { program := "ytmmbepdghpjgeaa", sum := "be25d01a5cde0a2905ba020245e6a511a3affe46b12f2e6b1714afe521650dcf", func := "orpiment/orpimentlaw39.FilterQuick", spec := "filterQuick", unfollowed := true, recurses := true, plainKeys := false, apart := false, narrowed := true }
def FilterQuickUptoSaid : Prop := filterQuickUptoRow.holds Try.pinned (OpenSpec.upto filterQuickSpec)

/-- 'orpimentlaw39.FilterOrder', WHERE WHAT IT READS IS OF BULK AT MOST 1048576: true; the input reads as it did. -/
def filterOrderUptoRow : OpenClaim := { program := "ytmmbepdghpjgeaa", sum := "be25d01a5cde0a2905ba020245e6a511a3affe46b12f2e6b1714afe521650dcf", func := "orpiment/orpimentlaw39.FilterOrder", spec := "filterOrder", unfollowed := true, recurses := true, plainKeys := false, apart := false, narrowed := true }
def FilterOrderUptoSaid : Prop := filterOrderUptoRow.holds Try.pinned (OpenSpec.upto filterOrderSpec)

/-- 'orpimentlaw39.FilterReversed', WHERE WHAT IT READS IS OF BULK AT MOST 1048576: true; the input reads as it did. -/
def filterReversedUptoRow : OpenClaim := { program := "ytmmbepdghpjgeaa", sum := "be25d01a5cde0a2905ba020245e6a511a3affe46b12f2e6b1714afe521650dcf", func := "orpiment/orpimentlaw39.FilterReversed", spec := "filterReversed", unfollowed := true, recurses := true, plainKeys := false, apart := false, narrowed := true }
def FilterReversedUptoSaid : Prop := filterReversedUptoRow.holds Try.pinned (OpenSpec.upto filterReversedSpec)

/-- 'orpimentlaw39.FilterAnswers', WHERE WHAT IT READS IS OF BULK AT MOST 1048576: true; the input reads as it did. -/
def filterAnswersUptoRow : OpenClaim := { program := "ytmmbepdghpjgeaa", sum := "be25d01a5cde0a2905ba020245e6a511a3affe46b12f2e6b1714afe521650dcf", func := "orpiment/orpimentlaw39.FilterAnswers", spec := "filterAnswers", unfollowed := true, recurses := true, plainKeys := false, apart := false, narrowed := true }
def FilterAnswersUptoSaid : Prop := filterAnswersUptoRow.holds Try.pinned (OpenSpec.upto filterAnswersSpec)

/-- 'orpimentlaw39.FilterEquivalent', WHERE WHAT IT READS IS OF BULK AT MOST 1048576: true; the input reads as it did. -/
def filterEquivalentUptoRow : OpenClaim := { program := "ytmmbepdghpjgeaa", sum := "be25d01a5cde0a2905ba020245e6a511a3affe46b12f2e6b1714afe521650dcf", func := "orpiment/orpimentlaw39.FilterEquivalent", spec := "filterEquivalent", unfollowed := true, recurses := true, plainKeys := false, apart := false, narrowed := true }
def FilterEquivalentUptoSaid : Prop := filterEquivalentUptoRow.holds Try.pinned (OpenSpec.upto filterEquivalentSpec)

/-- 'orpimentlaw39.FilterDecides', WHERE WHAT IT READS IS OF BULK AT MOST 1048576: true; the input reads as it did. -/
def filterDecidesUptoRow : OpenClaim := { program := "ytmmbepdghpjgeaa", sum := "be25d01a5cde0a2905ba020245e6a511a3affe46b12f2e6b1714afe521650dcf", func := "orpiment/orpimentlaw39.FilterDecides", spec := "filterDecides", unfollowed := true, recurses := true, plainKeys := false, apart := false, narrowed := true }
def FilterDecidesUptoSaid : Prop := filterDecidesUptoRow.holds Try.pinned (OpenSpec.upto filterDecidesSpec)

end Rows
end Go.Proofs.Ytmmbepdghpjgeaa
