/- Inherit: what a list of acts reads as. Conditions: none. -/
import Derived.Test.YtagcifbfokneoaaIhTa
import Derived.Test.YtagcifbfokneoaaIhAb
set_option linter.unusedVariables false
set_option linter.unusedSimpArgs false
set_option maxRecDepth 8000
namespace Go.Proofs.Ytagcifbfokneoaa.Den
open Go Go.Joins Go.RowKit Go.ChangeShapes Go.WideShapes Go.ChangeAt Go.Deep
theorem und52 : Try.prog.underlying 52 = some (.slice 46) := by kernel_rfl
section
variable {H : Type} {enc : TypeId × Value → H} {w : World} {base : Nat} {spare : Nat → Bool} {held : Bool}
theorem acts_open {fuel : Nat} {cs : List Value} {x : DataW H × List MemPlace} (h : DataW.trod enc Try.prog w base spare held fuel 52 cs = some x) :
    ∃ s xs, cs = [s] ∧ TR cA w [] s xs ∧ (∀ a ∈ xs, ∃ es, TR cE w [] a.s es) ∧ xs.length < 2 ^ 63 := by
  obtain ⟨s, xs, h1, h2, h3, h4⟩ := slice_open (C := cA) (p := fun a => ∃ es, TR cE w [] a.s es) und52 (by kernel_rfl) (fun fuel cs x h hl => by
    obtain ⟨d, t, p, s, xs, rfl, hd, hs, _⟩ := act_open h hl
    exact ⟨⟨d, t, p, s, hs.sc⟩, rfl, xs, hs⟩) h
  exact ⟨s, xs, h1, h2, h3, h4⟩
end
end Go.Proofs.Ytagcifbfokneoaa.Den
