/- Channels: what the rows' arguments read as. Conditions: none. -/
import Derived.Test.YtmkcjopacmadhaaGreatChT
import Derived.Test.YtmkcjopacmadhaaGreatOrow
set_option linter.unusedVariables false
set_option linter.unusedSimpArgs false
set_option maxRecDepth 8000
namespace Go.Proofs.YtmkcjopacmadhaaGreat.Den
open Go Go.Joins Go.RowKit Go.ChangeShapes Go.WideShapes Go.ChangeAt Go.Deep
theorem und3 : Tryz.prog.underlying 3 = some (.int .i64) := by kernel_rfl
theorem und4 : Tryz.prog.underlying 4 = some .bool := by kernel_rfl
theorem und5 : Tryz.prog.underlying 5 = some (.int .u8) := by kernel_rfl
theorem undBs : Tryz.prog.underlying 30 = some (.slice 5) := by kernel_rfl
section
variable {H : Type} {enc : TypeId × Value → H} {w : World} {base : Nat} {spare : Nat → Bool} {held : Bool}
theorem bytes_open {fuel : Nat} {cs : List Value} {x : DataW H × List MemPlace} (h : DataW.trod enc Tryz.prog w base spare held fuel 30 cs = some x) :
    ∃ s xs, cs = [s] ∧ TR cB w [] s xs ∧ (∀ a ∈ xs, 0 ≤ a ∧ a ≤ 255) ∧ xs.length < 2 ^ 63 :=
  slice_open (C := cB) (p := fun a => 0 ≤ a ∧ a ≤ 255) undBs (by kernel_rfl) (fun fuel cs x h hl => by
    match cs, hl with
    | [v], _ => obtain ⟨i, rfl, hw⟩ := int_cell und5 h; exact ⟨i, rfl, by have := u8_wf hw; omega⟩) h
theorem bytes_arg {b0 : Nat} {v : Value} {d : DataW H} {p : List MemPlace} (hv : Value.okWide Tryz.prog w .any b0 30 v) (h : DataW.Trod enc Tryz.prog w base spare held 30 v d p) :
    ∃ xs, TR cB w [] v xs ∧ (∀ a ∈ xs, 0 ≤ a ∧ a ≤ 255) ∧ xs.length < 2 ^ 63 := by
  obtain ⟨a, l, c, rfl⟩ := okWide_slice undBs hv
  obtain ⟨fuel, hf⟩ := h
  obtain ⟨s, xs, hs, hr, hb, hn⟩ := bytes_open hf
  simp [Value.cells] at hs
  rw [← hs] at hr
  exact ⟨xs, hr, hb, hn⟩
end
end Go.Proofs.YtmkcjopacmadhaaGreat.Den
