/- Packet filter: a byte among the rows' arguments. Conditions: none. -/
import Derived.Test.YtmmbepdghpjgeaaFlRow
set_option linter.unusedVariables false
set_option linter.unusedSimpArgs false
set_option maxRecDepth 8000
namespace Go.Proofs.Ytmmbepdghpjgeaa.Den
open Go Go.Joins Go.RowKit Go.ChangeShapes Go.WideShapes Go.ChangeAt Go.Deep
theorem undB8 : Try.prog.underlying 5 = some (.int .u8) := by kernel_rfl
section
variable {H : Type} {enc : TypeId × Value → H} {w : World} {base : Nat} {spare : Nat → Bool} {held : Bool}
theorem u8_arg {v : Value} {d : DataW H} {p : List MemPlace} {b0 : Nat} (hv : Value.okWide Try.prog w .any b0 5 v) (h : DataW.Trod enc Try.prog w base spare held 5 v d p) : ∃ i, v = U8 i ∧ 0 ≤ i ∧ i ≤ 255 := by
  obtain ⟨fuel, hf⟩ := h
  obtain ⟨i, h1, _, hw⟩ := DataW.trod_int undB8 hf
  have hb := u8_wf hw
  cases v <;> simp [Value.cells] at h1
  · rename_i k n
    obtain ⟨rfl, rfl⟩ := h1; exact ⟨_, rfl, by omega, by omega⟩
  · simp only [Value.okWide, undB8] at hv
    simp_all [Cell.okWide, Cell.ok]
end
end Go.Proofs.Ytmmbepdghpjgeaa.Den
