/- Channels: a list of pulses that came in. Conditions: none. -/
import Derived.Test.YtmkcjopacmadhaaChRow
import Derived.Test.YtmkcjopacmadhaaChZj
set_option linter.unusedVariables false
set_option linter.unusedSimpArgs false
namespace Go.Proofs.Ytmkcjopacmadhaa.Den
open Go Go.Joins Go.RowKit Go.ChangeShapes Go.WideShapes Go.ChangeAt Go.Deep
theorem undPul : Try.prog.underlying 54 = some (.struct (structOf 54)) := by kernel_rfl
theorem undPuls : Try.prog.underlying 51 = some (.slice 54) := by kernel_rfl
section
variable {H : Type} {enc : TypeId × Value → H} {w : World} {base : Nat} {spare : Nat → Bool} {held : Bool}
theorem pulses_open {fuel : Nat} {cs : List Value} {x : DataW H × List MemPlace} (h : DataW.trod enc Try.prog w base spare held fuel 51 cs = some x) :
    ∃ s xs, cs = [s] ∧ TR cPu w [] s xs ∧ (∀ k ∈ xs, (0 ≤ k.1 ∧ k.1 ≤ 255) ∧ (0 ≤ k.2.1 ∧ k.2.1 ≤ 255) ∧ 0 ≤ k.2.2 ∧ k.2.2 ≤ 255) ∧ xs.length < 2 ^ 63 :=
  slice_open (C := cPu) (p := fun k : K3 => (0 ≤ k.1 ∧ k.1 ≤ 255) ∧ (0 ≤ k.2.1 ∧ k.2.1 ≤ 255) ∧ 0 ≤ k.2.2 ∧ k.2.2 ≤ 255) undPuls (by kernel_rfl) (fun fuel cs x h hl => by
    have hc := struct_cells undPul (by kernel_rfl) (hl.trans (by kernel_rfl)) h
    match cs, hl with
    | [v0, v1, v2], _ =>
      obtain ⟨f0, g0, e0⟩ := field_of (t := 54) (j := 0) (ft := 5) (by kernel_rfl)
      obtain ⟨_, _, _, c0, t0⟩ := hc 0 f0 g0
      rw [e0] at t0
      obtain ⟨f1, g1, e1⟩ := field_of (t := 54) (j := 1) (ft := 5) (by kernel_rfl)
      obtain ⟨_, _, _, c1, t1⟩ := hc 1 f1 g1
      rw [e1] at t1
      obtain ⟨f2, g2, e2⟩ := field_of (t := 54) (j := 2) (ft := 5) (by kernel_rfl)
      obtain ⟨_, _, _, c2, t2⟩ := hc 2 f2 g2
      rw [e2] at t2
      simp at c0 c1 c2
      subst c0 c1 c2
      obtain ⟨a0, rfl, hw0⟩ := int_cell und5 t0
      have hw0 := u8_wf hw0
      obtain ⟨a1, rfl, hw1⟩ := int_cell und5 t1
      have hw1 := u8_wf hw1
      obtain ⟨a2, rfl, hw2⟩ := int_cell und5 t2
      have hw2 := u8_wf hw2
      exact ⟨(a0, a1, a2), rfl, ⟨hw0.1, Int.le_of_lt_add_one (b := 255) hw0.2⟩, ⟨hw1.1, Int.le_of_lt_add_one (b := 255) hw1.2⟩, hw2.1, Int.le_of_lt_add_one (b := 255) hw2.2⟩) h
end
end Go.Proofs.Ytmkcjopacmadhaa.Den
