/- Inherit: what an Act and a list of them read as. Conditions: none. -/
import Derived.Test.YtagcifbfokneoaaIhT
set_option linter.unusedVariables false
set_option linter.unusedSimpArgs false
set_option maxRecDepth 8000
namespace Go.Proofs.Ytagcifbfokneoaa.Den
open Go Go.Joins Go.RowKit Go.ChangeShapes Go.WideShapes Go.ChangeAt Go.Deep
theorem und46 : Try.prog.underlying 46 = some (.struct (structOf 46)) := by kernel_rfl
section
variable {H : Type} {enc : TypeId × Value → H} {w : World} {base : Nat} {spare : Nat → Bool} {held : Bool}
theorem wf8 {i : Int} (h : (Lit.int .u8 i).wf = true) : ∃ n : Nat, i = n ∧ n < 256 := by
  have h2 : IntKind.u8.min ≤ i ∧ i ≤ IntKind.u8.max := by simpa [Lit.wf] using h
  have e1 : IntKind.u8.min = 0 := by decide
  have e2 : IntKind.u8.max = 255 := by decide
  rw [e1, e2] at h2
  exact ⟨i.toNat, by omega, by omega⟩
theorem act_open {fuel : Nat} {cs : List Value} {x : DataW H × List MemPlace} (h : DataW.trod enc Try.prog w base spare held fuel 46 cs = some x) (hl : cs.length = 4) :
    ∃ (d : Nat) (t p : Int) (s : Value) (xs : List (Int × Int)), cs = [.int .u8 (d : Int), I t, I p, s] ∧ d < 256 ∧ TR cE w [] s xs ∧ xs.length < 2 ^ 63 := by
  have hc := struct_cells und46 (by kernel_rfl) (hl.trans (by kernel_rfl)) h
  match cs, hl with
  | [v0, v1, v2, v3], _ =>
    obtain ⟨f0, g0, e0⟩ := field_of (t := 46) (j := 0) (ft := 5) (by kernel_rfl)
    obtain ⟨_, _, _, c0, t0⟩ := hc 0 f0 g0
    rw [e0] at t0
    obtain ⟨f1, g1, e1⟩ := field_of (t := 46) (j := 1) (ft := 3) (by kernel_rfl)
    obtain ⟨_, _, _, c1, t1⟩ := hc 1 f1 g1
    rw [e1] at t1
    obtain ⟨f2, g2, e2⟩ := field_of (t := 46) (j := 2) (ft := 3) (by kernel_rfl)
    obtain ⟨_, _, _, c2, t2⟩ := hc 2 f2 g2
    rw [e2] at t2
    obtain ⟨f3, g3, e3⟩ := field_of (t := 46) (j := 3) (ft := 23) (by kernel_rfl)
    obtain ⟨_, _, _, c3, t3⟩ := hc 3 f3 g3
    rw [e3] at t3
    simp at c0 c1 c2 c3
    subst c0 c1 c2 c3
    obtain ⟨a, rfl, ha⟩ := int_cell und5 t0
    obtain ⟨b, rfl, _⟩ := int_cell und3 t1
    obtain ⟨c, rfl, _⟩ := int_cell und3 t2
    obtain ⟨s, xs, h1, h2, h3⟩ := edges_open t3
    injection h1 with h1 _
    subst h1
    obtain ⟨d, rfl, hd⟩ := wf8 ha
    exact ⟨d, b, c, _, xs, rfl, hd, h2, h3⟩
end
end Go.Proofs.Ytagcifbfokneoaa.Den
