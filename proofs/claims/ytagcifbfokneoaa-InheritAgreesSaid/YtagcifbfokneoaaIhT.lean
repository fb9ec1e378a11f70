/- Inherit: what the rows' arguments read as. Conditions: none. -/
import Derived.Test.YtagcifbfokneoaaIhA
import Derived.Test.YtagcifbfokneoaaOrow
set_option linter.unusedVariables false
set_option linter.unusedSimpArgs false
set_option maxRecDepth 8000
namespace Go.Proofs.Ytagcifbfokneoaa.Den
open Go Go.Joins Go.RowKit Go.ChangeShapes Go.WideShapes Go.ChangeAt Go.Deep
theorem und3 : Try.prog.underlying 3 = some (.int .i64) := by kernel_rfl
theorem und4 : Try.prog.underlying 4 = some .bool := by kernel_rfl
theorem und5 : Try.prog.underlying 5 = some (.int .u8) := by kernel_rfl
theorem und22 : Try.prog.underlying 22 = some (.slice 3) := by kernel_rfl
theorem und23 : Try.prog.underlying 23 = some (.slice 39) := by kernel_rfl
theorem und25 : Try.prog.underlying 25 = some (.struct (structOf 25)) := by kernel_rfl
theorem und39 : Try.prog.underlying 39 = some (.struct (structOf 39)) := by kernel_rfl
section
variable {H : Type} {enc : TypeId × Value → H} {w : World} {base : Nat} {spare : Nat → Bool} {held : Bool}
theorem ints_open {fuel : Nat} {cs : List Value} {x : DataW H × List MemPlace} (h : DataW.trod enc Try.prog w base spare held fuel 22 cs = some x) :
    ∃ s xs, cs = [s] ∧ TR cI w [] s xs ∧ xs.length < 2 ^ 63 := by
  obtain ⟨s, xs, h1, h2, _, h3⟩ := slice_open (C := cI) (p := fun _ => True) und22 (by kernel_rfl) (fun fuel cs x h hl => by
    match cs, hl with
    | [v], _ => obtain ⟨i, rfl, _⟩ := int_cell und3 h; exact ⟨i, rfl, trivial⟩) h
  exact ⟨s, xs, h1, h2, h3⟩
theorem edge_open {fuel : Nat} {cs : List Value} {x : DataW H × List MemPlace} (h : DataW.trod enc Try.prog w base spare held fuel 39 cs = some x) (hl : cs.length = 2) : ∃ a b : Int, cs = [I a, I b] := by
  have hc := struct_cells und39 (by kernel_rfl) (hl.trans (by kernel_rfl)) h
  match cs, hl with
  | [v0, v1], _ =>
    obtain ⟨f0, g0, e0⟩ := field_of (t := 39) (j := 0) (ft := 3) (by kernel_rfl)
    obtain ⟨_, _, _, c0, t0⟩ := hc 0 f0 g0
    rw [e0] at t0
    obtain ⟨f1, g1, e1⟩ := field_of (t := 39) (j := 1) (ft := 3) (by kernel_rfl)
    obtain ⟨_, _, _, c1, t1⟩ := hc 1 f1 g1
    rw [e1] at t1
    simp at c0 c1
    subst c0 c1
    obtain ⟨a, rfl, _⟩ := int_cell und3 t0
    obtain ⟨b, rfl, _⟩ := int_cell und3 t1
    exact ⟨a, b, rfl⟩
theorem edges_open {fuel : Nat} {cs : List Value} {x : DataW H × List MemPlace} (h : DataW.trod enc Try.prog w base spare held fuel 23 cs = some x) :
    ∃ s xs, cs = [s] ∧ TR cE w [] s xs ∧ xs.length < 2 ^ 63 := by
  obtain ⟨s, xs, h1, h2, _, h3⟩ := slice_open (C := cE) (p := fun _ => True) und23 (by kernel_rfl) (fun fuel cs x h hl => by
    obtain ⟨a, b, rfl⟩ := edge_open h hl
    exact ⟨(a, b), rfl, trivial⟩) h
  exact ⟨s, xs, h1, h2, h3⟩
theorem graph_open {b0 : Nat} {v : Value} {d : DataW H} {p : List MemPlace} (hv : Value.okWide Try.prog w .any b0 25 v) (h : DataW.Trod enc Try.prog w base spare held 25 v d p) :
    ∃ sb se base es, v = .agg ⟨[sb, se]⟩ ∧ TR cI w [] sb base ∧ TR cE w [] se es := by
  obtain ⟨cs, rfl, hsz⟩ := okWide_struct und25 hv
  obtain ⟨l⟩ := cs
  obtain ⟨fuel, hf⟩ := h
  have hl : l.length = 2 := hsz.trans (by kernel_rfl)
  have hc := struct_cells und25 (by kernel_rfl) (hl.trans (by kernel_rfl)) hf
  match l, hl with
  | [v0, v1], _ =>
    obtain ⟨f0, g0, e0⟩ := field_of (t := 25) (j := 0) (ft := 22) (by kernel_rfl)
    obtain ⟨_, _, _, c0, t0⟩ := hc 0 f0 g0
    rw [e0] at t0
    obtain ⟨f1, g1, e1⟩ := field_of (t := 25) (j := 1) (ft := 23) (by kernel_rfl)
    obtain ⟨_, _, _, c1, t1⟩ := hc 1 f1 g1
    rw [e1] at t1
    simp [Value.cells] at c0 c1
    subst c0 c1
    obtain ⟨sb, xs, h1, h2, _⟩ := ints_open t0
    obtain ⟨se, ys, h3, h4, _⟩ := edges_open t1
    injection h1 with h1 _
    injection h3 with h3 _
    subst h1 h3
    exact ⟨_, _, xs, ys, rfl, h2, h4⟩
theorem int_open {v : Value} {d : DataW H} {p : List MemPlace} {b0 : Nat} (hv : Value.okWide Try.prog w .any b0 3 v) (h : DataW.Trod enc Try.prog w base spare held 3 v d p) : ∃ i, v = I i := by
  obtain ⟨fuel, hf⟩ := h
  obtain ⟨i, h1, _, _⟩ := DataW.trod_int und3 hf
  cases v <;> simp [Value.cells] at h1
  · rename_i k n
    obtain ⟨rfl, rfl⟩ := h1; exact ⟨_, rfl⟩
  · simp only [Value.okWide, und3] at hv
    simp_all [Cell.okWide, Cell.ok]
end
end Go.Proofs.Ytagcifbfokneoaa.Den
