/- The calls' list, as the row's argument gives it. Conditions: none. -/
import Derived.Test.YticnobfmpogcoaaRdX1
import Derived.Test.YticnobfmpogcoaaRow
set_option linter.unusedVariables false
set_option linter.unusedSimpArgs false
set_option maxRecDepth 8000
namespace Go.Proofs.Yticnobfmpogcoaa.Den
open Go Go.RowKit Go.ChangeShapes Go.WideShapes Go.ChangeAt Go.Deep
noncomputable def structOf (t : TypeId) : Array Field := match Try.prog.underlying t with | some (.struct fs) => fs | _ => #[]
noncomputable def fieldT (t : TypeId) (j : Nat) : Option TypeId := ((structOf t)[j]?).map (·.type)
theorem field_of {t : TypeId} {j ft : Nat} (h : fieldT t j = some ft) : ∃ f : Field, (structOf t)[j]? = some f ∧ f.type = ft := by
  unfold fieldT at h
  cases hf : (structOf t)[j]? with
  | none => simp [hf] at h
  | some f => exact ⟨f, rfl, by simpa [hf] using h⟩
theorem und22 : Try.prog.underlying 22 = some (.slice 27) := by kernel_rfl
theorem und27 : Try.prog.underlying 27 = some (.struct (structOf 27)) := by kernel_rfl
theorem und5 : Try.prog.underlying 5 = some (.int .u8) := by kernel_rfl
theorem und3 : Try.prog.underlying 3 = some (.int .i64) := by kernel_rfl
theorem und4 : Try.prog.underlying 4 = some .bool := by kernel_rfl
theorem acts_open {H : Type} {enc : TypeId × Value → H} {w : World} {b0 : Nat} {v : Value} {d : DataW H} {p : List MemPlace} (hv : Value.okWide Try.prog w .any b0 22 v) (h : DataW.Trod enc Try.prog w 0 (fun _ => true) true 22 v d p) :
    ∃ xs, Acts w v xs := by
  obtain ⟨a0, len0, cap0, rfl⟩ := okWide_slice und22 hv
  obtain ⟨fuel, hf⟩ := h
  have hC6 : Try.prog.cellsOf 27 = (structOf 27).size := by kernel_rfl
  have hS6 : (structOf 27).size = 6 := by kernel_rfl
  rcases open_slice_fields und22 und27 (by kernel_rfl) hC6 hf with ⟨h1, _⟩ | ⟨a, len, cap, m, D, Pl, h1, _, hle, _, hm, _, hi⟩
  · simp only [Value.cells, List.cons.injEq, and_true] at h1
    exact ⟨[], .inl ⟨h1, rfl⟩⟩
  · simp only [Value.cells, List.cons.injEq, and_true] at h1
    have hcell : ∀ i, i < len → ∃ x : ActR, ∀ j, j < 6 → w.cell? (a.add (i * 6 + j)) = x.cells[j]? := by
      intro i hil
      obtain ⟨ys, n, _, _, _, hf⟩ := hi i (by rw [hm]; split <;> omega)
      rw [hS6] at hf
      obtain ⟨f0, g0, e0⟩ := field_of (t := 27) (j := 0) (ft := 5) (by kernel_rfl)
      obtain ⟨v0, y0, c0, _, t0⟩ := hf 0 f0 g0
      rw [e0] at t0
      obtain ⟨f1, g1, e1⟩ := field_of (t := 27) (j := 1) (ft := 3) (by kernel_rfl)
      obtain ⟨v1, y1, c1, _, t1⟩ := hf 1 f1 g1
      rw [e1] at t1
      obtain ⟨f2, g2, e2⟩ := field_of (t := 27) (j := 2) (ft := 3) (by kernel_rfl)
      obtain ⟨v2, y2, c2, _, t2⟩ := hf 2 f2 g2
      rw [e2] at t2
      obtain ⟨f3, g3, e3⟩ := field_of (t := 27) (j := 3) (ft := 3) (by kernel_rfl)
      obtain ⟨v3, y3, c3, _, t3⟩ := hf 3 f3 g3
      rw [e3] at t3
      obtain ⟨f4, g4, e4⟩ := field_of (t := 27) (j := 4) (ft := 3) (by kernel_rfl)
      obtain ⟨v4, y4, c4, _, t4⟩ := hf 4 f4 g4
      rw [e4] at t4
      obtain ⟨f5, g5, e5⟩ := field_of (t := 27) (j := 5) (ft := 4) (by kernel_rfl)
      obtain ⟨v5, y5, c5, _, t5⟩ := hf 5 f5 g5
      rw [e5] at t5
      obtain ⟨i0, rfl, _⟩ := int_cell und5 t0
      obtain ⟨i1, rfl, _⟩ := int_cell und3 t1
      obtain ⟨i2, rfl, _⟩ := int_cell und3 t2
      obtain ⟨i3, rfl, _⟩ := int_cell und3 t3
      obtain ⟨i4, rfl, _⟩ := int_cell und3 t4
      obtain ⟨i5, rfl⟩ := bool_cell und4 t5
      refine ⟨⟨i0, i1, i2, i3, i4, i5⟩, fun j hj => ?_⟩
      have : j = 0 ∨ j = 1 ∨ j = 2 ∨ j = 3 ∨ j = 4 ∨ j = 5 := by omega
      rcases this with rfl | rfl | rfl | rfl | rfl | rfl
      · exact c0
      · exact c1
      · exact c2
      · exact c3
      · exact c4
      · exact c5
    refine ⟨(List.range len).map fun i => if h : i < len then (hcell i h).choose else ⟨0, 0, 0, 0, 0, false⟩, .inr ⟨a, cap, by simpa using h1, fun i x hx j hj => ?_⟩⟩
    have hil : i < len := by have := (List.getElem?_eq_some_iff.1 hx).1; simpa using this
    rw [List.getElem?_map, List.getElem?_range hil] at hx
    simp only [Option.map_some, hil, dif_pos, Option.some.injEq] at hx
    subst hx
    exact (hcell i hil).choose_spec j hj
end Go.Proofs.Yticnobfmpogcoaa.Den
