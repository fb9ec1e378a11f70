/- Links: more of what the rows' arguments read as. Conditions: none. -/
import Derived.Test.YtmnpndgmfmjfhaaLkRow
set_option linter.unusedVariables false
set_option linter.unusedSimpArgs false
set_option maxRecDepth 8000
namespace Go.Proofs.Ytmnpndgmfmjfhaa.Den
open Go Go.Joins Go.RowKit Go.ChangeShapes Go.WideShapes Go.ChangeAt Go.Deep
section
variable {H : Type} {enc : TypeId × Value → H} {w : World} {base : Nat} {spare : Nat → Bool} {held : Bool}
theorem bytes_arg {b0 : Nat} {v : Value} {d : DataW H} {p : List MemPlace} (hv : Value.okWide Try.prog w .any b0 24 v) (h : DataW.Trod enc Try.prog w base spare held 24 v d p) :
    ∃ n xs, Rd w 1 v n (bv xs) ∧ ByteL xs ∧ n < 2 ^ 63 ∧ xs.length = n := by
  obtain ⟨a, l, c, rfl⟩ := okWide_slice und24 hv
  obtain ⟨fuel, hf⟩ := h
  obtain ⟨s, n, xs, hs, hr, hb, hn, hl⟩ := bytes_open hf
  simp [Value.cells] at hs
  rw [← hs] at hr
  exact ⟨n, xs, hr, hb, hn, hl⟩
theorem open_agg4 {r : Reach} {b0 : Nat} {t : TypeId} {f0 f1 f2 f3 : Field} {v : Value} {d : DataW H} {p : List MemPlace} {P : Program} (hs : P.underlying t = some (.struct #[f0, f1, f2, f3])) (hone : oneCellFields P #[f0, f1, f2, f3] = true) (hC : P.cellsOf t = 4)
    (hv : Value.okWide P w r b0 t v) (h : DataW.Trod enc P w base spare held t v d p) :
    ∃ (v0 v1 v2 v3 : Value) (y0 y1 y2 y3 : DataW H × List MemPlace) (n : Nat), v = .agg #[v0, v1, v2, v3] ∧
      DataW.trod enc P w base spare held n f0.type [v0] = some y0 ∧ DataW.trod enc P w base spare held n f1.type [v1] = some y1 ∧ DataW.trod enc P w base spare held n f2.type [v2] = some y2 ∧ DataW.trod enc P w base spare held n f3.type [v3] = some y3 := by
  obtain ⟨cs, rfl, hsz⟩ := okWide_struct hs hv
  obtain ⟨l⟩ := cs
  match l, hsz.trans hC with
  | [c0, c1, c2, c3], _ =>
    obtain ⟨fuel, hf⟩ := h
    obtain ⟨xs, n, _, hx, _, hlen, hg⟩ := DataW.trod_struct hs hf
    obtain ⟨o0, k0⟩ := hone_of hone 0 f0 rfl
    obtain ⟨o1, k1⟩ := hone_of hone 1 f1 rfl
    obtain ⟨o2, k2⟩ := hone_of hone 2 f2 rfl
    obtain ⟨o3, k3⟩ := hone_of hone 3 f3 rfl
    match xs, hlen with
    | [y0, y1, y2, y3], _ =>
      exact ⟨c0, c1, c2, c3, y0, y1, y2, y3, n, rfl, by simpa [Value.cells, o0, k0] using hg 0 f0 rfl, by simpa [Value.cells, o1, k1] using hg 1 f1 rfl, by simpa [Value.cells, o2, k2] using hg 2 f2 rfl, by simpa [Value.cells, o3, k3] using hg 3 f3 rfl⟩
theorem fields4 {fs : Array Field} (h : fs.size = 4) : ∃ f0 f1 f2 f3, fs = #[f0, f1, f2, f3] := by
  obtain ⟨l⟩ := fs
  match l, h with
  | [a, b, c, d], _ => exact ⟨a, b, c, d, rfl⟩
/-- A configuration that came in. -/
theorem conf_open {b0 : Nat} {v : Value} {d : DataW H} {p : List MemPlace} (hv : Value.okWide Try.prog w .any b0 23 v) (h : DataW.Trod enc Try.prog w base spare held 23 v d p) :
    ∃ a b c e, v = .agg ⟨[I a, I b, I c, I e]⟩ := by
  have hone : oneCellFields Try.prog (structOf 23) = true := by kernel_rfl
  have hS : (structOf 23).size = 4 := by kernel_rfl
  have hU : Try.prog.underlying 23 = some (.struct (structOf 23)) := by kernel_rfl
  have hF : ∀ j, fieldT 23 j = ((structOf 23)[j]?).map (·.type) := fun j => rfl
  have g0 : fieldT 23 0 = some 3 := by kernel_rfl
  have g1 : fieldT 23 1 = some 3 := by kernel_rfl
  have g2 : fieldT 23 2 = some 3 := by kernel_rfl
  have g3 : fieldT 23 3 = some 2 := by kernel_rfl
  rw [hF] at g0 g1 g2 g3
  generalize structOf 23 = fs at hone hS hU g0 g1 g2 g3
  obtain ⟨f0, f1, f2, f3, rfl⟩ := fields4 hS
  simp at g0 g1 g2 g3
  obtain ⟨v0, v1, v2, v3, y0, y1, y2, y3, n, rfl, t0, t1, t2, t3⟩ := open_agg4 hU hone (by kernel_rfl) hv h
  rw [g0] at t0; rw [g1] at t1; rw [g2] at t2; rw [g3] at t3
  obtain ⟨i0, rfl, _⟩ := int_cell und3 t0
  obtain ⟨i1, rfl, _⟩ := int_cell und3 t1
  obtain ⟨i2, rfl, _⟩ := int_cell und3 t2
  obtain ⟨i3, rfl, _⟩ := int_cell und2 t3
  exact ⟨i0, i1, i2, i3, rfl⟩
end
end Go.Proofs.Ytmnpndgmfmjfhaa.Den
