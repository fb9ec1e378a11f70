/- Links: slices of slices of bytes that came in. Conditions: none. -/
import Derived.Test.YtmnpndgmfmjfhaaLkRowC
import Derived.Test.YtmnpndgmfmjfhaaLkDl
set_option linter.unusedVariables false
set_option linter.unusedSimpArgs false
set_option maxRecDepth 8000
namespace Go.Proofs.Ytmnpndgmfmjfhaa.Den
open Go Go.Joins Go.RowKit Go.ChangeShapes Go.WideShapes Go.ChangeAt Go.Deep
theorem und36 : Try.prog.underlying 36 = some (.slice 24) := by kernel_rfl
section
variable {H : Type} {enc : TypeId × Value → H} {w : World} {base : Nat} {spare : Nat → Bool} {held : Bool}
theorem bss_open {fuel : Nat} {cs : List Value} {x : DataW H × List MemPlace} (h : DataW.trod enc Try.prog w base spare held fuel 36 cs = some x) :
    ∃ s xss sv, cs = [s] ∧ ArgS ⟨w, []⟩ s xss sv := by
  have hC : Try.prog.cellsOf 24 = 1 := by kernel_rfl
  rcases open_slice und36 h with ⟨h0, _⟩ | ⟨a, len, cap, m, n, D, Pl, hcs, hb, hl, hcap, hmm, hx, hi⟩
  · exact ⟨.slice none 0 0, [], [], h0, .inl ⟨0, rfl, by simp, rfl⟩, rfl, fun i ys s h => by simp at h⟩
  · have hel : ∀ i, i < len → ∃ (p : Value × List Int), w.cell? (a.add i) = some p.1 ∧ Rd w 1 p.1 p.2.length (bv p.2) := by
      intro i hil
      obtain ⟨cs', hc, ht'⟩ := hi i (by rw [hmm]; split <;> omega)
      rw [hC] at hc
      obtain ⟨_, hcl, hat⟩ := World.cells?_some hc
      obtain ⟨s, n', xs, hcs', hr, _, _, hl'⟩ := bytes_open ht'
      subst hcs'
      have := hat 0 (by omega)
      simp only [Nat.mul_one, List.getElem?_cons_zero] at this
      have h0 : ((a.add i).add 0) = a.add i := by simp [Addr.add]
      rw [h0] at this
      exact ⟨(s, xs), this, by rw [hl']; exact hr⟩
    let f : Nat → Value × List Int := fun i => if h : i < len then (hel i h).choose else (.bool true, [])
    have hf : ∀ i, i < len → w.cell? (a.add i) = some (f i).1 ∧ Rd w 1 (f i).1 (f i).2.length (bv (f i).2) := by
      intro i hi
      simp only [f, dif_pos hi]
      exact (hel i hi).choose_spec
    refine ⟨.slice (some a) len cap, (List.range len).map fun i => (f i).2, (List.range len).map fun i => (f i).1, hcs, ?_, by simp, ?_⟩
    · refine .inr ⟨a, cap, by simp, by simpa using hl, ?_⟩
      refine (cellsAt_spec _ _ _).2 ⟨by simp, fun j hj => ?_⟩
      simp only [List.length_map, List.length_range, Nat.mul_one] at hj
      rw [Nat.zero_add, (hf j hj).1]
      simp [hj]
    · intro i ys s hi hs
      simp only [List.getElem?_map] at hi hs
      by_cases hlt : i < len
      · rw [List.getElem?_range hlt] at hi hs
        simp only [Option.map_some, Option.some.injEq] at hi hs
        subst hi; subst hs
        exact (hf i hlt).2
      · rw [List.getElem?_eq_none (by simp; omega)] at hi
        cases hi
theorem bss_arg {b0 : Nat} {v : Value} {d : DataW H} {p : List MemPlace} (hv : Value.okWide Try.prog w .any b0 36 v) (h : DataW.Trod enc Try.prog w base spare held 36 v d p) :
    ∃ xss sv, ArgS ⟨w, []⟩ v xss sv := by
  obtain ⟨a, l, c, rfl⟩ := okWide_slice und36 hv
  obtain ⟨fuel, hf⟩ := h
  obtain ⟨s, xss, sv, hs, hr⟩ := bss_open hf
  simp [Value.cells] at hs
  rw [← hs] at hr
  exact ⟨xss, sv, hr⟩
end
end Go.Proofs.Ytmnpndgmfmjfhaa.Den
