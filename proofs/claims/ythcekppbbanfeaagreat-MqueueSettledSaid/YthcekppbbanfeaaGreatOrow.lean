/- Arguments of rows, read as typed lists. Conditions: none. -/
import Derived.Test.YthcekppbbanfeaaGreatRow
import Derived.Test.YthcekppbbanfeaaGreatOt
import Derived.Lib.SmallJoins
set_option linter.unusedVariables false
set_option linter.unusedSimpArgs false
set_option maxRecDepth 8000
namespace Go.Proofs.YthcekppbbanfeaaGreat.Den
open Go Go.Joins Go.RowKit Go.ChangeShapes Go.WideShapes Go.ChangeAt Go.Deep
noncomputable def structOf (t : TypeId) : Array Field := match Tryz.prog.underlying t with | some (.struct fs) => fs | _ => #[]
noncomputable def fieldT (t : TypeId) (j : Nat) : Option TypeId := ((structOf t)[j]?).map (·.type)
theorem field_of {t : TypeId} {j ft : Nat} (h : fieldT t j = some ft) : ∃ f : Field, (structOf t)[j]? = some f ∧ f.type = ft := by
  unfold fieldT at h
  cases hf : (structOf t)[j]? with
  | none => simp [hf] at h
  | some f => exact ⟨f, rfl, by simpa [hf] using h⟩
section
variable {H : Type} {enc : TypeId × Value → H} {P : Program} {w : World} {base : Nat} {spare : Nat → Bool} {held : Bool}
theorem slice_open {α : Type} {C : Cod α} {p : α → Prop} {t e : TypeId} {fuel : Nat} {cs : List Value} {x : DataW H × List MemPlace} (ht : P.underlying t = some (.slice e)) (hC : P.cellsOf e = C.sz)
    (hop : ∀ fuel cs x, DataW.trod enc P w base spare held fuel e cs = some x → cs.length = C.sz → ∃ a, cs = C.enc a ∧ p a) (h : DataW.trod enc P w base spare held fuel t cs = some x) :
    ∃ s xs, cs = [s] ∧ TR C w [] s xs ∧ (∀ a ∈ xs, p a) ∧ xs.length < 2 ^ 63 := by
  rcases open_slice ht h with ⟨h0, _⟩ | ⟨a, len, cap, m, n, D, Pl, hcs, hb, hl, hcap, hmm, hx, hi⟩
  · exact ⟨.slice none 0 0, [], h0, TR.nil, by simp, by simp⟩
  · have hel : ∀ i, i < len → ∃ x : α, p x ∧ ∀ j, j < C.sz → w.cell? (a.add (i * C.sz + j)) = (C.enc x)[j]? := by
      intro i hil
      obtain ⟨cs', hc, ht'⟩ := hi i (by rw [hmm]; split <;> omega)
      rw [hC] at hc
      obtain ⟨_, hcl, hat⟩ := World.cells?_some hc
      obtain ⟨x, rfl, hp⟩ := hop _ _ _ ht' hcl
      refine ⟨x, hp, fun j hj => ?_⟩
      rw [← Go.Deep.add_add]; exact hat j hj
    have hxs : ∃ xs : List α, xs.length = len ∧ ∀ (i : Nat) x, xs[i]? = some x → p x ∧ ∀ j, j < C.sz → w.cell? (a.add (i * C.sz + j)) = (C.enc x)[j]? := by
      clear hi hx hmm hl hcap hcs
      induction len with
      | zero => exact ⟨[], rfl, by simp⟩
      | succ len ih =>
        obtain ⟨xs, h1, h2⟩ := ih fun i hi => hel i (by omega)
        obtain ⟨x, hx⟩ := hel len (by omega)
        refine ⟨xs ++ [x], by simp [h1], fun i y hy => ?_⟩
        by_cases hi : i < xs.length
        · rw [List.getElem?_append_left hi] at hy; exact h2 i y hy
        · have hl := (List.getElem?_eq_some_iff.1 hy).1
          simp at hl
          obtain rfl : i = len := by omega
          rw [List.getElem?_append_right (by omega), h1, Nat.sub_self] at hy
          simp at hy; subst hy; exact hx
    obtain ⟨xs, h1, h2⟩ := hxs
    refine ⟨.slice (some a) len cap, xs, hcs, .inl (.inr ⟨a, cap, by rw [h1], by omega, ?_⟩), fun y hy => ?_, ?_⟩
    · refine (cellsAt_spec _ _ _).2 ⟨all_len, fun j hj => ?_⟩
      rw [Nat.zero_add]
      by_cases hz : C.sz = 0
      · rw [hz] at hj; omega
      · have hd : j / C.sz < xs.length := (Nat.div_lt_iff_lt_mul (by omega)).2 hj
        have e : j / C.sz * C.sz + j % C.sz = j := by rw [Nat.mul_comm]; exact Nat.div_add_mod _ _
        have hm : j % C.sz < C.sz := Nat.mod_lt _ (by omega)
        obtain ⟨y, hy⟩ : ∃ y, xs[j / C.sz]? = some y := ⟨_, List.getElem?_eq_getElem hd⟩
        have := (h2 _ y hy).2 _ hm
        rw [e] at this
        rw [this]
        have := all_get (C := C) hy hm
        rw [e] at this
        exact this.symm
    · obtain ⟨i, hi, e⟩ := List.getElem_of_mem hy
      exact (h2 i y (by rw [List.getElem?_eq_getElem hi, e])).1
    · have : maxLen < 2 ^ 63 := by decide
      omega
theorem struct_cells {t : TypeId} {fs : Array Field} {fuel : Nat} {cs : List Value} {x : DataW H × List MemPlace} (ht : P.underlying t = some (.struct fs)) (hone : oneCellFields P fs = true) (hl : cs.length = fs.size)
    (h : DataW.trod enc P w base spare held fuel t cs = some x) : ∀ (j : Nat) (f : Field), fs[j]? = some f → ∃ (v : Value) (n : Nat) (y : DataW H × List MemPlace), cs[j]? = some v ∧ DataW.trod enc P w base spare held n f.type [v] = some y := by
  obtain ⟨ys, n', hn', hy, hlen, hyl, hf⟩ := DataW.trod_struct ht h
  intro j f hj
  obtain ⟨ho, hk⟩ := hone_of hone j f hj
  have hjl : j < fs.size := (Array.getElem?_eq_some_iff.1 hj).1
  have h1 := hf j f hj
  rw [ho, hk] at h1
  have hone' : (cs.drop j).take 1 = [cs[j]'(by omega)] := by
    rw [List.drop_eq_getElem_cons (by omega)]
    rfl
  rw [hone'] at h1
  have hys : ys[j]? = some (ys[j]'(by omega)) := List.getElem?_eq_getElem (by omega)
  exact ⟨_, n', _, List.getElem?_eq_getElem (by omega), h1.trans hys⟩
end
end Go.Proofs.YthcekppbbanfeaaGreat.Den
