/- Links: what the rows' arguments read as. Conditions: none. -/
import Derived.Test.YtmnpndgmfmjfhaaLkU
import Derived.Test.YtmnpndgmfmjfhaaRow
import Derived.Lib.SmallJoins
set_option linter.unusedVariables false
set_option linter.unusedSimpArgs false
set_option maxRecDepth 8000
namespace Go.Proofs.Ytmnpndgmfmjfhaa.Den
open Go Go.Joins Go.RowKit Go.ChangeShapes Go.WideShapes Go.ChangeAt Go.Deep
noncomputable def structOf (t : TypeId) : Array Field := match Try.prog.underlying t with | some (.struct fs) => fs | _ => #[]
noncomputable def fieldT (t : TypeId) (j : Nat) : Option TypeId := ((structOf t)[j]?).map (·.type)
theorem und2 : Try.prog.underlying 2 = some (.int .i64) := by kernel_rfl
theorem und3 : Try.prog.underlying 3 = some (.int .i64) := by kernel_rfl
theorem und4 : Try.prog.underlying 4 = some .bool := by kernel_rfl
theorem und5 : Try.prog.underlying 5 = some (.int .u8) := by kernel_rfl
theorem und24 : Try.prog.underlying 24 = some (.slice 5) := by kernel_rfl
def ByteL (xs : List Int) : Prop := ∀ x ∈ xs, 0 ≤ x ∧ x < 256
section
variable {H : Type} {enc : TypeId × Value → H} {w : World} {base : Nat} {spare : Nat → Bool} {held : Bool}
/-- A slice of bytes that came in. -/
theorem bytes_open {fuel : Nat} {cs : List Value} {x : DataW H × List MemPlace} (h : DataW.trod enc Try.prog w base spare held fuel 24 cs = some x) :
    ∃ s n xs, cs = [s] ∧ Rd w 1 s n (bv xs) ∧ ByteL xs ∧ n < 2 ^ 63 ∧ xs.length = n := by
  have hC : Try.prog.cellsOf 5 = 1 := by kernel_rfl
  rcases open_slice und24 h with ⟨h0, _⟩ | ⟨a, len, cap, m, n, D, Pl, hcs, hb, hl, hcap, hmm, hx, hi⟩
  · exact ⟨.slice none 0 0, 0, [], h0, .inl ⟨0, rfl, by simp, rfl⟩, fun x hx => by simp at hx, by decide, rfl⟩
  · have hel : ∀ i, i < len → ∃ x : Int, w.cell? (a.add i) = some (U8 x) ∧ 0 ≤ x ∧ x < 256 := by
      intro i hil
      obtain ⟨cs', hc, ht'⟩ := hi i (by rw [hmm]; split <;> omega)
      rw [hC] at hc
      obtain ⟨_, hcl, hat⟩ := World.cells?_some hc
      obtain ⟨v, rfl⟩ : ∃ v, cs' = [v] := by
        cases cs' with
        | nil => simp at hcl
        | cons v r => cases r with
          | nil => exact ⟨v, rfl⟩
          | cons _ _ => simp at hcl
      obtain ⟨j, rfl, hw⟩ := int_cell und5 ht'
      have := hat 0 (by omega)
      simp only [Nat.mul_one, List.getElem?_cons_zero] at this
      have h0 : ((a.add i).add 0) = a.add i := by simp [Addr.add]
      rw [h0] at this
      exact ⟨j, this, u8_wf hw⟩
    refine ⟨.slice (some a) len cap, len, (List.range len).map fun i => if h : i < len then (hel i h).choose else 0, hcs, .inr ⟨a, cap, rfl, hl, ?_⟩, ?_, ?_, by simp⟩
    · refine (cellsAt_spec _ _ _).2 ⟨by simp [bv], fun j hj => ?_⟩
      rw [Nat.mul_one] at hj
      rw [Nat.zero_add, (hel j hj).choose_spec.1]
      simp [bv, hj]
    · intro x hx
      simp only [List.mem_map, List.mem_range] at hx
      obtain ⟨i, hi, rfl⟩ := hx
      rw [dif_pos hi]
      exact (hel i hi).choose_spec.2
    · have : maxLen < 2 ^ 63 := by decide
      omega
theorem open_agg5 {r : Reach} {b0 : Nat} {t : TypeId} {f0 f1 f2 f3 f4 : Field} {v : Value} {d : DataW H} {p : List MemPlace} {P : Program} (hs : P.underlying t = some (.struct #[f0, f1, f2, f3, f4])) (hone : oneCellFields P #[f0, f1, f2, f3, f4] = true) (hC : P.cellsOf t = 5)
    (hv : Value.okWide P w r b0 t v) (h : DataW.Trod enc P w base spare held t v d p) :
    ∃ (v0 v1 v2 v3 v4 : Value) (y0 y1 y2 y3 y4 : DataW H × List MemPlace) (n : Nat), v = .agg #[v0, v1, v2, v3, v4] ∧
      DataW.trod enc P w base spare held n f0.type [v0] = some y0 ∧ DataW.trod enc P w base spare held n f1.type [v1] = some y1 ∧ DataW.trod enc P w base spare held n f2.type [v2] = some y2 ∧ DataW.trod enc P w base spare held n f3.type [v3] = some y3 ∧ DataW.trod enc P w base spare held n f4.type [v4] = some y4 := by
  obtain ⟨cs, rfl, hsz⟩ := okWide_struct hs hv
  obtain ⟨l⟩ := cs
  match l, hsz.trans hC with
  | [c0, c1, c2, c3, c4], _ =>
    obtain ⟨fuel, hf⟩ := h
    obtain ⟨xs, n, _, hx, _, hlen, hg⟩ := DataW.trod_struct hs hf
    obtain ⟨o0, k0⟩ := hone_of hone 0 f0 rfl
    obtain ⟨o1, k1⟩ := hone_of hone 1 f1 rfl
    obtain ⟨o2, k2⟩ := hone_of hone 2 f2 rfl
    obtain ⟨o3, k3⟩ := hone_of hone 3 f3 rfl
    obtain ⟨o4, k4⟩ := hone_of hone 4 f4 rfl
    match xs, hlen with
    | [y0, y1, y2, y3, y4], _ =>
      exact ⟨c0, c1, c2, c3, c4, y0, y1, y2, y3, y4, n, rfl, by simpa [Value.cells, o0, k0] using hg 0 f0 rfl, by simpa [Value.cells, o1, k1] using hg 1 f1 rfl, by simpa [Value.cells, o2, k2] using hg 2 f2 rfl, by simpa [Value.cells, o3, k3] using hg 3 f3 rfl, by simpa [Value.cells, o4, k4] using hg 4 f4 rfl⟩
theorem fields5 {fs : Array Field} (h : fs.size = 5) : ∃ f0 f1 f2 f3 f4, fs = #[f0, f1, f2, f3, f4] := by
  obtain ⟨l⟩ := fs
  match l, h with
  | [a, b, c, d, e], _ => exact ⟨a, b, c, d, e, rfl⟩
/-- A call's argument: Op. -/
theorem op_open {b0 : Nat} {v : Value} {d : DataW H} {p : List MemPlace} (hv : Value.okWide Try.prog w .any b0 65 v) (h : DataW.Trod enc Try.prog w base spare held 65 v d p) :
    ∃ k x fl s now n xs, v = .agg ⟨[I k, I x, .bool fl, s, I now]⟩ ∧ Rd w 1 s n (bv xs) ∧ ByteL xs ∧ n < 2 ^ 63 ∧ xs.length = n := by
  have hone : oneCellFields Try.prog (structOf 65) = true := by kernel_rfl
  have hS : (structOf 65).size = 5 := by kernel_rfl
  have hU : Try.prog.underlying 65 = some (.struct (structOf 65)) := by kernel_rfl
  have hF : ∀ j, fieldT 65 j = ((structOf 65)[j]?).map (·.type) := fun j => rfl
  have g0 : fieldT 65 0 = some 3 := by kernel_rfl
  have g1 : fieldT 65 1 = some 3 := by kernel_rfl
  have g2 : fieldT 65 2 = some 4 := by kernel_rfl
  have g3 : fieldT 65 3 = some 24 := by kernel_rfl
  have g4 : fieldT 65 4 = some 2 := by kernel_rfl
  rw [hF] at g0 g1 g2 g3 g4
  generalize structOf 65 = fs at hone hS hU g0 g1 g2 g3 g4
  obtain ⟨f0, f1, f2, f3, f4, rfl⟩ := fields5 hS
  simp at g0 g1 g2 g3 g4
  obtain ⟨v0, v1, v2, v3, v4, y0, y1, y2, y3, y4, n, rfl, t0, t1, t2, t3, t4⟩ := open_agg5 hU hone (by kernel_rfl) hv h
  rw [g0] at t0; rw [g1] at t1; rw [g2] at t2; rw [g3] at t3; rw [g4] at t4
  obtain ⟨i0, rfl, _⟩ := int_cell und3 t0
  obtain ⟨i1, rfl, _⟩ := int_cell und3 t1
  obtain ⟨i2, rfl⟩ := bool_cell und4 t2
  obtain ⟨s, m, xs, hs, hr⟩ := bytes_open t3
  injection hs with hs _; subst hs
  obtain ⟨i4, rfl, _⟩ := int_cell und2 t4
  exact ⟨i0, i1, i2, _, i4, m, xs, rfl, hr⟩
/-- A frame that came in. -/
theorem frame_open {b0 : Nat} {v : Value} {d : DataW H} {p : List MemPlace} (hv : Value.okWide Try.prog w .any b0 48 v) (h : DataW.Trod enc Try.prog w base spare held 48 v d p) :
    ∃ k last m f s n xs, v = .agg ⟨frm k last m f s⟩ ∧ Rd w 1 s n (bv xs) ∧ ByteL xs ∧ n < 2 ^ 63 ∧ xs.length = n ∧ m ≤ 9223372036854775807 := by
  have hone : oneCellFields Try.prog (structOf 48) = true := by kernel_rfl
  have hS : (structOf 48).size = 5 := by kernel_rfl
  have hU : Try.prog.underlying 48 = some (.struct (structOf 48)) := by kernel_rfl
  have hF : ∀ j, fieldT 48 j = ((structOf 48)[j]?).map (·.type) := fun j => rfl
  have g0 : fieldT 48 0 = some 3 := by kernel_rfl
  have g1 : fieldT 48 1 = some 4 := by kernel_rfl
  have g2 : fieldT 48 2 = some 2 := by kernel_rfl
  have g3 : fieldT 48 3 = some 3 := by kernel_rfl
  have g4 : fieldT 48 4 = some 24 := by kernel_rfl
  rw [hF] at g0 g1 g2 g3 g4
  generalize structOf 48 = fs at hone hS hU g0 g1 g2 g3 g4
  obtain ⟨f0, f1, f2, f3, f4, rfl⟩ := fields5 hS
  simp at g0 g1 g2 g3 g4
  obtain ⟨v0, v1, v2, v3, v4, y0, y1, y2, y3, y4, n, rfl, t0, t1, t2, t3, t4⟩ := open_agg5 hU hone (by kernel_rfl) hv h
  rw [g0] at t0; rw [g1] at t1; rw [g2] at t2; rw [g3] at t3; rw [g4] at t4
  obtain ⟨i0, rfl, _⟩ := int_cell und3 t0
  obtain ⟨i1, rfl⟩ := bool_cell und4 t1
  obtain ⟨i2, rfl, w2⟩ := int_cell und2 t2
  obtain ⟨i3, rfl, _⟩ := int_cell und3 t3
  obtain ⟨s, m, xs, hs, hr, hb, hn, hl⟩ := bytes_open t4
  injection hs with hs _; subst hs
  exact ⟨i0, i1, i2, i3, _, m, xs, rfl, hr, hb, hn, hl, (i64_wf w2).2⟩
end
end Go.Proofs.Ytmnpndgmfmjfhaa.Den
