/- LinksDecode: the statement, proved. Conditions: none. -/
import Derived.Test.YtmnpndgmfmjfhaaLkX
set_option linter.unusedVariables false
set_option linter.unusedSimpArgs false
set_option maxRecDepth 8000
namespace Go.Proofs.Ytmnpndgmfmjfhaa
open Go Go.Joins Go.RowKit Go.ChangeShapes Go.WideShapes Go.ChangeAt Go.Deep Den
theorem und59 : Try.prog.underlying 59 = some (.array 2 3) := by kernel_rfl
section
variable {H : Type} {enc : TypeId × Value → H} {w : World} {base : Nat} {spare : Nat → Bool} {held : Bool}
theorem bytes_arg {b0 : Nat} {v : Value} {d : DataW H} {p : List MemPlace} (hv : Value.okWide Try.prog w .any b0 24 v) (h : DataW.Trod enc Try.prog w base spare held 24 v d p) :
    ∃ s n xs, v = s ∧ Rd w 1 s n (bv xs) ∧ ByteL xs ∧ n < 2 ^ 63 := by
  obtain ⟨a, l, c, rfl⟩ := okWide_slice und24 hv
  obtain ⟨fuel, hf⟩ := h
  obtain ⟨s, n, xs, hs, hr, hb, hn, _⟩ := bytes_open hf
  simp [Value.cells] at hs
  exact ⟨_, n, xs, hs, hr, hb, hn⟩
theorem okWide_array {P : Program} {r : Reach} {b0 n : Nat} {t e : TypeId} {v : Value} (ht : P.underlying t = some (.array n e)) (h : Value.okWide P w r b0 t v) : ∃ cs, v = .agg cs ∧ cs.size = P.cellsOf t := by
  simp only [Value.okWide, ht] at h
  obtain ⟨cs, h1, h2, _⟩ := h
  exact ⟨cs, h1, h2⟩
theorem pair_arg {b0 : Nat} {v : Value} {d : DataW H} {p : List MemPlace} (hv : Value.okWide Try.prog w .any b0 59 v) (h : DataW.Trod enc Try.prog w base spare held 59 v d p) :
    ∃ i0 i1, v = .agg ⟨[I i0, I i1]⟩ := by
  obtain ⟨cs, rfl, hsz⟩ := okWide_array und59 hv
  obtain ⟨cs⟩ := cs
  match cs, hsz.trans (show Try.prog.cellsOf 59 = 2 by kernel_rfl) with
  | [c0, c1], _ =>
    obtain ⟨fuel, hf⟩ := h
    obtain ⟨xs, m, _, _, _, hl, hel⟩ := DataW.trod_array und59 hf
    match xs, hl with
    | [y0, y1], _ =>
      have hC : Try.prog.cellsOf 3 = 1 := by kernel_rfl
      have t0 := hel 0 (by decide)
      have t1 := hel 1 (by decide)
      rw [hC] at t0 t1
      simp [Value.cells] at t0 t1
      obtain ⟨i0, rfl, _⟩ := int_cell und3 t0
      obtain ⟨i1, rfl, _⟩ := int_cell und3 t1
      exact ⟨i0, i1, rfl⟩
theorem dB_nonneg {xs : List Int} (h : ByteL xs) : 0 ≤ dB xs := by
  unfold dB
  rw [List.getD_eq_getElem?_getD]
  cases he : xs[1]? with
  | none => exact Int.le_refl _
  | some x => exact (h x (List.mem_of_getElem? he)).1
end
theorem linksDecode_own : ownKnob Try.prog.godebug = none := by kernel_rfl
set_option maxRecDepth 100000 in
theorem linksDecode_lifted (os : Os) (started : os.Started) (H : Type) (enc : TypeId × Value → H) :
    ReturnsInHanded {} Try.checked os 5 .any (Rows.linksDecodeSpec.pre6 enc Try.prog Try.f5 Rows.linksDecodeRow.domain false) (Rows.linksDecodeSpec.post enc Try.prog Try.f5 false true false false) := by
  refine returnsInHanded_of_change (C := Try.checked) linksDecode_own started (by kernel_rfl) Try.func5
    (ChangeSpec.witness6 (enc := enc) (C := Try.checked) false ⟨#[], #[.slice none 0 0, .agg #[.int .i64 0, .bool false, .int .i64 0, .int .i64 0, .slice none 0 0], .agg #[.int .i64 0, .int .i64 0]], []⟩ 8 (by kernel_rfl) (by kernel_rfl) (by kernel_rfl) (by kernel_rfl)) ?_
  intro W base args ds gs before hval0 hW hcnd _
  have hval : ∀ (j : Nat) t v, Try.f5.params[j]? = some t → args[j]? = some v → Value.okWide Try.prog W .any base t v := hval0
  have hW' := hW
  obtain ⟨p, q, hA0, hV, rfl, hfz, hnd⟩ := hW
  have hA : DataW.TrodAll enc Try.prog W 0 (fun _ => true) true Try.f5.params.toList args.toList ds p := hA0
  have hp : Try.f5.params = #[24, 48, 59] := by kernel_rfl
  rw [hp] at hA hval
  obtain ⟨v0, v1, v2, d0, d1, d2, p0, p1, p2, rfl, rfl, rfl, h0, h1, h2⟩ := trodAll_three hA
  obtain ⟨rfl, rfl⟩ := trodVars_none hV
  obtain ⟨k, last, m, f, s, n, xs, rfl, hr, _, _, _, hm⟩ := frame_open (hval 1 48 v1 rfl rfl) h1
  obtain ⟨s0, n0, ys, rfl, hr0, hb0, _⟩ := bytes_arg (hval 0 24 v0 rfl rfl) h0
  obtain ⟨i0, i1, rfl⟩ := pair_arg (hval 2 59 v2 rfl rfl) h2
  refine (LinksDecode_walk (w0 := ⟨W, []⟩) (F := []) (.inl hr0) (dB_nonneg hb0) (.inl hr) (Hp.refl W)).mono fun e W' ⟨he, hw⟩ => ?_
  subst he
  exact ⟨_, rfl, law_post (tb := 4) (by kernel_rfl) rfl (by kernel_rfl) und4 (by rw [hp]; intro t ht; simp at ht; rcases ht with rfl | rfl | rfl <;> exact ⟨by kernel_rfl, of_decide_eq_true (by kernel_rfl)⟩) rfl hW' hw.ext⟩
theorem linksDecode_holds : Rows.LinksDecodeSaid :=
  OpenClaim.holds_of_wide 5 Try.f5 rfl rfl rfl rfl rfl rfl rfl ⟨rfl, rfl, rfl, rfl, rfl⟩ rfl rfl rfl rfl rfl (by kernel_rfl) Try.func5 (by kernel_rfl)
    (of_decide_eq_true (by kernel_rfl)) (by unfold Func.isWrapper; first | (rw [if_pos (by decide +kernel)]; kernel_rfl) | (rw [if_neg (by decide +kernel)]; exact ⟨rfl, rfl⟩))
    (fun os started H enc _ => linksDecode_lifted os started H enc)
#print axioms linksDecode_holds
end Go.Proofs.Ytmnpndgmfmjfhaa
