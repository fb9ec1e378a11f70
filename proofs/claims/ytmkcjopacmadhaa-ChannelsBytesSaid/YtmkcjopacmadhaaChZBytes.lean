/- ChannelsBytes: what a client sends can be read whole, and what is written at offsets is its answer. Conditions: none. -/
import Derived.Test.YtmkcjopacmadhaaChRowB
set_option linter.unusedVariables false
set_option linter.unusedSimpArgs false
set_option maxRecDepth 8000
namespace Go.Proofs.Ytmkcjopacmadhaa
open Go Go.Joins Go.RowKit Go.ChangeShapes Go.WideShapes Go.ChangeAt Go.Deep Den
theorem channelsBytes_own : ownKnob Try.prog.godebug = none := by kernel_rfl
set_option maxRecDepth 100000 in
theorem channelsBytes_lifted (os : Os) (started : os.Started) (H : Type) (enc : TypeId × Value → H) :
    ReturnsInHanded {} Try.checked os 4 .any (Rows.channelsBytesSpec.pre6 enc Try.prog Try.f4 Rows.channelsBytesRow.domain false) (Rows.channelsBytesSpec.post enc Try.prog Try.f4 false true false false) := by
  refine returnsInHanded_of_change_sized (C := Try.checked) channelsBytes_own started (by kernel_rfl) Try.func4
    (ChangeSpec.witness6 (enc := enc) (C := Try.checked) false ⟨#[], #[.slice none 0 0, .int .u16 0, .slice none 0 0], []⟩ 8 (by kernel_rfl) (by kernel_rfl) (by kernel_rfl) (by kernel_rfl)) ?_
  intro W base args ds gs before hval0 hW hcnd hsz _
  have hval : ∀ (j : Nat) t v, Try.f4.params[j]? = some t → args[j]? = some v → Value.okWide Try.prog W .any base t v := hval0
  have hW' := hW
  obtain ⟨p, q, hA0, hV, rfl, hfz, hnd⟩ := hW
  have hA : DataW.TrodAll enc Try.prog W 0 (fun _ => true) true Try.f4.params.toList args.toList ds p := hA0
  have hp : Try.f4.params = #[22, 39, 40] := by kernel_rfl
  rw [hp] at hA hval
  obtain ⟨v0, v1, v2, d0, d1, d2, p0, p1, p2, rfl, rfl, rfl, h0, h1, h2⟩ := trodAll_three hA
  obtain ⟨rfl, rfl⟩ := trodVars_none hV
  obtain ⟨xs, hr, hx, _⟩ := bytes_arg (hval 0 22 v0 rfl rfl) h0
  obtain ⟨fuel1, hf1⟩ := h1
  have hv1 : ∃ i, v1 = .int .u16 i ∧ 0 ≤ i ∧ i ≤ 65535 := by
    have hc : v1.cells.toList = [v1] := by
      have := hval 1 39 v1 rfl rfl
      cases v1 <;> first | rfl | (simp only [Value.okWide, undU16] at this; simp_all [Cell.okWide, Cell.ok])
    rw [hc] at hf1
    obtain ⟨i, hi, hw⟩ := int_cell undU16 hf1
    exact ⟨i, hi, u16_wf hw⟩
  obtain ⟨room, rfl, hroom⟩ := hv1
  obtain ⟨a2, n2, c2, rfl⟩ := okWide_slice undOps (hval 2 40 v2 rfl rfl)
  obtain ⟨fuel2, hf2⟩ := h2
  rw [hp] at hsz
  obtain ⟨s, ops, q1, ho, hok⟩ := ops_fits hf2 (fits_each hsz (j := 2) rfl rfl)
  simp [Value.cells] at q1
  subst q1
  refine (bytes_law hr hroom ho (fun o h => (hok o h).1) (fun o h => (hok o h).2) (Hp.refl W)).mono fun e W' ⟨he, hw⟩ => ?_
  subst he
  exact ⟨_, rfl, law_post (tb := 4) (by kernel_rfl) rfl (by kernel_rfl) und4 (by rw [hp]; intro t ht; simp at ht; rcases ht with rfl | rfl | rfl <;> exact ⟨by kernel_rfl, of_decide_eq_true (by kernel_rfl)⟩) rfl hW' hw.ext⟩
theorem channelsBytes_holds : Rows.ChannelsBytesSaid :=
  OpenClaim.holds_of_wide 4 Try.f4 rfl rfl rfl rfl rfl rfl rfl ⟨rfl, rfl, rfl, rfl, rfl⟩ rfl rfl rfl rfl rfl (by kernel_rfl) Try.func4 (by kernel_rfl)
    (of_decide_eq_true (by kernel_rfl)) (by unfold Func.isWrapper; first | (rw [if_pos (by decide +kernel)]; kernel_rfl) | (rw [if_neg (by decide +kernel)]; exact ⟨rfl, rfl⟩))
    (fun os started H enc _ => channelsBytes_lifted os started H enc)
#print axioms channelsBytes_holds
end Go.Proofs.Ytmkcjopacmadhaa
