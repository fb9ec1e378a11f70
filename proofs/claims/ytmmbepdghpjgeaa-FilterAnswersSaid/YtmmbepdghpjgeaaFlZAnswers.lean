/- FilterAnswers: the answer to a packet that made a state passes until the state expires, whatever its interface is. Conditions: none. -/
import Derived.Test.YtmmbepdghpjgeaaFlAn
import Derived.Test.YtmmbepdghpjgeaaFlRowB
set_option linter.unusedVariables false
set_option linter.unusedSimpArgs false
set_option maxRecDepth 8000
namespace Go.Proofs.Ytmmbepdghpjgeaa
open Go Go.Joins Go.RowKit Go.ChangeShapes Go.WideShapes Go.ChangeAt Go.Deep Den
theorem filterAnswers_own : ownKnob Try.prog.godebug = none := by kernel_rfl
set_option maxRecDepth 100000 in
theorem filterAnswers_lifted (os : Os) (started : os.Started) (H : Type) (enc : TypeId × Value → H) :
    ReturnsInHanded {} Try.checked os 7 .any (Rows.filterAnswersSpec.pre6 enc Try.prog Try.f7 Rows.filterAnswersRow.domain false) (Rows.filterAnswersSpec.post enc Try.prog Try.f7 false true false false) := by
  refine returnsInHanded_of_change (C := Try.checked) filterAnswers_own started (by kernel_rfl) Try.func7
    (ChangeSpec.witness6 (enc := enc) (C := Try.checked) false ⟨#[], #[.agg #[.int .i64 0, .int .i64 0, .int .u32 0, .int .u32 0, .int .i64 0, .int .i64 0, .int .i64 0, .bool false], .int .u8 0, .int .u8 0], []⟩ 8 (by kernel_rfl) (by kernel_rfl) (by kernel_rfl) (by kernel_rfl)) ?_
  intro W base args ds gs before hval0 hW hcnd _
  have hval : ∀ (j : Nat) t v, Try.f7.params[j]? = some t → args[j]? = some v → Value.okWide Try.prog W .any base t v := hval0
  have hW' := hW
  obtain ⟨p, q, hA0, hV, rfl, hfz, hnd⟩ := hW
  have hA : DataW.TrodAll enc Try.prog W 0 (fun _ => true) true Try.f7.params.toList args.toList ds p := hA0
  have hp : Try.f7.params = #[45, 5, 5] := by kernel_rfl
  rw [hp] at hA hval
  obtain ⟨v0, v1, v2, d0, d1, d2, p0, p1, p2, rfl, rfl, rfl, h0, h1, h2⟩ := trodAll_three hA
  obtain ⟨rfl, rfl⟩ := trodVars_none hV
  obtain ⟨k, rfl, hk⟩ := pkt_arg (hval 0 45 v0 rfl rfl) h0
  obtain ⟨o, rfl, ho⟩ := u8_arg (hval 1 5 v1 rfl rfl) h1
  obtain ⟨l, rfl, hl⟩ := u8_arg (hval 2 5 v2 rfl rfl) h2
  refine (answers_law hk ho hl (Hp.refl W)).mono fun e W' ⟨he, hw⟩ => ?_
  subst he
  exact ⟨_, rfl, law_post (tb := 4) (by kernel_rfl) rfl (by kernel_rfl) und4 (by rw [hp]; intro t ht; simp at ht; rcases ht with rfl | rfl | rfl <;> exact ⟨by kernel_rfl, of_decide_eq_true (by kernel_rfl)⟩) rfl hW' hw.ext⟩
theorem filterAnswers_holds : Rows.FilterAnswersSaid :=
  OpenClaim.holds_of_wide 7 Try.f7 rfl rfl rfl rfl rfl rfl rfl ⟨rfl, rfl, rfl, rfl, rfl⟩ rfl rfl rfl rfl rfl (by kernel_rfl) Try.func7 (by kernel_rfl)
    (of_decide_eq_true (by kernel_rfl)) (by unfold Func.isWrapper; first | (rw [if_pos (by decide +kernel)]; kernel_rfl) | (rw [if_neg (by decide +kernel)]; exact ⟨rfl, rfl⟩))
    (fun os started H enc _ => filterAnswers_lifted os started H enc)
#print axioms filterAnswers_holds
end Go.Proofs.Ytmmbepdghpjgeaa
