/- InheritLimits: Check of graphs at the limits. Conditions: none. -/
import Derived.Test.YtagcifbfokneoaaIhX
import Derived.Test.YtagcifbfokneoaaIhT
set_option linter.unusedVariables false
set_option linter.unusedSimpArgs false
set_option maxRecDepth 8000
namespace Go.Proofs.Ytagcifbfokneoaa
open Go Go.Joins Go.RowKit Go.ChangeShapes Go.WideShapes Go.ChangeAt Go.Deep Den
theorem inheritLimits_own : ownKnob Try.prog.godebug = none := by kernel_rfl
set_option maxRecDepth 100000 in
theorem inheritLimits_lifted (os : Os) (started : os.Started) (H : Type) (enc : TypeId × Value → H) :
    ReturnsInHanded {} Try.checked os 4 .any (Rows.inheritLimitsSpec.pre6 enc Try.prog Try.f4 Rows.inheritLimitsRow.domain false) (Rows.inheritLimitsSpec.post enc Try.prog Try.f4 false true false false) := by
  refine returnsInHanded_of_change (C := Try.checked) inheritLimits_own started (by kernel_rfl) Try.func4
    (ChangeSpec.witness6 (enc := enc) (C := Try.checked) false ⟨#[], #[.int .u8 0, .int .u8 0], []⟩ 8 (by kernel_rfl) (by kernel_rfl) (by kernel_rfl) (by kernel_rfl)) ?_
  intro W base args ds gs before hval0 hW hcnd _
  have hval : ∀ (j : Nat) t v, Try.f4.params[j]? = some t → args[j]? = some v → Value.okWide Try.prog W .any base t v := hval0
  have hW' := hW
  obtain ⟨p, q, hA0, hV, rfl, hfz, hnd⟩ := hW
  have hA : DataW.TrodAll enc Try.prog W 0 (fun _ => true) true Try.f4.params.toList args.toList ds p := hA0
  have hp : Try.f4.params = #[5, 5] := by kernel_rfl
  rw [hp] at hA hval
  obtain ⟨v0, v1, d0, d1, p0, p1, rfl, rfl, rfl, h0, h1⟩ := trodAll_two hA
  obtain ⟨rfl, rfl⟩ := trodVars_none hV
  have wf8 : ∀ {i : Int}, (Lit.int .u8 i).wf = true → ∃ n : Nat, i = n ∧ n < 256 := by
    intro i h
    have h2 : IntKind.u8.min ≤ i ∧ i ≤ IntKind.u8.max := by simpa [Lit.wf] using h
    have e1 : IntKind.u8.min = 0 := by decide
    have e2 : IntKind.u8.max = 255 := by decide
    rw [e1, e2] at h2
    exact ⟨i.toNat, by omega, by omega⟩
  obtain ⟨i0, rfl⟩ := okWide_int und5 (hval 0 5 v0 rfl rfl)
  obtain ⟨i1, rfl⟩ := okWide_int und5 (hval 1 5 v1 rfl rfl)
  obtain ⟨fuel0, f0⟩ := h0
  obtain ⟨fuel1, f1⟩ := h1
  obtain ⟨j0, q0, w0⟩ := int_cell und5 f0
  obtain ⟨j1, q1, w1⟩ := int_cell und5 f1
  injection q0 with _ q0
  injection q1 with _ q1
  subst q0 q1
  obtain ⟨n0, rfl, g0⟩ := wf8 w0
  obtain ⟨n1, rfl, g1⟩ := wf8 w1
  refine (Limits_law (L := []) g0 g1 (Hp.refl W)).mono fun e W' ⟨he, hw⟩ => ?_
  subst he
  exact ⟨_, rfl, law_post (tb := 4) (by kernel_rfl) rfl (by kernel_rfl) und4 (by rw [hp]; intro t ht; simp at ht; rcases ht with rfl | rfl <;> exact ⟨by kernel_rfl, of_decide_eq_true (by kernel_rfl)⟩) rfl hW' hw.ext⟩
theorem inheritLimits_holds : Rows.InheritLimitsSaid :=
  OpenClaim.holds_of_wide 4 Try.f4 rfl rfl rfl rfl rfl rfl rfl ⟨rfl, rfl, rfl, rfl, rfl⟩ rfl rfl rfl rfl rfl (by kernel_rfl) Try.func4 (by kernel_rfl)
    (of_decide_eq_true (by kernel_rfl)) (by unfold Func.isWrapper; first | (rw [if_pos (by decide +kernel)]; kernel_rfl) | (rw [if_neg (by decide +kernel)]; exact ⟨rfl, rfl⟩))
    (fun os started H enc _ => inheritLimits_lifted os started H enc)
#print axioms inheritLimits_holds
end Go.Proofs.Ytagcifbfokneoaa
