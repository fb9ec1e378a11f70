/- MqueueSettled: after any acts that both sides agree on, the two queues compare as equal. Conditions: none. -/
import Derived.Test.YthcekppbbanfeaaGreatMrJ
import Derived.Test.YthcekppbbanfeaaGreatMqRow
set_option linter.unusedVariables false
set_option linter.unusedSimpArgs false
set_option maxRecDepth 8000
namespace Go.Proofs.YthcekppbbanfeaaGreat
open Go Go.Joins Go.RowKit Go.ChangeShapes Go.WideShapes Go.ChangeAt Go.Deep Den
theorem undActs : Tryz.prog.underlying 22 = some (.slice 36) := by kernel_rfl
theorem acts_fits {H : Type} {enc : TypeId × Value → H} {w : World} {base : Nat} {spare : Nat → Bool} {held : Bool} {fuel : Nat} {cs : List Value} {x : DataW H × List MemPlace} (h : DataW.trod enc Tryz.prog w base spare held fuel 22 cs = some x) (hf : Fits Tryz.prog 22 x.1) :
    ∃ s acts, cs = [s] ∧ TR cAc w [] s acts ∧ ∀ a ∈ acts, AcOK w a := by
  obtain ⟨xs, hp, hl, _, h1⟩ := slice_fits (en := cAc.enc) (sz := cAc.sz) (p := AcOK w) undActs (by kernel_rfl) (fun fuel cs x h hl hf => act_fits h (hl.trans (by kernel_rfl)) hf) hf h
  obtain ⟨s, rfl, hr⟩ := tr_fits (C := cAc) (by decide) h1
  exact ⟨s, xs, rfl, hr, hp⟩
theorem mqueueSettled_own : ownKnob Tryz.prog.godebug = none := by kernel_rfl
set_option maxRecDepth 100000 in
theorem mqueueSettled_lifted (os : Os) (started : os.Started) (H : Type) (enc : TypeId × Value → H) :
    ReturnsInHanded {} Tryz.checked os 3 .any (Rows.mqueueSettledSpec.pre6 enc Tryz.prog Tryz.f3 Rows.mqueueSettledRow.domain false) (Rows.mqueueSettledSpec.post enc Tryz.prog Tryz.f3 false true false false) := by
  refine returnsInHanded_of_change_sized (C := Tryz.checked) mqueueSettled_own started (by kernel_rfl) Tryz.func3
    (ChangeSpec.witness6 (enc := enc) (C := Tryz.checked) false ⟨#[], #[.int .i64 0, .int .i64 0, .slice none 0 0], []⟩ 8 (by kernel_rfl) (by kernel_rfl) (by kernel_rfl) (by kernel_rfl)) ?_
  intro W base args ds gs before hval0 hW hcnd hsz _
  have hval : ∀ (j : Nat) t v, Tryz.f3.params[j]? = some t → args[j]? = some v → Value.okWide Tryz.prog W .any base t v := hval0
  have hW' := hW
  obtain ⟨p, q, hA0, hV, rfl, hfz, hnd⟩ := hW
  have hA : DataW.TrodAll enc Tryz.prog W 0 (fun _ => true) true Tryz.f3.params.toList args.toList ds p := hA0
  have hp : Tryz.f3.params = #[3, 3, 22] := by kernel_rfl
  rw [hp] at hA hval
  obtain ⟨v0, v1, v2, d0, d1, d2, p0, p1, p2, rfl, rfl, rfl, h0, h1, h2⟩ := trodAll_three hA
  obtain ⟨rfl, rfl⟩ := trodVars_none hV
  obtain ⟨mx, rfl, _⟩ := okWide_int und3 (hval 0 3 v0 rfl rfl)
  obtain ⟨sz, rfl, _⟩ := okWide_int und3 (hval 1 3 v1 rfl rfl)
  obtain ⟨a2, n2, c2, rfl⟩ := okWide_slice undActs (hval 2 22 v2 rfl rfl)
  obtain ⟨fuel, hf⟩ := h2
  rw [hp] at hsz
  obtain ⟨s, acts, q1, hr, hok⟩ := acts_fits hf (fits_each hsz (j := 2) rfl rfl)
  simp [Value.cells] at q1
  subst q1
  refine (settled_law (mx := mx) (sz := sz) hr (fun a ha => ⟨(hok a ha).1, (hok a ha).2.2.2⟩) (Hp.refl W)).mono fun e W' ⟨he, hw⟩ => ?_
  subst he
  exact ⟨_, rfl, law_post (tb := 4) (by kernel_rfl) rfl (by kernel_rfl) und4 (by rw [hp]; intro t ht; simp at ht; rcases ht with rfl | rfl <;> exact ⟨by kernel_rfl, of_decide_eq_true (by kernel_rfl)⟩) rfl hW' hw.ext⟩
theorem mqueueSettled_holds : Rows.MqueueSettledSaid :=
  OpenClaim.holds_of_wide 3 Tryz.f3 rfl rfl rfl rfl rfl rfl rfl ⟨rfl, rfl, rfl, rfl, rfl⟩ rfl rfl rfl rfl rfl (by kernel_rfl) Tryz.func3 (by kernel_rfl)
    (of_decide_eq_true (by kernel_rfl)) (by unfold Func.isWrapper; first | (rw [if_pos (by decide +kernel)]; kernel_rfl) | (rw [if_neg (by decide +kernel)]; exact ⟨rfl, rfl⟩))
    (fun os started H enc _ => mqueueSettled_lifted os started H enc)
#print axioms mqueueSettled_holds
end Go.Proofs.YthcekppbbanfeaaGreat
