/- Links: Encode, whole. Conditions: none. -/
import Derived.Test.YtmnpndgmfmjfhaaQ6
section
set_option linter.unusedVariables false
set_option linter.unusedSimpArgs false
set_option maxRecDepth 8000
namespace Go.Proofs.Ytmnpndgmfmjfhaa.Den
open Go Go.RowKit
section
variable {w : World} {w0 : Base} {F L : List Chunk} {R : ER} {k : Int} {last : Bool} {m f : Int} {s : Value} {n b : Nat} {xs : List Int}

theorem enc_head {tb : Nat} (H1 : Hp w0 w (⟨b, tb, frm k last m f s⟩ :: F)) (hs : RdL w0 F 1 s n (bv xs))
    (herr : encE k last m f n ≠ 0 → R (.returned (.tuple ⟨[.slice none 0 0, I (encE k last m f n)]⟩)) w)
    (hok : encE k last m f n = 0 → F16_j1 R (ptr b 0) w) : F16_j3 R (ptr b 0) w := by
  have p3 : ¬ (k ≠ 1 ∧ k ≠ 2) → ¬ (k = 2 ∧ (last = true ∨ 0 < n)) → F16_j7 R (ptr b 0) w := by
    intro hk h2
    unfold F16_j7
    simp only [pv_some, nilO_ptr, faO_mk, gd_yes, gd_no, gd_yes', gd_no', cnd_true, cnd_false, pick_true, pick_false, not_bool, bin_add, bin_sub, bin_mul, bin_eql, bin_neq, bin_lss, bin_leq, bin_gtr, bin_geq, ext0, ext1, ext2, lenS_mk, eqNil_none, eqNil_some, neNil_none, neNil_some, ret_k, mem, Nat.zero_add, Nat.add_zero, Nat.mul_one, drewV, Bool.not_true, Bool.not_false]
    refine ld_h H1 0 rfl rfl ?_
    have fin : ¬ (m < 1 ∨ f < 0 ∨ 2147483647 < f) → cnd (.bool (decide ((4096 : Int) < (n : Int)))) (R (.returned (.tuple ⟨[.slice none 0 0, I 20]⟩))) (F16_j1 R (ptr b 0)) w := by
      intro h3
      refine cnd_decide (fun h4 => ?_) (fun h4 => ?_)
      · have e : encE k last m f n = 20 := by unfold encE; rw [if_neg hk, if_neg h2, if_neg h3, if_pos (by omega)]
        have := herr (by rw [e]; decide)
        rw [e] at this; exact this
      · exact hok (by unfold encE; rw [if_neg hk, if_neg h2, if_neg h3, if_neg (by omega)])
    have bad : (m < 1 ∨ f < 0 ∨ 2147483647 < f) → R (.returned (.tuple ⟨[.slice none 0 0, I 34]⟩)) w := by
      intro h
      have e : encE k last m f n = 34 := by unfold encE; rw [if_neg hk, if_neg h2, if_pos h]
      have := herr (by rw [e]; decide)
      rw [e] at this; exact this
    by_cases hm : m < 1
    · simp only [decide_eq_true hm, pv_some, nilO_ptr, faO_mk, gd_yes, gd_no, gd_yes', gd_no', cnd_true, cnd_false, pick_true, pick_false, not_bool, bin_add, bin_sub, bin_mul, bin_eql, bin_neq, bin_lss, bin_leq, bin_gtr, bin_geq, ext0, ext1, ext2, lenS_mk, eqNil_none, eqNil_some, neNil_none, neNil_some, ret_k, mem, Nat.zero_add, Nat.add_zero, Nat.mul_one, drewV, Bool.not_true, Bool.not_false]
      exact bad (.inl hm)
    · simp only [decide_eq_false hm, pv_some, nilO_ptr, faO_mk, gd_yes, gd_no, gd_yes', gd_no', cnd_true, cnd_false, pick_true, pick_false, not_bool, bin_add, bin_sub, bin_mul, bin_eql, bin_neq, bin_lss, bin_leq, bin_gtr, bin_geq, ext0, ext1, ext2, lenS_mk, eqNil_none, eqNil_some, neNil_none, neNil_some, ret_k, mem, Nat.zero_add, Nat.add_zero, Nat.mul_one, drewV, Bool.not_true, Bool.not_false]
      refine ld_h H1 0 rfl rfl ?_
      by_cases hf : f < 0
      · simp only [decide_eq_true hf, pv_some, nilO_ptr, faO_mk, gd_yes, gd_no, gd_yes', gd_no', cnd_true, cnd_false, pick_true, pick_false, not_bool, bin_add, bin_sub, bin_mul, bin_eql, bin_neq, bin_lss, bin_leq, bin_gtr, bin_geq, ext0, ext1, ext2, lenS_mk, eqNil_none, eqNil_some, neNil_none, neNil_some, ret_k, mem, Nat.zero_add, Nat.add_zero, Nat.mul_one, drewV, Bool.not_true, Bool.not_false]
        exact bad (.inr (.inl hf))
      · simp only [decide_eq_false hf, pv_some, nilO_ptr, faO_mk, gd_yes, gd_no, gd_yes', gd_no', cnd_true, cnd_false, pick_true, pick_false, not_bool, bin_add, bin_sub, bin_mul, bin_eql, bin_neq, bin_lss, bin_leq, bin_gtr, bin_geq, ext0, ext1, ext2, lenS_mk, eqNil_none, eqNil_some, neNil_none, neNil_some, ret_k, mem, Nat.zero_add, Nat.add_zero, Nat.mul_one, drewV, Bool.not_true, Bool.not_false]
        refine ld_h H1 0 rfl rfl ?_
        by_cases hg : 2147483647 < f
        · simp only [decide_eq_true hg, pv_some, nilO_ptr, faO_mk, gd_yes, gd_no, gd_yes', gd_no', cnd_true, cnd_false, pick_true, pick_false, not_bool, bin_add, bin_sub, bin_mul, bin_eql, bin_neq, bin_lss, bin_leq, bin_gtr, bin_geq, ext0, ext1, ext2, lenS_mk, eqNil_none, eqNil_some, neNil_none, neNil_some, ret_k, mem, Nat.zero_add, Nat.add_zero, Nat.mul_one, drewV, Bool.not_true, Bool.not_false]
          exact bad (.inr (.inr hg))
        · simp only [decide_eq_false hg, pv_some, nilO_ptr, faO_mk, gd_yes, gd_no, gd_yes', gd_no', cnd_true, cnd_false, pick_true, pick_false, not_bool, bin_add, bin_sub, bin_mul, bin_eql, bin_neq, bin_lss, bin_leq, bin_gtr, bin_geq, ext0, ext1, ext2, lenS_mk, eqNil_none, eqNil_some, neNil_none, neNil_some, ret_k, mem, Nat.zero_add, Nat.add_zero, Nat.mul_one, drewV, Bool.not_true, Bool.not_false]
          refine ld_h H1 0 rfl rfl ?_
          simp only [lenS_rdL hs, pv_some, nilO_ptr, faO_mk, gd_yes, gd_no, gd_yes', gd_no', cnd_true, cnd_false, pick_true, pick_false, not_bool, bin_add, bin_sub, bin_mul, bin_eql, bin_neq, bin_lss, bin_leq, bin_gtr, bin_geq, ext0, ext1, ext2, lenS_mk, eqNil_none, eqNil_some, neNil_none, neNil_some, ret_k, mem, Nat.zero_add, Nat.add_zero, Nat.mul_one, drewV, Bool.not_true, Bool.not_false]
          exact fin (by omega)
  have p2 : ¬ (k ≠ 1 ∧ k ≠ 2) → F16_j5 R (ptr b 0) w := by
    intro hk
    unfold F16_j5 F16_j6
    simp only [pv_some, nilO_ptr, faO_mk, gd_yes, gd_no, gd_yes', gd_no', cnd_true, cnd_false, pick_true, pick_false, not_bool, bin_add, bin_sub, bin_mul, bin_eql, bin_neq, bin_lss, bin_leq, bin_gtr, bin_geq, ext0, ext1, ext2, lenS_mk, eqNil_none, eqNil_some, neNil_none, neNil_some, ret_k, mem, Nat.zero_add, Nat.add_zero, Nat.mul_one, drewV, Bool.not_true, Bool.not_false]
    refine ld_h H1 0 rfl rfl ?_
    have bad : (k = 2 ∧ (last = true ∨ 0 < n)) → R (.returned (.tuple ⟨[.slice none 0 0, I 14]⟩)) w := by
      intro h
      have e : encE k last m f n = 14 := by unfold encE; rw [if_neg hk, if_pos h]
      have := herr (by rw [e]; decide)
      rw [e] at this; exact this
    by_cases h2 : k = 2
    · simp only [decide_eq_true h2, pv_some, nilO_ptr, faO_mk, gd_yes, gd_no, gd_yes', gd_no', cnd_true, cnd_false, pick_true, pick_false, not_bool, bin_add, bin_sub, bin_mul, bin_eql, bin_neq, bin_lss, bin_leq, bin_gtr, bin_geq, ext0, ext1, ext2, lenS_mk, eqNil_none, eqNil_some, neNil_none, neNil_some, ret_k, mem, Nat.zero_add, Nat.add_zero, Nat.mul_one, drewV, Bool.not_true, Bool.not_false]
      refine ld_h H1 0 rfl rfl ?_
      cases hl : last with
      | true =>
        simp only [pv_some, nilO_ptr, faO_mk, gd_yes, gd_no, gd_yes', gd_no', cnd_true, cnd_false, pick_true, pick_false, not_bool, bin_add, bin_sub, bin_mul, bin_eql, bin_neq, bin_lss, bin_leq, bin_gtr, bin_geq, ext0, ext1, ext2, lenS_mk, eqNil_none, eqNil_some, neNil_none, neNil_some, ret_k, mem, Nat.zero_add, Nat.add_zero, Nat.mul_one, drewV, Bool.not_true, Bool.not_false]
        exact bad ⟨h2, .inl hl⟩
      | false =>
        rw [hl] at H1
        simp only [pv_some, nilO_ptr, faO_mk, gd_yes, gd_no, gd_yes', gd_no', cnd_true, cnd_false, pick_true, pick_false, not_bool, bin_add, bin_sub, bin_mul, bin_eql, bin_neq, bin_lss, bin_leq, bin_gtr, bin_geq, ext0, ext1, ext2, lenS_mk, eqNil_none, eqNil_some, neNil_none, neNil_some, ret_k, mem, Nat.zero_add, Nat.add_zero, Nat.mul_one, drewV, Bool.not_true, Bool.not_false]
        refine ld_h H1 0 rfl rfl ?_
        simp only [lenS_rdL hs, pv_some, nilO_ptr, faO_mk, gd_yes, gd_no, gd_yes', gd_no', cnd_true, cnd_false, pick_true, pick_false, not_bool, bin_add, bin_sub, bin_mul, bin_eql, bin_neq, bin_lss, bin_leq, bin_gtr, bin_geq, ext0, ext1, ext2, lenS_mk, eqNil_none, eqNil_some, neNil_none, neNil_some, ret_k, mem, Nat.zero_add, Nat.add_zero, Nat.mul_one, drewV, Bool.not_true, Bool.not_false]
        by_cases hn : 0 < n
        · simp only [decide_eq_true (show (0 : Int) < (n : Int) from by omega), pv_some, nilO_ptr, faO_mk, gd_yes, gd_no, gd_yes', gd_no', cnd_true, cnd_false, pick_true, pick_false, not_bool, bin_add, bin_sub, bin_mul, bin_eql, bin_neq, bin_lss, bin_leq, bin_gtr, bin_geq, ext0, ext1, ext2, lenS_mk, eqNil_none, eqNil_some, neNil_none, neNil_some, ret_k, mem, Nat.zero_add, Nat.add_zero, Nat.mul_one, drewV, Bool.not_true, Bool.not_false]
          exact bad ⟨h2, .inr hn⟩
        · simp only [decide_eq_false (show ¬ (0 : Int) < (n : Int) from by omega), pv_some, nilO_ptr, faO_mk, gd_yes, gd_no, gd_yes', gd_no', cnd_true, cnd_false, pick_true, pick_false, not_bool, bin_add, bin_sub, bin_mul, bin_eql, bin_neq, bin_lss, bin_leq, bin_gtr, bin_geq, ext0, ext1, ext2, lenS_mk, eqNil_none, eqNil_some, neNil_none, neNil_some, ret_k, mem, Nat.zero_add, Nat.add_zero, Nat.mul_one, drewV, Bool.not_true, Bool.not_false]
          exact p3 hk (by rw [hl]; simp; omega)
    · simp only [decide_eq_false h2, pv_some, nilO_ptr, faO_mk, gd_yes, gd_no, gd_yes', gd_no', cnd_true, cnd_false, pick_true, pick_false, not_bool, bin_add, bin_sub, bin_mul, bin_eql, bin_neq, bin_lss, bin_leq, bin_gtr, bin_geq, ext0, ext1, ext2, lenS_mk, eqNil_none, eqNil_some, neNil_none, neNil_some, ret_k, mem, Nat.zero_add, Nat.add_zero, Nat.mul_one, drewV, Bool.not_true, Bool.not_false]
      exact p3 hk (by omega)
  unfold F16_j3 F16_j4
  simp only [pv_some, nilO_ptr, faO_mk, gd_yes, gd_no, gd_yes', gd_no', cnd_true, cnd_false, pick_true, pick_false, not_bool, bin_add, bin_sub, bin_mul, bin_eql, bin_neq, bin_lss, bin_leq, bin_gtr, bin_geq, ext0, ext1, ext2, lenS_mk, eqNil_none, eqNil_some, neNil_none, neNil_some, ret_k, mem, Nat.zero_add, Nat.add_zero, Nat.mul_one, drewV, Bool.not_true, Bool.not_false]
  refine ld_h H1 0 rfl rfl ?_
  by_cases h1 : k = 1
  · simp only [show decide (k ≠ 1) = false from decide_eq_false (by omega), pv_some, nilO_ptr, faO_mk, gd_yes, gd_no, gd_yes', gd_no', cnd_true, cnd_false, pick_true, pick_false, not_bool, bin_add, bin_sub, bin_mul, bin_eql, bin_neq, bin_lss, bin_leq, bin_gtr, bin_geq, ext0, ext1, ext2, lenS_mk, eqNil_none, eqNil_some, neNil_none, neNil_some, ret_k, mem, Nat.zero_add, Nat.add_zero, Nat.mul_one, drewV, Bool.not_true, Bool.not_false]
    exact p2 (by omega)
  · simp only [show decide (k ≠ 1) = true from decide_eq_true (by omega), pv_some, nilO_ptr, faO_mk, gd_yes, gd_no, gd_yes', gd_no', cnd_true, cnd_false, pick_true, pick_false, not_bool, bin_add, bin_sub, bin_mul, bin_eql, bin_neq, bin_lss, bin_leq, bin_gtr, bin_geq, ext0, ext1, ext2, lenS_mk, eqNil_none, eqNil_some, neNil_none, neNil_some, ret_k, mem, Nat.zero_add, Nat.add_zero, Nat.mul_one, drewV, Bool.not_true, Bool.not_false]
    refine ld_h H1 0 rfl rfl ?_
    by_cases h2 : k = 2
    · simp only [pv_some, nilO_ptr, faO_mk, gd_yes, gd_no, gd_yes', gd_no', cnd_true, cnd_false, pick_true, pick_false, not_bool, bin_add, bin_sub, bin_mul, bin_eql, bin_neq, bin_lss, bin_leq, bin_gtr, bin_geq, ext0, ext1, ext2, lenS_mk, eqNil_none, eqNil_some, neNil_none, neNil_some, ret_k, mem, Nat.zero_add, Nat.add_zero, Nat.mul_one, drewV, Bool.not_true, Bool.not_false, show decide (k ≠ 2) = false from decide_eq_false (by omega)]
      exact p2 (by omega)
    · simp only [pv_some, nilO_ptr, faO_mk, gd_yes, gd_no, gd_yes', gd_no', cnd_true, cnd_false, pick_true, pick_false, not_bool, bin_add, bin_sub, bin_mul, bin_eql, bin_neq, bin_lss, bin_leq, bin_gtr, bin_geq, ext0, ext1, ext2, lenS_mk, eqNil_none, eqNil_some, neNil_none, neNil_some, ret_k, mem, Nat.zero_add, Nat.add_zero, Nat.mul_one, drewV, Bool.not_true, Bool.not_false, show decide (k ≠ 2) = true from decide_eq_true (by omega)]
      have e : encE k last m f n = 17 := by unfold encE; rw [if_pos ⟨h1, h2⟩]
      have := herr (by rw [e]; decide)
      rw [e] at this; exact this

/-- The reference's Encode behind its first box. -/
def F17_j0 (R : ER) (x1 : Value) : WP :=
  pv (faO 0 x1) fun v82 =>
  ld1 v82 fun v83 =>
  pv (bin .neq v83 (.int .i64 1)) fun v84 =>
  gd v84 true (pv (faO 0 x1)) fun v85 =>
  gd v84 true (ld1 v85) fun v86 =>
  gd v84 true (pv (bin .neq v86 (.int .i64 2))) fun v87 =>
  pv (pickO v84 v87 (.bool false)) fun v88 =>
  cnd v88 (
   R (.returned (.tuple ⟨[(.slice none 0 0), (.int .i64 17)]⟩))) (
   F17_j1 R x1)
theorem renc_0 (R : ER) (x0 : Value) : F17 R x0 = bx 52 x0 fun v => F17_j0 R v := rfl

theorem renc_head {tb : Nat} (H1 : Hp w0 w (⟨b, tb, frm k last m f s⟩ :: F)) (hs : RdL w0 F 1 s n (bv xs))
    (herr : encE k last m f n ≠ 0 → R (.returned (.tuple ⟨[.slice none 0 0, I (encE k last m f n)]⟩)) w)
    (hok : encE k last m f n = 0 → F17_j4 R (ptr b 0) w) : F17_j0 R (ptr b 0) w := by
  have p3 : ¬ (k ≠ 1 ∧ k ≠ 2) → ¬ (k = 2 ∧ (last = true ∨ 0 < n)) → F17_j2 R (ptr b 0) w := by
    intro hk h2
    unfold F17_j2 F17_j7
    simp only [pv_some, nilO_ptr, faO_mk, gd_yes, gd_no, gd_yes', gd_no', cnd_true, cnd_false, pick_true, pick_false, not_bool, bin_add, bin_sub, bin_mul, bin_eql, bin_neq, bin_lss, bin_leq, bin_gtr, bin_geq, ext0, ext1, ext2, lenS_mk, eqNil_none, eqNil_some, neNil_none, neNil_some, ret_k, mem, Nat.zero_add, Nat.add_zero, Nat.mul_one, drewV, Bool.not_true, Bool.not_false]
    refine ld_h H1 0 rfl rfl ?_
    have fin : ¬ (m < 1 ∨ f < 0 ∨ 2147483647 < f) → cnd (.bool (decide ((4096 : Int) < (n : Int)))) (R (.returned (.tuple ⟨[.slice none 0 0, I 20]⟩))) (F17_j4 R (ptr b 0)) w := by
      intro h3
      refine cnd_decide (fun h4 => ?_) (fun h4 => ?_)
      · have e : encE k last m f n = 20 := by unfold encE; rw [if_neg hk, if_neg h2, if_neg h3, if_pos (by omega)]
        have := herr (by rw [e]; decide)
        rw [e] at this; exact this
      · exact hok (by unfold encE; rw [if_neg hk, if_neg h2, if_neg h3, if_neg (by omega)])
    have bad : (m < 1 ∨ f < 0 ∨ 2147483647 < f) → R (.returned (.tuple ⟨[.slice none 0 0, I 34]⟩)) w := by
      intro h
      have e : encE k last m f n = 34 := by unfold encE; rw [if_neg hk, if_neg h2, if_pos h]
      have := herr (by rw [e]; decide)
      rw [e] at this; exact this
    by_cases hm : m < 1
    · simp only [decide_eq_true hm, pv_some, nilO_ptr, faO_mk, gd_yes, gd_no, gd_yes', gd_no', cnd_true, cnd_false, pick_true, pick_false, not_bool, bin_add, bin_sub, bin_mul, bin_eql, bin_neq, bin_lss, bin_leq, bin_gtr, bin_geq, ext0, ext1, ext2, lenS_mk, eqNil_none, eqNil_some, neNil_none, neNil_some, ret_k, mem, Nat.zero_add, Nat.add_zero, Nat.mul_one, drewV, Bool.not_true, Bool.not_false]
      exact bad (.inl hm)
    · simp only [decide_eq_false hm, pv_some, nilO_ptr, faO_mk, gd_yes, gd_no, gd_yes', gd_no', cnd_true, cnd_false, pick_true, pick_false, not_bool, bin_add, bin_sub, bin_mul, bin_eql, bin_neq, bin_lss, bin_leq, bin_gtr, bin_geq, ext0, ext1, ext2, lenS_mk, eqNil_none, eqNil_some, neNil_none, neNil_some, ret_k, mem, Nat.zero_add, Nat.add_zero, Nat.mul_one, drewV, Bool.not_true, Bool.not_false]
      refine ld_h H1 0 rfl rfl ?_
      by_cases hf : f < 0
      · simp only [decide_eq_true hf, pv_some, nilO_ptr, faO_mk, gd_yes, gd_no, gd_yes', gd_no', cnd_true, cnd_false, pick_true, pick_false, not_bool, bin_add, bin_sub, bin_mul, bin_eql, bin_neq, bin_lss, bin_leq, bin_gtr, bin_geq, ext0, ext1, ext2, lenS_mk, eqNil_none, eqNil_some, neNil_none, neNil_some, ret_k, mem, Nat.zero_add, Nat.add_zero, Nat.mul_one, drewV, Bool.not_true, Bool.not_false]
        exact bad (.inr (.inl hf))
      · simp only [decide_eq_false hf, pv_some, nilO_ptr, faO_mk, gd_yes, gd_no, gd_yes', gd_no', cnd_true, cnd_false, pick_true, pick_false, not_bool, bin_add, bin_sub, bin_mul, bin_eql, bin_neq, bin_lss, bin_leq, bin_gtr, bin_geq, ext0, ext1, ext2, lenS_mk, eqNil_none, eqNil_some, neNil_none, neNil_some, ret_k, mem, Nat.zero_add, Nat.add_zero, Nat.mul_one, drewV, Bool.not_true, Bool.not_false]
        refine ld_h H1 0 rfl rfl ?_
        by_cases hg : 2147483647 < f
        · simp only [decide_eq_true hg, pv_some, nilO_ptr, faO_mk, gd_yes, gd_no, gd_yes', gd_no', cnd_true, cnd_false, pick_true, pick_false, not_bool, bin_add, bin_sub, bin_mul, bin_eql, bin_neq, bin_lss, bin_leq, bin_gtr, bin_geq, ext0, ext1, ext2, lenS_mk, eqNil_none, eqNil_some, neNil_none, neNil_some, ret_k, mem, Nat.zero_add, Nat.add_zero, Nat.mul_one, drewV, Bool.not_true, Bool.not_false]
          exact bad (.inr (.inr hg))
        · simp only [decide_eq_false hg, pv_some, nilO_ptr, faO_mk, gd_yes, gd_no, gd_yes', gd_no', cnd_true, cnd_false, pick_true, pick_false, not_bool, bin_add, bin_sub, bin_mul, bin_eql, bin_neq, bin_lss, bin_leq, bin_gtr, bin_geq, ext0, ext1, ext2, lenS_mk, eqNil_none, eqNil_some, neNil_none, neNil_some, ret_k, mem, Nat.zero_add, Nat.add_zero, Nat.mul_one, drewV, Bool.not_true, Bool.not_false]
          unfold F17_j3
          simp only [pv_some, nilO_ptr, faO_mk, gd_yes, gd_no, gd_yes', gd_no', cnd_true, cnd_false, pick_true, pick_false, not_bool, bin_add, bin_sub, bin_mul, bin_eql, bin_neq, bin_lss, bin_leq, bin_gtr, bin_geq, ext0, ext1, ext2, lenS_mk, eqNil_none, eqNil_some, neNil_none, neNil_some, ret_k, mem, Nat.zero_add, Nat.add_zero, Nat.mul_one, drewV, Bool.not_true, Bool.not_false]
          refine ld_h H1 0 rfl rfl ?_
          simp only [lenS_rdL hs, pv_some, nilO_ptr, faO_mk, gd_yes, gd_no, gd_yes', gd_no', cnd_true, cnd_false, pick_true, pick_false, not_bool, bin_add, bin_sub, bin_mul, bin_eql, bin_neq, bin_lss, bin_leq, bin_gtr, bin_geq, ext0, ext1, ext2, lenS_mk, eqNil_none, eqNil_some, neNil_none, neNil_some, ret_k, mem, Nat.zero_add, Nat.add_zero, Nat.mul_one, drewV, Bool.not_true, Bool.not_false]
          exact fin (by omega)
  have p2 : ¬ (k ≠ 1 ∧ k ≠ 2) → F17_j1 R (ptr b 0) w := by
    intro hk
    unfold F17_j1 F17_j8
    simp only [pv_some, nilO_ptr, faO_mk, gd_yes, gd_no, gd_yes', gd_no', cnd_true, cnd_false, pick_true, pick_false, not_bool, bin_add, bin_sub, bin_mul, bin_eql, bin_neq, bin_lss, bin_leq, bin_gtr, bin_geq, ext0, ext1, ext2, lenS_mk, eqNil_none, eqNil_some, neNil_none, neNil_some, ret_k, mem, Nat.zero_add, Nat.add_zero, Nat.mul_one, drewV, Bool.not_true, Bool.not_false]
    refine ld_h H1 0 rfl rfl ?_
    have bad : (k = 2 ∧ (last = true ∨ 0 < n)) → R (.returned (.tuple ⟨[.slice none 0 0, I 14]⟩)) w := by
      intro h
      have e : encE k last m f n = 14 := by unfold encE; rw [if_neg hk, if_pos h]
      have := herr (by rw [e]; decide)
      rw [e] at this; exact this
    by_cases h2 : k = 2
    · simp only [decide_eq_true h2, pv_some, nilO_ptr, faO_mk, gd_yes, gd_no, gd_yes', gd_no', cnd_true, cnd_false, pick_true, pick_false, not_bool, bin_add, bin_sub, bin_mul, bin_eql, bin_neq, bin_lss, bin_leq, bin_gtr, bin_geq, ext0, ext1, ext2, lenS_mk, eqNil_none, eqNil_some, neNil_none, neNil_some, ret_k, mem, Nat.zero_add, Nat.add_zero, Nat.mul_one, drewV, Bool.not_true, Bool.not_false]
      refine ld_h H1 0 rfl rfl ?_
      cases hl : last with
      | true =>
        simp only [pv_some, nilO_ptr, faO_mk, gd_yes, gd_no, gd_yes', gd_no', cnd_true, cnd_false, pick_true, pick_false, not_bool, bin_add, bin_sub, bin_mul, bin_eql, bin_neq, bin_lss, bin_leq, bin_gtr, bin_geq, ext0, ext1, ext2, lenS_mk, eqNil_none, eqNil_some, neNil_none, neNil_some, ret_k, mem, Nat.zero_add, Nat.add_zero, Nat.mul_one, drewV, Bool.not_true, Bool.not_false]
        exact bad ⟨h2, .inl hl⟩
      | false =>
        rw [hl] at H1
        simp only [pv_some, nilO_ptr, faO_mk, gd_yes, gd_no, gd_yes', gd_no', cnd_true, cnd_false, pick_true, pick_false, not_bool, bin_add, bin_sub, bin_mul, bin_eql, bin_neq, bin_lss, bin_leq, bin_gtr, bin_geq, ext0, ext1, ext2, lenS_mk, eqNil_none, eqNil_some, neNil_none, neNil_some, ret_k, mem, Nat.zero_add, Nat.add_zero, Nat.mul_one, drewV, Bool.not_true, Bool.not_false]
        refine ld_h H1 0 rfl rfl ?_
        simp only [lenS_rdL hs, pv_some, nilO_ptr, faO_mk, gd_yes, gd_no, gd_yes', gd_no', cnd_true, cnd_false, pick_true, pick_false, not_bool, bin_add, bin_sub, bin_mul, bin_eql, bin_neq, bin_lss, bin_leq, bin_gtr, bin_geq, ext0, ext1, ext2, lenS_mk, eqNil_none, eqNil_some, neNil_none, neNil_some, ret_k, mem, Nat.zero_add, Nat.add_zero, Nat.mul_one, drewV, Bool.not_true, Bool.not_false]
        by_cases hn : 0 < n
        · simp only [decide_eq_true (show (0 : Int) < (n : Int) from by omega), pv_some, nilO_ptr, faO_mk, gd_yes, gd_no, gd_yes', gd_no', cnd_true, cnd_false, pick_true, pick_false, not_bool, bin_add, bin_sub, bin_mul, bin_eql, bin_neq, bin_lss, bin_leq, bin_gtr, bin_geq, ext0, ext1, ext2, lenS_mk, eqNil_none, eqNil_some, neNil_none, neNil_some, ret_k, mem, Nat.zero_add, Nat.add_zero, Nat.mul_one, drewV, Bool.not_true, Bool.not_false]
          exact bad ⟨h2, .inr hn⟩
        · simp only [decide_eq_false (show ¬ (0 : Int) < (n : Int) from by omega), pv_some, nilO_ptr, faO_mk, gd_yes, gd_no, gd_yes', gd_no', cnd_true, cnd_false, pick_true, pick_false, not_bool, bin_add, bin_sub, bin_mul, bin_eql, bin_neq, bin_lss, bin_leq, bin_gtr, bin_geq, ext0, ext1, ext2, lenS_mk, eqNil_none, eqNil_some, neNil_none, neNil_some, ret_k, mem, Nat.zero_add, Nat.add_zero, Nat.mul_one, drewV, Bool.not_true, Bool.not_false]
          exact p3 hk (by rw [hl]; simp; omega)
    · simp only [decide_eq_false h2, pv_some, nilO_ptr, faO_mk, gd_yes, gd_no, gd_yes', gd_no', cnd_true, cnd_false, pick_true, pick_false, not_bool, bin_add, bin_sub, bin_mul, bin_eql, bin_neq, bin_lss, bin_leq, bin_gtr, bin_geq, ext0, ext1, ext2, lenS_mk, eqNil_none, eqNil_some, neNil_none, neNil_some, ret_k, mem, Nat.zero_add, Nat.add_zero, Nat.mul_one, drewV, Bool.not_true, Bool.not_false]
      exact p3 hk (by omega)
  unfold F17_j0
  simp only [pv_some, nilO_ptr, faO_mk, gd_yes, gd_no, gd_yes', gd_no', cnd_true, cnd_false, pick_true, pick_false, not_bool, bin_add, bin_sub, bin_mul, bin_eql, bin_neq, bin_lss, bin_leq, bin_gtr, bin_geq, ext0, ext1, ext2, lenS_mk, eqNil_none, eqNil_some, neNil_none, neNil_some, ret_k, mem, Nat.zero_add, Nat.add_zero, Nat.mul_one, drewV, Bool.not_true, Bool.not_false]
  refine ld_h H1 0 rfl rfl ?_
  by_cases h1 : k = 1
  · simp only [show decide (k ≠ 1) = false from decide_eq_false (by omega), pv_some, nilO_ptr, faO_mk, gd_yes, gd_no, gd_yes', gd_no', cnd_true, cnd_false, pick_true, pick_false, not_bool, bin_add, bin_sub, bin_mul, bin_eql, bin_neq, bin_lss, bin_leq, bin_gtr, bin_geq, ext0, ext1, ext2, lenS_mk, eqNil_none, eqNil_some, neNil_none, neNil_some, ret_k, mem, Nat.zero_add, Nat.add_zero, Nat.mul_one, drewV, Bool.not_true, Bool.not_false]
    exact p2 (by omega)
  · simp only [show decide (k ≠ 1) = true from decide_eq_true (by omega), pv_some, nilO_ptr, faO_mk, gd_yes, gd_no, gd_yes', gd_no', cnd_true, cnd_false, pick_true, pick_false, not_bool, bin_add, bin_sub, bin_mul, bin_eql, bin_neq, bin_lss, bin_leq, bin_gtr, bin_geq, ext0, ext1, ext2, lenS_mk, eqNil_none, eqNil_some, neNil_none, neNil_some, ret_k, mem, Nat.zero_add, Nat.add_zero, Nat.mul_one, drewV, Bool.not_true, Bool.not_false]
    refine ld_h H1 0 rfl rfl ?_
    by_cases h2 : k = 2
    · simp only [pv_some, nilO_ptr, faO_mk, gd_yes, gd_no, gd_yes', gd_no', cnd_true, cnd_false, pick_true, pick_false, not_bool, bin_add, bin_sub, bin_mul, bin_eql, bin_neq, bin_lss, bin_leq, bin_gtr, bin_geq, ext0, ext1, ext2, lenS_mk, eqNil_none, eqNil_some, neNil_none, neNil_some, ret_k, mem, Nat.zero_add, Nat.add_zero, Nat.mul_one, drewV, Bool.not_true, Bool.not_false, show decide (k ≠ 2) = false from decide_eq_false (by omega)]
      exact p2 (by omega)
    · simp only [pv_some, nilO_ptr, faO_mk, gd_yes, gd_no, gd_yes', gd_no', cnd_true, cnd_false, pick_true, pick_false, not_bool, bin_add, bin_sub, bin_mul, bin_eql, bin_neq, bin_lss, bin_leq, bin_gtr, bin_geq, ext0, ext1, ext2, lenS_mk, eqNil_none, eqNil_some, neNil_none, neNil_some, ret_k, mem, Nat.zero_add, Nat.add_zero, Nat.mul_one, drewV, Bool.not_true, Bool.not_false, show decide (k ≠ 2) = true from decide_eq_true (by omega)]
      have e : encE k last m f n = 17 := by unfold encE; rw [if_pos ⟨h1, h2⟩]
      have := herr (by rw [e]; decide)
      rw [e] at this; exact this

theorem mem1 {y : World} {a : Addr} {v : Value} (h : y.cell? a = some v) : ∀ x ∈ [y], x.cell? a = some v := by
  intro x hx; simp at hx; subst hx; exact h
theorem mem2 {y z : World} {a : Addr} {v : Value} (h : y.cell? a = some v) (h' : z.cell? a = some v) : ∀ x ∈ [y, z], x.cell? a = some v := by
  intro x hx; simp at hx; rcases hx with rfl | rfl <;> assumption
theorem enc_j1 (hs : RdL w0 F 1 s n (bv xs)) (hn : n ≤ 4096) (H : Hp w0 w (⟨b, 48, frm k last m f s⟩ :: F))
    (hok : ∀ w' s' cs', Hp w0 w' (cs' ++ F) → Sl 5 1 s' (24 + n) (bv (encB k last m f xs)) cs' → R (.returned (.tuple ⟨[s', I 0]⟩)) w') : F16_j1 R (ptr b 0) w := by
  have hlen : xs.length = n := by have := hs.length; rw [bv_length] at this; omega
  unfold F16_j1
  simp only [pv_some, nilO_ptr, faO_mk, gd_yes, gd_no, gd_yes', gd_no', cnd_true, cnd_false, pick_true, pick_false, not_bool, bin_add, bin_sub, bin_mul, bin_eql, bin_neq, bin_lss, bin_leq, bin_gtr, bin_geq, ext0, ext1, ext2, lenS_mk, eqNil_none, eqNil_some, neNil_none, neNil_some, ret_k, mem, Nat.zero_add, Nat.add_zero, Nat.mul_one, drewV, Bool.not_true, Bool.not_false]
  refine make_h elT24 H.drew (n := 24) (c := 24) rfl rfl (by omega) (by omega) (by omega) fun w1 nb H1 => ?_
  refine ldS_h H1 1 rfl rfl (mem1 (H.drew.cell 0 rfl rfl)) ?_
  have hz : (List.replicate 24 [U8 0]).flatten = [U8 0, U8 0, U8 0, U8 0, U8 0, U8 0, U8 0, U8 0, U8 0, U8 0, U8 0, U8 0, U8 0, U8 0, U8 0, U8 0, U8 0, U8 0, U8 0, U8 0, U8 0, U8 0, U8 0, U8 0] := rfl
  rw [hz] at H1
  refine append_h (cs := [⟨nb, 5, _⟩]) elT24 H1 (Sl.full (n := 24) (sz := 1) rfl) (hs.mono (by intro c hc; simp [hc])) bv_scalar (by omega) (by omega) fun w2 s2 cs2 H2 hs2 => ?_
  obtain ⟨b3, cap, rest, rfl, rfl, g1, g2, g3⟩ := hs2.chunk (by omega)
  rw [List.append_assoc] at H2
  refine ld_h H2 1 rfl rfl ?_
  simp only [pv_some, nilO_ptr, faO_mk, gd_yes, gd_no, gd_yes', gd_no', cnd_true, cnd_false, pick_true, pick_false, not_bool, bin_add, bin_sub, bin_mul, bin_eql, bin_neq, bin_lss, bin_leq, bin_gtr, bin_geq, ext0, ext1, ext2, lenS_mk, eqNil_none, eqNil_some, neNil_none, neNil_some, ret_k, mem, Nat.zero_add, Nat.add_zero, Nat.mul_one, drewV, Bool.not_true, Bool.not_false, cvU8]
  have hi0 : ixS 1 (.slice (some ⟨b3, 0, none⟩) (24 + n) cap) (.int .i64 0) = some (ptr b3 0) := by
    have := ixS_mk (sz := 1) (b := b3) (o := 0) (c := cap) (n := 24 + n) (j := 0) (k := .i64) (by omega); simpa using this
  have hi1 : ixS 1 (.slice (some ⟨b3, 0, none⟩) (24 + n) cap) (.int .i64 1) = some (ptr b3 1) := by
    have := ixS_mk (sz := 1) (b := b3) (o := 0) (c := cap) (n := 24 + n) (j := 1) (k := .i64) (by omega); simpa using this
  simp only [hi0, hi1, pv_some, nilO_ptr, faO_mk, gd_yes, gd_no, gd_yes', gd_no', cnd_true, cnd_false, pick_true, pick_false, not_bool, bin_add, bin_sub, bin_mul, bin_eql, bin_neq, bin_lss, bin_leq, bin_gtr, bin_geq, ext0, ext1, ext2, lenS_mk, eqNil_none, eqNil_some, neNil_none, neNil_some, ret_k, mem, Nat.zero_add, Nat.add_zero, Nat.mul_one, drewV, Bool.not_true, Bool.not_false]
  refine st_h H2 0 rfl (by simp) rfl fun w3 H3 => ?_
  refine ld_h H3 1 rfl rfl ?_
  have fin : ∀ w', Hp w0 w' (⟨b3, 5, h24 k last ++ (bv xs ++ rest)⟩ :: ⟨b, 48, frm k last m f s⟩ :: F) → F16_j2 R (ptr b 0) (.slice (some ⟨b3, 0, none⟩) (24 + n) cap) w' := by
    intro w' H'
    refine enc_j2 hs hn g2 H' (by rw [g3]; omega) fun w'' H'' => ?_
    exact hok w'' _ [⟨b3, 5, bv (encB k last m f xs) ++ rest⟩] H'' (.inr ⟨b3, cap, rest, rfl, rfl, by rw [bv_length, encB_length, hlen]; omega, g2, g3⟩)
  cases hl : last with
  | true =>
    rw [hl] at fin
    simp only [pv_some, nilO_ptr, faO_mk, gd_yes, gd_no, gd_yes', gd_no', cnd_true, cnd_false, pick_true, pick_false, not_bool, bin_add, bin_sub, bin_mul, bin_eql, bin_neq, bin_lss, bin_leq, bin_gtr, bin_geq, ext0, ext1, ext2, lenS_mk, eqNil_none, eqNil_some, neNil_none, neNil_some, ret_k, mem, Nat.zero_add, Nat.add_zero, Nat.mul_one, drewV, Bool.not_true, Bool.not_false]
    rw [hl] at H3
    refine st_h H3 0 rfl (by simp) rfl fun w4 H4 => ?_
    exact fin w4 H4
  | false =>
    rw [hl] at fin H3
    simp only [pv_some, nilO_ptr, faO_mk, gd_yes, gd_no, gd_yes', gd_no', cnd_true, cnd_false, pick_true, pick_false, not_bool, bin_add, bin_sub, bin_mul, bin_eql, bin_neq, bin_lss, bin_leq, bin_gtr, bin_geq, ext0, ext1, ext2, lenS_mk, eqNil_none, eqNil_some, neNil_none, neNil_some, ret_k, mem, Nat.zero_add, Nat.add_zero, Nat.mul_one, drewV, Bool.not_true, Bool.not_false]
    exact fin w3 H3
/-- What Encode hands back. -/
def EncPost (w0 : Base) (F : List Chunk) (k : Int) (last : Bool) (m f : Int) (n : Nat) (xs : List Int) : ER := fun e w' => ∃ s' n' ys cs, e = .returned (.tuple ⟨[s', I (encE k last m f n)]⟩) ∧ Hp w0 w' (cs ++ F) ∧ Sl 5 1 s' n' (bv ys) cs ∧
      (encE k last m f n ≠ 0 → n' = 0 ∧ s' = .slice none 0 0 ∧ ys = []) ∧ (encE k last m f n = 0 → n ≤ 4096 ∧ n' = 24 + n ∧ ys = encB k last m f xs)
theorem Encode_spec (hs : RdL w0 F 1 s n (bv xs)) (H : Hp w0 w F) :
    Calls Pg 16 ⟨[.agg ⟨frm k last m f s⟩]⟩ w (EncPost w0 F k last m f n xs) := by
  apply F16_calls
  unfold F16
  refine bxa_h H fun w1 b H1 => ?_
  refine enc_head H1 hs (fun he => ?_) (fun he => ?_)
  · exact ⟨_, 0, [], [], rfl, H1.tail, Sl.nil, fun _ => ⟨rfl, rfl, rfl⟩, fun h => absurd h he⟩
  · have hn : n ≤ 4096 := by
      refine Nat.le_of_not_lt fun h4 => ?_
      have : encE k last m f n ≠ 0 := by
        unfold encE
        split
        · decide
        · split
          · decide
          · split
            · decide
            · first | decide | (rw [if_pos h4]; decide)
      exact this he
    refine enc_j1 hs hn H1 fun w' s' cs' H' hs' => ?_
    exact ⟨s', 24 + n, _, cs', by rw [he], H', hs', fun h => absurd he h, fun _ => ⟨hn, rfl, rfl⟩⟩
end
end Go.Proofs.Ytmnpndgmfmjfhaa.Den
end

section
set_option linter.unusedVariables false
set_option linter.unusedSimpArgs false
set_option maxRecDepth 8000
namespace Go.Proofs.Ytmnpndgmfmjfhaa.Den
open Go Go.RowKit
section
variable {w : World} {w0 : Base} {F L : List Chunk} {R : ER} {k : Int} {last : Bool} {m f : Int} {s : Value} {n b : Nat} {xs : List Int}
/-- append of bytes. -/
theorem appB {s src : Value} {n m : Nat} {xs ys : List Int} {cs F : List Chunk} {K : VK} {R : ER} {w : World} {ty : Nat} {cc : Array Bool} (H : Hp w0 w (cs ++ F)) (hs : Sl 5 1 s n (bv xs) cs) (hsrc : RdL w0 (cs ++ F) 1 src m (bv ys))
    (hsize : n + m < 2 ^ 40) (k : ∀ w' s' cs', Hp w0 w' (cs' ++ F) → Sl 5 1 s' (n + m) (bv (xs ++ ys)) cs' → K s' w') : blt Pg R .append ⟨[24, 24]⟩ ty cc ⟨[s, src]⟩ K w :=
  append_h elT24 H hs hsrc bv_scalar (by omega) (by omega) fun w' s' cs' H' hs' => k w' s' cs' H' (by rw [bv_append]; exact hs')
theorem renc_j6 {s5 : Value} {cs5 : List Chunk} (hs : RdL w0 F 1 s n (bv xs)) (hn : n ≤ 4096) (H : Hp w0 w (cs5 ++ (⟨b, 52, frm k last m f s⟩ :: F))) (h5 : Sl 5 1 s5 4 (bv ([k % 256, lbit last] ++ be 2 (u64 n))) cs5)
    (hok : ∀ w' s' cs', Hp w0 w' (cs' ++ F) → Sl 5 1 s' (24 + n) (bv (encB k last m f xs)) cs' → R (.returned (.tuple ⟨[s', I 0]⟩)) w') : F17_j6 R (ptr b 0) s5 w := by
  have hlen : xs.length = n := by have := hs.length; rw [bv_length] at this; omega
  unfold F17_j6
  have H1 : Hp w0 w.drew (⟨b, 52, frm k last m f s⟩ :: (cs5 ++ F)) := H.drew.to (by intro f; simp only [I, U8, U64, ptr, List.set_cons_zero, List.set_cons_succ, List.eraseIdx_cons_zero, List.eraseIdx_cons_succ, List.map_append, List.map_cons, List.map_nil, List.sum_append, List.sum_cons, List.sum_nil]; omega)
  simp only [pv_some, nilO_ptr, faO_mk, gd_yes, gd_no, gd_yes', gd_no', cnd_true, cnd_false, pick_true, pick_false, not_bool, bin_add, bin_sub, bin_mul, bin_eql, bin_neq, bin_lss, bin_leq, bin_gtr, bin_geq, ext0, ext1, ext2, lenS_mk, eqNil_none, eqNil_some, neNil_none, neNil_some, ret_k, mem, Nat.zero_add, Nat.add_zero, Nat.mul_one, drewV, Bool.not_true, Bool.not_false]
  refine ld_h H1 0 rfl rfl ?_
  simp only [pv_some, nilO_ptr, faO_mk, gd_yes, gd_no, gd_yes', gd_no', cnd_true, cnd_false, pick_true, pick_false, not_bool, bin_add, bin_sub, bin_mul, bin_eql, bin_neq, bin_lss, bin_leq, bin_gtr, bin_geq, ext0, ext1, ext2, lenS_mk, eqNil_none, eqNil_some, neNil_none, neNil_some, ret_k, mem, Nat.zero_add, Nat.add_zero, Nat.mul_one, drewV, Bool.not_true, Bool.not_false, cvU64]
  refine cal_h (rput_spec (n := 8) (by omega) H1) ?_
  rintro e w2 ⟨s2, cs2, rfl, H2, h2⟩
  simp only [pv_some, nilO_ptr, faO_mk, gd_yes, gd_no, gd_yes', gd_no', cnd_true, cnd_false, pick_true, pick_false, not_bool, bin_add, bin_sub, bin_mul, bin_eql, bin_neq, bin_lss, bin_leq, bin_gtr, bin_geq, ext0, ext1, ext2, lenS_mk, eqNil_none, eqNil_some, neNil_none, neNil_some, ret_k, mem, Nat.zero_add, Nat.add_zero, Nat.mul_one, drewV, Bool.not_true, Bool.not_false]
  have H2' : Hp w0 w2 (cs5 ++ (⟨b, 52, frm k last m f s⟩ :: (cs2 ++ F))) := H2.to (by intro f; simp only [I, U8, U64, ptr, List.set_cons_zero, List.set_cons_succ, List.eraseIdx_cons_zero, List.eraseIdx_cons_succ, List.map_append, List.map_cons, List.map_nil, List.sum_append, List.sum_cons, List.sum_nil]; omega)
  have H2c : Hp w0 w2 (⟨b, 52, frm k last m f s⟩ :: (cs5 ++ (cs2 ++ F))) := H2.to (by intro f; simp only [I, U8, U64, ptr, List.set_cons_zero, List.set_cons_succ, List.eraseIdx_cons_zero, List.eraseIdx_cons_succ, List.map_append, List.map_cons, List.map_nil, List.sum_append, List.sum_cons, List.sum_nil]; omega)
  refine appB H2' h5 (h2.rdL (fun c hc => by simp [hc])) (by omega) fun w3 s3 cs3 H3 h3 => ?_
  have H3c : Hp w0 w3 (⟨b, 52, frm k last m f s⟩ :: (cs3 ++ F)) := H3.to (by intro f; simp only [I, U8, U64, ptr, List.set_cons_zero, List.set_cons_succ, List.eraseIdx_cons_zero, List.eraseIdx_cons_succ, List.map_append, List.map_cons, List.map_nil, List.sum_append, List.sum_cons, List.sum_nil]; omega)
  refine ldS_h H3c 0 rfl rfl (mem2 (H2c.cell 0 rfl rfl) (H1.cell 0 rfl rfl)) ?_
  simp only [pv_some, nilO_ptr, faO_mk, gd_yes, gd_no, gd_yes', gd_no', cnd_true, cnd_false, pick_true, pick_false, not_bool, bin_add, bin_sub, bin_mul, bin_eql, bin_neq, bin_lss, bin_leq, bin_gtr, bin_geq, ext0, ext1, ext2, lenS_mk, eqNil_none, eqNil_some, neNil_none, neNil_some, ret_k, mem, Nat.zero_add, Nat.add_zero, Nat.mul_one, drewV, Bool.not_true, Bool.not_false, cvU64]
  refine cal_h (rput_spec (n := 4) (by omega) H3c) ?_
  rintro e w4 ⟨s4, cs4, rfl, H4, h4⟩
  simp only [pv_some, nilO_ptr, faO_mk, gd_yes, gd_no, gd_yes', gd_no', cnd_true, cnd_false, pick_true, pick_false, not_bool, bin_add, bin_sub, bin_mul, bin_eql, bin_neq, bin_lss, bin_leq, bin_gtr, bin_geq, ext0, ext1, ext2, lenS_mk, eqNil_none, eqNil_some, neNil_none, neNil_some, ret_k, mem, Nat.zero_add, Nat.add_zero, Nat.mul_one, drewV, Bool.not_true, Bool.not_false]
  have H4' : Hp w0 w4 (cs3 ++ (⟨b, 52, frm k last m f s⟩ :: (cs4 ++ F))) := H4.to (by intro f; simp only [I, U8, U64, ptr, List.set_cons_zero, List.set_cons_succ, List.eraseIdx_cons_zero, List.eraseIdx_cons_succ, List.map_append, List.map_cons, List.map_nil, List.sum_append, List.sum_cons, List.sum_nil]; omega)
  refine appB H4' h3 (h4.rdL (fun c hc => by simp [hc])) (by omega) fun w5 s6 cs6 H5 h6 => ?_
  have eH : [k % 256, lbit last] ++ be 2 (u64 n) ++ be 8 (u64 m) ++ be 4 (u64 f) = encH k last m f n := rfl
  rw [eH] at h6
  have H5c : Hp w0 w5.drew (⟨b, 52, frm k last m f s⟩ :: (cs6 ++ F)) := H5.drew.to (by intro f; simp only [I, U8, U64, ptr, List.set_cons_zero, List.set_cons_succ, List.eraseIdx_cons_zero, List.eraseIdx_cons_succ, List.map_append, List.map_cons, List.map_nil, List.sum_append, List.sum_cons, List.sum_nil]; omega)
  refine lit0_h elT24 H5c fun w6 s7 H6 h7 => ?_
  simp only [pv_some, nilO_ptr, faO_mk, gd_yes, gd_no, gd_yes', gd_no', cnd_true, cnd_false, pick_true, pick_false, not_bool, bin_add, bin_sub, bin_mul, bin_eql, bin_neq, bin_lss, bin_leq, bin_gtr, bin_geq, ext0, ext1, ext2, lenS_mk, eqNil_none, eqNil_some, neNil_none, neNil_some, ret_k, mem, Nat.zero_add, Nat.add_zero, Nat.mul_one, drewV, Bool.not_true, Bool.not_false]
  refine appB (cs := []) (xs := []) H6 h7 (h6.rdL (fun c hc => by simp [hc])) (by omega) fun w7 s8 cs8 H7 h8 => ?_
  have H7c : Hp w0 w7 (⟨b, 52, frm k last m f s⟩ :: (cs8 ++ (cs6 ++ F))) := H7.to (by intro f; simp only [I, U8, U64, ptr, List.set_cons_zero, List.set_cons_succ, List.eraseIdx_cons_zero, List.eraseIdx_cons_succ, List.map_append, List.map_cons, List.map_nil, List.sum_append, List.sum_cons, List.sum_nil]; omega)
  refine ldS_h H7c 0 rfl rfl (mem2 (H6.cell 0 rfl rfl) (H5c.cell 0 rfl rfl)) ?_
  have H7d : Hp w0 w7 (cs8 ++ (⟨b, 52, frm k last m f s⟩ :: (cs6 ++ F))) := H7
  refine appB H7d h8 (hs.mono (fun c hc => by simp [hc])) (by omega) fun w8 s9 cs9 H8 h9 => ?_
  refine cal_h (rdig_spec ((h9.rdL (L := cs9 ++ (⟨b, 52, frm k last m f s⟩ :: (cs6 ++ F))) (fun c hc => by simp [hc])).rd H8) (by omega)) ?_
  rintro e w9 ⟨rfl, rfl⟩
  simp only [pv_some, nilO_ptr, faO_mk, gd_yes, gd_no, gd_yes', gd_no', cnd_true, cnd_false, pick_true, pick_false, not_bool, bin_add, bin_sub, bin_mul, bin_eql, bin_neq, bin_lss, bin_leq, bin_gtr, bin_geq, ext0, ext1, ext2, lenS_mk, eqNil_none, eqNil_some, neNil_none, neNil_some, ret_k, mem, Nat.zero_add, Nat.add_zero, Nat.mul_one, drewV, Bool.not_true, Bool.not_false]
  have H8c : Hp w0 _ (⟨b, 52, frm k last m f s⟩ :: (cs6 ++ F)) := H8.drew.to (by intro f; simp only [I, U8, U64, ptr, List.set_cons_zero, List.set_cons_succ, List.eraseIdx_cons_zero, List.eraseIdx_cons_succ, List.map_append, List.map_cons, List.map_nil, List.sum_append, List.sum_cons, List.sum_nil]; omega)
  refine cal_h (rput_spec (n := 8) (by omega) H8c) ?_
  rintro e w10 ⟨s11, cs11, rfl, H10, h11⟩
  simp only [pv_some, nilO_ptr, faO_mk, gd_yes, gd_no, gd_yes', gd_no', cnd_true, cnd_false, pick_true, pick_false, not_bool, bin_add, bin_sub, bin_mul, bin_eql, bin_neq, bin_lss, bin_leq, bin_gtr, bin_geq, ext0, ext1, ext2, lenS_mk, eqNil_none, eqNil_some, neNil_none, neNil_some, ret_k, mem, Nat.zero_add, Nat.add_zero, Nat.mul_one, drewV, Bool.not_true, Bool.not_false]
  have H10' : Hp w0 w10 (cs6 ++ (⟨b, 52, frm k last m f s⟩ :: (cs11 ++ F))) := H10.to (by intro f; simp only [I, U8, U64, ptr, List.set_cons_zero, List.set_cons_succ, List.eraseIdx_cons_zero, List.eraseIdx_cons_succ, List.map_append, List.map_cons, List.map_nil, List.sum_append, List.sum_cons, List.sum_nil]; omega)
  have H10c : Hp w0 w10 (⟨b, 52, frm k last m f s⟩ :: (cs6 ++ (cs11 ++ F))) := H10.to (by intro f; simp only [I, U8, U64, ptr, List.set_cons_zero, List.set_cons_succ, List.eraseIdx_cons_zero, List.eraseIdx_cons_succ, List.map_append, List.map_cons, List.map_nil, List.sum_append, List.sum_cons, List.sum_nil]; omega)
  refine appB H10' h6 (h11.rdL (fun c hc => by simp [hc])) (by omega) fun w11 s12 cs12 H11 h12 => ?_
  have H11c : Hp w0 w11 (⟨b, 52, frm k last m f s⟩ :: (cs12 ++ F)) := H11.to (by intro f; simp only [I, U8, U64, ptr, List.set_cons_zero, List.set_cons_succ, List.eraseIdx_cons_zero, List.eraseIdx_cons_succ, List.map_append, List.map_cons, List.map_nil, List.sum_append, List.sum_cons, List.sum_nil]; omega)
  refine ldS_h H11c 0 rfl rfl (mem2 (H10c.cell 0 rfl rfl) (H8c.cell 0 rfl rfl)) ?_
  refine appB (F := ⟨b, 52, frm k last m f s⟩ :: (cs11 ++ F)) H11 h12 (hs.mono (fun c hc => by simp [hc])) (by omega) fun w12 s13 cs13 H12 h13 => ?_
  refine hok w12 s13 cs13 (H12.to (by intro f; simp only [I, U8, U64, ptr, List.set_cons_zero, List.set_cons_succ, List.eraseIdx_cons_zero, List.eraseIdx_cons_succ, List.map_append, List.map_cons, List.map_nil, List.sum_append, List.sum_cons, List.sum_nil]; omega)) ?_
  have e9 : encH k last m f n ++ be 8 (digI ([] ++ encH k last m f n ++ xs)) ++ xs = encB k last m f xs := by
    unfold encB; rw [hlen]; rfl
  rw [e9] at h13
  have e10 : 4 + 8 + 4 + 8 + n = 24 + n := by omega
  rw [e10] at h13
  exact h13
theorem renc_j5 (hs : RdL w0 F 1 s n (bv xs)) (hn : n ≤ 4096) (H : Hp w0 w (⟨b, 52, frm k last m f s⟩ :: F))
    (hok : ∀ w' s' cs', Hp w0 w' (cs' ++ F) → Sl 5 1 s' (24 + n) (bv (encB k last m f xs)) cs' → R (.returned (.tuple ⟨[s', I 0]⟩)) w') : F17_j5 R (ptr b 0) (U8 (lbit last)) w := by
  unfold F17_j5
  have H0 := H.drew
  simp only [pv_some, nilO_ptr, faO_mk, gd_yes, gd_no, gd_yes', gd_no', cnd_true, cnd_false, pick_true, pick_false, not_bool, bin_add, bin_sub, bin_mul, bin_eql, bin_neq, bin_lss, bin_leq, bin_gtr, bin_geq, ext0, ext1, ext2, lenS_mk, eqNil_none, eqNil_some, neNil_none, neNil_some, ret_k, mem, Nat.zero_add, Nat.add_zero, Nat.mul_one, drewV, Bool.not_true, Bool.not_false]
  refine ld_h H0 0 rfl rfl ?_
  simp only [pv_some, nilO_ptr, faO_mk, gd_yes, gd_no, gd_yes', gd_no', cnd_true, cnd_false, pick_true, pick_false, not_bool, bin_add, bin_sub, bin_mul, bin_eql, bin_neq, bin_lss, bin_leq, bin_gtr, bin_geq, ext0, ext1, ext2, lenS_mk, eqNil_none, eqNil_some, neNil_none, neNil_some, ret_k, mem, Nat.zero_add, Nat.add_zero, Nat.mul_one, drewV, Bool.not_true, Bool.not_false, cvU8]
  refine ld_h H0 0 rfl rfl ?_
  simp only [lenS_rdL hs, pv_some, nilO_ptr, faO_mk, gd_yes, gd_no, gd_yes', gd_no', cnd_true, cnd_false, pick_true, pick_false, not_bool, bin_add, bin_sub, bin_mul, bin_eql, bin_neq, bin_lss, bin_leq, bin_gtr, bin_geq, ext0, ext1, ext2, lenS_mk, eqNil_none, eqNil_some, neNil_none, neNil_some, ret_k, mem, Nat.zero_add, Nat.add_zero, Nat.mul_one, drewV, Bool.not_true, Bool.not_false, cvU64]
  have hlit : ∀ {L : List Chunk} {w : World} {K : VK} {R : ER}, Hp w0 w L → (∀ w' s', ∀ nb, Hp w0 w' ([⟨nb, 5, bv [k % 256, lbit last]⟩] ++ L) → Sl 5 1 s' 2 (bv [k % 256, lbit last]) [⟨nb, 5, bv [k % 256, lbit last]⟩] → K s' w') →
      valV Pg R (Instr.buildSlice 24 2 ⟨[(0, U8 (k % 256)), (1, U8 (lbit last))]⟩) K w := by
    intro L w K R H kk
    exact lit_h (r := bv [k % 256, lbit last]) elT24 H (by omega) (by omega) rfl fun w' nb H' => kk w' _ nb H' (Sl.full rfl)
  refine ⟨?_, ?_⟩
  · refine hlit H0 fun w1 s1 nb H1 h1 => ?_
    refine ⟨H1.cell 1 rfl rfl, ?_⟩
    refine cal_h (rput_spec (n := 2) (by omega) H1) ?_
    rintro e w2 ⟨s2, cs2, rfl, H2, h2⟩
    have H2c : Hp w0 w2 (⟨b, 52, frm k last m f s⟩ :: ([⟨nb, 5, bv [k % 256, lbit last]⟩] ++ (cs2 ++ F))) := H2.to (by intro f; simp only [I, U8, U64, ptr, List.set_cons_zero, List.set_cons_succ, List.eraseIdx_cons_zero, List.eraseIdx_cons_succ, List.map_append, List.map_cons, List.map_nil, List.sum_append, List.sum_cons, List.sum_nil]; omega)
    simp only [pv_some, nilO_ptr, faO_mk, gd_yes, gd_no, gd_yes', gd_no', cnd_true, cnd_false, pick_true, pick_false, not_bool, bin_add, bin_sub, bin_mul, bin_eql, bin_neq, bin_lss, bin_leq, bin_gtr, bin_geq, ext0, ext1, ext2, lenS_mk, eqNil_none, eqNil_some, neNil_none, neNil_some, ret_k, mem, Nat.zero_add, Nat.add_zero, Nat.mul_one, drewV, Bool.not_true, Bool.not_false]
    refine ⟨H2c.cell 0 rfl rfl, ?_⟩
    have H2' : Hp w0 w2 ([⟨nb, 5, bv [k % 256, lbit last]⟩] ++ (⟨b, 52, frm k last m f s⟩ :: (cs2 ++ F))) := H2.to (by intro f; simp only [I, U8, U64, ptr, List.set_cons_zero, List.set_cons_succ, List.eraseIdx_cons_zero, List.eraseIdx_cons_succ, List.map_append, List.map_cons, List.map_nil, List.sum_append, List.sum_cons, List.sum_nil]; omega)
    refine appB H2' h1 (h2.rdL (fun c hc => by simp [hc])) (by omega) fun w3 s3 cs3 H3 h3 => ?_
    exact renc_j6 (hs.mono (fun c hc => hc)) hn (H3.to (by intro f; simp only [I, U8, U64, ptr, List.set_cons_zero, List.set_cons_succ, List.eraseIdx_cons_zero, List.eraseIdx_cons_succ, List.map_append, List.map_cons, List.map_nil, List.sum_append, List.sum_cons, List.sum_nil]; omega)) h3 hok
  · refine cal_h (rput_spec (n := 2) (by omega) H0) ?_
    rintro e w2 ⟨s2, cs2, rfl, H2, h2⟩
    have H2c : Hp w0 w2 (⟨b, 52, frm k last m f s⟩ :: (cs2 ++ F)) := H2.to (by intro f; simp only [I, U8, U64, ptr, List.set_cons_zero, List.set_cons_succ, List.eraseIdx_cons_zero, List.eraseIdx_cons_succ, List.map_append, List.map_cons, List.map_nil, List.sum_append, List.sum_cons, List.sum_nil]; omega)
    simp only [pv_some, nilO_ptr, faO_mk, gd_yes, gd_no, gd_yes', gd_no', cnd_true, cnd_false, pick_true, pick_false, not_bool, bin_add, bin_sub, bin_mul, bin_eql, bin_neq, bin_lss, bin_leq, bin_gtr, bin_geq, ext0, ext1, ext2, lenS_mk, eqNil_none, eqNil_some, neNil_none, neNil_some, ret_k, mem, Nat.zero_add, Nat.add_zero, Nat.mul_one, drewV, Bool.not_true, Bool.not_false]
    refine ⟨H2c.cell 0 rfl rfl, ?_⟩
    refine hlit H2c fun w1 s1 nb H1 h1 => ?_
    refine ⟨H1.cell 1 rfl rfl, ?_⟩
    refine appB H1 h1 (h2.rdL (fun c hc => by simp [hc])) (by omega) fun w3 s3 cs3 H3 h3 => ?_
    exact renc_j6 (hs.mono (fun c hc => hc)) hn (H3.to (by intro f; simp only [I, U8, U64, ptr, List.set_cons_zero, List.set_cons_succ, List.eraseIdx_cons_zero, List.eraseIdx_cons_succ, List.map_append, List.map_cons, List.map_nil, List.sum_append, List.sum_cons, List.sum_nil]; omega)) h3 hok
theorem rEncode_spec (hs : RdL w0 F 1 s n (bv xs)) (H : Hp w0 w F) :
    Calls Pg 17 ⟨[.agg ⟨frm k last m f s⟩]⟩ w (EncPost w0 F k last m f n xs) := by
  apply F17_calls
  rw [renc_0]
  refine bxa_h H fun w1 b H1 => ?_
  refine renc_head H1 hs (fun he => ?_) (fun he => ?_)
  · exact ⟨_, 0, [], [], rfl, H1.tail, Sl.nil, fun _ => ⟨rfl, rfl, rfl⟩, fun h => absurd h he⟩
  · have hn : n ≤ 4096 := by
      refine Nat.le_of_not_lt fun h4 => ?_
      have : encE k last m f n ≠ 0 := by
        unfold encE
        split
        · decide
        · split
          · decide
          · split
            · decide
            · first | decide | (rw [if_pos h4]; decide)
      exact this he
    unfold F17_j4
    simp only [pv_some, nilO_ptr, faO_mk, gd_yes, gd_no, gd_yes', gd_no', cnd_true, cnd_false, pick_true, pick_false, not_bool, bin_add, bin_sub, bin_mul, bin_eql, bin_neq, bin_lss, bin_leq, bin_gtr, bin_geq, ext0, ext1, ext2, lenS_mk, eqNil_none, eqNil_some, neNil_none, neNil_some, ret_k, mem, Nat.zero_add, Nat.add_zero, Nat.mul_one, drewV, Bool.not_true, Bool.not_false]
    refine ld_h H1 0 rfl rfl ?_
    have fin : F17_j5 (EncPost w0 F k last m f n xs) (ptr b 0) (U8 (lbit last)) w1 := renc_j5 hs hn H1 fun w' s' cs' H' hs' =>
      ⟨s', 24 + n, _, cs', by rw [he], H', hs', fun h => absurd he h, fun _ => ⟨hn, rfl, rfl⟩⟩
    cases hl : last with
    | true => rw [hl] at fin; simp only [pv_some, nilO_ptr, faO_mk, gd_yes, gd_no, gd_yes', gd_no', cnd_true, cnd_false, pick_true, pick_false, not_bool, bin_add, bin_sub, bin_mul, bin_eql, bin_neq, bin_lss, bin_leq, bin_gtr, bin_geq, ext0, ext1, ext2, lenS_mk, eqNil_none, eqNil_some, neNil_none, neNil_some, ret_k, mem, Nat.zero_add, Nat.add_zero, Nat.mul_one, drewV, Bool.not_true, Bool.not_false]; exact fin
    | false => rw [hl] at fin; simp only [pv_some, nilO_ptr, faO_mk, gd_yes, gd_no, gd_yes', gd_no', cnd_true, cnd_false, pick_true, pick_false, not_bool, bin_add, bin_sub, bin_mul, bin_eql, bin_neq, bin_lss, bin_leq, bin_gtr, bin_geq, ext0, ext1, ext2, lenS_mk, eqNil_none, eqNil_some, neNil_none, neNil_some, ret_k, mem, Nat.zero_add, Nat.add_zero, Nat.mul_one, drewV, Bool.not_true, Bool.not_false]; exact fin
end
end Go.Proofs.Ytmnpndgmfmjfhaa.Den
end

section
set_option linter.unusedVariables false
set_option linter.unusedSimpArgs false
set_option maxRecDepth 8000
namespace Go.Proofs.Ytmnpndgmfmjfhaa.Den
open Go Go.RowKit
def i64 (x : Int) : Int := IntKind.i64.wrap x
theorem cvI64 (k : IntKind) (a : Int) : cvI .i64 (.int k a) = some (I (i64 a)) := rfl
def dK (xs : List Int) : Int := i64 (xs.getD 0 0)
def dB (xs : List Int) : Int := xs.getD 1 0
def dL (xs : List Int) : Int := i64 (getI ((xs.drop 2).take 2))
def dM (xs : List Int) : Int := i64 (getI ((xs.drop 4).take 8))
def dF (xs : List Int) : Int := i64 (getI ((xs.drop 12).take 4))
def dS (xs : List Int) : Int := getI ((xs.drop 16).take 8)
def dOk (xs : List Int) : Prop := (dK xs = 1 ∨ dK xs = 2 ∧ dB xs = 0 ∧ xs.length = 24) ∧ dB xs ≤ 1 ∧ dL xs = (xs.length : Int) - 24 ∧ 1 ≤ dM xs ∧ dF xs ≤ 2147483647
instance (xs : List Int) : Decidable (dOk xs) := by unfold dOk; infer_instance
def decE (xs : List Int) : Int := if xs.length < 24 ∨ 4120 < xs.length ∨ ¬ dOk xs then 12 else if dS xs ≠ digI (xs.take 16 ++ xs.drop 24) then 6 else 0
/-- What Decode hands back. -/
def DecPost (w0 : Base) (F : List Chunk) (xs : List Int) : ER := fun e w' => ∃ k last m f s' n' ys cs, e = .returned (.tuple ⟨[.agg ⟨frm k last m f s'⟩, I (decE xs)]⟩) ∧ Hp w0 w' (cs ++ F) ∧ Sl 5 1 s' n' (bv ys) cs ∧
  (decE xs ≠ 0 → k = 0 ∧ last = false ∧ m = 0 ∧ f = 0 ∧ n' = 0 ∧ s' = .slice none 0 0 ∧ ys = []) ∧
  (decE xs = 0 → k = dK xs ∧ last = decide (dB xs = 1) ∧ m = dM xs ∧ f = dF xs ∧ n' + 24 = xs.length ∧ ys = xs.drop 24)
section
variable {w : World} {w0 : Base} {F L : List Chunk} {R : ER} {s : Value} {n b : Nat} {xs : List Int}
theorem eqNilS_rd {s : Value} {n : Nat} {ys : List Value} (h : RdL w0 L 1 s n ys) : (eqNilS s = some (.bool true) ∧ n = 0 ∧ ys = []) ∨ eqNilS s = some (.bool false) := by
  rcases h with (⟨c, rfl, h0, rfl⟩ | ⟨a, c, rfl, _, h⟩) | ⟨b, o, c, el, l, rfl, _⟩
  · exact .inl ⟨rfl, by omega, rfl⟩
  · exact .inr rfl
  · exact .inr rfl
theorem Clone1_spec (hs : RdL w0 F 1 s n (bv xs)) (hne : eqNilS s = some (.bool false)) (hn : n < 2 ^ 40) (H : Hp w0 w F) :
    Calls Pg 26 ⟨[s]⟩ w fun e w' => ∃ s' b l, e = .returned s' ∧ Hp w0 w' (⟨b, 5, l⟩ :: F) ∧ Sl 5 1 s' n (bv xs) [⟨b, 5, l⟩] := by
  apply F26_calls
  unfold F26
  simp only [hne, pv_some, nilO_ptr, faO_mk, gd_yes, gd_no, gd_yes', gd_no', cnd_true, cnd_false, pick_true, pick_false, not_bool, bin_add, bin_sub, bin_mul, bin_eql, bin_neq, bin_lss, bin_leq, bin_gtr, bin_geq, ext0, ext1, ext2, lenS_mk, eqNil_none, eqNil_some, neNil_none, neNil_some, ret_k, mem, Nat.zero_add, Nat.add_zero, Nat.mul_one, drewV, Bool.not_true, Bool.not_false]
  refine lit0c_h elT24 H fun w1 b H1 h1 => ?_
  refine append_h' (cs := [⟨b, 5, []⟩]) elT24 H1 h1 (hs.mono (fun c hc => by simp [hc])) bv_scalar (by omega) (by omega) fun w2 s2 cs2 H2 h2 hc => ?_
  rcases hc with ⟨hc, _⟩ | ⟨⟨b2, t2, l2⟩, rfl⟩
  · cases hc
  · have ht : t2 = 5 := by
      rcases h2 with ⟨h, _⟩ | ⟨b3, cap, rest, h, _⟩
      · cases h
      · simp only [List.cons.injEq, Chunk.mk.injEq, and_true] at h; exact h.2.1
    subst ht
    rw [Nat.zero_add] at h2
    exact ⟨s2, b2, l2, rfl, H2, h2⟩
theorem Clone_spec (hs : RdL w0 F 1 s n (bv xs)) (hn : n < 2 ^ 40) (H : Hp w0 w F) :
    Calls Pg 26 ⟨[s]⟩ w fun e w' => ∃ s' cs, e = .returned s' ∧ Hp w0 w' (cs ++ F) ∧ Sl 5 1 s' n (bv xs) cs := by
  rcases eqNilS_rd hs with ⟨h, rfl, h0⟩ | h
  · apply F26_calls
    unfold F26
    simp only [h, pv_some, nilO_ptr, faO_mk, gd_yes, gd_no, gd_yes', gd_no', cnd_true, cnd_false, pick_true, pick_false, not_bool, bin_add, bin_sub, bin_mul, bin_eql, bin_neq, bin_lss, bin_leq, bin_gtr, bin_geq, ext0, ext1, ext2, lenS_mk, eqNil_none, eqNil_some, neNil_none, neNil_some, ret_k, mem, Nat.zero_add, Nat.add_zero, Nat.mul_one, drewV, Bool.not_true, Bool.not_false]
    exact ⟨_, [], rfl, H, by rw [h0]; exact Sl.nil⟩
  · refine (Clone1_spec hs h hn H).mono ?_
    rintro e w' ⟨s', b, l, rfl, H', hs'⟩
    exact ⟨s', _, rfl, H', hs'⟩
def zfrm : List Value := [I 0, .bool false, I 0, I 0, .slice none 0 0]
theorem ixA24_0 (b : Nat) : ixA 24 1 (ptr b 0) (I 0) = some (ptr b 0) := rfl
theorem ixA24_1 (b : Nat) : ixA 24 1 (ptr b 0) (I 1) = some (ptr b 1) := rfl
theorem bld0 : bldO [I 0, .bool false, I 0, I 0, .slice none 0 0] [] = some (.agg ⟨zfrm⟩) := rfl
theorem sl_cells {s : Value} {el sz n : Nat} {xs : List Value} {cs : List Chunk} (h : Sl el sz s n xs cs) : s.cells = #[s] := by
  rcases h with ⟨_, ⟨a, rfl⟩, _⟩ | ⟨b, cap, rest, _, rfl, _⟩ <;> rfl
theorem sl_scalar {s : Value} {el sz n : Nat} {xs : List Value} {cs : List Chunk} (h : Sl el sz s n xs cs) : scalar s = true := by
  rcases h with ⟨_, ⟨a, rfl⟩, _⟩ | ⟨b, cap, rest, _, rfl, _⟩ <;> rfl
theorem bldF {k m f : Int} {last : Bool} {s : Value} (h : s.cells = #[s]) : bldO [I 0, .bool false, I 0, I 0, .slice none 0 0] [(0, 1, I k), (1, 1, .bool last), (2, 1, I m), (3, 1, I f), (4, 1, s)] = some (.agg ⟨frm k last m f s⟩) := by
  simp [bldO, buildL, h, show ∀ n, (Value.int .i64 n).cells = #[I n] from fun _ => rfl, show ∀ b, (Value.bool b).cells = #[.bool b] from fun _ => rfl, frm]
theorem frm_scalar {k m f : Int} {last : Bool} {s : Value} (h : scalar s = true) : ∀ c ∈ frm k last m f s, scalar c = true := by
  intro c hc
  simp only [frm, List.mem_cons, List.not_mem_nil, or_false] at hc
  rcases hc with rfl | rfl | rfl | rfl | rfl <;> first | rfl | exact h
/-- The place of a byte array that was copied out of a slice. -/
theorem arr24 (hs : RdL w0 F 1 s n (bv xs)) (h24 : 24 ≤ n) : ∃ a, arrO 24 s = some (.pointer (some a)) ∧ ∀ {w : World} {L : List Chunk}, Hp w0 w L → (∀ c ∈ F, c ∈ L) → cellsAt w a 0 24 = some (bv (xs.take 24)) := by
  have hsl : ∃ a c, s = .slice (some a) n c := by
    rcases hs with (⟨c, rfl, h0, _⟩ | ⟨a, c, rfl, _, h⟩) | ⟨b, o, c, el, l, rfl, hmc, hm, hle, _⟩
    · omega
    · exact ⟨a, c, rfl⟩
    · exact ⟨_, c, rfl⟩
  obtain ⟨a, c, rfl⟩ := hsl
  refine ⟨a, by unfold arrO; simp only; rw [if_neg (by omega)], fun {w L} H hL => ?_⟩
  rcases (hs.mono hL).rd H with ⟨c, h, h0, _⟩ | ⟨a', c', he, _, h⟩
  · omega
  · injection he with he _ _; injection he with he; subst he
    obtain ⟨h1, h2⟩ := (cellsAt_spec _ _ _).1 h
    refine (cellsAt_spec _ _ _).2 ⟨by simp [bv_length] at h1 ⊢; omega, fun j hj => ?_⟩
    rw [h2 j (by omega)]
    simp [bv, List.getElem?_take, hj]
theorem bv_take (xs : List Int) (n : Nat) : bv (xs.take n) = (bv xs).take n := by simp [bv, List.map_take]
theorem bv_drop (xs : List Int) (n : Nat) : bv (xs.drop n) = (bv xs).drop n := by simp [bv, List.map_drop]
theorem cellsAt_add {w : World} {a : Addr} : ∀ (n i k : Nat), cellsAt w (a.add k) i n = cellsAt w a (k + i) n
  | 0, _, _ => rfl
  | n + 1, i, k => by simp only [cellsAt, add_add, cellsAt_add n (i + 1) k, Nat.add_assoc]
theorem boundO_some {n d : Nat} {x : Int} (h0 : 0 ≤ x) (h : x ≤ (n : Int)) : boundO (some (I x)) n d = some x.toNat := by
  simp only [boundO]; rw [if_pos ⟨h0, h⟩]
/-- A part of a slice that can be read. -/
theorem slS_rd {lo hi : Nat} {X Y : Int} (hs : RdL w0 F 1 s n (bv xs)) (hX : X = (lo : Int)) (hY : Y = (hi : Int)) (hne : 0 < n) (h1 : lo ≤ hi) (h2 : hi ≤ n) :
    ∃ s', slS 1 s (some (I X)) (some (I Y)) = some s' ∧ RdL w0 F 1 s' (hi - lo) (bv ((xs.drop lo).take (hi - lo))) ∧ eqNilS s' = some (.bool false) := by
  subst hX hY
  have hl := hs.length
  rw [bv_length] at hl
  rcases hs with (⟨c, rfl, h0, _⟩ | ⟨a, c, rfl, hmc, h⟩) | ⟨b, o, c, el, l, rfl, hmc, hm, hle, he⟩
  · omega
  · refine ⟨.slice (if c = lo then some a else some (a.add (lo * 1))) (hi - lo) (c - lo), ?_, ?_, by split <;> rfl⟩
    · simp only [slS, boundO_some (Int.natCast_nonneg hi) (show (hi : Int) ≤ (c : Int) from by omega), boundO_some (Int.natCast_nonneg lo) (show (lo : Int) ≤ ((hi : Nat) : Int) from by omega), Int.toNat_natCast, Option.map_some]
    · left; right
      by_cases hc : c = lo
      · have : hi - lo = 0 := by omega
        rw [if_pos hc, this]
        exact ⟨a, c - lo, rfl, by omega, rfl⟩
      · rw [if_neg hc]
        refine ⟨_, _, rfl, by omega, ?_⟩
        rw [Nat.mul_one, cellsAt_add]
        obtain ⟨g1, g2⟩ := (cellsAt_spec _ _ _).1 h
        refine (cellsAt_spec _ _ _).2 ⟨by simp [bv_length]; omega, fun j hj => ?_⟩
        have := g2 (lo + j) (by omega)
        rw [Nat.add_zero, ← Nat.zero_add (lo + j), this]
        simp only [bv_take, bv_drop]
        rw [List.getElem?_take, if_pos (by omega), List.getElem?_drop]
  · refine ⟨.slice (if c = lo then some ⟨b, o, none⟩ else some ⟨b, o + lo, none⟩) (hi - lo) (c - lo), ?_, ?_, by split <;> rfl⟩
    · simp only [slS, boundO_some (Int.natCast_nonneg hi) (show (hi : Int) ≤ (c : Int) from by omega), boundO_some (Int.natCast_nonneg lo) (show (lo : Int) ≤ ((hi : Nat) : Int) from by omega), Int.toNat_natCast, Option.map_some, add_mk, Nat.mul_one]
    · right
      by_cases hc : c = lo
      · have : hi - lo = 0 := by omega
        rw [if_pos hc, this]
        exact ⟨b, o, c - lo, el, l, rfl, by omega, hm, by omega, by simp [bv]⟩
      · rw [if_neg hc]
        refine ⟨b, o + lo, c - lo, el, l, rfl, by omega, hm, by omega, ?_⟩
        rw [bv_take, bv_drop, he, List.drop_take, List.drop_drop, List.take_take, Nat.mul_one, Nat.mul_one, Nat.min_eq_left (by omega)]
theorem slS_from {lo : Nat} {X : Int} (hs : RdL w0 F 1 s n (bv xs)) (hX : X = (lo : Int)) (hne : 0 < n) (h2 : lo ≤ n) :
    ∃ s', slS 1 s (some (I X)) none = some s' ∧ RdL w0 F 1 s' (n - lo) (bv (xs.drop lo)) ∧ eqNilS s' = some (.bool false) := by
  obtain ⟨s', g1, g2, g3⟩ := slS_rd hs hX rfl hne h2 (Nat.le_refl n)
  have hl := hs.length
  rw [bv_length] at hl
  refine ⟨s', ?_, ?_, g3⟩
  · rw [← g1]
    rcases hs with (⟨c, rfl, h0, _⟩ | ⟨a, c, rfl, hmc, h⟩) | ⟨b, o, c, el, l, rfl, hmc, hm, hle, he⟩
    · omega
    · simp only [slS, boundO_some (Int.natCast_nonneg n) (show (n : Int) ≤ (c : Int) from by omega), Int.toNat_natCast]; rfl
    · simp only [slS, boundO_some (Int.natCast_nonneg n) (show (n : Int) ≤ (c : Int) from by omega), Int.toNat_natCast]; rfl
  · rw [List.take_of_length_le (by simp; omega)] at g2
    exact g2
theorem slS_to {hi : Nat} {Y : Int} (hs : RdL w0 F 1 s n (bv xs)) (hY : Y = (hi : Int)) (hne : 0 < n) (h2 : hi ≤ n) :
    ∃ s', slS 1 s none (some (I Y)) = some s' ∧ RdL w0 F 1 s' hi (bv (xs.take hi)) ∧ eqNilS s' = some (.bool false) := by
  obtain ⟨s', g1, g2, g3⟩ := slS_rd (lo := 0) hs rfl hY hne (Nat.zero_le _) h2
  refine ⟨s', ?_, by simpa using g2, g3⟩
  rw [← g1]
  rcases hs with (⟨c, rfl, h0, _⟩ | ⟨a, c, rfl, hmc, h⟩) | ⟨b, o, c, el, l, rfl, hmc, hm, hle, he⟩
  · omega
  · subst hY
    simp only [slS, boundO_some (Int.natCast_nonneg hi) (show (hi : Int) ≤ (c : Int) from by omega), Int.toNat_natCast]; rfl
  · subst hY
    simp only [slS, boundO_some (Int.natCast_nonneg hi) (show (hi : Int) ≤ (c : Int) from by omega), Int.toNat_natCast]; rfl
end
end Go.Proofs.Ytmnpndgmfmjfhaa.Den
end

section
set_option linter.unusedVariables false
set_option linter.unusedSimpArgs false
set_option maxRecDepth 8000
namespace Go.Proofs.Ytmnpndgmfmjfhaa.Den
open Go Go.RowKit
section
variable {w : World} {w0 : Base} {F L : List Chunk} {R : ER} {s : Value} {n b : Nat} {xs : List Int}
theorem getD_take {xs : List Int} {i n : Nat} (h : i < n) : (xs.take n).getD i 0 = xs.getD i 0 := by
  simp [List.getD_eq_getElem?_getD, List.getElem?_take, h]
theorem take_part (xs : List Int) (a m n : Nat) (h : a + m ≤ n) : ((xs.take n).drop a).take m = (xs.drop a).take m := by
  rw [List.drop_take, List.take_take, Nat.min_eq_left (by omega)]
theorem bv_getD {xs : List Int} {i : Nat} (h : i < xs.length) : (bv xs)[i]? = some (U8 (xs.getD i 0)) := by
  simp [bv, List.getD_eq_getElem?_getD, h]
/-- Decode's last part: the checksum. -/
theorem dec_j4 {x2 x6 hb fb cb : Nat} {s' : Value} {l : List Value} {k m f : Int} {last : Bool} (hs : RdL w0 F 1 s n (bv xs)) (hn : xs.length = n) (h24 : 24 ≤ n) (hn2 : n ≤ 4120) (hok : dOk xs)
    (hk : k = dK xs) (hl : last = decide (dB xs = 1)) (hm : m = dM xs) (hf : f = dF xs)
    (hc : Sl 5 1 s' (n - 24) (bv (xs.drop 24)) [⟨cb, 5, l⟩])
    (H : Hp w0 w (⟨x6, 48, frm k last m f s'⟩ :: ⟨hb, 117, bv (xs.take 24)⟩ :: ⟨fb, 112, [I 2, I 2, I 4, I 8, I 12, I 4, I 16, I 8]⟩ :: ⟨x2, 48, zfrm⟩ :: ⟨cb, 5, l⟩ :: F)) :
    F20_j4 (DecPost w0 F xs) s (ptr x2 0) (ptr hb 0) (ptr fb 0) (ptr x6 0) w := by
  have hlt : (xs.take 24).length = 24 := by rw [List.length_take]; omega
  unfold F20_j4
  simp only [ixA42_3, pv_some, nilO_ptr, faO_mk, gd_yes, gd_no, gd_yes', gd_no', cnd_true, cnd_false, pick_true, pick_false, not_bool, bin_add, bin_sub, bin_mul, bin_eql, bin_neq, bin_lss, bin_leq, bin_gtr, bin_geq, ext0, ext1, ext2, lenS_mk, eqNil_none, eqNil_some, neNil_none, neNil_some, ret_k, mem, Nat.zero_add, Nat.add_zero, Nat.mul_one, drewV, Bool.not_true, Bool.not_false]
  refine ldN_h H 2 rfl (by decide) ?_
  refine ldA_h H 1 rfl (by rw [bv_length, hlt]) ?_
  refine cal_h (get_spec (at_ := 16) (n := 8) H hlt (by omega) (by omega)) ?_
  rintro e w1 ⟨rfl, H1⟩
  simp only [pv_some, nilO_ptr, faO_mk, gd_yes, gd_no, gd_yes', gd_no', cnd_true, cnd_false, pick_true, pick_false, not_bool, bin_add, bin_sub, bin_mul, bin_eql, bin_neq, bin_lss, bin_leq, bin_gtr, bin_geq, ext0, ext1, ext2, lenS_mk, eqNil_none, eqNil_some, neNil_none, neNil_some, ret_k, mem, Nat.zero_add, Nat.add_zero, Nat.mul_one, drewV, Bool.not_true, Bool.not_false]
  refine cal_h (dig_spec (hs.mono (fun c hc => by simp [hc]) |>.rd H1) (by omega) (by omega)) ?_
  rintro e w2 ⟨rfl, rfl⟩
  rw [take_part _ _ _ _ (by omega)]
  simp only [pv_some, nilO_ptr, faO_mk, gd_yes, gd_no, gd_yes', gd_no', cnd_true, cnd_false, pick_true, pick_false, not_bool, bin_add, bin_sub, bin_mul, bin_eql, bin_neq, bin_lss, bin_leq, bin_gtr, bin_geq, ext0, ext1, ext2, lenS_mk, eqNil_none, eqNil_some, neNil_none, neNil_some, ret_k, mem, Nat.zero_add, Nat.add_zero, Nat.mul_one, drewV, Bool.not_true, Bool.not_false]
  have he : ¬ (xs.length < 24 ∨ 4120 < xs.length ∨ ¬ dOk xs) := by
    rintro (h | h | h)
    · omega
    · omega
    · exact h hok
  refine cnd_decide (fun hne => ?_) (fun heq => ?_)
  · have e6 : decE xs = 6 := by unfold decE; rw [if_neg he, if_pos (show dS xs ≠ _ from hne)]
    simp only [bld0, pv_some, nilO_ptr, faO_mk, gd_yes, gd_no, gd_yes', gd_no', cnd_true, cnd_false, pick_true, pick_false, not_bool, bin_add, bin_sub, bin_mul, bin_eql, bin_neq, bin_lss, bin_leq, bin_gtr, bin_geq, ext0, ext1, ext2, lenS_mk, eqNil_none, eqNil_some, neNil_none, neNil_some, ret_k, mem, Nat.zero_add, Nat.add_zero, Nat.mul_one, drewV, Bool.not_true, Bool.not_false]
    refine stA_h H1 3 rfl rfl rfl (by decide) fun w3 H3 => ?_
    refine ldA_h H3 3 rfl rfl ?_
    refine ⟨0, false, 0, 0, .slice none 0 0, 0, [], [], by rw [e6]; rfl, H3.to (by intro f; simp only [I, U8, U64, ptr, List.set_cons_zero, List.set_cons_succ, List.eraseIdx_cons_zero, List.eraseIdx_cons_succ, List.map_append, List.map_cons, List.map_nil, List.sum_append, List.sum_cons, List.sum_nil]; omega), Sl.nil, fun _ => ⟨rfl, rfl, rfl, rfl, rfl, rfl, rfl⟩, fun h => ?_⟩
    rw [e6] at h; exact absurd h (by decide)
  · have e0 : decE xs = 0 := by unfold decE; rw [if_neg he, if_neg (show ¬ dS xs ≠ _ from heq)]
    refine ldA_h H1 0 rfl rfl ?_
    refine stA_h H1 3 rfl rfl rfl (frm_scalar (sl_scalar hc)) fun w3 H3 => ?_
    refine ldA_h H3 3 rfl rfl ?_
    refine ⟨k, last, m, f, s', n - 24, _, [⟨cb, 5, l⟩], by rw [e0], H3.to (by intro f; simp only [I, U8, U64, ptr, List.set_cons_zero, List.set_cons_succ, List.eraseIdx_cons_zero, List.eraseIdx_cons_succ, List.map_append, List.map_cons, List.map_nil, List.sum_append, List.sum_cons, List.sum_nil]; omega), hc, fun h => absurd e0 h, fun _ => ⟨hk, hl, hm, hf, by omega, rfl⟩⟩
/-- An error of the form: the zero frame. -/
theorem dec_bad {x2 : Nat} {L : List Chunk} {l0 : List Value} (hl0 : l0.length = 5) (hb : decE xs = 12) (H : Hp w0 w (⟨x2, 48, l0⟩ :: (L ++ F))) :
    (pv (bldO [I 0, .bool false, I 0, I 0, .slice none 0 0] []) fun v => stN 5 (ptr x2 0) v fun _ => ldN 5 (ptr x2 0) fun v36 => DecPost w0 F xs (.returned (.tuple ⟨[v36, I 12]⟩))) w := by
  simp only [bld0, pv_some, nilO_ptr, faO_mk, gd_yes, gd_no, gd_yes', gd_no', cnd_true, cnd_false, pick_true, pick_false, not_bool, bin_add, bin_sub, bin_mul, bin_eql, bin_neq, bin_lss, bin_leq, bin_gtr, bin_geq, ext0, ext1, ext2, lenS_mk, eqNil_none, eqNil_some, neNil_none, neNil_some, ret_k, mem, Nat.zero_add, Nat.add_zero, Nat.mul_one, drewV, Bool.not_true, Bool.not_false]
  refine stA_h H 0 rfl rfl hl0 (by decide) fun w3 H3 => ?_
  refine ldA_h H3 0 rfl rfl ?_
  refine ⟨0, false, 0, 0, .slice none 0 0, 0, [], [], by rw [hb]; rfl, H3.to (by intro f; simp only [I, U8, U64, ptr, List.set_cons_zero, List.set_cons_succ, List.eraseIdx_cons_zero, List.eraseIdx_cons_succ, List.map_append, List.map_cons, List.map_nil, List.sum_append, List.sum_cons, List.sum_nil]; omega), Sl.nil, fun _ => ⟨rfl, rfl, rfl, rfl, rfl, rfl, rfl⟩, fun h => ?_⟩
  rw [hb] at h; exact absurd h (by decide)
theorem dec_j5 {x2 x6 hb fb cb : Nat} {s' : Value} {l : List Value} {k m f : Int} {last : Bool} {ok : Bool} (hs : RdL w0 F 1 s n (bv xs)) (hn : xs.length = n) (h24 : 24 ≤ n) (hn2 : n ≤ 4120)
    (hk : k = dK xs) (hl : last = decide (dB xs = 1)) (hm : m = dM xs) (hf : f = dF xs)
    (hc : Sl 5 1 s' (n - 24) (bv (xs.drop 24)) [⟨cb, 5, l⟩]) (hok : ok = true ↔ (dK xs = 1 ∨ dK xs = 2 ∧ dB xs = 0 ∧ xs.length = 24))
    (H : Hp w0 w (⟨x6, 48, frm k last m f s'⟩ :: ⟨hb, 117, bv (xs.take 24)⟩ :: ⟨fb, 112, [I 2, I 2, I 4, I 8, I 12, I 4, I 16, I 8]⟩ :: ⟨x2, 48, zfrm⟩ :: ⟨cb, 5, l⟩ :: F)) :
    F20_j5 (DecPost w0 F xs) s (ptr x2 0) (ptr hb 0) (ptr fb 0) (ptr x6 0) (.bool ok) w := by
  have hlt : (xs.take 24).length = 24 := by rw [List.length_take]; omega
  have hb12 : ¬ dOk xs → decE xs = 12 := fun h => by unfold decE; rw [if_pos (.inr (.inr h))]
  have bad : ∀ {w}, ¬ dOk xs → Hp w0 w (⟨x6, 48, frm k last m f s'⟩ :: ⟨hb, 117, bv (xs.take 24)⟩ :: ⟨fb, 112, [I 2, I 2, I 4, I 8, I 12, I 4, I 16, I 8]⟩ :: ⟨x2, 48, zfrm⟩ :: ⟨cb, 5, l⟩ :: F) →
      (pv (bldO [I 0, .bool false, I 0, I 0, .slice none 0 0] []) fun v => stN 5 (ptr x2 0) v fun _ => ldN 5 (ptr x2 0) fun v36 => DecPost w0 F xs (.returned (.tuple ⟨[v36, I 12]⟩))) w := by
    intro w h H
    exact dec_bad (L := [⟨x6, 48, frm k last m f s'⟩, ⟨hb, 117, bv (xs.take 24)⟩, ⟨fb, 112, [I 2, I 2, I 4, I 8, I 12, I 4, I 16, I 8]⟩, ⟨cb, 5, l⟩]) (l0 := zfrm) rfl (hb12 h) (H.to (by intro f; simp only [I, U8, U64, ptr, List.set_cons_zero, List.set_cons_succ, List.eraseIdx_cons_zero, List.eraseIdx_cons_succ, List.map_append, List.map_cons, List.map_nil, List.sum_append, List.sum_cons, List.sum_nil]; omega))
  unfold F20_j5
  simp only [ixA24_1, ixA42_0, pv_some, nilO_ptr, faO_mk, gd_yes, gd_no, gd_yes', gd_no', cnd_true, cnd_false, pick_true, pick_false, not_bool, bin_add, bin_sub, bin_mul, bin_eql, bin_neq, bin_lss, bin_leq, bin_gtr, bin_geq, ext0, ext1, ext2, lenS_mk, eqNil_none, eqNil_some, neNil_none, neNil_some, ret_k, mem, Nat.zero_add, Nat.add_zero, Nat.mul_one, drewV, Bool.not_true, Bool.not_false]
  have H0 := H.drew
  cases hv : ok with
  | false =>
    simp only [pv_some, nilO_ptr, faO_mk, gd_yes, gd_no, gd_yes', gd_no', cnd_true, cnd_false, pick_true, pick_false, not_bool, bin_add, bin_sub, bin_mul, bin_eql, bin_neq, bin_lss, bin_leq, bin_gtr, bin_geq, ext0, ext1, ext2, lenS_mk, eqNil_none, eqNil_some, neNil_none, neNil_some, ret_k, mem, Nat.zero_add, Nat.add_zero, Nat.mul_one, drewV, Bool.not_true, Bool.not_false]
    refine bad (fun h => ?_) H0
    have := hok.2 h.1
    rw [hv] at this; cases this
  | true =>
    simp only [pv_some, nilO_ptr, faO_mk, gd_yes, gd_no, gd_yes', gd_no', cnd_true, cnd_false, pick_true, pick_false, not_bool, bin_add, bin_sub, bin_mul, bin_eql, bin_neq, bin_lss, bin_leq, bin_gtr, bin_geq, ext0, ext1, ext2, lenS_mk, eqNil_none, eqNil_some, neNil_none, neNil_some, ret_k, mem, Nat.zero_add, Nat.add_zero, Nat.mul_one, drewV, Bool.not_true, Bool.not_false]
    refine ld_h H0 1 rfl (bv_getD (i := 1) (by omega)) ?_
    rw [getD_take (by omega)]
    simp only [pv_some, nilO_ptr, faO_mk, gd_yes, gd_no, gd_yes', gd_no', cnd_true, cnd_false, pick_true, pick_false, not_bool, bin_add, bin_sub, bin_mul, bin_eql, bin_neq, bin_lss, bin_leq, bin_gtr, bin_geq, ext0, ext1, ext2, lenS_mk, eqNil_none, eqNil_some, neNil_none, neNil_some, ret_k, mem, Nat.zero_add, Nat.add_zero, Nat.mul_one, drewV, Bool.not_true, Bool.not_false]
    by_cases h1 : 1 < dB xs
    · have : decide (1 < xs.getD 1 0) = true := decide_eq_true h1
      simp only [this, pv_some, nilO_ptr, faO_mk, gd_yes, gd_no, gd_yes', gd_no', cnd_true, cnd_false, pick_true, pick_false, not_bool, bin_add, bin_sub, bin_mul, bin_eql, bin_neq, bin_lss, bin_leq, bin_gtr, bin_geq, ext0, ext1, ext2, lenS_mk, eqNil_none, eqNil_some, neNil_none, neNil_some, ret_k, mem, Nat.zero_add, Nat.add_zero, Nat.mul_one, drewV, Bool.not_true, Bool.not_false]
      exact bad (fun h => by have := h.2.1; omega) H0
    · have : decide (1 < xs.getD 1 0) = false := decide_eq_false h1
      simp only [this, pv_some, nilO_ptr, faO_mk, gd_yes, gd_no, gd_yes', gd_no', cnd_true, cnd_false, pick_true, pick_false, not_bool, bin_add, bin_sub, bin_mul, bin_eql, bin_neq, bin_lss, bin_leq, bin_gtr, bin_geq, ext0, ext1, ext2, lenS_mk, eqNil_none, eqNil_some, neNil_none, neNil_some, ret_k, mem, Nat.zero_add, Nat.add_zero, Nat.mul_one, drewV, Bool.not_true, Bool.not_false]
      refine ldN_h H0 2 rfl (by decide) ?_
      refine ldA_h H0 1 rfl (by rw [bv_length, hlt]) ?_
      refine cal_h (get_spec (at_ := 2) (n := 2) H0 hlt (by omega) (by omega)) ?_
      rintro e w1 ⟨rfl, H1⟩
      rw [take_part _ _ _ _ (by omega)]
      simp only [cvI64, pv_some, nilO_ptr, faO_mk, gd_yes, gd_no, gd_yes', gd_no', cnd_true, cnd_false, pick_true, pick_false, not_bool, bin_add, bin_sub, bin_mul, bin_eql, bin_neq, bin_lss, bin_leq, bin_gtr, bin_geq, ext0, ext1, ext2, lenS_mk, eqNil_none, eqNil_some, neNil_none, neNil_some, ret_k, mem, Nat.zero_add, Nat.add_zero, Nat.mul_one, drewV, Bool.not_true, Bool.not_false]
      refine ldS_h H1 0 rfl rfl (mem1 (H0.cell 0 rfl rfl)) ?_
      simp only [lenS_sl hc, pv_some, nilO_ptr, faO_mk, gd_yes, gd_no, gd_yes', gd_no', cnd_true, cnd_false, pick_true, pick_false, not_bool, bin_add, bin_sub, bin_mul, bin_eql, bin_neq, bin_lss, bin_leq, bin_gtr, bin_geq, ext0, ext1, ext2, lenS_mk, eqNil_none, eqNil_some, neNil_none, neNil_some, ret_k, mem, Nat.zero_add, Nat.add_zero, Nat.mul_one, drewV, Bool.not_true, Bool.not_false]
      have hd : ∀ x : Int, decide (i64 x ≠ ((n - 24 : Nat) : Int)) = decide (¬ i64 x = (n : Int) - 24) := by
        intro x; congr 1; rw [show ((n - 24 : Nat) : Int) = (n : Int) - 24 from by omega]
      by_cases h2 : dL xs = (n : Int) - 24
      · have : decide (i64 (getI ((xs.drop 2).take 2)) ≠ ((n - 24 : Nat) : Int)) = false := by rw [hd]; exact decide_eq_false (by rw [Decidable.not_not]; exact h2)
        simp only [this, pv_some, nilO_ptr, faO_mk, gd_yes, gd_no, gd_yes', gd_no', cnd_true, cnd_false, pick_true, pick_false, not_bool, bin_add, bin_sub, bin_mul, bin_eql, bin_neq, bin_lss, bin_leq, bin_gtr, bin_geq, ext0, ext1, ext2, lenS_mk, eqNil_none, eqNil_some, neNil_none, neNil_some, ret_k, mem, Nat.zero_add, Nat.add_zero, Nat.mul_one, drewV, Bool.not_true, Bool.not_false]
        refine ld_h H1 0 rfl rfl ?_
        by_cases h3 : m < 1
        · simp only [decide_eq_true h3, pv_some, nilO_ptr, faO_mk, gd_yes, gd_no, gd_yes', gd_no', cnd_true, cnd_false, pick_true, pick_false, not_bool, bin_add, bin_sub, bin_mul, bin_eql, bin_neq, bin_lss, bin_leq, bin_gtr, bin_geq, ext0, ext1, ext2, lenS_mk, eqNil_none, eqNil_some, neNil_none, neNil_some, ret_k, mem, Nat.zero_add, Nat.add_zero, Nat.mul_one, drewV, Bool.not_true, Bool.not_false]
          exact bad (fun h => by have := h.2.2.2.1; omega) H1
        · simp only [decide_eq_false h3, pv_some, nilO_ptr, faO_mk, gd_yes, gd_no, gd_yes', gd_no', cnd_true, cnd_false, pick_true, pick_false, not_bool, bin_add, bin_sub, bin_mul, bin_eql, bin_neq, bin_lss, bin_leq, bin_gtr, bin_geq, ext0, ext1, ext2, lenS_mk, eqNil_none, eqNil_some, neNil_none, neNil_some, ret_k, mem, Nat.zero_add, Nat.add_zero, Nat.mul_one, drewV, Bool.not_true, Bool.not_false]
          refine ld_h H1 0 rfl rfl ?_
          by_cases h4 : 2147483647 < f
          · simp only [decide_eq_true h4, pv_some, nilO_ptr, faO_mk, gd_yes, gd_no, gd_yes', gd_no', cnd_true, cnd_false, pick_true, pick_false, not_bool, bin_add, bin_sub, bin_mul, bin_eql, bin_neq, bin_lss, bin_leq, bin_gtr, bin_geq, ext0, ext1, ext2, lenS_mk, eqNil_none, eqNil_some, neNil_none, neNil_some, ret_k, mem, Nat.zero_add, Nat.add_zero, Nat.mul_one, drewV, Bool.not_true, Bool.not_false]
            exact bad (fun h => by have := h.2.2.2.2; omega) H1
          · simp only [decide_eq_false h4, pv_some, nilO_ptr, faO_mk, gd_yes, gd_no, gd_yes', gd_no', cnd_true, cnd_false, pick_true, pick_false, not_bool, bin_add, bin_sub, bin_mul, bin_eql, bin_neq, bin_lss, bin_leq, bin_gtr, bin_geq, ext0, ext1, ext2, lenS_mk, eqNil_none, eqNil_some, neNil_none, neNil_some, ret_k, mem, Nat.zero_add, Nat.add_zero, Nat.mul_one, drewV, Bool.not_true, Bool.not_false]
            exact dec_j4 hs hn h24 hn2 ⟨hok.1 hv, by omega, by rw [hn]; exact h2, by omega, by omega⟩ hk hl hm hf hc H1
      · have : decide (i64 (getI ((xs.drop 2).take 2)) ≠ ((n - 24 : Nat) : Int)) = true := by rw [hd]; exact decide_eq_true h2
        simp only [this, pv_some, nilO_ptr, faO_mk, gd_yes, gd_no, gd_yes', gd_no', cnd_true, cnd_false, pick_true, pick_false, not_bool, bin_add, bin_sub, bin_mul, bin_eql, bin_neq, bin_lss, bin_leq, bin_gtr, bin_geq, ext0, ext1, ext2, lenS_mk, eqNil_none, eqNil_some, neNil_none, neNil_some, ret_k, mem, Nat.zero_add, Nat.add_zero, Nat.mul_one, drewV, Bool.not_true, Bool.not_false]
        exact bad (fun h => h2 (by rw [h.2.2.1, hn])) H1
theorem dec_j3 {x2 x6 hb fb cb : Nat} {s' : Value} {l : List Value} {k m f : Int} {last : Bool} (hs : RdL w0 F 1 s n (bv xs)) (hn : xs.length = n) (h24 : 24 ≤ n) (hn2 : n ≤ 4120)
    (hk : k = dK xs) (hl : last = decide (dB xs = 1)) (hm : m = dM xs) (hf : f = dF xs)
    (hc : Sl 5 1 s' (n - 24) (bv (xs.drop 24)) [⟨cb, 5, l⟩])
    (H : Hp w0 w (⟨x6, 48, frm k last m f s'⟩ :: ⟨hb, 117, bv (xs.take 24)⟩ :: ⟨fb, 112, [I 2, I 2, I 4, I 8, I 12, I 4, I 16, I 8]⟩ :: ⟨x2, 48, zfrm⟩ :: ⟨cb, 5, l⟩ :: F)) :
    F20_j3 (DecPost w0 F xs) s (ptr x2 0) (ptr hb 0) (ptr fb 0) (ptr x6 0) w := by
  unfold F20_j3
  have hlt : (xs.take 24).length = 24 := by rw [List.length_take]; omega
  have fin : ∀ ok, (ok = true ↔ (dK xs = 1 ∨ dK xs = 2 ∧ dB xs = 0 ∧ xs.length = 24)) → F20_j5 (DecPost w0 F xs) s (ptr x2 0) (ptr hb 0) (ptr fb 0) (ptr x6 0) (.bool ok) w :=
    fun ok hok => dec_j5 hs hn h24 hn2 hk hl hm hf hc hok H
  simp only [ixA24_1, pv_some, nilO_ptr, faO_mk, gd_yes, gd_no, gd_yes', gd_no', cnd_true, cnd_false, pick_true, pick_false, not_bool, bin_add, bin_sub, bin_mul, bin_eql, bin_neq, bin_lss, bin_leq, bin_gtr, bin_geq, ext0, ext1, ext2, lenS_mk, eqNil_none, eqNil_some, neNil_none, neNil_some, ret_k, mem, Nat.zero_add, Nat.add_zero, Nat.mul_one, drewV, Bool.not_true, Bool.not_false]
  refine ld_h H 0 rfl rfl ?_
  by_cases h1 : k = 1
  · simp only [decide_eq_true h1, pv_some, nilO_ptr, faO_mk, gd_yes, gd_no, gd_yes', gd_no', cnd_true, cnd_false, pick_true, pick_false, not_bool, bin_add, bin_sub, bin_mul, bin_eql, bin_neq, bin_lss, bin_leq, bin_gtr, bin_geq, ext0, ext1, ext2, lenS_mk, eqNil_none, eqNil_some, neNil_none, neNil_some, ret_k, mem, Nat.zero_add, Nat.add_zero, Nat.mul_one, drewV, Bool.not_true, Bool.not_false]
    exact fin true (by simp; exact .inl (by omega))
  · simp only [decide_eq_false h1, pv_some, nilO_ptr, faO_mk, gd_yes, gd_no, gd_yes', gd_no', cnd_true, cnd_false, pick_true, pick_false, not_bool, bin_add, bin_sub, bin_mul, bin_eql, bin_neq, bin_lss, bin_leq, bin_gtr, bin_geq, ext0, ext1, ext2, lenS_mk, eqNil_none, eqNil_some, neNil_none, neNil_some, ret_k, mem, Nat.zero_add, Nat.add_zero, Nat.mul_one, drewV, Bool.not_true, Bool.not_false]
    refine ld_h H 0 rfl rfl ?_
    by_cases h2 : k = 2
    · simp only [decide_eq_true h2, pv_some, nilO_ptr, faO_mk, gd_yes, gd_no, gd_yes', gd_no', cnd_true, cnd_false, pick_true, pick_false, not_bool, bin_add, bin_sub, bin_mul, bin_eql, bin_neq, bin_lss, bin_leq, bin_gtr, bin_geq, ext0, ext1, ext2, lenS_mk, eqNil_none, eqNil_some, neNil_none, neNil_some, ret_k, mem, Nat.zero_add, Nat.add_zero, Nat.mul_one, drewV, Bool.not_true, Bool.not_false]
      refine ld_h H 1 rfl (bv_getD (i := 1) (by omega)) ?_
      rw [getD_take (by omega)]
      simp only [pv_some, nilO_ptr, faO_mk, gd_yes, gd_no, gd_yes', gd_no', cnd_true, cnd_false, pick_true, pick_false, not_bool, bin_add, bin_sub, bin_mul, bin_eql, bin_neq, bin_lss, bin_leq, bin_gtr, bin_geq, ext0, ext1, ext2, lenS_mk, eqNil_none, eqNil_some, neNil_none, neNil_some, ret_k, mem, Nat.zero_add, Nat.add_zero, Nat.mul_one, drewV, Bool.not_true, Bool.not_false]
      by_cases h3 : dB xs = 0
      · have : decide (xs.getD 1 0 = 0) = true := decide_eq_true h3
        simp only [this, pv_some, nilO_ptr, faO_mk, gd_yes, gd_no, gd_yes', gd_no', cnd_true, cnd_false, pick_true, pick_false, not_bool, bin_add, bin_sub, bin_mul, bin_eql, bin_neq, bin_lss, bin_leq, bin_gtr, bin_geq, ext0, ext1, ext2, lenS_mk, eqNil_none, eqNil_some, neNil_none, neNil_some, ret_k, mem, Nat.zero_add, Nat.add_zero, Nat.mul_one, drewV, Bool.not_true, Bool.not_false]
        refine ld_h H 0 rfl rfl ?_
        simp only [lenS_sl hc, pv_some, nilO_ptr, faO_mk, gd_yes, gd_no, gd_yes', gd_no', cnd_true, cnd_false, pick_true, pick_false, not_bool, bin_add, bin_sub, bin_mul, bin_eql, bin_neq, bin_lss, bin_leq, bin_gtr, bin_geq, ext0, ext1, ext2, lenS_mk, eqNil_none, eqNil_some, neNil_none, neNil_some, ret_k, mem, Nat.zero_add, Nat.add_zero, Nat.mul_one, drewV, Bool.not_true, Bool.not_false]
        by_cases h4 : n = 24
        · have : decide (((n - 24 : Nat) : Int) = 0) = true := decide_eq_true (by omega)
          simp only [this, pv_some, nilO_ptr, faO_mk, gd_yes, gd_no, gd_yes', gd_no', cnd_true, cnd_false, pick_true, pick_false, not_bool, bin_add, bin_sub, bin_mul, bin_eql, bin_neq, bin_lss, bin_leq, bin_gtr, bin_geq, ext0, ext1, ext2, lenS_mk, eqNil_none, eqNil_some, neNil_none, neNil_some, ret_k, mem, Nat.zero_add, Nat.add_zero, Nat.mul_one, drewV, Bool.not_true, Bool.not_false]
          exact fin true (by simp; exact .inr ⟨by omega, h3, by omega⟩)
        · have : decide (((n - 24 : Nat) : Int) = 0) = false := decide_eq_false (by omega)
          simp only [this, pv_some, nilO_ptr, faO_mk, gd_yes, gd_no, gd_yes', gd_no', cnd_true, cnd_false, pick_true, pick_false, not_bool, bin_add, bin_sub, bin_mul, bin_eql, bin_neq, bin_lss, bin_leq, bin_gtr, bin_geq, ext0, ext1, ext2, lenS_mk, eqNil_none, eqNil_some, neNil_none, neNil_some, ret_k, mem, Nat.zero_add, Nat.add_zero, Nat.mul_one, drewV, Bool.not_true, Bool.not_false]
          exact fin false (by simp; omega)
      · have : decide (xs.getD 1 0 = 0) = false := decide_eq_false h3
        simp only [this, pv_some, nilO_ptr, faO_mk, gd_yes, gd_no, gd_yes', gd_no', cnd_true, cnd_false, pick_true, pick_false, not_bool, bin_add, bin_sub, bin_mul, bin_eql, bin_neq, bin_lss, bin_leq, bin_gtr, bin_geq, ext0, ext1, ext2, lenS_mk, eqNil_none, eqNil_some, neNil_none, neNil_some, ret_k, mem, Nat.zero_add, Nat.add_zero, Nat.mul_one, drewV, Bool.not_true, Bool.not_false]
        exact fin false (by simp; omega)
    · simp only [decide_eq_false h2, pv_some, nilO_ptr, faO_mk, gd_yes, gd_no, gd_yes', gd_no', cnd_true, cnd_false, pick_true, pick_false, not_bool, bin_add, bin_sub, bin_mul, bin_eql, bin_neq, bin_lss, bin_leq, bin_gtr, bin_geq, ext0, ext1, ext2, lenS_mk, eqNil_none, eqNil_some, neNil_none, neNil_some, ret_k, mem, Nat.zero_add, Nat.add_zero, Nat.mul_one, drewV, Bool.not_true, Bool.not_false]
      exact fin false (by simp; omega)
set_option maxHeartbeats 1000000 in
theorem dec_j2 {x2 hb fb : Nat} (hs : RdL w0 F 1 s n (bv xs)) (hn : xs.length = n) (h24 : 24 ≤ n) (hn2 : n ≤ 4120)
    (H0 : Hp w0 w (⟨hb, 117, bv (xs.take 24)⟩ :: ⟨fb, 112, [I 2, I 2, I 4, I 8, I 12, I 4, I 16, I 8]⟩ :: ⟨x2, 48, zfrm⟩ :: F)) :
    F20_j2 (DecPost w0 F xs) s (ptr x2 0) (ptr hb 0) (ptr fb 0) w := by
  have hlt : (xs.take 24).length = 24 := by rw [List.length_take]; omega
  have hlb : (bv (xs.take 24)).length = 24 := by rw [bv_length, hlt]
  have H := H0.drew
  obtain ⟨s1, e1, g1, g2⟩ := slS_from (lo := 24) (X := 24) hs rfl (by omega) h24
  unfold F20_j2
  simp only [ixA24_0, ixA24_1, ixA42_1, ixA42_2, e1, pv_some, nilO_ptr, faO_mk, gd_yes, gd_no, gd_yes', gd_no', cnd_true, cnd_false, pick_true, pick_false, not_bool, bin_add, bin_sub, bin_mul, bin_eql, bin_neq, bin_lss, bin_leq, bin_gtr, bin_geq, ext0, ext1, ext2, lenS_mk, eqNil_none, eqNil_some, neNil_none, neNil_some, ret_k, mem, Nat.zero_add, Nat.add_zero, Nat.mul_one, drewV, Bool.not_true, Bool.not_false]
  have v0 := bv_getD (xs := xs.take 24) (i := 0) (by omega)
  have v1 := bv_getD (xs := xs.take 24) (i := 1) (by omega)
  rw [getD_take (by omega)] at v0 v1
  refine ld_h H 0 rfl v0 ?_
  simp only [cvI64, pv_some, nilO_ptr, faO_mk, gd_yes, gd_no, gd_yes', gd_no', cnd_true, cnd_false, pick_true, pick_false, not_bool, bin_add, bin_sub, bin_mul, bin_eql, bin_neq, bin_lss, bin_leq, bin_gtr, bin_geq, ext0, ext1, ext2, lenS_mk, eqNil_none, eqNil_some, neNil_none, neNil_some, ret_k, mem, Nat.zero_add, Nat.add_zero, Nat.mul_one, drewV, Bool.not_true, Bool.not_false]
  refine ld_h H 0 rfl v1 ?_
  simp only [pv_some, nilO_ptr, faO_mk, gd_yes, gd_no, gd_yes', gd_no', cnd_true, cnd_false, pick_true, pick_false, not_bool, bin_add, bin_sub, bin_mul, bin_eql, bin_neq, bin_lss, bin_leq, bin_gtr, bin_geq, ext0, ext1, ext2, lenS_mk, eqNil_none, eqNil_some, neNil_none, neNil_some, ret_k, mem, Nat.zero_add, Nat.add_zero, Nat.mul_one, drewV, Bool.not_true, Bool.not_false]
  refine ldN_h H 1 rfl (by decide) ?_
  refine ldA_h H 0 rfl hlb ?_
  refine ldN_h H 1 rfl (by decide) ?_
  refine ldA_h H 0 rfl hlb ?_
  refine allW2 ?_ ?_
  · refine cal_h (get_spec (at_ := 4) (n := 8) H hlt (by omega) (by omega)) ?_; rintro e w9 ⟨rfl, H⟩; simp only [ret_k]; simp only [rd1_t (H.cell 0 rfl v0), rd1_t (H.cell 0 rfl v1), rdN_t (H.cells 0 rfl hlb), rdN_t' (H.part 1 2 2 rfl (by decide)), rdN_t' (H.part 1 4 2 rfl (by decide)), cvI64, pv_some, nilO_ptr, faO_mk, gd_yes, gd_no, gd_yes', gd_no', cnd_true, cnd_false, pick_true, pick_false, not_bool, bin_add, bin_sub, bin_mul, bin_eql, bin_neq, bin_lss, bin_leq, bin_gtr, bin_geq, ext0, ext1, ext2, lenS_mk, eqNil_none, eqNil_some, neNil_none, neNil_some, ret_k, mem, Nat.zero_add, Nat.add_zero, Nat.mul_one, drewV, Bool.not_true, Bool.not_false]
    refine allW2 ?_ ?_
    · refine cal_h (get_spec (at_ := 12) (n := 4) H hlt (by omega) (by omega)) ?_; rintro e w9 ⟨rfl, H⟩; simp only [ret_k]; simp only [rd1_t (H.cell 0 rfl v0), rd1_t (H.cell 0 rfl v1), rdN_t (H.cells 0 rfl hlb), rdN_t' (H.part 1 2 2 rfl (by decide)), rdN_t' (H.part 1 4 2 rfl (by decide)), cvI64, pv_some, nilO_ptr, faO_mk, gd_yes, gd_no, gd_yes', gd_no', cnd_true, cnd_false, pick_true, pick_false, not_bool, bin_add, bin_sub, bin_mul, bin_eql, bin_neq, bin_lss, bin_leq, bin_gtr, bin_geq, ext0, ext1, ext2, lenS_mk, eqNil_none, eqNil_some, neNil_none, neNil_some, ret_k, mem, Nat.zero_add, Nat.add_zero, Nat.mul_one, drewV, Bool.not_true, Bool.not_false]
      refine allW2 ?_ ?_
      · refine cal_h (Clone1_spec (g1.mono (fun c hc => by simp [hc])) g2 (by omega) H) ?_; rintro e w9 ⟨s', cb, l, rfl, H, hc⟩; replace H := H.rot3; simp only [ret_k]; simp only [bldF (sl_cells hc), rd1_t (H.cell 0 rfl v0), rd1_t (H.cell 0 rfl v1), rdN_t (H.cells 0 rfl hlb), rdN_t' (H.part 1 2 2 rfl (by decide)), rdN_t' (H.part 1 4 2 rfl (by decide)), cvI64, pv_some, nilO_ptr, faO_mk, gd_yes, gd_no, gd_yes', gd_no', cnd_true, cnd_false, pick_true, pick_false, not_bool, bin_add, bin_sub, bin_mul, bin_eql, bin_neq, bin_lss, bin_leq, bin_gtr, bin_geq, ext0, ext1, ext2, lenS_mk, eqNil_none, eqNil_some, neNil_none, neNil_some, ret_k, mem, Nat.zero_add, Nat.add_zero, Nat.mul_one, drewV, Bool.not_true, Bool.not_false]
        refine al_h H (z := zfrm) (by kernel_rfl) fun w9 x6 H => ?_; replace H := H.rot3; simp only [rd1_t (H.cell 0 rfl v0), rd1_t (H.cell 0 rfl v1), rdN_t (H.cells 0 rfl hlb), rdN_t' (H.part 1 2 2 rfl (by decide)), rdN_t' (H.part 1 4 2 rfl (by decide)), cvI64, pv_some, nilO_ptr, faO_mk, gd_yes, gd_no, gd_yes', gd_no', cnd_true, cnd_false, pick_true, pick_false, not_bool, bin_add, bin_sub, bin_mul, bin_eql, bin_neq, bin_lss, bin_leq, bin_gtr, bin_geq, ext0, ext1, ext2, lenS_mk, eqNil_none, eqNil_some, neNil_none, neNil_some, ret_k, mem, Nat.zero_add, Nat.add_zero, Nat.mul_one, drewV, Bool.not_true, Bool.not_false]
        refine stA_h H 3 rfl rfl rfl (frm_scalar (sl_scalar hc)) fun w9 H => ?_
        exact dec_j3 (k := i64 (xs.getD 0 0)) (last := decide (xs.getD 1 0 = 1)) (m := i64 (getI (((xs.take 24).drop 4).take 8))) (f := i64 (getI (((xs.take 24).drop 12).take 4))) hs hn h24 hn2 rfl rfl (by rw [take_part _ _ _ _ (by omega)]; rfl) (by rw [take_part _ _ _ _ (by omega)]; rfl) hc (H.to (by intro f; simp only [I, U8, U64, ptr, List.set_cons_zero, List.set_cons_succ, List.eraseIdx_cons_zero, List.eraseIdx_cons_succ, List.map_append, List.map_cons, List.map_nil, List.sum_append, List.sum_cons, List.sum_nil]; omega))
      · refine al_h H (z := zfrm) (by kernel_rfl) fun w9 x6 H => ?_; replace H := H.rot3; simp only [rd1_t (H.cell 0 rfl v0), rd1_t (H.cell 0 rfl v1), rdN_t (H.cells 0 rfl hlb), rdN_t' (H.part 1 2 2 rfl (by decide)), rdN_t' (H.part 1 4 2 rfl (by decide)), cvI64, pv_some, nilO_ptr, faO_mk, gd_yes, gd_no, gd_yes', gd_no', cnd_true, cnd_false, pick_true, pick_false, not_bool, bin_add, bin_sub, bin_mul, bin_eql, bin_neq, bin_lss, bin_leq, bin_gtr, bin_geq, ext0, ext1, ext2, lenS_mk, eqNil_none, eqNil_some, neNil_none, neNil_some, ret_k, mem, Nat.zero_add, Nat.add_zero, Nat.mul_one, drewV, Bool.not_true, Bool.not_false]
        refine cal_h (Clone1_spec (g1.mono (fun c hc => by simp [hc])) g2 (by omega) H) ?_; rintro e w9 ⟨s', cb, l, rfl, H, hc⟩; replace H := H.rot3; simp only [ret_k]; simp only [bldF (sl_cells hc), rd1_t (H.cell 0 rfl v0), rd1_t (H.cell 0 rfl v1), rdN_t (H.cells 0 rfl hlb), rdN_t' (H.part 1 2 2 rfl (by decide)), rdN_t' (H.part 1 4 2 rfl (by decide)), cvI64, pv_some, nilO_ptr, faO_mk, gd_yes, gd_no, gd_yes', gd_no', cnd_true, cnd_false, pick_true, pick_false, not_bool, bin_add, bin_sub, bin_mul, bin_eql, bin_neq, bin_lss, bin_leq, bin_gtr, bin_geq, ext0, ext1, ext2, lenS_mk, eqNil_none, eqNil_some, neNil_none, neNil_some, ret_k, mem, Nat.zero_add, Nat.add_zero, Nat.mul_one, drewV, Bool.not_true, Bool.not_false]
        refine stA_h H 4 rfl rfl rfl (frm_scalar (sl_scalar hc)) fun w9 H => ?_
        exact dec_j3 (k := i64 (xs.getD 0 0)) (last := decide (xs.getD 1 0 = 1)) (m := i64 (getI (((xs.take 24).drop 4).take 8))) (f := i64 (getI (((xs.take 24).drop 12).take 4))) hs hn h24 hn2 rfl rfl (by rw [take_part _ _ _ _ (by omega)]; rfl) (by rw [take_part _ _ _ _ (by omega)]; rfl) hc (H.to (by intro f; simp only [I, U8, U64, ptr, List.set_cons_zero, List.set_cons_succ, List.eraseIdx_cons_zero, List.eraseIdx_cons_succ, List.map_append, List.map_cons, List.map_nil, List.sum_append, List.sum_cons, List.sum_nil]; omega))
    · refine al_h H (z := zfrm) (by kernel_rfl) fun w9 x6 H => ?_; replace H := H.rot3; simp only [rd1_t (H.cell 0 rfl v0), rd1_t (H.cell 0 rfl v1), rdN_t (H.cells 0 rfl hlb), rdN_t' (H.part 1 2 2 rfl (by decide)), rdN_t' (H.part 1 4 2 rfl (by decide)), cvI64, pv_some, nilO_ptr, faO_mk, gd_yes, gd_no, gd_yes', gd_no', cnd_true, cnd_false, pick_true, pick_false, not_bool, bin_add, bin_sub, bin_mul, bin_eql, bin_neq, bin_lss, bin_leq, bin_gtr, bin_geq, ext0, ext1, ext2, lenS_mk, eqNil_none, eqNil_some, neNil_none, neNil_some, ret_k, mem, Nat.zero_add, Nat.add_zero, Nat.mul_one, drewV, Bool.not_true, Bool.not_false]
      refine cal_h (get_spec (at_ := 12) (n := 4) H hlt (by omega) (by omega)) ?_; rintro e w9 ⟨rfl, H⟩; simp only [ret_k]; simp only [rd1_t (H.cell 0 rfl v0), rd1_t (H.cell 0 rfl v1), rdN_t (H.cells 0 rfl hlb), rdN_t' (H.part 1 2 2 rfl (by decide)), rdN_t' (H.part 1 4 2 rfl (by decide)), cvI64, pv_some, nilO_ptr, faO_mk, gd_yes, gd_no, gd_yes', gd_no', cnd_true, cnd_false, pick_true, pick_false, not_bool, bin_add, bin_sub, bin_mul, bin_eql, bin_neq, bin_lss, bin_leq, bin_gtr, bin_geq, ext0, ext1, ext2, lenS_mk, eqNil_none, eqNil_some, neNil_none, neNil_some, ret_k, mem, Nat.zero_add, Nat.add_zero, Nat.mul_one, drewV, Bool.not_true, Bool.not_false]
      refine cal_h (Clone1_spec (g1.mono (fun c hc => by simp [hc])) g2 (by omega) H) ?_; rintro e w9 ⟨s', cb, l, rfl, H, hc⟩; replace H := H.rot3; simp only [ret_k]; simp only [bldF (sl_cells hc), rd1_t (H.cell 0 rfl v0), rd1_t (H.cell 0 rfl v1), rdN_t (H.cells 0 rfl hlb), rdN_t' (H.part 1 2 2 rfl (by decide)), rdN_t' (H.part 1 4 2 rfl (by decide)), cvI64, pv_some, nilO_ptr, faO_mk, gd_yes, gd_no, gd_yes', gd_no', cnd_true, cnd_false, pick_true, pick_false, not_bool, bin_add, bin_sub, bin_mul, bin_eql, bin_neq, bin_lss, bin_leq, bin_gtr, bin_geq, ext0, ext1, ext2, lenS_mk, eqNil_none, eqNil_some, neNil_none, neNil_some, ret_k, mem, Nat.zero_add, Nat.add_zero, Nat.mul_one, drewV, Bool.not_true, Bool.not_false]
      refine stA_h H 4 rfl rfl rfl (frm_scalar (sl_scalar hc)) fun w9 H => ?_
      exact dec_j3 (k := i64 (xs.getD 0 0)) (last := decide (xs.getD 1 0 = 1)) (m := i64 (getI (((xs.take 24).drop 4).take 8))) (f := i64 (getI (((xs.take 24).drop 12).take 4))) hs hn h24 hn2 rfl rfl (by rw [take_part _ _ _ _ (by omega)]; rfl) (by rw [take_part _ _ _ _ (by omega)]; rfl) hc (H.to (by intro f; simp only [I, U8, U64, ptr, List.set_cons_zero, List.set_cons_succ, List.eraseIdx_cons_zero, List.eraseIdx_cons_succ, List.map_append, List.map_cons, List.map_nil, List.sum_append, List.sum_cons, List.sum_nil]; omega))
  · refine al_h H (z := zfrm) (by kernel_rfl) fun w9 x6 H => ?_; replace H := H.rot3; simp only [rd1_t (H.cell 0 rfl v0), rd1_t (H.cell 0 rfl v1), rdN_t (H.cells 0 rfl hlb), rdN_t' (H.part 1 2 2 rfl (by decide)), rdN_t' (H.part 1 4 2 rfl (by decide)), cvI64, pv_some, nilO_ptr, faO_mk, gd_yes, gd_no, gd_yes', gd_no', cnd_true, cnd_false, pick_true, pick_false, not_bool, bin_add, bin_sub, bin_mul, bin_eql, bin_neq, bin_lss, bin_leq, bin_gtr, bin_geq, ext0, ext1, ext2, lenS_mk, eqNil_none, eqNil_some, neNil_none, neNil_some, ret_k, mem, Nat.zero_add, Nat.add_zero, Nat.mul_one, drewV, Bool.not_true, Bool.not_false]
    refine cal_h (get_spec (at_ := 4) (n := 8) H hlt (by omega) (by omega)) ?_; rintro e w9 ⟨rfl, H⟩; simp only [ret_k]; simp only [rd1_t (H.cell 0 rfl v0), rd1_t (H.cell 0 rfl v1), rdN_t (H.cells 0 rfl hlb), rdN_t' (H.part 1 2 2 rfl (by decide)), rdN_t' (H.part 1 4 2 rfl (by decide)), cvI64, pv_some, nilO_ptr, faO_mk, gd_yes, gd_no, gd_yes', gd_no', cnd_true, cnd_false, pick_true, pick_false, not_bool, bin_add, bin_sub, bin_mul, bin_eql, bin_neq, bin_lss, bin_leq, bin_gtr, bin_geq, ext0, ext1, ext2, lenS_mk, eqNil_none, eqNil_some, neNil_none, neNil_some, ret_k, mem, Nat.zero_add, Nat.add_zero, Nat.mul_one, drewV, Bool.not_true, Bool.not_false]
    refine cal_h (get_spec (at_ := 12) (n := 4) H hlt (by omega) (by omega)) ?_; rintro e w9 ⟨rfl, H⟩; simp only [ret_k]; simp only [rd1_t (H.cell 0 rfl v0), rd1_t (H.cell 0 rfl v1), rdN_t (H.cells 0 rfl hlb), rdN_t' (H.part 1 2 2 rfl (by decide)), rdN_t' (H.part 1 4 2 rfl (by decide)), cvI64, pv_some, nilO_ptr, faO_mk, gd_yes, gd_no, gd_yes', gd_no', cnd_true, cnd_false, pick_true, pick_false, not_bool, bin_add, bin_sub, bin_mul, bin_eql, bin_neq, bin_lss, bin_leq, bin_gtr, bin_geq, ext0, ext1, ext2, lenS_mk, eqNil_none, eqNil_some, neNil_none, neNil_some, ret_k, mem, Nat.zero_add, Nat.add_zero, Nat.mul_one, drewV, Bool.not_true, Bool.not_false]
    refine cal_h (Clone1_spec (g1.mono (fun c hc => by simp [hc])) g2 (by omega) H) ?_; rintro e w9 ⟨s', cb, l, rfl, H, hc⟩; replace H := H.rot3; simp only [ret_k]; simp only [bldF (sl_cells hc), rd1_t (H.cell 0 rfl v0), rd1_t (H.cell 0 rfl v1), rdN_t (H.cells 0 rfl hlb), rdN_t' (H.part 1 2 2 rfl (by decide)), rdN_t' (H.part 1 4 2 rfl (by decide)), cvI64, pv_some, nilO_ptr, faO_mk, gd_yes, gd_no, gd_yes', gd_no', cnd_true, cnd_false, pick_true, pick_false, not_bool, bin_add, bin_sub, bin_mul, bin_eql, bin_neq, bin_lss, bin_leq, bin_gtr, bin_geq, ext0, ext1, ext2, lenS_mk, eqNil_none, eqNil_some, neNil_none, neNil_some, ret_k, mem, Nat.zero_add, Nat.add_zero, Nat.mul_one, drewV, Bool.not_true, Bool.not_false]
    refine stA_h H 4 rfl rfl rfl (frm_scalar (sl_scalar hc)) fun w9 H => ?_
    exact dec_j3 (k := i64 (xs.getD 0 0)) (last := decide (xs.getD 1 0 = 1)) (m := i64 (getI (((xs.take 24).drop 4).take 8))) (f := i64 (getI (((xs.take 24).drop 12).take 4))) hs hn h24 hn2 rfl rfl (by rw [take_part _ _ _ _ (by omega)]; rfl) (by rw [take_part _ _ _ _ (by omega)]; rfl) hc (H.to (by intro f; simp only [I, U8, U64, ptr, List.set_cons_zero, List.set_cons_succ, List.eraseIdx_cons_zero, List.eraseIdx_cons_succ, List.map_append, List.map_cons, List.map_nil, List.sum_append, List.sum_cons, List.sum_nil]; omega))
set_option maxHeartbeats 1000000 in
theorem dec_j1 {x2 : Nat} (hs : RdL w0 F 1 s n (bv xs)) (hn : xs.length = n) (h24 : 24 ≤ n) (hn2 : n ≤ 4120)
    (H0 : Hp w0 w (⟨x2, 48, zfrm⟩ :: F)) : F20_j1 (DecPost w0 F xs) s (ptr x2 0) w := by
  have hlt : (xs.take 24).length = 24 := by rw [List.length_take]; omega
  have hlb : (bv (xs.take 24)).length = 24 := by rw [bv_length, hlt]
  have H := H0.drew
  obtain ⟨a, ha, hc⟩ := arr24 hs h24
  unfold F20_j1
  simp only [ha, pv_some, nilO_ptr, faO_mk, gd_yes, gd_no, gd_yes', gd_no', cnd_true, cnd_false, pick_true, pick_false, not_bool, bin_add, bin_sub, bin_mul, bin_eql, bin_neq, bin_lss, bin_leq, bin_gtr, bin_geq, ext0, ext1, ext2, lenS_mk, eqNil_none, eqNil_some, neNil_none, neNil_some, ret_k, mem, Nat.zero_add, Nat.add_zero, Nat.mul_one, drewV, Bool.not_true, Bool.not_false]
  refine ldN_a (hc H (fun c hc => by simp [hc])) ?_
  refine allW3 ?_ ?_ ?_
  · refine cal_h (fields_spec H) ?_; rintro e w9 ⟨rfl, H⟩; simp only [ret_k]; simp only [rdN_a (hc H (fun c hc => by simp [hc])), pv_some, nilO_ptr, faO_mk, gd_yes, gd_no, gd_yes', gd_no', cnd_true, cnd_false, pick_true, pick_false, not_bool, bin_add, bin_sub, bin_mul, bin_eql, bin_neq, bin_lss, bin_leq, bin_gtr, bin_geq, ext0, ext1, ext2, lenS_mk, eqNil_none, eqNil_some, neNil_none, neNil_some, ret_k, mem, Nat.zero_add, Nat.add_zero, Nat.mul_one, drewV, Bool.not_true, Bool.not_false]
    refine allW2 ?_ ?_
    · refine al_h H (z := List.replicate 24 (U8 0)) (by kernel_rfl) fun w9 hb H => ?_; replace H := H.rot1; simp only [rdN_a (hc H (fun c hc => by simp [hc])), pv_some, nilO_ptr, faO_mk, gd_yes, gd_no, gd_yes', gd_no', cnd_true, cnd_false, pick_true, pick_false, not_bool, bin_add, bin_sub, bin_mul, bin_eql, bin_neq, bin_lss, bin_leq, bin_gtr, bin_geq, ext0, ext1, ext2, lenS_mk, eqNil_none, eqNil_some, neNil_none, neNil_some, ret_k, mem, Nat.zero_add, Nat.add_zero, Nat.mul_one, drewV, Bool.not_true, Bool.not_false]
      refine al_h H (z := [I 0, I 0, I 0, I 0, I 0, I 0, I 0, I 0]) (by kernel_rfl) fun w9 fb H => ?_; replace H := H.rot1; simp only [rdN_a (hc H (fun c hc => by simp [hc])), pv_some, nilO_ptr, faO_mk, gd_yes, gd_no, gd_yes', gd_no', cnd_true, cnd_false, pick_true, pick_false, not_bool, bin_add, bin_sub, bin_mul, bin_eql, bin_neq, bin_lss, bin_leq, bin_gtr, bin_geq, ext0, ext1, ext2, lenS_mk, eqNil_none, eqNil_some, neNil_none, neNil_some, ret_k, mem, Nat.zero_add, Nat.add_zero, Nat.mul_one, drewV, Bool.not_true, Bool.not_false]
      refine stA_h H 2 rfl hlb rfl bv_scalar fun w9 H => ?_; try simp only [rdN_a (hc H (fun c hc => by simp [hc, List.set])), pv_some, nilO_ptr, faO_mk, gd_yes, gd_no, gd_yes', gd_no', cnd_true, cnd_false, pick_true, pick_false, not_bool, bin_add, bin_sub, bin_mul, bin_eql, bin_neq, bin_lss, bin_leq, bin_gtr, bin_geq, ext0, ext1, ext2, lenS_mk, eqNil_none, eqNil_some, neNil_none, neNil_some, ret_k, mem, Nat.zero_add, Nat.add_zero, Nat.mul_one, drewV, Bool.not_true, Bool.not_false]
      refine stA_h H 1 rfl rfl rfl (by decide) fun w9 H => ?_; try simp only [rdN_a (hc H (fun c hc => by simp [hc, List.set])), pv_some, nilO_ptr, faO_mk, gd_yes, gd_no, gd_yes', gd_no', cnd_true, cnd_false, pick_true, pick_false, not_bool, bin_add, bin_sub, bin_mul, bin_eql, bin_neq, bin_lss, bin_leq, bin_gtr, bin_geq, ext0, ext1, ext2, lenS_mk, eqNil_none, eqNil_some, neNil_none, neNil_some, ret_k, mem, Nat.zero_add, Nat.add_zero, Nat.mul_one, drewV, Bool.not_true, Bool.not_false]
      exact dec_j2 hs hn h24 hn2 (H.to (by intro f; simp only [I, U8, U64, ptr, List.set_cons_zero, List.set_cons_succ, List.eraseIdx_cons_zero, List.eraseIdx_cons_succ, List.map_append, List.map_cons, List.map_nil, List.sum_append, List.sum_cons, List.sum_nil]; omega))
    · refine al_h H (z := [I 0, I 0, I 0, I 0, I 0, I 0, I 0, I 0]) (by kernel_rfl) fun w9 fb H => ?_; replace H := H.rot1; simp only [rdN_a (hc H (fun c hc => by simp [hc])), pv_some, nilO_ptr, faO_mk, gd_yes, gd_no, gd_yes', gd_no', cnd_true, cnd_false, pick_true, pick_false, not_bool, bin_add, bin_sub, bin_mul, bin_eql, bin_neq, bin_lss, bin_leq, bin_gtr, bin_geq, ext0, ext1, ext2, lenS_mk, eqNil_none, eqNil_some, neNil_none, neNil_some, ret_k, mem, Nat.zero_add, Nat.add_zero, Nat.mul_one, drewV, Bool.not_true, Bool.not_false]
      refine al_h H (z := List.replicate 24 (U8 0)) (by kernel_rfl) fun w9 hb H => ?_; replace H := H.rot1; simp only [rdN_a (hc H (fun c hc => by simp [hc])), pv_some, nilO_ptr, faO_mk, gd_yes, gd_no, gd_yes', gd_no', cnd_true, cnd_false, pick_true, pick_false, not_bool, bin_add, bin_sub, bin_mul, bin_eql, bin_neq, bin_lss, bin_leq, bin_gtr, bin_geq, ext0, ext1, ext2, lenS_mk, eqNil_none, eqNil_some, neNil_none, neNil_some, ret_k, mem, Nat.zero_add, Nat.add_zero, Nat.mul_one, drewV, Bool.not_true, Bool.not_false]
      refine stA_h H 1 rfl hlb rfl bv_scalar fun w9 H => ?_; try simp only [rdN_a (hc H (fun c hc => by simp [hc, List.set])), pv_some, nilO_ptr, faO_mk, gd_yes, gd_no, gd_yes', gd_no', cnd_true, cnd_false, pick_true, pick_false, not_bool, bin_add, bin_sub, bin_mul, bin_eql, bin_neq, bin_lss, bin_leq, bin_gtr, bin_geq, ext0, ext1, ext2, lenS_mk, eqNil_none, eqNil_some, neNil_none, neNil_some, ret_k, mem, Nat.zero_add, Nat.add_zero, Nat.mul_one, drewV, Bool.not_true, Bool.not_false]
      refine stA_h H 2 rfl rfl rfl (by decide) fun w9 H => ?_; try simp only [rdN_a (hc H (fun c hc => by simp [hc, List.set])), pv_some, nilO_ptr, faO_mk, gd_yes, gd_no, gd_yes', gd_no', cnd_true, cnd_false, pick_true, pick_false, not_bool, bin_add, bin_sub, bin_mul, bin_eql, bin_neq, bin_lss, bin_leq, bin_gtr, bin_geq, ext0, ext1, ext2, lenS_mk, eqNil_none, eqNil_some, neNil_none, neNil_some, ret_k, mem, Nat.zero_add, Nat.add_zero, Nat.mul_one, drewV, Bool.not_true, Bool.not_false]
      exact dec_j2 hs hn h24 hn2 (H.to (by intro f; simp only [I, U8, U64, ptr, List.set_cons_zero, List.set_cons_succ, List.eraseIdx_cons_zero, List.eraseIdx_cons_succ, List.map_append, List.map_cons, List.map_nil, List.sum_append, List.sum_cons, List.sum_nil]; omega))
  · refine al_h H (z := List.replicate 24 (U8 0)) (by kernel_rfl) fun w9 hb H => ?_; replace H := H.rot1; simp only [rdN_a (hc H (fun c hc => by simp [hc])), pv_some, nilO_ptr, faO_mk, gd_yes, gd_no, gd_yes', gd_no', cnd_true, cnd_false, pick_true, pick_false, not_bool, bin_add, bin_sub, bin_mul, bin_eql, bin_neq, bin_lss, bin_leq, bin_gtr, bin_geq, ext0, ext1, ext2, lenS_mk, eqNil_none, eqNil_some, neNil_none, neNil_some, ret_k, mem, Nat.zero_add, Nat.add_zero, Nat.mul_one, drewV, Bool.not_true, Bool.not_false]
    refine allW2 ?_ ?_
    · refine cal_h (fields_spec H) ?_; rintro e w9 ⟨rfl, H⟩; simp only [ret_k]; simp only [rdN_a (hc H (fun c hc => by simp [hc])), pv_some, nilO_ptr, faO_mk, gd_yes, gd_no, gd_yes', gd_no', cnd_true, cnd_false, pick_true, pick_false, not_bool, bin_add, bin_sub, bin_mul, bin_eql, bin_neq, bin_lss, bin_leq, bin_gtr, bin_geq, ext0, ext1, ext2, lenS_mk, eqNil_none, eqNil_some, neNil_none, neNil_some, ret_k, mem, Nat.zero_add, Nat.add_zero, Nat.mul_one, drewV, Bool.not_true, Bool.not_false]
      refine al_h H (z := [I 0, I 0, I 0, I 0, I 0, I 0, I 0, I 0]) (by kernel_rfl) fun w9 fb H => ?_; replace H := H.rot1; simp only [rdN_a (hc H (fun c hc => by simp [hc])), pv_some, nilO_ptr, faO_mk, gd_yes, gd_no, gd_yes', gd_no', cnd_true, cnd_false, pick_true, pick_false, not_bool, bin_add, bin_sub, bin_mul, bin_eql, bin_neq, bin_lss, bin_leq, bin_gtr, bin_geq, ext0, ext1, ext2, lenS_mk, eqNil_none, eqNil_some, neNil_none, neNil_some, ret_k, mem, Nat.zero_add, Nat.add_zero, Nat.mul_one, drewV, Bool.not_true, Bool.not_false]
      refine stA_h H 2 rfl hlb rfl bv_scalar fun w9 H => ?_; try simp only [rdN_a (hc H (fun c hc => by simp [hc, List.set])), pv_some, nilO_ptr, faO_mk, gd_yes, gd_no, gd_yes', gd_no', cnd_true, cnd_false, pick_true, pick_false, not_bool, bin_add, bin_sub, bin_mul, bin_eql, bin_neq, bin_lss, bin_leq, bin_gtr, bin_geq, ext0, ext1, ext2, lenS_mk, eqNil_none, eqNil_some, neNil_none, neNil_some, ret_k, mem, Nat.zero_add, Nat.add_zero, Nat.mul_one, drewV, Bool.not_true, Bool.not_false]
      refine stA_h H 1 rfl rfl rfl (by decide) fun w9 H => ?_; try simp only [rdN_a (hc H (fun c hc => by simp [hc, List.set])), pv_some, nilO_ptr, faO_mk, gd_yes, gd_no, gd_yes', gd_no', cnd_true, cnd_false, pick_true, pick_false, not_bool, bin_add, bin_sub, bin_mul, bin_eql, bin_neq, bin_lss, bin_leq, bin_gtr, bin_geq, ext0, ext1, ext2, lenS_mk, eqNil_none, eqNil_some, neNil_none, neNil_some, ret_k, mem, Nat.zero_add, Nat.add_zero, Nat.mul_one, drewV, Bool.not_true, Bool.not_false]
      exact dec_j2 hs hn h24 hn2 (H.to (by intro f; simp only [I, U8, U64, ptr, List.set_cons_zero, List.set_cons_succ, List.eraseIdx_cons_zero, List.eraseIdx_cons_succ, List.map_append, List.map_cons, List.map_nil, List.sum_append, List.sum_cons, List.sum_nil]; omega))
    · refine al_h H (z := [I 0, I 0, I 0, I 0, I 0, I 0, I 0, I 0]) (by kernel_rfl) fun w9 fb H => ?_; replace H := H.rot1; simp only [rdN_a (hc H (fun c hc => by simp [hc])), pv_some, nilO_ptr, faO_mk, gd_yes, gd_no, gd_yes', gd_no', cnd_true, cnd_false, pick_true, pick_false, not_bool, bin_add, bin_sub, bin_mul, bin_eql, bin_neq, bin_lss, bin_leq, bin_gtr, bin_geq, ext0, ext1, ext2, lenS_mk, eqNil_none, eqNil_some, neNil_none, neNil_some, ret_k, mem, Nat.zero_add, Nat.add_zero, Nat.mul_one, drewV, Bool.not_true, Bool.not_false]
      refine cal_h (fields_spec H) ?_; rintro e w9 ⟨rfl, H⟩; simp only [ret_k]; simp only [rdN_a (hc H (fun c hc => by simp [hc])), pv_some, nilO_ptr, faO_mk, gd_yes, gd_no, gd_yes', gd_no', cnd_true, cnd_false, pick_true, pick_false, not_bool, bin_add, bin_sub, bin_mul, bin_eql, bin_neq, bin_lss, bin_leq, bin_gtr, bin_geq, ext0, ext1, ext2, lenS_mk, eqNil_none, eqNil_some, neNil_none, neNil_some, ret_k, mem, Nat.zero_add, Nat.add_zero, Nat.mul_one, drewV, Bool.not_true, Bool.not_false]
      refine stA_h H 2 rfl hlb rfl bv_scalar fun w9 H => ?_; try simp only [rdN_a (hc H (fun c hc => by simp [hc, List.set])), pv_some, nilO_ptr, faO_mk, gd_yes, gd_no, gd_yes', gd_no', cnd_true, cnd_false, pick_true, pick_false, not_bool, bin_add, bin_sub, bin_mul, bin_eql, bin_neq, bin_lss, bin_leq, bin_gtr, bin_geq, ext0, ext1, ext2, lenS_mk, eqNil_none, eqNil_some, neNil_none, neNil_some, ret_k, mem, Nat.zero_add, Nat.add_zero, Nat.mul_one, drewV, Bool.not_true, Bool.not_false]
      refine stA_h H 1 rfl rfl rfl (by decide) fun w9 H => ?_; try simp only [rdN_a (hc H (fun c hc => by simp [hc, List.set])), pv_some, nilO_ptr, faO_mk, gd_yes, gd_no, gd_yes', gd_no', cnd_true, cnd_false, pick_true, pick_false, not_bool, bin_add, bin_sub, bin_mul, bin_eql, bin_neq, bin_lss, bin_leq, bin_gtr, bin_geq, ext0, ext1, ext2, lenS_mk, eqNil_none, eqNil_some, neNil_none, neNil_some, ret_k, mem, Nat.zero_add, Nat.add_zero, Nat.mul_one, drewV, Bool.not_true, Bool.not_false]
      exact dec_j2 hs hn h24 hn2 (H.to (by intro f; simp only [I, U8, U64, ptr, List.set_cons_zero, List.set_cons_succ, List.eraseIdx_cons_zero, List.eraseIdx_cons_succ, List.map_append, List.map_cons, List.map_nil, List.sum_append, List.sum_cons, List.sum_nil]; omega))
  · refine al_h H (z := [I 0, I 0, I 0, I 0, I 0, I 0, I 0, I 0]) (by kernel_rfl) fun w9 fb H => ?_; replace H := H.rot1; simp only [rdN_a (hc H (fun c hc => by simp [hc])), pv_some, nilO_ptr, faO_mk, gd_yes, gd_no, gd_yes', gd_no', cnd_true, cnd_false, pick_true, pick_false, not_bool, bin_add, bin_sub, bin_mul, bin_eql, bin_neq, bin_lss, bin_leq, bin_gtr, bin_geq, ext0, ext1, ext2, lenS_mk, eqNil_none, eqNil_some, neNil_none, neNil_some, ret_k, mem, Nat.zero_add, Nat.add_zero, Nat.mul_one, drewV, Bool.not_true, Bool.not_false]
    refine allW2 ?_ ?_
    · refine cal_h (fields_spec H) ?_; rintro e w9 ⟨rfl, H⟩; simp only [ret_k]; simp only [rdN_a (hc H (fun c hc => by simp [hc])), pv_some, nilO_ptr, faO_mk, gd_yes, gd_no, gd_yes', gd_no', cnd_true, cnd_false, pick_true, pick_false, not_bool, bin_add, bin_sub, bin_mul, bin_eql, bin_neq, bin_lss, bin_leq, bin_gtr, bin_geq, ext0, ext1, ext2, lenS_mk, eqNil_none, eqNil_some, neNil_none, neNil_some, ret_k, mem, Nat.zero_add, Nat.add_zero, Nat.mul_one, drewV, Bool.not_true, Bool.not_false]
      refine al_h H (z := List.replicate 24 (U8 0)) (by kernel_rfl) fun w9 hb H => ?_; replace H := H.rot1; simp only [rdN_a (hc H (fun c hc => by simp [hc])), pv_some, nilO_ptr, faO_mk, gd_yes, gd_no, gd_yes', gd_no', cnd_true, cnd_false, pick_true, pick_false, not_bool, bin_add, bin_sub, bin_mul, bin_eql, bin_neq, bin_lss, bin_leq, bin_gtr, bin_geq, ext0, ext1, ext2, lenS_mk, eqNil_none, eqNil_some, neNil_none, neNil_some, ret_k, mem, Nat.zero_add, Nat.add_zero, Nat.mul_one, drewV, Bool.not_true, Bool.not_false]
      refine stA_h H 1 rfl hlb rfl bv_scalar fun w9 H => ?_; try simp only [rdN_a (hc H (fun c hc => by simp [hc, List.set])), pv_some, nilO_ptr, faO_mk, gd_yes, gd_no, gd_yes', gd_no', cnd_true, cnd_false, pick_true, pick_false, not_bool, bin_add, bin_sub, bin_mul, bin_eql, bin_neq, bin_lss, bin_leq, bin_gtr, bin_geq, ext0, ext1, ext2, lenS_mk, eqNil_none, eqNil_some, neNil_none, neNil_some, ret_k, mem, Nat.zero_add, Nat.add_zero, Nat.mul_one, drewV, Bool.not_true, Bool.not_false]
      refine stA_h H 2 rfl rfl rfl (by decide) fun w9 H => ?_; try simp only [rdN_a (hc H (fun c hc => by simp [hc, List.set])), pv_some, nilO_ptr, faO_mk, gd_yes, gd_no, gd_yes', gd_no', cnd_true, cnd_false, pick_true, pick_false, not_bool, bin_add, bin_sub, bin_mul, bin_eql, bin_neq, bin_lss, bin_leq, bin_gtr, bin_geq, ext0, ext1, ext2, lenS_mk, eqNil_none, eqNil_some, neNil_none, neNil_some, ret_k, mem, Nat.zero_add, Nat.add_zero, Nat.mul_one, drewV, Bool.not_true, Bool.not_false]
      exact dec_j2 hs hn h24 hn2 (H.to (by intro f; simp only [I, U8, U64, ptr, List.set_cons_zero, List.set_cons_succ, List.eraseIdx_cons_zero, List.eraseIdx_cons_succ, List.map_append, List.map_cons, List.map_nil, List.sum_append, List.sum_cons, List.sum_nil]; omega))
    · refine al_h H (z := List.replicate 24 (U8 0)) (by kernel_rfl) fun w9 hb H => ?_; replace H := H.rot1; simp only [rdN_a (hc H (fun c hc => by simp [hc])), pv_some, nilO_ptr, faO_mk, gd_yes, gd_no, gd_yes', gd_no', cnd_true, cnd_false, pick_true, pick_false, not_bool, bin_add, bin_sub, bin_mul, bin_eql, bin_neq, bin_lss, bin_leq, bin_gtr, bin_geq, ext0, ext1, ext2, lenS_mk, eqNil_none, eqNil_some, neNil_none, neNil_some, ret_k, mem, Nat.zero_add, Nat.add_zero, Nat.mul_one, drewV, Bool.not_true, Bool.not_false]
      refine cal_h (fields_spec H) ?_; rintro e w9 ⟨rfl, H⟩; simp only [ret_k]; simp only [rdN_a (hc H (fun c hc => by simp [hc])), pv_some, nilO_ptr, faO_mk, gd_yes, gd_no, gd_yes', gd_no', cnd_true, cnd_false, pick_true, pick_false, not_bool, bin_add, bin_sub, bin_mul, bin_eql, bin_neq, bin_lss, bin_leq, bin_gtr, bin_geq, ext0, ext1, ext2, lenS_mk, eqNil_none, eqNil_some, neNil_none, neNil_some, ret_k, mem, Nat.zero_add, Nat.add_zero, Nat.mul_one, drewV, Bool.not_true, Bool.not_false]
      refine stA_h H 1 rfl hlb rfl bv_scalar fun w9 H => ?_; try simp only [rdN_a (hc H (fun c hc => by simp [hc, List.set])), pv_some, nilO_ptr, faO_mk, gd_yes, gd_no, gd_yes', gd_no', cnd_true, cnd_false, pick_true, pick_false, not_bool, bin_add, bin_sub, bin_mul, bin_eql, bin_neq, bin_lss, bin_leq, bin_gtr, bin_geq, ext0, ext1, ext2, lenS_mk, eqNil_none, eqNil_some, neNil_none, neNil_some, ret_k, mem, Nat.zero_add, Nat.add_zero, Nat.mul_one, drewV, Bool.not_true, Bool.not_false]
      refine stA_h H 2 rfl rfl rfl (by decide) fun w9 H => ?_; try simp only [rdN_a (hc H (fun c hc => by simp [hc, List.set])), pv_some, nilO_ptr, faO_mk, gd_yes, gd_no, gd_yes', gd_no', cnd_true, cnd_false, pick_true, pick_false, not_bool, bin_add, bin_sub, bin_mul, bin_eql, bin_neq, bin_lss, bin_leq, bin_gtr, bin_geq, ext0, ext1, ext2, lenS_mk, eqNil_none, eqNil_some, neNil_none, neNil_some, ret_k, mem, Nat.zero_add, Nat.add_zero, Nat.mul_one, drewV, Bool.not_true, Bool.not_false]
      exact dec_j2 hs hn h24 hn2 (H.to (by intro f; simp only [I, U8, U64, ptr, List.set_cons_zero, List.set_cons_succ, List.eraseIdx_cons_zero, List.eraseIdx_cons_succ, List.map_append, List.map_cons, List.map_nil, List.sum_append, List.sum_cons, List.sum_nil]; omega))
theorem Decode_spec (hs : RdL w0 F 1 s n (bv xs)) (hn : n < 2 ^ 40) (H : Hp w0 w F) : Calls Pg 20 ⟨[s]⟩ w (DecPost w0 F xs) := by
  have hl : xs.length = n := by have := hs.length; rw [bv_length] at this; omega
  apply F20_calls
  unfold F20
  refine al_h H (z := zfrm) (by kernel_rfl) fun w1 x2 H1 => ?_
  simp only [lenS_rdL hs, pv_some, nilO_ptr, faO_mk, gd_yes, gd_no, gd_yes', gd_no', cnd_true, cnd_false, pick_true, pick_false, not_bool, bin_add, bin_sub, bin_mul, bin_eql, bin_neq, bin_lss, bin_leq, bin_gtr, bin_geq, ext0, ext1, ext2, lenS_mk, eqNil_none, eqNil_some, neNil_none, neNil_some, ret_k, mem, Nat.zero_add, Nat.add_zero, Nat.mul_one, drewV, Bool.not_true, Bool.not_false]
  have bad : xs.length < 24 ∨ 4120 < xs.length → (pv (bldO [I 0, .bool false, I 0, I 0, .slice none 0 0] []) fun v => stN 5 (ptr x2 0) v fun _ => ldN 5 (ptr x2 0) fun v36 => DecPost w0 F xs (.returned (.tuple ⟨[v36, I 12]⟩))) w1 := by
    intro h
    refine dec_bad (L := []) (l0 := zfrm) rfl ?_ H1
    unfold decE; rw [if_pos (by rcases h with h | h; exact .inl h; exact .inr (.inl h))]
  by_cases h1 : (n : Int) < 24
  · simp only [decide_eq_true h1, pv_some, nilO_ptr, faO_mk, gd_yes, gd_no, gd_yes', gd_no', cnd_true, cnd_false, pick_true, pick_false, not_bool, bin_add, bin_sub, bin_mul, bin_eql, bin_neq, bin_lss, bin_leq, bin_gtr, bin_geq, ext0, ext1, ext2, lenS_mk, eqNil_none, eqNil_some, neNil_none, neNil_some, ret_k, mem, Nat.zero_add, Nat.add_zero, Nat.mul_one, drewV, Bool.not_true, Bool.not_false]
    exact bad (by omega)
  · simp only [decide_eq_false h1, lenS_rdL hs, pv_some, nilO_ptr, faO_mk, gd_yes, gd_no, gd_yes', gd_no', cnd_true, cnd_false, pick_true, pick_false, not_bool, bin_add, bin_sub, bin_mul, bin_eql, bin_neq, bin_lss, bin_leq, bin_gtr, bin_geq, ext0, ext1, ext2, lenS_mk, eqNil_none, eqNil_some, neNil_none, neNil_some, ret_k, mem, Nat.zero_add, Nat.add_zero, Nat.mul_one, drewV, Bool.not_true, Bool.not_false]
    by_cases h2 : (4120 : Int) < n
    · simp only [decide_eq_true h2, pv_some, nilO_ptr, faO_mk, gd_yes, gd_no, gd_yes', gd_no', cnd_true, cnd_false, pick_true, pick_false, not_bool, bin_add, bin_sub, bin_mul, bin_eql, bin_neq, bin_lss, bin_leq, bin_gtr, bin_geq, ext0, ext1, ext2, lenS_mk, eqNil_none, eqNil_some, neNil_none, neNil_some, ret_k, mem, Nat.zero_add, Nat.add_zero, Nat.mul_one, drewV, Bool.not_true, Bool.not_false]
      exact bad (by omega)
    · simp only [decide_eq_false h2, pv_some, nilO_ptr, faO_mk, gd_yes, gd_no, gd_yes', gd_no', cnd_true, cnd_false, pick_true, pick_false, not_bool, bin_add, bin_sub, bin_mul, bin_eql, bin_neq, bin_lss, bin_leq, bin_gtr, bin_geq, ext0, ext1, ext2, lenS_mk, eqNil_none, eqNil_some, neNil_none, neNil_some, ret_k, mem, Nat.zero_add, Nat.add_zero, Nat.mul_one, drewV, Bool.not_true, Bool.not_false]
      exact dec_j1 hs hl (by omega) (by omega) H1
end
end Go.Proofs.Ytmnpndgmfmjfhaa.Den
end
