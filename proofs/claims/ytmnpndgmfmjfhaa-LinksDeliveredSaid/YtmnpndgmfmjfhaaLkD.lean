/- Links: Encode, whole. Conditions: none. -/
import Derived.Test.YtmnpndgmfmjfhaaLkC
set_option linter.unusedVariables false
set_option linter.unusedSimpArgs false
set_option maxRecDepth 8000
namespace Go.Proofs.Ytmnpndgmfmjfhaa.Den
open Go Go.RowKit
section
variable {w : World} {w0 : Base} {F L : List Chunk} {R : ER} {k : Int} {last : Bool} {m f : Int} {s : Value} {n b : Nat} {xs : List Int}

theorem enc_head {tb : Nat} (H1 : Hp w0 w (⟨b, tb, frm k last m f s⟩ :: F)) (hs : RdL w0 F 1 s n (bv xs))
    (herr : encE k last m f n ≠ 0 → R (.returned (.tuple ⟨[.slice none 0 0, I (encE k last m f n)]⟩)) w)
    (hok : encE k last m f n = 0 → links_Encode_j1 R (ptr b 0) w) : links_Encode_j3 R (ptr b 0) w := by
  have p3 : ¬ (k ≠ 1 ∧ k ≠ 2) → ¬ (k = 2 ∧ (last = true ∨ 0 < n)) → links_Encode_j7 R (ptr b 0) w := by
    intro hk h2
    unfold links_Encode_j7
    simp only [pv_some, nilO_ptr, faO_mk, gd_yes, gd_no, gd_yes', gd_no', cnd_true, cnd_false, pick_true, pick_false, not_bool, bin_add, bin_sub, bin_mul, bin_eql, bin_neq, bin_lss, bin_leq, bin_gtr, bin_geq, ext0, ext1, ext2, lenS_mk, eqNil_none, eqNil_some, neNil_none, neNil_some, ret_k, mem, Nat.zero_add, Nat.add_zero, Nat.mul_one, drewV, Bool.not_true, Bool.not_false]
    refine ld_h H1 0 rfl rfl ?_
    have fin : ¬ (m < 1 ∨ f < 0 ∨ 2147483647 < f) → cnd (.bool (decide ((4096 : Int) < (n : Int)))) (R (.returned (.tuple ⟨[.slice none 0 0, I 20]⟩))) (links_Encode_j1 R (ptr b 0)) w := by
      intro h3
      refine cnd_decide (fun h4 => ?_) (fun h4 => ?_)
      · have e : encE k last m f n = 20 := by unfold encE; rw [if_neg hk, if_neg h2, if_neg h3, if_pos (by omega)]
        have := herr (by rw [e]; decide)
        rw [e] at this; exact this
      · exact hok (by unfold encE; rw [if_neg hk, if_neg h2, if_neg h3, if_neg (by omega)])
    have bad : (m < 1 ∨ f < 0 ∨ 2147483647 < f) → R (.returned (.tuple ⟨[.slice none 0 0, I 34]⟩)) w := by
      intro h
      have e : encE k last m f n = 34 := by unfold encE; rw [if_neg hk, if_neg h2, if_pos h]
      have := herr (by rw [e]; decide)
      rw [e] at this; exact this
    by_cases hm : m < 1
    · simp only [decide_eq_true hm, pv_some, nilO_ptr, faO_mk, gd_yes, gd_no, gd_yes', gd_no', cnd_true, cnd_false, pick_true, pick_false, not_bool, bin_add, bin_sub, bin_mul, bin_eql, bin_neq, bin_lss, bin_leq, bin_gtr, bin_geq, ext0, ext1, ext2, lenS_mk, eqNil_none, eqNil_some, neNil_none, neNil_some, ret_k, mem, Nat.zero_add, Nat.add_zero, Nat.mul_one, drewV, Bool.not_true, Bool.not_false]
      exact bad (.inl hm)
    · simp only [decide_eq_false hm, pv_some, nilO_ptr, faO_mk, gd_yes, gd_no, gd_yes', gd_no', cnd_true, cnd_false, pick_true, pick_false, not_bool, bin_add, bin_sub, bin_mul, bin_eql, bin_neq, bin_lss, bin_leq, bin_gtr, bin_geq, ext0, ext1, ext2, lenS_mk, eqNil_none, eqNil_some, neNil_none, neNil_some, ret_k, mem, Nat.zero_add, Nat.add_zero, Nat.mul_one, drewV, Bool.not_true, Bool.not_false]
      refine ld_h H1 0 rfl rfl ?_
      by_cases hf : f < 0
      · simp only [decide_eq_true hf, pv_some, nilO_ptr, faO_mk, gd_yes, gd_no, gd_yes', gd_no', cnd_true, cnd_false, pick_true, pick_false, not_bool, bin_add, bin_sub, bin_mul, bin_eql, bin_neq, bin_lss, bin_leq, bin_gtr, bin_geq, ext0, ext1, ext2, lenS_mk, eqNil_none, eqNil_some, neNil_none, neNil_some, ret_k, mem, Nat.zero_add, Nat.add_zero, Nat.mul_one, drewV, Bool.not_true, Bool.not_false]
        exact bad (.inr (.inl hf))
      · simp only [decide_eq_false hf, pv_some, nilO_ptr, faO_mk, gd_yes, gd_no, gd_yes', gd_no', cnd_true, cnd_false, pick_true, pick_false, not_bool, bin_add, bin_sub, bin_mul, bin_eql, bin_neq, bin_lss, bin_leq, bin_gtr, bin_geq, ext0, ext1, ext2, lenS_mk, eqNil_none, eqNil_some, neNil_none, neNil_some, ret_k, mem, Nat.zero_add, Nat.add_zero, Nat.mul_one, drewV, Bool.not_true, Bool.not_false]
        refine ld_h H1 0 rfl rfl ?_
        by_cases hg : 2147483647 < f
        · simp only [decide_eq_true hg, pv_some, nilO_ptr, faO_mk, gd_yes, gd_no, gd_yes', gd_no', cnd_true, cnd_false, pick_true, pick_false, not_bool, bin_add, bin_sub, bin_mul, bin_eql, bin_neq, bin_lss, bin_leq, bin_gtr, bin_geq, ext0, ext1, ext2, lenS_mk, eqNil_none, eqNil_some, neNil_none, neNil_some, ret_k, mem, Nat.zero_add, Nat.add_zero, Nat.mul_one, drewV, Bool.not_true, Bool.not_false]
          exact bad (.inr (.inr hg))
        · simp only [decide_eq_false hg, pv_some, nilO_ptr, faO_mk, gd_yes, gd_no, gd_yes', gd_no', cnd_true, cnd_false, pick_true, pick_false, not_bool, bin_add, bin_sub, bin_mul, bin_eql, bin_neq, bin_lss, bin_leq, bin_gtr, bin_geq, ext0, ext1, ext2, lenS_mk, eqNil_none, eqNil_some, neNil_none, neNil_some, ret_k, mem, Nat.zero_add, Nat.add_zero, Nat.mul_one, drewV, Bool.not_true, Bool.not_false]
          refine ld_h H1 0 rfl rfl ?_
          simp only [lenS_rdL hs, pv_some, nilO_ptr, faO_mk, gd_yes, gd_no, gd_yes', gd_no', cnd_true, cnd_false, pick_true, pick_false, not_bool, bin_add, bin_sub, bin_mul, bin_eql, bin_neq, bin_lss, bin_leq, bin_gtr, bin_geq, ext0, ext1, ext2, lenS_mk, eqNil_none, eqNil_some, neNil_none, neNil_some, ret_k, mem, Nat.zero_add, Nat.add_zero, Nat.mul_one, drewV, Bool.not_true, Bool.not_false]
          exact fin (by omega)
  have p2 : ¬ (k ≠ 1 ∧ k ≠ 2) → links_Encode_j5 R (ptr b 0) w := by
    intro hk
    unfold links_Encode_j5 links_Encode_j6
    simp only [pv_some, nilO_ptr, faO_mk, gd_yes, gd_no, gd_yes', gd_no', cnd_true, cnd_false, pick_true, pick_false, not_bool, bin_add, bin_sub, bin_mul, bin_eql, bin_neq, bin_lss, bin_leq, bin_gtr, bin_geq, ext0, ext1, ext2, lenS_mk, eqNil_none, eqNil_some, neNil_none, neNil_some, ret_k, mem, Nat.zero_add, Nat.add_zero, Nat.mul_one, drewV, Bool.not_true, Bool.not_false]
    refine ld_h H1 0 rfl rfl ?_
    have bad : (k = 2 ∧ (last = true ∨ 0 < n)) → R (.returned (.tuple ⟨[.slice none 0 0, I 14]⟩)) w := by
      intro h
      have e : encE k last m f n = 14 := by unfold encE; rw [if_neg hk, if_pos h]
      have := herr (by rw [e]; decide)
      rw [e] at this; exact this
    by_cases h2 : k = 2
    · simp only [decide_eq_true h2, pv_some, nilO_ptr, faO_mk, gd_yes, gd_no, gd_yes', gd_no', cnd_true, cnd_false, pick_true, pick_false, not_bool, bin_add, bin_sub, bin_mul, bin_eql, bin_neq, bin_lss, bin_leq, bin_gtr, bin_geq, ext0, ext1, ext2, lenS_mk, eqNil_none, eqNil_some, neNil_none, neNil_some, ret_k, mem, Nat.zero_add, Nat.add_zero, Nat.mul_one, drewV, Bool.not_true, Bool.not_false]
      refine ld_h H1 0 rfl rfl ?_
      cases hl : last with
      | true =>
        simp only [pv_some, nilO_ptr, faO_mk, gd_yes, gd_no, gd_yes', gd_no', cnd_true, cnd_false, pick_true, pick_false, not_bool, bin_add, bin_sub, bin_mul, bin_eql, bin_neq, bin_lss, bin_leq, bin_gtr, bin_geq, ext0, ext1, ext2, lenS_mk, eqNil_none, eqNil_some, neNil_none, neNil_some, ret_k, mem, Nat.zero_add, Nat.add_zero, Nat.mul_one, drewV, Bool.not_true, Bool.not_false]
        exact bad ⟨h2, .inl hl⟩
      | false =>
        rw [hl] at H1
        simp only [pv_some, nilO_ptr, faO_mk, gd_yes, gd_no, gd_yes', gd_no', cnd_true, cnd_false, pick_true, pick_false, not_bool, bin_add, bin_sub, bin_mul, bin_eql, bin_neq, bin_lss, bin_leq, bin_gtr, bin_geq, ext0, ext1, ext2, lenS_mk, eqNil_none, eqNil_some, neNil_none, neNil_some, ret_k, mem, Nat.zero_add, Nat.add_zero, Nat.mul_one, drewV, Bool.not_true, Bool.not_false]
        refine ld_h H1 0 rfl rfl ?_
        simp only [lenS_rdL hs, pv_some, nilO_ptr, faO_mk, gd_yes, gd_no, gd_yes', gd_no', cnd_true, cnd_false, pick_true, pick_false, not_bool, bin_add, bin_sub, bin_mul, bin_eql, bin_neq, bin_lss, bin_leq, bin_gtr, bin_geq, ext0, ext1, ext2, lenS_mk, eqNil_none, eqNil_some, neNil_none, neNil_some, ret_k, mem, Nat.zero_add, Nat.add_zero, Nat.mul_one, drewV, Bool.not_true, Bool.not_false]
        by_cases hn : 0 < n
        · simp only [decide_eq_true (show (0 : Int) < (n : Int) from by omega), pv_some, nilO_ptr, faO_mk, gd_yes, gd_no, gd_yes', gd_no', cnd_true, cnd_false, pick_true, pick_false, not_bool, bin_add, bin_sub, bin_mul, bin_eql, bin_neq, bin_lss, bin_leq, bin_gtr, bin_geq, ext0, ext1, ext2, lenS_mk, eqNil_none, eqNil_some, neNil_none, neNil_some, ret_k, mem, Nat.zero_add, Nat.add_zero, Nat.mul_one, drewV, Bool.not_true, Bool.not_false]
          exact bad ⟨h2, .inr hn⟩
        · simp only [decide_eq_false (show ¬ (0 : Int) < (n : Int) from by omega), pv_some, nilO_ptr, faO_mk, gd_yes, gd_no, gd_yes', gd_no', cnd_true, cnd_false, pick_true, pick_false, not_bool, bin_add, bin_sub, bin_mul, bin_eql, bin_neq, bin_lss, bin_leq, bin_gtr, bin_geq, ext0, ext1, ext2, lenS_mk, eqNil_none, eqNil_some, neNil_none, neNil_some, ret_k, mem, Nat.zero_add, Nat.add_zero, Nat.mul_one, drewV, Bool.not_true, Bool.not_false]
          exact p3 hk (by rw [hl]; simp; omega)
    · simp only [decide_eq_false h2, pv_some, nilO_ptr, faO_mk, gd_yes, gd_no, gd_yes', gd_no', cnd_true, cnd_false, pick_true, pick_false, not_bool, bin_add, bin_sub, bin_mul, bin_eql, bin_neq, bin_lss, bin_leq, bin_gtr, bin_geq, ext0, ext1, ext2, lenS_mk, eqNil_none, eqNil_some, neNil_none, neNil_some, ret_k, mem, Nat.zero_add, Nat.add_zero, Nat.mul_one, drewV, Bool.not_true, Bool.not_false]
      exact p3 hk (by omega)
  unfold links_Encode_j3 links_Encode_j4
  simp only [pv_some, nilO_ptr, faO_mk, gd_yes, gd_no, gd_yes', gd_no', cnd_true, cnd_false, pick_true, pick_false, not_bool, bin_add, bin_sub, bin_mul, bin_eql, bin_neq, bin_lss, bin_leq, bin_gtr, bin_geq, ext0, ext1, ext2, lenS_mk, eqNil_none, eqNil_some, neNil_none, neNil_some, ret_k, mem, Nat.zero_add, Nat.add_zero, Nat.mul_one, drewV, Bool.not_true, Bool.not_false]
  refine ld_h H1 0 rfl rfl ?_
  by_cases h1 : k = 1
  · simp only [show decide (k ≠ 1) = false from decide_eq_false (by omega), pv_some, nilO_ptr, faO_mk, gd_yes, gd_no, gd_yes', gd_no', cnd_true, cnd_false, pick_true, pick_false, not_bool, bin_add, bin_sub, bin_mul, bin_eql, bin_neq, bin_lss, bin_leq, bin_gtr, bin_geq, ext0, ext1, ext2, lenS_mk, eqNil_none, eqNil_some, neNil_none, neNil_some, ret_k, mem, Nat.zero_add, Nat.add_zero, Nat.mul_one, drewV, Bool.not_true, Bool.not_false]
    exact p2 (by omega)
  · simp only [show decide (k ≠ 1) = true from decide_eq_true (by omega), pv_some, nilO_ptr, faO_mk, gd_yes, gd_no, gd_yes', gd_no', cnd_true, cnd_false, pick_true, pick_false, not_bool, bin_add, bin_sub, bin_mul, bin_eql, bin_neq, bin_lss, bin_leq, bin_gtr, bin_geq, ext0, ext1, ext2, lenS_mk, eqNil_none, eqNil_some, neNil_none, neNil_some, ret_k, mem, Nat.zero_add, Nat.add_zero, Nat.mul_one, drewV, Bool.not_true, Bool.not_false]
    refine ld_h H1 0 rfl rfl ?_
    by_cases h2 : k = 2
    · simp only [pv_some, nilO_ptr, faO_mk, gd_yes, gd_no, gd_yes', gd_no', cnd_true, cnd_false, pick_true, pick_false, not_bool, bin_add, bin_sub, bin_mul, bin_eql, bin_neq, bin_lss, bin_leq, bin_gtr, bin_geq, ext0, ext1, ext2, lenS_mk, eqNil_none, eqNil_some, neNil_none, neNil_some, ret_k, mem, Nat.zero_add, Nat.add_zero, Nat.mul_one, drewV, Bool.not_true, Bool.not_false, show decide (k ≠ 2) = false from decide_eq_false (by omega)]
      exact p2 (by omega)
    · simp only [pv_some, nilO_ptr, faO_mk, gd_yes, gd_no, gd_yes', gd_no', cnd_true, cnd_false, pick_true, pick_false, not_bool, bin_add, bin_sub, bin_mul, bin_eql, bin_neq, bin_lss, bin_leq, bin_gtr, bin_geq, ext0, ext1, ext2, lenS_mk, eqNil_none, eqNil_some, neNil_none, neNil_some, ret_k, mem, Nat.zero_add, Nat.add_zero, Nat.mul_one, drewV, Bool.not_true, Bool.not_false, show decide (k ≠ 2) = true from decide_eq_true (by omega)]
      have e : encE k last m f n = 17 := by unfold encE; rw [if_pos ⟨h1, h2⟩]
      have := herr (by rw [e]; decide)
      rw [e] at this; exact this

/-- The reference's Encode behind its first box. -/
def orpimentref35_Encode_j0 (R : ER) (x1 : Value) : WP :=
  pv (faO 0 x1) fun v82 =>
  ld1 v82 fun v83 =>
  pv (bin .neq v83 (.int .i64 1)) fun v84 =>
  gd v84 true (pv (faO 0 x1)) fun v85 =>
  gd v84 true (ld1 v85) fun v86 =>
  gd v84 true (pv (bin .neq v86 (.int .i64 2))) fun v87 =>
  pv (pickO v84 v87 (.bool false)) fun v88 =>
  cnd v88 (
   R (.returned (.tuple ⟨[(.slice none 0 0), (.int .i64 17)]⟩))) (
   orpimentref35_Encode_j1 R x1)
theorem renc_0 (R : ER) (x0 : Value) : orpimentref35_Encode R x0 = bx 52 x0 fun v => orpimentref35_Encode_j0 R v := rfl

theorem renc_head {tb : Nat} (H1 : Hp w0 w (⟨b, tb, frm k last m f s⟩ :: F)) (hs : RdL w0 F 1 s n (bv xs))
    (herr : encE k last m f n ≠ 0 → R (.returned (.tuple ⟨[.slice none 0 0, I (encE k last m f n)]⟩)) w)
    (hok : encE k last m f n = 0 → orpimentref35_Encode_j4 R (ptr b 0) w) : orpimentref35_Encode_j0 R (ptr b 0) w := by
  have p3 : ¬ (k ≠ 1 ∧ k ≠ 2) → ¬ (k = 2 ∧ (last = true ∨ 0 < n)) → orpimentref35_Encode_j2 R (ptr b 0) w := by
    intro hk h2
    unfold orpimentref35_Encode_j2 orpimentref35_Encode_j7
    simp only [pv_some, nilO_ptr, faO_mk, gd_yes, gd_no, gd_yes', gd_no', cnd_true, cnd_false, pick_true, pick_false, not_bool, bin_add, bin_sub, bin_mul, bin_eql, bin_neq, bin_lss, bin_leq, bin_gtr, bin_geq, ext0, ext1, ext2, lenS_mk, eqNil_none, eqNil_some, neNil_none, neNil_some, ret_k, mem, Nat.zero_add, Nat.add_zero, Nat.mul_one, drewV, Bool.not_true, Bool.not_false]
    refine ld_h H1 0 rfl rfl ?_
    have fin : ¬ (m < 1 ∨ f < 0 ∨ 2147483647 < f) → cnd (.bool (decide ((4096 : Int) < (n : Int)))) (R (.returned (.tuple ⟨[.slice none 0 0, I 20]⟩))) (orpimentref35_Encode_j4 R (ptr b 0)) w := by
      intro h3
      refine cnd_decide (fun h4 => ?_) (fun h4 => ?_)
      · have e : encE k last m f n = 20 := by unfold encE; rw [if_neg hk, if_neg h2, if_neg h3, if_pos (by omega)]
        have := herr (by rw [e]; decide)
        rw [e] at this; exact this
      · exact hok (by unfold encE; rw [if_neg hk, if_neg h2, if_neg h3, if_neg (by omega)])
    have bad : (m < 1 ∨ f < 0 ∨ 2147483647 < f) → R (.returned (.tuple ⟨[.slice none 0 0, I 34]⟩)) w := by
      intro h
      have e : encE k last m f n = 34 := by unfold encE; rw [if_neg hk, if_neg h2, if_pos h]
      have := herr (by rw [e]; decide)
      rw [e] at this; exact this
    by_cases hm : m < 1
    · simp only [decide_eq_true hm, pv_some, nilO_ptr, faO_mk, gd_yes, gd_no, gd_yes', gd_no', cnd_true, cnd_false, pick_true, pick_false, not_bool, bin_add, bin_sub, bin_mul, bin_eql, bin_neq, bin_lss, bin_leq, bin_gtr, bin_geq, ext0, ext1, ext2, lenS_mk, eqNil_none, eqNil_some, neNil_none, neNil_some, ret_k, mem, Nat.zero_add, Nat.add_zero, Nat.mul_one, drewV, Bool.not_true, Bool.not_false]
      exact bad (.inl hm)
    · simp only [decide_eq_false hm, pv_some, nilO_ptr, faO_mk, gd_yes, gd_no, gd_yes', gd_no', cnd_true, cnd_false, pick_true, pick_false, not_bool, bin_add, bin_sub, bin_mul, bin_eql, bin_neq, bin_lss, bin_leq, bin_gtr, bin_geq, ext0, ext1, ext2, lenS_mk, eqNil_none, eqNil_some, neNil_none, neNil_some, ret_k, mem, Nat.zero_add, Nat.add_zero, Nat.mul_one, drewV, Bool.not_true, Bool.not_false]
      refine ld_h H1 0 rfl rfl ?_
      by_cases hf : f < 0
      · simp only [decide_eq_true hf, pv_some, nilO_ptr, faO_mk, gd_yes, gd_no, gd_yes', gd_no', cnd_true, cnd_false, pick_true, pick_false, not_bool, bin_add, bin_sub, bin_mul, bin_eql, bin_neq, bin_lss, bin_leq, bin_gtr, bin_geq, ext0, ext1, ext2, lenS_mk, eqNil_none, eqNil_some, neNil_none, neNil_some, ret_k, mem, Nat.zero_add, Nat.add_zero, Nat.mul_one, drewV, Bool.not_true, Bool.not_false]
        exact bad (.inr (.inl hf))
      · simp only [decide_eq_false hf, pv_some, nilO_ptr, faO_mk, gd_yes, gd_no, gd_yes', gd_no', cnd_true, cnd_false, pick_true, pick_false, not_bool, bin_add, bin_sub, bin_mul, bin_eql, bin_neq, bin_lss, bin_leq, bin_gtr, bin_geq, ext0, ext1, ext2, lenS_mk, eqNil_none, eqNil_some, neNil_none, neNil_some, ret_k, mem, Nat.zero_add, Nat.add_zero, Nat.mul_one, drewV, Bool.not_true, Bool.not_false]
        refine ld_h H1 0 rfl rfl ?_
        by_cases hg : 2147483647 < f
        · simp only [decide_eq_true hg, pv_some, nilO_ptr, faO_mk, gd_yes, gd_no, gd_yes', gd_no', cnd_true, cnd_false, pick_true, pick_false, not_bool, bin_add, bin_sub, bin_mul, bin_eql, bin_neq, bin_lss, bin_leq, bin_gtr, bin_geq, ext0, ext1, ext2, lenS_mk, eqNil_none, eqNil_some, neNil_none, neNil_some, ret_k, mem, Nat.zero_add, Nat.add_zero, Nat.mul_one, drewV, Bool.not_true, Bool.not_false]
          exact bad (.inr (.inr hg))
        · simp only [decide_eq_false hg, pv_some, nilO_ptr, faO_mk, gd_yes, gd_no, gd_yes', gd_no', cnd_true, cnd_false, pick_true, pick_false, not_bool, bin_add, bin_sub, bin_mul, bin_eql, bin_neq, bin_lss, bin_leq, bin_gtr, bin_geq, ext0, ext1, ext2, lenS_mk, eqNil_none, eqNil_some, neNil_none, neNil_some, ret_k, mem, Nat.zero_add, Nat.add_zero, Nat.mul_one, drewV, Bool.not_true, Bool.not_false]
          unfold orpimentref35_Encode_j3
          simp only [pv_some, nilO_ptr, faO_mk, gd_yes, gd_no, gd_yes', gd_no', cnd_true, cnd_false, pick_true, pick_false, not_bool, bin_add, bin_sub, bin_mul, bin_eql, bin_neq, bin_lss, bin_leq, bin_gtr, bin_geq, ext0, ext1, ext2, lenS_mk, eqNil_none, eqNil_some, neNil_none, neNil_some, ret_k, mem, Nat.zero_add, Nat.add_zero, Nat.mul_one, drewV, Bool.not_true, Bool.not_false]
          refine ld_h H1 0 rfl rfl ?_
          simp only [lenS_rdL hs, pv_some, nilO_ptr, faO_mk, gd_yes, gd_no, gd_yes', gd_no', cnd_true, cnd_false, pick_true, pick_false, not_bool, bin_add, bin_sub, bin_mul, bin_eql, bin_neq, bin_lss, bin_leq, bin_gtr, bin_geq, ext0, ext1, ext2, lenS_mk, eqNil_none, eqNil_some, neNil_none, neNil_some, ret_k, mem, Nat.zero_add, Nat.add_zero, Nat.mul_one, drewV, Bool.not_true, Bool.not_false]
          exact fin (by omega)
  have p2 : ¬ (k ≠ 1 ∧ k ≠ 2) → orpimentref35_Encode_j1 R (ptr b 0) w := by
    intro hk
    unfold orpimentref35_Encode_j1 orpimentref35_Encode_j8
    simp only [pv_some, nilO_ptr, faO_mk, gd_yes, gd_no, gd_yes', gd_no', cnd_true, cnd_false, pick_true, pick_false, not_bool, bin_add, bin_sub, bin_mul, bin_eql, bin_neq, bin_lss, bin_leq, bin_gtr, bin_geq, ext0, ext1, ext2, lenS_mk, eqNil_none, eqNil_some, neNil_none, neNil_some, ret_k, mem, Nat.zero_add, Nat.add_zero, Nat.mul_one, drewV, Bool.not_true, Bool.not_false]
    refine ld_h H1 0 rfl rfl ?_
    have bad : (k = 2 ∧ (last = true ∨ 0 < n)) → R (.returned (.tuple ⟨[.slice none 0 0, I 14]⟩)) w := by
      intro h
      have e : encE k last m f n = 14 := by unfold encE; rw [if_neg hk, if_pos h]
      have := herr (by rw [e]; decide)
      rw [e] at this; exact this
    by_cases h2 : k = 2
    · simp only [decide_eq_true h2, pv_some, nilO_ptr, faO_mk, gd_yes, gd_no, gd_yes', gd_no', cnd_true, cnd_false, pick_true, pick_false, not_bool, bin_add, bin_sub, bin_mul, bin_eql, bin_neq, bin_lss, bin_leq, bin_gtr, bin_geq, ext0, ext1, ext2, lenS_mk, eqNil_none, eqNil_some, neNil_none, neNil_some, ret_k, mem, Nat.zero_add, Nat.add_zero, Nat.mul_one, drewV, Bool.not_true, Bool.not_false]
      refine ld_h H1 0 rfl rfl ?_
      cases hl : last with
      | true =>
        simp only [pv_some, nilO_ptr, faO_mk, gd_yes, gd_no, gd_yes', gd_no', cnd_true, cnd_false, pick_true, pick_false, not_bool, bin_add, bin_sub, bin_mul, bin_eql, bin_neq, bin_lss, bin_leq, bin_gtr, bin_geq, ext0, ext1, ext2, lenS_mk, eqNil_none, eqNil_some, neNil_none, neNil_some, ret_k, mem, Nat.zero_add, Nat.add_zero, Nat.mul_one, drewV, Bool.not_true, Bool.not_false]
        exact bad ⟨h2, .inl hl⟩
      | false =>
        rw [hl] at H1
        simp only [pv_some, nilO_ptr, faO_mk, gd_yes, gd_no, gd_yes', gd_no', cnd_true, cnd_false, pick_true, pick_false, not_bool, bin_add, bin_sub, bin_mul, bin_eql, bin_neq, bin_lss, bin_leq, bin_gtr, bin_geq, ext0, ext1, ext2, lenS_mk, eqNil_none, eqNil_some, neNil_none, neNil_some, ret_k, mem, Nat.zero_add, Nat.add_zero, Nat.mul_one, drewV, Bool.not_true, Bool.not_false]
        refine ld_h H1 0 rfl rfl ?_
        simp only [lenS_rdL hs, pv_some, nilO_ptr, faO_mk, gd_yes, gd_no, gd_yes', gd_no', cnd_true, cnd_false, pick_true, pick_false, not_bool, bin_add, bin_sub, bin_mul, bin_eql, bin_neq, bin_lss, bin_leq, bin_gtr, bin_geq, ext0, ext1, ext2, lenS_mk, eqNil_none, eqNil_some, neNil_none, neNil_some, ret_k, mem, Nat.zero_add, Nat.add_zero, Nat.mul_one, drewV, Bool.not_true, Bool.not_false]
        by_cases hn : 0 < n
        · simp only [decide_eq_true (show (0 : Int) < (n : Int) from by omega), pv_some, nilO_ptr, faO_mk, gd_yes, gd_no, gd_yes', gd_no', cnd_true, cnd_false, pick_true, pick_false, not_bool, bin_add, bin_sub, bin_mul, bin_eql, bin_neq, bin_lss, bin_leq, bin_gtr, bin_geq, ext0, ext1, ext2, lenS_mk, eqNil_none, eqNil_some, neNil_none, neNil_some, ret_k, mem, Nat.zero_add, Nat.add_zero, Nat.mul_one, drewV, Bool.not_true, Bool.not_false]
          exact bad ⟨h2, .inr hn⟩
        · simp only [decide_eq_false (show ¬ (0 : Int) < (n : Int) from by omega), pv_some, nilO_ptr, faO_mk, gd_yes, gd_no, gd_yes', gd_no', cnd_true, cnd_false, pick_true, pick_false, not_bool, bin_add, bin_sub, bin_mul, bin_eql, bin_neq, bin_lss, bin_leq, bin_gtr, bin_geq, ext0, ext1, ext2, lenS_mk, eqNil_none, eqNil_some, neNil_none, neNil_some, ret_k, mem, Nat.zero_add, Nat.add_zero, Nat.mul_one, drewV, Bool.not_true, Bool.not_false]
          exact p3 hk (by rw [hl]; simp; omega)
    · simp only [decide_eq_false h2, pv_some, nilO_ptr, faO_mk, gd_yes, gd_no, gd_yes', gd_no', cnd_true, cnd_false, pick_true, pick_false, not_bool, bin_add, bin_sub, bin_mul, bin_eql, bin_neq, bin_lss, bin_leq, bin_gtr, bin_geq, ext0, ext1, ext2, lenS_mk, eqNil_none, eqNil_some, neNil_none, neNil_some, ret_k, mem, Nat.zero_add, Nat.add_zero, Nat.mul_one, drewV, Bool.not_true, Bool.not_false]
      exact p3 hk (by omega)
  unfold orpimentref35_Encode_j0
  simp only [pv_some, nilO_ptr, faO_mk, gd_yes, gd_no, gd_yes', gd_no', cnd_true, cnd_false, pick_true, pick_false, not_bool, bin_add, bin_sub, bin_mul, bin_eql, bin_neq, bin_lss, bin_leq, bin_gtr, bin_geq, ext0, ext1, ext2, lenS_mk, eqNil_none, eqNil_some, neNil_none, neNil_some, ret_k, mem, Nat.zero_add, Nat.add_zero, Nat.mul_one, drewV, Bool.not_true, Bool.not_false]
  refine ld_h H1 0 rfl rfl ?_
  by_cases h1 : k = 1
  · simp only [show decide (k ≠ 1) = false from decide_eq_false (by omega), pv_some, nilO_ptr, faO_mk, gd_yes, gd_no, gd_yes', gd_no', cnd_true, cnd_false, pick_true, pick_false, not_bool, bin_add, bin_sub, bin_mul, bin_eql, bin_neq, bin_lss, bin_leq, bin_gtr, bin_geq, ext0, ext1, ext2, lenS_mk, eqNil_none, eqNil_some, neNil_none, neNil_some, ret_k, mem, Nat.zero_add, Nat.add_zero, Nat.mul_one, drewV, Bool.not_true, Bool.not_false]
    exact p2 (by omega)
  · simp only [show decide (k ≠ 1) = true from decide_eq_true (by omega), pv_some, nilO_ptr, faO_mk, gd_yes, gd_no, gd_yes', gd_no', cnd_true, cnd_false, pick_true, pick_false, not_bool, bin_add, bin_sub, bin_mul, bin_eql, bin_neq, bin_lss, bin_leq, bin_gtr, bin_geq, ext0, ext1, ext2, lenS_mk, eqNil_none, eqNil_some, neNil_none, neNil_some, ret_k, mem, Nat.zero_add, Nat.add_zero, Nat.mul_one, drewV, Bool.not_true, Bool.not_false]
    refine ld_h H1 0 rfl rfl ?_
    by_cases h2 : k = 2
    · simp only [pv_some, nilO_ptr, faO_mk, gd_yes, gd_no, gd_yes', gd_no', cnd_true, cnd_false, pick_true, pick_false, not_bool, bin_add, bin_sub, bin_mul, bin_eql, bin_neq, bin_lss, bin_leq, bin_gtr, bin_geq, ext0, ext1, ext2, lenS_mk, eqNil_none, eqNil_some, neNil_none, neNil_some, ret_k, mem, Nat.zero_add, Nat.add_zero, Nat.mul_one, drewV, Bool.not_true, Bool.not_false, show decide (k ≠ 2) = false from decide_eq_false (by omega)]
      exact p2 (by omega)
    · simp only [pv_some, nilO_ptr, faO_mk, gd_yes, gd_no, gd_yes', gd_no', cnd_true, cnd_false, pick_true, pick_false, not_bool, bin_add, bin_sub, bin_mul, bin_eql, bin_neq, bin_lss, bin_leq, bin_gtr, bin_geq, ext0, ext1, ext2, lenS_mk, eqNil_none, eqNil_some, neNil_none, neNil_some, ret_k, mem, Nat.zero_add, Nat.add_zero, Nat.mul_one, drewV, Bool.not_true, Bool.not_false, show decide (k ≠ 2) = true from decide_eq_true (by omega)]
      have e : encE k last m f n = 17 := by unfold encE; rw [if_pos ⟨h1, h2⟩]
      have := herr (by rw [e]; decide)
      rw [e] at this; exact this

theorem mem1 {y : World} {a : Addr} {v : Value} (h : y.cell? a = some v) : ∀ x ∈ [y], x.cell? a = some v := by
  intro x hx; simp at hx; subst hx; exact h
theorem mem2 {y z : World} {a : Addr} {v : Value} (h : y.cell? a = some v) (h' : z.cell? a = some v) : ∀ x ∈ [y, z], x.cell? a = some v := by
  intro x hx; simp at hx; rcases hx with rfl | rfl <;> assumption
theorem enc_j1 (hs : RdL w0 F 1 s n (bv xs)) (hn : n ≤ 4096) (H : Hp w0 w (⟨b, 48, frm k last m f s⟩ :: F))
    (hok : ∀ w' s' cs', Hp w0 w' (cs' ++ F) → Sl 5 1 s' (24 + n) (bv (encB k last m f xs)) cs' → R (.returned (.tuple ⟨[s', I 0]⟩)) w') : links_Encode_j1 R (ptr b 0) w := by
  have hlen : xs.length = n := by have := hs.length; rw [bv_length] at this; omega
  unfold links_Encode_j1
  simp only [pv_some, nilO_ptr, faO_mk, gd_yes, gd_no, gd_yes', gd_no', cnd_true, cnd_false, pick_true, pick_false, not_bool, bin_add, bin_sub, bin_mul, bin_eql, bin_neq, bin_lss, bin_leq, bin_gtr, bin_geq, ext0, ext1, ext2, lenS_mk, eqNil_none, eqNil_some, neNil_none, neNil_some, ret_k, mem, Nat.zero_add, Nat.add_zero, Nat.mul_one, drewV, Bool.not_true, Bool.not_false]
  refine make_h elT24 H.drew (n := 24) (c := 24) rfl rfl (by omega) (by omega) (by omega) fun w1 nb H1 => ?_
  refine ldS_h H1 1 rfl rfl (mem1 (H.drew.cell 0 rfl rfl)) ?_
  have hz : (List.replicate 24 [U8 0]).flatten = [U8 0, U8 0, U8 0, U8 0, U8 0, U8 0, U8 0, U8 0, U8 0, U8 0, U8 0, U8 0, U8 0, U8 0, U8 0, U8 0, U8 0, U8 0, U8 0, U8 0, U8 0, U8 0, U8 0, U8 0] := rfl
  rw [hz] at H1
  refine append_h (cs := [⟨nb, 5, _⟩]) elT24 H1 (Sl.full (n := 24) (sz := 1) rfl) (hs.mono (by intro c hc; simp [hc])) bv_scalar (by omega) (by omega) fun w2 s2 cs2 H2 hs2 => ?_
  obtain ⟨b3, cap, rest, rfl, rfl, g1, g2, g3⟩ := hs2.chunk (by omega)
  rw [List.append_assoc] at H2
  refine ld_h H2 1 rfl rfl ?_
  simp only [pv_some, nilO_ptr, faO_mk, gd_yes, gd_no, gd_yes', gd_no', cnd_true, cnd_false, pick_true, pick_false, not_bool, bin_add, bin_sub, bin_mul, bin_eql, bin_neq, bin_lss, bin_leq, bin_gtr, bin_geq, ext0, ext1, ext2, lenS_mk, eqNil_none, eqNil_some, neNil_none, neNil_some, ret_k, mem, Nat.zero_add, Nat.add_zero, Nat.mul_one, drewV, Bool.not_true, Bool.not_false, cvU8]
  have hi0 : ixS 1 (.slice (some ⟨b3, 0, none⟩) (24 + n) cap) (.int .i64 0) = some (ptr b3 0) := by
    have := ixS_mk (sz := 1) (b := b3) (o := 0) (c := cap) (n := 24 + n) (j := 0) (k := .i64) (by omega); simpa using this
  have hi1 : ixS 1 (.slice (some ⟨b3, 0, none⟩) (24 + n) cap) (.int .i64 1) = some (ptr b3 1) := by
    have := ixS_mk (sz := 1) (b := b3) (o := 0) (c := cap) (n := 24 + n) (j := 1) (k := .i64) (by omega); simpa using this
  simp only [hi0, hi1, pv_some, nilO_ptr, faO_mk, gd_yes, gd_no, gd_yes', gd_no', cnd_true, cnd_false, pick_true, pick_false, not_bool, bin_add, bin_sub, bin_mul, bin_eql, bin_neq, bin_lss, bin_leq, bin_gtr, bin_geq, ext0, ext1, ext2, lenS_mk, eqNil_none, eqNil_some, neNil_none, neNil_some, ret_k, mem, Nat.zero_add, Nat.add_zero, Nat.mul_one, drewV, Bool.not_true, Bool.not_false]
  refine st_h H2 0 rfl (by simp) rfl fun w3 H3 => ?_
  refine ld_h H3 1 rfl rfl ?_
  have fin : ∀ w', Hp w0 w' (⟨b3, 5, h24 k last ++ (bv xs ++ rest)⟩ :: ⟨b, 48, frm k last m f s⟩ :: F) → links_Encode_j2 R (ptr b 0) (.slice (some ⟨b3, 0, none⟩) (24 + n) cap) w' := by
    intro w' H'
    refine enc_j2 hs hn g2 H' (by rw [g3]; omega) fun w'' H'' => ?_
    exact hok w'' _ [⟨b3, 5, bv (encB k last m f xs) ++ rest⟩] H'' (.inr ⟨b3, cap, rest, rfl, rfl, by rw [bv_length, encB_length, hlen]; omega, g2, g3⟩)
  cases hl : last with
  | true =>
    rw [hl] at fin
    simp only [pv_some, nilO_ptr, faO_mk, gd_yes, gd_no, gd_yes', gd_no', cnd_true, cnd_false, pick_true, pick_false, not_bool, bin_add, bin_sub, bin_mul, bin_eql, bin_neq, bin_lss, bin_leq, bin_gtr, bin_geq, ext0, ext1, ext2, lenS_mk, eqNil_none, eqNil_some, neNil_none, neNil_some, ret_k, mem, Nat.zero_add, Nat.add_zero, Nat.mul_one, drewV, Bool.not_true, Bool.not_false]
    rw [hl] at H3
    refine st_h H3 0 rfl (by simp) rfl fun w4 H4 => ?_
    exact fin w4 H4
  | false =>
    rw [hl] at fin H3
    simp only [pv_some, nilO_ptr, faO_mk, gd_yes, gd_no, gd_yes', gd_no', cnd_true, cnd_false, pick_true, pick_false, not_bool, bin_add, bin_sub, bin_mul, bin_eql, bin_neq, bin_lss, bin_leq, bin_gtr, bin_geq, ext0, ext1, ext2, lenS_mk, eqNil_none, eqNil_some, neNil_none, neNil_some, ret_k, mem, Nat.zero_add, Nat.add_zero, Nat.mul_one, drewV, Bool.not_true, Bool.not_false]
    exact fin w3 H3
/-- What Encode hands back. -/
def EncPost (w0 : Base) (F : List Chunk) (k : Int) (last : Bool) (m f : Int) (n : Nat) (xs : List Int) : ER := fun e w' => ∃ s' n' ys cs, e = .returned (.tuple ⟨[s', I (encE k last m f n)]⟩) ∧ Hp w0 w' (cs ++ F) ∧ Sl 5 1 s' n' (bv ys) cs ∧
      (encE k last m f n ≠ 0 → n' = 0 ∧ s' = .slice none 0 0 ∧ ys = []) ∧ (encE k last m f n = 0 → n ≤ 4096 ∧ n' = 24 + n ∧ ys = encB k last m f xs)
theorem Encode_spec (hs : RdL w0 F 1 s n (bv xs)) (H : Hp w0 w F) :
    Calls Pg 16 ⟨[.agg ⟨frm k last m f s⟩]⟩ w (EncPost w0 F k last m f n xs) := by
  apply links_Encode_calls
  unfold links_Encode
  refine bxa_h H fun w1 b H1 => ?_
  refine enc_head H1 hs (fun he => ?_) (fun he => ?_)
  · exact ⟨_, 0, [], [], rfl, H1.tail, Sl.nil, fun _ => ⟨rfl, rfl, rfl⟩, fun h => absurd h he⟩
  · have hn : n ≤ 4096 := by
      refine Nat.le_of_not_lt fun h4 => ?_
      have : encE k last m f n ≠ 0 := by
        unfold encE
        split
        · decide
        · split
          · decide
          · split
            · decide
            · first | decide | (rw [if_pos h4]; decide)
      exact this he
    refine enc_j1 hs hn H1 fun w' s' cs' H' hs' => ?_
    exact ⟨s', 24 + n, _, cs', by rw [he], H', hs', fun h => absurd he h, fun _ => ⟨hn, rfl, rfl⟩⟩
end
end Go.Proofs.Ytmnpndgmfmjfhaa.Den
