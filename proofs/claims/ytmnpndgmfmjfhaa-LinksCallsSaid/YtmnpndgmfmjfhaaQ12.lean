/- Links: the reference's link: time, Next, Acknowledged, Broken. Conditions: none. -/
import Derived.Test.YtmnpndgmfmjfhaaQ11
section
set_option linter.unusedVariables false
set_option linter.unusedSimpArgs false
set_option maxRecDepth 8000
namespace Go.Proofs.Ytmnpndgmfmjfhaa.Den
open Go Go.RowKit
section
variable {w w' : World} {w0 : Base} {F L : List Chunk} {R : ER}
theorem rtime_spec {b : Nat} {M : LM} {now : Int} {su sus sp sa : Value} {tb : Nat} (H : Hp w0 w (⟨b, tb, rlc M su sus sp sa⟩ :: F)) :
    Calls Pg 66 ⟨[ptr b 0, I now]⟩ w fun e w' => e = .returned (I (timeE M now)) ∧ w' = w := by
  apply F66_calls
  unfold F66
  simp only [pv_some, nilO_ptr, faO_mk, gd_yes, gd_no, gd_yes', gd_no', cnd_true, cnd_false, pick_true, pick_false, not_bool, bin_add, bin_sub, bin_mul, bin_eql, bin_neq, bin_lss, bin_leq, bin_gtr, bin_geq, ext0, ext1, ext2, lenS_mk, eqNil_none, eqNil_some, neNil_none, neNil_some, ret_k, mem, Nat.zero_add, Nat.add_zero, Nat.mul_one, drewV, Bool.not_true, Bool.not_false]
  have bad : (now < 0 ∨ 1099511627776 < now) → (Ending.returned (Value.int .i64 34) = .returned (I (timeE M now)) ∧ True) := by
    intro h; unfold timeE; rw [if_pos h]; exact ⟨rfl, trivial⟩
  by_cases h1 : now < 0
  · simp only [decide_eq_true h1, pv_some, nilO_ptr, faO_mk, gd_yes, gd_no, gd_yes', gd_no', cnd_true, cnd_false, pick_true, pick_false, not_bool, bin_add, bin_sub, bin_mul, bin_eql, bin_neq, bin_lss, bin_leq, bin_gtr, bin_geq, ext0, ext1, ext2, lenS_mk, eqNil_none, eqNil_some, neNil_none, neNil_some, ret_k, mem, Nat.zero_add, Nat.add_zero, Nat.mul_one, drewV, Bool.not_true, Bool.not_false]; exact bad (.inl h1)
  simp only [decide_eq_false h1, pv_some, nilO_ptr, faO_mk, gd_yes, gd_no, gd_yes', gd_no', cnd_true, cnd_false, pick_true, pick_false, not_bool, bin_add, bin_sub, bin_mul, bin_eql, bin_neq, bin_lss, bin_leq, bin_gtr, bin_geq, ext0, ext1, ext2, lenS_mk, eqNil_none, eqNil_some, neNil_none, neNil_some, ret_k, mem, Nat.zero_add, Nat.add_zero, Nat.mul_one, drewV, Bool.not_true, Bool.not_false]
  by_cases h2 : 1099511627776 < now
  · simp only [decide_eq_true h2, pv_some, nilO_ptr, faO_mk, gd_yes, gd_no, gd_yes', gd_no', cnd_true, cnd_false, pick_true, pick_false, not_bool, bin_add, bin_sub, bin_mul, bin_eql, bin_neq, bin_lss, bin_leq, bin_gtr, bin_geq, ext0, ext1, ext2, lenS_mk, eqNil_none, eqNil_some, neNil_none, neNil_some, ret_k, mem, Nat.zero_add, Nat.add_zero, Nat.mul_one, drewV, Bool.not_true, Bool.not_false]; exact bad (.inr h2)
  simp only [decide_eq_false h2, pv_some, nilO_ptr, faO_mk, gd_yes, gd_no, gd_yes', gd_no', cnd_true, cnd_false, pick_true, pick_false, not_bool, bin_add, bin_sub, bin_mul, bin_eql, bin_neq, bin_lss, bin_leq, bin_gtr, bin_geq, ext0, ext1, ext2, lenS_mk, eqNil_none, eqNil_some, neNil_none, neNil_some, ret_k, mem, Nat.zero_add, Nat.add_zero, Nat.mul_one, drewV, Bool.not_true, Bool.not_false]
  have hn : ¬ (now < 0 ∨ 1099511627776 < now) := by omega
  unfold F66_j1
  simp only [pv_some, nilO_ptr, faO_mk, gd_yes, gd_no, gd_yes', gd_no', cnd_true, cnd_false, pick_true, pick_false, not_bool, bin_add, bin_sub, bin_mul, bin_eql, bin_neq, bin_lss, bin_leq, bin_gtr, bin_geq, ext0, ext1, ext2, lenS_mk, eqNil_none, eqNil_some, neNil_none, neNil_some, ret_k, mem, Nat.zero_add, Nat.add_zero, Nat.mul_one, drewV, Bool.not_true, Bool.not_false]
  refine ld_h H 0 rfl rfl ?_
  refine cnd_decide (fun h3 => ?_) (fun h3 => ?_)
  · unfold timeE; rw [if_neg hn, if_pos h3]; exact ⟨rfl, rfl⟩
  · refine ld_h H 0 rfl rfl ?_
    have e : timeE M now = if M.broken then 4 else 0 := by unfold timeE; rw [if_neg hn, if_neg h3]
    rw [e]
    cases hb : M.broken with
    | true => simp only [pv_some, nilO_ptr, faO_mk, gd_yes, gd_no, gd_yes', gd_no', cnd_true, cnd_false, pick_true, pick_false, not_bool, bin_add, bin_sub, bin_mul, bin_eql, bin_neq, bin_lss, bin_leq, bin_gtr, bin_geq, ext0, ext1, ext2, lenS_mk, eqNil_none, eqNil_some, neNil_none, neNil_some, ret_k, mem, Nat.zero_add, Nat.add_zero, Nat.mul_one, drewV, Bool.not_true, Bool.not_false]; exact ⟨by trivial, trivial⟩
    | false => simp only [pv_some, nilO_ptr, faO_mk, gd_yes, gd_no, gd_yes', gd_no', cnd_true, cnd_false, pick_true, pick_false, not_bool, bin_add, bin_sub, bin_mul, bin_eql, bin_neq, bin_lss, bin_leq, bin_gtr, bin_geq, ext0, ext1, ext2, lenS_mk, eqNil_none, eqNil_some, neNil_none, neNil_some, ret_k, mem, Nat.zero_add, Nat.add_zero, Nat.mul_one, drewV, Bool.not_true, Bool.not_false]; exact ⟨by trivial, trivial⟩
theorem rAck_spec {b : Nat} {M : LM} (H : Hp w0 w (L ++ F)) (hL : rLk w0 b M L) : Calls Pg 57 ⟨[ptr b 0]⟩ w fun e w' => e = .returned (I M.done) ∧ Hp w0 w' (L ++ F) := by
  obtain ⟨su, sus, sp, sa, cu, cus, cp, ca, D, sv, hlk, rfl⟩ := hL
  apply F57_calls
  unfold F57
  simp only [pv_some, nilO_ptr, faO_mk, gd_yes, gd_no, gd_yes', gd_no', cnd_true, cnd_false, pick_true, pick_false, not_bool, bin_add, bin_sub, bin_mul, bin_eql, bin_neq, bin_lss, bin_leq, bin_gtr, bin_geq, ext0, ext1, ext2, lenS_mk, eqNil_none, eqNil_some, neNil_none, neNil_some, ret_k, mem, Nat.zero_add, Nat.add_zero, Nat.mul_one, drewV, Bool.not_true, Bool.not_false]
  refine ld_h H 0 rfl rfl ?_
  exact ⟨rfl, H⟩
theorem rBroken_spec {b : Nat} {M : LM} (H : Hp w0 w (L ++ F)) (hL : rLk w0 b M L) : Calls Pg 58 ⟨[ptr b 0]⟩ w fun e w' => e = .returned (.bool M.broken) ∧ Hp w0 w' (L ++ F) := by
  obtain ⟨su, sus, sp, sa, cu, cus, cp, ca, D, sv, hlk, rfl⟩ := hL
  apply F58_calls
  unfold F58
  simp only [pv_some, nilO_ptr, faO_mk, gd_yes, gd_no, gd_yes', gd_no', cnd_true, cnd_false, pick_true, pick_false, not_bool, bin_add, bin_sub, bin_mul, bin_eql, bin_neq, bin_lss, bin_leq, bin_gtr, bin_geq, ext0, ext1, ext2, lenS_mk, eqNil_none, eqNil_some, neNil_none, neNil_some, ret_k, mem, Nat.zero_add, Nat.add_zero, Nat.mul_one, drewV, Bool.not_true, Bool.not_false]
  refine ld_h H 0 rfl rfl ?_
  exact ⟨rfl, H⟩
theorem rnext_l {b bu cap : Nat} {M : LM} {su sp sa : Value} {sv rest : List Value} (hsv : sv.length = M.us.length) (hul : M.us.length < 2 ^ 40)
    (h1 : ∀ w', Hp w0 w' (⟨b, 125, rlc M su (.slice (some ⟨bu, 0, none⟩) M.us.length cap) sp sa⟩ :: ⟨bu, 141, ucells M.us sv ++ rest⟩ :: F) → 0 ≤ pend M → R (.returned (.tuple ⟨[I M.clock, .bool true]⟩)) w')
    (h2 : ∀ w', Hp w0 w' (⟨b, 125, rlc M su (.slice (some ⟨bu, 0, none⟩) M.us.length cap) sp sa⟩ :: ⟨bu, 141, ucells M.us sv ++ rest⟩ :: F) → pend M = -1 → F56_j3 R (ptr b 0) w') :
    ∀ (d i : Nat) (w : World), i + d = min 8 M.us.length → fIdx (fun u => decide (u.at_ < 0)) i ((M.us.take 8).drop i) = pend M → Hp w0 w (⟨b, 125, rlc M su (.slice (some ⟨bu, 0, none⟩) M.us.length cap) sp sa⟩ :: ⟨bu, 141, ucells M.us sv ++ rest⟩ :: F) →
      F56_l1 R (d + 1) (ptr b 0) (I (i : Int)) w := by
  intro d
  induction d with
  | zero =>
    intro i w hi hf H
    rw [F56_l1_succ]
    unfold F56_b1
    simp only [pv_some, nilO_ptr, faO_mk, gd_yes, gd_no, gd_yes', gd_no', cnd_true, cnd_false, pick_true, pick_false, not_bool, bin_add, bin_sub, bin_mul, bin_eql, bin_neq, bin_lss, bin_leq, bin_gtr, bin_geq, ext0, ext1, ext2, lenS_mk, eqNil_none, eqNil_some, neNil_none, neNil_some, ret_k, mem, Nat.zero_add, Nat.add_zero, Nat.mul_one, drewV, Bool.not_true, Bool.not_false]
    refine ld_h H 0 rfl rfl ?_
    have hp : pend M = -1 := by rw [← hf, List.drop_eq_nil_of_le (by rw [List.length_take]; omega)]; rfl
    simp only [pv_some, nilO_ptr, faO_mk, gd_yes, gd_no, gd_yes', gd_no', cnd_true, cnd_false, pick_true, pick_false, not_bool, bin_add, bin_sub, bin_mul, bin_eql, bin_neq, bin_lss, bin_leq, bin_gtr, bin_geq, ext0, ext1, ext2, lenS_mk, eqNil_none, eqNil_some, neNil_none, neNil_some, ret_k, mem, Nat.zero_add, Nat.add_zero, Nat.mul_one, drewV, Bool.not_true, Bool.not_false]
    by_cases hlt : (i : Int) < (M.us.length : Int)
    · simp only [decide_eq_true hlt, decide_eq_false (show ¬ ((i : Int) < 8) from by omega), pv_some, nilO_ptr, faO_mk, gd_yes, gd_no, gd_yes', gd_no', cnd_true, cnd_false, pick_true, pick_false, not_bool, bin_add, bin_sub, bin_mul, bin_eql, bin_neq, bin_lss, bin_leq, bin_gtr, bin_geq, ext0, ext1, ext2, lenS_mk, eqNil_none, eqNil_some, neNil_none, neNil_some, ret_k, mem, Nat.zero_add, Nat.add_zero, Nat.mul_one, drewV, Bool.not_true, Bool.not_false]
      exact h2 w H hp
    · simp only [decide_eq_false hlt, pv_some, nilO_ptr, faO_mk, gd_yes, gd_no, gd_yes', gd_no', cnd_true, cnd_false, pick_true, pick_false, not_bool, bin_add, bin_sub, bin_mul, bin_eql, bin_neq, bin_lss, bin_leq, bin_gtr, bin_geq, ext0, ext1, ext2, lenS_mk, eqNil_none, eqNil_some, neNil_none, neNil_some, ret_k, mem, Nat.zero_add, Nat.add_zero, Nat.mul_one, drewV, Bool.not_true, Bool.not_false]
      exact h2 w H hp
  | succ d ih =>
    intro i w hi hf H
    rw [F56_l1_succ]
    unfold F56_b1
    simp only [pv_some, nilO_ptr, faO_mk, gd_yes, gd_no, gd_yes', gd_no', cnd_true, cnd_false, pick_true, pick_false, not_bool, bin_add, bin_sub, bin_mul, bin_eql, bin_neq, bin_lss, bin_leq, bin_gtr, bin_geq, ext0, ext1, ext2, lenS_mk, eqNil_none, eqNil_some, neNil_none, neNil_some, ret_k, mem, Nat.zero_add, Nat.add_zero, Nat.mul_one, drewV, Bool.not_true, Bool.not_false]
    refine ld_h H 0 rfl rfl ?_
    simp only [pv_some, nilO_ptr, faO_mk, gd_yes, gd_no, gd_yes', gd_no', cnd_true, cnd_false, pick_true, pick_false, not_bool, bin_add, bin_sub, bin_mul, bin_eql, bin_neq, bin_lss, bin_leq, bin_gtr, bin_geq, ext0, ext1, ext2, lenS_mk, eqNil_none, eqNil_some, neNil_none, neNil_some, ret_k, mem, Nat.zero_add, Nat.add_zero, Nat.mul_one, drewV, Bool.not_true, Bool.not_false]
    simp only [decide_eq_true (show (i : Int) < (M.us.length : Int) from by omega), decide_eq_true (show (i : Int) < 8 from by omega), pv_some, nilO_ptr, faO_mk, gd_yes, gd_no, gd_yes', gd_no', cnd_true, cnd_false, pick_true, pick_false, not_bool, bin_add, bin_sub, bin_mul, bin_eql, bin_neq, bin_lss, bin_leq, bin_gtr, bin_geq, ext0, ext1, ext2, lenS_mk, eqNil_none, eqNil_some, neNil_none, neNil_some, ret_k, mem, Nat.zero_add, Nat.add_zero, Nat.mul_one, drewV, Bool.not_true, Bool.not_false]
    unfold F56_j6
    simp only [pv_some, nilO_ptr, faO_mk, gd_yes, gd_no, gd_yes', gd_no', cnd_true, cnd_false, pick_true, pick_false, not_bool, bin_add, bin_sub, bin_mul, bin_eql, bin_neq, bin_lss, bin_leq, bin_gtr, bin_geq, ext0, ext1, ext2, lenS_mk, eqNil_none, eqNil_some, neNil_none, neNil_some, ret_k, mem, Nat.zero_add, Nat.add_zero, Nat.mul_one, drewV, Bool.not_true, Bool.not_false]
    refine ld_h H 0 rfl rfl ?_
    have hlt : i < M.us.length := by omega
    obtain ⟨u, hu⟩ : ∃ u, M.us[i]? = some u := ⟨_, List.getElem?_eq_getElem hlt⟩
    obtain ⟨s, hs⟩ : ∃ s, sv[i]? = some s := ⟨_, List.getElem?_eq_getElem (by omega)⟩
    rw [ixS_mk hlt]
    simp only [pv_some, nilO_ptr, faO_mk, gd_yes, gd_no, gd_yes', gd_no', cnd_true, cnd_false, pick_true, pick_false, not_bool, bin_add, bin_sub, bin_mul, bin_eql, bin_neq, bin_lss, bin_leq, bin_gtr, bin_geq, ext0, ext1, ext2, lenS_mk, eqNil_none, eqNil_some, neNil_none, neNil_some, ret_k, mem, Nat.zero_add, Nat.add_zero, Nat.mul_one, drewV, Bool.not_true, Bool.not_false]
    refine ld_h H 1 rfl (get_left (by have := ucells_get hu hs (j := 5) (by omega); simpa [ucell] using this)) ?_
    simp only [pv_some, nilO_ptr, faO_mk, gd_yes, gd_no, gd_yes', gd_no', cnd_true, cnd_false, pick_true, pick_false, not_bool, bin_add, bin_sub, bin_mul, bin_eql, bin_neq, bin_lss, bin_leq, bin_gtr, bin_geq, ext0, ext1, ext2, lenS_mk, eqNil_none, eqNil_some, neNil_none, neNil_some, ret_k, mem, Nat.zero_add, Nat.add_zero, Nat.mul_one, drewV, Bool.not_true, Bool.not_false]
    have hdrop : (M.us.take 8).drop i = u :: (M.us.take 8).drop (i + 1) := by
      have hg : (M.us.take 8)[i]? = some u := by rw [List.getElem?_take, if_pos (by omega)]; exact hu
      obtain ⟨g1, g2⟩ := List.getElem?_eq_some_iff.1 hg
      rw [List.drop_eq_getElem_cons g1, g2]
    rw [hdrop, fIdx] at hf
    refine cnd_decide (fun hat => ?_) (fun hat => ?_)
    · refine ld_h H 0 rfl rfl ?_
      exact h1 w H (by rw [← hf, if_pos (by simpa using hat)]; omega)
    · rw [if_neg (by simpa using hat)] at hf
      rw [wrap64_id (by omega) (by omega), show (i : Int) + 1 = ((i + 1 : Nat) : Int) from by omega]
      exact ih (i + 1) w (by omega) hf H
theorem max2I_int (a b : Int) : max2I (I a) (I b) = some (I (max a b)) := by
  simp only [max2I]; congr 2; split <;> omega
theorem rNext_spec {b : Nat} {M : LM} (H : Hp w0 w (L ++ F)) (hL : rLk w0 b M L) (hus : M.us.length < 2 ^ 40) (hat : ∀ u ∈ M.us, -1 ≤ u.at_ ∧ u.at_ ≤ 2 ^ 41) (ht : 0 ≤ M.timeout ∧ M.timeout ≤ 2 ^ 41) :
    Calls Pg 56 ⟨[ptr b 0]⟩ w fun e w' => e = .returned (.tuple ⟨[I (nextV M).1, .bool (nextV M).2]⟩) ∧ Hp w0 w' (L ++ F) := by
  obtain ⟨su, sus, sp, sa, cu, cus, cp, ca, D, sv, hlk, rfl⟩ := hL
  have H0 : Hp w0 w (⟨b, 125, rlc M su sus sp sa⟩ :: (cus ++ (cu ++ (cp ++ (ca ++ (D ++ F)))))) := H.to (by intro f; simp only [I, U8, U64, ptr, List.set_cons_zero, List.set_cons_succ, List.eraseIdx_cons_zero, List.eraseIdx_cons_succ, List.map_append, List.map_cons, List.map_nil, List.sum_append, List.sum_cons, List.sum_nil]; omega)
  have back : ∀ {w' : World}, Hp w0 w' (⟨b, 125, rlc M su sus sp sa⟩ :: (cus ++ (cu ++ (cp ++ (ca ++ (D ++ F)))))) → Hp w0 w' ((⟨b, 125, rlc M su sus sp sa⟩ :: (cu ++ (cus ++ (cp ++ (ca ++ D))))) ++ F) := fun H => H.to (by intro f; simp only [I, U8, U64, ptr, List.set_cons_zero, List.set_cons_succ, List.eraseIdx_cons_zero, List.eraseIdx_cons_succ, List.map_append, List.map_cons, List.map_nil, List.sum_append, List.sum_cons, List.sum_nil]; omega)
  apply F56_calls
  unfold F56
  simp only [pv_some, nilO_ptr, faO_mk, gd_yes, gd_no, gd_yes', gd_no', cnd_true, cnd_false, pick_true, pick_false, not_bool, bin_add, bin_sub, bin_mul, bin_eql, bin_neq, bin_lss, bin_leq, bin_gtr, bin_geq, ext0, ext1, ext2, lenS_mk, eqNil_none, eqNil_some, neNil_none, neNil_some, ret_k, mem, Nat.zero_add, Nat.add_zero, Nat.mul_one, drewV, Bool.not_true, Bool.not_false]
  refine ld_h H0 0 rfl rfl ?_
  cases hb : M.broken with
  | true =>
    simp only [pv_some, nilO_ptr, faO_mk, gd_yes, gd_no, gd_yes', gd_no', cnd_true, cnd_false, pick_true, pick_false, not_bool, bin_add, bin_sub, bin_mul, bin_eql, bin_neq, bin_lss, bin_leq, bin_gtr, bin_geq, ext0, ext1, ext2, lenS_mk, eqNil_none, eqNil_some, neNil_none, neNil_some, ret_k, mem, Nat.zero_add, Nat.add_zero, Nat.mul_one, drewV, Bool.not_true, Bool.not_false]
    exact ⟨by unfold nextV; rw [if_pos hb], back H0⟩
  | false =>
    simp only [pv_some, nilO_ptr, faO_mk, gd_yes, gd_no, gd_yes', gd_no', cnd_true, cnd_false, pick_true, pick_false, not_bool, bin_add, bin_sub, bin_mul, bin_eql, bin_neq, bin_lss, bin_leq, bin_gtr, bin_geq, ext0, ext1, ext2, lenS_mk, eqNil_none, eqNil_some, neNil_none, neNil_some, ret_k, mem, Nat.zero_add, Nat.add_zero, Nat.mul_one, drewV, Bool.not_true, Bool.not_false]
    unfold F56_j1
    simp only [pv_some, nilO_ptr, faO_mk, gd_yes, gd_no, gd_yes', gd_no', cnd_true, cnd_false, pick_true, pick_false, not_bool, bin_add, bin_sub, bin_mul, bin_eql, bin_neq, bin_lss, bin_leq, bin_gtr, bin_geq, ext0, ext1, ext2, lenS_mk, eqNil_none, eqNil_some, neNil_none, neNil_some, ret_k, mem, Nat.zero_add, Nat.add_zero, Nat.mul_one, drewV, Bool.not_true, Bool.not_false]
    refine ld_h H0 0 rfl rfl ?_
    simp only [lenS_sl hlk.acks, pv_some, nilO_ptr, faO_mk, gd_yes, gd_no, gd_yes', gd_no', cnd_true, cnd_false, pick_true, pick_false, not_bool, bin_add, bin_sub, bin_mul, bin_eql, bin_neq, bin_lss, bin_leq, bin_gtr, bin_geq, ext0, ext1, ext2, lenS_mk, eqNil_none, eqNil_some, neNil_none, neNil_some, ret_k, mem, Nat.zero_add, Nat.add_zero, Nat.mul_one, drewV, Bool.not_true, Bool.not_false]
    refine cnd_decide (fun ha => ?_) (fun ha => ?_)
    · refine ld_h H0 0 rfl rfl ?_
      have hne : M.acks ≠ [] := by intro h; rw [h] at ha; simp at ha
      exact ⟨by unfold nextV; rw [hb, if_neg (by decide), if_pos (.inl hne)], back H0⟩
    have hnil : M.acks = [] := List.length_eq_zero_iff.1 (by omega)
    unfold F56_j2 F56_j4 F56_j5
    rcases hlk.us with ⟨rfl, ⟨a, rfl⟩, h0, h00⟩ | ⟨bu, cap, rest, rfl, rfl, h1, h2, h3⟩
    · have hus0 : M.us = [] := List.length_eq_zero_iff.1 h0
      refine ⟨0 + 1, ?_⟩
      show F56_l1 _ (0 + 1) _ _ w
      rw [F56_l1_succ]
      unfold F56_b1
      simp only [pv_some, nilO_ptr, faO_mk, gd_yes, gd_no, gd_yes', gd_no', cnd_true, cnd_false, pick_true, pick_false, not_bool, bin_add, bin_sub, bin_mul, bin_eql, bin_neq, bin_lss, bin_leq, bin_gtr, bin_geq, ext0, ext1, ext2, lenS_mk, eqNil_none, eqNil_some, neNil_none, neNil_some, ret_k, mem, Nat.zero_add, Nat.add_zero, Nat.mul_one, drewV, Bool.not_true, Bool.not_false]
      refine ld_h H0 0 rfl rfl ?_
      have e00 : lenS (.slice a 0 0) = some (.int .i64 0) := rfl
      simp only [e00, show decide ((0 : Int) < 0) = false from rfl, pv_some, nilO_ptr, faO_mk, gd_yes, gd_no, gd_yes', gd_no', cnd_true, cnd_false, pick_true, pick_false, not_bool, bin_add, bin_sub, bin_mul, bin_eql, bin_neq, bin_lss, bin_leq, bin_gtr, bin_geq, ext0, ext1, ext2, lenS_mk, eqNil_none, eqNil_some, neNil_none, neNil_some, ret_k, mem, Nat.zero_add, Nat.add_zero, Nat.mul_one, drewV, Bool.not_true, Bool.not_false]
      unfold F56_j3
      simp only [pv_some, nilO_ptr, faO_mk, gd_yes, gd_no, gd_yes', gd_no', cnd_true, cnd_false, pick_true, pick_false, not_bool, bin_add, bin_sub, bin_mul, bin_eql, bin_neq, bin_lss, bin_leq, bin_gtr, bin_geq, ext0, ext1, ext2, lenS_mk, eqNil_none, eqNil_some, neNil_none, neNil_some, ret_k, mem, Nat.zero_add, Nat.add_zero, Nat.mul_one, drewV, Bool.not_true, Bool.not_false]
      refine ld_h H0 0 rfl rfl ?_
      simp only [e00, show decide ((0 : Int) < 0) = false from rfl, pv_some, nilO_ptr, faO_mk, gd_yes, gd_no, gd_yes', gd_no', cnd_true, cnd_false, pick_true, pick_false, not_bool, bin_add, bin_sub, bin_mul, bin_eql, bin_neq, bin_lss, bin_leq, bin_gtr, bin_geq, ext0, ext1, ext2, lenS_mk, eqNil_none, eqNil_some, neNil_none, neNil_some, ret_k, mem, Nat.zero_add, Nat.add_zero, Nat.mul_one, drewV, Bool.not_true, Bool.not_false]
      have hp : pend M = -1 := by unfold pend; rw [hus0]; rfl
      exact ⟨by unfold nextV; rw [hb, if_neg (by decide), hnil, hp, hus0]; rfl, back H0⟩
    · refine ⟨min 8 M.us.length + 1, ?_⟩
      have hfin : ∀ {w' : World}, Hp w0 w' (⟨b, 125, rlc M su (.slice (some ⟨bu, 0, none⟩) M.us.length cap) sp sa⟩ :: ⟨bu, 141, ucells M.us sv ++ rest⟩ :: (cu ++ (cp ++ (ca ++ (D ++ F))))) → Hp w0 w' ((⟨b, 125, rlc M su (.slice (some ⟨bu, 0, none⟩) M.us.length cap) sp sa⟩ :: (cu ++ ([⟨bu, 141, ucells M.us sv ++ rest⟩] ++ (cp ++ (ca ++ D))))) ++ F) := fun H => H.to (by intro f; simp only [I, U8, U64, ptr, List.set_cons_zero, List.set_cons_succ, List.eraseIdx_cons_zero, List.eraseIdx_cons_succ, List.map_append, List.map_cons, List.map_nil, List.sum_append, List.sum_cons, List.sum_nil]; omega)
      refine rnext_l (F := cu ++ (cp ++ (ca ++ (D ++ F)))) hlk.svl hus (fun w' H' hp => ?_) (fun w' H' hp => ?_) (min 8 M.us.length) 0 w (by omega) rfl H0
      · exact ⟨by unfold nextV; rw [hb, if_neg (by decide), if_pos (.inr hp)], hfin H'⟩
      · unfold F56_j3
        simp only [pv_some, nilO_ptr, faO_mk, gd_yes, gd_no, gd_yes', gd_no', cnd_true, cnd_false, pick_true, pick_false, not_bool, bin_add, bin_sub, bin_mul, bin_eql, bin_neq, bin_lss, bin_leq, bin_gtr, bin_geq, ext0, ext1, ext2, lenS_mk, eqNil_none, eqNil_some, neNil_none, neNil_some, ret_k, mem, Nat.zero_add, Nat.add_zero, Nat.mul_one, drewV, Bool.not_true, Bool.not_false]
        refine ld_h H' 0 rfl rfl ?_
        simp only [pv_some, nilO_ptr, faO_mk, gd_yes, gd_no, gd_yes', gd_no', cnd_true, cnd_false, pick_true, pick_false, not_bool, bin_add, bin_sub, bin_mul, bin_eql, bin_neq, bin_lss, bin_leq, bin_gtr, bin_geq, ext0, ext1, ext2, lenS_mk, eqNil_none, eqNil_some, neNil_none, neNil_some, ret_k, mem, Nat.zero_add, Nat.add_zero, Nat.mul_one, drewV, Bool.not_true, Bool.not_false]
        refine cnd_decide (fun hl => ?_) (fun hl => ?_)
        · obtain ⟨u, r, hu⟩ : ∃ u r, M.us = u :: r := by
            cases hu : M.us with
            | nil => rw [hu] at hl; simp at hl
            | cons u r => exact ⟨u, r, rfl⟩
          have hg : M.us[0]? = some u := by rw [hu]; rfl
          obtain ⟨s, hs⟩ : ∃ s, sv[0]? = some s := ⟨_, List.getElem?_eq_getElem (by rw [hlk.svl]; omega)⟩
          refine ld_h H'.drew 0 rfl rfl ?_
          refine ld_h H'.drew 0 rfl rfl ?_
          have ei : ixS 6 (.slice (some ⟨bu, 0, none⟩) M.us.length cap) (.int .i64 0) = some (ptr bu 0) := by have := ixS_mk (sz := 6) (b := bu) (o := 0) (c := cap) (n := M.us.length) (j := 0) (k := .i64) (by omega); simpa using this
          simp only [ei, pv_some, nilO_ptr, faO_mk, gd_yes, gd_no, gd_yes', gd_no', cnd_true, cnd_false, pick_true, pick_false, not_bool, bin_add, bin_sub, bin_mul, bin_eql, bin_neq, bin_lss, bin_leq, bin_gtr, bin_geq, ext0, ext1, ext2, lenS_mk, eqNil_none, eqNil_some, neNil_none, neNil_some, ret_k, mem, Nat.zero_add, Nat.add_zero, Nat.mul_one, drewV, Bool.not_true, Bool.not_false]
          refine ld_h H'.drew 1 rfl (get_left (by have := ucells_get hg hs (j := 5) (by omega); simpa [ucell] using this)) ?_
          refine ld_h H'.drew 0 rfl rfl ?_
          have hub := hat u (by rw [hu]; simp)
          simp only [pv_some, nilO_ptr, faO_mk, gd_yes, gd_no, gd_yes', gd_no', cnd_true, cnd_false, pick_true, pick_false, not_bool, bin_add, bin_sub, bin_mul, bin_eql, bin_neq, bin_lss, bin_leq, bin_gtr, bin_geq, ext0, ext1, ext2, lenS_mk, eqNil_none, eqNil_some, neNil_none, neNil_some, ret_k, mem, Nat.zero_add, Nat.add_zero, Nat.mul_one, drewV, Bool.not_true, Bool.not_false]
          rw [wrap64_id (by omega) (by omega)]
          have em : max2I (.int .i64 M.clock) (.int .i64 (u.at_ + M.timeout)) = some (I (max M.clock (u.at_ + M.timeout))) := max2I_int _ _
          simp only [em, pv_some, nilO_ptr, faO_mk, gd_yes, gd_no, gd_yes', gd_no', cnd_true, cnd_false, pick_true, pick_false, not_bool, bin_add, bin_sub, bin_mul, bin_eql, bin_neq, bin_lss, bin_leq, bin_gtr, bin_geq, ext0, ext1, ext2, lenS_mk, eqNil_none, eqNil_some, neNil_none, neNil_some, ret_k, mem, Nat.zero_add, Nat.add_zero, Nat.mul_one, drewV, Bool.not_true, Bool.not_false]
          refine ⟨?_, hfin H'.drew⟩
          unfold nextV; rw [hb, if_neg (by decide), hnil, hp, hu]; simp
        · have hus0 : M.us = [] := List.length_eq_zero_iff.1 (by omega)
          refine ⟨?_, hfin H'⟩
          unfold nextV; rw [hb, if_neg (by decide), hnil, hp, hus0]; simp
/-! ### Set -/
def setE (M : LM) (x : Int) : Int := if x < 0 ∨ (M.up.length : Int) ≤ x then 3 else 0
def setM (M : LM) (x : Int) (f : Bool) : LM := if setE M x ≠ 0 then M else { M with up := M.up.set x.toNat f }
def SetPost (w0 : Base) (F : List Chunk) (Lkx : Base → Nat → LM → List Chunk → Prop) (b : Nat) (M : LM) (x : Int) (f : Bool) : ER := fun e w' => ∃ L', e = .returned (I (setE M x)) ∧ Hp w0 w' (L' ++ F) ∧ Lkx w0 b (setM M x f) L'
theorem set_up {up : List Bool} {rest : List Value} {i : Nat} {f : Bool} (hi : i < up.length) : (up.map Value.bool ++ rest).set i (.bool f) = (up.set i f).map Value.bool ++ rest := by
  rw [List.set_append_left _ _ (by simpa using hi), List.map_set]
theorem rSet_spec {b : Nat} {M : LM} {x : Int} {f : Bool} (H : Hp w0 w (L ++ F)) (hL : rLk w0 b M L) : Calls Pg 49 ⟨[ptr b 0, I x, .bool f]⟩ w (SetPost w0 F rLk b M x f) := by
  have hL0 := hL
  obtain ⟨su, sus, sp, sa, cu, cus, cp, ca, D, sv, hlk, rfl⟩ := hL
  have bad : (x < 0 ∨ (M.up.length : Int) ≤ x) → ∀ {w' : World}, Hp w0 w' ((⟨b, 125, rlc M su sus sp sa⟩ :: (cu ++ (cus ++ (cp ++ (ca ++ D))))) ++ F) → SetPost w0 F rLk b M x f (.returned (.int .i64 3)) w' := by
    intro h w' H'
    have e : setE M x = 3 := by unfold setE; rw [if_pos h]
    exact ⟨_, by rw [e], H', by unfold setM; rw [if_pos (by rw [e]; decide)]; exact hL0⟩
  apply F49_calls
  unfold F49
  simp only [pv_some, nilO_ptr, faO_mk, gd_yes, gd_no, gd_yes', gd_no', cnd_true, cnd_false, pick_true, pick_false, not_bool, bin_add, bin_sub, bin_mul, bin_eql, bin_neq, bin_lss, bin_leq, bin_gtr, bin_geq, ext0, ext1, ext2, lenS_mk, eqNil_none, eqNil_some, neNil_none, neNil_some, ret_k, mem, Nat.zero_add, Nat.add_zero, Nat.mul_one, drewV, Bool.not_true, Bool.not_false]
  by_cases h1 : x < 0
  · simp only [decide_eq_true h1, pv_some, nilO_ptr, faO_mk, gd_yes, gd_no, gd_yes', gd_no', cnd_true, cnd_false, pick_true, pick_false, not_bool, bin_add, bin_sub, bin_mul, bin_eql, bin_neq, bin_lss, bin_leq, bin_gtr, bin_geq, ext0, ext1, ext2, lenS_mk, eqNil_none, eqNil_some, neNil_none, neNil_some, ret_k, mem, Nat.zero_add, Nat.add_zero, Nat.mul_one, drewV, Bool.not_true, Bool.not_false]; exact bad (.inl h1) H
  simp only [decide_eq_false h1, pv_some, nilO_ptr, faO_mk, gd_yes, gd_no, gd_yes', gd_no', cnd_true, cnd_false, pick_true, pick_false, not_bool, bin_add, bin_sub, bin_mul, bin_eql, bin_neq, bin_lss, bin_leq, bin_gtr, bin_geq, ext0, ext1, ext2, lenS_mk, eqNil_none, eqNil_some, neNil_none, neNil_some, ret_k, mem, Nat.zero_add, Nat.add_zero, Nat.mul_one, drewV, Bool.not_true, Bool.not_false]
  refine ld_h H 0 rfl rfl ?_
  simp only [lenS_sl hlk.up, pv_some, nilO_ptr, faO_mk, gd_yes, gd_no, gd_yes', gd_no', cnd_true, cnd_false, pick_true, pick_false, not_bool, bin_add, bin_sub, bin_mul, bin_eql, bin_neq, bin_lss, bin_leq, bin_gtr, bin_geq, ext0, ext1, ext2, lenS_mk, eqNil_none, eqNil_some, neNil_none, neNil_some, ret_k, mem, Nat.zero_add, Nat.add_zero, Nat.mul_one, drewV, Bool.not_true, Bool.not_false]
  refine cnd_decide (fun h2 => bad (.inr h2) H) (fun h2 => ?_)
  refine ld_h H 0 rfl rfl ?_
  obtain ⟨i, rfl⟩ : ∃ i : Nat, x = (i : Int) := ⟨x.toNat, by omega⟩
  have hi : i < M.up.length := by omega
  have e0 : setE M (i : Int) = 0 := by unfold setE; rw [if_neg (by omega)]
  obtain ⟨bu, cap, rest, rfl, rfl, c1, c2, c3⟩ := hlk.up.chunk (by omega)
  rw [ixS_mk hi]
  simp only [pv_some, nilO_ptr, faO_mk, gd_yes, gd_no, gd_yes', gd_no', cnd_true, cnd_false, pick_true, pick_false, not_bool, bin_add, bin_sub, bin_mul, bin_eql, bin_neq, bin_lss, bin_leq, bin_gtr, bin_geq, ext0, ext1, ext2, lenS_mk, eqNil_none, eqNil_some, neNil_none, neNil_some, ret_k, mem, Nat.zero_add, Nat.add_zero, Nat.mul_one, drewV, Bool.not_true, Bool.not_false]
  have H' : Hp w0 w (⟨bu, 4, M.up.map Value.bool ++ rest⟩ :: (⟨b, 125, rlc M (.slice (some ⟨bu, 0, none⟩) M.up.length cap) sus sp sa⟩ :: (cus ++ (cp ++ (ca ++ (D ++ F)))))) := H.to (by intro f; simp only [I, U8, U64, ptr, List.set_cons_zero, List.set_cons_succ, List.eraseIdx_cons_zero, List.eraseIdx_cons_succ, List.map_append, List.map_cons, List.map_nil, List.sum_append, List.sum_cons, List.sum_nil]; omega)
  refine st_h H' 0 rfl (by simp; omega) rfl fun w1 H1 => ?_
  rw [set_up hi] at H1
  have eM : setM M (i : Int) f = { M with up := M.up.set i f } := by unfold setM; rw [if_neg (by rw [e0]; decide)]; rfl
  have H1' : Hp w0 w1 (⟨bu, 4, (M.up.set i f).map Value.bool ++ rest⟩ :: (⟨b, 125, rlc { M with up := M.up.set i f } (.slice (some ⟨bu, 0, none⟩) M.up.length cap) sus sp sa⟩ :: (cus ++ (cp ++ (ca ++ (D ++ F)))))) := H1
  refine ⟨⟨b, 125, rlc { M with up := M.up.set i f } (.slice (some ⟨bu, 0, none⟩) M.up.length cap) sus sp sa⟩ :: ([⟨bu, 4, (M.up.set i f).map Value.bool ++ rest⟩] ++ (cus ++ (cp ++ (ca ++ D)))), by rw [e0], H1'.to (by intro f; simp only [I, U8, U64, ptr, List.set_cons_zero, List.set_cons_succ, List.eraseIdx_cons_zero, List.eraseIdx_cons_succ, List.map_append, List.map_cons, List.map_nil, List.sum_append, List.sum_cons, List.sum_nil]; omega), ?_⟩
  rw [eM]
  exact ⟨_, sus, sp, sa, _, cus, cp, ca, D, sv, ⟨.inr ⟨bu, cap, rest, rfl, by simp, by simp, by simpa using c2, by simpa using c3⟩, hlk.us, hlk.svl, hlk.dat, hlk.part, hlk.acks⟩, rfl⟩
theorem Set_spec {b : Nat} {M : LM} {x : Int} {f : Bool} (H : Hp w0 w (L ++ F)) (hL : Lk w0 b M L) : Calls Pg 24 ⟨[ptr b 0, I x, .bool f]⟩ w (SetPost w0 F Lk b M x f) := by
  have hL0 := hL
  obtain ⟨su, sus, sp, sa, cu, cus, cp, ca, D, sv, hlk, rfl⟩ := hL
  have bad : (x < 0 ∨ (M.up.length : Int) ≤ x) → ∀ {w' : World}, Hp w0 w' ((⟨b, 96, lkc M su sus sp sa⟩ :: (cu ++ (cus ++ (cp ++ (ca ++ D))))) ++ F) → SetPost w0 F Lk b M x f (.returned (.int .i64 3)) w' := by
    intro h w' H'
    have e : setE M x = 3 := by unfold setE; rw [if_pos h]
    exact ⟨_, by rw [e], H', by unfold setM; rw [if_pos (by rw [e]; decide)]; exact hL0⟩
  apply F24_calls
  have enp : eqNilP (ptr b 0) = some (.bool false) := rfl
  unfold F24
  simp only [enp, pv_some, nilO_ptr, faO_mk, gd_yes, gd_no, gd_yes', gd_no', cnd_true, cnd_false, pick_true, pick_false, not_bool, bin_add, bin_sub, bin_mul, bin_eql, bin_neq, bin_lss, bin_leq, bin_gtr, bin_geq, ext0, ext1, ext2, lenS_mk, eqNil_none, eqNil_some, neNil_none, neNil_some, ret_k, mem, Nat.zero_add, Nat.add_zero, Nat.mul_one, drewV, Bool.not_true, Bool.not_false]
  unfold F24_j1
  simp only [pv_some, nilO_ptr, faO_mk, gd_yes, gd_no, gd_yes', gd_no', cnd_true, cnd_false, pick_true, pick_false, not_bool, bin_add, bin_sub, bin_mul, bin_eql, bin_neq, bin_lss, bin_leq, bin_gtr, bin_geq, ext0, ext1, ext2, lenS_mk, eqNil_none, eqNil_some, neNil_none, neNil_some, ret_k, mem, Nat.zero_add, Nat.add_zero, Nat.mul_one, drewV, Bool.not_true, Bool.not_false]
  by_cases h1 : x < 0
  · simp only [decide_eq_true h1, pv_some, nilO_ptr, faO_mk, gd_yes, gd_no, gd_yes', gd_no', cnd_true, cnd_false, pick_true, pick_false, not_bool, bin_add, bin_sub, bin_mul, bin_eql, bin_neq, bin_lss, bin_leq, bin_gtr, bin_geq, ext0, ext1, ext2, lenS_mk, eqNil_none, eqNil_some, neNil_none, neNil_some, ret_k, mem, Nat.zero_add, Nat.add_zero, Nat.mul_one, drewV, Bool.not_true, Bool.not_false]; exact bad (.inl h1) H
  simp only [decide_eq_false h1, pv_some, nilO_ptr, faO_mk, gd_yes, gd_no, gd_yes', gd_no', cnd_true, cnd_false, pick_true, pick_false, not_bool, bin_add, bin_sub, bin_mul, bin_eql, bin_neq, bin_lss, bin_leq, bin_gtr, bin_geq, ext0, ext1, ext2, lenS_mk, eqNil_none, eqNil_some, neNil_none, neNil_some, ret_k, mem, Nat.zero_add, Nat.add_zero, Nat.mul_one, drewV, Bool.not_true, Bool.not_false]
  refine ld_h H 0 rfl rfl ?_
  simp only [lenS_sl hlk.up, pv_some, nilO_ptr, faO_mk, gd_yes, gd_no, gd_yes', gd_no', cnd_true, cnd_false, pick_true, pick_false, not_bool, bin_add, bin_sub, bin_mul, bin_eql, bin_neq, bin_lss, bin_leq, bin_gtr, bin_geq, ext0, ext1, ext2, lenS_mk, eqNil_none, eqNil_some, neNil_none, neNil_some, ret_k, mem, Nat.zero_add, Nat.add_zero, Nat.mul_one, drewV, Bool.not_true, Bool.not_false]
  refine cnd_decide (fun h2 => bad (.inr h2) H) (fun h2 => ?_)
  refine ld_h H 0 rfl rfl ?_
  obtain ⟨i, rfl⟩ : ∃ i : Nat, x = (i : Int) := ⟨x.toNat, by omega⟩
  have hi : i < M.up.length := by omega
  have e0 : setE M (i : Int) = 0 := by unfold setE; rw [if_neg (by omega)]
  obtain ⟨bu, cap, rest, rfl, rfl, c1, c2, c3⟩ := hlk.up.chunk (by omega)
  rw [ixS_mk hi]
  simp only [pv_some, nilO_ptr, faO_mk, gd_yes, gd_no, gd_yes', gd_no', cnd_true, cnd_false, pick_true, pick_false, not_bool, bin_add, bin_sub, bin_mul, bin_eql, bin_neq, bin_lss, bin_leq, bin_gtr, bin_geq, ext0, ext1, ext2, lenS_mk, eqNil_none, eqNil_some, neNil_none, neNil_some, ret_k, mem, Nat.zero_add, Nat.add_zero, Nat.mul_one, drewV, Bool.not_true, Bool.not_false]
  have H' : Hp w0 w (⟨bu, 4, M.up.map Value.bool ++ rest⟩ :: (⟨b, 96, lkc M (.slice (some ⟨bu, 0, none⟩) M.up.length cap) sus sp sa⟩ :: (cus ++ (cp ++ (ca ++ (D ++ F)))))) := H.to (by intro f; simp only [I, U8, U64, ptr, List.set_cons_zero, List.set_cons_succ, List.eraseIdx_cons_zero, List.eraseIdx_cons_succ, List.map_append, List.map_cons, List.map_nil, List.sum_append, List.sum_cons, List.sum_nil]; omega)
  refine st_h H' 0 rfl (by simp; omega) rfl fun w1 H1 => ?_
  rw [set_up hi] at H1
  have eM : setM M (i : Int) f = { M with up := M.up.set i f } := by unfold setM; rw [if_neg (by rw [e0]; decide)]; rfl
  have H1' : Hp w0 w1 (⟨bu, 4, (M.up.set i f).map Value.bool ++ rest⟩ :: (⟨b, 96, lkc { M with up := M.up.set i f } (.slice (some ⟨bu, 0, none⟩) M.up.length cap) sus sp sa⟩ :: (cus ++ (cp ++ (ca ++ (D ++ F)))))) := H1
  refine ⟨⟨b, 96, lkc { M with up := M.up.set i f } (.slice (some ⟨bu, 0, none⟩) M.up.length cap) sus sp sa⟩ :: ([⟨bu, 4, (M.up.set i f).map Value.bool ++ rest⟩] ++ (cus ++ (cp ++ (ca ++ D)))), by rw [e0], H1'.to (by intro f; simp only [I, U8, U64, ptr, List.set_cons_zero, List.set_cons_succ, List.eraseIdx_cons_zero, List.eraseIdx_cons_succ, List.map_append, List.map_cons, List.map_nil, List.sum_append, List.sum_cons, List.sum_nil]; omega), ?_⟩
  rw [eM]
  exact ⟨_, sus, sp, sa, _, cus, cp, ca, D, sv, ⟨.inr ⟨bu, cap, rest, rfl, by simp, by simp, by simpa using c2, by simpa using c3⟩, hlk.us, hlk.svl, hlk.dat, hlk.part, hlk.acks⟩, rfl⟩
theorem inv_set {n : Nat} {M : LM} {x : Int} {f : Bool} (h : LInv n M) : LInv n (setM M x f) := by
  unfold setM
  split
  · exact h
  · exact h.up (by simp)
end
end Go.Proofs.Ytmnpndgmfmjfhaa.Den
end

section
set_option linter.unusedVariables false
set_option linter.unusedSimpArgs false
set_option maxRecDepth 8000
namespace Go.Proofs.Ytmnpndgmfmjfhaa.Den
open Go Go.RowKit
section
variable {w w' : World} {w0 : Base} {F L : List Chunk} {R : ER}
theorem ruse_l {b : Nat} {M : LM} {su sus sp sa : Value} {cu : List Chunk} (hup : Sl 4 1 su M.up.length (M.up.map .bool) cu) (hcu : ∀ c ∈ cu, c ∈ F) (h8 : M.up.length < 2 ^ 20)
    (hq : ∀ w' s' cs', Hp w0 w' (cs' ++ (⟨b, 125, rlc M su sus sp sa⟩ :: F)) → Sl 3 1 s' (useI 0 M.up).length (iv (useI 0 M.up)) cs' → R (.returned s') w') :
    ∀ (d i : Nat) (w : World) (acc : List Int) (s : Value) (cs : List Chunk), i + d = M.up.length → acc ++ useI i (M.up.drop i) = useI 0 M.up → acc.length ≤ i → Hp w0 w (cs ++ (⟨b, 125, rlc M su sus sp sa⟩ :: F)) → Sl 3 1 s acc.length (iv acc) cs →
      F68_l1 R (d + 1) (ptr b 0) s (I (i : Int)) w := by
  intro d
  induction d with
  | zero =>
    intro i w acc s cs hi ha hl H hs
    rw [F68_l1_succ]
    unfold F68_b1 F68_j1
    have H0 : Hp w0 w (⟨b, 125, rlc M su sus sp sa⟩ :: (cs ++ F)) := H.to (by intro f; simp only [I, U8, U64, ptr, List.set_cons_zero, List.set_cons_succ, List.eraseIdx_cons_zero, List.eraseIdx_cons_succ, List.map_append, List.map_cons, List.map_nil, List.sum_append, List.sum_cons, List.sum_nil]; omega)
    simp only [pv_some, nilO_ptr, faO_mk, gd_yes, gd_no, gd_yes', gd_no', cnd_true, cnd_false, pick_true, pick_false, not_bool, bin_add, bin_sub, bin_mul, bin_eql, bin_neq, bin_lss, bin_leq, bin_gtr, bin_geq, ext0, ext1, ext2, lenS_mk, eqNil_none, eqNil_some, neNil_none, neNil_some, ret_k, mem, Nat.zero_add, Nat.add_zero, Nat.mul_one, drewV, Bool.not_true, Bool.not_false]
    refine ld_h H0 0 rfl rfl ?_
    simp only [lenS_sl hup, pv_some, nilO_ptr, faO_mk, gd_yes, gd_no, gd_yes', gd_no', cnd_true, cnd_false, pick_true, pick_false, not_bool, bin_add, bin_sub, bin_mul, bin_eql, bin_neq, bin_lss, bin_leq, bin_gtr, bin_geq, ext0, ext1, ext2, lenS_mk, eqNil_none, eqNil_some, neNil_none, neNil_some, ret_k, mem, Nat.zero_add, Nat.add_zero, Nat.mul_one, drewV, Bool.not_true, Bool.not_false]
    simp only [show decide ((i : Int) < (M.up.length : Int)) = false from decide_eq_false (by omega), pv_some, nilO_ptr, faO_mk, gd_yes, gd_no, gd_yes', gd_no', cnd_true, cnd_false, pick_true, pick_false, not_bool, bin_add, bin_sub, bin_mul, bin_eql, bin_neq, bin_lss, bin_leq, bin_gtr, bin_geq, ext0, ext1, ext2, lenS_mk, eqNil_none, eqNil_some, neNil_none, neNil_some, ret_k, mem, Nat.zero_add, Nat.add_zero, Nat.mul_one, drewV, Bool.not_true, Bool.not_false]
    rw [List.drop_eq_nil_of_le (by omega)] at ha
    simp only [useI, List.append_nil] at ha
    subst ha
    exact hq w s cs H hs
  | succ d ih =>
    intro i w acc s cs hi ha hl H hs
    rw [F68_l1_succ]
    unfold F68_b1
    have hlt : i < M.up.length := by omega
    have H0 : Hp w0 w (⟨b, 125, rlc M su sus sp sa⟩ :: (cs ++ F)) := H.to (by intro f; simp only [I, U8, U64, ptr, List.set_cons_zero, List.set_cons_succ, List.eraseIdx_cons_zero, List.eraseIdx_cons_succ, List.map_append, List.map_cons, List.map_nil, List.sum_append, List.sum_cons, List.sum_nil]; omega)
    have hrd := (hup.rdL (w0 := w0) (L := cs ++ (⟨b, 125, rlc M su sus sp sa⟩ :: F)) (fun c hc => by simp [hcu c hc])).rd H
    simp only [pv_some, nilO_ptr, faO_mk, gd_yes, gd_no, gd_yes', gd_no', cnd_true, cnd_false, pick_true, pick_false, not_bool, bin_add, bin_sub, bin_mul, bin_eql, bin_neq, bin_lss, bin_leq, bin_gtr, bin_geq, ext0, ext1, ext2, lenS_mk, eqNil_none, eqNil_some, neNil_none, neNil_some, ret_k, mem, Nat.zero_add, Nat.add_zero, Nat.mul_one, drewV, Bool.not_true, Bool.not_false]
    refine ld_h H0 0 rfl rfl ?_
    simp only [lenS_sl hup, pv_some, nilO_ptr, faO_mk, gd_yes, gd_no, gd_yes', gd_no', cnd_true, cnd_false, pick_true, pick_false, not_bool, bin_add, bin_sub, bin_mul, bin_eql, bin_neq, bin_lss, bin_leq, bin_gtr, bin_geq, ext0, ext1, ext2, lenS_mk, eqNil_none, eqNil_some, neNil_none, neNil_some, ret_k, mem, Nat.zero_add, Nat.add_zero, Nat.mul_one, drewV, Bool.not_true, Bool.not_false]
    simp only [show decide ((i : Int) < (M.up.length : Int)) = true from decide_eq_true (by omega), pv_some, nilO_ptr, faO_mk, gd_yes, gd_no, gd_yes', gd_no', cnd_true, cnd_false, pick_true, pick_false, not_bool, bin_add, bin_sub, bin_mul, bin_eql, bin_neq, bin_lss, bin_leq, bin_gtr, bin_geq, ext0, ext1, ext2, lenS_mk, eqNil_none, eqNil_some, neNil_none, neNil_some, ret_k, mem, Nat.zero_add, Nat.add_zero, Nat.mul_one, drewV, Bool.not_true, Bool.not_false]
    unfold F68_j4 F68_j5
    simp only [pv_some, nilO_ptr, faO_mk, gd_yes, gd_no, gd_yes', gd_no', cnd_true, cnd_false, pick_true, pick_false, not_bool, bin_add, bin_sub, bin_mul, bin_eql, bin_neq, bin_lss, bin_leq, bin_gtr, bin_geq, ext0, ext1, ext2, lenS_mk, eqNil_none, eqNil_some, neNil_none, neNil_some, ret_k, mem, Nat.zero_add, Nat.add_zero, Nat.mul_one, drewV, Bool.not_true, Bool.not_false]
    refine ld_h H0 0 rfl rfl ?_
    refine ix1_rd (v := .bool M.up[i]) hrd (by simp [hlt]) ?_
    rw [List.drop_eq_getElem_cons hlt] at ha
    cases hb : M.up[i] with
    | true =>
      rw [hb, useI] at ha
      simp only [pv_some, nilO_ptr, faO_mk, gd_yes, gd_no, gd_yes', gd_no', cnd_true, cnd_false, pick_true, pick_false, not_bool, bin_add, bin_sub, bin_mul, bin_eql, bin_neq, bin_lss, bin_leq, bin_gtr, bin_geq, ext0, ext1, ext2, lenS_mk, eqNil_none, eqNil_some, neNil_none, neNil_some, ret_k, mem, Nat.zero_add, Nat.add_zero, Nat.mul_one, drewV, Bool.not_true, Bool.not_false]
      refine lit1s_h elT104 H rfl fun w1 nb H1 => ?_
      have H2 : Hp w0 w1 (cs ++ (⟨nb, 3, [I (i : Int)]⟩ :: (⟨b, 125, rlc M su sus sp sa⟩ :: F))) := H1.to (by intro f; simp only [I, U8, U64, ptr, List.set_cons_zero, List.set_cons_succ, List.eraseIdx_cons_zero, List.eraseIdx_cons_succ, List.map_append, List.map_cons, List.map_nil, List.sum_append, List.sum_cons, List.sum_nil]; omega)
      refine append_h elT104 H2 hs (m := 1) (ys := iv [(i : Int)]) (.inr ⟨nb, 0, 1, 3, [I (i : Int)], rfl, by omega, by simp, by simp, rfl⟩) (by simp [iv, scalar]) (by omega) (by omega) fun w3 s3 cs3 H3 hs3 => ?_
      rw [wrap64_id (by omega) (by omega), show (i : Int) + 1 = ((i + 1 : Nat) : Int) from by omega]
      refine ih (i + 1) w3 (acc ++ [(i : Int)]) s3 cs3 (by omega) (by rw [← ha]; simp) (by simp; omega) (H3.to (by intro f; simp only [I, U8, U64, ptr, List.set_cons_zero, List.set_cons_succ, List.eraseIdx_cons_zero, List.eraseIdx_cons_succ, List.map_append, List.map_cons, List.map_nil, List.sum_append, List.sum_cons, List.sum_nil]; omega)) ?_
      have : iv acc ++ iv [(i : Int)] = iv (acc ++ [(i : Int)]) := by simp [iv]
      rw [this] at hs3
      simpa using hs3
    | false =>
      rw [hb, useI] at ha
      simp only [pv_some, nilO_ptr, faO_mk, gd_yes, gd_no, gd_yes', gd_no', cnd_true, cnd_false, pick_true, pick_false, not_bool, bin_add, bin_sub, bin_mul, bin_eql, bin_neq, bin_lss, bin_leq, bin_gtr, bin_geq, ext0, ext1, ext2, lenS_mk, eqNil_none, eqNil_some, neNil_none, neNil_some, ret_k, mem, Nat.zero_add, Nat.add_zero, Nat.mul_one, drewV, Bool.not_true, Bool.not_false]
      rw [wrap64_id (by omega) (by omega), show (i : Int) + 1 = ((i + 1 : Nat) : Int) from by omega]
      exact ih (i + 1) w acc s cs (by omega) (by simpa using ha) (by omega) H hs
theorem rusable_spec {b : Nat} {M : LM} {su sus sp sa : Value} {cu : List Chunk} (H : Hp w0 w (⟨b, 125, rlc M su sus sp sa⟩ :: F)) (hup : Sl 4 1 su M.up.length (M.up.map .bool) cu) (hcu : ∀ c ∈ cu, c ∈ F) (h8 : M.up.length < 2 ^ 20) :
    Calls Pg 68 ⟨[ptr b 0]⟩ w fun e w' => ∃ s' cs', e = .returned s' ∧ Hp w0 w' (cs' ++ (⟨b, 125, rlc M su sus sp sa⟩ :: F)) ∧ Sl 3 1 s' (useI 0 M.up).length (iv (useI 0 M.up)) cs' := by
  apply F68_calls
  unfold F68
  refine lit0_h elT104 H fun w1 s1 H1 hs1 => ?_
  unfold F68_j2 F68_j3
  exact ⟨M.up.length + 1, ruse_l hup hcu h8 (fun w' s' cs' H' hs' => ⟨s', cs', rfl, H', hs'⟩) M.up.length 0 w1 [] s1 [] (by omega) (by simp) (by simp) H1 hs1⟩
end
end Go.Proofs.Ytmnpndgmfmjfhaa.Den
end

section
set_option linter.unusedVariables false
set_option linter.unusedSimpArgs false
set_option maxRecDepth 8000
namespace Go.Proofs.Ytmnpndgmfmjfhaa.Den
open Go Go.RowKit
section
variable {w w' : World} {w0 : Base} {F L : List Chunk} {R : ER}
theorem slM_h {s : Value} {n lo hi : Nat} {xs : List Int} (hs : RdL w0 F 1 s n (bv xs)) (h1 : lo ≤ hi) (hn : hi ≤ n) : ∃ s', slS 1 s (some (I (lo : Int))) (some (I (hi : Int))) = some s' ∧ RdL w0 F 1 s' (hi - lo) (bv ((xs.drop lo).take (hi - lo))) := by
  by_cases h0 : 0 < n
  · obtain ⟨s', h1, h2, _⟩ := slS_rd hs rfl rfl h0 h1 hn
    exact ⟨s', h1, h2⟩
  · have : n = 0 := by omega
    subst this
    have : hi = 0 := by omega
    subst this
    have : lo = 0 := by omega
    subst this
    obtain ⟨a, c, rfl⟩ : ∃ a c, s = .slice a 0 c := by
      rcases hs with (⟨c, rfl, h0, _⟩ | ⟨a, c, rfl, hmc, h⟩) | ⟨b, o, c, el, l, rfl, hmc, hm, hle, he⟩
      · exact ⟨_, _, rfl⟩
      · exact ⟨_, _, rfl⟩
      · exact ⟨_, _, rfl⟩
    refine ⟨if c = 0 then .slice a 0 c else .slice (a.map (·.add 0)) 0 c, ?_, ?_⟩
    · simp only [slS, boundO]
      rw [if_pos (by omega)]
      simp
      split <;> rfl
    · have he : bv ((xs.drop 0).take (0 - 0)) = [] := by simp [bv]
      rw [he]
      cases a with
      | none => split <;> exact .inl (.inl ⟨_, rfl, by simp, rfl⟩)
      | some a => split <;> exact .inl (.inr ⟨_, _, rfl, by omega, by simp; rfl⟩)
theorem bldR {m f : Int} {l : Bool} {s : Value} (h : s.cells = #[s]) : bldO [I 0, .bool false, I 0, I 0, .slice none 0 0] [(0, 1, I 1), (1, 1, .bool l), (2, 1, I m), (3, 1, I f), (4, 1, s)] = some (.agg ⟨frm 1 l m f s⟩) := bldF h
theorem bldR2 {m f : Int} {l : Bool} {s : Value} : bldO [I 0, .bool false, I 0, I 0, .slice none 0 0, I 0] [(0, 5, .agg ⟨frm 1 l m f s⟩), (5, 1, I (-1))] = some (.agg ⟨ucell ⟨l, m, f, [], -1⟩ s⟩) := by
  simp [bldO, buildL, cellsI, frm, ucell, Value.cells]
theorem rsend_step {b k sz : Nat} {M : LM} {su sus sp sa s : Value} {cu cus cp ca D : List Chunk} {sv : List Value} {d : List Int} {k1 : V4}
    (hlk : LkP 141 144 w0 M su sus sp sa cu cus cp ca D sv) (hs : RdL w0 F 1 s d.length (bv d)) (hd : d.length ≤ 4096) (hsz : 8 ≤ sz ∧ sz ≤ 4096) (hk : k * sz ≤ d.length) (hk2 : k ≤ 4096) (hul : M.us.length < 2 ^ 29)
    (H : Hp w0 w (⟨b, 125, rlc M su sus sp sa⟩ :: (cus ++ (cu ++ (cp ++ (ca ++ (D ++ F)))))))
    (kk : ∀ w' sus' cus' D' sv', Hp w0 w' (⟨b, 125, rlc { M with us := M.us ++ [⟨decide ((d.drop (k * sz)).length ≤ sz), M.sent, (k : Int), (d.drop (k * sz)).take sz, -1⟩] } su sus' sp sa⟩ :: (cus' ++ (cu ++ (cp ++ (ca ++ (D' ++ F)))))) →
      LkP 141 144 w0 { M with us := M.us ++ [⟨decide ((d.drop (k * sz)).length ≤ sz), M.sent, (k : Int), (d.drop (k * sz)).take sz, -1⟩] } su sus' sp sa cu cus' cp ca D' sv' → k1 (ptr b 0) s (I (sz : Int)) (I ((k + 1 : Nat) : Int)) w') :
    F50_j8 R k1 (ptr b 0) s (I (sz : Int)) (I (k : Int)) w := by
  unfold F50_j8
  simp only [lenS_rdL hs, pv_some, nilO_ptr, faO_mk, gd_yes, gd_no, gd_yes', gd_no', cnd_true, cnd_false, pick_true, pick_false, not_bool, bin_add, bin_sub, bin_mul, bin_eql, bin_neq, bin_lss, bin_leq, bin_gtr, bin_geq, ext0, ext1, ext2, lenS_mk, eqNil_none, eqNil_some, neNil_none, neNil_some, ret_k, mem, Nat.zero_add, Nat.add_zero, Nat.mul_one, drewV, Bool.not_true, Bool.not_false]
  have hks : (k + 1) * sz = k * sz + sz := by rw [Nat.add_mul, Nat.one_mul]
  have e1 : IntKind.i64.wrap ((k : Int) + 1) = ((k + 1 : Nat) : Int) := by rw [wrap64_id (by omega) (by omega)]; omega
  have e2 : IntKind.i64.wrap (((k + 1 : Nat) : Int) * (sz : Int)) = (((k + 1) * sz : Nat) : Int) := by
    rw [← Int.natCast_mul, wrap64_id (by omega) (by omega)]
  have e3 : IntKind.i64.wrap ((k : Int) * (sz : Int)) = ((k * sz : Nat) : Int) := by
    rw [← Int.natCast_mul, wrap64_id (by omega) (by omega)]
  have em : min2I (.int .i64 (((k + 1) * sz : Nat) : Int)) (.int .i64 (d.length : Int)) = some (.int .i64 ((min ((k + 1) * sz) d.length : Nat) : Int)) := min2I_nat _ _
  simp only [e1, e2, e3, em, pv_some, nilO_ptr, faO_mk, gd_yes, gd_no, gd_yes', gd_no', cnd_true, cnd_false, pick_true, pick_false, not_bool, bin_add, bin_sub, bin_mul, bin_eql, bin_neq, bin_lss, bin_leq, bin_gtr, bin_geq, ext0, ext1, ext2, lenS_mk, eqNil_none, eqNil_some, neNil_none, neNil_some, ret_k, mem, Nat.zero_add, Nat.add_zero, Nat.mul_one, drewV, Bool.not_true, Bool.not_false]
  refine ld_h H.drew 0 rfl rfl ?_
  refine ld_h H.drew 0 rfl rfl ?_
  refine lit0_h elT24 H.drew fun w1 s1 H1 hs1 => ?_
  rw [rd1_t (H1.cell 0 (o := 6) rfl rfl), rd1_t (H1.cell 0 (o := 5) rfl rfl)]
  obtain ⟨s2, es2, hs2⟩ := slM_h (lo := k * sz) (hi := min ((k + 1) * sz) d.length) hs (by omega) (by omega)
  simp only [es2, pv_some, nilO_ptr, faO_mk, gd_yes, gd_no, gd_yes', gd_no', cnd_true, cnd_false, pick_true, pick_false, not_bool, bin_add, bin_sub, bin_mul, bin_eql, bin_neq, bin_lss, bin_leq, bin_gtr, bin_geq, ext0, ext1, ext2, lenS_mk, eqNil_none, eqNil_some, neNil_none, neNil_some, ret_k, mem, Nat.zero_add, Nat.add_zero, Nat.mul_one, drewV, Bool.not_true, Bool.not_false]
  have htk : (d.drop (k * sz)).take (min ((k + 1) * sz) d.length - k * sz) = (d.drop (k * sz)).take sz := by
    by_cases h : (k + 1) * sz ≤ d.length
    · rw [Nat.min_eq_left h, hks]; congr 1; omega
    · rw [Nat.min_eq_right (by omega), List.take_of_length_le (by simp), List.take_of_length_le (by simp; omega)]
  rw [htk] at hs2
  have htl : ((d.drop (k * sz)).take sz).length = min ((k + 1) * sz) d.length - k * sz := by simp; omega
  refine append_h (cs := []) (n := 0) (xs := []) elT24 H1 hs1 (hs2.mono fun c hc => by simp [hc]) bv_scalar (by omega) (by omega) fun w2 s3 cs3 H2 hs3 => ?_
  have H2' : Hp w0 w2 (⟨b, 125, rlc M su sus sp sa⟩ :: (cs3 ++ (cus ++ (cu ++ (cp ++ (ca ++ (D ++ F))))))) := H2.to (by intro f; simp only [I, U8, U64, ptr, List.set_cons_zero, List.set_cons_succ, List.eraseIdx_cons_zero, List.eraseIdx_cons_succ, List.map_append, List.map_cons, List.map_nil, List.sum_append, List.sum_cons, List.sum_nil]; omega)
  rw [rd1_t (H2'.cell 0 (o := 6) rfl rfl), rd1_t (H2'.cell 0 (o := 5) rfl rfl)]
  have eb : decide (((min ((k + 1) * sz) d.length : Nat) : Int) = (d.length : Int)) = decide ((d.drop (k * sz)).length ≤ sz) := by
    apply decide_eq_decide.2
    rw [List.length_drop]; omega
  have hb1 : bldO [.int .i64 0, .bool false, .int .i64 0, .int .i64 0, .slice none 0 0] [(0, 1, .int .i64 1), (1, 1, .bool (decide ((d.drop (k * sz)).length ≤ sz))), (2, 1, I M.sent), (3, 1, I (k : Int)), (4, 1, s3)] = some (.agg ⟨frm 1 (decide ((d.drop (k * sz)).length ≤ sz)) M.sent (k : Int) s3⟩) := bldR (sl_cells hs3)
  have hb2 : bldO [.int .i64 0, .bool false, .int .i64 0, .int .i64 0, .slice none 0 0, .int .i64 0] [(0, 5, .agg ⟨frm 1 (decide ((d.drop (k * sz)).length ≤ sz)) M.sent (k : Int) s3⟩), (5, 1, .int .i64 (-1))] = some (.agg ⟨ucell ⟨decide ((d.drop (k * sz)).length ≤ sz), M.sent, (k : Int), [], -1⟩ s3⟩) := bldR2
  simp only [eb, hb1, hb2, pv_some, nilO_ptr, faO_mk, gd_yes, gd_no, gd_yes', gd_no', cnd_true, cnd_false, pick_true, pick_false, not_bool, bin_add, bin_sub, bin_mul, bin_eql, bin_neq, bin_lss, bin_leq, bin_gtr, bin_geq, ext0, ext1, ext2, lenS_mk, eqNil_none, eqNil_some, neNil_none, neNil_some, ret_k, mem, Nat.zero_add, Nat.add_zero, Nat.mul_one, drewV, Bool.not_true, Bool.not_false]
  refine lit1_h (v := .agg ⟨ucell ⟨decide ((d.drop (k * sz)).length ≤ sz), M.sent, (k : Int), [], -1⟩ s3⟩) elT122 H2' rfl (by omega) fun w3 nb H3 => ?_
  generalize hu : (⟨decide ((d.drop (k * sz)).length ≤ sz), M.sent, (k : Int), (d.drop (k * sz)).take sz, -1⟩ : UM) = u at kk
  have hud : u.d = (d.drop (k * sz)).take sz := by rw [← hu]
  have H3' : Hp w0 w3 (⟨nb, 141, ucell u s3⟩ :: ⟨b, 125, rlc M su sus sp sa⟩ :: (cs3 ++ (cus ++ (cu ++ (cp ++ (ca ++ (D ++ F))))))) := by rw [← hu]; exact H3
  rw [rd1_t (H3'.cell 1 (o := 5) rfl rfl)]
  have H3'' : Hp w0 w3 (cus ++ (⟨nb, 141, ucell u s3⟩ :: ⟨b, 125, rlc M su sus sp sa⟩ :: (cs3 ++ (cu ++ (cp ++ (ca ++ (D ++ F))))))) := H3'.to (by intro f; simp only [I, U8, U64, ptr, List.set_cons_zero, List.set_cons_succ, List.eraseIdx_cons_zero, List.eraseIdx_cons_succ, List.map_append, List.map_cons, List.map_nil, List.sum_append, List.sum_cons, List.sum_nil]; omega)
  have hsc3 : scalar s3 = true := sl_sc hs3
  refine append_h (m := 1) (ys := ucell u s3) elT122 H3'' hlk.us (.inr ⟨nb, 0, 1, 141, ucell u s3, rfl, by omega, by simp, by simp [ucell], rfl⟩) (by intro c hc; simp [ucell] at hc; rcases hc with rfl | rfl | rfl | rfl | rfl | rfl <;> first | rfl | exact hsc3) (by omega) (by omega) fun w4 s4 cus4 H4 hs4 => ?_
  try simp only [pv_some, nilO_ptr, faO_mk, gd_yes, gd_no, gd_yes', gd_no', cnd_true, cnd_false, pick_true, pick_false, not_bool, bin_add, bin_sub, bin_mul, bin_eql, bin_neq, bin_lss, bin_leq, bin_gtr, bin_geq, ext0, ext1, ext2, lenS_mk, eqNil_none, eqNil_some, neNil_none, neNil_some, ret_k, mem, Nat.zero_add, Nat.add_zero, Nat.mul_one, drewV, Bool.not_true, Bool.not_false]
  have H4' : Hp w0 w4 (⟨b, 125, rlc M su sus sp sa⟩ :: (cus4 ++ (cu ++ (cp ++ (ca ++ ((cs3 ++ D) ++ F)))))) := H4.to (by intro f; simp only [I, U8, U64, ptr, List.set_cons_zero, List.set_cons_succ, List.eraseIdx_cons_zero, List.eraseIdx_cons_succ, List.map_append, List.map_cons, List.map_nil, List.sum_append, List.sum_cons, List.sum_nil]; omega)
  refine st_h H4' 0 rfl (by simp [rlc]) (sl_sc hs4) fun w5 H5 => ?_
  try simp only [pv_some, nilO_ptr, faO_mk, gd_yes, gd_no, gd_yes', gd_no', cnd_true, cnd_false, pick_true, pick_false, not_bool, bin_add, bin_sub, bin_mul, bin_eql, bin_neq, bin_lss, bin_leq, bin_gtr, bin_geq, ext0, ext1, ext2, lenS_mk, eqNil_none, eqNil_some, neNil_none, neNil_some, ret_k, mem, Nat.zero_add, Nat.add_zero, Nat.mul_one, drewV, Bool.not_true, Bool.not_false]
  have H5' : Hp w0 w5 (⟨b, 125, rlc { M with us := M.us ++ [u] } su s4 sp sa⟩ :: (cus4 ++ (cu ++ (cp ++ (ca ++ ((cs3 ++ D) ++ F)))))) := H5
  refine kk w5 s4 cus4 (cs3 ++ D) (sv ++ [s3]) H5' ⟨hlk.up, ?_, by simp [hlk.svl], ?_, hlk.part, hlk.acks⟩
  · simp only [List.length_append, List.length_singleton]
    rw [ucells_append hlk.svl]
    have : ucells [u] [s3] = ucell u s3 := by simp [ucells]
    rw [this]; exact hs4
  · intro i u' t hi ht
    simp only at hi
    by_cases hlt : i < M.us.length
    · rw [List.getElem?_append_left hlt] at hi
      rw [List.getElem?_append_left (by rw [hlk.svl]; exact hlt)] at ht
      obtain ⟨g1, g2⟩ := hlk.dat i u' t hi ht
      exact ⟨g1.mono fun c hc => by simp [hc], g2⟩
    · rw [List.getElem?_append_right (by omega)] at hi
      rw [List.getElem?_append_right (by rw [hlk.svl]; omega), hlk.svl] at ht
      have h0 : i - M.us.length = 0 := by have := (List.getElem?_eq_some_iff.1 hi).1; simp at this; omega
      rw [h0] at hi ht
      simp at hi ht
      subst hi; subst ht
      refine ⟨?_, sl_cells hs3, hsc3⟩
      rw [hud, htl]
      have hs3' := hs3
      rw [Nat.zero_add, List.nil_append] at hs3'
      exact hs3'.rdL fun c hc => by simp [hc]
theorem rsend_l {b sz : Nat} {M0 : LM} {su sp sa s : Value} {cu cp ca : List Chunk} {d : List Int} (hs : RdL w0 F 1 s d.length (bv d)) (hd : d.length ≤ 4096) (hsz : 8 ≤ sz ∧ sz ≤ 4096) (hul : M0.us.length < 2 ^ 28) :
    ∀ (n k : Nat) (w : World) (us : List UM) (sus : Value) (cus D : List Chunk) (sv : List Value), (k = 0 ∨ k * sz < d.length) → k * sz ≤ d.length → d.length - k * sz ≤ n → us.length ≤ M0.us.length + k → LkP 141 144 w0 { M0 with us := us } su sus sp sa cu cus cp ca D sv →
      Hp w0 w (⟨b, 125, rlc { M0 with us := us } su sus sp sa⟩ :: (cus ++ (cu ++ (cp ++ (ca ++ (D ++ F)))))) →
      (∀ w' sus' cus' D' sv', Hp w0 w' (⟨b, 125, rlc { M0 with us := us ++ addL M0.sent k (pcs (n + 1) sz (d.drop (k * sz))) } su sus' sp sa⟩ :: (cus' ++ (cu ++ (cp ++ (ca ++ (D' ++ F)))))) →
        LkP 141 144 w0 { M0 with us := us ++ addL M0.sent k (pcs (n + 1) sz (d.drop (k * sz))) } su sus' sp sa cu cus' cp ca D' sv' → R (.returned (.tuple ⟨[I M0.sent, I 0]⟩)) w') →
      F50_l1 R (n + 2) (ptr b 0) s (I (sz : Int)) (I (k : Int)) w := by
  intro n
  induction n with
  | zero =>
    intro k w us sus cus D sv hc hk hn hl hlk H kk
    rw [F50_l1_succ]
    unfold F50_b1
    have hk4 : k ≤ 4096 := by
      have : k * 8 ≤ k * sz := Nat.mul_le_mul_left k hsz.1
      omega
    have hks : (k + 1) * sz = k * sz + sz := by rw [Nat.add_mul, Nat.one_mul]
    have e3 : IntKind.i64.wrap ((k : Int) * (sz : Int)) = ((k * sz : Nat) : Int) := by
      rw [← Int.natCast_mul, wrap64_id (by omega) (by omega)]
    have e4 : IntKind.i64.wrap (((k + 1 : Nat) : Int) * (sz : Int)) = (((k + 1) * sz : Nat) : Int) := by
      rw [← Int.natCast_mul, wrap64_id (by omega) (by omega)]
    have enter : ∀ {k1 : V4}, F50_j8 R k1 (ptr b 0) s (I (sz : Int)) (I (k : Int)) w → (pv (bin .eql (I (k : Int)) (.int .i64 0)) fun v33 =>
        gd v33 false (pv (some (I (k : Int)))) fun v34 =>
        gd v33 false (pv (some (I (sz : Int)))) fun v35 =>
        gd v33 false (pv (bin .mul v34 v35)) fun v36 =>
        gd v33 false (pv (some s)) fun v37 =>
        gd v33 false (pv (lenS v37)) fun v38 =>
        gd v33 false (pv (bin .lss v36 v38)) fun v39 =>
        pv (pickO v33 (.bool true) v39) fun v40 =>
        cnd v40 (F50_j8 R k1 (ptr b 0) s (I (sz : Int)) (I (k : Int))) (F50_j5 R (ptr b 0))) w := by
      intro k1 hj
      by_cases h0 : (k : Int) = 0
      · simp only [decide_eq_true h0, pv_some, nilO_ptr, faO_mk, gd_yes, gd_no, gd_yes', gd_no', cnd_true, cnd_false, pick_true, pick_false, not_bool, bin_add, bin_sub, bin_mul, bin_eql, bin_neq, bin_lss, bin_leq, bin_gtr, bin_geq, ext0, ext1, ext2, lenS_mk, eqNil_none, eqNil_some, neNil_none, neNil_some, ret_k, mem, Nat.zero_add, Nat.add_zero, Nat.mul_one, drewV, Bool.not_true, Bool.not_false]; exact hj
      · simp only [decide_eq_false h0, lenS_rdL hs, e3, pv_some, nilO_ptr, faO_mk, gd_yes, gd_no, gd_yes', gd_no', cnd_true, cnd_false, pick_true, pick_false, not_bool, bin_add, bin_sub, bin_mul, bin_eql, bin_neq, bin_lss, bin_leq, bin_gtr, bin_geq, ext0, ext1, ext2, lenS_mk, eqNil_none, eqNil_some, neNil_none, neNil_some, ret_k, mem, Nat.zero_add, Nat.add_zero, Nat.mul_one, drewV, Bool.not_true, Bool.not_false]
        simp only [decide_eq_true (show ((k * sz : Nat) : Int) < (d.length : Int) from by omega), pv_some, nilO_ptr, faO_mk, gd_yes, gd_no, gd_yes', gd_no', cnd_true, cnd_false, pick_true, pick_false, not_bool, bin_add, bin_sub, bin_mul, bin_eql, bin_neq, bin_lss, bin_leq, bin_gtr, bin_geq, ext0, ext1, ext2, lenS_mk, eqNil_none, eqNil_some, neNil_none, neNil_some, ret_k, mem, Nat.zero_add, Nat.add_zero, Nat.mul_one, drewV, Bool.not_true, Bool.not_false]
        exact hj
    refine enter ?_
    refine rsend_step (M := { M0 with us := us }) hlk hs hd hsz hk hk4 (by simp only; omega) H fun w1 sus1 cus1 D1 sv1 H1 hlk1 => ?_
    have hr : (d.drop (k * sz)).length ≤ sz := by rw [List.length_drop]; omega
    rw [F50_l1_succ]
    unfold F50_b1
    simp only [decide_eq_false (show ¬ (((k + 1 : Nat) : Int) = 0) from by omega), lenS_rdL hs, e4, pv_some, nilO_ptr, faO_mk, gd_yes, gd_no, gd_yes', gd_no', cnd_true, cnd_false, pick_true, pick_false, not_bool, bin_add, bin_sub, bin_mul, bin_eql, bin_neq, bin_lss, bin_leq, bin_gtr, bin_geq, ext0, ext1, ext2, lenS_mk, eqNil_none, eqNil_some, neNil_none, neNil_some, ret_k, mem, Nat.zero_add, Nat.add_zero, Nat.mul_one, drewV, Bool.not_true, Bool.not_false]
    simp only [decide_eq_false (show ¬ ((((k + 1) * sz : Nat) : Int) < (d.length : Int)) from by rw [List.length_drop] at hr; omega), pv_some, nilO_ptr, faO_mk, gd_yes, gd_no, gd_yes', gd_no', cnd_true, cnd_false, pick_true, pick_false, not_bool, bin_add, bin_sub, bin_mul, bin_eql, bin_neq, bin_lss, bin_leq, bin_gtr, bin_geq, ext0, ext1, ext2, lenS_mk, eqNil_none, eqNil_some, neNil_none, neNil_some, ret_k, mem, Nat.zero_add, Nat.add_zero, Nat.mul_one, drewV, Bool.not_true, Bool.not_false]
    unfold F50_j5
    simp only [pv_some, nilO_ptr, faO_mk, gd_yes, gd_no, gd_yes', gd_no', cnd_true, cnd_false, pick_true, pick_false, not_bool, bin_add, bin_sub, bin_mul, bin_eql, bin_neq, bin_lss, bin_leq, bin_gtr, bin_geq, ext0, ext1, ext2, lenS_mk, eqNil_none, eqNil_some, neNil_none, neNil_some, ret_k, mem, Nat.zero_add, Nat.add_zero, Nat.mul_one, drewV, Bool.not_true, Bool.not_false]
    refine ld_h H1 0 rfl rfl ?_
    have ep : pcs (0 + 1) sz (d.drop (k * sz)) = [d.drop (k * sz)] := by unfold pcs; rw [if_pos hr]
    rw [ep] at kk
    have ea : addL M0.sent k [d.drop (k * sz)] = [⟨decide ((d.drop (k * sz)).length ≤ sz), M0.sent, (k : Int), (d.drop (k * sz)).take sz, -1⟩] := by
      rw [decide_eq_true hr, List.take_of_length_le hr]; rfl
    rw [ea] at kk
    exact kk w1 sus1 cus1 D1 sv1 H1 hlk1
  | succ n ih =>
    intro k w us sus cus D sv hc hk hn hl hlk H kk
    rw [F50_l1_succ]
    unfold F50_b1
    have hk4 : k ≤ 4096 := by
      have : k * 8 ≤ k * sz := Nat.mul_le_mul_left k hsz.1
      omega
    have hks : (k + 1) * sz = k * sz + sz := by rw [Nat.add_mul, Nat.one_mul]
    have e3 : IntKind.i64.wrap ((k : Int) * (sz : Int)) = ((k * sz : Nat) : Int) := by
      rw [← Int.natCast_mul, wrap64_id (by omega) (by omega)]
    have e4 : IntKind.i64.wrap (((k + 1 : Nat) : Int) * (sz : Int)) = (((k + 1) * sz : Nat) : Int) := by
      rw [← Int.natCast_mul, wrap64_id (by omega) (by omega)]
    have enter : ∀ {k1 : V4}, F50_j8 R k1 (ptr b 0) s (I (sz : Int)) (I (k : Int)) w → (pv (bin .eql (I (k : Int)) (.int .i64 0)) fun v33 =>
        gd v33 false (pv (some (I (k : Int)))) fun v34 =>
        gd v33 false (pv (some (I (sz : Int)))) fun v35 =>
        gd v33 false (pv (bin .mul v34 v35)) fun v36 =>
        gd v33 false (pv (some s)) fun v37 =>
        gd v33 false (pv (lenS v37)) fun v38 =>
        gd v33 false (pv (bin .lss v36 v38)) fun v39 =>
        pv (pickO v33 (.bool true) v39) fun v40 =>
        cnd v40 (F50_j8 R k1 (ptr b 0) s (I (sz : Int)) (I (k : Int))) (F50_j5 R (ptr b 0))) w := by
      intro k1 hj
      by_cases h0 : (k : Int) = 0
      · simp only [decide_eq_true h0, pv_some, nilO_ptr, faO_mk, gd_yes, gd_no, gd_yes', gd_no', cnd_true, cnd_false, pick_true, pick_false, not_bool, bin_add, bin_sub, bin_mul, bin_eql, bin_neq, bin_lss, bin_leq, bin_gtr, bin_geq, ext0, ext1, ext2, lenS_mk, eqNil_none, eqNil_some, neNil_none, neNil_some, ret_k, mem, Nat.zero_add, Nat.add_zero, Nat.mul_one, drewV, Bool.not_true, Bool.not_false]; exact hj
      · simp only [decide_eq_false h0, lenS_rdL hs, e3, pv_some, nilO_ptr, faO_mk, gd_yes, gd_no, gd_yes', gd_no', cnd_true, cnd_false, pick_true, pick_false, not_bool, bin_add, bin_sub, bin_mul, bin_eql, bin_neq, bin_lss, bin_leq, bin_gtr, bin_geq, ext0, ext1, ext2, lenS_mk, eqNil_none, eqNil_some, neNil_none, neNil_some, ret_k, mem, Nat.zero_add, Nat.add_zero, Nat.mul_one, drewV, Bool.not_true, Bool.not_false]
        simp only [decide_eq_true (show ((k * sz : Nat) : Int) < (d.length : Int) from by omega), pv_some, nilO_ptr, faO_mk, gd_yes, gd_no, gd_yes', gd_no', cnd_true, cnd_false, pick_true, pick_false, not_bool, bin_add, bin_sub, bin_mul, bin_eql, bin_neq, bin_lss, bin_leq, bin_gtr, bin_geq, ext0, ext1, ext2, lenS_mk, eqNil_none, eqNil_some, neNil_none, neNil_some, ret_k, mem, Nat.zero_add, Nat.add_zero, Nat.mul_one, drewV, Bool.not_true, Bool.not_false]
        exact hj
    refine enter ?_
    refine rsend_step (M := { M0 with us := us }) hlk hs hd hsz hk hk4 (by simp only; omega) H fun w1 sus1 cus1 D1 sv1 H1 hlk1 => ?_
    by_cases hr : (d.drop (k * sz)).length ≤ sz
    · rw [F50_l1_succ]
      unfold F50_b1
      simp only [decide_eq_false (show ¬ (((k + 1 : Nat) : Int) = 0) from by omega), lenS_rdL hs, e4, pv_some, nilO_ptr, faO_mk, gd_yes, gd_no, gd_yes', gd_no', cnd_true, cnd_false, pick_true, pick_false, not_bool, bin_add, bin_sub, bin_mul, bin_eql, bin_neq, bin_lss, bin_leq, bin_gtr, bin_geq, ext0, ext1, ext2, lenS_mk, eqNil_none, eqNil_some, neNil_none, neNil_some, ret_k, mem, Nat.zero_add, Nat.add_zero, Nat.mul_one, drewV, Bool.not_true, Bool.not_false]
      simp only [decide_eq_false (show ¬ ((((k + 1) * sz : Nat) : Int) < (d.length : Int)) from by rw [List.length_drop] at hr; omega), pv_some, nilO_ptr, faO_mk, gd_yes, gd_no, gd_yes', gd_no', cnd_true, cnd_false, pick_true, pick_false, not_bool, bin_add, bin_sub, bin_mul, bin_eql, bin_neq, bin_lss, bin_leq, bin_gtr, bin_geq, ext0, ext1, ext2, lenS_mk, eqNil_none, eqNil_some, neNil_none, neNil_some, ret_k, mem, Nat.zero_add, Nat.add_zero, Nat.mul_one, drewV, Bool.not_true, Bool.not_false]
      unfold F50_j5
      simp only [pv_some, nilO_ptr, faO_mk, gd_yes, gd_no, gd_yes', gd_no', cnd_true, cnd_false, pick_true, pick_false, not_bool, bin_add, bin_sub, bin_mul, bin_eql, bin_neq, bin_lss, bin_leq, bin_gtr, bin_geq, ext0, ext1, ext2, lenS_mk, eqNil_none, eqNil_some, neNil_none, neNil_some, ret_k, mem, Nat.zero_add, Nat.add_zero, Nat.mul_one, drewV, Bool.not_true, Bool.not_false]
      refine ld_h H1 0 rfl rfl ?_
      have ep : pcs (n + 1 + 1) sz (d.drop (k * sz)) = [d.drop (k * sz)] := by unfold pcs; rw [if_pos hr]
      rw [ep] at kk
      have ea : addL M0.sent k [d.drop (k * sz)] = [⟨decide ((d.drop (k * sz)).length ≤ sz), M0.sent, (k : Int), (d.drop (k * sz)).take sz, -1⟩] := by
        rw [decide_eq_true hr, List.take_of_length_le hr]; rfl
      rw [ea] at kk
      exact kk w1 sus1 cus1 D1 sv1 H1 hlk1
    · have hr' := hr
      rw [List.length_drop] at hr'
      have ed : d.drop ((k + 1) * sz) = (d.drop (k * sz)).drop sz := by rw [List.drop_drop, hks]
      have ep : pcs (n + 1 + 1) sz (d.drop (k * sz)) = (d.drop (k * sz)).take sz :: pcs (n + 1) sz (d.drop ((k + 1) * sz)) := by
        rw [ed]; conv => lhs; unfold pcs
        rw [if_neg hr]
      rw [ep] at kk
      have ea : addL M0.sent k ((d.drop (k * sz)).take sz :: pcs (n + 1) sz (d.drop ((k + 1) * sz))) = ⟨decide ((d.drop (k * sz)).length ≤ sz), M0.sent, (k : Int), (d.drop (k * sz)).take sz, -1⟩ :: addL M0.sent (k + 1) (pcs (n + 1) sz (d.drop ((k + 1) * sz))) := by
        rw [decide_eq_false hr]
        cases hp : pcs (n + 1) sz (d.drop ((k + 1) * sz)) with
        | nil => exact absurd hp (pcs_ne _ _ _)
        | cons p ps => rfl
      rw [ea] at kk
      refine ih (k + 1) w1 _ sus1 cus1 D1 sv1 (.inr (by omega)) (by omega) (by omega) (by rw [List.length_append]; simp; omega) hlk1 H1 fun w' sus' cus' D' sv' H' hlk' => ?_
      refine kk w' sus' cus' D' sv' ?_ ?_
      · rw [List.append_assoc] at H'; exact H'
      · rw [List.append_assoc] at hlk'; exact hlk'
theorem rSend_spec {b : Nat} {M : LM} {s : Value} {d : List Int} {now : Int} (H : Hp w0 w (L ++ F)) (hL : rLk w0 b M L) (hs : RdL w0 F 1 s d.length (bv d)) (hd : d.length < 2 ^ 30)
    (hsz : 32 ≤ M.size ∧ M.size ≤ 4096) (hus : M.us.length < 2 ^ 28) (hsent : 0 ≤ M.sent ∧ M.sent < 2 ^ 50 ∧ 0 ≤ M.done ∧ M.done < 2 ^ 50) : Calls Pg 50 ⟨[ptr b 0, s, I now]⟩ w (SendPost w0 F rLk b M d now) := by
  have hL0 := hL
  obtain ⟨su, sus, sp, sa, cu, cus, cp, ca, D, sv, hlk, rfl⟩ := hL
  have H0 : Hp w0 w (⟨b, 125, rlc M su sus sp sa⟩ :: (cus ++ (cu ++ (cp ++ (ca ++ (D ++ F)))))) := H.to (by intro f; simp only [I, U8, U64, ptr, List.set_cons_zero, List.set_cons_succ, List.eraseIdx_cons_zero, List.eraseIdx_cons_succ, List.map_append, List.map_cons, List.map_nil, List.sum_append, List.sum_cons, List.sum_nil]; omega)
  have fail : ∀ {w' : World} (er : Int), er ≠ 0 → sendE M d now = er → Hp w0 w' (⟨b, 125, rlc M su sus sp sa⟩ :: (cus ++ (cu ++ (cp ++ (ca ++ (D ++ F)))))) → SendPost w0 F rLk b M d now (.returned (.tuple ⟨[I 0, I er]⟩)) w' := by
    intro w' er hne he H'
    have hne' : sendE M d now ≠ 0 := by rw [he]; exact hne
    refine ⟨⟨b, 125, rlc M su sus sp sa⟩ :: (cu ++ (cus ++ (cp ++ (ca ++ D)))), by rw [if_neg hne', he], H'.to (by intro f; simp only [I, U8, U64, ptr, List.set_cons_zero, List.set_cons_succ, List.eraseIdx_cons_zero, List.eraseIdx_cons_succ, List.map_append, List.map_cons, List.map_nil, List.sum_append, List.sum_cons, List.sum_nil]; omega), ?_⟩
    unfold sendM; rw [if_neg hne']
    exact hL0
  apply F50_calls
  unfold F50
  simp only [lenS_rdL hs, pv_some, nilO_ptr, faO_mk, gd_yes, gd_no, gd_yes', gd_no', cnd_true, cnd_false, pick_true, pick_false, not_bool, bin_add, bin_sub, bin_mul, bin_eql, bin_neq, bin_lss, bin_leq, bin_gtr, bin_geq, ext0, ext1, ext2, lenS_mk, eqNil_none, eqNil_some, neNil_none, neNil_some, ret_k, mem, Nat.zero_add, Nat.add_zero, Nat.mul_one, drewV, Bool.not_true, Bool.not_false]
  refine cnd_decide (fun h1 => ?_) (fun h1 => ?_)
  · exact fail 20 (by decide) (by unfold sendE; rw [if_pos (by omega)]) H0
  unfold F50_j1
  refine cal_h (rtime_spec (now := now) H0) ?_
  rintro e w1 ⟨rfl, rfl⟩
  by_cases h2 : timeE M now ≠ 0
  · simp only [decide_eq_true h2, pv_some, nilO_ptr, faO_mk, gd_yes, gd_no, gd_yes', gd_no', cnd_true, cnd_false, pick_true, pick_false, not_bool, bin_add, bin_sub, bin_mul, bin_eql, bin_neq, bin_lss, bin_leq, bin_gtr, bin_geq, ext0, ext1, ext2, lenS_mk, eqNil_none, eqNil_some, neNil_none, neNil_some, ret_k, mem, Nat.zero_add, Nat.add_zero, Nat.mul_one, drewV, Bool.not_true, Bool.not_false]
    exact fail _ h2 (by unfold sendE; rw [if_neg (by omega), if_pos h2]) H0
  simp only [decide_eq_false h2, pv_some, nilO_ptr, faO_mk, gd_yes, gd_no, gd_yes', gd_no', cnd_true, cnd_false, pick_true, pick_false, not_bool, bin_add, bin_sub, bin_mul, bin_eql, bin_neq, bin_lss, bin_leq, bin_gtr, bin_geq, ext0, ext1, ext2, lenS_mk, eqNil_none, eqNil_some, neNil_none, neNil_some, ret_k, mem, Nat.zero_add, Nat.add_zero, Nat.mul_one, drewV, Bool.not_true, Bool.not_false]
  unfold F50_j2
  simp only [pv_some, nilO_ptr, faO_mk, gd_yes, gd_no, gd_yes', gd_no', cnd_true, cnd_false, pick_true, pick_false, not_bool, bin_add, bin_sub, bin_mul, bin_eql, bin_neq, bin_lss, bin_leq, bin_gtr, bin_geq, ext0, ext1, ext2, lenS_mk, eqNil_none, eqNil_some, neNil_none, neNil_some, ret_k, mem, Nat.zero_add, Nat.add_zero, Nat.mul_one, drewV, Bool.not_true, Bool.not_false]
  refine ld_h H0.drew 0 rfl rfl ?_
  refine ld_h H0.drew 0 rfl rfl ?_
  simp only [pv_some, nilO_ptr, faO_mk, gd_yes, gd_no, gd_yes', gd_no', cnd_true, cnd_false, pick_true, pick_false, not_bool, bin_add, bin_sub, bin_mul, bin_eql, bin_neq, bin_lss, bin_leq, bin_gtr, bin_geq, ext0, ext1, ext2, lenS_mk, eqNil_none, eqNil_some, neNil_none, neNil_some, ret_k, mem, Nat.zero_add, Nat.add_zero, Nat.mul_one, drewV, Bool.not_true, Bool.not_false]
  rw [wrap64_id (by omega) (by omega)]
  refine cnd_decide (fun h3 => ?_) (fun h3 => ?_)
  · exact fail 2 (by decide) (by unfold sendE; rw [if_neg (by omega), if_neg h2, if_pos (by omega)]) H0.drew
  unfold F50_j3
  simp only [pv_some, nilO_ptr, faO_mk, gd_yes, gd_no, gd_yes', gd_no', cnd_true, cnd_false, pick_true, pick_false, not_bool, bin_add, bin_sub, bin_mul, bin_eql, bin_neq, bin_lss, bin_leq, bin_gtr, bin_geq, ext0, ext1, ext2, lenS_mk, eqNil_none, eqNil_some, neNil_none, neNil_some, ret_k, mem, Nat.zero_add, Nat.add_zero, Nat.mul_one, drewV, Bool.not_true, Bool.not_false]
  refine ld_h H0.drew 0 rfl rfl ?_
  simp only [pv_some, nilO_ptr, faO_mk, gd_yes, gd_no, gd_yes', gd_no', cnd_true, cnd_false, pick_true, pick_false, not_bool, bin_add, bin_sub, bin_mul, bin_eql, bin_neq, bin_lss, bin_leq, bin_gtr, bin_geq, ext0, ext1, ext2, lenS_mk, eqNil_none, eqNil_some, neNil_none, neNil_some, ret_k, mem, Nat.zero_add, Nat.add_zero, Nat.mul_one, drewV, Bool.not_true, Bool.not_false]
  refine cnd_decide (fun h4 => ?_) (fun h4 => ?_)
  · exact fail 18 (by decide) (by unfold sendE; rw [if_neg (by omega), if_neg h2, if_neg (by omega), if_pos (by omega)]) H0.drew
  have hE : sendE M d now = 0 := by unfold sendE; rw [if_neg (by omega), if_neg h2, if_neg (by omega), if_neg (by omega)]
  unfold F50_j4
  simp only [pv_some, nilO_ptr, faO_mk, gd_yes, gd_no, gd_yes', gd_no', cnd_true, cnd_false, pick_true, pick_false, not_bool, bin_add, bin_sub, bin_mul, bin_eql, bin_neq, bin_lss, bin_leq, bin_gtr, bin_geq, ext0, ext1, ext2, lenS_mk, eqNil_none, eqNil_some, neNil_none, neNil_some, ret_k, mem, Nat.zero_add, Nat.add_zero, Nat.mul_one, drewV, Bool.not_true, Bool.not_false]
  refine st_h H0.drew 0 rfl (by simp [rlc]) rfl fun w2 H2 => ?_
  try simp only [pv_some, nilO_ptr, faO_mk, gd_yes, gd_no, gd_yes', gd_no', cnd_true, cnd_false, pick_true, pick_false, not_bool, bin_add, bin_sub, bin_mul, bin_eql, bin_neq, bin_lss, bin_leq, bin_gtr, bin_geq, ext0, ext1, ext2, lenS_mk, eqNil_none, eqNil_some, neNil_none, neNil_some, ret_k, mem, Nat.zero_add, Nat.add_zero, Nat.mul_one, drewV, Bool.not_true, Bool.not_false]
  refine ld_h H2 0 rfl rfl ?_
  simp only [pv_some, nilO_ptr, faO_mk, gd_yes, gd_no, gd_yes', gd_no', cnd_true, cnd_false, pick_true, pick_false, not_bool, bin_add, bin_sub, bin_mul, bin_eql, bin_neq, bin_lss, bin_leq, bin_gtr, bin_geq, ext0, ext1, ext2, lenS_mk, eqNil_none, eqNil_some, neNil_none, neNil_some, ret_k, mem, Nat.zero_add, Nat.add_zero, Nat.mul_one, drewV, Bool.not_true, Bool.not_false]
  rw [wrap64_id (by omega) (by omega)]
  refine st_h H2 0 rfl (by simp [rlc]) rfl fun w3 H3 => ?_
  try simp only [pv_some, nilO_ptr, faO_mk, gd_yes, gd_no, gd_yes', gd_no', cnd_true, cnd_false, pick_true, pick_false, not_bool, bin_add, bin_sub, bin_mul, bin_eql, bin_neq, bin_lss, bin_leq, bin_gtr, bin_geq, ext0, ext1, ext2, lenS_mk, eqNil_none, eqNil_some, neNil_none, neNil_some, ret_k, mem, Nat.zero_add, Nat.add_zero, Nat.mul_one, drewV, Bool.not_true, Bool.not_false]
  refine ld_h H3 0 rfl rfl ?_
  simp only [pv_some, nilO_ptr, faO_mk, gd_yes, gd_no, gd_yes', gd_no', cnd_true, cnd_false, pick_true, pick_false, not_bool, bin_add, bin_sub, bin_mul, bin_eql, bin_neq, bin_lss, bin_leq, bin_gtr, bin_geq, ext0, ext1, ext2, lenS_mk, eqNil_none, eqNil_some, neNil_none, neNil_some, ret_k, mem, Nat.zero_add, Nat.add_zero, Nat.mul_one, drewV, Bool.not_true, Bool.not_false]
  obtain ⟨sz, hszn⟩ : ∃ sz : Nat, M.size - 24 = (sz : Int) := ⟨(M.size - 24).toNat, by omega⟩
  rw [wrap64_id (by omega) (by omega), hszn]
  unfold F50_j6 F50_j7
  have H3' : Hp w0 w3 (⟨b, 125, rlc { ({ M with clock := now, sent := M.sent + 1 } : LM) with us := M.us } su sus sp sa⟩ :: (cus ++ (cu ++ (cp ++ (ca ++ (D ++ F)))))) := H3
  refine ⟨d.length + 2, ?_⟩
  refine rsend_l (M0 := { M with clock := now, sent := M.sent + 1 }) hs (by omega) (by omega) hus d.length 0 w3 M.us sus cus D sv (.inl rfl) (by omega) (by omega) (by simp) ⟨hlk.up, hlk.us, hlk.svl, hlk.dat, hlk.part, hlk.acks⟩ H3' fun w' sus' cus' D' sv' H' hlk' => ?_
  have e : (M.size - 24).toNat = sz := by omega
  rw [Nat.zero_mul, List.drop_zero] at H' hlk'
  refine ⟨⟨b, 125, rlc { ({ M with clock := now, sent := M.sent + 1 } : LM) with us := M.us ++ addL (M.sent + 1) 0 (pcs (d.length + 1) sz d) } su sus' sp sa⟩ :: (cu ++ (cus' ++ (cp ++ (ca ++ D')))), by rw [if_pos hE, hE], H'.to (by intro f; simp only [I, U8, U64, ptr, List.set_cons_zero, List.set_cons_succ, List.eraseIdx_cons_zero, List.eraseIdx_cons_succ, List.map_append, List.map_cons, List.map_nil, List.sum_append, List.sum_cons, List.sum_nil]; omega), ?_⟩
  unfold sendM
  rw [if_pos hE, setLast_app _ _ _ _ (pcs_ne _ _ _), e]
  exact ⟨_, _, _, _, _, _, _, _, _, _, hlk', rfl⟩
end
end Go.Proofs.Ytmnpndgmfmjfhaa.Den
end
