/- Links: Next, walked. Conditions: none. -/
import Derived.Test.YtmnpndgmfmjfhaaLkO
set_option linter.unusedVariables false
set_option linter.unusedSimpArgs false
set_option maxRecDepth 8000
namespace Go.Proofs.Ytmnpndgmfmjfhaa.Den
open Go Go.RowKit
def fIdx (p : UM → Bool) : Nat → List UM → Int
  | _, [] => -1
  | i, u :: r => if p u then (i : Int) else fIdx p (i + 1) r
section
variable {w w' : World} {w0 : Base} {F L : List Chunk} {R : ER}
theorem calD_fn {f : Nat} {first captured args : Array Value} {Q : ER} {K : VK} (he : enterOk Pg f = true) (h : Calls Pg f (first ++ args ++ captured) w Q) (k : ∀ e w', Q e w' → retK R K e w') :
    calD Pg R (.func (.func f) first captured) args K w := by
  unfold calD; simp only [he, cond_true]; exact h.mono k
theorem idx_l {bu k cap : Nat} {us : List UM} {sv rest : List Value} {fv : Value} {p : UM → Bool} {j : Nat} (hj : L[j]? = some ⟨bu, 101, ucells us sv ++ rest⟩) (hsv : sv.length = us.length) (hk : k ≤ us.length) (hkb : k < 2 ^ 60)
    (hp : ∀ {R : ER} {K : VK} {w : World} {u : UM} {s : Value}, Hp w0 w L → (∀ w', Hp w0 w' L → K (.bool (p u)) w') → calD Pg R fv ⟨[.agg ⟨ucell u s⟩]⟩ K w)
    (hq : ∀ w', Hp w0 w' L → R (.returned (I (fIdx p 0 (us.take k)))) w') :
    ∀ (d i : Nat) (w : World), i + d = k → fIdx p i ((us.take k).drop i) = fIdx p 0 (us.take k) → Hp w0 w L → slices_IndexFunc_l1 R (d + 1) (.slice (some ⟨bu, 0, none⟩) k cap) fv (I (k : Int)) (I (i : Int)) w := by
  intro d
  induction d with
  | zero =>
    intro i w hi hf H
    rw [slices_IndexFunc_l1_succ]
    unfold slices_IndexFunc_b1 slices_IndexFunc_j1
    simp only [pv_some, nilO_ptr, faO_mk, gd_yes, gd_no, gd_yes', gd_no', cnd_true, cnd_false, pick_true, pick_false, not_bool, bin_add, bin_sub, bin_mul, bin_eql, bin_neq, bin_lss, bin_leq, bin_gtr, bin_geq, ext0, ext1, ext2, lenS_mk, eqNil_none, eqNil_some, neNil_none, neNil_some, ret_k, mem, Nat.zero_add, Nat.add_zero, Nat.mul_one, drewV, Bool.not_true, Bool.not_false, show decide ((i : Int) < (k : Int)) = false from decide_eq_false (by omega)]
    rw [List.drop_eq_nil_of_le (by rw [List.length_take]; omega)] at hf
    have := hq w H
    rw [← hf] at this
    exact this
  | succ d ih =>
    intro i w hi hf H
    rw [slices_IndexFunc_l1_succ]
    unfold slices_IndexFunc_b1 slices_IndexFunc_j4
    simp only [pv_some, nilO_ptr, faO_mk, gd_yes, gd_no, gd_yes', gd_no', cnd_true, cnd_false, pick_true, pick_false, not_bool, bin_add, bin_sub, bin_mul, bin_eql, bin_neq, bin_lss, bin_leq, bin_gtr, bin_geq, ext0, ext1, ext2, lenS_mk, eqNil_none, eqNil_some, neNil_none, neNil_some, ret_k, mem, Nat.zero_add, Nat.add_zero, Nat.mul_one, drewV, Bool.not_true, Bool.not_false, show decide ((i : Int) < (k : Int)) = true from decide_eq_true (by omega)]
    rw [ixS_mk (by omega)]
    simp only [pv_some, nilO_ptr, faO_mk, gd_yes, gd_no, gd_yes', gd_no', cnd_true, cnd_false, pick_true, pick_false, not_bool, bin_add, bin_sub, bin_mul, bin_eql, bin_neq, bin_lss, bin_leq, bin_gtr, bin_geq, ext0, ext1, ext2, lenS_mk, eqNil_none, eqNil_some, neNil_none, neNil_some, ret_k, mem, Nat.zero_add, Nat.add_zero, Nat.mul_one, drewV, Bool.not_true, Bool.not_false]
    have hlt : i < us.length := by omega
    obtain ⟨u, hu⟩ : ∃ u, us[i]? = some u := ⟨_, List.getElem?_eq_getElem hlt⟩
    obtain ⟨s, hs⟩ : ∃ s, sv[i]? = some s := ⟨_, List.getElem?_eq_getElem (by omega)⟩
    have hlen := ucells_len hsv
    have hcell : ((ucells us sv ++ rest).drop (i * 6)).take 6 = ucell u s := by
      apply List.ext_getElem?
      intro m
      rw [List.getElem?_take]
      by_cases hm : m < 6
      · rw [if_pos hm, List.getElem?_drop, List.getElem?_append_left (by rw [hlen]; omega)]
        exact ucells_get hu hs hm
      · rw [if_neg hm, List.getElem?_eq_none (by simp [ucell]; omega)]
    refine ldN_blk (H.at hj) (by rw [List.length_append, hlen]; omega) ?_
    rw [hcell]
    refine hp H fun w2 H2 => ?_
    have hdrop : (us.take k).drop i = u :: (us.take k).drop (i + 1) := by
      have hg : (us.take k)[i]? = some u := by rw [List.getElem?_take, if_pos (by omega)]; exact hu
      obtain ⟨h1, h2⟩ := List.getElem?_eq_some_iff.1 hg
      rw [List.drop_eq_getElem_cons h1, h2]
    rw [hdrop, fIdx] at hf
    cases hb : p u with
    | true =>
      rw [hb, if_pos rfl] at hf
      simp only [pv_some, nilO_ptr, faO_mk, gd_yes, gd_no, gd_yes', gd_no', cnd_true, cnd_false, pick_true, pick_false, not_bool, bin_add, bin_sub, bin_mul, bin_eql, bin_neq, bin_lss, bin_leq, bin_gtr, bin_geq, ext0, ext1, ext2, lenS_mk, eqNil_none, eqNil_some, neNil_none, neNil_some, ret_k, mem, Nat.zero_add, Nat.add_zero, Nat.mul_one, drewV, Bool.not_true, Bool.not_false]
      have := hq w2 H2
      rw [← hf] at this
      exact this
    | false =>
      rw [hb] at hf
      simp only [Bool.false_eq_true, if_false] at hf
      simp only [pv_some, nilO_ptr, faO_mk, gd_yes, gd_no, gd_yes', gd_no', cnd_true, cnd_false, pick_true, pick_false, not_bool, bin_add, bin_sub, bin_mul, bin_eql, bin_neq, bin_lss, bin_leq, bin_gtr, bin_geq, ext0, ext1, ext2, lenS_mk, eqNil_none, eqNil_some, neNil_none, neNil_some, ret_k, mem, Nat.zero_add, Nat.add_zero, Nat.mul_one, drewV, Bool.not_true, Bool.not_false]
      rw [wrap64_id (by omega) (by omega), show (i : Int) + 1 = ((i + 1 : Nat) : Int) from by omega]
      exact ih (i + 1) w2 (by omega) hf H2
theorem idx_spec {bu k cap : Nat} {us : List UM} {sv rest : List Value} {fv : Value} {p : UM → Bool} {j : Nat} (H : Hp w0 w L) (hj : L[j]? = some ⟨bu, 101, ucells us sv ++ rest⟩) (hsv : sv.length = us.length) (hk : k ≤ us.length) (hkb : k < 2 ^ 60)
    (hp : ∀ {R : ER} {K : VK} {w : World} {u : UM} {s : Value}, Hp w0 w L → (∀ w', Hp w0 w' L → K (.bool (p u)) w') → calD Pg R fv ⟨[.agg ⟨ucell u s⟩]⟩ K w) :
    Calls Pg 62 ⟨[.slice (some ⟨bu, 0, none⟩) k cap, fv]⟩ w fun e w' => e = .returned (I (fIdx p 0 (us.take k))) ∧ Hp w0 w' L := by
  apply slices_IndexFunc_calls
  unfold slices_IndexFunc slices_IndexFunc_j2 slices_IndexFunc_j3
  simp only [pv_some, nilO_ptr, faO_mk, gd_yes, gd_no, gd_yes', gd_no', cnd_true, cnd_false, pick_true, pick_false, not_bool, bin_add, bin_sub, bin_mul, bin_eql, bin_neq, bin_lss, bin_leq, bin_gtr, bin_geq, ext0, ext1, ext2, lenS_mk, eqNil_none, eqNil_some, neNil_none, neNil_some, ret_k, mem, Nat.zero_add, Nat.add_zero, Nat.mul_one, drewV, Bool.not_true, Bool.not_false]
  exact ⟨k + 1, idx_l hj hsv hk hkb hp (fun w' H' => ⟨rfl, H'⟩) k 0 w (by omega) rfl H⟩
theorem idx_nil {fv a : Value} {c : Nat} (H : Hp w0 w L) {q : Option Addr} : Calls Pg 62 ⟨[.slice q 0 c, fv]⟩ w fun e w' => e = .returned (I (-1)) ∧ Hp w0 w' L := by
  apply slices_IndexFunc_calls
  unfold slices_IndexFunc slices_IndexFunc_j2 slices_IndexFunc_j3
  simp only [pv_some, nilO_ptr, faO_mk, gd_yes, gd_no, gd_yes', gd_no', cnd_true, cnd_false, pick_true, pick_false, not_bool, bin_add, bin_sub, bin_mul, bin_eql, bin_neq, bin_lss, bin_leq, bin_gtr, bin_geq, ext0, ext1, ext2, lenS_mk, eqNil_none, eqNil_some, neNil_none, neNil_some, ret_k, mem, Nat.zero_add, Nat.add_zero, Nat.mul_one, drewV, Bool.not_true, Bool.not_false]
  refine ⟨1, ?_⟩
  show slices_IndexFunc_l1 _ (0 + 1) _ _ _ _ _
  rw [slices_IndexFunc_l1_succ]
  unfold slices_IndexFunc_b1 slices_IndexFunc_j1
  simp only [pv_some, nilO_ptr, faO_mk, gd_yes, gd_no, gd_yes', gd_no', cnd_true, cnd_false, pick_true, pick_false, not_bool, bin_add, bin_sub, bin_mul, bin_eql, bin_neq, bin_lss, bin_leq, bin_gtr, bin_geq, ext0, ext1, ext2, lenS_mk, eqNil_none, eqNil_some, neNil_none, neNil_some, ret_k, mem, Nat.zero_add, Nat.add_zero, Nat.mul_one, drewV, Bool.not_true, Bool.not_false, show decide ((0 : Int) < ((0 : Nat) : Int)) = false from rfl]
  exact ⟨trivial, H⟩
theorem enter37 : enterOk Pg 37 = true := by kernel_rfl
theorem next1_call {K : VK} {u : UM} {s : Value} (H : Hp w0 w L) (k : ∀ w', Hp w0 w' L → K (.bool (decide (u.at_ < 0))) w') : calD Pg R (.func (.func 37) ⟨[]⟩ ⟨[]⟩) ⟨[.agg ⟨ucell u s⟩]⟩ K w := by
  refine calD_fn (Q := fun e w' => e = .returned (.bool (decide (u.at_ < 0))) ∧ Hp w0 w' L) enter37 ?_ ?_
  · apply links_Link_Next_1_calls
    unfold links_Link_Next_1
    refine bxa_h H fun w1 b H1 => ?_
    simp only [pv_some, nilO_ptr, faO_mk, gd_yes, gd_no, gd_yes', gd_no', cnd_true, cnd_false, pick_true, pick_false, not_bool, bin_add, bin_sub, bin_mul, bin_eql, bin_neq, bin_lss, bin_leq, bin_gtr, bin_geq, ext0, ext1, ext2, lenS_mk, eqNil_none, eqNil_some, neNil_none, neNil_some, ret_k, mem, Nat.zero_add, Nat.add_zero, Nat.mul_one, drewV, Bool.not_true, Bool.not_false]
    refine ld_h H1 0 rfl rfl ?_
    simp only [pv_some, nilO_ptr, faO_mk, gd_yes, gd_no, gd_yes', gd_no', cnd_true, cnd_false, pick_true, pick_false, not_bool, bin_add, bin_sub, bin_mul, bin_eql, bin_neq, bin_lss, bin_leq, bin_gtr, bin_geq, ext0, ext1, ext2, lenS_mk, eqNil_none, eqNil_some, neNil_none, neNil_some, ret_k, mem, Nat.zero_add, Nat.add_zero, Nat.mul_one, drewV, Bool.not_true, Bool.not_false]
    exact ⟨trivial, H1.tail⟩
  · rintro e w' ⟨rfl, H'⟩
    exact k w' H'
def pend (M : LM) : Int := fIdx (fun u => decide (u.at_ < 0)) 0 (M.us.take 8)
/-- What is due, and when. -/
def nextV (M : LM) : Int × Bool :=
  if M.broken then (0, false) else if M.acks ≠ [] ∨ 0 ≤ pend M then (M.clock, true) else match M.us with
    | [] => (0, false)
    | u :: _ => (max M.clock (u.at_ + M.timeout), true)
theorem Next_spec {b : Nat} {M : LM} (H : Hp w0 w (L ++ F)) (hL : Lk w0 b M L) (hus : M.us.length < 2 ^ 40) (hat : ∀ u ∈ M.us, -1 ≤ u.at_ ∧ u.at_ ≤ 2 ^ 41) (ht : 0 ≤ M.timeout ∧ M.timeout ≤ 2 ^ 41) (hal : M.acks.length < 2 ^ 60) :
    Calls Pg 13 ⟨[ptr b 0]⟩ w fun e w' => e = .returned (.tuple ⟨[I (nextV M).1, .bool (nextV M).2]⟩) ∧ Hp w0 w' (L ++ F) := by
  obtain ⟨su, sus, sp, sa, cu, cus, cp, ca, D, sv, hlk, rfl⟩ := hL
  have H0 : Hp w0 w (⟨b, 96, lkc M su sus sp sa⟩ :: (cus ++ (cu ++ (cp ++ (ca ++ (D ++ F)))))) := H.to (by intro f; simp only [I, U8, U64, ptr, List.set_cons_zero, List.set_cons_succ, List.eraseIdx_cons_zero, List.eraseIdx_cons_succ, List.map_append, List.map_cons, List.map_nil, List.sum_append, List.sum_cons, List.sum_nil]; omega)
  apply links_Link_Next_calls
  unfold links_Link_Next
  simp only [pv_some, nilO_ptr, faO_mk, gd_yes, gd_no, gd_yes', gd_no', cnd_true, cnd_false, pick_true, pick_false, not_bool, bin_add, bin_sub, bin_mul, bin_eql, bin_neq, bin_lss, bin_leq, bin_gtr, bin_geq, ext0, ext1, ext2, lenS_mk, eqNil_none, eqNil_some, neNil_none, neNil_some, ret_k, mem, Nat.zero_add, Nat.add_zero, Nat.mul_one, drewV, Bool.not_true, Bool.not_false]
  refine ld_h H0 0 rfl rfl ?_
  cases hb : M.broken with
  | true =>
    simp only [pv_some, nilO_ptr, faO_mk, gd_yes, gd_no, gd_yes', gd_no', cnd_true, cnd_false, pick_true, pick_false, not_bool, bin_add, bin_sub, bin_mul, bin_eql, bin_neq, bin_lss, bin_leq, bin_gtr, bin_geq, ext0, ext1, ext2, lenS_mk, eqNil_none, eqNil_some, neNil_none, neNil_some, ret_k, mem, Nat.zero_add, Nat.add_zero, Nat.mul_one, drewV, Bool.not_true, Bool.not_false]
    refine ⟨by unfold nextV; rw [if_pos hb], H⟩
  | false =>
    simp only [pv_some, nilO_ptr, faO_mk, gd_yes, gd_no, gd_yes', gd_no', cnd_true, cnd_false, pick_true, pick_false, not_bool, bin_add, bin_sub, bin_mul, bin_eql, bin_neq, bin_lss, bin_leq, bin_gtr, bin_geq, ext0, ext1, ext2, lenS_mk, eqNil_none, eqNil_some, neNil_none, neNil_some, ret_k, mem, Nat.zero_add, Nat.add_zero, Nat.mul_one, drewV, Bool.not_true, Bool.not_false]
    unfold links_Link_Next_j1
    have hnb : ∀ {x : Int × Bool}, (if M.acks ≠ [] ∨ 0 ≤ pend M then (M.clock, true) else match M.us with | [] => (0, false) | u :: _ => (max M.clock (u.at_ + M.timeout), true)) = x → nextV M = x := by
      intro x h; unfold nextV; rw [hb]; simpa using h
    have H1 := H0.drew
    simp only [pv_some, nilO_ptr, faO_mk, gd_yes, gd_no, gd_yes', gd_no', cnd_true, cnd_false, pick_true, pick_false, not_bool, bin_add, bin_sub, bin_mul, bin_eql, bin_neq, bin_lss, bin_leq, bin_gtr, bin_geq, ext0, ext1, ext2, lenS_mk, eqNil_none, eqNil_some, neNil_none, neNil_some, ret_k, mem, Nat.zero_add, Nat.add_zero, Nat.mul_one, drewV, Bool.not_true, Bool.not_false]
    refine ld_h H1 0 rfl rfl ?_
    refine ld_h H1 0 rfl rfl ?_
    simp only [lenS_sl hlk.us, pv_some, nilO_ptr, faO_mk, gd_yes, gd_no, gd_yes', gd_no', cnd_true, cnd_false, pick_true, pick_false, not_bool, bin_add, bin_sub, bin_mul, bin_eql, bin_neq, bin_lss, bin_leq, bin_gtr, bin_geq, ext0, ext1, ext2, lenS_mk, eqNil_none, eqNil_some, neNil_none, neNil_some, ret_k, mem, Nat.zero_add, Nat.add_zero, Nat.mul_one, drewV, Bool.not_true, Bool.not_false]
    have e8 : min2I (.int .i64 8) (I ((M.us.length : Nat) : Int)) = some (I ((min 8 M.us.length : Nat) : Int)) := min2I_nat 8 _
    simp only [e8, pv_some, nilO_ptr, faO_mk, gd_yes, gd_no, gd_yes', gd_no', cnd_true, cnd_false, pick_true, pick_false, not_bool, bin_add, bin_sub, bin_mul, bin_eql, bin_neq, bin_lss, bin_leq, bin_gtr, bin_geq, ext0, ext1, ext2, lenS_mk, eqNil_none, eqNil_some, neNil_none, neNil_some, ret_k, mem, Nat.zero_add, Nat.add_zero, Nat.mul_one, drewV, Bool.not_true, Bool.not_false]
    -- the window
    have hwin : ∃ q cap, slS 6 sus none (some (I ((min 8 M.us.length : Nat) : Int))) = some (.slice q (min 8 M.us.length) cap) ∧ (0 < M.us.length → ∃ bu rest, q = some ⟨bu, 0, none⟩ ∧ cus = [⟨bu, 101, ucells M.us sv ++ rest⟩]) := by
      rcases hlk.us with ⟨h1, ⟨a, rfl⟩, h2, h3⟩ | ⟨bu, cap, rest, rfl, rfl, g1, g2, g3⟩
      · refine ⟨a, 0, ?_, fun h => by omega⟩
        rw [h2]; simp only [slS, boundO]; simp
      · refine ⟨some ⟨bu, 0, none⟩, cap, ?_, fun _ => ⟨bu, rest, rfl, rfl⟩⟩
        simp only [slS, boundO]
        rw [if_pos (by omega)]
        simp
        intro _; simp [Addr.add]
    obtain ⟨q, cap, hq, hbu⟩ := hwin
    simp only [hq, pv_some, nilO_ptr, faO_mk, gd_yes, gd_no, gd_yes', gd_no', cnd_true, cnd_false, pick_true, pick_false, not_bool, bin_add, bin_sub, bin_mul, bin_eql, bin_neq, bin_lss, bin_leq, bin_gtr, bin_geq, ext0, ext1, ext2, lenS_mk, eqNil_none, eqNil_some, neNil_none, neNil_some, ret_k, mem, Nat.zero_add, Nat.add_zero, Nat.mul_one, drewV, Bool.not_true, Bool.not_false]
    unfold links_Link_Next_j3
    simp only [pv_some, nilO_ptr, faO_mk, gd_yes, gd_no, gd_yes', gd_no', cnd_true, cnd_false, pick_true, pick_false, not_bool, bin_add, bin_sub, bin_mul, bin_eql, bin_neq, bin_lss, bin_leq, bin_gtr, bin_geq, ext0, ext1, ext2, lenS_mk, eqNil_none, eqNil_some, neNil_none, neNil_some, ret_k, mem, Nat.zero_add, Nat.add_zero, Nat.mul_one, drewV, Bool.not_true, Bool.not_false]
    refine ld_h H1 0 rfl rfl ?_
    simp only [lenS_sl hlk.acks, pv_some, nilO_ptr, faO_mk, gd_yes, gd_no, gd_yes', gd_no', cnd_true, cnd_false, pick_true, pick_false, not_bool, bin_add, bin_sub, bin_mul, bin_eql, bin_neq, bin_lss, bin_leq, bin_gtr, bin_geq, ext0, ext1, ext2, lenS_mk, eqNil_none, eqNil_some, neNil_none, neNil_some, ret_k, mem, Nat.zero_add, Nat.add_zero, Nat.mul_one, drewV, Bool.not_true, Bool.not_false]
    have fin : ∀ {w : World} {x : Bool}, Hp w0 w (⟨b, 96, lkc M su sus sp sa⟩ :: (cus ++ (cu ++ (cp ++ (ca ++ (D ++ F)))))) → (x = true ↔ (M.acks ≠ [] ∨ 0 ≤ pend M)) →
        links_Link_Next_j4 (fun e w' => e = .returned (.tuple ⟨[I (nextV M).1, .bool (nextV M).2]⟩) ∧ Hp w0 w' ((⟨b, 96, lkc M su sus sp sa⟩ :: (cu ++ (cus ++ (cp ++ (ca ++ D))))) ++ F)) (ptr b 0) (.slice q (min 8 M.us.length) cap) (.bool x) w := by
      intro w x H hx
      unfold links_Link_Next_j4
      cases hv : x with
      | true =>
        simp only [pv_some, nilO_ptr, faO_mk, gd_yes, gd_no, gd_yes', gd_no', cnd_true, cnd_false, pick_true, pick_false, not_bool, bin_add, bin_sub, bin_mul, bin_eql, bin_neq, bin_lss, bin_leq, bin_gtr, bin_geq, ext0, ext1, ext2, lenS_mk, eqNil_none, eqNil_some, neNil_none, neNil_some, ret_k, mem, Nat.zero_add, Nat.add_zero, Nat.mul_one, drewV, Bool.not_true, Bool.not_false]
        refine ld_h H 0 rfl rfl ?_
        refine ⟨by rw [hnb (if_pos (hx.1 hv))], H.to (by intro f; simp only [I, U8, U64, ptr, List.set_cons_zero, List.set_cons_succ, List.eraseIdx_cons_zero, List.eraseIdx_cons_succ, List.map_append, List.map_cons, List.map_nil, List.sum_append, List.sum_cons, List.sum_nil]; omega)⟩
      | false =>
        have hx' : ¬ (M.acks ≠ [] ∨ 0 ≤ pend M) := fun h => by have := hx.2 h; rw [hv] at this; cases this
        simp only [pv_some, nilO_ptr, faO_mk, gd_yes, gd_no, gd_yes', gd_no', cnd_true, cnd_false, pick_true, pick_false, not_bool, bin_add, bin_sub, bin_mul, bin_eql, bin_neq, bin_lss, bin_leq, bin_gtr, bin_geq, ext0, ext1, ext2, lenS_mk, eqNil_none, eqNil_some, neNil_none, neNil_some, ret_k, mem, Nat.zero_add, Nat.add_zero, Nat.mul_one, drewV, Bool.not_true, Bool.not_false]
        unfold links_Link_Next_j5 links_Link_Next_j6
        simp only [pv_some, nilO_ptr, faO_mk, gd_yes, gd_no, gd_yes', gd_no', cnd_true, cnd_false, pick_true, pick_false, not_bool, bin_add, bin_sub, bin_mul, bin_eql, bin_neq, bin_lss, bin_leq, bin_gtr, bin_geq, ext0, ext1, ext2, lenS_mk, eqNil_none, eqNil_some, neNil_none, neNil_some, ret_k, mem, Nat.zero_add, Nat.add_zero, Nat.mul_one, drewV, Bool.not_true, Bool.not_false]
        refine cnd_decide (fun h => ?_) (fun h => ?_)
        · unfold links_Link_Next_j7
          have H2 := H.drew
          obtain ⟨bu, rest, rfl, rfl⟩ := hbu (by omega)
          simp only [pv_some, nilO_ptr, faO_mk, gd_yes, gd_no, gd_yes', gd_no', cnd_true, cnd_false, pick_true, pick_false, not_bool, bin_add, bin_sub, bin_mul, bin_eql, bin_neq, bin_lss, bin_leq, bin_gtr, bin_geq, ext0, ext1, ext2, lenS_mk, eqNil_none, eqNil_some, neNil_none, neNil_some, ret_k, mem, Nat.zero_add, Nat.add_zero, Nat.mul_one, drewV, Bool.not_true, Bool.not_false]
          refine ld_h H2 0 rfl rfl ?_
          have e0 : ixS 6 (.slice (some ⟨bu, 0, none⟩) (min 8 M.us.length) cap) (.int .i64 0) = some (ptr bu 0) := by
            have := ixS_mk (sz := 6) (b := bu) (o := 0) (c := cap) (n := min 8 M.us.length) (j := 0) (k := .i64) (by omega); simpa using this
          simp only [e0, pv_some, nilO_ptr, faO_mk, gd_yes, gd_no, gd_yes', gd_no', cnd_true, cnd_false, pick_true, pick_false, not_bool, bin_add, bin_sub, bin_mul, bin_eql, bin_neq, bin_lss, bin_leq, bin_gtr, bin_geq, ext0, ext1, ext2, lenS_mk, eqNil_none, eqNil_some, neNil_none, neNil_some, ret_k, mem, Nat.zero_add, Nat.add_zero, Nat.mul_one, drewV, Bool.not_true, Bool.not_false]
          obtain ⟨u, r, hM⟩ : ∃ u r, M.us = u :: r := by
            cases hM : M.us with
            | nil => rw [hM] at h; simp at h
            | cons u r => exact ⟨u, r, rfl⟩
          obtain ⟨s, hs⟩ : ∃ s, sv[0]? = some s := ⟨_, List.getElem?_eq_getElem (by rw [hlk.svl, hM]; simp)⟩
          have hu : M.us[0]? = some u := by rw [hM]; rfl
          have hc : (ucells M.us sv ++ rest)[5]? = some (I u.at_) := get_left (by have := ucells_get hu hs (j := 5) (by omega); simpa [ucell] using this)
          refine ld_h H2 1 rfl hc ?_
          refine ld_h H2 0 rfl rfl ?_
          have ha := hat u (by rw [hM]; simp)
          simp only [pv_some, nilO_ptr, faO_mk, gd_yes, gd_no, gd_yes', gd_no', cnd_true, cnd_false, pick_true, pick_false, not_bool, bin_add, bin_sub, bin_mul, bin_eql, bin_neq, bin_lss, bin_leq, bin_gtr, bin_geq, ext0, ext1, ext2, lenS_mk, eqNil_none, eqNil_some, neNil_none, neNil_some, ret_k, mem, Nat.zero_add, Nat.add_zero, Nat.mul_one, drewV, Bool.not_true, Bool.not_false]
          rw [wrap64_id (by omega) (by omega)]
          have em : max2I (I M.clock) (I (u.at_ + M.timeout)) = some (I (max M.clock (u.at_ + M.timeout))) := by
            simp only [max2I]; congr 2; rw [Int.max_def]; split <;> split <;> omega
          simp only [em, pv_some, nilO_ptr, faO_mk, gd_yes, gd_no, gd_yes', gd_no', cnd_true, cnd_false, pick_true, pick_false, not_bool, bin_add, bin_sub, bin_mul, bin_eql, bin_neq, bin_lss, bin_leq, bin_gtr, bin_geq, ext0, ext1, ext2, lenS_mk, eqNil_none, eqNil_some, neNil_none, neNil_some, ret_k, mem, Nat.zero_add, Nat.add_zero, Nat.mul_one, drewV, Bool.not_true, Bool.not_false]
          refine ⟨?_, H2.to (by intro f; simp only [I, U8, U64, ptr, List.set_cons_zero, List.set_cons_succ, List.eraseIdx_cons_zero, List.eraseIdx_cons_succ, List.map_append, List.map_cons, List.map_nil, List.sum_append, List.sum_cons, List.sum_nil]; omega)⟩
          rw [hnb (if_neg hx')]
          rw [hM]
        · unfold links_Link_Next_j2
          refine ⟨?_, H.to (by intro f; simp only [I, U8, U64, ptr, List.set_cons_zero, List.set_cons_succ, List.eraseIdx_cons_zero, List.eraseIdx_cons_succ, List.map_append, List.map_cons, List.map_nil, List.sum_append, List.sum_cons, List.sum_nil]; omega)⟩
          have hM : M.us = [] := by
            cases hM : M.us with
            | nil => rfl
            | cons u r => rw [hM] at h; simp at h
          rw [hnb (if_neg hx'), hM]
    refine cnd_decide (fun h => ?_) (fun h => ?_)
    · have : decide ((0 : Int) < ((M.acks.length : Nat) : Int)) = true := decide_eq_true h
      rw [this]
      refine fin H1 (by simp; left; intro hn; rw [hn] at h; simp at h)
    · have ha : M.acks = [] := by
        cases hA : M.acks with
        | nil => rfl
        | cons u r => rw [hA] at h; simp at h
      have hcf : Calls Pg 36 ⟨[.slice q (min 8 M.us.length) cap, .func (.func 37) ⟨[]⟩ ⟨[]⟩]⟩ w.drew fun e w' => e = .returned (.bool (decide (0 ≤ pend M))) ∧ Hp w0 w' (⟨b, 96, lkc M su sus sp sa⟩ :: (cus ++ (cu ++ (cp ++ (ca ++ (D ++ F)))))) := by
        apply slices_ContainsFunc_calls
        unfold slices_ContainsFunc
        by_cases h0 : 0 < M.us.length
        · obtain ⟨bu, rest, rfl, rfl⟩ := hbu h0
          refine cal_h (idx_spec (j := 1) (us := M.us) (sv := sv) (rest := rest) (p := fun u => decide (u.at_ < 0)) H1 rfl hlk.svl (by omega) (by omega) (fun H k => next1_call H k)) ?_
          rintro e w2 ⟨rfl, H2⟩
          simp only [pv_some, nilO_ptr, faO_mk, gd_yes, gd_no, gd_yes', gd_no', cnd_true, cnd_false, pick_true, pick_false, not_bool, bin_add, bin_sub, bin_mul, bin_eql, bin_neq, bin_lss, bin_leq, bin_gtr, bin_geq, ext0, ext1, ext2, lenS_mk, eqNil_none, eqNil_some, neNil_none, neNil_some, ret_k, mem, Nat.zero_add, Nat.add_zero, Nat.mul_one, drewV, Bool.not_true, Bool.not_false]
          refine ⟨?_, H2⟩
          unfold pend
          congr 4
          by_cases h8 : 8 ≤ M.us.length
          · rw [Nat.min_eq_left h8]
          · rw [Nat.min_eq_right (by omega), List.take_of_length_le (Nat.le_refl _), List.take_of_length_le (by omega)]
        · have hM : M.us = [] := List.length_eq_zero_iff.1 (by omega)
          have hm : min 8 M.us.length = 0 := by omega
          rw [hm]
          refine cal_h (idx_nil (a := .bool true) H1) ?_
          rintro e w2 ⟨rfl, H2⟩
          simp only [pv_some, nilO_ptr, faO_mk, gd_yes, gd_no, gd_yes', gd_no', cnd_true, cnd_false, pick_true, pick_false, not_bool, bin_add, bin_sub, bin_mul, bin_eql, bin_neq, bin_lss, bin_leq, bin_gtr, bin_geq, ext0, ext1, ext2, lenS_mk, eqNil_none, eqNil_some, neNil_none, neNil_some, ret_k, mem, Nat.zero_add, Nat.add_zero, Nat.mul_one, drewV, Bool.not_true, Bool.not_false]
          refine ⟨?_, H2⟩
          unfold pend; rw [hM]; rfl
      refine cal_h hcf ?_
      rintro e w2 ⟨rfl, H2⟩
      simp only [pv_some, nilO_ptr, faO_mk, gd_yes, gd_no, gd_yes', gd_no', cnd_true, cnd_false, pick_true, pick_false, not_bool, bin_add, bin_sub, bin_mul, bin_eql, bin_neq, bin_lss, bin_leq, bin_gtr, bin_geq, ext0, ext1, ext2, lenS_mk, eqNil_none, eqNil_some, neNil_none, neNil_some, ret_k, mem, Nat.zero_add, Nat.add_zero, Nat.mul_one, drewV, Bool.not_true, Bool.not_false]
      exact fin H2 (by simp [ha])
end
end Go.Proofs.Ytmnpndgmfmjfhaa.Den
