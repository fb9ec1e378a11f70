/- Links: acknowledge, the program's. Conditions: none. -/
import Derived.Test.YtmnpndgmfmjfhaaLkK
set_option linter.unusedVariables false
set_option linter.unusedSimpArgs false
set_option maxRecDepth 8000
namespace Go.Proofs.Ytmnpndgmfmjfhaa.Den
open Go Go.RowKit
def ackP (fm ff : Int) (u : UM) : Bool := if u.last then decide (fm = IntKind.i64.wrap (u.m + 1)) && decide (ff = 0) else decide (fm = u.m) && decide (ff = IntKind.i64.wrap (u.f + 1))
def lastDone (d : Int) (us : List UM) : Int := us.foldl (fun d u => if u.last then u.m else d) d
def ackM (M : LM) (fm ff : Int) : LM := match M.us.findIdx? (ackP fm ff) with
  | none => M
  | some i => match M.us[i]? with
    | none => M
    | some u => if u.at_ < 0 then M else { M with done := lastDone M.done (M.us.take (i + 1)), us := M.us.drop (i + 1), repeats := 0 }
theorem fIdx_find (p : UM → Bool) : ∀ (k : Nat) (us : List UM), fIdx p k us = match us.findIdx? p with | none => -1 | some i => ((k + i : Nat) : Int)
  | _, [] => rfl
  | k, u :: r => by
    rw [fIdx, List.findIdx?_cons]
    cases hp : p u with
    | true => simp
    | false =>
      simp only [Bool.false_eq_true, if_false]
      rw [fIdx_find p (k + 1) r]
      cases r.findIdx? p with
      | none => rfl
      | some i => simp only [Option.map_some]; congr 1; omega
section
variable {w w' : World} {w0 : Base} {F L : List Chunk} {R : ER}
theorem enter63 : enterOk Pg 63 = true := by kernel_rfl
theorem ack1_call {K : VK} {u : UM} {s : Value} {c j : Nat} {k m f : Int} {last : Bool} {t : Value} (H : Hp w0 w L) (hj : L[j]? = some ⟨c, 48, frm k last m f t⟩) (kk : ∀ w', Hp w0 w' L → K (.bool (ackP m f u)) w') :
    calD Pg R (.func (.func 63) ⟨[]⟩ ⟨[ptr c 0]⟩) ⟨[.agg ⟨ucell u s⟩]⟩ K w := by
  refine calD_fn (Q := fun e w' => e = .returned (.bool (ackP m f u)) ∧ Hp w0 w' L) enter63 ?_ ?_
  · apply links_Link_acknowledge_1_calls
    unfold links_Link_acknowledge_1
    refine bxa_h H fun w1 b H1 => ?_
    unfold links_Link_acknowledge_1_j2
    have hj1 : (⟨b, 101, ucell u s⟩ :: L)[j + 1]? = some ⟨c, 48, frm k last m f t⟩ := by simpa using hj
    simp only [pv_some, nilO_ptr, faO_mk, gd_yes, gd_no, gd_yes', gd_no', cnd_true, cnd_false, pick_true, pick_false, not_bool, bin_add, bin_sub, bin_mul, bin_eql, bin_neq, bin_lss, bin_leq, bin_gtr, bin_geq, ext0, ext1, ext2, lenS_mk, eqNil_none, eqNil_some, neNil_none, neNil_some, ret_k, mem, Nat.zero_add, Nat.add_zero, Nat.mul_one, drewV, Bool.not_true, Bool.not_false]
    refine ld_h H1 0 rfl rfl ?_
    unfold links_Link_acknowledge_1_j3 ackP
    cases hl : u.last with
    | true =>
      simp only [if_true]
      unfold links_Link_acknowledge_1_j4
      simp only [pv_some, nilO_ptr, faO_mk, gd_yes, gd_no, gd_yes', gd_no', cnd_true, cnd_false, pick_true, pick_false, not_bool, bin_add, bin_sub, bin_mul, bin_eql, bin_neq, bin_lss, bin_leq, bin_gtr, bin_geq, ext0, ext1, ext2, lenS_mk, eqNil_none, eqNil_some, neNil_none, neNil_some, ret_k, mem, Nat.zero_add, Nat.add_zero, Nat.mul_one, drewV, Bool.not_true, Bool.not_false]
      refine ld_h H1 (j + 1) hj1 rfl ?_
      refine ld_h H1 0 rfl rfl ?_
      simp only [pv_some, nilO_ptr, faO_mk, gd_yes, gd_no, gd_yes', gd_no', cnd_true, cnd_false, pick_true, pick_false, not_bool, bin_add, bin_sub, bin_mul, bin_eql, bin_neq, bin_lss, bin_leq, bin_gtr, bin_geq, ext0, ext1, ext2, lenS_mk, eqNil_none, eqNil_some, neNil_none, neNil_some, ret_k, mem, Nat.zero_add, Nat.add_zero, Nat.mul_one, drewV, Bool.not_true, Bool.not_false]
      by_cases h1 : m = IntKind.i64.wrap (u.m + 1)
      · simp only [decide_eq_true h1, pv_some, nilO_ptr, faO_mk, gd_yes, gd_no, gd_yes', gd_no', cnd_true, cnd_false, pick_true, pick_false, not_bool, bin_add, bin_sub, bin_mul, bin_eql, bin_neq, bin_lss, bin_leq, bin_gtr, bin_geq, ext0, ext1, ext2, lenS_mk, eqNil_none, eqNil_some, neNil_none, neNil_some, ret_k, mem, Nat.zero_add, Nat.add_zero, Nat.mul_one, drewV, Bool.not_true, Bool.not_false]
        refine ld_h H1 (j + 1) hj1 rfl ?_
        simp only [pv_some, nilO_ptr, faO_mk, gd_yes, gd_no, gd_yes', gd_no', cnd_true, cnd_false, pick_true, pick_false, not_bool, bin_add, bin_sub, bin_mul, bin_eql, bin_neq, bin_lss, bin_leq, bin_gtr, bin_geq, ext0, ext1, ext2, lenS_mk, eqNil_none, eqNil_some, neNil_none, neNil_some, ret_k, mem, Nat.zero_add, Nat.add_zero, Nat.mul_one, drewV, Bool.not_true, Bool.not_false]
        exact ⟨by simp, H1.tail⟩
      · simp only [decide_eq_false h1, pv_some, nilO_ptr, faO_mk, gd_yes, gd_no, gd_yes', gd_no', cnd_true, cnd_false, pick_true, pick_false, not_bool, bin_add, bin_sub, bin_mul, bin_eql, bin_neq, bin_lss, bin_leq, bin_gtr, bin_geq, ext0, ext1, ext2, lenS_mk, eqNil_none, eqNil_some, neNil_none, neNil_some, ret_k, mem, Nat.zero_add, Nat.add_zero, Nat.mul_one, drewV, Bool.not_true, Bool.not_false]
        exact ⟨by simp, H1.tail⟩
    | false =>
      simp only [Bool.false_eq_true, if_false]
      unfold links_Link_acknowledge_1_j1
      simp only [pv_some, nilO_ptr, faO_mk, gd_yes, gd_no, gd_yes', gd_no', cnd_true, cnd_false, pick_true, pick_false, not_bool, bin_add, bin_sub, bin_mul, bin_eql, bin_neq, bin_lss, bin_leq, bin_gtr, bin_geq, ext0, ext1, ext2, lenS_mk, eqNil_none, eqNil_some, neNil_none, neNil_some, ret_k, mem, Nat.zero_add, Nat.add_zero, Nat.mul_one, drewV, Bool.not_true, Bool.not_false]
      refine ld_h H1 (j + 1) hj1 rfl ?_
      refine ld_h H1 0 rfl rfl ?_
      simp only [pv_some, nilO_ptr, faO_mk, gd_yes, gd_no, gd_yes', gd_no', cnd_true, cnd_false, pick_true, pick_false, not_bool, bin_add, bin_sub, bin_mul, bin_eql, bin_neq, bin_lss, bin_leq, bin_gtr, bin_geq, ext0, ext1, ext2, lenS_mk, eqNil_none, eqNil_some, neNil_none, neNil_some, ret_k, mem, Nat.zero_add, Nat.add_zero, Nat.mul_one, drewV, Bool.not_true, Bool.not_false]
      by_cases h1 : m = u.m
      · simp only [decide_eq_true h1, pv_some, nilO_ptr, faO_mk, gd_yes, gd_no, gd_yes', gd_no', cnd_true, cnd_false, pick_true, pick_false, not_bool, bin_add, bin_sub, bin_mul, bin_eql, bin_neq, bin_lss, bin_leq, bin_gtr, bin_geq, ext0, ext1, ext2, lenS_mk, eqNil_none, eqNil_some, neNil_none, neNil_some, ret_k, mem, Nat.zero_add, Nat.add_zero, Nat.mul_one, drewV, Bool.not_true, Bool.not_false]
        refine ld_h H1 (j + 1) hj1 rfl ?_
        refine ld_h H1 0 rfl rfl ?_
        simp only [pv_some, nilO_ptr, faO_mk, gd_yes, gd_no, gd_yes', gd_no', cnd_true, cnd_false, pick_true, pick_false, not_bool, bin_add, bin_sub, bin_mul, bin_eql, bin_neq, bin_lss, bin_leq, bin_gtr, bin_geq, ext0, ext1, ext2, lenS_mk, eqNil_none, eqNil_some, neNil_none, neNil_some, ret_k, mem, Nat.zero_add, Nat.add_zero, Nat.mul_one, drewV, Bool.not_true, Bool.not_false]
        exact ⟨by simp, H1.tail⟩
      · simp only [decide_eq_false h1, pv_some, nilO_ptr, faO_mk, gd_yes, gd_no, gd_yes', gd_no', cnd_true, cnd_false, pick_true, pick_false, not_bool, bin_add, bin_sub, bin_mul, bin_eql, bin_neq, bin_lss, bin_leq, bin_gtr, bin_geq, ext0, ext1, ext2, lenS_mk, eqNil_none, eqNil_some, neNil_none, neNil_some, ret_k, mem, Nat.zero_add, Nat.add_zero, Nat.mul_one, drewV, Bool.not_true, Bool.not_false]
        exact ⟨by simp, H1.tail⟩
  · rintro e w' ⟨rfl, H'⟩
    exact kk w' H'
theorem ack_l {b bu cap n : Nat} {M : LM} {su sus sp sa : Value} {us : List UM} {sv rest : List Value} (hsv : sv.length = us.length) (hss : ∀ s ∈ sv, scalar s = true) (hn : n ≤ us.length) (hnb : n < 2 ^ 60) {x4 : Value}
    (kk : ∀ w', Hp w0 w' (⟨b, 96, lkc { M with done := lastDone M.done (us.take n) } su sus sp sa⟩ :: ⟨bu, 101, ucells us sv ++ rest⟩ :: F) → links_Link_acknowledge_j2 R (ptr b 0) x4 w') :
    ∀ (d i : Nat) (w : World), i + d = n → Hp w0 w (⟨b, 96, lkc { M with done := lastDone M.done (us.take i) } su sus sp sa⟩ :: ⟨bu, 101, ucells us sv ++ rest⟩ :: F) →
      links_Link_acknowledge_l1 R (d + 1) (ptr b 0) x4 (.slice (some ⟨bu, 0, none⟩) n cap) (I (n : Int)) (I (i : Int)) w := by
  intro d
  induction d with
  | zero =>
    intro i w hi H
    rw [links_Link_acknowledge_l1_succ]
    unfold links_Link_acknowledge_b1
    simp only [pv_some, nilO_ptr, faO_mk, gd_yes, gd_no, gd_yes', gd_no', cnd_true, cnd_false, pick_true, pick_false, not_bool, bin_add, bin_sub, bin_mul, bin_eql, bin_neq, bin_lss, bin_leq, bin_gtr, bin_geq, ext0, ext1, ext2, lenS_mk, eqNil_none, eqNil_some, neNil_none, neNil_some, ret_k, mem, Nat.zero_add, Nat.add_zero, Nat.mul_one, drewV, Bool.not_true, Bool.not_false, show decide ((i : Int) < (n : Int)) = false from decide_eq_false (by omega)]
    have : i = n := by omega
    subst this
    exact kk w H
  | succ d ih =>
    intro i w hi H
    rw [links_Link_acknowledge_l1_succ]
    unfold links_Link_acknowledge_b1 links_Link_acknowledge_j5 links_Link_acknowledge_j7
    simp only [pv_some, nilO_ptr, faO_mk, gd_yes, gd_no, gd_yes', gd_no', cnd_true, cnd_false, pick_true, pick_false, not_bool, bin_add, bin_sub, bin_mul, bin_eql, bin_neq, bin_lss, bin_leq, bin_gtr, bin_geq, ext0, ext1, ext2, lenS_mk, eqNil_none, eqNil_some, neNil_none, neNil_some, ret_k, mem, Nat.zero_add, Nat.add_zero, Nat.mul_one, drewV, Bool.not_true, Bool.not_false, show decide ((i : Int) < (n : Int)) = true from decide_eq_true (by omega)]
    rw [ixS_mk (by omega)]
    simp only [pv_some, nilO_ptr, faO_mk, gd_yes, gd_no, gd_yes', gd_no', cnd_true, cnd_false, pick_true, pick_false, not_bool, bin_add, bin_sub, bin_mul, bin_eql, bin_neq, bin_lss, bin_leq, bin_gtr, bin_geq, ext0, ext1, ext2, lenS_mk, eqNil_none, eqNil_some, neNil_none, neNil_some, ret_k, mem, Nat.zero_add, Nat.add_zero, Nat.mul_one, drewV, Bool.not_true, Bool.not_false]
    have hlt : i < us.length := by omega
    obtain ⟨u, hu⟩ : ∃ u, us[i]? = some u := ⟨_, List.getElem?_eq_getElem hlt⟩
    obtain ⟨s, hs⟩ : ∃ s, sv[i]? = some s := ⟨_, List.getElem?_eq_getElem (by omega)⟩
    have hlen := ucells_len hsv
    have hcell : ((ucells us sv ++ rest).drop (i * 6)).take 6 = ucell u s := by
      apply List.ext_getElem?
      intro m
      rw [List.getElem?_take]
      by_cases hm : m < 6
      · rw [if_pos hm, List.getElem?_drop, List.getElem?_append_left (by rw [hlen]; omega)]
        exact ucells_get hu hs hm
      · rw [if_neg hm, List.getElem?_eq_none (by simp [ucell]; omega)]
    refine ldN_blk (H.at (i := 1) rfl) (by rw [List.length_append, hlen]; omega) ?_
    rw [hcell]
    refine al_h H (z := [I 0, .bool false, I 0, I 0, .slice none 0 0, I 0]) (by kernel_rfl) fun w1 c H1 => ?_
    have hsc : scalar s = true := hss s (List.mem_of_getElem? hs)
    refine stA_h H1 0 rfl rfl rfl (by intro c hc; simp [ucell] at hc; rcases hc with rfl | rfl | rfl | rfl | rfl | rfl <;> first | rfl | exact hsc) fun w2 H2 => ?_
    simp only [pv_some, nilO_ptr, faO_mk, gd_yes, gd_no, gd_yes', gd_no', cnd_true, cnd_false, pick_true, pick_false, not_bool, bin_add, bin_sub, bin_mul, bin_eql, bin_neq, bin_lss, bin_leq, bin_gtr, bin_geq, ext0, ext1, ext2, lenS_mk, eqNil_none, eqNil_some, neNil_none, neNil_some, ret_k, mem, Nat.zero_add, Nat.add_zero, Nat.mul_one, drewV, Bool.not_true, Bool.not_false]
    refine ld_h H2 0 rfl rfl ?_
    have hd : lastDone M.done (us.take (i + 1)) = if u.last then u.m else lastDone M.done (us.take i) := by
      have : us.take (i + 1) = us.take i ++ [u] := by rw [List.take_add_one, hu]; rfl
      unfold lastDone
      rw [this, List.foldl_append]; rfl
    have next : ∀ {w : World}, Hp w0 w (⟨b, 96, lkc { M with done := lastDone M.done (us.take (i + 1)) } su sus sp sa⟩ :: ⟨bu, 101, ucells us sv ++ rest⟩ :: F) → links_Link_acknowledge_j6 R (links_Link_acknowledge_l1 R (d + 1)) (ptr b 0) x4 (.slice (some ⟨bu, 0, none⟩) n cap) (I (n : Int)) (I (i : Int)) w := by
      intro w H
      unfold links_Link_acknowledge_j6
      simp only [pv_some, nilO_ptr, faO_mk, gd_yes, gd_no, gd_yes', gd_no', cnd_true, cnd_false, pick_true, pick_false, not_bool, bin_add, bin_sub, bin_mul, bin_eql, bin_neq, bin_lss, bin_leq, bin_gtr, bin_geq, ext0, ext1, ext2, lenS_mk, eqNil_none, eqNil_some, neNil_none, neNil_some, ret_k, mem, Nat.zero_add, Nat.add_zero, Nat.mul_one, drewV, Bool.not_true, Bool.not_false]
      rw [wrap64_id (by omega) (by omega), show (i : Int) + 1 = ((i + 1 : Nat) : Int) from by omega]
      exact ih (i + 1) w (by omega) H
    cases hl : u.last with
    | true =>
      rw [hl] at hd
      simp only [pv_some, nilO_ptr, faO_mk, gd_yes, gd_no, gd_yes', gd_no', cnd_true, cnd_false, pick_true, pick_false, not_bool, bin_add, bin_sub, bin_mul, bin_eql, bin_neq, bin_lss, bin_leq, bin_gtr, bin_geq, ext0, ext1, ext2, lenS_mk, eqNil_none, eqNil_some, neNil_none, neNil_some, ret_k, mem, Nat.zero_add, Nat.add_zero, Nat.mul_one, drewV, Bool.not_true, Bool.not_false]
      refine ld_h H2 0 rfl rfl ?_
      refine st_h H2 1 rfl (by simp [lkc]) rfl fun w3 H3 => ?_
      refine next ?_
      rw [hd]
      exact H3.tail
    | false =>
      rw [hl] at hd
      simp only [pv_some, nilO_ptr, faO_mk, gd_yes, gd_no, gd_yes', gd_no', cnd_true, cnd_false, pick_true, pick_false, not_bool, bin_add, bin_sub, bin_mul, bin_eql, bin_neq, bin_lss, bin_leq, bin_gtr, bin_geq, ext0, ext1, ext2, lenS_mk, eqNil_none, eqNil_some, neNil_none, neNil_some, ret_k, mem, Nat.zero_add, Nat.add_zero, Nat.mul_one, drewV, Bool.not_true, Bool.not_false]
      refine next ?_
      rw [hd]
      exact H2.tail
theorem find_lt {p : UM → Bool} {us : List UM} {i : Nat} (h : us.findIdx? p = some i) : i < us.length := by
  rw [List.findIdx?_eq_some_iff_getElem] at h
  exact h.1
theorem sv_sc {tu ta : Nat} {M : LM} {su sus sp sa : Value} {cu cus cp ca D : List Chunk} {sv : List Value} (h : LkP tu ta w0 M su sus sp sa cu cus cp ca D sv) : ∀ s ∈ sv, scalar s = true := by
  intro s hs
  obtain ⟨i, hi, rfl⟩ := List.getElem_of_mem hs
  have hlt : i < M.us.length := by rw [← h.svl]; exact hi
  exact (h.dat i _ _ (List.getElem?_eq_getElem hlt) (List.getElem?_eq_getElem hi)).2.2
def AckPost (w0 : Base) (F : List Chunk) (Lkx : Base → Nat → LM → List Chunk → Prop) (b : Nat) (M' : LM) : ER := fun e w' => ∃ L', e = .returned (.tuple ⟨[]⟩) ∧ Hp w0 w' (L' ++ F) ∧ Lkx w0 b M' L'
theorem acknowledge_spec {b : Nat} {M : LM} {k m f : Int} {last : Bool} {t : Value} (H : Hp w0 w (L ++ F)) (hL : Lk w0 b M L) (hul : M.us.length < 2 ^ 40) :
    Calls Pg 47 ⟨[ptr b 0, .agg ⟨frm k last m f t⟩]⟩ w (AckPost w0 F Lk b (ackM M m f)) := by
  obtain ⟨su, sus, sp, sa, cu, cus, cp, ca, D, sv, hlk, rfl⟩ := hL
  have same : ∀ {w' : World}, Hp w0 w' (⟨b, 96, lkc M su sus sp sa⟩ :: (cus ++ (cu ++ (cp ++ (ca ++ (D ++ F)))))) → ackM M m f = M → AckPost w0 F Lk b (ackM M m f) (.returned (.tuple ⟨[]⟩)) w' := by
    intro w' H' he
    rw [he]
    exact ⟨⟨b, 96, lkc M su sus sp sa⟩ :: (cu ++ (cus ++ (cp ++ (ca ++ D)))), rfl, H'.to (by intro f; simp only [I, U8, U64, ptr, List.set_cons_zero, List.set_cons_succ, List.eraseIdx_cons_zero, List.eraseIdx_cons_succ, List.map_append, List.map_cons, List.map_nil, List.sum_append, List.sum_cons, List.sum_nil]; omega), _, _, _, _, _, _, _, _, _, _, hlk, rfl⟩
  have H0 : Hp w0 w (⟨b, 96, lkc M su sus sp sa⟩ :: (cus ++ (cu ++ (cp ++ (ca ++ (D ++ F)))))) := H.to (by intro f; simp only [I, U8, U64, ptr, List.set_cons_zero, List.set_cons_succ, List.eraseIdx_cons_zero, List.eraseIdx_cons_succ, List.map_append, List.map_cons, List.map_nil, List.sum_append, List.sum_cons, List.sum_nil]; omega)
  apply links_Link_acknowledge_calls
  unfold links_Link_acknowledge
  refine bxa_h H0 fun w1 c H1 => ?_
  simp only [pv_some, nilO_ptr, faO_mk, gd_yes, gd_no, gd_yes', gd_no', cnd_true, cnd_false, pick_true, pick_false, not_bool, bin_add, bin_sub, bin_mul, bin_eql, bin_neq, bin_lss, bin_leq, bin_gtr, bin_geq, ext0, ext1, ext2, lenS_mk, eqNil_none, eqNil_some, neNil_none, neNil_some, ret_k, mem, Nat.zero_add, Nat.add_zero, Nat.mul_one, drewV, Bool.not_true, Bool.not_false]
  refine ld_h H1 1 rfl rfl ?_
  have hss := sv_sc hlk
  rcases hlk.us with ⟨rfl, ⟨a, rfl⟩, h0, h00⟩ | ⟨bu, cap, rest, rfl, rfl, h1, h2, h3⟩
  · refine cal_h (idx_nil (a := .bool true) H1) ?_
    rintro e w2 ⟨rfl, H2⟩
    unfold links_Link_acknowledge_j8
    simp only [show decide ((-1 : Int) < 0) = true from rfl, pv_some, nilO_ptr, faO_mk, gd_yes, gd_no, gd_yes', gd_no', cnd_true, cnd_false, pick_true, pick_false, not_bool, bin_add, bin_sub, bin_mul, bin_eql, bin_neq, bin_lss, bin_leq, bin_gtr, bin_geq, ext0, ext1, ext2, lenS_mk, eqNil_none, eqNil_some, neNil_none, neNil_some, ret_k, mem, Nat.zero_add, Nat.add_zero, Nat.mul_one, drewV, Bool.not_true, Bool.not_false]
    have hus : M.us = [] := List.length_eq_zero_iff.1 h0
    refine same H2.tail ?_
    unfold ackM; rw [hus]; rfl
  · refine cal_h (idx_spec (j := 2) (us := M.us) (sv := sv) (rest := rest) (p := ackP m f) H1 rfl hlk.svl (by omega) (by omega) (fun H k => ack1_call (j := 0) H rfl k)) ?_
    rintro e w2 ⟨rfl, H2⟩
    rw [List.take_length, fIdx_find]
    cases hf : M.us.findIdx? (ackP m f) with
    | none =>
      unfold links_Link_acknowledge_j8
      simp only [show decide ((-1 : Int) < 0) = true from rfl, pv_some, nilO_ptr, faO_mk, gd_yes, gd_no, gd_yes', gd_no', cnd_true, cnd_false, pick_true, pick_false, not_bool, bin_add, bin_sub, bin_mul, bin_eql, bin_neq, bin_lss, bin_leq, bin_gtr, bin_geq, ext0, ext1, ext2, lenS_mk, eqNil_none, eqNil_some, neNil_none, neNil_some, ret_k, mem, Nat.zero_add, Nat.add_zero, Nat.mul_one, drewV, Bool.not_true, Bool.not_false]
      refine same H2.tail ?_
      unfold ackM; rw [hf]
    | some i =>
      simp only [Nat.zero_add]
      have hi := find_lt hf
      obtain ⟨u, hu⟩ : ∃ u, M.us[i]? = some u := ⟨_, List.getElem?_eq_getElem hi⟩
      obtain ⟨s, hs⟩ : ∃ s, sv[i]? = some s := ⟨_, List.getElem?_eq_getElem (by rw [hlk.svl]; exact hi)⟩
      unfold links_Link_acknowledge_j8
      simp only [decide_eq_false (show ¬ ((i : Int) < 0) from by omega), pv_some, nilO_ptr, faO_mk, gd_yes, gd_no, gd_yes', gd_no', cnd_true, cnd_false, pick_true, pick_false, not_bool, bin_add, bin_sub, bin_mul, bin_eql, bin_neq, bin_lss, bin_leq, bin_gtr, bin_geq, ext0, ext1, ext2, lenS_mk, eqNil_none, eqNil_some, neNil_none, neNil_some, ret_k, mem, Nat.zero_add, Nat.add_zero, Nat.mul_one, drewV, Bool.not_true, Bool.not_false]
      refine ld_h H2 1 rfl rfl ?_
      rw [ixS_mk hi]
      simp only [pv_some, nilO_ptr, faO_mk, gd_yes, gd_no, gd_yes', gd_no', cnd_true, cnd_false, pick_true, pick_false, not_bool, bin_add, bin_sub, bin_mul, bin_eql, bin_neq, bin_lss, bin_leq, bin_gtr, bin_geq, ext0, ext1, ext2, lenS_mk, eqNil_none, eqNil_some, neNil_none, neNil_some, ret_k, mem, Nat.zero_add, Nat.add_zero, Nat.mul_one, drewV, Bool.not_true, Bool.not_false]
      refine ld_h H2 2 rfl (get_left (by have := ucells_get hu hs (j := 5) (by omega); simpa [ucell] using this)) ?_
      simp only [pv_some, nilO_ptr, faO_mk, gd_yes, gd_no, gd_yes', gd_no', cnd_true, cnd_false, pick_true, pick_false, not_bool, bin_add, bin_sub, bin_mul, bin_eql, bin_neq, bin_lss, bin_leq, bin_gtr, bin_geq, ext0, ext1, ext2, lenS_mk, eqNil_none, eqNil_some, neNil_none, neNil_some, ret_k, mem, Nat.zero_add, Nat.add_zero, Nat.mul_one, drewV, Bool.not_true, Bool.not_false]
      refine cnd_decide (fun hat => ?_) (fun hat => ?_)
      · refine same H2.tail ?_
        unfold ackM; rw [hf]; simp only [hu]; rw [if_pos hat]
      have hM : ackM M m f = { M with done := lastDone M.done (M.us.take (i + 1)), us := M.us.drop (i + 1), repeats := 0 } := by
        unfold ackM; rw [hf]; simp only [hu]; rw [if_neg hat]
      unfold links_Link_acknowledge_j1 links_Link_acknowledge_j3
      simp only [pv_some, nilO_ptr, faO_mk, gd_yes, gd_no, gd_yes', gd_no', cnd_true, cnd_false, pick_true, pick_false, not_bool, bin_add, bin_sub, bin_mul, bin_eql, bin_neq, bin_lss, bin_leq, bin_gtr, bin_geq, ext0, ext1, ext2, lenS_mk, eqNil_none, eqNil_some, neNil_none, neNil_some, ret_k, mem, Nat.zero_add, Nat.add_zero, Nat.mul_one, drewV, Bool.not_true, Bool.not_false]
      refine ld_h H2 1 rfl rfl ?_
      have ea : (i : Int) + 1 = ((i + 1 : Nat) : Int) := by omega
      rw [wrap64_id (by omega) (by omega), ea, slK_to (by omega)]
      simp only [pv_some, nilO_ptr, faO_mk, gd_yes, gd_no, gd_yes', gd_no', cnd_true, cnd_false, pick_true, pick_false, not_bool, bin_add, bin_sub, bin_mul, bin_eql, bin_neq, bin_lss, bin_leq, bin_gtr, bin_geq, ext0, ext1, ext2, lenS_mk, eqNil_none, eqNil_some, neNil_none, neNil_some, ret_k, mem, Nat.zero_add, Nat.add_zero, Nat.mul_one, drewV, Bool.not_true, Bool.not_false]
      unfold links_Link_acknowledge_j4
      refine ⟨i + 1 + 1, ?_⟩
      have H2' : Hp w0 w2 (⟨b, 96, lkc { M with done := lastDone M.done (M.us.take 0) } su (.slice (some ⟨bu, 0, none⟩) M.us.length cap) sp sa⟩ :: ⟨bu, 101, ucells M.us sv ++ rest⟩ :: (cu ++ (cp ++ (ca ++ (D ++ F))))) := H2.tail
      refine ack_l (n := i + 1) hlk.svl hss (by omega) (by omega) (fun w3 H3 => ?_) (i + 1) 0 w2 (by omega) H2'
      unfold links_Link_acknowledge_j2
      simp only [pv_some, nilO_ptr, faO_mk, gd_yes, gd_no, gd_yes', gd_no', cnd_true, cnd_false, pick_true, pick_false, not_bool, bin_add, bin_sub, bin_mul, bin_eql, bin_neq, bin_lss, bin_leq, bin_gtr, bin_geq, ext0, ext1, ext2, lenS_mk, eqNil_none, eqNil_some, neNil_none, neNil_some, ret_k, mem, Nat.zero_add, Nat.add_zero, Nat.mul_one, drewV, Bool.not_true, Bool.not_false]
      refine ld_h H3 0 rfl rfl ?_
      rw [wrap64_id (by omega) (by omega), ea]
      have H3' := H3.rot1
      refine cal_h (Delete_spec (i := i) H3' hlk.svl hss rfl h2 h3 hi) ?_
      rintro e w4 ⟨rest', rfl, hr', H4⟩
      have H4' := H4.rot1
      simp only [pv_some, nilO_ptr, faO_mk, gd_yes, gd_no, gd_yes', gd_no', cnd_true, cnd_false, pick_true, pick_false, not_bool, bin_add, bin_sub, bin_mul, bin_eql, bin_neq, bin_lss, bin_leq, bin_gtr, bin_geq, ext0, ext1, ext2, lenS_mk, eqNil_none, eqNil_some, neNil_none, neNil_some, ret_k, mem, Nat.zero_add, Nat.add_zero, Nat.mul_one, drewV, Bool.not_true, Bool.not_false]
      refine st_h H4' 0 rfl (by simp [lkc]) rfl fun w5 H5 => ?_
      try simp only [pv_some, nilO_ptr, faO_mk, gd_yes, gd_no, gd_yes', gd_no', cnd_true, cnd_false, pick_true, pick_false, not_bool, bin_add, bin_sub, bin_mul, bin_eql, bin_neq, bin_lss, bin_leq, bin_gtr, bin_geq, ext0, ext1, ext2, lenS_mk, eqNil_none, eqNil_some, neNil_none, neNil_some, ret_k, mem, Nat.zero_add, Nat.add_zero, Nat.mul_one, drewV, Bool.not_true, Bool.not_false]
      refine st_h H5 0 rfl (by simp [lkc]) rfl fun w6 H6 => ?_
      rw [hM]
      have H6' : Hp w0 w6 (⟨b, 96, lkc { M with done := lastDone M.done (M.us.take (i + 1)), us := M.us.drop (i + 1), repeats := 0 } su (.slice (some ⟨bu, 0, none⟩) (M.us.length - (i + 1)) cap) sp sa⟩ :: ⟨bu, 101, ucells (M.us.drop (i + 1)) (sv.drop (i + 1)) ++ rest'⟩ :: (cu ++ (cp ++ (ca ++ (D ++ F))))) := H6
      refine ⟨⟨b, 96, lkc { M with done := lastDone M.done (M.us.take (i + 1)), us := M.us.drop (i + 1), repeats := 0 } su (.slice (some ⟨bu, 0, none⟩) (M.us.length - (i + 1)) cap) sp sa⟩ :: (cu ++ ([⟨bu, 101, ucells (M.us.drop (i + 1)) (sv.drop (i + 1)) ++ rest'⟩] ++ (cp ++ (ca ++ D)))), rfl, H6'.to (by intro f; simp only [I, U8, U64, ptr, List.set_cons_zero, List.set_cons_succ, List.eraseIdx_cons_zero, List.eraseIdx_cons_succ, List.map_append, List.map_cons, List.map_nil, List.sum_append, List.sum_cons, List.sum_nil]; omega), su, _, sp, sa, cu, _, cp, ca, D, sv.drop (i + 1), ?_, rfl⟩
      refine ⟨hlk.up, ?_, by simp [hlk.svl], ?_, hlk.part, hlk.acks⟩
      · refine .inr ⟨bu, cap, rest', rfl, by simp, ?_, by simp; omega, by simpa using hr'⟩
        rw [ucells_len (by simp [hlk.svl])]
      · intro j u' s' hu' hs'
        simp only [List.getElem?_drop] at hu' hs'
        exact hlk.dat _ u' s' hu' hs'
end
end Go.Proofs.Ytmnpndgmfmjfhaa.Den
