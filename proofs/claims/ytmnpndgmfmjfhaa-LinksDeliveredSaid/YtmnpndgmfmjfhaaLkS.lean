/- Links: Output, whole. Conditions: none. -/
import Derived.Test.YtmnpndgmfmjfhaaLkR
set_option linter.unusedVariables false
set_option linter.unusedSimpArgs false
set_option maxRecDepth 8000
namespace Go.Proofs.Ytmnpndgmfmjfhaa.Den
open Go Go.RowKit
section
variable {w w' : World} {w0 : Base} {F L : List Chunk} {R : ER}
theorem iv_ne {ws : List Int} (h : ws ≠ []) : 0 < ws.length := by
  cases ws with
  | nil => exact absurd rfl h
  | cons a l => simp
/-- Behind the acknowledgments. -/
theorem out_j5 {b : Nat} {M : LM} {now : Int} {again : Bool} {su sus sp sw s : Value} {cu cus cp ca D cw co Db : List Chunk} {sv sv2 : List Value} {ws : List Int} {os : List OM} (hlk : LkP 101 107 w0 M su sus sp (.slice none 0 0) cu cus cp [] D sv) (hwf : Wf M)
    (hsu : Sl 3 1 sw ws.length (iv ws) cw) (hws : 0 < ws.length) (hws8 : ws.length ≤ 8) (hos : os.length < 134217728) (hP : OutP 90 w0 s os co Db sv2) (hrep : M.repeats ≤ 6)
    (H : Hp w0 w (co ++ (Db ++ (⟨b, 96, lkc M su sus sp (.slice none 0 0)⟩ :: (cus ++ (cu ++ (cp ++ (cw ++ (D ++ F)))))))))
    (hq : ∀ w' s' co' Db' sv2' cus' , OutP 90 w0 s' (os ++ (outUs again now M.quality ws 8 M.turn M.us).1) co' Db' sv2' →
      LkP 101 107 w0 { M with repeats := if again then M.repeats + 1 else M.repeats, us := (outUs again now M.quality ws 8 M.turn M.us).2.1, turn := (outUs again now M.quality ws 8 M.turn M.us).2.2 } su sus sp (.slice none 0 0) cu cus' cp [] D sv →
      Hp w0 w' (co' ++ (Db' ++ (⟨b, 96, lkc { M with repeats := if again then M.repeats + 1 else M.repeats, us := (outUs again now M.quality ws 8 M.turn M.us).2.1, turn := (outUs again now M.quality ws 8 M.turn M.us).2.2 } su sus sp (.slice none 0 0)⟩ :: (cus' ++ (cu ++ (cp ++ (cw ++ (D ++ F)))))))) →
      R (.returned (.tuple ⟨[s', I 0]⟩)) w') : links_Link_Output_j5 R (ptr b 0) (I now) sw (.bool again) s w := by
  have hrw : IntKind.i64.wrap (M.repeats + 1) = M.repeats + 1 := wrap64_id (by have := hwf.rep; omega) (by omega)
  -- the loop
  have fin : ∀ {w : World} {M1 : LM}, M1 = { M with repeats := if again then M.repeats + 1 else M.repeats } → Hp w0 w (⟨b, 96, lkc M1 su sus sp (.slice none 0 0)⟩ :: (co ++ (Db ++ (cus ++ (cu ++ (cp ++ (cw ++ (D ++ F)))))))) → links_Link_Output_j6 R (ptr b 0) (I now) sw (.bool again) s w := by
    intro w M1 hM1 H
    subst hM1
    unfold links_Link_Output_j6 links_Link_Output_j8 links_Link_Output_j9
    simp only [pv_some, nilO_ptr, faO_mk, gd_yes, gd_no, gd_yes', gd_no', cnd_true, cnd_false, pick_true, pick_false, not_bool, bin_add, bin_sub, bin_mul, bin_eql, bin_neq, bin_lss, bin_leq, bin_gtr, bin_geq, ext0, ext1, ext2, lenS_mk, eqNil_none, eqNil_some, neNil_none, neNil_some, ret_k, mem, Nat.zero_add, Nat.add_zero, Nat.mul_one, drewV, Bool.not_true, Bool.not_false]
    refine ld_h H 0 rfl rfl ?_
    have e8 : min2I (.int .i64 8) (I ((M.us.length : Nat) : Int)) = some (I ((min 8 M.us.length : Nat) : Int)) := min2I_nat 8 _
    simp only [lenS_sl hlk.us, e8, pv_some, nilO_ptr, faO_mk, gd_yes, gd_no, gd_yes', gd_no', cnd_true, cnd_false, pick_true, pick_false, not_bool, bin_add, bin_sub, bin_mul, bin_eql, bin_neq, bin_lss, bin_leq, bin_gtr, bin_geq, ext0, ext1, ext2, lenS_mk, eqNil_none, eqNil_some, neNil_none, neNil_some, ret_k, mem, Nat.zero_add, Nat.add_zero, Nat.mul_one, drewV, Bool.not_true, Bool.not_false]
    refine ⟨min 8 M.us.length + 1, ?_⟩
    by_cases hul : 0 < M.us.length
    · obtain ⟨bu, cap, rest, rfl, rfl, g1, g2, g3⟩ := hlk.us.chunk hul
      have hul2 := hwf.ul
      have H' : Hp w0 w (co ++ (Db ++ (⟨b, 96, lkc { M with repeats := if again then M.repeats + 1 else M.repeats } su (.slice (some ⟨bu, 0, none⟩) M.us.length cap) sp (.slice none 0 0)⟩ :: ⟨bu, 101, ucells M.us sv ++ rest⟩ :: (cu ++ (cp ++ (cw ++ (D ++ F))))))) := H.to (by intro f; simp only [I, U8, U64, ptr, List.set_cons_zero, List.set_cons_succ, List.eraseIdx_cons_zero, List.eraseIdx_cons_succ, List.map_append, List.map_cons, List.map_nil, List.sum_append, List.sum_cons, List.sum_nil]; omega)
      refine out_units (cu := cu) (cw := cw) (b := b) (bu := bu) (cap := cap) (k := min 8 M.us.length) (M0 := { M with repeats := if again then M.repeats + 1 else M.repeats }) (su := su) (sp := sp) (sx := .slice none 0 0) (D := D) (G := cu ++ (cp ++ (cw ++ (D ++ F)))) (sv := sv) (rest := rest) (N := M.us.length)
        hsu (fun c hc => by simp [hc]) (fun c hc => by simp [hc]) hws (by omega) (by omega) hlk.svl (by omega) (by omega) (min 8 M.us.length) 0 w [] M.us M.turn os s co Db sv2 (by omega) rfl rfl hwf.turn.1 (by have := hwf.turn.2; omega) (by omega) hlk.dat hP H' ?_
      intro w' s' co' Db' sv2' h1 h2 h3 h4
      simp only [List.nil_append] at h1 h2 h3 h4
      rw [outUs_min] at h1 h2 h3 h4
      refine hq w' s' co' Db' sv2' [⟨bu, 101, ucells (outUs again now M.quality ws 8 M.turn M.us).2.1 sv ++ rest⟩] h1 ⟨hlk.up, ?_, by rw [h3, hlk.svl], h2, hlk.part, hlk.acks⟩ h4
      refine .inr ⟨bu, cap, rest, rfl, ?_, ?_, ?_, ?_⟩
      · show Value.slice _ _ _ = Value.slice _ (outUs again now M.quality ws 8 M.turn M.us).2.1.length _
        rw [h3]
      · show (ucells (outUs again now M.quality ws 8 M.turn M.us).2.1 sv).length = _
        rw [ucells_len (by rw [hlk.svl]; exact h3.symm)]
      · show (outUs again now M.quality ws 8 M.turn M.us).2.1.length ≤ cap; rw [h3]; exact g2
      · show rest.length = (cap - (outUs again now M.quality ws 8 M.turn M.us).2.1.length) * 6; rw [h3]; exact g3
    · have hM : M.us = [] := List.length_eq_zero_iff.1 (by omega)
      have hm0 : min 8 M.us.length = 0 := by omega
      rw [hm0]
      show links_Link_Output_l2 R (0 + 1) _ _ _ _ _ _ _ w
      rw [links_Link_Output_l2_succ]
      unfold links_Link_Output_b1 links_Link_Output_j7
      simp only [pv_some, nilO_ptr, faO_mk, gd_yes, gd_no, gd_yes', gd_no', cnd_true, cnd_false, pick_true, pick_false, not_bool, bin_add, bin_sub, bin_mul, bin_eql, bin_neq, bin_lss, bin_leq, bin_gtr, bin_geq, ext0, ext1, ext2, lenS_mk, eqNil_none, eqNil_some, neNil_none, neNil_some, ret_k, mem, Nat.zero_add, Nat.add_zero, Nat.mul_one, drewV, Bool.not_true, Bool.not_false, show decide ((0 : Int) < ((0 : Nat) : Int)) = false from rfl]
      have e : outUs again now M.quality ws 8 M.turn M.us = ([], [], M.turn) := by rw [hM]; rfl
      rw [e] at hq
      refine hq w s co Db sv2 cus (by simpa using hP) ⟨hlk.up, ?_, ?_, ?_, hlk.part, hlk.acks⟩ ?_
      · have := hlk.us; rw [hM] at this; exact this
      · have := hlk.svl; rw [hM] at this; exact this
      · intro i u s h; simp at h
      · have hc : lkc { M with repeats := if again then M.repeats + 1 else M.repeats, us := [], turn := M.turn } su sus sp (.slice none 0 0) = lkc { M with repeats := if again then M.repeats + 1 else M.repeats } su sus sp (.slice none 0 0) := rfl
        rw [hc]
        exact H.to (by intro f; simp only [I, U8, U64, ptr, List.set_cons_zero, List.set_cons_succ, List.eraseIdx_cons_zero, List.eraseIdx_cons_succ, List.map_append, List.map_cons, List.map_nil, List.sum_append, List.sum_cons, List.sum_nil]; omega)
  unfold links_Link_Output_j5
  have H1 : Hp w0 w (⟨b, 96, lkc M su sus sp (.slice none 0 0)⟩ :: (co ++ (Db ++ (cus ++ (cu ++ (cp ++ (cw ++ (D ++ F)))))))) := H.to (by intro f; simp only [I, U8, U64, ptr, List.set_cons_zero, List.set_cons_succ, List.eraseIdx_cons_zero, List.eraseIdx_cons_succ, List.map_append, List.map_cons, List.map_nil, List.sum_append, List.sum_cons, List.sum_nil]; omega)
  cases ha : again with
  | true =>
    rw [ha] at fin
    simp only [pv_some, nilO_ptr, faO_mk, gd_yes, gd_no, gd_yes', gd_no', cnd_true, cnd_false, pick_true, pick_false, not_bool, bin_add, bin_sub, bin_mul, bin_eql, bin_neq, bin_lss, bin_leq, bin_gtr, bin_geq, ext0, ext1, ext2, lenS_mk, eqNil_none, eqNil_some, neNil_none, neNil_some, ret_k, mem, Nat.zero_add, Nat.add_zero, Nat.mul_one, drewV, Bool.not_true, Bool.not_false]
    refine ld_h H1 0 rfl rfl ?_
    simp only [pv_some, nilO_ptr, faO_mk, gd_yes, gd_no, gd_yes', gd_no', cnd_true, cnd_false, pick_true, pick_false, not_bool, bin_add, bin_sub, bin_mul, bin_eql, bin_neq, bin_lss, bin_leq, bin_gtr, bin_geq, ext0, ext1, ext2, lenS_mk, eqNil_none, eqNil_some, neNil_none, neNil_some, ret_k, mem, Nat.zero_add, Nat.add_zero, Nat.mul_one, drewV, Bool.not_true, Bool.not_false]
    refine st_h H1 0 rfl (by simp [lkc]) rfl fun w2 H2 => ?_
    rw [hrw] at H2
    exact fin rfl H2
  | false =>
    rw [ha] at fin
    simp only [pv_some, nilO_ptr, faO_mk, gd_yes, gd_no, gd_yes', gd_no', cnd_true, cnd_false, pick_true, pick_false, not_bool, bin_add, bin_sub, bin_mul, bin_eql, bin_neq, bin_lss, bin_leq, bin_gtr, bin_geq, ext0, ext1, ext2, lenS_mk, eqNil_none, eqNil_some, neNil_none, neNil_some, ret_k, mem, Nat.zero_add, Nat.add_zero, Nat.mul_one, drewV, Bool.not_true, Bool.not_false]
    exact fin rfl H1
set_option maxHeartbeats 800000 in
theorem Output_spec {b : Nat} {M : LM} {now : Int} (H : Hp w0 w (L ++ F)) (hL : Lk w0 b M L) (hwf : Wf M) : Calls Pg 14 ⟨[ptr b 0, I now]⟩ w (OutPost w0 F Lk 90 b M now) := by
  obtain ⟨su, sus, sp, sa, cu, cus, cp, ca, D, sv, hlk, rfl⟩ := hL
  have H0 : Hp w0 w (⟨b, 96, lkc M su sus sp sa⟩ :: (cus ++ (cu ++ (cp ++ (ca ++ (D ++ F)))))) := H.to (by intro f; simp only [I, U8, U64, ptr, List.set_cons_zero, List.set_cons_succ, List.eraseIdx_cons_zero, List.eraseIdx_cons_succ, List.map_append, List.map_cons, List.map_nil, List.sum_append, List.sum_cons, List.sum_nil]; omega)
  apply links_Link_Output_calls
  unfold links_Link_Output links_Link_Output_j1
  simp only [pv_some, nilO_ptr, faO_mk, gd_yes, gd_no, gd_yes', gd_no', cnd_true, cnd_false, pick_true, pick_false, not_bool, bin_add, bin_sub, bin_mul, bin_eql, bin_neq, bin_lss, bin_leq, bin_gtr, bin_geq, ext0, ext1, ext2, lenS_mk, eqNil_none, eqNil_some, neNil_none, neNil_some, ret_k, mem, Nat.zero_add, Nat.add_zero, Nat.mul_one, drewV, Bool.not_true, Bool.not_false]
  refine cal_h (time_spec (now := now) H0) ?_
  rintro e w1 ⟨rfl, rfl⟩
  simp only [pv_some, nilO_ptr, faO_mk, gd_yes, gd_no, gd_yes', gd_no', cnd_true, cnd_false, pick_true, pick_false, not_bool, bin_add, bin_sub, bin_mul, bin_eql, bin_neq, bin_lss, bin_leq, bin_gtr, bin_geq, ext0, ext1, ext2, lenS_mk, eqNil_none, eqNil_some, neNil_none, neNil_some, ret_k, mem, Nat.zero_add, Nat.add_zero, Nat.mul_one, drewV, Bool.not_true, Bool.not_false]
  refine cnd_decide (fun h => ?_) (fun h => ?_)
  · refine ⟨.slice none 0 0, [], [], [], _, ?_, H0.to (L' := [] ++ ([] ++ ((⟨b, 96, lkc M su sus sp sa⟩ :: (cu ++ (cus ++ (cp ++ (ca ++ D))))) ++ F))) (by intro f; simp only [I, U8, U64, ptr, List.set_cons_zero, List.set_cons_succ, List.eraseIdx_cons_zero, List.eraseIdx_cons_succ, List.map_append, List.map_cons, List.map_nil, List.sum_append, List.sum_cons, List.sum_nil]; omega), ?_, ?_⟩
    · unfold outE; rw [if_pos h]
    · have : outV M now = [] := by unfold outV; rw [if_pos]; unfold outE; rw [if_pos h]; exact h
      rw [this]; exact OutP.nil
    · unfold outM; rw [if_pos h]; exact ⟨_, _, _, _, _, _, _, _, _, _, hlk, rfl⟩
  have ht : timeE M now = 0 := by simpa using h
  have hnow : 0 ≤ now ∧ now ≤ 1099511627776 := by
    unfold timeE at ht
    by_cases hn : now < 0 ∨ 1099511627776 < now
    · rw [if_pos hn] at ht; exact absurd ht (by decide)
    · omega
  unfold links_Link_Output_j2
  refine cal_h (usable_spec (b := b) H0 hlk.up (fun c hc => by simp [hc]) (by have := hwf.up8; omega)) ?_
  rintro e w2 ⟨sw, cw, rfl, H2, hsw⟩
  have H3 : Hp w0 w2.drew (⟨b, 96, lkc M su sus sp sa⟩ :: (cw ++ (cus ++ (cu ++ (cp ++ (ca ++ (D ++ F))))))) := H2.drew.to (by intro f; simp only [I, U8, U64, ptr, List.set_cons_zero, List.set_cons_succ, List.eraseIdx_cons_zero, List.eraseIdx_cons_succ, List.map_append, List.map_cons, List.map_nil, List.sum_append, List.sum_cons, List.sum_nil]; omega)
  simp only [pv_some, nilO_ptr, faO_mk, gd_yes, gd_no, gd_yes', gd_no', cnd_true, cnd_false, pick_true, pick_false, not_bool, bin_add, bin_sub, bin_mul, bin_eql, bin_neq, bin_lss, bin_leq, bin_gtr, bin_geq, ext0, ext1, ext2, lenS_mk, eqNil_none, eqNil_some, neNil_none, neNil_some, ret_k, mem, Nat.zero_add, Nat.add_zero, Nat.mul_one, drewV, Bool.not_true, Bool.not_false]
  -- again
  have hag : ∀ {G : Value → WP}, G (.bool (againB M now)) w2.drew → (ld1 (ptr b 5) fun v93 => pv (lenS v93) fun v94 => pv (bin .gtr v94 (I 0)) fun v95 => gd v95 true (pv (some (ptr b 0))) fun v96 => gd v95 true (pv (nilO v96)) fun v97 => gd v95 true (pv (faO 5 v97)) fun v98 =>
      gd v95 true (ld1 v98) fun v99 => gd v95 true (pv (ixS 6 v99 (I 0))) fun v100 => gd v95 true (pv (faO 5 v100)) fun v101 => gd v95 true (ld1 v101) fun v102 => gd v95 true (pv (bin .geq v102 (I 0))) fun v103 => pv (pickO v95 v103 (.bool false)) fun v104 =>
      gd v104 true (pv (some (I now))) fun v105 => gd v104 true (pv (some (ptr b 0))) fun v106 => gd v104 true (pv (nilO v106)) fun v107 => gd v104 true (pv (faO 5 v107)) fun v108 => gd v104 true (ld1 v108) fun v109 => gd v104 true (pv (ixS 6 v109 (I 0))) fun v110 =>
      gd v104 true (pv (faO 5 v110)) fun v111 => gd v104 true (ld1 v111) fun v112 => gd v104 true (pv (bin .sub v105 v112)) fun v113 => gd v104 true (pv (some (ptr b 0))) fun v114 => gd v104 true (pv (nilO v114)) fun v115 => gd v104 true (pv (faO 3 v115)) fun v116 =>
      gd v104 true (ld1 v116) fun v117 => gd v104 true (pv (bin .geq v113 v117)) fun v118 => pv (pickO v104 v118 (.bool false)) G) w2.drew := by
    intro G hG
    refine ld_h H3 0 rfl rfl ?_
    simp only [lenS_sl hlk.us, pv_some, nilO_ptr, faO_mk, gd_yes, gd_no, gd_yes', gd_no', cnd_true, cnd_false, pick_true, pick_false, not_bool, bin_add, bin_sub, bin_mul, bin_eql, bin_neq, bin_lss, bin_leq, bin_gtr, bin_geq, ext0, ext1, ext2, lenS_mk, eqNil_none, eqNil_some, neNil_none, neNil_some, ret_k, mem, Nat.zero_add, Nat.add_zero, Nat.mul_one, drewV, Bool.not_true, Bool.not_false]
    cases hM : M.us with
    | nil =>
      have ea : againB M now = false := by unfold againB; rw [hM]
      rw [ea] at hG
      simp only [List.length_nil, show decide ((0 : Int) < ((0 : Nat) : Int)) = false from rfl, pv_some, nilO_ptr, faO_mk, gd_yes, gd_no, gd_yes', gd_no', cnd_true, cnd_false, pick_true, pick_false, not_bool, bin_add, bin_sub, bin_mul, bin_eql, bin_neq, bin_lss, bin_leq, bin_gtr, bin_geq, ext0, ext1, ext2, lenS_mk, eqNil_none, eqNil_some, neNil_none, neNil_some, ret_k, mem, Nat.zero_add, Nat.add_zero, Nat.mul_one, drewV, Bool.not_true, Bool.not_false]
      exact hG
    | cons u r =>
      have hul : 0 < M.us.length := by rw [hM]; simp
      obtain ⟨bu, cap, rest, hcus, hsus, g1, g2, g3⟩ := hlk.us.chunk hul
      obtain ⟨s, hs⟩ : ∃ s, sv[0]? = some s := ⟨_, List.getElem?_eq_getElem (by rw [hlk.svl]; exact hul)⟩
      have hu : M.us[0]? = some u := by rw [hM]; rfl
      have hc5 : (ucells M.us sv ++ rest)[5]? = some (I u.at_) := get_left (by have := ucells_get hu hs (j := 5) (by omega); simpa [ucell] using this)
      have e0 : ixS 6 sus (.int .i64 0) = some (ptr bu 0) := by
        rw [hsus]; have := ixS_mk (sz := 6) (b := bu) (o := 0) (c := cap) (n := M.us.length) (j := 0) (k := .i64) hul; simpa using this
      have hblk : w2.drew.cell? ⟨bu, 5, none⟩ = some (I u.at_) := by
        have hm : (⟨bu, 101, ucells M.us sv ++ rest⟩ : Chunk) ∈ ⟨b, 96, lkc M su sus sp sa⟩ :: (cw ++ (cus ++ (cu ++ (cp ++ (ca ++ (D ++ F)))))) := by rw [hcus]; simp
        rw [(H3.blk _ hm).2.cell]; exact hc5
      have hat := hwf.at_ u (by rw [hM]; simp)
      simp only [show decide ((0 : Int) < (((u :: r).length : Nat) : Int)) = true from decide_eq_true (by simp), pv_some, nilO_ptr, faO_mk, gd_yes, gd_no, gd_yes', gd_no', cnd_true, cnd_false, pick_true, pick_false, not_bool, bin_add, bin_sub, bin_mul, bin_eql, bin_neq, bin_lss, bin_leq, bin_gtr, bin_geq, ext0, ext1, ext2, lenS_mk, eqNil_none, eqNil_some, neNil_none, neNil_some, ret_k, mem, Nat.zero_add, Nat.add_zero, Nat.mul_one, drewV, Bool.not_true, Bool.not_false]
      refine ld_h H3 0 rfl rfl ?_
      simp only [e0, pv_some, nilO_ptr, faO_mk, gd_yes, gd_no, gd_yes', gd_no', cnd_true, cnd_false, pick_true, pick_false, not_bool, bin_add, bin_sub, bin_mul, bin_eql, bin_neq, bin_lss, bin_leq, bin_gtr, bin_geq, ext0, ext1, ext2, lenS_mk, eqNil_none, eqNil_some, neNil_none, neNil_some, ret_k, mem, Nat.zero_add, Nat.add_zero, Nat.mul_one, drewV, Bool.not_true, Bool.not_false]
      refine ld1_a hblk ?_
      simp only [pv_some, nilO_ptr, faO_mk, gd_yes, gd_no, gd_yes', gd_no', cnd_true, cnd_false, pick_true, pick_false, not_bool, bin_add, bin_sub, bin_mul, bin_eql, bin_neq, bin_lss, bin_leq, bin_gtr, bin_geq, ext0, ext1, ext2, lenS_mk, eqNil_none, eqNil_some, neNil_none, neNil_some, ret_k, mem, Nat.zero_add, Nat.add_zero, Nat.mul_one, drewV, Bool.not_true, Bool.not_false]
      by_cases h0 : 0 ≤ u.at_
      · simp only [decide_eq_true h0, pv_some, nilO_ptr, faO_mk, gd_yes, gd_no, gd_yes', gd_no', cnd_true, cnd_false, pick_true, pick_false, not_bool, bin_add, bin_sub, bin_mul, bin_eql, bin_neq, bin_lss, bin_leq, bin_gtr, bin_geq, ext0, ext1, ext2, lenS_mk, eqNil_none, eqNil_some, neNil_none, neNil_some, ret_k, mem, Nat.zero_add, Nat.add_zero, Nat.mul_one, drewV, Bool.not_true, Bool.not_false]
        refine ld_h H3 0 rfl rfl ?_
        simp only [e0, pv_some, nilO_ptr, faO_mk, gd_yes, gd_no, gd_yes', gd_no', cnd_true, cnd_false, pick_true, pick_false, not_bool, bin_add, bin_sub, bin_mul, bin_eql, bin_neq, bin_lss, bin_leq, bin_gtr, bin_geq, ext0, ext1, ext2, lenS_mk, eqNil_none, eqNil_some, neNil_none, neNil_some, ret_k, mem, Nat.zero_add, Nat.add_zero, Nat.mul_one, drewV, Bool.not_true, Bool.not_false]
        refine ld1_a hblk ?_
        simp only [pv_some, nilO_ptr, faO_mk, gd_yes, gd_no, gd_yes', gd_no', cnd_true, cnd_false, pick_true, pick_false, not_bool, bin_add, bin_sub, bin_mul, bin_eql, bin_neq, bin_lss, bin_leq, bin_gtr, bin_geq, ext0, ext1, ext2, lenS_mk, eqNil_none, eqNil_some, neNil_none, neNil_some, ret_k, mem, Nat.zero_add, Nat.add_zero, Nat.mul_one, drewV, Bool.not_true, Bool.not_false]
        refine ld_h H3 0 rfl rfl ?_
        simp only [pv_some, nilO_ptr, faO_mk, gd_yes, gd_no, gd_yes', gd_no', cnd_true, cnd_false, pick_true, pick_false, not_bool, bin_add, bin_sub, bin_mul, bin_eql, bin_neq, bin_lss, bin_leq, bin_gtr, bin_geq, ext0, ext1, ext2, lenS_mk, eqNil_none, eqNil_some, neNil_none, neNil_some, ret_k, mem, Nat.zero_add, Nat.add_zero, Nat.mul_one, drewV, Bool.not_true, Bool.not_false]
        rw [wrap64_id (by omega) (by omega)]
        have ea : againB M now = decide (M.timeout ≤ now - u.at_) := by unfold againB; rw [hM]; simp [h0]
        rw [← ea]; exact hG
      · simp only [decide_eq_false h0, pv_some, nilO_ptr, faO_mk, gd_yes, gd_no, gd_yes', gd_no', cnd_true, cnd_false, pick_true, pick_false, not_bool, bin_add, bin_sub, bin_mul, bin_eql, bin_neq, bin_lss, bin_leq, bin_gtr, bin_geq, ext0, ext1, ext2, lenS_mk, eqNil_none, eqNil_some, neNil_none, neNil_some, ret_k, mem, Nat.zero_add, Nat.add_zero, Nat.mul_one, drewV, Bool.not_true, Bool.not_false]
        have ea : againB M now = false := by unfold againB; rw [hM]; simp [h0]
        rw [ea] at hG; exact hG
  have goal : links_Link_Output_j23 (OutPost w0 F Lk 90 b M now) (ptr b 0) (I now) sw (.bool (againB M now)) w2.drew := by
    have hlen8 : (useI 0 M.up).length ≤ 8 := Nat.le_trans (useI_le _ _) hwf.up8
    -- the rest
    have go : ¬ (againB M now = true ∧ useI 0 M.up ≠ [] ∧ M.repeats = 6) → links_Link_Output_j3 (OutPost w0 F Lk 90 b M now) (ptr b 0) (I now) sw (.bool (againB M now)) w2.drew := by
      intro hnb
      have hE : outE M now = 0 := by unfold outE; rw [if_neg h, if_neg hnb]
      unfold links_Link_Output_j3
      simp only [pv_some, nilO_ptr, faO_mk, gd_yes, gd_no, gd_yes', gd_no', cnd_true, cnd_false, pick_true, pick_false, not_bool, bin_add, bin_sub, bin_mul, bin_eql, bin_neq, bin_lss, bin_leq, bin_gtr, bin_geq, ext0, ext1, ext2, lenS_mk, eqNil_none, eqNil_some, neNil_none, neNil_some, ret_k, mem, Nat.zero_add, Nat.add_zero, Nat.mul_one, drewV, Bool.not_true, Bool.not_false]
      refine st_h H3 0 rfl (by simp [lkc]) rfl fun w3 H4 => ?_
      replace H4 : Hp w0 w3 (⟨b, 96, lkc { M with clock := now } su sus sp sa⟩ :: (cw ++ (cus ++ (cu ++ (cp ++ (ca ++ (D ++ F))))))) := H4
      refine ld_h H4 0 rfl rfl ?_
      try simp only [pv_some, nilO_ptr, faO_mk, gd_yes, gd_no, gd_yes', gd_no', cnd_true, cnd_false, pick_true, pick_false, not_bool, bin_add, bin_sub, bin_mul, bin_eql, bin_neq, bin_lss, bin_leq, bin_gtr, bin_geq, ext0, ext1, ext2, lenS_mk, eqNil_none, eqNil_some, neNil_none, neNil_some, ret_k, mem, Nat.zero_add, Nat.add_zero, Nat.mul_one, drewV, Bool.not_true, Bool.not_false]
      refine st_h H4 0 rfl (by simp [lkc]) rfl fun w4 H5 => ?_
      replace H5 : Hp w0 w4 (⟨b, 96, lkc { M with clock := now, acks := [] } su sus sp (.slice none 0 0)⟩ :: (cw ++ (cus ++ (cu ++ (cp ++ (ca ++ (D ++ F))))))) := H5
      simp only [lenS_sl hsw, pv_some, nilO_ptr, faO_mk, gd_yes, gd_no, gd_yes', gd_no', cnd_true, cnd_false, pick_true, pick_false, not_bool, bin_add, bin_sub, bin_mul, bin_eql, bin_neq, bin_lss, bin_leq, bin_gtr, bin_geq, ext0, ext1, ext2, lenS_mk, eqNil_none, eqNil_some, neNil_none, neNil_some, ret_k, mem, Nat.zero_add, Nat.add_zero, Nat.mul_one, drewV, Bool.not_true, Bool.not_false]
      have hlk5 : LkP 101 107 w0 { M with clock := now, acks := [] } su sus sp (.slice none 0 0) cu cus cp [] D sv := ⟨hlk.up, hlk.us, hlk.svl, hlk.dat, hlk.part, Sl.nil⟩
      refine cnd_decide (fun h0 => ?_) (fun h0 => ?_)
      · have hws : useI 0 M.up = [] := List.length_eq_zero_iff.1 (by omega)
        refine ⟨.slice none 0 0, [], [], [], ⟨b, 96, lkc { M with clock := now, acks := [] } su sus sp (.slice none 0 0)⟩ :: (cu ++ (cus ++ (cp ++ ([] ++ D)))), ?_, H5.to (by intro f; simp only [I, U8, U64, ptr, List.set_cons_zero, List.set_cons_succ, List.eraseIdx_cons_zero, List.eraseIdx_cons_succ, List.map_append, List.map_cons, List.map_nil, List.sum_append, List.sum_cons, List.sum_nil]; omega), ?_, ?_⟩
        · rw [hE]
        · have : outV M now = [] := by unfold outV; rw [if_neg (by rw [hE]; simp), if_pos hws]
          rw [this]; exact OutP.nil
        · have : outM M now = { M with clock := now, acks := [] } := by unfold outM; rw [if_neg h, if_neg hnb, if_pos hws]
          rw [this]; exact ⟨_, _, _, _, _, _, _, _, _, _, hlk5, rfl⟩
      · have hws : useI 0 M.up ≠ [] := fun hn => by rw [hn] at h0; simp at h0
        have hw0 := iv_ne hws
        unfold links_Link_Output_j4 links_Link_Output_j16 links_Link_Output_j17
        simp only [lenS_sl hlk.acks, pv_some, nilO_ptr, faO_mk, gd_yes, gd_no, gd_yes', gd_no', cnd_true, cnd_false, pick_true, pick_false, not_bool, bin_add, bin_sub, bin_mul, bin_eql, bin_neq, bin_lss, bin_leq, bin_gtr, bin_geq, ext0, ext1, ext2, lenS_mk, eqNil_none, eqNil_some, neNil_none, neNil_some, ret_k, mem, Nat.zero_add, Nat.add_zero, Nat.mul_one, drewV, Bool.not_true, Bool.not_false]
        refine ⟨M.acks.length + 1, ?_⟩
        refine out_acks (b := b) (M := { M with clock := now, acks := [] }) (su := su) (sus := sus) (sp := sp) (sx := .slice none 0 0) (acks := M.acks) (ws := useI 0 M.up) (G := cw ++ (cus ++ (cu ++ (cp ++ (ca ++ (D ++ F)))))) hlk.up hlk.acks hsw hw0 hwf.aw (by have := hwf.al; omega)
          (fun c hc => by simp [hc]) (fun c hc => by simp [hc]) (fun c hc => by simp [hc]) ?_ M.acks.length 0 w4 (.slice none 0 0) [] [] [] (by omega) OutP.nil H5
        intro w5 s5 co5 Db5 sv5 hP5 H6
        have hwf5 : Wf { M with clock := now, acks := [] } := { hwf with clock := hnow, aw := fun a ha => by simp at ha, al := by simp }
        refine out_j5 (M := { M with clock := now, acks := [] }) (cus := cus) (cu := cu) (cp := cp) (ca := []) (D := D) (cw := cw) (F := F) hlk5 hwf5 hsw hw0 hlen8 (by have := hwf.al; simpa using this) hP5 hwf.rep.2 (H6.to (by intro f; simp only [I, U8, U64, ptr, List.set_cons_zero, List.set_cons_succ, List.eraseIdx_cons_zero, List.eraseIdx_cons_succ, List.map_append, List.map_cons, List.map_nil, List.sum_append, List.sum_cons, List.sum_nil]; omega)) ?_
        intro w6 s6 co6 Db6 sv6 cus6 hP6 hlk6 H7
        have eV : outV M now = M.acks.map (outAck M.up (useI 0 M.up)) ++ (outUs (againB M now) now M.quality (useI 0 M.up) 8 M.turn M.us).1 := by unfold outV; rw [if_neg (by rw [hE]; simp), if_neg hws]
        have eM : outM M now = { M with clock := now, acks := [], repeats := if againB M now then M.repeats + 1 else M.repeats, us := (outUs (againB M now) now M.quality (useI 0 M.up) 8 M.turn M.us).2.1, turn := (outUs (againB M now) now M.quality (useI 0 M.up) 8 M.turn M.us).2.2 } := by
          unfold outM; rw [if_neg h, if_neg hnb, if_neg hws]
        refine ⟨s6, co6, Db6, sv6, ⟨b, 96, lkc (outM M now) su sus sp (.slice none 0 0)⟩ :: (cu ++ (cus6 ++ (cp ++ ([] ++ D)))), by rw [hE], ?_, by rw [eV]; exact hP6, ?_⟩
        · rw [eM]; exact H7.to (by intro f; simp only [I, U8, U64, ptr, List.set_cons_zero, List.set_cons_succ, List.eraseIdx_cons_zero, List.eraseIdx_cons_succ, List.map_append, List.map_cons, List.map_nil, List.sum_append, List.sum_cons, List.sum_nil]; omega)
        · rw [eM]; exact ⟨_, _, _, _, _, _, _, _, _, _, hlk6, rfl⟩
    unfold links_Link_Output_j23
    cases ha : againB M now with
    | false =>
      rw [ha] at go
      simp only [pv_some, nilO_ptr, faO_mk, gd_yes, gd_no, gd_yes', gd_no', cnd_true, cnd_false, pick_true, pick_false, not_bool, bin_add, bin_sub, bin_mul, bin_eql, bin_neq, bin_lss, bin_leq, bin_gtr, bin_geq, ext0, ext1, ext2, lenS_mk, eqNil_none, eqNil_some, neNil_none, neNil_some, ret_k, mem, Nat.zero_add, Nat.add_zero, Nat.mul_one, drewV, Bool.not_true, Bool.not_false]
      exact go (by simp)
    | true =>
      rw [ha] at go
      simp only [lenS_sl hsw, pv_some, nilO_ptr, faO_mk, gd_yes, gd_no, gd_yes', gd_no', cnd_true, cnd_false, pick_true, pick_false, not_bool, bin_add, bin_sub, bin_mul, bin_eql, bin_neq, bin_lss, bin_leq, bin_gtr, bin_geq, ext0, ext1, ext2, lenS_mk, eqNil_none, eqNil_some, neNil_none, neNil_some, ret_k, mem, Nat.zero_add, Nat.add_zero, Nat.mul_one, drewV, Bool.not_true, Bool.not_false]
      by_cases h0 : (0 : Int) < (((useI 0 M.up).length : Nat) : Int)
      · have hws : useI 0 M.up ≠ [] := fun hn => by rw [hn] at h0; simp at h0
        simp only [decide_eq_true h0, pv_some, nilO_ptr, faO_mk, gd_yes, gd_no, gd_yes', gd_no', cnd_true, cnd_false, pick_true, pick_false, not_bool, bin_add, bin_sub, bin_mul, bin_eql, bin_neq, bin_lss, bin_leq, bin_gtr, bin_geq, ext0, ext1, ext2, lenS_mk, eqNil_none, eqNil_some, neNil_none, neNil_some, ret_k, mem, Nat.zero_add, Nat.add_zero, Nat.mul_one, drewV, Bool.not_true, Bool.not_false]
        refine ld_h H3 0 rfl rfl ?_
        simp only [pv_some, nilO_ptr, faO_mk, gd_yes, gd_no, gd_yes', gd_no', cnd_true, cnd_false, pick_true, pick_false, not_bool, bin_add, bin_sub, bin_mul, bin_eql, bin_neq, bin_lss, bin_leq, bin_gtr, bin_geq, ext0, ext1, ext2, lenS_mk, eqNil_none, eqNil_some, neNil_none, neNil_some, ret_k, mem, Nat.zero_add, Nat.add_zero, Nat.mul_one, drewV, Bool.not_true, Bool.not_false]
        refine cnd_decide (fun h6 => ?_) (fun h6 => ?_)
        · refine st_h H3 0 rfl (by simp [lkc]) rfl fun w3 H4 => ?_
          replace H4 : Hp w0 w3 (⟨b, 96, lkc { M with broken := true } su sus sp sa⟩ :: (cw ++ (cus ++ (cu ++ (cp ++ (ca ++ (D ++ F))))))) := H4
          have hb : againB M now = true ∧ useI 0 M.up ≠ [] ∧ M.repeats = 6 := ⟨ha, hws, h6⟩
          have hE : outE M now = 4 := by unfold outE; rw [if_neg h, if_pos hb]
          refine ⟨.slice none 0 0, [], [], [], ⟨b, 96, lkc { M with broken := true } su sus sp sa⟩ :: (cu ++ (cus ++ (cp ++ (ca ++ D)))), by rw [hE], H4.to (by intro f; simp only [I, U8, U64, ptr, List.set_cons_zero, List.set_cons_succ, List.eraseIdx_cons_zero, List.eraseIdx_cons_succ, List.map_append, List.map_cons, List.map_nil, List.sum_append, List.sum_cons, List.sum_nil]; omega), ?_, ?_⟩
          · have : outV M now = [] := by unfold outV; rw [if_pos]; rw [hE]; decide
            rw [this]; exact OutP.nil
          · have : outM M now = { M with broken := true } := by unfold outM; rw [if_neg h, if_pos hb]
            rw [this]; exact ⟨_, _, _, _, _, _, _, _, _, _, ⟨hlk.up, hlk.us, hlk.svl, hlk.dat, hlk.part, hlk.acks⟩, rfl⟩
        · exact go (fun hh => h6 hh.2.2)
      · simp only [decide_eq_false h0, pv_some, nilO_ptr, faO_mk, gd_yes, gd_no, gd_yes', gd_no', cnd_true, cnd_false, pick_true, pick_false, not_bool, bin_add, bin_sub, bin_mul, bin_eql, bin_neq, bin_lss, bin_leq, bin_gtr, bin_geq, ext0, ext1, ext2, lenS_mk, eqNil_none, eqNil_some, neNil_none, neNil_some, ret_k, mem, Nat.zero_add, Nat.add_zero, Nat.mul_one, drewV, Bool.not_true, Bool.not_false]
        exact go (fun hh => h0 (by have := iv_ne hh.2.1; omega))
  have := hag (G := fun v119 => links_Link_Output_j23 (OutPost w0 F Lk 90 b M now) (ptr b 0) (I now) sw v119) goal
  try simp only [pv_some, nilO_ptr, faO_mk, gd_yes, gd_no, gd_yes', gd_no', cnd_true, cnd_false, pick_true, pick_false, not_bool, bin_add, bin_sub, bin_mul, bin_eql, bin_neq, bin_lss, bin_leq, bin_gtr, bin_geq, ext0, ext1, ext2, lenS_mk, eqNil_none, eqNil_some, neNil_none, neNil_some, ret_k, mem, Nat.zero_add, Nat.add_zero, Nat.mul_one, drewV, Bool.not_true, Bool.not_false] at this
  exact this
end
end Go.Proofs.Ytmnpndgmfmjfhaa.Den
