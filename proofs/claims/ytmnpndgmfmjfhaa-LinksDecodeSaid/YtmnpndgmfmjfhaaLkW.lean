/- Links: the law LinksEncode, walked. Conditions: none. -/
import Derived.Test.YtmnpndgmfmjfhaaLkV
set_option linter.unusedVariables false
set_option linter.unusedSimpArgs false
set_option maxRecDepth 8000
namespace Go.Proofs.Ytmnpndgmfmjfhaa.Den
open Go Go.RowKit
section
variable {w w' : World} {w0 : Base} {F L : List Chunk} {R : ER}
def TrueP (w0 : Base) (F : List Chunk) : ER := fun e w' => e = .returned (.bool true) ∧ Hp w0 w' F
theorem mem_right {cs F : List Chunk} : ∀ c ∈ F, c ∈ cs ++ F := fun c hc => List.mem_append_right _ hc
theorem RdL.sc {sz n : Nat} {s : Value} {ys : List Value} (h : RdL w0 L sz s n ys) : scalar s = true ∧ s.cells = #[s] := by
  rcases h with (⟨c, rfl, h0, rfl⟩ | ⟨a, c, rfl, _, h⟩) | ⟨b, o, c, el, l, rfl, _⟩ <;> exact ⟨rfl, rfl⟩
set_option maxHeartbeats 1000000 in
theorem LinksEncode_walk {k m f : Int} {last : Bool} {s : Value} {n : Nat} {xs : List Int} (hs : RdL w0 F 1 s n (bv xs)) (hm : m ≤ 9223372036854775807) (H : Hp w0 w F) :
    Calls Pg 4 ⟨[.agg ⟨frm k last m f s⟩]⟩ w (TrueP w0 F) := by
  have hl : xs.length = n := by have := hs.length; rw [bv_length] at this; omega
  obtain ⟨hsc, hcl⟩ : scalar s = true ∧ s.cells = #[s] := hs.sc
  apply orpimentlaw35_LinksEncode_calls
  unfold orpimentlaw35_LinksEncode
  refine bxa_h H fun w1 b H1 => ?_
  simp only [pv_some, nilO_ptr, faO_mk, gd_yes, gd_no, gd_yes', gd_no', cnd_true, cnd_false, pick_true, pick_false, not_bool, bin_add, bin_sub, bin_mul, bin_eql, bin_neq, bin_lss, bin_leq, bin_gtr, bin_geq, ext0, ext1, ext2, lenS_mk, eqNil_none, eqNil_some, neNil_none, neNil_some, ret_k, mem, Nat.zero_add, Nat.add_zero, Nat.mul_one, drewV, Bool.not_true, Bool.not_false]
  refine ld_h H1 0 rfl rfl ?_
  simp only [lenS_rdL hs, pv_some, nilO_ptr, faO_mk, gd_yes, gd_no, gd_yes', gd_no', cnd_true, cnd_false, pick_true, pick_false, not_bool, bin_add, bin_sub, bin_mul, bin_eql, bin_neq, bin_lss, bin_leq, bin_gtr, bin_geq, ext0, ext1, ext2, lenS_mk, eqNil_none, eqNil_some, neNil_none, neNil_some, ret_k, mem, Nat.zero_add, Nat.add_zero, Nat.mul_one, drewV, Bool.not_true, Bool.not_false]
  refine cnd_decide (fun _ => ?_) (fun hn6 => ?_)
  · refine cal_h (awake_spec H1) ?_
    rintro e w2 ⟨rfl, H2⟩
    exact ⟨rfl, H2.tail⟩
  unfold orpimentlaw35_LinksEncode_j1
  refine ldA_h H1 0 rfl rfl ?_
  refine cal_h (Encode_spec (hs.mono fun c hc => List.mem_cons_of_mem _ hc) H1) ?_
  rintro e w2 ⟨s1, n1, ys1, cs1, rfl, H2, hS1, hx1, hy1⟩
  simp only [pv_some, nilO_ptr, faO_mk, gd_yes, gd_no, gd_yes', gd_no', cnd_true, cnd_false, pick_true, pick_false, not_bool, bin_add, bin_sub, bin_mul, bin_eql, bin_neq, bin_lss, bin_leq, bin_gtr, bin_geq, ext0, ext1, ext2, lenS_mk, eqNil_none, eqNil_some, neNil_none, neNil_some, ret_k, mem, Nat.zero_add, Nat.add_zero, Nat.mul_one, drewV, Bool.not_true, Bool.not_false]
  have H2' : Hp w0 w2 (⟨b, 48, frm k last m f s⟩ :: (cs1 ++ F)) := H2.to (by intro f; simp only [I, U8, U64, ptr, List.set_cons_zero, List.set_cons_succ, List.eraseIdx_cons_zero, List.eraseIdx_cons_succ, List.map_append, List.map_cons, List.map_nil, List.sum_append, List.sum_cons, List.sum_nil]; omega)
  refine ldA_h H2' 0 rfl rfl ?_
  refine cal_h (frame_spec H2' hcl hsc) ?_
  rintro e w3 ⟨rfl, H3⟩
  refine cal_h (rEncode_spec (hs.mono fun c hc => List.mem_cons_of_mem _ (mem_right c hc)) H3) ?_
  rintro e w4 ⟨s2, n2, ys2, cs2, rfl, H4, hS2, hx2, hy2⟩
  simp only [ne_eq, not_true_eq_false, decide_false, pv_some, nilO_ptr, faO_mk, gd_yes, gd_no, gd_yes', gd_no', cnd_true, cnd_false, pick_true, pick_false, not_bool, bin_add, bin_sub, bin_mul, bin_eql, bin_neq, bin_lss, bin_leq, bin_gtr, bin_geq, ext0, ext1, ext2, lenS_mk, eqNil_none, eqNil_some, neNil_none, neNil_some, ret_k, mem, Nat.zero_add, Nat.add_zero, Nat.mul_one, drewV, Bool.not_true, Bool.not_false]
  have eq12 : ys1 = ys2 := by
    by_cases he : encE k last m f n = 0
    · rw [(hy1 he).2.2, (hy2 he).2.2]
    · rw [(hx1 he).2.2, (hx2 he).2.2]
  have H4' : Hp w0 w4 (⟨b, 48, frm k last m f s⟩ :: (cs1 ++ (cs2 ++ F))) := H4.to (by intro f; simp only [I, U8, U64, ptr, List.set_cons_zero, List.set_cons_succ, List.eraseIdx_cons_zero, List.eraseIdx_cons_succ, List.map_append, List.map_cons, List.map_nil, List.sum_append, List.sum_cons, List.sum_nil]; omega)
  have hn1 : n1 < 2 ^ 60 := by
    by_cases he : encE k last m f n = 0
    · have := hy1 he; omega
    · have := hx1 he; omega
  refine cal_h (Equal_spec H4' (hS1.rdL fun c hc => by simp [hc]) (hS2.rdL fun c hc => by simp [hc]) hn1) ?_
  rintro e w5 ⟨rfl, H5⟩
  simp only [eq12, decide_true, pv_some, nilO_ptr, faO_mk, gd_yes, gd_no, gd_yes', gd_no', cnd_true, cnd_false, pick_true, pick_false, not_bool, bin_add, bin_sub, bin_mul, bin_eql, bin_neq, bin_lss, bin_leq, bin_gtr, bin_geq, ext0, ext1, ext2, lenS_mk, eqNil_none, eqNil_some, neNil_none, neNil_some, ret_k, mem, Nat.zero_add, Nat.add_zero, Nat.mul_one, drewV, Bool.not_true, Bool.not_false]
  by_cases he : encE k last m f n ≠ 0
  · unfold orpimentlaw35_LinksEncode_j2
    simp only [decide_eq_true he, pv_some, nilO_ptr, faO_mk, gd_yes, gd_no, gd_yes', gd_no', cnd_true, cnd_false, pick_true, pick_false, not_bool, bin_add, bin_sub, bin_mul, bin_eql, bin_neq, bin_lss, bin_leq, bin_gtr, bin_geq, ext0, ext1, ext2, lenS_mk, eqNil_none, eqNil_some, neNil_none, neNil_some, ret_k, mem, Nat.zero_add, Nat.add_zero, Nat.mul_one, drewV, Bool.not_true, Bool.not_false]
    refine cal_h (awake_spec H5) ?_
    rintro e w6 ⟨rfl, H6⟩
    exact ⟨rfl, H6.to (by intro f; simp only [I, U8, U64, ptr, List.set_cons_zero, List.set_cons_succ, List.eraseIdx_cons_zero, List.eraseIdx_cons_succ, List.map_append, List.map_cons, List.map_nil, List.sum_append, List.sum_cons, List.sum_nil]; omega)⟩
  replace he := Decidable.not_not.1 he
  unfold orpimentlaw35_LinksEncode_j2
  simp only [he, ne_eq, not_true_eq_false, decide_true, decide_false, pv_some, nilO_ptr, faO_mk, gd_yes, gd_no, gd_yes', gd_no', cnd_true, cnd_false, pick_true, pick_false, not_bool, bin_add, bin_sub, bin_mul, bin_eql, bin_neq, bin_lss, bin_leq, bin_gtr, bin_geq, ext0, ext1, ext2, lenS_mk, eqNil_none, eqNil_some, neNil_none, neNil_some, ret_k, mem, Nat.zero_add, Nat.add_zero, Nat.mul_one, drewV, Bool.not_true, Bool.not_false]
  obtain ⟨hn4, hn1e, hys⟩ := hy1 he
  unfold orpimentlaw35_LinksEncode_j3
  subst hl
  obtain ⟨q1, q2, q3, q4, q5, q6, q7⟩ := dec_enc he hm
  refine cal_h (Decode_spec (hS1.rdL fun c hc => by simp [hc]) (by omega) H5) ?_
  rintro e w6 ⟨k', last', m', f', s3, n3, ys3, cs3, rfl, H6, hS3, _, hy3⟩
  rw [hys] at hy3 ⊢
  obtain ⟨rfl, rfl, rfl, rfl, hn3, rfl⟩ := hy3 q1
  simp only [pv_some, nilO_ptr, faO_mk, gd_yes, gd_no, gd_yes', gd_no', cnd_true, cnd_false, pick_true, pick_false, not_bool, bin_add, bin_sub, bin_mul, bin_eql, bin_neq, bin_lss, bin_leq, bin_gtr, bin_geq, ext0, ext1, ext2, lenS_mk, eqNil_none, eqNil_some, neNil_none, neNil_some, ret_k, mem, Nat.zero_add, Nat.add_zero, Nat.mul_one, drewV, Bool.not_true, Bool.not_false]
  refine al_h H6 (z := zfrm) (by kernel_rfl) fun w7 c H7 => ?_
  refine stA_h H7 0 rfl rfl rfl (frm_scalar (hS3.rdL (L := cs3) (w0 := w0) fun c hc => hc).sc.1) fun w8 H8 => ?_
  rw [q2, q3, q4, q5] at H8
  have eb : decide (lbit last = 1) = last := by cases last <;> rfl
  rw [eb] at H8
  simp only [q1, decide_true, pv_some, nilO_ptr, faO_mk, gd_yes, gd_no, gd_yes', gd_no', cnd_true, cnd_false, pick_true, pick_false, not_bool, bin_add, bin_sub, bin_mul, bin_eql, bin_neq, bin_lss, bin_leq, bin_gtr, bin_geq, ext0, ext1, ext2, lenS_mk, eqNil_none, eqNil_some, neNil_none, neNil_some, ret_k, mem, Nat.zero_add, Nat.add_zero, Nat.mul_one, drewV, Bool.not_true, Bool.not_false]
  refine ldA_h H8.drew 0 rfl rfl ?_
  have H8' : Hp w0 w8.drew (⟨b, 48, frm k last m f s⟩ :: ⟨c, 48, frm k last m f s3⟩ :: (cs3 ++ (cs1 ++ (cs2 ++ F)))) := H8.drew.to (by intro f; simp only [I, U8, U64, ptr, List.set_cons_zero, List.set_cons_succ, List.eraseIdx_cons_zero, List.eraseIdx_cons_succ, List.map_append, List.map_cons, List.map_nil, List.sum_append, List.sum_cons, List.sum_nil]; omega)
  refine ldA_h H8' 0 rfl rfl ?_
  refine cal_h (frame_spec H8' hcl hsc) ?_
  rintro e w9 ⟨rfl, H9⟩
  simp only [pv_some, nilO_ptr, faO_mk, gd_yes, gd_no, gd_yes', gd_no', cnd_true, cnd_false, pick_true, pick_false, not_bool, bin_add, bin_sub, bin_mul, bin_eql, bin_neq, bin_lss, bin_leq, bin_gtr, bin_geq, ext0, ext1, ext2, lenS_mk, eqNil_none, eqNil_some, neNil_none, neNil_some, ret_k, mem, Nat.zero_add, Nat.add_zero, Nat.mul_one, drewV, Bool.not_true, Bool.not_false]
  unfold ck
  simp only [onV, beq_self_eq_true, cond_true]
  rw [rdN_t (n := 5) (l := frm k last m f s3) (H9.cells 1 rfl rfl)]
  have hn3' : n3 < 2 ^ 60 := by omega
  refine cal_h (sameFrame_true H9 (hS3.rdL fun c hc => by simp [hc]) (hs.mono fun c hc => by simp [hc]) hn3') ?_
  rintro e w10 ⟨rfl, H10⟩
  simp only [pv_some, nilO_ptr, faO_mk, gd_yes, gd_no, gd_yes', gd_no', cnd_true, cnd_false, pick_true, pick_false, not_bool, bin_add, bin_sub, bin_mul, bin_eql, bin_neq, bin_lss, bin_leq, bin_gtr, bin_geq, ext0, ext1, ext2, lenS_mk, eqNil_none, eqNil_some, neNil_none, neNil_some, ret_k, mem, Nat.zero_add, Nat.add_zero, Nat.mul_one, drewV, Bool.not_true, Bool.not_false]
  refine cal_h (awake_spec H10) ?_
  rintro e w11 ⟨rfl, H11⟩
  simp only [pv_some, nilO_ptr, faO_mk, gd_yes, gd_no, gd_yes', gd_no', cnd_true, cnd_false, pick_true, pick_false, not_bool, bin_add, bin_sub, bin_mul, bin_eql, bin_neq, bin_lss, bin_leq, bin_gtr, bin_geq, ext0, ext1, ext2, lenS_mk, eqNil_none, eqNil_some, neNil_none, neNil_some, ret_k, mem, Nat.zero_add, Nat.add_zero, Nat.mul_one, drewV, Bool.not_true, Bool.not_false]
  exact ⟨rfl, H11.to (by intro f; simp only [I, U8, U64, ptr, List.set_cons_zero, List.set_cons_succ, List.eraseIdx_cons_zero, List.eraseIdx_cons_succ, List.map_append, List.map_cons, List.map_nil, List.sum_append, List.sum_cons, List.sum_nil]; omega)⟩
end
end Go.Proofs.Ytmnpndgmfmjfhaa.Den
