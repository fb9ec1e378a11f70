/- Links: the law LinksDecode, walked. Conditions: none. -/
import Derived.Test.YtmnpndgmfmjfhaaLkW
set_option linter.unusedVariables false
set_option linter.unusedSimpArgs false
set_option maxRecDepth 8000
namespace Go.Proofs.Ytmnpndgmfmjfhaa.Den
open Go Go.RowKit
section
variable {w w' : World} {w0 : Base} {F L : List Chunk} {R : ER}
/-- The two decoders say the same. -/
theorem dec_same {xs : List Int} {k m f k' m' f' : Int} {last last' : Bool} {n n' : Nat} {s s' : Value} {ys ys' : List Int}
    (h0 : decE xs ≠ 0 → k = 0 ∧ last = false ∧ m = 0 ∧ f = 0 ∧ n = 0 ∧ s = .slice none 0 0 ∧ ys = [])
    (h1 : decE xs = 0 → k = dK xs ∧ last = decide (dB xs = 1) ∧ m = dM xs ∧ f = dF xs ∧ n + 24 = xs.length ∧ ys = xs.drop 24)
    (h0' : decE xs ≠ 0 → k' = 0 ∧ last' = false ∧ m' = 0 ∧ f' = 0 ∧ n' = 0 ∧ s' = .slice none 0 0 ∧ ys' = [])
    (h1' : decE xs = 0 → k' = dK xs ∧ last' = decide (dB xs = 1) ∧ m' = dM xs ∧ f' = dF xs ∧ n' + 24 = xs.length ∧ ys' = xs.drop 24) :
    k = k' ∧ last = last' ∧ m = m' ∧ f = f' ∧ ys = ys' ∧ n < 2 ^ 60 := by
  by_cases he : decE xs = 0
  · obtain ⟨rfl, rfl, rfl, rfl, h2, rfl⟩ := h1 he
    obtain ⟨rfl, rfl, rfl, rfl, h2', rfl⟩ := h1' he
    refine ⟨rfl, rfl, rfl, rfl, rfl, ?_⟩
    unfold decE at he
    split at he
    · cases he
    · rename_i hh
      have : ¬ 4120 < xs.length := fun h => hh (.inr (.inl h))
      omega
  · obtain ⟨rfl, rfl, rfl, rfl, rfl, _, rfl⟩ := h0 he
    obtain ⟨rfl, rfl, rfl, rfl, rfl, _, rfl⟩ := h0' he
    exact ⟨rfl, rfl, rfl, rfl, rfl, by omega⟩
theorem xorU8 (a b : Int) : ∃ c, bin .xor (U8 a) (U8 b) = some (U8 c) ∧ 0 ≤ c := ⟨_, rfl, by rw [wrapU8]; omega⟩
theorem remU64 {a b : Int} (ha : 0 ≤ a) (ha' : a < 18446744073709551616) (hb : 0 < b) : bin .rem (U64 a) (U64 b) = some (U64 (a % b)) := by
  rw [U64, U64, bin_rem (by omega), Int.tmod_eq_emod_of_nonneg ha]
set_option maxHeartbeats 1000000 in
theorem LinksDecode_walk {k m f i0 i1 : Int} {last : Bool} {s s0 : Value} {n n0 : Nat} {xs ys : List Int} (h0 : RdL w0 F 1 s0 n0 (bv ys)) (hby : 0 ≤ dB ys) (hs : RdL w0 F 1 s n (bv xs)) (H : Hp w0 w F) :
    Calls Pg 5 ⟨[s0, .agg ⟨frm k last m f s⟩, .agg ⟨[I i0, I i1]⟩]⟩ w (TrueP w0 F) := by
  have hl : xs.length = n := by have := hs.length; rw [bv_length] at this; omega
  obtain ⟨hsc, hcl⟩ : scalar s = true ∧ s.cells = #[s] := hs.sc
  apply orpimentlaw35_LinksDecode_calls
  unfold orpimentlaw35_LinksDecode
  refine bxa_h H fun w1 b H1 => ?_
  refine bxa_h H1 fun w2 c H2 => ?_
  simp only [lenS_rdL h0, pv_some, nilO_ptr, faO_mk, gd_yes, gd_no, gd_yes', gd_no', cnd_true, cnd_false, pick_true, pick_false, not_bool, bin_add, bin_sub, bin_mul, bin_eql, bin_neq, bin_lss, bin_leq, bin_gtr, bin_geq, ext0, ext1, ext2, lenS_mk, eqNil_none, eqNil_some, neNil_none, neNil_some, ret_k, mem, Nat.zero_add, Nat.add_zero, Nat.mul_one, drewV, Bool.not_true, Bool.not_false]
  have H2' : Hp w0 w2 (⟨b, 48, frm k last m f s⟩ :: ⟨c, 59, [I i0, I i1]⟩ :: F) := H2.to (by intro f; simp only [I, U8, U64, ptr, List.set_cons_zero, List.set_cons_succ, List.eraseIdx_cons_zero, List.eraseIdx_cons_succ, List.map_append, List.map_cons, List.map_nil, List.sum_append, List.sum_cons, List.sum_nil]; omega)
  have aw : ∀ {w : World}, Hp w0 w (⟨b, 48, frm k last m f s⟩ :: ⟨c, 59, [I i0, I i1]⟩ :: F) → cal Pg (TrueP w0 F) 11 ⟨[]⟩ (fun v => TrueP w0 F (.returned v)) w := by
    intro w H
    refine cal_h (awake_spec H) ?_
    rintro e w2 ⟨rfl, H2⟩
    exact ⟨rfl, H2.tail.tail⟩
  by_cases hn6 : (6000 : Int) < n0
  · simp only [decide_eq_true hn6, pv_some, nilO_ptr, faO_mk, gd_yes, gd_no, gd_yes', gd_no', cnd_true, cnd_false, pick_true, pick_false, not_bool, bin_add, bin_sub, bin_mul, bin_eql, bin_neq, bin_lss, bin_leq, bin_gtr, bin_geq, ext0, ext1, ext2, lenS_mk, eqNil_none, eqNil_some, neNil_none, neNil_some, ret_k, mem, Nat.zero_add, Nat.add_zero, Nat.mul_one, drewV, Bool.not_true, Bool.not_false]
    exact aw H2'
  simp only [decide_eq_false hn6, pv_some, nilO_ptr, faO_mk, gd_yes, gd_no, gd_yes', gd_no', cnd_true, cnd_false, pick_true, pick_false, not_bool, bin_add, bin_sub, bin_mul, bin_eql, bin_neq, bin_lss, bin_leq, bin_gtr, bin_geq, ext0, ext1, ext2, lenS_mk, eqNil_none, eqNil_some, neNil_none, neNil_some, ret_k, mem, Nat.zero_add, Nat.add_zero, Nat.mul_one, drewV, Bool.not_true, Bool.not_false]
  refine ld_h H2' 0 rfl rfl ?_
  simp only [lenS_rdL hs, pv_some, nilO_ptr, faO_mk, gd_yes, gd_no, gd_yes', gd_no', cnd_true, cnd_false, pick_true, pick_false, not_bool, bin_add, bin_sub, bin_mul, bin_eql, bin_neq, bin_lss, bin_leq, bin_gtr, bin_geq, ext0, ext1, ext2, lenS_mk, eqNil_none, eqNil_some, neNil_none, neNil_some, ret_k, mem, Nat.zero_add, Nat.add_zero, Nat.mul_one, drewV, Bool.not_true, Bool.not_false]
  refine cnd_decide (fun _ => aw H2') (fun hn7 => ?_)
  unfold orpimentlaw35_LinksDecode_j1
  refine cal_h (Decode_spec (h0.mono fun x hx => List.mem_cons_of_mem _ (List.mem_cons_of_mem _ hx)) (by omega) H2') ?_
  rintro e w3 ⟨k1, last1, m1, f1, s1, n1, ys1, cs1, rfl, H3, hS1, z1, o1⟩
  simp only [pv_some, nilO_ptr, faO_mk, gd_yes, gd_no, gd_yes', gd_no', cnd_true, cnd_false, pick_true, pick_false, not_bool, bin_add, bin_sub, bin_mul, bin_eql, bin_neq, bin_lss, bin_leq, bin_gtr, bin_geq, ext0, ext1, ext2, lenS_mk, eqNil_none, eqNil_some, neNil_none, neNil_some, ret_k, mem, Nat.zero_add, Nat.add_zero, Nat.mul_one, drewV, Bool.not_true, Bool.not_false]
  have f1sc := (hS1.rdL (L := cs1) (w0 := w0) fun c hc => hc).sc
  refine al_h H3 (z := zfrm) (by kernel_rfl) fun w4 x7 H4 => ?_
  refine stA_h H4 0 rfl rfl rfl (frm_scalar f1sc.1) fun w5 H5 => ?_
  refine cal_h (rDecode_spec (h0.mono fun x hx => by simp [hx]) (by omega) hby H5) ?_
  rintro e w6 ⟨k2, last2, m2, f2, s2, n2, ys2, cs2, rfl, H6, hS2, z2, o2⟩
  simp only [pv_some, nilO_ptr, faO_mk, gd_yes, gd_no, gd_yes', gd_no', cnd_true, cnd_false, pick_true, pick_false, not_bool, bin_add, bin_sub, bin_mul, bin_eql, bin_neq, bin_lss, bin_leq, bin_gtr, bin_geq, ext0, ext1, ext2, lenS_mk, eqNil_none, eqNil_some, neNil_none, neNil_some, ret_k, mem, Nat.zero_add, Nat.add_zero, Nat.mul_one, drewV, Bool.not_true, Bool.not_false]
  obtain ⟨rfl, rfl, rfl, rfl, rfl, hn1⟩ := dec_same z1 o1 z2 o2
  have f2sc := (hS2.rdL (L := cs2) (w0 := w0) fun c hc => hc).sc
  refine al_h H6 (z := zfrm) (by kernel_rfl) fun w7 x9 H7 => ?_
  refine stA_h H7 0 rfl rfl rfl (frm_scalar f2sc.1) fun w8 H8 => ?_
  have H8' : Hp w0 w8 (⟨x7, 48, frm k1 last1 m1 f1 s1⟩ :: ⟨x9, 52, frm k1 last1 m1 f1 s2⟩ :: ⟨b, 48, frm k last m f s⟩ :: ⟨c, 59, [I i0, I i1]⟩ :: (cs1 ++ (cs2 ++ F))) := H8.to (by intro f; simp only [I, U8, U64, ptr, List.set_cons_zero, List.set_cons_succ, List.eraseIdx_cons_zero, List.eraseIdx_cons_succ, List.map_append, List.map_cons, List.map_nil, List.sum_append, List.sum_cons, List.sum_nil]; omega)
  simp only [ne_eq, not_true_eq_false, decide_false, pv_some, nilO_ptr, faO_mk, gd_yes, gd_no, gd_yes', gd_no', cnd_true, cnd_false, pick_true, pick_false, not_bool, bin_add, bin_sub, bin_mul, bin_eql, bin_neq, bin_lss, bin_leq, bin_gtr, bin_geq, ext0, ext1, ext2, lenS_mk, eqNil_none, eqNil_some, neNil_none, neNil_some, ret_k, mem, Nat.zero_add, Nat.add_zero, Nat.mul_one, drewV, Bool.not_true, Bool.not_false]
  refine ldA_h H8' 0 rfl rfl ?_
  refine ldA_h H8' 1 rfl rfl ?_
  refine cal_h (sameFrame_true H8' (hS1.rdL fun c hc => by simp [hc]) (hS2.rdL fun c hc => by simp [hc]) hn1) ?_
  rintro e w9 ⟨rfl, H9⟩
  simp only [pv_some, nilO_ptr, faO_mk, gd_yes, gd_no, gd_yes', gd_no', cnd_true, cnd_false, pick_true, pick_false, not_bool, bin_add, bin_sub, bin_mul, bin_eql, bin_neq, bin_lss, bin_leq, bin_gtr, bin_geq, ext0, ext1, ext2, lenS_mk, eqNil_none, eqNil_some, neNil_none, neNil_some, ret_k, mem, Nat.zero_add, Nat.add_zero, Nat.mul_one, drewV, Bool.not_true, Bool.not_false]
  unfold orpimentlaw35_LinksDecode_j2
  refine ldA_h H9 2 rfl rfl ?_
  refine cal_h (frame_spec H9 hcl hsc) ?_
  rintro e w10 ⟨rfl, H10⟩
  refine cal_h (rEncode_spec (hs.mono fun c hc => by simp [hc]) H10) ?_
  rintro e w11 ⟨s3, n3, ys3, cs3, rfl, H11, hS3, hx3, hy3⟩
  simp only [pv_some, nilO_ptr, faO_mk, gd_yes, gd_no, gd_yes', gd_no', cnd_true, cnd_false, pick_true, pick_false, not_bool, bin_add, bin_sub, bin_mul, bin_eql, bin_neq, bin_lss, bin_leq, bin_gtr, bin_geq, ext0, ext1, ext2, lenS_mk, eqNil_none, eqNil_some, neNil_none, neNil_some, ret_k, mem, Nat.zero_add, Nat.add_zero, Nat.mul_one, drewV, Bool.not_true, Bool.not_false]
  by_cases he : encE k last m f n ≠ 0
  · simp only [decide_eq_true he, pv_some, nilO_ptr, faO_mk, gd_yes, gd_no, gd_yes', gd_no', cnd_true, cnd_false, pick_true, pick_false, not_bool, bin_add, bin_sub, bin_mul, bin_eql, bin_neq, bin_lss, bin_leq, bin_gtr, bin_geq, ext0, ext1, ext2, lenS_mk, eqNil_none, eqNil_some, neNil_none, neNil_some, ret_k, mem, Nat.zero_add, Nat.add_zero, Nat.mul_one, drewV, Bool.not_true, Bool.not_false]
    refine cal_h (awake_spec H11) ?_
    rintro e w6 ⟨rfl, H6⟩
    exact ⟨rfl, H6.to (by intro f; simp only [I, U8, U64, ptr, List.set_cons_zero, List.set_cons_succ, List.eraseIdx_cons_zero, List.eraseIdx_cons_succ, List.map_append, List.map_cons, List.map_nil, List.sum_append, List.sum_cons, List.sum_nil]; omega)⟩
  simp only [decide_eq_false he, pv_some, nilO_ptr, faO_mk, gd_yes, gd_no, gd_yes', gd_no', cnd_true, cnd_false, pick_true, pick_false, not_bool, bin_add, bin_sub, bin_mul, bin_eql, bin_neq, bin_lss, bin_leq, bin_gtr, bin_geq, ext0, ext1, ext2, lenS_mk, eqNil_none, eqNil_some, neNil_none, neNil_some, ret_k, mem, Nat.zero_add, Nat.add_zero, Nat.mul_one, drewV, Bool.not_true, Bool.not_false]
  replace he := Decidable.not_not.1 he
  obtain ⟨hn4, hn3, hys⟩ := hy3 he
  unfold orpimentlaw35_LinksDecode_j3
  have hx3l : ys3.length = n3 := by rw [hys, encB_length]; omega
  obtain ⟨b3, cap3, r3, rfl, rfl, g1, g2, g3⟩ := hS3.chunk (by omega)
  have H11' : Hp w0 w11.drew (⟨b3, 5, bv ys3 ++ r3⟩ :: ⟨c, 59, [I i0, I i1]⟩ :: ⟨x7, 48, frm k1 last1 m1 f1 s1⟩ :: ⟨x9, 52, frm k1 last1 m1 f1 s2⟩ :: ⟨b, 48, frm k last m f s⟩ :: (cs1 ++ (cs2 ++ F))) := H11.drew.to (by intro f; simp only [I, U8, U64, ptr, List.set_cons_zero, List.set_cons_succ, List.eraseIdx_cons_zero, List.eraseIdx_cons_succ, List.map_append, List.map_cons, List.map_nil, List.sum_append, List.sum_cons, List.sum_nil]; omega)
  simp only [ixA_mk, pv_some, nilO_ptr, faO_mk, gd_yes, gd_no, gd_yes', gd_no', cnd_true, cnd_false, pick_true, pick_false, not_bool, bin_add, bin_sub, bin_mul, bin_eql, bin_neq, bin_lss, bin_leq, bin_gtr, bin_geq, ext0, ext1, ext2, lenS_mk, eqNil_none, eqNil_some, neNil_none, neNil_some, ret_k, mem, Nat.zero_add, Nat.add_zero, Nat.mul_one, drewV, Bool.not_true, Bool.not_false]
  refine ld_h H11' 1 rfl rfl ?_
  have en3 : u64 (n3 : Int) = n3 := u64_id (by omega) (by omega)
  have ju := Int.emod_nonneg i0 (b := 18446744073709551616) (by decide)
  have ju' := Int.emod_lt_of_pos i0 (b := 18446744073709551616) (by decide)
  have j1 := Int.emod_nonneg (u64 i0) (b := (n3 : Int)) (by omega)
  have j2 := Int.emod_lt_of_pos (u64 i0) (b := (n3 : Int)) (by omega)
  have er := remU64 (a := u64 i0) (b := (n3 : Int)) ju ju' (by omega)
  generalize u64 i0 % (n3 : Int) = jj at j1 j2 er
  obtain ⟨j, rfl⟩ : ∃ j : Nat, jj = (j : Int) := ⟨jj.toNat, by omega⟩
  have hj : j < n3 := by omega
  have hj3 : j < ys3.length := by omega
  have hjb : (bv ys3 ++ r3)[j]? = some (U8 (ys3[j])) := by
    rw [List.getElem?_append_left (by rw [bv_length]; omega)]
    exact bv_get (getElem_of_lt hj3)
  simp only [cvU64, en3, er, pv_some, nilO_ptr, faO_mk, gd_yes, gd_no, gd_yes', gd_no', cnd_true, cnd_false, pick_true, pick_false, not_bool, bin_add, bin_sub, bin_mul, bin_eql, bin_neq, bin_lss, bin_leq, bin_gtr, bin_geq, ext0, ext1, ext2, lenS_mk, eqNil_none, eqNil_some, neNil_none, neNil_some, ret_k, mem, Nat.zero_add, Nat.add_zero, Nat.mul_one, drewV, Bool.not_true, Bool.not_false]
  try simp only [U64, ixS_mk hj, pv_some, nilO_ptr, faO_mk, gd_yes, gd_no, gd_yes', gd_no', cnd_true, cnd_false, pick_true, pick_false, not_bool, bin_add, bin_sub, bin_mul, bin_eql, bin_neq, bin_lss, bin_leq, bin_gtr, bin_geq, ext0, ext1, ext2, lenS_mk, eqNil_none, eqNil_some, neNil_none, neNil_some, ret_k, mem, Nat.zero_add, Nat.add_zero, Nat.mul_one, drewV, Bool.not_true, Bool.not_false]
  refine ld_h H11' 0 rfl hjb ?_
  have e1 : ixA 2 1 (.pointer (some ⟨c, 0, none⟩)) (.int .i64 1) = some (.pointer (some ⟨c, 1, none⟩)) := ixA_mk (j := 1) (by decide)
  simp only [e1, pv_some, nilO_ptr, faO_mk, gd_yes, gd_no, gd_yes', gd_no', cnd_true, cnd_false, pick_true, pick_false, not_bool, bin_add, bin_sub, bin_mul, bin_eql, bin_neq, bin_lss, bin_leq, bin_gtr, bin_geq, ext0, ext1, ext2, lenS_mk, eqNil_none, eqNil_some, neNil_none, neNil_some, ret_k, mem, Nat.zero_add, Nat.add_zero, Nat.mul_one, drewV, Bool.not_true, Bool.not_false]
  refine ld_h H11' 1 rfl rfl ?_
  obtain ⟨X, eX, hX⟩ := xorU8 (ys3[j]) (i1 % 256)
  simp only [cvU8, eX, pv_some, nilO_ptr, faO_mk, gd_yes, gd_no, gd_yes', gd_no', cnd_true, cnd_false, pick_true, pick_false, not_bool, bin_add, bin_sub, bin_mul, bin_eql, bin_neq, bin_lss, bin_leq, bin_gtr, bin_geq, ext0, ext1, ext2, lenS_mk, eqNil_none, eqNil_some, neNil_none, neNil_some, ret_k, mem, Nat.zero_add, Nat.add_zero, Nat.mul_one, drewV, Bool.not_true, Bool.not_false]
  refine st_h H11' 0 rfl (by simp [bv_length]; omega) rfl fun w12 H12 => ?_
  have eset : (bv ys3 ++ r3).set j (U8 X) = bv (ys3.set j X) ++ r3 := by
    rw [List.set_append_left _ _ (by rw [bv_length]; omega)]
    simp [bv]
  rw [eset] at H12
  generalize hys' : ys3.set j X = ysn at H12
  have hnl : ysn.length = n3 := by rw [← hys']; simp [hx3l]
  have hS4 : Sl 5 1 (.slice (some ⟨b3, 0, none⟩) n3 cap3) n3 (bv ysn) [⟨b3, 5, bv ysn ++ r3⟩] := .inr ⟨b3, cap3, r3, rfl, rfl, by rw [bv_length, hnl, Nat.mul_one], g2, g3⟩
  have hB : 0 ≤ dB ysn := by
    unfold dB
    rw [← hys', List.getD_eq_getElem?_getD, List.getElem?_set]
    by_cases h1 : j = 1
    · rw [if_pos h1, if_pos (by omega)]; exact hX
    · rw [if_neg h1, ← List.getD_eq_getElem?_getD, hys]
      show (0 : Int) ≤ lbit last
      cases last <;> decide
  clear hys' eset eX hX hjb er
  refine cal_h (Decode_spec (hS4.rdL fun c hc => by simp at hc; simp [hc]) (by omega) H12) ?_
  rintro e w13 ⟨k5, last5, m5, f5, s5, n5, ys5, cs5, rfl, H13, hS5, z5, o5⟩
  have f5sc := (hS5.rdL (L := cs5) (w0 := w0) fun c hc => hc).sc
  simp only [pv_some, nilO_ptr, faO_mk, gd_yes, gd_no, gd_yes', gd_no', cnd_true, cnd_false, pick_true, pick_false, not_bool, bin_add, bin_sub, bin_mul, bin_eql, bin_neq, bin_lss, bin_leq, bin_gtr, bin_geq, ext0, ext1, ext2, lenS_mk, eqNil_none, eqNil_some, neNil_none, neNil_some, ret_k, mem, Nat.zero_add, Nat.add_zero, Nat.mul_one, drewV, Bool.not_true, Bool.not_false]
  have H13' : Hp w0 w13 (⟨x7, 48, frm k1 last1 m1 f1 s1⟩ :: ⟨x9, 52, frm k1 last1 m1 f1 s2⟩ :: ⟨b3, 5, bv ysn ++ r3⟩ :: ⟨c, 59, [I i0, I i1]⟩ :: ⟨b, 48, frm k last m f s⟩ :: (cs5 ++ (cs1 ++ (cs2 ++ F)))) := H13.to (by intro f; simp only [I, U8, U64, ptr, List.set_cons_zero, List.set_cons_succ, List.eraseIdx_cons_zero, List.eraseIdx_cons_succ, List.map_append, List.map_cons, List.map_nil, List.sum_append, List.sum_cons, List.sum_nil]; omega)
  refine stA_h H13' 0 rfl rfl rfl (frm_scalar f5sc.1) fun w14 H14 => ?_
  simp only [List.set_cons_zero] at H14
  refine cal_h (rDecode_spec (hS4.rdL fun c hc => by simp at hc; simp [hc]) (by omega) hB H14) ?_
  rintro e w15 ⟨k6, last6, m6, f6, s6, n6, ys6, cs6, rfl, H15, hS6, z6, o6⟩
  obtain ⟨rfl, rfl, rfl, rfl, rfl, hn5⟩ := dec_same z5 o5 z6 o6
  have f6sc := (hS6.rdL (L := cs6) (w0 := w0) fun c hc => hc).sc
  simp only [pv_some, nilO_ptr, faO_mk, gd_yes, gd_no, gd_yes', gd_no', cnd_true, cnd_false, pick_true, pick_false, not_bool, bin_add, bin_sub, bin_mul, bin_eql, bin_neq, bin_lss, bin_leq, bin_gtr, bin_geq, ext0, ext1, ext2, lenS_mk, eqNil_none, eqNil_some, neNil_none, neNil_some, ret_k, mem, Nat.zero_add, Nat.add_zero, Nat.mul_one, drewV, Bool.not_true, Bool.not_false]
  have H15' : Hp w0 w15 (⟨x7, 48, frm k5 last5 m5 f5 s5⟩ :: ⟨x9, 52, frm k1 last1 m1 f1 s2⟩ :: ⟨b3, 5, bv ysn ++ r3⟩ :: ⟨c, 59, [I i0, I i1]⟩ :: ⟨b, 48, frm k last m f s⟩ :: (cs6 ++ (cs5 ++ (cs1 ++ (cs2 ++ F))))) := H15.to (by intro f; simp only [I, U8, U64, ptr, List.set_cons_zero, List.set_cons_succ, List.eraseIdx_cons_zero, List.eraseIdx_cons_succ, List.map_append, List.map_cons, List.map_nil, List.sum_append, List.sum_cons, List.sum_nil]; omega)
  refine stA_h H15' 1 rfl rfl rfl (frm_scalar f6sc.1) fun w16 H16 => ?_
  simp only [List.set_cons_zero, List.set_cons_succ] at H16
  simp only [decide_true, pv_some, nilO_ptr, faO_mk, gd_yes, gd_no, gd_yes', gd_no', cnd_true, cnd_false, pick_true, pick_false, not_bool, bin_add, bin_sub, bin_mul, bin_eql, bin_neq, bin_lss, bin_leq, bin_gtr, bin_geq, ext0, ext1, ext2, lenS_mk, eqNil_none, eqNil_some, neNil_none, neNil_some, ret_k, mem, Nat.zero_add, Nat.add_zero, Nat.mul_one, drewV, Bool.not_true, Bool.not_false]
  refine ldA_h H16 0 rfl rfl ?_
  refine ldA_h H16 1 rfl rfl ?_
  refine cal_h (sameFrame_true H16 (hS5.rdL fun c hc => by simp [hc]) (hS6.rdL fun c hc => by simp [hc]) hn5) ?_
  rintro e w17 ⟨rfl, H17⟩
  simp only [pv_some, nilO_ptr, faO_mk, gd_yes, gd_no, gd_yes', gd_no', cnd_true, cnd_false, pick_true, pick_false, not_bool, bin_add, bin_sub, bin_mul, bin_eql, bin_neq, bin_lss, bin_leq, bin_gtr, bin_geq, ext0, ext1, ext2, lenS_mk, eqNil_none, eqNil_some, neNil_none, neNil_some, ret_k, mem, Nat.zero_add, Nat.add_zero, Nat.mul_one, drewV, Bool.not_true, Bool.not_false]
  refine cal_h (awake_spec H17) ?_
  rintro e w18 ⟨rfl, H18⟩
  simp only [pv_some, nilO_ptr, faO_mk, gd_yes, gd_no, gd_yes', gd_no', cnd_true, cnd_false, pick_true, pick_false, not_bool, bin_add, bin_sub, bin_mul, bin_eql, bin_neq, bin_lss, bin_leq, bin_gtr, bin_geq, ext0, ext1, ext2, lenS_mk, eqNil_none, eqNil_some, neNil_none, neNil_some, ret_k, mem, Nat.zero_add, Nat.add_zero, Nat.mul_one, drewV, Bool.not_true, Bool.not_false]
  exact ⟨rfl, H18.to (by intro f; simp only [I, U8, U64, ptr, List.set_cons_zero, List.set_cons_succ, List.eraseIdx_cons_zero, List.eraseIdx_cons_succ, List.map_append, List.map_cons, List.map_nil, List.sum_append, List.sum_cons, List.sum_nil]; omega)⟩
end
end Go.Proofs.Ytmnpndgmfmjfhaa.Den
