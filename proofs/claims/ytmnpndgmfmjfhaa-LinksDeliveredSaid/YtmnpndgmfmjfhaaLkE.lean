/- Links: the reference's Encode, whole. Conditions: none. -/
import Derived.Test.YtmnpndgmfmjfhaaLkD
set_option linter.unusedVariables false
set_option linter.unusedSimpArgs false
set_option maxRecDepth 8000
namespace Go.Proofs.Ytmnpndgmfmjfhaa.Den
open Go Go.RowKit
section
variable {w : World} {w0 : Base} {F L : List Chunk} {R : ER} {k : Int} {last : Bool} {m f : Int} {s : Value} {n b : Nat} {xs : List Int}
/-- append of bytes. -/
theorem appB {s src : Value} {n m : Nat} {xs ys : List Int} {cs F : List Chunk} {K : VK} {R : ER} {w : World} {ty : Nat} {cc : Array Bool} (H : Hp w0 w (cs ++ F)) (hs : Sl 5 1 s n (bv xs) cs) (hsrc : RdL w0 (cs ++ F) 1 src m (bv ys))
    (hsize : n + m < 2 ^ 40) (k : ∀ w' s' cs', Hp w0 w' (cs' ++ F) → Sl 5 1 s' (n + m) (bv (xs ++ ys)) cs' → K s' w') : blt Pg R .append ⟨[24, 24]⟩ ty cc ⟨[s, src]⟩ K w :=
  append_h elT24 H hs hsrc bv_scalar (by omega) (by omega) fun w' s' cs' H' hs' => k w' s' cs' H' (by rw [bv_append]; exact hs')
theorem renc_j6 {s5 : Value} {cs5 : List Chunk} (hs : RdL w0 F 1 s n (bv xs)) (hn : n ≤ 4096) (H : Hp w0 w (cs5 ++ (⟨b, 52, frm k last m f s⟩ :: F))) (h5 : Sl 5 1 s5 4 (bv ([k % 256, lbit last] ++ be 2 (u64 n))) cs5)
    (hok : ∀ w' s' cs', Hp w0 w' (cs' ++ F) → Sl 5 1 s' (24 + n) (bv (encB k last m f xs)) cs' → R (.returned (.tuple ⟨[s', I 0]⟩)) w') : orpimentref35_Encode_j6 R (ptr b 0) s5 w := by
  have hlen : xs.length = n := by have := hs.length; rw [bv_length] at this; omega
  unfold orpimentref35_Encode_j6
  have H1 : Hp w0 w.drew (⟨b, 52, frm k last m f s⟩ :: (cs5 ++ F)) := H.drew.to (by intro f; simp only [I, U8, U64, ptr, List.set_cons_zero, List.set_cons_succ, List.eraseIdx_cons_zero, List.eraseIdx_cons_succ, List.map_append, List.map_cons, List.map_nil, List.sum_append, List.sum_cons, List.sum_nil]; omega)
  simp only [pv_some, nilO_ptr, faO_mk, gd_yes, gd_no, gd_yes', gd_no', cnd_true, cnd_false, pick_true, pick_false, not_bool, bin_add, bin_sub, bin_mul, bin_eql, bin_neq, bin_lss, bin_leq, bin_gtr, bin_geq, ext0, ext1, ext2, lenS_mk, eqNil_none, eqNil_some, neNil_none, neNil_some, ret_k, mem, Nat.zero_add, Nat.add_zero, Nat.mul_one, drewV, Bool.not_true, Bool.not_false]
  refine ld_h H1 0 rfl rfl ?_
  simp only [pv_some, nilO_ptr, faO_mk, gd_yes, gd_no, gd_yes', gd_no', cnd_true, cnd_false, pick_true, pick_false, not_bool, bin_add, bin_sub, bin_mul, bin_eql, bin_neq, bin_lss, bin_leq, bin_gtr, bin_geq, ext0, ext1, ext2, lenS_mk, eqNil_none, eqNil_some, neNil_none, neNil_some, ret_k, mem, Nat.zero_add, Nat.add_zero, Nat.mul_one, drewV, Bool.not_true, Bool.not_false, cvU64]
  refine cal_h (rput_spec (n := 8) (by omega) H1) ?_
  rintro e w2 ⟨s2, cs2, rfl, H2, h2⟩
  simp only [pv_some, nilO_ptr, faO_mk, gd_yes, gd_no, gd_yes', gd_no', cnd_true, cnd_false, pick_true, pick_false, not_bool, bin_add, bin_sub, bin_mul, bin_eql, bin_neq, bin_lss, bin_leq, bin_gtr, bin_geq, ext0, ext1, ext2, lenS_mk, eqNil_none, eqNil_some, neNil_none, neNil_some, ret_k, mem, Nat.zero_add, Nat.add_zero, Nat.mul_one, drewV, Bool.not_true, Bool.not_false]
  have H2' : Hp w0 w2 (cs5 ++ (⟨b, 52, frm k last m f s⟩ :: (cs2 ++ F))) := H2.to (by intro f; simp only [I, U8, U64, ptr, List.set_cons_zero, List.set_cons_succ, List.eraseIdx_cons_zero, List.eraseIdx_cons_succ, List.map_append, List.map_cons, List.map_nil, List.sum_append, List.sum_cons, List.sum_nil]; omega)
  have H2c : Hp w0 w2 (⟨b, 52, frm k last m f s⟩ :: (cs5 ++ (cs2 ++ F))) := H2.to (by intro f; simp only [I, U8, U64, ptr, List.set_cons_zero, List.set_cons_succ, List.eraseIdx_cons_zero, List.eraseIdx_cons_succ, List.map_append, List.map_cons, List.map_nil, List.sum_append, List.sum_cons, List.sum_nil]; omega)
  refine appB H2' h5 (h2.rdL (fun c hc => by simp [hc])) (by omega) fun w3 s3 cs3 H3 h3 => ?_
  have H3c : Hp w0 w3 (⟨b, 52, frm k last m f s⟩ :: (cs3 ++ F)) := H3.to (by intro f; simp only [I, U8, U64, ptr, List.set_cons_zero, List.set_cons_succ, List.eraseIdx_cons_zero, List.eraseIdx_cons_succ, List.map_append, List.map_cons, List.map_nil, List.sum_append, List.sum_cons, List.sum_nil]; omega)
  refine ldS_h H3c 0 rfl rfl (mem2 (H2c.cell 0 rfl rfl) (H1.cell 0 rfl rfl)) ?_
  simp only [pv_some, nilO_ptr, faO_mk, gd_yes, gd_no, gd_yes', gd_no', cnd_true, cnd_false, pick_true, pick_false, not_bool, bin_add, bin_sub, bin_mul, bin_eql, bin_neq, bin_lss, bin_leq, bin_gtr, bin_geq, ext0, ext1, ext2, lenS_mk, eqNil_none, eqNil_some, neNil_none, neNil_some, ret_k, mem, Nat.zero_add, Nat.add_zero, Nat.mul_one, drewV, Bool.not_true, Bool.not_false, cvU64]
  refine cal_h (rput_spec (n := 4) (by omega) H3c) ?_
  rintro e w4 ⟨s4, cs4, rfl, H4, h4⟩
  simp only [pv_some, nilO_ptr, faO_mk, gd_yes, gd_no, gd_yes', gd_no', cnd_true, cnd_false, pick_true, pick_false, not_bool, bin_add, bin_sub, bin_mul, bin_eql, bin_neq, bin_lss, bin_leq, bin_gtr, bin_geq, ext0, ext1, ext2, lenS_mk, eqNil_none, eqNil_some, neNil_none, neNil_some, ret_k, mem, Nat.zero_add, Nat.add_zero, Nat.mul_one, drewV, Bool.not_true, Bool.not_false]
  have H4' : Hp w0 w4 (cs3 ++ (⟨b, 52, frm k last m f s⟩ :: (cs4 ++ F))) := H4.to (by intro f; simp only [I, U8, U64, ptr, List.set_cons_zero, List.set_cons_succ, List.eraseIdx_cons_zero, List.eraseIdx_cons_succ, List.map_append, List.map_cons, List.map_nil, List.sum_append, List.sum_cons, List.sum_nil]; omega)
  refine appB H4' h3 (h4.rdL (fun c hc => by simp [hc])) (by omega) fun w5 s6 cs6 H5 h6 => ?_
  have eH : [k % 256, lbit last] ++ be 2 (u64 n) ++ be 8 (u64 m) ++ be 4 (u64 f) = encH k last m f n := rfl
  rw [eH] at h6
  have H5c : Hp w0 w5.drew (⟨b, 52, frm k last m f s⟩ :: (cs6 ++ F)) := H5.drew.to (by intro f; simp only [I, U8, U64, ptr, List.set_cons_zero, List.set_cons_succ, List.eraseIdx_cons_zero, List.eraseIdx_cons_succ, List.map_append, List.map_cons, List.map_nil, List.sum_append, List.sum_cons, List.sum_nil]; omega)
  refine lit0_h elT24 H5c fun w6 s7 H6 h7 => ?_
  simp only [pv_some, nilO_ptr, faO_mk, gd_yes, gd_no, gd_yes', gd_no', cnd_true, cnd_false, pick_true, pick_false, not_bool, bin_add, bin_sub, bin_mul, bin_eql, bin_neq, bin_lss, bin_leq, bin_gtr, bin_geq, ext0, ext1, ext2, lenS_mk, eqNil_none, eqNil_some, neNil_none, neNil_some, ret_k, mem, Nat.zero_add, Nat.add_zero, Nat.mul_one, drewV, Bool.not_true, Bool.not_false]
  refine appB (cs := []) (xs := []) H6 h7 (h6.rdL (fun c hc => by simp [hc])) (by omega) fun w7 s8 cs8 H7 h8 => ?_
  have H7c : Hp w0 w7 (⟨b, 52, frm k last m f s⟩ :: (cs8 ++ (cs6 ++ F))) := H7.to (by intro f; simp only [I, U8, U64, ptr, List.set_cons_zero, List.set_cons_succ, List.eraseIdx_cons_zero, List.eraseIdx_cons_succ, List.map_append, List.map_cons, List.map_nil, List.sum_append, List.sum_cons, List.sum_nil]; omega)
  refine ldS_h H7c 0 rfl rfl (mem2 (H6.cell 0 rfl rfl) (H5c.cell 0 rfl rfl)) ?_
  have H7d : Hp w0 w7 (cs8 ++ (⟨b, 52, frm k last m f s⟩ :: (cs6 ++ F))) := H7
  refine appB H7d h8 (hs.mono (fun c hc => by simp [hc])) (by omega) fun w8 s9 cs9 H8 h9 => ?_
  refine cal_h (rdig_spec ((h9.rdL (L := cs9 ++ (⟨b, 52, frm k last m f s⟩ :: (cs6 ++ F))) (fun c hc => by simp [hc])).rd H8) (by omega)) ?_
  rintro e w9 ⟨rfl, rfl⟩
  simp only [pv_some, nilO_ptr, faO_mk, gd_yes, gd_no, gd_yes', gd_no', cnd_true, cnd_false, pick_true, pick_false, not_bool, bin_add, bin_sub, bin_mul, bin_eql, bin_neq, bin_lss, bin_leq, bin_gtr, bin_geq, ext0, ext1, ext2, lenS_mk, eqNil_none, eqNil_some, neNil_none, neNil_some, ret_k, mem, Nat.zero_add, Nat.add_zero, Nat.mul_one, drewV, Bool.not_true, Bool.not_false]
  have H8c : Hp w0 _ (⟨b, 52, frm k last m f s⟩ :: (cs6 ++ F)) := H8.drew.to (by intro f; simp only [I, U8, U64, ptr, List.set_cons_zero, List.set_cons_succ, List.eraseIdx_cons_zero, List.eraseIdx_cons_succ, List.map_append, List.map_cons, List.map_nil, List.sum_append, List.sum_cons, List.sum_nil]; omega)
  refine cal_h (rput_spec (n := 8) (by omega) H8c) ?_
  rintro e w10 ⟨s11, cs11, rfl, H10, h11⟩
  simp only [pv_some, nilO_ptr, faO_mk, gd_yes, gd_no, gd_yes', gd_no', cnd_true, cnd_false, pick_true, pick_false, not_bool, bin_add, bin_sub, bin_mul, bin_eql, bin_neq, bin_lss, bin_leq, bin_gtr, bin_geq, ext0, ext1, ext2, lenS_mk, eqNil_none, eqNil_some, neNil_none, neNil_some, ret_k, mem, Nat.zero_add, Nat.add_zero, Nat.mul_one, drewV, Bool.not_true, Bool.not_false]
  have H10' : Hp w0 w10 (cs6 ++ (⟨b, 52, frm k last m f s⟩ :: (cs11 ++ F))) := H10.to (by intro f; simp only [I, U8, U64, ptr, List.set_cons_zero, List.set_cons_succ, List.eraseIdx_cons_zero, List.eraseIdx_cons_succ, List.map_append, List.map_cons, List.map_nil, List.sum_append, List.sum_cons, List.sum_nil]; omega)
  have H10c : Hp w0 w10 (⟨b, 52, frm k last m f s⟩ :: (cs6 ++ (cs11 ++ F))) := H10.to (by intro f; simp only [I, U8, U64, ptr, List.set_cons_zero, List.set_cons_succ, List.eraseIdx_cons_zero, List.eraseIdx_cons_succ, List.map_append, List.map_cons, List.map_nil, List.sum_append, List.sum_cons, List.sum_nil]; omega)
  refine appB H10' h6 (h11.rdL (fun c hc => by simp [hc])) (by omega) fun w11 s12 cs12 H11 h12 => ?_
  have H11c : Hp w0 w11 (⟨b, 52, frm k last m f s⟩ :: (cs12 ++ F)) := H11.to (by intro f; simp only [I, U8, U64, ptr, List.set_cons_zero, List.set_cons_succ, List.eraseIdx_cons_zero, List.eraseIdx_cons_succ, List.map_append, List.map_cons, List.map_nil, List.sum_append, List.sum_cons, List.sum_nil]; omega)
  refine ldS_h H11c 0 rfl rfl (mem2 (H10c.cell 0 rfl rfl) (H8c.cell 0 rfl rfl)) ?_
  refine appB (F := ⟨b, 52, frm k last m f s⟩ :: (cs11 ++ F)) H11 h12 (hs.mono (fun c hc => by simp [hc])) (by omega) fun w12 s13 cs13 H12 h13 => ?_
  refine hok w12 s13 cs13 (H12.to (by intro f; simp only [I, U8, U64, ptr, List.set_cons_zero, List.set_cons_succ, List.eraseIdx_cons_zero, List.eraseIdx_cons_succ, List.map_append, List.map_cons, List.map_nil, List.sum_append, List.sum_cons, List.sum_nil]; omega)) ?_
  have e9 : encH k last m f n ++ be 8 (digI ([] ++ encH k last m f n ++ xs)) ++ xs = encB k last m f xs := by
    unfold encB; rw [hlen]; rfl
  rw [e9] at h13
  have e10 : 4 + 8 + 4 + 8 + n = 24 + n := by omega
  rw [e10] at h13
  exact h13
theorem renc_j5 (hs : RdL w0 F 1 s n (bv xs)) (hn : n ≤ 4096) (H : Hp w0 w (⟨b, 52, frm k last m f s⟩ :: F))
    (hok : ∀ w' s' cs', Hp w0 w' (cs' ++ F) → Sl 5 1 s' (24 + n) (bv (encB k last m f xs)) cs' → R (.returned (.tuple ⟨[s', I 0]⟩)) w') : orpimentref35_Encode_j5 R (ptr b 0) (U8 (lbit last)) w := by
  unfold orpimentref35_Encode_j5
  have H0 := H.drew
  simp only [pv_some, nilO_ptr, faO_mk, gd_yes, gd_no, gd_yes', gd_no', cnd_true, cnd_false, pick_true, pick_false, not_bool, bin_add, bin_sub, bin_mul, bin_eql, bin_neq, bin_lss, bin_leq, bin_gtr, bin_geq, ext0, ext1, ext2, lenS_mk, eqNil_none, eqNil_some, neNil_none, neNil_some, ret_k, mem, Nat.zero_add, Nat.add_zero, Nat.mul_one, drewV, Bool.not_true, Bool.not_false]
  refine ld_h H0 0 rfl rfl ?_
  simp only [pv_some, nilO_ptr, faO_mk, gd_yes, gd_no, gd_yes', gd_no', cnd_true, cnd_false, pick_true, pick_false, not_bool, bin_add, bin_sub, bin_mul, bin_eql, bin_neq, bin_lss, bin_leq, bin_gtr, bin_geq, ext0, ext1, ext2, lenS_mk, eqNil_none, eqNil_some, neNil_none, neNil_some, ret_k, mem, Nat.zero_add, Nat.add_zero, Nat.mul_one, drewV, Bool.not_true, Bool.not_false, cvU8]
  refine ld_h H0 0 rfl rfl ?_
  simp only [lenS_rdL hs, pv_some, nilO_ptr, faO_mk, gd_yes, gd_no, gd_yes', gd_no', cnd_true, cnd_false, pick_true, pick_false, not_bool, bin_add, bin_sub, bin_mul, bin_eql, bin_neq, bin_lss, bin_leq, bin_gtr, bin_geq, ext0, ext1, ext2, lenS_mk, eqNil_none, eqNil_some, neNil_none, neNil_some, ret_k, mem, Nat.zero_add, Nat.add_zero, Nat.mul_one, drewV, Bool.not_true, Bool.not_false, cvU64]
  have hlit : ∀ {L : List Chunk} {w : World} {K : VK} {R : ER}, Hp w0 w L → (∀ w' s', ∀ nb, Hp w0 w' ([⟨nb, 5, bv [k % 256, lbit last]⟩] ++ L) → Sl 5 1 s' 2 (bv [k % 256, lbit last]) [⟨nb, 5, bv [k % 256, lbit last]⟩] → K s' w') →
      valV Pg R (Instr.buildSlice 24 2 ⟨[(0, U8 (k % 256)), (1, U8 (lbit last))]⟩) K w := by
    intro L w K R H kk
    exact lit_h (r := bv [k % 256, lbit last]) elT24 H (by omega) (by omega) rfl fun w' nb H' => kk w' _ nb H' (Sl.full rfl)
  refine ⟨?_, ?_⟩
  · refine hlit H0 fun w1 s1 nb H1 h1 => ?_
    refine ⟨H1.cell 1 rfl rfl, ?_⟩
    refine cal_h (rput_spec (n := 2) (by omega) H1) ?_
    rintro e w2 ⟨s2, cs2, rfl, H2, h2⟩
    have H2c : Hp w0 w2 (⟨b, 52, frm k last m f s⟩ :: ([⟨nb, 5, bv [k % 256, lbit last]⟩] ++ (cs2 ++ F))) := H2.to (by intro f; simp only [I, U8, U64, ptr, List.set_cons_zero, List.set_cons_succ, List.eraseIdx_cons_zero, List.eraseIdx_cons_succ, List.map_append, List.map_cons, List.map_nil, List.sum_append, List.sum_cons, List.sum_nil]; omega)
    simp only [pv_some, nilO_ptr, faO_mk, gd_yes, gd_no, gd_yes', gd_no', cnd_true, cnd_false, pick_true, pick_false, not_bool, bin_add, bin_sub, bin_mul, bin_eql, bin_neq, bin_lss, bin_leq, bin_gtr, bin_geq, ext0, ext1, ext2, lenS_mk, eqNil_none, eqNil_some, neNil_none, neNil_some, ret_k, mem, Nat.zero_add, Nat.add_zero, Nat.mul_one, drewV, Bool.not_true, Bool.not_false]
    refine ⟨H2c.cell 0 rfl rfl, ?_⟩
    have H2' : Hp w0 w2 ([⟨nb, 5, bv [k % 256, lbit last]⟩] ++ (⟨b, 52, frm k last m f s⟩ :: (cs2 ++ F))) := H2.to (by intro f; simp only [I, U8, U64, ptr, List.set_cons_zero, List.set_cons_succ, List.eraseIdx_cons_zero, List.eraseIdx_cons_succ, List.map_append, List.map_cons, List.map_nil, List.sum_append, List.sum_cons, List.sum_nil]; omega)
    refine appB H2' h1 (h2.rdL (fun c hc => by simp [hc])) (by omega) fun w3 s3 cs3 H3 h3 => ?_
    exact renc_j6 (hs.mono (fun c hc => hc)) hn (H3.to (by intro f; simp only [I, U8, U64, ptr, List.set_cons_zero, List.set_cons_succ, List.eraseIdx_cons_zero, List.eraseIdx_cons_succ, List.map_append, List.map_cons, List.map_nil, List.sum_append, List.sum_cons, List.sum_nil]; omega)) h3 hok
  · refine cal_h (rput_spec (n := 2) (by omega) H0) ?_
    rintro e w2 ⟨s2, cs2, rfl, H2, h2⟩
    have H2c : Hp w0 w2 (⟨b, 52, frm k last m f s⟩ :: (cs2 ++ F)) := H2.to (by intro f; simp only [I, U8, U64, ptr, List.set_cons_zero, List.set_cons_succ, List.eraseIdx_cons_zero, List.eraseIdx_cons_succ, List.map_append, List.map_cons, List.map_nil, List.sum_append, List.sum_cons, List.sum_nil]; omega)
    simp only [pv_some, nilO_ptr, faO_mk, gd_yes, gd_no, gd_yes', gd_no', cnd_true, cnd_false, pick_true, pick_false, not_bool, bin_add, bin_sub, bin_mul, bin_eql, bin_neq, bin_lss, bin_leq, bin_gtr, bin_geq, ext0, ext1, ext2, lenS_mk, eqNil_none, eqNil_some, neNil_none, neNil_some, ret_k, mem, Nat.zero_add, Nat.add_zero, Nat.mul_one, drewV, Bool.not_true, Bool.not_false]
    refine ⟨H2c.cell 0 rfl rfl, ?_⟩
    refine hlit H2c fun w1 s1 nb H1 h1 => ?_
    refine ⟨H1.cell 1 rfl rfl, ?_⟩
    refine appB H1 h1 (h2.rdL (fun c hc => by simp [hc])) (by omega) fun w3 s3 cs3 H3 h3 => ?_
    exact renc_j6 (hs.mono (fun c hc => hc)) hn (H3.to (by intro f; simp only [I, U8, U64, ptr, List.set_cons_zero, List.set_cons_succ, List.eraseIdx_cons_zero, List.eraseIdx_cons_succ, List.map_append, List.map_cons, List.map_nil, List.sum_append, List.sum_cons, List.sum_nil]; omega)) h3 hok
theorem rEncode_spec (hs : RdL w0 F 1 s n (bv xs)) (H : Hp w0 w F) :
    Calls Pg 17 ⟨[.agg ⟨frm k last m f s⟩]⟩ w (EncPost w0 F k last m f n xs) := by
  apply orpimentref35_Encode_calls
  rw [renc_0]
  refine bxa_h H fun w1 b H1 => ?_
  refine renc_head H1 hs (fun he => ?_) (fun he => ?_)
  · exact ⟨_, 0, [], [], rfl, H1.tail, Sl.nil, fun _ => ⟨rfl, rfl, rfl⟩, fun h => absurd h he⟩
  · have hn : n ≤ 4096 := by
      refine Nat.le_of_not_lt fun h4 => ?_
      have : encE k last m f n ≠ 0 := by
        unfold encE
        split
        · decide
        · split
          · decide
          · split
            · decide
            · first | decide | (rw [if_pos h4]; decide)
      exact this he
    unfold orpimentref35_Encode_j4
    simp only [pv_some, nilO_ptr, faO_mk, gd_yes, gd_no, gd_yes', gd_no', cnd_true, cnd_false, pick_true, pick_false, not_bool, bin_add, bin_sub, bin_mul, bin_eql, bin_neq, bin_lss, bin_leq, bin_gtr, bin_geq, ext0, ext1, ext2, lenS_mk, eqNil_none, eqNil_some, neNil_none, neNil_some, ret_k, mem, Nat.zero_add, Nat.add_zero, Nat.mul_one, drewV, Bool.not_true, Bool.not_false]
    refine ld_h H1 0 rfl rfl ?_
    have fin : orpimentref35_Encode_j5 (EncPost w0 F k last m f n xs) (ptr b 0) (U8 (lbit last)) w1 := renc_j5 hs hn H1 fun w' s' cs' H' hs' =>
      ⟨s', 24 + n, _, cs', by rw [he], H', hs', fun h => absurd he h, fun _ => ⟨hn, rfl, rfl⟩⟩
    cases hl : last with
    | true => rw [hl] at fin; simp only [pv_some, nilO_ptr, faO_mk, gd_yes, gd_no, gd_yes', gd_no', cnd_true, cnd_false, pick_true, pick_false, not_bool, bin_add, bin_sub, bin_mul, bin_eql, bin_neq, bin_lss, bin_leq, bin_gtr, bin_geq, ext0, ext1, ext2, lenS_mk, eqNil_none, eqNil_some, neNil_none, neNil_some, ret_k, mem, Nat.zero_add, Nat.add_zero, Nat.mul_one, drewV, Bool.not_true, Bool.not_false]; exact fin
    | false => rw [hl] at fin; simp only [pv_some, nilO_ptr, faO_mk, gd_yes, gd_no, gd_yes', gd_no', cnd_true, cnd_false, pick_true, pick_false, not_bool, bin_add, bin_sub, bin_mul, bin_eql, bin_neq, bin_lss, bin_leq, bin_gtr, bin_geq, ext0, ext1, ext2, lenS_mk, eqNil_none, eqNil_some, neNil_none, neNil_some, ret_k, mem, Nat.zero_add, Nat.add_zero, Nat.mul_one, drewV, Bool.not_true, Bool.not_false]; exact fin
end
end Go.Proofs.Ytmnpndgmfmjfhaa.Den
