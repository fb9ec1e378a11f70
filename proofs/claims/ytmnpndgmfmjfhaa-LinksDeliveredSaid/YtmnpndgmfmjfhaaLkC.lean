/- Links: Encode, the program's, walked. Conditions: none. -/
import Derived.Test.YtmnpndgmfmjfhaaLkB
set_option linter.unusedVariables false
set_option linter.unusedSimpArgs false
set_option maxRecDepth 8000
namespace Go.Proofs.Ytmnpndgmfmjfhaa.Den
open Go Go.RowKit
def encE (k : Int) (last : Bool) (m f : Int) (n : Nat) : Int :=
  if k ≠ 1 ∧ k ≠ 2 then 17 else if k = 2 ∧ (last = true ∨ 0 < n) then 14 else if m < 1 ∨ f < 0 ∨ 2147483647 < f then 34 else if 4096 < n then 20 else 0
def u64 (x : Int) : Int := x % 18446744073709551616
def lbit (last : Bool) : Int := if last then 1 else 0
def encH (k : Int) (last : Bool) (m f : Int) (n : Nat) : List Int := [k % 256, lbit last] ++ be 2 (u64 n) ++ be 8 (u64 m) ++ be 4 (u64 f)
def encB (k : Int) (last : Bool) (m f : Int) (xs : List Int) : List Int := encH k last m f xs.length ++ be 8 (digI (encH k last m f xs.length ++ xs)) ++ xs
def frm (k : Int) (last : Bool) (m f : Int) (s : Value) : List Value := [I k, .bool last, I m, I f, s]
theorem cvU64 (k : IntKind) (a : Int) : cvI .u64 (.int k a) = some (U64 (u64 a)) := by simp only [cvI, wrapU64]; rfl
theorem cvU8 (k : IntKind) (a : Int) : cvI .u8 (.int k a) = some (U8 (a % 256)) := by simp only [cvI, wrapU8]
theorem encH_length (k : Int) (last : Bool) (m f : Int) (n : Nat) : (encH k last m f n).length = 16 := by simp [encH, be_length]
theorem encB_length (k : Int) (last : Bool) (m f : Int) (xs : List Int) : (encB k last m f xs).length = 24 + xs.length := by simp [encB, encH_length, be_length]; omega
/-- 24 bytes, then others. -/
def h24 (k : Int) (last : Bool) : List Value := [U8 (k % 256), U8 (lbit last), U8 0, U8 0, U8 0, U8 0, U8 0, U8 0, U8 0, U8 0, U8 0, U8 0, U8 0, U8 0, U8 0, U8 0, U8 0, U8 0, U8 0, U8 0, U8 0, U8 0, U8 0, U8 0]
theorem h24_length (k : Int) (last : Bool) : (h24 k last).length = 24 := rfl
theorem be2 (x : Int) : ∃ a b, be 2 x = [a, b] := ⟨_, _, rfl⟩
theorem be4 (x : Int) : ∃ a b c d, be 4 x = [a, b, c, d] := ⟨_, _, _, _, rfl⟩
theorem be8 (x : Int) : ∃ a b c d e f g h, be 8 x = [a, b, c, d, e, f, g, h] := ⟨_, _, _, _, _, _, _, _, rfl⟩
theorem enc_lay (k : Int) (last : Bool) (m f : Int) (n : Nat) (l : List Value) :
    lay (lay (lay (h24 k last ++ l) 2 (bv (be 2 (u64 n)))) 4 (bv (be 8 (u64 m)))) 12 (bv (be 4 (u64 f))) = bv (encH k last m f n ++ [0, 0, 0, 0, 0, 0, 0, 0]) ++ l := by
  unfold encH
  obtain ⟨a0, a1, ha⟩ := be2 (u64 n)
  obtain ⟨b0, b1, b2, b3, b4, b5, b6, b7, hb⟩ := be8 (u64 m)
  obtain ⟨c0, c1, c2, c3, hc⟩ := be4 (u64 f)
  rw [ha, hb, hc]; rfl
theorem enc_lay2 (h : List Int) (hh : h.length = 16) (d : Int) (l : List Value) : lay (bv (h ++ [0, 0, 0, 0, 0, 0, 0, 0]) ++ l) 16 (bv (be 8 d)) = bv (h ++ be 8 d) ++ l := by
  have e : bv (h ++ [0, 0, 0, 0, 0, 0, 0, 0]) ++ l = bv h ++ (bv [0, 0, 0, 0, 0, 0, 0, 0] ++ l) := by rw [bv_append, List.append_assoc]
  have hl : (bv h).length = 16 := by rw [bv_length, hh]
  rw [e]
  unfold lay
  rw [List.take_left' hl, bv_length, be_length, List.drop_append, List.drop_of_length_le (by omega), hl, bv_append]
  simp [bv]
theorem ixA42_0 (b : Nat) : ixA 4 2 (ptr b 0) (I 0) = some (ptr b 0) := rfl
theorem ixA42_1 (b : Nat) : ixA 4 2 (ptr b 0) (I 1) = some (ptr b 2) := rfl
theorem ixA42_2 (b : Nat) : ixA 4 2 (ptr b 0) (I 2) = some (ptr b 4) := rfl
theorem ixA42_3 (b : Nat) : ixA 4 2 (ptr b 0) (I 3) = some (ptr b 6) := rfl
section
variable {w : World} {w0 : Base} {F L : List Chunk} {R : ER} {k : Int} {last : Bool} {m f : Int} {s : Value} {n b : Nat} {xs : List Int}
theorem enc_j2 {nb cap : Nat} {rest : List Value} (hs : RdL w0 F 1 s n (bv xs)) (hn : n ≤ 4096) (hcap : 24 + n ≤ cap)
    (H : Hp w0 w (⟨nb, 5, h24 k last ++ (bv xs ++ rest)⟩ :: ⟨b, 48, frm k last m f s⟩ :: F))
    (hr : rest.length = cap - (24 + n))
    (hok : ∀ w', Hp w0 w' (⟨nb, 5, bv (encB k last m f xs) ++ rest⟩ :: F) → R (.returned (.tuple ⟨[.slice (some ⟨nb, 0, none⟩) (24 + n) cap, I 0]⟩)) w') :
    links_Encode_j2 R (ptr b 0) (.slice (some ⟨nb, 0, none⟩) (24 + n) cap) w := by
  have hlen : xs.length = n := by have := hs.length; rw [bv_length] at this; omega
  unfold links_Encode_j2
  refine cal_h (fields_spec H) ?_
  rintro e w1 ⟨rfl, H1⟩
  simp only [pv_some, nilO_ptr, faO_mk, gd_yes, gd_no, gd_yes', gd_no', cnd_true, cnd_false, pick_true, pick_false, not_bool, bin_add, bin_sub, bin_mul, bin_eql, bin_neq, bin_lss, bin_leq, bin_gtr, bin_geq, ext0, ext1, ext2, lenS_mk, eqNil_none, eqNil_some, neNil_none, neNil_some, ret_k, mem, Nat.zero_add, Nat.add_zero, Nat.mul_one, drewV, Bool.not_true, Bool.not_false]
  refine al_h H1 (z := [I 0, I 0, I 0, I 0, I 0, I 0, I 0, I 0]) (by kernel_rfl) fun w2 fb H2 => ?_
  refine stN_h H2 0 rfl rfl (by decide) (by decide) fun w3 H3 => ?_
  replace H3 : Hp w0 w3 (⟨fb, 112, [I 2, I 2, I 4, I 8, I 12, I 4, I 16, I 8]⟩ :: _) := H3
  try simp only [ixA42_0, ixA42_1, ixA42_2, ixA42_3, pv_some, nilO_ptr, faO_mk, gd_yes, gd_no, gd_yes', gd_no', cnd_true, cnd_false, pick_true, pick_false, not_bool, bin_add, bin_sub, bin_mul, bin_eql, bin_neq, bin_lss, bin_leq, bin_gtr, bin_geq, ext0, ext1, ext2, lenS_mk, eqNil_none, eqNil_some, neNil_none, neNil_some, ret_k, mem, Nat.zero_add, Nat.add_zero, Nat.mul_one, drewV, Bool.not_true, Bool.not_false]
  refine ldN_h H3 0 rfl (by decide) ?_
  refine ld_h H3 2 rfl rfl ?_
  simp only [lenS_rdL hs, pv_some, nilO_ptr, faO_mk, gd_yes, gd_no, gd_yes', gd_no', cnd_true, cnd_false, pick_true, pick_false, not_bool, bin_add, bin_sub, bin_mul, bin_eql, bin_neq, bin_lss, bin_leq, bin_gtr, bin_geq, ext0, ext1, ext2, lenS_mk, eqNil_none, eqNil_some, neNil_none, neNil_some, ret_k, mem, Nat.zero_add, Nat.add_zero, Nat.mul_one, drewV, Bool.not_true, Bool.not_false, cvU64]
  have HA : Hp w0 w3 (⟨nb, 5, _⟩ :: ⟨fb, 112, [I 2, I 2, I 4, I 8, I 12, I 4, I 16, I 8]⟩ :: ⟨b, 48, frm k last m f s⟩ :: F) := H3.pull (i := 1) rfl
  refine cal_h (put_spec (at_ := 2) (n := 2) (len := 24 + n) (cap := cap) HA (by omega) (by simp [bv_length, h24_length]; omega) (by omega)) ?_
  rintro e w4 ⟨rfl, H4⟩
  simp only [pv_some, nilO_ptr, faO_mk, gd_yes, gd_no, gd_yes', gd_no', cnd_true, cnd_false, pick_true, pick_false, not_bool, bin_add, bin_sub, bin_mul, bin_eql, bin_neq, bin_lss, bin_leq, bin_gtr, bin_geq, ext0, ext1, ext2, lenS_mk, eqNil_none, eqNil_some, neNil_none, neNil_some, ret_k, mem, Nat.zero_add, Nat.add_zero, Nat.mul_one, drewV, Bool.not_true, Bool.not_false]
  try simp only [ixA42_0, ixA42_1, ixA42_2, ixA42_3, pv_some, nilO_ptr, faO_mk, gd_yes, gd_no, gd_yes', gd_no', cnd_true, cnd_false, pick_true, pick_false, not_bool, bin_add, bin_sub, bin_mul, bin_eql, bin_neq, bin_lss, bin_leq, bin_gtr, bin_geq, ext0, ext1, ext2, lenS_mk, eqNil_none, eqNil_some, neNil_none, neNil_some, ret_k, mem, Nat.zero_add, Nat.add_zero, Nat.mul_one, drewV, Bool.not_true, Bool.not_false]
  refine ldN_h H4 1 rfl (by decide) ?_
  refine ld_h H4 2 rfl rfl ?_
  simp only [pv_some, nilO_ptr, faO_mk, gd_yes, gd_no, gd_yes', gd_no', cnd_true, cnd_false, pick_true, pick_false, not_bool, bin_add, bin_sub, bin_mul, bin_eql, bin_neq, bin_lss, bin_leq, bin_gtr, bin_geq, ext0, ext1, ext2, lenS_mk, eqNil_none, eqNil_some, neNil_none, neNil_some, ret_k, mem, Nat.zero_add, Nat.add_zero, Nat.mul_one, drewV, Bool.not_true, Bool.not_false, cvU64]
  refine cal_h (put_spec (at_ := 4) (n := 8) (len := 24 + n) (cap := cap) H4 (by omega) (by simp [lay, bv_length, be_length, h24_length]; omega) (by omega)) ?_
  rintro e w5 ⟨rfl, H5⟩
  simp only [pv_some, nilO_ptr, faO_mk, gd_yes, gd_no, gd_yes', gd_no', cnd_true, cnd_false, pick_true, pick_false, not_bool, bin_add, bin_sub, bin_mul, bin_eql, bin_neq, bin_lss, bin_leq, bin_gtr, bin_geq, ext0, ext1, ext2, lenS_mk, eqNil_none, eqNil_some, neNil_none, neNil_some, ret_k, mem, Nat.zero_add, Nat.add_zero, Nat.mul_one, drewV, Bool.not_true, Bool.not_false]
  try simp only [ixA42_0, ixA42_1, ixA42_2, ixA42_3, pv_some, nilO_ptr, faO_mk, gd_yes, gd_no, gd_yes', gd_no', cnd_true, cnd_false, pick_true, pick_false, not_bool, bin_add, bin_sub, bin_mul, bin_eql, bin_neq, bin_lss, bin_leq, bin_gtr, bin_geq, ext0, ext1, ext2, lenS_mk, eqNil_none, eqNil_some, neNil_none, neNil_some, ret_k, mem, Nat.zero_add, Nat.add_zero, Nat.mul_one, drewV, Bool.not_true, Bool.not_false]
  refine ldN_h H5 1 rfl (by decide) ?_
  refine ld_h H5 2 rfl rfl ?_
  simp only [pv_some, nilO_ptr, faO_mk, gd_yes, gd_no, gd_yes', gd_no', cnd_true, cnd_false, pick_true, pick_false, not_bool, bin_add, bin_sub, bin_mul, bin_eql, bin_neq, bin_lss, bin_leq, bin_gtr, bin_geq, ext0, ext1, ext2, lenS_mk, eqNil_none, eqNil_some, neNil_none, neNil_some, ret_k, mem, Nat.zero_add, Nat.add_zero, Nat.mul_one, drewV, Bool.not_true, Bool.not_false, cvU64]
  refine cal_h (put_spec (at_ := 12) (n := 4) (len := 24 + n) (cap := cap) H5 (by omega) (by simp [lay, bv_length, be_length, h24_length]; omega) (by omega)) ?_
  rintro e w6 ⟨rfl, H6⟩
  simp only [pv_some, nilO_ptr, faO_mk, gd_yes, gd_no, gd_yes', gd_no', cnd_true, cnd_false, pick_true, pick_false, not_bool, bin_add, bin_sub, bin_mul, bin_eql, bin_neq, bin_lss, bin_leq, bin_gtr, bin_geq, ext0, ext1, ext2, lenS_mk, eqNil_none, eqNil_some, neNil_none, neNil_some, ret_k, mem, Nat.zero_add, Nat.add_zero, Nat.mul_one, drewV, Bool.not_true, Bool.not_false]
  try simp only [ixA42_0, ixA42_1, ixA42_2, ixA42_3, pv_some, nilO_ptr, faO_mk, gd_yes, gd_no, gd_yes', gd_no', cnd_true, cnd_false, pick_true, pick_false, not_bool, bin_add, bin_sub, bin_mul, bin_eql, bin_neq, bin_lss, bin_leq, bin_gtr, bin_geq, ext0, ext1, ext2, lenS_mk, eqNil_none, eqNil_some, neNil_none, neNil_some, ret_k, mem, Nat.zero_add, Nat.add_zero, Nat.mul_one, drewV, Bool.not_true, Bool.not_false]
  refine ldN_h H6.drew 1 rfl (by decide) ?_
  rw [enc_lay] at H6
  have e6 : bv (encH k last m f n ++ [0, 0, 0, 0, 0, 0, 0, 0]) ++ (bv xs ++ rest) = bv (encH k last m f n ++ [0, 0, 0, 0, 0, 0, 0, 0] ++ xs) ++ rest := by rw [bv_append, bv_append, bv_append]; simp
  have hlH := encH_length k last m f n
  have hrd : Rd w6.drew 1 (.slice (some ⟨nb, 0, none⟩) (24 + n) cap) (24 + n) (bv (encH k last m f n ++ [0, 0, 0, 0, 0, 0, 0, 0] ++ xs)) := by
    have := (H6.drew.blk _ (List.mem_cons_self ..)).2.cellsAt ((24 + n) * 1) 0 0 (by simp [bv_length, hlH]; omega)
    refine .inr ⟨_, cap, rfl, hcap, ?_⟩
    rw [this]; congr 1
    rw [Nat.zero_add, List.drop_zero]
    rw [show (⟨nb, 5, bv (encH k last m f n ++ [0, 0, 0, 0, 0, 0, 0, 0]) ++ (bv xs ++ rest)⟩ : Chunk).l = _ from e6, List.take_left']
    simp [bv_length, hlH]; omega
  refine cal_h (dig_spec hrd (by omega) (by simp [hlH]; omega)) ?_
  rintro e w7 ⟨rfl, rfl⟩
  simp only [pv_some, nilO_ptr, faO_mk, gd_yes, gd_no, gd_yes', gd_no', cnd_true, cnd_false, pick_true, pick_false, not_bool, bin_add, bin_sub, bin_mul, bin_eql, bin_neq, bin_lss, bin_leq, bin_gtr, bin_geq, ext0, ext1, ext2, lenS_mk, eqNil_none, eqNil_some, neNil_none, neNil_some, ret_k, mem, Nat.zero_add, Nat.add_zero, Nat.mul_one, drewV, Bool.not_true, Bool.not_false]
  have htd : (encH k last m f n ++ [0, 0, 0, 0, 0, 0, 0, 0] ++ xs).take 16 ++ (encH k last m f n ++ [0, 0, 0, 0, 0, 0, 0, 0] ++ xs).drop 24 = encH k last m f n ++ xs := by
    rw [List.append_assoc, List.take_left' hlH, List.drop_append, List.drop_of_length_le (by omega), hlH]
    simp
  rw [htd]
  refine ⟨(H6.drew.blk ⟨fb, 112, _⟩ (by simp)).2.cellsAt 2 6 0 (by simp), ?_⟩
  refine cal_h (put_spec (at_ := 16) (n := 8) (len := 24 + n) (cap := cap) H6.drew (by omega) (by simp [bv_length, hlH]; omega) (by omega)) ?_
  rintro e w8 ⟨rfl, H8⟩
  rw [enc_lay2 _ hlH] at H8
  simp only [pv_some, nilO_ptr, faO_mk, gd_yes, gd_no, gd_yes', gd_no', cnd_true, cnd_false, pick_true, pick_false, not_bool, bin_add, bin_sub, bin_mul, bin_eql, bin_neq, bin_lss, bin_leq, bin_gtr, bin_geq, ext0, ext1, ext2, lenS_mk, eqNil_none, eqNil_some, neNil_none, neNil_some, ret_k, mem, Nat.zero_add, Nat.add_zero, Nat.mul_one, drewV, Bool.not_true, Bool.not_false]
  refine hok w8 ?_
  have e8 : bv (encH k last m f n ++ be 8 (digI (encH k last m f n ++ xs))) ++ (bv xs ++ rest) = bv (encB k last m f xs) ++ rest := by
    unfold encB; rw [hlen]; simp [bv_append]
  rw [e8] at H8
  exact H8.to (by intro f; simp only [I, U8, U64, ptr, List.set_cons_zero, List.set_cons_succ, List.eraseIdx_cons_zero, List.eraseIdx_cons_succ, List.map_append, List.map_cons, List.map_nil, List.sum_append, List.sum_cons, List.sum_nil]; omega)
end
end Go.Proofs.Ytmnpndgmfmjfhaa.Den
