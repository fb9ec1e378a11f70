/- Links: the other functions on bytes, walked. Conditions: none. -/
import Derived.Test.YtmnpndgmfmjfhaaLkA
set_option linter.unusedVariables false
set_option linter.unusedSimpArgs false
set_option maxRecDepth 8000
namespace Go.Proofs.Ytmnpndgmfmjfhaa.Den
open Go Go.RowKit
section
variable {w : World} {w0 : Base} {F L : List Chunk} {R : ER}
theorem getElem_of_lt {α : Type} {l : List α} {i : Nat} (h : i < l.length) : l[i]? = some l[i] := List.getElem?_eq_getElem h
/-! ### the program's get -/
theorem get_l {s : Value} {m : Nat} {xs : List Int} (hm : m < 2 ^ 62) : ∀ (d i : Nat) (x : Int) (w : World), Rd w 1 s m (bv xs) → i + d = m → R (.returned (U64 ((xs.drop i).foldl gst x))) w →
    links_field_get_l1 R (d + 1) (U64 x) s (I m) (I i) w := by
  intro d
  induction d with
  | zero =>
    intro i x w hr hi k
    rw [links_field_get_l1_succ]
    unfold links_field_get_b1
    have hlen := hr.length
    rw [bv_length] at hlen
    simp only [pv_some, nilO_ptr, faO_mk, gd_yes, gd_no, gd_yes', gd_no', cnd_true, cnd_false, pick_true, pick_false, not_bool, bin_add, bin_sub, bin_mul, bin_eql, bin_neq, bin_lss, bin_leq, bin_gtr, bin_geq, ext0, ext1, ext2, lenS_mk, eqNil_none, eqNil_some, neNil_none, neNil_some, ret_k, mem, Nat.zero_add, Nat.add_zero, Nat.mul_one, drewV, Bool.not_true, Bool.not_false, show decide ((i : Int) < (m : Int)) = false from decide_eq_false (by omega), cnd_false]
    unfold links_field_get_j1
    rw [List.drop_eq_nil_of_le (by omega)] at k
    exact k
  | succ d ih =>
    intro i x w hr hi k
    rw [links_field_get_l1_succ]
    unfold links_field_get_b1
    have hlen := hr.length
    rw [bv_length] at hlen
    have hlt : i < xs.length := by omega
    simp only [pv_some, nilO_ptr, faO_mk, gd_yes, gd_no, gd_yes', gd_no', cnd_true, cnd_false, pick_true, pick_false, not_bool, bin_add, bin_sub, bin_mul, bin_eql, bin_neq, bin_lss, bin_leq, bin_gtr, bin_geq, ext0, ext1, ext2, lenS_mk, eqNil_none, eqNil_some, neNil_none, neNil_some, ret_k, mem, Nat.zero_add, Nat.add_zero, Nat.mul_one, drewV, Bool.not_true, Bool.not_false, show decide ((i : Int) < (m : Int)) = true from decide_eq_true (by omega)]
    refine ix1_rd hr (bv_get (getElem_of_lt hlt)) ?_
    rw [gst_eq]
    rw [wrap64_id (by omega) (by omega), show (i : Int) + 1 = ((i + 1 : Nat) : Int) from by omega]
    refine ih (i + 1) _ w hr (by omega) ?_
    rw [List.drop_eq_getElem_cons hlt] at k
    exact k
theorem get_spec {at_ n : Nat} {h : List Int} (H : Hp w0 w F) (hh : h.length = 24) (hn : at_ + n ≤ 24) (h24 : at_ < 24) :
    Calls Pg 45 ⟨[.agg ⟨[I at_, I n]⟩, .agg ⟨bv h⟩]⟩ w fun e w' => e = .returned (U64 (getI ((h.drop at_).take n))) ∧ Hp w0 w' F := by
  apply links_field_get_calls
  unfold links_field_get
  refine bxa_h H fun w1 fb H1 => ?_
  refine bxa_h H1 fun w2 hb H2 => ?_
  unfold links_field_get_j2
  simp only [pv_some, nilO_ptr, faO_mk, gd_yes, gd_no, gd_yes', gd_no', cnd_true, cnd_false, pick_true, pick_false, not_bool, bin_add, bin_sub, bin_mul, bin_eql, bin_neq, bin_lss, bin_leq, bin_gtr, bin_geq, ext0, ext1, ext2, lenS_mk, eqNil_none, eqNil_some, neNil_none, neNil_some, ret_k, mem, Nat.zero_add, Nat.add_zero, Nat.mul_one, drewV, Bool.not_true, Bool.not_false]
  refine ld_h H2 1 rfl rfl ?_
  refine ld_h H2 1 rfl rfl ?_
  refine ld_h H2 1 rfl rfl ?_
  simp only [pv_some, nilO_ptr, faO_mk, gd_yes, gd_no, gd_yes', gd_no', cnd_true, cnd_false, pick_true, pick_false, not_bool, bin_add, bin_sub, bin_mul, bin_eql, bin_neq, bin_lss, bin_leq, bin_gtr, bin_geq, ext0, ext1, ext2, lenS_mk, eqNil_none, eqNil_some, neNil_none, neNil_some, ret_k, mem, Nat.zero_add, Nat.add_zero, Nat.mul_one, drewV, Bool.not_true, Bool.not_false]
  rw [wrap64_id (by omega) (by omega)]
  have hsl : slA 24 1 (ptr hb 0) (some (I at_)) (some (I ((at_ : Int) + n))) = some (.slice (some ⟨hb, at_, none⟩) n (24 - at_)) := by
    simp only [slA, boundO]
    rw [if_pos (by omega)]
    simp only []
    rw [if_pos (by omega)]
    simp only [Int.toNat_natCast, show ((at_ : Int) + n).toNat - at_ = n from by omega, Nat.mul_one, add_mk, Nat.zero_add]
    rw [if_neg (by omega)]
  simp only [hsl, pv_some, nilO_ptr, faO_mk, gd_yes, gd_no, gd_yes', gd_no', cnd_true, cnd_false, pick_true, pick_false, not_bool, bin_add, bin_sub, bin_mul, bin_eql, bin_neq, bin_lss, bin_leq, bin_gtr, bin_geq, ext0, ext1, ext2, lenS_mk, eqNil_none, eqNil_some, neNil_none, neNil_some, ret_k, mem, Nat.zero_add, Nat.add_zero, Nat.mul_one, drewV, Bool.not_true, Bool.not_false]
  unfold links_field_get_j3
  refine ⟨n + 1, ?_⟩
  have hr : Rd w2 1 (.slice (some ⟨hb, at_, none⟩) n (24 - at_)) n (bv ((h.drop at_).take n)) := by
    refine (RdL.rd (L := ⟨hb, 117, bv h⟩ :: ⟨fb, 111, [I at_, I n]⟩ :: F) (.inr ⟨hb, at_, 24 - at_, 117, bv h, rfl, by omega, by simp, by rw [bv_length]; omega, ?_⟩) H2)
    simp [bv, List.map_drop, List.map_take]
  exact get_l (by omega) n 0 0 w2 hr (by omega) ⟨rfl, H2.tail.tail⟩
/-! ### the reference's get and checksum -/
theorem rget_l {s : Value} {m : Nat} {xs : List Int} (hm : m < 2 ^ 62) : ∀ (d i : Nat) (x : Int) (w : World), Rd w 1 s m (bv xs) → i + d = m → R (.returned (U64 ((xs.drop i).foldl gst x))) w →
    orpimentref35_get_l1 R (d + 1) s (U64 x) (I i) w := by
  intro d
  induction d with
  | zero =>
    intro i x w hr hi k
    rw [orpimentref35_get_l1_succ]
    unfold orpimentref35_get_b1 orpimentref35_get_j4
    have hlen := hr.length
    rw [bv_length] at hlen
    simp only [lenS_rd hr, pv_some, nilO_ptr, faO_mk, gd_yes, gd_no, gd_yes', gd_no', cnd_true, cnd_false, pick_true, pick_false, not_bool, bin_add, bin_sub, bin_mul, bin_eql, bin_neq, bin_lss, bin_leq, bin_gtr, bin_geq, ext0, ext1, ext2, lenS_mk, eqNil_none, eqNil_some, neNil_none, neNil_some, ret_k, mem, Nat.zero_add, Nat.add_zero, Nat.mul_one, drewV, Bool.not_true, Bool.not_false, show decide ((i : Int) < (m : Int)) = false from decide_eq_false (by omega), cnd_false]
    unfold orpimentref35_get_j1
    rw [List.drop_eq_nil_of_le (by omega)] at k
    exact k
  | succ d ih =>
    intro i x w hr hi k
    rw [orpimentref35_get_l1_succ]
    unfold orpimentref35_get_b1 orpimentref35_get_j4
    have hlen := hr.length
    rw [bv_length] at hlen
    have hlt : i < xs.length := by omega
    simp only [lenS_rd hr, pv_some, nilO_ptr, faO_mk, gd_yes, gd_no, gd_yes', gd_no', cnd_true, cnd_false, pick_true, pick_false, not_bool, bin_add, bin_sub, bin_mul, bin_eql, bin_neq, bin_lss, bin_leq, bin_gtr, bin_geq, ext0, ext1, ext2, lenS_mk, eqNil_none, eqNil_some, neNil_none, neNil_some, ret_k, mem, Nat.zero_add, Nat.add_zero, Nat.mul_one, drewV, Bool.not_true, Bool.not_false, show decide ((i : Int) < (m : Int)) = true from decide_eq_true (by omega)]
    have h1 : bin .shl (U64 x) (U64 8) = some (U64 (IntKind.u64.wrap (x * 256))) := by
      simp only [bin, U64]; rw [if_neg (by decide)]; rfl
    rw [h1, pv_some]
    refine ix1_rd hr (bv_get (getElem_of_lt hlt)) ?_
    have h2 : ∀ K : VK, pv (cvI .u64 (U8 xs[i])) (fun v5 => pv (bin .or (U64 (IntKind.u64.wrap (x * 256))) v5) K) = K (U64 (gst x xs[i])) := fun _ => rfl
    rw [h2]
    rw [wrap64_id (by omega) (by omega), show (i : Int) + 1 = ((i + 1 : Nat) : Int) from by omega]
    refine ih (i + 1) _ w hr (by omega) ?_
    rw [List.drop_eq_getElem_cons hlt] at k
    exact k
theorem rget_spec {s : Value} {m : Nat} {xs : List Int} (hr : Rd w 1 s m (bv xs)) (hm : m < 2 ^ 62) :
    Calls Pg 46 ⟨[s]⟩ w fun e w' => e = .returned (U64 (getI xs)) ∧ w' = w := by
  apply orpimentref35_get_calls
  unfold orpimentref35_get orpimentref35_get_j2 orpimentref35_get_j3
  exact ⟨m + 1, rget_l hm m 0 0 w hr (by omega) ⟨rfl, rfl⟩⟩
theorem rdig_l {s : Value} {m : Nat} {xs : List Int} (hm : m < 2 ^ 62) : ∀ (d i : Nat) (x : Int) (w : World), Rd w 1 s m (bv xs) → i + d = m → R (.returned (U64 ((xs.drop i).foldl dst x))) w →
    orpimentref35_Digest_l1 R (d + 1) s (U64 x) (I i) w := by
  intro d
  induction d with
  | zero =>
    intro i x w hr hi k
    rw [orpimentref35_Digest_l1_succ]
    unfold orpimentref35_Digest_b1 orpimentref35_Digest_j4
    have hlen := hr.length
    rw [bv_length] at hlen
    simp only [lenS_rd hr, pv_some, nilO_ptr, faO_mk, gd_yes, gd_no, gd_yes', gd_no', cnd_true, cnd_false, pick_true, pick_false, not_bool, bin_add, bin_sub, bin_mul, bin_eql, bin_neq, bin_lss, bin_leq, bin_gtr, bin_geq, ext0, ext1, ext2, lenS_mk, eqNil_none, eqNil_some, neNil_none, neNil_some, ret_k, mem, Nat.zero_add, Nat.add_zero, Nat.mul_one, drewV, Bool.not_true, Bool.not_false, show decide ((i : Int) < (m : Int)) = false from decide_eq_false (by omega), cnd_false]
    unfold orpimentref35_Digest_j1
    rw [List.drop_eq_nil_of_le (by omega)] at k
    exact k
  | succ d ih =>
    intro i x w hr hi k
    rw [orpimentref35_Digest_l1_succ]
    unfold orpimentref35_Digest_b1 orpimentref35_Digest_j4
    have hlen := hr.length
    rw [bv_length] at hlen
    have hlt : i < xs.length := by omega
    simp only [lenS_rd hr, pv_some, nilO_ptr, faO_mk, gd_yes, gd_no, gd_yes', gd_no', cnd_true, cnd_false, pick_true, pick_false, not_bool, bin_add, bin_sub, bin_mul, bin_eql, bin_neq, bin_lss, bin_leq, bin_gtr, bin_geq, ext0, ext1, ext2, lenS_mk, eqNil_none, eqNil_some, neNil_none, neNil_some, ret_k, mem, Nat.zero_add, Nat.add_zero, Nat.mul_one, drewV, Bool.not_true, Bool.not_false, show decide ((i : Int) < (m : Int)) = true from decide_eq_true (by omega)]
    refine ix1_rd hr (bv_get (getElem_of_lt hlt)) ?_
    rw [dst_eq]
    rw [wrap64_id (by omega) (by omega), show (i : Int) + 1 = ((i + 1 : Nat) : Int) from by omega]
    refine ih (i + 1) _ w hr (by omega) ?_
    rw [List.drop_eq_getElem_cons hlt] at k
    exact k
theorem rdig_spec {s : Value} {m : Nat} {xs : List Int} (hr : Rd w 1 s m (bv xs)) (hm : m < 2 ^ 62) :
    Calls Pg 44 ⟨[s]⟩ w fun e w' => e = .returned (U64 (digI xs)) ∧ w' = w := by
  apply orpimentref35_Digest_calls
  unfold orpimentref35_Digest orpimentref35_Digest_j2 orpimentref35_Digest_j3
  exact ⟨m + 1, rdig_l hm m 0 _ w hr (by omega) ⟨rfl, rfl⟩⟩
/-! ### the program's checksum -/
/-- The bytes that count, from place i on. -/
def cntD : Nat → List Int → List Int
  | _, [] => []
  | i, x :: xs => if i < 16 ∨ 24 ≤ i then x :: cntD (i + 1) xs else cntD (i + 1) xs
theorem cntD_eq : ∀ (xs : List Int) (i : Nat), 24 ≤ i → cntD i xs = xs
  | [], _, _ => rfl
  | x :: xs, i, h => by simp [cntD, h, cntD_eq xs (i + 1) (by omega)]
theorem cntD_app : ∀ (xs ys : List Int) (i : Nat), cntD i (xs ++ ys) = cntD i xs ++ cntD (i + xs.length) ys
  | [], ys, i => by simp [cntD]
  | x :: xs, ys, i => by
    have := cntD_app xs ys (i + 1)
    simp only [List.cons_append, cntD, this, List.length_cons, show i + 1 + xs.length = i + (xs.length + 1) from by omega]
    split <;> rfl
theorem cntD_lo : ∀ (xs : List Int) (i : Nat), i + xs.length ≤ 16 → cntD i xs = xs
  | [], _, _ => rfl
  | x :: xs, i, h => by
    simp only [List.length_cons] at h
    rw [cntD, if_pos (by omega), cntD_lo xs (i + 1) (by omega)]
theorem cntD_mid : ∀ (xs : List Int) (i : Nat), 16 ≤ i → i + xs.length ≤ 24 → cntD i xs = []
  | [], _, _, _ => rfl
  | x :: xs, i, h1, h => by
    simp only [List.length_cons] at h
    rw [cntD, if_neg (by omega), cntD_mid xs (i + 1) (by omega) (by omega)]
theorem cntD_zero {xs : List Int} (h : 24 ≤ xs.length) : cntD 0 xs = xs.take 16 ++ xs.drop 24 := by
  have e : xs = xs.take 16 ++ ((xs.drop 16).take 8 ++ xs.drop 24) := by
    have : xs.drop 24 = (xs.drop 16).drop 8 := by rw [List.drop_drop]
    rw [this, List.take_append_drop, List.take_append_drop]
  have h1 : (xs.take 16).length = 16 := by rw [List.length_take]; omega
  have h2 : ((xs.drop 16).take 8).length = 8 := by rw [List.length_take, List.length_drop]; omega
  have := cntD_app (xs.take 16) ((xs.drop 16).take 8 ++ xs.drop 24) 0
  rw [← e] at this
  rw [this, cntD_lo (xs.take 16) 0 (by omega), cntD_app, cntD_mid ((xs.drop 16).take 8) _ (by omega) (by omega), cntD_eq _ _ (by omega), List.nil_append]
theorem dig_l {s : Value} {m : Nat} {xs : List Int} (hm : m < 2 ^ 62) : ∀ (d i : Nat) (x : Int) (w : World), Rd w 1 s m (bv xs) → i + d = m → R (.returned (U64 ((cntD i (xs.drop i)).foldl dst x))) w →
    links_digest_l1 R (d + 1) (U64 x) s (I m) (I i) w := by
  intro d
  induction d with
  | zero =>
    intro i x w hr hi k
    rw [links_digest_l1_succ]
    unfold links_digest_b1 links_digest_j4 links_digest_j6
    have hlen := hr.length
    rw [bv_length] at hlen
    simp only [lenS_rd hr, pv_some, nilO_ptr, faO_mk, gd_yes, gd_no, gd_yes', gd_no', cnd_true, cnd_false, pick_true, pick_false, not_bool, bin_add, bin_sub, bin_mul, bin_eql, bin_neq, bin_lss, bin_leq, bin_gtr, bin_geq, ext0, ext1, ext2, lenS_mk, eqNil_none, eqNil_some, neNil_none, neNil_some, ret_k, mem, Nat.zero_add, Nat.add_zero, Nat.mul_one, drewV, Bool.not_true, Bool.not_false, show decide ((i : Int) < (m : Int)) = false from decide_eq_false (by omega), cnd_false]
    unfold links_digest_j1
    rw [List.drop_eq_nil_of_le (by omega)] at k
    exact k
  | succ d ih =>
    intro i x w hr hi k
    rw [links_digest_l1_succ]
    unfold links_digest_b1 links_digest_j4 links_digest_j6
    have hlen := hr.length
    rw [bv_length] at hlen
    have hlt : i < xs.length := by omega
    rw [List.drop_eq_getElem_cons hlt] at k
    simp only [pv_some, nilO_ptr, faO_mk, gd_yes, gd_no, gd_yes', gd_no', cnd_true, cnd_false, pick_true, pick_false, not_bool, bin_add, bin_sub, bin_mul, bin_eql, bin_neq, bin_lss, bin_leq, bin_gtr, bin_geq, ext0, ext1, ext2, lenS_mk, eqNil_none, eqNil_some, neNil_none, neNil_some, ret_k, mem, Nat.zero_add, Nat.add_zero, Nat.mul_one, drewV, Bool.not_true, Bool.not_false, show decide ((i : Int) < (m : Int)) = true from decide_eq_true (by omega)]
    refine ix1_rd hr (bv_get (getElem_of_lt hlt)) ?_
    have hj : ∀ x, R (.returned (U64 ((cntD (i + 1) (xs.drop (i + 1))).foldl dst x))) w → links_digest_j5 R (links_digest_l1 R (d + 1)) (U64 x) s (I m) (I i) w := by
      intro x k
      unfold links_digest_j5
      simp only [pv_some, nilO_ptr, faO_mk, gd_yes, gd_no, gd_yes', gd_no', cnd_true, cnd_false, pick_true, pick_false, not_bool, bin_add, bin_sub, bin_mul, bin_eql, bin_neq, bin_lss, bin_leq, bin_gtr, bin_geq, ext0, ext1, ext2, lenS_mk, eqNil_none, eqNil_some, neNil_none, neNil_some, ret_k, mem, Nat.zero_add, Nat.add_zero, Nat.mul_one, drewV, Bool.not_true, Bool.not_false]
      rw [wrap64_id (by omega) (by omega), show (i : Int) + 1 = ((i + 1 : Nat) : Int) from by omega]
      exact ih (i + 1) _ w hr (by omega) k
    by_cases h1 : (i : Int) < 16
    · simp only [pv_some, nilO_ptr, faO_mk, gd_yes, gd_no, gd_yes', gd_no', cnd_true, cnd_false, pick_true, pick_false, not_bool, bin_add, bin_sub, bin_mul, bin_eql, bin_neq, bin_lss, bin_leq, bin_gtr, bin_geq, ext0, ext1, ext2, lenS_mk, eqNil_none, eqNil_some, neNil_none, neNil_some, ret_k, mem, Nat.zero_add, Nat.add_zero, Nat.mul_one, drewV, Bool.not_true, Bool.not_false, decide_eq_true h1]
      rw [dst_eq]
      rw [cntD, if_pos (by omega)] at k
      exact hj _ k
    · simp only [pv_some, nilO_ptr, faO_mk, gd_yes, gd_no, gd_yes', gd_no', cnd_true, cnd_false, pick_true, pick_false, not_bool, bin_add, bin_sub, bin_mul, bin_eql, bin_neq, bin_lss, bin_leq, bin_gtr, bin_geq, ext0, ext1, ext2, lenS_mk, eqNil_none, eqNil_some, neNil_none, neNil_some, ret_k, mem, Nat.zero_add, Nat.add_zero, Nat.mul_one, drewV, Bool.not_true, Bool.not_false, decide_eq_false h1]
      by_cases h2 : (24 : Int) ≤ i
      · simp only [pv_some, nilO_ptr, faO_mk, gd_yes, gd_no, gd_yes', gd_no', cnd_true, cnd_false, pick_true, pick_false, not_bool, bin_add, bin_sub, bin_mul, bin_eql, bin_neq, bin_lss, bin_leq, bin_gtr, bin_geq, ext0, ext1, ext2, lenS_mk, eqNil_none, eqNil_some, neNil_none, neNil_some, ret_k, mem, Nat.zero_add, Nat.add_zero, Nat.mul_one, drewV, Bool.not_true, Bool.not_false, decide_eq_true h2]
        rw [dst_eq]
        rw [cntD, if_pos (by omega)] at k
        exact hj _ k
      · simp only [pv_some, nilO_ptr, faO_mk, gd_yes, gd_no, gd_yes', gd_no', cnd_true, cnd_false, pick_true, pick_false, not_bool, bin_add, bin_sub, bin_mul, bin_eql, bin_neq, bin_lss, bin_leq, bin_gtr, bin_geq, ext0, ext1, ext2, lenS_mk, eqNil_none, eqNil_some, neNil_none, neNil_some, ret_k, mem, Nat.zero_add, Nat.add_zero, Nat.mul_one, drewV, Bool.not_true, Bool.not_false, decide_eq_false h2]
        rw [cntD, if_neg (by omega)] at k
        exact hj _ k
theorem dig_spec {s : Value} {m : Nat} {xs : List Int} (hr : Rd w 1 s m (bv xs)) (hm : m < 2 ^ 62) (h24 : 24 ≤ xs.length) :
    Calls Pg 42 ⟨[s]⟩ w fun e w' => e = .returned (U64 (digI (xs.take 16 ++ xs.drop 24))) ∧ w' = w := by
  apply links_digest_calls
  unfold links_digest links_digest_j2
  simp only [lenS_rd hr, pv_some, nilO_ptr, faO_mk, gd_yes, gd_no, gd_yes', gd_no', cnd_true, cnd_false, pick_true, pick_false, not_bool, bin_add, bin_sub, bin_mul, bin_eql, bin_neq, bin_lss, bin_leq, bin_gtr, bin_geq, ext0, ext1, ext2, lenS_mk, eqNil_none, eqNil_some, neNil_none, neNil_some, ret_k, mem, Nat.zero_add, Nat.add_zero, Nat.mul_one, drewV, Bool.not_true, Bool.not_false]
  unfold links_digest_j3
  exact ⟨m + 1, dig_l hm m 0 _ w hr (by omega) ⟨by rw [List.drop_zero, cntD_zero h24]; rfl, rfl⟩⟩
/-! ### the reference's put -/
theorem rput_l {x : Int} {n : Nat} (hn : n ≤ 8) (hq : ∀ w' s cs, Hp w0 w' (cs ++ F) → Sl 5 1 s n (bv (be n x)) cs → R (.returned s) w') :
    ∀ (i j : Nat) (w : World) (s : Value) (cs : List Chunk), Hp w0 w (cs ++ F) → i + j = n → Sl 5 1 s j (bv (be j (x / 256 ^ i))) cs →
      orpimentref35_put_l1 R (i + 1) (U64 x) s (I ((i : Int) - 1)) w
  | 0, j, w, s, cs, H, hij, hs => by
    rw [orpimentref35_put_l1_succ]
    unfold orpimentref35_put_b1 orpimentref35_put_j4
    obtain rfl : j = n := by omega
    simp only [pv_some, nilO_ptr, faO_mk, gd_yes, gd_no, gd_yes', gd_no', cnd_true, cnd_false, pick_true, pick_false, not_bool, bin_add, bin_sub, bin_mul, bin_eql, bin_neq, bin_lss, bin_leq, bin_gtr, bin_geq, ext0, ext1, ext2, lenS_mk, eqNil_none, eqNil_some, neNil_none, neNil_some, ret_k, mem, Nat.zero_add, Nat.add_zero, Nat.mul_one, drewV, Bool.not_true, Bool.not_false, show decide ((0 : Int) ≤ ((0 : Nat) : Int) - 1) = false from rfl, cnd_false]
    unfold orpimentref35_put_j1
    rw [Int.pow_zero, Int.ediv_one] at hs
    exact hq _ _ _ H hs
  | i + 1, j, w, s, cs, H, hij, hs => by
    rw [orpimentref35_put_l1_succ]
    unfold orpimentref35_put_b1 orpimentref35_put_j4
    have e1 : ((i + 1 : Nat) : Int) - 1 = (i : Int) := by omega
    simp only [pv_some, nilO_ptr, faO_mk, gd_yes, gd_no, gd_yes', gd_no', cnd_true, cnd_false, pick_true, pick_false, not_bool, bin_add, bin_sub, bin_mul, bin_eql, bin_neq, bin_lss, bin_leq, bin_gtr, bin_geq, ext0, ext1, ext2, lenS_mk, eqNil_none, eqNil_some, neNil_none, neNil_some, ret_k, mem, Nat.zero_add, Nat.add_zero, Nat.mul_one, drewV, Bool.not_true, Bool.not_false, e1, show decide ((0 : Int) ≤ (i : Int)) = true from decide_eq_true (by omega)]
    have e2 : IntKind.i64.wrap (8 * (i : Int)) = ((8 * i : Nat) : Int) := by rw [wrap64_id (by omega) (by omega)]; omega
    rw [e2]
    have e3 : cvI .u64 (I ((8 * i : Nat) : Int)) = some (U64 ((8 * i : Nat) : Int)) := by
      simp only [cvI, wrapU64]; rw [Int.emod_eq_of_lt (by omega) (by omega)]
    rw [e3, pv_some]
    have e4 : bin .shr (U64 x) (U64 ((8 * i : Nat) : Int)) = some (U64 (x / 256 ^ i)) := by
      simp only [bin, U64]
      rw [if_neg (by omega)]
      have : min ((8 * i : Nat) : Int).toNat IntKind.u64.bits = 8 * i := by
        have : IntKind.u64.bits = 64 := rfl
        rw [Int.toNat_natCast, this]; omega
      rw [this, Int.fdiv_eq_ediv_of_nonneg _ (Int.le_of_lt (Int.pow_pos (by decide))), Int.pow_mul]; rfl
    rw [e4]
    simp only [pv_some, nilO_ptr, faO_mk, gd_yes, gd_no, gd_yes', gd_no', cnd_true, cnd_false, pick_true, pick_false, not_bool, bin_add, bin_sub, bin_mul, bin_eql, bin_neq, bin_lss, bin_leq, bin_gtr, bin_geq, ext0, ext1, ext2, lenS_mk, eqNil_none, eqNil_some, neNil_none, neNil_some, ret_k, mem, Nat.zero_add, Nat.add_zero, Nat.mul_one, drewV, Bool.not_true, Bool.not_false, cvI, wrapU8]
    refine lit1s_h elT24 H rfl fun w1 b H1 => ?_
    have H2 : Hp w0 w1 (cs ++ (⟨b, 5, [U8 (x / 256 ^ i % 256)]⟩ :: F)) := H1.to (by intro f; simp only [I, U8, U64, ptr, List.set_cons_zero, List.set_cons_succ, List.eraseIdx_cons_zero, List.eraseIdx_cons_succ, List.map_append, List.map_cons, List.map_nil, List.sum_append, List.sum_cons, List.sum_nil]; omega)
    refine append_h elT24 H2 hs (m := 1) (ys := [U8 (x / 256 ^ i % 256)]) (.inr ⟨b, 0, 1, 5, [U8 (x / 256 ^ i % 256)], rfl, by omega, by simp, by simp, rfl⟩) (by simp [scalar]) (by omega) (by omega) fun w3 s3 cs3 H3 hs3 => ?_
    rw [wrap64_id (by omega) (by omega)]
    refine rput_l hn hq i (j + 1) w3 s3 cs3 (H3.to (by intro f; simp only [I, U8, U64, ptr, List.set_cons_zero, List.set_cons_succ, List.eraseIdx_cons_zero, List.eraseIdx_cons_succ, List.map_append, List.map_cons, List.map_nil, List.sum_append, List.sum_cons, List.sum_nil]; omega)) (by omega) ?_
    have e5 : x / 256 ^ (i + 1) = x / 256 ^ i / 256 := by
      rw [Int.pow_succ, ← Int.ediv_ediv_of_nonneg (Int.le_of_lt (Int.pow_pos (by decide)))]
    rw [e5] at hs3
    rw [be, bv_append]; exact hs3
theorem rput_spec {x : Int} {n : Nat} (hn : n ≤ 8) (H : Hp w0 w F) :
    Calls Pg 43 ⟨[U64 x, I n]⟩ w fun e w' => ∃ s cs, e = .returned s ∧ Hp w0 w' (cs ++ F) ∧ Sl 5 1 s n (bv (be n x)) cs := by
  apply orpimentref35_put_calls
  unfold orpimentref35_put
  refine lit0_h elT24 H fun w1 s H1 hs => ?_
  unfold orpimentref35_put_j2
  simp only [pv_some, nilO_ptr, faO_mk, gd_yes, gd_no, gd_yes', gd_no', cnd_true, cnd_false, pick_true, pick_false, not_bool, bin_add, bin_sub, bin_mul, bin_eql, bin_neq, bin_lss, bin_leq, bin_gtr, bin_geq, ext0, ext1, ext2, lenS_mk, eqNil_none, eqNil_some, neNil_none, neNil_some, ret_k, mem, Nat.zero_add, Nat.add_zero, Nat.mul_one, drewV, Bool.not_true, Bool.not_false]
  rw [wrap64_id (by omega) (by omega)]
  unfold orpimentref35_put_j3
  exact ⟨n + 1, rput_l hn (fun w' s cs H hs => ⟨s, cs, rfl, H, hs⟩) n 0 w1 s [] H1 (by omega) hs⟩
theorem fields_spec (H : Hp w0 w F) : Calls Pg 40 ⟨[]⟩ w fun e w' => e = .returned (.agg ⟨[I 2, I 2, I 4, I 8, I 12, I 4, I 16, I 8]⟩) ∧ Hp w0 w' F := by
  apply links_fields_calls
  have e : ∀ R, links_fields R = al Pg 112 fun v1 => stN 8 v1 (.agg ⟨[I 2, I 2, I 4, I 8, I 12, I 4, I 16, I 8]⟩) fun _ => ldN 8 v1 fun v7 => R (.returned v7) := fun R => by kernel_rfl
  rw [e]
  refine al_h H (z := [I 0, I 0, I 0, I 0, I 0, I 0, I 0, I 0]) (by kernel_rfl) fun w1 b H1 => ?_
  refine stN_h H1 0 rfl rfl (by decide) (by decide) fun w2 H2 => ?_
  refine ldN_h H2 0 rfl (by decide) ?_
  exact ⟨rfl, H2.tail⟩
end
end Go.Proofs.Ytmnpndgmfmjfhaa.Den
