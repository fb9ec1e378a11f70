/- Links: the laws LinksNil and LinksEncode walked; frames compared. Conditions: none. -/
import Derived.Test.YtmnpndgmfmjfhaaLkT
set_option linter.unusedVariables false
set_option linter.unusedSimpArgs false
set_option maxRecDepth 8000
namespace Go.Proofs.Ytmnpndgmfmjfhaa.Den
open Go Go.RowKit
section
variable {w w' : World} {w0 : Base} {F L : List Chunk} {R : ER}
/-! ### slices of bytes compared -/
theorem eq_l {s t : Value} {n : Nat} {xs ys : List Int} (hn : n < 2 ^ 60) (hxl : xs.length = n) (hyl : ys.length = n) : ∀ (d i : Nat) (w : World), Hp w0 w L → RdL w0 L 1 s n (bv xs) → RdL w0 L 1 t n (bv ys) → i + d = n →
    (∀ w', Hp w0 w' L → R (.returned (.bool (decide (xs.drop i = ys.drop i)))) w') → slices_Equal_l1 R (d + 1) s t (I (n : Int)) (I (i : Int)) w := by
  intro d
  induction d with
  | zero =>
    intro i w H h1 h2 hi k
    rw [slices_Equal_l1_succ]
    unfold slices_Equal_b1 slices_Equal_j2
    simp only [pv_some, nilO_ptr, faO_mk, gd_yes, gd_no, gd_yes', gd_no', cnd_true, cnd_false, pick_true, pick_false, not_bool, bin_add, bin_sub, bin_mul, bin_eql, bin_neq, bin_lss, bin_leq, bin_gtr, bin_geq, ext0, ext1, ext2, lenS_mk, eqNil_none, eqNil_some, neNil_none, neNil_some, ret_k, mem, Nat.zero_add, Nat.add_zero, Nat.mul_one, drewV, Bool.not_true, Bool.not_false, show decide ((i : Int) < (n : Int)) = false from decide_eq_false (by omega)]
    have := k w H
    rw [List.drop_eq_nil_of_le (by omega), List.drop_eq_nil_of_le (by omega)] at this
    exact this
  | succ d ih =>
    intro i w H h1 h2 hi k
    rw [slices_Equal_l1_succ]
    unfold slices_Equal_b1 slices_Equal_j5
    have hx : i < xs.length := by omega
    have hy : i < ys.length := by omega
    simp only [pv_some, nilO_ptr, faO_mk, gd_yes, gd_no, gd_yes', gd_no', cnd_true, cnd_false, pick_true, pick_false, not_bool, bin_add, bin_sub, bin_mul, bin_eql, bin_neq, bin_lss, bin_leq, bin_gtr, bin_geq, ext0, ext1, ext2, lenS_mk, eqNil_none, eqNil_some, neNil_none, neNil_some, ret_k, mem, Nat.zero_add, Nat.add_zero, Nat.mul_one, drewV, Bool.not_true, Bool.not_false, show decide ((i : Int) < (n : Int)) = true from decide_eq_true (by omega)]
    refine ix1_rd (h1.rd H.drew) (bv_get (getElem_of_lt hx)) ?_
    refine ix1_rd (h2.rd H.drew) (bv_get (getElem_of_lt hy)) ?_
    try simp only [pv_some, nilO_ptr, faO_mk, gd_yes, gd_no, gd_yes', gd_no', cnd_true, cnd_false, pick_true, pick_false, not_bool, bin_add, bin_sub, bin_mul, bin_eql, bin_neq, bin_lss, bin_leq, bin_gtr, bin_geq, ext0, ext1, ext2, lenS_mk, eqNil_none, eqNil_some, neNil_none, neNil_some, ret_k, mem, Nat.zero_add, Nat.add_zero, Nat.mul_one, drewV, Bool.not_true, Bool.not_false]
    refine cnd_decide (fun h => ?_) (fun h => ?_)
    · have := k w.drew H.drew
      rw [List.drop_eq_getElem_cons hx, List.drop_eq_getElem_cons hy, show decide (xs[i] :: xs.drop (i + 1) = ys[i] :: ys.drop (i + 1)) = false from decide_eq_false (fun hh => h (List.cons.inj hh).1)] at this
      exact this
    · rw [wrap64_id (by omega) (by omega), show (i : Int) + 1 = ((i + 1 : Nat) : Int) from by omega]
      refine ih (i + 1) w.drew H.drew h1 h2 (by omega) fun w' H' => ?_
      have := k w' H'
      rw [List.drop_eq_getElem_cons hx, List.drop_eq_getElem_cons hy] at this
      have e : xs[i] = ys[i] := Decidable.not_not.1 h
      have e2 : decide (xs[i] :: xs.drop (i + 1) = ys[i] :: ys.drop (i + 1)) = decide (xs.drop (i + 1) = ys.drop (i + 1)) := by
        rw [e]; exact decide_eq_decide.2 ⟨fun h => (List.cons.inj h).2, fun h => by rw [h]⟩
      rw [e2] at this; exact this
theorem Equal_spec {s t : Value} {n m : Nat} {xs ys : List Int} (H : Hp w0 w L) (h1 : RdL w0 L 1 s n (bv xs)) (h2 : RdL w0 L 1 t m (bv ys)) (hn : n < 2 ^ 60) :
    Calls Pg 19 ⟨[s, t]⟩ w fun e w' => e = .returned (.bool (decide (xs = ys))) ∧ Hp w0 w' L := by
  have e1 : xs.length = n := by have := h1.length; rw [bv_length] at this; omega
  have e2 : ys.length = m := by have := h2.length; rw [bv_length] at this; omega
  apply slices_Equal_calls
  unfold slices_Equal slices_Equal_j1 slices_Equal_j3 slices_Equal_j4
  simp only [lenS_rdL h1, lenS_rdL h2, pv_some, nilO_ptr, faO_mk, gd_yes, gd_no, gd_yes', gd_no', cnd_true, cnd_false, pick_true, pick_false, not_bool, bin_add, bin_sub, bin_mul, bin_eql, bin_neq, bin_lss, bin_leq, bin_gtr, bin_geq, ext0, ext1, ext2, lenS_mk, eqNil_none, eqNil_some, neNil_none, neNil_some, ret_k, mem, Nat.zero_add, Nat.add_zero, Nat.mul_one, drewV, Bool.not_true, Bool.not_false]
  refine cnd_decide (fun h => ?_) (fun h => ?_)
  · refine ⟨?_, H⟩
    rw [decide_eq_false]
    intro hh; apply h; rw [← e1, ← e2, hh]
  · have hmn : m = n := by omega
    subst hmn
    exact ⟨m + 1, eq_l hn e1 e2 m 0 w H h1 h2 (by omega) fun w' H' => ⟨rfl, H'⟩⟩
/-! ### frames -/
theorem frame_spec {k m f : Int} {last : Bool} {s : Value} (H : Hp w0 w F) (hs : s.cells = #[s]) (hsc : scalar s = true) :
    Calls Pg 18 ⟨[.agg ⟨frm k last m f s⟩]⟩ w fun e w' => e = .returned (.agg ⟨frm k last m f s⟩) ∧ Hp w0 w' F := by
  apply orpimentlaw35_frame_calls
  unfold orpimentlaw35_frame
  refine bxa_h H fun w1 b H1 => ?_
  refine al_h H1 (z := zfrm) (by kernel_rfl) fun w2 c H2 => ?_
  simp only [pv_some, nilO_ptr, faO_mk, gd_yes, gd_no, gd_yes', gd_no', cnd_true, cnd_false, pick_true, pick_false, not_bool, bin_add, bin_sub, bin_mul, bin_eql, bin_neq, bin_lss, bin_leq, bin_gtr, bin_geq, ext0, ext1, ext2, lenS_mk, eqNil_none, eqNil_some, neNil_none, neNil_some, ret_k, mem, Nat.zero_add, Nat.add_zero, Nat.mul_one, drewV, Bool.not_true, Bool.not_false]
  refine ld_h H2 1 rfl rfl ?_
  refine ld_h H2 1 rfl rfl ?_
  refine ld_h H2 1 rfl rfl ?_
  refine ld_h H2 1 rfl rfl ?_
  refine ld_h H2 1 rfl rfl ?_
  simp only [bldF hs, pv_some, nilO_ptr, faO_mk, gd_yes, gd_no, gd_yes', gd_no', cnd_true, cnd_false, pick_true, pick_false, not_bool, bin_add, bin_sub, bin_mul, bin_eql, bin_neq, bin_lss, bin_leq, bin_gtr, bin_geq, ext0, ext1, ext2, lenS_mk, eqNil_none, eqNil_some, neNil_none, neNil_some, ret_k, mem, Nat.zero_add, Nat.add_zero, Nat.mul_one, drewV, Bool.not_true, Bool.not_false]
  refine stA_h H2 0 rfl rfl rfl (frm_scalar hsc) fun w3 H3 => ?_
  refine ldA_h H3 0 rfl rfl ?_
  exact ⟨rfl, H3.tail.tail⟩
theorem sameFrame_true {k m f : Int} {last : Bool} {s t : Value} {n n' : Nat} {xs : List Int} (H : Hp w0 w F) (h1 : RdL w0 F 1 s n (bv xs)) (h2 : RdL w0 F 1 t n' (bv xs)) (hn : n < 2 ^ 60) :
    Calls Pg 21 ⟨[.agg ⟨frm k last m f s⟩, .agg ⟨frm k last m f t⟩]⟩ w fun e w' => e = .returned (.bool true) ∧ Hp w0 w' F := by
  apply orpimentlaw35_sameFrame_calls
  unfold orpimentlaw35_sameFrame
  refine bxa_h H fun w1 b H1 => ?_
  refine bxa_h H1 fun w2 c H2 => ?_
  simp only [pv_some, nilO_ptr, faO_mk, gd_yes, gd_no, gd_yes', gd_no', cnd_true, cnd_false, pick_true, pick_false, not_bool, bin_add, bin_sub, bin_mul, bin_eql, bin_neq, bin_lss, bin_leq, bin_gtr, bin_geq, ext0, ext1, ext2, lenS_mk, eqNil_none, eqNil_some, neNil_none, neNil_some, ret_k, mem, Nat.zero_add, Nat.add_zero, Nat.mul_one, drewV, Bool.not_true, Bool.not_false]
  refine ld_h H2 1 rfl rfl ?_
  refine ld_h H2 0 rfl rfl ?_
  simp only [decide_true, pv_some, nilO_ptr, faO_mk, gd_yes, gd_no, gd_yes', gd_no', cnd_true, cnd_false, pick_true, pick_false, not_bool, bin_add, bin_sub, bin_mul, bin_eql, bin_neq, bin_lss, bin_leq, bin_gtr, bin_geq, ext0, ext1, ext2, lenS_mk, eqNil_none, eqNil_some, neNil_none, neNil_some, ret_k, mem, Nat.zero_add, Nat.add_zero, Nat.mul_one, drewV, Bool.not_true, Bool.not_false]
  refine ld_h H2 1 rfl rfl ?_
  refine ld_h H2 0 rfl rfl ?_
  have eb : binB .eql (.bool last) (.bool last) = some (.bool true) := by cases last <;> rfl
  simp only [eb, decide_true, pv_some, nilO_ptr, faO_mk, gd_yes, gd_no, gd_yes', gd_no', cnd_true, cnd_false, pick_true, pick_false, not_bool, bin_add, bin_sub, bin_mul, bin_eql, bin_neq, bin_lss, bin_leq, bin_gtr, bin_geq, ext0, ext1, ext2, lenS_mk, eqNil_none, eqNil_some, neNil_none, neNil_some, ret_k, mem, Nat.zero_add, Nat.add_zero, Nat.mul_one, drewV, Bool.not_true, Bool.not_false]
  refine ld_h H2 1 rfl rfl ?_
  refine ld_h H2 0 rfl rfl ?_
  simp only [decide_true, pv_some, nilO_ptr, faO_mk, gd_yes, gd_no, gd_yes', gd_no', cnd_true, cnd_false, pick_true, pick_false, not_bool, bin_add, bin_sub, bin_mul, bin_eql, bin_neq, bin_lss, bin_leq, bin_gtr, bin_geq, ext0, ext1, ext2, lenS_mk, eqNil_none, eqNil_some, neNil_none, neNil_some, ret_k, mem, Nat.zero_add, Nat.add_zero, Nat.mul_one, drewV, Bool.not_true, Bool.not_false]
  refine ld_h H2 1 rfl rfl ?_
  refine ld_h H2 0 rfl rfl ?_
  simp only [decide_true, pv_some, nilO_ptr, faO_mk, gd_yes, gd_no, gd_yes', gd_no', cnd_true, cnd_false, pick_true, pick_false, not_bool, bin_add, bin_sub, bin_mul, bin_eql, bin_neq, bin_lss, bin_leq, bin_gtr, bin_geq, ext0, ext1, ext2, lenS_mk, eqNil_none, eqNil_some, neNil_none, neNil_some, ret_k, mem, Nat.zero_add, Nat.add_zero, Nat.mul_one, drewV, Bool.not_true, Bool.not_false]
  refine ld_h H2 1 rfl rfl ?_
  refine ld_h H2 0 rfl rfl ?_
  refine cal_h (Equal_spec H2 (h1.mono (fun c hc => by simp [hc])) (h2.mono (fun c hc => by simp [hc])) hn) ?_
  rintro e w3 ⟨rfl, H3⟩
  simp only [decide_true, pv_some, nilO_ptr, faO_mk, gd_yes, gd_no, gd_yes', gd_no', cnd_true, cnd_false, pick_true, pick_false, not_bool, bin_add, bin_sub, bin_mul, bin_eql, bin_neq, bin_lss, bin_leq, bin_gtr, bin_geq, ext0, ext1, ext2, lenS_mk, eqNil_none, eqNil_some, neNil_none, neNil_some, ret_k, mem, Nat.zero_add, Nat.add_zero, Nat.mul_one, drewV, Bool.not_true, Bool.not_false]
  exact ⟨trivial, H3.tail.tail⟩
/-! ### a nil link -/
theorem nil_send {s : Value} {now : Int} (H : Hp w0 w F) : Calls Pg 12 ⟨[.pointer none, s, I now]⟩ w fun e w' => e = .returned (.tuple ⟨[I 0, I 35]⟩) ∧ Hp w0 w' F := by
  apply links_Link_Send_calls
  unfold links_Link_Send
  refine bxs_h H rfl fun w1 lb H1 => ?_
  refine ld_h H1 0 rfl rfl ?_
  simp only [pv_some, nilO_ptr, faO_mk, gd_yes, gd_no, gd_yes', gd_no', cnd_true, cnd_false, pick_true, pick_false, not_bool, bin_add, bin_sub, bin_mul, bin_eql, bin_neq, bin_lss, bin_leq, bin_gtr, bin_geq, ext0, ext1, ext2, lenS_mk, eqNil_none, eqNil_some, neNil_none, neNil_some, ret_k, mem, Nat.zero_add, Nat.add_zero, Nat.mul_one, drewV, Bool.not_true, Bool.not_false]
  exact ⟨trivial, H1.tail⟩
theorem nil_input {s : Value} {x now : Int} (H : Hp w0 w F) : Calls Pg 23 ⟨[.pointer none, I x, s, I now]⟩ w fun e w' => e = .returned (.tuple ⟨[.slice none 0 0, I 35]⟩) ∧ Hp w0 w' F := by
  apply links_Link_Input_calls
  unfold links_Link_Input
  simp only [pv_some, nilO_ptr, faO_mk, gd_yes, gd_no, gd_yes', gd_no', cnd_true, cnd_false, pick_true, pick_false, not_bool, bin_add, bin_sub, bin_mul, bin_eql, bin_neq, bin_lss, bin_leq, bin_gtr, bin_geq, ext0, ext1, ext2, lenS_mk, eqNil_none, eqNil_some, neNil_none, neNil_some, ret_k, mem, Nat.zero_add, Nat.add_zero, Nat.mul_one, drewV, Bool.not_true, Bool.not_false]
  exact ⟨trivial, H⟩
theorem nil_output {now : Int} (H : Hp w0 w F) : Calls Pg 14 ⟨[.pointer none, I now]⟩ w fun e w' => e = .returned (.tuple ⟨[.slice none 0 0, I 35]⟩) ∧ Hp w0 w' F := by
  apply links_Link_Output_calls
  unfold links_Link_Output
  simp only [pv_some, nilO_ptr, faO_mk, gd_yes, gd_no, gd_yes', gd_no', cnd_true, cnd_false, pick_true, pick_false, not_bool, bin_add, bin_sub, bin_mul, bin_eql, bin_neq, bin_lss, bin_leq, bin_gtr, bin_geq, ext0, ext1, ext2, lenS_mk, eqNil_none, eqNil_some, neNil_none, neNil_some, ret_k, mem, Nat.zero_add, Nat.add_zero, Nat.mul_one, drewV, Bool.not_true, Bool.not_false]
  exact ⟨trivial, H⟩
theorem nil_next (H : Hp w0 w F) : Calls Pg 13 ⟨[.pointer none]⟩ w fun e w' => e = .returned (.tuple ⟨[I 0, .bool false]⟩) ∧ Hp w0 w' F := by
  apply links_Link_Next_calls
  unfold links_Link_Next
  simp only [pv_some, nilO_ptr, faO_mk, gd_yes, gd_no, gd_yes', gd_no', cnd_true, cnd_false, pick_true, pick_false, not_bool, bin_add, bin_sub, bin_mul, bin_eql, bin_neq, bin_lss, bin_leq, bin_gtr, bin_geq, ext0, ext1, ext2, lenS_mk, eqNil_none, eqNil_some, neNil_none, neNil_some, ret_k, mem, Nat.zero_add, Nat.add_zero, Nat.mul_one, drewV, Bool.not_true, Bool.not_false]
  exact ⟨trivial, H⟩
theorem nil_set {x : Int} {f : Bool} (H : Hp w0 w F) : Calls Pg 24 ⟨[.pointer none, I x, .bool f]⟩ w fun e w' => e = .returned (I 35) ∧ Hp w0 w' F := by
  apply links_Link_Set_calls
  unfold links_Link_Set
  simp only [pv_some, nilO_ptr, faO_mk, gd_yes, gd_no, gd_yes', gd_no', cnd_true, cnd_false, pick_true, pick_false, not_bool, bin_add, bin_sub, bin_mul, bin_eql, bin_neq, bin_lss, bin_leq, bin_gtr, bin_geq, ext0, ext1, ext2, lenS_mk, eqNil_none, eqNil_some, neNil_none, neNil_some, ret_k, mem, Nat.zero_add, Nat.add_zero, Nat.mul_one, drewV, Bool.not_true, Bool.not_false]
  exact ⟨trivial, H⟩
theorem nil_ack (H : Hp w0 w F) : Calls Pg 25 ⟨[.pointer none]⟩ w fun e w' => e = .returned (I 0) ∧ Hp w0 w' F := by
  apply links_Link_Acknowledged_calls
  unfold links_Link_Acknowledged
  simp only [pv_some, nilO_ptr, faO_mk, gd_yes, gd_no, gd_yes', gd_no', cnd_true, cnd_false, pick_true, pick_false, not_bool, bin_add, bin_sub, bin_mul, bin_eql, bin_neq, bin_lss, bin_leq, bin_gtr, bin_geq, ext0, ext1, ext2, lenS_mk, eqNil_none, eqNil_some, neNil_none, neNil_some, ret_k, mem, Nat.zero_add, Nat.add_zero, Nat.mul_one, drewV, Bool.not_true, Bool.not_false]
  exact ⟨trivial, H⟩
theorem nil_broken (H : Hp w0 w F) : Calls Pg 15 ⟨[.pointer none]⟩ w fun e w' => e = .returned (.bool false) ∧ Hp w0 w' F := by
  apply links_Link_Broken_calls
  unfold links_Link_Broken
  simp only [pv_some, nilO_ptr, faO_mk, gd_yes, gd_no, gd_yes', gd_no', cnd_true, cnd_false, pick_true, pick_false, not_bool, bin_add, bin_sub, bin_mul, bin_eql, bin_neq, bin_lss, bin_leq, bin_gtr, bin_geq, ext0, ext1, ext2, lenS_mk, eqNil_none, eqNil_some, neNil_none, neNil_some, ret_k, mem, Nat.zero_add, Nat.add_zero, Nat.mul_one, drewV, Bool.not_true, Bool.not_false]
  exact ⟨trivial, H⟩
theorem LinksNil_walk {k x now : Int} {fl : Bool} {s : Value} (H : Hp w0 w F) : Calls Pg 6 ⟨[.agg ⟨[I k, I x, .bool fl, s, I now]⟩]⟩ w fun e w' => e = .returned (.bool true) ∧ Hp w0 w' F := by
  apply orpimentlaw35_LinksNil_calls
  unfold orpimentlaw35_LinksNil
  refine bxa_h H fun w1 b H1 => ?_
  simp only [pv_some, nilO_ptr, faO_mk, gd_yes, gd_no, gd_yes', gd_no', cnd_true, cnd_false, pick_true, pick_false, not_bool, bin_add, bin_sub, bin_mul, bin_eql, bin_neq, bin_lss, bin_leq, bin_gtr, bin_geq, ext0, ext1, ext2, lenS_mk, eqNil_none, eqNil_some, neNil_none, neNil_some, ret_k, mem, Nat.zero_add, Nat.add_zero, Nat.mul_one, drewV, Bool.not_true, Bool.not_false]
  refine ld_h H1 0 rfl rfl ?_
  refine ld_h H1 0 rfl rfl ?_
  refine cal_h (nil_send H1) ?_
  rintro e w2 ⟨rfl, H2⟩
  simp only [pv_some, nilO_ptr, faO_mk, gd_yes, gd_no, gd_yes', gd_no', cnd_true, cnd_false, pick_true, pick_false, not_bool, bin_add, bin_sub, bin_mul, bin_eql, bin_neq, bin_lss, bin_leq, bin_gtr, bin_geq, ext0, ext1, ext2, lenS_mk, eqNil_none, eqNil_some, neNil_none, neNil_some, ret_k, mem, Nat.zero_add, Nat.add_zero, Nat.mul_one, drewV, Bool.not_true, Bool.not_false]
  refine ld_h H2 0 rfl rfl ?_
  refine ld_h H2 0 rfl rfl ?_
  refine ld_h H2 0 rfl rfl ?_
  refine cal_h (nil_input H2) ?_
  rintro e w3 ⟨rfl, H3⟩
  simp only [pv_some, nilO_ptr, faO_mk, gd_yes, gd_no, gd_yes', gd_no', cnd_true, cnd_false, pick_true, pick_false, not_bool, bin_add, bin_sub, bin_mul, bin_eql, bin_neq, bin_lss, bin_leq, bin_gtr, bin_geq, ext0, ext1, ext2, lenS_mk, eqNil_none, eqNil_some, neNil_none, neNil_some, ret_k, mem, Nat.zero_add, Nat.add_zero, Nat.mul_one, drewV, Bool.not_true, Bool.not_false]
  refine ld_h H3 0 rfl rfl ?_
  refine cal_h (nil_output H3) ?_
  rintro e w4 ⟨rfl, H4⟩
  simp only [pv_some, nilO_ptr, faO_mk, gd_yes, gd_no, gd_yes', gd_no', cnd_true, cnd_false, pick_true, pick_false, not_bool, bin_add, bin_sub, bin_mul, bin_eql, bin_neq, bin_lss, bin_leq, bin_gtr, bin_geq, ext0, ext1, ext2, lenS_mk, eqNil_none, eqNil_some, neNil_none, neNil_some, ret_k, mem, Nat.zero_add, Nat.add_zero, Nat.mul_one, drewV, Bool.not_true, Bool.not_false]
  refine cal_h (nil_next H4) ?_
  rintro e w5 ⟨rfl, H5⟩
  simp only [decide_true, pv_some, nilO_ptr, faO_mk, gd_yes, gd_no, gd_yes', gd_no', cnd_true, cnd_false, pick_true, pick_false, not_bool, bin_add, bin_sub, bin_mul, bin_eql, bin_neq, bin_lss, bin_leq, bin_gtr, bin_geq, ext0, ext1, ext2, lenS_mk, eqNil_none, eqNil_some, neNil_none, neNil_some, ret_k, mem, Nat.zero_add, Nat.add_zero, Nat.mul_one, drewV, Bool.not_true, Bool.not_false]
  refine ld_h H5 0 rfl rfl ?_
  refine ld_h H5 0 rfl rfl ?_
  refine cal_h (nil_set H5) ?_
  rintro e w6 ⟨rfl, H6⟩
  simp only [decide_true, pv_some, nilO_ptr, faO_mk, gd_yes, gd_no, gd_yes', gd_no', cnd_true, cnd_false, pick_true, pick_false, not_bool, bin_add, bin_sub, bin_mul, bin_eql, bin_neq, bin_lss, bin_leq, bin_gtr, bin_geq, ext0, ext1, ext2, lenS_mk, eqNil_none, eqNil_some, neNil_none, neNil_some, ret_k, mem, Nat.zero_add, Nat.add_zero, Nat.mul_one, drewV, Bool.not_true, Bool.not_false]
  refine cal_h (nil_ack H6) ?_
  rintro e w7 ⟨rfl, H7⟩
  simp only [decide_true, pv_some, nilO_ptr, faO_mk, gd_yes, gd_no, gd_yes', gd_no', cnd_true, cnd_false, pick_true, pick_false, not_bool, bin_add, bin_sub, bin_mul, bin_eql, bin_neq, bin_lss, bin_leq, bin_gtr, bin_geq, ext0, ext1, ext2, lenS_mk, eqNil_none, eqNil_some, neNil_none, neNil_some, ret_k, mem, Nat.zero_add, Nat.add_zero, Nat.mul_one, drewV, Bool.not_true, Bool.not_false]
  refine cal_h (nil_broken H7) ?_
  rintro e w8 ⟨rfl, H8⟩
  simp only [decide_true, pv_some, nilO_ptr, faO_mk, gd_yes, gd_no, gd_yes', gd_no', cnd_true, cnd_false, pick_true, pick_false, not_bool, bin_add, bin_sub, bin_mul, bin_eql, bin_neq, bin_lss, bin_leq, bin_gtr, bin_geq, ext0, ext1, ext2, lenS_mk, eqNil_none, eqNil_some, neNil_none, neNil_some, ret_k, mem, Nat.zero_add, Nat.add_zero, Nat.mul_one, drewV, Bool.not_true, Bool.not_false]
  refine cal_h (awake_spec H8) ?_
  rintro e w9 ⟨rfl, H9⟩
  simp only [pv_some, nilO_ptr, faO_mk, gd_yes, gd_no, gd_yes', gd_no', cnd_true, cnd_false, pick_true, pick_false, not_bool, bin_add, bin_sub, bin_mul, bin_eql, bin_neq, bin_lss, bin_leq, bin_gtr, bin_geq, ext0, ext1, ext2, lenS_mk, eqNil_none, eqNil_some, neNil_none, neNil_some, ret_k, mem, Nat.zero_add, Nat.add_zero, Nat.mul_one, drewV, Bool.not_true, Bool.not_false]
  exact ⟨trivial, H9.tail⟩
end
end Go.Proofs.Ytmnpndgmfmjfhaa.Den
