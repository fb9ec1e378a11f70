/- Links: the first example of the chapter, and what a nil link does. Conditions: none. -/
import Derived.Test.YtmnpndgmfmjfhaaLkS
set_option linter.unusedVariables false
set_option linter.unusedSimpArgs false
set_option maxRecDepth 8000
namespace Go.Proofs.Ytmnpndgmfmjfhaa.Den
open Go Go.RowKit
theorem ozip_len : ∀ (os : List OM) (sv : List Value), ∀ l ∈ List.zipWith ocell os sv, l.length = 2
  | [], _, l, h => by simp at h
  | _ :: _, [], l, h => by simp at h
  | u :: us, s :: sv, l, h => by
    simp only [List.zipWith_cons_cons, List.mem_cons] at h
    rcases h with rfl | h
    · rfl
    · exact ozip_len us sv l h
theorem ocells_get {os : List OM} {sv : List Value} {i j : Nat} {o : OM} {s : Value} (ho : os[i]? = some o) (hs : sv[i]? = some s) (hj : j < 2) : (ocells os sv)[i * 2 + j]? = (ocell o s)[j]? :=
  flat_get (sz := 2) (ozip_len os sv) (by simp [List.getElem?_zipWith, ho, hs]) hj
def awM : LM := newM 2 32 0 10
def awD : List Int := List.replicate 20 0
def z8 : List Int := [0, 0, 0, 0, 0, 0, 0, 0]
theorem awE : sendE awM awD 0 = 0 := by decide
theorem awS : sendM awM awD 0 = { awM with sent := 1, us := [⟨false, 1, 0, z8, -1⟩, ⟨false, 1, 1, z8, -1⟩, ⟨true, 1, 2, [0, 0, 0, 0], -1⟩] } := by rfl
def awM1 : LM := { awM with sent := 1, us := [⟨false, 1, 0, z8, -1⟩, ⟨false, 1, 1, z8, -1⟩, ⟨true, 1, 2, [0, 0, 0, 0], -1⟩] }
theorem awOE : outE awM1 0 = 0 := by decide
theorem awV : outV awM1 0 = [(0, encR 1 false 1 0 z8), (0, encR 1 false 1 1 z8), (0, encR 1 true 1 2 [0, 0, 0, 0])] := by rfl
theorem awO : outM awM1 0 = { awM1 with us := [⟨false, 1, 0, z8, 0⟩, ⟨false, 1, 1, z8, 0⟩, ⟨true, 1, 2, [0, 0, 0, 0], 0⟩] } := by rfl
theorem awN : nextV (outM awM1 0) = (10, true) := by rw [awO]; rfl
theorem aw28 : (encR 1 true 1 2 [0, 0, 0, 0]).length = 28 := by
  unfold encR
  rw [if_pos (by decide), encB_length]; rfl
theorem newM_wf {n : Nat} {size q t : Int} (h1 : 1 ≤ n) (h8 : n ≤ 8) (hs : 32 ≤ size ∧ size ≤ 4096) (ht : 1 ≤ t ∧ t ≤ 1099511627776) : Wf (newM n size q t) where
  up1 := by simp [newM]; exact h1
  up8 := by simp [newM]; exact h8
  size := hs
  tout := ht
  turn := by simp [newM]
  rep := by simp [newM]
  clock := by simp [newM]
  at_ := by intro u hu; simp [newM] at hu
  aw := by intro a ha; simp [newM] at ha
  ul := by simp [newM]
  al := by simp [newM]
  sd := by simp [newM]
theorem awW : Wf awM1 := by
  have h := newM_wf (n := 2) (size := 32) (q := 0) (t := 10) (by omega) (by omega) (by decide) (by decide)
  exact { h with
    at_ := by intro u hu; simp [awM1] at hu; rcases hu with rfl | rfl | rfl <;> decide
    ul := by decide
    sd := by decide }
section
variable {w w' : World} {w0 : Base} {F L : List Chunk} {R : ER}
theorem awake_spec (H : Hp w0 w F) : Calls Pg 11 ⟨[]⟩ w fun e w' => e = .returned (.bool true) ∧ Hp w0 w' F := by
  apply orpimentlaw35_awake_calls
  unfold orpimentlaw35_awake
  refine cal_h (New_spec (wires := 2) (size := 32) (quality := 0) (timeout := 10) H) ?_
  rintro e w1 ⟨_, hn⟩
  obtain ⟨b, L, rfl, H1, hL⟩ := hn (by decide)
  simp only [pv_some, nilO_ptr, faO_mk, gd_yes, gd_no, gd_yes', gd_no', cnd_true, cnd_false, pick_true, pick_false, not_bool, bin_add, bin_sub, bin_mul, bin_eql, bin_neq, bin_lss, bin_leq, bin_gtr, bin_geq, ext0, ext1, ext2, lenS_mk, eqNil_none, eqNil_some, neNil_none, neNil_some, ret_k, mem, Nat.zero_add, Nat.add_zero, Nat.mul_one, drewV, Bool.not_true, Bool.not_false]
  simp only [show decide ((0 : Int) ≠ 0) = false from rfl, pv_some, nilO_ptr, faO_mk, gd_yes, gd_no, gd_yes', gd_no', cnd_true, cnd_false, pick_true, pick_false, not_bool, bin_add, bin_sub, bin_mul, bin_eql, bin_neq, bin_lss, bin_leq, bin_gtr, bin_geq, ext0, ext1, ext2, lenS_mk, eqNil_none, eqNil_some, neNil_none, neNil_some, ret_k, mem, Nat.zero_add, Nat.add_zero, Nat.mul_one, drewV, Bool.not_true, Bool.not_false]
  unfold orpimentlaw35_awake_j1
  refine make_h elT24 H1 (n := 20) (c := 20) rfl rfl (by omega) (by omega) (by omega) fun w2 nb H2 => ?_
  have H2' : Hp w0 w2 (L ++ (⟨nb, 5, bv awD⟩ :: F)) := by
    have e : (List.replicate 20 [U8 0]).flatten = bv awD := rfl
    rw [e] at H2
    exact H2.to (by intro f; simp only [I, U8, U64, ptr, List.set_cons_zero, List.set_cons_succ, List.eraseIdx_cons_zero, List.eraseIdx_cons_succ, List.map_append, List.map_cons, List.map_nil, List.sum_append, List.sum_cons, List.sum_nil]; omega)
  have hs : RdL w0 (⟨nb, 5, bv awD⟩ :: F) 1 (.slice (some ⟨nb, 0, none⟩) 20 20) awD.length (bv awD) := .inr ⟨nb, 0, 20, 5, bv awD, rfl, by decide, by simp, by decide, rfl⟩
  refine cal_h (Send_spec (M := awM) (now := 0) H2' hL hs (by decide) (by decide) (by decide) (by decide)) ?_
  rintro e w3 ⟨L3, rfl, H3, hL3⟩
  rw [awE, if_pos rfl]
  rw [show sendM awM awD 0 = awM1 from awS] at hL3
  simp only [pv_some, nilO_ptr, faO_mk, gd_yes, gd_no, gd_yes', gd_no', cnd_true, cnd_false, pick_true, pick_false, not_bool, bin_add, bin_sub, bin_mul, bin_eql, bin_neq, bin_lss, bin_leq, bin_gtr, bin_geq, ext0, ext1, ext2, lenS_mk, eqNil_none, eqNil_some, neNil_none, neNil_some, ret_k, mem, Nat.zero_add, Nat.add_zero, Nat.mul_one, drewV, Bool.not_true, Bool.not_false]
  refine cal_h (Output_spec (now := 0) H3 hL3 awW) ?_
  rintro e w4 ⟨s, co, Db, sv, L4, rfl, H4, hP, hL4⟩
  simp only [pv_some, nilO_ptr, faO_mk, gd_yes, gd_no, gd_yes', gd_no', cnd_true, cnd_false, pick_true, pick_false, not_bool, bin_add, bin_sub, bin_mul, bin_eql, bin_neq, bin_lss, bin_leq, bin_gtr, bin_geq, ext0, ext1, ext2, lenS_mk, eqNil_none, eqNil_some, neNil_none, neNil_some, ret_k, mem, Nat.zero_add, Nat.add_zero, Nat.mul_one, drewV, Bool.not_true, Bool.not_false]
  have H4' : Hp w0 w4 (L4 ++ (co ++ (Db ++ (⟨nb, 5, bv awD⟩ :: F)))) := H4.to (by intro f; simp only [I, U8, U64, ptr, List.set_cons_zero, List.set_cons_succ, List.eraseIdx_cons_zero, List.eraseIdx_cons_succ, List.map_append, List.map_cons, List.map_nil, List.sum_append, List.sum_cons, List.sum_nil]; omega)
  refine cal_h (Next_spec H4' hL4 (by rw [awO]; decide) (by rw [awO]; intro u hu; simp at hu; rcases hu with rfl | rfl | rfl <;> decide) (by rw [awO]; decide) (by rw [awO]; decide)) ?_
  rintro e w5 ⟨rfl, H5⟩
  rw [awN, awOE]
  have hol : (outV awM1 0).length = 3 := by rw [awV]; rfl
  obtain ⟨bo, cap, rest, rfl, rfl, g1, g2, g3⟩ := hP.sl.chunk (by rw [hol]; omega)
  obtain ⟨s2, hs2⟩ : ∃ s, sv[2]? = some s := ⟨_, List.getElem?_eq_getElem (by rw [hP.svl, hol]; omega)⟩
  have ho2 : (outV awM1 0)[2]? = some (0, encR 1 true 1 2 [0, 0, 0, 0]) := by rw [awV]; rfl
  have hd := hP.dat 2 _ s2 ho2 hs2
  rw [aw28] at hd
  have e1 : ((1 : Int) = awM.sent + 1) := rfl
  have ei : ixS 2 (.slice (some ⟨bo, 0, none⟩) (outV awM1 0).length cap) (.int .i64 2) = some (ptr bo 4) := by
    have := ixS_mk (sz := 2) (b := bo) (o := 0) (c := cap) (n := (outV awM1 0).length) (j := 2) (k := .i64) (by rw [hol]; omega); simpa using this
  have hcell : w5.cell? ⟨bo, 5, none⟩ = some s2 := by
    have hm : (⟨bo, 90, ocells (outV awM1 0) sv ++ rest⟩ : Chunk) ∈ L4 ++ ([⟨bo, 90, ocells (outV awM1 0) sv ++ rest⟩] ++ (Db ++ (⟨nb, 5, bv awD⟩ :: F))) := by simp
    rw [(H5.blk _ hm).2.cell]
    exact get_left (by have := ocells_get ho2 hs2 (j := 1) (by omega); simpa [ocell] using this)
  rw [hol] at ei
  try simp only [lenS_mk, hol]
  try simp only [lenS_mk, hol, ei, pv_some, nilO_ptr, faO_mk, gd_yes, gd_no, gd_yes', gd_no', cnd_true, cnd_false, pick_true, pick_false, not_bool, bin_add, bin_sub, bin_mul, bin_eql, bin_neq, bin_lss, bin_leq, bin_gtr, bin_geq, ext0, ext1, ext2, lenS_mk, eqNil_none, eqNil_some, neNil_none, neNil_some, ret_k, mem, Nat.zero_add, Nat.add_zero, Nat.mul_one, drewV, Bool.not_true, Bool.not_false]
  have eS : decide (awM.sent + 1 = 1) = true := rfl
  have e3 : decide (((3 : Nat) : Int) = 3) = true := rfl
  simp only [decide_true, eS, e3, lenS_mk, ei, pv_some, nilO_ptr, faO_mk, gd_yes, gd_no, gd_yes', gd_no', cnd_true, cnd_false, pick_true, pick_false, not_bool, bin_add, bin_sub, bin_mul, bin_eql, bin_neq, bin_lss, bin_leq, bin_gtr, bin_geq, ext0, ext1, ext2, lenS_mk, eqNil_none, eqNil_some, neNil_none, neNil_some, ret_k, mem, Nat.zero_add, Nat.add_zero, Nat.mul_one, drewV, Bool.not_true, Bool.not_false]
  refine ld1_a hcell ?_
  have e28 : decide (((28 : Nat) : Int) = 28) = true := rfl
  simp only [lenS_rdL hd, decide_true, e28, pv_some, nilO_ptr, faO_mk, gd_yes, gd_no, gd_yes', gd_no', cnd_true, cnd_false, pick_true, pick_false, not_bool, bin_add, bin_sub, bin_mul, bin_eql, bin_neq, bin_lss, bin_leq, bin_gtr, bin_geq, ext0, ext1, ext2, lenS_mk, eqNil_none, eqNil_some, neNil_none, neNil_some, ret_k, mem, Nat.zero_add, Nat.add_zero, Nat.mul_one, drewV, Bool.not_true, Bool.not_false]
  exact ⟨by trivial, H5.to (by intro f; simp only [I, U8, U64, ptr, List.set_cons_zero, List.set_cons_succ, List.eraseIdx_cons_zero, List.eraseIdx_cons_succ, List.map_append, List.map_cons, List.map_nil, List.sum_append, List.sum_cons, List.sum_nil]; omega)⟩
end
end Go.Proofs.Ytmnpndgmfmjfhaa.Den
