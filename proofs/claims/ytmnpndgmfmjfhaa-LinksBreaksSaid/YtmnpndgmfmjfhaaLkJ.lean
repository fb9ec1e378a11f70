/- Links: the law LinksBreaks, walked. Conditions: none. -/
import Derived.Test.YtmnpndgmfmjfhaaLkI
import Derived.Test.YtmnpndgmfmjfhaaLkRow
set_option linter.unusedVariables false
set_option linter.unusedSimpArgs false
set_option maxRecDepth 8000
namespace Go.Proofs.Ytmnpndgmfmjfhaa.Den
open Go Go.RowKit
def TrueP (w0 : Base) (F : List Chunk) : ER := fun e w' => e = .returned (.bool true) ∧ Hp w0 w' F
section
variable {w w' : World} {w0 : Base} {F L : List Chunk} {R : ER}
theorem Broken_spec {b : Nat} {M : LM} (H : Hp w0 w (L ++ F)) (hL : Lk w0 b M L) : Calls Pg 15 ⟨[ptr b 0]⟩ w fun e w' => e = .returned (.bool M.broken) ∧ Hp w0 w' (L ++ F) := by
  obtain ⟨su, sus, sp, sa, cu, cus, cp, ca, D, sv, hlk, rfl⟩ := hL
  apply links_Link_Broken_calls
  unfold links_Link_Broken
  have e1 : neNilP (ptr b 0) = some (.bool true) := rfl
  simp only [e1, pv_some, nilO_ptr, faO_mk, gd_yes, gd_no, gd_yes', gd_no', cnd_true, cnd_false, pick_true, pick_false, not_bool, bin_add, bin_sub, bin_mul, bin_eql, bin_neq, bin_lss, bin_leq, bin_gtr, bin_geq, ext0, ext1, ext2, lenS_mk, eqNil_none, eqNil_some, neNil_none, neNil_some, ret_k, mem, Nat.zero_add, Nat.add_zero, Nat.mul_one, drewV, Bool.not_true, Bool.not_false]
  refine ld_h H 0 rfl rfl ?_
  exact ⟨rfl, H⟩
theorem breaks_l {tb b0 : Nat} {l : List Value} (hl : l[0]? = some (ptr b0 0)) : ∀ (k i : Nat) (w : World) (M : LM) (L D : List Chunk), i + k = 7 → Br i M → Lk w0 b0 M L → Hp w0 w (L ++ (⟨tb, 39, l⟩ :: (D ++ F))) →
    orpimentlaw35_LinksBreaks_l1 (TrueP w0 F) (k + 1) (ptr tb 0) (I (i : Int)) w := by
  intro k
  induction k with
  | zero =>
    intro i w M L D hi hB hL H
    have hi7 : i = 7 := by omega
    subst hi7
    rw [orpimentlaw35_LinksBreaks_l1_succ]
    unfold orpimentlaw35_LinksBreaks_b1
    have e0 : ixA 2 1 (ptr tb 0) (.int .i64 0) = some (ptr tb 0) := ixA_mk (j := 0) (by decide)
    simp only [e0, pv_some, nilO_ptr, faO_mk, gd_yes, gd_no, gd_yes', gd_no', cnd_true, cnd_false, pick_true, pick_false, not_bool, bin_add, bin_sub, bin_mul, bin_eql, bin_neq, bin_lss, bin_leq, bin_gtr, bin_geq, ext0, ext1, ext2, lenS_mk, eqNil_none, eqNil_some, neNil_none, neNil_some, ret_k, mem, Nat.zero_add, Nat.add_zero, Nat.mul_one, drewV, Bool.not_true, Bool.not_false]
    have hwf := hB.wf
    have H0 : Hp w0 w (⟨tb, 39, l⟩ :: (L ++ (D ++ F))) := H.to (by intro f; simp only [I, U8, U64, ptr, List.set_cons_zero, List.set_cons_succ, List.eraseIdx_cons_zero, List.eraseIdx_cons_succ, List.map_append, List.map_cons, List.map_nil, List.sum_append, List.sum_cons, List.sum_nil]; omega)
    refine ld_h H0 0 rfl hl ?_
    have hul := hwf.ul
    have hal := hwf.al
    refine cal_h (Next_spec H hL (by omega) (fun u hu => by have := hwf.at_ u hu; omega) (by have := hwf.tout; omega) (by omega)) ?_
    rintro e w1 ⟨rfl, H1⟩
    have hnx := br_next hB (by omega)
    have hn : (nextV M).2 = true := by rw [hnx]
    simp only [hn, pv_some, nilO_ptr, faO_mk, gd_yes, gd_no, gd_yes', gd_no', cnd_true, cnd_false, pick_true, pick_false, not_bool, bin_add, bin_sub, bin_mul, bin_eql, bin_neq, bin_lss, bin_leq, bin_gtr, bin_geq, ext0, ext1, ext2, lenS_mk, eqNil_none, eqNil_some, neNil_none, neNil_some, ret_k, mem, Nat.zero_add, Nat.add_zero, Nat.mul_one, drewV, Bool.not_true, Bool.not_false]
    have H1' : Hp w0 w1 (⟨tb, 39, l⟩ :: (L ++ (D ++ F))) := H1.to (by intro f; simp only [I, U8, U64, ptr, List.set_cons_zero, List.set_cons_succ, List.eraseIdx_cons_zero, List.eraseIdx_cons_succ, List.map_append, List.map_cons, List.map_nil, List.sum_append, List.sum_cons, List.sum_nil]; omega)
    refine ld_h H1' 0 rfl hl ?_
    refine cal_h (Output_spec H1 hL hwf) ?_
    rintro e w2 ⟨s, co, Db, sv, L2, rfl, H2, hP, hL2⟩
    obtain ⟨q1, q2⟩ := br_end hB
    simp only [q1, pv_some, nilO_ptr, faO_mk, gd_yes, gd_no, gd_yes', gd_no', cnd_true, cnd_false, pick_true, pick_false, not_bool, bin_add, bin_sub, bin_mul, bin_eql, bin_neq, bin_lss, bin_leq, bin_gtr, bin_geq, ext0, ext1, ext2, lenS_mk, eqNil_none, eqNil_some, neNil_none, neNil_some, ret_k, mem, Nat.zero_add, Nat.add_zero, Nat.mul_one, drewV, Bool.not_true, Bool.not_false]
    try simp only [show decide ((4 : Int) = 4) = true from rfl, pv_some, nilO_ptr, faO_mk, gd_yes, gd_no, gd_yes', gd_no', cnd_true, cnd_false, pick_true, pick_false, not_bool, bin_add, bin_sub, bin_mul, bin_eql, bin_neq, bin_lss, bin_leq, bin_gtr, bin_geq, ext0, ext1, ext2, lenS_mk, eqNil_none, eqNil_some, neNil_none, neNil_some, ret_k, mem, Nat.zero_add, Nat.add_zero, Nat.mul_one, drewV, Bool.not_true, Bool.not_false]
    rw [q2] at hL2
    generalize hM2 : ({ M with broken := true } : LM) = M2 at hL2
    have b1 : M2.broken = true := by rw [← hM2]
    have b2 : M2.us.length = M.us.length := by rw [← hM2]
    have b3 : M2.acks = M.acks := by rw [← hM2]
    have b4 : M2.size = M.size := by rw [← hM2]
    have b5 : M2.sent = M.sent := by rw [← hM2]
    have b6 : M2.done = M.done := by rw [← hM2]
    have b7 : M2.clock = M.clock := by rw [← hM2]
    have b8 : M2.us = M.us := by rw [← hM2]
    have b9 : M2.timeout = M.timeout := by rw [← hM2]
    have H2' : Hp w0 w2 (⟨tb, 39, l⟩ :: (L2 ++ (co ++ (Db ++ (D ++ F))))) := H2.to (by intro f; simp only [I, U8, U64, ptr, List.set_cons_zero, List.set_cons_succ, List.eraseIdx_cons_zero, List.eraseIdx_cons_succ, List.map_append, List.map_cons, List.map_nil, List.sum_append, List.sum_cons, List.sum_nil]; omega)
    refine ld_h H2' 0 rfl hl ?_
    have H2'' : Hp w0 w2 (L2 ++ (⟨tb, 39, l⟩ :: (co ++ (Db ++ (D ++ F))))) := H2.to (by intro f; simp only [I, U8, U64, ptr, List.set_cons_zero, List.set_cons_succ, List.eraseIdx_cons_zero, List.eraseIdx_cons_succ, List.map_append, List.map_cons, List.map_nil, List.sum_append, List.sum_cons, List.sum_nil]; omega)
    have hsz := hwf.size
    have hsd := hwf.sd
    have hcl := hwf.clock
    have hto := hwf.tout
    have hc7 := hB.cl
    have ht7 := hB.to_
    have eS : sendE M2 [] (nextV M).1 = 4 := by
      rw [hnx, if_neg (by decide)]
      show sendE M2 [] (M.clock + M.timeout) = 4
      have : timeE M2 (M.clock + M.timeout) = 4 := by
        unfold timeE
        rw [if_neg (by omega), if_neg (by omega), if_pos b1]
      unfold sendE
      rw [if_neg (by simp), this, if_pos (by decide)]
    refine cal_h (Send_spec (s := .slice none 0 0) (d := []) H2'' hL2 (.inl (.inl ⟨0, rfl, by simp, rfl⟩)) (by simp) (by rw [b4]; exact hsz) (by omega) (by omega)) ?_
    rintro e w3 ⟨L3, rfl, H3, hL3⟩
    have eM : sendM M2 [] (nextV M).1 = M2 := by unfold sendM; rw [if_neg (by rw [eS]; decide)]
    rw [eM] at hL3
    rw [eS]
    simp only [pv_some, nilO_ptr, faO_mk, gd_yes, gd_no, gd_yes', gd_no', cnd_true, cnd_false, pick_true, pick_false, not_bool, bin_add, bin_sub, bin_mul, bin_eql, bin_neq, bin_lss, bin_leq, bin_gtr, bin_geq, ext0, ext1, ext2, lenS_mk, eqNil_none, eqNil_some, neNil_none, neNil_some, ret_k, mem, Nat.zero_add, Nat.add_zero, Nat.mul_one, drewV, Bool.not_true, Bool.not_false]
    have H3' : Hp w0 w3 (⟨tb, 39, l⟩ :: (L3 ++ (co ++ (Db ++ (D ++ F))))) := H3.to (by intro f; simp only [I, U8, U64, ptr, List.set_cons_zero, List.set_cons_succ, List.eraseIdx_cons_zero, List.eraseIdx_cons_succ, List.map_append, List.map_cons, List.map_nil, List.sum_append, List.sum_cons, List.sum_nil]; omega)
    refine ld_h H3' 0 rfl hl ?_
    refine cal_h (Next_spec H3 hL3 (by omega) (fun u hu => by rw [b8] at hu; have := hwf.at_ u hu; omega) (by omega) (by rw [b3]; omega)) ?_
    rintro e w4 ⟨rfl, H4⟩
    have hn2 : (nextV M2).2 = false := by unfold nextV; rw [if_pos b1]
    simp only [hn2, pv_some, nilO_ptr, faO_mk, gd_yes, gd_no, gd_yes', gd_no', cnd_true, cnd_false, pick_true, pick_false, not_bool, bin_add, bin_sub, bin_mul, bin_eql, bin_neq, bin_lss, bin_leq, bin_gtr, bin_geq, ext0, ext1, ext2, lenS_mk, eqNil_none, eqNil_some, neNil_none, neNil_some, ret_k, mem, Nat.zero_add, Nat.add_zero, Nat.mul_one, drewV, Bool.not_true, Bool.not_false]
    simp only [show decide (((7 : Nat) : Int) = 7) = true from rfl, show decide ((4 : Int) = 4) = true from rfl, e0, pv_some, nilO_ptr, faO_mk, gd_yes, gd_no, gd_yes', gd_no', cnd_true, cnd_false, pick_true, pick_false, not_bool, bin_add, bin_sub, bin_mul, bin_eql, bin_neq, bin_lss, bin_leq, bin_gtr, bin_geq, ext0, ext1, ext2, lenS_mk, eqNil_none, eqNil_some, neNil_none, neNil_some, ret_k, mem, Nat.zero_add, Nat.add_zero, Nat.mul_one, drewV, Bool.not_true, Bool.not_false]
    have H4' : Hp w0 w4 (⟨tb, 39, l⟩ :: (L3 ++ (co ++ (Db ++ (D ++ F))))) := H4.to (by intro f; simp only [I, U8, U64, ptr, List.set_cons_zero, List.set_cons_succ, List.eraseIdx_cons_zero, List.eraseIdx_cons_succ, List.map_append, List.map_cons, List.map_nil, List.sum_append, List.sum_cons, List.sum_nil]; omega)
    refine ld_h H4' 0 rfl hl ?_
    refine cal_h (Broken_spec H4 hL3) ?_
    rintro e w5 ⟨rfl, H5⟩
    simp only [b1, pv_some, nilO_ptr, faO_mk, gd_yes, gd_no, gd_yes', gd_no', cnd_true, cnd_false, pick_true, pick_false, not_bool, bin_add, bin_sub, bin_mul, bin_eql, bin_neq, bin_lss, bin_leq, bin_gtr, bin_geq, ext0, ext1, ext2, lenS_mk, eqNil_none, eqNil_some, neNil_none, neNil_some, ret_k, mem, Nat.zero_add, Nat.add_zero, Nat.mul_one, drewV, Bool.not_true, Bool.not_false]
    refine cal_h (awake_spec H5) ?_
    rintro e w6 ⟨rfl, H6⟩
    simp only [pv_some, nilO_ptr, faO_mk, gd_yes, gd_no, gd_yes', gd_no', cnd_true, cnd_false, pick_true, pick_false, not_bool, bin_add, bin_sub, bin_mul, bin_eql, bin_neq, bin_lss, bin_leq, bin_gtr, bin_geq, ext0, ext1, ext2, lenS_mk, eqNil_none, eqNil_some, neNil_none, neNil_some, ret_k, mem, Nat.zero_add, Nat.add_zero, Nat.mul_one, drewV, Bool.not_true, Bool.not_false]
    exact ⟨rfl, H6.to (by intro f; simp only [I, U8, U64, ptr, List.set_cons_zero, List.set_cons_succ, List.eraseIdx_cons_zero, List.eraseIdx_cons_succ, List.map_append, List.map_cons, List.map_nil, List.sum_append, List.sum_cons, List.sum_nil]; omega)⟩
  | succ k ih =>
    intro i w M L D hi hB hL H
    rw [orpimentlaw35_LinksBreaks_l1_succ]
    unfold orpimentlaw35_LinksBreaks_b1
    have e0 : ixA 2 1 (ptr tb 0) (.int .i64 0) = some (ptr tb 0) := ixA_mk (j := 0) (by decide)
    simp only [e0, pv_some, nilO_ptr, faO_mk, gd_yes, gd_no, gd_yes', gd_no', cnd_true, cnd_false, pick_true, pick_false, not_bool, bin_add, bin_sub, bin_mul, bin_eql, bin_neq, bin_lss, bin_leq, bin_gtr, bin_geq, ext0, ext1, ext2, lenS_mk, eqNil_none, eqNil_some, neNil_none, neNil_some, ret_k, mem, Nat.zero_add, Nat.add_zero, Nat.mul_one, drewV, Bool.not_true, Bool.not_false]
    have hwf := hB.wf
    have H0 : Hp w0 w (⟨tb, 39, l⟩ :: (L ++ (D ++ F))) := H.to (by intro f; simp only [I, U8, U64, ptr, List.set_cons_zero, List.set_cons_succ, List.eraseIdx_cons_zero, List.eraseIdx_cons_succ, List.map_append, List.map_cons, List.map_nil, List.sum_append, List.sum_cons, List.sum_nil]; omega)
    refine ld_h H0 0 rfl hl ?_
    have hul := hwf.ul
    have hal := hwf.al
    refine cal_h (Next_spec H hL (by omega) (fun u hu => by have := hwf.at_ u hu; omega) (by have := hwf.tout; omega) (by omega)) ?_
    rintro e w1 ⟨rfl, H1⟩
    have hn : (nextV M).2 = true := by rw [br_next hB (by omega)]
    simp only [hn, pv_some, nilO_ptr, faO_mk, gd_yes, gd_no, gd_yes', gd_no', cnd_true, cnd_false, pick_true, pick_false, not_bool, bin_add, bin_sub, bin_mul, bin_eql, bin_neq, bin_lss, bin_leq, bin_gtr, bin_geq, ext0, ext1, ext2, lenS_mk, eqNil_none, eqNil_some, neNil_none, neNil_some, ret_k, mem, Nat.zero_add, Nat.add_zero, Nat.mul_one, drewV, Bool.not_true, Bool.not_false]
    have H1' : Hp w0 w1 (⟨tb, 39, l⟩ :: (L ++ (D ++ F))) := H1.to (by intro f; simp only [I, U8, U64, ptr, List.set_cons_zero, List.set_cons_succ, List.eraseIdx_cons_zero, List.eraseIdx_cons_succ, List.map_append, List.map_cons, List.map_nil, List.sum_append, List.sum_cons, List.sum_nil]; omega)
    refine ld_h H1' 0 rfl hl ?_
    refine cal_h (Output_spec H1 hL hwf) ?_
    rintro e w2 ⟨s, co, Db, sv, L2, rfl, H2, hP, hL2⟩
    obtain ⟨q1, q2, q3⟩ := br_step hB (by omega)
    have hlen : lenS s = some (I ((outV M (nextV M).1).length : Int)) := lenS_rdL (hP.sl.rdL (w0 := w0) (L := co) fun c hc => hc)
    have hne : (outV M (nextV M).1).length ≠ 0 := fun h => q2 (List.length_eq_zero_iff.1 h)
    simp only [q1, hlen, pv_some, nilO_ptr, faO_mk, gd_yes, gd_no, gd_yes', gd_no', cnd_true, cnd_false, pick_true, pick_false, not_bool, bin_add, bin_sub, bin_mul, bin_eql, bin_neq, bin_lss, bin_leq, bin_gtr, bin_geq, ext0, ext1, ext2, lenS_mk, eqNil_none, eqNil_some, neNil_none, neNil_some, ret_k, mem, Nat.zero_add, Nat.add_zero, Nat.mul_one, drewV, Bool.not_true, Bool.not_false]
    simp only [hlen, show decide ((0 : Int) = 4) = false from rfl, show decide ((0 : Int) ≠ 0) = false from rfl, decide_eq_false (show ¬ (((outV M (nextV M).1).length : Int) = 0) from by omega), decide_eq_false (show ¬ ((6 : Int) < (i : Int)) from by omega), pv_some, nilO_ptr, faO_mk, gd_yes, gd_no, gd_yes', gd_no', cnd_true, cnd_false, pick_true, pick_false, not_bool, bin_add, bin_sub, bin_mul, bin_eql, bin_neq, bin_lss, bin_leq, bin_gtr, bin_geq, ext0, ext1, ext2, lenS_mk, eqNil_none, eqNil_some, neNil_none, neNil_some, ret_k, mem, Nat.zero_add, Nat.add_zero, Nat.mul_one, drewV, Bool.not_true, Bool.not_false]
    rw [wrap64_id (by omega) (by omega), show (i : Int) + 1 = ((i + 1 : Nat) : Int) from by omega]
    exact ih (i + 1) w2 _ L2 (co ++ (Db ++ D)) (by omega) q3 hL2 (H2.to (by intro f; simp only [I, U8, U64, ptr, List.set_cons_zero, List.set_cons_succ, List.eraseIdx_cons_zero, List.eraseIdx_cons_succ, List.map_append, List.map_cons, List.map_nil, List.sum_append, List.sum_cons, List.sum_nil]; omega))
theorem LinksBreaks_walk {a b c d : Int} {s : Value} {n : Nat} {xs : List Int} (hs : RdL w0 F 1 s n (bv xs)) (hl : xs.length = n) (H : Hp w0 w F) :
    Calls Pg 3 ⟨[.agg ⟨[I a, I b, I c, I d]⟩, s]⟩ w (TrueP w0 F) := by
  subst hl
  apply orpimentlaw35_LinksBreaks_calls
  unfold orpimentlaw35_LinksBreaks
  refine bxa_h H fun w1 cb H1 => ?_
  refine ldA_h H1 0 rfl rfl ?_
  refine cal_h (begin_spec H1) ?_
  rintro e w2 ⟨tb, b0, b1, r0, r1, L0, L1, L2, L3, rfl, H2, hL0, hL1, hL2, hL3⟩
  simp only [pv_some, nilO_ptr, faO_mk, gd_yes, gd_no, gd_yes', gd_no', cnd_true, cnd_false, pick_true, pick_false, not_bool, bin_add, bin_sub, bin_mul, bin_eql, bin_neq, bin_lss, bin_leq, bin_gtr, bin_geq, ext0, ext1, ext2, lenS_mk, eqNil_none, eqNil_some, neNil_none, neNil_some, ret_k, mem, Nat.zero_add, Nat.add_zero, Nat.mul_one, drewV, Bool.not_true, Bool.not_false]
  unfold orpimentlaw35_LinksBreaks_j1
  simp only [lenS_rdL hs, pv_some, nilO_ptr, faO_mk, gd_yes, gd_no, gd_yes', gd_no', cnd_true, cnd_false, pick_true, pick_false, not_bool, bin_add, bin_sub, bin_mul, bin_eql, bin_neq, bin_lss, bin_leq, bin_gtr, bin_geq, ext0, ext1, ext2, lenS_mk, eqNil_none, eqNil_some, neNil_none, neNil_some, ret_k, mem, Nat.zero_add, Nat.add_zero, Nat.mul_one, drewV, Bool.not_true, Bool.not_false]
  refine cnd_decide (fun h => ?_) (fun h => ?_)
  · refine cal_h (awake_spec H2) ?_
    rintro e w3 ⟨rfl, H3⟩
    exact ⟨rfl, H3.to (by intro f; simp only [I, U8, U64, ptr, List.set_cons_zero, List.set_cons_succ, List.eraseIdx_cons_zero, List.eraseIdx_cons_succ, List.map_append, List.map_cons, List.map_nil, List.sum_append, List.sum_cons, List.sum_nil]; omega)⟩
  unfold orpimentlaw35_LinksBreaks_j2 orpimentlaw35_LinksBreaks_j5
  have e0 : ixA 2 1 (ptr tb 0) (.int .i64 0) = some (ptr tb 0) := ixA_mk (j := 0) (by decide)
  simp only [e0, pv_some, nilO_ptr, faO_mk, gd_yes, gd_no, gd_yes', gd_no', cnd_true, cnd_false, pick_true, pick_false, not_bool, bin_add, bin_sub, bin_mul, bin_eql, bin_neq, bin_lss, bin_leq, bin_gtr, bin_geq, ext0, ext1, ext2, lenS_mk, eqNil_none, eqNil_some, neNil_none, neNil_some, ret_k, mem, Nat.zero_add, Nat.add_zero, Nat.mul_one, drewV, Bool.not_true, Bool.not_false]
  refine ld_h H2 0 rfl rfl ?_
  generalize htk : tkc b0 b1 r0 r1 nilS (I 0) nilS nilS nilS nilS = tk at H2
  have hl : tk[0]? = some (ptr b0 0) := by rw [← htk]; rfl
  have H2' : Hp w0 w2 (L0 ++ (⟨tb, 39, tk⟩ :: ((L1 ++ (L2 ++ (L3 ++ [⟨cb, 23, [I a, I b, I c, I d]⟩]))) ++ F))) := H2.to (by intro f; simp only [I, U8, U64, ptr, List.set_cons_zero, List.set_cons_succ, List.eraseIdx_cons_zero, List.eraseIdx_cons_succ, List.map_append, List.map_cons, List.map_nil, List.sum_append, List.sum_cons, List.sum_nil]; omega)
  obtain ⟨q1, q2⟩ := br_begin (a := a) (b := b) (c := c) (d := d) (xs := xs) (by omega)
  refine cal_h (Send_spec (now := 0) H2' hL0 (hs.mono fun c hc => by simp [hc]) (by omega) (by have : 32 ≤ cfS b ∧ cfS b ≤ 4096 := by { unfold cfS; omega }; exact this) (by simp [cfM, newM]) (by simp [cfM, newM])) ?_
  rintro e w3 ⟨L4, rfl, H3, hL4⟩
  rw [q1]
  simp only [show decide ((0 : Int) ≠ 0) = false from rfl, pv_some, nilO_ptr, faO_mk, gd_yes, gd_no, gd_yes', gd_no', cnd_true, cnd_false, pick_true, pick_false, not_bool, bin_add, bin_sub, bin_mul, bin_eql, bin_neq, bin_lss, bin_leq, bin_gtr, bin_geq, ext0, ext1, ext2, lenS_mk, eqNil_none, eqNil_some, neNil_none, neNil_some, ret_k, mem, Nat.zero_add, Nat.add_zero, Nat.mul_one, drewV, Bool.not_true, Bool.not_false]
  unfold orpimentlaw35_LinksBreaks_j3 orpimentlaw35_LinksBreaks_j4
  exact ⟨7 + 1, breaks_l hl 7 0 w3 _ L4 _ (by omega) q2 hL4 H3⟩
end
end Go.Proofs.Ytmnpndgmfmjfhaa.Den
