/- Links: both links side by side: comparing results, one call. Conditions: none. -/
import Derived.Test.YtmnpndgmfmjfhaaRows
import Derived.WalkKit
import Derived.ProofKit
import Derived.OpenShut
import Derived.Carry
import Derived.Deep.Slices
import Derived.Deep.Fields
import Derived.ChangeSame
import Derived.Lib.SmallJoins
import Derived.SizedLaws
import Derived.Test.YtmnpndgmfmjfhaaQ14
section
set_option linter.unusedVariables false
set_option linter.unusedSimpArgs false
set_option maxRecDepth 8000
namespace Go.Proofs.Ytmnpndgmfmjfhaa.Den
open Go Go.RowKit
section
variable {w w' : World} {w0 : Base} {F L : List Chunk} {R : ER}
theorem out_cellP {os : List OM} {sv rest : List Value} {p : Nat} {o : OM} {s : Value} (hsv : sv.length = os.length) (ho : os[p]? = some o) (hs : sv[p]? = some s) : ((ocells os sv ++ rest).drop (p * 2)).take 2 = [I o.1, s] := by
  have hlen : (ocells os sv).length = os.length * 2 := by
    unfold ocells; rw [flat_length (sz := 2) (ozip_len os sv)]; simp [hsv]
  have hp : p < os.length := (List.getElem?_eq_some_iff.1 ho).1
  apply List.ext_getElem?
  intro m
  rw [List.getElem?_take]
  by_cases hm : m < 2
  · rw [if_pos hm, List.getElem?_drop, List.getElem?_append_left (by rw [hlen]; omega)]
    exact ocells_get ho hs hm
  · rw [if_neg hm, List.getElem?_eq_none (by simp; omega)]
theorem ocells_lenP {os : List OM} {sv : List Value} (hsv : sv.length = os.length) : (ocells os sv).length = os.length * 2 := by
  unfold ocells; rw [flat_length (sz := 2) (ozip_len os sv)]; simp [hsv]
theorem encR_lenP {k m f : Int} {last : Bool} {d : List Int} : (encR k last m f d).length < 2 ^ 40 := by
  unfold encR
  split
  · rename_i h
    have := (encE_zero' h).2.2.2.2
    rw [encB_length]; omega
  · simp
theorem outUs_bytesP {again : Bool} {now q : Int} {ws : List Int} : ∀ (n : Nat) (t : Int) (us : List UM), ∀ o ∈ (outUs again now q ws n t us).1, o.2.length < 2 ^ 40
  | 0, t, us, o, h => by simp [outUs] at h
  | n + 1, t, [], o, h => by simp [outUs] at h
  | n + 1, t, v :: r, o, h => by
    unfold outUs at h
    split at h
    · exact outUs_bytesP n t r o h
    · rcases List.mem_append.1 h with h | h
      · unfold outWs at h
        obtain ⟨x, _, rfl⟩ := List.mem_map.1 h
        exact encR_lenP
      · exact outUs_bytesP n _ r o h
theorem outV_bytesP {M : LM} {now : Int} : ∀ o ∈ outV M now, o.2.length < 2 ^ 40 := by
  intro o h
  unfold outV at h
  split at h
  · simp at h
  · split at h
    · simp at h
    · rcases List.mem_append.1 h with h | h
      · obtain ⟨x, _, rfl⟩ := List.mem_map.1 h
        exact encR_lenP
      · exact outUs_bytesP _ _ _ o h
theorem Ack_specP {b : Nat} {M : LM} (H : Hp w0 w (L ++ F)) (hL : Lk w0 b M L) : Calls Pg 25 ⟨[ptr b 0]⟩ w fun e w' => e = .returned (I M.done) ∧ Hp w0 w' (L ++ F) := by
  obtain ⟨su, sus, sp, sa, cu, cus, cp, ca, D, sv, hlk, rfl⟩ := hL
  apply F25_calls
  unfold F25
  have e1 : eqNilP (ptr b 0) = some (.bool false) := rfl
  simp only [e1, pv_some, nilO_ptr, faO_mk, gd_yes, gd_no, gd_yes', gd_no', cnd_true, cnd_false, pick_true, pick_false, not_bool, bin_add, bin_sub, bin_mul, bin_eql, bin_neq, bin_lss, bin_leq, bin_gtr, bin_geq, ext0, ext1, ext2, lenS_mk, eqNil_none, eqNil_some, neNil_none, neNil_some, ret_k, mem, Nat.zero_add, Nat.add_zero, Nat.mul_one, drewV, Bool.not_true, Bool.not_false]
  refine ld_h H 0 rfl rfl ?_
  exact ⟨rfl, H⟩
theorem BrokenQ_specP {b : Nat} {M : LM} (H : Hp w0 w (L ++ F)) (hL : Lk w0 b M L) : Calls Pg 15 ⟨[ptr b 0]⟩ w fun e w' => e = .returned (.bool M.broken) ∧ Hp w0 w' (L ++ F) := by
  obtain ⟨su, sus, sp, sa, cu, cus, cp, ca, D, sv, hlk, rfl⟩ := hL
  apply F15_calls
  unfold F15
  have e1 : neNilP (ptr b 0) = some (.bool true) := rfl
  simp only [e1, pv_some, nilO_ptr, faO_mk, gd_yes, gd_no, gd_yes', gd_no', cnd_true, cnd_false, pick_true, pick_false, not_bool, bin_add, bin_sub, bin_mul, bin_eql, bin_neq, bin_lss, bin_leq, bin_gtr, bin_geq, ext0, ext1, ext2, lenS_mk, eqNil_none, eqNil_some, neNil_none, neNil_some, ret_k, mem, Nat.zero_add, Nat.add_zero, Nat.mul_one, drewV, Bool.not_true, Bool.not_false]
  refine ld_h H 0 rfl rfl ?_
  exact ⟨rfl, H⟩
theorem enter53 : enterOk Pg 53 = true := by kernel_rfl
theorem enter70 : enterOk Pg 70 = true := by kernel_rfl
/-- A function that compares slices of bytes. -/
def EqF (c : Nat) : Prop := ∀ {w : World} {w0 : Base} {L : List Chunk} {s t : Value} {v : List Int}, RdL w0 L 1 s v.length (bv v) → RdL w0 L 1 t v.length (bv v) → v.length < 2 ^ 60 → Hp w0 w L → Calls Pg c ⟨[s, t]⟩ w fun e w' => e = .returned (.bool true) ∧ Hp w0 w' L
theorem eqF53 : EqF 53 := by
  intro w w0 L s t v r1 r2 hl H
  apply F53_calls
  unfold F53
  refine cal_h (Equal_spec H r1 r2 hl) ?_
  rw [decide_eq_true rfl]
  rintro _ w1 ⟨rfl, H1⟩
  exact ⟨rfl, H1⟩
theorem eqm_l {fv : Nat} (hen : enterOk Pg fv = true) (heq : EqF fv) {s s' : Value} {vs : List (List Int)} {co Db co2 Db2 : List Chunk} {sv sv2 : List Value} (h1 : MsgP w0 s vs co Db sv) (h2 : MsgP w0 s' vs co2 Db2 sv2) (m1 : ∀ c ∈ co, c ∈ L) (m2 : ∀ c ∈ Db, c ∈ L) (m3 : ∀ c ∈ co2, c ∈ L) (m4 : ∀ c ∈ Db2, c ∈ L)
    (hl : vs.length < 2 ^ 30) (hby : ∀ v ∈ vs, v.length < 2 ^ 60) (hq : ∀ w', Hp w0 w' L → R (.returned (.bool true)) w') :
    ∀ (d i : Nat) (w : World), i + d = vs.length → Hp w0 w L → F52_l1 R (d + 1) s' (.func (.func fv) ⟨[]⟩ ⟨[]⟩) s (I (vs.length : Int)) (I (i : Int)) w := by
  intro d
  induction d with
  | zero =>
    intro i w hi H
    rw [F52_l1_succ]
    unfold F52_b1
    simp only [pv_some, nilO_ptr, faO_mk, gd_yes, gd_no, gd_yes', gd_no', cnd_true, cnd_false, pick_true, pick_false, not_bool, bin_add, bin_sub, bin_mul, bin_eql, bin_neq, bin_lss, bin_leq, bin_gtr, bin_geq, ext0, ext1, ext2, lenS_mk, eqNil_none, eqNil_some, neNil_none, neNil_some, ret_k, mem, Nat.zero_add, Nat.add_zero, Nat.mul_one, drewV, Bool.not_true, Bool.not_false, show decide ((i : Int) < (vs.length : Int)) = false from decide_eq_false (by omega)]
    exact hq w H
  | succ d ih =>
    intro i w hi H
    have hlt : i < vs.length := by omega
    obtain ⟨v, hv⟩ : ∃ v, vs[i]? = some v := ⟨_, List.getElem?_eq_getElem hlt⟩
    obtain ⟨a, ha⟩ : ∃ a, sv[i]? = some a := ⟨_, List.getElem?_eq_getElem (by rw [h1.svl]; exact hlt)⟩
    obtain ⟨a2, ha2⟩ : ∃ a, sv2[i]? = some a := ⟨_, List.getElem?_eq_getElem (by rw [h2.svl]; exact hlt)⟩
    rw [F52_l1_succ]
    unfold F52_b1
    simp only [pv_some, nilO_ptr, faO_mk, gd_yes, gd_no, gd_yes', gd_no', cnd_true, cnd_false, pick_true, pick_false, not_bool, bin_add, bin_sub, bin_mul, bin_eql, bin_neq, bin_lss, bin_leq, bin_gtr, bin_geq, ext0, ext1, ext2, lenS_mk, eqNil_none, eqNil_some, neNil_none, neNil_some, ret_k, mem, Nat.zero_add, Nat.add_zero, Nat.mul_one, drewV, Bool.not_true, Bool.not_false, show decide ((i : Int) < (vs.length : Int)) = true from decide_eq_true (by omega)]
    unfold F52_j5
    refine ix1_rd ((h1.sl.rdL (w0 := w0) m1).rd H) ha ?_
    refine ix1_rd ((h2.sl.rdL (w0 := w0) m3).rd H) ha2 ?_
    have r1 := (h1.dat i v a hv ha).mono m2
    have r2 := (h2.dat i v a2 hv ha2).mono m4
    refine calD_fn (Q := fun e w' => e = .returned (.bool true) ∧ Hp w0 w' L) hen ?_ ?_
    · exact heq r1 r2 (hby v (List.mem_of_getElem? hv)) H
    · rintro _ w1 ⟨rfl, H1⟩
      simp only [pv_some, nilO_ptr, faO_mk, gd_yes, gd_no, gd_yes', gd_no', cnd_true, cnd_false, pick_true, pick_false, not_bool, bin_add, bin_sub, bin_mul, bin_eql, bin_neq, bin_lss, bin_leq, bin_gtr, bin_geq, ext0, ext1, ext2, lenS_mk, eqNil_none, eqNil_some, neNil_none, neNil_some, ret_k, mem, Nat.zero_add, Nat.add_zero, Nat.mul_one, drewV, Bool.not_true, Bool.not_false]
      rw [wrap64_id (by omega) (by omega), show (i : Int) + 1 = ((i + 1 : Nat) : Int) from by omega]
      exact ih (i + 1) w1 (by omega) H1
theorem eqm_spec' {fv : Nat} (hen : enterOk Pg fv = true) (heq : EqF fv) {s s' : Value} {vs : List (List Int)} {co Db co2 Db2 : List Chunk} {sv sv2 : List Value} (h1 : MsgP w0 s vs co Db sv) (h2 : MsgP w0 s' vs co2 Db2 sv2) (m1 : ∀ c ∈ co, c ∈ L) (m2 : ∀ c ∈ Db, c ∈ L) (m3 : ∀ c ∈ co2, c ∈ L) (m4 : ∀ c ∈ Db2, c ∈ L)
    (hl : vs.length < 2 ^ 30) (hby : ∀ v ∈ vs, v.length < 2 ^ 60) (H : Hp w0 w L) : Calls Pg 52 ⟨[s, s', .func (.func fv) ⟨[]⟩ ⟨[]⟩]⟩ w fun e w' => e = .returned (.bool true) ∧ Hp w0 w' L := by
  apply F52_calls
  unfold F52
  simp only [lenS_sl h1.sl, lenS_sl h2.sl, pv_some, nilO_ptr, faO_mk, gd_yes, gd_no, gd_yes', gd_no', cnd_true, cnd_false, pick_true, pick_false, not_bool, bin_add, bin_sub, bin_mul, bin_eql, bin_neq, bin_lss, bin_leq, bin_gtr, bin_geq, ext0, ext1, ext2, lenS_mk, eqNil_none, eqNil_some, neNil_none, neNil_some, ret_k, mem, Nat.zero_add, Nat.add_zero, Nat.mul_one, drewV, Bool.not_true, Bool.not_false]
  simp only [show decide ((vs.length : Int) ≠ (vs.length : Int)) = false from decide_eq_false (by simp), pv_some, nilO_ptr, faO_mk, gd_yes, gd_no, gd_yes', gd_no', cnd_true, cnd_false, pick_true, pick_false, not_bool, bin_add, bin_sub, bin_mul, bin_eql, bin_neq, bin_lss, bin_leq, bin_gtr, bin_geq, ext0, ext1, ext2, lenS_mk, eqNil_none, eqNil_some, neNil_none, neNil_some, ret_k, mem, Nat.zero_add, Nat.add_zero, Nat.mul_one, drewV, Bool.not_true, Bool.not_false]
  unfold F52_j1 F52_j3 F52_j4
  simp only [lenS_sl h1.sl, pv_some, nilO_ptr, faO_mk, gd_yes, gd_no, gd_yes', gd_no', cnd_true, cnd_false, pick_true, pick_false, not_bool, bin_add, bin_sub, bin_mul, bin_eql, bin_neq, bin_lss, bin_leq, bin_gtr, bin_geq, ext0, ext1, ext2, lenS_mk, eqNil_none, eqNil_some, neNil_none, neNil_some, ret_k, mem, Nat.zero_add, Nat.add_zero, Nat.mul_one, drewV, Bool.not_true, Bool.not_false]
  exact ⟨vs.length + 1, eqm_l hen heq h1 h2 m1 m2 m3 m4 hl hby (fun w' H' => ⟨rfl, H'⟩) vs.length 0 w (by omega) H⟩
theorem eqo_l {s s' : Value} {os : List OM} {co Db co2 Db2 : List Chunk} {sv sv2 : List Value} (h1 : OutP 90 w0 s os co Db sv) (h2 : OutP 145 w0 s' os co2 Db2 sv2) (hl : os.length < 2 ^ 30) (hby : ∀ o ∈ os, o.2.length < 2 ^ 60) (hq : ∀ w' L, Hp w0 w' L → (∃ G, L = G ++ F) → R (.returned (.bool true)) w') :
    ∀ (d i : Nat) (w : World) (G : List Chunk), i + d = os.length → Hp w0 w (G ++ F) → (∀ c ∈ co, c ∈ F) → (∀ c ∈ Db, c ∈ F) → (∀ c ∈ co2, c ∈ F) → (∀ c ∈ Db2, c ∈ F) →
      F69_l1 R (d + 1) s' (.func (.func 70) ⟨[]⟩ ⟨[]⟩) s (I (os.length : Int)) (I (i : Int)) w := by
  intro d
  induction d with
  | zero =>
    intro i w G hi H m1 m2 m3 m4
    rw [F69_l1_succ]
    unfold F69_b1
    simp only [pv_some, nilO_ptr, faO_mk, gd_yes, gd_no, gd_yes', gd_no', cnd_true, cnd_false, pick_true, pick_false, not_bool, bin_add, bin_sub, bin_mul, bin_eql, bin_neq, bin_lss, bin_leq, bin_gtr, bin_geq, ext0, ext1, ext2, lenS_mk, eqNil_none, eqNil_some, neNil_none, neNil_some, ret_k, mem, Nat.zero_add, Nat.add_zero, Nat.mul_one, drewV, Bool.not_true, Bool.not_false, show decide ((i : Int) < (os.length : Int)) = false from decide_eq_false (by omega)]
    exact hq w _ H ⟨G, rfl⟩
  | succ d ih =>
    intro i w G hi H m1 m2 m3 m4
    have hlt : i < os.length := by omega
    obtain ⟨o, ho⟩ : ∃ o, os[i]? = some o := ⟨_, List.getElem?_eq_getElem hlt⟩
    obtain ⟨a, ha⟩ : ∃ a, sv[i]? = some a := ⟨_, List.getElem?_eq_getElem (by rw [h1.svl]; exact hlt)⟩
    obtain ⟨a2, ha2⟩ : ∃ a, sv2[i]? = some a := ⟨_, List.getElem?_eq_getElem (by rw [h2.svl]; exact hlt)⟩
    rw [F69_l1_succ]
    unfold F69_b1
    simp only [pv_some, nilO_ptr, faO_mk, gd_yes, gd_no, gd_yes', gd_no', cnd_true, cnd_false, pick_true, pick_false, not_bool, bin_add, bin_sub, bin_mul, bin_eql, bin_neq, bin_lss, bin_leq, bin_gtr, bin_geq, ext0, ext1, ext2, lenS_mk, eqNil_none, eqNil_some, neNil_none, neNil_some, ret_k, mem, Nat.zero_add, Nat.add_zero, Nat.mul_one, drewV, Bool.not_true, Bool.not_false, show decide ((i : Int) < (os.length : Int)) = true from decide_eq_true (by omega)]
    unfold F69_j5
    obtain ⟨b1, c1, q1, e1, rfl, g1, g2, g3⟩ := h1.sl.chunk (by omega)
    obtain ⟨b2, c2, q2, e2, rfl, g4, g5, g6⟩ := h2.sl.chunk (by omega)
    have r1 := h1.dat i o a ho ha
    have r2 := h2.dat i o a2 ho ha2
    have s1 := (rd_cells r1).2
    have s2 := (rd_cells r2).2
    rw [ixS_mk hlt]
    simp only [pv_some, nilO_ptr, faO_mk, gd_yes, gd_no, gd_yes', gd_no', cnd_true, cnd_false, pick_true, pick_false, not_bool, bin_add, bin_sub, bin_mul, bin_eql, bin_neq, bin_lss, bin_leq, bin_gtr, bin_geq, ext0, ext1, ext2, lenS_mk, eqNil_none, eqNil_some, neNil_none, neNil_some, ret_k, mem, Nat.zero_add, Nat.add_zero, Nat.mul_one, drewV, Bool.not_true, Bool.not_false]
    refine ldN_blk (H.blk ⟨b1, 90, ocells os sv ++ q1⟩ (List.mem_append_right _ (m1 _ (by rw [e1]; simp)))).2 (by show _ ≤ (ocells os sv ++ q1).length; rw [List.length_append, ocells_lenP h1.svl]; omega) ?_
    rw [show ((({ b := b1, t := 90, l := ocells os sv ++ q1 } : Chunk).l).drop (i * 2)).take 2 = [I o.1, a] from out_cellP h1.svl ho ha]
    refine al_h H (z := [I 0, .slice none 0 0]) (by kernel_rfl) fun w1 x1 H1 => ?_
    refine stA_h H1 0 rfl rfl rfl (by intro c hc; simp at hc; rcases hc with rfl | rfl <;> first | rfl | exact s1) fun w2 H2 => ?_
    rw [ixS_mk hlt]
    simp only [pv_some, nilO_ptr, faO_mk, gd_yes, gd_no, gd_yes', gd_no', cnd_true, cnd_false, pick_true, pick_false, not_bool, bin_add, bin_sub, bin_mul, bin_eql, bin_neq, bin_lss, bin_leq, bin_gtr, bin_geq, ext0, ext1, ext2, lenS_mk, eqNil_none, eqNil_some, neNil_none, neNil_some, ret_k, mem, Nat.zero_add, Nat.add_zero, Nat.mul_one, drewV, Bool.not_true, Bool.not_false]
    refine ldN_blk (H2.blk ⟨b2, 145, ocells os sv2 ++ q2⟩ (List.mem_cons_of_mem _ (List.mem_append_right _ (m3 _ (by rw [e2]; simp))))).2 (by show _ ≤ (ocells os sv2 ++ q2).length; rw [List.length_append, ocells_lenP h2.svl]; omega) ?_
    rw [show ((({ b := b2, t := 145, l := ocells os sv2 ++ q2 } : Chunk).l).drop (i * 2)).take 2 = [I o.1, a2] from out_cellP h2.svl ho ha2]
    refine al_h H2 (z := [I 0, .slice none 0 0]) (by kernel_rfl) fun w3 x2 H3 => ?_
    refine stA_h H3 0 rfl rfl rfl (by intro c hc; simp at hc; rcases hc with rfl | rfl <;> first | rfl | exact s2) fun w4 H4 => ?_
    try simp only [pv_some, nilO_ptr, faO_mk, gd_yes, gd_no, gd_yes', gd_no', cnd_true, cnd_false, pick_true, pick_false, not_bool, bin_add, bin_sub, bin_mul, bin_eql, bin_neq, bin_lss, bin_leq, bin_gtr, bin_geq, ext0, ext1, ext2, lenS_mk, eqNil_none, eqNil_some, neNil_none, neNil_some, ret_k, mem, Nat.zero_add, Nat.add_zero, Nat.mul_one, drewV, Bool.not_true, Bool.not_false]
    refine ldA_h H4 1 rfl rfl ?_
    refine ldA_h H4 0 rfl rfl ?_
    have H4' : Hp w0 w4 ((⟨x2, 145, [I o.1, a2]⟩ :: ⟨x1, 90, [I o.1, a]⟩ :: G) ++ F) := H4
    have hbl := hby o (List.mem_of_getElem? ho)
    generalize (⟨x2, 145, [I o.1, a2]⟩ :: ⟨x1, 90, [I o.1, a]⟩ :: G : List Chunk) = G2 at H4'
    refine calD_fn (Q := fun e w' => e = .returned (.bool true) ∧ Hp w0 w' (G2 ++ F)) enter70 ?_ ?_
    · apply F70_calls
      unfold F70
      refine bxa_h H4' fun w5 y1 H5 => ?_
      refine bxa_h H5 fun w6 y2 H6 => ?_
      simp only [pv_some, nilO_ptr, faO_mk, gd_yes, gd_no, gd_yes', gd_no', cnd_true, cnd_false, pick_true, pick_false, not_bool, bin_add, bin_sub, bin_mul, bin_eql, bin_neq, bin_lss, bin_leq, bin_gtr, bin_geq, ext0, ext1, ext2, lenS_mk, eqNil_none, eqNil_some, neNil_none, neNil_some, ret_k, mem, Nat.zero_add, Nat.add_zero, Nat.mul_one, drewV, Bool.not_true, Bool.not_false]
      refine ld_h H6 1 rfl rfl ?_
      refine ld_h H6 0 rfl rfl ?_
      simp only [decide_true, pv_some, nilO_ptr, faO_mk, gd_yes, gd_no, gd_yes', gd_no', cnd_true, cnd_false, pick_true, pick_false, not_bool, bin_add, bin_sub, bin_mul, bin_eql, bin_neq, bin_lss, bin_leq, bin_gtr, bin_geq, ext0, ext1, ext2, lenS_mk, eqNil_none, eqNil_some, neNil_none, neNil_some, ret_k, mem, Nat.zero_add, Nat.add_zero, Nat.mul_one, drewV, Bool.not_true, Bool.not_false]
      refine ld_h H6 1 rfl rfl ?_
      refine ld_h H6 0 rfl rfl ?_
      refine cal_h (Equal_spec H6 (r1.mono fun c hc => by simp [m2 c hc]) (r2.mono fun c hc => by simp [m4 c hc]) hbl) ?_
      rw [decide_eq_true rfl]
      rintro _ w7 ⟨rfl, H7⟩
      simp only [pv_some, nilO_ptr, faO_mk, gd_yes, gd_no, gd_yes', gd_no', cnd_true, cnd_false, pick_true, pick_false, not_bool, bin_add, bin_sub, bin_mul, bin_eql, bin_neq, bin_lss, bin_leq, bin_gtr, bin_geq, ext0, ext1, ext2, lenS_mk, eqNil_none, eqNil_some, neNil_none, neNil_some, ret_k, mem, Nat.zero_add, Nat.add_zero, Nat.mul_one, drewV, Bool.not_true, Bool.not_false]
      exact ⟨(by first | rfl | trivial), H7.tail.tail⟩
    · rintro _ w5 ⟨rfl, H5⟩
      simp only [pv_some, nilO_ptr, faO_mk, gd_yes, gd_no, gd_yes', gd_no', cnd_true, cnd_false, pick_true, pick_false, not_bool, bin_add, bin_sub, bin_mul, bin_eql, bin_neq, bin_lss, bin_leq, bin_gtr, bin_geq, ext0, ext1, ext2, lenS_mk, eqNil_none, eqNil_some, neNil_none, neNil_some, ret_k, mem, Nat.zero_add, Nat.add_zero, Nat.mul_one, drewV, Bool.not_true, Bool.not_false]
      rw [wrap64_id (by omega) (by omega), show (i : Int) + 1 = ((i + 1 : Nat) : Int) from by omega]
      exact ih (i + 1) w5 G2 (by omega) H5 m1 m2 m3 m4
theorem eqo_spec {s s' : Value} {os : List OM} {co Db co2 Db2 : List Chunk} {sv sv2 : List Value} (h1 : OutP 90 w0 s os co Db sv) (h2 : OutP 145 w0 s' os co2 Db2 sv2) (m1 : ∀ c ∈ co, c ∈ L) (m2 : ∀ c ∈ Db, c ∈ L) (m3 : ∀ c ∈ co2, c ∈ L) (m4 : ∀ c ∈ Db2, c ∈ L)
    (hl : os.length < 2 ^ 30) (hby : ∀ o ∈ os, o.2.length < 2 ^ 60) (H : Hp w0 w L) : Calls Pg 55 ⟨[s, s']⟩ w fun e w' => e = .returned (.bool true) ∧ Hp w0 w' L := by
  apply F55_calls
  unfold F55
  refine cal_h (Q := fun e w' => e = .returned (.bool true) ∧ Hp w0 w' L) ?_ ?_
  · apply F69_calls
    unfold F69
    simp only [lenS_sl h1.sl, lenS_sl h2.sl, pv_some, nilO_ptr, faO_mk, gd_yes, gd_no, gd_yes', gd_no', cnd_true, cnd_false, pick_true, pick_false, not_bool, bin_add, bin_sub, bin_mul, bin_eql, bin_neq, bin_lss, bin_leq, bin_gtr, bin_geq, ext0, ext1, ext2, lenS_mk, eqNil_none, eqNil_some, neNil_none, neNil_some, ret_k, mem, Nat.zero_add, Nat.add_zero, Nat.mul_one, drewV, Bool.not_true, Bool.not_false]
    simp only [show decide ((os.length : Int) ≠ (os.length : Int)) = false from decide_eq_false (by simp), pv_some, nilO_ptr, faO_mk, gd_yes, gd_no, gd_yes', gd_no', cnd_true, cnd_false, pick_true, pick_false, not_bool, bin_add, bin_sub, bin_mul, bin_eql, bin_neq, bin_lss, bin_leq, bin_gtr, bin_geq, ext0, ext1, ext2, lenS_mk, eqNil_none, eqNil_some, neNil_none, neNil_some, ret_k, mem, Nat.zero_add, Nat.add_zero, Nat.mul_one, drewV, Bool.not_true, Bool.not_false]
    unfold F69_j1 F69_j3 F69_j4
    simp only [lenS_sl h1.sl, pv_some, nilO_ptr, faO_mk, gd_yes, gd_no, gd_yes', gd_no', cnd_true, cnd_false, pick_true, pick_false, not_bool, bin_add, bin_sub, bin_mul, bin_eql, bin_neq, bin_lss, bin_leq, bin_gtr, bin_geq, ext0, ext1, ext2, lenS_mk, eqNil_none, eqNil_some, neNil_none, neNil_some, ret_k, mem, Nat.zero_add, Nat.add_zero, Nat.mul_one, drewV, Bool.not_true, Bool.not_false]
    refine ⟨os.length + 1, eqo_l (F := L) h1 h2 hl hby ?_ os.length 0 w [] (by omega) H m1 m2 m3 m4⟩
    rintro w' _ H' ⟨G, rfl⟩
    exact ⟨rfl, H'.to (by intro f; simp only [List.map_append, List.sum_append]; omega)⟩
  · rintro _ w' ⟨rfl, H'⟩
    exact ⟨rfl, H'⟩
/-- Both links in one state. -/
structure Both (w0 : Base) (b r n : Nat) (M : LM) (La Lb : List Chunk) : Prop where
  a : Lk w0 b M La
  b : rLk w0 r M Lb
  i : LInv n M
  q : M.quality = 0 ∨ M.quality = 1 ∨ M.quality = 2
theorem LInv.rg {n : Nat} {M : LM} (h : LInv n M) : ∀ u ∈ M.us, (0 ≤ u.m ∧ u.m < 2 ^ 62) ∧ 0 ≤ u.f ∧ u.f < 2 ^ 62 := by
  intro u hu
  have h1 := h.us u hu
  have h2 := h.wf.sd
  omega
theorem inV_len1 {M : LM} {x now : Int} {xs : List Int} : (inV M x xs now).length ≤ 1 := by
  unfold inV takeV; split
  · simp
  · split
    · simp
    · split <;> simp
theorem inV_by {M : LM} {x now : Int} {xs : List Int} (hp : M.part.length ≤ 4096) : ∀ v ∈ inV M x xs now, v.length ≤ 8192 := by
  intro v hv
  unfold inV at hv
  split at hv
  · simp at hv
  · split at hv
    · simp at hv
    · unfold takeV at hv
      split at hv
      · rename_i h
        simp at hv; subst hv
        have := h.1.2.2
        simp only [List.length_append, List.length_drop] at this ⊢
        omega
      · simp at hv
theorem ackM_q {M : LM} {a b : Int} : (ackM M a b).quality = M.quality := by
  unfold ackM
  split
  · rfl
  · split
    · rfl
    · split <;> rfl
theorem inM_q {M : LM} {x now : Int} {xs : List Int} : (inM M x xs now).quality = M.quality := by
  unfold inM
  split
  · rfl
  · split
    · rw [ackM_q]
    · show (takeM _ _ _ _ _).quality = _
      unfold takeM
      split
      · split <;> rfl
      · rfl
theorem outM_q {M : LM} {now : Int} : (outM M now).quality = M.quality := by
  unfold outM
  split
  · rfl
  · split
    · rfl
    · split <;> rfl
theorem sendM_q {M : LM} {now : Int} {d : List Int} : (sendM M d now).quality = M.quality := by
  unfold sendM; split <;> rfl
theorem setM_q {M : LM} {x : Int} {f : Bool} : (setM M x f).quality = M.quality := by
  unfold setM; split <;> rfl
theorem outV_len {M : LM} {now : Int} (h : M.acks.length < 2 ^ 20) (hu : M.up.length ≤ 8) : (outV M now).length < 2 ^ 30 := by
  have key : ∀ (again : Bool) (q : Int) (ws : List Int) (n : Nat) (t : Int) (us : List UM), (outUs again now q ws n t us).1.length ≤ n * ws.length := by
    intro again q ws n
    induction n with
    | zero => intro t us; simp [outUs]
    | succ n ih =>
      intro t us
      cases us with
      | nil => simp [outUs]
      | cons u r =>
        unfold outUs
        split
        · have := ih t r
          simp only [Nat.succ_mul]; omega
        · have h1 := ih (overT q t) r
          have h2 := overI_len q t ws
          simp only [List.length_append, outWs, List.length_map, Nat.succ_mul]; omega
  unfold outV
  split
  · simp
  · split
    · simp
    · have h1 := key (againB M now) M.quality (useI 0 M.up) 8 M.turn M.us
      have h2 := useI_le M.up 0
      simp only [List.length_append, List.length_map]
      have h3 : 8 * (useI 0 M.up).length ≤ 8 * 8 := Nat.mul_le_mul_left _ (by omega)
      omega
/-- What is seen of both is the same. -/
theorem seen_spec {b r n : Nat} {M : LM} {La Lb : List Chunk} (hB : Both w0 b r n M La Lb) (hn : n < 10000) (H : Hp w0 w (La ++ (Lb ++ F))) :
    Calls Pg 32 ⟨[ptr b 0, ptr r 0]⟩ w fun e w' => e = .returned (.bool true) ∧ Hp w0 w' (La ++ (Lb ++ F)) := by
  have h1 := hB.i.un
  have h2 := hB.i.an
  have h3 := hB.i.wf.tout
  have hn4 : 4097 * n ≤ 4097 * 10000 := Nat.mul_le_mul_left _ (by omega)
  have hat : ∀ u ∈ M.us, -1 ≤ u.at_ ∧ u.at_ ≤ 2 ^ 41 := fun u hu => by have := hB.i.wf.at_ u hu; omega
  have sw : ∀ {w : World}, Hp w0 w (La ++ (Lb ++ F)) → Hp w0 w (Lb ++ (La ++ F)) := fun H => H.to (by intro f; simp only [I, U8, U64, ptr, List.set_cons_zero, List.set_cons_succ, List.eraseIdx_cons_zero, List.eraseIdx_cons_succ, List.map_append, List.map_cons, List.map_nil, List.sum_append, List.sum_cons, List.sum_nil]; omega)
  have sw' : ∀ {w : World}, Hp w0 w (Lb ++ (La ++ F)) → Hp w0 w (La ++ (Lb ++ F)) := fun H => H.to (by intro f; simp only [I, U8, U64, ptr, List.set_cons_zero, List.set_cons_succ, List.eraseIdx_cons_zero, List.eraseIdx_cons_succ, List.map_append, List.map_cons, List.map_nil, List.sum_append, List.sum_cons, List.sum_nil]; omega)
  apply F32_calls
  unfold F32
  refine cal_h (Next_spec H hB.a (by omega) hat (by omega) (by omega)) ?_
  rintro _ w1 ⟨rfl, H1⟩
  simp only [pv_some, nilO_ptr, faO_mk, gd_yes, gd_no, gd_yes', gd_no', cnd_true, cnd_false, pick_true, pick_false, not_bool, bin_add, bin_sub, bin_mul, bin_eql, bin_neq, bin_lss, bin_leq, bin_gtr, bin_geq, ext0, ext1, ext2, lenS_mk, eqNil_none, eqNil_some, neNil_none, neNil_some, ret_k, mem, Nat.zero_add, Nat.add_zero, Nat.mul_one, drewV, Bool.not_true, Bool.not_false]
  refine cal_h (rNext_spec (sw H1) hB.b (by omega) hat (by omega)) ?_
  rintro _ w2 ⟨rfl, H2⟩
  simp only [decide_true, pv_some, nilO_ptr, faO_mk, gd_yes, gd_no, gd_yes', gd_no', cnd_true, cnd_false, pick_true, pick_false, not_bool, bin_add, bin_sub, bin_mul, bin_eql, bin_neq, bin_lss, bin_leq, bin_gtr, bin_geq, ext0, ext1, ext2, lenS_mk, eqNil_none, eqNil_some, neNil_none, neNil_some, ret_k, mem, Nat.zero_add, Nat.add_zero, Nat.mul_one, drewV, Bool.not_true, Bool.not_false]
  have eb : ∀ v : Bool, binB .eql (.bool v) (.bool v) = some (.bool true) := by intro v; cases v <;> rfl
  simp only [eb, pv_some, nilO_ptr, faO_mk, gd_yes, gd_no, gd_yes', gd_no', cnd_true, cnd_false, pick_true, pick_false, not_bool, bin_add, bin_sub, bin_mul, bin_eql, bin_neq, bin_lss, bin_leq, bin_gtr, bin_geq, ext0, ext1, ext2, lenS_mk, eqNil_none, eqNil_some, neNil_none, neNil_some, ret_k, mem, Nat.zero_add, Nat.add_zero, Nat.mul_one, drewV, Bool.not_true, Bool.not_false]
  refine cal_h (Ack_specP (sw' H2) hB.a) ?_
  rintro _ w3 ⟨rfl, H3⟩
  simp only [pv_some, nilO_ptr, faO_mk, gd_yes, gd_no, gd_yes', gd_no', cnd_true, cnd_false, pick_true, pick_false, not_bool, bin_add, bin_sub, bin_mul, bin_eql, bin_neq, bin_lss, bin_leq, bin_gtr, bin_geq, ext0, ext1, ext2, lenS_mk, eqNil_none, eqNil_some, neNil_none, neNil_some, ret_k, mem, Nat.zero_add, Nat.add_zero, Nat.mul_one, drewV, Bool.not_true, Bool.not_false]
  refine cal_h (rAck_spec (sw H3) hB.b) ?_
  rintro _ w4 ⟨rfl, H4⟩
  simp only [decide_true, pv_some, nilO_ptr, faO_mk, gd_yes, gd_no, gd_yes', gd_no', cnd_true, cnd_false, pick_true, pick_false, not_bool, bin_add, bin_sub, bin_mul, bin_eql, bin_neq, bin_lss, bin_leq, bin_gtr, bin_geq, ext0, ext1, ext2, lenS_mk, eqNil_none, eqNil_some, neNil_none, neNil_some, ret_k, mem, Nat.zero_add, Nat.add_zero, Nat.mul_one, drewV, Bool.not_true, Bool.not_false]
  refine cal_h (BrokenQ_specP (sw' H4) hB.a) ?_
  rintro _ w5 ⟨rfl, H5⟩
  simp only [pv_some, nilO_ptr, faO_mk, gd_yes, gd_no, gd_yes', gd_no', cnd_true, cnd_false, pick_true, pick_false, not_bool, bin_add, bin_sub, bin_mul, bin_eql, bin_neq, bin_lss, bin_leq, bin_gtr, bin_geq, ext0, ext1, ext2, lenS_mk, eqNil_none, eqNil_some, neNil_none, neNil_some, ret_k, mem, Nat.zero_add, Nat.add_zero, Nat.mul_one, drewV, Bool.not_true, Bool.not_false]
  refine cal_h (rBroken_spec (sw H5) hB.b) ?_
  rintro _ w6 ⟨rfl, H6⟩
  simp only [eb, pv_some, nilO_ptr, faO_mk, gd_yes, gd_no, gd_yes', gd_no', cnd_true, cnd_false, pick_true, pick_false, not_bool, bin_add, bin_sub, bin_mul, bin_eql, bin_neq, bin_lss, bin_leq, bin_gtr, bin_geq, ext0, ext1, ext2, lenS_mk, eqNil_none, eqNil_some, neNil_none, neNil_some, ret_k, mem, Nat.zero_add, Nat.add_zero, Nat.mul_one, drewV, Bool.not_true, Bool.not_false]
  exact ⟨(by first | rfl | trivial), sw' H6⟩
/-- What a call of both leaves. -/
def DoQ (w0 : Base) (F : List Chunk) (b r n : Nat) (M' : LM) : ER := fun e w' => e = .returned (.bool true) ∧ ∃ La Lb, Both w0 b r (n + 1) M' La Lb ∧ Hp w0 w' (La ++ (Lb ++ F))
def doM (M : LM) (k x now : Int) (fl : Bool) (xs : List Int) : LM := if k = 0 then setM M x fl else if k = 1 then sendM M xs now else if k = 2 then inM M x xs now else if k = 3 then outM M now else M
theorem do_spec {b r n : Nat} {M : LM} {La Lb : List Chunk} {k x now : Int} {fl : Bool} {s : Value} {xs : List Int} (hB : Both w0 b r n M La Lb) (hn : n < 10000) (hs : RdL w0 [] 1 s xs.length (bv xs)) (hsc : scalar s = true) (hx : xs.length < 2 ^ 30) (hby : 0 ≤ dB xs) (H : Hp w0 w (La ++ (Lb ++ F))) :
    Calls Pg 31 ⟨[ptr b 0, ptr r 0, .agg ⟨[I k, I x, .bool fl, s, I now]⟩]⟩ w (DoQ w0 F b r n (doM M k x now fl xs)) := by
  have h1 := hB.i.un
  have h2 := hB.i.an
  have h3 := hB.i.wf
  have hsd := h3.sd
  have hn4 : 4097 * n ≤ 4097 * 10000 := Nat.mul_le_mul_left _ (by omega)
  have hmn := hB.i.mn
  have hs' : ∀ L : List Chunk, RdL w0 L 1 s xs.length (bv xs) := fun L => hs.mono (by simp)
  apply F31_calls
  unfold F31
  refine bxa_h H fun w1 vb H1 => ?_
  generalize hop : ([I k, I x, .bool fl, s, I now] : List Value) = ol at H1
  have o0 : ol[0]? = some (I k) := by rw [← hop]; rfl
  have o1 : ol[1]? = some (I x) := by rw [← hop]; rfl
  have o2 : ol[2]? = some (.bool fl) := by rw [← hop]; rfl
  have o3 : ol[3]? = some s := by rw [← hop]; rfl
  have o4 : ol[4]? = some (I now) := by rw [← hop]; rfl
  simp only [pv_some, nilO_ptr, faO_mk, gd_yes, gd_no, gd_yes', gd_no', cnd_true, cnd_false, pick_true, pick_false, not_bool, bin_add, bin_sub, bin_mul, bin_eql, bin_neq, bin_lss, bin_leq, bin_gtr, bin_geq, ext0, ext1, ext2, lenS_mk, eqNil_none, eqNil_some, neNil_none, neNil_some, ret_k, mem, Nat.zero_add, Nat.add_zero, Nat.mul_one, drewV, Bool.not_true, Bool.not_false]
  refine ld_h H1 0 rfl o0 ?_
  simp only [pv_some, nilO_ptr, faO_mk, gd_yes, gd_no, gd_yes', gd_no', cnd_true, cnd_false, pick_true, pick_false, not_bool, bin_add, bin_sub, bin_mul, bin_eql, bin_neq, bin_lss, bin_leq, bin_gtr, bin_geq, ext0, ext1, ext2, lenS_mk, eqNil_none, eqNil_some, neNil_none, neNil_some, ret_k, mem, Nat.zero_add, Nat.add_zero, Nat.mul_one, drewV, Bool.not_true, Bool.not_false]
  by_cases k0 : k = 0
  · have e : doM M k x now fl xs = setM M x fl := by unfold doM; rw [if_pos k0]
    rw [e]
    simp only [decide_eq_true k0, pv_some, nilO_ptr, faO_mk, gd_yes, gd_no, gd_yes', gd_no', cnd_true, cnd_false, pick_true, pick_false, not_bool, bin_add, bin_sub, bin_mul, bin_eql, bin_neq, bin_lss, bin_leq, bin_gtr, bin_geq, ext0, ext1, ext2, lenS_mk, eqNil_none, eqNil_some, neNil_none, neNil_some, ret_k, mem, Nat.zero_add, Nat.add_zero, Nat.mul_one, drewV, Bool.not_true, Bool.not_false]
    have H2 := H1.drew
    refine ld_h H2 0 rfl o1 ?_
    refine ld_h H2 0 rfl o2 ?_
    have H2' : Hp w0 w1.drew (La ++ (⟨vb, 65, ol⟩ :: (Lb ++ F))) := H2.to (by intro f; simp only [I, U8, U64, ptr, List.set_cons_zero, List.set_cons_succ, List.eraseIdx_cons_zero, List.eraseIdx_cons_succ, List.map_append, List.map_cons, List.map_nil, List.sum_append, List.sum_cons, List.sum_nil]; omega)
    refine cal_h (Set_spec (x := x) (f := fl) H2' hB.a) ?_
    rintro _ w3 ⟨La', rfl, H3, hA⟩
    simp only [pv_some, nilO_ptr, faO_mk, gd_yes, gd_no, gd_yes', gd_no', cnd_true, cnd_false, pick_true, pick_false, not_bool, bin_add, bin_sub, bin_mul, bin_eql, bin_neq, bin_lss, bin_leq, bin_gtr, bin_geq, ext0, ext1, ext2, lenS_mk, eqNil_none, eqNil_some, neNil_none, neNil_some, ret_k, mem, Nat.zero_add, Nat.add_zero, Nat.mul_one, drewV, Bool.not_true, Bool.not_false]
    have H3' : Hp w0 w3 (⟨vb, 65, ol⟩ :: (La' ++ (Lb ++ F))) := H3.to (by intro f; simp only [I, U8, U64, ptr, List.set_cons_zero, List.set_cons_succ, List.eraseIdx_cons_zero, List.eraseIdx_cons_succ, List.map_append, List.map_cons, List.map_nil, List.sum_append, List.sum_cons, List.sum_nil]; omega)
    refine ldS_h H3' 0 rfl o1 (by intro y hy; simp at hy; subst hy; exact H2.cell 0 rfl o1) ?_
    refine ldS_h H3' 0 rfl o2 (by intro y hy; simp at hy; subst hy; exact H2.cell 0 rfl o2) ?_
    have H3'' : Hp w0 w3 (Lb ++ (⟨vb, 65, ol⟩ :: (La' ++ F))) := H3.to (by intro f; simp only [I, U8, U64, ptr, List.set_cons_zero, List.set_cons_succ, List.eraseIdx_cons_zero, List.eraseIdx_cons_succ, List.map_append, List.map_cons, List.map_nil, List.sum_append, List.sum_cons, List.sum_nil]; omega)
    refine cal_h (rSet_spec (x := x) (f := fl) H3'' hB.b) ?_
    rintro _ w4 ⟨Lb', rfl, H4, hB'⟩
    simp only [decide_true, pv_some, nilO_ptr, faO_mk, gd_yes, gd_no, gd_yes', gd_no', cnd_true, cnd_false, pick_true, pick_false, not_bool, bin_add, bin_sub, bin_mul, bin_eql, bin_neq, bin_lss, bin_leq, bin_gtr, bin_geq, ext0, ext1, ext2, lenS_mk, eqNil_none, eqNil_some, neNil_none, neNil_some, ret_k, mem, Nat.zero_add, Nat.add_zero, Nat.mul_one, drewV, Bool.not_true, Bool.not_false]
    exact ⟨(by first | rfl | trivial), La', Lb', ⟨hA, hB', (inv_set hB.i).mono (by omega), by rw [setM_q]; exact hB.q⟩, H4.to (by intro f; simp only [I, U8, U64, ptr, List.set_cons_zero, List.set_cons_succ, List.eraseIdx_cons_zero, List.eraseIdx_cons_succ, List.map_append, List.map_cons, List.map_nil, List.sum_append, List.sum_cons, List.sum_nil]; omega)⟩
  simp only [decide_eq_false k0, pv_some, nilO_ptr, faO_mk, gd_yes, gd_no, gd_yes', gd_no', cnd_true, cnd_false, pick_true, pick_false, not_bool, bin_add, bin_sub, bin_mul, bin_eql, bin_neq, bin_lss, bin_leq, bin_gtr, bin_geq, ext0, ext1, ext2, lenS_mk, eqNil_none, eqNil_some, neNil_none, neNil_some, ret_k, mem, Nat.zero_add, Nat.add_zero, Nat.mul_one, drewV, Bool.not_true, Bool.not_false]
  by_cases k1 : k = 1
  · have e : doM M k x now fl xs = sendM M xs now := by unfold doM; rw [if_neg k0, if_pos k1]
    rw [e]
    simp only [decide_eq_true k1, pv_some, nilO_ptr, faO_mk, gd_yes, gd_no, gd_yes', gd_no', cnd_true, cnd_false, pick_true, pick_false, not_bool, bin_add, bin_sub, bin_mul, bin_eql, bin_neq, bin_lss, bin_leq, bin_gtr, bin_geq, ext0, ext1, ext2, lenS_mk, eqNil_none, eqNil_some, neNil_none, neNil_some, ret_k, mem, Nat.zero_add, Nat.add_zero, Nat.mul_one, drewV, Bool.not_true, Bool.not_false]
    have H2 := H1.drew
    refine ld_h H2 0 rfl o3 ?_
    refine cal_h (Clone_spec (hs' _) (by omega) H2) ?_
    rintro _ w3 ⟨s', cs, rfl, H3, hs2⟩
    simp only [pv_some, nilO_ptr, faO_mk, gd_yes, gd_no, gd_yes', gd_no', cnd_true, cnd_false, pick_true, pick_false, not_bool, bin_add, bin_sub, bin_mul, bin_eql, bin_neq, bin_lss, bin_leq, bin_gtr, bin_geq, ext0, ext1, ext2, lenS_mk, eqNil_none, eqNil_some, neNil_none, neNil_some, ret_k, mem, Nat.zero_add, Nat.add_zero, Nat.mul_one, drewV, Bool.not_true, Bool.not_false]
    have H3' : Hp w0 w3 (⟨vb, 65, ol⟩ :: (cs ++ (La ++ (Lb ++ F)))) := H3.to (by intro f; simp only [I, U8, U64, ptr, List.set_cons_zero, List.set_cons_succ, List.eraseIdx_cons_zero, List.eraseIdx_cons_succ, List.map_append, List.map_cons, List.map_nil, List.sum_append, List.sum_cons, List.sum_nil]; omega)
    refine ldS_h H3' 0 rfl o4 (by intro y hy; simp at hy; subst hy; exact H2.cell 0 rfl o4) ?_
    have H3'' : Hp w0 w3 (La ++ (⟨vb, 65, ol⟩ :: (cs ++ (Lb ++ F)))) := H3.to (by intro f; simp only [I, U8, U64, ptr, List.set_cons_zero, List.set_cons_succ, List.eraseIdx_cons_zero, List.eraseIdx_cons_succ, List.map_append, List.map_cons, List.map_nil, List.sum_append, List.sum_cons, List.sum_nil]; omega)
    refine cal_h (Send_spec (now := now) H3'' hB.a (hs2.rdL (fun c hc => by simp [hc])) hx h3.size (by omega) (by omega)) ?_
    rintro _ w4 ⟨La', rfl, H4, hA⟩
    simp only [pv_some, nilO_ptr, faO_mk, gd_yes, gd_no, gd_yes', gd_no', cnd_true, cnd_false, pick_true, pick_false, not_bool, bin_add, bin_sub, bin_mul, bin_eql, bin_neq, bin_lss, bin_leq, bin_gtr, bin_geq, ext0, ext1, ext2, lenS_mk, eqNil_none, eqNil_some, neNil_none, neNil_some, ret_k, mem, Nat.zero_add, Nat.add_zero, Nat.mul_one, drewV, Bool.not_true, Bool.not_false]
    have H4' : Hp w0 w4 (⟨vb, 65, ol⟩ :: (cs ++ (La' ++ (Lb ++ F)))) := H4.to (by intro f; simp only [I, U8, U64, ptr, List.set_cons_zero, List.set_cons_succ, List.eraseIdx_cons_zero, List.eraseIdx_cons_succ, List.map_append, List.map_cons, List.map_nil, List.sum_append, List.sum_cons, List.sum_nil]; omega)
    refine ld_h H4' 0 rfl o3 ?_
    refine ld_h H4' 0 rfl o4 ?_
    have H4'' : Hp w0 w4 (Lb ++ (⟨vb, 65, ol⟩ :: (cs ++ (La' ++ F)))) := H4.to (by intro f; simp only [I, U8, U64, ptr, List.set_cons_zero, List.set_cons_succ, List.eraseIdx_cons_zero, List.eraseIdx_cons_succ, List.map_append, List.map_cons, List.map_nil, List.sum_append, List.sum_cons, List.sum_nil]; omega)
    refine cal_h (rSend_spec (now := now) H4'' hB.b (hs' _) hx h3.size (by omega) (by omega)) ?_
    rintro _ w5 ⟨Lb', rfl, H5, hB'⟩
    simp only [decide_true, pv_some, nilO_ptr, faO_mk, gd_yes, gd_no, gd_yes', gd_no', cnd_true, cnd_false, pick_true, pick_false, not_bool, bin_add, bin_sub, bin_mul, bin_eql, bin_neq, bin_lss, bin_leq, bin_gtr, bin_geq, ext0, ext1, ext2, lenS_mk, eqNil_none, eqNil_some, neNil_none, neNil_some, ret_k, mem, Nat.zero_add, Nat.add_zero, Nat.mul_one, drewV, Bool.not_true, Bool.not_false]
    exact ⟨(by first | rfl | trivial), La', Lb', ⟨hA, hB', inv_send hB.i (by omega), by rw [sendM_q]; exact hB.q⟩, H5.to (by intro f; simp only [I, U8, U64, ptr, List.set_cons_zero, List.set_cons_succ, List.eraseIdx_cons_zero, List.eraseIdx_cons_succ, List.map_append, List.map_cons, List.map_nil, List.sum_append, List.sum_cons, List.sum_nil]; omega)⟩
  simp only [decide_eq_false k1, pv_some, nilO_ptr, faO_mk, gd_yes, gd_no, gd_yes', gd_no', cnd_true, cnd_false, pick_true, pick_false, not_bool, bin_add, bin_sub, bin_mul, bin_eql, bin_neq, bin_lss, bin_leq, bin_gtr, bin_geq, ext0, ext1, ext2, lenS_mk, eqNil_none, eqNil_some, neNil_none, neNil_some, ret_k, mem, Nat.zero_add, Nat.add_zero, Nat.mul_one, drewV, Bool.not_true, Bool.not_false]
  by_cases k2 : k = 2
  · have e : doM M k x now fl xs = inM M x xs now := by unfold doM; rw [if_neg k0, if_neg k1, if_pos k2]
    rw [e]
    simp only [decide_eq_true k2, pv_some, nilO_ptr, faO_mk, gd_yes, gd_no, gd_yes', gd_no', cnd_true, cnd_false, pick_true, pick_false, not_bool, bin_add, bin_sub, bin_mul, bin_eql, bin_neq, bin_lss, bin_leq, bin_gtr, bin_geq, ext0, ext1, ext2, lenS_mk, eqNil_none, eqNil_some, neNil_none, neNil_some, ret_k, mem, Nat.zero_add, Nat.add_zero, Nat.mul_one, drewV, Bool.not_true, Bool.not_false]
    have H2 := H1.drew
    refine ld_h H2 0 rfl o1 ?_
    refine ld_h H2 0 rfl o3 ?_
    refine cal_h (Clone_spec (hs' _) (by omega) H2) ?_
    rintro _ w3 ⟨s', cs, rfl, H3, hs2⟩
    simp only [pv_some, nilO_ptr, faO_mk, gd_yes, gd_no, gd_yes', gd_no', cnd_true, cnd_false, pick_true, pick_false, not_bool, bin_add, bin_sub, bin_mul, bin_eql, bin_neq, bin_lss, bin_leq, bin_gtr, bin_geq, ext0, ext1, ext2, lenS_mk, eqNil_none, eqNil_some, neNil_none, neNil_some, ret_k, mem, Nat.zero_add, Nat.add_zero, Nat.mul_one, drewV, Bool.not_true, Bool.not_false]
    have H3' : Hp w0 w3 (⟨vb, 65, ol⟩ :: (cs ++ (La ++ (Lb ++ F)))) := H3.to (by intro f; simp only [I, U8, U64, ptr, List.set_cons_zero, List.set_cons_succ, List.eraseIdx_cons_zero, List.eraseIdx_cons_succ, List.map_append, List.map_cons, List.map_nil, List.sum_append, List.sum_cons, List.sum_nil]; omega)
    rw [rd1_t (H3'.cell 0 rfl o1)]
    refine ldS_h H3' 0 rfl o4 (by intro y hy; simp at hy; subst hy; exact H2.cell 0 rfl o4) ?_
    have H3'' : Hp w0 w3 (La ++ (⟨vb, 65, ol⟩ :: (cs ++ (Lb ++ F)))) := H3.to (by intro f; simp only [I, U8, U64, ptr, List.set_cons_zero, List.set_cons_succ, List.eraseIdx_cons_zero, List.eraseIdx_cons_succ, List.map_append, List.map_cons, List.map_nil, List.sum_append, List.sum_cons, List.sum_nil]; omega)
    refine cal_h (Input_spec (x := x) (now := now) H3'' hB.a (hs2.rdL (fun c hc => by simp [hc])) (by omega) (by omega) (by omega) hB.i.pl (by omega) hB.i.fr) ?_
    rintro _ w4 ⟨t1, co, Db, sv, La', rfl, H4, hm, hA⟩
    simp only [pv_some, nilO_ptr, faO_mk, gd_yes, gd_no, gd_yes', gd_no', cnd_true, cnd_false, pick_true, pick_false, not_bool, bin_add, bin_sub, bin_mul, bin_eql, bin_neq, bin_lss, bin_leq, bin_gtr, bin_geq, ext0, ext1, ext2, lenS_mk, eqNil_none, eqNil_some, neNil_none, neNil_some, ret_k, mem, Nat.zero_add, Nat.add_zero, Nat.mul_one, drewV, Bool.not_true, Bool.not_false]
    have H4' : Hp w0 w4 (⟨vb, 65, ol⟩ :: (co ++ (Db ++ (cs ++ (La' ++ (Lb ++ F)))))) := H4.to (by intro f; simp only [I, U8, U64, ptr, List.set_cons_zero, List.set_cons_succ, List.eraseIdx_cons_zero, List.eraseIdx_cons_succ, List.map_append, List.map_cons, List.map_nil, List.sum_append, List.sum_cons, List.sum_nil]; omega)
    refine ld_h H4' 0 rfl o1 ?_
    refine ld_h H4' 0 rfl o3 ?_
    refine ld_h H4' 0 rfl o4 ?_
    have H4'' : Hp w0 w4 (Lb ++ (⟨vb, 65, ol⟩ :: (co ++ (Db ++ (cs ++ (La' ++ F)))))) := H4.to (by intro f; simp only [I, U8, U64, ptr, List.set_cons_zero, List.set_cons_succ, List.eraseIdx_cons_zero, List.eraseIdx_cons_succ, List.map_append, List.map_cons, List.map_nil, List.sum_append, List.sum_cons, List.sum_nil]; omega)
    refine cal_h (rInput_spec (x := x) (now := now) H4'' hB.b (hs' _) (by omega) hby (by omega) (by omega) hB.i.pl (by omega) hB.i.fr hB.i.ch hB.i.pre hB.i.rg) ?_
    rintro _ w5 ⟨t2, co2, Db2, sv2, Lb', rfl, H5, hm2, hB'⟩
    simp only [decide_true, pv_some, nilO_ptr, faO_mk, gd_yes, gd_no, gd_yes', gd_no', cnd_true, cnd_false, pick_true, pick_false, not_bool, bin_add, bin_sub, bin_mul, bin_eql, bin_neq, bin_lss, bin_leq, bin_gtr, bin_geq, ext0, ext1, ext2, lenS_mk, eqNil_none, eqNil_some, neNil_none, neNil_some, ret_k, mem, Nat.zero_add, Nat.add_zero, Nat.mul_one, drewV, Bool.not_true, Bool.not_false]
    refine cal_h (eqm_spec' enter53 eqF53 hm hm2 (fun c hc => by simp [hc]) (fun c hc => by simp [hc]) (fun c hc => by simp [hc]) (fun c hc => by simp [hc]) (by have := inV_len1 (M := M) (x := x) (now := now) (xs := xs); omega) (fun v hv => by have := inV_by hB.i.pl v hv; omega) H5) ?_
    rintro _ w6 ⟨rfl, H6⟩
    simp only [pv_some, nilO_ptr, faO_mk, gd_yes, gd_no, gd_yes', gd_no', cnd_true, cnd_false, pick_true, pick_false, not_bool, bin_add, bin_sub, bin_mul, bin_eql, bin_neq, bin_lss, bin_leq, bin_gtr, bin_geq, ext0, ext1, ext2, lenS_mk, eqNil_none, eqNil_some, neNil_none, neNil_some, ret_k, mem, Nat.zero_add, Nat.add_zero, Nat.mul_one, drewV, Bool.not_true, Bool.not_false]
    exact ⟨(by first | rfl | trivial), La', Lb', ⟨hA, hB', inv_in hB.i (by omega), by rw [inM_q]; exact hB.q⟩, H6.to (by intro f; simp only [I, U8, U64, ptr, List.set_cons_zero, List.set_cons_succ, List.eraseIdx_cons_zero, List.eraseIdx_cons_succ, List.map_append, List.map_cons, List.map_nil, List.sum_append, List.sum_cons, List.sum_nil]; omega)⟩
  simp only [decide_eq_false k2, pv_some, nilO_ptr, faO_mk, gd_yes, gd_no, gd_yes', gd_no', cnd_true, cnd_false, pick_true, pick_false, not_bool, bin_add, bin_sub, bin_mul, bin_eql, bin_neq, bin_lss, bin_leq, bin_gtr, bin_geq, ext0, ext1, ext2, lenS_mk, eqNil_none, eqNil_some, neNil_none, neNil_some, ret_k, mem, Nat.zero_add, Nat.add_zero, Nat.mul_one, drewV, Bool.not_true, Bool.not_false]
  by_cases k3 : k = 3
  · have e : doM M k x now fl xs = outM M now := by unfold doM; rw [if_neg k0, if_neg k1, if_neg k2, if_pos k3]
    rw [e]
    simp only [decide_eq_true k3, pv_some, nilO_ptr, faO_mk, gd_yes, gd_no, gd_yes', gd_no', cnd_true, cnd_false, pick_true, pick_false, not_bool, bin_add, bin_sub, bin_mul, bin_eql, bin_neq, bin_lss, bin_leq, bin_gtr, bin_geq, ext0, ext1, ext2, lenS_mk, eqNil_none, eqNil_some, neNil_none, neNil_some, ret_k, mem, Nat.zero_add, Nat.add_zero, Nat.mul_one, drewV, Bool.not_true, Bool.not_false]
    refine ld_h H1 0 rfl o4 ?_
    have H1' : Hp w0 w1 (La ++ (⟨vb, 65, ol⟩ :: (Lb ++ F))) := H1.to (by intro f; simp only [I, U8, U64, ptr, List.set_cons_zero, List.set_cons_succ, List.eraseIdx_cons_zero, List.eraseIdx_cons_succ, List.map_append, List.map_cons, List.map_nil, List.sum_append, List.sum_cons, List.sum_nil]; omega)
    refine cal_h (Output_spec (now := now) H1' hB.a h3) ?_
    rintro _ w4 ⟨t1, co, Db, sv, La', rfl, H4, hm, hA⟩
    simp only [pv_some, nilO_ptr, faO_mk, gd_yes, gd_no, gd_yes', gd_no', cnd_true, cnd_false, pick_true, pick_false, not_bool, bin_add, bin_sub, bin_mul, bin_eql, bin_neq, bin_lss, bin_leq, bin_gtr, bin_geq, ext0, ext1, ext2, lenS_mk, eqNil_none, eqNil_some, neNil_none, neNil_some, ret_k, mem, Nat.zero_add, Nat.add_zero, Nat.mul_one, drewV, Bool.not_true, Bool.not_false]
    have H4' : Hp w0 w4 (⟨vb, 65, ol⟩ :: (co ++ (Db ++ (La' ++ (Lb ++ F))))) := H4.to (by intro f; simp only [I, U8, U64, ptr, List.set_cons_zero, List.set_cons_succ, List.eraseIdx_cons_zero, List.eraseIdx_cons_succ, List.map_append, List.map_cons, List.map_nil, List.sum_append, List.sum_cons, List.sum_nil]; omega)
    refine ld_h H4' 0 rfl o4 ?_
    have H4'' : Hp w0 w4 (Lb ++ (⟨vb, 65, ol⟩ :: (co ++ (Db ++ (La' ++ F))))) := H4.to (by intro f; simp only [I, U8, U64, ptr, List.set_cons_zero, List.set_cons_succ, List.eraseIdx_cons_zero, List.eraseIdx_cons_succ, List.map_append, List.map_cons, List.map_nil, List.sum_append, List.sum_cons, List.sum_nil]; omega)
    refine cal_h (rOutput_spec (now := now) H4'' hB.b h3 hB.q) ?_
    rintro _ w5 ⟨t2, co2, Db2, sv2, Lb', rfl, H5, hm2, hB'⟩
    simp only [decide_true, pv_some, nilO_ptr, faO_mk, gd_yes, gd_no, gd_yes', gd_no', cnd_true, cnd_false, pick_true, pick_false, not_bool, bin_add, bin_sub, bin_mul, bin_eql, bin_neq, bin_lss, bin_leq, bin_gtr, bin_geq, ext0, ext1, ext2, lenS_mk, eqNil_none, eqNil_some, neNil_none, neNil_some, ret_k, mem, Nat.zero_add, Nat.add_zero, Nat.mul_one, drewV, Bool.not_true, Bool.not_false]
    refine cal_h (eqo_spec hm hm2 (fun c hc => by simp [hc]) (fun c hc => by simp [hc]) (fun c hc => by simp [hc]) (fun c hc => by simp [hc]) (outV_len (by omega) h3.up8) (fun v hv => by have := outV_bytesP v hv; omega) H5) ?_
    rintro _ w6 ⟨rfl, H6⟩
    simp only [pv_some, nilO_ptr, faO_mk, gd_yes, gd_no, gd_yes', gd_no', cnd_true, cnd_false, pick_true, pick_false, not_bool, bin_add, bin_sub, bin_mul, bin_eql, bin_neq, bin_lss, bin_leq, bin_gtr, bin_geq, ext0, ext1, ext2, lenS_mk, eqNil_none, eqNil_some, neNil_none, neNil_some, ret_k, mem, Nat.zero_add, Nat.add_zero, Nat.mul_one, drewV, Bool.not_true, Bool.not_false]
    exact ⟨(by first | rfl | trivial), La', Lb', ⟨hA, hB', inv_out hB.i (by omega), by rw [outM_q]; exact hB.q⟩, H6.to (by intro f; simp only [I, U8, U64, ptr, List.set_cons_zero, List.set_cons_succ, List.eraseIdx_cons_zero, List.eraseIdx_cons_succ, List.map_append, List.map_cons, List.map_nil, List.sum_append, List.sum_cons, List.sum_nil]; omega)⟩
  simp only [decide_eq_false k3, pv_some, nilO_ptr, faO_mk, gd_yes, gd_no, gd_yes', gd_no', cnd_true, cnd_false, pick_true, pick_false, not_bool, bin_add, bin_sub, bin_mul, bin_eql, bin_neq, bin_lss, bin_leq, bin_gtr, bin_geq, ext0, ext1, ext2, lenS_mk, eqNil_none, eqNil_some, neNil_none, neNil_some, ret_k, mem, Nat.zero_add, Nat.add_zero, Nat.mul_one, drewV, Bool.not_true, Bool.not_false]
  have e : doM M k x now fl xs = M := by unfold doM; rw [if_neg k0, if_neg k1, if_neg k2, if_neg k3]
  rw [e]
  exact ⟨(by first | rfl | trivial), La, Lb, ⟨hB.a, hB.b, hB.i.mono (by omega), hB.q⟩, H1.to (by intro f; simp only [I, U8, U64, ptr, List.set_cons_zero, List.set_cons_succ, List.eraseIdx_cons_zero, List.eraseIdx_cons_succ, List.map_append, List.map_cons, List.map_nil, List.sum_append, List.sum_cons, List.sum_nil]; omega)⟩
end
end Go.Proofs.Ytmnpndgmfmjfhaa.Den
end

section
set_option linter.unusedVariables false
set_option linter.unusedSimpArgs false
set_option maxRecDepth 8000
namespace Go.Proofs.Ytmnpndgmfmjfhaa.Den
open Go Go.RowKit
theorem flat_getP {α : Type} {sz : Nat} : ∀ {L : List (List α)}, (∀ l ∈ L, l.length = sz) → ∀ {i j : Nat} {l : List α}, L[i]? = some l → j < sz → L.flatten[i * sz + j]? = l[j]?
  | [], _, i, j, l, h, _ => by simp at h
  | a :: L, hL, 0, j, l, h, hj => by
    simp only [List.getElem?_cons_zero, Option.some.injEq] at h; subst h
    rw [List.flatten_cons, Nat.zero_mul, Nat.zero_add, List.getElem?_append_left (by rw [hL a (by simp)]; exact hj)]
  | a :: L, hL, i + 1, j, l, h, hj => by
    simp only [List.getElem?_cons_succ] at h
    have ha := hL a (by simp)
    rw [List.flatten_cons, List.getElem?_append_right (by rw [ha, Nat.add_mul]; omega), ha]
    have : (i + 1) * sz + j - sz = i * sz + j := by rw [Nat.add_mul]; omega
    rw [this]
    exact flat_getP (fun l hl => hL l (by simp [hl])) h hj
/-- A call as Lean data. -/
structure OpA where
  k : Int
  x : Int
  fl : Bool
  s : Value
  now : Int
  xs : List Int
def OpA.cells (o : OpA) : List Value := [I o.k, I o.x, .bool o.fl, o.s, I o.now]
def opCells (l : List OpA) : List Value := (l.map OpA.cells).flatten
def sumL (l : List OpA) : Nat := (l.map fun o => o.xs.length).sum
structure OpOk (w0 : Base) (o : OpA) : Prop where
  rd : RdL w0 [] 1 o.s o.xs.length (bv o.xs)
  sc : scalar o.s = true
  by_ : 0 ≤ dB o.xs
  len : o.xs.length ≤ 2 ^ 47
section
variable {w w' : World} {w0 : Base} {F L : List Chunk} {R : ER}
/-- Element i of a slice of elements that came in. -/
theorem ixL_rd {sz m i : Nat} {v : Value} {ls : List (List Value)} {l : List Value} {K : VK} (h : RdL w0 [] sz v m ls.flatten) (hls : ∀ l ∈ ls, l.length = sz) (hm : m = ls.length) (hz : 0 < sz) (hl : ls[i]? = some l) (H : Hp w0 w L) (k : K (.agg ⟨l⟩) w) :
    pv (ixS sz v (.int .i64 (i : Int))) (fun p => ldN sz p K) w := by
  have hr := (h.mono (L' := L) (by simp)).rd H
  obtain ⟨a, e, h2⟩ := hr.at (j := i) (by rw [hm]; exact (List.getElem?_eq_some_iff.1 hl).1) hz (k := .i64)
  rw [e, pv_some]
  have hll := hls l (List.mem_of_getElem? hl)
  have : cellsAt w a 0 sz = some l := (cellsAt_spec _ _ _).2 ⟨hll, fun j hj => by rw [Nat.zero_add, h2 j hj]; exact flat_getP hls hl hj⟩
  simp only [ldN, this]; exact k
theorem sumL_take {l : List OpA} {i : Nat} {o : OpA} (h : l[i]? = some o) : sumL (l.take (i + 1)) = sumL (l.take i) + o.xs.length := by
  unfold sumL
  rw [List.take_add_one, h]; simp
theorem sumL_mem : ∀ {l : List OpA} {o : OpA}, o ∈ l → o.xs.length ≤ sumL l
  | a :: l, o, h => by
    rcases List.mem_cons.1 h with rfl | h
    · simp [sumL]
    · have := sumL_mem h
      simp only [sumL, List.map_cons, List.sum_cons] at *; omega
theorem sumL_le {l : List OpA} (h : ∀ o ∈ l, o.xs.length ≤ 2 ^ 47) : sumL l ≤ l.length * 2 ^ 47 := by
  induction l with
  | nil => simp [sumL]
  | cons a l ih =>
    have h1 := ih fun o ho => h o (by simp [ho])
    have h2 := h a (by simp)
    simp only [sumL, List.map_cons, List.sum_cons, List.length_cons] at *; omega
theorem op_lens (l : List OpA) : ∀ c ∈ l.map OpA.cells, c.length = 5 := by
  intro c hc; obtain ⟨o, _, rfl⟩ := List.mem_map.1 hc; rfl
theorem long_spec {v : Value} {ops : List OpA} (hr : RdL w0 [] 5 v ops.length (opCells ops)) (hok : ∀ o ∈ ops, OpOk w0 o) (hl : ops.length < 2 ^ 60) (H : Hp w0 w F) :
    Calls Pg 28 ⟨[v]⟩ w fun e w' => ∃ b, e = .returned (.bool b) ∧ (b = false → ops.length ≤ 40 ∧ sumL ops ≤ 12000) ∧ Hp w0 w' F := by
  apply F28_calls
  unfold F28 F28_j2
  simp only [lenS_rdL hr, pv_some, nilO_ptr, faO_mk, gd_yes, gd_no, gd_yes', gd_no', cnd_true, cnd_false, pick_true, pick_false, not_bool, bin_add, bin_sub, bin_mul, bin_eql, bin_neq, bin_lss, bin_leq, bin_gtr, bin_geq, ext0, ext1, ext2, lenS_mk, eqNil_none, eqNil_some, neNil_none, neNil_some, ret_k, mem, Nat.zero_add, Nat.add_zero, Nat.mul_one, drewV, Bool.not_true, Bool.not_false]
  unfold F28_j3
  refine ⟨ops.length + 1, ?_⟩
  have key : ∀ (d i : Nat) (w : World) (x : Int) (G : List Chunk), i + d = ops.length → (ops.length ≤ 40 → x = sumL (ops.take i)) → Hp w0 w (G ++ F) → F28_l1 (fun e w' => ∃ b, e = .returned (.bool b) ∧ (b = false → ops.length ≤ 40 ∧ sumL ops ≤ 12000) ∧ Hp w0 w' F) (d + 1) v (I x) v (I (ops.length : Int)) (I (i : Int)) w := by
    intro d
    induction d with
    | zero =>
      intro i w x G hi hx H
      rw [F28_l1_succ]
      unfold F28_b1
      simp only [pv_some, nilO_ptr, faO_mk, gd_yes, gd_no, gd_yes', gd_no', cnd_true, cnd_false, pick_true, pick_false, not_bool, bin_add, bin_sub, bin_mul, bin_eql, bin_neq, bin_lss, bin_leq, bin_gtr, bin_geq, ext0, ext1, ext2, lenS_mk, eqNil_none, eqNil_some, neNil_none, neNil_some, ret_k, mem, Nat.zero_add, Nat.add_zero, Nat.mul_one, drewV, Bool.not_true, Bool.not_false, show decide ((i : Int) < (ops.length : Int)) = false from decide_eq_false (by omega)]
      unfold F28_j1
      simp only [lenS_rdL hr, pv_some, nilO_ptr, faO_mk, gd_yes, gd_no, gd_yes', gd_no', cnd_true, cnd_false, pick_true, pick_false, not_bool, bin_add, bin_sub, bin_mul, bin_eql, bin_neq, bin_lss, bin_leq, bin_gtr, bin_geq, ext0, ext1, ext2, lenS_mk, eqNil_none, eqNil_some, neNil_none, neNil_some, ret_k, mem, Nat.zero_add, Nat.add_zero, Nat.mul_one, drewV, Bool.not_true, Bool.not_false]
      have H' : Hp w0 w F := H.to (by intro f; simp only [List.map_append, List.sum_append]; omega)
      rw [List.take_of_length_le (by omega)] at hx
      by_cases h1 : (40 : Int) < (ops.length : Int)
      · simp only [decide_eq_true h1, pv_some, nilO_ptr, faO_mk, gd_yes, gd_no, gd_yes', gd_no', cnd_true, cnd_false, pick_true, pick_false, not_bool, bin_add, bin_sub, bin_mul, bin_eql, bin_neq, bin_lss, bin_leq, bin_gtr, bin_geq, ext0, ext1, ext2, lenS_mk, eqNil_none, eqNil_some, neNil_none, neNil_some, ret_k, mem, Nat.zero_add, Nat.add_zero, Nat.mul_one, drewV, Bool.not_true, Bool.not_false]
        exact ⟨true, rfl, by simp, H'⟩
      · simp only [decide_eq_false h1, pv_some, nilO_ptr, faO_mk, gd_yes, gd_no, gd_yes', gd_no', cnd_true, cnd_false, pick_true, pick_false, not_bool, bin_add, bin_sub, bin_mul, bin_eql, bin_neq, bin_lss, bin_leq, bin_gtr, bin_geq, ext0, ext1, ext2, lenS_mk, eqNil_none, eqNil_some, neNil_none, neNil_some, ret_k, mem, Nat.zero_add, Nat.add_zero, Nat.mul_one, drewV, Bool.not_true, Bool.not_false]
        refine ⟨_, rfl, fun hb => ?_, H'⟩
        have := of_decide_eq_false hb
        have hx := hx (by omega)
        omega
    | succ d ih =>
      intro i w x G hi hx H
      rw [F28_l1_succ]
      unfold F28_b1
      simp only [pv_some, nilO_ptr, faO_mk, gd_yes, gd_no, gd_yes', gd_no', cnd_true, cnd_false, pick_true, pick_false, not_bool, bin_add, bin_sub, bin_mul, bin_eql, bin_neq, bin_lss, bin_leq, bin_gtr, bin_geq, ext0, ext1, ext2, lenS_mk, eqNil_none, eqNil_some, neNil_none, neNil_some, ret_k, mem, Nat.zero_add, Nat.add_zero, Nat.mul_one, drewV, Bool.not_true, Bool.not_false, show decide ((i : Int) < (ops.length : Int)) = true from decide_eq_true (by omega)]
      unfold F28_j4
      have hlt : i < ops.length := by omega
      obtain ⟨o, ho⟩ : ∃ o, ops[i]? = some o := ⟨_, List.getElem?_eq_getElem hlt⟩
      have hoo := hok o (List.mem_of_getElem? ho)
      refine ixL_rd (ls := ops.map OpA.cells) hr (op_lens ops) (by simp) (by omega) (by rw [List.getElem?_map, ho]; rfl) H ?_
      refine al_h H (z := [I 0, I 0, .bool false, .slice none 0 0, I 0]) (by kernel_rfl) fun w1 b H1 => ?_
      have hsc := hoo.sc
      refine stA_h H1 0 rfl rfl rfl (by intro c hc; simp [OpA.cells] at hc; rcases hc with rfl | rfl | rfl | rfl | rfl <;> first | rfl | exact hsc) fun w2 H2 => ?_
      simp only [pv_some, nilO_ptr, faO_mk, gd_yes, gd_no, gd_yes', gd_no', cnd_true, cnd_false, pick_true, pick_false, not_bool, bin_add, bin_sub, bin_mul, bin_eql, bin_neq, bin_lss, bin_leq, bin_gtr, bin_geq, ext0, ext1, ext2, lenS_mk, eqNil_none, eqNil_some, neNil_none, neNil_some, ret_k, mem, Nat.zero_add, Nat.add_zero, Nat.mul_one, drewV, Bool.not_true, Bool.not_false]
      refine ld_h H2 0 rfl (v := o.s) rfl ?_
      rw [lenS_rdL hoo.rd]
      simp only [pv_some, nilO_ptr, faO_mk, gd_yes, gd_no, gd_yes', gd_no', cnd_true, cnd_false, pick_true, pick_false, not_bool, bin_add, bin_sub, bin_mul, bin_eql, bin_neq, bin_lss, bin_leq, bin_gtr, bin_geq, ext0, ext1, ext2, lenS_mk, eqNil_none, eqNil_some, neNil_none, neNil_some, ret_k, mem, Nat.zero_add, Nat.add_zero, Nat.mul_one, drewV, Bool.not_true, Bool.not_false]
      rw [wrap64_id (a := (i : Int) + 1) (by omega) (by omega), show (i : Int) + 1 = ((i + 1 : Nat) : Int) from by omega]
      refine ih (i + 1) w2 _ (⟨b, 65, o.cells⟩ :: G) (by omega) (fun h => ?_) H2
      rw [hx h, sumL_take ho]
      have h1 := sumL_le (l := ops.take i) fun o ho => (hok o (List.mem_of_mem_take ho)).len
      have h2 := hoo.len
      rw [List.length_take] at h1
      have h3 : min i ops.length * 2 ^ 47 ≤ 40 * 2 ^ 47 := Nat.mul_le_mul_right _ (by omega)
      rw [wrap64_id (by omega) (by omega)]
      omega
  exact key ops.length 0 w 0 [] (by omega) (fun _ => rfl) H
theorem new_inv {a b c d : Int} (h : newE a b c d = 0) : LInv 0 (newM a.toNat b c d) ∧ (c = 0 ∨ c = 1 ∨ c = 2) := by
  unfold newE at h
  split at h
  · cases h
  · rename_i h1
    split at h
    · cases h
    · rename_i h2
      exact ⟨inv_new (by omega) (by omega) (by omega) (by omega), by omega⟩
theorem LinksCalls_walk {a b c d : Int} {v : Value} {ops : List OpA} (hr : RdL w0 [] 5 v ops.length (opCells ops)) (hok : ∀ o ∈ ops, OpOk w0 o) (hl : ops.length < 2 ^ 60) (H : Hp w0 w F) :
    Calls Pg 8 ⟨[.agg ⟨[I a, I b, I c, I d]⟩, v]⟩ w fun e w' => e = .returned (.bool true) ∧ Hp w0 w' F := by
  apply F8_calls
  unfold F8
  refine bxa_h H fun w1 vb H1 => ?_
  refine cal_h (long_spec hr hok hl H1) ?_
  rintro _ w2 ⟨lb, rfl, hlb, H2⟩
  simp only [pv_some, nilO_ptr, faO_mk, gd_yes, gd_no, gd_yes', gd_no', cnd_true, cnd_false, pick_true, pick_false, not_bool, bin_add, bin_sub, bin_mul, bin_eql, bin_neq, bin_lss, bin_leq, bin_gtr, bin_geq, ext0, ext1, ext2, lenS_mk, eqNil_none, eqNil_some, neNil_none, neNil_some, ret_k, mem, Nat.zero_add, Nat.add_zero, Nat.mul_one, drewV, Bool.not_true, Bool.not_false]
  cases lb with
  | true =>
    simp only [pv_some, nilO_ptr, faO_mk, gd_yes, gd_no, gd_yes', gd_no', cnd_true, cnd_false, pick_true, pick_false, not_bool, bin_add, bin_sub, bin_mul, bin_eql, bin_neq, bin_lss, bin_leq, bin_gtr, bin_geq, ext0, ext1, ext2, lenS_mk, eqNil_none, eqNil_some, neNil_none, neNil_some, ret_k, mem, Nat.zero_add, Nat.add_zero, Nat.mul_one, drewV, Bool.not_true, Bool.not_false]
    refine cal_h (awake_spec H2) ?_
    rintro _ w3 ⟨rfl, H3⟩
    exact ⟨rfl, H3.tail⟩
  | false =>
    obtain ⟨hl40, hsum⟩ := hlb rfl
    simp only [pv_some, nilO_ptr, faO_mk, gd_yes, gd_no, gd_yes', gd_no', cnd_true, cnd_false, pick_true, pick_false, not_bool, bin_add, bin_sub, bin_mul, bin_eql, bin_neq, bin_lss, bin_leq, bin_gtr, bin_geq, ext0, ext1, ext2, lenS_mk, eqNil_none, eqNil_some, neNil_none, neNil_some, ret_k, mem, Nat.zero_add, Nat.add_zero, Nat.mul_one, drewV, Bool.not_true, Bool.not_false]
    unfold F8_j1
    simp only [pv_some, nilO_ptr, faO_mk, gd_yes, gd_no, gd_yes', gd_no', cnd_true, cnd_false, pick_true, pick_false, not_bool, bin_add, bin_sub, bin_mul, bin_eql, bin_neq, bin_lss, bin_leq, bin_gtr, bin_geq, ext0, ext1, ext2, lenS_mk, eqNil_none, eqNil_some, neNil_none, neNil_some, ret_k, mem, Nat.zero_add, Nat.add_zero, Nat.mul_one, drewV, Bool.not_true, Bool.not_false]
    refine ld_h H2 0 rfl rfl ?_
    refine ld_h H2 0 rfl rfl ?_
    refine ld_h H2 0 rfl rfl ?_
    refine ld_h H2 0 rfl rfl ?_
    refine cal_h (New_spec H2) ?_
    rintro _ w3 ⟨n1, n2⟩
    by_cases hE : newE a b c d = 0
    rotate_left
    · obtain ⟨rfl, H3⟩ := n1 hE
      simp only [pv_some, nilO_ptr, faO_mk, gd_yes, gd_no, gd_yes', gd_no', cnd_true, cnd_false, pick_true, pick_false, not_bool, bin_add, bin_sub, bin_mul, bin_eql, bin_neq, bin_lss, bin_leq, bin_gtr, bin_geq, ext0, ext1, ext2, lenS_mk, eqNil_none, eqNil_some, neNil_none, neNil_some, ret_k, mem, Nat.zero_add, Nat.add_zero, Nat.mul_one, drewV, Bool.not_true, Bool.not_false]
      refine ld_h H3 0 rfl rfl ?_
      refine ld_h H3 0 rfl rfl ?_
      refine ld_h H3 0 rfl rfl ?_
      refine ld_h H3 0 rfl rfl ?_
      refine cal_h (rNew_spec H3) ?_
      rintro _ w4 ⟨n3, n4⟩
      obtain ⟨rfl, H4⟩ := n3 hE
      simp only [decide_eq_false (not_not_intro (rfl : newE a b c d = newE a b c d)), decide_eq_true hE, pv_some, nilO_ptr, faO_mk, gd_yes, gd_no, gd_yes', gd_no', cnd_true, cnd_false, pick_true, pick_false, not_bool, bin_add, bin_sub, bin_mul, bin_eql, bin_neq, bin_lss, bin_leq, bin_gtr, bin_geq, ext0, ext1, ext2, lenS_mk, eqNil_none, eqNil_some, neNil_none, neNil_some, ret_k, mem, Nat.zero_add, Nat.add_zero, Nat.mul_one, drewV, Bool.not_true, Bool.not_false]
      simp only [show binB .neq (.bool true) (.bool true) = some (.bool false) from rfl, pv_some, nilO_ptr, faO_mk, gd_yes, gd_no, gd_yes', gd_no', cnd_true, cnd_false, pick_true, pick_false, not_bool, bin_add, bin_sub, bin_mul, bin_eql, bin_neq, bin_lss, bin_leq, bin_gtr, bin_geq, ext0, ext1, ext2, lenS_mk, eqNil_none, eqNil_some, neNil_none, neNil_some, ret_k, mem, Nat.zero_add, Nat.add_zero, Nat.mul_one, drewV, Bool.not_true, Bool.not_false]
      unfold F8_j2
      simp only [decide_eq_true hE, pv_some, nilO_ptr, faO_mk, gd_yes, gd_no, gd_yes', gd_no', cnd_true, cnd_false, pick_true, pick_false, not_bool, bin_add, bin_sub, bin_mul, bin_eql, bin_neq, bin_lss, bin_leq, bin_gtr, bin_geq, ext0, ext1, ext2, lenS_mk, eqNil_none, eqNil_some, neNil_none, neNil_some, ret_k, mem, Nat.zero_add, Nat.add_zero, Nat.mul_one, drewV, Bool.not_true, Bool.not_false]
      refine cal_h (awake_spec H4) ?_
      rintro _ w3 ⟨rfl, H3⟩
      exact ⟨rfl, H3.tail⟩
    obtain ⟨xb, La, rfl, H3, hA⟩ := n2 hE
    simp only [pv_some, nilO_ptr, faO_mk, gd_yes, gd_no, gd_yes', gd_no', cnd_true, cnd_false, pick_true, pick_false, not_bool, bin_add, bin_sub, bin_mul, bin_eql, bin_neq, bin_lss, bin_leq, bin_gtr, bin_geq, ext0, ext1, ext2, lenS_mk, eqNil_none, eqNil_some, neNil_none, neNil_some, ret_k, mem, Nat.zero_add, Nat.add_zero, Nat.mul_one, drewV, Bool.not_true, Bool.not_false]
    have H3' : Hp w0 w3 (⟨vb, 23, [I a, I b, I c, I d]⟩ :: (La ++ F)) := H3.to (by intro f; simp only [I, U8, U64, ptr, List.set_cons_zero, List.set_cons_succ, List.eraseIdx_cons_zero, List.eraseIdx_cons_succ, List.map_append, List.map_cons, List.map_nil, List.sum_append, List.sum_cons, List.sum_nil]; omega)
    refine ld_h H3' 0 rfl rfl ?_
    refine ld_h H3' 0 rfl rfl ?_
    refine ld_h H3' 0 rfl rfl ?_
    refine ld_h H3' 0 rfl rfl ?_
    refine cal_h (rNew_spec H3') ?_
    rintro _ w4 ⟨n3, n4⟩
    obtain ⟨yb, Lb, rfl, H4, hB⟩ := n4 hE
    obtain ⟨hi0, hq0⟩ := new_inv hE
    simp only [show decide ((0 : Int) ≠ 0) = false from rfl, pv_some, nilO_ptr, faO_mk, gd_yes, gd_no, gd_yes', gd_no', cnd_true, cnd_false, pick_true, pick_false, not_bool, bin_add, bin_sub, bin_mul, bin_eql, bin_neq, bin_lss, bin_leq, bin_gtr, bin_geq, ext0, ext1, ext2, lenS_mk, eqNil_none, eqNil_some, neNil_none, neNil_some, ret_k, mem, Nat.zero_add, Nat.add_zero, Nat.mul_one, drewV, Bool.not_true, Bool.not_false]
    simp only [show binB .neq (.bool false) (.bool false) = some (.bool false) from rfl, pv_some, nilO_ptr, faO_mk, gd_yes, gd_no, gd_yes', gd_no', cnd_true, cnd_false, pick_true, pick_false, not_bool, bin_add, bin_sub, bin_mul, bin_eql, bin_neq, bin_lss, bin_leq, bin_gtr, bin_geq, ext0, ext1, ext2, lenS_mk, eqNil_none, eqNil_some, neNil_none, neNil_some, ret_k, mem, Nat.zero_add, Nat.add_zero, Nat.mul_one, drewV, Bool.not_true, Bool.not_false]
    unfold F8_j2
    simp only [show decide ((0 : Int) ≠ 0) = false from rfl, pv_some, nilO_ptr, faO_mk, gd_yes, gd_no, gd_yes', gd_no', cnd_true, cnd_false, pick_true, pick_false, not_bool, bin_add, bin_sub, bin_mul, bin_eql, bin_neq, bin_lss, bin_leq, bin_gtr, bin_geq, ext0, ext1, ext2, lenS_mk, eqNil_none, eqNil_some, neNil_none, neNil_some, ret_k, mem, Nat.zero_add, Nat.add_zero, Nat.mul_one, drewV, Bool.not_true, Bool.not_false]
    unfold F8_j3 F8_j5
    simp only [lenS_rdL hr, pv_some, nilO_ptr, faO_mk, gd_yes, gd_no, gd_yes', gd_no', cnd_true, cnd_false, pick_true, pick_false, not_bool, bin_add, bin_sub, bin_mul, bin_eql, bin_neq, bin_lss, bin_leq, bin_gtr, bin_geq, ext0, ext1, ext2, lenS_mk, eqNil_none, eqNil_some, neNil_none, neNil_some, ret_k, mem, Nat.zero_add, Nat.add_zero, Nat.mul_one, drewV, Bool.not_true, Bool.not_false]
    unfold F8_j6
    refine ⟨ops.length + 1, ?_⟩
    have key : ∀ (d' i : Nat) (w : World) (M : LM) (La Lb G : List Chunk), i + d' = ops.length → Both w0 xb yb i M La Lb → Hp w0 w (La ++ (Lb ++ (G ++ F))) → F8_l1 (fun e w' => e = .returned (.bool true) ∧ Hp w0 w' F) (d' + 1) (ptr xb 0) (ptr yb 0) v (I (ops.length : Int)) (I (i : Int)) w := by
      intro d'
      induction d' with
      | zero =>
        intro i w M La Lb G hi hB H
        rw [F8_l1_succ]
        unfold F8_b1
        simp only [pv_some, nilO_ptr, faO_mk, gd_yes, gd_no, gd_yes', gd_no', cnd_true, cnd_false, pick_true, pick_false, not_bool, bin_add, bin_sub, bin_mul, bin_eql, bin_neq, bin_lss, bin_leq, bin_gtr, bin_geq, ext0, ext1, ext2, lenS_mk, eqNil_none, eqNil_some, neNil_none, neNil_some, ret_k, mem, Nat.zero_add, Nat.add_zero, Nat.mul_one, drewV, Bool.not_true, Bool.not_false, show decide ((i : Int) < (ops.length : Int)) = false from decide_eq_false (by omega)]
        unfold F8_j4
        refine cal_h (awake_spec H) ?_
        rintro _ w3 ⟨rfl, H3⟩
        exact ⟨rfl, H3.to (by intro f; simp only [List.map_append, List.sum_append]; omega)⟩
      | succ d' ih =>
        intro i w M La Lb G hi hB H
        rw [F8_l1_succ]
        unfold F8_b1
        simp only [pv_some, nilO_ptr, faO_mk, gd_yes, gd_no, gd_yes', gd_no', cnd_true, cnd_false, pick_true, pick_false, not_bool, bin_add, bin_sub, bin_mul, bin_eql, bin_neq, bin_lss, bin_leq, bin_gtr, bin_geq, ext0, ext1, ext2, lenS_mk, eqNil_none, eqNil_some, neNil_none, neNil_some, ret_k, mem, Nat.zero_add, Nat.add_zero, Nat.mul_one, drewV, Bool.not_true, Bool.not_false, show decide ((i : Int) < (ops.length : Int)) = true from decide_eq_true (by omega)]
        unfold F8_j7
        have hlt : i < ops.length := by omega
        obtain ⟨o, ho⟩ : ∃ o, ops[i]? = some o := ⟨_, List.getElem?_eq_getElem hlt⟩
        have hoo := hok o (List.mem_of_getElem? ho)
        have hol := sumL_mem (List.mem_of_getElem? ho)
        refine ixL_rd (ls := ops.map OpA.cells) hr (op_lens ops) (by simp) (by omega) (by rw [List.getElem?_map, ho]; rfl) H ?_
        refine al_h H (z := [I 0, I 0, .bool false, .slice none 0 0, I 0]) (by kernel_rfl) fun w1 b H1 => ?_
        have hsc := hoo.sc
        refine stA_h H1 0 rfl rfl rfl (by intro c hc; simp [OpA.cells] at hc; rcases hc with rfl | rfl | rfl | rfl | rfl <;> first | rfl | exact hsc) fun w2 H2 => ?_
        refine ldA_h H2 0 rfl rfl ?_
        have H2' : Hp w0 w2 (La ++ (Lb ++ ((⟨b, 65, o.cells⟩ :: G) ++ F))) := H2.to (by intro f; simp only [List.set_cons_zero, List.cons_append, List.map_append, List.map_cons, List.sum_append, List.sum_cons]; omega)
        refine cal_h (do_spec (k := o.k) (x := o.x) (now := o.now) (fl := o.fl) hB (by omega) hoo.rd hoo.sc (by omega) hoo.by_ H2') ?_
        rintro _ w3 ⟨rfl, La', Lb', hB', H3⟩
        simp only [pv_some, nilO_ptr, faO_mk, gd_yes, gd_no, gd_yes', gd_no', cnd_true, cnd_false, pick_true, pick_false, not_bool, bin_add, bin_sub, bin_mul, bin_eql, bin_neq, bin_lss, bin_leq, bin_gtr, bin_geq, ext0, ext1, ext2, lenS_mk, eqNil_none, eqNil_some, neNil_none, neNil_some, ret_k, mem, Nat.zero_add, Nat.add_zero, Nat.mul_one, drewV, Bool.not_true, Bool.not_false]
        refine cal_h (seen_spec hB' (by omega) H3) ?_
        rintro _ w4 ⟨rfl, H4⟩
        simp only [pv_some, nilO_ptr, faO_mk, gd_yes, gd_no, gd_yes', gd_no', cnd_true, cnd_false, pick_true, pick_false, not_bool, bin_add, bin_sub, bin_mul, bin_eql, bin_neq, bin_lss, bin_leq, bin_gtr, bin_geq, ext0, ext1, ext2, lenS_mk, eqNil_none, eqNil_some, neNil_none, neNil_some, ret_k, mem, Nat.zero_add, Nat.add_zero, Nat.mul_one, drewV, Bool.not_true, Bool.not_false]
        rw [wrap64_id (by omega) (by omega), show (i : Int) + 1 = ((i + 1 : Nat) : Int) from by omega]
        exact ih (i + 1) w4 _ La' Lb' _ (by omega) hB' H4
    exact key ops.length 0 w4 (newM a.toNat b c d) La Lb [⟨vb, 23, [I a, I b, I c, I d]⟩] (by omega) ⟨hA, hB, hi0, hq0⟩ (H4.to (by intro f; simp only [List.cons_append, List.nil_append, List.map_append, List.map_cons, List.sum_append, List.sum_cons]; omega))
end
end Go.Proofs.Ytmnpndgmfmjfhaa.Den
end

section
set_option linter.unusedVariables false
set_option linter.unusedSimpArgs false
set_option maxRecDepth 8000
namespace Go.Proofs.Ytmnpndgmfmjfhaa.Den
open Go Go.RowKit Go.ChangeShapes Go.WideShapes Go.ChangeAt Go.Deep
/-- What a law says of a run. -/
def Fin (w0 : World) : ER := fun e w' => e = .returned (.bool true) ∧ Ext [] w0 w'
section
variable {H : Type} {enc : TypeId × Value → H} {P : Program} {W W' : World}
theorem trodAll_below (hl : laidOutB P = true) (hb : Below W.heap.size W W') : ∀ {ts : List TypeId} {vs : List Value} {ds : List (DataW H)} {ps : List MemPlace}, (∀ t ∈ ts, P.readableRec t = true ∧ t < P.types.size) →
    DataW.TrodAll enc P W 0 (fun _ => true) true ts vs ds ps → (∀ x ∈ ps, x.block < W.heap.size) → DataW.TrodAll enc P W' 0 (fun b => decide (b < W.heap.size)) true ts vs ds ps
  | [], _, _, _, ht, h, hlt => by
    obtain ⟨rfl, rfl, rfl⟩ := trodAll_nil h
    rfl
  | t :: ts, _, _, _, ht, h, hlt => by
    obtain ⟨v, vs1, d, ds1, a, b, rfl, rfl, rfl, h1, h2⟩ := trodAll_cons h
    obtain ⟨g1, g2⟩ := ht t (by simp)
    exact ⟨a, b, Below.trod hl g1 g2 h1 hb (fun x hx => hlt x (by simp [hx])), trodAll_below hl hb (fun t' h' => ht t' (by simp [h'])) h2 (fun x hx => hlt x (by simp [hx])), rfl⟩
theorem law_post {f : Func} {s : ChangeSpec} {args : Array Value} {ds : List (DataW H)} {before : List MemPlace} {tb : TypeId} (hl : laidOutB P = true) (hv : s.vars = []) (hr : f.resultTypes = #[tb]) (htb : P.underlying tb = some .bool)
    (hp : ∀ t ∈ f.params.toList, P.readableRec t = true ∧ t < P.types.size)
    (hfn : s.fn H (ds ++ []) = { results := [.lit (.bool true)], args := ds })
    (hW : DataW.Whole enc P f.params.toList s.vars false W args.toList ds [] before) (he : Ext [] W W') :
    s.post enc P f false true false false W args (.bool true) W' := by
  have hb : Below W.heap.size W W' := he.below (Nat.le_refl _) (by simp)
  have hW0 := hW
  obtain ⟨p, q, hA, hV, hpq, _, _⟩ := hW0
  have hlt : ∀ x ∈ before, x.block < W.heap.size := fun x hx => hW.lt x hx
  have hq : q = [] := by rw [hv] at hV; exact hV
  subst hq
  rw [List.append_nil] at hpq
  subst hpq
  refine ⟨ds, [], before, [], before, [], hW, ?_, ?_, ?_, hb.frame _, fun h => by cases h⟩
  · rw [hfn, hr]; exact trodAll_mk1 (shut_bool htb true)
  · rw [hfn]; exact trodAll_below hl hb hp hA hlt
  · rw [hfn, hv]; rfl
end
section
variable {H : Type} {enc : TypeId × Value → H} {P : Program} {w : World} {base : Nat} {spare : Nat → Bool} {held : Bool}
theorem open_slice_fields {t e : TypeId} {fs : Array Field} {fuel : Nat} {cs : List Value} {x : DataW H × List MemPlace} (ht : P.underlying t = some (.slice e)) (he : P.underlying e = some (.struct fs))
    (hone : oneCellFields P fs = true) (hC : P.cellsOf e = fs.size) (h : DataW.trod enc P w base spare held fuel t cs = some x) :
    (cs = [.slice none 0 0] ∧ x = (.nil, [])) ∨
    ∃ (a : Addr) (len cap m : Nat) (D : Nat → DataW H) (Pl : Nat → List MemPlace), cs = [.slice (some a) len cap] ∧ base ≤ a.block ∧ len ≤ cap ∧ cap ≤ maxLen ∧ m = (if spare a.block then cap else len) ∧
      x = (.slice ((List.range len).map D) ((List.range (m - len)).map fun j => D (len + j)), MemPlace.row a (m * fs.size) ++ (List.range m).flatMap Pl) ∧
      ∀ i, i < m → ∃ (ys : List (DataW H × List MemPlace)) (n : Nat), D i = .agg (ys.map (·.1)) ∧ Pl i = ys.flatMap (·.2) ∧ ys.length = fs.size ∧
        ∀ (j : Nat) (f : Field), fs[j]? = some f → ∃ (v : Value) (y : DataW H × List MemPlace), w.cell? (a.add (i * fs.size + j)) = some v ∧ ys[j]? = some y ∧ DataW.trod enc P w base spare held n f.type [v] = some y := by
  rcases open_slice ht h with h0 | ⟨a, len, cap, m, n, D, Pl, hcs, hb, hl, hm, hmm, hx, hi⟩
  · exact .inl h0
  · refine .inr ⟨a, len, cap, m, D, Pl, hcs, hb, hl, hm, hmm, by rw [hC] at hx; exact hx, fun i him => ?_⟩
    obtain ⟨cs', hc, ht'⟩ := hi i him
    rw [hC] at hc
    obtain ⟨ys, n', hn', hy, hlen, hyl, hf⟩ := DataW.trod_struct he ht'
    obtain ⟨_, hcl, hat⟩ := World.cells?_some hc
    simp only [Prod.mk.injEq] at hy
    refine ⟨ys, n', hy.1, hy.2, hyl, fun j f hj => ?_⟩
    obtain ⟨ho, hk⟩ := hone_of hone j f hj
    have hjl : j < fs.size := (Array.getElem?_eq_some_iff.1 hj).1
    have hcell := hat j hjl
    have hv : cs'[j]? = some (cs'[j]'(by omega)) := List.getElem?_eq_getElem (by omega)
    have h1 := hf j f hj
    rw [ho, hk] at h1
    have hone' : (cs'.drop j).take 1 = [cs'[j]'(by omega)] := by
      rw [List.drop_eq_getElem_cons (by omega)]
      rfl
    rw [hone'] at h1
    have hys : ys[j]? = some (ys[j]'(by omega)) := List.getElem?_eq_getElem (by omega)
    refine ⟨_, _, ?_, hys, h1.trans hys⟩
    rw [← Go.Deep.add_add, hcell, hv]
end
/-- The cell of an integer field. -/
theorem int_cell {H : Type} {enc : TypeId × Value → H} {P : Program} {w : World} {base : Nat} {spare : Nat → Bool} {held : Bool} {t : TypeId} {k : IntKind} {n : Nat} {v : Value} {y : DataW H × List MemPlace} (ht : P.underlying t = some (.int k)) (h : DataW.trod enc P w base spare held n t [v] = some y) :
    ∃ i, v = .int k i ∧ (Lit.int k i).wf = true := by
  obtain ⟨i, h1, _, hw⟩ := DataW.trod_int ht h
  simp at h1
  exact ⟨i, h1, hw⟩
theorem bool_cell {H : Type} {enc : TypeId × Value → H} {P : Program} {w : World} {base : Nat} {spare : Nat → Bool} {held : Bool} {t : TypeId} {n : Nat} {v : Value} {y : DataW H × List MemPlace} (ht : P.underlying t = some .bool) (h : DataW.trod enc P w base spare held n t [v] = some y) :
    ∃ i, v = .bool i := by
  obtain ⟨i, h1, _⟩ := DataW.trod_bool ht h
  simp at h1
  exact ⟨i, h1⟩
theorem u8_wf {i : Int} (h : (Lit.int .u8 i).wf = true) : 0 ≤ i ∧ i < 256 := by
  simp [Lit.wf, IntKind.min, IntKind.max, IntKind.signed, IntKind.bits] at h; omega
theorem i64_wf {i : Int} (h : (Lit.int .i64 i).wf = true) : -9223372036854775808 ≤ i ∧ i ≤ 9223372036854775807 := by
  simp [Lit.wf, IntKind.min, IntKind.max, IntKind.signed, IntKind.bits] at h; omega
end Go.Proofs.Ytmnpndgmfmjfhaa.Den
end

section
set_option linter.unusedVariables false
set_option linter.unusedSimpArgs false
namespace Go.Proofs.Ytmnpndgmfmjfhaa.Den
open Go Go.Joins Go.RowKit Go.ChangeShapes Go.WideShapes Go.ChangeAt Go.Deep
/-- Each part of a reading takes at most what there is room for. -/
def Fits {H : Type} (P : Program) (t : TypeId) (d : DataW H) : Prop := ∀ n ∈ d.weights P t, n ≤ reachBytes
section
variable {H : Type} {enc : TypeId × Value → H} {P : Program} {w : World} {base : Nat} {spare : Nat → Bool} {held : Bool}
theorem weightsAll_in {e : TypeId} : ∀ {l : List (DataW H)} {d : DataW H}, d ∈ l → ∀ n ∈ d.weights P e, n ∈ DataW.weightsAll P e l
  | a :: l, d, h, n, hn => by
    simp only [DataW.weightsAll, List.mem_append]
    rcases List.mem_cons.1 h with rfl | h
    · exact .inl hn
    · exact .inr (weightsAll_in h n hn)
theorem fits_each {ts : List TypeId} {ds : List (DataW H)} (h : (DataW.weightsEach P ts ds).all (· ≤ reachBytes) = true) {j : Nat} {t : TypeId} {d : DataW H} (ht : ts[j]? = some t) (hd : ds[j]? = some d) : Fits P t d := by
  intro n hn
  have := List.all_eq_true.1 h _ (DataW.weights_mem_each ht hd n hn)
  simpa using this
theorem slice_fits {α : Type} {en : α → List Value} {sz : Nat} {p : α → Prop} {t e : TypeId} {fuel : Nat} {cs : List Value} {x : DataW H × List MemPlace} (ht : P.underlying t = some (.slice e)) (hC : P.cellsOf e = sz)
    (hop : ∀ fuel cs x, DataW.trod enc P w base spare held fuel e cs = some x → cs.length = sz → Fits P e x.1 → ∃ a, cs = en a ∧ p a) (hw : Fits P t x.1) (h : DataW.trod enc P w base spare held fuel t cs = some x) :
    ∃ (xs : List α), (∀ a ∈ xs, p a) ∧ xs.length * P.bytesOf e ≤ reachBytes ∧ xs.length < 2 ^ 63 ∧ ((cs = [.slice none 0 0] ∧ xs = []) ∨ ∃ a cap, cs = [.slice (some a) xs.length cap] ∧ xs.length ≤ cap ∧
      ∀ (i : Nat) x, xs[i]? = some x → ∀ j, j < sz → w.cell? (a.add (i * sz + j)) = (en x)[j]?) := by
  rcases open_slice ht h with ⟨h0, _⟩ | ⟨a, len, cap, m, n, D, Pl, hcs, hb, hl, hcap, hmm, hx, hi⟩
  · exact ⟨[], by simp, by simp, by simp, .inl ⟨h0, rfl⟩⟩
  · have hlm : len ≤ m := by rw [hmm]; split <;> omega
    have hwe : ∀ i, i < len → Fits P e (D i) := by
      intro i hi n hn
      refine hw n ?_
      rw [hx]
      simp only [DataW.weights, ht, List.mem_cons, List.mem_append]
      exact .inr (.inl (weightsAll_in (List.mem_map.2 ⟨i, List.mem_range.2 hi, rfl⟩) n hn))
    have hlen : len * P.bytesOf e ≤ reachBytes := by
      have : (len + (m - len)) * P.bytesOf e ≤ reachBytes := by
        refine hw _ ?_
        rw [hx]
        simp only [DataW.weights, ht, List.mem_cons, List.length_map, List.length_range]
        exact .inl trivial
      exact Nat.le_trans (Nat.mul_le_mul_right _ (by omega)) this
    have hel : ∀ i, i < len → ∃ x : α, p x ∧ ∀ j, j < sz → w.cell? (a.add (i * sz + j)) = (en x)[j]? := by
      intro i hil
      obtain ⟨cs', hc, ht'⟩ := hi i (by omega)
      rw [hC] at hc
      obtain ⟨_, hcl, hat⟩ := World.cells?_some hc
      obtain ⟨x, rfl, hp⟩ := hop _ _ _ ht' hcl (hwe i hil)
      refine ⟨x, hp, fun j hj => ?_⟩
      rw [← Go.Deep.add_add]; exact hat j hj
    have hxs : ∃ xs : List α, xs.length = len ∧ ∀ (i : Nat) x, xs[i]? = some x → p x ∧ ∀ j, j < sz → w.cell? (a.add (i * sz + j)) = (en x)[j]? := by
      clear hi hx hmm hl hcap hcs hwe hlen hlm
      induction len with
      | zero => exact ⟨[], rfl, by simp⟩
      | succ len ih =>
        obtain ⟨xs, h1, h2⟩ := ih fun i hi => hel i (by omega)
        obtain ⟨x, hx⟩ := hel len (by omega)
        refine ⟨xs ++ [x], by simp [h1], fun i y hy => ?_⟩
        by_cases hi : i < xs.length
        · rw [List.getElem?_append_left hi] at hy; exact h2 i y hy
        · have hl := (List.getElem?_eq_some_iff.1 hy).1
          simp at hl
          obtain rfl : i = len := by omega
          rw [List.getElem?_append_right (by omega), h1, Nat.sub_self] at hy
          simp at hy; subst hy; exact hx
    obtain ⟨xs, h1, h2⟩ := hxs
    refine ⟨xs, fun y hy => ?_, by rw [h1]; exact hlen, ?_, .inr ⟨a, cap, by rw [h1]; exact hcs, by omega, fun i x hx => (h2 i x hx).2⟩⟩
    · obtain ⟨i, hi, e⟩ := List.getElem_of_mem hy
      exact (h2 i y (by rw [List.getElem?_eq_getElem hi, e])).1
    · have : maxLen < 2 ^ 63 := by decide
      omega
theorem struct_fits {t : TypeId} {fs : Array Field} {fuel : Nat} {cs : List Value} {x : DataW H × List MemPlace} (ht : P.underlying t = some (.struct fs)) (hone : oneCellFields P fs = true) (hl : cs.length = fs.size) (hw : Fits P t x.1)
    (h : DataW.trod enc P w base spare held fuel t cs = some x) : ∀ (j : Nat) (f : Field), fs[j]? = some f → ∃ (v : Value) (n : Nat) (y : DataW H × List MemPlace), cs[j]? = some v ∧ DataW.trod enc P w base spare held n f.type [v] = some y ∧ Fits P f.type y.1 := by
  obtain ⟨ys, n', hn', hy, hlen, hyl, hf⟩ := DataW.trod_struct ht h
  intro j f hj
  obtain ⟨ho, hk⟩ := hone_of hone j f hj
  have hjl : j < fs.size := (Array.getElem?_eq_some_iff.1 hj).1
  have h1 := hf j f hj
  rw [ho, hk] at h1
  have hone' : (cs.drop j).take 1 = [cs[j]'(by omega)] := by
    rw [List.drop_eq_getElem_cons (by omega)]
    rfl
  rw [hone'] at h1
  have hys : ys[j]? = some (ys[j]'(by omega)) := List.getElem?_eq_getElem (by omega)
  refine ⟨_, n', _, List.getElem?_eq_getElem (by omega), h1.trans hys, fun n hn => hw n ?_⟩
  rw [hy]
  simp only [DataW.weights, ht]
  exact DataW.weights_mem_each (j := j) (by simp only [List.getElem?_map, Array.getElem?_toList, hj, Option.map_some]) (by rw [List.getElem?_map, hys]; rfl) n hn
end
end Go.Proofs.Ytmnpndgmfmjfhaa.Den
end

section
set_option linter.unusedVariables false
set_option linter.unusedSimpArgs false
set_option maxRecDepth 8000
namespace Go.Proofs.Ytmnpndgmfmjfhaa.Den
open Go Go.Joins Go.RowKit Go.ChangeShapes Go.WideShapes Go.ChangeAt Go.Deep
noncomputable def structOf (t : TypeId) : Array Field := match Try.prog.underlying t with | some (.struct fs) => fs | _ => #[]
noncomputable def fieldT (t : TypeId) (j : Nat) : Option TypeId := ((structOf t)[j]?).map (·.type)
theorem und2 : Try.prog.underlying 2 = some (.int .i64) := by kernel_rfl
theorem und3 : Try.prog.underlying 3 = some (.int .i64) := by kernel_rfl
theorem und4 : Try.prog.underlying 4 = some .bool := by kernel_rfl
theorem und5 : Try.prog.underlying 5 = some (.int .u8) := by kernel_rfl
theorem und24 : Try.prog.underlying 24 = some (.slice 5) := by kernel_rfl
def ByteL (xs : List Int) : Prop := ∀ x ∈ xs, 0 ≤ x ∧ x < 256
section
variable {H : Type} {enc : TypeId × Value → H} {w : World} {base : Nat} {spare : Nat → Bool} {held : Bool}
/-- A slice of bytes that came in. -/
theorem bytes_open {fuel : Nat} {cs : List Value} {x : DataW H × List MemPlace} (h : DataW.trod enc Try.prog w base spare held fuel 24 cs = some x) :
    ∃ s n xs, cs = [s] ∧ Rd w 1 s n (bv xs) ∧ ByteL xs ∧ n < 2 ^ 63 ∧ xs.length = n := by
  have hC : Try.prog.cellsOf 5 = 1 := by kernel_rfl
  rcases open_slice und24 h with ⟨h0, _⟩ | ⟨a, len, cap, m, n, D, Pl, hcs, hb, hl, hcap, hmm, hx, hi⟩
  · exact ⟨.slice none 0 0, 0, [], h0, .inl ⟨0, rfl, by simp, rfl⟩, fun x hx => by simp at hx, by decide, rfl⟩
  · have hel : ∀ i, i < len → ∃ x : Int, w.cell? (a.add i) = some (U8 x) ∧ 0 ≤ x ∧ x < 256 := by
      intro i hil
      obtain ⟨cs', hc, ht'⟩ := hi i (by rw [hmm]; split <;> omega)
      rw [hC] at hc
      obtain ⟨_, hcl, hat⟩ := World.cells?_some hc
      obtain ⟨v, rfl⟩ : ∃ v, cs' = [v] := by
        cases cs' with
        | nil => simp at hcl
        | cons v r => cases r with
          | nil => exact ⟨v, rfl⟩
          | cons _ _ => simp at hcl
      obtain ⟨j, rfl, hw⟩ := int_cell und5 ht'
      have := hat 0 (by omega)
      simp only [Nat.mul_one, List.getElem?_cons_zero] at this
      have h0 : ((a.add i).add 0) = a.add i := by simp [Addr.add]
      rw [h0] at this
      exact ⟨j, this, u8_wf hw⟩
    refine ⟨.slice (some a) len cap, len, (List.range len).map fun i => if h : i < len then (hel i h).choose else 0, hcs, .inr ⟨a, cap, rfl, hl, ?_⟩, ?_, ?_, by simp⟩
    · refine (cellsAt_spec _ _ _).2 ⟨by simp [bv], fun j hj => ?_⟩
      rw [Nat.mul_one] at hj
      rw [Nat.zero_add, (hel j hj).choose_spec.1]
      simp [bv, hj]
    · intro x hx
      simp only [List.mem_map, List.mem_range] at hx
      obtain ⟨i, hi, rfl⟩ := hx
      rw [dif_pos hi]
      exact (hel i hi).choose_spec.2
    · have : maxLen < 2 ^ 63 := by decide
      omega
theorem open_agg5 {r : Reach} {b0 : Nat} {t : TypeId} {f0 f1 f2 f3 f4 : Field} {v : Value} {d : DataW H} {p : List MemPlace} {P : Program} (hs : P.underlying t = some (.struct #[f0, f1, f2, f3, f4])) (hone : oneCellFields P #[f0, f1, f2, f3, f4] = true) (hC : P.cellsOf t = 5)
    (hv : Value.okWide P w r b0 t v) (h : DataW.Trod enc P w base spare held t v d p) :
    ∃ (v0 v1 v2 v3 v4 : Value) (y0 y1 y2 y3 y4 : DataW H × List MemPlace) (n : Nat), v = .agg #[v0, v1, v2, v3, v4] ∧
      DataW.trod enc P w base spare held n f0.type [v0] = some y0 ∧ DataW.trod enc P w base spare held n f1.type [v1] = some y1 ∧ DataW.trod enc P w base spare held n f2.type [v2] = some y2 ∧ DataW.trod enc P w base spare held n f3.type [v3] = some y3 ∧ DataW.trod enc P w base spare held n f4.type [v4] = some y4 := by
  obtain ⟨cs, rfl, hsz⟩ := okWide_struct hs hv
  obtain ⟨l⟩ := cs
  match l, hsz.trans hC with
  | [c0, c1, c2, c3, c4], _ =>
    obtain ⟨fuel, hf⟩ := h
    obtain ⟨xs, n, _, hx, _, hlen, hg⟩ := DataW.trod_struct hs hf
    obtain ⟨o0, k0⟩ := hone_of hone 0 f0 rfl
    obtain ⟨o1, k1⟩ := hone_of hone 1 f1 rfl
    obtain ⟨o2, k2⟩ := hone_of hone 2 f2 rfl
    obtain ⟨o3, k3⟩ := hone_of hone 3 f3 rfl
    obtain ⟨o4, k4⟩ := hone_of hone 4 f4 rfl
    match xs, hlen with
    | [y0, y1, y2, y3, y4], _ =>
      exact ⟨c0, c1, c2, c3, c4, y0, y1, y2, y3, y4, n, rfl, by simpa [Value.cells, o0, k0] using hg 0 f0 rfl, by simpa [Value.cells, o1, k1] using hg 1 f1 rfl, by simpa [Value.cells, o2, k2] using hg 2 f2 rfl, by simpa [Value.cells, o3, k3] using hg 3 f3 rfl, by simpa [Value.cells, o4, k4] using hg 4 f4 rfl⟩
theorem fields5 {fs : Array Field} (h : fs.size = 5) : ∃ f0 f1 f2 f3 f4, fs = #[f0, f1, f2, f3, f4] := by
  obtain ⟨l⟩ := fs
  match l, h with
  | [a, b, c, d, e], _ => exact ⟨a, b, c, d, e, rfl⟩
/-- A call's argument: Op. -/
theorem op_open {b0 : Nat} {v : Value} {d : DataW H} {p : List MemPlace} (hv : Value.okWide Try.prog w .any b0 65 v) (h : DataW.Trod enc Try.prog w base spare held 65 v d p) :
    ∃ k x fl s now n xs, v = .agg ⟨[I k, I x, .bool fl, s, I now]⟩ ∧ Rd w 1 s n (bv xs) ∧ ByteL xs ∧ n < 2 ^ 63 ∧ xs.length = n := by
  have hone : oneCellFields Try.prog (structOf 65) = true := by kernel_rfl
  have hS : (structOf 65).size = 5 := by kernel_rfl
  have hU : Try.prog.underlying 65 = some (.struct (structOf 65)) := by kernel_rfl
  have hF : ∀ j, fieldT 65 j = ((structOf 65)[j]?).map (·.type) := fun j => rfl
  have g0 : fieldT 65 0 = some 3 := by kernel_rfl
  have g1 : fieldT 65 1 = some 3 := by kernel_rfl
  have g2 : fieldT 65 2 = some 4 := by kernel_rfl
  have g3 : fieldT 65 3 = some 24 := by kernel_rfl
  have g4 : fieldT 65 4 = some 2 := by kernel_rfl
  rw [hF] at g0 g1 g2 g3 g4
  generalize structOf 65 = fs at hone hS hU g0 g1 g2 g3 g4
  obtain ⟨f0, f1, f2, f3, f4, rfl⟩ := fields5 hS
  simp at g0 g1 g2 g3 g4
  obtain ⟨v0, v1, v2, v3, v4, y0, y1, y2, y3, y4, n, rfl, t0, t1, t2, t3, t4⟩ := open_agg5 hU hone (by kernel_rfl) hv h
  rw [g0] at t0; rw [g1] at t1; rw [g2] at t2; rw [g3] at t3; rw [g4] at t4
  obtain ⟨i0, rfl, _⟩ := int_cell und3 t0
  obtain ⟨i1, rfl, _⟩ := int_cell und3 t1
  obtain ⟨i2, rfl⟩ := bool_cell und4 t2
  obtain ⟨s, m, xs, hs, hr⟩ := bytes_open t3
  injection hs with hs _; subst hs
  obtain ⟨i4, rfl, _⟩ := int_cell und2 t4
  exact ⟨i0, i1, i2, _, i4, m, xs, rfl, hr⟩
/-- A frame that came in. -/
theorem frame_open {b0 : Nat} {v : Value} {d : DataW H} {p : List MemPlace} (hv : Value.okWide Try.prog w .any b0 48 v) (h : DataW.Trod enc Try.prog w base spare held 48 v d p) :
    ∃ k last m f s n xs, v = .agg ⟨frm k last m f s⟩ ∧ Rd w 1 s n (bv xs) ∧ ByteL xs ∧ n < 2 ^ 63 ∧ xs.length = n ∧ m ≤ 9223372036854775807 := by
  have hone : oneCellFields Try.prog (structOf 48) = true := by kernel_rfl
  have hS : (structOf 48).size = 5 := by kernel_rfl
  have hU : Try.prog.underlying 48 = some (.struct (structOf 48)) := by kernel_rfl
  have hF : ∀ j, fieldT 48 j = ((structOf 48)[j]?).map (·.type) := fun j => rfl
  have g0 : fieldT 48 0 = some 3 := by kernel_rfl
  have g1 : fieldT 48 1 = some 4 := by kernel_rfl
  have g2 : fieldT 48 2 = some 2 := by kernel_rfl
  have g3 : fieldT 48 3 = some 3 := by kernel_rfl
  have g4 : fieldT 48 4 = some 24 := by kernel_rfl
  rw [hF] at g0 g1 g2 g3 g4
  generalize structOf 48 = fs at hone hS hU g0 g1 g2 g3 g4
  obtain ⟨f0, f1, f2, f3, f4, rfl⟩ := fields5 hS
  simp at g0 g1 g2 g3 g4
  obtain ⟨v0, v1, v2, v3, v4, y0, y1, y2, y3, y4, n, rfl, t0, t1, t2, t3, t4⟩ := open_agg5 hU hone (by kernel_rfl) hv h
  rw [g0] at t0; rw [g1] at t1; rw [g2] at t2; rw [g3] at t3; rw [g4] at t4
  obtain ⟨i0, rfl, _⟩ := int_cell und3 t0
  obtain ⟨i1, rfl⟩ := bool_cell und4 t1
  obtain ⟨i2, rfl, w2⟩ := int_cell und2 t2
  obtain ⟨i3, rfl, _⟩ := int_cell und3 t3
  obtain ⟨s, m, xs, hs, hr, hb, hn, hl⟩ := bytes_open t4
  injection hs with hs _; subst hs
  exact ⟨i0, i1, i2, i3, _, m, xs, rfl, hr, hb, hn, hl, (i64_wf w2).2⟩
end
end Go.Proofs.Ytmnpndgmfmjfhaa.Den
end

section
set_option linter.unusedVariables false
set_option linter.unusedSimpArgs false
set_option maxRecDepth 8000
namespace Go.Proofs.Ytmnpndgmfmjfhaa.Den
open Go Go.Joins Go.RowKit Go.ChangeShapes Go.WideShapes Go.ChangeAt Go.Deep
section
variable {H : Type} {enc : TypeId × Value → H} {w : World} {base : Nat} {spare : Nat → Bool} {held : Bool}
theorem bytes_arg {b0 : Nat} {v : Value} {d : DataW H} {p : List MemPlace} (hv : Value.okWide Try.prog w .any b0 24 v) (h : DataW.Trod enc Try.prog w base spare held 24 v d p) :
    ∃ n xs, Rd w 1 v n (bv xs) ∧ ByteL xs ∧ n < 2 ^ 63 ∧ xs.length = n := by
  obtain ⟨a, l, c, rfl⟩ := okWide_slice und24 hv
  obtain ⟨fuel, hf⟩ := h
  obtain ⟨s, n, xs, hs, hr, hb, hn, hl⟩ := bytes_open hf
  simp [Value.cells] at hs
  rw [← hs] at hr
  exact ⟨n, xs, hr, hb, hn, hl⟩
theorem open_agg4 {r : Reach} {b0 : Nat} {t : TypeId} {f0 f1 f2 f3 : Field} {v : Value} {d : DataW H} {p : List MemPlace} {P : Program} (hs : P.underlying t = some (.struct #[f0, f1, f2, f3])) (hone : oneCellFields P #[f0, f1, f2, f3] = true) (hC : P.cellsOf t = 4)
    (hv : Value.okWide P w r b0 t v) (h : DataW.Trod enc P w base spare held t v d p) :
    ∃ (v0 v1 v2 v3 : Value) (y0 y1 y2 y3 : DataW H × List MemPlace) (n : Nat), v = .agg #[v0, v1, v2, v3] ∧
      DataW.trod enc P w base spare held n f0.type [v0] = some y0 ∧ DataW.trod enc P w base spare held n f1.type [v1] = some y1 ∧ DataW.trod enc P w base spare held n f2.type [v2] = some y2 ∧ DataW.trod enc P w base spare held n f3.type [v3] = some y3 := by
  obtain ⟨cs, rfl, hsz⟩ := okWide_struct hs hv
  obtain ⟨l⟩ := cs
  match l, hsz.trans hC with
  | [c0, c1, c2, c3], _ =>
    obtain ⟨fuel, hf⟩ := h
    obtain ⟨xs, n, _, hx, _, hlen, hg⟩ := DataW.trod_struct hs hf
    obtain ⟨o0, k0⟩ := hone_of hone 0 f0 rfl
    obtain ⟨o1, k1⟩ := hone_of hone 1 f1 rfl
    obtain ⟨o2, k2⟩ := hone_of hone 2 f2 rfl
    obtain ⟨o3, k3⟩ := hone_of hone 3 f3 rfl
    match xs, hlen with
    | [y0, y1, y2, y3], _ =>
      exact ⟨c0, c1, c2, c3, y0, y1, y2, y3, n, rfl, by simpa [Value.cells, o0, k0] using hg 0 f0 rfl, by simpa [Value.cells, o1, k1] using hg 1 f1 rfl, by simpa [Value.cells, o2, k2] using hg 2 f2 rfl, by simpa [Value.cells, o3, k3] using hg 3 f3 rfl⟩
theorem fields4 {fs : Array Field} (h : fs.size = 4) : ∃ f0 f1 f2 f3, fs = #[f0, f1, f2, f3] := by
  obtain ⟨l⟩ := fs
  match l, h with
  | [a, b, c, d], _ => exact ⟨a, b, c, d, rfl⟩
/-- A configuration that came in. -/
theorem conf_open {b0 : Nat} {v : Value} {d : DataW H} {p : List MemPlace} (hv : Value.okWide Try.prog w .any b0 23 v) (h : DataW.Trod enc Try.prog w base spare held 23 v d p) :
    ∃ a b c e, v = .agg ⟨[I a, I b, I c, I e]⟩ := by
  have hone : oneCellFields Try.prog (structOf 23) = true := by kernel_rfl
  have hS : (structOf 23).size = 4 := by kernel_rfl
  have hU : Try.prog.underlying 23 = some (.struct (structOf 23)) := by kernel_rfl
  have hF : ∀ j, fieldT 23 j = ((structOf 23)[j]?).map (·.type) := fun j => rfl
  have g0 : fieldT 23 0 = some 3 := by kernel_rfl
  have g1 : fieldT 23 1 = some 3 := by kernel_rfl
  have g2 : fieldT 23 2 = some 3 := by kernel_rfl
  have g3 : fieldT 23 3 = some 2 := by kernel_rfl
  rw [hF] at g0 g1 g2 g3
  generalize structOf 23 = fs at hone hS hU g0 g1 g2 g3
  obtain ⟨f0, f1, f2, f3, rfl⟩ := fields4 hS
  simp at g0 g1 g2 g3
  obtain ⟨v0, v1, v2, v3, y0, y1, y2, y3, n, rfl, t0, t1, t2, t3⟩ := open_agg4 hU hone (by kernel_rfl) hv h
  rw [g0] at t0; rw [g1] at t1; rw [g2] at t2; rw [g3] at t3
  obtain ⟨i0, rfl, _⟩ := int_cell und3 t0
  obtain ⟨i1, rfl, _⟩ := int_cell und3 t1
  obtain ⟨i2, rfl, _⟩ := int_cell und3 t2
  obtain ⟨i3, rfl, _⟩ := int_cell und2 t3
  exact ⟨i0, i1, i2, i3, rfl⟩
end
end Go.Proofs.Ytmnpndgmfmjfhaa.Den
end

section
set_option linter.unusedVariables false
set_option linter.unusedSimpArgs false
namespace Go.Proofs.Ytmnpndgmfmjfhaa.Den
open Go Go.Joins Go.RowKit Go.ChangeShapes Go.WideShapes Go.ChangeAt Go.Deep
theorem und65 : Try.prog.underlying 65 = some (.struct (structOf 65)) := by kernel_rfl
theorem und74 : Try.prog.underlying 74 = some (.slice 65) := by kernel_rfl
theorem field_ofP {t : TypeId} {j ft : Nat} (h : fieldT t j = some ft) : ∃ f : Field, (structOf t)[j]? = some f ∧ f.type = ft := by
  unfold fieldT at h
  cases hf : (structOf t)[j]? with
  | none => simp [hf] at h
  | some f => exact ⟨f, rfl, by simpa [hf] using h⟩
theorem dB_pos {xs : List Int} (h : ByteL xs) : 0 ≤ dB xs := by
  unfold dB
  rw [List.getD_eq_getElem?_getD]
  cases he : xs[1]? with
  | none => exact Int.le_refl _
  | some x => exact (h x (List.mem_of_getElem? he)).1
theorem rd_fits {α : Type} {en : α → List Value} {sz : Nat} {w : World} {cs : List Value} {xs : List α} (he : ∀ a, (en a).length = sz) (hz : 0 < sz)
    (h : (cs = [.slice none 0 0] ∧ xs = []) ∨ ∃ a cap, cs = [.slice (some a) xs.length cap] ∧ xs.length ≤ cap ∧ ∀ (i : Nat) x, xs[i]? = some x → ∀ j, j < sz → w.cell? (a.add (i * sz + j)) = (en x)[j]?) :
    ∃ s, cs = [s] ∧ Rd w sz s xs.length ((xs.map en).flatten) ∧ scalar s = true := by
  have hls : ∀ l ∈ xs.map en, l.length = sz := by intro l hl; obtain ⟨a, _, rfl⟩ := List.mem_map.1 hl; exact he a
  rcases h with ⟨rfl, rfl⟩ | ⟨a, cap, rfl, hcap, hc⟩
  · exact ⟨_, rfl, .inl ⟨0, rfl, by simp, rfl⟩, rfl⟩
  · refine ⟨_, rfl, .inr ⟨a, cap, rfl, hcap, (cellsAt_spec _ _ _).2 ⟨by rw [flat_length (sz := sz) hls, List.length_map], fun j hj => ?_⟩⟩, rfl⟩
    rw [Nat.zero_add]
    have hd : j / sz < xs.length := (Nat.div_lt_iff_lt_mul hz).2 hj
    have e : j / sz * sz + j % sz = j := by rw [Nat.mul_comm]; exact Nat.div_add_mod _ _
    have hm : j % sz < sz := Nat.mod_lt _ hz
    obtain ⟨y, hy⟩ : ∃ y, xs[j / sz]? = some y := ⟨_, List.getElem?_eq_getElem hd⟩
    have := hc _ y hy _ hm
    rw [e] at this
    rw [this]
    have := flat_getP hls (i := j / sz) (j := j % sz) (l := en y) (by rw [List.getElem?_map, hy]; rfl) hm
    rw [e] at this
    exact this.symm
theorem bv_flat : ∀ xs : List Int, (xs.map fun n : Int => [U8 n]).flatten = bv xs
  | [] => rfl
  | a :: l => by rw [List.map_cons, List.flatten_cons, bv_flat l]; rfl
section
variable {H : Type} {enc : TypeId × Value → H} {w : World} {base : Nat} {spare : Nat → Bool} {held : Bool}
theorem bytes_fits {fuel : Nat} {cs : List Value} {x : DataW H × List MemPlace} (h : DataW.trod enc Try.prog w base spare held fuel 24 cs = some x) (hf : Fits Try.prog 24 x.1) :
    ∃ s xs, cs = [s] ∧ Rd w 1 s xs.length (bv xs) ∧ ByteL xs ∧ scalar s = true ∧ xs.length ≤ 2 ^ 47 := by
  obtain ⟨xs, hp, hl, _, h1⟩ := slice_fits (en := fun n : Int => [U8 n]) (sz := 1) (p := fun n => 0 ≤ n ∧ n < 256) und24 (by kernel_rfl) (fun fuel cs x h hl _ => by
    match cs, hl with
    | [v], _ =>
      obtain ⟨i, rfl, hw⟩ := int_cell und5 h
      exact ⟨i, rfl, u8_wf hw⟩) hf h
  obtain ⟨s, rfl, hr, hsc⟩ := rd_fits (sz := 1) (fun _ => rfl) (by decide) h1
  refine ⟨s, xs, rfl, ?_, hp, hsc, ?_⟩
  · have this := bv_flat xs
    rw [← this]; exact hr
  · rw [show Try.prog.bytesOf 5 = 1 from by kernel_rfl] at hl
    have : reachBytes < 2 ^ 47 := by decide
    omega
theorem ops_fits {fuel : Nat} {cs : List Value} {x : DataW H × List MemPlace} (h : DataW.trod enc Try.prog w base spare held fuel 74 cs = some x) (hf : Fits Try.prog 74 x.1) :
    ∃ s ops, cs = [s] ∧ RdL ⟨w, []⟩ [] 5 s ops.length (opCells ops) ∧ (∀ o ∈ ops, OpOk ⟨w, []⟩ o) ∧ ops.length < 2 ^ 60 := by
  obtain ⟨xs, hp, hl, _, h1⟩ := slice_fits (en := OpA.cells) (sz := 5) (p := OpOk ⟨w, []⟩) und74 (by kernel_rfl) (fun fuel cs x h hl hf => by
    have hc := struct_fits und65 (by kernel_rfl) (hl.trans (by kernel_rfl)) hf h
    match cs, hl with
    | [v0, v1, v2, v3, v4], _ =>
      obtain ⟨f0, g0, e0⟩ := field_ofP (t := 65) (j := 0) (ft := 3) (by kernel_rfl)
      obtain ⟨_, _, _, c0, t0, _⟩ := hc 0 f0 g0
      obtain ⟨f1, g1, e1⟩ := field_ofP (t := 65) (j := 1) (ft := 3) (by kernel_rfl)
      obtain ⟨_, _, _, c1, t1, _⟩ := hc 1 f1 g1
      obtain ⟨f2, g2, e2⟩ := field_ofP (t := 65) (j := 2) (ft := 4) (by kernel_rfl)
      obtain ⟨_, _, _, c2, t2, _⟩ := hc 2 f2 g2
      obtain ⟨f3, g3, e3⟩ := field_ofP (t := 65) (j := 3) (ft := 24) (by kernel_rfl)
      obtain ⟨_, _, _, c3, t3, w3⟩ := hc 3 f3 g3
      obtain ⟨f4, g4, e4⟩ := field_ofP (t := 65) (j := 4) (ft := 2) (by kernel_rfl)
      obtain ⟨_, _, _, c4, t4, _⟩ := hc 4 f4 g4
      rw [e0] at t0; rw [e1] at t1; rw [e2] at t2; rw [e3] at t3 w3; rw [e4] at t4
      simp at c0 c1 c2 c3 c4
      subst c0 c1 c2 c3 c4
      obtain ⟨a, rfl, _⟩ := int_cell und3 t0
      obtain ⟨b, rfl, _⟩ := int_cell und3 t1
      obtain ⟨c, rfl⟩ := bool_cell und4 t2
      obtain ⟨s, xs, hs, hr, hb, hsc, hx⟩ := bytes_fits t3 w3
      injection hs with hs _; subst hs
      obtain ⟨e, rfl, _⟩ := int_cell und2 t4
      exact ⟨⟨a, b, c, _, e, xs⟩, rfl, .inl hr, hsc, dB_pos hb, hx⟩) hf h
  obtain ⟨s, rfl, hr, hsc⟩ := rd_fits (sz := 5) (fun _ => rfl) (by decide) h1
  refine ⟨s, xs, rfl, .inl hr, hp, ?_⟩
  rw [show Try.prog.bytesOf 65 = 56 from by kernel_rfl] at hl
  have : reachBytes < 2 ^ 47 := by decide
  omega
end
end Go.Proofs.Ytmnpndgmfmjfhaa.Den
end
