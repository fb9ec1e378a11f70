/- Links: the law LinksDelivered, walked. Conditions: none. -/
import Derived.Test.YtmnpndgmfmjfhaaLkDe
set_option linter.unusedVariables false
set_option linter.unusedSimpArgs false
set_option maxRecDepth 8000
namespace Go.Proofs.Ytmnpndgmfmjfhaa.Den
open Go Go.RowKit
def TrueQ (w0 : Base) (F : List Chunk) : ER := fun e w' => e = .returned (.bool true) ∧ Hp w0 w' F
section
variable {w w' : World} {w0 : Base} {F L : List Chunk} {R : ER}
theorem Ack_spec {b : Nat} {M : LM} (H : Hp w0 w (L ++ F)) (hL : Lk w0 b M L) : Calls Pg 25 ⟨[ptr b 0]⟩ w fun e w' => e = .returned (I M.done) ∧ Hp w0 w' (L ++ F) := by
  obtain ⟨su, sus, sp, sa, cu, cus, cp, ca, D, sv, hlk, rfl⟩ := hL
  apply links_Link_Acknowledged_calls
  unfold links_Link_Acknowledged
  have e1 : eqNilP (ptr b 0) = some (.bool false) := rfl
  simp only [e1, pv_some, nilO_ptr, faO_mk, gd_yes, gd_no, gd_yes', gd_no', cnd_true, cnd_false, pick_true, pick_false, not_bool, bin_add, bin_sub, bin_mul, bin_eql, bin_neq, bin_lss, bin_leq, bin_gtr, bin_geq, ext0, ext1, ext2, lenS_mk, eqNil_none, eqNil_some, neNil_none, neNil_some, ret_k, mem, Nat.zero_add, Nat.add_zero, Nat.mul_one, drewV, Bool.not_true, Bool.not_false]
  refine ld_h H 0 rfl rfl ?_
  exact ⟨rfl, H⟩
theorem BrokenQ_spec {b : Nat} {M : LM} (H : Hp w0 w (L ++ F)) (hL : Lk w0 b M L) : Calls Pg 15 ⟨[ptr b 0]⟩ w fun e w' => e = .returned (.bool M.broken) ∧ Hp w0 w' (L ++ F) := by
  obtain ⟨su, sus, sp, sa, cu, cus, cp, ca, D, sv, hlk, rfl⟩ := hL
  apply links_Link_Broken_calls
  unfold links_Link_Broken
  have e1 : neNilP (ptr b 0) = some (.bool true) := rfl
  simp only [e1, pv_some, nilO_ptr, faO_mk, gd_yes, gd_no, gd_yes', gd_no', cnd_true, cnd_false, pick_true, pick_false, not_bool, bin_add, bin_sub, bin_mul, bin_eql, bin_neq, bin_lss, bin_leq, bin_gtr, bin_geq, ext0, ext1, ext2, lenS_mk, eqNil_none, eqNil_some, neNil_none, neNil_some, ret_k, mem, Nat.zero_add, Nat.add_zero, Nat.mul_one, drewV, Bool.not_true, Bool.not_false]
  refine ld_h H 0 rfl rfl ?_
  exact ⟨rfl, H⟩
/-- Slices of bytes in a slice, that came in. -/
structure ArgS (w0 : Base) (s : Value) (vs : List (List Int)) (sv : List Value) : Prop where
  rd : Rd w0 1 s vs.length sv
  svl : sv.length = vs.length
  dat : ∀ (i : Nat) (ys : List Int) (s : Value), vs[i]? = some ys → sv[i]? = some s → Rd w0 1 s ys.length (bv ys)
theorem slT_h {s : Value} {n hi : Nat} {xs : List Int} (hs : RdL w0 F 1 s n (bv xs)) (hn : hi ≤ n) : ∃ s', slS 1 s none (some (I (hi : Int))) = some s' ∧ RdL w0 F 1 s' hi (bv (xs.take hi)) := by
  by_cases h0 : 0 < n
  · obtain ⟨s', h1, h2, _⟩ := slS_to hs rfl h0 hn
    exact ⟨s', h1, h2⟩
  · have : n = 0 := by omega
    subst this
    have : hi = 0 := by omega
    subst this
    obtain ⟨a, c, rfl⟩ : ∃ a c, s = .slice a 0 c := by
      rcases hs with (⟨c, rfl, h0, _⟩ | ⟨a, c, rfl, hmc, h⟩) | ⟨b, o, c, el, l, rfl, hmc, hm, hle, he⟩
      · exact ⟨_, _, rfl⟩
      · exact ⟨_, _, rfl⟩
      · exact ⟨_, _, rfl⟩
    refine ⟨if c = 0 then .slice a 0 c else .slice (a.map (·.add 0)) 0 c, ?_, ?_⟩
    · simp only [slS, boundO]
      rw [if_pos (by omega)]
      simp
      split <;> rfl
    · have he : bv (xs.take 0) = [] := rfl
      rw [he]
      cases a with
      | none => split <;> exact .inl (.inl ⟨_, rfl, by simp, rfl⟩)
      | some a => split <;> exact .inl (.inr ⟨_, _, rfl, by omega, by rw [Nat.zero_mul]; rfl⟩)
def cut200 (d : List Int) : List Int := d.take (min d.length 200)
def sndM (M0 : LM) (ms : List (List Int)) : LM := { M0 with sent := (ms.length : Int), us := usOf (M0.size - 24).toNat 1 ms }
theorem sndM_send {a b c d : Int} {ms : List (List Int)} {x : List Int} (hm : ms.length < 60) (hx : x.length ≤ 200) : sendE (sndM (cfM a b c d) ms) x 0 = 0 ∧ sendM (sndM (cfM a b c d) ms) x 0 = sndM (cfM a b c d) (ms ++ [x]) := by
  have e : sendE (sndM (cfM a b c d) ms) x 0 = 0 := by
    unfold sendE
    rw [if_neg (by omega), if_neg (by simp [timeE, sndM, cfM, newM]), if_neg (by simp [sndM, cfM, newM]; omega), if_neg (by simp [sndM]; omega)]
  refine ⟨e, ?_⟩
  unfold sendM
  rw [if_pos e, setLast_app _ _ _ _ (pcs_ne _ _ _)]
  unfold sndM
  simp only [List.length_append, List.length_singleton, usOf_app]
  have h1 : (1 : Int) + (ms.length : Int) = (ms.length : Int) + 1 := by omega
  have h2 : (cfM a b c d).clock = 0 := rfl
  rw [h1]
  simp only [cfM, newM]
  rfl
theorem dl_loop {tb b0 n : Nat} {l : List Value} {x1 : Value} {xss : List (List Int)} {xsv : List Value} {a b c d : Int} {F : List Chunk} (hx : ArgS w0 x1 xss xsv) (hn : xss.length = n) (hn12 : n ≤ 12) (hl0 : l[0]? = some (ptr b0 0))
    (kk : ∀ w' s7 L0 co Db sv, Hp w0 w' (⟨tb, 39, l⟩ :: (L0 ++ (co ++ (Db ++ F)))) → Lk w0 b0 (sndM (cfM a b c d) (xss.map cut200)) L0 → LInv n (sndM (cfM a b c d) (xss.map cut200)) → MsgP w0 s7 (xss.map cut200) co Db sv → orpimentlaw35_LinksDelivered_j3 R x1 (ptr tb 0) s7 w') :
    ∀ (k i : Nat) (w : World) (ms : List (List Int)) (s7 : Value) (L0 co Db : List Chunk) (sv : List Value), i + k = n → ms = (xss.take i).map cut200 → LInv i (sndM (cfM a b c d) ms) → Lk w0 b0 (sndM (cfM a b c d) ms) L0 → MsgP w0 s7 ms co Db sv → Hp w0 w (⟨tb, 39, l⟩ :: (L0 ++ (co ++ (Db ++ F)))) →
      orpimentlaw35_LinksDelivered_l2 R (k + 1) x1 (ptr tb 0) s7 x1 (I (n : Int)) (I (i : Int)) w := by
  intro k
  induction k with
  | zero =>
    intro i w ms s7 L0 co Db sv hi hms hI hL hM H
    rw [orpimentlaw35_LinksDelivered_l2_succ]
    unfold orpimentlaw35_LinksDelivered_b2
    simp only [pv_some, nilO_ptr, faO_mk, gd_yes, gd_no, gd_yes', gd_no', cnd_true, cnd_false, pick_true, pick_false, not_bool, bin_add, bin_sub, bin_mul, bin_eql, bin_neq, bin_lss, bin_leq, bin_gtr, bin_geq, ext0, ext1, ext2, lenS_mk, eqNil_none, eqNil_some, neNil_none, neNil_some, ret_k, mem, Nat.zero_add, Nat.add_zero, Nat.mul_one, drewV, Bool.not_true, Bool.not_false, show decide ((i : Int) < (n : Int)) = false from decide_eq_false (by omega)]
    have hin : i = n := by omega
    subst hin
    rw [List.take_of_length_le (by omega)] at hms
    subst hms
    exact kk w s7 L0 co Db sv H hL hI hM
  | succ k ih =>
    intro i w ms s7 L0 co Db sv hi hms hI hL hM H
    rw [orpimentlaw35_LinksDelivered_l2_succ]
    unfold orpimentlaw35_LinksDelivered_b2 orpimentlaw35_LinksDelivered_j12
    simp only [pv_some, nilO_ptr, faO_mk, gd_yes, gd_no, gd_yes', gd_no', cnd_true, cnd_false, pick_true, pick_false, not_bool, bin_add, bin_sub, bin_mul, bin_eql, bin_neq, bin_lss, bin_leq, bin_gtr, bin_geq, ext0, ext1, ext2, lenS_mk, eqNil_none, eqNil_some, neNil_none, neNil_some, ret_k, mem, Nat.zero_add, Nat.add_zero, Nat.mul_one, drewV, Bool.not_true, Bool.not_false, show decide ((i : Int) < (n : Int)) = true from decide_eq_true (by omega)]
    have hlt : i < xss.length := by omega
    obtain ⟨ys, hys⟩ : ∃ ys, xss[i]? = some ys := ⟨_, List.getElem?_eq_getElem hlt⟩
    obtain ⟨t, ht⟩ : ∃ t, xsv[i]? = some t := ⟨_, List.getElem?_eq_getElem (by rw [hx.svl]; exact hlt)⟩
    have hrd : RdL w0 (⟨tb, 39, l⟩ :: (L0 ++ (co ++ (Db ++ F)))) 1 t ys.length (bv ys) := .inl (hx.dat i ys t hys ht)
    refine ix1_rd (RdL.rd (L := ⟨tb, 39, l⟩ :: (L0 ++ (co ++ (Db ++ F)))) (.inl hx.rd) H) ht ?_
    simp only [lenS_rdL hrd, pv_some, nilO_ptr, faO_mk, gd_yes, gd_no, gd_yes', gd_no', cnd_true, cnd_false, pick_true, pick_false, not_bool, bin_add, bin_sub, bin_mul, bin_eql, bin_neq, bin_lss, bin_leq, bin_gtr, bin_geq, ext0, ext1, ext2, lenS_mk, eqNil_none, eqNil_some, neNil_none, neNil_some, ret_k, mem, Nat.zero_add, Nat.add_zero, Nat.mul_one, drewV, Bool.not_true, Bool.not_false]
    have em : min2I (.int .i64 (ys.length : Int)) (.int .i64 200) = some (.int .i64 ((min ys.length 200 : Nat) : Int)) := min2I_nat ys.length 200
    obtain ⟨t2, e2, hr2⟩ := slT_h (hi := min ys.length 200) hrd (by omega)
    simp only [em, e2, pv_some, nilO_ptr, faO_mk, gd_yes, gd_no, gd_yes', gd_no', cnd_true, cnd_false, pick_true, pick_false, not_bool, bin_add, bin_sub, bin_mul, bin_eql, bin_neq, bin_lss, bin_leq, bin_gtr, bin_geq, ext0, ext1, ext2, lenS_mk, eqNil_none, eqNil_some, neNil_none, neNil_some, ret_k, mem, Nat.zero_add, Nat.add_zero, Nat.mul_one, drewV, Bool.not_true, Bool.not_false]
    have hcl : (cut200 ys).length = min ys.length 200 := by unfold cut200; simp
    refine cal_h (Clone_spec hr2 (by omega) H) ?_
    rintro e w1 ⟨t3, cs3, rfl, H1, hS3⟩
    refine lit1s_h elT36 H1 (sl_cells hS3) fun w2 nb H2 => ?_
    have hms1 : ms.length = i := by rw [hms]; simp; omega
    have H2' : Hp w0 w2 (co ++ (Db ++ ([⟨nb, 24, [t3]⟩] ++ (cs3 ++ (⟨tb, 39, l⟩ :: (L0 ++ F)))))) := H2.to (by intro f; simp only [I, U8, U64, ptr, List.set_cons_zero, List.set_cons_succ, List.eraseIdx_cons_zero, List.eraseIdx_cons_succ, List.map_append, List.map_cons, List.map_nil, List.sum_append, List.sum_cons, List.sum_nil]; omega)
    have hM3 : MsgP w0 (.slice (some ⟨nb, 0, none⟩) 1 1) [cut200 ys] [⟨nb, 24, [t3]⟩] cs3 [t3] := by
      refine ⟨.inr ⟨nb, 1, [], rfl, rfl, rfl, by simp, rfl⟩, rfl, ?_⟩
      intro q zs s hq hs
      have h0 : q = 0 := by have := (List.getElem?_eq_some_iff.1 hq).1; simp at this; omega
      subst h0
      simp at hq hs
      subst hq; subst hs
      rw [hcl]
      exact hS3.rdL fun c hc => hc
    refine msg_app hM hM3 (by rw [hms1]; simp; omega) H2' fun w3 g3 co3 H3 hM4 => ?_
    have e0 : ixA 2 1 (ptr tb 0) (.int .i64 0) = some (ptr tb 0) := ixA_mk (j := 0) (by decide)
    simp only [e0, pv_some, nilO_ptr, faO_mk, gd_yes, gd_no, gd_yes', gd_no', cnd_true, cnd_false, pick_true, pick_false, not_bool, bin_add, bin_sub, bin_mul, bin_eql, bin_neq, bin_lss, bin_leq, bin_gtr, bin_geq, ext0, ext1, ext2, lenS_mk, eqNil_none, eqNil_some, neNil_none, neNil_some, ret_k, mem, Nat.zero_add, Nat.add_zero, Nat.mul_one, drewV, Bool.not_true, Bool.not_false]
    have H3' : Hp w0 w3.drew (⟨tb, 39, l⟩ :: (L0 ++ (co3 ++ ((Db ++ cs3) ++ F)))) := H3.drew.to (by intro f; simp only [I, U8, U64, ptr, List.set_cons_zero, List.set_cons_succ, List.eraseIdx_cons_zero, List.eraseIdx_cons_succ, List.map_append, List.map_cons, List.map_nil, List.sum_append, List.sum_cons, List.sum_nil]; omega)
    refine ld_h H3' 0 rfl hl0 ?_
    have hl4 : (sv ++ [t3])[i]? = some t3 := by rw [List.getElem?_append_right (by rw [hM.svl]; omega), hM.svl, hms1]; simp
    have hsl4 : RdL w0 (⟨tb, 39, l⟩ :: (L0 ++ (co3 ++ ((Db ++ cs3) ++ F)))) 1 g3 (ms ++ [cut200 ys]).length (sv ++ [t3]) := hM4.sl.rdL fun c hc => by simp [hc]
    refine ix1_rd (RdL.rd hsl4 H3') hl4 ?_
    have hd4 := hM4.dat i (cut200 ys) t3 (by rw [List.getElem?_append_right (by omega), hms1]; simp) hl4
    refine cal_h (Clone_spec (hd4.mono fun c hc => List.mem_cons_of_mem _ (List.mem_append_right _ (List.mem_append_right _ (List.mem_append_left _ hc)))) (by omega) H3') ?_
    rintro e w4 ⟨t5, cs5, rfl, H4, hS5⟩
    try simp only [pv_some, nilO_ptr, faO_mk, gd_yes, gd_no, gd_yes', gd_no', cnd_true, cnd_false, pick_true, pick_false, not_bool, bin_add, bin_sub, bin_mul, bin_eql, bin_neq, bin_lss, bin_leq, bin_gtr, bin_geq, ext0, ext1, ext2, lenS_mk, eqNil_none, eqNil_some, neNil_none, neNil_some, ret_k, mem, Nat.zero_add, Nat.add_zero, Nat.mul_one, drewV, Bool.not_true, Bool.not_false]
    have H4' : Hp w0 w4 (⟨tb, 39, l⟩ :: (L0 ++ (cs5 ++ (co3 ++ ((Db ++ cs3) ++ F))))) := H4.to (by intro f; simp only [I, U8, U64, ptr, List.set_cons_zero, List.set_cons_succ, List.eraseIdx_cons_zero, List.eraseIdx_cons_succ, List.map_append, List.map_cons, List.map_nil, List.sum_append, List.sum_cons, List.sum_nil]; omega)
    rw [rd1_t (H4'.cell 0 (o := 0) rfl hl0)]
    have H4'' : Hp w0 w4 (L0 ++ (⟨tb, 39, l⟩ :: (cs5 ++ (co3 ++ ((Db ++ cs3) ++ F))))) := H4'.to (by intro f; simp only [I, U8, U64, ptr, List.set_cons_zero, List.set_cons_succ, List.eraseIdx_cons_zero, List.eraseIdx_cons_succ, List.map_append, List.map_cons, List.map_nil, List.sum_append, List.sum_cons, List.sum_nil]; omega)
    obtain ⟨q1, q2⟩ := sndM_send (a := a) (b := b) (c := c) (d := d) (ms := ms) (x := cut200 ys) (by omega) (by omega)
    have hwf := hI.wf
    have hsd := hwf.sd
    refine cal_h (Send_spec (now := 0) H4'' hL (hS5.rdL fun c hc => List.mem_cons_of_mem _ (List.mem_append_left _ hc)) (by omega) hwf.size (by have := hI.un; omega) (by omega)) ?_
    rintro e w5 ⟨L5, rfl, H5, hL5⟩
    rw [q2] at hL5
    rw [q1]
    have hsent : (sndM (cfM a b c d) ms).sent = (i : Int) := by unfold sndM; simp only [hms1]
    simp only [show decide ((0 : Int) ≠ 0) = false from rfl, pv_some, nilO_ptr, faO_mk, gd_yes, gd_no, gd_yes', gd_no', cnd_true, cnd_false, pick_true, pick_false, not_bool, bin_add, bin_sub, bin_mul, bin_eql, bin_neq, bin_lss, bin_leq, bin_gtr, bin_geq, ext0, ext1, ext2, lenS_mk, eqNil_none, eqNil_some, neNil_none, neNil_some, ret_k, mem, Nat.zero_add, Nat.add_zero, Nat.mul_one, drewV, Bool.not_true, Bool.not_false]
    rw [if_pos trivial, hsent, wrap64_id (by omega) (by omega)]
    simp only [ne_eq, not_true_eq_false, decide_false, pv_some, nilO_ptr, faO_mk, gd_yes, gd_no, gd_yes', gd_no', cnd_true, cnd_false, pick_true, pick_false, not_bool, bin_add, bin_sub, bin_mul, bin_eql, bin_neq, bin_lss, bin_leq, bin_gtr, bin_geq, ext0, ext1, ext2, lenS_mk, eqNil_none, eqNil_some, neNil_none, neNil_some, ret_k, mem, Nat.zero_add, Nat.add_zero, Nat.mul_one, drewV, Bool.not_true, Bool.not_false]
    rw [show (i : Int) + 1 = ((i + 1 : Nat) : Int) from by omega]
    have hI' := inv_send (d := cut200 ys) (now := 0) hI (by omega)
    rw [q2] at hI'
    have htk : (xss.take (i + 1)).map cut200 = ms ++ [cut200 ys] := by rw [List.take_add_one, hys, List.map_append, hms]; rfl
    exact ih (i + 1) w5 (ms ++ [cut200 ys]) g3 L5 co3 (Db ++ cs3) _ (by omega) htk.symm hI' hL5 hM4 (H5.to (by intro f; simp only [I, U8, U64, ptr, List.set_cons_zero, List.set_cons_succ, List.eraseIdx_cons_zero, List.eraseIdx_cons_succ, List.map_append, List.map_cons, List.map_nil, List.sum_append, List.sum_cons, List.sum_nil]; omega))
/-- What has come is what was sent. -/
theorem dl_cmp {tb b0 b1 n : Nat} {l : List Value} {A B : LM} {cc : Int} {ms v0 : List (List Int)} {s7 : Value} {co Db : List Chunk} {sv : List Value} (hn : ms.length = n) (hn2 : n < 1000) (h200 : ∀ d ∈ ms, d.length ≤ 200) (hM : MsgP w0 s7 ms co Db sv) (hT : Tk w0 tb b0 b1 l A B cc v0 ms L)
    (kk : ∀ w', Hp w0 w' (L ++ (co ++ (Db ++ F))) → orpimentlaw35_LinksDelivered_j5 R (ptr tb 0) w') :
    ∀ (k i : Nat) (w : World), i + k = n → Hp w0 w (L ++ (co ++ (Db ++ F))) → orpimentlaw35_LinksDelivered_l1 R (k + 1) (ptr tb 0) s7 (I (n : Int)) (I (i : Int)) w := by
  obtain ⟨L0, L1, g0, g1, co0, Db0, sv0, co1, Db1, sv1, hL0, hL1, hM0, hM1, hl, l0, l1, l5, l8, l9, rfl⟩ := hT
  intro k
  induction k with
  | zero =>
    intro i w hi H
    rw [orpimentlaw35_LinksDelivered_l1_succ]
    unfold orpimentlaw35_LinksDelivered_b1
    simp only [pv_some, nilO_ptr, faO_mk, gd_yes, gd_no, gd_yes', gd_no', cnd_true, cnd_false, pick_true, pick_false, not_bool, bin_add, bin_sub, bin_mul, bin_eql, bin_neq, bin_lss, bin_leq, bin_gtr, bin_geq, ext0, ext1, ext2, lenS_mk, eqNil_none, eqNil_some, neNil_none, neNil_some, ret_k, mem, Nat.zero_add, Nat.add_zero, Nat.mul_one, drewV, Bool.not_true, Bool.not_false, show decide ((i : Int) < (n : Int)) = false from decide_eq_false (by omega)]
    exact kk w H
  | succ k ih =>
    intro i w hi H
    rw [orpimentlaw35_LinksDelivered_l1_succ]
    unfold orpimentlaw35_LinksDelivered_b1 orpimentlaw35_LinksDelivered_j8
    have e8 : ixA 2 1 (ptr tb 8) (.int .i64 1) = some (ptr tb 9) := ixA_mk (j := 1) (by decide)
    simp only [e8, pv_some, nilO_ptr, faO_mk, gd_yes, gd_no, gd_yes', gd_no', cnd_true, cnd_false, pick_true, pick_false, not_bool, bin_add, bin_sub, bin_mul, bin_eql, bin_neq, bin_lss, bin_leq, bin_gtr, bin_geq, ext0, ext1, ext2, lenS_mk, eqNil_none, eqNil_some, neNil_none, neNil_some, ret_k, mem, Nat.zero_add, Nat.add_zero, Nat.mul_one, drewV, Bool.not_true, Bool.not_false, show decide ((i : Int) < (n : Int)) = true from decide_eq_true (by omega)]
    have hlt : i < ms.length := by omega
    obtain ⟨ys, hys⟩ : ∃ ys, ms[i]? = some ys := ⟨_, List.getElem?_eq_getElem hlt⟩
    obtain ⟨t, ht⟩ : ∃ t, sv[i]? = some t := ⟨_, List.getElem?_eq_getElem (by rw [hM.svl]; exact hlt)⟩
    obtain ⟨t1, ht1⟩ : ∃ t, sv1[i]? = some t := ⟨_, List.getElem?_eq_getElem (by rw [hM1.svl]; exact hlt)⟩
    generalize hX : (⟨tb, 39, l⟩ :: (L0 ++ (L1 ++ (co0 ++ (Db0 ++ (co1 ++ Db1)))))) ++ (co ++ (Db ++ F)) = X at H ih
    have hx : ∀ (c : Chunk) {P Q : List Chunk}, True := fun _ _ _ => trivial
    have hin : ∀ c ∈ co, c ∈ X := fun c hc => by rw [← hX]; simp [hc]
    have hin2 : ∀ c ∈ Db, c ∈ X := fun c hc => by rw [← hX]; simp [hc]
    have hin3 : ∀ c ∈ co1, c ∈ X := fun c hc => by rw [← hX]; simp [hc]
    have hin4 : ∀ c ∈ Db1, c ∈ X := fun c hc => by rw [← hX]; simp [hc]
    refine ix1_rd (RdL.rd (hM.sl.rdL hin) H.drew) ht ?_
    have hX0 : X[0]? = some ⟨tb, 39, l⟩ := by rw [← hX]; rfl
    try simp only [pv_some, nilO_ptr, faO_mk, gd_yes, gd_no, gd_yes', gd_no', cnd_true, cnd_false, pick_true, pick_false, not_bool, bin_add, bin_sub, bin_mul, bin_eql, bin_neq, bin_lss, bin_leq, bin_gtr, bin_geq, ext0, ext1, ext2, lenS_mk, eqNil_none, eqNil_some, neNil_none, neNil_some, ret_k, mem, Nat.zero_add, Nat.add_zero, Nat.mul_one, drewV, Bool.not_true, Bool.not_false]
    refine ld_h H.drew 0 hX0 l9 ?_
    refine ix1_rd (RdL.rd (hM1.sl.rdL hin3) H.drew) ht1 ?_
    have hlen := h200 ys (List.mem_of_getElem? hys)
    refine cal_h (Equal_spec H.drew ((hM.dat i ys t hys ht).mono hin2) ((hM1.dat i ys t1 hys ht1).mono hin4) (by omega)) ?_
    rintro e w2 ⟨rfl, H2⟩
    simp only [decide_true, pv_some, nilO_ptr, faO_mk, gd_yes, gd_no, gd_yes', gd_no', cnd_true, cnd_false, pick_true, pick_false, not_bool, bin_add, bin_sub, bin_mul, bin_eql, bin_neq, bin_lss, bin_leq, bin_gtr, bin_geq, ext0, ext1, ext2, lenS_mk, eqNil_none, eqNil_some, neNil_none, neNil_some, ret_k, mem, Nat.zero_add, Nat.add_zero, Nat.mul_one, drewV, Bool.not_true, Bool.not_false]
    rw [wrap64_id (by omega) (by omega), show (i : Int) + 1 = ((i + 1 : Nat) : Int) from by omega]
    exact ih (i + 1) w2 (by omega) H2
theorem LinksDelivered_walk {a b c d : Int} {x1 : Value} {xss : List (List Int)} {xsv : List Value} (hx : ArgS w0 x1 xss xsv) (H : Hp w0 w F) :
    Calls Pg 7 ⟨[.agg ⟨[I a, I b, I c, I d]⟩, x1]⟩ w (TrueQ w0 F) := by
  apply orpimentlaw35_LinksDelivered_calls
  unfold orpimentlaw35_LinksDelivered
  refine bxa_h H fun w1 cb H1 => ?_
  refine ldA_h H1 0 rfl rfl ?_
  refine cal_h (begin_spec H1) ?_
  rintro e w2 ⟨tb, b0, b1, r0, r1, L0, L1, L2, L3, rfl, H2, hL0, hL1, hL2, hL3⟩
  simp only [pv_some, nilO_ptr, faO_mk, gd_yes, gd_no, gd_yes', gd_no', cnd_true, cnd_false, pick_true, pick_false, not_bool, bin_add, bin_sub, bin_mul, bin_eql, bin_neq, bin_lss, bin_leq, bin_gtr, bin_geq, ext0, ext1, ext2, lenS_mk, eqNil_none, eqNil_some, neNil_none, neNil_some, ret_k, mem, Nat.zero_add, Nat.add_zero, Nat.mul_one, drewV, Bool.not_true, Bool.not_false]
  unfold orpimentlaw35_LinksDelivered_j1
  have hxl : lenS x1 = some (I (xss.length : Int)) := lenS_rdL (w0 := w0) (L := []) (.inl hx.rd)
  simp only [hxl, pv_some, nilO_ptr, faO_mk, gd_yes, gd_no, gd_yes', gd_no', cnd_true, cnd_false, pick_true, pick_false, not_bool, bin_add, bin_sub, bin_mul, bin_eql, bin_neq, bin_lss, bin_leq, bin_gtr, bin_geq, ext0, ext1, ext2, lenS_mk, eqNil_none, eqNil_some, neNil_none, neNil_some, ret_k, mem, Nat.zero_add, Nat.add_zero, Nat.mul_one, drewV, Bool.not_true, Bool.not_false]
  refine cnd_decide (fun h => ?_) (fun h => ?_)
  · refine cal_h (awake_spec H2) ?_
    rintro e w3 ⟨rfl, H3⟩
    exact ⟨rfl, H3.to (by intro f; simp only [I, U8, U64, ptr, List.set_cons_zero, List.set_cons_succ, List.eraseIdx_cons_zero, List.eraseIdx_cons_succ, List.map_append, List.map_cons, List.map_nil, List.sum_append, List.sum_cons, List.sum_nil]; omega)⟩
  unfold orpimentlaw35_LinksDelivered_j2 orpimentlaw35_LinksDelivered_j10
  simp only [hxl, pv_some, nilO_ptr, faO_mk, gd_yes, gd_no, gd_yes', gd_no', cnd_true, cnd_false, pick_true, pick_false, not_bool, bin_add, bin_sub, bin_mul, bin_eql, bin_neq, bin_lss, bin_leq, bin_gtr, bin_geq, ext0, ext1, ext2, lenS_mk, eqNil_none, eqNil_some, neNil_none, neNil_some, ret_k, mem, Nat.zero_add, Nat.add_zero, Nat.mul_one, drewV, Bool.not_true, Bool.not_false]
  unfold orpimentlaw35_LinksDelivered_j11
  refine ⟨xss.length + 1, ?_⟩
  generalize htk : tkc b0 b1 r0 r1 nilS (I 0) nilS nilS nilS nilS = tk at H2
  have hl0 : tk[0]? = some (ptr b0 0) := by rw [← htk]; rfl
  have hl1 : tk[1]? = some (ptr b1 0) := by rw [← htk]; rfl
  have hl5 : tk[5]? = some (I 0) := by rw [← htk]; rfl
  have hl8 : tk[8]? = some nilS := by rw [← htk]; rfl
  have hl9 : tk[9]? = some nilS := by rw [← htk]; rfl
  have hll : tk.length = 10 := by rw [← htk]; rfl
  have hW := cf_W a
  have hS : 32 ≤ cfS b ∧ cfS b ≤ 4096 := by unfold cfS; omega
  have hT : 1 ≤ cfT d ∧ cfT d ≤ 30 := by unfold cfT; omega
  have hI0 : LInv 0 (cfM a b c d) := inv_new (q := cfQ c) hW.1 (by omega) hS ⟨hT.1, by omega⟩
  have e0 : sndM (cfM a b c d) [] = cfM a b c d := rfl
  have H2' : Hp w0 w2 (⟨tb, 39, tk⟩ :: (L0 ++ ([] ++ ([] ++ (L1 ++ F))))) := H2.to (by intro f; simp only [I, U8, U64, ptr, List.set_cons_zero, List.set_cons_succ, List.eraseIdx_cons_zero, List.eraseIdx_cons_succ, List.map_append, List.map_cons, List.map_nil, List.sum_append, List.sum_cons, List.sum_nil]; omega)
  refine dl_loop (F := L1 ++ F) hx rfl (by omega) hl0 (fun w3 s7 L0' co Db sv H3 hL0' hI3 hM3 => ?_) xss.length 0 w2 [] _ L0 [] [] [] (by omega) rfl (by rw [e0]; exact hI0) (by rw [e0]; exact hL0) MsgP.nil H2'
  generalize hms : xss.map cut200 = ms at hL0' hI3 hM3
  have hml : ms.length = xss.length := by rw [← hms]; simp
  have h200 : ∀ x ∈ ms, x.length ≤ 200 := by
    intro x hx; rw [← hms] at hx
    obtain ⟨y, _, rfl⟩ := List.mem_map.1 hx
    unfold cut200; simp; omega
  have hsz : 8 ≤ ((cfM a b c d).size - 24).toNat := by
    have : (cfM a b c d).size = cfS b := rfl
    rw [this]; omega
  obtain ⟨u1, u2, u3, u4⟩ := usOf_law hsz ms 1 (by omega) (by omega) h200
  have hde : De (List.replicate (cfW a).toNat true) (sndM (cfM a b c d) ms) (cfM a b c d) 0 :=
    { aup := rfl, bup := rfl, ul := by simp; omega, une := useI_true _ 0 (by omega), at_ := by simp [timeE, sndM, cfM, newM], bt := by simp [timeE, cfM, newM], atu := by simp [sndM, cfM, newM], aa := rfl, ba := rfl, bus := rfl, ok := u1 }
  obtain ⟨A', B', c', s1, s2, s3, s4, s5⟩ := settle_law 80 _ _ 0 [] [] hde (by omega) (by show (usOf _ 1 ms).length ≤ _; omega)
  have hv : vsU (cfM a b c d).part (sndM (cfM a b c d) ms).us = ms := u2
  have hd' : A'.done = ms.length := by
    rw [s5]
    show lastDone 0 (usOf _ 1 ms) = _
    have := u3
    simp only [Int.sub_self] at this
    rw [this]; omega
  rw [hv, List.nil_append] at s1
  unfold orpimentlaw35_LinksDelivered_j3 orpimentlaw35_LinksDelivered_j9
  have hTk : Tk w0 tb b0 b1 tk (sndM (cfM a b c d) ms) (cfM a b c d) 0 [] [] (⟨tb, 39, tk⟩ :: (L0' ++ (L1 ++ ([] ++ ([] ++ ([] ++ [])))))) :=
    ⟨L0', L1, nilS, nilS, [], [], [], [], [], [], hL0', hL1, MsgP.nil, MsgP.nil, hll, hl0, hl1, hl5, hl8, hl9, rfl⟩
  have H3' : Hp w0 w3 ((⟨tb, 39, tk⟩ :: (L0' ++ (L1 ++ ([] ++ ([] ++ ([] ++ [])))))) ++ (co ++ (Db ++ F))) := H3.to (by intro f; simp only [I, U8, U64, ptr, List.set_cons_zero, List.set_cons_succ, List.eraseIdx_cons_zero, List.eraseIdx_cons_succ, List.map_append, List.map_cons, List.map_nil, List.sum_append, List.sum_cons, List.sum_nil]; omega)
  refine cal_h (settle_spec (d := 80) (n := 12) H3' hTk (by omega) (by omega) (hI3.mono (by omega)) (hI0.mono (by omega)) (by simp) (by simp) (by omega) s1) ?_
  rintro e w4 ⟨l', L', rfl, H4, hT', i1, i2⟩
  have hT0 := hT'
  obtain ⟨M0, M1, g0, g1, co0, Db0, sv0, co1, Db1, sv1, hN0, hN1, hM0, hM1, hl', m0, m1, m5, m8, m9, rfl⟩ := hT'
  have e80 : ixA 2 1 (ptr tb 8) (.int .i64 0) = some (ptr tb 8) := ixA_mk (j := 0) (by decide)
  have e81 : ixA 2 1 (ptr tb 8) (.int .i64 1) = some (ptr tb 9) := ixA_mk (j := 1) (by decide)
  have e00 : ixA 2 1 (ptr tb 0) (.int .i64 0) = some (ptr tb 0) := ixA_mk (j := 0) (by decide)
  simp only [e80, e81, e00, hxl, pv_some, nilO_ptr, faO_mk, gd_yes, gd_no, gd_yes', gd_no', cnd_true, cnd_false, pick_true, pick_false, not_bool, bin_add, bin_sub, bin_mul, bin_eql, bin_neq, bin_lss, bin_leq, bin_gtr, bin_geq, ext0, ext1, ext2, lenS_mk, eqNil_none, eqNil_some, neNil_none, neNil_some, ret_k, mem, Nat.zero_add, Nat.add_zero, Nat.mul_one, drewV, Bool.not_true, Bool.not_false]
  refine ld_h H4 0 rfl m9 ?_
  have hg1 := lenS_sl hM1.sl
  have hg0 := lenS_sl hM0.sl
  rw [hml] at hg1
  simp only [hg1, ne_eq, not_true_eq_false, decide_false, pv_some, nilO_ptr, faO_mk, gd_yes, gd_no, gd_yes', gd_no', cnd_true, cnd_false, pick_true, pick_false, not_bool, bin_add, bin_sub, bin_mul, bin_eql, bin_neq, bin_lss, bin_leq, bin_gtr, bin_geq, ext0, ext1, ext2, lenS_mk, eqNil_none, eqNil_some, neNil_none, neNil_some, ret_k, mem, Nat.zero_add, Nat.add_zero, Nat.mul_one, drewV, Bool.not_true, Bool.not_false]
  refine ld_h H4 0 rfl m8 ?_
  simp only [hg0, pv_some, nilO_ptr, faO_mk, gd_yes, gd_no, gd_yes', gd_no', cnd_true, cnd_false, pick_true, pick_false, not_bool, bin_add, bin_sub, bin_mul, bin_eql, bin_neq, bin_lss, bin_leq, bin_gtr, bin_geq, ext0, ext1, ext2, lenS_mk, eqNil_none, eqNil_some, neNil_none, neNil_some, ret_k, mem, Nat.zero_add, Nat.add_zero, Nat.mul_one, drewV, Bool.not_true, Bool.not_false]
  simp only [show decide ((0 : Int) < (([] : List (List Int)).length : Int)) = false from rfl, pv_some, nilO_ptr, faO_mk, gd_yes, gd_no, gd_yes', gd_no', cnd_true, cnd_false, pick_true, pick_false, not_bool, bin_add, bin_sub, bin_mul, bin_eql, bin_neq, bin_lss, bin_leq, bin_gtr, bin_geq, ext0, ext1, ext2, lenS_mk, eqNil_none, eqNil_some, neNil_none, neNil_some, ret_k, mem, Nat.zero_add, Nat.add_zero, Nat.mul_one, drewV, Bool.not_true, Bool.not_false]
  refine ld_h H4 0 rfl m0 ?_
  have H4' : Hp w0 w4 (M0 ++ (⟨tb, 39, l'⟩ :: (M1 ++ (co0 ++ (Db0 ++ (co1 ++ (Db1 ++ (co ++ (Db ++ F))))))))) := H4.to (by intro f; simp only [I, U8, U64, ptr, List.set_cons_zero, List.set_cons_succ, List.eraseIdx_cons_zero, List.eraseIdx_cons_succ, List.map_append, List.map_cons, List.map_nil, List.sum_append, List.sum_cons, List.sum_nil]; omega)
  refine cal_h (Ack_spec H4' hN0) ?_
  rintro e w5 ⟨rfl, H5⟩
  rw [hd', hml]
  simp only [hxl, e00, ne_eq, not_true_eq_false, decide_false, pv_some, nilO_ptr, faO_mk, gd_yes, gd_no, gd_yes', gd_no', cnd_true, cnd_false, pick_true, pick_false, not_bool, bin_add, bin_sub, bin_mul, bin_eql, bin_neq, bin_lss, bin_leq, bin_gtr, bin_geq, ext0, ext1, ext2, lenS_mk, eqNil_none, eqNil_some, neNil_none, neNil_some, ret_k, mem, Nat.zero_add, Nat.add_zero, Nat.mul_one, drewV, Bool.not_true, Bool.not_false]
  try simp only [hxl, e00, ne_eq, not_true_eq_false, decide_false, pv_some, nilO_ptr, faO_mk, gd_yes, gd_no, gd_yes', gd_no', cnd_true, cnd_false, pick_true, pick_false, not_bool, bin_add, bin_sub, bin_mul, bin_eql, bin_neq, bin_lss, bin_leq, bin_gtr, bin_geq, ext0, ext1, ext2, lenS_mk, eqNil_none, eqNil_some, neNil_none, neNil_some, ret_k, mem, Nat.zero_add, Nat.add_zero, Nat.mul_one, drewV, Bool.not_true, Bool.not_false]
  have H5' : Hp w0 w5 (⟨tb, 39, l'⟩ :: (M0 ++ (M1 ++ (co0 ++ (Db0 ++ (co1 ++ (Db1 ++ (co ++ (Db ++ F))))))))) := H5.to (by intro f; simp only [I, U8, U64, ptr, List.set_cons_zero, List.set_cons_succ, List.eraseIdx_cons_zero, List.eraseIdx_cons_succ, List.map_append, List.map_cons, List.map_nil, List.sum_append, List.sum_cons, List.sum_nil]; omega)
  refine ld_h H5' 0 rfl m0 ?_
  refine cal_h (BrokenQ_spec H5 hN0) ?_
  rintro e w6 ⟨rfl, H6⟩
  simp only [s4, pv_some, nilO_ptr, faO_mk, gd_yes, gd_no, gd_yes', gd_no', cnd_true, cnd_false, pick_true, pick_false, not_bool, bin_add, bin_sub, bin_mul, bin_eql, bin_neq, bin_lss, bin_leq, bin_gtr, bin_geq, ext0, ext1, ext2, lenS_mk, eqNil_none, eqNil_some, neNil_none, neNil_some, ret_k, mem, Nat.zero_add, Nat.add_zero, Nat.mul_one, drewV, Bool.not_true, Bool.not_false]
  unfold orpimentlaw35_LinksDelivered_j4 orpimentlaw35_LinksDelivered_j6
  simp only [hxl, pv_some, nilO_ptr, faO_mk, gd_yes, gd_no, gd_yes', gd_no', cnd_true, cnd_false, pick_true, pick_false, not_bool, bin_add, bin_sub, bin_mul, bin_eql, bin_neq, bin_lss, bin_leq, bin_gtr, bin_geq, ext0, ext1, ext2, lenS_mk, eqNil_none, eqNil_some, neNil_none, neNil_some, ret_k, mem, Nat.zero_add, Nat.add_zero, Nat.mul_one, drewV, Bool.not_true, Bool.not_false]
  unfold orpimentlaw35_LinksDelivered_j7
  have H6' : Hp w0 w6 ((⟨tb, 39, l'⟩ :: (M0 ++ (M1 ++ (co0 ++ (Db0 ++ (co1 ++ Db1)))))) ++ (co ++ (Db ++ F))) := H6.to (by intro f; simp only [I, U8, U64, ptr, List.set_cons_zero, List.set_cons_succ, List.eraseIdx_cons_zero, List.eraseIdx_cons_succ, List.map_append, List.map_cons, List.map_nil, List.sum_append, List.sum_cons, List.sum_nil]; omega)
  refine ⟨xss.length + 1, dl_cmp (F := F) hml (by omega) h200 hM3 hT0 (fun w7 H7 => ?_) xss.length 0 w6 (by omega) H6'⟩
  unfold orpimentlaw35_LinksDelivered_j5
  simp only [e00, pv_some, nilO_ptr, faO_mk, gd_yes, gd_no, gd_yes', gd_no', cnd_true, cnd_false, pick_true, pick_false, not_bool, bin_add, bin_sub, bin_mul, bin_eql, bin_neq, bin_lss, bin_leq, bin_gtr, bin_geq, ext0, ext1, ext2, lenS_mk, eqNil_none, eqNil_some, neNil_none, neNil_some, ret_k, mem, Nat.zero_add, Nat.add_zero, Nat.mul_one, drewV, Bool.not_true, Bool.not_false]
  refine ld_h H7 0 rfl m0 ?_
  have H7' : Hp w0 w7 (M0 ++ (⟨tb, 39, l'⟩ :: (M1 ++ (co0 ++ (Db0 ++ (co1 ++ (Db1 ++ (co ++ (Db ++ F))))))))) := H7.to (by intro f; simp only [I, U8, U64, ptr, List.set_cons_zero, List.set_cons_succ, List.eraseIdx_cons_zero, List.eraseIdx_cons_succ, List.map_append, List.map_cons, List.map_nil, List.sum_append, List.sum_cons, List.sum_nil]; omega)
  have hwf := i1.wf
  have hul := hwf.ul
  have hal := hwf.al
  refine cal_h (Next_spec H7' hN0 (by omega) (fun u hu => by have := hwf.at_ u hu; omega) (by have := hwf.tout; omega) (by omega)) ?_
  rintro e w8 ⟨rfl, H8⟩
  have hn2 : (nextV A').2 = false := by
    have hp : pend A' = -1 := by unfold pend; rw [s2]; rfl
    unfold nextV; rw [s4, s3, hp, s2]; rfl
  simp only [hn2, pv_some, nilO_ptr, faO_mk, gd_yes, gd_no, gd_yes', gd_no', cnd_true, cnd_false, pick_true, pick_false, not_bool, bin_add, bin_sub, bin_mul, bin_eql, bin_neq, bin_lss, bin_leq, bin_gtr, bin_geq, ext0, ext1, ext2, lenS_mk, eqNil_none, eqNil_some, neNil_none, neNil_some, ret_k, mem, Nat.zero_add, Nat.add_zero, Nat.mul_one, drewV, Bool.not_true, Bool.not_false]
  refine cal_h (awake_spec H8) ?_
  rintro e w9 ⟨rfl, H9⟩
  simp only [pv_some, nilO_ptr, faO_mk, gd_yes, gd_no, gd_yes', gd_no', cnd_true, cnd_false, pick_true, pick_false, not_bool, bin_add, bin_sub, bin_mul, bin_eql, bin_neq, bin_lss, bin_leq, bin_gtr, bin_geq, ext0, ext1, ext2, lenS_mk, eqNil_none, eqNil_some, neNil_none, neNil_some, ret_k, mem, Nat.zero_add, Nat.add_zero, Nat.mul_one, drewV, Bool.not_true, Bool.not_false]
  exact ⟨rfl, H9.to (by intro f; simp only [I, U8, U64, ptr, List.set_cons_zero, List.set_cons_succ, List.eraseIdx_cons_zero, List.eraseIdx_cons_succ, List.map_append, List.map_cons, List.map_nil, List.sum_append, List.sum_cons, List.sum_nil]; omega)⟩
end
end Go.Proofs.Ytmnpndgmfmjfhaa.Den
