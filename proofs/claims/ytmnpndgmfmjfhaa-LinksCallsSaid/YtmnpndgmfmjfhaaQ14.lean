/- Links: the reference's acknowledge. Conditions: none. -/
import Derived.Test.YtmnpndgmfmjfhaaQ13
section
set_option linter.unusedVariables false
set_option linter.unusedSimpArgs false
set_option maxRecDepth 8000
namespace Go.Proofs.Ytmnpndgmfmjfhaa.Den
open Go Go.RowKit
def ltP (a b : Int × Int) : Prop := a.1 < b.1 ∨ a.1 = b.1 ∧ a.2 < b.2
instance (a b : Int × Int) : Decidable (ltP a b) := by unfold ltP; infer_instance
theorem nxt_ltP (u : UM) : ltP (u.m, u.f) (nxt u) := by
  unfold nxt; split
  · exact .inl (show u.m < u.m + 1 by omega)
  · exact .inr ⟨rfl, show u.f < u.f + 1 by omega⟩
theorem ltP_trans {a b c : Int × Int} (h1 : ltP a b) (h2 : ltP b c) : ltP a c := by
  unfold ltP at *; omega
theorem ltP_irr {a : Int × Int} : ¬ ltP a a := by unfold ltP; omega
theorem ltP_tot {a b : Int × Int} (h1 : ¬ ltP a b) (h2 : ¬ ltP b a) : a = b := by
  unfold ltP at *
  exact Prod.ext (by omega) (by omega)
theorem chn_gt : ∀ {r : List UM} {u : UM}, Chn (u :: r) → ∀ v ∈ r, ltP (nxt u) (nxt v)
  | [], u, _, v, h => by simp at h
  | w :: r, u, hc, v, h => by
    have h1 : nxt u = (w.m, w.f) := hc.1
    rcases List.mem_cons.1 h with rfl | h
    · rw [h1]; exact nxt_ltP v
    · rw [h1]; exact ltP_trans (nxt_ltP w) (chn_gt hc.2 v h)
/-- The unit that an acknowledgment names, if it was sent. -/
def aO (p : Int × Int) : List UM → Option Nat
  | [] => none
  | u :: r => if p = nxt u then (if u.at_ < 0 then none else some 0) else (aO p r).map (· + 1)
/-- How many units in front were sent and stand before. -/
def cN (p : Int × Int) : List UM → Nat
  | [] => 0
  | u :: r => if 0 ≤ u.at_ ∧ ltP (u.m, u.f) p then cN p r + 1 else 0
theorem aO_none {p : Int × Int} : ∀ {us : List UM}, (∀ u ∈ us, p = nxt u → u.at_ < 0) → aO p us = none
  | [], _ => rfl
  | u :: r, h => by
    unfold aO
    by_cases hp : p = nxt u
    · rw [if_pos hp, if_pos (h u (by simp) hp)]
    · rw [if_neg hp, aO_none fun v hv => h v (by simp [hv])]; rfl
theorem cN_le {p : Int × Int} : ∀ (us : List UM), cN p us ≤ us.length
  | [] => Nat.le_refl _
  | u :: r => by
    unfold cN
    split
    · have := cN_le (p := p) r; simp; omega
    · exact Nat.zero_le _
theorem cN_in {p : Int × Int} : ∀ {us : List UM} {j : Nat} {u : UM}, j < cN p us → us[j]? = some u → 0 ≤ u.at_ ∧ ltP (u.m, u.f) p
  | [], j, u, h, _ => by simp [cN] at h
  | v :: r, j, u, h, hu => by
    unfold cN at h
    split at h
    · rename_i hv
      cases j with
      | zero => simp at hu; subst hu; exact hv
      | succ j => exact cN_in (us := r) (j := j) (by omega) (by simpa using hu)
    · omega
theorem cN_out {p : Int × Int} : ∀ {us : List UM} {u : UM}, us[cN p us]? = some u → ¬ (0 ≤ u.at_ ∧ ltP (u.m, u.f) p)
  | [], u, h => by simp at h
  | v :: r, u, h => by
    unfold cN at h
    split at h
    · exact cN_out (by simpa using h)
    · rename_i hv
      simp at h; subst h; exact hv
theorem aO_cN {p : Int × Int} : ∀ {us : List UM}, Chn us → Pre us → (cN p us = 0 → aO p us = none) ∧ (∀ n u, cN p us = n + 1 → us[n]? = some u → aO p us = if p = nxt u then some n else none)
  | [], _, _ => ⟨fun _ => rfl, fun n u h => by simp [cN] at h⟩
  | u :: r, hc, hp => by
    obtain ⟨i1, i2⟩ := aO_cN (p := p) (us := r) hc.2 hp.2
    by_cases h1 : 0 ≤ u.at_ ∧ ltP (u.m, u.f) p
    · have e : cN p (u :: r) = cN p r + 1 := by rw [cN, if_pos h1]
      rw [e]
      refine ⟨fun h => by omega, fun n v hn hv => ?_⟩
      have hn' : n = cN p r := by omega
      subst hn'
      by_cases h2 : p = nxt u
      · have hz : cN p r = 0 := by
          cases r with
          | nil => rfl
          | cons w r =>
            rw [cN, if_neg]
            rintro ⟨_, h⟩
            rw [h2, show nxt u = (w.m, w.f) from hc.1] at h
            exact ltP_irr h
        rw [hz] at hv ⊢
        simp at hv; subst hv
        rw [aO, if_pos h2, if_neg (by omega), if_pos h2]
      · rw [aO, if_neg h2]
        cases hr : cN p r with
        | zero =>
          rw [hr] at hv
          simp at hv; subst hv
          rw [i1 hr, if_neg h2]; rfl
        | succ k =>
          rw [hr] at hv
          rw [i2 k v hr (by simpa using hv)]
          split <;> rfl
    · have e : cN p (u :: r) = 0 := by rw [cN, if_neg h1]
      rw [e]
      refine ⟨fun _ => aO_none fun v hv hpv => ?_, fun n v hn => by omega⟩
      by_cases hu : u.at_ < 0
      · rcases List.mem_cons.1 hv with rfl | hv
        · exact hu
        · exact hp.1 hu v hv
      · have h3 : ¬ ltP (u.m, u.f) p := fun h => h1 ⟨by omega, h⟩
        rcases List.mem_cons.1 hv with rfl | hv
        · exact absurd (hpv ▸ nxt_ltP v) h3
        · exact absurd (hpv ▸ ltP_trans (nxt_ltP u) (chn_gt hc v hv)) h3
theorem ackP_nxt {fm ff : Int} {u : UM} (h1 : 0 ≤ u.m ∧ u.m < 2 ^ 62) (h2 : 0 ≤ u.f ∧ u.f < 2 ^ 62) : ackP fm ff u = decide ((fm, ff) = nxt u) := by
  unfold ackP nxt
  rw [wrap64_id (by omega) (by omega), wrap64_id (by omega) (by omega)]
  split <;> simp
def dropN (M : LM) (i : Nat) : LM := { M with done := lastDone M.done (M.us.take (i + 1)), us := M.us.drop (i + 1), repeats := 0 }
theorem ackM_aO {M : LM} {fm ff : Int} (hr : ∀ u ∈ M.us, (0 ≤ u.m ∧ u.m < 2 ^ 62) ∧ 0 ≤ u.f ∧ u.f < 2 ^ 62) : ackM M fm ff = match aO (fm, ff) M.us with | none => M | some i => dropN M i := by
  have key : ∀ us : List UM, (∀ u ∈ us, (0 ≤ u.m ∧ u.m < 2 ^ 62) ∧ 0 ≤ u.f ∧ u.f < 2 ^ 62) → aO (fm, ff) us = match us.findIdx? (ackP fm ff) with | none => none | some i => match us[i]? with | none => none | some u => if u.at_ < 0 then none else some i := by
    intro us
    induction us with
    | nil => intro _; rfl
    | cons u r ih =>
      intro h
      have hu := h u (by simp)
      rw [List.findIdx?_cons, ackP_nxt hu.1 hu.2, aO]
      by_cases hp : (fm, ff) = nxt u
      · rw [if_pos hp, decide_eq_true hp]; rfl
      · rw [if_neg hp, decide_eq_false hp, ih fun v hv => h v (by simp [hv])]
        cases r.findIdx? (ackP fm ff) with
        | none => rfl
        | some i =>
          simp only [Bool.false_eq_true, if_false, Option.map_some, List.getElem?_cons_succ]
          cases r[i]? with
          | none => rfl
          | some v => simp only; split <;> rfl
  rw [key M.us hr]
  unfold ackM
  cases M.us.findIdx? (ackP fm ff) with
  | none => rfl
  | some i =>
    simp only
    cases M.us[i]? with
    | none => rfl
    | some u => simp only; split <;> rfl
section
variable {w w' : World} {w0 : Base} {F L : List Chunk} {R : ER}
theorem behind_spec {a b c d : Int} (H : Hp w0 w L) : Calls Pg 74 ⟨[I a, I b, I c, I d]⟩ w fun e w' => e = .returned (.bool (decide (ltP (c, d) (a, b)))) ∧ Hp w0 w' L := by
  apply F74_calls
  unfold F74
  simp only [pv_some, nilO_ptr, faO_mk, gd_yes, gd_no, gd_yes', gd_no', cnd_true, cnd_false, pick_true, pick_false, not_bool, bin_add, bin_sub, bin_mul, bin_eql, bin_neq, bin_lss, bin_leq, bin_gtr, bin_geq, ext0, ext1, ext2, lenS_mk, eqNil_none, eqNil_some, neNil_none, neNil_some, ret_k, mem, Nat.zero_add, Nat.add_zero, Nat.mul_one, drewV, Bool.not_true, Bool.not_false]
  by_cases h1 : c < a
  · simp only [decide_eq_true h1, pv_some, nilO_ptr, faO_mk, gd_yes, gd_no, gd_yes', gd_no', cnd_true, cnd_false, pick_true, pick_false, not_bool, bin_add, bin_sub, bin_mul, bin_eql, bin_neq, bin_lss, bin_leq, bin_gtr, bin_geq, ext0, ext1, ext2, lenS_mk, eqNil_none, eqNil_some, neNil_none, neNil_some, ret_k, mem, Nat.zero_add, Nat.add_zero, Nat.mul_one, drewV, Bool.not_true, Bool.not_false]
    exact ⟨by rw [decide_eq_true (show ltP (c, d) (a, b) from .inl h1)], H⟩
  simp only [decide_eq_false h1, pv_some, nilO_ptr, faO_mk, gd_yes, gd_no, gd_yes', gd_no', cnd_true, cnd_false, pick_true, pick_false, not_bool, bin_add, bin_sub, bin_mul, bin_eql, bin_neq, bin_lss, bin_leq, bin_gtr, bin_geq, ext0, ext1, ext2, lenS_mk, eqNil_none, eqNil_some, neNil_none, neNil_some, ret_k, mem, Nat.zero_add, Nat.add_zero, Nat.mul_one, drewV, Bool.not_true, Bool.not_false]
  by_cases h2 : a = c
  · simp only [decide_eq_true h2, pv_some, nilO_ptr, faO_mk, gd_yes, gd_no, gd_yes', gd_no', cnd_true, cnd_false, pick_true, pick_false, not_bool, bin_add, bin_sub, bin_mul, bin_eql, bin_neq, bin_lss, bin_leq, bin_gtr, bin_geq, ext0, ext1, ext2, lenS_mk, eqNil_none, eqNil_some, neNil_none, neNil_some, ret_k, mem, Nat.zero_add, Nat.add_zero, Nat.mul_one, drewV, Bool.not_true, Bool.not_false]
    refine ⟨?_, H⟩
    congr 3
    unfold ltP
    refine propext ?_
    simp only
    omega
  · simp only [decide_eq_false h2, pv_some, nilO_ptr, faO_mk, gd_yes, gd_no, gd_yes', gd_no', cnd_true, cnd_false, pick_true, pick_false, not_bool, bin_add, bin_sub, bin_mul, bin_eql, bin_neq, bin_lss, bin_leq, bin_gtr, bin_geq, ext0, ext1, ext2, lenS_mk, eqNil_none, eqNil_some, neNil_none, neNil_some, ret_k, mem, Nat.zero_add, Nat.add_zero, Nat.mul_one, drewV, Bool.not_true, Bool.not_false]
    exact ⟨by rw [decide_eq_false (show ¬ ltP (c, d) (a, b) from fun h => by unfold ltP at h; simp only at h; omega)], H⟩
/-- The loop over what is acknowledged. -/
theorem rack_l {b bu cap n : Nat} {M : LM} {su sp sa : Value} {us : List UM} {sv rest : List Value} (hsv : sv.length = us.length) (hn : n ≤ us.length) (hnb : n < 2 ^ 60)
    (kk : ∀ w', Hp w0 w' (⟨b, 125, rlc { M with done := lastDone M.done (us.take n) } su (.slice (some ⟨bu, 0, none⟩) us.length cap) sp sa⟩ :: ⟨bu, 141, ucells us sv ++ rest⟩ :: F) → F67_j5 R (ptr b 0) (I (n : Int)) w') :
    ∀ (d i : Nat) (w : World), i + d = n → Hp w0 w (⟨b, 125, rlc { M with done := lastDone M.done (us.take i) } su (.slice (some ⟨bu, 0, none⟩) us.length cap) sp sa⟩ :: ⟨bu, 141, ucells us sv ++ rest⟩ :: F) →
      F67_l1 R (d + 1) (ptr b 0) (I (n : Int)) (I (i : Int)) w := by
  intro d
  induction d with
  | zero =>
    intro i w hi H
    rw [F67_l1_succ]
    unfold F67_b1
    simp only [pv_some, nilO_ptr, faO_mk, gd_yes, gd_no, gd_yes', gd_no', cnd_true, cnd_false, pick_true, pick_false, not_bool, bin_add, bin_sub, bin_mul, bin_eql, bin_neq, bin_lss, bin_leq, bin_gtr, bin_geq, ext0, ext1, ext2, lenS_mk, eqNil_none, eqNil_some, neNil_none, neNil_some, ret_k, mem, Nat.zero_add, Nat.add_zero, Nat.mul_one, drewV, Bool.not_true, Bool.not_false, show decide ((i : Int) < (n : Int)) = false from decide_eq_false (by omega)]
    have : i = n := by omega
    subst this
    exact kk w H
  | succ d ih =>
    intro i w hi H
    rw [F67_l1_succ]
    unfold F67_b1
    simp only [pv_some, nilO_ptr, faO_mk, gd_yes, gd_no, gd_yes', gd_no', cnd_true, cnd_false, pick_true, pick_false, not_bool, bin_add, bin_sub, bin_mul, bin_eql, bin_neq, bin_lss, bin_leq, bin_gtr, bin_geq, ext0, ext1, ext2, lenS_mk, eqNil_none, eqNil_some, neNil_none, neNil_some, ret_k, mem, Nat.zero_add, Nat.add_zero, Nat.mul_one, drewV, Bool.not_true, Bool.not_false, show decide ((i : Int) < (n : Int)) = true from decide_eq_true (by omega)]
    unfold F67_j8 F67_j10
    simp only [pv_some, nilO_ptr, faO_mk, gd_yes, gd_no, gd_yes', gd_no', cnd_true, cnd_false, pick_true, pick_false, not_bool, bin_add, bin_sub, bin_mul, bin_eql, bin_neq, bin_lss, bin_leq, bin_gtr, bin_geq, ext0, ext1, ext2, lenS_mk, eqNil_none, eqNil_some, neNil_none, neNil_some, ret_k, mem, Nat.zero_add, Nat.add_zero, Nat.mul_one, drewV, Bool.not_true, Bool.not_false]
    refine ld_h H 0 rfl rfl ?_
    rw [ixS_mk (by omega)]
    simp only [pv_some, nilO_ptr, faO_mk, gd_yes, gd_no, gd_yes', gd_no', cnd_true, cnd_false, pick_true, pick_false, not_bool, bin_add, bin_sub, bin_mul, bin_eql, bin_neq, bin_lss, bin_leq, bin_gtr, bin_geq, ext0, ext1, ext2, lenS_mk, eqNil_none, eqNil_some, neNil_none, neNil_some, ret_k, mem, Nat.zero_add, Nat.add_zero, Nat.mul_one, drewV, Bool.not_true, Bool.not_false]
    have hlt : i < us.length := by omega
    obtain ⟨u, hu⟩ : ∃ u, us[i]? = some u := ⟨_, List.getElem?_eq_getElem hlt⟩
    obtain ⟨s, hs⟩ : ∃ s, sv[i]? = some s := ⟨_, List.getElem?_eq_getElem (by omega)⟩
    have cell : ∀ j v, j < 6 → (ucell u s)[j]? = some v → (ucells us sv ++ rest)[i * 6 + j]? = some v := fun j v hj hv => get_left (by rw [ucells_get hu hs hj]; exact hv)
    refine ld_h H 1 rfl (cell 1 _ (by omega) rfl) ?_
    have hd : lastDone M.done (us.take (i + 1)) = if u.last then u.m else lastDone M.done (us.take i) := by
      have : us.take (i + 1) = us.take i ++ [u] := by rw [List.take_add_one, hu]; rfl
      unfold lastDone
      rw [this, List.foldl_append]; rfl
    have next : ∀ {w : World}, Hp w0 w (⟨b, 125, rlc { M with done := lastDone M.done (us.take (i + 1)) } su (.slice (some ⟨bu, 0, none⟩) us.length cap) sp sa⟩ :: ⟨bu, 141, ucells us sv ++ rest⟩ :: F) → F67_j9 R (F67_l1 R (d + 1)) (ptr b 0) (I (n : Int)) (I (i : Int)) w := by
      intro w H
      unfold F67_j9
      simp only [pv_some, nilO_ptr, faO_mk, gd_yes, gd_no, gd_yes', gd_no', cnd_true, cnd_false, pick_true, pick_false, not_bool, bin_add, bin_sub, bin_mul, bin_eql, bin_neq, bin_lss, bin_leq, bin_gtr, bin_geq, ext0, ext1, ext2, lenS_mk, eqNil_none, eqNil_some, neNil_none, neNil_some, ret_k, mem, Nat.zero_add, Nat.add_zero, Nat.mul_one, drewV, Bool.not_true, Bool.not_false]
      rw [wrap64_id (by omega) (by omega), show (i : Int) + 1 = ((i + 1 : Nat) : Int) from by omega]
      exact ih (i + 1) w (by omega) H
    unfold F67_j11
    cases hl : u.last with
    | true =>
      rw [hl] at hd
      simp only [pv_some, nilO_ptr, faO_mk, gd_yes, gd_no, gd_yes', gd_no', cnd_true, cnd_false, pick_true, pick_false, not_bool, bin_add, bin_sub, bin_mul, bin_eql, bin_neq, bin_lss, bin_leq, bin_gtr, bin_geq, ext0, ext1, ext2, lenS_mk, eqNil_none, eqNil_some, neNil_none, neNil_some, ret_k, mem, Nat.zero_add, Nat.add_zero, Nat.mul_one, drewV, Bool.not_true, Bool.not_false]
      unfold F67_j12
      simp only [pv_some, nilO_ptr, faO_mk, gd_yes, gd_no, gd_yes', gd_no', cnd_true, cnd_false, pick_true, pick_false, not_bool, bin_add, bin_sub, bin_mul, bin_eql, bin_neq, bin_lss, bin_leq, bin_gtr, bin_geq, ext0, ext1, ext2, lenS_mk, eqNil_none, eqNil_some, neNil_none, neNil_some, ret_k, mem, Nat.zero_add, Nat.add_zero, Nat.mul_one, drewV, Bool.not_true, Bool.not_false]
      refine ld_h H 0 rfl rfl ?_
      rw [ixS_mk (by omega)]
      simp only [pv_some, nilO_ptr, faO_mk, gd_yes, gd_no, gd_yes', gd_no', cnd_true, cnd_false, pick_true, pick_false, not_bool, bin_add, bin_sub, bin_mul, bin_eql, bin_neq, bin_lss, bin_leq, bin_gtr, bin_geq, ext0, ext1, ext2, lenS_mk, eqNil_none, eqNil_some, neNil_none, neNil_some, ret_k, mem, Nat.zero_add, Nat.add_zero, Nat.mul_one, drewV, Bool.not_true, Bool.not_false]
      refine ld_h H 1 rfl (cell 2 _ (by omega) rfl) ?_
      refine st_h H 0 rfl (by simp [rlc]) rfl fun w3 H3 => ?_
      refine next ?_
      rw [hd]
      exact H3
    | false =>
      rw [hl] at hd
      simp only [pv_some, nilO_ptr, faO_mk, gd_yes, gd_no, gd_yes', gd_no', cnd_true, cnd_false, pick_true, pick_false, not_bool, bin_add, bin_sub, bin_mul, bin_eql, bin_neq, bin_lss, bin_leq, bin_gtr, bin_geq, ext0, ext1, ext2, lenS_mk, eqNil_none, eqNil_some, neNil_none, neNil_some, ret_k, mem, Nat.zero_add, Nat.add_zero, Nat.mul_one, drewV, Bool.not_true, Bool.not_false]
      refine next ?_
      rw [hd]
      exact H
/-- The loop that counts. -/
theorem rcnt_l {b bu cap c : Nat} {M : LM} {su sp sa t : Value} {k m f : Int} {last : Bool} {sv rest : List Value} (hsv : sv.length = M.us.length) (hul : M.us.length < 2 ^ 40)
    (kk : ∀ w', Hp w0 w' (⟨c, 52, frm k last m f t⟩ :: ⟨b, 125, rlc M su (.slice (some ⟨bu, 0, none⟩) M.us.length cap) sp sa⟩ :: ⟨bu, 141, ucells M.us sv ++ rest⟩ :: F) → F67_j1 R (ptr b 0) (ptr c 0) (I (cN (m, f) M.us : Nat)) w') :
    ∀ (d i : Nat) (w : World), i + d = cN (m, f) M.us → Hp w0 w (⟨c, 52, frm k last m f t⟩ :: ⟨b, 125, rlc M su (.slice (some ⟨bu, 0, none⟩) M.us.length cap) sp sa⟩ :: ⟨bu, 141, ucells M.us sv ++ rest⟩ :: F) →
      F67_l2 R (d + 1) (ptr b 0) (ptr c 0) (I (i : Int)) w := by
  have hcl := cN_le (p := (m, f)) M.us
  have one : ∀ (d i : Nat) (w : World), i ≤ cN (m, f) M.us → Hp w0 w (⟨c, 52, frm k last m f t⟩ :: ⟨b, 125, rlc M su (.slice (some ⟨bu, 0, none⟩) M.us.length cap) sp sa⟩ :: ⟨bu, 141, ucells M.us sv ++ rest⟩ :: F) →
      (∀ w, i < cN (m, f) M.us → Hp w0 w (⟨c, 52, frm k last m f t⟩ :: ⟨b, 125, rlc M su (.slice (some ⟨bu, 0, none⟩) M.us.length cap) sp sa⟩ :: ⟨bu, 141, ucells M.us sv ++ rest⟩ :: F) → F67_l2 R d (ptr b 0) (ptr c 0) (I ((i + 1 : Nat) : Int)) w) →
      F67_l2 R (d + 1) (ptr b 0) (ptr c 0) (I (i : Int)) w := by
    intro d i w hi H hk
    rw [F67_l2_succ]
    unfold F67_b2
    have H := H.drew
    simp only [pv_some, nilO_ptr, faO_mk, gd_yes, gd_no, gd_yes', gd_no', cnd_true, cnd_false, pick_true, pick_false, not_bool, bin_add, bin_sub, bin_mul, bin_eql, bin_neq, bin_lss, bin_leq, bin_gtr, bin_geq, ext0, ext1, ext2, lenS_mk, eqNil_none, eqNil_some, neNil_none, neNil_some, ret_k, mem, Nat.zero_add, Nat.add_zero, Nat.mul_one, drewV, Bool.not_true, Bool.not_false]
    refine ld_h H 1 rfl rfl ?_
    simp only [pv_some, nilO_ptr, faO_mk, gd_yes, gd_no, gd_yes', gd_no', cnd_true, cnd_false, pick_true, pick_false, not_bool, bin_add, bin_sub, bin_mul, bin_eql, bin_neq, bin_lss, bin_leq, bin_gtr, bin_geq, ext0, ext1, ext2, lenS_mk, eqNil_none, eqNil_some, neNil_none, neNil_some, ret_k, mem, Nat.zero_add, Nat.add_zero, Nat.mul_one, drewV, Bool.not_true, Bool.not_false]
    have stop : ∀ {w : World}, ¬ i < cN (m, f) M.us → Hp w0 w (⟨c, 52, frm k last m f t⟩ :: ⟨b, 125, rlc M su (.slice (some ⟨bu, 0, none⟩) M.us.length cap) sp sa⟩ :: ⟨bu, 141, ucells M.us sv ++ rest⟩ :: F) → F67_j1 R (ptr b 0) (ptr c 0) (I (i : Int)) w := by
      intro w h H
      have : i = cN (m, f) M.us := by omega
      rw [this]; exact kk w H
    by_cases hlt : i < M.us.length
    rotate_left
    · simp only [decide_eq_false (show ¬ ((i : Int) < (M.us.length : Int)) from by omega), pv_some, nilO_ptr, faO_mk, gd_yes, gd_no, gd_yes', gd_no', cnd_true, cnd_false, pick_true, pick_false, not_bool, bin_add, bin_sub, bin_mul, bin_eql, bin_neq, bin_lss, bin_leq, bin_gtr, bin_geq, ext0, ext1, ext2, lenS_mk, eqNil_none, eqNil_some, neNil_none, neNil_some, ret_k, mem, Nat.zero_add, Nat.add_zero, Nat.mul_one, drewV, Bool.not_true, Bool.not_false]
      exact stop (by omega) H
    simp only [decide_eq_true (show ((i : Int) < (M.us.length : Int)) from by omega), pv_some, nilO_ptr, faO_mk, gd_yes, gd_no, gd_yes', gd_no', cnd_true, cnd_false, pick_true, pick_false, not_bool, bin_add, bin_sub, bin_mul, bin_eql, bin_neq, bin_lss, bin_leq, bin_gtr, bin_geq, ext0, ext1, ext2, lenS_mk, eqNil_none, eqNil_some, neNil_none, neNil_some, ret_k, mem, Nat.zero_add, Nat.add_zero, Nat.mul_one, drewV, Bool.not_true, Bool.not_false]
    obtain ⟨u, hu⟩ : ∃ u, M.us[i]? = some u := ⟨_, List.getElem?_eq_getElem hlt⟩
    obtain ⟨s, hs⟩ : ∃ s, sv[i]? = some s := ⟨_, List.getElem?_eq_getElem (by omega)⟩
    have cell : ∀ j v, j < 6 → (ucell u s)[j]? = some v → (ucells M.us sv ++ rest)[i * 6 + j]? = some v := fun j v hj hv => get_left (by rw [ucells_get hu hs hj]; exact hv)
    have hix : ixS 6 (.slice (some ⟨bu, 0, none⟩) M.us.length cap) (.int .i64 (i : Int)) = some (ptr bu (i * 6)) := by have := ixS_mk (sz := 6) (b := bu) (o := 0) (c := cap) (n := M.us.length) (j := i) (k := .i64) hlt; simpa using this
    refine ld_h H 1 rfl rfl ?_
    simp only [hix, pv_some, nilO_ptr, faO_mk, gd_yes, gd_no, gd_yes', gd_no', cnd_true, cnd_false, pick_true, pick_false, not_bool, bin_add, bin_sub, bin_mul, bin_eql, bin_neq, bin_lss, bin_leq, bin_gtr, bin_geq, ext0, ext1, ext2, lenS_mk, eqNil_none, eqNil_some, neNil_none, neNil_some, ret_k, mem, Nat.zero_add, Nat.add_zero, Nat.mul_one, drewV, Bool.not_true, Bool.not_false]
    refine ld_h H 2 rfl (cell 5 _ (by omega) rfl) ?_
    simp only [pv_some, nilO_ptr, faO_mk, gd_yes, gd_no, gd_yes', gd_no', cnd_true, cnd_false, pick_true, pick_false, not_bool, bin_add, bin_sub, bin_mul, bin_eql, bin_neq, bin_lss, bin_leq, bin_gtr, bin_geq, ext0, ext1, ext2, lenS_mk, eqNil_none, eqNil_some, neNil_none, neNil_some, ret_k, mem, Nat.zero_add, Nat.add_zero, Nat.mul_one, drewV, Bool.not_true, Bool.not_false]
    by_cases hat : 0 ≤ u.at_
    rotate_left
    · simp only [decide_eq_false hat, pv_some, nilO_ptr, faO_mk, gd_yes, gd_no, gd_yes', gd_no', cnd_true, cnd_false, pick_true, pick_false, not_bool, bin_add, bin_sub, bin_mul, bin_eql, bin_neq, bin_lss, bin_leq, bin_gtr, bin_geq, ext0, ext1, ext2, lenS_mk, eqNil_none, eqNil_some, neNil_none, neNil_some, ret_k, mem, Nat.zero_add, Nat.add_zero, Nat.mul_one, drewV, Bool.not_true, Bool.not_false]
      exact stop (fun h => hat (cN_in h hu).1) H
    simp only [decide_eq_true hat, pv_some, nilO_ptr, faO_mk, gd_yes, gd_no, gd_yes', gd_no', cnd_true, cnd_false, pick_true, pick_false, not_bool, bin_add, bin_sub, bin_mul, bin_eql, bin_neq, bin_lss, bin_leq, bin_gtr, bin_geq, ext0, ext1, ext2, lenS_mk, eqNil_none, eqNil_some, neNil_none, neNil_some, ret_k, mem, Nat.zero_add, Nat.add_zero, Nat.mul_one, drewV, Bool.not_true, Bool.not_false]
    refine ld_h H 0 rfl rfl ?_
    refine ld_h H 0 rfl rfl ?_
    refine ld_h H 1 rfl rfl ?_
    simp only [hix, pv_some, nilO_ptr, faO_mk, gd_yes, gd_no, gd_yes', gd_no', cnd_true, cnd_false, pick_true, pick_false, not_bool, bin_add, bin_sub, bin_mul, bin_eql, bin_neq, bin_lss, bin_leq, bin_gtr, bin_geq, ext0, ext1, ext2, lenS_mk, eqNil_none, eqNil_some, neNil_none, neNil_some, ret_k, mem, Nat.zero_add, Nat.add_zero, Nat.mul_one, drewV, Bool.not_true, Bool.not_false]
    refine ld_h H 2 rfl (cell 2 _ (by omega) rfl) ?_
    refine ld_h H 1 rfl rfl ?_
    simp only [hix, pv_some, nilO_ptr, faO_mk, gd_yes, gd_no, gd_yes', gd_no', cnd_true, cnd_false, pick_true, pick_false, not_bool, bin_add, bin_sub, bin_mul, bin_eql, bin_neq, bin_lss, bin_leq, bin_gtr, bin_geq, ext0, ext1, ext2, lenS_mk, eqNil_none, eqNil_some, neNil_none, neNil_some, ret_k, mem, Nat.zero_add, Nat.add_zero, Nat.mul_one, drewV, Bool.not_true, Bool.not_false]
    refine ld_h H 2 rfl (cell 3 _ (by omega) rfl) ?_
    refine cal_h (behind_spec H) ?_
    rintro _ w2 ⟨rfl, H2⟩
    simp only [pv_some, nilO_ptr, faO_mk, gd_yes, gd_no, gd_yes', gd_no', cnd_true, cnd_false, pick_true, pick_false, not_bool, bin_add, bin_sub, bin_mul, bin_eql, bin_neq, bin_lss, bin_leq, bin_gtr, bin_geq, ext0, ext1, ext2, lenS_mk, eqNil_none, eqNil_some, neNil_none, neNil_some, ret_k, mem, Nat.zero_add, Nat.add_zero, Nat.mul_one, drewV, Bool.not_true, Bool.not_false]
    by_cases hb : ltP (u.m, u.f) (m, f)
    · simp only [decide_eq_true hb, pv_some, nilO_ptr, faO_mk, gd_yes, gd_no, gd_yes', gd_no', cnd_true, cnd_false, pick_true, pick_false, not_bool, bin_add, bin_sub, bin_mul, bin_eql, bin_neq, bin_lss, bin_leq, bin_gtr, bin_geq, ext0, ext1, ext2, lenS_mk, eqNil_none, eqNil_some, neNil_none, neNil_some, ret_k, mem, Nat.zero_add, Nat.add_zero, Nat.mul_one, drewV, Bool.not_true, Bool.not_false]
      rw [wrap64_id (by omega) (by omega), show (i : Int) + 1 = ((i + 1 : Nat) : Int) from by omega]
      refine hk w2 ?_ H2
      rcases Nat.lt_or_eq_of_le hi with h | h
      · exact h
      · exact absurd ⟨hat, hb⟩ (cN_out (by rw [← h]; exact hu))
    · simp only [decide_eq_false hb, pv_some, nilO_ptr, faO_mk, gd_yes, gd_no, gd_yes', gd_no', cnd_true, cnd_false, pick_true, pick_false, not_bool, bin_add, bin_sub, bin_mul, bin_eql, bin_neq, bin_lss, bin_leq, bin_gtr, bin_geq, ext0, ext1, ext2, lenS_mk, eqNil_none, eqNil_some, neNil_none, neNil_some, ret_k, mem, Nat.zero_add, Nat.add_zero, Nat.mul_one, drewV, Bool.not_true, Bool.not_false]
      exact stop (fun h => hb (cN_in h hu).2) H2
  intro d
  induction d with
  | zero => intro i w hi H; exact one 0 i w (by omega) H (fun w h => by omega)
  | succ d ih => intro i w hi H; exact one (d + 1) i w (by omega) H (fun w h H => ih (i + 1) w (by omega) H)
theorem racknowledge_spec {b : Nat} {M : LM} {k m f : Int} {last : Bool} {t : Value} (H : Hp w0 w (L ++ F)) (hL : rLk w0 b M L) (hul : M.us.length < 2 ^ 30) (hch : Chn M.us) (hpre : Pre M.us) (hr : ∀ u ∈ M.us, (0 ≤ u.m ∧ u.m < 2 ^ 62) ∧ 0 ≤ u.f ∧ u.f < 2 ^ 62) :
    Calls Pg 67 ⟨[ptr b 0, .agg ⟨frm k last m f t⟩]⟩ w (AckPost w0 F rLk b (ackM M m f)) := by
  obtain ⟨su, sus, sp, sa, cu, cus, cp, ca, D, sv, hlk, rfl⟩ := hL
  obtain ⟨a1, a2⟩ := aO_cN (p := (m, f)) hch hpre
  have hM := ackM_aO (M := M) (fm := m) (ff := f) hr
  have same : ∀ {w' : World} {G : List Chunk}, Hp w0 w' (G ++ (⟨b, 125, rlc M su sus sp sa⟩ :: (cus ++ (cu ++ (cp ++ (ca ++ (D ++ F))))))) → aO (m, f) M.us = none → AckPost w0 F rLk b (ackM M m f) (.returned (.tuple ⟨[]⟩)) w' := by
    intro w' G H' he
    rw [hM, he]
    exact ⟨⟨b, 125, rlc M su sus sp sa⟩ :: (cu ++ (cus ++ (cp ++ (ca ++ D)))), rfl, H'.to (by intro f; simp only [I, U8, U64, ptr, List.set_cons_zero, List.set_cons_succ, List.eraseIdx_cons_zero, List.eraseIdx_cons_succ, List.map_append, List.map_cons, List.map_nil, List.sum_append, List.sum_cons, List.sum_nil]; omega), _, _, _, _, _, _, _, _, _, _, hlk, rfl⟩
  have H0 : Hp w0 w (⟨b, 125, rlc M su sus sp sa⟩ :: (cus ++ (cu ++ (cp ++ (ca ++ (D ++ F)))))) := H.to (by intro f; simp only [I, U8, U64, ptr, List.set_cons_zero, List.set_cons_succ, List.eraseIdx_cons_zero, List.eraseIdx_cons_succ, List.map_append, List.map_cons, List.map_nil, List.sum_append, List.sum_cons, List.sum_nil]; omega)
  apply F67_calls
  unfold F67
  refine bxa_h H0 fun w1 c H1 => ?_
  unfold F67_j13
  have hss := sv_sc hlk
  rcases hlk.us with ⟨rfl, ⟨a, rfl⟩, h0, h00⟩ | ⟨bu, cap, rest, rfl, rfl, h1, h2, h3⟩
  · have hus : M.us = [] := List.length_eq_zero_iff.1 h0
    refine ⟨0 + 1, ?_⟩
    show F67_l2 _ (0 + 1) _ _ _ w1
    rw [F67_l2_succ]
    unfold F67_b2
    have H1 := H1.drew
    simp only [pv_some, nilO_ptr, faO_mk, gd_yes, gd_no, gd_yes', gd_no', cnd_true, cnd_false, pick_true, pick_false, not_bool, bin_add, bin_sub, bin_mul, bin_eql, bin_neq, bin_lss, bin_leq, bin_gtr, bin_geq, ext0, ext1, ext2, lenS_mk, eqNil_none, eqNil_some, neNil_none, neNil_some, ret_k, mem, Nat.zero_add, Nat.add_zero, Nat.mul_one, drewV, Bool.not_true, Bool.not_false]
    refine ld_h H1 1 rfl rfl ?_
    simp only [pv_some, nilO_ptr, faO_mk, gd_yes, gd_no, gd_yes', gd_no', cnd_true, cnd_false, pick_true, pick_false, not_bool, bin_add, bin_sub, bin_mul, bin_eql, bin_neq, bin_lss, bin_leq, bin_gtr, bin_geq, ext0, ext1, ext2, lenS_mk, eqNil_none, eqNil_some, neNil_none, neNil_some, ret_k, mem, Nat.zero_add, Nat.add_zero, Nat.mul_one, drewV, Bool.not_true, Bool.not_false]
    simp only [show decide ((0 : Int) < ((0 : Nat) : Int)) = false from rfl, pv_some, nilO_ptr, faO_mk, gd_yes, gd_no, gd_yes', gd_no', cnd_true, cnd_false, pick_true, pick_false, not_bool, bin_add, bin_sub, bin_mul, bin_eql, bin_neq, bin_lss, bin_leq, bin_gtr, bin_geq, ext0, ext1, ext2, lenS_mk, eqNil_none, eqNil_some, neNil_none, neNil_some, ret_k, mem, Nat.zero_add, Nat.add_zero, Nat.mul_one, drewV, Bool.not_true, Bool.not_false]
    unfold F67_j1
    simp only [decide_true, pv_some, nilO_ptr, faO_mk, gd_yes, gd_no, gd_yes', gd_no', cnd_true, cnd_false, pick_true, pick_false, not_bool, bin_add, bin_sub, bin_mul, bin_eql, bin_neq, bin_lss, bin_leq, bin_gtr, bin_geq, ext0, ext1, ext2, lenS_mk, eqNil_none, eqNil_some, neNil_none, neNil_some, ret_k, mem, Nat.zero_add, Nat.add_zero, Nat.mul_one, drewV, Bool.not_true, Bool.not_false]
    exact same (G := [⟨c, 52, frm k last m f t⟩]) H1 (by rw [hus]; rfl)
  refine ⟨cN (m, f) M.us + 1, ?_⟩
  refine rcnt_l (F := cu ++ (cp ++ (ca ++ (D ++ F)))) hlk.svl (by omega) ?_ (cN (m, f) M.us) 0 w1 (by omega) H1
  clear H1
  intro w1 H1
  have hcl := cN_le (p := (m, f)) M.us
  unfold F67_j1
  cases hn : cN (m, f) M.us with
  | zero =>
    simp only [show (((0 : Nat) : Int)) = 0 from rfl, decide_true, pv_some, nilO_ptr, faO_mk, gd_yes, gd_no, gd_yes', gd_no', cnd_true, cnd_false, pick_true, pick_false, not_bool, bin_add, bin_sub, bin_mul, bin_eql, bin_neq, bin_lss, bin_leq, bin_gtr, bin_geq, ext0, ext1, ext2, lenS_mk, eqNil_none, eqNil_some, neNil_none, neNil_some, ret_k, mem, Nat.zero_add, Nat.add_zero, Nat.mul_one, drewV, Bool.not_true, Bool.not_false]
    exact same (G := [⟨c, 52, frm k last m f t⟩]) H1 (a1 hn)
  | succ i =>
    have hi : i < M.us.length := by omega
    obtain ⟨u, hu⟩ : ∃ u, M.us[i]? = some u := ⟨_, List.getElem?_eq_getElem hi⟩
    obtain ⟨s, hs⟩ : ∃ s, sv[i]? = some s := ⟨_, List.getElem?_eq_getElem (by rw [hlk.svl]; exact hi)⟩
    have hru := hr u (List.mem_of_getElem? hu)
    have hao := a2 i u hn hu
    simp only [pv_some, nilO_ptr, faO_mk, gd_yes, gd_no, gd_yes', gd_no', cnd_true, cnd_false, pick_true, pick_false, not_bool, bin_add, bin_sub, bin_mul, bin_eql, bin_neq, bin_lss, bin_leq, bin_gtr, bin_geq, ext0, ext1, ext2, lenS_mk, eqNil_none, eqNil_some, neNil_none, neNil_some, ret_k, mem, Nat.zero_add, Nat.add_zero, Nat.mul_one, drewV, Bool.not_true, Bool.not_false]
    simp only [show decide (((i + 1 : Nat) : Int) = 0) = false from decide_eq_false (by omega), pv_some, nilO_ptr, faO_mk, gd_yes, gd_no, gd_yes', gd_no', cnd_true, cnd_false, pick_true, pick_false, not_bool, bin_add, bin_sub, bin_mul, bin_eql, bin_neq, bin_lss, bin_leq, bin_gtr, bin_geq, ext0, ext1, ext2, lenS_mk, eqNil_none, eqNil_some, neNil_none, neNil_some, ret_k, mem, Nat.zero_add, Nat.add_zero, Nat.mul_one, drewV, Bool.not_true, Bool.not_false]
    unfold F67_j2
    simp only [pv_some, nilO_ptr, faO_mk, gd_yes, gd_no, gd_yes', gd_no', cnd_true, cnd_false, pick_true, pick_false, not_bool, bin_add, bin_sub, bin_mul, bin_eql, bin_neq, bin_lss, bin_leq, bin_gtr, bin_geq, ext0, ext1, ext2, lenS_mk, eqNil_none, eqNil_some, neNil_none, neNil_some, ret_k, mem, Nat.zero_add, Nat.add_zero, Nat.mul_one, drewV, Bool.not_true, Bool.not_false]
    refine ld_h H1 1 rfl rfl ?_
    rw [wrap64_id (by omega) (by omega), show ((i + 1 : Nat) : Int) - 1 = (i : Int) from by omega, ixS_mk hi]
    simp only [pv_some, nilO_ptr, faO_mk, gd_yes, gd_no, gd_yes', gd_no', cnd_true, cnd_false, pick_true, pick_false, not_bool, bin_add, bin_sub, bin_mul, bin_eql, bin_neq, bin_lss, bin_leq, bin_gtr, bin_geq, ext0, ext1, ext2, lenS_mk, eqNil_none, eqNil_some, neNil_none, neNil_some, ret_k, mem, Nat.zero_add, Nat.add_zero, Nat.mul_one, drewV, Bool.not_true, Bool.not_false]
    have hlen := ucells_len hlk.svl
    have hcell : ((ucells M.us sv ++ rest).drop (i * 6)).take 6 = ucell u s := by
      apply List.ext_getElem?
      intro m
      rw [List.getElem?_take]
      by_cases hm : m < 6
      · rw [if_pos hm, List.getElem?_drop, List.getElem?_append_left (by rw [hlen]; omega)]
        exact ucells_get hu hs hm
      · rw [if_neg hm, List.getElem?_eq_none (by simp [ucell]; omega)]
    refine ldN_blk (H1.at (i := 2) rfl) (by rw [List.length_append, hlen]; omega) ?_
    rw [hcell]
    refine al_h H1 (z := [I 0, .bool false, I 0, I 0, .slice none 0 0, I 0]) (by kernel_rfl) fun w2 c2 H2 => ?_
    have hsc : scalar s = true := hss s (List.mem_of_getElem? hs)
    refine stA_h H2 0 rfl rfl rfl (by intro c hc; simp [ucell] at hc; rcases hc with rfl | rfl | rfl | rfl | rfl | rfl <;> first | rfl | exact hsc) fun w3 H3 => ?_
    simp only [pv_some, nilO_ptr, faO_mk, gd_yes, gd_no, gd_yes', gd_no', cnd_true, cnd_false, pick_true, pick_false, not_bool, bin_add, bin_sub, bin_mul, bin_eql, bin_neq, bin_lss, bin_leq, bin_gtr, bin_geq, ext0, ext1, ext2, lenS_mk, eqNil_none, eqNil_some, neNil_none, neNil_some, ret_k, mem, Nat.zero_add, Nat.add_zero, Nat.mul_one, drewV, Bool.not_true, Bool.not_false]
    refine ld_h H3 0 rfl rfl ?_
    refine ld_h H3 0 rfl rfl ?_
    simp only [pv_some, nilO_ptr, faO_mk, gd_yes, gd_no, gd_yes', gd_no', cnd_true, cnd_false, pick_true, pick_false, not_bool, bin_add, bin_sub, bin_mul, bin_eql, bin_neq, bin_lss, bin_leq, bin_gtr, bin_geq, ext0, ext1, ext2, lenS_mk, eqNil_none, eqNil_some, neNil_none, neNil_some, ret_k, mem, Nat.zero_add, Nat.add_zero, Nat.mul_one, drewV, Bool.not_true, Bool.not_false]
    rw [wrap64_id (by omega) (by omega)]
    rw [show bldO [.int .i64 0, .bool false, .int .i64 0, .int .i64 0, .slice none 0 0] [(2, 1, I u.m), (3, 1, I (u.f + 1))] = some (.agg ⟨[I 0, .bool false, I u.m, I (u.f + 1), .slice none 0 0]⟩) from rfl]
    simp only [pv_some, nilO_ptr, faO_mk, gd_yes, gd_no, gd_yes', gd_no', cnd_true, cnd_false, pick_true, pick_false, not_bool, bin_add, bin_sub, bin_mul, bin_eql, bin_neq, bin_lss, bin_leq, bin_gtr, bin_geq, ext0, ext1, ext2, lenS_mk, eqNil_none, eqNil_some, neNil_none, neNil_some, ret_k, mem, Nat.zero_add, Nat.add_zero, Nat.mul_one, drewV, Bool.not_true, Bool.not_false]
    refine al_h H3 (z := [I 0, .bool false, I 0, I 0, .slice none 0 0]) (by kernel_rfl) fun w4 c4 H4 => ?_
    refine stA_h H4 0 rfl rfl rfl (by intro c hc; simp at hc; rcases hc with rfl | rfl | rfl | rfl | rfl <;> rfl) fun w5 H5 => ?_
    try simp only [pv_some, nilO_ptr, faO_mk, gd_yes, gd_no, gd_yes', gd_no', cnd_true, cnd_false, pick_true, pick_false, not_bool, bin_add, bin_sub, bin_mul, bin_eql, bin_neq, bin_lss, bin_leq, bin_gtr, bin_geq, ext0, ext1, ext2, lenS_mk, eqNil_none, eqNil_some, neNil_none, neNil_some, ret_k, mem, Nat.zero_add, Nat.add_zero, Nat.mul_one, drewV, Bool.not_true, Bool.not_false]
    refine ld_h H5 1 rfl rfl ?_
    have j4 : ∀ {w : World} {G : List Chunk}, aO (m, f) M.us = some i → Hp w0 w (⟨b, 125, rlc M su (.slice (some ⟨bu, 0, none⟩) M.us.length cap) sp sa⟩ :: ⟨bu, 141, ucells M.us sv ++ rest⟩ :: (G ++ (cu ++ (cp ++ (ca ++ (D ++ F)))))) → F67_j4 (AckPost w0 F rLk b (ackM M m f)) (ptr b 0) (I ((i + 1 : Nat) : Int)) w := by
      intro w G ha H
      rw [ha] at hM
      unfold F67_j4 F67_j6 F67_j7
      refine ⟨i + 1 + 1, ?_⟩
      refine rack_l (n := i + 1) (F := G ++ (cu ++ (cp ++ (ca ++ (D ++ F))))) (M := M) hlk.svl (by omega) (by omega) (fun w3 H3 => ?_) (i + 1) 0 w (by omega) H
      unfold F67_j5
      refine lit0_h elT122 H3 fun w4 s0 H4 hs0 => ?_
      simp only [pv_some, nilO_ptr, faO_mk, gd_yes, gd_no, gd_yes', gd_no', cnd_true, cnd_false, pick_true, pick_false, not_bool, bin_add, bin_sub, bin_mul, bin_eql, bin_neq, bin_lss, bin_leq, bin_gtr, bin_geq, ext0, ext1, ext2, lenS_mk, eqNil_none, eqNil_some, neNil_none, neNil_some, ret_k, mem, Nat.zero_add, Nat.add_zero, Nat.mul_one, drewV, Bool.not_true, Bool.not_false]
      refine ld_h H4 0 rfl rfl ?_
      obtain ⟨o, ho, ho2⟩ := slK_from (sz := 6) (b := bu) (n := M.us.length) (c := cap) (lo := i + 1) (by omega) h2
      rw [ho]
      simp only [pv_some, nilO_ptr, faO_mk, gd_yes, gd_no, gd_yes', gd_no', cnd_true, cnd_false, pick_true, pick_false, not_bool, bin_add, bin_sub, bin_mul, bin_eql, bin_neq, bin_lss, bin_leq, bin_gtr, bin_geq, ext0, ext1, ext2, lenS_mk, eqNil_none, eqNil_some, neNil_none, neNil_some, ret_k, mem, Nat.zero_add, Nat.add_zero, Nat.mul_one, drewV, Bool.not_true, Bool.not_false]
      have hdr : (ucells (M.us.drop (i + 1)) (sv.drop (i + 1))).length = (M.us.length - (i + 1)) * 6 := by rw [ucells_len (by simp [hlk.svl])]; simp
      have hsrc : ∀ L2 : List Chunk, (⟨bu, 141, ucells M.us sv ++ rest⟩ : Chunk) ∈ L2 → RdL w0 L2 6 (.slice (some ⟨bu, o, none⟩) (M.us.length - (i + 1)) (cap - (i + 1))) (M.us.length - (i + 1)) (ucells (M.us.drop (i + 1)) (sv.drop (i + 1))) := by
        intro L2 hm2
        by_cases hz : i + 1 < M.us.length
        · have ho' := ho2 hz
          subst ho'
          refine .inr ⟨bu, (i + 1) * 6, cap - (i + 1), 141, ucells M.us sv ++ rest, rfl, by omega, hm2, ?_, ?_⟩
          · rw [List.length_append, hlen]; omega
          · rw [ucells_drop, List.drop_append_of_le_length (by rw [hlen]; omega), List.take_append_of_le_length (by rw [List.length_drop, hlen]; omega), List.take_of_length_le (by rw [List.length_drop, hlen]; omega)]
        · have e0 : M.us.length - (i + 1) = 0 := by omega
          have e1 : ucells (M.us.drop (i + 1)) (sv.drop (i + 1)) = [] := List.length_eq_zero_iff.1 (by rw [hdr, e0])
          rw [e0, e1]
          exact .inl (.inr ⟨⟨bu, o, none⟩, cap - (i + 1), rfl, by omega, by rw [Nat.zero_mul]; rfl⟩)
      have H4' : Hp w0 w4 ([] ++ (⟨b, 125, rlc { M with done := lastDone M.done (M.us.take (i + 1)) } su (.slice (some ⟨bu, 0, none⟩) M.us.length cap) sp sa⟩ :: ⟨bu, 141, ucells M.us sv ++ rest⟩ :: (G ++ (cu ++ (cp ++ (ca ++ (D ++ F))))))) := H4
      have hssd : ∀ s ∈ sv.drop (i + 1), scalar s = true := fun s hs => hss s (List.mem_of_mem_drop hs)
      refine append_h elT122 H4' hs0 (hsrc _ (by simp)) (ucells_scalar hssd) (by omega) (by omega) fun w6 s6 cs6 H6 h6 => ?_
      try simp only [pv_some, nilO_ptr, faO_mk, gd_yes, gd_no, gd_yes', gd_no', cnd_true, cnd_false, pick_true, pick_false, not_bool, bin_add, bin_sub, bin_mul, bin_eql, bin_neq, bin_lss, bin_leq, bin_gtr, bin_geq, ext0, ext1, ext2, lenS_mk, eqNil_none, eqNil_some, neNil_none, neNil_some, ret_k, mem, Nat.zero_add, Nat.add_zero, Nat.mul_one, drewV, Bool.not_true, Bool.not_false]
      have H6' : Hp w0 w6 (⟨b, 125, rlc { M with done := lastDone M.done (M.us.take (i + 1)) } su (.slice (some ⟨bu, 0, none⟩) M.us.length cap) sp sa⟩ :: (cs6 ++ (⟨bu, 141, ucells M.us sv ++ rest⟩ :: (G ++ (cu ++ (cp ++ (ca ++ (D ++ F)))))))) := H6.to (by intro f; simp only [I, U8, U64, ptr, List.set_cons_zero, List.set_cons_succ, List.eraseIdx_cons_zero, List.eraseIdx_cons_succ, List.map_append, List.map_cons, List.map_nil, List.sum_append, List.sum_cons, List.sum_nil]; omega)
      refine st_h H6' 0 rfl (by simp [rlc]) (sl_sc h6) fun w7 H7 => ?_
      try simp only [pv_some, nilO_ptr, faO_mk, gd_yes, gd_no, gd_yes', gd_no', cnd_true, cnd_false, pick_true, pick_false, not_bool, bin_add, bin_sub, bin_mul, bin_eql, bin_neq, bin_lss, bin_leq, bin_gtr, bin_geq, ext0, ext1, ext2, lenS_mk, eqNil_none, eqNil_some, neNil_none, neNil_some, ret_k, mem, Nat.zero_add, Nat.add_zero, Nat.mul_one, drewV, Bool.not_true, Bool.not_false]
      refine st_h H7 0 rfl (by simp [rlc]) rfl fun w8 H8 => ?_
      rw [hM]
      have H8' : Hp w0 w8 (⟨b, 125, rlc (dropN M i) su s6 sp sa⟩ :: (cs6 ++ (⟨bu, 141, ucells M.us sv ++ rest⟩ :: (G ++ (cu ++ (cp ++ (ca ++ (D ++ F)))))))) := H8
      refine ⟨⟨b, 125, rlc (dropN M i) su s6 sp sa⟩ :: (cu ++ (cs6 ++ (cp ++ (ca ++ D)))), rfl, H8'.to (by intro f; simp only [I, U8, U64, ptr, List.set_cons_zero, List.set_cons_succ, List.eraseIdx_cons_zero, List.eraseIdx_cons_succ, List.map_append, List.map_cons, List.map_nil, List.sum_append, List.sum_cons, List.sum_nil]; omega), su, s6, sp, sa, cu, cs6, cp, ca, D, sv.drop (i + 1), ?_, rfl⟩
      refine ⟨hlk.up, ?_, by simp [hlk.svl, dropN], ?_, hlk.part, hlk.acks⟩
      · have h7 : Sl 141 6 s6 (M.us.length - (i + 1)) (ucells (M.us.drop (i + 1)) (sv.drop (i + 1))) cs6 := by simpa using h6
        rw [show (dropN M i).us.length = M.us.length - (i + 1) from by simp [dropN]]
        exact h7
      · intro j u' s' hu' hs'
        simp only [dropN, List.getElem?_drop] at hu' hs'
        exact hlk.dat _ u' s' hu' hs'
    have j3 : ∀ {w : World} {x : List Value} {x4 x3 : Int}, (∃ a1 a2 a5, x = [a1, a2, I x3, I x4, a5]) → nxt u = (x3, x4) → Hp w0 w (⟨c4, 52, x⟩ :: ⟨c2, 141, ucell u s⟩ :: ⟨c, 52, frm k last m f t⟩ :: ⟨b, 125, rlc M su (.slice (some ⟨bu, 0, none⟩) M.us.length cap) sp sa⟩ :: ⟨bu, 141, ucells M.us sv ++ rest⟩ :: (cu ++ (cp ++ (ca ++ (D ++ F))))) →
        F67_j3 (AckPost w0 F rLk b (ackM M m f)) (ptr b 0) (ptr c 0) (I ((i + 1 : Nat) : Int)) (ptr c4 0) w := by
      rintro w x x4 x3 ⟨a1, a2, a5, rfl⟩ hx H
      unfold F67_j3
      simp only [pv_some, nilO_ptr, faO_mk, gd_yes, gd_no, gd_yes', gd_no', cnd_true, cnd_false, pick_true, pick_false, not_bool, bin_add, bin_sub, bin_mul, bin_eql, bin_neq, bin_lss, bin_leq, bin_gtr, bin_geq, ext0, ext1, ext2, lenS_mk, eqNil_none, eqNil_some, neNil_none, neNil_some, ret_k, mem, Nat.zero_add, Nat.add_zero, Nat.mul_one, drewV, Bool.not_true, Bool.not_false]
      refine ld_h H 2 rfl rfl ?_
      refine ld_h H 0 rfl rfl ?_
      simp only [pv_some, nilO_ptr, faO_mk, gd_yes, gd_no, gd_yes', gd_no', cnd_true, cnd_false, pick_true, pick_false, not_bool, bin_add, bin_sub, bin_mul, bin_eql, bin_neq, bin_lss, bin_leq, bin_gtr, bin_geq, ext0, ext1, ext2, lenS_mk, eqNil_none, eqNil_some, neNil_none, neNil_some, ret_k, mem, Nat.zero_add, Nat.add_zero, Nat.mul_one, drewV, Bool.not_true, Bool.not_false]
      by_cases h8 : m = x3
      rotate_left
      · simp only [decide_eq_true h8, pv_some, nilO_ptr, faO_mk, gd_yes, gd_no, gd_yes', gd_no', cnd_true, cnd_false, pick_true, pick_false, not_bool, bin_add, bin_sub, bin_mul, bin_eql, bin_neq, bin_lss, bin_leq, bin_gtr, bin_geq, ext0, ext1, ext2, lenS_mk, eqNil_none, eqNil_some, neNil_none, neNil_some, ret_k, mem, Nat.zero_add, Nat.add_zero, Nat.mul_one, drewV, Bool.not_true, Bool.not_false]
        refine same (G := ⟨c4, 52, [a1, a2, I x3, I x4, a5]⟩ :: ⟨c2, 141, ucell u s⟩ :: [⟨c, 52, frm k last m f t⟩]) H ?_
        rw [hao, if_neg]
        rw [hx]; intro h; injection h with h _; exact h8 h
      simp only [decide_eq_false (not_not_intro h8), pv_some, nilO_ptr, faO_mk, gd_yes, gd_no, gd_yes', gd_no', cnd_true, cnd_false, pick_true, pick_false, not_bool, bin_add, bin_sub, bin_mul, bin_eql, bin_neq, bin_lss, bin_leq, bin_gtr, bin_geq, ext0, ext1, ext2, lenS_mk, eqNil_none, eqNil_some, neNil_none, neNil_some, ret_k, mem, Nat.zero_add, Nat.add_zero, Nat.mul_one, drewV, Bool.not_true, Bool.not_false]
      refine ld_h H 2 rfl rfl ?_
      refine ld_h H 0 rfl rfl ?_
      simp only [pv_some, nilO_ptr, faO_mk, gd_yes, gd_no, gd_yes', gd_no', cnd_true, cnd_false, pick_true, pick_false, not_bool, bin_add, bin_sub, bin_mul, bin_eql, bin_neq, bin_lss, bin_leq, bin_gtr, bin_geq, ext0, ext1, ext2, lenS_mk, eqNil_none, eqNil_some, neNil_none, neNil_some, ret_k, mem, Nat.zero_add, Nat.add_zero, Nat.mul_one, drewV, Bool.not_true, Bool.not_false]
      by_cases h9 : f = x4
      rotate_left
      · simp only [decide_eq_true h9, pv_some, nilO_ptr, faO_mk, gd_yes, gd_no, gd_yes', gd_no', cnd_true, cnd_false, pick_true, pick_false, not_bool, bin_add, bin_sub, bin_mul, bin_eql, bin_neq, bin_lss, bin_leq, bin_gtr, bin_geq, ext0, ext1, ext2, lenS_mk, eqNil_none, eqNil_some, neNil_none, neNil_some, ret_k, mem, Nat.zero_add, Nat.add_zero, Nat.mul_one, drewV, Bool.not_true, Bool.not_false]
        refine same (G := ⟨c4, 52, [a1, a2, I x3, I x4, a5]⟩ :: ⟨c2, 141, ucell u s⟩ :: [⟨c, 52, frm k last m f t⟩]) H ?_
        rw [hao, if_neg]
        rw [hx]; intro h; injection h with _ h; exact h9 h
      simp only [decide_eq_false (not_not_intro h9), pv_some, nilO_ptr, faO_mk, gd_yes, gd_no, gd_yes', gd_no', cnd_true, cnd_false, pick_true, pick_false, not_bool, bin_add, bin_sub, bin_mul, bin_eql, bin_neq, bin_lss, bin_leq, bin_gtr, bin_geq, ext0, ext1, ext2, lenS_mk, eqNil_none, eqNil_some, neNil_none, neNil_some, ret_k, mem, Nat.zero_add, Nat.add_zero, Nat.mul_one, drewV, Bool.not_true, Bool.not_false]
      exact j4 (G := ⟨c4, 52, [a1, a2, I x3, I x4, a5]⟩ :: ⟨c2, 141, ucell u s⟩ :: [⟨c, 52, frm k last m f t⟩]) (by rw [hao, if_pos]; rw [hx, h8, h9]) (H.to (by intro f; simp only [I, U8, U64, ptr, List.set_cons_zero, List.set_cons_succ, List.eraseIdx_cons_zero, List.eraseIdx_cons_succ, List.map_append, List.map_cons, List.map_nil, List.sum_append, List.sum_cons, List.sum_nil]; omega))
    cases hl : u.last with
    | true =>
      simp only [pv_some, nilO_ptr, faO_mk, gd_yes, gd_no, gd_yes', gd_no', cnd_true, cnd_false, pick_true, pick_false, not_bool, bin_add, bin_sub, bin_mul, bin_eql, bin_neq, bin_lss, bin_leq, bin_gtr, bin_geq, ext0, ext1, ext2, lenS_mk, eqNil_none, eqNil_some, neNil_none, neNil_some, ret_k, mem, Nat.zero_add, Nat.add_zero, Nat.mul_one, drewV, Bool.not_true, Bool.not_false]
      refine ld_h H5 1 rfl rfl ?_
      simp only [pv_some, nilO_ptr, faO_mk, gd_yes, gd_no, gd_yes', gd_no', cnd_true, cnd_false, pick_true, pick_false, not_bool, bin_add, bin_sub, bin_mul, bin_eql, bin_neq, bin_lss, bin_leq, bin_gtr, bin_geq, ext0, ext1, ext2, lenS_mk, eqNil_none, eqNil_some, neNil_none, neNil_some, ret_k, mem, Nat.zero_add, Nat.add_zero, Nat.mul_one, drewV, Bool.not_true, Bool.not_false]
      rw [wrap64_id (by omega) (by omega)]
      rw [show bldO [.int .i64 0, .bool false, .int .i64 0, .int .i64 0, .slice none 0 0] [(2, 1, I (u.m + 1))] = some (.agg ⟨[I 0, .bool false, I (u.m + 1), I 0, .slice none 0 0]⟩) from rfl]
      simp only [pv_some, nilO_ptr, faO_mk, gd_yes, gd_no, gd_yes', gd_no', cnd_true, cnd_false, pick_true, pick_false, not_bool, bin_add, bin_sub, bin_mul, bin_eql, bin_neq, bin_lss, bin_leq, bin_gtr, bin_geq, ext0, ext1, ext2, lenS_mk, eqNil_none, eqNil_some, neNil_none, neNil_some, ret_k, mem, Nat.zero_add, Nat.add_zero, Nat.mul_one, drewV, Bool.not_true, Bool.not_false]
      refine stA_h H5 0 rfl rfl rfl (by intro c hc; simp at hc; rcases hc with rfl | rfl | rfl | rfl | rfl <;> rfl) fun w7 H7 => ?_
      exact j3 (x3 := u.m + 1) (x4 := 0) ⟨_, _, _, rfl⟩ (by unfold nxt; rw [hl]; rfl) H7
    | false =>
      simp only [pv_some, nilO_ptr, faO_mk, gd_yes, gd_no, gd_yes', gd_no', cnd_true, cnd_false, pick_true, pick_false, not_bool, bin_add, bin_sub, bin_mul, bin_eql, bin_neq, bin_lss, bin_leq, bin_gtr, bin_geq, ext0, ext1, ext2, lenS_mk, eqNil_none, eqNil_some, neNil_none, neNil_some, ret_k, mem, Nat.zero_add, Nat.add_zero, Nat.mul_one, drewV, Bool.not_true, Bool.not_false]
      exact j3 (x3 := u.m) (x4 := u.f + 1) ⟨_, _, _, rfl⟩ (by unfold nxt; rw [hl]; rfl) H5
end
end Go.Proofs.Ytmnpndgmfmjfhaa.Den
end

section
set_option linter.unusedVariables false
set_option linter.unusedSimpArgs false
set_option maxRecDepth 8000
namespace Go.Proofs.Ytmnpndgmfmjfhaa.Den
open Go Go.RowKit
section
variable {w w' : World} {w0 : Base} {F L : List Chunk} {R : ER}
theorem rin_ack {b : Nat} {M : LM} {su sus sp sa x13 : Value} {cu cus cp ca D : List Chunk} {sv : List Value} {x : Int} {G : List Chunk} (hlk : LkP 141 144 w0 M su sus sp sa cu cus cp ca D sv) (hal : M.acks.length < 2 ^ 30) (hx : 0 ≤ x)
    (H : Hp w0 w (⟨b, 125, rlc M su sus sp sa⟩ :: (cus ++ (cu ++ (cp ++ (ca ++ (D ++ G)))))))
    (k : ∀ w' L', Hp w0 w' (L' ++ G) → rLk w0 b (addA M x) L' → R (.returned (.tuple ⟨[x13, I 0]⟩)) w') :
    F51_j5 R (ptr b 0) (I x) x13 w := by
  unfold F51_j5
  simp only [pv_some, nilO_ptr, faO_mk, gd_yes, gd_no, gd_yes', gd_no', cnd_true, cnd_false, pick_true, pick_false, not_bool, bin_add, bin_sub, bin_mul, bin_eql, bin_neq, bin_lss, bin_leq, bin_gtr, bin_geq, ext0, ext1, ext2, lenS_mk, eqNil_none, eqNil_some, neNil_none, neNil_some, ret_k, mem, Nat.zero_add, Nat.add_zero, Nat.mul_one, drewV, Bool.not_true, Bool.not_false]
  refine ld_h H.drew 0 rfl rfl ?_
  refine ld_h H.drew 0 rfl rfl ?_
  refine ld_h H.drew 0 rfl rfl ?_
  rw [show bldO [.int .i64 0, .bool false, .int .i64 0, .int .i64 0, .slice none 0 0] [(0, 1, (.int .i64 2)), (2, 1, I M.msg), (3, 1, I M.frag)] = some (.agg ⟨[I 2, .bool false, I M.msg, I M.frag, .slice none 0 0]⟩) from rfl]
  simp only [pv_some, nilO_ptr, faO_mk, gd_yes, gd_no, gd_yes', gd_no', cnd_true, cnd_false, pick_true, pick_false, not_bool, bin_add, bin_sub, bin_mul, bin_eql, bin_neq, bin_lss, bin_leq, bin_gtr, bin_geq, ext0, ext1, ext2, lenS_mk, eqNil_none, eqNil_some, neNil_none, neNil_some, ret_k, mem, Nat.zero_add, Nat.add_zero, Nat.mul_one, drewV, Bool.not_true, Bool.not_false]
  have eb : bldO [.int .i64 0, .int .i64 0, .bool false, .int .i64 0, .int .i64 0, .slice none 0 0] [(0, 1, I x), (1, 5, .agg ⟨[I 2, .bool false, I M.msg, I M.frag, .slice none 0 0]⟩)] = some (.agg ⟨acell ⟨x.toNat, M.msg, M.frag⟩⟩) := by
    have : ((x.toNat : Nat) : Int) = x := by omega
    unfold acell
    rw [this]
    rfl
  simp only [eb, pv_some, nilO_ptr, faO_mk, gd_yes, gd_no, gd_yes', gd_no', cnd_true, cnd_false, pick_true, pick_false, not_bool, bin_add, bin_sub, bin_mul, bin_eql, bin_neq, bin_lss, bin_leq, bin_gtr, bin_geq, ext0, ext1, ext2, lenS_mk, eqNil_none, eqNil_some, neNil_none, neNil_some, ret_k, mem, Nat.zero_add, Nat.add_zero, Nat.mul_one, drewV, Bool.not_true, Bool.not_false]
  refine lit1_h (v := .agg ⟨acell ⟨x.toNat, M.msg, M.frag⟩⟩) elT123 H.drew rfl (by omega) fun w1 nb H1 => ?_
  have H1' : Hp w0 w1 (⟨nb, 144, acell ⟨x.toNat, M.msg, M.frag⟩⟩ :: ⟨b, 125, rlc M su sus sp sa⟩ :: (cus ++ (cu ++ (cp ++ (ca ++ (D ++ G)))))) := H1
  rw [rd1_t (H1'.cell 1 (o := 14) rfl rfl)]
  have H1'' : Hp w0 w1 (ca ++ (⟨nb, 144, acell ⟨x.toNat, M.msg, M.frag⟩⟩ :: ⟨b, 125, rlc M su sus sp sa⟩ :: (cus ++ (cu ++ (cp ++ (D ++ G)))))) := H1'.to (by intro f; simp only [I, U8, U64, ptr, List.set_cons_zero, List.set_cons_succ, List.eraseIdx_cons_zero, List.eraseIdx_cons_succ, List.map_append, List.map_cons, List.map_nil, List.sum_append, List.sum_cons, List.sum_nil]; omega)
  refine append_h (m := 1) (ys := acell ⟨x.toNat, M.msg, M.frag⟩) elT123 H1'' hlk.acks (.inr ⟨nb, 0, 1, 144, acell ⟨x.toNat, M.msg, M.frag⟩, rfl, by omega, by simp, by simp [acell], rfl⟩)
    (by intro c hc; simp [acell] at hc; rcases hc with rfl | rfl | rfl | rfl | rfl | rfl <;> rfl) (by omega) (by omega) fun w2 s2 ca2 H2 h2 => ?_
  try simp only [pv_some, nilO_ptr, faO_mk, gd_yes, gd_no, gd_yes', gd_no', cnd_true, cnd_false, pick_true, pick_false, not_bool, bin_add, bin_sub, bin_mul, bin_eql, bin_neq, bin_lss, bin_leq, bin_gtr, bin_geq, ext0, ext1, ext2, lenS_mk, eqNil_none, eqNil_some, neNil_none, neNil_some, ret_k, mem, Nat.zero_add, Nat.add_zero, Nat.mul_one, drewV, Bool.not_true, Bool.not_false]
  have H2' : Hp w0 w2 (⟨b, 125, rlc M su sus sp sa⟩ :: (cus ++ (cu ++ (cp ++ (ca2 ++ (D ++ G)))))) := H2.to (by intro f; simp only [I, U8, U64, ptr, List.set_cons_zero, List.set_cons_succ, List.eraseIdx_cons_zero, List.eraseIdx_cons_succ, List.map_append, List.map_cons, List.map_nil, List.sum_append, List.sum_cons, List.sum_nil]; omega)
  refine st_h H2' 0 rfl (by simp [rlc]) (sl_sc h2) fun w3 H3 => ?_
  have H3' : Hp w0 w3 (⟨b, 125, rlc (addA M x) su sus sp s2⟩ :: (cus ++ (cu ++ (cp ++ (ca2 ++ (D ++ G)))))) := H3
  refine k w3 (⟨b, 125, rlc (addA M x) su sus sp s2⟩ :: (cu ++ (cus ++ (cp ++ (ca2 ++ D))))) (H3'.to (by intro f; simp only [I, U8, U64, ptr, List.set_cons_zero, List.set_cons_succ, List.eraseIdx_cons_zero, List.eraseIdx_cons_succ, List.map_append, List.map_cons, List.map_nil, List.sum_append, List.sum_cons, List.sum_nil]; omega)) ⟨su, sus, sp, s2, cu, cus, cp, ca2, D, sv, ⟨hlk.up, hlk.us, hlk.svl, hlk.dat, hlk.part, ?_⟩, rfl⟩
  have ea : acells (addA M x).acks = acells M.acks ++ acell ⟨x.toNat, M.msg, M.frag⟩ := by simp [acells, addA]
  rw [ea]
  simpa [addA] using h2
/-- A frame of a message. -/
theorem rin_data {b fb : Nat} {M : LM} {su sus sp sa t : Value} {cu cus cp ca D cs : List Chunk} {sv : List Value} {x m f : Int} {last : Bool} {n : Nat} {d : List Int} (hlk : LkP 141 144 w0 M su sus sp sa cu cus cp ca D sv) (hal : M.acks.length < 2 ^ 30) (hx : 0 ≤ x)
    (hn : d.length = n) (hn4 : n ≤ 4096) (hp4 : M.part.length ≤ 4096) (ht : Sl 5 1 t n (bv d) cs) (hmsg : 0 ≤ M.msg ∧ M.msg < 2 ^ 62) (hfr : f < 2 ^ 62 ∧ 0 ≤ M.frag)
    (H : Hp w0 w (⟨b, 125, rlc M su sus sp sa⟩ :: ⟨fb, 52, frm 1 last m f t⟩ :: (cus ++ (cu ++ (cp ++ (ca ++ (D ++ (cs ++ F))))))))
    (k : ∀ w' s co Db svm L', Hp w0 w' (co ++ (Db ++ (L' ++ F))) → MsgP w0 s (takeV M m f last d) co Db svm → rLk w0 b (addA (takeM M m f last d) x) L' → R (.returned (.tuple ⟨[s, I 0]⟩)) w') :
    F51_j4 R (ptr b 0) (I x) (ptr fb 0) w := by
  subst hn
  unfold F51_j4
  refine lit0_h elT36 H fun w s0 H hs0 => ?_
  have no : ¬ fitB M m f d → ∀ {w : World}, Hp w0 w (⟨b, 125, rlc M su sus sp sa⟩ :: ⟨fb, 52, frm 1 last m f t⟩ :: (cus ++ (cu ++ (cp ++ (ca ++ (D ++ (cs ++ F))))))) → F51_j5 R (ptr b 0) (I x) s0 w := by
    intro hf w H
    have e1 : takeM M m f last d = M := by unfold takeM; rw [if_neg hf]
    have e2 : takeV M m f last d = [] := by unfold takeV; rw [if_neg (fun h => hf h.1)]
    rw [e1, e2] at k
    refine rin_ack (G := F) hlk hal hx (H.to (by intro f; simp only [I, U8, U64, ptr, List.set_cons_zero, List.set_cons_succ, List.eraseIdx_cons_zero, List.eraseIdx_cons_succ, List.map_append, List.map_cons, List.map_nil, List.sum_append, List.sum_cons, List.sum_nil]; omega)) fun w' L' H' hL' => k w' _ [] [] [] L' H' ⟨hs0, rfl, fun i y s h => by simp at h⟩ hL'
  unfold F51_j6
  simp only [pv_some, nilO_ptr, faO_mk, gd_yes, gd_no, gd_yes', gd_no', cnd_true, cnd_false, pick_true, pick_false, not_bool, bin_add, bin_sub, bin_mul, bin_eql, bin_neq, bin_lss, bin_leq, bin_gtr, bin_geq, ext0, ext1, ext2, lenS_mk, eqNil_none, eqNil_some, neNil_none, neNil_some, ret_k, mem, Nat.zero_add, Nat.add_zero, Nat.mul_one, drewV, Bool.not_true, Bool.not_false]
  refine ld_h H.drew 1 rfl rfl ?_
  refine ld_h H.drew 0 rfl rfl ?_
  simp only [pv_some, nilO_ptr, faO_mk, gd_yes, gd_no, gd_yes', gd_no', cnd_true, cnd_false, pick_true, pick_false, not_bool, bin_add, bin_sub, bin_mul, bin_eql, bin_neq, bin_lss, bin_leq, bin_gtr, bin_geq, ext0, ext1, ext2, lenS_mk, eqNil_none, eqNil_some, neNil_none, neNil_some, ret_k, mem, Nat.zero_add, Nat.add_zero, Nat.mul_one, drewV, Bool.not_true, Bool.not_false]
  by_cases h1 : m ≠ M.msg
  · simp only [decide_eq_false h1, pv_some, nilO_ptr, faO_mk, gd_yes, gd_no, gd_yes', gd_no', cnd_true, cnd_false, pick_true, pick_false, not_bool, bin_add, bin_sub, bin_mul, bin_eql, bin_neq, bin_lss, bin_leq, bin_gtr, bin_geq, ext0, ext1, ext2, lenS_mk, eqNil_none, eqNil_some, neNil_none, neNil_some, ret_k, mem, Nat.zero_add, Nat.add_zero, Nat.mul_one, drewV, Bool.not_true, Bool.not_false]
    unfold F51_j7
    simp only [pv_some, nilO_ptr, faO_mk, gd_yes, gd_no, gd_yes', gd_no', cnd_true, cnd_false, pick_true, pick_false, not_bool, bin_add, bin_sub, bin_mul, bin_eql, bin_neq, bin_lss, bin_leq, bin_gtr, bin_geq, ext0, ext1, ext2, lenS_mk, eqNil_none, eqNil_some, neNil_none, neNil_some, ret_k, mem, Nat.zero_add, Nat.add_zero, Nat.mul_one, drewV, Bool.not_true, Bool.not_false]
    exact no (fun h => h1 h.1) H.drew
  replace h1 := Decidable.not_not.1 h1
  simp only [decide_eq_true h1, pv_some, nilO_ptr, faO_mk, gd_yes, gd_no, gd_yes', gd_no', cnd_true, cnd_false, pick_true, pick_false, not_bool, bin_add, bin_sub, bin_mul, bin_eql, bin_neq, bin_lss, bin_leq, bin_gtr, bin_geq, ext0, ext1, ext2, lenS_mk, eqNil_none, eqNil_some, neNil_none, neNil_some, ret_k, mem, Nat.zero_add, Nat.add_zero, Nat.mul_one, drewV, Bool.not_true, Bool.not_false]
  refine ld_h H.drew 1 rfl rfl ?_
  refine ld_h H.drew 0 rfl rfl ?_
  simp only [pv_some, nilO_ptr, faO_mk, gd_yes, gd_no, gd_yes', gd_no', cnd_true, cnd_false, pick_true, pick_false, not_bool, bin_add, bin_sub, bin_mul, bin_eql, bin_neq, bin_lss, bin_leq, bin_gtr, bin_geq, ext0, ext1, ext2, lenS_mk, eqNil_none, eqNil_some, neNil_none, neNil_some, ret_k, mem, Nat.zero_add, Nat.add_zero, Nat.mul_one, drewV, Bool.not_true, Bool.not_false]
  by_cases h2 : f ≠ M.frag
  · simp only [decide_eq_false h2, pv_some, nilO_ptr, faO_mk, gd_yes, gd_no, gd_yes', gd_no', cnd_true, cnd_false, pick_true, pick_false, not_bool, bin_add, bin_sub, bin_mul, bin_eql, bin_neq, bin_lss, bin_leq, bin_gtr, bin_geq, ext0, ext1, ext2, lenS_mk, eqNil_none, eqNil_some, neNil_none, neNil_some, ret_k, mem, Nat.zero_add, Nat.add_zero, Nat.mul_one, drewV, Bool.not_true, Bool.not_false]
    unfold F51_j7
    simp only [pv_some, nilO_ptr, faO_mk, gd_yes, gd_no, gd_yes', gd_no', cnd_true, cnd_false, pick_true, pick_false, not_bool, bin_add, bin_sub, bin_mul, bin_eql, bin_neq, bin_lss, bin_leq, bin_gtr, bin_geq, ext0, ext1, ext2, lenS_mk, eqNil_none, eqNil_some, neNil_none, neNil_some, ret_k, mem, Nat.zero_add, Nat.add_zero, Nat.mul_one, drewV, Bool.not_true, Bool.not_false]
    exact no (fun h => h2 h.2.1) H.drew
  replace h2 := Decidable.not_not.1 h2
  simp only [decide_eq_true h2, pv_some, nilO_ptr, faO_mk, gd_yes, gd_no, gd_yes', gd_no', cnd_true, cnd_false, pick_true, pick_false, not_bool, bin_add, bin_sub, bin_mul, bin_eql, bin_neq, bin_lss, bin_leq, bin_gtr, bin_geq, ext0, ext1, ext2, lenS_mk, eqNil_none, eqNil_some, neNil_none, neNil_some, ret_k, mem, Nat.zero_add, Nat.add_zero, Nat.mul_one, drewV, Bool.not_true, Bool.not_false]
  refine ld_h H.drew 0 rfl rfl ?_
  simp only [lenS_sl hlk.part, pv_some, nilO_ptr, faO_mk, gd_yes, gd_no, gd_yes', gd_no', cnd_true, cnd_false, pick_true, pick_false, not_bool, bin_add, bin_sub, bin_mul, bin_eql, bin_neq, bin_lss, bin_leq, bin_gtr, bin_geq, ext0, ext1, ext2, lenS_mk, eqNil_none, eqNil_some, neNil_none, neNil_some, ret_k, mem, Nat.zero_add, Nat.add_zero, Nat.mul_one, drewV, Bool.not_true, Bool.not_false]
  refine ld_h H.drew 1 rfl rfl ?_
  simp only [lenS_sl ht, pv_some, nilO_ptr, faO_mk, gd_yes, gd_no, gd_yes', gd_no', cnd_true, cnd_false, pick_true, pick_false, not_bool, bin_add, bin_sub, bin_mul, bin_eql, bin_neq, bin_lss, bin_leq, bin_gtr, bin_geq, ext0, ext1, ext2, lenS_mk, eqNil_none, eqNil_some, neNil_none, neNil_some, ret_k, mem, Nat.zero_add, Nat.add_zero, Nat.mul_one, drewV, Bool.not_true, Bool.not_false]
  rw [wrap64_id (by omega) (by omega)]
  by_cases h3 : ¬ ((M.part.length : Int) + (d.length : Int) ≤ 4096)
  · simp only [decide_eq_false h3, pv_some, nilO_ptr, faO_mk, gd_yes, gd_no, gd_yes', gd_no', cnd_true, cnd_false, pick_true, pick_false, not_bool, bin_add, bin_sub, bin_mul, bin_eql, bin_neq, bin_lss, bin_leq, bin_gtr, bin_geq, ext0, ext1, ext2, lenS_mk, eqNil_none, eqNil_some, neNil_none, neNil_some, ret_k, mem, Nat.zero_add, Nat.add_zero, Nat.mul_one, drewV, Bool.not_true, Bool.not_false]
    unfold F51_j7
    simp only [pv_some, nilO_ptr, faO_mk, gd_yes, gd_no, gd_yes', gd_no', cnd_true, cnd_false, pick_true, pick_false, not_bool, bin_add, bin_sub, bin_mul, bin_eql, bin_neq, bin_lss, bin_leq, bin_gtr, bin_geq, ext0, ext1, ext2, lenS_mk, eqNil_none, eqNil_some, neNil_none, neNil_some, ret_k, mem, Nat.zero_add, Nat.add_zero, Nat.mul_one, drewV, Bool.not_true, Bool.not_false]
    exact no (fun h => h3 (by have := h.2.2; omega)) H.drew
  replace h3 := Decidable.not_not.1 h3
  simp only [decide_eq_true h3, pv_some, nilO_ptr, faO_mk, gd_yes, gd_no, gd_yes', gd_no', cnd_true, cnd_false, pick_true, pick_false, not_bool, bin_add, bin_sub, bin_mul, bin_eql, bin_neq, bin_lss, bin_leq, bin_gtr, bin_geq, ext0, ext1, ext2, lenS_mk, eqNil_none, eqNil_some, neNil_none, neNil_some, ret_k, mem, Nat.zero_add, Nat.add_zero, Nat.mul_one, drewV, Bool.not_true, Bool.not_false]
  unfold F51_j7
  simp only [pv_some, nilO_ptr, faO_mk, gd_yes, gd_no, gd_yes', gd_no', cnd_true, cnd_false, pick_true, pick_false, not_bool, bin_add, bin_sub, bin_mul, bin_eql, bin_neq, bin_lss, bin_leq, bin_gtr, bin_geq, ext0, ext1, ext2, lenS_mk, eqNil_none, eqNil_some, neNil_none, neNil_some, ret_k, mem, Nat.zero_add, Nat.add_zero, Nat.mul_one, drewV, Bool.not_true, Bool.not_false]
  have hf : fitB M m f d := ⟨h1, h2, by omega⟩
  unfold F51_j8
  simp only [pv_some, nilO_ptr, faO_mk, gd_yes, gd_no, gd_yes', gd_no', cnd_true, cnd_false, pick_true, pick_false, not_bool, bin_add, bin_sub, bin_mul, bin_eql, bin_neq, bin_lss, bin_leq, bin_gtr, bin_geq, ext0, ext1, ext2, lenS_mk, eqNil_none, eqNil_some, neNil_none, neNil_some, ret_k, mem, Nat.zero_add, Nat.add_zero, Nat.mul_one, drewV, Bool.not_true, Bool.not_false]
  have cell0 : ∀ {w : World} {G : List Chunk}, Hp w0 w (G ++ (⟨b, 125, rlc M su sus sp sa⟩ :: ⟨fb, 52, frm 1 last m f t⟩ :: (cus ++ (cu ++ (cp ++ (ca ++ (D ++ (cs ++ F)))))))) → w.cell? ⟨b, 13, none⟩ = some sp ∧ w.cell? ⟨fb, 4, none⟩ = some t := by
    intro w G H
    have H' : Hp w0 w (⟨b, 125, rlc M su sus sp sa⟩ :: ⟨fb, 52, frm 1 last m f t⟩ :: (G ++ (cus ++ (cu ++ (cp ++ (ca ++ (D ++ (cs ++ F)))))))) := H.to (by intro f; simp only [I, U8, U64, ptr, List.set_cons_zero, List.set_cons_succ, List.eraseIdx_cons_zero, List.eraseIdx_cons_succ, List.map_append, List.map_cons, List.map_nil, List.sum_append, List.sum_cons, List.sum_nil]; omega)
    exact ⟨H'.cell 0 (o := 13) rfl rfl, H'.cell 1 (o := 4) rfl rfl⟩
  have Hd := H.drew.drew
  have c0 := cell0 (G := []) Hd
  refine lit0_h elT24 Hd fun w1 z0 Hz hz0 => ?_
  try simp only [pv_some, nilO_ptr, faO_mk, gd_yes, gd_no, gd_yes', gd_no', cnd_true, cnd_false, pick_true, pick_false, not_bool, bin_add, bin_sub, bin_mul, bin_eql, bin_neq, bin_lss, bin_leq, bin_gtr, bin_geq, ext0, ext1, ext2, lenS_mk, eqNil_none, eqNil_some, neNil_none, neNil_some, ret_k, mem, Nat.zero_add, Nat.add_zero, Nat.mul_one, drewV, Bool.not_true, Bool.not_false]
  refine ldS_h Hz 0 rfl rfl (by intro y hy; simp at hy; subst hy; exact c0.1) ?_
  have c1 := cell0 (G := []) Hz
  refine append_h (cs := []) elT24 Hz hz0 (hlk.part.rdL fun c hc => by simp [hc]) bv_scalar (by omega) (by omega) fun w2 z1 cz1 Hz1 hz1 => ?_
  try simp only [pv_some, nilO_ptr, faO_mk, gd_yes, gd_no, gd_yes', gd_no', cnd_true, cnd_false, pick_true, pick_false, not_bool, bin_add, bin_sub, bin_mul, bin_eql, bin_neq, bin_lss, bin_leq, bin_gtr, bin_geq, ext0, ext1, ext2, lenS_mk, eqNil_none, eqNil_some, neNil_none, neNil_some, ret_k, mem, Nat.zero_add, Nat.add_zero, Nat.mul_one, drewV, Bool.not_true, Bool.not_false]
  have Hz1' : Hp w0 w2 (cz1 ++ (⟨b, 125, rlc M su sus sp sa⟩ :: ⟨fb, 52, frm 1 last m f t⟩ :: (cus ++ (cu ++ (cp ++ (ca ++ (D ++ (cs ++ F)))))))) := Hz1
  have c2 := cell0 Hz1'
  have Hz1'' : Hp w0 w2 (⟨fb, 52, frm 1 last m f t⟩ :: (cz1 ++ (⟨b, 125, rlc M su sus sp sa⟩ :: (cus ++ (cu ++ (cp ++ (ca ++ (D ++ (cs ++ F)))))))))  := Hz1'.to (by intro f; simp only [I, U8, U64, ptr, List.set_cons_zero, List.set_cons_succ, List.eraseIdx_cons_zero, List.eraseIdx_cons_succ, List.map_append, List.map_cons, List.map_nil, List.sum_append, List.sum_cons, List.sum_nil]; omega)
  refine ldS_h Hz1'' 0 rfl rfl (by intro y hy; simp at hy; rcases hy with rfl | rfl; exact c1.2; exact c0.2) ?_
  refine append_h elT24 Hz1' hz1 (ht.rdL fun c hc => by simp [hc]) bv_scalar (by omega) (by omega) fun w3 s1 cp1 H1 hp1 => ?_
  rw [List.nil_append, ← bv_append] at hp1
  rw [Nat.zero_add] at hp1
  try simp only [pv_some, nilO_ptr, faO_mk, gd_yes, gd_no, gd_yes', gd_no', cnd_true, cnd_false, pick_true, pick_false, not_bool, bin_add, bin_sub, bin_mul, bin_eql, bin_neq, bin_lss, bin_leq, bin_gtr, bin_geq, ext0, ext1, ext2, lenS_mk, eqNil_none, eqNil_some, neNil_none, neNil_some, ret_k, mem, Nat.zero_add, Nat.add_zero, Nat.mul_one, drewV, Bool.not_true, Bool.not_false]
  have H1' : Hp w0 w3 (⟨b, 125, rlc M su sus sp sa⟩ :: ⟨fb, 52, frm 1 last m f t⟩ :: (cus ++ (cu ++ (cp1 ++ (ca ++ (D ++ (cs ++ F))))))) := H1.to (by intro f; simp only [I, U8, U64, ptr, List.set_cons_zero, List.set_cons_succ, List.eraseIdx_cons_zero, List.eraseIdx_cons_succ, List.map_append, List.map_cons, List.map_nil, List.sum_append, List.sum_cons, List.sum_nil]; omega)
  refine st_h H1' 0 rfl (by simp [rlc]) (sl_sc hp1) fun w2 H2 => ?_
  try simp only [pv_some, nilO_ptr, faO_mk, gd_yes, gd_no, gd_yes', gd_no', cnd_true, cnd_false, pick_true, pick_false, not_bool, bin_add, bin_sub, bin_mul, bin_eql, bin_neq, bin_lss, bin_leq, bin_gtr, bin_geq, ext0, ext1, ext2, lenS_mk, eqNil_none, eqNil_some, neNil_none, neNil_some, ret_k, mem, Nat.zero_add, Nat.add_zero, Nat.mul_one, drewV, Bool.not_true, Bool.not_false]
  refine ld_h H2 0 rfl rfl ?_
  have hfb : f < 2 ^ 62 := hfr.1
  simp only [pv_some, nilO_ptr, faO_mk, gd_yes, gd_no, gd_yes', gd_no', cnd_true, cnd_false, pick_true, pick_false, not_bool, bin_add, bin_sub, bin_mul, bin_eql, bin_neq, bin_lss, bin_leq, bin_gtr, bin_geq, ext0, ext1, ext2, lenS_mk, eqNil_none, eqNil_some, neNil_none, neNil_some, ret_k, mem, Nat.zero_add, Nat.add_zero, Nat.mul_one, drewV, Bool.not_true, Bool.not_false]
  rw [wrap64_id (by omega) (by omega)]
  refine st_h H2 0 rfl (by simp [rlc]) rfl fun w3 H3 => ?_
  try simp only [pv_some, nilO_ptr, faO_mk, gd_yes, gd_no, gd_yes', gd_no', cnd_true, cnd_false, pick_true, pick_false, not_bool, bin_add, bin_sub, bin_mul, bin_eql, bin_neq, bin_lss, bin_leq, bin_gtr, bin_geq, ext0, ext1, ext2, lenS_mk, eqNil_none, eqNil_some, neNil_none, neNil_some, ret_k, mem, Nat.zero_add, Nat.add_zero, Nat.mul_one, drewV, Bool.not_true, Bool.not_false]
  refine ld_h H3 1 rfl rfl ?_
  generalize hM1 : ({ M with part := M.part ++ d, frag := M.frag + 1 } : LM) = M1
  have H3' : Hp w0 w3 (⟨b, 125, rlc M1 su sus s1 sa⟩ :: ⟨fb, 52, frm 1 last m f t⟩ :: (cus ++ (cu ++ (cp1 ++ (ca ++ (D ++ (cs ++ F))))))) := by rw [← hM1]; exact H3
  have hlk1 : LkP 141 144 w0 M1 su sus s1 sa cu cus cp1 ca D sv := by
    rw [← hM1]
    exact ⟨hlk.up, hlk.us, hlk.svl, hlk.dat, by rw [List.length_append]; exact hp1, hlk.acks⟩
  have hal1 : M1.acks.length < 2 ^ 30 := by rw [← hM1]; exact hal
  unfold F51_j9
  cases hl : last with
  | false =>
    have e1 : takeM M m f last d = M1 := by unfold takeM; rw [if_pos hf, hl, ← hM1]; rfl
    have e2 : takeV M m f last d = [] := by unfold takeV; rw [if_neg (fun h => by rw [hl] at h; exact absurd h.2 (by decide))]
    rw [e1, e2] at k
    simp only [pv_some, nilO_ptr, faO_mk, gd_yes, gd_no, gd_yes', gd_no', cnd_true, cnd_false, pick_true, pick_false, not_bool, bin_add, bin_sub, bin_mul, bin_eql, bin_neq, bin_lss, bin_leq, bin_gtr, bin_geq, ext0, ext1, ext2, lenS_mk, eqNil_none, eqNil_some, neNil_none, neNil_some, ret_k, mem, Nat.zero_add, Nat.add_zero, Nat.mul_one, drewV, Bool.not_true, Bool.not_false]
    refine rin_ack (G := F) hlk1 hal1 hx (H3'.to (by intro f; simp only [I, U8, U64, ptr, List.set_cons_zero, List.set_cons_succ, List.eraseIdx_cons_zero, List.eraseIdx_cons_succ, List.map_append, List.map_cons, List.map_nil, List.sum_append, List.sum_cons, List.sum_nil]; omega)) fun w' L' H' hL' => k w' _ [] [] [] L' H' ⟨hs0, rfl, fun i y s h => by simp at h⟩ hL'
  | true =>
    have e2 : takeV M m f last d = [M.part ++ d] := by unfold takeV; rw [if_pos ⟨hf, hl⟩]
    rw [e2] at k
    simp only [pv_some, nilO_ptr, faO_mk, gd_yes, gd_no, gd_yes', gd_no', cnd_true, cnd_false, pick_true, pick_false, not_bool, bin_add, bin_sub, bin_mul, bin_eql, bin_neq, bin_lss, bin_leq, bin_gtr, bin_geq, ext0, ext1, ext2, lenS_mk, eqNil_none, eqNil_some, neNil_none, neNil_some, ret_k, mem, Nat.zero_add, Nat.add_zero, Nat.mul_one, drewV, Bool.not_true, Bool.not_false]
    unfold F51_j10
    simp only [pv_some, nilO_ptr, faO_mk, gd_yes, gd_no, gd_yes', gd_no', cnd_true, cnd_false, pick_true, pick_false, not_bool, bin_add, bin_sub, bin_mul, bin_eql, bin_neq, bin_lss, bin_leq, bin_gtr, bin_geq, ext0, ext1, ext2, lenS_mk, eqNil_none, eqNil_some, neNil_none, neNil_some, ret_k, mem, Nat.zero_add, Nat.add_zero, Nat.mul_one, drewV, Bool.not_true, Bool.not_false]
    refine ld_h H3' 0 rfl rfl ?_
    refine lit1s_h elT36 H3' (sl_cells hp1) fun w4 nb H4 => ?_
    refine append_h (cs := []) (n := 0) (m := 1) (xs := []) (ys := [s1]) elT36 H4 hs0 (.inr ⟨nb, 0, 1, 24, [s1], rfl, by omega, by simp, by simp, rfl⟩) (by intro c hc; simp at hc; subst hc; exact sl_sc hp1) (by omega) (by omega) fun w5 s5 co H5 h5 => ?_
    try simp only [pv_some, nilO_ptr, faO_mk, gd_yes, gd_no, gd_yes', gd_no', cnd_true, cnd_false, pick_true, pick_false, not_bool, bin_add, bin_sub, bin_mul, bin_eql, bin_neq, bin_lss, bin_leq, bin_gtr, bin_geq, ext0, ext1, ext2, lenS_mk, eqNil_none, eqNil_some, neNil_none, neNil_some, ret_k, mem, Nat.zero_add, Nat.add_zero, Nat.mul_one, drewV, Bool.not_true, Bool.not_false]
    have H5' : Hp w0 w5 (⟨b, 125, rlc M1 su sus s1 sa⟩ :: (co ++ (cp1 ++ (cus ++ (cu ++ (ca ++ (D ++ F))))))) := H5.to (by intro f; simp only [I, U8, U64, ptr, List.set_cons_zero, List.set_cons_succ, List.eraseIdx_cons_zero, List.eraseIdx_cons_succ, List.map_append, List.map_cons, List.map_nil, List.sum_append, List.sum_cons, List.sum_nil]; omega)
    refine ld_h H5' 0 rfl rfl ?_
    have em : M1.msg = M.msg := by rw [← hM1]
    simp only [pv_some, nilO_ptr, faO_mk, gd_yes, gd_no, gd_yes', gd_no', cnd_true, cnd_false, pick_true, pick_false, not_bool, bin_add, bin_sub, bin_mul, bin_eql, bin_neq, bin_lss, bin_leq, bin_gtr, bin_geq, ext0, ext1, ext2, lenS_mk, eqNil_none, eqNil_some, neNil_none, neNil_some, ret_k, mem, Nat.zero_add, Nat.add_zero, Nat.mul_one, drewV, Bool.not_true, Bool.not_false]
    rw [em, wrap64_id (by omega) (by omega)]
    refine st_h H5' 0 rfl (by simp [rlc]) rfl fun w7 H7 => ?_
    try simp only [pv_some, nilO_ptr, faO_mk, gd_yes, gd_no, gd_yes', gd_no', cnd_true, cnd_false, pick_true, pick_false, not_bool, bin_add, bin_sub, bin_mul, bin_eql, bin_neq, bin_lss, bin_leq, bin_gtr, bin_geq, ext0, ext1, ext2, lenS_mk, eqNil_none, eqNil_some, neNil_none, neNil_some, ret_k, mem, Nat.zero_add, Nat.add_zero, Nat.mul_one, drewV, Bool.not_true, Bool.not_false]
    refine st_h H7 0 rfl (by simp [rlc]) rfl fun w8 H8 => ?_
    try simp only [pv_some, nilO_ptr, faO_mk, gd_yes, gd_no, gd_yes', gd_no', cnd_true, cnd_false, pick_true, pick_false, not_bool, bin_add, bin_sub, bin_mul, bin_eql, bin_neq, bin_lss, bin_leq, bin_gtr, bin_geq, ext0, ext1, ext2, lenS_mk, eqNil_none, eqNil_some, neNil_none, neNil_some, ret_k, mem, Nat.zero_add, Nat.add_zero, Nat.mul_one, drewV, Bool.not_true, Bool.not_false]
    refine st_h H8 0 rfl (by simp [rlc]) rfl fun w9 H9 => ?_
    generalize hM2 : takeM M m f true d = M2
    have hM2' : M2 = { M with msg := M.msg + 1, frag := 0, part := [] } := by rw [← hM2]; unfold takeM; rw [if_pos hf]; rfl
    have H9' : Hp w0 w9 (⟨b, 125, rlc M2 su sus (.slice none 0 0) sa⟩ :: (co ++ (cp1 ++ (cus ++ (cu ++ (ca ++ (D ++ F))))))) := by rw [hM2', hM1.symm] at *; exact H9
    have hlk2 : LkP 141 144 w0 M2 su sus (.slice none 0 0) sa cu cus [] ca D sv := by
      rw [hM2']
      exact ⟨hlk.up, hlk.us, hlk.svl, hlk.dat, Sl.nil, hlk.acks⟩
    have hal2 : M2.acks.length < 2 ^ 30 := by rw [hM2']; exact hal
    refine rin_ack (G := co ++ (cp1 ++ F)) hlk2 hal2 hx (H9'.to (by intro f; simp only [I, U8, U64, ptr, List.set_cons_zero, List.set_cons_succ, List.eraseIdx_cons_zero, List.eraseIdx_cons_succ, List.map_append, List.map_cons, List.map_nil, List.sum_append, List.sum_cons, List.sum_nil]; omega)) fun w' L' H' hL' => k w' s5 co cp1 [s1] L' (H'.to (by intro f; simp only [I, U8, U64, ptr, List.set_cons_zero, List.set_cons_succ, List.eraseIdx_cons_zero, List.eraseIdx_cons_succ, List.map_append, List.map_cons, List.map_nil, List.sum_append, List.sum_cons, List.sum_nil]; omega)) ⟨?_, rfl, ?_⟩ ?_
    · simpa using h5
    · intro i ys s hi hs
      have h0 : i = 0 := by have := (List.getElem?_eq_some_iff.1 hi).1; simp at this; omega
      subst h0
      simp at hi hs
      subst hi; subst hs
      exact (by rw [List.length_append]; exact hp1.rdL fun c hc => hc)
    · rw [hl, hM2]; exact hL'
theorem rInput_spec {b : Nat} {M : LM} {x now : Int} {s : Value} {n : Nat} {xs : List Int} (H : Hp w0 w (L ++ F)) (hL : rLk w0 b M L) (hs : RdL w0 F 1 s n (bv xs)) (hn : n < 2 ^ 40) (hby : 0 ≤ dB xs) (hul : M.us.length < 2 ^ 30) (hal : M.acks.length < 2 ^ 30) (hp4 : M.part.length ≤ 4096)
    (hmsg : 0 ≤ M.msg ∧ M.msg < 2 ^ 62) (hfr : 0 ≤ M.frag) (hch : Chn M.us) (hpre : Pre M.us) (hr : ∀ u ∈ M.us, (0 ≤ u.m ∧ u.m < 2 ^ 62) ∧ 0 ≤ u.f ∧ u.f < 2 ^ 62) :
    Calls Pg 51 ⟨[ptr b 0, I x, s, I now]⟩ w (InPost w0 F rLk b M x xs now) := by
  have hL0 := hL
  obtain ⟨su, sus, sp, sa, cu, cus, cp, ca, D, sv, hlk, rfl⟩ := hL
  have H0 : Hp w0 w (⟨b, 125, rlc M su sus sp sa⟩ :: (cus ++ (cu ++ (cp ++ (ca ++ (D ++ F)))))) := H.to (by intro f; simp only [I, U8, U64, ptr, List.set_cons_zero, List.set_cons_succ, List.eraseIdx_cons_zero, List.eraseIdx_cons_succ, List.map_append, List.map_cons, List.map_nil, List.sum_append, List.sum_cons, List.sum_nil]; omega)
  have fail : ∀ {w' : World} {er : Int}, Hp w0 w' (⟨b, 125, rlc M su sus sp sa⟩ :: (cus ++ (cu ++ (cp ++ (ca ++ (D ++ F)))))) → er ≠ 0 → inE M x xs now = er → InPost w0 F rLk b M x xs now (.returned (.tuple ⟨[.slice none 0 0, I er]⟩)) w' := by
    intro w' er H' hne he
    have hne' : inE M x xs now ≠ 0 := by rw [he]; exact hne
    refine ⟨_, [], [], [], ⟨b, 125, rlc M su sus sp sa⟩ :: (cu ++ (cus ++ (cp ++ (ca ++ D)))), by rw [he], H'.to (by intro f; simp only [I, U8, U64, ptr, List.set_cons_zero, List.set_cons_succ, List.eraseIdx_cons_zero, List.eraseIdx_cons_succ, List.map_append, List.map_cons, List.map_nil, List.sum_append, List.sum_cons, List.sum_nil]; omega), ?_, ?_⟩
    · unfold inV; rw [if_pos hne']; exact MsgP.nil
    · unfold inM; rw [if_pos hne']; exact hL0
  apply F51_calls
  unfold F51 F51_j11
  simp only [pv_some, nilO_ptr, faO_mk, gd_yes, gd_no, gd_yes', gd_no', cnd_true, cnd_false, pick_true, pick_false, not_bool, bin_add, bin_sub, bin_mul, bin_eql, bin_neq, bin_lss, bin_leq, bin_gtr, bin_geq, ext0, ext1, ext2, lenS_mk, eqNil_none, eqNil_some, neNil_none, neNil_some, ret_k, mem, Nat.zero_add, Nat.add_zero, Nat.mul_one, drewV, Bool.not_true, Bool.not_false]
  by_cases h1 : x < 0
  · simp only [decide_eq_true h1, pv_some, nilO_ptr, faO_mk, gd_yes, gd_no, gd_yes', gd_no', cnd_true, cnd_false, pick_true, pick_false, not_bool, bin_add, bin_sub, bin_mul, bin_eql, bin_neq, bin_lss, bin_leq, bin_gtr, bin_geq, ext0, ext1, ext2, lenS_mk, eqNil_none, eqNil_some, neNil_none, neNil_some, ret_k, mem, Nat.zero_add, Nat.add_zero, Nat.mul_one, drewV, Bool.not_true, Bool.not_false]
    exact fail H0 (by decide) (by unfold inE; rw [if_pos (.inl h1)])
  simp only [decide_eq_false h1, pv_some, nilO_ptr, faO_mk, gd_yes, gd_no, gd_yes', gd_no', cnd_true, cnd_false, pick_true, pick_false, not_bool, bin_add, bin_sub, bin_mul, bin_eql, bin_neq, bin_lss, bin_leq, bin_gtr, bin_geq, ext0, ext1, ext2, lenS_mk, eqNil_none, eqNil_some, neNil_none, neNil_some, ret_k, mem, Nat.zero_add, Nat.add_zero, Nat.mul_one, drewV, Bool.not_true, Bool.not_false]
  refine ld_h H0 0 rfl rfl ?_
  simp only [lenS_sl hlk.up, pv_some, nilO_ptr, faO_mk, gd_yes, gd_no, gd_yes', gd_no', cnd_true, cnd_false, pick_true, pick_false, not_bool, bin_add, bin_sub, bin_mul, bin_eql, bin_neq, bin_lss, bin_leq, bin_gtr, bin_geq, ext0, ext1, ext2, lenS_mk, eqNil_none, eqNil_some, neNil_none, neNil_some, ret_k, mem, Nat.zero_add, Nat.add_zero, Nat.mul_one, drewV, Bool.not_true, Bool.not_false]
  refine cnd_decide (fun h2 => ?_) (fun h2 => ?_)
  · exact fail H0 (by decide) (by unfold inE; rw [if_pos (.inr h2)])
  unfold F51_j1
  have hno : ¬ (x < 0 ∨ (M.up.length : Int) ≤ x) := by omega
  refine cal_h (rtime_spec (now := now) H0) ?_
  rintro e w1 ⟨rfl, rfl⟩
  simp only [pv_some, nilO_ptr, faO_mk, gd_yes, gd_no, gd_yes', gd_no', cnd_true, cnd_false, pick_true, pick_false, not_bool, bin_add, bin_sub, bin_mul, bin_eql, bin_neq, bin_lss, bin_leq, bin_gtr, bin_geq, ext0, ext1, ext2, lenS_mk, eqNil_none, eqNil_some, neNil_none, neNil_some, ret_k, mem, Nat.zero_add, Nat.add_zero, Nat.mul_one, drewV, Bool.not_true, Bool.not_false]
  by_cases h3 : timeE M now ≠ 0
  · simp only [decide_eq_true h3, pv_some, nilO_ptr, faO_mk, gd_yes, gd_no, gd_yes', gd_no', cnd_true, cnd_false, pick_true, pick_false, not_bool, bin_add, bin_sub, bin_mul, bin_eql, bin_neq, bin_lss, bin_leq, bin_gtr, bin_geq, ext0, ext1, ext2, lenS_mk, eqNil_none, eqNil_some, neNil_none, neNil_some, ret_k, mem, Nat.zero_add, Nat.add_zero, Nat.mul_one, drewV, Bool.not_true, Bool.not_false]
    exact fail H0 h3 (by unfold inE; rw [if_neg hno, if_pos h3])
  simp only [decide_eq_false h3, pv_some, nilO_ptr, faO_mk, gd_yes, gd_no, gd_yes', gd_no', cnd_true, cnd_false, pick_true, pick_false, not_bool, bin_add, bin_sub, bin_mul, bin_eql, bin_neq, bin_lss, bin_leq, bin_gtr, bin_geq, ext0, ext1, ext2, lenS_mk, eqNil_none, eqNil_some, neNil_none, neNil_some, ret_k, mem, Nat.zero_add, Nat.add_zero, Nat.mul_one, drewV, Bool.not_true, Bool.not_false]
  unfold F51_j2
  have H0' : Hp w0 w1 ((⟨b, 125, rlc M su sus sp sa⟩ :: (cus ++ (cu ++ (cp ++ (ca ++ D))))) ++ F) := H0.to (by intro f; simp only [I, U8, U64, ptr, List.set_cons_zero, List.set_cons_succ, List.eraseIdx_cons_zero, List.eraseIdx_cons_succ, List.map_append, List.map_cons, List.map_nil, List.sum_append, List.sum_cons, List.sum_nil]; omega)
  refine cal_h (rDecode_spec (hs.mono fun c hc => List.mem_append_right _ hc) hn hby H0') ?_
  rintro e w2 ⟨k, last, m, f, t, n', ys, cs, rfl, H2, hS, z1, o1⟩
  simp only [pv_some, nilO_ptr, faO_mk, gd_yes, gd_no, gd_yes', gd_no', cnd_true, cnd_false, pick_true, pick_false, not_bool, bin_add, bin_sub, bin_mul, bin_eql, bin_neq, bin_lss, bin_leq, bin_gtr, bin_geq, ext0, ext1, ext2, lenS_mk, eqNil_none, eqNil_some, neNil_none, neNil_some, ret_k, mem, Nat.zero_add, Nat.add_zero, Nat.mul_one, drewV, Bool.not_true, Bool.not_false]
  have htsc := (hS.rdL (L := cs) (w0 := w0) fun c hc => hc)
  refine al_h H2 (z := zfrm) (by kernel_rfl) fun w3 fb H3 => ?_
  refine stA_h H3 0 rfl rfl rfl (frm_scalar (rd_cells htsc).2) fun w4 H4 => ?_
  simp only [List.set_cons_zero] at H4
  have hE : inE M x xs now = decE xs := by unfold inE; rw [if_neg hno, if_neg h3]
  by_cases h4 : decE xs ≠ 0
  · simp only [decide_eq_true h4, pv_some, nilO_ptr, faO_mk, gd_yes, gd_no, gd_yes', gd_no', cnd_true, cnd_false, pick_true, pick_false, not_bool, bin_add, bin_sub, bin_mul, bin_eql, bin_neq, bin_lss, bin_leq, bin_gtr, bin_geq, ext0, ext1, ext2, lenS_mk, eqNil_none, eqNil_some, neNil_none, neNil_some, ret_k, mem, Nat.zero_add, Nat.add_zero, Nat.mul_one, drewV, Bool.not_true, Bool.not_false]
    exact fail (H4.to (by intro f; simp only [I, U8, U64, ptr, List.set_cons_zero, List.set_cons_succ, List.eraseIdx_cons_zero, List.eraseIdx_cons_succ, List.map_append, List.map_cons, List.map_nil, List.sum_append, List.sum_cons, List.sum_nil]; omega)) h4 hE
  simp only [decide_eq_false h4, pv_some, nilO_ptr, faO_mk, gd_yes, gd_no, gd_yes', gd_no', cnd_true, cnd_false, pick_true, pick_false, not_bool, bin_add, bin_sub, bin_mul, bin_eql, bin_neq, bin_lss, bin_leq, bin_gtr, bin_geq, ext0, ext1, ext2, lenS_mk, eqNil_none, eqNil_some, neNil_none, neNil_some, ret_k, mem, Nat.zero_add, Nat.add_zero, Nat.mul_one, drewV, Bool.not_true, Bool.not_false]
  replace h4 := Decidable.not_not.1 h4
  obtain ⟨rfl, rfl, rfl, rfl, hn', rfl⟩ := o1 h4
  obtain ⟨g1, g2, g3⟩ := decE_zero h4
  unfold F51_j3
  have H4' : Hp w0 w4 (⟨b, 125, rlc M su sus sp sa⟩ :: ⟨fb, 52, frm (dK xs) (decide (dB xs = 1)) (dM xs) (dF xs) t⟩ :: (cus ++ (cu ++ (cp ++ (ca ++ (D ++ (cs ++ F))))))) := H4.to (by intro f; simp only [I, U8, U64, ptr, List.set_cons_zero, List.set_cons_succ, List.eraseIdx_cons_zero, List.eraseIdx_cons_succ, List.map_append, List.map_cons, List.map_nil, List.sum_append, List.sum_cons, List.sum_nil]; omega)
  simp only [pv_some, nilO_ptr, faO_mk, gd_yes, gd_no, gd_yes', gd_no', cnd_true, cnd_false, pick_true, pick_false, not_bool, bin_add, bin_sub, bin_mul, bin_eql, bin_neq, bin_lss, bin_leq, bin_gtr, bin_geq, ext0, ext1, ext2, lenS_mk, eqNil_none, eqNil_some, neNil_none, neNil_some, ret_k, mem, Nat.zero_add, Nat.add_zero, Nat.mul_one, drewV, Bool.not_true, Bool.not_false]
  refine st_h H4' 0 rfl (by simp [rlc]) rfl fun w5 H5 => ?_
  have H5' : Hp w0 w5 (⟨b, 125, rlc { M with clock := now } su sus sp sa⟩ :: ⟨fb, 52, frm (dK xs) (decide (dB xs = 1)) (dM xs) (dF xs) t⟩ :: (cus ++ (cu ++ (cp ++ (ca ++ (D ++ (cs ++ F))))))) := H5
  try simp only [pv_some, nilO_ptr, faO_mk, gd_yes, gd_no, gd_yes', gd_no', cnd_true, cnd_false, pick_true, pick_false, not_bool, bin_add, bin_sub, bin_mul, bin_eql, bin_neq, bin_lss, bin_leq, bin_gtr, bin_geq, ext0, ext1, ext2, lenS_mk, eqNil_none, eqNil_some, neNil_none, neNil_some, ret_k, mem, Nat.zero_add, Nat.add_zero, Nat.mul_one, drewV, Bool.not_true, Bool.not_false]
  refine ld_h H5' 1 rfl rfl ?_
  simp only [pv_some, nilO_ptr, faO_mk, gd_yes, gd_no, gd_yes', gd_no', cnd_true, cnd_false, pick_true, pick_false, not_bool, bin_add, bin_sub, bin_mul, bin_eql, bin_neq, bin_lss, bin_leq, bin_gtr, bin_geq, ext0, ext1, ext2, lenS_mk, eqNil_none, eqNil_some, neNil_none, neNil_some, ret_k, mem, Nat.zero_add, Nat.add_zero, Nat.mul_one, drewV, Bool.not_true, Bool.not_false]
  have hlk5 : LkP 141 144 w0 { M with clock := now } su sus sp sa cu cus cp ca D sv := ⟨hlk.up, hlk.us, hlk.svl, hlk.dat, hlk.part, hlk.acks⟩
  have hE0 : inE M x xs now = 0 := by rw [hE]; exact h4
  refine cnd_decide (fun h5 => ?_) (fun h5 => ?_)
  · refine ldA_h H5' 1 rfl rfl ?_
    have H5'' : Hp w0 w5 ((⟨b, 125, rlc { M with clock := now } su sus sp sa⟩ :: (cu ++ (cus ++ (cp ++ (ca ++ D))))) ++ (⟨fb, 52, frm (dK xs) (decide (dB xs = 1)) (dM xs) (dF xs) t⟩ :: (cs ++ F))) := H5'.to (by intro f; simp only [I, U8, U64, ptr, List.set_cons_zero, List.set_cons_succ, List.eraseIdx_cons_zero, List.eraseIdx_cons_succ, List.map_append, List.map_cons, List.map_nil, List.sum_append, List.sum_cons, List.sum_nil]; omega)
    refine cal_h (racknowledge_spec H5'' ⟨su, sus, sp, sa, cu, cus, cp, ca, D, sv, hlk5, rfl⟩ hul hch hpre hr) ?_
    rintro e w6 ⟨L', rfl, H6, hL'⟩
    simp only [pv_some, nilO_ptr, faO_mk, gd_yes, gd_no, gd_yes', gd_no', cnd_true, cnd_false, pick_true, pick_false, not_bool, bin_add, bin_sub, bin_mul, bin_eql, bin_neq, bin_lss, bin_leq, bin_gtr, bin_geq, ext0, ext1, ext2, lenS_mk, eqNil_none, eqNil_some, neNil_none, neNil_some, ret_k, mem, Nat.zero_add, Nat.add_zero, Nat.mul_one, drewV, Bool.not_true, Bool.not_false]
    refine lit0_h elT36 H6 fun w7 s0 H7 hs0 => ?_
    refine ⟨_, [], [], [], L', by rw [hE0], H7.to (by intro f; simp only [I, U8, U64, ptr, List.set_cons_zero, List.set_cons_succ, List.eraseIdx_cons_zero, List.eraseIdx_cons_succ, List.map_append, List.map_cons, List.map_nil, List.sum_append, List.sum_cons, List.sum_nil]; omega), ?_, ?_⟩
    · unfold inV; rw [if_neg (by rw [hE0]; decide), if_pos h5]; exact ⟨hs0, rfl, fun i y s h => by simp at h⟩
    · unfold inM; rw [if_neg (by rw [hE0]; decide), if_pos h5]; exact hL'
  · have hk1 : dK xs = 1 := by
      rcases g3.1 with h | h
      · exact h
      · exact absurd h.1 h5
    have hdl : (xs.drop 24).length = n' := by rw [List.length_drop]; omega
    rw [hk1] at H5'
    refine rin_data (M := { M with clock := now }) (m := dM xs) (f := dF xs) (last := decide (dB xs = 1)) (d := xs.drop 24) hlk5 hal (by omega) hdl (by omega) hp4 hS hmsg ⟨?_, hfr⟩ H5' fun w' s co Db svm L' H' hm hL' => ?_
    · have := g3.2.2.2.2; omega
    · refine ⟨s, co, Db, svm, L', by rw [hE0], H', ?_, ?_⟩
      · unfold inV; rw [if_neg (by rw [hE0]; decide), if_neg h5]; exact hm
      · unfold inM; rw [if_neg (by rw [hE0]; decide), if_neg h5]; exact hL'
end
end Go.Proofs.Ytmnpndgmfmjfhaa.Den
end

section
set_option linter.unusedVariables false
set_option linter.unusedSimpArgs false
set_option maxRecDepth 8000
namespace Go.Proofs.Ytmnpndgmfmjfhaa.Den
open Go Go.RowKit
section
variable {w w' : World} {w0 : Base} {F L : List Chunk} {R : ER}
/-! ### slices of bytes compared -/
theorem eq_l {s t : Value} {n : Nat} {xs ys : List Int} (hn : n < 2 ^ 60) (hxl : xs.length = n) (hyl : ys.length = n) : ∀ (d i : Nat) (w : World), Hp w0 w L → RdL w0 L 1 s n (bv xs) → RdL w0 L 1 t n (bv ys) → i + d = n →
    (∀ w', Hp w0 w' L → R (.returned (.bool (decide (xs.drop i = ys.drop i)))) w') → F19_l1 R (d + 1) s t (I (n : Int)) (I (i : Int)) w := by
  intro d
  induction d with
  | zero =>
    intro i w H h1 h2 hi k
    rw [F19_l1_succ]
    unfold F19_b1 F19_j2
    simp only [pv_some, nilO_ptr, faO_mk, gd_yes, gd_no, gd_yes', gd_no', cnd_true, cnd_false, pick_true, pick_false, not_bool, bin_add, bin_sub, bin_mul, bin_eql, bin_neq, bin_lss, bin_leq, bin_gtr, bin_geq, ext0, ext1, ext2, lenS_mk, eqNil_none, eqNil_some, neNil_none, neNil_some, ret_k, mem, Nat.zero_add, Nat.add_zero, Nat.mul_one, drewV, Bool.not_true, Bool.not_false, show decide ((i : Int) < (n : Int)) = false from decide_eq_false (by omega)]
    have := k w H
    rw [List.drop_eq_nil_of_le (by omega), List.drop_eq_nil_of_le (by omega)] at this
    exact this
  | succ d ih =>
    intro i w H h1 h2 hi k
    rw [F19_l1_succ]
    unfold F19_b1 F19_j5
    have hx : i < xs.length := by omega
    have hy : i < ys.length := by omega
    simp only [pv_some, nilO_ptr, faO_mk, gd_yes, gd_no, gd_yes', gd_no', cnd_true, cnd_false, pick_true, pick_false, not_bool, bin_add, bin_sub, bin_mul, bin_eql, bin_neq, bin_lss, bin_leq, bin_gtr, bin_geq, ext0, ext1, ext2, lenS_mk, eqNil_none, eqNil_some, neNil_none, neNil_some, ret_k, mem, Nat.zero_add, Nat.add_zero, Nat.mul_one, drewV, Bool.not_true, Bool.not_false, show decide ((i : Int) < (n : Int)) = true from decide_eq_true (by omega)]
    refine ix1_rd (h1.rd H.drew) (bv_get (getElem_of_lt hx)) ?_
    refine ix1_rd (h2.rd H.drew) (bv_get (getElem_of_lt hy)) ?_
    try simp only [pv_some, nilO_ptr, faO_mk, gd_yes, gd_no, gd_yes', gd_no', cnd_true, cnd_false, pick_true, pick_false, not_bool, bin_add, bin_sub, bin_mul, bin_eql, bin_neq, bin_lss, bin_leq, bin_gtr, bin_geq, ext0, ext1, ext2, lenS_mk, eqNil_none, eqNil_some, neNil_none, neNil_some, ret_k, mem, Nat.zero_add, Nat.add_zero, Nat.mul_one, drewV, Bool.not_true, Bool.not_false]
    refine cnd_decide (fun h => ?_) (fun h => ?_)
    · have := k w.drew H.drew
      rw [List.drop_eq_getElem_cons hx, List.drop_eq_getElem_cons hy, show decide (xs[i] :: xs.drop (i + 1) = ys[i] :: ys.drop (i + 1)) = false from decide_eq_false (fun hh => h (List.cons.inj hh).1)] at this
      exact this
    · rw [wrap64_id (by omega) (by omega), show (i : Int) + 1 = ((i + 1 : Nat) : Int) from by omega]
      refine ih (i + 1) w.drew H.drew h1 h2 (by omega) fun w' H' => ?_
      have := k w' H'
      rw [List.drop_eq_getElem_cons hx, List.drop_eq_getElem_cons hy] at this
      have e : xs[i] = ys[i] := Decidable.not_not.1 h
      have e2 : decide (xs[i] :: xs.drop (i + 1) = ys[i] :: ys.drop (i + 1)) = decide (xs.drop (i + 1) = ys.drop (i + 1)) := by
        rw [e]; exact decide_eq_decide.2 ⟨fun h => (List.cons.inj h).2, fun h => by rw [h]⟩
      rw [e2] at this; exact this
theorem Equal_spec {s t : Value} {n m : Nat} {xs ys : List Int} (H : Hp w0 w L) (h1 : RdL w0 L 1 s n (bv xs)) (h2 : RdL w0 L 1 t m (bv ys)) (hn : n < 2 ^ 60) :
    Calls Pg 19 ⟨[s, t]⟩ w fun e w' => e = .returned (.bool (decide (xs = ys))) ∧ Hp w0 w' L := by
  have e1 : xs.length = n := by have := h1.length; rw [bv_length] at this; omega
  have e2 : ys.length = m := by have := h2.length; rw [bv_length] at this; omega
  apply F19_calls
  unfold F19 F19_j1 F19_j3 F19_j4
  simp only [lenS_rdL h1, lenS_rdL h2, pv_some, nilO_ptr, faO_mk, gd_yes, gd_no, gd_yes', gd_no', cnd_true, cnd_false, pick_true, pick_false, not_bool, bin_add, bin_sub, bin_mul, bin_eql, bin_neq, bin_lss, bin_leq, bin_gtr, bin_geq, ext0, ext1, ext2, lenS_mk, eqNil_none, eqNil_some, neNil_none, neNil_some, ret_k, mem, Nat.zero_add, Nat.add_zero, Nat.mul_one, drewV, Bool.not_true, Bool.not_false]
  refine cnd_decide (fun h => ?_) (fun h => ?_)
  · refine ⟨?_, H⟩
    rw [decide_eq_false]
    intro hh; apply h; rw [← e1, ← e2, hh]
  · have hmn : m = n := by omega
    subst hmn
    exact ⟨m + 1, eq_l hn e1 e2 m 0 w H h1 h2 (by omega) fun w' H' => ⟨rfl, H'⟩⟩
/-! ### frames -/
theorem frame_spec {k m f : Int} {last : Bool} {s : Value} (H : Hp w0 w F) (hs : s.cells = #[s]) (hsc : scalar s = true) :
    Calls Pg 18 ⟨[.agg ⟨frm k last m f s⟩]⟩ w fun e w' => e = .returned (.agg ⟨frm k last m f s⟩) ∧ Hp w0 w' F := by
  apply F18_calls
  unfold F18
  refine bxa_h H fun w1 b H1 => ?_
  refine al_h H1 (z := zfrm) (by kernel_rfl) fun w2 c H2 => ?_
  simp only [pv_some, nilO_ptr, faO_mk, gd_yes, gd_no, gd_yes', gd_no', cnd_true, cnd_false, pick_true, pick_false, not_bool, bin_add, bin_sub, bin_mul, bin_eql, bin_neq, bin_lss, bin_leq, bin_gtr, bin_geq, ext0, ext1, ext2, lenS_mk, eqNil_none, eqNil_some, neNil_none, neNil_some, ret_k, mem, Nat.zero_add, Nat.add_zero, Nat.mul_one, drewV, Bool.not_true, Bool.not_false]
  refine ld_h H2 1 rfl rfl ?_
  refine ld_h H2 1 rfl rfl ?_
  refine ld_h H2 1 rfl rfl ?_
  refine ld_h H2 1 rfl rfl ?_
  refine ld_h H2 1 rfl rfl ?_
  simp only [bldF hs, pv_some, nilO_ptr, faO_mk, gd_yes, gd_no, gd_yes', gd_no', cnd_true, cnd_false, pick_true, pick_false, not_bool, bin_add, bin_sub, bin_mul, bin_eql, bin_neq, bin_lss, bin_leq, bin_gtr, bin_geq, ext0, ext1, ext2, lenS_mk, eqNil_none, eqNil_some, neNil_none, neNil_some, ret_k, mem, Nat.zero_add, Nat.add_zero, Nat.mul_one, drewV, Bool.not_true, Bool.not_false]
  refine stA_h H2 0 rfl rfl rfl (frm_scalar hsc) fun w3 H3 => ?_
  refine ldA_h H3 0 rfl rfl ?_
  exact ⟨rfl, H3.tail.tail⟩
theorem sameFrame_true {k m f : Int} {last : Bool} {s t : Value} {n n' : Nat} {xs : List Int} (H : Hp w0 w F) (h1 : RdL w0 F 1 s n (bv xs)) (h2 : RdL w0 F 1 t n' (bv xs)) (hn : n < 2 ^ 60) :
    Calls Pg 21 ⟨[.agg ⟨frm k last m f s⟩, .agg ⟨frm k last m f t⟩]⟩ w fun e w' => e = .returned (.bool true) ∧ Hp w0 w' F := by
  apply F21_calls
  unfold F21
  refine bxa_h H fun w1 b H1 => ?_
  refine bxa_h H1 fun w2 c H2 => ?_
  simp only [pv_some, nilO_ptr, faO_mk, gd_yes, gd_no, gd_yes', gd_no', cnd_true, cnd_false, pick_true, pick_false, not_bool, bin_add, bin_sub, bin_mul, bin_eql, bin_neq, bin_lss, bin_leq, bin_gtr, bin_geq, ext0, ext1, ext2, lenS_mk, eqNil_none, eqNil_some, neNil_none, neNil_some, ret_k, mem, Nat.zero_add, Nat.add_zero, Nat.mul_one, drewV, Bool.not_true, Bool.not_false]
  refine ld_h H2 1 rfl rfl ?_
  refine ld_h H2 0 rfl rfl ?_
  simp only [decide_true, pv_some, nilO_ptr, faO_mk, gd_yes, gd_no, gd_yes', gd_no', cnd_true, cnd_false, pick_true, pick_false, not_bool, bin_add, bin_sub, bin_mul, bin_eql, bin_neq, bin_lss, bin_leq, bin_gtr, bin_geq, ext0, ext1, ext2, lenS_mk, eqNil_none, eqNil_some, neNil_none, neNil_some, ret_k, mem, Nat.zero_add, Nat.add_zero, Nat.mul_one, drewV, Bool.not_true, Bool.not_false]
  refine ld_h H2 1 rfl rfl ?_
  refine ld_h H2 0 rfl rfl ?_
  have eb : binB .eql (.bool last) (.bool last) = some (.bool true) := by cases last <;> rfl
  simp only [eb, decide_true, pv_some, nilO_ptr, faO_mk, gd_yes, gd_no, gd_yes', gd_no', cnd_true, cnd_false, pick_true, pick_false, not_bool, bin_add, bin_sub, bin_mul, bin_eql, bin_neq, bin_lss, bin_leq, bin_gtr, bin_geq, ext0, ext1, ext2, lenS_mk, eqNil_none, eqNil_some, neNil_none, neNil_some, ret_k, mem, Nat.zero_add, Nat.add_zero, Nat.mul_one, drewV, Bool.not_true, Bool.not_false]
  refine ld_h H2 1 rfl rfl ?_
  refine ld_h H2 0 rfl rfl ?_
  simp only [decide_true, pv_some, nilO_ptr, faO_mk, gd_yes, gd_no, gd_yes', gd_no', cnd_true, cnd_false, pick_true, pick_false, not_bool, bin_add, bin_sub, bin_mul, bin_eql, bin_neq, bin_lss, bin_leq, bin_gtr, bin_geq, ext0, ext1, ext2, lenS_mk, eqNil_none, eqNil_some, neNil_none, neNil_some, ret_k, mem, Nat.zero_add, Nat.add_zero, Nat.mul_one, drewV, Bool.not_true, Bool.not_false]
  refine ld_h H2 1 rfl rfl ?_
  refine ld_h H2 0 rfl rfl ?_
  simp only [decide_true, pv_some, nilO_ptr, faO_mk, gd_yes, gd_no, gd_yes', gd_no', cnd_true, cnd_false, pick_true, pick_false, not_bool, bin_add, bin_sub, bin_mul, bin_eql, bin_neq, bin_lss, bin_leq, bin_gtr, bin_geq, ext0, ext1, ext2, lenS_mk, eqNil_none, eqNil_some, neNil_none, neNil_some, ret_k, mem, Nat.zero_add, Nat.add_zero, Nat.mul_one, drewV, Bool.not_true, Bool.not_false]
  refine ld_h H2 1 rfl rfl ?_
  refine ld_h H2 0 rfl rfl ?_
  refine cal_h (Equal_spec H2 (h1.mono (fun c hc => by simp [hc])) (h2.mono (fun c hc => by simp [hc])) hn) ?_
  rintro e w3 ⟨rfl, H3⟩
  simp only [decide_true, pv_some, nilO_ptr, faO_mk, gd_yes, gd_no, gd_yes', gd_no', cnd_true, cnd_false, pick_true, pick_false, not_bool, bin_add, bin_sub, bin_mul, bin_eql, bin_neq, bin_lss, bin_leq, bin_gtr, bin_geq, ext0, ext1, ext2, lenS_mk, eqNil_none, eqNil_some, neNil_none, neNil_some, ret_k, mem, Nat.zero_add, Nat.add_zero, Nat.mul_one, drewV, Bool.not_true, Bool.not_false]
  exact ⟨trivial, H3.tail.tail⟩
/-! ### a nil link -/
theorem nil_send {s : Value} {now : Int} (H : Hp w0 w F) : Calls Pg 12 ⟨[.pointer none, s, I now]⟩ w fun e w' => e = .returned (.tuple ⟨[I 0, I 35]⟩) ∧ Hp w0 w' F := by
  apply F12_calls
  unfold F12
  refine bxs_h H rfl fun w1 lb H1 => ?_
  refine ld_h H1 0 rfl rfl ?_
  simp only [pv_some, nilO_ptr, faO_mk, gd_yes, gd_no, gd_yes', gd_no', cnd_true, cnd_false, pick_true, pick_false, not_bool, bin_add, bin_sub, bin_mul, bin_eql, bin_neq, bin_lss, bin_leq, bin_gtr, bin_geq, ext0, ext1, ext2, lenS_mk, eqNil_none, eqNil_some, neNil_none, neNil_some, ret_k, mem, Nat.zero_add, Nat.add_zero, Nat.mul_one, drewV, Bool.not_true, Bool.not_false]
  exact ⟨trivial, H1.tail⟩
theorem nil_input {s : Value} {x now : Int} (H : Hp w0 w F) : Calls Pg 23 ⟨[.pointer none, I x, s, I now]⟩ w fun e w' => e = .returned (.tuple ⟨[.slice none 0 0, I 35]⟩) ∧ Hp w0 w' F := by
  apply F23_calls
  unfold F23
  simp only [pv_some, nilO_ptr, faO_mk, gd_yes, gd_no, gd_yes', gd_no', cnd_true, cnd_false, pick_true, pick_false, not_bool, bin_add, bin_sub, bin_mul, bin_eql, bin_neq, bin_lss, bin_leq, bin_gtr, bin_geq, ext0, ext1, ext2, lenS_mk, eqNil_none, eqNil_some, neNil_none, neNil_some, ret_k, mem, Nat.zero_add, Nat.add_zero, Nat.mul_one, drewV, Bool.not_true, Bool.not_false]
  exact ⟨trivial, H⟩
theorem nil_output {now : Int} (H : Hp w0 w F) : Calls Pg 14 ⟨[.pointer none, I now]⟩ w fun e w' => e = .returned (.tuple ⟨[.slice none 0 0, I 35]⟩) ∧ Hp w0 w' F := by
  apply F14_calls
  unfold F14
  simp only [pv_some, nilO_ptr, faO_mk, gd_yes, gd_no, gd_yes', gd_no', cnd_true, cnd_false, pick_true, pick_false, not_bool, bin_add, bin_sub, bin_mul, bin_eql, bin_neq, bin_lss, bin_leq, bin_gtr, bin_geq, ext0, ext1, ext2, lenS_mk, eqNil_none, eqNil_some, neNil_none, neNil_some, ret_k, mem, Nat.zero_add, Nat.add_zero, Nat.mul_one, drewV, Bool.not_true, Bool.not_false]
  exact ⟨trivial, H⟩
theorem nil_next (H : Hp w0 w F) : Calls Pg 13 ⟨[.pointer none]⟩ w fun e w' => e = .returned (.tuple ⟨[I 0, .bool false]⟩) ∧ Hp w0 w' F := by
  apply F13_calls
  unfold F13
  simp only [pv_some, nilO_ptr, faO_mk, gd_yes, gd_no, gd_yes', gd_no', cnd_true, cnd_false, pick_true, pick_false, not_bool, bin_add, bin_sub, bin_mul, bin_eql, bin_neq, bin_lss, bin_leq, bin_gtr, bin_geq, ext0, ext1, ext2, lenS_mk, eqNil_none, eqNil_some, neNil_none, neNil_some, ret_k, mem, Nat.zero_add, Nat.add_zero, Nat.mul_one, drewV, Bool.not_true, Bool.not_false]
  exact ⟨trivial, H⟩
theorem nil_set {x : Int} {f : Bool} (H : Hp w0 w F) : Calls Pg 24 ⟨[.pointer none, I x, .bool f]⟩ w fun e w' => e = .returned (I 35) ∧ Hp w0 w' F := by
  apply F24_calls
  unfold F24
  simp only [pv_some, nilO_ptr, faO_mk, gd_yes, gd_no, gd_yes', gd_no', cnd_true, cnd_false, pick_true, pick_false, not_bool, bin_add, bin_sub, bin_mul, bin_eql, bin_neq, bin_lss, bin_leq, bin_gtr, bin_geq, ext0, ext1, ext2, lenS_mk, eqNil_none, eqNil_some, neNil_none, neNil_some, ret_k, mem, Nat.zero_add, Nat.add_zero, Nat.mul_one, drewV, Bool.not_true, Bool.not_false]
  exact ⟨trivial, H⟩
theorem nil_ack (H : Hp w0 w F) : Calls Pg 25 ⟨[.pointer none]⟩ w fun e w' => e = .returned (I 0) ∧ Hp w0 w' F := by
  apply F25_calls
  unfold F25
  simp only [pv_some, nilO_ptr, faO_mk, gd_yes, gd_no, gd_yes', gd_no', cnd_true, cnd_false, pick_true, pick_false, not_bool, bin_add, bin_sub, bin_mul, bin_eql, bin_neq, bin_lss, bin_leq, bin_gtr, bin_geq, ext0, ext1, ext2, lenS_mk, eqNil_none, eqNil_some, neNil_none, neNil_some, ret_k, mem, Nat.zero_add, Nat.add_zero, Nat.mul_one, drewV, Bool.not_true, Bool.not_false]
  exact ⟨trivial, H⟩
theorem nil_broken (H : Hp w0 w F) : Calls Pg 15 ⟨[.pointer none]⟩ w fun e w' => e = .returned (.bool false) ∧ Hp w0 w' F := by
  apply F15_calls
  unfold F15
  simp only [pv_some, nilO_ptr, faO_mk, gd_yes, gd_no, gd_yes', gd_no', cnd_true, cnd_false, pick_true, pick_false, not_bool, bin_add, bin_sub, bin_mul, bin_eql, bin_neq, bin_lss, bin_leq, bin_gtr, bin_geq, ext0, ext1, ext2, lenS_mk, eqNil_none, eqNil_some, neNil_none, neNil_some, ret_k, mem, Nat.zero_add, Nat.add_zero, Nat.mul_one, drewV, Bool.not_true, Bool.not_false]
  exact ⟨trivial, H⟩
theorem LinksNil_walk {k x now : Int} {fl : Bool} {s : Value} (H : Hp w0 w F) : Calls Pg 6 ⟨[.agg ⟨[I k, I x, .bool fl, s, I now]⟩]⟩ w fun e w' => e = .returned (.bool true) ∧ Hp w0 w' F := by
  apply F6_calls
  unfold F6
  refine bxa_h H fun w1 b H1 => ?_
  simp only [pv_some, nilO_ptr, faO_mk, gd_yes, gd_no, gd_yes', gd_no', cnd_true, cnd_false, pick_true, pick_false, not_bool, bin_add, bin_sub, bin_mul, bin_eql, bin_neq, bin_lss, bin_leq, bin_gtr, bin_geq, ext0, ext1, ext2, lenS_mk, eqNil_none, eqNil_some, neNil_none, neNil_some, ret_k, mem, Nat.zero_add, Nat.add_zero, Nat.mul_one, drewV, Bool.not_true, Bool.not_false]
  refine ld_h H1 0 rfl rfl ?_
  refine ld_h H1 0 rfl rfl ?_
  refine cal_h (nil_send H1) ?_
  rintro e w2 ⟨rfl, H2⟩
  simp only [pv_some, nilO_ptr, faO_mk, gd_yes, gd_no, gd_yes', gd_no', cnd_true, cnd_false, pick_true, pick_false, not_bool, bin_add, bin_sub, bin_mul, bin_eql, bin_neq, bin_lss, bin_leq, bin_gtr, bin_geq, ext0, ext1, ext2, lenS_mk, eqNil_none, eqNil_some, neNil_none, neNil_some, ret_k, mem, Nat.zero_add, Nat.add_zero, Nat.mul_one, drewV, Bool.not_true, Bool.not_false]
  refine ld_h H2 0 rfl rfl ?_
  refine ld_h H2 0 rfl rfl ?_
  refine ld_h H2 0 rfl rfl ?_
  refine cal_h (nil_input H2) ?_
  rintro e w3 ⟨rfl, H3⟩
  simp only [pv_some, nilO_ptr, faO_mk, gd_yes, gd_no, gd_yes', gd_no', cnd_true, cnd_false, pick_true, pick_false, not_bool, bin_add, bin_sub, bin_mul, bin_eql, bin_neq, bin_lss, bin_leq, bin_gtr, bin_geq, ext0, ext1, ext2, lenS_mk, eqNil_none, eqNil_some, neNil_none, neNil_some, ret_k, mem, Nat.zero_add, Nat.add_zero, Nat.mul_one, drewV, Bool.not_true, Bool.not_false]
  refine ld_h H3 0 rfl rfl ?_
  refine cal_h (nil_output H3) ?_
  rintro e w4 ⟨rfl, H4⟩
  simp only [pv_some, nilO_ptr, faO_mk, gd_yes, gd_no, gd_yes', gd_no', cnd_true, cnd_false, pick_true, pick_false, not_bool, bin_add, bin_sub, bin_mul, bin_eql, bin_neq, bin_lss, bin_leq, bin_gtr, bin_geq, ext0, ext1, ext2, lenS_mk, eqNil_none, eqNil_some, neNil_none, neNil_some, ret_k, mem, Nat.zero_add, Nat.add_zero, Nat.mul_one, drewV, Bool.not_true, Bool.not_false]
  refine cal_h (nil_next H4) ?_
  rintro e w5 ⟨rfl, H5⟩
  simp only [decide_true, pv_some, nilO_ptr, faO_mk, gd_yes, gd_no, gd_yes', gd_no', cnd_true, cnd_false, pick_true, pick_false, not_bool, bin_add, bin_sub, bin_mul, bin_eql, bin_neq, bin_lss, bin_leq, bin_gtr, bin_geq, ext0, ext1, ext2, lenS_mk, eqNil_none, eqNil_some, neNil_none, neNil_some, ret_k, mem, Nat.zero_add, Nat.add_zero, Nat.mul_one, drewV, Bool.not_true, Bool.not_false]
  refine ld_h H5 0 rfl rfl ?_
  refine ld_h H5 0 rfl rfl ?_
  refine cal_h (nil_set H5) ?_
  rintro e w6 ⟨rfl, H6⟩
  simp only [decide_true, pv_some, nilO_ptr, faO_mk, gd_yes, gd_no, gd_yes', gd_no', cnd_true, cnd_false, pick_true, pick_false, not_bool, bin_add, bin_sub, bin_mul, bin_eql, bin_neq, bin_lss, bin_leq, bin_gtr, bin_geq, ext0, ext1, ext2, lenS_mk, eqNil_none, eqNil_some, neNil_none, neNil_some, ret_k, mem, Nat.zero_add, Nat.add_zero, Nat.mul_one, drewV, Bool.not_true, Bool.not_false]
  refine cal_h (nil_ack H6) ?_
  rintro e w7 ⟨rfl, H7⟩
  simp only [decide_true, pv_some, nilO_ptr, faO_mk, gd_yes, gd_no, gd_yes', gd_no', cnd_true, cnd_false, pick_true, pick_false, not_bool, bin_add, bin_sub, bin_mul, bin_eql, bin_neq, bin_lss, bin_leq, bin_gtr, bin_geq, ext0, ext1, ext2, lenS_mk, eqNil_none, eqNil_some, neNil_none, neNil_some, ret_k, mem, Nat.zero_add, Nat.add_zero, Nat.mul_one, drewV, Bool.not_true, Bool.not_false]
  refine cal_h (nil_broken H7) ?_
  rintro e w8 ⟨rfl, H8⟩
  simp only [decide_true, pv_some, nilO_ptr, faO_mk, gd_yes, gd_no, gd_yes', gd_no', cnd_true, cnd_false, pick_true, pick_false, not_bool, bin_add, bin_sub, bin_mul, bin_eql, bin_neq, bin_lss, bin_leq, bin_gtr, bin_geq, ext0, ext1, ext2, lenS_mk, eqNil_none, eqNil_some, neNil_none, neNil_some, ret_k, mem, Nat.zero_add, Nat.add_zero, Nat.mul_one, drewV, Bool.not_true, Bool.not_false]
  refine cal_h (awake_spec H8) ?_
  rintro e w9 ⟨rfl, H9⟩
  simp only [pv_some, nilO_ptr, faO_mk, gd_yes, gd_no, gd_yes', gd_no', cnd_true, cnd_false, pick_true, pick_false, not_bool, bin_add, bin_sub, bin_mul, bin_eql, bin_neq, bin_lss, bin_leq, bin_gtr, bin_geq, ext0, ext1, ext2, lenS_mk, eqNil_none, eqNil_some, neNil_none, neNil_some, ret_k, mem, Nat.zero_add, Nat.add_zero, Nat.mul_one, drewV, Bool.not_true, Bool.not_false]
  exact ⟨trivial, H9.tail⟩
end
end Go.Proofs.Ytmnpndgmfmjfhaa.Den
end
