/- The reference's queue: its methods answer as the queue's do. Conditions: none. -/
import Derived.Test.YticnobfmpogcoaaRdR3
import Derived.Test.YticnobfmpogcoaaRdX4
set_option linter.unusedVariables false
set_option linter.unusedSimpArgs false
set_option maxRecDepth 8000
namespace Go.Proofs.Yticnobfmpogcoaa.Den
open Go Go.RowKit
section
variable {B b c : Nat} {w w' w'' w1 : World} {L : List Ent} {R : ER} {K : VK} {x : Ent}
abbrev Does (B b c : Nat) (w : World) (v : Value) (L : List Ent) : ER := fun e w' => e = .returned v ∧ RR B b w' c L ∧ Fr B b w w'
theorem Does.same {v : Value} (h : RR B b w c L) : Does B b c w v L (.returned v) w := ⟨rfl, h, Fr.refl⟩
theorem rAdd (h : RR B b w c L) (hg : Good L) (t p m : Int) (f : Bool) : Calls Pg 30 ⟨[ptr c 0, I t, I p, I m, .bool f]⟩ w (Does B b c w (I (aAdd L t p m f).1) (aAdd L t p m f).2) := by
  have hlen := hg.len
  apply orpimentref02_Queue_Add_calls
  unfold orpimentref02_Queue_Add
  simp only [eqNil_some, pv_some, cnd_false]
  refine cal_rets (rThread t) ?_
  rw [not_bool]
  have h34 : (isT t && isT p && isM m) = false → aAdd L t p m f = (34, L) := fun hc => by simp [aAdd, hc]
  cases hT : isT t with
  | false =>
    simp only [Bool.not_false, pv_some, gd_no', pick_true, cnd_true]
    rw [h34 (by simp [hT])]; exact Does.same h
  | true =>
    simp only [Bool.not_true, pv_some, gd_yes', pick_false]
    refine cal_rets (rPriority p) ?_
    rw [not_bool]
    cases hP : isT p with
    | false =>
      simp only [Bool.not_false, pv_some, gd_no', pick_true, cnd_true]
      rw [h34 (by simp [hP])]; exact Does.same h
    | true =>
      simp only [Bool.not_true, pv_some, gd_yes', pick_false]
      refine cal_rets (rMask m) ?_
      rw [not_bool]
      cases hM : isM m with
      | false =>
        simp only [Bool.not_false, pv_some, cnd_true]
        rw [h34 (by simp [hM])]; exact Does.same h
      | true =>
        simp only [Bool.not_true, pv_some, cnd_false]
        refine cal_rets (rIndex h (by omega) t) ?_
        rw [bin_geq, pv_some]
        cases hi : idx L t with
        | some i =>
          have e1 : idxI L t = (i : Int) := by simp [idxI, hi]
          obtain ⟨_, _, _, hin⟩ := idx_some hi
          rw [e1, decide_eq_true (by omega), cnd_true]
          have : aAdd L t p m f = (10, L) := by simp [aAdd, hT, hP, hM, hin]
          rw [this]; exact Does.same h
        | none =>
          have e1 : idxI L t = -1 := by simp [idxI, hi]
          rw [e1, decide_eq_false (by omega), cnd_false]
          obtain ⟨t', rfl, _⟩ := isT_true hT
          obtain ⟨p', rfl, _⟩ := isT_true hP
          obtain ⟨m', rfl⟩ : ∃ m' : Nat, m = m' := by simp only [isM, decide_eq_true_eq] at hM; exact ⟨m.toNat, by omega⟩
          have e2 : bldO [.int .i64 0, .int .i64 0, .int .i64 0] [(0, 1, I (t' : Int)), (1, 1, I (p' : Int)), (2, 1, I (m' : Int))] = some (Ent.val ⟨t', p', m'⟩) := rfl
          rw [e2, pv_some]
          refine cal_of (rInsert h (by omega) f) ?_
          rintro e w1 ⟨rfl, hr, hf⟩
          have : aAdd L (t' : Int) (p' : Int) (m' : Int) f = (0, insertL ⟨t', p', m'⟩ f L) := by simp [aAdd, hT, hP, hM, idx_none hi]
          rw [this]
          exact ⟨rfl, hr, hf⟩
theorem erase_idx {i : Nat} (hg : Good L) (hx : L[i]? = some x) : L.eraseIdx i = eraseL x.t L := by
  have hi : i < L.length := (List.getElem?_eq_some_iff.1 hx).1
  have hs : L = L.take i ++ x :: L.drop (i + 1) := by
    conv => lhs; rw [← List.take_append_drop i L, List.drop_eq_getElem_cons hi]
    rw [List.getElem?_eq_getElem hi] at hx; injection hx with hx; rw [hx]
  have hg' := hg.nodup
  rw [hs] at hg'
  have := erase_mid hg'
  rw [← hs] at this
  rw [this, List.eraseIdx_eq_take_drop_succ]
theorem rRemove (h : RR B b w c L) (hg : Good L) (t : Int) : Calls Pg 31 ⟨[ptr c 0, I t]⟩ w (Does B b c w (I (aRemove L t).1) (aRemove L t).2) := by
  have hlen := hg.len
  apply orpimentref02_Queue_Remove_calls
  unfold orpimentref02_Queue_Remove
  simp only [eqNil_some, pv_some, cnd_false]
  refine cal_rets (rFind h (by omega) t) ?_
  simp only [ext0, ext1, pv_some, bin_eql]
  rw [findP_err]
  refine cnd_decide (fun hc => ?_) (fun hc => ?_)
  · obtain ⟨i, x, hx, rfl, hfp⟩ := findP_ok hc
    rw [hfp]
    refine cal_of (rDelete h (by omega) (List.getElem?_eq_some_iff.1 hx).1) ?_
    rintro e w1 ⟨rfl, hr, hf⟩
    unfold orpimentref02_Queue_Remove_j1
    have : aRemove L (x.t : Int) = (0, eraseL x.t L) := by simp [aRemove, hc]
    rw [this, hc]
    rw [erase_idx hg hx] at hr
    exact ⟨rfl, hr.rr, fr_c h hf⟩
  · unfold orpimentref02_Queue_Remove_j1
    have : aRemove L t = (hasE L t true, L) := by simp [aRemove, hc]
    rw [this]; exact Does.same h
theorem rPrio (h : RR B b w c L) (hg : Good L) (t : Int) : Calls Pg 39 ⟨[ptr c 0, I t]⟩ w (Rets (.tuple ⟨[I (aPrio L t).1, I (aPrio L t).2]⟩) w) := by
  have hlen := hg.len
  apply orpimentref02_Queue_Priority_calls
  unfold orpimentref02_Queue_Priority
  simp only [eqNil_some, pv_some, cnd_false]
  refine cal_rets (rFind h (by omega) t) ?_
  simp only [ext0, ext1, pv_some, bin_neq]
  rw [findP_err]
  refine cnd_decide (fun hc => ?_) (fun hc => ?_)
  · refine ⟨?_, rfl⟩; simp [aPrio, hc]
  · have h0 : hasE L t true = 0 := by simpa using hc
    obtain ⟨i, x, hx, rfl, hfp⟩ := findP_ok h0
    rw [hfp, prio_mem hg (List.mem_of_getElem? hx)]
    obtain ⟨h1, h2, h3, s, ob, h4, h5, h6⟩ := h
    simp only [nilO_ptr, faO_mk, pv_some]
    refine ld1_blk h4 rfl ?_
    obtain ⟨o, l, _, hix, hb, hgt, _, _⟩ := ent_at h5 rfl hx
    rw [hix, pv_some, faO_mk, pv_some]
    refine ld1_blk hb (hgt 1 (by omega)) ?_
    exact ⟨rfl, rfl⟩
theorem bestP_best (hg : Good L) (p : Int) : ((bestP L p).2 = (aBest L p).2) ∧ ((aBest L p).2 ≠ 0 → (aBest L p).1 = 0) ∧ ((aBest L p).2 = 0 → ∃ (i : Nat) (x : Ent), L[i]? = some x ∧ (bestP L p).1 = (i : Int) ∧ (aBest L p).1 = (x.t : Int) ∧ (aTake L p).2 = L.eraseIdx i) ∧ (aTake L p).1 = aBest L p ∧ ((aBest L p).2 ≠ 0 → (aTake L p).2 = L) := by
  unfold bestP aBest aTake
  by_cases hp : 0 ≤ p ∧ p < 8
  · simp only [hp, and_self, if_true]
    cases hf : L.findIdx? (bitE p.toNat) with
    | none =>
      have : L.find? (bitE p.toNat) = none := by
        rw [List.findIdx?_eq_none_iff] at hf
        rw [List.find?_eq_none]; intro e he; rw [hf e he]; simp
      rw [this]; simp
    | some i =>
      have hf' := List.findIdx?_eq_some_iff_getElem.1 hf
      obtain ⟨hi, h1, h2⟩ := hf'
      have : L.find? (bitE p.toNat) = some (L[i]'hi) := by
        rw [List.find?_eq_some_iff_getElem]
        exact ⟨h1, i, hi, rfl, fun j hj => by have := h2 j hj; simpa using this⟩
      rw [this]
      refine ⟨rfl, fun h => absurd rfl h, fun _ => ⟨i, _, List.getElem?_eq_getElem hi, rfl, rfl, ?_⟩, rfl, fun h => absurd rfl h⟩
      exact (erase_idx hg (List.getElem?_eq_getElem hi)).symm
  · simp only [hp, if_false]; simp
theorem rBest (h : RR B b w c L) (hg : Good L) (p : Int) : Calls Pg 38 ⟨[ptr c 0, I p]⟩ w (Rets (.tuple ⟨[I (aBest L p).1, I (aBest L p).2]⟩) w) := by
  obtain ⟨b1, b2, b3, _, _⟩ := bestP_best hg p
  apply orpimentref02_Queue_Best_calls
  unfold orpimentref02_Queue_Best
  refine cal_rets (rSel h hg p) ?_
  simp only [ext0, ext1, pv_some, bin_neq]
  rw [b1]
  refine cnd_decide (fun hc => ?_) (fun hc => ?_)
  · rw [b2 hc]; exact ⟨rfl, rfl⟩
  · have h0 : (aBest L p).2 = 0 := by simpa using hc
    obtain ⟨i, x, hx, g1, g2, g3⟩ := b3 h0
    rw [g1, g2, h0]
    obtain ⟨h1, h2, h3, s, ob, h4, h5, h6⟩ := h
    simp only [nilO_ptr, faO_mk, pv_some]
    refine ld1_blk h4 rfl ?_
    obtain ⟨o, l, _, hix, hb, hgt, _, _⟩ := ent_at h5 rfl hx
    rw [hix, pv_some, faO_mk, pv_some]
    refine ld1_blk hb (hgt 0 (by omega)) ?_
    exact ⟨rfl, rfl⟩
theorem rTake (h : RR B b w c L) (hg : Good L) (p : Int) : Calls Pg 37 ⟨[ptr c 0, I p]⟩ w (Does B b c w (.tuple ⟨[I (aTake L p).1.1, I (aTake L p).1.2]⟩) (aTake L p).2) := by
  obtain ⟨b1, b2, b3, b4, b5⟩ := bestP_best hg p
  have hlen := hg.len
  apply orpimentref02_Queue_Take_calls
  unfold orpimentref02_Queue_Take
  refine cal_rets (rSel h hg p) ?_
  simp only [ext0, ext1, pv_some, bin_neq]
  rw [b1, b4]
  refine cnd_decide (fun hc => ?_) (fun hc => ?_)
  · rw [b2 hc, b5 hc]; exact Does.same h
  · have h0 : (aBest L p).2 = 0 := by simpa using hc
    obtain ⟨i, x, hx, g1, g2, g3⟩ := b3 h0
    rw [g1, g2, g3, h0]
    have hr := h
    obtain ⟨h1, h2, h3, s, ob, h4, h5, h6⟩ := h
    simp only [nilO_ptr, faO_mk, pv_some]
    refine ld1_blk h4 rfl ?_
    obtain ⟨o, l, _, hix, hb, hgt, _, _⟩ := ent_at h5 rfl hx
    rw [hix, pv_some, faO_mk, pv_some]
    refine ld1_blk hb (hgt 0 (by omega)) ?_
    refine cal_of (rDelete hr (by omega) (List.getElem?_eq_some_iff.1 hx).1) ?_
    rintro e w1 ⟨rfl, hr2, hf⟩
    exact ⟨rfl, hr2.rr, fr_c hr hf⟩
theorem rGreatest (h : RR B b w c L) : Calls Pg 22 ⟨[ptr c 0]⟩ w (Rets (I (topP L)) w) := by
  apply orpimentref02_Queue_Greatest_calls
  unfold orpimentref02_Queue_Greatest
  obtain ⟨h1, h2, h3, s, ob, h4, h5, h6⟩ := h
  simp only [eqNil_some, pv_some, gd_yes', nilO_ptr, faO_mk]
  refine ld1_blk h4 rfl ?_
  rw [sl_len h5]
  simp only [pv_some, bin_eql, pick_false]
  refine cnd_decide (fun hc => ?_) (fun hc => ?_)
  · have : L = [] := List.eq_nil_of_length_eq_zero (by omega)
    subst this; exact ⟨rfl, rfl⟩
  · cases L with
    | nil => exact absurd rfl hc
    | cons x l =>
      refine ld1_blk h4 rfl ?_
      obtain ⟨o, l', _, hix, hb, hgt, _, _⟩ := ent_at (i := 0) h5 rfl rfl
      rw [show (Value.int IntKind.i64 0) = I ((0 : Nat) : Int) from rfl, hix, pv_some, faO_mk, pv_some]
      refine ld1_blk hb (hgt 1 (by omega)) ?_
      exact ⟨rfl, rfl⟩
end
end Go.Proofs.Yticnobfmpogcoaa.Den
