/- The reference's queue: SetPriority, SetMask, Rotate and Order. Conditions: none. -/
import Derived.Test.YticnobfmpogcoaaRdR4
set_option linter.unusedVariables false
set_option linter.unusedSimpArgs false
set_option maxRecDepth 8000
namespace Go.Proofs.Yticnobfmpogcoaa.Den
open Go Go.RowKit
section
variable {B b c : Nat} {w w' w'' w1 : World} {L : List Ent} {R : ER} {K : VK} {x : Ent}
/-- A load of a field of the entry at a place. -/
theorem rr_field {i j : Nat} (h : RR B b w c L) (hx : L[i]? = some x) (hj : j < 3) {v : Value} (hv : x.vals[j]? = some v) (k : K v w) :
    ld1 (ptr c 0) (fun v1 => pv (ixS 3 v1 (I (i : Int))) fun v2 => pv (faO j v2) fun v3 => ld1 v3 K) w := by
  obtain ⟨h1, h2, h3, s, ob, h4, h5, h6⟩ := h
  refine ld1_blk h4 rfl ?_
  obtain ⟨o, l, _, hix, hb, hgt, _, _⟩ := ent_at h5 rfl hx
  rw [hix, pv_some, faO_mk, pv_some]
  exact ld1_blk hb ((hgt j hj).trans hv) k
/-- The entry at a place, copied into a variable. -/
theorem rr_copy {i : Nat} (h : RR B b w c L) (hx : L[i]? = some x) (k : ∀ w', Blk w' w.heap.size 63 x.vals → Ext [] w w' → K (.pointer (some ⟨w.heap.size, 0, none⟩)) w') :
    ld1 (ptr c 0) (fun v1 => pv (ixS 3 v1 (I (i : Int))) fun v2 => ldN 3 v2 fun v3 => al Pg 63 fun v4 => stN 3 v4 v3 fun _ => K v4) w := by
  obtain ⟨h1, h2, h3, s, ob, h4, h5, h6⟩ := h
  refine ld1_blk h4 rfl ?_
  obtain ⟨o, l, _, hix, hb, hgt, hle, htk⟩ := ent_at h5 rfl hx
  rw [hix, pv_some]
  refine ldN_blk hb hle ?_
  rw [htk]
  exact ent_var k
theorem setP_eq {i : Nat} {p : Nat} {f : Bool} (hg : Good L) (hx : L[i]? = some x) : setP L x.t p f = if x.p = p then L else insertL ⟨x.t, p, x.m⟩ f (L.eraseIdx i) := by
  unfold setP
  rw [find_mem hg (List.mem_of_getElem? hx)]
  simp only [erase_idx hg hx]
theorem rSetP (h : RR B b w c L) (hg : Good L) (t p : Int) (f : Bool) : Calls Pg 33 ⟨[ptr c 0, I t, I p, .bool f]⟩ w (Does B b c w (I (aSetPriority L t p f).1) (aSetPriority L t p f).2) := by
  have hlen := hg.len
  apply orpimentref02_Queue_SetPriority_calls
  unfold orpimentref02_Queue_SetPriority
  simp only [eqNil_some, pv_some, cnd_false]
  refine cal_rets (rPriority p) ?_
  rw [not_bool, pv_some]
  cases hP : isT p with
  | false =>
    simp only [Bool.not_false, cnd_true]
    have : aSetPriority L t p f = (34, L) := by simp [aSetPriority, hasE, hP]
    rw [this]; exact Does.same h
  | true =>
    simp only [Bool.not_true, cnd_false]
    refine cal_rets (rFind h (by omega) t) ?_
    simp only [ext0, ext1, pv_some, bin_neq]
    rw [findP_err]
    by_cases hc : hasE L t true = 0
    · obtain ⟨i, x, hx, rfl, hfp⟩ := findP_ok hc
      rw [hfp, hc]
      simp only [ne_eq, not_true_eq_false, decide_false, gd_yes', pv_some, nilO_ptr, faO_mk]
      refine rr_field (j := 1) h hx (by omega) rfl ?_
      simp only [bin_eql, pv_some, pick_false]
      obtain ⟨p', rfl, hp'⟩ := isT_true hP
      have hS : aSetPriority L (x.t : Int) (p' : Int) f = (0, setP L x.t p' f) := by simp [aSetPriority, hP, hc]
      rw [hS, setP_eq hg hx]
      refine cnd_decide (fun he => ?_) (fun he => ?_)
      · rw [if_pos (by omega)]; exact Does.same h
      · rw [if_neg (by omega)]
        refine rr_copy h hx fun w1 hv he1 => ?_
        have hil : i < L.length := (List.getElem?_eq_some_iff.1 hx).1
        refine cal_of (rDelete (h.ext he1 (by simp)) (by omega) hil) ?_
        rintro e w2 ⟨rfl, hr2, he2⟩
        have hcl : c < w.heap.size := by obtain ⟨_, _, _, s, ob, h4, _⟩ := h; exact h4.lt
        have hbl : b < w.heap.size := h.2.2.1
        have hv2 := hv.ext he2 (by simp; omega)
        simp only [ret_k, faO_mk, pv_some]
        refine st1_blk hv2 (by simp [Ent.vals]) rfl fun w3 hv3 he3 => ?_
        have hvl := hv.lt
        have hr3 : RR B b w3 c (L.eraseIdx i) := hr2 _ _ he3 (fun k hk => by simp at hk; omega)
        refine ldN_blk (n := 3) (o := 0) hv3 (by simp [Ent.vals]) ?_
        have e1 : (Value.agg ((List.drop 0 (x.vals.set (0 + 1) (I (p' : Int)))).take 3).toArray) = Ent.val ⟨x.t, p', x.m⟩ := rfl
        rw [e1]
        refine cal_of (rInsert hr3 (by rw [List.length_eraseIdx]; simp [hil]; omega) f) ?_
        rintro e w4 ⟨rfl, hr4, hf4⟩
        refine ⟨rfl, hr4, Fr.trans (Fr.trans (Fr.trans (Fr.of he1) (fr_c (h.ext he1 (by simp)) he2)) ⟨_, he3, fun k hk => ?_⟩) hf4⟩
        simp at hk; subst hk
        have := h.1; omega
    · rw [decide_eq_true hc]
      simp only [gd_no', pick_true, pv_some, cnd_true]
      have : aSetPriority L t p f = (hasE L t true, L) := by simp [aSetPriority, hP, hc]
      rw [this]; exact Does.same h
theorem setM_eq {i m : Nat} (hg : Good L) (hx : L[i]? = some x) : setM L x.t m = L.set i ⟨x.t, x.p, m⟩ := by
  have hi : i < L.length := (List.getElem?_eq_some_iff.1 hx).1
  apply List.ext_getElem?
  intro j
  unfold setM
  rw [List.getElem?_map, List.getElem?_set]
  by_cases hij : i = j
  · subst hij
    have hxe : L[i] = x := by rw [List.getElem?_eq_getElem hi] at hx; injection hx
    simp [hi, hxe]
  · rw [if_neg hij]
    cases hj : L[j]? with
    | none => rfl
    | some y =>
      have hne : y.t ≠ x.t := fun e => by
        have hjl : j < L.length := (List.getElem?_eq_some_iff.1 hj).1
        have hxe : L[i] = x := by rw [List.getElem?_eq_getElem hi] at hx; injection hx
        have hye : L[j] = y := by rw [List.getElem?_eq_getElem hjl] at hj; injection hj
        have hnd := List.pairwise_iff_getElem.1 hg.nodup
        rcases Nat.lt_or_gt_of_ne hij with hlt | hgt
        · exact hnd i j (by simpa using hi) (by simpa using hjl) hlt (by simp [hxe, hye, e])
        · exact hnd j i (by simpa using hjl) (by simpa using hi) hgt (by simp [hxe, hye, e])
      simp [hne]
theorem cellsL_set {m : Nat} : ∀ {L : List Ent} {i : Nat}, L[i]? = some x → (cellsL L).set (i * 3 + 2) (I (m : Int)) = cellsL (L.set i ⟨x.t, x.p, m⟩)
  | e :: L, 0, h => by
    simp only [List.getElem?_cons_zero, Option.some.injEq] at h
    subst h
    rfl
  | e :: L, i + 1, h => by
    simp only [List.getElem?_cons_succ] at h
    rw [List.set_cons_succ, cellsL_cons, cellsL_cons, ← cellsL_set h]
    rw [List.set_append_right _ _ (by simp [Ent.vals]; omega)]
    congr 2
    simp [Ent.vals]; omega
theorem rSetM (h : RR B b w c L) (hg : Good L) (t m : Int) : Calls Pg 35 ⟨[ptr c 0, I t, I m]⟩ w (Does B b c w (I (aSetMask L t m).1) (aSetMask L t m).2) := by
  have hlen := hg.len
  apply orpimentref02_Queue_SetMask_calls
  unfold orpimentref02_Queue_SetMask
  simp only [eqNil_some, pv_some, cnd_false]
  refine cal_rets (rMask m) ?_
  rw [not_bool, pv_some]
  cases hM : isM m with
  | false =>
    simp only [Bool.not_false, cnd_true]
    have : aSetMask L t m = (34, L) := by simp [aSetMask, hasE, hM]
    rw [this]; exact Does.same h
  | true =>
    simp only [Bool.not_true, cnd_false]
    refine cal_rets (rFind h (by omega) t) ?_
    simp only [ext0, ext1, pv_some, bin_eql]
    rw [findP_err]
    refine cnd_decide (fun hc => ?_) (fun hc => ?_)
    · obtain ⟨i, x, hx, rfl, hfp⟩ := findP_ok hc
      rw [hfp, hc]
      obtain ⟨m', rfl⟩ : ∃ m' : Nat, m = m' := by simp only [isM, decide_eq_true_eq] at hM; exact ⟨m.toNat, by omega⟩
      have hS : aSetMask L (x.t : Int) (m' : Int) = (0, setM L x.t m') := by simp [aSetMask, hM, hc]
      rw [hS, setM_eq hg hx]
      obtain ⟨h1, h2, h3, s, ob, h4, h5, h6⟩ := h
      have hi : i < L.length := (List.getElem?_eq_some_iff.1 hx).1
      simp only [nilO_ptr, faO_mk, pv_some]
      refine ld1_blk h4 rfl ?_
      cases ob with
      | none => obtain ⟨_, h0, _⟩ := h5; omega
      | some o =>
        obtain ⟨g1, g2, g3⟩ := h6 o rfl
        obtain ⟨cap, rest, rfl, hb, hl, hcap, hr⟩ := h5
        rw [ixS_mk hi, pv_some, faO_mk, pv_some, Nat.zero_add]
        refine st1_blk hb (by rw [List.length_append, hl]; omega) rfl fun w1 hb1 he1 => ?_
        unfold orpimentref02_Queue_SetMask_j1
        rw [List.set_append_left _ _ (by rw [hl]; omega), cellsL_set hx] at hb1
        refine ⟨rfl, ⟨h1, h2, Nat.lt_of_lt_of_le h3 he1.size, _, some o, h4.ext he1 (by simp; omega), ⟨cap, rest, by rw [List.length_set], hb1, by rw [cellsL_length], by rw [List.length_set]; exact hcap, by rw [List.length_set]; exact hr⟩, h6⟩, ⟨[o], he1, fun k hk => by simp at hk; subst hk; exact ⟨g1, g2⟩⟩⟩
    · unfold orpimentref02_Queue_SetMask_j1
      have : aSetMask L t m = (hasE L t true, L) := by simp [aSetMask, hM, hc]
      rw [this]; exact Does.same h
theorem rRot_l {p : Nat} (hp : p < 256) (h : RR B b w c L) (hg : Good L) : ∀ (k i : Nat), i + k = L.length + 1 → i ≤ L.length → (∀ j e, j < i → L[j]? = some e → e.p ≠ p) →
    orpimentref02_Queue_Rotate_l5 (Does B b c w (I (aRotate L p).1) (aRotate L p).2) k (ptr c 0) (I (p : Int)) (I (i : Int)) w := by
  have hlen := hg.len
  have hT : isT (p : Int) = true := by simp only [isT, decide_eq_true_eq]; omega
  intro k
  induction k with
  | zero => intro i hk hi; omega
  | succ k ih =>
    intro i hk hi hno
    have hrr := h
    obtain ⟨h1, h2, h3, s, ob, h4, h5, h6⟩ := hrr
    have hcl := h4.lt
    rw [orpimentref02_Queue_Rotate_l5_succ]
    unfold orpimentref02_Queue_Rotate_b4
    simp only [nilO_ptr, faO_mk, pv_some]
    refine ld1_blk h4 rfl ?_
    rw [sl_len h5, pv_some, bin_lss, pv_some]
    refine cnd_decide (fun hc => ?_) (fun hc => ?_)
    · have hil : i < L.length := by omega
      obtain ⟨x, hx⟩ : ∃ x, L[i]? = some x := ⟨_, List.getElem?_eq_getElem (by omega)⟩
      refine rr_field (j := 1) h hx (by omega) rfl ?_
      rw [bin_eql, pv_some]
      refine cnd_decide (fun he => ?_) (fun he => ?_)
      · have hxp : x.p = p := by omega
        have hfind : L.find? (fun e => e.p == p) = some x := by
          rw [List.find?_eq_some_iff_getElem]
          refine ⟨by simp [hxp], i, hil, by rw [List.getElem?_eq_getElem hil] at hx; injection hx, fun j hj => ?_⟩
          have := hno j _ hj (List.getElem?_eq_getElem (by omega)); simpa using this
        have hring : ring L p ≠ [] := fun e0 => by
          have : x.t ∈ ring L p := mem_ring.2 ⟨x, List.mem_of_getElem? hx, hxp, rfl⟩
          rw [e0] at this; cases this
        have hA : aRotate L (p : Int) = (0, insertL x false (L.eraseIdx i)) := by
          simp only [aRotate, hT, if_true, Int.toNat_natCast, hring, if_false, rotL, hfind, erase_idx hg hx]
        rw [hA]
        refine rr_copy h hx fun w1 hv he1 => ?_
        refine cal_of (rDelete (h.ext he1 (by simp)) (by omega) hil) ?_
        rintro e w2 ⟨rfl, hr2, he2⟩
        have hv2 := hv.ext he2 (by simp; omega)
        simp only [ret_k]
        refine ldE hv2 ?_
        refine cal_of (rInsert hr2.rr (by rw [List.length_eraseIdx]; simp [hil]; omega) false) ?_
        rintro e w4 ⟨rfl, hr4, hf4⟩
        exact ⟨rfl, hr4, Fr.trans (Fr.trans (Fr.of he1) (fr_c (h.ext he1 (by simp)) he2)) hf4⟩
      · rw [bin_add, pv_some, wrap64_id (by omega) (by omega)]
        refine ih (i + 1) (by omega) (by omega) fun j e hj hje => ?_
        by_cases hji : j = i
        · subst hji; rw [hx] at hje; injection hje with hje; subst hje; omega
        · exact hno j e (by omega) hje
    · unfold orpimentref02_Queue_Rotate_j1
      have hring : ring L p = [] := by
        unfold ring
        rw [List.filter_eq_nil_iff.2]
        · rfl
        · intro e he
          obtain ⟨j, hj, rfl⟩ := List.getElem_of_mem he
          have := hno j _ (by omega) (List.getElem?_eq_getElem hj)
          simpa using this
      have hA : aRotate L (p : Int) = (22, L) := by simp only [aRotate, hT, if_true, Int.toNat_natCast, hring]
      rw [hA]; exact Does.same h
theorem rRotate (h : RR B b w c L) (hg : Good L) (p : Int) : Calls Pg 36 ⟨[ptr c 0, I p]⟩ w (Does B b c w (I (aRotate L p).1) (aRotate L p).2) := by
  apply orpimentref02_Queue_Rotate_calls
  unfold orpimentref02_Queue_Rotate
  simp only [eqNil_some, pv_some, cnd_false]
  refine cal_rets (rPriority p) ?_
  rw [not_bool, pv_some]
  cases hP : isT p with
  | false =>
    simp only [Bool.not_false, cnd_true]
    have : aRotate L p = (34, L) := by simp [aRotate, hP]
    rw [this]; exact Does.same h
  | true =>
    simp only [Bool.not_true, cnd_false]
    obtain ⟨p', rfl, hp'⟩ := isT_true hP
    unfold orpimentref02_Queue_Rotate_j2 orpimentref02_Queue_Rotate_j3
    exact ⟨L.length + 1, rRot_l hp' h hg (L.length + 1) 0 (by omega) (by omega) (fun j e hj => by omega)⟩
theorem rOrder_l {w0 : World} (h0 : RR B b w0 c L) (hg : Good L) : ∀ (k i : Nat) (w : World) (s3 : Value), i + k = L.length + 1 → i ≤ L.length → Ext [] w0 w → Mine [] w0 w s3 ((L.take i).map fun e => (e.t : Int)) →
    orpimentref02_Queue_Order_l5 (fun e w' => ∃ s, e = .returned s ∧ Src w' 1 s L.length (ints (L.map fun e => (e.t : Int))) ∧ Ext [] w0 w') k (ptr c 0) s3 (I (i : Int)) w := by
  have hlen := hg.len
  intro k
  induction k with
  | zero => intro i w s3 hk hi; omega
  | succ k ih =>
    intro i w s3 hk hi he hm
    have h := h0.ext he (by simp)
    have hrr := h
    obtain ⟨h1, h2, h3, s, ob, h4, h5, h6⟩ := hrr
    rw [orpimentref02_Queue_Order_l5_succ]
    unfold orpimentref02_Queue_Order_b4
    simp only [neNil_some, nilO_ptr, faO_mk, pv_some, gd_yes]
    refine ld1_blk h4 rfl ?_
    rw [sl_len h5]
    simp only [pv_some, bin_lss, pick_true]
    refine cnd_decide (fun hc => ?_) (fun hc => ?_)
    · have hil : i < L.length := by omega
      obtain ⟨x, hx⟩ : ∃ x, L[i]? = some x := ⟨_, List.getElem?_eq_getElem (by omega)⟩
      refine rr_field (j := 0) h hx (by omega) rfl ?_
      refine mine_app hm (by simp; omega) (by simp) he.size fun s' w2 S hm2 heS hAS hS0 => ?_
      rw [bin_add, pv_some, wrap64_id (by omega) (by omega)]
      have e1 : (L.take i).map (fun e => (e.t : Int)) ++ [(x.t : Int)] = (L.take (i + 1)).map fun e => (e.t : Int) := by
        rw [List.take_add_one, hx]; simp
      rw [e1] at hm2
      exact ih (i + 1) w2 s' (by omega) (by omega) (he.then heS (fun k hk _ => by cases hk) (fun k hk hl => by have := hS0 k hk; omega)) hm2
    · have : i = L.length := by omega
      subst this
      unfold orpimentref02_Queue_Order_j1
      have := hm.src
      rw [List.take_length, List.length_map] at this
      exact ⟨s3, rfl, this, he⟩
theorem rOrder (h : RR B b w c L) (hg : Good L) : Calls Pg 21 ⟨[ptr c 0]⟩ w fun e w' => ∃ s, e = .returned s ∧ Src w' 1 s L.length (ints (L.map fun e => (e.t : Int))) ∧ Ext [] w w' := by
  apply orpimentref02_Queue_Order_calls
  unfold orpimentref02_Queue_Order orpimentref02_Queue_Order_j2 orpimentref02_Queue_Order_j3
  exact ⟨L.length + 1, rOrder_l h hg (L.length + 1) 0 w _ (by omega) (by omega) (Ext.refl _ _) Mine.nil⟩
end
end Go.Proofs.Yticnobfmpogcoaa.Den
