/- The walks of the queue's methods that read, and of Add and Remove. Conditions: none. -/
import Derived.Test.YticnobfmpogcoaaRdA
set_option linter.unusedVariables false
set_option linter.unusedSimpArgs false
set_option maxRecDepth 8000
namespace Go.Proofs.Yticnobfmpogcoaa.Den
open Go Go.RowKit
/-- The greatest priority of a list, or -1. -/
def topP : List Ent → Int
  | [] => -1
  | e :: _ => (e.p : Int)
def isT (x : Int) : Bool := decide (0 ≤ x ∧ x < 256)
def isM (x : Int) : Bool := decide (1 ≤ x ∧ x ≤ 255)
def inL (L : List Ent) (x : Int) : Bool := L.any fun e => (e.t : Int) == x
def hasE (L : List Ent) (x : Int) (r : Bool) : Int := if isT x && r then (if inL L x then 0 else 22) else 34
/-- Block b holds a queue that reads as the list L. -/
def RQ (w : World) (b : Nat) (L : List Ent) : Prop := ∃ q, QB w b q ∧ Rep q L
theorem RQ.ext {w w' : World} {b : Nat} {L : List Ent} {S : List Nat} (h : RQ w b L) (he : Ext S w w') (hn : b ∉ S) : RQ w' b L := by
  obtain ⟨q, h1, h2⟩ := h; exact ⟨q, Blk.ext h1 he hn, h2⟩
theorem RQ.lt {w : World} {b : Nat} {L : List Ent} (h : RQ w b L) : b < w.heap.size := by obtain ⟨q, h1, h2⟩ := h; exact Blk.lt h1
theorem RQ.good {w : World} {b : Nat} {L : List Ent} (h : RQ w b L) : Good L := by obtain ⟨q, h1, h2⟩ := h; exact h2.good
theorem isT_true {x : Int} (h : isT x = true) : ∃ t : Nat, x = t ∧ t < 256 := by
  simp only [isT, decide_eq_true_eq] at h; exact ⟨x.toNat, by omega, by omega⟩
theorem inL_iff {L : List Ent} {t : Nat} : inL L (t : Int) = true ↔ ∃ e ∈ L, e.t = t := by
  simp only [inL, List.any_eq_true, beq_iff_eq]
  constructor
  · rintro ⟨e, h1, h2⟩; exact ⟨e, h1, by omega⟩
  · rintro ⟨e, h1, h2⟩; exact ⟨e, h1, by omega⟩
theorem Rep.inn_eq {q : QS} {L : List Ent} (h : Rep q L) {t : Nat} (ht : t < 256) : q.inn t = inL L (t : Int) := by
  rw [Bool.eq_iff_iff, h.inn t ht, inL_iff]
section
variable {w : World} {b : Nat} {L : List Ent} {Q R : ER}
theorem isThread_spec (x : Int) : Calls Pg 23 ⟨[I x]⟩ w fun e w' => e = .returned (.bool (isT x)) ∧ w' = w := by
  apply ready_isThread_calls
  unfold ready_isThread
  rw [bin_geq, pv_some]
  by_cases h : 0 ≤ x
  · simp only [h, decide_true, gd_yes, pv_some, bin_lss, pick_true, isT, true_and, and_true]
  · simp only [h, decide_false, gd_no, pv_some, pick_false, isT, false_and, decide_false, and_true]
theorem isPriority_spec (x : Int) : Calls Pg 24 ⟨[I x]⟩ w fun e w' => e = .returned (.bool (isT x)) ∧ w' = w := by
  apply ready_isPriority_calls
  unfold ready_isPriority
  rw [bin_geq, pv_some]
  by_cases h : 0 ≤ x
  · simp only [h, decide_true, gd_yes, pv_some, bin_leq, pick_true, isT, true_and, and_true]
    congr 3; exact propext (by omega)
  · simp only [h, decide_false, gd_no, pv_some, pick_false, isT, false_and, decide_false, and_true]
theorem isMask_spec (x : Int) : Calls Pg 25 ⟨[I x]⟩ w fun e w' => e = .returned (.bool (isM x)) ∧ w' = w := by
  apply ready_isMask_calls
  unfold ready_isMask
  rw [bin_geq, pv_some]
  by_cases h : 1 ≤ x
  · simp only [h, decide_true, gd_yes, pv_some, bin_leq, pick_true, isM, true_and, and_true]
  · simp only [h, decide_false, gd_no, pv_some, pick_false, isM, false_and, decide_false, and_true]
theorem has_nil (x : Value) (r : Value) : Calls Pg 28 ⟨[.pointer none, x, r]⟩ w fun e w' => e = .returned (I 35) ∧ w' = w := by
  apply ready_Queue_has_calls
  unfold ready_Queue_has
  simp only [eqNil_none, pv_some, cnd_true, and_self]
theorem has_spec (h : RQ w b L) (x : Int) (r : Bool) : Calls Pg 28 ⟨[ptr b 0, I x, .bool r]⟩ w fun e w' => e = .returned (I (hasE L x r)) ∧ w' = w := by
  apply ready_Queue_has_calls
  unfold ready_Queue_has
  simp only [eqNil_some, pv_some, cnd_false]
  refine cal_of (isThread_spec x) ?_
  rintro e w' ⟨rfl, rfl⟩
  simp only [retK, not_bool, pv_some]
  cases hT : isT x with
  | false => simp only [Bool.not_false, gd_no', pv_some, pick_true, cnd_true, hasE, hT, Bool.false_and, Bool.false_eq_true, if_false, and_self]
  | true =>
    cases r with
    | false => simp only [Bool.not_true, gd_yes', pv_some, not_bool, Bool.not_false, pick_false, cnd_true, hasE, hT, Bool.and_false, Bool.false_eq_true, if_false, and_self]
    | true =>
      obtain ⟨t, rfl, ht⟩ := isT_true hT
      obtain ⟨q, hb, hr⟩ := h
      simp only [Bool.not_true, gd_yes', pv_some, not_bool, pick_false, cnd_false, nilO_ptr, faO_mk, ixA_mk ht, Nat.zero_add, Nat.add_zero]
      refine ld_inn hb ht ?_
      rw [hr.inn_eq ht]
      cases hi : inL L (t : Int) with
      | false => simp only [not_bool, Bool.not_false, pv_some, cnd_true, hasE, hT, hi, Bool.and_self, if_true, Bool.false_eq_true, if_false, and_self]
      | true => simp only [not_bool, Bool.not_true, pv_some, cnd_false, hasE, hT, hi, Bool.and_self, if_true, and_self]
theorem Greatest_spec (h : RQ w b L) : Calls Pg 17 ⟨[ptr b 0]⟩ w fun e w' => e = .returned (I (topP L)) ∧ w' = w := by
  apply ready_Queue_Greatest_calls
  unfold ready_Queue_Greatest
  simp only [eqNil_some, pv_some, cnd_false, nilO_ptr, faO_mk, Nat.zero_add]
  obtain ⟨q, hb, hr⟩ := h
  refine cal_of (greatest_spec hb hr.words (s := 256) (by omega)) ?_
  rintro e w' ⟨rfl, rfl⟩
  simp only [retK, and_true]
  congr 2
  have hg : ∀ n, n ≤ 256 → (∀ p, n ≤ p → p < 256 → q.bit p = false) → gre q.bit n = gre q.bit 256 := by
    intro n hn hp
    have : ∀ k, n + k ≤ 256 → gre q.bit (n + k) = gre q.bit n := by
      intro k
      induction k with
      | zero => intro _; rfl
      | succ k ih =>
        intro hk
        show (if q.bit (n + k) then _ else gre q.bit (n + k)) = _
        rw [hp (n + k) (by omega) (by omega)]; exact ih (by omega)
    have := this (256 - n) (by omega)
    rw [← this]; congr 1; omega
  cases L with
  | nil =>
    rw [← hg 0 (by omega) (fun p _ hp => by rw [hr.bits p hp]; simp [ring])]; rfl
  | cons x l =>
    have hx := hr.good.ok x (by simp)
    have h1 := List.pairwise_cons.1 hr.good.sorted
    rw [← hg (x.p + 1) (by have := hx.2.1; omega) (fun p hp1 hp2 => by
      rw [hr.bits p hp2]
      have : ring (x :: l) p = [] := ring_below fun e he => by
        rcases List.mem_cons.1 he with rfl | he
        · omega
        · have := h1.1 e he; omega
      simp [this])]
    show (if q.bit x.p then _ else _) = _
    rw [hr.bits x.p hx.2.1, if_pos]
    · rfl
    · simp [ring]
theorem Len_spec (h : RQ w b L) : Calls Pg 18 ⟨[ptr b 0]⟩ w fun e w' => e = .returned (I (L.length : Int)) ∧ w' = w := by
  apply ready_Queue_Len_calls
  unfold ready_Queue_Len
  simp only [eqNil_some, pv_some, cnd_false, nilO_ptr, faO_mk, Nat.zero_add]
  obtain ⟨q, hb, hr⟩ := h
  refine ld_n hb ?_
  rw [hr.n]; exact ⟨rfl, rfl⟩
/-- The entry of a thread. -/
theorem find_ent {L : List Ent} {t : Nat} (h : inL L (t : Int) = true) : ∃ e ∈ L, e.t = t := inL_iff.1 h
theorem Priority_spec (h : RQ w b L) (x : Int) : Calls Pg 14 ⟨[ptr b 0, I x]⟩ w fun e w' => (∃ p : Int, e = .returned (.tuple ⟨[I p, I (hasE L x true)]⟩) ∧
    (hasE L x true ≠ 0 → p = 0) ∧ (hasE L x true = 0 → ∃ e ∈ L, (e.t : Int) = x ∧ p = e.p)) ∧ w' = w := by
  apply ready_Queue_Priority_calls
  unfold ready_Queue_Priority
  refine cal_of (has_spec h x true) ?_
  rintro e w' ⟨rfl, rfl⟩
  simp only [retK, bin_neq, pv_some]
  refine cnd_decide (fun hc => ?_) (fun hc => ?_)
  · exact ⟨⟨0, rfl, fun _ => rfl, fun h0 => absurd h0 hc⟩, rfl⟩
  · have h0 : hasE L x true = 0 := by simpa using hc
    have hT : isT x = true := by
      cases hT : isT x with
      | true => rfl
      | false => simp [hasE, hT] at h0
    obtain ⟨t, rfl, ht⟩ := isT_true hT
    have hi : inL L (t : Int) = true := by
      cases hi : inL L (t : Int) with
      | true => rfl
      | false => simp [hasE, hT, hi] at h0
    obtain ⟨q, hb, hr⟩ := h
    obtain ⟨e, he, het⟩ := find_ent hi
    simp only [nilO_ptr, pv_some, faO_mk, ixA_mk ht, Nat.zero_add, Nat.add_zero]
    refine ld_prio hb ht ?_
    subst het
    rw [hr.prio e he, h0]
    exact ⟨⟨e.p, rfl, fun hn => absurd rfl hn, fun _ => ⟨e, he, rfl, rfl⟩⟩, rfl⟩
end
end Go.Proofs.Yticnobfmpogcoaa.Den
