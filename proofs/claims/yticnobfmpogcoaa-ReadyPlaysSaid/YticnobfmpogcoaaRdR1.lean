/- The reference's queue: its block, and the functions that read it. Conditions: none. -/
import Derived.Test.YticnobfmpogcoaaRdX5
set_option linter.unusedVariables false
set_option linter.unusedSimpArgs false
set_option maxRecDepth 8000
namespace Go.Proofs.Yticnobfmpogcoaa.Den
open Go Go.RowKit
def Ent.vals (e : Ent) : List Value := [I (e.t : Int), I (e.p : Int), I (e.m : Int)]
def cellsL (L : List Ent) : List Value := L.flatMap Ent.vals
theorem cellsL_nil : cellsL [] = [] := rfl
theorem cellsL_cons (e : Ent) (L : List Ent) : cellsL (e :: L) = e.vals ++ cellsL L := rfl
theorem cellsL_append (A B : List Ent) : cellsL (A ++ B) = cellsL A ++ cellsL B := by simp [cellsL]
theorem cellsL_length : ∀ L : List Ent, (cellsL L).length = L.length * 3
  | [] => rfl
  | e :: L => by rw [cellsL_cons, List.length_append, cellsL_length L]; simp [Ent.vals]; omega
theorem cellsL_get {e : Ent} : ∀ {L : List Ent} {i : Nat}, L[i]? = some e → ∀ j, j < 3 → (cellsL L)[i * 3 + j]? = e.vals[j]?
  | x :: L, 0, h, j, hj => by
    simp only [List.getElem?_cons_zero, Option.some.injEq] at h
    subst h
    rw [cellsL_cons, List.getElem?_append_left (by simp [Ent.vals]; omega)]; congr 1; omega
  | x :: L, i + 1, h, j, hj => by
    simp only [List.getElem?_cons_succ] at h
    rw [cellsL_cons, List.getElem?_append_right (by simp [Ent.vals]; omega)]
    have := cellsL_get h j hj
    rw [← this]; congr 1; simp [Ent.vals]; omega
theorem cellsL_scalar {L : List Ent} : ∀ c ∈ cellsL L, scalar c = true := by
  intro c hc
  simp only [cellsL, List.mem_flatMap] at hc
  obtain ⟨e, _, hc⟩ := hc
  simp only [Ent.vals, List.mem_cons, List.not_mem_nil, or_false] at hc
  rcases hc with rfl | rfl | rfl <;> rfl
theorem elEnt : ElT 39 63 3 24 [I 0, I 0, I 0] := ⟨by kernel_rfl, by kernel_rfl, rfl⟩
/-- Block c holds the reference's queue, which reads as L; block b is another's; all below B is older. -/
def RR (B b : Nat) (w : World) (c : Nat) (L : List Ent) : Prop :=
  B ≤ c ∧ c ≠ b ∧ b < w.heap.size ∧ ∃ s ob, Blk w c 41 [s] ∧ SL w 63 3 s L.length (cellsL L) ob ∧ ∀ o, ob = some o → B ≤ o ∧ o ≠ b ∧ o ≠ c
/-- Nothing but blocks from B on, and not b, may have changed. -/
def Fr (B b : Nat) (w w' : World) : Prop := ∃ S, Ext S w w' ∧ ∀ k, k ∈ S → B ≤ k ∧ k ≠ b
section
variable {B b c : Nat} {w w' w'' : World} {L : List Ent} {R : ER} {K : VK} {e : Ent}
theorem Fr.refl : Fr B b w w := ⟨[], Ext.refl _ _, by simp⟩
theorem Fr.of (h : Ext [] w w') : Fr B b w w' := ⟨[], h, by simp⟩
theorem Fr.trans (h : Fr B b w w') (h' : Fr B b w' w'') : Fr B b w w'' := by
  obtain ⟨S, h1, h2⟩ := h
  obtain ⟨S', h3, h4⟩ := h'
  refine ⟨S ++ S', h1.then h3 (fun k hk _ => by simp [hk]) (fun k hk _ => by simp [hk]), fun k hk => ?_⟩
  rcases List.mem_append.1 hk with hk | hk
  · exact h2 k hk
  · exact h4 k hk
theorem RQ.fr (h : RQ w b L) (hf : Fr B b w w') : RQ w' b L := by
  obtain ⟨S, h1, h2⟩ := hf
  exact h.ext h1 (fun hm => (h2 b hm).2 rfl)
theorem RR.ext (h : RR B b w c L) {S : List Nat} (he : Ext S w w') (hS : ∀ k, k ∈ S → k = b ∨ k < B) : RR B b w' c L := by
  obtain ⟨h1, h2, h3, s, ob, h4, h5, h6⟩ := h
  refine ⟨h1, h2, Nat.lt_of_lt_of_le h3 he.size, s, ob, h4.ext he (fun hm => ?_), h5.ext he (fun o ho hm => ?_), h6⟩
  · rcases hS c hm with h | h
    · exact h2 h
    · omega
  · obtain ⟨g1, g2, g3⟩ := h6 o ho
    rcases hS o hm with h | h
    · exact g2 h
    · omega
theorem fr_own {w0 : World} (h : Ext [] w0 w) (hf : Fr w0.heap.size b w w') : Ext [] w0 w' := by
  obtain ⟨S, h1, h2⟩ := hf
  exact h.then h1 (fun k hk _ => by cases hk) (fun k hk hl => by have := (h2 k hk).1; omega)
/-- The entry at a place. -/
theorem ent_at {s : Value} {n i : Nat} {ob : Option Nat} (h : SL w 63 3 s n (cellsL L) ob) (hn : n = L.length) (hi : L[i]? = some e) :
    ∃ o l, ob = some o ∧ ixS 3 s (I (i : Int)) = some (.pointer (some ⟨o, i * 3, none⟩)) ∧ Blk w o 63 l ∧ (∀ j, j < 3 → l[i * 3 + j]? = e.vals[j]?) ∧ i * 3 + 3 ≤ l.length ∧ (l.drop (i * 3)).take 3 = e.vals := by
  have hil : i < L.length := (List.getElem?_eq_some_iff.1 hi).1
  cases ob with
  | none => obtain ⟨_, h0, _⟩ := h; omega
  | some o =>
    obtain ⟨cap, rest, rfl, hb, hl, hc, hr⟩ := h
    have hg : ∀ j, j < 3 → (cellsL L ++ rest)[i * 3 + j]? = e.vals[j]? := fun j hj => by
      rw [List.getElem?_append_left (by rw [cellsL_length]; omega)]; exact cellsL_get hi j hj
    have hle : i * 3 + 3 ≤ (cellsL L ++ rest).length := by rw [List.length_append, cellsL_length]; omega
    refine ⟨o, _, rfl, ?_, hb, hg, hle, ?_⟩
    · rw [ixS_mk (by omega)]; simp
    · apply List.ext_getElem?
      intro j
      by_cases hj : j < 3
      · rw [List.getElem?_take, if_pos hj, List.getElem?_drop, hg j hj]
      · rw [List.getElem?_eq_none (by simp; omega), List.getElem?_eq_none (by simp [Ent.vals]; omega)]
theorem sl_len {s : Value} {n : Nat} {ob : Option Nat} {xs : List Value} {el sz : Nat} (h : SL w el sz s n xs ob) : lenS s = some (I (n : Int)) := by
  cases ob with
  | none => obtain ⟨rfl, rfl, _⟩ := h; rfl
  | some b => obtain ⟨_, _, rfl, _⟩ := h; rfl
theorem rThread (x : Int) : Calls Pg 41 ⟨[I x]⟩ w (Rets (.bool (isT x)) w) := by
  apply orpimentref02_thread_calls
  unfold orpimentref02_thread
  rw [bin_geq, pv_some]
  by_cases h : 0 ≤ x
  · simp only [h, decide_true, gd_yes, pv_some, bin_lss, pick_true]
    refine ⟨?_, rfl⟩; simp [isT, h]
  · simp only [h, decide_false, gd_no, pv_some, pick_false]
    refine ⟨?_, rfl⟩; simp [isT, h]
theorem rPriority (x : Int) : Calls Pg 42 ⟨[I x]⟩ w (Rets (.bool (isT x)) w) := by
  apply orpimentref02_priority_calls
  unfold orpimentref02_priority
  rw [bin_geq, pv_some]
  by_cases h : 0 ≤ x
  · simp only [h, decide_true, gd_yes, pv_some, bin_leq, pick_true]
    refine ⟨?_, rfl⟩
    have : decide (x ≤ 255) = decide (x < 256) := by rw [decide_eq_decide]; omega
    rw [this]; simp [isT, h]
  · simp only [h, decide_false, gd_no, pv_some, pick_false]
    refine ⟨?_, rfl⟩; simp [isT, h]
theorem rMask (x : Int) : Calls Pg 43 ⟨[I x]⟩ w (Rets (.bool (isM x)) w) := by
  apply orpimentref02_mask_calls
  unfold orpimentref02_mask
  rw [bin_geq, pv_some]
  by_cases h : 1 ≤ x
  · simp only [h, decide_true, gd_yes, pv_some, bin_leq, pick_true]
    refine ⟨?_, rfl⟩; simp [isM, h]
  · simp only [h, decide_false, gd_no, pv_some, pick_false]
    refine ⟨?_, rfl⟩; simp [isM, h]
/-- The place of a thread. -/
def idx (L : List Ent) (t : Int) : Option Nat := L.findIdx? fun e => (e.t : Int) == t
def idxI (L : List Ent) (t : Int) : Int := match idx L t with | some i => (i : Int) | none => -1
theorem index_l {t : Int} (h : RR B b w c L) (hlen : L.length ≤ 1000) : ∀ (k i : Nat), i + k = L.length + 1 → i ≤ L.length → (∀ j e, j < i → L[j]? = some e → (e.t : Int) ≠ t) →
    orpimentref02_Queue_index_l5 (Rets (I (idxI L t)) w) k (ptr c 0) (I t) (I (i : Int)) w := by
  obtain ⟨h1, h2, h3, s, ob, h4, h5, h6⟩ := h
  intro k
  induction k with
  | zero => intro i hk hi; omega
  | succ k ih =>
    intro i hk hi hno
    rw [orpimentref02_Queue_index_l5_succ]
    unfold orpimentref02_Queue_index_b4
    simp only [nilO_ptr, faO_mk, pv_some]
    refine ld1_blk h4 rfl ?_
    rw [sl_len h5, pv_some, bin_lss, pv_some]
    refine cnd_decide (fun hc => ?_) (fun hc => ?_)
    · obtain ⟨x, hx⟩ : ∃ x, L[i]? = some x := ⟨_, List.getElem?_eq_getElem (by omega)⟩
      obtain ⟨o, l, _, hix, hb, hg, _, _⟩ := ent_at h5 rfl hx
      refine ld1_blk h4 rfl ?_
      rw [hix, pv_some, faO_mk, pv_some]
      refine ld1_blk hb (hg 0 (by omega)) ?_
      simp only [bin_eql, pv_some]
      refine cnd_decide (fun he => ?_) (fun he => ?_)
      · refine ⟨?_, rfl⟩
        have : idx L t = some i := by
          unfold idx
          rw [List.findIdx?_eq_some_iff_getElem]
          refine ⟨by omega, ?_, fun j hj => ?_⟩
          · rw [List.getElem?_eq_getElem (by omega)] at hx; injection hx with hx; rw [hx]; simpa using he
          · have := hno j _ hj (List.getElem?_eq_getElem (by omega)); simpa using this
        simp only [idxI, this]
      · rw [bin_add, pv_some, wrap64_id (by omega) (by omega)]
        refine ih (i + 1) (by omega) (by omega) fun j e hj hje => ?_
        by_cases hji : j = i
        · subst hji; rw [hx] at hje; injection hje with hje; subst hje; exact he
        · exact hno j e (by omega) hje
    · unfold orpimentref02_Queue_index_j1
      refine ⟨?_, rfl⟩
      have : idx L t = none := by
        unfold idx
        rw [List.findIdx?_eq_none_iff]
        intro e he
        obtain ⟨j, hj, rfl⟩ := List.getElem_of_mem he
        have := hno j _ (by omega) (List.getElem?_eq_getElem hj)
        simpa using this
      simp only [idxI, this]
theorem rIndex (h : RR B b w c L) (hlen : L.length ≤ 1000) (t : Int) : Calls Pg 44 ⟨[ptr c 0, I t]⟩ w (Rets (I (idxI L t)) w) := by
  apply orpimentref02_Queue_index_calls
  unfold orpimentref02_Queue_index orpimentref02_Queue_index_j2 orpimentref02_Queue_index_j3
  exact ⟨L.length + 1, index_l h hlen (L.length + 1) 0 (by omega) (by omega) (fun j e hj => by omega)⟩
theorem idx_none {t : Int} (h : idx L t = none) : inL L t = false := by
  unfold idx at h
  rw [List.findIdx?_eq_none_iff] at h
  unfold inL
  rw [List.any_eq_false]
  intro e he
  have := h e he
  simp at this
  simpa using this
theorem idx_some {t : Int} {i : Nat} (h : idx L t = some i) : ∃ e, L[i]? = some e ∧ (e.t : Int) = t ∧ inL L t = true := by
  unfold idx at h
  rw [List.findIdx?_eq_some_iff_getElem] at h
  obtain ⟨h1, h2, _⟩ := h
  refine ⟨_, List.getElem?_eq_getElem h1, by simpa using h2, ?_⟩
  unfold inL
  rw [List.any_eq_true]
  exact ⟨_, List.getElem_mem h1, h2⟩
/-- What find answers. -/
def findP (L : List Ent) (t : Int) : Int × Int := if isT t then (match idx L t with | some i => ((i : Int), 0) | none => (0, 22)) else (0, 34)
theorem rFind (h : RR B b w c L) (hlen : L.length ≤ 1000) (t : Int) : Calls Pg 46 ⟨[ptr c 0, I t]⟩ w (Rets (.tuple ⟨[I (findP L t).1, I (findP L t).2]⟩) w) := by
  apply orpimentref02_Queue_find_calls
  unfold orpimentref02_Queue_find
  refine cal_rets (rThread t) ?_
  rw [not_bool, pv_some]
  cases hT : isT t with
  | false => simp only [Bool.not_false, cnd_true]; refine ⟨?_, rfl⟩; simp [findP, hT]
  | true =>
    simp only [Bool.not_true, cnd_false]
    refine cal_rets (rIndex h hlen t) ?_
    rw [bin_lss, pv_some]
    cases hi : idx L t with
    | none =>
      have : idxI L t = -1 := by simp [idxI, hi]
      rw [this]
      simp only [show decide ((-1 : Int) < 0) = true from rfl, cnd_true]
      refine ⟨?_, rfl⟩; simp [findP, hT, hi]
    | some i =>
      have : idxI L t = (i : Int) := by simp [idxI, hi]
      rw [this, decide_eq_false (by omega), cnd_false]
      refine ⟨?_, rfl⟩; simp [findP, hT, hi]
theorem findP_err (L : List Ent) (t : Int) : (findP L t).2 = hasE L t true := by
  unfold findP hasE
  cases hT : isT t with
  | false => simp
  | true =>
    cases hi : idx L t with
    | none => simp [idx_none hi]
    | some i => obtain ⟨_, _, _, h⟩ := idx_some hi; simp [h]
theorem findP_ok {t : Int} (h : hasE L t true = 0) : ∃ (i : Nat) (e : Ent), L[i]? = some e ∧ (e.t : Int) = t ∧ findP L t = ((i : Int), 0) := by
  unfold hasE at h
  unfold findP
  cases hT : isT t with
  | false => simp [hT] at h
  | true =>
    cases hi : idx L t with
    | none => simp [hT, idx_none hi] at h
    | some i => obtain ⟨e, h1, h2, _⟩ := idx_some hi; exact ⟨i, e, h1, h2, by simp⟩
end
end Go.Proofs.Yticnobfmpogcoaa.Den
