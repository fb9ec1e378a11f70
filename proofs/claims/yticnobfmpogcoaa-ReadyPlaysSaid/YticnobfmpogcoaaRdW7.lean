/- The walks of New, Rotate, Best, Take and Order. Conditions: none. -/
import Derived.Test.YticnobfmpogcoaaRdW6
import Derived.Test.YticnobfmpogcoaaSl
set_option linter.unusedVariables false
set_option linter.unusedSimpArgs false
set_option maxRecDepth 8000
namespace Go.Proofs.Yticnobfmpogcoaa.Den
open Go Go.RowKit
/-- A new queue, k of whose lists are marked empty. -/
def QS.mk0 (k : Nat) : QS := { first := fun i => if i < k then -1 else 0, prev := fun _ => 0, next := fun _ => 0, prio := fun _ => 0, mask := fun _ => 0, inn := fun _ => false, words := fun _ => 0, n := 0 }
theorem new_bx (R : ER) : ready_New R = bx 54 (.agg ⟨(QS.mk0 0).lst⟩) (fun v => ready_New_j2 R v) := by kernel_rfl
theorem rep_mk0 : Rep (QS.mk0 256) [] := by
  refine ⟨⟨⟨fun e he => (by cases he), List.nodup_nil, List.Pairwise.nil⟩, fun e he => (by cases he), fun e he => (by cases he), fun p hp => ?_, fun p hp => ?_, fun k hk => ?_⟩, fun t ht => ?_, rfl⟩
  · show (if p < 256 then (-1 : Int) else 0) = -1
    rw [if_pos hp]
  · simp [QS.bit, QS.mk0, ring]
  · simp [QS.mk0]
  · simp [QS.mk0]
section
variable {w : World} {b : Nat} {q : QS} {L : List Ent} {R : ER}
theorem new_l (hQ : ∀ w', QB w' b (QS.mk0 256) → Ext [b] w w' → R (.returned (ptr b 0)) w') : ∀ (n k : Nat) (w1 : World), k ≤ 256 → k + n = 257 → QB w1 b (QS.mk0 k) → Ext [b] w w1 → ready_New_l5 R n (ptr b 0) (I (k : Int)) w1
  | 0, k, w1, hk0, hk, hb, he => by omega
  | n + 1, k, w1, hk0, hk, hb, he => by
    rw [ready_New_l5_succ]
    unfold ready_New_b4
    rw [bin_lss, pv_some]
    refine cnd_decide (fun hc => ?_) (fun hc => ?_)
    · have hk' : k < 256 := by omega
      simp only [nilO_ptr, pv_some, faO_mk, ixA_mk hk', Nat.zero_add, Nat.mul_one]
      refine st_first hb hk' fun w2 hb2 h2 => ?_
      rw [bin_add, pv_some, wrap64_id (by omega) (by omega)]
      refine new_l hQ n (k + 1) w2 (by omega) (by omega) ?_ (he.trans h2)
      have : (QS.mk0 (k + 1)) = { QS.mk0 k with first := fup (QS.mk0 k).first k (-1) } := by
        unfold QS.mk0
        congr 1
        funext i
        simp only [fup]
        by_cases h1 : i = k
        · subst h1; simp
        · by_cases h2 : i < k
          · simp [h1, h2, Nat.lt_succ_of_lt h2]
          · have : ¬ i < k + 1 := by omega
            simp [h1, h2, this]
      rw [this]; exact hb2
    · have : k = 256 := by omega
      subst this
      unfold ready_New_j1
      exact hQ w1 hb he
theorem New_spec : Calls Pg 9 ⟨[]⟩ w fun e w' => ∃ b, e = .returned (ptr b 0) ∧ RQ w' b [] ∧ Ext [] w w' ∧ w.heap.size ≤ b := by
  apply ready_New_calls
  rw [new_bx]
  refine bx_blk fun w1 hb he hsz => ?_
  unfold ready_New_j2 ready_New_j3
  refine ⟨257, ?_⟩
  refine new_l (b := w.heap.size) (fun w' hb' he' => ?_) 257 0 w1 (by omega) (by omega) hb (Ext.refl _ _)
  exact ⟨_, rfl, ⟨_, hb', rep_mk0⟩, he.then he' (fun k hk _ => by cases hk) (fun k hk hlt => by simp at hk; omega), Nat.le_refl _⟩
def rotL (L : List Ent) (p : Nat) : List Ent := match L.find? (fun e => e.p == p) with
  | some x => insertL x false (eraseL x.t L)
  | none => L
def aRotate (L : List Ent) (p : Int) : Int × List Ent := if isT p then (if ring L p.toNat = [] then (22, L) else (0, rotL L p.toNat)) else (34, L)
theorem find_prio {L : List Ent} {p h0 : Nat} {r : List Nat} (h : ring L p = h0 :: r) : ∃ x ∈ L, x.p = p ∧ x.t = h0 ∧ L.find? (fun e => e.p == p) = some x := by
  unfold ring at h
  rw [← List.head?_filter]
  cases hf : L.filter (fun e => e.p == p) with
  | nil => rw [hf] at h; cases h
  | cons x l =>
    rw [hf] at h
    simp only [List.map_cons, List.cons.injEq] at h
    have hm : x ∈ L.filter (fun e => e.p == p) := by rw [hf]; simp
    have := List.mem_filter.1 hm
    exact ⟨x, this.1, by simpa using this.2, h.1, rfl⟩
theorem Rotate_spec (h : RQ w b L) (p : Int) :
    Calls Pg 12 ⟨[ptr b 0, I p]⟩ w fun e w' => e = .returned (I (aRotate L p).1) ∧ RQ w' b (aRotate L p).2 ∧ Ext [b] w w' := by
  apply ready_Queue_Rotate_calls
  unfold ready_Queue_Rotate
  simp only [eqNil_some, pv_some, cnd_false]
  refine cal_of (isPriority_spec p) ?_
  rintro e w' ⟨rfl, rfl⟩
  simp only [retK, not_bool, pv_some]
  cases hP : isT p with
  | false =>
    simp only [Bool.not_false, cnd_true, aRotate, hP, Bool.false_eq_true, if_false]
    exact ⟨by trivial, h, Ext.refl _ _⟩
  | true =>
    obtain ⟨p, rfl, hp⟩ := isT_true hP
    obtain ⟨q, hb, hr⟩ := h
    simp only [Bool.not_true, cnd_false, nilO_ptr, pv_some, faO_mk, ixA_mk hp, Nat.zero_add, Nat.mul_one]
    refine ld_first hb hp ?_
    have hrg := hr.rings p hp
    cases hring : ring L p with
    | nil =>
      rw [hring] at hrg
      rw [show q.first p = -1 from hrg]
      simp only [bin_eql, pv_some, decide_true, cnd_true, aRotate, hP, if_true, Int.toNat_natCast, hring]
      exact ⟨by trivial, ⟨q, hb, hr⟩, Ext.refl _ _⟩
    | cons h0 r =>
      rw [hring] at hrg
      obtain ⟨x, hx, hxp, hxt, hfind⟩ := find_prio hring
      obtain ⟨ht, _, hm1, hm2⟩ := hr.good.ok x hx
      subst hxp; subst hxt
      rw [hrg.1]
      simp only [bin_eql, pv_some, show decide ((x.t : Int) = -1) = false from by simp, cnd_false]
      simp only [drewV]
      refine ld_first (Blk.drew hb) hp ?_
      rw [hrg.1]
      simp only [ixA_mk ht, pv_some, faO_mk]
      refine ld_next (Blk.drew hb) ht ?_
      refine st_first (Blk.drew hb) hp fun w1 hb1 h1 => ?_
      have hne : ring L x.p ≠ [] := by rw [hring]; simp
      simp only [aRotate, hP, if_true, Int.toNat_natCast, hne, if_false, rotL, hfind]
      have hnew : ∀ e ∈ eraseL x.t L, e.t ≠ x.t := fun e he => (mem_erase.1 he).2
      have hnd := ring_nodup hr.good.nodup x.p
      rw [hring] at hnd
      have hxr := (List.nodup_cons.1 hnd).1
      have hre : ring (eraseL x.t L) x.p = r := by
        rw [ring_erase, hring, List.filter_cons]
        simp only [bne_self_eq_false, Bool.false_eq_true, if_false]
        exact List.filter_eq_self.2 fun u hu => by simpa using fun e : u = x.t => hxr (e ▸ hu)
      have hother : ∀ p', p' ≠ x.p → ring (insertL x false (eraseL x.t L)) p' = ring L p' := by
        intro p' hp'
        rw [ring_insert_ne hp', ring_erase]
        refine List.filter_eq_self.2 fun u hu => ?_
        obtain ⟨e, he, g1, rfl⟩ := mem_ring.1 hu
        have : e.t ≠ x.t := fun g => hp' (by rw [← g1, ent_inj hr.good.nodup he hx g])
        simpa using this
      have hsame : ring (insertL x false (eraseL x.t L)) x.p = r ++ [x.t] := by
        rw [ring_insert_same x false _ (sorted_erase hr.good.sorted _), hre]; rfl
      have hmem : ∀ e, e ∈ insertL x false (eraseL x.t L) ↔ e ∈ L := by
        intro e
        rw [mem_insert, mem_erase]
        constructor
        · rintro (rfl | h2)
          · exact hx
          · exact h2.1
        · intro h2
          by_cases g : e.t = x.t
          · exact .inl (ent_inj hr.good.nodup h2 hx g)
          · exact .inr ⟨h2, g⟩
      have hgood := good_insert false (good_erase hr.good x.t) (hr.good.ok x hx) hnew
      refine ⟨by trivial, ⟨_, hb1, ⟨⟨hgood, fun e he => hr.prio e ((hmem e).1 he), fun e he => hr.mask e ((hmem e).1 he), fun p' hp' => ?_, fun p' hp' => ?_, hr.words⟩, fun t ht => ?_, ?_⟩⟩, (Ext.drew _ _).trans h1⟩
      · by_cases hpp : p' = x.p
        · subst hpp
          rw [hsame]
          cases r with
          | nil =>
            refine ⟨?_, hrg.2⟩
            show fup q.first x.p (q.next x.t) x.p = _
            rw [fup_same]; exact hrg.2.1
          | cons z r =>
            obtain ⟨g1, g2⟩ := hrg.2
            refine ⟨?_, (Chain_append _ r z x.t z []).2 ⟨Chain_congr (q := q) r z x.t (fun _ _ => rfl) (fun _ _ => rfl) g2, g1⟩⟩
            show fup q.first x.p (q.next x.t) x.p = _
            rw [fup_same]; exact g1.1
        · rw [hother p' hpp]
          exact Ring_congr (q := q) (fup_ne _ _ hpp) (fun _ _ => rfl) (fun _ _ => rfl) (hr.rings p' hp')
      · show q.bit p' = _
        rw [hr.bits p' hp']
        by_cases hpp : p' = x.p
        · subst hpp; rw [hsame, hring]; simp
        · rw [hother p' hpp]
      · show q.inn t = true ↔ _
        rw [hr.inn t ht]
        exact ⟨fun ⟨e, he, g⟩ => ⟨e, (hmem e).2 he, g⟩, fun ⟨e, he, g⟩ => ⟨e, (hmem e).1 he, g⟩⟩
      · show q.n = _
        rw [hr.n, (insert_perm _ _ _).length_eq]
        have := erase_length hr.good hx
        simp; omega
end
end Go.Proofs.Yticnobfmpogcoaa.Den
