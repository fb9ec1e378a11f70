/- The reference's queue: delete and best. Conditions: none. -/
import Derived.Test.YticnobfmpogcoaaRdR2
set_option linter.unusedVariables false
set_option linter.unusedSimpArgs false
set_option maxRecDepth 8000
namespace Go.Proofs.Yticnobfmpogcoaa.Den
open Go Go.RowKit
section
variable {B b c : Nat} {w w' w'' w1 : World} {L : List Ent} {R : ER} {K : VK} {x : Ent}
theorem cellsL_take (L : List Ent) : ∀ n, (cellsL L).take (n * 3) = cellsL (L.take n) := by
  induction L with
  | nil => intro n; simp [cellsL]
  | cons e L ih =>
    intro n
    cases n with
    | zero => simp [cellsL]
    | succ n =>
      rw [List.take_succ_cons, cellsL_cons, cellsL_cons, ← ih n]
      rw [List.take_append, List.take_of_length_le (by simp [Ent.vals]; omega)]
      congr 2
      simp [Ent.vals]; omega
theorem cellsL_drop (L : List Ent) : ∀ n, (cellsL L).drop (n * 3) = cellsL (L.drop n) := by
  induction L with
  | nil => intro n; simp [cellsL]
  | cons e L ih =>
    intro n
    cases n with
    | zero => simp [cellsL]
    | succ n =>
      rw [List.drop_succ_cons, cellsL_cons, ← ih n]
      rw [List.drop_append, List.drop_eq_nil_of_le (by simp [Ent.vals]; omega), List.nil_append]
      congr 1
      simp [Ent.vals]; omega
/-- The first i entries of the slice, as a slice. -/
theorem pre_src {s : Value} {i : Nat} {ob : Option Nat} (h : SL w 63 3 s L.length (cellsL L) ob) (hi : i < L.length) :
    ∃ s', slS 3 s none (some (I (i : Int))) = some s' ∧ Src w 3 s' i (cellsL (L.take i)) := by
  cases ob with
  | none => obtain ⟨_, h0, _⟩ := h; omega
  | some o =>
    obtain ⟨cap, rest, rfl, hb, hl, hc, hr⟩ := h
    refine ⟨.slice (some ⟨o, 0, none⟩) i cap, ?_, .inr ⟨o, 0, cap, 63, _, rfl, hb, by rw [List.length_append, hl]; omega, ?_⟩⟩
    · simp only [slS, boundO]
      rw [if_pos (by omega)]
      simp only [Nat.zero_mul, Option.map_some, add_mk, ite_self, Int.toNat_natCast, Nat.sub_zero, Nat.add_zero]
    · rw [List.drop_zero, List.take_append_of_le_length (by rw [hl]; omega), cellsL_take]
/-- The entries behind place i, as a slice. -/
theorem suf_src {s : Value} {i : Nat} {ob : Option Nat} (h : SL w 63 3 s L.length (cellsL L) ob) (hi : i < L.length) :
    ∃ s', slS 3 s (some (I ((i + 1 : Nat) : Int))) none = some s' ∧ Src w 3 s' (L.length - (i + 1)) (cellsL (L.drop (i + 1))) := by
  cases ob with
  | none => obtain ⟨_, h0, _⟩ := h; omega
  | some o =>
    obtain ⟨cap, rest, rfl, hb, hl, hc, hr⟩ := h
    by_cases hcap : cap = i + 1
    · refine ⟨.slice (some ⟨o, 0, none⟩) (L.length - (i + 1)) (cap - (i + 1)), ?_, .inr ⟨o, 0, _, 63, _, rfl, hb, by rw [List.length_append, hl]; omega, ?_⟩⟩
      · simp only [slS, boundO]
        rw [if_pos (by omega)]
        simp [hcap]
      · have e0 : L.length - (i + 1) = 0 := by omega
        rw [e0, List.drop_of_length_le (by omega)]; simp [cellsL]
    · refine ⟨.slice (some ⟨o, (i + 1) * 3, none⟩) (L.length - (i + 1)) (cap - (i + 1)), ?_, .inr ⟨o, (i + 1) * 3, _, 63, _, rfl, hb, by rw [List.length_append, hl]; omega, ?_⟩⟩
      · simp only [slS, boundO]
        rw [if_pos (by omega)]
        simp only [Int.toNat_natCast, hcap, if_false, Option.map_some, add_mk, Nat.zero_add]
      · rw [List.drop_append_of_le_length (by rw [hl]; omega), List.take_append_of_le_length (by rw [List.length_drop, hl]; omega), cellsL_drop]
        rw [List.take_of_length_le]
        rw [cellsL_length, List.length_drop]; omega
/-- The queue, also where older blocks than its own slice are written. -/
def RRs (B b c : Nat) (L : List Ent) (w0 w : World) : Prop := ∀ S w'', Ext S w w'' → (∀ k, k ∈ S → k ≠ c ∧ k < w0.heap.size) → RR B b w'' c L
theorem RRs.rr (h : RRs B b c L w w') : RR B b w' c L := h [] w' (Ext.refl _ _) (by simp)
theorem rDelete (h : RR B b w c L) (hL : L.length ≤ 300) {i : Nat} (hi : i < L.length) : Calls Pg 47 ⟨[ptr c 0, I (i : Int)]⟩ w fun e w' => e = .returned (.tuple ⟨[]⟩) ∧ RRs B b c (L.eraseIdx i) w w' ∧ Ext [c] w w' := by
  apply orpimentref02_Queue_delete_calls
  unfold orpimentref02_Queue_delete drewV mem
  have h' := h.ext (Ext.drew [] w) (by simp)
  have hed : Ext [] w w.drew := Ext.drew _ _
  obtain ⟨h1, h2, h3, s, ob, h4, h5, h6⟩ := h'
  have hcl := h4.lt
  have hds : w.drew.heap.size = w.heap.size := rfl
  refine build0_k elEnt fun w1 hb1 he1 hs1 => ?_
  simp only [nilO_ptr, faO_mk, pv_some]
  have h41 := h4.ext he1 (by simp)
  refine ld1S_blk1 h41 h4 rfl ?_
  obtain ⟨s1, e1, src1⟩ := pre_src (h5.ext he1 (by simp)) hi
  rw [e1, pv_some]
  have sl0 : SL w1 63 3 (.slice (some ⟨w.drew.heap.size, 0, none⟩) 0 0) 0 [] (some w.drew.heap.size) := ⟨0, [], rfl, by simpa using hb1, by simp, Nat.le_refl _, by simp⟩
  refine append_k elEnt sl0 src1 cellsL_scalar (by omega) (by omega) fun s2 w2 ob2 g1 g2 g3 => ?_
  have hob2 : ∀ o, ob2 = some o → w.drew.heap.size ≤ o := by
    intro o ho
    rcases g3 with g3 | ⟨c', g3, g4⟩
    · rw [g3] at ho; injection ho with ho; omega
    · rw [g3] at ho; injection ho with ho; omega
  have e12 : Ext [] w.drew w2 := he1.then g2 (fun k hk _ => by cases hk) (fun k hk hl => by simp at hk; omega)
  have h42 := h4.ext e12 (by simp)
  refine ld1S_blk2 h42 h41 h4 rfl ?_
  rw [bin_add, pv_some, wrap64_id (by omega) (by omega), show (i : Int) + 1 = ((i + 1 : Nat) : Int) from by omega]
  obtain ⟨s3, e3, src3⟩ := suf_src (h5.ext e12 (by simp)) hi
  rw [e3, pv_some]
  have g1' : SL w2 63 3 s2 i (cellsL (L.take i)) ob2 := by simpa using g1
  refine append_k elEnt g1' src3 cellsL_scalar (by omega) (by omega) fun s4 w4 ob4 k1 k2 k3 => ?_
  have hob4 : ∀ o, ob4 = some o → w.drew.heap.size ≤ o := by
    intro o ho
    rcases k3 with k3 | ⟨c', k3, k4⟩
    · rw [k3] at ho; exact hob2 o ho
    · rw [k3] at ho; injection ho with ho; have := e12.size; omega
  have e14 : Ext [] w.drew w4 := e12.then k2 (fun k hk _ => by cases hk) (fun k hk hl => by have := hob2 k (by simpa using hk); omega)
  have hsc : scalar s4 = true := by
    cases ob4 with
    | none => obtain ⟨rfl, _⟩ := k1; rfl
    | some o => obtain ⟨_, _, rfl, _⟩ := k1; rfl
  refine st1_blk (h4.ext e14 (by simp)) (by simp) hsc fun w5 hb5 he5 => ?_
  have hne : ∀ o, ob4 = some o → o ≠ c := fun o hoo e => by have := hob4 o hoo; omega
  have hlen : i + (L.length - (i + 1)) = (L.eraseIdx i).length := by rw [List.length_eraseIdx]; simp [hi]; omega
  have hcells : cellsL (L.take i) ++ cellsL (L.drop (i + 1)) = cellsL (L.eraseIdx i) := by rw [← cellsL_append, List.eraseIdx_eq_take_drop_succ]
  rw [hlen, hcells] at k1
  refine ⟨by trivial, fun S w'' heS hS => ?_, ?_⟩
  · refine ⟨h1, h2, Nat.lt_of_lt_of_le h3 (Nat.le_trans e14.size (Nat.le_trans he5.size heS.size)), s4, ob4, ?_, ?_, fun o ho => ⟨by have := hob4 o ho; omega, by have := hob4 o ho; omega, hne o ho⟩⟩
    · exact Blk.ext (by simpa using hb5) heS (fun hm => (hS c hm).1 rfl)
    · exact (k1.ext he5 (fun o ho => by simpa using hne o ho)).ext heS (fun o ho hm => by have := hob4 o ho; have := (hS o hm).2; omega)
  exact (hed.trans e14).then he5 (fun k hk _ => by cases hk) (fun k hk _ => hk)
theorem fr_c (h : RR B b w c L) (he : Ext [c] w w') : Fr B b w w' := ⟨[c], he, fun k hk => by simp at hk; subst hk; exact ⟨h.1, h.2.1⟩⟩
/-- What best answers. -/
def bestP (L : List Ent) (p : Int) : Int × Int := if 0 ≤ p ∧ p < 8 then (match L.findIdx? (bitE p.toNat) with | some i => ((i : Int), 0) | none => (0, 22)) else (0, 34)
theorem bit_test {p : Nat} (hp : p < 8) (hm : x.m ≤ 255) {F : WP} {G : WP} (h1 : bitE p x = true → F w) (h2 : bitE p x = false → G w) :
    (pv (bin .quo (I (x.m : Int)) (I ((2 ^ p : Nat) : Int))) fun v12 => pv (bin .rem v12 (.int .i64 2)) fun v13 => pv (bin .eql v13 (.int .i64 1)) fun v14 => cnd v14 F G) w := by
  have hpos : 0 < 2 ^ p := Nat.two_pow_pos p
  rw [bin_quo (by omega), pv_some]
  have e1 : ((x.m : Int)).tdiv ((2 ^ p : Nat) : Int) = ((x.m / 2 ^ p : Nat) : Int) := by rw [Int.tdiv_eq_ediv_of_nonneg (by omega)]; rfl
  have hle : x.m / 2 ^ p ≤ x.m := Nat.div_le_self _ _
  have e3 : bitE p x = decide (x.m / 2 ^ p % 2 = 1) := Nat.testBit_eq_decide_div_mod_eq
  rw [e1]
  generalize x.m / 2 ^ p = q at hle e3 ⊢
  rw [wrap64_id (by omega) (by omega), bin_rem (by decide), pv_some]
  have e2 : (q : Int).tmod 2 = ((q % 2 : Nat) : Int) := by rw [Int.tmod_eq_emod_of_nonneg (by omega)]; rfl
  rw [e2, bin_eql, pv_some]
  refine cnd_decide (fun hc => h1 ?_) (fun hc => h2 ?_)
  · rw [e3, decide_eq_true_eq]; omega
  · rw [e3, decide_eq_false_iff_not]; omega
theorem best_l {p : Nat} (hp : p < 8) (h : RR B b w c L) (hg : Good L) : ∀ (k i : Nat), i + k = L.length + 1 → i ≤ L.length → (∀ j e, j < i → L[j]? = some e → bitE p e = false) →
    orpimentref02_Queue_best_l6 (Rets (.tuple ⟨[I (bestP L p).1, I (bestP L p).2]⟩) w) k (ptr c 0) (I ((2 ^ p : Nat) : Int)) (I (i : Int)) w := by
  obtain ⟨h1, h2, h3, s, ob, h4, h5, h6⟩ := h
  have hlen := hg.len
  have h08 : (0 : Int) ≤ (p : Int) ∧ (p : Int) < 8 := by omega
  intro k
  induction k with
  | zero => intro i hk hi; omega
  | succ k ih =>
    intro i hk hi hno
    rw [orpimentref02_Queue_best_l6_succ]
    unfold orpimentref02_Queue_best_b5
    simp only [nilO_ptr, faO_mk, pv_some]
    refine ld1_blk h4 rfl ?_
    rw [sl_len h5, pv_some, bin_lss, pv_some]
    refine cnd_decide (fun hc => ?_) (fun hc => ?_)
    · obtain ⟨x, hx⟩ : ∃ x, L[i]? = some x := ⟨_, List.getElem?_eq_getElem (by omega)⟩
      obtain ⟨o, l, _, hix, hb, hgt, _, _⟩ := ent_at h5 rfl hx
      refine ld1_blk h4 rfl ?_
      rw [hix, pv_some, faO_mk, pv_some]
      refine ld1_blk hb (hgt 2 (by omega)) ?_
      have hm := (hg.ok x (List.mem_of_getElem? hx)).2.2.2
      refine bit_test hp hm (fun he => ?_) (fun he => ?_)
      · refine ⟨?_, rfl⟩
        have : L.findIdx? (bitE p) = some i := by
          rw [List.findIdx?_eq_some_iff_getElem]
          refine ⟨by omega, ?_, fun j hj => ?_⟩
          · rw [List.getElem?_eq_getElem (by omega)] at hx; injection hx with hx; rw [hx]; exact he
          · have := hno j _ hj (List.getElem?_eq_getElem (by omega)); simp [this]
        simp only [bestP, h08, and_self, if_true, Int.toNat_natCast, this]
      · rw [bin_add, pv_some, wrap64_id (by omega) (by omega)]
        refine ih (i + 1) (by omega) (by omega) fun j e hj hje => ?_
        by_cases hji : j = i
        · subst hji; rw [hx] at hje; injection hje with hje; subst hje; exact he
        · exact hno j e (by omega) hje
    · unfold orpimentref02_Queue_best_j2
      refine ⟨?_, rfl⟩
      have : L.findIdx? (bitE p) = none := by
        rw [List.findIdx?_eq_none_iff]
        intro e he
        obtain ⟨j, hj, rfl⟩ := List.getElem_of_mem he
        exact hno j _ (by omega) (List.getElem?_eq_getElem hj)
      simp only [bestP, h08, and_self, if_true, Int.toNat_natCast, this]
theorem best_pow {p : Nat} (hp : p < 8) (h : RR B b w c L) (hg : Good L) : ∀ (k i : Nat), i + k = p + 1 → i ≤ p →
    orpimentref02_Queue_best_l10 (Rets (.tuple ⟨[I (bestP L p).1, I (bestP L p).2]⟩) w) k (ptr c 0) (I (p : Int)) (I ((2 ^ i : Nat) : Int)) (I (i : Int)) w := by
  intro k
  induction k with
  | zero => intro i hk hi; omega
  | succ k ih =>
    intro i hk hi
    rw [orpimentref02_Queue_best_l10_succ]
    unfold orpimentref02_Queue_best_b9
    rw [bin_lss, pv_some]
    have hpw : 2 ^ i ≤ 2 ^ 7 := Nat.pow_le_pow_right (by omega) (by omega)
    refine cnd_decide (fun hc => ?_) (fun hc => ?_)
    · have e : ((2 ^ i : Nat) : Int) * 2 = ((2 ^ (i + 1) : Nat) : Int) := by rw [Nat.pow_succ, Int.natCast_mul]; rfl
      have hpw2 : 2 ^ (i + 1) ≤ 2 ^ 8 := Nat.pow_le_pow_right (by omega) (by omega)
      rw [bin_mul, pv_some, e]
      have hw : IntKind.i64.wrap ((2 ^ (i + 1) : Nat) : Int) = ((2 ^ (i + 1) : Nat) : Int) := by
        generalize 2 ^ (i + 1) = P at hpw2 ⊢
        exact wrap64_id (by omega) (by omega)
      rw [hw, bin_add, pv_some, wrap64_id (by omega) (by omega)]
      exact ih (i + 1) (by omega) (by omega)
    · have : i = p := by omega
      subst this
      unfold orpimentref02_Queue_best_j1 orpimentref02_Queue_best_j3 orpimentref02_Queue_best_j4
      exact ⟨L.length + 1, best_l hp h hg (L.length + 1) 0 (by omega) (by omega) (fun j e hj => by omega)⟩
theorem rSel (h : RR B b w c L) (hg : Good L) (p : Int) : Calls Pg 48 ⟨[ptr c 0, I p]⟩ w (Rets (.tuple ⟨[I (bestP L p).1, I (bestP L p).2]⟩) w) := by
  apply orpimentref02_Queue_best_calls
  unfold orpimentref02_Queue_best
  simp only [eqNil_some, pv_some, cnd_false, bin_lss]
  by_cases h0 : p < 0
  · simp only [h0, decide_true, gd_no', pv_some, pick_true, cnd_true]
    refine ⟨?_, rfl⟩; simp only [bestP]; rw [if_neg (by omega)]
  · simp only [h0, decide_false, gd_yes', pv_some, pick_false, bin_gtr]
    refine cnd_decide (fun hc => ?_) (fun hc => ?_)
    · refine ⟨?_, rfl⟩; simp only [bestP]; rw [if_neg (by omega)]
    · obtain ⟨n, rfl⟩ := Int.eq_ofNat_of_zero_le (by omega : 0 ≤ p)
      unfold orpimentref02_Queue_best_j7 orpimentref02_Queue_best_j8
      exact ⟨n + 1, best_pow (by omega) h hg (n + 1) 0 (by omega) (by omega)⟩
end
end Go.Proofs.Yticnobfmpogcoaa.Den
