/- The walks of Best, Take and Order. Conditions: none. -/
import Derived.Test.YticnobfmpogcoaaRdW7
set_option linter.unusedVariables false
set_option linter.unusedSimpArgs false
set_option maxRecDepth 8000
namespace Go.Proofs.Yticnobfmpogcoaa.Den
open Go Go.RowKit
theorem shr_i64 {x k : Nat} (hk : k ≤ 64) : bin .shr (I (x : Int)) (I (k : Int)) = some (I ((x / 2 ^ k : Nat) : Int)) := by
  simp only [bin]
  rw [if_neg (by omega)]
  have e0 : min ((k : Int)).toNat IntKind.i64.bits = k := by rw [Int.toNat_natCast]; show min k 64 = k; omega
  rw [e0]
  have : ((x : Int)).fdiv (2 ^ k) = ((x / 2 ^ k : Nat) : Int) := by
    have e4 : (2 ^ k : Int) = ((2 ^ k : Nat) : Int) := by simp
    rw [Int.fdiv_eq_ediv_of_nonneg _ (by rw [e4]; exact Int.natCast_nonneg _), e4, ← Int.natCast_ediv]
  rw [this]
theorem and_one {x : Nat} (h : x < 2 ^ 63) : bin .and (I (x : Int)) (I 1) = some (I ((x % 2 : Nat) : Int)) := by
  have e1 : (BitVec.ofInt 64 (x : Int)).toNat = x := by rw [BitVec.ofInt_natCast, BitVec.toNat_ofNat, Nat.mod_eq_of_lt (by omega)]
  have e2 : (BitVec.ofInt 64 (1 : Int)).toNat = 1 := by decide
  show (if IntKind.i64 = IntKind.i64 then bitsI .and .i64 (x : Int) 1 else none) = _
  rw [if_pos rfl]
  show some (Value.int .i64 (IntKind.i64.wrap (((BitVec.ofInt 64 (x : Int)) &&& (BitVec.ofInt 64 (1 : Int))).toNat : Int))) = _
  rw [BitVec.toNat_and, e1, e2, Nat.and_one_is_mod, wrap64_id (by omega) (by omega)]
theorem gre_spec (f : Nat → Bool) : ∀ s, (gre f s = -1 ∧ ∀ u, u < s → f u = false) ∨ ∃ p : Nat, gre f s = (p : Int) ∧ p < s ∧ f p = true ∧ ∀ u, p < u → u < s → f u = false
  | 0 => .inl ⟨rfl, fun u hu => by omega⟩
  | s + 1 => by
    cases hf : f s with
    | true => exact .inr ⟨s, by simp [gre, hf], by omega, hf, fun u h1 h2 => by omega⟩
    | false =>
      have e : gre f (s + 1) = gre f s := by simp [gre, hf]
      rcases gre_spec f s with ⟨h1, h2⟩ | ⟨p, h1, h2, h3, h4⟩
      · refine .inl ⟨e.trans h1, fun u hu => ?_⟩
        by_cases hus : u = s
        · rw [hus, hf]
        · exact h2 u (by omega)
      · refine .inr ⟨p, e.trans h1, by omega, h3, fun u g1 g2 => ?_⟩
        by_cases hus : u = s
        · rw [hus, hf]
        · exact h4 u g1 (by omega)
/-- The entries of priorities below s. -/
def part (L : List Ent) (s : Nat) : List Ent := L.filter fun e => decide (e.p < s)
def lvl (L : List Ent) (p : Nat) : List Ent := L.filter fun e => e.p == p
theorem ring_lvl (L : List Ent) (p : Nat) : ring L p = (lvl L p).map (·.t) := rfl
theorem part_all {L : List Ent} (h : Good L) : part L 256 = L := List.filter_eq_self.2 fun e he => by simpa using (h.ok e he).2.1
theorem part_split : ∀ {L : List Ent}, Sorted L → ∀ {p s : Nat}, p < s → (∀ e ∈ L, ¬ (p < e.p ∧ e.p < s)) → part L s = lvl L p ++ part L p
  | [], _, p, s, hps, h => rfl
  | y :: l, hs, p, s, hps, h => by
    have h1 := List.pairwise_cons.1 hs
    have ih := part_split h1.2 hps (fun e he => h e (List.mem_cons_of_mem _ he))
    have hy := h y (by simp)
    unfold part lvl at ih ⊢
    rw [List.filter_cons, List.filter_cons, List.filter_cons]
    by_cases g1 : y.p = p
    · have e1 : decide (y.p < s) = true := by simpa using (by omega : y.p < s)
      have e2 : (y.p == p) = true := by simpa using g1
      have e3 : decide (y.p < p) = false := by simp; omega
      simp only [e1, e2, e3, if_true, Bool.false_eq_true, if_false, List.cons_append]; rw [ih]
    · by_cases g2 : y.p < p
      · have e1 : decide (y.p < s) = true := by simpa using (by omega : y.p < s)
        have e2 : (y.p == p) = false := by simpa using g1
        have e3 : decide (y.p < p) = true := by simpa using g2
        have e4 : l.filter (fun e => e.p == p) = [] := List.filter_eq_nil_iff.2 fun e he => by have := h1.1 e he; simp; omega
        simp only [e1, e2, e3, if_true, Bool.false_eq_true, if_false]; rw [ih, e4]; rfl
      · have e1 : decide (y.p < s) = false := by simp; omega
        have e2 : (y.p == p) = false := by simpa using g1
        have e3 : decide (y.p < p) = false := by simp; omega
        simp only [e1, e2, e3, Bool.false_eq_true, if_false]; exact ih
theorem part_nil {L : List Ent} {s : Nat} (h : ∀ e ∈ L, ¬ e.p < s) : part L s = [] := List.filter_eq_nil_iff.2 fun e he => by simpa using h e he
section
variable {w : World} {b : Nat} {q : QS} {L : List Ent} {R : ER}
theorem bit_none (hr : Rep0 q L) {u : Nat} (hu : u < 256) (h : q.bit u = false) : ∀ e ∈ L, e.p ≠ u := fun e he hep => by
  have h1 := hr.bits u hu
  rw [h] at h1
  have : e.t ∈ ring L u := mem_ring.2 ⟨e, he, hep, rfl⟩
  cases hrg : ring L u with
  | nil => rw [hrg] at this; cases this
  | cons _ _ => rw [hrg] at h1; cases h1
theorem next_of {p : Nat} {E pre post : List Ent} {e : Ent} (hE : E = pre ++ e :: post) (hr : Ring q p (E.map (·.t))) :
    q.next e.t = ((match post with | [] => ((E.map (·.t)).headD 0) | z :: _ => z.t : Nat) : Int) := by
  subst hE
  simp only [List.map_append, List.map_cons] at hr ⊢
  cases pre with
  | nil =>
    cases post with
    | nil => exact hr.2.1
    | cons z post => exact hr.2.1.1
  | cons y pre =>
    obtain ⟨h1, h2⟩ := (Chain_append q (pre.map (·.t)) y.t e.t y.t (post.map (·.t))).1 hr.2
    cases post with
    | nil => exact h2.1
    | cons z post => exact h2.1.1
def bitE (c : Nat) (e : Ent) : Bool := e.m.testBit c
theorem best_l9 (hb : QB w b q) (hr : Rep0 q L) {p c h0 : Nat} (hp : p < 256) (hc : c < 8) {k1 : Value → Value → Value → WP} {E : List Ent} (hE : E = lvl L p) (hh : (E.map (·.t)).headD 0 = h0) :
    ∀ (post pre : List Ent) (e : Ent) (n : Nat), E = pre ++ e :: post → post.length < n →
    (match (e :: post).find? (bitE c) with | some x => R (.returned (.tuple ⟨[I (x.t : Int), I 0]⟩)) w | none => ready_Queue_Best_j5 R k1 (ptr b 0) (I (c : Int)) (I (p : Int)) w) →
    ready_Queue_Best_l9 R k1 n (ptr b 0) (I (c : Int)) (I (p : Int)) (I (h0 : Int)) (I (e.t : Int)) w
  | post, pre, e, 0, he, hn, k => by omega
  | post, pre, e, n + 1, he, hn, k => by
    have hm : e ∈ L := by
      have : e ∈ lvl L p := by rw [← hE, he]; simp
      exact (List.mem_filter.1 this).1
    obtain ⟨ht, _, hm1, hm2⟩ := hr.good.ok e hm
    have hrg : Ring q p (E.map (·.t)) := by rw [hE, ← ring_lvl]; exact hr.rings p hp
    have hnd : (E.map (·.t)).Nodup := by rw [hE, ← ring_lvl]; exact ring_nodup hr.good.nodup p
    rw [ready_Queue_Best_l9_succ]
    unfold ready_Queue_Best_b8
    simp only [nilO_ptr, pv_some, faO_mk, ixA_mk ht, Nat.zero_add, Nat.add_zero]
    refine ld_mask hb ht ?_
    rw [hr.mask e hm, shr_i64 (by omega), pv_some, and_one (by have := Nat.div_le_self e.m (2 ^ c); omega), pv_some, bin_eql, pv_some]
    have hbit : bitE c e = decide (e.m / 2 ^ c % 2 = 1) := Nat.testBit_eq_decide_div_mod_eq
    refine cnd_decide (fun h1 => ?_) (fun h1 => ?_)
    · have : bitE c e = true := by rw [hbit]; simp; omega
      simp only [List.find?_cons, this] at k
      exact k
    · have : bitE c e = false := by rw [hbit]; simp; omega
      simp only [List.find?_cons, this] at k
      refine ld_next hb ht ?_
      rw [next_of he hrg, bin_eql, pv_some]
      cases post with
      | nil =>
        rw [hh]
        simp only [decide_true, cnd_true]
        exact k
      | cons z post =>
        have hz : z.t ≠ h0 := by
          intro g
          rw [← hh, he] at g
          rw [he] at hnd
          cases pre with
          | nil => simp at g hnd; exact hnd.1.1 g.symm
          | cons y pre =>
            simp at g hnd
            exact hnd.1.2.2.1 g.symm
        have hz' : decide (((z.t : Nat) : Int) = (h0 : Int)) = false := by simp; omega
        simp only [hz', cnd_false]
        exact best_l9 hb hr hp hc hE hh post (pre ++ [e]) z n (by rw [he]; simp) (by simp at hn; omega) k
theorem best_l10 (hb : QB w b q) (hr : Rep0 q L) {c : Nat} (hc : c < 8) : ∀ (n s : Nat), s < n → s ≤ 256 →
    (match (part L s).find? (bitE c) with | some x => R (.returned (.tuple ⟨[I (x.t : Int), I 0]⟩)) w | none => R (.returned (.tuple ⟨[I 0, I 22]⟩)) w) →
    ready_Queue_Best_l10 R n (ptr b 0) (I (c : Int)) (I (gre q.bit s)) w
  | 0, s, hn, hs, k => by omega
  | n + 1, s, hn, hs, k => by
    rw [ready_Queue_Best_l10_succ]
    unfold ready_Queue_Best_b4
    rw [bin_neq, pv_some]
    rcases gre_spec q.bit s with ⟨h1, h2⟩ | ⟨p, h1, h2, h3, h4⟩
    · rw [h1]
      have hpn : part L s = [] := part_nil fun e he hlt => bit_none hr (by omega) (h2 e.p hlt) e he rfl
      rw [hpn] at k
      simp only [ne_eq, not_true_eq_false, decide_false, cnd_false]
      unfold ready_Queue_Best_j1
      exact k
    · rw [h1]
      have hp : p < 256 := by omega
      have hps : part L s = lvl L p ++ part L p := part_split hr.good.sorted h2 fun e he hlt => bit_none hr (by omega) (h4 e.p hlt.1 hlt.2) e he rfl
      rw [hps, List.find?_append] at k
      have hne : decide (((p : Nat) : Int) ≠ -1) = true := by simp
      simp only [hne, cnd_true]
      unfold ready_Queue_Best_j6
      simp only [nilO_ptr, pv_some, faO_mk, ixA_mk hp, Nat.zero_add, Nat.mul_one]
      refine ld_first hb hp ?_
      cases hE : lvl L p with
      | nil =>
        exfalso
        have := hr.bits p hp
        rw [h3, ring_lvl, hE] at this; cases this
      | cons e post =>
        have hrg := hr.rings p hp
        rw [ring_lvl, hE] at hrg
        rw [hrg.1]
        unfold ready_Queue_Best_j7
        refine ⟨post.length + 1, ?_⟩
        refine best_l9 hb hr hp hc hE.symm rfl post [] e _ rfl (by omega) ?_
        rw [hE] at k
        cases hf : (e :: post).find? (bitE c) with
        | some x => rw [hf] at k; exact k
        | none =>
          rw [hf] at k
          simp only [Option.none_or] at k
          unfold ready_Queue_Best_j5
          simp only [nilO_ptr, pv_some, faO_mk, Nat.zero_add]
          refine cal_of (greatest_spec hb hr.words (s := p) (by omega)) ?_
          rintro e w' ⟨rfl, hw⟩
          obtain rfl := hw.symm
          simp only [retK]
          exact best_l10 hb hr hc n p (by omega) (by omega) k
def aBest (L : List Ent) (c : Int) : Int × Int := if 0 ≤ c ∧ c < 8 then (match L.find? (bitE c.toNat) with | some x => ((x.t : Int), 0) | none => (0, 22)) else (0, 34)
theorem Best_spec (h : RQ w b L) (c : Int) : Calls Pg 19 ⟨[ptr b 0, I c]⟩ w fun e w' => e = .returned (.tuple ⟨[I (aBest L c).1, I (aBest L c).2]⟩) ∧ w' = w := by
  apply ready_Queue_Best_calls
  unfold ready_Queue_Best
  simp only [eqNil_some, pv_some, cnd_false, bin_lss]
  by_cases h1 : c < 0
  · have : ¬ (0 ≤ c ∧ c < 8) := by omega
    simp only [h1, decide_true, gd_no', pv_some, pick_true, cnd_true, aBest, this, if_false]
    exact ⟨by trivial, by trivial⟩
  · by_cases h2 : 8 ≤ c
    · have : ¬ (0 ≤ c ∧ c < 8) := by omega
      simp only [h1, decide_false, gd_yes', pv_some, bin_geq, h2, decide_true, pick_false, cnd_true, aBest, this, if_false]
      exact ⟨by trivial, by trivial⟩
    · have hc : 0 ≤ c ∧ c < 8 := by omega
      simp only [h1, decide_false, gd_yes', pv_some, bin_geq, h2, pick_false, cnd_false, aBest, hc]
      obtain ⟨c, rfl⟩ : ∃ n : Nat, c = n := ⟨c.toNat, by omega⟩
      obtain ⟨q, hb, hr⟩ := h
      unfold ready_Queue_Best_j2
      simp only [nilO_ptr, pv_some, faO_mk, Nat.zero_add]
      refine cal_of (greatest_spec hb hr.words (s := 256) (by omega)) ?_
      rintro e w' ⟨rfl, rfl⟩
      simp only [retK]
      unfold ready_Queue_Best_j3
      refine ⟨257, ?_⟩
      refine best_l10 hb hr.toRep0 (by omega) 257 256 (by omega) (by omega) ?_
      rw [part_all hr.good]
      simp only [and_self, if_true, Int.toNat_natCast]
      cases hf : L.find? (bitE c) with
      | some x => exact ⟨by trivial, by trivial⟩
      | none => exact ⟨by trivial, by trivial⟩
def aTake (L : List Ent) (c : Int) : (Int × Int) × List Ent := if 0 ≤ c ∧ c < 8 then (match L.find? (bitE c.toNat) with | some x => (((x.t : Int), 0), eraseL x.t L) | none => ((0, 22), L)) else ((0, 34), L)
theorem Take_spec (h : RQ w b L) (c : Int) (hlen : L.length < 1000) : Calls Pg 16 ⟨[ptr b 0, I c]⟩ w fun e w' => e = .returned (.tuple ⟨[I (aTake L c).1.1, I (aTake L c).1.2]⟩) ∧ RQ w' b (aTake L c).2 ∧ Ext [b] w w' := by
  apply ready_Queue_Take_calls
  unfold ready_Queue_Take
  refine cal_of (Best_spec h c) ?_
  rintro e w' ⟨rfl, rfl⟩
  simp only [retK, ext0, ext1, pv_some, bin_neq]
  by_cases hc : 0 ≤ c ∧ c < 8
  · simp only [aBest, aTake, hc, and_self, if_true]
    cases hf : L.find? (bitE c.toNat) with
    | none =>
      simp only [ne_eq, show decide (¬ (22 : Int) = 0) = true from rfl, cnd_true]
      exact ⟨by trivial, h, Ext.refl _ _⟩
    | some x =>
      have hx := List.mem_of_find?_eq_some hf
      simp only [ne_eq, not_true_eq_false, decide_false, cnd_false]
      refine cal_of (Remove_spec h (x.t : Int) hlen) ?_
      rintro e w1 ⟨rfl, hq, he⟩
      have ht := (h.good.ok x hx).1
      have h0 : hasE L (x.t : Int) true = 0 := by
        have : isT (x.t : Int) = true := by simp [isT]; omega
        simp [hasE, this, inL_iff.2 ⟨x, hx, rfl⟩]
      simp only [aRemove, if_pos h0, Int.toNat_natCast] at hq ⊢
      exact ⟨rfl, hq, he⟩
  · simp only [aBest, aTake, hc, if_false, ne_eq, show decide (¬ (34 : Int) = 0) = true from rfl, cnd_true]
    exact ⟨by trivial, h, Ext.refl _ _⟩
end
end Go.Proofs.Yticnobfmpogcoaa.Den
