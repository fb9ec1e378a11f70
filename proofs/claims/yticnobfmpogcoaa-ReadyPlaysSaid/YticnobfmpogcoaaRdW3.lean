/- The walk of the search for the greatest priority. Conditions: none. -/
import Derived.Test.YticnobfmpogcoaaRdW2
set_option linter.unusedVariables false
set_option linter.unusedSimpArgs false
namespace Go.Proofs.Yticnobfmpogcoaa.Den
open Go Go.RowKit
/-- The greatest number below n of which f holds, or -1. -/
def gre (f : Nat → Bool) : Nat → Int
  | 0 => -1
  | n + 1 => if f n then (n : Int) else gre f n
def QS.bit (q : QS) (p : Nat) : Bool := (q.words (p / 64)).testBit (p % 64)
theorem log2_add {s x : Nat} (h : x < 2 ^ s) : Nat.log2 (x + 2 ^ s) = s := by
  have h0 : x + 2 ^ s ≠ 0 := by have := Nat.two_pow_pos s; omega
  apply Nat.le_antisymm
  · rw [← Nat.lt_succ_iff, Nat.log2_lt h0, Nat.pow_succ]; omega
  · rw [Nat.le_log2 h0]; omega
theorem gre_word {f : Nat → Bool} {W k : Nat} (hf : ∀ j, j < 64 → f (64 * k + j) = W.testBit j) : ∀ s, s ≤ 64 →
    gre f (64 * k + s) = if W % 2 ^ s = 0 then gre f (64 * k) else ((64 * k + Nat.log2 (W % 2 ^ s) : Nat) : Int)
  | 0, _ => by simp [Nat.mod_one]
  | s + 1, hs => by
    have ih := gre_word hf s (by omega)
    show (if f (64 * k + s) then ((64 * k + s : Nat) : Int) else gre f (64 * k + s)) = _
    have hm : W % 2 ^ (s + 1) = W % 2 ^ s + 2 ^ s * (W / 2 ^ s % 2) := Nat.mod_pow_succ
    rw [hf s (by omega), hm, Nat.testBit_eq_decide_div_mod_eq]
    by_cases hb : W / 2 ^ s % 2 = 1
    · have hlt : W % 2 ^ s < 2 ^ s := Nat.mod_lt _ (Nat.two_pow_pos s)
      have h0 : W % 2 ^ s + 2 ^ s ≠ 0 := by have := Nat.two_pow_pos s; omega
      simp only [hb, decide_true, if_true, Nat.mul_one]
      rw [if_neg h0, log2_add hlt]
    · have hb0 : W / 2 ^ s % 2 = 0 := by omega
      simp only [hb0, show decide ((0 : Nat) = 1) = false from rfl, Bool.false_eq_true, if_false, Nat.mul_zero, Nat.add_zero]; exact ih
theorem shl_nat {W n : Nat} (hn : n ≤ 64) : bin .shl (.int .u64 (W : Int)) (I (n : Int)) = some (.int .u64 (((W * 2 ^ n) % 2 ^ 64 : Nat) : Int)) := by
  simp only [bin]
  rw [if_neg (by omega)]
  have e0 : min ((n : Int)).toNat IntKind.u64.bits = n := by rw [Int.toNat_natCast]; show min n 64 = n; omega
  rw [e0]
  have e3 : IntKind.u64.wrap ((W : Int) * 2 ^ n) = (((W * 2 ^ n) % 2 ^ 64 : Nat) : Int) := by
    simp only [IntKind.wrap, IntKind.signed, Bool.false_and, Bool.false_eq_true, if_false]
    have : (2 ^ IntKind.u64.bits : Int) = ((2 ^ 64 : Nat) : Int) := by decide
    rw [this]
    have e4 : ((W : Int) * 2 ^ n) = ((W * 2 ^ n : Nat) : Int) := by simp
    rw [e4, ← Int.natCast_emod]
  rw [e3]
theorem blen_mul {x k : Nat} (h : x ≠ 0) : blen (x * 2 ^ k) = blen x + k := by
  have h1 : 2 ^ k ≤ x * 2 ^ k := Nat.le_mul_of_pos_left _ (by omega)
  rw [blen_div h1, Nat.mul_div_cancel _ (Nat.two_pow_pos k)]; omega
theorem shl_mod {W r : Nat} (hr : r < 64) : (W * 2 ^ (63 - r)) % 2 ^ 64 = (W % 2 ^ (r + 1)) * 2 ^ (63 - r) := by
  have : 2 ^ 64 = 2 ^ (r + 1) * 2 ^ (63 - r) := by rw [← Nat.pow_add]; congr 1; omega
  rw [this, Nat.mul_mod_mul_right]
section
variable {w : World} {b : Nat} {q : QS} {R : ER}
theorem greatest_l (hb : QB w b q) (hw : ∀ k, k < 4 → q.words k < 2 ^ 64) : ∀ (n s : Nat), s < n → s ≤ 256 → R (.returned (I (gre q.bit s))) w →
    ready_ring_greatest_l5 R n (ptr b 0) (I ((s : Int) - 1)) w
  | n + 1, s, hn, hs, k => by
    rw [ready_ring_greatest_l5_succ]
    unfold ready_ring_greatest_b4
    rw [bin_geq, pv_some]
    refine cnd_decide (fun hc => ?_) (fun hc => ?_)
    · obtain ⟨p, rfl⟩ : ∃ p, s = p + 1 := ⟨s - 1, by omega⟩
      have e1 : (((p + 1 : Nat) : Int) - 1) = (p : Int) := by omega
      have hr : p % 64 < 64 := Nat.mod_lt _ (by omega)
      rw [e1, quo64 (by omega), pv_some]
      simp only [nilO_ptr, pv_some, faO_mk, ixA_mk (show p / 64 < 4 by omega), Nat.zero_add, Nat.mul_one]
      refine ld_word (t := p / 64) hb (by omega) ?_
      have hW := hw (p / 64) (by omega)
      rw [rem64, pv_some, bin_sub, pv_some, wrap64_id (by omega) (by omega)]
      have e2 : ((63 : Int) - ((p % 64 : Nat) : Int)) = ((63 - p % 64 : Nat) : Int) := by omega
      rw [e2, shl_nat (by omega), pv_some, shl_mod hr]
      have hgre : gre q.bit (p + 1) = if q.words (p / 64) % 2 ^ (p % 64 + 1) = 0 then gre q.bit (64 * (p / 64)) else ((64 * (p / 64) + Nat.log2 (q.words (p / 64) % 2 ^ (p % 64 + 1)) : Nat) : Int) := by
        have := gre_word (f := q.bit) (W := q.words (p / 64)) (k := p / 64) (fun j hj => by
          unfold QS.bit
          rw [show (64 * (p / 64) + j) / 64 = p / 64 by omega, show (64 * (p / 64) + j) % 64 = j by omega]) (p % 64 + 1) (by omega)
        rwa [show 64 * (p / 64) + (p % 64 + 1) = p + 1 by omega] at this
      generalize hu : q.words (p / 64) % 2 ^ (p % 64 + 1) = u at hgre ⊢
      rw [bin_neq, pv_some]
      by_cases h0 : u = 0
      · subst h0
        simp only [Nat.zero_mul]
        rw [show decide (((0 : Nat) : Int) ≠ 0) = false by simp, cnd_false, pv_some, bin_add, pv_some, bin_sub, pv_some]
        rw [wrap64_id (a := ((p % 64 : Nat) : Int) + 1) (by omega) (by omega), wrap64_id (by omega) (by omega)]
        have e3 : ((p : Int) - (((p % 64 : Nat) : Int) + 1)) = ((64 * (p / 64) : Nat) : Int) - 1 := by omega
        rw [e3]
        refine greatest_l hb hw n (64 * (p / 64)) (by omega) (by omega) ?_
        rw [hgre, if_pos rfl] at k
        exact k
      · have hpos : 0 < u * 2 ^ (63 - p % 64) := Nat.mul_pos (by omega) (Nat.two_pow_pos _)
        have hult : u < 2 ^ (p % 64 + 1) := by rw [← hu]; exact Nat.mod_lt _ (Nat.two_pow_pos _)
        have hvlt : u * 2 ^ (63 - p % 64) < 2 ^ 64 := by
          have : 2 ^ 64 = 2 ^ (p % 64 + 1) * 2 ^ (63 - p % 64) := by rw [← Nat.pow_add]; congr 1; omega
          rw [this]; exact Nat.mul_lt_mul_of_pos_right hult (Nat.two_pow_pos _)
        rw [show decide (((u * 2 ^ (63 - p % 64) : Nat) : Int) ≠ 0) = true by simp only [decide_eq_true_eq]; omega, cnd_true]
        refine cal_of (lz64_spec hvlt) ?_
        rintro e w' ⟨rfl, rfl⟩
        have hbl : blen (u * 2 ^ (63 - p % 64)) = blen u + (63 - p % 64) := blen_mul h0
        have hbu : blen u = Nat.log2 u + 1 := by unfold blen; rw [if_neg h0]
        have hlog : Nat.log2 u < p % 64 + 1 := (Nat.log2_lt h0).2 hult
        simp only [retK]
        rw [bin_sub, pv_some, wrap64_id (by omega) (by omega)]
        rw [hgre, if_neg h0] at k
        refine ret_eq k ?_
        congr 1
        rw [hbl, hbu]; omega
    · have : s = 0 := by omega
      subst this
      unfold ready_ring_greatest_j1
      exact k
theorem greatest_spec (hb : QB w b q) (hw : ∀ k, k < 4 → q.words k < 2 ^ 64) {s : Nat} (hs : s ≤ 256) :
    Calls Pg 27 ⟨[ptr b 0, I (s : Int)]⟩ w fun e w' => e = .returned (I (gre q.bit s)) ∧ w' = w := by
  apply ready_ring_greatest_calls
  unfold ready_ring_greatest ready_ring_greatest_j2 ready_ring_greatest_j3
  rw [bin_sub, pv_some, wrap64_id (by omega) (by omega)]
  exact ⟨s + 1, greatest_l hb hw (s + 1) s (by omega) hs ⟨rfl, rfl⟩⟩
end
end Go.Proofs.Yticnobfmpogcoaa.Den
