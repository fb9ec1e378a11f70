/- The walks of math/bits.Len64 and LeadingZeros64. Conditions: none. -/
import Derived.Test.YticnobfmpogcoaaRdW1
set_option linter.unusedVariables false
set_option linter.unusedSimpArgs false
set_option maxRecDepth 20000
namespace Go.Proofs.Yticnobfmpogcoaa.Den
open Go Go.RowKit
/-- How many bits a number has. -/
def blen (x : Nat) : Nat := if x = 0 then 0 else Nat.log2 x + 1
theorem blen_lt {x k : Nat} (h : x < 2 ^ k) : blen x ≤ k := by
  unfold blen; split
  · omega
  · rename_i h0; have := (Nat.log2_lt h0).2 h; omega
theorem blen_div {x k : Nat} (h : 2 ^ k ≤ x) : blen x = k + blen (x / 2 ^ k) := by
  have hx : x ≠ 0 := by have := Nat.two_pow_pos k; omega
  have hq : x / 2 ^ k ≠ 0 := by
    have := Nat.div_pos h (Nat.two_pow_pos k); omega
  unfold blen; rw [if_neg hx, if_neg hq]
  have h1 : Nat.log2 (x / 2 ^ k) = Nat.log2 x - k := by
    have ha := Nat.log2_self_le hq
    have hb := (Nat.log2_lt hq).1 (Nat.lt_succ_self _)
    have hge : k ≤ Nat.log2 x := by rw [Nat.le_log2 hx]; exact h
    apply Nat.le_antisymm
    · rw [← Nat.lt_succ_iff, Nat.log2_lt hq]
      rw [Nat.div_lt_iff_lt_mul (Nat.two_pow_pos k), ← Nat.pow_add]
      have := (Nat.log2_lt hx).1 (Nat.lt_succ_self _)
      rwa [show (Nat.log2 x - k).succ + k = (Nat.log2 x).succ by omega]
    · rw [Nat.le_log2 hq, Nat.le_div_iff_mul_le (Nat.two_pow_pos k), ← Nat.pow_add, show Nat.log2 x - k + k = Nat.log2 x by omega]
      exact Nat.log2_self_le hx
  rw [h1]
  have hge : k ≤ Nat.log2 x := by rw [Nat.le_log2 hx]; exact h
  omega
theorem shr_nat {x k : Nat} {j : IntKind} (hk : k ≤ 64) : bin .shr (.int .u64 (x : Int)) (.int j (k : Int)) = some (.int .u64 ((x / 2 ^ k : Nat) : Int)) := by
  simp only [bin]
  rw [if_neg (by omega)]
  have e0 : min ((k : Int)).toNat IntKind.u64.bits = k := by rw [Int.toNat_natCast]; show min k 64 = k; omega
  rw [e0]
  have : ((x : Int)).fdiv (2 ^ k) = ((x / 2 ^ k : Nat) : Int) := by
    have e4 : (2 ^ k : Int) = ((2 ^ k : Nat) : Int) := by simp
    rw [Int.fdiv_eq_ediv_of_nonneg _ (by rw [e4]; exact Int.natCast_nonneg _), e4, ← Int.natCast_ediv]
  rw [this]
def len8tab : List UInt8 := [0, 1, 2, 2, 3, 3, 3, 3, 4, 4, 4, 4, 4, 4, 4, 4, 5, 5, 5, 5, 5, 5, 5, 5, 5, 5, 5, 5, 5, 5, 5, 5, 6, 6, 6, 6, 6, 6, 6, 6, 6, 6, 6, 6, 6, 6, 6, 6, 6, 6, 6, 6, 6, 6, 6, 6, 6, 6, 6, 6, 6, 6, 6, 6] ++ List.replicate 64 7 ++ List.replicate 128 8
theorem len8tab_at : ∀ i : Fin 256, len8tab[i.val]? = some (UInt8.ofNat (blen i.val)) := by decide +kernel
theorem ba_get (l : List UInt8) (x : Nat) : (⟨⟨l⟩⟩ : ByteArray)[x]? = l[x]? := by
  by_cases h : x < l.length
  · rw [getElem?_pos (⟨⟨l⟩⟩ : ByteArray) x h, List.getElem?_eq_getElem h]; rfl
  · rw [getElem?_neg (⟨⟨l⟩⟩ : ByteArray) x h, List.getElem?_eq_none (by omega)]
theorem ixStr_len8 {x : Nat} (h : x < 256) {tb : List UInt8} (htb : tb = len8tab) : ixStr (.string ⟨⟨tb⟩⟩) (.int .u8 (x : Int)) = some (.int .u8 ((blen x : Nat) : Int)) := by
  subst htb
  have hb : blen x ≤ 8 := blen_lt (by omega)
  have h1 := len8tab_at ⟨x, h⟩
  simp only [ixStr]
  rw [if_pos (by omega), Int.toNat_natCast]
  rw [ba_get, h1]
  have hm : blen x % 256 = blen x := Nat.mod_eq_of_lt (by omega)
  simp [hm]
theorem cvI_u8 {x : Nat} {k : IntKind} (h : x < 256) : cvI .u8 (.int k (x : Int)) = some (.int .u8 (x : Int)) := by
  simp only [cvI, IntKind.wrap, IntKind.signed, Bool.false_and, Bool.false_eq_true, if_false]
  have : (2 ^ IntKind.u8.bits : Int) = 256 := by decide
  rw [this]; congr 2; omega
theorem cvI_i64 {x : Nat} {k : IntKind} (h : x < 2 ^ 63) : cvI .i64 (.int k (x : Int)) = some (I (x : Int)) := by
  simp only [cvI]; rw [wrap64_id (by omega) (by omega)]
section
variable {w : World} {Q : ER}
theorem len64_j3 {x n : Nat} (hx : x < 256) (hn : n < 1000) (h : Q (.returned (I ((n + blen x : Nat) : Int))) w) : bits_Len64_j3 Q (.int .u64 (x : Int)) (I (n : Int)) w := by
  unfold bits_Len64_j3
  have hb : blen x ≤ 8 := blen_lt (by omega)
  rw [cvI_u8 hx, pv_some, ixStr_len8 hx (by kernel_rfl), pv_some, cvI_i64 (by omega), pv_some, bin_add, pv_some, wrap64_id (by omega) (by omega)]
  exact h
theorem len64_j2 {x n : Nat} (hx : x < 65536) (hn : n < 900) (h : Q (.returned (I ((n + blen x : Nat) : Int))) w) : bits_Len64_j2 Q (.int .u64 (x : Int)) (I (n : Int)) w := by
  unfold bits_Len64_j2
  rw [bin_geq, pv_some]
  refine cnd_decide (fun hc => ?_) (fun hc => ?_)
  · rw [show (8 : Int) = ((8 : Nat) : Int) from rfl, shr_nat (by omega), pv_some, bin_add, pv_some, wrap64_id (by omega) (by omega)]
    have e : blen x = 8 + blen (x / 2 ^ 8) := blen_div (by omega)
    exact len64_j3 (x := x / 2 ^ 8) (n := n + 8) (by omega) (by omega) (ret_eq h (by rw [e]; congr 2; omega))
  · exact len64_j3 (by omega) (by omega) h
theorem len64_j1 {x n : Nat} (hx : x < 4294967296) (hn : n < 800) (h : Q (.returned (I ((n + blen x : Nat) : Int))) w) : bits_Len64_j1 Q (.int .u64 (x : Int)) (I (n : Int)) w := by
  unfold bits_Len64_j1
  rw [bin_geq, pv_some]
  refine cnd_decide (fun hc => ?_) (fun hc => ?_)
  · rw [show (16 : Int) = ((16 : Nat) : Int) from rfl, shr_nat (by omega), pv_some, bin_add, pv_some, wrap64_id (by omega) (by omega)]
    have e : blen x = 16 + blen (x / 2 ^ 16) := blen_div (by omega)
    exact len64_j2 (x := x / 2 ^ 16) (n := n + 16) (by omega) (by omega) (ret_eq h (by rw [e]; congr 2; omega))
  · exact len64_j2 (by omega) (by omega) h
theorem len64_spec {x : Nat} (hx : x < 2 ^ 64) : Calls Pg 49 ⟨[.int .u64 (x : Int)]⟩ w fun e w' => e = .returned (I (blen x : Nat)) ∧ w' = w := by
  apply bits_Len64_calls
  unfold bits_Len64
  rw [bin_geq, pv_some]
  refine cnd_decide (fun hc => ?_) (fun hc => ?_)
  · rw [show (32 : Int) = ((32 : Nat) : Int) from rfl, shr_nat (by omega), pv_some]
    have e : blen x = 32 + blen (x / 2 ^ 32) := blen_div (by omega)
    refine len64_j1 (x := x / 2 ^ 32) (n := 32) (by omega) (by omega) ?_
    rw [← e]; exact ⟨rfl, rfl⟩
  · refine len64_j1 (n := 0) (by omega) (by omega) ?_
    rw [Nat.zero_add]; exact ⟨rfl, rfl⟩
theorem lz64_spec {x : Nat} (hx : x < 2 ^ 64) : Calls Pg 40 ⟨[.int .u64 (x : Int)]⟩ w fun e w' => e = .returned (I ((64 - blen x : Nat) : Int)) ∧ w' = w := by
  apply bits_LeadingZeros64_calls
  unfold bits_LeadingZeros64
  have hb : blen x ≤ 64 := blen_lt hx
  refine cal_of (len64_spec hx) ?_
  rintro e w' ⟨rfl, rfl⟩
  simp only [retK, bin_sub, pv_some]
  rw [wrap64_id (by omega) (by omega)]
  exact ⟨by congr 2; omega, by trivial⟩
end
end Go.Proofs.Yticnobfmpogcoaa.Den
