/- Links: what Encode makes, Decode gives back. Conditions: none. -/
import Derived.Test.YtmnpndgmfmjfhaaLkRow
set_option linter.unusedVariables false
set_option linter.unusedSimpArgs false
set_option maxRecDepth 8000
namespace Go.Proofs.Ytmnpndgmfmjfhaa.Den
open Go Go.RowKit
theorem gst_small {x c : Int} (h0 : 0 ≤ x) (h1 : x < 72057594037927936) (c0 : 0 ≤ c) (c1 : c < 256) : gst x c = x * 256 + c := by
  unfold gst
  have q1 : IntKind.u64.wrap (x * 256) = x * 256 := by rw [wrapU64, Int.emod_eq_of_lt (by omega) (by omega)]
  have q2 : IntKind.u64.wrap c = c := by rw [wrapU64, Int.emod_eq_of_lt (by omega) (by omega)]
  rw [q1, q2, wrapU64]
  clear q1 q2
  obtain ⟨a, rfl⟩ : ∃ a : Nat, x = (a : Int) := ⟨x.toNat, by omega⟩
  obtain ⟨b, rfl⟩ : ∃ b : Nat, c = (b : Int) := ⟨c.toNat, by omega⟩
  have e1 : BitVec.ofInt 64 ((a : Int) * 256) = BitVec.ofNat 64 (a * 256) := by
    rw [← BitVec.ofInt_natCast]; congr 1
  have e2 : BitVec.ofInt 64 (b : Int) = BitVec.ofNat 64 b := BitVec.ofInt_natCast 64 b
  rw [e1, e2, BitVec.toNat_or, BitVec.toNat_ofNat, BitVec.toNat_ofNat, Nat.mod_eq_of_lt (by omega), Nat.mod_eq_of_lt (by omega)]
  have e3 : a * 256 ||| b = a * 256 + b := by
    have := Nat.two_pow_add_eq_or_of_lt (i := 8) (b := b) (by omega) a
    rw [show (2 : Nat) ^ 8 = 256 from rfl, Nat.mul_comm 256 a] at this
    exact this.symm
  rw [e3, Int.emod_eq_of_lt (by omega) (by omega)]
  omega
theorem getI_be : ∀ (n : Nat) (x : Int), n ≤ 8 → 0 ≤ x → x < 256 ^ n → getI (be n x) = x
  | 0, x, _, h0, h1 => by
    have : x < 1 := h1
    have : x = 0 := by omega
    subst this; rfl
  | n + 1, x, hn, h0, h1 => by
    have hp : (256 : Int) ^ (n + 1) = 256 ^ n * 256 := Int.pow_succ _ _
    have h2 : x / 256 < 256 ^ n := by rw [hp] at h1; exact Int.ediv_lt_of_lt_mul (by decide) h1
    have ih := getI_be n (x / 256) (by omega) (Int.ediv_nonneg h0 (by decide)) h2
    have h3 : (256 : Int) ^ n ≤ 72057594037927936 := by
      have : n ≤ 7 := by omega
      have : n = 0 ∨ n = 1 ∨ n = 2 ∨ n = 3 ∨ n = 4 ∨ n = 5 ∨ n = 6 ∨ n = 7 := by omega
      rcases this with rfl | rfl | rfl | rfl | rfl | rfl | rfl | rfl <;> decide
    unfold getI at ih ⊢
    rw [be, List.foldl_append, ih]
    show gst (x / 256) (x % 256) = x
    rw [gst_small (Int.ediv_nonneg h0 (by decide)) (by omega) (by omega) (by omega)]
    omega
theorem dst_range (h c : Int) : 0 ≤ dst h c ∧ dst h c < 18446744073709551616 := by
  unfold dst
  rw [wrapU64]
  exact ⟨Int.emod_nonneg _ (by decide), Int.emod_lt_of_pos _ (by decide)⟩
theorem fold_range : ∀ (xs : List Int) (a : Int), 0 ≤ a ∧ a < 18446744073709551616 → 0 ≤ xs.foldl dst a ∧ xs.foldl dst a < 18446744073709551616
  | [], a, h => h
  | x :: xs, a, h => fold_range xs _ (dst_range a x)
theorem digI_range (xs : List Int) : 0 ≤ digI xs ∧ digI xs < 18446744073709551616 := fold_range xs _ (by decide)
theorem be_byte : ∀ (n : Nat) (x : Int), ∀ y ∈ be n x, 0 ≤ y ∧ y < 256
  | 0, _, y, h => by simp [be] at h
  | n + 1, x, y, h => by
    rw [be, List.mem_append] at h
    rcases h with h | h
    · exact be_byte n _ y h
    · rw [List.mem_singleton] at h; subst h; omega
theorem i64_id {x : Int} (h0 : -9223372036854775808 ≤ x) (h1 : x ≤ 9223372036854775807) : i64 x = x := wrap64_id (by omega) (by omega)
theorem u64_id {x : Int} (h0 : 0 ≤ x) (h1 : x < 18446744073709551616) : u64 x = x := Int.emod_eq_of_lt h0 h1
theorem encE_zero {k : Int} {last : Bool} {m f : Int} {n : Nat} (h : encE k last m f n = 0) : (k = 1 ∨ k = 2 ∧ last = false ∧ n = 0) ∧ 1 ≤ m ∧ 0 ≤ f ∧ f ≤ 2147483647 ∧ n ≤ 4096 := by
  unfold encE at h
  split at h
  · cases h
  · split at h
    · cases h
    · split at h
      · cases h
      · split at h
        · cases h
        · rename_i h1 h2 h3 h4
          refine ⟨?_, by omega, by omega, by omega, by omega⟩
          by_cases hk : k = 1
          · exact .inl hk
          · have hk2 : k = 2 := by omega
            refine .inr ⟨hk2, ?_, ?_⟩
            · cases last with
              | false => rfl
              | true => exact absurd ⟨hk2, .inl rfl⟩ h2
            · by_cases hn : 0 < n
              · exact absurd ⟨hk2, .inr hn⟩ h2
              · omega
theorem dec_enc {k : Int} {last : Bool} {m f : Int} {xs : List Int} (h : encE k last m f xs.length = 0) (hm : m ≤ 9223372036854775807) :
    decE (encB k last m f xs) = 0 ∧ dK (encB k last m f xs) = k ∧ dB (encB k last m f xs) = lbit last ∧ dM (encB k last m f xs) = m ∧ dF (encB k last m f xs) = f ∧ (encB k last m f xs).drop 24 = xs ∧ (encB k last m f xs).length = 24 + xs.length := by
  obtain ⟨hk, h1, h2, h3, h4⟩ := encE_zero h
  have hlen := encB_length k last m f xs
  have hb : decide (lbit last = 1) = last := by cases last <;> rfl
  have gl : getI (be 2 (u64 xs.length)) = xs.length := by
    rw [u64_id (by omega) (by omega), getI_be 2 _ (by omega) (by omega) (by rw [show (256 : Int) ^ 2 = 65536 from rfl]; omega)]
  have gm : getI (be 8 (u64 m)) = m := by
    rw [u64_id (by omega) (by omega), getI_be 8 _ (by omega) (by omega) (by rw [show (256 : Int) ^ 8 = 18446744073709551616 from rfl]; omega)]
  have gf : getI (be 4 (u64 f)) = f := by
    rw [u64_id (by omega) (by omega), getI_be 4 _ (by omega) (by omega) (by rw [show (256 : Int) ^ 4 = 4294967296 from rfl]; omega)]
  have gd : getI (be 8 (digI (encH k last m f xs.length ++ xs))) = digI (encH k last m f xs.length ++ xs) :=
    getI_be 8 _ (by omega) (digI_range _).1 (digI_range _).2
  have gk : i64 (k % 256) = k := by
    rcases hk with rfl | ⟨rfl, _⟩ <;> rfl
  have eH : encH k last m f xs.length = [k % 256, lbit last] ++ be 2 (u64 xs.length) ++ be 8 (u64 m) ++ be 4 (u64 f) := rfl
  have eB : encB k last m f xs = encH k last m f xs.length ++ be 8 (digI (encH k last m f xs.length ++ xs)) ++ xs := rfl
  obtain ⟨a0, a1, ha⟩ := be2 (u64 xs.length)
  obtain ⟨b0, b1, b2, b3, b4, b5, b6, b7, hbm⟩ := be8 (u64 m)
  obtain ⟨c0, c1, c2, c3, hc⟩ := be4 (u64 f)
  obtain ⟨d0, d1, d2, d3, d4, d5, d6, d7, hd⟩ := be8 (digI (encH k last m f xs.length ++ xs))
  rw [hd] at gd
  rw [ha] at gl
  rw [hbm] at gm
  rw [hc] at gf
  have eH2 : encH k last m f xs.length = [k % 256, lbit last, a0, a1, b0, b1, b2, b3, b4, b5, b6, b7, c0, c1, c2, c3] := by rw [eH, ha, hbm, hc]; rfl
  have eB2 : encB k last m f xs = k % 256 :: lbit last :: a0 :: a1 :: b0 :: b1 :: b2 :: b3 :: b4 :: b5 :: b6 :: b7 :: c0 :: c1 :: c2 :: c3 :: d0 :: d1 :: d2 :: d3 :: d4 :: d5 :: d6 :: d7 :: xs := by
    rw [eB, hd, eH2]; rfl
  have hdig : (encB k last m f xs).take 16 ++ (encB k last m f xs).drop 24 = encH k last m f xs.length ++ xs := by rw [eB2, eH2]; rfl
  have rK : dK (encB k last m f xs) = k := by rw [eB2]; exact gk
  have rB : dB (encB k last m f xs) = lbit last := by rw [eB2]; rfl
  have rL : dL (encB k last m f xs) = xs.length := by
    rw [eB2]; show i64 (getI [a0, a1]) = _
    rw [gl, i64_id (by omega) (by omega)]
  have rM : dM (encB k last m f xs) = m := by
    rw [eB2]; show i64 (getI [b0, b1, b2, b3, b4, b5, b6, b7]) = _
    rw [gm, i64_id (by omega) (by omega)]
  have rF : dF (encB k last m f xs) = f := by
    rw [eB2]; show i64 (getI [c0, c1, c2, c3]) = _
    rw [gf, i64_id (by omega) (by omega)]
  have rS : dS (encB k last m f xs) = digI (encH k last m f xs.length ++ xs) := by
    rw [eB2]; exact gd
  have rD : (encB k last m f xs).drop 24 = xs := by rw [eB2]; rfl
  refine ⟨?_, rK, rB, rM, rF, rD, hlen⟩
  have ok : dOk (encB k last m f xs) := by
    unfold dOk
    rw [rK, rB, rL, rM, rF, hlen]
    refine ⟨?_, by cases last <;> decide, by omega, h1, h3⟩
    rcases hk with hq | ⟨hq, h', h''⟩
    · exact .inl hq
    · subst h'; exact .inr ⟨hq, rfl, by omega⟩
  unfold decE
  rw [if_neg (by rw [hlen]; rintro (h | h | h); omega; omega; exact h ok), hdig, rS, if_neg (by simp)]
end Go.Proofs.Ytmnpndgmfmjfhaa.Den
