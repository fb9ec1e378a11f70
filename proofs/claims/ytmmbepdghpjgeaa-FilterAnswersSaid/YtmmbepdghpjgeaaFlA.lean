/- Packet filter, the reader of a rule's text: char, ends, sign, more. Conditions: none. -/
import Derived.Test.YtmmbepdghpjgeaaFlM
import Derived.Test.YtmmbepdghpjgeaaFns
set_option linter.unusedVariables false
set_option linter.unusedSimpArgs false
set_option maxRecDepth 8000
namespace Go.Proofs.Ytmmbepdghpjgeaa.Den
open Go Go.RowKit
theorem bts_len (S : ByteArray) : (bts S).length = S.size := by unfold bts; rw [List.length_map]; rfl
theorem str_get (S : ByteArray) (i : Nat) (h : i < S.size) : ∃ b : UInt8, S[i]? = some b ∧ chr S i = b.toNat := by
  have h' : i < S.data.size := h
  refine ⟨S.data[i], ?_, ?_⟩
  · rw [getElem?_pos S i h]; rfl
  · unfold chr bts
    rw [List.getD_eq_getElem?_getD, List.getElem?_map, Array.getElem?_toList, Array.getElem?_eq_getElem h']; rfl
theorem ixStr_chr {S : ByteArray} {i : Nat} (h : i < S.size) : ixStr (.string S) (I (i : Int)) = some (U8 (chr S i : Int)) := by
  obtain ⟨b, h1, h2⟩ := str_get S i h
  have h1' : S[(i : Int).toNat]? = some b := h1
  simp only [ixStr, Int.natCast_nonneg, if_true, h1', h2]
theorem chr_out {S : ByteArray} {i : Nat} (h : S.size ≤ i) : chr S i = 10 := by
  unfold chr
  rw [List.getD_eq_getElem?_getD, List.getElem?_eq_none (by rw [bts_len]; exact h)]; rfl
theorem lenStr_mk (S : ByteArray) : lenStr (.string S) = some (I (S.size : Int)) := rfl
section
variable {w w' w0 : World} {L L' F cs A : List Chunk} {s : Value} {K : VK} {R : ER} {b i at' : Nat} {S : ByteArray}
theorem fchar_spec (H : Hp w0 w L) (hm : Has L b (.t 102) [.string S, I (at' : Int)]) :
    Calls Pg 82 ⟨[ptr b 0, I (i : Int)]⟩ w fun e w' => e = .returned (U8 (chr S i : Int)) ∧ Hp w0 w' L := by
  apply F82_calls
  unfold F82
  simp only [W0]
  refine ld_m H hm (v := .string S) rfl ?_
  refine pv_of (lenStr_mk S) ?_
  refine lss_k (fun h => ?_) (fun h => ?_)
  · simp only [W0]
    refine ld_m H hm (v := .string S) rfl ?_
    exact pv_of (ixStr_chr (by omega)) ⟨(by first | rfl | trivial), H⟩
  · simp only [W0]
    exact ⟨by rw [chr_out (by omega)]; rfl, H⟩
theorem fends_spec (H : Hp w0 w L) (hm : Has L b (.t 102) [.string S, I (at' : Int)]) :
    Calls Pg 81 ⟨[ptr b 0, I (i : Int)]⟩ w fun e w' => e = .returned (.bool (endsP S i)) ∧ Hp w0 w' L := by
  apply F81_calls
  unfold F81
  simp only [W0]
  refine ld_m H hm (v := .string S) rfl ?_
  refine pv_of (lenStr_mk S) ?_
  refine geq_k (fun h => ?_) (fun h => ?_)
  · simp only [W0]
    exact ⟨by simp [endsP, show S.size ≤ i by omega], H⟩
  · simp only [W0]
    refine ld_m H hm (v := .string S) rfl ?_
    try simp only [W0]
    refine pv_of (ixStr_chr (by omega)) ?_
    rw [bin_eql]; simp only [W0]
    refine ⟨?_, H⟩
    have h2 : ¬ S.size ≤ i := by omega
    have : (decide ((chr S i : Int) = 32)) = endsP S i := by
      unfold endsP; rw [Bool.eq_iff_iff]; simp [h2]; omega
    rw [this]
theorem fsign_spec {c j : Nat} (H : Hp w0 w L) (hu : Upd L b (.t 102) [.string S, I (i : Int)] (.t 102) [.string S, I (j : Int)] L') (hc : signP S i c = some j) (hi : i < 2 ^ 60) :
    Calls Pg 83 ⟨[ptr b 0, U8 (c : Int)]⟩ w fun e w' => e = .returned (.tuple ⟨[]⟩) ∧ Hp w0 w' L' := by
  unfold signP at hc
  split at hc
  · rename_i hcc
    injection hc with hc
    subst hc
    apply F83_calls
    unfold F83 F83_j2
    simp only [W0]
    refine ld_m H hu.has (v := I (i : Int)) rfl ?_
    refine cal_h (fchar_spec H hu.has) ?_
    rintro _ w ⟨rfl, H⟩
    simp only [W0]
    refine neq_n (by rw [hcc]; simp) ?_
    simp only [W0]
    unfold F83_j1
    simp only [W0]
    refine ld_m H hu.has (v := I (i : Int)) rfl ?_
    refine add_k (z := ((i + 1 : Nat) : Int)) (by omega) (by omega) (by omega) ?_
    try simp only [W0]
    refine st_m H hu (by simp) rfl fun w H => ⟨(by first | rfl | trivial), H⟩
  · cases hc
theorem fmore_spec {m : Bool} {j : Nat} (H : Hp w0 w L) (hu : Upd L b (.t 102) [.string S, I (i : Int)] (.t 102) [.string S, I (j : Int)] L') (hc : moreP S i = some (m, j)) (hi : i < 2 ^ 60) :
    Calls Pg 64 ⟨[ptr b 0]⟩ w fun e w' => e = .returned (.bool m) ∧ Hp w0 w' L' := by
  apply F64_calls
  unfold F64
  refine drew_k H fun w H => ?_
  simp only [W0]
  refine ld_m H hu.has (v := I (i : Int)) rfl ?_
  try simp only [W0]
  refine ld_m H hu.has (v := .string S) rfl ?_
  refine pv_of (lenStr_mk S) ?_
  unfold moreP at hc
  refine geq_k (fun h => ?_) (fun h => ?_)
  · rw [if_pos (by omega)] at hc
    injection hc with hc
    obtain ⟨rfl, rfl⟩ := Prod.mk.inj hc
    simp only [W0]
    refine ⟨(by first | rfl | trivial), ?_⟩
    obtain ⟨X, Y, rfl, rfl⟩ := hu
    exact H
  · rw [if_neg (by omega)] at hc
    cases hs : signP S i 32 with
    | none => rw [hs] at hc; cases hc
    | some j' =>
      rw [hs] at hc
      injection hc with hc
      obtain ⟨rfl, rfl⟩ := Prod.mk.inj hc
      simp only [W0]
      refine cal_h (fsign_spec (c := 32) H hu hs hi) ?_
      rintro _ w ⟨rfl, H⟩
      simp only [W0]
      exact ⟨(by first | rfl | trivial), H⟩
end
end Go.Proofs.Ytmmbepdghpjgeaa.Den
