/- Packet filter, the reader of a rule's text: number, counted, ports. Conditions: none. -/
import Derived.Test.YtmmbepdghpjgeaaFlB
set_option linter.unusedVariables false
set_option linter.unusedSimpArgs false
set_option maxRecDepth 8000
namespace Go.Proofs.Ytmmbepdghpjgeaa.Den
open Go Go.RowKit
section
variable {w w' w0 : World} {L L' F cs A X Y : List Chunk} {s : Value} {K : VK} {R : ER} {b i j at' : Nat} {S : ByteArray}
theorem hasP {t : Tag} {l : List Value} : Has (X ++ ⟨b, t, l⟩ :: Y) b t l := by unfold Has; simp
theorem updP {t t' : Tag} {l l' : List Value} : Upd (X ++ ⟨b, t, l⟩ :: Y) b t l t' l' (X ++ ⟨b, t', l'⟩ :: Y) := ⟨X, Y, rfl, rfl⟩
theorem chr_lt (S : ByteArray) (i : Nat) : chr S i < 256 := by
  unfold chr; rw [List.getD_eq_getElem?_getD]
  cases h : (bts S)[i]? with
  | none => decide
  | some x =>
    have hx := List.mem_of_getElem? h
    unfold bts at hx
    obtain ⟨u, _, rfl⟩ := List.mem_map.1 hx
    exact u.toNat_lt
theorem u8_sub {c : Nat} (h1 : 48 ≤ c) (h2 : c < 256) : bin .sub (U8 (c : Int)) (.int .u8 48) = some (U8 ((c - 48 : Nat) : Int)) := by
  rw [bin_sub]
  have : IntKind.u8.wrap ((c : Int) - 48) = ((c - 48 : Nat) : Int) := by
    have e1 : (2 ^ IntKind.u8.bits : Int) = 256 := by decide
    simp only [IntKind.wrap, e1, IntKind.signed, Bool.false_and, Bool.false_eq_true, if_false]
    omega
  rw [this]
theorem cv_u8 {c : Nat} (h2 : c < 256) : cvI .i64 (U8 (c : Int)) = some (I (c : Int)) := by
  simp only [cvI]; rw [wrap64_id (by omega) (by omega)]
theorem fnumber_spec {low high no : Int} {n : Nat} (H : Hp w0 w L) (hu : Upd L b (.t 102) [.string S, I (i : Int)] (.t 102) [.string S, I (j : Int)] L') (hn : numP S i low high no = some (n, j))
    (hl : 0 ≤ low) (hlow : low ≤ 65535) (hh : 0 ≤ high) (hh2 : high ≤ 65535) (hS : S.size ≤ 1000) (hi : i ≤ S.size) :
    Calls Pg 90 ⟨[ptr b 0, I low, I high, I no]⟩ w fun e w' => e = .returned (I (n : Int)) ∧ Hp w0 w' L' := by
  obtain ⟨X, Y, rfl, rfl⟩ := hu
  unfold numP at hn
  simp only at hn
  split at hn
  · cases hn
  rename_i hv
  injection hn with hn
  obtain ⟨rfl, rfl⟩ := Prod.mk.inj hn
  clear hn
  generalize hd : digitsOf ((bts S).drop i) = d at *
  have hv1 : d ≠ [] := fun h => hv (.inl h)
  have hv2 : low ≤ (valOf d : Int) := by have := fun h => hv (.inr (.inl h)); omega
  have hv3 : (valOf d : Int) ≤ high := by have := fun h => hv (.inr (.inr (.inl h))); omega
  have hv4 : (valOf d : Int) ≠ no := fun h => hv (.inr (.inr (.inr h)))
  have hlen : i + d.length ≤ S.size := by
    rcases Nat.eq_zero_or_pos d.length with h | h
    · omega
    · obtain ⟨x, h1, _⟩ := digitsOf_get ((bts S).drop i) (d.length - 1) (by rw [hd]; omega)
      have := (List.getElem?_eq_some_iff.1 h1).1
      rw [List.length_drop, bts_len] at this; omega
  generalize hQ : (fun (e : Ending) (w' : World) => e = .returned (I (valOf d : Int)) ∧ Hp w0 w' (X ++ ⟨b, .t 102, [.string S, I ((i + d.length : Nat) : Int)]⟩ :: Y) : ER) = Q
  apply F90_calls
  unfold F90
  refine drew_k H fun w H => ?_
  try simp only [W0]
  refine ld_m H hasP (v := I (i : Int)) rfl ?_
  unfold F90_j4
  refine loop6 (F90_l1_succ _) (fun m x0 x1 x2 x3 x9 x10 w => ∃ t : Nat, x0 = ptr b 0 ∧ x1 = I low ∧ x2 = I high ∧ x3 = I no ∧ x9 = I (valOf (d.take t) : Int) ∧ x10 = I (i : Int) ∧ m + t = d.length ∧
    Hp w0 w (X ++ ⟨b, .t 102, [.string S, I ((i + t : Nat) : Int)]⟩ :: Y)) ?_ (m := d.length) ⟨0, rfl, rfl, rfl, rfl, rfl, rfl, rfl, H⟩
  clear H
  rintro m k _ _ _ _ _ _ w ⟨t, rfl, rfl, rfl, rfl, rfl, rfl, hm, H⟩ hk
  unfold F90_b1
  try simp only [W0]
  refine ld_m H hasP (v := I ((i + t : Nat) : Int)) rfl ?_
  refine cal_h (fchar_spec H hasP) ?_
  rintro _ w ⟨rfl, H⟩
  try simp only [W0]
  have hgo : isDig (chr S (i + t)) = true → (t = 0 ∨ 0 < valOf (d.take t)) → t < d.length → F90_j5 Q k (ptr b 0) (I low) (I high) (I no) (I (valOf (d.take t) : Int)) (I (i : Int)) (U8 (chr S (i + t) : Int)) w := by
    intro _ _ ht
    obtain ⟨x, h1, h2, h3, h4⟩ := digitsOf_get ((bts S).drop i) t (by rw [hd]; exact ht)
    rw [hd] at h2 h4
    have hc : chr S (i + t) = x := by rw [chr_drop, List.getD_eq_getElem?_getD, h1]; rfl
    obtain ⟨hext, hle⟩ := valid_prefix (l := (bts S).drop i) (t := t) (by rw [hd]; exact ht) (by rw [hd]; exact hv2) (by rw [hd]; exact hv3) (by rw [hd]; exact hv4)
    rw [hd] at hext hle
    have hval := valOf_take h2
    unfold isDig at h3
    simp only [Bool.and_eq_true, decide_eq_true_eq] at h3
    unfold F90_j5
    rw [hc]
    refine mul_k (z := ((10 * valOf (d.take t) : Nat) : Int)) (by omega) (by omega) (by push_cast; rfl) ?_
    refine pv_of (u8_sub h3.1 (by omega)) ?_
    refine pv_of (cv_u8 (by omega)) ?_
    refine add_k (z := ((valOf (d.take (t + 1)) : Nat) : Int)) (by omega) (by omega) (by omega) ?_
    refine cal_h (goes_spec H hl hh hh2 (by omega) hlow) ?_
    rintro _ w ⟨v, rfl, H, hv⟩
    obtain rfl := hv hext
    try simp only [W0]
    unfold F90_j6
    try simp only [W0]
    refine ld_m H hasP (v := I ((i + t : Nat) : Int)) rfl ?_
    refine add_k (z := ((i + (t + 1) : Nat) : Int)) (by omega) (by omega) (by omega) ?_
    try simp only [W0]
    refine st_m H updP (by simp) rfl fun w H => ?_
    exact hk (m - 1) _ _ _ _ _ _ _ (by omega) ⟨t + 1, rfl, rfl, rfl, rfl, rfl, rfl, by omega, H⟩
  have hend : t = d.length → F90_j1 Q (ptr b 0) (I low) (I no) (I (valOf (d.take t) : Int)) (I (i : Int)) w := by
    rintro rfl
    have hne : d.length ≠ 0 := fun h => hv1 (List.length_eq_zero_iff.1 h)
    unfold F90_j1 F90_j3
    rw [List.take_length]
    try simp only [W0]
    refine ld_m H hasP (v := I ((i + d.length : Nat) : Int)) rfl ?_
    refine eql_n (by omega) ?_
    try simp only [W0]
    refine lss_n (by omega) ?_
    try simp only [W0]
    refine eql_n hv4 ?_
    try simp only [W0]
    subst hQ
    exact ⟨rfl, H⟩
  rcases Nat.lt_or_ge t d.length with ht | ht
  · obtain ⟨x, h1, h2, h3, h4⟩ := digitsOf_get ((bts S).drop i) t (by rw [hd]; exact ht)
    rw [hd] at h2 h4
    have hc : chr S (i + t) = x := by rw [chr_drop, List.getD_eq_getElem?_getD, h1]; rfl
    have h3' := h3
    unfold isDig at h3'
    simp only [Bool.and_eq_true, decide_eq_true_eq] at h3'
    have hg := hgo (by rw [hc]; exact h3) h4 ht
    refine geq_y (by omega) ?_
    try simp only [W0]
    refine leq_y (by omega) ?_
    try simp only [W0]
    refine ld_m H hasP (v := I ((i + t : Nat) : Int)) rfl ?_
    try simp only [W0]
    refine eql_k (fun h0 => ?_) (fun h0 => ?_)
    · simp only [W0]; exact hg
    · simp only [W0]
      refine gtr_y (by omega) ?_
      simp only [W0]; exact hg
  · obtain rfl : t = d.length := by omega
    have he := hend rfl
    have hds := digitsOf_end ((bts S).drop i)
    rw [hd, ← chr_drop] at hds
    rw [List.take_length] at he ⊢
    have hne : d.length ≠ 0 := fun h => hv1 (List.length_eq_zero_iff.1 h)
    refine geq_k (fun h0 => ?_) (fun h0 => ?_)
    · simp only [W0]
      refine leq_k (fun h5 => ?_) (fun h5 => ?_)
      · simp only [W0]
        refine ld_m H hasP (v := I ((i + d.length : Nat) : Int)) rfl ?_
        try simp only [W0]
        refine eql_n (by omega) ?_
        try simp only [W0]
        have hz : valOf d = 0 := by
          rcases hds with h | h
          · unfold isDig at h
            rw [decide_eq_true (by omega : 48 ≤ chr S (i + d.length)), decide_eq_true (by omega : chr S (i + d.length) ≤ 57)] at h
            simp at h
          · exact h.2
        refine gtr_n (by omega) ?_
        simp only [W0]; exact he
      · simp only [W0]; exact he
    · simp only [W0]; exact he
end
end Go.Proofs.Ytmmbepdghpjgeaa.Den
