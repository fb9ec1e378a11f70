/- The library's stable sort at the pairs of Late: the whole. Conditions: none. -/
import Derived.Test.YthcekppbbanfeaaGreatMqM
set_option linter.unusedVariables false
set_option linter.unusedSimpArgs false
set_option maxRecDepth 8000
set_option maxHeartbeats 4000000
namespace Go.Proofs.YthcekppbbanfeaaGreat.Den
open Go Go.RowKit
section
variable {w w' w0 : World} {L L' F cs cs2 cs3 : List Chunk} {s s2 : Value} {K : VK} {R : ER} {key : Pr → Int} {f : Nat} {xs : List Pr}
theorem stabLate_spec (hc : CmpLate key f) (h : TS cPr 136 s xs cs) (hn : xs.length < 2 ^ 30) (H : Hp w0 w (cs ++ F)) :
    Calls Pg 87 ⟨[s, I (xs.length : Int), .func (.func f) ⟨[]⟩ ⟨[]⟩]⟩ w fun e w' => ∃ C cs', e = .returned (.tuple ⟨[]⟩) ∧ TS cPr 136 s C cs' ∧ Srt key C ∧ Same key xs C ∧ Hp w0 w' (cs' ++ F) := by
  generalize hQ : (fun (e : Ending) (w' : World) => ∃ C cs', e = .returned (.tuple ⟨[]⟩) ∧ TS cPr 136 s C cs' ∧ Srt key C ∧ Same key xs C ∧ Hp w0 w' (cs' ++ F) : ER) = Q
  apply F87_calls
  unfold F87 F87_j9
  have ins : ∀ {ys : List Pr} {cs : List Chunk} {w : World} {a b : Nat} {K : VK}, TS cPr 136 s ys cs → Same key xs ys → a ≤ b → b ≤ xs.length → Hp w0 w (cs ++ F) →
      (∀ w zs cs', TS cPr 136 s zs cs' → Same key xs zs → SR key zs a b → (∀ lo hi, SR key ys lo hi → (hi ≤ a ∨ b ≤ lo) → SR key zs lo hi) → Hp w0 w (cs' ++ F) → K (.tuple ⟨[]⟩) w) → cal Pg Q 105 ⟨[s, I (a : Int), I (b : Int), .func (.func f) ⟨[]⟩ ⟨[]⟩]⟩ K w := by
    intro ys cs w a b K hT hs hab hb H g
    have hl := hs.len
    obtain ⟨P, A, S, rfl, rfl, hA⟩ := split3 ys hab (by omega)
    have hh := insLate_spec (s := s) (f := f) (cs := cs) (F := F) (w0 := w0) (w := w) hc hT (by omega) H
    rw [show P.length + A.length = b from by omega] at hh
    refine cal_h hh ?_
    rintro _ w ⟨C, cs', rfl, hT2, c1, s1, H⟩
    (try simp only [ret_k])
    refine g w _ cs' hT2 (hs.trans (Same.refl.app (s1.app Same.refl))) ?_ (fun lo hi h ho => h.put s1 (by omega)) H
    have := SR.of (P := P) (S := S) (lo := P.length) c1 rfl
    rw [s1.len] at this
    rwa [show P.length + A.length = b from by omega] at this
  have mrg : ∀ {ys : List Pr} {cs : List Chunk} {w : World} {a m b : Nat} {K : VK}, TS cPr 136 s ys cs → Same key xs ys → a < m → m < b → b ≤ xs.length → SR key ys a m → SR key ys m b → Hp w0 w (cs ++ F) →
      (∀ w zs cs', TS cPr 136 s zs cs' → Same key xs zs → SR key zs a b → (∀ lo hi, SR key ys lo hi → (hi ≤ a ∨ b ≤ lo) → SR key zs lo hi) → Hp w0 w (cs' ++ F) → K (.tuple ⟨[]⟩) w) → cal Pg Q 106 ⟨[s, I (a : Int), I (m : Int), I (b : Int), .func (.func f) ⟨[]⟩ ⟨[]⟩]⟩ K w := by
    intro ys cs w a m b K hT hs ham hmb hb r1 r2 H g
    have hl := hs.len
    obtain ⟨P, T, S, rfl, rfl, hT'⟩ := split3 ys (a := a) (b := b) (by omega) (by omega)
    obtain ⟨A, B, Z, rfl, hA, hB⟩ := split3 T (a := m - P.length) (b := T.length) (by omega) (Nat.le_refl _)
    have hZ : Z = [] := by
      rw [List.length_append, List.length_append] at hB hT'
      exact List.length_eq_zero_iff.1 (by omega)
    subst hZ
    rw [List.append_nil] at *
    rw [List.length_append] at hT' hB
    have e : P ++ ((A ++ B) ++ S) = P ++ (A ++ (B ++ S)) := by simp
    have e2 : P ++ (A ++ (B ++ S)) = (P ++ A) ++ (B ++ S) := by simp
    have sA : Srt key A := by rw [e] at r1; exact r1.srt (Nat.le_refl _) (by omega)
    have sB : Srt key B := by rw [e, e2] at r2; exact r2.srt (by rw [List.length_append]; omega) (by rw [List.length_append]; omega)
    rw [e] at hT
    have hh := symLate_spec hc (A.length + B.length) (s := s) (cs := cs) (F := F) (w0 := w0) (w := w) (Nat.le_refl _) hT (by omega) (by omega) sA sB (by rw [← e]; omega) H
    rw [show P.length + A.length = m from by omega, show m + B.length = b from by omega] at hh
    refine cal_h hh ?_
    rintro _ w ⟨C, cs', rfl, hT2, c1, s1, H⟩
    (try simp only [ret_k])
    refine g w _ cs' hT2 (hs.trans (Same.refl.app (s1.app Same.refl))) ?_ (fun lo hi h ho => h.put s1 (by rw [List.length_append]; omega)) H
    have := SR.of (P := P) (S := S) (lo := P.length) c1 rfl
    rw [s1.len, List.length_append] at this
    rwa [show P.length + (A.length + B.length) = b from by omega] at this
  refine loop6 (F87_l3_succ _) (fun m x0 x1 x2 x6 x7 x8 w => ∃ (a : Nat) (ys : List Pr) (cs : List Chunk), x0 = s ∧ x1 = I (xs.length : Int) ∧ x2 = .func (.func f) ⟨[]⟩ ⟨[]⟩ ∧ x6 = I 20 ∧ x7 = I (a : Int) ∧ x8 = I ((a + 20 : Nat) : Int) ∧ 20 ∣ a ∧ a ≤ xs.length ∧ m = xs.length - a ∧
    (∀ k, 20 ∣ k → k < a → SR key ys k (k + 20)) ∧ TS cPr 136 s ys cs ∧ Same key xs ys ∧ Hp w0 w (cs ++ F)) ?_ (m := xs.length) ⟨0, xs, cs, rfl, rfl, rfl, rfl, rfl, rfl, Nat.dvd_zero _, Nat.zero_le _, rfl, fun k _ h => by omega, h, Same.refl, H⟩
  clear H h
  rintro m k s _ _ _ _ _ w ⟨a, ys, cs, rfl, rfl, rfl, rfl, rfl, rfl, hd, ha, rfl, hr, hT, hs, H⟩ hk
  unfold F87_b3
  refine leq_k (fun h1 => ?_) (fun h1 => ?_)
  · (try simp only [W0])
    unfold F87_j10
    refine ins (a := a) (b := a + 20) hT hs (by omega) (by omega) H fun w zs cs' hT2 hs2 r1 r2 H => ?_
    refine add_k (z := ((a + 20 + 20 : Nat) : Int)) (by omega) (by omega) (by omega) ?_
    refine hk (xs.length - (a + 20)) _ _ _ _ _ _ _ (by omega) ⟨a + 20, zs, cs', rfl, rfl, rfl, rfl, rfl, rfl, Nat.dvd_add hd (Nat.dvd_refl _), by omega, rfl, fun k hk2 hka => ?_, hT2, hs2, H⟩
    by_cases e : k < a
    · exact r2 _ _ (hr k hk2 e) (.inl (dvd_step hk2 hd e))
    · have : k = a := by
        by_cases e2 : k = a
        · exact e2
        · have := dvd_step hd hk2 (by omega); omega
      subst this; exact r1
  · (try simp only [W0])
    unfold F87_j1
    refine ins (a := a) (b := xs.length) hT hs ha (Nat.le_refl _) H fun w zs cs' hT2 hs2 r1 r2 H2 => ?_
    clear hk
    have hblk : ∀ k, 20 ∣ k → SR key zs k (k + 20) := by
      intro k hk2
      by_cases e : k < a
      · exact r2 _ _ (hr k hk2 e) (.inl (dvd_step hk2 hd e))
      · by_cases e2 : k = a
        · subst e2; exact r1.short (by rw [hs2.len]; exact Nat.le_refl _)
        · have := dvd_step hd hk2 (by omega)
          exact SR.none (by rw [hs2.len]; omega)
    clear hr hT hs H r1 r2 hd h1
    unfold F87_j2
    refine loop4 (F87_l2_succ _) (fun m x0 x1 x2 x6 w => ∃ (bs : Nat) (ys : List Pr) (cs : List Chunk), x0 = s ∧ x1 = I (xs.length : Int) ∧ x2 = .func (.func f) ⟨[]⟩ ⟨[]⟩ ∧ x6 = I (bs : Int) ∧ 0 < bs ∧ bs ≤ 2 ^ 32 ∧ m = 2 ^ 33 - bs ∧
      (∀ k, bs ∣ k → SR key ys k (k + bs)) ∧ TS cPr 136 s ys cs ∧ Same key xs ys ∧ Hp w0 w (cs ++ F)) ?_ (m := 2 ^ 33 - 20) ⟨20, zs, cs', rfl, rfl, rfl, rfl, by omega, by omega, rfl, hblk, hT2, hs2, H2⟩
    clear hblk hT2 hs2 H2
    rintro m k s _ _ _ w ⟨bs, ys, cs, rfl, rfl, rfl, rfl, hb0, hb1, rfl, hr, hT, hs, H⟩ hk
    unfold F87_b1
    refine lss_k (fun h2 => ?_) (fun h2 => ?_)
    · (try simp only [W0])
      unfold F87_j3
      refine mul_k (z := ((2 * bs : Nat) : Int)) (by omega) (by omega) (by omega) ?_
      unfold F87_j7
      refine loop6 (F87_l1_succ _ _) (fun m x0 x1 x2 x6 x7 x8 w => ∃ (a : Nat) (ys : List Pr) (cs : List Chunk), x0 = s ∧ x1 = I (xs.length : Int) ∧ x2 = .func (.func f) ⟨[]⟩ ⟨[]⟩ ∧ x6 = I (bs : Int) ∧ x7 = I (a : Int) ∧ x8 = I ((a + 2 * bs : Nat) : Int) ∧ 2 * bs ∣ a ∧ a ≤ xs.length ∧ m = xs.length - a ∧
        (∀ k, 2 * bs ∣ k → k < a → SR key ys k (k + 2 * bs)) ∧ (∀ k, bs ∣ k → a ≤ k → SR key ys k (k + bs)) ∧ TS cPr 136 s ys cs ∧ Same key xs ys ∧ Hp w0 w (cs ++ F)) ?_ (m := xs.length)
        ⟨0, ys, cs, rfl, rfl, rfl, rfl, rfl, by rw [Nat.zero_add], Nat.dvd_zero _, Nat.zero_le _, rfl, fun k _ h => by omega, fun k h _ => hr k h, hT, hs, H⟩
      clear H hT hr hs
      rintro m k2 s _ _ _ _ _ w ⟨a, ys, cs, rfl, rfl, rfl, rfl, rfl, rfl, hd, ha, rfl, hr, hr1, hT, hs, H⟩ hk2
      have hba : bs ∣ a := Nat.dvd_trans ⟨2, Nat.mul_comm _ _⟩ hd
      have end2 : ∀ (w : World) (zs : List Pr) (cs : List Chunk), (∀ k, 2 * bs ∣ k → SR key zs k (k + 2 * bs)) → TS cPr 136 s zs cs → Same key xs zs → Hp w0 w (cs ++ F) → F87_j5 Q k s (I (xs.length : Int)) (.func (.func f) ⟨[]⟩ ⟨[]⟩) (I (bs : Int)) w := by
        intro w zs cs hz hT hs H
        unfold F87_j5
        refine mul_k (z := ((2 * bs : Nat) : Int)) (by omega) (by omega) (by omega) ?_
        exact hk (2 ^ 33 - 2 * bs) _ _ _ _ _ (by omega) ⟨2 * bs, zs, cs, rfl, rfl, rfl, rfl, by omega, by omega, rfl, hz, hT, hs, H⟩
      unfold F87_b2
      refine leq_k (fun h3 => ?_) (fun h3 => ?_)
      · (try simp only [W0])
        unfold F87_j8
        refine add_k (z := ((a + bs : Nat) : Int)) (by omega) (by omega) (by omega) ?_
        have rb := hr1 (a + bs) (Nat.dvd_add hba (Nat.dvd_refl _)) (by omega)
        rw [show a + bs + bs = a + 2 * bs from by omega] at rb
        refine mrg (a := a) (m := a + bs) (b := a + 2 * bs) hT hs (by omega) (by omega) (by omega) (hr1 a hba (Nat.le_refl _)) rb H fun w zs cs' hT2 hs2 r1 r2 H => ?_
        refine mul_k (z := ((2 * bs : Nat) : Int)) (by omega) (by omega) (by omega) ?_
        refine add_k (z := ((a + 2 * bs + 2 * bs : Nat) : Int)) (by omega) (by omega) (by omega) ?_
        refine hk2 (xs.length - (a + 2 * bs)) _ _ _ _ _ _ _ (by omega) ⟨a + 2 * bs, zs, cs', rfl, rfl, rfl, rfl, rfl, rfl, Nat.dvd_add hd (Nat.dvd_refl _), by omega, rfl, fun k hk3 hka => ?_, fun k hk3 hka => r2 _ _ (hr1 k hk3 (by omega)) (.inr hka), hT2, hs2, H⟩
        by_cases e : k < a
        · exact r2 _ _ (hr k hk3 e) (.inl (dvd_step hk3 hd e))
        · have : k = a := by
            by_cases e2 : k = a
            · exact e2
            · have := dvd_step hd hk3 (by omega); omega
          subst this; exact r1
      · (try simp only [W0])
        unfold F87_j4 F87_j6
        refine add_k (z := ((a + bs : Nat) : Int)) (by omega) (by omega) (by omega) ?_
        refine lss_k (fun h4 => ?_) (fun h4 => ?_)
        · (try simp only [W0])
          have rb := (hr1 (a + bs) (Nat.dvd_add hba (Nat.dvd_refl _)) (by omega)).short (hi' := xs.length) (by rw [hs.len]; omega)
          refine mrg (a := a) (m := a + bs) (b := xs.length) hT hs (by omega) (by omega) (Nat.le_refl _) (hr1 a hba (Nat.le_refl _)) rb H fun w zs cs' hT2 hs2 r1 r2 H => ?_
          refine end2 w zs cs' (fun k hk3 => ?_) hT2 hs2 H
          by_cases e : k < a
          · exact r2 _ _ (hr k hk3 e) (.inl (dvd_step hk3 hd e))
          · by_cases e2 : k = a
            · subst e2; exact r1.short (by rw [hs2.len]; exact Nat.le_refl _)
            · have := dvd_step hd hk3 (by omega)
              exact SR.none (by rw [hs2.len]; omega)
        · (try simp only [W0])
          refine end2 w ys cs (fun k hk3 => ?_) hT hs H
          by_cases e : k < a
          · exact hr k hk3 e
          · by_cases e2 : k = a
            · subst e2; exact (hr1 k hba (Nat.le_refl _)).short (by rw [hs.len]; omega)
            · have := dvd_step hd hk3 (by omega)
              exact SR.none (by rw [hs.len]; omega)
    · (try simp only [W0])
      subst hQ
      refine ⟨ys, cs, rfl, hT, ?_, hs, H⟩
      have := hr 0 (Nat.dvd_zero _)
      have h3 := SR.srt (P := []) (C := ys) (S := []) (lo := 0) (hi := 0 + bs) (by simpa using this) (Nat.le_refl _) (by rw [hs.len]; simp; omega)
      exact h3
theorem sortLate_spec (hc : CmpLate key f) (h : TS cPr 136 s xs cs) (hn : xs.length < 2 ^ 30) (H : Hp w0 w (cs ++ F)) :
    Calls Pg 68 ⟨[s, .func (.func f) ⟨[]⟩ ⟨[]⟩]⟩ w fun e w' => ∃ C cs', e = .returned (.tuple ⟨[]⟩) ∧ TS cPr 136 s C cs' ∧ Srt key C ∧ Same key xs C ∧ Hp w0 w' (cs' ++ F) := by
  apply F68_calls
  unfold F68
  refine pv_of (lenS_ts h) ?_
  refine cal_h (stabLate_spec hc h hn H) ?_
  rintro _ w ⟨C, cs', rfl, h1, h2, h3, H⟩
  exact ⟨C, cs', (by first | rfl | trivial), h1, h2, h3, H⟩
end
end Go.Proofs.YthcekppbbanfeaaGreat.Den
