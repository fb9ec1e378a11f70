/- Packet filter, the reader of a rule's text: rule. Conditions: none. -/
import Derived.Test.YtmmbepdghpjgeaaFlI
set_option linter.unusedVariables false
set_option linter.unusedSimpArgs false
set_option maxRecDepth 8000
set_option maxHeartbeats 1000000
namespace Go.Proofs.Ytmmbepdghpjgeaa.Den
open Go Go.RowKit
section
variable {w w' w0 : World} {L L' F cs A X Y : List Chunk} {s : Value} {K : VK} {R : ER} {b i j at' : Nat} {S : ByteArray}
theorem part_le {r r' : Rul} {nx : Int} {k : Nat} (hn : partP S i r k = some (r', nx, j)) (hi : i ≤ S.size) (hk : k < 8) : j ≤ S.size ∧ -1 ≤ nx ∧ nx < 8 := by
  have hkc : k = 0 ∨ k = 1 ∨ k = 2 ∨ k = 3 ∨ k = 4 ∨ k = 5 ∨ k = 6 ∨ k = 7 := by omega
  rcases hkc with rfl | rfl | rfl | rfl | rfl | rfl | rfl | rfl
  · simp only [partP, Option.some.injEq, Prod.mk.injEq] at hn
    obtain ⟨rfl, rfl, rfl⟩ := hn
    omega
  · simp only [partP, Option.some.injEq, Prod.mk.injEq] at hn
    obtain ⟨rfl, rfl, rfl⟩ := hn
    omega
  · simp only [partP, Option.some.injEq, Prod.mk.injEq] at hn
    obtain ⟨rfl, rfl, rfl⟩ := hn
    omega
  · simp only [partP, Option.map_eq_some_iff] at hn
    obtain ⟨⟨n, j'⟩, hc, hn⟩ := hn
    simp only [Prod.mk.injEq] at hn
    obtain ⟨rfl, rfl, rfl⟩ := hn
    have := count_le hc
    omega
  · simp only [partP, Option.map_eq_some_iff] at hn
    obtain ⟨⟨n, j'⟩, hc, hn⟩ := hn
    simp only [Prod.mk.injEq] at hn
    obtain ⟨rfl, rfl, rfl⟩ := hn
    have := count_le hc
    omega
  · simp only [partP, Option.map_eq_some_iff] at hn
    obtain ⟨⟨a, rg, kk, j'⟩, hc, hn⟩ := hn
    simp only [Prod.mk.injEq] at hn
    obtain ⟨rfl, rfl, rfl⟩ := hn
    have := side_le hc hi
    have hl : (ruleWords.drop 6).length = 2 := rfl
    rw [hl] at this
    split <;> omega
  · simp only [partP, Option.map_eq_some_iff] at hn
    obtain ⟨⟨a, rg, kk, j'⟩, hc, hn⟩ := hn
    simp only [Prod.mk.injEq] at hn
    obtain ⟨rfl, rfl, rfl⟩ := hn
    have := side_le hc hi
    have hl : (ruleWords.drop 7).length = 1 := rfl
    rw [hl] at this
    split <;> omega
  · simp only [partP, Option.some.injEq, Prod.mk.injEq] at hn
    obtain ⟨rfl, rfl, rfl⟩ := hn
    omega
theorem parts_le : ∀ {n i : Nat} {r r' : Rul} {k f j : Nat}, partsP S n i r k = some (r', f, j) → i ≤ S.size → k < 8 → j ≤ S.size ∧ f ≤ 8
  | 0, i, r, r', k, f, j, h, _, _ => by simp [partsP] at h
  | n + 1, i, r, r', k, f, j, h, hi, hk => by
    simp only [partsP, Option.bind_eq_bind, Option.bind_eq_some_iff] at h
    obtain ⟨⟨r1, nx, i1⟩, h1, h2⟩ := h
    simp only at h2
    have q := part_le h1 hi hk
    split at h2
    · exact parts_le h2 q.1 (by omega)
    · simp only [Option.some.injEq, Prod.mk.injEq] at h2
      obtain ⟨rfl, rfl, rfl⟩ := h2
      refine ⟨q.1, ?_⟩
      split <;> omega
theorem words_in {k : Nat} {wd : ByteArray} (hk : k < 8) (h : ruleWords[k]? = some wd) : decide (bts wd = bts ⟨⟨[105, 110]⟩⟩) = decide (k = 1) := by
  have hkc : k = 0 ∨ k = 1 ∨ k = 2 ∨ k = 3 ∨ k = 4 ∨ k = 5 ∨ k = 6 ∨ k = 7 := by omega
  rcases hkc with rfl | rfl | rfl | rfl | rfl | rfl | rfl | rfl <;> (injection h with h; subst h; decide)
theorem frule_spec {r : Rul} (H : Hp w0 w L) (hu : Upd L b (.t 102) [.string S, I ((0 : Nat) : Int)] (.t 102) [.string S, I (S.size : Int)] L') (hn : ruleP S = some r) (hS : S.size ≤ 1000) :
    Calls Pg 37 ⟨[ptr b 0]⟩ w fun e w' => e = .returned (.agg ⟨r.enc⟩) ∧ Hp w0 w' L' := by
  obtain ⟨X, Y, rfl, rfl⟩ := hu
  unfold ruleP at hn
  simp only [Option.bind_eq_bind, Option.bind_eq_some_iff] at hn
  obtain ⟨⟨k0, i0⟩, h1, ⟨rF, jF⟩, h2, h3⟩ := hn
  simp only at h2 h3
  split at h3
  · rename_i hend
    injection h3 with h3
    subst h3
    have q1 := choose_le h1 (Nat.zero_le _)
    have q2 : k0 < 2 := q1.2
    generalize hQ : (fun (e : Ending) (w' : World) => e = .returned (.agg ⟨rF.enc⟩) ∧ Hp w0 w' (X ++ ⟨b, .t 102, [.string S, I (S.size : Int)]⟩ :: Y) : ER) = Q
    apply F37_calls
    unfold F37
    refine al_m (ys := [I 0, .bool false, .bool false, I 0, I 0, I 0, U32 0, I 0, .bool false, U32 0, I 0, .bool false, I 0, I 0, I 0, I 0]) H (by kernel_rfl) fun w x2 H => ?_
    refine bld_a ?_
    refine bld_a ?_
    refine bld_a ?_
    refine al_m (ys := [I 0, .bool false, .bool false, I 0, I 0, I 0, U32 0, I 0, .bool false, U32 0, I 0, .bool false, I 0, I 0, I 0, I 0]) H (by kernel_rfl) fun w x3 H => ?_
    refine stA_m H updd rfl rfl (by intro c hc; simp only [List.mem_cons, List.not_mem_nil, or_false] at hc; rcases hc with rfl | rfl | rfl | rfl | rfl | rfl | rfl | rfl | rfl | rfl | rfl | rfl | rfl | rfl | rfl | rfl <;> rfl) fun w H => ?_
    refine lit_t (C := cStr) [⟨#[112, 97, 115, 115]⟩, ⟨#[98, 108, 111, 99, 107]⟩] elStr H rfl (by decide) (by decide) rfl fun w s6 c6 H h6 => ?_
    refine cal_h (fchoose_spec h6.tr (fun c hc => List.mem_append_left _ hc) H updP.cons.cons.app h1 (by decide) (by decide) hS (Nat.zero_le _)) ?_
    rintro _ w ⟨rfl, H⟩
    replace H := H.right
    try simp only [W0]
    refine add_k (by omega) (by omega) rfl ?_
    try simp only [W0]
    refine st_a fun w H => ?_
    simp only [List.set_cons_zero, List.set_cons_succ] at H
    refine lit_t (C := cStr) ruleWords elStr H rfl (by decide) (by decide) rfl fun w s8 c8 H h8 => ?_
    have mt : ∀ c ∈ c8, c.t ≠ .t 102 := by
      intro c hc e
      rw [h8.tag c hc] at e
      injection e with e
      exact absurd e (by decide)
    have fin : ∀ (r : Rul) (i : Nat) (w : World), r = rF → i = jF → i ≤ S.size → Hp w0 w (⟨x3, .t 29, r.enc⟩ :: ⟨x2, .t 29, [I 0, .bool false, .bool false, I 0, I 0, I 0, U32 0, I 0, .bool false, U32 0, I 0, .bool false, I 0, I 0, I 0, I 0]⟩ :: (c8 ++ (X ++ ⟨b, .t 102, [.string S, I (i : Int)]⟩ :: Y))) → F37_j1 Q (ptr b 0) (ptr x2 0) (ptr x3 0) w := by
      clear H
      rintro r i w rfl rfl hiS H
      unfold F37_j1 F37_j3
      refine drew_k H fun w H => ?_
      try simp only [W0]
      refine ld_m H hasP.app.cons.cons (v := I (i : Int)) rfl ?_
      try simp only [W0]
      refine ld_m H hasP.app.cons.cons (v := .string S) rfl ?_
      refine pv_of (lenStr_mk S) ?_
      refine lss_n (by omega) ?_
      try simp only [W0]
      unfold F37_j2
      unfold Rul.enc at H
      refine ldA_a ?_
      refine stA_m H updd rfl rfl (by intro c hc; simp only [List.mem_cons, List.not_mem_nil, or_false] at hc; rcases hc with rfl | rfl | rfl | rfl | rfl | rfl | rfl | rfl | rfl | rfl | rfl | rfl | rfl | rfl | rfl | rfl <;> rfl) fun w H => ?_
      refine ldA_a ?_
      obtain rfl : i = S.size := by omega
      subst hQ
      exact ⟨rfl, H.tail.tail.right⟩
    unfold F37_j4
    refine loop5 (F37_l2_succ _) (fun m y0 y2 y3 y4 y5 w => ∃ (r : Rul) (i f : Nat), y0 = ptr b 0 ∧ y2 = ptr x2 0 ∧ y3 = ptr x3 0 ∧ s8 = y4 ∧ y5 = I (f : Int) ∧ wordsP S m i r f = some (rF, jF) ∧ i ≤ S.size ∧ f ≤ 8 ∧
      Hp w0 w (⟨x3, .t 29, r.enc⟩ :: ⟨x2, .t 29, [I 0, .bool false, .bool false, I 0, I 0, I 0, U32 0, I 0, .bool false, U32 0, I 0, .bool false, I 0, I 0, I 0, I 0]⟩ :: (c8 ++ (X ++ ⟨b, .t 102, [.string S, I (i : Int)]⟩ :: Y)))) ?_ (m := 9)
      ⟨anyRul (1 + (k0 : Int)), i0, 0, rfl, rfl, rfl, rfl, rfl, h2, q1.1, by decide, (by show Hp w0 w (⟨x3, .t 29, [I (1 + (k0 : Int)), .bool false, .bool false, I 3, I (-1), I (-1), U32 0, I 0, .bool false, U32 0, I 0, .bool false, I 0, I 65535, I 0, I 65535]⟩ :: _); simp only [U32] at H ⊢; exact H.re)⟩
    clear H h2 q1 h1
    rintro m kk _ _ _ _ _ w ⟨r, i, f, rfl, rfl, rfl, rfl, rfl, hwp, hi, hf, H⟩ hkk
    unfold F37_b1
    cases m with
    | zero => simp [wordsP] at hwp
    | succ m =>
      simp only [wordsP, Option.bind_eq_bind, Option.bind_eq_some_iff] at hwp
      obtain ⟨⟨mo, i1⟩, h1, h2⟩ := hwp
      simp only at h2
      have q1 := more_le h1 hi
      refine cal_h (fmore_spec H updP.app.cons.cons h1 (by omega)) ?_
      rintro _ w ⟨rfl, H⟩
      try simp only [W0]
      cases mo with
      | false =>
        simp only [Bool.false_eq_true, if_false, Option.some.injEq, Prod.mk.injEq] at h2
        try simp only [W0]
        exact fin r i1 w h2.1 h2.2 q1.1 H
      | true =>
        simp only [if_true, Option.bind_eq_some_iff] at h2
        obtain ⟨⟨k1, i2⟩, h4, ⟨r1, f1, i3⟩, h5, h6⟩ := h2
        simp only at h5 h6
        have q2 := choose_le h4 q1.1
        have hfk : f + k1 < 8 := by
          have := q2.2
          rw [List.length_drop, show ruleWords.length = 8 from rfl] at this; omega
        have q3 := parts_le h5 q2.1 hfk
        try simp only [W0]
        unfold F37_j5
        obtain ⟨s2, hs2, hr2⟩ := slRfrom_t (C := cStr) (w0 := w0) (lo := f) (by decide) h8.tr (by rw [show ruleWords.length = 8 from rfl]; omega)
        refine pv_of hs2 ?_
        refine cal_h (fchoose_spec hr2 (fun c hc => List.mem_cons_of_mem _ (List.mem_cons_of_mem _ (List.mem_append_left _ hc))) H updP.app.cons.cons h4 (drop_ok f) (by simp [show ruleWords.length = 8 from rfl]; omega) hS q1.1) ?_
        rintro _ w ⟨rfl, H⟩
        try simp only [W0]
        refine add_k (z := ((f + k1 : Nat) : Int)) (by omega) (by omega) (by omega) ?_
        unfold F37_j7
        refine loop6 (F37_l1_succ _ _) (fun m' y0 y2 y3 y4 y5 y6 w => ∃ (r i f' : Nat → Nat) (rr : Rul) (ii ff : Nat) (nx : Int), y0 = ptr b 0 ∧ y2 = ptr x2 0 ∧ y3 = ptr x3 0 ∧ s8 = y4 ∧ y5 = I (ff : Int) ∧ y6 = I nx ∧ ii ≤ S.size ∧ nx < 8 ∧
          ((0 ≤ nx ∧ partsP S m' ii rr nx.toNat = some (r1, f1, i3)) ∨ (nx < 0 ∧ rr = r1 ∧ ff = f1 ∧ ii = i3)) ∧
          Hp w0 w (⟨x3, .t 29, rr.enc⟩ :: ⟨x2, .t 29, [I 0, .bool false, .bool false, I 0, I 0, I 0, U32 0, I 0, .bool false, U32 0, I 0, .bool false, I 0, I 0, I 0, I 0]⟩ :: (c8 ++ (X ++ ⟨b, .t 102, [.string S, I (ii : Int)]⟩ :: Y)))) ?_ (m := 8)
          ⟨id, id, id, r, i2, f, ((f + k1 : Nat) : Int), rfl, rfl, rfl, rfl, rfl, rfl, q2.1, by omega, .inl ⟨by omega, by rw [Int.toNat_natCast]; exact h5⟩, H⟩
        clear H h5 h4 h1
        rintro m' k2 _ _ _ _ _ _ w ⟨_, _, _, rr, ii, ff, nx, rfl, rfl, rfl, rfl, rfl, rfl, hii, hnx, hst, H⟩ hk2
        unfold F37_b2
        rcases hst with ⟨h0, hp⟩ | ⟨h0, rfl, rfl, rfl⟩
        · refine geq_y h0 ?_
          try simp only [W0]
          obtain ⟨kk', rfl⟩ : ∃ k : Nat, nx = (k : Int) := ⟨nx.toNat, by omega⟩
          rw [Int.toNat_natCast] at hp
          cases m' with
          | zero => simp [partsP] at hp
          | succ m' =>
            simp only [partsP, Option.bind_eq_bind, Option.bind_eq_some_iff] at hp
            obtain ⟨⟨r4, nx4, i4⟩, h7, h8'⟩ := hp
            simp only at h8'
            have q4 := part_le h7 hii (by omega)
            have hlt : kk' < ruleWords.length := by rw [show ruleWords.length = 8 from rfl]; omega
            have hx : ruleWords[kk']? = some ruleWords[kk'] := List.getElem?_eq_getElem hlt
            have hin := words_in (by omega) hx
            unfold F37_j8
            refine add_k (z := ((kk' + 1 : Nat) : Int)) (by omega) (by omega) (by omega) ?_
            refine ix1_t (C := cStr) h8.tr H (fun c hc => List.mem_cons_of_mem _ (List.mem_cons_of_mem _ (List.mem_append_left _ hc))) hx rfl rfl ?_
            have go : ∀ ff' : Nat, ff' = (if kk' = 1 then 3 else kk' + 1) → F37_j9 Q kk k2 (ptr b 0) (ptr x2 0) (ptr x3 0) s8 (I (ff' : Int)) (I (kk' : Int)) w := by
              rintro ff' hff
              unfold F37_j9
              refine cal_h (fpart_spec h8.tr (fun c hc => List.mem_cons_of_mem _ (List.mem_append_left _ hc)) mt H updP.app.cons h7 (by omega) hS hii) ?_
              rintro _ w ⟨rfl, H⟩
              try simp only [W0]
              refine hk2 m' _ _ _ _ _ _ _ (by omega) ⟨id, id, id, r4, i4, ff', nx4, rfl, rfl, rfl, rfl, rfl, rfl, q4.1, q4.2.2, ?_, H⟩
              by_cases h9 : 0 ≤ nx4
              · rw [if_pos h9] at h8'
                exact .inl ⟨h9, h8'⟩
              · rw [if_neg h9] at h8'
                simp only [Option.some.injEq, Prod.mk.injEq] at h8'
                exact .inr ⟨by omega, h8'.1, by rw [hff]; exact h8'.2.1, h8'.2.2⟩
            by_cases h9 : kk' = 1
            · refine pv_of (binS_y (by rw [hin, decide_eq_true h9])) ?_
              try simp only [W0]
              refine add_k (z := ((kk' + 2 : Nat) : Int)) (by omega) (by omega) (by omega) ?_
              exact go (kk' + 2) (by rw [if_pos h9, h9])
            · refine pv_of (binS_n (by rw [hin, decide_eq_false h9])) ?_
              try simp only [W0]
              exact go (kk' + 1) (by rw [if_neg h9])
        · refine geq_n (by omega) ?_
          try simp only [W0]
          unfold F37_j6
          refine pv_of (lenS_ts h8) ?_
          rw [show ruleWords.length = 8 from rfl]
          split at h6
          · rename_i hff
            simp only [Option.some.injEq, Prod.mk.injEq] at h6
            refine geq_y (by omega) ?_
            try simp only [W0]
            exact fin rr ii w h6.1 h6.2 hii H
          · rename_i hff
            refine geq_n (by omega) ?_
            try simp only [W0]
            exact hkk m _ _ _ _ _ _ (by omega) ⟨rr, ii, ff, rfl, rfl, rfl, rfl, rfl, h6, hii, q3.2, H⟩
  · cases h3
end
end Go.Proofs.Ytmmbepdghpjgeaa.Den
