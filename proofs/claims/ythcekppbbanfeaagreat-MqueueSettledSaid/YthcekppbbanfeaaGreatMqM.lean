/- The library's stable sort at the pairs of Late: the merge in place. Conditions: none. -/
import Derived.Test.YthcekppbbanfeaaGreatMqL
set_option linter.unusedVariables false
set_option linter.unusedSimpArgs false
set_option maxRecDepth 8000
set_option maxHeartbeats 4000000
namespace Go.Proofs.YthcekppbbanfeaaGreat.Den
open Go Go.RowKit
section
variable {w w' w0 : World} {L L' F cs cs2 cs3 : List Chunk} {s s2 : Value} {K : VK} {R : ER} {key : Pr → Int} {f : Nat}
theorem halfLate_k {x : Int} {n : Nat} (hx : x = (n : Int)) (hn : n < 2 ^ 40) (g : K (I ((n / 2 : Nat) : Int)) w) : pv (cvI .u64 (I x)) (fun v => pv (bin .shr v (.int .u64 1)) fun v2 => pv (cvI .i64 v2) K) w := by
  subst hx
  have e1 : cvI .u64 (I (n : Int)) = some (.int .u64 (n : Int)) := by
    rw [cvI_mk]; congr 2
    simp [IntKind.wrap, IntKind.bits, IntKind.signed]; omega
  have e2 : bin .shr (.int .u64 (n : Int)) (.int .u64 1) = some (.int .u64 ((n / 2 : Nat) : Int)) := by
    have : (2 ^ min (1 : Int).toNat IntKind.u64.bits : Int) = 2 := by decide
    simp only [bin, this]
    rw [if_neg (by decide), Int.fdiv_eq_ediv_of_nonneg _ (by decide)]
    rfl
  rw [e1, pv_some, e2, pv_some, cvI_mk, wrap64_id (by omega) (by omega), pv_some]
  exact g
theorem symOneLate {P B S : List Pr} {x : Pr} (hc : CmpLate key f) (h : TS cPr 136 s (P ++ ([x] ++ (B ++ S))) cs) (hB : Srt key B) (hn : (P ++ ([x] ++ (B ++ S))).length < 2 ^ 30) (H : Hp w0 w (cs ++ F))
    {Q : ER} (g : ∀ C cs' w', TS cPr 136 s (P ++ (C ++ S)) cs' → Srt key C → Same key ([x] ++ B) C → Hp w0 w' (cs' ++ F) → Q (.returned (.tuple ⟨[]⟩)) w') :
    F106_j24 Q s (I (P.length : Int)) (I ((P.length + 1 : Nat) : Int)) (I ((P.length + 1 + B.length : Nat) : Int)) (.func (.func f) ⟨[]⟩ ⟨[]⟩) w := by
  have hn2 : P.length + 1 + B.length < 2 ^ 30 := by simp only [List.length_append, List.length_singleton] at hn; omega
  unfold F106_j24 F106_j30
  refine loop5 (F106_l5_succ _) (fun m x0 x1 x4 x10 x11 w => ∃ (i j : Nat), x0 = s ∧ x1 = I (P.length : Int) ∧ x4 = .func (.func f) ⟨[]⟩ ⟨[]⟩ ∧ x10 = I ((P.length + 1 + i : Nat) : Int) ∧ x11 = I ((P.length + 1 + j : Nat) : Int) ∧ i ≤ j ∧ j ≤ B.length ∧ m = j - i ∧
    (i = 0 ∨ ∃ y, B[i - 1]? = some y ∧ key y < key x) ∧ (B.length ≤ j ∨ ∃ y, B[j]? = some y ∧ key x ≤ key y) ∧ Hp w0 w (cs ++ F)) ?_ (m := B.length) ⟨0, B.length, rfl, rfl, rfl, rfl, rfl, Nat.zero_le _, Nat.le_refl _, rfl, .inl rfl, .inl (Nat.le_refl _), H⟩
  clear H
  rintro m k s _ _ _ _ w ⟨i, j, rfl, rfl, rfl, rfl, rfl, hij, hj, rfl, h1, h2, H⟩ hk
  have hx : (P ++ ([x] ++ (B ++ S)))[P.length]? = some x := get_at
  unfold F106_b5
  refine lss_k (fun hl => ?_) (fun hl => ?_)
  · (try simp only [W0])
    unfold F106_j31
    refine add_k (z := ((P.length + 1 + i + (P.length + 1 + j) : Nat) : Int)) (by omega) (by omega) (by omega) ?_
    refine halfLate_k rfl (by omega) ?_
    obtain ⟨c, hcq⟩ : ∃ c, (P.length + 1 + i + (P.length + 1 + j)) / 2 = P.length + 1 + c := ⟨(P.length + 1 + i + (P.length + 1 + j)) / 2 - (P.length + 1), by omega⟩
    rw [hcq]
    have hc1 : i ≤ c := by omega
    have hc2 : c < j := by omega
    have hy : B[c]? = some B[c] := List.getElem?_eq_getElem (by omega)
    generalize B[c] = y at hy
    have hg : (P ++ ([x] ++ (B ++ S)))[P.length + 1 + c]? = some y := by rw [← hy]; exact get_in2 (A := [x]) (by omega)
    refine drew_k H fun w H => ?_
    refine ixN_t (C := cPr) h.tr H (fun c hc => List.mem_append_left _ hc) hg (by decide) ?_
    refine ixN_t (C := cPr) h.tr H (fun c hc => List.mem_append_left _ hc) hx (by decide) ?_
    (try simp only [W0])
    refine cmpLate_k hc H fun w r hr H => ?_
    refine lss_k (fun hr0 => ?_) (fun hr0 => ?_)
    · (try simp only [W0])
      refine add_k (z := ((P.length + 1 + (c + 1) : Nat) : Int)) (by omega) (by omega) (by omega) ?_
      exact hk (j - (c + 1)) _ _ _ _ _ _ (by omega) ⟨c + 1, j, rfl, rfl, rfl, rfl, rfl, by omega, hj, rfl, .inr ⟨y, by simpa using hy, hr.1 hr0⟩, h2, H⟩
    · (try simp only [W0])
      exact hk (c - i) _ _ _ _ _ _ (by omega) ⟨i, c, rfl, rfl, rfl, rfl, rfl, hc1, by omega, rfl, h1, .inr ⟨y, hy, by have : ¬ key y < key x := fun h => hr0 (hr.2 h); omega⟩, H⟩
  · (try simp only [W0])
    obtain rfl : i = j := by omega
    unfold F106_j25 F106_j27 F106_j28
    refine loop3 (F106_l4_succ _) (fun m x0 x10 x13 w => ∃ (t : Nat) (cs : List Chunk), x0 = s ∧ x10 = I ((P.length + 1 + i : Nat) : Int) ∧ x13 = I ((P.length + t : Nat) : Int) ∧ t ≤ i ∧ m = i - t ∧ TS cPr 136 s (P ++ (B.take t ++ ([x] ++ (B.drop t ++ S)))) cs ∧ Hp w0 w (cs ++ F)) ?_ (m := i) ⟨0, cs, rfl, rfl, rfl, Nat.zero_le _, rfl, by simpa using h, H⟩
    clear H h
    rintro m k2 _ _ _ w ⟨t, cs, rfl, rfl, rfl, ht, rfl, hT, H⟩ hk2
    unfold F106_b4
    refine sub_k (z := ((P.length + i : Nat) : Int)) (by omega) (by omega) (by omega) ?_
    refine lss_k (fun hl2 => ?_) (fun hl2 => ?_)
    · (try simp only [W0])
      have htb : t < B.length := by omega
      have ed : B.drop t = B[t] :: B.drop (t + 1) := List.drop_eq_getElem_cons htb
      have et : B.take (t + 1) = B.take t ++ [B[t]] := by rw [List.take_add_one, List.getElem?_eq_getElem htb]; rfl
      rw [ed] at hT
      generalize B[t] = y at *
      have lt : (B.take t).length = t := by rw [List.length_take]; omega
      have eT : P ++ (B.take t ++ ([x] ++ (y :: B.drop (t + 1) ++ S))) = (P ++ B.take t) ++ x :: y :: (B.drop (t + 1) ++ S) := by simp
      rw [eT] at hT
      have l1 : (P ++ B.take t).length = P.length + t := by rw [List.length_append, lt]
      have g1 : ((P ++ B.take t) ++ x :: y :: (B.drop (t + 1) ++ S))[P.length + t]? = some x := by rw [← l1]; exact get_at
      have g2 : ((P ++ B.take t) ++ x :: y :: (B.drop (t + 1) ++ S))[P.length + t + 1]? = some y := by rw [← l1]; exact get_at1
      have hb1 := (List.getElem?_eq_some_iff.1 g1).1
      have hb2 := (List.getElem?_eq_some_iff.1 g2).1
      unfold F106_j29
      refine drew_k H fun w H => ?_
      refine add_k (z := ((P.length + t + 1 : Nat) : Int)) (by omega) (by omega) (by omega) ?_
      refine add_k (z := ((P.length + t + 1 : Nat) : Int)) (by omega) (by omega) (by omega) ?_
      refine ixN_t (C := cPr) hT.tr H (fun c hc => List.mem_append_left _ hc) g2 (by decide) ?_
      refine ixN_t (C := cPr) hT.tr H (fun c hc => List.mem_append_left _ hc) g1 (by decide) ?_
      (try simp only [W0])
      refine istN_t (C := cPr) (x := y) hT H Split.here hb1 fun w c1 H h1 => ?_
      (try simp only [W0])
      refine istN_t (C := cPr) (x := x) h1 H Split.here (by rw [List.length_set]; exact hb2) fun w c2 H h2 => ?_
      (try simp only [W0])
      refine add_k (z := ((P.length + (t + 1) : Nat) : Int)) (by omega) (by omega) (by omega) ?_
      rw [← l1, set2_up] at h2
      refine hk2 (i - (t + 1)) _ _ _ _ (by omega) ⟨t + 1, c2, rfl, rfl, rfl, by omega, rfl, ?_, H⟩
      rw [et]; simpa using h2
    · (try simp only [W0])
      obtain rfl : t = i := by omega
      unfold F106_j26
      have hlt := hB.take_lt h1
      refine g (B.take t ++ ([x] ++ B.drop t)) cs w (by simpa using hT) (hB.ins (by rcases h1 with h1 | ⟨y, h1, h3⟩; exact .inl h1; exact .inr ⟨y, h1, by omega⟩) h2) ?_ H
      have e : [x] ++ B = ([x] ++ B.take t) ++ B.drop t := by rw [List.append_assoc, List.take_append_drop]
      rw [e, ← List.append_assoc (B.take t)]
      refine Same.app (Same.swap fun z hz y hy => ?_) Same.refl
      rw [List.mem_singleton.1 hz]; exact hlt y hy
theorem symLastLate {P A S : List Pr} {x : Pr} (hc : CmpLate key f) (h : TS cPr 136 s (P ++ (A ++ ([x] ++ S))) cs) (hA : Srt key A) (hn : (P ++ (A ++ ([x] ++ S))).length < 2 ^ 30) (H : Hp w0 w (cs ++ F))
    {Q : ER} (g : ∀ C cs' w', TS cPr 136 s (P ++ (C ++ S)) cs' → Srt key C → Same key (A ++ [x]) C → Hp w0 w' (cs' ++ F) → Q (.returned (.tuple ⟨[]⟩)) w') :
    F106_j14 Q s (I (P.length : Int)) (I ((P.length + A.length : Nat) : Int)) (.func (.func f) ⟨[]⟩ ⟨[]⟩) w := by
  have hn2 : P.length + A.length + 1 < 2 ^ 30 := by simp only [List.length_append, List.length_singleton] at hn; omega
  unfold F106_j14 F106_j20
  refine loop5 (F106_l3_succ _) (fun m x0 x2 x4 x14 x15 w => ∃ (i j : Nat), x0 = s ∧ x2 = I ((P.length + A.length : Nat) : Int) ∧ x4 = .func (.func f) ⟨[]⟩ ⟨[]⟩ ∧ x14 = I ((P.length + i : Nat) : Int) ∧ x15 = I ((P.length + j : Nat) : Int) ∧ i ≤ j ∧ j ≤ A.length ∧ m = j - i ∧
    (i = 0 ∨ ∃ y, A[i - 1]? = some y ∧ key y < key x + 1) ∧ (A.length ≤ j ∨ ∃ y, A[j]? = some y ∧ key x + 1 ≤ key y) ∧ Hp w0 w (cs ++ F)) ?_ (m := A.length) ⟨0, A.length, rfl, rfl, rfl, rfl, rfl, Nat.zero_le _, Nat.le_refl _, rfl, .inl rfl, .inl (Nat.le_refl _), H⟩
  clear H
  rintro m k s _ _ _ _ w ⟨i, j, rfl, rfl, rfl, rfl, rfl, hij, hj, rfl, h1, h2, H⟩ hk
  have hx : (P ++ (A ++ ([x] ++ S)))[P.length + A.length]? = some x := get_in2 (B := [x]) (t := 0) (by simp)
  unfold F106_b3
  refine lss_k (fun hl => ?_) (fun hl => ?_)
  · (try simp only [W0])
    unfold F106_j21
    refine add_k (z := ((P.length + i + (P.length + j) : Nat) : Int)) (by omega) (by omega) (by omega) ?_
    refine halfLate_k rfl (by omega) ?_
    obtain ⟨c, hcq⟩ : ∃ c, (P.length + i + (P.length + j)) / 2 = P.length + c := ⟨(P.length + i + (P.length + j)) / 2 - P.length, by omega⟩
    rw [hcq]
    have hc1 : i ≤ c := by omega
    have hc2 : c < j := by omega
    have hy : A[c]? = some A[c] := List.getElem?_eq_getElem (by omega)
    generalize A[c] = y at hy
    have hg : (P ++ (A ++ ([x] ++ S)))[P.length + c]? = some y := by rw [← hy]; exact get_in (by omega)
    refine drew_k H fun w H => ?_
    refine ixN_t (C := cPr) h.tr H (fun c hc => List.mem_append_left _ hc) hx (by decide) ?_
    refine ixN_t (C := cPr) h.tr H (fun c hc => List.mem_append_left _ hc) hg (by decide) ?_
    (try simp only [W0])
    refine cmpLate_k hc H fun w r hr H => ?_
    refine lss_k (fun hr0 => ?_) (fun hr0 => ?_)
    · (try simp only [W0])
      exact hk (c - i) _ _ _ _ _ _ (by omega) ⟨i, c, rfl, rfl, rfl, rfl, rfl, hc1, by omega, rfl, h1, .inr ⟨y, hy, by have := hr.1 hr0; omega⟩, H⟩
    · (try simp only [W0])
      refine add_k (z := ((P.length + (c + 1) : Nat) : Int)) (by omega) (by omega) (by omega) ?_
      exact hk (j - (c + 1)) _ _ _ _ _ _ (by omega) ⟨c + 1, j, rfl, rfl, rfl, rfl, rfl, by omega, hj, rfl, .inr ⟨y, by simpa using hy, by have : ¬ key x < key y := fun h => hr0 (hr.2 h); omega⟩, h2, H⟩
  · (try simp only [W0])
    obtain rfl : i = j := by omega
    unfold F106_j15 F106_j17 F106_j18
    refine loop3 (F106_l2_succ _) (fun m x0 x14 x17 w => ∃ (t : Nat) (cs : List Chunk), x0 = s ∧ x14 = I ((P.length + i : Nat) : Int) ∧ x17 = I ((P.length + t : Nat) : Int) ∧ i ≤ t ∧ t ≤ A.length ∧ m = t - i ∧ TS cPr 136 s (P ++ (A.take t ++ ([x] ++ (A.drop t ++ S)))) cs ∧ Hp w0 w (cs ++ F)) ?_ (m := A.length - i) ⟨A.length, cs, rfl, rfl, rfl, by omega, Nat.le_refl _, rfl, by simpa using h, H⟩
    clear H h
    rintro m k2 _ _ _ w ⟨t, cs, rfl, rfl, rfl, ht, ht2, rfl, hT, H⟩ hk2
    unfold F106_b2
    refine gtr_k (fun hl2 => ?_) (fun hl2 => ?_)
    · (try simp only [W0])
      obtain ⟨v, rfl⟩ : ∃ v, t = v + 1 := ⟨t - 1, by omega⟩
      have hv : v < A.length := by omega
      have ed : A.drop v = A[v] :: A.drop (v + 1) := List.drop_eq_getElem_cons hv
      have et : A.take (v + 1) = A.take v ++ [A[v]] := by rw [List.take_add_one, List.getElem?_eq_getElem hv]; rfl
      rw [et] at hT
      generalize A[v] = y at *
      have lt : (A.take v).length = v := by rw [List.length_take]; omega
      have eT : P ++ ((A.take v ++ [y]) ++ ([x] ++ (A.drop (v + 1) ++ S))) = (P ++ A.take v) ++ y :: x :: (A.drop (v + 1) ++ S) := by simp
      rw [eT] at hT
      have l1 : (P ++ A.take v).length = P.length + v := by rw [List.length_append, lt]
      have g1 : ((P ++ A.take v) ++ y :: x :: (A.drop (v + 1) ++ S))[P.length + v]? = some y := by rw [← l1]; exact get_at
      have g2 : ((P ++ A.take v) ++ y :: x :: (A.drop (v + 1) ++ S))[P.length + (v + 1)]? = some x := by rw [← Nat.add_assoc, ← l1]; exact get_at1
      have hb1 := (List.getElem?_eq_some_iff.1 g1).1
      have hb2 := (List.getElem?_eq_some_iff.1 g2).1
      unfold F106_j19
      refine drew_k H fun w H => ?_
      refine sub_k (z := ((P.length + v : Nat) : Int)) (by omega) (by omega) (by omega) ?_
      refine sub_k (z := ((P.length + v : Nat) : Int)) (by omega) (by omega) (by omega) ?_
      refine ixN_t (C := cPr) hT.tr H (fun c hc => List.mem_append_left _ hc) g1 (by decide) ?_
      refine ixN_t (C := cPr) hT.tr H (fun c hc => List.mem_append_left _ hc) g2 (by decide) ?_
      (try simp only [W0])
      refine istN_t (C := cPr) (x := y) hT H Split.here hb2 fun w c1 H h1 => ?_
      (try simp only [W0])
      refine istN_t (C := cPr) (x := x) h1 H Split.here (by rw [List.length_set]; exact hb1) fun w c2 H h2 => ?_
      (try simp only [W0])
      refine sub_k (z := ((P.length + v : Nat) : Int)) (by omega) (by omega) (by omega) ?_
      rw [← Nat.add_assoc, ← l1, set2_dn] at h2
      refine hk2 (v - i) _ _ _ _ (by omega) ⟨v, c2, rfl, rfl, rfl, by omega, by omega, rfl, ?_, H⟩
      rw [ed]; simpa using h2
    · (try simp only [W0])
      obtain rfl : t = i := by omega
      unfold F106_j16
      have hge := hA.drop_ge h2
      refine g (A.take t ++ ([x] ++ A.drop t)) cs w (by simpa using hT) (hA.ins h1 (by rcases h2 with h2 | ⟨y, h2, h3⟩; exact .inl h2; exact .inr ⟨y, h2, by omega⟩)) ?_ H
      have e : A ++ [x] = A.take t ++ (A.drop t ++ [x]) := by rw [← List.append_assoc, List.take_append_drop]
      rw [e]
      refine Same.refl.app (Same.swap fun z hz y hy => ?_)
      rw [List.mem_singleton.1 hy]
      have := hge z hz; omega
theorem symLate_spec (hc : CmpLate key f) : ∀ (N : Nat) {P A B S : List Pr} {s : Value} {cs F : List Chunk} {w0 w : World}, A.length + B.length ≤ N → TS cPr 136 s (P ++ (A ++ (B ++ S))) cs → 0 < A.length → 0 < B.length → Srt key A → Srt key B → (P ++ (A ++ (B ++ S))).length < 2 ^ 30 → Hp w0 w (cs ++ F) →
    Calls Pg 106 ⟨[s, I (P.length : Int), I ((P.length + A.length : Nat) : Int), I ((P.length + A.length + B.length : Nat) : Int), .func (.func f) ⟨[]⟩ ⟨[]⟩]⟩ w fun e w' => ∃ C cs', e = .returned (.tuple ⟨[]⟩) ∧ TS cPr 136 s (P ++ (C ++ S)) cs' ∧ Srt key C ∧ Same key (A ++ B) C ∧ Hp w0 w' (cs' ++ F) := by
  intro N
  induction N with
  | zero => intro P A B S s cs F w0 w hN h hA; omega
  | succ N ih =>
  intro P A B S s cs F w0 w hN h hA hB sA sB hn H
  generalize hQ : (fun (e : Ending) (w' : World) => ∃ C cs', e = .returned (.tuple ⟨[]⟩) ∧ TS cPr 136 s (P ++ (C ++ S)) cs' ∧ Srt key C ∧ Same key (A ++ B) C ∧ Hp w0 w' (cs' ++ F) : ER) = Q
  have hn2 : P.length + A.length + B.length < 2 ^ 30 := by simp only [List.length_append] at hn; omega
  apply F106_calls
  unfold F106 F106_j22
  refine sub_k (z := (A.length : Int)) (by omega) (by omega) (by omega) ?_
  refine eql_k (fun h1 => ?_) (fun h1 => ?_)
  · unfold F106_j23
    (try simp only [W0])
    obtain ⟨x, rfl⟩ : ∃ x, A = [x] := List.length_eq_one_iff.1 (by omega)
    refine symOneLate hc h sB hn H fun C cs' w' c1 c2 c3 c4 => ?_
    subst hQ
    exact ⟨C, cs', rfl, c1, c2, c3, c4⟩
  unfold F106_j23
  (try simp only [W0])
  unfold F106_j1 F106_j12
  refine sub_k (z := (B.length : Int)) (by omega) (by omega) (by omega) ?_
  refine eql_k (fun h2 => ?_) (fun h2 => ?_)
  · unfold F106_j13
    (try simp only [W0])
    obtain ⟨x, rfl⟩ : ∃ x, B = [x] := List.length_eq_one_iff.1 (by omega)
    refine symLastLate hc h sA hn H fun C cs' w' c1 c2 c3 c4 => ?_
    subst hQ
    exact ⟨C, cs', rfl, c1, c2, c3, c4⟩
  unfold F106_j13
  (try simp only [W0])
  unfold F106_j2
  generalize ha : P.length = a at *
  generalize hm : a + A.length = m at *
  generalize hb : m + B.length = b at *
  refine add_k (z := ((a + b : Nat) : Int)) (by omega) (by omega) (by omega) ?_
  refine halfLate_k rfl (by omega) ?_
  generalize hmid : (a + b) / 2 = mid at *
  refine add_k (z := ((mid + m : Nat) : Int)) (by omega) (by omega) (by omega) ?_
  generalize hnn : mid + m = n at *
  have hget : ∀ c, a ≤ c → c < m → (P ++ (A ++ (B ++ S)))[c]? = A[c - a]? := by
    intro c h1 h2
    obtain ⟨t, rfl⟩ : ∃ t, c = P.length + t := ⟨c - P.length, by omega⟩
    rw [get_in (by omega)]; congr 1; omega
  have hgetB : ∀ c, m ≤ c → c < b → (P ++ (A ++ (B ++ S)))[c]? = B[c - m]? := by
    intro c h1 h2
    obtain ⟨t, rfl⟩ : ∃ t, c = P.length + A.length + t := ⟨c - (P.length + A.length), by omega⟩
    rw [get_in2 (by omega)]; congr 1; omega
  -- the search
  have srch : ∀ (st0 r0 : Nat), a ≤ st0 → st0 ≤ r0 → r0 ≤ m → (∀ c, st0 ≤ c → c < r0 → m ≤ n - 1 - c ∧ n - 1 - c < b ∧ c < n) →
      (∀ (st : Nat) (w : World), st0 ≤ st → st ≤ r0 → (st = st0 ∨ Opq (∃ x y, A[st - 1 - a]? = some x ∧ B[n - st - m]? = some y ∧ key x ≤ key y)) → (st = r0 ∨ Opq (∃ x y, A[st - a]? = some x ∧ B[n - 1 - st - m]? = some y ∧ key y < key x)) → Hp w0 w (cs ++ F) →
        F106_j4 Q s (I (a : Int)) (I (m : Int)) (I (b : Int)) (.func (.func f) ⟨[]⟩ ⟨[]⟩) (I (mid : Int)) (I (n : Int)) (I (st : Int)) w) →
      ∀ w, Hp w0 w (cs ++ F) → F106_j3 Q s (I (a : Int)) (I (m : Int)) (I (b : Int)) (.func (.func f) ⟨[]⟩ ⟨[]⟩) (I (mid : Int)) (I (n : Int)) (I (st0 : Int)) (I (r0 : Int)) w := by
    intro st0 r0 g1 g2 g3 g4 gd w H
    unfold F106_j3
    refine sub_k (z := ((n - 1 : Nat) : Int)) (by omega) (by omega) (by omega) ?_
    unfold F106_j9
    refine loop10 (F106_l1_succ _) (fun q x0 x1 x2 x3 x4 x18 x19 x20 x21 x22 w => ∃ (i j : Nat), x0 = s ∧ x1 = I (a : Int) ∧ x2 = I (m : Int) ∧ x3 = I (b : Int) ∧ x4 = .func (.func f) ⟨[]⟩ ⟨[]⟩ ∧ x18 = I (mid : Int) ∧ x19 = I (n : Int) ∧ x20 = I (i : Int) ∧ x21 = I (j : Int) ∧ x22 = I ((n - 1 : Nat) : Int) ∧
      st0 ≤ i ∧ i ≤ j ∧ j ≤ r0 ∧ q = j - i ∧ (i = st0 ∨ Opq (∃ x y, A[i - 1 - a]? = some x ∧ B[n - i - m]? = some y ∧ key x ≤ key y)) ∧ (j = r0 ∨ Opq (∃ x y, A[j - a]? = some x ∧ B[n - 1 - j - m]? = some y ∧ key y < key x)) ∧ Hp w0 w (cs ++ F)) ?_ (m := r0 - st0)
      ⟨st0, r0, rfl, rfl, rfl, rfl, rfl, rfl, rfl, rfl, rfl, rfl, Nat.le_refl _, g2, Nat.le_refl _, rfl, .inl rfl, .inl rfl, H⟩
    clear H
    rintro q k _ _ _ _ _ _ _ _ _ _ w ⟨i, j, rfl, rfl, rfl, rfl, rfl, rfl, rfl, rfl, rfl, rfl, hi, hij, hj, rfl, f1, f2, H⟩ hk
    unfold F106_b1
    refine lss_k (fun hl => ?_) (fun hl => ?_)
    · (try simp only [W0])
      unfold F106_j10
      refine add_k (z := ((i + j : Nat) : Int)) (by omega) (by omega) (by omega) ?_
      refine halfLate_k rfl (by omega) ?_
      generalize hcc : (i + j) / 2 = c at *
      have hc1 : i ≤ c := by omega
      have hc2 : c < j := by omega
      obtain ⟨b1, b2, b3⟩ := g4 c (by omega) (by omega)
      have hx : A[c - a]? = some (A[c - a]'(by omega)) := List.getElem?_eq_getElem (by omega)
      generalize A[c - a]'(by omega) = x at hx
      have hy : B[n - 1 - c - m]? = some (B[n - 1 - c - m]'(by omega)) := List.getElem?_eq_getElem (by omega)
      generalize B[n - 1 - c - m]'(by omega) = y at hy
      refine drew_k H fun w H => ?_
      refine sub_k (z := ((n - 1 - c : Nat) : Int)) (by omega) (by omega) (by omega) ?_
      refine ixN_t (C := cPr) h.tr H (fun c hc => List.mem_append_left _ hc) ((hgetB _ b1 b2).trans hy) (by decide) ?_
      refine ixN_t (C := cPr) h.tr H (fun c hc => List.mem_append_left _ hc) ((hget c (by omega) (by omega)).trans hx) (by decide) ?_
      (try simp only [W0])
      refine cmpLate_k hc H fun w r hr H => ?_
      refine lss_k (fun hr0 => ?_) (fun hr0 => ?_)
      · (try simp only [W0])
        exact hk (c - i) _ _ _ _ _ _ _ _ _ _ _ (by omega) ⟨i, c, rfl, rfl, rfl, rfl, rfl, rfl, rfl, rfl, rfl, rfl, hi, hc1, by omega, rfl, f1, .inr ⟨⟨x, y, hx, hy, hr.1 hr0⟩⟩, H⟩
      · (try simp only [W0])
        refine add_k (z := ((c + 1 : Nat) : Int)) (by omega) (by omega) (by omega) ?_
        refine hk (j - (c + 1)) _ _ _ _ _ _ _ _ _ _ _ (by omega) ⟨c + 1, j, rfl, rfl, rfl, rfl, rfl, rfl, rfl, rfl, rfl, rfl, by omega, by omega, hj, rfl, .inr ⟨⟨x, y, ?_, ?_, ?_⟩⟩, f2, H⟩
        · rw [show c + 1 - 1 - a = c - a from by omega]; exact hx
        · rw [show n - (c + 1) - m = n - 1 - c - m from by omega]; exact hy
        · have : ¬ key y < key x := fun h => hr0 (hr.2 h)
          omega
    · (try simp only [W0])
      obtain rfl : i = j := by omega
      exact gd i w hi hj f1 f2 H
  -- behind the search
  have rest : ∀ (st : Nat) (w : World), a ≤ st → st ≤ m → m ≤ n - st → n - st ≤ b → st ≤ n → (st = a ∨ n - st = b ∨ Opq (∃ x y, A[st - 1 - a]? = some x ∧ B[n - st - m]? = some y ∧ key x ≤ key y)) → (st = m ∨ n - st = m ∨ Opq (∃ x y, A[st - a]? = some x ∧ B[n - 1 - st - m]? = some y ∧ key y < key x)) → Hp w0 w (cs ++ F) →
      F106_j4 Q s (I (a : Int)) (I (m : Int)) (I (b : Int)) (.func (.func f) ⟨[]⟩ ⟨[]⟩) (I (mid : Int)) (I (n : Int)) (I (st : Int)) w := by
    intro st w g1 g2 g3 g4 g5 f1 f2 H
    unfold F106_j4
    refine sub_k (z := ((n - st : Nat) : Int)) (by omega) (by omega) (by omega) ?_
    generalize hen : n - st = en at *
    have eA : A = A.take (st - a) ++ A.drop (st - a) := (List.take_append_drop _ _).symm
    have eB : B = B.take (en - m) ++ B.drop (en - m) := (List.take_append_drop _ _).symm
    have e5 : en - m - 1 = n - 1 - st - m := by omega
    have e6 : st - a - 1 = st - 1 - a := by omega
    have x1 : ∀ x ∈ A.drop (st - a), ∀ y ∈ B.take (en - m), key y < key x := by
      intro x hx y hy
      rcases f2 with f2 | f2 | ⟨⟨x', y', hx', hy', hl⟩⟩
      · rw [List.drop_eq_nil_of_le (by omega)] at hx; simp at hx
      · rw [f2, Nat.sub_self] at hy; simp at hy
      · have h1 := sA.drop_ge (.inr ⟨x', hx', Int.le_refl _⟩) x hx
        have h2 := sB.take_lt (t := en - m) (c := key y' + 1) (.inr ⟨y', by rw [e5]; exact hy', by omega⟩) y hy
        omega
    have x2 : ∀ x ∈ A.take (st - a), ∀ y ∈ B.drop (en - m), key x ≤ key y := by
      intro x hx y hy
      rcases f1 with f1 | f1 | ⟨⟨x', y', hx', hy', hl⟩⟩
      · rw [f1, Nat.sub_self] at hx; simp at hx
      · rw [List.drop_eq_nil_of_le (by omega)] at hy; simp at hy
      · have h2 := sB.drop_ge (.inr ⟨y', hy', Int.le_refl _⟩) y hy
        have h1 := sA.take_lt (t := st - a) (c := key x' + 1) (.inr ⟨x', by rw [e6]; exact hx', by omega⟩) x hx
        omega
    have l1 : (A.take (st - a)).length = st - a := by rw [List.length_take]; omega
    have l2 : (A.drop (st - a)).length = m - st := by rw [List.length_drop]; omega
    have l3 : (B.take (en - m)).length = en - m := by rw [List.length_take]; omega
    have l4 : (B.drop (en - m)).length = b - en := by rw [List.length_drop]; omega
    generalize A.take (st - a) = A1 at *
    generalize A.drop (st - a) = A2 at *
    generalize B.take (en - m) = B1 at *
    generalize B.drop (en - m) = B2 at *
    subst eA eB
    clear srch hget hgetB f1 f2 h1 h2
    simp only [List.length_append] at hA hB hN hm hb
    -- the second half's merge, and the end
    have fin2 : ∀ (w : World) (C1 : List Pr) (cs : List Chunk), Srt key C1 → Same key (A1 ++ B1) C1 → TS cPr 136 s (P ++ (C1 ++ (A2 ++ (B2 ++ S)))) cs → Hp w0 w (cs ++ F) →
        F106_j6 Q s (I (b : Int)) (.func (.func f) ⟨[]⟩ ⟨[]⟩) (I (mid : Int)) (I (en : Int)) w := by
      intro w C1 cs c1 s1 hT H
      have lC : C1.length = mid - a := by rw [s1.len, List.length_append]; omega
      have skip : (A2 = [] ∨ B2 = []) → ∀ w, Hp w0 w (cs ++ F) → Q (.returned (.tuple ⟨[]⟩)) w := by
        intro h0 w H
        have c2 : Srt key (A2 ++ B2) := by
          rcases h0 with h0 | h0
          · rw [h0]; exact sB.right
          · rw [h0, List.append_nil]; exact sA.right
        obtain ⟨e1, e2⟩ := merge_end sA sB x1 x2 c1 s1 c2 Same.refl
        subst hQ
        exact ⟨C1 ++ (A2 ++ B2), cs, rfl, by simpa using hT, e1, e2, H⟩
      unfold F106_j6
      refine lss_k (fun h1 => ?_) (fun h1 => ?_)
      · (try simp only [W0])
        refine lss_k (fun h2 => ?_) (fun h2 => ?_)
        · (try simp only [W0])
          have hl0 : (P ++ (C1 ++ (A2 ++ (B2 ++ S)))).length < 2 ^ 30 := by
            simp only [List.length_append] at hn ⊢; omega
          have hs := ih (P := P ++ C1) (A := A2) (B := B2) (S := S) (s := s) (cs := cs) (F := F) (w0 := w0) (w := w) (by omega) (by simpa using hT) (by omega) (by omega) sA.right sB.right (by simpa using hl0) H
          rw [show (P ++ C1).length = mid from by rw [List.length_append]; omega, show mid + A2.length = en from by omega, show en + B2.length = b from by omega] at hs
          refine cal_h hs ?_
          rintro _ w ⟨C2, c2', rfl, hT2, c2, s2, H⟩
          obtain ⟨e1, e2⟩ := merge_end sA sB x1 x2 c1 s1 c2 s2
          subst hQ
          exact ⟨C1 ++ C2, c2', (by first | rfl | trivial), by simpa using hT2, e1, e2, H⟩
        · (try simp only [W0])
          exact skip (.inr (List.length_eq_zero_iff.1 (by omega))) w H
      · (try simp only [W0])
        exact skip (.inl (List.length_eq_zero_iff.1 (by omega))) w H
    have fin1 : ∀ (w : World) (cs : List Chunk), TS cPr 136 s (P ++ (A1 ++ (B1 ++ (A2 ++ (B2 ++ S))))) cs → Hp w0 w (cs ++ F) →
        F106_j5 Q s (I (a : Int)) (I (b : Int)) (.func (.func f) ⟨[]⟩ ⟨[]⟩) (I (mid : Int)) (I (st : Int)) (I (en : Int)) w := by
      intro w cs hT H
      have skip : (A1 = [] ∨ B1 = []) → ∀ w, Hp w0 w (cs ++ F) → F106_j6 Q s (I (b : Int)) (.func (.func f) ⟨[]⟩ ⟨[]⟩) (I (mid : Int)) (I (en : Int)) w := by
        intro h0 w H
        have c1 : Srt key (A1 ++ B1) := by
          rcases h0 with h0 | h0
          · rw [h0]; exact sB.left
          · rw [h0, List.append_nil]; exact sA.left
        exact fin2 w (A1 ++ B1) cs c1 Same.refl (by simpa using hT) H
      unfold F106_j5 F106_j7
      refine lss_k (fun h1 => ?_) (fun h1 => ?_)
      · (try simp only [W0])
        refine lss_k (fun h2 => ?_) (fun h2 => ?_)
        · (try simp only [W0])
          have hl0 : (P ++ (A1 ++ (B1 ++ (A2 ++ (B2 ++ S))))).length < 2 ^ 30 := by
            simp only [List.length_append] at hn ⊢; omega
          have hs := ih (P := P) (A := A1) (B := B1) (S := A2 ++ (B2 ++ S)) (s := s) (cs := cs) (F := F) (w0 := w0) (w := w) (by omega) hT (by omega) (by omega) sA.left sB.left hl0 H
          rw [ha, show a + A1.length = st from by omega, show st + B1.length = mid from by omega] at hs
          refine cal_h hs ?_
          rintro _ w ⟨C1, c2', rfl, hT2, c1, s1, H⟩
          (try simp only [W0])
          exact fin2 w C1 c2' c1 s1 hT2 H
        · (try simp only [W0])
          exact skip (.inr (List.length_eq_zero_iff.1 (by omega))) w H
      · (try simp only [W0])
        exact skip (.inl (List.length_eq_zero_iff.1 (by omega))) w H
    have skip : (A2 = [] ∨ B1 = []) → ∀ w, Hp w0 w (cs ++ F) → F106_j5 Q s (I (a : Int)) (I (b : Int)) (.func (.func f) ⟨[]⟩ ⟨[]⟩) (I (mid : Int)) (I (st : Int)) (I (en : Int)) w := by
      intro h0 w H
      refine fin1 w cs ?_ H
      rcases h0 with h0 | h0
      · rw [h0] at h ⊢; simpa using h
      · rw [h0] at h ⊢; simpa using h
    unfold F106_j8
    refine lss_k (fun h1 => ?_) (fun h1 => ?_)
    · (try simp only [W0])
      refine lss_k (fun h2 => ?_) (fun h2 => ?_)
      · (try simp only [W0])
        have hl0 : (P ++ (A1 ++ (A2 ++ (B1 ++ (B2 ++ S))))).length < 2 ^ 30 := by
          simp only [List.length_append] at hn ⊢; omega
        have hs := rotLate_spec (P := P ++ A1) (X := A2) (Y := B1) (S := B2 ++ S) (s := s) (cs := cs) (F := F) (w0 := w0) (w := w) (v4 := .func (.func f) ⟨[]⟩ ⟨[]⟩) (by simpa using h) (by omega) (by omega) (by simpa using hl0) H
        rw [show (P ++ A1).length = st from by rw [List.length_append]; omega, show st + A2.length = m from by omega, show m + B1.length = en from by omega] at hs
        refine cal_h hs ?_
        rintro _ w ⟨c2', rfl, hT2, H⟩
        (try simp only [W0])
        exact fin1 w c2' (by simpa using hT2) H
      · (try simp only [W0])
        exact skip (.inr (List.length_eq_zero_iff.1 (by omega))) w H
    · (try simp only [W0])
      exact skip (.inl (List.length_eq_zero_iff.1 (by omega))) w H
  unfold F106_j11
  refine gtr_k (fun h3 => ?_) (fun h3 => ?_)
  · (try simp only [W0])
    refine sub_k (z := ((n - b : Nat) : Int)) (by omega) (by omega) (by omega) ?_
    refine srch (n - b) mid (by omega) (by omega) (by omega) (fun c _ _ => by omega) (fun st w k1 k2 f1 f2 H => ?_) w H
    refine rest st w (by omega) (by omega) (by omega) (by omega) (by omega) ?_ ?_ H
    · rcases f1 with f1 | f1
      · exact .inr (.inl (by omega))
      · exact .inr (.inr f1)
    · rcases f2 with f2 | f2
      · exact .inr (.inl (by omega))
      · exact .inr (.inr f2)
  · (try simp only [W0])
    refine srch a m (by omega) (by omega) (by omega) (fun c _ _ => by omega) (fun st w k1 k2 f1 f2 H => ?_) w H
    refine rest st w (by omega) (by omega) (by omega) (by omega) (by omega) ?_ ?_ H
    · rcases f1 with f1 | f1
      · exact .inl f1
      · exact .inr (.inr f1)
    · rcases f2 with f2 | f2
      · exact .inl f2
      · exact .inr (.inr f2)
end
end Go.Proofs.YthcekppbbanfeaaGreat.Den
