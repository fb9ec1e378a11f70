/- Channels: slices.Insert at entries and receivers. Conditions: none. -/
import Derived.Test.YtmkcjopacmadhaaGreatChI
set_option linter.unusedVariables false
set_option linter.unusedSimpArgs false
set_option maxRecDepth 8000
set_option maxHeartbeats 2000000
namespace Go.Proofs.YtmkcjopacmadhaaGreat.Den
open Go Go.RowKit
section
variable {α : Type} {C : Cod α} {xs : List α} {x : α} {i : Nat} {Z rest : List Value}
theorem insB (hi : i ≤ xs.length) (hz : (1 + (xs.length - i)) * C.sz ≤ Z.length) : lay (lay (C.all (xs.take i) ++ Z) (i * C.sz) (C.enc x)) ((i + 1) * C.sz) (C.all (xs.drop i)) = C.all (xs.take i ++ x :: xs.drop i) ++ Z.drop ((1 + (xs.length - i)) * C.sz) := by
  have hA : (C.all (xs.take i)).length = i * C.sz := by rw [all_len, List.length_take, Nat.min_eq_left hi]
  have hX : (C.enc x).length = C.sz := C.len x
  have hB : (C.all (xs.drop i)).length = (xs.length - i) * C.sz := by rw [all_len, List.length_drop]
  have hz' : (1 + (xs.length - i)) * C.sz = C.sz + (xs.length - i) * C.sz := by rw [Nat.add_mul, Nat.one_mul]
  rw [hz'] at hz ⊢
  have e1 : lay (C.all (xs.take i) ++ Z) (i * C.sz) (C.enc x) = C.all (xs.take i) ++ C.enc x ++ Z.drop C.sz := by
    rw [← hA, lay_app (by omega), hX]
  have e2 : (i + 1) * C.sz = (C.all (xs.take i) ++ C.enc x).length := by rw [List.length_append, hA, hX, Nat.add_mul, Nat.one_mul]
  rw [e1, e2, lay_app (by rw [List.length_drop, hB]; omega), List.drop_drop, hB, all_app, show x :: xs.drop i = [x] ++ xs.drop i from rfl, all_app, all_one]
  simp [List.append_assoc]
theorem insC (hi : i ≤ xs.length) (hz : C.sz ≤ rest.length) : lay (lay (C.all xs ++ rest) ((i + 1) * C.sz) (C.all (xs.drop i))) (i * C.sz) (C.enc x) = C.all (xs.take i ++ x :: xs.drop i) ++ rest.drop C.sz := by
  have hA : (C.all (xs.take i)).length = i * C.sz := by rw [all_len, List.length_take, Nat.min_eq_left hi]
  have hX : (C.enc x).length = C.sz := C.len x
  have hB : (C.all (xs.drop i)).length = (xs.length - i) * C.sz := by rw [all_len, List.length_drop]
  have e0 : C.all xs ++ rest = (C.all (xs.take i) ++ (C.all (xs.drop i) ++ rest).take C.sz) ++ (C.all (xs.drop i) ++ rest).drop C.sz := by
    rw [List.append_assoc, List.take_append_drop, ← List.append_assoc, ← all_app, List.take_append_drop]
  have hP : ((C.all (xs.drop i) ++ rest).take C.sz).length = C.sz := by rw [List.length_take, List.length_append]; omega
  have e2 : (i + 1) * C.sz = (C.all (xs.take i) ++ (C.all (xs.drop i) ++ rest).take C.sz).length := by rw [List.length_append, hA, hP, Nat.add_mul, Nat.one_mul]
  rw [e0, e2, lay_app (by rw [List.length_drop, List.length_append]; omega), List.drop_drop, List.append_assoc (C.all (xs.take i)), List.append_assoc (C.all (xs.take i)), ← hA, lay_app (by rw [List.length_append, List.length_append, hP, hX]; omega), hX]
  rw [show C.sz + (C.all (xs.drop i)).length = (C.all (xs.drop i)).length + C.sz from Nat.add_comm _ _, ← List.drop_drop, List.drop_left, List.append_assoc ((C.all (xs.drop i) ++ rest).take C.sz)]
  have e3 : ((C.all (xs.drop i) ++ rest).take C.sz ++ (C.all (xs.drop i) ++ rest.drop C.sz)).drop C.sz = C.all (xs.drop i) ++ rest.drop C.sz := by
    conv => lhs; arg 1; rw [← hP]
    rw [List.drop_left]
  rw [e3, all_app, show x :: xs.drop i = [x] ++ xs.drop i from rfl, all_app, all_one]
  simp [List.append_assoc]
end
theorem elEn : ElT 99 110 cEn.sz 104 [I 0, I 0, I 0, I 0, I 0, .pointer none, .slice none 0 0, I 0, I 0, I 0, I 0] := ⟨by kernel_rfl, by kernel_rfl, rfl⟩
theorem elRc : ElT 100 107 cRc.sz 32 [I 0, I 0, I 0, I 0] := ⟨by kernel_rfl, by kernel_rfl, rfl⟩
section
variable {w w' w0 : World} {L L' F cs cs2 cs3 : List Chunk} {s s2 : Value} {K : VK} {R : ER}
theorem sInsE_spec {xs : List Ent} {x : Ent} {i : Nat} (h : TS cEn 110 s xs cs) (hi : i ≤ xs.length) (hv : TS cEn 110 s2 [x] cs2) (hl : xs.length < 2 ^ 30) (H : Hp w0 w (cs ++ (cs2 ++ F))) :
    Calls Pg 160 ⟨[s, I (i : Int), s2]⟩ w fun e w' => ∃ s' cs', e = .returned s' ∧ Hp w0 w' (cs' ++ F) ∧ TS cEn 110 s' (xs.take i ++ x :: xs.drop i) cs' := by
  apply F160_calls
  unfold F160
  have hl2 : lenS s2 = some (I 1) := lenS_ts hv
  have hl1 : lenS s = some (I (xs.length : Int)) := lenS_ts h
  have hls : lenS s2 = some (I 1) := hl2
  obtain ⟨v0, hv0⟩ : ∃ v, slS 11 s (some (I (i : Int))) none = some v := by
    obtain ⟨a, n, c, rfl, hnc⟩ : ∃ a n c, s = .slice a n c ∧ xs.length ≤ n ∧ n ≤ c := by
      rcases h with ⟨_, ⟨a, rfl⟩, h3, _⟩ | ⟨b, cap, rest, _, rfl, _, h4, _⟩
      · exact ⟨a, 0, 0, rfl, by omega, Nat.le_refl _⟩
      · exact ⟨_, _, _, rfl, Nat.le_refl _, h4⟩
    have e1 : (i : Int) ≤ (n : Int) := by omega
    have e2 : (n : Int) ≤ (c : Int) := by omega
    exact ⟨_, by simp [slS, boundO, e1, e2]; rfl⟩
  refine pv_of hv0 ?_
  refine pv_of hl2 ?_
  refine eql_n (by decide) ?_
  simp only [W0]
  unfold F160_j1
  refine pv_of hl1 ?_
  rcases Nat.lt_or_ge i xs.length with hin | hin
  rotate_left
  · obtain rfl : i = xs.length := by omega
    refine eql_y rfl ?_
    simp only [W0]
    refine append_t (C := cEn) (F := cs2 ++ F) elEn H h spl hv.tr (by intro c hc; simp [hc]) (by simp only [List.length_singleton]; omega) (by simp only [List.length_singleton]; omega) fun w s' cs' H h' => ?_
    exact ⟨s', cs', rfl, H.to (by intro f; simp only [List.map_append, List.sum_append]; omega), by simpa using h'⟩
  refine eql_n (by omega) ?_
  simp only [W0]
  unfold F160_j2 F160_j8
  refine add_k (z := ((xs.length + 1 : Nat) : Int)) (by omega) (by omega) (by omega) ?_
  obtain ⟨b, cap, rest, rfl, rfl, hcap, hrest⟩ := h.chunk (by omega)
  obtain ⟨vb, vcap, vrest, rfl, rfl, hvc, hvr⟩ := hv.chunk (by simp)
  have hX : (cEn.enc x).length = cEn.sz := cEn.len x
  have hcl : (cEn.all xs ++ rest).length = cap * cEn.sz := by rw [List.length_append, all_len, hrest, ← Nat.add_mul]; congr 1; omega
  have hsz : cEn.sz = 11 := rfl
  refine cap_h elEn.under ?_
  have H : Hp w0 w (⟨b, 110, cEn.all xs ++ rest⟩ :: ⟨vb, 110, cEn.all [x] ++ vrest⟩ :: F) := H
  have hne : vb ≠ b := by
    have := H.nd
    simp only [List.map_cons, List.nodup_cons, List.mem_cons, not_or] at this
    exact fun h => this.1.1 h.symm
  have hsrc2 : ∀ (L : List Chunk), (⟨vb, 110, cEn.all [x] ++ vrest⟩ : Chunk) ∈ L → RdL w0 L cEn.sz (.slice (some ⟨vb, 0, none⟩) [x].length vcap) [x].length (cEn.all [x]) := fun L hL =>
    RdL.mono (hv.tr (w0 := w0)) (by intro c hc; obtain rfl := List.mem_singleton.1 hc; exact hL)
  have hone : ∀ m, 1 ≤ m → (cEn.all [x]).take (min [x].length m * cEn.sz) = cEn.enc x := fun m hm => by
    rw [all_one, show min [x].length m = 1 from by simp; omega, Nat.one_mul, List.take_of_length_le (by rw [hX]; exact Nat.le_refl _)]
  have hfin : ∀ (cap' : Nat) (r : List Value) (b' : Nat), xs.length + 1 ≤ cap' → r.length = (cap' - (xs.length + 1)) * cEn.sz → TS cEn 110 (.slice (some ⟨b', 0, none⟩) (xs.length + 1) cap') (xs.take i ++ x :: xs.drop i) [⟨b', 110, cEn.all (xs.take i ++ x :: xs.drop i) ++ r⟩] := fun cap' r b' h1 h2 =>
    TS.mk (by simp; omega) h1 h2
  have hmid : ∀ m c', xs.length - i ≤ m → m ≤ c' → RdL w0 [(⟨b, 110, cEn.all xs ++ rest⟩ : Chunk)] cEn.sz (.slice (some ⟨b, 0 + i * cEn.sz, none⟩) m c') m (((cEn.all xs ++ rest).drop (0 + i * cEn.sz)).take (m * cEn.sz)) ∨ ¬ (0 + i * cEn.sz + m * cEn.sz ≤ (cEn.all xs ++ rest).length) := fun m c' _ hc' => by
    by_cases hq : 0 + i * cEn.sz + m * cEn.sz ≤ (cEn.all xs ++ rest).length
    · exact .inl (.inr ⟨b, _, c', .t 110, _, rfl, hc', ⟨List.mem_cons_self .., rfl⟩, hq, rfl⟩)
    · exact .inr hq
  have htk : ∀ m, xs.length - i ≤ m → (((cEn.all xs ++ rest).drop (0 + i * cEn.sz)).take (m * cEn.sz)).take ((xs.length - i) * cEn.sz) = cEn.all (xs.drop i) := fun m hm => by
    have hle : (xs.length - i) * cEn.sz ≤ m * cEn.sz := Nat.mul_le_mul_right _ hm
    rw [List.take_take, Nat.min_eq_left hle, Nat.zero_add, List.drop_append_of_le_length (by rw [all_len]; exact Nat.mul_le_mul_right _ hi), all_drop,
      List.take_append_of_le_length (by rw [all_len, List.length_drop]; exact Nat.le_refl _), List.take_of_length_le (by rw [all_len, List.length_drop]; exact Nat.le_refl _)]
  refine gtr_k (fun hr => ?_) (fun hr => ?_)
  · unfold F160_j9
    simp only [W0]
    unfold F160_j10
    refine pv_of (slTo (sz := cEn.sz) (by omega)) ?_
    refine add_k (z := ((xs.length + 1 : Nat) : Int)) (by omega) (by omega) (by omega) ?_
    refine sub_k (z := ((xs.length + 1 - i : Nat) : Int)) (by omega) (by omega) (by omega) ?_
    refine appendZ_h (kn := .i64) elEn (by kernel_rfl) H has (by rw [hcl]; exact Nat.mul_le_mul_right _ (by omega)) (by decide) (by omega) (by omega) (by omega) (by omega) (by omega) fun w1 b' cap' Z H1 hc1 hZ => ?_
    have ei : i + (xs.length + 1 - i) = xs.length + 1 := by omega
    rw [ei] at hc1 ⊢
    have eA : (cEn.all xs ++ rest).take (i * cEn.sz) = cEn.all (xs.take i) := by
      rw [List.take_append_of_le_length (by rw [all_len]; exact Nat.mul_le_mul_right _ hi), all_take]
    rw [eA] at H1
    have hAl : (cEn.all (xs.take i)).length = i * cEn.sz := by rw [all_len, List.length_take, Nat.min_eq_left hi]
    have hZl : (cEn.all (xs.take i) ++ Z).length = cap' * cEn.sz := by rw [List.length_append, hAl, hZ, ← Nat.add_mul]; congr 1; omega
    refine pv_of (slFrom (sz := cEn.sz) (by omega) (by omega) (by omega)) ?_
    refine copy_h elEn H1 0 rfl (by rw [hZl, Nat.zero_add, ← Nat.add_mul]; exact Nat.mul_le_mul_right _ (by omega)) (hsrc2 _ (by simp)) all_sc fun w2 H2 => ?_
    rw [hone _ (by omega), Nat.zero_add, List.set_cons_zero] at H2
    refine drew_k H2 fun w3 H3 => ?_
    refine add_k (z := ((i + 1 : Nat) : Int)) (by omega) (by omega) (by omega) ?_
    refine pv_of (slFrom (sz := cEn.sz) (by omega) (by omega) (by omega)) ?_
    refine pv_of (slFrom (sz := cEn.sz) (by omega) (by omega) (by omega)) ?_
    have hll : (lay (cEn.all (xs.take i) ++ Z) (i * cEn.sz) (cEn.enc x)).length = cap' * cEn.sz := by
      rw [lay_len (by rw [hX, hZl, ← Nat.succ_mul]; exact Nat.mul_le_mul_right _ (show i.succ ≤ cap' from by omega)), hZl]
    refine copy_h' elEn H3 0 rfl (by rw [hll, Nat.zero_add, ← Nat.add_mul]; exact Nat.mul_le_mul_right _ (by omega)) (RdL.mono ((hmid (xs.length - i) (cap - i) (Nat.le_refl _) (by omega)).resolve_right (by rw [hcl, Nat.zero_add, ← Nat.add_mul]; simp only [Decidable.not_not]; exact Nat.mul_le_mul_right _ (by omega))) (by intro c hc; obtain rfl := List.mem_singleton.1 hc; simp)) (by rw [show min (xs.length - i) (xs.length + 1 - (i + 1)) = xs.length - i from by omega, htk _ (Nat.le_refl _)]; exact all_sc) fun w4 H4 => ?_
    rw [show min (xs.length - i) (xs.length + 1 - (i + 1)) = xs.length - i from by omega, htk _ (Nat.le_refl _), Nat.zero_add, List.set_cons_zero, insB hi (by rw [hZ]; exact Nat.mul_le_mul_right _ (by omega))] at H4
    refine ⟨_, _, rfl, ?_, hfin cap' (Z.drop ((1 + (xs.length - i)) * cEn.sz)) b' hc1 (by rw [List.length_drop, hZ, ← Nat.sub_mul]; congr 1; omega)⟩
    exact H4.re
  · unfold F160_j9
    simp only [W0]
    unfold F160_j3
    refine add_k (z := ((xs.length + 1 : Nat) : Int)) (by omega) (by omega) (by omega) ?_
    refine pv_of (slTo (sz := cEn.sz) (by omega)) ?_
    unfold F160_j5
    refine add_k (z := ((i + 1 : Nat) : Int)) (by omega) (by omega) (by omega) ?_
    refine pv_of (slFrom (sz := cEn.sz) (by omega) (by omega) (by omega)) ?_
    refine ovl_h (fn := Tryz.f174) (tS := 99) (tR := 4) (size := 11) (by kernel_rfl) (by kernel_rfl) (by kernel_rfl) (by kernel_rfl) (by kernel_rfl) (by kernel_rfl) elEn.under (fun w => by
      have hsz' : szO Pg 110 = some 11 := by kernel_rfl
      exact run_sizeOf' hsz') H (Has.cons Has.here) Has.here hne (by intro h0; rw [h0, List.length_nil] at hcl; have := Nat.mul_pos (show 0 < cap by omega) (show 0 < cEn.sz by decide); omega) ?_
    simp only [W0]
    unfold F160_j6
    simp only [W0]
    unfold F160_j7
    refine drew_k H fun w1 H1 => ?_
    refine add_k (z := ((i + 1 : Nat) : Int)) (by omega) (by omega) (by omega) ?_
    refine pv_of (slFrom (sz := cEn.sz) (by omega) (by omega) (by omega)) ?_
    refine pv_of (slFrom (sz := cEn.sz) (by omega) (by omega) (by omega)) ?_
    have emn : min (xs.length + 1 - i) (xs.length + 1 - (i + 1)) = xs.length - i := by omega
    refine copy_h' elEn H1 0 rfl (by rw [hcl, Nat.zero_add, ← Nat.add_mul]; exact Nat.mul_le_mul_right _ (by omega)) (RdL.mono ((hmid (xs.length + 1 - i) (cap - i) (by omega) (by omega)).resolve_right (by rw [hcl, Nat.zero_add, ← Nat.add_mul]; simp only [Decidable.not_not]; exact Nat.mul_le_mul_right _ (by omega))) (by intro c hc; obtain rfl := List.mem_singleton.1 hc; simp)) (by rw [emn, htk _ (by omega)]; exact all_sc) fun w2 H2 => ?_
    rw [emn, htk _ (by omega), Nat.zero_add, List.set_cons_zero] at H2
    refine pv_of (slFrom (sz := cEn.sz) (by omega) (by omega) (by omega)) ?_
    have hll : (lay (cEn.all xs ++ rest) ((i + 1) * cEn.sz) (cEn.all (xs.drop i))).length = cap * cEn.sz := by
      rw [lay_len (by rw [hcl, all_len, List.length_drop, ← Nat.add_mul]; exact Nat.mul_le_mul_right _ (by omega)), hcl]
    refine copy_h elEn H2 0 rfl (by rw [hll, Nat.zero_add, ← Nat.add_mul]; exact Nat.mul_le_mul_right _ (by omega)) (hsrc2 _ (by simp)) all_sc fun w3 H3 => ?_
    rw [hone _ (by omega), Nat.zero_add, List.set_cons_zero, insC hi (by rw [hrest]; exact Nat.le_trans (by rw [Nat.one_mul]; exact Nat.le_refl _) (Nat.mul_le_mul_right _ (show 1 ≤ cap - xs.length by omega)))] at H3
    refine ⟨_, _, rfl, ?_, hfin cap _ b (by omega) (by rw [List.length_drop, hrest, ← Nat.sub_one_mul, Nat.sub_sub])⟩
    exact H3.re
end
section
variable {w w' w0 : World} {L L' F cs cs2 cs3 : List Chunk} {s s2 : Value} {K : VK} {R : ER}
theorem sInsR_spec {xs : List Rcv} {x : Rcv} {i : Nat} (h : TS cRc 107 s xs cs) (hi : i ≤ xs.length) (hv : TS cRc 107 s2 [x] cs2) (hl : xs.length < 2 ^ 30) (H : Hp w0 w (cs ++ (cs2 ++ F))) :
    Calls Pg 134 ⟨[s, I (i : Int), s2]⟩ w fun e w' => ∃ s' cs', e = .returned s' ∧ Hp w0 w' (cs' ++ F) ∧ TS cRc 107 s' (xs.take i ++ x :: xs.drop i) cs' := by
  apply F134_calls
  unfold F134
  have hl2 : lenS s2 = some (I 1) := lenS_ts hv
  have hl1 : lenS s = some (I (xs.length : Int)) := lenS_ts h
  have hls : lenS s2 = some (I 1) := hl2
  obtain ⟨v0, hv0⟩ : ∃ v, slS 4 s (some (I (i : Int))) none = some v := by
    obtain ⟨a, n, c, rfl, hnc⟩ : ∃ a n c, s = .slice a n c ∧ xs.length ≤ n ∧ n ≤ c := by
      rcases h with ⟨_, ⟨a, rfl⟩, h3, _⟩ | ⟨b, cap, rest, _, rfl, _, h4, _⟩
      · exact ⟨a, 0, 0, rfl, by omega, Nat.le_refl _⟩
      · exact ⟨_, _, _, rfl, Nat.le_refl _, h4⟩
    have e1 : (i : Int) ≤ (n : Int) := by omega
    have e2 : (n : Int) ≤ (c : Int) := by omega
    exact ⟨_, by simp [slS, boundO, e1, e2]; rfl⟩
  refine pv_of hv0 ?_
  refine pv_of hl2 ?_
  refine eql_n (by decide) ?_
  simp only [W0]
  unfold F134_j1
  refine pv_of hl1 ?_
  rcases Nat.lt_or_ge i xs.length with hin | hin
  rotate_left
  · obtain rfl : i = xs.length := by omega
    refine eql_y rfl ?_
    simp only [W0]
    refine append_t (C := cRc) (F := cs2 ++ F) elRc H h spl hv.tr (by intro c hc; simp [hc]) (by simp only [List.length_singleton]; omega) (by simp only [List.length_singleton]; omega) fun w s' cs' H h' => ?_
    exact ⟨s', cs', rfl, H.to (by intro f; simp only [List.map_append, List.sum_append]; omega), by simpa using h'⟩
  refine eql_n (by omega) ?_
  simp only [W0]
  unfold F134_j2 F134_j8
  refine add_k (z := ((xs.length + 1 : Nat) : Int)) (by omega) (by omega) (by omega) ?_
  obtain ⟨b, cap, rest, rfl, rfl, hcap, hrest⟩ := h.chunk (by omega)
  obtain ⟨vb, vcap, vrest, rfl, rfl, hvc, hvr⟩ := hv.chunk (by simp)
  have hX : (cRc.enc x).length = cRc.sz := cRc.len x
  have hcl : (cRc.all xs ++ rest).length = cap * cRc.sz := by rw [List.length_append, all_len, hrest, ← Nat.add_mul]; congr 1; omega
  have hsz : cRc.sz = 4 := rfl
  refine cap_h elRc.under ?_
  have H : Hp w0 w (⟨b, 107, cRc.all xs ++ rest⟩ :: ⟨vb, 107, cRc.all [x] ++ vrest⟩ :: F) := H
  have hne : vb ≠ b := by
    have := H.nd
    simp only [List.map_cons, List.nodup_cons, List.mem_cons, not_or] at this
    exact fun h => this.1.1 h.symm
  have hsrc2 : ∀ (L : List Chunk), (⟨vb, 107, cRc.all [x] ++ vrest⟩ : Chunk) ∈ L → RdL w0 L cRc.sz (.slice (some ⟨vb, 0, none⟩) [x].length vcap) [x].length (cRc.all [x]) := fun L hL =>
    RdL.mono (hv.tr (w0 := w0)) (by intro c hc; obtain rfl := List.mem_singleton.1 hc; exact hL)
  have hone : ∀ m, 1 ≤ m → (cRc.all [x]).take (min [x].length m * cRc.sz) = cRc.enc x := fun m hm => by
    rw [all_one, show min [x].length m = 1 from by simp; omega, Nat.one_mul, List.take_of_length_le (by rw [hX]; exact Nat.le_refl _)]
  have hfin : ∀ (cap' : Nat) (r : List Value) (b' : Nat), xs.length + 1 ≤ cap' → r.length = (cap' - (xs.length + 1)) * cRc.sz → TS cRc 107 (.slice (some ⟨b', 0, none⟩) (xs.length + 1) cap') (xs.take i ++ x :: xs.drop i) [⟨b', 107, cRc.all (xs.take i ++ x :: xs.drop i) ++ r⟩] := fun cap' r b' h1 h2 =>
    TS.mk (by simp; omega) h1 h2
  have hmid : ∀ m c', xs.length - i ≤ m → m ≤ c' → RdL w0 [(⟨b, 107, cRc.all xs ++ rest⟩ : Chunk)] cRc.sz (.slice (some ⟨b, 0 + i * cRc.sz, none⟩) m c') m (((cRc.all xs ++ rest).drop (0 + i * cRc.sz)).take (m * cRc.sz)) ∨ ¬ (0 + i * cRc.sz + m * cRc.sz ≤ (cRc.all xs ++ rest).length) := fun m c' _ hc' => by
    by_cases hq : 0 + i * cRc.sz + m * cRc.sz ≤ (cRc.all xs ++ rest).length
    · exact .inl (.inr ⟨b, _, c', .t 107, _, rfl, hc', ⟨List.mem_cons_self .., rfl⟩, hq, rfl⟩)
    · exact .inr hq
  have htk : ∀ m, xs.length - i ≤ m → (((cRc.all xs ++ rest).drop (0 + i * cRc.sz)).take (m * cRc.sz)).take ((xs.length - i) * cRc.sz) = cRc.all (xs.drop i) := fun m hm => by
    have hle : (xs.length - i) * cRc.sz ≤ m * cRc.sz := Nat.mul_le_mul_right _ hm
    rw [List.take_take, Nat.min_eq_left hle, Nat.zero_add, List.drop_append_of_le_length (by rw [all_len]; exact Nat.mul_le_mul_right _ hi), all_drop,
      List.take_append_of_le_length (by rw [all_len, List.length_drop]; exact Nat.le_refl _), List.take_of_length_le (by rw [all_len, List.length_drop]; exact Nat.le_refl _)]
  refine gtr_k (fun hr => ?_) (fun hr => ?_)
  · unfold F134_j9
    simp only [W0]
    unfold F134_j10
    refine pv_of (slTo (sz := cRc.sz) (by omega)) ?_
    refine add_k (z := ((xs.length + 1 : Nat) : Int)) (by omega) (by omega) (by omega) ?_
    refine sub_k (z := ((xs.length + 1 - i : Nat) : Int)) (by omega) (by omega) (by omega) ?_
    refine appendZ_h (kn := .i64) elRc (by kernel_rfl) H has (by rw [hcl]; exact Nat.mul_le_mul_right _ (by omega)) (by decide) (by omega) (by omega) (by omega) (by omega) (by omega) fun w1 b' cap' Z H1 hc1 hZ => ?_
    have ei : i + (xs.length + 1 - i) = xs.length + 1 := by omega
    rw [ei] at hc1 ⊢
    have eA : (cRc.all xs ++ rest).take (i * cRc.sz) = cRc.all (xs.take i) := by
      rw [List.take_append_of_le_length (by rw [all_len]; exact Nat.mul_le_mul_right _ hi), all_take]
    rw [eA] at H1
    have hAl : (cRc.all (xs.take i)).length = i * cRc.sz := by rw [all_len, List.length_take, Nat.min_eq_left hi]
    have hZl : (cRc.all (xs.take i) ++ Z).length = cap' * cRc.sz := by rw [List.length_append, hAl, hZ, ← Nat.add_mul]; congr 1; omega
    refine pv_of (slFrom (sz := cRc.sz) (by omega) (by omega) (by omega)) ?_
    refine copy_h elRc H1 0 rfl (by rw [hZl, Nat.zero_add, ← Nat.add_mul]; exact Nat.mul_le_mul_right _ (by omega)) (hsrc2 _ (by simp)) all_sc fun w2 H2 => ?_
    rw [hone _ (by omega), Nat.zero_add, List.set_cons_zero] at H2
    refine drew_k H2 fun w3 H3 => ?_
    refine add_k (z := ((i + 1 : Nat) : Int)) (by omega) (by omega) (by omega) ?_
    refine pv_of (slFrom (sz := cRc.sz) (by omega) (by omega) (by omega)) ?_
    refine pv_of (slFrom (sz := cRc.sz) (by omega) (by omega) (by omega)) ?_
    have hll : (lay (cRc.all (xs.take i) ++ Z) (i * cRc.sz) (cRc.enc x)).length = cap' * cRc.sz := by
      rw [lay_len (by rw [hX, hZl, ← Nat.succ_mul]; exact Nat.mul_le_mul_right _ (show i.succ ≤ cap' from by omega)), hZl]
    refine copy_h' elRc H3 0 rfl (by rw [hll, Nat.zero_add, ← Nat.add_mul]; exact Nat.mul_le_mul_right _ (by omega)) (RdL.mono ((hmid (xs.length - i) (cap - i) (Nat.le_refl _) (by omega)).resolve_right (by rw [hcl, Nat.zero_add, ← Nat.add_mul]; simp only [Decidable.not_not]; exact Nat.mul_le_mul_right _ (by omega))) (by intro c hc; obtain rfl := List.mem_singleton.1 hc; simp)) (by rw [show min (xs.length - i) (xs.length + 1 - (i + 1)) = xs.length - i from by omega, htk _ (Nat.le_refl _)]; exact all_sc) fun w4 H4 => ?_
    rw [show min (xs.length - i) (xs.length + 1 - (i + 1)) = xs.length - i from by omega, htk _ (Nat.le_refl _), Nat.zero_add, List.set_cons_zero, insB hi (by rw [hZ]; exact Nat.mul_le_mul_right _ (by omega))] at H4
    refine ⟨_, _, rfl, ?_, hfin cap' (Z.drop ((1 + (xs.length - i)) * cRc.sz)) b' hc1 (by rw [List.length_drop, hZ, ← Nat.sub_mul]; congr 1; omega)⟩
    exact H4.re
  · unfold F134_j9
    simp only [W0]
    unfold F134_j3
    refine add_k (z := ((xs.length + 1 : Nat) : Int)) (by omega) (by omega) (by omega) ?_
    refine pv_of (slTo (sz := cRc.sz) (by omega)) ?_
    unfold F134_j5
    refine add_k (z := ((i + 1 : Nat) : Int)) (by omega) (by omega) (by omega) ?_
    refine pv_of (slFrom (sz := cRc.sz) (by omega) (by omega) (by omega)) ?_
    refine ovl_h (fn := Tryz.f161) (tS := 100) (tR := 4) (size := 4) (by kernel_rfl) (by kernel_rfl) (by kernel_rfl) (by kernel_rfl) (by kernel_rfl) (by kernel_rfl) elRc.under (fun w => by
      have hsz' : szO Pg 107 = some 4 := by kernel_rfl
      exact run_sizeOf' hsz') H (Has.cons Has.here) Has.here hne (by intro h0; rw [h0, List.length_nil] at hcl; have := Nat.mul_pos (show 0 < cap by omega) (show 0 < cRc.sz by decide); omega) ?_
    simp only [W0]
    unfold F134_j6
    simp only [W0]
    unfold F134_j7
    refine drew_k H fun w1 H1 => ?_
    refine add_k (z := ((i + 1 : Nat) : Int)) (by omega) (by omega) (by omega) ?_
    refine pv_of (slFrom (sz := cRc.sz) (by omega) (by omega) (by omega)) ?_
    refine pv_of (slFrom (sz := cRc.sz) (by omega) (by omega) (by omega)) ?_
    have emn : min (xs.length + 1 - i) (xs.length + 1 - (i + 1)) = xs.length - i := by omega
    refine copy_h' elRc H1 0 rfl (by rw [hcl, Nat.zero_add, ← Nat.add_mul]; exact Nat.mul_le_mul_right _ (by omega)) (RdL.mono ((hmid (xs.length + 1 - i) (cap - i) (by omega) (by omega)).resolve_right (by rw [hcl, Nat.zero_add, ← Nat.add_mul]; simp only [Decidable.not_not]; exact Nat.mul_le_mul_right _ (by omega))) (by intro c hc; obtain rfl := List.mem_singleton.1 hc; simp)) (by rw [emn, htk _ (by omega)]; exact all_sc) fun w2 H2 => ?_
    rw [emn, htk _ (by omega), Nat.zero_add, List.set_cons_zero] at H2
    refine pv_of (slFrom (sz := cRc.sz) (by omega) (by omega) (by omega)) ?_
    have hll : (lay (cRc.all xs ++ rest) ((i + 1) * cRc.sz) (cRc.all (xs.drop i))).length = cap * cRc.sz := by
      rw [lay_len (by rw [hcl, all_len, List.length_drop, ← Nat.add_mul]; exact Nat.mul_le_mul_right _ (by omega)), hcl]
    refine copy_h elRc H2 0 rfl (by rw [hll, Nat.zero_add, ← Nat.add_mul]; exact Nat.mul_le_mul_right _ (by omega)) (hsrc2 _ (by simp)) all_sc fun w3 H3 => ?_
    rw [hone _ (by omega), Nat.zero_add, List.set_cons_zero, insC hi (by rw [hrest]; exact Nat.le_trans (by rw [Nat.one_mul]; exact Nat.le_refl _) (Nat.mul_le_mul_right _ (show 1 ≤ cap - xs.length by omega)))] at H3
    refine ⟨_, _, rfl, ?_, hfin cap _ b (by omega) (by rw [List.length_drop, hrest, ← Nat.sub_one_mul, Nat.sub_sub])⟩
    exact H3.re
end
end Go.Proofs.YtmkcjopacmadhaaGreat.Den
