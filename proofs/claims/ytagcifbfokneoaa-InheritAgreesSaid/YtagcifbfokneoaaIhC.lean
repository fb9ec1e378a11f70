/- Inherit: the reference's effective priorities, walked. Conditions: none. -/
import Derived.Test.YtagcifbfokneoaaIhP
set_option linter.unusedVariables false
set_option linter.unusedSimpArgs false
set_option maxRecDepth 8000
namespace Go.Proofs.Ytagcifbfokneoaa.Den
open Go Go.RowKit
def ofN (e : Nat × Nat) : Int × Int := ((e.1 : Int), (e.2 : Int))
def toN (e : Int × Int) : Nat × Nat := (e.1.toNat, e.2.toNat)
section
variable {w w' w0 : World} {L L' F cs cs2 : List Chunk} {s s2 sb se : Value} {K : VK} {R : ER} {base : List Int} {es : List (Int × Int)} {E : List (Nat × Nat)}
theorem chk_ok (h : chk base es = 0) : base.length ≤ 256 ∧ es.length ≤ 2000 ∧ (∀ b ∈ base, 0 ≤ b ∧ b ≤ 255) ∧ es = (es.map toN).map ofN ∧ Valid (es.map toN) base.length ∧ (es.map toN).Nodup := by
  unfold chk at h
  split at h
  · simp at h
  rename_i h1
  split at h
  · simp at h
  rename_i h2
  split at h
  · simp at h
  rename_i h3
  split at h
  · simp at h
  rename_i h4
  have hin : ∀ e ∈ es, (0 ≤ e.1 ∧ e.1 < base.length) ∧ (0 ≤ e.2 ∧ e.2 < base.length) := by
    intro e he
    exact ⟨Decidable.byContradiction fun hc => h3 ⟨e, he, .inl (by rw [inR, decide_eq_false hc])⟩, Decidable.byContradiction fun hc => h3 ⟨e, he, .inr (by rw [inR, decide_eq_false hc])⟩⟩
  have hmap : es = (es.map toN).map ofN := by
    rw [List.map_map]
    conv => lhs; rw [← List.map_id es]
    apply List.map_congr_left
    rintro ⟨a, b⟩ he
    have := hin _ he
    simp only [id, Function.comp, toN, ofN, Prod.mk.injEq] at *
    omega
  refine ⟨by omega, by omega, fun b hb => ?_, hmap, ?_, ?_⟩
  · have : ¬ (b < 0 ∨ 255 < b) := fun hx => h2 ⟨b, hb, hx⟩
    omega
  · intro e he
    obtain ⟨x, hx, rfl⟩ := List.mem_map.1 he
    have := hin x hx
    simp only [toN]; omega
  · have h4' : es.Nodup := Decidable.not_not.1 h4
    rw [hmap] at h4'
    exact (List.pairwise_map.1 h4').imp fun hne h => hne (by rw [h])
theorem toCN (h : TR cE w0 cs s (E.map ofN)) : TR cN w0 cs s E := h.recode rfl (by simp) (by simp [Cod.all, List.map_map]; rfl)
theorem al39 (H : Hp w0 w L) (k : ∀ w' b, Hp w0 w' (⟨b, 39, [I 0, I 0]⟩ :: L) → K (ptr b 0) w') : al Pg 39 K w := al_m H (by kernel_rfl) k
theorem Values_spec (h1 : TR cI w0 cs sb base) (h2 : TR cN w0 cs2 se E) (H : Hp w0 w L) (m1 : ∀ c ∈ cs, c ∈ L) (m2 : ∀ c ∈ cs2, c ∈ L) (hb : ∀ x ∈ base, 0 ≤ x ∧ x ≤ 255) (hV : Valid E base.length) (hl : base.length ≤ 256) (hel : E.length ≤ 4000) :
    Calls Pg 34 ⟨[.agg ⟨[sb, se]⟩]⟩ w fun x w' => ∃ s cs out, x = .returned s ∧ Hp w0 w' (cs ++ L) ∧ TS cI 3 s out cs ∧ IsEff base E out := by
  apply F34_calls
  unfold F34
  refine bx_m H fun w b H => ?_
  refine lit0_t elI H fun w s0 H hs0 => ?_
  repeat (first | simp only [cI_enc, cE_enc, cN_enc, W0] | refine lss_a ?_ | refine lss_b ?_ | refine gtr_a ?_ | refine gtr_b ?_ | refine geq_a ?_ | refine geq_b ?_ | refine leq_a ?_ | refine leq_b ?_ | refine eql_a ?_ | refine eql_b ?_ | refine neq_a ?_ | refine neq_b ?_ | refine add_a ?_ | refine sub_a ?_ | refine ld_a ?_ | refine ldA_a ?_ | refine ldS_a ?_ | refine ldNS_a ?_ | refine rdA_s ?_ | refine rd1_s ?_ | refine drew_a fun w1 H1 => ?_ | refine st_a fun w1 H1 => ?_ | refine stA_a fun w1 H1 => ?_ | refine lenT_a ?_ | refine lenO_a ?_ | refine ixT_a ?_ | refine ixO_a ?_ | fail)
  refine append_t elI H hs0 spl h1 (by intro c hc; simp [m1 c hc]) (by simp; omega) (by simp; omega) fun w s0 cs0 H hs0 => ?_
  unfold F34_j2 F34_j3
  refine loop3 (F34_l2_succ _) (fun m x1 x3 x4 w => ∃ out s cs ch, x1 = ptr b 0 ∧ x3 = s ∧ x4 = .bool ch ∧ m = slack out + (if ch = true then 1 else 0) ∧ TS cI 3 s out cs ∧ Wk base E out ∧ (ch = false → ∀ e ∈ E, gt out e.1 ≤ gt out e.2) ∧ Hp w0 w (cs ++ (⟨b, 32, [sb, se]⟩ :: L))) ?_
    ⟨base, s0, cs0, true, rfl, rfl, rfl, rfl, hs0, Wk.start, by simp, H⟩
  rintro m k _ _ _ w ⟨out, s, cs1, ch, rfl, rfl, rfl, rfl, hs, hw, hc, H⟩ hk
  unfold F34_b1 F34_j1
  cases ch with
  | false =>
    repeat (first | simp only [cI_enc, cE_enc, cN_enc, W0] | refine lss_a ?_ | refine lss_b ?_ | refine gtr_a ?_ | refine gtr_b ?_ | refine geq_a ?_ | refine geq_b ?_ | refine leq_a ?_ | refine leq_b ?_ | refine eql_a ?_ | refine eql_b ?_ | refine neq_a ?_ | refine neq_b ?_ | refine add_a ?_ | refine sub_a ?_ | refine ld_a ?_ | refine ldA_a ?_ | refine ldS_a ?_ | refine ldNS_a ?_ | refine rdA_s ?_ | refine rd1_s ?_ | refine drew_a fun w1 H1 => ?_ | refine st_a fun w1 H1 => ?_ | refine stA_a fun w1 H1 => ?_ | refine lenT_a ?_ | refine lenO_a ?_ | refine ixT_a ?_ | refine ixO_a ?_ | fail)
    exact ⟨_, cs1, out, rfl, H.re, hs, hw.done (hc rfl)⟩
  | true =>
    repeat (first | simp only [cI_enc, cE_enc, cN_enc, W0] | refine lss_a ?_ | refine lss_b ?_ | refine gtr_a ?_ | refine gtr_b ?_ | refine geq_a ?_ | refine geq_b ?_ | refine leq_a ?_ | refine leq_b ?_ | refine eql_a ?_ | refine eql_b ?_ | refine neq_a ?_ | refine neq_b ?_ | refine add_a ?_ | refine sub_a ?_ | refine ld_a ?_ | refine ldA_a ?_ | refine ldS_a ?_ | refine ldNS_a ?_ | refine rdA_s ?_ | refine rd1_s ?_ | refine drew_a fun w1 H1 => ?_ | refine st_a fun w1 H1 => ?_ | refine stA_a fun w1 H1 => ?_ | refine lenT_a ?_ | refine lenO_a ?_ | refine ixT_a ?_ | refine ixO_a ?_ | fail)
    unfold F34_j4 F34_j5
    refine loop4 (F34_l1_succ _ _) (fun m x1 x3 x4 x5 w => ∃ out' s cs ch, ∃ i : Nat, x1 = ptr b 0 ∧ x3 = s ∧ x4 = .bool ch ∧ x5 = I i ∧ m + i = E.length ∧ TS cI 3 s out' cs ∧ Wk base E out' ∧ (ch = false → slack out' = slack out ∧ ∀ e ∈ E.take i, gt out' e.1 ≤ gt out' e.2) ∧ (ch = true → slack out' + 1 ≤ slack out) ∧ Hp w0 w (cs ++ (⟨b, 32, [sb, se]⟩ :: L))) ?_ (m := E.length)
      ⟨out, _, cs1, false, 0, rfl, rfl, rfl, rfl, rfl, hs, hw, by simp, by simp, H⟩
    clear hs hw hc H
    rintro n k2 _ _ _ _ w ⟨out', s, cs1, ch, i, rfl, rfl, rfl, rfl, hm, hs, hw, hf, ht, H⟩ hk2
    unfold F34_b2
    repeat (first | simp only [cI_enc, cE_enc, cN_enc, W0] | refine lss_a ?_ | refine lss_b ?_ | refine gtr_a ?_ | refine gtr_b ?_ | refine geq_a ?_ | refine geq_b ?_ | refine leq_a ?_ | refine leq_b ?_ | refine eql_a ?_ | refine eql_b ?_ | refine neq_a ?_ | refine neq_b ?_ | refine add_a ?_ | refine sub_a ?_ | refine ld_a ?_ | refine ldA_a ?_ | refine ldS_a ?_ | refine ldNS_a ?_ | refine rdA_s ?_ | refine rd1_s ?_ | refine drew_a fun w1 H1 => ?_ | refine st_a fun w1 H1 => ?_ | refine stA_a fun w1 H1 => ?_ | refine lenT_a ?_ | refine lenO_a ?_ | refine ixT_a ?_ | refine ixO_a ?_ | fail)
    refine lss_k (fun hi => ?_) (fun hi => ?_)
    · have hx : E[i]? = some E[i] := List.getElem?_eq_getElem (by omega)
      have hmem : E[i] ∈ E := List.getElem_mem _
      have hv := hV _ hmem
      generalize E[i] = e at hx hmem hv
      obtain ⟨a, c⟩ := e
      have ha : out'[a]? = some (gt out' a) := gt_some (by rw [hw.len]; exact hv.1)
      have hc : out'[c]? = some (gt out' c) := gt_some (by rw [hw.len]; exact hv.2)
      repeat (first | simp only [cI_enc, cE_enc, cN_enc, W0] | refine lss_a ?_ | refine lss_b ?_ | refine gtr_a ?_ | refine gtr_b ?_ | refine geq_a ?_ | refine geq_b ?_ | refine leq_a ?_ | refine leq_b ?_ | refine eql_a ?_ | refine eql_b ?_ | refine neq_a ?_ | refine neq_b ?_ | refine add_a ?_ | refine sub_a ?_ | refine ld_a ?_ | refine ldA_a ?_ | refine ldS_a ?_ | refine ldNS_a ?_ | refine rdA_s ?_ | refine rd1_s ?_ | refine drew_a fun w1 H1 => ?_ | refine st_a fun w1 H1 => ?_ | refine stA_a fun w1 H1 => ?_ | refine lenT_a ?_ | refine lenO_a ?_ | refine ixT_a ?_ | refine ixO_a ?_ | fail)
      try unfold F34_j6 F34_j8
      repeat (first | simp only [cI_enc, cE_enc, cN_enc, W0] | refine lss_a ?_ | refine lss_b ?_ | refine gtr_a ?_ | refine gtr_b ?_ | refine geq_a ?_ | refine geq_b ?_ | refine leq_a ?_ | refine leq_b ?_ | refine eql_a ?_ | refine eql_b ?_ | refine neq_a ?_ | refine neq_b ?_ | refine add_a ?_ | refine sub_a ?_ | refine ld_a ?_ | refine ldA_a ?_ | refine ldS_a ?_ | refine ldNS_a ?_ | refine rdA_s ?_ | refine rd1_s ?_ | refine drew_a fun w1 H1 => ?_ | refine st_a fun w1 H1 => ?_ | refine stA_a fun w1 H1 => ?_ | refine lenT_a ?_ | refine lenO_a ?_ | refine ixT_a ?_ | refine ixO_a ?_ | fail)
      refine ixN_t (C := cN) h2 H (by intro c hc; simp [m2 c hc]) hx (by decide) ?_
      refine al39 H fun w b2 H => ?_
      repeat (first | simp only [cI_enc, cE_enc, cN_enc, W0] | refine lss_a ?_ | refine lss_b ?_ | refine gtr_a ?_ | refine gtr_b ?_ | refine geq_a ?_ | refine geq_b ?_ | refine leq_a ?_ | refine leq_b ?_ | refine eql_a ?_ | refine eql_b ?_ | refine neq_a ?_ | refine neq_b ?_ | refine add_a ?_ | refine sub_a ?_ | refine ld_a ?_ | refine ldA_a ?_ | refine ldS_a ?_ | refine ldNS_a ?_ | refine rdA_s ?_ | refine rd1_s ?_ | refine drew_a fun w1 H1 => ?_ | refine st_a fun w1 H1 => ?_ | refine stA_a fun w1 H1 => ?_ | refine lenT_a ?_ | refine lenO_a ?_ | refine ixT_a ?_ | refine ixO_a ?_ | fail)
      have hle := hw.le (fun x hx => (hb x hx).2) hv.1
      refine gtr_k (fun hg => ?_) (fun hg => ?_)
      · repeat (first | simp only [cI_enc, cE_enc, cN_enc, W0] | refine lss_a ?_ | refine lss_b ?_ | refine gtr_a ?_ | refine gtr_b ?_ | refine geq_a ?_ | refine geq_b ?_ | refine leq_a ?_ | refine leq_b ?_ | refine eql_a ?_ | refine eql_b ?_ | refine neq_a ?_ | refine neq_b ?_ | refine add_a ?_ | refine sub_a ?_ | refine ld_a ?_ | refine ldA_a ?_ | refine ldS_a ?_ | refine ldNS_a ?_ | refine rdA_s ?_ | refine rd1_s ?_ | refine drew_a fun w1 H1 => ?_ | refine st_a fun w1 H1 => ?_ | refine stA_a fun w1 H1 => ?_ | refine lenT_a ?_ | refine lenO_a ?_ | refine ixT_a ?_ | refine ixO_a ?_ | fail)
        repeat (first | simp only [cI_enc, cE_enc, cN_enc, W0] | refine lss_a ?_ | refine lss_b ?_ | refine gtr_a ?_ | refine gtr_b ?_ | refine geq_a ?_ | refine geq_b ?_ | refine leq_a ?_ | refine leq_b ?_ | refine eql_a ?_ | refine eql_b ?_ | refine neq_a ?_ | refine neq_b ?_ | refine add_a ?_ | refine sub_a ?_ | refine ld_a ?_ | refine ldA_a ?_ | refine ldS_a ?_ | refine ldNS_a ?_ | refine rdA_s ?_ | refine rd1_s ?_ | refine drew_a fun w1 H1 => ?_ | refine st_a fun w1 H1 => ?_ | refine stA_a fun w1 H1 => ?_ | refine lenT_a ?_ | refine lenO_a ?_ | refine ixT_a ?_ | refine ixO_a ?_ | fail)
        refine ist1_t (C := cI) (x := gt out' a) hs (by assumption) spl (by rw [hw.len]; exact hv.2) rfl rfl fun w cs2 H hs' => ?_
        try unfold F34_j7
        repeat (first | simp only [cI_enc, cE_enc, cN_enc, W0] | refine lss_a ?_ | refine lss_b ?_ | refine gtr_a ?_ | refine gtr_b ?_ | refine geq_a ?_ | refine geq_b ?_ | refine leq_a ?_ | refine leq_b ?_ | refine eql_a ?_ | refine eql_b ?_ | refine neq_a ?_ | refine neq_b ?_ | refine add_a ?_ | refine sub_a ?_ | refine ld_a ?_ | refine ldA_a ?_ | refine ldS_a ?_ | refine ldNS_a ?_ | refine rdA_s ?_ | refine rd1_s ?_ | refine drew_a fun w1 H1 => ?_ | refine st_a fun w1 H1 => ?_ | refine stA_a fun w1 H1 => ?_ | refine lenT_a ?_ | refine lenO_a ?_ | refine ixT_a ?_ | refine ixO_a ?_ | fail)
        have hsl := slack_set (l := out') (i := c) (v := gt out' a) (by rw [hw.len]; exact hv.2) hg hle
        refine hk2 (n - 1) _ _ _ _ _ (by omega) ⟨_, _, cs2, true, i + 1, rfl, rfl, rfl, rfl, by omega, hs', hw.raise hV hmem (Int.le_of_lt hg), by simp, fun _ => ?_, H.re⟩
        cases ch with
        | false => have := (hf rfl).1; omega
        | true => have := ht rfl; omega
      · repeat (first | simp only [cI_enc, cE_enc, cN_enc, W0] | refine lss_a ?_ | refine lss_b ?_ | refine gtr_a ?_ | refine gtr_b ?_ | refine geq_a ?_ | refine geq_b ?_ | refine leq_a ?_ | refine leq_b ?_ | refine eql_a ?_ | refine eql_b ?_ | refine neq_a ?_ | refine neq_b ?_ | refine add_a ?_ | refine sub_a ?_ | refine ld_a ?_ | refine ldA_a ?_ | refine ldS_a ?_ | refine ldNS_a ?_ | refine rdA_s ?_ | refine rd1_s ?_ | refine drew_a fun w1 H1 => ?_ | refine st_a fun w1 H1 => ?_ | refine stA_a fun w1 H1 => ?_ | refine lenT_a ?_ | refine lenO_a ?_ | refine ixT_a ?_ | refine ixO_a ?_ | fail)
        try unfold F34_j7
        repeat (first | simp only [cI_enc, cE_enc, cN_enc, W0] | refine lss_a ?_ | refine lss_b ?_ | refine gtr_a ?_ | refine gtr_b ?_ | refine geq_a ?_ | refine geq_b ?_ | refine leq_a ?_ | refine leq_b ?_ | refine eql_a ?_ | refine eql_b ?_ | refine neq_a ?_ | refine neq_b ?_ | refine add_a ?_ | refine sub_a ?_ | refine ld_a ?_ | refine ldA_a ?_ | refine ldS_a ?_ | refine ldNS_a ?_ | refine rdA_s ?_ | refine rd1_s ?_ | refine drew_a fun w1 H1 => ?_ | refine st_a fun w1 H1 => ?_ | refine stA_a fun w1 H1 => ?_ | refine lenT_a ?_ | refine lenO_a ?_ | refine ixT_a ?_ | refine ixO_a ?_ | fail)
        have H9 : Hp w0 w1 (⟨b2, 39, [I a, I c]⟩ :: (cs1 ++ (⟨b, 32, [sb, se]⟩ :: L))) := by assumption
        refine hk2 (n - 1) _ _ _ _ _ (by omega) ⟨_, _, cs1, ch, i + 1, rfl, rfl, rfl, rfl, by omega, hs, hw, fun h => ⟨(hf h).1, ?_⟩, ht, H9.tail⟩
        rw [List.take_add_one, hx]
        intro x hx
        rcases List.mem_append.1 hx with hm | hm
        · exact (hf h).2 x hm
        · simp at hm; subst hm; exact Int.not_lt.1 hg
    · repeat (first | simp only [cI_enc, cE_enc, cN_enc, W0] | refine lss_a ?_ | refine lss_b ?_ | refine gtr_a ?_ | refine gtr_b ?_ | refine geq_a ?_ | refine geq_b ?_ | refine leq_a ?_ | refine leq_b ?_ | refine eql_a ?_ | refine eql_b ?_ | refine neq_a ?_ | refine neq_b ?_ | refine add_a ?_ | refine sub_a ?_ | refine ld_a ?_ | refine ldA_a ?_ | refine ldS_a ?_ | refine ldNS_a ?_ | refine rdA_s ?_ | refine rd1_s ?_ | refine drew_a fun w1 H1 => ?_ | refine st_a fun w1 H1 => ?_ | refine stA_a fun w1 H1 => ?_ | refine lenT_a ?_ | refine lenO_a ?_ | refine ixT_a ?_ | refine ixO_a ?_ | fail)
      refine hk (slack out' + (if ch = true then 1 else 0)) _ _ _ _ ?_ ⟨out', _, cs1, ch, rfl, rfl, rfl, rfl, hs, hw, fun h => ?_, H⟩
      · cases ch with
        | false => have := (hf rfl).1; simp; omega
        | true => have := ht rfl; simp; omega
      · have := (hf h).2
        rw [List.take_of_length_le (by omega)] at this
        exact this
theorem rEffective_spec (h1 : TR cI w0 cs sb base) (h2 : TR cE w0 cs2 se es) (H : Hp w0 w L) (m1 : ∀ c ∈ cs, c ∈ L) (m2 : ∀ c ∈ cs2, c ∈ L) :
    Calls Pg 14 ⟨[.agg ⟨[sb, se]⟩]⟩ w fun x w' => (chk base es ≠ 0 ∧ x = .returned (.tuple ⟨[.slice none 0 0, I (chk base es)]⟩) ∧ Hp w0 w' L) ∨
      (chk base es = 0 ∧ ∃ s cs out, x = .returned (.tuple ⟨[s, I 0]⟩) ∧ Hp w0 w' (cs ++ L) ∧ TS cI 3 s out cs ∧ IsEff base (es.map toN) out) := by
  apply F14_calls
  unfold F14
  refine bx_m H fun w b H => ?_
  repeat (first | simp only [cI_enc, cE_enc, cN_enc, W0] | refine lss_a ?_ | refine lss_b ?_ | refine gtr_a ?_ | refine gtr_b ?_ | refine geq_a ?_ | refine geq_b ?_ | refine leq_a ?_ | refine leq_b ?_ | refine eql_a ?_ | refine eql_b ?_ | refine neq_a ?_ | refine neq_b ?_ | refine add_a ?_ | refine sub_a ?_ | refine ld_a ?_ | refine ldA_a ?_ | refine ldS_a ?_ | refine ldNS_a ?_ | refine rdA_s ?_ | refine rd1_s ?_ | refine drew_a fun w1 H1 => ?_ | refine st_a fun w1 H1 => ?_ | refine stA_a fun w1 H1 => ?_ | refine lenT_a ?_ | refine lenO_a ?_ | refine ixT_a ?_ | refine ixO_a ?_ | fail)
  refine cal_h (rCheck_spec h1 h2 H (by intro c hc; simp [m1 c hc]) (by intro c hc; simp [m2 c hc])) ?_
  rintro _ w ⟨rfl, H⟩
  simp only [ret_k]
  refine neq_k (fun h => ?_) (fun h => ?_)
  · repeat (first | simp only [cI_enc, cE_enc, cN_enc, W0] | refine lss_a ?_ | refine lss_b ?_ | refine gtr_a ?_ | refine gtr_b ?_ | refine geq_a ?_ | refine geq_b ?_ | refine leq_a ?_ | refine leq_b ?_ | refine eql_a ?_ | refine eql_b ?_ | refine neq_a ?_ | refine neq_b ?_ | refine add_a ?_ | refine sub_a ?_ | refine ld_a ?_ | refine ldA_a ?_ | refine ldS_a ?_ | refine ldNS_a ?_ | refine rdA_s ?_ | refine rd1_s ?_ | refine drew_a fun w1 H1 => ?_ | refine st_a fun w1 H1 => ?_ | refine stA_a fun w1 H1 => ?_ | refine lenT_a ?_ | refine lenO_a ?_ | refine ixT_a ?_ | refine ixO_a ?_ | fail)
    exact .inl ⟨h, (by first | rfl | trivial), H.tail⟩
  · repeat (first | simp only [cI_enc, cE_enc, cN_enc, W0] | refine lss_a ?_ | refine lss_b ?_ | refine gtr_a ?_ | refine gtr_b ?_ | refine geq_a ?_ | refine geq_b ?_ | refine leq_a ?_ | refine leq_b ?_ | refine eql_a ?_ | refine eql_b ?_ | refine neq_a ?_ | refine neq_b ?_ | refine add_a ?_ | refine sub_a ?_ | refine ld_a ?_ | refine ldA_a ?_ | refine ldS_a ?_ | refine ldNS_a ?_ | refine rdA_s ?_ | refine rd1_s ?_ | refine drew_a fun w1 H1 => ?_ | refine st_a fun w1 H1 => ?_ | refine stA_a fun w1 H1 => ?_ | refine lenT_a ?_ | refine lenO_a ?_ | refine ixT_a ?_ | refine ixO_a ?_ | fail)
    obtain ⟨c1, c2, c3, c4, c5, c6⟩ := chk_ok h
    rw [c4] at h2
    refine cal_h (Values_spec h1 (toCN h2) H (by intro c hc; simp [m1 c hc]) (by intro c hc; simp [m2 c hc]) c3 c5 c1 (by simp; omega)) ?_
    rintro _ w ⟨s, cs, out, rfl, H, hs, he⟩
    exact .inr ⟨h, s, cs, out, rfl, H.re, hs, he⟩
end
end Go.Proofs.Ytagcifbfokneoaa.Den
