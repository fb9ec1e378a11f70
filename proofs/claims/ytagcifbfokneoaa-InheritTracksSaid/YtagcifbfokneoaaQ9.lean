/- Inherit: Effective, Reason of the program. Conditions: none. -/
import Derived.Test.YtagcifbfokneoaaQ8
section
set_option linter.unusedVariables false
set_option linter.unusedSimpArgs false
set_option maxRecDepth 8000
set_option maxHeartbeats 1000000
namespace Go.Proofs.Ytagcifbfokneoaa.Den
open Go Go.RowKit
section
variable {w w' w0 : World} {L L' F cs cs2 cs3 : List Chunk} {s s2 sb se sd : Value} {K : VK} {R : ER} {base d out : List Int} {E E' : List (Nat × Nat)} {es : List (Int × Int)} {n to i u x : Nat} {l : List Nat}
theorem Effective_spec (h1 : TR cI w0 cs sb base) (h2 : TR cE w0 cs2 se es) (H : Hp w0 w L) (m1 : ∀ c ∈ cs, c ∈ L) (m2 : ∀ c ∈ cs2, c ∈ L) :
    Calls Pg 13 ⟨[.agg ⟨[sb, se]⟩]⟩ w fun x w' => (chk base es ≠ 0 ∧ x = .returned (.tuple ⟨[.slice none 0 0, I (chk base es)]⟩) ∧ Hp w0 w' L) ∨
      (chk base es = 0 ∧ ∃ s cs out, x = .returned (.tuple ⟨[s, I 0]⟩) ∧ Hp w0 w' (cs ++ L) ∧ TS cI 3 s out cs ∧ IsEff base (es.map toN) out) := by
  apply F13_calls
  unfold F13
  refine bx_m H fun w b H => ?_
  repeat (first | simp only [cI_enc, cE_enc, cN_enc, W0] | refine lss_a ?_ | refine lss_b ?_ | refine gtr_a ?_ | refine gtr_b ?_ | refine geq_a ?_ | refine geq_b ?_ | refine leq_a ?_ | refine leq_b ?_ | refine eql_a ?_ | refine eql_b ?_ | refine neq_a ?_ | refine neq_b ?_ | refine add_a ?_ | refine sub_a ?_ | refine ld_a ?_ | refine ldA_a ?_ | refine ldS_a ?_ | refine ldNS_a ?_ | refine rdA_s ?_ | refine rd1_s ?_ | refine drew_a fun w1 H1 => ?_ | refine st_a fun w1 H1 => ?_ | refine stA_a fun w1 H1 => ?_ | refine lenT_a ?_ | refine lenO_a ?_ | refine ixT_a ?_ | refine ixO_a ?_ | fail)
  refine cal_h (Check_spec h1 h2 H csub csub) ?_
  rintro _ w ⟨rfl, H⟩
  simp only [ret_k]
  refine neq_k (fun h => ?_) (fun h => ?_)
  · repeat (first | simp only [cI_enc, cE_enc, cN_enc, W0] | refine lss_a ?_ | refine lss_b ?_ | refine gtr_a ?_ | refine gtr_b ?_ | refine geq_a ?_ | refine geq_b ?_ | refine leq_a ?_ | refine leq_b ?_ | refine eql_a ?_ | refine eql_b ?_ | refine neq_a ?_ | refine neq_b ?_ | refine add_a ?_ | refine sub_a ?_ | refine ld_a ?_ | refine ldA_a ?_ | refine ldS_a ?_ | refine ldNS_a ?_ | refine rdA_s ?_ | refine rd1_s ?_ | refine drew_a fun w1 H1 => ?_ | refine st_a fun w1 H1 => ?_ | refine stA_a fun w1 H1 => ?_ | refine lenT_a ?_ | refine lenO_a ?_ | refine ixT_a ?_ | refine ixO_a ?_ | fail)
    exact .inl ⟨h, (by first | rfl | trivial), H.tail⟩
  · repeat (first | simp only [cI_enc, cE_enc, cN_enc, W0] | refine lss_a ?_ | refine lss_b ?_ | refine gtr_a ?_ | refine gtr_b ?_ | refine geq_a ?_ | refine geq_b ?_ | refine leq_a ?_ | refine leq_b ?_ | refine eql_a ?_ | refine eql_b ?_ | refine neq_a ?_ | refine neq_b ?_ | refine add_a ?_ | refine sub_a ?_ | refine ld_a ?_ | refine ldA_a ?_ | refine ldS_a ?_ | refine ldNS_a ?_ | refine rdA_s ?_ | refine rd1_s ?_ | refine drew_a fun w1 H1 => ?_ | refine st_a fun w1 H1 => ?_ | refine stA_a fun w1 H1 => ?_ | refine lenT_a ?_ | refine lenO_a ?_ | refine ixT_a ?_ | refine ixO_a ?_ | fail)
    obtain ⟨c1, c2, c3, c4, c5, c6⟩ := chk_ok h
    rw [c4] at h2
    refine cal_h (eff_spec h1 (toCN h2) H csub csub c3 c5 c1 (by simp; omega) c6) ?_
    rintro _ w ⟨s, cs, out, rfl, H, hs, he⟩
    exact .inr ⟨h, s, cs, out, rfl, H.re, hs, he⟩
theorem zero_self (hD : IsD E n to (gt d)) (hu : u < n) (h : gt d u = 0) : u = to := by
  obtain ⟨k, ek, p⟩ := hD.ex u hu (by omega)
  obtain rfl : k = 0 := by omega
  cases p; rfl
theorem self_zero (hD : IsD E n to (gt d)) (ht : to < n) : gt d to = 0 := by
  have := hD.le to ht 0 (.zero _)
  omega
theorem Reason_spec {t : Int} (h1 : TR cI w0 cs sb base) (h2 : TR cE w0 cs2 se es) (H : Hp w0 w L) (m1 : ∀ c ∈ cs, c ∈ L) (m2 : ∀ c ∈ cs2, c ∈ L) :
    Calls Pg 19 ⟨[.agg ⟨[sb, se]⟩, I t]⟩ w (ReasonQ base es t w0 L) := by
  apply F19_calls
  unfold F19
  refine bx_m H fun w b H => ?_
  repeat (first | simp only [cI_enc, cE_enc, cN_enc, W0] | refine lss_a ?_ | refine lss_b ?_ | refine gtr_a ?_ | refine gtr_b ?_ | refine geq_a ?_ | refine geq_b ?_ | refine leq_a ?_ | refine leq_b ?_ | refine eql_a ?_ | refine eql_b ?_ | refine neq_a ?_ | refine neq_b ?_ | refine add_a ?_ | refine sub_a ?_ | refine ld_a ?_ | refine ldA_a ?_ | refine ldS_a ?_ | refine ldNS_a ?_ | refine rdA_s ?_ | refine rd1_s ?_ | refine drew_a fun w1 H1 => ?_ | refine st_a fun w1 H1 => ?_ | refine stA_a fun w1 H1 => ?_ | refine lenT_a ?_ | refine lenO_a ?_ | refine ixT_a ?_ | refine ixO_a ?_ | fail)
  refine cal_h (Check_spec h1 h2 H csub csub) ?_
  rintro _ w ⟨rfl, H⟩
  simp only [ret_k]
  refine neq_k (fun h => ?_) (fun h => ?_)
  · repeat (first | simp only [cI_enc, cE_enc, cN_enc, W0] | refine lss_a ?_ | refine lss_b ?_ | refine gtr_a ?_ | refine gtr_b ?_ | refine geq_a ?_ | refine geq_b ?_ | refine leq_a ?_ | refine leq_b ?_ | refine eql_a ?_ | refine eql_b ?_ | refine neq_a ?_ | refine neq_b ?_ | refine add_a ?_ | refine sub_a ?_ | refine ld_a ?_ | refine ldA_a ?_ | refine ldS_a ?_ | refine ldNS_a ?_ | refine rdA_s ?_ | refine rd1_s ?_ | refine drew_a fun w1 H1 => ?_ | refine st_a fun w1 H1 => ?_ | refine stA_a fun w1 H1 => ?_ | refine lenT_a ?_ | refine lenO_a ?_ | refine ixT_a ?_ | refine ixO_a ?_ | fail)
    exact .inl ⟨h, (by first | rfl | trivial), H.tail⟩
  repeat (first | simp only [cI_enc, cE_enc, cN_enc, W0] | refine lss_a ?_ | refine lss_b ?_ | refine gtr_a ?_ | refine gtr_b ?_ | refine geq_a ?_ | refine geq_b ?_ | refine leq_a ?_ | refine leq_b ?_ | refine eql_a ?_ | refine eql_b ?_ | refine neq_a ?_ | refine neq_b ?_ | refine add_a ?_ | refine sub_a ?_ | refine ld_a ?_ | refine ldA_a ?_ | refine ldS_a ?_ | refine ldNS_a ?_ | refine rdA_s ?_ | refine rd1_s ?_ | refine drew_a fun w1 H1 => ?_ | refine st_a fun w1 H1 => ?_ | refine stA_a fun w1 H1 => ?_ | refine lenT_a ?_ | refine lenO_a ?_ | refine ixT_a ?_ | refine ixO_a ?_ | fail)
  obtain ⟨c1, c2, c3, c4, c5, c6⟩ := chk_ok h
  have h2' := h2
  rw [c4] at h2'
  have h2' := toCN h2'
  have hel : (es.map toN).length ≤ 4000 := by simp; omega
  unfold F19_j1
  have bad : inR base.length t = false → ReasonQ base es t w0 L (.returned (.tuple ⟨[.slice none 0 0, .int .i64 34]⟩)) w := fun hin => .inr (.inl ⟨h, hin, rfl, H.tail⟩)
  refine lss_k (fun ht => ?_) (fun ht => ?_)
  · repeat (first | simp only [cI_enc, cE_enc, cN_enc, W0] | refine lss_a ?_ | refine lss_b ?_ | refine gtr_a ?_ | refine gtr_b ?_ | refine geq_a ?_ | refine geq_b ?_ | refine leq_a ?_ | refine leq_b ?_ | refine eql_a ?_ | refine eql_b ?_ | refine neq_a ?_ | refine neq_b ?_ | refine add_a ?_ | refine sub_a ?_ | refine ld_a ?_ | refine ldA_a ?_ | refine ldS_a ?_ | refine ldNS_a ?_ | refine rdA_s ?_ | refine rd1_s ?_ | refine drew_a fun w1 H1 => ?_ | refine st_a fun w1 H1 => ?_ | refine stA_a fun w1 H1 => ?_ | refine lenT_a ?_ | refine lenO_a ?_ | refine ixT_a ?_ | refine ixO_a ?_ | fail)
    exact bad (by rw [inR, decide_eq_false]; omega)
  repeat (first | simp only [cI_enc, cE_enc, cN_enc, W0] | refine lss_a ?_ | refine lss_b ?_ | refine gtr_a ?_ | refine gtr_b ?_ | refine geq_a ?_ | refine geq_b ?_ | refine leq_a ?_ | refine leq_b ?_ | refine eql_a ?_ | refine eql_b ?_ | refine neq_a ?_ | refine neq_b ?_ | refine add_a ?_ | refine sub_a ?_ | refine ld_a ?_ | refine ldA_a ?_ | refine ldS_a ?_ | refine ldNS_a ?_ | refine rdA_s ?_ | refine rd1_s ?_ | refine drew_a fun w1 H1 => ?_ | refine st_a fun w1 H1 => ?_ | refine stA_a fun w1 H1 => ?_ | refine lenT_a ?_ | refine lenO_a ?_ | refine ixT_a ?_ | refine ixO_a ?_ | fail)
  refine geq_k (fun ht2 => ?_) (fun ht2 => ?_)
  · repeat (first | simp only [cI_enc, cE_enc, cN_enc, W0] | refine lss_a ?_ | refine lss_b ?_ | refine gtr_a ?_ | refine gtr_b ?_ | refine geq_a ?_ | refine geq_b ?_ | refine leq_a ?_ | refine leq_b ?_ | refine eql_a ?_ | refine eql_b ?_ | refine neq_a ?_ | refine neq_b ?_ | refine add_a ?_ | refine sub_a ?_ | refine ld_a ?_ | refine ldA_a ?_ | refine ldS_a ?_ | refine ldNS_a ?_ | refine rdA_s ?_ | refine rd1_s ?_ | refine drew_a fun w1 H1 => ?_ | refine st_a fun w1 H1 => ?_ | refine stA_a fun w1 H1 => ?_ | refine lenT_a ?_ | refine lenO_a ?_ | refine ixT_a ?_ | refine ixO_a ?_ | fail)
    exact bad (by rw [inR, decide_eq_false]; omega)
  clear bad
  obtain ⟨n, rfl⟩ : ∃ n : Nat, t = n := ⟨t.toNat, by omega⟩
  have hn : n < base.length := by omega
  repeat (first | simp only [cI_enc, cE_enc, cN_enc, W0] | refine lss_a ?_ | refine lss_b ?_ | refine gtr_a ?_ | refine gtr_b ?_ | refine geq_a ?_ | refine geq_b ?_ | refine leq_a ?_ | refine leq_b ?_ | refine eql_a ?_ | refine eql_b ?_ | refine neq_a ?_ | refine neq_b ?_ | refine add_a ?_ | refine sub_a ?_ | refine ld_a ?_ | refine ldA_a ?_ | refine ldS_a ?_ | refine ldNS_a ?_ | refine rdA_s ?_ | refine rd1_s ?_ | refine drew_a fun w1 H1 => ?_ | refine st_a fun w1 H1 => ?_ | refine stA_a fun w1 H1 => ?_ | refine lenT_a ?_ | refine lenO_a ?_ | refine ixT_a ?_ | refine ixO_a ?_ | fail)
  refine cal_h (eff_spec h1 h2' (by assumption) csub csub c3 c5 c1 hel c6) ?_
  rintro _ w ⟨so, cso, out, rfl, H, hso, ho⟩
  have hxn : out[n]? = some (gt out n) := gt_some (by rw [ho.len]; exact hn)
  repeat (first | simp only [cI_enc, cE_enc, cN_enc, W0] | refine lss_a ?_ | refine lss_b ?_ | refine gtr_a ?_ | refine gtr_b ?_ | refine geq_a ?_ | refine geq_b ?_ | refine leq_a ?_ | refine leq_b ?_ | refine eql_a ?_ | refine eql_b ?_ | refine neq_a ?_ | refine neq_b ?_ | refine add_a ?_ | refine sub_a ?_ | refine ld_a ?_ | refine ldA_a ?_ | refine ldS_a ?_ | refine ldNS_a ?_ | refine rdA_s ?_ | refine rd1_s ?_ | refine drew_a fun w1 H1 => ?_ | refine st_a fun w1 H1 => ?_ | refine stA_a fun w1 H1 => ?_ | refine lenT_a ?_ | refine lenO_a ?_ | refine ixT_a ?_ | refine ixO_a ?_ | fail)
  refine ix1p_t (C := cI) (TS.tr hso) H csub hxn rfl rfl fun a8 e8 hat => ?_
  repeat (first | simp only [cI_enc, cE_enc, cN_enc, W0] | refine lss_a ?_ | refine lss_b ?_ | refine gtr_a ?_ | refine gtr_b ?_ | refine geq_a ?_ | refine geq_b ?_ | refine leq_a ?_ | refine leq_b ?_ | refine eql_a ?_ | refine eql_b ?_ | refine neq_a ?_ | refine neq_b ?_ | refine add_a ?_ | refine sub_a ?_ | refine ld_a ?_ | refine ldA_a ?_ | refine ldS_a ?_ | refine ldNS_a ?_ | refine rdA_s ?_ | refine rd1_s ?_ | refine drew_a fun w1 H1 => ?_ | refine st_a fun w1 H1 => ?_ | refine stA_a fun w1 H1 => ?_ | refine lenT_a ?_ | refine lenO_a ?_ | refine ixT_a ?_ | refine ixO_a ?_ | fail)
  refine cal_h (waiters_spec h1 h2' (by assumption) csub csub c5 c1 hel c6) ?_
  rintro _ w ⟨sw, cw, E', rfl, H, hw, _, hE'⟩
  subst hE'
  simp only [ret_k]
  refine rd1_a (hat _ _ H csub) ?_
  repeat (first | simp only [cI_enc, cE_enc, cN_enc, W0] | refine lss_a ?_ | refine lss_b ?_ | refine gtr_a ?_ | refine gtr_b ?_ | refine geq_a ?_ | refine geq_b ?_ | refine leq_a ?_ | refine leq_b ?_ | refine eql_a ?_ | refine eql_b ?_ | refine neq_a ?_ | refine neq_b ?_ | refine add_a ?_ | refine sub_a ?_ | refine ld_a ?_ | refine ldA_a ?_ | refine ldS_a ?_ | refine ldNS_a ?_ | refine rdA_s ?_ | refine rd1_s ?_ | refine drew_a fun w1 H1 => ?_ | refine st_a fun w1 H1 => ?_ | refine stA_a fun w1 H1 => ?_ | refine lenT_a ?_ | refine lenO_a ?_ | refine ixT_a ?_ | refine ixO_a ?_ | fail)
  refine cal_h (dist_spec (css := []) hw H (by intro c hc; rw [List.mem_append]; exact .inl hc) c5 c1 hel hn) ?_
  rintro _ w ⟨sd, csd, d, rfl, H, hsd, hdl, hD⟩
  simp only [ret_k]
  refine rd1_a (hat _ _ H csub) ?_
  have hE : ∀ u, u < base.length → gt d u = dst (es.map toN) n u := fun u hu => hD.eq hu
  have hdn := self_zero hD hn
  have hbn : base[n]? = some (gt base n) := gt_some hn
  have hdn' : d[n]? = some (gt d n) := gt_some (by omega)
  unfold F19_j4
  repeat (first | simp only [cI_enc, cE_enc, cN_enc, W0] | refine lss_a ?_ | refine lss_b ?_ | refine gtr_a ?_ | refine gtr_b ?_ | refine geq_a ?_ | refine geq_b ?_ | refine leq_a ?_ | refine leq_b ?_ | refine eql_a ?_ | refine eql_b ?_ | refine neq_a ?_ | refine neq_b ?_ | refine add_a ?_ | refine sub_a ?_ | refine ld_a ?_ | refine ldA_a ?_ | refine ldS_a ?_ | refine ldNS_a ?_ | refine rdA_s ?_ | refine rd1_s ?_ | refine drew_a fun w1 H1 => ?_ | refine st_a fun w1 H1 => ?_ | refine stA_a fun w1 H1 => ?_ | refine lenT_a ?_ | refine lenO_a ?_ | refine ixT_a ?_ | refine ixO_a ?_ | fail)
  rw [hdl]
  have H : Hp w0 w (csd ++ (⟨b, 25, [sb, se]⟩ :: L)) := H.re
  unfold F19_j5
  refine loop7 (F19_l1_succ _) (fun m x2 x7 x8 x9 x36 x37 x38 w => ∃ i fr : Nat, x2 = ptr b 0 ∧ x7 = I (gt out n) ∧ x8 = sd ∧ x9 = I fr ∧ x36 = sd ∧ x37 = I (base.length : Int) ∧ x38 = I i ∧ m + i = base.length ∧ Hp w0 w (csd ++ (⟨b, 25, [sb, se]⟩ :: L)) ∧
      ((gt base n = gt out n ∧ fr = n) ∨ (gt base n ≠ gt out n ∧ fr = n ∧ ∀ u, u < i → 0 ≤ gt d u → ¬ gt base u = gt out n) ∨ (gt base n ≠ gt out n ∧ Best (gt d) (fun u => gt base u = gt out n) i fr))) ?_ (m := base.length)
    ⟨0, n, rfl, rfl, rfl, rfl, rfl, rfl, rfl, rfl, H, by
      by_cases hq : gt base n = gt out n
      · exact .inl ⟨hq, rfl⟩
      · exact .inr (.inl ⟨hq, rfl, by intro u hu; omega⟩)⟩
  clear H
  rintro m k _ _ _ _ sd _ _ w ⟨i, fr, rfl, rfl, rfl, rfl, rfl, rfl, rfl, hm, H, hb⟩ hk
  have hfr : fr < base.length := by
    rcases hb with ⟨_, rfl⟩ | ⟨_, rfl, _⟩ | ⟨_, hb⟩
    · exact hn
    · exact hn
    · have := hb.lt; omega
  unfold F19_b1
  refine lss_k (fun hi => ?_) (fun hi => ?_)
  · have hxd : d[i]? = some (gt d i) := gt_some (by omega)
    have hxb : base[i]? = some (gt base i) := gt_some (by omega)
    have hfd : d[fr]? = some (gt d fr) := gt_some (by omega)
    have hfb : base[fr]? = some (gt base fr) := gt_some hfr
    unfold F19_j6 F19_j8
    repeat (first | simp only [cI_enc, cE_enc, cN_enc, W0] | refine lss_a ?_ | refine lss_b ?_ | refine gtr_a ?_ | refine gtr_b ?_ | refine geq_a ?_ | refine geq_b ?_ | refine leq_a ?_ | refine leq_b ?_ | refine eql_a ?_ | refine eql_b ?_ | refine neq_a ?_ | refine neq_b ?_ | refine add_a ?_ | refine sub_a ?_ | refine ld_a ?_ | refine ldA_a ?_ | refine ldS_a ?_ | refine ldNS_a ?_ | refine rdA_s ?_ | refine rd1_s ?_ | refine drew_a fun w1 H1 => ?_ | refine st_a fun w1 H1 => ?_ | refine stA_a fun w1 H1 => ?_ | refine lenT_a ?_ | refine lenO_a ?_ | refine ixT_a ?_ | refine ixO_a ?_ | fail)
    have no : ∀ {w}, Hp w0 w (csd ++ (⟨b, 25, [sb, se]⟩ :: L)) → ((gt base n = gt out n ∧ fr = n) ∨ (gt base n ≠ gt out n ∧ fr = n ∧ ∀ u, u < i + 1 → 0 ≤ gt d u → ¬ gt base u = gt out n) ∨ (gt base n ≠ gt out n ∧ Best (gt d) (fun u => gt base u = gt out n) (i + 1) fr)) → k (ptr b 0) (I (gt out n)) sd (I fr) sd (I (base.length : Int)) (I ((i : Int) + 1)) w := by
      intro w H hh
      exact hk (m - 1) _ _ _ _ _ _ _ _ (by omega) ⟨i + 1, fr, rfl, rfl, rfl, rfl, rfl, rfl, rfl, by omega, H, hh⟩
    have yes : ∀ {w}, Hp w0 w (csd ++ (⟨b, 25, [sb, se]⟩ :: L)) → gt base n ≠ gt out n → Best (gt d) (fun u => gt base u = gt out n) (i + 1) i → k (ptr b 0) (I (gt out n)) sd (I i) sd (I (base.length : Int)) (I ((i : Int) + 1)) w := by
      intro w H h0 hh
      exact hk (m - 1) _ _ _ _ _ _ _ _ (by omega) ⟨i + 1, i, rfl, rfl, rfl, rfl, rfl, rfl, rfl, by omega, H, .inr (.inr ⟨h0, hh⟩)⟩
    refine geq_k (fun hg => ?_) (fun hg => ?_)
    · repeat (first | simp only [cI_enc, cE_enc, cN_enc, W0] | refine lss_a ?_ | refine lss_b ?_ | refine gtr_a ?_ | refine gtr_b ?_ | refine geq_a ?_ | refine geq_b ?_ | refine leq_a ?_ | refine leq_b ?_ | refine eql_a ?_ | refine eql_b ?_ | refine neq_a ?_ | refine neq_b ?_ | refine add_a ?_ | refine sub_a ?_ | refine ld_a ?_ | refine ldA_a ?_ | refine ldS_a ?_ | refine ldNS_a ?_ | refine rdA_s ?_ | refine rd1_s ?_ | refine drew_a fun w1 H1 => ?_ | refine st_a fun w1 H1 => ?_ | refine stA_a fun w1 H1 => ?_ | refine lenT_a ?_ | refine lenO_a ?_ | refine ixT_a ?_ | refine ixO_a ?_ | fail)
      refine eql_k (fun he => ?_) (fun he => ?_)
      · repeat (first | simp only [cI_enc, cE_enc, cN_enc, W0] | refine lss_a ?_ | refine lss_b ?_ | refine gtr_a ?_ | refine gtr_b ?_ | refine geq_a ?_ | refine geq_b ?_ | refine leq_a ?_ | refine leq_b ?_ | refine eql_a ?_ | refine eql_b ?_ | refine neq_a ?_ | refine neq_b ?_ | refine add_a ?_ | refine sub_a ?_ | refine ld_a ?_ | refine ldA_a ?_ | refine ldS_a ?_ | refine ldNS_a ?_ | refine rdA_s ?_ | refine rd1_s ?_ | refine drew_a fun w1 H1 => ?_ | refine st_a fun w1 H1 => ?_ | refine stA_a fun w1 H1 => ?_ | refine lenT_a ?_ | refine lenO_a ?_ | refine ixT_a ?_ | refine ixO_a ?_ | fail)
        rcases hb with ⟨ha, rfl⟩ | ⟨ha, rfl, hb⟩ | ⟨ha, hb⟩
        · repeat (first | simp only [cI_enc, cE_enc, cN_enc, W0] | refine lss_a ?_ | refine lss_b ?_ | refine gtr_a ?_ | refine gtr_b ?_ | refine geq_a ?_ | refine geq_b ?_ | refine leq_a ?_ | refine leq_b ?_ | refine eql_a ?_ | refine eql_b ?_ | refine neq_a ?_ | refine neq_b ?_ | refine add_a ?_ | refine sub_a ?_ | refine ld_a ?_ | refine ldA_a ?_ | refine ldS_a ?_ | refine ldNS_a ?_ | refine rdA_s ?_ | refine rd1_s ?_ | refine drew_a fun w1 H1 => ?_ | refine st_a fun w1 H1 => ?_ | refine stA_a fun w1 H1 => ?_ | refine lenT_a ?_ | refine lenO_a ?_ | refine ixT_a ?_ | refine ixO_a ?_ | fail)
          refine eql_k (fun hz => ?_) (fun hz => ?_)
          · have : i = fr := zero_self hD (by omega) (by omega)
            repeat (first | simp only [cI_enc, cE_enc, cN_enc, W0] | refine lss_a ?_ | refine lss_b ?_ | refine gtr_a ?_ | refine gtr_b ?_ | refine geq_a ?_ | refine geq_b ?_ | refine leq_a ?_ | refine leq_b ?_ | refine eql_a ?_ | refine eql_b ?_ | refine neq_a ?_ | refine neq_b ?_ | refine add_a ?_ | refine sub_a ?_ | refine ld_a ?_ | refine ldA_a ?_ | refine ldS_a ?_ | refine ldNS_a ?_ | refine rdA_s ?_ | refine rd1_s ?_ | refine drew_a fun w1 H1 => ?_ | refine st_a fun w1 H1 => ?_ | refine stA_a fun w1 H1 => ?_ | refine lenT_a ?_ | refine lenO_a ?_ | refine ixT_a ?_ | refine ixO_a ?_ | fail)
            exact no H (.inl ⟨ha, rfl⟩)
          · repeat (first | simp only [cI_enc, cE_enc, cN_enc, W0] | refine lss_a ?_ | refine lss_b ?_ | refine gtr_a ?_ | refine gtr_b ?_ | refine geq_a ?_ | refine geq_b ?_ | refine leq_a ?_ | refine leq_b ?_ | refine eql_a ?_ | refine eql_b ?_ | refine neq_a ?_ | refine neq_b ?_ | refine add_a ?_ | refine sub_a ?_ | refine ld_a ?_ | refine ldA_a ?_ | refine ldS_a ?_ | refine ldNS_a ?_ | refine rdA_s ?_ | refine rd1_s ?_ | refine drew_a fun w1 H1 => ?_ | refine st_a fun w1 H1 => ?_ | refine stA_a fun w1 H1 => ?_ | refine lenT_a ?_ | refine lenO_a ?_ | refine ixT_a ?_ | refine ixO_a ?_ | fail)
            exact no H (.inl ⟨ha, rfl⟩)
        · repeat (first | simp only [cI_enc, cE_enc, cN_enc, W0] | refine lss_a ?_ | refine lss_b ?_ | refine gtr_a ?_ | refine gtr_b ?_ | refine geq_a ?_ | refine geq_b ?_ | refine leq_a ?_ | refine leq_b ?_ | refine eql_a ?_ | refine eql_b ?_ | refine neq_a ?_ | refine neq_b ?_ | refine add_a ?_ | refine sub_a ?_ | refine ld_a ?_ | refine ldA_a ?_ | refine ldS_a ?_ | refine ldNS_a ?_ | refine rdA_s ?_ | refine rd1_s ?_ | refine drew_a fun w1 H1 => ?_ | refine st_a fun w1 H1 => ?_ | refine stA_a fun w1 H1 => ?_ | refine lenT_a ?_ | refine lenO_a ?_ | refine ixT_a ?_ | refine ixO_a ?_ | fail)
          exact yes H ha (Best.take hg he fun u hu g1 g2 => absurd g2 (hb u hu g1))
        · have hok : gt base fr = gt out n := hb.ok
          have hlt := hb.lt
          repeat (first | simp only [cI_enc, cE_enc, cN_enc, W0] | refine lss_a ?_ | refine lss_b ?_ | refine gtr_a ?_ | refine gtr_b ?_ | refine geq_a ?_ | refine geq_b ?_ | refine leq_a ?_ | refine leq_b ?_ | refine eql_a ?_ | refine eql_b ?_ | refine neq_a ?_ | refine neq_b ?_ | refine add_a ?_ | refine sub_a ?_ | refine ld_a ?_ | refine ldA_a ?_ | refine ldS_a ?_ | refine ldNS_a ?_ | refine rdA_s ?_ | refine rd1_s ?_ | refine drew_a fun w1 H1 => ?_ | refine st_a fun w1 H1 => ?_ | refine stA_a fun w1 H1 => ?_ | refine lenT_a ?_ | refine lenO_a ?_ | refine ixT_a ?_ | refine ixO_a ?_ | fail)
          refine lss_k (fun hl => ?_) (fun hl => ?_)
          · repeat (first | simp only [cI_enc, cE_enc, cN_enc, W0] | refine lss_a ?_ | refine lss_b ?_ | refine gtr_a ?_ | refine gtr_b ?_ | refine geq_a ?_ | refine geq_b ?_ | refine leq_a ?_ | refine leq_b ?_ | refine eql_a ?_ | refine eql_b ?_ | refine neq_a ?_ | refine neq_b ?_ | refine add_a ?_ | refine sub_a ?_ | refine ld_a ?_ | refine ldA_a ?_ | refine ldS_a ?_ | refine ldNS_a ?_ | refine rdA_s ?_ | refine rd1_s ?_ | refine drew_a fun w1 H1 => ?_ | refine st_a fun w1 H1 => ?_ | refine stA_a fun w1 H1 => ?_ | refine lenT_a ?_ | refine lenO_a ?_ | refine ixT_a ?_ | refine ixO_a ?_ | fail)
            exact yes H ha (Best.take hg he fun u hu g1 g2 => by have := hb.min u hu g1 g2; omega)
          · repeat (first | simp only [cI_enc, cE_enc, cN_enc, W0] | refine lss_a ?_ | refine lss_b ?_ | refine gtr_a ?_ | refine gtr_b ?_ | refine geq_a ?_ | refine geq_b ?_ | refine leq_a ?_ | refine leq_b ?_ | refine eql_a ?_ | refine eql_b ?_ | refine neq_a ?_ | refine neq_b ?_ | refine add_a ?_ | refine sub_a ?_ | refine ld_a ?_ | refine ldA_a ?_ | refine ldS_a ?_ | refine ldNS_a ?_ | refine rdA_s ?_ | refine rd1_s ?_ | refine drew_a fun w1 H1 => ?_ | refine st_a fun w1 H1 => ?_ | refine stA_a fun w1 H1 => ?_ | refine lenT_a ?_ | refine lenO_a ?_ | refine ixT_a ?_ | refine ixO_a ?_ | fail)
            refine eql_k (fun hz => ?_) (fun hz => ?_)
            · repeat (first | simp only [cI_enc, cE_enc, cN_enc, W0] | refine lss_a ?_ | refine lss_b ?_ | refine gtr_a ?_ | refine gtr_b ?_ | refine geq_a ?_ | refine geq_b ?_ | refine leq_a ?_ | refine leq_b ?_ | refine eql_a ?_ | refine eql_b ?_ | refine neq_a ?_ | refine neq_b ?_ | refine add_a ?_ | refine sub_a ?_ | refine ld_a ?_ | refine ldA_a ?_ | refine ldS_a ?_ | refine ldNS_a ?_ | refine rdA_s ?_ | refine rd1_s ?_ | refine drew_a fun w1 H1 => ?_ | refine st_a fun w1 H1 => ?_ | refine stA_a fun w1 H1 => ?_ | refine lenT_a ?_ | refine lenO_a ?_ | refine ixT_a ?_ | refine ixO_a ?_ | fail)
              exact no H (.inr (.inr ⟨ha, hb.keep fun _ _ => by omega⟩))
            · repeat (first | simp only [cI_enc, cE_enc, cN_enc, W0] | refine lss_a ?_ | refine lss_b ?_ | refine gtr_a ?_ | refine gtr_b ?_ | refine geq_a ?_ | refine geq_b ?_ | refine leq_a ?_ | refine leq_b ?_ | refine eql_a ?_ | refine eql_b ?_ | refine neq_a ?_ | refine neq_b ?_ | refine add_a ?_ | refine sub_a ?_ | refine ld_a ?_ | refine ldA_a ?_ | refine ldS_a ?_ | refine ldNS_a ?_ | refine rdA_s ?_ | refine rd1_s ?_ | refine drew_a fun w1 H1 => ?_ | refine st_a fun w1 H1 => ?_ | refine stA_a fun w1 H1 => ?_ | refine lenT_a ?_ | refine lenO_a ?_ | refine ixT_a ?_ | refine ixO_a ?_ | fail)
              exact no H (.inr (.inr ⟨ha, hb.keep fun _ _ => by omega⟩))
      · repeat (first | simp only [cI_enc, cE_enc, cN_enc, W0] | refine lss_a ?_ | refine lss_b ?_ | refine gtr_a ?_ | refine gtr_b ?_ | refine geq_a ?_ | refine geq_b ?_ | refine leq_a ?_ | refine leq_b ?_ | refine eql_a ?_ | refine eql_b ?_ | refine neq_a ?_ | refine neq_b ?_ | refine add_a ?_ | refine sub_a ?_ | refine ld_a ?_ | refine ldA_a ?_ | refine ldS_a ?_ | refine ldNS_a ?_ | refine rdA_s ?_ | refine rd1_s ?_ | refine drew_a fun w1 H1 => ?_ | refine st_a fun w1 H1 => ?_ | refine stA_a fun w1 H1 => ?_ | refine lenT_a ?_ | refine lenO_a ?_ | refine ixT_a ?_ | refine ixO_a ?_ | fail)
        refine no H ?_
        rcases hb with hb | ⟨ha, e, hb⟩ | ⟨ha, hb⟩
        · exact .inl hb
        · exact .inr (.inl ⟨ha, e, none_keep hb fun _ => he⟩)
        · exact .inr (.inr ⟨ha, hb.keep fun _ h => absurd h he⟩)
    · repeat (first | simp only [cI_enc, cE_enc, cN_enc, W0] | refine lss_a ?_ | refine lss_b ?_ | refine gtr_a ?_ | refine gtr_b ?_ | refine geq_a ?_ | refine geq_b ?_ | refine leq_a ?_ | refine leq_b ?_ | refine eql_a ?_ | refine eql_b ?_ | refine neq_a ?_ | refine neq_b ?_ | refine add_a ?_ | refine sub_a ?_ | refine ld_a ?_ | refine ldA_a ?_ | refine ldS_a ?_ | refine ldNS_a ?_ | refine rdA_s ?_ | refine rd1_s ?_ | refine drew_a fun w1 H1 => ?_ | refine st_a fun w1 H1 => ?_ | refine stA_a fun w1 H1 => ?_ | refine lenT_a ?_ | refine lenO_a ?_ | refine ixT_a ?_ | refine ixO_a ?_ | fail)
      refine no H ?_
      rcases hb with hb | ⟨ha, e, hb⟩ | ⟨ha, hb⟩
      · exact .inl hb
      · exact .inr (.inl ⟨ha, e, none_keep hb fun h => absurd h (by omega)⟩)
      · exact .inr (.inr ⟨ha, hb.keep fun h => absurd h (by omega)⟩)
  · repeat (first | simp only [cI_enc, cE_enc, cN_enc, W0] | refine lss_a ?_ | refine lss_b ?_ | refine gtr_a ?_ | refine gtr_b ?_ | refine geq_a ?_ | refine geq_b ?_ | refine leq_a ?_ | refine leq_b ?_ | refine eql_a ?_ | refine eql_b ?_ | refine neq_a ?_ | refine neq_b ?_ | refine add_a ?_ | refine sub_a ?_ | refine ld_a ?_ | refine ldA_a ?_ | refine ldS_a ?_ | refine ldNS_a ?_ | refine rdA_s ?_ | refine rd1_s ?_ | refine drew_a fun w1 H1 => ?_ | refine st_a fun w1 H1 => ?_ | refine stA_a fun w1 H1 => ?_ | refine lenT_a ?_ | refine lenO_a ?_ | refine ixT_a ?_ | refine ixO_a ?_ | fail)
    obtain rfl : i = base.length := by omega
    have hbest : Best (gt d) (fun u => gt base u = gt out n) base.length fr := by
      rcases hb with ⟨ha, rfl⟩ | ⟨ha, rfl, hb⟩ | ⟨ha, hb⟩
      · refine ⟨hn, by omega, ha, fun u hu g1 g2 => ?_⟩
        by_cases e : gt d u = 0
        · have := zero_self hD hu e
          exact .inr ⟨by omega, by omega⟩
        · exact .inl (by omega)
      · obtain ⟨j, hj, hr, ej⟩ := ho.why fr hn
        obtain ⟨kk, pk⟩ := hr.path
        exact absurd ej.symm (hb j hj (hD.le j hj kk pk).1)
      · exact hb
    have hfd : d[fr]? = some (gt d fr) := gt_some (by omega)
    have hnn : 0 ≤ gt d fr := hbest.nn
    have hle : gt d fr ≤ base.length := hD.val_le c5 hfr
    obtain ⟨mm, hmm⟩ : ∃ mm : Nat, gt d fr = mm := ⟨(gt d fr).toNat, by omega⟩
    have hex : mm = 0 ∨ ∃ t, (fr, t) ∈ es.map toN ∧ gt d t = (mm : Int) - 1 := by
      cases mm with
      | zero => exact .inl rfl
      | succ r =>
        obtain ⟨t', _, h2, h3, _⟩ := hD.least c5 hfr (k := r) (by omega)
        exact .inr ⟨t', h3, by omega⟩
    have fin : ∀ {w : World} {s : Value} {cs : List Chunk}, Hp w0 w (cs ++ L) → TS cU 3 s (chainP (es.map toN) base.length (gt d) mm fr) cs → ReasonQ base es n w0 L (.returned (.tuple ⟨[s, I 0]⟩)) w := by
      intro w s cs H hs
      refine .inr (.inr ⟨h, n, rfl, hn, s, cs, out, fr, rfl, H, ho, hD.dst, hbest.congr hE, ?_⟩)
      rw [← hE fr hfr, ← chainP_congr hE, hmm]
      exact hs
    refine ix1p_t (C := cI) (TS.tr hsd) (by assumption) csub hfd rfl rfl fun a9 e9 hat9 => ?_
    rw [hmm] at hat9 ⊢
    refine allW2 ?_ ?_
    · refine lit1_t (C := cU) (x := fr) elU (by assumption) rfl (by decide) fun w s1 cs1 H hs1 => ?_
      refine rd1_a (hat9 _ _ H csub) ?_
      repeat (first | simp only [cI_enc, cE_enc, cN_enc, W0] | refine lss_a ?_ | refine lss_b ?_ | refine gtr_a ?_ | refine gtr_b ?_ | refine geq_a ?_ | refine geq_b ?_ | refine leq_a ?_ | refine leq_b ?_ | refine eql_a ?_ | refine eql_b ?_ | refine neq_a ?_ | refine neq_b ?_ | refine add_a ?_ | refine sub_a ?_ | refine ld_a ?_ | refine ldA_a ?_ | refine ldS_a ?_ | refine ldNS_a ?_ | refine rdA_s ?_ | refine rd1_s ?_ | refine drew_a fun w1 H1 => ?_ | refine st_a fun w1 H1 => ?_ | refine stA_a fun w1 H1 => ?_ | refine lenT_a ?_ | refine lenO_a ?_ | refine ixT_a ?_ | refine ixO_a ?_ | fail)
      refine cal_h (holders_spec h1 h2' (by assumption) csub csub c5 c1 hel c6) ?_
      rintro _ w ⟨sh, ch, E', rfl, H, hh, hp, hi⟩
      simp only [ret_k]
      refine rd1_a (hat9 _ _ H csub) ?_
      repeat (first | simp only [cI_enc, cE_enc, cN_enc, W0] | refine lss_a ?_ | refine lss_b ?_ | refine gtr_a ?_ | refine gtr_b ?_ | refine geq_a ?_ | refine geq_b ?_ | refine leq_a ?_ | refine leq_b ?_ | refine eql_a ?_ | refine eql_b ?_ | refine neq_a ?_ | refine neq_b ?_ | refine add_a ?_ | refine sub_a ?_ | refine ld_a ?_ | refine ldA_a ?_ | refine ldS_a ?_ | refine ldNS_a ?_ | refine rdA_s ?_ | refine rd1_s ?_ | refine drew_a fun w1 H1 => ?_ | refine st_a fun w1 H1 => ?_ | refine stA_a fun w1 H1 => ?_ | refine lenT_a ?_ | refine lenO_a ?_ | refine ixT_a ?_ | refine ixO_a ?_ | fail)
      refine cal_h (walk_spec hs1 hh (TS.tr hsd) (L := ch ++ (csd ++ (⟨b, 25, [sb, se]⟩ :: L))) (H.re) csub csub hp hi c5 c1 hel hfr hdl hD (by omega) hex) ?_
      rintro _ w ⟨s, cs, rfl, H, hs⟩
      exact fin (H.re) hs
    · refine cal_h (holders_spec h1 h2' (by assumption) csub csub c5 c1 hel c6) ?_
      rintro _ w ⟨sh, ch, E', rfl, H, hh, hp, hi⟩
      simp only [ret_k]
      refine rd1_a (hat9 _ _ H csub) ?_
      repeat (first | simp only [cI_enc, cE_enc, cN_enc, W0] | refine lss_a ?_ | refine lss_b ?_ | refine gtr_a ?_ | refine gtr_b ?_ | refine geq_a ?_ | refine geq_b ?_ | refine leq_a ?_ | refine leq_b ?_ | refine eql_a ?_ | refine eql_b ?_ | refine neq_a ?_ | refine neq_b ?_ | refine add_a ?_ | refine sub_a ?_ | refine ld_a ?_ | refine ldA_a ?_ | refine ldS_a ?_ | refine ldNS_a ?_ | refine rdA_s ?_ | refine rd1_s ?_ | refine drew_a fun w1 H1 => ?_ | refine st_a fun w1 H1 => ?_ | refine stA_a fun w1 H1 => ?_ | refine lenT_a ?_ | refine lenO_a ?_ | refine ixT_a ?_ | refine ixO_a ?_ | fail)
      refine lit1_t (C := cU) (x := fr) elU (by assumption) rfl (by decide) fun w s1 cs1 H hs1 => ?_
      refine rd1_a (hat9 _ _ H csub) ?_
      repeat (first | simp only [cI_enc, cE_enc, cN_enc, W0] | refine lss_a ?_ | refine lss_b ?_ | refine gtr_a ?_ | refine gtr_b ?_ | refine geq_a ?_ | refine geq_b ?_ | refine leq_a ?_ | refine leq_b ?_ | refine eql_a ?_ | refine eql_b ?_ | refine neq_a ?_ | refine neq_b ?_ | refine add_a ?_ | refine sub_a ?_ | refine ld_a ?_ | refine ldA_a ?_ | refine ldS_a ?_ | refine ldNS_a ?_ | refine rdA_s ?_ | refine rd1_s ?_ | refine drew_a fun w1 H1 => ?_ | refine st_a fun w1 H1 => ?_ | refine stA_a fun w1 H1 => ?_ | refine lenT_a ?_ | refine lenO_a ?_ | refine ixT_a ?_ | refine ixO_a ?_ | fail)
      refine cal_h (walk_spec hs1 hh (TS.tr hsd) (L := ch ++ (csd ++ (⟨b, 25, [sb, se]⟩ :: L))) (H.re) csub csub hp hi c5 c1 hel hfr hdl hD (by omega) hex) ?_
      rintro _ w ⟨s, cs, rfl, H, hs⟩
      exact fin (H.re) hs
end
end Go.Proofs.Ytagcifbfokneoaa.Den
end

section
set_option linter.unusedVariables false
set_option linter.unusedSimpArgs false
set_option maxRecDepth 8000
set_option maxHeartbeats 1000000
namespace Go.Proofs.Ytagcifbfokneoaa.Den
open Go Go.RowKit
/-- The least cycle among pairs that have been looked at. -/
structure CycS (E : List (Nat × Nat)) (S : Nat → Nat → Prop) (t l : Nat) : Prop where
  ex : ∃ h, S t h ∧ (t, h) ∈ E ∧ dst E t h + 1 = l ∧ 0 ≤ dst E t h
  min : ∀ u h, S u h → (u, h) ∈ E → 0 ≤ dst E u h → (l : Int) < dst E u h + 1 ∨ ((l : Int) = dst E u h + 1 ∧ t ≤ u)
section
variable {w w' w0 : World} {L L' F cs cs2 cs3 : List Chunk} {s s2 sb se sd : Value} {K : VK} {R : ER} {base d out : List Int} {E E' : List (Nat × Nat)} {es : List (Int × Int)} {n to i u x : Nat} {S S' : Nat → Nat → Prop}
theorem CycS.mono {t l : Nat} (h : CycS E S t l) (hs : ∀ u h, S u h → S' u h) (hb : ∀ u h, S' u h → (u, h) ∈ E → 0 ≤ dst E u h → S u h ∨ ((l : Int) ≤ dst E u h + 1 ∧ t ≤ u)) : CycS E S' t l := by
  obtain ⟨y, y1, y2⟩ := h.ex
  refine ⟨⟨y, hs _ _ y1, y2⟩, fun u x hx he h0 => ?_⟩
  rcases hb u x hx he h0 with hh | hh
  · exact h.min u x hh he h0
  · omega
theorem Cycle_spec (h1 : TR cI w0 cs sb base) (h2 : TR cE w0 cs2 se es) (H : Hp w0 w L) (m1 : ∀ c ∈ cs, c ∈ L) (m2 : ∀ c ∈ cs2, c ∈ L) :
    Calls Pg 21 ⟨[.agg ⟨[sb, se]⟩]⟩ w (CycleQ base es w0 L) := by
  apply F21_calls
  unfold F21
  refine bx_m H fun w b H => ?_
  repeat (first | simp only [cI_enc, cE_enc, cN_enc, W0] | refine lss_a ?_ | refine lss_b ?_ | refine gtr_a ?_ | refine gtr_b ?_ | refine geq_a ?_ | refine geq_b ?_ | refine leq_a ?_ | refine leq_b ?_ | refine eql_a ?_ | refine eql_b ?_ | refine neq_a ?_ | refine neq_b ?_ | refine add_a ?_ | refine sub_a ?_ | refine ld_a ?_ | refine ldA_a ?_ | refine ldS_a ?_ | refine ldNS_a ?_ | refine rdA_s ?_ | refine rd1_s ?_ | refine drew_a fun w1 H1 => ?_ | refine st_a fun w1 H1 => ?_ | refine stA_a fun w1 H1 => ?_ | refine lenT_a ?_ | refine lenO_a ?_ | refine ixT_a ?_ | refine ixO_a ?_ | fail)
  refine cal_h (Check_spec h1 h2 H csub csub) ?_
  rintro _ w ⟨rfl, H⟩
  simp only [ret_k]
  refine neq_k (fun h => ?_) (fun h => ?_)
  · repeat (first | simp only [cI_enc, cE_enc, cN_enc, W0] | refine lss_a ?_ | refine lss_b ?_ | refine gtr_a ?_ | refine gtr_b ?_ | refine geq_a ?_ | refine geq_b ?_ | refine leq_a ?_ | refine leq_b ?_ | refine eql_a ?_ | refine eql_b ?_ | refine neq_a ?_ | refine neq_b ?_ | refine add_a ?_ | refine sub_a ?_ | refine ld_a ?_ | refine ldA_a ?_ | refine ldS_a ?_ | refine ldNS_a ?_ | refine rdA_s ?_ | refine rd1_s ?_ | refine drew_a fun w1 H1 => ?_ | refine st_a fun w1 H1 => ?_ | refine stA_a fun w1 H1 => ?_ | refine lenT_a ?_ | refine lenO_a ?_ | refine ixT_a ?_ | refine ixO_a ?_ | fail)
    exact .inl ⟨h, (by first | rfl | trivial), H.tail⟩
  repeat (first | simp only [cI_enc, cE_enc, cN_enc, W0] | refine lss_a ?_ | refine lss_b ?_ | refine gtr_a ?_ | refine gtr_b ?_ | refine geq_a ?_ | refine geq_b ?_ | refine leq_a ?_ | refine leq_b ?_ | refine eql_a ?_ | refine eql_b ?_ | refine neq_a ?_ | refine neq_b ?_ | refine add_a ?_ | refine sub_a ?_ | refine ld_a ?_ | refine ldA_a ?_ | refine ldS_a ?_ | refine ldNS_a ?_ | refine rdA_s ?_ | refine rd1_s ?_ | refine drew_a fun w1 H1 => ?_ | refine st_a fun w1 H1 => ?_ | refine stA_a fun w1 H1 => ?_ | refine lenT_a ?_ | refine lenO_a ?_ | refine ixT_a ?_ | refine ixO_a ?_ | fail)
  obtain ⟨c1, c2, c3, c4, c5, c6⟩ := chk_ok h
  have h2' := h2
  rw [c4] at h2'
  have h2' := toCN h2'
  have hel : (es.map toN).length ≤ 4000 := by simp; omega
  try unfold F21_j1
  repeat (first | simp only [cI_enc, cE_enc, cN_enc, W0] | refine lss_a ?_ | refine lss_b ?_ | refine gtr_a ?_ | refine gtr_b ?_ | refine geq_a ?_ | refine geq_b ?_ | refine leq_a ?_ | refine leq_b ?_ | refine eql_a ?_ | refine eql_b ?_ | refine neq_a ?_ | refine neq_b ?_ | refine add_a ?_ | refine sub_a ?_ | refine ld_a ?_ | refine ldA_a ?_ | refine ldS_a ?_ | refine ldNS_a ?_ | refine rdA_s ?_ | refine rd1_s ?_ | refine drew_a fun w1 H1 => ?_ | refine st_a fun w1 H1 => ?_ | refine stA_a fun w1 H1 => ?_ | refine lenT_a ?_ | refine lenO_a ?_ | refine ixT_a ?_ | refine ixO_a ?_ | fail)
  refine cal_h (holders_spec h1 h2' (by assumption) csub csub c5 c1 hel c6) ?_
  rintro _ w ⟨sh, ch, E', rfl, H, hh, hp, hi⟩
  repeat (first | simp only [cI_enc, cE_enc, cN_enc, W0] | refine lss_a ?_ | refine lss_b ?_ | refine gtr_a ?_ | refine gtr_b ?_ | refine geq_a ?_ | refine geq_b ?_ | refine leq_a ?_ | refine leq_b ?_ | refine eql_a ?_ | refine eql_b ?_ | refine neq_a ?_ | refine neq_b ?_ | refine add_a ?_ | refine sub_a ?_ | refine ld_a ?_ | refine ldA_a ?_ | refine ldS_a ?_ | refine ldNS_a ?_ | refine rdA_s ?_ | refine rd1_s ?_ | refine drew_a fun w1 H1 => ?_ | refine st_a fun w1 H1 => ?_ | refine stA_a fun w1 H1 => ?_ | refine lenT_a ?_ | refine lenO_a ?_ | refine ixT_a ?_ | refine ixO_a ?_ | fail)
  refine cal_h (waiters_spec h1 h2' (by assumption) csub csub c5 c1 hel c6) ?_
  rintro _ w ⟨sw, cw, E'', rfl, H, hw, _, hE'⟩
  subst hE'
  simp only [ret_k]
  unfold F21_j3
  repeat (first | simp only [cI_enc, cE_enc, cN_enc, W0] | refine lss_a ?_ | refine lss_b ?_ | refine gtr_a ?_ | refine gtr_b ?_ | refine geq_a ?_ | refine geq_b ?_ | refine leq_a ?_ | refine leq_b ?_ | refine eql_a ?_ | refine eql_b ?_ | refine neq_a ?_ | refine neq_b ?_ | refine add_a ?_ | refine sub_a ?_ | refine ld_a ?_ | refine ldA_a ?_ | refine ldS_a ?_ | refine ldNS_a ?_ | refine rdA_s ?_ | refine rd1_s ?_ | refine drew_a fun w1 H1 => ?_ | refine st_a fun w1 H1 => ?_ | refine stA_a fun w1 H1 => ?_ | refine lenT_a ?_ | refine lenO_a ?_ | refine ixT_a ?_ | refine ixO_a ?_ | fail)
  have H : Hp w0 w (cw ++ (ch ++ (⟨b, 25, [sb, se]⟩ :: L))) := H
  obtain ⟨hs, htop, hhl, hsub⟩ := id hh
  have hhl' : hs.length = base.length := by rw [hhl, adj_len]
  have mh : ∀ c ∈ ch, c ∈ cw ++ (ch ++ (⟨b, 25, [sb, se]⟩ :: L)) := by intro c hc; simp [hc]
  unfold F21_j4
  refine loop7 (F21_l2_succ _) (fun m x5 x6 x7 x8 x9 x25 x26 w => ∃ i : Nat, ∃ sf cf, x5 = sh ∧ x6 = sw ∧ x9 = sf ∧ x25 = I (base.length : Int) ∧ x26 = I i ∧ m + i = base.length ∧ Hp w0 w (cf ++ (cw ++ (ch ++ (⟨b, 25, [sb, se]⟩ :: L)))) ∧
      ((x7 = I (-1) ∧ x8 = I 0 ∧ cf = [] ∧ ∀ u h, u < i → (u, h) ∈ es.map toN → ¬ 0 ≤ dst (es.map toN) u h) ∨ ∃ t l : Nat, ∃ df, x7 = I t ∧ x8 = I l ∧ t < base.length ∧ TS cI 3 sf df cf ∧ df.length = base.length ∧ IsD (es.map toN) base.length t (gt df) ∧ CycS (es.map toN) (fun u _ => u < i) t l)) ?_ (m := base.length)
    ⟨0, .slice none 0 0, [], rfl, rfl, rfl, rfl, rfl, rfl, H, .inl ⟨rfl, rfl, rfl, by intro u h hu; omega⟩⟩
  clear H
  rintro m k sh sw x7 x8 sf _ _ w ⟨i, _, cf, rfl, rfl, rfl, rfl, rfl, hm, H, hc⟩ hk
  unfold F21_b1
  refine lss_k (fun hi' => ?_) (fun hi' => ?_)
  · have hin : i < base.length := by omega
    unfold F21_j5 F21_j7
    refine cal_h (dist_spec (css := []) (to := i) hw H (by intro c hc; simp [hc]) c5 c1 hel hin) ?_
    rintro _ w ⟨sd, csd, d, rfl, H, hsd, hdl, hD⟩
    simp only [ret_k]
    have hE : ∀ u, u < base.length → gt d u = dst (es.map toN) i u := fun u hu => hD.eq hu
    obtain ⟨ki, hki⟩ : ∃ ki, hs[i]? = some ki := ⟨_, List.getElem?_eq_getElem (by omega)⟩
    have hwi := hsub i ki _ hki (adj_get hin)
    have hwl : (adjAt Prod.fst Prod.snd E' i).length ≤ 4000 := adjAt_len (by rw [hp.length_eq]; exact hel)
    refine ix1_t (C := cS) htop H (by intro c hc; simp [hc]) hki rfl rfl ?_
    repeat (first | simp only [cI_enc, cE_enc, cN_enc, W0] | refine lss_a ?_ | refine lss_b ?_ | refine gtr_a ?_ | refine gtr_b ?_ | refine geq_a ?_ | refine geq_b ?_ | refine leq_a ?_ | refine leq_b ?_ | refine eql_a ?_ | refine eql_b ?_ | refine neq_a ?_ | refine neq_b ?_ | refine add_a ?_ | refine sub_a ?_ | refine ld_a ?_ | refine ldA_a ?_ | refine ldS_a ?_ | refine ldNS_a ?_ | refine rdA_s ?_ | refine rd1_s ?_ | refine drew_a fun w1 H1 => ?_ | refine st_a fun w1 H1 => ?_ | refine stA_a fun w1 H1 => ?_ | refine lenT_a ?_ | refine lenO_a ?_ | refine ixT_a ?_ | refine ixO_a ?_ | fail)
    unfold F21_j8
    refine loop12 (F21_l1_succ _ _) (fun q x5 x6 x7 x8 x9 x10 x11 x25 x26 x35 x36 x37 w => ∃ j : Nat, ∃ sf cf, x5 = sh ∧ x6 = sw ∧ x9 = sf ∧ x10 = I i ∧ x11 = sd ∧ x25 = I (base.length : Int) ∧ x26 = I i ∧ x35 = ki.val ∧ x36 = I ((adjAt Prod.fst Prod.snd E' i).length : Int) ∧ x37 = I j ∧ q + j = (adjAt Prod.fst Prod.snd E' i).length ∧
        Hp w0 w (cf ++ (csd ++ (cw ++ (ch ++ (⟨b, 25, [sb, se]⟩ :: L))))) ∧
        ((x7 = I (-1) ∧ x8 = I 0 ∧ cf = [] ∧ ∀ u h, (u < i ∨ (u = i ∧ h ∈ (adjAt Prod.fst Prod.snd E' i).take j)) → (u, h) ∈ es.map toN → ¬ 0 ≤ dst (es.map toN) u h) ∨
          ∃ t l : Nat, ∃ df, x7 = I t ∧ x8 = I l ∧ t < base.length ∧ ((TS cI 3 sf df cf ∧ t < i) ∨ (sf = sd ∧ df = d ∧ cf = [] ∧ t = i)) ∧ df.length = base.length ∧ IsD (es.map toN) base.length t (gt df) ∧ CycS (es.map toN) (fun u h => u < i ∨ (u = i ∧ h ∈ (adjAt Prod.fst Prod.snd E' i).take j)) t l)) ?_ (m := (adjAt Prod.fst Prod.snd E' i).length)
      ⟨0, sf, cf, rfl, rfl, rfl, rfl, rfl, rfl, rfl, rfl, rfl, rfl, rfl, H.re, ?_⟩
    rotate_left
    · rcases hc with ⟨e1, e2, e3, hc⟩ | ⟨t, l, df, e1, e2, ht, hts, hdf, hDf, hc⟩
      · exact .inl ⟨e1, e2, e3, fun u h hu => hc u h (by simpa using hu)⟩
      · have hti : t < i := by obtain ⟨_, y, _⟩ := hc.ex; exact y
        exact .inr ⟨t, l, df, e1, e2, ht, .inl ⟨hts, hti⟩, hdf, hDf, hc.mono (fun u h hu => .inl hu) fun u h hu _ _ => .inl (by simpa using hu)⟩
    clear H hc
    rintro q k2 sh sw x7 x8 sf _ sd _ _ _ _ _ w ⟨j, _, cf, rfl, rfl, rfl, rfl, rfl, rfl, rfl, rfl, rfl, rfl, hq, H, hc⟩ hk2
    unfold F21_b2
    refine lss_k (fun hj => ?_) (fun hj => ?_)
    · have hx : (adjAt Prod.fst Prod.snd E' i)[j]? = some (adjAt Prod.fst Prod.snd E' i)[j] := List.getElem?_eq_getElem (by omega)
      have htk : (adjAt Prod.fst Prod.snd E' i).take (j + 1) = (adjAt Prod.fst Prod.snd E' i).take j ++ [(adjAt Prod.fst Prod.snd E' i)[j]] := by rw [List.take_add_one, hx]; rfl
      generalize (adjAt Prod.fst Prod.snd E' i)[j] = y at hx htk
      have hyE := hp.subset (adj_mem_h.1 (List.mem_of_getElem? hx))
      have hyn := (c5 _ hyE).2
      have hyd : d[y]? = some (gt d y) := gt_some (by omega)
      have hye := hE y hyn
      have hyb : gt d y ≤ base.length := hD.val_le c5 hyn
      have split' : ∀ {u x : Nat}, (u < i ∨ (u = i ∧ x ∈ (adjAt Prod.fst Prod.snd E' i).take (j + 1))) → (u < i ∨ (u = i ∧ x ∈ (adjAt Prod.fst Prod.snd E' i).take j)) ∨ (u = i ∧ x = y) := by
        intro u x hh
        rcases hh with hh | ⟨hh, hx⟩
        · exact .inl (.inl hh)
        · rw [htk] at hx
          rcases List.mem_append.1 hx with hx | hx
          · exact .inl (.inr ⟨hh, hx⟩)
          · simp at hx; exact .inr ⟨hh, hx⟩
      have incl : ∀ {u x : Nat}, (u < i ∨ (u = i ∧ x ∈ (adjAt Prod.fst Prod.snd E' i).take j)) → (u < i ∨ (u = i ∧ x ∈ (adjAt Prod.fst Prod.snd E' i).take (j + 1))) := by
        intro u x hh
        rcases hh with hh | ⟨hh, hx⟩
        · exact .inl hh
        · exact .inr ⟨hh, by rw [htk]; simp [hx]⟩
      have here : i < i ∨ (i = i ∧ y ∈ (adjAt Prod.fst Prod.snd E' i).take (j + 1)) := .inr ⟨rfl, by rw [htk]; simp⟩
      have yes : ∀ {w : World} {lg : Nat}, Hp w0 w (csd ++ (cw ++ (ch ++ (⟨b, 25, [sb, se]⟩ :: L)))) → gt d y + 1 = lg → 0 ≤ gt d y → (∀ u x, (u < i ∨ (u = i ∧ x ∈ (adjAt Prod.fst Prod.snd E' i).take j)) → (u, x) ∈ es.map toN → 0 ≤ dst (es.map toN) u x → (lg : Int) < dst (es.map toN) u x + 1) →
          k2 sh sw (I i) (I lg) sd (I i) sd (I (base.length : Int)) (I i) ki.val (I ((adjAt Prod.fst Prod.snd E' i).length : Int)) (I ((j : Int) + 1)) w := by
        intro w lg H hlg hnn hmin
        refine hk2 (q - 1) _ _ _ _ _ _ _ _ _ _ _ _ _ (by omega) ⟨j + 1, sd, [], rfl, rfl, rfl, rfl, rfl, rfl, rfl, rfl, rfl, rfl, by omega, H, .inr ⟨i, lg, d, rfl, rfl, hin, .inr ⟨rfl, rfl, rfl, rfl⟩, hdl, hD, ⟨⟨y, here, hyE, by omega, by omega⟩, fun u x hh he h0 => ?_⟩⟩⟩
        rcases split' hh with hh | ⟨rfl, rfl⟩
        · exact .inl (hmin u x hh he h0)
        · exact .inr ⟨by omega, Nat.le_refl _⟩
      have no : ∀ {w : World}, Hp w0 w (cf ++ (csd ++ (cw ++ (ch ++ (⟨b, 25, [sb, se]⟩ :: L))))) → (0 ≤ gt d y → ∃ t l : Nat, x7 = I t ∧ x8 = I l ∧ (l : Int) ≤ gt d y + 1) →
          k2 sh sw x7 x8 sf (I i) sd (I (base.length : Int)) (I i) ki.val (I ((adjAt Prod.fst Prod.snd E' i).length : Int)) (I ((j : Int) + 1)) w := by
        intro w H hno
        refine hk2 (q - 1) _ _ _ _ _ _ _ _ _ _ _ _ _ (by omega) ⟨j + 1, sf, cf, rfl, rfl, rfl, rfl, rfl, rfl, rfl, rfl, rfl, rfl, by omega, H, ?_⟩
        rcases hc with ⟨e1, e2, e3, hc⟩ | ⟨t, l, df, e1, e2, ht, hts, hdf, hDf, hc⟩
        · refine .inl ⟨e1, e2, e3, fun u x hh he h0 => ?_⟩
          rcases split' hh with hh | ⟨rfl, rfl⟩
          · exact hc u x hh he h0
          · obtain ⟨t, l, e, _⟩ := hno (by omega)
            rw [e1] at e
            have e : (-1 : Int) = t := by injection e
            omega
        · refine .inr ⟨t, l, df, e1, e2, ht, hts, hdf, hDf, hc.mono (fun u x hh => incl hh) fun u x hh he h0 => ?_⟩
          rcases split' hh with hh | ⟨rfl, rfl⟩
          · exact .inl hh
          · obtain ⟨t', l', e, e', hle⟩ := hno (by omega)
            rw [e1] at e; rw [e2] at e'
            have e : (t : Int) = t' := by injection e
            have e' : (l : Int) = l' := by injection e'
            have hti : t ≤ u := by
              obtain ⟨z, z1, _⟩ := hc.ex
              rcases z1 with z1 | ⟨z1, _⟩ <;> omega
            exact .inr ⟨by omega, hti⟩
      unfold F21_j9 F21_j11
      refine ix1_t (C := cU) hwi H (by intro c hc; simp [hc]) hx rfl rfl ?_
      refine ix1_t (C := cI) (TS.tr hsd) H (by intro c hc; simp [hc]) hyd rfl rfl ?_
      refine geq_k (fun hg => ?_) (fun hg => ?_)
      · rcases hc with ⟨rfl, rfl, rfl, hc⟩ | ⟨t, l, df, rfl, rfl, ht, hts, hdf, hDf, hc⟩
        · repeat (first | simp only [cI_enc, cE_enc, cN_enc, W0] | refine lss_a ?_ | refine lss_b ?_ | refine gtr_a ?_ | refine gtr_b ?_ | refine geq_a ?_ | refine geq_b ?_ | refine leq_a ?_ | refine leq_b ?_ | refine eql_a ?_ | refine eql_b ?_ | refine neq_a ?_ | refine neq_b ?_ | refine add_a ?_ | refine sub_a ?_ | refine ld_a ?_ | refine ldA_a ?_ | refine ldS_a ?_ | refine ldNS_a ?_ | refine rdA_s ?_ | refine rd1_s ?_ | refine drew_a fun w1 H1 => ?_ | refine st_a fun w1 H1 => ?_ | refine stA_a fun w1 H1 => ?_ | refine lenT_a ?_ | refine lenO_a ?_ | refine ixT_a ?_ | refine ixO_a ?_ | fail)
          obtain ⟨lg, hlg⟩ : ∃ lg : Nat, gt d y + 1 = lg := ⟨(gt d y + 1).toNat, by omega⟩
          rw [hlg]
          exact yes (by assumption) hlg hg fun u x hh he h0 => absurd h0 (hc u x hh he)
        · repeat (first | simp only [cI_enc, cE_enc, cN_enc, W0] | refine lss_a ?_ | refine lss_b ?_ | refine gtr_a ?_ | refine gtr_b ?_ | refine geq_a ?_ | refine geq_b ?_ | refine leq_a ?_ | refine leq_b ?_ | refine eql_a ?_ | refine eql_b ?_ | refine neq_a ?_ | refine neq_b ?_ | refine add_a ?_ | refine sub_a ?_ | refine ld_a ?_ | refine ldA_a ?_ | refine ldS_a ?_ | refine ldNS_a ?_ | refine rdA_s ?_ | refine rd1_s ?_ | refine drew_a fun w1 H1 => ?_ | refine st_a fun w1 H1 => ?_ | refine stA_a fun w1 H1 => ?_ | refine lenT_a ?_ | refine lenO_a ?_ | refine ixT_a ?_ | refine ixO_a ?_ | fail)
          refine lss_k (fun hl => ?_) (fun hl => ?_)
          · repeat (first | simp only [cI_enc, cE_enc, cN_enc, W0] | refine lss_a ?_ | refine lss_b ?_ | refine gtr_a ?_ | refine gtr_b ?_ | refine geq_a ?_ | refine geq_b ?_ | refine leq_a ?_ | refine leq_b ?_ | refine eql_a ?_ | refine eql_b ?_ | refine neq_a ?_ | refine neq_b ?_ | refine add_a ?_ | refine sub_a ?_ | refine ld_a ?_ | refine ldA_a ?_ | refine ldS_a ?_ | refine ldNS_a ?_ | refine rdA_s ?_ | refine rd1_s ?_ | refine drew_a fun w1 H1 => ?_ | refine st_a fun w1 H1 => ?_ | refine stA_a fun w1 H1 => ?_ | refine lenT_a ?_ | refine lenO_a ?_ | refine ixT_a ?_ | refine ixO_a ?_ | fail)
            obtain ⟨lg, hlg⟩ : ∃ lg : Nat, gt d y + 1 = lg := ⟨(gt d y + 1).toNat, by omega⟩
            rw [hlg]
            exact yes (Hp.right (A := cf) (by assumption)) hlg hg fun u x hh he h0 => by have := hc.min u x hh he h0; omega
          · repeat (first | simp only [cI_enc, cE_enc, cN_enc, W0] | refine lss_a ?_ | refine lss_b ?_ | refine gtr_a ?_ | refine gtr_b ?_ | refine geq_a ?_ | refine geq_b ?_ | refine leq_a ?_ | refine leq_b ?_ | refine eql_a ?_ | refine eql_b ?_ | refine neq_a ?_ | refine neq_b ?_ | refine add_a ?_ | refine sub_a ?_ | refine ld_a ?_ | refine ldA_a ?_ | refine ldS_a ?_ | refine ldNS_a ?_ | refine rdA_s ?_ | refine rd1_s ?_ | refine drew_a fun w1 H1 => ?_ | refine st_a fun w1 H1 => ?_ | refine stA_a fun w1 H1 => ?_ | refine lenT_a ?_ | refine lenO_a ?_ | refine ixT_a ?_ | refine ixO_a ?_ | fail)
            exact no (by assumption) fun _ => ⟨t, l, rfl, rfl, by omega⟩
      · repeat (first | simp only [cI_enc, cE_enc, cN_enc, W0] | refine lss_a ?_ | refine lss_b ?_ | refine gtr_a ?_ | refine gtr_b ?_ | refine geq_a ?_ | refine geq_b ?_ | refine leq_a ?_ | refine leq_b ?_ | refine eql_a ?_ | refine eql_b ?_ | refine neq_a ?_ | refine neq_b ?_ | refine add_a ?_ | refine sub_a ?_ | refine ld_a ?_ | refine ldA_a ?_ | refine ldS_a ?_ | refine ldNS_a ?_ | refine rdA_s ?_ | refine rd1_s ?_ | refine drew_a fun w1 H1 => ?_ | refine st_a fun w1 H1 => ?_ | refine stA_a fun w1 H1 => ?_ | refine lenT_a ?_ | refine lenO_a ?_ | refine ixT_a ?_ | refine ixO_a ?_ | fail)
        exact no (by assumption) fun h => absurd h hg
    · repeat (first | simp only [cI_enc, cE_enc, cN_enc, W0] | refine lss_a ?_ | refine lss_b ?_ | refine gtr_a ?_ | refine gtr_b ?_ | refine geq_a ?_ | refine geq_b ?_ | refine leq_a ?_ | refine leq_b ?_ | refine eql_a ?_ | refine eql_b ?_ | refine neq_a ?_ | refine neq_b ?_ | refine add_a ?_ | refine sub_a ?_ | refine ld_a ?_ | refine ldA_a ?_ | refine ldS_a ?_ | refine ldNS_a ?_ | refine rdA_s ?_ | refine rd1_s ?_ | refine drew_a fun w1 H1 => ?_ | refine st_a fun w1 H1 => ?_ | refine stA_a fun w1 H1 => ?_ | refine lenT_a ?_ | refine lenO_a ?_ | refine ixT_a ?_ | refine ixO_a ?_ | fail)
      rw [List.take_of_length_le (by omega)] at hc
      have alls : ∀ {u x : Nat}, u < i + 1 → (u, x) ∈ es.map toN → (u < i ∨ (u = i ∧ x ∈ adjAt Prod.fst Prod.snd E' i)) := by
        intro u x hu he
        by_cases e : u = i
        · subst e; exact .inr ⟨rfl, adj_mem_h.2 (hp.symm.subset he)⟩
        · exact .inl (by omega)
      rcases hc with ⟨rfl, rfl, rfl, hc⟩ | ⟨t, l, df, rfl, rfl, ht, hts, hdf, hDf, hc⟩
      · exact hk (m - 1) _ _ _ _ _ _ _ _ (by omega) ⟨i + 1, sf, [], rfl, rfl, rfl, rfl, rfl, by omega, H.re, .inl ⟨rfl, rfl, rfl, fun u x hu he => hc u x (alls hu he) he⟩⟩
      · have hc' : CycS (es.map toN) (fun u _ => u < i + 1) t l := hc.mono (fun u x hh => by rcases hh with hh | ⟨hh, _⟩ <;> omega) fun u x hu he h0 => .inl (alls hu he)
        rcases hts with ⟨hts, _⟩ | ⟨rfl, rfl, rfl, e4⟩
        · exact hk (m - 1) _ _ _ _ _ _ _ _ (by omega) ⟨i + 1, sf, cf, rfl, rfl, rfl, rfl, rfl, by omega, H.re, .inr ⟨t, l, df, rfl, rfl, ht, hts, hdf, hDf, hc'⟩⟩
        · exact hk (m - 1) _ _ _ _ _ _ _ _ (by omega) ⟨i + 1, _, csd, rfl, rfl, rfl, rfl, rfl, by omega, H.re, .inr ⟨t, l, _, rfl, rfl, ht, hsd, hdf, hDf, hc'⟩⟩
  · obtain rfl : i = base.length := by omega
    unfold F21_j2
    rcases hc with ⟨rfl, rfl, rfl, hc⟩ | ⟨t, l, df, rfl, rfl, ht, hts, hdf, hDf, hc⟩
    · repeat (first | simp only [cI_enc, cE_enc, cN_enc, W0] | refine lss_a ?_ | refine lss_b ?_ | refine gtr_a ?_ | refine gtr_b ?_ | refine geq_a ?_ | refine geq_b ?_ | refine leq_a ?_ | refine leq_b ?_ | refine eql_a ?_ | refine eql_b ?_ | refine neq_a ?_ | refine neq_b ?_ | refine add_a ?_ | refine sub_a ?_ | refine ld_a ?_ | refine ldA_a ?_ | refine ldS_a ?_ | refine ldNS_a ?_ | refine rdA_s ?_ | refine rd1_s ?_ | refine drew_a fun w1 H1 => ?_ | refine st_a fun w1 H1 => ?_ | refine stA_a fun w1 H1 => ?_ | refine lenT_a ?_ | refine lenO_a ?_ | refine ixT_a ?_ | refine ixO_a ?_ | fail)
      exact .inr (.inl ⟨h, fun u hu x he => hc u x hu he, (by first | rfl | trivial), H.re⟩)
    · repeat (first | simp only [cI_enc, cE_enc, cN_enc, W0] | refine lss_a ?_ | refine lss_b ?_ | refine gtr_a ?_ | refine gtr_b ?_ | refine geq_a ?_ | refine geq_b ?_ | refine leq_a ?_ | refine leq_b ?_ | refine eql_a ?_ | refine eql_b ?_ | refine neq_a ?_ | refine neq_b ?_ | refine add_a ?_ | refine sub_a ?_ | refine ld_a ?_ | refine ldA_a ?_ | refine ldS_a ?_ | refine ldNS_a ?_ | refine rdA_s ?_ | refine rd1_s ?_ | refine drew_a fun w1 H1 => ?_ | refine st_a fun w1 H1 => ?_ | refine stA_a fun w1 H1 => ?_ | refine lenT_a ?_ | refine lenO_a ?_ | refine ixT_a ?_ | refine ixO_a ?_ | fail)
      have hE : ∀ u, u < base.length → gt df u = dst (es.map toN) t u := fun u hu => hDf.eq hu
      obtain ⟨y, y1, y2, y3, y4⟩ := hc.ex
      have hyn := (c5 _ y2).2
      have hyb : gt df y ≤ base.length := hDf.val_le c5 hyn
      have hye := hE y hyn
      refine lit1_t (C := cU) (x := t) elU H rfl (by decide) fun w s1 cs1 H hs1 => ?_
      refine cal_h (walk_spec hs1 hh (TS.tr hts) H csub csub hp hi c5 c1 hel ht hdf hDf (by omega) (.inr ⟨y, y2, by omega⟩)) ?_
      rintro _ w ⟨s, cs, rfl, H, hs⟩
      refine .inr (.inr ⟨h, s, cs, t, l, rfl, H.re, ⟨ht, ⟨y, y2, y3, y4⟩, fun u hu x he h0 => hc.min u x hu he h0⟩, hDf.dst, ?_⟩)
      rw [← chainP_congr hE]
      exact hs
end
end Go.Proofs.Ytagcifbfokneoaa.Den
end

section
set_option linter.unusedVariables false
set_option linter.unusedSimpArgs false
set_option maxRecDepth 8000
namespace Go.Proofs.Ytagcifbfokneoaa.Den
open Go Go.RowKit
section
variable {w w' w0 : World} {L L' F cs cs2 cs3 : List Chunk} {s s2 sb se sd : Value} {K : VK} {R : ER} {base d out : List Int} {E E' : List (Nat × Nat)} {es : List (Int × Int)} {n to i u x : Nat}
theorem toI {l : List Nat} (h : TR cU w0 cs s l) : TR cI w0 cs s (l.map fun n : Nat => (n : Int)) := h.recode rfl (by simp) (by simp [Cod.all, List.map_map]; rfl)
theorem Few_spec (h1 : TR cI w0 cs sb base) (h2 : TR cE w0 cs2 se es) (H : Hp w0 w L) : Calls Pg 11 ⟨[sb, se]⟩ w fun x w' => x = .returned (.bool (decide (base.length ≤ 30 ∧ es.length ≤ 60))) ∧ Hp w0 w' L := by
  apply F11_calls
  unfold F11
  repeat (first | simp only [cI_enc, cE_enc, cN_enc, W0] | refine lss_a ?_ | refine lss_b ?_ | refine gtr_a ?_ | refine gtr_b ?_ | refine geq_a ?_ | refine geq_b ?_ | refine leq_a ?_ | refine leq_b ?_ | refine eql_a ?_ | refine eql_b ?_ | refine neq_a ?_ | refine neq_b ?_ | refine add_a ?_ | refine sub_a ?_ | refine ld_a ?_ | refine ldA_a ?_ | refine ldS_a ?_ | refine ldNS_a ?_ | refine rdA_s ?_ | refine rd1_s ?_ | refine drew_a fun w1 H1 => ?_ | refine st_a fun w1 H1 => ?_ | refine stA_a fun w1 H1 => ?_ | refine lenT_a ?_ | refine lenO_a ?_ | refine ixT_a ?_ | refine ixO_a ?_ | fail)
  refine leq_k (fun h => ?_) (fun h => ?_)
  · repeat (first | simp only [cI_enc, cE_enc, cN_enc, W0] | refine lss_a ?_ | refine lss_b ?_ | refine gtr_a ?_ | refine gtr_b ?_ | refine geq_a ?_ | refine geq_b ?_ | refine leq_a ?_ | refine leq_b ?_ | refine eql_a ?_ | refine eql_b ?_ | refine neq_a ?_ | refine neq_b ?_ | refine add_a ?_ | refine sub_a ?_ | refine ld_a ?_ | refine ldA_a ?_ | refine ldS_a ?_ | refine ldNS_a ?_ | refine rdA_s ?_ | refine rd1_s ?_ | refine drew_a fun w1 H1 => ?_ | refine st_a fun w1 H1 => ?_ | refine stA_a fun w1 H1 => ?_ | refine lenT_a ?_ | refine lenO_a ?_ | refine ixT_a ?_ | refine ixO_a ?_ | fail)
    refine leq_k (fun h2 => ?_) (fun h2 => ?_)
    · repeat (first | simp only [cI_enc, cE_enc, cN_enc, W0] | refine lss_a ?_ | refine lss_b ?_ | refine gtr_a ?_ | refine gtr_b ?_ | refine geq_a ?_ | refine geq_b ?_ | refine leq_a ?_ | refine leq_b ?_ | refine eql_a ?_ | refine eql_b ?_ | refine neq_a ?_ | refine neq_b ?_ | refine add_a ?_ | refine sub_a ?_ | refine ld_a ?_ | refine ldA_a ?_ | refine ldS_a ?_ | refine ldNS_a ?_ | refine rdA_s ?_ | refine rd1_s ?_ | refine drew_a fun w1 H1 => ?_ | refine st_a fun w1 H1 => ?_ | refine stA_a fun w1 H1 => ?_ | refine lenT_a ?_ | refine lenO_a ?_ | refine ixT_a ?_ | refine ixO_a ?_ | fail)
      exact ⟨by rw [decide_eq_true]; omega, H⟩
    · repeat (first | simp only [cI_enc, cE_enc, cN_enc, W0] | refine lss_a ?_ | refine lss_b ?_ | refine gtr_a ?_ | refine gtr_b ?_ | refine geq_a ?_ | refine geq_b ?_ | refine leq_a ?_ | refine leq_b ?_ | refine eql_a ?_ | refine eql_b ?_ | refine neq_a ?_ | refine neq_b ?_ | refine add_a ?_ | refine sub_a ?_ | refine ld_a ?_ | refine ldA_a ?_ | refine ldS_a ?_ | refine ldNS_a ?_ | refine rdA_s ?_ | refine rd1_s ?_ | refine drew_a fun w1 H1 => ?_ | refine st_a fun w1 H1 => ?_ | refine stA_a fun w1 H1 => ?_ | refine lenT_a ?_ | refine lenO_a ?_ | refine ixT_a ?_ | refine ixO_a ?_ | fail)
      exact ⟨by rw [decide_eq_false]; omega, H⟩
  · repeat (first | simp only [cI_enc, cE_enc, cN_enc, W0] | refine lss_a ?_ | refine lss_b ?_ | refine gtr_a ?_ | refine gtr_b ?_ | refine geq_a ?_ | refine geq_b ?_ | refine leq_a ?_ | refine leq_b ?_ | refine eql_a ?_ | refine eql_b ?_ | refine neq_a ?_ | refine neq_b ?_ | refine add_a ?_ | refine sub_a ?_ | refine ld_a ?_ | refine ldA_a ?_ | refine ldS_a ?_ | refine ldNS_a ?_ | refine rdA_s ?_ | refine rd1_s ?_ | refine drew_a fun w1 H1 => ?_ | refine st_a fun w1 H1 => ?_ | refine stA_a fun w1 H1 => ?_ | refine lenT_a ?_ | refine lenO_a ?_ | refine ixT_a ?_ | refine ixO_a ?_ | fail)
    exact ⟨by rw [decide_eq_false]; omega, H⟩
theorem From_spec (h1 : TR cI w0 cs sb base) (h2 : TR cE w0 cs2 se es) (H : Hp w0 w L) : Calls Pg 15 ⟨[.agg ⟨[sb, se]⟩]⟩ w fun x w' => x = .returned (.agg ⟨[sb, se]⟩) ∧ Hp w0 w' L := by
  apply F15_calls
  unfold F15
  refine bx_m H fun w b H => ?_
  refine al_m (ys := [.slice none 0 0, .slice none 0 0]) H (by kernel_rfl) fun w b2 H => ?_
  have s1 := h1.sc
  have s2 := h2.sc
  repeat (first | simp only [cI_enc, cE_enc, cN_enc, W0] | refine lss_a ?_ | refine lss_b ?_ | refine gtr_a ?_ | refine gtr_b ?_ | refine geq_a ?_ | refine geq_b ?_ | refine leq_a ?_ | refine leq_b ?_ | refine eql_a ?_ | refine eql_b ?_ | refine neq_a ?_ | refine neq_b ?_ | refine add_a ?_ | refine sub_a ?_ | refine ld_a ?_ | refine ldA_a ?_ | refine ldS_a ?_ | refine ldNS_a ?_ | refine rdA_s ?_ | refine rd1_s ?_ | refine drew_a fun w1 H1 => ?_ | refine st_a fun w1 H1 => ?_ | refine stA_a fun w1 H1 => ?_ | refine lenT_a ?_ | refine lenO_a ?_ | refine ixT_a ?_ | refine ixO_a ?_ | fail)
  refine pv_of (v := .agg ⟨[sb, se]⟩) ?_ ?_
  · obtain ⟨k1, rfl⟩ := h1.sh
    obtain ⟨k2, rfl⟩ := h2.sh
    rfl
  refine stA_m H (by exact updd) rfl rfl (by intro c hc; simp at hc; rcases hc with rfl | rfl <;> assumption) fun w H => ?_
  repeat (first | simp only [cI_enc, cE_enc, cN_enc, W0] | refine lss_a ?_ | refine lss_b ?_ | refine gtr_a ?_ | refine gtr_b ?_ | refine geq_a ?_ | refine geq_b ?_ | refine leq_a ?_ | refine leq_b ?_ | refine eql_a ?_ | refine eql_b ?_ | refine neq_a ?_ | refine neq_b ?_ | refine add_a ?_ | refine sub_a ?_ | refine ld_a ?_ | refine ldA_a ?_ | refine ldS_a ?_ | refine ldNS_a ?_ | refine rdA_s ?_ | refine rd1_s ?_ | refine drew_a fun w1 H1 => ?_ | refine st_a fun w1 H1 => ?_ | refine stA_a fun w1 H1 => ?_ | refine lenT_a ?_ | refine lenO_a ?_ | refine ixT_a ?_ | refine ixO_a ?_ | fail)
  exact ⟨(by first | rfl | trivial), H.tail.tail⟩
def fA : Nat → Int := fun v => if v = 0 then 0 else if v = 1 then 2 else 1
theorem isD_A : IsD [(1, 2), (2, 0)] 3 0 fA := by
  have p2 : PathN [(1, 2), (2, 0)] 1 2 0 := .succ (by simp) (.zero _)
  have p1 : PathN [(1, 2), (2, 0)] 2 1 0 := .succ (by simp) p2
  refine IsD.of (by intro e he; simp at he; rcases he with rfl | rfl <;> decide) (by decide) (by intro e he h0; simp at he; rcases he with rfl | rfl <;> decide) (fun v hv h0 => ?_) (fun v hv h0 => ?_)
  · have : v = 0 ∨ v = 1 ∨ v = 2 := by omega
    rcases this with rfl | rfl | rfl
    · exact ⟨0, by decide, .zero _⟩
    · exact ⟨2, by decide, p1⟩
    · exact ⟨1, by decide, p2⟩
  · have : v = 0 ∨ v = 1 ∨ v = 2 := by omega
    rcases this with rfl | rfl | rfl <;> exact absurd h0 (by decide)
theorem isEff_A : IsEff [10, 20, 5] [(1, 2), (2, 0)] [20, 20, 20] := by
  have r12 : Reach [(1, 2), (2, 0)] 1 2 := .step (.refl _) (by simp)
  have r10 : Reach [(1, 2), (2, 0)] 1 0 := .step r12 (by simp)
  refine ⟨rfl, fun i hi => ?_, by intro e he; simp at he; rcases he with rfl | rfl <;> decide, fun i hi => ?_⟩
  · have : i = 0 ∨ i = 1 ∨ i = 2 := by simp at hi; omega
    rcases this with rfl | rfl | rfl <;> decide
  · have : i = 0 ∨ i = 1 ∨ i = 2 := by simp at hi; omega
    rcases this with rfl | rfl | rfl
    · exact ⟨1, by decide, r10, by decide⟩
    · exact ⟨1, by decide, .refl _, by decide⟩
    · exact ⟨1, by decide, r12, by decide⟩
def fB : Nat → Int := fun v => if v = 0 then 0 else 1
def fB' : Nat → Int := fun v => if v = 1 then 0 else 1
theorem isD_B : IsD [(0, 1), (1, 0)] 2 0 fB := by
  refine IsD.of (by intro e he; simp at he; rcases he with rfl | rfl <;> decide) (by decide) (by intro e he h0; simp at he; rcases he with rfl | rfl <;> decide) (fun v hv h0 => ?_) (fun v hv h0 => ?_)
  · have : v = 0 ∨ v = 1 := by omega
    rcases this with rfl | rfl
    · exact ⟨0, by decide, .zero _⟩
    · exact ⟨1, by decide, .succ (by simp) (.zero _)⟩
  · have : v = 0 ∨ v = 1 := by omega
    rcases this with rfl | rfl <;> exact absurd h0 (by decide)
theorem isD_B' : IsD [(0, 1), (1, 0)] 2 1 fB' := by
  refine IsD.of (by intro e he; simp at he; rcases he with rfl | rfl <;> decide) (by decide) (by intro e he h0; simp at he; rcases he with rfl | rfl <;> decide) (fun v hv h0 => ?_) (fun v hv h0 => ?_)
  · have : v = 0 ∨ v = 1 := by omega
    rcases this with rfl | rfl
    · exact ⟨1, by decide, .succ (by simp) (.zero _)⟩
    · exact ⟨0, by decide, .zero _⟩
  · have : v = 0 ∨ v = 1 := by omega
    rcases this with rfl | rfl <;> exact absurd h0 (by decide)
theorem cyc_B : Cyc [(0, 1), (1, 0)] 2 0 2 := by
  have d0 : dst [(0, 1), (1, 0)] 0 1 = 1 := by rw [← isD_B.eq (by decide)]; decide
  have d1 : dst [(0, 1), (1, 0)] 1 0 = 1 := by rw [← isD_B'.eq (by decide)]; decide
  refine ⟨by decide, ⟨1, by simp, by rw [d0]; decide, by rw [d0]; decide⟩, fun u hu h he h0 => ?_⟩
  simp at he
  rcases he with ⟨rfl, rfl⟩ | ⟨rfl, rfl⟩
  · rw [d0]; decide
  · rw [d1]; decide
theorem awake_spec (H : Hp w0 w L) : Calls Pg 12 ⟨[]⟩ w fun x w' => x = .returned (.bool true) ∧ Hp w0 w' L := by
  apply F12_calls
  unfold F12
  refine lit_t (C := cI) [10, 20, 5] elI H rfl (by decide) (by decide) rfl fun w sb cb H hb => ?_
  refine pv_of (v := .agg ⟨[I 1, I 2]⟩) rfl ?_
  refine pv_of (v := .agg ⟨[I 2, I 0]⟩) rfl ?_
  refine lit_t (C := cE) [(1, 2), (2, 0)] elE H rfl (by decide) (by decide) rfl fun w se ce H he => ?_
  have s1 := hb.sc
  have s2 := he.sc
  refine pv_of (v := .agg ⟨[sb, se]⟩) ?_ ?_
  · obtain ⟨k1, rfl⟩ := hb.sh
    obtain ⟨k2, rfl⟩ := he.sh
    rfl
  refine al_m (ys := [.slice none 0 0, .slice none 0 0]) H (by kernel_rfl) fun w b H => ?_
  repeat (first | simp only [cI_enc, cE_enc, cN_enc, W0] | refine lss_a ?_ | refine lss_b ?_ | refine gtr_a ?_ | refine gtr_b ?_ | refine geq_a ?_ | refine geq_b ?_ | refine leq_a ?_ | refine leq_b ?_ | refine eql_a ?_ | refine eql_b ?_ | refine neq_a ?_ | refine neq_b ?_ | refine add_a ?_ | refine sub_a ?_ | refine ld_a ?_ | refine ldA_a ?_ | refine ldS_a ?_ | refine ldNS_a ?_ | refine rdA_s ?_ | refine rd1_s ?_ | refine drew_a fun w1 H1 => ?_ | refine st_a fun w1 H1 => ?_ | refine stA_a fun w1 H1 => ?_ | refine lenT_a ?_ | refine lenO_a ?_ | refine ixT_a ?_ | refine ixO_a ?_ | fail)
  refine cal_h (Effective_spec hb.tr he.tr (by assumption) csub csub) ?_
  have c0 : chk [10, 20, 5] [(1, 2), (2, 0)] = 0 := by decide
  rintro _ w (⟨h, _⟩ | ⟨_, so, co, out, rfl, H, ho, hio⟩)
  · exact absurd c0 h
  obtain rfl : out = [20, 20, 20] := hio.unique isEff_A fun e => Iff.rfl
  repeat (first | simp only [cI_enc, cE_enc, cN_enc, W0] | refine lss_a ?_ | refine lss_b ?_ | refine gtr_a ?_ | refine gtr_b ?_ | refine geq_a ?_ | refine geq_b ?_ | refine leq_a ?_ | refine leq_b ?_ | refine eql_a ?_ | refine eql_b ?_ | refine neq_a ?_ | refine neq_b ?_ | refine add_a ?_ | refine sub_a ?_ | refine ld_a ?_ | refine ldA_a ?_ | refine ldS_a ?_ | refine ldNS_a ?_ | refine rdA_s ?_ | refine rd1_s ?_ | refine drew_a fun w1 H1 => ?_ | refine st_a fun w1 H1 => ?_ | refine stA_a fun w1 H1 => ?_ | refine lenT_a ?_ | refine lenO_a ?_ | refine ixT_a ?_ | refine ixO_a ?_ | fail)
  refine cal_h (Reason_spec (t := 0) hb.tr he.tr (by assumption) csub csub) ?_
  rintro _ w (⟨h, _⟩ | ⟨_, h, _⟩ | ⟨_, n, hn, _, sr, cr, out, bb, rfl, H, hio, hDr, hbb, hr⟩)
  · exact absurd c0 h
  · exact absurd h (by decide)
  obtain rfl : n = 0 := by omega
  obtain rfl : out = [20, 20, 20] := hio.unique isEff_A fun e => Iff.rfl
  have hA : ∀ u, u < 3 → dst (([(1, 2), (2, 0)] : List (Int × Int)).map toN) 0 u = fA u := fun u hu => (isD_A.eq hu).symm
  have hb1 : bb = 1 := by
    have := hbb.lt
    have hok := hbb.ok
    have : bb = 0 ∨ bb = 1 ∨ bb = 2 := by simp at this; omega
    rcases this with rfl | rfl | rfl
    · exact absurd hok (by decide)
    · rfl
    · exact absurd hok (by decide)
  subst hb1
  have er : chainP (([(1, 2), (2, 0)] : List (Int × Int)).map toN) 3 (dst (([(1, 2), (2, 0)] : List (Int × Int)).map toN) 0) (dst (([(1, 2), (2, 0)] : List (Int × Int)).map toN) 0 1).toNat 1 = [1, 2, 0] := by
    rw [hA 1 (by decide), chainP_congr hA]; decide
  rw [show ([10, 20, 5] : List Int).length = 3 from rfl, er] at hr
  repeat (first | simp only [cI_enc, cE_enc, cN_enc, W0] | refine lss_a ?_ | refine lss_b ?_ | refine gtr_a ?_ | refine gtr_b ?_ | refine geq_a ?_ | refine geq_b ?_ | refine leq_a ?_ | refine leq_b ?_ | refine eql_a ?_ | refine eql_b ?_ | refine neq_a ?_ | refine neq_b ?_ | refine add_a ?_ | refine sub_a ?_ | refine ld_a ?_ | refine ldA_a ?_ | refine ldS_a ?_ | refine ldNS_a ?_ | refine rdA_s ?_ | refine rd1_s ?_ | refine drew_a fun w1 H1 => ?_ | refine st_a fun w1 H1 => ?_ | refine stA_a fun w1 H1 => ?_ | refine lenT_a ?_ | refine lenO_a ?_ | refine ixT_a ?_ | refine ixO_a ?_ | fail)
  refine lit_t (C := cI) [1, 2] elI H rfl (by decide) (by decide) rfl fun w sb2 cb2 H hb2 => ?_
  refine pv_of (v := .agg ⟨[I 0, I 1]⟩) rfl ?_
  refine pv_of (v := .agg ⟨[I 1, I 0]⟩) rfl ?_
  refine lit_t (C := cE) [(0, 1), (1, 0)] elE H rfl (by decide) (by decide) rfl fun w se2 ce2 H he2 => ?_
  refine pv_of (v := .agg ⟨[sb2, se2]⟩) ?_ ?_
  · obtain ⟨k1, rfl⟩ := hb2.sh
    obtain ⟨k2, rfl⟩ := he2.sh
    rfl
  refine cal_h (Cycle_spec hb2.tr he2.tr H csub csub) ?_
  have c1 : chk [1, 2] [(0, 1), (1, 0)] = 0 := by decide
  rintro _ w (⟨h, _⟩ | ⟨_, h, _⟩ | ⟨_, sc, cc, t, l, rfl, H, hcy, _, hc⟩)
  · exact absurd c1 h
  · obtain ⟨x, x1, _, x2⟩ := cyc_B.ex
    exact absurd x2 (h 0 (by decide) x x1)
  obtain ⟨rfl, rfl⟩ := hcy.unique cyc_B
  have hB : ∀ u, u < 2 → dst (([(0, 1), (1, 0)] : List (Int × Int)).map toN) 0 u = fB u := fun u hu => (isD_B.eq hu).symm
  have ec : chainP (([(0, 1), (1, 0)] : List (Int × Int)).map toN) 2 (dst (([(0, 1), (1, 0)] : List (Int × Int)).map toN) 0) 2 0 = [0, 1, 0] := by
    rw [chainP_congr hB]; decide
  rw [show ([1, 2] : List Int).length = 2 from rfl, ec] at hc
  repeat (first | simp only [cI_enc, cE_enc, cN_enc, W0] | refine lss_a ?_ | refine lss_b ?_ | refine gtr_a ?_ | refine gtr_b ?_ | refine geq_a ?_ | refine geq_b ?_ | refine leq_a ?_ | refine leq_b ?_ | refine eql_a ?_ | refine eql_b ?_ | refine neq_a ?_ | refine neq_b ?_ | refine add_a ?_ | refine sub_a ?_ | refine ld_a ?_ | refine ldA_a ?_ | refine ldS_a ?_ | refine ldNS_a ?_ | refine rdA_s ?_ | refine rd1_s ?_ | refine drew_a fun w1 H1 => ?_ | refine st_a fun w1 H1 => ?_ | refine stA_a fun w1 H1 => ?_ | refine lenT_a ?_ | refine lenO_a ?_ | refine ixT_a ?_ | refine ixO_a ?_ | fail)
  refine lit_t (C := cI) [20, 20, 20] elI H rfl (by decide) (by decide) rfl fun w sx cx H hx => ?_
  refine cal_h (Equal_spec ho.tr hx.tr H csub csub (by decide)) ?_
  rintro _ w ⟨rfl, H⟩
  rw [decide_eq_true rfl]
  repeat (first | simp only [cI_enc, cE_enc, cN_enc, W0] | refine lss_a ?_ | refine lss_b ?_ | refine gtr_a ?_ | refine gtr_b ?_ | refine geq_a ?_ | refine geq_b ?_ | refine leq_a ?_ | refine leq_b ?_ | refine eql_a ?_ | refine eql_b ?_ | refine neq_a ?_ | refine neq_b ?_ | refine add_a ?_ | refine sub_a ?_ | refine ld_a ?_ | refine ldA_a ?_ | refine ldS_a ?_ | refine ldNS_a ?_ | refine rdA_s ?_ | refine rd1_s ?_ | refine drew_a fun w1 H1 => ?_ | refine st_a fun w1 H1 => ?_ | refine stA_a fun w1 H1 => ?_ | refine lenT_a ?_ | refine lenO_a ?_ | refine ixT_a ?_ | refine ixO_a ?_ | fail)
  refine lit_t (C := cI) [1, 2, 0] elI H rfl (by decide) (by decide) rfl fun w sy cy H hy => ?_
  refine cal_h (Equal_spec (toI hr.tr) hy.tr H csub csub (by decide)) ?_
  rintro _ w ⟨rfl, H⟩
  rw [show (decide (([1, 2, 0] : List Nat).map (fun n : Nat => (n : Int)) = [1, 2, 0])) = true from by decide]
  repeat (first | simp only [cI_enc, cE_enc, cN_enc, W0] | refine lss_a ?_ | refine lss_b ?_ | refine gtr_a ?_ | refine gtr_b ?_ | refine geq_a ?_ | refine geq_b ?_ | refine leq_a ?_ | refine leq_b ?_ | refine eql_a ?_ | refine eql_b ?_ | refine neq_a ?_ | refine neq_b ?_ | refine add_a ?_ | refine sub_a ?_ | refine ld_a ?_ | refine ldA_a ?_ | refine ldS_a ?_ | refine ldNS_a ?_ | refine rdA_s ?_ | refine rd1_s ?_ | refine drew_a fun w1 H1 => ?_ | refine st_a fun w1 H1 => ?_ | refine stA_a fun w1 H1 => ?_ | refine lenT_a ?_ | refine lenO_a ?_ | refine ixT_a ?_ | refine ixO_a ?_ | fail)
  refine lit_t (C := cI) [0, 1, 0] elI H rfl (by decide) (by decide) rfl fun w sz cz H hz => ?_
  refine cal_h (Equal_spec (toI hc.tr) hz.tr H csub csub (by decide)) ?_
  rintro _ w ⟨rfl, H⟩
  rw [show (decide (([0, 1, 0] : List Nat).map (fun n : Nat => (n : Int)) = [0, 1, 0])) = true from by decide]
  repeat (first | simp only [cI_enc, cE_enc, cN_enc, W0] | refine lss_a ?_ | refine lss_b ?_ | refine gtr_a ?_ | refine gtr_b ?_ | refine geq_a ?_ | refine geq_b ?_ | refine leq_a ?_ | refine leq_b ?_ | refine eql_a ?_ | refine eql_b ?_ | refine neq_a ?_ | refine neq_b ?_ | refine add_a ?_ | refine sub_a ?_ | refine ld_a ?_ | refine ldA_a ?_ | refine ldS_a ?_ | refine ldNS_a ?_ | refine rdA_s ?_ | refine rd1_s ?_ | refine drew_a fun w1 H1 => ?_ | refine st_a fun w1 H1 => ?_ | refine stA_a fun w1 H1 => ?_ | refine lenT_a ?_ | refine lenO_a ?_ | refine ixT_a ?_ | refine ixO_a ?_ | fail)
  exact ⟨(by first | rfl | trivial), H.re⟩
end
end Go.Proofs.Ytagcifbfokneoaa.Den
end

section
set_option linter.unusedVariables false
set_option linter.unusedSimpArgs false
set_option maxRecDepth 8000
set_option maxHeartbeats 1000000
namespace Go.Proofs.Ytagcifbfokneoaa.Den
open Go Go.RowKit
section
variable {w w' w0 : World} {L L' F cs cs2 cs3 : List Chunk} {s s2 sb se sd : Value} {K : VK} {R : ER} {base d out : List Int} {E E' : List (Nat × Nat)} {es : List (Int × Int)} {n to i u x : Nat}
theorem nxt_mem {f : Nat → Int} {k v : Nat} (h : ∃ t, t < n ∧ f t = k ∧ (v, t) ∈ E) : nxt E n f k v < n ∧ f (nxt E n f k v) = k ∧ (v, nxt E n f k v) ∈ E := by
  obtain ⟨t, h1, h2, h3⟩ := h
  unfold nxt
  cases hf : (List.range n).find? (fun t => decide (f t = k) && decide ((v, t) ∈ E)) with
  | none =>
    have := List.find?_eq_none.1 hf t (List.mem_range.2 h1)
    simp [h2, h3] at this
  | some y =>
    have hp := List.find?_some hf
    have hm := List.mem_of_find?_eq_some hf
    simp at hp
    exact ⟨List.mem_range.1 hm, hp.1, hp.2⟩
theorem Reach.pre {a b c : Nat} (he : (a, b) ∈ E) (h : Reach E b c) : Reach E a c := by
  induction h with
  | refl => exact .step (.refl _) he
  | step _ h2 ih => exact .step ih h2
theorem PathN.reach {k a b : Nat} (h : PathN E k a b) : Reach E a b := by
  induction h with
  | zero a => exact .refl _
  | succ h1 _ ih => exact .pre h1 ih
theorem IsD.reach {f : Nat → Int} {to v : Nat} (hf : IsD E n to f) (hv : v < n) (h : 0 ≤ f v) : Reach E v to := by
  obtain ⟨k, _, hp⟩ := hf.ex v hv h
  exact hp.reach
theorem chain_mem {f : Nat → Int} {to : Nat} (hf : IsD E n to f) (hV : Valid E n) : ∀ (k v : Nat), v < n → f v = (k : Int) → ∀ x ∈ chainP E n f k v, x < n ∧ Reach E v x ∧ Reach E x to
  | 0, v, hv, h => by
    intro x hx
    simp [chainP] at hx
    subst hx
    exact ⟨hv, .refl _, hf.reach hv (by omega)⟩
  | k + 1, v, hv, h => by
    intro x hx
    rw [chainP, List.mem_cons] at hx
    rcases hx with rfl | hx
    · exact ⟨hv, .refl _, hf.reach hv (by omega)⟩
    · obtain ⟨t, h1, h2, h3, _, h4⟩ := hf.least hV hv (k := k) (by omega)
      rw [h4] at hx
      obtain ⟨g1, g2, g3⟩ := chain_mem hf hV k t h1 h2 x hx
      exact ⟨g1, .pre h3 g2, g3⟩
theorem chain_last {f : Nat → Int} {to : Nat} (hf : IsD E n to f) (hV : Valid E n) : ∀ (k v : Nat), v < n → f v = (k : Int) → (chainP E n f k v)[k]? = some to
  | 0, v, hv, h => by
    obtain ⟨j, hj, hp⟩ := hf.ex v hv (by omega)
    obtain rfl : j = 0 := by omega
    cases hp
    rfl
  | k + 1, v, hv, h => by
    obtain ⟨t, h1, h2, h3, _, h4⟩ := hf.least hV hv (k := k) (by omega)
    rw [chainP, h4, List.getElem?_cons_succ]
    exact chain_last hf hV k t h1 h2
theorem chain_head {f : Nat → Int} : ∀ (k v : Nat), (chainP E n f k v)[0]? = some v
  | 0, v => rfl
  | k + 1, v => rfl
/-- The threads of the least cycle reach one another. -/
theorem Cyc.mem {t l : Nat} (h : Cyc E n t l) (hD : IsD E n t (dst E t)) (hV : Valid E n) : ∀ x ∈ chainP E n (dst E t) l t, x < n ∧ Reach E t x ∧ Reach E x t := by
  obtain ⟨y, y1, y2, y3⟩ := h.ex
  cases l with
  | zero => omega
  | succ k =>
    intro x hx
    obtain ⟨g1, g2, g3⟩ := nxt_mem (f := dst E t) (k := k) (v := t) (E := E) (n := n) ⟨y, (hV _ y1).2, by omega, y1⟩
    rw [chainP, List.mem_cons] at hx
    rcases hx with rfl | hx
    · exact ⟨h.lt, .refl _, .refl _⟩
    · obtain ⟨q1, q2, q3⟩ := chain_mem hD hV k _ g1 g2 x hx
      exact ⟨q1, .pre g3 q2, q3⟩
theorem bld2 {s1 s2 : Value} (h1 : scalar s1 = true) (h2 : scalar s2 = true) : bldO [.slice none 0 0, .slice none 0 0] [(0, 1, s1), (1, 1, s2)] = some (.agg ⟨[s1, s2]⟩) := by
  cases s1 <;> first | (simp [scalar] at h1; done) | (cases s2 <;> first | (simp [scalar] at h2; done) | rfl)
end
end Go.Proofs.Ytagcifbfokneoaa.Den
end

section
set_option linter.unusedVariables false
set_option linter.unusedSimpArgs false
set_option maxRecDepth 8000
set_option maxHeartbeats 1000000
namespace Go.Proofs.Ytagcifbfokneoaa.Den
open Go Go.RowKit
section
variable {w w' w0 : World} {L L' F cs cs2 cs3 cb ce : List Chunk} {s s2 sb se sd : Value} {K : VK} {R : ER} {base eff : List Int} {E E' : List (Nat × Nat)} {bt bm clock : Nat} {ents : List ((Int × Int) × Bool × Nat)}
theorem bld1 {s1 : Value} (h1 : scalar s1 = true) : bldO [.slice none 0 0, .slice none 0 0] [(0, 1, s1)] = some (.agg ⟨[s1, .slice none 0 0]⟩) := by
  cases s1 <;> first | (simp [scalar] at h1; done) | rfl
theorem ofN_toN {x : Int × Int} (h : x ∈ E.map ofN) : ofN (toN x) = x := by
  obtain ⟨e, _, rfl⟩ := List.mem_map.1 h
  rfl
theorem ofN_inj {x y : Nat × Nat} (h : ofN x = ofN y) : x = y := by
  simp [ofN] at h
  exact Prod.ext (by omega) (by omega)
theorem birth_inj (hw : MW ents clock) {e e' : (Int × Int) × Bool × Nat} (h : e ∈ ents) (h' : e' ∈ ents) (hb : e.2.2 = e'.2.2) : e = e' := by
  obtain ⟨i, hi, rfl⟩ := List.getElem_of_mem h
  obtain ⟨j, hj, rfl⟩ := List.getElem_of_mem h'
  have hp := List.pairwise_iff_getElem.1 hw.bn
  rcases Nat.lt_trichotomy i j with g | g | g
  · have := hp i j (by simpa using hi) (by simpa using hj) g
    simp at this; omega
  · subst g; rfl
  · have := hp j i (by simpa using hj) (by simpa using hi) g
    simp at this; omega
theorem key_inj (hw : MW ents clock) {e e' : (Int × Int) × Bool × Nat} (h : e ∈ ents) (h' : e' ∈ ents) (hb : e.1 = e'.1) : e = e' := by
  obtain ⟨i, hi, rfl⟩ := List.getElem_of_mem h
  obtain ⟨j, hj, rfl⟩ := List.getElem_of_mem h'
  have hp := List.pairwise_iff_getElem.1 (List.nodup_iff_pairwise_ne.1 hw.nd)
  rcases Nat.lt_trichotomy i j with g | g | g
  · have := hp i j (by simpa [mkeys] using hi) (by simpa [mkeys] using hj) g
    simp [mkeys] at this; exact absurd hb this
  · subst g; rfl
  · have := hp j i (by simpa [mkeys] using hj) (by simpa [mkeys] using hi) g
    simp [mkeys] at this; exact absurd hb.symm this
theorem nodup_sub_len : ∀ {l l' : List (Nat × Nat)}, l.Nodup → (∀ a ∈ l, a ∈ l') → l.length ≤ l'.length
  | [], _, _, _ => by simp
  | a :: l, l', hn, hs => by
    obtain ⟨h1, h2⟩ := List.nodup_cons.1 hn
    have ha := hs a (by simp)
    have := nodup_sub_len (l := l) (l' := l'.erase a) h2 fun b hb => (List.mem_erase_of_ne (by rintro rfl; exact h1 hb)).2 (hs b (by simp [hb]))
    rw [List.length_erase_of_mem ha] at this
    have := List.length_pos_of_mem ha
    simp only [List.length_cons]; omega
theorem graph_spec (hs1 : scalar sb = true) (hw : MW ents clock) (hk : mkeys ents = E.map ofN) (hnd : E.Nodup) (hl : E.length ≤ 2000)
    (H : Hp w0 w (⟨bt, 88, [sb, .map (some bm), se]⟩ :: ⟨bm, .o (mobj kE Value.bool ents clock), []⟩ :: F)) :
    Calls Pg 49 ⟨[ptr bt 0]⟩ w fun x w' => ∃ s' E' c', x = .returned (.agg ⟨[sb, s']⟩) ∧ Hp w0 w' (⟨bt, 88, [sb, .map (some bm), se]⟩ :: ⟨bm, .o (mobj kE Value.bool ents clock), []⟩ :: (c' ++ F)) ∧ TS cN 39 s' E' c' ∧ E'.Perm E ∧ Inc E' := by
  apply F49_calls
  unfold F49
  refine al_m (ys := [.slice none 0 0, .slice none 0 0]) (by assumption) (by kernel_rfl) fun w b2 H => ?_
  repeat (first | simp only [cI_enc, cE_enc, cN_enc, W0] | refine lss_a ?_ | refine lss_b ?_ | refine gtr_a ?_ | refine gtr_b ?_ | refine geq_a ?_ | refine geq_b ?_ | refine leq_a ?_ | refine leq_b ?_ | refine eql_a ?_ | refine eql_b ?_ | refine neq_a ?_ | refine neq_b ?_ | refine add_a ?_ | refine sub_a ?_ | refine ld_a ?_ | refine ldA_a ?_ | refine ldS_a ?_ | refine ldNS_a ?_ | refine rdA_s ?_ | refine rd1_s ?_ | refine drew_a fun w1 H1 => ?_ | refine st_a fun w1 H1 => ?_ | refine stA_a fun w1 H1 => ?_ | refine lenT_a ?_ | refine lenO_a ?_ | refine ixT_a ?_ | refine ixO_a ?_ | fail)
  refine pv_of (bld1 hs1) ?_
  refine al_m (ys := [.slice none 0 0, .slice none 0 0]) (by assumption) (by kernel_rfl) fun w b3 H => ?_
  repeat (first | simp only [cI_enc, cE_enc, cN_enc, W0] | refine lss_a ?_ | refine lss_b ?_ | refine gtr_a ?_ | refine gtr_b ?_ | refine geq_a ?_ | refine geq_b ?_ | refine leq_a ?_ | refine leq_b ?_ | refine eql_a ?_ | refine eql_b ?_ | refine neq_a ?_ | refine neq_b ?_ | refine add_a ?_ | refine sub_a ?_ | refine ld_a ?_ | refine ldA_a ?_ | refine ldS_a ?_ | refine ldNS_a ?_ | refine rdA_s ?_ | refine rd1_s ?_ | refine drew_a fun w1 H1 => ?_ | refine st_a fun w1 H1 => ?_ | refine stA_a fun w1 H1 => ?_ | refine lenT_a ?_ | refine lenO_a ?_ | refine ixT_a ?_ | refine ixO_a ?_ | fail)
  try unfold F49_j2
  repeat (first | simp only [cI_enc, cE_enc, cN_enc, W0] | refine lss_a ?_ | refine lss_b ?_ | refine gtr_a ?_ | refine gtr_b ?_ | refine geq_a ?_ | refine geq_b ?_ | refine leq_a ?_ | refine leq_b ?_ | refine eql_a ?_ | refine eql_b ?_ | refine neq_a ?_ | refine neq_b ?_ | refine add_a ?_ | refine sub_a ?_ | refine ld_a ?_ | refine ldA_a ?_ | refine ldS_a ?_ | refine ldNS_a ?_ | refine rdA_s ?_ | refine rd1_s ?_ | refine drew_a fun w1 H1 => ?_ | refine st_a fun w1 H1 => ?_ | refine stA_a fun w1 H1 => ?_ | refine lenT_a ?_ | refine lenO_a ?_ | refine ixT_a ?_ | refine ixO_a ?_ | fail)
  refine range_h mapE (by assumption) has fun w r H => ?_
  unfold F49_j3
  refine loop3 (F49_l1_succ _) (fun m x2 x3 x14 w => ∃ seen s cs dn c0, x2 = ptr b2 0 ∧ x3 = ptr b3 0 ∧ x14 = ptr r 0 ∧ clock ≤ c0 ∧ TS cN 39 s dn cs ∧ dn.Nodup ∧ (∀ e ∈ dn, e ∈ E) ∧ (∀ e ∈ ents, e.2.2 ∈ seen ↔ e.1 ∈ dn.map ofN) ∧ m + dn.length = E.length ∧
      Hp w0 w (⟨r, .o (iobj bm clock seen c0), []⟩ :: ⟨b3, 25, [sb, s]⟩ :: ⟨b2, 25, [.slice none 0 0, .slice none 0 0]⟩ :: ⟨bt, 88, [sb, .map (some bm), se]⟩ :: ⟨bm, .o (mobj kE Value.bool ents clock), []⟩ :: (cs ++ F))) ?_ (m := E.length)
    ⟨[], .slice none 0 0, [], [], clock, rfl, rfl, rfl, by omega, TS.nil, by simp, by simp, by simp, by simp, Hp.re (by assumption)⟩
  clear H
  rintro m k x2 x3 x14 w ⟨seen, s, cs, dn, c0, rfl, rfl, rfl, hc0, hs, hdn, hdE, hrel, hm, H⟩ hk'
  unfold F49_b1
  refine next_h H has (fun e he => hw.lt e he) hc0 (fun hall => ?_) (fun w e he hns H => ?_)
  · repeat (first | simp only [cI_enc, cE_enc, cN_enc, W0] | refine lss_a ?_ | refine lss_b ?_ | refine gtr_a ?_ | refine gtr_b ?_ | refine geq_a ?_ | refine geq_b ?_ | refine leq_a ?_ | refine leq_b ?_ | refine eql_a ?_ | refine eql_b ?_ | refine neq_a ?_ | refine neq_b ?_ | refine add_a ?_ | refine sub_a ?_ | refine ld_a ?_ | refine ldA_a ?_ | refine ldS_a ?_ | refine ldNS_a ?_ | refine rdA_s ?_ | refine rd1_s ?_ | refine drew_a fun w1 H1 => ?_ | refine st_a fun w1 H1 => ?_ | refine stA_a fun w1 H1 => ?_ | refine lenT_a ?_ | refine lenO_a ?_ | refine ixT_a ?_ | refine ixO_a ?_ | fail)
    try unfold F49_j1
    have hp : dn.Perm E := by
      refine (List.perm_ext_iff_of_nodup hdn hnd).2 fun x => ⟨hdE x, fun hx => ?_⟩
      have : ofN x ∈ mkeys ents := by rw [hk]; exact List.mem_map_of_mem hx
      obtain ⟨e, he, hee⟩ := List.mem_map.1 this
      have := (hrel e he).1 (hall e he)
      rw [hee] at this
      obtain ⟨y, hy, hyy⟩ := List.mem_map.1 this
      rw [← ofN_inj hyy]; exact hy
    repeat (first | simp only [cI_enc, cE_enc, cN_enc, W0] | refine lss_a ?_ | refine lss_b ?_ | refine gtr_a ?_ | refine gtr_b ?_ | refine geq_a ?_ | refine geq_b ?_ | refine leq_a ?_ | refine leq_b ?_ | refine eql_a ?_ | refine eql_b ?_ | refine neq_a ?_ | refine neq_b ?_ | refine add_a ?_ | refine sub_a ?_ | refine ld_a ?_ | refine ldA_a ?_ | refine ldS_a ?_ | refine ldNS_a ?_ | refine rdA_s ?_ | refine rd1_s ?_ | refine drew_a fun w1 H1 => ?_ | refine st_a fun w1 H1 => ?_ | refine stA_a fun w1 H1 => ?_ | refine lenT_a ?_ | refine lenO_a ?_ | refine ixT_a ?_ | refine ixO_a ?_ | fail)
    have q1 := hs.sc
    refine cal_h (sort_spec (F := ⟨r, .o (iobj bm clock seen c0), []⟩ :: ⟨b3, 25, [sb, s]⟩ :: ⟨b2, 25, [.slice none 0 0, .slice none 0 0]⟩ :: ⟨bt, 88, [sb, .map (some bm), se]⟩ :: ⟨bm, .o (mobj kE Value.bool ents clock), []⟩ :: F) hs (Hp.re (by assumption)) (by have := hp.length_eq; omega) hdn) ?_
    rintro _ w ⟨E', cs', rfl, H, hs', hp', hinc⟩
    repeat (first | simp only [cI_enc, cE_enc, cN_enc, W0] | refine lss_a ?_ | refine lss_b ?_ | refine gtr_a ?_ | refine gtr_b ?_ | refine geq_a ?_ | refine geq_b ?_ | refine leq_a ?_ | refine leq_b ?_ | refine eql_a ?_ | refine eql_b ?_ | refine neq_a ?_ | refine neq_b ?_ | refine add_a ?_ | refine sub_a ?_ | refine ld_a ?_ | refine ldA_a ?_ | refine ldS_a ?_ | refine ldNS_a ?_ | refine rdA_s ?_ | refine rd1_s ?_ | refine drew_a fun w1 H1 => ?_ | refine st_a fun w1 H1 => ?_ | refine stA_a fun w1 H1 => ?_ | refine lenT_a ?_ | refine lenO_a ?_ | refine ixT_a ?_ | refine ixO_a ?_ | fail)
    exact ⟨s, E', cs', rfl, Hp.re (by assumption), hs', hp'.trans hp, hinc⟩
  · repeat (first | simp only [cI_enc, cE_enc, cN_enc, W0] | refine lss_a ?_ | refine lss_b ?_ | refine gtr_a ?_ | refine gtr_b ?_ | refine geq_a ?_ | refine geq_b ?_ | refine leq_a ?_ | refine leq_b ?_ | refine eql_a ?_ | refine eql_b ?_ | refine neq_a ?_ | refine neq_b ?_ | refine add_a ?_ | refine sub_a ?_ | refine ld_a ?_ | refine ldA_a ?_ | refine ldS_a ?_ | refine ldNS_a ?_ | refine rdA_s ?_ | refine rd1_s ?_ | refine drew_a fun w1 H1 => ?_ | refine st_a fun w1 H1 => ?_ | refine stA_a fun w1 H1 => ?_ | refine lenT_a ?_ | refine lenO_a ?_ | refine ixT_a ?_ | refine ixO_a ?_ | fail)
    try unfold F49_j4
    obtain ⟨ek, ev, en⟩ := e
    have hek : ek ∈ E.map ofN := by rw [← hk]; exact List.mem_map_of_mem he
    obtain ⟨y, hy, rfl⟩ := List.mem_map.1 hek
    refine entry_h H has he hw ?_
    have hkE : kE (ofN y) = .agg ⟨[I (y.1 : Int), I (y.2 : Int)]⟩ := rfl
    have hyn : y ∉ dn := fun hy' => hns ((hrel _ he).2 (List.mem_map_of_mem hy'))
    have hlt : dn.length < E.length := by
      have := nodup_sub_len (l := dn ++ [y]) (l' := E) (by rw [List.nodup_append]; exact ⟨hdn, by simp, by simpa using fun a ha (h : a = y) => hyn (h ▸ ha)⟩) (by intro a ha; rcases List.mem_append.1 ha with h | h; exact hdE a h; simp at h; subst h; exact hy)
      simp at this
      omega
    rw [hkE]
    repeat (first | simp only [cI_enc, cE_enc, cN_enc, W0] | refine lss_a ?_ | refine lss_b ?_ | refine gtr_a ?_ | refine gtr_b ?_ | refine geq_a ?_ | refine geq_b ?_ | refine leq_a ?_ | refine leq_b ?_ | refine eql_a ?_ | refine eql_b ?_ | refine neq_a ?_ | refine neq_b ?_ | refine add_a ?_ | refine sub_a ?_ | refine ld_a ?_ | refine ldA_a ?_ | refine ldS_a ?_ | refine ldNS_a ?_ | refine rdA_s ?_ | refine rd1_s ?_ | refine drew_a fun w1 H1 => ?_ | refine st_a fun w1 H1 => ?_ | refine stA_a fun w1 H1 => ?_ | refine lenT_a ?_ | refine lenO_a ?_ | refine ixT_a ?_ | refine ixO_a ?_ | fail)
    refine al_m (ys := [I 0, I 0]) (by assumption) (by kernel_rfl) fun w b4 H => ?_
    repeat (first | simp only [cI_enc, cE_enc, cN_enc, W0] | refine lss_a ?_ | refine lss_b ?_ | refine gtr_a ?_ | refine gtr_b ?_ | refine geq_a ?_ | refine geq_b ?_ | refine leq_a ?_ | refine leq_b ?_ | refine eql_a ?_ | refine eql_b ?_ | refine neq_a ?_ | refine neq_b ?_ | refine add_a ?_ | refine sub_a ?_ | refine ld_a ?_ | refine ldA_a ?_ | refine ldS_a ?_ | refine ldNS_a ?_ | refine rdA_s ?_ | refine rd1_s ?_ | refine drew_a fun w1 H1 => ?_ | refine st_a fun w1 H1 => ?_ | refine stA_a fun w1 H1 => ?_ | refine lenT_a ?_ | refine lenO_a ?_ | refine ixT_a ?_ | refine ixO_a ?_ | fail)
    refine app1_t (C := cN) (x := y) elN (by assumption) hs spl rfl (by decide) (by omega) (by omega) fun w s' cs' H hs' => ?_
    have q1 := hs'.sc
    repeat (first | simp only [cI_enc, cE_enc, cN_enc, W0] | refine lss_a ?_ | refine lss_b ?_ | refine gtr_a ?_ | refine gtr_b ?_ | refine geq_a ?_ | refine geq_b ?_ | refine leq_a ?_ | refine leq_b ?_ | refine eql_a ?_ | refine eql_b ?_ | refine neq_a ?_ | refine neq_b ?_ | refine add_a ?_ | refine sub_a ?_ | refine ld_a ?_ | refine ldA_a ?_ | refine ldS_a ?_ | refine ldNS_a ?_ | refine rdA_s ?_ | refine rd1_s ?_ | refine drew_a fun w1 H1 => ?_ | refine st_a fun w1 H1 => ?_ | refine stA_a fun w1 H1 => ?_ | refine lenT_a ?_ | refine lenO_a ?_ | refine ixT_a ?_ | refine ixO_a ?_ | fail)
    refine hk' (m - 1) _ _ _ _ (by omega) ⟨seen ++ [en], s', cs', dn ++ [y], clock, rfl, rfl, rfl, by omega, hs', ?_, ?_, ?_, by simp; omega, Hp.re (by assumption)⟩
    · rw [List.nodup_append]; exact ⟨hdn, by simp, by simpa using fun a ha (h : a = y) => hyn (h ▸ ha)⟩
    · intro a ha; rcases List.mem_append.1 ha with h | h
      · exact hdE a h
      · simp at h; subst h; exact hy
    · intro e' he'
      rw [List.mem_append, List.map_append, List.mem_append, hrel e' he', List.mem_singleton, List.map_cons, List.map_nil, List.mem_singleton]
      exact or_congr_right ⟨fun h => by rw [birth_inj hw he' he h], fun h => by rw [key_inj hw he' he h]⟩
end
end Go.Proofs.Ytagcifbfokneoaa.Den
end

section
set_option linter.unusedVariables false
set_option linter.unusedSimpArgs false
set_option maxRecDepth 8000
set_option maxHeartbeats 1000000
namespace Go.Proofs.Ytagcifbfokneoaa.Den
open Go Go.RowKit
section
variable {w w' w0 : World} {L L' F cs cs2 cs3 : List Chunk} {s s2 sb se sd : Value} {K : VK} {R : ER} {xs ys : List (Int × Int)}
/-- Comparing lists of changes. -/
theorem changes_spec (h1 : TR cE w0 cs s xs) (h2 : TR cE w0 cs2 s2 ys) (H : Hp w0 w L) (m1 : ∀ c ∈ cs, c ∈ L) (m2 : ∀ c ∈ cs2, c ∈ L) (hl : xs.length < 2 ^ 62) :
    Calls Pg 52 ⟨[s, s2]⟩ w fun e w' => e = .returned (.bool (decide (xs = ys))) ∧ Hp w0 w' L := by
  apply F52_calls
  unfold F52
  by_cases hl2 : xs.length = ys.length
  rotate_left
  · refine pv_of (lenS_tr h1) ?_
    refine pv_of (lenS_tr h2) ?_
    repeat (first | simp only [cI_enc, cE_enc, cN_enc, W0] | refine lss_a ?_ | refine lss_b ?_ | refine gtr_a ?_ | refine gtr_b ?_ | refine geq_a ?_ | refine geq_b ?_ | refine leq_a ?_ | refine leq_b ?_ | refine eql_a ?_ | refine eql_b ?_ | refine neq_a ?_ | refine neq_b ?_ | refine add_a ?_ | refine sub_a ?_ | refine ld_a ?_ | refine ldA_a ?_ | refine ldS_a ?_ | refine ldNS_a ?_ | refine rdA_s ?_ | refine rd1_s ?_ | refine drew_a fun w1 H1 => ?_ | refine st_a fun w1 H1 => ?_ | refine stA_a fun w1 H1 => ?_ | refine lenT_a ?_ | refine lenO_a ?_ | refine ixT_a ?_ | refine ixO_a ?_ | fail)
    exact ⟨by rw [decide_eq_false (fun e => hl2 (by rw [e]))], by assumption⟩
  refine pv_of (lenS_tr h1) ?_
  refine pv_of (lenS_tr h2) ?_
  repeat (first | simp only [cI_enc, cE_enc, cN_enc, W0] | refine lss_a ?_ | refine lss_b ?_ | refine gtr_a ?_ | refine gtr_b ?_ | refine geq_a ?_ | refine geq_b ?_ | refine leq_a ?_ | refine leq_b ?_ | refine eql_a ?_ | refine eql_b ?_ | refine neq_a ?_ | refine neq_b ?_ | refine add_a ?_ | refine sub_a ?_ | refine ld_a ?_ | refine ldA_a ?_ | refine ldS_a ?_ | refine ldNS_a ?_ | refine rdA_s ?_ | refine rd1_s ?_ | refine drew_a fun w1 H1 => ?_ | refine st_a fun w1 H1 => ?_ | refine stA_a fun w1 H1 => ?_ | refine lenT_a ?_ | refine lenO_a ?_ | refine ixT_a ?_ | refine ixO_a ?_ | fail)
  unfold F52_j1 F52_j3 F52_j4
  refine loop3 (F52_l1_succ _) (fun m x0 x1 x5 w => ∃ i : Nat, x0 = s ∧ x1 = s2 ∧ x5 = I i ∧ m + i = xs.length ∧ xs.take i = ys.take i ∧ Hp w0 w L) ?_ (m := xs.length) ⟨0, rfl, rfl, rfl, by omega, by simp, by assumption⟩
  rintro m k x0 x1 x5 w ⟨i, rfl, rfl, rfl, hm, ht, H⟩ hk
  unfold F52_b1
  refine pv_of (lenS_tr h1) ?_
  by_cases hi : i < xs.length
  rotate_left
  · repeat (first | simp only [cI_enc, cE_enc, cN_enc, W0] | refine lss_a ?_ | refine lss_b ?_ | refine gtr_a ?_ | refine gtr_b ?_ | refine geq_a ?_ | refine geq_b ?_ | refine leq_a ?_ | refine leq_b ?_ | refine eql_a ?_ | refine eql_b ?_ | refine neq_a ?_ | refine neq_b ?_ | refine add_a ?_ | refine sub_a ?_ | refine ld_a ?_ | refine ldA_a ?_ | refine ldS_a ?_ | refine ldNS_a ?_ | refine rdA_s ?_ | refine rd1_s ?_ | refine drew_a fun w1 H1 => ?_ | refine st_a fun w1 H1 => ?_ | refine stA_a fun w1 H1 => ?_ | refine lenT_a ?_ | refine lenO_a ?_ | refine ixT_a ?_ | refine ixO_a ?_ | fail)
    rw [List.take_of_length_le (by omega), List.take_of_length_le (by omega)] at ht
    exact ⟨by rw [decide_eq_true ht], by assumption⟩
  have hx : xs[i]? = some xs[i] := List.getElem?_eq_getElem hi
  have hy : ys[i]? = some ys[i] := List.getElem?_eq_getElem (by omega)
  generalize xs[i] = x at hx
  generalize ys[i] = y at hy
  obtain ⟨a, b⟩ := x
  obtain ⟨c, d⟩ := y
  refine lss_y (by omega) ?_
  simp only [W0]
  unfold F52_j5
  refine drew_a fun w1 H1 => ?_
  refine ixF_t (C := cE) (f := 0) (v := I a) h1 H1 csub hx rfl ?_
  refine ixF_t (C := cE) (f := 0) (v := I c) h2 H1 csub hy rfl ?_
  have no : (a, b) ≠ (c, d) → xs ≠ ys := fun h e => h (by subst e; rw [hx] at hy; exact Option.some.inj hy)
  by_cases e1 : a = c
  rotate_left
  · repeat (first | simp only [cI_enc, cE_enc, cN_enc, W0] | refine lss_a ?_ | refine lss_b ?_ | refine gtr_a ?_ | refine gtr_b ?_ | refine geq_a ?_ | refine geq_b ?_ | refine leq_a ?_ | refine leq_b ?_ | refine eql_a ?_ | refine eql_b ?_ | refine neq_a ?_ | refine neq_b ?_ | refine add_a ?_ | refine sub_a ?_ | refine ld_a ?_ | refine ldA_a ?_ | refine ldS_a ?_ | refine ldNS_a ?_ | refine rdA_s ?_ | refine rd1_s ?_ | refine drew_a fun w1 H1 => ?_ | refine st_a fun w1 H1 => ?_ | refine stA_a fun w1 H1 => ?_ | refine lenT_a ?_ | refine lenO_a ?_ | refine ixT_a ?_ | refine ixO_a ?_ | fail)
    exact ⟨by rw [decide_eq_false (no fun h => e1 (congrArg Prod.fst h))], by assumption⟩
  refine neq_n (by omega) ?_
  simp only [W0]
  refine ixF_t (C := cE) (f := 1) (v := I b) h1 H1 csub hx rfl ?_
  refine ixF_t (C := cE) (f := 1) (v := I d) h2 H1 csub hy rfl ?_
  by_cases e2 : b = d
  rotate_left
  · repeat (first | simp only [cI_enc, cE_enc, cN_enc, W0] | refine lss_a ?_ | refine lss_b ?_ | refine gtr_a ?_ | refine gtr_b ?_ | refine geq_a ?_ | refine geq_b ?_ | refine leq_a ?_ | refine leq_b ?_ | refine eql_a ?_ | refine eql_b ?_ | refine neq_a ?_ | refine neq_b ?_ | refine add_a ?_ | refine sub_a ?_ | refine ld_a ?_ | refine ldA_a ?_ | refine ldS_a ?_ | refine ldNS_a ?_ | refine rdA_s ?_ | refine rd1_s ?_ | refine drew_a fun w1 H1 => ?_ | refine st_a fun w1 H1 => ?_ | refine stA_a fun w1 H1 => ?_ | refine lenT_a ?_ | refine lenO_a ?_ | refine ixT_a ?_ | refine ixO_a ?_ | fail)
    exact ⟨by rw [decide_eq_false (no fun h => e2 (congrArg Prod.snd h))], by assumption⟩
  repeat (first | simp only [cI_enc, cE_enc, cN_enc, W0] | refine lss_a ?_ | refine lss_b ?_ | refine gtr_a ?_ | refine gtr_b ?_ | refine geq_a ?_ | refine geq_b ?_ | refine leq_a ?_ | refine leq_b ?_ | refine eql_a ?_ | refine eql_b ?_ | refine neq_a ?_ | refine neq_b ?_ | refine add_a ?_ | refine sub_a ?_ | refine ld_a ?_ | refine ldA_a ?_ | refine ldS_a ?_ | refine ldNS_a ?_ | refine rdA_s ?_ | refine rd1_s ?_ | refine drew_a fun w1 H1 => ?_ | refine st_a fun w1 H1 => ?_ | refine stA_a fun w1 H1 => ?_ | refine lenT_a ?_ | refine lenO_a ?_ | refine ixT_a ?_ | refine ixO_a ?_ | fail)
  subst e1 e2
  refine hk (m - 1) _ _ _ _ (by omega) ⟨i + 1, rfl, rfl, rfl, by omega, ?_, by assumption⟩
  rw [List.take_add_one, List.take_add_one, ht, hx, hy]
theorem nil23 (H : Hp w0 w L) : Calls Pg 23 ⟨[.pointer none]⟩ w fun x w' => x = .returned (.agg ⟨[.slice none 0 0, .slice none 0 0]⟩) ∧ Hp w0 w' L := by
  apply F23_calls
  unfold F23
  refine al_m (ys := [.slice none 0 0, .slice none 0 0]) (by assumption) (by kernel_rfl) fun w b H => ?_
  repeat (first | simp only [cI_enc, cE_enc, cN_enc, W0] | refine lss_a ?_ | refine lss_b ?_ | refine gtr_a ?_ | refine gtr_b ?_ | refine geq_a ?_ | refine geq_b ?_ | refine leq_a ?_ | refine leq_b ?_ | refine eql_a ?_ | refine eql_b ?_ | refine neq_a ?_ | refine neq_b ?_ | refine add_a ?_ | refine sub_a ?_ | refine ld_a ?_ | refine ldA_a ?_ | refine ldS_a ?_ | refine ldNS_a ?_ | refine rdA_s ?_ | refine rd1_s ?_ | refine drew_a fun w1 H1 => ?_ | refine st_a fun w1 H1 => ?_ | refine stA_a fun w1 H1 => ?_ | refine lenT_a ?_ | refine lenO_a ?_ | refine ixT_a ?_ | refine ixO_a ?_ | fail)
  refine pv_of (v := .agg ⟨[.slice none 0 0, .slice none 0 0]⟩) rfl ?_
  repeat (first | simp only [cI_enc, cE_enc, cN_enc, W0] | refine lss_a ?_ | refine lss_b ?_ | refine gtr_a ?_ | refine gtr_b ?_ | refine geq_a ?_ | refine geq_b ?_ | refine leq_a ?_ | refine leq_b ?_ | refine eql_a ?_ | refine eql_b ?_ | refine neq_a ?_ | refine neq_b ?_ | refine add_a ?_ | refine sub_a ?_ | refine ld_a ?_ | refine ldA_a ?_ | refine ldS_a ?_ | refine ldNS_a ?_ | refine rdA_s ?_ | refine rd1_s ?_ | refine drew_a fun w1 H1 => ?_ | refine st_a fun w1 H1 => ?_ | refine stA_a fun w1 H1 => ?_ | refine lenT_a ?_ | refine lenO_a ?_ | refine ixT_a ?_ | refine ixO_a ?_ | fail)
  exact ⟨(by first | rfl | trivial), Hp.re (by assumption)⟩
theorem nil31 {a b : Int} (H : Hp w0 w L) : Calls Pg 31 ⟨[.pointer none, .agg ⟨[I a, I b]⟩]⟩ w fun x w' => x = .returned (.tuple ⟨[.slice none 0 0, I 35]⟩) ∧ Hp w0 w' L := by
  apply F31_calls
  unfold F31
  refine bx_m H fun w b H => ?_
  unfold F31_j2
  repeat (first | simp only [cI_enc, cE_enc, cN_enc, W0] | refine lss_a ?_ | refine lss_b ?_ | refine gtr_a ?_ | refine gtr_b ?_ | refine geq_a ?_ | refine geq_b ?_ | refine leq_a ?_ | refine leq_b ?_ | refine eql_a ?_ | refine eql_b ?_ | refine neq_a ?_ | refine neq_b ?_ | refine add_a ?_ | refine sub_a ?_ | refine ld_a ?_ | refine ldA_a ?_ | refine ldS_a ?_ | refine ldNS_a ?_ | refine rdA_s ?_ | refine rd1_s ?_ | refine drew_a fun w1 H1 => ?_ | refine st_a fun w1 H1 => ?_ | refine stA_a fun w1 H1 => ?_ | refine lenT_a ?_ | refine lenO_a ?_ | refine ixT_a ?_ | refine ixO_a ?_ | fail)
  unfold F31_j3
  repeat (first | simp only [cI_enc, cE_enc, cN_enc, W0] | refine lss_a ?_ | refine lss_b ?_ | refine gtr_a ?_ | refine gtr_b ?_ | refine geq_a ?_ | refine geq_b ?_ | refine leq_a ?_ | refine leq_b ?_ | refine eql_a ?_ | refine eql_b ?_ | refine neq_a ?_ | refine neq_b ?_ | refine add_a ?_ | refine sub_a ?_ | refine ld_a ?_ | refine ldA_a ?_ | refine ldS_a ?_ | refine ldNS_a ?_ | refine rdA_s ?_ | refine rd1_s ?_ | refine drew_a fun w1 H1 => ?_ | refine st_a fun w1 H1 => ?_ | refine stA_a fun w1 H1 => ?_ | refine lenT_a ?_ | refine lenO_a ?_ | refine ixT_a ?_ | refine ixO_a ?_ | fail)
  exact ⟨(by first | rfl | trivial), Hp.re (by assumption)⟩
theorem nil28 {a b : Int} (H : Hp w0 w L) : Calls Pg 28 ⟨[.pointer none, .agg ⟨[I a, I b]⟩]⟩ w fun x w' => x = .returned (.tuple ⟨[.slice none 0 0, I 35]⟩) ∧ Hp w0 w' L := by
  apply F28_calls
  unfold F28
  refine bx_m H fun w b H => ?_
  unfold F28_j2
  repeat (first | simp only [cI_enc, cE_enc, cN_enc, W0] | refine lss_a ?_ | refine lss_b ?_ | refine gtr_a ?_ | refine gtr_b ?_ | refine geq_a ?_ | refine geq_b ?_ | refine leq_a ?_ | refine leq_b ?_ | refine eql_a ?_ | refine eql_b ?_ | refine neq_a ?_ | refine neq_b ?_ | refine add_a ?_ | refine sub_a ?_ | refine ld_a ?_ | refine ldA_a ?_ | refine ldS_a ?_ | refine ldNS_a ?_ | refine rdA_s ?_ | refine rd1_s ?_ | refine drew_a fun w1 H1 => ?_ | refine st_a fun w1 H1 => ?_ | refine stA_a fun w1 H1 => ?_ | refine lenT_a ?_ | refine lenO_a ?_ | refine ixT_a ?_ | refine ixO_a ?_ | fail)
  unfold F28_j3
  repeat (first | simp only [cI_enc, cE_enc, cN_enc, W0] | refine lss_a ?_ | refine lss_b ?_ | refine gtr_a ?_ | refine gtr_b ?_ | refine geq_a ?_ | refine geq_b ?_ | refine leq_a ?_ | refine leq_b ?_ | refine eql_a ?_ | refine eql_b ?_ | refine neq_a ?_ | refine neq_b ?_ | refine add_a ?_ | refine sub_a ?_ | refine ld_a ?_ | refine ldA_a ?_ | refine ldS_a ?_ | refine ldNS_a ?_ | refine rdA_s ?_ | refine rd1_s ?_ | refine drew_a fun w1 H1 => ?_ | refine st_a fun w1 H1 => ?_ | refine stA_a fun w1 H1 => ?_ | refine lenT_a ?_ | refine lenO_a ?_ | refine ixT_a ?_ | refine ixO_a ?_ | fail)
  exact ⟨(by first | rfl | trivial), Hp.re (by assumption)⟩
theorem nil29 {a b : Int} (H : Hp w0 w L) : Calls Pg 29 ⟨[.pointer none, I a, I b]⟩ w fun x w' => x = .returned (.tuple ⟨[.slice none 0 0, I 35]⟩) ∧ Hp w0 w' L := by
  apply F29_calls
  unfold F29 F29_j2
  repeat (first | simp only [cI_enc, cE_enc, cN_enc, W0] | refine lss_a ?_ | refine lss_b ?_ | refine gtr_a ?_ | refine gtr_b ?_ | refine geq_a ?_ | refine geq_b ?_ | refine leq_a ?_ | refine leq_b ?_ | refine eql_a ?_ | refine eql_b ?_ | refine neq_a ?_ | refine neq_b ?_ | refine add_a ?_ | refine sub_a ?_ | refine ld_a ?_ | refine ldA_a ?_ | refine ldS_a ?_ | refine ldNS_a ?_ | refine rdA_s ?_ | refine rd1_s ?_ | refine drew_a fun w1 H1 => ?_ | refine st_a fun w1 H1 => ?_ | refine stA_a fun w1 H1 => ?_ | refine lenT_a ?_ | refine lenO_a ?_ | refine ixT_a ?_ | refine ixO_a ?_ | fail)
  unfold F29_j3
  repeat (first | simp only [cI_enc, cE_enc, cN_enc, W0] | refine lss_a ?_ | refine lss_b ?_ | refine gtr_a ?_ | refine gtr_b ?_ | refine geq_a ?_ | refine geq_b ?_ | refine leq_a ?_ | refine leq_b ?_ | refine eql_a ?_ | refine eql_b ?_ | refine neq_a ?_ | refine neq_b ?_ | refine add_a ?_ | refine sub_a ?_ | refine ld_a ?_ | refine ldA_a ?_ | refine ldS_a ?_ | refine ldNS_a ?_ | refine rdA_s ?_ | refine rd1_s ?_ | refine drew_a fun w1 H1 => ?_ | refine st_a fun w1 H1 => ?_ | refine stA_a fun w1 H1 => ?_ | refine lenT_a ?_ | refine lenO_a ?_ | refine ixT_a ?_ | refine ixO_a ?_ | fail)
  exact ⟨(by first | rfl | trivial), by assumption⟩
theorem nil30 (H : Hp w0 w L) : Calls Pg 30 ⟨[.pointer none, s]⟩ w fun x w' => x = .returned (.tuple ⟨[.slice none 0 0, I 35]⟩) ∧ Hp w0 w' L := by
  apply F30_calls
  unfold F30
  repeat (first | simp only [cI_enc, cE_enc, cN_enc, W0] | refine lss_a ?_ | refine lss_b ?_ | refine gtr_a ?_ | refine gtr_b ?_ | refine geq_a ?_ | refine geq_b ?_ | refine leq_a ?_ | refine leq_b ?_ | refine eql_a ?_ | refine eql_b ?_ | refine neq_a ?_ | refine neq_b ?_ | refine add_a ?_ | refine sub_a ?_ | refine ld_a ?_ | refine ldA_a ?_ | refine ldS_a ?_ | refine ldNS_a ?_ | refine rdA_s ?_ | refine rd1_s ?_ | refine drew_a fun w1 H1 => ?_ | refine st_a fun w1 H1 => ?_ | refine stA_a fun w1 H1 => ?_ | refine lenT_a ?_ | refine lenO_a ?_ | refine ixT_a ?_ | refine ixO_a ?_ | fail)
  exact ⟨(by first | rfl | trivial), by assumption⟩
theorem nil32 {a : Int} (H : Hp w0 w L) : Calls Pg 32 ⟨[.pointer none, I a]⟩ w fun x w' => x = .returned (.tuple ⟨[I 0, I 35]⟩) ∧ Hp w0 w' L := by
  apply F32_calls
  unfold F32
  repeat (first | simp only [cI_enc, cE_enc, cN_enc, W0] | refine lss_a ?_ | refine lss_b ?_ | refine gtr_a ?_ | refine gtr_b ?_ | refine geq_a ?_ | refine geq_b ?_ | refine leq_a ?_ | refine leq_b ?_ | refine eql_a ?_ | refine eql_b ?_ | refine neq_a ?_ | refine neq_b ?_ | refine add_a ?_ | refine sub_a ?_ | refine ld_a ?_ | refine ldA_a ?_ | refine ldS_a ?_ | refine ldNS_a ?_ | refine rdA_s ?_ | refine rd1_s ?_ | refine drew_a fun w1 H1 => ?_ | refine st_a fun w1 H1 => ?_ | refine stA_a fun w1 H1 => ?_ | refine lenT_a ?_ | refine lenO_a ?_ | refine ixT_a ?_ | refine ixO_a ?_ | fail)
  exact ⟨(by first | rfl | trivial), by assumption⟩
theorem nil56 {a b : Int} (H : Hp w0 w L) : Calls Pg 56 ⟨[.pointer none, .agg ⟨[I a, I b]⟩]⟩ w fun x w' => x = .returned (.tuple ⟨[.slice none 0 0, I 35]⟩) ∧ Hp w0 w' L := by
  apply F56_calls
  unfold F56
  refine bx_m H fun w b H => ?_
  repeat (first | simp only [cI_enc, cE_enc, cN_enc, W0] | refine lss_a ?_ | refine lss_b ?_ | refine gtr_a ?_ | refine gtr_b ?_ | refine geq_a ?_ | refine geq_b ?_ | refine leq_a ?_ | refine leq_b ?_ | refine eql_a ?_ | refine eql_b ?_ | refine neq_a ?_ | refine neq_b ?_ | refine add_a ?_ | refine sub_a ?_ | refine ld_a ?_ | refine ldA_a ?_ | refine ldS_a ?_ | refine ldNS_a ?_ | refine rdA_s ?_ | refine rd1_s ?_ | refine drew_a fun w1 H1 => ?_ | refine st_a fun w1 H1 => ?_ | refine stA_a fun w1 H1 => ?_ | refine lenT_a ?_ | refine lenO_a ?_ | refine ixT_a ?_ | refine ixO_a ?_ | fail)
  exact ⟨(by first | rfl | trivial), Hp.re (by assumption)⟩
theorem nil51 {a b : Int} (H : Hp w0 w L) : Calls Pg 51 ⟨[.pointer none, .agg ⟨[I a, I b]⟩]⟩ w fun x w' => x = .returned (.tuple ⟨[.slice none 0 0, I 35]⟩) ∧ Hp w0 w' L := by
  apply F51_calls
  unfold F51
  refine bx_m H fun w b H => ?_
  repeat (first | simp only [cI_enc, cE_enc, cN_enc, W0] | refine lss_a ?_ | refine lss_b ?_ | refine gtr_a ?_ | refine gtr_b ?_ | refine geq_a ?_ | refine geq_b ?_ | refine leq_a ?_ | refine leq_b ?_ | refine eql_a ?_ | refine eql_b ?_ | refine neq_a ?_ | refine neq_b ?_ | refine add_a ?_ | refine sub_a ?_ | refine ld_a ?_ | refine ldA_a ?_ | refine ldS_a ?_ | refine ldNS_a ?_ | refine rdA_s ?_ | refine rd1_s ?_ | refine drew_a fun w1 H1 => ?_ | refine st_a fun w1 H1 => ?_ | refine stA_a fun w1 H1 => ?_ | refine lenT_a ?_ | refine lenO_a ?_ | refine ixT_a ?_ | refine ixO_a ?_ | fail)
  exact ⟨(by first | rfl | trivial), Hp.re (by assumption)⟩
theorem nil53 {a b : Int} (H : Hp w0 w L) : Calls Pg 53 ⟨[.pointer none, I a, I b]⟩ w fun x w' => x = .returned (.tuple ⟨[.slice none 0 0, I 35]⟩) ∧ Hp w0 w' L := by
  apply F53_calls
  unfold F53
  repeat (first | simp only [cI_enc, cE_enc, cN_enc, W0] | refine lss_a ?_ | refine lss_b ?_ | refine gtr_a ?_ | refine gtr_b ?_ | refine geq_a ?_ | refine geq_b ?_ | refine leq_a ?_ | refine leq_b ?_ | refine eql_a ?_ | refine eql_b ?_ | refine neq_a ?_ | refine neq_b ?_ | refine add_a ?_ | refine sub_a ?_ | refine ld_a ?_ | refine ldA_a ?_ | refine ldS_a ?_ | refine ldNS_a ?_ | refine rdA_s ?_ | refine rd1_s ?_ | refine drew_a fun w1 H1 => ?_ | refine st_a fun w1 H1 => ?_ | refine stA_a fun w1 H1 => ?_ | refine lenT_a ?_ | refine lenO_a ?_ | refine ixT_a ?_ | refine ixO_a ?_ | fail)
  exact ⟨(by first | rfl | trivial), by assumption⟩
theorem nil54 (H : Hp w0 w L) : Calls Pg 54 ⟨[.pointer none, s]⟩ w fun x w' => x = .returned (.tuple ⟨[.slice none 0 0, I 35]⟩) ∧ Hp w0 w' L := by
  apply F54_calls
  unfold F54
  repeat (first | simp only [cI_enc, cE_enc, cN_enc, W0] | refine lss_a ?_ | refine lss_b ?_ | refine gtr_a ?_ | refine gtr_b ?_ | refine geq_a ?_ | refine geq_b ?_ | refine leq_a ?_ | refine leq_b ?_ | refine eql_a ?_ | refine eql_b ?_ | refine neq_a ?_ | refine neq_b ?_ | refine add_a ?_ | refine sub_a ?_ | refine ld_a ?_ | refine ldA_a ?_ | refine ldS_a ?_ | refine ldNS_a ?_ | refine rdA_s ?_ | refine rd1_s ?_ | refine drew_a fun w1 H1 => ?_ | refine st_a fun w1 H1 => ?_ | refine stA_a fun w1 H1 => ?_ | refine lenT_a ?_ | refine lenO_a ?_ | refine ixT_a ?_ | refine ixO_a ?_ | fail)
  exact ⟨(by first | rfl | trivial), by assumption⟩
theorem nil55 {a : Int} (H : Hp w0 w L) : Calls Pg 55 ⟨[.pointer none, I a]⟩ w fun x w' => x = .returned (.tuple ⟨[I 0, I 35]⟩) ∧ Hp w0 w' L := by
  apply F55_calls
  unfold F55
  repeat (first | simp only [cI_enc, cE_enc, cN_enc, W0] | refine lss_a ?_ | refine lss_b ?_ | refine gtr_a ?_ | refine gtr_b ?_ | refine geq_a ?_ | refine geq_b ?_ | refine leq_a ?_ | refine leq_b ?_ | refine eql_a ?_ | refine eql_b ?_ | refine neq_a ?_ | refine neq_b ?_ | refine add_a ?_ | refine sub_a ?_ | refine ld_a ?_ | refine ldA_a ?_ | refine ldS_a ?_ | refine ldNS_a ?_ | refine rdA_s ?_ | refine rd1_s ?_ | refine drew_a fun w1 H1 => ?_ | refine st_a fun w1 H1 => ?_ | refine stA_a fun w1 H1 => ?_ | refine lenT_a ?_ | refine lenO_a ?_ | refine ixT_a ?_ | refine ixO_a ?_ | fail)
  exact ⟨(by first | rfl | trivial), by assumption⟩
end
end Go.Proofs.Ytagcifbfokneoaa.Den
end
