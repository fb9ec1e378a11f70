/- Channels: orders compared, bounds. Conditions: none. -/
import Derived.Test.YtmkcjopacmadhaaGreatChT
import Derived.Test.YtmkcjopacmadhaaGreatChS
import Derived.Test.YtmkcjopacmadhaaGreatFns
set_option linter.unusedVariables false
set_option linter.unusedSimpArgs false
set_option maxRecDepth 8000
set_option maxHeartbeats 1000000
namespace Go.Proofs.YtmkcjopacmadhaaGreat.Den
open Go Go.RowKit
section
variable {w w' w0 : World} {L L' F cs cs2 cs3 : List Chunk} {s s2 : Value} {K : VK} {R : ER} {n m x y : Int}
theorem within_spec (H : Hp w0 w L) : Calls Pg 78 ⟨[I n, I m]⟩ w fun x w' => x = .returned (.bool (decide (0 ≤ n ∧ n ≤ m))) ∧ Hp w0 w' L := by
  apply F78_calls
  unfold F78
  by_cases h1 : 0 ≤ n
  · by_cases h2 : n ≤ m
    · repeat (first | simp only [W0] | refine lss_a ?_ | refine lss_b ?_ | refine gtr_a ?_ | refine gtr_b ?_ | refine geq_a ?_ | refine geq_b ?_ | refine leq_a ?_ | refine leq_b ?_ | refine eql_a ?_ | refine eql_b ?_ | refine neq_a ?_ | refine neq_b ?_ | refine add_a ?_ | refine sub_a ?_ | refine ld_a ?_ | refine ldA_a ?_ | refine ldS_a ?_ | refine ldNS_a ?_ | refine rdA_s ?_ | refine rd1_s ?_ | refine drew_a fun w1 H1 => ?_ | refine st_a fun w1 H1 => ?_ | refine stA_a fun w1 H1 => ?_ | refine lenT_a ?_ | refine lenO_a ?_ | refine ixT_a ?_ | refine ixO_a ?_ | refine bld_a ?_ | refine min_a ?_ | refine max_a ?_ | fail)
      exact ⟨by rw [decide_eq_true ⟨h1, h2⟩], H⟩
    · repeat (first | simp only [W0] | refine lss_a ?_ | refine lss_b ?_ | refine gtr_a ?_ | refine gtr_b ?_ | refine geq_a ?_ | refine geq_b ?_ | refine leq_a ?_ | refine leq_b ?_ | refine eql_a ?_ | refine eql_b ?_ | refine neq_a ?_ | refine neq_b ?_ | refine add_a ?_ | refine sub_a ?_ | refine ld_a ?_ | refine ldA_a ?_ | refine ldS_a ?_ | refine ldNS_a ?_ | refine rdA_s ?_ | refine rd1_s ?_ | refine drew_a fun w1 H1 => ?_ | refine st_a fun w1 H1 => ?_ | refine stA_a fun w1 H1 => ?_ | refine lenT_a ?_ | refine lenO_a ?_ | refine ixT_a ?_ | refine ixO_a ?_ | refine bld_a ?_ | refine min_a ?_ | refine max_a ?_ | fail)
      exact ⟨by rw [decide_eq_false fun h => h2 h.2], H⟩
  · repeat (first | simp only [W0] | refine lss_a ?_ | refine lss_b ?_ | refine gtr_a ?_ | refine gtr_b ?_ | refine geq_a ?_ | refine geq_b ?_ | refine leq_a ?_ | refine leq_b ?_ | refine eql_a ?_ | refine eql_b ?_ | refine neq_a ?_ | refine neq_b ?_ | refine add_a ?_ | refine sub_a ?_ | refine ld_a ?_ | refine ldA_a ?_ | refine ldS_a ?_ | refine ldNS_a ?_ | refine rdA_s ?_ | refine rd1_s ?_ | refine drew_a fun w1 H1 => ?_ | refine st_a fun w1 H1 => ?_ | refine stA_a fun w1 H1 => ?_ | refine lenT_a ?_ | refine lenO_a ?_ | refine ixT_a ?_ | refine ixO_a ?_ | refine bld_a ?_ | refine min_a ?_ | refine max_a ?_ | fail)
    exact ⟨by rw [decide_eq_false fun h => h1 h.1], H⟩
theorem process_spec (H : Hp w0 w L) : Calls Pg 74 ⟨[I n]⟩ w fun x w' => x = .returned (.bool (decide (proc n))) ∧ Hp w0 w' L := by
  apply F74_calls
  unfold F74
  refine cal_h (within_spec H) ?_
  rintro _ w ⟨rfl, H⟩
  exact ⟨rfl, H⟩
theorem thread_spec (H : Hp w0 w L) : Calls Pg 77 ⟨[I n]⟩ w fun x w' => x = .returned (.bool (decide (thr n))) ∧ Hp w0 w' L := by
  apply F77_calls
  unfold F77
  refine cal_h (within_spec H) ?_
  rintro _ w ⟨rfl, H⟩
  exact ⟨rfl, H⟩
def cmpv (x y : Int) : Int := if x < y then -1 else if y < x then 1 else 0
theorem nan_spec (H : Hp w0 w L) : Calls Pg 108 ⟨[I n]⟩ w fun x w' => x = .returned (.bool false) ∧ Hp w0 w' L := by
  apply F108_calls
  unfold F108
  repeat (first | simp only [W0] | refine lss_a ?_ | refine lss_b ?_ | refine gtr_a ?_ | refine gtr_b ?_ | refine geq_a ?_ | refine geq_b ?_ | refine leq_a ?_ | refine leq_b ?_ | refine eql_a ?_ | refine eql_b ?_ | refine neq_a ?_ | refine neq_b ?_ | refine add_a ?_ | refine sub_a ?_ | refine ld_a ?_ | refine ldA_a ?_ | refine ldS_a ?_ | refine ldNS_a ?_ | refine rdA_s ?_ | refine rd1_s ?_ | refine drew_a fun w1 H1 => ?_ | refine st_a fun w1 H1 => ?_ | refine stA_a fun w1 H1 => ?_ | refine lenT_a ?_ | refine lenO_a ?_ | refine ixT_a ?_ | refine ixO_a ?_ | refine bld_a ?_ | refine min_a ?_ | refine max_a ?_ | fail)
  exact ⟨(by first | rfl | trivial), H⟩
theorem cmp_spec (H : Hp w0 w L) : Calls Pg 43 ⟨[I x, I y]⟩ w fun e w' => e = .returned (I (cmpv x y)) ∧ Hp w0 w' L := by
  apply F43_calls
  unfold F43
  refine cal_h (nan_spec H) ?_
  rintro _ w ⟨rfl, H⟩
  repeat (first | simp only [W0] | refine lss_a ?_ | refine lss_b ?_ | refine gtr_a ?_ | refine gtr_b ?_ | refine geq_a ?_ | refine geq_b ?_ | refine leq_a ?_ | refine leq_b ?_ | refine eql_a ?_ | refine eql_b ?_ | refine neq_a ?_ | refine neq_b ?_ | refine add_a ?_ | refine sub_a ?_ | refine ld_a ?_ | refine ldA_a ?_ | refine ldS_a ?_ | refine ldNS_a ?_ | refine rdA_s ?_ | refine rd1_s ?_ | refine drew_a fun w1 H1 => ?_ | refine st_a fun w1 H1 => ?_ | refine stA_a fun w1 H1 => ?_ | refine lenT_a ?_ | refine lenO_a ?_ | refine ixT_a ?_ | refine ixO_a ?_ | refine bld_a ?_ | refine min_a ?_ | refine max_a ?_ | fail)
  refine cal_h (nan_spec (by assumption)) ?_
  rintro _ w ⟨rfl, H⟩
  repeat (first | simp only [W0] | refine lss_a ?_ | refine lss_b ?_ | refine gtr_a ?_ | refine gtr_b ?_ | refine geq_a ?_ | refine geq_b ?_ | refine leq_a ?_ | refine leq_b ?_ | refine eql_a ?_ | refine eql_b ?_ | refine neq_a ?_ | refine neq_b ?_ | refine add_a ?_ | refine sub_a ?_ | refine ld_a ?_ | refine ldA_a ?_ | refine ldS_a ?_ | refine ldNS_a ?_ | refine rdA_s ?_ | refine rd1_s ?_ | refine drew_a fun w1 H1 => ?_ | refine st_a fun w1 H1 => ?_ | refine stA_a fun w1 H1 => ?_ | refine lenT_a ?_ | refine lenO_a ?_ | refine ixT_a ?_ | refine ixO_a ?_ | refine bld_a ?_ | refine min_a ?_ | refine max_a ?_ | fail)
  unfold F43_j1 cmpv
  by_cases h1 : x < y
  · repeat (first | simp only [W0] | refine lss_a ?_ | refine lss_b ?_ | refine gtr_a ?_ | refine gtr_b ?_ | refine geq_a ?_ | refine geq_b ?_ | refine leq_a ?_ | refine leq_b ?_ | refine eql_a ?_ | refine eql_b ?_ | refine neq_a ?_ | refine neq_b ?_ | refine add_a ?_ | refine sub_a ?_ | refine ld_a ?_ | refine ldA_a ?_ | refine ldS_a ?_ | refine ldNS_a ?_ | refine rdA_s ?_ | refine rd1_s ?_ | refine drew_a fun w1 H1 => ?_ | refine st_a fun w1 H1 => ?_ | refine stA_a fun w1 H1 => ?_ | refine lenT_a ?_ | refine lenO_a ?_ | refine ixT_a ?_ | refine ixO_a ?_ | refine bld_a ?_ | refine min_a ?_ | refine max_a ?_ | fail)
    rw [if_pos h1]; exact ⟨rfl, H⟩
  · by_cases h2 : y < x
    · repeat (first | simp only [W0] | refine lss_a ?_ | refine lss_b ?_ | refine gtr_a ?_ | refine gtr_b ?_ | refine geq_a ?_ | refine geq_b ?_ | refine leq_a ?_ | refine leq_b ?_ | refine eql_a ?_ | refine eql_b ?_ | refine neq_a ?_ | refine neq_b ?_ | refine add_a ?_ | refine sub_a ?_ | refine ld_a ?_ | refine ldA_a ?_ | refine ldS_a ?_ | refine ldNS_a ?_ | refine rdA_s ?_ | refine rd1_s ?_ | refine drew_a fun w1 H1 => ?_ | refine st_a fun w1 H1 => ?_ | refine stA_a fun w1 H1 => ?_ | refine lenT_a ?_ | refine lenO_a ?_ | refine ixT_a ?_ | refine ixO_a ?_ | refine bld_a ?_ | refine min_a ?_ | refine max_a ?_ | fail)
      rw [if_neg h1, if_pos h2]; exact ⟨rfl, H⟩
    · repeat (first | simp only [W0] | refine lss_a ?_ | refine lss_b ?_ | refine gtr_a ?_ | refine gtr_b ?_ | refine geq_a ?_ | refine geq_b ?_ | refine leq_a ?_ | refine leq_b ?_ | refine eql_a ?_ | refine eql_b ?_ | refine neq_a ?_ | refine neq_b ?_ | refine add_a ?_ | refine sub_a ?_ | refine ld_a ?_ | refine ldA_a ?_ | refine ldS_a ?_ | refine ldNS_a ?_ | refine rdA_s ?_ | refine rd1_s ?_ | refine drew_a fun w1 H1 => ?_ | refine st_a fun w1 H1 => ?_ | refine stA_a fun w1 H1 => ?_ | refine lenT_a ?_ | refine lenO_a ?_ | refine ixT_a ?_ | refine ixO_a ?_ | refine bld_a ?_ | refine min_a ?_ | refine max_a ?_ | fail)
      rw [if_neg h1, if_neg h2]; exact ⟨rfl, H⟩
theorem or_spec (h : TR cZ w0 cs s [x, y]) (H : Hp w0 w L) (m1 : ∀ c ∈ cs, c ∈ L) : Calls Pg 42 ⟨[s]⟩ w fun e w' => e = .returned (I (if x ≠ 0 then x else y)) ∧ Hp w0 w' L := by
  apply F42_calls
  unfold F42 F42_j2 F42_j3
  repeat (first | simp only [W0] | refine lss_a ?_ | refine lss_b ?_ | refine gtr_a ?_ | refine gtr_b ?_ | refine geq_a ?_ | refine geq_b ?_ | refine leq_a ?_ | refine leq_b ?_ | refine eql_a ?_ | refine eql_b ?_ | refine neq_a ?_ | refine neq_b ?_ | refine add_a ?_ | refine sub_a ?_ | refine ld_a ?_ | refine ldA_a ?_ | refine ldS_a ?_ | refine ldNS_a ?_ | refine rdA_s ?_ | refine rd1_s ?_ | refine drew_a fun w1 H1 => ?_ | refine st_a fun w1 H1 => ?_ | refine stA_a fun w1 H1 => ?_ | refine lenT_a ?_ | refine lenO_a ?_ | refine ixT_a ?_ | refine ixO_a ?_ | refine bld_a ?_ | refine min_a ?_ | refine max_a ?_ | fail)
  have h0 : [x, y][0]? = some x := rfl
  have h1 : [x, y][1]? = some y := rfl
  refine ⟨2 + 1, ?_⟩
  show F42_l1 _ (2 + 1) _ _ _ _ w
  rw [F42_l1_succ]
  unfold F42_b1
  refine lss_y (by simp) ?_
  simp only [W0]
  refine ix1_t (i := 0) h H m1 h0 rfl rfl ?_
  refine neq_k (fun hx => ?_) (fun hx => ?_)
  · simp only [W0]
    rw [if_pos hx]; exact ⟨(by first | rfl | trivial), H⟩
  simp only [W0]
  refine add_k (z := 1) (by decide) (by decide) rfl ?_
  show F42_l1 _ (1 + 1) _ _ _ _ w
  rw [F42_l1_succ]
  unfold F42_b1
  refine lss_y (by simp) ?_
  simp only [W0]
  refine ix1_t (i := 1) h H m1 h1 rfl rfl ?_
  rw [if_neg (by simpa using hx)]
  refine neq_k (fun hy => ?_) (fun hy => ?_)
  · simp only [W0]
    exact ⟨(by first | rfl | trivial), H⟩
  simp only [W0]
  refine add_k (z := 2) (by decide) (by decide) rfl ?_
  show F42_l1 _ (0 + 1) _ _ _ _ w
  rw [F42_l1_succ]
  unfold F42_b1
  refine lss_n (by simp) ?_
  simp only [W0]
  unfold F42_j1
  rw [hy]; exact ⟨(by first | rfl | trivial), H⟩
end
end Go.Proofs.YtmkcjopacmadhaaGreat.Den
