/- Inherit: nil trackers, and the comparison of changes. Conditions: none. -/
import Derived.Test.YtagcifbfokneoaaIhR
set_option linter.unusedVariables false
set_option linter.unusedSimpArgs false
set_option maxRecDepth 8000
set_option maxHeartbeats 1000000
namespace Go.Proofs.Ytagcifbfokneoaa.Den
open Go Go.RowKit
section
variable {w w' w0 : World} {L L' F cs cs2 cs3 : List Chunk} {s s2 sb se sd : Value} {K : VK} {R : ER} {xs ys : List (Int × Int)}
/-- Comparing lists of changes. -/
theorem changes_spec (h1 : TR cE w0 cs s xs) (h2 : TR cE w0 cs2 s2 ys) (H : Hp w0 w L) (m1 : ∀ c ∈ cs, c ∈ L) (m2 : ∀ c ∈ cs2, c ∈ L) (hl : xs.length < 2 ^ 62) :
    Calls Pg 52 ⟨[s, s2]⟩ w fun e w' => e = .returned (.bool (decide (xs = ys))) ∧ Hp w0 w' L := by
  apply F52_calls
  unfold F52
  by_cases hl2 : xs.length = ys.length
  rotate_left
  · refine pv_of (lenS_tr h1) ?_
    refine pv_of (lenS_tr h2) ?_
    repeat (first | simp only [cI_enc, cE_enc, cN_enc, W0] | refine lss_a ?_ | refine lss_b ?_ | refine gtr_a ?_ | refine gtr_b ?_ | refine geq_a ?_ | refine geq_b ?_ | refine leq_a ?_ | refine leq_b ?_ | refine eql_a ?_ | refine eql_b ?_ | refine neq_a ?_ | refine neq_b ?_ | refine add_a ?_ | refine sub_a ?_ | refine ld_a ?_ | refine ldA_a ?_ | refine ldS_a ?_ | refine ldNS_a ?_ | refine rdA_s ?_ | refine rd1_s ?_ | refine drew_a fun w1 H1 => ?_ | refine st_a fun w1 H1 => ?_ | refine stA_a fun w1 H1 => ?_ | refine lenT_a ?_ | refine lenO_a ?_ | refine ixT_a ?_ | refine ixO_a ?_ | fail)
    exact ⟨by rw [decide_eq_false (fun e => hl2 (by rw [e]))], by assumption⟩
  refine pv_of (lenS_tr h1) ?_
  refine pv_of (lenS_tr h2) ?_
  repeat (first | simp only [cI_enc, cE_enc, cN_enc, W0] | refine lss_a ?_ | refine lss_b ?_ | refine gtr_a ?_ | refine gtr_b ?_ | refine geq_a ?_ | refine geq_b ?_ | refine leq_a ?_ | refine leq_b ?_ | refine eql_a ?_ | refine eql_b ?_ | refine neq_a ?_ | refine neq_b ?_ | refine add_a ?_ | refine sub_a ?_ | refine ld_a ?_ | refine ldA_a ?_ | refine ldS_a ?_ | refine ldNS_a ?_ | refine rdA_s ?_ | refine rd1_s ?_ | refine drew_a fun w1 H1 => ?_ | refine st_a fun w1 H1 => ?_ | refine stA_a fun w1 H1 => ?_ | refine lenT_a ?_ | refine lenO_a ?_ | refine ixT_a ?_ | refine ixO_a ?_ | fail)
  unfold F52_j1 F52_j3 F52_j4
  refine loop3 (F52_l1_succ _) (fun m x0 x1 x5 w => ∃ i : Nat, x0 = s ∧ x1 = s2 ∧ x5 = I i ∧ m + i = xs.length ∧ xs.take i = ys.take i ∧ Hp w0 w L) ?_ (m := xs.length) ⟨0, rfl, rfl, rfl, by omega, by simp, by assumption⟩
  rintro m k x0 x1 x5 w ⟨i, rfl, rfl, rfl, hm, ht, H⟩ hk
  unfold F52_b1
  refine pv_of (lenS_tr h1) ?_
  by_cases hi : i < xs.length
  rotate_left
  · repeat (first | simp only [cI_enc, cE_enc, cN_enc, W0] | refine lss_a ?_ | refine lss_b ?_ | refine gtr_a ?_ | refine gtr_b ?_ | refine geq_a ?_ | refine geq_b ?_ | refine leq_a ?_ | refine leq_b ?_ | refine eql_a ?_ | refine eql_b ?_ | refine neq_a ?_ | refine neq_b ?_ | refine add_a ?_ | refine sub_a ?_ | refine ld_a ?_ | refine ldA_a ?_ | refine ldS_a ?_ | refine ldNS_a ?_ | refine rdA_s ?_ | refine rd1_s ?_ | refine drew_a fun w1 H1 => ?_ | refine st_a fun w1 H1 => ?_ | refine stA_a fun w1 H1 => ?_ | refine lenT_a ?_ | refine lenO_a ?_ | refine ixT_a ?_ | refine ixO_a ?_ | fail)
    rw [List.take_of_length_le (by omega), List.take_of_length_le (by omega)] at ht
    exact ⟨by rw [decide_eq_true ht], by assumption⟩
  have hx : xs[i]? = some xs[i] := List.getElem?_eq_getElem hi
  have hy : ys[i]? = some ys[i] := List.getElem?_eq_getElem (by omega)
  generalize xs[i] = x at hx
  generalize ys[i] = y at hy
  obtain ⟨a, b⟩ := x
  obtain ⟨c, d⟩ := y
  refine lss_y (by omega) ?_
  simp only [W0]
  unfold F52_j5
  refine drew_a fun w1 H1 => ?_
  refine ixF_t (C := cE) (f := 0) (v := I a) h1 H1 csub hx rfl ?_
  refine ixF_t (C := cE) (f := 0) (v := I c) h2 H1 csub hy rfl ?_
  have no : (a, b) ≠ (c, d) → xs ≠ ys := fun h e => h (by subst e; rw [hx] at hy; exact Option.some.inj hy)
  by_cases e1 : a = c
  rotate_left
  · repeat (first | simp only [cI_enc, cE_enc, cN_enc, W0] | refine lss_a ?_ | refine lss_b ?_ | refine gtr_a ?_ | refine gtr_b ?_ | refine geq_a ?_ | refine geq_b ?_ | refine leq_a ?_ | refine leq_b ?_ | refine eql_a ?_ | refine eql_b ?_ | refine neq_a ?_ | refine neq_b ?_ | refine add_a ?_ | refine sub_a ?_ | refine ld_a ?_ | refine ldA_a ?_ | refine ldS_a ?_ | refine ldNS_a ?_ | refine rdA_s ?_ | refine rd1_s ?_ | refine drew_a fun w1 H1 => ?_ | refine st_a fun w1 H1 => ?_ | refine stA_a fun w1 H1 => ?_ | refine lenT_a ?_ | refine lenO_a ?_ | refine ixT_a ?_ | refine ixO_a ?_ | fail)
    exact ⟨by rw [decide_eq_false (no fun h => e1 (congrArg Prod.fst h))], by assumption⟩
  refine neq_n (by omega) ?_
  simp only [W0]
  refine ixF_t (C := cE) (f := 1) (v := I b) h1 H1 csub hx rfl ?_
  refine ixF_t (C := cE) (f := 1) (v := I d) h2 H1 csub hy rfl ?_
  by_cases e2 : b = d
  rotate_left
  · repeat (first | simp only [cI_enc, cE_enc, cN_enc, W0] | refine lss_a ?_ | refine lss_b ?_ | refine gtr_a ?_ | refine gtr_b ?_ | refine geq_a ?_ | refine geq_b ?_ | refine leq_a ?_ | refine leq_b ?_ | refine eql_a ?_ | refine eql_b ?_ | refine neq_a ?_ | refine neq_b ?_ | refine add_a ?_ | refine sub_a ?_ | refine ld_a ?_ | refine ldA_a ?_ | refine ldS_a ?_ | refine ldNS_a ?_ | refine rdA_s ?_ | refine rd1_s ?_ | refine drew_a fun w1 H1 => ?_ | refine st_a fun w1 H1 => ?_ | refine stA_a fun w1 H1 => ?_ | refine lenT_a ?_ | refine lenO_a ?_ | refine ixT_a ?_ | refine ixO_a ?_ | fail)
    exact ⟨by rw [decide_eq_false (no fun h => e2 (congrArg Prod.snd h))], by assumption⟩
  repeat (first | simp only [cI_enc, cE_enc, cN_enc, W0] | refine lss_a ?_ | refine lss_b ?_ | refine gtr_a ?_ | refine gtr_b ?_ | refine geq_a ?_ | refine geq_b ?_ | refine leq_a ?_ | refine leq_b ?_ | refine eql_a ?_ | refine eql_b ?_ | refine neq_a ?_ | refine neq_b ?_ | refine add_a ?_ | refine sub_a ?_ | refine ld_a ?_ | refine ldA_a ?_ | refine ldS_a ?_ | refine ldNS_a ?_ | refine rdA_s ?_ | refine rd1_s ?_ | refine drew_a fun w1 H1 => ?_ | refine st_a fun w1 H1 => ?_ | refine stA_a fun w1 H1 => ?_ | refine lenT_a ?_ | refine lenO_a ?_ | refine ixT_a ?_ | refine ixO_a ?_ | fail)
  subst e1 e2
  refine hk (m - 1) _ _ _ _ (by omega) ⟨i + 1, rfl, rfl, rfl, by omega, ?_, by assumption⟩
  rw [List.take_add_one, List.take_add_one, ht, hx, hy]
theorem nil23 (H : Hp w0 w L) : Calls Pg 23 ⟨[.pointer none]⟩ w fun x w' => x = .returned (.agg ⟨[.slice none 0 0, .slice none 0 0]⟩) ∧ Hp w0 w' L := by
  apply F23_calls
  unfold F23
  refine al_m (ys := [.slice none 0 0, .slice none 0 0]) (by assumption) (by kernel_rfl) fun w b H => ?_
  repeat (first | simp only [cI_enc, cE_enc, cN_enc, W0] | refine lss_a ?_ | refine lss_b ?_ | refine gtr_a ?_ | refine gtr_b ?_ | refine geq_a ?_ | refine geq_b ?_ | refine leq_a ?_ | refine leq_b ?_ | refine eql_a ?_ | refine eql_b ?_ | refine neq_a ?_ | refine neq_b ?_ | refine add_a ?_ | refine sub_a ?_ | refine ld_a ?_ | refine ldA_a ?_ | refine ldS_a ?_ | refine ldNS_a ?_ | refine rdA_s ?_ | refine rd1_s ?_ | refine drew_a fun w1 H1 => ?_ | refine st_a fun w1 H1 => ?_ | refine stA_a fun w1 H1 => ?_ | refine lenT_a ?_ | refine lenO_a ?_ | refine ixT_a ?_ | refine ixO_a ?_ | fail)
  refine pv_of (v := .agg ⟨[.slice none 0 0, .slice none 0 0]⟩) rfl ?_
  repeat (first | simp only [cI_enc, cE_enc, cN_enc, W0] | refine lss_a ?_ | refine lss_b ?_ | refine gtr_a ?_ | refine gtr_b ?_ | refine geq_a ?_ | refine geq_b ?_ | refine leq_a ?_ | refine leq_b ?_ | refine eql_a ?_ | refine eql_b ?_ | refine neq_a ?_ | refine neq_b ?_ | refine add_a ?_ | refine sub_a ?_ | refine ld_a ?_ | refine ldA_a ?_ | refine ldS_a ?_ | refine ldNS_a ?_ | refine rdA_s ?_ | refine rd1_s ?_ | refine drew_a fun w1 H1 => ?_ | refine st_a fun w1 H1 => ?_ | refine stA_a fun w1 H1 => ?_ | refine lenT_a ?_ | refine lenO_a ?_ | refine ixT_a ?_ | refine ixO_a ?_ | fail)
  exact ⟨(by first | rfl | trivial), Hp.re (by assumption)⟩
theorem nil31 {a b : Int} (H : Hp w0 w L) : Calls Pg 31 ⟨[.pointer none, .agg ⟨[I a, I b]⟩]⟩ w fun x w' => x = .returned (.tuple ⟨[.slice none 0 0, I 35]⟩) ∧ Hp w0 w' L := by
  apply F31_calls
  unfold F31
  refine bx_m H fun w b H => ?_
  unfold F31_j2
  repeat (first | simp only [cI_enc, cE_enc, cN_enc, W0] | refine lss_a ?_ | refine lss_b ?_ | refine gtr_a ?_ | refine gtr_b ?_ | refine geq_a ?_ | refine geq_b ?_ | refine leq_a ?_ | refine leq_b ?_ | refine eql_a ?_ | refine eql_b ?_ | refine neq_a ?_ | refine neq_b ?_ | refine add_a ?_ | refine sub_a ?_ | refine ld_a ?_ | refine ldA_a ?_ | refine ldS_a ?_ | refine ldNS_a ?_ | refine rdA_s ?_ | refine rd1_s ?_ | refine drew_a fun w1 H1 => ?_ | refine st_a fun w1 H1 => ?_ | refine stA_a fun w1 H1 => ?_ | refine lenT_a ?_ | refine lenO_a ?_ | refine ixT_a ?_ | refine ixO_a ?_ | fail)
  unfold F31_j3
  repeat (first | simp only [cI_enc, cE_enc, cN_enc, W0] | refine lss_a ?_ | refine lss_b ?_ | refine gtr_a ?_ | refine gtr_b ?_ | refine geq_a ?_ | refine geq_b ?_ | refine leq_a ?_ | refine leq_b ?_ | refine eql_a ?_ | refine eql_b ?_ | refine neq_a ?_ | refine neq_b ?_ | refine add_a ?_ | refine sub_a ?_ | refine ld_a ?_ | refine ldA_a ?_ | refine ldS_a ?_ | refine ldNS_a ?_ | refine rdA_s ?_ | refine rd1_s ?_ | refine drew_a fun w1 H1 => ?_ | refine st_a fun w1 H1 => ?_ | refine stA_a fun w1 H1 => ?_ | refine lenT_a ?_ | refine lenO_a ?_ | refine ixT_a ?_ | refine ixO_a ?_ | fail)
  exact ⟨(by first | rfl | trivial), Hp.re (by assumption)⟩
theorem nil28 {a b : Int} (H : Hp w0 w L) : Calls Pg 28 ⟨[.pointer none, .agg ⟨[I a, I b]⟩]⟩ w fun x w' => x = .returned (.tuple ⟨[.slice none 0 0, I 35]⟩) ∧ Hp w0 w' L := by
  apply F28_calls
  unfold F28
  refine bx_m H fun w b H => ?_
  unfold F28_j2
  repeat (first | simp only [cI_enc, cE_enc, cN_enc, W0] | refine lss_a ?_ | refine lss_b ?_ | refine gtr_a ?_ | refine gtr_b ?_ | refine geq_a ?_ | refine geq_b ?_ | refine leq_a ?_ | refine leq_b ?_ | refine eql_a ?_ | refine eql_b ?_ | refine neq_a ?_ | refine neq_b ?_ | refine add_a ?_ | refine sub_a ?_ | refine ld_a ?_ | refine ldA_a ?_ | refine ldS_a ?_ | refine ldNS_a ?_ | refine rdA_s ?_ | refine rd1_s ?_ | refine drew_a fun w1 H1 => ?_ | refine st_a fun w1 H1 => ?_ | refine stA_a fun w1 H1 => ?_ | refine lenT_a ?_ | refine lenO_a ?_ | refine ixT_a ?_ | refine ixO_a ?_ | fail)
  unfold F28_j3
  repeat (first | simp only [cI_enc, cE_enc, cN_enc, W0] | refine lss_a ?_ | refine lss_b ?_ | refine gtr_a ?_ | refine gtr_b ?_ | refine geq_a ?_ | refine geq_b ?_ | refine leq_a ?_ | refine leq_b ?_ | refine eql_a ?_ | refine eql_b ?_ | refine neq_a ?_ | refine neq_b ?_ | refine add_a ?_ | refine sub_a ?_ | refine ld_a ?_ | refine ldA_a ?_ | refine ldS_a ?_ | refine ldNS_a ?_ | refine rdA_s ?_ | refine rd1_s ?_ | refine drew_a fun w1 H1 => ?_ | refine st_a fun w1 H1 => ?_ | refine stA_a fun w1 H1 => ?_ | refine lenT_a ?_ | refine lenO_a ?_ | refine ixT_a ?_ | refine ixO_a ?_ | fail)
  exact ⟨(by first | rfl | trivial), Hp.re (by assumption)⟩
theorem nil29 {a b : Int} (H : Hp w0 w L) : Calls Pg 29 ⟨[.pointer none, I a, I b]⟩ w fun x w' => x = .returned (.tuple ⟨[.slice none 0 0, I 35]⟩) ∧ Hp w0 w' L := by
  apply F29_calls
  unfold F29 F29_j2
  repeat (first | simp only [cI_enc, cE_enc, cN_enc, W0] | refine lss_a ?_ | refine lss_b ?_ | refine gtr_a ?_ | refine gtr_b ?_ | refine geq_a ?_ | refine geq_b ?_ | refine leq_a ?_ | refine leq_b ?_ | refine eql_a ?_ | refine eql_b ?_ | refine neq_a ?_ | refine neq_b ?_ | refine add_a ?_ | refine sub_a ?_ | refine ld_a ?_ | refine ldA_a ?_ | refine ldS_a ?_ | refine ldNS_a ?_ | refine rdA_s ?_ | refine rd1_s ?_ | refine drew_a fun w1 H1 => ?_ | refine st_a fun w1 H1 => ?_ | refine stA_a fun w1 H1 => ?_ | refine lenT_a ?_ | refine lenO_a ?_ | refine ixT_a ?_ | refine ixO_a ?_ | fail)
  unfold F29_j3
  repeat (first | simp only [cI_enc, cE_enc, cN_enc, W0] | refine lss_a ?_ | refine lss_b ?_ | refine gtr_a ?_ | refine gtr_b ?_ | refine geq_a ?_ | refine geq_b ?_ | refine leq_a ?_ | refine leq_b ?_ | refine eql_a ?_ | refine eql_b ?_ | refine neq_a ?_ | refine neq_b ?_ | refine add_a ?_ | refine sub_a ?_ | refine ld_a ?_ | refine ldA_a ?_ | refine ldS_a ?_ | refine ldNS_a ?_ | refine rdA_s ?_ | refine rd1_s ?_ | refine drew_a fun w1 H1 => ?_ | refine st_a fun w1 H1 => ?_ | refine stA_a fun w1 H1 => ?_ | refine lenT_a ?_ | refine lenO_a ?_ | refine ixT_a ?_ | refine ixO_a ?_ | fail)
  exact ⟨(by first | rfl | trivial), by assumption⟩
theorem nil30 (H : Hp w0 w L) : Calls Pg 30 ⟨[.pointer none, s]⟩ w fun x w' => x = .returned (.tuple ⟨[.slice none 0 0, I 35]⟩) ∧ Hp w0 w' L := by
  apply F30_calls
  unfold F30
  repeat (first | simp only [cI_enc, cE_enc, cN_enc, W0] | refine lss_a ?_ | refine lss_b ?_ | refine gtr_a ?_ | refine gtr_b ?_ | refine geq_a ?_ | refine geq_b ?_ | refine leq_a ?_ | refine leq_b ?_ | refine eql_a ?_ | refine eql_b ?_ | refine neq_a ?_ | refine neq_b ?_ | refine add_a ?_ | refine sub_a ?_ | refine ld_a ?_ | refine ldA_a ?_ | refine ldS_a ?_ | refine ldNS_a ?_ | refine rdA_s ?_ | refine rd1_s ?_ | refine drew_a fun w1 H1 => ?_ | refine st_a fun w1 H1 => ?_ | refine stA_a fun w1 H1 => ?_ | refine lenT_a ?_ | refine lenO_a ?_ | refine ixT_a ?_ | refine ixO_a ?_ | fail)
  exact ⟨(by first | rfl | trivial), by assumption⟩
theorem nil32 {a : Int} (H : Hp w0 w L) : Calls Pg 32 ⟨[.pointer none, I a]⟩ w fun x w' => x = .returned (.tuple ⟨[I 0, I 35]⟩) ∧ Hp w0 w' L := by
  apply F32_calls
  unfold F32
  repeat (first | simp only [cI_enc, cE_enc, cN_enc, W0] | refine lss_a ?_ | refine lss_b ?_ | refine gtr_a ?_ | refine gtr_b ?_ | refine geq_a ?_ | refine geq_b ?_ | refine leq_a ?_ | refine leq_b ?_ | refine eql_a ?_ | refine eql_b ?_ | refine neq_a ?_ | refine neq_b ?_ | refine add_a ?_ | refine sub_a ?_ | refine ld_a ?_ | refine ldA_a ?_ | refine ldS_a ?_ | refine ldNS_a ?_ | refine rdA_s ?_ | refine rd1_s ?_ | refine drew_a fun w1 H1 => ?_ | refine st_a fun w1 H1 => ?_ | refine stA_a fun w1 H1 => ?_ | refine lenT_a ?_ | refine lenO_a ?_ | refine ixT_a ?_ | refine ixO_a ?_ | fail)
  exact ⟨(by first | rfl | trivial), by assumption⟩
theorem nil56 {a b : Int} (H : Hp w0 w L) : Calls Pg 56 ⟨[.pointer none, .agg ⟨[I a, I b]⟩]⟩ w fun x w' => x = .returned (.tuple ⟨[.slice none 0 0, I 35]⟩) ∧ Hp w0 w' L := by
  apply F56_calls
  unfold F56
  refine bx_m H fun w b H => ?_
  repeat (first | simp only [cI_enc, cE_enc, cN_enc, W0] | refine lss_a ?_ | refine lss_b ?_ | refine gtr_a ?_ | refine gtr_b ?_ | refine geq_a ?_ | refine geq_b ?_ | refine leq_a ?_ | refine leq_b ?_ | refine eql_a ?_ | refine eql_b ?_ | refine neq_a ?_ | refine neq_b ?_ | refine add_a ?_ | refine sub_a ?_ | refine ld_a ?_ | refine ldA_a ?_ | refine ldS_a ?_ | refine ldNS_a ?_ | refine rdA_s ?_ | refine rd1_s ?_ | refine drew_a fun w1 H1 => ?_ | refine st_a fun w1 H1 => ?_ | refine stA_a fun w1 H1 => ?_ | refine lenT_a ?_ | refine lenO_a ?_ | refine ixT_a ?_ | refine ixO_a ?_ | fail)
  exact ⟨(by first | rfl | trivial), Hp.re (by assumption)⟩
theorem nil51 {a b : Int} (H : Hp w0 w L) : Calls Pg 51 ⟨[.pointer none, .agg ⟨[I a, I b]⟩]⟩ w fun x w' => x = .returned (.tuple ⟨[.slice none 0 0, I 35]⟩) ∧ Hp w0 w' L := by
  apply F51_calls
  unfold F51
  refine bx_m H fun w b H => ?_
  repeat (first | simp only [cI_enc, cE_enc, cN_enc, W0] | refine lss_a ?_ | refine lss_b ?_ | refine gtr_a ?_ | refine gtr_b ?_ | refine geq_a ?_ | refine geq_b ?_ | refine leq_a ?_ | refine leq_b ?_ | refine eql_a ?_ | refine eql_b ?_ | refine neq_a ?_ | refine neq_b ?_ | refine add_a ?_ | refine sub_a ?_ | refine ld_a ?_ | refine ldA_a ?_ | refine ldS_a ?_ | refine ldNS_a ?_ | refine rdA_s ?_ | refine rd1_s ?_ | refine drew_a fun w1 H1 => ?_ | refine st_a fun w1 H1 => ?_ | refine stA_a fun w1 H1 => ?_ | refine lenT_a ?_ | refine lenO_a ?_ | refine ixT_a ?_ | refine ixO_a ?_ | fail)
  exact ⟨(by first | rfl | trivial), Hp.re (by assumption)⟩
theorem nil53 {a b : Int} (H : Hp w0 w L) : Calls Pg 53 ⟨[.pointer none, I a, I b]⟩ w fun x w' => x = .returned (.tuple ⟨[.slice none 0 0, I 35]⟩) ∧ Hp w0 w' L := by
  apply F53_calls
  unfold F53
  repeat (first | simp only [cI_enc, cE_enc, cN_enc, W0] | refine lss_a ?_ | refine lss_b ?_ | refine gtr_a ?_ | refine gtr_b ?_ | refine geq_a ?_ | refine geq_b ?_ | refine leq_a ?_ | refine leq_b ?_ | refine eql_a ?_ | refine eql_b ?_ | refine neq_a ?_ | refine neq_b ?_ | refine add_a ?_ | refine sub_a ?_ | refine ld_a ?_ | refine ldA_a ?_ | refine ldS_a ?_ | refine ldNS_a ?_ | refine rdA_s ?_ | refine rd1_s ?_ | refine drew_a fun w1 H1 => ?_ | refine st_a fun w1 H1 => ?_ | refine stA_a fun w1 H1 => ?_ | refine lenT_a ?_ | refine lenO_a ?_ | refine ixT_a ?_ | refine ixO_a ?_ | fail)
  exact ⟨(by first | rfl | trivial), by assumption⟩
theorem nil54 (H : Hp w0 w L) : Calls Pg 54 ⟨[.pointer none, s]⟩ w fun x w' => x = .returned (.tuple ⟨[.slice none 0 0, I 35]⟩) ∧ Hp w0 w' L := by
  apply F54_calls
  unfold F54
  repeat (first | simp only [cI_enc, cE_enc, cN_enc, W0] | refine lss_a ?_ | refine lss_b ?_ | refine gtr_a ?_ | refine gtr_b ?_ | refine geq_a ?_ | refine geq_b ?_ | refine leq_a ?_ | refine leq_b ?_ | refine eql_a ?_ | refine eql_b ?_ | refine neq_a ?_ | refine neq_b ?_ | refine add_a ?_ | refine sub_a ?_ | refine ld_a ?_ | refine ldA_a ?_ | refine ldS_a ?_ | refine ldNS_a ?_ | refine rdA_s ?_ | refine rd1_s ?_ | refine drew_a fun w1 H1 => ?_ | refine st_a fun w1 H1 => ?_ | refine stA_a fun w1 H1 => ?_ | refine lenT_a ?_ | refine lenO_a ?_ | refine ixT_a ?_ | refine ixO_a ?_ | fail)
  exact ⟨(by first | rfl | trivial), by assumption⟩
theorem nil55 {a : Int} (H : Hp w0 w L) : Calls Pg 55 ⟨[.pointer none, I a]⟩ w fun x w' => x = .returned (.tuple ⟨[I 0, I 35]⟩) ∧ Hp w0 w' L := by
  apply F55_calls
  unfold F55
  repeat (first | simp only [cI_enc, cE_enc, cN_enc, W0] | refine lss_a ?_ | refine lss_b ?_ | refine gtr_a ?_ | refine gtr_b ?_ | refine geq_a ?_ | refine geq_b ?_ | refine leq_a ?_ | refine leq_b ?_ | refine eql_a ?_ | refine eql_b ?_ | refine neq_a ?_ | refine neq_b ?_ | refine add_a ?_ | refine sub_a ?_ | refine ld_a ?_ | refine ldA_a ?_ | refine ldS_a ?_ | refine ldNS_a ?_ | refine rdA_s ?_ | refine rd1_s ?_ | refine drew_a fun w1 H1 => ?_ | refine st_a fun w1 H1 => ?_ | refine stA_a fun w1 H1 => ?_ | refine lenT_a ?_ | refine lenO_a ?_ | refine ixT_a ?_ | refine ixO_a ?_ | fail)
  exact ⟨(by first | rfl | trivial), by assumption⟩
end
end Go.Proofs.Ytagcifbfokneoaa.Den
