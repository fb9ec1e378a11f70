/- Inherit: the program's tracker: Graph, New. Conditions: none. -/
import Derived.Test.YtagcifbfokneoaaIhTx
set_option linter.unusedVariables false
set_option linter.unusedSimpArgs false
set_option maxRecDepth 8000
set_option maxHeartbeats 1000000
namespace Go.Proofs.Ytagcifbfokneoaa.Den
open Go Go.RowKit
section
variable {w w' w0 : World} {L L' F cs cs2 cs3 cb ce C : List Chunk} {s s2 sb se sd : Value} {K : VK} {R : ER} {base eff : List Int} {E E' : List (Nat × Nat)} {es : List (Int × Int)} {bt bm clock : Nat} {ents : List ((Int × Int) × Bool × Nat)}
theorem Graph_spec (hS : St base E) (hT : PTr bt base E eff C) (H : Hp w0 w (C ++ L)) :
    Calls Pg 23 ⟨[ptr bt 0]⟩ w fun x w' => ∃ sb' s' cb' c' E', x = .returned (.agg ⟨[sb', s']⟩) ∧ TS cI 3 sb' base cb' ∧ TS cN 39 s' E' c' ∧ E'.Perm E ∧ Inc E' ∧ Hp w0 w' (C ++ (cb' ++ (c' ++ L))) := by
  obtain ⟨bm, sb, se, cb, ce, ents, clock, rfl, hb, he, hw, hk, ht⟩ := hT
  have H : Hp w0 w (⟨bt, 88, [sb, .map (some bm), se]⟩ :: ⟨bm, .o (mobj kE Value.bool ents clock), []⟩ :: (cb ++ (ce ++ L))) := H.re
  have q1 := hb.sc
  apply F23_calls
  unfold F23
  refine al_m (ys := [.slice none 0 0, .slice none 0 0]) (by assumption) (by kernel_rfl) fun w b9 H => ?_
  repeat (first | simp only [cI_enc, cE_enc, cN_enc, W0] | refine lss_a ?_ | refine lss_b ?_ | refine gtr_a ?_ | refine gtr_b ?_ | refine geq_a ?_ | refine geq_b ?_ | refine leq_a ?_ | refine leq_b ?_ | refine eql_a ?_ | refine eql_b ?_ | refine neq_a ?_ | refine neq_b ?_ | refine add_a ?_ | refine sub_a ?_ | refine ld_a ?_ | refine ldA_a ?_ | refine ldS_a ?_ | refine ldNS_a ?_ | refine rdA_s ?_ | refine rd1_s ?_ | refine drew_a fun w1 H1 => ?_ | refine st_a fun w1 H1 => ?_ | refine stA_a fun w1 H1 => ?_ | refine lenT_a ?_ | refine lenO_a ?_ | refine ixT_a ?_ | refine ixO_a ?_ | fail)
  try unfold F23_j1
  refine cal_h (graph_spec (bm := bm) (se := se) (F := ⟨b9, 25, [.slice none 0 0, .slice none 0 0]⟩ :: (cb ++ (ce ++ L))) q1 hw hk hS.nd hS.el (Hp.re (by assumption))) ?_
  rintro _ w ⟨s', E', c', rfl, H, hs', hp, hinc⟩
  have q2 := hs'.sc
  simp only [ret_k]
  refine al_m (ys := [.slice none 0 0, .slice none 0 0]) (by assumption) (by kernel_rfl) fun w b8 H => ?_
  repeat (first | simp only [cI_enc, cE_enc, cN_enc, W0] | refine lss_a ?_ | refine lss_b ?_ | refine gtr_a ?_ | refine gtr_b ?_ | refine geq_a ?_ | refine geq_b ?_ | refine leq_a ?_ | refine leq_b ?_ | refine eql_a ?_ | refine eql_b ?_ | refine neq_a ?_ | refine neq_b ?_ | refine add_a ?_ | refine sub_a ?_ | refine ld_a ?_ | refine ldA_a ?_ | refine ldS_a ?_ | refine ldNS_a ?_ | refine rdA_s ?_ | refine rd1_s ?_ | refine drew_a fun w1 H1 => ?_ | refine st_a fun w1 H1 => ?_ | refine stA_a fun w1 H1 => ?_ | refine lenT_a ?_ | refine lenO_a ?_ | refine ixT_a ?_ | refine ixO_a ?_ | fail)
  have hlen := hS.len
  refine cal_h (Clone_spec hb.tr (by assumption) csub (by omega)) ?_
  rintro _ w ⟨sb', cb', rfl, H, hb'⟩
  have q3 := hb'.sc
  simp only [W0]
  refine st_a (l := [sb, s']) (l' := [sb', s']) (fun w H => ?_)
  repeat (first | simp only [cI_enc, cE_enc, cN_enc, W0] | refine lss_a ?_ | refine lss_b ?_ | refine gtr_a ?_ | refine gtr_b ?_ | refine geq_a ?_ | refine geq_b ?_ | refine leq_a ?_ | refine leq_b ?_ | refine eql_a ?_ | refine eql_b ?_ | refine neq_a ?_ | refine neq_b ?_ | refine add_a ?_ | refine sub_a ?_ | refine ld_a ?_ | refine ldA_a ?_ | refine ldS_a ?_ | refine ldNS_a ?_ | refine rdA_s ?_ | refine rd1_s ?_ | refine drew_a fun w1 H1 => ?_ | refine st_a fun w1 H1 => ?_ | refine stA_a fun w1 H1 => ?_ | refine lenT_a ?_ | refine lenO_a ?_ | refine ixT_a ?_ | refine ixO_a ?_ | fail)
  exact ⟨sb', s', cb', c', E', (by first | rfl | trivial), hb', hs', hp, hinc, Hp.re (by assumption)⟩
theorem bld3 {s1 s2 : Value} {b : Nat} (h1 : scalar s1 = true) (h2 : scalar s2 = true) : bldO [.slice none 0 0, .map none, .slice none 0 0] [(0, 1, s1), (1, 1, .map (some b)), (2, 1, s2)] = some (.agg ⟨[s1, .map (some b), s2]⟩) := by
  cases s1 <;> first | (simp [scalar] at h1; done) | (cases s2 <;> first | (simp [scalar] at h2; done) | rfl)
theorem New_spec (h1 : TR cI w0 cs s base) (H : Hp w0 w L) (m1 : ∀ c ∈ cs, c ∈ L) :
    Calls Pg 25 ⟨[s]⟩ w fun x w' => (chk base [] ≠ 0 ∧ x = .returned (.tuple ⟨[.pointer none, I (chk base [])]⟩) ∧ Hp w0 w' L) ∨
      (chk base [] = 0 ∧ ∃ bt C, x = .returned (.tuple ⟨[ptr bt 0, I 0]⟩) ∧ PTr bt base [] base C ∧ Hp w0 w' (C ++ L)) := by
  have q1 := h1.sc
  apply F25_calls
  unfold F25
  refine pv_of (bld1 q1) ?_
  refine cal_h (Check_spec (es := []) (cs2 := []) h1 TR.nil (by assumption) csub (by simp)) ?_
  rintro _ w ⟨rfl, H⟩
  by_cases hc : chk base [] = 0
  rotate_left
  · repeat (first | simp only [cI_enc, cE_enc, cN_enc, W0] | refine lss_a ?_ | refine lss_b ?_ | refine gtr_a ?_ | refine gtr_b ?_ | refine geq_a ?_ | refine geq_b ?_ | refine leq_a ?_ | refine leq_b ?_ | refine eql_a ?_ | refine eql_b ?_ | refine neq_a ?_ | refine neq_b ?_ | refine add_a ?_ | refine sub_a ?_ | refine ld_a ?_ | refine ldA_a ?_ | refine ldS_a ?_ | refine ldNS_a ?_ | refine rdA_s ?_ | refine rd1_s ?_ | refine drew_a fun w1 H1 => ?_ | refine st_a fun w1 H1 => ?_ | refine stA_a fun w1 H1 => ?_ | refine lenT_a ?_ | refine lenO_a ?_ | refine ixT_a ?_ | refine ixO_a ?_ | fail)
    exact .inl ⟨hc, (by first | rfl | trivial), by assumption⟩
  obtain ⟨c1, _⟩ := chk_ok hc
  repeat (first | simp only [cI_enc, cE_enc, cN_enc, W0] | refine lss_a ?_ | refine lss_b ?_ | refine gtr_a ?_ | refine gtr_b ?_ | refine geq_a ?_ | refine geq_b ?_ | refine leq_a ?_ | refine leq_b ?_ | refine eql_a ?_ | refine eql_b ?_ | refine neq_a ?_ | refine neq_b ?_ | refine add_a ?_ | refine sub_a ?_ | refine ld_a ?_ | refine ldA_a ?_ | refine ldS_a ?_ | refine ldNS_a ?_ | refine rdA_s ?_ | refine rd1_s ?_ | refine drew_a fun w1 H1 => ?_ | refine st_a fun w1 H1 => ?_ | refine stA_a fun w1 H1 => ?_ | refine lenT_a ?_ | refine lenO_a ?_ | refine ixT_a ?_ | refine ixO_a ?_ | fail)
  refine cal_h (Clone_spec h1 (by assumption) csub (by omega)) ?_
  rintro _ w ⟨sb, cb, rfl, H, hb⟩
  simp only [ret_k]
  refine make_m (key := kE) (val := Value.bool) (by assumption) fun w bm H => ?_
  refine cal_h (Clone_spec h1 (by assumption) csub (by omega)) ?_
  rintro _ w ⟨se, ce, rfl, H, he⟩
  have q2 := hb.sc
  have q3 := he.sc
  simp only [ret_k]
  refine pv_of (bld3 q2 q3) ?_
  refine bx_m H fun w bt H => ?_
  exact .inr ⟨hc, bt, ⟨bt, 88, [sb, .map (some bm), se]⟩ :: ⟨bm, .o (mobj kE Value.bool [] 0), []⟩ :: (cb ++ ce), rfl, ⟨bm, sb, se, cb, ce, [], 0, rfl, hb, he, MW.nil, rfl, by simp⟩, Hp.re (by assumption)⟩
end
end Go.Proofs.Ytagcifbfokneoaa.Den
