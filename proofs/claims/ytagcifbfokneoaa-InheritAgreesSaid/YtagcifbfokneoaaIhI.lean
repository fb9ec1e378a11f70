/- Inherit: the order of edges; ranging over a slice's values; waiters. Conditions: none. -/
import Derived.Test.YtagcifbfokneoaaIhH
set_option linter.unusedVariables false
set_option linter.unusedSimpArgs false
set_option maxRecDepth 8000
namespace Go.Proofs.Ytagcifbfokneoaa.Den
open Go Go.RowKit
def cmpI (a b : Int) : Int := if a < b then -1 else if b < a then 1 else 0
def cmpE (a b : Int × Int) : Int := if a = b then 0 else if cmpI a.1 b.1 ≠ 0 then cmpI a.1 b.1 else cmpI a.2 b.2
section
variable {w w' w0 : World} {L L' F cs cs2 cs3 : List Chunk} {s s2 sb se sd : Value} {K : VK} {R : ER} {base d : List Int} {es : List (Int × Int)} {E : List (Nat × Nat)} {n f : Nat} {cap : List Value} {b : Nat}
theorem elN : ElT 23 39 cN.sz 16 [I 0, I 0] := ⟨by kernel_rfl, by kernel_rfl, rfl⟩
theorem isNaN_spec {x : Int} (H : Hp w0 w L) : Calls Pg 74 ⟨[I x]⟩ w fun e w' => e = .returned (.bool false) ∧ Hp w0 w' L := by
  apply F74_calls
  unfold F74
  repeat (first | simp only [cI_enc, cE_enc, cN_enc, W0] | refine lss_a ?_ | refine lss_b ?_ | refine gtr_a ?_ | refine gtr_b ?_ | refine geq_a ?_ | refine geq_b ?_ | refine leq_a ?_ | refine leq_b ?_ | refine eql_a ?_ | refine eql_b ?_ | refine neq_a ?_ | refine neq_b ?_ | refine add_a ?_ | refine sub_a ?_ | refine ld_a ?_ | refine ldA_a ?_ | refine ldS_a ?_ | refine ldNS_a ?_ | refine rdA_s ?_ | refine rd1_s ?_ | refine drew_a fun w1 H1 => ?_ | refine st_a fun w1 H1 => ?_ | refine stA_a fun w1 H1 => ?_ | refine lenT_a ?_ | refine lenO_a ?_ | refine ixT_a ?_ | refine ixO_a ?_ | fail)
  exact ⟨(by first | rfl | trivial), H⟩
theorem Compare_spec {a b : Int} (H : Hp w0 w L) : Calls Pg 70 ⟨[I a, I b]⟩ w fun e w' => e = .returned (I (cmpI a b)) ∧ Hp w0 w' L := by
  apply F70_calls
  unfold F70
  refine cal_h (isNaN_spec H) ?_
  rintro _ w ⟨rfl, H⟩
  simp only [ret_k]
  refine cal_h (isNaN_spec H) ?_
  rintro _ w ⟨rfl, H⟩
  repeat (first | simp only [cI_enc, cE_enc, cN_enc, W0] | refine lss_a ?_ | refine lss_b ?_ | refine gtr_a ?_ | refine gtr_b ?_ | refine geq_a ?_ | refine geq_b ?_ | refine leq_a ?_ | refine leq_b ?_ | refine eql_a ?_ | refine eql_b ?_ | refine neq_a ?_ | refine neq_b ?_ | refine add_a ?_ | refine sub_a ?_ | refine ld_a ?_ | refine ldA_a ?_ | refine ldS_a ?_ | refine ldNS_a ?_ | refine rdA_s ?_ | refine rd1_s ?_ | refine drew_a fun w1 H1 => ?_ | refine st_a fun w1 H1 => ?_ | refine stA_a fun w1 H1 => ?_ | refine lenT_a ?_ | refine lenO_a ?_ | refine ixT_a ?_ | refine ixO_a ?_ | fail)
  unfold F70_j1
  repeat (first | simp only [cI_enc, cE_enc, cN_enc, W0] | refine lss_a ?_ | refine lss_b ?_ | refine gtr_a ?_ | refine gtr_b ?_ | refine geq_a ?_ | refine geq_b ?_ | refine leq_a ?_ | refine leq_b ?_ | refine eql_a ?_ | refine eql_b ?_ | refine neq_a ?_ | refine neq_b ?_ | refine add_a ?_ | refine sub_a ?_ | refine ld_a ?_ | refine ldA_a ?_ | refine ldS_a ?_ | refine ldNS_a ?_ | refine rdA_s ?_ | refine rd1_s ?_ | refine drew_a fun w1 H1 => ?_ | refine st_a fun w1 H1 => ?_ | refine stA_a fun w1 H1 => ?_ | refine lenT_a ?_ | refine lenO_a ?_ | refine ixT_a ?_ | refine ixO_a ?_ | fail)
  refine lss_k (fun h => ?_) (fun h => ?_)
  · repeat (first | simp only [cI_enc, cE_enc, cN_enc, W0] | refine lss_a ?_ | refine lss_b ?_ | refine gtr_a ?_ | refine gtr_b ?_ | refine geq_a ?_ | refine geq_b ?_ | refine leq_a ?_ | refine leq_b ?_ | refine eql_a ?_ | refine eql_b ?_ | refine neq_a ?_ | refine neq_b ?_ | refine add_a ?_ | refine sub_a ?_ | refine ld_a ?_ | refine ldA_a ?_ | refine ldS_a ?_ | refine ldNS_a ?_ | refine rdA_s ?_ | refine rd1_s ?_ | refine drew_a fun w1 H1 => ?_ | refine st_a fun w1 H1 => ?_ | refine stA_a fun w1 H1 => ?_ | refine lenT_a ?_ | refine lenO_a ?_ | refine ixT_a ?_ | refine ixO_a ?_ | fail)
    exact ⟨by rw [cmpI, if_pos h], H⟩
  · repeat (first | simp only [cI_enc, cE_enc, cN_enc, W0] | refine lss_a ?_ | refine lss_b ?_ | refine gtr_a ?_ | refine gtr_b ?_ | refine geq_a ?_ | refine geq_b ?_ | refine leq_a ?_ | refine leq_b ?_ | refine eql_a ?_ | refine eql_b ?_ | refine neq_a ?_ | refine neq_b ?_ | refine add_a ?_ | refine sub_a ?_ | refine ld_a ?_ | refine ldA_a ?_ | refine ldS_a ?_ | refine ldNS_a ?_ | refine rdA_s ?_ | refine rd1_s ?_ | refine drew_a fun w1 H1 => ?_ | refine st_a fun w1 H1 => ?_ | refine stA_a fun w1 H1 => ?_ | refine lenT_a ?_ | refine lenO_a ?_ | refine ixT_a ?_ | refine ixO_a ?_ | fail)
    refine gtr_k (fun h2 => ?_) (fun h2 => ?_)
    · repeat (first | simp only [cI_enc, cE_enc, cN_enc, W0] | refine lss_a ?_ | refine lss_b ?_ | refine gtr_a ?_ | refine gtr_b ?_ | refine geq_a ?_ | refine geq_b ?_ | refine leq_a ?_ | refine leq_b ?_ | refine eql_a ?_ | refine eql_b ?_ | refine neq_a ?_ | refine neq_b ?_ | refine add_a ?_ | refine sub_a ?_ | refine ld_a ?_ | refine ldA_a ?_ | refine ldS_a ?_ | refine ldNS_a ?_ | refine rdA_s ?_ | refine rd1_s ?_ | refine drew_a fun w1 H1 => ?_ | refine st_a fun w1 H1 => ?_ | refine stA_a fun w1 H1 => ?_ | refine lenT_a ?_ | refine lenO_a ?_ | refine ixT_a ?_ | refine ixO_a ?_ | fail)
      exact ⟨by rw [cmpI, if_neg h, if_pos h2], H⟩
    · repeat (first | simp only [cI_enc, cE_enc, cN_enc, W0] | refine lss_a ?_ | refine lss_b ?_ | refine gtr_a ?_ | refine gtr_b ?_ | refine geq_a ?_ | refine geq_b ?_ | refine leq_a ?_ | refine leq_b ?_ | refine eql_a ?_ | refine eql_b ?_ | refine neq_a ?_ | refine neq_b ?_ | refine add_a ?_ | refine sub_a ?_ | refine ld_a ?_ | refine ldA_a ?_ | refine ldS_a ?_ | refine ldNS_a ?_ | refine rdA_s ?_ | refine rd1_s ?_ | refine drew_a fun w1 H1 => ?_ | refine st_a fun w1 H1 => ?_ | refine stA_a fun w1 H1 => ?_ | refine lenT_a ?_ | refine lenO_a ?_ | refine ixT_a ?_ | refine ixO_a ?_ | fail)
      exact ⟨by rw [cmpI, if_neg h, if_neg h2], H⟩
theorem Or_spec {a b : Int} (h : TR cI w0 cs s [a, b]) (H : Hp w0 w L) (m1 : ∀ c ∈ cs, c ∈ L) : Calls Pg 69 ⟨[s]⟩ w fun e w' => e = .returned (I (if a ≠ 0 then a else b)) ∧ Hp w0 w' L := by
  apply F69_calls
  unfold F69 F69_j2 F69_j3
  repeat (first | simp only [cI_enc, cE_enc, cN_enc, W0] | refine lss_a ?_ | refine lss_b ?_ | refine gtr_a ?_ | refine gtr_b ?_ | refine geq_a ?_ | refine geq_b ?_ | refine leq_a ?_ | refine leq_b ?_ | refine eql_a ?_ | refine eql_b ?_ | refine neq_a ?_ | refine neq_b ?_ | refine add_a ?_ | refine sub_a ?_ | refine ld_a ?_ | refine ldA_a ?_ | refine ldS_a ?_ | refine ldNS_a ?_ | refine rdA_s ?_ | refine rd1_s ?_ | refine drew_a fun w1 H1 => ?_ | refine st_a fun w1 H1 => ?_ | refine stA_a fun w1 H1 => ?_ | refine lenT_a ?_ | refine lenO_a ?_ | refine ixT_a ?_ | refine ixO_a ?_ | fail)
  refine loop4 (F69_l1_succ _) (fun m x3 x6 x7 x8 w => ∃ i : Nat, x3 = I 0 ∧ x6 = s ∧ x7 = I 2 ∧ x8 = I i ∧ m + i = 2 ∧ (1 ≤ i → a = 0) ∧ (2 ≤ i → b = 0) ∧ Hp w0 w L) ?_ (m := 2) ⟨0, rfl, rfl, rfl, rfl, rfl, by omega, by omega, H⟩
  clear H
  rintro m k _ s _ _ w ⟨i, rfl, rfl, rfl, rfl, hm, ha, hb, H⟩ hk
  unfold F69_b1
  have : i = 0 ∨ i = 1 ∨ i = 2 := by omega
  rcases this with rfl | rfl | rfl
  · have hx : ([a, b] : List Int)[0]? = some a := rfl
    repeat (first | simp only [cI_enc, cE_enc, cN_enc, W0] | refine lss_a ?_ | refine lss_b ?_ | refine gtr_a ?_ | refine gtr_b ?_ | refine geq_a ?_ | refine geq_b ?_ | refine leq_a ?_ | refine leq_b ?_ | refine eql_a ?_ | refine eql_b ?_ | refine neq_a ?_ | refine neq_b ?_ | refine add_a ?_ | refine sub_a ?_ | refine ld_a ?_ | refine ldA_a ?_ | refine ldS_a ?_ | refine ldNS_a ?_ | refine rdA_s ?_ | refine rd1_s ?_ | refine drew_a fun w1 H1 => ?_ | refine st_a fun w1 H1 => ?_ | refine stA_a fun w1 H1 => ?_ | refine lenT_a ?_ | refine lenO_a ?_ | refine ixT_a ?_ | refine ixO_a ?_ | fail)
    refine neq_k (fun h => ?_) (fun h => ?_)
    · repeat (first | simp only [cI_enc, cE_enc, cN_enc, W0] | refine lss_a ?_ | refine lss_b ?_ | refine gtr_a ?_ | refine gtr_b ?_ | refine geq_a ?_ | refine geq_b ?_ | refine leq_a ?_ | refine leq_b ?_ | refine eql_a ?_ | refine eql_b ?_ | refine neq_a ?_ | refine neq_b ?_ | refine add_a ?_ | refine sub_a ?_ | refine ld_a ?_ | refine ldA_a ?_ | refine ldS_a ?_ | refine ldNS_a ?_ | refine rdA_s ?_ | refine rd1_s ?_ | refine drew_a fun w1 H1 => ?_ | refine st_a fun w1 H1 => ?_ | refine stA_a fun w1 H1 => ?_ | refine lenT_a ?_ | refine lenO_a ?_ | refine ixT_a ?_ | refine ixO_a ?_ | fail)
      exact ⟨by rw [if_pos h], H⟩
    · repeat (first | simp only [cI_enc, cE_enc, cN_enc, W0] | refine lss_a ?_ | refine lss_b ?_ | refine gtr_a ?_ | refine gtr_b ?_ | refine geq_a ?_ | refine geq_b ?_ | refine leq_a ?_ | refine leq_b ?_ | refine eql_a ?_ | refine eql_b ?_ | refine neq_a ?_ | refine neq_b ?_ | refine add_a ?_ | refine sub_a ?_ | refine ld_a ?_ | refine ldA_a ?_ | refine ldS_a ?_ | refine ldNS_a ?_ | refine rdA_s ?_ | refine rd1_s ?_ | refine drew_a fun w1 H1 => ?_ | refine st_a fun w1 H1 => ?_ | refine stA_a fun w1 H1 => ?_ | refine lenT_a ?_ | refine lenO_a ?_ | refine ixT_a ?_ | refine ixO_a ?_ | fail)
      exact hk (m - 1) _ _ _ _ _ (by omega) ⟨1, rfl, rfl, rfl, rfl, by omega, fun _ => h, by omega, H⟩
  · have hx : ([a, b] : List Int)[1]? = some b := rfl
    have ha := ha (by omega)
    repeat (first | simp only [cI_enc, cE_enc, cN_enc, W0] | refine lss_a ?_ | refine lss_b ?_ | refine gtr_a ?_ | refine gtr_b ?_ | refine geq_a ?_ | refine geq_b ?_ | refine leq_a ?_ | refine leq_b ?_ | refine eql_a ?_ | refine eql_b ?_ | refine neq_a ?_ | refine neq_b ?_ | refine add_a ?_ | refine sub_a ?_ | refine ld_a ?_ | refine ldA_a ?_ | refine ldS_a ?_ | refine ldNS_a ?_ | refine rdA_s ?_ | refine rd1_s ?_ | refine drew_a fun w1 H1 => ?_ | refine st_a fun w1 H1 => ?_ | refine stA_a fun w1 H1 => ?_ | refine lenT_a ?_ | refine lenO_a ?_ | refine ixT_a ?_ | refine ixO_a ?_ | fail)
    refine neq_k (fun h => ?_) (fun h => ?_)
    · repeat (first | simp only [cI_enc, cE_enc, cN_enc, W0] | refine lss_a ?_ | refine lss_b ?_ | refine gtr_a ?_ | refine gtr_b ?_ | refine geq_a ?_ | refine geq_b ?_ | refine leq_a ?_ | refine leq_b ?_ | refine eql_a ?_ | refine eql_b ?_ | refine neq_a ?_ | refine neq_b ?_ | refine add_a ?_ | refine sub_a ?_ | refine ld_a ?_ | refine ldA_a ?_ | refine ldS_a ?_ | refine ldNS_a ?_ | refine rdA_s ?_ | refine rd1_s ?_ | refine drew_a fun w1 H1 => ?_ | refine st_a fun w1 H1 => ?_ | refine stA_a fun w1 H1 => ?_ | refine lenT_a ?_ | refine lenO_a ?_ | refine ixT_a ?_ | refine ixO_a ?_ | fail)
      exact ⟨by rw [if_neg (by omega)], H⟩
    · repeat (first | simp only [cI_enc, cE_enc, cN_enc, W0] | refine lss_a ?_ | refine lss_b ?_ | refine gtr_a ?_ | refine gtr_b ?_ | refine geq_a ?_ | refine geq_b ?_ | refine leq_a ?_ | refine leq_b ?_ | refine eql_a ?_ | refine eql_b ?_ | refine neq_a ?_ | refine neq_b ?_ | refine add_a ?_ | refine sub_a ?_ | refine ld_a ?_ | refine ldA_a ?_ | refine ldS_a ?_ | refine ldNS_a ?_ | refine rdA_s ?_ | refine rd1_s ?_ | refine drew_a fun w1 H1 => ?_ | refine st_a fun w1 H1 => ?_ | refine stA_a fun w1 H1 => ?_ | refine lenT_a ?_ | refine lenO_a ?_ | refine ixT_a ?_ | refine ixO_a ?_ | fail)
      exact hk (m - 1) _ _ _ _ _ (by omega) ⟨2, rfl, rfl, rfl, rfl, by omega, fun _ => ha, fun _ => h, H⟩
  · repeat (first | simp only [cI_enc, cE_enc, cN_enc, W0] | refine lss_a ?_ | refine lss_b ?_ | refine gtr_a ?_ | refine gtr_b ?_ | refine geq_a ?_ | refine geq_b ?_ | refine leq_a ?_ | refine leq_b ?_ | refine eql_a ?_ | refine eql_b ?_ | refine neq_a ?_ | refine neq_b ?_ | refine add_a ?_ | refine sub_a ?_ | refine ld_a ?_ | refine ldA_a ?_ | refine ldS_a ?_ | refine ldNS_a ?_ | refine rdA_s ?_ | refine rd1_s ?_ | refine drew_a fun w1 H1 => ?_ | refine st_a fun w1 H1 => ?_ | refine stA_a fun w1 H1 => ?_ | refine lenT_a ?_ | refine lenO_a ?_ | refine ixT_a ?_ | refine ixO_a ?_ | fail)
    unfold F69_j1
    exact ⟨by rw [if_neg (by simpa using ha (by omega)), hb (by omega)], H⟩
theorem order_spec {a b : Int × Int} (H : Hp w0 w L) : Calls Pg 64 ⟨[kE a, kE b]⟩ w fun e w' => e = .returned (I (cmpE a b)) ∧ Hp w0 w' L := by
  apply F64_calls
  unfold F64
  refine bx_m H fun w b1 H => ?_
  refine bx_m H fun w b2 H => ?_
  repeat (first | simp only [cI_enc, cE_enc, cN_enc, W0] | refine lss_a ?_ | refine lss_b ?_ | refine gtr_a ?_ | refine gtr_b ?_ | refine geq_a ?_ | refine geq_b ?_ | refine leq_a ?_ | refine leq_b ?_ | refine eql_a ?_ | refine eql_b ?_ | refine neq_a ?_ | refine neq_b ?_ | refine add_a ?_ | refine sub_a ?_ | refine ld_a ?_ | refine ldA_a ?_ | refine ldS_a ?_ | refine ldNS_a ?_ | refine rdA_s ?_ | refine rd1_s ?_ | refine drew_a fun w1 H1 => ?_ | refine st_a fun w1 H1 => ?_ | refine stA_a fun w1 H1 => ?_ | refine lenT_a ?_ | refine lenO_a ?_ | refine ixT_a ?_ | refine ixO_a ?_ | fail)
  refine pv_of (eqE _ _ _ _) ?_
  refine cnd_k (fun h => ?_) (fun h => ?_)
  · have : a = b := of_decide_eq_true h
    exact ⟨by rw [cmpE, if_pos this], H.tail.tail⟩
  · have hne : a ≠ b := of_decide_eq_false h
    unfold F64_j1
    repeat (first | simp only [cI_enc, cE_enc, cN_enc, W0] | refine lss_a ?_ | refine lss_b ?_ | refine gtr_a ?_ | refine gtr_b ?_ | refine geq_a ?_ | refine geq_b ?_ | refine leq_a ?_ | refine leq_b ?_ | refine eql_a ?_ | refine eql_b ?_ | refine neq_a ?_ | refine neq_b ?_ | refine add_a ?_ | refine sub_a ?_ | refine ld_a ?_ | refine ldA_a ?_ | refine ldS_a ?_ | refine ldNS_a ?_ | refine rdA_s ?_ | refine rd1_s ?_ | refine drew_a fun w1 H1 => ?_ | refine st_a fun w1 H1 => ?_ | refine stA_a fun w1 H1 => ?_ | refine lenT_a ?_ | refine lenO_a ?_ | refine ixT_a ?_ | refine ixO_a ?_ | fail)
    refine cal_h (Compare_spec (by assumption)) ?_
    rintro _ w2 ⟨rfl, H2⟩
    repeat (first | simp only [cI_enc, cE_enc, cN_enc, W0] | refine lss_a ?_ | refine lss_b ?_ | refine gtr_a ?_ | refine gtr_b ?_ | refine geq_a ?_ | refine geq_b ?_ | refine leq_a ?_ | refine leq_b ?_ | refine eql_a ?_ | refine eql_b ?_ | refine neq_a ?_ | refine neq_b ?_ | refine add_a ?_ | refine sub_a ?_ | refine ld_a ?_ | refine ldA_a ?_ | refine ldS_a ?_ | refine ldNS_a ?_ | refine rdA_s ?_ | refine rd1_s ?_ | refine drew_a fun w1 H1 => ?_ | refine st_a fun w1 H1 => ?_ | refine stA_a fun w1 H1 => ?_ | refine lenT_a ?_ | refine lenO_a ?_ | refine ixT_a ?_ | refine ixO_a ?_ | fail)
    refine cal_h (Compare_spec (by assumption)) ?_
    rintro _ w3 ⟨rfl, H3⟩
    repeat (first | simp only [cI_enc, cE_enc, cN_enc, W0] | refine lss_a ?_ | refine lss_b ?_ | refine gtr_a ?_ | refine gtr_b ?_ | refine geq_a ?_ | refine geq_b ?_ | refine leq_a ?_ | refine leq_b ?_ | refine eql_a ?_ | refine eql_b ?_ | refine neq_a ?_ | refine neq_b ?_ | refine add_a ?_ | refine sub_a ?_ | refine ld_a ?_ | refine ldA_a ?_ | refine ldS_a ?_ | refine ldNS_a ?_ | refine rdA_s ?_ | refine rd1_s ?_ | refine drew_a fun w1 H1 => ?_ | refine st_a fun w1 H1 => ?_ | refine stA_a fun w1 H1 => ?_ | refine lenT_a ?_ | refine lenO_a ?_ | refine ixT_a ?_ | refine ixO_a ?_ | fail)
    refine lit_h (r := [I (cmpI a.1 b.1), I (cmpI a.2 b.2)]) elI H3 (by decide) (by decide) rfl fun w4 b4 H4 => ?_
    have ht : TR cI w0 [⟨b4, 3, [I (cmpI a.1 b.1), I (cmpI a.2 b.2)]⟩] (.slice (some ⟨b4, 0, none⟩) 2 2) [cmpI a.1 b.1, cmpI a.2 b.2] :=
      (TS.mk (C := cI) (el := 3) (xs := [cmpI a.1 b.1, cmpI a.2 b.2]) (b := b4) (cap := 2) (n := 2) (rest := []) rfl (Nat.le_refl _) rfl).tr
    repeat (first | simp only [cI_enc, cE_enc, cN_enc, W0] | refine lss_a ?_ | refine lss_b ?_ | refine gtr_a ?_ | refine gtr_b ?_ | refine geq_a ?_ | refine geq_b ?_ | refine leq_a ?_ | refine leq_b ?_ | refine eql_a ?_ | refine eql_b ?_ | refine neq_a ?_ | refine neq_b ?_ | refine add_a ?_ | refine sub_a ?_ | refine ld_a ?_ | refine ldA_a ?_ | refine ldS_a ?_ | refine ldNS_a ?_ | refine rdA_s ?_ | refine rd1_s ?_ | refine drew_a fun w1 H1 => ?_ | refine st_a fun w1 H1 => ?_ | refine stA_a fun w1 H1 => ?_ | refine lenT_a ?_ | refine lenO_a ?_ | refine ixT_a ?_ | refine ixO_a ?_ | fail)
    refine cal_h (Or_spec ht H4 csub) ?_
    rintro _ w5 ⟨rfl, H5⟩
    exact ⟨by rw [cmpE, if_neg hne], H5.tail.tail.tail⟩
theorem Hp.putO {b : Nat} {o o' : Obj} (H : Hp w0 w L) (hu : Upd L b (.o o) [] (.o o') [] L') : Hp w0 (w.putObj b o') L' :=
  H.updU hu (World.putObj_heap_same (heap_lt (H.blk _ hu.has).2)) (Ext.putO (w := w) b o')
theorem ySeq_spec (h : TR cN w0 cs s E) (H : Hp w0 w (⟨b, 23, [s]⟩ :: L)) (m1 : ∀ c ∈ cs, c ∈ L) (hl : E.length ≤ 4000) :
    Calls Pg 73 ⟨[.slice none 0 0, .func (.func 68) ⟨[]⟩ ⟨[ptr b 0]⟩]⟩ w fun e w' => ∃ s' cs', e = .returned s' ∧ Hp w0 w' (cs' ++ L) ∧ TS cN 39 s' E cs' := by
  apply F73_calls
  unfold F73
  refine bxs_h H rfl fun w b2 H => ?_
  unfold F73_rf
  intro rc w1 hw1 hY
  subst hw1
  obtain ⟨D, hD⟩ : ∃ D, D = w.heap.size := ⟨_, rfl⟩
  have H1 := H.newO (o := .deferred (some []))
  have H2 := H1.newO (o := .loop rc)
  have hsz : (w.alloc (.deferred (some []))).heap.size = w.heap.size + 1 := by simp
  rw [hsz, ← hD] at H2
  rw [← hD] at hY ⊢
  generalize (w.alloc (.deferred (some []))).alloc (.loop rc) = w1 at H2 ⊢
  clear H H1 hsz hD
  refine ⟨by kernel_rfl, ?_⟩
  rw [show ((⟨[]⟩ ++ ⟨[yv (D + 1)]⟩ ++ ⟨[ptr b 0]⟩ : Array Value)) = ⟨[yv (D + 1), ptr b 0]⟩ from rfl]
  apply F68_calls
  unfold F68
  repeat (first | simp only [cI_enc, cE_enc, cN_enc, W0] | refine lss_a ?_ | refine lss_b ?_ | refine gtr_a ?_ | refine gtr_b ?_ | refine geq_a ?_ | refine geq_b ?_ | refine leq_a ?_ | refine leq_b ?_ | refine eql_a ?_ | refine eql_b ?_ | refine neq_a ?_ | refine neq_b ?_ | refine add_a ?_ | refine sub_a ?_ | refine ld_a ?_ | refine ldA_a ?_ | refine ldS_a ?_ | refine ldNS_a ?_ | refine rdA_s ?_ | refine rd1_s ?_ | refine drew_a fun w1 H1 => ?_ | refine st_a fun w1 H1 => ?_ | refine stA_a fun w1 H1 => ?_ | refine lenT_a ?_ | refine lenO_a ?_ | refine ixT_a ?_ | refine ixO_a ?_ | fail)
  unfold F68_j1
  refine loop4 (F68_l1_succ _) (fun m x0 x5 x6 x7 w => ∃ i : Nat, ∃ s' cs', x0 = yv (D + 1) ∧ x5 = s ∧ x6 = I (E.length : Int) ∧ x7 = I i ∧ m + i = E.length ∧ TS cN 39 s' (E.take i) cs' ∧
      Hp w0 w (⟨D + 1, .o (.loop rc), []⟩ :: ⟨D, .o (.deferred (some [])), []⟩ :: ⟨b2, 23, [s']⟩ :: (cs' ++ (⟨b, 23, [s]⟩ :: L)))) ?_ (m := E.length) ⟨0, .slice none 0 0, [], rfl, rfl, rfl, rfl, rfl, TS.nil, H2⟩
  clear H2
  rintro m k _ s _ _ w ⟨i, s', cs', rfl, rfl, rfl, rfl, hm, hs', H⟩ hk
  unfold F68_b1
  refine lss_k (fun hi => ?_) (fun hi => ?_)
  · have hx : E[i]? = some E[i] := List.getElem?_eq_getElem (by omega)
    repeat (first | simp only [cI_enc, cE_enc, cN_enc, W0] | refine lss_a ?_ | refine lss_b ?_ | refine gtr_a ?_ | refine gtr_b ?_ | refine geq_a ?_ | refine geq_b ?_ | refine leq_a ?_ | refine leq_b ?_ | refine eql_a ?_ | refine eql_b ?_ | refine neq_a ?_ | refine neq_b ?_ | refine add_a ?_ | refine sub_a ?_ | refine ld_a ?_ | refine ldA_a ?_ | refine ldS_a ?_ | refine ldNS_a ?_ | refine rdA_s ?_ | refine rd1_s ?_ | refine drew_a fun w1 H1 => ?_ | refine st_a fun w1 H1 => ?_ | refine stA_a fun w1 H1 => ?_ | refine lenT_a ?_ | refine lenO_a ?_ | refine ixT_a ?_ | refine ixO_a ?_ | fail)
    refine ixN_t (C := cN) h H csub hx (by decide) ?_
    refine al39 H fun w b3 H => ?_
    refine stA_m H Upd.here rfl rfl (by intro c hc; simp [cN] at hc; rcases hc with rfl | rfl <;> rfl) fun w H => ?_
    refine ldA_m H Has.here rfl ?_
    refine hY _ [.agg ⟨[I (E[i].1 : Int), I (E[i].2 : Int)]⟩] _ _ ?_ ?_
    · exact (H.blk ⟨D + 1, .o (.loop rc), []⟩ (by simp)).2
    · show F73_rb (ptr b2 0) (.slice none 0 0) (.func (.func 68) ⟨[]⟩ ⟨[ptr b 0]⟩) _ _ _ _ _ w
      unfold F73_rb
      refine al39 H fun w b4 H => ?_
      refine stA_m H Upd.here rfl rfl (by intro c hc; simp at hc; rcases hc with rfl | rfl <;> rfl) fun w H => ?_
      refine ⟨(H.blk ⟨D + 1, .o (.loop rc), []⟩ (by simp)).2, ?_⟩
      have H := H.putO (b := D + 1) (o' := busyRec rc) (by exact updd)
      generalize w.putObj (D + 1) (busyRec rc) = w at H ⊢
      unfold F73_b1
      refine ld_m H (by exact has) rfl ?_
      refine ldA_m H Has.here rfl ?_
      refine app1_t (C := cN) (x := E[i]) elN H hs' spl rfl (by decide) (by simp; omega) (by simp; omega) fun w s2 cs2 H hs2 => ?_
      refine st_m H (by exact updd) (by simp) hs2.sc fun w H => ?_
      refine ⟨(H.blk ⟨D + 1, .o (busyRec rc), []⟩ (by simp)).2, ?_⟩
      have H := H.putO (b := D + 1) (o' := .loop rc) (by exact updd)
      generalize w.putObj (D + 1) (.loop rc) = w at H ⊢
      repeat (first | simp only [cI_enc, cE_enc, cN_enc, W0] | refine lss_a ?_ | refine lss_b ?_ | refine gtr_a ?_ | refine gtr_b ?_ | refine geq_a ?_ | refine geq_b ?_ | refine leq_a ?_ | refine leq_b ?_ | refine eql_a ?_ | refine eql_b ?_ | refine neq_a ?_ | refine neq_b ?_ | refine add_a ?_ | refine sub_a ?_ | refine ld_a ?_ | refine ldA_a ?_ | refine ldS_a ?_ | refine ldNS_a ?_ | refine rdA_s ?_ | refine rd1_s ?_ | refine drew_a fun w1 H1 => ?_ | refine st_a fun w1 H1 => ?_ | refine stA_a fun w1 H1 => ?_ | refine lenT_a ?_ | refine lenO_a ?_ | refine ixT_a ?_ | refine ixO_a ?_ | fail)
      refine hk (m - 1) _ _ _ _ _ (by omega) ⟨i + 1, s2, cs2, rfl, rfl, rfl, rfl, by omega, ?_, H.re⟩
      rw [List.take_add_one, hx]; exact hs2
  · repeat (first | simp only [cI_enc, cE_enc, cN_enc, W0] | refine lss_a ?_ | refine lss_b ?_ | refine gtr_a ?_ | refine gtr_b ?_ | refine geq_a ?_ | refine geq_b ?_ | refine leq_a ?_ | refine leq_b ?_ | refine eql_a ?_ | refine eql_b ?_ | refine neq_a ?_ | refine neq_b ?_ | refine add_a ?_ | refine sub_a ?_ | refine ld_a ?_ | refine ldA_a ?_ | refine ldS_a ?_ | refine ldNS_a ?_ | refine rdA_s ?_ | refine rd1_s ?_ | refine drew_a fun w1 H1 => ?_ | refine st_a fun w1 H1 => ?_ | refine stA_a fun w1 H1 => ?_ | refine lenT_a ?_ | refine lenO_a ?_ | refine ixT_a ?_ | refine ixO_a ?_ | fail)
    refine .inl ⟨(H.blk ⟨D + 1, .o (.loop rc), []⟩ (by simp)).2, ?_⟩
    have H := H.putO (b := D + 1) (o' := overRec rc) (by exact updd)
    generalize w.putObj (D + 1) (overRec rc) = w at H ⊢
    unfold F73_af
    refine ld_m H (by exact has) rfl ?_
    refine ⟨(H.blk ⟨D, .o (.deferred (some [])), []⟩ (by simp)).2, ?_⟩
    have H := H.putO (b := D) (o' := .deferred none) (by exact updd)
    generalize w.putObj D (.deferred none) = w at H ⊢
    rw [List.take_of_length_le (by omega)] at hs'
    exact ⟨s', cs', rfl, H.re, hs'⟩
end
end Go.Proofs.Ytagcifbfokneoaa.Den
