/- Inherit: the reference's distances and chains, walked. Conditions: none. -/
import Derived.Test.YtagcifbfokneoaaIhC
set_option linter.unusedVariables false
set_option linter.unusedSimpArgs false
set_option maxRecDepth 8000
namespace Go.Proofs.Ytagcifbfokneoaa.Den
open Go Go.RowKit
def cU : Cod Nat := ⟨1, fun n => [I (n : Int)], fun _ => rfl, by intro a c hc; simp at hc; subst hc; rfl⟩
section
variable {w w' w0 : World} {L L' F cs cs2 cs3 : List Chunk} {s s2 sb se sd : Value} {K : VK} {R : ER} {base d : List Int} {es : List (Int × Int)} {E : List (Nat × Nat)}
theorem elU : ElT 22 3 cU.sz 8 [I 0] := ⟨by kernel_rfl, by kernel_rfl, rfl⟩
theorem rdist_spec {to : Nat} (h1 : TR cI w0 cs sb base) (h2 : TR cN w0 cs2 se E) (H : Hp w0 w L) (m1 : ∀ c ∈ cs, c ∈ L) (m2 : ∀ c ∈ cs2, c ∈ L) (hV : Valid E base.length) (hl : base.length ≤ 256) (hel : E.length ≤ 4000) (hto : to < base.length) :
    Calls Pg 47 ⟨[.agg ⟨[sb, se]⟩, I to]⟩ w fun x w' => ∃ s cs d, x = .returned s ∧ Hp w0 w' (cs ++ L) ∧ TS cI 3 s d cs ∧ d.length = base.length ∧ IsD E base.length to fun v => gt d v - 1 := by
  apply F47_calls
  unfold F47
  refine bx_m H fun w b H => ?_
  repeat (first | simp only [cI_enc, cE_enc, cN_enc, W0] | refine lss_a ?_ | refine lss_b ?_ | refine gtr_a ?_ | refine gtr_b ?_ | refine geq_a ?_ | refine geq_b ?_ | refine leq_a ?_ | refine leq_b ?_ | refine eql_a ?_ | refine eql_b ?_ | refine neq_a ?_ | refine neq_b ?_ | refine add_a ?_ | refine sub_a ?_ | refine ld_a ?_ | refine ldA_a ?_ | refine ldS_a ?_ | refine ldNS_a ?_ | refine rdA_s ?_ | refine rd1_s ?_ | refine drew_a fun w1 H1 => ?_ | refine st_a fun w1 H1 => ?_ | refine stA_a fun w1 H1 => ?_ | refine lenT_a ?_ | refine lenO_a ?_ | refine ixT_a ?_ | refine ixO_a ?_ | fail)
  refine make_t (C := cI) (x := 0) elI rfl H rfl (by omega) (by omega) fun w s0 cs0 H hs0 => ?_
  refine ist1_t (C := cI) (x := 1) hs0 H spl (by simpa using hto) rfl rfl fun w cs0 H hs0 => ?_
  unfold F47_j2 F47_j3
  refine loop3 (F47_l2_succ _) (fun m x2 x5 x6 w => ∃ d s cs, ∃ k : Nat, x2 = ptr b 0 ∧ x5 = s ∧ x6 = I ((k : Int) + 1) ∧ m + k = base.length ∧ TS cI 3 s d cs ∧ Lv E base.length to (k + 1) [] d ∧ Hp w0 w (cs ++ (⟨b, 32, [sb, se]⟩ :: L))) ?_ (m := base.length)
    ⟨_, _, cs0, 0, rfl, rfl, rfl, rfl, hs0, Lv.first hto, H⟩
  rintro m k _ _ _ w ⟨d, s, cs1, kk, rfl, rfl, rfl, hm, hs, hL, H⟩ hk
  unfold F47_b1
  repeat (first | simp only [cI_enc, cE_enc, cN_enc, W0] | refine lss_a ?_ | refine lss_b ?_ | refine gtr_a ?_ | refine gtr_b ?_ | refine geq_a ?_ | refine geq_b ?_ | refine leq_a ?_ | refine leq_b ?_ | refine eql_a ?_ | refine eql_b ?_ | refine neq_a ?_ | refine neq_b ?_ | refine add_a ?_ | refine sub_a ?_ | refine ld_a ?_ | refine ldA_a ?_ | refine ldS_a ?_ | refine ldNS_a ?_ | refine rdA_s ?_ | refine rd1_s ?_ | refine drew_a fun w1 H1 => ?_ | refine st_a fun w1 H1 => ?_ | refine stA_a fun w1 H1 => ?_ | refine lenT_a ?_ | refine lenO_a ?_ | refine ixT_a ?_ | refine ixO_a ?_ | fail)
  refine leq_k (fun hi => ?_) (fun hi => ?_)
  · repeat (first | simp only [cI_enc, cE_enc, cN_enc, W0] | refine lss_a ?_ | refine lss_b ?_ | refine gtr_a ?_ | refine gtr_b ?_ | refine geq_a ?_ | refine geq_b ?_ | refine leq_a ?_ | refine leq_b ?_ | refine eql_a ?_ | refine eql_b ?_ | refine neq_a ?_ | refine neq_b ?_ | refine add_a ?_ | refine sub_a ?_ | refine ld_a ?_ | refine ldA_a ?_ | refine ldS_a ?_ | refine ldNS_a ?_ | refine rdA_s ?_ | refine rd1_s ?_ | refine drew_a fun w1 H1 => ?_ | refine st_a fun w1 H1 => ?_ | refine stA_a fun w1 H1 => ?_ | refine lenT_a ?_ | refine lenO_a ?_ | refine ixT_a ?_ | refine ixO_a ?_ | fail)
    unfold F47_j4 F47_j6 F47_j7
    refine loop4 (F47_l1_succ _ _) (fun m x2 x5 x6 x7 w => ∃ d s cs, ∃ i : Nat, x2 = ptr b 0 ∧ x5 = s ∧ x6 = I ((kk : Int) + 1) ∧ x7 = I i ∧ m + i = E.length ∧ TS cI 3 s d cs ∧ Lv E base.length to (kk + 1) (E.take i) d ∧ Hp w0 w (cs ++ (⟨b, 32, [sb, se]⟩ :: L))) ?_ (m := E.length)
      ⟨d, _, cs1, 0, rfl, rfl, rfl, rfl, rfl, hs, hL, H⟩
    clear hs hL H
    rintro n k2 _ s _ _ w ⟨d, _, cs1, i, rfl, rfl, rfl, rfl, hm2, hs, hL, H⟩ hk2
    unfold F47_b2
    repeat (first | simp only [cI_enc, cE_enc, cN_enc, W0] | refine lss_a ?_ | refine lss_b ?_ | refine gtr_a ?_ | refine gtr_b ?_ | refine geq_a ?_ | refine geq_b ?_ | refine leq_a ?_ | refine leq_b ?_ | refine eql_a ?_ | refine eql_b ?_ | refine neq_a ?_ | refine neq_b ?_ | refine add_a ?_ | refine sub_a ?_ | refine ld_a ?_ | refine ldA_a ?_ | refine ldS_a ?_ | refine ldNS_a ?_ | refine rdA_s ?_ | refine rd1_s ?_ | refine drew_a fun w1 H1 => ?_ | refine st_a fun w1 H1 => ?_ | refine stA_a fun w1 H1 => ?_ | refine lenT_a ?_ | refine lenO_a ?_ | refine ixT_a ?_ | refine ixO_a ?_ | fail)
    refine lss_k (fun hi2 => ?_) (fun hi2 => ?_)
    · have hx : E[i]? = some E[i] := List.getElem?_eq_getElem (by omega)
      have hmem : E[i] ∈ E := List.getElem_mem _
      have hv := hV _ hmem
      have htk : E.take (i + 1) = E.take i ++ [E[i]] := by rw [List.take_add_one, hx]; rfl
      generalize E[i] = e at hx hmem hv htk
      obtain ⟨a, c⟩ := e
      have ha : d[a]? = some (gt d a) := gt_some (by rw [hL.len]; exact hv.1)
      have hc : d[c]? = some (gt d c) := gt_some (by rw [hL.len]; exact hv.2)
      repeat (first | simp only [cI_enc, cE_enc, cN_enc, W0] | refine lss_a ?_ | refine lss_b ?_ | refine gtr_a ?_ | refine gtr_b ?_ | refine geq_a ?_ | refine geq_b ?_ | refine leq_a ?_ | refine leq_b ?_ | refine eql_a ?_ | refine eql_b ?_ | refine neq_a ?_ | refine neq_b ?_ | refine add_a ?_ | refine sub_a ?_ | refine ld_a ?_ | refine ldA_a ?_ | refine ldS_a ?_ | refine ldNS_a ?_ | refine rdA_s ?_ | refine rd1_s ?_ | refine drew_a fun w1 H1 => ?_ | refine st_a fun w1 H1 => ?_ | refine stA_a fun w1 H1 => ?_ | refine lenT_a ?_ | refine lenO_a ?_ | refine ixT_a ?_ | refine ixO_a ?_ | fail)
      refine ixN_t (C := cN) h2 H (by intro c hc; simp [m2 c hc]) hx (by decide) ?_
      refine al39 H fun w b2 H => ?_
      repeat (first | simp only [cI_enc, cE_enc, cN_enc, W0] | refine lss_a ?_ | refine lss_b ?_ | refine gtr_a ?_ | refine gtr_b ?_ | refine geq_a ?_ | refine geq_b ?_ | refine leq_a ?_ | refine leq_b ?_ | refine eql_a ?_ | refine eql_b ?_ | refine neq_a ?_ | refine neq_b ?_ | refine add_a ?_ | refine sub_a ?_ | refine ld_a ?_ | refine ldA_a ?_ | refine ldS_a ?_ | refine ldNS_a ?_ | refine rdA_s ?_ | refine rd1_s ?_ | refine drew_a fun w1 H1 => ?_ | refine st_a fun w1 H1 => ?_ | refine stA_a fun w1 H1 => ?_ | refine lenT_a ?_ | refine lenO_a ?_ | refine ixT_a ?_ | refine ixO_a ?_ | fail)
      have fin : ∀ {w}, Hp w0 w (⟨b2, 39, [I a, I c]⟩ :: (cs1 ++ (⟨b, 32, [sb, se]⟩ :: L))) → (gt d c = ((kk + 1 : Nat) : Int) → gt d a ≠ 0) → k2 (ptr b 0) s (I ((kk : Int) + 1)) (I ((i : Int) + 1)) w := by
        intro w H hne
        refine hk2 (n - 1) _ _ _ _ _ (by omega) ⟨d, _, cs1, i + 1, rfl, rfl, rfl, rfl, by omega, hs, ?_, H.tail⟩
        rw [htk]
        exact hL.skip hne hv.1
      refine eql_k (fun hg => ?_) (fun hg => ?_)
      · repeat (first | simp only [cI_enc, cE_enc, cN_enc, W0] | refine lss_a ?_ | refine lss_b ?_ | refine gtr_a ?_ | refine gtr_b ?_ | refine geq_a ?_ | refine geq_b ?_ | refine leq_a ?_ | refine leq_b ?_ | refine eql_a ?_ | refine eql_b ?_ | refine neq_a ?_ | refine neq_b ?_ | refine add_a ?_ | refine sub_a ?_ | refine ld_a ?_ | refine ldA_a ?_ | refine ldS_a ?_ | refine ldNS_a ?_ | refine rdA_s ?_ | refine rd1_s ?_ | refine drew_a fun w1 H1 => ?_ | refine st_a fun w1 H1 => ?_ | refine stA_a fun w1 H1 => ?_ | refine lenT_a ?_ | refine lenO_a ?_ | refine ixT_a ?_ | refine ixO_a ?_ | fail)
        refine eql_k (fun hg2 => ?_) (fun hg2 => ?_)
        · repeat (first | simp only [cI_enc, cE_enc, cN_enc, W0] | refine lss_a ?_ | refine lss_b ?_ | refine gtr_a ?_ | refine gtr_b ?_ | refine geq_a ?_ | refine geq_b ?_ | refine leq_a ?_ | refine leq_b ?_ | refine eql_a ?_ | refine eql_b ?_ | refine neq_a ?_ | refine neq_b ?_ | refine add_a ?_ | refine sub_a ?_ | refine ld_a ?_ | refine ldA_a ?_ | refine ldS_a ?_ | refine ldNS_a ?_ | refine rdA_s ?_ | refine rd1_s ?_ | refine drew_a fun w1 H1 => ?_ | refine st_a fun w1 H1 => ?_ | refine stA_a fun w1 H1 => ?_ | refine lenT_a ?_ | refine lenO_a ?_ | refine ixT_a ?_ | refine ixO_a ?_ | fail)
          refine ist1_t (C := cI) (x := ((kk + 1 : Nat) : Int) + 1) hs (by assumption) spl (by rw [hL.len]; exact hv.1) rfl rfl fun w cs2 H hs' => ?_
          unfold F47_j9
          repeat (first | simp only [cI_enc, cE_enc, cN_enc, W0] | refine lss_a ?_ | refine lss_b ?_ | refine gtr_a ?_ | refine gtr_b ?_ | refine geq_a ?_ | refine geq_b ?_ | refine leq_a ?_ | refine leq_b ?_ | refine eql_a ?_ | refine eql_b ?_ | refine neq_a ?_ | refine neq_b ?_ | refine add_a ?_ | refine sub_a ?_ | refine ld_a ?_ | refine ldA_a ?_ | refine ldS_a ?_ | refine ldNS_a ?_ | refine rdA_s ?_ | refine rd1_s ?_ | refine drew_a fun w1 H1 => ?_ | refine st_a fun w1 H1 => ?_ | refine stA_a fun w1 H1 => ?_ | refine lenT_a ?_ | refine lenO_a ?_ | refine ixT_a ?_ | refine ixO_a ?_ | fail)
          refine hk2 (n - 1) _ _ _ _ _ (by omega) ⟨_, _, cs2, i + 1, rfl, rfl, rfl, rfl, by omega, hs', ?_, H.re⟩
          rw [htk]
          exact hL.set hV hmem (fun x hx => List.mem_of_mem_take hx) (by omega) hg hg2
        · repeat (first | simp only [cI_enc, cE_enc, cN_enc, W0] | refine lss_a ?_ | refine lss_b ?_ | refine gtr_a ?_ | refine gtr_b ?_ | refine geq_a ?_ | refine geq_b ?_ | refine leq_a ?_ | refine leq_b ?_ | refine eql_a ?_ | refine eql_b ?_ | refine neq_a ?_ | refine neq_b ?_ | refine add_a ?_ | refine sub_a ?_ | refine ld_a ?_ | refine ldA_a ?_ | refine ldS_a ?_ | refine ldNS_a ?_ | refine rdA_s ?_ | refine rd1_s ?_ | refine drew_a fun w1 H1 => ?_ | refine st_a fun w1 H1 => ?_ | refine stA_a fun w1 H1 => ?_ | refine lenT_a ?_ | refine lenO_a ?_ | refine ixT_a ?_ | refine ixO_a ?_ | fail)
          exact fin (by assumption) fun _ => hg2
      · repeat (first | simp only [cI_enc, cE_enc, cN_enc, W0] | refine lss_a ?_ | refine lss_b ?_ | refine gtr_a ?_ | refine gtr_b ?_ | refine geq_a ?_ | refine geq_b ?_ | refine leq_a ?_ | refine leq_b ?_ | refine eql_a ?_ | refine eql_b ?_ | refine neq_a ?_ | refine neq_b ?_ | refine add_a ?_ | refine sub_a ?_ | refine ld_a ?_ | refine ldA_a ?_ | refine ldS_a ?_ | refine ldNS_a ?_ | refine rdA_s ?_ | refine rd1_s ?_ | refine drew_a fun w1 H1 => ?_ | refine st_a fun w1 H1 => ?_ | refine stA_a fun w1 H1 => ?_ | refine lenT_a ?_ | refine lenO_a ?_ | refine ixT_a ?_ | refine ixO_a ?_ | fail)
        exact fin (by assumption) fun h => absurd h hg
    · repeat (first | simp only [cI_enc, cE_enc, cN_enc, W0] | refine lss_a ?_ | refine lss_b ?_ | refine gtr_a ?_ | refine gtr_b ?_ | refine geq_a ?_ | refine geq_b ?_ | refine leq_a ?_ | refine leq_b ?_ | refine eql_a ?_ | refine eql_b ?_ | refine neq_a ?_ | refine neq_b ?_ | refine add_a ?_ | refine sub_a ?_ | refine ld_a ?_ | refine ldA_a ?_ | refine ldS_a ?_ | refine ldNS_a ?_ | refine rdA_s ?_ | refine rd1_s ?_ | refine drew_a fun w1 H1 => ?_ | refine st_a fun w1 H1 => ?_ | refine stA_a fun w1 H1 => ?_ | refine lenT_a ?_ | refine lenO_a ?_ | refine ixT_a ?_ | refine ixO_a ?_ | fail)
      rw [List.take_of_length_le (by omega)] at hL
      exact hk (m - 1) _ _ _ _ (by omega) ⟨d, _, cs1, kk + 1, rfl, rfl, rfl, by omega, hs, hL.next, H⟩
  · repeat (first | simp only [cI_enc, cE_enc, cN_enc, W0] | refine lss_a ?_ | refine lss_b ?_ | refine gtr_a ?_ | refine gtr_b ?_ | refine geq_a ?_ | refine geq_b ?_ | refine leq_a ?_ | refine leq_b ?_ | refine eql_a ?_ | refine eql_b ?_ | refine neq_a ?_ | refine neq_b ?_ | refine add_a ?_ | refine sub_a ?_ | refine ld_a ?_ | refine ldA_a ?_ | refine ldS_a ?_ | refine ldNS_a ?_ | refine rdA_s ?_ | refine rd1_s ?_ | refine drew_a fun w1 H1 => ?_ | refine st_a fun w1 H1 => ?_ | refine stA_a fun w1 H1 => ?_ | refine lenT_a ?_ | refine lenO_a ?_ | refine ixT_a ?_ | refine ixO_a ?_ | fail)
    unfold F47_j1
    obtain rfl : kk = base.length := by omega
    exact ⟨_, cs1, d, rfl, H.re, hs, hL.len, hL.isD hV⟩
end
end Go.Proofs.Ytagcifbfokneoaa.Den
