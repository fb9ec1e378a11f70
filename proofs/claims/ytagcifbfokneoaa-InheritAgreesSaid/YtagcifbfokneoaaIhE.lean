/- Inherit: the reference's chains and Reason, walked. Conditions: none. -/
import Derived.Test.YtagcifbfokneoaaIhD
set_option linter.unusedVariables false
set_option linter.unusedSimpArgs false
set_option maxRecDepth 8000
namespace Go.Proofs.Ytagcifbfokneoaa.Den
open Go Go.RowKit
section
variable {w w' w0 : World} {L L' F cs cs2 cs3 : List Chunk} {s s2 sb se sd : Value} {K : VK} {R : ER} {base d : List Int} {es : List (Int × Int)} {E : List (Nat × Nat)} {n : Nat}
theorem ofN_mem {a b : Nat} : ((a : Int), (b : Int)) ∈ E.map ofN ↔ (a, b) ∈ E := by
  rw [List.mem_map]
  constructor
  · rintro ⟨⟨x, y⟩, h, e⟩
    simp only [ofN, Prod.mk.injEq] at e
    obtain ⟨rfl, rfl⟩ : x = a ∧ y = b := by omega
    exact h
  · intro h; exact ⟨_, h, rfl⟩
theorem ofCN (h : TR cN w0 cs s E) : TR cE w0 cs s (E.map ofN) := h.recode rfl (by simp) (by simp [Cod.all, List.map_map]; rfl)
theorem hasN_spec {a b : Nat} (h : TR cN w0 cs s E) (H : Hp w0 w L) (m : ∀ c ∈ cs, c ∈ L) (hl : E.length ≤ 4000) :
    Calls Pg 42 ⟨[s, .agg ⟨[I (a : Int), I (b : Int)]⟩]⟩ w fun x w' => x = .returned (.bool (decide ((a, b) ∈ E))) ∧ Hp w0 w' L := by
  have := has_spec (e := ((a : Int), (b : Int))) (ofCN h) H m (by simp; omega)
  refine this.mono fun x w' hx => ?_
  rw [decide_eq_decide.2 ofN_mem] at hx
  exact hx
theorem chain_ne {f : Nat → Int} {k v : Nat} : chainP E n f k v = v :: (chainP E n f k v).tail := by cases k <;> rfl
theorem chain_spec {from_ to k0 : Nat} (h1 : TR cI w0 cs sb base) (h2 : TR cN w0 cs2 se E) (h3 : TR cI w0 cs3 sd d) (H : Hp w0 w L) (m1 : ∀ c ∈ cs, c ∈ L) (m2 : ∀ c ∈ cs2, c ∈ L) (m3 : ∀ c ∈ cs3, c ∈ L)
    (hV : Valid E base.length) (hl : base.length ≤ 256) (hel : E.length ≤ 4000) (hf : from_ < base.length) (hd : d.length = base.length) (hD : IsD E base.length to fun v => gt d v - 1) (hk0 : gt d from_ = (k0 : Int) + 1) (hkl : k0 ≤ 256) :
    Calls Pg 48 ⟨[.agg ⟨[sb, se]⟩, I from_, sd]⟩ w fun x w' => ∃ s cs, x = .returned s ∧ Hp w0 w' (cs ++ L) ∧ TS cU 3 s (chainP E base.length (fun v => gt d v - 1) k0 from_) cs := by
  apply F48_calls
  unfold F48
  refine bx_m H fun w b H => ?_
  refine lit1_t (C := cU) (x := from_) elU H rfl (by decide) fun w s0 cs0 H hs0 => ?_
  unfold F48_j2
  refine loop4 (F48_l2_succ _) (fun m x1 x2 x3 x7 w => ∃ s cs l, ∃ v : Nat, x1 = I v ∧ x2 = sd ∧ x3 = ptr b 0 ∧ x7 = s ∧ v < base.length ∧ gt d v = (m : Int) + 1 ∧ l.length + m = k0 + 1 ∧ l ++ (chainP E base.length (fun v => gt d v - 1) m v).tail = chainP E base.length (fun v => gt d v - 1) k0 from_ ∧ TS cU 3 s l cs ∧ Hp w0 w (cs ++ (⟨b, 32, [sb, se]⟩ :: L))) ?_ (m := k0)
    ⟨_, cs0, [from_], from_, rfl, rfl, rfl, rfl, hf, hk0, by simp; omega, by rw [List.singleton_append]; exact chain_ne.symm, hs0, H⟩
  rintro m k _ sd _ s w ⟨_, cs1, l, v, rfl, rfl, rfl, rfl, hv, hm, hll, hc, hs, H⟩ hk
  have hx : d[v]? = some (gt d v) := gt_some (by omega)
  unfold F48_b1
  refine ix1_t (C := cI) h3 H (by intro c hc; simp [m3 c hc]) hx rfl rfl ?_
  cases m with
  | zero =>
    refine gtr_n (by omega) ?_
    repeat (first | simp only [cI_enc, cE_enc, cN_enc, W0] | refine lss_a ?_ | refine lss_b ?_ | refine gtr_a ?_ | refine gtr_b ?_ | refine geq_a ?_ | refine geq_b ?_ | refine leq_a ?_ | refine leq_b ?_ | refine eql_a ?_ | refine eql_b ?_ | refine neq_a ?_ | refine neq_b ?_ | refine add_a ?_ | refine sub_a ?_ | refine ld_a ?_ | refine ldA_a ?_ | refine ldS_a ?_ | refine ldNS_a ?_ | refine rdA_s ?_ | refine rd1_s ?_ | refine drew_a fun w1 H1 => ?_ | refine st_a fun w1 H1 => ?_ | refine stA_a fun w1 H1 => ?_ | refine lenT_a ?_ | refine lenO_a ?_ | refine ixT_a ?_ | refine ixO_a ?_ | fail)
    unfold F48_j1
    refine ⟨_, cs1, rfl, H.re, ?_⟩
    simp only [chainP, List.tail_cons, List.append_nil] at hc
    rw [← hc]; exact hs
  | succ m =>
    refine gtr_y (by omega) ?_
    repeat (first | simp only [cI_enc, cE_enc, cN_enc, W0] | refine lss_a ?_ | refine lss_b ?_ | refine gtr_a ?_ | refine gtr_b ?_ | refine geq_a ?_ | refine geq_b ?_ | refine leq_a ?_ | refine leq_b ?_ | refine eql_a ?_ | refine eql_b ?_ | refine neq_a ?_ | refine neq_b ?_ | refine add_a ?_ | refine sub_a ?_ | refine ld_a ?_ | refine ldA_a ?_ | refine ldS_a ?_ | refine ldNS_a ?_ | refine rdA_s ?_ | refine rd1_s ?_ | refine drew_a fun w1 H1 => ?_ | refine st_a fun w1 H1 => ?_ | refine stA_a fun w1 H1 => ?_ | refine lenT_a ?_ | refine lenO_a ?_ | refine ixT_a ?_ | refine ixO_a ?_ | fail)
    obtain ⟨t, ht1, ht2, ht3, ht4, ht5⟩ := hD.least hV hv (k := m) (by show gt d v - 1 = _; omega)
    have ht2 : gt d t - 1 = (m : Int) := ht2
    unfold F48_j3 F48_j5 F48_j6
    refine loop6 (F48_l1_succ _ _) (fun n x1 x2 x3 x7 x8 x9 w => x1 = I v ∧ x2 = sd ∧ x3 = ptr b 0 ∧ x7 = s ∧ Hp w0 w (cs1 ++ (⟨b, 32, [sb, se]⟩ :: L)) ∧ ((∃ i : Nat, x8 = I (-1) ∧ x9 = I i ∧ i ≤ t ∧ n = t + 1 - i) ∨ (x8 = I t ∧ x9 = I ((t : Int) + 1) ∧ n = 0))) ?_ (m := t + 1)
      ⟨rfl, rfl, rfl, rfl, H, .inl ⟨0, rfl, rfl, by omega, by omega⟩⟩
    clear H
    rintro n k2 _ sd _ s _ _ w ⟨rfl, rfl, rfl, rfl, H, hh⟩ hk2
    unfold F48_b2
    rcases hh with ⟨i, rfl, rfl, hi, rfl⟩ | ⟨rfl, rfl, rfl⟩
    · repeat (first | simp only [cI_enc, cE_enc, cN_enc, W0] | refine lss_a ?_ | refine lss_b ?_ | refine gtr_a ?_ | refine gtr_b ?_ | refine geq_a ?_ | refine geq_b ?_ | refine leq_a ?_ | refine leq_b ?_ | refine eql_a ?_ | refine eql_b ?_ | refine neq_a ?_ | refine neq_b ?_ | refine add_a ?_ | refine sub_a ?_ | refine ld_a ?_ | refine ldA_a ?_ | refine ldS_a ?_ | refine ldNS_a ?_ | refine rdA_s ?_ | refine rd1_s ?_ | refine drew_a fun w1 H1 => ?_ | refine st_a fun w1 H1 => ?_ | refine stA_a fun w1 H1 => ?_ | refine lenT_a ?_ | refine lenO_a ?_ | refine ixT_a ?_ | refine ixO_a ?_ | fail)
      have hxi : d[i]? = some (gt d i) := gt_some (by omega)
      refine ix1_t (C := cI) h3 (by assumption) (by intro c hc; simp [m3 c hc]) hxi rfl rfl ?_
      refine ix1_t (C := cI) h3 (by assumption) (by intro c hc; simp [m3 c hc]) hx rfl rfl ?_
      refine sub_k (by omega) (by omega) rfl ?_
      refine eql_k (fun hg => ?_) (fun hg => ?_)
      · repeat (first | simp only [cI_enc, cE_enc, cN_enc, W0] | refine lss_a ?_ | refine lss_b ?_ | refine gtr_a ?_ | refine gtr_b ?_ | refine geq_a ?_ | refine geq_b ?_ | refine leq_a ?_ | refine leq_b ?_ | refine eql_a ?_ | refine eql_b ?_ | refine neq_a ?_ | refine neq_b ?_ | refine add_a ?_ | refine sub_a ?_ | refine ld_a ?_ | refine ldA_a ?_ | refine ldS_a ?_ | refine ldNS_a ?_ | refine rdA_s ?_ | refine rd1_s ?_ | refine drew_a fun w1 H1 => ?_ | refine st_a fun w1 H1 => ?_ | refine stA_a fun w1 H1 => ?_ | refine lenT_a ?_ | refine lenO_a ?_ | refine ixT_a ?_ | refine ixO_a ?_ | fail)
        refine pv_of (v := .agg ⟨[I v, I i]⟩) rfl ?_
        repeat (first | simp only [cI_enc, cE_enc, cN_enc, W0] | refine lss_a ?_ | refine lss_b ?_ | refine gtr_a ?_ | refine gtr_b ?_ | refine geq_a ?_ | refine geq_b ?_ | refine leq_a ?_ | refine leq_b ?_ | refine eql_a ?_ | refine eql_b ?_ | refine neq_a ?_ | refine neq_b ?_ | refine add_a ?_ | refine sub_a ?_ | refine ld_a ?_ | refine ldA_a ?_ | refine ldS_a ?_ | refine ldNS_a ?_ | refine rdA_s ?_ | refine rd1_s ?_ | refine drew_a fun w1 H1 => ?_ | refine st_a fun w1 H1 => ?_ | refine stA_a fun w1 H1 => ?_ | refine lenT_a ?_ | refine lenO_a ?_ | refine ixT_a ?_ | refine ixO_a ?_ | fail)
        refine cal_h (hasN_spec h2 (by assumption) (by intro c hc; simp [m2 c hc]) hel) ?_
        rintro _ w ⟨rfl, H⟩
        repeat (first | simp only [cI_enc, cE_enc, cN_enc, W0] | refine lss_a ?_ | refine lss_b ?_ | refine gtr_a ?_ | refine gtr_b ?_ | refine geq_a ?_ | refine geq_b ?_ | refine leq_a ?_ | refine leq_b ?_ | refine eql_a ?_ | refine eql_b ?_ | refine neq_a ?_ | refine neq_b ?_ | refine add_a ?_ | refine sub_a ?_ | refine ld_a ?_ | refine ldA_a ?_ | refine ldS_a ?_ | refine ldNS_a ?_ | refine rdA_s ?_ | refine rd1_s ?_ | refine drew_a fun w1 H1 => ?_ | refine st_a fun w1 H1 => ?_ | refine stA_a fun w1 H1 => ?_ | refine lenT_a ?_ | refine lenO_a ?_ | refine ixT_a ?_ | refine ixO_a ?_ | fail)
        refine cnd_k (fun hq => ?_) (fun hq => ?_)
        · have hq := of_decide_eq_true hq
          obtain rfl : i = t := by
            rcases Nat.lt_or_ge i t with h | h
            · exact absurd ⟨by omega, hq⟩ (ht4 i h)
            · omega
          repeat (first | simp only [cI_enc, cE_enc, cN_enc, W0] | refine lss_a ?_ | refine lss_b ?_ | refine gtr_a ?_ | refine gtr_b ?_ | refine geq_a ?_ | refine geq_b ?_ | refine leq_a ?_ | refine leq_b ?_ | refine eql_a ?_ | refine eql_b ?_ | refine neq_a ?_ | refine neq_b ?_ | refine add_a ?_ | refine sub_a ?_ | refine ld_a ?_ | refine ldA_a ?_ | refine ldS_a ?_ | refine ldNS_a ?_ | refine rdA_s ?_ | refine rd1_s ?_ | refine drew_a fun w1 H1 => ?_ | refine st_a fun w1 H1 => ?_ | refine stA_a fun w1 H1 => ?_ | refine lenT_a ?_ | refine lenO_a ?_ | refine ixT_a ?_ | refine ixO_a ?_ | fail)
          exact hk2 0 _ _ _ _ _ _ _ (by omega) ⟨rfl, rfl, rfl, rfl, H, .inr ⟨rfl, rfl, rfl⟩⟩
        · have hq := of_decide_eq_false hq
          have hne : i ≠ t := by rintro rfl; exact hq ht3
          repeat (first | simp only [cI_enc, cE_enc, cN_enc, W0] | refine lss_a ?_ | refine lss_b ?_ | refine gtr_a ?_ | refine gtr_b ?_ | refine geq_a ?_ | refine geq_b ?_ | refine leq_a ?_ | refine leq_b ?_ | refine eql_a ?_ | refine eql_b ?_ | refine neq_a ?_ | refine neq_b ?_ | refine add_a ?_ | refine sub_a ?_ | refine ld_a ?_ | refine ldA_a ?_ | refine ldS_a ?_ | refine ldNS_a ?_ | refine rdA_s ?_ | refine rd1_s ?_ | refine drew_a fun w1 H1 => ?_ | refine st_a fun w1 H1 => ?_ | refine stA_a fun w1 H1 => ?_ | refine lenT_a ?_ | refine lenO_a ?_ | refine ixT_a ?_ | refine ixO_a ?_ | fail)
          exact hk2 (t + 1 - (i + 1)) _ _ _ _ _ _ _ (by omega) ⟨rfl, rfl, rfl, rfl, H, .inl ⟨i + 1, rfl, rfl, by omega, rfl⟩⟩
      · have hne : i ≠ t := by rintro rfl; omega
        repeat (first | simp only [cI_enc, cE_enc, cN_enc, W0] | refine lss_a ?_ | refine lss_b ?_ | refine gtr_a ?_ | refine gtr_b ?_ | refine geq_a ?_ | refine geq_b ?_ | refine leq_a ?_ | refine leq_b ?_ | refine eql_a ?_ | refine eql_b ?_ | refine neq_a ?_ | refine neq_b ?_ | refine add_a ?_ | refine sub_a ?_ | refine ld_a ?_ | refine ldA_a ?_ | refine ldS_a ?_ | refine ldNS_a ?_ | refine rdA_s ?_ | refine rd1_s ?_ | refine drew_a fun w1 H1 => ?_ | refine st_a fun w1 H1 => ?_ | refine stA_a fun w1 H1 => ?_ | refine lenT_a ?_ | refine lenO_a ?_ | refine ixT_a ?_ | refine ixO_a ?_ | fail)
        exact hk2 (t + 1 - (i + 1)) _ _ _ _ _ _ _ (by omega) ⟨rfl, rfl, rfl, rfl, by assumption, .inl ⟨i + 1, rfl, rfl, by omega, rfl⟩⟩
    · have fin : ∀ {w}, Hp w0 w (cs1 ++ (⟨b, 32, [sb, se]⟩ :: L)) → F48_j4 (fun x w' => ∃ s cs, x = .returned s ∧ Hp w0 w' (cs ++ L) ∧ TS cU 3 s (chainP E base.length (fun v => gt d v - 1) k0 from_) cs) k sd (ptr b 0) s (I t) w := by
        intro w H
        unfold F48_j4
        refine app1_t (x := t) elU H hs spl rfl (by decide) (by omega) (by omega) fun w s2 cs2 H hs2 => ?_
        refine hk m _ _ _ _ _ (by omega) ⟨_, cs2, _, t, rfl, rfl, rfl, rfl, ht1, by omega, by simp; omega, ?_, hs2, H⟩
        rw [← hc, chainP, List.tail_cons, ht5, List.append_assoc, List.singleton_append, ← chain_ne]
      repeat (first | simp only [cI_enc, cE_enc, cN_enc, W0] | refine lss_a ?_ | refine lss_b ?_ | refine gtr_a ?_ | refine gtr_b ?_ | refine geq_a ?_ | refine geq_b ?_ | refine leq_a ?_ | refine leq_b ?_ | refine eql_a ?_ | refine eql_b ?_ | refine neq_a ?_ | refine neq_b ?_ | refine add_a ?_ | refine sub_a ?_ | refine ld_a ?_ | refine ldA_a ?_ | refine ldS_a ?_ | refine ldNS_a ?_ | refine rdA_s ?_ | refine rd1_s ?_ | refine drew_a fun w1 H1 => ?_ | refine st_a fun w1 H1 => ?_ | refine stA_a fun w1 H1 => ?_ | refine lenT_a ?_ | refine lenO_a ?_ | refine ixT_a ?_ | refine ixO_a ?_ | fail)
      refine lss_k (fun hg => ?_) (fun hg => ?_)
      · repeat (first | simp only [cI_enc, cE_enc, cN_enc, W0] | refine lss_a ?_ | refine lss_b ?_ | refine gtr_a ?_ | refine gtr_b ?_ | refine geq_a ?_ | refine geq_b ?_ | refine leq_a ?_ | refine leq_b ?_ | refine eql_a ?_ | refine eql_b ?_ | refine neq_a ?_ | refine neq_b ?_ | refine add_a ?_ | refine sub_a ?_ | refine ld_a ?_ | refine ldA_a ?_ | refine ldS_a ?_ | refine ldNS_a ?_ | refine rdA_s ?_ | refine rd1_s ?_ | refine drew_a fun w1 H1 => ?_ | refine st_a fun w1 H1 => ?_ | refine stA_a fun w1 H1 => ?_ | refine lenT_a ?_ | refine lenO_a ?_ | refine ixT_a ?_ | refine ixO_a ?_ | fail)
        exact fin (by assumption)
      · repeat (first | simp only [cI_enc, cE_enc, cN_enc, W0] | refine lss_a ?_ | refine lss_b ?_ | refine gtr_a ?_ | refine gtr_b ?_ | refine geq_a ?_ | refine geq_b ?_ | refine leq_a ?_ | refine leq_b ?_ | refine eql_a ?_ | refine eql_b ?_ | refine neq_a ?_ | refine neq_b ?_ | refine add_a ?_ | refine sub_a ?_ | refine ld_a ?_ | refine ldA_a ?_ | refine ldS_a ?_ | refine ldNS_a ?_ | refine rdA_s ?_ | refine rd1_s ?_ | refine drew_a fun w1 H1 => ?_ | refine st_a fun w1 H1 => ?_ | refine stA_a fun w1 H1 => ?_ | refine lenT_a ?_ | refine lenO_a ?_ | refine ixT_a ?_ | refine ixO_a ?_ | fail)
        exact fin (by assumption)
end
end Go.Proofs.Ytagcifbfokneoaa.Den
