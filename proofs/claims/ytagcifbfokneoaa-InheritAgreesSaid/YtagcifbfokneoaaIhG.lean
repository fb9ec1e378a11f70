/- Inherit: the reference's Cycle, walked. Conditions: none. -/
import Derived.Test.YtagcifbfokneoaaIhF
set_option linter.unusedVariables false
set_option linter.unusedSimpArgs false
set_option maxRecDepth 8000
namespace Go.Proofs.Ytagcifbfokneoaa.Den
open Go Go.RowKit
/-- What Cycle returns. -/
def CycleQ (base : List Int) (es : List (Int × Int)) (w0 : World) (L : List Chunk) : ER := fun x w' =>
  (chk base es ≠ 0 ∧ x = .returned (.tuple ⟨[.slice none 0 0, I (chk base es)]⟩) ∧ Hp w0 w' L) ∨
  (chk base es = 0 ∧ (∀ u, u < base.length → ∀ h, (u, h) ∈ es.map toN → ¬ 0 ≤ dst (es.map toN) u h) ∧ x = .returned (.tuple ⟨[.slice none 0 0, I 22]⟩) ∧ Hp w0 w' L) ∨
  (chk base es = 0 ∧ ∃ s cs t l, x = .returned (.tuple ⟨[s, I 0]⟩) ∧ Hp w0 w' (cs ++ L) ∧ Cyc (es.map toN) base.length t l ∧ IsD (es.map toN) base.length t (dst (es.map toN) t) ∧
    TS cU 3 s (chainP (es.map toN) base.length (dst (es.map toN) t) l t) cs)
section
variable {w w' w0 : World} {L L' F cs cs2 cs3 : List Chunk} {s s2 sb se sd : Value} {K : VK} {R : ER} {base d : List Int} {es : List (Int × Int)} {E : List (Nat × Nat)} {n : Nat}
theorem Cyc.keep {i t l : Nat} (h : Cyc E i t l) (hn : ∀ x, (i, x) ∈ E → 0 ≤ dst E i x → (l : Int) ≤ dst E i x + 1) : Cyc E (i + 1) t l :=
  ⟨by have := h.lt; omega, h.ex, fun u hu x hx h0 => by
    by_cases e : u = i
    · subst e; have := hn x hx h0; have := h.lt; omega
    · exact h.min u (by omega) x hx h0⟩
theorem Cyc.take {i l x : Nat} (h1 : (i, x) ∈ E) (h2 : dst E i x + 1 = l) (h3 : 0 ≤ dst E i x) (hm : ∀ y, (i, y) ∈ E → 0 ≤ dst E i y → dst E i x ≤ dst E i y) (h : ∀ u, u < i → ∀ y, (u, y) ∈ E → 0 ≤ dst E u y → (l : Int) < dst E u y + 1) : Cyc E (i + 1) i l :=
  ⟨by omega, ⟨x, h1, h2, h3⟩, fun u hu y hy h0 => by
    by_cases e : u = i
    · subst e; have := hm y hy h0; omega
    · exact .inl (h u (by omega) y hy h0)⟩
theorem ts_ne {C : Cod Nat} {el : Nat} {xs : List Nat} (h : TS C el s xs cs) (hn : 0 < xs.length) : ∃ a c, s = .slice (some a) xs.length c := by
  obtain ⟨b, cap, rest, _, rfl, _⟩ := h.chunk hn
  exact ⟨_, _, rfl⟩
theorem rCycle_spec (h1 : TR cI w0 cs sb base) (h2 : TR cE w0 cs2 se es) (H : Hp w0 w L) (m1 : ∀ c ∈ cs, c ∈ L) (m2 : ∀ c ∈ cs2, c ∈ L) :
    Calls Pg 22 ⟨[.agg ⟨[sb, se]⟩]⟩ w (CycleQ base es w0 L) := by
  apply F22_calls
  unfold F22
  refine bx_m H fun w b H => ?_
  repeat (first | simp only [cI_enc, cE_enc, cN_enc, W0] | refine lss_a ?_ | refine lss_b ?_ | refine gtr_a ?_ | refine gtr_b ?_ | refine geq_a ?_ | refine geq_b ?_ | refine leq_a ?_ | refine leq_b ?_ | refine eql_a ?_ | refine eql_b ?_ | refine neq_a ?_ | refine neq_b ?_ | refine add_a ?_ | refine sub_a ?_ | refine ld_a ?_ | refine ldA_a ?_ | refine ldS_a ?_ | refine ldNS_a ?_ | refine rdA_s ?_ | refine rd1_s ?_ | refine drew_a fun w1 H1 => ?_ | refine st_a fun w1 H1 => ?_ | refine stA_a fun w1 H1 => ?_ | refine lenT_a ?_ | refine lenO_a ?_ | refine ixT_a ?_ | refine ixO_a ?_ | fail)
  refine cal_h (rCheck_spec h1 h2 H csub csub) ?_
  rintro _ w ⟨rfl, H⟩
  simp only [ret_k]
  refine neq_k (fun h => ?_) (fun h => ?_)
  · repeat (first | simp only [cI_enc, cE_enc, cN_enc, W0] | refine lss_a ?_ | refine lss_b ?_ | refine gtr_a ?_ | refine gtr_b ?_ | refine geq_a ?_ | refine geq_b ?_ | refine leq_a ?_ | refine leq_b ?_ | refine eql_a ?_ | refine eql_b ?_ | refine neq_a ?_ | refine neq_b ?_ | refine add_a ?_ | refine sub_a ?_ | refine ld_a ?_ | refine ldA_a ?_ | refine ldS_a ?_ | refine ldNS_a ?_ | refine rdA_s ?_ | refine rd1_s ?_ | refine drew_a fun w1 H1 => ?_ | refine st_a fun w1 H1 => ?_ | refine stA_a fun w1 H1 => ?_ | refine lenT_a ?_ | refine lenO_a ?_ | refine ixT_a ?_ | refine ixO_a ?_ | fail)
    exact .inl ⟨h, (by first | rfl | trivial), H.tail⟩
  repeat (first | simp only [cI_enc, cE_enc, cN_enc, W0] | refine lss_a ?_ | refine lss_b ?_ | refine gtr_a ?_ | refine gtr_b ?_ | refine geq_a ?_ | refine geq_b ?_ | refine leq_a ?_ | refine leq_b ?_ | refine eql_a ?_ | refine eql_b ?_ | refine neq_a ?_ | refine neq_b ?_ | refine add_a ?_ | refine sub_a ?_ | refine ld_a ?_ | refine ldA_a ?_ | refine ldS_a ?_ | refine ldNS_a ?_ | refine rdA_s ?_ | refine rd1_s ?_ | refine drew_a fun w1 H1 => ?_ | refine st_a fun w1 H1 => ?_ | refine stA_a fun w1 H1 => ?_ | refine lenT_a ?_ | refine lenO_a ?_ | refine ixT_a ?_ | refine ixO_a ?_ | fail)
  obtain ⟨c1, c2, c3, c4, c5, c6⟩ := chk_ok h
  have h2' := h2
  rw [c4] at h2'
  have h2' := toCN h2'
  have hel : (es.map toN).length ≤ 4000 := by simp; omega
  unfold F22_j1 F22_j3 F22_j4
  refine loop3 (F22_l2_succ _) (fun m x1 x5 x6 w => ∃ i : Nat, ∃ s cs, x1 = ptr b 0 ∧ x5 = s ∧ x6 = I i ∧ m + i = base.length ∧ Hp w0 w (cs ++ (⟨b, 32, [sb, se]⟩ :: L)) ∧
      ((s = .slice none 0 0 ∧ cs = [] ∧ ∀ u, u < i → ∀ h, (u, h) ∈ es.map toN → ¬ 0 ≤ dst (es.map toN) u h) ∨ ∃ t l, Cyc (es.map toN) i t l ∧ IsD (es.map toN) base.length t (dst (es.map toN) t) ∧ TS cU 3 s (chainP (es.map toN) base.length (dst (es.map toN) t) l t) cs)) ?_ (m := base.length)
    ⟨0, _, [], rfl, rfl, rfl, rfl, H, .inl ⟨rfl, rfl, by intro u hu; omega⟩⟩
  clear H
  rintro m k _ s _ w ⟨i, _, cs1, rfl, rfl, rfl, hm, H, hc⟩ hk
  unfold F22_b1
  repeat (first | simp only [cI_enc, cE_enc, cN_enc, W0] | refine lss_a ?_ | refine lss_b ?_ | refine gtr_a ?_ | refine gtr_b ?_ | refine geq_a ?_ | refine geq_b ?_ | refine leq_a ?_ | refine leq_b ?_ | refine eql_a ?_ | refine eql_b ?_ | refine neq_a ?_ | refine neq_b ?_ | refine add_a ?_ | refine sub_a ?_ | refine ld_a ?_ | refine ldA_a ?_ | refine ldS_a ?_ | refine ldNS_a ?_ | refine rdA_s ?_ | refine rd1_s ?_ | refine drew_a fun w1 H1 => ?_ | refine st_a fun w1 H1 => ?_ | refine stA_a fun w1 H1 => ?_ | refine lenT_a ?_ | refine lenO_a ?_ | refine ixT_a ?_ | refine ixO_a ?_ | fail)
  refine lss_k (fun hi => ?_) (fun hi => ?_)
  · have hi' : i < base.length := by omega
    repeat (first | simp only [cI_enc, cE_enc, cN_enc, W0] | refine lss_a ?_ | refine lss_b ?_ | refine gtr_a ?_ | refine gtr_b ?_ | refine geq_a ?_ | refine geq_b ?_ | refine leq_a ?_ | refine leq_b ?_ | refine eql_a ?_ | refine eql_b ?_ | refine neq_a ?_ | refine neq_b ?_ | refine add_a ?_ | refine sub_a ?_ | refine ld_a ?_ | refine ldA_a ?_ | refine ldS_a ?_ | refine ldNS_a ?_ | refine rdA_s ?_ | refine rd1_s ?_ | refine drew_a fun w1 H1 => ?_ | refine st_a fun w1 H1 => ?_ | refine stA_a fun w1 H1 => ?_ | refine lenT_a ?_ | refine lenO_a ?_ | refine ixT_a ?_ | refine ixO_a ?_ | fail)
    unfold F22_j5 F22_j7
    repeat (first | simp only [cI_enc, cE_enc, cN_enc, W0] | refine lss_a ?_ | refine lss_b ?_ | refine gtr_a ?_ | refine gtr_b ?_ | refine geq_a ?_ | refine geq_b ?_ | refine leq_a ?_ | refine leq_b ?_ | refine eql_a ?_ | refine eql_b ?_ | refine neq_a ?_ | refine neq_b ?_ | refine add_a ?_ | refine sub_a ?_ | refine ld_a ?_ | refine ldA_a ?_ | refine ldS_a ?_ | refine ldNS_a ?_ | refine rdA_s ?_ | refine rd1_s ?_ | refine drew_a fun w1 H1 => ?_ | refine st_a fun w1 H1 => ?_ | refine stA_a fun w1 H1 => ?_ | refine lenT_a ?_ | refine lenO_a ?_ | refine ixT_a ?_ | refine ixO_a ?_ | fail)
    refine cal_h (rdist_spec (to := i) h1 h2' (by assumption) csub csub c5 c1 hel hi') ?_
    rintro _ w ⟨sd, csd, d, rfl, H, hsd, hdl, hD⟩
    simp only [ret_k]
    have hE : ∀ u, u < base.length → gt d u - 1 = dst (es.map toN) i u := fun u hu => hD.eq hu
    unfold F22_j9 F22_j10
    refine loop6 (F22_l1_succ _ _) (fun m x1 x5 x6 x7 x8 x9 w => ∃ j : Nat, x1 = ptr b 0 ∧ x5 = s ∧ x6 = I i ∧ x7 = sd ∧ x9 = I j ∧ m + j = base.length ∧ Hp w0 w (csd ++ (cs1 ++ (⟨b, 32, [sb, se]⟩ :: L))) ∧
        ((x8 = I (-1) ∧ ∀ u, u < j → 0 ≤ gt d u - 1 → ¬ (i, u) ∈ es.map toN) ∨ ∃ bb : Nat, x8 = I bb ∧ Best (fun u => gt d u - 1) (fun u => (i, u) ∈ es.map toN) j bb)) ?_ (m := base.length)
      ⟨0, rfl, rfl, rfl, rfl, rfl, rfl, H, .inl ⟨rfl, by intro u hu; omega⟩⟩
    clear H
    rintro mm k2 _ s _ sd x8 _ w ⟨j, rfl, rfl, rfl, rfl, rfl, hmm, H, hb⟩ hk2
    unfold F22_b2
    repeat (first | simp only [cI_enc, cE_enc, cN_enc, W0] | refine lss_a ?_ | refine lss_b ?_ | refine gtr_a ?_ | refine gtr_b ?_ | refine geq_a ?_ | refine geq_b ?_ | refine leq_a ?_ | refine leq_b ?_ | refine eql_a ?_ | refine eql_b ?_ | refine neq_a ?_ | refine neq_b ?_ | refine add_a ?_ | refine sub_a ?_ | refine ld_a ?_ | refine ldA_a ?_ | refine ldS_a ?_ | refine ldNS_a ?_ | refine rdA_s ?_ | refine rd1_s ?_ | refine drew_a fun w1 H1 => ?_ | refine st_a fun w1 H1 => ?_ | refine stA_a fun w1 H1 => ?_ | refine lenT_a ?_ | refine lenO_a ?_ | refine ixT_a ?_ | refine ixO_a ?_ | fail)
    refine lss_k (fun hj => ?_) (fun hj => ?_)
    · have hxd : d[j]? = some (gt d j) := gt_some (by omega)
      repeat (first | simp only [cI_enc, cE_enc, cN_enc, W0] | refine lss_a ?_ | refine lss_b ?_ | refine gtr_a ?_ | refine gtr_b ?_ | refine geq_a ?_ | refine geq_b ?_ | refine leq_a ?_ | refine leq_b ?_ | refine eql_a ?_ | refine eql_b ?_ | refine neq_a ?_ | refine neq_b ?_ | refine add_a ?_ | refine sub_a ?_ | refine ld_a ?_ | refine ldA_a ?_ | refine ldS_a ?_ | refine ldNS_a ?_ | refine rdA_s ?_ | refine rd1_s ?_ | refine drew_a fun w1 H1 => ?_ | refine st_a fun w1 H1 => ?_ | refine stA_a fun w1 H1 => ?_ | refine lenT_a ?_ | refine lenO_a ?_ | refine ixT_a ?_ | refine ixO_a ?_ | fail)
      have no : ∀ {w}, Hp w0 w (csd ++ (cs1 ++ (⟨b, 32, [sb, se]⟩ :: L))) → (0 ≤ gt d j - 1 → (i, j) ∈ es.map toN → ∃ bb : Nat, x8 = I bb ∧ gt d bb ≤ gt d j) → k2 (ptr b 0) s (I i) sd x8 (I ((j : Int) + 1)) w := by
        intro w H hno
        refine hk2 (mm - 1) _ _ _ _ _ _ _ (by omega) ⟨j + 1, rfl, rfl, rfl, rfl, rfl, by omega, H, ?_⟩
        rcases hb with ⟨rfl, hb⟩ | ⟨bb, rfl, hb⟩
        · refine .inl ⟨rfl, none_keep (f := fun u => gt d u - 1) hb fun g1 g2 => ?_⟩
          obtain ⟨bb, e, _⟩ := hno g1 g2
          have e : (-1 : Int) = bb := by injection e
          omega
        · refine .inr ⟨bb, rfl, hb.keep fun g1 g2 => ?_⟩
          obtain ⟨b', e, hle⟩ := hno g1 g2
          have e : (bb : Int) = b' := by injection e
          obtain rfl : bb = b' := by omega
          show gt d bb - 1 ≤ gt d j - 1
          omega
      have yes : ∀ {w}, Hp w0 w (csd ++ (cs1 ++ (⟨b, 32, [sb, se]⟩ :: L))) → Best (fun u => gt d u - 1) (fun u => (i, u) ∈ es.map toN) (j + 1) j → k2 (ptr b 0) s (I i) sd (I j) (I ((j : Int) + 1)) w := by
        intro w H hy
        exact hk2 (mm - 1) _ _ _ _ _ _ _ (by omega) ⟨j + 1, rfl, rfl, rfl, rfl, rfl, by omega, H, .inr ⟨j, rfl, hy⟩⟩
      refine gtr_k (fun hg => ?_) (fun hg => ?_)
      · repeat (first | simp only [cI_enc, cE_enc, cN_enc, W0] | refine lss_a ?_ | refine lss_b ?_ | refine gtr_a ?_ | refine gtr_b ?_ | refine geq_a ?_ | refine geq_b ?_ | refine leq_a ?_ | refine leq_b ?_ | refine eql_a ?_ | refine eql_b ?_ | refine neq_a ?_ | refine neq_b ?_ | refine add_a ?_ | refine sub_a ?_ | refine ld_a ?_ | refine ldA_a ?_ | refine ldS_a ?_ | refine ldNS_a ?_ | refine rdA_s ?_ | refine rd1_s ?_ | refine drew_a fun w1 H1 => ?_ | refine st_a fun w1 H1 => ?_ | refine stA_a fun w1 H1 => ?_ | refine lenT_a ?_ | refine lenO_a ?_ | refine ixT_a ?_ | refine ixO_a ?_ | fail)
        refine pv_of (v := .agg ⟨[I i, I j]⟩) rfl ?_
        repeat (first | simp only [cI_enc, cE_enc, cN_enc, W0] | refine lss_a ?_ | refine lss_b ?_ | refine gtr_a ?_ | refine gtr_b ?_ | refine geq_a ?_ | refine geq_b ?_ | refine leq_a ?_ | refine leq_b ?_ | refine eql_a ?_ | refine eql_b ?_ | refine neq_a ?_ | refine neq_b ?_ | refine add_a ?_ | refine sub_a ?_ | refine ld_a ?_ | refine ldA_a ?_ | refine ldS_a ?_ | refine ldNS_a ?_ | refine rdA_s ?_ | refine rd1_s ?_ | refine drew_a fun w1 H1 => ?_ | refine st_a fun w1 H1 => ?_ | refine stA_a fun w1 H1 => ?_ | refine lenT_a ?_ | refine lenO_a ?_ | refine ixT_a ?_ | refine ixO_a ?_ | fail)
        refine cal_h (hasN_spec h2' (by assumption) csub hel) ?_
        rintro _ w ⟨rfl, H⟩
        repeat (first | simp only [cI_enc, cE_enc, cN_enc, W0] | refine lss_a ?_ | refine lss_b ?_ | refine gtr_a ?_ | refine gtr_b ?_ | refine geq_a ?_ | refine geq_b ?_ | refine leq_a ?_ | refine leq_b ?_ | refine eql_a ?_ | refine eql_b ?_ | refine neq_a ?_ | refine neq_b ?_ | refine add_a ?_ | refine sub_a ?_ | refine ld_a ?_ | refine ldA_a ?_ | refine ldS_a ?_ | refine ldNS_a ?_ | refine rdA_s ?_ | refine rd1_s ?_ | refine drew_a fun w1 H1 => ?_ | refine st_a fun w1 H1 => ?_ | refine stA_a fun w1 H1 => ?_ | refine lenT_a ?_ | refine lenO_a ?_ | refine ixT_a ?_ | refine ixO_a ?_ | fail)
        by_cases he : (i, j) ∈ es.map toN
        · rw [decide_eq_true he]
          rcases hb with ⟨rfl, hb⟩ | ⟨bb, rfl, hb⟩
          · repeat (first | simp only [cI_enc, cE_enc, cN_enc, W0] | refine lss_a ?_ | refine lss_b ?_ | refine gtr_a ?_ | refine gtr_b ?_ | refine geq_a ?_ | refine geq_b ?_ | refine leq_a ?_ | refine leq_b ?_ | refine eql_a ?_ | refine eql_b ?_ | refine neq_a ?_ | refine neq_b ?_ | refine add_a ?_ | refine sub_a ?_ | refine ld_a ?_ | refine ldA_a ?_ | refine ldS_a ?_ | refine ldNS_a ?_ | refine rdA_s ?_ | refine rd1_s ?_ | refine drew_a fun w1 H1 => ?_ | refine st_a fun w1 H1 => ?_ | refine stA_a fun w1 H1 => ?_ | refine lenT_a ?_ | refine lenO_a ?_ | refine ixT_a ?_ | refine ixO_a ?_ | fail)
            exact yes (by assumption) (Best.take (by show 0 ≤ gt d j - 1; omega) he fun u hu g1 g2 => absurd g2 (hb u hu g1))
          · have hxbb : d[bb]? = some (gt d bb) := gt_some (by have := hb.lt; omega)
            repeat (first | simp only [cI_enc, cE_enc, cN_enc, W0] | refine lss_a ?_ | refine lss_b ?_ | refine gtr_a ?_ | refine gtr_b ?_ | refine geq_a ?_ | refine geq_b ?_ | refine leq_a ?_ | refine leq_b ?_ | refine eql_a ?_ | refine eql_b ?_ | refine neq_a ?_ | refine neq_b ?_ | refine add_a ?_ | refine sub_a ?_ | refine ld_a ?_ | refine ldA_a ?_ | refine ldS_a ?_ | refine ldNS_a ?_ | refine rdA_s ?_ | refine rd1_s ?_ | refine drew_a fun w1 H1 => ?_ | refine st_a fun w1 H1 => ?_ | refine stA_a fun w1 H1 => ?_ | refine lenT_a ?_ | refine lenO_a ?_ | refine ixT_a ?_ | refine ixO_a ?_ | fail)
            refine lss_k (fun hl => ?_) (fun hl => ?_)
            · repeat (first | simp only [cI_enc, cE_enc, cN_enc, W0] | refine lss_a ?_ | refine lss_b ?_ | refine gtr_a ?_ | refine gtr_b ?_ | refine geq_a ?_ | refine geq_b ?_ | refine leq_a ?_ | refine leq_b ?_ | refine eql_a ?_ | refine eql_b ?_ | refine neq_a ?_ | refine neq_b ?_ | refine add_a ?_ | refine sub_a ?_ | refine ld_a ?_ | refine ldA_a ?_ | refine ldS_a ?_ | refine ldNS_a ?_ | refine rdA_s ?_ | refine rd1_s ?_ | refine drew_a fun w1 H1 => ?_ | refine st_a fun w1 H1 => ?_ | refine stA_a fun w1 H1 => ?_ | refine lenT_a ?_ | refine lenO_a ?_ | refine ixT_a ?_ | refine ixO_a ?_ | fail)
              exact yes (by assumption) (Best.take (by show 0 ≤ gt d j - 1; omega) he fun u hu g1 g2 => by have := hb.min u hu g1 g2; show gt d j - 1 < gt d u - 1; omega)
            · repeat (first | simp only [cI_enc, cE_enc, cN_enc, W0] | refine lss_a ?_ | refine lss_b ?_ | refine gtr_a ?_ | refine gtr_b ?_ | refine geq_a ?_ | refine geq_b ?_ | refine leq_a ?_ | refine leq_b ?_ | refine eql_a ?_ | refine eql_b ?_ | refine neq_a ?_ | refine neq_b ?_ | refine add_a ?_ | refine sub_a ?_ | refine ld_a ?_ | refine ldA_a ?_ | refine ldS_a ?_ | refine ldNS_a ?_ | refine rdA_s ?_ | refine rd1_s ?_ | refine drew_a fun w1 H1 => ?_ | refine st_a fun w1 H1 => ?_ | refine stA_a fun w1 H1 => ?_ | refine lenT_a ?_ | refine lenO_a ?_ | refine ixT_a ?_ | refine ixO_a ?_ | fail)
              exact no (by assumption) fun _ _ => ⟨bb, rfl, by omega⟩
        · rw [decide_eq_false he]
          repeat (first | simp only [cI_enc, cE_enc, cN_enc, W0] | refine lss_a ?_ | refine lss_b ?_ | refine gtr_a ?_ | refine gtr_b ?_ | refine geq_a ?_ | refine geq_b ?_ | refine leq_a ?_ | refine leq_b ?_ | refine eql_a ?_ | refine eql_b ?_ | refine neq_a ?_ | refine neq_b ?_ | refine add_a ?_ | refine sub_a ?_ | refine ld_a ?_ | refine ldA_a ?_ | refine ldS_a ?_ | refine ldNS_a ?_ | refine rdA_s ?_ | refine rd1_s ?_ | refine drew_a fun w1 H1 => ?_ | refine st_a fun w1 H1 => ?_ | refine stA_a fun w1 H1 => ?_ | refine lenT_a ?_ | refine lenO_a ?_ | refine ixT_a ?_ | refine ixO_a ?_ | fail)
          exact no (by assumption) fun _ h => absurd h he
      · repeat (first | simp only [cI_enc, cE_enc, cN_enc, W0] | refine lss_a ?_ | refine lss_b ?_ | refine gtr_a ?_ | refine gtr_b ?_ | refine geq_a ?_ | refine geq_b ?_ | refine leq_a ?_ | refine leq_b ?_ | refine eql_a ?_ | refine eql_b ?_ | refine neq_a ?_ | refine neq_b ?_ | refine add_a ?_ | refine sub_a ?_ | refine ld_a ?_ | refine ldA_a ?_ | refine ldS_a ?_ | refine ldNS_a ?_ | refine rdA_s ?_ | refine rd1_s ?_ | refine drew_a fun w1 H1 => ?_ | refine st_a fun w1 H1 => ?_ | refine stA_a fun w1 H1 => ?_ | refine lenT_a ?_ | refine lenO_a ?_ | refine ixT_a ?_ | refine ixO_a ?_ | fail)
        exact no (by assumption) fun h => by omega
    · repeat (first | simp only [cI_enc, cE_enc, cN_enc, W0] | refine lss_a ?_ | refine lss_b ?_ | refine gtr_a ?_ | refine gtr_b ?_ | refine geq_a ?_ | refine geq_b ?_ | refine leq_a ?_ | refine leq_b ?_ | refine eql_a ?_ | refine eql_b ?_ | refine neq_a ?_ | refine neq_b ?_ | refine add_a ?_ | refine sub_a ?_ | refine ld_a ?_ | refine ldA_a ?_ | refine ldS_a ?_ | refine ldNS_a ?_ | refine rdA_s ?_ | refine rd1_s ?_ | refine drew_a fun w1 H1 => ?_ | refine st_a fun w1 H1 => ?_ | refine stA_a fun w1 H1 => ?_ | refine lenT_a ?_ | refine lenO_a ?_ | refine ixT_a ?_ | refine ixO_a ?_ | fail)
      obtain rfl : j = base.length := by omega
      have keep : ∀ {w}, Hp w0 w (csd ++ (cs1 ++ (⟨b, 32, [sb, se]⟩ :: L))) → (∀ x, (i, x) ∈ es.map toN → 0 ≤ dst (es.map toN) i x → ∃ t l, Cyc (es.map toN) i t l ∧ TS cU 3 s (chainP (es.map toN) base.length (dst (es.map toN) t) l t) cs1 ∧ (l : Int) ≤ dst (es.map toN) i x + 1) → k (ptr b 0) s (I ((i : Int) + 1)) w := by
        intro w H hno
        refine hk (m - 1) _ _ _ _ (by omega) ⟨i + 1, _, cs1, rfl, rfl, rfl, by omega, H.right, ?_⟩
        rcases hc with ⟨rfl, rfl, hc⟩ | ⟨t, l, hc, hd, hts⟩
        · refine .inl ⟨rfl, rfl, fun u hu x hx h0 => ?_⟩
          by_cases e : u = i
          · subst e
            obtain ⟨t, l, _, h2, _⟩ := hno x hx h0
            obtain ⟨a, c, e⟩ := ts_ne h2 (by rw [chainP_len]; omega)
            cases e
          · exact hc u (by omega) x hx h0
        · refine .inr ⟨t, l, hc.keep fun x hx h0 => ?_, hd, hts⟩
          obtain ⟨t', l', h1', _, h2'⟩ := hno x hx h0
          obtain ⟨rfl, rfl⟩ := hc.unique h1'
          exact h2'
      rcases hb with ⟨rfl, hb⟩ | ⟨bb, rfl, hb⟩
      · unfold F22_j8
        repeat (first | simp only [cI_enc, cE_enc, cN_enc, W0] | refine lss_a ?_ | refine lss_b ?_ | refine gtr_a ?_ | refine gtr_b ?_ | refine geq_a ?_ | refine geq_b ?_ | refine leq_a ?_ | refine leq_b ?_ | refine eql_a ?_ | refine eql_b ?_ | refine neq_a ?_ | refine neq_b ?_ | refine add_a ?_ | refine sub_a ?_ | refine ld_a ?_ | refine ldA_a ?_ | refine ldS_a ?_ | refine ldNS_a ?_ | refine rdA_s ?_ | refine rd1_s ?_ | refine drew_a fun w1 H1 => ?_ | refine st_a fun w1 H1 => ?_ | refine stA_a fun w1 H1 => ?_ | refine lenT_a ?_ | refine lenO_a ?_ | refine ixT_a ?_ | refine ixO_a ?_ | fail)
        exact keep (by assumption) fun x hx h0 => absurd hx (hb x (c5 _ hx).2 (by rw [hE x (c5 _ hx).2]; exact h0))
      · have hbl := hb.lt
        have hle : gt d bb - 1 ≤ base.length := hD.val_le c5 hbl
        have hnn : 0 ≤ gt d bb - 1 := hb.nn
        have hmin : ∀ y, (i, y) ∈ es.map toN → 0 ≤ dst (es.map toN) i y → dst (es.map toN) i bb ≤ dst (es.map toN) i y := by
          intro y hy h0
          have hyl := (c5 _ hy).2
          rw [← hE y hyl] at h0 ⊢
          rw [← hE bb hbl]
          have := hb.min y hyl h0 hy
          omega
        have upd : ∀ {w}, Hp w0 w (csd ++ (cs1 ++ (⟨b, 32, [sb, se]⟩ :: L))) → (∀ u, u < i → ∀ y, (u, y) ∈ es.map toN → 0 ≤ dst (es.map toN) u y → gt d bb < dst (es.map toN) u y + 1) →
            valV Pg (CycleQ base es w0 L) (Instr.buildSlice 22 1 ⟨[(0, I i)]⟩) (fun v17 => ldN 2 (ptr b 0) fun v18 => cal Pg (CycleQ base es w0 L) 48 ⟨[v18, I bb, sd]⟩ fun v19 => blt Pg (CycleQ base es w0 L) .append ⟨[22,22]⟩ 22 ⟨[false, false]⟩ ⟨[v17, v19]⟩ fun v20 => F22_j6 (CycleQ base es w0 L) k (ptr b 0) v20 (I i)) w := by
          intro w H hlt
          refine lit1_t (C := cU) (x := i) elU H rfl (by decide) fun w s0 cs0 H hs0 => ?_
          repeat (first | simp only [cI_enc, cE_enc, cN_enc, W0] | refine lss_a ?_ | refine lss_b ?_ | refine gtr_a ?_ | refine gtr_b ?_ | refine geq_a ?_ | refine geq_b ?_ | refine leq_a ?_ | refine leq_b ?_ | refine eql_a ?_ | refine eql_b ?_ | refine neq_a ?_ | refine neq_b ?_ | refine add_a ?_ | refine sub_a ?_ | refine ld_a ?_ | refine ldA_a ?_ | refine ldS_a ?_ | refine ldNS_a ?_ | refine rdA_s ?_ | refine rd1_s ?_ | refine drew_a fun w1 H1 => ?_ | refine st_a fun w1 H1 => ?_ | refine stA_a fun w1 H1 => ?_ | refine lenT_a ?_ | refine lenO_a ?_ | refine ixT_a ?_ | refine ixO_a ?_ | fail)
          refine cal_h (chain_spec (from_ := bb) (to := i) (k0 := (gt d bb - 1).toNat) h1 h2' (TS.tr hsd) H csub csub csub c5 c1 hel hbl hdl hD (by omega) (by omega)) ?_
          rintro _ w ⟨s, cs2, rfl, H, hs⟩
          simp only [ret_k]
          refine append_t elU H hs0 spl hs.tr csub (by rw [chainP_len]; simp; omega) (by rw [chainP_len]; simp; omega) fun w s5 cs5 H hs5 => ?_
          unfold F22_j6
          refine add_k (by omega) (by omega) rfl ?_
          have hg : ((gt d bb).toNat : Int) = gt d bb := by omega
          refine hk (m - 1) _ _ _ _ (by omega) ⟨i + 1, _, cs5, rfl, rfl, rfl, by omega, H.re, .inr ⟨i, (gt d bb).toNat, ?_, hD.dst, ?_⟩⟩
          · exact Cyc.take hb.ok (by rw [← hE bb hbl]; omega) (by rw [← hE bb hbl]; omega) hmin fun u hu y hy h0 => by rw [hg]; exact hlt u hu y hy h0
          · obtain ⟨kk, ek⟩ : ∃ kk : Nat, (gt d bb).toNat = kk + 1 := ⟨(gt d bb).toNat - 1, by omega⟩
            have e1 : (gt d bb - 1).toNat = kk := by omega
            rw [ek, chainP, ← chainP_congr hE, ← nxt_congr hE]
            have e2 : nxt (es.map toN) base.length (fun u => gt d u - 1) kk i = bb := by
              refine nxt_eq hbl (by omega) hb.ok fun u hu hh => ?_
              have := hb.min u (by omega) (by rw [hh.1]; omega) hh.2
              omega
            rw [e2]
            rw [e1] at hs5
            exact hs5
        have hxbb : d[bb]? = some (gt d bb) := gt_some (by omega)
        unfold F22_j8
        rcases hc with ⟨rfl, rfl, hc⟩ | ⟨t, l, hc, hd, hts⟩
        · repeat (first | simp only [cI_enc, cE_enc, cN_enc, W0] | refine lss_a ?_ | refine lss_b ?_ | refine gtr_a ?_ | refine gtr_b ?_ | refine geq_a ?_ | refine geq_b ?_ | refine leq_a ?_ | refine leq_b ?_ | refine eql_a ?_ | refine eql_b ?_ | refine neq_a ?_ | refine neq_b ?_ | refine add_a ?_ | refine sub_a ?_ | refine ld_a ?_ | refine ldA_a ?_ | refine ldS_a ?_ | refine ldNS_a ?_ | refine rdA_s ?_ | refine rd1_s ?_ | refine drew_a fun w1 H1 => ?_ | refine st_a fun w1 H1 => ?_ | refine stA_a fun w1 H1 => ?_ | refine lenT_a ?_ | refine lenO_a ?_ | refine ixT_a ?_ | refine ixO_a ?_ | fail)
          exact upd (by assumption) fun u hu y hy h0 => absurd h0 (hc u hu y hy)
        · obtain ⟨a, c, e⟩ := ts_ne hts (by rw [chainP_len]; omega)
          subst e
          repeat (first | simp only [cI_enc, cE_enc, cN_enc, W0] | refine lss_a ?_ | refine lss_b ?_ | refine gtr_a ?_ | refine gtr_b ?_ | refine geq_a ?_ | refine geq_b ?_ | refine leq_a ?_ | refine leq_b ?_ | refine eql_a ?_ | refine eql_b ?_ | refine neq_a ?_ | refine neq_b ?_ | refine add_a ?_ | refine sub_a ?_ | refine ld_a ?_ | refine ldA_a ?_ | refine ldS_a ?_ | refine ldNS_a ?_ | refine rdA_s ?_ | refine rd1_s ?_ | refine drew_a fun w1 H1 => ?_ | refine st_a fun w1 H1 => ?_ | refine stA_a fun w1 H1 => ?_ | refine lenT_a ?_ | refine lenO_a ?_ | refine ixT_a ?_ | refine ixO_a ?_ | fail)
          rw [chainP_len]
          refine lss_k (fun hl => ?_) (fun hl => ?_)
          · repeat (first | simp only [cI_enc, cE_enc, cN_enc, W0] | refine lss_a ?_ | refine lss_b ?_ | refine gtr_a ?_ | refine gtr_b ?_ | refine geq_a ?_ | refine geq_b ?_ | refine leq_a ?_ | refine leq_b ?_ | refine eql_a ?_ | refine eql_b ?_ | refine neq_a ?_ | refine neq_b ?_ | refine add_a ?_ | refine sub_a ?_ | refine ld_a ?_ | refine ldA_a ?_ | refine ldS_a ?_ | refine ldNS_a ?_ | refine rdA_s ?_ | refine rd1_s ?_ | refine drew_a fun w1 H1 => ?_ | refine st_a fun w1 H1 => ?_ | refine stA_a fun w1 H1 => ?_ | refine lenT_a ?_ | refine lenO_a ?_ | refine ixT_a ?_ | refine ixO_a ?_ | fail)
            exact upd (by assumption) fun u hu y hy h0 => by have := hc.min u hu y hy h0; omega
          · repeat (first | simp only [cI_enc, cE_enc, cN_enc, W0] | refine lss_a ?_ | refine lss_b ?_ | refine gtr_a ?_ | refine gtr_b ?_ | refine geq_a ?_ | refine geq_b ?_ | refine leq_a ?_ | refine leq_b ?_ | refine eql_a ?_ | refine eql_b ?_ | refine neq_a ?_ | refine neq_b ?_ | refine add_a ?_ | refine sub_a ?_ | refine ld_a ?_ | refine ldA_a ?_ | refine ldS_a ?_ | refine ldNS_a ?_ | refine rdA_s ?_ | refine rd1_s ?_ | refine drew_a fun w1 H1 => ?_ | refine st_a fun w1 H1 => ?_ | refine stA_a fun w1 H1 => ?_ | refine lenT_a ?_ | refine lenO_a ?_ | refine ixT_a ?_ | refine ixO_a ?_ | fail)
            have kp := keep H fun x hx h0 => ⟨t, l, hc, hts, by
              have := hmin x hx h0
              rw [← hE bb hbl] at this
              omega⟩
            rw [chainP_len] at kp
            exact kp
  · repeat (first | simp only [cI_enc, cE_enc, cN_enc, W0] | refine lss_a ?_ | refine lss_b ?_ | refine gtr_a ?_ | refine gtr_b ?_ | refine geq_a ?_ | refine geq_b ?_ | refine leq_a ?_ | refine leq_b ?_ | refine eql_a ?_ | refine eql_b ?_ | refine neq_a ?_ | refine neq_b ?_ | refine add_a ?_ | refine sub_a ?_ | refine ld_a ?_ | refine ldA_a ?_ | refine ldS_a ?_ | refine ldNS_a ?_ | refine rdA_s ?_ | refine rd1_s ?_ | refine drew_a fun w1 H1 => ?_ | refine st_a fun w1 H1 => ?_ | refine stA_a fun w1 H1 => ?_ | refine lenT_a ?_ | refine lenO_a ?_ | refine ixT_a ?_ | refine ixO_a ?_ | fail)
    obtain rfl : i = base.length := by omega
    unfold F22_j2
    rcases hc with ⟨rfl, rfl, hc⟩ | ⟨t, l, hc, hd, hts⟩
    · repeat (first | simp only [cI_enc, cE_enc, cN_enc, W0] | refine lss_a ?_ | refine lss_b ?_ | refine gtr_a ?_ | refine gtr_b ?_ | refine geq_a ?_ | refine geq_b ?_ | refine leq_a ?_ | refine leq_b ?_ | refine eql_a ?_ | refine eql_b ?_ | refine neq_a ?_ | refine neq_b ?_ | refine add_a ?_ | refine sub_a ?_ | refine ld_a ?_ | refine ldA_a ?_ | refine ldS_a ?_ | refine ldNS_a ?_ | refine rdA_s ?_ | refine rd1_s ?_ | refine drew_a fun w1 H1 => ?_ | refine st_a fun w1 H1 => ?_ | refine stA_a fun w1 H1 => ?_ | refine lenT_a ?_ | refine lenO_a ?_ | refine ixT_a ?_ | refine ixO_a ?_ | fail)
      exact .inr (.inl ⟨h, hc, (by first | rfl | trivial), H.re⟩)
    · obtain ⟨a, c, e⟩ := ts_ne hts (by rw [chainP_len]; omega)
      subst e
      repeat (first | simp only [cI_enc, cE_enc, cN_enc, W0] | refine lss_a ?_ | refine lss_b ?_ | refine gtr_a ?_ | refine gtr_b ?_ | refine geq_a ?_ | refine geq_b ?_ | refine leq_a ?_ | refine leq_b ?_ | refine eql_a ?_ | refine eql_b ?_ | refine neq_a ?_ | refine neq_b ?_ | refine add_a ?_ | refine sub_a ?_ | refine ld_a ?_ | refine ldA_a ?_ | refine ldS_a ?_ | refine ldNS_a ?_ | refine rdA_s ?_ | refine rd1_s ?_ | refine drew_a fun w1 H1 => ?_ | refine st_a fun w1 H1 => ?_ | refine stA_a fun w1 H1 => ?_ | refine lenT_a ?_ | refine lenO_a ?_ | refine ixT_a ?_ | refine ixO_a ?_ | fail)
      exact .inr (.inr ⟨h, _, cs1, t, l, (by first | rfl | trivial), H.re, hc, hd, hts⟩)
end
end Go.Proofs.Ytagcifbfokneoaa.Den
