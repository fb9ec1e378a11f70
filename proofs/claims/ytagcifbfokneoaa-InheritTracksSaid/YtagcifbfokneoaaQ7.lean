/- Inherit: the reference's Cycle, walked. Conditions: none. -/
import Derived.Maps.RangeRun
import Derived.Test.YtagcifbfokneoaaQ6
section
set_option linter.unusedVariables false
set_option linter.unusedSimpArgs false
set_option maxRecDepth 8000
namespace Go.Proofs.Ytagcifbfokneoaa.Den
open Go Go.RowKit
/-- What Cycle returns. -/
def CycleQ (base : List Int) (es : List (Int × Int)) (w0 : World) (L : List Chunk) : ER := fun x w' =>
  (chk base es ≠ 0 ∧ x = .returned (.tuple ⟨[.slice none 0 0, I (chk base es)]⟩) ∧ Hp w0 w' L) ∨
  (chk base es = 0 ∧ (∀ u, u < base.length → ∀ h, (u, h) ∈ es.map toN → ¬ 0 ≤ dst (es.map toN) u h) ∧ x = .returned (.tuple ⟨[.slice none 0 0, I 22]⟩) ∧ Hp w0 w' L) ∨
  (chk base es = 0 ∧ ∃ s cs t l, x = .returned (.tuple ⟨[s, I 0]⟩) ∧ Hp w0 w' (cs ++ L) ∧ Cyc (es.map toN) base.length t l ∧ IsD (es.map toN) base.length t (dst (es.map toN) t) ∧
    TS cU 3 s (chainP (es.map toN) base.length (dst (es.map toN) t) l t) cs)
section
variable {w w' w0 : World} {L L' F cs cs2 cs3 : List Chunk} {s s2 sb se sd : Value} {K : VK} {R : ER} {base d : List Int} {es : List (Int × Int)} {E : List (Nat × Nat)} {n : Nat}
theorem Cyc.keep {i t l : Nat} (h : Cyc E i t l) (hn : ∀ x, (i, x) ∈ E → 0 ≤ dst E i x → (l : Int) ≤ dst E i x + 1) : Cyc E (i + 1) t l :=
  ⟨by have := h.lt; omega, h.ex, fun u hu x hx h0 => by
    by_cases e : u = i
    · subst e; have := hn x hx h0; have := h.lt; omega
    · exact h.min u (by omega) x hx h0⟩
theorem Cyc.take {i l x : Nat} (h1 : (i, x) ∈ E) (h2 : dst E i x + 1 = l) (h3 : 0 ≤ dst E i x) (hm : ∀ y, (i, y) ∈ E → 0 ≤ dst E i y → dst E i x ≤ dst E i y) (h : ∀ u, u < i → ∀ y, (u, y) ∈ E → 0 ≤ dst E u y → (l : Int) < dst E u y + 1) : Cyc E (i + 1) i l :=
  ⟨by omega, ⟨x, h1, h2, h3⟩, fun u hu y hy h0 => by
    by_cases e : u = i
    · subst e; have := hm y hy h0; omega
    · exact .inl (h u (by omega) y hy h0)⟩
theorem ts_ne {C : Cod Nat} {el : Nat} {xs : List Nat} (h : TS C el s xs cs) (hn : 0 < xs.length) : ∃ a c, s = .slice (some a) xs.length c := by
  obtain ⟨b, cap, rest, _, rfl, _⟩ := h.chunk hn
  exact ⟨_, _, rfl⟩
theorem rCycle_spec (h1 : TR cI w0 cs sb base) (h2 : TR cE w0 cs2 se es) (H : Hp w0 w L) (m1 : ∀ c ∈ cs, c ∈ L) (m2 : ∀ c ∈ cs2, c ∈ L) :
    Calls Pg 22 ⟨[.agg ⟨[sb, se]⟩]⟩ w (CycleQ base es w0 L) := by
  apply F22_calls
  unfold F22
  refine bx_m H fun w b H => ?_
  repeat (first | simp only [cI_enc, cE_enc, cN_enc, W0] | refine lss_a ?_ | refine lss_b ?_ | refine gtr_a ?_ | refine gtr_b ?_ | refine geq_a ?_ | refine geq_b ?_ | refine leq_a ?_ | refine leq_b ?_ | refine eql_a ?_ | refine eql_b ?_ | refine neq_a ?_ | refine neq_b ?_ | refine add_a ?_ | refine sub_a ?_ | refine ld_a ?_ | refine ldA_a ?_ | refine ldS_a ?_ | refine ldNS_a ?_ | refine rdA_s ?_ | refine rd1_s ?_ | refine drew_a fun w1 H1 => ?_ | refine st_a fun w1 H1 => ?_ | refine stA_a fun w1 H1 => ?_ | refine lenT_a ?_ | refine lenO_a ?_ | refine ixT_a ?_ | refine ixO_a ?_ | fail)
  refine cal_h (rCheck_spec h1 h2 H csub csub) ?_
  rintro _ w ⟨rfl, H⟩
  simp only [ret_k]
  refine neq_k (fun h => ?_) (fun h => ?_)
  · repeat (first | simp only [cI_enc, cE_enc, cN_enc, W0] | refine lss_a ?_ | refine lss_b ?_ | refine gtr_a ?_ | refine gtr_b ?_ | refine geq_a ?_ | refine geq_b ?_ | refine leq_a ?_ | refine leq_b ?_ | refine eql_a ?_ | refine eql_b ?_ | refine neq_a ?_ | refine neq_b ?_ | refine add_a ?_ | refine sub_a ?_ | refine ld_a ?_ | refine ldA_a ?_ | refine ldS_a ?_ | refine ldNS_a ?_ | refine rdA_s ?_ | refine rd1_s ?_ | refine drew_a fun w1 H1 => ?_ | refine st_a fun w1 H1 => ?_ | refine stA_a fun w1 H1 => ?_ | refine lenT_a ?_ | refine lenO_a ?_ | refine ixT_a ?_ | refine ixO_a ?_ | fail)
    exact .inl ⟨h, (by first | rfl | trivial), H.tail⟩
  repeat (first | simp only [cI_enc, cE_enc, cN_enc, W0] | refine lss_a ?_ | refine lss_b ?_ | refine gtr_a ?_ | refine gtr_b ?_ | refine geq_a ?_ | refine geq_b ?_ | refine leq_a ?_ | refine leq_b ?_ | refine eql_a ?_ | refine eql_b ?_ | refine neq_a ?_ | refine neq_b ?_ | refine add_a ?_ | refine sub_a ?_ | refine ld_a ?_ | refine ldA_a ?_ | refine ldS_a ?_ | refine ldNS_a ?_ | refine rdA_s ?_ | refine rd1_s ?_ | refine drew_a fun w1 H1 => ?_ | refine st_a fun w1 H1 => ?_ | refine stA_a fun w1 H1 => ?_ | refine lenT_a ?_ | refine lenO_a ?_ | refine ixT_a ?_ | refine ixO_a ?_ | fail)
  obtain ⟨c1, c2, c3, c4, c5, c6⟩ := chk_ok h
  have h2' := h2
  rw [c4] at h2'
  have h2' := toCN h2'
  have hel : (es.map toN).length ≤ 4000 := by simp; omega
  unfold F22_j1 F22_j3 F22_j4
  refine loop3 (F22_l2_succ _) (fun m x1 x5 x6 w => ∃ i : Nat, ∃ s cs, x1 = ptr b 0 ∧ x5 = s ∧ x6 = I i ∧ m + i = base.length ∧ Hp w0 w (cs ++ (⟨b, 32, [sb, se]⟩ :: L)) ∧
      ((s = .slice none 0 0 ∧ cs = [] ∧ ∀ u, u < i → ∀ h, (u, h) ∈ es.map toN → ¬ 0 ≤ dst (es.map toN) u h) ∨ ∃ t l, Cyc (es.map toN) i t l ∧ IsD (es.map toN) base.length t (dst (es.map toN) t) ∧ TS cU 3 s (chainP (es.map toN) base.length (dst (es.map toN) t) l t) cs)) ?_ (m := base.length)
    ⟨0, _, [], rfl, rfl, rfl, rfl, H, .inl ⟨rfl, rfl, by intro u hu; omega⟩⟩
  clear H
  rintro m k _ s _ w ⟨i, _, cs1, rfl, rfl, rfl, hm, H, hc⟩ hk
  unfold F22_b1
  repeat (first | simp only [cI_enc, cE_enc, cN_enc, W0] | refine lss_a ?_ | refine lss_b ?_ | refine gtr_a ?_ | refine gtr_b ?_ | refine geq_a ?_ | refine geq_b ?_ | refine leq_a ?_ | refine leq_b ?_ | refine eql_a ?_ | refine eql_b ?_ | refine neq_a ?_ | refine neq_b ?_ | refine add_a ?_ | refine sub_a ?_ | refine ld_a ?_ | refine ldA_a ?_ | refine ldS_a ?_ | refine ldNS_a ?_ | refine rdA_s ?_ | refine rd1_s ?_ | refine drew_a fun w1 H1 => ?_ | refine st_a fun w1 H1 => ?_ | refine stA_a fun w1 H1 => ?_ | refine lenT_a ?_ | refine lenO_a ?_ | refine ixT_a ?_ | refine ixO_a ?_ | fail)
  refine lss_k (fun hi => ?_) (fun hi => ?_)
  · have hi' : i < base.length := by omega
    repeat (first | simp only [cI_enc, cE_enc, cN_enc, W0] | refine lss_a ?_ | refine lss_b ?_ | refine gtr_a ?_ | refine gtr_b ?_ | refine geq_a ?_ | refine geq_b ?_ | refine leq_a ?_ | refine leq_b ?_ | refine eql_a ?_ | refine eql_b ?_ | refine neq_a ?_ | refine neq_b ?_ | refine add_a ?_ | refine sub_a ?_ | refine ld_a ?_ | refine ldA_a ?_ | refine ldS_a ?_ | refine ldNS_a ?_ | refine rdA_s ?_ | refine rd1_s ?_ | refine drew_a fun w1 H1 => ?_ | refine st_a fun w1 H1 => ?_ | refine stA_a fun w1 H1 => ?_ | refine lenT_a ?_ | refine lenO_a ?_ | refine ixT_a ?_ | refine ixO_a ?_ | fail)
    unfold F22_j5 F22_j7
    repeat (first | simp only [cI_enc, cE_enc, cN_enc, W0] | refine lss_a ?_ | refine lss_b ?_ | refine gtr_a ?_ | refine gtr_b ?_ | refine geq_a ?_ | refine geq_b ?_ | refine leq_a ?_ | refine leq_b ?_ | refine eql_a ?_ | refine eql_b ?_ | refine neq_a ?_ | refine neq_b ?_ | refine add_a ?_ | refine sub_a ?_ | refine ld_a ?_ | refine ldA_a ?_ | refine ldS_a ?_ | refine ldNS_a ?_ | refine rdA_s ?_ | refine rd1_s ?_ | refine drew_a fun w1 H1 => ?_ | refine st_a fun w1 H1 => ?_ | refine stA_a fun w1 H1 => ?_ | refine lenT_a ?_ | refine lenO_a ?_ | refine ixT_a ?_ | refine ixO_a ?_ | fail)
    refine cal_h (rdist_spec (to := i) h1 h2' (by assumption) csub csub c5 c1 hel hi') ?_
    rintro _ w ⟨sd, csd, d, rfl, H, hsd, hdl, hD⟩
    simp only [ret_k]
    have hE : ∀ u, u < base.length → gt d u - 1 = dst (es.map toN) i u := fun u hu => hD.eq hu
    unfold F22_j9 F22_j10
    refine loop6 (F22_l1_succ _ _) (fun m x1 x5 x6 x7 x8 x9 w => ∃ j : Nat, x1 = ptr b 0 ∧ x5 = s ∧ x6 = I i ∧ x7 = sd ∧ x9 = I j ∧ m + j = base.length ∧ Hp w0 w (csd ++ (cs1 ++ (⟨b, 32, [sb, se]⟩ :: L))) ∧
        ((x8 = I (-1) ∧ ∀ u, u < j → 0 ≤ gt d u - 1 → ¬ (i, u) ∈ es.map toN) ∨ ∃ bb : Nat, x8 = I bb ∧ Best (fun u => gt d u - 1) (fun u => (i, u) ∈ es.map toN) j bb)) ?_ (m := base.length)
      ⟨0, rfl, rfl, rfl, rfl, rfl, rfl, H, .inl ⟨rfl, by intro u hu; omega⟩⟩
    clear H
    rintro mm k2 _ s _ sd x8 _ w ⟨j, rfl, rfl, rfl, rfl, rfl, hmm, H, hb⟩ hk2
    unfold F22_b2
    repeat (first | simp only [cI_enc, cE_enc, cN_enc, W0] | refine lss_a ?_ | refine lss_b ?_ | refine gtr_a ?_ | refine gtr_b ?_ | refine geq_a ?_ | refine geq_b ?_ | refine leq_a ?_ | refine leq_b ?_ | refine eql_a ?_ | refine eql_b ?_ | refine neq_a ?_ | refine neq_b ?_ | refine add_a ?_ | refine sub_a ?_ | refine ld_a ?_ | refine ldA_a ?_ | refine ldS_a ?_ | refine ldNS_a ?_ | refine rdA_s ?_ | refine rd1_s ?_ | refine drew_a fun w1 H1 => ?_ | refine st_a fun w1 H1 => ?_ | refine stA_a fun w1 H1 => ?_ | refine lenT_a ?_ | refine lenO_a ?_ | refine ixT_a ?_ | refine ixO_a ?_ | fail)
    refine lss_k (fun hj => ?_) (fun hj => ?_)
    · have hxd : d[j]? = some (gt d j) := gt_some (by omega)
      repeat (first | simp only [cI_enc, cE_enc, cN_enc, W0] | refine lss_a ?_ | refine lss_b ?_ | refine gtr_a ?_ | refine gtr_b ?_ | refine geq_a ?_ | refine geq_b ?_ | refine leq_a ?_ | refine leq_b ?_ | refine eql_a ?_ | refine eql_b ?_ | refine neq_a ?_ | refine neq_b ?_ | refine add_a ?_ | refine sub_a ?_ | refine ld_a ?_ | refine ldA_a ?_ | refine ldS_a ?_ | refine ldNS_a ?_ | refine rdA_s ?_ | refine rd1_s ?_ | refine drew_a fun w1 H1 => ?_ | refine st_a fun w1 H1 => ?_ | refine stA_a fun w1 H1 => ?_ | refine lenT_a ?_ | refine lenO_a ?_ | refine ixT_a ?_ | refine ixO_a ?_ | fail)
      have no : ∀ {w}, Hp w0 w (csd ++ (cs1 ++ (⟨b, 32, [sb, se]⟩ :: L))) → (0 ≤ gt d j - 1 → (i, j) ∈ es.map toN → ∃ bb : Nat, x8 = I bb ∧ gt d bb ≤ gt d j) → k2 (ptr b 0) s (I i) sd x8 (I ((j : Int) + 1)) w := by
        intro w H hno
        refine hk2 (mm - 1) _ _ _ _ _ _ _ (by omega) ⟨j + 1, rfl, rfl, rfl, rfl, rfl, by omega, H, ?_⟩
        rcases hb with ⟨rfl, hb⟩ | ⟨bb, rfl, hb⟩
        · refine .inl ⟨rfl, none_keep (f := fun u => gt d u - 1) hb fun g1 g2 => ?_⟩
          obtain ⟨bb, e, _⟩ := hno g1 g2
          have e : (-1 : Int) = bb := by injection e
          omega
        · refine .inr ⟨bb, rfl, hb.keep fun g1 g2 => ?_⟩
          obtain ⟨b', e, hle⟩ := hno g1 g2
          have e : (bb : Int) = b' := by injection e
          obtain rfl : bb = b' := by omega
          show gt d bb - 1 ≤ gt d j - 1
          omega
      have yes : ∀ {w}, Hp w0 w (csd ++ (cs1 ++ (⟨b, 32, [sb, se]⟩ :: L))) → Best (fun u => gt d u - 1) (fun u => (i, u) ∈ es.map toN) (j + 1) j → k2 (ptr b 0) s (I i) sd (I j) (I ((j : Int) + 1)) w := by
        intro w H hy
        exact hk2 (mm - 1) _ _ _ _ _ _ _ (by omega) ⟨j + 1, rfl, rfl, rfl, rfl, rfl, by omega, H, .inr ⟨j, rfl, hy⟩⟩
      refine gtr_k (fun hg => ?_) (fun hg => ?_)
      · repeat (first | simp only [cI_enc, cE_enc, cN_enc, W0] | refine lss_a ?_ | refine lss_b ?_ | refine gtr_a ?_ | refine gtr_b ?_ | refine geq_a ?_ | refine geq_b ?_ | refine leq_a ?_ | refine leq_b ?_ | refine eql_a ?_ | refine eql_b ?_ | refine neq_a ?_ | refine neq_b ?_ | refine add_a ?_ | refine sub_a ?_ | refine ld_a ?_ | refine ldA_a ?_ | refine ldS_a ?_ | refine ldNS_a ?_ | refine rdA_s ?_ | refine rd1_s ?_ | refine drew_a fun w1 H1 => ?_ | refine st_a fun w1 H1 => ?_ | refine stA_a fun w1 H1 => ?_ | refine lenT_a ?_ | refine lenO_a ?_ | refine ixT_a ?_ | refine ixO_a ?_ | fail)
        refine pv_of (v := .agg ⟨[I i, I j]⟩) rfl ?_
        repeat (first | simp only [cI_enc, cE_enc, cN_enc, W0] | refine lss_a ?_ | refine lss_b ?_ | refine gtr_a ?_ | refine gtr_b ?_ | refine geq_a ?_ | refine geq_b ?_ | refine leq_a ?_ | refine leq_b ?_ | refine eql_a ?_ | refine eql_b ?_ | refine neq_a ?_ | refine neq_b ?_ | refine add_a ?_ | refine sub_a ?_ | refine ld_a ?_ | refine ldA_a ?_ | refine ldS_a ?_ | refine ldNS_a ?_ | refine rdA_s ?_ | refine rd1_s ?_ | refine drew_a fun w1 H1 => ?_ | refine st_a fun w1 H1 => ?_ | refine stA_a fun w1 H1 => ?_ | refine lenT_a ?_ | refine lenO_a ?_ | refine ixT_a ?_ | refine ixO_a ?_ | fail)
        refine cal_h (hasN_spec h2' (by assumption) csub hel) ?_
        rintro _ w ⟨rfl, H⟩
        repeat (first | simp only [cI_enc, cE_enc, cN_enc, W0] | refine lss_a ?_ | refine lss_b ?_ | refine gtr_a ?_ | refine gtr_b ?_ | refine geq_a ?_ | refine geq_b ?_ | refine leq_a ?_ | refine leq_b ?_ | refine eql_a ?_ | refine eql_b ?_ | refine neq_a ?_ | refine neq_b ?_ | refine add_a ?_ | refine sub_a ?_ | refine ld_a ?_ | refine ldA_a ?_ | refine ldS_a ?_ | refine ldNS_a ?_ | refine rdA_s ?_ | refine rd1_s ?_ | refine drew_a fun w1 H1 => ?_ | refine st_a fun w1 H1 => ?_ | refine stA_a fun w1 H1 => ?_ | refine lenT_a ?_ | refine lenO_a ?_ | refine ixT_a ?_ | refine ixO_a ?_ | fail)
        by_cases he : (i, j) ∈ es.map toN
        · rw [decide_eq_true he]
          rcases hb with ⟨rfl, hb⟩ | ⟨bb, rfl, hb⟩
          · repeat (first | simp only [cI_enc, cE_enc, cN_enc, W0] | refine lss_a ?_ | refine lss_b ?_ | refine gtr_a ?_ | refine gtr_b ?_ | refine geq_a ?_ | refine geq_b ?_ | refine leq_a ?_ | refine leq_b ?_ | refine eql_a ?_ | refine eql_b ?_ | refine neq_a ?_ | refine neq_b ?_ | refine add_a ?_ | refine sub_a ?_ | refine ld_a ?_ | refine ldA_a ?_ | refine ldS_a ?_ | refine ldNS_a ?_ | refine rdA_s ?_ | refine rd1_s ?_ | refine drew_a fun w1 H1 => ?_ | refine st_a fun w1 H1 => ?_ | refine stA_a fun w1 H1 => ?_ | refine lenT_a ?_ | refine lenO_a ?_ | refine ixT_a ?_ | refine ixO_a ?_ | fail)
            exact yes (by assumption) (Best.take (by show 0 ≤ gt d j - 1; omega) he fun u hu g1 g2 => absurd g2 (hb u hu g1))
          · have hxbb : d[bb]? = some (gt d bb) := gt_some (by have := hb.lt; omega)
            repeat (first | simp only [cI_enc, cE_enc, cN_enc, W0] | refine lss_a ?_ | refine lss_b ?_ | refine gtr_a ?_ | refine gtr_b ?_ | refine geq_a ?_ | refine geq_b ?_ | refine leq_a ?_ | refine leq_b ?_ | refine eql_a ?_ | refine eql_b ?_ | refine neq_a ?_ | refine neq_b ?_ | refine add_a ?_ | refine sub_a ?_ | refine ld_a ?_ | refine ldA_a ?_ | refine ldS_a ?_ | refine ldNS_a ?_ | refine rdA_s ?_ | refine rd1_s ?_ | refine drew_a fun w1 H1 => ?_ | refine st_a fun w1 H1 => ?_ | refine stA_a fun w1 H1 => ?_ | refine lenT_a ?_ | refine lenO_a ?_ | refine ixT_a ?_ | refine ixO_a ?_ | fail)
            refine lss_k (fun hl => ?_) (fun hl => ?_)
            · repeat (first | simp only [cI_enc, cE_enc, cN_enc, W0] | refine lss_a ?_ | refine lss_b ?_ | refine gtr_a ?_ | refine gtr_b ?_ | refine geq_a ?_ | refine geq_b ?_ | refine leq_a ?_ | refine leq_b ?_ | refine eql_a ?_ | refine eql_b ?_ | refine neq_a ?_ | refine neq_b ?_ | refine add_a ?_ | refine sub_a ?_ | refine ld_a ?_ | refine ldA_a ?_ | refine ldS_a ?_ | refine ldNS_a ?_ | refine rdA_s ?_ | refine rd1_s ?_ | refine drew_a fun w1 H1 => ?_ | refine st_a fun w1 H1 => ?_ | refine stA_a fun w1 H1 => ?_ | refine lenT_a ?_ | refine lenO_a ?_ | refine ixT_a ?_ | refine ixO_a ?_ | fail)
              exact yes (by assumption) (Best.take (by show 0 ≤ gt d j - 1; omega) he fun u hu g1 g2 => by have := hb.min u hu g1 g2; show gt d j - 1 < gt d u - 1; omega)
            · repeat (first | simp only [cI_enc, cE_enc, cN_enc, W0] | refine lss_a ?_ | refine lss_b ?_ | refine gtr_a ?_ | refine gtr_b ?_ | refine geq_a ?_ | refine geq_b ?_ | refine leq_a ?_ | refine leq_b ?_ | refine eql_a ?_ | refine eql_b ?_ | refine neq_a ?_ | refine neq_b ?_ | refine add_a ?_ | refine sub_a ?_ | refine ld_a ?_ | refine ldA_a ?_ | refine ldS_a ?_ | refine ldNS_a ?_ | refine rdA_s ?_ | refine rd1_s ?_ | refine drew_a fun w1 H1 => ?_ | refine st_a fun w1 H1 => ?_ | refine stA_a fun w1 H1 => ?_ | refine lenT_a ?_ | refine lenO_a ?_ | refine ixT_a ?_ | refine ixO_a ?_ | fail)
              exact no (by assumption) fun _ _ => ⟨bb, rfl, by omega⟩
        · rw [decide_eq_false he]
          repeat (first | simp only [cI_enc, cE_enc, cN_enc, W0] | refine lss_a ?_ | refine lss_b ?_ | refine gtr_a ?_ | refine gtr_b ?_ | refine geq_a ?_ | refine geq_b ?_ | refine leq_a ?_ | refine leq_b ?_ | refine eql_a ?_ | refine eql_b ?_ | refine neq_a ?_ | refine neq_b ?_ | refine add_a ?_ | refine sub_a ?_ | refine ld_a ?_ | refine ldA_a ?_ | refine ldS_a ?_ | refine ldNS_a ?_ | refine rdA_s ?_ | refine rd1_s ?_ | refine drew_a fun w1 H1 => ?_ | refine st_a fun w1 H1 => ?_ | refine stA_a fun w1 H1 => ?_ | refine lenT_a ?_ | refine lenO_a ?_ | refine ixT_a ?_ | refine ixO_a ?_ | fail)
          exact no (by assumption) fun _ h => absurd h he
      · repeat (first | simp only [cI_enc, cE_enc, cN_enc, W0] | refine lss_a ?_ | refine lss_b ?_ | refine gtr_a ?_ | refine gtr_b ?_ | refine geq_a ?_ | refine geq_b ?_ | refine leq_a ?_ | refine leq_b ?_ | refine eql_a ?_ | refine eql_b ?_ | refine neq_a ?_ | refine neq_b ?_ | refine add_a ?_ | refine sub_a ?_ | refine ld_a ?_ | refine ldA_a ?_ | refine ldS_a ?_ | refine ldNS_a ?_ | refine rdA_s ?_ | refine rd1_s ?_ | refine drew_a fun w1 H1 => ?_ | refine st_a fun w1 H1 => ?_ | refine stA_a fun w1 H1 => ?_ | refine lenT_a ?_ | refine lenO_a ?_ | refine ixT_a ?_ | refine ixO_a ?_ | fail)
        exact no (by assumption) fun h => by omega
    · repeat (first | simp only [cI_enc, cE_enc, cN_enc, W0] | refine lss_a ?_ | refine lss_b ?_ | refine gtr_a ?_ | refine gtr_b ?_ | refine geq_a ?_ | refine geq_b ?_ | refine leq_a ?_ | refine leq_b ?_ | refine eql_a ?_ | refine eql_b ?_ | refine neq_a ?_ | refine neq_b ?_ | refine add_a ?_ | refine sub_a ?_ | refine ld_a ?_ | refine ldA_a ?_ | refine ldS_a ?_ | refine ldNS_a ?_ | refine rdA_s ?_ | refine rd1_s ?_ | refine drew_a fun w1 H1 => ?_ | refine st_a fun w1 H1 => ?_ | refine stA_a fun w1 H1 => ?_ | refine lenT_a ?_ | refine lenO_a ?_ | refine ixT_a ?_ | refine ixO_a ?_ | fail)
      obtain rfl : j = base.length := by omega
      have keep : ∀ {w}, Hp w0 w (csd ++ (cs1 ++ (⟨b, 32, [sb, se]⟩ :: L))) → (∀ x, (i, x) ∈ es.map toN → 0 ≤ dst (es.map toN) i x → ∃ t l, Cyc (es.map toN) i t l ∧ TS cU 3 s (chainP (es.map toN) base.length (dst (es.map toN) t) l t) cs1 ∧ (l : Int) ≤ dst (es.map toN) i x + 1) → k (ptr b 0) s (I ((i : Int) + 1)) w := by
        intro w H hno
        refine hk (m - 1) _ _ _ _ (by omega) ⟨i + 1, _, cs1, rfl, rfl, rfl, by omega, H.right, ?_⟩
        rcases hc with ⟨rfl, rfl, hc⟩ | ⟨t, l, hc, hd, hts⟩
        · refine .inl ⟨rfl, rfl, fun u hu x hx h0 => ?_⟩
          by_cases e : u = i
          · subst e
            obtain ⟨t, l, _, h2, _⟩ := hno x hx h0
            obtain ⟨a, c, e⟩ := ts_ne h2 (by rw [chainP_len]; omega)
            cases e
          · exact hc u (by omega) x hx h0
        · refine .inr ⟨t, l, hc.keep fun x hx h0 => ?_, hd, hts⟩
          obtain ⟨t', l', h1', _, h2'⟩ := hno x hx h0
          obtain ⟨rfl, rfl⟩ := hc.unique h1'
          exact h2'
      rcases hb with ⟨rfl, hb⟩ | ⟨bb, rfl, hb⟩
      · unfold F22_j8
        repeat (first | simp only [cI_enc, cE_enc, cN_enc, W0] | refine lss_a ?_ | refine lss_b ?_ | refine gtr_a ?_ | refine gtr_b ?_ | refine geq_a ?_ | refine geq_b ?_ | refine leq_a ?_ | refine leq_b ?_ | refine eql_a ?_ | refine eql_b ?_ | refine neq_a ?_ | refine neq_b ?_ | refine add_a ?_ | refine sub_a ?_ | refine ld_a ?_ | refine ldA_a ?_ | refine ldS_a ?_ | refine ldNS_a ?_ | refine rdA_s ?_ | refine rd1_s ?_ | refine drew_a fun w1 H1 => ?_ | refine st_a fun w1 H1 => ?_ | refine stA_a fun w1 H1 => ?_ | refine lenT_a ?_ | refine lenO_a ?_ | refine ixT_a ?_ | refine ixO_a ?_ | fail)
        exact keep (by assumption) fun x hx h0 => absurd hx (hb x (c5 _ hx).2 (by rw [hE x (c5 _ hx).2]; exact h0))
      · have hbl := hb.lt
        have hle : gt d bb - 1 ≤ base.length := hD.val_le c5 hbl
        have hnn : 0 ≤ gt d bb - 1 := hb.nn
        have hmin : ∀ y, (i, y) ∈ es.map toN → 0 ≤ dst (es.map toN) i y → dst (es.map toN) i bb ≤ dst (es.map toN) i y := by
          intro y hy h0
          have hyl := (c5 _ hy).2
          rw [← hE y hyl] at h0 ⊢
          rw [← hE bb hbl]
          have := hb.min y hyl h0 hy
          omega
        have upd : ∀ {w}, Hp w0 w (csd ++ (cs1 ++ (⟨b, 32, [sb, se]⟩ :: L))) → (∀ u, u < i → ∀ y, (u, y) ∈ es.map toN → 0 ≤ dst (es.map toN) u y → gt d bb < dst (es.map toN) u y + 1) →
            valV Pg (CycleQ base es w0 L) (Instr.buildSlice 22 1 ⟨[(0, I i)]⟩) (fun v17 => ldN 2 (ptr b 0) fun v18 => cal Pg (CycleQ base es w0 L) 48 ⟨[v18, I bb, sd]⟩ fun v19 => blt Pg (CycleQ base es w0 L) .append ⟨[22,22]⟩ 22 ⟨[false, false]⟩ ⟨[v17, v19]⟩ fun v20 => F22_j6 (CycleQ base es w0 L) k (ptr b 0) v20 (I i)) w := by
          intro w H hlt
          refine lit1_t (C := cU) (x := i) elU H rfl (by decide) fun w s0 cs0 H hs0 => ?_
          repeat (first | simp only [cI_enc, cE_enc, cN_enc, W0] | refine lss_a ?_ | refine lss_b ?_ | refine gtr_a ?_ | refine gtr_b ?_ | refine geq_a ?_ | refine geq_b ?_ | refine leq_a ?_ | refine leq_b ?_ | refine eql_a ?_ | refine eql_b ?_ | refine neq_a ?_ | refine neq_b ?_ | refine add_a ?_ | refine sub_a ?_ | refine ld_a ?_ | refine ldA_a ?_ | refine ldS_a ?_ | refine ldNS_a ?_ | refine rdA_s ?_ | refine rd1_s ?_ | refine drew_a fun w1 H1 => ?_ | refine st_a fun w1 H1 => ?_ | refine stA_a fun w1 H1 => ?_ | refine lenT_a ?_ | refine lenO_a ?_ | refine ixT_a ?_ | refine ixO_a ?_ | fail)
          refine cal_h (chain_spec (from_ := bb) (to := i) (k0 := (gt d bb - 1).toNat) h1 h2' (TS.tr hsd) H csub csub csub c5 c1 hel hbl hdl hD (by omega) (by omega)) ?_
          rintro _ w ⟨s, cs2, rfl, H, hs⟩
          simp only [ret_k]
          refine append_t elU H hs0 spl hs.tr csub (by rw [chainP_len]; simp; omega) (by rw [chainP_len]; simp; omega) fun w s5 cs5 H hs5 => ?_
          unfold F22_j6
          refine add_k (by omega) (by omega) rfl ?_
          have hg : ((gt d bb).toNat : Int) = gt d bb := by omega
          refine hk (m - 1) _ _ _ _ (by omega) ⟨i + 1, _, cs5, rfl, rfl, rfl, by omega, H.re, .inr ⟨i, (gt d bb).toNat, ?_, hD.dst, ?_⟩⟩
          · exact Cyc.take hb.ok (by rw [← hE bb hbl]; omega) (by rw [← hE bb hbl]; omega) hmin fun u hu y hy h0 => by rw [hg]; exact hlt u hu y hy h0
          · obtain ⟨kk, ek⟩ : ∃ kk : Nat, (gt d bb).toNat = kk + 1 := ⟨(gt d bb).toNat - 1, by omega⟩
            have e1 : (gt d bb - 1).toNat = kk := by omega
            rw [ek, chainP, ← chainP_congr hE, ← nxt_congr hE]
            have e2 : nxt (es.map toN) base.length (fun u => gt d u - 1) kk i = bb := by
              refine nxt_eq hbl (by omega) hb.ok fun u hu hh => ?_
              have := hb.min u (by omega) (by rw [hh.1]; omega) hh.2
              omega
            rw [e2]
            rw [e1] at hs5
            exact hs5
        have hxbb : d[bb]? = some (gt d bb) := gt_some (by omega)
        unfold F22_j8
        rcases hc with ⟨rfl, rfl, hc⟩ | ⟨t, l, hc, hd, hts⟩
        · repeat (first | simp only [cI_enc, cE_enc, cN_enc, W0] | refine lss_a ?_ | refine lss_b ?_ | refine gtr_a ?_ | refine gtr_b ?_ | refine geq_a ?_ | refine geq_b ?_ | refine leq_a ?_ | refine leq_b ?_ | refine eql_a ?_ | refine eql_b ?_ | refine neq_a ?_ | refine neq_b ?_ | refine add_a ?_ | refine sub_a ?_ | refine ld_a ?_ | refine ldA_a ?_ | refine ldS_a ?_ | refine ldNS_a ?_ | refine rdA_s ?_ | refine rd1_s ?_ | refine drew_a fun w1 H1 => ?_ | refine st_a fun w1 H1 => ?_ | refine stA_a fun w1 H1 => ?_ | refine lenT_a ?_ | refine lenO_a ?_ | refine ixT_a ?_ | refine ixO_a ?_ | fail)
          exact upd (by assumption) fun u hu y hy h0 => absurd h0 (hc u hu y hy)
        · obtain ⟨a, c, e⟩ := ts_ne hts (by rw [chainP_len]; omega)
          subst e
          repeat (first | simp only [cI_enc, cE_enc, cN_enc, W0] | refine lss_a ?_ | refine lss_b ?_ | refine gtr_a ?_ | refine gtr_b ?_ | refine geq_a ?_ | refine geq_b ?_ | refine leq_a ?_ | refine leq_b ?_ | refine eql_a ?_ | refine eql_b ?_ | refine neq_a ?_ | refine neq_b ?_ | refine add_a ?_ | refine sub_a ?_ | refine ld_a ?_ | refine ldA_a ?_ | refine ldS_a ?_ | refine ldNS_a ?_ | refine rdA_s ?_ | refine rd1_s ?_ | refine drew_a fun w1 H1 => ?_ | refine st_a fun w1 H1 => ?_ | refine stA_a fun w1 H1 => ?_ | refine lenT_a ?_ | refine lenO_a ?_ | refine ixT_a ?_ | refine ixO_a ?_ | fail)
          rw [chainP_len]
          refine lss_k (fun hl => ?_) (fun hl => ?_)
          · repeat (first | simp only [cI_enc, cE_enc, cN_enc, W0] | refine lss_a ?_ | refine lss_b ?_ | refine gtr_a ?_ | refine gtr_b ?_ | refine geq_a ?_ | refine geq_b ?_ | refine leq_a ?_ | refine leq_b ?_ | refine eql_a ?_ | refine eql_b ?_ | refine neq_a ?_ | refine neq_b ?_ | refine add_a ?_ | refine sub_a ?_ | refine ld_a ?_ | refine ldA_a ?_ | refine ldS_a ?_ | refine ldNS_a ?_ | refine rdA_s ?_ | refine rd1_s ?_ | refine drew_a fun w1 H1 => ?_ | refine st_a fun w1 H1 => ?_ | refine stA_a fun w1 H1 => ?_ | refine lenT_a ?_ | refine lenO_a ?_ | refine ixT_a ?_ | refine ixO_a ?_ | fail)
            exact upd (by assumption) fun u hu y hy h0 => by have := hc.min u hu y hy h0; omega
          · repeat (first | simp only [cI_enc, cE_enc, cN_enc, W0] | refine lss_a ?_ | refine lss_b ?_ | refine gtr_a ?_ | refine gtr_b ?_ | refine geq_a ?_ | refine geq_b ?_ | refine leq_a ?_ | refine leq_b ?_ | refine eql_a ?_ | refine eql_b ?_ | refine neq_a ?_ | refine neq_b ?_ | refine add_a ?_ | refine sub_a ?_ | refine ld_a ?_ | refine ldA_a ?_ | refine ldS_a ?_ | refine ldNS_a ?_ | refine rdA_s ?_ | refine rd1_s ?_ | refine drew_a fun w1 H1 => ?_ | refine st_a fun w1 H1 => ?_ | refine stA_a fun w1 H1 => ?_ | refine lenT_a ?_ | refine lenO_a ?_ | refine ixT_a ?_ | refine ixO_a ?_ | fail)
            have kp := keep H fun x hx h0 => ⟨t, l, hc, hts, by
              have := hmin x hx h0
              rw [← hE bb hbl] at this
              omega⟩
            rw [chainP_len] at kp
            exact kp
  · repeat (first | simp only [cI_enc, cE_enc, cN_enc, W0] | refine lss_a ?_ | refine lss_b ?_ | refine gtr_a ?_ | refine gtr_b ?_ | refine geq_a ?_ | refine geq_b ?_ | refine leq_a ?_ | refine leq_b ?_ | refine eql_a ?_ | refine eql_b ?_ | refine neq_a ?_ | refine neq_b ?_ | refine add_a ?_ | refine sub_a ?_ | refine ld_a ?_ | refine ldA_a ?_ | refine ldS_a ?_ | refine ldNS_a ?_ | refine rdA_s ?_ | refine rd1_s ?_ | refine drew_a fun w1 H1 => ?_ | refine st_a fun w1 H1 => ?_ | refine stA_a fun w1 H1 => ?_ | refine lenT_a ?_ | refine lenO_a ?_ | refine ixT_a ?_ | refine ixO_a ?_ | fail)
    obtain rfl : i = base.length := by omega
    unfold F22_j2
    rcases hc with ⟨rfl, rfl, hc⟩ | ⟨t, l, hc, hd, hts⟩
    · repeat (first | simp only [cI_enc, cE_enc, cN_enc, W0] | refine lss_a ?_ | refine lss_b ?_ | refine gtr_a ?_ | refine gtr_b ?_ | refine geq_a ?_ | refine geq_b ?_ | refine leq_a ?_ | refine leq_b ?_ | refine eql_a ?_ | refine eql_b ?_ | refine neq_a ?_ | refine neq_b ?_ | refine add_a ?_ | refine sub_a ?_ | refine ld_a ?_ | refine ldA_a ?_ | refine ldS_a ?_ | refine ldNS_a ?_ | refine rdA_s ?_ | refine rd1_s ?_ | refine drew_a fun w1 H1 => ?_ | refine st_a fun w1 H1 => ?_ | refine stA_a fun w1 H1 => ?_ | refine lenT_a ?_ | refine lenO_a ?_ | refine ixT_a ?_ | refine ixO_a ?_ | fail)
      exact .inr (.inl ⟨h, hc, (by first | rfl | trivial), H.re⟩)
    · obtain ⟨a, c, e⟩ := ts_ne hts (by rw [chainP_len]; omega)
      subst e
      repeat (first | simp only [cI_enc, cE_enc, cN_enc, W0] | refine lss_a ?_ | refine lss_b ?_ | refine gtr_a ?_ | refine gtr_b ?_ | refine geq_a ?_ | refine geq_b ?_ | refine leq_a ?_ | refine leq_b ?_ | refine eql_a ?_ | refine eql_b ?_ | refine neq_a ?_ | refine neq_b ?_ | refine add_a ?_ | refine sub_a ?_ | refine ld_a ?_ | refine ldA_a ?_ | refine ldS_a ?_ | refine ldNS_a ?_ | refine rdA_s ?_ | refine rd1_s ?_ | refine drew_a fun w1 H1 => ?_ | refine st_a fun w1 H1 => ?_ | refine stA_a fun w1 H1 => ?_ | refine lenT_a ?_ | refine lenO_a ?_ | refine ixT_a ?_ | refine ixO_a ?_ | fail)
      exact .inr (.inr ⟨h, _, cs1, t, l, (by first | rfl | trivial), H.re, hc, hd, hts⟩)
end
end Go.Proofs.Ytagcifbfokneoaa.Den
end

section
set_option linter.unusedVariables false
set_option linter.unusedSimpArgs false
set_option maxRecDepth 8000
namespace Go.Proofs.Ytagcifbfokneoaa.Den
open Go Go.RowKit
/-- A map type, its keys and elements as Lean data. -/
structure MapK {κ ν : Type} [DecidableEq κ] (T kt et : TypeId) (d : TypeDesc) (key : κ → Value) (val : ν → Value) (z : ν) : Prop where
  under : Pg.underlying T = some (.map kt et)
  kd : Pg.underlying kt = some d
  zero : (Pg.info? et).bind (·.zero) = some (val z)
  eq : ∀ x y w, (Op.equal kt (key x) (key y)).run Pg w = .ok (decide (x = y)) w
  chk : ∀ b x w, (Instr.checkKey b 10000 kt (key x)).run Pg w = .ok () w
  now : (∀ x y, Instr.sameNow d (key x) (key y) = some (decide (x = y))) ∨ (∀ x y, Instr.sameNow d (key x) (key y) = none)
  bits : ∀ x, Instr.sameBits 10000 (key x) (key x) = true
section
variable {κ ν : Type} [DecidableEq κ] {T kt et : TypeId} {d : TypeDesc} {key : κ → Value} {val : ν → Value} {z : ν} {w w' w0 : World} {L L' F : List Chunk} {b clock : Nat} {K : VK} {R : ER}
def men (key : κ → Value) (val : ν → Value) (e : κ × ν × Nat) : MapEntry := { key := key e.1, val := val e.2.1, born := e.2.2 }
def mobj (key : κ → Value) (val : ν → Value) (ents : List (κ × ν × Nat)) (clock : Nat) : Obj := .map ⟨ents.map (men key val)⟩ clock
def mfind (x : κ) : List (κ × ν × Nat) → Nat → Option (Nat × ν)
  | [], _ => none
  | e :: es, i => if x = e.1 then some (i, e.2.1) else mfind x es (i + 1)
/-- What is stored at a key. -/
def mget (x : κ) (ents : List (κ × ν × Nat)) : Option ν := (mfind x ents 0).map (·.2)
def mput (x : κ) (v : ν) (ents : List (κ × ν × Nat)) (clock : Nat) : List (κ × ν × Nat) := match mfind x ents 0 with
  | some (i, _) => ents.modify i fun e => (x, v, e.2.2)
  | none => ents ++ [(x, v, clock)]
def mclk (x : κ) (ents : List (κ × ν × Nat)) (clock : Nat) : Nat := match mfind x ents 0 with
  | some _ => clock
  | none => clock + 1
def mdel (x : κ) (ents : List (κ × ν × Nat)) : List (κ × ν × Nat) := match mfind x ents 0 with
  | some (i, _) => ents.eraseIdx i
  | none => ents
def putB (w : World) (r : Nat) (o : Obj) : World := { w with heap := w.heap.setIfInBounds r o }
theorem run_getO {P : Program} {r : Nat} {es : Array MapEntry} {c : Nat} (h : w.heap[r]? = some (.map es c)) : (getObj r).run P w = .ok (.map es c) w := by simp [getObj, Sem.run, h]
theorem run_setM {P : Program} {r : Nat} {es : Array MapEntry} {c : Nat} (o' : Obj) (h : w.heap[r]? = some (.map es c)) : (setObj r o').run P w = .ok () (putB w r o') := by simp [setObj, Sem.run, h, putB]
theorem Ext.putO (r : Nat) (o : Obj) : Ext [r] w (putB w r o) :=
  ⟨rfl, rfl, rfl, by simp [putB], fun k hk hn => by simp [putB]; rw [Array.getElem?_setIfInBounds_ne]; simpa using fun h => hn (by simp [h]), Nat.le_refl _⟩
theorem putO_at {r : Nat} {o : Obj} (h : r < w.heap.size) : (putB w r o).heap[r]? = some o := by simp [putB, h]
theorem mfind_none {x : κ} : ∀ {ents : List (κ × ν × Nat)} {i : Nat}, mfind x ents i = none ↔ ∀ e ∈ ents, x ≠ e.1
  | [], i => by simp [mfind]
  | e :: es, i => by
    unfold mfind; split
    · rename_i h; simp [h]
    · rename_i h; rw [mfind_none]; simp [h]
theorem mfind_some {x : κ} {v : ν} : ∀ {ents : List (κ × ν × Nat)} {i j : Nat}, mfind x ents i = some (j, v) → i ≤ j ∧ ∃ n, ents[j - i]? = some (x, v, n)
  | [], i, j, h => by simp [mfind] at h
  | e :: es, i, j, h => by
    unfold mfind at h; split at h
    · rename_i hx
      injection h with h; injection h with h1 h2
      subst h1; subst h2; subst hx
      exact ⟨Nat.le_refl _, e.2.2, by simp⟩
    · obtain ⟨h1, n, h2⟩ := mfind_some h
      refine ⟨by omega, n, ?_⟩
      rw [show j - i = j - (i + 1) + 1 from by omega, List.getElem?_cons_succ]; exact h2
theorem findAsk_run (M : MapK T kt et d key val z) (x : κ) : ∀ (ents : List (κ × ν × Nat)) (i : Nat), (Instr.findAsking kt (key x) (ents.map (men key val)) i).run Pg w = .ok ((mfind x ents i).map fun p => (p.1, val p.2)) w
  | [], i => rfl
  | e :: es, i => by
    simp only [List.map_cons, Instr.findAsking, Sem.run_bind]
    rw [show (men key val e).key = key e.1 from rfl, M.eq x e.1 w]
    simp only [Result.andThen_ok, mfind]
    by_cases h : x = e.1
    · simp [h, men]
    · simp only [h, decide_false, Bool.false_eq_true, if_false]
      exact findAsk_run M x es (i + 1)
theorem findKey_run (M : MapK T kt et d key val z) (x : κ) (ents : List (κ × ν × Nat)) : (Instr.findKey kt (key x) (ents.map (men key val))).run Pg w = .ok ((mfind x ents 0).map fun p => (p.1, val p.2)) w := by
  unfold Instr.findKey
  rw [Sem.run_bind, run_underlying' M.kd]
  simp only [Result.andThen]
  rcases M.now with h | h
  · have key' : ∀ (ents : List (κ × ν × Nat)) (i : Nat), Instr.findNow d (key x) (ents.map (men key val)) i = some ((mfind x ents i).map fun p => (p.1, val p.2)) := by
      intro ents
      induction ents with
      | nil => intro i; rfl
      | cons e es ih =>
        intro i
        simp only [List.map_cons, Instr.findNow]
        rw [show (men key val e).key = key e.1 from rfl, h x e.1]
        simp only [mfind]
        by_cases hx : x = e.1
        · simp [hx, men]
        · simp only [hx, decide_false, if_false]; exact ih _
    rw [key']; rfl
  · cases ents with
    | nil => rfl
    | cons e es =>
      simp only [List.map_cons, Instr.findNow]
      rw [show (men key val e).key = key e.1 from rfl, h x e.1]
      exact findAsk_run M x (e :: es) 0
def lkv (val : ν → Value) (z : ν) (o : Option ν) : Value := val (o.getD z)
theorem lookup_run (M : MapK T kt et d key val z) (x : κ) (ok : Bool) {ents : List (κ × ν × Nat)} (h : w.heap[b]? = some (mobj key val ents clock)) :
    (Instr.lookup T (.map (some b)) (key x) ok).run Pg w = .ok (if ok then .tuple #[lkv val z (mget x ents), .bool (mget x ents).isSome] else lkv val z (mget x ents)) w := by
  unfold Instr.lookup
  rw [Sem.run_bind, run_underlying' M.under]
  simp only [Result.andThen, Sem.run_bind, run_getO h, mobj]
  simp only [Sem.run_pure, Result.andThen, Sem.run_bind, M.chk, findKey_run M]
  unfold mget lkv
  cases mfind x ents 0 with
  | none =>
    change Sem.run Pg (zeroValue et >>= fun v => (pure (v, false) : Sem (Value × Bool)) >>= fun x => pure (if ok = true then Value.tuple #[x.1, .bool x.2] else x.1)) w = _
    rw [Sem.run_bind, run_zeroValue' M.zero]
    rfl
  | some p => rfl
theorem lookup_h (M : MapK T kt et d key val z) (x : κ) {ents : List (κ × ν × Nat)} (H : Hp w0 w L) (hm : Has L b (.o (mobj key val ents clock)) []) (k : K (lkv val z (mget x ents)) w) :
    valV Pg R (Instr.lookup T (.map (some b)) (key x) false) K w := by
  unfold valV; rw [lookup_run M x false (H.blk _ hm).2]; exact k
theorem lookup2_h (M : MapK T kt et d key val z) (x : κ) {ents : List (κ × ν × Nat)} (H : Hp w0 w L) (hm : Has L b (.o (mobj key val ents clock)) []) (k : K (.tuple ⟨[lkv val z (mget x ents), .bool (mget x ents).isSome]⟩) w) :
    valV Pg R (Instr.lookup T (.map (some b)) (key x) true) K w := by
  unfold valV; rw [lookup_run M x true (H.blk _ hm).2]; exact k
end
section
variable {κ ν : Type} {T kt et : TypeId} {d : TypeDesc} {key : κ → Value} {val : ν → Value} {z : ν} {w w' w0 : World} {L L' F : List Chunk} {b clock : Nat} {K : VK} {R : ER}
theorem make_m (H : Hp w0 w L) (k : ∀ w' b, Hp w0 w' (⟨b, .o (mobj key val [] 0), []⟩ :: L) → K (.map (some b)) w') : valV Pg R (Instr.makeMap T none) K w := by
  have : (Instr.makeMap T none).run Pg w = .ok (.map (some w.heap.size)) (w.alloc (.map #[] 0)) := by
    rfl
  unfold valV; rw [this]
  refine k _ _ (H.newOf (t := .o (mobj key val [] 0)) (l := []) ?_ (Ext.alloc [] w _))
  show (w.heap.push _)[w.heap.size]? = _
  simp [Chunk.obj, mobj]
end
section
variable {κ ν : Type} [DecidableEq κ] {T kt et : TypeId} {d : TypeDesc} {key : κ → Value} {val : ν → Value} {z : ν} {w w' w0 : World} {L L' F : List Chunk} {b clock : Nat} {K : VK} {R : ER}
theorem put_h (M : MapK T kt et d key val z) (x : κ) (v : ν) {ents : List (κ × ν × Nat)} (H : Hp w0 w L) (hu : Upd L b (.o (mobj key val ents clock)) [] (.o (mobj key val (mput x v ents clock) (mclk x ents clock))) [] L') (k : ∀ w', Hp w0 w' L' → K undef w') :
    unitV Pg R (Instr.mapUpdate T (.map (some b)) (key x) (val v)) K w := by
  have hb := (H.blk _ hu.has).2
  have hb' : w.heap[b]? = some (mobj key val ents clock) := hb
  have hrun : (Instr.mapUpdate T (.map (some b)) (key x) (val v)).run Pg w = .ok () (putB w b (mobj key val (mput x v ents clock) (mclk x ents clock))) := by
    unfold Instr.mapUpdate
    rw [Sem.run_bind, run_underlying' M.under]
    simp only [Result.andThen, Sem.run_bind, run_getO hb', mobj, M.chk, findKey_run M]
    cases hf : mfind x ents 0 with
    | none =>
      simp only [Option.map_none]
      rw [run_setM _ hb']
      simp [mput, mclk, hf, men]
    | some p =>
      obtain ⟨i, v0⟩ := p
      obtain ⟨_, n, hi⟩ := mfind_some hf
      simp only [Nat.sub_zero] at hi
      have hk : (((⟨ents.map (men key val)⟩ : Array MapEntry)[i]?).map (·.key)).getD (key x) = key x := by simp [hi, men]
      simp only [Option.map_some, hk, Instr.keyThatStays, M.bits, if_true, Sem.run_pure, Result.andThen_ok, Sem.run_bind]
      rw [run_setM _ hb']
      have e : (⟨ents.map (men key val)⟩ : Array MapEntry).modify i (fun e => { e with key := key x, val := val v }) = ⟨(mput x v ents clock).map (men key val)⟩ := by
        apply Array.ext'
        simp only [Array.toList_modify, mput, hf]
        apply List.ext_getElem?
        intro j
        rw [List.getElem?_modify, List.getElem?_map, List.getElem?_map, List.getElem?_modify]
        by_cases hj : i = j
        · subst hj; simp [hi, men]
        · simp [hj]
      rw [e]
      simp [mclk, hf]
  unfold unitV; rw [hrun]
  exact k _ (H.updU hu (putO_at (heap_lt hb')) (Ext.putO _ _))
/-! ### what these lists are -/
def mkeys (ents : List (κ × ν × Nat)) : List κ := ents.map (·.1)
structure MW (ents : List (κ × ν × Nat)) (clock : Nat) : Prop where
  nd : (mkeys ents).Nodup
  bn : (ents.map (·.2.2)).Pairwise (· < ·)
  lt : ∀ e ∈ ents, e.2.2 < clock
end
section
variable {κ ν : Type} {T kt et : TypeId} {d : TypeDesc} {key : κ → Value} {val : ν → Value} {z : ν} {w w' w0 : World} {L L' F : List Chunk} {b clock : Nat} {K : VK} {R : ER}
theorem MW.nil : MW ([] : List (κ × ν × Nat)) clock := ⟨by simp [mkeys], by simp, by simp⟩
end
section
variable {κ ν : Type} [DecidableEq κ] {T kt et : TypeId} {d : TypeDesc} {key : κ → Value} {val : ν → Value} {z : ν} {w w' w0 : World} {L L' F : List Chunk} {b clock : Nat} {K : VK} {R : ER}
theorem mget_none {x : κ} {ents : List (κ × ν × Nat)} : mget x ents = none ↔ x ∉ mkeys ents := by
  unfold mget; rw [Option.map_eq_none_iff, mfind_none]
  simp only [mkeys, List.mem_map, not_exists, not_and]
  exact ⟨fun h e he hx => h e he hx.symm, fun h e he hx => h e he hx.symm⟩
theorem mget_some {x : κ} {v : ν} {ents : List (κ × ν × Nat)} (h : mget x ents = some v) : ∃ n, (x, v, n) ∈ ents := by
  unfold mget at h
  obtain ⟨⟨i, v'⟩, hf, e⟩ := Option.map_eq_some_iff.1 h
  simp only at e; subst e
  obtain ⟨_, n, hi⟩ := mfind_some hf
  exact ⟨n, List.mem_of_getElem? hi⟩
theorem mget_isSome {x : κ} {ents : List (κ × ν × Nat)} : (mget x ents).isSome = decide (x ∈ mkeys ents) := by
  rw [Bool.eq_iff_iff, decide_eq_true_eq]
  constructor
  · intro h
    obtain ⟨v, hv⟩ := Option.isSome_iff_exists.1 h
    obtain ⟨n, hm⟩ := mget_some hv
    exact List.mem_map.2 ⟨_, hm, rfl⟩
  · intro h
    cases hg : mget x ents with
    | none => exact absurd h (mget_none.1 hg)
    | some v => rfl
/-- A new key. -/
theorem mput_new {x : κ} {v : ν} {ents : List (κ × ν × Nat)} (h : x ∉ mkeys ents) : mput x v ents clock = ents ++ [(x, v, clock)] ∧ mclk x ents clock = clock + 1 := by
  have : mfind x ents 0 = none := mfind_none.2 fun e he hx => h (List.mem_map.2 ⟨e, he, hx.symm⟩)
  simp [mput, mclk, this]
end
section
variable {κ ν : Type} {T kt et : TypeId} {d : TypeDesc} {key : κ → Value} {val : ν → Value} {z : ν} {w w' w0 : World} {L L' F : List Chunk} {b clock : Nat} {K : VK} {R : ER}
theorem MW.put_new {x : κ} {v : ν} {ents : List (κ × ν × Nat)} (h : x ∉ mkeys ents) (hw : MW ents clock) : MW (ents ++ [(x, v, clock)]) (clock + 1) := by
  refine ⟨?_, ?_, fun e he => ?_⟩
  · simp only [mkeys, List.map_append, List.map_cons, List.map_nil]
    rw [List.nodup_append]
    refine ⟨hw.nd, by simp, fun a ha b hb => ?_⟩
    simp at hb; subst hb; rintro rfl; exact h ha
  · rw [List.map_append, List.pairwise_append]
    refine ⟨hw.bn, by simp, fun a ha b hb => ?_⟩
    simp at hb; subst hb
    obtain ⟨e, he, rfl⟩ := List.mem_map.1 ha
    exact hw.lt e he
  · rcases List.mem_append.1 he with he | he
    · have := hw.lt e he; omega
    · simp at he; subst he; simp
end
section
variable {κ ν : Type} [DecidableEq κ] {T kt et : TypeId} {d : TypeDesc} {key : κ → Value} {val : ν → Value} {z : ν} {w w' w0 : World} {L L' F : List Chunk} {b clock : Nat} {K : VK} {R : ER}
/-- The key is there: its place keeps its birth. -/
theorem mput_old {x : κ} {v : ν} {ents : List (κ × ν × Nat)} (h : x ∈ mkeys ents) (hw : MW ents clock) : mkeys (mput x v ents clock) = mkeys ents ∧ mclk x ents clock = clock ∧ MW (mput x v ents clock) clock := by
  cases hf : mfind x ents 0 with
  | none =>
    obtain ⟨e, he, hx⟩ := List.mem_map.1 h
    exact absurd hx.symm (mfind_none.1 hf e he)
  | some p =>
    obtain ⟨i, v0⟩ := p
    obtain ⟨_, n, hi⟩ := mfind_some hf
    simp only [Nat.sub_zero] at hi
    have e1 : mput x v ents clock = ents.modify i fun e => (x, v, e.2.2) := by simp [mput, hf]
    have k1 : mkeys (mput x v ents clock) = mkeys ents := by
      rw [e1]; unfold mkeys
      apply List.ext_getElem?; intro j
      rw [List.getElem?_map, List.getElem?_modify, List.getElem?_map]
      by_cases hj : i = j
      · subst hj; simp [hi]
      · simp [hj]
    have k2 : (mput x v ents clock).map (·.2.2) = ents.map (·.2.2) := by
      rw [e1]
      apply List.ext_getElem?; intro j
      rw [List.getElem?_map, List.getElem?_modify, List.getElem?_map]
      by_cases hj : i = j
      · subst hj; simp [hi]
      · simp [hj]
    refine ⟨k1, by simp [mclk, hf], by rw [k1]; exact hw.nd, by rw [k2]; exact hw.bn, fun e he => ?_⟩
    have : e.2.2 ∈ (mput x v ents clock).map (·.2.2) := List.mem_map_of_mem he
    rw [k2] at this
    obtain ⟨e', he', h'⟩ := List.mem_map.1 this
    rw [← h']; exact hw.lt e' he'
/-! ### deleting, clearing -/
theorem eraseIdx_map' {α β : Type} (f : α → β) : ∀ (l : List α) (i : Nat), (l.map f).eraseIdx i = (l.eraseIdx i).map f
  | [], i => by simp
  | a :: l, 0 => rfl
  | a :: l, i + 1 => by simp [eraseIdx_map' f l i]
theorem delete_h (M : MapK T kt et d key val z) (x : κ) {ents : List (κ × ν × Nat)} {ty : Nat} {cc : Array Bool} (H : Hp w0 w L) (hu : Upd L b (.o (mobj key val ents clock)) [] (.o (mobj key val (mdel x ents) clock)) [] L') (k : ∀ w', Hp w0 w' L' → K (.tuple ⟨[]⟩) w') :
    blt Pg R .delete ⟨[T, kt]⟩ ty cc ⟨[.map (some b), key x]⟩ K w := by
  have hb' : w.heap[b]? = some (mobj key val ents clock) := (H.blk _ hu.has).2
  have hrun : (Builtin.delete_ ⟨[T, kt]⟩ ty ⟨[.map (some b), key x]⟩).run Pg w = .ok (.tuple ⟨[]⟩) (putB w b (mobj key val (mdel x ents) clock)) := by
    unfold Builtin.delete_
    have e0 : (⟨[T, kt]⟩ : Array TypeId)[0]? = some T := rfl
    have e1 : (⟨[.map (some b), key x]⟩ : Array Value)[0]? = some (.map (some b)) := rfl
    have e2 : (⟨[.map (some b), key x]⟩ : Array Value)[1]? = some (key x) := rfl
    simp only [e0, e1, e2, Sem.run_bind, run_underlying' M.under, Result.andThen, run_getO hb', mobj, M.chk, findKey_run M]
    cases hf : mfind x ents 0 with
    | none =>
      simp only [Option.map_none]
      rw [Sem.run_bind, run_setM _ hb']
      simp [mdel, hf]
    | some p =>
      obtain ⟨i, v0⟩ := p
      simp only [Option.map_some]
      rw [Sem.run_bind, run_setM _ hb']
      have : (⟨ents.map (men key val)⟩ : Array MapEntry).eraseIdxIfInBounds i = ⟨(mdel x ents).map (men key val)⟩ := by
        apply Array.ext'
        simp [mdel, hf, eraseIdx_map']
      rw [this]
      rfl
  unfold blt semV
  have : (builtin .delete ⟨[T, kt]⟩ ty cc ⟨[.map (some b), key x]⟩).run Pg w = .ok (.value (.tuple ⟨[]⟩)) (putB w b (mobj key val (mdel x ents) clock)) := run_value hrun
  rw [this]
  exact k _ (H.updU hu (putO_at (heap_lt hb')) (Ext.putO _ _))
theorem mfind_idx {x : κ} : ∀ {ents : List (κ × ν × Nat)} {i j : Nat} {v : ν}, mfind x ents i = some (j, v) → ∀ m, m < j - i → ∀ e, ents[m]? = some e → x ≠ e.1
  | [], i, j, v, h => by simp [mfind] at h
  | a :: es, i, j, v, h => by
    unfold mfind at h; split at h
    · rename_i hx
      injection h with h; injection h with h1 h2
      subst h1
      intro m hm; omega
    · rename_i hx
      intro m hm e he
      cases m with
      | zero => simp at he; subst he; exact hx
      | succ m => exact mfind_idx h m (by omega) e (by simpa using he)
theorem mdel_eq {x : κ} {ents : List (κ × ν × Nat)} (hn : (mkeys ents).Nodup) : mdel x ents = ents.filter fun e => decide (e.1 ≠ x) := by
  unfold mdel
  cases hf : mfind x ents 0 with
  | none =>
    symm; rw [List.filter_eq_self]
    intro e he; simp; exact fun h => mfind_none.1 hf e he h.symm
  | some p =>
    obtain ⟨i, v0⟩ := p
    obtain ⟨h00, n, hi⟩ := mfind_some hf
    simp only [Nat.sub_zero] at hi
    simp only
    clear hf h00
    induction ents generalizing i with
    | nil => simp at hi
    | cons a es ih =>
      simp only [mkeys, List.map_cons, List.nodup_cons] at hn
      cases i with
      | zero =>
        simp only [List.getElem?_cons_zero, Option.some.injEq] at hi
        subst hi
        simp only [List.eraseIdx_cons_zero]
        rw [List.filter_cons, if_neg (by simp), List.filter_eq_self.2]
        intro e he; simp; rintro rfl
        exact hn.1 (List.mem_map.2 ⟨e, he, rfl⟩)
      | succ i =>
        simp only [List.getElem?_cons_succ] at hi
        simp only [List.eraseIdx_cons_succ]
        have hne : a.1 ≠ x := by
          rintro rfl
          exact hn.1 (List.mem_map.2 ⟨_, List.mem_of_getElem? hi, rfl⟩)
        rw [List.filter_cons, if_pos (by simpa using hne), ih hn.2 i hi]
end
section
variable {κ ν : Type} {T kt et : TypeId} {d : TypeDesc} {key : κ → Value} {val : ν → Value} {z : ν} {w w' w0 : World} {L L' F : List Chunk} {b clock : Nat} {K : VK} {R : ER}
theorem MW.sub {ents ents' : List (κ × ν × Nat)} (hw : MW ents clock) (h : List.Sublist ents' ents) : MW ents' clock :=
  ⟨(h.map _).nodup hw.nd, hw.bn.sublist (h.map _), fun e he => hw.lt e (h.subset he)⟩
end
section
variable {κ ν : Type} [DecidableEq κ] {T kt et : TypeId} {d : TypeDesc} {key : κ → Value} {val : ν → Value} {z : ν} {w w' w0 : World} {L L' F : List Chunk} {b clock : Nat} {K : VK} {R : ER}
theorem MW.del {x : κ} {ents : List (κ × ν × Nat)} (hw : MW ents clock) : MW (mdel x ents) clock := by
  rw [mdel_eq hw.nd]; exact hw.sub List.filter_sublist
theorem clear_m {ents : List (κ × ν × Nat)} (M : MapK T kt et d key val z) {ty : Nat} {cc : Array Bool} (H : Hp w0 w L) (hu : Upd L b (.o (mobj key val ents clock)) [] (.o (mobj key val [] clock)) [] L') (k : ∀ w', Hp w0 w' L' → K (.tuple ⟨[]⟩) w') :
    blt Pg R .clear ⟨[T]⟩ ty cc ⟨[.map (some b)]⟩ K w := by
  have hb' : w.heap[b]? = some (mobj key val ents clock) := (H.blk _ hu.has).2
  have hrun : (Builtin.clear_ ⟨[T]⟩ ty ⟨[.map (some b)]⟩).run Pg w = .ok (.tuple ⟨[]⟩) (putB w b (mobj key val ([] : List (κ × ν × Nat)) clock)) := by
    unfold Builtin.clear_
    have e0 : (⟨[T]⟩ : Array TypeId)[0]? = some T := rfl
    have e1 : (⟨[.map (some b)]⟩ : Array Value)[0]? = some (.map (some b)) := rfl
    simp only [e0, e1, Sem.run_bind, run_underlying' M.under, Result.andThen, run_getO hb', mobj]
    rw [run_setM _ hb']
    rfl
  unfold blt semV
  have : (builtin .clear ⟨[T]⟩ ty cc ⟨[.map (some b)]⟩).run Pg w = .ok (.value (.tuple ⟨[]⟩)) (putB w b (mobj key val ([] : List (κ × ν × Nat)) clock)) := run_value hrun
  rw [this]
  exact k _ (H.updU hu (putO_at (heap_lt hb')) (Ext.putO _ _))
theorem mlen_h {ents : List (κ × ν × Nat)} (M : MapK T kt et d key val z) {ty : Nat} {cc : Array Bool} (H : Hp w0 w L) (hm : Has L b (.o (mobj key val ents clock)) []) (k : K (I (ents.length : Int)) w) :
    blt Pg R .len ⟨[T]⟩ ty cc ⟨[.map (some b)]⟩ K w := by
  have hb' : w.heap[b]? = some (mobj key val ents clock) := (H.blk _ hm).2
  have hrun : (Builtin.len_ ⟨[T]⟩ ty ⟨[.map (some b)]⟩).run Pg w = .ok (I (ents.length : Int)) w := by
    unfold Builtin.len_
    have e0 : (⟨[T]⟩ : Array TypeId)[0]? = some T := rfl
    have e1 : (⟨[.map (some b)]⟩ : Array Value)[0]? = some (.map (some b)) := rfl
    simp only [e0, e1, Sem.run_bind, run_underlying' M.under, Result.andThen, run_getO hb', mobj]
    simp [goInt]
  unfold blt semV
  have : (builtin .len ⟨[T]⟩ ty cc ⟨[.map (some b)]⟩).run Pg w = .ok (.value (I (ents.length : Int))) w := run_value hrun
  rw [this]; exact k
/-! ### ranging -/
def iobj (b since : Nat) (seen : List Nat) (st : Nat) : Obj := .mapIter (some b) since ⟨seen⟩ st
theorem range_h {ents : List (κ × ν × Nat)} (M : MapK T kt et d key val z) (H : Hp w0 w L) (hm : Has L b (.o (mobj key val ents clock)) []) (k : ∀ w' r, Hp w0 w' (⟨r, .o (iobj b clock [] clock), []⟩ :: L) → K (ptr r 0) w') :
    valV Pg R (Instr.range T (.map (some b))) K w := by
  have hb' : w.heap[b]? = some (mobj key val ents clock) := (H.blk _ hm).2
  have hrun : (Instr.range T (.map (some b))).run Pg w = .ok (ptr w.heap.size 0) (w.alloc (iobj b clock [] clock)) := by
    unfold Instr.range
    simp only [Sem.run_bind, run_underlying' M.under, Result.andThen, run_getO hb', mobj]
    rfl
  unfold valV; rw [hrun]
  refine k _ _ (H.newOf (t := .o (iobj b clock [] clock)) (l := []) ?_ (Ext.alloc [] w _))
  show (w.heap.push _)[w.heap.size]? = _
  simp [Chunk.obj]
end
section
variable {κ ν : Type} {T kt et : TypeId} {d : TypeDesc} {key : κ → Value} {val : ν → Value} {z : ν} {w w' w0 : World} {L L' F : List Chunk} {b clock : Nat} {K : VK} {R : ER}
theorem next_h {ents : List (κ × ν × Nat)} {r since c0 : Nat} {seen : List Nat} {ty : Nat} (H : Hp w0 w (⟨r, .o (iobj b since seen c0), []⟩ :: L)) (hm : Has L b (.o (mobj key val ents clock)) []) (hold : ∀ e ∈ ents, e.2.2 < since) (hsc : since ≤ c0)
    (k1 : (∀ e ∈ ents, e.2.2 ∈ seen) → K (.tuple ⟨[.bool false]⟩) w)
    (k2 : ∀ w' e, e ∈ ents → e.2.2 ∉ seen → Hp w0 w' (⟨r, .o (iobj b since (seen ++ [e.2.2]) clock), []⟩ :: L) → K (.tuple ⟨[.bool true, key e.1, val e.2.1]⟩) w') :
    valV Pg R (Instr.next (ptr r 0) false ty) K w := by
  have hb' : w.heap[b]? = some (mobj key val ents clock) := (H.blk _ (Has.cons hm)).2
  have hr : w.heap[r]? = some (iobj b since seen c0) := (H.blk ⟨r, .o (iobj b since seen c0), []⟩ (by simp)).2
  have hmem : ∀ x, x ∈ (leftOf ⟨ents.map (men key val)⟩ ⟨seen⟩).toList ↔ ∃ e ∈ ents, e.2.2 ∉ seen ∧ x = men key val e := by
    intro x
    simp only [leftOf, Array.toList_filter, List.mem_filter, List.mem_map, Bool.not_eq_true', List.contains_toArray, List.contains_eq_mem, decide_eq_false_iff_not]
    constructor
    · rintro ⟨⟨e, he, rfl⟩, hn⟩; exact ⟨e, he, hn, rfl⟩
    · rintro ⟨e, he, hn, rfl⟩; exact ⟨⟨e, he, rfl⟩, hn⟩
  unfold valV
  rcases run_next_at (P := Pg) w ty r b since c0 ⟨seen⟩ ⟨ents.map (men key val)⟩ clock hr hb' (by intro x hx; simp at hx; obtain ⟨a, v, n, he, rfl⟩ := hx; exact hold _ he) hsc with ⟨h1, h2⟩ | ⟨x, hx, w1, hw1, h2⟩
  · rw [h2]
    refine k1 fun e he => Decidable.byContradiction fun hn => ?_
    have := (hmem (men key val e)).2 ⟨e, he, hn, rfl⟩
    have h0 : (leftOf ⟨ents.map (men key val)⟩ ⟨seen⟩).toList = [] := List.length_eq_zero_iff.1 (by simpa using h1)
    rw [h0] at this; cases this
  · rw [h2]
    obtain ⟨e, he, hn, rfl⟩ := (hmem x).1 hx
    have H1 : Hp w0 w1 (⟨r, .o (iobj b since seen c0), []⟩ :: L) := by
      rcases hw1 with rfl | rfl
      · exact H
      · exact H.drew
    have hr1 : w1.heap[r]? = some (iobj b since seen c0) := (H1.blk ⟨r, .o (iobj b since seen c0), []⟩ (by simp)).2
    have e2 : ChangeMaps.setBlock w1 r (.mapIter (some b) since ((⟨seen⟩ : Array Nat).push e.2.2) clock) = putB w1 r (iobj b since (seen ++ [e.2.2]) clock) := by
      simp [ChangeMaps.setBlock, putB, iobj]
    have e3 : (men key val e).born = e.2.2 := rfl
    rw [e3, e2]
    refine k2 _ e he hn (H1.updU Upd.here (putO_at (heap_lt hr1)) (Ext.putO _ _))
end
section
variable {κ ν : Type} [DecidableEq κ] {T kt et : TypeId} {d : TypeDesc} {key : κ → Value} {val : ν → Value} {z : ν} {w w' w0 : World} {L L' F : List Chunk} {b clock : Nat} {K : VK} {R : ER}
end
section
variable {κ ν : Type} {T kt et : TypeId} {d : TypeDesc} {key : κ → Value} {val : ν → Value} {z : ν} {w w' w0 : World} {L L' F : List Chunk} {b clock : Nat} {K : VK} {R : ER}
theorem entry_h {ents : List (κ × ν × Nat)} {r since : Nat} {seen : List Nat} {e : κ × ν × Nat} (H : Hp w0 w (⟨r, .o (iobj b since (seen ++ [e.2.2]) clock), []⟩ :: L)) (hm : Has L b (.o (mobj key val ents clock)) []) (he : e ∈ ents) (hw : MW ents clock)
    (k : K (.tuple ⟨[key e.1, val e.2.1]⟩) w) : valV Pg R (Instr.entry (ptr r 0)) K w := by
  have hb' : w.heap[b]? = some (mobj key val ents clock) := (H.blk _ (Has.cons hm)).2
  have hr : w.heap[r]? = some (iobj b since (seen ++ [e.2.2]) clock) := (H.blk ⟨r, .o (iobj b since (seen ++ [e.2.2]) clock), []⟩ (by simp)).2
  unfold valV
  rw [run_entry_at (P := Pg) w r b since ⟨seen⟩ ⟨ents.map (men key val)⟩ clock (men key val e) (by rw [hr]; simp [iobj, men]) hb' (by simp; exact ⟨e.1, e.2.1, e.2.2, he, rfl⟩) (by
    have : (ents.map (men key val)).map (·.born) = ents.map (·.2.2) := by rw [List.map_map]; rfl
    simp only [this]
    exact hw.bn.imp fun h => Nat.ne_of_lt h)]
  exact k
end
section
variable {κ ν : Type} [DecidableEq κ] {T kt et : TypeId} {d : TypeDesc} {key : κ → Value} {val : ν → Value} {z : ν} {w w' w0 : World} {L L' F : List Chunk} {b clock : Nat} {K : VK} {R : ER}
end
end Go.Proofs.Ytagcifbfokneoaa.Den
end

section
set_option linter.unusedVariables false
set_option linter.unusedSimpArgs false
namespace Go.Proofs.Ytagcifbfokneoaa.Den
open Go
section
variable {P : Program} {w : World}
theorem s_checkKey (em : Bool) : ∀ (d t : Nat) (ks : List Nat), leaves P d t = some ks → ∀ n, d ≤ n →
    (isAggO P t = some false → ∀ v w, (Instr.checkKey em n t v).run P w = .ok () w) ∧
    (isAggO P t = some true → ∀ (xs : Array Value) w, xs.size = ks.length → (Instr.checkKey em n t (.agg xs)).run P w = .ok () w)
  | 0, t, ks, h, n, hn => by simp [leaves] at h
  | d + 1, t, ks, h, n, hn => by
    obtain ⟨n, rfl⟩ : ∃ m, n = m + 1 := ⟨n - 1, by omega⟩
    unfold leaves at h
    split at h
    · rename_i k hu
      have ha := isAggO_leaf hu (by simp) (by simp)
      refine ⟨fun _ v w => ?_, fun h => by rw [ha] at h; cases h⟩
      simp [Instr.checkKey, Sem.run_bind, run_underlying' hu, Result.andThen]
    · rename_i hu
      have ha := isAggO_leaf hu (by simp) (by simp)
      refine ⟨fun _ v w => ?_, fun h => by rw [ha] at h; cases h⟩
      simp [Instr.checkKey, Sem.run_bind, run_underlying' hu, Result.andThen]
    · rename_i hu
      have ha := isAggO_leaf hu (by simp) (by simp)
      refine ⟨fun _ v w => ?_, fun h => by rw [ha] at h; cases h⟩
      simp [Instr.checkKey, Sem.run_bind, run_underlying' hu, Result.andThen]
    · rename_i fs hu
      have hag : isAggO P t = some true := by unfold isAggO; rw [hu]
      refine ⟨fun h => (by rw [hag] at h; cases h), fun _ xs w hsz => ?_⟩
      cases hst : P.stoodInHeld t with
      | true => simp [hst] at h
      | false =>
        simp only [hst, cond_false] at h
        rw [Instr.checkKey, Sem.run_bind, run_underlying' hu]
        simp only [Result.andThen]
        rw [← Array.forIn_toList]
        have key : ∀ (fs : List Field) (off : Nat) (ks : List Nat), leavesF P (leaves P d) off fs = some ks → off + ks.length = xs.size → (forIn fs PUnit.unit fun f (r : PUnit) =>
            if f.name ≠ "_" then (do
              let a ← part f.type xs f.offset
              Instr.checkKey em n f.type a
              pure (ForInStep.yield PUnit.unit))
            else pure (ForInStep.yield PUnit.unit) : Sem PUnit).run P w = .ok () w := by
          intro fs
          induction fs with
          | nil => intro off ks h hb; rfl
          | cons f fs ih =>
            intro off ks h hb
            simp only [leavesF] at h
            cases hc : (f.name == "_" || !(Nat.beq f.offset off)) with
            | true => simp [hc] at h
            | false =>
              simp only [hc, cond_false] at h
              simp only [Bool.or_eq_false_iff, beq_eq_false_iff_ne, Bool.not_eq_false'] at hc
              obtain ⟨hc1, hc2⟩ := hc
              have hoff : f.offset = off := Nat.eq_of_beq_eq_true hc2
              split at h
              · rename_i l s h1 h2
                cases hls : Nat.beq l.length s with
                | false => simp [hls] at h
                | true =>
                  simp only [hls, cond_true] at h
                  have hls' : l.length = s := Nat.eq_of_beq_eq_true hls
                  split at h
                  · rename_i r h3
                    injection h with h; subst h
                    simp only [List.length_append] at hb
                    have ihr := ih (off + s) r h3 (by omega)
                    have he := s_checkKey em d f.type l h1 n (by omega)
                    have step : ∃ a, (part f.type xs f.offset).run P w = .ok a w ∧ (Instr.checkKey em n f.type a).run P w = .ok () w := by
                      cases hag : isAggO P f.type with
                      | none =>
                        exfalso
                        unfold leaves at h1
                        cases d with
                        | zero => simp at h1
                        | succ d =>
                          unfold isAggO at hag
                          split at hag
                          · cases hag
                          · cases hag
                          · cases hag
                          · rename_i hn; simp only [hn] at h1; cases h1
                      | some ag =>
                        cases ag with
                        | true =>
                          refine ⟨_, s_partN hag h2, he.2 hag _ w ?_⟩
                          simp; omega
                        | false =>
                          obtain ⟨k, rfl, _⟩ := (s_equalIn (P := P) d f.type l h1 d (Nat.le_refl _)).1 hag
                          simp only [List.length_cons, List.length_nil] at hb
                          simp only [List.length_singleton] at hls'
                          exact ⟨_, s_part1 hag (by rw [hoff]; exact Array.getElem?_eq_getElem (by omega)), he.1 hag _ w⟩
                    obtain ⟨a, s1, s2⟩ := step
                    rw [List.forIn_cons, Sem.run_bind]
                    simp only [ne_eq, hc1, not_false_eq_true, if_true, Sem.run_bind, s1, s2, Result.andThen_ok, Sem.run_pure]
                    exact ihr
                  · cases h
              · cases h
        have := key fs.toList 0 ks h (by omega)
        rw [Sem.run_bind]
        exact (congrArg (fun r => Result.andThen r fun _ w' => Sem.run P (pure ()) w') this)
    · cases h
end
/-- A map whose keys are structs of plain cells. -/
theorem MapK.agg {κ ν : Type} [DecidableEq κ] {T kt et : TypeId} {fs : Array Field} {cells : κ → List Value} {val : ν → Value} {z : ν} {ks : List Nat} (h1 : Pg.underlying T = some (.map kt et)) (h2 : Pg.underlying kt = some (.struct fs)) (h3 : (Pg.info? et).bind (·.zero) = some (val z))
    (h4 : leaves Pg 20 kt = some ks) (h5 : ∀ x, (cells x).length = ks.length) (h6 : ∀ x y, eqCells ks (cells x) (cells y) = some (decide (x = y))) (h7 : ∀ x, Instr.sameBits 10000 (.agg ⟨cells x⟩) (.agg ⟨cells x⟩) = true) :
    MapK T kt et (.struct fs) (fun x => .agg ⟨cells x⟩) val z :=
  ⟨h1, h2, h3, fun x y w => s_equalAgg h2 h4 (h6 x y) w, fun b x w => (s_checkKey b 20 kt ks h4 10000 (by omega)).2 (by unfold isAggO; rw [h2]) _ w (h5 x), .inr fun x y => rfl, h7⟩
end Go.Proofs.Ytagcifbfokneoaa.Den
end

section
set_option linter.unusedVariables false
set_option linter.unusedSimpArgs false
set_option maxRecDepth 8000
namespace Go.Proofs.Ytagcifbfokneoaa.Den
open Go Go.RowKit
def kE (e : Int × Int) : Value := .agg ⟨[I e.1, I e.2]⟩
theorem mapE : MapK (κ := Int × Int) (ν := Bool) 72 39 4 (.struct (Pg.fieldsOf 39)) kE Value.bool false :=
  MapK.agg (cells := fun e : Int × Int => [I e.1, I e.2]) (ks := [0, 0]) (by kernel_rfl) (by kernel_rfl) (by kernel_rfl) (by kernel_rfl) (fun _ => rfl) (fun x y => by
    simp only [eqCells, eqLeaf, if_true]
    have : (x.1 == y.1 && (x.2 == y.2 && true)) = decide (x = y) := by rw [Bool.eq_iff_iff]; simp [Prod.ext_iff]
    rw [this]) (fun x => by simp [Instr.sameBits])
section
variable {w w' w0 : World} {L L' F cs cs2 cs3 : List Chunk} {s s2 sb se sd : Value} {K : VK} {R : ER} {base d : List Int} {es : List (Int × Int)} {E : List (Nat × Nat)} {n f : Nat} {cap : List Value}
theorem Index60_spec {xs : List Int} {p : Int → Bool} (h : TR cI w0 cs s xs) (H : Hp w0 w L) (m1 : ∀ c ∈ cs, c ∈ L) (hl : xs.length < 2 ^ 62) (hf : enterOk Pg f = true)
    (hc : ∀ x ∈ xs, ∀ w, Hp w0 w L → Calls Pg f ⟨[] ++ [I x] ++ cap⟩ w fun e w' => e = .returned (.bool (p x)) ∧ Hp w0 w' L) :
    Calls Pg 60 ⟨[s, .func (.func f) ⟨[]⟩ ⟨cap⟩]⟩ w fun e w' => (∃ i : Int, e = .returned (I i) ∧ (decide (0 ≤ i) = xs.any p)) ∧ Hp w0 w' L := by
  apply F60_calls
  unfold F60 F60_j2 F60_j3
  repeat (first | simp only [cI_enc, cE_enc, cN_enc, W0] | refine lss_a ?_ | refine lss_b ?_ | refine gtr_a ?_ | refine gtr_b ?_ | refine geq_a ?_ | refine geq_b ?_ | refine leq_a ?_ | refine leq_b ?_ | refine eql_a ?_ | refine eql_b ?_ | refine neq_a ?_ | refine neq_b ?_ | refine add_a ?_ | refine sub_a ?_ | refine ld_a ?_ | refine ldA_a ?_ | refine ldS_a ?_ | refine ldNS_a ?_ | refine rdA_s ?_ | refine rd1_s ?_ | refine drew_a fun w1 H1 => ?_ | refine st_a fun w1 H1 => ?_ | refine stA_a fun w1 H1 => ?_ | refine lenT_a ?_ | refine lenO_a ?_ | refine ixT_a ?_ | refine ixO_a ?_ | fail)
  refine loop4 (F60_l1_succ _) (fun m x0 x1 x7 x8 w => ∃ i : Nat, x0 = s ∧ x1 = .func (.func f) ⟨[]⟩ ⟨cap⟩ ∧ x7 = I (xs.length : Int) ∧ x8 = I i ∧ m + i = xs.length ∧ (∀ x ∈ xs.take i, p x = false) ∧ Hp w0 w L) ?_ (m := xs.length) ⟨0, rfl, rfl, rfl, rfl, rfl, by simp, H⟩
  clear H
  rintro m k s _ _ _ w ⟨i, rfl, rfl, rfl, rfl, hm, hp, H⟩ hk
  unfold F60_b1
  refine lss_k (fun hi => ?_) (fun hi => ?_)
  · have hx : xs[i]? = some xs[i] := List.getElem?_eq_getElem (by omega)
    unfold F60_j4
    repeat (first | simp only [cI_enc, cE_enc, cN_enc, W0] | refine lss_a ?_ | refine lss_b ?_ | refine gtr_a ?_ | refine gtr_b ?_ | refine geq_a ?_ | refine geq_b ?_ | refine leq_a ?_ | refine leq_b ?_ | refine eql_a ?_ | refine eql_b ?_ | refine neq_a ?_ | refine neq_b ?_ | refine add_a ?_ | refine sub_a ?_ | refine ld_a ?_ | refine ldA_a ?_ | refine ldS_a ?_ | refine ldNS_a ?_ | refine rdA_s ?_ | refine rd1_s ?_ | refine drew_a fun w1 H1 => ?_ | refine st_a fun w1 H1 => ?_ | refine stA_a fun w1 H1 => ?_ | refine lenT_a ?_ | refine lenO_a ?_ | refine ixT_a ?_ | refine ixO_a ?_ | fail)
    refine calD_k hf ?_
    refine cal_h (hc xs[i] (List.getElem_mem _) w H) ?_
    rintro _ w ⟨rfl, H⟩
    simp only [ret_k]
    refine cnd_k (fun hv => ?_) (fun hv => ?_)
    · refine ⟨⟨_, rfl, ?_⟩, H⟩
      rw [decide_eq_true (by omega)]
      exact (List.any_eq_true.2 ⟨_, List.getElem_mem _, hv⟩).symm
    · repeat (first | simp only [cI_enc, cE_enc, cN_enc, W0] | refine lss_a ?_ | refine lss_b ?_ | refine gtr_a ?_ | refine gtr_b ?_ | refine geq_a ?_ | refine geq_b ?_ | refine leq_a ?_ | refine leq_b ?_ | refine eql_a ?_ | refine eql_b ?_ | refine neq_a ?_ | refine neq_b ?_ | refine add_a ?_ | refine sub_a ?_ | refine ld_a ?_ | refine ldA_a ?_ | refine ldS_a ?_ | refine ldNS_a ?_ | refine rdA_s ?_ | refine rd1_s ?_ | refine drew_a fun w1 H1 => ?_ | refine st_a fun w1 H1 => ?_ | refine stA_a fun w1 H1 => ?_ | refine lenT_a ?_ | refine lenO_a ?_ | refine ixT_a ?_ | refine ixO_a ?_ | fail)
      refine hk (m - 1) _ _ _ _ _ (by omega) ⟨i + 1, rfl, rfl, rfl, rfl, by omega, ?_, H⟩
      rw [List.take_add_one, hx]
      intro x hx
      rcases List.mem_append.1 hx with hm | hm
      · exact hp x hm
      · simp at hm; subst hm; exact hv
  · repeat (first | simp only [cI_enc, cE_enc, cN_enc, W0] | refine lss_a ?_ | refine lss_b ?_ | refine gtr_a ?_ | refine gtr_b ?_ | refine geq_a ?_ | refine geq_b ?_ | refine leq_a ?_ | refine leq_b ?_ | refine eql_a ?_ | refine eql_b ?_ | refine neq_a ?_ | refine neq_b ?_ | refine add_a ?_ | refine sub_a ?_ | refine ld_a ?_ | refine ldA_a ?_ | refine ldS_a ?_ | refine ldNS_a ?_ | refine rdA_s ?_ | refine rd1_s ?_ | refine drew_a fun w1 H1 => ?_ | refine st_a fun w1 H1 => ?_ | refine stA_a fun w1 H1 => ?_ | refine lenT_a ?_ | refine lenO_a ?_ | refine ixT_a ?_ | refine ixO_a ?_ | fail)
    unfold F60_j1
    rw [List.take_of_length_le (by omega)] at hp
    refine ⟨⟨_, rfl, ?_⟩, H⟩
    rw [decide_eq_false (by omega)]
    symm; rw [List.any_eq_false]
    intro x hx; rw [hp x hx]; simp
theorem Index61_spec {p : Int × Int → Bool} (h : TR cE w0 cs s es) (H : Hp w0 w L) (m1 : ∀ c ∈ cs, c ∈ L) (hl : es.length < 2 ^ 62) (hf : enterOk Pg f = true)
    (hc : ∀ x ∈ es, ∀ w, Hp w0 w L → Calls Pg f ⟨[] ++ [kE x] ++ cap⟩ w fun e w' => e = .returned (.bool (p x)) ∧ Hp w0 w' L) :
    Calls Pg 61 ⟨[s, .func (.func f) ⟨[]⟩ ⟨cap⟩]⟩ w fun e w' => (∃ i : Int, e = .returned (I i) ∧ (decide (0 ≤ i) = es.any p)) ∧ Hp w0 w' L := by
  apply F61_calls
  unfold F61 F61_j2 F61_j3
  repeat (first | simp only [cI_enc, cE_enc, cN_enc, W0] | refine lss_a ?_ | refine lss_b ?_ | refine gtr_a ?_ | refine gtr_b ?_ | refine geq_a ?_ | refine geq_b ?_ | refine leq_a ?_ | refine leq_b ?_ | refine eql_a ?_ | refine eql_b ?_ | refine neq_a ?_ | refine neq_b ?_ | refine add_a ?_ | refine sub_a ?_ | refine ld_a ?_ | refine ldA_a ?_ | refine ldS_a ?_ | refine ldNS_a ?_ | refine rdA_s ?_ | refine rd1_s ?_ | refine drew_a fun w1 H1 => ?_ | refine st_a fun w1 H1 => ?_ | refine stA_a fun w1 H1 => ?_ | refine lenT_a ?_ | refine lenO_a ?_ | refine ixT_a ?_ | refine ixO_a ?_ | fail)
  refine loop4 (F61_l1_succ _) (fun m x0 x1 x7 x8 w => ∃ i : Nat, x0 = s ∧ x1 = .func (.func f) ⟨[]⟩ ⟨cap⟩ ∧ x7 = I (es.length : Int) ∧ x8 = I i ∧ m + i = es.length ∧ (∀ x ∈ es.take i, p x = false) ∧ Hp w0 w L) ?_ (m := es.length) ⟨0, rfl, rfl, rfl, rfl, rfl, by simp, H⟩
  clear H
  rintro m k s _ _ _ w ⟨i, rfl, rfl, rfl, rfl, hm, hp, H⟩ hk
  unfold F61_b1
  refine lss_k (fun hi => ?_) (fun hi => ?_)
  · have hx : es[i]? = some es[i] := List.getElem?_eq_getElem (by omega)
    unfold F61_j4
    repeat (first | simp only [cI_enc, cE_enc, cN_enc, W0] | refine lss_a ?_ | refine lss_b ?_ | refine gtr_a ?_ | refine gtr_b ?_ | refine geq_a ?_ | refine geq_b ?_ | refine leq_a ?_ | refine leq_b ?_ | refine eql_a ?_ | refine eql_b ?_ | refine neq_a ?_ | refine neq_b ?_ | refine add_a ?_ | refine sub_a ?_ | refine ld_a ?_ | refine ldA_a ?_ | refine ldS_a ?_ | refine ldNS_a ?_ | refine rdA_s ?_ | refine rd1_s ?_ | refine drew_a fun w1 H1 => ?_ | refine st_a fun w1 H1 => ?_ | refine stA_a fun w1 H1 => ?_ | refine lenT_a ?_ | refine lenO_a ?_ | refine ixT_a ?_ | refine ixO_a ?_ | fail)
    refine ixN_t (C := cE) h H m1 hx (by decide) ?_
    refine calD_k hf ?_
    refine cal_h (hc es[i] (List.getElem_mem _) w H) ?_
    rintro _ w ⟨rfl, H⟩
    simp only [ret_k]
    refine cnd_k (fun hv => ?_) (fun hv => ?_)
    · refine ⟨⟨_, rfl, ?_⟩, H⟩
      rw [decide_eq_true (by omega)]
      exact (List.any_eq_true.2 ⟨_, List.getElem_mem _, hv⟩).symm
    · repeat (first | simp only [cI_enc, cE_enc, cN_enc, W0] | refine lss_a ?_ | refine lss_b ?_ | refine gtr_a ?_ | refine gtr_b ?_ | refine geq_a ?_ | refine geq_b ?_ | refine leq_a ?_ | refine leq_b ?_ | refine eql_a ?_ | refine eql_b ?_ | refine neq_a ?_ | refine neq_b ?_ | refine add_a ?_ | refine sub_a ?_ | refine ld_a ?_ | refine ldA_a ?_ | refine ldS_a ?_ | refine ldNS_a ?_ | refine rdA_s ?_ | refine rd1_s ?_ | refine drew_a fun w1 H1 => ?_ | refine st_a fun w1 H1 => ?_ | refine stA_a fun w1 H1 => ?_ | refine lenT_a ?_ | refine lenO_a ?_ | refine ixT_a ?_ | refine ixO_a ?_ | fail)
      refine hk (m - 1) _ _ _ _ _ (by omega) ⟨i + 1, rfl, rfl, rfl, rfl, by omega, ?_, H⟩
      rw [List.take_add_one, hx]
      intro x hx
      rcases List.mem_append.1 hx with hm | hm
      · exact hp x hm
      · simp at hm; subst hm; exact hv
  · repeat (first | simp only [cI_enc, cE_enc, cN_enc, W0] | refine lss_a ?_ | refine lss_b ?_ | refine gtr_a ?_ | refine gtr_b ?_ | refine geq_a ?_ | refine geq_b ?_ | refine leq_a ?_ | refine leq_b ?_ | refine eql_a ?_ | refine eql_b ?_ | refine neq_a ?_ | refine neq_b ?_ | refine add_a ?_ | refine sub_a ?_ | refine ld_a ?_ | refine ldA_a ?_ | refine ldS_a ?_ | refine ldNS_a ?_ | refine rdA_s ?_ | refine rd1_s ?_ | refine drew_a fun w1 H1 => ?_ | refine st_a fun w1 H1 => ?_ | refine stA_a fun w1 H1 => ?_ | refine lenT_a ?_ | refine lenO_a ?_ | refine ixT_a ?_ | refine ixO_a ?_ | fail)
    unfold F61_j1
    rw [List.take_of_length_le (by omega)] at hp
    refine ⟨⟨_, rfl, ?_⟩, H⟩
    rw [decide_eq_false (by omega)]
    symm; rw [List.any_eq_false]
    intro x hx; rw [hp x hx]; simp
theorem isPri_spec {x : Int} (H : Hp w0 w L) : Calls Pg 37 ⟨[I x]⟩ w fun e w' => e = .returned (.bool (decide (0 ≤ x ∧ x ≤ 255))) ∧ Hp w0 w' L := by
  apply F37_calls
  unfold F37
  refine geq_k (fun h => ?_) (fun h => ?_)
  · repeat (first | simp only [cI_enc, cE_enc, cN_enc, W0] | refine lss_a ?_ | refine lss_b ?_ | refine gtr_a ?_ | refine gtr_b ?_ | refine geq_a ?_ | refine geq_b ?_ | refine leq_a ?_ | refine leq_b ?_ | refine eql_a ?_ | refine eql_b ?_ | refine neq_a ?_ | refine neq_b ?_ | refine add_a ?_ | refine sub_a ?_ | refine ld_a ?_ | refine ldA_a ?_ | refine ldS_a ?_ | refine ldNS_a ?_ | refine rdA_s ?_ | refine rd1_s ?_ | refine drew_a fun w1 H1 => ?_ | refine st_a fun w1 H1 => ?_ | refine stA_a fun w1 H1 => ?_ | refine lenT_a ?_ | refine lenO_a ?_ | refine ixT_a ?_ | refine ixO_a ?_ | fail)
    refine leq_k (fun h2 => ?_) (fun h2 => ?_)
    · repeat (first | simp only [cI_enc, cE_enc, cN_enc, W0] | refine lss_a ?_ | refine lss_b ?_ | refine gtr_a ?_ | refine gtr_b ?_ | refine geq_a ?_ | refine geq_b ?_ | refine leq_a ?_ | refine leq_b ?_ | refine eql_a ?_ | refine eql_b ?_ | refine neq_a ?_ | refine neq_b ?_ | refine add_a ?_ | refine sub_a ?_ | refine ld_a ?_ | refine ldA_a ?_ | refine ldS_a ?_ | refine ldNS_a ?_ | refine rdA_s ?_ | refine rd1_s ?_ | refine drew_a fun w1 H1 => ?_ | refine st_a fun w1 H1 => ?_ | refine stA_a fun w1 H1 => ?_ | refine lenT_a ?_ | refine lenO_a ?_ | refine ixT_a ?_ | refine ixO_a ?_ | fail)
      exact ⟨by rw [decide_eq_true ⟨h, h2⟩], H⟩
    · repeat (first | simp only [cI_enc, cE_enc, cN_enc, W0] | refine lss_a ?_ | refine lss_b ?_ | refine gtr_a ?_ | refine gtr_b ?_ | refine geq_a ?_ | refine geq_b ?_ | refine leq_a ?_ | refine leq_b ?_ | refine eql_a ?_ | refine eql_b ?_ | refine neq_a ?_ | refine neq_b ?_ | refine add_a ?_ | refine sub_a ?_ | refine ld_a ?_ | refine ldA_a ?_ | refine ldS_a ?_ | refine ldNS_a ?_ | refine rdA_s ?_ | refine rd1_s ?_ | refine drew_a fun w1 H1 => ?_ | refine st_a fun w1 H1 => ?_ | refine stA_a fun w1 H1 => ?_ | refine lenT_a ?_ | refine lenO_a ?_ | refine ixT_a ?_ | refine ixO_a ?_ | fail)
      exact ⟨by rw [decide_eq_false fun h => h2 h.2], H⟩
  · repeat (first | simp only [cI_enc, cE_enc, cN_enc, W0] | refine lss_a ?_ | refine lss_b ?_ | refine gtr_a ?_ | refine gtr_b ?_ | refine geq_a ?_ | refine geq_b ?_ | refine leq_a ?_ | refine leq_b ?_ | refine eql_a ?_ | refine eql_b ?_ | refine neq_a ?_ | refine neq_b ?_ | refine add_a ?_ | refine sub_a ?_ | refine ld_a ?_ | refine ldA_a ?_ | refine ldS_a ?_ | refine ldNS_a ?_ | refine rdA_s ?_ | refine rd1_s ?_ | refine drew_a fun w1 H1 => ?_ | refine st_a fun w1 H1 => ?_ | refine stA_a fun w1 H1 => ?_ | refine lenT_a ?_ | refine lenO_a ?_ | refine ixT_a ?_ | refine ixO_a ?_ | fail)
    exact ⟨by rw [decide_eq_false fun h' => h h'.1], H⟩
theorem Check_spec (h1 : TR cI w0 cs sb base) (h2 : TR cE w0 cs2 se es) (H : Hp w0 w L) (m1 : ∀ c ∈ cs, c ∈ L) (m2 : ∀ c ∈ cs2, c ∈ L) :
    Calls Pg 16 ⟨[.agg ⟨[sb, se]⟩]⟩ w fun x w' => x = .returned (I (chk base es)) ∧ Hp w0 w' L := by
  apply F16_calls
  unfold F16
  refine bx_m H fun w b H => ?_
  repeat (first | simp only [cI_enc, cE_enc, cN_enc, W0] | refine lss_a ?_ | refine lss_b ?_ | refine gtr_a ?_ | refine gtr_b ?_ | refine geq_a ?_ | refine geq_b ?_ | refine leq_a ?_ | refine leq_b ?_ | refine eql_a ?_ | refine eql_b ?_ | refine neq_a ?_ | refine neq_b ?_ | refine add_a ?_ | refine sub_a ?_ | refine ld_a ?_ | refine ldA_a ?_ | refine ldS_a ?_ | refine ldNS_a ?_ | refine rdA_s ?_ | refine rd1_s ?_ | refine drew_a fun w1 H1 => ?_ | refine st_a fun w1 H1 => ?_ | refine stA_a fun w1 H1 => ?_ | refine lenT_a ?_ | refine lenO_a ?_ | refine ixT_a ?_ | refine ixO_a ?_ | fail)
  refine gtr_k (fun hi => ?_) (fun hi => ?_)
  · repeat (first | simp only [cI_enc, cE_enc, cN_enc, W0] | refine lss_a ?_ | refine lss_b ?_ | refine gtr_a ?_ | refine gtr_b ?_ | refine geq_a ?_ | refine geq_b ?_ | refine leq_a ?_ | refine leq_b ?_ | refine eql_a ?_ | refine eql_b ?_ | refine neq_a ?_ | refine neq_b ?_ | refine add_a ?_ | refine sub_a ?_ | refine ld_a ?_ | refine ldA_a ?_ | refine ldS_a ?_ | refine ldNS_a ?_ | refine rdA_s ?_ | refine rd1_s ?_ | refine drew_a fun w1 H1 => ?_ | refine st_a fun w1 H1 => ?_ | refine stA_a fun w1 H1 => ?_ | refine lenT_a ?_ | refine lenO_a ?_ | refine ixT_a ?_ | refine ixO_a ?_ | fail)
    exact ⟨by unfold chk; rw [if_pos (.inl (by omega))], H.tail⟩
  repeat (first | simp only [cI_enc, cE_enc, cN_enc, W0] | refine lss_a ?_ | refine lss_b ?_ | refine gtr_a ?_ | refine gtr_b ?_ | refine geq_a ?_ | refine geq_b ?_ | refine leq_a ?_ | refine leq_b ?_ | refine eql_a ?_ | refine eql_b ?_ | refine neq_a ?_ | refine neq_b ?_ | refine add_a ?_ | refine sub_a ?_ | refine ld_a ?_ | refine ldA_a ?_ | refine ldS_a ?_ | refine ldNS_a ?_ | refine rdA_s ?_ | refine rd1_s ?_ | refine drew_a fun w1 H1 => ?_ | refine st_a fun w1 H1 => ?_ | refine stA_a fun w1 H1 => ?_ | refine lenT_a ?_ | refine lenO_a ?_ | refine ixT_a ?_ | refine ixO_a ?_ | fail)
  refine gtr_k (fun hj => ?_) (fun hj => ?_)
  · repeat (first | simp only [cI_enc, cE_enc, cN_enc, W0] | refine lss_a ?_ | refine lss_b ?_ | refine gtr_a ?_ | refine gtr_b ?_ | refine geq_a ?_ | refine geq_b ?_ | refine leq_a ?_ | refine leq_b ?_ | refine eql_a ?_ | refine eql_b ?_ | refine neq_a ?_ | refine neq_b ?_ | refine add_a ?_ | refine sub_a ?_ | refine ld_a ?_ | refine ldA_a ?_ | refine ldS_a ?_ | refine ldNS_a ?_ | refine rdA_s ?_ | refine rd1_s ?_ | refine drew_a fun w1 H1 => ?_ | refine st_a fun w1 H1 => ?_ | refine stA_a fun w1 H1 => ?_ | refine lenT_a ?_ | refine lenO_a ?_ | refine ixT_a ?_ | refine ixO_a ?_ | fail)
    exact ⟨by unfold chk; rw [if_pos (.inr (by omega))], H.tail⟩
  repeat (first | simp only [cI_enc, cE_enc, cN_enc, W0] | refine lss_a ?_ | refine lss_b ?_ | refine gtr_a ?_ | refine gtr_b ?_ | refine geq_a ?_ | refine geq_b ?_ | refine leq_a ?_ | refine leq_b ?_ | refine eql_a ?_ | refine eql_b ?_ | refine neq_a ?_ | refine neq_b ?_ | refine add_a ?_ | refine sub_a ?_ | refine ld_a ?_ | refine ldA_a ?_ | refine ldS_a ?_ | refine ldNS_a ?_ | refine rdA_s ?_ | refine rd1_s ?_ | refine drew_a fun w1 H1 => ?_ | refine st_a fun w1 H1 => ?_ | refine stA_a fun w1 H1 => ?_ | refine lenT_a ?_ | refine lenO_a ?_ | refine ixT_a ?_ | refine ixO_a ?_ | fail)
  have c1 : chk base es = if ∃ b ∈ base, b < 0 ∨ 255 < b then 34 else if ∃ e ∈ es, inR base.length e.1 = false ∨ inR base.length e.2 = false then 34 else if ¬ es.Nodup then 38 else 0 := by
    unfold chk; rw [if_neg (by omega)]
  have cont35 : Calls Pg 35 ⟨[sb, .func (.func 36) ⟨[]⟩ ⟨[]⟩]⟩ w fun e w' => e = .returned (.bool (base.any fun x => !decide (0 ≤ x ∧ x ≤ 255))) ∧ Hp w0 w' (⟨b, 25, [sb, se]⟩ :: L) := by
    apply F35_calls
    unfold F35
    refine cal_h (Index60_spec (p := fun x => !decide (0 ≤ x ∧ x ≤ 255)) h1 H csub (by omega) (by kernel_rfl) ?_) ?_
    · intro x _ w H
      apply F36_calls
      unfold F36
      refine cal_h (isPri_spec H) ?_
      rintro _ w ⟨rfl, H⟩
      repeat (first | simp only [cI_enc, cE_enc, cN_enc, W0] | refine lss_a ?_ | refine lss_b ?_ | refine gtr_a ?_ | refine gtr_b ?_ | refine geq_a ?_ | refine geq_b ?_ | refine leq_a ?_ | refine leq_b ?_ | refine eql_a ?_ | refine eql_b ?_ | refine neq_a ?_ | refine neq_b ?_ | refine add_a ?_ | refine sub_a ?_ | refine ld_a ?_ | refine ldA_a ?_ | refine ldS_a ?_ | refine ldNS_a ?_ | refine rdA_s ?_ | refine rd1_s ?_ | refine drew_a fun w1 H1 => ?_ | refine st_a fun w1 H1 => ?_ | refine stA_a fun w1 H1 => ?_ | refine lenT_a ?_ | refine lenO_a ?_ | refine ixT_a ?_ | refine ixO_a ?_ | fail)
      exact ⟨(by first | rfl | trivial), H⟩
    · rintro _ w ⟨⟨i, rfl, hi⟩, H⟩
      simp only [ret_k]
      rw [bin_geq]
      simp only [pv_some]
      exact ⟨by rw [hi], H⟩
  refine cal_h cont35 ?_
  rintro _ w ⟨rfl, H⟩
  simp only [ret_k]
  refine cnd_k (fun hv => ?_) (fun hv => ?_)
  · refine ⟨?_, H.tail⟩
    obtain ⟨x, hx, hp⟩ := List.any_eq_true.1 hv
    rw [c1, if_pos ⟨x, hx, by simp at hp; omega⟩]
  have c2 : chk base es = if ∃ e ∈ es, inR base.length e.1 = false ∨ inR base.length e.2 = false then 34 else if ¬ es.Nodup then 38 else 0 := by
    rw [c1, if_neg]
    rintro ⟨x, hx, hb⟩
    have := List.any_eq_false.1 hv x hx
    simp at this; omega
  unfold F16_j2
  refine al_m (ys := [.nilFunc]) H (by kernel_rfl) fun w b2 H => ?_
  have cont39 : ∀ {w}, Hp w0 w (⟨b2, 69, [.func (.func 38) ⟨[]⟩ ⟨[ptr b 0]⟩]⟩ :: ⟨b, 25, [sb, se]⟩ :: L) → Calls Pg 39 ⟨[se, .func (.func 40) ⟨[]⟩ ⟨[ptr b2 0]⟩]⟩ w fun e w' => e = .returned (.bool (es.any fun e => !inR base.length e.1 || !inR base.length e.2)) ∧ Hp w0 w' (⟨b2, 69, [.func (.func 38) ⟨[]⟩ ⟨[ptr b 0]⟩]⟩ :: ⟨b, 25, [sb, se]⟩ :: L) := by
    intro w H
    apply F39_calls
    unfold F39
    refine cal_h (Index61_spec (p := fun e => !inR base.length e.1 || !inR base.length e.2) h2 H csub (by omega) (by kernel_rfl) ?_) ?_
    · intro x _ w H
      have out : ∀ {y : Int} {w : World} {L' : List Chunk}, Hp w0 w (L' ++ (⟨b, 25, [sb, se]⟩ :: L)) → Calls Pg 38 ⟨[] ++ [I y] ++ [ptr b 0]⟩ w fun e w' => e = .returned (.bool (!inR base.length y)) ∧ Hp w0 w' (L' ++ (⟨b, 25, [sb, se]⟩ :: L)) := by
        intro y w L' H
        apply F38_calls
        unfold F38
        refine lss_k (fun h => ?_) (fun h => ?_)
        · repeat (first | simp only [cI_enc, cE_enc, cN_enc, W0] | refine lss_a ?_ | refine lss_b ?_ | refine gtr_a ?_ | refine gtr_b ?_ | refine geq_a ?_ | refine geq_b ?_ | refine leq_a ?_ | refine leq_b ?_ | refine eql_a ?_ | refine eql_b ?_ | refine neq_a ?_ | refine neq_b ?_ | refine add_a ?_ | refine sub_a ?_ | refine ld_a ?_ | refine ldA_a ?_ | refine ldS_a ?_ | refine ldNS_a ?_ | refine rdA_s ?_ | refine rd1_s ?_ | refine drew_a fun w1 H1 => ?_ | refine st_a fun w1 H1 => ?_ | refine stA_a fun w1 H1 => ?_ | refine lenT_a ?_ | refine lenO_a ?_ | refine ixT_a ?_ | refine ixO_a ?_ | fail)
          exact ⟨by rw [inR, decide_eq_false fun h' => by omega]; rfl, H⟩
        · repeat (first | simp only [cI_enc, cE_enc, cN_enc, W0] | refine lss_a ?_ | refine lss_b ?_ | refine gtr_a ?_ | refine gtr_b ?_ | refine geq_a ?_ | refine geq_b ?_ | refine leq_a ?_ | refine leq_b ?_ | refine eql_a ?_ | refine eql_b ?_ | refine neq_a ?_ | refine neq_b ?_ | refine add_a ?_ | refine sub_a ?_ | refine ld_a ?_ | refine ldA_a ?_ | refine ldS_a ?_ | refine ldNS_a ?_ | refine rdA_s ?_ | refine rd1_s ?_ | refine drew_a fun w1 H1 => ?_ | refine st_a fun w1 H1 => ?_ | refine stA_a fun w1 H1 => ?_ | refine lenT_a ?_ | refine lenO_a ?_ | refine ixT_a ?_ | refine ixO_a ?_ | fail)
          refine geq_k (fun h => ?_) (fun h => ?_)
          · repeat (first | simp only [cI_enc, cE_enc, cN_enc, W0] | refine lss_a ?_ | refine lss_b ?_ | refine gtr_a ?_ | refine gtr_b ?_ | refine geq_a ?_ | refine geq_b ?_ | refine leq_a ?_ | refine leq_b ?_ | refine eql_a ?_ | refine eql_b ?_ | refine neq_a ?_ | refine neq_b ?_ | refine add_a ?_ | refine sub_a ?_ | refine ld_a ?_ | refine ldA_a ?_ | refine ldS_a ?_ | refine ldNS_a ?_ | refine rdA_s ?_ | refine rd1_s ?_ | refine drew_a fun w1 H1 => ?_ | refine st_a fun w1 H1 => ?_ | refine stA_a fun w1 H1 => ?_ | refine lenT_a ?_ | refine lenO_a ?_ | refine ixT_a ?_ | refine ixO_a ?_ | fail)
            exact ⟨by rw [inR, decide_eq_false fun h' => by omega]; rfl, H⟩
          · repeat (first | simp only [cI_enc, cE_enc, cN_enc, W0] | refine lss_a ?_ | refine lss_b ?_ | refine gtr_a ?_ | refine gtr_b ?_ | refine geq_a ?_ | refine geq_b ?_ | refine leq_a ?_ | refine leq_b ?_ | refine eql_a ?_ | refine eql_b ?_ | refine neq_a ?_ | refine neq_b ?_ | refine add_a ?_ | refine sub_a ?_ | refine ld_a ?_ | refine ldA_a ?_ | refine ldS_a ?_ | refine ldNS_a ?_ | refine rdA_s ?_ | refine rd1_s ?_ | refine drew_a fun w1 H1 => ?_ | refine st_a fun w1 H1 => ?_ | refine stA_a fun w1 H1 => ?_ | refine lenT_a ?_ | refine lenO_a ?_ | refine ixT_a ?_ | refine ixO_a ?_ | fail)
            exact ⟨by rw [inR, decide_eq_true ⟨by omega, by omega⟩]; rfl, H⟩
      apply F40_calls
      unfold F40
      refine bx_m H fun w b3 H => ?_
      repeat (first | simp only [cI_enc, cE_enc, cN_enc, W0] | refine lss_a ?_ | refine lss_b ?_ | refine gtr_a ?_ | refine gtr_b ?_ | refine geq_a ?_ | refine geq_b ?_ | refine leq_a ?_ | refine leq_b ?_ | refine eql_a ?_ | refine eql_b ?_ | refine neq_a ?_ | refine neq_b ?_ | refine add_a ?_ | refine sub_a ?_ | refine ld_a ?_ | refine ldA_a ?_ | refine ldS_a ?_ | refine ldNS_a ?_ | refine rdA_s ?_ | refine rd1_s ?_ | refine drew_a fun w1 H1 => ?_ | refine st_a fun w1 H1 => ?_ | refine stA_a fun w1 H1 => ?_ | refine lenT_a ?_ | refine lenO_a ?_ | refine ixT_a ?_ | refine ixO_a ?_ | fail)
      refine calD_k (by kernel_rfl) ?_
      refine cal_h (out (L' := [_, _]) H) ?_
      rintro _ w ⟨rfl, H⟩
      cases ha : inR base.length x.1 with
      | false =>
        repeat (first | simp only [cI_enc, cE_enc, cN_enc, W0] | refine lss_a ?_ | refine lss_b ?_ | refine gtr_a ?_ | refine gtr_b ?_ | refine geq_a ?_ | refine geq_b ?_ | refine leq_a ?_ | refine leq_b ?_ | refine eql_a ?_ | refine eql_b ?_ | refine neq_a ?_ | refine neq_b ?_ | refine add_a ?_ | refine sub_a ?_ | refine ld_a ?_ | refine ldA_a ?_ | refine ldS_a ?_ | refine ldNS_a ?_ | refine rdA_s ?_ | refine rd1_s ?_ | refine drew_a fun w1 H1 => ?_ | refine st_a fun w1 H1 => ?_ | refine stA_a fun w1 H1 => ?_ | refine lenT_a ?_ | refine lenO_a ?_ | refine ixT_a ?_ | refine ixO_a ?_ | fail)
        exact ⟨by simp [ha], H.tail⟩
      | true =>
        repeat (first | simp only [cI_enc, cE_enc, cN_enc, W0] | refine lss_a ?_ | refine lss_b ?_ | refine gtr_a ?_ | refine gtr_b ?_ | refine geq_a ?_ | refine geq_b ?_ | refine leq_a ?_ | refine leq_b ?_ | refine eql_a ?_ | refine eql_b ?_ | refine neq_a ?_ | refine neq_b ?_ | refine add_a ?_ | refine sub_a ?_ | refine ld_a ?_ | refine ldA_a ?_ | refine ldS_a ?_ | refine ldNS_a ?_ | refine rdA_s ?_ | refine rd1_s ?_ | refine drew_a fun w1 H1 => ?_ | refine st_a fun w1 H1 => ?_ | refine stA_a fun w1 H1 => ?_ | refine lenT_a ?_ | refine lenO_a ?_ | refine ixT_a ?_ | refine ixO_a ?_ | fail)
        refine calD_k (by kernel_rfl) ?_
        refine cal_h (out (L' := [_, _]) H) ?_
        rintro _ w ⟨rfl, H⟩
        repeat (first | simp only [cI_enc, cE_enc, cN_enc, W0] | refine lss_a ?_ | refine lss_b ?_ | refine gtr_a ?_ | refine gtr_b ?_ | refine geq_a ?_ | refine geq_b ?_ | refine leq_a ?_ | refine leq_b ?_ | refine eql_a ?_ | refine eql_b ?_ | refine neq_a ?_ | refine neq_b ?_ | refine add_a ?_ | refine sub_a ?_ | refine ld_a ?_ | refine ldA_a ?_ | refine ldS_a ?_ | refine ldNS_a ?_ | refine rdA_s ?_ | refine rd1_s ?_ | refine drew_a fun w1 H1 => ?_ | refine st_a fun w1 H1 => ?_ | refine stA_a fun w1 H1 => ?_ | refine lenT_a ?_ | refine lenO_a ?_ | refine ixT_a ?_ | refine ixO_a ?_ | fail)
        exact ⟨by simp [ha], H.tail⟩
    · rintro _ w ⟨⟨i, rfl, hi⟩, H⟩
      simp only [ret_k]
      rw [bin_geq]
      simp only [pv_some]
      exact ⟨by rw [hi], H⟩
  repeat (first | simp only [cI_enc, cE_enc, cN_enc, W0] | refine lss_a ?_ | refine lss_b ?_ | refine gtr_a ?_ | refine gtr_b ?_ | refine geq_a ?_ | refine geq_b ?_ | refine leq_a ?_ | refine leq_b ?_ | refine eql_a ?_ | refine eql_b ?_ | refine neq_a ?_ | refine neq_b ?_ | refine add_a ?_ | refine sub_a ?_ | refine ld_a ?_ | refine ldA_a ?_ | refine ldS_a ?_ | refine ldNS_a ?_ | refine rdA_s ?_ | refine rd1_s ?_ | refine drew_a fun w1 H1 => ?_ | refine st_a fun w1 H1 => ?_ | refine stA_a fun w1 H1 => ?_ | refine lenT_a ?_ | refine lenO_a ?_ | refine ixT_a ?_ | refine ixO_a ?_ | fail)
  refine cal_h (cont39 (by assumption)) ?_
  rintro _ w ⟨rfl, H⟩
  simp only [ret_k]
  refine cnd_k (fun hv => ?_) (fun hv => ?_)
  · refine ⟨?_, H.tail.tail⟩
    obtain ⟨x, hx, hp⟩ := List.any_eq_true.1 hv
    rw [c2, if_pos ⟨x, hx, by simpa using hp⟩]
  have c3 : chk base es = if ¬ es.Nodup then 38 else 0 := by
    rw [c2, if_neg]
    rintro ⟨x, hx, hb⟩
    have := List.any_eq_false.1 hv x hx
    simp at this; rcases hb with hb | hb
    · rw [this.1] at hb; cases hb
    · rw [this.2] at hb; cases hb
  unfold F16_j3
  refine make_m (key := kE) (val := Value.bool) H.tail fun w mb H => ?_
  unfold F16_j5
  repeat (first | simp only [cI_enc, cE_enc, cN_enc, W0] | refine lss_a ?_ | refine lss_b ?_ | refine gtr_a ?_ | refine gtr_b ?_ | refine geq_a ?_ | refine geq_b ?_ | refine leq_a ?_ | refine leq_b ?_ | refine eql_a ?_ | refine eql_b ?_ | refine neq_a ?_ | refine neq_b ?_ | refine add_a ?_ | refine sub_a ?_ | refine ld_a ?_ | refine ldA_a ?_ | refine ldS_a ?_ | refine ldNS_a ?_ | refine rdA_s ?_ | refine rd1_s ?_ | refine drew_a fun w1 H1 => ?_ | refine st_a fun w1 H1 => ?_ | refine stA_a fun w1 H1 => ?_ | refine lenT_a ?_ | refine lenO_a ?_ | refine ixT_a ?_ | refine ixO_a ?_ | fail)
  unfold F16_j6
  refine loop4 (F16_l1_succ _) (fun m x4 x27 x28 x29 w => ∃ i : Nat, ∃ ents clock, x4 = .map (some mb) ∧ x27 = se ∧ x28 = I (es.length : Int) ∧ x29 = I i ∧ m + i = es.length ∧ mkeys ents = es.take i ∧ (es.take i).Nodup ∧ (∀ e ∈ ents, e.2.1 = true) ∧ Hp w0 w (⟨mb, .o (mobj kE Value.bool ents clock), []⟩ :: ⟨b, 25, [sb, se]⟩ :: L)) ?_ (m := es.length)
    ⟨0, [], 0, rfl, rfl, rfl, rfl, rfl, rfl, by simp, by simp, H⟩
  clear H
  rintro m k _ se _ _ w ⟨i, ents, clock, rfl, rfl, rfl, rfl, hm, hks, hnd, htr, H⟩ hk
  unfold F16_b1
  refine lss_k (fun hi' => ?_) (fun hi' => ?_)
  · have hx : es[i]? = some es[i] := List.getElem?_eq_getElem (by omega)
    unfold F16_j7
    repeat (first | simp only [cI_enc, cE_enc, cN_enc, W0] | refine lss_a ?_ | refine lss_b ?_ | refine gtr_a ?_ | refine gtr_b ?_ | refine geq_a ?_ | refine geq_b ?_ | refine leq_a ?_ | refine leq_b ?_ | refine eql_a ?_ | refine eql_b ?_ | refine neq_a ?_ | refine neq_b ?_ | refine add_a ?_ | refine sub_a ?_ | refine ld_a ?_ | refine ldA_a ?_ | refine ldS_a ?_ | refine ldNS_a ?_ | refine rdA_s ?_ | refine rd1_s ?_ | refine drew_a fun w1 H1 => ?_ | refine st_a fun w1 H1 => ?_ | refine stA_a fun w1 H1 => ?_ | refine lenT_a ?_ | refine lenO_a ?_ | refine ixT_a ?_ | refine ixO_a ?_ | fail)
    refine ixN_t (C := cE) h2 H csub hx (by decide) ?_
    refine al39 H fun w b3 H => ?_
    repeat (first | simp only [cI_enc, cE_enc, cN_enc, W0] | refine lss_a ?_ | refine lss_b ?_ | refine gtr_a ?_ | refine gtr_b ?_ | refine geq_a ?_ | refine geq_b ?_ | refine leq_a ?_ | refine leq_b ?_ | refine eql_a ?_ | refine eql_b ?_ | refine neq_a ?_ | refine neq_b ?_ | refine add_a ?_ | refine sub_a ?_ | refine ld_a ?_ | refine ldA_a ?_ | refine ldS_a ?_ | refine ldNS_a ?_ | refine rdA_s ?_ | refine rd1_s ?_ | refine drew_a fun w1 H1 => ?_ | refine st_a fun w1 H1 => ?_ | refine stA_a fun w1 H1 => ?_ | refine lenT_a ?_ | refine lenO_a ?_ | refine ixT_a ?_ | refine ixO_a ?_ | fail)
    refine lookup_h mapE es[i] (by assumption) (by exact has) ?_
    cases hg : mget es[i] ents with
    | some v =>
      obtain ⟨nn, hmem⟩ := mget_some hg
      have hv' := htr _ hmem
      simp only at hv'; subst hv'
      simp only [lkv, Option.getD_some]
      repeat (first | simp only [cI_enc, cE_enc, cN_enc, W0] | refine lss_a ?_ | refine lss_b ?_ | refine gtr_a ?_ | refine gtr_b ?_ | refine geq_a ?_ | refine geq_b ?_ | refine leq_a ?_ | refine leq_b ?_ | refine eql_a ?_ | refine eql_b ?_ | refine neq_a ?_ | refine neq_b ?_ | refine add_a ?_ | refine sub_a ?_ | refine ld_a ?_ | refine ldA_a ?_ | refine ldS_a ?_ | refine ldNS_a ?_ | refine rdA_s ?_ | refine rd1_s ?_ | refine drew_a fun w1 H1 => ?_ | refine st_a fun w1 H1 => ?_ | refine stA_a fun w1 H1 => ?_ | refine lenT_a ?_ | refine lenO_a ?_ | refine ixT_a ?_ | refine ixO_a ?_ | fail)
      have H9 : Hp w0 w1 (⟨b3, 39, [I es[i].1, I es[i].2]⟩ :: ⟨mb, .o (mobj kE Value.bool ents clock), []⟩ :: ⟨b, 25, [sb, se]⟩ :: L) := by assumption
      refine ⟨?_, H9.tail.tail.tail⟩
      rw [c3, if_pos]
      intro hall
      have hin : es[i] ∈ mkeys ents := List.mem_map.2 ⟨_, hmem, rfl⟩
      rw [hks] at hin
      obtain ⟨j, hj, e⟩ := List.getElem_of_mem hin
      simp at hj e
      exact List.pairwise_iff_getElem.1 hall j i (by omega) (by omega) (by omega) e
    | none =>
      have hnot := mget_none.1 hg
      simp only [lkv, Option.getD_none]
      repeat (first | simp only [cI_enc, cE_enc, cN_enc, W0] | refine lss_a ?_ | refine lss_b ?_ | refine gtr_a ?_ | refine gtr_b ?_ | refine geq_a ?_ | refine geq_b ?_ | refine leq_a ?_ | refine leq_b ?_ | refine eql_a ?_ | refine eql_b ?_ | refine neq_a ?_ | refine neq_b ?_ | refine add_a ?_ | refine sub_a ?_ | refine ld_a ?_ | refine ldA_a ?_ | refine ldS_a ?_ | refine ldNS_a ?_ | refine rdA_s ?_ | refine rd1_s ?_ | refine drew_a fun w1 H1 => ?_ | refine st_a fun w1 H1 => ?_ | refine stA_a fun w1 H1 => ?_ | refine lenT_a ?_ | refine lenO_a ?_ | refine ixT_a ?_ | refine ixO_a ?_ | fail)
      obtain ⟨e1, e2⟩ := mput_new (v := true) (clock := clock) hnot
      refine put_h (ents := ents) (clock := clock) mapE es[i] true (by assumption) (by exact updd) fun w H => ?_
      rw [e1, e2] at H
      repeat (first | simp only [cI_enc, cE_enc, cN_enc, W0] | refine lss_a ?_ | refine lss_b ?_ | refine gtr_a ?_ | refine gtr_b ?_ | refine geq_a ?_ | refine geq_b ?_ | refine leq_a ?_ | refine leq_b ?_ | refine eql_a ?_ | refine eql_b ?_ | refine neq_a ?_ | refine neq_b ?_ | refine add_a ?_ | refine sub_a ?_ | refine ld_a ?_ | refine ldA_a ?_ | refine ldS_a ?_ | refine ldNS_a ?_ | refine rdA_s ?_ | refine rd1_s ?_ | refine drew_a fun w1 H1 => ?_ | refine st_a fun w1 H1 => ?_ | refine stA_a fun w1 H1 => ?_ | refine lenT_a ?_ | refine lenO_a ?_ | refine ixT_a ?_ | refine ixO_a ?_ | fail)
      refine hk (m - 1) _ _ _ _ _ (by omega) ⟨i + 1, _, _, rfl, rfl, rfl, rfl, by omega, ?_, ?_, ?_, H.tail⟩
      · rw [mkeys, List.map_append, List.take_add_one, hx, ← hks]; rfl
      · rw [List.take_add_one, hx]
        simp only [Option.toList_some]
        rw [List.nodup_append]
        refine ⟨hnd, by simp, fun a ha b hb => ?_⟩
        simp at hb; subst hb
        rintro rfl; rw [hks] at hnot; exact hnot ha
      · intro e he
        rcases List.mem_append.1 he with he | he
        · exact htr e he
        · simp at he; subst he; rfl
  · repeat (first | simp only [cI_enc, cE_enc, cN_enc, W0] | refine lss_a ?_ | refine lss_b ?_ | refine gtr_a ?_ | refine gtr_b ?_ | refine geq_a ?_ | refine geq_b ?_ | refine leq_a ?_ | refine leq_b ?_ | refine eql_a ?_ | refine eql_b ?_ | refine neq_a ?_ | refine neq_b ?_ | refine add_a ?_ | refine sub_a ?_ | refine ld_a ?_ | refine ldA_a ?_ | refine ldS_a ?_ | refine ldNS_a ?_ | refine rdA_s ?_ | refine rd1_s ?_ | refine drew_a fun w1 H1 => ?_ | refine st_a fun w1 H1 => ?_ | refine stA_a fun w1 H1 => ?_ | refine lenT_a ?_ | refine lenO_a ?_ | refine ixT_a ?_ | refine ixO_a ?_ | fail)
    unfold F16_j4
    rw [List.take_of_length_le (by omega)] at hnd
    exact ⟨by rw [c3, if_neg (by simpa using hnd)], H.tail.tail⟩
end
end Go.Proofs.Ytagcifbfokneoaa.Den
end

section
set_option linter.unusedVariables false
set_option linter.unusedSimpArgs false
set_option maxRecDepth 8000
namespace Go.Proofs.Ytagcifbfokneoaa.Den
open Go Go.RowKit
def cmpI (a b : Int) : Int := if a < b then -1 else if b < a then 1 else 0
def cmpE (a b : Int × Int) : Int := if a = b then 0 else if cmpI a.1 b.1 ≠ 0 then cmpI a.1 b.1 else cmpI a.2 b.2
section
variable {w w' w0 : World} {L L' F cs cs2 cs3 : List Chunk} {s s2 sb se sd : Value} {K : VK} {R : ER} {base d : List Int} {es : List (Int × Int)} {E : List (Nat × Nat)} {n f : Nat} {cap : List Value} {b : Nat}
theorem elN : ElT 23 39 cN.sz 16 [I 0, I 0] := ⟨by kernel_rfl, by kernel_rfl, rfl⟩
theorem isNaN_spec {x : Int} (H : Hp w0 w L) : Calls Pg 74 ⟨[I x]⟩ w fun e w' => e = .returned (.bool false) ∧ Hp w0 w' L := by
  apply F74_calls
  unfold F74
  repeat (first | simp only [cI_enc, cE_enc, cN_enc, W0] | refine lss_a ?_ | refine lss_b ?_ | refine gtr_a ?_ | refine gtr_b ?_ | refine geq_a ?_ | refine geq_b ?_ | refine leq_a ?_ | refine leq_b ?_ | refine eql_a ?_ | refine eql_b ?_ | refine neq_a ?_ | refine neq_b ?_ | refine add_a ?_ | refine sub_a ?_ | refine ld_a ?_ | refine ldA_a ?_ | refine ldS_a ?_ | refine ldNS_a ?_ | refine rdA_s ?_ | refine rd1_s ?_ | refine drew_a fun w1 H1 => ?_ | refine st_a fun w1 H1 => ?_ | refine stA_a fun w1 H1 => ?_ | refine lenT_a ?_ | refine lenO_a ?_ | refine ixT_a ?_ | refine ixO_a ?_ | fail)
  exact ⟨(by first | rfl | trivial), H⟩
theorem Compare_spec {a b : Int} (H : Hp w0 w L) : Calls Pg 70 ⟨[I a, I b]⟩ w fun e w' => e = .returned (I (cmpI a b)) ∧ Hp w0 w' L := by
  apply F70_calls
  unfold F70
  refine cal_h (isNaN_spec H) ?_
  rintro _ w ⟨rfl, H⟩
  simp only [ret_k]
  refine cal_h (isNaN_spec H) ?_
  rintro _ w ⟨rfl, H⟩
  repeat (first | simp only [cI_enc, cE_enc, cN_enc, W0] | refine lss_a ?_ | refine lss_b ?_ | refine gtr_a ?_ | refine gtr_b ?_ | refine geq_a ?_ | refine geq_b ?_ | refine leq_a ?_ | refine leq_b ?_ | refine eql_a ?_ | refine eql_b ?_ | refine neq_a ?_ | refine neq_b ?_ | refine add_a ?_ | refine sub_a ?_ | refine ld_a ?_ | refine ldA_a ?_ | refine ldS_a ?_ | refine ldNS_a ?_ | refine rdA_s ?_ | refine rd1_s ?_ | refine drew_a fun w1 H1 => ?_ | refine st_a fun w1 H1 => ?_ | refine stA_a fun w1 H1 => ?_ | refine lenT_a ?_ | refine lenO_a ?_ | refine ixT_a ?_ | refine ixO_a ?_ | fail)
  unfold F70_j1
  repeat (first | simp only [cI_enc, cE_enc, cN_enc, W0] | refine lss_a ?_ | refine lss_b ?_ | refine gtr_a ?_ | refine gtr_b ?_ | refine geq_a ?_ | refine geq_b ?_ | refine leq_a ?_ | refine leq_b ?_ | refine eql_a ?_ | refine eql_b ?_ | refine neq_a ?_ | refine neq_b ?_ | refine add_a ?_ | refine sub_a ?_ | refine ld_a ?_ | refine ldA_a ?_ | refine ldS_a ?_ | refine ldNS_a ?_ | refine rdA_s ?_ | refine rd1_s ?_ | refine drew_a fun w1 H1 => ?_ | refine st_a fun w1 H1 => ?_ | refine stA_a fun w1 H1 => ?_ | refine lenT_a ?_ | refine lenO_a ?_ | refine ixT_a ?_ | refine ixO_a ?_ | fail)
  refine lss_k (fun h => ?_) (fun h => ?_)
  · repeat (first | simp only [cI_enc, cE_enc, cN_enc, W0] | refine lss_a ?_ | refine lss_b ?_ | refine gtr_a ?_ | refine gtr_b ?_ | refine geq_a ?_ | refine geq_b ?_ | refine leq_a ?_ | refine leq_b ?_ | refine eql_a ?_ | refine eql_b ?_ | refine neq_a ?_ | refine neq_b ?_ | refine add_a ?_ | refine sub_a ?_ | refine ld_a ?_ | refine ldA_a ?_ | refine ldS_a ?_ | refine ldNS_a ?_ | refine rdA_s ?_ | refine rd1_s ?_ | refine drew_a fun w1 H1 => ?_ | refine st_a fun w1 H1 => ?_ | refine stA_a fun w1 H1 => ?_ | refine lenT_a ?_ | refine lenO_a ?_ | refine ixT_a ?_ | refine ixO_a ?_ | fail)
    exact ⟨by rw [cmpI, if_pos h], H⟩
  · repeat (first | simp only [cI_enc, cE_enc, cN_enc, W0] | refine lss_a ?_ | refine lss_b ?_ | refine gtr_a ?_ | refine gtr_b ?_ | refine geq_a ?_ | refine geq_b ?_ | refine leq_a ?_ | refine leq_b ?_ | refine eql_a ?_ | refine eql_b ?_ | refine neq_a ?_ | refine neq_b ?_ | refine add_a ?_ | refine sub_a ?_ | refine ld_a ?_ | refine ldA_a ?_ | refine ldS_a ?_ | refine ldNS_a ?_ | refine rdA_s ?_ | refine rd1_s ?_ | refine drew_a fun w1 H1 => ?_ | refine st_a fun w1 H1 => ?_ | refine stA_a fun w1 H1 => ?_ | refine lenT_a ?_ | refine lenO_a ?_ | refine ixT_a ?_ | refine ixO_a ?_ | fail)
    refine gtr_k (fun h2 => ?_) (fun h2 => ?_)
    · repeat (first | simp only [cI_enc, cE_enc, cN_enc, W0] | refine lss_a ?_ | refine lss_b ?_ | refine gtr_a ?_ | refine gtr_b ?_ | refine geq_a ?_ | refine geq_b ?_ | refine leq_a ?_ | refine leq_b ?_ | refine eql_a ?_ | refine eql_b ?_ | refine neq_a ?_ | refine neq_b ?_ | refine add_a ?_ | refine sub_a ?_ | refine ld_a ?_ | refine ldA_a ?_ | refine ldS_a ?_ | refine ldNS_a ?_ | refine rdA_s ?_ | refine rd1_s ?_ | refine drew_a fun w1 H1 => ?_ | refine st_a fun w1 H1 => ?_ | refine stA_a fun w1 H1 => ?_ | refine lenT_a ?_ | refine lenO_a ?_ | refine ixT_a ?_ | refine ixO_a ?_ | fail)
      exact ⟨by rw [cmpI, if_neg h, if_pos h2], H⟩
    · repeat (first | simp only [cI_enc, cE_enc, cN_enc, W0] | refine lss_a ?_ | refine lss_b ?_ | refine gtr_a ?_ | refine gtr_b ?_ | refine geq_a ?_ | refine geq_b ?_ | refine leq_a ?_ | refine leq_b ?_ | refine eql_a ?_ | refine eql_b ?_ | refine neq_a ?_ | refine neq_b ?_ | refine add_a ?_ | refine sub_a ?_ | refine ld_a ?_ | refine ldA_a ?_ | refine ldS_a ?_ | refine ldNS_a ?_ | refine rdA_s ?_ | refine rd1_s ?_ | refine drew_a fun w1 H1 => ?_ | refine st_a fun w1 H1 => ?_ | refine stA_a fun w1 H1 => ?_ | refine lenT_a ?_ | refine lenO_a ?_ | refine ixT_a ?_ | refine ixO_a ?_ | fail)
      exact ⟨by rw [cmpI, if_neg h, if_neg h2], H⟩
theorem Or_spec {a b : Int} (h : TR cI w0 cs s [a, b]) (H : Hp w0 w L) (m1 : ∀ c ∈ cs, c ∈ L) : Calls Pg 69 ⟨[s]⟩ w fun e w' => e = .returned (I (if a ≠ 0 then a else b)) ∧ Hp w0 w' L := by
  apply F69_calls
  unfold F69 F69_j2 F69_j3
  repeat (first | simp only [cI_enc, cE_enc, cN_enc, W0] | refine lss_a ?_ | refine lss_b ?_ | refine gtr_a ?_ | refine gtr_b ?_ | refine geq_a ?_ | refine geq_b ?_ | refine leq_a ?_ | refine leq_b ?_ | refine eql_a ?_ | refine eql_b ?_ | refine neq_a ?_ | refine neq_b ?_ | refine add_a ?_ | refine sub_a ?_ | refine ld_a ?_ | refine ldA_a ?_ | refine ldS_a ?_ | refine ldNS_a ?_ | refine rdA_s ?_ | refine rd1_s ?_ | refine drew_a fun w1 H1 => ?_ | refine st_a fun w1 H1 => ?_ | refine stA_a fun w1 H1 => ?_ | refine lenT_a ?_ | refine lenO_a ?_ | refine ixT_a ?_ | refine ixO_a ?_ | fail)
  refine loop4 (F69_l1_succ _) (fun m x3 x6 x7 x8 w => ∃ i : Nat, x3 = I 0 ∧ x6 = s ∧ x7 = I 2 ∧ x8 = I i ∧ m + i = 2 ∧ (1 ≤ i → a = 0) ∧ (2 ≤ i → b = 0) ∧ Hp w0 w L) ?_ (m := 2) ⟨0, rfl, rfl, rfl, rfl, rfl, by omega, by omega, H⟩
  clear H
  rintro m k _ s _ _ w ⟨i, rfl, rfl, rfl, rfl, hm, ha, hb, H⟩ hk
  unfold F69_b1
  have : i = 0 ∨ i = 1 ∨ i = 2 := by omega
  rcases this with rfl | rfl | rfl
  · have hx : ([a, b] : List Int)[0]? = some a := rfl
    repeat (first | simp only [cI_enc, cE_enc, cN_enc, W0] | refine lss_a ?_ | refine lss_b ?_ | refine gtr_a ?_ | refine gtr_b ?_ | refine geq_a ?_ | refine geq_b ?_ | refine leq_a ?_ | refine leq_b ?_ | refine eql_a ?_ | refine eql_b ?_ | refine neq_a ?_ | refine neq_b ?_ | refine add_a ?_ | refine sub_a ?_ | refine ld_a ?_ | refine ldA_a ?_ | refine ldS_a ?_ | refine ldNS_a ?_ | refine rdA_s ?_ | refine rd1_s ?_ | refine drew_a fun w1 H1 => ?_ | refine st_a fun w1 H1 => ?_ | refine stA_a fun w1 H1 => ?_ | refine lenT_a ?_ | refine lenO_a ?_ | refine ixT_a ?_ | refine ixO_a ?_ | fail)
    refine neq_k (fun h => ?_) (fun h => ?_)
    · repeat (first | simp only [cI_enc, cE_enc, cN_enc, W0] | refine lss_a ?_ | refine lss_b ?_ | refine gtr_a ?_ | refine gtr_b ?_ | refine geq_a ?_ | refine geq_b ?_ | refine leq_a ?_ | refine leq_b ?_ | refine eql_a ?_ | refine eql_b ?_ | refine neq_a ?_ | refine neq_b ?_ | refine add_a ?_ | refine sub_a ?_ | refine ld_a ?_ | refine ldA_a ?_ | refine ldS_a ?_ | refine ldNS_a ?_ | refine rdA_s ?_ | refine rd1_s ?_ | refine drew_a fun w1 H1 => ?_ | refine st_a fun w1 H1 => ?_ | refine stA_a fun w1 H1 => ?_ | refine lenT_a ?_ | refine lenO_a ?_ | refine ixT_a ?_ | refine ixO_a ?_ | fail)
      exact ⟨by rw [if_pos h], H⟩
    · repeat (first | simp only [cI_enc, cE_enc, cN_enc, W0] | refine lss_a ?_ | refine lss_b ?_ | refine gtr_a ?_ | refine gtr_b ?_ | refine geq_a ?_ | refine geq_b ?_ | refine leq_a ?_ | refine leq_b ?_ | refine eql_a ?_ | refine eql_b ?_ | refine neq_a ?_ | refine neq_b ?_ | refine add_a ?_ | refine sub_a ?_ | refine ld_a ?_ | refine ldA_a ?_ | refine ldS_a ?_ | refine ldNS_a ?_ | refine rdA_s ?_ | refine rd1_s ?_ | refine drew_a fun w1 H1 => ?_ | refine st_a fun w1 H1 => ?_ | refine stA_a fun w1 H1 => ?_ | refine lenT_a ?_ | refine lenO_a ?_ | refine ixT_a ?_ | refine ixO_a ?_ | fail)
      exact hk (m - 1) _ _ _ _ _ (by omega) ⟨1, rfl, rfl, rfl, rfl, by omega, fun _ => h, by omega, H⟩
  · have hx : ([a, b] : List Int)[1]? = some b := rfl
    have ha := ha (by omega)
    repeat (first | simp only [cI_enc, cE_enc, cN_enc, W0] | refine lss_a ?_ | refine lss_b ?_ | refine gtr_a ?_ | refine gtr_b ?_ | refine geq_a ?_ | refine geq_b ?_ | refine leq_a ?_ | refine leq_b ?_ | refine eql_a ?_ | refine eql_b ?_ | refine neq_a ?_ | refine neq_b ?_ | refine add_a ?_ | refine sub_a ?_ | refine ld_a ?_ | refine ldA_a ?_ | refine ldS_a ?_ | refine ldNS_a ?_ | refine rdA_s ?_ | refine rd1_s ?_ | refine drew_a fun w1 H1 => ?_ | refine st_a fun w1 H1 => ?_ | refine stA_a fun w1 H1 => ?_ | refine lenT_a ?_ | refine lenO_a ?_ | refine ixT_a ?_ | refine ixO_a ?_ | fail)
    refine neq_k (fun h => ?_) (fun h => ?_)
    · repeat (first | simp only [cI_enc, cE_enc, cN_enc, W0] | refine lss_a ?_ | refine lss_b ?_ | refine gtr_a ?_ | refine gtr_b ?_ | refine geq_a ?_ | refine geq_b ?_ | refine leq_a ?_ | refine leq_b ?_ | refine eql_a ?_ | refine eql_b ?_ | refine neq_a ?_ | refine neq_b ?_ | refine add_a ?_ | refine sub_a ?_ | refine ld_a ?_ | refine ldA_a ?_ | refine ldS_a ?_ | refine ldNS_a ?_ | refine rdA_s ?_ | refine rd1_s ?_ | refine drew_a fun w1 H1 => ?_ | refine st_a fun w1 H1 => ?_ | refine stA_a fun w1 H1 => ?_ | refine lenT_a ?_ | refine lenO_a ?_ | refine ixT_a ?_ | refine ixO_a ?_ | fail)
      exact ⟨by rw [if_neg (by omega)], H⟩
    · repeat (first | simp only [cI_enc, cE_enc, cN_enc, W0] | refine lss_a ?_ | refine lss_b ?_ | refine gtr_a ?_ | refine gtr_b ?_ | refine geq_a ?_ | refine geq_b ?_ | refine leq_a ?_ | refine leq_b ?_ | refine eql_a ?_ | refine eql_b ?_ | refine neq_a ?_ | refine neq_b ?_ | refine add_a ?_ | refine sub_a ?_ | refine ld_a ?_ | refine ldA_a ?_ | refine ldS_a ?_ | refine ldNS_a ?_ | refine rdA_s ?_ | refine rd1_s ?_ | refine drew_a fun w1 H1 => ?_ | refine st_a fun w1 H1 => ?_ | refine stA_a fun w1 H1 => ?_ | refine lenT_a ?_ | refine lenO_a ?_ | refine ixT_a ?_ | refine ixO_a ?_ | fail)
      exact hk (m - 1) _ _ _ _ _ (by omega) ⟨2, rfl, rfl, rfl, rfl, by omega, fun _ => ha, fun _ => h, H⟩
  · repeat (first | simp only [cI_enc, cE_enc, cN_enc, W0] | refine lss_a ?_ | refine lss_b ?_ | refine gtr_a ?_ | refine gtr_b ?_ | refine geq_a ?_ | refine geq_b ?_ | refine leq_a ?_ | refine leq_b ?_ | refine eql_a ?_ | refine eql_b ?_ | refine neq_a ?_ | refine neq_b ?_ | refine add_a ?_ | refine sub_a ?_ | refine ld_a ?_ | refine ldA_a ?_ | refine ldS_a ?_ | refine ldNS_a ?_ | refine rdA_s ?_ | refine rd1_s ?_ | refine drew_a fun w1 H1 => ?_ | refine st_a fun w1 H1 => ?_ | refine stA_a fun w1 H1 => ?_ | refine lenT_a ?_ | refine lenO_a ?_ | refine ixT_a ?_ | refine ixO_a ?_ | fail)
    unfold F69_j1
    exact ⟨by rw [if_neg (by simpa using ha (by omega)), hb (by omega)], H⟩
theorem order_spec {a b : Int × Int} (H : Hp w0 w L) : Calls Pg 64 ⟨[kE a, kE b]⟩ w fun e w' => e = .returned (I (cmpE a b)) ∧ Hp w0 w' L := by
  apply F64_calls
  unfold F64
  refine bx_m H fun w b1 H => ?_
  refine bx_m H fun w b2 H => ?_
  repeat (first | simp only [cI_enc, cE_enc, cN_enc, W0] | refine lss_a ?_ | refine lss_b ?_ | refine gtr_a ?_ | refine gtr_b ?_ | refine geq_a ?_ | refine geq_b ?_ | refine leq_a ?_ | refine leq_b ?_ | refine eql_a ?_ | refine eql_b ?_ | refine neq_a ?_ | refine neq_b ?_ | refine add_a ?_ | refine sub_a ?_ | refine ld_a ?_ | refine ldA_a ?_ | refine ldS_a ?_ | refine ldNS_a ?_ | refine rdA_s ?_ | refine rd1_s ?_ | refine drew_a fun w1 H1 => ?_ | refine st_a fun w1 H1 => ?_ | refine stA_a fun w1 H1 => ?_ | refine lenT_a ?_ | refine lenO_a ?_ | refine ixT_a ?_ | refine ixO_a ?_ | fail)
  refine pv_of (eqE _ _ _ _) ?_
  refine cnd_k (fun h => ?_) (fun h => ?_)
  · have : a = b := of_decide_eq_true h
    exact ⟨by rw [cmpE, if_pos this], H.tail.tail⟩
  · have hne : a ≠ b := of_decide_eq_false h
    unfold F64_j1
    repeat (first | simp only [cI_enc, cE_enc, cN_enc, W0] | refine lss_a ?_ | refine lss_b ?_ | refine gtr_a ?_ | refine gtr_b ?_ | refine geq_a ?_ | refine geq_b ?_ | refine leq_a ?_ | refine leq_b ?_ | refine eql_a ?_ | refine eql_b ?_ | refine neq_a ?_ | refine neq_b ?_ | refine add_a ?_ | refine sub_a ?_ | refine ld_a ?_ | refine ldA_a ?_ | refine ldS_a ?_ | refine ldNS_a ?_ | refine rdA_s ?_ | refine rd1_s ?_ | refine drew_a fun w1 H1 => ?_ | refine st_a fun w1 H1 => ?_ | refine stA_a fun w1 H1 => ?_ | refine lenT_a ?_ | refine lenO_a ?_ | refine ixT_a ?_ | refine ixO_a ?_ | fail)
    refine cal_h (Compare_spec (by assumption)) ?_
    rintro _ w2 ⟨rfl, H2⟩
    repeat (first | simp only [cI_enc, cE_enc, cN_enc, W0] | refine lss_a ?_ | refine lss_b ?_ | refine gtr_a ?_ | refine gtr_b ?_ | refine geq_a ?_ | refine geq_b ?_ | refine leq_a ?_ | refine leq_b ?_ | refine eql_a ?_ | refine eql_b ?_ | refine neq_a ?_ | refine neq_b ?_ | refine add_a ?_ | refine sub_a ?_ | refine ld_a ?_ | refine ldA_a ?_ | refine ldS_a ?_ | refine ldNS_a ?_ | refine rdA_s ?_ | refine rd1_s ?_ | refine drew_a fun w1 H1 => ?_ | refine st_a fun w1 H1 => ?_ | refine stA_a fun w1 H1 => ?_ | refine lenT_a ?_ | refine lenO_a ?_ | refine ixT_a ?_ | refine ixO_a ?_ | fail)
    refine cal_h (Compare_spec (by assumption)) ?_
    rintro _ w3 ⟨rfl, H3⟩
    repeat (first | simp only [cI_enc, cE_enc, cN_enc, W0] | refine lss_a ?_ | refine lss_b ?_ | refine gtr_a ?_ | refine gtr_b ?_ | refine geq_a ?_ | refine geq_b ?_ | refine leq_a ?_ | refine leq_b ?_ | refine eql_a ?_ | refine eql_b ?_ | refine neq_a ?_ | refine neq_b ?_ | refine add_a ?_ | refine sub_a ?_ | refine ld_a ?_ | refine ldA_a ?_ | refine ldS_a ?_ | refine ldNS_a ?_ | refine rdA_s ?_ | refine rd1_s ?_ | refine drew_a fun w1 H1 => ?_ | refine st_a fun w1 H1 => ?_ | refine stA_a fun w1 H1 => ?_ | refine lenT_a ?_ | refine lenO_a ?_ | refine ixT_a ?_ | refine ixO_a ?_ | fail)
    refine lit_h (r := [I (cmpI a.1 b.1), I (cmpI a.2 b.2)]) elI H3 (by decide) (by decide) rfl fun w4 b4 H4 => ?_
    have ht : TR cI w0 [⟨b4, 3, [I (cmpI a.1 b.1), I (cmpI a.2 b.2)]⟩] (.slice (some ⟨b4, 0, none⟩) 2 2) [cmpI a.1 b.1, cmpI a.2 b.2] :=
      (TS.mk (C := cI) (el := 3) (xs := [cmpI a.1 b.1, cmpI a.2 b.2]) (b := b4) (cap := 2) (n := 2) (rest := []) rfl (Nat.le_refl _) rfl).tr
    repeat (first | simp only [cI_enc, cE_enc, cN_enc, W0] | refine lss_a ?_ | refine lss_b ?_ | refine gtr_a ?_ | refine gtr_b ?_ | refine geq_a ?_ | refine geq_b ?_ | refine leq_a ?_ | refine leq_b ?_ | refine eql_a ?_ | refine eql_b ?_ | refine neq_a ?_ | refine neq_b ?_ | refine add_a ?_ | refine sub_a ?_ | refine ld_a ?_ | refine ldA_a ?_ | refine ldS_a ?_ | refine ldNS_a ?_ | refine rdA_s ?_ | refine rd1_s ?_ | refine drew_a fun w1 H1 => ?_ | refine st_a fun w1 H1 => ?_ | refine stA_a fun w1 H1 => ?_ | refine lenT_a ?_ | refine lenO_a ?_ | refine ixT_a ?_ | refine ixO_a ?_ | fail)
    refine cal_h (Or_spec ht H4 csub) ?_
    rintro _ w5 ⟨rfl, H5⟩
    exact ⟨by rw [cmpE, if_neg hne], H5.tail.tail.tail⟩
theorem Hp.putO {b : Nat} {o o' : Obj} (H : Hp w0 w L) (hu : Upd L b (.o o) [] (.o o') [] L') : Hp w0 (w.putObj b o') L' :=
  H.updU hu (World.putObj_heap_same (heap_lt (H.blk _ hu.has).2)) (Ext.putO (w := w) b o')
theorem ySeq_spec (h : TR cN w0 cs s E) (H : Hp w0 w (⟨b, 23, [s]⟩ :: L)) (m1 : ∀ c ∈ cs, c ∈ L) (hl : E.length ≤ 4000) :
    Calls Pg 73 ⟨[.slice none 0 0, .func (.func 68) ⟨[]⟩ ⟨[ptr b 0]⟩]⟩ w fun e w' => ∃ s' cs', e = .returned s' ∧ Hp w0 w' (cs' ++ L) ∧ TS cN 39 s' E cs' := by
  apply F73_calls
  unfold F73
  refine bxs_h H rfl fun w b2 H => ?_
  unfold F73_rf
  intro rc w1 hw1 hY
  subst hw1
  obtain ⟨D, hD⟩ : ∃ D, D = w.heap.size := ⟨_, rfl⟩
  have H1 := H.newO (o := .deferred (some []))
  have H2 := H1.newO (o := .loop rc)
  have hsz : (w.alloc (.deferred (some []))).heap.size = w.heap.size + 1 := by simp
  rw [hsz, ← hD] at H2
  rw [← hD] at hY ⊢
  generalize (w.alloc (.deferred (some []))).alloc (.loop rc) = w1 at H2 ⊢
  clear H H1 hsz hD
  refine ⟨by kernel_rfl, ?_⟩
  rw [show ((⟨[]⟩ ++ ⟨[yv (D + 1)]⟩ ++ ⟨[ptr b 0]⟩ : Array Value)) = ⟨[yv (D + 1), ptr b 0]⟩ from rfl]
  apply F68_calls
  unfold F68
  repeat (first | simp only [cI_enc, cE_enc, cN_enc, W0] | refine lss_a ?_ | refine lss_b ?_ | refine gtr_a ?_ | refine gtr_b ?_ | refine geq_a ?_ | refine geq_b ?_ | refine leq_a ?_ | refine leq_b ?_ | refine eql_a ?_ | refine eql_b ?_ | refine neq_a ?_ | refine neq_b ?_ | refine add_a ?_ | refine sub_a ?_ | refine ld_a ?_ | refine ldA_a ?_ | refine ldS_a ?_ | refine ldNS_a ?_ | refine rdA_s ?_ | refine rd1_s ?_ | refine drew_a fun w1 H1 => ?_ | refine st_a fun w1 H1 => ?_ | refine stA_a fun w1 H1 => ?_ | refine lenT_a ?_ | refine lenO_a ?_ | refine ixT_a ?_ | refine ixO_a ?_ | fail)
  unfold F68_j1
  refine loop4 (F68_l1_succ _) (fun m x0 x5 x6 x7 w => ∃ i : Nat, ∃ s' cs', x0 = yv (D + 1) ∧ x5 = s ∧ x6 = I (E.length : Int) ∧ x7 = I i ∧ m + i = E.length ∧ TS cN 39 s' (E.take i) cs' ∧
      Hp w0 w (⟨D + 1, .o (.loop rc), []⟩ :: ⟨D, .o (.deferred (some [])), []⟩ :: ⟨b2, 23, [s']⟩ :: (cs' ++ (⟨b, 23, [s]⟩ :: L)))) ?_ (m := E.length) ⟨0, .slice none 0 0, [], rfl, rfl, rfl, rfl, rfl, TS.nil, H2⟩
  clear H2
  rintro m k _ s _ _ w ⟨i, s', cs', rfl, rfl, rfl, rfl, hm, hs', H⟩ hk
  unfold F68_b1
  refine lss_k (fun hi => ?_) (fun hi => ?_)
  · have hx : E[i]? = some E[i] := List.getElem?_eq_getElem (by omega)
    repeat (first | simp only [cI_enc, cE_enc, cN_enc, W0] | refine lss_a ?_ | refine lss_b ?_ | refine gtr_a ?_ | refine gtr_b ?_ | refine geq_a ?_ | refine geq_b ?_ | refine leq_a ?_ | refine leq_b ?_ | refine eql_a ?_ | refine eql_b ?_ | refine neq_a ?_ | refine neq_b ?_ | refine add_a ?_ | refine sub_a ?_ | refine ld_a ?_ | refine ldA_a ?_ | refine ldS_a ?_ | refine ldNS_a ?_ | refine rdA_s ?_ | refine rd1_s ?_ | refine drew_a fun w1 H1 => ?_ | refine st_a fun w1 H1 => ?_ | refine stA_a fun w1 H1 => ?_ | refine lenT_a ?_ | refine lenO_a ?_ | refine ixT_a ?_ | refine ixO_a ?_ | fail)
    refine ixN_t (C := cN) h H csub hx (by decide) ?_
    refine al39 H fun w b3 H => ?_
    refine stA_m H Upd.here rfl rfl (by intro c hc; simp [cN] at hc; rcases hc with rfl | rfl <;> rfl) fun w H => ?_
    refine ldA_m H Has.here rfl ?_
    refine hY _ [.agg ⟨[I (E[i].1 : Int), I (E[i].2 : Int)]⟩] _ _ ?_ ?_
    · exact (H.blk ⟨D + 1, .o (.loop rc), []⟩ (by simp)).2
    · show F73_rb (ptr b2 0) (.slice none 0 0) (.func (.func 68) ⟨[]⟩ ⟨[ptr b 0]⟩) _ _ _ _ _ w
      unfold F73_rb
      refine al39 H fun w b4 H => ?_
      refine stA_m H Upd.here rfl rfl (by intro c hc; simp at hc; rcases hc with rfl | rfl <;> rfl) fun w H => ?_
      refine ⟨(H.blk ⟨D + 1, .o (.loop rc), []⟩ (by simp)).2, ?_⟩
      have H := H.putO (b := D + 1) (o' := busyRec rc) (by exact updd)
      generalize w.putObj (D + 1) (busyRec rc) = w at H ⊢
      unfold F73_b1
      refine ld_m H (by exact has) rfl ?_
      refine ldA_m H Has.here rfl ?_
      refine app1_t (C := cN) (x := E[i]) elN H hs' spl rfl (by decide) (by simp; omega) (by simp; omega) fun w s2 cs2 H hs2 => ?_
      refine st_m H (by exact updd) (by simp) hs2.sc fun w H => ?_
      refine ⟨(H.blk ⟨D + 1, .o (busyRec rc), []⟩ (by simp)).2, ?_⟩
      have H := H.putO (b := D + 1) (o' := .loop rc) (by exact updd)
      generalize w.putObj (D + 1) (.loop rc) = w at H ⊢
      repeat (first | simp only [cI_enc, cE_enc, cN_enc, W0] | refine lss_a ?_ | refine lss_b ?_ | refine gtr_a ?_ | refine gtr_b ?_ | refine geq_a ?_ | refine geq_b ?_ | refine leq_a ?_ | refine leq_b ?_ | refine eql_a ?_ | refine eql_b ?_ | refine neq_a ?_ | refine neq_b ?_ | refine add_a ?_ | refine sub_a ?_ | refine ld_a ?_ | refine ldA_a ?_ | refine ldS_a ?_ | refine ldNS_a ?_ | refine rdA_s ?_ | refine rd1_s ?_ | refine drew_a fun w1 H1 => ?_ | refine st_a fun w1 H1 => ?_ | refine stA_a fun w1 H1 => ?_ | refine lenT_a ?_ | refine lenO_a ?_ | refine ixT_a ?_ | refine ixO_a ?_ | fail)
      refine hk (m - 1) _ _ _ _ _ (by omega) ⟨i + 1, s2, cs2, rfl, rfl, rfl, rfl, by omega, ?_, H.re⟩
      rw [List.take_add_one, hx]; exact hs2
  · repeat (first | simp only [cI_enc, cE_enc, cN_enc, W0] | refine lss_a ?_ | refine lss_b ?_ | refine gtr_a ?_ | refine gtr_b ?_ | refine geq_a ?_ | refine geq_b ?_ | refine leq_a ?_ | refine leq_b ?_ | refine eql_a ?_ | refine eql_b ?_ | refine neq_a ?_ | refine neq_b ?_ | refine add_a ?_ | refine sub_a ?_ | refine ld_a ?_ | refine ldA_a ?_ | refine ldS_a ?_ | refine ldNS_a ?_ | refine rdA_s ?_ | refine rd1_s ?_ | refine drew_a fun w1 H1 => ?_ | refine st_a fun w1 H1 => ?_ | refine stA_a fun w1 H1 => ?_ | refine lenT_a ?_ | refine lenO_a ?_ | refine ixT_a ?_ | refine ixO_a ?_ | fail)
    refine .inl ⟨(H.blk ⟨D + 1, .o (.loop rc), []⟩ (by simp)).2, ?_⟩
    have H := H.putO (b := D + 1) (o' := overRec rc) (by exact updd)
    generalize w.putObj (D + 1) (overRec rc) = w at H ⊢
    unfold F73_af
    refine ld_m H (by exact has) rfl ?_
    refine ⟨(H.blk ⟨D, .o (.deferred (some [])), []⟩ (by simp)).2, ?_⟩
    have H := H.putO (b := D) (o' := .deferred none) (by exact updd)
    generalize w.putObj D (.deferred none) = w at H ⊢
    rw [List.take_of_length_le (by omega)] at hs'
    exact ⟨s', cs', rfl, H.re, hs'⟩
end
end Go.Proofs.Ytagcifbfokneoaa.Den
end
