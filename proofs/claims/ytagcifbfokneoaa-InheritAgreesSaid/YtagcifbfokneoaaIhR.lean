/- Inherit: the law's examples, Few, From. Conditions: none. -/
import Derived.Test.YtagcifbfokneoaaIhQ
set_option linter.unusedVariables false
set_option linter.unusedSimpArgs false
set_option maxRecDepth 8000
namespace Go.Proofs.Ytagcifbfokneoaa.Den
open Go Go.RowKit
section
variable {w w' w0 : World} {L L' F cs cs2 cs3 : List Chunk} {s s2 sb se sd : Value} {K : VK} {R : ER} {base d out : List Int} {E E' : List (Nat × Nat)} {es : List (Int × Int)} {n to i u x : Nat}
theorem toI {l : List Nat} (h : TR cU w0 cs s l) : TR cI w0 cs s (l.map fun n : Nat => (n : Int)) := h.recode rfl (by simp) (by simp [Cod.all, List.map_map]; rfl)
theorem Few_spec (h1 : TR cI w0 cs sb base) (h2 : TR cE w0 cs2 se es) (H : Hp w0 w L) : Calls Pg 11 ⟨[sb, se]⟩ w fun x w' => x = .returned (.bool (decide (base.length ≤ 30 ∧ es.length ≤ 60))) ∧ Hp w0 w' L := by
  apply F11_calls
  unfold F11
  repeat (first | simp only [cI_enc, cE_enc, cN_enc, W0] | refine lss_a ?_ | refine lss_b ?_ | refine gtr_a ?_ | refine gtr_b ?_ | refine geq_a ?_ | refine geq_b ?_ | refine leq_a ?_ | refine leq_b ?_ | refine eql_a ?_ | refine eql_b ?_ | refine neq_a ?_ | refine neq_b ?_ | refine add_a ?_ | refine sub_a ?_ | refine ld_a ?_ | refine ldA_a ?_ | refine ldS_a ?_ | refine ldNS_a ?_ | refine rdA_s ?_ | refine rd1_s ?_ | refine drew_a fun w1 H1 => ?_ | refine st_a fun w1 H1 => ?_ | refine stA_a fun w1 H1 => ?_ | refine lenT_a ?_ | refine lenO_a ?_ | refine ixT_a ?_ | refine ixO_a ?_ | fail)
  refine leq_k (fun h => ?_) (fun h => ?_)
  · repeat (first | simp only [cI_enc, cE_enc, cN_enc, W0] | refine lss_a ?_ | refine lss_b ?_ | refine gtr_a ?_ | refine gtr_b ?_ | refine geq_a ?_ | refine geq_b ?_ | refine leq_a ?_ | refine leq_b ?_ | refine eql_a ?_ | refine eql_b ?_ | refine neq_a ?_ | refine neq_b ?_ | refine add_a ?_ | refine sub_a ?_ | refine ld_a ?_ | refine ldA_a ?_ | refine ldS_a ?_ | refine ldNS_a ?_ | refine rdA_s ?_ | refine rd1_s ?_ | refine drew_a fun w1 H1 => ?_ | refine st_a fun w1 H1 => ?_ | refine stA_a fun w1 H1 => ?_ | refine lenT_a ?_ | refine lenO_a ?_ | refine ixT_a ?_ | refine ixO_a ?_ | fail)
    refine leq_k (fun h2 => ?_) (fun h2 => ?_)
    · repeat (first | simp only [cI_enc, cE_enc, cN_enc, W0] | refine lss_a ?_ | refine lss_b ?_ | refine gtr_a ?_ | refine gtr_b ?_ | refine geq_a ?_ | refine geq_b ?_ | refine leq_a ?_ | refine leq_b ?_ | refine eql_a ?_ | refine eql_b ?_ | refine neq_a ?_ | refine neq_b ?_ | refine add_a ?_ | refine sub_a ?_ | refine ld_a ?_ | refine ldA_a ?_ | refine ldS_a ?_ | refine ldNS_a ?_ | refine rdA_s ?_ | refine rd1_s ?_ | refine drew_a fun w1 H1 => ?_ | refine st_a fun w1 H1 => ?_ | refine stA_a fun w1 H1 => ?_ | refine lenT_a ?_ | refine lenO_a ?_ | refine ixT_a ?_ | refine ixO_a ?_ | fail)
      exact ⟨by rw [decide_eq_true]; omega, H⟩
    · repeat (first | simp only [cI_enc, cE_enc, cN_enc, W0] | refine lss_a ?_ | refine lss_b ?_ | refine gtr_a ?_ | refine gtr_b ?_ | refine geq_a ?_ | refine geq_b ?_ | refine leq_a ?_ | refine leq_b ?_ | refine eql_a ?_ | refine eql_b ?_ | refine neq_a ?_ | refine neq_b ?_ | refine add_a ?_ | refine sub_a ?_ | refine ld_a ?_ | refine ldA_a ?_ | refine ldS_a ?_ | refine ldNS_a ?_ | refine rdA_s ?_ | refine rd1_s ?_ | refine drew_a fun w1 H1 => ?_ | refine st_a fun w1 H1 => ?_ | refine stA_a fun w1 H1 => ?_ | refine lenT_a ?_ | refine lenO_a ?_ | refine ixT_a ?_ | refine ixO_a ?_ | fail)
      exact ⟨by rw [decide_eq_false]; omega, H⟩
  · repeat (first | simp only [cI_enc, cE_enc, cN_enc, W0] | refine lss_a ?_ | refine lss_b ?_ | refine gtr_a ?_ | refine gtr_b ?_ | refine geq_a ?_ | refine geq_b ?_ | refine leq_a ?_ | refine leq_b ?_ | refine eql_a ?_ | refine eql_b ?_ | refine neq_a ?_ | refine neq_b ?_ | refine add_a ?_ | refine sub_a ?_ | refine ld_a ?_ | refine ldA_a ?_ | refine ldS_a ?_ | refine ldNS_a ?_ | refine rdA_s ?_ | refine rd1_s ?_ | refine drew_a fun w1 H1 => ?_ | refine st_a fun w1 H1 => ?_ | refine stA_a fun w1 H1 => ?_ | refine lenT_a ?_ | refine lenO_a ?_ | refine ixT_a ?_ | refine ixO_a ?_ | fail)
    exact ⟨by rw [decide_eq_false]; omega, H⟩
theorem From_spec (h1 : TR cI w0 cs sb base) (h2 : TR cE w0 cs2 se es) (H : Hp w0 w L) : Calls Pg 15 ⟨[.agg ⟨[sb, se]⟩]⟩ w fun x w' => x = .returned (.agg ⟨[sb, se]⟩) ∧ Hp w0 w' L := by
  apply F15_calls
  unfold F15
  refine bx_m H fun w b H => ?_
  refine al_m (ys := [.slice none 0 0, .slice none 0 0]) H (by kernel_rfl) fun w b2 H => ?_
  have s1 := h1.sc
  have s2 := h2.sc
  repeat (first | simp only [cI_enc, cE_enc, cN_enc, W0] | refine lss_a ?_ | refine lss_b ?_ | refine gtr_a ?_ | refine gtr_b ?_ | refine geq_a ?_ | refine geq_b ?_ | refine leq_a ?_ | refine leq_b ?_ | refine eql_a ?_ | refine eql_b ?_ | refine neq_a ?_ | refine neq_b ?_ | refine add_a ?_ | refine sub_a ?_ | refine ld_a ?_ | refine ldA_a ?_ | refine ldS_a ?_ | refine ldNS_a ?_ | refine rdA_s ?_ | refine rd1_s ?_ | refine drew_a fun w1 H1 => ?_ | refine st_a fun w1 H1 => ?_ | refine stA_a fun w1 H1 => ?_ | refine lenT_a ?_ | refine lenO_a ?_ | refine ixT_a ?_ | refine ixO_a ?_ | fail)
  refine pv_of (v := .agg ⟨[sb, se]⟩) ?_ ?_
  · obtain ⟨k1, rfl⟩ := h1.sh
    obtain ⟨k2, rfl⟩ := h2.sh
    rfl
  refine stA_m H (by exact updd) rfl rfl (by intro c hc; simp at hc; rcases hc with rfl | rfl <;> assumption) fun w H => ?_
  repeat (first | simp only [cI_enc, cE_enc, cN_enc, W0] | refine lss_a ?_ | refine lss_b ?_ | refine gtr_a ?_ | refine gtr_b ?_ | refine geq_a ?_ | refine geq_b ?_ | refine leq_a ?_ | refine leq_b ?_ | refine eql_a ?_ | refine eql_b ?_ | refine neq_a ?_ | refine neq_b ?_ | refine add_a ?_ | refine sub_a ?_ | refine ld_a ?_ | refine ldA_a ?_ | refine ldS_a ?_ | refine ldNS_a ?_ | refine rdA_s ?_ | refine rd1_s ?_ | refine drew_a fun w1 H1 => ?_ | refine st_a fun w1 H1 => ?_ | refine stA_a fun w1 H1 => ?_ | refine lenT_a ?_ | refine lenO_a ?_ | refine ixT_a ?_ | refine ixO_a ?_ | fail)
  exact ⟨(by first | rfl | trivial), H.tail.tail⟩
def fA : Nat → Int := fun v => if v = 0 then 0 else if v = 1 then 2 else 1
theorem isD_A : IsD [(1, 2), (2, 0)] 3 0 fA := by
  have p2 : PathN [(1, 2), (2, 0)] 1 2 0 := .succ (by simp) (.zero _)
  have p1 : PathN [(1, 2), (2, 0)] 2 1 0 := .succ (by simp) p2
  refine IsD.of (by intro e he; simp at he; rcases he with rfl | rfl <;> decide) (by decide) (by intro e he h0; simp at he; rcases he with rfl | rfl <;> decide) (fun v hv h0 => ?_) (fun v hv h0 => ?_)
  · have : v = 0 ∨ v = 1 ∨ v = 2 := by omega
    rcases this with rfl | rfl | rfl
    · exact ⟨0, by decide, .zero _⟩
    · exact ⟨2, by decide, p1⟩
    · exact ⟨1, by decide, p2⟩
  · have : v = 0 ∨ v = 1 ∨ v = 2 := by omega
    rcases this with rfl | rfl | rfl <;> exact absurd h0 (by decide)
theorem isEff_A : IsEff [10, 20, 5] [(1, 2), (2, 0)] [20, 20, 20] := by
  have r12 : Reach [(1, 2), (2, 0)] 1 2 := .step (.refl _) (by simp)
  have r10 : Reach [(1, 2), (2, 0)] 1 0 := .step r12 (by simp)
  refine ⟨rfl, fun i hi => ?_, by intro e he; simp at he; rcases he with rfl | rfl <;> decide, fun i hi => ?_⟩
  · have : i = 0 ∨ i = 1 ∨ i = 2 := by simp at hi; omega
    rcases this with rfl | rfl | rfl <;> decide
  · have : i = 0 ∨ i = 1 ∨ i = 2 := by simp at hi; omega
    rcases this with rfl | rfl | rfl
    · exact ⟨1, by decide, r10, by decide⟩
    · exact ⟨1, by decide, .refl _, by decide⟩
    · exact ⟨1, by decide, r12, by decide⟩
def fB : Nat → Int := fun v => if v = 0 then 0 else 1
def fB' : Nat → Int := fun v => if v = 1 then 0 else 1
theorem isD_B : IsD [(0, 1), (1, 0)] 2 0 fB := by
  refine IsD.of (by intro e he; simp at he; rcases he with rfl | rfl <;> decide) (by decide) (by intro e he h0; simp at he; rcases he with rfl | rfl <;> decide) (fun v hv h0 => ?_) (fun v hv h0 => ?_)
  · have : v = 0 ∨ v = 1 := by omega
    rcases this with rfl | rfl
    · exact ⟨0, by decide, .zero _⟩
    · exact ⟨1, by decide, .succ (by simp) (.zero _)⟩
  · have : v = 0 ∨ v = 1 := by omega
    rcases this with rfl | rfl <;> exact absurd h0 (by decide)
theorem isD_B' : IsD [(0, 1), (1, 0)] 2 1 fB' := by
  refine IsD.of (by intro e he; simp at he; rcases he with rfl | rfl <;> decide) (by decide) (by intro e he h0; simp at he; rcases he with rfl | rfl <;> decide) (fun v hv h0 => ?_) (fun v hv h0 => ?_)
  · have : v = 0 ∨ v = 1 := by omega
    rcases this with rfl | rfl
    · exact ⟨1, by decide, .succ (by simp) (.zero _)⟩
    · exact ⟨0, by decide, .zero _⟩
  · have : v = 0 ∨ v = 1 := by omega
    rcases this with rfl | rfl <;> exact absurd h0 (by decide)
theorem cyc_B : Cyc [(0, 1), (1, 0)] 2 0 2 := by
  have d0 : dst [(0, 1), (1, 0)] 0 1 = 1 := by rw [← isD_B.eq (by decide)]; decide
  have d1 : dst [(0, 1), (1, 0)] 1 0 = 1 := by rw [← isD_B'.eq (by decide)]; decide
  refine ⟨by decide, ⟨1, by simp, by rw [d0]; decide, by rw [d0]; decide⟩, fun u hu h he h0 => ?_⟩
  simp at he
  rcases he with ⟨rfl, rfl⟩ | ⟨rfl, rfl⟩
  · rw [d0]; decide
  · rw [d1]; decide
theorem awake_spec (H : Hp w0 w L) : Calls Pg 12 ⟨[]⟩ w fun x w' => x = .returned (.bool true) ∧ Hp w0 w' L := by
  apply F12_calls
  unfold F12
  refine lit_t (C := cI) [10, 20, 5] elI H rfl (by decide) (by decide) rfl fun w sb cb H hb => ?_
  refine pv_of (v := .agg ⟨[I 1, I 2]⟩) rfl ?_
  refine pv_of (v := .agg ⟨[I 2, I 0]⟩) rfl ?_
  refine lit_t (C := cE) [(1, 2), (2, 0)] elE H rfl (by decide) (by decide) rfl fun w se ce H he => ?_
  have s1 := hb.sc
  have s2 := he.sc
  refine pv_of (v := .agg ⟨[sb, se]⟩) ?_ ?_
  · obtain ⟨k1, rfl⟩ := hb.sh
    obtain ⟨k2, rfl⟩ := he.sh
    rfl
  refine al_m (ys := [.slice none 0 0, .slice none 0 0]) H (by kernel_rfl) fun w b H => ?_
  repeat (first | simp only [cI_enc, cE_enc, cN_enc, W0] | refine lss_a ?_ | refine lss_b ?_ | refine gtr_a ?_ | refine gtr_b ?_ | refine geq_a ?_ | refine geq_b ?_ | refine leq_a ?_ | refine leq_b ?_ | refine eql_a ?_ | refine eql_b ?_ | refine neq_a ?_ | refine neq_b ?_ | refine add_a ?_ | refine sub_a ?_ | refine ld_a ?_ | refine ldA_a ?_ | refine ldS_a ?_ | refine ldNS_a ?_ | refine rdA_s ?_ | refine rd1_s ?_ | refine drew_a fun w1 H1 => ?_ | refine st_a fun w1 H1 => ?_ | refine stA_a fun w1 H1 => ?_ | refine lenT_a ?_ | refine lenO_a ?_ | refine ixT_a ?_ | refine ixO_a ?_ | fail)
  refine cal_h (Effective_spec hb.tr he.tr (by assumption) csub csub) ?_
  have c0 : chk [10, 20, 5] [(1, 2), (2, 0)] = 0 := by decide
  rintro _ w (⟨h, _⟩ | ⟨_, so, co, out, rfl, H, ho, hio⟩)
  · exact absurd c0 h
  obtain rfl : out = [20, 20, 20] := hio.unique isEff_A fun e => Iff.rfl
  repeat (first | simp only [cI_enc, cE_enc, cN_enc, W0] | refine lss_a ?_ | refine lss_b ?_ | refine gtr_a ?_ | refine gtr_b ?_ | refine geq_a ?_ | refine geq_b ?_ | refine leq_a ?_ | refine leq_b ?_ | refine eql_a ?_ | refine eql_b ?_ | refine neq_a ?_ | refine neq_b ?_ | refine add_a ?_ | refine sub_a ?_ | refine ld_a ?_ | refine ldA_a ?_ | refine ldS_a ?_ | refine ldNS_a ?_ | refine rdA_s ?_ | refine rd1_s ?_ | refine drew_a fun w1 H1 => ?_ | refine st_a fun w1 H1 => ?_ | refine stA_a fun w1 H1 => ?_ | refine lenT_a ?_ | refine lenO_a ?_ | refine ixT_a ?_ | refine ixO_a ?_ | fail)
  refine cal_h (Reason_spec (t := 0) hb.tr he.tr (by assumption) csub csub) ?_
  rintro _ w (⟨h, _⟩ | ⟨_, h, _⟩ | ⟨_, n, hn, _, sr, cr, out, bb, rfl, H, hio, hDr, hbb, hr⟩)
  · exact absurd c0 h
  · exact absurd h (by decide)
  obtain rfl : n = 0 := by omega
  obtain rfl : out = [20, 20, 20] := hio.unique isEff_A fun e => Iff.rfl
  have hA : ∀ u, u < 3 → dst (([(1, 2), (2, 0)] : List (Int × Int)).map toN) 0 u = fA u := fun u hu => (isD_A.eq hu).symm
  have hb1 : bb = 1 := by
    have := hbb.lt
    have hok := hbb.ok
    have : bb = 0 ∨ bb = 1 ∨ bb = 2 := by simp at this; omega
    rcases this with rfl | rfl | rfl
    · exact absurd hok (by decide)
    · rfl
    · exact absurd hok (by decide)
  subst hb1
  have er : chainP (([(1, 2), (2, 0)] : List (Int × Int)).map toN) 3 (dst (([(1, 2), (2, 0)] : List (Int × Int)).map toN) 0) (dst (([(1, 2), (2, 0)] : List (Int × Int)).map toN) 0 1).toNat 1 = [1, 2, 0] := by
    rw [hA 1 (by decide), chainP_congr hA]; decide
  rw [show ([10, 20, 5] : List Int).length = 3 from rfl, er] at hr
  repeat (first | simp only [cI_enc, cE_enc, cN_enc, W0] | refine lss_a ?_ | refine lss_b ?_ | refine gtr_a ?_ | refine gtr_b ?_ | refine geq_a ?_ | refine geq_b ?_ | refine leq_a ?_ | refine leq_b ?_ | refine eql_a ?_ | refine eql_b ?_ | refine neq_a ?_ | refine neq_b ?_ | refine add_a ?_ | refine sub_a ?_ | refine ld_a ?_ | refine ldA_a ?_ | refine ldS_a ?_ | refine ldNS_a ?_ | refine rdA_s ?_ | refine rd1_s ?_ | refine drew_a fun w1 H1 => ?_ | refine st_a fun w1 H1 => ?_ | refine stA_a fun w1 H1 => ?_ | refine lenT_a ?_ | refine lenO_a ?_ | refine ixT_a ?_ | refine ixO_a ?_ | fail)
  refine lit_t (C := cI) [1, 2] elI H rfl (by decide) (by decide) rfl fun w sb2 cb2 H hb2 => ?_
  refine pv_of (v := .agg ⟨[I 0, I 1]⟩) rfl ?_
  refine pv_of (v := .agg ⟨[I 1, I 0]⟩) rfl ?_
  refine lit_t (C := cE) [(0, 1), (1, 0)] elE H rfl (by decide) (by decide) rfl fun w se2 ce2 H he2 => ?_
  refine pv_of (v := .agg ⟨[sb2, se2]⟩) ?_ ?_
  · obtain ⟨k1, rfl⟩ := hb2.sh
    obtain ⟨k2, rfl⟩ := he2.sh
    rfl
  refine cal_h (Cycle_spec hb2.tr he2.tr H csub csub) ?_
  have c1 : chk [1, 2] [(0, 1), (1, 0)] = 0 := by decide
  rintro _ w (⟨h, _⟩ | ⟨_, h, _⟩ | ⟨_, sc, cc, t, l, rfl, H, hcy, _, hc⟩)
  · exact absurd c1 h
  · obtain ⟨x, x1, _, x2⟩ := cyc_B.ex
    exact absurd x2 (h 0 (by decide) x x1)
  obtain ⟨rfl, rfl⟩ := hcy.unique cyc_B
  have hB : ∀ u, u < 2 → dst (([(0, 1), (1, 0)] : List (Int × Int)).map toN) 0 u = fB u := fun u hu => (isD_B.eq hu).symm
  have ec : chainP (([(0, 1), (1, 0)] : List (Int × Int)).map toN) 2 (dst (([(0, 1), (1, 0)] : List (Int × Int)).map toN) 0) 2 0 = [0, 1, 0] := by
    rw [chainP_congr hB]; decide
  rw [show ([1, 2] : List Int).length = 2 from rfl, ec] at hc
  repeat (first | simp only [cI_enc, cE_enc, cN_enc, W0] | refine lss_a ?_ | refine lss_b ?_ | refine gtr_a ?_ | refine gtr_b ?_ | refine geq_a ?_ | refine geq_b ?_ | refine leq_a ?_ | refine leq_b ?_ | refine eql_a ?_ | refine eql_b ?_ | refine neq_a ?_ | refine neq_b ?_ | refine add_a ?_ | refine sub_a ?_ | refine ld_a ?_ | refine ldA_a ?_ | refine ldS_a ?_ | refine ldNS_a ?_ | refine rdA_s ?_ | refine rd1_s ?_ | refine drew_a fun w1 H1 => ?_ | refine st_a fun w1 H1 => ?_ | refine stA_a fun w1 H1 => ?_ | refine lenT_a ?_ | refine lenO_a ?_ | refine ixT_a ?_ | refine ixO_a ?_ | fail)
  refine lit_t (C := cI) [20, 20, 20] elI H rfl (by decide) (by decide) rfl fun w sx cx H hx => ?_
  refine cal_h (Equal_spec ho.tr hx.tr H csub csub (by decide)) ?_
  rintro _ w ⟨rfl, H⟩
  rw [decide_eq_true rfl]
  repeat (first | simp only [cI_enc, cE_enc, cN_enc, W0] | refine lss_a ?_ | refine lss_b ?_ | refine gtr_a ?_ | refine gtr_b ?_ | refine geq_a ?_ | refine geq_b ?_ | refine leq_a ?_ | refine leq_b ?_ | refine eql_a ?_ | refine eql_b ?_ | refine neq_a ?_ | refine neq_b ?_ | refine add_a ?_ | refine sub_a ?_ | refine ld_a ?_ | refine ldA_a ?_ | refine ldS_a ?_ | refine ldNS_a ?_ | refine rdA_s ?_ | refine rd1_s ?_ | refine drew_a fun w1 H1 => ?_ | refine st_a fun w1 H1 => ?_ | refine stA_a fun w1 H1 => ?_ | refine lenT_a ?_ | refine lenO_a ?_ | refine ixT_a ?_ | refine ixO_a ?_ | fail)
  refine lit_t (C := cI) [1, 2, 0] elI H rfl (by decide) (by decide) rfl fun w sy cy H hy => ?_
  refine cal_h (Equal_spec (toI hr.tr) hy.tr H csub csub (by decide)) ?_
  rintro _ w ⟨rfl, H⟩
  rw [show (decide (([1, 2, 0] : List Nat).map (fun n : Nat => (n : Int)) = [1, 2, 0])) = true from by decide]
  repeat (first | simp only [cI_enc, cE_enc, cN_enc, W0] | refine lss_a ?_ | refine lss_b ?_ | refine gtr_a ?_ | refine gtr_b ?_ | refine geq_a ?_ | refine geq_b ?_ | refine leq_a ?_ | refine leq_b ?_ | refine eql_a ?_ | refine eql_b ?_ | refine neq_a ?_ | refine neq_b ?_ | refine add_a ?_ | refine sub_a ?_ | refine ld_a ?_ | refine ldA_a ?_ | refine ldS_a ?_ | refine ldNS_a ?_ | refine rdA_s ?_ | refine rd1_s ?_ | refine drew_a fun w1 H1 => ?_ | refine st_a fun w1 H1 => ?_ | refine stA_a fun w1 H1 => ?_ | refine lenT_a ?_ | refine lenO_a ?_ | refine ixT_a ?_ | refine ixO_a ?_ | fail)
  refine lit_t (C := cI) [0, 1, 0] elI H rfl (by decide) (by decide) rfl fun w sz cz H hz => ?_
  refine cal_h (Equal_spec (toI hc.tr) hz.tr H csub csub (by decide)) ?_
  rintro _ w ⟨rfl, H⟩
  rw [show (decide (([0, 1, 0] : List Nat).map (fun n : Nat => (n : Int)) = [0, 1, 0])) = true from by decide]
  repeat (first | simp only [cI_enc, cE_enc, cN_enc, W0] | refine lss_a ?_ | refine lss_b ?_ | refine gtr_a ?_ | refine gtr_b ?_ | refine geq_a ?_ | refine geq_b ?_ | refine leq_a ?_ | refine leq_b ?_ | refine eql_a ?_ | refine eql_b ?_ | refine neq_a ?_ | refine neq_b ?_ | refine add_a ?_ | refine sub_a ?_ | refine ld_a ?_ | refine ldA_a ?_ | refine ldS_a ?_ | refine ldNS_a ?_ | refine rdA_s ?_ | refine rd1_s ?_ | refine drew_a fun w1 H1 => ?_ | refine st_a fun w1 H1 => ?_ | refine stA_a fun w1 H1 => ?_ | refine lenT_a ?_ | refine lenO_a ?_ | refine ixT_a ?_ | refine ixO_a ?_ | fail)
  exact ⟨(by first | rfl | trivial), H.re⟩
end
end Go.Proofs.Ytagcifbfokneoaa.Den
